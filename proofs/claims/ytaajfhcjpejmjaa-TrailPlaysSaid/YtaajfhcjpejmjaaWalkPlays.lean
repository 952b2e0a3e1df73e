import Derived.Test.YtaajfhcjpejmjaaBisim
import Derived.Test.YtaajfhcjpejmjaaKept
import Derived.Test.YtaajfhcjpejmjaaRefWalk
import Derived.Test.YtaajfhcjpejmjaaWalkBacks
namespace Go.Proofs.Ytaajfhcjpejmjaa
open Go Go.Sy Go.RowKit
set_option linter.unusedVariables false
theorem rPlay_eq {F : PH} {A : Option Addr} {k c : Nat} {l : List Sh} {n : Int} {r : List Int} {m : Nat} {e : Int} (hr : playR n l = (r, m, e)) (hS : Slc shK F A k l) (hmax : k ≤ 140737488355328) :
    CallSp Try.prog 8 #[.int .i64 n, .slice A k c] F [] (fun u F' H' => ∃ A' k' c', u = .tuple #[.slice A' k' c', .int .i64 m, .int .i64 e] ∧ Slc (Kind.int .i64) F' A' k' r ∧ H' = [] ∧ k' ≤ 64) := by
  have h := rPlay_sp (c := c) (n := n) hS hmax
  rw [← (alike n l).1, hr] at h
  exact h
theorem Kept_eq {F : PH} {A : Option Addr} {k c : Nat} {l : List Sh} {n : Int} {p : Nat} {g : Int} (hr : keptR n l = (p, g)) (hS : Slc shK F A k l) (hmax : k ≤ 140737488355328) :
    CallSp Try.prog 9 #[.int .i64 n, .slice A k c] F [] (fun u F' H' => u = .tuple #[.int .i64 p, .int .i64 g] ∧ H' = []) := by
  have h := Kept_sp (c := c) (n := n) hS hmax
  rw [hr] at h
  exact h
theorem rKept_eq {F : PH} {A : Option Addr} {k c : Nat} {l : List Sh} {n : Int} {p : Nat} {g : Int} (hr : keptR n l = (p, g)) (hS : Slc shK F A k l) (hmax : k ≤ 140737488355328) :
    CallSp Try.prog 10 #[.int .i64 n, .slice A k c] F [] (fun u F' H' => u = .tuple #[.int .i64 p, .int .i64 g] ∧ H' = []) := by
  have h := rKept_sp (c := c) (n := n) hS hmax
  rw [← (alike n l).2, hr] at h
  exact h

theorem TrailPlays_sp {F : PH} {A : Option Addr} {k c : Nat} {l : List Sh} {n : Int} (hS : Slc shK F A k l) (hmax : k ≤ 140737488355328) :
    CallSp Try.prog 4 #[.int .i64 n, .slice A k c] F [] (fun u F' H' => u = .bool true ∧ H' = []) := by
  refine CallSp.enter (args := [.int .i64 n, .slice A k c]) Try.func4 rfl rfl ?_
  intro w0 m0 hm0
  have hlen := hS.1
  obtain ⟨ra, rk, re, hr1⟩ : ∃ r m e, playR n l = (r, m, e) := ⟨_, _, _, rfl⟩
  obtain ⟨kp, kg, hk1⟩ : ∃ p g, keptR n l = (p, g) := ⟨_, _, rfl⟩
  refine St.seq ?_
  refine St.region ?_
  refine St.val (v := (.bool false)) (Yields.assign rfl) trivial rfl rfl ?_
  refine St.nil ?_
  refine St.norm ?_
  refine St.seq ?_
  refine St.region ?_
  refine St.val (v := (.int .i64 n)) (Yields.move rfl) trivial rfl rfl ?_
  refine St.val (v := (.slice A k c)) (Yields.move rfl) trivial rfl rfl ?_
  refine St.call [] (Play_eq hr1 hS hmax) rfl (fun _ ha => ev2 ha rfl rfl) rfl en5 rfl rfl trivial ?_
  rintro _ F1 _ ⟨A1, k1, c1, rfl, hR1, rfl, hk1_⟩ hle1
  replace hS := Slc.mono hle1 hS
  refine St.val (v := (.tuple #[.slice A1 k1 c1, .int .i64 (rk : Int), .int .i64 re])) (Yields.move rfl) trivial rfl rfl ?_
  refine St.val (v := (.slice A1 k1 c1)) (Yields.extract rfl rfl) trivial rfl rfl ?_
  refine St.val (v := (.int .i64 (rk : Int))) (Yields.extract rfl rfl) trivial rfl rfl ?_
  refine St.val (v := (.int .i64 re)) (Yields.extract rfl rfl) trivial rfl rfl ?_
  refine St.val (v := (.slice A1 k1 c1)) (Yields.assign rfl) trivial rfl rfl ?_
  refine St.val (v := (.int .i64 (rk : Int))) (Yields.assign rfl) trivial rfl rfl ?_
  refine St.val (v := (.int .i64 re)) (Yields.assign rfl) trivial rfl rfl ?_
  refine St.nil ?_
  refine St.norm ?_
  refine St.seq ?_
  refine St.region ?_
  refine St.val (v := (.int .i64 n)) (Yields.move rfl) trivial rfl rfl ?_
  refine St.val (v := (.slice A k c)) (Yields.move rfl) trivial rfl rfl ?_
  refine St.call [] (rPlay_eq hr1 hS hmax) rfl (fun _ ha => ev2 ha rfl rfl) rfl en8 rfl rfl trivial ?_
  rintro _ F2 _ ⟨A2, k2, c2, rfl, hR2, rfl, hk2_⟩ hle2
  replace hS := Slc.mono hle2 hS
  replace hR1 := Slc.mono hle2 hR1
  refine St.val (v := (.tuple #[.slice A2 k2 c2, .int .i64 (rk : Int), .int .i64 re])) (Yields.move rfl) trivial rfl rfl ?_
  refine St.val (v := (.slice A2 k2 c2)) (Yields.extract rfl rfl) trivial rfl rfl ?_
  refine St.val (v := (.int .i64 (rk : Int))) (Yields.extract rfl rfl) trivial rfl rfl ?_
  refine St.val (v := (.int .i64 re)) (Yields.extract rfl rfl) trivial rfl rfl ?_
  refine St.val (v := (.slice A2 k2 c2)) (Yields.assign rfl) trivial rfl rfl ?_
  refine St.val (v := (.int .i64 (rk : Int))) (Yields.assign rfl) trivial rfl rfl ?_
  refine St.val (v := (.int .i64 re)) (Yields.assign rfl) trivial rfl rfl ?_
  refine St.nil ?_
  refine St.norm ?_
  refine St.seq ?_
  refine St.region ?_
  refine St.val (v := (.int .i64 n)) (Yields.move rfl) trivial rfl rfl ?_
  refine St.val (v := (.slice A k c)) (Yields.move rfl) trivial rfl rfl ?_
  refine St.call [] (Kept_eq hk1 hS hmax) rfl (fun _ ha => ev2 ha rfl rfl) rfl en9 rfl rfl trivial ?_
  rintro _ F3 _ ⟨rfl, rfl⟩ hle3
  replace hS := Slc.mono hle3 hS
  replace hR1 := Slc.mono hle3 hR1
  replace hR2 := Slc.mono hle3 hR2
  refine St.val (v := (.tuple #[.int .i64 (kp : Int), .int .i64 kg])) (Yields.move rfl) trivial rfl rfl ?_
  refine St.val (v := (.int .i64 (kp : Int))) (Yields.extract rfl rfl) trivial rfl rfl ?_
  refine St.val (v := (.int .i64 kg)) (Yields.extract rfl rfl) trivial rfl rfl ?_
  refine St.val (v := (.int .i64 (kp : Int))) (Yields.assign rfl) trivial rfl rfl ?_
  refine St.val (v := (.int .i64 kg)) (Yields.assign rfl) trivial rfl rfl ?_
  refine St.nil ?_
  refine St.norm ?_
  refine St.seq ?_
  refine St.region ?_
  refine St.val (v := (.int .i64 n)) (Yields.move rfl) trivial rfl rfl ?_
  refine St.val (v := (.slice A k c)) (Yields.move rfl) trivial rfl rfl ?_
  refine St.call [] (rKept_eq hk1 hS hmax) rfl (fun _ ha => ev2 ha rfl rfl) rfl en10 rfl rfl trivial ?_
  rintro _ F4 _ ⟨rfl, rfl⟩ hle4
  replace hS := Slc.mono hle4 hS
  replace hR1 := Slc.mono hle4 hR1
  replace hR2 := Slc.mono hle4 hR2
  refine St.val (v := (.tuple #[.int .i64 (kp : Int), .int .i64 kg])) (Yields.move rfl) trivial rfl rfl ?_
  refine St.val (v := (.int .i64 (kp : Int))) (Yields.extract rfl rfl) trivial rfl rfl ?_
  refine St.val (v := (.int .i64 kg)) (Yields.extract rfl rfl) trivial rfl rfl ?_
  refine St.val (v := (.int .i64 (kp : Int))) (Yields.assign rfl) trivial rfl rfl ?_
  refine St.val (v := (.int .i64 kg)) (Yields.assign rfl) trivial rfl rfl ?_
  refine St.nil ?_
  refine St.norm ?_
  refine St.seq ?_
  refine St.region ?_
  refine St.val (v := (.slice A1 k1 c1)) (Yields.move rfl) trivial rfl rfl ?_
  refine St.val (v := (.slice A2 k2 c2)) (Yields.move rfl) trivial rfl rfl ?_
  refine St.call [] (same_t rfl hR1 hR2 (by omega) (by omega)) rfl (fun _ ha => ev2 ha rfl rfl) rfl en7 rfl rfl trivial ?_
  rintro _ _F _ ⟨rfl, rfl, rfl⟩ hle5
  refine St.val (v := (.bool true)) (Yields.move rfl) trivial rfl rfl ?_
  refine St.val (v := (.int .i64 (rk : Int))) (Yields.move rfl) rfl rfl rfl ?_
  refine St.val (v := (.int .i64 (rk : Int))) (Yields.move rfl) rfl rfl rfl ?_
  refine St.val (v := (.bool true)) (Yields.is rfl (Yields.eq rfl rfl)) rfl rfl rfl ?_
  refine St.val (v := (.bool true)) (Yields.pick_t rfl rfl) trivial rfl rfl ?_
  refine St.val (v := (.bool true)) (Yields.move rfl) trivial rfl rfl ?_
  refine St.val (v := (.int .i64 re)) (Yields.move rfl) rfl rfl rfl ?_
  refine St.val (v := (.int .i64 re)) (Yields.move rfl) rfl rfl rfl ?_
  refine St.val (v := (.bool true)) (Yields.is rfl (Yields.eq rfl rfl)) rfl rfl rfl ?_
  refine St.val (v := (.bool true)) (Yields.pick_t rfl rfl) trivial rfl rfl ?_
  refine St.val (v := (.bool true)) (Yields.move rfl) trivial rfl rfl ?_
  refine St.val (v := (.int .i64 (kp : Int))) (Yields.move rfl) rfl rfl rfl ?_
  refine St.val (v := (.int .i64 (kp : Int))) (Yields.move rfl) rfl rfl rfl ?_
  refine St.val (v := (.bool true)) (Yields.is rfl (Yields.eq rfl rfl)) rfl rfl rfl ?_
  refine St.val (v := (.bool true)) (Yields.pick_t rfl rfl) trivial rfl rfl ?_
  refine St.val (v := (.bool true)) (Yields.move rfl) trivial rfl rfl ?_
  refine St.val (v := (.int .i64 kg)) (Yields.move rfl) rfl rfl rfl ?_
  refine St.val (v := (.int .i64 kg)) (Yields.move rfl) rfl rfl rfl ?_
  refine St.val (v := (.bool true)) (Yields.is rfl (Yields.eq rfl rfl)) rfl rfl rfl ?_
  refine St.val (v := (.bool true)) (Yields.pick_t rfl rfl) trivial rfl rfl ?_
  refine St.val (v := (.bool true)) (Yields.move rfl) trivial rfl rfl ?_
  refine St.call [] (known_sp) rfl (fun _ _ => ev0) rfl en6 rfl rfl rfl ?_
  rintro _ Fk6 _ ⟨rfl, rfl⟩ hle7
  replace hS := Slc.mono hle7 hS
  replace hR1 := Slc.mono hle7 hR1
  replace hR2 := Slc.mono hle7 hR2
  refine St.val (v := (.bool true)) (Yields.pick_t rfl rfl) trivial rfl rfl ?_
  refine St.val (v := (.bool true)) (Yields.assign rfl) trivial rfl rfl ?_
  refine St.nil ?_
  refine St.norm ?_
  refine St.ret ?_
  refine St.nilH ?_
  exact St.done1 rfl rfl ⟨rfl, rfl⟩

end Go.Proofs.Ytaajfhcjpejmjaa