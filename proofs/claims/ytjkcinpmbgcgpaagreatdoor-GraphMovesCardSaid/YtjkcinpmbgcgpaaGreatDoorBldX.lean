/- strings.Builder by contract: WriteString, Len, String. -/
import Derived.Test.YtjkcinpmbgcgpaaGreatDoorBldW
import Derived.Test.YtjkcinpmbgcgpaaGreatDoorLib
namespace Go.Proofs.YtjkcinpmbgcgpaaGreatDoor
open Go Go.Sy Go.RowKit Go.Mir
set_option linter.unusedVariables false
theorem byteVs_append (l s : List UInt8) : byteVs (l ++ s) = byteVs l ++ byteVs s := List.map_append
theorem ben67 : Enters Tryz.prog 77 := fun _ _ => by kernel_rfl
theorem bmix : Tryz.prog.follows .mixedOrders = true := by kernel_rfl
theorem x_bwrite_sp {F : PH} {g b : Nat} {l s r : List UInt8} (hm : x_bwrite g l s = some r) : CallSp Tryz.prog 49 #[.pointer (some ⟨b, 0, none⟩), .string (bs s)] F [bld b l] (fun u F' H' => u = .tuple #[.int .i64 s.length, .nilIface] ∧ H' = [bld b r]) := by
  unfold x_bwrite at hm
  by_cases h0 : 0 < s.length ∧ l.length + s.length ≤ 1000000000
  case neg => rw [if_neg h0] at hm; cases hm
  rw [if_pos h0] at hm
  cases hm
  refine CallSp.bld_open fun p A c hp => ?_
  refine CallSp.enter (args := [.pointer (some ⟨b, 0, none⟩), .string (bs s)]) Tryz.func49 rfl rfl ?_
  intro w0 m0 hm0
  refine St.seq ?_
  refine St.region ?_
  refine St.val (Yields.assign rfl) trivial rfl rfl ?_
  refine St.val (Yields.assign rfl) trivial rfl rfl ?_
  refine St.nil ?_
  refine St.norm ?_
  refine St.seq ?_
  refine St.region ?_
  refine St.val (Yields.move rfl) trivial rfl rfl ?_
  refine St.call [row A l.length c 5 1 (byteVs l)] (copy_sp hp) rfl (fun _ ha => ev1 ha rfl) rfl ben67 rfl rfl trivial ?_
  rintro _ _ _ ⟨rfl, rfl, rfl⟩ _
  refine St.nil ?_
  refine St.norm ?_
  refine St.seq ?_
  refine St.region ?_
  refine St.val (Yields.move rfl) trivial rfl rfl ?_
  refine St.val (Yields.move rfl) trivial rfl rfl ?_
  refine St.val (Yields.nilCheck rfl) trivial rfl rfl ?_
  refine St.val (v := .pointer (some ⟨b, 1, none⟩)) (Yields.fieldAddr rfl (fun _ => by kernel_rfl)) trivial rfl rfl ?_
  refine St.val (v := .slice A l.length c) (Yields.load rfl (Loads.H1 0 rfl btc64 rfl)) trivial rfl rfl ?_
  refine St.val (Yields.move rfl) trivial rfl rfl ?_
  refine St.appendS (R := [blk b (.cells #[.pointer (some ⟨b, 0, none⟩), .slice A l.length c] 115 (0, 0))]) (l := s) bts64 btu9 rfl rfl h0.1 (by unfold maxLen; omega) (by omega) 1 rfl rfl rfl trivial ?_
  intro A' c'
  refine St.val (Yields.nilCheck rfl) trivial rfl rfl ?_
  refine St.val (v := .pointer (some ⟨b, 1, none⟩)) (Yields.fieldAddr rfl (fun _ => by kernel_rfl)) trivial rfl rfl ?_
  refine St.store (R := [row A' (l.length + s.length) c' 5 1 (byteVs l ++ byteVs s)]) rfl rfl 1 rfl rfl btc64 rfl rfl trivial (cs' := #[.pointer (some ⟨b, 0, none⟩), .slice A' (l.length + s.length) c']) rfl ?_
  refine St.nil ?_
  refine St.norm ?_
  refine St.seq ?_
  refine St.region ?_
  refine St.val (Yields.move rfl) trivial rfl rfl ?_
  refine St.val (v := .int .i64 ((s.length : Nat) : Int)) (Yields.lenStr btu9 rfl) trivial rfl rfl ?_
  refine St.val (Yields.assign rfl) trivial rfl rfl ?_
  refine St.val (Yields.assign rfl) trivial rfl rfl ?_
  refine St.nil ?_
  refine St.norm ?_
  refine St.ret ?_
  refine St.doneR2 (H' := [bld b (l ++ s)]) rfl rfl rfl ⟨rfl, rfl⟩ fun w hs => ?_
  rw [← byteVs_append, ← List.length_append] at hs
  exact Sat.bld (.inr rfl) hs
section
variable {E : Env} {n : Nat} {L : List (Nat × Value)} {F : PH} {H R : List Chunk} {Q : Exit → Act → World → Prop} {ops : Array Oper} {rest : List Oper}
/-- The bytes of a row become a text: the row is frozen, and let go. -/
theorem St.unsafeStr {A : Option Addr} {c : Nat} {l : List UInt8} {d : Nat} {pos : String} {aft : Array Edge} {gd : Option (Nat × Bool)} {x y : Operand} (h0 : 0 < l.length) (h1 : l.length ≤ 1000000000) (hx : ev L x = some (.pointer A)) (hy : ev L y = some (.int .i64 ((l.length : Nat) : Int))) (i : Nat) (hi : H[i]? = some (row A l.length c 5 1 (byteVs l))) (hR : H.eraseIdx i = R)
    (hdn : Nat.blt d n = true) (hw : Wanted ops ⟨some d, .call ⟨.builtin .unsafeString, #[x, y], #[148, 3]⟩, 9, pos, aft, gd⟩ L)
    (h : St (wpList Tryz.prog ops Q rest) E n ((d, .string (bs l)) :: L) F R) : St (wpList Tryz.prog ops Q (⟨some d, .call ⟨.builtin .unsafeString, #[x, y], #[148, 3]⟩, 9, pos, aft, gd⟩ :: rest)) E n L F H :=
  St.act hw rfl hdn fun a w ha hs => by
    have hs1 : Sat E F (row A l.length c 5 1 (byteVs l) :: R) w := hs.perm (by subst hR; exact perm_erase i hi)
    obtain ⟨mm, ⟨m1, m2, ⟨hxl, hrow⟩, g2, g12, rfl⟩, hin', hd', hu'⟩ := hs1.mem
    rcases hrow with ⟨rfl, hk, rfl, _⟩ | ⟨g, cur, rfl, h2, h3, h4, h5, h6⟩
    · omega
    · have hs' : Sat E F (blk g (.cells cur 5 (0, 0)) :: R) w := hs1.mk' ⟨_, ⟨m1, m2, h6, g2, g12, rfl⟩, hin', hd', hu'⟩
      have hg := hs'.head
      have hrun := Lib.run_unsafeString_row (P := Tryz.prog) w 148 3 9 5 (show Tryz.prog.underlying 148 = some (.pointer 5) by kernel_rfl) (show Tryz.prog.cellsOf 5 = 1 by kernel_rfl) g cur.size (by simp [World.shape?, hg]) l (by intro h; subst h; simp at h0) (by omega) (by omega) (by
        intro j x hj
        rw [add_off, cell_of_block hg, Nat.zero_add]
        have hb : (byteVs l)[j]? = some (.int .u8 ((x.toNat : Nat) : Int)) := by simp [byteVs, hj]
        rw [← h5, List.getElem?_take] at hb
        split at hb
        · simpa using hb
        · cases hb)
      refine ⟨.string (bs l), w.freeze ⟨g, 0, none⟩ l.length, F, R, ?_, ?_, h⟩
      · simp only [execOp, resolve, ev2 ha hx hy, Sem.run_bind, Sem.run_pure, Result.andThen_ok, Go.invoke, Go.builtin, hrun]
        rfl
      · have hne : ¬ l.length = 0 := by omega
        refine (hs'.set (w' := w.freeze ⟨g, 0, none⟩ l.length) (o' := .cells cur 5 (0, 0 + l.length)) ?_ ?_ ?_ ?_ ?_ ?_).weaken
        · simp [World.freeze, hne]
        · simp [World.freeze, hne]
        · simp [World.freeze, hne]
        · simp [World.freeze, hne]
        · simp only [World.freeze, if_neg hne, Array.getElem?_modify, if_true, hg]
          rfl
        · intro k hk
          simp only [World.freeze, if_neg hne, Array.getElem?_modify]
          rw [if_neg (fun e => hk e.symm)]
end
theorem x_bstr_sp {F : PH} {g b : Nat} {l r : List UInt8} (hm : x_bstr g l = some r) : CallSp Tryz.prog 51 #[.pointer (some ⟨b, 0, none⟩)] F [bld b l] (fun u F' H' => u = .string (bs r) ∧ H' = []) := by
  unfold x_bstr at hm
  by_cases h0 : 0 < l.length ∧ l.length ≤ 1000000000
  case neg => rw [if_neg h0] at hm; cases hm
  rw [if_pos h0] at hm
  cases hm
  refine CallSp.bld_open fun p A c hp => ?_
  refine CallSp.enter (args := [.pointer (some ⟨b, 0, none⟩)]) Tryz.func51 rfl rfl ?_
  intro w0 m0 hm0
  refine St.seq ?_
  refine St.region ?_
  refine St.val (Yields.assign rfl) trivial rfl rfl ?_
  refine St.nil ?_
  refine St.norm ?_
  refine St.seq ?_
  intro a w ha hs
  obtain ⟨hA, hc⟩ : ∃ ad, A = some ad ∧ c ≠ 0 := by
    obtain ⟨mm, ⟨m1, m2, ⟨hxl, hrow⟩, g2, g12, rfl⟩, hin', hd', hu'⟩ := (hs.perm (List.Perm.swap _ _ _)).mem
    rcases hrow with ⟨rfl, hk, rfl, _⟩ | ⟨g, cur, rfl, h2, _⟩
    · omega
    · exact ⟨_, rfl, by omega⟩
  obtain ⟨rfl, hc⟩ := hc
  refine St.use (?_ : St _ _ _ _ _ _) ha hs
  clear ha hs a w
  refine StD.start [10] [blk b (.cells #[p, .slice (some hA) l.length c] 115 (0, 0)), row (some hA) l.length c 5 1 (byteVs l)] bmix ?_
  refine StD.takeP (i := 0) rfl (fun _ => Yields.move rfl) rfl rfl trivial (by rintro _ _ _ ⟨_, _, _, _, h, _⟩; cases h) (by kernel_rfl) (listed' := #[true, false, false, false, false, false, false, false, false, false, false, false]) rfl ?_
  refine StD.takeP (i := 1) rfl (fun _ => Yields.nilCheck rfl) rfl rfl trivial (by rintro _ _ _ ⟨_, _, _, _, h, _⟩; cases h) (by kernel_rfl) (listed' := #[true, true, false, false, false, false, false, false, false, false, false, false]) rfl ?_
  refine StD.takeP (i := 2) (v := .pointer (some ⟨b, 1, none⟩)) rfl (fun _ => Yields.fieldAddr rfl (fun _ => by kernel_rfl)) rfl rfl trivial (by rintro _ _ _ ⟨_, _, _, _, h, _⟩; cases h) (by kernel_rfl) (listed' := #[true, true, true, false, false, false, false, false, false, false, false, false]) rfl ?_
  refine StD.take [0, 1, 2, 5, 6, 7, 9, 11] (i := 3) (v := .slice (some hA) l.length c) rfl (Yields.load rfl (Loads.H1 0 rfl btc64 rfl)) rfl rfl trivial Among.refl (by rintro _ _ _ ⟨_, _, _, _, h, _⟩; cases h) (by kernel_rfl) (listed' := #[true, true, true, true, false, false, false, false, false, false, false, false]) rfl ?_
  refine StD.take [0, 1, 2, 5, 6, 7, 9, 11] (i := 4) (v := .pointer (some hA)) rfl (Yields.builtin (fun a ha => ev1 ha rfl) fun w hs => by simp only [Go.builtin, Sem.run_bind, Lib.run_unsafeSliceData_row w _ _ _ _ _ hc]; rfl) rfl rfl trivial Among.refl (by rintro _ _ _ ⟨_, _, _, _, h, _⟩; cases h) (by kernel_rfl) (listed' := #[true, true, true, true, true, false, false, false, false, false, false, false]) rfl ?_
  refine StD.takeP (i := 5) rfl (fun _ => Yields.move rfl) rfl rfl trivial (by rintro _ _ _ ⟨_, _, _, _, h, _⟩; cases h) (by kernel_rfl) (listed' := #[true, true, true, true, true, true, false, false, false, false, false, false]) rfl ?_
  refine StD.takeP (i := 6) rfl (fun _ => Yields.nilCheck rfl) rfl rfl trivial (by rintro _ _ _ ⟨_, _, _, _, h, _⟩; cases h) (by kernel_rfl) (listed' := #[true, true, true, true, true, true, true, false, false, false, false, false]) rfl ?_
  refine StD.takeP (i := 7) (v := .pointer (some ⟨b, 1, none⟩)) rfl (fun _ => Yields.fieldAddr rfl (fun _ => by kernel_rfl)) rfl rfl trivial (by rintro _ _ _ ⟨_, _, _, _, h, _⟩; cases h) (by kernel_rfl) (listed' := #[true, true, true, true, true, true, true, true, false, false, false, false]) rfl ?_
  refine StD.take [0, 1, 2, 5, 6, 7, 9, 11] (i := 8) (v := .slice (some hA) l.length c) rfl (Yields.load rfl (Loads.H1 0 rfl btc64 rfl)) rfl rfl trivial Among.refl (by rintro _ _ _ ⟨_, _, _, _, h, _⟩; cases h) (by kernel_rfl) (listed' := #[true, true, true, true, true, true, true, true, true, false, false, false]) rfl ?_
  refine StD.takeP (i := 9) (v := .int .i64 ((l.length : Nat) : Int)) rfl (fun _ => Yields.lenSlice btu64 rfl) rfl rfl trivial (by rintro _ _ _ ⟨_, _, _, _, h, _⟩; cases h) (by kernel_rfl) (listed' := #[true, true, true, true, true, true, true, true, true, true, false, false]) rfl ?_
  refine StD.only (i := 10) rfl (by kernel_rfl) (listed' := #[true, true, true, true, true, true, true, true, true, true, true, false]) rfl ?_
  intro hcl
  refine St.unsafeStr h0.1 h0.2 rfl rfl 1 rfl rfl rfl trivial ?_
  refine StD.next hcl (fun h => by cases h) ?_
  refine StD.takeP (i := 11) rfl (fun _ => Yields.assign rfl) rfl rfl trivial (by rintro _ _ _ ⟨_, _, _, _, h, _⟩; cases h) (by kernel_rfl) (listed' := #[true, true, true, true, true, true, true, true, true, true, true, true]) rfl ?_
  refine StD.done (by kernel_rfl) ?_
  refine St.norm ?_
  refine St.ret ?_
  exact St.doneR1 (H' := []) rfl rfl ⟨rfl, rfl⟩ fun w hs => hs.weaken
end Go.Proofs.YtjkcinpmbgcgpaaGreatDoor
