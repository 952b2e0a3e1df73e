import Derived.Test.YtaajfhcjpejmjaaRefDefs
namespace Go.Proofs.Ytaajfhcjpejmjaa
open Go Go.Sy Go.RowKit
set_option linter.unusedVariables false

theorem isShift_sp {F : PH} {x : Sh} {n : Int} :
    CallSp Try.prog 17 #[.agg #[.int .i64 x.k, .int .i64 x.a, .int .i64 x.v], .int .i64 n] F [] (fun u F' H' => u = .bool (okSh n x) ∧ F = F' ∧ H' = []) := by
  refine CallSp.enter (args := [.agg #[.int .i64 x.k, .int .i64 x.a, .int .i64 x.v], .int .i64 n]) Try.func17 rfl rfl ?_
  intro w0 m0 hm0
  refine St.seq ?_
  refine St.region ?_
  refine St.box rfl trivial rfl ?_
  intro b1
  refine St.val (v := (.bool false)) (Yields.assign rfl) trivial rfl rfl ?_
  refine St.nil ?_
  refine St.norm ?_
  refine St.seq ?_
  refine St.seq ?_
  refine St.region ?_
  refine St.val (v := (.pointer (some ⟨b1, 0, none⟩))) (Yields.fieldAddr (v := (.pointer (some ⟨b1, 0, none⟩))) rfl (fun _ => by kernel_rfl)) trivial rfl rfl ?_
  refine St.val (v := (.int .i64 x.k)) (Yields.load rfl (Loads.H1 0 rfl tc3 rfl)) trivial rfl rfl ?_
  by_cases q2 : x.k = 0
  · skip
    refine St.val (v := (.bool true)) (Yields.is q2 (Yields.eq rfl rfl)) trivial rfl rfl ?_
    refine St.nil ?_
    refine St.norm ?_
    refine St.cond_t rfl ?_
    refine St.seq ?_
    refine St.region ?_
    refine St.val (v := (.pointer (some ⟨b1, 1, none⟩))) (Yields.fieldAddr (v := (.pointer (some ⟨b1, 1, none⟩))) rfl (fun _ => by kernel_rfl)) trivial rfl rfl ?_
    refine St.val (v := (.int .i64 x.a)) (Yields.load rfl (Loads.H1 0 rfl tc3 rfl)) trivial rfl rfl ?_
    by_cases q3 : x.a ≥ 0
    · skip
      refine St.val (v := (.bool true)) (Yields.is q3 (Yields.ge rfl rfl)) trivial rfl rfl ?_
      refine St.val (v := (.bool true)) (Yields.move rfl) trivial rfl rfl ?_
      refine St.val (v := (.pointer (some ⟨b1, 1, none⟩))) (Yields.fieldAddr (v := (.pointer (some ⟨b1, 1, none⟩))) rfl (fun _ => by kernel_rfl)) rfl rfl rfl ?_
      refine St.val (v := (.int .i64 x.a)) (Yields.load rfl (Loads.H1 0 rfl tc3 rfl)) rfl rfl rfl ?_
      refine St.val (v := (.int .i64 n)) (Yields.move rfl) rfl rfl rfl ?_
      by_cases q4 : x.a < n
      · skip
        refine St.val (v := (.bool true)) (Yields.is q4 (Yields.lt rfl rfl)) rfl rfl rfl ?_
        refine St.val (v := (.bool true)) (Yields.pick_t rfl rfl) trivial rfl rfl ?_
        refine St.val (v := (.bool true)) (Yields.move rfl) trivial rfl rfl ?_
        refine St.val (v := (.pointer (some ⟨b1, 2, none⟩))) (Yields.fieldAddr (v := (.pointer (some ⟨b1, 2, none⟩))) rfl (fun _ => by kernel_rfl)) rfl rfl rfl ?_
        refine St.val (v := (.int .i64 x.v)) (Yields.load rfl (Loads.H1 0 rfl tc3 rfl)) rfl rfl rfl ?_
        by_cases q5 : x.v ≥ -1000000000
        · skip
          refine St.val (v := (.bool true)) (Yields.is q5 (Yields.ge rfl rfl)) rfl rfl rfl ?_
          refine St.val (v := (.bool true)) (Yields.pick_t rfl rfl) trivial rfl rfl ?_
          refine St.val (v := (.bool true)) (Yields.move rfl) trivial rfl rfl ?_
          refine St.val (v := (.pointer (some ⟨b1, 2, none⟩))) (Yields.fieldAddr (v := (.pointer (some ⟨b1, 2, none⟩))) rfl (fun _ => by kernel_rfl)) rfl rfl rfl ?_
          refine St.val (v := (.int .i64 x.v)) (Yields.load rfl (Loads.H1 0 rfl tc3 rfl)) rfl rfl rfl ?_
          by_cases q6 : x.v ≤ 1000000000
          · skip
            refine St.val (v := (.bool true)) (Yields.is q6 (Yields.le rfl rfl)) rfl rfl rfl ?_
            refine St.val (v := (.bool true)) (Yields.pick_t rfl rfl) trivial rfl rfl ?_
            refine St.val (v := (.bool true)) (Yields.assign rfl) trivial rfl rfl ?_
            refine St.nil ?_
            refine St.norm ?_
            refine St.ret ?_
            refine St.thenret ?_
            refine St.nilH ?_
            exact St.done1 rfl rfl ⟨by rw [okSh_t (by omega)], rfl, rfl⟩
          · skip
            refine St.val (v := (.bool false)) (Yields.isnt q6 (Yields.le rfl rfl)) rfl rfl rfl ?_
            refine St.val (v := (.bool false)) (Yields.pick_t rfl rfl) trivial rfl rfl ?_
            refine St.val (v := (.bool false)) (Yields.assign rfl) trivial rfl rfl ?_
            refine St.nil ?_
            refine St.norm ?_
            refine St.ret ?_
            refine St.thenret ?_
            refine St.nilH ?_
            exact St.done1 rfl rfl ⟨by rw [okSh_f (by omega)], rfl, rfl⟩
        · skip
          refine St.val (v := (.bool false)) (Yields.isnt q5 (Yields.ge rfl rfl)) rfl rfl rfl ?_
          refine St.val (v := (.bool false)) (Yields.pick_t rfl rfl) trivial rfl rfl ?_
          refine St.val (v := (.bool false)) (Yields.move rfl) trivial rfl rfl ?_
          refine St.unwanted rfl rfl rfl ?_
          refine St.unwanted rfl rfl rfl ?_
          refine St.unwanted rfl rfl rfl ?_
          refine St.val (v := (.bool false)) (Yields.pick_f rfl rfl) trivial rfl rfl ?_
          refine St.val (v := (.bool false)) (Yields.assign rfl) trivial rfl rfl ?_
          refine St.nil ?_
          refine St.norm ?_
          refine St.ret ?_
          refine St.thenret ?_
          refine St.nilH ?_
          exact St.done1 rfl rfl ⟨by rw [okSh_f (by omega)], rfl, rfl⟩
      · skip
        refine St.val (v := (.bool false)) (Yields.isnt q4 (Yields.lt rfl rfl)) rfl rfl rfl ?_
        refine St.val (v := (.bool false)) (Yields.pick_t rfl rfl) trivial rfl rfl ?_
        refine St.val (v := (.bool false)) (Yields.move rfl) trivial rfl rfl ?_
        refine St.unwanted rfl rfl rfl ?_
        refine St.unwanted rfl rfl rfl ?_
        refine St.unwanted rfl rfl rfl ?_
        refine St.val (v := (.bool false)) (Yields.pick_f rfl rfl) trivial rfl rfl ?_
        refine St.val (v := (.bool false)) (Yields.move rfl) trivial rfl rfl ?_
        refine St.unwanted rfl rfl rfl ?_
        refine St.unwanted rfl rfl rfl ?_
        refine St.unwanted rfl rfl rfl ?_
        refine St.val (v := (.bool false)) (Yields.pick_f rfl rfl) trivial rfl rfl ?_
        refine St.val (v := (.bool false)) (Yields.assign rfl) trivial rfl rfl ?_
        refine St.nil ?_
        refine St.norm ?_
        refine St.ret ?_
        refine St.thenret ?_
        refine St.nilH ?_
        exact St.done1 rfl rfl ⟨by rw [okSh_f (by omega)], rfl, rfl⟩
    · skip
      refine St.val (v := (.bool false)) (Yields.isnt q3 (Yields.ge rfl rfl)) trivial rfl rfl ?_
      refine St.val (v := (.bool false)) (Yields.move rfl) trivial rfl rfl ?_
      refine St.unwanted rfl rfl rfl ?_
      refine St.unwanted rfl rfl rfl ?_
      refine St.unwanted rfl rfl rfl ?_
      refine St.unwanted rfl rfl rfl ?_
      refine St.val (v := (.bool false)) (Yields.pick_f rfl rfl) trivial rfl rfl ?_
      refine St.val (v := (.bool false)) (Yields.move rfl) trivial rfl rfl ?_
      refine St.unwanted rfl rfl rfl ?_
      refine St.unwanted rfl rfl rfl ?_
      refine St.unwanted rfl rfl rfl ?_
      refine St.val (v := (.bool false)) (Yields.pick_f rfl rfl) trivial rfl rfl ?_
      refine St.val (v := (.bool false)) (Yields.move rfl) trivial rfl rfl ?_
      refine St.unwanted rfl rfl rfl ?_
      refine St.unwanted rfl rfl rfl ?_
      refine St.unwanted rfl rfl rfl ?_
      refine St.val (v := (.bool false)) (Yields.pick_f rfl rfl) trivial rfl rfl ?_
      refine St.val (v := (.bool false)) (Yields.assign rfl) trivial rfl rfl ?_
      refine St.nil ?_
      refine St.norm ?_
      refine St.ret ?_
      refine St.thenret ?_
      refine St.nilH ?_
      exact St.done1 rfl rfl ⟨by rw [okSh_f (by omega)], rfl, rfl⟩
  · skip
    refine St.val (v := (.bool false)) (Yields.isnt q2 (Yields.eq rfl rfl)) trivial rfl rfl ?_
    refine St.nil ?_
    refine St.norm ?_
    refine St.cond_f rfl ?_
    refine St.skip ?_
    refine St.norm ?_
    refine St.seq ?_
    refine St.region ?_
    refine St.val (v := (.pointer (some ⟨b1, 0, none⟩))) (Yields.fieldAddr (v := (.pointer (some ⟨b1, 0, none⟩))) rfl (fun _ => by kernel_rfl)) trivial rfl rfl ?_
    refine St.val (v := (.int .i64 x.k)) (Yields.load rfl (Loads.H1 0 rfl tc3 rfl)) trivial rfl rfl ?_
    by_cases q7 : x.k ≥ 1
    · skip
      refine St.val (v := (.bool true)) (Yields.is q7 (Yields.ge rfl rfl)) trivial rfl rfl ?_
      refine St.val (v := (.bool true)) (Yields.move rfl) trivial rfl rfl ?_
      refine St.val (v := (.pointer (some ⟨b1, 0, none⟩))) (Yields.fieldAddr (v := (.pointer (some ⟨b1, 0, none⟩))) rfl (fun _ => by kernel_rfl)) rfl rfl rfl ?_
      refine St.val (v := (.int .i64 x.k)) (Yields.load rfl (Loads.H1 0 rfl tc3 rfl)) rfl rfl rfl ?_
      by_cases q8 : x.k ≤ 4
      · skip
        refine St.val (v := (.bool true)) (Yields.is q8 (Yields.le rfl rfl)) rfl rfl rfl ?_
        refine St.val (v := (.bool true)) (Yields.pick_t rfl rfl) trivial rfl rfl ?_
        refine St.val (v := (.bool true)) (Yields.move rfl) trivial rfl rfl ?_
        refine St.val (v := (.pointer (some ⟨b1, 1, none⟩))) (Yields.fieldAddr (v := (.pointer (some ⟨b1, 1, none⟩))) rfl (fun _ => by kernel_rfl)) rfl rfl rfl ?_
        refine St.val (v := (.int .i64 x.a)) (Yields.load rfl (Loads.H1 0 rfl tc3 rfl)) rfl rfl rfl ?_
        by_cases q9 : x.a = 0
        · skip
          refine St.val (v := (.bool true)) (Yields.is q9 (Yields.eq rfl rfl)) rfl rfl rfl ?_
          refine St.val (v := (.bool true)) (Yields.pick_t rfl rfl) trivial rfl rfl ?_
          refine St.val (v := (.bool true)) (Yields.move rfl) trivial rfl rfl ?_
          refine St.val (v := (.pointer (some ⟨b1, 2, none⟩))) (Yields.fieldAddr (v := (.pointer (some ⟨b1, 2, none⟩))) rfl (fun _ => by kernel_rfl)) rfl rfl rfl ?_
          refine St.val (v := (.int .i64 x.v)) (Yields.load rfl (Loads.H1 0 rfl tc3 rfl)) rfl rfl rfl ?_
          by_cases q10 : x.v = 0
          · skip
            refine St.val (v := (.bool true)) (Yields.is q10 (Yields.eq rfl rfl)) rfl rfl rfl ?_
            refine St.val (v := (.bool true)) (Yields.pick_t rfl rfl) trivial rfl rfl ?_
            refine St.val (v := (.bool true)) (Yields.assign rfl) trivial rfl rfl ?_
            refine St.nil ?_
            refine St.norm ?_
            refine St.ret ?_
            refine St.nilH ?_
            exact St.done1 rfl rfl ⟨by rw [okSh_t (by omega)], rfl, rfl⟩
          · skip
            refine St.val (v := (.bool false)) (Yields.isnt q10 (Yields.eq rfl rfl)) rfl rfl rfl ?_
            refine St.val (v := (.bool false)) (Yields.pick_t rfl rfl) trivial rfl rfl ?_
            refine St.val (v := (.bool false)) (Yields.assign rfl) trivial rfl rfl ?_
            refine St.nil ?_
            refine St.norm ?_
            refine St.ret ?_
            refine St.nilH ?_
            exact St.done1 rfl rfl ⟨by rw [okSh_f (by omega)], rfl, rfl⟩
        · skip
          refine St.val (v := (.bool false)) (Yields.isnt q9 (Yields.eq rfl rfl)) rfl rfl rfl ?_
          refine St.val (v := (.bool false)) (Yields.pick_t rfl rfl) trivial rfl rfl ?_
          refine St.val (v := (.bool false)) (Yields.move rfl) trivial rfl rfl ?_
          refine St.unwanted rfl rfl rfl ?_
          refine St.unwanted rfl rfl rfl ?_
          refine St.unwanted rfl rfl rfl ?_
          refine St.val (v := (.bool false)) (Yields.pick_f rfl rfl) trivial rfl rfl ?_
          refine St.val (v := (.bool false)) (Yields.assign rfl) trivial rfl rfl ?_
          refine St.nil ?_
          refine St.norm ?_
          refine St.ret ?_
          refine St.nilH ?_
          exact St.done1 rfl rfl ⟨by rw [okSh_f (by omega)], rfl, rfl⟩
      · skip
        refine St.val (v := (.bool false)) (Yields.isnt q8 (Yields.le rfl rfl)) rfl rfl rfl ?_
        refine St.val (v := (.bool false)) (Yields.pick_t rfl rfl) trivial rfl rfl ?_
        refine St.val (v := (.bool false)) (Yields.move rfl) trivial rfl rfl ?_
        refine St.unwanted rfl rfl rfl ?_
        refine St.unwanted rfl rfl rfl ?_
        refine St.unwanted rfl rfl rfl ?_
        refine St.val (v := (.bool false)) (Yields.pick_f rfl rfl) trivial rfl rfl ?_
        refine St.val (v := (.bool false)) (Yields.move rfl) trivial rfl rfl ?_
        refine St.unwanted rfl rfl rfl ?_
        refine St.unwanted rfl rfl rfl ?_
        refine St.unwanted rfl rfl rfl ?_
        refine St.val (v := (.bool false)) (Yields.pick_f rfl rfl) trivial rfl rfl ?_
        refine St.val (v := (.bool false)) (Yields.assign rfl) trivial rfl rfl ?_
        refine St.nil ?_
        refine St.norm ?_
        refine St.ret ?_
        refine St.nilH ?_
        exact St.done1 rfl rfl ⟨by rw [okSh_f (by omega)], rfl, rfl⟩
    · skip
      refine St.val (v := (.bool false)) (Yields.isnt q7 (Yields.ge rfl rfl)) trivial rfl rfl ?_
      refine St.val (v := (.bool false)) (Yields.move rfl) trivial rfl rfl ?_
      refine St.unwanted rfl rfl rfl ?_
      refine St.unwanted rfl rfl rfl ?_
      refine St.unwanted rfl rfl rfl ?_
      refine St.val (v := (.bool false)) (Yields.pick_f rfl rfl) trivial rfl rfl ?_
      refine St.val (v := (.bool false)) (Yields.move rfl) trivial rfl rfl ?_
      refine St.unwanted rfl rfl rfl ?_
      refine St.unwanted rfl rfl rfl ?_
      refine St.unwanted rfl rfl rfl ?_
      refine St.val (v := (.bool false)) (Yields.pick_f rfl rfl) trivial rfl rfl ?_
      refine St.val (v := (.bool false)) (Yields.move rfl) trivial rfl rfl ?_
      refine St.unwanted rfl rfl rfl ?_
      refine St.unwanted rfl rfl rfl ?_
      refine St.unwanted rfl rfl rfl ?_
      refine St.val (v := (.bool false)) (Yields.pick_f rfl rfl) trivial rfl rfl ?_
      refine St.val (v := (.bool false)) (Yields.assign rfl) trivial rfl rfl ?_
      refine St.nil ?_
      refine St.norm ?_
      refine St.ret ?_
      refine St.nilH ?_
      exact St.done1 rfl rfl ⟨by rw [okSh_f (by omega)], rfl, rfl⟩

theorem played_sp {F : PH} {A0 : Option Addr} {k c0 : Nat} {l : List Sh} {n : Int} (hS : Slc shK F A0 k l) (hmax : k ≤ 140737488355328) :
    CallSp Try.prog 12 #[.int .i64 n, .slice A0 k c0] F [] (fun u F' H' => (shErr n l ≠ 0 ∧ u = .tuple #[.slice none 0 0, .slice none 0 0, .int .i64 (shErr n l)] ∧ H' = []) ∨ (shErr n l = 0 ∧ rplays n.toNat l (rstart n.toNat) = none ∧ u = .tuple #[.slice none 0 0, .slice none 0 0, .int .i64 11] ∧ H' = []) ∨ (shErr n l = 0 ∧ ∃ s b A c mcells C, rplays n.toNat l (rstart n.toNat) = some s ∧ RWF n.toNat s ∧ s.ms.length ≤ 400 ∧ u = .tuple #[.slice (some ⟨b, 0, none⟩) n.toNat n.toNat, .slice A s.ms.length c, .int .i64 0] ∧ H' = [row (some ⟨b, 0, none⟩) n.toNat n.toNat 3 1 (ints s.cells), row A s.ms.length c 53 2 mcells, Sep C] ∧ MC n.toNat F' mcells C s.ms)) := by
  refine CallSp.enter (args := [.int .i64 n, .slice A0 k c0]) Try.func12 rfl rfl ?_
  intro w0 m0 hm0
  have hlen := hS.1
  refine St.seq ?_
  refine St.region ?_
  refine St.val (v := (.slice none 0 0)) (Yields.assign rfl) trivial rfl rfl ?_
  refine St.val (v := (.slice none 0 0)) (Yields.assign rfl) trivial rfl rfl ?_
  refine St.val (v := (.int .i64 0)) (Yields.assign rfl) trivial rfl rfl ?_
  refine St.nil ?_
  refine St.norm ?_
  refine St.seq ?_
  refine St.seq ?_
  refine St.region ?_
  refine St.val (v := (.int .i64 n)) (Yields.move rfl) trivial rfl rfl ?_
  by_cases q1 : n < 1
  · skip
    refine St.val (v := (.bool true)) (Yields.is q1 (Yields.lt rfl rfl)) trivial rfl rfl ?_
    refine St.val (v := (.bool true)) (Yields.move rfl) trivial rfl rfl ?_
    refine St.unwanted rfl rfl rfl ?_
    refine St.unwanted rfl rfl rfl ?_
    refine St.val (v := (.bool true)) (Yields.pick_t rfl rfl) trivial rfl rfl ?_
    refine St.nil ?_
    refine St.norm ?_
    refine St.cond_t rfl ?_
    refine St.seq ?_
    refine St.region ?_
    refine St.val (v := (.slice none 0 0)) (Yields.assign rfl) trivial rfl rfl ?_
    refine St.val (v := (.slice none 0 0)) (Yields.assign rfl) trivial rfl rfl ?_
    refine St.val (v := (.int .i64 1)) (Yields.assign rfl) trivial rfl rfl ?_
    refine St.nil ?_
    refine St.norm ?_
    refine St.ret ?_
    refine St.thenret ?_
    refine St.nilH ?_
    have h9 : shErr n l = 1 := by unfold shErr okn; rw [decide_eq_false (by omega)]; rfl
    exact St.done3 rfl rfl rfl rfl (.inl ⟨by omega, by rw [h9], rfl⟩)
  · skip
    refine St.val (v := (.bool false)) (Yields.isnt q1 (Yields.lt rfl rfl)) trivial rfl rfl ?_
    refine St.val (v := (.bool false)) (Yields.move rfl) trivial rfl rfl ?_
    refine St.val (v := (.int .i64 n)) (Yields.move rfl) rfl rfl rfl ?_
    by_cases q2 : n > 64
    · skip
      refine St.val (v := (.bool true)) (Yields.is q2 (Yields.gt rfl rfl)) rfl rfl rfl ?_
      refine St.val (v := (.bool true)) (Yields.pick_f rfl rfl) trivial rfl rfl ?_
      refine St.nil ?_
      refine St.norm ?_
      refine St.cond_t rfl ?_
      refine St.seq ?_
      refine St.region ?_
      refine St.val (v := (.slice none 0 0)) (Yields.assign rfl) trivial rfl rfl ?_
      refine St.val (v := (.slice none 0 0)) (Yields.assign rfl) trivial rfl rfl ?_
      refine St.val (v := (.int .i64 1)) (Yields.assign rfl) trivial rfl rfl ?_
      refine St.nil ?_
      refine St.norm ?_
      refine St.ret ?_
      refine St.thenret ?_
      refine St.nilH ?_
      have h9 : shErr n l = 1 := by unfold shErr okn; rw [decide_eq_false (by omega)]; rfl
      exact St.done3 rfl rfl rfl rfl (.inl ⟨by omega, by rw [h9], rfl⟩)
    · skip
      refine St.val (v := (.bool false)) (Yields.isnt q2 (Yields.gt rfl rfl)) rfl rfl rfl ?_
      refine St.val (v := (.bool false)) (Yields.pick_f rfl rfl) trivial rfl rfl ?_
      refine St.nil ?_
      refine St.norm ?_
      refine St.cond_f rfl ?_
      refine St.skip ?_
      refine St.norm ?_
      refine St.seq ?_
      refine St.seq ?_
      refine St.region ?_
      refine St.val (v := (.int .i64 0)) (Yields.assign rfl) trivial rfl rfl ?_
      refine St.nil ?_
      refine St.norm ?_
      refine St.block ?_
      have hokn : okn n = true := by unfold okn; exact decide_eq_true (by omega)
      refine St.loop (fun kk a w => ∃ i : Nat, kk = k - i ∧ i ≤ k ∧ (l.take i).all (okSh n) = true ∧ Has Try.f12.ntmps a [(0, .int .i64 n), (1, .slice A0 k c0), (7, .int .i64 (i : Int))] ∧ Sat ⟨w0, fun b => m0 b ≠ none, F⟩ F [] w) k ?_ ?_
      · intro a w ha hs
        exact ⟨0, by omega, by omega, rfl, ha.covers ⟨rfl, rfl, rfl, trivial⟩, hs⟩
      · rintro kk a w ⟨i, hkk, hik, hall, ha, hs⟩
        refine St.use (?_ : St _ _ _ _ _ _) ha hs
        clear ha hs a w
        by_cases hi : (i : Int) < (k : Int)
        · skip
          obtain ⟨x3, hx6⟩ : ∃ x, l[i]? = some x := ⟨_, List.getElem?_eq_getElem (by omega)⟩
          obtain ⟨ad4, cs5, hA7, hK8, hc9⟩ := hS.get hx6
          subst hA7
          obtain rfl : cs5 = shV x3 := hK8
          obtain ⟨p10, hp11⟩ : ∃ p, ad4.add (i * 3) = p := ⟨_, rfl⟩
          have hc9 : ∀ j v, ([.int .i64 x3.k, .int .i64 x3.a, .int .i64 x3.v] : List Value)[j]? = some v → PH.cell? F (p10.add j) = some v := by rw [← hp11]; exact hc9
          refine St.seq ?_
          refine St.seq ?_
          refine St.region ?_
          refine St.val (v := (.int .i64 (i : Int))) (Yields.move rfl) trivial rfl rfl ?_
          refine St.val (v := (.slice (some ad4) k c0)) (Yields.move rfl) trivial rfl rfl ?_
          refine St.val (v := (.int .i64 (k : Int))) (Yields.lenSlice tu22 rfl) trivial rfl rfl ?_
          refine St.val (v := (.bool true)) (Yields.is hi (Yields.lt rfl rfl)) trivial rfl rfl ?_
          refine St.nil ?_
          refine St.norm ?_
          refine St.cond_t rfl ?_
          refine St.skip ?_
          refine St.norm ?_
          refine St.seq ?_
          refine St.block ?_
          refine St.seq ?_
          refine St.region ?_
          refine St.val (v := (.slice (some ad4) k c0)) (Yields.move rfl) trivial rfl rfl ?_
          refine St.val (v := (.int .i64 (i : Int))) (Yields.move rfl) trivial rfl rfl ?_
          refine St.val (v := (.pointer (some p10))) (Yields.indexAddr (p := p10) ts22 rfl rfl (by omega) (by omega) (by rw [← hp11]; first | rfl | (congr 1; omega))) trivial rfl rfl ?_
          refine St.val (v := (.agg #[.int .i64 x3.k, .int .i64 x3.a, .int .i64 x3.v])) (Yields.load rfl (Loads.Fatn0 hc9 ta29)) trivial rfl rfl ?_
          refine St.val (v := (.int .i64 n)) (Yields.move rfl) trivial rfl rfl ?_
          refine St.call [] (isShift_sp (x := x3) (n := n)) rfl (fun _ ha => ev2 ha rfl rfl) rfl en17 rfl rfl trivial ?_
          rintro _ _F _ ⟨rfl, rfl, rfl⟩ hle12
          refine St.val (v := (.bool (!(okSh n x3)))) (Yields.not rfl) trivial rfl rfl ?_
          refine St.nil ?_
          refine St.norm ?_
          by_cases hb13 : okSh n x3 = true
          · skip
            refine St.cond_f (by rw [hb13]; rfl) ?_
            refine St.skip ?_
            refine St.innorm ?_
            refine St.norm ?_
            refine St.region ?_
            refine St.val (v := (.int .i64 (i : Int))) (Yields.move rfl) trivial rfl rfl ?_
            refine St.val (v := (.int .i64 ((i : Int) + 1))) (Yields.add rfl rfl (by omega) (by omega)) trivial rfl rfl ?_
            refine St.val (v := (.int .i64 ((i : Int) + 1))) (Yields.assign rfl) trivial rfl rfl ?_
            refine St.nil ?_
            refine St.norm ?_
            intro a w ha hs
            exact ⟨k - (i + 1), by omega, i + 1, rfl, by omega, by rw [all_snoc hx6, hall, hb13]; rfl, ha.covers ⟨rfl, rfl, rfl, trivial⟩, hs⟩
          · skip
            replace hb13 : okSh n x3 = false := by revert hb13; cases okSh n x3 <;> simp
            refine St.cond_t (by rw [hb13]; rfl) ?_
            refine St.seq ?_
            refine St.region ?_
            refine St.val (v := (.slice none 0 0)) (Yields.assign rfl) trivial rfl rfl ?_
            refine St.val (v := (.slice none 0 0)) (Yields.assign rfl) trivial rfl rfl ?_
            refine St.val (v := (.int .i64 1)) (Yields.assign rfl) trivial rfl rfl ?_
            refine St.nil ?_
            refine St.norm ?_
            refine St.ret ?_
            refine St.inret ?_
            refine St.thenret ?_
            refine St.thenret ?_
            refine St.inret ?_
            refine St.thenret ?_
            refine St.nilH ?_
            have h9 : shErr n l = 1 := by unfold shErr; rw [if_pos]; rw [Bool.and_eq_false_iff]; exact .inr (List.all_eq_false.2 ⟨_, List.mem_of_getElem? hx6, by rw [hb13]; simp⟩)
            exact St.done3 rfl rfl rfl rfl (.inl ⟨by omega, by rw [h9], rfl⟩)
        · skip
          rw [List.take_of_length_le (by omega)] at hall
          refine St.seq ?_
          refine St.seq ?_
          refine St.region ?_
          refine St.val (v := (.int .i64 (i : Int))) (Yields.move rfl) trivial rfl rfl ?_
          refine St.val (v := (.slice A0 k c0)) (Yields.move rfl) trivial rfl rfl ?_
          refine St.val (v := (.int .i64 (k : Int))) (Yields.lenSlice tu22 rfl) trivial rfl rfl ?_
          refine St.val (v := (.bool false)) (Yields.isnt hi (Yields.lt rfl rfl)) trivial rfl rfl ?_
          refine St.nil ?_
          refine St.norm ?_
          refine St.cond_f rfl ?_
          refine St.exit ?_
          refine St.thenexit ?_
          refine St.thenexit ?_
          refine St.inexit ?_
          refine St.norm ?_
          refine St.seq ?_
          refine St.seq ?_
          refine St.region ?_
          refine St.val (v := (.slice A0 k c0)) (Yields.move rfl) trivial rfl rfl ?_
          refine St.val (v := (.int .i64 (k : Int))) (Yields.lenSlice tu22 rfl) trivial rfl rfl ?_
          by_cases q14 : (k : Int) > 400
          · skip
            refine St.val (v := (.bool true)) (Yields.is q14 (Yields.gt rfl rfl)) trivial rfl rfl ?_
            refine St.nil ?_
            refine St.norm ?_
            refine St.cond_t rfl ?_
            refine St.seq ?_
            refine St.region ?_
            refine St.val (v := (.slice none 0 0)) (Yields.assign rfl) trivial rfl rfl ?_
            refine St.val (v := (.slice none 0 0)) (Yields.assign rfl) trivial rfl rfl ?_
            refine St.val (v := (.int .i64 3)) (Yields.assign rfl) trivial rfl rfl ?_
            refine St.nil ?_
            refine St.norm ?_
            refine St.ret ?_
            refine St.thenret ?_
            refine St.nilH ?_
            have h9 : shErr n l = 3 := by unfold shErr; rw [hokn, hall]; rw [if_neg (by decide), if_pos (by omega)]
            exact St.done3 rfl rfl rfl rfl (.inl ⟨by omega, by rw [h9], rfl⟩)
          · skip
            refine St.val (v := (.bool false)) (Yields.isnt q14 (Yields.gt rfl rfl)) trivial rfl rfl ?_
            refine St.nil ?_
            refine St.norm ?_
            refine St.cond_f rfl ?_
            refine St.skip ?_
            refine St.norm ?_
            refine St.seq ?_
            refine St.region ?_
            refine St.val (v := (.int .i64 n)) (Yields.move rfl) trivial rfl rfl ?_
            refine St.make1 ts23 tz3 rfl rfl rfl (by omega) (by omega) (by omega) rfl rfl trivial ?_
            intro b15
            refine St.val (v := (.slice (some ⟨b15, 0, none⟩) n.toNat n.toNat)) (Yields.assign rfl) trivial rfl rfl ?_
            refine St.nil ?_
            refine St.norm ?_
            refine St.seq ?_
            refine St.region ?_
            refine St.val (v := (.slice none 0 0)) (Yields.assign rfl) trivial rfl rfl ?_
            refine St.nil ?_
            refine St.norm ?_
            refine St.seq ?_
            refine St.seq ?_
            refine St.region ?_
            refine St.val (v := (.int .i64 0)) (Yields.assign rfl) trivial rfl rfl ?_
            refine St.nil ?_
            refine St.norm ?_
            refine St.block ?_
            have hok0 : shErr n l = 0 := by unfold shErr; rw [hokn, hall]; rw [if_neg (by decide), if_neg (by omega)]
            obtain ⟨hn1, hn2, hl4, hok⟩ := shErr_zero hok0
            refine St.row_new 53 2 ?_
            refine St.star_new ?_
            refine St.loop (fun kk a w => ∃ (i q : Nat) (s : RS) (A : Option Addr) (c : Nat) (mcells : List Value) (C : List Chunk) (F1 : PH), kk = k - i ∧ i ≤ k ∧ s.ms.length = q ∧ q ≤ i ∧ rplays n.toNat l (rstart n.toNat) = rplays n.toNat (l.drop i) s ∧ RWF n.toNat s ∧ PH.le F F1 ∧ MC n.toNat F1 mcells C s.ms ∧ Has Try.f12.ntmps a [(0, .int .i64 n), (1, .slice A0 k c0), (8, .slice (some ⟨b15, 0, none⟩) n.toNat n.toNat), (9, .slice A q c), (10, .int .i64 (i : Int))] ∧ Sat ⟨w0, fun b => m0 b ≠ none, F⟩ F1 [row (some ⟨b15, 0, none⟩) n.toNat n.toNat 3 1 (ints s.cells), row A q c 53 2 mcells, Sep C] w) k ?_ ?_
            · intro a w ha hs
              refine ⟨0, 0, rstart n.toNat, none, 0, [], [], F, by omega, by omega, rfl, by omega, rfl, RWF.start _, PH.le_refl _, ⟨rfl, rfl⟩, ha.covers ⟨rfl, rfl, rfl, rfl, rfl, trivial⟩, ?_⟩
              have h1 : ints (rstart n.toNat).cells = List.replicate n.toNat (.int .i64 0) := ints_replicate _
              rw [h1]
              exact (Among.of (Among.take 2 rfl rfl (Among.take 1 rfl rfl (Among.take 0 rfl rfl Among.none))) _ hs)
            · rintro kk a w ⟨i, q, s, A, c, mcells, C, F1, hkk, hik, hq, hqi, hp, hwf, hle, hMC, ha, hs⟩
              refine St.use (?_ : St _ _ _ _ _ _) ha hs
              clear ha hs a w
              replace hS := hS.mono hle
              by_cases hi : (i : Int) < (k : Int)
              · skip
                obtain ⟨x16, hx19⟩ : ∃ x, l[i]? = some x := ⟨_, List.getElem?_eq_getElem (by omega)⟩
                obtain ⟨ad17, cs18, hA20, hK21, hc22⟩ := hS.get hx19
                subst hA20
                obtain rfl : cs18 = shV x16 := hK21
                obtain ⟨p23, hp24⟩ : ∃ p, ad17.add (i * 3) = p := ⟨_, rfl⟩
                have hc22 : ∀ j v, ([.int .i64 x16.k, .int .i64 x16.a, .int .i64 x16.v] : List Value)[j]? = some v → PH.cell? F1 (p23.add j) = some v := by rw [← hp24]; exact hc22
                have hokx := hok _ (List.mem_of_getElem? hx19)
                rw [rplays_drop hx19] at hp
                have hwf2 := hwf.step x16
                have hsl := rstep_len n.toNat s x16
                have hkx := okSh_cases hokx
                have hcl := hwf.len
                obtain ⟨scells, sms⟩ := s
                simp only at hcl hq hMC
                rcases sms with _ | ⟨m, r⟩
                · skip
                  obtain rfl : q = 0 := hq.symm
                  obtain ⟨rfl, rfl⟩ := hMC
                  refine St.seq ?_
                  refine St.seq ?_
                  refine St.region ?_
                  refine St.val (v := (.int .i64 (i : Int))) (Yields.move rfl) trivial rfl rfl ?_
                  refine St.val (v := (.slice (some ad17) k c0)) (Yields.move rfl) trivial rfl rfl ?_
                  refine St.val (v := (.int .i64 (k : Int))) (Yields.lenSlice tu22 rfl) trivial rfl rfl ?_
                  refine St.val (v := (.bool true)) (Yields.is hi (Yields.lt rfl rfl)) trivial rfl rfl ?_
                  refine St.nil ?_
                  refine St.norm ?_
                  refine St.cond_t rfl ?_
                  refine St.skip ?_
                  refine St.norm ?_
                  refine St.seq ?_
                  refine St.block ?_
                  refine St.seq ?_
                  refine St.region ?_
                  refine St.val (v := (.slice (some ad17) k c0)) (Yields.move rfl) trivial rfl rfl ?_
                  refine St.val (v := (.int .i64 (i : Int))) (Yields.move rfl) trivial rfl rfl ?_
                  refine St.val (v := (.pointer (some p23))) (Yields.indexAddr (p := p23) ts22 rfl rfl (by omega) (by omega) (by rw [← hp24]; first | rfl | (congr 1; omega))) trivial rfl rfl ?_
                  refine St.val (v := (.agg #[.int .i64 x16.k, .int .i64 x16.a, .int .i64 x16.v])) (Yields.load rfl (Loads.Fatn0 hc22 ta29)) trivial rfl rfl ?_
                  refine St.alloc tz29 trivial rfl ?_
                  intro b25
                  refine St.storen (R := [row (some ⟨b15, 0, none⟩) n.toNat n.toNat 3 1 (ints scells), row A 0 c 53 2 [], Sep []]) rfl rfl 0 rfl rfl ta29 rfl rfl rfl trivial (cs' := #[.int .i64 x16.k, .int .i64 x16.a, .int .i64 x16.v]) rfl ?_
                  refine St.nil ?_
                  refine St.norm ?_
                  refine St.seq ?_
                  refine St.region ?_
                  refine St.val (v := (.slice A 0 c)) (Yields.move rfl) trivial rfl rfl ?_
                  refine St.val (v := (.int .i64 0)) (Yields.lenSlice tu41 rfl) trivial rfl rfl ?_
                  refine St.val (v := (.int .i64 (0 - 1))) (Yields.sub rfl rfl (by omega) (by omega)) trivial rfl rfl ?_
                  refine St.val (v := (.int .i64 (0 - 1))) (Yields.assign rfl) trivial rfl rfl ?_
                  refine St.nil ?_
                  refine St.norm ?_
                  refine St.seq ?_
                  refine St.seq ?_
                  refine St.region ?_
                  refine St.val (v := (.pointer (some ⟨b25, 0, none⟩))) (Yields.fieldAddr (v := (.pointer (some ⟨b25, 0, none⟩))) rfl (fun _ => by kernel_rfl)) trivial rfl rfl ?_
                  refine St.val (v := (.int .i64 x16.k)) (Yields.load rfl (Loads.H1 0 rfl tc3 rfl)) trivial rfl rfl ?_
                  by_cases q26 : x16.k ≥ 2
                  · skip
                    refine St.val (v := (.bool true)) (Yields.is q26 (Yields.ge rfl rfl)) trivial rfl rfl ?_
                    refine St.val (v := (.bool true)) (Yields.move rfl) trivial rfl rfl ?_
                    refine St.val (v := (.int .i64 (0 - 1))) (Yields.move rfl) rfl rfl rfl ?_
                    refine St.val (v := (.bool true)) (Yields.is (by omega) (Yields.lt rfl rfl)) rfl rfl rfl ?_
                    refine St.val (v := (.bool true)) (Yields.pick_t rfl rfl) trivial rfl rfl ?_
                    refine St.nil ?_
                    refine St.norm ?_
                    refine St.cond_t rfl ?_
                    refine St.seq ?_
                    refine St.region ?_
                    refine St.val (v := (.slice none 0 0)) (Yields.assign rfl) trivial rfl rfl ?_
                    refine St.val (v := (.slice none 0 0)) (Yields.assign rfl) trivial rfl rfl ?_
                    refine St.val (v := (.int .i64 11)) (Yields.assign rfl) trivial rfl rfl ?_
                    refine St.nil ?_
                    refine St.norm ?_
                    refine St.ret ?_
                    refine St.thenret ?_
                    refine St.inret ?_
                    refine St.thenret ?_
                    refine St.thenret ?_
                    refine St.inret ?_
                    refine St.thenret ?_
                    refine St.nilH ?_
                    exact St.done3 rfl rfl rfl rfl (.inr (.inl ⟨hok0, by rw [hp, if_pos ⟨by omega, rfl⟩], rfl, rfl⟩))
                  · skip
                    refine St.val (v := (.bool false)) (Yields.isnt q26 (Yields.ge rfl rfl)) trivial rfl rfl ?_
                    refine St.val (v := (.bool false)) (Yields.move rfl) trivial rfl rfl ?_
                    refine St.unwanted rfl rfl rfl ?_
                    refine St.unwanted rfl rfl rfl ?_
                    refine St.val (v := (.bool false)) (Yields.pick_f rfl rfl) trivial rfl rfl ?_
                    refine St.nil ?_
                    refine St.norm ?_
                    refine St.cond_f rfl ?_
                    refine St.skip ?_
                    refine St.norm ?_
                    refine St.seq ?_
                    refine St.region ?_
                    refine St.val (v := (.pointer (some ⟨b25, 0, none⟩))) (Yields.fieldAddr (v := (.pointer (some ⟨b25, 0, none⟩))) rfl (fun _ => by kernel_rfl)) trivial rfl rfl ?_
                    refine St.val (v := (.int .i64 x16.k)) (Yields.load rfl (Loads.H1 0 rfl tc3 rfl)) trivial rfl rfl ?_
                    refine St.nil ?_
                    refine St.norm ?_
                    refine St.block ?_
                    refine St.seq ?_
                    refine St.region ?_
                    by_cases q27 : x16.k = 0
                    · skip
                      refine St.val (v := (.bool true)) (Yields.is q27 (Yields.eq rfl rfl)) trivial rfl rfl ?_
                      refine St.val (v := (.bool true)) (Yields.assign rfl) trivial rfl rfl ?_
                      refine St.nil ?_
                      refine St.norm ?_
                      refine St.cond_t rfl ?_
                      refine St.seq ?_
                      refine St.region ?_
                      refine St.val (v := (.slice (some ⟨b15, 0, none⟩) n.toNat n.toNat)) (Yields.move rfl) trivial rfl rfl ?_
                      refine St.val (v := (.pointer (some ⟨b25, 1, none⟩))) (Yields.fieldAddr (v := (.pointer (some ⟨b25, 1, none⟩))) rfl (fun _ => by kernel_rfl)) trivial rfl rfl ?_
                      refine St.val (v := (.int .i64 x16.a)) (Yields.load rfl (Loads.H1 0 rfl tc3 rfl)) trivial rfl rfl ?_
                      refine St.val (v := (.pointer (some ⟨b25, 2, none⟩))) (Yields.fieldAddr (v := (.pointer (some ⟨b25, 2, none⟩))) rfl (fun _ => by kernel_rfl)) trivial rfl rfl ?_
                      refine St.val (v := (.int .i64 x16.v)) (Yields.load rfl (Loads.H1 0 rfl tc3 rfl)) trivial rfl rfl ?_
                      refine St.val (v := (.pointer (some ⟨b15, x16.a.toNat, none⟩))) (Yields.indexAddr ts23 rfl rfl (by omega) (by omega) (p := ⟨b15, x16.a.toNat, none⟩) (by rw [add_off]; simp)) trivial rfl rfl ?_
                      refine St.store_row (R := [blk b25 (.cells #[.int .i64 x16.k, .int .i64 x16.a, .int .i64 x16.v] 29 (0, 0)), row A 0 c 53 2 [], Sep []]) rfl rfl 1 rfl rfl tc3 rfl (by rw [ints_length]; omega) trivial ?_
                      refine St.nil ?_
                      refine St.norm ?_
                      refine St.seq ?_
                      refine St.region ?_
                      refine St.val (v := (.int .i64 (0 - 1))) (Yields.move rfl) trivial rfl rfl ?_
                      refine St.val (v := (.bool false)) (Yields.isnt (by omega) (Yields.ge rfl rfl)) trivial rfl rfl ?_
                      refine St.nil ?_
                      refine St.norm ?_
                      refine St.cond_f rfl ?_
                      refine St.skip ?_
                      refine St.innorm ?_
                      refine St.innorm ?_
                      refine St.norm ?_
                      refine St.region ?_
                      refine St.val (v := (.int .i64 (i : Int))) (Yields.move rfl) trivial rfl rfl ?_
                      refine St.val (v := (.int .i64 ((i : Int) + 1))) (Yields.add rfl rfl (by omega) (by omega)) trivial rfl rfl ?_
                      refine St.val (v := (.int .i64 ((i : Int) + 1))) (Yields.assign rfl) trivial rfl rfl ?_
                      refine St.nil ?_
                      refine St.norm ?_
                      rw [← ints_set]
                      have hst : RS.step n.toNat ⟨scells, []⟩ x16 = ⟨scells.set x16.a.toNat x16.v, []⟩ := by unfold RS.step; rw [if_pos q27]; rfl
                      rw [if_neg (by simp; try omega), hst] at hp
                      rw [hst] at hwf2 hsl
                      intro a w ha hs
                      exact ⟨k - (i + 1), by omega, i + 1, 0, ⟨scells.set x16.a.toNat x16.v, []⟩, A, c, [], [], F1, rfl, by omega, by first | (simp; done) | (simp; omega) | omega, by omega, hp, hwf2, hle, ⟨rfl, rfl⟩, ha.covers ⟨rfl, rfl, rfl, rfl, rfl, trivial⟩, (Among.of (Among.take 0 rfl rfl (Among.take 1 rfl rfl (Among.take 1 rfl rfl Among.none))) _ hs)⟩
                    · skip
                      refine St.val (v := (.bool false)) (Yields.isnt q27 (Yields.eq rfl rfl)) trivial rfl rfl ?_
                      refine St.val (v := (.bool false)) (Yields.assign rfl) trivial rfl rfl ?_
                      refine St.nil ?_
                      refine St.norm ?_
                      refine St.cond_f rfl ?_
                      refine St.seq ?_
                      refine St.region ?_
                      refine St.val (v := (.bool true)) (Yields.is (by omega) (Yields.eq rfl rfl)) trivial rfl rfl ?_
                      refine St.val (v := (.bool true)) (Yields.assign rfl) trivial rfl rfl ?_
                      refine St.nil ?_
                      refine St.norm ?_
                      refine St.cond_t rfl ?_
                      refine StD.start [] [blk b25 (.cells #[.int .i64 x16.k, .int .i64 x16.a, .int .i64 x16.v] 29 (0, 0)), row (some ⟨b15, 0, none⟩) n.toNat n.toNat 3 1 (ints scells), Sep []] hmix ?_
                      refine StD.take (i := 0) (v := (.slice A 0 c)) rfl (Yields.move rfl) rfl rfl trivial (Among.of (Among.take 0 rfl rfl (Among.take 0 rfl rfl (Among.take 1 rfl rfl Among.none)))) (by rintro _ _ _ ⟨_, _, _, _, h, _⟩; cases h) (by kernel_rfl) (listed' := #[true, false, false, false, false, false, false, false, false]) rfl ?_
                      refine StD.take (i := 1) (v := (.slice (some ⟨b15, 0, none⟩) n.toNat n.toNat)) rfl (Yields.move rfl) rfl rfl trivial (Among.of (Among.take 0 rfl rfl (Among.take 0 rfl rfl (Among.take 1 rfl rfl Among.none)))) (by rintro _ _ _ ⟨_, _, _, _, h, _⟩; cases h) (by kernel_rfl) (listed' := #[true, true, false, false, false, false, false, false, false]) rfl ?_
                      refine StD.take (i := 3) (v := (.int .i64 n)) rfl (Yields.move rfl) rfl rfl trivial (Among.of (Among.take 0 rfl rfl (Among.take 0 rfl rfl (Among.take 1 rfl rfl Among.none)))) (by rintro _ _ _ ⟨_, _, _, _, h, _⟩; cases h) (by kernel_rfl) (listed' := #[true, true, false, true, false, false, false, false, false]) rfl ?_
                      refine StD.two (i := 2) (j := 4) rfl rfl (by kernel_rfl) (l1 := #[true, true, true, true, false, false, false, false, false]) (l2 := #[true, true, false, true, true, false, false, false, false]) rfl rfl ?_ ?_
                      · intro hcl28
                        refine St.row_new 3 1 ?_
                        refine St.append_row (R := [blk b25 (.cells #[.int .i64 x16.k, .int .i64 x16.a, .int .i64 x16.v] 29 (0, 0)), row (some ⟨b15, 0, none⟩) n.toNat n.toNat 3 1 (ints scells), row A 0 c 53 2 [], Sep []]) ts23 rfl rfl rfl 0 rfl rfl 2 rfl (by decide) (by omega) rfl (ints_one _) rfl trivial ?_
                        intro A29 c30
                        refine StD.next hcl28 (fun _ => (Among.of (Among.take 1 rfl rfl (Among.take 1 rfl rfl (Among.take 2 rfl rfl Among.none))))) ?_
                        refine StD.only (i := 4) rfl (by kernel_rfl) (listed' := #[true, true, true, true, true, false, false, false, false]) rfl ?_
                        intro hcl31
                        refine St.make1 ts51 tz4 rfl rfl rfl (by omega) (by omega) (by omega) rfl rfl trivial ?_
                        intro b32
                        refine StD.next hcl31 (fun _ => (Among.of (Among.take 2 rfl rfl (Among.take 2 rfl rfl (Among.take 3 rfl rfl Among.none))))) ?_
                        refine StD.take (i := 5) (v := (.agg #[.slice A29 (0 + n.toNat) c30, .slice (some ⟨b32, 0, none⟩) n.toNat n.toNat])) rfl (Yields.build (v := (.agg #[.slice A29 (0 + n.toNat) c30, .slice (some ⟨b32, 0, none⟩) n.toNat n.toNat])) (vs := #[(0, .slice A29 (0 + n.toNat) c30), (1, .slice (some ⟨b32, 0, none⟩) n.toNat n.toNat)]) (fun _ ha => evp2 ha rfl rfl) (fun _ => by kernel_rfl)) rfl rfl trivial (Among.of (Among.take 2 rfl rfl (Among.take 2 rfl rfl (Among.take 3 rfl rfl Among.none)))) (by rintro _ _ _ ⟨_, _, _, _, h, _⟩; cases h) (by kernel_rfl) (listed' := #[true, true, true, true, true, true, false, false, false]) rfl ?_
                        refine StD.only (i := 6) rfl (by kernel_rfl) (listed' := #[true, true, true, true, true, true, true, false, false]) rfl ?_
                        intro hcl33
                        refine St.buildSlice (e := 53) (cells := #[.slice A29 (0 + n.toNat) c30, .slice (some ⟨b32, 0, none⟩) n.toNat n.toNat]) (vs := #[(0, .agg #[.slice A29 (0 + n.toNat) c30, .slice (some ⟨b32, 0, none⟩) n.toNat n.toNat])]) (fun _ ha => evp1 ha rfl) (fun _ => by kernel_rfl) rfl trivial ?_
                        intro b34
                        refine StD.next hcl33 (fun _ => (Among.of (Among.take 3 rfl rfl (Among.take 3 rfl rfl (Among.take 4 rfl rfl Among.none))))) ?_
                        refine StD.only (i := 7) rfl (by kernel_rfl) (listed' := #[true, true, true, true, true, true, true, true, false]) rfl ?_
                        intro hcl35
                        refine St.append_lit (R := [blk b34 (.cells #[.slice A29 (0 + n.toNat) c30, .slice (some ⟨b32, 0, none⟩) n.toNat n.toNat] 53 (0, 0)), row (some ⟨b32, 0, none⟩) n.toNat n.toNat 4 1 (List.replicate n.toNat (.bool false)), row A29 (0 + n.toNat) c30 3 1 ([] ++ (ints scells)), blk b25 (.cells #[.int .i64 x16.k, .int .i64 x16.a, .int .i64 x16.v] 29 (0, 0)), row (some ⟨b15, 0, none⟩) n.toNat n.toNat 3 1 (ints scells), Sep []]) ts41 rfl rfl rfl 5 rfl rfl 0 rfl rfl rfl (by omega) rfl rfl trivial ?_
                        intro A36 c37
                        refine St.pick (R := [row A36 (0 + 1) c37 53 2 ([] ++ [.slice A29 (0 + n.toNat) c30, .slice (some ⟨b32, 0, none⟩) n.toNat n.toNat]), row (some ⟨b32, 0, none⟩) n.toNat n.toNat 4 1 (List.replicate n.toNat (.bool false)), row A29 (0 + n.toNat) c30 3 1 ([] ++ (ints scells)), blk b25 (.cells #[.int .i64 x16.k, .int .i64 x16.a, .int .i64 x16.v] 29 (0, 0)), row (some ⟨b15, 0, none⟩) n.toNat n.toNat 3 1 (ints scells), Sep []]) 1 rfl rfl ?_
                        refine St.drop ?_
                        refine StD.next hcl35 (fun _ => (Among.of (Among.take 3 rfl rfl (Among.take 3 rfl rfl (Among.take 3 rfl rfl Among.none))))) ?_
                        refine StD.take (i := 8) (v := (.slice A36 (0 + 1) c37)) rfl (Yields.assign rfl) rfl rfl trivial (Among.of (Among.take 3 rfl rfl (Among.take 3 rfl rfl (Among.take 3 rfl rfl Among.none)))) (by rintro _ _ _ ⟨_, _, _, _, h, _⟩; cases h) (by kernel_rfl) (listed' := #[true, true, true, true, true, true, true, true, true]) rfl ?_
                        refine StD.done (by kernel_rfl) ?_
                        refine St.innorm ?_
                        refine St.innorm ?_
                        refine St.norm ?_
                        refine St.region ?_
                        refine St.val (v := (.int .i64 (i : Int))) (Yields.move rfl) trivial rfl rfl ?_
                        refine St.val (v := (.int .i64 ((i : Int) + 1))) (Yields.add rfl rfl (by omega) (by omega)) trivial rfl rfl ?_
                        refine St.val (v := (.int .i64 ((i : Int) + 1))) (Yields.assign rfl) trivial rfl rfl ?_
                        refine St.nil ?_
                        refine St.norm ?_
                        rw [Nat.zero_add n.toNat, List.nil_append (ints scells), ← bools_replicate]
                        refine St.row_facts 2 rfl ?_
                        intro _ hcN _
                        refine St.freeze_row (R := [row A36 (0 + 1) c37 53 2 ([] ++ [.slice A29 n.toNat c30, .slice (some ⟨b32, 0, none⟩) n.toNat n.toNat]), row (some ⟨b32, 0, none⟩) n.toNat n.toNat 4 1 (bools (List.replicate n.toNat false)), blk b25 (.cells #[.int .i64 x16.k, .int .i64 x16.a, .int .i64 x16.v] 29 (0, 0)), row (some ⟨b15, 0, none⟩) n.toNat n.toNat 3 1 (ints scells), Sep []]) (D := Kind.int .i64) (xs := scells) 2 rfl rfl rfl hcl (ints_cat _) ?_
                        intro F2 hle2 hB2
                        replace hS := Slc.mono hle2 hS
                        replace hc22 := fun j v e => PH.cell?_le hle2 (hc22 j v e)
                        refine St.pick (R := [row A36 (0 + 1) c37 53 2 ([] ++ [.slice A29 n.toNat c30, .slice (some ⟨b32, 0, none⟩) n.toNat n.toNat]), row (some ⟨b32, 0, none⟩) n.toNat n.toNat 4 1 (bools (List.replicate n.toNat false)), blk b25 (.cells #[.int .i64 x16.k, .int .i64 x16.a, .int .i64 x16.v] 29 (0, 0)), row (some ⟨b15, 0, none⟩) n.toNat n.toNat 3 1 (ints scells)]) 4 rfl rfl ?_
                        refine St.pick (R := [Sep [], row A36 (0 + 1) c37 53 2 ([] ++ [.slice A29 n.toNat c30, .slice (some ⟨b32, 0, none⟩) n.toNat n.toNat]), blk b25 (.cells #[.int .i64 x16.k, .int .i64 x16.a, .int .i64 x16.v] 29 (0, 0)), row (some ⟨b15, 0, none⟩) n.toNat n.toNat 3 1 (ints scells)]) 2 rfl rfl ?_
                        refine St.star_in ?_
                        have hst : RS.step n.toNat ⟨scells, []⟩ x16 = ⟨scells, ⟨scells, List.replicate n.toNat false⟩ :: []⟩ := by unfold RS.step; rw [if_neg (by omega), if_pos (by omega)]
                        rw [if_neg (by simp; try omega), hst] at hp
                        rw [hst] at hwf2 hsl
                        intro a w ha hs
                        exact ⟨k - (i + 1), by omega, i + 1, 0 + 1, ⟨scells, ⟨scells, List.replicate n.toNat false⟩ :: []⟩, A36, c37, _, _, F2, rfl, by omega, by first | (simp; done) | (simp; omega) | omega, by omega, hp, hwf2, (PH.le_trans hle hle2), ⟨_, _, _, _, _, _, rfl, rfl, hB2, hcN, ⟨rfl, rfl⟩⟩, ha.covers ⟨rfl, rfl, rfl, rfl, rfl, trivial⟩, (Among.of (Among.take 3 rfl rfl (Among.take 1 rfl rfl (Among.take 0 rfl rfl Among.none))) _ hs)⟩
                      · intro hcl38
                        refine St.make1 ts51 tz4 rfl rfl rfl (by omega) (by omega) (by omega) rfl rfl trivial ?_
                        intro b39
                        refine StD.next hcl38 (fun _ => (Among.of (Among.take 1 rfl rfl (Among.take 1 rfl rfl (Among.take 2 rfl rfl Among.none))))) ?_
                        refine StD.only (i := 2) rfl (by kernel_rfl) (listed' := #[true, true, true, true, true, false, false, false, false]) rfl ?_
                        intro hcl40
                        refine St.row_new 3 1 ?_
                        refine St.append_row (R := [row (some ⟨b39, 0, none⟩) n.toNat n.toNat 4 1 (List.replicate n.toNat (.bool false)), blk b25 (.cells #[.int .i64 x16.k, .int .i64 x16.a, .int .i64 x16.v] 29 (0, 0)), row (some ⟨b15, 0, none⟩) n.toNat n.toNat 3 1 (ints scells), row A 0 c 53 2 [], Sep []]) ts23 rfl rfl rfl 0 rfl rfl 3 rfl (by decide) (by omega) rfl (ints_one _) rfl trivial ?_
                        intro A41 c42
                        refine StD.next hcl40 (fun _ => (Among.of (Among.take 2 rfl rfl (Among.take 2 rfl rfl (Among.take 3 rfl rfl Among.none))))) ?_
                        refine StD.take (i := 5) (v := (.agg #[.slice A41 (0 + n.toNat) c42, .slice (some ⟨b39, 0, none⟩) n.toNat n.toNat])) rfl (Yields.build (v := (.agg #[.slice A41 (0 + n.toNat) c42, .slice (some ⟨b39, 0, none⟩) n.toNat n.toNat])) (vs := #[(0, .slice A41 (0 + n.toNat) c42), (1, .slice (some ⟨b39, 0, none⟩) n.toNat n.toNat)]) (fun _ ha => evp2 ha rfl rfl) (fun _ => by kernel_rfl)) rfl rfl trivial (Among.of (Among.take 2 rfl rfl (Among.take 2 rfl rfl (Among.take 3 rfl rfl Among.none)))) (by rintro _ _ _ ⟨_, _, _, _, h, _⟩; cases h) (by kernel_rfl) (listed' := #[true, true, true, true, true, true, false, false, false]) rfl ?_
                        refine StD.only (i := 6) rfl (by kernel_rfl) (listed' := #[true, true, true, true, true, true, true, false, false]) rfl ?_
                        intro hcl43
                        refine St.buildSlice (e := 53) (cells := #[.slice A41 (0 + n.toNat) c42, .slice (some ⟨b39, 0, none⟩) n.toNat n.toNat]) (vs := #[(0, .agg #[.slice A41 (0 + n.toNat) c42, .slice (some ⟨b39, 0, none⟩) n.toNat n.toNat])]) (fun _ ha => evp1 ha rfl) (fun _ => by kernel_rfl) rfl trivial ?_
                        intro b44
                        refine StD.next hcl43 (fun _ => (Among.of (Among.take 3 rfl rfl (Among.take 3 rfl rfl (Among.take 4 rfl rfl Among.none))))) ?_
                        refine StD.only (i := 7) rfl (by kernel_rfl) (listed' := #[true, true, true, true, true, true, true, true, false]) rfl ?_
                        intro hcl45
                        refine St.append_lit (R := [blk b44 (.cells #[.slice A41 (0 + n.toNat) c42, .slice (some ⟨b39, 0, none⟩) n.toNat n.toNat] 53 (0, 0)), row A41 (0 + n.toNat) c42 3 1 ([] ++ (ints scells)), row (some ⟨b39, 0, none⟩) n.toNat n.toNat 4 1 (List.replicate n.toNat (.bool false)), blk b25 (.cells #[.int .i64 x16.k, .int .i64 x16.a, .int .i64 x16.v] 29 (0, 0)), row (some ⟨b15, 0, none⟩) n.toNat n.toNat 3 1 (ints scells), Sep []]) ts41 rfl rfl rfl 5 rfl rfl 0 rfl rfl rfl (by omega) rfl rfl trivial ?_
                        intro A46 c47
                        refine St.pick (R := [row A46 (0 + 1) c47 53 2 ([] ++ [.slice A41 (0 + n.toNat) c42, .slice (some ⟨b39, 0, none⟩) n.toNat n.toNat]), row A41 (0 + n.toNat) c42 3 1 ([] ++ (ints scells)), row (some ⟨b39, 0, none⟩) n.toNat n.toNat 4 1 (List.replicate n.toNat (.bool false)), blk b25 (.cells #[.int .i64 x16.k, .int .i64 x16.a, .int .i64 x16.v] 29 (0, 0)), row (some ⟨b15, 0, none⟩) n.toNat n.toNat 3 1 (ints scells), Sep []]) 1 rfl rfl ?_
                        refine St.drop ?_
                        refine StD.next hcl45 (fun _ => (Among.of (Among.take 3 rfl rfl (Among.take 3 rfl rfl (Among.take 3 rfl rfl Among.none))))) ?_
                        refine StD.take (i := 8) (v := (.slice A46 (0 + 1) c47)) rfl (Yields.assign rfl) rfl rfl trivial (Among.of (Among.take 3 rfl rfl (Among.take 3 rfl rfl (Among.take 3 rfl rfl Among.none)))) (by rintro _ _ _ ⟨_, _, _, _, h, _⟩; cases h) (by kernel_rfl) (listed' := #[true, true, true, true, true, true, true, true, true]) rfl ?_
                        refine StD.done (by kernel_rfl) ?_
                        refine St.innorm ?_
                        refine St.innorm ?_
                        refine St.norm ?_
                        refine St.region ?_
                        refine St.val (v := (.int .i64 (i : Int))) (Yields.move rfl) trivial rfl rfl ?_
                        refine St.val (v := (.int .i64 ((i : Int) + 1))) (Yields.add rfl rfl (by omega) (by omega)) trivial rfl rfl ?_
                        refine St.val (v := (.int .i64 ((i : Int) + 1))) (Yields.assign rfl) trivial rfl rfl ?_
                        refine St.nil ?_
                        refine St.norm ?_
                        rw [Nat.zero_add n.toNat, List.nil_append (ints scells), ← bools_replicate]
                        refine St.row_facts 1 rfl ?_
                        intro _ hcN _
                        refine St.freeze_row (R := [row A46 (0 + 1) c47 53 2 ([] ++ [.slice A41 n.toNat c42, .slice (some ⟨b39, 0, none⟩) n.toNat n.toNat]), row (some ⟨b39, 0, none⟩) n.toNat n.toNat 4 1 (bools (List.replicate n.toNat false)), blk b25 (.cells #[.int .i64 x16.k, .int .i64 x16.a, .int .i64 x16.v] 29 (0, 0)), row (some ⟨b15, 0, none⟩) n.toNat n.toNat 3 1 (ints scells), Sep []]) (D := Kind.int .i64) (xs := scells) 1 rfl rfl rfl hcl (ints_cat _) ?_
                        intro F2 hle2 hB2
                        replace hS := Slc.mono hle2 hS
                        replace hc22 := fun j v e => PH.cell?_le hle2 (hc22 j v e)
                        refine St.pick (R := [row A46 (0 + 1) c47 53 2 ([] ++ [.slice A41 n.toNat c42, .slice (some ⟨b39, 0, none⟩) n.toNat n.toNat]), row (some ⟨b39, 0, none⟩) n.toNat n.toNat 4 1 (bools (List.replicate n.toNat false)), blk b25 (.cells #[.int .i64 x16.k, .int .i64 x16.a, .int .i64 x16.v] 29 (0, 0)), row (some ⟨b15, 0, none⟩) n.toNat n.toNat 3 1 (ints scells)]) 4 rfl rfl ?_
                        refine St.pick (R := [Sep [], row A46 (0 + 1) c47 53 2 ([] ++ [.slice A41 n.toNat c42, .slice (some ⟨b39, 0, none⟩) n.toNat n.toNat]), blk b25 (.cells #[.int .i64 x16.k, .int .i64 x16.a, .int .i64 x16.v] 29 (0, 0)), row (some ⟨b15, 0, none⟩) n.toNat n.toNat 3 1 (ints scells)]) 2 rfl rfl ?_
                        refine St.star_in ?_
                        have hst : RS.step n.toNat ⟨scells, []⟩ x16 = ⟨scells, ⟨scells, List.replicate n.toNat false⟩ :: []⟩ := by unfold RS.step; rw [if_neg (by omega), if_pos (by omega)]
                        rw [if_neg (by simp; try omega), hst] at hp
                        rw [hst] at hwf2 hsl
                        intro a w ha hs
                        exact ⟨k - (i + 1), by omega, i + 1, 0 + 1, ⟨scells, ⟨scells, List.replicate n.toNat false⟩ :: []⟩, A46, c47, _, _, F2, rfl, by omega, by first | (simp; done) | (simp; omega) | omega, by omega, hp, hwf2, (PH.le_trans hle hle2), ⟨_, _, _, _, _, _, rfl, rfl, hB2, hcN, ⟨rfl, rfl⟩⟩, ha.covers ⟨rfl, rfl, rfl, rfl, rfl, trivial⟩, (Among.of (Among.take 3 rfl rfl (Among.take 1 rfl rfl (Among.take 0 rfl rfl Among.none))) _ hs)⟩
                · skip
                  obtain ⟨u, rfl⟩ : ∃ u, q = u + 1 := ⟨r.length, hq.symm⟩
                  obtain ⟨B, cB, D, cD, cs', C', rfl, rfl, hB, hcB, hMC⟩ := hMC
                  have hru : r.length = u := by simpa using hq
                  have hcl2 : cs'.length = u * 2 := by rw [hMC.length, hru]
                  have hmw := hwf.ms m (by simp)
                  refine St.star_out (R := [row (some ⟨b15, 0, none⟩) n.toNat n.toNat 3 1 (ints scells), row A (u + 1) c 53 2 (cs' ++ [.slice B n.toNat cB, .slice D n.toNat cD])]) 2 rfl rfl ?_
                  refine St.row_some 0 rfl (by omega) ?_
                  intro gD hg
                  subst hg
                  refine St.row_some 3 rfl (by omega) ?_
                  intro gA hg
                  subst hg
                  refine St.row_facts 3 rfl ?_
                  intro _ hcA _
                  refine St.seq ?_
                  refine St.seq ?_
                  refine St.region ?_
                  refine St.val (v := (.int .i64 (i : Int))) (Yields.move rfl) trivial rfl rfl ?_
                  refine St.val (v := (.slice (some ad17) k c0)) (Yields.move rfl) trivial rfl rfl ?_
                  refine St.val (v := (.int .i64 (k : Int))) (Yields.lenSlice tu22 rfl) trivial rfl rfl ?_
                  refine St.val (v := (.bool true)) (Yields.is hi (Yields.lt rfl rfl)) trivial rfl rfl ?_
                  refine St.nil ?_
                  refine St.norm ?_
                  refine St.cond_t rfl ?_
                  refine St.skip ?_
                  refine St.norm ?_
                  refine St.seq ?_
                  refine St.block ?_
                  refine St.seq ?_
                  refine St.region ?_
                  refine St.val (v := (.slice (some ad17) k c0)) (Yields.move rfl) trivial rfl rfl ?_
                  refine St.val (v := (.int .i64 (i : Int))) (Yields.move rfl) trivial rfl rfl ?_
                  refine St.val (v := (.pointer (some p23))) (Yields.indexAddr (p := p23) ts22 rfl rfl (by omega) (by omega) (by rw [← hp24]; first | rfl | (congr 1; omega))) trivial rfl rfl ?_
                  refine St.val (v := (.agg #[.int .i64 x16.k, .int .i64 x16.a, .int .i64 x16.v])) (Yields.load rfl (Loads.Fatn0 hc22 ta29)) trivial rfl rfl ?_
                  refine St.alloc tz29 trivial rfl ?_
                  intro b48
                  refine St.storen (R := [row (some ⟨gD, 0, none⟩) n.toNat cD 4 1 (bools m.chg), Sep C', row (some ⟨b15, 0, none⟩) n.toNat n.toNat 3 1 (ints scells), row (some ⟨gA, 0, none⟩) (u + 1) c 53 2 (cs' ++ [.slice B n.toNat cB, .slice (some ⟨gD, 0, none⟩) n.toNat cD])]) rfl rfl 0 rfl rfl ta29 rfl rfl rfl trivial (cs' := #[.int .i64 x16.k, .int .i64 x16.a, .int .i64 x16.v]) rfl ?_
                  refine St.nil ?_
                  refine St.norm ?_
                  refine St.seq ?_
                  refine St.region ?_
                  refine St.val (v := (.slice (some ⟨gA, 0, none⟩) (u + 1) c)) (Yields.move rfl) trivial rfl rfl ?_
                  refine St.val (v := (.int .i64 ((u + 1) : Int))) (Yields.lenSlice tu41 rfl) trivial rfl rfl ?_
                  refine St.val (v := (.int .i64 (((u + 1) : Int) - 1))) (Yields.sub rfl rfl (by omega) (by omega)) trivial rfl rfl ?_
                  refine St.val (v := (.int .i64 (((u + 1) : Int) - 1))) (Yields.assign rfl) trivial rfl rfl ?_
                  refine St.nil ?_
                  refine St.norm ?_
                  refine St.seq ?_
                  refine St.seq ?_
                  refine St.region ?_
                  refine St.val (v := (.pointer (some ⟨b48, 0, none⟩))) (Yields.fieldAddr (v := (.pointer (some ⟨b48, 0, none⟩))) rfl (fun _ => by kernel_rfl)) trivial rfl rfl ?_
                  refine St.val (v := (.int .i64 x16.k)) (Yields.load rfl (Loads.H1 0 rfl tc3 rfl)) trivial rfl rfl ?_
                  by_cases q49 : x16.k ≥ 2
                  · skip
                    refine St.val (v := (.bool true)) (Yields.is q49 (Yields.ge rfl rfl)) trivial rfl rfl ?_
                    refine St.val (v := (.bool true)) (Yields.move rfl) trivial rfl rfl ?_
                    refine St.val (v := (.int .i64 (((u + 1) : Int) - 1))) (Yields.move rfl) rfl rfl rfl ?_
                    refine St.val (v := (.bool false)) (Yields.isnt (by omega) (Yields.lt rfl rfl)) rfl rfl rfl ?_
                    refine St.val (v := (.bool false)) (Yields.pick_t rfl rfl) trivial rfl rfl ?_
                    refine St.nil ?_
                    refine St.norm ?_
                    refine St.cond_f rfl ?_
                    refine St.skip ?_
                    refine St.norm ?_
                    refine St.seq ?_
                    refine St.region ?_
                    refine St.val (v := (.pointer (some ⟨b48, 0, none⟩))) (Yields.fieldAddr (v := (.pointer (some ⟨b48, 0, none⟩))) rfl (fun _ => by kernel_rfl)) trivial rfl rfl ?_
                    refine St.val (v := (.int .i64 x16.k)) (Yields.load rfl (Loads.H1 0 rfl tc3 rfl)) trivial rfl rfl ?_
                    refine St.nil ?_
                    refine St.norm ?_
                    refine St.block ?_
                    refine St.seq ?_
                    refine St.region ?_
                    refine St.val (v := (.bool false)) (Yields.isnt (by omega) (Yields.eq rfl rfl)) trivial rfl rfl ?_
                    refine St.val (v := (.bool false)) (Yields.assign rfl) trivial rfl rfl ?_
                    refine St.nil ?_
                    refine St.norm ?_
                    refine St.cond_f rfl ?_
                    refine St.seq ?_
                    refine St.region ?_
                    refine St.val (v := (.bool false)) (Yields.isnt (by omega) (Yields.eq rfl rfl)) trivial rfl rfl ?_
                    refine St.val (v := (.bool false)) (Yields.assign rfl) trivial rfl rfl ?_
                    refine St.nil ?_
                    refine St.norm ?_
                    refine St.cond_f rfl ?_
                    refine St.seq ?_
                    refine St.region ?_
                    by_cases q50 : x16.k = 2
                    · skip
                      refine St.val (v := (.bool true)) (Yields.is q50 (Yields.eq rfl rfl)) trivial rfl rfl ?_
                      refine St.val (v := (.bool true)) (Yields.assign rfl) trivial rfl rfl ?_
                      refine St.nil ?_
                      refine St.norm ?_
                      refine St.cond_t rfl ?_
                      refine St.seq ?_
                      refine St.region ?_
                      refine St.val (v := (.slice (some ⟨b15, 0, none⟩) n.toNat n.toNat)) (Yields.move rfl) trivial rfl rfl ?_
                      refine St.val (v := (.slice (some ⟨gA, 0, none⟩) (u + 1) c)) (Yields.move rfl) trivial rfl rfl ?_
                      refine St.val (v := (.int .i64 (((u + 1) : Int) - 1))) (Yields.move rfl) trivial rfl rfl ?_
                      refine St.val (v := (.pointer (some ⟨gA, u * 2, none⟩))) (Yields.indexAddr ts41 rfl rfl (by omega) (by omega) (p := ⟨gA, u * 2, none⟩) (by rw [add_off]; congr 1; omega)) trivial rfl rfl ?_
                      refine St.val (v := (.pointer (some ⟨gA, u * 2, none⟩))) (Yields.fieldAddr (v := (.pointer (some ⟨gA, u * 2, none⟩))) rfl (fun _ => by kernel_rfl)) trivial rfl rfl ?_
                      refine St.val (v := (.slice B n.toNat cB)) (Yields.load rfl (Loads.row1 4 rfl tc23 (at0 hcl2))) trivial rfl rfl ?_
                      refine St.copy_all (R := [blk b48 (.cells #[.int .i64 x16.k, .int .i64 x16.a, .int .i64 x16.v] 29 (0, 0)), row (some ⟨gD, 0, none⟩) n.toNat cD 4 1 (bools m.chg), Sep C', row (some ⟨gA, 0, none⟩) (u + 1) c 53 2 (cs' ++ [.slice B n.toNat cB, .slice (some ⟨gD, 0, none⟩) n.toNat cD])]) ts23 rfl rfl hB rfl (by omega) (by omega) 3 rfl rfl rfl trivial ?_
                      intro nw51 hn52
                      obtain rfl := cat_ints hn52
                      refine St.nil ?_
                      refine St.norm ?_
                      refine St.region ?_
                      refine St.val (v := (.slice (some ⟨gA, 0, none⟩) (u + 1) c)) (Yields.move rfl) trivial rfl rfl ?_
                      refine St.val (v := (.int .i64 (((u + 1) : Int) - 1))) (Yields.move rfl) trivial rfl rfl ?_
                      refine St.val (v := (.int .i64 n)) (Yields.move rfl) trivial rfl rfl ?_
                      refine St.make1 ts51 tz4 rfl rfl rfl (by omega) (by omega) (by omega) rfl rfl trivial ?_
                      intro b53
                      refine St.val (v := (.pointer (some ⟨gA, u * 2, none⟩))) (Yields.indexAddr ts41 rfl rfl (by omega) (by omega) (p := ⟨gA, u * 2, none⟩) (by rw [add_off]; congr 1; omega)) trivial rfl rfl ?_
                      refine St.val (v := (.pointer (some ⟨gA, u * 2 + 1, none⟩))) (Yields.fieldAddr (v := (.pointer (some ⟨gA, u * 2 + 1, none⟩))) rfl (fun _ => by kernel_rfl)) trivial rfl rfl ?_
                      refine St.store_row (R := [row (some ⟨b53, 0, none⟩) n.toNat n.toNat 4 1 (List.replicate n.toNat (.bool false)), row (some ⟨b15, 0, none⟩) n.toNat n.toNat 3 1 (ints m.bef), blk b48 (.cells #[.int .i64 x16.k, .int .i64 x16.a, .int .i64 x16.v] 29 (0, 0)), row (some ⟨gD, 0, none⟩) n.toNat cD 4 1 (bools m.chg), Sep C']) rfl rfl 5 rfl rfl tc51 rfl (by rw [List.length_append]; simp; omega) trivial ?_
                      rw [set1 hcl2]
                      refine St.nil ?_
                      refine St.innorm ?_
                      refine St.innorm ?_
                      refine St.norm ?_
                      refine St.region ?_
                      refine St.val (v := (.int .i64 (i : Int))) (Yields.move rfl) trivial rfl rfl ?_
                      refine St.val (v := (.int .i64 ((i : Int) + 1))) (Yields.add rfl rfl (by omega) (by omega)) trivial rfl rfl ?_
                      refine St.val (v := (.int .i64 ((i : Int) + 1))) (Yields.assign rfl) trivial rfl rfl ?_
                      refine St.nil ?_
                      refine St.norm ?_
                      rw [← bools_replicate]
                      refine St.pick (R := [row (some ⟨gA, 0, none⟩) (u + 1) c 53 2 (cs' ++ [.slice B n.toNat cB, .slice (some ⟨b53, 0, none⟩) n.toNat n.toNat]), row (some ⟨b53, 0, none⟩) n.toNat n.toNat 4 1 (bools (List.replicate n.toNat false)), row (some ⟨b15, 0, none⟩) n.toNat n.toNat 3 1 (ints m.bef), blk b48 (.cells #[.int .i64 x16.k, .int .i64 x16.a, .int .i64 x16.v] 29 (0, 0)), row (some ⟨gD, 0, none⟩) n.toNat cD 4 1 (bools m.chg)]) 5 rfl rfl ?_
                      refine St.pick (R := [Sep C', row (some ⟨gA, 0, none⟩) (u + 1) c 53 2 (cs' ++ [.slice B n.toNat cB, .slice (some ⟨b53, 0, none⟩) n.toNat n.toNat]), row (some ⟨b15, 0, none⟩) n.toNat n.toNat 3 1 (ints m.bef), blk b48 (.cells #[.int .i64 x16.k, .int .i64 x16.a, .int .i64 x16.v] 29 (0, 0)), row (some ⟨gD, 0, none⟩) n.toNat cD 4 1 (bools m.chg)]) 2 rfl rfl ?_
                      refine St.star_in ?_
                      have hst : RS.step n.toNat ⟨scells, m :: r⟩ x16 = ⟨m.bef, ⟨m.bef, List.replicate n.toNat false⟩ :: r⟩ := by unfold RS.step; rw [if_neg (by omega), if_neg (by omega)]; simp only; rw [if_pos q50]
                      rw [if_neg (by simp; try omega), hst] at hp
                      rw [hst] at hwf2 hsl
                      intro a w ha hs
                      exact ⟨k - (i + 1), by omega, i + 1, u + 1, ⟨m.bef, ⟨m.bef, List.replicate n.toNat false⟩ :: r⟩, some ⟨gA, 0, none⟩, c, _, _, F1, rfl, by omega, by first | (simp; done) | (simp; omega) | omega, by omega, hp, hwf2, hle, ⟨_, _, _, _, _, _, rfl, rfl, hB, hcB, hMC⟩, ha.covers ⟨rfl, rfl, rfl, rfl, rfl, trivial⟩, (Among.of (Among.take 2 rfl rfl (Among.take 1 rfl rfl (Among.take 0 rfl rfl Among.none))) _ hs)⟩
                    · skip
                      refine St.val (v := (.bool false)) (Yields.isnt q50 (Yields.eq rfl rfl)) trivial rfl rfl ?_
                      refine St.val (v := (.bool false)) (Yields.assign rfl) trivial rfl rfl ?_
                      refine St.nil ?_
                      refine St.norm ?_
                      refine St.cond_f rfl ?_
                      refine St.seq ?_
                      refine St.region ?_
                      by_cases q54 : x16.k = 3
                      · skip
                        refine St.val (v := (.bool true)) (Yields.is q54 (Yields.eq rfl rfl)) trivial rfl rfl ?_
                        refine St.val (v := (.bool true)) (Yields.assign rfl) trivial rfl rfl ?_
                        refine St.nil ?_
                        refine St.norm ?_
                        refine St.cond_t rfl ?_
                        refine St.seq ?_
                        refine St.seq ?_
                        refine St.region ?_
                        refine St.val (v := (.int .i64 0)) (Yields.assign rfl) trivial rfl rfl ?_
                        refine St.nil ?_
                        refine St.norm ?_
                        refine St.block ?_
                        rcases r with _ | ⟨p, r2⟩
                        · skip
                          have hu0 : u = 0 := hru.symm
                          refine St.loop (fun kk a w => kk = 0 ∧ Has Try.f12.ntmps a [(0, .int .i64 n), (1, .slice (some ad17) k c0), (8, .slice (some ⟨b15, 0, none⟩) n.toNat n.toNat), (9, .slice (some ⟨gA, 0, none⟩) (u + 1) c), (10, .int .i64 (i : Int)), (12, .int .i64 (((u + 1) : Int) - 1)), (13, .int .i64 0)] ∧ Sat ⟨w0, fun b => m0 b ≠ none, F⟩ F1 [blk b48 (.cells #[.int .i64 x16.k, .int .i64 x16.a, .int .i64 x16.v] 29 (0, 0)), row (some ⟨gD, 0, none⟩) n.toNat cD 4 1 (bools m.chg), Sep C', row (some ⟨b15, 0, none⟩) n.toNat n.toNat 3 1 (ints scells), row (some ⟨gA, 0, none⟩) (u + 1) c 53 2 (cs' ++ [.slice B n.toNat cB, .slice (some ⟨gD, 0, none⟩) n.toNat cD])] w) 0 ?_ ?_
                          · intro a w ha hs
                            exact ⟨rfl, ha.covers ⟨rfl, rfl, rfl, rfl, rfl, rfl, rfl, trivial⟩, hs⟩
                          · rintro kk a w ⟨hkk, ha, hs⟩
                            refine St.use (?_ : St _ _ _ _ _ _) ha hs
                            clear ha hs a w
                            refine St.seq ?_
                            refine St.seq ?_
                            refine St.region ?_
                            refine St.val (v := (.int .i64 0)) (Yields.move rfl) trivial rfl rfl ?_
                            refine St.val (v := (.int .i64 n)) (Yields.move rfl) trivial rfl rfl ?_
                            refine St.val (v := (.bool true)) (Yields.is (by omega) (Yields.lt rfl rfl)) trivial rfl rfl ?_
                            refine St.val (v := (.bool true)) (Yields.move rfl) trivial rfl rfl ?_
                            refine St.val (v := (.int .i64 (((u + 1) : Int) - 1))) (Yields.move rfl) rfl rfl rfl ?_
                            refine St.val (v := (.bool false)) (Yields.isnt (by omega) (Yields.gt rfl rfl)) rfl rfl rfl ?_
                            refine St.val (v := (.bool false)) (Yields.pick_t rfl rfl) trivial rfl rfl ?_
                            refine St.nil ?_
                            refine St.norm ?_
                            refine St.cond_f rfl ?_
                            refine St.exit ?_
                            refine St.thenexit ?_
                            refine St.thenexit ?_
                            refine St.inexit ?_
                            refine St.norm ?_
                            refine St.region ?_
                            refine St.val (v := (.slice (some ⟨gA, 0, none⟩) (u + 1) c)) (Yields.move rfl) trivial rfl rfl ?_
                            refine St.val (v := (.int .i64 (((u + 1) : Int) - 1))) (Yields.move rfl) trivial rfl rfl ?_
                            refine St.val (v := (.slice (some ⟨gA, 0, none⟩) u c)) (Yields.sliceTo (k' := u) ts41 rfl rfl (by omega) (by omega)) trivial rfl rfl ?_
                            refine St.val (v := (.slice (some ⟨gA, 0, none⟩) u c)) (Yields.assign rfl) trivial rfl rfl ?_
                            refine St.nil ?_
                            refine St.innorm ?_
                            refine St.innorm ?_
                            refine St.norm ?_
                            refine St.region ?_
                            refine St.val (v := (.int .i64 (i : Int))) (Yields.move rfl) trivial rfl rfl ?_
                            refine St.val (v := (.int .i64 ((i : Int) + 1))) (Yields.add rfl rfl (by omega) (by omega)) trivial rfl rfl ?_
                            refine St.val (v := (.int .i64 ((i : Int) + 1))) (Yields.assign rfl) trivial rfl rfl ?_
                            refine St.nil ?_
                            refine St.norm ?_
                            refine St.weak (R := [blk b48 (.cells #[.int .i64 x16.k, .int .i64 x16.a, .int .i64 x16.v] 29 (0, 0)), row (some ⟨gD, 0, none⟩) n.toNat cD 4 1 (bools m.chg), Sep C', row (some ⟨b15, 0, none⟩) n.toNat n.toNat 3 1 (ints scells)]) (c' := row (some ⟨gA, 0, none⟩) u c 53 2 cs') 4 rfl rfl (fun m hm => by have h := row_take u (by omega) hm; rwa [takelo hcl2] at h) ?_
                            have hst : RS.step n.toNat ⟨scells, [m]⟩ x16 = ⟨scells, []⟩ := by unfold RS.step; rw [if_neg (by omega), if_neg (by omega)]; simp only; rw [if_neg (by omega), if_pos q54]
                            rw [if_neg (by simp; try omega), hst] at hp
                            rw [hst] at hwf2 hsl
                            intro a w ha hs
                            exact ⟨k - (i + 1), by omega, i + 1, u, ⟨scells, []⟩, some ⟨gA, 0, none⟩, c, cs', C', F1, rfl, by omega, by first | (simp; done) | (simp; omega) | omega, by omega, hp, hwf2, hle, hMC, ha.covers ⟨rfl, rfl, rfl, rfl, rfl, trivial⟩, (Among.of (Among.take 4 rfl rfl (Among.take 0 rfl rfl (Among.take 2 rfl rfl Among.none))) _ hs)⟩
                        · skip
                          obtain ⟨v, rfl⟩ : ∃ v, u = v + 1 := ⟨r2.length, by rw [← hru]; rfl⟩
                          obtain ⟨B2, cB2, D2, cD2, cs2, C2, rfl, rfl, hB2, hcB2, hMC⟩ := hMC
                          have hrv : r2.length = v := by simpa using hru
                          have hcl3 : cs2.length = v * 2 := by rw [hMC.length, hrv]
                          have hmp := hwf.ms p (by simp)
                          refine St.star_out (R := [blk b48 (.cells #[.int .i64 x16.k, .int .i64 x16.a, .int .i64 x16.v] 29 (0, 0)), row (some ⟨gD, 0, none⟩) n.toNat cD 4 1 (bools m.chg), row (some ⟨b15, 0, none⟩) n.toNat n.toNat 3 1 (ints scells), row (some ⟨gA, 0, none⟩) ((v + 1) + 1) c 53 2 ((cs2 ++ [.slice B2 n.toNat cB2, .slice D2 n.toNat cD2]) ++ [.slice B n.toNat cB, .slice (some ⟨gD, 0, none⟩) n.toNat cD])]) 2 rfl rfl ?_
                          refine St.row_some 0 rfl (by omega) ?_
                          intro gE hg
                          subst hg
                          refine St.loop (fun kk a w => ∃ j : Nat, kk = n.toNat - j ∧ j ≤ n.toNat ∧ Has Try.f12.ntmps a [(0, .int .i64 n), (1, .slice (some ad17) k c0), (8, .slice (some ⟨b15, 0, none⟩) n.toNat n.toNat), (9, .slice (some ⟨gA, 0, none⟩) ((v + 1) + 1) c), (10, .int .i64 (i : Int)), (12, .int .i64 ((((v + 1) + 1) : Int) - 1)), (13, .int .i64 (j : Int))] ∧ Sat ⟨w0, fun b => m0 b ≠ none, F⟩ F1 [row (some ⟨gE, 0, none⟩) n.toNat cD2 4 1 (bools (orTo p.chg m.chg j)), Sep C2, blk b48 (.cells #[.int .i64 x16.k, .int .i64 x16.a, .int .i64 x16.v] 29 (0, 0)), row (some ⟨gD, 0, none⟩) n.toNat cD 4 1 (bools m.chg), row (some ⟨b15, 0, none⟩) n.toNat n.toNat 3 1 (ints scells), row (some ⟨gA, 0, none⟩) ((v + 1) + 1) c 53 2 ((cs2 ++ [.slice B2 n.toNat cB2, .slice (some ⟨gE, 0, none⟩) n.toNat cD2]) ++ [.slice B n.toNat cB, .slice (some ⟨gD, 0, none⟩) n.toNat cD])] w) n.toNat ?_ ?_
                          · intro a w ha hs
                            exact ⟨0, by omega, by omega, ha.covers ⟨rfl, rfl, rfl, rfl, rfl, rfl, rfl, trivial⟩, hs⟩
                          · rintro kk a w ⟨j, hkk, hjn, ha, hs⟩
                            refine St.use (?_ : St _ _ _ _ _ _) ha hs
                            clear ha hs a w
                            by_cases hj : (j : Int) < n
                            · skip
                              obtain ⟨pv, hpv⟩ : ∃ b, (orTo p.chg m.chg j).getD j false = b := ⟨_, rfl⟩
                              obtain ⟨mv, hmv⟩ : ∃ b, m.chg.getD j false = b := ⟨_, rfl⟩
                              cases pv
                              · skip
                                refine St.seq ?_
                                refine St.seq ?_
                                refine St.region ?_
                                refine St.val (v := (.int .i64 (j : Int))) (Yields.move rfl) trivial rfl rfl ?_
                                refine St.val (v := (.int .i64 n)) (Yields.move rfl) trivial rfl rfl ?_
                                refine St.val (v := (.bool true)) (Yields.is hj (Yields.lt rfl rfl)) trivial rfl rfl ?_
                                refine St.val (v := (.bool true)) (Yields.move rfl) trivial rfl rfl ?_
                                refine St.val (v := (.int .i64 ((((v + 1) + 1) : Int) - 1))) (Yields.move rfl) rfl rfl rfl ?_
                                refine St.val (v := (.bool true)) (Yields.is (by omega) (Yields.gt rfl rfl)) rfl rfl rfl ?_
                                refine St.val (v := (.bool true)) (Yields.pick_t rfl rfl) trivial rfl rfl ?_
                                refine St.nil ?_
                                refine St.norm ?_
                                refine St.cond_t rfl ?_
                                refine St.skip ?_
                                refine St.norm ?_
                                refine St.seq ?_
                                refine St.block ?_
                                refine StD.start [27] [row (some ⟨gE, 0, none⟩) n.toNat cD2 4 1 (bools (orTo p.chg m.chg j)), Sep C2, blk b48 (.cells #[.int .i64 x16.k, .int .i64 x16.a, .int .i64 x16.v] 29 (0, 0)), row (some ⟨gD, 0, none⟩) n.toNat cD 4 1 (bools m.chg), row (some ⟨b15, 0, none⟩) n.toNat n.toNat 3 1 (ints scells), row (some ⟨gA, 0, none⟩) ((v + 1) + 1) c 53 2 ((cs2 ++ [.slice B2 n.toNat cB2, .slice (some ⟨gE, 0, none⟩) n.toNat cD2]) ++ [.slice B n.toNat cB, .slice (some ⟨gD, 0, none⟩) n.toNat cD])] hmix ?_
                                refine StD.take (i := 0) (v := (.slice (some ⟨gA, 0, none⟩) ((v + 1) + 1) c)) rfl (Yields.move rfl) rfl rfl trivial Among.refl (by rintro _ _ _ ⟨_, _, _, _, h, _⟩; cases h) (by kernel_rfl) (listed' := #[true, false, false, false, false, false, false, false, false, false, false, false, false, false, false, false, false, false, false, false, false, false, false, false, false, false, false, false]) rfl ?_
                                refine StD.take (i := 1) (v := (.int .i64 ((((v + 1) + 1) : Int) - 1))) rfl (Yields.move rfl) rfl rfl trivial Among.refl (by rintro _ _ _ ⟨_, _, _, _, h, _⟩; cases h) (by kernel_rfl) (listed' := #[true, true, false, false, false, false, false, false, false, false, false, false, false, false, false, false, false, false, false, false, false, false, false, false, false, false, false, false]) rfl ?_
                                refine StD.take (i := 2) (v := (.int .i64 (((((v + 1) + 1) : Int) - 1) - 1))) rfl (Yields.sub rfl rfl (by omega) (by omega)) rfl rfl trivial Among.refl (by rintro _ _ _ ⟨_, _, _, _, h, _⟩; cases h) (by kernel_rfl) (listed' := #[true, true, true, false, false, false, false, false, false, false, false, false, false, false, false, false, false, false, false, false, false, false, false, false, false, false, false, false]) rfl ?_
                                refine StD.take (i := 3) (v := (.pointer (some ⟨gA, v * 2, none⟩))) rfl (Yields.indexAddr ts41 rfl rfl (by omega) (by omega) (p := ⟨gA, v * 2, none⟩) (by rw [add_off]; congr 1; omega)) rfl rfl trivial Among.refl (by rintro _ _ _ ⟨_, _, _, _, h, _⟩; cases h) (by kernel_rfl) (listed' := #[true, true, true, true, false, false, false, false, false, false, false, false, false, false, false, false, false, false, false, false, false, false, false, false, false, false, false, false]) rfl ?_
                                refine StD.take (i := 4) (v := (.pointer (some ⟨gA, v * 2 + 1, none⟩))) rfl (Yields.fieldAddr (v := (.pointer (some ⟨gA, v * 2 + 1, none⟩))) rfl (fun _ => by kernel_rfl)) rfl rfl trivial Among.refl (by rintro _ _ _ ⟨_, _, _, _, h, _⟩; cases h) (by kernel_rfl) (listed' := #[true, true, true, true, true, false, false, false, false, false, false, false, false, false, false, false, false, false, false, false, false, false, false, false, false, false, false, false]) rfl ?_
                                refine StD.take (i := 5) (v := (.slice (some ⟨gE, 0, none⟩) n.toNat cD2)) rfl (Yields.load rfl (Loads.row1 5 rfl tc51 (atlo (at1 hcl3)))) rfl rfl trivial Among.refl (by rintro _ _ _ ⟨_, _, _, _, h, _⟩; cases h) (by kernel_rfl) (listed' := #[true, true, true, true, true, true, false, false, false, false, false, false, false, false, false, false, false, false, false, false, false, false, false, false, false, false, false, false]) rfl ?_
                                refine StD.take (i := 6) (v := (.int .i64 (j : Int))) rfl (Yields.move rfl) rfl rfl trivial Among.refl (by rintro _ _ _ ⟨_, _, _, _, h, _⟩; cases h) (by kernel_rfl) (listed' := #[true, true, true, true, true, true, true, false, false, false, false, false, false, false, false, false, false, false, false, false, false, false, false, false, false, false, false, false]) rfl ?_
                                refine StD.take (i := 7) (v := (.slice (some ⟨gA, 0, none⟩) ((v + 1) + 1) c)) rfl (Yields.move rfl) rfl rfl trivial Among.refl (by rintro _ _ _ ⟨_, _, _, _, h, _⟩; cases h) (by kernel_rfl) (listed' := #[true, true, true, true, true, true, true, true, false, false, false, false, false, false, false, false, false, false, false, false, false, false, false, false, false, false, false, false]) rfl ?_
                                refine StD.take (i := 8) (v := (.int .i64 ((((v + 1) + 1) : Int) - 1))) rfl (Yields.move rfl) rfl rfl trivial Among.refl (by rintro _ _ _ ⟨_, _, _, _, h, _⟩; cases h) (by kernel_rfl) (listed' := #[true, true, true, true, true, true, true, true, true, false, false, false, false, false, false, false, false, false, false, false, false, false, false, false, false, false, false, false]) rfl ?_
                                refine StD.take (i := 9) (v := (.int .i64 (((((v + 1) + 1) : Int) - 1) - 1))) rfl (Yields.sub rfl rfl (by omega) (by omega)) rfl rfl trivial Among.refl (by rintro _ _ _ ⟨_, _, _, _, h, _⟩; cases h) (by kernel_rfl) (listed' := #[true, true, true, true, true, true, true, true, true, true, false, false, false, false, false, false, false, false, false, false, false, false, false, false, false, false, false, false]) rfl ?_
                                refine StD.take (i := 10) (v := (.pointer (some ⟨gA, v * 2, none⟩))) rfl (Yields.indexAddr ts41 rfl rfl (by omega) (by omega) (p := ⟨gA, v * 2, none⟩) (by rw [add_off]; congr 1; omega)) rfl rfl trivial Among.refl (by rintro _ _ _ ⟨_, _, _, _, h, _⟩; cases h) (by kernel_rfl) (listed' := #[true, true, true, true, true, true, true, true, true, true, true, false, false, false, false, false, false, false, false, false, false, false, false, false, false, false, false, false]) rfl ?_
                                refine StD.take (i := 11) (v := (.pointer (some ⟨gA, v * 2 + 1, none⟩))) rfl (Yields.fieldAddr (v := (.pointer (some ⟨gA, v * 2 + 1, none⟩))) rfl (fun _ => by kernel_rfl)) rfl rfl trivial Among.refl (by rintro _ _ _ ⟨_, _, _, _, h, _⟩; cases h) (by kernel_rfl) (listed' := #[true, true, true, true, true, true, true, true, true, true, true, true, false, false, false, false, false, false, false, false, false, false, false, false, false, false, false, false]) rfl ?_
                                refine StD.take (i := 12) (v := (.slice (some ⟨gE, 0, none⟩) n.toNat cD2)) rfl (Yields.load rfl (Loads.row1 5 rfl tc51 (atlo (at1 hcl3)))) rfl rfl trivial Among.refl (by rintro _ _ _ ⟨_, _, _, _, h, _⟩; cases h) (by kernel_rfl) (listed' := #[true, true, true, true, true, true, true, true, true, true, true, true, true, false, false, false, false, false, false, false, false, false, false, false, false, false, false, false]) rfl ?_
                                refine StD.take (i := 13) (v := (.int .i64 (j : Int))) rfl (Yields.move rfl) rfl rfl trivial Among.refl (by rintro _ _ _ ⟨_, _, _, _, h, _⟩; cases h) (by kernel_rfl) (listed' := #[true, true, true, true, true, true, true, true, true, true, true, true, true, true, false, false, false, false, false, false, false, false, false, false, false, false, false, false]) rfl ?_
                                refine StD.take (i := 14) (v := (.pointer (some ⟨gE, j, none⟩))) rfl (Yields.indexAddr ts51 rfl rfl (by omega) (by omega) (p := ⟨gE, j, none⟩) (by rw [add_off]; simp)) rfl rfl trivial Among.refl (by rintro _ _ _ ⟨_, _, _, _, h, _⟩; cases h) (by kernel_rfl) (listed' := #[true, true, true, true, true, true, true, true, true, true, true, true, true, true, true, false, false, false, false, false, false, false, false, false, false, false, false, false]) rfl ?_
                                refine StD.take (i := 15) (v := (.bool false)) rfl (Yields.load rfl (Loads.row1 0 rfl tc4 (by rw [bools_getD (by rw [orTo_length]; omega), hpv]))) rfl rfl trivial Among.refl (by rintro _ _ _ ⟨_, _, _, _, h, _⟩; cases h) (by kernel_rfl) (listed' := #[true, true, true, true, true, true, true, true, true, true, true, true, true, true, true, true, false, false, false, false, false, false, false, false, false, false, false, false]) rfl ?_
                                refine StD.take (i := 16) (v := (.bool false)) rfl (Yields.move rfl) rfl rfl trivial Among.refl (by rintro _ _ _ ⟨_, _, _, _, h, _⟩; cases h) (by kernel_rfl) (listed' := #[true, true, true, true, true, true, true, true, true, true, true, true, true, true, true, true, true, false, false, false, false, false, false, false, false, false, false, false]) rfl ?_
                                refine StD.take (i := 17) (v := (.slice (some ⟨gA, 0, none⟩) ((v + 1) + 1) c)) rfl (Yields.move rfl) rfl rfl rfl Among.refl (by rintro _ _ _ ⟨_, _, _, _, h, _⟩; cases h) (by kernel_rfl) (listed' := #[true, true, true, true, true, true, true, true, true, true, true, true, true, true, true, true, true, true, false, false, false, false, false, false, false, false, false, false]) rfl ?_
                                refine StD.take (i := 18) (v := (.int .i64 ((((v + 1) + 1) : Int) - 1))) rfl (Yields.move rfl) rfl rfl rfl Among.refl (by rintro _ _ _ ⟨_, _, _, _, h, _⟩; cases h) (by kernel_rfl) (listed' := #[true, true, true, true, true, true, true, true, true, true, true, true, true, true, true, true, true, true, true, false, false, false, false, false, false, false, false, false]) rfl ?_
                                refine StD.take (i := 19) (v := (.pointer (some ⟨gA, (v + 1) * 2, none⟩))) rfl (Yields.indexAddr ts41 rfl rfl (by omega) (by omega) (p := ⟨gA, (v + 1) * 2, none⟩) (by rw [add_off]; congr 1; omega)) rfl rfl rfl Among.refl (by rintro _ _ _ ⟨_, _, _, _, h, _⟩; cases h) (by kernel_rfl) (listed' := #[true, true, true, true, true, true, true, true, true, true, true, true, true, true, true, true, true, true, true, true, false, false, false, false, false, false, false, false]) rfl ?_
                                refine StD.take (i := 20) (v := (.pointer (some ⟨gA, (v + 1) * 2 + 1, none⟩))) rfl (Yields.fieldAddr (v := (.pointer (some ⟨gA, (v + 1) * 2 + 1, none⟩))) rfl (fun _ => by kernel_rfl)) rfl rfl rfl Among.refl (by rintro _ _ _ ⟨_, _, _, _, h, _⟩; cases h) (by kernel_rfl) (listed' := #[true, true, true, true, true, true, true, true, true, true, true, true, true, true, true, true, true, true, true, true, true, false, false, false, false, false, false, false]) rfl ?_
                                refine StD.take (i := 21) (v := (.slice (some ⟨gD, 0, none⟩) n.toNat cD)) rfl (Yields.load rfl (Loads.row1 5 rfl tc51 (at1 hcl2))) rfl rfl rfl Among.refl (by rintro _ _ _ ⟨_, _, _, _, h, _⟩; cases h) (by kernel_rfl) (listed' := #[true, true, true, true, true, true, true, true, true, true, true, true, true, true, true, true, true, true, true, true, true, true, false, false, false, false, false, false]) rfl ?_
                                refine StD.take (i := 22) (v := (.int .i64 (j : Int))) rfl (Yields.move rfl) rfl rfl rfl Among.refl (by rintro _ _ _ ⟨_, _, _, _, h, _⟩; cases h) (by kernel_rfl) (listed' := #[true, true, true, true, true, true, true, true, true, true, true, true, true, true, true, true, true, true, true, true, true, true, true, false, false, false, false, false]) rfl ?_
                                refine StD.take (i := 23) (v := (.pointer (some ⟨gD, j, none⟩))) rfl (Yields.indexAddr ts51 rfl rfl (by omega) (by omega) (p := ⟨gD, j, none⟩) (by rw [add_off]; simp)) rfl rfl rfl Among.refl (by rintro _ _ _ ⟨_, _, _, _, h, _⟩; cases h) (by kernel_rfl) (listed' := #[true, true, true, true, true, true, true, true, true, true, true, true, true, true, true, true, true, true, true, true, true, true, true, true, false, false, false, false]) rfl ?_
                                refine StD.take (i := 24) (v := (.bool mv)) rfl (Yields.load rfl (Loads.row1 3 rfl tc4 (by rw [bools_getD (by omega), hmv]))) rfl rfl rfl Among.refl (by rintro _ _ _ ⟨_, _, _, _, h, _⟩; cases h) (by kernel_rfl) (listed' := #[true, true, true, true, true, true, true, true, true, true, true, true, true, true, true, true, true, true, true, true, true, true, true, true, true, false, false, false]) rfl ?_
                                refine StD.take (i := 25) (v := (.bool mv)) rfl (Yields.pick_f rfl rfl) rfl rfl trivial Among.refl (by rintro _ _ _ ⟨_, _, _, _, h, _⟩; cases h) (by kernel_rfl) (listed' := #[true, true, true, true, true, true, true, true, true, true, true, true, true, true, true, true, true, true, true, true, true, true, true, true, true, true, false, false]) rfl ?_
                                refine StD.take (i := 26) (v := (.pointer (some ⟨gE, j, none⟩))) rfl (Yields.indexAddr ts51 rfl rfl (by omega) (by omega) (p := ⟨gE, j, none⟩) (by rw [add_off]; simp)) rfl rfl trivial Among.refl (by rintro _ _ _ ⟨_, _, _, _, h, _⟩; cases h) (by kernel_rfl) (listed' := #[true, true, true, true, true, true, true, true, true, true, true, true, true, true, true, true, true, true, true, true, true, true, true, true, true, true, true, false]) rfl ?_
                                refine StD.only (i := 27) rfl (by kernel_rfl) (listed' := #[true, true, true, true, true, true, true, true, true, true, true, true, true, true, true, true, true, true, true, true, true, true, true, true, true, true, true, true]) rfl ?_
                                intro hcl55
                                refine St.store_row (R := [Sep C2, blk b48 (.cells #[.int .i64 x16.k, .int .i64 x16.a, .int .i64 x16.v] 29 (0, 0)), row (some ⟨gD, 0, none⟩) n.toNat cD 4 1 (bools m.chg), row (some ⟨b15, 0, none⟩) n.toNat n.toNat 3 1 (ints scells), row (some ⟨gA, 0, none⟩) ((v + 1) + 1) c 53 2 ((cs2 ++ [.slice B2 n.toNat cB2, .slice (some ⟨gE, 0, none⟩) n.toNat cD2]) ++ [.slice B n.toNat cB, .slice (some ⟨gD, 0, none⟩) n.toNat cD])]) rfl rfl 0 rfl rfl tc4 rfl (by rw [bools_length, orTo_length]; omega) trivial ?_
                                refine StD.next hcl55 (fun h => by cases h) ?_
                                refine StD.done (by kernel_rfl) ?_
                                refine St.innorm ?_
                                refine St.norm ?_
                                refine St.region ?_
                                refine St.val (v := (.int .i64 (j : Int))) (Yields.move rfl) trivial rfl rfl ?_
                                refine St.val (v := (.int .i64 ((j : Int) + 1))) (Yields.add rfl rfl (by omega) (by omega)) trivial rfl rfl ?_
                                refine St.val (v := (.int .i64 ((j : Int) + 1))) (Yields.assign rfl) trivial rfl rfl ?_
                                refine St.nil ?_
                                refine St.norm ?_
                                have ho : orTo p.chg m.chg (j + 1) = (orTo p.chg m.chg j).set j mv := by rw [orTo, hpv, hmv]; rfl
                                rw [← bools_set, ← ho]
                                intro a w ha hs
                                exact ⟨n.toNat - (j + 1), by omega, j + 1, rfl, by omega, ha.covers ⟨rfl, rfl, rfl, rfl, rfl, rfl, rfl, trivial⟩, hs⟩
                              · skip
                                refine St.seq ?_
                                refine St.seq ?_
                                refine St.region ?_
                                refine St.val (v := (.int .i64 (j : Int))) (Yields.move rfl) trivial rfl rfl ?_
                                refine St.val (v := (.int .i64 n)) (Yields.move rfl) trivial rfl rfl ?_
                                refine St.val (v := (.bool true)) (Yields.is hj (Yields.lt rfl rfl)) trivial rfl rfl ?_
                                refine St.val (v := (.bool true)) (Yields.move rfl) trivial rfl rfl ?_
                                refine St.val (v := (.int .i64 ((((v + 1) + 1) : Int) - 1))) (Yields.move rfl) rfl rfl rfl ?_
                                refine St.val (v := (.bool true)) (Yields.is (by omega) (Yields.gt rfl rfl)) rfl rfl rfl ?_
                                refine St.val (v := (.bool true)) (Yields.pick_t rfl rfl) trivial rfl rfl ?_
                                refine St.nil ?_
                                refine St.norm ?_
                                refine St.cond_t rfl ?_
                                refine St.skip ?_
                                refine St.norm ?_
                                refine St.seq ?_
                                refine St.block ?_
                                refine StD.start [27] [row (some ⟨gE, 0, none⟩) n.toNat cD2 4 1 (bools (orTo p.chg m.chg j)), Sep C2, blk b48 (.cells #[.int .i64 x16.k, .int .i64 x16.a, .int .i64 x16.v] 29 (0, 0)), row (some ⟨gD, 0, none⟩) n.toNat cD 4 1 (bools m.chg), row (some ⟨b15, 0, none⟩) n.toNat n.toNat 3 1 (ints scells), row (some ⟨gA, 0, none⟩) ((v + 1) + 1) c 53 2 ((cs2 ++ [.slice B2 n.toNat cB2, .slice (some ⟨gE, 0, none⟩) n.toNat cD2]) ++ [.slice B n.toNat cB, .slice (some ⟨gD, 0, none⟩) n.toNat cD])] hmix ?_
                                refine StD.take (i := 0) (v := (.slice (some ⟨gA, 0, none⟩) ((v + 1) + 1) c)) rfl (Yields.move rfl) rfl rfl trivial Among.refl (by rintro _ _ _ ⟨_, _, _, _, h, _⟩; cases h) (by kernel_rfl) (listed' := #[true, false, false, false, false, false, false, false, false, false, false, false, false, false, false, false, false, false, false, false, false, false, false, false, false, false, false, false]) rfl ?_
                                refine StD.take (i := 1) (v := (.int .i64 ((((v + 1) + 1) : Int) - 1))) rfl (Yields.move rfl) rfl rfl trivial Among.refl (by rintro _ _ _ ⟨_, _, _, _, h, _⟩; cases h) (by kernel_rfl) (listed' := #[true, true, false, false, false, false, false, false, false, false, false, false, false, false, false, false, false, false, false, false, false, false, false, false, false, false, false, false]) rfl ?_
                                refine StD.take (i := 2) (v := (.int .i64 (((((v + 1) + 1) : Int) - 1) - 1))) rfl (Yields.sub rfl rfl (by omega) (by omega)) rfl rfl trivial Among.refl (by rintro _ _ _ ⟨_, _, _, _, h, _⟩; cases h) (by kernel_rfl) (listed' := #[true, true, true, false, false, false, false, false, false, false, false, false, false, false, false, false, false, false, false, false, false, false, false, false, false, false, false, false]) rfl ?_
                                refine StD.take (i := 3) (v := (.pointer (some ⟨gA, v * 2, none⟩))) rfl (Yields.indexAddr ts41 rfl rfl (by omega) (by omega) (p := ⟨gA, v * 2, none⟩) (by rw [add_off]; congr 1; omega)) rfl rfl trivial Among.refl (by rintro _ _ _ ⟨_, _, _, _, h, _⟩; cases h) (by kernel_rfl) (listed' := #[true, true, true, true, false, false, false, false, false, false, false, false, false, false, false, false, false, false, false, false, false, false, false, false, false, false, false, false]) rfl ?_
                                refine StD.take (i := 4) (v := (.pointer (some ⟨gA, v * 2 + 1, none⟩))) rfl (Yields.fieldAddr (v := (.pointer (some ⟨gA, v * 2 + 1, none⟩))) rfl (fun _ => by kernel_rfl)) rfl rfl trivial Among.refl (by rintro _ _ _ ⟨_, _, _, _, h, _⟩; cases h) (by kernel_rfl) (listed' := #[true, true, true, true, true, false, false, false, false, false, false, false, false, false, false, false, false, false, false, false, false, false, false, false, false, false, false, false]) rfl ?_
                                refine StD.take (i := 5) (v := (.slice (some ⟨gE, 0, none⟩) n.toNat cD2)) rfl (Yields.load rfl (Loads.row1 5 rfl tc51 (atlo (at1 hcl3)))) rfl rfl trivial Among.refl (by rintro _ _ _ ⟨_, _, _, _, h, _⟩; cases h) (by kernel_rfl) (listed' := #[true, true, true, true, true, true, false, false, false, false, false, false, false, false, false, false, false, false, false, false, false, false, false, false, false, false, false, false]) rfl ?_
                                refine StD.take (i := 6) (v := (.int .i64 (j : Int))) rfl (Yields.move rfl) rfl rfl trivial Among.refl (by rintro _ _ _ ⟨_, _, _, _, h, _⟩; cases h) (by kernel_rfl) (listed' := #[true, true, true, true, true, true, true, false, false, false, false, false, false, false, false, false, false, false, false, false, false, false, false, false, false, false, false, false]) rfl ?_
                                refine StD.take (i := 7) (v := (.slice (some ⟨gA, 0, none⟩) ((v + 1) + 1) c)) rfl (Yields.move rfl) rfl rfl trivial Among.refl (by rintro _ _ _ ⟨_, _, _, _, h, _⟩; cases h) (by kernel_rfl) (listed' := #[true, true, true, true, true, true, true, true, false, false, false, false, false, false, false, false, false, false, false, false, false, false, false, false, false, false, false, false]) rfl ?_
                                refine StD.take (i := 8) (v := (.int .i64 ((((v + 1) + 1) : Int) - 1))) rfl (Yields.move rfl) rfl rfl trivial Among.refl (by rintro _ _ _ ⟨_, _, _, _, h, _⟩; cases h) (by kernel_rfl) (listed' := #[true, true, true, true, true, true, true, true, true, false, false, false, false, false, false, false, false, false, false, false, false, false, false, false, false, false, false, false]) rfl ?_
                                refine StD.take (i := 9) (v := (.int .i64 (((((v + 1) + 1) : Int) - 1) - 1))) rfl (Yields.sub rfl rfl (by omega) (by omega)) rfl rfl trivial Among.refl (by rintro _ _ _ ⟨_, _, _, _, h, _⟩; cases h) (by kernel_rfl) (listed' := #[true, true, true, true, true, true, true, true, true, true, false, false, false, false, false, false, false, false, false, false, false, false, false, false, false, false, false, false]) rfl ?_
                                refine StD.take (i := 10) (v := (.pointer (some ⟨gA, v * 2, none⟩))) rfl (Yields.indexAddr ts41 rfl rfl (by omega) (by omega) (p := ⟨gA, v * 2, none⟩) (by rw [add_off]; congr 1; omega)) rfl rfl trivial Among.refl (by rintro _ _ _ ⟨_, _, _, _, h, _⟩; cases h) (by kernel_rfl) (listed' := #[true, true, true, true, true, true, true, true, true, true, true, false, false, false, false, false, false, false, false, false, false, false, false, false, false, false, false, false]) rfl ?_
                                refine StD.take (i := 11) (v := (.pointer (some ⟨gA, v * 2 + 1, none⟩))) rfl (Yields.fieldAddr (v := (.pointer (some ⟨gA, v * 2 + 1, none⟩))) rfl (fun _ => by kernel_rfl)) rfl rfl trivial Among.refl (by rintro _ _ _ ⟨_, _, _, _, h, _⟩; cases h) (by kernel_rfl) (listed' := #[true, true, true, true, true, true, true, true, true, true, true, true, false, false, false, false, false, false, false, false, false, false, false, false, false, false, false, false]) rfl ?_
                                refine StD.take (i := 12) (v := (.slice (some ⟨gE, 0, none⟩) n.toNat cD2)) rfl (Yields.load rfl (Loads.row1 5 rfl tc51 (atlo (at1 hcl3)))) rfl rfl trivial Among.refl (by rintro _ _ _ ⟨_, _, _, _, h, _⟩; cases h) (by kernel_rfl) (listed' := #[true, true, true, true, true, true, true, true, true, true, true, true, true, false, false, false, false, false, false, false, false, false, false, false, false, false, false, false]) rfl ?_
                                refine StD.take (i := 13) (v := (.int .i64 (j : Int))) rfl (Yields.move rfl) rfl rfl trivial Among.refl (by rintro _ _ _ ⟨_, _, _, _, h, _⟩; cases h) (by kernel_rfl) (listed' := #[true, true, true, true, true, true, true, true, true, true, true, true, true, true, false, false, false, false, false, false, false, false, false, false, false, false, false, false]) rfl ?_
                                refine StD.take (i := 14) (v := (.pointer (some ⟨gE, j, none⟩))) rfl (Yields.indexAddr ts51 rfl rfl (by omega) (by omega) (p := ⟨gE, j, none⟩) (by rw [add_off]; simp)) rfl rfl trivial Among.refl (by rintro _ _ _ ⟨_, _, _, _, h, _⟩; cases h) (by kernel_rfl) (listed' := #[true, true, true, true, true, true, true, true, true, true, true, true, true, true, true, false, false, false, false, false, false, false, false, false, false, false, false, false]) rfl ?_
                                refine StD.take (i := 15) (v := (.bool true)) rfl (Yields.load rfl (Loads.row1 0 rfl tc4 (by rw [bools_getD (by rw [orTo_length]; omega), hpv]))) rfl rfl trivial Among.refl (by rintro _ _ _ ⟨_, _, _, _, h, _⟩; cases h) (by kernel_rfl) (listed' := #[true, true, true, true, true, true, true, true, true, true, true, true, true, true, true, true, false, false, false, false, false, false, false, false, false, false, false, false]) rfl ?_
                                refine StD.take (i := 16) (v := (.bool true)) rfl (Yields.move rfl) rfl rfl trivial Among.refl (by rintro _ _ _ ⟨_, _, _, _, h, _⟩; cases h) (by kernel_rfl) (listed' := #[true, true, true, true, true, true, true, true, true, true, true, true, true, true, true, true, true, false, false, false, false, false, false, false, false, false, false, false]) rfl ?_
                                refine StD.takeNot (i := 17) rfl rfl rfl rfl Among.refl (by rintro _ _ _ ⟨_, _, _, _, h, _⟩; cases h) (by kernel_rfl) (listed' := #[true, true, true, true, true, true, true, true, true, true, true, true, true, true, true, true, true, true, false, false, false, false, false, false, false, false, false, false]) rfl ?_
                                refine StD.takeNot (i := 18) rfl rfl rfl rfl Among.refl (by rintro _ _ _ ⟨_, _, _, _, h, _⟩; cases h) (by kernel_rfl) (listed' := #[true, true, true, true, true, true, true, true, true, true, true, true, true, true, true, true, true, true, true, false, false, false, false, false, false, false, false, false]) rfl ?_
                                refine StD.takeNot (i := 19) rfl rfl rfl rfl Among.refl (by rintro _ _ _ ⟨_, _, _, _, h, _⟩; cases h) (by kernel_rfl) (listed' := #[true, true, true, true, true, true, true, true, true, true, true, true, true, true, true, true, true, true, true, true, false, false, false, false, false, false, false, false]) rfl ?_
                                refine StD.takeNot (i := 20) rfl rfl rfl rfl Among.refl (by rintro _ _ _ ⟨_, _, _, _, h, _⟩; cases h) (by kernel_rfl) (listed' := #[true, true, true, true, true, true, true, true, true, true, true, true, true, true, true, true, true, true, true, true, true, false, false, false, false, false, false, false]) rfl ?_
                                refine StD.takeNot (i := 21) rfl rfl rfl rfl Among.refl (by rintro _ _ _ ⟨_, _, _, _, h, _⟩; cases h) (by kernel_rfl) (listed' := #[true, true, true, true, true, true, true, true, true, true, true, true, true, true, true, true, true, true, true, true, true, true, false, false, false, false, false, false]) rfl ?_
                                refine StD.takeNot (i := 22) rfl rfl rfl rfl Among.refl (by rintro _ _ _ ⟨_, _, _, _, h, _⟩; cases h) (by kernel_rfl) (listed' := #[true, true, true, true, true, true, true, true, true, true, true, true, true, true, true, true, true, true, true, true, true, true, true, false, false, false, false, false]) rfl ?_
                                refine StD.takeNot (i := 23) rfl rfl rfl rfl Among.refl (by rintro _ _ _ ⟨_, _, _, _, h, _⟩; cases h) (by kernel_rfl) (listed' := #[true, true, true, true, true, true, true, true, true, true, true, true, true, true, true, true, true, true, true, true, true, true, true, true, false, false, false, false]) rfl ?_
                                refine StD.takeNot (i := 24) rfl rfl rfl rfl Among.refl (by rintro _ _ _ ⟨_, _, _, _, h, _⟩; cases h) (by kernel_rfl) (listed' := #[true, true, true, true, true, true, true, true, true, true, true, true, true, true, true, true, true, true, true, true, true, true, true, true, true, false, false, false]) rfl ?_
                                refine StD.take (i := 25) (v := (.bool true)) rfl (Yields.pick_t rfl rfl) rfl rfl trivial Among.refl (by rintro _ _ _ ⟨_, _, _, _, h, _⟩; cases h) (by kernel_rfl) (listed' := #[true, true, true, true, true, true, true, true, true, true, true, true, true, true, true, true, true, true, true, true, true, true, true, true, true, true, false, false]) rfl ?_
                                refine StD.take (i := 26) (v := (.pointer (some ⟨gE, j, none⟩))) rfl (Yields.indexAddr ts51 rfl rfl (by omega) (by omega) (p := ⟨gE, j, none⟩) (by rw [add_off]; simp)) rfl rfl trivial Among.refl (by rintro _ _ _ ⟨_, _, _, _, h, _⟩; cases h) (by kernel_rfl) (listed' := #[true, true, true, true, true, true, true, true, true, true, true, true, true, true, true, true, true, true, true, true, true, true, true, true, true, true, true, false]) rfl ?_
                                refine StD.only (i := 27) rfl (by kernel_rfl) (listed' := #[true, true, true, true, true, true, true, true, true, true, true, true, true, true, true, true, true, true, true, true, true, true, true, true, true, true, true, true]) rfl ?_
                                intro hcl56
                                refine St.store_row (R := [Sep C2, blk b48 (.cells #[.int .i64 x16.k, .int .i64 x16.a, .int .i64 x16.v] 29 (0, 0)), row (some ⟨gD, 0, none⟩) n.toNat cD 4 1 (bools m.chg), row (some ⟨b15, 0, none⟩) n.toNat n.toNat 3 1 (ints scells), row (some ⟨gA, 0, none⟩) ((v + 1) + 1) c 53 2 ((cs2 ++ [.slice B2 n.toNat cB2, .slice (some ⟨gE, 0, none⟩) n.toNat cD2]) ++ [.slice B n.toNat cB, .slice (some ⟨gD, 0, none⟩) n.toNat cD])]) rfl rfl 0 rfl rfl tc4 rfl (by rw [bools_length, orTo_length]; omega) trivial ?_
                                refine StD.next hcl56 (fun h => by cases h) ?_
                                refine StD.done (by kernel_rfl) ?_
                                refine St.innorm ?_
                                refine St.norm ?_
                                refine St.region ?_
                                refine St.val (v := (.int .i64 (j : Int))) (Yields.move rfl) trivial rfl rfl ?_
                                refine St.val (v := (.int .i64 ((j : Int) + 1))) (Yields.add rfl rfl (by omega) (by omega)) trivial rfl rfl ?_
                                refine St.val (v := (.int .i64 ((j : Int) + 1))) (Yields.assign rfl) trivial rfl rfl ?_
                                refine St.nil ?_
                                refine St.norm ?_
                                have ho : orTo p.chg m.chg (j + 1) = (orTo p.chg m.chg j).set j true := by rw [orTo, hpv, hmv]; rfl
                                rw [← bools_set, ← ho]
                                intro a w ha hs
                                exact ⟨n.toNat - (j + 1), by omega, j + 1, rfl, by omega, ha.covers ⟨rfl, rfl, rfl, rfl, rfl, rfl, rfl, trivial⟩, hs⟩
                            · skip
                              obtain rfl : j = n.toNat := by omega
                              refine St.seq ?_
                              refine St.seq ?_
                              refine St.region ?_
                              refine St.val (v := (.int .i64 (n.toNat : Int))) (Yields.move rfl) trivial rfl rfl ?_
                              refine St.val (v := (.int .i64 n)) (Yields.move rfl) trivial rfl rfl ?_
                              refine St.val (v := (.bool false)) (Yields.isnt hj (Yields.lt rfl rfl)) trivial rfl rfl ?_
                              refine St.val (v := (.bool false)) (Yields.move rfl) trivial rfl rfl ?_
                              refine St.unwanted rfl rfl rfl ?_
                              refine St.unwanted rfl rfl rfl ?_
                              refine St.val (v := (.bool false)) (Yields.pick_f rfl rfl) trivial rfl rfl ?_
                              refine St.nil ?_
                              refine St.norm ?_
                              refine St.cond_f rfl ?_
                              refine St.exit ?_
                              refine St.thenexit ?_
                              refine St.thenexit ?_
                              refine St.inexit ?_
                              refine St.norm ?_
                              refine St.region ?_
                              refine St.val (v := (.slice (some ⟨gA, 0, none⟩) ((v + 1) + 1) c)) (Yields.move rfl) trivial rfl rfl ?_
                              refine St.val (v := (.int .i64 ((((v + 1) + 1) : Int) - 1))) (Yields.move rfl) trivial rfl rfl ?_
                              refine St.val (v := (.slice (some ⟨gA, 0, none⟩) (v + 1) c)) (Yields.sliceTo (k' := (v + 1)) ts41 rfl rfl (by omega) (by omega)) trivial rfl rfl ?_
                              refine St.val (v := (.slice (some ⟨gA, 0, none⟩) (v + 1) c)) (Yields.assign rfl) trivial rfl rfl ?_
                              refine St.nil ?_
                              refine St.innorm ?_
                              refine St.innorm ?_
                              refine St.norm ?_
                              refine St.region ?_
                              refine St.val (v := (.int .i64 (i : Int))) (Yields.move rfl) trivial rfl rfl ?_
                              refine St.val (v := (.int .i64 ((i : Int) + 1))) (Yields.add rfl rfl (by omega) (by omega)) trivial rfl rfl ?_
                              refine St.val (v := (.int .i64 ((i : Int) + 1))) (Yields.assign rfl) trivial rfl rfl ?_
                              refine St.nil ?_
                              refine St.norm ?_
                              refine St.weak (R := [row (some ⟨gE, 0, none⟩) n.toNat cD2 4 1 (bools (orTo p.chg m.chg n.toNat)), Sep C2, blk b48 (.cells #[.int .i64 x16.k, .int .i64 x16.a, .int .i64 x16.v] 29 (0, 0)), row (some ⟨gD, 0, none⟩) n.toNat cD 4 1 (bools m.chg), row (some ⟨b15, 0, none⟩) n.toNat n.toNat 3 1 (ints scells)]) (c' := row (some ⟨gA, 0, none⟩) (v + 1) c 53 2 (cs2 ++ [.slice B2 n.toNat cB2, .slice (some ⟨gE, 0, none⟩) n.toNat cD2])) 5 rfl rfl (fun m hm => by have h := row_take (v + 1) (by omega) hm; rwa [takelo hcl2] at h) ?_
                              refine St.pick (R := [row (some ⟨gA, 0, none⟩) (v + 1) c 53 2 (cs2 ++ [.slice B2 n.toNat cB2, .slice (some ⟨gE, 0, none⟩) n.toNat cD2]), row (some ⟨gE, 0, none⟩) n.toNat cD2 4 1 (bools (orTo p.chg m.chg n.toNat)), blk b48 (.cells #[.int .i64 x16.k, .int .i64 x16.a, .int .i64 x16.v] 29 (0, 0)), row (some ⟨gD, 0, none⟩) n.toNat cD 4 1 (bools m.chg), row (some ⟨b15, 0, none⟩) n.toNat n.toNat 3 1 (ints scells)]) 2 rfl rfl ?_
                              refine St.pick (R := [Sep C2, row (some ⟨gA, 0, none⟩) (v + 1) c 53 2 (cs2 ++ [.slice B2 n.toNat cB2, .slice (some ⟨gE, 0, none⟩) n.toNat cD2]), blk b48 (.cells #[.int .i64 x16.k, .int .i64 x16.a, .int .i64 x16.v] 29 (0, 0)), row (some ⟨gD, 0, none⟩) n.toNat cD 4 1 (bools m.chg), row (some ⟨b15, 0, none⟩) n.toNat n.toNat 3 1 (ints scells)]) 2 rfl rfl ?_
                              refine St.star_in ?_
                              have hst : RS.step n.toNat ⟨scells, m :: p :: r2⟩ x16 = ⟨scells, ⟨p.bef, orTo p.chg m.chg n.toNat⟩ :: r2⟩ := by unfold RS.step; rw [if_neg (by omega), if_neg (by omega)]; simp only; rw [if_neg (by omega), if_pos q54]
                              rw [if_neg (by simp; try omega), hst] at hp
                              rw [hst] at hwf2 hsl
                              intro a w ha hs
                              exact ⟨k - (i + 1), by omega, i + 1, (v + 1), ⟨scells, ⟨p.bef, orTo p.chg m.chg n.toNat⟩ :: r2⟩, some ⟨gA, 0, none⟩, c, _, _, F1, rfl, by omega, by first | (simp; done) | (simp; omega) | omega, by omega, hp, hwf2, hle, ⟨_, _, _, _, _, _, rfl, rfl, hB2, hcB2, hMC⟩, ha.covers ⟨rfl, rfl, rfl, rfl, rfl, trivial⟩, (Among.of (Among.take 4 rfl rfl (Among.take 1 rfl rfl (Among.take 0 rfl rfl Among.none))) _ hs)⟩
                      · skip
                        refine St.val (v := (.bool false)) (Yields.isnt q54 (Yields.eq rfl rfl)) trivial rfl rfl ?_
                        refine St.val (v := (.bool false)) (Yields.assign rfl) trivial rfl rfl ?_
                        refine St.nil ?_
                        refine St.norm ?_
                        refine St.cond_f rfl ?_
                        refine St.seq ?_
                        refine St.region ?_
                        refine St.val (v := (.bool true)) (Yields.is (by omega) (Yields.eq rfl rfl)) trivial rfl rfl ?_
                        refine St.val (v := (.bool true)) (Yields.assign rfl) trivial rfl rfl ?_
                        refine St.nil ?_
                        refine St.norm ?_
                        refine St.cond_t rfl ?_
                        refine St.seq ?_
                        refine St.region ?_
                        refine St.val (v := (.slice (some ⟨b15, 0, none⟩) n.toNat n.toNat)) (Yields.move rfl) trivial rfl rfl ?_
                        refine St.val (v := (.slice (some ⟨gA, 0, none⟩) (u + 1) c)) (Yields.move rfl) trivial rfl rfl ?_
                        refine St.val (v := (.int .i64 (((u + 1) : Int) - 1))) (Yields.move rfl) trivial rfl rfl ?_
                        refine St.val (v := (.pointer (some ⟨gA, u * 2, none⟩))) (Yields.indexAddr ts41 rfl rfl (by omega) (by omega) (p := ⟨gA, u * 2, none⟩) (by rw [add_off]; congr 1; omega)) trivial rfl rfl ?_
                        refine St.val (v := (.pointer (some ⟨gA, u * 2, none⟩))) (Yields.fieldAddr (v := (.pointer (some ⟨gA, u * 2, none⟩))) rfl (fun _ => by kernel_rfl)) trivial rfl rfl ?_
                        refine St.val (v := (.slice B n.toNat cB)) (Yields.load rfl (Loads.row1 4 rfl tc23 (at0 hcl2))) trivial rfl rfl ?_
                        refine St.copy_all (R := [blk b48 (.cells #[.int .i64 x16.k, .int .i64 x16.a, .int .i64 x16.v] 29 (0, 0)), row (some ⟨gD, 0, none⟩) n.toNat cD 4 1 (bools m.chg), Sep C', row (some ⟨gA, 0, none⟩) (u + 1) c 53 2 (cs' ++ [.slice B n.toNat cB, .slice (some ⟨gD, 0, none⟩) n.toNat cD])]) ts23 rfl rfl hB rfl (by omega) (by omega) 3 rfl rfl rfl trivial ?_
                        intro nw57 hn58
                        obtain rfl := cat_ints hn58
                        refine St.nil ?_
                        refine St.norm ?_
                        refine St.region ?_
                        refine St.val (v := (.slice (some ⟨gA, 0, none⟩) (u + 1) c)) (Yields.move rfl) trivial rfl rfl ?_
                        refine St.val (v := (.int .i64 (((u + 1) : Int) - 1))) (Yields.move rfl) trivial rfl rfl ?_
                        refine St.val (v := (.slice (some ⟨gA, 0, none⟩) u c)) (Yields.sliceTo (k' := u) ts41 rfl rfl (by omega) (by omega)) trivial rfl rfl ?_
                        refine St.val (v := (.slice (some ⟨gA, 0, none⟩) u c)) (Yields.assign rfl) trivial rfl rfl ?_
                        refine St.nil ?_
                        refine St.innorm ?_
                        refine St.innorm ?_
                        refine St.norm ?_
                        refine St.region ?_
                        refine St.val (v := (.int .i64 (i : Int))) (Yields.move rfl) trivial rfl rfl ?_
                        refine St.val (v := (.int .i64 ((i : Int) + 1))) (Yields.add rfl rfl (by omega) (by omega)) trivial rfl rfl ?_
                        refine St.val (v := (.int .i64 ((i : Int) + 1))) (Yields.assign rfl) trivial rfl rfl ?_
                        refine St.nil ?_
                        refine St.norm ?_
                        refine St.weak (R := [row (some ⟨b15, 0, none⟩) n.toNat n.toNat 3 1 (ints m.bef), blk b48 (.cells #[.int .i64 x16.k, .int .i64 x16.a, .int .i64 x16.v] 29 (0, 0)), row (some ⟨gD, 0, none⟩) n.toNat cD 4 1 (bools m.chg), Sep C']) (c' := row (some ⟨gA, 0, none⟩) u c 53 2 cs') 4 rfl rfl (fun m hm => by have h := row_take u (by omega) hm; rwa [takelo hcl2] at h) ?_
                        have hst : RS.step n.toNat ⟨scells, m :: r⟩ x16 = ⟨m.bef, r⟩ := by unfold RS.step; rw [if_neg (by omega), if_neg (by omega)]; simp only; rw [if_neg (by omega), if_neg (by omega)]
                        rw [if_neg (by simp; try omega), hst] at hp
                        rw [hst] at hwf2 hsl
                        intro a w ha hs
                        exact ⟨k - (i + 1), by omega, i + 1, u, ⟨m.bef, r⟩, some ⟨gA, 0, none⟩, c, cs', C', F1, rfl, by omega, by first | (simp; done) | (simp; omega) | omega, by omega, hp, hwf2, hle, hMC, ha.covers ⟨rfl, rfl, rfl, rfl, rfl, trivial⟩, (Among.of (Among.take 1 rfl rfl (Among.take 0 rfl rfl (Among.take 2 rfl rfl Among.none))) _ hs)⟩
                  · skip
                    refine St.val (v := (.bool false)) (Yields.isnt q49 (Yields.ge rfl rfl)) trivial rfl rfl ?_
                    refine St.val (v := (.bool false)) (Yields.move rfl) trivial rfl rfl ?_
                    refine St.unwanted rfl rfl rfl ?_
                    refine St.unwanted rfl rfl rfl ?_
                    refine St.val (v := (.bool false)) (Yields.pick_f rfl rfl) trivial rfl rfl ?_
                    refine St.nil ?_
                    refine St.norm ?_
                    refine St.cond_f rfl ?_
                    refine St.skip ?_
                    refine St.norm ?_
                    refine St.seq ?_
                    refine St.region ?_
                    refine St.val (v := (.pointer (some ⟨b48, 0, none⟩))) (Yields.fieldAddr (v := (.pointer (some ⟨b48, 0, none⟩))) rfl (fun _ => by kernel_rfl)) trivial rfl rfl ?_
                    refine St.val (v := (.int .i64 x16.k)) (Yields.load rfl (Loads.H1 0 rfl tc3 rfl)) trivial rfl rfl ?_
                    refine St.nil ?_
                    refine St.norm ?_
                    refine St.block ?_
                    refine St.seq ?_
                    refine St.region ?_
                    by_cases q59 : x16.k = 0
                    · skip
                      refine St.val (v := (.bool true)) (Yields.is q59 (Yields.eq rfl rfl)) trivial rfl rfl ?_
                      refine St.val (v := (.bool true)) (Yields.assign rfl) trivial rfl rfl ?_
                      refine St.nil ?_
                      refine St.norm ?_
                      refine St.cond_t rfl ?_
                      refine St.seq ?_
                      refine St.region ?_
                      refine St.val (v := (.slice (some ⟨b15, 0, none⟩) n.toNat n.toNat)) (Yields.move rfl) trivial rfl rfl ?_
                      refine St.val (v := (.pointer (some ⟨b48, 1, none⟩))) (Yields.fieldAddr (v := (.pointer (some ⟨b48, 1, none⟩))) rfl (fun _ => by kernel_rfl)) trivial rfl rfl ?_
                      refine St.val (v := (.int .i64 x16.a)) (Yields.load rfl (Loads.H1 0 rfl tc3 rfl)) trivial rfl rfl ?_
                      refine St.val (v := (.pointer (some ⟨b48, 2, none⟩))) (Yields.fieldAddr (v := (.pointer (some ⟨b48, 2, none⟩))) rfl (fun _ => by kernel_rfl)) trivial rfl rfl ?_
                      refine St.val (v := (.int .i64 x16.v)) (Yields.load rfl (Loads.H1 0 rfl tc3 rfl)) trivial rfl rfl ?_
                      refine St.val (v := (.pointer (some ⟨b15, x16.a.toNat, none⟩))) (Yields.indexAddr ts23 rfl rfl (by omega) (by omega) (p := ⟨b15, x16.a.toNat, none⟩) (by rw [add_off]; simp)) trivial rfl rfl ?_
                      refine St.store_row (R := [blk b48 (.cells #[.int .i64 x16.k, .int .i64 x16.a, .int .i64 x16.v] 29 (0, 0)), row (some ⟨gD, 0, none⟩) n.toNat cD 4 1 (bools m.chg), Sep C', row (some ⟨gA, 0, none⟩) (u + 1) c 53 2 (cs' ++ [.slice B n.toNat cB, .slice (some ⟨gD, 0, none⟩) n.toNat cD])]) rfl rfl 3 rfl rfl tc3 rfl (by rw [ints_length]; omega) trivial ?_
                      refine St.nil ?_
                      refine St.norm ?_
                      refine St.seq ?_
                      refine St.region ?_
                      refine St.val (v := (.int .i64 (((u + 1) : Int) - 1))) (Yields.move rfl) trivial rfl rfl ?_
                      refine St.val (v := (.bool true)) (Yields.is (by omega) (Yields.ge rfl rfl)) trivial rfl rfl ?_
                      refine St.nil ?_
                      refine St.norm ?_
                      refine St.cond_t rfl ?_
                      refine StD.start [8] [row (some ⟨b15, 0, none⟩) n.toNat n.toNat 3 1 (((ints scells)).set x16.a.toNat (.int .i64 x16.v)), blk b48 (.cells #[.int .i64 x16.k, .int .i64 x16.a, .int .i64 x16.v] 29 (0, 0)), row (some ⟨gD, 0, none⟩) n.toNat cD 4 1 (bools m.chg), Sep C', row (some ⟨gA, 0, none⟩) (u + 1) c 53 2 (cs' ++ [.slice B n.toNat cB, .slice (some ⟨gD, 0, none⟩) n.toNat cD])] hmix ?_
                      refine StD.take (i := 0) (v := (.slice (some ⟨gA, 0, none⟩) (u + 1) c)) rfl (Yields.move rfl) rfl rfl trivial Among.refl (by rintro _ _ _ ⟨_, _, _, _, h, _⟩; cases h) (by kernel_rfl) (listed' := #[true, false, false, false, false, false, false, false, false]) rfl ?_
                      refine StD.take (i := 1) (v := (.int .i64 (((u + 1) : Int) - 1))) rfl (Yields.move rfl) rfl rfl trivial Among.refl (by rintro _ _ _ ⟨_, _, _, _, h, _⟩; cases h) (by kernel_rfl) (listed' := #[true, true, false, false, false, false, false, false, false]) rfl ?_
                      refine StD.take (i := 2) (v := (.pointer (some ⟨gA, u * 2, none⟩))) rfl (Yields.indexAddr ts41 rfl rfl (by omega) (by omega) (p := ⟨gA, u * 2, none⟩) (by rw [add_off]; congr 1; omega)) rfl rfl trivial Among.refl (by rintro _ _ _ ⟨_, _, _, _, h, _⟩; cases h) (by kernel_rfl) (listed' := #[true, true, true, false, false, false, false, false, false]) rfl ?_
                      refine StD.take (i := 3) (v := (.pointer (some ⟨gA, u * 2 + 1, none⟩))) rfl (Yields.fieldAddr (v := (.pointer (some ⟨gA, u * 2 + 1, none⟩))) rfl (fun _ => by kernel_rfl)) rfl rfl trivial Among.refl (by rintro _ _ _ ⟨_, _, _, _, h, _⟩; cases h) (by kernel_rfl) (listed' := #[true, true, true, true, false, false, false, false, false]) rfl ?_
                      refine StD.take (i := 4) (v := (.slice (some ⟨gD, 0, none⟩) n.toNat cD)) rfl (Yields.load rfl (Loads.row1 4 rfl tc51 (at1 hcl2))) rfl rfl trivial Among.refl (by rintro _ _ _ ⟨_, _, _, _, h, _⟩; cases h) (by kernel_rfl) (listed' := #[true, true, true, true, true, false, false, false, false]) rfl ?_
                      refine StD.take (i := 5) (v := (.pointer (some ⟨b48, 1, none⟩))) rfl (Yields.fieldAddr (v := (.pointer (some ⟨b48, 1, none⟩))) rfl (fun _ => by kernel_rfl)) rfl rfl trivial Among.refl (by rintro _ _ _ ⟨_, _, _, _, h, _⟩; cases h) (by kernel_rfl) (listed' := #[true, true, true, true, true, true, false, false, false]) rfl ?_
                      refine StD.take (i := 6) (v := (.int .i64 x16.a)) rfl (Yields.load rfl (Loads.H1 1 rfl tc3 rfl)) rfl rfl trivial Among.refl (by rintro _ _ _ ⟨_, _, _, _, h, _⟩; cases h) (by kernel_rfl) (listed' := #[true, true, true, true, true, true, true, false, false]) rfl ?_
                      refine StD.take (i := 7) (v := (.pointer (some ⟨gD, x16.a.toNat, none⟩))) rfl (Yields.indexAddr ts51 rfl rfl (by omega) (by omega) (p := ⟨gD, x16.a.toNat, none⟩) (by rw [add_off]; simp)) rfl rfl trivial Among.refl (by rintro _ _ _ ⟨_, _, _, _, h, _⟩; cases h) (by kernel_rfl) (listed' := #[true, true, true, true, true, true, true, true, false]) rfl ?_
                      refine StD.only (i := 8) rfl (by kernel_rfl) (listed' := #[true, true, true, true, true, true, true, true, true]) rfl ?_
                      intro hcl60
                      refine St.store_row (R := [row (some ⟨b15, 0, none⟩) n.toNat n.toNat 3 1 (((ints scells)).set x16.a.toNat (.int .i64 x16.v)), blk b48 (.cells #[.int .i64 x16.k, .int .i64 x16.a, .int .i64 x16.v] 29 (0, 0)), Sep C', row (some ⟨gA, 0, none⟩) (u + 1) c 53 2 (cs' ++ [.slice B n.toNat cB, .slice (some ⟨gD, 0, none⟩) n.toNat cD])]) rfl rfl 2 rfl rfl tc4 rfl (by rw [bools_length]; omega) trivial ?_
                      refine StD.next hcl60 (fun h => by cases h) ?_
                      refine StD.done (by kernel_rfl) ?_
                      refine St.innorm ?_
                      refine St.innorm ?_
                      refine St.norm ?_
                      refine St.region ?_
                      refine St.val (v := (.int .i64 (i : Int))) (Yields.move rfl) trivial rfl rfl ?_
                      refine St.val (v := (.int .i64 ((i : Int) + 1))) (Yields.add rfl rfl (by omega) (by omega)) trivial rfl rfl ?_
                      refine St.val (v := (.int .i64 ((i : Int) + 1))) (Yields.assign rfl) trivial rfl rfl ?_
                      refine St.nil ?_
                      refine St.norm ?_
                      rw [← ints_set]
                      rw [← bools_set]
                      refine St.pick (R := [row (some ⟨gD, 0, none⟩) n.toNat cD 4 1 (bools (m.chg.set x16.a.toNat true)), row (some ⟨b15, 0, none⟩) n.toNat n.toNat 3 1 (ints (scells.set x16.a.toNat x16.v)), blk b48 (.cells #[.int .i64 x16.k, .int .i64 x16.a, .int .i64 x16.v] 29 (0, 0)), row (some ⟨gA, 0, none⟩) (u + 1) c 53 2 (cs' ++ [.slice B n.toNat cB, .slice (some ⟨gD, 0, none⟩) n.toNat cD])]) 3 rfl rfl ?_
                      refine St.pick (R := [Sep C', row (some ⟨b15, 0, none⟩) n.toNat n.toNat 3 1 (ints (scells.set x16.a.toNat x16.v)), blk b48 (.cells #[.int .i64 x16.k, .int .i64 x16.a, .int .i64 x16.v] 29 (0, 0)), row (some ⟨gA, 0, none⟩) (u + 1) c 53 2 (cs' ++ [.slice B n.toNat cB, .slice (some ⟨gD, 0, none⟩) n.toNat cD])]) 1 rfl rfl ?_
                      refine St.star_in ?_
                      have hst : RS.step n.toNat ⟨scells, m :: r⟩ x16 = ⟨scells.set x16.a.toNat x16.v, ⟨m.bef, m.chg.set x16.a.toNat true⟩ :: r⟩ := by unfold RS.step; rw [if_pos q59]; rfl
                      rw [if_neg (by simp; try omega), hst] at hp
                      rw [hst] at hwf2 hsl
                      intro a w ha hs
                      exact ⟨k - (i + 1), by omega, i + 1, u + 1, ⟨scells.set x16.a.toNat x16.v, ⟨m.bef, m.chg.set x16.a.toNat true⟩ :: r⟩, some ⟨gA, 0, none⟩, c, _, _, F1, rfl, by omega, by first | (simp; done) | (simp; omega) | omega, by omega, hp, hwf2, hle, ⟨_, _, _, _, _, _, rfl, rfl, hB, hcB, hMC⟩, ha.covers ⟨rfl, rfl, rfl, rfl, rfl, trivial⟩, (Among.of (Among.take 1 rfl rfl (Among.take 2 rfl rfl (Among.take 0 rfl rfl Among.none))) _ hs)⟩
                    · skip
                      refine St.val (v := (.bool false)) (Yields.isnt q59 (Yields.eq rfl rfl)) trivial rfl rfl ?_
                      refine St.val (v := (.bool false)) (Yields.assign rfl) trivial rfl rfl ?_
                      refine St.nil ?_
                      refine St.norm ?_
                      refine St.cond_f rfl ?_
                      refine St.seq ?_
                      refine St.region ?_
                      refine St.val (v := (.bool true)) (Yields.is (by omega) (Yields.eq rfl rfl)) trivial rfl rfl ?_
                      refine St.val (v := (.bool true)) (Yields.assign rfl) trivial rfl rfl ?_
                      refine St.nil ?_
                      refine St.norm ?_
                      refine St.cond_t rfl ?_
                      refine StD.start [] [blk b48 (.cells #[.int .i64 x16.k, .int .i64 x16.a, .int .i64 x16.v] 29 (0, 0)), row (some ⟨gD, 0, none⟩) n.toNat cD 4 1 (bools m.chg), Sep C', row (some ⟨b15, 0, none⟩) n.toNat n.toNat 3 1 (ints scells)] hmix ?_
                      refine StD.take (i := 0) (v := (.slice (some ⟨gA, 0, none⟩) (u + 1) c)) rfl (Yields.move rfl) rfl rfl trivial (Among.of (Among.take 0 rfl rfl (Among.take 0 rfl rfl (Among.take 0 rfl rfl (Among.take 0 rfl rfl Among.none))))) (by rintro _ _ _ ⟨_, _, _, _, h, _⟩; cases h) (by kernel_rfl) (listed' := #[true, false, false, false, false, false, false, false, false]) rfl ?_
                      refine StD.take (i := 1) (v := (.slice (some ⟨b15, 0, none⟩) n.toNat n.toNat)) rfl (Yields.move rfl) rfl rfl trivial (Among.of (Among.take 0 rfl rfl (Among.take 0 rfl rfl (Among.take 0 rfl rfl (Among.take 0 rfl rfl Among.none))))) (by rintro _ _ _ ⟨_, _, _, _, h, _⟩; cases h) (by kernel_rfl) (listed' := #[true, true, false, false, false, false, false, false, false]) rfl ?_
                      refine StD.take (i := 3) (v := (.int .i64 n)) rfl (Yields.move rfl) rfl rfl trivial (Among.of (Among.take 0 rfl rfl (Among.take 0 rfl rfl (Among.take 0 rfl rfl (Among.take 0 rfl rfl Among.none))))) (by rintro _ _ _ ⟨_, _, _, _, h, _⟩; cases h) (by kernel_rfl) (listed' := #[true, true, false, true, false, false, false, false, false]) rfl ?_
                      refine StD.two (i := 2) (j := 4) rfl rfl (by kernel_rfl) (l1 := #[true, true, true, true, false, false, false, false, false]) (l2 := #[true, true, false, true, true, false, false, false, false]) rfl rfl ?_ ?_
                      · intro hcl61
                        refine St.row_new 3 1 ?_
                        refine St.append_row (R := [blk b48 (.cells #[.int .i64 x16.k, .int .i64 x16.a, .int .i64 x16.v] 29 (0, 0)), row (some ⟨gD, 0, none⟩) n.toNat cD 4 1 (bools m.chg), Sep C', row (some ⟨b15, 0, none⟩) n.toNat n.toNat 3 1 (ints scells), row (some ⟨gA, 0, none⟩) (u + 1) c 53 2 (cs' ++ [.slice B n.toNat cB, .slice (some ⟨gD, 0, none⟩) n.toNat cD])]) ts23 rfl rfl rfl 0 rfl rfl 4 rfl (by decide) (by omega) rfl (ints_one _) rfl trivial ?_
                        intro A62 c63
                        refine StD.next hcl61 (fun _ => (Among.of (Among.take 1 rfl rfl (Among.take 1 rfl rfl (Among.take 1 rfl rfl (Among.take 1 rfl rfl Among.none)))))) ?_
                        refine StD.only (i := 4) rfl (by kernel_rfl) (listed' := #[true, true, true, true, true, false, false, false, false]) rfl ?_
                        intro hcl64
                        refine St.make1 ts51 tz4 rfl rfl rfl (by omega) (by omega) (by omega) rfl rfl trivial ?_
                        intro b65
                        refine StD.next hcl64 (fun _ => (Among.of (Among.take 2 rfl rfl (Among.take 2 rfl rfl (Among.take 2 rfl rfl (Among.take 2 rfl rfl Among.none)))))) ?_
                        refine StD.take (i := 5) (v := (.agg #[.slice A62 (0 + n.toNat) c63, .slice (some ⟨b65, 0, none⟩) n.toNat n.toNat])) rfl (Yields.build (v := (.agg #[.slice A62 (0 + n.toNat) c63, .slice (some ⟨b65, 0, none⟩) n.toNat n.toNat])) (vs := #[(0, .slice A62 (0 + n.toNat) c63), (1, .slice (some ⟨b65, 0, none⟩) n.toNat n.toNat)]) (fun _ ha => evp2 ha rfl rfl) (fun _ => by kernel_rfl)) rfl rfl trivial (Among.of (Among.take 2 rfl rfl (Among.take 2 rfl rfl (Among.take 2 rfl rfl (Among.take 2 rfl rfl Among.none))))) (by rintro _ _ _ ⟨_, _, _, _, h, _⟩; cases h) (by kernel_rfl) (listed' := #[true, true, true, true, true, true, false, false, false]) rfl ?_
                        refine StD.only (i := 6) rfl (by kernel_rfl) (listed' := #[true, true, true, true, true, true, true, false, false]) rfl ?_
                        intro hcl66
                        refine St.buildSlice (e := 53) (cells := #[.slice A62 (0 + n.toNat) c63, .slice (some ⟨b65, 0, none⟩) n.toNat n.toNat]) (vs := #[(0, .agg #[.slice A62 (0 + n.toNat) c63, .slice (some ⟨b65, 0, none⟩) n.toNat n.toNat])]) (fun _ ha => evp1 ha rfl) (fun _ => by kernel_rfl) rfl trivial ?_
                        intro b67
                        refine StD.next hcl66 (fun _ => (Among.of (Among.take 3 rfl rfl (Among.take 3 rfl rfl (Among.take 3 rfl rfl (Among.take 3 rfl rfl Among.none)))))) ?_
                        refine StD.only (i := 7) rfl (by kernel_rfl) (listed' := #[true, true, true, true, true, true, true, true, false]) rfl ?_
                        intro hcl68
                        refine St.append_lit (R := [blk b67 (.cells #[.slice A62 (0 + n.toNat) c63, .slice (some ⟨b65, 0, none⟩) n.toNat n.toNat] 53 (0, 0)), row (some ⟨b65, 0, none⟩) n.toNat n.toNat 4 1 (List.replicate n.toNat (.bool false)), row A62 (0 + n.toNat) c63 3 1 ([] ++ (ints scells)), blk b48 (.cells #[.int .i64 x16.k, .int .i64 x16.a, .int .i64 x16.v] 29 (0, 0)), row (some ⟨gD, 0, none⟩) n.toNat cD 4 1 (bools m.chg), Sep C', row (some ⟨b15, 0, none⟩) n.toNat n.toNat 3 1 (ints scells)]) ts41 rfl rfl rfl 7 rfl rfl 0 rfl rfl rfl (by omega) rfl rfl trivial ?_
                        intro A69 c70
                        refine St.pick (R := [row A69 ((u + 1) + 1) c70 53 2 ((cs' ++ [.slice B n.toNat cB, .slice (some ⟨gD, 0, none⟩) n.toNat cD]) ++ [.slice A62 (0 + n.toNat) c63, .slice (some ⟨b65, 0, none⟩) n.toNat n.toNat]), row (some ⟨b65, 0, none⟩) n.toNat n.toNat 4 1 (List.replicate n.toNat (.bool false)), row A62 (0 + n.toNat) c63 3 1 ([] ++ (ints scells)), blk b48 (.cells #[.int .i64 x16.k, .int .i64 x16.a, .int .i64 x16.v] 29 (0, 0)), row (some ⟨gD, 0, none⟩) n.toNat cD 4 1 (bools m.chg), Sep C', row (some ⟨b15, 0, none⟩) n.toNat n.toNat 3 1 (ints scells)]) 1 rfl rfl ?_
                        refine St.drop ?_
                        refine StD.next hcl68 (fun _ => (Among.of (Among.take 3 rfl rfl (Among.take 3 rfl rfl (Among.take 3 rfl rfl (Among.take 3 rfl rfl Among.none)))))) ?_
                        refine StD.take (i := 8) (v := (.slice A69 ((u + 1) + 1) c70)) rfl (Yields.assign rfl) rfl rfl trivial (Among.of (Among.take 3 rfl rfl (Among.take 3 rfl rfl (Among.take 3 rfl rfl (Among.take 3 rfl rfl Among.none))))) (by rintro _ _ _ ⟨_, _, _, _, h, _⟩; cases h) (by kernel_rfl) (listed' := #[true, true, true, true, true, true, true, true, true]) rfl ?_
                        refine StD.done (by kernel_rfl) ?_
                        refine St.innorm ?_
                        refine St.innorm ?_
                        refine St.norm ?_
                        refine St.region ?_
                        refine St.val (v := (.int .i64 (i : Int))) (Yields.move rfl) trivial rfl rfl ?_
                        refine St.val (v := (.int .i64 ((i : Int) + 1))) (Yields.add rfl rfl (by omega) (by omega)) trivial rfl rfl ?_
                        refine St.val (v := (.int .i64 ((i : Int) + 1))) (Yields.assign rfl) trivial rfl rfl ?_
                        refine St.nil ?_
                        refine St.norm ?_
                        rw [Nat.zero_add n.toNat, List.nil_append (ints scells), ← bools_replicate]
                        refine St.row_facts 2 rfl ?_
                        intro _ hcN _
                        refine St.freeze_row (R := [row A69 ((u + 1) + 1) c70 53 2 ((cs' ++ [.slice B n.toNat cB, .slice (some ⟨gD, 0, none⟩) n.toNat cD]) ++ [.slice A62 n.toNat c63, .slice (some ⟨b65, 0, none⟩) n.toNat n.toNat]), row (some ⟨b65, 0, none⟩) n.toNat n.toNat 4 1 (bools (List.replicate n.toNat false)), blk b48 (.cells #[.int .i64 x16.k, .int .i64 x16.a, .int .i64 x16.v] 29 (0, 0)), row (some ⟨gD, 0, none⟩) n.toNat cD 4 1 (bools m.chg), Sep C', row (some ⟨b15, 0, none⟩) n.toNat n.toNat 3 1 (ints scells)]) (D := Kind.int .i64) (xs := scells) 2 rfl rfl rfl hcl (ints_cat _) ?_
                        intro F2 hle2 hB2
                        replace hS := Slc.mono hle2 hS
                        replace hMC := MC.mono hle2 hMC
                        replace hc22 := fun j v e => PH.cell?_le hle2 (hc22 j v e)
                        replace hB := Slc.mono hle2 hB
                        refine St.pick (R := [row A69 ((u + 1) + 1) c70 53 2 ((cs' ++ [.slice B n.toNat cB, .slice (some ⟨gD, 0, none⟩) n.toNat cD]) ++ [.slice A62 n.toNat c63, .slice (some ⟨b65, 0, none⟩) n.toNat n.toNat]), row (some ⟨b65, 0, none⟩) n.toNat n.toNat 4 1 (bools (List.replicate n.toNat false)), blk b48 (.cells #[.int .i64 x16.k, .int .i64 x16.a, .int .i64 x16.v] 29 (0, 0)), row (some ⟨gD, 0, none⟩) n.toNat cD 4 1 (bools m.chg), row (some ⟨b15, 0, none⟩) n.toNat n.toNat 3 1 (ints scells)]) 4 rfl rfl ?_
                        refine St.pick (R := [Sep C', row A69 ((u + 1) + 1) c70 53 2 ((cs' ++ [.slice B n.toNat cB, .slice (some ⟨gD, 0, none⟩) n.toNat cD]) ++ [.slice A62 n.toNat c63, .slice (some ⟨b65, 0, none⟩) n.toNat n.toNat]), row (some ⟨b65, 0, none⟩) n.toNat n.toNat 4 1 (bools (List.replicate n.toNat false)), blk b48 (.cells #[.int .i64 x16.k, .int .i64 x16.a, .int .i64 x16.v] 29 (0, 0)), row (some ⟨b15, 0, none⟩) n.toNat n.toNat 3 1 (ints scells)]) 4 rfl rfl ?_
                        refine St.star_in ?_
                        refine St.pick (R := [row A69 ((u + 1) + 1) c70 53 2 ((cs' ++ [.slice B n.toNat cB, .slice (some ⟨gD, 0, none⟩) n.toNat cD]) ++ [.slice A62 n.toNat c63, .slice (some ⟨b65, 0, none⟩) n.toNat n.toNat]), row (some ⟨b65, 0, none⟩) n.toNat n.toNat 4 1 (bools (List.replicate n.toNat false)), blk b48 (.cells #[.int .i64 x16.k, .int .i64 x16.a, .int .i64 x16.v] 29 (0, 0)), row (some ⟨b15, 0, none⟩) n.toNat n.toNat 3 1 (ints scells)]) 0 rfl rfl ?_
                        refine St.pick (R := [Sep (row (some ⟨gD, 0, none⟩) n.toNat cD 4 1 (bools m.chg) :: C'), row A69 ((u + 1) + 1) c70 53 2 ((cs' ++ [.slice B n.toNat cB, .slice (some ⟨gD, 0, none⟩) n.toNat cD]) ++ [.slice A62 n.toNat c63, .slice (some ⟨b65, 0, none⟩) n.toNat n.toNat]), blk b48 (.cells #[.int .i64 x16.k, .int .i64 x16.a, .int .i64 x16.v] 29 (0, 0)), row (some ⟨b15, 0, none⟩) n.toNat n.toNat 3 1 (ints scells)]) 2 rfl rfl ?_
                        refine St.star_in ?_
                        have hst : RS.step n.toNat ⟨scells, m :: r⟩ x16 = ⟨scells, ⟨scells, List.replicate n.toNat false⟩ :: (m :: r)⟩ := by unfold RS.step; rw [if_neg (by omega), if_pos (by omega)]
                        rw [if_neg (by simp; try omega), hst] at hp
                        rw [hst] at hwf2 hsl
                        intro a w ha hs
                        exact ⟨k - (i + 1), by omega, i + 1, (u + 1) + 1, ⟨scells, ⟨scells, List.replicate n.toNat false⟩ :: (m :: r)⟩, A69, c70, _, _, F2, rfl, by omega, by first | (simp; done) | (simp; omega) | omega, by omega, hp, hwf2, (PH.le_trans hle hle2), ⟨_, _, _, _, _, _, rfl, rfl, hB2, hcN, ⟨_, _, _, _, _, _, rfl, rfl, hB, hcB, hMC⟩⟩, ha.covers ⟨rfl, rfl, rfl, rfl, rfl, trivial⟩, (Among.of (Among.take 3 rfl rfl (Among.take 1 rfl rfl (Among.take 0 rfl rfl Among.none))) _ hs)⟩
                      · intro hcl71
                        refine St.make1 ts51 tz4 rfl rfl rfl (by omega) (by omega) (by omega) rfl rfl trivial ?_
                        intro b72
                        refine StD.next hcl71 (fun _ => (Among.of (Among.take 1 rfl rfl (Among.take 1 rfl rfl (Among.take 1 rfl rfl (Among.take 1 rfl rfl Among.none)))))) ?_
                        refine StD.only (i := 2) rfl (by kernel_rfl) (listed' := #[true, true, true, true, true, false, false, false, false]) rfl ?_
                        intro hcl73
                        refine St.row_new 3 1 ?_
                        refine St.append_row (R := [row (some ⟨b72, 0, none⟩) n.toNat n.toNat 4 1 (List.replicate n.toNat (.bool false)), blk b48 (.cells #[.int .i64 x16.k, .int .i64 x16.a, .int .i64 x16.v] 29 (0, 0)), row (some ⟨gD, 0, none⟩) n.toNat cD 4 1 (bools m.chg), Sep C', row (some ⟨b15, 0, none⟩) n.toNat n.toNat 3 1 (ints scells), row (some ⟨gA, 0, none⟩) (u + 1) c 53 2 (cs' ++ [.slice B n.toNat cB, .slice (some ⟨gD, 0, none⟩) n.toNat cD])]) ts23 rfl rfl rfl 0 rfl rfl 5 rfl (by decide) (by omega) rfl (ints_one _) rfl trivial ?_
                        intro A74 c75
                        refine StD.next hcl73 (fun _ => (Among.of (Among.take 2 rfl rfl (Among.take 2 rfl rfl (Among.take 2 rfl rfl (Among.take 2 rfl rfl Among.none)))))) ?_
                        refine StD.take (i := 5) (v := (.agg #[.slice A74 (0 + n.toNat) c75, .slice (some ⟨b72, 0, none⟩) n.toNat n.toNat])) rfl (Yields.build (v := (.agg #[.slice A74 (0 + n.toNat) c75, .slice (some ⟨b72, 0, none⟩) n.toNat n.toNat])) (vs := #[(0, .slice A74 (0 + n.toNat) c75), (1, .slice (some ⟨b72, 0, none⟩) n.toNat n.toNat)]) (fun _ ha => evp2 ha rfl rfl) (fun _ => by kernel_rfl)) rfl rfl trivial (Among.of (Among.take 2 rfl rfl (Among.take 2 rfl rfl (Among.take 2 rfl rfl (Among.take 2 rfl rfl Among.none))))) (by rintro _ _ _ ⟨_, _, _, _, h, _⟩; cases h) (by kernel_rfl) (listed' := #[true, true, true, true, true, true, false, false, false]) rfl ?_
                        refine StD.only (i := 6) rfl (by kernel_rfl) (listed' := #[true, true, true, true, true, true, true, false, false]) rfl ?_
                        intro hcl76
                        refine St.buildSlice (e := 53) (cells := #[.slice A74 (0 + n.toNat) c75, .slice (some ⟨b72, 0, none⟩) n.toNat n.toNat]) (vs := #[(0, .agg #[.slice A74 (0 + n.toNat) c75, .slice (some ⟨b72, 0, none⟩) n.toNat n.toNat])]) (fun _ ha => evp1 ha rfl) (fun _ => by kernel_rfl) rfl trivial ?_
                        intro b77
                        refine StD.next hcl76 (fun _ => (Among.of (Among.take 3 rfl rfl (Among.take 3 rfl rfl (Among.take 3 rfl rfl (Among.take 3 rfl rfl Among.none)))))) ?_
                        refine StD.only (i := 7) rfl (by kernel_rfl) (listed' := #[true, true, true, true, true, true, true, true, false]) rfl ?_
                        intro hcl78
                        refine St.append_lit (R := [blk b77 (.cells #[.slice A74 (0 + n.toNat) c75, .slice (some ⟨b72, 0, none⟩) n.toNat n.toNat] 53 (0, 0)), row A74 (0 + n.toNat) c75 3 1 ([] ++ (ints scells)), row (some ⟨b72, 0, none⟩) n.toNat n.toNat 4 1 (List.replicate n.toNat (.bool false)), blk b48 (.cells #[.int .i64 x16.k, .int .i64 x16.a, .int .i64 x16.v] 29 (0, 0)), row (some ⟨gD, 0, none⟩) n.toNat cD 4 1 (bools m.chg), Sep C', row (some ⟨b15, 0, none⟩) n.toNat n.toNat 3 1 (ints scells)]) ts41 rfl rfl rfl 7 rfl rfl 0 rfl rfl rfl (by omega) rfl rfl trivial ?_
                        intro A79 c80
                        refine St.pick (R := [row A79 ((u + 1) + 1) c80 53 2 ((cs' ++ [.slice B n.toNat cB, .slice (some ⟨gD, 0, none⟩) n.toNat cD]) ++ [.slice A74 (0 + n.toNat) c75, .slice (some ⟨b72, 0, none⟩) n.toNat n.toNat]), row A74 (0 + n.toNat) c75 3 1 ([] ++ (ints scells)), row (some ⟨b72, 0, none⟩) n.toNat n.toNat 4 1 (List.replicate n.toNat (.bool false)), blk b48 (.cells #[.int .i64 x16.k, .int .i64 x16.a, .int .i64 x16.v] 29 (0, 0)), row (some ⟨gD, 0, none⟩) n.toNat cD 4 1 (bools m.chg), Sep C', row (some ⟨b15, 0, none⟩) n.toNat n.toNat 3 1 (ints scells)]) 1 rfl rfl ?_
                        refine St.drop ?_
                        refine StD.next hcl78 (fun _ => (Among.of (Among.take 3 rfl rfl (Among.take 3 rfl rfl (Among.take 3 rfl rfl (Among.take 3 rfl rfl Among.none)))))) ?_
                        refine StD.take (i := 8) (v := (.slice A79 ((u + 1) + 1) c80)) rfl (Yields.assign rfl) rfl rfl trivial (Among.of (Among.take 3 rfl rfl (Among.take 3 rfl rfl (Among.take 3 rfl rfl (Among.take 3 rfl rfl Among.none))))) (by rintro _ _ _ ⟨_, _, _, _, h, _⟩; cases h) (by kernel_rfl) (listed' := #[true, true, true, true, true, true, true, true, true]) rfl ?_
                        refine StD.done (by kernel_rfl) ?_
                        refine St.innorm ?_
                        refine St.innorm ?_
                        refine St.norm ?_
                        refine St.region ?_
                        refine St.val (v := (.int .i64 (i : Int))) (Yields.move rfl) trivial rfl rfl ?_
                        refine St.val (v := (.int .i64 ((i : Int) + 1))) (Yields.add rfl rfl (by omega) (by omega)) trivial rfl rfl ?_
                        refine St.val (v := (.int .i64 ((i : Int) + 1))) (Yields.assign rfl) trivial rfl rfl ?_
                        refine St.nil ?_
                        refine St.norm ?_
                        rw [Nat.zero_add n.toNat, List.nil_append (ints scells), ← bools_replicate]
                        refine St.row_facts 1 rfl ?_
                        intro _ hcN _
                        refine St.freeze_row (R := [row A79 ((u + 1) + 1) c80 53 2 ((cs' ++ [.slice B n.toNat cB, .slice (some ⟨gD, 0, none⟩) n.toNat cD]) ++ [.slice A74 n.toNat c75, .slice (some ⟨b72, 0, none⟩) n.toNat n.toNat]), row (some ⟨b72, 0, none⟩) n.toNat n.toNat 4 1 (bools (List.replicate n.toNat false)), blk b48 (.cells #[.int .i64 x16.k, .int .i64 x16.a, .int .i64 x16.v] 29 (0, 0)), row (some ⟨gD, 0, none⟩) n.toNat cD 4 1 (bools m.chg), Sep C', row (some ⟨b15, 0, none⟩) n.toNat n.toNat 3 1 (ints scells)]) (D := Kind.int .i64) (xs := scells) 1 rfl rfl rfl hcl (ints_cat _) ?_
                        intro F2 hle2 hB2
                        replace hS := Slc.mono hle2 hS
                        replace hMC := MC.mono hle2 hMC
                        replace hc22 := fun j v e => PH.cell?_le hle2 (hc22 j v e)
                        replace hB := Slc.mono hle2 hB
                        refine St.pick (R := [row A79 ((u + 1) + 1) c80 53 2 ((cs' ++ [.slice B n.toNat cB, .slice (some ⟨gD, 0, none⟩) n.toNat cD]) ++ [.slice A74 n.toNat c75, .slice (some ⟨b72, 0, none⟩) n.toNat n.toNat]), row (some ⟨b72, 0, none⟩) n.toNat n.toNat 4 1 (bools (List.replicate n.toNat false)), blk b48 (.cells #[.int .i64 x16.k, .int .i64 x16.a, .int .i64 x16.v] 29 (0, 0)), row (some ⟨gD, 0, none⟩) n.toNat cD 4 1 (bools m.chg), row (some ⟨b15, 0, none⟩) n.toNat n.toNat 3 1 (ints scells)]) 4 rfl rfl ?_
                        refine St.pick (R := [Sep C', row A79 ((u + 1) + 1) c80 53 2 ((cs' ++ [.slice B n.toNat cB, .slice (some ⟨gD, 0, none⟩) n.toNat cD]) ++ [.slice A74 n.toNat c75, .slice (some ⟨b72, 0, none⟩) n.toNat n.toNat]), row (some ⟨b72, 0, none⟩) n.toNat n.toNat 4 1 (bools (List.replicate n.toNat false)), blk b48 (.cells #[.int .i64 x16.k, .int .i64 x16.a, .int .i64 x16.v] 29 (0, 0)), row (some ⟨b15, 0, none⟩) n.toNat n.toNat 3 1 (ints scells)]) 4 rfl rfl ?_
                        refine St.star_in ?_
                        refine St.pick (R := [row A79 ((u + 1) + 1) c80 53 2 ((cs' ++ [.slice B n.toNat cB, .slice (some ⟨gD, 0, none⟩) n.toNat cD]) ++ [.slice A74 n.toNat c75, .slice (some ⟨b72, 0, none⟩) n.toNat n.toNat]), row (some ⟨b72, 0, none⟩) n.toNat n.toNat 4 1 (bools (List.replicate n.toNat false)), blk b48 (.cells #[.int .i64 x16.k, .int .i64 x16.a, .int .i64 x16.v] 29 (0, 0)), row (some ⟨b15, 0, none⟩) n.toNat n.toNat 3 1 (ints scells)]) 0 rfl rfl ?_
                        refine St.pick (R := [Sep (row (some ⟨gD, 0, none⟩) n.toNat cD 4 1 (bools m.chg) :: C'), row A79 ((u + 1) + 1) c80 53 2 ((cs' ++ [.slice B n.toNat cB, .slice (some ⟨gD, 0, none⟩) n.toNat cD]) ++ [.slice A74 n.toNat c75, .slice (some ⟨b72, 0, none⟩) n.toNat n.toNat]), blk b48 (.cells #[.int .i64 x16.k, .int .i64 x16.a, .int .i64 x16.v] 29 (0, 0)), row (some ⟨b15, 0, none⟩) n.toNat n.toNat 3 1 (ints scells)]) 2 rfl rfl ?_
                        refine St.star_in ?_
                        have hst : RS.step n.toNat ⟨scells, m :: r⟩ x16 = ⟨scells, ⟨scells, List.replicate n.toNat false⟩ :: (m :: r)⟩ := by unfold RS.step; rw [if_neg (by omega), if_pos (by omega)]
                        rw [if_neg (by simp; try omega), hst] at hp
                        rw [hst] at hwf2 hsl
                        intro a w ha hs
                        exact ⟨k - (i + 1), by omega, i + 1, (u + 1) + 1, ⟨scells, ⟨scells, List.replicate n.toNat false⟩ :: (m :: r)⟩, A79, c80, _, _, F2, rfl, by omega, by first | (simp; done) | (simp; omega) | omega, by omega, hp, hwf2, (PH.le_trans hle hle2), ⟨_, _, _, _, _, _, rfl, rfl, hB2, hcN, ⟨_, _, _, _, _, _, rfl, rfl, hB, hcB, hMC⟩⟩, ha.covers ⟨rfl, rfl, rfl, rfl, rfl, trivial⟩, (Among.of (Among.take 3 rfl rfl (Among.take 1 rfl rfl (Among.take 0 rfl rfl Among.none))) _ hs)⟩
              · skip
                have hp : rplays n.toNat l (rstart n.toNat) = some s := by rw [hp, List.drop_of_length_le (by omega)]; rfl
                subst hq
                refine St.seq ?_
                refine St.seq ?_
                refine St.region ?_
                refine St.val (v := (.int .i64 (i : Int))) (Yields.move rfl) trivial rfl rfl ?_
                refine St.val (v := (.slice A0 k c0)) (Yields.move rfl) trivial rfl rfl ?_
                refine St.val (v := (.int .i64 (k : Int))) (Yields.lenSlice tu22 rfl) trivial rfl rfl ?_
                refine St.val (v := (.bool false)) (Yields.isnt hi (Yields.lt rfl rfl)) trivial rfl rfl ?_
                refine St.nil ?_
                refine St.norm ?_
                refine St.cond_f rfl ?_
                refine St.exit ?_
                refine St.thenexit ?_
                refine St.thenexit ?_
                refine St.inexit ?_
                refine St.norm ?_
                refine St.seq ?_
                refine St.region ?_
                refine St.val (v := (.slice (some ⟨b15, 0, none⟩) n.toNat n.toNat)) (Yields.move rfl) trivial rfl rfl ?_
                refine St.val (v := (.slice A s.ms.length c)) (Yields.move rfl) trivial rfl rfl ?_
                refine St.val (v := (.slice (some ⟨b15, 0, none⟩) n.toNat n.toNat)) (Yields.assign rfl) trivial rfl rfl ?_
                refine St.val (v := (.slice A s.ms.length c)) (Yields.assign rfl) trivial rfl rfl ?_
                refine St.val (v := (.int .i64 0)) (Yields.assign rfl) trivial rfl rfl ?_
                refine St.nil ?_
                refine St.norm ?_
                refine St.ret ?_
                refine St.pick (R := [row (some ⟨b15, 0, none⟩) n.toNat n.toNat 3 1 (ints s.cells), row A s.ms.length c 53 2 mcells]) 2 rfl rfl ?_
                refine St.pick (R := [Sep C, row (some ⟨b15, 0, none⟩) n.toNat n.toNat 3 1 (ints s.cells)]) 2 rfl rfl ?_
                refine St.pick (R := [row A s.ms.length c 53 2 mcells, Sep C]) 2 rfl rfl ?_
                exact St.done3 rfl rfl rfl rfl (.inr (.inr ⟨hok0, s, b15, A, c, mcells, C, hp, hwf, by omega, rfl, rfl, hMC⟩))

end Go.Proofs.Ytaajfhcjpejmjaa