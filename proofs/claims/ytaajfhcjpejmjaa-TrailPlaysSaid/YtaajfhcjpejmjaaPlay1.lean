import Derived.Test.YtaajfhcjpejmjaaStoreDo
namespace Go.Proofs.Ytaajfhcjpejmjaa
open Go Go.Sy Go.RowKit
set_option linter.unusedVariables false

theorem shifts_sp {F : PH} {A : Option Addr} {k c : Nat} {l : List Sh} {n : Int} (hS : Slc shK F A k l) (hmax : k ≤ 140737488355328) :
    CallSp Try.prog 15 #[.int .i64 n, .slice A k c] F [] (fun u F' H' => u = .int .i64 (shErr n l) ∧ F = F' ∧ H' = []) := by
  refine CallSp.enter (args := [.int .i64 n, .slice A k c]) Try.func15 rfl rfl ?_
  intro w0 m0 hm0
  have hlen := hS.1
  refine St.seq ?_
  refine St.region ?_
  refine St.val (v := (.int .i64 0)) (Yields.assign rfl) trivial rfl rfl ?_
  refine St.nil ?_
  refine St.norm ?_
  refine St.seq ?_
  refine St.region ?_
  refine St.val (v := (.int .i64 n)) (Yields.move rfl) trivial rfl rfl ?_
  by_cases q1 : n ≥ 1
  · skip
    refine St.val (v := (.bool true)) (Yields.is q1 (Yields.ge rfl rfl)) trivial rfl rfl ?_
    refine St.val (v := (.bool true)) (Yields.move rfl) trivial rfl rfl ?_
    refine St.val (v := (.int .i64 n)) (Yields.move rfl) rfl rfl rfl ?_
    by_cases q2 : n ≤ 64
    · skip
      refine St.val (v := (.bool true)) (Yields.is q2 (Yields.le rfl rfl)) rfl rfl rfl ?_
      refine St.val (v := (.bool true)) (Yields.pick_t rfl rfl) trivial rfl rfl ?_
      refine St.val (v := (.bool true)) (Yields.assign rfl) trivial rfl rfl ?_
      refine St.nil ?_
      refine St.norm ?_
      refine St.seq ?_
      refine St.seq ?_
      refine St.region ?_
      refine St.val (v := (.slice A k c)) (Yields.move rfl) trivial rfl rfl ?_
      refine St.val (v := (.int .i64 (k : Int))) (Yields.lenSlice tu22 rfl) trivial rfl rfl ?_
      refine St.val (v := (.int .i64 0)) (Yields.move rfl) trivial rfl rfl ?_
      refine St.nil ?_
      refine St.norm ?_
      refine St.block ?_
      refine St.loop (fun kk a w => ∃ (i : Nat) (b : Bool), kk = k - i ∧ i ≤ k ∧ b = (okn n && (l.take i).all (okSh n)) ∧ Has Try.f15.ntmps a [(0, .int .i64 n), (1, .slice A k c), (5, .bool b), (14, .slice A k c), (15, .int .i64 k), (16, .int .i64 i)] ∧ Sat ⟨w0, fun b => m0 b ≠ none, F⟩ F [] w) k ?_ ?_
      · intro a w ha hs
        exact ⟨0, true, by omega, by omega, by unfold okn; simp; omega, ha.covers ⟨rfl, rfl, rfl, rfl, rfl, rfl, trivial⟩, hs⟩
      · rintro kk a w ⟨i, b, hkk, hik, hb, ha, hs⟩
        refine St.use (?_ : St _ _ _ _ _ _) ha hs
        clear ha hs a w
        cases b
        · skip
          by_cases hi : (i : Int) < (k : Int)
          · skip
            obtain ⟨x3, hx6⟩ : ∃ x, l[i]? = some x := ⟨_, List.getElem?_eq_getElem (by omega)⟩
            obtain ⟨ad4, cs5, hA7, hK8, hc9⟩ := hS.get hx6
            subst hA7
            obtain rfl : cs5 = shV x3 := hK8
            obtain ⟨p10, hp11⟩ : ∃ p, ad4.add (i * 3) = p := ⟨_, rfl⟩
            have hc9 : ∀ j v, ([.int .i64 x3.k, .int .i64 x3.a, .int .i64 x3.v] : List Value)[j]? = some v → PH.cell? F (p10.add j) = some v := by rw [← hp11]; exact hc9
            refine St.seq ?_
            refine St.region ?_
            refine St.val (v := (.bool true)) (Yields.is hi (Yields.lt rfl rfl)) trivial rfl rfl ?_
            refine St.nil ?_
            refine St.norm ?_
            refine St.seq ?_
            refine St.cond_t rfl ?_
            refine St.skip ?_
            refine St.norm ?_
            refine St.seq ?_
            refine St.block ?_
            refine St.seq ?_
            refine St.region ?_
            refine St.val (v := (.pointer (some p10))) (Yields.indexAddr (p := p10) ts22 rfl rfl (by omega) (by omega) (by rw [← hp11]; first | rfl | (congr 1; omega))) trivial rfl rfl ?_
            refine St.val (v := (.agg #[.int .i64 x3.k, .int .i64 x3.a, .int .i64 x3.v])) (Yields.load rfl (Loads.Fatn0 hc9 ta29)) trivial rfl rfl ?_
            refine St.alloc tz29 trivial rfl ?_
            intro b12
            refine St.storen (R := []) rfl rfl 0 rfl rfl ta29 rfl rfl rfl trivial (cs' := #[.int .i64 x3.k, .int .i64 x3.a, .int .i64 x3.v]) rfl ?_
            refine St.nil ?_
            refine St.norm ?_
            refine St.block ?_
            refine St.seq ?_
            refine St.region ?_
            refine St.val (v := (.pointer (some ⟨b12, 0, none⟩))) (Yields.fieldAddr (v := (.pointer (some ⟨b12, 0, none⟩))) rfl (fun _ => by kernel_rfl)) trivial rfl rfl ?_
            refine St.val (v := (.int .i64 x3.k)) (Yields.load rfl (Loads.H1 0 rfl tc3 rfl)) trivial rfl rfl ?_
            by_cases q13 : x3.k < 0
            · skip
              refine St.val (v := (.bool true)) (Yields.is q13 (Yields.lt rfl rfl)) trivial rfl rfl ?_
              refine St.val (v := (.bool true)) (Yields.move rfl) trivial rfl rfl ?_
              refine St.unwanted rfl rfl rfl ?_
              refine St.unwanted rfl rfl rfl ?_
              refine St.unwanted rfl rfl rfl ?_
              refine St.val (v := (.bool true)) (Yields.pick_t rfl rfl) trivial rfl rfl ?_
              refine St.val (v := (.bool true)) (Yields.assign rfl) trivial rfl rfl ?_
              refine St.nil ?_
              refine St.norm ?_
              refine St.cond_t rfl ?_
              refine St.region ?_
              refine St.val (v := (.bool false)) (Yields.assign rfl) trivial rfl rfl ?_
              refine St.nil ?_
              refine St.innorm ?_
              refine St.innorm ?_
              refine St.norm ?_
              refine St.region ?_
              refine St.val (v := (.int .i64 ((i : Int) + 1))) (Yields.add rfl rfl (by omega) (by omega)) trivial rfl rfl ?_
              refine St.val (v := (.int .i64 ((i : Int) + 1))) (Yields.move rfl) trivial rfl rfl ?_
              refine St.nil ?_
              refine St.norm ?_
              intro a w ha hs
              have hq : okSh n x3 = okSh n x3 := by unfold okSh; rfl
              exact ⟨k - (i + 1), by omega, i + 1, false, rfl, by omega, by rw [all_snoc hx6, ← Bool.and_assoc, ← hb, Bool.false_and]; first | done | rfl, ha.covers ⟨rfl, rfl, rfl, rfl, rfl, rfl, trivial⟩, (Among.of Among.none _ hs)⟩
            · skip
              refine St.val (v := (.bool false)) (Yields.isnt q13 (Yields.lt rfl rfl)) trivial rfl rfl ?_
              refine St.val (v := (.bool false)) (Yields.move rfl) trivial rfl rfl ?_
              refine St.val (v := (.pointer (some ⟨b12, 0, none⟩))) (Yields.fieldAddr (v := (.pointer (some ⟨b12, 0, none⟩))) rfl (fun _ => by kernel_rfl)) rfl rfl rfl ?_
              refine St.val (v := (.int .i64 x3.k)) (Yields.load rfl (Loads.H1 0 rfl tc3 rfl)) rfl rfl rfl ?_
              by_cases q14 : x3.k > 4
              · skip
                refine St.val (v := (.bool true)) (Yields.is q14 (Yields.gt rfl rfl)) rfl rfl rfl ?_
                refine St.val (v := (.bool true)) (Yields.pick_f rfl rfl) trivial rfl rfl ?_
                refine St.val (v := (.bool true)) (Yields.assign rfl) trivial rfl rfl ?_
                refine St.nil ?_
                refine St.norm ?_
                refine St.cond_t rfl ?_
                refine St.region ?_
                refine St.val (v := (.bool false)) (Yields.assign rfl) trivial rfl rfl ?_
                refine St.nil ?_
                refine St.innorm ?_
                refine St.innorm ?_
                refine St.norm ?_
                refine St.region ?_
                refine St.val (v := (.int .i64 ((i : Int) + 1))) (Yields.add rfl rfl (by omega) (by omega)) trivial rfl rfl ?_
                refine St.val (v := (.int .i64 ((i : Int) + 1))) (Yields.move rfl) trivial rfl rfl ?_
                refine St.nil ?_
                refine St.norm ?_
                intro a w ha hs
                have hq : okSh n x3 = okSh n x3 := by unfold okSh; rfl
                exact ⟨k - (i + 1), by omega, i + 1, false, rfl, by omega, by rw [all_snoc hx6, ← Bool.and_assoc, ← hb, Bool.false_and]; first | done | rfl, ha.covers ⟨rfl, rfl, rfl, rfl, rfl, rfl, trivial⟩, (Among.of Among.none _ hs)⟩
              · skip
                refine St.val (v := (.bool false)) (Yields.isnt q14 (Yields.gt rfl rfl)) rfl rfl rfl ?_
                refine St.val (v := (.bool false)) (Yields.pick_f rfl rfl) trivial rfl rfl ?_
                refine St.val (v := (.bool false)) (Yields.assign rfl) trivial rfl rfl ?_
                refine St.nil ?_
                refine St.norm ?_
                refine St.cond_f rfl ?_
                refine St.seq ?_
                refine St.region ?_
                refine St.val (v := (.pointer (some ⟨b12, 0, none⟩))) (Yields.fieldAddr (v := (.pointer (some ⟨b12, 0, none⟩))) rfl (fun _ => by kernel_rfl)) trivial rfl rfl ?_
                refine St.val (v := (.int .i64 x3.k)) (Yields.load rfl (Loads.H1 0 rfl tc3 rfl)) trivial rfl rfl ?_
                by_cases q15 : x3.k = 0
                · skip
                  refine St.val (v := (.bool true)) (Yields.is q15 (Yields.eq rfl rfl)) trivial rfl rfl ?_
                  refine St.val (v := (.bool true)) (Yields.assign rfl) trivial rfl rfl ?_
                  refine St.nil ?_
                  refine St.norm ?_
                  refine St.cond_t rfl ?_
                  refine St.region ?_
                  refine St.val (v := (.bool false)) (Yields.move rfl) trivial rfl rfl ?_
                  refine St.val (v := (.bool false)) (Yields.move rfl) trivial rfl rfl ?_
                  refine St.unwanted rfl rfl rfl ?_
                  refine St.unwanted rfl rfl rfl ?_
                  refine St.unwanted rfl rfl rfl ?_
                  refine St.val (v := (.bool false)) (Yields.pick_f rfl rfl) trivial rfl rfl ?_
                  refine St.val (v := (.bool false)) (Yields.move rfl) trivial rfl rfl ?_
                  refine St.unwanted rfl rfl rfl ?_
                  refine St.unwanted rfl rfl rfl ?_
                  refine St.unwanted rfl rfl rfl ?_
                  refine St.unwanted rfl rfl rfl ?_
                  refine St.val (v := (.bool false)) (Yields.pick_f rfl rfl) trivial rfl rfl ?_
                  refine St.val (v := (.bool false)) (Yields.move rfl) trivial rfl rfl ?_
                  refine St.unwanted rfl rfl rfl ?_
                  refine St.unwanted rfl rfl rfl ?_
                  refine St.unwanted rfl rfl rfl ?_
                  refine St.val (v := (.bool false)) (Yields.pick_f rfl rfl) trivial rfl rfl ?_
                  refine St.val (v := (.bool false)) (Yields.move rfl) trivial rfl rfl ?_
                  refine St.unwanted rfl rfl rfl ?_
                  refine St.unwanted rfl rfl rfl ?_
                  refine St.unwanted rfl rfl rfl ?_
                  refine St.val (v := (.bool false)) (Yields.pick_f rfl rfl) trivial rfl rfl ?_
                  refine St.val (v := (.bool false)) (Yields.assign rfl) trivial rfl rfl ?_
                  refine St.nil ?_
                  refine St.innorm ?_
                  refine St.innorm ?_
                  refine St.norm ?_
                  refine St.region ?_
                  refine St.val (v := (.int .i64 ((i : Int) + 1))) (Yields.add rfl rfl (by omega) (by omega)) trivial rfl rfl ?_
                  refine St.val (v := (.int .i64 ((i : Int) + 1))) (Yields.move rfl) trivial rfl rfl ?_
                  refine St.nil ?_
                  refine St.norm ?_
                  intro a w ha hs
                  have hq : okSh n x3 = okSh n x3 := by unfold okSh; rfl
                  exact ⟨k - (i + 1), by omega, i + 1, false, rfl, by omega, by rw [all_snoc hx6, ← Bool.and_assoc, ← hb, Bool.false_and]; first | done | rfl, ha.covers ⟨rfl, rfl, rfl, rfl, rfl, rfl, trivial⟩, (Among.of Among.none _ hs)⟩
                · skip
                  refine St.val (v := (.bool false)) (Yields.isnt q15 (Yields.eq rfl rfl)) trivial rfl rfl ?_
                  refine St.val (v := (.bool false)) (Yields.assign rfl) trivial rfl rfl ?_
                  refine St.nil ?_
                  refine St.norm ?_
                  refine St.cond_f rfl ?_
                  refine St.region ?_
                  refine St.val (v := (.bool false)) (Yields.move rfl) trivial rfl rfl ?_
                  refine St.val (v := (.bool false)) (Yields.move rfl) trivial rfl rfl ?_
                  refine St.unwanted rfl rfl rfl ?_
                  refine St.unwanted rfl rfl rfl ?_
                  refine St.unwanted rfl rfl rfl ?_
                  refine St.val (v := (.bool false)) (Yields.pick_f rfl rfl) trivial rfl rfl ?_
                  refine St.val (v := (.bool false)) (Yields.move rfl) trivial rfl rfl ?_
                  refine St.unwanted rfl rfl rfl ?_
                  refine St.unwanted rfl rfl rfl ?_
                  refine St.unwanted rfl rfl rfl ?_
                  refine St.val (v := (.bool false)) (Yields.pick_f rfl rfl) trivial rfl rfl ?_
                  refine St.val (v := (.bool false)) (Yields.assign rfl) trivial rfl rfl ?_
                  refine St.nil ?_
                  refine St.innorm ?_
                  refine St.innorm ?_
                  refine St.norm ?_
                  refine St.region ?_
                  refine St.val (v := (.int .i64 ((i : Int) + 1))) (Yields.add rfl rfl (by omega) (by omega)) trivial rfl rfl ?_
                  refine St.val (v := (.int .i64 ((i : Int) + 1))) (Yields.move rfl) trivial rfl rfl ?_
                  refine St.nil ?_
                  refine St.norm ?_
                  intro a w ha hs
                  have hq : okSh n x3 = okSh n x3 := by unfold okSh; rfl
                  exact ⟨k - (i + 1), by omega, i + 1, false, rfl, by omega, by rw [all_snoc hx6, ← Bool.and_assoc, ← hb, Bool.false_and]; first | done | rfl, ha.covers ⟨rfl, rfl, rfl, rfl, rfl, rfl, trivial⟩, (Among.of Among.none _ hs)⟩
          · skip
            have hb : false = (okn n && l.all (okSh n)) := by rw [hb, List.take_of_length_le (by omega)]
            refine St.seq ?_
            refine St.region ?_
            refine St.val (v := (.bool false)) (Yields.isnt hi (Yields.lt rfl rfl)) trivial rfl rfl ?_
            refine St.nil ?_
            refine St.norm ?_
            refine St.seq ?_
            refine St.cond_f rfl ?_
            refine St.exit ?_
            refine St.thenexit ?_
            refine St.thenexit ?_
            refine St.inexit ?_
            refine St.norm ?_
            refine St.seq ?_
            refine St.block ?_
            refine St.seq ?_
            refine St.region ?_
            refine St.val (v := (.bool false)) (Yields.move rfl) trivial rfl rfl ?_
            refine St.val (v := (.bool true)) (Yields.not_f rfl) trivial rfl rfl ?_
            refine St.val (v := (.bool true)) (Yields.assign rfl) trivial rfl rfl ?_
            refine St.nil ?_
            refine St.norm ?_
            refine St.cond_t rfl ?_
            refine St.seq ?_
            refine St.region ?_
            refine St.val (v := (.int .i64 1)) (Yields.assign rfl) trivial rfl rfl ?_
            refine St.nil ?_
            refine St.norm ?_
            refine St.ret ?_
            refine St.inret ?_
            refine St.thenret ?_
            refine St.done1 rfl rfl ⟨?_, rfl, rfl⟩
            unfold shErr; rw [← hb]; rfl
        · skip
          by_cases hi : (i : Int) < (k : Int)
          · skip
            obtain ⟨x16, hx19⟩ : ∃ x, l[i]? = some x := ⟨_, List.getElem?_eq_getElem (by omega)⟩
            obtain ⟨ad17, cs18, hA20, hK21, hc22⟩ := hS.get hx19
            subst hA20
            obtain rfl : cs18 = shV x16 := hK21
            obtain ⟨p23, hp24⟩ : ∃ p, ad17.add (i * 3) = p := ⟨_, rfl⟩
            have hc22 : ∀ j v, ([.int .i64 x16.k, .int .i64 x16.a, .int .i64 x16.v] : List Value)[j]? = some v → PH.cell? F (p23.add j) = some v := by rw [← hp24]; exact hc22
            refine St.seq ?_
            refine St.region ?_
            refine St.val (v := (.bool true)) (Yields.is hi (Yields.lt rfl rfl)) trivial rfl rfl ?_
            refine St.nil ?_
            refine St.norm ?_
            refine St.seq ?_
            refine St.cond_t rfl ?_
            refine St.skip ?_
            refine St.norm ?_
            refine St.seq ?_
            refine St.block ?_
            refine St.seq ?_
            refine St.region ?_
            refine St.val (v := (.pointer (some p23))) (Yields.indexAddr (p := p23) ts22 rfl rfl (by omega) (by omega) (by rw [← hp24]; first | rfl | (congr 1; omega))) trivial rfl rfl ?_
            refine St.val (v := (.agg #[.int .i64 x16.k, .int .i64 x16.a, .int .i64 x16.v])) (Yields.load rfl (Loads.Fatn0 hc22 ta29)) trivial rfl rfl ?_
            refine St.alloc tz29 trivial rfl ?_
            intro b25
            refine St.storen (R := []) rfl rfl 0 rfl rfl ta29 rfl rfl rfl trivial (cs' := #[.int .i64 x16.k, .int .i64 x16.a, .int .i64 x16.v]) rfl ?_
            refine St.nil ?_
            refine St.norm ?_
            refine St.block ?_
            refine St.seq ?_
            refine St.region ?_
            refine St.val (v := (.pointer (some ⟨b25, 0, none⟩))) (Yields.fieldAddr (v := (.pointer (some ⟨b25, 0, none⟩))) rfl (fun _ => by kernel_rfl)) trivial rfl rfl ?_
            refine St.val (v := (.int .i64 x16.k)) (Yields.load rfl (Loads.H1 0 rfl tc3 rfl)) trivial rfl rfl ?_
            by_cases q26 : x16.k < 0
            · skip
              refine St.val (v := (.bool true)) (Yields.is q26 (Yields.lt rfl rfl)) trivial rfl rfl ?_
              refine St.val (v := (.bool true)) (Yields.move rfl) trivial rfl rfl ?_
              refine St.unwanted rfl rfl rfl ?_
              refine St.unwanted rfl rfl rfl ?_
              refine St.unwanted rfl rfl rfl ?_
              refine St.val (v := (.bool true)) (Yields.pick_t rfl rfl) trivial rfl rfl ?_
              refine St.val (v := (.bool true)) (Yields.assign rfl) trivial rfl rfl ?_
              refine St.nil ?_
              refine St.norm ?_
              refine St.cond_t rfl ?_
              refine St.region ?_
              refine St.val (v := (.bool false)) (Yields.assign rfl) trivial rfl rfl ?_
              refine St.nil ?_
              refine St.innorm ?_
              refine St.innorm ?_
              refine St.norm ?_
              refine St.region ?_
              refine St.val (v := (.int .i64 ((i : Int) + 1))) (Yields.add rfl rfl (by omega) (by omega)) trivial rfl rfl ?_
              refine St.val (v := (.int .i64 ((i : Int) + 1))) (Yields.move rfl) trivial rfl rfl ?_
              refine St.nil ?_
              refine St.norm ?_
              intro a w ha hs
              have hq : okSh n x16 = false := by unfold okSh; (repeat' split) <;> first | rfl | (exfalso; omega) | (simp; omega)
              exact ⟨k - (i + 1), by omega, i + 1, false, rfl, by omega, by rw [all_snoc hx19, ← Bool.and_assoc, ← hb, hq]; first | done | rfl, ha.covers ⟨rfl, rfl, rfl, rfl, rfl, rfl, trivial⟩, (Among.of Among.none _ hs)⟩
            · skip
              refine St.val (v := (.bool false)) (Yields.isnt q26 (Yields.lt rfl rfl)) trivial rfl rfl ?_
              refine St.val (v := (.bool false)) (Yields.move rfl) trivial rfl rfl ?_
              refine St.val (v := (.pointer (some ⟨b25, 0, none⟩))) (Yields.fieldAddr (v := (.pointer (some ⟨b25, 0, none⟩))) rfl (fun _ => by kernel_rfl)) rfl rfl rfl ?_
              refine St.val (v := (.int .i64 x16.k)) (Yields.load rfl (Loads.H1 0 rfl tc3 rfl)) rfl rfl rfl ?_
              by_cases q27 : x16.k > 4
              · skip
                refine St.val (v := (.bool true)) (Yields.is q27 (Yields.gt rfl rfl)) rfl rfl rfl ?_
                refine St.val (v := (.bool true)) (Yields.pick_f rfl rfl) trivial rfl rfl ?_
                refine St.val (v := (.bool true)) (Yields.assign rfl) trivial rfl rfl ?_
                refine St.nil ?_
                refine St.norm ?_
                refine St.cond_t rfl ?_
                refine St.region ?_
                refine St.val (v := (.bool false)) (Yields.assign rfl) trivial rfl rfl ?_
                refine St.nil ?_
                refine St.innorm ?_
                refine St.innorm ?_
                refine St.norm ?_
                refine St.region ?_
                refine St.val (v := (.int .i64 ((i : Int) + 1))) (Yields.add rfl rfl (by omega) (by omega)) trivial rfl rfl ?_
                refine St.val (v := (.int .i64 ((i : Int) + 1))) (Yields.move rfl) trivial rfl rfl ?_
                refine St.nil ?_
                refine St.norm ?_
                intro a w ha hs
                have hq : okSh n x16 = false := by unfold okSh; (repeat' split) <;> first | rfl | (exfalso; omega) | (simp; omega)
                exact ⟨k - (i + 1), by omega, i + 1, false, rfl, by omega, by rw [all_snoc hx19, ← Bool.and_assoc, ← hb, hq]; first | done | rfl, ha.covers ⟨rfl, rfl, rfl, rfl, rfl, rfl, trivial⟩, (Among.of Among.none _ hs)⟩
              · skip
                refine St.val (v := (.bool false)) (Yields.isnt q27 (Yields.gt rfl rfl)) rfl rfl rfl ?_
                refine St.val (v := (.bool false)) (Yields.pick_f rfl rfl) trivial rfl rfl ?_
                refine St.val (v := (.bool false)) (Yields.assign rfl) trivial rfl rfl ?_
                refine St.nil ?_
                refine St.norm ?_
                refine St.cond_f rfl ?_
                refine St.seq ?_
                refine St.region ?_
                refine St.val (v := (.pointer (some ⟨b25, 0, none⟩))) (Yields.fieldAddr (v := (.pointer (some ⟨b25, 0, none⟩))) rfl (fun _ => by kernel_rfl)) trivial rfl rfl ?_
                refine St.val (v := (.int .i64 x16.k)) (Yields.load rfl (Loads.H1 0 rfl tc3 rfl)) trivial rfl rfl ?_
                by_cases q28 : x16.k = 0
                · skip
                  refine St.val (v := (.bool true)) (Yields.is q28 (Yields.eq rfl rfl)) trivial rfl rfl ?_
                  refine St.val (v := (.bool true)) (Yields.assign rfl) trivial rfl rfl ?_
                  refine St.nil ?_
                  refine St.norm ?_
                  refine St.cond_t rfl ?_
                  refine St.region ?_
                  refine St.val (v := (.bool true)) (Yields.move rfl) trivial rfl rfl ?_
                  refine St.val (v := (.bool true)) (Yields.move rfl) trivial rfl rfl ?_
                  refine St.val (v := (.pointer (some ⟨b25, 1, none⟩))) (Yields.fieldAddr (v := (.pointer (some ⟨b25, 1, none⟩))) rfl (fun _ => by kernel_rfl)) rfl rfl rfl ?_
                  refine St.val (v := (.int .i64 x16.a)) (Yields.load rfl (Loads.H1 0 rfl tc3 rfl)) rfl rfl rfl ?_
                  by_cases q29 : x16.a ≥ 0
                  · skip
                    refine St.val (v := (.bool true)) (Yields.is q29 (Yields.ge rfl rfl)) rfl rfl rfl ?_
                    refine St.val (v := (.bool true)) (Yields.pick_t rfl rfl) trivial rfl rfl ?_
                    refine St.val (v := (.bool true)) (Yields.move rfl) trivial rfl rfl ?_
                    refine St.val (v := (.pointer (some ⟨b25, 1, none⟩))) (Yields.fieldAddr (v := (.pointer (some ⟨b25, 1, none⟩))) rfl (fun _ => by kernel_rfl)) rfl rfl rfl ?_
                    refine St.val (v := (.int .i64 x16.a)) (Yields.load rfl (Loads.H1 0 rfl tc3 rfl)) rfl rfl rfl ?_
                    refine St.val (v := (.int .i64 n)) (Yields.move rfl) rfl rfl rfl ?_
                    by_cases q30 : x16.a < n
                    · skip
                      refine St.val (v := (.bool true)) (Yields.is q30 (Yields.lt rfl rfl)) rfl rfl rfl ?_
                      refine St.val (v := (.bool true)) (Yields.pick_t rfl rfl) trivial rfl rfl ?_
                      refine St.val (v := (.bool true)) (Yields.move rfl) trivial rfl rfl ?_
                      refine St.val (v := (.pointer (some ⟨b25, 2, none⟩))) (Yields.fieldAddr (v := (.pointer (some ⟨b25, 2, none⟩))) rfl (fun _ => by kernel_rfl)) rfl rfl rfl ?_
                      refine St.val (v := (.int .i64 x16.v)) (Yields.load rfl (Loads.H1 0 rfl tc3 rfl)) rfl rfl rfl ?_
                      by_cases q31 : x16.v ≥ -1000000000
                      · skip
                        refine St.val (v := (.bool true)) (Yields.is q31 (Yields.ge rfl rfl)) rfl rfl rfl ?_
                        refine St.val (v := (.bool true)) (Yields.pick_t rfl rfl) trivial rfl rfl ?_
                        refine St.val (v := (.bool true)) (Yields.move rfl) trivial rfl rfl ?_
                        refine St.val (v := (.pointer (some ⟨b25, 2, none⟩))) (Yields.fieldAddr (v := (.pointer (some ⟨b25, 2, none⟩))) rfl (fun _ => by kernel_rfl)) rfl rfl rfl ?_
                        refine St.val (v := (.int .i64 x16.v)) (Yields.load rfl (Loads.H1 0 rfl tc3 rfl)) rfl rfl rfl ?_
                        by_cases q32 : x16.v ≤ 1000000000
                        · skip
                          refine St.val (v := (.bool true)) (Yields.is q32 (Yields.le rfl rfl)) rfl rfl rfl ?_
                          refine St.val (v := (.bool true)) (Yields.pick_t rfl rfl) trivial rfl rfl ?_
                          refine St.val (v := (.bool true)) (Yields.assign rfl) trivial rfl rfl ?_
                          refine St.nil ?_
                          refine St.innorm ?_
                          refine St.innorm ?_
                          refine St.norm ?_
                          refine St.region ?_
                          refine St.val (v := (.int .i64 ((i : Int) + 1))) (Yields.add rfl rfl (by omega) (by omega)) trivial rfl rfl ?_
                          refine St.val (v := (.int .i64 ((i : Int) + 1))) (Yields.move rfl) trivial rfl rfl ?_
                          refine St.nil ?_
                          refine St.norm ?_
                          intro a w ha hs
                          have hq : okSh n x16 = true := by unfold okSh; (repeat' split) <;> first | rfl | (exfalso; omega) | (simp; omega)
                          exact ⟨k - (i + 1), by omega, i + 1, true, rfl, by omega, by rw [all_snoc hx19, ← Bool.and_assoc, ← hb, hq]; first | done | rfl, ha.covers ⟨rfl, rfl, rfl, rfl, rfl, rfl, trivial⟩, (Among.of Among.none _ hs)⟩
                        · skip
                          refine St.val (v := (.bool false)) (Yields.isnt q32 (Yields.le rfl rfl)) rfl rfl rfl ?_
                          refine St.val (v := (.bool false)) (Yields.pick_t rfl rfl) trivial rfl rfl ?_
                          refine St.val (v := (.bool false)) (Yields.assign rfl) trivial rfl rfl ?_
                          refine St.nil ?_
                          refine St.innorm ?_
                          refine St.innorm ?_
                          refine St.norm ?_
                          refine St.region ?_
                          refine St.val (v := (.int .i64 ((i : Int) + 1))) (Yields.add rfl rfl (by omega) (by omega)) trivial rfl rfl ?_
                          refine St.val (v := (.int .i64 ((i : Int) + 1))) (Yields.move rfl) trivial rfl rfl ?_
                          refine St.nil ?_
                          refine St.norm ?_
                          intro a w ha hs
                          have hq : okSh n x16 = false := by unfold okSh; (repeat' split) <;> first | rfl | (exfalso; omega) | (simp; omega)
                          exact ⟨k - (i + 1), by omega, i + 1, false, rfl, by omega, by rw [all_snoc hx19, ← Bool.and_assoc, ← hb, hq]; first | done | rfl, ha.covers ⟨rfl, rfl, rfl, rfl, rfl, rfl, trivial⟩, (Among.of Among.none _ hs)⟩
                      · skip
                        refine St.val (v := (.bool false)) (Yields.isnt q31 (Yields.ge rfl rfl)) rfl rfl rfl ?_
                        refine St.val (v := (.bool false)) (Yields.pick_t rfl rfl) trivial rfl rfl ?_
                        refine St.val (v := (.bool false)) (Yields.move rfl) trivial rfl rfl ?_
                        refine St.unwanted rfl rfl rfl ?_
                        refine St.unwanted rfl rfl rfl ?_
                        refine St.unwanted rfl rfl rfl ?_
                        refine St.val (v := (.bool false)) (Yields.pick_f rfl rfl) trivial rfl rfl ?_
                        refine St.val (v := (.bool false)) (Yields.assign rfl) trivial rfl rfl ?_
                        refine St.nil ?_
                        refine St.innorm ?_
                        refine St.innorm ?_
                        refine St.norm ?_
                        refine St.region ?_
                        refine St.val (v := (.int .i64 ((i : Int) + 1))) (Yields.add rfl rfl (by omega) (by omega)) trivial rfl rfl ?_
                        refine St.val (v := (.int .i64 ((i : Int) + 1))) (Yields.move rfl) trivial rfl rfl ?_
                        refine St.nil ?_
                        refine St.norm ?_
                        intro a w ha hs
                        have hq : okSh n x16 = false := by unfold okSh; (repeat' split) <;> first | rfl | (exfalso; omega) | (simp; omega)
                        exact ⟨k - (i + 1), by omega, i + 1, false, rfl, by omega, by rw [all_snoc hx19, ← Bool.and_assoc, ← hb, hq]; first | done | rfl, ha.covers ⟨rfl, rfl, rfl, rfl, rfl, rfl, trivial⟩, (Among.of Among.none _ hs)⟩
                    · skip
                      refine St.val (v := (.bool false)) (Yields.isnt q30 (Yields.lt rfl rfl)) rfl rfl rfl ?_
                      refine St.val (v := (.bool false)) (Yields.pick_t rfl rfl) trivial rfl rfl ?_
                      refine St.val (v := (.bool false)) (Yields.move rfl) trivial rfl rfl ?_
                      refine St.unwanted rfl rfl rfl ?_
                      refine St.unwanted rfl rfl rfl ?_
                      refine St.unwanted rfl rfl rfl ?_
                      refine St.val (v := (.bool false)) (Yields.pick_f rfl rfl) trivial rfl rfl ?_
                      refine St.val (v := (.bool false)) (Yields.move rfl) trivial rfl rfl ?_
                      refine St.unwanted rfl rfl rfl ?_
                      refine St.unwanted rfl rfl rfl ?_
                      refine St.unwanted rfl rfl rfl ?_
                      refine St.val (v := (.bool false)) (Yields.pick_f rfl rfl) trivial rfl rfl ?_
                      refine St.val (v := (.bool false)) (Yields.assign rfl) trivial rfl rfl ?_
                      refine St.nil ?_
                      refine St.innorm ?_
                      refine St.innorm ?_
                      refine St.norm ?_
                      refine St.region ?_
                      refine St.val (v := (.int .i64 ((i : Int) + 1))) (Yields.add rfl rfl (by omega) (by omega)) trivial rfl rfl ?_
                      refine St.val (v := (.int .i64 ((i : Int) + 1))) (Yields.move rfl) trivial rfl rfl ?_
                      refine St.nil ?_
                      refine St.norm ?_
                      intro a w ha hs
                      have hq : okSh n x16 = false := by unfold okSh; (repeat' split) <;> first | rfl | (exfalso; omega) | (simp; omega)
                      exact ⟨k - (i + 1), by omega, i + 1, false, rfl, by omega, by rw [all_snoc hx19, ← Bool.and_assoc, ← hb, hq]; first | done | rfl, ha.covers ⟨rfl, rfl, rfl, rfl, rfl, rfl, trivial⟩, (Among.of Among.none _ hs)⟩
                  · skip
                    refine St.val (v := (.bool false)) (Yields.isnt q29 (Yields.ge rfl rfl)) rfl rfl rfl ?_
                    refine St.val (v := (.bool false)) (Yields.pick_t rfl rfl) trivial rfl rfl ?_
                    refine St.val (v := (.bool false)) (Yields.move rfl) trivial rfl rfl ?_
                    refine St.unwanted rfl rfl rfl ?_
                    refine St.unwanted rfl rfl rfl ?_
                    refine St.unwanted rfl rfl rfl ?_
                    refine St.unwanted rfl rfl rfl ?_
                    refine St.val (v := (.bool false)) (Yields.pick_f rfl rfl) trivial rfl rfl ?_
                    refine St.val (v := (.bool false)) (Yields.move rfl) trivial rfl rfl ?_
                    refine St.unwanted rfl rfl rfl ?_
                    refine St.unwanted rfl rfl rfl ?_
                    refine St.unwanted rfl rfl rfl ?_
                    refine St.val (v := (.bool false)) (Yields.pick_f rfl rfl) trivial rfl rfl ?_
                    refine St.val (v := (.bool false)) (Yields.move rfl) trivial rfl rfl ?_
                    refine St.unwanted rfl rfl rfl ?_
                    refine St.unwanted rfl rfl rfl ?_
                    refine St.unwanted rfl rfl rfl ?_
                    refine St.val (v := (.bool false)) (Yields.pick_f rfl rfl) trivial rfl rfl ?_
                    refine St.val (v := (.bool false)) (Yields.assign rfl) trivial rfl rfl ?_
                    refine St.nil ?_
                    refine St.innorm ?_
                    refine St.innorm ?_
                    refine St.norm ?_
                    refine St.region ?_
                    refine St.val (v := (.int .i64 ((i : Int) + 1))) (Yields.add rfl rfl (by omega) (by omega)) trivial rfl rfl ?_
                    refine St.val (v := (.int .i64 ((i : Int) + 1))) (Yields.move rfl) trivial rfl rfl ?_
                    refine St.nil ?_
                    refine St.norm ?_
                    intro a w ha hs
                    have hq : okSh n x16 = false := by unfold okSh; (repeat' split) <;> first | rfl | (exfalso; omega) | (simp; omega)
                    exact ⟨k - (i + 1), by omega, i + 1, false, rfl, by omega, by rw [all_snoc hx19, ← Bool.and_assoc, ← hb, hq]; first | done | rfl, ha.covers ⟨rfl, rfl, rfl, rfl, rfl, rfl, trivial⟩, (Among.of Among.none _ hs)⟩
                · skip
                  refine St.val (v := (.bool false)) (Yields.isnt q28 (Yields.eq rfl rfl)) trivial rfl rfl ?_
                  refine St.val (v := (.bool false)) (Yields.assign rfl) trivial rfl rfl ?_
                  refine St.nil ?_
                  refine St.norm ?_
                  refine St.cond_f rfl ?_
                  refine St.region ?_
                  refine St.val (v := (.bool true)) (Yields.move rfl) trivial rfl rfl ?_
                  refine St.val (v := (.bool true)) (Yields.move rfl) trivial rfl rfl ?_
                  refine St.val (v := (.pointer (some ⟨b25, 1, none⟩))) (Yields.fieldAddr (v := (.pointer (some ⟨b25, 1, none⟩))) rfl (fun _ => by kernel_rfl)) rfl rfl rfl ?_
                  refine St.val (v := (.int .i64 x16.a)) (Yields.load rfl (Loads.H1 0 rfl tc3 rfl)) rfl rfl rfl ?_
                  by_cases q33 : x16.a = 0
                  · skip
                    refine St.val (v := (.bool true)) (Yields.is q33 (Yields.eq rfl rfl)) rfl rfl rfl ?_
                    refine St.val (v := (.bool true)) (Yields.pick_t rfl rfl) trivial rfl rfl ?_
                    refine St.val (v := (.bool true)) (Yields.move rfl) trivial rfl rfl ?_
                    refine St.val (v := (.pointer (some ⟨b25, 2, none⟩))) (Yields.fieldAddr (v := (.pointer (some ⟨b25, 2, none⟩))) rfl (fun _ => by kernel_rfl)) rfl rfl rfl ?_
                    refine St.val (v := (.int .i64 x16.v)) (Yields.load rfl (Loads.H1 0 rfl tc3 rfl)) rfl rfl rfl ?_
                    by_cases q34 : x16.v = 0
                    · skip
                      refine St.val (v := (.bool true)) (Yields.is q34 (Yields.eq rfl rfl)) rfl rfl rfl ?_
                      refine St.val (v := (.bool true)) (Yields.pick_t rfl rfl) trivial rfl rfl ?_
                      refine St.val (v := (.bool true)) (Yields.assign rfl) trivial rfl rfl ?_
                      refine St.nil ?_
                      refine St.innorm ?_
                      refine St.innorm ?_
                      refine St.norm ?_
                      refine St.region ?_
                      refine St.val (v := (.int .i64 ((i : Int) + 1))) (Yields.add rfl rfl (by omega) (by omega)) trivial rfl rfl ?_
                      refine St.val (v := (.int .i64 ((i : Int) + 1))) (Yields.move rfl) trivial rfl rfl ?_
                      refine St.nil ?_
                      refine St.norm ?_
                      intro a w ha hs
                      have hq : okSh n x16 = true := by unfold okSh; (repeat' split) <;> first | rfl | (exfalso; omega) | (simp; omega)
                      exact ⟨k - (i + 1), by omega, i + 1, true, rfl, by omega, by rw [all_snoc hx19, ← Bool.and_assoc, ← hb, hq]; first | done | rfl, ha.covers ⟨rfl, rfl, rfl, rfl, rfl, rfl, trivial⟩, (Among.of Among.none _ hs)⟩
                    · skip
                      refine St.val (v := (.bool false)) (Yields.isnt q34 (Yields.eq rfl rfl)) rfl rfl rfl ?_
                      refine St.val (v := (.bool false)) (Yields.pick_t rfl rfl) trivial rfl rfl ?_
                      refine St.val (v := (.bool false)) (Yields.assign rfl) trivial rfl rfl ?_
                      refine St.nil ?_
                      refine St.innorm ?_
                      refine St.innorm ?_
                      refine St.norm ?_
                      refine St.region ?_
                      refine St.val (v := (.int .i64 ((i : Int) + 1))) (Yields.add rfl rfl (by omega) (by omega)) trivial rfl rfl ?_
                      refine St.val (v := (.int .i64 ((i : Int) + 1))) (Yields.move rfl) trivial rfl rfl ?_
                      refine St.nil ?_
                      refine St.norm ?_
                      intro a w ha hs
                      have hq : okSh n x16 = false := by unfold okSh; (repeat' split) <;> first | rfl | (exfalso; omega) | (simp; omega)
                      exact ⟨k - (i + 1), by omega, i + 1, false, rfl, by omega, by rw [all_snoc hx19, ← Bool.and_assoc, ← hb, hq]; first | done | rfl, ha.covers ⟨rfl, rfl, rfl, rfl, rfl, rfl, trivial⟩, (Among.of Among.none _ hs)⟩
                  · skip
                    refine St.val (v := (.bool false)) (Yields.isnt q33 (Yields.eq rfl rfl)) rfl rfl rfl ?_
                    refine St.val (v := (.bool false)) (Yields.pick_t rfl rfl) trivial rfl rfl ?_
                    refine St.val (v := (.bool false)) (Yields.move rfl) trivial rfl rfl ?_
                    refine St.unwanted rfl rfl rfl ?_
                    refine St.unwanted rfl rfl rfl ?_
                    refine St.unwanted rfl rfl rfl ?_
                    refine St.val (v := (.bool false)) (Yields.pick_f rfl rfl) trivial rfl rfl ?_
                    refine St.val (v := (.bool false)) (Yields.assign rfl) trivial rfl rfl ?_
                    refine St.nil ?_
                    refine St.innorm ?_
                    refine St.innorm ?_
                    refine St.norm ?_
                    refine St.region ?_
                    refine St.val (v := (.int .i64 ((i : Int) + 1))) (Yields.add rfl rfl (by omega) (by omega)) trivial rfl rfl ?_
                    refine St.val (v := (.int .i64 ((i : Int) + 1))) (Yields.move rfl) trivial rfl rfl ?_
                    refine St.nil ?_
                    refine St.norm ?_
                    intro a w ha hs
                    have hq : okSh n x16 = false := by unfold okSh; (repeat' split) <;> first | rfl | (exfalso; omega) | (simp; omega)
                    exact ⟨k - (i + 1), by omega, i + 1, false, rfl, by omega, by rw [all_snoc hx19, ← Bool.and_assoc, ← hb, hq]; first | done | rfl, ha.covers ⟨rfl, rfl, rfl, rfl, rfl, rfl, trivial⟩, (Among.of Among.none _ hs)⟩
          · skip
            have hb : true = (okn n && l.all (okSh n)) := by rw [hb, List.take_of_length_le (by omega)]
            refine St.seq ?_
            refine St.region ?_
            refine St.val (v := (.bool false)) (Yields.isnt hi (Yields.lt rfl rfl)) trivial rfl rfl ?_
            refine St.nil ?_
            refine St.norm ?_
            refine St.seq ?_
            refine St.cond_f rfl ?_
            refine St.exit ?_
            refine St.thenexit ?_
            refine St.thenexit ?_
            refine St.inexit ?_
            refine St.norm ?_
            refine St.seq ?_
            refine St.block ?_
            refine St.seq ?_
            refine St.region ?_
            refine St.val (v := (.bool true)) (Yields.move rfl) trivial rfl rfl ?_
            refine St.val (v := (.bool false)) (Yields.not_t rfl) trivial rfl rfl ?_
            refine St.val (v := (.bool false)) (Yields.assign rfl) trivial rfl rfl ?_
            refine St.nil ?_
            refine St.norm ?_
            refine St.cond_f rfl ?_
            refine St.seq ?_
            refine St.region ?_
            refine St.val (v := (.slice A k c)) (Yields.move rfl) trivial rfl rfl ?_
            refine St.val (v := (.int .i64 (k : Int))) (Yields.lenSlice tu22 rfl) trivial rfl rfl ?_
            by_cases q35 : (k : Int) > 400
            · skip
              refine St.val (v := (.bool true)) (Yields.is q35 (Yields.gt rfl rfl)) trivial rfl rfl ?_
              refine St.val (v := (.bool true)) (Yields.assign rfl) trivial rfl rfl ?_
              refine St.nil ?_
              refine St.norm ?_
              refine St.cond_t rfl ?_
              refine St.seq ?_
              refine St.region ?_
              refine St.val (v := (.int .i64 3)) (Yields.assign rfl) trivial rfl rfl ?_
              refine St.nil ?_
              refine St.norm ?_
              refine St.ret ?_
              refine St.inret ?_
              refine St.thenret ?_
              refine St.done1 rfl rfl ⟨?_, rfl, rfl⟩
              unfold shErr; rw [← hb]; rw [if_neg (by decide)]; rw [if_pos (by omega)]
            · skip
              refine St.val (v := (.bool false)) (Yields.isnt q35 (Yields.gt rfl rfl)) trivial rfl rfl ?_
              refine St.val (v := (.bool false)) (Yields.assign rfl) trivial rfl rfl ?_
              refine St.nil ?_
              refine St.norm ?_
              refine St.cond_f rfl ?_
              refine St.skip ?_
              refine St.innorm ?_
              refine St.norm ?_
              refine St.seq ?_
              refine St.region ?_
              refine St.val (v := (.int .i64 0)) (Yields.assign rfl) trivial rfl rfl ?_
              refine St.nil ?_
              refine St.norm ?_
              refine St.ret ?_
              refine St.done1 rfl rfl ⟨?_, rfl, rfl⟩
              unfold shErr; rw [← hb]; rw [if_neg (by decide)]; rw [if_neg (by omega)]
    · skip
      refine St.val (v := (.bool false)) (Yields.isnt q2 (Yields.le rfl rfl)) rfl rfl rfl ?_
      refine St.val (v := (.bool false)) (Yields.pick_t rfl rfl) trivial rfl rfl ?_
      refine St.val (v := (.bool false)) (Yields.assign rfl) trivial rfl rfl ?_
      refine St.nil ?_
      refine St.norm ?_
      refine St.seq ?_
      refine St.seq ?_
      refine St.region ?_
      refine St.val (v := (.slice A k c)) (Yields.move rfl) trivial rfl rfl ?_
      refine St.val (v := (.int .i64 (k : Int))) (Yields.lenSlice tu22 rfl) trivial rfl rfl ?_
      refine St.val (v := (.int .i64 0)) (Yields.move rfl) trivial rfl rfl ?_
      refine St.nil ?_
      refine St.norm ?_
      refine St.block ?_
      refine St.loop (fun kk a w => ∃ (i : Nat) (b : Bool), kk = k - i ∧ i ≤ k ∧ b = (okn n && (l.take i).all (okSh n)) ∧ Has Try.f15.ntmps a [(0, .int .i64 n), (1, .slice A k c), (5, .bool b), (14, .slice A k c), (15, .int .i64 k), (16, .int .i64 i)] ∧ Sat ⟨w0, fun b => m0 b ≠ none, F⟩ F [] w) k ?_ ?_
      · intro a w ha hs
        exact ⟨0, false, by omega, by omega, by unfold okn; simp; omega, ha.covers ⟨rfl, rfl, rfl, rfl, rfl, rfl, trivial⟩, hs⟩
      · rintro kk a w ⟨i, b, hkk, hik, hb, ha, hs⟩
        refine St.use (?_ : St _ _ _ _ _ _) ha hs
        clear ha hs a w
        cases b
        · skip
          by_cases hi : (i : Int) < (k : Int)
          · skip
            obtain ⟨x36, hx39⟩ : ∃ x, l[i]? = some x := ⟨_, List.getElem?_eq_getElem (by omega)⟩
            obtain ⟨ad37, cs38, hA40, hK41, hc42⟩ := hS.get hx39
            subst hA40
            obtain rfl : cs38 = shV x36 := hK41
            obtain ⟨p43, hp44⟩ : ∃ p, ad37.add (i * 3) = p := ⟨_, rfl⟩
            have hc42 : ∀ j v, ([.int .i64 x36.k, .int .i64 x36.a, .int .i64 x36.v] : List Value)[j]? = some v → PH.cell? F (p43.add j) = some v := by rw [← hp44]; exact hc42
            refine St.seq ?_
            refine St.region ?_
            refine St.val (v := (.bool true)) (Yields.is hi (Yields.lt rfl rfl)) trivial rfl rfl ?_
            refine St.nil ?_
            refine St.norm ?_
            refine St.seq ?_
            refine St.cond_t rfl ?_
            refine St.skip ?_
            refine St.norm ?_
            refine St.seq ?_
            refine St.block ?_
            refine St.seq ?_
            refine St.region ?_
            refine St.val (v := (.pointer (some p43))) (Yields.indexAddr (p := p43) ts22 rfl rfl (by omega) (by omega) (by rw [← hp44]; first | rfl | (congr 1; omega))) trivial rfl rfl ?_
            refine St.val (v := (.agg #[.int .i64 x36.k, .int .i64 x36.a, .int .i64 x36.v])) (Yields.load rfl (Loads.Fatn0 hc42 ta29)) trivial rfl rfl ?_
            refine St.alloc tz29 trivial rfl ?_
            intro b45
            refine St.storen (R := []) rfl rfl 0 rfl rfl ta29 rfl rfl rfl trivial (cs' := #[.int .i64 x36.k, .int .i64 x36.a, .int .i64 x36.v]) rfl ?_
            refine St.nil ?_
            refine St.norm ?_
            refine St.block ?_
            refine St.seq ?_
            refine St.region ?_
            refine St.val (v := (.pointer (some ⟨b45, 0, none⟩))) (Yields.fieldAddr (v := (.pointer (some ⟨b45, 0, none⟩))) rfl (fun _ => by kernel_rfl)) trivial rfl rfl ?_
            refine St.val (v := (.int .i64 x36.k)) (Yields.load rfl (Loads.H1 0 rfl tc3 rfl)) trivial rfl rfl ?_
            by_cases q46 : x36.k < 0
            · skip
              refine St.val (v := (.bool true)) (Yields.is q46 (Yields.lt rfl rfl)) trivial rfl rfl ?_
              refine St.val (v := (.bool true)) (Yields.move rfl) trivial rfl rfl ?_
              refine St.unwanted rfl rfl rfl ?_
              refine St.unwanted rfl rfl rfl ?_
              refine St.unwanted rfl rfl rfl ?_
              refine St.val (v := (.bool true)) (Yields.pick_t rfl rfl) trivial rfl rfl ?_
              refine St.val (v := (.bool true)) (Yields.assign rfl) trivial rfl rfl ?_
              refine St.nil ?_
              refine St.norm ?_
              refine St.cond_t rfl ?_
              refine St.region ?_
              refine St.val (v := (.bool false)) (Yields.assign rfl) trivial rfl rfl ?_
              refine St.nil ?_
              refine St.innorm ?_
              refine St.innorm ?_
              refine St.norm ?_
              refine St.region ?_
              refine St.val (v := (.int .i64 ((i : Int) + 1))) (Yields.add rfl rfl (by omega) (by omega)) trivial rfl rfl ?_
              refine St.val (v := (.int .i64 ((i : Int) + 1))) (Yields.move rfl) trivial rfl rfl ?_
              refine St.nil ?_
              refine St.norm ?_
              intro a w ha hs
              have hq : okSh n x36 = okSh n x36 := by unfold okSh; rfl
              exact ⟨k - (i + 1), by omega, i + 1, false, rfl, by omega, by rw [all_snoc hx39, ← Bool.and_assoc, ← hb, Bool.false_and]; first | done | rfl, ha.covers ⟨rfl, rfl, rfl, rfl, rfl, rfl, trivial⟩, (Among.of Among.none _ hs)⟩
            · skip
              refine St.val (v := (.bool false)) (Yields.isnt q46 (Yields.lt rfl rfl)) trivial rfl rfl ?_
              refine St.val (v := (.bool false)) (Yields.move rfl) trivial rfl rfl ?_
              refine St.val (v := (.pointer (some ⟨b45, 0, none⟩))) (Yields.fieldAddr (v := (.pointer (some ⟨b45, 0, none⟩))) rfl (fun _ => by kernel_rfl)) rfl rfl rfl ?_
              refine St.val (v := (.int .i64 x36.k)) (Yields.load rfl (Loads.H1 0 rfl tc3 rfl)) rfl rfl rfl ?_
              by_cases q47 : x36.k > 4
              · skip
                refine St.val (v := (.bool true)) (Yields.is q47 (Yields.gt rfl rfl)) rfl rfl rfl ?_
                refine St.val (v := (.bool true)) (Yields.pick_f rfl rfl) trivial rfl rfl ?_
                refine St.val (v := (.bool true)) (Yields.assign rfl) trivial rfl rfl ?_
                refine St.nil ?_
                refine St.norm ?_
                refine St.cond_t rfl ?_
                refine St.region ?_
                refine St.val (v := (.bool false)) (Yields.assign rfl) trivial rfl rfl ?_
                refine St.nil ?_
                refine St.innorm ?_
                refine St.innorm ?_
                refine St.norm ?_
                refine St.region ?_
                refine St.val (v := (.int .i64 ((i : Int) + 1))) (Yields.add rfl rfl (by omega) (by omega)) trivial rfl rfl ?_
                refine St.val (v := (.int .i64 ((i : Int) + 1))) (Yields.move rfl) trivial rfl rfl ?_
                refine St.nil ?_
                refine St.norm ?_
                intro a w ha hs
                have hq : okSh n x36 = okSh n x36 := by unfold okSh; rfl
                exact ⟨k - (i + 1), by omega, i + 1, false, rfl, by omega, by rw [all_snoc hx39, ← Bool.and_assoc, ← hb, Bool.false_and]; first | done | rfl, ha.covers ⟨rfl, rfl, rfl, rfl, rfl, rfl, trivial⟩, (Among.of Among.none _ hs)⟩
              · skip
                refine St.val (v := (.bool false)) (Yields.isnt q47 (Yields.gt rfl rfl)) rfl rfl rfl ?_
                refine St.val (v := (.bool false)) (Yields.pick_f rfl rfl) trivial rfl rfl ?_
                refine St.val (v := (.bool false)) (Yields.assign rfl) trivial rfl rfl ?_
                refine St.nil ?_
                refine St.norm ?_
                refine St.cond_f rfl ?_
                refine St.seq ?_
                refine St.region ?_
                refine St.val (v := (.pointer (some ⟨b45, 0, none⟩))) (Yields.fieldAddr (v := (.pointer (some ⟨b45, 0, none⟩))) rfl (fun _ => by kernel_rfl)) trivial rfl rfl ?_
                refine St.val (v := (.int .i64 x36.k)) (Yields.load rfl (Loads.H1 0 rfl tc3 rfl)) trivial rfl rfl ?_
                by_cases q48 : x36.k = 0
                · skip
                  refine St.val (v := (.bool true)) (Yields.is q48 (Yields.eq rfl rfl)) trivial rfl rfl ?_
                  refine St.val (v := (.bool true)) (Yields.assign rfl) trivial rfl rfl ?_
                  refine St.nil ?_
                  refine St.norm ?_
                  refine St.cond_t rfl ?_
                  refine St.region ?_
                  refine St.val (v := (.bool false)) (Yields.move rfl) trivial rfl rfl ?_
                  refine St.val (v := (.bool false)) (Yields.move rfl) trivial rfl rfl ?_
                  refine St.unwanted rfl rfl rfl ?_
                  refine St.unwanted rfl rfl rfl ?_
                  refine St.unwanted rfl rfl rfl ?_
                  refine St.val (v := (.bool false)) (Yields.pick_f rfl rfl) trivial rfl rfl ?_
                  refine St.val (v := (.bool false)) (Yields.move rfl) trivial rfl rfl ?_
                  refine St.unwanted rfl rfl rfl ?_
                  refine St.unwanted rfl rfl rfl ?_
                  refine St.unwanted rfl rfl rfl ?_
                  refine St.unwanted rfl rfl rfl ?_
                  refine St.val (v := (.bool false)) (Yields.pick_f rfl rfl) trivial rfl rfl ?_
                  refine St.val (v := (.bool false)) (Yields.move rfl) trivial rfl rfl ?_
                  refine St.unwanted rfl rfl rfl ?_
                  refine St.unwanted rfl rfl rfl ?_
                  refine St.unwanted rfl rfl rfl ?_
                  refine St.val (v := (.bool false)) (Yields.pick_f rfl rfl) trivial rfl rfl ?_
                  refine St.val (v := (.bool false)) (Yields.move rfl) trivial rfl rfl ?_
                  refine St.unwanted rfl rfl rfl ?_
                  refine St.unwanted rfl rfl rfl ?_
                  refine St.unwanted rfl rfl rfl ?_
                  refine St.val (v := (.bool false)) (Yields.pick_f rfl rfl) trivial rfl rfl ?_
                  refine St.val (v := (.bool false)) (Yields.assign rfl) trivial rfl rfl ?_
                  refine St.nil ?_
                  refine St.innorm ?_
                  refine St.innorm ?_
                  refine St.norm ?_
                  refine St.region ?_
                  refine St.val (v := (.int .i64 ((i : Int) + 1))) (Yields.add rfl rfl (by omega) (by omega)) trivial rfl rfl ?_
                  refine St.val (v := (.int .i64 ((i : Int) + 1))) (Yields.move rfl) trivial rfl rfl ?_
                  refine St.nil ?_
                  refine St.norm ?_
                  intro a w ha hs
                  have hq : okSh n x36 = okSh n x36 := by unfold okSh; rfl
                  exact ⟨k - (i + 1), by omega, i + 1, false, rfl, by omega, by rw [all_snoc hx39, ← Bool.and_assoc, ← hb, Bool.false_and]; first | done | rfl, ha.covers ⟨rfl, rfl, rfl, rfl, rfl, rfl, trivial⟩, (Among.of Among.none _ hs)⟩
                · skip
                  refine St.val (v := (.bool false)) (Yields.isnt q48 (Yields.eq rfl rfl)) trivial rfl rfl ?_
                  refine St.val (v := (.bool false)) (Yields.assign rfl) trivial rfl rfl ?_
                  refine St.nil ?_
                  refine St.norm ?_
                  refine St.cond_f rfl ?_
                  refine St.region ?_
                  refine St.val (v := (.bool false)) (Yields.move rfl) trivial rfl rfl ?_
                  refine St.val (v := (.bool false)) (Yields.move rfl) trivial rfl rfl ?_
                  refine St.unwanted rfl rfl rfl ?_
                  refine St.unwanted rfl rfl rfl ?_
                  refine St.unwanted rfl rfl rfl ?_
                  refine St.val (v := (.bool false)) (Yields.pick_f rfl rfl) trivial rfl rfl ?_
                  refine St.val (v := (.bool false)) (Yields.move rfl) trivial rfl rfl ?_
                  refine St.unwanted rfl rfl rfl ?_
                  refine St.unwanted rfl rfl rfl ?_
                  refine St.unwanted rfl rfl rfl ?_
                  refine St.val (v := (.bool false)) (Yields.pick_f rfl rfl) trivial rfl rfl ?_
                  refine St.val (v := (.bool false)) (Yields.assign rfl) trivial rfl rfl ?_
                  refine St.nil ?_
                  refine St.innorm ?_
                  refine St.innorm ?_
                  refine St.norm ?_
                  refine St.region ?_
                  refine St.val (v := (.int .i64 ((i : Int) + 1))) (Yields.add rfl rfl (by omega) (by omega)) trivial rfl rfl ?_
                  refine St.val (v := (.int .i64 ((i : Int) + 1))) (Yields.move rfl) trivial rfl rfl ?_
                  refine St.nil ?_
                  refine St.norm ?_
                  intro a w ha hs
                  have hq : okSh n x36 = okSh n x36 := by unfold okSh; rfl
                  exact ⟨k - (i + 1), by omega, i + 1, false, rfl, by omega, by rw [all_snoc hx39, ← Bool.and_assoc, ← hb, Bool.false_and]; first | done | rfl, ha.covers ⟨rfl, rfl, rfl, rfl, rfl, rfl, trivial⟩, (Among.of Among.none _ hs)⟩
          · skip
            have hb : false = (okn n && l.all (okSh n)) := by rw [hb, List.take_of_length_le (by omega)]
            refine St.seq ?_
            refine St.region ?_
            refine St.val (v := (.bool false)) (Yields.isnt hi (Yields.lt rfl rfl)) trivial rfl rfl ?_
            refine St.nil ?_
            refine St.norm ?_
            refine St.seq ?_
            refine St.cond_f rfl ?_
            refine St.exit ?_
            refine St.thenexit ?_
            refine St.thenexit ?_
            refine St.inexit ?_
            refine St.norm ?_
            refine St.seq ?_
            refine St.block ?_
            refine St.seq ?_
            refine St.region ?_
            refine St.val (v := (.bool false)) (Yields.move rfl) trivial rfl rfl ?_
            refine St.val (v := (.bool true)) (Yields.not_f rfl) trivial rfl rfl ?_
            refine St.val (v := (.bool true)) (Yields.assign rfl) trivial rfl rfl ?_
            refine St.nil ?_
            refine St.norm ?_
            refine St.cond_t rfl ?_
            refine St.seq ?_
            refine St.region ?_
            refine St.val (v := (.int .i64 1)) (Yields.assign rfl) trivial rfl rfl ?_
            refine St.nil ?_
            refine St.norm ?_
            refine St.ret ?_
            refine St.inret ?_
            refine St.thenret ?_
            refine St.done1 rfl rfl ⟨?_, rfl, rfl⟩
            unfold shErr; rw [← hb]; rfl
        · skip
          by_cases hi : (i : Int) < (k : Int)
          · skip
            obtain ⟨x49, hx52⟩ : ∃ x, l[i]? = some x := ⟨_, List.getElem?_eq_getElem (by omega)⟩
            obtain ⟨ad50, cs51, hA53, hK54, hc55⟩ := hS.get hx52
            subst hA53
            obtain rfl : cs51 = shV x49 := hK54
            obtain ⟨p56, hp57⟩ : ∃ p, ad50.add (i * 3) = p := ⟨_, rfl⟩
            have hc55 : ∀ j v, ([.int .i64 x49.k, .int .i64 x49.a, .int .i64 x49.v] : List Value)[j]? = some v → PH.cell? F (p56.add j) = some v := by rw [← hp57]; exact hc55
            refine St.seq ?_
            refine St.region ?_
            refine St.val (v := (.bool true)) (Yields.is hi (Yields.lt rfl rfl)) trivial rfl rfl ?_
            refine St.nil ?_
            refine St.norm ?_
            refine St.seq ?_
            refine St.cond_t rfl ?_
            refine St.skip ?_
            refine St.norm ?_
            refine St.seq ?_
            refine St.block ?_
            refine St.seq ?_
            refine St.region ?_
            refine St.val (v := (.pointer (some p56))) (Yields.indexAddr (p := p56) ts22 rfl rfl (by omega) (by omega) (by rw [← hp57]; first | rfl | (congr 1; omega))) trivial rfl rfl ?_
            refine St.val (v := (.agg #[.int .i64 x49.k, .int .i64 x49.a, .int .i64 x49.v])) (Yields.load rfl (Loads.Fatn0 hc55 ta29)) trivial rfl rfl ?_
            refine St.alloc tz29 trivial rfl ?_
            intro b58
            refine St.storen (R := []) rfl rfl 0 rfl rfl ta29 rfl rfl rfl trivial (cs' := #[.int .i64 x49.k, .int .i64 x49.a, .int .i64 x49.v]) rfl ?_
            refine St.nil ?_
            refine St.norm ?_
            refine St.block ?_
            refine St.seq ?_
            refine St.region ?_
            refine St.val (v := (.pointer (some ⟨b58, 0, none⟩))) (Yields.fieldAddr (v := (.pointer (some ⟨b58, 0, none⟩))) rfl (fun _ => by kernel_rfl)) trivial rfl rfl ?_
            refine St.val (v := (.int .i64 x49.k)) (Yields.load rfl (Loads.H1 0 rfl tc3 rfl)) trivial rfl rfl ?_
            by_cases q59 : x49.k < 0
            · skip
              refine St.val (v := (.bool true)) (Yields.is q59 (Yields.lt rfl rfl)) trivial rfl rfl ?_
              refine St.val (v := (.bool true)) (Yields.move rfl) trivial rfl rfl ?_
              refine St.unwanted rfl rfl rfl ?_
              refine St.unwanted rfl rfl rfl ?_
              refine St.unwanted rfl rfl rfl ?_
              refine St.val (v := (.bool true)) (Yields.pick_t rfl rfl) trivial rfl rfl ?_
              refine St.val (v := (.bool true)) (Yields.assign rfl) trivial rfl rfl ?_
              refine St.nil ?_
              refine St.norm ?_
              refine St.cond_t rfl ?_
              refine St.region ?_
              refine St.val (v := (.bool false)) (Yields.assign rfl) trivial rfl rfl ?_
              refine St.nil ?_
              refine St.innorm ?_
              refine St.innorm ?_
              refine St.norm ?_
              refine St.region ?_
              refine St.val (v := (.int .i64 ((i : Int) + 1))) (Yields.add rfl rfl (by omega) (by omega)) trivial rfl rfl ?_
              refine St.val (v := (.int .i64 ((i : Int) + 1))) (Yields.move rfl) trivial rfl rfl ?_
              refine St.nil ?_
              refine St.norm ?_
              intro a w ha hs
              have hq : okSh n x49 = false := by unfold okSh; (repeat' split) <;> first | rfl | (exfalso; omega) | (simp; omega)
              exact ⟨k - (i + 1), by omega, i + 1, false, rfl, by omega, by rw [all_snoc hx52, ← Bool.and_assoc, ← hb, hq]; first | done | rfl, ha.covers ⟨rfl, rfl, rfl, rfl, rfl, rfl, trivial⟩, (Among.of Among.none _ hs)⟩
            · skip
              refine St.val (v := (.bool false)) (Yields.isnt q59 (Yields.lt rfl rfl)) trivial rfl rfl ?_
              refine St.val (v := (.bool false)) (Yields.move rfl) trivial rfl rfl ?_
              refine St.val (v := (.pointer (some ⟨b58, 0, none⟩))) (Yields.fieldAddr (v := (.pointer (some ⟨b58, 0, none⟩))) rfl (fun _ => by kernel_rfl)) rfl rfl rfl ?_
              refine St.val (v := (.int .i64 x49.k)) (Yields.load rfl (Loads.H1 0 rfl tc3 rfl)) rfl rfl rfl ?_
              by_cases q60 : x49.k > 4
              · skip
                refine St.val (v := (.bool true)) (Yields.is q60 (Yields.gt rfl rfl)) rfl rfl rfl ?_
                refine St.val (v := (.bool true)) (Yields.pick_f rfl rfl) trivial rfl rfl ?_
                refine St.val (v := (.bool true)) (Yields.assign rfl) trivial rfl rfl ?_
                refine St.nil ?_
                refine St.norm ?_
                refine St.cond_t rfl ?_
                refine St.region ?_
                refine St.val (v := (.bool false)) (Yields.assign rfl) trivial rfl rfl ?_
                refine St.nil ?_
                refine St.innorm ?_
                refine St.innorm ?_
                refine St.norm ?_
                refine St.region ?_
                refine St.val (v := (.int .i64 ((i : Int) + 1))) (Yields.add rfl rfl (by omega) (by omega)) trivial rfl rfl ?_
                refine St.val (v := (.int .i64 ((i : Int) + 1))) (Yields.move rfl) trivial rfl rfl ?_
                refine St.nil ?_
                refine St.norm ?_
                intro a w ha hs
                have hq : okSh n x49 = false := by unfold okSh; (repeat' split) <;> first | rfl | (exfalso; omega) | (simp; omega)
                exact ⟨k - (i + 1), by omega, i + 1, false, rfl, by omega, by rw [all_snoc hx52, ← Bool.and_assoc, ← hb, hq]; first | done | rfl, ha.covers ⟨rfl, rfl, rfl, rfl, rfl, rfl, trivial⟩, (Among.of Among.none _ hs)⟩
              · skip
                refine St.val (v := (.bool false)) (Yields.isnt q60 (Yields.gt rfl rfl)) rfl rfl rfl ?_
                refine St.val (v := (.bool false)) (Yields.pick_f rfl rfl) trivial rfl rfl ?_
                refine St.val (v := (.bool false)) (Yields.assign rfl) trivial rfl rfl ?_
                refine St.nil ?_
                refine St.norm ?_
                refine St.cond_f rfl ?_
                refine St.seq ?_
                refine St.region ?_
                refine St.val (v := (.pointer (some ⟨b58, 0, none⟩))) (Yields.fieldAddr (v := (.pointer (some ⟨b58, 0, none⟩))) rfl (fun _ => by kernel_rfl)) trivial rfl rfl ?_
                refine St.val (v := (.int .i64 x49.k)) (Yields.load rfl (Loads.H1 0 rfl tc3 rfl)) trivial rfl rfl ?_
                by_cases q61 : x49.k = 0
                · skip
                  refine St.val (v := (.bool true)) (Yields.is q61 (Yields.eq rfl rfl)) trivial rfl rfl ?_
                  refine St.val (v := (.bool true)) (Yields.assign rfl) trivial rfl rfl ?_
                  refine St.nil ?_
                  refine St.norm ?_
                  refine St.cond_t rfl ?_
                  refine St.region ?_
                  refine St.val (v := (.bool true)) (Yields.move rfl) trivial rfl rfl ?_
                  refine St.val (v := (.bool true)) (Yields.move rfl) trivial rfl rfl ?_
                  refine St.val (v := (.pointer (some ⟨b58, 1, none⟩))) (Yields.fieldAddr (v := (.pointer (some ⟨b58, 1, none⟩))) rfl (fun _ => by kernel_rfl)) rfl rfl rfl ?_
                  refine St.val (v := (.int .i64 x49.a)) (Yields.load rfl (Loads.H1 0 rfl tc3 rfl)) rfl rfl rfl ?_
                  by_cases q62 : x49.a ≥ 0
                  · skip
                    refine St.val (v := (.bool true)) (Yields.is q62 (Yields.ge rfl rfl)) rfl rfl rfl ?_
                    refine St.val (v := (.bool true)) (Yields.pick_t rfl rfl) trivial rfl rfl ?_
                    refine St.val (v := (.bool true)) (Yields.move rfl) trivial rfl rfl ?_
                    refine St.val (v := (.pointer (some ⟨b58, 1, none⟩))) (Yields.fieldAddr (v := (.pointer (some ⟨b58, 1, none⟩))) rfl (fun _ => by kernel_rfl)) rfl rfl rfl ?_
                    refine St.val (v := (.int .i64 x49.a)) (Yields.load rfl (Loads.H1 0 rfl tc3 rfl)) rfl rfl rfl ?_
                    refine St.val (v := (.int .i64 n)) (Yields.move rfl) rfl rfl rfl ?_
                    by_cases q63 : x49.a < n
                    · skip
                      refine St.val (v := (.bool true)) (Yields.is q63 (Yields.lt rfl rfl)) rfl rfl rfl ?_
                      refine St.val (v := (.bool true)) (Yields.pick_t rfl rfl) trivial rfl rfl ?_
                      refine St.val (v := (.bool true)) (Yields.move rfl) trivial rfl rfl ?_
                      refine St.val (v := (.pointer (some ⟨b58, 2, none⟩))) (Yields.fieldAddr (v := (.pointer (some ⟨b58, 2, none⟩))) rfl (fun _ => by kernel_rfl)) rfl rfl rfl ?_
                      refine St.val (v := (.int .i64 x49.v)) (Yields.load rfl (Loads.H1 0 rfl tc3 rfl)) rfl rfl rfl ?_
                      by_cases q64 : x49.v ≥ -1000000000
                      · skip
                        refine St.val (v := (.bool true)) (Yields.is q64 (Yields.ge rfl rfl)) rfl rfl rfl ?_
                        refine St.val (v := (.bool true)) (Yields.pick_t rfl rfl) trivial rfl rfl ?_
                        refine St.val (v := (.bool true)) (Yields.move rfl) trivial rfl rfl ?_
                        refine St.val (v := (.pointer (some ⟨b58, 2, none⟩))) (Yields.fieldAddr (v := (.pointer (some ⟨b58, 2, none⟩))) rfl (fun _ => by kernel_rfl)) rfl rfl rfl ?_
                        refine St.val (v := (.int .i64 x49.v)) (Yields.load rfl (Loads.H1 0 rfl tc3 rfl)) rfl rfl rfl ?_
                        by_cases q65 : x49.v ≤ 1000000000
                        · skip
                          refine St.val (v := (.bool true)) (Yields.is q65 (Yields.le rfl rfl)) rfl rfl rfl ?_
                          refine St.val (v := (.bool true)) (Yields.pick_t rfl rfl) trivial rfl rfl ?_
                          refine St.val (v := (.bool true)) (Yields.assign rfl) trivial rfl rfl ?_
                          refine St.nil ?_
                          refine St.innorm ?_
                          refine St.innorm ?_
                          refine St.norm ?_
                          refine St.region ?_
                          refine St.val (v := (.int .i64 ((i : Int) + 1))) (Yields.add rfl rfl (by omega) (by omega)) trivial rfl rfl ?_
                          refine St.val (v := (.int .i64 ((i : Int) + 1))) (Yields.move rfl) trivial rfl rfl ?_
                          refine St.nil ?_
                          refine St.norm ?_
                          intro a w ha hs
                          have hq : okSh n x49 = true := by unfold okSh; (repeat' split) <;> first | rfl | (exfalso; omega) | (simp; omega)
                          exact ⟨k - (i + 1), by omega, i + 1, true, rfl, by omega, by rw [all_snoc hx52, ← Bool.and_assoc, ← hb, hq]; first | done | rfl, ha.covers ⟨rfl, rfl, rfl, rfl, rfl, rfl, trivial⟩, (Among.of Among.none _ hs)⟩
                        · skip
                          refine St.val (v := (.bool false)) (Yields.isnt q65 (Yields.le rfl rfl)) rfl rfl rfl ?_
                          refine St.val (v := (.bool false)) (Yields.pick_t rfl rfl) trivial rfl rfl ?_
                          refine St.val (v := (.bool false)) (Yields.assign rfl) trivial rfl rfl ?_
                          refine St.nil ?_
                          refine St.innorm ?_
                          refine St.innorm ?_
                          refine St.norm ?_
                          refine St.region ?_
                          refine St.val (v := (.int .i64 ((i : Int) + 1))) (Yields.add rfl rfl (by omega) (by omega)) trivial rfl rfl ?_
                          refine St.val (v := (.int .i64 ((i : Int) + 1))) (Yields.move rfl) trivial rfl rfl ?_
                          refine St.nil ?_
                          refine St.norm ?_
                          intro a w ha hs
                          have hq : okSh n x49 = false := by unfold okSh; (repeat' split) <;> first | rfl | (exfalso; omega) | (simp; omega)
                          exact ⟨k - (i + 1), by omega, i + 1, false, rfl, by omega, by rw [all_snoc hx52, ← Bool.and_assoc, ← hb, hq]; first | done | rfl, ha.covers ⟨rfl, rfl, rfl, rfl, rfl, rfl, trivial⟩, (Among.of Among.none _ hs)⟩
                      · skip
                        refine St.val (v := (.bool false)) (Yields.isnt q64 (Yields.ge rfl rfl)) rfl rfl rfl ?_
                        refine St.val (v := (.bool false)) (Yields.pick_t rfl rfl) trivial rfl rfl ?_
                        refine St.val (v := (.bool false)) (Yields.move rfl) trivial rfl rfl ?_
                        refine St.unwanted rfl rfl rfl ?_
                        refine St.unwanted rfl rfl rfl ?_
                        refine St.unwanted rfl rfl rfl ?_
                        refine St.val (v := (.bool false)) (Yields.pick_f rfl rfl) trivial rfl rfl ?_
                        refine St.val (v := (.bool false)) (Yields.assign rfl) trivial rfl rfl ?_
                        refine St.nil ?_
                        refine St.innorm ?_
                        refine St.innorm ?_
                        refine St.norm ?_
                        refine St.region ?_
                        refine St.val (v := (.int .i64 ((i : Int) + 1))) (Yields.add rfl rfl (by omega) (by omega)) trivial rfl rfl ?_
                        refine St.val (v := (.int .i64 ((i : Int) + 1))) (Yields.move rfl) trivial rfl rfl ?_
                        refine St.nil ?_
                        refine St.norm ?_
                        intro a w ha hs
                        have hq : okSh n x49 = false := by unfold okSh; (repeat' split) <;> first | rfl | (exfalso; omega) | (simp; omega)
                        exact ⟨k - (i + 1), by omega, i + 1, false, rfl, by omega, by rw [all_snoc hx52, ← Bool.and_assoc, ← hb, hq]; first | done | rfl, ha.covers ⟨rfl, rfl, rfl, rfl, rfl, rfl, trivial⟩, (Among.of Among.none _ hs)⟩
                    · skip
                      refine St.val (v := (.bool false)) (Yields.isnt q63 (Yields.lt rfl rfl)) rfl rfl rfl ?_
                      refine St.val (v := (.bool false)) (Yields.pick_t rfl rfl) trivial rfl rfl ?_
                      refine St.val (v := (.bool false)) (Yields.move rfl) trivial rfl rfl ?_
                      refine St.unwanted rfl rfl rfl ?_
                      refine St.unwanted rfl rfl rfl ?_
                      refine St.unwanted rfl rfl rfl ?_
                      refine St.val (v := (.bool false)) (Yields.pick_f rfl rfl) trivial rfl rfl ?_
                      refine St.val (v := (.bool false)) (Yields.move rfl) trivial rfl rfl ?_
                      refine St.unwanted rfl rfl rfl ?_
                      refine St.unwanted rfl rfl rfl ?_
                      refine St.unwanted rfl rfl rfl ?_
                      refine St.val (v := (.bool false)) (Yields.pick_f rfl rfl) trivial rfl rfl ?_
                      refine St.val (v := (.bool false)) (Yields.assign rfl) trivial rfl rfl ?_
                      refine St.nil ?_
                      refine St.innorm ?_
                      refine St.innorm ?_
                      refine St.norm ?_
                      refine St.region ?_
                      refine St.val (v := (.int .i64 ((i : Int) + 1))) (Yields.add rfl rfl (by omega) (by omega)) trivial rfl rfl ?_
                      refine St.val (v := (.int .i64 ((i : Int) + 1))) (Yields.move rfl) trivial rfl rfl ?_
                      refine St.nil ?_
                      refine St.norm ?_
                      intro a w ha hs
                      have hq : okSh n x49 = false := by unfold okSh; (repeat' split) <;> first | rfl | (exfalso; omega) | (simp; omega)
                      exact ⟨k - (i + 1), by omega, i + 1, false, rfl, by omega, by rw [all_snoc hx52, ← Bool.and_assoc, ← hb, hq]; first | done | rfl, ha.covers ⟨rfl, rfl, rfl, rfl, rfl, rfl, trivial⟩, (Among.of Among.none _ hs)⟩
                  · skip
                    refine St.val (v := (.bool false)) (Yields.isnt q62 (Yields.ge rfl rfl)) rfl rfl rfl ?_
                    refine St.val (v := (.bool false)) (Yields.pick_t rfl rfl) trivial rfl rfl ?_
                    refine St.val (v := (.bool false)) (Yields.move rfl) trivial rfl rfl ?_
                    refine St.unwanted rfl rfl rfl ?_
                    refine St.unwanted rfl rfl rfl ?_
                    refine St.unwanted rfl rfl rfl ?_
                    refine St.unwanted rfl rfl rfl ?_
                    refine St.val (v := (.bool false)) (Yields.pick_f rfl rfl) trivial rfl rfl ?_
                    refine St.val (v := (.bool false)) (Yields.move rfl) trivial rfl rfl ?_
                    refine St.unwanted rfl rfl rfl ?_
                    refine St.unwanted rfl rfl rfl ?_
                    refine St.unwanted rfl rfl rfl ?_
                    refine St.val (v := (.bool false)) (Yields.pick_f rfl rfl) trivial rfl rfl ?_
                    refine St.val (v := (.bool false)) (Yields.move rfl) trivial rfl rfl ?_
                    refine St.unwanted rfl rfl rfl ?_
                    refine St.unwanted rfl rfl rfl ?_
                    refine St.unwanted rfl rfl rfl ?_
                    refine St.val (v := (.bool false)) (Yields.pick_f rfl rfl) trivial rfl rfl ?_
                    refine St.val (v := (.bool false)) (Yields.assign rfl) trivial rfl rfl ?_
                    refine St.nil ?_
                    refine St.innorm ?_
                    refine St.innorm ?_
                    refine St.norm ?_
                    refine St.region ?_
                    refine St.val (v := (.int .i64 ((i : Int) + 1))) (Yields.add rfl rfl (by omega) (by omega)) trivial rfl rfl ?_
                    refine St.val (v := (.int .i64 ((i : Int) + 1))) (Yields.move rfl) trivial rfl rfl ?_
                    refine St.nil ?_
                    refine St.norm ?_
                    intro a w ha hs
                    have hq : okSh n x49 = false := by unfold okSh; (repeat' split) <;> first | rfl | (exfalso; omega) | (simp; omega)
                    exact ⟨k - (i + 1), by omega, i + 1, false, rfl, by omega, by rw [all_snoc hx52, ← Bool.and_assoc, ← hb, hq]; first | done | rfl, ha.covers ⟨rfl, rfl, rfl, rfl, rfl, rfl, trivial⟩, (Among.of Among.none _ hs)⟩
                · skip
                  refine St.val (v := (.bool false)) (Yields.isnt q61 (Yields.eq rfl rfl)) trivial rfl rfl ?_
                  refine St.val (v := (.bool false)) (Yields.assign rfl) trivial rfl rfl ?_
                  refine St.nil ?_
                  refine St.norm ?_
                  refine St.cond_f rfl ?_
                  refine St.region ?_
                  refine St.val (v := (.bool true)) (Yields.move rfl) trivial rfl rfl ?_
                  refine St.val (v := (.bool true)) (Yields.move rfl) trivial rfl rfl ?_
                  refine St.val (v := (.pointer (some ⟨b58, 1, none⟩))) (Yields.fieldAddr (v := (.pointer (some ⟨b58, 1, none⟩))) rfl (fun _ => by kernel_rfl)) rfl rfl rfl ?_
                  refine St.val (v := (.int .i64 x49.a)) (Yields.load rfl (Loads.H1 0 rfl tc3 rfl)) rfl rfl rfl ?_
                  by_cases q66 : x49.a = 0
                  · skip
                    refine St.val (v := (.bool true)) (Yields.is q66 (Yields.eq rfl rfl)) rfl rfl rfl ?_
                    refine St.val (v := (.bool true)) (Yields.pick_t rfl rfl) trivial rfl rfl ?_
                    refine St.val (v := (.bool true)) (Yields.move rfl) trivial rfl rfl ?_
                    refine St.val (v := (.pointer (some ⟨b58, 2, none⟩))) (Yields.fieldAddr (v := (.pointer (some ⟨b58, 2, none⟩))) rfl (fun _ => by kernel_rfl)) rfl rfl rfl ?_
                    refine St.val (v := (.int .i64 x49.v)) (Yields.load rfl (Loads.H1 0 rfl tc3 rfl)) rfl rfl rfl ?_
                    by_cases q67 : x49.v = 0
                    · skip
                      refine St.val (v := (.bool true)) (Yields.is q67 (Yields.eq rfl rfl)) rfl rfl rfl ?_
                      refine St.val (v := (.bool true)) (Yields.pick_t rfl rfl) trivial rfl rfl ?_
                      refine St.val (v := (.bool true)) (Yields.assign rfl) trivial rfl rfl ?_
                      refine St.nil ?_
                      refine St.innorm ?_
                      refine St.innorm ?_
                      refine St.norm ?_
                      refine St.region ?_
                      refine St.val (v := (.int .i64 ((i : Int) + 1))) (Yields.add rfl rfl (by omega) (by omega)) trivial rfl rfl ?_
                      refine St.val (v := (.int .i64 ((i : Int) + 1))) (Yields.move rfl) trivial rfl rfl ?_
                      refine St.nil ?_
                      refine St.norm ?_
                      intro a w ha hs
                      have hq : okSh n x49 = true := by unfold okSh; (repeat' split) <;> first | rfl | (exfalso; omega) | (simp; omega)
                      exact ⟨k - (i + 1), by omega, i + 1, true, rfl, by omega, by rw [all_snoc hx52, ← Bool.and_assoc, ← hb, hq]; first | done | rfl, ha.covers ⟨rfl, rfl, rfl, rfl, rfl, rfl, trivial⟩, (Among.of Among.none _ hs)⟩
                    · skip
                      refine St.val (v := (.bool false)) (Yields.isnt q67 (Yields.eq rfl rfl)) rfl rfl rfl ?_
                      refine St.val (v := (.bool false)) (Yields.pick_t rfl rfl) trivial rfl rfl ?_
                      refine St.val (v := (.bool false)) (Yields.assign rfl) trivial rfl rfl ?_
                      refine St.nil ?_
                      refine St.innorm ?_
                      refine St.innorm ?_
                      refine St.norm ?_
                      refine St.region ?_
                      refine St.val (v := (.int .i64 ((i : Int) + 1))) (Yields.add rfl rfl (by omega) (by omega)) trivial rfl rfl ?_
                      refine St.val (v := (.int .i64 ((i : Int) + 1))) (Yields.move rfl) trivial rfl rfl ?_
                      refine St.nil ?_
                      refine St.norm ?_
                      intro a w ha hs
                      have hq : okSh n x49 = false := by unfold okSh; (repeat' split) <;> first | rfl | (exfalso; omega) | (simp; omega)
                      exact ⟨k - (i + 1), by omega, i + 1, false, rfl, by omega, by rw [all_snoc hx52, ← Bool.and_assoc, ← hb, hq]; first | done | rfl, ha.covers ⟨rfl, rfl, rfl, rfl, rfl, rfl, trivial⟩, (Among.of Among.none _ hs)⟩
                  · skip
                    refine St.val (v := (.bool false)) (Yields.isnt q66 (Yields.eq rfl rfl)) rfl rfl rfl ?_
                    refine St.val (v := (.bool false)) (Yields.pick_t rfl rfl) trivial rfl rfl ?_
                    refine St.val (v := (.bool false)) (Yields.move rfl) trivial rfl rfl ?_
                    refine St.unwanted rfl rfl rfl ?_
                    refine St.unwanted rfl rfl rfl ?_
                    refine St.unwanted rfl rfl rfl ?_
                    refine St.val (v := (.bool false)) (Yields.pick_f rfl rfl) trivial rfl rfl ?_
                    refine St.val (v := (.bool false)) (Yields.assign rfl) trivial rfl rfl ?_
                    refine St.nil ?_
                    refine St.innorm ?_
                    refine St.innorm ?_
                    refine St.norm ?_
                    refine St.region ?_
                    refine St.val (v := (.int .i64 ((i : Int) + 1))) (Yields.add rfl rfl (by omega) (by omega)) trivial rfl rfl ?_
                    refine St.val (v := (.int .i64 ((i : Int) + 1))) (Yields.move rfl) trivial rfl rfl ?_
                    refine St.nil ?_
                    refine St.norm ?_
                    intro a w ha hs
                    have hq : okSh n x49 = false := by unfold okSh; (repeat' split) <;> first | rfl | (exfalso; omega) | (simp; omega)
                    exact ⟨k - (i + 1), by omega, i + 1, false, rfl, by omega, by rw [all_snoc hx52, ← Bool.and_assoc, ← hb, hq]; first | done | rfl, ha.covers ⟨rfl, rfl, rfl, rfl, rfl, rfl, trivial⟩, (Among.of Among.none _ hs)⟩
          · skip
            have hb : true = (okn n && l.all (okSh n)) := by rw [hb, List.take_of_length_le (by omega)]
            refine St.seq ?_
            refine St.region ?_
            refine St.val (v := (.bool false)) (Yields.isnt hi (Yields.lt rfl rfl)) trivial rfl rfl ?_
            refine St.nil ?_
            refine St.norm ?_
            refine St.seq ?_
            refine St.cond_f rfl ?_
            refine St.exit ?_
            refine St.thenexit ?_
            refine St.thenexit ?_
            refine St.inexit ?_
            refine St.norm ?_
            refine St.seq ?_
            refine St.block ?_
            refine St.seq ?_
            refine St.region ?_
            refine St.val (v := (.bool true)) (Yields.move rfl) trivial rfl rfl ?_
            refine St.val (v := (.bool false)) (Yields.not_t rfl) trivial rfl rfl ?_
            refine St.val (v := (.bool false)) (Yields.assign rfl) trivial rfl rfl ?_
            refine St.nil ?_
            refine St.norm ?_
            refine St.cond_f rfl ?_
            refine St.seq ?_
            refine St.region ?_
            refine St.val (v := (.slice A k c)) (Yields.move rfl) trivial rfl rfl ?_
            refine St.val (v := (.int .i64 (k : Int))) (Yields.lenSlice tu22 rfl) trivial rfl rfl ?_
            by_cases q68 : (k : Int) > 400
            · skip
              refine St.val (v := (.bool true)) (Yields.is q68 (Yields.gt rfl rfl)) trivial rfl rfl ?_
              refine St.val (v := (.bool true)) (Yields.assign rfl) trivial rfl rfl ?_
              refine St.nil ?_
              refine St.norm ?_
              refine St.cond_t rfl ?_
              refine St.seq ?_
              refine St.region ?_
              refine St.val (v := (.int .i64 3)) (Yields.assign rfl) trivial rfl rfl ?_
              refine St.nil ?_
              refine St.norm ?_
              refine St.ret ?_
              refine St.inret ?_
              refine St.thenret ?_
              refine St.done1 rfl rfl ⟨?_, rfl, rfl⟩
              unfold shErr; rw [← hb]; rw [if_neg (by decide)]; rw [if_pos (by omega)]
            · skip
              refine St.val (v := (.bool false)) (Yields.isnt q68 (Yields.gt rfl rfl)) trivial rfl rfl ?_
              refine St.val (v := (.bool false)) (Yields.assign rfl) trivial rfl rfl ?_
              refine St.nil ?_
              refine St.norm ?_
              refine St.cond_f rfl ?_
              refine St.skip ?_
              refine St.innorm ?_
              refine St.norm ?_
              refine St.seq ?_
              refine St.region ?_
              refine St.val (v := (.int .i64 0)) (Yields.assign rfl) trivial rfl rfl ?_
              refine St.nil ?_
              refine St.norm ?_
              refine St.ret ?_
              refine St.done1 rfl rfl ⟨?_, rfl, rfl⟩
              unfold shErr; rw [← hb]; rw [if_neg (by decide)]; rw [if_neg (by omega)]
  · skip
    refine St.val (v := (.bool false)) (Yields.isnt q1 (Yields.ge rfl rfl)) trivial rfl rfl ?_
    refine St.val (v := (.bool false)) (Yields.move rfl) trivial rfl rfl ?_
    refine St.unwanted rfl rfl rfl ?_
    refine St.unwanted rfl rfl rfl ?_
    refine St.val (v := (.bool false)) (Yields.pick_f rfl rfl) trivial rfl rfl ?_
    refine St.val (v := (.bool false)) (Yields.assign rfl) trivial rfl rfl ?_
    refine St.nil ?_
    refine St.norm ?_
    refine St.seq ?_
    refine St.seq ?_
    refine St.region ?_
    refine St.val (v := (.slice A k c)) (Yields.move rfl) trivial rfl rfl ?_
    refine St.val (v := (.int .i64 (k : Int))) (Yields.lenSlice tu22 rfl) trivial rfl rfl ?_
    refine St.val (v := (.int .i64 0)) (Yields.move rfl) trivial rfl rfl ?_
    refine St.nil ?_
    refine St.norm ?_
    refine St.block ?_
    refine St.loop (fun kk a w => ∃ (i : Nat) (b : Bool), kk = k - i ∧ i ≤ k ∧ b = (okn n && (l.take i).all (okSh n)) ∧ Has Try.f15.ntmps a [(0, .int .i64 n), (1, .slice A k c), (5, .bool b), (14, .slice A k c), (15, .int .i64 k), (16, .int .i64 i)] ∧ Sat ⟨w0, fun b => m0 b ≠ none, F⟩ F [] w) k ?_ ?_
    · intro a w ha hs
      exact ⟨0, false, by omega, by omega, by unfold okn; simp; omega, ha.covers ⟨rfl, rfl, rfl, rfl, rfl, rfl, trivial⟩, hs⟩
    · rintro kk a w ⟨i, b, hkk, hik, hb, ha, hs⟩
      refine St.use (?_ : St _ _ _ _ _ _) ha hs
      clear ha hs a w
      cases b
      · skip
        by_cases hi : (i : Int) < (k : Int)
        · skip
          obtain ⟨x69, hx72⟩ : ∃ x, l[i]? = some x := ⟨_, List.getElem?_eq_getElem (by omega)⟩
          obtain ⟨ad70, cs71, hA73, hK74, hc75⟩ := hS.get hx72
          subst hA73
          obtain rfl : cs71 = shV x69 := hK74
          obtain ⟨p76, hp77⟩ : ∃ p, ad70.add (i * 3) = p := ⟨_, rfl⟩
          have hc75 : ∀ j v, ([.int .i64 x69.k, .int .i64 x69.a, .int .i64 x69.v] : List Value)[j]? = some v → PH.cell? F (p76.add j) = some v := by rw [← hp77]; exact hc75
          refine St.seq ?_
          refine St.region ?_
          refine St.val (v := (.bool true)) (Yields.is hi (Yields.lt rfl rfl)) trivial rfl rfl ?_
          refine St.nil ?_
          refine St.norm ?_
          refine St.seq ?_
          refine St.cond_t rfl ?_
          refine St.skip ?_
          refine St.norm ?_
          refine St.seq ?_
          refine St.block ?_
          refine St.seq ?_
          refine St.region ?_
          refine St.val (v := (.pointer (some p76))) (Yields.indexAddr (p := p76) ts22 rfl rfl (by omega) (by omega) (by rw [← hp77]; first | rfl | (congr 1; omega))) trivial rfl rfl ?_
          refine St.val (v := (.agg #[.int .i64 x69.k, .int .i64 x69.a, .int .i64 x69.v])) (Yields.load rfl (Loads.Fatn0 hc75 ta29)) trivial rfl rfl ?_
          refine St.alloc tz29 trivial rfl ?_
          intro b78
          refine St.storen (R := []) rfl rfl 0 rfl rfl ta29 rfl rfl rfl trivial (cs' := #[.int .i64 x69.k, .int .i64 x69.a, .int .i64 x69.v]) rfl ?_
          refine St.nil ?_
          refine St.norm ?_
          refine St.block ?_
          refine St.seq ?_
          refine St.region ?_
          refine St.val (v := (.pointer (some ⟨b78, 0, none⟩))) (Yields.fieldAddr (v := (.pointer (some ⟨b78, 0, none⟩))) rfl (fun _ => by kernel_rfl)) trivial rfl rfl ?_
          refine St.val (v := (.int .i64 x69.k)) (Yields.load rfl (Loads.H1 0 rfl tc3 rfl)) trivial rfl rfl ?_
          by_cases q79 : x69.k < 0
          · skip
            refine St.val (v := (.bool true)) (Yields.is q79 (Yields.lt rfl rfl)) trivial rfl rfl ?_
            refine St.val (v := (.bool true)) (Yields.move rfl) trivial rfl rfl ?_
            refine St.unwanted rfl rfl rfl ?_
            refine St.unwanted rfl rfl rfl ?_
            refine St.unwanted rfl rfl rfl ?_
            refine St.val (v := (.bool true)) (Yields.pick_t rfl rfl) trivial rfl rfl ?_
            refine St.val (v := (.bool true)) (Yields.assign rfl) trivial rfl rfl ?_
            refine St.nil ?_
            refine St.norm ?_
            refine St.cond_t rfl ?_
            refine St.region ?_
            refine St.val (v := (.bool false)) (Yields.assign rfl) trivial rfl rfl ?_
            refine St.nil ?_
            refine St.innorm ?_
            refine St.innorm ?_
            refine St.norm ?_
            refine St.region ?_
            refine St.val (v := (.int .i64 ((i : Int) + 1))) (Yields.add rfl rfl (by omega) (by omega)) trivial rfl rfl ?_
            refine St.val (v := (.int .i64 ((i : Int) + 1))) (Yields.move rfl) trivial rfl rfl ?_
            refine St.nil ?_
            refine St.norm ?_
            intro a w ha hs
            have hq : okSh n x69 = okSh n x69 := by unfold okSh; rfl
            exact ⟨k - (i + 1), by omega, i + 1, false, rfl, by omega, by rw [all_snoc hx72, ← Bool.and_assoc, ← hb, Bool.false_and]; first | done | rfl, ha.covers ⟨rfl, rfl, rfl, rfl, rfl, rfl, trivial⟩, (Among.of Among.none _ hs)⟩
          · skip
            refine St.val (v := (.bool false)) (Yields.isnt q79 (Yields.lt rfl rfl)) trivial rfl rfl ?_
            refine St.val (v := (.bool false)) (Yields.move rfl) trivial rfl rfl ?_
            refine St.val (v := (.pointer (some ⟨b78, 0, none⟩))) (Yields.fieldAddr (v := (.pointer (some ⟨b78, 0, none⟩))) rfl (fun _ => by kernel_rfl)) rfl rfl rfl ?_
            refine St.val (v := (.int .i64 x69.k)) (Yields.load rfl (Loads.H1 0 rfl tc3 rfl)) rfl rfl rfl ?_
            by_cases q80 : x69.k > 4
            · skip
              refine St.val (v := (.bool true)) (Yields.is q80 (Yields.gt rfl rfl)) rfl rfl rfl ?_
              refine St.val (v := (.bool true)) (Yields.pick_f rfl rfl) trivial rfl rfl ?_
              refine St.val (v := (.bool true)) (Yields.assign rfl) trivial rfl rfl ?_
              refine St.nil ?_
              refine St.norm ?_
              refine St.cond_t rfl ?_
              refine St.region ?_
              refine St.val (v := (.bool false)) (Yields.assign rfl) trivial rfl rfl ?_
              refine St.nil ?_
              refine St.innorm ?_
              refine St.innorm ?_
              refine St.norm ?_
              refine St.region ?_
              refine St.val (v := (.int .i64 ((i : Int) + 1))) (Yields.add rfl rfl (by omega) (by omega)) trivial rfl rfl ?_
              refine St.val (v := (.int .i64 ((i : Int) + 1))) (Yields.move rfl) trivial rfl rfl ?_
              refine St.nil ?_
              refine St.norm ?_
              intro a w ha hs
              have hq : okSh n x69 = okSh n x69 := by unfold okSh; rfl
              exact ⟨k - (i + 1), by omega, i + 1, false, rfl, by omega, by rw [all_snoc hx72, ← Bool.and_assoc, ← hb, Bool.false_and]; first | done | rfl, ha.covers ⟨rfl, rfl, rfl, rfl, rfl, rfl, trivial⟩, (Among.of Among.none _ hs)⟩
            · skip
              refine St.val (v := (.bool false)) (Yields.isnt q80 (Yields.gt rfl rfl)) rfl rfl rfl ?_
              refine St.val (v := (.bool false)) (Yields.pick_f rfl rfl) trivial rfl rfl ?_
              refine St.val (v := (.bool false)) (Yields.assign rfl) trivial rfl rfl ?_
              refine St.nil ?_
              refine St.norm ?_
              refine St.cond_f rfl ?_
              refine St.seq ?_
              refine St.region ?_
              refine St.val (v := (.pointer (some ⟨b78, 0, none⟩))) (Yields.fieldAddr (v := (.pointer (some ⟨b78, 0, none⟩))) rfl (fun _ => by kernel_rfl)) trivial rfl rfl ?_
              refine St.val (v := (.int .i64 x69.k)) (Yields.load rfl (Loads.H1 0 rfl tc3 rfl)) trivial rfl rfl ?_
              by_cases q81 : x69.k = 0
              · skip
                refine St.val (v := (.bool true)) (Yields.is q81 (Yields.eq rfl rfl)) trivial rfl rfl ?_
                refine St.val (v := (.bool true)) (Yields.assign rfl) trivial rfl rfl ?_
                refine St.nil ?_
                refine St.norm ?_
                refine St.cond_t rfl ?_
                refine St.region ?_
                refine St.val (v := (.bool false)) (Yields.move rfl) trivial rfl rfl ?_
                refine St.val (v := (.bool false)) (Yields.move rfl) trivial rfl rfl ?_
                refine St.unwanted rfl rfl rfl ?_
                refine St.unwanted rfl rfl rfl ?_
                refine St.unwanted rfl rfl rfl ?_
                refine St.val (v := (.bool false)) (Yields.pick_f rfl rfl) trivial rfl rfl ?_
                refine St.val (v := (.bool false)) (Yields.move rfl) trivial rfl rfl ?_
                refine St.unwanted rfl rfl rfl ?_
                refine St.unwanted rfl rfl rfl ?_
                refine St.unwanted rfl rfl rfl ?_
                refine St.unwanted rfl rfl rfl ?_
                refine St.val (v := (.bool false)) (Yields.pick_f rfl rfl) trivial rfl rfl ?_
                refine St.val (v := (.bool false)) (Yields.move rfl) trivial rfl rfl ?_
                refine St.unwanted rfl rfl rfl ?_
                refine St.unwanted rfl rfl rfl ?_
                refine St.unwanted rfl rfl rfl ?_
                refine St.val (v := (.bool false)) (Yields.pick_f rfl rfl) trivial rfl rfl ?_
                refine St.val (v := (.bool false)) (Yields.move rfl) trivial rfl rfl ?_
                refine St.unwanted rfl rfl rfl ?_
                refine St.unwanted rfl rfl rfl ?_
                refine St.unwanted rfl rfl rfl ?_
                refine St.val (v := (.bool false)) (Yields.pick_f rfl rfl) trivial rfl rfl ?_
                refine St.val (v := (.bool false)) (Yields.assign rfl) trivial rfl rfl ?_
                refine St.nil ?_
                refine St.innorm ?_
                refine St.innorm ?_
                refine St.norm ?_
                refine St.region ?_
                refine St.val (v := (.int .i64 ((i : Int) + 1))) (Yields.add rfl rfl (by omega) (by omega)) trivial rfl rfl ?_
                refine St.val (v := (.int .i64 ((i : Int) + 1))) (Yields.move rfl) trivial rfl rfl ?_
                refine St.nil ?_
                refine St.norm ?_
                intro a w ha hs
                have hq : okSh n x69 = okSh n x69 := by unfold okSh; rfl
                exact ⟨k - (i + 1), by omega, i + 1, false, rfl, by omega, by rw [all_snoc hx72, ← Bool.and_assoc, ← hb, Bool.false_and]; first | done | rfl, ha.covers ⟨rfl, rfl, rfl, rfl, rfl, rfl, trivial⟩, (Among.of Among.none _ hs)⟩
              · skip
                refine St.val (v := (.bool false)) (Yields.isnt q81 (Yields.eq rfl rfl)) trivial rfl rfl ?_
                refine St.val (v := (.bool false)) (Yields.assign rfl) trivial rfl rfl ?_
                refine St.nil ?_
                refine St.norm ?_
                refine St.cond_f rfl ?_
                refine St.region ?_
                refine St.val (v := (.bool false)) (Yields.move rfl) trivial rfl rfl ?_
                refine St.val (v := (.bool false)) (Yields.move rfl) trivial rfl rfl ?_
                refine St.unwanted rfl rfl rfl ?_
                refine St.unwanted rfl rfl rfl ?_
                refine St.unwanted rfl rfl rfl ?_
                refine St.val (v := (.bool false)) (Yields.pick_f rfl rfl) trivial rfl rfl ?_
                refine St.val (v := (.bool false)) (Yields.move rfl) trivial rfl rfl ?_
                refine St.unwanted rfl rfl rfl ?_
                refine St.unwanted rfl rfl rfl ?_
                refine St.unwanted rfl rfl rfl ?_
                refine St.val (v := (.bool false)) (Yields.pick_f rfl rfl) trivial rfl rfl ?_
                refine St.val (v := (.bool false)) (Yields.assign rfl) trivial rfl rfl ?_
                refine St.nil ?_
                refine St.innorm ?_
                refine St.innorm ?_
                refine St.norm ?_
                refine St.region ?_
                refine St.val (v := (.int .i64 ((i : Int) + 1))) (Yields.add rfl rfl (by omega) (by omega)) trivial rfl rfl ?_
                refine St.val (v := (.int .i64 ((i : Int) + 1))) (Yields.move rfl) trivial rfl rfl ?_
                refine St.nil ?_
                refine St.norm ?_
                intro a w ha hs
                have hq : okSh n x69 = okSh n x69 := by unfold okSh; rfl
                exact ⟨k - (i + 1), by omega, i + 1, false, rfl, by omega, by rw [all_snoc hx72, ← Bool.and_assoc, ← hb, Bool.false_and]; first | done | rfl, ha.covers ⟨rfl, rfl, rfl, rfl, rfl, rfl, trivial⟩, (Among.of Among.none _ hs)⟩
        · skip
          have hb : false = (okn n && l.all (okSh n)) := by rw [hb, List.take_of_length_le (by omega)]
          refine St.seq ?_
          refine St.region ?_
          refine St.val (v := (.bool false)) (Yields.isnt hi (Yields.lt rfl rfl)) trivial rfl rfl ?_
          refine St.nil ?_
          refine St.norm ?_
          refine St.seq ?_
          refine St.cond_f rfl ?_
          refine St.exit ?_
          refine St.thenexit ?_
          refine St.thenexit ?_
          refine St.inexit ?_
          refine St.norm ?_
          refine St.seq ?_
          refine St.block ?_
          refine St.seq ?_
          refine St.region ?_
          refine St.val (v := (.bool false)) (Yields.move rfl) trivial rfl rfl ?_
          refine St.val (v := (.bool true)) (Yields.not_f rfl) trivial rfl rfl ?_
          refine St.val (v := (.bool true)) (Yields.assign rfl) trivial rfl rfl ?_
          refine St.nil ?_
          refine St.norm ?_
          refine St.cond_t rfl ?_
          refine St.seq ?_
          refine St.region ?_
          refine St.val (v := (.int .i64 1)) (Yields.assign rfl) trivial rfl rfl ?_
          refine St.nil ?_
          refine St.norm ?_
          refine St.ret ?_
          refine St.inret ?_
          refine St.thenret ?_
          refine St.done1 rfl rfl ⟨?_, rfl, rfl⟩
          unfold shErr; rw [← hb]; rfl
      · skip
        by_cases hi : (i : Int) < (k : Int)
        · skip
          obtain ⟨x82, hx85⟩ : ∃ x, l[i]? = some x := ⟨_, List.getElem?_eq_getElem (by omega)⟩
          obtain ⟨ad83, cs84, hA86, hK87, hc88⟩ := hS.get hx85
          subst hA86
          obtain rfl : cs84 = shV x82 := hK87
          obtain ⟨p89, hp90⟩ : ∃ p, ad83.add (i * 3) = p := ⟨_, rfl⟩
          have hc88 : ∀ j v, ([.int .i64 x82.k, .int .i64 x82.a, .int .i64 x82.v] : List Value)[j]? = some v → PH.cell? F (p89.add j) = some v := by rw [← hp90]; exact hc88
          refine St.seq ?_
          refine St.region ?_
          refine St.val (v := (.bool true)) (Yields.is hi (Yields.lt rfl rfl)) trivial rfl rfl ?_
          refine St.nil ?_
          refine St.norm ?_
          refine St.seq ?_
          refine St.cond_t rfl ?_
          refine St.skip ?_
          refine St.norm ?_
          refine St.seq ?_
          refine St.block ?_
          refine St.seq ?_
          refine St.region ?_
          refine St.val (v := (.pointer (some p89))) (Yields.indexAddr (p := p89) ts22 rfl rfl (by omega) (by omega) (by rw [← hp90]; first | rfl | (congr 1; omega))) trivial rfl rfl ?_
          refine St.val (v := (.agg #[.int .i64 x82.k, .int .i64 x82.a, .int .i64 x82.v])) (Yields.load rfl (Loads.Fatn0 hc88 ta29)) trivial rfl rfl ?_
          refine St.alloc tz29 trivial rfl ?_
          intro b91
          refine St.storen (R := []) rfl rfl 0 rfl rfl ta29 rfl rfl rfl trivial (cs' := #[.int .i64 x82.k, .int .i64 x82.a, .int .i64 x82.v]) rfl ?_
          refine St.nil ?_
          refine St.norm ?_
          refine St.block ?_
          refine St.seq ?_
          refine St.region ?_
          refine St.val (v := (.pointer (some ⟨b91, 0, none⟩))) (Yields.fieldAddr (v := (.pointer (some ⟨b91, 0, none⟩))) rfl (fun _ => by kernel_rfl)) trivial rfl rfl ?_
          refine St.val (v := (.int .i64 x82.k)) (Yields.load rfl (Loads.H1 0 rfl tc3 rfl)) trivial rfl rfl ?_
          by_cases q92 : x82.k < 0
          · skip
            refine St.val (v := (.bool true)) (Yields.is q92 (Yields.lt rfl rfl)) trivial rfl rfl ?_
            refine St.val (v := (.bool true)) (Yields.move rfl) trivial rfl rfl ?_
            refine St.unwanted rfl rfl rfl ?_
            refine St.unwanted rfl rfl rfl ?_
            refine St.unwanted rfl rfl rfl ?_
            refine St.val (v := (.bool true)) (Yields.pick_t rfl rfl) trivial rfl rfl ?_
            refine St.val (v := (.bool true)) (Yields.assign rfl) trivial rfl rfl ?_
            refine St.nil ?_
            refine St.norm ?_
            refine St.cond_t rfl ?_
            refine St.region ?_
            refine St.val (v := (.bool false)) (Yields.assign rfl) trivial rfl rfl ?_
            refine St.nil ?_
            refine St.innorm ?_
            refine St.innorm ?_
            refine St.norm ?_
            refine St.region ?_
            refine St.val (v := (.int .i64 ((i : Int) + 1))) (Yields.add rfl rfl (by omega) (by omega)) trivial rfl rfl ?_
            refine St.val (v := (.int .i64 ((i : Int) + 1))) (Yields.move rfl) trivial rfl rfl ?_
            refine St.nil ?_
            refine St.norm ?_
            intro a w ha hs
            have hq : okSh n x82 = false := by unfold okSh; (repeat' split) <;> first | rfl | (exfalso; omega) | (simp; omega)
            exact ⟨k - (i + 1), by omega, i + 1, false, rfl, by omega, by rw [all_snoc hx85, ← Bool.and_assoc, ← hb, hq]; first | done | rfl, ha.covers ⟨rfl, rfl, rfl, rfl, rfl, rfl, trivial⟩, (Among.of Among.none _ hs)⟩
          · skip
            refine St.val (v := (.bool false)) (Yields.isnt q92 (Yields.lt rfl rfl)) trivial rfl rfl ?_
            refine St.val (v := (.bool false)) (Yields.move rfl) trivial rfl rfl ?_
            refine St.val (v := (.pointer (some ⟨b91, 0, none⟩))) (Yields.fieldAddr (v := (.pointer (some ⟨b91, 0, none⟩))) rfl (fun _ => by kernel_rfl)) rfl rfl rfl ?_
            refine St.val (v := (.int .i64 x82.k)) (Yields.load rfl (Loads.H1 0 rfl tc3 rfl)) rfl rfl rfl ?_
            by_cases q93 : x82.k > 4
            · skip
              refine St.val (v := (.bool true)) (Yields.is q93 (Yields.gt rfl rfl)) rfl rfl rfl ?_
              refine St.val (v := (.bool true)) (Yields.pick_f rfl rfl) trivial rfl rfl ?_
              refine St.val (v := (.bool true)) (Yields.assign rfl) trivial rfl rfl ?_
              refine St.nil ?_
              refine St.norm ?_
              refine St.cond_t rfl ?_
              refine St.region ?_
              refine St.val (v := (.bool false)) (Yields.assign rfl) trivial rfl rfl ?_
              refine St.nil ?_
              refine St.innorm ?_
              refine St.innorm ?_
              refine St.norm ?_
              refine St.region ?_
              refine St.val (v := (.int .i64 ((i : Int) + 1))) (Yields.add rfl rfl (by omega) (by omega)) trivial rfl rfl ?_
              refine St.val (v := (.int .i64 ((i : Int) + 1))) (Yields.move rfl) trivial rfl rfl ?_
              refine St.nil ?_
              refine St.norm ?_
              intro a w ha hs
              have hq : okSh n x82 = false := by unfold okSh; (repeat' split) <;> first | rfl | (exfalso; omega) | (simp; omega)
              exact ⟨k - (i + 1), by omega, i + 1, false, rfl, by omega, by rw [all_snoc hx85, ← Bool.and_assoc, ← hb, hq]; first | done | rfl, ha.covers ⟨rfl, rfl, rfl, rfl, rfl, rfl, trivial⟩, (Among.of Among.none _ hs)⟩
            · skip
              refine St.val (v := (.bool false)) (Yields.isnt q93 (Yields.gt rfl rfl)) rfl rfl rfl ?_
              refine St.val (v := (.bool false)) (Yields.pick_f rfl rfl) trivial rfl rfl ?_
              refine St.val (v := (.bool false)) (Yields.assign rfl) trivial rfl rfl ?_
              refine St.nil ?_
              refine St.norm ?_
              refine St.cond_f rfl ?_
              refine St.seq ?_
              refine St.region ?_
              refine St.val (v := (.pointer (some ⟨b91, 0, none⟩))) (Yields.fieldAddr (v := (.pointer (some ⟨b91, 0, none⟩))) rfl (fun _ => by kernel_rfl)) trivial rfl rfl ?_
              refine St.val (v := (.int .i64 x82.k)) (Yields.load rfl (Loads.H1 0 rfl tc3 rfl)) trivial rfl rfl ?_
              by_cases q94 : x82.k = 0
              · skip
                refine St.val (v := (.bool true)) (Yields.is q94 (Yields.eq rfl rfl)) trivial rfl rfl ?_
                refine St.val (v := (.bool true)) (Yields.assign rfl) trivial rfl rfl ?_
                refine St.nil ?_
                refine St.norm ?_
                refine St.cond_t rfl ?_
                refine St.region ?_
                refine St.val (v := (.bool true)) (Yields.move rfl) trivial rfl rfl ?_
                refine St.val (v := (.bool true)) (Yields.move rfl) trivial rfl rfl ?_
                refine St.val (v := (.pointer (some ⟨b91, 1, none⟩))) (Yields.fieldAddr (v := (.pointer (some ⟨b91, 1, none⟩))) rfl (fun _ => by kernel_rfl)) rfl rfl rfl ?_
                refine St.val (v := (.int .i64 x82.a)) (Yields.load rfl (Loads.H1 0 rfl tc3 rfl)) rfl rfl rfl ?_
                by_cases q95 : x82.a ≥ 0
                · skip
                  refine St.val (v := (.bool true)) (Yields.is q95 (Yields.ge rfl rfl)) rfl rfl rfl ?_
                  refine St.val (v := (.bool true)) (Yields.pick_t rfl rfl) trivial rfl rfl ?_
                  refine St.val (v := (.bool true)) (Yields.move rfl) trivial rfl rfl ?_
                  refine St.val (v := (.pointer (some ⟨b91, 1, none⟩))) (Yields.fieldAddr (v := (.pointer (some ⟨b91, 1, none⟩))) rfl (fun _ => by kernel_rfl)) rfl rfl rfl ?_
                  refine St.val (v := (.int .i64 x82.a)) (Yields.load rfl (Loads.H1 0 rfl tc3 rfl)) rfl rfl rfl ?_
                  refine St.val (v := (.int .i64 n)) (Yields.move rfl) rfl rfl rfl ?_
                  by_cases q96 : x82.a < n
                  · skip
                    refine St.val (v := (.bool true)) (Yields.is q96 (Yields.lt rfl rfl)) rfl rfl rfl ?_
                    refine St.val (v := (.bool true)) (Yields.pick_t rfl rfl) trivial rfl rfl ?_
                    refine St.val (v := (.bool true)) (Yields.move rfl) trivial rfl rfl ?_
                    refine St.val (v := (.pointer (some ⟨b91, 2, none⟩))) (Yields.fieldAddr (v := (.pointer (some ⟨b91, 2, none⟩))) rfl (fun _ => by kernel_rfl)) rfl rfl rfl ?_
                    refine St.val (v := (.int .i64 x82.v)) (Yields.load rfl (Loads.H1 0 rfl tc3 rfl)) rfl rfl rfl ?_
                    by_cases q97 : x82.v ≥ -1000000000
                    · skip
                      refine St.val (v := (.bool true)) (Yields.is q97 (Yields.ge rfl rfl)) rfl rfl rfl ?_
                      refine St.val (v := (.bool true)) (Yields.pick_t rfl rfl) trivial rfl rfl ?_
                      refine St.val (v := (.bool true)) (Yields.move rfl) trivial rfl rfl ?_
                      refine St.val (v := (.pointer (some ⟨b91, 2, none⟩))) (Yields.fieldAddr (v := (.pointer (some ⟨b91, 2, none⟩))) rfl (fun _ => by kernel_rfl)) rfl rfl rfl ?_
                      refine St.val (v := (.int .i64 x82.v)) (Yields.load rfl (Loads.H1 0 rfl tc3 rfl)) rfl rfl rfl ?_
                      by_cases q98 : x82.v ≤ 1000000000
                      · skip
                        refine St.val (v := (.bool true)) (Yields.is q98 (Yields.le rfl rfl)) rfl rfl rfl ?_
                        refine St.val (v := (.bool true)) (Yields.pick_t rfl rfl) trivial rfl rfl ?_
                        refine St.val (v := (.bool true)) (Yields.assign rfl) trivial rfl rfl ?_
                        refine St.nil ?_
                        refine St.innorm ?_
                        refine St.innorm ?_
                        refine St.norm ?_
                        refine St.region ?_
                        refine St.val (v := (.int .i64 ((i : Int) + 1))) (Yields.add rfl rfl (by omega) (by omega)) trivial rfl rfl ?_
                        refine St.val (v := (.int .i64 ((i : Int) + 1))) (Yields.move rfl) trivial rfl rfl ?_
                        refine St.nil ?_
                        refine St.norm ?_
                        intro a w ha hs
                        have hq : okSh n x82 = true := by unfold okSh; (repeat' split) <;> first | rfl | (exfalso; omega) | (simp; omega)
                        exact ⟨k - (i + 1), by omega, i + 1, true, rfl, by omega, by rw [all_snoc hx85, ← Bool.and_assoc, ← hb, hq]; first | done | rfl, ha.covers ⟨rfl, rfl, rfl, rfl, rfl, rfl, trivial⟩, (Among.of Among.none _ hs)⟩
                      · skip
                        refine St.val (v := (.bool false)) (Yields.isnt q98 (Yields.le rfl rfl)) rfl rfl rfl ?_
                        refine St.val (v := (.bool false)) (Yields.pick_t rfl rfl) trivial rfl rfl ?_
                        refine St.val (v := (.bool false)) (Yields.assign rfl) trivial rfl rfl ?_
                        refine St.nil ?_
                        refine St.innorm ?_
                        refine St.innorm ?_
                        refine St.norm ?_
                        refine St.region ?_
                        refine St.val (v := (.int .i64 ((i : Int) + 1))) (Yields.add rfl rfl (by omega) (by omega)) trivial rfl rfl ?_
                        refine St.val (v := (.int .i64 ((i : Int) + 1))) (Yields.move rfl) trivial rfl rfl ?_
                        refine St.nil ?_
                        refine St.norm ?_
                        intro a w ha hs
                        have hq : okSh n x82 = false := by unfold okSh; (repeat' split) <;> first | rfl | (exfalso; omega) | (simp; omega)
                        exact ⟨k - (i + 1), by omega, i + 1, false, rfl, by omega, by rw [all_snoc hx85, ← Bool.and_assoc, ← hb, hq]; first | done | rfl, ha.covers ⟨rfl, rfl, rfl, rfl, rfl, rfl, trivial⟩, (Among.of Among.none _ hs)⟩
                    · skip
                      refine St.val (v := (.bool false)) (Yields.isnt q97 (Yields.ge rfl rfl)) rfl rfl rfl ?_
                      refine St.val (v := (.bool false)) (Yields.pick_t rfl rfl) trivial rfl rfl ?_
                      refine St.val (v := (.bool false)) (Yields.move rfl) trivial rfl rfl ?_
                      refine St.unwanted rfl rfl rfl ?_
                      refine St.unwanted rfl rfl rfl ?_
                      refine St.unwanted rfl rfl rfl ?_
                      refine St.val (v := (.bool false)) (Yields.pick_f rfl rfl) trivial rfl rfl ?_
                      refine St.val (v := (.bool false)) (Yields.assign rfl) trivial rfl rfl ?_
                      refine St.nil ?_
                      refine St.innorm ?_
                      refine St.innorm ?_
                      refine St.norm ?_
                      refine St.region ?_
                      refine St.val (v := (.int .i64 ((i : Int) + 1))) (Yields.add rfl rfl (by omega) (by omega)) trivial rfl rfl ?_
                      refine St.val (v := (.int .i64 ((i : Int) + 1))) (Yields.move rfl) trivial rfl rfl ?_
                      refine St.nil ?_
                      refine St.norm ?_
                      intro a w ha hs
                      have hq : okSh n x82 = false := by unfold okSh; (repeat' split) <;> first | rfl | (exfalso; omega) | (simp; omega)
                      exact ⟨k - (i + 1), by omega, i + 1, false, rfl, by omega, by rw [all_snoc hx85, ← Bool.and_assoc, ← hb, hq]; first | done | rfl, ha.covers ⟨rfl, rfl, rfl, rfl, rfl, rfl, trivial⟩, (Among.of Among.none _ hs)⟩
                  · skip
                    refine St.val (v := (.bool false)) (Yields.isnt q96 (Yields.lt rfl rfl)) rfl rfl rfl ?_
                    refine St.val (v := (.bool false)) (Yields.pick_t rfl rfl) trivial rfl rfl ?_
                    refine St.val (v := (.bool false)) (Yields.move rfl) trivial rfl rfl ?_
                    refine St.unwanted rfl rfl rfl ?_
                    refine St.unwanted rfl rfl rfl ?_
                    refine St.unwanted rfl rfl rfl ?_
                    refine St.val (v := (.bool false)) (Yields.pick_f rfl rfl) trivial rfl rfl ?_
                    refine St.val (v := (.bool false)) (Yields.move rfl) trivial rfl rfl ?_
                    refine St.unwanted rfl rfl rfl ?_
                    refine St.unwanted rfl rfl rfl ?_
                    refine St.unwanted rfl rfl rfl ?_
                    refine St.val (v := (.bool false)) (Yields.pick_f rfl rfl) trivial rfl rfl ?_
                    refine St.val (v := (.bool false)) (Yields.assign rfl) trivial rfl rfl ?_
                    refine St.nil ?_
                    refine St.innorm ?_
                    refine St.innorm ?_
                    refine St.norm ?_
                    refine St.region ?_
                    refine St.val (v := (.int .i64 ((i : Int) + 1))) (Yields.add rfl rfl (by omega) (by omega)) trivial rfl rfl ?_
                    refine St.val (v := (.int .i64 ((i : Int) + 1))) (Yields.move rfl) trivial rfl rfl ?_
                    refine St.nil ?_
                    refine St.norm ?_
                    intro a w ha hs
                    have hq : okSh n x82 = false := by unfold okSh; (repeat' split) <;> first | rfl | (exfalso; omega) | (simp; omega)
                    exact ⟨k - (i + 1), by omega, i + 1, false, rfl, by omega, by rw [all_snoc hx85, ← Bool.and_assoc, ← hb, hq]; first | done | rfl, ha.covers ⟨rfl, rfl, rfl, rfl, rfl, rfl, trivial⟩, (Among.of Among.none _ hs)⟩
                · skip
                  refine St.val (v := (.bool false)) (Yields.isnt q95 (Yields.ge rfl rfl)) rfl rfl rfl ?_
                  refine St.val (v := (.bool false)) (Yields.pick_t rfl rfl) trivial rfl rfl ?_
                  refine St.val (v := (.bool false)) (Yields.move rfl) trivial rfl rfl ?_
                  refine St.unwanted rfl rfl rfl ?_
                  refine St.unwanted rfl rfl rfl ?_
                  refine St.unwanted rfl rfl rfl ?_
                  refine St.unwanted rfl rfl rfl ?_
                  refine St.val (v := (.bool false)) (Yields.pick_f rfl rfl) trivial rfl rfl ?_
                  refine St.val (v := (.bool false)) (Yields.move rfl) trivial rfl rfl ?_
                  refine St.unwanted rfl rfl rfl ?_
                  refine St.unwanted rfl rfl rfl ?_
                  refine St.unwanted rfl rfl rfl ?_
                  refine St.val (v := (.bool false)) (Yields.pick_f rfl rfl) trivial rfl rfl ?_
                  refine St.val (v := (.bool false)) (Yields.move rfl) trivial rfl rfl ?_
                  refine St.unwanted rfl rfl rfl ?_
                  refine St.unwanted rfl rfl rfl ?_
                  refine St.unwanted rfl rfl rfl ?_
                  refine St.val (v := (.bool false)) (Yields.pick_f rfl rfl) trivial rfl rfl ?_
                  refine St.val (v := (.bool false)) (Yields.assign rfl) trivial rfl rfl ?_
                  refine St.nil ?_
                  refine St.innorm ?_
                  refine St.innorm ?_
                  refine St.norm ?_
                  refine St.region ?_
                  refine St.val (v := (.int .i64 ((i : Int) + 1))) (Yields.add rfl rfl (by omega) (by omega)) trivial rfl rfl ?_
                  refine St.val (v := (.int .i64 ((i : Int) + 1))) (Yields.move rfl) trivial rfl rfl ?_
                  refine St.nil ?_
                  refine St.norm ?_
                  intro a w ha hs
                  have hq : okSh n x82 = false := by unfold okSh; (repeat' split) <;> first | rfl | (exfalso; omega) | (simp; omega)
                  exact ⟨k - (i + 1), by omega, i + 1, false, rfl, by omega, by rw [all_snoc hx85, ← Bool.and_assoc, ← hb, hq]; first | done | rfl, ha.covers ⟨rfl, rfl, rfl, rfl, rfl, rfl, trivial⟩, (Among.of Among.none _ hs)⟩
              · skip
                refine St.val (v := (.bool false)) (Yields.isnt q94 (Yields.eq rfl rfl)) trivial rfl rfl ?_
                refine St.val (v := (.bool false)) (Yields.assign rfl) trivial rfl rfl ?_
                refine St.nil ?_
                refine St.norm ?_
                refine St.cond_f rfl ?_
                refine St.region ?_
                refine St.val (v := (.bool true)) (Yields.move rfl) trivial rfl rfl ?_
                refine St.val (v := (.bool true)) (Yields.move rfl) trivial rfl rfl ?_
                refine St.val (v := (.pointer (some ⟨b91, 1, none⟩))) (Yields.fieldAddr (v := (.pointer (some ⟨b91, 1, none⟩))) rfl (fun _ => by kernel_rfl)) rfl rfl rfl ?_
                refine St.val (v := (.int .i64 x82.a)) (Yields.load rfl (Loads.H1 0 rfl tc3 rfl)) rfl rfl rfl ?_
                by_cases q99 : x82.a = 0
                · skip
                  refine St.val (v := (.bool true)) (Yields.is q99 (Yields.eq rfl rfl)) rfl rfl rfl ?_
                  refine St.val (v := (.bool true)) (Yields.pick_t rfl rfl) trivial rfl rfl ?_
                  refine St.val (v := (.bool true)) (Yields.move rfl) trivial rfl rfl ?_
                  refine St.val (v := (.pointer (some ⟨b91, 2, none⟩))) (Yields.fieldAddr (v := (.pointer (some ⟨b91, 2, none⟩))) rfl (fun _ => by kernel_rfl)) rfl rfl rfl ?_
                  refine St.val (v := (.int .i64 x82.v)) (Yields.load rfl (Loads.H1 0 rfl tc3 rfl)) rfl rfl rfl ?_
                  by_cases q100 : x82.v = 0
                  · skip
                    refine St.val (v := (.bool true)) (Yields.is q100 (Yields.eq rfl rfl)) rfl rfl rfl ?_
                    refine St.val (v := (.bool true)) (Yields.pick_t rfl rfl) trivial rfl rfl ?_
                    refine St.val (v := (.bool true)) (Yields.assign rfl) trivial rfl rfl ?_
                    refine St.nil ?_
                    refine St.innorm ?_
                    refine St.innorm ?_
                    refine St.norm ?_
                    refine St.region ?_
                    refine St.val (v := (.int .i64 ((i : Int) + 1))) (Yields.add rfl rfl (by omega) (by omega)) trivial rfl rfl ?_
                    refine St.val (v := (.int .i64 ((i : Int) + 1))) (Yields.move rfl) trivial rfl rfl ?_
                    refine St.nil ?_
                    refine St.norm ?_
                    intro a w ha hs
                    have hq : okSh n x82 = true := by unfold okSh; (repeat' split) <;> first | rfl | (exfalso; omega) | (simp; omega)
                    exact ⟨k - (i + 1), by omega, i + 1, true, rfl, by omega, by rw [all_snoc hx85, ← Bool.and_assoc, ← hb, hq]; first | done | rfl, ha.covers ⟨rfl, rfl, rfl, rfl, rfl, rfl, trivial⟩, (Among.of Among.none _ hs)⟩
                  · skip
                    refine St.val (v := (.bool false)) (Yields.isnt q100 (Yields.eq rfl rfl)) rfl rfl rfl ?_
                    refine St.val (v := (.bool false)) (Yields.pick_t rfl rfl) trivial rfl rfl ?_
                    refine St.val (v := (.bool false)) (Yields.assign rfl) trivial rfl rfl ?_
                    refine St.nil ?_
                    refine St.innorm ?_
                    refine St.innorm ?_
                    refine St.norm ?_
                    refine St.region ?_
                    refine St.val (v := (.int .i64 ((i : Int) + 1))) (Yields.add rfl rfl (by omega) (by omega)) trivial rfl rfl ?_
                    refine St.val (v := (.int .i64 ((i : Int) + 1))) (Yields.move rfl) trivial rfl rfl ?_
                    refine St.nil ?_
                    refine St.norm ?_
                    intro a w ha hs
                    have hq : okSh n x82 = false := by unfold okSh; (repeat' split) <;> first | rfl | (exfalso; omega) | (simp; omega)
                    exact ⟨k - (i + 1), by omega, i + 1, false, rfl, by omega, by rw [all_snoc hx85, ← Bool.and_assoc, ← hb, hq]; first | done | rfl, ha.covers ⟨rfl, rfl, rfl, rfl, rfl, rfl, trivial⟩, (Among.of Among.none _ hs)⟩
                · skip
                  refine St.val (v := (.bool false)) (Yields.isnt q99 (Yields.eq rfl rfl)) rfl rfl rfl ?_
                  refine St.val (v := (.bool false)) (Yields.pick_t rfl rfl) trivial rfl rfl ?_
                  refine St.val (v := (.bool false)) (Yields.move rfl) trivial rfl rfl ?_
                  refine St.unwanted rfl rfl rfl ?_
                  refine St.unwanted rfl rfl rfl ?_
                  refine St.unwanted rfl rfl rfl ?_
                  refine St.val (v := (.bool false)) (Yields.pick_f rfl rfl) trivial rfl rfl ?_
                  refine St.val (v := (.bool false)) (Yields.assign rfl) trivial rfl rfl ?_
                  refine St.nil ?_
                  refine St.innorm ?_
                  refine St.innorm ?_
                  refine St.norm ?_
                  refine St.region ?_
                  refine St.val (v := (.int .i64 ((i : Int) + 1))) (Yields.add rfl rfl (by omega) (by omega)) trivial rfl rfl ?_
                  refine St.val (v := (.int .i64 ((i : Int) + 1))) (Yields.move rfl) trivial rfl rfl ?_
                  refine St.nil ?_
                  refine St.norm ?_
                  intro a w ha hs
                  have hq : okSh n x82 = false := by unfold okSh; (repeat' split) <;> first | rfl | (exfalso; omega) | (simp; omega)
                  exact ⟨k - (i + 1), by omega, i + 1, false, rfl, by omega, by rw [all_snoc hx85, ← Bool.and_assoc, ← hb, hq]; first | done | rfl, ha.covers ⟨rfl, rfl, rfl, rfl, rfl, rfl, trivial⟩, (Among.of Among.none _ hs)⟩
        · skip
          have hb : true = (okn n && l.all (okSh n)) := by rw [hb, List.take_of_length_le (by omega)]
          refine St.seq ?_
          refine St.region ?_
          refine St.val (v := (.bool false)) (Yields.isnt hi (Yields.lt rfl rfl)) trivial rfl rfl ?_
          refine St.nil ?_
          refine St.norm ?_
          refine St.seq ?_
          refine St.cond_f rfl ?_
          refine St.exit ?_
          refine St.thenexit ?_
          refine St.thenexit ?_
          refine St.inexit ?_
          refine St.norm ?_
          refine St.seq ?_
          refine St.block ?_
          refine St.seq ?_
          refine St.region ?_
          refine St.val (v := (.bool true)) (Yields.move rfl) trivial rfl rfl ?_
          refine St.val (v := (.bool false)) (Yields.not_t rfl) trivial rfl rfl ?_
          refine St.val (v := (.bool false)) (Yields.assign rfl) trivial rfl rfl ?_
          refine St.nil ?_
          refine St.norm ?_
          refine St.cond_f rfl ?_
          refine St.seq ?_
          refine St.region ?_
          refine St.val (v := (.slice A k c)) (Yields.move rfl) trivial rfl rfl ?_
          refine St.val (v := (.int .i64 (k : Int))) (Yields.lenSlice tu22 rfl) trivial rfl rfl ?_
          by_cases q101 : (k : Int) > 400
          · skip
            refine St.val (v := (.bool true)) (Yields.is q101 (Yields.gt rfl rfl)) trivial rfl rfl ?_
            refine St.val (v := (.bool true)) (Yields.assign rfl) trivial rfl rfl ?_
            refine St.nil ?_
            refine St.norm ?_
            refine St.cond_t rfl ?_
            refine St.seq ?_
            refine St.region ?_
            refine St.val (v := (.int .i64 3)) (Yields.assign rfl) trivial rfl rfl ?_
            refine St.nil ?_
            refine St.norm ?_
            refine St.ret ?_
            refine St.inret ?_
            refine St.thenret ?_
            refine St.done1 rfl rfl ⟨?_, rfl, rfl⟩
            unfold shErr; rw [← hb]; rw [if_neg (by decide)]; rw [if_pos (by omega)]
          · skip
            refine St.val (v := (.bool false)) (Yields.isnt q101 (Yields.gt rfl rfl)) trivial rfl rfl ?_
            refine St.val (v := (.bool false)) (Yields.assign rfl) trivial rfl rfl ?_
            refine St.nil ?_
            refine St.norm ?_
            refine St.cond_f rfl ?_
            refine St.skip ?_
            refine St.innorm ?_
            refine St.norm ?_
            refine St.seq ?_
            refine St.region ?_
            refine St.val (v := (.int .i64 0)) (Yields.assign rfl) trivial rfl rfl ?_
            refine St.nil ?_
            refine St.norm ?_
            refine St.ret ?_
            refine St.done1 rfl rfl ⟨?_, rfl, rfl⟩
            unfold shErr; rw [← hb]; rw [if_neg (by decide)]; rw [if_neg (by omega)]

theorem same_sp {F : PH} {A B : Option Addr} {k c k2 c2 : Nat} {l m : List Int} (hS : Slc (Kind.int .i64) F A k l) (hT : Slc (Kind.int .i64) F B k2 m) (hmax : k ≤ 140737488355328) (hmax2 : k2 ≤ 140737488355328) :
    CallSp Try.prog 7 #[.slice A k c, .slice B k2 c2] F [] (fun u F' H' => u = .bool (decide (l = m)) ∧ F = F' ∧ H' = []) := by
  refine CallSp.enter (args := [.slice A k c, .slice B k2 c2]) Try.func7 rfl rfl ?_
  intro w0 m0 hm0
  have hlen := hS.1
  have hlen2 := hT.1
  refine St.seq ?_
  refine St.region ?_
  refine St.val (v := (.bool false)) (Yields.assign rfl) trivial rfl rfl ?_
  refine St.nil ?_
  refine St.norm ?_
  refine St.seq ?_
  refine St.seq ?_
  refine St.region ?_
  refine St.val (v := (.slice A k c)) (Yields.move rfl) trivial rfl rfl ?_
  refine St.val (v := (.int .i64 (k : Int))) (Yields.lenSlice tu23 rfl) trivial rfl rfl ?_
  refine St.val (v := (.slice B k2 c2)) (Yields.move rfl) trivial rfl rfl ?_
  refine St.val (v := (.int .i64 (k2 : Int))) (Yields.lenSlice tu23 rfl) trivial rfl rfl ?_
  by_cases q1 : (k : Int) = (k2 : Int)
  · skip
    refine St.val (v := (.bool false)) (Yields.nis q1 (Yields.ne rfl rfl)) trivial rfl rfl ?_
    refine St.nil ?_
    refine St.norm ?_
    refine St.cond_f rfl ?_
    refine St.skip ?_
    refine St.norm ?_
    refine St.seq ?_
    refine St.seq ?_
    refine St.region ?_
    refine St.val (v := (.int .i64 0)) (Yields.assign rfl) trivial rfl rfl ?_
    refine St.nil ?_
    refine St.norm ?_
    refine St.block ?_
    obtain rfl : k = k2 := by omega
    refine St.loop (fun kk a w => ∃ (i : Nat), kk = k - i ∧ i ≤ k ∧ l.take i = m.take i ∧ Has Try.f7.ntmps a [(0, .slice A k c), (1, .slice B k c2), (5, .int .i64 i)] ∧ Sat ⟨w0, fun b => m0 b ≠ none, F⟩ F [] w) k ?_ ?_
    · intro a w ha hs
      exact ⟨0, by omega, by omega, rfl, ha.covers ⟨rfl, rfl, rfl, trivial⟩, hs⟩
    · rintro kk a w ⟨i, hkk, hik, hb, ha, hs⟩
      refine St.use (?_ : St _ _ _ _ _ _) ha hs
      clear ha hs a w
      by_cases hi : (i : Int) < (k : Int)
      · skip
        obtain ⟨x2, hx5⟩ : ∃ x, l[i]? = some x := ⟨_, List.getElem?_eq_getElem (by omega)⟩
        obtain ⟨ad3, cs4, hA6, hK7, hc8⟩ := hS.get hx5
        subst hA6
        obtain rfl : cs4 = [.int .i64 x2] := hK7
        obtain ⟨p9, hp10⟩ : ∃ p, ad3.add (i * 1) = p := ⟨_, rfl⟩
        have hc8 : ∀ j v, ([.int .i64 x2] : List Value)[j]? = some v → PH.cell? F (p9.add j) = some v := by rw [← hp10]; exact hc8
        obtain ⟨x11, hx14⟩ : ∃ x, m[i]? = some x := ⟨_, List.getElem?_eq_getElem (by omega)⟩
        obtain ⟨ad12, cs13, hA15, hK16, hc17⟩ := hT.get hx14
        subst hA15
        obtain rfl : cs13 = [.int .i64 x11] := hK16
        obtain ⟨p18, hp19⟩ : ∃ p, ad12.add (i * 1) = p := ⟨_, rfl⟩
        have hc17 : ∀ j v, ([.int .i64 x11] : List Value)[j]? = some v → PH.cell? F (p18.add j) = some v := by rw [← hp19]; exact hc17
        refine St.seq ?_
        refine St.seq ?_
        refine St.region ?_
        refine St.val (v := (.int .i64 (i : Int))) (Yields.move rfl) trivial rfl rfl ?_
        refine St.val (v := (.slice (some ad3) k c)) (Yields.move rfl) trivial rfl rfl ?_
        refine St.val (v := (.int .i64 (k : Int))) (Yields.lenSlice tu23 rfl) trivial rfl rfl ?_
        refine St.val (v := (.bool true)) (Yields.is hi (Yields.lt rfl rfl)) trivial rfl rfl ?_
        refine St.nil ?_
        refine St.norm ?_
        refine St.cond_t rfl ?_
        refine St.skip ?_
        refine St.norm ?_
        refine St.seq ?_
        refine St.block ?_
        refine St.seq ?_
        refine StD.start [] [] hmix ?_
        refine StD.take (i := 0) (v := (.slice (some ad3) k c)) rfl (Yields.move rfl) rfl rfl trivial Among.refl (by rintro _ _ _ ⟨_, _, _, _, h, _⟩; cases h) (by kernel_rfl) (listed' := #[true, false, false, false, false, false, false, false, false]) rfl ?_
        refine StD.take (i := 1) (v := (.int .i64 (i : Int))) rfl (Yields.move rfl) rfl rfl trivial Among.refl (by rintro _ _ _ ⟨_, _, _, _, h, _⟩; cases h) (by kernel_rfl) (listed' := #[true, true, false, false, false, false, false, false, false]) rfl ?_
        refine StD.take (i := 2) (v := (.pointer (some p9))) rfl (Yields.indexAddr (p := p9) ts23 rfl rfl (by omega) (by omega) (by rw [← hp10]; first | rfl | (congr 1; omega))) rfl rfl trivial Among.refl (by rintro _ _ _ ⟨_, _, _, _, h, _⟩; cases h) (by kernel_rfl) (listed' := #[true, true, true, false, false, false, false, false, false]) rfl ?_
        refine StD.take (i := 3) (v := (.int .i64 x2)) rfl (Yields.load rfl (Loads.Fat hc8 tc3 rfl)) rfl rfl trivial Among.refl (by rintro _ _ _ ⟨_, _, _, _, h, _⟩; cases h) (by kernel_rfl) (listed' := #[true, true, true, true, false, false, false, false, false]) rfl ?_
        refine StD.take (i := 4) (v := (.slice (some ad12) k c2)) rfl (Yields.move rfl) rfl rfl trivial Among.refl (by rintro _ _ _ ⟨_, _, _, _, h, _⟩; cases h) (by kernel_rfl) (listed' := #[true, true, true, true, true, false, false, false, false]) rfl ?_
        refine StD.take (i := 5) (v := (.int .i64 (i : Int))) rfl (Yields.move rfl) rfl rfl trivial Among.refl (by rintro _ _ _ ⟨_, _, _, _, h, _⟩; cases h) (by kernel_rfl) (listed' := #[true, true, true, true, true, true, false, false, false]) rfl ?_
        refine StD.take (i := 6) (v := (.pointer (some p18))) rfl (Yields.indexAddr (p := p18) ts23 rfl rfl (by omega) (by omega) (by rw [← hp19]; first | rfl | (congr 1; omega))) rfl rfl trivial Among.refl (by rintro _ _ _ ⟨_, _, _, _, h, _⟩; cases h) (by kernel_rfl) (listed' := #[true, true, true, true, true, true, true, false, false]) rfl ?_
        refine StD.take (i := 7) (v := (.int .i64 x11)) rfl (Yields.load rfl (Loads.Fat hc17 tc3 rfl)) rfl rfl trivial Among.refl (by rintro _ _ _ ⟨_, _, _, _, h, _⟩; cases h) (by kernel_rfl) (listed' := #[true, true, true, true, true, true, true, true, false]) rfl ?_
        by_cases q20 : x2 = x11
        · skip
          refine StD.take (i := 8) (v := (.bool false)) rfl (Yields.nis q20 (Yields.ne rfl rfl)) rfl rfl trivial Among.refl (by rintro _ _ _ ⟨_, _, _, _, h, _⟩; cases h) (by kernel_rfl) (listed' := #[true, true, true, true, true, true, true, true, true]) rfl ?_
          refine StD.done (by kernel_rfl) ?_
          refine St.norm ?_
          refine St.cond_f rfl ?_
          refine St.skip ?_
          refine St.innorm ?_
          refine St.norm ?_
          refine St.region ?_
          refine St.val (v := (.int .i64 (i : Int))) (Yields.move rfl) trivial rfl rfl ?_
          refine St.val (v := (.int .i64 ((i : Int) + 1))) (Yields.add rfl rfl (by omega) (by omega)) trivial rfl rfl ?_
          refine St.val (v := (.int .i64 ((i : Int) + 1))) (Yields.assign rfl) trivial rfl rfl ?_
          refine St.nil ?_
          refine St.norm ?_
          intro a w ha hs
          exact ⟨k - (i + 1), by omega, i + 1, rfl, by omega, by rw [List.take_add_one, List.take_add_one, hx5, hx14, hb, q20], ha.covers ⟨rfl, rfl, rfl, trivial⟩, hs⟩
        · skip
          refine StD.take (i := 8) (v := (.bool true)) rfl (Yields.nisnt q20 (Yields.ne rfl rfl)) rfl rfl trivial Among.refl (by rintro _ _ _ ⟨_, _, _, _, h, _⟩; cases h) (by kernel_rfl) (listed' := #[true, true, true, true, true, true, true, true, true]) rfl ?_
          refine StD.done (by kernel_rfl) ?_
          refine St.norm ?_
          refine St.cond_t rfl ?_
          refine St.seq ?_
          refine St.region ?_
          refine St.val (v := (.bool false)) (Yields.assign rfl) trivial rfl rfl ?_
          refine St.nil ?_
          refine St.norm ?_
          refine St.ret ?_
          refine St.inret ?_
          refine St.thenret ?_
          refine St.thenret ?_
          refine St.inret ?_
          refine St.thenret ?_
          exact St.done1 rfl rfl ⟨by rw [decide_eq_false (fun e => q20 (by rw [e, hx14] at hx5; exact (Option.some.inj hx5).symm))], rfl, rfl⟩
      · skip
        refine St.seq ?_
        refine St.seq ?_
        refine St.region ?_
        refine St.val (v := (.int .i64 (i : Int))) (Yields.move rfl) trivial rfl rfl ?_
        refine St.val (v := (.slice A k c)) (Yields.move rfl) trivial rfl rfl ?_
        refine St.val (v := (.int .i64 (k : Int))) (Yields.lenSlice tu23 rfl) trivial rfl rfl ?_
        refine St.val (v := (.bool false)) (Yields.isnt hi (Yields.lt rfl rfl)) trivial rfl rfl ?_
        refine St.nil ?_
        refine St.norm ?_
        refine St.cond_f rfl ?_
        refine St.exit ?_
        refine St.thenexit ?_
        refine St.thenexit ?_
        refine St.inexit ?_
        refine St.norm ?_
        refine St.seq ?_
        refine St.region ?_
        refine St.val (v := (.bool true)) (Yields.assign rfl) trivial rfl rfl ?_
        refine St.nil ?_
        refine St.norm ?_
        refine St.ret ?_
        obtain rfl : i = k := by omega
        rw [List.take_of_length_le (by omega), List.take_of_length_le (by omega)] at hb
        exact St.done1 rfl rfl ⟨by rw [decide_eq_true hb], rfl, rfl⟩
  · skip
    refine St.val (v := (.bool true)) (Yields.nisnt q1 (Yields.ne rfl rfl)) trivial rfl rfl ?_
    refine St.nil ?_
    refine St.norm ?_
    refine St.cond_t rfl ?_
    refine St.seq ?_
    refine St.region ?_
    refine St.val (v := (.bool false)) (Yields.assign rfl) trivial rfl rfl ?_
    refine St.nil ?_
    refine St.norm ?_
    refine St.ret ?_
    refine St.thenret ?_
    exact St.done1 rfl rfl ⟨by rw [decide_eq_false (fun e => by subst e; omega)], rfl, rfl⟩

end Go.Proofs.Ytaajfhcjpejmjaa