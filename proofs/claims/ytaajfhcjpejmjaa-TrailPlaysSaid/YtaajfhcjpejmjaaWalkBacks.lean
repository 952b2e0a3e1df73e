import Derived.Test.YtaajfhcjpejmjaaBacks
namespace Go.Proofs.Ytaajfhcjpejmjaa
open Go Go.Sy Go.RowKit
set_option linter.unusedVariables false
theorem Play_eq {F : PH} {A : Option Addr} {k c : Nat} {l : List Sh} {n : Int} {r : List Int} {m : Nat} {e : Int} (hr : playR n l = (r, m, e)) (hS : Slc shK F A k l) (hmax : k ≤ 140737488355328) :
    CallSp Try.prog 5 #[.int .i64 n, .slice A k c] F [] (fun u F' H' => ∃ A' k' c', u = .tuple #[.slice A' k' c', .int .i64 m, .int .i64 e] ∧ Slc (Kind.int .i64) F' A' k' r ∧ H' = [] ∧ k' ≤ 64) := by
  have h := Play_sp (c := c) (n := n) hS hmax
  rw [hr] at h
  exact h
theorem same_t {F : PH} {A B : Option Addr} {k c k2 c2 : Nat} {l m : List Int} (h : l = m) (hS : Slc (Kind.int .i64) F A k l) (hT : Slc (Kind.int .i64) F B k2 m) (hmax : k ≤ 64) (hmax2 : k2 ≤ 64) :
    CallSp Try.prog 7 #[.slice A k c, .slice B k2 c2] F [] (fun u F' H' => u = .bool true ∧ F = F' ∧ H' = []) := by
  have h2 := same_sp (c := c) (c2 := c2) hS hT (by omega) (by omega)
  rw [decide_eq_true h] at h2
  exact h2
theorem plays_marks : ∀ (l : List Sh) (s s' : TS), plays l s = some s' → s'.marks.length ≤ s.marks.length + l.length
  | [], s, s', h => by cases h; simp
  | x :: l, s, s', h => by
    simp only [plays] at h
    split at h
    · cases h
    · have h1 := plays_marks l _ _ h
      have h2 := (step_lens s x).2
      simp only [List.length_cons]; omega
theorem playR_marks {n : Int} {l : List Sh} {r : List Int} {m : Nat} {e : Int} (hr : playR n l = (r, m, e)) : m ≤ 400 := by
  unfold playR at hr
  split at hr
  · simp only [Prod.mk.injEq] at hr; omega
  · rename_i h0
    have h1 := shErr_zero (n := n) (l := l) (by omega)
    split at hr
    · simp only [Prod.mk.injEq] at hr; omega
    · rename_i s hs
      have h2 := plays_marks _ _ _ hs
      simp only [Prod.mk.injEq] at hr
      have h3 : (start n.toNat).marks.length = 0 := rfl
      omega

theorem known_sp {F : PH} :
    CallSp Try.prog 6 #[] F [] (fun u F' H' => u = .bool true ∧ H' = []) := by
  refine CallSp.enter (args := []) Try.func6 rfl rfl ?_
  intro w0 m0 hm0
  refine St.seq ?_
  refine St.region ?_
  refine St.val (v := (.bool false)) (Yields.assign rfl) trivial rfl rfl ?_
  refine St.nil ?_
  refine St.norm ?_
  refine St.seq ?_
  refine St.region ?_
  refine St.val (v := (.agg #[.int .i64 0, .int .i64 0, .int .i64 5])) (Yields.build (v := (.agg #[.int .i64 0, .int .i64 0, .int .i64 5])) (vs := #[(1, .int .i64 0), (2, .int .i64 5)]) (fun _ ha => evp2 ha rfl rfl) (fun _ => by kernel_rfl)) trivial rfl rfl ?_
  refine St.val (v := (.agg #[.int .i64 1, .int .i64 0, .int .i64 0])) (Yields.build (v := (.agg #[.int .i64 1, .int .i64 0, .int .i64 0])) (vs := #[(0, .int .i64 1)]) (fun _ ha => evp1 ha rfl) (fun _ => by kernel_rfl)) trivial rfl rfl ?_
  refine St.val (v := (.agg #[.int .i64 0, .int .i64 0, .int .i64 7])) (Yields.build (v := (.agg #[.int .i64 0, .int .i64 0, .int .i64 7])) (vs := #[(1, .int .i64 0), (2, .int .i64 7)]) (fun _ ha => evp2 ha rfl rfl) (fun _ => by kernel_rfl)) trivial rfl rfl ?_
  refine St.val (v := (.agg #[.int .i64 0, .int .i64 1, .int .i64 1])) (Yields.build (v := (.agg #[.int .i64 0, .int .i64 1, .int .i64 1])) (vs := #[(1, .int .i64 1), (2, .int .i64 1)]) (fun _ ha => evp2 ha rfl rfl) (fun _ => by kernel_rfl)) trivial rfl rfl ?_
  refine St.val (v := (.agg #[.int .i64 2, .int .i64 0, .int .i64 0])) (Yields.build (v := (.agg #[.int .i64 2, .int .i64 0, .int .i64 0])) (vs := #[(0, .int .i64 2)]) (fun _ ha => evp1 ha rfl) (fun _ => by kernel_rfl)) trivial rfl rfl ?_
  refine St.buildSlice (e := 29) (cells := #[.int .i64 0, .int .i64 0, .int .i64 5, .int .i64 1, .int .i64 0, .int .i64 0, .int .i64 0, .int .i64 0, .int .i64 7, .int .i64 0, .int .i64 1, .int .i64 1, .int .i64 2, .int .i64 0, .int .i64 0]) (vs := #[(0, .agg #[.int .i64 0, .int .i64 0, .int .i64 5]), (1, .agg #[.int .i64 1, .int .i64 0, .int .i64 0]), (2, .agg #[.int .i64 0, .int .i64 0, .int .i64 7]), (3, .agg #[.int .i64 0, .int .i64 1, .int .i64 1]), (4, .agg #[.int .i64 2, .int .i64 0, .int .i64 0])]) (fun _ ha => evp5 ha rfl rfl rfl rfl rfl) (fun _ => by kernel_rfl) rfl trivial ?_
  intro b1
  refine St.weak (R := []) (c' := row (some ⟨b1, 0, none⟩) 5 5 29 3 [.int .i64 0, .int .i64 0, .int .i64 5, .int .i64 1, .int .i64 0, .int .i64 0, .int .i64 0, .int .i64 0, .int .i64 7, .int .i64 0, .int .i64 1, .int .i64 1, .int .i64 2, .int .i64 0, .int .i64 0]) 0 rfl rfl (fun m hm => row_of_blk (cells := #[.int .i64 0, .int .i64 0, .int .i64 5, .int .i64 1, .int .i64 0, .int .i64 0, .int .i64 0, .int .i64 0, .int .i64 7, .int .i64 0, .int .i64 1, .int .i64 1, .int .i64 2, .int .i64 0, .int .i64 0]) rfl (by decide) hm) ?_
  refine St.freeze_row (R := []) (D := shK) (xs := [(⟨0, 0, 5⟩ : Sh), (⟨1, 0, 0⟩ : Sh), (⟨0, 0, 7⟩ : Sh), (⟨0, 1, 1⟩ : Sh), (⟨2, 0, 0⟩ : Sh)]) 0 rfl rfl rfl rfl ⟨shV (⟨0, 0, 5⟩ : Sh), _, rfl, rfl, ⟨shV (⟨1, 0, 0⟩ : Sh), _, rfl, rfl, ⟨shV (⟨0, 0, 7⟩ : Sh), _, rfl, rfl, ⟨shV (⟨0, 1, 1⟩ : Sh), _, rfl, rfl, ⟨shV (⟨2, 0, 0⟩ : Sh), _, rfl, rfl, rfl⟩⟩⟩⟩⟩ ?_
  intro F2 hle3 hS
  have hk : playR 2 [(⟨0, 0, 5⟩ : Sh), (⟨1, 0, 0⟩ : Sh), (⟨0, 0, 7⟩ : Sh), (⟨0, 1, 1⟩ : Sh), (⟨2, 0, 0⟩ : Sh)] = ([5, 0], 1, 0) := by kernel_rfl
  refine St.call [] (Play_eq hk hS (by decide)) rfl (fun _ ha => ev2 ha rfl rfl) rfl en5 rfl rfl trivial ?_
  rintro _ F8 _ ⟨A1, k1, c1, rfl, hR, rfl, hk1⟩ hle4
  replace hS := Slc.mono hle4 hS
  have hk2 : k1 = 2 := hR.1.symm
  refine St.val (v := (.tuple #[.slice A1 k1 c1, .int .i64 1, .int .i64 0])) (Yields.move rfl) trivial rfl rfl ?_
  refine St.val (v := (.slice A1 k1 c1)) (Yields.extract rfl rfl) trivial rfl rfl ?_
  refine St.val (v := (.int .i64 1)) (Yields.extract rfl rfl) trivial rfl rfl ?_
  refine St.val (v := (.int .i64 0)) (Yields.extract rfl rfl) trivial rfl rfl ?_
  refine St.val (v := (.slice A1 k1 c1)) (Yields.assign rfl) trivial rfl rfl ?_
  refine St.val (v := (.int .i64 1)) (Yields.assign rfl) trivial rfl rfl ?_
  refine St.val (v := (.int .i64 0)) (Yields.assign rfl) trivial rfl rfl ?_
  refine St.nil ?_
  refine St.norm ?_
  refine St.seq ?_
  refine St.region ?_
  refine St.val (v := (.int .i64 0)) (Yields.move rfl) trivial rfl rfl ?_
  refine St.val (v := (.bool true)) (Yields.is (by decide) (Yields.eq rfl rfl)) trivial rfl rfl ?_
  refine St.val (v := (.bool true)) (Yields.move rfl) trivial rfl rfl ?_
  refine St.val (v := (.int .i64 1)) (Yields.move rfl) rfl rfl rfl ?_
  refine St.val (v := (.bool true)) (Yields.is (by decide) (Yields.eq rfl rfl)) rfl rfl rfl ?_
  refine St.val (v := (.bool true)) (Yields.pick_t rfl rfl) trivial rfl rfl ?_
  refine St.val (v := (.bool true)) (Yields.move rfl) trivial rfl rfl ?_
  refine St.val (v := (.slice A1 k1 c1)) (Yields.move rfl) rfl rfl rfl ?_
  refine St.val (v := (.int .i64 (k1 : Int))) (Yields.lenSlice tu23 rfl) rfl rfl rfl ?_
  refine St.val (v := (.bool true)) (Yields.is (by omega) (Yields.eq rfl rfl)) rfl rfl rfl ?_
  refine St.val (v := (.bool true)) (Yields.pick_t rfl rfl) trivial rfl rfl ?_
  refine St.val (v := (.bool true)) (Yields.move rfl) trivial rfl rfl ?_
  refine St.val (v := (.slice A1 k1 c1)) (Yields.move rfl) rfl rfl rfl ?_
  obtain ⟨x5, hx8⟩ : ∃ x, ([5, 0] : List Int)[0]? = some x := ⟨_, List.getElem?_eq_getElem (by decide)⟩
  obtain ⟨ad6, cs7, hA9, hK10, hc11⟩ := hR.get hx8
  subst hA9
  obtain rfl : cs7 = [.int .i64 x5] := hK10
  obtain ⟨p12, hp13⟩ : ∃ p, ad6.add (0 * 1) = p := ⟨_, rfl⟩
  have hc11 : ∀ j v, ([.int .i64 x5] : List Value)[j]? = some v → PH.cell? F8 (p12.add j) = some v := by rw [← hp13]; exact hc11
  obtain rfl : 5 = x5 := Option.some.inj hx8
  obtain ⟨x14, hx17⟩ : ∃ x, ([5, 0] : List Int)[1]? = some x := ⟨_, List.getElem?_eq_getElem (by decide)⟩
  obtain ⟨ad15, cs16, hA18, hK19, hc20⟩ := hR.get hx17
  cases hA18
  obtain rfl : cs16 = [.int .i64 x14] := hK19
  obtain ⟨p21, hp22⟩ : ∃ p, ad6.add (1 * 1) = p := ⟨_, rfl⟩
  have hc20 : ∀ j v, ([.int .i64 x14] : List Value)[j]? = some v → PH.cell? F8 (p21.add j) = some v := by rw [← hp22]; exact hc20
  obtain rfl : 0 = x14 := Option.some.inj hx17
  refine St.val (v := (.pointer (some p12))) (Yields.indexAddr (p := p12) ts23 rfl rfl (by omega) (by omega) (by rw [← hp13]; first | rfl | (congr 1; omega))) rfl rfl rfl ?_
  refine St.val (v := (.int .i64 5)) (Yields.load rfl (Loads.Fat hc11 tc3 rfl)) rfl rfl rfl ?_
  refine St.val (v := (.bool true)) (Yields.is (by decide) (Yields.eq rfl rfl)) rfl rfl rfl ?_
  refine St.val (v := (.bool true)) (Yields.pick_t rfl rfl) trivial rfl rfl ?_
  refine St.val (v := (.bool true)) (Yields.move rfl) trivial rfl rfl ?_
  refine St.val (v := (.slice (some ad6) k1 c1)) (Yields.move rfl) rfl rfl rfl ?_
  refine St.val (v := (.pointer (some p21))) (Yields.indexAddr (p := p21) ts23 rfl rfl (by omega) (by omega) (by rw [← hp22]; first | rfl | (congr 1; omega))) rfl rfl rfl ?_
  refine St.val (v := (.int .i64 0)) (Yields.load rfl (Loads.Fat hc20 tc3 rfl)) rfl rfl rfl ?_
  refine St.val (v := (.bool true)) (Yields.is (by decide) (Yields.eq rfl rfl)) rfl rfl rfl ?_
  refine St.val (v := (.bool true)) (Yields.pick_t rfl rfl) trivial rfl rfl ?_
  refine St.val (v := (.bool true)) (Yields.assign rfl) trivial rfl rfl ?_
  refine St.nil ?_
  refine St.norm ?_
  refine St.ret ?_
  exact St.done1 rfl rfl ⟨rfl, rfl⟩

theorem TrailBacks_sp {F : PH} {A B : Option Addr} {k c k2 c2 : Nat} {l more : List Sh} {n : Int} (hS : Slc shK F A k l) (hT : Slc shK F B k2 more) (hmax : k ≤ 140737488355328) (hmax2 : k2 ≤ 140737488355328) :
    CallSp Try.prog 3 #[.int .i64 n, .slice A k c, .slice B k2 c2] F [] (fun u F' H' => u = .bool true ∧ H' = []) := by
  refine CallSp.enter (args := [.int .i64 n, .slice A k c, .slice B k2 c2]) Try.func3 rfl rfl ?_
  intro w0 m0 hm0
  have hlen := hS.1
  have hlen2 := hT.1
  obtain ⟨ra, rk, re, hr1⟩ : ∃ r m e, playR n l = (r, m, e) := ⟨_, _, _, rfl⟩
  refine St.seq ?_
  refine St.region ?_
  refine St.val (v := (.bool false)) (Yields.assign rfl) trivial rfl rfl ?_
  refine St.nil ?_
  refine St.norm ?_
  refine St.seq ?_
  refine St.region ?_
  refine St.val (v := (.int .i64 n)) (Yields.move rfl) trivial rfl rfl ?_
  refine St.val (v := (.slice A k c)) (Yields.move rfl) trivial rfl rfl ?_
  refine St.call [] (Play_eq hr1 hS hmax) rfl (fun _ ha => ev2 ha rfl rfl) rfl en5 rfl rfl trivial ?_
  rintro _ F1 _ ⟨A1, k1, c1, rfl, hR1, rfl, hk1⟩ hle1
  replace hS := Slc.mono hle1 hS
  replace hT := Slc.mono hle1 hT
  refine St.val (v := (.tuple #[.slice A1 k1 c1, .int .i64 (rk : Int), .int .i64 re])) (Yields.move rfl) trivial rfl rfl ?_
  refine St.val (v := (.slice A1 k1 c1)) (Yields.extract rfl rfl) trivial rfl rfl ?_
  refine St.val (v := (.int .i64 (rk : Int))) (Yields.extract rfl rfl) trivial rfl rfl ?_
  refine St.val (v := (.int .i64 re)) (Yields.extract rfl rfl) trivial rfl rfl ?_
  refine St.val (v := (.slice A1 k1 c1)) (Yields.assign rfl) trivial rfl rfl ?_
  refine St.val (v := (.int .i64 (rk : Int))) (Yields.assign rfl) trivial rfl rfl ?_
  refine St.val (v := (.int .i64 re)) (Yields.assign rfl) trivial rfl rfl ?_
  refine St.nil ?_
  refine St.norm ?_
  refine St.seq ?_
  refine St.seq ?_
  refine St.region ?_
  refine St.val (v := (.int .i64 re)) (Yields.move rfl) trivial rfl rfl ?_
  by_cases q2 : re = 0
  · skip
    refine St.val (v := (.bool false)) (Yields.nis q2 (Yields.ne rfl rfl)) trivial rfl rfl ?_
    refine St.val (v := (.bool false)) (Yields.move rfl) trivial rfl rfl ?_
    refine St.val (v := (.slice A k c)) (Yields.move rfl) rfl rfl rfl ?_
    refine St.val (v := (.int .i64 (k : Int))) (Yields.lenSlice tu22 rfl) rfl rfl rfl ?_
    refine St.val (v := (.slice B k2 c2)) (Yields.move rfl) rfl rfl rfl ?_
    refine St.val (v := (.int .i64 (k2 : Int))) (Yields.lenSlice tu22 rfl) rfl rfl rfl ?_
    refine St.val (v := (.int .i64 (2 * (k2 : Int)))) (Yields.mul rfl rfl (by omega) (by omega)) rfl rfl rfl ?_
    refine St.val (v := (.int .i64 ((k : Int) + (2 * (k2 : Int))))) (Yields.add rfl rfl (by omega) (by omega)) rfl rfl rfl ?_
    refine St.val (v := (.int .i64 (((k : Int) + (2 * (k2 : Int))) + 4))) (Yields.add rfl rfl (by omega) (by omega)) rfl rfl rfl ?_
    by_cases q3 : ((k : Int) + (2 * (k2 : Int))) + 4 > 400
    · skip
      refine St.val (v := (.bool true)) (Yields.is q3 (Yields.gt rfl rfl)) rfl rfl rfl ?_
      refine St.val (v := (.bool true)) (Yields.pick_f rfl rfl) trivial rfl rfl ?_
      refine St.nil ?_
      refine St.norm ?_
      refine St.cond_t rfl ?_
      refine St.seq ?_
      refine St.region ?_
      refine St.call [] (known_sp) rfl (fun _ _ => ev0) rfl en6 rfl rfl trivial ?_
      rintro _ Fk4 _ ⟨rfl, rfl⟩ hle5
      replace hS := Slc.mono hle5 hS
      replace hT := Slc.mono hle5 hT
      replace hR1 := Slc.mono hle5 hR1
      refine St.val (v := (.bool true)) (Yields.assign rfl) trivial rfl rfl ?_
      refine St.nil ?_
      refine St.norm ?_
      refine St.ret ?_
      refine St.thenret ?_
      refine St.nilH ?_
      exact St.done1 rfl rfl ⟨rfl, rfl⟩
    · skip
      refine St.val (v := (.bool false)) (Yields.isnt q3 (Yields.gt rfl rfl)) rfl rfl rfl ?_
      refine St.val (v := (.bool false)) (Yields.pick_f rfl rfl) trivial rfl rfl ?_
      refine St.nil ?_
      refine St.norm ?_
      refine St.cond_f rfl ?_
      refine St.skip ?_
      refine St.norm ?_
      refine St.seq ?_
      refine St.region ?_
      have hre0 : re = 0 := q2
      refine St.val (v := (.slice A k c)) (Yields.move rfl) trivial rfl rfl ?_
      refine St.row_new 29 3 ?_
      refine St.append_slc (R := []) ts22 rfl rfl rfl rfl hS 0 rfl rfl (by omega) rfl rfl trivial ?_
      intro A6 c7 nw8 hn9
      refine St.val (v := (.agg #[.int .i64 1, .int .i64 0, .int .i64 0])) (Yields.build (v := (.agg #[.int .i64 1, .int .i64 0, .int .i64 0])) (vs := #[(0, .int .i64 1)]) (fun _ ha => evp1 ha rfl) (fun _ => by kernel_rfl)) trivial rfl rfl ?_
      refine St.buildSlice (e := 29) (cells := #[.int .i64 1, .int .i64 0, .int .i64 0]) (vs := #[(0, .agg #[.int .i64 1, .int .i64 0, .int .i64 0])]) (fun _ ha => evp1 ha rfl) (fun _ => by kernel_rfl) rfl trivial ?_
      intro b10
      refine St.append_lit (R := [blk b10 (.cells #[.int .i64 1, .int .i64 0, .int .i64 0] 29 (0, 0))]) ts22 rfl rfl rfl 1 rfl rfl 0 rfl rfl rfl (by omega) rfl rfl trivial ?_
      intro A11 c12
      refine St.pick (R := [row A11 ((0 + k) + 1) c12 29 3 (([] ++ nw8) ++ [.int .i64 1, .int .i64 0, .int .i64 0])]) 1 rfl rfl ?_
      refine St.drop ?_
      refine St.val (v := (.slice A11 ((0 + k) + 1) c12)) (Yields.assign rfl) trivial rfl rfl ?_
      refine St.nil ?_
      refine St.norm ?_
      refine St.seq ?_
      refine St.region ?_
      refine St.val (v := (.int .i64 0)) (Yields.assign rfl) trivial rfl rfl ?_
      refine St.nil ?_
      refine St.norm ?_
      refine St.seq ?_
      refine St.seq ?_
      refine St.region ?_
      refine St.val (v := (.int .i64 0)) (Yields.assign rfl) trivial rfl rfl ?_
      refine St.nil ?_
      refine St.norm ?_
      refine St.block ?_
      refine St.loop (fun kk a w => ∃ (i : Nat) (al : List Sh) (dp : Int) (Aa : Option Addr) (ca ln : Nat) (cells : List Value), kk = k2 - i ∧ i ≤ k2 ∧ tb l (more.take i) = (al, dp) ∧ al.length = ln ∧ 0 ≤ dp ∧ ln + dp ≤ k + 1 + 2 * i ∧ Cat shK F1 cells al ∧ Has Try.f3.ntmps a [(0, .int .i64 n), (2, .slice B k2 c2), (7, .slice A1 k1 c1), (8, .int .i64 rk), (10, .slice Aa ln ca), (11, .int .i64 dp), (12, .int .i64 i)] ∧ Sat ⟨w0, fun b => m0 b ≠ none, F⟩ F1 [row Aa ln ca 29 3 cells] w) k2 ?_ ?_
      · intro a w ha hs
        exact ⟨0, (l ++ [(⟨1, 0, 0⟩ : Sh)]), 0, A11, c12, ((0 + k) + 1), (([] ++ nw8) ++ [.int .i64 1, .int .i64 0, .int .i64 0]), by omega, by omega, rfl, by simp; omega, by omega, by omega, Cat.append (Cat.append (xs := []) rfl hn9) ⟨shV (⟨1, 0, 0⟩ : Sh), _, rfl, rfl, rfl⟩, ha.covers ⟨rfl, rfl, rfl, rfl, rfl, rfl, rfl, trivial⟩, hs⟩
      · rintro kk a w ⟨i, al, dp, Aa, ca, ln, cells, hkk, hik, htb, hln, hdp, hld, hcat, ha, hs⟩
        refine St.use (?_ : St _ _ _ _ _ _) ha hs
        clear ha hs a w
        by_cases hi : (i : Int) < (k2 : Int)
        · skip
          obtain ⟨x13, hx16⟩ : ∃ x, more[i]? = some x := ⟨_, List.getElem?_eq_getElem (by omega)⟩
          obtain ⟨ad14, cs15, hA17, hK18, hc19⟩ := hT.get hx16
          subst hA17
          obtain rfl : cs15 = shV x13 := hK18
          obtain ⟨p20, hp21⟩ : ∃ p, ad14.add (i * 3) = p := ⟨_, rfl⟩
          have hc19 : ∀ j v, ([.int .i64 x13.k, .int .i64 x13.a, .int .i64 x13.v] : List Value)[j]? = some v → PH.cell? F1 (p20.add j) = some v := by rw [← hp21]; exact hc19
          have htb1 := tb_snoc l hx16
          rw [htb] at htb1
          refine St.seq ?_
          refine St.seq ?_
          refine St.region ?_
          refine St.val (v := (.int .i64 (i : Int))) (Yields.move rfl) trivial rfl rfl ?_
          refine St.val (v := (.slice (some ad14) k2 c2)) (Yields.move rfl) trivial rfl rfl ?_
          refine St.val (v := (.int .i64 (k2 : Int))) (Yields.lenSlice tu22 rfl) trivial rfl rfl ?_
          refine St.val (v := (.bool true)) (Yields.is hi (Yields.lt rfl rfl)) trivial rfl rfl ?_
          refine St.nil ?_
          refine St.norm ?_
          refine St.cond_t rfl ?_
          refine St.skip ?_
          refine St.norm ?_
          refine St.seq ?_
          refine St.block ?_
          refine St.seq ?_
          refine St.region ?_
          refine St.val (v := (.slice (some ad14) k2 c2)) (Yields.move rfl) trivial rfl rfl ?_
          refine St.val (v := (.int .i64 (i : Int))) (Yields.move rfl) trivial rfl rfl ?_
          refine St.val (v := (.pointer (some p20))) (Yields.indexAddr (p := p20) ts22 rfl rfl (by omega) (by omega) (by rw [← hp21]; first | rfl | (congr 1; omega))) trivial rfl rfl ?_
          refine St.val (v := (.agg #[.int .i64 x13.k, .int .i64 x13.a, .int .i64 x13.v])) (Yields.load rfl (Loads.Fatn0 hc19 ta29)) trivial rfl rfl ?_
          refine St.alloc tz29 trivial rfl ?_
          intro b22
          refine St.storen (R := [row Aa ln ca 29 3 cells]) rfl rfl 0 rfl rfl ta29 rfl rfl rfl trivial (cs' := #[.int .i64 x13.k, .int .i64 x13.a, .int .i64 x13.v]) rfl ?_
          refine St.nil ?_
          refine St.norm ?_
          refine St.seq ?_
          refine St.block ?_
          refine St.seq ?_
          refine St.region ?_
          refine St.val (v := (.pointer (some ⟨b22, 0, none⟩))) (Yields.fieldAddr (v := (.pointer (some ⟨b22, 0, none⟩))) rfl (fun _ => by kernel_rfl)) trivial rfl rfl ?_
          refine St.val (v := (.int .i64 x13.k)) (Yields.load rfl (Loads.H1 0 rfl tc3 rfl)) trivial rfl rfl ?_
          by_cases q23 : x13.k = 1
          · skip
            refine St.val (v := (.bool true)) (Yields.is q23 (Yields.eq rfl rfl)) trivial rfl rfl ?_
            refine St.val (v := (.bool true)) (Yields.assign rfl) trivial rfl rfl ?_
            refine St.nil ?_
            refine St.norm ?_
            refine St.cond_t rfl ?_
            refine St.region ?_
            refine St.val (v := (.int .i64 dp)) (Yields.move rfl) trivial rfl rfl ?_
            refine St.val (v := (.int .i64 (dp + 1))) (Yields.add rfl rfl (by omega) (by omega)) trivial rfl rfl ?_
            refine St.val (v := (.int .i64 (dp + 1))) (Yields.assign rfl) trivial rfl rfl ?_
            refine St.nil ?_
            refine St.innorm ?_
            refine St.norm ?_
            refine St.region ?_
            refine St.val (v := (.slice Aa ln ca)) (Yields.move rfl) trivial rfl rfl ?_
            refine St.val (v := (.agg #[.int .i64 x13.k, .int .i64 x13.a, .int .i64 x13.v])) (Yields.load rfl (Loads.Hk (vs := [.int .i64 x13.k, .int .i64 x13.a, .int .i64 x13.v]) 0 rfl ta29 rfl rfl)) trivial rfl rfl ?_
            refine St.buildSlice (e := 29) (cells := #[.int .i64 x13.k, .int .i64 x13.a, .int .i64 x13.v]) (vs := #[(0, .agg #[.int .i64 x13.k, .int .i64 x13.a, .int .i64 x13.v])]) (fun _ ha => evp1 ha rfl) (fun _ => by kernel_rfl) rfl trivial ?_
            intro b24
            refine St.append_lit (R := [blk b24 (.cells #[.int .i64 x13.k, .int .i64 x13.a, .int .i64 x13.v] 29 (0, 0)), blk b22 (.cells #[.int .i64 x13.k, .int .i64 x13.a, .int .i64 x13.v] 29 (0, 0))]) ts22 rfl rfl rfl 2 rfl rfl 0 rfl rfl rfl (by omega) rfl rfl trivial ?_
            intro A25 c26
            refine St.pick (R := [row A25 (ln + 1) c26 29 3 (cells ++ [.int .i64 x13.k, .int .i64 x13.a, .int .i64 x13.v]), blk b22 (.cells #[.int .i64 x13.k, .int .i64 x13.a, .int .i64 x13.v] 29 (0, 0))]) 1 rfl rfl ?_
            refine St.drop ?_
            refine St.val (v := (.slice A25 (ln + 1) c26)) (Yields.assign rfl) trivial rfl rfl ?_
            refine St.nil ?_
            refine St.innorm ?_
            refine St.norm ?_
            refine St.region ?_
            refine St.val (v := (.int .i64 (i : Int))) (Yields.move rfl) trivial rfl rfl ?_
            refine St.val (v := (.int .i64 ((i : Int) + 1))) (Yields.add rfl rfl (by omega) (by omega)) trivial rfl rfl ?_
            refine St.val (v := (.int .i64 ((i : Int) + 1))) (Yields.assign rfl) trivial rfl rfl ?_
            refine St.nil ?_
            refine St.norm ?_
            intro a w ha hs
            have htb2 : tb l (more.take (i + 1)) = ((al ++ [x13]), dp + 1) := by rw [htb1]; unfold tbStep; (repeat' split) <;> first | rfl | (exfalso; omega)
            exact ⟨k2 - (i + 1), by omega, i + 1, (al ++ [x13]), dp + 1, A25, c26, (ln + 1), (cells ++ [.int .i64 x13.k, .int .i64 x13.a, .int .i64 x13.v]), rfl, by omega, htb2, by simp; omega, by omega, by omega, Cat.append hcat ⟨shV x13, _, rfl, rfl, rfl⟩, ha.covers ⟨rfl, rfl, rfl, rfl, rfl, rfl, rfl, trivial⟩, (Among.of (Among.take 0 rfl rfl Among.none) _ hs)⟩
          · skip
            refine St.val (v := (.bool false)) (Yields.isnt q23 (Yields.eq rfl rfl)) trivial rfl rfl ?_
            refine St.val (v := (.bool false)) (Yields.assign rfl) trivial rfl rfl ?_
            refine St.nil ?_
            refine St.norm ?_
            refine St.cond_f rfl ?_
            refine St.seq ?_
            refine St.region ?_
            refine St.val (v := (.pointer (some ⟨b22, 0, none⟩))) (Yields.fieldAddr (v := (.pointer (some ⟨b22, 0, none⟩))) rfl (fun _ => by kernel_rfl)) trivial rfl rfl ?_
            refine St.val (v := (.int .i64 x13.k)) (Yields.load rfl (Loads.H1 0 rfl tc3 rfl)) trivial rfl rfl ?_
            by_cases q27 : x13.k = 3
            · skip
              refine St.val (v := (.bool true)) (Yields.is q27 (Yields.eq rfl rfl)) trivial rfl rfl ?_
              refine St.val (v := (.bool true)) (Yields.move rfl) trivial rfl rfl ?_
              refine St.unwanted rfl rfl rfl ?_
              refine St.unwanted rfl rfl rfl ?_
              refine St.unwanted rfl rfl rfl ?_
              refine St.val (v := (.bool true)) (Yields.pick_t rfl rfl) trivial rfl rfl ?_
              refine St.val (v := (.bool true)) (Yields.assign rfl) trivial rfl rfl ?_
              refine St.nil ?_
              refine St.norm ?_
              refine St.cond_t rfl ?_
              refine St.seq ?_
              refine St.seq ?_
              refine St.region ?_
              refine St.val (v := (.int .i64 dp)) (Yields.move rfl) trivial rfl rfl ?_
              by_cases q28 : dp = 0
              · skip
                refine St.val (v := (.bool true)) (Yields.is q28 (Yields.eq rfl rfl)) trivial rfl rfl ?_
                refine St.nil ?_
                refine St.norm ?_
                refine St.cond_t rfl ?_
                refine St.exit ?_
                refine St.thenexit ?_
                refine St.inpass rfl ?_
                refine St.thenexit ?_
                refine St.inexit ?_
                refine St.norm ?_
                refine St.region ?_
                refine St.val (v := (.int .i64 (i : Int))) (Yields.move rfl) trivial rfl rfl ?_
                refine St.val (v := (.int .i64 ((i : Int) + 1))) (Yields.add rfl rfl (by omega) (by omega)) trivial rfl rfl ?_
                refine St.val (v := (.int .i64 ((i : Int) + 1))) (Yields.assign rfl) trivial rfl rfl ?_
                refine St.nil ?_
                refine St.norm ?_
                intro a w ha hs
                have htb2 : tb l (more.take (i + 1)) = (al, dp) := by rw [htb1]; unfold tbStep; (repeat' split) <;> first | rfl | (exfalso; omega)
                exact ⟨k2 - (i + 1), by omega, i + 1, al, dp, Aa, ca, ln, cells, rfl, by omega, htb2, hln, by omega, by omega, hcat, ha.covers ⟨rfl, rfl, rfl, rfl, rfl, rfl, rfl, trivial⟩, (Among.of (Among.take 1 rfl rfl Among.none) _ hs)⟩
              · skip
                refine St.val (v := (.bool false)) (Yields.isnt q28 (Yields.eq rfl rfl)) trivial rfl rfl ?_
                refine St.nil ?_
                refine St.norm ?_
                refine St.cond_f rfl ?_
                refine St.skip ?_
                refine St.norm ?_
                refine St.region ?_
                refine St.val (v := (.int .i64 dp)) (Yields.move rfl) trivial rfl rfl ?_
                refine St.val (v := (.int .i64 (dp - 1))) (Yields.sub rfl rfl (by omega) (by omega)) trivial rfl rfl ?_
                refine St.val (v := (.int .i64 (dp - 1))) (Yields.assign rfl) trivial rfl rfl ?_
                refine St.nil ?_
                refine St.innorm ?_
                refine St.norm ?_
                refine St.region ?_
                refine St.val (v := (.slice Aa ln ca)) (Yields.move rfl) trivial rfl rfl ?_
                refine St.val (v := (.agg #[.int .i64 x13.k, .int .i64 x13.a, .int .i64 x13.v])) (Yields.load rfl (Loads.Hk (vs := [.int .i64 x13.k, .int .i64 x13.a, .int .i64 x13.v]) 0 rfl ta29 rfl rfl)) trivial rfl rfl ?_
                refine St.buildSlice (e := 29) (cells := #[.int .i64 x13.k, .int .i64 x13.a, .int .i64 x13.v]) (vs := #[(0, .agg #[.int .i64 x13.k, .int .i64 x13.a, .int .i64 x13.v])]) (fun _ ha => evp1 ha rfl) (fun _ => by kernel_rfl) rfl trivial ?_
                intro b29
                refine St.append_lit (R := [blk b29 (.cells #[.int .i64 x13.k, .int .i64 x13.a, .int .i64 x13.v] 29 (0, 0)), blk b22 (.cells #[.int .i64 x13.k, .int .i64 x13.a, .int .i64 x13.v] 29 (0, 0))]) ts22 rfl rfl rfl 2 rfl rfl 0 rfl rfl rfl (by omega) rfl rfl trivial ?_
                intro A30 c31
                refine St.pick (R := [row A30 (ln + 1) c31 29 3 (cells ++ [.int .i64 x13.k, .int .i64 x13.a, .int .i64 x13.v]), blk b22 (.cells #[.int .i64 x13.k, .int .i64 x13.a, .int .i64 x13.v] 29 (0, 0))]) 1 rfl rfl ?_
                refine St.drop ?_
                refine St.val (v := (.slice A30 (ln + 1) c31)) (Yields.assign rfl) trivial rfl rfl ?_
                refine St.nil ?_
                refine St.innorm ?_
                refine St.norm ?_
                refine St.region ?_
                refine St.val (v := (.int .i64 (i : Int))) (Yields.move rfl) trivial rfl rfl ?_
                refine St.val (v := (.int .i64 ((i : Int) + 1))) (Yields.add rfl rfl (by omega) (by omega)) trivial rfl rfl ?_
                refine St.val (v := (.int .i64 ((i : Int) + 1))) (Yields.assign rfl) trivial rfl rfl ?_
                refine St.nil ?_
                refine St.norm ?_
                intro a w ha hs
                have htb2 : tb l (more.take (i + 1)) = ((al ++ [x13]), dp - 1) := by rw [htb1]; unfold tbStep; (repeat' split) <;> first | rfl | (exfalso; omega)
                exact ⟨k2 - (i + 1), by omega, i + 1, (al ++ [x13]), dp - 1, A30, c31, (ln + 1), (cells ++ [.int .i64 x13.k, .int .i64 x13.a, .int .i64 x13.v]), rfl, by omega, htb2, by simp; omega, by omega, by omega, Cat.append hcat ⟨shV x13, _, rfl, rfl, rfl⟩, ha.covers ⟨rfl, rfl, rfl, rfl, rfl, rfl, rfl, trivial⟩, (Among.of (Among.take 0 rfl rfl Among.none) _ hs)⟩
            · skip
              refine St.val (v := (.bool false)) (Yields.isnt q27 (Yields.eq rfl rfl)) trivial rfl rfl ?_
              refine St.val (v := (.bool false)) (Yields.move rfl) trivial rfl rfl ?_
              refine St.val (v := (.pointer (some ⟨b22, 0, none⟩))) (Yields.fieldAddr (v := (.pointer (some ⟨b22, 0, none⟩))) rfl (fun _ => by kernel_rfl)) rfl rfl rfl ?_
              refine St.val (v := (.int .i64 x13.k)) (Yields.load rfl (Loads.H1 0 rfl tc3 rfl)) rfl rfl rfl ?_
              by_cases q32 : x13.k = 4
              · skip
                refine St.val (v := (.bool true)) (Yields.is q32 (Yields.eq rfl rfl)) rfl rfl rfl ?_
                refine St.val (v := (.bool true)) (Yields.pick_f rfl rfl) trivial rfl rfl ?_
                refine St.val (v := (.bool true)) (Yields.assign rfl) trivial rfl rfl ?_
                refine St.nil ?_
                refine St.norm ?_
                refine St.cond_t rfl ?_
                refine St.seq ?_
                refine St.seq ?_
                refine St.region ?_
                refine St.val (v := (.int .i64 dp)) (Yields.move rfl) trivial rfl rfl ?_
                by_cases q33 : dp = 0
                · skip
                  refine St.val (v := (.bool true)) (Yields.is q33 (Yields.eq rfl rfl)) trivial rfl rfl ?_
                  refine St.nil ?_
                  refine St.norm ?_
                  refine St.cond_t rfl ?_
                  refine St.exit ?_
                  refine St.thenexit ?_
                  refine St.inpass rfl ?_
                  refine St.thenexit ?_
                  refine St.inexit ?_
                  refine St.norm ?_
                  refine St.region ?_
                  refine St.val (v := (.int .i64 (i : Int))) (Yields.move rfl) trivial rfl rfl ?_
                  refine St.val (v := (.int .i64 ((i : Int) + 1))) (Yields.add rfl rfl (by omega) (by omega)) trivial rfl rfl ?_
                  refine St.val (v := (.int .i64 ((i : Int) + 1))) (Yields.assign rfl) trivial rfl rfl ?_
                  refine St.nil ?_
                  refine St.norm ?_
                  intro a w ha hs
                  have htb2 : tb l (more.take (i + 1)) = (al, dp) := by rw [htb1]; unfold tbStep; (repeat' split) <;> first | rfl | (exfalso; omega)
                  exact ⟨k2 - (i + 1), by omega, i + 1, al, dp, Aa, ca, ln, cells, rfl, by omega, htb2, hln, by omega, by omega, hcat, ha.covers ⟨rfl, rfl, rfl, rfl, rfl, rfl, rfl, trivial⟩, (Among.of (Among.take 1 rfl rfl Among.none) _ hs)⟩
                · skip
                  refine St.val (v := (.bool false)) (Yields.isnt q33 (Yields.eq rfl rfl)) trivial rfl rfl ?_
                  refine St.nil ?_
                  refine St.norm ?_
                  refine St.cond_f rfl ?_
                  refine St.skip ?_
                  refine St.norm ?_
                  refine St.region ?_
                  refine St.val (v := (.int .i64 dp)) (Yields.move rfl) trivial rfl rfl ?_
                  refine St.val (v := (.int .i64 (dp - 1))) (Yields.sub rfl rfl (by omega) (by omega)) trivial rfl rfl ?_
                  refine St.val (v := (.int .i64 (dp - 1))) (Yields.assign rfl) trivial rfl rfl ?_
                  refine St.nil ?_
                  refine St.innorm ?_
                  refine St.norm ?_
                  refine St.region ?_
                  refine St.val (v := (.slice Aa ln ca)) (Yields.move rfl) trivial rfl rfl ?_
                  refine St.val (v := (.agg #[.int .i64 x13.k, .int .i64 x13.a, .int .i64 x13.v])) (Yields.load rfl (Loads.Hk (vs := [.int .i64 x13.k, .int .i64 x13.a, .int .i64 x13.v]) 0 rfl ta29 rfl rfl)) trivial rfl rfl ?_
                  refine St.buildSlice (e := 29) (cells := #[.int .i64 x13.k, .int .i64 x13.a, .int .i64 x13.v]) (vs := #[(0, .agg #[.int .i64 x13.k, .int .i64 x13.a, .int .i64 x13.v])]) (fun _ ha => evp1 ha rfl) (fun _ => by kernel_rfl) rfl trivial ?_
                  intro b34
                  refine St.append_lit (R := [blk b34 (.cells #[.int .i64 x13.k, .int .i64 x13.a, .int .i64 x13.v] 29 (0, 0)), blk b22 (.cells #[.int .i64 x13.k, .int .i64 x13.a, .int .i64 x13.v] 29 (0, 0))]) ts22 rfl rfl rfl 2 rfl rfl 0 rfl rfl rfl (by omega) rfl rfl trivial ?_
                  intro A35 c36
                  refine St.pick (R := [row A35 (ln + 1) c36 29 3 (cells ++ [.int .i64 x13.k, .int .i64 x13.a, .int .i64 x13.v]), blk b22 (.cells #[.int .i64 x13.k, .int .i64 x13.a, .int .i64 x13.v] 29 (0, 0))]) 1 rfl rfl ?_
                  refine St.drop ?_
                  refine St.val (v := (.slice A35 (ln + 1) c36)) (Yields.assign rfl) trivial rfl rfl ?_
                  refine St.nil ?_
                  refine St.innorm ?_
                  refine St.norm ?_
                  refine St.region ?_
                  refine St.val (v := (.int .i64 (i : Int))) (Yields.move rfl) trivial rfl rfl ?_
                  refine St.val (v := (.int .i64 ((i : Int) + 1))) (Yields.add rfl rfl (by omega) (by omega)) trivial rfl rfl ?_
                  refine St.val (v := (.int .i64 ((i : Int) + 1))) (Yields.assign rfl) trivial rfl rfl ?_
                  refine St.nil ?_
                  refine St.norm ?_
                  intro a w ha hs
                  have htb2 : tb l (more.take (i + 1)) = ((al ++ [x13]), dp - 1) := by rw [htb1]; unfold tbStep; (repeat' split) <;> first | rfl | (exfalso; omega)
                  exact ⟨k2 - (i + 1), by omega, i + 1, (al ++ [x13]), dp - 1, A35, c36, (ln + 1), (cells ++ [.int .i64 x13.k, .int .i64 x13.a, .int .i64 x13.v]), rfl, by omega, htb2, by simp; omega, by omega, by omega, Cat.append hcat ⟨shV x13, _, rfl, rfl, rfl⟩, ha.covers ⟨rfl, rfl, rfl, rfl, rfl, rfl, rfl, trivial⟩, (Among.of (Among.take 0 rfl rfl Among.none) _ hs)⟩
              · skip
                refine St.val (v := (.bool false)) (Yields.isnt q32 (Yields.eq rfl rfl)) rfl rfl rfl ?_
                refine St.val (v := (.bool false)) (Yields.pick_f rfl rfl) trivial rfl rfl ?_
                refine St.val (v := (.bool false)) (Yields.assign rfl) trivial rfl rfl ?_
                refine St.nil ?_
                refine St.norm ?_
                refine St.cond_f rfl ?_
                refine St.skip ?_
                refine St.innorm ?_
                refine St.norm ?_
                refine St.region ?_
                refine St.val (v := (.slice Aa ln ca)) (Yields.move rfl) trivial rfl rfl ?_
                refine St.val (v := (.agg #[.int .i64 x13.k, .int .i64 x13.a, .int .i64 x13.v])) (Yields.load rfl (Loads.Hk (vs := [.int .i64 x13.k, .int .i64 x13.a, .int .i64 x13.v]) 0 rfl ta29 rfl rfl)) trivial rfl rfl ?_
                refine St.buildSlice (e := 29) (cells := #[.int .i64 x13.k, .int .i64 x13.a, .int .i64 x13.v]) (vs := #[(0, .agg #[.int .i64 x13.k, .int .i64 x13.a, .int .i64 x13.v])]) (fun _ ha => evp1 ha rfl) (fun _ => by kernel_rfl) rfl trivial ?_
                intro b37
                refine St.append_lit (R := [blk b37 (.cells #[.int .i64 x13.k, .int .i64 x13.a, .int .i64 x13.v] 29 (0, 0)), blk b22 (.cells #[.int .i64 x13.k, .int .i64 x13.a, .int .i64 x13.v] 29 (0, 0))]) ts22 rfl rfl rfl 2 rfl rfl 0 rfl rfl rfl (by omega) rfl rfl trivial ?_
                intro A38 c39
                refine St.pick (R := [row A38 (ln + 1) c39 29 3 (cells ++ [.int .i64 x13.k, .int .i64 x13.a, .int .i64 x13.v]), blk b22 (.cells #[.int .i64 x13.k, .int .i64 x13.a, .int .i64 x13.v] 29 (0, 0))]) 1 rfl rfl ?_
                refine St.drop ?_
                refine St.val (v := (.slice A38 (ln + 1) c39)) (Yields.assign rfl) trivial rfl rfl ?_
                refine St.nil ?_
                refine St.innorm ?_
                refine St.norm ?_
                refine St.region ?_
                refine St.val (v := (.int .i64 (i : Int))) (Yields.move rfl) trivial rfl rfl ?_
                refine St.val (v := (.int .i64 ((i : Int) + 1))) (Yields.add rfl rfl (by omega) (by omega)) trivial rfl rfl ?_
                refine St.val (v := (.int .i64 ((i : Int) + 1))) (Yields.assign rfl) trivial rfl rfl ?_
                refine St.nil ?_
                refine St.norm ?_
                intro a w ha hs
                have htb2 : tb l (more.take (i + 1)) = ((al ++ [x13]), dp) := by rw [htb1]; unfold tbStep; (repeat' split) <;> first | rfl | (exfalso; omega)
                exact ⟨k2 - (i + 1), by omega, i + 1, (al ++ [x13]), dp, A38, c39, (ln + 1), (cells ++ [.int .i64 x13.k, .int .i64 x13.a, .int .i64 x13.v]), rfl, by omega, htb2, by simp; omega, by omega, by omega, Cat.append hcat ⟨shV x13, _, rfl, rfl, rfl⟩, ha.covers ⟨rfl, rfl, rfl, rfl, rfl, rfl, rfl, trivial⟩, (Among.of (Among.take 0 rfl rfl Among.none) _ hs)⟩
        · skip
          rw [List.take_of_length_le (by omega)] at htb
          refine St.seq ?_
          refine St.seq ?_
          refine St.region ?_
          refine St.val (v := (.int .i64 (i : Int))) (Yields.move rfl) trivial rfl rfl ?_
          refine St.val (v := (.slice B k2 c2)) (Yields.move rfl) trivial rfl rfl ?_
          refine St.val (v := (.int .i64 (k2 : Int))) (Yields.lenSlice tu22 rfl) trivial rfl rfl ?_
          refine St.val (v := (.bool false)) (Yields.isnt hi (Yields.lt rfl rfl)) trivial rfl rfl ?_
          refine St.nil ?_
          refine St.norm ?_
          refine St.cond_f rfl ?_
          refine St.exit ?_
          refine St.thenexit ?_
          refine St.thenexit ?_
          refine St.inexit ?_
          refine St.norm ?_
          refine St.seq ?_
          refine St.block ?_
          refine St.loop (fun kk a w => ∃ (j : Nat) (Ab : Option Addr) (cb ln2 : Nat) (cells2 : List Value), kk = dp.toNat - j ∧ j ≤ dp.toNat ∧ ln2 = ln + j ∧ Cat shK F1 cells2 (al ++ List.replicate j (⟨3, 0, 0⟩ : Sh)) ∧ Has Try.f3.ntmps a [(0, .int .i64 n), (2, .slice B k2 c2), (7, .slice A1 k1 c1), (8, .int .i64 rk), (10, .slice Ab ln2 cb), (11, .int .i64 (dp - j))] ∧ Sat ⟨w0, fun b => m0 b ≠ none, F⟩ F1 [row Ab ln2 cb 29 3 cells2] w) dp.toNat ?_ ?_
          · intro a w ha hs
            exact ⟨0, Aa, ca, ln, cells, by omega, by omega, rfl, by simpa using hcat, ha.covers ⟨rfl, rfl, rfl, rfl, rfl, by simp; rfl, trivial⟩, hs⟩
          · rintro kk a w ⟨j, Ab, cb, ln2, cells2, hkk, hjd, hl2, hcat2, ha, hs⟩
            refine St.use (?_ : St _ _ _ _ _ _) ha hs
            clear ha hs a w
            by_cases hj : (dp - j) > 0
            · skip
              refine St.seq ?_
              refine St.seq ?_
              refine St.region ?_
              refine St.val (v := (.int .i64 (dp - j))) (Yields.move rfl) trivial rfl rfl ?_
              refine St.val (v := (.bool true)) (Yields.is hj (Yields.gt rfl rfl)) trivial rfl rfl ?_
              refine St.nil ?_
              refine St.norm ?_
              refine St.cond_t rfl ?_
              refine St.skip ?_
              refine St.norm ?_
              refine St.seq ?_
              refine St.block ?_
              refine St.region ?_
              refine St.val (v := (.slice Ab ln2 cb)) (Yields.move rfl) trivial rfl rfl ?_
              refine St.val (v := (.agg #[.int .i64 3, .int .i64 0, .int .i64 0])) (Yields.build (v := (.agg #[.int .i64 3, .int .i64 0, .int .i64 0])) (vs := #[(0, .int .i64 3)]) (fun _ ha => evp1 ha rfl) (fun _ => by kernel_rfl)) trivial rfl rfl ?_
              refine St.buildSlice (e := 29) (cells := #[.int .i64 3, .int .i64 0, .int .i64 0]) (vs := #[(0, .agg #[.int .i64 3, .int .i64 0, .int .i64 0])]) (fun _ ha => evp1 ha rfl) (fun _ => by kernel_rfl) rfl trivial ?_
              intro b40
              refine St.append_lit (R := [blk b40 (.cells #[.int .i64 3, .int .i64 0, .int .i64 0] 29 (0, 0))]) ts22 rfl rfl rfl 1 rfl rfl 0 rfl rfl rfl (by omega) rfl rfl trivial ?_
              intro A41 c42
              refine St.pick (R := [row A41 (ln2 + 1) c42 29 3 (cells2 ++ [.int .i64 3, .int .i64 0, .int .i64 0])]) 1 rfl rfl ?_
              refine St.drop ?_
              refine St.val (v := (.slice A41 (ln2 + 1) c42)) (Yields.assign rfl) trivial rfl rfl ?_
              refine St.nil ?_
              refine St.innorm ?_
              refine St.norm ?_
              refine St.region ?_
              refine St.val (v := (.int .i64 (dp - j))) (Yields.move rfl) trivial rfl rfl ?_
              refine St.val (v := (.int .i64 ((dp - j) - 1))) (Yields.sub rfl rfl (by omega) (by omega)) trivial rfl rfl ?_
              refine St.val (v := (.int .i64 ((dp - j) - 1))) (Yields.assign rfl) trivial rfl rfl ?_
              refine St.nil ?_
              refine St.norm ?_
              intro a w ha hs
              exact ⟨dp.toNat - (j + 1), by omega, j + 1, A41, c42, (ln2 + 1), (cells2 ++ [.int .i64 3, .int .i64 0, .int .i64 0]), rfl, by omega, by omega, by rw [List.replicate_succ', ← List.append_assoc]; exact Cat.append hcat2 ⟨shV (⟨3, 0, 0⟩ : Sh), _, rfl, rfl, rfl⟩, ha.covers ⟨rfl, rfl, rfl, rfl, rfl, by rw [show dp - ((j + 1 : Nat) : Int) = dp - j - 1 by omega]; rfl, trivial⟩, hs⟩
            · skip
              have hjj : j = dp.toNat := by omega
              have hal : al ++ List.replicate j (⟨3, 0, 0⟩ : Sh) = tbAll l more := by rw [hjj]; unfold tbAll; rw [htb]
              rw [hal] at hcat2
              have hll : (tbAll l more).length = ln2 := by rw [← hal, List.length_append, List.length_replicate]; omega
              refine St.seq ?_
              refine St.seq ?_
              refine St.region ?_
              refine St.val (v := (.int .i64 (dp - j))) (Yields.move rfl) trivial rfl rfl ?_
              refine St.val (v := (.bool false)) (Yields.isnt hj (Yields.gt rfl rfl)) trivial rfl rfl ?_
              refine St.nil ?_
              refine St.norm ?_
              refine St.cond_f rfl ?_
              refine St.exit ?_
              refine St.thenexit ?_
              refine St.thenexit ?_
              refine St.inexit ?_
              refine St.norm ?_
              refine St.seq ?_
              refine St.region ?_
              refine St.val (v := (.int .i64 n)) (Yields.move rfl) trivial rfl rfl ?_
              refine St.val (v := (.slice Ab ln2 cb)) (Yields.move rfl) trivial rfl rfl ?_
              refine St.row_new 29 3 ?_
              refine St.append_row (R := [row Ab ln2 cb 29 3 cells2]) ts22 rfl rfl rfl 0 rfl rfl 1 rfl (by decide) (by omega) rfl hcat2.one rfl trivial ?_
              intro A43 c44
              refine St.val (v := (.agg #[.int .i64 2, .int .i64 0, .int .i64 0])) (Yields.build (v := (.agg #[.int .i64 2, .int .i64 0, .int .i64 0])) (vs := #[(0, .int .i64 2)]) (fun _ ha => evp1 ha rfl) (fun _ => by kernel_rfl)) trivial rfl rfl ?_
              refine St.buildSlice (e := 29) (cells := #[.int .i64 2, .int .i64 0, .int .i64 0]) (vs := #[(0, .agg #[.int .i64 2, .int .i64 0, .int .i64 0])]) (fun _ ha => evp1 ha rfl) (fun _ => by kernel_rfl) rfl trivial ?_
              intro b45
              refine St.append_lit (R := [blk b45 (.cells #[.int .i64 2, .int .i64 0, .int .i64 0] 29 (0, 0)), row Ab ln2 cb 29 3 cells2]) ts22 rfl rfl rfl 1 rfl rfl 0 rfl rfl rfl (by omega) rfl rfl trivial ?_
              intro A46 c47
              refine St.pick (R := [row A46 ((0 + ln2) + 1) c47 29 3 (([] ++ cells2) ++ [.int .i64 2, .int .i64 0, .int .i64 0]), row Ab ln2 cb 29 3 cells2]) 1 rfl rfl ?_
              refine St.drop ?_
              refine St.freeze_row (R := [row Ab ln2 cb 29 3 cells2]) (D := shK) (xs := tbAll l more ++ [(⟨2, 0, 0⟩ : Sh)]) 0 rfl rfl rfl (by simp only [List.length_append, List.length_replicate, List.length_cons, List.length_nil]; omega) (Cat.append (Cat.append (xs := []) rfl hcat2) ⟨shV (⟨2, 0, 0⟩ : Sh), _, rfl, rfl, rfl⟩) ?_
              intro F48 hle49 hA2
              replace hS := Slc.mono hle49 hS
              replace hT := Slc.mono hle49 hT
              replace hR1 := Slc.mono hle49 hR1
              replace hcat2 := Cat.mono hle49 hcat2
              obtain ⟨rb, rbk, rbe, hr2⟩ : ∃ r m e, playR n (tbAll l more ++ [(⟨2, 0, 0⟩ : Sh)]) = (r, m, e) := ⟨_, _, _, rfl⟩
              refine St.call [row Ab ln2 cb 29 3 cells2] (Play_eq hr2 hA2 (by omega)) rfl (fun _ ha => ev2 ha rfl rfl) rfl en5 rfl rfl trivial ?_
              rintro _ Fb _ ⟨A2, k2_, c2, rfl, hR2, rfl, hk2⟩ hle50
              replace hS := Slc.mono hle50 hS
              replace hT := Slc.mono hle50 hT
              replace hR1 := Slc.mono hle50 hR1
              replace hcat2 := Cat.mono hle50 hcat2
              refine St.val (v := (.tuple #[.slice A2 k2_ c2, .int .i64 (rbk : Int), .int .i64 rbe])) (Yields.move rfl) trivial rfl rfl ?_
              refine St.val (v := (.slice A2 k2_ c2)) (Yields.extract rfl rfl) trivial rfl rfl ?_
              refine St.val (v := (.int .i64 (rbk : Int))) (Yields.extract rfl rfl) trivial rfl rfl ?_
              refine St.val (v := (.int .i64 rbe)) (Yields.extract rfl rfl) trivial rfl rfl ?_
              refine St.val (v := (.slice A2 k2_ c2)) (Yields.assign rfl) trivial rfl rfl ?_
              refine St.val (v := (.int .i64 (rbk : Int))) (Yields.assign rfl) trivial rfl rfl ?_
              refine St.val (v := (.int .i64 rbe)) (Yields.assign rfl) trivial rfl rfl ?_
              refine St.nil ?_
              refine St.norm ?_
              refine St.seq ?_
              refine St.seq ?_
              refine St.region ?_
              refine St.val (v := (.int .i64 rbe)) (Yields.move rfl) trivial rfl rfl ?_
              by_cases q51 : rbe = 1
              · skip
                refine St.val (v := (.bool true)) (Yields.is q51 (Yields.eq rfl rfl)) trivial rfl rfl ?_
                refine St.nil ?_
                refine St.norm ?_
                refine St.cond_t rfl ?_
                refine St.seq ?_
                refine St.region ?_
                refine St.call [row Ab ln2 cb 29 3 cells2] (known_sp) rfl (fun _ _ => ev0) rfl en6 rfl rfl trivial ?_
                rintro _ Fk52 _ ⟨rfl, rfl⟩ hle53
                replace hS := Slc.mono hle53 hS
                replace hT := Slc.mono hle53 hT
                replace hR1 := Slc.mono hle53 hR1
                replace hcat2 := Cat.mono hle53 hcat2
                replace hR2 := Slc.mono hle53 hR2
                refine St.val (v := (.bool true)) (Yields.assign rfl) trivial rfl rfl ?_
                refine St.nil ?_
                refine St.norm ?_
                refine St.ret ?_
                refine St.thenret ?_
                refine St.nilH ?_
                exact St.done1 rfl rfl ⟨rfl, rfl⟩
              · skip
                refine St.val (v := (.bool false)) (Yields.isnt q51 (Yields.eq rfl rfl)) trivial rfl rfl ?_
                refine St.nil ?_
                refine St.norm ?_
                refine St.cond_f rfl ?_
                refine St.skip ?_
                refine St.norm ?_
                refine St.seq ?_
                refine St.region ?_
                have hf1 : rbe ≠ 1 := q51
                refine St.val (v := (.int .i64 n)) (Yields.move rfl) trivial rfl rfl ?_
                refine St.val (v := (.slice Ab ln2 cb)) (Yields.move rfl) trivial rfl rfl ?_
                refine St.val (v := (.agg #[.int .i64 4, .int .i64 0, .int .i64 0])) (Yields.build (v := (.agg #[.int .i64 4, .int .i64 0, .int .i64 0])) (vs := #[(0, .int .i64 4)]) (fun _ ha => evp1 ha rfl) (fun _ => by kernel_rfl)) trivial rfl rfl ?_
                refine St.buildSlice (e := 29) (cells := #[.int .i64 4, .int .i64 0, .int .i64 0]) (vs := #[(0, .agg #[.int .i64 4, .int .i64 0, .int .i64 0])]) (fun _ ha => evp1 ha rfl) (fun _ => by kernel_rfl) rfl trivial ?_
                intro b54
                refine St.append_lit (R := [blk b54 (.cells #[.int .i64 4, .int .i64 0, .int .i64 0] 29 (0, 0))]) ts22 rfl rfl rfl 1 rfl rfl 0 rfl rfl rfl (by omega) rfl rfl trivial ?_
                intro A55 c56
                refine St.pick (R := [row A55 (ln2 + 1) c56 29 3 (cells2 ++ [.int .i64 4, .int .i64 0, .int .i64 0])]) 1 rfl rfl ?_
                refine St.drop ?_
                refine St.freeze_row (R := []) (D := shK) (xs := tbAll l more ++ [(⟨4, 0, 0⟩ : Sh)]) 0 rfl rfl rfl (by simp only [List.length_append, List.length_replicate, List.length_cons, List.length_nil]; omega) (Cat.append hcat2 ⟨shV (⟨4, 0, 0⟩ : Sh), _, rfl, rfl, rfl⟩) ?_
                intro F57 hle58 hA3
                replace hS := Slc.mono hle58 hS
                replace hT := Slc.mono hle58 hT
                replace hR1 := Slc.mono hle58 hR1
                replace hcat2 := Cat.mono hle58 hcat2
                replace hR2 := Slc.mono hle58 hR2
                obtain ⟨rd, rdk, rde, hr3⟩ : ∃ r m e, playR n (tbAll l more ++ [(⟨4, 0, 0⟩ : Sh)]) = (r, m, e) := ⟨_, _, _, rfl⟩
                refine St.call [] (Play_eq hr3 hA3 (by omega)) rfl (fun _ ha => ev2 ha rfl rfl) rfl en5 rfl rfl trivial ?_
                rintro _ Fd _ ⟨A3, k3_, c3, rfl, hR3, rfl, hk3⟩ hle59
                replace hS := Slc.mono hle59 hS
                replace hT := Slc.mono hle59 hT
                replace hR1 := Slc.mono hle59 hR1
                replace hcat2 := Cat.mono hle59 hcat2
                replace hR2 := Slc.mono hle59 hR2
                have hback := backs (by rw [hr1, hre0]) (by omega) hr2 hr3 hf1
                obtain ⟨e1, e2, e3, e4, e5, e6⟩ := hback
                refine St.val (v := (.tuple #[.slice A3 k3_ c3, .int .i64 (rdk : Int), .int .i64 rde])) (Yields.move rfl) trivial rfl rfl ?_
                refine St.val (v := (.slice A3 k3_ c3)) (Yields.extract rfl rfl) trivial rfl rfl ?_
                refine St.val (v := (.int .i64 (rdk : Int))) (Yields.extract rfl rfl) trivial rfl rfl ?_
                refine St.val (v := (.int .i64 rde)) (Yields.extract rfl rfl) trivial rfl rfl ?_
                refine St.val (v := (.slice A3 k3_ c3)) (Yields.assign rfl) trivial rfl rfl ?_
                refine St.val (v := (.int .i64 (rdk : Int))) (Yields.assign rfl) trivial rfl rfl ?_
                refine St.val (v := (.int .i64 rde)) (Yields.assign rfl) trivial rfl rfl ?_
                refine St.nil ?_
                refine St.norm ?_
                refine St.seq ?_
                refine St.region ?_
                have hrk := playR_marks hr1
                refine St.val (v := (.int .i64 rbe)) (Yields.move rfl) trivial rfl rfl ?_
                refine St.val (v := (.bool true)) (Yields.is e1 (Yields.eq rfl rfl)) trivial rfl rfl ?_
                refine St.val (v := (.bool true)) (Yields.move rfl) trivial rfl rfl ?_
                refine St.val (v := (.int .i64 rde)) (Yields.move rfl) rfl rfl rfl ?_
                refine St.val (v := (.bool true)) (Yields.is e2 (Yields.eq rfl rfl)) rfl rfl rfl ?_
                refine St.val (v := (.bool true)) (Yields.pick_t rfl rfl) trivial rfl rfl ?_
                refine St.val (v := (.bool true)) (Yields.move rfl) trivial rfl rfl ?_
                refine St.val (v := (.int .i64 (rbk : Int))) (Yields.move rfl) rfl rfl rfl ?_
                refine St.val (v := (.int .i64 (rk : Int))) (Yields.move rfl) rfl rfl rfl ?_
                refine St.val (v := (.int .i64 ((rk : Int) + 1))) (Yields.add rfl rfl (by omega) (by omega)) rfl rfl rfl ?_
                refine St.val (v := (.bool true)) (Yields.is (by omega) (Yields.eq rfl rfl)) rfl rfl rfl ?_
                refine St.val (v := (.bool true)) (Yields.pick_t rfl rfl) trivial rfl rfl ?_
                refine St.val (v := (.bool true)) (Yields.move rfl) trivial rfl rfl ?_
                refine St.val (v := (.int .i64 (rdk : Int))) (Yields.move rfl) rfl rfl rfl ?_
                refine St.val (v := (.int .i64 (rk : Int))) (Yields.move rfl) rfl rfl rfl ?_
                refine St.val (v := (.bool true)) (Yields.is (by omega) (Yields.eq rfl rfl)) rfl rfl rfl ?_
                refine St.val (v := (.bool true)) (Yields.pick_t rfl rfl) trivial rfl rfl ?_
                refine St.val (v := (.bool true)) (Yields.move rfl) trivial rfl rfl ?_
                refine St.val (v := (.slice A1 k1 c1)) (Yields.move rfl) rfl rfl rfl ?_
                refine St.val (v := (.slice A2 k2_ c2)) (Yields.move rfl) rfl rfl rfl ?_
                refine St.call [] (same_t e5 hR1 hR2 (by omega) (by omega)) rfl (fun _ ha => ev2 ha rfl rfl) rfl en7 rfl rfl rfl ?_
                rintro _ _F _ ⟨rfl, rfl, rfl⟩ hle60
                refine St.val (v := (.bool true)) (Yields.pick_t rfl rfl) trivial rfl rfl ?_
                refine St.val (v := (.bool true)) (Yields.move rfl) trivial rfl rfl ?_
                refine St.val (v := (.slice A1 k1 c1)) (Yields.move rfl) rfl rfl rfl ?_
                refine St.val (v := (.slice A3 k3_ c3)) (Yields.move rfl) rfl rfl rfl ?_
                refine St.call [] (same_t e6 hR1 hR3 (by omega) (by omega)) rfl (fun _ ha => ev2 ha rfl rfl) rfl en7 rfl rfl rfl ?_
                rintro _ _F _ ⟨rfl, rfl, rfl⟩ hle61
                refine St.val (v := (.bool true)) (Yields.pick_t rfl rfl) trivial rfl rfl ?_
                refine St.val (v := (.bool true)) (Yields.move rfl) trivial rfl rfl ?_
                refine St.call [] (known_sp) rfl (fun _ _ => ev0) rfl en6 rfl rfl rfl ?_
                rintro _ Fk62 _ ⟨rfl, rfl⟩ hle63
                replace hS := Slc.mono hle63 hS
                replace hT := Slc.mono hle63 hT
                replace hR1 := Slc.mono hle63 hR1
                replace hcat2 := Cat.mono hle63 hcat2
                replace hR2 := Slc.mono hle63 hR2
                replace hR3 := Slc.mono hle63 hR3
                refine St.val (v := (.bool true)) (Yields.pick_t rfl rfl) trivial rfl rfl ?_
                refine St.val (v := (.bool true)) (Yields.assign rfl) trivial rfl rfl ?_
                refine St.nil ?_
                refine St.norm ?_
                refine St.ret ?_
                refine St.nilH ?_
                exact St.done1 rfl rfl ⟨rfl, rfl⟩
  · skip
    refine St.val (v := (.bool true)) (Yields.nisnt q2 (Yields.ne rfl rfl)) trivial rfl rfl ?_
    refine St.val (v := (.bool true)) (Yields.move rfl) trivial rfl rfl ?_
    refine St.unwanted rfl rfl rfl ?_
    refine St.unwanted rfl rfl rfl ?_
    refine St.unwanted rfl rfl rfl ?_
    refine St.unwanted rfl rfl rfl ?_
    refine St.unwanted rfl rfl rfl ?_
    refine St.unwanted rfl rfl rfl ?_
    refine St.unwanted rfl rfl rfl ?_
    refine St.unwanted rfl rfl rfl ?_
    refine St.val (v := (.bool true)) (Yields.pick_t rfl rfl) trivial rfl rfl ?_
    refine St.nil ?_
    refine St.norm ?_
    refine St.cond_t rfl ?_
    refine St.seq ?_
    refine St.region ?_
    refine St.call [] (known_sp) rfl (fun _ _ => ev0) rfl en6 rfl rfl trivial ?_
    rintro _ Fk64 _ ⟨rfl, rfl⟩ hle65
    replace hS := Slc.mono hle65 hS
    replace hT := Slc.mono hle65 hT
    replace hR1 := Slc.mono hle65 hR1
    refine St.val (v := (.bool true)) (Yields.assign rfl) trivial rfl rfl ?_
    refine St.nil ?_
    refine St.norm ?_
    refine St.ret ?_
    refine St.thenret ?_
    refine St.nilH ?_
    exact St.done1 rfl rfl ⟨rfl, rfl⟩

end Go.Proofs.Ytaajfhcjpejmjaa