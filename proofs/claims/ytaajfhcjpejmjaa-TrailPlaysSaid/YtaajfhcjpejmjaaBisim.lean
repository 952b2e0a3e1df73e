/- The plain law: trail and reference answer alike. -/
import Derived.Test.YtaajfhcjpejmjaaRefKept
namespace Go.Proofs.Ytaajfhcjpejmjaa
open Go Go.Sy Go.RowKit Go.Maps
def Rel (n : Nat) : List Int → List (Int × Int) → List Int → List Mk → Prop
  | [], _, _, [] => True
  | m :: rm, tr, cells, k :: ms => (0 ≤ m ∧ m ≤ tr.length) ∧ undo cells (tr.drop m.toNat) = k.bef ∧ k.chg.length = n ∧ (∀ j, j < n → (k.chg.getD j false = true ↔ (j : Int) ∈ (tr.drop m.toNat).map (·.1))) ∧ Rel n rm (tr.take m.toNat) k.bef ms
  | _, _, _, _ => False
theorem Rel.length {n : Nat} : ∀ {rm : List Int} {tr : List (Int × Int)} {cells : List Int} {ms : List Mk}, Rel n rm tr cells ms → rm.length = ms.length
  | [], _, _, [], _ => rfl
  | [], _, _, _ :: _, h => h.elim
  | _ :: _, _, _, [], h => h.elim
  | _ :: _, _, _, _ :: _, h => by simp [Rel.length h.2.2.2.2]
def chg3 (n : Nat) (k : Mk) : List Mk → List Mk
  | [] => []
  | p :: r => ⟨p.bef, orTo p.chg k.chg n⟩ :: r
/-- A trail and the reference's state. -/
structure Sim (n : Nat) (s : TS) (t : RS) : Prop where
  cells : s.cells = t.cells
  rel : Rel n s.marks.reverse s.tr s.cells t.ms
theorem getD_set {l : List Bool} {a j : Nat} {v : Bool} (hj : j < l.length) : (l.set a v).getD j false = if a = j then v else l.getD j false := by
  rw [List.getD_eq_getElem?_getD, List.getElem?_set]
  split
  · rename_i h; subst h; simp [hj]
  · rw [List.getD_eq_getElem?_getD]
theorem orTo_getD {p q : List Bool} (hq : q.length = p.length) : ∀ (i : Nat), i ≤ p.length → ∀ j, j < p.length → (orTo p q i).getD j false = if j < i then (p.getD j false || q.getD j false) else p.getD j false
  | 0, _, j, hj => by simp [orTo]
  | i + 1, hi, j, hj => by
    have ih := orTo_getD hq i (by omega)
    rw [orTo, getD_set (by rw [orTo_length]; exact hj)]
    split
    · rename_i h; subst h
      rw [ih i hj, if_neg (by omega), if_pos (by omega)]
    · rw [ih j hj]
      by_cases h : j < i
      · rw [if_pos h, if_pos (by omega)]
      · rw [if_neg h, if_neg (by omega)]
theorem Sim.start (n : Nat) : Sim n (start n) (rstart n) := ⟨rfl, trivial⟩
theorem set_back (c : List Int) (a : Nat) (v : Int) : (c.set a v).set a (c.getD a 0) = c := by
  rw [List.set_set]
  apply List.ext_getElem?
  intro i
  rw [List.getElem?_set]
  split
  · rename_i hi
    subst hi
    split
    · rename_i hlt
      rw [List.getD_eq_getElem?_getD, List.getElem?_eq_getElem hlt]; rfl
    · rename_i hlt; rw [List.getElem?_eq_none (by omega)]
  · rfl
theorem Sim.step {n : Nat} {s : TS} {t : RS} (h : Sim n s t) {x : Sh} (hx : okSh n x = true) (hne : ¬ (x.k > 1 ∧ s.marks = [])) : Sim n (s.step x) (t.step n x) := by
  obtain ⟨cells, tr, marks⟩ := s
  obtain ⟨tcells, ms⟩ := t
  have hc : cells = tcells := h.cells
  subst hc
  have hr : Rel n marks.reverse tr cells ms := h.rel
  have hk := okSh_cases hx
  by_cases k0 : x.k = 0
  · have ha : 0 ≤ x.a ∧ x.a < n := by omega
    have e1 : TS.step ⟨cells, tr, marks⟩ x = ⟨cells.set x.a.toNat x.v, tr ++ [(x.a, cells.getD x.a.toNat 0)], marks⟩ := by unfold TS.step; rw [if_pos k0]
    have e2 : RS.step n ⟨cells, ms⟩ x = ⟨cells.set x.a.toNat x.v, chg0 x ms⟩ := by unfold RS.step; rw [if_pos k0]
    rw [e1, e2]
    refine ⟨rfl, ?_⟩
    show Rel n marks.reverse _ _ (chg0 x ms)
    generalize marks.reverse = rm at hr ⊢
    cases rm with
    | nil => cases ms with
      | nil => trivial
      | cons k ms => exact hr.elim
    | cons m rm => cases ms with
      | nil => exact hr.elim
      | cons k ms =>
        obtain ⟨⟨h1, h2⟩, h3, h4, h5, h6⟩ := hr
        have hd : (tr ++ [(x.a, cells.getD x.a.toNat 0)]).drop m.toNat = tr.drop m.toNat ++ [(x.a, cells.getD x.a.toNat 0)] := by rw [List.drop_append_of_le_length (by omega)]
        have ht : (tr ++ [(x.a, cells.getD x.a.toNat 0)]).take m.toNat = tr.take m.toNat := by rw [List.take_append_of_le_length (by omega)]
        refine ⟨⟨h1, by simp; omega⟩, ?_, by simpa using h4, ?_, ?_⟩
        · rw [hd, undo_append]
          show undo ((cells.set x.a.toNat x.v).set x.a.toNat (cells.getD x.a.toNat 0)) _ = _
          rw [set_back]; exact h3
        · intro j hj
          rw [hd, getD_set (by omega)]
          simp only [List.map_append, List.mem_append, List.map_cons, List.map_nil, List.mem_singleton]
          rw [← h5 j hj]
          split
          · rename_i h; simp; right; omega
          · rename_i h
            constructor
            · exact .inl
            · rintro (h' | h')
              · exact h'
              · omega
        · rw [ht]; exact h6
  by_cases k1 : x.k = 1
  · have e1 : TS.step ⟨cells, tr, marks⟩ x = ⟨cells, tr, marks ++ [(tr.length : Int)]⟩ := by unfold TS.step; rw [if_neg k0, if_pos k1]
    have e2 : RS.step n ⟨cells, ms⟩ x = ⟨cells, ⟨cells, List.replicate n false⟩ :: ms⟩ := by unfold RS.step; rw [if_neg k0, if_pos k1]
    rw [e1, e2]
    refine ⟨rfl, ?_⟩
    show Rel n (marks ++ [(tr.length : Int)]).reverse _ _ _
    rw [List.reverse_append]
    refine ⟨⟨by omega, Int.le_refl _⟩, by simp [undo], by simp, ?_, ?_⟩
    · intro j hj
      simp [List.getD_eq_getElem?_getD, hj]
    · simpa using hr
  have hmk : marks ≠ [] := fun e => hne ⟨by omega, e⟩
  obtain ⟨m, rm, hrev⟩ : ∃ m rm, marks.reverse = m :: rm := by
    cases hr' : marks.reverse with
    | nil => exact absurd (by simpa using hr') hmk
    | cons m rm => exact ⟨m, rm, rfl⟩
  have hmarks : marks = rm.reverse ++ [m] := by have := congrArg List.reverse hrev; simpa using this
  rw [hrev] at hr
  cases ms with
  | nil => exact hr.elim
  | cons k ms =>
    obtain ⟨⟨h1, h2⟩, h3, h4, h5, h6⟩ := hr
    have hlast : TS.last ⟨cells, tr, marks⟩ = m.toNat := by unfold TS.last; rw [hmarks]; simp
    by_cases k2 : x.k = 2
    · have e1 : TS.step ⟨cells, tr, marks⟩ x = ⟨k.bef, tr.take m.toNat, marks⟩ := by unfold TS.step TS.back; rw [if_neg k0, if_neg k1, if_pos k2, hlast]; simp only [h3]
      have e2 : RS.step n ⟨cells, k :: ms⟩ x = ⟨k.bef, ⟨k.bef, List.replicate n false⟩ :: ms⟩ := by unfold RS.step; rw [if_neg k0, if_neg k1]; simp only; rw [if_pos k2]
      rw [e1, e2]
      refine ⟨rfl, ?_⟩
      show Rel n marks.reverse (tr.take m.toNat) k.bef _
      rw [hrev]
      refine ⟨⟨h1, by simp; omega⟩, by simp [undo], by simp, ?_, by rw [List.take_take, Nat.min_self]; exact h6⟩
      intro j hj
      simp [List.getD_eq_getElem?_getD, hj]
    by_cases k3 : x.k = 3
    · have e1 : TS.step ⟨cells, tr, marks⟩ x = ⟨cells, tr, rm.reverse⟩ := by unfold TS.step TS.drop; rw [if_neg k0, if_neg k1, if_neg k2, if_pos k3]; simp [hmarks]
      have e2 : ∀ ms', RS.step n ⟨cells, k :: ms'⟩ x = ⟨cells, chg3 n k ms'⟩ := by intro ms'; cases ms' <;> (unfold RS.step; rw [if_neg k0, if_neg k1]; simp only; rw [if_neg k2, if_pos k3]; rfl)
      rw [e1, e2]
      refine ⟨rfl, ?_⟩
      show Rel n rm.reverse.reverse tr cells _
      rw [List.reverse_reverse]
      cases rm with
      | nil => cases ms with
        | nil => trivial
        | cons p ms => exact h6.elim
      | cons m2 rm => cases ms with
        | nil => exact h6.elim
        | cons p ms =>
          obtain ⟨⟨g1, g2⟩, g3, g4, g5, g6⟩ := h6
          have g2' : m2 ≤ m := by simp at g2; omega
          have hcat : tr.drop m2.toNat = (tr.take m.toNat).drop m2.toNat ++ tr.drop m.toNat := by
            conv => lhs; rw [← List.take_append_drop m.toNat tr]
            rw [List.drop_append_of_le_length (by simp; omega)]
          refine ⟨⟨g1, by omega⟩, ?_, by rw [orTo_length]; exact g4, ?_, ?_⟩
          · rw [hcat, undo_append, h3]; exact g3
          · intro j hj
            rw [orTo_getD (by omega) n (by omega) j (by omega), if_pos hj, hcat, List.map_append, List.mem_append, ← g5 j hj, ← h5 j hj, Bool.or_eq_true]
          · rw [List.take_take, Nat.min_eq_left (by omega)] at g6; exact g6
    · have k4 : x.k = 4 := by omega
      have e1 : TS.step ⟨cells, tr, marks⟩ x = ⟨k.bef, tr.take m.toNat, rm.reverse⟩ := by unfold TS.step TS.back TS.drop; rw [if_neg k0, if_neg k1, if_neg k2, if_neg k3, hlast]; simp [h3, hmarks]
      have e2 : RS.step n ⟨cells, k :: ms⟩ x = ⟨k.bef, ms⟩ := by unfold RS.step; rw [if_neg k0, if_neg k1]; simp only; rw [if_neg k2, if_neg k3]
      rw [e1, e2]
      refine ⟨rfl, ?_⟩
      show Rel n rm.reverse.reverse (tr.take m.toNat) k.bef ms
      rw [List.reverse_reverse]; exact h6
theorem Sim.none {n : Nat} {s : TS} {t : RS} (h : Sim n s t) : s.marks = [] ↔ t.ms = [] := by
  have := h.rel.length
  rw [List.length_reverse] at this
  constructor
  · intro e; rw [e] at this; exact List.eq_nil_of_length_eq_zero this.symm
  · intro e; rw [e] at this; exact List.eq_nil_of_length_eq_zero this
theorem Sim.plays {n : Nat} : ∀ (l : List Sh) {s : TS} {t : RS}, Sim n s t → (∀ x ∈ l, okSh n x = true) → (plays l s = Option.none ∧ rplays n l t = Option.none) ∨ ∃ s' t', plays l s = some s' ∧ rplays n l t = some t' ∧ Sim n s' t'
  | [], s, t, h, _ => .inr ⟨s, t, rfl, rfl, h⟩
  | x :: l, s, t, h, hok => by
    simp only [Go.Proofs.Ytaajfhcjpejmjaa.plays, rplays]
    by_cases hn : x.k > 1 ∧ s.marks = []
    · rw [if_pos hn, if_pos ⟨hn.1, h.none.1 hn.2⟩]; exact .inl ⟨rfl, rfl⟩
    · rw [if_neg hn, if_neg (fun e => hn ⟨e.1, h.none.2 e.2⟩)]
      exact Sim.plays l (h.step (hok x (by simp)) hn) (fun y hy => hok y (by simp [hy]))
/-! ### how many are kept -/
def addI (acc : List Int) (x : Int) : List Int := if x ∈ acc then acc else acc ++ [x]
theorem addKey_addI (l acc : List Int) : (l.map (Lit.int .i64)).foldl addKey (acc.map (Lit.int .i64)) = (l.foldl addI acc).map (Lit.int .i64) := by
  induction l generalizing acc with
  | nil => rfl
  | cons x l ih =>
    rw [List.map_cons, List.foldl_cons, List.foldl_cons, ← ih]
    congr 1
    have : ((acc.map (Lit.int .i64)).any fun y => y.sameKey (Lit.int .i64 x)) = decide (x ∈ acc) := by
      induction acc with
      | nil => rfl
      | cons y acc ih2 =>
        rw [List.map_cons, List.any_cons, ih2]
        by_cases hxy : y = x
        · subst hxy; simp [Lit.sameKey]
        · simp [Lit.sameKey, hxy, Ne.symm hxy]
    unfold addKey addI
    rw [this]
    by_cases hx : x ∈ acc
    · simp [hx]
    · simp [hx]
theorem addI_all (l : List Int) : ∀ acc : List Int, acc.Nodup → (l.foldl addI acc).Nodup ∧ ∀ y, y ∈ l.foldl addI acc ↔ y ∈ acc ∨ y ∈ l := by
  induction l with
  | nil => intro acc h; exact ⟨h, fun y => by simp⟩
  | cons x l ih =>
    intro acc h
    have h2 : (addI acc x).Nodup := by
      unfold addI
      split
      · exact h
      · rename_i hx
        exact List.nodup_append.2 ⟨h, by simp, fun a ha b hb => by simp at hb; subst hb; exact fun e => hx (e ▸ ha)⟩
    have h3 : ∀ y, y ∈ addI acc x ↔ y ∈ acc ∨ y = x := by
      intro y; unfold addI
      split
      · rename_i hx; constructor
        · exact .inl
        · rintro (h | rfl)
          · exact h
          · exact hx
      · simp
    obtain ⟨g1, g2⟩ := ih _ h2
    refine ⟨g1, fun y => ?_⟩
    rw [List.foldl_cons, g2, h3]; simp [or_assoc]
theorem cntTo_filter (l : List Bool) : ∀ n, cntTo l n = ((List.range n).filter fun j => l.getD j false).length
  | 0 => rfl
  | n + 1 => by
    rw [cntTo, cntTo_filter l n, List.range_succ, List.filter_append, List.length_append]
    congr 1
    rw [List.filter_cons, List.filter_nil]
    cases l.getD n false <;> rfl
theorem card_cnt {n : Nat} {c : List Bool} {l : List Int} (hl : ∀ x ∈ l, 0 ≤ x ∧ x < n) (h : ∀ j, j < n → (c.getD j false = true ↔ (j : Int) ∈ l)) : card l = cntTo c n := by
  rw [card_eq, cntTo_filter]
  have e := addKey_addI l []
  rw [List.map_nil] at e
  rw [e, List.length_map]
  obtain ⟨g1, g2⟩ := addI_all l [] List.nodup_nil
  have hp : (l.foldl addI []).Perm (((List.range n).filter fun j => c.getD j false).map (fun j : Nat => (j : Int))) := by
    refine (List.perm_ext_iff_of_nodup g1 ?_).2 fun x => ?_
    · refine List.pairwise_map.2 (List.Pairwise.imp (fun {a b} h e => h (by omega)) ((List.nodup_range).filter _))
    · rw [g2, List.mem_map]
      constructor
      · rintro (h' | h')
        · cases h'
        · have h9 := hl x h'
          exact ⟨x.toNat, by rw [List.mem_filter, List.mem_range]; exact ⟨by omega, (h _ (by omega)).2 (by rw [Int.toNat_of_nonneg h9.1]; exact h')⟩, by omega⟩
      · rintro ⟨j, hj, rfl⟩
        rw [List.mem_filter, List.mem_range] at hj
        exact .inr ((h j hj.1).1 hj.2)
  have := hp.length_eq
  rwa [List.length_map] at this
def Kp : List Int → List (Int × Int) → Nat
  | [], _ => 0
  | m :: rm, tr => Kp rm (tr.take m.toNat) + card ((tr.drop m.toNat).map (·.1))
def Kr (n : Nat) : List Mk → Nat
  | [] => 0
  | k :: ms => Kr n ms + cntTo k.chg n
theorem Rel.kept {n : Nat} : ∀ {rm : List Int} {tr : List (Int × Int)} {cells : List Int} {ms : List Mk}, Rel n rm tr cells ms → (∀ e ∈ tr, 0 ≤ e.1 ∧ e.1 < n) → Kp rm tr = Kr n ms
  | [], _, _, [], _, _ => rfl
  | [], _, _, _ :: _, h, _ => h.elim
  | _ :: _, _, _, [], h, _ => h.elim
  | m :: rm, tr, cells, k :: ms, h, hix => by
    rw [Kp, Kr, Rel.kept h.2.2.2.2 (fun e he => hix e (List.mem_of_mem_take he)), card_cnt (c := k.chg) (fun x hx => ?_) h.2.2.2.1]
    obtain ⟨e, he, rfl⟩ := List.mem_map.1 hx
    exact hix e (List.mem_of_mem_drop he)
theorem rkTo_pre (n : Nat) (a b : List Mk) : ∀ i, i ≤ a.length → rkTo n (a ++ b) i = rkTo n a i
  | 0, _ => rfl
  | i + 1, h => by
    rw [rkTo, rkTo, rkTo_pre n a b i (by omega), List.getD_eq_getElem?_getD, List.getD_eq_getElem?_getD, List.getElem?_append_left (by omega)]
theorem rkTo_Kr (n : Nat) : ∀ ms : List Mk, rkTo n ms.reverse ms.length = Kr n ms
  | [] => rfl
  | k :: ms => by
    rw [List.reverse_cons, List.length_cons, rkTo_snoc (x := k) (by rw [List.getElem?_append_right (by simp)]; simp), rkTo_pre _ _ _ _ (by simp), rkTo_Kr n ms, Kr]
theorem keptTo_Kp {n : Nat} : ∀ {rm : List Int} {tr : List (Int × Int)} {cells : List Int} {ms : List Mk} (c : List Int), Rel n rm tr cells ms → keptTo ⟨c, tr, rm.reverse⟩ rm.length = Kp rm tr
  | [], _, _, _, _, _ => rfl
  | _ :: _, _, _, [], _, h => h.elim
  | m :: rm, tr, cells, k :: ms, c, h => by
    have h1 := h.1
    have hsub := h.2.2.2.2
    have ih := keptTo_Kp c hsub
    have hb : ∀ i, i ≤ rm.length → (bounds ⟨c, tr, (m :: rm).reverse⟩).getD i 0 = (bounds ⟨c, tr.take m.toNat, rm.reverse⟩).getD i 0 := by
      intro i hi
      unfold bounds
      simp only [List.reverse_cons, List.append_assoc, List.length_take]
      rw [List.getD_eq_getElem?_getD, List.getD_eq_getElem?_getD]
      congr 1
      by_cases hi2 : i < rm.length
      · rw [List.getElem?_append_left (by simpa using hi2), List.getElem?_append_left (by simpa using hi2)]
      · obtain rfl : i = rm.length := by omega
        have ha : ∀ z : List Int, (rm.reverse ++ z)[rm.length]? = z[0]? := fun z => by rw [List.getElem?_append_right (by simp)]; simp
        rw [ha, ha]
        simp; omega
    have hle : ∀ i, i ≤ rm.length → (bounds ⟨c, tr.take m.toNat, rm.reverse⟩).getD i 0 ≤ m := by
      intro i hi
      have key : ∀ (rm : List Int) (tr : List (Int × Int)) (cells : List Int) (ms : List Mk) (q : Int), (tr.length : Int) ≤ q → Rel n rm tr cells ms → ∀ x ∈ rm, x ≤ q := by
        intro rm
        induction rm with
        | nil => intro _ _ _ _ _ _ x hx; cases hx
        | cons y rm ih =>
          intro tr cells ms q hq hr x hx
          cases ms with
          | nil => exact hr.elim
          | cons k ms =>
            rcases List.mem_cons.1 hx with rfl | hx
            · have := hr.1; omega
            · refine ih _ _ _ q ?_ hr.2.2.2.2 x hx
              simp; omega
      have hk := key rm (tr.take m.toNat) _ _ m (by simp; omega) hsub
      unfold bounds
      rw [List.getD_eq_getElem?_getD]
      simp only
      by_cases hi2 : i < rm.length
      · rw [List.getElem?_append_left (by simpa using hi2), List.getElem?_eq_getElem (by simpa using hi2)]
        exact hk _ (List.mem_reverse.1 (List.getElem_mem (l := rm.reverse) (n := i) (by simpa using hi2)))
      · obtain rfl : i = rm.length := by omega
        rw [List.getElem?_append_right (by simp)]
        simp; omega
    have hpre : ∀ i, i ≤ rm.length → keptTo ⟨c, tr, (m :: rm).reverse⟩ i = keptTo ⟨c, tr.take m.toNat, rm.reverse⟩ i := by
      intro i
      induction i with
      | zero => intro _; rfl
      | succ i ih2 =>
        intro hi
        rw [keptTo, keptTo, ih2 (by omega)]
        congr 2
        unfold seg
        rw [hb i (by omega), hb (i + 1) hi]
        simp only
        rw [List.take_take, Nat.min_eq_left (by have := hle (i + 1) hi; omega)]
    rw [List.length_cons, keptTo, hpre _ (Nat.le_refl _), ih, Kp]
    congr 2
    unfold seg
    rw [hb _ (Nat.le_refl _)]
    have e1 : (bounds ⟨c, tr, (m :: rm).reverse⟩).getD (rm.length + 1) 0 = (tr.length : Int) := by
      unfold bounds; rw [List.getD_eq_getElem?_getD, List.getElem?_append_right (by simp)]; simp
    have e2 : (bounds ⟨c, tr.take m.toNat, rm.reverse⟩).getD rm.length 0 = m := by
      unfold bounds; rw [List.getD_eq_getElem?_getD, List.getElem?_append_right (by simp)]; simp; omega
    rw [e1, e2]
    simp
theorem plays_wf {n : Nat} : ∀ (l : List Sh) (s : TS), (∀ x ∈ l, okSh n x = true) → WF n s → ∀ s', plays l s = some s' → WF n s'
  | [], s, _, hw, s', h => by cases h; exact hw
  | x :: l, s, hx, hw, s', h => by
    simp only [plays] at h
    split at h
    · cases h
    · exact plays_wf l _ (fun y hy => hx y (by simp [hy])) (hw.step (hx x (by simp))) s' h
/-- THE LAW. -/
theorem alike (n : Int) (l : List Sh) : playR n l = rplayR n l ∧ keptR n l = rkeptR n l := by
  unfold playR rplayR keptR rkeptR
  by_cases he : shErr n l = 0
  · rw [if_neg (by omega), if_neg (by omega), if_neg (by omega), if_neg (by omega)]
    obtain ⟨hn1, hn2, _, hok⟩ := shErr_zero he
    obtain ⟨n', rfl⟩ : ∃ n' : Nat, n = n' := ⟨n.toNat, by omega⟩
    rw [Int.toNat_natCast]
    rcases Sim.plays l (Sim.start n') hok with ⟨h1, h2⟩ | ⟨s, t, h1, h2, hs⟩
    · rw [h1, h2]; exact ⟨rfl, rfl⟩
    · rw [h1, h2]
      have hlen := hs.rel.length
      rw [List.length_reverse] at hlen
      have hwf := plays_wf l _ hok (start_wf n') s h1
      refine ⟨by simp only [hs.cells, hlen], ?_⟩
      simp only
      rw [rkTo_Kr, ← hs.rel.kept hwf.ix]
      have := keptTo_Kp s.cells hs.rel
      rw [List.reverse_reverse, List.length_reverse] at this
      rw [← this]
  · rw [if_pos he, if_pos he, if_pos he, if_pos he]; exact ⟨rfl, rfl⟩
end Go.Proofs.Ytaajfhcjpejmjaa
