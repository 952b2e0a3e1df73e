/- The law of search trees in plain words: it is told true, whatever the tree. -/
import Derived.Test.YtjjmdiddgcllkaaPsH
namespace Go.Proofs.Ytjjmdiddgcllkaa
open Go Go.Mir
set_option linter.unusedVariables false
def badR (how most : Int) : Prop := ¬ (isHowB how ∧ 1 ≤ most ∧ most ≤ 400)
theorem r_bad (how most : Int) : (if how < 0 then some true else if how > 4 then some true else if most < 1 then some true else some (decide (most > 400))) = some (decide (¬ (isHowB how ∧ 1 ≤ most ∧ most ≤ 400))) := by
  unfold isHowB
  by_cases h1 : how < 0
  · rw [if_pos h1, decide_eq_true (by omega)]
  · rw [if_neg h1]
    by_cases h2 : how > 4
    · rw [if_pos h2, decide_eq_true (by omega)]
    · rw [if_neg h2]
      by_cases h3 : most < 1
      · rw [if_pos h3, decide_eq_true (by omega)]
      · rw [if_neg h3]
        congr 1
        exact decide_eq_decide.2 (by omega)
theorem r_Leaves_err {t : DSTree} {g : Nat} (hg : hgt t ≤ g) (how most : Int) (h : errT t ≠ 0) : m_ref13_Leaves g t how most = some ([], false, errT t) := by
  unfold m_ref13_Leaves
  rw [(m_valid hg).2, Option.bind_some, if_neg h]
theorem r_Leaves_arg {t : DSTree} {g : Nat} (hg : hgt t ≤ g) {how most : Int} (h : errT t = 0) (hb : ¬ (isHowB how ∧ 1 ≤ most ∧ most ≤ 400)) : m_ref13_Leaves g t how most = some ([], false, 1) := by
  unfold m_ref13_Leaves
  rw [(m_valid hg).2, Option.bind_some, if_pos h, r_bad, Option.bind_some, decide_eq_true hb, if_pos rfl]
/-- The answers taken one by one, as long as there is room. -/
def cutR (most : Int) : List Int → List Int → List Int ⊕ (List Int × Bool × Int)
  | a, [] => .inl a
  | a, x :: r => if (a.length : Int) = most then .inr (a, true, 0) else cutR most (a ++ [x]) r
theorem cutR_res (most : Int) : ∀ (r a : List Int), (a.length : Int) ≤ most → jx (some (cutR most a r)) (fun z24 => some (z24, false, (0 : Int))) = some (resL (a ++ r) most)
  | [], a, h => by
    rw [cutR, jx_inl, List.append_nil, resL, if_neg (by omega)]
  | x :: r, a, h => by
    rw [cutR]
    by_cases e : (a.length : Int) = most
    · rw [if_pos e, jx_inr, resL, if_pos (by simp; omega), show most.toNat = a.length by omega, List.take_left]
    · rw [if_neg e, cutR_res most r (a ++ [x]) (by simp; omega), List.append_assoc]; rfl
theorem flat_len {α β : Type} {f : α → List β} (h : ∀ x, (f x).length ≤ 1) : ∀ l : List α, (l.flatMap f).length ≤ l.length
  | [] => Nat.le_refl _
  | x :: l => by have := flat_len h l; have := h x; rw [List.flatMap_cons, List.length_append, List.length_cons]; omega
theorem vP_len (e : PT) : (vP e).length ≤ 1 := by unfold vP; split <;> simp
theorem vL_len (e : PT) : (vL e).length ≤ 1 := by unfold vL; split <;> simp
theorem Taken.len {how : Int} {t : DSTree} {l : List PT} (h : Taken how t l) : l.length = cnt t := by rw [h.all.length_eq, nd_len]
theorem vP_eq (l : List PT) : l.flatMap vP = (l.filter fun e => decide (e.2.Kids.length = 0)).map (·.1) := by
  induction l with
  | nil => rfl
  | cons e l ih =>
    rw [List.flatMap_cons, ih, List.filter_cons]
    by_cases h : e.2.Kids.length = 0
    · rw [vP_one h, decide_eq_true h, if_pos rfl]; rfl
    · rw [vP_none h, decide_eq_false h, if_neg (by decide)]; rfl
theorem vL_eq (l : List PT) : l.flatMap vL = (l.filter fun e => decide (e.2.Kids.length = 0)).flatMap fun e => if 0 ≤ e.2.N then [e.2.N] else [] := by
  induction l with
  | nil => rfl
  | cons e l ih =>
    rw [List.flatMap_cons, ih, List.filter_cons]
    unfold vL
    by_cases h : e.2.Kids.length = 0
    · rw [decide_eq_true h, if_pos rfl, List.flatMap_cons]
      by_cases h2 : 0 ≤ e.2.N
      · rw [if_pos ⟨h, h2⟩, if_pos h2]
      · rw [if_neg (fun q => h2 q.2), if_neg h2]
    · rw [decide_eq_false h, if_neg (show ¬ (e.2.Kids.length = 0 ∧ 0 ≤ e.2.N) from fun q => h q.1), if_neg (show ¬ (false = true) by decide)]; rfl
theorem r_Leaves_ok {t : DSTree} {g : Nat} (hg : hgt t ≤ g) {how most : Int} (h : errT t = 0) (hb : isHowB how ∧ 1 ≤ most ∧ most ≤ 400) : ∃ l, Taken how t l ∧ m_ref13_Leaves g t how most = some (resL (l.flatMap vL) most) := by
  obtain ⟨e1, e2, _⟩ := errT_ok h
  obtain ⟨l, h1, h2⟩ := m_places g (how := how) e1 e2
  refine ⟨l, h1, ?_⟩
  unfold m_ref13_Leaves
  rw [(m_valid hg).2, Option.bind_some, if_pos h, r_bad, Option.bind_some, decide_eq_false (Classical.not_not.2 hb), if_neg (by decide), h2, Option.bind_some]
  have hat := h1.at
  have hlen := h1.len
  rw [vP_eq, vL_eq]
  generalize hf : l.filter (fun e => decide (e.2.Kids.length = 0)) = m
  have hm : ∀ e ∈ m, atF t e.1 = some e.2 := fun e he => hat e (by rw [← hf] at he; exact (List.mem_filter.1 he).1)
  rw [Loop_list (Q := List Int ⊕ (List Int × Bool × Int)) (fun (a : List Int) i => (a, i)) (m.map (·.1))
    (fun a r q => ∃ r' : List PT, r = r'.map (·.1) ∧ (∀ e ∈ r', atF t e.1 = some e.2) ∧ (a.length : Int) ≤ most ∧ q = cutR most a (r'.flatMap fun e => if 0 ≤ e.2.N then [e.2.N] else [])) (q := cutR most [] (m.flatMap fun e => if 0 ≤ e.2.N then [e.2.N] else [])) ?_ ?_ (a := []) ⟨m, rfl, hm, by simp; omega, rfl⟩]
  · exact cutR_res most _ [] (by simp; omega)
  · rintro a q ⟨r', hr, _, _, rfl⟩
    obtain rfl : r' = [] := by cases r' with | nil => rfl | cons x r => cases hr
    rw [if_neg (by simp)]; rfl
  · rintro a i x r q hx hi _ ⟨r', hr, hr1, ha, rfl⟩
    cases r' with
    | nil => cases hr
    | cons e r' =>
      obtain ⟨rfl, rfl⟩ := List.cons.inj hr
      dsimp only
      rw [if_pos (by omega), hx, Option.bind_some, m_at g (hr1 e List.mem_cons_self), Option.bind_some, List.flatMap_cons]
      by_cases hn : e.2.N < 0
      · right
        rw [if_pos hn, jx_inl, if_neg (show ¬ 0 ≤ e.2.N by omega)]
        exact ⟨a, rfl, r', rfl, fun y hy => hr1 y (List.mem_cons_of_mem _ hy), ha, rfl⟩
      · rw [if_neg hn, if_pos (show 0 ≤ e.2.N by omega)]
        by_cases e3 : (a.length : Int) = most
        · left
          rw [if_pos e3, jx_inr, List.singleton_append, cutR, if_pos e3]
        · right
          rw [if_neg e3, push_small 1000 (by simp; omega) (by decide), Option.bind_some, jx_inl]
          refine ⟨_, rfl, r', rfl, fun y hy => hr1 y (List.mem_cons_of_mem _ hy), by simp; omega, ?_⟩
          rw [List.singleton_append, cutR, if_neg e3]
theorem r_Places_err {t : DSTree} {g : Nat} (hg : hgt t ≤ g) (how : Int) (h : errT t ≠ 0) : m_ref13_Places g t how = some ([], errT t) := by
  unfold m_ref13_Places
  rw [(m_valid hg).2, Option.bind_some, if_neg h]
theorem r_bad2 (how : Int) : (if how < 0 then some true else some (decide (how > 4))) = some (decide (¬ isHowB how)) := by
  unfold isHowB
  by_cases h1 : how < 0
  · rw [if_pos h1, decide_eq_true (by omega)]
  · rw [if_neg h1]
    congr 1
    exact decide_eq_decide.2 (by omega)
theorem r_Places_arg {t : DSTree} {g : Nat} (hg : hgt t ≤ g) {how : Int} (h : errT t = 0) (hb : ¬ isHowB how) : m_ref13_Places g t how = some ([], 1) := by
  unfold m_ref13_Places
  rw [(m_valid hg).2, Option.bind_some, if_pos h, r_bad2, Option.bind_some, decide_eq_true hb, if_pos rfl]
theorem r_Places_ok {t : DSTree} {g : Nat} (hg : hgt t ≤ g) {how : Int} (h : errT t = 0) (hb : isHowB how) : ∃ l, Taken how t l ∧ m_ref13_Places g t how = some (l.flatMap vP, 0) := by
  obtain ⟨e1, e2, _⟩ := errT_ok h
  obtain ⟨l, h1, h2⟩ := m_places g (how := how) e1 e2
  refine ⟨l, h1, ?_⟩
  unfold m_ref13_Places
  rw [(m_valid hg).2, Option.bind_some, if_pos h, r_bad2, Option.bind_some, decide_eq_false (Classical.not_not.2 hb), if_neg (by decide), h2, Option.bind_some]
/-- Both give the same. -/
theorem same_Leaves {t : DSTree} {g : Nat} (hg : hgt t ≤ g) (how most : Int) : ∃ r, m_search_Leaves g t how most = some r ∧ m_ref13_Leaves g t how most = some r := by
  by_cases h : errT t = 0
  · by_cases hb : isHowB how ∧ 1 ≤ most ∧ most ≤ 400
    · obtain ⟨l, h1, h2⟩ := m_Leaves_ok hg h hb
      obtain ⟨l', h3, h4⟩ := r_Leaves_ok hg h hb
      rw [h3.one h1] at h4
      exact ⟨_, h2, h4⟩
    · exact ⟨_, m_Leaves_arg hg h hb, r_Leaves_arg hg h hb⟩
  · exact ⟨_, m_Leaves_err hg how most h, r_Leaves_err hg how most h⟩
theorem same_Places {t : DSTree} {g : Nat} (hg : hgt t ≤ g) (how : Int) : ∃ r, m_search_Places g t how = some r ∧ m_ref13_Places g t how = some r := by
  by_cases h : errT t = 0
  · by_cases hb : isHowB how
    · obtain ⟨l, h1, h2⟩ := m_Places_ok hg h hb
      obtain ⟨l', h3, h4⟩ := r_Places_ok hg h hb
      rw [h3.one h1] at h4
      exact ⟨_, h2, h4⟩
    · exact ⟨_, m_Places_arg hg h hb, r_Places_arg hg h hb⟩
  · exact ⟨_, m_Places_err hg how h, r_Places_err hg how h⟩
theorem m_SameInts (g : Nat) (a b : List Int) : m_ref01_SameInts g a b = some (decide (a = b)) := by
  unfold m_ref01_SameInts
  by_cases h : a.length = b.length
  · rw [if_pos (by omega)]
    rw [Loop_rel (fun (i : Nat) (q : Unit ⊕ Bool) => i ≤ a.length ∧ a.take i = b.take i ∧ q = if a = b then .inl () else .inr false) (fun i => a.length - i) (q := if a = b then .inl () else .inr false) ?_ ⟨Nat.zero_le _, rfl, rfl⟩]
    · by_cases e : a = b
      · rw [if_pos e, decide_eq_true e]; rfl
      · rw [if_neg e, decide_eq_false e]; rfl
    · rintro i q ⟨hi, ht, rfl⟩
      by_cases h1 : i < a.length
      · have e1 := List.getElem?_eq_getElem h1
        have e2 := List.getElem?_eq_getElem (show i < b.length by omega)
        rw [if_pos (by omega), e1, e2, Option.bind_some, Option.bind_some]
        by_cases e : a[i] = b[i]
        · right
          refine ⟨i + 1, by rw [if_pos e], ⟨by omega, ?_, rfl⟩, by omega⟩
          rw [List.take_add_one, List.take_add_one, ht, e1, e2, e]
        · left
          rw [if_neg e, if_neg]
          intro hab
          subst hab
          exact e rfl
      · left
        rw [if_neg (by omega), if_pos]
        rwa [List.take_of_length_le (by omega), List.take_of_length_le (by omega)] at ht
  · rw [if_neg (by omega), decide_eq_false]
    intro hab; exact h (by rw [hab])
theorem m_SameRows (g : Nat) (a : List (List Int)) : m_ref01_SameRows g a a = some true := by
  unfold m_ref01_SameRows
  rw [if_pos rfl]
  rw [Loop_rel (fun (i : Nat) (q : Unit ⊕ Bool) => i ≤ a.length ∧ q = .inl ()) (fun i => a.length - i) (q := .inl ()) ?_ ⟨Nat.zero_le _, rfl⟩]
  · rfl
  · rintro i q ⟨hi, rfl⟩
    by_cases h1 : i < a.length
    · right
      have e1 := List.getElem?_eq_getElem h1
      rw [if_pos (by omega), e1, Option.bind_some, Option.bind_some, m_SameInts, Option.bind_some, decide_eq_true rfl]
      exact ⟨i + 1, rfl, ⟨by omega, rfl⟩, by omega⟩
    · left
      rw [if_neg (by omega)]
/-- The document's example. -/
def exT : DSTree := ⟨0, [⟨0, [⟨0, []⟩, ⟨1, []⟩]⟩, ⟨2, []⟩]⟩
theorem m_known {g : Nat} (hg : 3 ≤ g) : m_law13_known g = some true := by
  unfold m_law13_known m_law13_leaf
  simp only [Option.bind_some]
  have he : errT exT = 0 := by decide
  obtain ⟨l, h1, h2⟩ := m_Leaves_ok (t := exT) (g := g) (how := 4) (most := 10) (by rw [show hgt exT = 3 by decide]; exact hg) he (by unfold isHowB; omega)
  have hl : FOrd [([], exT)] [([], exT), ([0], ⟨0, [⟨0, []⟩, ⟨1, []⟩]⟩), ([0, 0], ⟨0, []⟩), ([1], ⟨2, []⟩), ([0, 1], ⟨1, []⟩)] := .step (.step (.step (.step (.step .nil))))
  have : l = _ := FOrd.one (by unfold Taken at h1; rwa [if_pos rfl] at h1) hl
  subst this
  rw [show (⟨0, [⟨0, [⟨0, []⟩, ⟨1, []⟩]⟩, ⟨2, []⟩]⟩ : DSTree) = exT from rfl, h2]
  have hr : resL (List.flatMap vL [([], exT), ([0], ⟨0, [⟨0, []⟩, ⟨1, []⟩]⟩), ([0, 0], ⟨0, []⟩), ([1], ⟨2, []⟩), ([0, 1], ⟨1, []⟩)]) 10 = ([0, 2, 1], false, 0) := by decide
  rw [hr]
  simp [m_SameInts]
theorem m_leaves {t : DSTree} {g : Nat} (hg : hgt t ≤ g) (h3 : 3 ≤ g) (how most : Int) : m_law13_leaves g t how most = some true := by
  obtain ⟨r, h1, h2⟩ := same_Leaves hg how most
  obtain ⟨p, h5, h4⟩ := same_Places hg how
  unfold m_law13_leaves
  rw [h1, h2, h5, h4, (m_valid hg).1, (m_valid hg).2, m_known h3]
  simp only [Option.bind_some, if_true, m_SameInts, m_SameRows, decide_true]
  cases r.2.1 <;> simp
theorem m_cnt (g : Nat) {l : List Int} {n : Int} (hl : l.length ≤ 10000) : m_law13_count g l n = some ((l.count n : Nat) : Int) := by
  unfold m_law13_count
  rw [show ((0 : Int), (0 : Nat)) = (((0 : Nat) : Int), 0) from rfl, Loop_list (fun (a : Nat) i => ((a : Int), i)) l (fun a r q => a + r.length ≤ l.length ∧ q = ((a + r.count n : Nat) : Int)) (q := ((l.count n : Nat) : Int)) ?_ ?_ (a := 0) ⟨by omega, by rw [Nat.zero_add]⟩]
  · rfl
  · rintro a q ⟨_, rfl⟩
    rw [if_neg (by simp)]; rfl
  · rintro a i x r q hx hi _ ⟨ha, rfl⟩
    right
    simp only [List.length_cons] at ha
    dsimp only
    rw [if_pos (by omega), hx, Option.bind_some]
    by_cases e : x = n
    · refine ⟨a + 1, ?_, by omega, ?_⟩
      · rw [if_pos e, Option.bind_some, w64_eq (by omega)]; rfl
      · rw [List.count_cons, if_pos (by simpa using e)]; congr 1; omega
    · refine ⟨a, by rw [if_neg e, Option.bind_some], by omega, ?_⟩
      rw [List.count_cons, if_neg (by simpa using e)]; rfl
theorem m_none {t : DSTree} {g : Nat} (hg : hgt t ≤ g) (h3 : 3 ≤ g) : m_law13_none g t = some true := by
  unfold m_law13_none
  rw [(m_valid hg).1, Option.bind_some]
  by_cases h : errT t = 0
  · have hb : ∀ how : Int, 0 ≤ how → how ≤ 4 → isHowB how := fun how h1 h2 => ⟨h1, h2⟩
    have hall : ∀ how : Int, 0 ≤ how → how ≤ 4 → ∃ l, Taken how t l ∧ m_search_Leaves g t how 400 = some (l.flatMap vL, false, 0) ∧ m_search_Places g t how = some (l.flatMap vP, 0) := fun how h1 h2 => by
      obtain ⟨l, k1, k2⟩ := m_Leaves_ok hg h (how := how) (most := 400) ⟨hb how h1 h2, by omega, by omega⟩
      obtain ⟨l', k3, k4⟩ := m_Places_ok hg h (hb how h1 h2)
      rw [k3.one k1] at k4
      refine ⟨l, k1, ?_, k4⟩
      rw [k2, resL, if_neg]
      have := flat_len vL_len l
      rw [k1.len] at this
      have := (errT_ok h).1
      omega
    obtain ⟨l0, a1, a2, a3⟩ := hall 0 (by omega) (by omega)
    rw [if_pos h, a2, a3, Option.bind_some, Option.bind_some]
    have h400 := (errT_ok h).1
    simp only [if_true, Option.bind_some, decide_true, Bool.not_true, if_neg (show ¬ (false = true) by decide)]
    rw [Loop_rel (fun (i : Nat) (q : Unit ⊕ Bool) => i ≤ 5 ∧ q = .inl ()) (fun i => 5 - i) (q := .inl ()) ?_ ⟨by omega, rfl⟩, jx_inl, m_known h3]
    · rfl
    · rintro i q ⟨hi, rfl⟩
      by_cases h5 : i < 5
      · right
        obtain ⟨l, b1, b2, b3⟩ := hall (i : Int) (by omega) (by omega)
        have hperm : l.Perm l0 := b1.all.trans a1.all.symm
        have hpp : (l.flatMap vP).length = (l0.flatMap vP).length := (hperm.flatMap_right vP).length_eq
        have hpl : (l.flatMap vL).Perm (l0.flatMap vL) := hperm.flatMap_right vL
        have hll : (l.flatMap vL).length ≤ 400 := by have := flat_len vL_len l; rw [b1.len] at this; omega
        have hnd : (l.flatMap vP).Nodup := by
          rw [vP_eq]
          have hn : (l.map (·.1)).Nodup := ((b1.all.map (·.1)).nodup_iff).2 (nd_nodup [] t)
          exact hn.sublist (List.Sublist.map _ List.filter_sublist)
        refine ⟨i + 1, ?_, ⟨by omega, rfl⟩, by omega⟩
        rw [if_pos (by omega), b2, b3, Option.bind_some, Option.bind_some]
        simp only [if_true, if_neg (show ¬ (false = true) by decide)]
        rw [if_pos (by omega), decide_eq_true (by have := hpl.length_eq; omega), Option.bind_some]
        simp only [Bool.not_true, if_neg (show ¬ (false = true) by decide)]
        generalize hP : l.flatMap vP = P at *
        generalize hL : l.flatMap vL = L at *
        generalize hL0 : l0.flatMap vL = L0 at *
        rw [Loop_rel (fun (k : Nat) (q : Unit ⊕ (Unit ⊕ (Nat ⊕ (Unit ⊕ Bool)))) => k ≤ P.length ∧ q = .inl ()) (fun k => P.length - k) (q := .inl ()) ?_ ⟨Nat.zero_le _, rfl⟩, jx_inl]
        · rw [Loop_rel (fun (k : Nat) (q : Unit ⊕ (Nat ⊕ (Unit ⊕ Bool))) => k ≤ L0.length ∧ q = .inl ()) (fun k => L0.length - k) (q := .inl ()) ?_ ⟨Nat.zero_le _, rfl⟩, jx_inl]
          rintro k q ⟨hk, rfl⟩
          by_cases h1 : k < L0.length
          · right
            have e1 := List.getElem?_eq_getElem h1
            have := hpl.length_eq
            rw [if_pos (by omega), e1, Option.bind_some, Option.bind_some, m_cnt g (by omega), Option.bind_some, m_cnt g (by omega), Option.bind_some, hpl.count_eq, if_pos rfl]
            exact ⟨k + 1, rfl, ⟨by omega, rfl⟩, by omega⟩
          · left
            rw [if_neg (by omega)]
        · rintro k q ⟨hk, rfl⟩
          by_cases h1 : k < P.length
          · right
            rw [if_pos (by omega)]
            rw [Loop_rel (fun (j : Nat) (q : Unit ⊕ (Nat ⊕ (Unit ⊕ (Unit ⊕ (Nat ⊕ (Unit ⊕ Bool)))))) => j ≤ k ∧ q = .inl ()) (fun j => k - j) (q := .inl ()) ?_ ⟨Nat.zero_le _, rfl⟩, jx_inl]
            · exact ⟨k + 1, rfl, ⟨by omega, rfl⟩, by omega⟩
            · rintro j q ⟨hj, rfl⟩
              by_cases h2 : j < k
              · right
                have hne : P[k] ≠ P[j] := fun he => by
                  have := (List.getElem_inj (h₀ := h1) (h₁ := by omega) hnd).1 he
                  omega
                rw [if_pos (by omega), List.getElem?_eq_getElem h1, List.getElem?_eq_getElem (show j < P.length by omega), Option.bind_some, Option.bind_some, m_SameInts, Option.bind_some, decide_eq_false hne]
                exact ⟨j + 1, rfl, ⟨by omega, rfl⟩, by omega⟩
              · left
                rw [if_neg (by omega)]
          · left
            rw [if_neg (by omega)]
      · left
        rw [if_neg (by omega)]
  · rw [if_neg h, m_known h3]; rfl
theorem m_law {t : DSTree} (how most : Int) : ∃ g, m_law13_SearchLeaves g t how most = some true := by
  refine ⟨hgt t + 3, ?_⟩
  unfold m_law13_SearchLeaves
  rw [m_leaves (by omega) (by omega), m_none (by omega) (by omega)]
  rfl
end Go.Proofs.Ytjjmdiddgcllkaa
