/- The heap of places in plain words: what is pushed is there, and what is popped is a least one. -/
import Derived.Test.YtjjmdiddgcllkaaPsB
namespace Go.Proofs.Ytjjmdiddgcllkaa
open Go Go.Mir
set_option linter.unusedVariables false
def lessP (a b : DPlace) : Bool := if a.rank = b.rank then lexL a.l b.l else decide (a.rank < b.rank)
theorem lessP_trans {a b c : DPlace} (h1 : lessP a b = true) (h2 : lessP b c = true) : lessP a c = true := by
  unfold lessP at *
  generalize a.rank = x at *
  generalize b.rank = y at *
  generalize c.rank = z at *
  by_cases e1 : x = y
  · subst e1
    rw [if_pos rfl] at h1
    by_cases e2 : x = z
    · rw [if_pos e2] at h2 ⊢; exact lexL_trans h1 h2
    · rwa [if_neg e2] at h2 ⊢
  · rw [if_neg e1] at h1
    have h1 := of_decide_eq_true h1
    by_cases e2 : y = z
    · subst e2; rw [if_neg e1]; exact decide_eq_true h1
    · rw [if_neg e2] at h2
      have h2 := of_decide_eq_true h2
      rw [if_neg (by omega)]
      exact decide_eq_true (by omega)
theorem lessP_irr (a : DPlace) : lessP a a = false := by rw [lessP, if_pos rfl, lexL_irr]
/-- No one of them is ahead of the other one, or just the first one. -/
def leP (a b : DPlace) : Prop := lessP b a = false
theorem leP_refl (a : DPlace) : leP a a := lessP_irr a
theorem leP_of {a b : DPlace} (h : lessP a b = true) : leP a b := by
  cases h' : lessP b a
  · exact h'
  · have := lessP_trans h h'
    rw [lessP_irr] at this; cases this
theorem leP_trans {a b c : DPlace} (h1 : leP a b) (h2 : leP b c) : leP a c := by
  unfold leP at *
  cases h : lessP c a
  · rfl
  · -- c < a, not b < a, not c < b
    unfold lessP at *
    generalize a.rank = x at *
    generalize b.rank = y at *
    generalize c.rank = z at *
    by_cases e : z = x
    · subst e
      rw [if_pos rfl] at h
      by_cases e1 : y = z
      · subst e1
        rw [if_pos rfl] at h1 h2
        by_cases e3 : b.l = c.l
        · rw [e3, h] at h1; cases h1
        · rcases lexL_total e3 with h9 | h9
          · have := lexL_trans h9 h
            rw [h1] at this; cases this
          · rw [h9] at h2; cases h2
      · rw [if_neg e1] at h1
        rw [if_neg (Ne.symm e1)] at h2
        have h1 := of_decide_eq_false h1
        have h2 := of_decide_eq_false h2
        omega
    · rw [if_neg e] at h
      have h := of_decide_eq_true h
      by_cases e1 : y = x
      · subst e1
        rw [if_neg e] at h2
        have h2 := of_decide_eq_false h2
        omega
      · rw [if_neg e1] at h1
        have h1 := of_decide_eq_false h1
        by_cases e2 : z = y
        · omega
        · rw [if_neg e2] at h2
          have h2 := of_decide_eq_false h2
          omega
def atP (q : List DPlace) (i : Nat) : DPlace := q.getD i ⟨[], 0, ⟨0, []⟩⟩
theorem atP_get {q : List DPlace} {i : Nat} (h : i < q.length) : q[i]? = some (atP q i) := by
  rw [atP, List.getD_eq_getElem?_getD, List.getElem?_eq_getElem h]; rfl
theorem atP_idx {q : List DPlace} {i : Nat} (h : i < q.length) : idx q (i : Int) = some (atP q i) := by rw [idx_nat, atP_get h]
theorem atP_set {q : List DPlace} {i k : Nat} {x : DPlace} (h : i < q.length) : atP (q.set i x) k = if k = i then x else atP q k := by
  simp only [atP, List.getD_eq_getElem?_getD, List.getElem?_set]
  by_cases e : k = i
  · subst e; rw [if_pos rfl, if_pos rfl, if_pos h]; rfl
  · rw [if_neg (Ne.symm e), if_neg e]
def swP (q : List DPlace) (i j : Nat) : List DPlace := (q.set i (atP q j)).set j (atP q i)
theorem swP_len (q : List DPlace) (i j : Nat) : (swP q i j).length = q.length := by simp [swP]
theorem swP_at {q : List DPlace} {i j k : Nat} (hi : i < q.length) (hj : j < q.length) : atP (swP q i j) k = if k = j then atP q i else if k = i then atP q j else atP q k := by
  rw [swP, atP_set (by simpa using hj), atP_set hi]
theorem swP_perm {q : List DPlace} {i j : Nat} (hi : i < q.length) (hj : j < q.length) : (swP q i j).Perm q := by
  have e1 : atP q i = q[i] := by have := atP_get hi; rw [List.getElem?_eq_getElem hi] at this; exact (Option.some.inj this).symm
  have e2 : atP q j = q[j] := by have := atP_get hj; rw [List.getElem?_eq_getElem hj] at this; exact (Option.some.inj this).symm
  rw [swP, e1, e2]
  exact List.set_set_perm hi hj
theorem m_Less (g : Nat) {i j : Nat} {q : List DPlace} {f : Nat} (hi : i < q.length) (hj : j < q.length) : m_api_STree_Less g i j q f = some (lessP (atP q i) (atP q j)) := by
  unfold m_api_STree_Less lessP
  simp only [atP_idx hi, atP_idx hj, Option.bind_some, m_before]
  by_cases e : (atP q i).rank = (atP q j).rank
  · rw [if_pos e, if_pos e]
  · rw [if_neg e, if_neg e]
theorem m_Swap (g : Nat) {i j : Nat} {q : List DPlace} {f : Nat} (hi : i < q.length) (hj : j < q.length) : m_api_STree_Swap g i j q f = some (swP q i j) := by
  unfold m_api_STree_Swap
  simp only [atP_idx hi, atP_idx hj, Option.bind_some, upd_ok hi]
  rw [atP_idx (by simpa using hj), Option.bind_some, upd_ok (by simpa using hj), Option.bind_some]
  rfl
/-- The heap's order among the first n. -/
def heapP (q : List DPlace) (n : Nat) : Prop := ∀ i, 0 < i → i < n → leP (atP q ((i - 1) / 2)) (atP q i)
def upI (q : List DPlace) (n j : Nat) : Prop :=
  (∀ i, 0 < i → i < n → i ≠ j → leP (atP q ((i - 1) / 2)) (atP q i)) ∧ ∀ i, 0 < i → i < n → (i - 1) / 2 = j → 0 < j → leP (atP q ((j - 1) / 2)) (atP q i)
def dnI (q : List DPlace) (n j : Nat) : Prop :=
  (∀ i, 0 < i → i < n → (i - 1) / 2 ≠ j → leP (atP q ((i - 1) / 2)) (atP q i)) ∧ ∀ i, 0 < i → i < n → (i - 1) / 2 = j → 0 < j → leP (atP q ((j - 1) / 2)) (atP q i)
theorem par_int {j : Nat} (h : 0 < j) (hb : j < 9223372036854775807) : quo (w64 ((j : Int) - 1)) 2 = some (((j - 1) / 2 : Nat) : Int) := by
  rw [w64_eq (by omega), quo, if_neg (by decide)]
  have : ((j : Int) - 1).tdiv 2 = (((j - 1) / 2 : Nat) : Int) := by
    rw [show ((j : Int) - 1) = ((j - 1 : Nat) : Int) by omega]
    rfl
  rw [this, w64_eq (by omega)]
theorem m_up (g : Nat) {q : List DPlace} {f : Nat} {j : Nat} (hj : j < q.length) (hb : q.length < 1000000) (hI : upI q q.length j) :
    ∃ q', m_heap_up g j q f = some q' ∧ q'.Perm q ∧ heapP q' q.length := by
  unfold m_heap_up
  refine Loop_ex (fun (s : List DPlace × Int) => ∃ i : Nat, s.2 = i ∧ i < q.length ∧ s.1.Perm q ∧ upI s.1 q.length i) (fun q' => q'.Perm q ∧ heapP q' q.length) (fun s => s.2.toNat) ?_ (s := (q, (j : Int))) ⟨j, rfl, hj, List.Perm.refl _, hI⟩
  rintro ⟨l, _⟩ ⟨i, rfl, hi, hp, h1, h2⟩
  dsimp only at hp h1 h2 ⊢
  have hl := hp.length_eq
  by_cases h0 : i = 0
  · subst h0
    left
    refine ⟨l, by rw [show w64 (((0 : Nat) : Int) - 1) = -1 from rfl, show quo (-1) 2 = some 0 from rfl]; rfl, hp, fun k hk hkn => h1 k hk hkn (by omega)⟩
  · have h0 : 0 < i := by omega
    rw [par_int h0 (by omega), Option.bind_some, if_neg (by omega), m_Less g (by omega) (by omega), Option.bind_some, Option.bind_some]
    cases hless : lessP (atP l i) (atP l ((i - 1) / 2))
    · left
      refine ⟨l, rfl, hp, fun k hk hkn => ?_⟩
      by_cases e : k = i
      · subst e; exact hless
      · exact h1 k hk hkn e
    · right
      have hpi : (i - 1) / 2 < l.length := by omega
      have hil : i < l.length := by omega
      refine ⟨(swP l ((i - 1) / 2) i, (((i - 1) / 2 : Nat) : Int)), by rw [m_Swap g hpi hil]; rfl, ⟨(i - 1) / 2, rfl, by omega, (swP_perm hpi hil).trans hp, ?_, ?_⟩, by simp; omega⟩
      · intro k hk hkn hne
        rw [swP_at hpi hil, swP_at hpi hil]
        by_cases e : k = i
        · subst e
          rw [if_pos rfl, if_neg (by omega), if_pos rfl]
          exact leP_of hless
        · rw [if_neg e, if_neg hne]
          by_cases e1 : (k - 1) / 2 = i
          · rw [if_pos e1]
            exact h2 k hk hkn e1 h0
          · rw [if_neg e1]
            by_cases e2 : (k - 1) / 2 = (i - 1) / 2
            · rw [if_pos e2]
              have := h1 k hk hkn e
              rw [e2] at this
              exact leP_trans (leP_of hless) this
            · rw [if_neg e2]; exact h1 k hk hkn e
      · intro k hk hkn hpk hp0
        rw [swP_at hpi hil, swP_at hpi hil, if_neg (by omega), if_neg (by omega)]
        have a := h1 ((i - 1) / 2) hp0 (by omega) (by omega)
        by_cases e : k = i
        · rw [if_pos e]; exact a
        · rw [if_neg e, if_neg (by omega)]
          have := h1 k hk hkn e
          rw [hpk] at this
          exact leP_trans a this
theorem m_down (g : Nat) {q : List DPlace} {f : Nat} {n : Nat} (hn : q.length = n + 1) (hb : q.length < 1000000) (hI : dnI q n 0) :
    ∃ b q', m_heap_down g 0 n q f = some (b, q') ∧ q'.Perm q ∧ heapP q' n ∧ atP q' n = atP q n := by
  unfold m_heap_down
  obtain ⟨z, hz, h1, h2, h3⟩ := Loop_ex (body := fun s21 : List DPlace × Int =>
      (if Mir.w64 ((Mir.w64 (2 * s21.2)) + 1) ≥ (n : Int) then
          some true
        else
          some (decide (Mir.w64 ((Mir.w64 (2 * s21.2)) + 1) < 0))
      ).bind fun (z33 : Bool) =>
      if z33 = true then
        some (.inr (s21.1, s21.2))
      else
        (
          (
            if Mir.w64 ((Mir.w64 ((Mir.w64 (2 * s21.2)) + 1)) + 1) < (n : Int) then
              (m_api_STree_Less g (Mir.w64 ((Mir.w64 ((Mir.w64 (2 * s21.2)) + 1)) + 1)) (Mir.w64 ((Mir.w64 (2 * s21.2)) + 1)) s21.1 f).bind fun q47 =>
              some q47
            else
              some false
          : Option Bool).bind fun (z42 : Bool) =>
          if z42 = true then
            some (Mir.w64 ((Mir.w64 ((Mir.w64 (2 * s21.2)) + 1)) + 1))
          else
            some (Mir.w64 ((Mir.w64 (2 * s21.2)) + 1))
        : Option Int).bind fun (z38 : Int) =>
        (m_api_STree_Less g z38 s21.2 s21.1 f).bind fun q53 =>
        if q53 = true then
          (m_api_STree_Swap g s21.2 z38 s21.1 f).bind fun q59 =>
          some (.inl (q59, z38))
        else
          some (.inr (s21.1, s21.2)))
    (fun s => ∃ i : Nat, s.2 = i ∧ i ≤ n ∧ s.1.Perm q ∧ dnI s.1 n i ∧ atP s.1 n = atP q n) (fun (s : List DPlace × Int) => s.1.Perm q ∧ heapP s.1 n ∧ atP s.1 n = atP q n) (fun s => n - s.2.toNat) (by
      rintro ⟨l, _⟩ ⟨i, rfl, hi, hp, ⟨h1, h2⟩, hat⟩
      dsimp only at hp h1 h2 hat ⊢
      have hl := hp.length_eq
      have e1 : w64 (w64 (2 * (i : Int)) + 1) = ((2 * i + 1 : Nat) : Int) := by rw [show w64 (2 * (i : Int)) = 2 * (i : Int) from w64_eq (by omega), w64_eq (by omega)]; omega
      have e2 : w64 (((2 * i + 1 : Nat) : Int) + 1) = ((2 * i + 2 : Nat) : Int) := by rw [w64_eq (by omega)]; omega
      rw [e1, e2]
      by_cases c1 : n ≤ 2 * i + 1
      · left
        refine ⟨(l, (i : Int)), by rw [if_pos (by omega)]; rfl, hp, fun k hk hkn => h1 k hk hkn (by omega), hat⟩
      · rw [if_neg (by omega), decide_eq_false (by omega), Option.bind_some, if_neg (by decide)]
        -- the lesser kid
        have hc : ∃ c : Nat, ((if ((2 * i + 2 : Nat) : Int) < (n : Int) then
                (m_api_STree_Less g ((2 * i + 2 : Nat) : Int) ((2 * i + 1 : Nat) : Int) l f).bind fun q47 => some q47
              else some false : Option Bool).bind fun (z42 : Bool) => if z42 = true then some ((2 * i + 2 : Nat) : Int) else some ((2 * i + 1 : Nat) : Int)) = some (c : Int) ∧ (c - 1) / 2 = i ∧ i < c ∧ c < n ∧ ∀ k, 0 < k → k < n → (k - 1) / 2 = i → leP (atP l c) (atP l k) := by
          by_cases c2 : 2 * i + 2 < n
          · rw [if_pos (by omega), m_Less g (by omega) (by omega), Option.bind_some, Option.bind_some]
            cases hless : lessP (atP l (2 * i + 2)) (atP l (2 * i + 1))
            · refine ⟨2 * i + 1, rfl, by omega, by omega, by omega, fun k hk hkn hki => ?_⟩
              obtain rfl | rfl : k = 2 * i + 1 ∨ k = 2 * i + 2 := by omega
              · exact leP_refl _
              · exact hless
            · refine ⟨2 * i + 2, rfl, by omega, by omega, by omega, fun k hk hkn hki => ?_⟩
              obtain rfl | rfl : k = 2 * i + 1 ∨ k = 2 * i + 2 := by omega
              · exact leP_of hless
              · exact leP_refl _
          · rw [if_neg (by omega), Option.bind_some]
            refine ⟨2 * i + 1, rfl, by omega, by omega, by omega, fun k hk hkn hki => ?_⟩
            obtain rfl : k = 2 * i + 1 := by omega
            exact leP_refl _
        obtain ⟨c, hc0, hc1, hc2, hc3, hc4⟩ := hc
        rw [hc0, Option.bind_some, m_Less g (by omega) (by omega), Option.bind_some]
        cases hless : lessP (atP l c) (atP l i)
        · left
          refine ⟨(l, (i : Int)), rfl, hp, fun k hk hkn => ?_, hat⟩
          by_cases e : (k - 1) / 2 = i
          · rw [e]; exact leP_trans hless (hc4 k hk hkn e)
          · exact h1 k hk hkn e
        · right
          have hil : i < l.length := by omega
          have hcl : c < l.length := by omega
          refine ⟨(swP l i c, (c : Int)), by rw [if_pos rfl, m_Swap g hil hcl]; rfl, ⟨c, rfl, by omega, (swP_perm hil hcl).trans hp, ⟨?_, ?_⟩, ?_⟩, by simp; omega⟩
          · intro k hk hkn hne
            rw [swP_at hil hcl, swP_at hil hcl, if_neg hne]
            by_cases e : k = i
            · subst e
              rw [if_neg (by omega), if_neg (by omega), if_pos rfl]
              exact h2 c (by omega) hc3 hc1 hk
            · by_cases e1 : (k - 1) / 2 = i
              · rw [if_pos e1]
                by_cases e2 : k = c
                · rw [if_pos e2]; exact leP_of hless
                · rw [if_neg e2, if_neg e]; exact hc4 k hk hkn e1
              · rw [if_neg e1, if_neg (fun h => e1 (by rw [h]; exact hc1)), if_neg e]
                exact h1 k hk hkn e1
          · intro k hk hkn hpk h0
            rw [swP_at hil hcl, swP_at hil hcl, hc1, if_neg (by omega), if_pos rfl, if_neg (by omega), if_neg (by omega)]
            have := h1 k hk hkn (by omega)
            rwa [hpk] at this
          · dsimp only
            rw [swP_at hil hcl, if_neg (by omega), if_neg (by omega)]
            exact hat) (s := (q, 0)) ⟨0, rfl, by omega, List.Perm.refl _, hI, rfl⟩
  rw [hz]
  exact ⟨_, _, rfl, h1, h2, h3⟩
theorem heapP_root {q : List DPlace} {n : Nat} (h : heapP q n) : ∀ i, i < n → leP (atP q 0) (atP q i) := by
  intro i
  induction i using Nat.strongRecOn with
  | ind i ih =>
    intro hi
    by_cases h0 : i = 0
    · subst h0; exact leP_refl _
    · exact leP_trans (ih ((i - 1) / 2) (by omega) (by omega)) (h i (by omega) hi)
theorem atP_app {q : List DPlace} {x : DPlace} {i : Nat} (h : i < q.length) : atP (q ++ [x]) i = atP q i := by
  simp only [atP, List.getD_eq_getElem?_getD, List.getElem?_append_left h]
theorem m_hPush (g : Nat) {q : List DPlace} {f : Nat} {x : DPlace} (hb : q.length < 10000) (hq : heapP q q.length) :
    ∃ q', m_heap_Push g x q f = some q' ∧ q'.Perm (q ++ [x]) ∧ heapP q' q'.length := by
  unfold m_heap_Push m_api_STree_Push m_api_STree_Len
  rw [push_small 10000 (by simp; omega) (by decide)]
  simp only [Option.bind_some]
  rw [show w64 ((((q ++ [x]).length : Nat) : Int) - 1) = ((q.length : Nat) : Int) by rw [w64_eq (by simp; omega)]; simp]
  obtain ⟨q', h1, h2, h3⟩ := m_up g (q := q ++ [x]) (f := f) (j := q.length) (by simp) (by simp; omega) (by
    constructor
    · intro i hi hin hne
      have : i < q.length := by simp at hin; omega
      rw [atP_app this, atP_app (by omega)]
      exact hq i hi this
    · intro i hi hin hp h0
      simp at hin
      omega)
  rw [h1]
  exact ⟨q', rfl, h2, by rw [h2.length_eq]; exact h3⟩
theorem m_hPop (g : Nat) {q : List DPlace} {f : Nat} (hb : q.length < 10000) (h0 : 0 < q.length) (hq : heapP q q.length) :
    ∃ e q', m_heap_Pop g q f = some (e, q') ∧ q.Perm (e :: q') ∧ heapP q' q'.length ∧ ∀ y ∈ q, leP e y := by
  obtain ⟨n, hn⟩ : ∃ n, q.length = n + 1 := ⟨q.length - 1, by omega⟩
  unfold m_heap_Pop m_api_STree_Len m_api_STree_Pop
  have hs := m_Swap g (i := 0) (j := n) (q := q) (f := f) (by omega) (by omega)
  have e1 : w64 (((q.length : Nat) : Int) - 1) = (n : Int) := by rw [w64_eq (by omega)]; omega
  simp only [Option.bind_some, e1]
  rw [show (0 : Int) = ((0 : Nat) : Int) from rfl, hs]
  simp only [Option.bind_some]
  have hl : (swP q 0 n).length = n + 1 := by rw [swP_len, hn]
  obtain ⟨b, q2, h1, h2, h3, h4⟩ := m_down g (q := swP q 0 n) (f := f) (n := n) hl (by omega) (by
    constructor
    · intro i hi hin hne
      rw [swP_at (by omega) (by omega), swP_at (by omega) (by omega), if_neg (by omega), if_neg hne, if_neg (by omega), if_neg (by omega)]
      exact hq i hi (by omega)
    · intro i hi hin hp h; omega)
  have hl2 := h2.length_eq
  rw [show ((0 : Nat) : Int) = 0 from rfl, h1]
  simp only [Option.bind_some]
  have hat : atP q2 n = atP q 0 := by rw [h4, swP_at (by omega) (by omega), if_pos rfl]
  have hi2 : ((q2.length : Nat) : Int) - 1 = (n : Int) := by omega
  rw [hi2, atP_idx (by omega), Option.bind_some, sub_ok ⟨by omega, by omega, by omega⟩, hat]
  have htk : q2.Perm (atP q 0 :: q2.take n) := by
    have e9 : q2 = q2.take n ++ [atP q 0] := by
      have := List.take_append_drop n q2
      rw [List.drop_eq_getElem_cons (by omega : n < q2.length), List.drop_of_length_le (by omega)] at this
      rw [← hat]
      have e8 := atP_get (show n < q2.length by omega)
      rw [List.getElem?_eq_getElem (by omega)] at e8
      rw [← Option.some.inj e8]
      exact this.symm
    refine (List.Perm.of_eq e9).trans ?_
    exact List.perm_append_comm
  have hperm : q.Perm (atP q 0 :: q2.take n) := ((swP_perm (by omega) (by omega)).symm.trans h2.symm).trans htk
  refine ⟨atP q 0, q2.take n, by simp, hperm, ?_, ?_⟩
  · intro i hi hin
    have hin : i < n := by rw [List.length_take] at hin; omega
    have e : ∀ k, k < n → atP (q2.take n) k = atP q2 k := fun k hk => by
      simp only [atP, List.getD_eq_getElem?_getD]
      rw [List.getElem?_take_of_lt hk]
    rw [e _ (by omega), e _ hin]
    exact h3 i hi hin
  · intro y hy
    obtain ⟨i, hi, rfl⟩ := List.mem_iff_getElem.1 hy
    have := heapP_root hq i hi
    have e8 := atP_get hi
    rw [List.getElem?_eq_getElem hi] at e8
    rw [Option.some.inj e8]
    exact this
end Go.Proofs.Ytjjmdiddgcllkaa
