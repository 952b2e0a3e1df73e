/- The law of one limit more: it is told true. -/
import Derived.Test.YtopmcncaanjboaaDmHF
namespace Go.Proofs.Ytopmcncaanjboaa
open Go Go.Mir
set_option linter.unusedVariables false
theorem m_SameInts (g : Nat) (a b : List Int) : m_ref01_SameInts g a b = some (decide (a = b)) := by
  unfold m_ref01_SameInts
  by_cases h : a.length = b.length
  · rw [if_pos (by omega)]
    rw [Loop_rel (fun (i : Nat) (q : Unit ⊕ Bool) => i ≤ a.length ∧ a.take i = b.take i ∧ q = if a = b then .inl () else .inr false) (fun i => a.length - i) (q := if a = b then .inl () else .inr false) ?_ ⟨Nat.zero_le _, rfl, rfl⟩]
    · by_cases e : a = b
      · rw [if_pos e, decide_eq_true e]; rfl
      · rw [if_neg e, decide_eq_false e]; rfl
    · rintro i q ⟨hi, ht, rfl⟩
      by_cases h1 : i < a.length
      · have e1 := List.getElem?_eq_getElem h1
        have e2 := List.getElem?_eq_getElem (show i < b.length by omega)
        rw [if_pos (by omega), e1, e2, Option.bind_some, Option.bind_some]
        by_cases e : a[i] = b[i]
        · right
          refine ⟨i + 1, by rw [if_pos e], ⟨by omega, ?_, rfl⟩, by omega⟩
          rw [List.take_add_one, List.take_add_one, ht, e1, e2, e]
        · left
          rw [if_neg e, if_neg]
          intro hab
          subst hab
          exact e rfl
      · left
        rw [if_neg (by omega), if_pos]
        rwa [List.take_of_length_le (by omega), List.take_of_length_le (by omega)] at ht
  · rw [if_neg (by omega), decide_eq_false]
    intro hab; exact h (by rw [hab])
theorem m_SameRows (g : Nat) (a : List (List Int)) : m_ref01_SameRows g a a = some true := by
  unfold m_ref01_SameRows
  rw [if_pos rfl]
  rw [Loop_rel (fun (i : Nat) (q : Unit ⊕ Bool) => i ≤ a.length ∧ q = .inl ()) (fun i => a.length - i) (q := .inl ()) ?_ ⟨Nat.zero_le _, rfl⟩]
  · rfl
  · rintro i q ⟨hi, rfl⟩
    by_cases h1 : i < a.length
    · right
      have e1 := List.getElem?_eq_getElem h1
      rw [if_pos (by omega), e1, Option.bind_some, Option.bind_some, m_SameInts, Option.bind_some, decide_eq_true rfl]
      exact ⟨i + 1, rfl, ⟨by omega, rfl⟩, by omega⟩
    · left
      rw [if_neg (by omega)]
/-- The document's example. -/
def exL : DLimit := ⟨0, [0, 1], [1, 1], 3, []⟩
def exP : DProblem := ⟨[[1, 2, 3], [1, 2, 3]], [exL]⟩
theorem ex_easy : Easy exP := by
  have hr : ∀ a b : Int, a < b → risP [a, b] := fun a b h => by
    rw [risP_pair]; simpa using h
  have hl : m_domain_isLimit 0 exP exL = some true := by
    obtain ⟨b, h1, _, h2, _⟩ := m_isLimit 0 exP exL
    have : b = true := h2 ⟨hr 0 1 (by decide), by decide, by decide, by decide, by decide, by decide⟩ (by decide) (by decide) (by decide) (by decide)
    rw [h1, this]
  refine ⟨⟨by decide, by decide, fun d hd => ?_, fun l h => ?_⟩, fun l h hc => ?_⟩
  · have : d = [1, 2, 3] := by simpa [exP] using hd
    subst this
    exact ⟨by decide, by decide, by rw [risP_pair]; decide⟩
  · obtain rfl : l = exL := by simpa [exP] using h
    exact ⟨by decide, by decide, hl⟩
  · obtain rfl : l = exL := by simpa [exP] using h
    exact absurd hc.1 (by decide)
theorem ex_one {D : List (List Int)} (h : Narrowed exP.Doms exP.Limits D) (c : ConsE exP.Limits (InD D)) : D = [[1, 2], [1, 2]] := by
  have d0 : domOf exP.Doms 0 = [1, 2, 3] := rfl
  have d1 : domOf exP.Doms 1 = [1, 2, 3] := rfl
  have t0 : domOf [[1, 2], [1, 2]] 0 = [1, 2] := rfl
  have t1 : domOf [[1, 2], [1, 2]] 1 = [1, 2] := rfl
  have hE : ConsE exP.Limits (InD [[1, 2], [1, 2]]) := by
    intro l hl
    obtain rfl : l = exL := by simpa [exP] using hl
    refine ⟨fun i v n hv hn => ?_, fun h => nomatch h⟩
    have h01 : i = 0 ∧ v = 0 ∨ i = 1 ∧ v = 1 := by
      match i with
      | 0 => exact Or.inl ⟨rfl, by simpa [exL] using hv.symm⟩
      | 1 => exact Or.inr ⟨rfl, by simpa [exL] using hv.symm⟩
      | i + 2 => simp [exL] at hv
    have hn2 : n = 1 ∨ n = 2 := by
      rcases h01 with ⟨_, rfl⟩ | ⟨_, rfl⟩
      · simpa [InD, t0] using hn
      · simpa [InD, t1] using hn
    have hw : ∀ x y : Int, (x = 1 ∨ x = 2) → (y = 1 ∨ y = 2) → ∀ (k : Nat) w, exL.Vars[k]? = some w → ∃ z, [x, y][k]? = some z ∧ InD [[1, 2], [1, 2]] w z := by
      intro x y hx hy k w hk
      match k with
      | 0 => obtain rfl : w = 0 := by simpa [exL] using hk.symm
             exact ⟨x, rfl, by simpa [InD, t0] using hx⟩
      | 1 => obtain rfl : w = 1 := by simpa [exL] using hk.symm
             exact ⟨y, rfl, by simpa [InD, t1] using hy⟩
      | k + 2 => simp [exL] at hk
    rcases h01 with ⟨rfl, rfl⟩ | ⟨rfl, rfl⟩
    · exact ⟨[n, 1], rfl, hw n 1 hn2 (.inl rfl), rfl, by rcases hn2 with rfl | rfl <;> decide⟩
    · exact ⟨[1, n], rfl, hw 1 n (.inl rfl) hn2, rfl, by rcases hn2 with rfl | rfl <;> decide⟩
  have hF : Fam exP.Doms (InD [[1, 2], [1, 2]]) := by
    intro v n hn
    have hv := domOf_in (D := [[1, 2], [1, 2]]) hn
    have hv1 : v = 0 ∨ v = 1 := by have := hv.2; simp at this; omega
    rcases hv1 with rfl | rfl
    · rw [d0]; rw [InD, t0] at hn; simp at hn ⊢; omega
    · rw [d1]; rw [InD, t1] at hn; simp at hn ⊢; omega
  have top := h.top _ hF hE
  have low : ∀ v n, (v = 0 ∨ v = 1) → n ∈ domOf D v → n = 1 ∨ n = 2 ∨ n = 3 := by
    intro v n hv hn
    obtain ⟨f, hf⟩ := h.sub v
    rw [hf] at hn
    have := (List.mem_filter.1 hn).1
    rcases hv with rfl | rfl
    · rw [d0] at this; simpa using this
    · rw [d1] at this; simpa using this
  have hcl := c exL (by simp [exP])
  have no3 : ∀ v, (v = 0 ∨ v = 1) → 3 ∉ domOf D v := by
    intro v hv h3
    have hvi : ∃ i : Nat, exL.Vars[i]? = some v ∧ (i : Int) = v := by
      rcases hv with rfl | rfl
      · exact ⟨0, rfl, rfl⟩
      · exact ⟨1, rfl, rfl⟩
    obtain ⟨i, hi, hiv⟩ := hvi
    obtain ⟨x, hx, hall, hxi, hh⟩ := hcl.1 i v 3 hi h3
    obtain ⟨a, ha, ha2⟩ := hall 0 0 rfl
    obtain ⟨b, hb, hb2⟩ := hall 1 1 rfl
    have hx2 : x.length = 2 := hx
    match x, hx2 with
    | [x0, x1], _ =>
      obtain rfl : x0 = a := by simpa using ha
      obtain rfl : x1 = b := by simpa using hb
      have l0 := low 0 x0 (.inl rfl) ha2
      have l1 := low 1 x1 (.inr rfl) hb2
      have hs : x0 + x1 ≤ 3 := by
        have : dotF 0 [1, 1] [x0, x1] ≤ 3 := of_decide_eq_true (show decide (dotF 0 [1, 1] [x0, x1] ≤ 3) = true from hh)
        have e : dotF 0 [1, 1] [x0, x1] = x0 + x1 := by
          simp only [dotF]
          rw [w64_eq (a := (1 : Int) * x0) (by omega), w64_eq (a := (1 : Int) * x1) (by omega), w64_eq (a := 0 + 1 * x0) (by omega), w64_eq (by omega)]
          omega
        omega
      rcases hv with rfl | rfl
      · obtain rfl : i = 0 := by omega
        obtain rfl : x0 = 3 := by simpa using hxi
        omega
      · obtain rfl : i = 1 := by omega
        obtain rfl : x1 = 3 := by simpa using hxi
        omega
  have key : ∀ v, (v = 0 ∨ v = 1) → domOf exP.Doms v = [1, 2, 3] → (∀ n, n ∈ [1, 2] → n ∈ domOf D v) → domOf D v = [1, 2] := by
    intro v hv hd ht
    obtain ⟨f, hf⟩ := h.sub v
    have n3 := no3 v hv
    have m1 := ht 1 (by decide)
    have m2 := ht 2 (by decide)
    rw [hf, hd] at n3 m1 m2 ⊢
    have f1 : f 1 = true := (List.mem_filter.1 m1).2
    have f2 : f 2 = true := (List.mem_filter.1 m2).2
    have f3 : f 3 = false := by
      cases h9 : f 3 with
      | false => rfl
      | true => exact absurd (List.mem_filter.2 ⟨by decide, h9⟩) n3
    simp [f1, f2, f3]
  refine domOf_ext (by rw [h.len]; rfl) fun v => ?_
  by_cases hv : v = 0 ∨ v = 1
  · rcases hv with rfl | rfl
    · exact key 0 (.inl rfl) rfl fun n hn => top 0 n hn
    · exact key 1 (.inr rfl) rfl fun n hn => top 1 n hn
  · have e1 : ∀ n, n ∉ domOf D v := fun n hn => by
      have := domOf_in hn
      rw [h.len] at this
      have h2 : exP.Doms.length = 2 := rfl
      omega
    have e2 : ∀ n, n ∉ domOf [[1, 2], [1, 2]] v := fun n hn => by
      have := domOf_in (D := [[1, 2], [1, 2]]) hn
      have h2 : ([[1, 2], [1, 2]] : List (List Int)).length = 2 := rfl
      omega
    rw [List.eq_nil_iff_forall_not_mem.2 e1, List.eq_nil_iff_forall_not_mem.2 e2]
theorem m_known (g : Nat) : m_law11_known g = some true := by
  unfold m_law11_known
  obtain ⟨r, h1, h2, h3⟩ := m_Narrow g exP
  have e := h2.2 ex_easy
  rw [show (DProblem.mk ([([1, 2, 3] : List Int), ([1, 2, 3] : List Int)] : List (List Int)) ([(DLimit.mk 0 ([0, 1] : List Int) ([1, 1] : List Int) 3 ([] : List (List Int)))] : List DLimit)) = exP from rfl, h1]
  rcases h3 ex_easy with ⟨k1, k2, k3⟩ | ⟨k1, k2⟩
  · dsimp only at k1 k2 k3
    rw [Option.bind_some, if_pos e, if_pos k1, ex_one k2 k3, m_SameRows]; rfl
  · exfalso
    have hE : ConsE exP.Limits (InD [[1], [1]]) := by
      intro l hl
      obtain rfl : l = exL := by simpa [exP] using hl
      have t0 : domOf [[1], [1]] 0 = [1] := rfl
      have t1 : domOf [[1], [1]] 1 = [1] := rfl
      have hw : ∀ (k : Nat) w, exL.Vars[k]? = some w → ∃ z, ([1, 1] : List Int)[k]? = some z ∧ InD [[1], [1]] w z := by
        intro k w hk
        match k with
        | 0 => obtain rfl : w = 0 := by simpa [exL] using hk.symm
               exact ⟨1, rfl, by simp [InD, t0]⟩
        | 1 => obtain rfl : w = 1 := by simpa [exL] using hk.symm
               exact ⟨1, rfl, by simp [InD, t1]⟩
        | k + 2 => simp [exL] at hk
      refine ⟨fun i v n hv hn => ⟨[1, 1], rfl, hw, ?_, by decide⟩, fun h => nomatch h⟩
      match i with
      | 0 => obtain rfl : v = 0 := by simpa [exL] using hv.symm
             rw [InD, t0] at hn; simp at hn; subst hn; rfl
      | 1 => obtain rfl : v = 1 := by simpa [exL] using hv.symm
             rw [InD, t1] at hn; simp at hn; subst hn; rfl
      | i + 2 => simp [exL] at hv
    refine k2 (InD [[1], [1]]) ?_ hE ?_
    · intro v n hn
      have hv := domOf_in (D := [[1], [1]]) hn
      have hv1 : v = 0 ∨ v = 1 := by have := hv.2; simp at this; omega
      rcases hv1 with rfl | rfl
      · rw [InD, show domOf [[1], [1]] 0 = [1] from rfl] at hn; simp at hn; subst hn; decide
      · rw [InD, show domOf [[1], [1]] 1 = [1] from rfl] at hn; simp at hn; subst hn; decide
    · intro v h0 h1
      have h2 : exP.Doms.length = 2 := rfl
      have hv1 : v = 0 ∨ v = 1 := by omega
      rcases hv1 with rfl | rfl
      · exact ⟨1, show (1 : Int) ∈ [1] by decide⟩
      · exact ⟨1, show (1 : Int) ∈ [1] by decide⟩
theorem m_in (g : Nat) {l : List Int} {x : Int} (h : x ∈ l) : m_law11_in g l x = some true := by
  unfold m_law11_in
  have : Gives (Mir.Loop (S := Nat) (Q := (Unit) ⊕ (Bool)) (0 : Nat) fun s6 =>
      if ((s6 : Nat) : Int) < ((l.length : Nat) : Int) then
        ((l)[s6]?).bind fun x11 =>
        if x11 = x then
          some (.inr (.inr true))
        else
          some (.inl (s6 + 1))
      else
        some (.inr (.inl ()))) (fun q => q = .inr true) := by
    refine Gives.loop (fun i => i ≤ l.length ∧ x ∈ l.drop i) (fun i => l.length - i) ⟨Nat.zero_le _, by simpa using h⟩ ?_
    rintro i ⟨hi, hm⟩
    by_cases c : i < l.length
    · rw [if_pos (by omega), List.getElem?_eq_getElem c, Option.bind_some]
      refine Gives.ite (fun e => Gives.some rfl) (fun e => Gives.some ⟨⟨by omega, ?_⟩, by omega⟩)
      rw [List.drop_eq_getElem_cons c] at hm
      exact (List.mem_cons.1 hm).resolve_left (fun h => e h.symm)
    · rw [List.drop_of_length_le (by omega)] at hm
      exact nomatch hm
  obtain ⟨q, h1, rfl⟩ := this
  rw [h1]; rfl
end Go.Proofs.Ytopmcncaanjboaa
