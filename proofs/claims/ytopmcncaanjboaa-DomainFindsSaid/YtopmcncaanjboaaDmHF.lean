/- The law of one limit more, in plain words. -/
import Derived.Test.YtopmcncaanjboaaDmGF
namespace Go.Proofs.Ytopmcncaanjboaa
open Go Go.Mir
set_option linter.unusedVariables false
theorem upto {Q : Type} {body : Nat → Option (Nat ⊕ Q)} {P : Q → Prop} (n k : Nat) (h : ∀ i, k ≤ i → i < n → Gives (body i) (Two (fun j => j = i + 1) P)) (he : ∀ i, k ≤ i → n ≤ i → Gives (body i) (Two (fun _ => False) P)) : Gives (Mir.Loop k body) P := by
  refine Gives.loop (fun i => k ≤ i) (fun i => n - i) (Nat.le_refl _) fun i hi => ?_
  by_cases c : i < n
  · exact (h i hi c).mono fun r hr => by
      cases r with
      | inl s => obtain rfl : s = i + 1 := hr; exact ⟨by omega, by omega⟩
      | inr q => exact hr
  · exact (he i hi (by omega)).mono fun r hr => by
      cases r with
      | inl s => exact hr.elim
      | inr q => exact hr
/-- It runs to its end. -/
def Ends {α : Type} (x : Option α) : Prop := Gives x (fun _ => True)
theorem e_isRow (g : Nat) (l : List Int) : Ends (m_ref11_isRow g l) := by
  unfold m_ref11_isRow
  refine Gives.jx (fun _ => True) (upto l.length 1 (fun i h1 hi => ?_) (fun i h1 hi => ?_)) (fun _ _ => Gives.some True.intro)
  · rw [if_pos (by omega), show ((i : Nat) : Int) - 1 = ((i - 1 : Nat) : Int) by omega, idx_ok (by omega), Option.bind_some]
    (repeat' first | exact Gives.some True.intro | exact Gives.some (show _ = _ from rfl) | refine Gives.ite (fun _ => ?_) (fun _ => ?_) | refine Gives.bindE (List.getElem?_eq_getElem (by omega)) ?_ | assumption | refine Gives.bind (fun _ => True) ?_ (fun _ _ => ?_))
  · rw [if_neg (by omega)]
    (repeat' first | exact Gives.some True.intro | exact Gives.some (show _ = _ from rfl) | refine Gives.ite (fun _ => ?_) (fun _ => ?_) | refine Gives.bindE (List.getElem?_eq_getElem (by omega)) ?_ | assumption | refine Gives.bind (fun _ => True) ?_ (fun _ _ => ?_))
theorem e_areNumbers (g : Nat) (l : List Int) : Ends (m_ref11_areNumbers g l) := by
  unfold m_ref11_areNumbers
  refine Gives.jx (fun _ => True) (upto l.length 0 (fun i h1 hi => ?_) (fun i h1 hi => ?_)) (fun _ _ => Gives.some True.intro)
  · rw [if_pos (by omega)]
    (repeat' first | exact Gives.some True.intro | exact Gives.some (show _ = _ from rfl) | refine Gives.ite (fun _ => ?_) (fun _ => ?_) | refine Gives.bindE (List.getElem?_eq_getElem (by omega)) ?_ | assumption | refine Gives.bind (fun _ => True) ?_ (fun _ _ => ?_))
  · rw [if_neg (by omega)]
    (repeat' first | exact Gives.some True.intro | exact Gives.some (show _ = _ from rfl) | refine Gives.ite (fun _ => ?_) (fun _ => ?_) | refine Gives.bindE (List.getElem?_eq_getElem (by omega)) ?_ | assumption | refine Gives.bind (fun _ => True) ?_ (fun _ _ => ?_))
theorem e_isLimit (g : Nat) (l : DLimit) (n : Int) : Ends (m_ref11_isLimit g l n) := by
  unfold m_ref11_isLimit
  refine Gives.bind (fun _ => True) ?_ fun z5 _ => ?_
  · refine Gives.bind (fun _ => True) (e_isRow g _) fun _ _ => ?_
    refine Gives.ite (fun _ => ?_) (fun _ => Gives.some True.intro)
    refine Gives.ite (fun _ => Gives.some True.intro) (fun _ => ?_)
    refine Gives.ite (fun _ => Gives.some True.intro) (fun _ => ?_)
    refine Gives.bind (fun _ => True) (e_areNumbers g _) fun _ _ => ?_
    refine Gives.ite (fun _ => ?_) (fun _ => Gives.some True.intro)
    exact Gives.bind (fun _ => True) (e_areNumbers g _) fun _ _ => Gives.some True.intro
  · refine Gives.ite (fun _ => Gives.some True.intro) (fun _ => ?_)
    refine Gives.jx (fun _ => True) (upto l.Vars.length 0 (fun i h1 hi => ?_) (fun i h1 hi => ?_)) (fun _ _ => ?_)
    · rw [if_pos (by omega)]
      (repeat' first | exact Gives.some True.intro | exact Gives.some (show _ = _ from rfl) | refine Gives.ite (fun _ => ?_) (fun _ => ?_) | refine Gives.bindE (List.getElem?_eq_getElem (by omega)) ?_ | assumption | refine Gives.bind (fun _ => True) ?_ (fun _ _ => ?_))
    · rw [if_neg (by omega)]
      (repeat' first | exact Gives.some True.intro | exact Gives.some (show _ = _ from rfl) | refine Gives.ite (fun _ => ?_) (fun _ => ?_) | refine Gives.bindE (List.getElem?_eq_getElem (by omega)) ?_ | assumption | refine Gives.bind (fun _ => True) ?_ (fun _ _ => ?_))
    refine Gives.jx (fun _ => True) (upto l.Rows.length 0 (fun i h1 hi => ?_) (fun i h1 hi => ?_)) (fun _ _ => ?_)
    · rw [if_pos (by omega)]
      refine Gives.bind (fun _ => True) ?_ fun _ _ => ?_
      · refine Gives.bindE (List.getElem?_eq_getElem hi) (Gives.ite (fun _ => Gives.bindE (List.getElem?_eq_getElem hi) ?_) (fun _ => Gives.some True.intro))
        exact Gives.bind (fun _ => True) (e_areNumbers g _) fun _ _ => Gives.some True.intro
      · (repeat' first | exact Gives.some True.intro | exact Gives.some (show _ = _ from rfl) | refine Gives.ite (fun _ => ?_) (fun _ => ?_) | refine Gives.bindE (List.getElem?_eq_getElem (by omega)) ?_ | assumption | refine Gives.bind (fun _ => True) ?_ (fun _ _ => ?_))
    · rw [if_neg (by omega)]
      (repeat' first | exact Gives.some True.intro | exact Gives.some (show _ = _ from rfl) | refine Gives.ite (fun _ => ?_) (fun _ => ?_) | refine Gives.bindE (List.getElem?_eq_getElem (by omega)) ?_ | assumption | refine Gives.bind (fun _ => True) ?_ (fun _ _ => ?_))
    (repeat' first | exact Gives.some True.intro | exact Gives.some (show _ = _ from rfl) | refine Gives.ite (fun _ => ?_) (fun _ => ?_) | refine Gives.bindE (List.getElem?_eq_getElem (by omega)) ?_ | assumption | refine Gives.bind (fun _ => True) ?_ (fun _ _ => ?_))
theorem e_isLarge (g : Nat) (p : DProblem) : Ends (m_ref11_isLarge g p) := by
  unfold m_ref11_isLarge
  refine Gives.bind (fun _ => True) (by (repeat' first | exact Gives.some True.intro | exact Gives.some (show _ = _ from rfl) | refine Gives.ite (fun _ => ?_) (fun _ => ?_) | refine Gives.bindE (List.getElem?_eq_getElem (by omega)) ?_ | assumption | refine Gives.bind (fun _ => True) ?_ (fun _ _ => ?_))) fun _ _ => ?_
  refine Gives.ite (fun _ => Gives.some True.intro) (fun _ => ?_)
  refine Gives.jx (fun _ => True) (upto p.Doms.length 0 (fun i h1 hi => ?_) (fun i h1 hi => ?_)) (fun _ _ => ?_)
  · rw [if_pos (by omega)]
    (repeat' first | exact Gives.some True.intro | exact Gives.some (show _ = _ from rfl) | refine Gives.ite (fun _ => ?_) (fun _ => ?_) | refine Gives.bindE (List.getElem?_eq_getElem (by omega)) ?_ | assumption | refine Gives.bind (fun _ => True) ?_ (fun _ _ => ?_))
  · rw [if_neg (by omega)]
    (repeat' first | exact Gives.some True.intro | exact Gives.some (show _ = _ from rfl) | refine Gives.ite (fun _ => ?_) (fun _ => ?_) | refine Gives.bindE (List.getElem?_eq_getElem (by omega)) ?_ | assumption | refine Gives.bind (fun _ => True) ?_ (fun _ _ => ?_))
  refine Gives.jx (fun _ => True) (upto p.Limits.length 0 (fun i h1 hi => ?_) (fun i h1 hi => ?_)) (fun _ _ => Gives.some True.intro)
  · rw [if_pos (by omega)]
    (repeat' first | exact Gives.some True.intro | exact Gives.some (show _ = _ from rfl) | refine Gives.ite (fun _ => ?_) (fun _ => ?_) | refine Gives.bindE (List.getElem?_eq_getElem (by omega)) ?_ | assumption | refine Gives.bind (fun _ => True) ?_ (fun _ _ => ?_))
  · rw [if_neg (by omega)]
    (repeat' first | exact Gives.some True.intro | exact Gives.some (show _ = _ from rfl) | refine Gives.ite (fun _ => ?_) (fun _ => ?_) | refine Gives.bindE (List.getElem?_eq_getElem (by omega)) ?_ | assumption | refine Gives.bind (fun _ => True) ?_ (fun _ _ => ?_))
theorem e_Validate (g : Nat) (p : DProblem) : Ends (m_ref11_Validate g p) := by
  unfold m_ref11_Validate
  refine Gives.bind (fun _ => True) (e_isLarge g p) fun _ _ => ?_
  refine Gives.ite (fun _ => Gives.some True.intro) (fun _ => ?_)
  refine Gives.jx (fun _ => True) (upto p.Doms.length 0 (fun i h1 hi => ?_) (fun i h1 hi => ?_)) (fun _ _ => ?_)
  · rw [if_pos (by omega)]
    refine Gives.bind (fun _ => True) ?_ fun _ _ => ?_
    · refine Gives.bindE (List.getElem?_eq_getElem hi) ?_
      refine Gives.bind (fun _ => True) (e_isRow g _) fun _ _ => ?_
      refine Gives.ite (fun _ => Gives.bindE (List.getElem?_eq_getElem hi) ?_) (fun _ => Gives.some True.intro)
      exact Gives.bind (fun _ => True) (e_areNumbers g _) fun _ _ => Gives.some True.intro
    · (repeat' first | exact Gives.some True.intro | exact Gives.some (show _ = _ from rfl) | refine Gives.ite (fun _ => ?_) (fun _ => ?_) | refine Gives.bindE (List.getElem?_eq_getElem (by omega)) ?_ | assumption | refine Gives.bind (fun _ => True) ?_ (fun _ _ => ?_))
  · rw [if_neg (by omega)]
    (repeat' first | exact Gives.some True.intro | exact Gives.some (show _ = _ from rfl) | refine Gives.ite (fun _ => ?_) (fun _ => ?_) | refine Gives.bindE (List.getElem?_eq_getElem (by omega)) ?_ | assumption | refine Gives.bind (fun _ => True) ?_ (fun _ _ => ?_))
  refine Gives.jx (fun _ => True) (upto p.Limits.length 0 (fun i h1 hi => ?_) (fun i h1 hi => ?_)) (fun _ _ => Gives.some True.intro)
  · rw [if_pos (by omega)]
    refine Gives.bindE (List.getElem?_eq_getElem hi) ?_
    refine Gives.bind (fun _ => True) (e_isLimit g _ _) fun _ _ => ?_
    (repeat' first | exact Gives.some True.intro | exact Gives.some (show _ = _ from rfl) | refine Gives.ite (fun _ => ?_) (fun _ => ?_) | refine Gives.bindE (List.getElem?_eq_getElem (by omega)) ?_ | assumption | refine Gives.bind (fun _ => True) ?_ (fun _ _ => ?_))
  · rw [if_neg (by omega)]
    (repeat' first | exact Gives.some True.intro | exact Gives.some (show _ = _ from rfl) | refine Gives.ite (fun _ => ?_) (fun _ => ?_) | refine Gives.bindE (List.getElem?_eq_getElem (by omega)) ?_ | assumption | refine Gives.bind (fun _ => True) ?_ (fun _ _ => ?_))
theorem e_among (g : Nat) {D : List (List Int)} {l : DLimit} (hv : ∀ v ∈ l.Vars, 0 ≤ v ∧ v < D.length) (hn : l.Vars.length ≤ 12) : Ends (m_ref11_among g D l) := by
  unfold m_ref11_among
  refine Gives.bind (fun _ => True) (Gives.loop (fun s => s.1.length = s.2 ∧ s.2 ≤ l.Vars.length) (fun s => l.Vars.length - s.2) ⟨rfl, Nat.zero_le _⟩ ?_) fun _ _ => Gives.some True.intro
  rintro ⟨a, i⟩ ⟨h1, h2⟩
  dsimp only at h1 h2 ⊢
  refine Gives.ite (fun c => ?_) (fun _ => Gives.some True.intro)
  have hi : i < l.Vars.length := by omega
  refine Gives.bindE (List.getElem?_eq_getElem hi) (Gives.bindE (domOf_idx (hv _ (List.getElem_mem hi))) ?_)
  refine Gives.bindE (push_small 12 (by simp; omega) (by decide)) (Gives.some ⟨⟨by simp; omega, by dsimp only; omega⟩, by dsimp only; omega⟩)
theorem e_Combinations (g : Nat) (D : List (List Int)) : Ends (m_ref11_Combinations g D) := by
  unfold m_ref11_Combinations
  refine Gives.jx (fun _ => True) (upto D.length 0 (fun i h1 hi => ?_) (fun i h1 hi => ?_)) (fun _ _ => ?_)
  · rw [if_pos (by omega)]
    (repeat' first | exact Gives.some True.intro | exact Gives.some (show _ = _ from rfl) | refine Gives.ite (fun _ => ?_) (fun _ => ?_) | refine Gives.bindE (List.getElem?_eq_getElem (by omega)) ?_ | assumption | refine Gives.bind (fun _ => True) ?_ (fun _ _ => ?_))
  · rw [if_neg (by omega)]
    (repeat' first | exact Gives.some True.intro | exact Gives.some (show _ = _ from rfl) | refine Gives.ite (fun _ => ?_) (fun _ => ?_) | refine Gives.bindE (List.getElem?_eq_getElem (by omega)) ?_ | assumption | refine Gives.bind (fun _ => True) ?_ (fun _ _ => ?_))
  refine Gives.jx (fun _ => True) (Gives.loop (fun s => True) (fun s => D.length - s.2) True.intro ?_) (fun _ _ => Gives.some True.intro)
  rintro ⟨a, i⟩ _
  dsimp only
  refine Gives.ite (fun c => ?_) (fun _ => Gives.some True.intro)
  refine Gives.bindE (List.getElem?_eq_getElem (by omega)) ?_
  refine Gives.ite (fun _ => Gives.some True.intro) (fun _ => Gives.some ⟨True.intro, by dsimp only; omega⟩)
theorem e_IsCostly (g : Nat) {p : DProblem} (h : Valid p) : Ends (m_ref11_IsCostly g p) := by
  unfold m_ref11_IsCostly
  refine Gives.jx (fun _ => True) (upto p.Limits.length 0 (fun i h1 hi => ?_) (fun i h1 hi => ?_)) (fun _ _ => Gives.some True.intro)
  · rw [if_pos (by omega)]
    have hm := List.getElem_mem hi
    refine Gives.bind (fun _ => True) ?_ fun _ _ => ?_
    · refine Gives.bindE (List.getElem?_eq_getElem hi) (Gives.ite (fun _ => Gives.bindE (List.getElem?_eq_getElem hi) ?_) (fun _ => Gives.some True.intro))
      refine Gives.bind (fun _ => True) (e_among g (h.lim _ hm).vars (h.ll _ hm).1) fun _ _ => ?_
      exact Gives.bind (fun _ => True) (e_Combinations g _) fun _ _ => Gives.some True.intro
    · (repeat' first | exact Gives.some True.intro | exact Gives.some (show _ = _ from rfl) | refine Gives.ite (fun _ => ?_) (fun _ => ?_) | refine Gives.bindE (List.getElem?_eq_getElem (by omega)) ?_ | assumption | refine Gives.bind (fun _ => True) ?_ (fun _ _ => ?_))
  · rw [if_neg (by omega)]
    (repeat' first | exact Gives.some True.intro | exact Gives.some (show _ = _ from rfl) | refine Gives.ite (fun _ => ?_) (fun _ => ?_) | refine Gives.bindE (List.getElem?_eq_getElem (by omega)) ?_ | assumption | refine Gives.bind (fun _ => True) ?_ (fun _ _ => ?_))
theorem e_work (g : Nat) {p : DProblem} (h : Valid p) : Ends (m_law11_work g p) := by
  unfold m_law11_work
  refine Gives.bind (fun _ => True) (Gives.loop (fun s => True) (fun s => p.Limits.length - s.2) True.intro ?_) fun _ _ => Gives.some True.intro
  rintro ⟨a, i⟩ _
  dsimp only
  refine Gives.ite (fun c => ?_) (fun _ => Gives.some True.intro)
  have hi : i < p.Limits.length := by omega
  have hm := List.getElem_mem hi
  refine Gives.bind (fun _ => True) ?_ fun _ _ => Gives.some ⟨True.intro, by dsimp only; omega⟩
  refine Gives.loop (fun s => True) (fun s => p.Limits[i].Vars.length - s.2) True.intro ?_
  rintro ⟨b, j⟩ _
  dsimp only
  refine Gives.bindE (List.getElem?_eq_getElem hi) (Gives.ite (fun c => ?_) (fun _ => Gives.some True.intro))
  have hj : j < p.Limits[i].Vars.length := by omega
  refine Gives.bind (fun _ => True) ?_ fun _ _ => Gives.some ⟨True.intro, by dsimp only; omega⟩
  refine Gives.bindE (List.getElem?_eq_getElem hi) (Gives.bindE (List.getElem?_eq_getElem hj) ?_)
  refine Gives.bind (fun _ => True) (by (repeat' first | exact Gives.some True.intro | exact Gives.some (show _ = _ from rfl) | refine Gives.ite (fun _ => ?_) (fun _ => ?_) | refine Gives.bindE (List.getElem?_eq_getElem (by omega)) ?_ | assumption | refine Gives.bind (fun _ => True) ?_ (fun _ _ => ?_))) fun _ _ => ?_
  refine Gives.ite (fun _ => ?_) (fun _ => Gives.some True.intro)
  exact Gives.bindE (domOf_idx ((h.lim _ hm).vars _ (List.getElem_mem hj))) (Gives.some True.intro)
theorem e_isHeavy (g : Nat) {p : DProblem} (h : Valid p) : Ends (m_law11_isHeavy g p) := by
  unfold m_law11_isHeavy
  refine Gives.bind (fun _ => True) ?_ fun _ _ => Gives.some True.intro
  refine Gives.bind (fun _ => True) (e_Validate g p) fun _ _ => ?_
  refine Gives.ite (fun _ => ?_) (fun _ => Gives.some True.intro)
  refine Gives.bind (fun _ => True) (e_IsCostly g h) fun _ _ => ?_
  refine Gives.ite (fun _ => Gives.some True.intro) (fun _ => ?_)
  exact Gives.bind (fun _ => True) (e_work g h) fun _ _ => Gives.some True.intro
end Go.Proofs.Ytopmcncaanjboaa
