/- Names and numbers: what is told of them is told for all. -/
import Derived.Test.YtjkcinpmbgcgpaaGreatDoorMi
namespace Go.Proofs.YtjkcinpmbgcgpaaGreatDoor
open Go Go.Mir
set_option linter.unusedVariables false
abbrev Tot {α : Type} (x : Option α) : Prop := Gives x (fun _ => True)
theorem G_get {α β : Type} {xs : List α} {i : Nat} {k : α → Option β} {P : β → Prop} (h : i < xs.length) (hk : ∀ x, xs[i]? = some x → x ∈ xs → Gives (k x) P) : Gives ((xs[i]?).bind k) P := by
  have hx := List.getElem?_eq_getElem h
  exact Gives.bindE hx (hk _ hx (List.getElem_mem h))
/-- A loop with a counter. -/
theorem G_cnt {S Q : Type} {s : S} {body : S → Option (S ⊕ Q)} {P : Q → Prop} (n : Nat) (c : S → Nat) (I : S → Prop) (h0 : I s) (hn : c s ≤ n)
    (h : ∀ s, I s → c s < n → Gives (body s) (Two (fun s' => I s' ∧ c s' = c s + 1) P)) (he : ∀ s, I s → c s = n → Gives (body s) (Two (fun _ => False) P)) : Gives (Mir.Loop s body) P := by
  refine Gives.loop (fun s => I s ∧ c s ≤ n) (fun s => n - c s) ⟨h0, hn⟩ fun s hs => ?_
  rcases Nat.lt_or_ge (c s) n with h1 | h1
  · refine (h s hs.1 h1).mono fun o ho => ?_
    cases o with
    | inl s' => obtain ⟨h2, h3⟩ := ho; exact ⟨⟨h2, by omega⟩, by omega⟩
    | inr q => exact ho
  · refine (he s hs.1 (by omega)).mono fun o ho => ?_
    cases o with
    | inl s' => exact ho.elim
    | inr q => exact ho
/-- A loop through a list, with a counter. -/
theorem G_each {α S Q : Type} {s : S} (xs : List α) (c : S → Nat) (I : S → Prop) {k : S → α → Option (S ⊕ Q)} {e : S → Option (S ⊕ Q)} {P : Q → Prop} (h0 : I s) (hn : c s ≤ xs.length)
    (h : ∀ s x, I s → c s < xs.length → xs[c s]? = some x → x ∈ xs → Gives (k s x) (Two (fun s' => I s' ∧ c s' = c s + 1) P)) (he : ∀ s, I s → c s = xs.length → Gives (e s) (Two (fun _ => False) P)) :
    Gives (Mir.Loop s fun s => if ((c s : Nat) : Int) < ((xs.length : Nat) : Int) then (xs[c s]?).bind (k s) else e s) P :=
  G_cnt xs.length c I h0 hn (fun s hs hc => Gives.pos (by omega) (G_get hc fun x hx hm => h s x hs hc hx hm)) fun s hs hc => Gives.neg (by omega) (he s hs hc)
/-- A loop through a list that only looks. -/
theorem G_look {α J A : Type} (xs : List α) (T : α → Prop) {k : Nat → α → Option (Nat ⊕ (J ⊕ A))} {e : Nat → Option (Nat ⊕ (J ⊕ A))} {kk : J → Option A} {P : A → Prop}
    (h : ∀ i x, xs[i]? = some x → x ∈ xs → i < xs.length → Gives (k i x) (Two (fun i' => i' = i + 1 ∧ T x) (Two (fun _ => False) P)))
    (he : Gives (e xs.length) (Two (fun _ => False) (Two (fun _ => True) P))) (hk : (∀ x ∈ xs, T x) → ∀ j, Gives (kk j) P) :
    Gives (Mir.jx (Mir.Loop (0 : Nat) fun s => if ((s : Nat) : Int) < ((xs.length : Nat) : Int) then (xs[s]?).bind (k s) else e s) kk) P := by
  refine Gives.jx (fun _ => ∀ x ∈ xs, T x) (G_each xs id (fun i => ∀ j x, j < i → xs[j]? = some x → T x) (fun j x hj => absurd hj (Nat.not_lt_zero _)) (Nat.zero_le _) (fun s x hs hc hx hm => ?_) (fun s hs hc => ?_)) fun j hj => hk hj j
  · refine (h s x hx hm hc).mono fun o ho => ?_
    rcases o with s' | (j | a)
    · obtain ⟨rfl, hT⟩ := ho
      refine ⟨fun j y hj hy => ?_, rfl⟩
      rcases Nat.lt_or_ge j s with h1 | h1
      · exact hs j y h1 hy
      · have : j = s := by simp only [id] at *; omega
        subst this
        simp only [id] at hx
        rw [hx] at hy; cases hy; exact hT
    · exact ho.elim
    · exact ho
  · simp only [id] at hc
    subst hc
    refine he.mono fun o ho => ?_
    rcases o with s' | (j | a)
    · exact ho.elim
    · intro x hx
      obtain ⟨i, hi, rfl⟩ := List.getElem_of_mem hx
      exact hs i _ hi (List.getElem?_eq_getElem hi)
    · exact ho
theorem Gives.tot {α : Type} {x : Option α} {P : α → Prop} (h : Gives x P) : Tot x := h.mono fun _ _ => trivial
theorem Gives.to {α : Type} {x : Option α} {P : α → Prop} {r : α} (h : Gives x P) (hx : x = some r) : P r := by
  obtain ⟨q, h1, h2⟩ := h; rw [h1] at hx; cases hx; exact h2
theorem Gives.and {α : Type} {x : Option α} {P P' : α → Prop} (h : Gives x P) (h' : Gives x P') : Gives x fun r => P r ∧ P' r := by
  obtain ⟨q, h1, h2⟩ := h; exact ⟨q, h1, h2, Gives.to h' h1⟩
abbrev Nm (l : List UInt8) : Prop := 1 ≤ l.length ∧ l.length ≤ 16
theorem t_isName (g : Nat) (s : List UInt8) (a b : Int) : Tot (m_data_isName g s a b) := by
  unfold m_data_isName
  refine Gives.bind (fun z => z = false → Nm s) ?_ fun z hz => Gives.ite (fun _ => Gives.some trivial) fun hz' => ?_
  · refine Gives.ite (fun _ => Gives.some (fun h => by cases h)) fun h1 => Gives.ite (fun _ => Gives.some (fun h => by cases h)) fun h2 => ?_
    have h3 : Nm s := ⟨by omega, by omega⟩
    exact G_get (by omega) fun x _ _ => Gives.ite (fun _ => Gives.some fun _ => h3) fun _ => G_get (by omega) fun x _ _ => Gives.some fun _ => h3
  · have hn := hz (by simpa using hz')
    refine Gives.jx (fun _ => True) (G_each s id (fun _ => True) trivial hn.1 (fun i x _ hi hx hm => ?_) fun i _ _ => Gives.some trivial) fun _ _ => Gives.some trivial
    refine Gives.bind (fun _ => True) ?_ fun z _ => Gives.ite (fun _ => Gives.some trivial) fun _ => Gives.bindE (show small s = some () from if_pos (by have := hn.2; omega)) (Gives.some ⟨trivial, rfl⟩)
    repeat' first | exact Gives.some trivial | refine Gives.ite (fun _ => ?_) (fun _ => ?_)
theorem t_dGreat (g : Nat) (s : List UInt8) : Tot (m_data_isGreat g s) := Gives.bind _ (t_isName g s 65 90) fun q _ => Gives.some trivial
theorem t_index (g : Nat) (l : List (List UInt8)) (s : List UInt8) : Tot (m_slices_Index_string_string g l s) := by
  unfold m_slices_Index_string_string
  exact G_look l (fun _ => True) (fun i x _ _ _ => Gives.ite (fun _ => Gives.some trivial) fun _ => Gives.some ⟨rfl, trivial⟩) (Gives.some trivial) fun _ _ => Gives.some trivial
theorem t_contains (g : Nat) (l : List (List UInt8)) (s : List UInt8) : Tot (m_slices_Contains_string_string g l s) := Gives.bind _ (t_index g l s) fun q _ => Gives.some trivial
theorem t_dSmall (g : Nat) (s : List UInt8) : Tot (m_data_isSmall g s) := by
  unfold m_data_isSmall
  exact Gives.bind (fun _ => True) (Gives.bind _ (t_isName g s 97 122) fun q _ => Gives.ite (fun _ => Gives.bind _ (t_contains g _ s) fun _ _ => Gives.some trivial) fun _ => Gives.some trivial) fun _ _ => Gives.some trivial
theorem t_tSmall (g : Nat) (a : Int) : Tot (m_types_isSmall g a) := by
  unfold m_types_isSmall
  exact Gives.bind (fun _ => True) (Gives.ite (fun _ => Gives.some trivial) fun _ => Gives.some trivial) fun _ _ => Gives.some trivial
theorem t_IsVar (g : Nat) (a : DType) : Tot (m_types_IsVar g a) := by
  unfold m_types_IsVar
  exact Gives.bind (fun _ => True) (Gives.ite (fun h => G_get (by omega) fun x _ _ => Gives.bind _ (t_tSmall g _) fun _ _ => Gives.some trivial) fun _ => Gives.some trivial) fun _ _ => Gives.some trivial
theorem t_IsTail (g : Nat) (a : Int) : Tot (m_types_IsTail g a) := by
  unfold m_types_IsTail
  refine Gives.bind (fun _ => True) (Gives.bind (fun _ => True) ?_ fun q _ => Gives.ite (fun _ => Gives.some trivial) fun _ => Gives.bind (fun _ => True) ?_ fun q _ => Gives.ite (fun _ => Gives.some trivial) fun _ => Gives.some trivial) fun _ _ => Gives.some trivial
  · unfold m_types_IsLetter
    exact Gives.bind (fun _ => True) (Gives.bind _ (t_tSmall g _) fun _ _ => Gives.ite (fun _ => Gives.some trivial) fun _ => Gives.ite (fun _ => Gives.some trivial) fun _ => Gives.some trivial) fun _ _ => Gives.some trivial
  · unfold m_types_IsDigit
    exact Gives.bind (fun _ => True) (Gives.ite (fun _ => Gives.some trivial) fun _ => Gives.some trivial) fun _ _ => Gives.some trivial
theorem g_isRun (g : Nat) (s : List UInt8) : Gives (m_types_isRun g s) fun q => q = true → Nm s := by
  unfold m_types_isRun
  refine Gives.bind (fun z => z = false → Nm s) (Gives.ite (fun _ => Gives.some fun h => by cases h) fun h1 => Gives.some fun h2 => ⟨by omega, by have := of_decide_eq_false h2; omega⟩) fun z hz => Gives.ite (fun _ => Gives.some fun h => by cases h) fun hz' => ?_
  have hn := hz (by simpa using hz')
  refine G_look s (fun _ => True) (fun i x _ _ _ => Gives.bind _ (t_IsTail g _) fun q _ => Gives.ite (fun _ => Gives.bindE (show small s = some () from if_pos (by have := hn.2; omega)) (Gives.some ⟨rfl, trivial⟩)) fun _ => Gives.some fun h => by cases h) (Gives.some trivial) fun _ _ => Gives.some fun _ => hn
theorem g_IsSmall (g : Nat) (s : List UInt8) : Gives (m_types_IsSmall g s) fun q => q = true → Nm s := by
  unfold m_types_IsSmall
  refine Gives.bind (fun z => z = false → Nm s) (Gives.bind _ (g_isRun g s) fun q hq => Gives.ite (fun h => G_get (by have := (hq h).1; omega) fun x _ _ => Gives.bind _ (t_tSmall g _) fun _ _ => Gives.some fun _ => hq h) fun _ => Gives.some fun h => by cases h) fun z hz => Gives.ite (fun _ => Gives.some fun h => by cases h) fun hz' => ?_
  have hn := hz (by simpa using hz')
  refine Gives.jx (fun _ => True) ?_ fun _ _ => Gives.some fun _ => hn
  unfold m_types_words
  refine Gives.bindE rfl (G_each _ id (fun _ => True) trivial (Nat.zero_le _) (fun i x _ hi hx hm => ?_) fun i _ _ => Gives.some trivial)
  exact Gives.ite (fun _ => Gives.some fun h => by cases h) fun _ => Gives.some ⟨trivial, rfl⟩
theorem g_IsGreat (g : Nat) (s : List UInt8) : Gives (m_types_IsGreat g s) fun q => q = true → Nm s := by
  unfold m_types_IsGreat
  refine Gives.bind (fun z => z = true → Nm s) (Gives.bind _ (g_isRun g s) fun q hq => Gives.ite (fun h => ?_) fun _ => Gives.some fun h => by cases h) fun _ h => Gives.some h
  have hn := hq h
  exact G_get (by have := hn.1; omega) fun x _ _ => Gives.ite (fun _ => G_get (by have := hn.1; omega) fun x _ _ => Gives.some fun _ => hn) fun _ => Gives.some fun _ => hn
theorem g_IsCoreName (g : Nat) (s : List UInt8) : Gives (m_syntax_IsCoreName g s) fun q => q = true → Nm s := by
  unfold m_syntax_IsCoreName
  refine Gives.bind _ (g_IsSmall g s) fun q hq => Gives.ite (fun h => Gives.some fun _ => hq h) fun _ => ?_
  refine Gives.bind (fun z => z = false → Nm s) (Gives.ite (fun _ => Gives.some fun h => by cases h) fun h1 => Gives.ite (fun _ => Gives.some fun h => by cases h) fun h2 => G_get (by omega) fun x _ _ => Gives.some fun _ => ⟨by omega, by omega⟩) fun z hz => Gives.ite (fun _ => Gives.some fun h => by cases h) fun hz' => ?_
  have hn := hz (by simpa using hz')
  exact G_look s (fun _ => True) (fun i x _ _ _ => Gives.bind _ (t_IsTail g _) fun q _ => Gives.ite (fun _ => Gives.bindE (show small s = some () from if_pos (by have := hn.2; omega)) (Gives.some ⟨rfl, trivial⟩)) fun _ => Gives.some fun h => by cases h) (Gives.some trivial) fun _ _ => Gives.some fun _ => hn
theorem g_isNm (g : Nat) (s : List UInt8) : Gives (m_core_isName g s) fun q => q = true → Nm s := by
  unfold m_core_isName
  exact Gives.bind (fun z => z = true → Nm s) (Gives.bind _ (g_IsCoreName g s) fun q hq => Gives.ite (fun h => Gives.some fun _ => hq h) fun _ => Gives.some fun h => by cases h) fun _ h => Gives.some h
theorem g_IsInt (g : Nat) (a : Int) : Gives (m_syntax_IsInt g a) fun q => q = true → -1000000000 ≤ a ∧ a ≤ 1000000000 := by
  unfold m_syntax_IsInt
  exact Gives.bind (fun z => z = true → -1000000000 ≤ a ∧ a ≤ 1000000000) (Gives.ite (fun h => Gives.some fun h' => ⟨by omega, of_decide_eq_true h'⟩) fun _ => Gives.some fun h => by cases h) fun _ h => Gives.some h
theorem t_tNode (g : Nat) (a : DType) : Tot (m_types_isNode g a) := by
  unfold m_types_isNode
  refine Gives.ite (fun _ => Gives.some trivial) fun _ => Gives.bind _ (t_IsVar g a) fun q _ => Gives.ite (fun _ => ?_) fun _ => ?_
  · exact Gives.bind (fun _ => True) (Gives.bind _ (g_IsSmall g _) fun _ _ => Gives.ite (fun _ => Gives.some trivial) fun _ => Gives.some trivial) fun _ _ => Gives.some trivial
  · exact Gives.bind (fun _ => True) (Gives.bind _ (g_IsGreat g _) fun _ _ => Gives.ite (fun _ => Gives.some trivial) fun _ => Gives.some trivial) fun _ _ => Gives.some trivial
end Go.Proofs.YtjkcinpmbgcgpaaGreatDoor
