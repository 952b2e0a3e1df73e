/- Plain words: how the loops of the mirrors, and what they check, are told. -/
import Derived.Test.YtjkcinpmbgcgpaaGreatDoorSyStr
namespace Go.Mir
open Go
theorem Loop_none {S Q : Type} {s : S} {body : S → Option (S ⊕ Q)} (h : body s = none) : Loop s body = none := by
  cases h1 : Loop s body with
  | none => rfl
  | some q =>
    obtain ⟨n, hn⟩ := Loop_some.1 h1
    cases n with
    | zero => cases hn
    | succ n => rw [LoopN, h] at hn; cases hn
theorem Loop_eq {S Q : Type} (s : S) (body : S → Option (S ⊕ Q)) : Loop s body = (body s).bind fun o => match o with | .inl s' => Loop s' body | .inr q => some q := by
  cases h : body s with
  | none => rw [Loop_none h]; rfl
  | some o =>
    cases o with
    | inl s' => rw [Loop_inl h]; rfl
    | inr q => rw [Loop_inr h]; rfl
/-- A loop that gives what R tells. -/
theorem Loop_rel {S Q : Type} {body : S → Option (S ⊕ Q)} (R : S → Q → Prop) (μ : S → Nat) (h : ∀ s q, R s q → body s = some (.inr q) ∨ ∃ s', body s = some (.inl s') ∧ R s' q ∧ μ s' < μ s) {s : S} {q : Q} (h0 : R s q) : Loop s body = some q := by
  suffices H : ∀ n s, μ s < n → R s q → Loop s body = some q from H _ s (Nat.lt_succ_self _) h0
  intro n
  induction n with
  | zero => intro s hn; omega
  | succ n ih =>
    intro s hn hr
    rcases h s q hr with h1 | ⟨s', h1, h2, h3⟩
    · exact Loop_inr h1
    · rw [Loop_inl h1]; exact ih s' (by omega) h2
/-- A loop that gives something with P. -/
theorem Loop_ex {S Q : Type} {body : S → Option (S ⊕ Q)} (I : S → Prop) (P : Q → Prop) (μ : S → Nat) (h : ∀ s, I s → (∃ q, body s = some (.inr q) ∧ P q) ∨ ∃ s', body s = some (.inl s') ∧ I s' ∧ μ s' < μ s) {s : S} (h0 : I s) : ∃ q, Loop s body = some q ∧ P q := by
  suffices H : ∀ n s, μ s < n → I s → ∃ q, Loop s body = some q ∧ P q from H _ s (Nat.lt_succ_self _) h0
  intro n
  induction n with
  | zero => intro s hn; omega
  | succ n ih =>
    intro s hn hr
    rcases h s hr with ⟨q, h1, h2⟩ | ⟨s', h1, h2, h3⟩
    · exact ⟨q, Loop_inr h1, h2⟩
    · rw [Loop_inl h1]; exact ih s' (by omega) h2
theorem drop_cons {α : Type} {xs r : List α} {x : α} {i : Nat} (h : xs.drop i = x :: r) : xs[i]? = some x ∧ i < xs.length ∧ xs.drop (i + 1) = r := by
  have h1 : (xs.drop i)[0]? = some x := by rw [h]; rfl
  rw [List.getElem?_drop] at h1
  have h2 : i < xs.length := by
    rcases Nat.lt_or_ge i xs.length with h | h'
    · exact h
    · rw [List.drop_of_length_le h'] at h; cases h
  refine ⟨h1, h2, ?_⟩
  have h3 : (xs.drop i).drop 1 = r := by rw [h]; rfl
  rw [List.drop_drop] at h3
  exact h3
theorem drop_nil {α : Type} {xs : List α} {i : Nat} (h : xs.drop i = []) (hi : i ≤ xs.length) : i = xs.length := by
  have := congrArg List.length h
  simp at this
  omega
/-- A loop through a list, by its numbers. -/
theorem Loop_list {α A S Q : Type} (mk : A → Nat → S) (xs : List α) (R : A → List α → Q → Prop) {body : S → Option (S ⊕ Q)}
    (hn : ∀ a q, R a [] q → body (mk a xs.length) = some (.inr q))
    (hc : ∀ a i x r q, xs[i]? = some x → i < xs.length → xs.drop i = x :: r → R a (x :: r) q → body (mk a i) = some (.inr q) ∨ ∃ a', body (mk a i) = some (.inl (mk a' (i + 1))) ∧ R a' r q)
    {a : A} {q : Q} (h : R a xs q) : Loop (mk a 0) body = some q := by
  suffices H : ∀ l a i, xs.drop i = l → i ≤ xs.length → R a l q → Loop (mk a i) body = some q from H xs a 0 rfl (Nat.zero_le _) h
  intro l
  induction l with
  | nil =>
    intro a i h1 h2 h3
    rw [drop_nil h1 h2]
    exact Loop_inr (hn a q h3)
  | cons x r ih =>
    intro a i h1 h2 h3
    obtain ⟨g1, g2, g3⟩ := drop_cons h1
    rcases hc a i x r q g1 g2 h1 h3 with h4 | ⟨a', h4, h5⟩
    · exact Loop_inr h4
    · rw [Loop_inl h4]; exact ih a' (i + 1) g3 (by omega) h5
theorem jx_inl {J A : Type} {j : J} {k : J → Option A} : jx (some (.inl j)) k = k j := rfl
theorem jx_inr {J A : Type} {a : A} {k : J → Option A} : jx (some (.inr a)) k = some a := rfl
theorem push_ok {α : Type} {b : Nat} {xs ys : List α} (h : (xs.length + ys.length) * b ≤ 140737488355328) (h' : xs.length + ys.length ≤ 140737488355328) : push b xs ys = some (xs ++ ys) := if_pos ⟨h, h'⟩
theorem push_small {α : Type} {b : Nat} {xs ys : List α} (n : Nat) (h : xs.length + ys.length ≤ n) (hb : n * b ≤ 140737488355328 ∧ n ≤ 140737488355328) : push b xs ys = some (xs ++ ys) :=
  push_ok (Nat.le_trans (Nat.mul_le_mul_right _ h) hb.1) (Nat.le_trans h hb.2)
theorem sub_ok {α : Type} {xs : List α} {j l : Int} (h : 0 ≤ j ∧ j ≤ l ∧ l ≤ xs.length) : sub xs j l = some ((xs.take l.toNat).drop j.toNat) := if_pos h
theorem upd_ok {α : Type} {xs : List α} {i : Nat} {x : α} (h : i < xs.length) : upd xs (i : Int) x = some (xs.set i x) := by
  unfold upd; rw [if_pos (by omega)]; rfl
theorem made_ok {α : Type} {b : Nat} {n : Nat} {z : α} (h : n ≤ 1000000000000 ∧ n * b ≤ 140737488355328) : made b (n : Int) z = some (List.replicate n z) := by
  unfold made; rw [if_pos ⟨by omega, by omega, by have := h.2; rw [← Int.natCast_mul]; omega⟩]; rfl
theorem idx_ok {α : Type} {xs : List α} {i : Nat} (h : i < xs.length) : idx xs (i : Int) = some xs[i] := by rw [idx_nat]; exact List.getElem?_eq_getElem h
theorem w64_nat {i : Nat} (h : i < 9223372036854775808) : w64 (i : Int) = i := w64_eq (by omega)
/-- A loop that goes through a list as long as P holds. -/
theorem Loop_all {α J A : Type} (xs : List α) (P : α → Bool) {j : J} {r : A} {body : Nat → Option (Nat ⊕ (J ⊕ A))}
    (he : body xs.length = some (.inr (.inl j))) (hb : ∀ i x, i < xs.length → xs[i]? = some x → body i = if P x = true then some (.inl (i + 1)) else some (.inr (.inr r))) :
    Loop 0 body = some (if xs.all P = true then .inl j else .inr r) := by
  refine Loop_list (fun (_ : Unit) i => i) xs (fun _ l q => q = if l.all P = true then .inl j else .inr r) (fun a q h => ?_) (fun a i x l q hx hi _ h => ?_) (a := ()) rfl
  · rw [he, h]; rfl
  · rw [hb i x hi hx, h, List.all_cons]
    cases hP : P x
    · left; rfl
    · right; exact ⟨(), rfl, rfl⟩
/-- A loop through numbers that ends, whatever it gives. -/
theorem Loop_N {Q : Type} (n : Nat) {body : Nat → Option (Nat ⊕ Q)} (h : ∀ i, i < n → body i = some (.inl (i + 1)) ∨ ∃ q, body i = some (.inr q)) (he : ∃ q, body n = some (.inr q)) : ∃ q, Loop 0 body = some q := by
  obtain ⟨q, hq, _⟩ := Loop_ex (body := body) (fun i => i ≤ n) (fun _ => True) (fun i => n - i) (fun i hi => by
    rcases Nat.lt_or_ge i n with h1 | h1
    · rcases h i h1 with h2 | ⟨q, h2⟩
      · exact .inr ⟨i + 1, h2, h1, by omega⟩
      · exact .inl ⟨q, h2, trivial⟩
    · obtain rfl : i = n := by omega
      obtain ⟨q, h2⟩ := he
      exact .inl ⟨q, h2, trivial⟩) (s := 0) (Nat.zero_le _)
  exact ⟨q, hq⟩
theorem jx_ex {J A : Type} {x : Option (J ⊕ A)} {k : J → Option A} (h : ∃ o, x = some o) (hk : ∀ j, ∃ r, k j = some r) : ∃ r, jx x k = some r := by
  obtain ⟨o, rfl⟩ := h
  cases o with
  | inl j => exact hk j
  | inr a => exact ⟨a, rfl⟩
theorem bind_ex {α β : Type} {x : Option α} {k : α → Option β} (h : ∃ o, x = some o) (hk : ∀ j, ∃ r, k j = some r) : ∃ r, x.bind k = some r := by
  obtain ⟨o, rfl⟩ := h
  exact hk o
theorem if_ex {α : Type} {c : Prop} [Decidable c] {x y : Option α} (h : c → ∃ r, x = some r) (h' : ¬ c → ∃ r, y = some r) : ∃ r, (if c then x else y) = some r := by
  by_cases hc : c
  · rw [if_pos hc]; exact h hc
  · rw [if_neg hc]; exact h' hc
/-! ### what a step gives, without saying it twice -/
/-- Something is given, and P holds of it. -/
def Gives {α : Type} (x : Option α) (P : α → Prop) : Prop := ∃ r, x = some r ∧ P r
/-- One of two ways on. -/
def Two {S Q : Type} (I : S → Prop) (P : Q → Prop) : S ⊕ Q → Prop | .inl s => I s | .inr q => P q
theorem Gives.some {α : Type} {r : α} {P : α → Prop} (h : P r) : Gives (some r) P := ⟨r, rfl, h⟩
theorem Gives.of {α : Type} {x : Option α} {r : α} {P : α → Prop} (hx : x = .some r) (h : P r) : Gives x P := ⟨r, hx, h⟩
theorem Gives.mono {α : Type} {x : Option α} {P P' : α → Prop} (h : Gives x P) (hp : ∀ r, P r → P' r) : Gives x P' := let ⟨r, h1, h2⟩ := h; ⟨r, h1, hp r h2⟩
theorem Gives.bind {α β : Type} {x : Option α} {k : α → Option β} {P : β → Prop} (G : α → Prop) (h : Gives x G) (hk : ∀ a, G a → Gives (k a) P) : Gives (x.bind k) P := by
  obtain ⟨a, rfl, ha⟩ := h
  exact hk a ha
/-- A step whose result is known. -/
theorem Gives.bindE {α β : Type} {x : Option α} {a : α} {k : α → Option β} {P : β → Prop} (h : x = .some a) (hk : Gives (k a) P) : Gives (x.bind k) P := by
  rw [h]; exact hk
theorem Gives.jx {J A : Type} {x : Option (J ⊕ A)} {k : J → Option A} {P : A → Prop} (G : J → Prop) (h : Gives x (Two G P)) (hk : ∀ j, G j → Gives (k j) P) : Gives (Mir.jx x k) P := by
  obtain ⟨o, rfl, ho⟩ := h
  cases o with
  | inl j => exact hk j ho
  | inr a => exact ⟨a, rfl, ho⟩
theorem Gives.ite {α : Type} {c : Prop} [Decidable c] {x y : Option α} {P : α → Prop} (h : c → Gives x P) (h' : ¬ c → Gives y P) : Gives (if c then x else y) P := by
  by_cases hc : c
  · rw [if_pos hc]; exact h hc
  · rw [if_neg hc]; exact h' hc
theorem Gives.pos {α : Type} {c : Prop} [Decidable c] {x y : Option α} {P : α → Prop} (hc : c) (h : Gives x P) : Gives (if c then x else y) P := by rw [if_pos hc]; exact h
theorem Gives.neg {α : Type} {c : Prop} [Decidable c] {x y : Option α} {P : α → Prop} (hc : ¬ c) (h : Gives y P) : Gives (if c then x else y) P := by rw [if_neg hc]; exact h
theorem Gives.loop {S Q : Type} {s : S} {body : S → Option (S ⊕ Q)} {P : Q → Prop} (I : S → Prop) (μ : S → Nat) (h0 : I s) (h : ∀ s, I s → Gives (body s) (Two (fun s' => I s' ∧ μ s' < μ s) P)) : Gives (Mir.Loop s body) P := by
  refine Loop_ex I P μ (fun s hs => ?_) h0
  obtain ⟨o, h1, h2⟩ := h s hs
  cases o with
  | inl s' => exact .inr ⟨s', h1, h2⟩
  | inr q => exact .inl ⟨q, h1, h2⟩
/-- A loop through the numbers below n. -/
theorem Gives.for {Q : Type} {body : Nat → Option (Nat ⊕ Q)} {P : Q → Prop} (n : Nat) (I : Nat → Prop) (h0 : I 0) (h : ∀ i, i < n → I i → Gives (body i) (Two (fun j => j = i + 1 ∧ I j) P)) (he : I n → Gives (body n) (Two (fun _ => False) P)) : Gives (Mir.Loop 0 body) P := by
  refine Gives.loop (fun i => i ≤ n ∧ I i) (fun i => n - i) ⟨Nat.zero_le _, h0⟩ fun i hi => ?_
  rcases Nat.lt_or_ge i n with h1 | h1
  · refine (h i h1 hi.2).mono fun o ho => ?_
    cases o with
    | inl j => obtain ⟨rfl, hj⟩ := ho; exact ⟨⟨h1, hj⟩, by omega⟩
    | inr q => exact ho
  · obtain rfl : i = n := by omega
    refine (he hi.2).mono fun o ho => ?_
    cases o with
    | inl j => exact ho.elim
    | inr q => exact ho
end Go.Mir
