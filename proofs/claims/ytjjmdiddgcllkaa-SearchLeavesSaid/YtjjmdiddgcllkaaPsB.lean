/- Places of a tree in plain words: which one is ahead. -/
import Derived.Test.YtjjmdiddgcllkaaPsA
namespace Go.Proofs.Ytjjmdiddgcllkaa
open Go Go.Mir
set_option linter.unusedVariables false
def lexL : List Int → List Int → Bool
  | [], [] => false
  | [], _ :: _ => true
  | _ :: _, [] => false
  | a :: x, b :: y => if a = b then lexL x y else decide (a < b)
def bfS : List Int → List Int → Unit ⊕ Bool
  | [], _ => .inl ()
  | _ :: _, [] => .inr false
  | a :: x, b :: y => if a = b then bfS x y else .inr (decide (a < b))
def bfR : List Int → List Int → Unit ⊕ Bool
  | [], _ => .inl ()
  | _ :: _, [] => .inl ()
  | a :: x, b :: y => if a = b then bfR x y else .inr (decide (a < b))
theorem bfS_lex : ∀ (a b : List Int), jx (some (bfS a b)) (fun _ => some (decide ((a.length : Int) < (b.length : Int)))) = some (lexL a b)
  | [], [] => rfl
  | [], _ :: y => by
    rw [bfS, lexL, jx_inl, decide_eq_true (by simp only [List.length_nil, List.length_cons]; omega)]
  | _ :: _, [] => rfl
  | a :: x, b :: y => by
    rw [bfS, lexL]
    by_cases h : a = b
    · rw [if_pos h, if_pos h, ← bfS_lex x y]
      congr 1
      funext _
      simp
    · rw [if_neg h, if_neg h]; rfl
theorem bfR_lex : ∀ (a b : List Int), jx (some (bfR a b)) (fun _ => some (decide ((a.length : Int) < (b.length : Int)))) = some (lexL a b)
  | [], [] => rfl
  | [], _ :: y => by
    rw [bfR, lexL, jx_inl, decide_eq_true (by simp only [List.length_nil, List.length_cons]; omega)]
  | x :: y, [] => by
    rw [bfR, lexL, jx_inl, decide_eq_false (by simp only [List.length_nil, List.length_cons]; omega)]
  | a :: x, b :: y => by
    rw [bfR, lexL]
    by_cases h : a = b
    · rw [if_pos h, if_pos h, ← bfR_lex x y]
      congr 1
      funext _
      simp
    · rw [if_neg h, if_neg h]; rfl
theorem drop_at {α : Type} {xs : List α} {i : Nat} {x : α} (h : xs[i]? = some x) : xs.drop i = x :: xs.drop (i + 1) := by
  obtain ⟨h1, rfl⟩ := List.getElem?_eq_some_iff.1 h
  exact List.drop_eq_getElem_cons h1
theorem m_before (g : Nat) (a b : List Int) : m_search_before g a b = some (lexL a b) := by
  unfold m_search_before
  rw [Loop_rel (fun (i : Nat) q => i ≤ a.length ∧ q = bfS (a.drop i) (b.drop i)) (fun i => a.length - i) (q := bfS a b) ?_ ⟨Nat.zero_le _, rfl⟩]
  · exact bfS_lex a b
  · rintro i q ⟨hi, rfl⟩
    by_cases h1 : i < a.length
    · have e1 := List.getElem?_eq_getElem h1
      rw [if_pos (by omega), drop_at e1]
      by_cases h2 : i < b.length
      · have e2 := List.getElem?_eq_getElem h2
        rw [if_neg (by omega), e1, e2, drop_at e2]
        simp only [Option.bind_some, bfS]
        by_cases h3 : a[i] = b[i]
        · right
          exact ⟨i + 1, by rw [if_pos h3], ⟨by omega, by rw [if_pos h3]⟩, by omega⟩
        · left
          rw [if_neg h3, if_neg h3]
      · left
        rw [if_pos (by omega), List.drop_of_length_le (show b.length ≤ i by omega), bfS]
    · left
      rw [if_neg (by omega), List.drop_of_length_le (show a.length ≤ i by omega), bfS]
theorem m_isLess (g : Nat) {a b : List Int} (hb : a.length < 9223372036854775807) : m_ref13_isLess g a b = some (lexL a b) := by
  unfold m_ref13_isLess
  rw [Loop_rel (fun (j : Int) q => ∃ i : Nat, j = i ∧ i ≤ a.length ∧ q = bfR (a.drop i) (b.drop i)) (fun j => a.length - j.toNat) (s := 0) (q := bfR a b) ?_ ⟨0, rfl, Nat.zero_le _, rfl⟩]
  · exact bfR_lex a b
  · rintro j q ⟨i, rfl, hi, rfl⟩
    by_cases h1 : i < a.length
    · have e1 := List.getElem?_eq_getElem h1
      rw [if_pos (show (i : Int) < (a.length : Int) by omega), drop_at e1]
      by_cases h2 : i < b.length
      · have e2 := List.getElem?_eq_getElem h2
        rw [decide_eq_true (show (i : Int) < (b.length : Int) by omega), Option.bind_some, if_pos rfl, idx_nat, idx_nat, e1, e2, drop_at e2]
        simp only [Option.bind_some, bfR]
        by_cases h3 : a[i] = b[i]
        · right
          exact ⟨w64 ((i : Int) + 1), by rw [if_pos h3], ⟨i + 1, by rw [w64_eq (by omega)]; omega, by omega, by rw [if_pos h3]⟩, by rw [w64_eq (by omega)]; omega⟩
        · left
          rw [if_neg h3, if_neg h3]
      · left
        rw [decide_eq_false (show ¬ (i : Int) < (b.length : Int) by omega), List.drop_of_length_le (show b.length ≤ i by omega), bfR]
        rfl
    · left
      rw [if_neg (show ¬ (i : Int) < (a.length : Int) by omega), List.drop_of_length_le (show a.length ≤ i by omega), bfR]
      rfl
theorem lexL_irr : ∀ a, lexL a a = false
  | [] => rfl
  | a :: x => by rw [lexL, if_pos rfl, lexL_irr x]
theorem lexL_trans : ∀ {a b c}, lexL a b = true → lexL b c = true → lexL a c = true
  | _, _, [], _, h => by
    rename_i b _
    cases b <;> simp [lexL] at h
  | [], _, _ :: _, _, _ => rfl
  | _ :: _, [], _ :: _, h, _ => by simp [lexL] at h
  | a :: x, b :: y, c :: z, h1, h2 => by
    rw [lexL] at h1 h2 ⊢
    by_cases e1 : a = b
    · subst e1
      rw [if_pos rfl] at h1
      by_cases e2 : a = c
      · rw [if_pos e2] at h2 ⊢
        exact lexL_trans h1 h2
      · rwa [if_neg e2] at h2 ⊢
    · rw [if_neg e1] at h1
      have h1 := of_decide_eq_true h1
      by_cases e2 : b = c
      · subst e2; rw [if_neg e1]; exact decide_eq_true h1
      · rw [if_neg e2] at h2
        have h2 := of_decide_eq_true h2
        rw [if_neg (by omega)]
        exact decide_eq_true (by omega)
theorem lexL_total : ∀ {a b}, a ≠ b → lexL a b = true ∨ lexL b a = true
  | [], [], h => absurd rfl h
  | [], _ :: _, _ => .inl rfl
  | _ :: _, [], _ => .inr rfl
  | a :: x, b :: y, h => by
    rw [lexL, lexL]
    by_cases e : a = b
    · rw [if_pos e, if_pos e.symm]
      exact lexL_total fun h' => h (by rw [e, h'])
    · rw [if_neg e, if_neg (Ne.symm e)]
      rcases Int.lt_or_lt_of_ne e with h | h
      · exact .inl (decide_eq_true h)
      · exact .inr (decide_eq_true h)
/-- What a strategy asks of a place ahead of the lexicographic order. -/
def rk (how : Int) (l : List Int) : Int := if how = 1 then l.length else if how = 2 then w64 ((l.length : Int).tdiv 3) else if how = 3 then l.foldl (fun n x => w64 (n + x)) 0 else 0
theorem m_sum (g : Nat) (l : List Int) : m_search_sum g l = some (l.foldl (fun n x => w64 (n + x)) 0) ∧ m_ref13_sum g l = some (l.foldl (fun n x => w64 (n + x)) 0) := by
  unfold m_search_sum m_ref13_sum
  have := Loop_list (fun (a : Int) i => (a, i)) l (fun a r q => q = r.foldl (fun n x => w64 (n + x)) a) (body := fun s6 =>
      if ((s6.2 : Nat) : Int) < ((l.length : Nat) : Int) then
        ((l)[s6.2]?).bind fun x11 =>
        some (.inl (Mir.w64 (s6.1 + x11), s6.2 + 1))
      else
        some (.inr s6.1)) (by rintro a q rfl; simp) (by
        rintro a i x r q hx hi _ rfl
        right
        exact ⟨_, by rw [if_pos (by simp; omega), hx]; rfl, rfl⟩) (a := 0) rfl
  rw [this]
  exact ⟨rfl, rfl⟩
theorem m_rank (g : Nat) {how : Int} (h0 : 0 ≤ how) (h4 : how < 4) : ∃ L f, m_search_ranks g = some L ∧ assoc L how = some f ∧ ∀ l, m_table1 g f l = some (rk how l) := by
  refine ⟨_, if how = 0 then 36 else if how = 1 then 37 else if how = 2 then 38 else 39, rfl, ?_, ?_⟩
  · obtain rfl | rfl | rfl | rfl : how = 0 ∨ how = 1 ∨ how = 2 ∨ how = 3 := by omega
    all_goals rfl
  · intro l
    obtain rfl | rfl | rfl | rfl : how = 0 ∨ how = 1 ∨ how = 2 ∨ how = 3 := by omega
    · rfl
    · rfl
    · rfl
    · exact (m_sum g l).1
def ahd (how : Int) (a b : List Int) : Bool := if rk how a = rk how b then lexL a b else decide (rk how a < rk how b)
theorem m_Ahead (g : Nat) {how : Int} {a b : List Int} (hb : a.length < 9223372036854775807) : m_ref13_Ahead g how a b = some (ahd how a b) := by
  unfold m_ref13_Ahead ahd rk
  rw [m_isLess g hb, (m_sum g a).2, (m_sum g b).2]
  by_cases h1 : how = 1
  · simp only [h1, if_pos, Option.bind_some]
    by_cases e : (a.length : Int) = b.length
    · rw [if_pos e, if_pos e]
    · rw [if_neg e, if_neg e]
  · by_cases h2 : how = 2
    · subst h2
      simp only [if_pos, Option.bind_some, if_neg (show ¬ (2 : Int) = 1 by decide), quo, if_neg (show ¬ (3 : Int) = 0 by decide)]
      by_cases e : w64 ((a.length : Int).tdiv 3) = w64 ((b.length : Int).tdiv 3)
      · rw [if_pos e, if_pos e]
      · rw [if_neg e, if_neg e]
    · by_cases h3 : how = 3
      · simp only [if_neg h1, if_neg h2, if_pos h3, Option.bind_some]
        by_cases e : a.foldl (fun n x => w64 (n + x)) 0 = b.foldl (fun n x => w64 (n + x)) 0
        · rw [if_pos e, if_pos e]
        · rw [if_neg e, if_neg e]
      · simp only [if_neg h1, if_neg h2, if_neg h3, Option.bind_some, if_pos]
theorem ahd_irr (how : Int) (a : List Int) : ahd how a a = false := by rw [ahd, if_pos rfl, lexL_irr]
theorem ahd_trans {how : Int} {a b c : List Int} (h1 : ahd how a b = true) (h2 : ahd how b c = true) : ahd how a c = true := by
  unfold ahd at *
  generalize rk how a = x at *
  generalize rk how b = y at *
  generalize rk how c = z at *
  by_cases e1 : x = y
  · subst e1
    rw [if_pos rfl] at h1
    by_cases e2 : x = z
    · rw [if_pos e2] at h2 ⊢; exact lexL_trans h1 h2
    · rwa [if_neg e2] at h2 ⊢
  · rw [if_neg e1] at h1
    have h1 := of_decide_eq_true h1
    by_cases e2 : y = z
    · subst e2; rw [if_neg e1]; exact decide_eq_true h1
    · rw [if_neg e2] at h2
      have h2 := of_decide_eq_true h2
      rw [if_neg (by omega)]
      exact decide_eq_true (by omega)
theorem ahd_total {how : Int} {a b : List Int} (h : a ≠ b) : ahd how a b = true ∨ ahd how b a = true := by
  unfold ahd
  by_cases e : rk how a = rk how b
  · rw [if_pos e, if_pos e.symm]; exact lexL_total h
  · rw [if_neg e, if_neg (Ne.symm e)]
    rcases Int.lt_or_lt_of_ne e with h | h
    · exact .inl (decide_eq_true h)
    · exact .inr (decide_eq_true h)
theorem ahd_asym {how : Int} {a b : List Int} (h : ahd how a b = true) : ahd how b a = false := by
  cases h' : ahd how b a
  · rfl
  · have := ahd_trans h h'
    rw [ahd_irr] at this
    cases this
end Go.Proofs.Ytjjmdiddgcllkaa
