/- Tokens, in plain words. -/
import Derived.Test.YtchecaeeiejjjaaVaBR
namespace Go.Proofs.Ytchecaeeiejjjaa
open Go Go.Mir
set_option linter.unusedVariables false
def isSp (b : UInt8) : Bool := decide (b.toNat = 32)
def hd (f : UInt8 → Bool) (r : List UInt8) : Bool := match r with | [] => false | d :: _ => f d
def wdR (c : UInt8) (r : List UInt8) : Bool := isWordB c || (decide (c.toNat = 39) || (decide (c.toNat = 45) && hd isDigB r))
def wR (c : UInt8) (r : List UInt8) : List UInt8 := if wdR c r = true then r.takeWhile isWordB else []
def toksR (n : Nat) (u : List UInt8) : List DToken :=
  match h : u.dropWhile isSp with
  | [] => [⟨[], (n : Int)⟩]
  | c :: r => ⟨c :: wR c r, ((n - (r.length + 1) : Nat) : Int)⟩ :: toksR n (r.drop (wR c r).length)
termination_by u.length
decreasing_by
  have h1 : (u.dropWhile isSp).length ≤ u.length := (List.dropWhile_sublist _).length_le
  rw [h, List.length_cons] at h1
  rw [List.length_drop]; omega
theorem toksR_nil (n : Nat) : toksR n [] = [⟨[], (n : Int)⟩] := by
  rw [toksR]; rfl
theorem toksR_drop (n : Nat) {u v : List UInt8} (h : u.dropWhile isSp = v.dropWhile isSp) : toksR n u = toksR n v := by
  rw [toksR, toksR]
  split <;> rename_i h1 <;> split <;> rename_i h2
  · rfl
  · rw [← h, h1] at h2; cases h2
  · rw [← h, h1] at h2; cases h2
  · rw [← h, h1] at h2
    cases h2; rfl
theorem toksR_sp (n : Nat) {c : UInt8} {r : List UInt8} (h : isSp c = true) : toksR n (c :: r) = toksR n r := toksR_drop n (by rw [List.dropWhile_cons, if_pos h])
theorem toksR_tok (n : Nat) {c : UInt8} {r : List UInt8} (h : ¬ isSp c = true) : toksR n (c :: r) = ⟨c :: wR c r, ((n - (r.length + 1) : Nat) : Int)⟩ :: toksR n (r.drop (wR c r).length) := by
  have e : (c :: r).dropWhile isSp = c :: r := by rw [List.dropWhile_cons, if_neg h]
  rw [toksR]
  split
  · rename_i h1; rw [e] at h1; cases h1
  · rename_i h1; rw [e] at h1; cases h1; rfl
theorem toksR_len (n : Nat) : ∀ (k : Nat) (u : List UInt8), u.length ≤ k → (toksR n u).length ≤ u.length + 1
  | k, [], _ => by rw [toksR_nil]; exact Nat.le_refl _
  | 0, c :: r, h => by rw [List.length_cons] at h; omega
  | k + 1, c :: r, h => by
    rw [List.length_cons] at h ⊢
    by_cases hs : isSp c = true
    · rw [toksR_sp n hs]
      have := toksR_len n k r (by omega)
      omega
    · rw [toksR_tok n hs, List.length_cons]
      have h1 : (r.drop (wR c r).length).length ≤ r.length := by rw [List.length_drop]; omega
      have := toksR_len n k (r.drop (wR c r).length) (by omega)
      omega
/-- The last token is the end. -/
def Ends (L : List DToken) : Prop := ∃ i a, L = i ++ [a] ∧ a.s = []
theorem Ends.ne {L : List DToken} (h : Ends L) : L ≠ [] := by
  obtain ⟨i, a, rfl, _⟩ := h
  simp
theorem Ends.tail {a : DToken} {r : List DToken} (h : Ends (a :: r)) (hs : a.s ≠ []) : Ends r := by
  obtain ⟨i, b, h1, h2⟩ := h
  cases i with
  | nil =>
    rw [List.nil_append] at h1
    obtain ⟨rfl, _⟩ := List.cons.inj h1
    exact absurd h2 hs
  | cons x i =>
    obtain ⟨_, h3⟩ := List.cons.inj h1
    exact ⟨i, b, h3, h2⟩
theorem toksR_ends (n : Nat) : ∀ (k : Nat) (u : List UInt8), u.length ≤ k → Ends (toksR n u)
  | k, [], _ => by rw [toksR_nil]; exact ⟨[], _, rfl, rfl⟩
  | 0, c :: r, h => by rw [List.length_cons] at h; omega
  | k + 1, c :: r, h => by
    rw [List.length_cons] at h
    by_cases hs : isSp c = true
    · rw [toksR_sp n hs]
      exact toksR_ends n k r (by omega)
    · rw [toksR_tok n hs]
      have h1 : (r.drop (wR c r).length).length ≤ r.length := by rw [List.length_drop]; omega
      obtain ⟨i, a, e1, e2⟩ := toksR_ends n k (r.drop (wR c r).length) (by omega)
      exact ⟨_ :: i, a, by rw [e1]; rfl, e2⟩
theorem take_tw {l : List UInt8} (f : UInt8 → Bool) : l.take (l.takeWhile f).length = l.takeWhile f := (List.prefix_iff_eq_take.1 (List.takeWhile_prefix f)).symm
theorem take_wR {c : UInt8} {r : List UInt8} : r.take (wR c r).length = wR c r := by
  unfold wR
  split
  · exact take_tw _
  · rfl
theorem wR_len (c : UInt8) (r : List UInt8) : (wR c r).length ≤ r.length := by
  unfold wR
  split
  · exact (List.takeWhile_prefix _).length_le
  · exact Nat.zero_le _
theorem drop_at {t r : List UInt8} {p : Nat} {c : UInt8} (h : t.drop p = c :: r) : p < t.length ∧ t[p]? = some c ∧ t.drop (p + 1) = r ∧ t.length - (r.length + 1) = p := by
  have hp : p < t.length := by
    rcases Nat.lt_or_ge p t.length with h1 | h1
    · exact h1
    · rw [List.drop_of_length_le h1] at h; cases h
  have hl : (t.drop p).length = t.length - p := List.length_drop
  rw [h, List.length_cons] at hl
  rw [List.drop_eq_getElem_cons hp] at h
  obtain ⟨h1, h2⟩ := List.cons.inj h
  exact ⟨hp, by rw [List.getElem?_eq_getElem hp, h1], h2, by omega⟩
theorem drop_split {t : List UInt8} {p : Nat} (h : p < t.length) : ∃ c r, t.drop p = c :: r := ⟨_, _, List.drop_eq_getElem_cons h⟩
theorem idx_hd {t r : List UInt8} {p : Nat} (h : t.drop p = r) (f : UInt8 → Bool) : hd f r = match t[p]? with | none => false | some d => f d := by
  subst h
  rcases Nat.lt_or_ge p t.length with h1 | h1
  · rw [List.drop_eq_getElem_cons h1, List.getElem?_eq_getElem h1]; rfl
  · rw [List.drop_of_length_le h1, List.getElem?_eq_none h1]; rfl
theorem r_tokens (g : Nat) {t : List UInt8} (hn : t.length ≤ 20000) : m_ref08_tokens g t = some (toksR t.length t) := by
  unfold m_ref08_tokens
  refine Gives.eq ?_
  refine Gives.bind (fun T => T.length ≤ 20000 ∧ T ++ [⟨[], ((t.length : Nat) : Int)⟩] = toksR t.length t) ?_ fun T hT => Gives.bindE (push_small 20001 (by simp only [List.length_cons, List.length_nil]; omega) (by decide)) (Gives.some hT.2)
  refine Gives.loop (fun s => ∃ p : Nat, s.2 = (p : Int) ∧ p ≤ t.length ∧ s.1.length ≤ p ∧ s.1 ++ toksR t.length (t.drop p) = toksR t.length t) (fun s => t.length - s.2.toNat) ⟨0, rfl, Nat.zero_le _, Nat.le_refl _, rfl⟩ ?_
  rintro ⟨T, _⟩ ⟨p, rfl, p1, p2, p3⟩
  dsimp only at p2 p3 ⊢
  refine Gives.ite (fun c1 => ?_) (fun c1 => Gives.some ⟨by show T.length ≤ 20000; omega, ?_⟩)
  · obtain ⟨c, r, hd'⟩ := drop_split (t := t) (p := p) (by omega)
    obtain ⟨q1, q2, q3, q4⟩ := drop_at hd'
    rw [hd'] at p3
    have hi : idx t (p : Int) = some c := by rw [idx_nat]; exact q2
    have hw1 : w64 ((p : Int) + 1) = ((p + 1 : Nat) : Int) := by rw [w64_eq (by omega)]; rfl
    refine Gives.bindE hi (Gives.ite (fun c2 => Gives.some ⟨⟨p + 1, hw1, by omega, by show T.length ≤ p + 1; omega, ?_⟩, by dsimp only; rw [hw1]; omega⟩) (fun c2 => ?_))
    · dsimp only
      rw [q3, ← p3, toksR_sp _ (decide_eq_true (by omega))]
    · have hns : ¬ isSp c = true := fun h => c2 (by have : c.toNat = 32 := of_decide_eq_true h; omega)
      rw [toksR_tok _ hns, q4] at p3
      refine Gives.bind (fun z => z = wdR c r) ?_ fun z hz => ?_
      · unfold wdR
        refine Gives.bindE hi (Gives.bindE (r_word g _) (Gives.ite (fun c3 => Gives.some (by rw [c3]; rfl)) (fun c3 => ?_)))
        rw [show isWordB c = false by simpa using c3, Bool.false_or]
        refine Gives.bindE hi (Gives.ite (fun c4 => Gives.some (by rw [decide_eq_true (by omega)]; rfl)) (fun c4 => ?_))
        rw [decide_eq_false (by omega), Bool.false_or]
        refine Gives.bindE hi (Gives.ite (fun c5 => ?_) (fun c5 => Gives.some (by rw [decide_eq_false (by omega)]; rfl)))
        rw [decide_eq_true (by omega), Bool.true_and, hw1, idx_hd q3]
        refine Gives.ite (fun c6 => ?_) (fun c6 => Gives.some (by rw [List.getElem?_eq_none (by omega)]))
        refine Gives.bindE (by rw [idx_nat]; exact List.getElem?_eq_getElem (by omega)) (Gives.bindE (r_digit g _) (Gives.some ?_))
        rw [List.getElem?_eq_getElem (by omega)]
      subst hz
      have hwl := wR_len c r
      have hrl : r.length = t.length - (p + 1) := by rw [← q3, List.length_drop]
      refine Gives.bind (fun z => z = ((p + 1 + (wR c r).length : Nat) : Int)) ?_ fun z hz => ?_
      · refine Gives.loop (fun s => s.2 = wdR c r ∧ ∃ e : Nat, s.1 = (e : Int) ∧ p + 1 ≤ e ∧ e ≤ t.length ∧ (wdR c r = true → (r.takeWhile isWordB).length = (e - (p + 1)) + ((t.drop e).takeWhile isWordB).length) ∧ (¬ wdR c r = true → e = p + 1)) (fun s => t.length - s.1.toNat) ⟨rfl, p + 1, hw1, Nat.le_refl _, by omega, (fun _ => by rw [q3]; omega), fun _ => rfl⟩ ?_
        rintro ⟨_, _⟩ ⟨rfl, e, rfl, e1, e2, e3, e4⟩
        dsimp only
        refine Gives.bind (fun z => z.1 = wdR c r ∧ z.2 = (wdR c r && hd isWordB (t.drop e))) ?_ fun z hz => ?_
        · refine Gives.ite (fun c3 => ?_) (fun c3 => Gives.some (by rw [show wdR c r = false by simpa using c3]; exact ⟨rfl, rfl⟩))
          rw [c3, Bool.true_and, idx_hd (t := t) (p := e) rfl]
          refine Gives.ite (fun c4 => ?_) (fun c4 => Gives.some ⟨rfl, by rw [List.getElem?_eq_none (by omega)]⟩)
          refine Gives.bindE (by rw [idx_nat]; exact List.getElem?_eq_getElem (by omega)) (Gives.bindE (r_word g _) (Gives.some ⟨rfl, ?_⟩))
          rw [List.getElem?_eq_getElem (by omega)]
        · obtain ⟨z1, z2⟩ := z
          obtain ⟨h1, h2⟩ := hz
          dsimp only at h1 h2 ⊢
          subst h1 h2
          refine Gives.ite (fun c3 => ?_) (fun c3 => ?_)
          · obtain ⟨c4, c5⟩ := Bool.and_eq_true_iff.1 c3
            have hel : e < t.length := by
              rcases Nat.lt_or_ge e t.length with h | h
              · exact h
              · rw [List.drop_of_length_le h] at c5; cases c5
            obtain ⟨b, r', hb⟩ := drop_split hel
            obtain ⟨_, _, b3, _⟩ := drop_at hb
            rw [hb] at c5
            have e3' := e3 c4
            rw [hb, List.takeWhile_cons, if_pos (show isWordB b = true from c5), List.length_cons] at e3'
            have hw2 : w64 ((e : Int) + 1) = ((e + 1 : Nat) : Int) := by rw [w64_eq (by omega)]; rfl
            exact Gives.some ⟨⟨rfl, e + 1, hw2, by omega, by omega, (fun _ => by rw [b3]; omega), fun h => absurd c4 h⟩, by dsimp only; rw [hw2]; omega⟩
          · refine Gives.some ?_
            show (e : Int) = _
            unfold wR
            by_cases c4 : wdR c r = true
            · rw [if_pos c4, e3 c4]
              have : ((t.drop e).takeWhile isWordB).length = 0 := by
                rw [c4, Bool.true_and] at c3
                cases hte : t.drop e with
                | nil => rfl
                | cons b r' =>
                  rw [hte] at c3
                  rw [List.takeWhile_cons, if_neg (show ¬ isWordB b = true from c3)]; rfl
              omega
            · rw [if_neg c4, e4 c4]; rfl
      · subst hz
        refine Gives.bindE (sub_ok ⟨by omega, by omega, by omega⟩) ?_
        rw [Int.toNat_natCast, Int.toNat_natCast, List.drop_take, hd', show p + 1 + (wR c r).length - p = (wR c r).length + 1 by omega, List.take_succ_cons, take_wR]
        refine Gives.bindE (push_small 20001 (by simp only [List.length_cons, List.length_nil]; omega) (by decide)) (Gives.some ⟨⟨p + 1 + (wR c r).length, rfl, by omega, by dsimp only; simp only [List.length_append, List.length_cons, List.length_nil]; omega, ?_⟩, by dsimp only; omega⟩)
        dsimp only
        rw [← p3, List.append_assoc, List.singleton_append, ← q3, List.drop_drop]
  · obtain rfl : p = t.length := by omega
    rw [List.drop_length, toksR_nil] at p3
    exact p3
def wdP (c : UInt8) (r : List UInt8) : Bool := isWordB c || ((decide (c.toNat = 45) || decide (c.toNat = 39)) && hd isWordB r)
def wP (c : UInt8) (r : List UInt8) : List UInt8 := if wdP c r = true then r.takeWhile isWordB else []
theorem m_token (g : Nat) {t : List UInt8} (hn : t.length ≤ 20000) {p : Nat} (hp : p ≤ t.length) (f : Int) :
    Gives (m_value_reader_token g t (p : Int) f) (fun x => ((t.drop p).dropWhile isSp = [] ∧ x = ([], ((t.length : Nat) : Int))) ∨ ∃ c r q, (t.drop p).dropWhile isSp = c :: r ∧ t.drop q = c :: r ∧ x = (c :: wP c r, ((q : Nat) : Int))) := by
  unfold m_value_reader_token
  refine Gives.bind (fun z => ∃ q : Nat, z = (q : Int) ∧ q ≤ t.length ∧ t.drop q = (t.drop p).dropWhile isSp) ?_ fun z hz => ?_
  · refine Gives.loop (fun z => ∃ q : Nat, z = (q : Int) ∧ q ≤ t.length ∧ (t.drop q).dropWhile isSp = (t.drop p).dropWhile isSp) (fun z => t.length - z.toNat) ⟨p, rfl, hp, rfl⟩ ?_
    rintro _ ⟨q, rfl, q1, q2⟩
    refine Gives.bind (fun z => z = hd isSp (t.drop q)) ?_ fun z hz => ?_
    · rw [idx_hd (t := t) (p := q) rfl]
      refine Gives.ite (fun c => ?_) (fun c => Gives.some (by rw [List.getElem?_eq_none (by omega)]))
      refine Gives.bindE (by rw [idx_nat]; exact List.getElem?_eq_getElem (by omega)) (Gives.some ?_)
      rw [List.getElem?_eq_getElem (by omega)]
      exact decide_eq_decide.2 (by omega)
    · subst hz
      have hel : hd isSp (t.drop q) = true → q < t.length := fun h => by
        rcases Nat.lt_or_ge q t.length with h1 | h1
        · exact h1
        · rw [List.drop_of_length_le h1] at h; cases h
      refine Gives.ite (fun c => ?_) (fun c => Gives.some ⟨q, rfl, q1, ?_⟩)
      · obtain ⟨b, r', hb⟩ := drop_split (hel c)
        obtain ⟨_, _, b3, _⟩ := drop_at hb
        rw [hb] at c q2
        rw [List.dropWhile_cons, if_pos (show isSp b = true from c)] at q2
        have hw2 : w64 ((q : Int) + 1) = ((q + 1 : Nat) : Int) := by rw [w64_eq (by omega)]; rfl
        exact Gives.some ⟨⟨q + 1, hw2, by omega, by rw [b3]; exact q2⟩, by rw [hw2]; omega⟩
      · rw [← q2]
        cases hte : t.drop q with
        | nil => rfl
        | cons b r' =>
          rw [hte] at c
          rw [List.dropWhile_cons, if_neg (show ¬ isSp b = true from c)]
  · obtain ⟨q, rfl, q1, q2⟩ := hz
    refine Gives.ite (fun c1 => Gives.some (.inl ⟨?_, ?_⟩)) (fun c1 => ?_)
    · rw [← q2, List.drop_of_length_le (by omega)]
    · rw [c1]
    · obtain ⟨c, r, hd'⟩ := drop_split (t := t) (p := q) (by omega)
      obtain ⟨d1, d2, d3, d4⟩ := drop_at hd'
      have hi : idx t (q : Int) = some c := by rw [idx_nat]; exact d2
      have hw1 : w64 ((q : Int) + 1) = ((q + 1 : Nat) : Int) := by rw [w64_eq (by omega)]; rfl
      have hnx : Gives (if w64 ((q : Int) + 1) < ((t.length : Nat) : Int) then
            (Mir.idx t (Mir.w64 ((q : Int) + 1))).bind fun x29 =>
            (m_value_isWordByte g ((x29.toNat : Nat) : Int)).bind fun q31 =>
            some q31
          else
            some false) (fun z => z = hd isWordB r) := by
        rw [hw1, idx_hd d3]
        refine Gives.ite (fun c6 => ?_) (fun c6 => Gives.some (by rw [List.getElem?_eq_none (by omega)]))
        refine Gives.bindE (by rw [idx_nat]; exact List.getElem?_eq_getElem (by omega)) (Gives.bindE (m_word g _) (Gives.some ?_))
        rw [List.getElem?_eq_getElem (by omega)]
      refine Gives.bind (fun z => z = if ((decide (c.toNat = 45) || decide (c.toNat = 39)) && hd isWordB r) = true then ((q + 1 : Nat) : Int) else (q : Int)) ?_ fun z hz => ?_
      · refine Gives.bind (fun z => z = ((decide (c.toNat = 45) || decide (c.toNat = 39)) && hd isWordB r)) ?_ fun z hz => ?_
        · refine Gives.bindE hi (Gives.ite (fun c2 => hnx.mono fun z hz => ?_) (fun c2 => Gives.bindE hi (Gives.ite (fun c3 => hnx.mono fun z hz => ?_) (fun c3 => Gives.some ?_))))
          · rw [hz, decide_eq_true (show c.toNat = 45 by omega)]; rfl
          · rw [hz, decide_eq_true (show c.toNat = 39 by omega), Bool.or_true]; rfl
          · rw [decide_eq_false (show ¬ c.toNat = 45 by omega), decide_eq_false (show ¬ c.toNat = 39 by omega)]; rfl
        · subst hz
          refine Gives.ite (fun c2 => Gives.some (by rw [if_pos c2, hw1])) (fun c2 => Gives.some (by rw [if_neg c2]))
      subst hz
      have hrl : r.length = t.length - (q + 1) := by rw [← d3, List.length_drop]
      have hend : ∀ s : Nat, s ≤ t.length → Gives (Mir.Loop (S := Int) (Q := Int) (s : Int) fun s53 =>
        (
          if s53 < ((t.length : Nat) : Int) then
            (Mir.idx t s53).bind fun x64 =>
            (m_value_isWordByte g ((x64.toNat : Nat) : Int)).bind fun q66 =>
            some q66
          else
            some false
        : Option Bool).bind fun (z59 : Bool) =>
        if z59 = true then
          some (.inl (Mir.w64 (s53 + 1)))
        else
          some (.inr s53)) (fun z => z = ((s + ((t.drop s).takeWhile isWordB).length : Nat) : Int)) := fun s hs => by
        refine Gives.loop (fun z => ∃ e : Nat, z = (e : Int) ∧ s ≤ e ∧ e ≤ t.length ∧ ((t.drop s).takeWhile isWordB).length = (e - s) + ((t.drop e).takeWhile isWordB).length) (fun z => t.length - z.toNat) ⟨s, rfl, Nat.le_refl _, hs, by omega⟩ ?_
        rintro _ ⟨e, rfl, e1, e2, e3⟩
        refine Gives.bind (fun z => z = hd isWordB (t.drop e)) ?_ fun z hz => ?_
        · rw [idx_hd (t := t) (p := e) rfl]
          refine Gives.ite (fun c => ?_) (fun c => Gives.some (by rw [List.getElem?_eq_none (by omega)]))
          refine Gives.bindE (by rw [idx_nat]; exact List.getElem?_eq_getElem (by omega)) (Gives.bindE (m_word g _) (Gives.some ?_))
          rw [List.getElem?_eq_getElem (by omega)]
        · subst hz
          refine Gives.ite (fun c => ?_) (fun c => Gives.some ?_)
          · have hel : e < t.length := by
              rcases Nat.lt_or_ge e t.length with h | h
              · exact h
              · rw [List.drop_of_length_le h] at c; cases c
            obtain ⟨b, r', hb⟩ := drop_split hel
            obtain ⟨_, _, b3, _⟩ := drop_at hb
            rw [hb] at c
            rw [hb, List.takeWhile_cons, if_pos (show isWordB b = true from c), List.length_cons] at e3
            have hw2 : w64 ((e : Int) + 1) = ((e + 1 : Nat) : Int) := by rw [w64_eq (by omega)]; rfl
            exact Gives.some ⟨⟨e + 1, hw2, by omega, by omega, by rw [b3]; omega⟩, by rw [hw2]; omega⟩
          · have : ((t.drop e).takeWhile isWordB).length = 0 := by
              cases hte : t.drop e with
              | nil => rfl
              | cons b r' =>
                rw [hte] at c
                rw [List.takeWhile_cons, if_neg (show ¬ isWordB b = true from c)]; rfl
            show (e : Int) = _
            omega
      have htw : (r.takeWhile isWordB).length ≤ r.length := (List.takeWhile_prefix _).length_le
      have hfin : ∀ e : Nat, e ≤ t.length → (if (q + 1 : Int) > (e : Int) then (q + 1 : Int) else (e : Int)) = ((q + 1 + (wP c r).length : Nat) : Int) → Gives ((Mir.sub t (q : Int) (if (Mir.w64 ((q : Int) + 1)) > (e : Int) then Mir.w64 ((q : Int) + 1) else (e : Int))).bind fun x72 =>
    some (x72, (q : Int))) (fun x => x = (c :: wP c r, ((q : Nat) : Int))) := fun e he h => by
        have hwl : (wP c r).length ≤ r.length := by
          unfold wP
          split
          · exact htw
          · exact Nat.zero_le _
        rw [w64_eq (a := (q : Int) + 1) (by omega), h]
        refine Gives.bindE (sub_ok ⟨by omega, by omega, by omega⟩) (Gives.some ?_)
        rw [Int.toNat_natCast, Int.toNat_natCast, List.drop_take, hd', show q + 1 + (wP c r).length - q = (wP c r).length + 1 by omega, List.take_succ_cons]
        have : r.take (wP c r).length = wP c r := by
          unfold wP
          split
          · exact take_tw _
          · rfl
        rw [this]
      have hout : ∀ x : List UInt8 × Int, x = (c :: wP c r, ((q : Nat) : Int)) → ((t.drop p).dropWhile isSp = [] ∧ x = ([], ((t.length : Nat) : Int))) ∨ ∃ c r q, (t.drop p).dropWhile isSp = c :: r ∧ t.drop q = c :: r ∧ x = (c :: wP c r, ((q : Nat) : Int)) := fun x hx => .inr ⟨c, r, q, by rw [← q2, hd'], hd', hx⟩
      by_cases cw : isWordB c = true
      · have hz : ((decide (c.toNat = 45) || decide (c.toNat = 39)) && hd isWordB r) = false := by
          have : ¬ (c.toNat = 45) ∧ ¬ (c.toNat = 39) := by
            unfold isWordB at cw
            have := of_decide_eq_true cw
            omega
          rw [decide_eq_false this.1, decide_eq_false this.2]; rfl
        rw [hz, if_neg (by decide)]
        refine Gives.bind _ (hend q q1) fun z hz => ?_
        subst hz
        refine (hfin _ (by rw [hd', List.takeWhile_cons, if_pos cw, List.length_cons]; omega) ?_).mono hout
        rw [hd', List.takeWhile_cons, if_pos cw, List.length_cons]
        unfold wP wdP
        rw [cw, Bool.true_or, if_pos rfl]
        split <;> omega
      · have cwf : isWordB c = false := by simpa using cw
        by_cases c5 : ((decide (c.toNat = 45) || decide (c.toNat = 39)) && hd isWordB r) = true
        · rw [if_pos c5]
          refine Gives.bind _ (hend (q + 1) (by omega)) fun z hz => ?_
          subst hz
          refine (hfin _ (by rw [d3]; omega) ?_).mono hout
          rw [d3]
          unfold wP wdP
          rw [c5, Bool.or_true, if_pos rfl]
          split <;> omega
        · rw [if_neg c5]
          refine Gives.bind _ (hend q q1) fun z hz => ?_
          subst hz
          refine (hfin _ (by rw [hd', List.takeWhile_cons, if_neg cw]; exact q1) ?_).mono hout
          rw [hd', List.takeWhile_cons, if_neg cw]
          unfold wP wdP
          rw [cwf, Bool.false_or, if_neg c5]
          show (if (q + 1 : Int) > ((q + 0 : Nat) : Int) then _ else _) = _
          rw [if_pos (by omega)]; rfl
end Go.Proofs.Ytchecaeeiejjjaa
