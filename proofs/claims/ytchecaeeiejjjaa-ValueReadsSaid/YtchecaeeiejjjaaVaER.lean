/- Reading values, in plain words: what the program reads. -/
import Derived.Test.YtchecaeeiejjjaaVaDR
namespace Go.Proofs.Ytchecaeeiejjjaa
open Go Go.Mir
set_option linter.unusedVariables false
def junk (s : List UInt8) : Prop := s ≠ [] ∧ s ≠ [40] ∧ s ≠ [41] ∧ leafS s = none
theorem dw_head {f : UInt8 → Bool} : ∀ {u : List UInt8} {c : UInt8} {r : List UInt8}, u.dropWhile f = c :: r → ¬ f c = true
  | [], c, r, h => by cases h
  | x :: u, c, r, h => by
    rw [List.dropWhile_cons] at h
    split at h
    · exact dw_head h
    · rename_i h1
      obtain ⟨rfl, _⟩ := List.cons.inj h
      exact h1
theorem dig_word {b : UInt8} (h : isDigB b = true) : isWordB b = true := by
  have : 48 ≤ b.toNat ∧ b.toNat ≤ 57 := of_decide_eq_true h
  exact decide_eq_true (by omega)
theorem w_same {c : UInt8} {r : List UInt8} : wP c r = wR c r ∨ (c.toNat = 45 ∧ hd isDigB r = false) := by
  unfold wP wR wdP wdR
  by_cases c1 : isWordB c = true
  · rw [c1, Bool.true_or, Bool.true_or]; exact .inl rfl
  · rw [show isWordB c = false by simpa using c1, Bool.false_or, Bool.false_or]
    by_cases c2 : c.toNat = 45
    · rw [decide_eq_true c2, decide_eq_false (show ¬ c.toNat = 39 by omega), Bool.true_or, Bool.true_and, Bool.false_or, Bool.true_and]
      cases h : hd isDigB r with
      | false => exact .inr ⟨c2, rfl⟩
      | true =>
        refine .inl ?_
        have : hd isWordB r = true := by
          cases r with
          | nil => cases h
          | cons d r => exact dig_word h
        rw [this]
    · refine .inl ?_
      rw [decide_eq_false c2, Bool.false_or, Bool.false_and, Bool.or_false]
      by_cases c3 : c.toNat = 39
      · rw [decide_eq_true c3, Bool.true_and, if_pos rfl]
        cases r with
        | nil => rfl
        | cons d r =>
          by_cases c4 : isWordB d = true
          · rw [if_pos (show hd isWordB (d :: r) = true from c4)]
          · rw [if_neg (show ¬ hd isWordB (d :: r) = true from c4), List.takeWhile_cons, if_neg c4]
      · rw [decide_eq_false c3, Bool.false_and]
theorem junk_minus {c : UInt8} {r w : List UInt8} (h : c.toNat = 45) (hr : hd isDigB r = false) (hw : w = [] ∨ w = r.takeWhile isWordB) : junk (c :: w) := by
  have hc : c = 45 := UInt8.toNat_inj.1 (by rw [h]; rfl)
  subst hc
  refine ⟨by simp, fun h => ?_, fun h => ?_, ?_⟩
  · have := (List.cons.inj h).1; revert this; decide
  · have := (List.cons.inj h).1; revert this; decide
  · have hn : (numR w).2 = false := by
      have hnil : numR [] = (0, false) := numR_bad (.inl rfl)
      rcases hw with rfl | rfl
      · rw [hnil]
      · cases r with
        | nil => rw [List.takeWhile_nil, hnil]
        | cons d r =>
          rw [List.takeWhile_cons]
          split
          · rw [numR_letter (show ¬ isDigB d = true by rw [show isDigB d = false from hr]; decide)]
          · rw [hnil]
    unfold leafS
    dsimp only
    rw [if_neg (by decide), if_neg (by decide), if_neg (by decide), if_pos (by decide), if_neg (fun h => by rw [hn] at h; exact absurd h.1 (by decide))]
theorem wP_or (c : UInt8) (r : List UInt8) : wP c r = [] ∨ wP c r = r.takeWhile isWordB := by
  unfold wP
  split
  · exact .inr rfl
  · exact .inl rfl
theorem wR_or (c : UInt8) (r : List UInt8) : wR c r = [] ∨ wR c r = r.takeWhile isWordB := by
  unfold wR
  split
  · exact .inr rfl
  · exact .inl rfl
/-- A place of the program stands at some tokens. -/
def On (t : List UInt8) (i : Int) (L : List DToken) : Prop := ∃ p : Nat, i = (p : Int) ∧ p ≤ t.length ∧ toksR t.length (t.drop p) = L
theorem m_tok (g : Nat) {t : List UInt8} (hn : t.length ≤ 20000) {i : Int} {a : DToken} {r : List DToken} (h : On t i (a :: r)) (f : Int) :
    Gives (m_value_reader_token g t i f) (fun x => x.2 = a.f_at ∧ 0 ≤ a.f_at ∧ a.f_at ≤ 20000 ∧ ((x.1 = a.s ∧ (a.s ≠ [] → a.s.length ≤ 20000 ∧ On t (a.f_at + ((a.s.length : Nat) : Int)) r)) ∨ (junk x.1 ∧ junk a.s))) := by
  obtain ⟨p, rfl, hp, hL⟩ := h
  refine (m_token g hn hp f).mono fun x hx => ?_
  rcases hx with ⟨h1, rfl⟩ | ⟨c, r', q, h1, h2, rfl⟩
  · rw [toksR_drop (v := []) _ (by rw [h1]; rfl), toksR_nil] at hL
    obtain ⟨rfl, _⟩ := List.cons.inj hL
    exact ⟨rfl, by dsimp only; omega, by dsimp only; omega, .inl ⟨rfl, fun h => absurd rfl h⟩⟩
  · have hns := dw_head h1
    obtain ⟨d1, d2, d3, d4⟩ := drop_at h2
    have e : (c :: r').dropWhile isSp = c :: r' := by rw [List.dropWhile_cons, if_neg hns]
    rw [toksR_drop (v := c :: r') _ (by rw [h1, e]), toksR_tok _ hns, d4] at hL
    obtain ⟨rfl, rfl⟩ := List.cons.inj hL
    have hwl := wR_len c r'
    have hrl : r'.length = t.length - (q + 1) := by rw [← d3, List.length_drop]
    refine ⟨rfl, by dsimp only; omega, by dsimp only; omega, ?_⟩
    rcases w_same (c := c) (r := r') with h | ⟨h3, h4⟩
    · refine .inl ⟨by rw [h], fun _ => ⟨by dsimp only; rw [List.length_cons]; omega, q + (1 + (wR c r').length), ?_, by omega, ?_⟩⟩
      · dsimp only; rw [List.length_cons]; omega
      · rw [← d3, List.drop_drop, Nat.add_assoc]
    · exact .inr ⟨junk_minus h3 h4 (wP_or c r'), junk_minus h3 h4 (wR_or c r')⟩
def FailAt (f : Int) (L : List DToken) : Prop := ∃ a r, L = a :: r ∧ f = a.f_at ∧ 0 ≤ a.f_at
def Stuck (f : Int) (L : List DToken) : Prop := ∃ a r, L = a :: r ∧ f = a.f_at ∧ 0 ≤ a.f_at ∧ a.s ≠ [] ∧ a.s ≠ [41]
def ProgG (t : List UInt8) : Out → DValue × Int × Int → Prop
  | .okV v L, x => x.2.2 = -1 ∧ x.1 = v ∧ On t x.2.1 L
  | .bad L, x => FailAt x.2.2 L
  | .okK _ _, _ => False
def ProgV (t : List UInt8) : Out → DValue × Int × Int → Prop
  | .okV v L, x => (x.2.2 = -1 ∧ x.1 = v ∧ On t x.2.1 L) ∨ Stuck x.2.2 L
  | .bad L, x => FailAt x.2.2 L
  | .okK _ _, _ => False
def ProgK (t : List UInt8) : Out → Int × Int × List DValue → Prop
  | .okK ks L, x => (x.2.1 = -1 ∧ x.2.2 = ks ∧ On t x.1 L) ∨ Stuck x.2.1 L
  | .bad L, x => FailAt x.2.1 L
  | .okV _ _, _ => False
noncomputable def anyBody (g : Nat) (a0 : Int) (a1 : List UInt8) (op : Int) : Int × Int × List DValue → Option ((Int × Int × List DValue) ⊕ (Int × Int × List DValue)) := fun s60 =>
            (
              if s60.2.1 < 0 then
                if op = 1 then
                  some true
                else
                  some (decide (op = 4))
              else
                some false
            : Option Bool).bind fun (z73 : Bool) =>
            if z73 = true then
              (m_value_reader_token g a1 s60.1 s60.2.1).bind fun q78 =>
              (
                if q78.1 = ([] : List UInt8) then
                  some true
                else
                  some (decide (q78.1 = ([41] : List UInt8)))
              : Option Bool).bind fun (z82 : Bool) =>
              if z82 = true then
                some (.inr (s60.1, s60.2.1, s60.2.2))
              else
                if q78.1 = ([40] : List UInt8) then
                  (m_value_reader_group g a0 a1 s60.1 s60.2.1).bind fun q89 =>
                  (Mir.push 56 s60.2.2 [q89.1]).bind fun x104 =>
                  some (.inl (q89.2.1, q89.2.2, x104))
                else
                  (m_value_isAtom g q78.1).bind fun q109 =>
                  if q109 = true then
                    (m_value_atom g q78.1).bind fun q119 =>
                    (Mir.small q78.1).bind fun x124 =>
                    (Mir.push 56 s60.2.2 [(DValue.mk q119.1 q119.2.1 q119.2.2.1 ([] : List DValue))]).bind fun x131 =>
                    some (.inl (Mir.w64 (q78.2 + ((q78.1.length : Nat) : Int)), s60.2.1, x131))
                  else
                    (m_value_reader_fail g q78.2 a1 s60.1 s60.2.1).bind fun q114 =>
                    some (.inr (s60.1, q114, s60.2.2))
            else
              some (.inr (s60.1, s60.2.1, s60.2.2))
theorem any_eq (g : Nat) (a0 : Int) (a1 : List UInt8) (a2 a3 : Int) : m_value_reader_any (g + 1) a0 a1 a2 a3 =
    ((m_value_reader_token g a1 a2 a3).bind fun q2 =>
    (
      if q2.1 = ([] : List UInt8) then
        some true
      else
        if q2.1 = ([40] : List UInt8) then
          some false
        else
          if q2.1 = ([41] : List UInt8) then
            some true
          else
            (m_value_isAtom g q2.1).bind fun q13 =>
            some (!q13)
    : Option Bool).bind fun (z6 : Bool) =>
    if z6 = true then
      (m_value_reader_fail g q2.2 a1 a2 a3).bind fun q18 =>
      some ((DValue.mk 0 ([] : List UInt8) 0 ([] : List DValue)), a2, q18)
    else
      if q2.1 = ([40] : List UInt8) then
        (m_value_reader_group g a0 a1 a2 a3).bind fun q24 =>
        some (q24.1, q24.2.1, q24.2.2)
      else
        (Mir.small q2.1).bind fun x33 =>
        (m_value_atom g q2.1).bind fun q35 =>
        (Mir.Loop (Mir.w64 (q2.2 + ((q2.1.length : Nat) : Int)), a3, ([] : List DValue)) (anyBody g a0 a1 q35.1)).bind fun (z40 : Int × Int × List DValue) =>
        some ((DValue.mk q35.1 q35.2.1 q35.2.2.1 z40.2.2), z40.1, z40.2.1)) := by
  rw [m_value_reader_any]; rfl
theorem m_fail (g : Nat) (i : Int) (t : List UInt8) (p : Int) : m_value_reader_fail g i t p (-1) = some i := by
  unfold m_value_reader_fail; rw [if_pos (by decide)]
/-- What is told of a task. -/
def Told (a0 : Int) (t : List UInt8) : Task → Out → Prop
  | .val L, o => L.length ≤ 20001 → ∀ g, 2 * L.length ≤ g → ∀ i, On t i L → Gives (m_value_reader_any g a0 t i (-1)) (ProgV t o) ∧ ((∃ a r, L = a :: r ∧ a.s = [40]) → Gives (m_value_reader_group g a0 t i (-1)) (ProgG t o))
  | .kids L acc, o => acc.length + L.length ≤ 20001 → ∀ g, 2 * L.length ≤ g → ∀ i, On t i L → ∀ op : Int, (op = 1 ∨ op = 4) → Gives (Mir.Loop (i, -1, acc) (anyBody g a0 t op)) (ProgK t o)
theorem any_group {a0 : Int} {t : List UInt8} (hn : t.length ≤ 20000) {a : DToken} {r : List DToken} (ha : a.s = [40]) {o : Out} (G : Nat) (h : ∀ g, G ≤ g → ∀ i, On t i (a :: r) → Gives (m_value_reader_group g a0 t i (-1)) (ProgG t o)) :
    ∀ g, G + 1 ≤ g → ∀ i, On t i (a :: r) → Gives (m_value_reader_any g a0 t i (-1)) (ProgV t o) ∧ ((∃ a' r', a :: r = a' :: r' ∧ a'.s = [40]) → Gives (m_value_reader_group g a0 t i (-1)) (ProgG t o)) := by
  refine fun g hg i hi => ⟨?_, fun _ => h g (by omega) i hi⟩
  obtain ⟨g, rfl⟩ : ∃ g', g = g' + 1 := ⟨g - 1, by omega⟩
  rw [any_eq]
  refine Gives.bind _ (m_tok g hn hi (-1)) fun x hx => ?_
  obtain ⟨x1, x2, x3, x4⟩ := hx
  have hx0 : x.1 = [40] := by
    rcases x4 with ⟨h1, _⟩ | ⟨_, h2⟩
    · rw [h1, ha]
    · exact absurd ha h2.2.1
  rw [hx0]
  refine Gives.bind (fun z => z = false) (Gives.neg (by decide) (Gives.pos rfl (Gives.some rfl))) fun z hz => ?_
  subst hz
  refine Gives.neg (by decide) (Gives.pos rfl (Gives.bind _ (h g (by omega) i hi) fun y hy => Gives.some ?_))
  match o, hy with
  | .okV v L, hy => exact .inl hy
  | .bad L, hy => exact hy
theorem told {a0 : Int} {t : List UInt8} (hn : t.length ≤ 20000) {tk : Task} {o : Out} (h : PP tk o) : Told a0 t tk o := by
  induction h with
  | @grp a c r r' v h1 h2 h3 ih =>
    intro hL
    rw [List.length_cons] at hL
    have hG := ih (by omega)
    refine fun g hg => any_group hn h1 (2 * r.length + 1) (fun g hg i hi => ?_) g (by rw [List.length_cons] at hg; omega)
    obtain ⟨g, rfl⟩ : ∃ g', g = g' + 1 := ⟨g - 1, by omega⟩
    rw [m_value_reader_group]
    refine Gives.bind _ (m_tok g hn hi (-1)) fun x hx => ?_
    obtain ⟨x1, x2, x3, x4⟩ := hx
    have hon : On t (a.f_at + 1) r := by
      rcases x4 with ⟨_, h4⟩ | ⟨_, h4⟩
      · have := (h4 (by rw [h1]; decide)).2
        rwa [h1] at this
      · exact absurd h1 h4.2.1
    rw [x1, w64_eq (by omega)]
    refine Gives.bind _ (hG g (by omega) _ hon).1 fun y hy => ?_
    rcases hy with ⟨y1, y2, y3⟩ | ⟨a', r'', y1, y2, y3, y4, y5⟩
    · refine Gives.neg (by omega) ?_
      rw [y1]
      refine Gives.bind _ (m_tok g hn y3 (-1)) fun z hz => ?_
      obtain ⟨z1, z2, z3, z4⟩ := hz
      rcases z4 with ⟨z4, z5⟩ | ⟨_, z5⟩
      · refine Gives.pos (by rw [z4, h3]) (Gives.some ⟨rfl, y2, ?_⟩)
        have := (z5 (by rw [h3]; decide)).2
        rw [h3] at this
        dsimp only
        rw [z1, w64_eq (by omega)]
        exact this
      · exact absurd h3 z5.2.2.1
    · obtain ⟨rfl, _⟩ := List.cons.inj y1
      exact absurd h3 y5
  | @grpNo a c r r' v h1 h2 h3 ih =>
    intro hL
    rw [List.length_cons] at hL
    have hG := ih (by omega)
    refine fun g hg => any_group hn h1 (2 * r.length + 1) (fun g hg i hi => ?_) g (by rw [List.length_cons] at hg; omega)
    obtain ⟨g, rfl⟩ : ∃ g', g = g' + 1 := ⟨g - 1, by omega⟩
    rw [m_value_reader_group]
    refine Gives.bind _ (m_tok g hn hi (-1)) fun x hx => ?_
    obtain ⟨x1, x2, x3, x4⟩ := hx
    have hon : On t (a.f_at + 1) r := by
      rcases x4 with ⟨_, h4⟩ | ⟨_, h4⟩
      · have := (h4 (by rw [h1]; decide)).2
        rwa [h1] at this
      · exact absurd h1 h4.2.1
    rw [x1, w64_eq (by omega)]
    refine Gives.bind _ (hG g (by omega) _ hon).1 fun y hy => ?_
    rcases hy with ⟨y1, y2, y3⟩ | ⟨a', r'', y1, y2, y3, y4, y5⟩
    · refine Gives.neg (by omega) ?_
      rw [y1]
      refine Gives.bind _ (m_tok g hn y3 (-1)) fun z hz => ?_
      obtain ⟨z1, z2, z3, z4⟩ := hz
      refine Gives.neg (fun h => ?_) (Gives.bindE (m_fail g _ _ _) (Gives.some ⟨c, r', rfl, z1, z2⟩))
      rcases z4 with ⟨z4, _⟩ | ⟨z4, _⟩
      · exact h3 (by rw [← z4, h])
      · exact z4.2.2.1 h
    · obtain ⟨rfl, rfl⟩ := List.cons.inj y1
      exact Gives.pos (by omega) (Gives.some ⟨c, r', rfl, y2, y3⟩)
  | @grpBad a r L' h1 h2 ih =>
    intro hL
    rw [List.length_cons] at hL
    have hG := ih (by omega)
    refine fun g hg => any_group hn h1 (2 * r.length + 1) (fun g hg i hi => ?_) g (by rw [List.length_cons] at hg; omega)
    obtain ⟨g, rfl⟩ : ∃ g', g = g' + 1 := ⟨g - 1, by omega⟩
    rw [m_value_reader_group]
    refine Gives.bind _ (m_tok g hn hi (-1)) fun x hx => ?_
    obtain ⟨x1, x2, x3, x4⟩ := hx
    have hon : On t (a.f_at + 1) r := by
      rcases x4 with ⟨_, h4⟩ | ⟨_, h4⟩
      · have := (h4 (by rw [h1]; decide)).2
        rwa [h1] at this
      · exact absurd h1 h4.2.1
    rw [x1, w64_eq (by omega)]
    refine Gives.bind _ (hG g (by omega) _ hon).1 fun y hy => ?_
    obtain ⟨a', r'', y1, y2, y3⟩ := hy
    exact Gives.pos (by omega) (Gives.some ⟨a', r'', y1, y2, y3⟩)
  | @leafNo a r h1 h2 =>
    intro hL
    intro g hg i hi
    rw [List.length_cons] at hg
    refine ⟨?_, fun ⟨a', r', e1, e2⟩ => ?_⟩
    · obtain ⟨g, rfl⟩ : ∃ g', g = g' + 1 := ⟨g - 1, by omega⟩
      rw [any_eq]
      refine Gives.bind _ (m_tok g hn hi (-1)) fun x hx => ?_
      obtain ⟨x1, x2, x3, x4⟩ := hx
      have hx0 : x.1 ≠ [40] ∧ leafS x.1 = none := by
        rcases x4 with ⟨h3, _⟩ | ⟨h3, _⟩
        · rw [h3]; exact ⟨h1, h2⟩
        · exact ⟨h3.2.1, h3.2.2.2⟩
      refine Gives.bind (fun z => z = true) (Gives.ite (fun _ => Gives.some rfl) (fun c => Gives.neg hx0.1 (Gives.ite (fun _ => Gives.some rfl) (fun _ => Gives.bindE (m_isAtom g c) (Gives.some (by rw [hx0.2]; rfl)))))) fun z hz => ?_
      subst hz
      exact Gives.pos rfl (Gives.bindE (m_fail g _ _ _) (Gives.some ⟨a, r, rfl, x1, x2⟩))
    · obtain ⟨rfl, _⟩ := List.cons.inj e1
      exact absurd e2 h1
  | @num a r x h1 h2 =>
    intro hL
    obtain ⟨n1, n2, n3⟩ := leaf_ne h1
    intro g hg i hi
    rw [List.length_cons] at hg
    refine ⟨?_, fun ⟨a', r', e1, e2⟩ => ?_⟩
    · obtain ⟨g, rfl⟩ : ∃ g', g = g' + 1 := ⟨g - 1, by omega⟩
      rw [any_eq]
      refine Gives.bind _ (m_tok g hn hi (-1)) fun y hy => ?_
      obtain ⟨y1, y2, y3, y4⟩ := hy
      rcases y4 with ⟨y4, y5⟩ | ⟨_, y5⟩
      · obtain ⟨y6, y7⟩ := y5 n1
        rw [y4, y1]
        refine Gives.bind (fun z => z = false) (Gives.neg n1 (Gives.neg n2 (Gives.neg n3 (Gives.bindE (m_isAtom g n1) (Gives.some (by rw [h1]; rfl)))))) fun z hz => ?_
        subst hz
        refine Gives.neg (by decide) (Gives.neg n2 (Gives.bindE (show small a.s = some () from if_pos (by omega)) (Gives.bind _ (m_atom g n1) fun w hw => ?_)))
        rcases hw with ⟨w1, _⟩ | ⟨x', w1, rfl⟩
        · rw [h1] at w1; cases w1
        · obtain rfl : x = x' := Option.some.inj (h1.symm.trans w1)
          rw [w64_eq (by omega)]
          refine Gives.bind (fun z => z = (a.f_at + ((a.s.length : Nat) : Int), -1, [])) (Gives.step ?_) fun z hz => ?_
          · refine Gives.bind (fun z => z = false) (Gives.pos (show (-1 : Int) < 0 by decide) (Gives.neg (fun h => h2 (.inl h)) (Gives.some (decide_eq_false fun h => h2 (.inr h))))) fun z hz => ?_
            subst hz
            exact Gives.neg (by decide) (Gives.some rfl)
          · subst hz
            exact Gives.some (.inl ⟨rfl, rfl, y7⟩)
      · exact (Option.some_ne_none x (h1.symm.trans y5.2.2.2)).elim
    · obtain ⟨rfl, _⟩ := List.cons.inj e1
      exact absurd e2 n2
  | @con a r L' x ks h1 h2 h3 ih =>
    intro hL
    rw [List.length_cons] at hL
    obtain ⟨n1, n2, n3⟩ := leaf_ne h1
    have hG := ih (by simp only [List.length_nil]; omega)
    intro g hg i hi
    rw [List.length_cons] at hg
    refine ⟨?_, fun ⟨a', r', e1, e2⟩ => ?_⟩
    · obtain ⟨g, rfl⟩ : ∃ g', g = g' + 1 := ⟨g - 1, by omega⟩
      rw [any_eq]
      refine Gives.bind _ (m_tok g hn hi (-1)) fun y hy => ?_
      obtain ⟨y1, y2, y3, y4⟩ := hy
      rcases y4 with ⟨y4, y5⟩ | ⟨_, y5⟩
      · obtain ⟨y6, y7⟩ := y5 n1
        rw [y4, y1]
        refine Gives.bind (fun z => z = false) (Gives.neg n1 (Gives.neg n2 (Gives.neg n3 (Gives.bindE (m_isAtom g n1) (Gives.some (by rw [h1]; rfl)))))) fun z hz => ?_
        subst hz
        refine Gives.neg (by decide) (Gives.neg n2 (Gives.bindE (show small a.s = some () from if_pos (by omega)) (Gives.bind _ (m_atom g n1) fun w hw => ?_)))
        rcases hw with ⟨w1, _⟩ | ⟨x', w1, rfl⟩
        · rw [h1] at w1; cases w1
        · obtain rfl : x = x' := Option.some.inj (h1.symm.trans w1)
          rw [w64_eq (by omega)]
          refine Gives.bind _ (hG g (by omega) _ y7 x.1 h2) fun z hz => Gives.some ?_
          rcases hz with ⟨z1, z2, z3⟩ | hz
          · exact .inl ⟨z1, by rw [← z2], z3⟩
          · exact .inr hz
      · exact (Option.some_ne_none x (h1.symm.trans y5.2.2.2)).elim
    · obtain ⟨rfl, _⟩ := List.cons.inj e1
      exact absurd e2 n2
  | @conBad a r L' x h1 h2 h3 ih =>
    intro hL
    rw [List.length_cons] at hL
    obtain ⟨n1, n2, n3⟩ := leaf_ne h1
    have hG := ih (by simp only [List.length_nil]; omega)
    intro g hg i hi
    rw [List.length_cons] at hg
    refine ⟨?_, fun ⟨a', r', e1, e2⟩ => ?_⟩
    · obtain ⟨g, rfl⟩ : ∃ g', g = g' + 1 := ⟨g - 1, by omega⟩
      rw [any_eq]
      refine Gives.bind _ (m_tok g hn hi (-1)) fun y hy => ?_
      obtain ⟨y1, y2, y3, y4⟩ := hy
      rcases y4 with ⟨y4, y5⟩ | ⟨_, y5⟩
      · obtain ⟨y6, y7⟩ := y5 n1
        rw [y4, y1]
        refine Gives.bind (fun z => z = false) (Gives.neg n1 (Gives.neg n2 (Gives.neg n3 (Gives.bindE (m_isAtom g n1) (Gives.some (by rw [h1]; rfl)))))) fun z hz => ?_
        subst hz
        refine Gives.neg (by decide) (Gives.neg n2 (Gives.bindE (show small a.s = some () from if_pos (by omega)) (Gives.bind _ (m_atom g n1) fun w hw => ?_)))
        rcases hw with ⟨w1, _⟩ | ⟨x', w1, rfl⟩
        · rw [h1] at w1; cases w1
        · obtain rfl : x = x' := Option.some.inj (h1.symm.trans w1)
          rw [w64_eq (by omega)]
          refine Gives.bind _ (hG g (by omega) _ y7 x.1 h2) fun z hz => Gives.some ?_
          exact hz
      · exact (Option.some_ne_none x (h1.symm.trans y5.2.2.2)).elim
    · obtain ⟨rfl, _⟩ := List.cons.inj e1
      exact absurd e2 n2
  | @kLeaf a r x acc o h1 h2 ih =>
    intro hL
    rw [List.length_cons] at hL
    obtain ⟨n1, n2, n3⟩ := leaf_ne h1
    have hG := ih (by simp only [List.length_append, List.length_cons, List.length_nil]; omega)
    intro g hg i hi op hop
    rw [List.length_cons] at hg
    refine Gives.step ?_
    refine Gives.bind (fun z => z = true) (Gives.pos (show (-1 : Int) < 0 by decide) (Gives.ite (fun _ => Gives.some rfl) (fun c => Gives.some (decide_eq_true (hop.resolve_left c))))) fun z hz => ?_
    subst hz
    refine Gives.pos rfl (Gives.bind _ (m_tok g hn hi (-1)) fun y hy => ?_)
    obtain ⟨y1, y2, y3, y4⟩ := hy
    rcases y4 with ⟨y4, y5⟩ | ⟨_, y5⟩
    · obtain ⟨y6, y7⟩ := y5 n1
      rw [y4, y1]
      refine Gives.bind (fun z => z = false) (Gives.neg n1 (Gives.some (decide_eq_false n3))) fun z hz => ?_
      subst hz
      refine Gives.neg (by decide) (Gives.neg n2 (Gives.bindE (m_isAtom g n1) (Gives.pos (by rw [h1]; rfl) (Gives.bind _ (m_atom g n1) fun w hw => ?_))))
      rcases hw with ⟨w1, _⟩ | ⟨x', w1, rfl⟩
      · rw [h1] at w1; cases w1
      · obtain rfl : x = x' := Option.some.inj (h1.symm.trans w1)
        refine Gives.bindE (show small a.s = some () from if_pos (by omega)) (Gives.bindE (push_small 20001 (by simp only [List.length_cons, List.length_nil]; omega) (by decide)) ?_)
        rw [w64_eq (by omega)]
        exact Gives.some (hG g (by omega) _ y7 op hop)
    · exact (Option.some_ne_none x (h1.symm.trans y5.2.2.2)).elim
  | @kGrp a r L1 v acc o h1 h2 h3 ih1 ih2 =>
    intro hL
    have hlen := h2.len
    simp only [shorter] at hlen
    have hG1 := ih1 (by omega)
    have hG2 := ih2 (by simp only [List.length_append, List.length_cons, List.length_nil]; omega)
    intro g hg i hi op hop
    refine Gives.step ?_
    refine Gives.bind (fun z => z = true) (Gives.pos (show (-1 : Int) < 0 by decide) (Gives.ite (fun _ => Gives.some rfl) (fun c => Gives.some (decide_eq_true (hop.resolve_left c))))) fun z hz => ?_
    subst hz
    refine Gives.pos rfl (Gives.bind _ (m_tok g hn hi (-1)) fun y hy => ?_)
    obtain ⟨y1, y2, y3, y4⟩ := hy
    have hx0 : y.1 = [40] := by
      rcases y4 with ⟨h1', _⟩ | ⟨_, h2'⟩
      · rw [h1', h1]
      · exact absurd h1 h2'.2.1
    rw [hx0]
    refine Gives.bind (fun z => z = false) (Gives.neg (by decide) (Gives.some (decide_eq_false (by decide)))) fun z hz => ?_
    subst hz
    refine Gives.neg (by decide) (Gives.pos rfl (Gives.bind _ ((hG1 g (by omega) i hi).2 ⟨a, r, rfl, h1⟩) fun w hw => ?_))
    obtain ⟨w1, w2, w3⟩ := hw
    rw [List.length_cons] at hL
    refine Gives.bindE (push_small 20001 (by simp only [List.length_cons, List.length_nil]; omega) (by decide)) (Gives.some ?_)
    rw [w1, w2]
    exact hG2 g (by omega) _ w3 op hop
  | @kGrpBad a r L' acc h1 h2 ih =>
    intro hL
    have hG1 := ih (by omega)
    intro g hg i hi op hop
    refine Gives.step ?_
    refine Gives.bind (fun z => z = true) (Gives.pos (show (-1 : Int) < 0 by decide) (Gives.ite (fun _ => Gives.some rfl) (fun c => Gives.some (decide_eq_true (hop.resolve_left c))))) fun z hz => ?_
    subst hz
    refine Gives.pos rfl (Gives.bind _ (m_tok g hn hi (-1)) fun y hy => ?_)
    obtain ⟨y1, y2, y3, y4⟩ := hy
    have hx0 : y.1 = [40] := by
      rcases y4 with ⟨h1', _⟩ | ⟨_, h2'⟩
      · rw [h1', h1]
      · exact absurd h1 h2'.2.1
    rw [hx0]
    refine Gives.bind (fun z => z = false) (Gives.neg (by decide) (Gives.some (decide_eq_false (by decide)))) fun z hz => ?_
    subst hz
    refine Gives.neg (by decide) (Gives.pos rfl (Gives.bind _ ((hG1 g (by omega) i hi).2 ⟨a, r, rfl, h1⟩) fun w hw => ?_))
    obtain ⟨a', r', w1, w2, w3⟩ := hw
    rw [List.length_cons] at hL
    refine Gives.bindE (push_small 20001 (by simp only [List.length_cons, List.length_nil]; omega) (by decide)) (Gives.some (Gives.step ?_))
    refine Gives.bind (fun z => z = false) (Gives.neg (by dsimp only; omega) (Gives.some rfl)) fun z hz => ?_
    subst hz
    exact Gives.neg (by decide) (Gives.some ⟨a', r', w1, w2, w3⟩)
  | @kEnd a r acc h1 h2 =>
    intro hL
    intro g hg i hi op hop
    refine Gives.step ?_
    refine Gives.bind (fun z => z = true) (Gives.pos (show (-1 : Int) < 0 by decide) (Gives.ite (fun _ => Gives.some rfl) (fun c => Gives.some (decide_eq_true (hop.resolve_left c))))) fun z hz => ?_
    subst hz
    refine Gives.pos rfl (Gives.bind _ (m_tok g hn hi (-1)) fun y hy => ?_)
    obtain ⟨y1, y2, y3, y4⟩ := hy
    refine Gives.bind (fun z => z = decide (y.1 = [] ∨ y.1 = [41])) (Gives.ite (fun c => Gives.some (decide_eq_true (.inl c)).symm) (fun c => Gives.some (decide_eq_decide.2 ⟨.inr, fun h => h.resolve_left c⟩))) fun z hz => ?_
    subst hz
    refine Gives.ite (fun c => Gives.some (.inl ⟨rfl, rfl, hi⟩)) (fun c => ?_)
    have c := fun h => c (decide_eq_true h)
    have hx0 : y.1 ≠ [40] ∧ leafS y.1 = none ∧ a.s ≠ [] ∧ a.s ≠ [41] := by
      rcases y4 with ⟨h3, _⟩ | ⟨h3, h4⟩
      · rw [h3] at c ⊢
        exact ⟨h2, h1, fun h => c (.inl h), fun h => c (.inr h)⟩
      · exact ⟨h3.2.1, h3.2.2.2, h4.1, h4.2.2.1⟩
    refine Gives.neg hx0.1 (Gives.bindE (m_isAtom g (fun h => c (.inl h))) (Gives.neg (by rw [hx0.2.1]; decide) (Gives.bindE (m_fail g _ _ _) (Gives.some (.inr ⟨a, r, rfl, y1, y2, hx0.2.2.1, hx0.2.2.2⟩)))))
end Go.Proofs.Ytchecaeeiejjjaa
