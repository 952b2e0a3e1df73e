/- Narrowing in plain words: it gives the greatest consistent domains. -/
import Derived.Test.YtopmcncaanjboaaDmDF
namespace Go.Proofs.Ytopmcncaanjboaa
open Go Go.Mir
set_option linter.unusedVariables false
/-- Sets of values, one for each variable, within some domains. -/
def Fam (D : List (List Int)) (E : Int → Int → Prop) : Prop := ∀ v n, E v n → n ∈ domOf D v
/-- One limit supports all values of its variables. -/
def ConsL (l : DLimit) (E : Int → Int → Prop) : Prop :=
  (∀ (i : Nat) v n, l.Vars[i]? = some v → E v n → ∃ x : List Int, x.length = l.Vars.length ∧ (∀ (k : Nat) w, l.Vars[k]? = some w → ∃ y, x[k]? = some y ∧ E w y) ∧ x[i]? = some n ∧ holdsL l x = true) ∧ (l.Vars = [] → holdsL l [] = true)
def ConsE (Ls : List DLimit) (E : Int → Int → Prop) : Prop := ∀ l ∈ Ls, ConsL l E
def FullE (N : Nat) (E : Int → Int → Prop) : Prop := ∀ v : Int, 0 ≤ v → v < N → ∃ n, E v n
def InD (D : List (List Int)) (v n : Int) : Prop := n ∈ domOf D v
structure Narrowed (Doms : List (List Int)) (Ls : List DLimit) (D : List (List Int)) : Prop where
  len : D.length = Doms.length
  sub : ∀ v, ∃ f : Int → Bool, domOf D v = (domOf Doms v).filter f
  ne : ∀ d ∈ D, 0 < d.length
  top : ∀ E, Fam Doms E → ConsE Ls E → Fam D E
def NarrowSpec (Doms : List (List Int)) (Ls : List DLimit) (r : List (List Int) × Bool) : Prop :=
  (r.2 = true ∧ Narrowed Doms Ls r.1 ∧ ConsE Ls (InD r.1)) ∨ (r = ([], false) ∧ ∀ E, Fam Doms E → ConsE Ls E → ¬ FullE Doms.length E)
theorem risP_lt {l : List Int} (h : risP l) : ∀ (k i : Nat) x y, l[i]? = some x → l[i + k + 1]? = some y → x < y
  | 0, i, x, y, hx, hy => h i x y hx hy
  | k + 1, i, x, y, hx, hy => by
    have hl := (List.getElem?_eq_some_iff.1 hy).1
    have e := List.getElem?_eq_getElem (show i + k + 1 < l.length by omega)
    have h1 := risP_lt h k i x _ hx e
    have h2 := h (i + k + 1) _ y e (by rwa [show i + k + 1 + 1 = i + (k + 1) + 1 by omega])
    omega
theorem risP_inj {l : List Int} (h : risP l) {i k : Nat} {x : Int} (hi : l[i]? = some x) (hk : l[k]? = some x) : i = k := by
  rcases Nat.lt_trichotomy i k with h1 | h1 | h1
  · have := risP_lt h (k - i - 1) i x x hi (by rwa [show i + (k - i - 1) + 1 = k by omega])
    omega
  · exact h1
  · have := risP_lt h (i - k - 1) k x x hk (by rwa [show k + (i - k - 1) + 1 = i by omega])
    omega
theorem domOf_nat {D : List (List Int)} {k : Nat} : domOf D (k : Int) = (D[k]?).getD [] := by unfold domOf; rw [idx_nat]
theorem domOf_mem {D : List (List Int)} {v : Int} (h : 0 ≤ v ∧ v < D.length) : domOf D v ∈ D := by
  obtain ⟨k, rfl⟩ : ∃ k : Nat, v = k := ⟨v.toNat, by omega⟩
  rw [domOf_nat, List.getElem?_eq_getElem (show k < D.length by omega)]
  exact List.getElem_mem _
theorem domOf_in {D : List (List Int)} {v n : Int} (h : n ∈ domOf D v) : 0 ≤ v ∧ v < D.length := by
  by_cases hv : 0 ≤ v
  · obtain ⟨k, rfl⟩ : ∃ k : Nat, v = k := ⟨v.toNat, by omega⟩
    rw [domOf_nat] at h
    by_cases hk : k < D.length
    · omega
    · rw [List.getElem?_eq_none (by omega)] at h
      cases h
  · unfold domOf idx at h
    rw [if_neg hv] at h
    cases h
theorem domOf_ext {D D' : List (List Int)} (hl : D'.length = D.length) (h : ∀ v, domOf D' v = domOf D v) : D' = D := by
  apply List.ext_getElem?
  intro k
  by_cases hk : k < D.length
  · have := h (k : Int)
    rw [domOf_nat, domOf_nat, List.getElem?_eq_getElem hk, List.getElem?_eq_getElem (show k < D'.length by omega)] at this
    rw [List.getElem?_eq_getElem hk, List.getElem?_eq_getElem (show k < D'.length by omega)]
    exact congrArg some this
  · rw [List.getElem?_eq_none (by omega), List.getElem?_eq_none (by omega)]
theorem domOf_set {D : List (List Int)} {k : Nat} (hk : k < D.length) (d : List Int) (v : Int) : domOf (D.set k d) v = if v = k then d else domOf D v := by
  by_cases hv : 0 ≤ v
  · obtain ⟨j, rfl⟩ : ∃ j : Nat, v = j := ⟨v.toNat, by omega⟩
    rw [domOf_nat, domOf_nat]
    by_cases e : j = k
    · subst e; rw [if_pos rfl, List.getElem?_set_self hk]; rfl
    · rw [if_neg (by omega), List.getElem?_set_ne (by omega)]
  · rw [if_neg (by omega)]
    unfold domOf idx
    rw [if_neg hv, if_neg hv]
def total (D : List (List Int)) : Nat := (D.map List.length).sum
theorem total_le : ∀ {D D' : List (List Int)}, D'.length = D.length → (∀ k : Nat, (domOf D' k).length ≤ (domOf D k).length) → total D' ≤ total D
  | [], [], _, _ => Nat.le_refl _
  | d :: D, d' :: D', hl, h => by
    have h0 := h 0
    have h1 := total_le (D := D) (D' := D') (by simpa using hl) fun k => by
      have := h (k + 1)
      rwa [domOf_nat, domOf_nat, List.getElem?_cons_succ, List.getElem?_cons_succ, ← domOf_nat, ← domOf_nat] at this
    simp only [total, List.map_cons, List.sum_cons] at *
    rw [domOf_nat, domOf_nat] at h0
    simp at h0
    omega
  | [], _ :: _, h, _ => by cases h
  | _ :: _, [], h, _ => by cases h
theorem total_lt : ∀ {D D' : List (List Int)}, D'.length = D.length → (∀ k : Nat, (domOf D' k).length ≤ (domOf D k).length) → (∃ k : Nat, (domOf D' k).length < (domOf D k).length) → total D' < total D
  | [], [], _, _, ⟨k, hk⟩ => by rw [domOf_nat] at hk; simp at hk
  | d :: D, d' :: D', hl, h, ⟨k, hk⟩ => by
    have h0 := h 0
    have hs : ∀ k : Nat, (domOf D' k).length ≤ (domOf D k).length := fun k => by
      have := h (k + 1)
      rwa [domOf_nat, domOf_nat, List.getElem?_cons_succ, List.getElem?_cons_succ, ← domOf_nat, ← domOf_nat] at this
    have h1 := total_le (D := D) (D' := D') (by simpa using hl) hs
    rw [domOf_nat, domOf_nat] at h0
    simp only [List.getElem?_cons_zero, Option.getD_some] at h0
    cases k with
    | zero =>
      rw [domOf_nat, domOf_nat] at hk
      simp only [List.getElem?_cons_zero, Option.getD_some] at hk
      simp only [total, List.map_cons, List.sum_cons] at *
      omega
    | succ k =>
      rw [domOf_nat, domOf_nat, List.getElem?_cons_succ, List.getElem?_cons_succ, ← domOf_nat, ← domOf_nat] at hk
      have := total_lt (D := D) (D' := D') (by simpa using hl) hs ⟨k, hk⟩
      simp only [total, List.map_cons, List.sum_cons] at *
      omega
  | [], _ :: _, h, _, _ => by cases h
  | _ :: _, [], h, _, _ => by cases h
/-- One limit was asked: its variables' domains have what it supports. -/
structure Rev (D : List (List Int)) (l : DLimit) (D' : List (List Int)) : Prop where
  len : D'.length = D.length
  sup : ∀ (i : Nat) v, l.Vars[i]? = some v → ∃ f : Int → Bool, domOf D' v = (domOf D v).filter f ∧ 0 < (domOf D' v).length ∧ ∀ n ∈ domOf D v, (f n = true ↔ Supp D l i n)
  oth : ∀ v, v ∉ l.Vars → domOf D' v = domOf D v
theorem Rev.le {D D' : List (List Int)} {l : DLimit} (h : Rev D l D') (v : Int) : ∃ f : Int → Bool, domOf D' v = (domOf D v).filter f := by
  by_cases hv : v ∈ l.Vars
  · obtain ⟨i, hi⟩ := List.mem_iff_getElem?.1 hv
    obtain ⟨f, h1, _⟩ := h.sup i v hi
    exact ⟨f, h1⟩
  · exact ⟨fun _ => true, by rw [h.oth v hv]; exact (List.filter_eq_self.2 fun _ _ => rfl).symm⟩
theorem Supp.of {D : List (List Int)} {l : DLimit} {E : Int → Int → Prop} (hE : Fam D E) (hc : ConsL l E) {i : Nat} {v n : Int} (hv : l.Vars[i]? = some v) (hn : E v n) : Supp D l i n := by
  obtain ⟨x, h1, h2, h3, h4⟩ := hc.1 i v n hv hn
  exact ⟨x, h1, fun k w hw => let ⟨y, y1, y2⟩ := h2 k w hw; ⟨y, y1, hE w y y2⟩, h3, h4⟩
theorem Rev.top {D D' : List (List Int)} {l : DLimit} (h : Rev D l D') {E : Int → Int → Prop} (hE : Fam D E) (hc : ConsL l E) : Fam D' E := fun v n hn => by
  by_cases hv : v ∈ l.Vars
  · obtain ⟨i, hi⟩ := List.mem_iff_getElem?.1 hv
    obtain ⟨f, h1, _, h3⟩ := h.sup i v hi
    rw [h1, List.mem_filter]
    exact ⟨hE v n hn, (h3 n (hE v n hn)).2 (Supp.of hE hc hi hn)⟩
  · rw [h.oth v hv]; exact hE v n hn
theorem m_left {d : List Int} {m : List Bool} (hd : d.length ≤ 30) (hm : m.length = 30) :
    ∃ f : Int → Bool, (∀ p : Int → Prop, (∀ (j : Nat) n, d[j]? = some n → (m[j]? = some true ↔ p n)) → ∀ n ∈ d, (f n = true ↔ p n)) ∧ ((∃ p : Int → Prop, ∀ (j : Nat) n, d[j]? = some n → (m[j]? = some true ↔ p n)) →
    Mir.Loop (S := List Int × Nat) (Q := List Int) (([] : List Int), (0 : Nat)) (fun s310 =>
                        if ((s310.2 : Nat) : Int) < ((d.length : Nat) : Int) then
                          (
                            ((d)[s310.2]?).bind fun x330 =>
                            ((m)[s310.2]?).bind fun x337 =>
                            if x337 = true then
                              (Mir.push 8 s310.1 [x330]).bind fun x350 =>
                              some x350
                            else
                              some s310.1
                          : Option (List Int)).bind fun (z322 : List Int) =>
                          some (.inl (z322, s310.2 + 1))
                        else
                          some (.inr s310.1)) = some (d.filter f)) := by
  classical
  refine ⟨fun n => decide (∃ j : Nat, d[j]? = some n ∧ m[j]? = some true), fun p hp n hn => ?_, fun ⟨p, hp⟩ => ?_⟩
  · rw [decide_eq_true_iff]
    constructor
    · rintro ⟨j, h1, h2⟩; exact (hp j n h1).1 h2
    · intro h
      obtain ⟨j, hj⟩ := List.mem_iff_getElem?.1 hn
      exact ⟨j, hj, (hp j n hj).2 h⟩
  · refine Loop_list (fun (a : List Int) i => (a, i)) d (fun a r q => a.length + r.length ≤ 30 ∧ q = a ++ r.filter _) (fun a q ⟨_, h⟩ => ?_) (fun a i x r q hx hi hdr ⟨ha, hq⟩ => ?_) (a := []) ⟨by simpa using hd, rfl⟩
    · rw [if_neg (by simp), h]; simp
    · right
      simp only [List.length_cons] at ha
      have e := List.getElem?_eq_getElem (show i < m.length by omega)
      dsimp only
      rw [if_pos (by omega), hx, Option.bind_some, e, Option.bind_some]
      rw [List.filter_cons] at hq
      by_cases c : m[i] = true
      · have hf : (∃ j : Nat, d[j]? = some x ∧ m[j]? = some true) := ⟨i, hx, by rw [e, c]⟩
        rw [decide_eq_true hf, if_pos rfl] at hq
        rw [if_pos c, push_small 1000 (by simp; omega) (by decide), Option.bind_some, Option.bind_some]
        exact ⟨_, rfl, by simp; omega, by rw [hq]; simp⟩
      · have hf : ¬ (∃ j : Nat, d[j]? = some x ∧ m[j]? = some true) := fun ⟨j, h1, h2⟩ => by
          have := (hp i x hx).2 ((hp j x h1).1 h2)
          rw [e] at this
          exact c (Option.some.inj this)
        rw [decide_eq_false hf, if_neg (by decide)] at hq
        rw [if_neg c, Option.bind_some]
        exact ⟨_, rfl, by omega, hq⟩
theorem m_revise {X : Type} (fv : X) {D : List (List Int)} {l : DLimit} {M : List (List Bool)} {a : Bool} (hl : LimOk D.length l) (hD : ∀ d ∈ D, d.length ≤ 30) (hs : Shape l.Vars.length M)
    (hM : ∀ i j v, l.Vars[i]? = some v → ∀ n, (domOf D v)[j]? = some n → (marked M i j ↔ Supp D l i n)) :
    Gives (Mir.Loop (S := List (List Int) × Bool × Nat) (Q := (List (List Int) × Bool) ⊕ X) (D, a, (0 : Nat)) (fun s251 =>
                  if ((s251.2.2 : Nat) : Int) < ((M.length : Nat) : Int) then
                    ((M)[s251.2.2]?).bind fun x264 =>
                    ((l.Vars)[s251.2.2]?).bind fun x275 =>
                    (
                      (Mir.idx s251.1 x275).bind fun x290 =>
                      Mir.Loop (S := List Int × Nat) (Q := List Int) (([] : List Int), (0 : Nat)) fun s310 =>
                        if ((s310.2 : Nat) : Int) < ((x290.length : Nat) : Int) then
                          (
                            ((x290)[s310.2]?).bind fun x330 =>
                            ((x264)[s310.2]?).bind fun x337 =>
                            if x337 = true then
                              (Mir.push 8 s310.1 [x330]).bind fun x350 =>
                              some x350
                            else
                              some s310.1
                          : Option (List Int)).bind fun (z322 : List Int) =>
                          some (.inl (z322, s310.2 + 1))
                        else
                          some (.inr s310.1)
                    : Option (List Int)).bind fun (z282 : List Int) =>
                    if ((z282.length : Nat) : Int) = 0 then
                      some (.inr (.inr fv))
                    else
                      (
                        if s251.2.1 = true then
                          some true
                        else
                          (Mir.idx s251.1 x275).bind fun x362 =>
                          some (decide (((z282.length : Nat) : Int) < ((x362.length : Nat) : Int)))
                      : Option Bool).bind fun (z357 : Bool) =>
                      (Mir.idx s251.1 x275).bind fun x374 =>
                      (Mir.upd s251.1 x275 z282).bind fun x391 =>
                      some (.inl (x391, z357, s251.2.2 + 1))
                  else
                    some (.inr (.inl (s251.1, s251.2.1)))))
      (Two (fun z => Rev D l z.1 ∧ (z.2 = true → a = true ∨ ∃ v, (domOf z.1 v).length < (domOf D v).length) ∧ (z.2 = false → a = false ∧ z.1 = D)) (fun x => x = fv ∧ ∃ (i : Nat) (v : Int), l.Vars[i]? = some v ∧ ∀ n ∈ domOf D v, ¬ Supp D l i n)) := by
  refine Gives.loop (fun s => s.2.2 ≤ l.Vars.length ∧ s.1.length = D.length ∧ (∀ (i : Nat) v, l.Vars[i]? = some v → (i < s.2.2 → ∃ f : Int → Bool, domOf s.1 v = (domOf D v).filter f ∧ 0 < (domOf s.1 v).length ∧ ∀ n ∈ domOf D v, (f n = true ↔ Supp D l i n)) ∧ (s.2.2 ≤ i → domOf s.1 v = domOf D v)) ∧ (∀ v, v ∉ l.Vars → domOf s.1 v = domOf D v) ∧ (s.2.1 = true → a = true ∨ ∃ v, (domOf s.1 v).length < (domOf D v).length) ∧ (s.2.1 = false → a = false ∧ ∀ v, domOf s.1 v = domOf D v))
    (fun s => l.Vars.length - s.2.2) ⟨Nat.zero_le _, rfl, fun i v hv => ⟨fun h => absurd h (Nat.not_lt_zero _), fun _ => rfl⟩, fun _ _ => rfl, fun h => .inl h, fun h => ⟨h, fun _ => rfl⟩⟩ ?_
  rintro ⟨D1, b, i⟩ ⟨hi, h1, h2, h3, h4, h5⟩
  dsimp only at hi h1 h2 h3 h4 h5 ⊢
  rw [hs.len]
  refine Gives.ite (fun c => ?_) (fun c => ?_)
  · have hil : i < l.Vars.length := by omega
    have ev := List.getElem?_eq_getElem hil
    have em := List.getElem?_eq_getElem (show i < M.length by have := hs.len; omega)
    refine Gives.bindE em (Gives.bindE ev ?_)
    have hvr := hl.vars _ (List.getElem_mem hil)
    generalize hv : l.Vars[i] = v at *
    generalize hm : M[i]'(by have := hs.len; omega) = m at *
    have hml : m.length = 30 := hs.row m (by rw [← hm]; exact List.getElem_mem _)
    have hd := (h2 i v ev).2 (Nat.le_refl _)
    have hdl : (domOf D v).length ≤ 30 := hD _ (domOf_mem hvr)
    have hidx : idx D1 v = some (domOf D v) := by rw [domOf_idx (by rw [h1]; exact hvr), hd]
    obtain ⟨f, f1, f2⟩ := m_left hdl hml
    have hp : ∀ (j : Nat) n, (domOf D v)[j]? = some n → (m[j]? = some true ↔ Supp D l i n) := fun j n hj => by
      rw [← hM i j v ev n hj]
      unfold marked
      rw [em]
      exact ⟨fun h => ⟨m, rfl, h⟩, fun ⟨m', e, h⟩ => by cases e; exact h⟩
    have hf := f1 (fun n => Supp D l i n) hp
    refine Gives.bindE (a := (domOf D v).filter f) (by rw [hidx, Option.bind_some]; exact f2 ⟨_, hp⟩) ?_
    refine Gives.ite (fun c0 => ?_) (fun c0 => ?_)
    · refine Gives.some ⟨rfl, i, v, ev, fun n hn hsup => ?_⟩
      have : n ∈ (domOf D v).filter f := List.mem_filter.2 ⟨hn, (hf n hn).2 hsup⟩
      rw [List.eq_nil_of_length_eq_zero (show ((domOf D v).filter f).length = 0 by omega)] at this
      cases this
    · refine Gives.bind (fun z => z = true ↔ (b = true ∨ ((domOf D v).filter f).length < (domOf D v).length)) ?_ fun z hz => ?_
      · refine Gives.ite (fun cb => Gives.some ⟨fun _ => .inl cb, fun _ => rfl⟩) fun cb => ?_
        refine Gives.bindE hidx (Gives.some ?_)
        rw [decide_eq_true_iff]
        constructor
        · intro h; exact .inr (by omega)
        · rintro (h | h)
          · exact absurd h cb
          · omega
      · obtain ⟨k, rfl⟩ : ∃ k : Nat, v = k := ⟨v.toNat, by omega⟩
        have hk : k < D1.length := by omega
        refine Gives.bindE hidx (Gives.bindE (upd_ok hk) (Gives.some ⟨⟨?_, ?_, ?_, ?_, ?_, ?_⟩, ?_⟩))
        · dsimp only; omega
        · dsimp only; rw [List.length_set]; exact h1
        · intro j w hw
          dsimp only
          rw [domOf_set hk]
          by_cases e : w = k
          · subst e
            have hij := risP_inj hl.ris ev hw
            subst hij
            rw [if_pos rfl]
            exact ⟨fun _ => ⟨f, rfl, by omega, hf⟩, fun h => by omega⟩
          · rw [if_neg e]
            refine ⟨fun h => (h2 j w hw).1 ?_, fun h => (h2 j w hw).2 (by omega)⟩
            rcases Nat.lt_or_ge j i with h9 | h9
            · exact h9
            · obtain rfl : j = i := by omega
              rw [hw] at ev; cases ev; exact absurd rfl e
        · intro w hw
          dsimp only
          rw [domOf_set hk, if_neg]
          · exact h3 w hw
          · rintro rfl
            exact hw (List.mem_of_getElem? ev)
        · intro hzt
          dsimp only at hzt ⊢
          rcases hz.1 hzt with h | h
          · rcases h4 h with h9 | ⟨w, h9⟩
            · exact .inl h9
            · refine .inr ⟨w, ?_⟩
              rw [domOf_set hk]
              by_cases e : w = k
              · subst e
                rw [hd] at h9
                omega
              · rw [if_neg e]; exact h9
          · refine .inr ⟨k, ?_⟩
            rw [domOf_set hk, if_pos rfl]
            exact h
        · intro hzf
          dsimp only at hzf ⊢
          have hb : ¬ (b = true ∨ ((domOf D (k : Int)).filter f).length < (domOf D (k : Int)).length) := fun h => by rw [hz.2 h] at hzf; cases hzf
          have hb1 : b = false := by cases b <;> simp_all
          refine ⟨(h5 hb1).1, fun w => ?_⟩
          rw [domOf_set hk]
          by_cases e : w = k
          · subst e
            rw [if_pos rfl]
            have hle := List.length_filter_le f (domOf D (k : Int))
            exact List.filter_eq_self.2 (List.length_filter_eq_length_iff.1 (by omega))
          · rw [if_neg e]; exact (h5 hb1).2 w
        · dsimp only; omega
  · have : i = l.Vars.length := by omega
    subst this
    refine Gives.some ⟨⟨h1, fun j w hw => (h2 j w hw).1 (List.getElem?_eq_some_iff.1 hw).1, h3⟩, h4, fun h => ⟨(h5 h).1, domOf_ext h1 (h5 h).2⟩⟩
end Go.Proofs.Ytopmcncaanjboaa
