/- The plain law: what is done behind a mark is undone by going back. -/
import Derived.Test.YtaajfhcjpejmjaaPlay3
namespace Go.Proofs.Ytaajfhcjpejmjaa
open Go Go.Sy Go.RowKit
set_option linter.unusedVariables false
/-- The list that the law makes of more: what may not be is passed over; and how many marks are open. -/
def tbStep (p : List Sh × Int) (x : Sh) : List Sh × Int :=
  if x.k = 1 then (p.1 ++ [x], p.2 + 1)
  else if x.k = 3 ∨ x.k = 4 then (if p.2 = 0 then p else (p.1 ++ [x], p.2 - 1))
  else (p.1 ++ [x], p.2)
def tb (l more : List Sh) : List Sh × Int := more.foldl tbStep (l ++ [⟨1, 0, 0⟩], 0)
theorem tb_snoc (l : List Sh) {more : List Sh} {i : Nat} {x : Sh} (h : more[i]? = some x) : tb l (more.take (i + 1)) = tbStep (tb l (more.take i)) x := by
  unfold tb; rw [List.take_add_one, h, Option.toList_some, List.foldl_append]; rfl
def tbAll (l more : List Sh) : List Sh := (tb l more).1 ++ List.replicate (tb l more).2.toNat ⟨3, 0, 0⟩
theorem undo_append (c : List Int) (l m : List (Int × Int)) : undo c (l ++ m) = undo (undo c m) l := by unfold undo; rw [List.foldr_append]
/-- What holds behind the mark: s0 is the store ahead of it. -/
structure Held (n : Nat) (s0 s : TS) (deep : Int) : Prop where
  wf : WF n s
  ex : ∃ extra ext, s.marks = s0.marks ++ (s0.tr.length : Int) :: extra ∧ (extra.length : Int) = deep ∧ s.tr = s0.tr ++ ext ∧ undo s.cells ext = s0.cells
theorem Held.nonempty {n : Nat} {s0 s : TS} {deep : Int} (h : Held n s0 s deep) : s.marks ≠ [] := by
  obtain ⟨extra, ext, h1, _⟩ := h.ex
  rw [h1]; simp
theorem Held.last_ge {n : Nat} {s0 s : TS} {deep : Int} (h : Held n s0 s deep) : s0.tr.length ≤ s.last := by
  obtain ⟨extra, ext, h1, _⟩ := h.ex
  have hup := h.wf.up
  unfold TS.last
  cases hr : extra.reverse with
  | nil =>
    have : extra = [] := by simpa using hr
    subst this
    rw [h1]; simp
  | cons x r =>
    have hx : extra = r.reverse ++ [x] := by have := congrArg List.reverse hr; simpa using this
    rw [h1, hx] at hup ⊢
    have e1 : s0.marks ++ (s0.tr.length : Int) :: (r.reverse ++ [x]) = (s0.marks ++ (s0.tr.length : Int) :: r.reverse) ++ [x] := by simp
    rw [e1] at hup ⊢
    rw [List.getLastD_concat]
    have h2 := (List.pairwise_append.1 hup).1
    have h3 := (List.pairwise_append.1 h2).2.2 (s0.tr.length : Int) (by simp) x (by simp)
    omega
theorem Held.back {n : Nat} {s0 s : TS} {deep : Int} (h : Held n s0 s deep) : Held n s0 s.back deep := by
  have hge := h.last_ge
  obtain ⟨extra, ext, h1, h2, h3, h4⟩ := h.ex
  refine ⟨h.wf.back, extra, ext.take (s.last - s0.tr.length), h1, h2, ?_, ?_⟩
  · show s.tr.take s.last = _
    rw [h3, List.take_append, List.take_of_length_le hge]
  · show undo (undo s.cells (s.tr.drop s.last)) _ = _
    rw [h3, List.drop_append, List.drop_of_length_le hge, List.nil_append, ← undo_append, List.take_append_drop]
    exact h4
theorem Held.drop {n : Nat} {s0 s : TS} {deep : Int} (h : Held n s0 s deep) (hd : 0 < deep) : Held n s0 s.drop (deep - 1) := by
  obtain ⟨extra, ext, h1, h2, h3, h4⟩ := h.ex
  have hne : extra ≠ [] := by intro e; subst e; simp at h2; omega
  refine ⟨h.wf.drop, extra.dropLast, ext, ?_, ?_, h3, h4⟩
  · show s.marks.dropLast = _
    rw [h1, List.dropLast_append_of_ne_nil (by simp), List.dropLast_cons_of_ne_nil hne]
  · rw [List.length_dropLast]
    have := List.length_pos_iff.2 hne
    omega
theorem Held.step {n : Nat} {s0 s : TS} {deep : Int} (h : Held n s0 s deep) {x : Sh} (hx : okSh n x = true) (hd : (x.k = 3 ∨ x.k = 4) → 0 < deep) :
    Held n s0 (s.step x) (if x.k = 1 then deep + 1 else if x.k = 3 ∨ x.k = 4 then deep - 1 else deep) := by
  have hwf := h.wf.step hx
  have hk : 0 ≤ x.k ∧ x.k ≤ 4 := by unfold okSh at hx; split at hx <;> first | cases hx | omega
  by_cases k0 : x.k = 0
  · rw [if_neg (by omega), if_neg (by omega)]
    have hs : s.step x = ⟨s.cells.set x.a.toNat x.v, s.tr ++ [(x.a, s.cells.getD x.a.toNat 0)], s.marks⟩ := by unfold TS.step; rw [if_pos k0]
    obtain ⟨extra, ext, h1, h2, h3, h4⟩ := h.ex
    refine ⟨hwf, extra, ext ++ [(x.a, s.cells.getD x.a.toNat 0)], by rw [hs]; exact h1, h2, by rw [hs]; simp [h3], ?_⟩
    rw [hs, undo_append]
    have : undo (s.cells.set x.a.toNat x.v) [(x.a, s.cells.getD x.a.toNat 0)] = s.cells := by
      show ((s.cells.set x.a.toNat x.v).set x.a.toNat (s.cells.getD x.a.toNat 0)) = s.cells
      rw [List.set_set]
      apply List.ext_getElem?
      intro i
      rw [List.getElem?_set]
      split
      · rename_i hi
        subst hi
        split
        · rename_i hlt
          rw [List.getD_eq_getElem?_getD, List.getElem?_eq_getElem hlt]; rfl
        · rename_i hlt; rw [List.getElem?_eq_none (by omega)]
      · rfl
    show undo (undo (s.cells.set x.a.toNat x.v) _) ext = _
    rw [this]; exact h4
  by_cases k1 : x.k = 1
  · rw [if_pos k1]
    have hs : s.step x = ⟨s.cells, s.tr, s.marks ++ [(s.tr.length : Int)]⟩ := by unfold TS.step; rw [if_neg k0, if_pos k1]
    obtain ⟨extra, ext, h1, h2, h3, h4⟩ := h.ex
    refine ⟨hwf, extra ++ [(s.tr.length : Int)], ext, by rw [hs]; simp [h1], by simp; omega, by rw [hs]; exact h3, by rw [hs]; exact h4⟩
  rw [if_neg k1]
  by_cases k2 : x.k = 2
  · rw [if_neg (by omega)]
    have hs : s.step x = s.back := by unfold TS.step; rw [if_neg k0, if_neg k1, if_pos k2]
    rw [hs]; exact h.back
  by_cases k3 : x.k = 3
  · rw [if_pos (.inl k3)]
    have hs : s.step x = s.drop := by unfold TS.step; rw [if_neg k0, if_neg k1, if_neg k2, if_pos k3]
    rw [hs]; exact h.drop (hd (.inl k3))
  · have k4 : x.k = 4 := by omega
    rw [if_pos (.inr k4)]
    have hs : s.step x = s.back.drop := by unfold TS.step; rw [if_neg k0, if_neg k1, if_neg k2, if_neg k3]
    rw [hs]; exact h.back.drop (hd (.inr k4))
theorem plays_append (l m : List Sh) (s : TS) : plays (l ++ m) s = (plays l s).bind (plays m) := by
  induction l generalizing s with
  | nil => rfl
  | cons x l ih =>
    simp only [List.cons_append, plays]
    split
    · rfl
    · exact ih _
/-- Behind the mark nothing of more fails, and all that it does is held. -/
theorem tb_held {n : Nat} {s0 : TS} (l : List Sh) (hl : plays l (start n) = some s0) (hw0 : WF n s0) : ∀ (r : List Sh) (hr : ∀ x ∈ (tb l r).1, okSh n x = true),
    0 ≤ (tb l r).2 ∧ (tb l r).1.length + (tb l r).2 ≤ l.length + 1 + 2 * r.length ∧ ∃ s, plays (tb l r).1 (start n) = some s ∧ Held n s0 s (tb l r).2 := by
  intro r
  rw [← List.reverse_reverse r]
  induction r.reverse with
  | nil =>
    intro _
    refine ⟨by simp [tb], by simp [tb], ?_⟩
    refine ⟨s0.step ⟨1, 0, 0⟩, ?_, ?_⟩
    · simp only [tb, List.reverse_nil, List.foldl_nil]
      rw [plays_append, hl]
      simp [plays]
    · refine ⟨hw0.step (by simp [okSh]), [], [], ?_, rfl, ?_, ?_⟩
      · simp [TS.step]
      · simp [TS.step]
      · simp [TS.step, undo]
  | cons x r ih =>
    rw [List.reverse_cons]
    have e : tb l (r.reverse ++ [x]) = tbStep (tb l r.reverse) x := by unfold tb; rw [List.foldl_append]; rfl
    rw [e]
    generalize hp : tb l r.reverse = p at *
    obtain ⟨al, dp⟩ := p
    intro hr
    have hsub : ∀ y ∈ al, okSh n y = true := by
      intro y hy
      apply hr
      unfold tbStep
      split
      · simp [hy]
      · split
        · split
          · exact hy
          · simp [hy]
        · simp [hy]
    obtain ⟨hd, hlen, s, hs, hh⟩ := ih hsub
    try simp only at hd hlen hs hh
    have hne := hh.nonempty
    have go : ∀ {al'}, al' = al ++ [x] → okSh n x = true → plays al' (start n) = some (s.step x) := by
      rintro _ rfl hx
      rw [plays_append, hs]
      simp only [Option.bind_some, plays]
      rw [if_neg (fun h => hne h.2)]
    unfold tbStep at hr ⊢
    by_cases k1 : x.k = 1
    · rw [if_pos k1] at hr ⊢
      have hx : okSh n x = true := hr x (by simp)
      refine ⟨by simp only; omega, by simp only [List.length_append, List.length_reverse, List.length_cons, List.length_nil] at hlen ⊢; omega, s.step x, go rfl hx, ?_⟩
      have := hh.step hx (fun h => by omega)
      rwa [if_pos k1] at this
    rw [if_neg k1] at hr ⊢
    by_cases k3 : x.k = 3 ∨ x.k = 4
    · rw [if_pos k3] at hr ⊢
      by_cases d0 : dp = 0
      · rw [if_pos d0] at hr ⊢
        subst d0
        exact ⟨by simp, by simp only [List.length_append, List.length_reverse, List.length_cons, List.length_nil] at hlen ⊢; omega, s, hs, hh⟩
      · rw [if_neg d0] at hr ⊢
        have hx : okSh n x = true := hr x (by simp)
        refine ⟨by simp only; omega, by simp only [List.length_append, List.length_reverse, List.length_cons, List.length_nil] at hlen ⊢; omega, s.step x, go rfl hx, ?_⟩
        have := hh.step hx (fun _ => by omega)
        rwa [if_neg k1, if_pos k3] at this
    · rw [if_neg k3] at hr ⊢
      have hx : okSh n x = true := hr x (by simp)
      refine ⟨by simp only; omega, by simp only [List.length_append, List.length_reverse, List.length_cons, List.length_nil] at hlen ⊢; omega, s.step x, go rfl hx, ?_⟩
      have := hh.step hx (fun h => absurd h k3)
      rwa [if_neg k1, if_neg k3] at this
theorem drops_held {n : Nat} {s0 : TS} : ∀ (k : Nat) {s : TS}, Held n s0 s k → ∃ s', plays (List.replicate k ⟨3, 0, 0⟩) s = some s' ∧ Held n s0 s' 0
  | 0, s, h => ⟨s, rfl, h⟩
  | k + 1, s, h => by
    have h1 := h.step (x := ⟨3, 0, 0⟩) (by simp [okSh]) (fun _ => by omega)
    simp only [show ¬ ((3 : Int) = 1) by omega, if_false, true_or, if_true] at h1
    rw [show ((k + 1 : Nat) : Int) - 1 = (k : Int) by omega] at h1
    obtain ⟨s', h2, h3⟩ := drops_held k h1
    refine ⟨s', ?_, h3⟩
    rw [List.replicate_succ]
    simp only [plays]
    rw [if_neg (fun e => h.nonempty e.2)]
    exact h2
theorem shErr_cases (n : Int) (l : List Sh) : (shErr n l = 1) ∨ (shErr n l = 3 ∧ l.length > 400) ∨ shErr n l = 0 := by
  unfold shErr
  split
  · exact .inl rfl
  · split
    · exact .inr (.inl ⟨rfl, by assumption⟩)
    · exact .inr (.inr rfl)
theorem shErr_of {n : Int} {l : List Sh} (h1 : 1 ≤ n) (h2 : n ≤ 64) (h3 : l.length ≤ 400) (h4 : ∀ x ∈ l, okSh n x = true) : shErr n l = 0 := by
  unfold shErr
  rw [if_neg, if_neg (by omega)]
  rw [Bool.not_eq_false, Bool.and_eq_true, List.all_eq_true]
  exact ⟨by unfold okn; exact decide_eq_true ⟨h1, h2⟩, h4⟩
/-- THE LAW. -/
theorem backs {n : Int} {l more : List Sh} {a b d : List Int} {k m p : Nat} {f g : Int} (ha : playR n l = (a, k, 0)) (hlen : (l.length : Int) + 2 * more.length + 4 ≤ 400)
    (hb : playR n (tbAll l more ++ [⟨2, 0, 0⟩]) = (b, m, f)) (hd : playR n (tbAll l more ++ [⟨4, 0, 0⟩]) = (d, p, g)) (hf : f ≠ 1) :
    f = 0 ∧ g = 0 ∧ m = k + 1 ∧ p = k ∧ a = b ∧ a = d := by
  have he : shErr n l = 0 := by
    by_cases he : shErr n l = 0
    · exact he
    · unfold playR at ha
      rw [if_pos he] at ha
      simp only [Prod.mk.injEq] at ha
      exact absurd ha.2.2 he
  obtain ⟨hn1, hn2, _, hokl⟩ := shErr_zero he
  obtain ⟨n', rfl⟩ : ∃ n' : Nat, n = n' := ⟨n.toNat, by omega⟩
  have hpl : ∃ s0, plays l (start n') = some s0 ∧ s0.cells = a ∧ s0.marks.length = k := by
    unfold playR at ha
    rw [if_neg (by omega), Int.toNat_natCast] at ha
    cases hq : plays l (start n') with
    | none => rw [hq] at ha; simp at ha
    | some s0 => rw [hq] at ha; simp only [Prod.mk.injEq] at ha; exact ⟨s0, rfl, ha.1, ha.2.1⟩
  obtain ⟨s0, hs0, rfl, rfl⟩ := hpl
  have hw0 : WF n' s0 := by
    have : ∀ (l : List Sh) (s : TS), (∀ x ∈ l, okSh n' x = true) → WF n' s → ∀ s', plays l s = some s' → WF n' s' := by
      intro l
      induction l with
      | nil => intro s _ hw s' h; cases h; exact hw
      | cons x l ih =>
        intro s hx hw s' h
        simp only [plays] at h
        split at h
        · cases h
        · exact ih _ (fun y hy => hx y (by simp [hy])) (hw.step (hx x (by simp))) s' h
    exact this l _ hokl (start_wf n') s0 hs0
  -- the changes behind the mark are right: else f were 1
  have hone : shErr n' (tbAll l more ++ [⟨2, 0, 0⟩]) ≠ 1 := by
    intro h1
    unfold playR at hb
    rw [if_pos (by omega)] at hb
    simp only [Prod.mk.injEq] at hb
    omega
  have hokt : ∀ x ∈ tbAll l more, okSh n' x = true := by
    rcases shErr_cases n' (tbAll l more ++ [⟨2, 0, 0⟩]) with h | h | h
    · exact absurd h hone
    · intro x hx
      have h1 := h.1
      unfold shErr at h1
      split at h1
      · omega
      · rename_i h2
        rw [Bool.not_eq_false, Bool.and_eq_true, List.all_eq_true] at h2
        exact h2.2 x (by simp [hx])
    · intro x hx
      exact (shErr_zero h).2.2.2 x (by simp [hx])
  obtain ⟨hd0, hlt, s1, hs1, hh1⟩ := tb_held l hs0 hw0 more (fun x hx => hokt x (by unfold tbAll; simp [hx]))
  have hlt2 : (tbAll l more).length + 1 ≤ 400 := by
    unfold tbAll
    rw [List.length_append, List.length_replicate]
    omega
  obtain ⟨s2, hs2, hh2⟩ := drops_held (tb l more).2.toNat (s := s1) (by rw [Int.toNat_of_nonneg hd0]; exact hh1)
  have hall : plays (tbAll l more) (start n') = some s2 := by unfold tbAll; rw [plays_append, hs1]; exact hs2
  obtain ⟨extra, ext, g1, g2, g3, g4⟩ := hh2.ex
  have hex : extra = [] := List.eq_nil_of_length_eq_zero (by omega)
  subst hex
  have hlast : s2.last = s0.tr.length := by unfold TS.last; rw [g1]; simp
  have hback : s2.back = ⟨s0.cells, s0.tr, s2.marks⟩ := by
    unfold TS.back
    rw [hlast, g3, List.drop_left, List.take_left, g4]
  have e2 : shErr n' (tbAll l more ++ [⟨2, 0, 0⟩]) = 0 := shErr_of hn1 hn2 (by rw [List.length_append]; simp; omega) (fun x hx => by
    rcases List.mem_append.1 hx with hx | hx
    · exact hokt x hx
    · rw [List.mem_singleton.1 hx]; simp [okSh])
  have e4 : shErr n' (tbAll l more ++ [⟨4, 0, 0⟩]) = 0 := shErr_of hn1 hn2 (by rw [List.length_append]; simp; omega) (fun x hx => by
    rcases List.mem_append.1 hx with hx | hx
    · exact hokt x hx
    · rw [List.mem_singleton.1 hx]; simp [okSh])
  have p2 : plays (tbAll l more ++ [⟨2, 0, 0⟩]) (start n') = some s2.back := by
    rw [plays_append, hall]
    simp only [Option.bind_some, plays]
    rw [if_neg (fun e => hh2.nonempty e.2)]
    simp [TS.step]
  have p4 : plays (tbAll l more ++ [⟨4, 0, 0⟩]) (start n') = some s2.back.drop := by
    rw [plays_append, hall]
    simp only [Option.bind_some, plays]
    rw [if_neg (fun e => hh2.nonempty e.2)]
    simp [TS.step]
  unfold playR at hb hd
  rw [if_neg (by omega), Int.toNat_natCast, p2, hback] at hb
  rw [if_neg (by omega), Int.toNat_natCast, p4, hback] at hd
  simp only [Prod.mk.injEq, TS.drop] at hb hd
  obtain ⟨rfl, rfl, rfl⟩ := hb
  obtain ⟨rfl, rfl, rfl⟩ := hd
  refine ⟨rfl, rfl, ?_, ?_, rfl, rfl⟩
  · rw [g1]; simp
  · rw [List.length_dropLast, g1]; simp
end Go.Proofs.Ytaajfhcjpejmjaa
