/- Core programs: their nodes, sizes, shapes and names. -/
import Derived.Test.YtjkcinpmbgcgpaaGreatDoorGrB
namespace Go.Proofs.YtjkcinpmbgcgpaaGreatDoor
open Go Go.Mir
set_option linter.unusedVariables false
theorem as_nil {κ α : Type} [DecidableEq κ] {q : κ} : assoc ([] : List (κ × α)) q = none := rfl
theorem as_ups {κ α : Type} [DecidableEq κ] {k q : κ} {y : α} : ∀ (l : List (κ × α)), assoc (upsert l k y) q = if k = q then some y else assoc l q
  | [] => rfl
  | (a, b) :: l => by
    unfold upsert
    by_cases h : a = k
    · subst h
      rw [if_pos rfl]
      by_cases hq : a = q
      · rw [if_pos hq]; unfold assoc; rw [if_pos hq]
      · rw [if_neg hq]; unfold assoc; rw [if_neg hq, if_neg hq]
    · rw [if_neg h]
      unfold assoc
      rw [as_ups l]
      by_cases hq : a = q
      · subst hq; rw [if_pos rfl, if_pos rfl, if_neg (fun e => h e.symm)]
      · rw [if_neg hq, if_neg hq]
theorem as_del {κ α : Type} [DecidableEq κ] {k q : κ} : ∀ (l : List (κ × α)), assoc (del l k) q = if k = q then none else assoc l q
  | [] => by simp [del, assoc]
  | (a, b) :: l => by
    have ih := as_del (k := k) (q := q) l
    unfold del at ih ⊢
    rw [List.filter_cons]
    by_cases h : a = k
    · subst h
      rw [if_neg (by simp), ih]
      by_cases hq : a = q
      · rw [if_pos hq, if_pos hq]
      · rw [if_neg hq, if_neg hq]; conv => rhs; unfold assoc
        rw [if_neg hq]
    · rw [if_pos (by simp [h])]
      unfold assoc
      rw [ih]
      by_cases hq : a = q
      · subst hq; rw [if_pos rfl, if_pos rfl, if_neg (fun e => h e.symm)]
      · rw [if_neg hq, if_neg hq]
mutual
/-- How many nodes an expression has. -/
def cntE : DExpr → Nat
  | .mk _ _ _ _ ks as => 1 + cntK ks + cntA as
def cntK : List DExpr → Nat
  | [] => 0
  | x :: r => cntE x + cntK r
def cntL : DAlt' DExpr → Nat
  | .mk _ e => cntE e
def cntA : List (DAlt' DExpr) → Nat
  | [] => 0
  | x :: r => cntL x + cntA r
end
theorem cntK_eq (l : List DExpr) : cntK l = sumN cntE l := by
  induction l with
  | nil => rfl
  | cons x l ih => rw [cntK, ih]; rfl
theorem cntA_eq (l : List DAlt) : cntA l = sumN (fun a => cntE a.E) l := by
  induction l with
  | nil => rfl
  | cons x l ih => cases x; rw [cntA, ih, cntL]; rfl
theorem cntE_eq (e : DExpr) : cntE e = 1 + sumN cntE e.Kids + sumN (fun a : DAlt => cntE a.E) e.Alts := by
  cases e; rw [cntE, cntK_eq, cntA_eq]
theorem cntE_pos (e : DExpr) : 1 ≤ cntE e := by rw [cntE_eq]; omega
theorem sumN_in {α : Type} {f : α → Nat} {l : List α} {x : α} (h : x ∈ l) : f x ≤ sumN f l := by
  induction l with
  | nil => cases h
  | cons y l ih =>
    rw [sumN_cons]
    rcases List.mem_cons.1 h with rfl | h
    · omega
    · have := ih h; omega
theorem sumN_take {α : Type} {f : α → Nat} {l : List α} {i : Nat} {x : α} (h : l[i]? = some x) : sumN f (l.take (i + 1)) = sumN f (l.take i) + f x := by rw [take_next h, sumN_append]; rfl
theorem sumN_takeLe {α : Type} {f : α → Nat} {l : List α} {i : Nat} : sumN f (l.take i) ≤ sumN f l := by
  have h7 : sumN f l = sumN f (l.take i) + sumN f (l.drop i) := by rw [← sumN_append, List.take_append_drop]
  omega
theorem sumN_len {α : Type} {f : α → Nat} {l : List α} (h : ∀ x, 1 ≤ f x) : l.length ≤ sumN f l := by
  induction l with
  | nil => exact Nat.zero_le _
  | cons y l ih => rw [sumN_cons, List.length_cons]; have := h y; omega
theorem alts_len (e : DExpr) : e.Alts.length < cntE e := by
  have := sumN_len (f := fun a : DAlt => cntE a.E) (l := e.Alts) fun x => cntE_pos x.E
  rw [cntE_eq]; omega
theorem size_kid {e x : DExpr} (h : x ∈ e.Kids) : SizeOf.sizeOf x < SizeOf.sizeOf e := by
  cases e with
  | mk o n m ns ks as => have := List.sizeOf_lt_of_mem h; simp only [DExpr.mk.sizeOf_spec]; simp only at this; omega
theorem size_alt {e : DExpr} {x : DAlt} (h : x ∈ e.Alts) : SizeOf.sizeOf x.E < SizeOf.sizeOf e ∧ SizeOf.sizeOf x.P < SizeOf.sizeOf e := by
  cases e with
  | mk o n m ns ks as =>
    have h1 := List.sizeOf_lt_of_mem h
    simp only [DExpr.mk.sizeOf_spec]
    cases x with
    | mk p e => simp only [DAlt'.mk.sizeOf_spec] at h1; constructor <;> (simp only; omega)
theorem size_pos (e : DExpr) : 1 ≤ SizeOf.sizeOf e := by cases e; simp only [DExpr.mk.sizeOf_spec]; omega
theorem cnt_kid {e x : DExpr} (h : x ∈ e.Kids) : cntE x < cntE e := by
  have := sumN_in (f := cntE) h
  rw [cntE_eq e]; omega
theorem cnt_alt {e : DExpr} {x : DAlt} (h : x ∈ e.Alts) : cntE x.E < cntE e := by
  have := sumN_in (f := fun a : DAlt => cntE a.E) h
  rw [cntE_eq e]; omega
/-- Rows within an expression are no longer than rows can be. -/
inductive GExpr : DExpr → Prop
  | mk {e : DExpr} : e.Kids.length ≤ 140737488355328 → e.Alts.length ≤ 140737488355328 → (∀ k ∈ e.Kids, GExpr k) → (∀ a ∈ e.Alts, GExpr a.E) → GExpr e
def DD (n : Nat) : Nat := (301 - n) * 281474976710656
theorem DD_succ {n : Nat} (h : n + 1 ≤ 301) : DD n = DD (n + 1) + 281474976710656 := by
  unfold DD
  rw [show 301 - n = (301 - (n + 1)) + 1 by omega, Nat.add_mul, Nat.one_mul]
theorem DD_mono {n m : Nat} (h : n ≤ m) : DD m ≤ DD n := Nat.mul_le_mul_right _ (by omega)
theorem g_size1 : ∀ (g : Nat) (e : DExpr) (r : Int) (n : Nat) (dp : Bool), SizeOf.sizeOf e ≤ g → GExpr e → 0 ≤ r → r ≤ 40 → n + 1 + DD n ≤ 4611686018427387904 →
    Gives (m_core_size_f1 g e r (n : Int) dp) fun q => ∃ m : Nat, q.1 = (m : Int) ∧ n + 1 ≤ m ∧ m + DD m ≤ n + 1 + DD n ∧ (q.2 = false → dp = false) ∧ (m ≤ 300 → q.2 = false → m = n + cntE e) := by
  intro g
  induction g with
  | zero => intro e r n dp h; have := size_pos e; omega
  | succ g ih =>
    intro e r n dp hg hG hr0 hr hn
    obtain ⟨hk, ha, hGk, hGa⟩ := hG
    rw [m_core_size_f1]
    have hw : w64 ((n : Int) + 1) = ((n + 1 : Nat) : Int) := w64_lit (by omega)
    have hdm := DD_mono (show n ≤ n + 1 by omega)
    rw [hw]
    have hw2 : w64 (r - 1) = r - 1 := w64_lit (by omega)
    rw [hw2]
    refine Gives.bind (fun z => (z = false → n + 1 ≤ 300 ∧ 1 ≤ r) ∧ (z = true → 300 < n + 1 ∨ r < 1)) (Gives.ite (fun h => Gives.some ⟨(fun h => by cases h), fun _ => .inl (by omega)⟩) fun h => Gives.some ⟨fun h2 => ⟨by omega, by have := of_decide_eq_false h2; omega⟩, fun h2 => .inr (of_decide_eq_true h2)⟩) fun z hz => Gives.ite (fun hz' => ?_) fun hz' => ?_
    · refine Gives.bind (fun z => (z = false → dp = false) ∧ (z = false → 1 ≤ r)) (Gives.ite (fun h => Gives.some ⟨(fun h => by cases h), (fun h => by cases h)⟩) fun h => Gives.some ⟨fun _ => by simpa using h, fun h2 => by have := of_decide_eq_false h2; omega⟩) fun z2 hz2 => Gives.some ⟨n + 1, rfl, Nat.le_refl _, ?_, hz2.1, fun h1 h2 => ?_⟩
      · omega
      · rcases hz.2 hz' with h3 | h3
        · omega
        · have := hz2.2 h2; omega
    · obtain ⟨h1, h2⟩ := hz.1 (by simpa using hz')
      have hds := DD_succ (n := n) (by omega)
      have hc := cntE_eq e
      refine Gives.bind (fun z : Int × Bool => ∃ m : Nat, z.1 = (m : Int) ∧ n + 1 ≤ m ∧ m + DD m ≤ n + 1 + e.Kids.length + DD (n + 1) ∧ (z.2 = false → dp = false) ∧ (m ≤ 300 → z.2 = false → m = n + 1 + sumN cntE e.Kids))
        (G_each e.Kids (fun s : Int × Bool × Nat => s.2.2) (fun s : Int × Bool × Nat => ∃ m : Nat, s.1 = (m : Int) ∧ n + 1 ≤ m ∧ m + DD m ≤ n + 1 + s.2.2 + DD (n + 1) ∧ (s.2.1 = false → dp = false) ∧ (m ≤ 300 → s.2.1 = false → m = n + 1 + sumN cntE (e.Kids.take s.2.2))) ⟨n + 1, rfl, Nat.le_refl _, by omega, id, fun _ _ => by simp [sumN_nil]⟩ (Nat.zero_le _) (fun s x hs hc' hx hm => ?_) (fun s hs hc' => Gives.some ?_)) fun z hz3 => ?_
      · obtain ⟨m, h3, h4, h5, h6, h7⟩ := hs
        rw [h3]
        refine Gives.bind _ (ih x (r - 1) m s.2.1 (by have := size_kid hm; omega) (hGk x hm) (by omega) (by omega) (by omega)) fun q hq => Gives.some ⟨?_, rfl⟩
        obtain ⟨m', g1, g2, g3, g4, g5⟩ := hq
        refine ⟨m', g1, by omega, ?_, fun h => h6 (g4 h), fun h8 h9 => ?_⟩
        · show m' + DD m' ≤ n + 1 + (s.2.2 + 1) + DD (n + 1)
          omega
        · show m' = n + 1 + sumN cntE (e.Kids.take (s.2.2 + 1))
          rw [sumN_take hx, g5 h8 h9, h7 (by omega) (g4 h9)]; omega
      · obtain ⟨m, h3, h4, h5, h6, h7⟩ := hs
        have hc2 : s.2.2 = e.Kids.length := hc'
        rw [hc2] at h5 h7
        rw [List.take_length] at h7
        exact ⟨m, h3, h4, h5, h6, h7⟩
      · obtain ⟨m0, e1, e2, e3, e4, e5⟩ := hz3
        refine G_each e.Alts (fun s : Int × Bool × Nat => s.2.2) (fun s : Int × Bool × Nat => ∃ m : Nat, s.1 = (m : Int) ∧ n + 1 ≤ m ∧ m + DD m ≤ n + 1 + e.Kids.length + s.2.2 + DD (n + 1) ∧ (s.2.1 = false → dp = false) ∧ (m ≤ 300 → s.2.1 = false → m = n + 1 + sumN cntE e.Kids + sumN (fun a : DAlt => cntE a.E) (e.Alts.take s.2.2))) ⟨m0, e1, e2, by omega, e4, fun h8 h9 => by simp only [List.take_zero, sumN_nil]; have := e5 h8 h9; omega⟩ (Nat.zero_le _) (fun s x hs hc' hx hm => ?_) (fun s hs hc' => Gives.some ?_)
        · obtain ⟨m, h3, h4, h5, h6, h7⟩ := hs
          rw [h3]
          have hlt : s.2.2 < e.Alts.length := hc'
          refine Gives.bind _ (ih x.E (r - 1) m s.2.1 (by have := (size_alt hm).1; omega) (hGa x hm) (by omega) (by omega) (by omega)) fun q hq => Gives.some ⟨?_, rfl⟩
          obtain ⟨m', g1, g2, g3, g4, g5⟩ := hq
          refine ⟨m', g1, by omega, ?_, fun h => h6 (g4 h), fun h8 h9 => ?_⟩
          · show m' + DD m' ≤ n + 1 + e.Kids.length + (s.2.2 + 1) + DD (n + 1)
            omega
          · show m' = n + 1 + sumN cntE e.Kids + sumN (fun a : DAlt => cntE a.E) (e.Alts.take (s.2.2 + 1))
            rw [sumN_take hx, g5 h8 h9, h7 (by omega) (g4 h9)]; omega
        · obtain ⟨m, h3, h4, h5, h6, h7⟩ := hs
          have hc2 : s.2.2 = e.Alts.length := hc'
          rw [hc2] at h5 h7
          rw [List.take_length] at h7
          exact ⟨m, h3, h4, by omega, h6, fun h8 h9 => by rw [hc, h7 h8 h9]; omega⟩
theorem g_IsLarge (g : Nat) (e : DExpr) (hg : SizeOf.sizeOf e ≤ g) (hG : GExpr e) : Gives (m_core_IsLarge g e) fun q => q = false → cntE e ≤ 300 := by
  unfold m_core_IsLarge m_core_size
  refine Gives.bind (fun q : Int × Bool => ∃ m : Nat, q.1 = (m : Int) ∧ (m ≤ 300 → q.2 = false → m = cntE e)) (Gives.bind _ (g_size1 g e 40 0 false hg hG (by omega) (by omega) (by unfold DD; decide)) fun q hq => Gives.some ?_) fun q hq => ?_
  · obtain ⟨m, h1, h2, h3, h4, h5⟩ := hq
    exact ⟨m, h1, fun h h' => by have := h5 h h'; omega⟩
  · obtain ⟨m, h1, h2⟩ := hq
    refine Gives.bind (fun z => z = false → cntE e ≤ 300) (Gives.ite (fun _ => Gives.some fun h => by cases h) fun h => Gives.some fun h3 => ?_) fun z hz => Gives.some hz
    have := of_decide_eq_false h3
    have := h2 (by omega) (by simpa using h)
    omega
/-- What is so of a node. -/
structure NS (e : DExpr) : Prop where
  op : e.Op = 1 ∨ e.Op = 2 ∨ e.Op = 11 ∨ e.Op = 3 ∨ e.Op = 4 ∨ e.Op = 5 ∨ e.Op = 8 ∨ e.Op = 6 ∨ e.Op = 7 ∨ e.Op = 9 ∨ e.Op = 10
  leaf : e.Op = 1 ∨ e.Op = 2 ∨ e.Op = 11 → e.Kids.length = 0
  two : e.Op = 5 ∨ e.Op = 8 ∨ e.Op = 6 → e.Kids.length = 2
  one : e.Op = 7 ∨ e.Op = 9 ∨ e.Op = 10 → e.Kids.length = 1
  kids : e.Kids.length ≤ 8
  names : e.Names.length ≤ 12
  alts : e.Op ≠ 9 → e.Op ≠ 10 → e.Alts.length = 0
def KO (op : Int) : INode → Prop
  | .nil => True
  | .c182 _ => op = 1 ∨ op = 2 ∨ op = 11
  | .c184 _ => op = 3 ∨ op = 4
  | .c186 y => (op = 5 ∨ op = 8 ∨ op = 6) ∧ y.kids = 2 ∨ op = 7 ∧ y.kids = 1
  | .c204 _ => op = 9 ∨ op = 10
theorem g_kind (g : Nat) (op : Int) : Gives (m_core_kindOf g op) (KO op) := by
  unfold m_core_kindOf
  refine Gives.ite (fun h => Gives.some (.inl h)) fun _ => Gives.ite (fun h => Gives.some (.inr (.inl h))) fun _ => Gives.ite (fun h => Gives.some (.inr (.inr h))) fun _ => Gives.ite (fun h => Gives.some (.inl h)) fun _ => Gives.ite (fun h => Gives.some (.inr h)) fun _ => ?_
  refine Gives.bind (fun z => z = true → op = 5 ∨ op = 8) (Gives.ite (fun h => Gives.some fun _ => .inl h) fun _ => Gives.some fun h => .inr (of_decide_eq_true h)) fun z hz => Gives.ite (fun h => Gives.some (.inl ⟨(hz h).imp id .inl, rfl⟩)) fun _ => Gives.ite (fun h => Gives.some (.inl ⟨.inr (.inr h), rfl⟩)) fun _ => Gives.ite (fun h => Gives.some (.inr ⟨h, rfl⟩)) fun _ => ?_
  exact Gives.bind (fun z => z = true → op = 9 ∨ op = 10) (Gives.ite (fun h => Gives.some fun _ => .inl h) fun _ => Gives.some fun h => .inr (of_decide_eq_true h)) fun z hz => Gives.ite (fun h => Gives.some (hz h)) fun _ => Gives.some trivial
theorem g_isNode (g : Nat) (e : DExpr) : Gives (m_core_isNode g e) fun q => q = true → NS e := by
  unfold m_core_isNode
  refine Gives.bind _ (g_kind g e.Op) fun q hq => ?_
  cases q with
  | nil => exact Gives.bindE (a := (.nil, true)) rfl (Gives.pos rfl (Gives.some fun h => by cases h))
  | c182 y =>
    refine Gives.bind (fun z : INode × Bool => z.1 = .c182 y ∧ (z.2 = false → NS e)) ?_ fun z hz => Gives.ite (fun _ => Gives.some fun h => by cases h) fun hb => ?_
    · refine Gives.bind (fun z => z = true → NS e) ?_ fun z hz => Gives.some ⟨rfl, fun h => hz (by simpa using h)⟩
      unfold m_core_leaf_fits
      refine Gives.bind (fun z => z = true → NS e) (Gives.ite (fun h1 => Gives.ite (fun h2 => Gives.some fun h3 => ?_) fun _ => Gives.some fun h => by cases h) fun _ => Gives.some fun h => by cases h) fun _ h => Gives.some h
      have h4 := of_decide_eq_true h3
      have h5 : e.Op = 1 ∨ e.Op = 2 ∨ e.Op = 11 := hq
      exact ⟨by omega, fun _ => by omega, fun h => by omega, fun h => by omega, by omega, by omega, fun _ _ => by omega⟩
    · obtain ⟨z1, z2⟩ := z
      obtain ⟨rfl, h2⟩ := hz
      have hN := h2 (by simpa using hb)
      refine Gives.jx (fun _ => True) (Gives.bind (fun _ => True) ?_ fun _ _ => Gives.some fun _ => hN) fun _ _ => Gives.some fun _ => hN
      repeat' first | exact Gives.some trivial | refine Gives.ite (fun _ => ?_) (fun _ => ?_) | refine Gives.bind _ (g_isNm g _) (fun _ _ => ?_) | refine Gives.bind _ (g_IsInt g _) (fun _ _ => ?_)
  | c184 y =>
    refine Gives.bind (fun z : INode × Bool => z.1 = .c184 y ∧ (z.2 = false → NS e)) ?_ fun z hz => Gives.ite (fun _ => Gives.some fun h => by cases h) fun hb => ?_
    · refine Gives.bind (fun z => z = true → NS e) ?_ fun z hz => Gives.some ⟨rfl, fun h => hz (by simpa using h)⟩
      unfold m_core_call_fits
      refine Gives.bind (fun z => z = true → NS e) (Gives.ite (fun h1 => Gives.ite (fun h2 => Gives.some fun h3 => ?_) fun _ => Gives.some fun h => by cases h) fun _ => Gives.some fun h => by cases h) fun _ h => Gives.some h
      have h4 := of_decide_eq_true h3
      have h5 : e.Op = 3 ∨ e.Op = 4 := hq
      exact ⟨by omega, fun _ => by omega, fun h => by omega, fun h => by omega, by omega, by omega, fun _ _ => by omega⟩
    · obtain ⟨z1, z2⟩ := z
      obtain ⟨rfl, h2⟩ := hz
      have hN := h2 (by simpa using hb)
      refine Gives.jx (fun _ => True) (Gives.ite (fun _ => Gives.bind (fun _ => True) ?_ fun _ _ => Gives.some fun _ => hN) fun _ => Gives.bind (fun _ => True) ?_ fun _ _ => Gives.some fun _ => hN) fun _ _ => Gives.some fun _ => hN
      all_goals repeat' first | exact Gives.some trivial | refine Gives.ite (fun _ => ?_) (fun _ => ?_) | refine Gives.bind _ (g_isNm g _) (fun _ _ => ?_) | refine Gives.bind _ (g_IsGreat g _) (fun _ _ => ?_)
  | c186 y =>
    have h5 : (e.Op = 5 ∨ e.Op = 8 ∨ e.Op = 6) ∧ y.kids = 2 ∨ e.Op = 7 ∧ y.kids = 1 := hq
    refine Gives.bind (fun z : INode × Bool => z.1 = .c186 y ∧ (z.2 = false → e.Kids.length = y.kids ∧ e.Alts.length = 0)) ?_ fun z hz => Gives.ite (fun _ => Gives.some fun h => by cases h) fun hb => ?_
    · refine Gives.bind (fun z => z = true → e.Kids.length = y.kids ∧ e.Alts.length = 0) ?_ fun z hz => Gives.some ⟨rfl, fun h => hz (by simpa using h)⟩
      unfold m_core_inner_fits
      exact Gives.bind (fun z => z = true → e.Kids.length = y.kids ∧ e.Alts.length = 0) (Gives.ite (fun h1 => Gives.ite (fun h2 => Gives.some fun h3 => ⟨h1, by omega⟩) fun _ => Gives.some fun h => by cases h) fun _ => Gives.some fun h => by cases h) fun _ h => Gives.some h
    · obtain ⟨z1, z2⟩ := z
      obtain ⟨rfl, h2⟩ := hz
      obtain ⟨hk, hal⟩ := h2 (by simpa using hb)
      have hN : e.Names.length ≤ 12 → NS e := fun h => ⟨by omega, fun h => by omega, fun h => by omega, fun h => by omega, by omega, h, fun _ _ => hal⟩
      refine Gives.jx (fun _ => NS e) (Gives.bind (fun z => z = false → e.Names.length ≤ 12) ?_ fun z hz => Gives.ite (fun _ => Gives.some fun h => by cases h) fun hz' => ?_) fun _ h => Gives.some fun _ => h
      · refine Gives.ite (fun _ => ?_) fun _ => Gives.some fun h => by cases h
        have hd : ∀ (h : decide (((e.Names.length : Nat) : Int) > 12) = false), e.Names.length ≤ 12 := fun h => by have := of_decide_eq_false h; omega
        refine Gives.ite (fun _ => Gives.ite (fun _ => Gives.some fun h => by cases h) fun _ => Gives.bind _ (g_isNm g _) fun _ _ => Gives.ite (fun _ => Gives.some hd) fun _ => Gives.some fun h => by cases h) fun _ => Gives.ite (fun _ => Gives.some hd) fun _ => Gives.some fun h => by cases h
      · have hN' := hN (hz (by simpa using hz'))
        refine G_each e.Names id (fun _ => True) trivial (Nat.zero_le _) (fun s x _ _ _ _ => Gives.bind _ (g_isNm g _) fun _ _ => Gives.ite (fun _ => Gives.some ⟨trivial, rfl⟩) fun _ => Gives.some fun h => by cases h) fun s _ _ => Gives.some hN'
  | c204 y =>
    have h5 : e.Op = 9 ∨ e.Op = 10 := hq
    refine Gives.bind (fun z : INode × Bool => z.1 = .c204 DCases.mk ∧ (z.2 = false → NS e)) ?_ fun z hz => Gives.ite (fun _ => Gives.some fun h => by cases h) fun hb => ?_
    · refine Gives.bind (fun z => z = true → NS e) ?_ fun z hz => Gives.some ⟨rfl, fun h => hz (by simpa using h)⟩
      unfold m_core_cases_fits
      refine Gives.bind (fun z => z = true → NS e) (Gives.ite (fun h1 => Gives.ite (fun h2 => ?_) fun _ => Gives.some fun h => by cases h) fun _ => Gives.some fun h => by cases h) fun _ h => Gives.some h
      have hN : NS e := ⟨by omega, fun _ => by omega, fun h => by omega, fun h => by omega, by omega, by omega, fun _ _ => by omega⟩
      exact Gives.ite (fun _ => Gives.some fun _ => hN) fun _ => Gives.some fun h => by cases h
    · obtain ⟨z1, z2⟩ := z
      obtain ⟨rfl, h2⟩ := hz
      have hN := h2 (by simpa using hb)
      exact Gives.jx (fun _ => True) (Gives.some trivial) fun _ _ => Gives.some fun _ => hN
/-- What is so of a pattern of a body. -/
def PS (p : DPat) : Prop := p.Op = 4 ∧ p.Kids.length = 0 ∨ p.Op = 3 ∧ p.Kids.length ≤ 8 ∧ ∀ k ∈ p.Kids, k.Op = 2 ∧ k.Kids.length = 0
theorem g_isSimple (g : Nat) (p : DPat) : Gives (m_core_isSimple g p) fun q => q = true → PS p := by
  unfold m_core_isSimple
  refine Gives.ite (fun h => Gives.bind (fun z => z = true → PS p) (Gives.ite (fun _ => Gives.ite (fun h2 => Gives.bind _ (g_IsInt g _) fun _ _ => Gives.some fun _ => .inl ⟨h, by omega⟩) fun _ => Gives.some fun h => by cases h) fun _ => Gives.some fun h => by cases h) fun _ h => Gives.some h) fun _ => Gives.ite (fun h => ?_) fun _ => Gives.some fun h => by cases h
  refine Gives.bind (fun z => z = false → p.Kids.length ≤ 8) (Gives.ite (fun _ => Gives.bind _ (g_IsGreat g _) fun _ _ => Gives.ite (fun _ => Gives.some fun h => by have := of_decide_eq_false h; omega) fun _ => Gives.some fun h => by cases h) fun _ => Gives.some fun h => by cases h) fun z hz => Gives.ite (fun _ => Gives.some fun h => by cases h) fun hz' => ?_
  have h8 := hz (by simpa using hz')
  refine G_look p.Kids (fun k => k.Op = 2 ∧ k.Kids.length = 0) (fun i k _ _ _ => Gives.bind (fun z => z = false → k.Op = 2 ∧ k.Kids.length = 0) ?_ fun z hz => Gives.ite (fun _ => Gives.some fun h => by cases h) fun h => Gives.some ⟨rfl, hz (by simpa using h)⟩) (Gives.some trivial) fun hk _ => Gives.some fun _ => .inr ⟨h, h8, hk⟩
  exact Gives.ite (fun h => Gives.ite (fun _ => Gives.ite (fun _ => Gives.some fun h => by cases h) fun h2 => Gives.bind _ (g_isNm g _) fun _ _ => Gives.some fun _ => ⟨h, by omega⟩) fun _ => Gives.some fun h => by cases h) fun _ => Gives.some fun h => by cases h
inductive SP : DExpr → Prop
  | mk {e : DExpr} : e.Op ≠ 9 → e.Op ≠ 10 → NS e → (∀ k ∈ e.Kids, SP k) → SP e
inductive SB : DExpr → Prop
  | plain {e : DExpr} : SP e → SB e
  | case {e : DExpr} : e.Op = 9 ∨ e.Op = 10 → NS e → (∀ k ∈ e.Kids, k.Op = 1 ∧ NS k) → (∀ a ∈ e.Alts, PS a.P) → (∀ a ∈ e.Alts, SB a.E) → SB e
inductive WF : DExpr → Prop
  | mk {e : DExpr} : NS e → (∀ k ∈ e.Kids, WF k) → (∀ a ∈ e.Alts, PS a.P) → (∀ a ∈ e.Alts, WF a.E) → WF e
theorem nil_of {α : Type} {l : List α} (h : l.length = 0) : l = [] := List.eq_nil_of_length_eq_zero h
theorem SP.wf {e : DExpr} (h : SP e) : WF e := by
  induction h with
  | mk h1 h2 hn hk ih => exact ⟨hn, ih, (fun a ha => by rw [nil_of (hn.alts h1 h2)] at ha; cases ha), (fun a ha => by rw [nil_of (hn.alts h1 h2)] at ha; cases ha)⟩
theorem SB.wf {e : DExpr} (h : SB e) : WF e := by
  induction h with
  | plain h => exact h.wf
  | case ho hn hk hp ha ih =>
    refine ⟨hn, fun k hkm => ?_, hp, ih⟩
    obtain ⟨h1, h2⟩ := hk k hkm
    exact ⟨h2, (fun x hx => by rw [nil_of (h2.leaf (.inl h1))] at hx; cases hx), (fun a ha => by rw [nil_of (h2.alts (by omega) (by omega))] at ha; cases ha), (fun a ha => by rw [nil_of (h2.alts (by omega) (by omega))] at ha; cases ha)⟩
theorem g_isPlain : ∀ (g : Nat) (e : DExpr), SizeOf.sizeOf e ≤ g → Gives (m_core_isPlain g e) fun q => q = true → SP e := by
  intro g
  induction g with
  | zero => intro e h; have := size_pos e; omega
  | succ g ih =>
    intro e hg
    rw [m_core_isPlain]
    refine Gives.bind (fun z => z = false → e.Op ≠ 9 ∧ e.Op ≠ 10 ∧ NS e) (Gives.ite (fun _ => Gives.some fun h => by cases h) fun h9 => Gives.ite (fun _ => Gives.some fun h => by cases h) fun h10 => Gives.bind _ (g_isNode g e) fun q hq => Gives.some fun h => ⟨h9, h10, hq (by simpa using h)⟩) fun z hz => Gives.ite (fun _ => Gives.some fun h => by cases h) fun hz' => ?_
    obtain ⟨h9, h10, hn⟩ := hz (by simpa using hz')
    exact G_look e.Kids SP (fun i x hx hm hi => Gives.bind _ (ih x (by have := size_kid hm; omega)) fun q hq => Gives.ite (fun h => Gives.some ⟨rfl, hq h⟩) fun _ => Gives.some fun h => by cases h) (Gives.some trivial) fun hk _ => Gives.some fun _ => ⟨h9, h10, hn, hk⟩
theorem g_isBody : ∀ (g : Nat) (e : DExpr), SizeOf.sizeOf e ≤ g → Gives (m_core_isBody (g + 1) e) fun q => q = true → SB e := by
  intro g
  induction g with
  | zero => intro e h; have := size_pos e; omega
  | succ g ih =>
    intro e hg
    rw [m_core_isBody]
    refine Gives.bind (fun z => z = false → e.Op = 9 ∨ e.Op = 10) (Gives.ite (fun h => Gives.some fun _ => .inl h) fun h9 => Gives.some fun h => .inr (by simpa using h)) fun z hz => Gives.ite (fun _ => Gives.bind _ (g_isPlain (g + 1) e hg) fun q hq => Gives.some fun h => .plain (hq h)) fun hz' => ?_
    have ho := hz (by simpa using hz')
    refine Gives.bind (fun z => z = false → NS e ∧ ∀ k ∈ e.Kids, k.Op = 1 ∧ NS k) (Gives.bind _ (g_isNode (g + 1) e) fun q hq => Gives.ite (fun h => ?_) fun _ => Gives.some fun h => by cases h) fun z hz => Gives.ite (fun _ => Gives.some fun h => by cases h) fun hz' => ?_
    · have hn := hq h
      have h1 : e.Kids.length = 1 := hn.one (by omega)
      refine G_get (by omega) fun x hx _ => Gives.ite (fun h3 => G_get (by omega) fun y hy _ => Gives.bind _ (g_isNode (g + 1) y) fun q hq => Gives.some fun h => ⟨hn, fun k hk => ?_⟩) fun _ => Gives.some fun h => by cases h
      rw [hx] at hy; cases hy
      obtain ⟨i, hi, rfl⟩ := List.getElem_of_mem hk
      obtain rfl : i = 0 := by omega
      rw [List.getElem?_eq_getElem hi] at hx; cases hx
      exact ⟨h3, hq (by simpa using h)⟩
    · obtain ⟨hn, hk⟩ := hz (by simpa using hz')
      exact G_look e.Alts (fun a => PS a.P ∧ SB a.E) (fun i x hx hm hi => Gives.bind (fun z => z = false → PS x.P ∧ SB x.E) (Gives.bind _ (g_isSimple (g + 1) x.P) fun q hq => Gives.ite (fun h => Gives.bind _ (ih x.E (by have := (size_alt hm).1; omega)) fun q2 hq2 => Gives.some fun h2 => ⟨hq h, hq2 (by simpa using h2)⟩) fun _ => Gives.some fun h => by cases h) fun z hz => Gives.ite (fun _ => Gives.some fun h => by cases h) fun h => Gives.some ⟨rfl, hz (by simpa using h)⟩) (Gives.some trivial) fun ha _ => Gives.some fun _ => .case ho hn hk (fun a h => (ha a h).1) fun a h => (ha a h).2
theorem t_twiceCase : ∀ (g : Nat) (e : DExpr), SizeOf.sizeOf e ≤ g → Tot (m_core_isTwiceCase g e) := by
  intro g
  induction g with
  | zero => intro e h; have := size_pos e; omega
  | succ g ih =>
    intro e hg
    rw [m_core_isTwiceCase]
    refine G_look e.Alts (fun _ => True) (fun i x hx hm hi => ?_) (Gives.some trivial) fun _ _ => G_look e.Kids (fun _ => True) (fun i x hx hm hi => Gives.bind _ (ih x (by have := size_kid hm; omega)) fun q hq => Gives.ite (fun h => Gives.some trivial) fun _ => Gives.some ⟨rfl, trivial⟩) (Gives.some trivial) fun _ _ => Gives.some trivial
    refine Gives.jx (fun _ => True) (Gives.bindE (sub_ok ⟨by omega, by omega, by omega⟩) (G_each _ id (fun _ => True) trivial (Nat.zero_le _) (fun s y _ _ _ _ => Gives.bind (fun _ => True) ?_ fun z _ => Gives.ite (fun _ => Gives.some trivial) fun _ => Gives.some ⟨trivial, rfl⟩) fun s _ _ => Gives.some trivial)) fun _ _ => Gives.bind _ (ih x.E (by have := (size_alt hm).1; omega)) fun q hq => Gives.ite (fun h => Gives.some trivial) fun _ => Gives.some ⟨rfl, trivial⟩
    exact Gives.ite (fun _ => Gives.ite (fun _ => Gives.some trivial) fun _ => Gives.some trivial) fun _ => Gives.some trivial
end Go.Proofs.YtjkcinpmbgcgpaaGreatDoor
