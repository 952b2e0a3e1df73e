/- What is read from graphs that are like each other is the same. -/
import Derived.Test.YtjkcinpmbgcgpaaGreatDoorGrH
namespace Go.Proofs.YtjkcinpmbgcgpaaGreatDoor
open Go Go.Mir
set_option linter.unusedVariables false
/-- How many numbers below n are told by f. -/
def C (n : Nat) (f : Nat → Bool) : Nat := sumN (fun p => if f p = true then 1 else 0) (List.range n)
theorem C_zero (f : Nat → Bool) : C 0 f = 0 := rfl
theorem C_succ (n : Nat) (f : Nat → Bool) : C (n + 1) f = C n f + if f n = true then 1 else 0 := by
  unfold C; rw [List.range_succ, sumN_append]; rfl
theorem C_all (n : Nat) (f : Nat → Bool) : C n f ≤ n := by
  induction n with
  | zero => exact Nat.le_refl _
  | succ n ih => rw [C_succ]; split <;> omega
theorem C_le {n : Nat} {f f' : Nat → Bool} (h : ∀ p, f p = true → f' p = true) : C n f ≤ C n f' := by
  induction n with
  | zero => exact Nat.le_refl _
  | succ n ih =>
    rw [C_succ, C_succ]
    by_cases e : f n = true
    · rw [if_pos e, if_pos (h n e)]; omega
    · rw [if_neg e]; omega
theorem C_lt {n : Nat} {f f' : Nat → Bool} (h : ∀ p, f p = true → f' p = true) {k : Nat} (hk : k < n) (h1 : f' k = true) (h2 : ¬ f k = true) : C n f + 1 ≤ C n f' := by
  induction n with
  | zero => omega
  | succ n ih =>
    rw [C_succ, C_succ]
    by_cases e : k = n
    · subst e; rw [if_pos h1, if_neg h2]; have := C_le (n := k) h; omega
    · have := ih (by omega)
      by_cases e2 : f n = true
      · rw [if_pos e2, if_pos (h n e2)]; omega
      · rw [if_neg e2]; omega
section
variable {ns ms : List DNode} {R : Int → Int → Prop} (hR : Rel ns ms R) (hk : K1000 ns) (a6 a7 : List DData) (a8 : List DFun) (b4 b5 b6 b7 : List (List UInt8 × Int)) (hT : TOK a8 b4)
/-- States of the walk that are alike. -/
def SM (R : Int → Int → Prop) (st st' : List (Int × Int)) : Prop := ∀ i j, R i j → (assoc st i).getD 0 = (assoc st' j).getD 0
theorem SM.put (hR : Rel ns ms R) {st st' : List (Int × Int)} (h : SM R st st') {i j : Int} (hij : R i j) (v : Int) : SM R (upsert st i v) (upsert st' j v) := fun a b hab => by
  rw [as_ups, as_ups]
  by_cases e : i = a
  · subst e; rw [if_pos rfl, if_pos (hR.inj1 _ _ _ hij hab)]
  · rw [if_neg e, if_neg (fun e2 => e (by subst e2; exact hR.inj2 _ _ _ hij hab))]; exact h a b hab
abbrev unm (st : List (Int × Int)) : Nat → Bool := fun p => decide (¬ (assoc st (p : Int)).getD 0 = 1 ∧ ¬ (assoc st (p : Int)).getD 0 = 2)
theorem unm_put {st : List (Int × Int)} {i v : Int} (hv : v = 1 ∨ v = 2) {p : Nat} (h : unm (upsert st i v) p = true) : unm st p = true := by
  have h1 := of_decide_eq_true h
  rw [as_ups] at h1
  by_cases e : i = (p : Int)
  · rw [if_pos e] at h1
    simp only [Option.getD_some] at h1
    omega
  · rw [if_neg e] at h1; exact decide_eq_true h1
include hR hT in
theorem isRead2 (rt rt' : Int) (bad : Bool) (sz : Int) (num : List (Int × Int)) (on : List (Int × Bool)) : ∀ (g : Nat) (i j : Int) (st st' : List (Int × Int)), R i j → SM R st st' → C ns.length (unm st) + 1 ≤ g →
    Gives2 (m_graph_seer_isRead_f1 g i st rt ns bad sz a6 a7 a8 num on b4 b5 b6 b7) (m_graph_seer_isRead_f1 g j st' rt' ms bad sz a6 a7 a8 num on b4 b5 b6 b7) fun r r' => r'.1 = r.1 ∧ SM R r.2 r'.2 ∧ ∀ p, unm r.2 p = true → unm st p = true := by
  intro g
  induction g with
  | zero => intro i j st st' _ _ h; omega
  | succ g ih =>
    intro i j st st' hij hS hu
    obtain ⟨x, y, hx, hy, hxy⟩ := hR.dom i j hij
    rw [m_graph_seer_isRead_f1, m_graph_seer_isRead_f1]
    refine Gives2.bindE rfl rfl ?_
    rw [← hS i j hij]
    refine Gives2.ite Iff.rfl (fun _ => Gives2.some ⟨rfl, hS, fun p h => h⟩) fun h1 => Gives2.ite Iff.rfl (fun _ => Gives2.some ⟨rfl, hS, fun p h => h⟩) fun h2 => ?_
    have hir := idx_lt hx
    obtain ⟨f, hf⟩ := t_FunArity a6 a7 a8 b4 b5 b6 b7 hT g x.Name
    refine Gives2.bindE hx hy (Gives2.bindE hf.1 (by rw [hxy.name]; exact hf.1) ?_)
    refine Gives2.bind (fun z z' => z' = z) ?_ fun z z' hz => ?_
    · rw [hxy.op, ← hxy.kids.len]
      exact (Gives2.same (by repeat' first | exact Gives.some trivial | refine Gives.ite (fun _ => ?_) (fun _ => ?_)) rfl).mono fun _ _ h => h.symm
    · subst hz
      refine Gives2.ite Iff.rfl (fun _ => Gives2.some ⟨rfl, hS, fun p h => h⟩) fun _ => Gives2.bindE rfl rfl ?_
      have hlt : C ns.length (unm (upsert st i 1)) + 1 ≤ C ns.length (unm st) := by
        refine C_lt (fun p h => unm_put (.inl rfl) h) (k := i.toNat) (by omega) ?_ ?_
        · show decide (¬ (assoc st ((i.toNat : Nat) : Int)).getD 0 = 1 ∧ ¬ (assoc st ((i.toNat : Nat) : Int)).getD 0 = 2) = true
          rw [show ((i.toNat : Nat) : Int) = i by omega]; exact decide_eq_true ⟨h1, h2⟩
        · show ¬ decide (¬ (assoc (upsert st i 1) ((i.toNat : Nat) : Int)).getD 0 = 1 ∧ ¬ (assoc (upsert st i 1) ((i.toNat : Nat) : Int)).getD 0 = 2) = true
          rw [show ((i.toNat : Nat) : Int) = i by omega, as_ups, if_pos rfl]; decide
      refine Gives2.jx (fun s s' => SM R s s' ∧ ∀ p, unm s p = true → unm (upsert st i 1) p = true) (Gives2.cnt x.Kids.length (fun s : List (Int × Int) × Nat => s.2) (fun (s s' : List (Int × Int) × Nat) => s'.2 = s.2 ∧ SM R s.1 s'.1 ∧ ∀ p, unm s.1 p = true → unm (upsert st i 1) p = true) ⟨rfl, hS.put hR hij 1, fun p h => h⟩ (Nat.zero_le _) (fun s s' hs hc => ?_) fun s s' hs hc => ?_) fun s s' hs => Gives2.bindE rfl rfl (Gives2.some ⟨rfl, hs.1.put hR hij 2, fun p h => unm_put (.inl rfl) (hs.2 p (unm_put (.inr rfl) h))⟩)
      · obtain ⟨e, i1, i2⟩ := hs
        have hlt2 : s.2 < x.Kids.length := hc
        have hxk := List.getElem?_eq_getElem hlt2
        obtain ⟨b, hb, hab⟩ := hxy.kids.get hxk
        have hkl := hxy.kids.len
        rw [if_pos (by omega), if_pos (by omega), e]
        have hC := C_le (n := ns.length) i2
        refine Gives2.bindE hxk hb (Gives2.bind _ (ih _ b _ _ hab i1 (by omega)) fun q q' hq => ?_)
        rw [hq.1]
        exact Gives2.ite Iff.rfl (fun _ => Gives2.some ⟨⟨rfl, hq.2.1, fun p h => i2 p (hq.2.2 p h)⟩, rfl⟩) fun _ => Gives2.some ⟨rfl, hq.2.1, fun p h => unm_put (.inl rfl) (i2 p (hq.2.2 p h))⟩
      · obtain ⟨e, i1, i2⟩ := hs
        have hlt2 : s.2 = x.Kids.length := hc
        have hkl := hxy.kids.len
        rw [if_neg (by omega), if_neg (by omega)]
        exact Gives2.some ⟨i1, i2⟩
/-- Numbers of variables that are alike. -/
structure NM (R : Int → Int → Prop) (st st' : List (Int × Int)) : Prop where
  at_ : ∀ i j, R i j → assoc st i = assoc st' j
  len : st.length = st'.length
theorem as_new {κ α : Type} [DecidableEq κ] {k : κ} {v : α} : ∀ {l : List (κ × α)}, assoc l k = none → upsert l k v = l ++ [(k, v)]
  | [], _ => rfl
  | (a, b) :: l, h => by
    unfold assoc at h
    by_cases e : a = k
    · rw [if_pos e] at h; cases h
    · rw [if_neg e] at h; unfold upsert; rw [if_neg e, as_new h]; rfl
def ON (R : Int → Int → Prop) (st st' : List (Int × Bool)) : Prop := ∀ i j, R i j → (assoc st i).getD false = (assoc st' j).getD false
abbrev off (st : List (Int × Bool)) : Nat → Bool := fun p => !(assoc st (p : Int)).getD false
include hR hT hk in
theorem value2 (rt rt' : Int) : ∀ (g : Nat) (i j : Int) (bad : Bool) (sz : Int) (num num' : List (Int × Int)) (on on' : List (Int × Bool)), R i j → NM R num num' → ON R on on' → C ns.length (off on) + 1 ≤ g →
    Gives2 (m_graph_seer_value g i rt ns bad sz a6 a7 a8 num on b4 b5 b6 b7) (m_graph_seer_value g j rt' ms bad sz a6 a7 a8 num' on' b4 b5 b6 b7) fun r r' => r'.1 = r.1 ∧ r'.2.1 = r.2.1 ∧ r'.2.2.1 = r.2.2.1 ∧ NM R r.2.2.2.1 r'.2.2.2.1 ∧ ON R r.2.2.2.2 r'.2.2.2.2 ∧ ∀ p, (assoc r.2.2.2.2 p).getD false = (assoc on p).getD false := by
  intro g
  induction g with
  | zero => intro i j bad sz num num' on on' _ _ _ h; omega
  | succ g ih =>
    intro i j bad sz num num' on on' hij hN hO hu
    obtain ⟨x, y, hx, hy, hxy⟩ := hR.dom i j hij
    have hir := idx_lt hx
    have hop := hxy.op
    have hkl := hxy.kids.len
    obtain ⟨f, hf⟩ := t_FunArity a6 a7 a8 b4 b5 b6 b7 hT g x.Name
    rw [m_graph_seer_value, m_graph_seer_value]
    refine Gives2.bindE hx hy (Gives2.bindE hf.1 (by rw [hxy.name]; exact hf.1) ?_)
    refine Gives2.bind (fun (z z' : Bool × Bool) => z' = z ∧ (z.2 = false → (assoc on i).getD false = false)) ?_ fun z z' hz => ?_
    · rw [hop, ← hkl]
      refine Gives2.ite Iff.rfl (fun _ => Gives2.some ⟨rfl, fun h => by cases h⟩) fun _ => Gives2.bindE rfl rfl ?_
      rw [← hO i j hij]
      refine Gives2.ite Iff.rfl (fun _ => Gives2.some ⟨rfl, fun h => by cases h⟩) fun h => ?_
      have hoff : (assoc on i).getD false = false := by simpa using h
      exact (Gives2.same (by repeat' first | exact Gives.some trivial | refine Gives.ite (fun _ => ?_) (fun _ => ?_)) rfl).mono fun _ _ h => ⟨h.symm, fun _ => hoff⟩
    · obtain ⟨rfl, hz2⟩ := hz
      rw [hop, hxy.name, hxy.n]
      refine Gives2.ite Iff.rfl (fun _ => Gives2.bind (fun z z' => z' = z) ((Gives2.same (by repeat' first | exact Gives.some trivial | refine Gives.ite (fun _ => ?_) (fun _ => ?_)) rfl).mono fun _ _ h => h.symm) fun z z' hz => Gives2.some ⟨rfl, hz, rfl, hN, hO, fun p => rfl⟩) fun hzf => ?_
      have hoff := hz2 (by simpa using hzf)
      refine Gives2.ite Iff.rfl (fun _ => Gives2.some ⟨rfl, rfl, rfl, hN, hO, fun p => rfl⟩) fun _ => Gives2.ite Iff.rfl (fun _ => ?_) fun _ => ?_
      · -- a variable
        refine Gives2.bind (NM R) (Gives2.bindE rfl rfl ?_) fun m m' hm => Gives2.bindE rfl rfl (Gives2.some ⟨by rw [hm.at_ i j hij], rfl, rfl, hm, hO, fun p => rfl⟩)
        refine Gives2.ite (by rw [hN.at_ i j hij]) (fun _ => Gives2.some hN) fun hnone => ?_
        have hn1 : assoc num i = none := by simpa using hnone
        have hn2 : assoc num' j = none := by rw [← hN.at_ i j hij]; exact hn1
        refine Gives2.bindE rfl rfl (Gives2.some ⟨fun a b hab => ?_, ?_⟩)
        · rw [as_ups, as_ups, hN.len]
          by_cases e : i = a
          · subst e; rw [if_pos rfl, if_pos (hR.inj1 _ _ _ hij hab)]
          · rw [if_neg e, if_neg (fun e2 => e (by subst e2; exact hR.inj2 _ _ _ hij hab))]; exact hN.at_ a b hab
        · rw [as_new hn1, as_new hn2, List.length_append, List.length_append, hN.len]; rfl
      · refine Gives2.bind (fun z z' => z' = z) ((Gives2.same (by repeat' first | exact Gives.some trivial | refine Gives.ite (fun _ => ?_) (fun _ => ?_)) rfl).mono fun _ _ h => h.symm) fun z3 z4 hz3 => ?_
        subst hz3
        refine Gives2.bindE rfl rfl ?_
        have hO2 : ON R (upsert on i true) (upsert on' j true) := fun a b hab => by
          rw [as_ups, as_ups]
          by_cases e : i = a
          · subst e; rw [if_pos rfl, if_pos (hR.inj1 _ _ _ hij hab)]
          · rw [if_neg e, if_neg (fun e2 => e (by subst e2; exact hR.inj2 _ _ _ hij hab))]; exact hO a b hab
        have hlt : C ns.length (off (upsert on i true)) + 1 ≤ C ns.length (off on) := by
          refine C_lt (fun p h => ?_) (k := i.toNat) (by omega) ?_ ?_
          · have h1 : (!(assoc (upsert on i true) (p : Int)).getD false) = true := h
            rw [as_ups] at h1
            by_cases e : i = (p : Int)
            · rw [if_pos e] at h1; simp at h1
            · rw [if_neg e] at h1; exact h1
          · show (!(assoc on ((i.toNat : Nat) : Int)).getD false) = true
            rw [show ((i.toNat : Nat) : Int) = i by omega, hoff]; rfl
          · show ¬ (!(assoc (upsert on i true) ((i.toNat : Nat) : Int)).getD false) = true
            rw [show ((i.toNat : Nat) : Int) = i by omega, as_ups, if_pos rfl]; decide
        have h1000 := hk x (idx_mem hx)
        refine Gives2.bind (fun (s s' : List (Int × Int) × List (Int × Bool) × Bool × Int × List DValue) => NM R s.1 s'.1 ∧ ON R s.2.1 s'.2.1 ∧ (∀ p, (assoc s.2.1 p).getD false = (assoc (upsert on i true) p).getD false) ∧ s'.2.2 = s.2.2)
          (Gives2.cnt x.Kids.length (fun s : List (Int × Int) × List (Int × Bool) × Bool × Int × List DValue × Nat => s.2.2.2.2.2) (fun (s s' : List (Int × Int) × List (Int × Bool) × Bool × Int × List DValue × Nat) => NM R s.1 s'.1 ∧ ON R s.2.1 s'.2.1 ∧ (∀ p, (assoc s.2.1 p).getD false = (assoc (upsert on i true) p).getD false) ∧ s'.2.2 = s.2.2 ∧ s.2.2.2.2.1.length ≤ s.2.2.2.2.2) ⟨hN, hO2, fun p => rfl, rfl, Nat.zero_le _⟩ (Nat.zero_le _) (fun s s' hs hc => ?_) fun s s' hs hc => ?_) fun s s' hs => ?_
        · obtain ⟨i1, i2, i3, i4, i5⟩ := hs
          have hlt2 : s.2.2.2.2.2 < x.Kids.length := hc
          have hxk := List.getElem?_eq_getElem hlt2
          obtain ⟨b, hb, hab⟩ := hxy.kids.get hxk
          rw [i4, if_pos (by omega), if_pos (by omega)]
          have hC : C ns.length (off s.2.1) = C ns.length (off (upsert on i true)) := by
            have : off s.2.1 = off (upsert on i true) := funext fun p => by show (!_) = (!_); rw [i3]
            rw [this]
          refine Gives2.bindE hxk hb (Gives2.bind _ (ih _ b _ _ _ _ _ _ hab i1 i2 (by omega)) fun q q' hq => ?_)
          obtain ⟨q1, q2, q3, q4, q5, q6⟩ := hq
          rw [q1, q2, q3]
          refine Gives2.bindE (push_small 2000 (by simp only [List.length_cons, List.length_nil]; omega) (by decide)) (push_small 2000 (by simp only [List.length_cons, List.length_nil]; omega) (by decide)) (Gives2.some ⟨⟨q4, q5, fun p => by rw [← i3 p]; exact q6 p, rfl, ?_⟩, rfl⟩)
          show (s.2.2.2.2.1 ++ [q.1]).length ≤ s.2.2.2.2.2 + 1
          simp; omega
        · obtain ⟨i1, i2, i3, i4, i5⟩ := hs
          have hlt2 : s.2.2.2.2.2 = x.Kids.length := hc
          rw [i4, if_neg (by omega), if_neg (by omega)]
          exact Gives2.some ⟨i1, i2, i3, rfl⟩
        · obtain ⟨i1, i2, i3, i4⟩ := hs
          rw [i4]
          refine Gives2.some ⟨rfl, rfl, rfl, i1, fun a b hab => ?_, fun p => ?_⟩
          · rw [as_del, as_del]
            by_cases e : i = a
            · subst e; rw [if_pos rfl, if_pos (hR.inj1 _ _ _ hij hab)]
            · rw [if_neg e, if_neg (fun e2 => e (by subst e2; exact hR.inj2 _ _ _ hij hab))]; exact i2 a b hab
          · rw [as_del]
            by_cases e : i = p
            · subst e; rw [if_pos rfl, hoff]; rfl
            · rw [if_neg e, i3, as_ups, if_neg e]
include hR hT hk in
theorem readOf2 {rt rt' : Int} (hr : R rt rt') (g : Nat) (hg : ns.length + 50 ≤ g) : Gives2 (m_graph_ReadOf g ⟨rt, ns⟩ [] a6 a7 a8 b4 b5 b6 b7) (m_graph_ReadOf g ⟨rt', ms⟩ [] a6 a7 a8 b4 b5 b6 b7) fun r r' => r' = r ∧ DV 40 r.1.V ∧ ∀ b ∈ r.1.B, DV 40 b := by
  have dv0 : DV 40 (DValue.mk 0 [] 0 []) := .mk fun k h => by cases h
  have nob : ∀ b ∈ ([] : List DValue), DV 40 b := fun b h => by cases h
  unfold m_graph_ReadOf
  have p1 : ∀ r : Int, Mir.push 8 ([r] : List Int) [] = some [r] := fun r => push_small 1 (by simp) (by decide)
  refine Gives2.bindE (p1 rt) (p1 rt') (Gives2.bind (fun b b' => b' = b) ?_ fun b b' hb => ?_)
  · unfold m_graph_seer_isRead
    refine Gives2.jx (fun _ _ => True) (Gives2.cnt 1 (fun s : List (Int × Int) × Nat => s.2) (fun (s s' : List (Int × Int) × Nat) => s'.2 = s.2 ∧ (s.2 = 0 → s.1 = [] ∧ s'.1 = [])) ⟨rfl, fun _ => ⟨rfl, rfl⟩⟩ (by decide) (fun s s' hs hc => ?_) fun s s' hs hc => ?_) fun _ _ _ => Gives2.some rfl
    · obtain ⟨m, n⟩ := s
      obtain ⟨m', n'⟩ := s'
      obtain ⟨e, h0⟩ := hs
      dsimp only at e h0 hc ⊢
      obtain rfl : n = 0 := by omega
      obtain ⟨rfl, rfl⟩ := h0 rfl
      subst e
      have hC := C_all ns.length (unm [])
      refine Gives2.ite Iff.rfl (fun _ => Gives2.bindE rfl rfl (Gives2.bind _ (isRead2 hR a6 a7 a8 b4 b5 b6 b7 hT rt rt' _ _ _ _ g rt rt' [] [] hr (fun i j h => rfl) (by omega)) fun q q' hq => ?_)) fun h => absurd (by simp) h
      rw [hq.1]
      exact Gives2.ite Iff.rfl (fun _ => Gives2.some ⟨⟨rfl, fun h => by cases h⟩, rfl⟩) fun _ => Gives2.some rfl
    · obtain ⟨e, h0⟩ := hs
      have hc1 : s.2 = 1 := hc
      rw [if_neg (by simp only [List.length_cons, List.length_nil]; omega), if_neg (by simp only [List.length_cons, List.length_nil]; omega)]
      exact Gives2.some trivial
  · subst hb
    refine Gives2.ite Iff.rfl (fun _ => ?_) fun _ => Gives2.some ⟨rfl, dv0, nob⟩
    refine Gives2.jx (fun (s s' : List (Int × Int) × List (Int × Bool) × Bool × Int × Int × List UInt8 × Int × List DValue × List DValue) => s.1.length = s'.1.length ∧ s'.2.2.2.2 = s.2.2.2.2 ∧ DV 40 (DValue.mk s.2.2.2.2.1 s.2.2.2.2.2.1 s.2.2.2.2.2.2.1 s.2.2.2.2.2.2.2.1) ∧ s.2.2.2.2.2.2.2.2 = []) (Gives2.bindE (p1 rt) (p1 rt') ?_) fun s s' hs => ?_
    · refine Gives2.cnt 1 (fun s : List (Int × Int) × List (Int × Bool) × Bool × Int × Int × List UInt8 × Int × List DValue × List DValue × Nat => s.2.2.2.2.2.2.2.2.2)
        (fun (s s' : List (Int × Int) × List (Int × Bool) × Bool × Int × Int × List UInt8 × Int × List DValue × List DValue × Nat) => s.1.length = s'.1.length ∧ s'.2.2.2.2 = s.2.2.2.2 ∧ (s.2.2.2.2.2.2.2.2.2 = 0 → s.1 = [] ∧ s'.1 = [] ∧ s.2.1 = [] ∧ s'.2.1 = [] ∧ s'.2.2.1 = s.2.2.1) ∧ (s.2.2.2.2.2.2.2.2.2 = 1 → DV 40 (DValue.mk s.2.2.2.2.1 s.2.2.2.2.2.1 s.2.2.2.2.2.2.1 s.2.2.2.2.2.2.2.1)) ∧ s.2.2.2.2.2.2.2.2.1 = []) ⟨rfl, rfl, fun _ => ⟨rfl, rfl, rfl, rfl, rfl⟩, (fun h => by cases h), rfl⟩ (by decide) (fun s s' hs hc => ?_) fun s s' hs hc => ?_
      · obtain ⟨m, on, bad, sz, v1, v2, v3, v4, B, n⟩ := s
        obtain ⟨m', on', bad', sz', v'⟩ := s'
        obtain ⟨e1, e2, e3, e4, e5⟩ := hs
        dsimp only at e1 e2 e3 e4 e5 hc ⊢
        obtain rfl : n = 0 := by omega
        obtain ⟨rfl, rfl, rfl, rfl, rfl⟩ := e3 rfl
        subst e2
        subst e5
        dsimp only
        refine Gives2.ite Iff.rfl (fun _ => ?_) fun h => absurd (by simp) h
        have hC := C_all ns.length (off [])
        refine Gives2.jx (fun (s s' : List (Int × Int) × List (Int × Bool) × Bool × Int × Int × List UInt8 × Int × List DValue × List DValue) => s.1.length = s'.1.length ∧ s'.2.2.2.2 = s.2.2.2.2 ∧ DV 40 (DValue.mk s.2.2.2.2.1 s.2.2.2.2.2.1 s.2.2.2.2.2.2.1 s.2.2.2.2.2.2.2.1) ∧ s.2.2.2.2.2.2.2.2 = []) (Gives2.bindE rfl rfl (Gives2.bind _ (value2 hR hk a6 a7 a8 b4 b5 b6 b7 hT rt rt' g rt rt' _ _ [] [] [] [] hr ⟨fun i j h => rfl, rfl⟩ (fun i j h => rfl) (by omega)) fun q q' hq => ?_)) fun s s' hs => Gives2.some ⟨⟨hs.1, by show _ = _; rw [hs.2.1], (fun h => by cases h), fun _ => hs.2.2.1, hs.2.2.2⟩, rfl⟩
        obtain ⟨q1, q2, q3, q4, q5, q6⟩ := hq
        rw [q1, q3]
        obtain ⟨d, hd1, hd2⟩ := g_deep 40 g q.1 (by omega) (by omega)
        refine Gives2.bind (fun z z' => z' = z ∧ (z = false → DV 40 q.1)) (Gives2.ite Iff.rfl (fun _ => Gives2.some ⟨rfl, fun h => by cases h⟩) fun _ => Gives2.bindE hd1 hd1 (Gives2.some ⟨rfl, hd2⟩)) fun z z' hz => ?_
        obtain ⟨rfl, hz2⟩ := hz
        refine Gives2.ite Iff.rfl (fun _ => Gives2.some ⟨rfl, dv0, nob⟩) fun hzf => Gives2.ite Iff.rfl (fun _ => Gives2.some ⟨q4.len, rfl, ?_, rfl⟩) fun h => absurd rfl h
        have := hz2 (by simpa using hzf)
        cases hq1 : q.1 with
        | mk o n m ks => rw [hq1] at this; exact this
      · obtain ⟨e1, e2, e3, e4, e5⟩ := hs
        have hc1 : s.2.2.2.2.2.2.2.2.2 = 1 := hc
        rw [e2, if_neg (by simp only [List.length_cons, List.length_nil]; omega), if_neg (by simp only [List.length_cons, List.length_nil]; omega)]
        exact Gives2.some ⟨e1, rfl, e4 hc1, e5⟩
    · obtain ⟨e1, e2, e3, e4⟩ := hs
      rw [e2, ← e1]
      refine Gives2.bind (fun z z' => z' = z) ((Gives2.same (by repeat' first | exact Gives.some trivial | refine Gives.ite (fun _ => ?_) (fun _ => ?_)) rfl).mono fun _ _ h => h.symm) fun z z' hz => ?_
      subst hz
      exact Gives2.ite Iff.rfl (fun _ => Gives2.some ⟨rfl, dv0, nob⟩) fun _ => Gives2.some ⟨rfl, e3, by rw [e4]; exact nob⟩
end
end Go.Proofs.YtjkcinpmbgcgpaaGreatDoor
