/- Core programs: the check ends for all, and what it lets through is closed and fits. -/
import Derived.Test.YtjkcinpmbgcgpaaGreatDoorGrC
namespace Go.Proofs.YtjkcinpmbgcgpaaGreatDoor
open Go Go.Mir
set_option linter.unusedVariables false
theorem g_pnv (g : Nat) (k : DPat) (l : List (List UInt8)) (h2 : k.Op = 2) (h0 : k.Kids.length = 0) (hl : l.length ≤ 100000) : Gives (m_syntax_PatNames (g + 1) k l) fun q => q = l ++ [k.Name] := by
  rw [m_syntax_PatNames]
  refine Gives.bind (fun q => q = l ++ [k.Name]) (Gives.pos h2 (Gives.bindE (push_small 100001 (by simp only [List.length_cons, List.length_nil]; omega) (by decide)) (Gives.some rfl))) fun z hz => ?_
  subst hz
  refine Gives.bind (fun q => q = l ++ [k.Name]) (G_each k.Kids (fun s : List (List UInt8) × Nat => s.2) (fun s : List (List UInt8) × Nat => s.1 = l ++ [k.Name]) rfl (Nat.zero_le _) (fun s x hs hc hx hm => ?_) fun s hs hc => Gives.some hs) fun _ h => Gives.some h
  have : s.2 < k.Kids.length := hc
  omega
theorem size_pk {p x : DPat} (h : x ∈ p.Kids) : SizeOf.sizeOf x < SizeOf.sizeOf p := by
  cases p with
  | mk o n m ks => have := List.sizeOf_lt_of_mem h; simp only [DPat.mk.sizeOf_spec]; simp only at this; omega
theorem size_ppos (p : DPat) : 1 ≤ SizeOf.sizeOf p := by cases p; simp only [DPat.mk.sizeOf_spec]; omega
theorem g_pn (g : Nat) (p : DPat) (l : List (List UInt8)) (hp : PS p) (hg : SizeOf.sizeOf p ≤ g) (hl : l.length ≤ 90000) : Gives (m_syntax_PatNames g p l) fun q => q = l ++ p.Kids.map (·.Name) := by
  obtain ⟨g, rfl⟩ : ∃ k, g = k + 1 := ⟨g - 1, by have := size_ppos p; omega⟩
  have h8 : p.Kids.length ≤ 8 := by rcases hp with h | h <;> omega
  have hn2 : ¬ p.Op = 2 := by rcases hp with h | h <;> omega
  rw [m_syntax_PatNames]
  refine Gives.bind (fun q => q = l) (Gives.neg hn2 (Gives.some rfl)) fun z hz => ?_
  subst hz
  refine Gives.bind (fun q => q = z ++ p.Kids.map (·.Name)) (G_each p.Kids (fun s : List (List UInt8) × Nat => s.2) (fun s : List (List UInt8) × Nat => s.1 = z ++ (p.Kids.take s.2).map (·.Name) ∧ s.2 ≤ 8) ⟨by simp, by simp⟩ (Nat.zero_le _) (fun s x hs hc hx hm => ?_) fun s hs hc => Gives.some ?_) fun _ h => Gives.some h
  · have hlt : s.2 < p.Kids.length := hc
    obtain ⟨g, rfl⟩ : ∃ k, g = k + 1 := ⟨g - 1, by have := size_pk hm; have := size_ppos x; omega⟩
    rcases hp with hp | ⟨_, _, hk⟩
    · omega
    · refine Gives.bind _ (g_pnv g x s.1 (hk x hm).1 (hk x hm).2 (by rw [hs.1]; simp; omega)) fun q hq => Gives.some ⟨⟨?_, by show s.2 + 1 ≤ 8; omega⟩, rfl⟩
      show q = z ++ (p.Kids.take (s.2 + 1)).map (·.Name)
      rw [hq, hs.1, take_next hx, List.map_append, List.append_assoc]; rfl
  · show s.1 = z ++ p.Kids.map (·.Name)
    rw [hs.1, takeAll (show s.2 = p.Kids.length from hc)]
theorem g_binders : ∀ (g : Nat) (e : DExpr) (l : List (List UInt8)), SizeOf.sizeOf e ≤ g → WF e → l.length + 21 * cntE e ≤ 80000 → Gives (m_core_binders g e l) fun q => q.length + 8 ≤ l.length + 21 * cntE e := by
  intro g
  induction g with
  | zero => intro e l h; have := size_pos e; omega
  | succ g ih =>
    intro e l hg hw hl
    obtain ⟨hn, hk, hp, ha⟩ := hw
    have hce := cntE_eq e
    have h12 := hn.names
    rw [m_core_binders]
    refine Gives.bind (fun q => q.length ≤ l.length + 1) (Gives.ite (fun _ => Gives.bindE (push_small 100000 (by simp only [List.length_cons, List.length_nil]; omega) (by decide)) (Gives.some (by simp))) fun _ => Gives.some (by omega)) fun z hz => ?_
    refine Gives.bindE (push_small 100000 (by omega) (by decide)) ?_
    refine Gives.bind (fun q => q.length ≤ l.length + 13 + 21 * sumN cntE e.Kids) (G_each e.Kids (fun s : List (List UInt8) × Nat => s.2) (fun s : List (List UInt8) × Nat => s.1.length ≤ l.length + 13 + 21 * sumN cntE (e.Kids.take s.2)) ?_ (Nat.zero_le _) (fun s x hs hc hx hm => ?_) fun s hs hc => Gives.some ?_) fun z2 hz2 => Gives.bind _ ?_ fun _ h => Gives.some h
    · simp only [List.take_zero, sumN_nil, List.length_append]; omega
    · have h1 := sumN_take (f := cntE) hx
      have h2 := sumN_takeLe (f := cntE) (l := e.Kids) (i := s.2 + 1)
      refine Gives.bind _ (ih x s.1 (by have := size_kid hm; omega) (hk x hm) (by omega)) fun q hq => Gives.some ⟨?_, rfl⟩
      show q.length ≤ l.length + 13 + 21 * sumN cntE (e.Kids.take (s.2 + 1))
      omega
    · have h1 := takeAll (show s.2 = e.Kids.length from hc)
      rw [h1] at hs; exact hs
    · refine G_each e.Alts (fun s : List (List UInt8) × Nat => s.2) (fun s : List (List UInt8) × Nat => s.1.length ≤ l.length + 13 + 21 * sumN cntE e.Kids + 21 * sumN (fun a : DAlt => cntE a.E) (e.Alts.take s.2)) ?_ (Nat.zero_le _) (fun s x hs hc hx hm => ?_) fun s hs hc => Gives.some ?_
      · simp only [List.take_zero, sumN_nil]; omega
      · have h1 := sumN_take (f := fun a : DAlt => cntE a.E) hx
        have h2 := sumN_takeLe (f := fun a : DAlt => cntE a.E) (l := e.Alts) (i := s.2 + 1)
        have h8 : x.P.Kids.length ≤ 8 := by rcases hp x hm with h | h <;> omega
        refine Gives.bind _ (g_pn g x.P s.1 (hp x hm) (by have := (size_alt hm).2; omega) (by omega)) fun q hq => ?_
        have hq2 : q.length = s.1.length + x.P.Kids.length := by rw [hq]; simp
        refine Gives.bind _ (ih x.E q (by have := (size_alt hm).1; omega) (ha x hm) (by omega)) fun q3 hq3 => Gives.some ⟨?_, rfl⟩
        show q3.length ≤ l.length + 13 + 21 * sumN cntE e.Kids + 21 * sumN (fun a : DAlt => cntE a.E) (e.Alts.take (s.2 + 1))
        omega
      · have h1 := takeAll (show s.2 = e.Alts.length from hc)
        rw [h1] at hs
        show s.1.length + 8 ≤ l.length + 21 * cntE e
        omega
theorem t_IsTwice (g : Nat) (l : List (List UInt8)) : Tot (m_syntax_IsTwice g l) := t_alike g l
def TOK (fs : List DFun) (m : List (List UInt8 × Int)) : Prop := ∀ k v, assoc m k = some v → 0 ≤ v ∧ v < fs.length
theorem idx_in {α : Type} {xs : List α} {i : Int} (h : 0 ≤ i ∧ i < xs.length) : ∃ x, idx xs i = some x ∧ xs[i.toNat]? = some x ∧ x ∈ xs := by
  have h2 : i.toNat < xs.length := by omega
  refine ⟨xs[i.toNat], ?_, List.getElem?_eq_getElem h2, List.getElem_mem h2⟩
  unfold idx
  rw [if_pos h.1]; exact List.getElem?_eq_getElem h2
section
variable (a1 a2 : List DData) (a3 : List DFun) (a4 a5 a6 a7 : List (List UInt8 × Int))
theorem t_FunArity (hT : TOK a3 a4) (g : Nat) (n : List UInt8) : Tot (m_core_Table_FunArity g n a1 a2 a3 a4 a5 a6 a7) := by
  unfold m_core_Table_FunArity
  refine Gives.bindE rfl (Gives.ite (fun h => ?_) fun _ => Gives.bindE rfl (Gives.some trivial))
  obtain ⟨v, hv⟩ := Option.isSome_iff_exists.1 h
  rw [hv, Option.getD_some]
  obtain ⟨x, hx, _⟩ := idx_in (hT n v hv)
  exact Gives.bindE hx (Gives.some trivial)
theorem t_isTwice (hT : TOK a3 a4) (g : Nat) (l : List (List UInt8)) : Tot (m_core_Table_isTwice g l a1 a2 a3 a4 a5 a6 a7) := by
  unfold m_core_Table_isTwice
  exact Gives.bind _ (t_IsTwice g l) fun _ _ => Gives.ite (fun _ => Gives.some trivial) fun _ => G_look l (fun _ => True) (fun i x hx hm hi => Gives.bind _ (t_FunArity a1 a2 a3 a4 a5 a6 a7 hT g x) fun q hq => Gives.ite (fun h => Gives.some trivial) fun _ => Gives.some ⟨rfl, trivial⟩) (Gives.some trivial) fun _ _ => Gives.some trivial
/-- The pattern of an alternative has as many places as its constructor. -/
inductive UF : DExpr → Prop
  | mk {e : DExpr} : (∀ a ∈ e.Alts, a.P.Op = 3 → ((a.P.Kids.length : Nat) : Int) = (assoc a5 a.P.Name).getD 0) → (∀ a ∈ e.Alts, UF a.E) → UF e
theorem g_isUnfit (hT : TOK a3 a4) : ∀ (g : Nat) (e : DExpr), SizeOf.sizeOf e ≤ g → Gives (m_core_Table_isUnfit g e a1 a2 a3 a4 a5 a6 a7) fun q => q = false → UF a5 e := by
  intro g
  induction g with
  | zero => intro e h; have := size_pos e; omega
  | succ g ih =>
    intro e hg
    rw [m_core_Table_isUnfit]
    refine Gives.jx (fun _ => True) (Gives.ite (fun _ => Gives.bind _ (t_FunArity a1 a2 a3 a4 a5 a6 a7 hT g _) fun q _ => Gives.ite (fun _ => Gives.some fun h => by cases h) fun _ => Gives.some trivial) fun _ => Gives.ite (fun _ => Gives.bindE rfl (Gives.ite (fun _ => Gives.some fun h => by cases h) fun _ => Gives.some trivial)) fun _ => Gives.some trivial) fun _ _ => ?_
    refine G_look e.Alts (fun a => (a.P.Op = 3 → ((a.P.Kids.length : Nat) : Int) = (assoc a5 a.P.Name).getD 0) ∧ UF a5 a.E) (fun i x hx hm hi => ?_) (Gives.some trivial) fun hu _ => ?_
    · refine G_get (by omega) fun y hy _ => ?_
      have key : Gives (m_core_Table_isUnfit g x.E a1 a2 a3 a4 a5 a6 a7) fun q => q = false → UF a5 x.E := ih x.E (by have := (size_alt hm).1; omega)
      refine Gives.bind (fun z => z = false → (x.P.Op = 3 → ((x.P.Kids.length : Nat) : Int) = (assoc a5 x.P.Name).getD 0) ∧ UF a5 x.E) (Gives.ite (fun _ => Gives.ite (fun _ => Gives.bindE rfl (Gives.ite (fun h => Gives.bindE rfl (Gives.bindE rfl (Gives.ite (fun _ => Gives.bind _ key fun q hq => Gives.some fun hf => ⟨fun _ => h, hq hf⟩) fun _ => Gives.some fun h => by cases h))) fun _ => Gives.some fun h => by cases h)) fun h3 => Gives.bind _ key fun q hq => Gives.some fun hf => ⟨fun h => absurd h h3, hq hf⟩) fun _ => Gives.some fun h => by cases h) fun z hz => Gives.ite (fun _ => Gives.some fun h => by cases h) fun h => Gives.some ⟨rfl, hz (by simpa using h)⟩
    · exact G_look e.Kids (fun _ => True) (fun i x hx hm hi => Gives.bind _ (ih x (by have := size_kid hm; omega)) fun q hq => Gives.ite (fun _ => Gives.some fun h => by cases h) fun _ => Gives.some ⟨rfl, trivial⟩) (Gives.some trivial) fun _ _ => Gives.some fun _ => ⟨fun a h => (hu a h).1, fun a h => (hu a h).2⟩
/-- What is bound. -/
def B (m : List (List UInt8 × Bool)) (s : List UInt8) : Prop := (assoc m s).getD false = true
theorem B_ups {m : List (List UInt8 × Bool)} {k s : List UInt8} (h : B (upsert m k true) s) : B m s ∨ s = k := by
  unfold B at h ⊢
  rw [as_ups] at h
  by_cases e : k = s
  · exact .inr e.symm
  · rw [if_neg e] at h; exact .inl h
theorem B_del {m : List (List UInt8 × Bool)} {k s : List UInt8} (h : B (del m k) s) : B m s ∧ s ≠ k := by
  unfold B at h ⊢
  rw [as_del] at h
  by_cases e : k = s
  · rw [if_pos e] at h; cases h
  · rw [if_neg e] at h; exact ⟨h, fun h' => e h'.symm⟩
theorem g_bind (g : Nat) (ns own : List (List UInt8)) (m : List (List UInt8 × Bool)) (h : own.length + ns.length ≤ 10000) : Gives (m_core_Table_isLost_f1_2 g ns own m) fun q => q.1 = own ++ ns ∧ ∀ s, B q.2 s → B m s ∨ s ∈ ns := by
  unfold m_core_Table_isLost_f1_2
  refine Gives.bind (fun q => ∀ s, B q s → B m s ∨ s ∈ ns) (G_each ns (fun s : List (List UInt8 × Bool) × Nat => s.2) (fun st : List (List UInt8 × Bool) × Nat => ∀ s, B st.1 s → B m s ∨ s ∈ ns) (fun s h => .inl h) (Nat.zero_le _) (fun s x hs hc hx hm => Gives.bindE rfl (Gives.some ⟨fun y hy => ?_, rfl⟩)) fun s hs hc => Gives.some hs) fun z hz => Gives.bindE (push_small 10000 h (by decide)) (Gives.some ⟨rfl, hz⟩)
  rcases B_ups hy with h1 | rfl
  · exact hs y h1
  · exact .inr hm
theorem g_bind1 (g : Nat) (ns own : List (List UInt8)) (m : List (List UInt8 × Bool)) (h : own.length + ns.length ≤ 10000) : Gives (m_core_Table_isLost_f1 g ns own m) fun q => q.1 = own ++ ns ∧ ∀ s, B q.2 s → B m s ∨ s ∈ ns := g_bind g ns own m h
theorem g_with (g : Nat) (ns : List (List UInt8)) : Gives (m_core_with g ns) fun q => ∀ s, B q s → s ∈ ns := by
  unfold m_core_with
  refine Gives.bindE (Loop_inr rfl) (Gives.bind (fun q => ∀ s, B q s → s ∈ ns) (G_each ns (fun s : List (List UInt8 × Bool) × Nat => s.2) (fun st : List (List UInt8 × Bool) × Nat => ∀ s, B st.1 s → s ∈ ns) (fun s h => by cases h) (Nat.zero_le _) (fun s x hs hc hx hm => Gives.bindE rfl (Gives.some ⟨fun y hy => ?_, rfl⟩)) fun s hs hc => Gives.some hs) fun z hz => Gives.some hz)
  rcases B_ups hy with h1 | rfl
  · exact hs y h1
  · exact hm
def kidS (S : List UInt8 → Prop) (e : DExpr) (i : Nat) : List UInt8 → Prop := fun s => S s ∨ e.Op = 7 ∧ s ∈ e.Names ∨ e.Op = 6 ∧ 1 ≤ i ∧ s = e.Name
/-- Names are bound where they stand. -/
inductive CL : (List UInt8 → Prop) → DExpr → Prop
  | mk {S : List UInt8 → Prop} {e : DExpr} : (e.Op = 1 → S e.Name) → (∀ i k, e.Kids[i]? = some k → CL (kidS S e i) k) → (∀ a ∈ e.Alts, CL (fun s => S s ∨ s ∈ a.P.Kids.map (·.Name)) a.E) → CL S e
theorem g_dels (own : List (List UInt8)) (m : List (List UInt8 × Bool)) {Q : Type} (out : List (List UInt8 × Bool) → Q) {P : Q → Prop} (h : ∀ m', (∀ s, B m' s → B m s ∧ s ∉ own) → P (out m')) :
    Gives (Mir.Loop (S := List (List UInt8 × Bool) × Nat) (Q := Q) (m, 0) fun s => if ((s.2 : Nat) : Int) < ((own.length : Nat) : Int) then (own[s.2]?).bind fun x => some (.inl (Mir.del s.1 x, s.2 + 1)) else some (.inr (out s.1))) P :=
  G_each own (fun s : List (List UInt8 × Bool) × Nat => s.2) (fun st : List (List UInt8 × Bool) × Nat => ∀ s, B st.1 s → B m s ∧ s ∉ own.take st.2) (fun s h => ⟨h, by simp⟩) (Nat.zero_le _) (fun s x hs hc hx hm => Gives.some ⟨fun y hy => by
    obtain ⟨h1, h2⟩ := B_del hy
    refine ⟨(hs y h1).1, fun h3 => ?_⟩
    rcases takeMem hx h3 with h4 | h4
    · exact (hs y h1).2 h4
    · exact h2 h4, rfl⟩) fun s hs hc => Gives.some (h _ fun y hy => by
      have := hs y hy
      rw [takeAll (show s.2 = own.length from hc)] at this
      exact this)
theorem g_isLost (hT : TOK a3 a4) : ∀ (g : Nat) (e : DExpr) (m : List (List UInt8 × Bool)), SizeOf.sizeOf e ≤ g → WF e → cntE e ≤ 300 →
    Gives (m_core_Table_isLost g e a1 a2 a3 m a4 a5 a6 a7) fun q => q.1 = false → (∀ S : List UInt8 → Prop, (∀ s, B m s → S s) → CL S e) ∧ ∀ s, B q.2 s → B m s := by
  intro g
  induction g with
  | zero => intro e l h; have := size_pos e; omega
  | succ g ih =>
    intro e m hg hw hl
    obtain ⟨hn, hk, hp, ha⟩ := hw
    have h12 := hn.names
    have hal := alts_len e
    have hno : ∀ i, i < e.Alts.length → e.Op = 9 ∨ e.Op = 10 := fun i hi => by
      rcases Classical.em (e.Op = 9 ∨ e.Op = 10) with h | h
      · exact h
      · have := hn.alts (fun h' => h (.inl h')) (fun h' => h (.inr h')); omega
    rw [m_core_Table_isLost]
    refine Gives.bind (fun z => z = true → e.Op = 1 → B m e.Name) (Gives.ite (fun _ => Gives.bindE rfl (Gives.some fun h _ => h)) fun h1 => Gives.ite (fun _ => Gives.bind _ (t_FunArity a1 a2 a3 a4 a5 a6 a7 hT g _) fun q _ => Gives.some fun _ h => absurd h h1) fun _ => Gives.ite (fun _ => Gives.bindE rfl (Gives.some fun _ h => absurd h h1)) fun _ => Gives.some fun _ h => absurd h h1) fun z hz => Gives.ite (fun hz' => ?_) fun _ => Gives.some fun h => by cases h
    have hv := hz hz'
    refine Gives.bind (fun z : List (List UInt8 × Bool) × List (List UInt8) => z.2.length ≤ 12 ∧ (∀ s, B z.1 s → B m s ∨ s ∈ z.2) ∧ ∀ s ∈ z.2, e.Op = 7 ∧ s ∈ e.Names) (Gives.ite (fun h7 => Gives.bind _ (g_bind1 g e.Names [] m (by simp only [List.length_nil]; omega)) fun q hq => Gives.some ⟨by simp only [hq.1, List.nil_append]; omega, fun s h => by simp only [hq.1, List.nil_append]; exact hq.2 s h, fun s h => ⟨h7, by simpa [hq.1] using h⟩⟩) fun _ => Gives.some ⟨by simp, fun s h => .inl h, fun s h => by cases h⟩) fun z1 hz1 => ?_
    refine Gives.bind (fun z : List (List UInt8 × Bool) × List (List UInt8) × Bool => z.2.1.length ≤ 13 ∧ ((e.Op = 9 ∨ e.Op = 10) → z.2.1 = []) ∧ (z.2.2 = false → (∀ s, B z.1 s → B m s ∨ s ∈ z.2.1) ∧ ∀ i k, e.Kids[i]? = some k → ∀ S : List UInt8 → Prop, (∀ s, B m s → S s) → CL (kidS S e i) k))
      (G_cnt e.Kids.length (fun s : List (List UInt8 × Bool) × List (List UInt8) × Bool × Nat => s.2.2.2) (fun s : List (List UInt8 × Bool) × List (List UInt8) × Bool × Nat => s.2.1.length ≤ (if 2 ≤ s.2.2.2 then 13 else 12) ∧ (∀ x ∈ s.2.1, e.Op = 7 ∧ x ∈ e.Names ∨ e.Op = 6 ∧ 2 ≤ s.2.2.2 ∧ x = e.Name) ∧ (s.2.2.1 = false → (∀ x, B s.1 x → B m x ∨ x ∈ s.2.1) ∧ ∀ i k, i < s.2.2.2 → e.Kids[i]? = some k → ∀ S : List UInt8 → Prop, (∀ s, B m s → S s) → CL (kidS S e i) k))
        ⟨hz1.1, fun x hx => .inl (hz1.2.2 x hx), fun _ => ⟨hz1.2.1, fun i k hi => by cases hi⟩⟩ (Nat.zero_le _) (fun s hs hc => Gives.pos (by omega) ?_) fun s hs hc => Gives.neg (by omega) (Gives.some ?_)) fun z2 hz2 => ?_
    · obtain ⟨s1, s2, s3⟩ := hs
      refine Gives.bind (fun z : List (List UInt8 × Bool) × List (List UInt8) × Bool => z.2.1.length ≤ (if 2 ≤ s.2.2.2 + 1 then 13 else 12) ∧ (∀ x ∈ z.2.1, e.Op = 7 ∧ x ∈ e.Names ∨ e.Op = 6 ∧ 2 ≤ s.2.2.2 + 1 ∧ x = e.Name) ∧ (z.2.2 = false → (∀ x, B z.1 x → B m x ∨ x ∈ z.2.1) ∧ ∀ i k, i < s.2.2.2 + 1 → e.Kids[i]? = some k → ∀ S : List UInt8 → Prop, (∀ s, B m s → S s) → CL (kidS S e i) k)) ?_ fun z hz => Gives.some ⟨hz, rfl⟩
      refine G_get hc fun x hx hm => ?_
      refine Gives.bind (fun z : List (List UInt8 × Bool) × List (List UInt8) => z.2.length ≤ (if 2 ≤ s.2.2.2 + 1 then 13 else 12) ∧ (∀ x ∈ z.2, e.Op = 7 ∧ x ∈ e.Names ∨ e.Op = 6 ∧ 2 ≤ s.2.2.2 + 1 ∧ x = e.Name) ∧ (s.2.2.1 = false → ∀ x, B z.1 x → B m x ∨ x ∈ z.2)) (Gives.bind (fun z => z = true → e.Op = 6 ∧ s.2.2.2 = 1) (Gives.ite (fun h6 => Gives.some fun h => ⟨h6, by have := of_decide_eq_true h; omega⟩) fun _ => Gives.some fun h => by cases h) fun z hz => Gives.ite (fun h => ?_) fun _ => Gives.some ⟨?_, fun x hx => (s2 x hx).imp id fun h => ⟨h.1, by omega, h.2.2⟩, fun h => (s3 h).1⟩) fun z4 hz4 => ?_
      · obtain ⟨h6, h1⟩ := hz h
        rw [if_neg (by omega)] at s1
        refine Gives.bind _ (g_bind g [e.Name] s.2.1 s.1 (by simp only [List.length_cons, List.length_nil]; omega)) fun q hq => Gives.some ⟨?_, fun x hx => ?_, fun hf x hx => ?_⟩
        · rw [if_pos (by omega)]; simp only [hq.1, List.length_append, List.length_cons, List.length_nil]; omega
        · simp only [hq.1, List.mem_append, List.mem_singleton] at hx
          rcases hx with hx | hx
          · rcases s2 x hx with h | h
            · exact .inl h
            · exact .inr ⟨h6, by omega, h.2.2⟩
          · exact .inr ⟨h6, by omega, hx⟩
        · simp only [hq.1, List.mem_append]
          rcases hq.2 x hx with h2 | h2
          · exact ((s3 hf).1 x h2).imp id .inl
          · exact .inr (.inr h2)
      · show s.2.1.length ≤ if 2 ≤ s.2.2.2 + 1 then 13 else 12
        by_cases h2 : 2 ≤ s.2.2.2
        · rw [if_pos h2] at s1; rw [if_pos (by omega)]; exact s1
        · rw [if_neg h2] at s1; split <;> omega
      · obtain ⟨q1, q2, q3⟩ := hz4
        refine Gives.ite (fun h => Gives.some ⟨q1, q2, fun h => by cases h⟩) fun h => ?_
        have hf : s.2.2.1 = false := by simpa using h
        refine Gives.bind _ (ih x z4.1 (by have := size_kid hm; omega) (hk x hm) (by have := cnt_kid hm; omega)) fun q hq => Gives.some ⟨q1, q2, fun hq1 => ?_⟩
        obtain ⟨c1, c2⟩ := hq hq1
        refine ⟨fun y hy => q3 hf y (c2 y hy), fun i k hi hik S hS => ?_⟩
        rcases Nat.lt_or_ge i s.2.2.2 with h5 | h5
        · exact (s3 hf).2 i k h5 hik S hS
        · obtain rfl : i = s.2.2.2 := by omega
          rw [hx] at hik; cases hik
          refine c1 _ fun y hy => ?_
          rcases q3 hf y hy with h6 | h6
          · exact .inl (hS y h6)
          · rcases q2 y h6 with h7 | h7
            · exact .inr (.inl h7)
            · exact .inr (.inr ⟨h7.1, by omega, h7.2.2⟩)
    · obtain ⟨s1, s2, s3⟩ := hs
      have hc2 : s.2.2.2 = e.Kids.length := hc
      refine ⟨?_, fun ho => ?_, fun hf => ⟨(s3 hf).1, fun i k hik => (s3 hf).2 i k (by rw [hc2]; exact (List.getElem?_eq_some_iff.1 hik).1) hik⟩⟩
      · show s.2.1.length ≤ 13
        split at s1 <;> omega
      · show s.2.1 = []
        cases hq : s.2.1 with
        | nil => rfl
        | cons y r =>
          rw [hq] at s2
          rcases s2 y List.mem_cons_self with h | h <;> omega
    obtain ⟨p1, p2, p3⟩ := hz2
    refine Gives.bind (fun z : List (List UInt8 × Bool) × List (List UInt8) × Bool => (∀ x ∈ z2.2.1, x ∈ z.2.1) ∧ (z.2.2 = false → (∀ s, B z.1 s → B m s ∨ s ∈ z2.2.1) ∧ (∀ i k, e.Kids[i]? = some k → ∀ S : List UInt8 → Prop, (∀ s, B m s → S s) → CL (kidS S e i) k) ∧ ∀ a ∈ e.Alts, ∀ S : List UInt8 → Prop, (∀ s, B m s → S s) → CL (fun s => S s ∨ s ∈ a.P.Kids.map (·.Name)) a.E))
      (G_cnt e.Alts.length (fun s : List (List UInt8 × Bool) × List (List UInt8) × Bool × Nat => s.2.2.2) (fun s : List (List UInt8 × Bool) × List (List UInt8) × Bool × Nat => s.2.1.length ≤ 13 + 8 * s.2.2.2 ∧ (∀ x ∈ z2.2.1, x ∈ s.2.1) ∧ (s.2.2.1 = false → (∀ x, B s.1 x → B m x ∨ x ∈ z2.2.1) ∧ (∀ i k, e.Kids[i]? = some k → ∀ S : List UInt8 → Prop, (∀ s, B m s → S s) → CL (kidS S e i) k) ∧ ∀ a ∈ e.Alts.take s.2.2.2, ∀ S : List UInt8 → Prop, (∀ s, B m s → S s) → CL (fun s => S s ∨ s ∈ a.P.Kids.map (·.Name)) a.E))
        ⟨by simp only; omega, fun x h => h, fun hf => ⟨(p3 hf).1, (p3 hf).2, fun a h => by simp at h⟩⟩ (Nat.zero_le _) (fun s hs hc => Gives.pos (by omega) ?_) fun s hs hc => Gives.neg (by omega) (Gives.some ?_)) fun z3 hz3 => ?_
    · obtain ⟨s1, s2, s3⟩ := hs
      have hlt : s.2.2.2 < e.Alts.length := hc
      have hown := p2 (hno _ hlt)
      refine Gives.bind (fun z : List (List UInt8 × Bool) × List (List UInt8) × Bool => z.2.1.length ≤ 13 + 8 * (s.2.2.2 + 1) ∧ (∀ x ∈ z2.2.1, x ∈ z.2.1) ∧ (z.2.2 = false → (∀ x, B z.1 x → B m x ∨ x ∈ z2.2.1) ∧ (∀ i k, e.Kids[i]? = some k → ∀ S : List UInt8 → Prop, (∀ s, B m s → S s) → CL (kidS S e i) k) ∧ ∀ a ∈ e.Alts.take (s.2.2.2 + 1), ∀ S : List UInt8 → Prop, (∀ s, B m s → S s) → CL (fun s => S s ∨ s ∈ a.P.Kids.map (·.Name)) a.E)) ?_ fun z hz => Gives.some ⟨hz, rfl⟩
      refine G_get hc fun x hx hm => ?_
      have h8 : x.P.Kids.length ≤ 8 := by rcases hp x hm with h | h <;> omega
      refine Gives.bind (fun z => z = false → s.2.2.1 = false) (Gives.bindE rfl (Gives.bind (fun _ => True) (Gives.ite (fun _ => Gives.some trivial) fun _ => Gives.some trivial) fun z _ => Gives.ite (fun _ => Gives.some fun h => by cases h) fun _ => Gives.some fun h => h)) fun z4 hz4 => ?_
      refine Gives.bind _ (g_pn g x.P [] (hp x hm) (by have := (size_alt hm).2; omega) (by simp)) fun ns hns => ?_
      rw [List.nil_append] at hns
      have hnl : ns.length = x.P.Kids.length := by rw [hns, List.length_map]
      refine Gives.bind _ (g_bind g ns s.2.1 s.1 (by omega)) fun q hq => ?_
      obtain ⟨q1, q2⟩ := hq
      refine Gives.bind (fun z : List (List UInt8 × Bool) × Bool => z.2 = false → z4 = false ∧ (∀ S : List UInt8 → Prop, (∀ s, B q.2 s → S s) → CL S x.E) ∧ ∀ s, B z.1 s → B q.2 s) (Gives.ite (fun _ => Gives.some fun h => by cases h) fun h => Gives.bind _ (ih x.E q.2 (by have := (size_alt hm).1; omega) (ha x hm) (by have := cnt_alt hm; omega)) fun r hr => Gives.some fun hf => ⟨by simpa using h, hr hf⟩) fun z5 hz5 => ?_
      refine Gives.bindE (sub_ok ⟨by omega, by rw [q1, List.length_append]; omega, Int.le_refl _⟩) ?_
      have hsub : (q.1.take (((q.1.length : Nat) : Int)).toNat).drop (((s.2.1.length : Nat) : Int)).toNat = ns := by
        rw [show (((q.1.length : Nat) : Int)).toNat = q.1.length by omega, show (((s.2.1.length : Nat) : Int)).toNat = s.2.1.length by omega, List.take_length, q1, List.drop_left]
      rw [hsub]
      refine g_dels ns z5.1 (fun m' => (m', q.1, z5.2)) fun m' hm' => ⟨?_, fun y hy => ?_, fun hf => ?_⟩
      · show q.1.length ≤ 13 + 8 * (s.2.2.2 + 1)
        rw [q1, List.length_append]; omega
      · show y ∈ q.1
        rw [q1]; exact List.mem_append_left _ (s2 y hy)
      · obtain ⟨e1, e2, e3⟩ := hz5 hf
        obtain ⟨f1, f2, f3⟩ := s3 (hz4 e1)
        refine ⟨fun y hy => ?_, f2, takeStep hx f3 fun S hS => e2 _ fun y hy => ?_⟩
        · obtain ⟨g1, g2⟩ := hm' y hy
          rcases q2 y (e3 y g1) with h | h
          · exact f1 y h
          · exact absurd h g2
        · rcases q2 y hy with h | h
          · rcases f1 y h with h' | h'
            · exact .inl (hS y h')
            · rw [hown] at h'; cases h'
          · rw [hns] at h; exact .inr h
    · obtain ⟨s1, s2, s3⟩ := hs
      exact ⟨s2, fun hf => ⟨(s3 hf).1, (s3 hf).2.1, takeAllP hc (s3 hf).2.2⟩⟩
    obtain ⟨r1, r2⟩ := hz3
    refine Gives.bind (fun m' => ∀ s, B m' s → B z3.1 s ∧ s ∉ z3.2.1) (g_dels z3.2.1 z3.1 id fun m' h => h) fun m' hm' => Gives.some fun hf => ?_
    obtain ⟨t1, t2, t3⟩ := r2 hf
    refine ⟨fun S hS => ⟨fun h1 => hS _ (hv h1), fun i k hik => t2 i k hik S hS, fun a ham => t3 a ham S hS⟩, fun y hy => ?_⟩
    obtain ⟨u1, u2⟩ := hm' y hy
    rcases t1 y u1 with h | h
    · exact h
    · exact absurd (r1 y h) u2
end
theorem size_fun {c : DCore} {f : DFun} (h : f ∈ c.Funs) : SizeOf.sizeOf f.E < SizeOf.sizeOf c := by
  have h1 := List.sizeOf_lt_of_mem h
  have h2 : SizeOf.sizeOf f.E < SizeOf.sizeOf f := by cases f; simp only [DFun.mk.sizeOf_spec]; omega
  have h3 : SizeOf.sizeOf c.Funs < SizeOf.sizeOf c := by cases c; simp only [DCore.mk.sizeOf_spec]; omega
  omega
theorem size_datas (c : DCore) : SizeOf.sizeOf c.Datas < SizeOf.sizeOf c := by cases c; simp only [DCore.mk.sizeOf_spec]; omega
abbrev Tbl : Type := List DData × List DData × List DFun × (List ((List UInt8) × Int)) × (List ((List UInt8) × Int)) × (List ((List UInt8) × Int)) × (List ((List UInt8) × Int))
theorem g_NewTable (g : Nat) (c : DCore) (h : c.Datas.length ≤ 30) : Gives (m_core_NewTable g c) fun q => q.2.2.1 = c.Funs ∧ TOK c.Funs q.2.2.2.1 := by
  unfold m_core_NewTable
  refine Gives.bindE (base_eq g) (Gives.bindE (push_small 40 (by have := base_len; omega) (by decide)) (Gives.bindE (a := (m_core_builtins g).getD []) rfl ?_))
  refine Gives.bind (fun q => TOK c.Funs q) (G_cnt c.Funs.length (fun s : List (List UInt8 × Int) × Nat => s.2) (fun s : List (List UInt8 × Int) × Nat => TOK c.Funs s.1) (fun k v h => by cases h) (Nat.zero_le _) (fun s hs hc => Gives.pos (by omega) (Gives.bind (fun z => TOK c.Funs z) (G_get hc fun x hx hm => Gives.bindE rfl (Gives.ite (fun _ => Gives.some hs) fun _ => Gives.bindE rfl (Gives.some fun k v hv => ?_))) fun z hz => Gives.some ⟨hz, rfl⟩)) fun s hs hc => Gives.neg (by omega) (Gives.some hs)) fun z hz => ?_
  · rw [as_ups] at hv
    split at hv
    · cases hv; have : s.2 < c.Funs.length := hc; omega
    · exact hs k v hv
  · refine Gives.bind (fun _ => True) ?_ fun _ _ => Gives.some ⟨rfl, hz⟩
    generalize base ++ c.Datas = q
    refine G_cnt q.length (fun s : List (List UInt8 × Int) × List (List UInt8 × Int) × Nat => s.2.2) (fun _ => True) trivial (Nat.zero_le _) (fun s hs hc => Gives.pos (by omega) (Gives.bind (fun _ => True) (G_get hc fun x hx hm => ?_) fun z hz => Gives.some ⟨trivial, rfl⟩)) fun s hs hc => Gives.neg (by omega) (Gives.some trivial)
    exact G_each x.Cons (fun s : List (List UInt8 × Int) × List (List UInt8 × Int) × Nat => s.2.2) (fun _ => True) trivial (Nat.zero_le _) (fun s' y _ _ _ _ => Gives.bindE rfl (Gives.bindE rfl (Gives.some ⟨trivial, rfl⟩))) fun s _ _ => Gives.some trivial
/-- What a valid core program is. -/
structure VC (c : DCore) (q : Tbl) : Prop where
  datas : c.Datas.length ≤ 30
  funs : q.2.2.1 = c.Funs
  tok : TOK c.Funs q.2.2.2.1
  vars : ∀ f ∈ c.Funs, f.Vars.length ≤ 8
  cnt : ∀ f ∈ c.Funs, cntE f.E ≤ 300
  sb : ∀ f ∈ c.Funs, SB f.E
  cl : ∀ f ∈ c.Funs, CL (fun s => s ∈ f.Vars) f.E
  uf : ∀ f ∈ c.Funs, UF q.2.2.2.2.1 f.E
def GCore (c : DCore) : Prop := ∀ f ∈ c.Funs, GExpr f.E
theorem g_cValid (g : Nat) (c : DCore) (hg : SizeOf.sizeOf c + 2 ≤ g) (hG : GCore c) : Gives (m_core_Validate g c) fun e => e = 0 → ∃ q, m_core_NewTable g c = some q ∧ VC c q := by
  unfold m_core_Validate
  refine Gives.ite (fun _ => Gives.some fun h => by cases h) fun _ => ?_
  refine G_look c.Funs (fun f => cntE f.E ≤ 300) (fun i f hf hm hi => Gives.bind _ (g_IsLarge g f.E (by have := size_fun hm; omega) (hG f hm)) fun q hq => Gives.ite (fun _ => Gives.some fun h => by cases h) fun h => Gives.some ⟨rfl, hq (by simpa using h)⟩) (Gives.some trivial) fun hcnt _ => ?_
  refine Gives.bind _ (g_dValid g c.Datas (by have := size_datas c; omega)) fun q hq => Gives.ite (fun h0 => ?_) fun h => Gives.some fun h' => absurd h' h
  obtain ⟨hD, _⟩ := hq h0
  refine G_list c.Funs (fun f => f.Vars.length ≤ 8 ∧ SB f.E) (fun i f hf hm hi => Gives.pos (by omega) ?_) (Gives.neg (by omega) (Gives.some trivial)) fun hsb _ => ?_
  · refine Gives.jx (fun _ => f.Vars.length ≤ 8 ∧ SB f.E) (Gives.bindE hf (Gives.bind (fun z => z = false → f.Vars.length ≤ 8 ∧ SB f.E) (Gives.bind _ (g_isNm g f.Name) fun q _ => Gives.ite (fun _ => Gives.ite (fun _ => Gives.some fun h => by cases h) fun h8 => ?_) fun _ => Gives.some fun h => by cases h) fun z hz => Gives.ite (fun _ => Gives.some fun h => by cases h) fun hz' => ?_)) fun _ h => Gives.some ⟨rfl, h⟩
    · obtain ⟨g, rfl⟩ : ∃ k, g = k + 1 := ⟨g - 1, by omega⟩
      exact Gives.bind _ (g_isBody g f.E (by have := size_fun hm; omega)) fun q hq => Gives.some fun h => ⟨by omega, hq (by simpa using h)⟩
    · have hh := hz (by simpa using hz')
      exact G_each f.Vars id (fun _ => True) trivial (Nat.zero_le _) (fun s x _ _ _ _ => Gives.bind _ (g_isNm g x) fun q _ => Gives.ite (fun _ => Gives.some ⟨trivial, rfl⟩) fun _ => Gives.some fun h => by cases h) fun s _ _ => Gives.some hh
  obtain ⟨q, hq0, hq1, hq2⟩ := g_NewTable g c hD.len
  refine Gives.bindE hq0 ?_
  have hT : TOK q.2.2.1 q.2.2.2.1 := by rw [hq1]; exact hq2
  refine Gives.jx (fun _ => True) (G_cnt c.Funs.length (fun s : List (List UInt8 × Bool) × Nat => s.2) (fun _ => True) trivial (Nat.zero_le _) (fun s hs hc => Gives.pos (by omega) (G_get hc fun f hf hm => Gives.bind (fun _ => True) (Gives.bindE rfl (Gives.ite (fun _ => Gives.some trivial) fun _ => ?_)) fun z _ => Gives.ite (fun _ => Gives.some fun h => by cases h) fun _ => Gives.bindE rfl (Gives.some ⟨trivial, rfl⟩))) fun s hs hc => Gives.neg (by omega) (Gives.some trivial)) fun _ _ => ?_
  · unfold m_core_Table_IsOwn
    refine Gives.bind (fun _ => True) (Gives.bindE rfl (Gives.some trivial)) fun _ _ => Gives.ite (fun _ => Gives.some trivial) fun _ => Gives.bind _ (t_twiceCase g f.E (by have := size_fun hm; omega)) fun _ _ => Gives.ite (fun _ => Gives.some trivial) fun _ => ?_
    have h8 := (hsb f hm).1
    have h300 := hcnt f hm
    refine Gives.bindE (push_small 100 (by simp only [List.length_nil]; omega) (by decide)) (Gives.bind _ (g_binders g f.E _ (by have := size_fun hm; omega) (hsb f hm).2.wf (by simp only [List.nil_append]; omega)) fun l _ => Gives.bind _ (t_isTwice q.1 q.2.1 q.2.2.1 q.2.2.2.1 q.2.2.2.2.1 q.2.2.2.2.2.1 q.2.2.2.2.2.2 hT g l) fun _ _ => Gives.some trivial)
  refine G_look c.Funs (fun f => CL (fun s => s ∈ f.Vars) f.E) (fun i f hf hm hi => Gives.bind _ (g_with g f.Vars) fun m hm' => Gives.bind _ (g_isLost q.1 q.2.1 q.2.2.1 q.2.2.2.1 q.2.2.2.2.1 q.2.2.2.2.2.1 q.2.2.2.2.2.2 hT g f.E m (by have := size_fun hm; omega) (hsb f hm).2.wf (hcnt f hm)) fun r hr => Gives.ite (fun _ => Gives.some fun h => by cases h) fun h => Gives.some ⟨rfl, (hr (by simpa using h)).1 _ hm'⟩) (Gives.some trivial) fun hcl _ => ?_
  exact G_look c.Funs (fun f => UF q.2.2.2.2.1 f.E) (fun i f hf hm hi => Gives.bind _ (g_isUnfit q.1 q.2.1 q.2.2.1 q.2.2.2.1 q.2.2.2.2.1 q.2.2.2.2.2.1 q.2.2.2.2.2.2 hT g f.E (by have := size_fun hm; omega)) fun r hr => Gives.ite (fun _ => Gives.some fun h => by cases h) fun h => Gives.some ⟨rfl, hr (by simpa using h)⟩) (Gives.some trivial) fun huf _ => Gives.some fun _ => ⟨q, hq0, hD.len, hq1, hq2, fun f h => (hsb f h).1, hcnt, fun f h => (hsb f h).2, hcl, huf⟩
end Go.Proofs.YtjkcinpmbgcgpaaGreatDoor
