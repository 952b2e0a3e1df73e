/- The clean form: graphs that are like each other have the same. -/
import Derived.Test.YtjkcinpmbgcgpaaGreatDoorGrE
namespace Go.Proofs.YtjkcinpmbgcgpaaGreatDoor
open Go Go.Mir
set_option linter.unusedVariables false
/-! ### reading and writing a row by a number -/
theorem idx_some {α : Type} {xs : List α} {i : Int} {x : α} : idx xs i = some x ↔ 0 ≤ i ∧ xs[i.toNat]? = some x := by
  unfold idx
  by_cases h : 0 ≤ i
  · rw [if_pos h]; exact ⟨fun e => ⟨h, e⟩, fun e => e.2⟩
  · rw [if_neg h]; exact ⟨(fun e => nomatch e), fun e => absurd e.1 h⟩
theorem idx_lt {α : Type} {xs : List α} {i : Int} {x : α} (h : idx xs i = some x) : 0 ≤ i ∧ i < xs.length := by
  obtain ⟨h1, h2⟩ := idx_some.1 h
  have := (List.getElem?_eq_some_iff.1 h2).1
  exact ⟨h1, by omega⟩
theorem idx_mem {α : Type} {xs : List α} {i : Int} {x : α} (h : idx xs i = some x) : x ∈ xs := List.mem_of_getElem? (idx_some.1 h).2
theorem upd_in {α : Type} {xs : List α} {i : Int} {y : α} (h : 0 ≤ i ∧ i < xs.length) : upd xs i y = some (xs.set i.toNat y) := by
  unfold upd; rw [if_pos h]
theorem idx_set {α : Type} {xs : List α} {i j : Int} {y : α} (h : 0 ≤ i ∧ i < xs.length) (hj : 0 ≤ j) : idx (xs.set i.toNat y) j = if i = j then some y else idx xs j := by
  unfold idx
  rw [if_pos hj, if_pos hj, List.getElem?_set]
  by_cases e : i = j
  · subst e; rw [if_pos rfl, if_pos rfl, if_pos (by omega)]
  · rw [if_neg e, if_neg (by omega)]
/-! ### graphs that are like each other -/
/-- Rows that are alike, number by number. -/
structure KR (R : Int → Int → Prop) (l m : List Int) : Prop where
  len : l.length = m.length
  at_ : ∀ (k : Nat) a b, l[k]? = some a → m[k]? = some b → R a b
theorem KR.nil {R : Int → Int → Prop} : KR R [] [] := ⟨rfl, fun k a b h => by simp at h⟩
theorem KR.snoc {R : Int → Int → Prop} {l m : List Int} {a b : Int} (h : KR R l m) (hr : R a b) : KR R (l ++ [a]) (m ++ [b]) := by
  refine ⟨by simp [h.len], fun k x y hx hy => ?_⟩
  have hl := h.len
  rcases Nat.lt_trichotomy k l.length with h1 | h1 | h1
  · rw [List.getElem?_append_left h1] at hx
    rw [List.getElem?_append_left (by omega)] at hy
    exact h.at_ k x y hx hy
  · subst h1
    rw [List.getElem?_append_right (Nat.le_refl _), Nat.sub_self] at hx
    rw [List.getElem?_append_right (by omega), hl, Nat.sub_self] at hy
    simp at hx hy; subst hx; subst hy; exact hr
  · rw [List.getElem?_eq_none (by simp; omega)] at hx; cases hx
theorem KR.mono {R R' : Int → Int → Prop} {l m : List Int} (h : KR R l m) (hR : ∀ a b, R a b → R' a b) : KR R' l m := ⟨h.len, fun k a b h1 h2 => hR a b (h.at_ k a b h1 h2)⟩
theorem KR.get {R : Int → Int → Prop} {l m : List Int} (h : KR R l m) {k : Nat} {a : Int} (ha : l[k]? = some a) : ∃ b, m[k]? = some b ∧ R a b := by
  have hk := (List.getElem?_eq_some_iff.1 ha).1
  have hk' : k < m.length := by rw [← h.len]; exact hk
  exact ⟨m[k], List.getElem?_eq_getElem hk', h.at_ k a _ ha (List.getElem?_eq_getElem hk')⟩
structure NR (R : Int → Int → Prop) (x y : DNode) : Prop where
  op : y.Op = x.Op
  name : y.Name = x.Name
  n : y.N = x.N
  kids : KR R x.Kids y.Kids
structure Rel (ns ms : List DNode) (R : Int → Int → Prop) : Prop where
  dom : ∀ i j, R i j → ∃ x y, idx ns i = some x ∧ idx ms j = some y ∧ NR R x y
  inj1 : ∀ i j j', R i j → R i j' → j = j'
  inj2 : ∀ i i' j, R i j → R i' j → i = i'
/-- How many places are not yet visited. -/
def U (l : List Int) : Nat := sumN (fun v => if v < 0 then 1 else 0) l
theorem U_set : ∀ (l : List Int) (k : Nat) (v w : Int), l[k]? = some v → v < 0 → 0 ≤ w → U (l.set k w) + 1 = U l
  | [], k, v, w, h, _, _ => by simp at h
  | a :: l, 0, v, w, h, hv, hw => by
    simp at h; subst h
    unfold U
    rw [List.set_cons_zero, sumN_cons, sumN_cons, if_pos hv, if_neg (by omega)]; omega
  | a :: l, k + 1, v, w, h, hv, hw => by
    have := U_set l k v w (by simpa using h) hv hw
    unfold U at this ⊢
    rw [List.set_cons_succ, sumN_cons, sumN_cons]; omega
theorem U_pos : ∀ (l : List Int) (k : Nat) (v : Int), l[k]? = some v → v < 0 → 1 ≤ U l := fun l k v h hv => by have := U_set l k v 0 h hv (by omega); omega
/-- One run's state. -/
structure TI (ns : List DNode) (to old : List Int) : Prop where
  len : to.length = ns.length
  cnt : U to + old.length = ns.length
  inv1 : ∀ i v, idx to i = some v → 0 ≤ v → old[v.toNat]? = some i
  inv2 : ∀ (p : Nat) i, old[p]? = some i → idx to i = some (p : Int)
/-- Two runs' states are alike. -/
structure TS (R : Int → Int → Prop) (to old to' old' : List Int) : Prop where
  tr : ∀ i j, R i j → idx to i = idx to' j
  or : KR R old old'
/-- What a run does. -/
structure GW (ns : List DNode) (to old to1 old1 : List Int) : Prop where
  pre : ∀ (p : Nat) i, old[p]? = some i → old1[p]? = some i
  keep : ∀ i v, idx to i = some v → 0 ≤ v → idx to1 i = some v
  clo : ∀ (p : Nat) i x, old1[p]? = some i → old.length ≤ p → idx ns i = some x → ∀ k ∈ x.Kids, ∃ v, idx to1 k = some v ∧ 0 ≤ v
  u : U to1 ≤ U to
theorem GW.refl (ns : List DNode) (to old : List Int) : GW ns to old to old := ⟨fun _ _ h => h, fun _ _ h _ => h, fun p i x h h' => absurd (List.getElem?_eq_some_iff.1 h).1 (by omega), Nat.le_refl _⟩
theorem GW.trans {ns : List DNode} {to old to1 old1 to2 old2 : List Int} (h : GW ns to old to1 old1) (h' : GW ns to1 old1 to2 old2) : GW ns to old to2 old2 :=
  ⟨fun p i e => h'.pre p i (h.pre p i e), fun i v e hv => h'.keep i v (h.keep i v e hv) hv, fun p i x e hp hx k hk => by
    rcases Nat.lt_or_ge p old1.length with h1 | h1
    · have e1 := List.getElem?_eq_getElem h1
      have e2 := h'.pre p _ e1
      rw [e] at e2
      have e3 : i = old1[p] := Option.some.inj e2
      obtain ⟨v, hv, h0⟩ := h.clo p i x (by rw [e1, e3]) hp hx k hk
      exact ⟨v, h'.keep k v hv h0, h0⟩
    · exact h'.clo p i x e h1 hx k hk, Nat.le_trans h'.u h.u⟩
/-- The walk: both runs end, in states that are alike. -/
theorem dfs {ns ms : List DNode} {R : Int → Int → Prop} (hR : Rel ns ms R) (hn : ns.length ≤ 100000) (rt rt' : Int) : ∀ (u g : Nat), u + 1 ≤ g → ∀ (i j : Int) (to old to' old' : List Int), R i j → TI ns to old → TS R to old to' old' → U to ≤ u →
    Gives2 (m_graph_Tidy_f1 g i to old rt ns) (m_graph_Tidy_f1 g j to' old' rt' ms) fun r r' => TI ns r.1 r.2 ∧ TS R r.1 r.2 r'.1 r'.2 ∧ GW ns to old r.1 r.2 ∧ (∃ v, idx r.1 i = some v ∧ 0 ≤ v) ∧ ∀ v, idx to i = some v → v < 0 → r.2[old.length]? = some i := by
  intro u
  induction u with
  | zero =>
    intro g hg i j to old to' old' hij hI hS hu
    obtain ⟨g, rfl⟩ : ∃ k, g = k + 1 := ⟨g - 1, by omega⟩
    obtain ⟨x, y, hx, hy, hxy⟩ := hR.dom i j hij
    obtain ⟨v, hv, _⟩ := idx_in (xs := to) (i := i) (by have := idx_lt hx; rw [hI.len]; exact this)
    have hv' : idx to' j = some v := by rw [← hS.tr i j hij]; exact hv
    rw [m_graph_Tidy_f1, m_graph_Tidy_f1]
    refine Gives2.bindE hv hv' (Gives2.ite Iff.rfl (fun h0 => Gives2.some ⟨hI, hS, GW.refl _ _ _, ⟨v, hv, h0⟩, fun w hw hw0 => by rw [hv] at hw; cases hw; omega⟩) fun h0 => ?_)
    have := U_pos to i.toNat v (idx_some.1 hv).2 (by omega)
    omega
  | succ u ih =>
    intro g hg i j to old to' old' hij hI hS hu
    obtain ⟨g, rfl⟩ : ∃ k, g = k + 1 := ⟨g - 1, by omega⟩
    obtain ⟨x, y, hx, hy, hxy⟩ := hR.dom i j hij
    have hir := idx_lt hx
    rw [← hI.len] at hir
    obtain ⟨v, hv, _⟩ := idx_in (xs := to) (i := i) hir
    have hv' : idx to' j = some v := by rw [← hS.tr i j hij]; exact hv
    have hjr := idx_lt hv'
    rw [m_graph_Tidy_f1, m_graph_Tidy_f1]
    refine Gives2.bindE hv hv' (Gives2.ite Iff.rfl (fun h0 => Gives2.some ⟨hI, hS, GW.refl _ _ _, ⟨v, hv, h0⟩, fun w hw hw0 => by rw [hv] at hw; cases hw; omega⟩) fun h0 => ?_)
    have hU := U_set to i.toNat v ((old.length : Nat) : Int) (idx_some.1 hv).2 (by omega) (by omega)
    have hol : old'.length = old.length := hS.or.len.symm
    have hcnt := hI.cnt
    refine Gives2.bindE hv hv' (Gives2.bindE (upd_in hir) (upd_in hjr) (Gives2.bindE (push_small 200000 (by simp only [List.length_cons, List.length_nil]; omega) (by decide)) (push_small 200000 (by simp only [List.length_cons, List.length_nil]; omega) (by decide)) (Gives2.bindE hx hy ?_)))
    rw [hol]
    -- the state behind the mark
    have hnew : ∀ k w, idx to k = some w → 0 ≤ w → k ≠ i := fun k w hk hw e => by subst e; rw [hv] at hk; cases hk; exact h0 hw
    have hI2 : TI ns (to.set i.toNat ((old.length : Nat) : Int)) (old ++ [i]) := by
      refine ⟨by rw [List.length_set]; exact hI.len, by simp only [List.length_append, List.length_cons, List.length_nil]; omega, fun k w hk hw => ?_, fun p k hk => ?_⟩
      · have hk0 := (idx_lt hk).1
        rw [idx_set hir hk0] at hk
        by_cases e : i = k
        · rw [if_pos e] at hk; cases hk
          rw [show (((old.length : Nat) : Int)).toNat = old.length by omega, List.getElem?_append_right (Nat.le_refl _), Nat.sub_self, e]; rfl
        · rw [if_neg e] at hk
          have h1 := hI.inv1 k w hk hw
          rw [List.getElem?_append_left (List.getElem?_eq_some_iff.1 h1).1]; exact h1
      · rcases Nat.lt_trichotomy p old.length with h1 | h1 | h1
        · rw [List.getElem?_append_left h1] at hk
          have h2 := hI.inv2 p k hk
          rw [idx_set hir (idx_lt h2).1, if_neg (fun e => hnew k _ h2 (by omega) e.symm)]; exact h2
        · subst h1
          rw [List.getElem?_append_right (Nat.le_refl _), Nat.sub_self] at hk
          simp at hk; subst hk
          rw [idx_set hir hir.1, if_pos rfl]
        · rw [List.getElem?_eq_none (by simp; omega)] at hk; cases hk
    have hS2 : TS R (to.set i.toNat ((old.length : Nat) : Int)) (old ++ [i]) (to'.set j.toNat ((old.length : Nat) : Int)) (old' ++ [j]) := by
      refine ⟨fun a b hab => ?_, hS.or.snoc hij⟩
      obtain ⟨xa, yb, ha, hb, _⟩ := hR.dom a b hab
      rw [idx_set hir (idx_lt ha).1, idx_set hjr (idx_lt hb).1]
      by_cases e : i = a
      · subst e; rw [if_pos rfl, if_pos (hR.inj1 _ _ _ hij hab)]
      · rw [if_neg e, if_neg (fun e2 => e (by subst e2; exact hR.inj2 _ _ _ hij hab))]; exact hS.tr a b hab
    refine Gives2.cnt x.Kids.length (fun s : List Int × List Int × Nat => s.2.2) (fun (s s' : List Int × List Int × Nat) => s'.2.2 = s.2.2 ∧ TI ns s.1 s.2.1 ∧ TS R s.1 s.2.1 s'.1 s'.2.1 ∧ GW ns (to.set i.toNat ((old.length : Nat) : Int)) (old ++ [i]) s.1 s.2.1 ∧ ∀ k ∈ x.Kids.take s.2.2, ∃ v, idx s.1 k = some v ∧ 0 ≤ v) ⟨rfl, hI2, hS2, GW.refl _ _ _, fun k hk => by simp at hk⟩ (Nat.zero_le _) (fun s s' hs hc => ?_) fun s s' hs hc => ?_
    · obtain ⟨e, i1, i2, i3, i4⟩ := hs
      have hlt : s.2.2 < x.Kids.length := hc
      have hxk := List.getElem?_eq_getElem hlt
      obtain ⟨b, hb, hab⟩ := hxy.kids.get hxk
      have hkl := hxy.kids.len
      rw [if_pos (by omega), if_pos (by omega), e]
      refine Gives2.bindE hxk hb (Gives2.bind _ (ih g (by omega) _ b _ _ _ _ hab i1 i2 (by have := i3.u; omega)) fun q q' hq => Gives2.some ⟨⟨rfl, hq.1, hq.2.1, i3.trans hq.2.2.1, ?_⟩, rfl⟩)
      refine takeStep hxk (fun k hk => ?_) hq.2.2.2.1
      obtain ⟨v, h1, h2⟩ := i4 k hk
      exact ⟨v, hq.2.2.1.keep k v h1 h2, h2⟩
    · obtain ⟨e, i1, i2, i3, i4⟩ := hs
      have hlt : s.2.2 = x.Kids.length := hc
      have hkl := hxy.kids.len
      rw [if_neg (by omega), if_neg (by omega)]
      have i5 := takeAllP hlt i4
      have hi2 : idx s.1 i = some ((old.length : Nat) : Int) := i3.keep i _ (by rw [idx_set hir hir.1, if_pos rfl]) (by omega)
      refine Gives2.some ⟨i1, i2, ⟨fun p k hk => i3.pre p k (by rw [List.getElem?_append_left (List.getElem?_eq_some_iff.1 hk).1]; exact hk), fun k w hk hw => i3.keep k w (by rw [idx_set hir (idx_lt hk).1, if_neg (fun e => hnew k w hk hw e.symm)]; exact hk) hw, fun p k z hk hp hz a ha => ?_, by have := i3.u; show U s.1 ≤ U to; omega⟩, ⟨_, hi2, by omega⟩, fun w hw hw0 => i3.pre old.length i (by rw [List.getElem?_append_right (Nat.le_refl _), Nat.sub_self]; rfl)⟩
      rcases Nat.lt_or_ge old.length p with h1 | h1
      · exact i3.clo p k z hk (by simp only [List.length_append, List.length_cons, List.length_nil]; omega) hz a ha
      · obtain rfl : p = old.length := by omega
        have h2 := i3.pre old.length i (by rw [List.getElem?_append_right (Nat.le_refl _), Nat.sub_self]; rfl)
        rw [hk] at h2; cases h2
        rw [hx] at hz; cases hz
        exact i5 a ha
theorem U_rep (n : Nat) : U (List.replicate n (-1)) = n := by
  induction n with
  | zero => rfl
  | succ n ih => unfold U at ih ⊢; rw [List.replicate_succ, sumN_cons, ih, if_pos (by omega)]; omega
theorem idx_rep {n : Nat} {i v : Int} (h : idx (List.replicate n (-1)) i = some v) : v = -1 := List.eq_of_mem_replicate (idx_mem h)
/-- The row of numbers in the beginning. -/
theorem tidy0 (ns : List DNode) (h : ns.length ≤ 100000) : ∃ z, Mir.made 8 ((ns.length : Nat) : Int) (0 : Int) = some z ∧ z.length = ns.length ∧ (Mir.Loop (S := List Int × Nat × Int) (Q := List Int) (z, z.length, (0 : Int)) fun s40 =>
      if s40.2.2 < ((s40.2.1 : Nat) : Int) then
        (Mir.idx s40.1 s40.2.2).bind fun x51 =>
        (Mir.upd s40.1 s40.2.2 (-1)).bind fun x61 =>
        some (.inl (x61, s40.2.1, Mir.w64 (s40.2.2 + 1)))
      else
        some (.inr s40.1)) = some (List.replicate ns.length (-1)) := by
  refine ⟨_, made_ok ⟨by omega, by omega⟩, List.length_replicate, ?_⟩
  rw [List.length_replicate]
  suffices H : Gives (Mir.Loop (S := List Int × Nat × Int) (Q := List Int) (List.replicate ns.length 0, ns.length, (0 : Int)) fun s40 =>
      if s40.2.2 < ((s40.2.1 : Nat) : Int) then
        (Mir.idx s40.1 s40.2.2).bind fun x51 =>
        (Mir.upd s40.1 s40.2.2 (-1)).bind fun x61 =>
        some (.inl (x61, s40.2.1, Mir.w64 (s40.2.2 + 1)))
      else
        some (.inr s40.1)) fun q => q = List.replicate ns.length (-1) by
    obtain ⟨q, h1, h2⟩ := H; rw [h1, h2]
  refine G_cnt ns.length (fun s : List Int × Nat × Int => s.2.2.toNat) (fun s : List Int × Nat × Int => 0 ≤ s.2.2 ∧ s.2.2 ≤ ns.length ∧ s.2.1 = ns.length ∧ s.1 = List.replicate s.2.2.toNat (-1) ++ List.replicate (ns.length - s.2.2.toNat) 0) ⟨Int.le_refl _, by show (0 : Int) ≤ _; omega, rfl, by simp⟩ (Nat.zero_le _) (fun s hs hc => ?_) fun s hs hc => ?_
  · obtain ⟨z, m, i⟩ := s
    obtain ⟨h0, h1, h2, h3⟩ := hs
    dsimp only at h0 h1 h2 h3 hc ⊢
    obtain ⟨k, rfl⟩ : ∃ k : Nat, i = (k : Int) := ⟨i.toNat, by omega⟩
    have hk : ((k : Nat) : Int).toNat = k := by omega
    rw [hk] at h3 hc
    have hl : z.length = ns.length := by rw [h3]; simp; omega
    rw [if_pos (by omega)]
    obtain ⟨x, hx, _⟩ := idx_in (xs := z) (i := (k : Int)) (by omega)
    rw [hx, Option.bind_some, upd_in (by omega), Option.bind_some, w64_lit (by omega)]
    refine Gives.some ⟨⟨by show (0 : Int) ≤ (k : Int) + 1; omega, by show (k : Int) + 1 ≤ _; omega, h2, ?_⟩, by show ((k : Int) + 1).toNat = _; omega⟩
    show z.set ((k : Nat) : Int).toNat (-1) = List.replicate ((k : Int) + 1).toNat (-1) ++ List.replicate (ns.length - ((k : Int) + 1).toNat) 0
    rw [hk, show ((k : Int) + 1).toNat = k + 1 by omega, h3, List.set_append_right _ _ (by simp), List.length_replicate, Nat.sub_self, show ns.length - k = (ns.length - (k + 1)) + 1 by omega, List.replicate_succ, List.set_cons_zero, List.replicate_succ' (n := k), List.append_assoc]; rfl
  · obtain ⟨z, m, i⟩ := s
    obtain ⟨h0, h1, h2, h3⟩ := hs
    dsimp only at h0 h1 h2 h3 hc ⊢
    rw [if_neg (by omega)]
    refine Gives.some ?_
    show z = _
    rw [h3, hc, Nat.sub_self, List.replicate_zero, List.append_nil]
/-- What the clean form of a graph is. -/
structure TF (ns : List DNode) (rt : Int) (T : DGraph) : Prop where
  root : T.Root = 0
  pos : 1 ≤ T.Nodes.length
  le : T.Nodes.length ≤ ns.length
  rel : ∃ R, Rel ns T.Nodes R ∧ R rt 0
  nodes : ∀ y ∈ T.Nodes, ∃ x ∈ ns, y.Op = x.Op ∧ y.Name = x.Name ∧ y.N = x.N ∧ y.Kids.length = x.Kids.length ∧ InR y.Kids T.Nodes.length
abbrev K1000 (ns : List DNode) : Prop := ∀ x ∈ ns, x.Kids.length ≤ 1000
theorem tidy2 {ns ms : List DNode} {R : Int → Int → Prop} (hR : Rel ns ms R) {rt rt' : Int} (hr : R rt rt') (hn : ns.length ≤ 100000) (hm : ms.length ≤ 100000) (hk : K1000 ns) (g : Nat) (hg : ns.length + 1 ≤ g) :
    ∃ T, m_graph_Tidy g ⟨rt, ns⟩ [] = some (T, []) ∧ m_graph_Tidy g ⟨rt', ms⟩ [] = some (T, []) ∧ TF ns rt T := by
  suffices H : Gives2 (m_graph_Tidy g ⟨rt, ns⟩ []) (m_graph_Tidy g ⟨rt', ms⟩ []) fun r r' => r' = r ∧ r.2 = [] ∧ TF ns rt r.1 by
    obtain ⟨r, r', h1, h2, rfl, h4, h5⟩ := H
    obtain ⟨T, l⟩ := r'
    dsimp only at h4 h5
    subst h4
    exact ⟨T, h1, h2, h5⟩
  unfold m_graph_Tidy
  obtain ⟨z, hz1, hz2, hz3⟩ := tidy0 ns hn
  obtain ⟨z', hz1', hz2', hz3'⟩ := tidy0 ms hm
  refine Gives2.bindE hz1 hz1' (Gives2.bindE hz3 hz3' ?_)
  have hI0 : TI ns (List.replicate ns.length (-1)) [] := ⟨List.length_replicate, by rw [U_rep]; rfl, fun i v h hv => by have := idx_rep h; omega, fun p i h => by simp at h⟩
  have hS0 : TS R (List.replicate ns.length (-1)) [] (List.replicate ms.length (-1)) [] := ⟨fun i j hij => by
    obtain ⟨x, y, hx, hy, _⟩ := hR.dom i j hij
    obtain ⟨v, hv, _⟩ := idx_in (xs := List.replicate ns.length (-1 : Int)) (i := i) (by rw [List.length_replicate]; exact idx_lt hx)
    obtain ⟨w, hw, _⟩ := idx_in (xs := List.replicate ms.length (-1 : Int)) (i := j) (by rw [List.length_replicate]; exact idx_lt hy)
    rw [hv, hw, idx_rep hv, idx_rep hw], KR.nil⟩
  refine Gives2.bind _ (dfs hR hn rt rt' ns.length g hg rt rt' _ _ _ _ hr hI0 hS0 (by rw [U_rep]; exact Nat.le_refl _)) fun q q' hq => ?_
  obtain ⟨hI, hS, hW, ⟨v0, hv0, hv00⟩, hfst⟩ := hq
  obtain ⟨to, old⟩ := q
  obtain ⟨to', old'⟩ := q'
  dsimp only at hI hS hW hv0 ⊢
  refine Gives2.bindE (Loop_inr rfl) (Loop_inr rfl) ?_
  dsimp only
  have hcnt := hI.cnt
  have hol := hS.or.len
  -- what is visited is there, and so are its kids
  have hvis : ∀ (p : Nat) i, old[p]? = some i → ∃ x, idx ns i = some x ∧ (∀ k ∈ x.Kids, ∃ v, idx to k = some v ∧ 0 ≤ v) ∧ ∃ j y, old'[p]? = some j ∧ R i j ∧ idx ms j = some y ∧ NR R x y := fun p i hp => by
    obtain ⟨j, hj, hij⟩ := hS.or.get hp
    obtain ⟨x, y, hx, hy, hxy⟩ := hR.dom i j hij
    exact ⟨x, hx, fun k hk => hW.clo p i x hp (Nat.zero_le _) hx k hk, j, y, hj, hij, hy, hxy⟩
  refine Gives2.bind (fun (l l' : List DNode) => l' = l ∧ l.length = old.length ∧ ∀ (p : Nat) i x, old[p]? = some i → idx ns i = some x → ∃ y, l[p]? = some y ∧ y.Op = x.Op ∧ y.Name = x.Name ∧ y.N = x.N ∧ y.Kids.length = x.Kids.length ∧ ∀ (k : Nat) a, x.Kids[k]? = some a → ∃ v, idx to a = some v ∧ y.Kids[k]? = some v)
    (Gives2.cnt old.length (fun s : List DNode × Nat => s.2) (fun (s s' : List DNode × Nat) => s' = s ∧ s.1.length = s.2 ∧ ∀ (p : Nat) i x, p < s.2 → old[p]? = some i → idx ns i = some x → ∃ y, s.1[p]? = some y ∧ y.Op = x.Op ∧ y.Name = x.Name ∧ y.N = x.N ∧ y.Kids.length = x.Kids.length ∧ ∀ (k : Nat) a, x.Kids[k]? = some a → ∃ v, idx to a = some v ∧ y.Kids[k]? = some v) ⟨rfl, rfl, fun p i x h => by cases h⟩ (Nat.zero_le _) (fun s s' hs hc => ?_) fun s s' hs hc => ?_) fun l l' hl => ?_
  · obtain ⟨rfl, hl, hp⟩ := hs
    have hlt : s'.2 < old.length := hc
    have hi := List.getElem?_eq_getElem hlt
    obtain ⟨x, hx, hxk, j, y, hj, hij, hy, hxy⟩ := hvis _ _ hi
    rw [if_pos (by omega), if_pos (by omega)]
    refine Gives2.bindE hi hj (Gives2.bindE hx hy (Gives2.bind (fun (m m' : List Int) => m' = m ∧ m.length = x.Kids.length ∧ ∀ (k : Nat) a, x.Kids[k]? = some a → ∃ v, idx to a = some v ∧ m[k]? = some v) ?_ fun m m' hm => ?_))
    · have h1000 := hk x (idx_mem hx)
      have hkl := hxy.kids.len
      refine Gives2.cnt x.Kids.length (fun s : List Int × Nat => s.2) (fun (s s' : List Int × Nat) => s' = s ∧ s.1.length = s.2 ∧ ∀ (k : Nat) a, k < s.2 → x.Kids[k]? = some a → ∃ v, idx to a = some v ∧ s.1[k]? = some v) ⟨rfl, rfl, fun k a h => by cases h⟩ (Nat.zero_le _) (fun s s' hs hc => ?_) fun s s' hs hc => ?_
      · obtain ⟨rfl, h1, h2⟩ := hs
        have hlt : s'.2 < x.Kids.length := hc
        have hxk2 := List.getElem?_eq_getElem hlt
        obtain ⟨b, hb, hab⟩ := hxy.kids.get hxk2
        obtain ⟨v, hv, _⟩ := hxk _ (List.getElem_mem hlt)
        rw [if_pos (by omega), if_pos (by omega)]
        refine Gives2.bindE hxk2 hb (Gives2.bindE hv (by rw [← hS.tr _ _ hab]; exact hv) (Gives2.bindE (push_small 2000 (by simp only [List.length_cons, List.length_nil]; omega) (by decide)) (push_small 2000 (by simp only [List.length_cons, List.length_nil]; omega) (by decide)) (Gives2.some ⟨⟨rfl, by simp; omega, fun k a hk ha => ?_⟩, rfl⟩)))
        rcases Nat.lt_or_ge k s'.2 with h3 | h3
        · obtain ⟨w, h4, h5⟩ := h2 k a h3 ha
          exact ⟨w, h4, by rw [List.getElem?_append_left (by omega)]; exact h5⟩
        · obtain rfl : k = s'.2 := by omega
          rw [hxk2] at ha; cases ha
          exact ⟨v, hv, by rw [List.getElem?_append_right (by omega), h1, Nat.sub_self]; rfl⟩
      · obtain ⟨rfl, h1, h2⟩ := hs
        have hlt : s'.2 = x.Kids.length := hc
        rw [if_neg (by omega), if_neg (by omega)]
        exact Gives2.some ⟨rfl, by omega, fun k a ha => h2 k a (by rw [hlt]; exact (List.getElem?_eq_some_iff.1 ha).1) ha⟩
    · obtain ⟨rfl, hm1, hm2⟩ := hm
      rw [hxy.op, hxy.name, hxy.n]
      refine Gives2.bindE (push_small 200000 (by simp only [List.length_cons, List.length_nil]; omega) (by decide)) (push_small 200000 (by simp only [List.length_cons, List.length_nil]; omega) (by decide)) (Gives2.some ⟨⟨rfl, by simp; omega, fun p i z hpl hpi hz => ?_⟩, rfl⟩)
      rcases Nat.lt_or_ge p s'.2 with h3 | h3
      · obtain ⟨w, h4, h5⟩ := hp p i z h3 hpi hz
        exact ⟨w, by rw [List.getElem?_append_left (by omega)]; exact h4, h5⟩
      · have h6 : p < s'.2 + 1 := hpl
        obtain rfl : p = s'.2 := by omega
        rw [hi] at hpi; cases hpi
        rw [hx] at hz; cases hz
        exact ⟨DNode.mk x.Op x.Name x.N m', by rw [List.getElem?_append_right (by omega), hl, Nat.sub_self]; rfl, rfl, rfl, rfl, hm1, hm2⟩
  · obtain ⟨rfl, hl, hp⟩ := hs
    have hlt : s'.2 = old.length := hc
    rw [if_neg (by omega), if_neg (by omega)]
    exact Gives2.some ⟨rfl, by omega, fun p i x hpi hx => hp p i x (by rw [hlt]; exact (List.getElem?_eq_some_iff.1 hpi).1) hpi hx⟩
  · obtain ⟨rfl, hl, hp⟩ := hl
    refine Gives2.bindE (Loop_inr rfl) (Loop_inr rfl) (Gives2.some ⟨rfl, rfl, ?_⟩)
    have hrt : old[0]? = some rt := by
      obtain ⟨x, y, hx, _⟩ := hR.dom rt rt' hr
      obtain ⟨v, hv, _⟩ := idx_in (xs := List.replicate ns.length (-1 : Int)) (i := rt) (by rw [List.length_replicate]; exact idx_lt hx)
      exact hfst v hv (by rw [idx_rep hv]; omega)
    have hpos : 1 ≤ old.length := by have := (List.getElem?_eq_some_iff.1 hrt).1; omega
    have hsee : ∀ y ∈ l', ∃ (p : Nat) (i : Int) (x : DNode), old[p]? = some i ∧ idx ns i = some x ∧ l'[p]? = some y ∧ y.Op = x.Op ∧ y.Name = x.Name ∧ y.N = x.N ∧ y.Kids.length = x.Kids.length ∧ ∀ (k : Nat) a, x.Kids[k]? = some a → ∃ v, idx to a = some v ∧ y.Kids[k]? = some v := fun y hy => by
      obtain ⟨p, hpl, rfl⟩ := List.getElem_of_mem hy
      have hpo : p < old.length := by omega
      have hi := List.getElem?_eq_getElem hpo
      obtain ⟨x, hx, _⟩ := hvis _ _ hi
      obtain ⟨y, h1, h2⟩ := hp p _ x hi hx
      have h3 := List.getElem?_eq_getElem hpl
      rw [h1] at h3; cases h3
      exact ⟨p, _, x, hi, hx, h1, h2⟩
    have hkid : ∀ (p : Nat) i x, old[p]? = some i → idx ns i = some x → ∀ (k : Nat) a v, x.Kids[k]? = some a → idx to a = some v → 0 ≤ v ∧ old[v.toNat]? = some a := fun p i x hpi hx k a v ha hv => by
      obtain ⟨x', hx', hc, _⟩ := hvis p i hpi
      rw [hx] at hx'; cases hx'
      obtain ⟨w, hw, hw0⟩ := hc a (List.mem_of_getElem? ha)
      rw [hv] at hw; cases hw
      exact ⟨hw0, hI.inv1 a v hv hw0⟩
    refine ⟨rfl, by show 1 ≤ l'.length; omega, by show l'.length ≤ ns.length; omega, ⟨fun i j => 0 ≤ j ∧ old[j.toNat]? = some i, ⟨fun i j hij => ?_, fun i j j' h h' => ?_, fun i i' j h h' => ?_⟩, by simpa using hrt⟩, fun y hy => ?_⟩
    · obtain ⟨x, hx, _⟩ := hvis _ _ hij.2
      obtain ⟨y, h1, h2, h3, h4, h5, h6⟩ := hp _ _ _ hij.2 hx
      refine ⟨x, y, hx, idx_some.2 ⟨hij.1, h1⟩, h2, h3, h4, h5.symm, fun k a b ha hb => ?_⟩
      obtain ⟨v, hv, hyv⟩ := h6 k a ha
      rw [hb] at hyv; cases hyv
      exact hkid _ _ _ hij.2 hx k a b ha hv
    · have h1 := hI.inv2 _ _ h.2
      have h2 := hI.inv2 _ _ h'.2
      rw [h1] at h2
      have := Option.some.inj h2
      have := h.1; have := h'.1; omega
    · have h1 := h.2; rw [h'.2] at h1; exact (Option.some.inj h1).symm
    · obtain ⟨p, i, x, h1, h2, h3, h4, h5, h6, h7, h8⟩ := hsee y hy
      refine ⟨x, idx_mem h2, h4, h5, h6, h7, fun k hkm => ?_⟩
      obtain ⟨m, hml, rfl⟩ := List.getElem_of_mem hkm
      have hma := List.getElem?_eq_getElem (show m < x.Kids.length by omega)
      obtain ⟨v, hv, hyv⟩ := h8 m _ hma
      rw [List.getElem?_eq_getElem hml] at hyv
      have e := Option.some.inj hyv
      obtain ⟨hv0, hv1⟩ := hkid p i x h1 h2 m _ v hma hv
      have := (List.getElem?_eq_some_iff.1 hv1).1
      rw [e]
      exact ⟨hv0, by show v < ((l'.length : Nat) : Int); omega⟩
end Go.Proofs.YtjkcinpmbgcgpaaGreatDoor
