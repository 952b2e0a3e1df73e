/- Graphs: what is checked of them; two runs side by side. -/
import Derived.Test.YtjkcinpmbgcgpaaGreatDoorGrD
namespace Go.Proofs.YtjkcinpmbgcgpaaGreatDoor
open Go Go.Mir
set_option linter.unusedVariables false
/-! ### two runs side by side -/
def Gives2 {α β : Type} (x : Option α) (y : Option β) (P : α → β → Prop) : Prop := ∃ r s, x = some r ∧ y = some s ∧ P r s
def Two2 {S Q S' Q' : Type} (I : S → S' → Prop) (P : Q → Q' → Prop) : S ⊕ Q → S' ⊕ Q' → Prop
  | .inl s, .inl s' => I s s'
  | .inr q, .inr q' => P q q'
  | _, _ => False
theorem Gives2.some {α β : Type} {r : α} {s : β} {P : α → β → Prop} (h : P r s) : Gives2 (some r) (some s) P := ⟨r, s, rfl, rfl, h⟩
theorem Gives2.mono {α β : Type} {x : Option α} {y : Option β} {P P' : α → β → Prop} (h : Gives2 x y P) (hp : ∀ r s, P r s → P' r s) : Gives2 x y P' := let ⟨r, s, h1, h2, h3⟩ := h; ⟨r, s, h1, h2, hp r s h3⟩
theorem Gives2.bind {α β α' β' : Type} {x : Option α} {y : Option α'} {k : α → Option β} {k' : α' → Option β'} {P : β → β' → Prop} (G : α → α' → Prop) (h : Gives2 x y G) (hk : ∀ a b, G a b → Gives2 (k a) (k' b) P) : Gives2 (x.bind k) (y.bind k') P := by
  obtain ⟨a, b, rfl, rfl, h⟩ := h
  exact hk a b h
theorem Gives2.bindE {α β α' β' : Type} {x : Option α} {y : Option α'} {a : α} {b : α'} {k : α → Option β} {k' : α' → Option β'} {P : β → β' → Prop} (h : x = .some a) (h' : y = .some b) (hk : Gives2 (k a) (k' b) P) : Gives2 (x.bind k) (y.bind k') P := by
  rw [h, h']; exact hk
theorem Gives2.ite {α β : Type} {c c' : Prop} [Decidable c] [Decidable c'] {x y : Option α} {x' y' : Option β} {P : α → β → Prop} (hc : c ↔ c') (h : c → Gives2 x x' P) (h' : ¬ c → Gives2 y y' P) : Gives2 (if c then x else y) (if c' then x' else y') P := by
  by_cases hq : c
  · rw [if_pos hq, if_pos (hc.1 hq)]; exact h hq
  · rw [if_neg hq, if_neg (fun h => hq (hc.2 h))]; exact h' hq
theorem Gives2.jx {J A J' A' : Type} {x : Option (J ⊕ A)} {y : Option (J' ⊕ A')} {k : J → Option A} {k' : J' → Option A'} {P : A → A' → Prop} (G : J → J' → Prop) (h : Gives2 x y (Two2 G P)) (hk : ∀ j j', G j j' → Gives2 (k j) (k' j') P) : Gives2 (Mir.jx x k) (Mir.jx y k') P := by
  obtain ⟨o, o', rfl, rfl, ho⟩ := h
  rcases o with j | a <;> rcases o' with j' | a'
  · exact hk j j' ho
  · exact ho.elim
  · exact ho.elim
  · exact ⟨a, a', rfl, rfl, ho⟩
theorem Gives2.loop {S Q S' Q' : Type} {body : S → Option (S ⊕ Q)} {body' : S' → Option (S' ⊕ Q')} {P : Q → Q' → Prop} (I : S → S' → Prop) (μ : S → Nat) (h : ∀ s s', I s s' → Gives2 (body s) (body' s') (Two2 (fun t t' => I t t' ∧ μ t < μ s) P)) {s : S} {s' : S'} (h0 : I s s') : Gives2 (Mir.Loop s body) (Mir.Loop s' body') P := by
  suffices H : ∀ n s s', μ s < n → I s s' → Gives2 (Mir.Loop s body) (Mir.Loop s' body') P from H _ s s' (Nat.lt_succ_self _) h0
  intro n
  induction n with
  | zero => intro s s' hn; omega
  | succ n ih =>
    intro s s' hn hs
    obtain ⟨o, o', h1, h2, h3⟩ := h s s' hs
    rcases o with t | a <;> rcases o' with t' | a'
    · rw [Loop_inl h1, Loop_inl h2]; exact ih t t' (by have := h3.2; omega) h3.1
    · exact h3.elim
    · exact h3.elim
    · rw [Loop_inr h1, Loop_inr h2]; exact Gives2.some h3
theorem Gives2.cnt {S Q S' Q' : Type} {body : S → Option (S ⊕ Q)} {body' : S' → Option (S' ⊕ Q')} {P : Q → Q' → Prop} (n : Nat) (c : S → Nat) (I : S → S' → Prop) {s : S} {s' : S'} (h0 : I s s') (hn : c s ≤ n)
    (h : ∀ s s', I s s' → c s < n → Gives2 (body s) (body' s') (Two2 (fun t t' => I t t' ∧ c t = c s + 1) P)) (he : ∀ s s', I s s' → c s = n → Gives2 (body s) (body' s') (Two2 (fun _ _ => False) P)) : Gives2 (Mir.Loop s body) (Mir.Loop s' body') P := by
  refine Gives2.loop (fun s s' => I s s' ∧ c s ≤ n) (fun s => n - c s) (fun s s' hs => ?_) ⟨h0, hn⟩
  rcases Nat.lt_or_ge (c s) n with h1 | h1
  · refine (h s s' hs.1 h1).mono fun o o' ho => ?_
    rcases o with t | a <;> rcases o' with t' | a'
    · obtain ⟨h2, h3⟩ := ho; exact ⟨⟨h2, by omega⟩, by omega⟩
    · exact ho
    · exact ho
    · exact ho
  · refine (he s s' hs.1 (by omega)).mono fun o o' ho => ?_
    rcases o with t | a <;> rcases o' with t' | a'
    · exact ho.elim
    · exact ho
    · exact ho
    · exact ho
theorem Gives2.of {α β : Type} {x : Option α} {y : Option β} {P : α → Prop} {P' : β → Prop} (h : Gives x P) (h' : Gives y P') : Gives2 x y fun r s => P r ∧ P' s := by
  obtain ⟨r, h1, h2⟩ := h; obtain ⟨s, h3, h4⟩ := h'; exact ⟨r, s, h1, h3, h2, h4⟩
theorem Gives2.same {α : Type} {x y : Option α} (h : Tot x) (e : y = x) : Gives2 x y fun r s => r = s := by
  obtain ⟨r, h1, _⟩ := h; exact ⟨r, r, h1, by rw [e, h1], rfl⟩
/-! ### nodes -/
abbrev kidsBody (ks : List Int) (n : Int) : Nat → Option (Nat ⊕ (Unit ⊕ Bool)) := fun s7 =>
  if ((s7 : Nat) : Int) < ((ks.length : Nat) : Int) then
    ((ks)[s7]?).bind fun x12 =>
    ((if x12 < 0 then some true else some (decide (x12 ≥ n))) : Option Bool).bind fun (z19 : Bool) =>
    if z19 = true then some (.inr (.inr false)) else some (.inl (s7 + 1))
  else some (.inr (.inl ()))
abbrev InR (ks : List Int) (n : Int) : Prop := ∀ k ∈ ks, 0 ≤ k ∧ k < n
theorem kidsLoop (ks : List Int) (n : Int) : Gives (Mir.Loop (0 : Nat) (kidsBody ks n)) (Two (fun _ => InR ks n) fun q => q = false ∧ ¬ InR ks n) := by
  refine G_each ks id (fun i => ∀ k ∈ ks.take i, 0 ≤ k ∧ k < n) (fun k hk => by simp at hk) (Nat.zero_le _) (fun s x hs hc hx hm => ?_) fun s hs hc => Gives.some (takeAllP hc hs)
  refine Gives.bind (fun z => z = false ↔ 0 ≤ x ∧ x < n) (Gives.ite (fun h => Gives.some ⟨(fun h => by cases h), fun h => by omega⟩) fun h => Gives.some ⟨fun h2 => ⟨by omega, by have := of_decide_eq_false h2; omega⟩, fun h2 => decide_eq_false (by omega)⟩) fun z hz => Gives.ite (fun h => Gives.some ⟨rfl, fun h2 => ?_⟩) fun h => Gives.some ⟨takeStep hx hs (hz.1 (by simpa using h)), rfl⟩
  have := hz.2 (h2 x hm); rw [h] at this; cases this
theorem kidsIn {ks : List Int} {n : Int} (h : InR ks n) : Mir.Loop (0 : Nat) (kidsBody ks n) = some (.inl ()) := by
  obtain ⟨o, h1, h2⟩ := kidsLoop ks n
  rcases o with u | q
  · exact h1
  · exact absurd h h2.2
/-- Whether a node is one does not hang on which kids it has, but that they are there. -/
theorem gNode_in (g : Nat) (x : DNode) (n : Int) (h : InR x.Kids n) : m_graph_isNode g x n = m_graph_isNode g ⟨x.Op, x.Name, x.N, List.replicate x.Kids.length 0⟩ 1 := by
  have h' : InR (List.replicate x.Kids.length (0 : Int)) 1 := fun k hk => by have := List.eq_of_mem_replicate hk; omega
  have e1 := kidsIn h
  have e2 := kidsIn h'
  unfold m_graph_isNode
  dsimp only
  rw [e1, e2]
  simp only [List.length_replicate]
theorem g_gNode (g : Nat) (x : DNode) (n : Int) : Gives (m_graph_isNode g x n) fun q => q = true → InR x.Kids n ∧ x.Kids.length ≤ 8 ∧ (x.Op = 1 ∨ x.Op = 3 → x.Name.length ≤ 16) ∧ (x.Op = 2 → -1000000000 ≤ x.N ∧ x.N ≤ 1000000000) := by
  unfold m_graph_isNode
  refine Gives.jx (fun _ => InR x.Kids n) ((kidsLoop x.Kids n).mono fun o ho => ?_) fun _ hin => ?_
  · rcases o with u | q
    · exact ho
    · exact fun h => by rw [ho.1] at h; cases h
  refine Gives.bind (fun _ => True) (Gives.ite (fun _ => Gives.some trivial) fun _ => Gives.some trivial) fun z25 _ => ?_
  refine Gives.ite (fun h1 => Gives.bind (fun z => z = true → Nm x.Name ∧ x.Kids.length ≤ 8) (Gives.bind _ (g_IsGreat g x.Name) fun q hq => Gives.ite (fun h => Gives.ite (fun _ => Gives.some fun h8 => ⟨hq h, by have := of_decide_eq_true h8; omega⟩) fun _ => Gives.some fun h => by cases h) fun _ => Gives.some fun h => by cases h) fun z hz => Gives.some fun h => ⟨hin, (hz h).2, fun _ => (hz h).1.2, fun h2 => by omega⟩) fun n1 => ?_
  refine Gives.ite (fun h3 => Gives.bind (fun z => z = true → Nm x.Name ∧ x.Kids.length ≤ 8) (Gives.bind _ (g_IsCoreName g x.Name) fun q hq => Gives.ite (fun h => Gives.ite (fun _ => Gives.some fun h => by cases h) fun _ => Gives.ite (fun _ => Gives.some fun h8 => ⟨hq h, by have := of_decide_eq_true h8; omega⟩) fun _ => Gives.some fun h => by cases h) fun _ => Gives.some fun h => by cases h) fun z hz => Gives.some fun h => ⟨hin, (hz h).2, fun _ => (hz h).1.2, fun h2 => by omega⟩) fun n3 => ?_
  refine Gives.ite (fun h2 => Gives.bind (fun z => z = true → (-1000000000 ≤ x.N ∧ x.N ≤ 1000000000) ∧ x.Kids.length ≤ 8) (Gives.ite (fun _ => Gives.bind _ (g_IsInt g x.N) fun q hq => Gives.ite (fun h => Gives.some fun h8 => ⟨hq h, by have := of_decide_eq_true h8; omega⟩) fun _ => Gives.some fun h => by cases h) fun _ => Gives.some fun h => by cases h) fun z hz => Gives.some fun h => ⟨hin, (hz h).2, fun h' => by omega, fun _ => (hz h).1⟩) fun n2 => ?_
  refine Gives.bind (fun _ => True) (Gives.ite (fun _ => Gives.some trivial) fun _ => Gives.some trivial) fun z71 _ => Gives.ite (fun _ => Gives.bind (fun z => z = true → x.Kids.length ≤ 8) (Gives.ite (fun _ => Gives.some fun h8 => by have := of_decide_eq_true h8; omega) fun _ => Gives.some fun h => by cases h) fun z hz => Gives.some fun h => ⟨hin, hz h, fun h' => by omega, fun h' => by omega⟩) fun _ => ?_
  exact Gives.bind (fun _ => True) (Gives.ite (fun _ => Gives.some trivial) fun _ => Gives.some trivial) fun z71 _ => Gives.ite (fun _ => Gives.bind (fun z => z = true → x.Kids.length ≤ 8) (Gives.ite (fun _ => Gives.some fun h8 => by have := of_decide_eq_true h8; omega) fun _ => Gives.some fun h => by cases h) fun z hz => Gives.some fun h => ⟨hin, hz h, fun h' => by omega, fun h' => by omega⟩) fun _ => Gives.some fun h => by cases h
noncomputable def chk2 (g : Nat) (op : Int) (nm : List UInt8) (q : Tbl) : Option Bool :=
  (m_core_Table_FunArity g nm q.1 q.2.1 q.2.2.1 q.2.2.2.1 q.2.2.2.2.1 q.2.2.2.2.2.1 q.2.2.2.2.2.2).bind fun q93 =>
  (Mir.getD q.2.2.2.2.1 nm 0).bind fun x97 =>
  if op = 3 then
    if q93.2 = true then
      if op = 1 then some (!((Mir.assoc q.2.2.2.2.1 nm).isSome)) else some false
    else some true
  else
    if op = 1 then some (!((Mir.assoc q.2.2.2.2.1 nm).isSome)) else some false
noncomputable def chk3 (g : Nat) (op : Int) (nm : List UInt8) (n : Nat) (q : Tbl) : Option Bool :=
  (m_core_Table_FunArity g nm q.1 q.2.1 q.2.2.1 q.2.2.2.1 q.2.2.2.2.1 q.2.2.2.2.2.1 q.2.2.2.2.2.2).bind fun q142 =>
  if op = 3 then
    if ((n : Nat) : Int) > q142.1 then some true
    else
      if op = 1 then (Mir.getD q.2.2.2.2.1 nm 0).bind fun x151 => some (decide (((n : Nat) : Int) > x151)) else some false
  else
    if op = 1 then (Mir.getD q.2.2.2.2.1 nm 0).bind fun x160 => some (decide (((n : Nat) : Int) > x160)) else some false
/-- What a valid graph is. -/
structure VN (g : Nat) (q : Tbl) (n : Int) (x : DNode) : Prop where
  node : m_graph_isNode g x n = some true
  c2 : chk2 g x.Op x.Name q = some false
  c3 : chk3 g x.Op x.Name x.Kids.length q = some false
structure VG (g : Nat) (q : Tbl) (G : DGraph) : Prop where
  len : G.Nodes.length ≤ 3000
  pos : 1 ≤ G.Nodes.length
  root : 0 ≤ G.Root ∧ G.Root < G.Nodes.length
  nodes : ∀ x ∈ G.Nodes, VN g q G.Nodes.length x
theorem t_chk2 (g : Nat) (op : Int) (nm : List UInt8) (q : Tbl) (hT : TOK q.2.2.1 q.2.2.2.1) : Tot (chk2 g op nm q) := by
  unfold chk2
  refine Gives.bind _ (t_FunArity _ _ _ _ _ _ _ hT g nm) fun _ _ => Gives.bindE rfl ?_
  repeat' first | exact Gives.some trivial | refine Gives.ite (fun _ => ?_) (fun _ => ?_)
theorem t_chk3 (g : Nat) (op : Int) (nm : List UInt8) (n : Nat) (q : Tbl) (hT : TOK q.2.2.1 q.2.2.2.1) : Tot (chk3 g op nm n q) := by
  unfold chk3
  refine Gives.bind _ (t_FunArity _ _ _ _ _ _ _ hT g nm) fun _ _ => ?_
  repeat' first | exact Gives.some trivial | refine Gives.bindE rfl (Gives.some trivial) | refine Gives.ite (fun _ => ?_) (fun _ => ?_)
noncomputable abbrev Shp (g : Nat) (G : DGraph) (q : Tbl) : Option Int := m_graph_Shape g G false q.1 q.2.1 q.2.2.1 q.2.2.2.1 q.2.2.2.2.1 q.2.2.2.2.2.1 q.2.2.2.2.2.2
/-- The check of a graph says what a valid graph is. -/
theorem g_Shape (g : Nat) (G : DGraph) (q : Tbl) (hT : TOK q.2.2.1 q.2.2.2.1) : Gives (Shp g G q) fun e => e = 0 ↔ VG g q G := by
  unfold Shp m_graph_Shape
  refine Gives.ite (fun h => Gives.some ⟨(fun h => by cases h), fun h' => by have := h'.len; omega⟩) fun hl => ?_
  refine Gives.bind (fun z => z = false ↔ 1 ≤ G.Nodes.length ∧ 0 ≤ G.Root ∧ G.Root < G.Nodes.length) (Gives.ite (fun h => Gives.some ⟨(fun h => by cases h), fun h' => by omega⟩) fun h1 => Gives.ite (fun h => Gives.some ⟨(fun h => by cases h), fun h' => by omega⟩) fun h2 => Gives.some ⟨fun h => by have := of_decide_eq_false h; omega, fun h => decide_eq_false (by omega)⟩) fun z hz => Gives.ite (fun h => Gives.some ⟨(fun h => by cases h), fun h' => ?_⟩) fun hz' => ?_
  · have := hz.2 ⟨h'.pos, h'.root⟩; rw [h] at this; cases this
  have h0 := hz.1 (by simpa using hz')
  refine Gives.jx (fun _ => ∀ x ∈ G.Nodes, m_graph_isNode g x G.Nodes.length = some true) (G_cnt G.Nodes.length (fun s : Bool × Nat => s.2) (fun s : Bool × Nat => s.1 = false ∧ ∀ x ∈ G.Nodes.take s.2, m_graph_isNode g x G.Nodes.length = some true) ⟨rfl, fun x hx => by simp at hx⟩ (Nat.zero_le _) (fun s hs hc => Gives.pos (by omega) (G_get hc fun x hx hm => ?_)) fun s hs hc => Gives.neg (by omega) (Gives.some (takeAllP hc hs.2))) fun _ hN => ?_
  · refine Gives.jx (fun j => j = (false, x.N)) (Gives.bind (fun z => z = (false, false)) (Gives.neg (by rw [hs.1]; decide) (Gives.some rfl)) fun z hz => ?_) fun j hj => ?_
    · subst hz; exact Gives.neg (by decide) (Gives.some rfl)
    · subst hj
      obtain ⟨b, hb, _⟩ := g_gNode g x G.Nodes.length
      refine Gives.bindE (a := b) hb (Gives.ite (fun h => Gives.some ⟨⟨rfl, takeStep hx hs.2 (by rw [hb, h])⟩, rfl⟩) fun h => Gives.some ⟨(fun h => by cases h), fun h' => absurd ?_ h⟩)
      have := (h'.nodes x hm).node
      rw [hb] at this; exact Option.some.inj this
  refine G_look G.Nodes (fun x => chk2 g x.Op x.Name q = some false) (fun i x hx hm hi => ?_) (Gives.some trivial) fun h2 _ => G_look G.Nodes (fun x => chk3 g x.Op x.Name x.Kids.length q = some false) (fun i x hx hm hi => ?_) (Gives.some trivial) fun h3 _ => Gives.some ⟨fun _ => ⟨by omega, h0.1, h0.2, fun x hx => ⟨hN x hx, h2 x hx, h3 x hx⟩⟩, fun _ => rfl⟩
  · obtain ⟨b, hb, _⟩ := t_chk2 g x.Op x.Name q hT
    have hb' := hb
    unfold chk2 at hb
    obtain ⟨q93, e1, e2⟩ := Option.bind_eq_some_iff.1 hb
    obtain ⟨x97, e3, e4⟩ := Option.bind_eq_some_iff.1 e2
    refine Gives.bindE e1 (Gives.bindE e3 (Gives.bindE e4 (Gives.ite (fun h => Gives.some ⟨(fun h => by cases h), fun h' => ?_⟩) fun h => Gives.some ⟨rfl, by rw [hb']; simpa using h⟩)))
    have := (h'.nodes x hm).c2
    rw [hb', h] at this; cases this
  · obtain ⟨b, hb, _⟩ := t_chk3 g x.Op x.Name x.Kids.length q hT
    have hb' := hb
    unfold chk3 at hb
    obtain ⟨q93, e1, e4⟩ := Option.bind_eq_some_iff.1 hb
    refine Gives.bindE e1 (Gives.bindE e4 (Gives.ite (fun h => Gives.some ⟨(fun h => by cases h), fun h' => ?_⟩) fun h => Gives.some ⟨rfl, by rw [hb']; simpa using h⟩))
    have := (h'.nodes x hm).c3
    rw [hb', h] at this; cases this
theorem VN.in {g : Nat} {q : Tbl} {n : Int} {x : DNode} (h : VN g q n x) : InR x.Kids n ∧ x.Kids.length ≤ 8 ∧ (x.Op = 1 ∨ x.Op = 3 → x.Name.length ≤ 16) ∧ (x.Op = 2 → -1000000000 ≤ x.N ∧ x.N ≤ 1000000000) := Gives.to (g_gNode g x n) h.node rfl
/-- A node like a valid one, with kids that are there, is valid. -/
theorem VN.like {g : Nat} {q : Tbl} {n m : Int} {x y : DNode} (h : VN g q n x) (h1 : y.Op = x.Op) (h2 : y.Name = x.Name) (h3 : y.N = x.N) (h4 : y.Kids.length = x.Kids.length) (h5 : InR y.Kids m) : VN g q m y :=
  ⟨by rw [gNode_in g y m h5, h1, h2, h3, h4, ← gNode_in g x n h.in.1]; exact h.node, by rw [h1, h2]; exact h.c2, by rw [h1, h2, h4]; exact h.c3⟩
/-- The check of a core program and a graph. -/
theorem g_gValid (g : Nat) (c : DCore) (G : DGraph) (hg : SizeOf.sizeOf c + 2 ≤ g) (hG : GCore c) : Gives (m_graph_Validate g c G) fun e => e = 0 → ∃ q, m_core_Validate g c = some 0 ∧ m_core_NewTable g c = some q ∧ VC c q ∧ VG g q G := by
  unfold m_graph_Validate
  obtain ⟨e, h1, h2⟩ := g_cValid g c hg hG
  refine Gives.bindE h1 (Gives.ite (fun h => ?_) fun h => Gives.some fun h' => absurd h' h)
  obtain ⟨q, h3, h4⟩ := h2 h
  refine Gives.bindE h3 (Gives.bind _ (g_Shape g G q (by rw [h4.funs]; exact h4.tok)) fun r hr => Gives.some fun h0 => ⟨q, by rw [h1, h], h3, h4, hr.1 h0⟩)
theorem gValid_of {g : Nat} {c : DCore} {q : Tbl} {G : DGraph} (h1 : m_core_Validate g c = some 0) (h2 : m_core_NewTable g c = some q) (h3 : VC c q) (h4 : VG g q G) : m_graph_Validate g c G = some 0 := by
  unfold m_graph_Validate
  rw [h1, Option.bind_some, if_pos rfl, h2, Option.bind_some]
  obtain ⟨e, h5, h6⟩ := g_Shape g G q (by rw [h3.funs]; exact h3.tok)
  have : e = 0 := h6.2 h4
  subst this
  show (Shp g G q).bind _ = _
  rw [h5]; rfl
end Go.Proofs.YtjkcinpmbgcgpaaGreatDoor
