/- The text of a graph, and things that are like themselves. -/
import Derived.Test.YtjkcinpmbgcgpaaGreatDoorGrG
namespace Go.Proofs.YtjkcinpmbgcgpaaGreatDoor
open Go Go.Mir
set_option linter.unusedVariables false
theorem dd_len : ∀ (k u : Nat), u < 10 ^ (k + 1) → (Lib.decDigits u).length ≤ k + 1 := by
  intro k
  induction k with
  | zero => intro u h; rw [Lib.decDigits]; rw [dif_pos (by simpa using h)]; simp
  | succ k ih =>
    intro u h
    rw [Lib.decDigits]
    by_cases h10 : u < 10
    · rw [dif_pos h10]; simp
    · rw [dif_neg h10]
      have h2 : u / 10 < 10 ^ (k + 1) := by rw [Nat.pow_succ] at h; omega
      have := ih _ h2
      simp only [List.length_append, List.length_cons, List.length_nil]
      omega
theorem itoa_len (n : Int) (h : -1000000000 ≤ n ∧ n ≤ 1000000000) : 1 ≤ (Lib.itoa n).length ∧ (Lib.itoa n).length ≤ 20 ∨ (Lib.itoa n).length ≤ 20 := by
  right
  unfold Lib.itoa
  split
  · have := dd_len 10 n.natAbs (by omega)
    simp only [List.length_cons]; omega
  · have := dd_len 10 n.toNat (by omega)
    omega
/-- What the text asks of a node. -/
structure NB (y : DNode) : Prop where
  kids : y.Kids.length ≤ 8
  name : y.Op = 1 ∨ y.Op = 3 → y.Name.length ≤ 16
  int : y.Op = 2 → -1000000000 ≤ y.N ∧ y.N ≤ 1000000000
  in_ : InR y.Kids 100000
theorem g_bw (g : Nat) (l s : List UInt8) (h0 : 0 < s.length) (h : l.length + s.length ≤ 1000000000) : Gives (Mir.x_bwrite g l s) fun q => q.length = l.length + s.length :=
  Gives.of (if_pos ⟨h0, h⟩) (List.length_append ..)
theorem g_cat (a b : List UInt8) (h : a.length + b.length ≤ 1000) : Gives (Mir.cat a b) fun q => q.length = a.length + b.length :=
  Gives.of (if_pos (by omega)) (List.length_append ..)
theorem g_itoa (g : Nat) (n : Int) (h : -1000000000 ≤ n ∧ n ≤ 1000000000) : Gives (Mir.x_itoa g n) fun q => q.length ≤ 20 :=
  Gives.of (if_pos (by omega)) (by rcases itoa_len n h with h | h <;> omega)
theorem t_Key (g : Nat) (G T : DGraph) (hT : m_graph_Tidy g G [] = some (T, [])) (hp : 1 ≤ T.Nodes.length) (hl : T.Nodes.length ≤ 100000) (hN : ∀ y ∈ T.Nodes, NB y) : Tot (m_graph_Key g G) := by
  unfold m_graph_Key
  refine Gives.bindE hT ?_
  dsimp only
  refine Gives.bind (fun z : List UInt8 => 0 < z.length ∧ z.length ≤ 1000000000) (G_cnt T.Nodes.length (fun s : List UInt8 × Nat => s.2) (fun s : List UInt8 × Nat => s.1.length ≤ 300 * s.2 ∧ (0 < s.2 → 0 < s.1.length)) ⟨Nat.zero_le _, fun h => by cases h⟩ (Nat.zero_le _) (fun s hs hc => ?_) fun s hs hc => ?_) fun z hz => Gives.bindE (show Mir.x_bstr g z = some z from if_pos hz) (Gives.some trivial)
  · have hlt : s.2 < T.Nodes.length := hc
    obtain ⟨h1, h2⟩ := hs
    rw [if_pos (by omega)]
    refine Gives.bind (fun z : List UInt8 => z.length ≤ 300 * s.2 + 300 ∧ 0 < z.length) (G_get hlt fun x hx hm => ?_) fun z hz => Gives.some ⟨⟨by show z.length ≤ 300 * (s.2 + 1); omega, fun _ => hz.2⟩, rfl⟩
    have hb := hN x hm
    refine Gives.bind (fun z : List UInt8 => z.length ≤ 300 * s.2 + 2) (Gives.ite (fun _ => Gives.bind _ (g_bw g _ _ (by decide) (by simp only [List.length_cons, List.length_nil]; omega)) fun q hq => Gives.some (by simp only [List.length_cons, List.length_nil] at hq; omega)) fun _ => Gives.some (by omega)) fun z1 hz1 => ?_
    refine Gives.bind (fun z : List UInt8 => z.length ≤ 300 * s.2 + 30 ∧ 0 < z.length) ?_ fun z2 hz2 => ?_
    · have fin : ∀ (t : List UInt8), 0 < t.length → t.length ≤ 28 → Gives ((Mir.x_bwrite g z1 t).bind fun q => some q) (fun z : List UInt8 => z.length ≤ 300 * s.2 + 30 ∧ 0 < z.length) := fun t h3 h4 => Gives.bind _ (g_bw g z1 t h3 (by omega)) fun q hq => Gives.some ⟨by omega, by omega⟩
      refine Gives.ite (fun h => Gives.bind _ (g_cat _ _ (by have := hb.name (.inl h); simp only [List.length_cons, List.length_nil]; omega)) fun t ht => fin t (by simp only [List.length_cons, List.length_nil] at ht; omega) (by have := hb.name (.inl h); simp only [List.length_cons, List.length_nil] at ht; omega)) fun _ => ?_
      refine Gives.ite (fun h => Gives.bind _ (g_itoa g _ (hb.int h)) fun t ht => Gives.bind _ (g_cat _ _ (by simp only [List.length_cons, List.length_nil]; omega)) fun t2 ht2 => fin t2 (by simp only [List.length_cons, List.length_nil] at ht2; omega) (by simp only [List.length_cons, List.length_nil] at ht2; omega)) fun _ => ?_
      refine Gives.ite (fun h => Gives.bind _ (g_cat _ _ (by have := hb.name (.inr h); simp only [List.length_cons, List.length_nil]; omega)) fun t ht => fin t (by simp only [List.length_cons, List.length_nil] at ht; omega) (by have := hb.name (.inr h); simp only [List.length_cons, List.length_nil] at ht; omega)) fun _ => ?_
      exact Gives.ite (fun h => fin _ (by decide) (by decide)) fun _ => Gives.ite (fun h => fin _ (by decide) (by decide)) fun _ => Gives.ite (fun h => fin _ (by decide) (by decide)) fun _ => fin _ (by decide) (by decide)
    · refine G_each x.Kids (fun s : List UInt8 × Nat => s.2) (fun s' : List UInt8 × Nat => s'.1.length ≤ 300 * s.2 + 30 + 21 * s'.2 ∧ 0 < s'.1.length) ⟨by show z2.length ≤ _; omega, hz2.2⟩ (Nat.zero_le _) (fun s' k hs' hc' hk hkm => ?_) fun s' hs' hc' => Gives.some ⟨?_, hs'.2⟩
      · have hc2 : s'.2 < x.Kids.length := hc'
        have h8 := hb.kids
        have hk2 := hb.in_ k hkm
        obtain ⟨h5, h6⟩ := hs'
        refine Gives.bind _ (g_itoa g k (by omega)) fun t ht => Gives.bind _ (g_cat _ _ (by simp only [List.length_cons, List.length_nil]; omega)) fun t2 ht2 => Gives.bind _ (g_bw g s'.1 t2 (by simp only [List.length_cons, List.length_nil] at ht2; omega) (by simp only [List.length_cons, List.length_nil] at ht2; omega)) fun q hq => Gives.some ⟨⟨?_, ?_⟩, rfl⟩
        · show q.length ≤ 300 * s.2 + 30 + 21 * (s'.2 + 1)
          simp only [List.length_cons, List.length_nil] at ht2; omega
        · show 0 < q.length; omega
      · have hc2 : s'.2 = x.Kids.length := hc'
        have h8 := hb.kids
        have h5 := hs'.1
        show s'.1.length ≤ _
        omega
  · have hlt : s.2 = T.Nodes.length := hc
    obtain ⟨h1, h2⟩ := hs
    rw [if_neg (by omega)]
    exact Gives.some ⟨h2 (by omega), by show s.1.length ≤ _; omega⟩
theorem key_eq (g : Nat) {G H : DGraph} {r : DGraph × List Int} (h1 : m_graph_Tidy g G [] = some r) (h2 : m_graph_Tidy g H [] = some r) : m_graph_Key g H = m_graph_Key g G := by
  unfold m_graph_Key
  rw [h1, h2]
/-- A graph is as it is. -/
theorem alike (g : Nat) (T : DGraph) : m_law09_same g T T = some true := by
  unfold m_law09_same
  suffices H : Gives (m_ref09_Alike g T T) fun q => q = true by
    obtain ⟨q, h1, rfl⟩ := H; rw [h1]; rfl
  unfold m_ref09_Alike
  refine Gives.bind (fun z => z = false) (Gives.pos rfl (Gives.some (by simp))) fun z hz => ?_
  subst hz
  refine Gives.neg (by decide) ?_
  refine G_list T.Nodes (fun _ => True) (fun i x hx hm hi => Gives.pos (by omega) ?_) (Gives.neg (by omega) (Gives.some trivial)) fun _ _ => Gives.some rfl
  refine Gives.jx (fun _ => True) (Gives.bindE (a := (x.Op, x.Name, x.N, x.Kids, x.Op, x.Name, x.N, x.Kids)) (by rw [hx]; rfl) ?_) fun _ _ => Gives.some ⟨rfl, trivial⟩
  dsimp only
  refine Gives.bind (fun z => z = false) (Gives.pos rfl (Gives.pos rfl (Gives.pos rfl (Gives.some (by simp))))) fun z hz => ?_
  subst hz
  refine Gives.neg (by decide) ?_
  exact G_each x.Kids id (fun _ => True) trivial (Nat.zero_le _) (fun s k _ _ hk _ => Gives.bindE hk (Gives.pos rfl (Gives.some ⟨trivial, rfl⟩))) fun s _ _ => Gives.some trivial
/-- A value that is not nested deeper. -/
inductive DV : Nat → DValue → Prop
  | mk {n : Nat} {v : DValue} : (∀ k ∈ v.Kids, DV n k) → DV (n + 1) v
theorem order0 (g : Nat) (a : Int) : m_ref08_order g a a = some 0 := by
  unfold m_ref08_order
  rw [if_neg (by omega), if_neg (by omega)]
theorem order_self : ∀ (n g : Nat) (v : DValue), DV n v → n ≤ g → m_ref08_Order g v v = some 0 := by
  intro n
  induction n with
  | zero => intro g v h; cases h
  | succ n ih =>
    intro g v h hg
    obtain ⟨g, rfl⟩ : ∃ k, g = k + 1 := ⟨g - 1, by omega⟩
    cases h with
    | mk hk =>
    suffices H : Gives (m_ref08_Order (g + 1) v v) fun q => q = 0 by
      obtain ⟨q, h1, rfl⟩ := H; exact h1
    rw [m_ref08_Order]
    refine Gives.bindE (order0 g _) (Gives.pos rfl (Gives.bind (fun _ => True) (Gives.ite (fun _ => Gives.some trivial) fun _ => Gives.some trivial) fun z _ => Gives.ite (fun _ => Gives.bindE (order0 g _) (Gives.some rfl)) fun _ => Gives.pos rfl (Gives.bindE (order0 g _) (Gives.pos rfl ?_))))
    exact G_look v.Kids (fun _ => True) (fun i x hx hm hi => Gives.bindE hx (Gives.bindE (ih g x (hk x hm) (by omega)) (Gives.pos rfl (Gives.some ⟨rfl, trivial⟩)))) (Gives.some trivial) fun _ _ => Gives.some rfl
theorem compared_self (g n : Nat) (a : DAnswer) (h1 : DV n a.V) (h2 : ∀ b ∈ a.B, DV n b) (hg : n ≤ g) : m_ref08_Compared g a a = some 0 := by
  suffices H : Gives (m_ref08_Compared g a a) fun q => q = 0 by
    obtain ⟨q, h1, rfl⟩ := H; exact h1
  unfold m_ref08_Compared
  refine Gives.bindE (order_self n g _ h1 hg) (Gives.pos rfl (Gives.bindE (order0 g _) (Gives.pos rfl ?_)))
  exact G_look a.B (fun _ => True) (fun i x hx hm hi => Gives.bindE hx (Gives.bindE (order_self n g x (h2 x hm) hg) (Gives.pos rfl (Gives.some ⟨rfl, trivial⟩)))) (Gives.some trivial) fun _ _ => Gives.some rfl
theorem g_deep : ∀ (r g : Nat) (v : DValue), r < g → r ≤ 40 → Gives (m_graph_deep g v (r : Int)) fun q => q = false → DV r v := by
  intro r
  induction r with
  | zero =>
    intro g v hg _
    obtain ⟨g, rfl⟩ : ∃ k, g = k + 1 := ⟨g - 1, by omega⟩
    rw [m_graph_deep]
    exact Gives.pos (by omega) (Gives.some fun h => by cases h)
  | succ r ih =>
    intro g v hg hr
    obtain ⟨g, rfl⟩ : ∃ k, g = k + 1 := ⟨g - 1, by omega⟩
    rw [m_graph_deep]
    refine Gives.neg (by omega) ?_
    rw [show w64 (((r + 1 : Nat) : Int) - 1) = ((r : Nat) : Int) by rw [w64_lit (by omega)]; omega]
    exact G_look v.Kids (DV r) (fun i x hx hm hi => Gives.bind _ (ih g x (by omega) (by omega)) fun q hq => Gives.ite (fun _ => Gives.some fun h => by cases h) fun h => Gives.some ⟨rfl, hq (by simpa using h)⟩) (Gives.some trivial) fun hk _ => Gives.some fun _ => .mk hk
end Go.Proofs.YtjkcinpmbgcgpaaGreatDoor
