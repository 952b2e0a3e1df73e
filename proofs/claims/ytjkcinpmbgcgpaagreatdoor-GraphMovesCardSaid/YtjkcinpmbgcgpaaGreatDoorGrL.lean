/- The law in plain words. -/
import Derived.Test.YtjkcinpmbgcgpaaGreatDoorGrK
import Derived.Test.YtjkcinpmbgcgpaaGreatDoorGrKn
namespace Go.Proofs.YtjkcinpmbgcgpaaGreatDoor
open Go Go.Mir
set_option linter.unusedVariables false
theorem known_at (g : Nat) (h : 60 ≤ g) : m_law09_known g = some true := by
  obtain ⟨k, rfl⟩ : ∃ k, g = k + 60 := ⟨g - 60, by omega⟩
  exact known_ok k
theorem keep0 (g : Nat) (G : DGraph) : m_graph_IsKeep g G [] = some 0 := by
  suffices H : Gives (m_graph_IsKeep g G []) fun q => q = 0 by
    obtain ⟨q, h1, rfl⟩ := H; exact h1
  unfold m_graph_IsKeep
  exact Gives.jx (fun _ => True) (G_cnt 0 id (fun _ => True) trivial (Nat.le_refl _) (fun s _ h => absurd h (Nat.not_lt_zero _)) fun s _ hc => Gives.neg (by simp) (Gives.some trivial)) fun _ _ => Gives.neg (by decide) (Gives.some rfl)
theorem TF.nb {g : Nat} {q : Tbl} {G : DGraph} (vG : VG g q G) {T : DGraph} (h : TF G.Nodes G.Root T) : (∀ y ∈ T.Nodes, NB y) ∧ VG g q T := by
  have hl := vG.len
  have hle := h.le
  refine ⟨fun y hy => ?_, ⟨by omega, h.pos, by rw [h.root]; have := h.pos; omega, fun y hy => ?_⟩⟩
  · obtain ⟨x, hx, e1, e2, e3, e4, e5⟩ := h.nodes y hy
    obtain ⟨g1, g2, g3, g4⟩ := (vG.nodes x hx).in
    exact ⟨by omega, fun h => by rw [e2]; exact g3 (by omega), fun h => by rw [e3]; exact g4 (by omega), fun k hk => by have := e5 k hk; omega⟩
  · obtain ⟨x, hx, e1, e2, e3, e4, e5⟩ := h.nodes y hy
    exact (vG.nodes x hx).like e1 e2 e3 e4 e5
theorem t_moves (g : Nat) (c : DCore) (G : DGraph) (seed : List Int) (hGc : GCore c) (hw : ∀ x ∈ seed, -9223372036854775808 ≤ x ∧ x < 9223372036854775808) (hg : SizeOf.sizeOf c + 10000 ≤ g) : m_law09_moves g c G seed = some true := by
  suffices H : Gives (m_law09_moves g c G seed) fun q => q = true by
    obtain ⟨q, h1, rfl⟩ := H; exact h1
  have hkn := known_at g (by omega)
  unfold m_law09_moves
  obtain ⟨e, he, hv⟩ := g_gValid g c G (by omega) hGc
  by_cases h0 : e = 0
  case neg => exact Gives.bind (fun z => z = true) (Gives.bindE he (Gives.neg h0 (Gives.some rfl))) fun z hz => Gives.pos hz (Gives.bindE hkn (Gives.some rfl))
  subst h0
  obtain ⟨q, hV0, hT0, hV, vG⟩ := hv rfl
  have hT : TOK q.2.2.1 q.2.2.2.1 := by rw [hV.funs]; exact hV.tok
  refine Gives.bind (fun z => z = decide (((G.Nodes.length : Nat) : Int) ≥ 3000)) (Gives.bindE he (Gives.pos rfl (Gives.some rfl))) fun z hz => Gives.ite (fun _ => Gives.bindE hkn (Gives.some rfl)) fun hz' => ?_
  have h3 : G.Nodes.length < 3000 := by
    rw [hz] at hz'
    simp at hz'
    omega
  obtain ⟨r, hr, hM⟩ := g_moved g q hT G vG seed hw
  have vH := hM.ok h3
  obtain ⟨T, t1, t2, tf⟩ := tidy2 hM.rel (rt := G.Root) (rt' := r.1.Root) hM.root (by omega) (by have := hM.len; omega) vG.k1000 g (by omega)
  have t1' : m_graph_Tidy g G [] = some (T, []) := t1
  have t2' : m_graph_Tidy g r.1 [] = some (T, []) := t2
  obtain ⟨hNB, vT⟩ := tf.nb vG
  obtain ⟨R2, hR2, hr2⟩ := tf.rel
  obtain ⟨T', s1, s2, _⟩ := tidy2 hR2 (rt := G.Root) (rt' := 0) hr2 (by omega) (by have := vT.len; omega) vG.k1000 g (by omega)
  have e1 : T' = T := by
    have h1 : m_graph_Tidy g G [] = some (T', []) := s1
    rw [t1'] at h1
    exact (Prod.mk.inj (Option.some.inj h1)).1.symm
  have t3 : m_graph_Tidy g T [] = some (T, []) := by
    have h1 : (⟨0, T.Nodes⟩ : DGraph) = T := by rw [← tf.root]
    rw [h1, e1] at s2; exact s2
  have vv : ∀ X, VG g q X → m_graph_Validate g c X = some 0 := fun X hX => gValid_of hV0 hT0 hV hX
  have cl : ∀ X, VG g q X → m_graph_Tidy g X [] = some (T, []) → m_graph_Clean g c X [] = some (T, [], 0) := fun X hX ht => by
    unfold m_graph_Clean
    rw [vv X hX, Option.bind_some, if_pos rfl, keep0, Option.bind_some, if_pos rfl, ht]; rfl
  obtain ⟨s, hs, _⟩ := t_Key g G T t1' tf.pos (by have := vT.len; omega) hNB
  have hs' : m_graph_Key g r.1 = some s := by rw [key_eq g t1' t2']; exact hs
  have tx : ∀ X, VG g q X → m_graph_Key g X = some s → m_graph_Text g c X = some (s, 0) := fun X hX hk => by
    unfold m_graph_Text
    rw [vv X hX, Option.bind_some, if_pos rfl, hk]; rfl
  have same : m_graph_Same g c G r.1 = some (true, 0) := by
    suffices H : Gives (m_graph_Same g c G r.1) fun q => q = (true, 0) by
      obtain ⟨q, h1, rfl⟩ := H; exact h1
    unfold m_graph_Same
    refine G_look [G, r.1] (fun _ => True) (fun i x hx hm hi => Gives.bindE (vv x ?_) (Gives.pos rfl (Gives.some ⟨rfl, trivial⟩))) (Gives.some trivial) fun _ _ => Gives.bindE hs (Gives.bindE hs' (Gives.some (by simp)))
    simp at hm
    rcases hm with rfl | rfl
    · exact vG
    · exact vH
  obtain ⟨a, a', ha, ha', rfl, hd1, hd2⟩ := readOf2 hM.rel vG.k1000 q.1 q.2.1 q.2.2.1 q.2.2.2.1 q.2.2.2.2.1 q.2.2.2.2.2.1 q.2.2.2.2.2.2 hT (rt := G.Root) (rt' := r.1.Root) hM.root g (by omega)
  have rd : ∀ X, VG g q X → m_graph_ReadOf g X [] q.1 q.2.1 q.2.2.1 q.2.2.2.1 q.2.2.2.2.1 q.2.2.2.2.2.1 q.2.2.2.2.2.2 = some a' → m_graph_Read g c X [] = some (a'.1, a'.2.1, a'.2.2) := fun X hX hk => by
    unfold m_graph_Read
    rw [vv X hX, Option.bind_some, if_pos rfl, keep0, Option.bind_some, if_pos rfl, hT0, Option.bind_some, hk]; rfl
  have hcmp : m_ref08_Compared g a'.1 a'.1 = some 0 := compared_self g 40 a'.1 hd1 hd2 (by omega)
  refine Gives.bindE hr (Gives.bindE same (Gives.bindE (cl G vG t1') (Gives.bindE (cl r.1 vH t2') (Gives.bindE (tx G vG hs) (Gives.bindE (tx r.1 vH hs') (Gives.bindE (rd G vG ha) (Gives.bindE (rd r.1 vH ha') (Gives.bindE (cl T vT t3) ?_))))))))
  refine Gives.bind (fun z => z = true) (Gives.pos rfl (Gives.pos rfl (Gives.pos rfl (Gives.pos rfl (Gives.pos rfl (Gives.bindE (alike g T) (Gives.pos rfl (Gives.bindE (alike g T) (Gives.pos rfl (Gives.pos rfl (Gives.pos rfl (Gives.bindE hcmp (Gives.pos rfl ?_))))))))))))) fun z hz => Gives.some hz
  dsimp only
  cases hb : a'.2.1 with
  | true => exact Gives.pos rfl (Gives.pos rfl (Gives.pos rfl (Gives.bindE hkn (Gives.some rfl))))
  | false => exact Gives.neg (by decide) (Gives.neg (by decide) (Gives.pos rfl (Gives.bindE hkn (Gives.some rfl))))
theorem t_steps (g : Nat) (c : DCore) (G : DGraph) (node by_ : Int) (seed : List Int) (hGc : GCore c) (hw : ∀ x ∈ seed, -9223372036854775808 ≤ x ∧ x < 9223372036854775808) (hg : SizeOf.sizeOf c + 10000 ≤ g) : m_law09_steps g c G node by_ seed = some true := by
  suffices H : Gives (m_law09_steps g c G node by_ seed) fun q => q = true by
    obtain ⟨q, h1, rfl⟩ := H; exact h1
  have hkn := known_at g (by omega)
  unfold m_law09_steps
  obtain ⟨e, he, hv⟩ := g_gValid g c G (by omega) hGc
  by_cases h0 : e = 0
  case neg => exact Gives.bind (fun z => z = true) (Gives.bindE he (Gives.neg h0 (Gives.some rfl))) fun z hz => Gives.pos hz (Gives.bindE hkn (Gives.some rfl))
  subst h0
  obtain ⟨q, hV0, hT0, hV, vG⟩ := hv rfl
  have hT : TOK q.2.2.1 q.2.2.2.1 := by rw [hV.funs]; exact hV.tok
  refine Gives.bind (fun z => z = false → G.Nodes.length < 3000 ∧ (0 ≤ node ∧ node < G.Nodes.length) ∧ 0 ≤ by_ ∧ by_ < G.Nodes.length) (Gives.bindE he (Gives.pos rfl (Gives.ite (fun _ => Gives.some fun h => by cases h) fun h1 => Gives.ite (fun _ => Gives.some fun h => by cases h) fun h2 => Gives.ite (fun _ => Gives.some fun h => by cases h) fun h3 => Gives.ite (fun _ => Gives.some fun h => by cases h) fun h4 => Gives.some fun h5 => ⟨by omega, ⟨by omega, by omega⟩, by omega, by have := of_decide_eq_false h5; omega⟩))) fun z hz => Gives.ite (fun _ => Gives.bindE hkn (Gives.some rfl)) fun hz' => ?_
  obtain ⟨h3, hn, hb⟩ := hz (by simpa using hz')
  obtain ⟨r, hr, hM⟩ := g_moved g q hT G vG seed hw
  have vH := hM.ok h3
  obtain ⟨n', hn', _⟩ := hM.at_ node hn.1 hn.2
  obtain ⟨b', hb', _⟩ := hM.at_ by_ hb.1 hb.2
  obtain ⟨u, u', hu, hu', hu1, hu2⟩ := unfold2 g c q hV0 hT0 hV vG vH hM.rel hM.root hn' hg
  obtain ⟨p, p', hp, hp', rfl⟩ := replace2 g c q hV0 hT0 hV vG vH hM.rel hM.root hn' hb' (by omega)
  refine Gives.bindE hr (Gives.bindE hu (Gives.bindE (a := (u'.1.Root, u'.1.Nodes, u'.2.1, u'.2.2)) (by rw [hn', Option.bind_some, hu']; rfl) ?_))
  dsimp only
  refine Gives.pos hu1.symm (Gives.jx (fun _ => True) ?_ fun _ _ => ?_)
  · refine Gives.ite (fun h => Gives.bind (fun z => z = false) ?_ fun z hz => Gives.neg (by rw [hz]; decide) (Gives.some trivial)) fun _ => Gives.some trivial
    rcases hu2 h with ⟨g1, g2, g3⟩ | ⟨g1, g2⟩
    · refine Gives.pos g1 (Gives.neg (by omega) (Gives.bindE (show m_law09_same g u.1 ⟨u'.1.Root, u'.1.Nodes⟩ = some true by rw [← g3]; exact alike g u'.1) (Gives.pos rfl (Gives.neg (by omega) (Gives.some rfl)))))
    · refine Gives.neg (by omega) (Gives.pos g1 (Gives.bindE g2 (Gives.some (by simp))))
  · refine Gives.bindE hp (Gives.bindE (a := (p'.1.Root, p'.1.Nodes, p'.2)) (by rw [hn', Option.bind_some, hb', Option.bind_some, hp']; rfl) ?_)
    dsimp only
    exact Gives.bind (fun z => z = true) (Gives.bindE (alike g p'.1) (Gives.pos rfl (Gives.pos rfl (Gives.bindE hkn (Gives.some rfl))))) fun z hz => Gives.some hz
theorem t_law (c : DCore) (G : DGraph) (node by_ : Int) (seed : List Int) (hGc : GCore c) (hw : ∀ x ∈ seed, -9223372036854775808 ≤ x ∧ x < 9223372036854775808) : ∃ g, m_law09_GraphMoves g c G node by_ seed = some true := by
  refine ⟨SizeOf.sizeOf c + 10000, ?_⟩
  unfold m_law09_GraphMoves
  rw [t_moves _ c G seed hGc hw (Nat.le_refl _), Option.bind_some, if_pos rfl, t_steps _ c G node by_ seed hGc hw (Nat.le_refl _)]; rfl
end Go.Proofs.YtjkcinpmbgcgpaaGreatDoor
