/- One call, and one exchange of nodes, in graphs that are like each other. -/
import Derived.Test.YtjkcinpmbgcgpaaGreatDoorGrJ
namespace Go.Proofs.YtjkcinpmbgcgpaaGreatDoor
open Go Go.Mir
set_option linter.unusedVariables false
theorem putTidyE {ns ms : List DNode} {R : Int → Int → Prop} (h : Rel ns ms R) {a a' b b' r r' : Int} (ha : R a a') (hb : R b b') (hr : R r r') (hn : ns.length ≤ 100000) (hm : ms.length ≤ 100000) (hk : K1000 ns) (hk' : K1000 ms) (g : Nat) (hg : ns.length + 1 ≤ g) :
    ∃ u u' T, m_graph_Put g ⟨r, ns⟩ a b = some u ∧ m_graph_Put g ⟨r', ms⟩ a' b' = some u' ∧ m_graph_Tidy g u [] = some T ∧ m_graph_Tidy g u' [] = some T := by
  obtain ⟨T, h1, h2, _⟩ := tidy2 (h.put ha hb) (root_put h ha hb hr) (by simpa using hn) (by simpa using hm) hk.put g (by simpa using hg)
  exact ⟨_, _, _, put_eq g r ns a b hn hk, put_eq g r' ms a' b' hm hk', h1, h2⟩
theorem fits2 (g : Nat) (cons : List (List UInt8 × Int)) {R : Int → Int → Prop} {x y : DNode} (hxy : NR R x y) (alts : List DAlt) {S : List UInt8 → Prop} {e e' : Env} (hE : ENV S R e e') (hP : ∀ a ∈ alts, PS a.P) (hU : ∀ a ∈ alts, a.P.Op = 3 → ((a.P.Kids.length : Nat) : Int) = (assoc cons a.P.Name).getD 0) (hx : x.Op = 1 → (assoc cons x.Name).getD 0 ≤ ((x.Kids.length : Nat) : Int)) :
    Gives2 (m_graph_fits g alts x e) (m_graph_fits g alts y e') fun r r' => r'.1 = r.1 ∧ r'.2.1 = r.2.1 ∧ (r.2.1 = true → ∃ a ∈ alts, r.1 = a.E ∧ ENV (fun s => S s ∨ s ∈ a.P.Kids.map (·.Name)) R r.2.2 r'.2.2) := by
  unfold m_graph_fits
  refine Gives2.jx (fun _ _ => True) (Gives2.cnt alts.length id (fun s s' => s' = s) rfl (Nat.zero_le _) (fun s s' hs hc => ?_) fun s s' hs hc => ?_) fun _ _ _ => Gives2.some ⟨rfl, rfl, fun h => by cases h⟩
  · subst hs
    have hlt : s' < alts.length := hc
    have ha := List.getElem?_eq_getElem hlt
    have hm := List.getElem_mem hlt
    rw [if_pos (by omega), if_pos (by omega)]
    refine Gives2.bindE ha ha ?_
    rw [hxy.op, hxy.n, hxy.name]
    refine Gives2.bind (fun z z' => z' = z ∧ (z = true → (alts[s']).P.Op = 4)) (Gives2.ite Iff.rfl (fun _ => Gives2.ite Iff.rfl (fun h4 => Gives2.some ⟨rfl, fun _ => h4⟩) fun _ => Gives2.some ⟨rfl, fun h => by cases h⟩) fun _ => Gives2.some ⟨rfl, fun h => by cases h⟩) fun z z' hz => ?_
    obtain ⟨rfl, hz4⟩ := hz
    refine Gives2.ite Iff.rfl (fun h => Gives2.some ⟨rfl, rfl, fun _ => ⟨_, hm, rfl, hE.mono (fun _ _ h => h) fun s hs => ?_⟩⟩) fun _ => ?_
    · rcases hs with h1 | h1
      · exact h1
      · have h0 : (alts[s']).P.Kids.length = 0 := by
          have := hz4 h
          rcases hP _ hm with h2 | h2
          · exact h2.2
          · omega
        rw [nil_of h0] at h1; cases h1
    · refine Gives2.bind (fun z z' => z' = z ∧ (z = true → x.Op = 1 ∧ (alts[s']).P.Op = 3 ∧ (alts[s']).P.Name = x.Name)) (Gives2.ite Iff.rfl (fun h1 => Gives2.ite Iff.rfl (fun h3 => Gives2.some ⟨rfl, fun h => ⟨h1, h3, of_decide_eq_true h⟩⟩) fun _ => Gives2.some ⟨rfl, fun h => by cases h⟩) fun _ => Gives2.some ⟨rfl, fun h => by cases h⟩) fun z z' hz => ?_
      obtain ⟨rfl, hz4⟩ := hz
      refine Gives2.ite Iff.rfl (fun h => ?_) fun _ => Gives2.some ⟨rfl, rfl⟩
      obtain ⟨h1, h3, h5⟩ := hz4 h
      have hlen : (alts[s']).P.Kids.length ≤ x.Kids.length := by
        have := hU _ hm h3
        rw [h5] at this
        have := hx h1
        omega
      refine Gives2.bind _ (puts2 (fun p : DPat => p.Name) (alts[s']).P.Kids hE hxy.kids hlen id fun z z' hz => hz) fun z z' hz => Gives2.some ⟨rfl, rfl, fun _ => ⟨_, hm, rfl, hz⟩⟩
  · subst hs
    have hlt : s' = alts.length := hc
    rw [if_neg (by omega), if_neg (by omega)]
    exact Gives2.some trivial
abbrev StL : Type := Int × List UInt8 × Int × List (List UInt8) × List DExpr × List DAlt × Int × Bool × List DAlt × Bool
abbrev StR : Type := Int × List UInt8 × Int × List (List UInt8) × List DExpr × List DAlt × Int × Bool × List DAlt × Bool × Env
/-- What a body comes to, in graphs that are like each other. -/
def BR (R : Int → Int → Prop) (L : Nat) : StL ⊕ StR → StL ⊕ StR → Prop
  | .inl r, .inl r' => 0 ≤ r.2.2.2.2.2.2.1 ∧ R r.2.2.2.2.2.2.1 r'.2.2.2.2.2.2.1 ∨ r.2.2.2.2.2.2.1 = -1 ∧ r'.2.2.2.2.2.2.1 = -1 ∧ r.2.2.2.2.2.2.2.2.2 = true ∧ r'.2.2.2.2.2.2.2.2.2 = true
  | .inr (o, n, m, ns, ks, as, w, rg, al, f, e), .inr (o', n', m', ns', ks', as', w', rg', al', f', e') => (o', n', m', ns', ks', as') = (o, n, m, ns, ks, as) ∧ w = -1 ∧ w' = -1 ∧ f = false ∧ f' = false ∧ ∃ S, ENV S R e e' ∧ SP ⟨o, n, m, ns, ks, as⟩ ∧ CL S ⟨o, n, m, ns, ks, as⟩ ∧ cntE ⟨o, n, m, ns, ks, as⟩ ≤ 300 ∧ SizeOf.sizeOf (DExpr.mk o n m ns ks as) ≤ L
  | _, _ => False
theorem body2 (g : Nat) (c : DCore) (q : Tbl) (hV : VC c q) {f : DFun} (hf : f ∈ c.Funs) {ns ms : List DNode} {R : Int → Int → Prop} (hR : Rel ns ms R) (rt rt' : Int) {ks ks' : List Int} (hk : KR R ks ks') (hl : ks.length = f.Vars.length) :
    Gives2 (m_graph_Body g f ⟨rt, ns⟩ ks q.1 q.2.1 q.2.2.1 q.2.2.2.1 q.2.2.2.2.1 q.2.2.2.2.2.1 q.2.2.2.2.2.2) (m_graph_Body g f ⟨rt', ms⟩ ks' q.1 q.2.1 q.2.2.1 q.2.2.2.1 q.2.2.2.2.1 q.2.2.2.2.2.1 q.2.2.2.2.2.2) (BR R (SizeOf.sizeOf c)) := by
  have hT : TOK q.2.2.1 q.2.2.2.1 := by rw [hV.funs]; exact hV.tok
  have hpos : ∀ i j, R i j → 0 ≤ i ∧ 0 ≤ j := fun i j hij => by
    obtain ⟨x, y, hx, hy, _⟩ := hR.dom i j hij
    exact ⟨(idx_lt hx).1, (idx_lt hy).1⟩
  unfold m_graph_Body
  refine Gives2.bind _ (puts2 id f.Vars (S := fun _ => False) (R := R) (e := []) (e' := []) ⟨List.nodup_nil, List.nodup_nil, fun s h => h.elim⟩ hk (by omega) id fun z z' hz => hz) fun z z' hz => ?_
  rw [List.map_id] at hz
  refine Gives2.jx (fun (s s' : Env × Int × List UInt8 × Int × List (List UInt8) × List DExpr × List DAlt) => s'.2 = s.2 ∧ ∃ S, ENV S R s.1 s'.1 ∧ SP ⟨s.2.1, s.2.2.1, s.2.2.2.1, s.2.2.2.2.1, s.2.2.2.2.2.1, s.2.2.2.2.2.2⟩ ∧ CL S ⟨s.2.1, s.2.2.1, s.2.2.2.1, s.2.2.2.2.1, s.2.2.2.2.2.1, s.2.2.2.2.2.2⟩ ∧ cntE ⟨s.2.1, s.2.2.1, s.2.2.2.1, s.2.2.2.2.1, s.2.2.2.2.2.1, s.2.2.2.2.2.2⟩ ≤ 300 ∧ SizeOf.sizeOf (DExpr.mk s.2.1 s.2.2.1 s.2.2.2.1 s.2.2.2.2.1 s.2.2.2.2.2.1 s.2.2.2.2.2.2) ≤ SizeOf.sizeOf c) (Gives2.loop (fun (s s' : Env × Int × List UInt8 × Int × List (List UInt8) × List DExpr × List DAlt) => s'.2 = s.2 ∧ ∃ S, ENV S R s.1 s'.1 ∧ SB ⟨s.2.1, s.2.2.1, s.2.2.2.1, s.2.2.2.2.1, s.2.2.2.2.2.1, s.2.2.2.2.2.2⟩ ∧ CL S ⟨s.2.1, s.2.2.1, s.2.2.2.1, s.2.2.2.2.1, s.2.2.2.2.2.1, s.2.2.2.2.2.2⟩ ∧ UF q.2.2.2.2.1 ⟨s.2.1, s.2.2.1, s.2.2.2.1, s.2.2.2.2.1, s.2.2.2.2.2.1, s.2.2.2.2.2.2⟩ ∧ cntE ⟨s.2.1, s.2.2.1, s.2.2.2.1, s.2.2.2.2.1, s.2.2.2.2.2.1, s.2.2.2.2.2.2⟩ ≤ 300 ∧ SizeOf.sizeOf (DExpr.mk s.2.1 s.2.2.1 s.2.2.2.1 s.2.2.2.2.1 s.2.2.2.2.2.1 s.2.2.2.2.2.2) ≤ SizeOf.sizeOf c) (fun s => cntE ⟨s.2.1, s.2.2.1, s.2.2.2.1, s.2.2.2.2.1, s.2.2.2.2.2.1, s.2.2.2.2.2.2⟩) (fun s s' hs => ?_) ?_) fun s s' hs => ?_
  · obtain ⟨en, o, n, m, nms, kds, als⟩ := s
    obtain ⟨en', s'⟩ := s'
    obtain ⟨e1, S, hE, hB, hC, hU, hcnt, hsz⟩ := hs
    dsimp only at e1 hE hB hC hU hcnt hsz ⊢
    subst e1
    dsimp only
    refine Gives2.bind (fun z z' => z' = z ∧ (z = true ↔ o = 9 ∨ o = 10)) (Gives2.ite Iff.rfl (fun h => Gives2.some ⟨rfl, fun _ => .inl h, fun _ => rfl⟩) fun h9 => Gives2.some ⟨rfl, fun h => .inr (of_decide_eq_true h), fun h => decide_eq_true (by omega)⟩) fun z z' hz => ?_
    obtain ⟨rfl, hzi⟩ := hz
    refine Gives2.ite Iff.rfl (fun h => ?_) fun h => Gives2.some ⟨rfl, S, hE, ?_, hC, hcnt, hsz⟩
    · have ho := hzi.1 h
      cases hB with
      | plain hp => cases hp with | mk h9 h10 _ _ => exact absurd ho (by intro h'; rcases h' with h' | h'; exact h9 h'; exact h10 h')
      | case _ hn hkv hps hsb =>
      cases hC with
      | mk c1 c2 c3 =>
      cases hU with
      | mk u1 u2 =>
      dsimp only at hkv hps hsb c2 c3 u1 u2
      have h1k : kds.length = 1 := hn.one (.inr ho)
      have hk0 := List.getElem?_eq_getElem (show 0 < kds.length by omega)
      have hkm := List.getElem_mem (show 0 < kds.length by omega)
      have hS : S (kds[0]).Name := by
        have h2 := c2 0 _ hk0
        cases h2 with
        | mk d1 _ _ =>
        rcases d1 (hkv _ hkm).1 with h3 | h3 | h3
        · exact h3
        · have h4 : o = 7 := h3.1; omega
        · have h4 : o = 6 := h3.1; omega
      obtain ⟨i, j, ei, ej, hij⟩ := hE.at_ _ hS
      obtain ⟨x, y, hx, hy, hxy⟩ := hR.dom i j hij
      obtain ⟨fa, hfa, _⟩ := t_FunArity q.1 q.2.1 q.2.2.1 q.2.2.2.1 q.2.2.2.2.1 q.2.2.2.2.2.1 q.2.2.2.2.2.2 hT g x.Name
      refine Gives2.bindE hk0 hk0 (Gives2.bindE (a := i) (b := j) (by unfold getD; rw [ei]; rfl) (by unfold getD; rw [ej]; rfl) (Gives2.bindE hx hy (Gives2.bindE hfa (by rw [hxy.name]; exact hfa) ?_)))
      have hkl := hxy.kids.len
      rw [hxy.op, hxy.name, ← hkl]
      refine Gives2.ite Iff.rfl (fun _ => Gives2.some (.inr ⟨rfl, rfl, rfl, rfl⟩)) fun _ => ?_
      refine Gives2.bind (fun z z' => z' = z) ((Gives2.same (by repeat' first | exact Gives.some trivial | refine Gives.ite (fun _ => ?_) (fun _ => ?_)) rfl).mono fun _ _ h => h.symm) fun z z' hz => ?_
      subst hz
      refine Gives2.ite Iff.rfl (fun _ => Gives2.bind (fun z z' => z' = z) ((Gives2.same (by repeat' first | exact Gives.some trivial | refine Gives.ite (fun _ => ?_) (fun _ => ?_)) rfl).mono fun _ _ h => h.symm) fun z z' hz => Gives2.some (.inl ⟨(hpos i j hij).1, hij⟩)) fun _ => ?_
      refine Gives2.bind (fun z z' => z' = z ∧ (z = false → x.Op = 1 → (assoc q.2.2.2.2.1 x.Name).getD 0 ≤ ((x.Kids.length : Nat) : Int))) (Gives2.ite Iff.rfl (fun _ => Gives2.bindE rfl rfl (Gives2.some ⟨rfl, fun h _ => by have := of_decide_eq_false h; omega⟩)) fun h1 => Gives2.some ⟨rfl, fun _ h => absurd h h1⟩) fun z z' hz => ?_
      obtain ⟨rfl, hz2⟩ := hz
      refine Gives2.ite Iff.rfl (fun _ => Gives2.some (.inr ⟨rfl, rfl, rfl, rfl⟩)) fun hzf => ?_
      refine Gives2.bind _ (fits2 g q.2.2.2.2.1 hxy als hE hps u1 (hz2 (by simpa using hzf))) fun r r' hr => ?_
      obtain ⟨r1, r2, r3⟩ := hr
      obtain ⟨re, rok, ren⟩ := r
      obtain ⟨re', rok', ren'⟩ := r'
      dsimp only at r1 r2 r3
      subst r1; subst r2
      refine Gives2.ite Iff.rfl (fun hok => ?_) fun _ => Gives2.some (.inr ⟨rfl, rfl, rfl, rfl⟩)
      obtain ⟨a, ham, hae, hE2⟩ := r3 hok
      have hle : cntE re' < cntE ⟨o, n, m, nms, kds, als⟩ := by rw [hae]; exact cnt_alt (e := ⟨o, n, m, nms, kds, als⟩) ham
      have hsl : SizeOf.sizeOf re' < SizeOf.sizeOf (DExpr.mk o n m nms kds als) := by rw [hae]; exact (size_alt (e := ⟨o, n, m, nms, kds, als⟩) ham).1
      have g1 : SB re' := by rw [hae]; exact hsb a ham
      have g2 := c3 a ham
      have g3 : UF q.2.2.2.2.1 re' := by rw [hae]; exact u2 a ham
      rw [← hae] at g2
      have g4 : cntE re' ≤ 300 := by omega
      have g5 : SizeOf.sizeOf re' ≤ SizeOf.sizeOf c := by omega
      cases re' with
      | mk p1 p2 p3 p4 p5 p6 => exact Gives2.some ⟨⟨rfl, _, hE2, g1, g2, g3, g4, g5⟩, hle⟩
    · cases hB with
      | plain hp => exact hp
      | case ho _ _ _ _ => exact absurd (hzi.2 ho) h
  · have g1 := hV.sb f hf
    have g2 := hV.cl f hf
    have g3 := hV.uf f hf
    have g4 := hV.cnt f hf
    have g5 := Nat.le_of_lt (size_fun hf)
    cases hfe : f.E with
    | mk p1 p2 p3 p4 p5 p6 =>
      rw [hfe] at g1 g2 g3 g4 g5
      exact ⟨rfl, _, hz.mono (fun _ _ h => h) (fun s (h : s ∈ f.Vars) => .inr h), g1, g2, g3, g4, g5⟩
  · obtain ⟨e1, S, hE, hP, hC, hcnt, hsz⟩ := hs
    obtain ⟨en, o, n, m, nms, kds, als⟩ := s
    obtain ⟨en', s'⟩ := s'
    dsimp only at e1 hE hP hC hcnt hsz ⊢
    subst e1
    exact Gives2.some ⟨rfl, rfl, rfl, rfl, rfl, S, hE, hP, hC, hcnt, hsz⟩
theorem GR.start {ns ms : List DNode} {R : Int → Int → Prop} (h : Rel ns ms R) (hk : K1000 ns) (hk' : K1000 ms) : GR R ns.length ms.length R ns ms 0 := ⟨fun _ _ h => h, h, hk, hk', Nat.le_refl _, Nat.le_refl _⟩
/-- A call that fails. -/
theorem done2a (g : Nat) (q : Tbl) {G H : DGraph} (vG : VG g q G) (vH : VG g q H) {R : Int → Int → Prop} (hR : Rel G.Nodes H.Nodes R) (hr : R G.Root H.Root) {i j : Int} (hij : R i j) (hg : 10000 ≤ g) (r r' : StL) (hf : r.2.2.2.2.2.2.2.2.2 = true) (hf' : r'.2.2.2.2.2.2.2.2.2 = true) :
    Gives2 (m_graph_Done g G i r.1 r.2.1 r.2.2.1 r.2.2.2.1 r.2.2.2.2.1 r.2.2.2.2.2.1 r.2.2.2.2.2.2.1 r.2.2.2.2.2.2.2.1 r.2.2.2.2.2.2.2.2.1 r.2.2.2.2.2.2.2.2.2) (m_graph_Done g H j r'.1 r'.2.1 r'.2.2.1 r'.2.2.2.1 r'.2.2.2.2.1 r'.2.2.2.2.2.1 r'.2.2.2.2.2.2.1 r'.2.2.2.2.2.2.2.1 r'.2.2.2.2.2.2.2.2.1 r'.2.2.2.2.2.2.2.2.2) fun s s' => s' = s := by
  have l1 := vG.len
  have l2 := vH.len
  obtain ⟨x, y, hx, hy, _⟩ := hR.dom i j hij
  have h1 := idx_lt hx
  have h2 := idx_lt hy
  unfold m_graph_Done
  rw [hf, hf']
  refine Gives2.bindE (fresh_eq g g q G vG).2 (fresh_eq g g q H vH).2 (Gives2.ite Iff.rfl (fun _ => ?_) fun h => absurd rfl h)
  obtain ⟨R2, g1, g2, g3⟩ := (GR.start hR vG.k1000 vH.k1000).add 7 [] 0
  have q1 := g1.len
  have q2 := g1.len'
  refine Gives2.bindE (push_small 5000 (by simp only [List.length_cons, List.length_nil]; omega) (by decide)) (push_small 5000 (by simp only [List.length_cons, List.length_nil]; omega) (by decide)) ?_
  rw [if_neg (by dsimp only; omega), if_neg (by dsimp only; omega)]
  refine Gives2.bindE rfl rfl ?_
  obtain ⟨u, u', T, p1, p2, p3, p4⟩ := putTidyE g1.rel (g2 _ _ hij) g3 (g2 _ _ hr) (by omega) (by omega) g1.k g1.k' g (by omega)
  exact Gives2.bindE p1 p2 (Gives2.bindE p3 p4 (Gives2.some rfl))
/-- A call that goes on. -/
theorem done2b (g : Nat) (q : Tbl) {G H : DGraph} (vG : VG g q G) (vH : VG g q H) {R : Int → Int → Prop} (hR : Rel G.Nodes H.Nodes R) (hr : R G.Root H.Root) {i j : Int} (hij : R i j) {L : Nat} (hg : L + 10000 ≤ g) (r r' : StR) (hb : BR R L (.inr r) (.inr r')) :
    Gives2 (m_graph_Done_2 g G i r.1 r.2.1 r.2.2.1 r.2.2.2.1 r.2.2.2.2.1 r.2.2.2.2.2.1 r.2.2.2.2.2.2.1 r.2.2.2.2.2.2.2.1 r.2.2.2.2.2.2.2.2.1 r.2.2.2.2.2.2.2.2.2.1 r.2.2.2.2.2.2.2.2.2.2) (m_graph_Done_2 g H j r'.1 r'.2.1 r'.2.2.1 r'.2.2.2.1 r'.2.2.2.2.1 r'.2.2.2.2.2.1 r'.2.2.2.2.2.2.1 r'.2.2.2.2.2.2.2.1 r'.2.2.2.2.2.2.2.2.1 r'.2.2.2.2.2.2.2.2.2.1 r'.2.2.2.2.2.2.2.2.2.2) fun s s' => s' = s := by
  have l1 := vG.len
  have l2 := vH.len
  obtain ⟨o, n, m, nms, ks, as, w, rg, al, f, e⟩ := r
  obtain ⟨o', n', m', nms', ks', as', w', rg', al', f', e'⟩ := r'
  obtain ⟨e1, rfl, rfl, rfl, rfl, S, hE, hP, hC, hcnt, hsz⟩ := hb
  cases e1
  unfold m_graph_Done_2
  refine Gives2.bindE (fresh_eq g g q G vG).2 (fresh_eq g g q H vH).2 ?_
  refine Gives2.bind (fun (z z' : List DNode × Int) => ∃ R2, GR R G.Nodes.length H.Nodes.length R2 z.1 z'.1 3900 ∧ R2 z.2 z'.2) (Gives2.ite Iff.rfl (fun h => nomatch h) fun _ => Gives2.bind _ (grow2 G.Root H.Root R G.Nodes.length H.Nodes.length (by omega) (by omega) g ⟨o, n, m, nms, ks, as⟩ S R G.Nodes H.Nodes e e' 0 (by omega) hP hC (GR.start hR vG.k1000 vH.k1000) hE (by omega)) fun z z' hz => ?_) fun z z' hz => ?_
  · obtain ⟨R2, g1, g2, g3⟩ := hz
    exact Gives2.some ⟨R2, g1.le (by omega), g3⟩
  · obtain ⟨R2, g1, g3⟩ := hz
    have hij2 := g1.sub _ _ hij
    have q1 := g1.len
    have q2 := g1.len'
    refine Gives2.bind (fun (z z' : List DNode × Int) => ∃ R3, GR R G.Nodes.length H.Nodes.length R3 z.1 z'.1 3901 ∧ R3 z.2 z'.2) (Gives2.ite ⟨fun h => ?_, fun h => ?_⟩ (fun _ => ?_) fun _ => Gives2.some ⟨R2, g1.le (by omega), g3⟩) fun z z' hz => ?_
    · rw [h] at g3; exact g1.rel.inj1 _ _ _ g3 hij2
    · rw [h] at g3; exact g1.rel.inj2 _ _ _ g3 hij2
    · obtain ⟨R3, k1, k2, k3⟩ := g1.add 7 [] 0
      exact Gives2.bindE (push_small 20000 (by simp only [List.length_cons, List.length_nil]; omega) (by decide)) (push_small 20000 (by simp only [List.length_cons, List.length_nil]; omega) (by decide)) (Gives2.some ⟨R3, k1, k3⟩)
    · obtain ⟨R3, k1, k3⟩ := hz
      have q1 := k1.len
      have q2 := k1.len'
      obtain ⟨u, u', T, p1, p2, p3, p4⟩ := putTidyE k1.rel (k1.sub _ _ hij) k3 (k1.sub _ _ hr) (by omega) (by omega) k1.k k1.k' g (by omega)
      exact Gives2.bindE p1 p2 (Gives2.bindE p3 p4 (Gives2.some rfl))
/-- One call. -/
theorem unfold2 (g : Nat) (c : DCore) (q : Tbl) (hV0 : m_core_Validate g c = some 0) (hT0 : m_core_NewTable g c = some q) (hV : VC c q) {G H : DGraph} (vG : VG g q G) (vH : VG g q H) {R : Int → Int → Prop} (hR : Rel G.Nodes H.Nodes R) (hr : R G.Root H.Root) {i j : Int} (hij : R i j) (hg : SizeOf.sizeOf c + 10000 ≤ g) :
    Gives2 (m_graph_Unfold g c G i) (m_graph_Unfold g c H j) fun r r' => r'.2.2 = r.2.2 ∧ (r.2.2 = 0 → r.2.1 < 0 ∧ r'.2.1 < 0 ∧ r'.1 = r.1 ∨ 0 ≤ r.2.1 ∧ R r.2.1 r'.2.1) := by
  obtain ⟨x, y, hx, hy, hxy⟩ := hR.dom i j hij
  have h1 := idx_lt hx
  have h2 := idx_lt hy
  unfold m_graph_Unfold
  refine Gives2.bindE (gValid_of hV0 hT0 hV vG) (gValid_of hV0 hT0 hV vH) (Gives2.ite Iff.rfl (fun _ => ?_) fun h => absurd rfl h)
  refine Gives2.bindE hT0 hT0 (Gives2.bind (fun z z' => z = false ∧ z' = false) ?_ fun z z' hz => ?_)
  · rw [if_neg (by omega), if_neg (by omega)]
    exact Gives2.some ⟨decide_eq_false (by omega), decide_eq_false (by omega)⟩
  obtain ⟨rfl, rfl⟩ := hz
  refine Gives2.ite Iff.rfl (fun h => nomatch h) fun _ => Gives2.bindE hx hy (Gives2.bindE rfl rfl ?_)
  have hkl := hxy.kids.len
  rw [hxy.op, hxy.name, ← hkl]
  refine Gives2.bind (fun z z' => z' = z ∧ (z = false → ∃ f, idx c.Funs ((assoc q.2.2.2.1 x.Name).getD 0) = some f ∧ x.Kids.length = f.Vars.length)) (Gives2.ite Iff.rfl (fun _ => Gives2.ite Iff.rfl (fun hs => ?_) fun _ => Gives2.some ⟨rfl, fun h => by cases h⟩) fun _ => Gives2.some ⟨rfl, fun h => by cases h⟩) fun z z' hz => ?_
  · obtain ⟨v, hv⟩ := Option.isSome_iff_exists.1 hs
    obtain ⟨f, hf, _⟩ := idx_in (hV.tok _ v hv)
    have hf2 : idx c.Funs ((assoc q.2.2.2.1 x.Name).getD 0) = some f := by rw [hv]; exact hf
    exact Gives2.bindE hf2 hf2 (Gives2.some ⟨rfl, fun h => ⟨f, hf2, by simp at h; omega⟩⟩)
  · obtain ⟨rfl, hz2⟩ := hz
    refine Gives2.ite Iff.rfl (fun _ => Gives2.some ⟨rfl, fun h => by cases h⟩) fun hzf => ?_
    obtain ⟨f, hf, hfl⟩ := hz2 (by simpa using hzf)
    refine Gives2.bindE hf hf (Gives2.bind _ (body2 g c q hV (idx_mem hf) hR G.Root H.Root hxy.kids hfl) fun r r' hb => ?_)
    rcases r with r | r <;> rcases r' with r' | r'
    · show Gives2 (ite _ _ _) (ite _ _ _) _
      rcases hb with ⟨b1, b2⟩ | ⟨b1, b2, b3, b4⟩
      · have h0 := (idx_lt (hR.dom _ _ b2).choose_spec.choose_spec.2.1).1
        rw [if_pos b1, if_pos h0]
        exact Gives2.bindE (fresh_eq g g q G vG).1 (fresh_eq g g q H vH).1 (Gives2.some ⟨rfl, fun _ => .inr ⟨b1, b2⟩⟩)
      · rw [if_neg (by omega), if_neg (by omega)]
        refine Gives2.bind _ (done2a g q vG vH hR hr hij (by omega) r r' b3 b4) fun s s' hs => ?_
        subst hs
        exact Gives2.ite Iff.rfl (fun _ => Gives2.some ⟨rfl, fun h => by cases h⟩) fun _ => Gives2.some ⟨rfl, fun _ => .inl ⟨show (-1 : Int) < 0 by decide, show (-1 : Int) < 0 by decide, rfl⟩⟩
    · exact hb.elim
    · exact hb.elim
    · show Gives2 (ite _ _ _) (ite _ _ _) _
      have hb0 := hb
      obtain ⟨o, n, m, nms, ks, as, w, rg, al, f, e⟩ := r
      obtain ⟨o', n', m', nms', ks', as', w', rg', al', f', e'⟩ := r'
      obtain ⟨e1, rfl, rfl, rfl, rfl, _⟩ := hb
      rw [if_neg (show ¬ (-1 : Int) ≥ 0 by decide), if_neg (show ¬ (-1 : Int) ≥ 0 by decide)]
      refine Gives2.bind _ (done2b g q vG vH hR hr hij hg _ _ hb0) fun s s' hs => ?_
      subst hs
      exact Gives2.ite Iff.rfl (fun _ => Gives2.some ⟨rfl, fun h => by cases h⟩) fun _ => Gives2.some ⟨rfl, fun _ => .inl ⟨show (-1 : Int) < 0 by decide, show (-1 : Int) < 0 by decide, rfl⟩⟩
/-- One exchange. -/
theorem replace2 (g : Nat) (c : DCore) (q : Tbl) (hV0 : m_core_Validate g c = some 0) (hT0 : m_core_NewTable g c = some q) (hV : VC c q) {G H : DGraph} (vG : VG g q G) (vH : VG g q H) {R : Int → Int → Prop} (hR : Rel G.Nodes H.Nodes R) (hr : R G.Root H.Root) {i j a b : Int} (hij : R i j) (hab : R a b) (hg : 10000 ≤ g) :
    Gives2 (m_graph_Replace g c G i a) (m_graph_Replace g c H j b) fun r r' => r' = r := by
  have l1 := vG.len
  have l2 := vH.len
  obtain ⟨x, y, hx, hy, _⟩ := hR.dom i j hij
  obtain ⟨u, v, hu, hv, _⟩ := hR.dom a b hab
  have h1 := idx_lt hx
  have h2 := idx_lt hy
  have h3 := idx_lt hu
  have h4 := idx_lt hv
  unfold m_graph_Replace
  refine Gives2.bindE (gValid_of hV0 hT0 hV vG) (gValid_of hV0 hT0 hV vH) (Gives2.ite Iff.rfl (fun _ => ?_) fun h => absurd rfl h)
  rw [if_neg (by omega), if_neg (by omega), if_neg (by omega), if_neg (by omega), if_neg (by omega), if_neg (by omega), if_neg (by omega), if_neg (by omega)]
  have he : (i = a) ↔ (j = b) := ⟨fun h => by subst h; exact hR.inj1 _ _ _ hij hab, fun h => by subst h; exact hR.inj2 _ _ _ hij hab⟩
  refine Gives2.bindE rfl rfl (Gives2.ite (by rw [decide_eq_true_iff, decide_eq_true_iff]; exact he) (fun _ => Gives2.some rfl) fun _ => ?_)
  obtain ⟨s, s', T, p1, p2, p3, p4⟩ := putTidyE hR hij hab hr (by omega) (by omega) vG.k1000 vH.k1000 g (by omega)
  exact Gives2.bindE p1 p2 (Gives2.bindE p3 p4 (Gives2.some rfl))
end Go.Proofs.YtjkcinpmbgcgpaaGreatDoor
