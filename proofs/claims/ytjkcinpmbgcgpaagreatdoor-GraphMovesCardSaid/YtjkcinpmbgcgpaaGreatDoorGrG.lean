/- A graph numbered anew is like the graph. -/
import Derived.Test.YtjkcinpmbgcgpaaGreatDoorGrF
namespace Go.Proofs.YtjkcinpmbgcgpaaGreatDoor
open Go Go.Mir
set_option linter.unusedVariables false
/-- All numbers below n, each once. -/
structure PM (n : Nat) (l : List Int) : Prop where
  len : l.length = n
  rng : ∀ (k : Nat) v, l[k]? = some v → 0 ≤ v ∧ v < n
  inj : ∀ (i j : Nat) v, l[i]? = some v → l[j]? = some v → i = j
  sur : ∀ p : Nat, p < n → ∃ i : Nat, l[i]? = some (p : Int)
theorem PM.swap {n : Nat} {l : List Int} (h : PM n l) {i k : Nat} {a b : Int} (hi : l[i]? = some b) (hk : l[k]? = some a) : PM n ((l.set i a).set k b) := by
  have hin := (List.getElem?_eq_some_iff.1 hi).1
  have hkn := (List.getElem?_eq_some_iff.1 hk).1
  have hget : ∀ p : Nat, ((l.set i a).set k b)[p]? = l[if p = k then i else if p = i then k else p]? := fun p => by
    rw [List.getElem?_set, List.getElem?_set, List.length_set]
    by_cases e : k = p
    · subst e; rw [if_pos rfl, if_pos hkn, if_pos rfl, hi]
    · have e' : ¬ p = k := fun h => e h.symm
      rw [if_neg e, if_neg e']
      by_cases e2 : i = p
      · subst e2; rw [if_pos rfl, if_pos hin, if_pos rfl, hk]
      · have e2' : ¬ p = i := fun h => e2 h.symm
        rw [if_neg e2, if_neg e2']
  refine ⟨by simp [h.len], fun p v hp => ?_, fun p q v hp hq => ?_, fun p hp => ?_⟩
  · rw [hget] at hp; exact h.rng _ v hp
  · rw [hget] at hp hq
    have := h.inj _ _ v hp hq
    split at this <;> split at this <;> (try split at this) <;> (try split at this) <;> omega
  · obtain ⟨m, hm⟩ := h.sur p hp
    refine ⟨if m = k then i else if m = i then k else m, ?_⟩
    rw [hget, ← hm]
    congr 1
    split <;> (try split) <;> (try split) <;> (try split) <;> omega
theorem numbers (n : Nat) (h : n ≤ 100000) : ∃ x5, Mir.made 8 ((n : Nat) : Int) (0 : Int) = some x5 ∧ Gives (Mir.Loop (S := List Int × Nat) (Q := List Int) (x5, (0 : Nat)) fun s29 =>
      if ((s29.2 : Nat) : Int) < ((n : Nat) : Int) then
        ((s29.1)[s29.2]?).bind fun x40 =>
        (Mir.upd s29.1 (s29.2 : Int) ((s29.2 : Nat) : Int)).bind fun x50 =>
        some (.inl (x50, s29.2 + 1))
      else
        some (.inr s29.1)) (PM n) := by
  refine ⟨_, made_ok ⟨by omega, by omega⟩, ?_⟩
  refine G_cnt n (fun s : List Int × Nat => s.2) (fun s : List Int × Nat => s.1.length = n ∧ ∀ k : Nat, k < s.2 → s.1[k]? = some (k : Int)) ⟨List.length_replicate, fun k hk => by cases hk⟩ (Nat.zero_le _) (fun s hs hc => ?_) fun s hs hc => ?_
  · have hlt : s.2 < n := hc
    rw [if_pos (by omega)]
    refine G_get (by rw [hs.1]; exact hlt) fun x hx _ => Gives.bindE (upd_ok (by rw [hs.1]; exact hlt)) (Gives.some ⟨⟨by rw [List.length_set]; exact hs.1, fun k hk => ?_⟩, rfl⟩)
    have hk2 : k < s.2 + 1 := hk
    show (s.1.set s.2 (s.2 : Int))[k]? = _
    rw [List.getElem?_set]
    by_cases e : s.2 = k
    · subst e; rw [if_pos rfl, if_pos (by rw [hs.1]; exact hlt)]
    · rw [if_neg e]; exact hs.2 k (by omega)
  · have hlt : s.2 = n := hc
    rw [if_neg (by omega)]
    refine Gives.some ⟨hs.1, fun k v hk => ?_, fun i j v hi hj => ?_, fun p hp => ⟨p, hs.2 p (by omega)⟩⟩
    · have h1 := (List.getElem?_eq_some_iff.1 hk).1
      rw [hs.2 k (by omega)] at hk; cases hk; omega
    · have h1 := (List.getElem?_eq_some_iff.1 hi).1
      have h2 := (List.getElem?_eq_some_iff.1 hj).1
      rw [hs.2 i (by omega)] at hi; rw [hs.2 j (by omega)] at hj
      cases hi; have := Option.some.inj hj; omega
theorem rem_nat {a : Int} {n : Nat} (ha : 0 ≤ a) (hn : 0 < n) : ∃ k : Nat, Mir.rem a ((n : Nat) : Int) = some (k : Int) ∧ k < n := by
  unfold Mir.rem
  rw [if_neg (by omega)]
  obtain ⟨m, rfl⟩ : ∃ m : Nat, a = (m : Int) := ⟨a.toNat, by omega⟩
  exact ⟨m % n, by rw [← Int.ofNat_tmod], Nat.mod_lt _ hn⟩
theorem swaps (n : Nat) (h0 : 0 < n) (h : n ≤ 100000) (seed : List Int) (hw : ∀ x ∈ seed, -9223372036854775808 ≤ x ∧ x < 9223372036854775808) (z : List Int) (hz : PM n z) : Gives (Mir.Loop (S := List Int × Int) (Q := List Int) (z, (0 : Int)) fun s77 =>
      (
        if s77.2 < ((n : Nat) : Int) then
          some (decide (((seed.length : Nat) : Int) > 0))
        else
          some false
      : Option Bool).bind fun (z87 : Bool) =>
      if z87 = true then
        (Mir.rem s77.2 ((seed.length : Nat) : Int)).bind fun x91 =>
        (Mir.idx seed x91).bind fun x93 =>
        (
          if x93 < 0 then
            some (Mir.w64 (-(Mir.w64 (x93 + 1))))
          else
            some x93
        : Option Int).bind fun (z100 : Int) =>
        (Mir.rem z100 ((n : Nat) : Int)).bind fun x104 =>
        (Mir.idx s77.1 x104).bind fun x106 =>
        (Mir.idx s77.1 s77.2).bind fun x114 =>
        (Mir.idx s77.1 s77.2).bind fun x121 =>
        (Mir.upd s77.1 s77.2 x106).bind fun x131 =>
        (Mir.idx x131 x104).bind fun x133 =>
        (Mir.upd x131 x104 x114).bind fun x143 =>
        some (.inl (x143, Mir.w64 (s77.2 + 1)))
      else
        some (.inr s77.1)) (PM n) := by
  refine Gives.loop (fun s : List Int × Int => PM n s.1 ∧ 0 ≤ s.2 ∧ s.2 ≤ n) (fun s => n - s.2.toNat) ⟨hz, Int.le_refl _, by show (0 : Int) ≤ n; omega⟩ fun s hs => ?_
  obtain ⟨l, i⟩ := s
  obtain ⟨hp, h1, h2⟩ := hs
  dsimp only at hp h1 h2 ⊢
  refine Gives.bind (fun z => z = true → i < n ∧ 0 < seed.length) (Gives.ite (fun h => Gives.some fun h' => ⟨h, by have := of_decide_eq_true h'; omega⟩) fun _ => Gives.some fun h => by cases h) fun b hb => Gives.ite (fun h => ?_) fun _ => Gives.some hp
  obtain ⟨h3, h4⟩ := hb h
  obtain ⟨j, rfl⟩ : ∃ j : Nat, i = (j : Int) := ⟨i.toNat, by omega⟩
  obtain ⟨r, hr, hrl⟩ := rem_nat (a := (j : Int)) (by omega) h4
  refine Gives.bindE hr (Gives.bindE (idx_ok hrl) ?_)
  have hwf := hw _ (List.getElem_mem hrl)
  refine Gives.bind (fun v => 0 ≤ v) (Gives.ite (fun hneg => Gives.some ?_) fun _ => Gives.some (by omega)) fun v hv => ?_
  · rw [w64_lit (i := seed[r] + 1) (by omega), w64_lit (by omega)]; omega
  obtain ⟨k, hk, hkn⟩ := rem_nat (n := n) hv h0
  have hl := hp.len
  have hka : k < l.length := by omega
  have hja : j < l.length := by omega
  refine Gives.bindE hk (Gives.bindE (idx_ok hka) (Gives.bindE (idx_ok hja) (Gives.bindE (idx_ok hja) (Gives.bindE (upd_ok hja) ?_))))
  refine Gives.bindE (idx_ok (by rw [List.length_set]; exact hka)) (Gives.bindE (upd_ok (by rw [List.length_set]; exact hka)) (Gives.some ⟨⟨hp.swap (List.getElem?_eq_getElem hja) (List.getElem?_eq_getElem hka), ?_, ?_⟩, ?_⟩))
  · show 0 ≤ w64 ((j : Int) + 1); rw [w64_lit (by omega)]; omega
  · show w64 ((j : Int) + 1) ≤ n; rw [w64_lit (by omega)]; omega
  · show n - (w64 ((j : Int) + 1)).toNat < n - ((j : Nat) : Int).toNat; rw [w64_lit (by omega)]; omega
theorem garbage (g : Nat) (q : Tbl) (hT : TOK q.2.2.1 q.2.2.2.1) (a n : Int) (m : Int) (h : 0 ≤ a ∧ a < m) (h' : 0 ≤ n ∧ n < m) : VN g q m ⟨4, [], 0, [a, n]⟩ := by
  refine ⟨?_, ?_, ?_⟩
  · rw [gNode_in g _ m (fun k hk => by simp at hk; rcases hk with rfl | rfl <;> assumption)]
    unfold m_graph_isNode
    have e := kidsIn (ks := List.replicate 2 (0 : Int)) (n := 1) fun k hk => by have := List.eq_of_mem_replicate hk; omega
    show Mir.jx (Mir.Loop (0 : Nat) (kidsBody (List.replicate 2 (0 : Int)) 1)) _ = _
    rw [e]; rfl
  · unfold chk2
    obtain ⟨r, hr, _⟩ := t_FunArity q.1 q.2.1 q.2.2.1 q.2.2.2.1 q.2.2.2.2.1 q.2.2.2.2.2.1 q.2.2.2.2.2.2 hT g []
    dsimp only
    rw [hr]; rfl
  · unfold chk3
    obtain ⟨r, hr, _⟩ := t_FunArity q.1 q.2.1 q.2.2.1 q.2.2.2.1 q.2.2.2.2.1 q.2.2.2.2.2.1 q.2.2.2.2.2.2 hT g []
    dsimp only
    rw [hr]; rfl
/-- The graph numbered anew. -/
structure MV (g : Nat) (q : Tbl) (G : DGraph) (r : DGraph × List Int) : Prop where
  rel : Rel G.Nodes r.1.Nodes fun i j => idx r.2 i = some j
  root : idx r.2 G.Root = some r.1.Root
  len : r.1.Nodes.length = G.Nodes.length + 1
  ok : G.Nodes.length < 3000 → VG g q r.1
  at_ : ∀ i : Int, 0 ≤ i → i < G.Nodes.length → ∃ j, idx r.2 i = some j ∧ 0 ≤ j ∧ j < G.Nodes.length
theorem g_moved (g : Nat) (q : Tbl) (hT : TOK q.2.2.1 q.2.2.2.1) (G : DGraph) (hG : VG g q G) (seed : List Int) (hw : ∀ x ∈ seed, -9223372036854775808 ≤ x ∧ x < 9223372036854775808) : Gives (m_law09_moved g G seed) (MV g q G) := by
  unfold m_law09_moved
  have hlen := hG.len
  have hpos := hG.pos
  obtain ⟨x5, h5, h5'⟩ := numbers G.Nodes.length (by omega)
  refine Gives.bindE h5 (Gives.bind _ h5' fun z13 hz13 => Gives.bind _ (swaps G.Nodes.length hpos (by omega) seed hw z13 hz13) fun at_ hp => ?_)
  have hidx : ∀ i : Int, 0 ≤ i → i < G.Nodes.length → ∃ j, idx at_ i = some j ∧ 0 ≤ j ∧ j < G.Nodes.length := fun i h1 h2 => by
    obtain ⟨j, hj, hj2, _⟩ := idx_in (xs := at_) (i := i) (by rw [hp.len]; exact ⟨h1, h2⟩)
    exact ⟨j, hj, hp.rng _ j hj2⟩
  obtain ⟨rt, hrt, hrt2⟩ := hidx G.Root hG.root.1 hG.root.2
  refine Gives.bindE (a := (rt, List.replicate G.Nodes.length (DNode.mk 0 [] 0 []))) (by rw [hrt, Option.bind_some, made_ok ⟨by omega, by omega⟩]; rfl) ?_
  dsimp only
  refine Gives.bind (fun out : List DNode => out.length = G.Nodes.length ∧ ∀ (i : Nat) x, G.Nodes[i]? = some x → ∃ j y, idx at_ (i : Int) = some j ∧ idx out j = some y ∧ y.Op = x.Op ∧ y.Name = x.Name ∧ y.N = x.N ∧ y.Kids.length = x.Kids.length ∧ ∀ (k : Nat) a, x.Kids[k]? = some a → ∃ b, idx at_ a = some b ∧ y.Kids[k]? = some b)
    (G_cnt G.Nodes.length (fun s : List DNode × Nat => s.2) (fun s : List DNode × Nat => s.1.length = G.Nodes.length ∧ ∀ (i : Nat) x, i < s.2 → G.Nodes[i]? = some x → ∃ j y, idx at_ (i : Int) = some j ∧ idx s.1 j = some y ∧ y.Op = x.Op ∧ y.Name = x.Name ∧ y.N = x.N ∧ y.Kids.length = x.Kids.length ∧ ∀ (k : Nat) a, x.Kids[k]? = some a → ∃ b, idx at_ a = some b ∧ y.Kids[k]? = some b) ⟨List.length_replicate, fun i x h => by cases h⟩ (Nat.zero_le _) (fun s hs hc => Gives.pos (by omega) (G_get hc fun x hx hm => ?_)) fun s hs hc => Gives.neg (by omega) (Gives.some ⟨hs.1, fun i x hx => hs.2 i x (by have : s.2 = G.Nodes.length := hc; have := (List.getElem?_eq_some_iff.1 hx).1; omega) hx⟩)) fun out hout => ?_
  · obtain ⟨hin, h8, _⟩ := (hG.nodes x hm).in
    refine Gives.bind (fun m : List Int => m.length = x.Kids.length ∧ ∀ (k : Nat) a, x.Kids[k]? = some a → ∃ b, idx at_ a = some b ∧ m[k]? = some b) (G_each x.Kids (fun s : List Int × Nat => s.2) (fun s : List Int × Nat => s.1.length = s.2 ∧ ∀ (k : Nat) a, k < s.2 → x.Kids[k]? = some a → ∃ b, idx at_ a = some b ∧ s.1[k]? = some b) ⟨rfl, fun k a h => by cases h⟩ (Nat.zero_le _) (fun s' y hs' hc' hy hym => ?_) fun s' hs' hc' => Gives.some ⟨?_, fun k a ha => hs'.2 k a (by have : s'.2 = x.Kids.length := hc'; have := (List.getElem?_eq_some_iff.1 ha).1; omega) ha⟩) fun m hm' => ?_
    · obtain ⟨b, hb, _⟩ := hidx y (hin y hym).1 (hin y hym).2
      have hlt : s'.2 < x.Kids.length := hc'
      have hl' := hs'.1
      refine Gives.bindE hb (Gives.bindE (push_small 20 (by simp only [List.length_cons, List.length_nil]; omega) (by decide)) (Gives.some ⟨⟨by simp; omega, fun k a hk ha => ?_⟩, rfl⟩))
      rcases Nat.lt_or_ge k s'.2 with h3 | h3
      · obtain ⟨w, h4, h5⟩ := hs'.2 k a h3 ha
        exact ⟨w, h4, by rw [List.getElem?_append_left (by omega)]; exact h5⟩
      · have h6 : k < s'.2 + 1 := hk
        obtain rfl : k = s'.2 := by omega
        rw [hy] at ha; cases ha
        exact ⟨b, hb, by rw [List.getElem?_append_right (by omega), hl', Nat.sub_self]; rfl⟩
    · have : s'.2 = x.Kids.length := hc'
      have := hs'.1
      show s'.1.length = _
      omega
    · have hlt : s.2 < G.Nodes.length := hc
      have hsl : s.2 < at_.length := by rw [hp.len]; exact hlt
      have hja := List.getElem?_eq_getElem hsl
      obtain ⟨h1, h2⟩ := hp.rng _ _ hja
      have hr : 0 ≤ at_[s.2] ∧ at_[s.2] < s.1.length := by rw [hs.1]; exact ⟨h1, h2⟩
      obtain ⟨w, hw1, _⟩ := idx_in hr
      refine Gives.bindE hja (Gives.bindE hw1 (Gives.bindE (upd_in hr) (Gives.some ⟨⟨by rw [List.length_set]; exact hs.1, fun i x' hi hx' => ?_⟩, rfl⟩)))
      have hi2 : i < s.2 + 1 := hi
      rcases Nat.lt_or_ge i s.2 with h3 | h3
      · obtain ⟨j, y, e1, e2, e3⟩ := hs.2 i x' h3 hx'
        refine ⟨j, y, e1, ?_, e3⟩
        show idx (s.1.set (at_[s.2]).toNat _) j = _
        rw [idx_set hr (idx_lt e2).1, if_neg (fun e => ?_)]
        · exact e2
        · have := (idx_some.1 e1).2
          rw [← e, show ((i : Nat) : Int).toNat = i by omega] at this
          have := hp.inj _ _ _ this hja
          omega
      · obtain rfl : i = s.2 := by omega
        rw [hx] at hx'; cases hx'
        refine ⟨at_[s.2], DNode.mk x.Op x.Name x.N m, idx_ok hsl, ?_, rfl, rfl, rfl, hm'.1, hm'.2⟩
        show idx (s.1.set (at_[s.2]).toNat _) _ = _
        rw [idx_set hr hr.1, if_pos rfl]
  · obtain ⟨ho, hall⟩ := hout
    refine Gives.bindE (push_small 5000 (by simp only [List.length_cons, List.length_nil]; omega) (by decide)) (Gives.some ?_)
    have happ : ∀ j y, idx out j = some y → idx (out ++ [DNode.mk 4 [] 0 [rt, ((G.Nodes.length : Nat) : Int)]]) j = some y := fun j y h => by
      obtain ⟨h1, h2⟩ := idx_some.1 h
      exact idx_some.2 ⟨h1, by rw [List.getElem?_append_left (List.getElem?_eq_some_iff.1 h2).1]; exact h2⟩
    have hnat : ∀ i j : Int, idx at_ i = some j → ∃ m : Nat, i = (m : Int) ∧ m < G.Nodes.length := fun i j h => by
      have := idx_lt h
      rw [hp.len] at this
      exact ⟨i.toNat, by omega, by omega⟩
    refine ⟨⟨fun i j hij => ?_, fun i j j' h h' => by rw [h] at h'; exact Option.some.inj h', fun i i' j h h' => ?_⟩, hrt, by simp [ho], fun h3000 => ⟨by simp [ho]; omega, by simp, ?_, fun y hy => ?_⟩, hidx⟩
    · obtain ⟨m, rfl, hm⟩ := hnat i j hij
      obtain ⟨j', y, e1, e2, e3, e4, e5, e6, e7⟩ := hall m _ (List.getElem?_eq_getElem hm)
      rw [hij] at e1; cases e1
      refine ⟨G.Nodes[m], y, idx_ok hm, happ _ _ e2, e3, e4, e5, e6.symm, fun k a b ha hb => ?_⟩
      obtain ⟨c, hc, hc2⟩ := e7 k a ha
      rw [hb] at hc2; cases hc2; exact hc
    · obtain ⟨m, rfl, hm⟩ := hnat i j h
      obtain ⟨m', rfl, hm'⟩ := hnat i' j h'
      have h1 := (idx_some.1 h).2
      have h2 := (idx_some.1 h').2
      rw [show ((m : Nat) : Int).toNat = m by omega] at h1
      rw [show ((m' : Nat) : Int).toNat = m' by omega] at h2
      have := hp.inj _ _ _ h1 h2
      omega
    · show 0 ≤ rt ∧ rt < (((out ++ [DNode.mk 4 [] 0 [rt, ((G.Nodes.length : Nat) : Int)]]).length : Nat) : Int)
      rw [List.length_append, ho]; simp only [List.length_cons, List.length_nil]; omega
    · have hn1 : (((out ++ [DNode.mk 4 [] 0 [rt, ((G.Nodes.length : Nat) : Int)]]).length : Nat) : Int) = ((G.Nodes.length : Nat) : Int) + 1 := by rw [List.length_append, ho]; simp
      show VN g q (((out ++ [DNode.mk 4 [] 0 [rt, ((G.Nodes.length : Nat) : Int)]]).length : Nat) : Int) y
      rw [hn1]
      rcases List.mem_append.1 hy with h | h
      · obtain ⟨p, hpl, rfl⟩ := List.getElem_of_mem h
        obtain ⟨i, hi⟩ := hp.sur p (by omega)
        have hin : i < G.Nodes.length := by have := (List.getElem?_eq_some_iff.1 hi).1; rw [hp.len] at this; exact this
        obtain ⟨j, y, e1, e2, e3, e4, e5, e6, e7⟩ := hall i _ (List.getElem?_eq_getElem hin)
        have h1 := (idx_some.1 e1).2
        rw [show ((i : Nat) : Int).toNat = i by omega, hi] at h1
        cases h1
        have h2 : y = out[p] := by
          have := (idx_some.1 e2).2
          rw [show ((p : Nat) : Int).toNat = p by omega, List.getElem?_eq_getElem hpl] at this
          exact (Option.some.inj this).symm
        subst h2
        refine (hG.nodes _ (List.getElem_mem hin)).like e3 e4 e5 e6 fun k hk => ?_
        obtain ⟨m, hml, rfl⟩ := List.getElem_of_mem hk
        obtain ⟨b, hb, hb2⟩ := e7 m _ (List.getElem?_eq_getElem (by rw [← e6]; exact hml))
        rw [List.getElem?_eq_getElem hml] at hb2
        have := hp.rng _ b (idx_some.1 hb).2
        rw [Option.some.inj hb2]; omega
      · rw [List.mem_singleton] at h; subst h
        exact garbage g q hT rt _ _ (by omega) (by omega)
end Go.Proofs.YtjkcinpmbgcgpaaGreatDoor
