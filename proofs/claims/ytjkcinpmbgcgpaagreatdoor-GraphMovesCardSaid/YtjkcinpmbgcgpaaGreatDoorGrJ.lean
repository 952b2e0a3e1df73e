/- Putting a node in another one's place, and growing an expression, in graphs that are like each other. -/
import Derived.Test.YtjkcinpmbgcgpaaGreatDoorGrI
namespace Go.Proofs.YtjkcinpmbgcgpaaGreatDoor
open Go Go.Mir
set_option linter.unusedVariables false
def putN (a b : Int) (x : DNode) : DNode := ⟨x.Op, x.Name, x.N, x.Kids.map fun k => if k = a then b else k⟩
theorem put_nodes (ns : List DNode) (a b : Int) (hn : ns.length ≤ 100000) (hk : K1000 ns) : (
    Mir.Loop (S := List DNode × Nat) (Q := List DNode) (([] : List DNode), (0 : Nat)) fun s28 =>
      if ((s28.2 : Nat) : Int) < ((ns.length : Nat) : Int) then
        ((ns)[s28.2]?).bind fun x42 =>
        (
          Mir.Loop (S := List Int × Nat) (Q := List Int) (([] : List Int), (0 : Nat)) fun s71 =>
            if ((s71.2 : Nat) : Int) < ((x42.Kids.length : Nat) : Int) then
              ((x42.Kids)[s71.2]?).bind fun x83 =>
              (
                if x83 = a then
                  some b
                else
                  some x83
              : Option Int).bind fun (z90 : Int) =>
              (Mir.push 8 s71.1 [z90]).bind fun x99 =>
              some (.inl (x99, s71.2 + 1))
            else
              some (.inr s71.1)
        : Option (List Int)).bind fun (z55 : List Int) =>
        (Mir.push 56 s28.1 [(DNode.mk x42.Op x42.Name x42.N z55)]).bind fun x111 =>
        some (.inl (x111, s28.2 + 1))
      else
        some (.inr s28.1)) = some (ns.map (putN a b)) := by
  suffices H : Gives _ (fun q => q = ns.map (putN a b)) by
    obtain ⟨q, h1, h2⟩ := H; rw [h2] at h1; exact h1
  refine G_each ns (fun s : List DNode × Nat => s.2) (fun s : List DNode × Nat => s.1 = (ns.take s.2).map (putN a b)) rfl (Nat.zero_le _) (fun s x hs hc hx hm => ?_) fun s hs hc => Gives.some ?_
  · have hlt : s.2 < ns.length := hc
    have hl : s.1.length ≤ s.2 := by rw [hs]; simp; omega
    have h1000 := hk x hm
    refine Gives.bind (fun m => m = x.Kids.map fun k => if k = a then b else k) (G_each x.Kids (fun s : List Int × Nat => s.2) (fun s : List Int × Nat => s.1 = (x.Kids.take s.2).map fun k => if k = a then b else k) rfl (Nat.zero_le _) (fun s' y hs' hc' hy hym => ?_) fun s' hs' hc' => Gives.some ?_) fun m hm' => ?_
    · have hlt' : s'.2 < x.Kids.length := hc'
      have hl' : s'.1.length ≤ s'.2 := by rw [hs']; simp; omega
      refine Gives.bind (fun z => z = if y = a then b else y) (Gives.ite (fun h => Gives.some (if_pos h).symm) fun h => Gives.some (if_neg h).symm) fun z hz => Gives.bindE (push_small 2000 (by simp only [List.length_cons, List.length_nil]; omega) (by decide)) (Gives.some ⟨?_, rfl⟩)
      show s'.1 ++ [z] = (x.Kids.take (s'.2 + 1)).map _
      rw [take_next hy, List.map_append, hs', hz]; rfl
    · show s'.1 = _
      rw [hs', takeAll (show s'.2 = x.Kids.length from hc')]
    · subst hm'
      refine Gives.bindE (push_small 200000 (by simp only [List.length_cons, List.length_nil]; omega) (by decide)) (Gives.some ⟨?_, rfl⟩)
      show s.1 ++ [_] = (ns.take (s.2 + 1)).map _
      rw [take_next hx, List.map_append, hs]; rfl
  · show s.1 = _
    rw [hs, takeAll (show s.2 = ns.length from hc)]
theorem put_eq (g : Nat) (rt : Int) (ns : List DNode) (a b : Int) (hn : ns.length ≤ 100000) (hk : K1000 ns) : m_graph_Put g ⟨rt, ns⟩ a b = some ⟨if rt = a then b else rt, ns.map (putN a b)⟩ := by
  unfold m_graph_Put
  have e : ((if rt = a then some b else some rt : Option Int)) = some (if rt = a then b else rt) := by split <;> rfl
  dsimp only
  rw [e, Option.bind_some, put_nodes ns a b hn hk]; rfl
theorem put2_eq (g : Nat) (rt : Int) (ns : List DNode) (a b : Int) (hn : ns.length ≤ 100000) (hk : K1000 ns) : m_graph_Put_2 g ⟨rt, ns⟩ a b = some (if rt = a then b else rt, ns.map (putN a b)) := by
  unfold m_graph_Put_2
  have e : ((if rt = a then some b else some rt : Option Int)) = some (if rt = a then b else rt) := by split <;> rfl
  dsimp only
  rw [e, Option.bind_some, put_nodes ns a b hn hk]; rfl
theorem putN_id {x : DNode} (h : ∀ k ∈ x.Kids, 0 ≤ k) : putN (-1) (-1) x = x := by
  unfold putN
  have : (x.Kids.map fun k => if k = -1 then (-1 : Int) else k) = x.Kids := by
    conv => rhs; rw [← List.map_id x.Kids]
    refine List.map_congr_left fun k hk => ?_
    have := h k hk
    rw [if_neg (by omega)]; rfl
  rw [this]
theorem put_id {ns : List DNode} (h : ∀ x ∈ ns, ∀ k ∈ x.Kids, 0 ≤ k) : ns.map (putN (-1) (-1)) = ns := by
  conv => rhs; rw [← List.map_id ns]
  exact List.map_congr_left fun x hx => by rw [putN_id (h x hx)]; rfl
theorem VG.k1000 {g : Nat} {q : Tbl} {G : DGraph} (h : VG g q G) : K1000 G.Nodes := fun x hx => by have := (h.nodes x hx).in.2.1; omega
theorem fresh_eq (g g' : Nat) (q : Tbl) (G : DGraph) (h : VG g' q G) : m_graph_Fresh g G = some G ∧ m_graph_Fresh_2 g G = some (G.Root, G.Nodes) := by
  have h1 := h.root
  have h2 := h.len
  have e1 : (if G.Root = -1 then (-1 : Int) else G.Root) = G.Root := if_neg (by omega)
  have e2 := put_id (ns := G.Nodes) fun x hx k hk => ((h.nodes x hx).in.1 k hk).1
  unfold m_graph_Fresh m_graph_Fresh_2
  constructor
  · rw [show G = ⟨G.Root, G.Nodes⟩ from rfl, put_eq g G.Root G.Nodes _ _ (by omega) h.k1000, Option.bind_some, e1, e2]
  · rw [show G = ⟨G.Root, G.Nodes⟩ from rfl, put2_eq g G.Root G.Nodes _ _ (by omega) h.k1000, Option.bind_some, e1, e2]
theorem idx_map {α β : Type} {f : α → β} {xs : List α} {i : Int} {x : α} (h : idx xs i = some x) : idx (xs.map f) i = some (f x) := by
  obtain ⟨h1, h2⟩ := idx_some.1 h
  exact idx_some.2 ⟨h1, by rw [List.getElem?_map, h2]; rfl⟩
theorem Rel.put {ns ms : List DNode} {R : Int → Int → Prop} (h : Rel ns ms R) {a a' b b' : Int} (ha : R a a') (hb : R b b') : Rel (ns.map (putN a b)) (ms.map (putN a' b')) R := by
  refine ⟨fun i j hij => ?_, h.inj1, h.inj2⟩
  obtain ⟨x, y, hx, hy, hxy⟩ := h.dom i j hij
  refine ⟨_, _, idx_map hx, idx_map hy, hxy.op, hxy.name, hxy.n, ?_, fun k u v hu hv => ?_⟩
  · show (x.Kids.map _).length = (y.Kids.map _).length
    rw [List.length_map, List.length_map]; exact hxy.kids.len
  · have hu' : (x.Kids.map fun k => if k = a then b else k)[k]? = some u := hu
    have hv' : (y.Kids.map fun k => if k = a' then b' else k)[k]? = some v := hv
    rw [List.getElem?_map] at hu' hv'
    obtain ⟨u0, e1, e2⟩ := Option.map_eq_some_iff.1 hu'
    obtain ⟨v0, e3, e4⟩ := Option.map_eq_some_iff.1 hv'
    have h0 := hxy.kids.at_ k u0 v0 e1 e3
    subst e2; subst e4
    by_cases e : u0 = a
    · subst e
      have := h.inj1 _ _ _ ha h0
      subst this
      rw [if_pos rfl, if_pos rfl]; exact hb
    · rw [if_neg e, if_neg (fun e' => e (by subst e'; exact h.inj2 _ _ _ h0 ha))]; exact h0
theorem root_put {ns ms : List DNode} {R : Int → Int → Prop} (h : Rel ns ms R) {a a' b b' r r' : Int} (ha : R a a') (hb : R b b') (hr : R r r') : R (if r = a then b else r) (if r' = a' then b' else r') := by
  by_cases e : r = a
  · subst e
    have := h.inj1 _ _ _ ha hr
    subst this
    rw [if_pos rfl, if_pos rfl]; exact hb
  · rw [if_neg e, if_neg (fun e' => e (by subst e'; exact h.inj2 _ _ _ hr ha))]; exact hr
theorem K1000.put {ns : List DNode} {a b : Int} (h : K1000 ns) : K1000 (ns.map (putN a b)) := fun x hx => by
  obtain ⟨y, hy, rfl⟩ := List.mem_map.1 hx
  have := h y hy
  show (y.Kids.map _).length ≤ 1000
  rw [List.length_map]; exact this
/-- Put, and the clean form of what comes of it. -/
theorem putTidy {ns ms : List DNode} {R : Int → Int → Prop} (h : Rel ns ms R) {a a' b b' r r' : Int} (ha : R a a') (hb : R b b') (hr : R r r') (hn : ns.length ≤ 100000) (hm : ms.length ≤ 100000) (hk : K1000 ns) (hk' : K1000 ms) (g : Nat) (hg : ns.length + 1 ≤ g) :
    Gives2 ((m_graph_Put g ⟨r, ns⟩ a b).bind fun q => m_graph_Tidy g q []) ((m_graph_Put g ⟨r', ms⟩ a' b').bind fun q => m_graph_Tidy g q []) fun s s' => s' = s := by
  obtain ⟨T, h1, h2, _⟩ := tidy2 (h.put ha hb) (root_put h ha hb hr) (by simpa using hn) (by simpa using hm) hk.put g (by simpa using hg)
  exact ⟨_, _, by rw [put_eq g r ns a b hn hk, Option.bind_some, h1], by rw [put_eq g r' ms a' b' hm hk', Option.bind_some, h2], rfl⟩
theorem sumN_one {α : Type} {f : α → Nat} {l : List α} (h : l.length = 1) : sumN f l = f (l[0]'(by omega)) := by
  match l, h with
  | [a], _ => rfl
theorem sumN_two {α : Type} {f : α → Nat} {l : List α} (h : l.length = 2) : sumN f l = f (l[0]'(by omega)) + f (l[1]'(by omega)) := by
  match l, h with
  | [a, b], _ => rfl
/-! ### growing -/
theorem idx_app {α : Type} {xs ys : List α} {i : Int} {x : α} (h : idx xs i = some x) : idx (xs ++ ys) i = some x := by
  obtain ⟨h1, h2⟩ := idx_some.1 h
  exact idx_some.2 ⟨h1, by rw [List.getElem?_append_left (List.getElem?_eq_some_iff.1 h2).1]; exact h2⟩
theorem idx_last {α : Type} (xs : List α) (x : α) : idx (xs ++ [x]) ((xs.length : Nat) : Int) = some x :=
  idx_some.2 ⟨by omega, by rw [show ((xs.length : Nat) : Int).toNat = xs.length by omega, List.getElem?_append_right (Nat.le_refl _), Nat.sub_self]; rfl⟩
theorem Rel.add {ns ms : List DNode} {R : Int → Int → Prop} (h : Rel ns ms R) (op : Int) (nm : List UInt8) (n : Int) :
    ∃ R1 : Int → Int → Prop, (∀ i j, R i j → R1 i j) ∧ Rel (ns ++ [⟨op, nm, n, []⟩]) (ms ++ [⟨op, nm, n, []⟩]) R1 ∧ R1 ((ns.length : Nat) : Int) ((ms.length : Nat) : Int) := by
  have hlt : ∀ i j, R i j → i < ns.length ∧ j < ms.length := fun i j hij => by
    obtain ⟨x, y, hx, hy, _⟩ := h.dom i j hij
    exact ⟨(idx_lt hx).2, (idx_lt hy).2⟩
  refine ⟨fun i j => R i j ∨ i = ((ns.length : Nat) : Int) ∧ j = ((ms.length : Nat) : Int), fun i j => .inl, ⟨fun i j hij => ?_, fun i j j' h1 h2 => ?_, fun i i' j h1 h2 => ?_⟩, .inr ⟨rfl, rfl⟩⟩
  · rcases hij with hij | ⟨rfl, rfl⟩
    · obtain ⟨x, y, hx, hy, hxy⟩ := h.dom i j hij
      exact ⟨x, y, idx_app hx, idx_app hy, hxy.op, hxy.name, hxy.n, hxy.kids.mono fun _ _ => .inl⟩
    · exact ⟨_, _, idx_last _ _, idx_last _ _, rfl, rfl, rfl, KR.nil⟩
  · rcases h1 with h1 | ⟨rfl, rfl⟩ <;> rcases h2 with h2 | ⟨h3, rfl⟩
    · exact h.inj1 _ _ _ h1 h2
    · have := hlt _ _ h1; omega
    · have := hlt _ _ h2; omega
    · rfl
  · rcases h1 with h1 | ⟨rfl, rfl⟩ <;> rcases h2 with h2 | ⟨rfl, h3⟩
    · exact h.inj2 _ _ _ h1 h2
    · have := hlt _ _ h1; omega
    · have := hlt _ _ h2; omega
    · rfl
theorem Rel.upd {ns ms : List DNode} {R : Int → Int → Prop} (h : Rel ns ms R) {i j : Int} (hij : R i j) {x y : DNode} (hx : idx ns i = some x) (hy : idx ms j = some y) {ks ks' : List Int} (hk : KR R ks ks') :
    Rel (ns.set i.toNat ⟨x.Op, x.Name, x.N, ks⟩) (ms.set j.toNat ⟨y.Op, y.Name, y.N, ks'⟩) R := by
  refine ⟨fun a b hab => ?_, h.inj1, h.inj2⟩
  obtain ⟨u, v, hu, hv, huv⟩ := h.dom a b hab
  rw [idx_set (idx_lt hx) (idx_lt hu).1, idx_set (idx_lt hy) (idx_lt hv).1]
  by_cases e : i = a
  · subst e
    have := h.inj1 _ _ _ hij hab
    subst this
    rw [hx] at hu; cases hu
    rw [hy] at hv; cases hv
    rw [if_pos rfl, if_pos rfl]
    exact ⟨_, _, rfl, rfl, huv.op, huv.name, huv.n, hk⟩
  · rw [if_neg e, if_neg (fun e' => e (by subst e'; exact h.inj2 _ _ _ hij hab))]
    exact ⟨u, v, hu, hv, huv⟩
theorem K1000.add {ns : List DNode} (h : K1000 ns) {op : Int} {nm : List UInt8} {n : Int} : K1000 (ns ++ [⟨op, nm, n, []⟩]) := fun x hx => by
  rcases List.mem_append.1 hx with h1 | h1
  · exact h x h1
  · rw [List.mem_singleton] at h1; subst h1; exact Nat.zero_le _
theorem K1000.upd {ns : List DNode} (h : K1000 ns) {k : Nat} {y : DNode} (hy : y.Kids.length ≤ 1000) : K1000 (ns.set k y) := fun x hx => by
  rcases List.mem_or_eq_of_mem_set hx with h1 | h1
  · exact h x h1
  · rw [h1]; exact hy
abbrev Env : Type := List (List UInt8 × Int)
/-- Names that have nodes alike. -/
structure ENV (S : List UInt8 → Prop) (R : Int → Int → Prop) (e e' : Env) : Prop where
  nd : (e.map (·.1)).Nodup
  nd' : (e'.map (·.1)).Nodup
  at_ : ∀ s, S s → ∃ i j, assoc e s = some i ∧ assoc e' s = some j ∧ R i j
theorem ENV.mono {S S' : List UInt8 → Prop} {R R' : Int → Int → Prop} {e e' : Env} (h : ENV S R e e') (hR : ∀ i j, R i j → R' i j) (hS : ∀ s, S' s → S s) : ENV S' R' e e' :=
  ⟨h.nd, h.nd', fun s hs => let ⟨i, j, h1, h2, h3⟩ := h.at_ s (hS s hs); ⟨i, j, h1, h2, hR i j h3⟩⟩
theorem ENV.put {S : List UInt8 → Prop} {R : Int → Int → Prop} {e e' : Env} (h : ENV S R e e') {n : List UInt8} {i j : Int} (hij : R i j) : ENV (fun s => S s ∨ s = n) R (upsert e n i) (upsert e' n j) := by
  refine ⟨Go.Sy.upsert_nodup h.nd, Go.Sy.upsert_nodup h.nd', fun s hs => ?_⟩
  rw [as_ups, as_ups]
  by_cases en : n = s
  · rw [if_pos en, if_pos en]; exact ⟨i, j, rfl, rfl, hij⟩
  · rw [if_neg en, if_neg en]
    rcases hs with hs | hs
    · exact h.at_ s hs
    · exact absurd hs.symm en
theorem as_cons {κ α : Type} [DecidableEq κ] {k q : κ} {v : α} {l : List (κ × α)} : assoc ((k, v) :: l) q = if k = q then some v else assoc l q := rfl
theorem as_none {κ α : Type} [DecidableEq κ] {q : κ} : ∀ {l : List (κ × α)}, q ∉ l.map (·.1) → assoc l q = none
  | [], _ => rfl
  | (a, b) :: l, h => by
    unfold assoc
    rw [if_neg (fun e => h (by subst e; exact List.mem_cons_self)), as_none (fun h' => h (List.mem_cons_of_mem _ h'))]
theorem ua {κ α : Type} [DecidableEq κ] {q : κ} : ∀ (dn us : List (κ × α)), (dn.map (·.1)).Nodup → assoc (upsAll us dn) q = (assoc dn q).or (assoc us q)
  | [], us, _ => by unfold upsAll; simp [assoc]
  | (k, v) :: dn, us, h => by
    have h2 : upsAll us ((k, v) :: dn) = upsAll (upsert us k v) dn := rfl
    rw [List.map_cons, List.nodup_cons] at h
    rw [h2, ua dn _ h.2, as_ups, as_cons]
    by_cases e : k = q
    · subst e; rw [if_pos rfl, if_pos rfl, as_none h.1]; rfl
    · rw [if_neg e, if_neg e]
theorem ua_nodup {κ α : Type} [DecidableEq κ] : ∀ (dn us : List (κ × α)), (us.map (·.1)).Nodup → ((upsAll us dn).map (·.1)).Nodup
  | [], us, h => h
  | (k, v) :: dn, us, h => ua_nodup dn (upsert us k v) (Go.Sy.upsert_nodup h)
theorem ENV.copy {S : List UInt8 → Prop} {R : Int → Int → Prop} {e e' : Env} (h : ENV S R e e') : ENV S R (upsAll [] e) (upsAll [] e') := by
  refine ⟨ua_nodup _ _ List.nodup_nil, ua_nodup _ _ List.nodup_nil, fun s hs => ?_⟩
  obtain ⟨i, j, h1, h2, h3⟩ := h.at_ s hs
  exact ⟨i, j, by rw [ua _ _ h.nd, h1]; rfl, by rw [ua _ _ h.nd', h2]; rfl, h3⟩
/-- Names stored, one by one. -/
theorem puts2 {α : Type} (nm : α → List UInt8) (l : List α) {S : List UInt8 → Prop} {R : Int → Int → Prop} {e e' : Env} (h : ENV S R e e') {ks ks' : List Int} (hk : KR R ks ks') (hl : l.length ≤ ks.length) {Q : Type} (out : Env → Q) {P : Q → Q → Prop} (hP : ∀ z z', ENV (fun s => S s ∨ s ∈ l.map nm) R z z' → P (out z) (out z')) :
    Gives2 (Mir.Loop (S := Env × Nat) (Q := Q) (e, 0) fun s => if ((s.2 : Nat) : Int) < ((l.length : Nat) : Int) then (l[s.2]?).bind fun x => (ks[s.2]?).bind fun y => (Mir.put s.1 (nm x) y).bind fun z => some (.inl (z, s.2 + 1)) else some (.inr (out s.1)))
      (Mir.Loop (S := Env × Nat) (Q := Q) (e', 0) fun s => if ((s.2 : Nat) : Int) < ((l.length : Nat) : Int) then (l[s.2]?).bind fun x => (ks'[s.2]?).bind fun y => (Mir.put s.1 (nm x) y).bind fun z => some (.inl (z, s.2 + 1)) else some (.inr (out s.1))) P := by
  refine Gives2.cnt l.length (fun s : Env × Nat => s.2) (fun (s s' : Env × Nat) => s'.2 = s.2 ∧ ENV (fun x => S x ∨ x ∈ (l.take s.2).map nm) R s.1 s'.1) ⟨rfl, h.mono (fun _ _ h => h) fun s hs => by simpa using hs⟩ (Nat.zero_le _) (fun s s' hs hc => ?_) fun s s' hs hc => ?_
  · obtain ⟨e1, e2⟩ := hs
    have hlt : s.2 < l.length := hc
    have hx := List.getElem?_eq_getElem hlt
    have hy := List.getElem?_eq_getElem (show s.2 < ks.length by omega)
    obtain ⟨b, hb, hab⟩ := hk.get hy
    rw [e1, if_pos (by omega), if_pos (by omega)]
    refine Gives2.bindE hx hx (Gives2.bindE hy hb (Gives2.bindE rfl rfl (Gives2.some ⟨⟨rfl, (e2.put hab).mono (fun _ _ h => h) fun x hx2 => ?_⟩, rfl⟩)))
    rcases hx2 with h1 | h1
    · exact .inl (.inl h1)
    · have h2 : x ∈ (l.take (s.2 + 1)).map nm := h1
      rw [take_next hx, List.map_append, List.mem_append] at h2
      rcases h2 with h2 | h2
      · exact .inl (.inr h2)
      · exact .inr (by simpa using h2)
  · obtain ⟨e1, e2⟩ := hs
    have hlt : s.2 = l.length := hc
    rw [e1, if_neg (by omega), if_neg (by omega)]
    rw [takeAll hlt] at e2
    exact Gives2.some (hP _ _ e2)
theorem f22 (g : Nat) (l : List (List UInt8)) {S : List UInt8 → Prop} {R : Int → Int → Prop} {e e' : Env} (h : ENV S R e e') {ks ks' : List Int} (hk : KR R ks ks') (hl : l.length ≤ ks.length) : Gives2 (m_graph_Grow_f2 g l ks e) (m_graph_Grow_f2 g l ks' e') (ENV (fun s => S s ∨ s ∈ l) R) := by
  unfold m_graph_Grow_f2
  refine Gives2.bindE rfl rfl (Gives2.bind _ (puts2 id l h.copy hk hl id (P := ENV (fun s => S s ∨ s ∈ l) R) fun z z' hz => ?_) fun z z' hz => Gives2.some hz)
  rw [List.map_id] at hz; exact hz
/-- The states of growing. -/
structure GR (R : Int → Int → Prop) (n0 m0 : Nat) (R1 : Int → Int → Prop) (ns ms : List DNode) (b : Nat) : Prop where
  sub : ∀ i j, R i j → R1 i j
  rel : Rel ns ms R1
  k : K1000 ns
  k' : K1000 ms
  len : ns.length ≤ n0 + b
  len' : ms.length ≤ m0 + b
theorem GR.add {R R1 : Int → Int → Prop} {n0 m0 b : Nat} {ns ms : List DNode} (h : GR R n0 m0 R1 ns ms b) (op : Int) (nm : List UInt8) (n : Int) : ∃ R2, GR R n0 m0 R2 (ns ++ [⟨op, nm, n, []⟩]) (ms ++ [⟨op, nm, n, []⟩]) (b + 1) ∧ (∀ i j, R1 i j → R2 i j) ∧ R2 ((ns.length : Nat) : Int) ((ms.length : Nat) : Int) := by
  obtain ⟨R2, h1, h2, h3⟩ := h.rel.add op nm n
  exact ⟨R2, ⟨fun i j hij => h1 i j (h.sub i j hij), h2, h.k.add, h.k'.add, by simp; have := h.len; omega, by simp; have := h.len'; omega⟩, h1, h3⟩
theorem GR.le {R R1 : Int → Int → Prop} {n0 m0 b c : Nat} {ns ms : List DNode} (h : GR R n0 m0 R1 ns ms b) (hb : b ≤ c) : GR R n0 m0 R1 ns ms c := ⟨h.sub, h.rel, h.k, h.k', Nat.le_trans h.len (by omega), Nat.le_trans h.len' (by omega)⟩
theorem f1_eq (g : Nat) (x : DNode) (rt : Int) (ns : List DNode) (h : ns.length ≤ 100000) : m_graph_Grow_f1 g x rt ns = some (((ns.length : Nat) : Int), ns ++ [x]) := by
  unfold m_graph_Grow_f1
  rw [push_small 200000 (by simp only [List.length_cons, List.length_nil]; omega) (by decide), Option.bind_some]
  simp
/-- An expression grows alike in graphs that are like each other. -/
theorem grow2 (rt rt' : Int) (R : Int → Int → Prop) (n0 m0 : Nat) (hn0 : n0 ≤ 50000) (hm0 : m0 ≤ 50000) : ∀ (g : Nat) (e : DExpr) (S : List UInt8 → Prop) (R1 : Int → Int → Prop) (ns ms : List DNode) (en en' : Env) (b : Nat), SizeOf.sizeOf e ≤ g → SP e → CL S e → GR R n0 m0 R1 ns ms b → ENV S R1 en en' → b + 13 * cntE e ≤ 10000 →
    Gives2 (m_graph_Grow g e rt ns en) (m_graph_Grow g e rt' ms en') fun r r' => ∃ R2, GR R n0 m0 R2 r.2 r'.2 (b + 13 * cntE e) ∧ (∀ i j, R1 i j → R2 i j) ∧ R2 r.1 r'.1 := by
  intro g
  induction g with
  | zero => intro e S R1 ns ms en en' b h; have := size_pos e; omega
  | succ g ih =>
    intro e S R1 ns ms en en' b hg hsp hcl hG hE hb
    obtain ⟨h9, h10, hn, hsk⟩ := hsp
    obtain ⟨c1, c2, c3⟩ := hcl
    have hce := cntE_eq e
    have hpos := cntE_pos e
    have hl1 := hG.len
    have hl2 := hG.len'
    rw [m_graph_Grow, m_graph_Grow]
    refine Gives2.ite Iff.rfl (fun h1 => ?_) fun n1 => Gives2.ite Iff.rfl (fun h6 => ?_) fun n6 => Gives2.ite Iff.rfl (fun h7 => ?_) fun n7 => Gives2.ite Iff.rfl (fun h2 => ?_) fun n2 => Gives2.ite Iff.rfl (fun h11 => ?_) fun n11 => ?_
    · -- a variable
      obtain ⟨i, j, e1, e2, e3⟩ := hE.at_ _ (c1 h1)
      refine Gives2.bindE (a := i) (b := j) (by unfold getD; rw [e1]; rfl) (by unfold getD; rw [e2]; rfl) (Gives2.some ⟨R1, hG.le (by omega), fun _ _ h => h, e3⟩)
    · -- let
      have h2k := hn.two (.inr (.inr h6))
      have hk0 := List.getElem?_eq_getElem (show 0 < e.Kids.length by omega)
      have hk1 := List.getElem?_eq_getElem (show 1 < e.Kids.length by omega)
      have m0' := List.getElem_mem (show 0 < e.Kids.length by omega)
      have m1' := List.getElem_mem (show 1 < e.Kids.length by omega)
      have hsum := sumN_two (f := cntE) h2k
      refine Gives2.bind (fun (z z' : List DNode × Int) => ∃ R2, GR R n0 m0 R2 z.1 z'.1 (b + 13 * cntE e) ∧ (∀ i j, R1 i j → R2 i j) ∧ R2 z.2 z'.2) ?_ fun z z' hz => Gives2.some hz
      refine Gives2.bindE hk1 hk1 (Gives2.bindE hk0 hk0 (Gives2.bind _ (ih _ S R1 ns ms en en' b (by have := size_kid m0'; omega) (hsk _ m0') ?_ hG hE (by omega)) fun r r' hr => ?_))
      · have := c2 0 _ hk0
        have hS : kidS S e 0 = S := funext fun s => propext ⟨fun h => by
          rcases h with h | h | h
          · exact h
          · omega
          · omega, fun h => .inl h⟩
        rw [hS] at this; exact this
      · obtain ⟨R2, g1, g2, g3⟩ := hr
        refine Gives2.bind _ (f22 g [e.Name] (hE.mono g2 fun _ h => h) (ks := [r.1]) (ks' := [r'.1]) (KR.nil.snoc g3) (Nat.le_refl _)) fun q q' hq => ?_
        refine Gives2.bind _ (ih _ (kidS S e 1) R2 _ _ q q' _ (by have := size_kid m1'; omega) (hsk _ m1') (c2 1 _ hk1) g1 (hq.mono (fun _ _ h => h) fun s hs => ?_) (by omega)) fun r2 r2' hr2 => Gives2.some ?_
        · rcases hs with h | h | h
          · exact .inl h
          · omega
          · exact .inr (by simp [h.2.2])
        · obtain ⟨R3, k1, k2, k3⟩ := hr2
          exact ⟨R3, k1.le (by omega), fun i j h => k2 i j (g2 i j h), k3⟩
    · -- free
      have h1k := hn.one (.inl h7)
      have h12 := hn.names
      have hk0 := List.getElem?_eq_getElem (show 0 < e.Kids.length by omega)
      have m0' := List.getElem_mem (show 0 < e.Kids.length by omega)
      have hsum := sumN_one (f := cntE) h1k
      refine Gives2.bind (fun (z z' : List DNode × List Int) => ∃ R2, GR R n0 m0 R2 z.1 z'.1 (b + 12) ∧ (∀ i j, R1 i j → R2 i j) ∧ KR R2 z.2 z'.2 ∧ z.2.length = e.Names.length) (Gives2.cnt e.Names.length (fun s : List DNode × List Int × Nat => s.2.2) (fun (s s' : List DNode × List Int × Nat) => s'.2.2 = s.2.2 ∧ s.2.1.length = s.2.2 ∧ ∃ R2, GR R n0 m0 R2 s.1 s'.1 (b + s.2.2) ∧ (∀ i j, R1 i j → R2 i j) ∧ KR R2 s.2.1 s'.2.1) ⟨rfl, rfl, R1, hG, fun _ _ h => h, KR.nil⟩ (Nat.zero_le _) (fun s s' hs hc => ?_) fun s s' hs hc => ?_) fun z z' hz => ?_
      · obtain ⟨e1, e2, R2, g1, g2, g3⟩ := hs
        have hlt : s.2.2 < e.Names.length := hc
        have q1 := g1.len
        have q2 := g1.len'
        rw [e1, if_pos (by omega), if_pos (by omega)]
        obtain ⟨R3, k1, k2, k3⟩ := g1.add 6 [] 0
        have hkl := g3.len
        refine Gives2.bindE (f1_eq g _ rt s.1 (by omega)) (f1_eq g _ rt' s'.1 (by omega)) (Gives2.bindE (push_small 2000 (by simp only [List.length_cons, List.length_nil]; omega) (by decide)) (push_small 2000 (by simp only [List.length_cons, List.length_nil]; omega) (by decide)) (Gives2.some ⟨⟨rfl, by simp; omega, R3, k1, fun i j h => k2 i j (g2 i j h), (g3.mono k2).snoc k3⟩, rfl⟩))
      · obtain ⟨e1, e2, R2, g1, g2, g3⟩ := hs
        have hlt : s.2.2 = e.Names.length := hc
        rw [e1, if_neg (by omega), if_neg (by omega)]
        exact Gives2.some ⟨R2, g1.le (by omega), g2, g3, by show s.2.1.length = _; omega⟩
      · obtain ⟨R2, g1, g2, g3, g4⟩ := hz
        refine Gives2.bindE hk0 hk0 (Gives2.bind _ (f22 g e.Names (hE.mono g2 fun _ h => h) g3 (by omega)) fun q q' hq => ?_)
        refine Gives2.bind _ (ih _ (kidS S e 0) R2 _ _ q q' _ (by have := size_kid m0'; omega) (hsk _ m0') (c2 0 _ hk0) g1 (hq.mono (fun _ _ h => h) fun s hs => ?_) (by omega)) fun r2 r2' hr2 => Gives2.some ?_
        · rcases hs with h | h | h
          · exact .inl h
          · exact .inr h.2
          · omega
        · obtain ⟨R3, k1, k2, k3⟩ := hr2
          exact ⟨R3, k1.le (by omega), fun i j h => k2 i j (g2 i j h), k3⟩
    · obtain ⟨R3, k1, k2, k3⟩ := hG.add 2 [] e.N
      exact Gives2.bindE (f1_eq g _ rt ns (by omega)) (f1_eq g _ rt' ms (by omega)) (Gives2.some ⟨R3, k1.le (by omega), k2, k3⟩)
    · obtain ⟨R3, k1, k2, k3⟩ := hG.add 7 [] 0
      exact Gives2.bindE (f1_eq g _ rt ns (by omega)) (f1_eq g _ rt' ms (by omega)) (Gives2.some ⟨R3, k1.le (by omega), k2, k3⟩)
    · -- a node with kids
      have hS : ∀ i, kidS S e i = S := fun i => funext fun s => propext ⟨fun h => by
        rcases h with h | h | h
        · exact h
        · omega
        · omega, fun h => .inl h⟩
      have h8 := hn.kids
      refine Gives2.bindE rfl rfl (Gives2.bindE rfl rfl (Gives2.bindE rfl rfl (Gives2.bindE rfl rfl (Gives2.bindE rfl rfl ?_))))
      generalize Option.getD _ _ = op
      obtain ⟨R2, g1, g2, g3⟩ := hG.add op e.Name 0
      refine Gives2.bindE (f1_eq g _ rt ns (by omega)) (f1_eq g _ rt' ms (by omega)) ?_
      refine Gives2.bind (fun (z z' : List DNode × List Int) => ∃ R3, GR R n0 m0 R3 z.1 z'.1 (b + 1 + 13 * sumN cntE e.Kids) ∧ (∀ i j, R2 i j → R3 i j) ∧ KR R3 z.2 z'.2 ∧ z.2.length ≤ 8) (Gives2.cnt e.Kids.length (fun s : List DNode × List Int × Nat => s.2.2) (fun (s s' : List DNode × List Int × Nat) => s'.2.2 = s.2.2 ∧ s.2.1.length = s.2.2 ∧ ∃ R3, GR R n0 m0 R3 s.1 s'.1 (b + 1 + 13 * sumN cntE (e.Kids.take s.2.2)) ∧ (∀ i j, R2 i j → R3 i j) ∧ KR R3 s.2.1 s'.2.1) ⟨rfl, rfl, R2, g1.le (by omega), fun _ _ h => h, KR.nil⟩ (Nat.zero_le _) (fun s s' hs hc => ?_) fun s s' hs hc => ?_) fun z z' hz => ?_
      · obtain ⟨e1, e2, R3, k1, k2, k3⟩ := hs
        have hlt : s.2.2 < e.Kids.length := hc
        have hxk := List.getElem?_eq_getElem hlt
        have hm := List.getElem_mem hlt
        have s1 := sumN_take (f := cntE) hxk
        have s2 := sumN_takeLe (f := cntE) (l := e.Kids) (i := s.2.2 + 1)
        have hkl := k3.len
        rw [e1, if_pos (by omega), if_pos (by omega)]
        refine Gives2.bindE hxk hxk (Gives2.bind _ (ih _ S R3 _ _ en en' _ (by have := size_kid hm; omega) (hsk _ hm) (by have := c2 _ _ hxk; rw [hS] at this; exact this) k1 (hE.mono (fun i j h => k2 i j (g2 i j h)) fun _ h => h) (by omega)) fun r r' hr => ?_)
        obtain ⟨R4, l1, l2, l3⟩ := hr
        refine Gives2.bindE (push_small 2000 (by simp only [List.length_cons, List.length_nil]; omega) (by decide)) (push_small 2000 (by simp only [List.length_cons, List.length_nil]; omega) (by decide)) (Gives2.some ⟨⟨rfl, by simp; omega, R4, ?_, fun i j h => l2 i j (k2 i j h), (k3.mono l2).snoc l3⟩, rfl⟩)
        show GR R n0 m0 R4 r.2 r'.2 (b + 1 + 13 * sumN cntE (e.Kids.take (s.2.2 + 1)))
        exact l1.le (by omega)
      · obtain ⟨e1, e2, R3, k1, k2, k3⟩ := hs
        have hlt : s.2.2 = e.Kids.length := hc
        rw [e1, if_neg (by omega), if_neg (by omega)]
        rw [takeAll hlt] at k1
        exact Gives2.some ⟨R3, k1, k2, k3, by show s.2.1.length ≤ 8; omega⟩
      · obtain ⟨R3, k1, k2, k3, k4⟩ := hz
        have h0 := k2 _ _ g3
        obtain ⟨x, y, hx, hy, hxy⟩ := k1.rel.dom _ _ h0
        have hkl := k3.len
        refine Gives2.bindE hx hy (Gives2.bindE (upd_in (idx_lt hx)) (upd_in (idx_lt hy)) (Gives2.some ⟨R3, ⟨k1.sub, k1.rel.upd h0 hx hy k3, k1.k.upd (by show z.2.length ≤ 1000; omega), k1.k'.upd (by show z'.2.length ≤ 1000; omega), ?_, ?_⟩, fun i j h => k2 i j (g2 i j h), h0⟩))
        · have := k1.len
          show (z.1.set _ _).length ≤ _
          rw [List.length_set]; omega
        · have := k1.len'
          show (z'.1.set _ _).length ≤ _
          rw [List.length_set]; omega
end Go.Proofs.YtjkcinpmbgcgpaaGreatDoor
