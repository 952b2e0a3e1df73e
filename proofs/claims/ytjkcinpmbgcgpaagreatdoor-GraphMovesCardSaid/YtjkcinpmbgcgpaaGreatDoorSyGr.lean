/- The calculus: interface values that are compared with nil. -/
import Derived.Test.YtjkcinpmbgcgpaaGreatDoorSyShort
import Derived.WideLaws
namespace Go.Sy
open Go Go.RowKit
section
variable {P : Program} {E : Env} {n : Nat} {L : List (Nat × Value)} {F : PH} {H : List Chunk} {d : Option Nat} {ty : TypeId} {pos : String} {aft : Array Edge} {g : Option (Nat × Bool)} {x y : Operand} {v c : Value} {t yt u : TypeId}
theorem guard_held_nil (op : BinOp) (t : TypeId) (x y : Operand) (u : TypeId) (v : Value) (w : World) : (eqGuard op t x y (.iface u v) .nilIface).run P w = .ok () w := by cases op <;> rfl
theorem guard_nil_nil (op : BinOp) (t : TypeId) (x : Operand) (c : Value) (w : World) : (eqGuard op t x (.const c) .nilIface .nilIface).run P w = .ok () w := by cases op <;> cases x <;> rfl
theorem Yields.eqHeld (ht : P.underlying t = some (.interface (P.methodsAt t))) (hx : ev L x = some (.iface u v)) (hy : ev L y = some .nilIface) : Yields P E n L F H ⟨d, .binOp .eql t x y yt, ty, pos, aft, g⟩ (.bool false) :=
  Yields.bin hx hy (guard_held_nil _ _ _ _ _ _) fun w => run_eql_held_nil w t u v ht
theorem Yields.neHeld (ht : P.underlying t = some (.interface (P.methodsAt t))) (hx : ev L x = some (.iface u v)) (hy : ev L y = some .nilIface) : Yields P E n L F H ⟨d, .binOp .neq t x y yt, ty, pos, aft, g⟩ (.bool true) :=
  Yields.bin hx hy (guard_held_nil _ _ _ _ _ _) fun w => run_neq_held_nil w t u v ht
theorem Yields.eqNil (ht : P.underlying t = some (.interface (P.methodsAt t))) (hx : ev L x = some .nilIface) (hy : ev L (.const c) = some .nilIface) : Yields P E n L F H ⟨d, .binOp .eql t x (.const c) yt, ty, pos, aft, g⟩ (.bool true) :=
  Yields.bin hx hy (guard_nil_nil _ _ _ _) fun w => run_eql_nil_nil w t ht
theorem Yields.neNil (ht : P.underlying t = some (.interface (P.methodsAt t))) (hx : ev L x = some .nilIface) (hy : ev L (.const c) = some .nilIface) : Yields P E n L F H ⟨d, .binOp .neq t x (.const c) yt, ty, pos, aft, g⟩ (.bool false) :=
  Yields.bin hx hy (guard_nil_nil _ _ _ _) fun w => run_neq_nil_nil w t ht
theorem evp6 {a : Act} (ha : Has n a L) {i1 i2 i3 i4 i5 i6 : Nat} {x1 x2 x3 x4 x5 x6 : Operand} {v1 v2 v3 v4 v5 v6 : Value} (h1 : ev L x1 = some v1) (h2 : ev L x2 = some v2) (h3 : ev L x3 = some v3) (h4 : ev L x4 = some v4) (h5 : ev L x5 = some v5) (h6 : ev L x6 = some v6) : (#[(i1, x1), (i2, x2), (i3, x3), (i4, x4), (i5, x5), (i6, x6)].map fun (i, x) => (i, a.eval x)) = #[(i1, v1), (i2, v2), (i3, v3), (i4, v4), (i5, v5), (i6, v6)] := by simp [ha.ev h1, ha.ev h2, ha.ev h3, ha.ev h4, ha.ev h5, ha.ev h6]
theorem evp7 {a : Act} (ha : Has n a L) {i1 i2 i3 i4 i5 i6 i7 : Nat} {x1 x2 x3 x4 x5 x6 x7 : Operand} {v1 v2 v3 v4 v5 v6 v7 : Value} (h1 : ev L x1 = some v1) (h2 : ev L x2 = some v2) (h3 : ev L x3 = some v3) (h4 : ev L x4 = some v4) (h5 : ev L x5 = some v5) (h6 : ev L x6 = some v6) (h7 : ev L x7 = some v7) : (#[(i1, x1), (i2, x2), (i3, x3), (i4, x4), (i5, x5), (i6, x6), (i7, x7)].map fun (i, x) => (i, a.eval x)) = #[(i1, v1), (i2, v2), (i3, v3), (i4, v4), (i5, v5), (i6, v6), (i7, v7)] := by simp [ha.ev h1, ha.ev h2, ha.ev h3, ha.ev h4, ha.ev h5, ha.ev h6, ha.ev h7]
theorem evp8 {a : Act} (ha : Has n a L) {i1 i2 i3 i4 i5 i6 i7 i8 : Nat} {x1 x2 x3 x4 x5 x6 x7 x8 : Operand} {v1 v2 v3 v4 v5 v6 v7 v8 : Value} (h1 : ev L x1 = some v1) (h2 : ev L x2 = some v2) (h3 : ev L x3 = some v3) (h4 : ev L x4 = some v4) (h5 : ev L x5 = some v5) (h6 : ev L x6 = some v6) (h7 : ev L x7 = some v7) (h8 : ev L x8 = some v8) : (#[(i1, x1), (i2, x2), (i3, x3), (i4, x4), (i5, x5), (i6, x6), (i7, x7), (i8, x8)].map fun (i, x) => (i, a.eval x)) = #[(i1, v1), (i2, v2), (i3, v3), (i4, v4), (i5, v5), (i6, v6), (i7, v7), (i8, v8)] := by simp [ha.ev h1, ha.ev h2, ha.ev h3, ha.ev h4, ha.ev h5, ha.ev h6, ha.ev h7, ha.ev h8]
theorem evp9 {a : Act} (ha : Has n a L) {i1 i2 i3 i4 i5 i6 i7 i8 i9 : Nat} {x1 x2 x3 x4 x5 x6 x7 x8 x9 : Operand} {v1 v2 v3 v4 v5 v6 v7 v8 v9 : Value} (h1 : ev L x1 = some v1) (h2 : ev L x2 = some v2) (h3 : ev L x3 = some v3) (h4 : ev L x4 = some v4) (h5 : ev L x5 = some v5) (h6 : ev L x6 = some v6) (h7 : ev L x7 = some v7) (h8 : ev L x8 = some v8) (h9 : ev L x9 = some v9) : (#[(i1, x1), (i2, x2), (i3, x3), (i4, x4), (i5, x5), (i6, x6), (i7, x7), (i8, x8), (i9, x9)].map fun (i, x) => (i, a.eval x)) = #[(i1, v1), (i2, v2), (i3, v3), (i4, v4), (i5, v5), (i6, v6), (i7, v7), (i8, v8), (i9, v9)] := by simp [ha.ev h1, ha.ev h2, ha.ev h3, ha.ev h4, ha.ev h5, ha.ev h6, ha.ev h7, ha.ev h8, ha.ev h9]
theorem evp10 {a : Act} (ha : Has n a L) {i1 i2 i3 i4 i5 i6 i7 i8 i9 i10 : Nat} {x1 x2 x3 x4 x5 x6 x7 x8 x9 x10 : Operand} {v1 v2 v3 v4 v5 v6 v7 v8 v9 v10 : Value} (h1 : ev L x1 = some v1) (h2 : ev L x2 = some v2) (h3 : ev L x3 = some v3) (h4 : ev L x4 = some v4) (h5 : ev L x5 = some v5) (h6 : ev L x6 = some v6) (h7 : ev L x7 = some v7) (h8 : ev L x8 = some v8) (h9 : ev L x9 = some v9) (h10 : ev L x10 = some v10) : (#[(i1, x1), (i2, x2), (i3, x3), (i4, x4), (i5, x5), (i6, x6), (i7, x7), (i8, x8), (i9, x9), (i10, x10)].map fun (i, x) => (i, a.eval x)) = #[(i1, v1), (i2, v2), (i3, v3), (i4, v4), (i5, v5), (i6, v6), (i7, v7), (i8, v8), (i9, v9), (i10, v10)] := by simp [ha.ev h1, ha.ev h2, ha.ev h3, ha.ev h4, ha.ev h5, ha.ev h6, ha.ev h7, ha.ev h8, ha.ev h9, ha.ev h10]
theorem evp11 {a : Act} (ha : Has n a L) {i1 i2 i3 i4 i5 i6 i7 i8 i9 i10 i11 : Nat} {x1 x2 x3 x4 x5 x6 x7 x8 x9 x10 x11 : Operand} {v1 v2 v3 v4 v5 v6 v7 v8 v9 v10 v11 : Value} (h1 : ev L x1 = some v1) (h2 : ev L x2 = some v2) (h3 : ev L x3 = some v3) (h4 : ev L x4 = some v4) (h5 : ev L x5 = some v5) (h6 : ev L x6 = some v6) (h7 : ev L x7 = some v7) (h8 : ev L x8 = some v8) (h9 : ev L x9 = some v9) (h10 : ev L x10 = some v10) (h11 : ev L x11 = some v11) : (#[(i1, x1), (i2, x2), (i3, x3), (i4, x4), (i5, x5), (i6, x6), (i7, x7), (i8, x8), (i9, x9), (i10, x10), (i11, x11)].map fun (i, x) => (i, a.eval x)) = #[(i1, v1), (i2, v2), (i3, v3), (i4, v4), (i5, v5), (i6, v6), (i7, v7), (i8, v8), (i9, v9), (i10, v10), (i11, v11)] := by simp [ha.ev h1, ha.ev h2, ha.ev h3, ha.ev h4, ha.ev h5, ha.ev h6, ha.ev h7, ha.ev h8, ha.ev h9, ha.ev h10, ha.ev h11]
theorem evp12 {a : Act} (ha : Has n a L) {i1 i2 i3 i4 i5 i6 i7 i8 i9 i10 i11 i12 : Nat} {x1 x2 x3 x4 x5 x6 x7 x8 x9 x10 x11 x12 : Operand} {v1 v2 v3 v4 v5 v6 v7 v8 v9 v10 v11 v12 : Value} (h1 : ev L x1 = some v1) (h2 : ev L x2 = some v2) (h3 : ev L x3 = some v3) (h4 : ev L x4 = some v4) (h5 : ev L x5 = some v5) (h6 : ev L x6 = some v6) (h7 : ev L x7 = some v7) (h8 : ev L x8 = some v8) (h9 : ev L x9 = some v9) (h10 : ev L x10 = some v10) (h11 : ev L x11 = some v11) (h12 : ev L x12 = some v12) : (#[(i1, x1), (i2, x2), (i3, x3), (i4, x4), (i5, x5), (i6, x6), (i7, x7), (i8, x8), (i9, x9), (i10, x10), (i11, x11), (i12, x12)].map fun (i, x) => (i, a.eval x)) = #[(i1, v1), (i2, v2), (i3, v3), (i4, v4), (i5, v5), (i6, v6), (i7, v7), (i8, v8), (i9, v9), (i10, v10), (i11, v11), (i12, v12)] := by simp [ha.ev h1, ha.ev h2, ha.ev h3, ha.ev h4, ha.ev h5, ha.ev h6, ha.ev h7, ha.ev h8, ha.ev h9, ha.ev h10, ha.ev h11, ha.ev h12]
theorem evp13 {a : Act} (ha : Has n a L) {i1 i2 i3 i4 i5 i6 i7 i8 i9 i10 i11 i12 i13 : Nat} {x1 x2 x3 x4 x5 x6 x7 x8 x9 x10 x11 x12 x13 : Operand} {v1 v2 v3 v4 v5 v6 v7 v8 v9 v10 v11 v12 v13 : Value} (h1 : ev L x1 = some v1) (h2 : ev L x2 = some v2) (h3 : ev L x3 = some v3) (h4 : ev L x4 = some v4) (h5 : ev L x5 = some v5) (h6 : ev L x6 = some v6) (h7 : ev L x7 = some v7) (h8 : ev L x8 = some v8) (h9 : ev L x9 = some v9) (h10 : ev L x10 = some v10) (h11 : ev L x11 = some v11) (h12 : ev L x12 = some v12) (h13 : ev L x13 = some v13) : (#[(i1, x1), (i2, x2), (i3, x3), (i4, x4), (i5, x5), (i6, x6), (i7, x7), (i8, x8), (i9, x9), (i10, x10), (i11, x11), (i12, x12), (i13, x13)].map fun (i, x) => (i, a.eval x)) = #[(i1, v1), (i2, v2), (i3, v3), (i4, v4), (i5, v5), (i6, v6), (i7, v7), (i8, v8), (i9, v9), (i10, v10), (i11, v11), (i12, v12), (i13, v13)] := by simp [ha.ev h1, ha.ev h2, ha.ev h3, ha.ev h4, ha.ev h5, ha.ev h6, ha.ev h7, ha.ev h8, ha.ev h9, ha.ev h10, ha.ev h11, ha.ev h12, ha.ev h13]
theorem evp14 {a : Act} (ha : Has n a L) {i1 i2 i3 i4 i5 i6 i7 i8 i9 i10 i11 i12 i13 i14 : Nat} {x1 x2 x3 x4 x5 x6 x7 x8 x9 x10 x11 x12 x13 x14 : Operand} {v1 v2 v3 v4 v5 v6 v7 v8 v9 v10 v11 v12 v13 v14 : Value} (h1 : ev L x1 = some v1) (h2 : ev L x2 = some v2) (h3 : ev L x3 = some v3) (h4 : ev L x4 = some v4) (h5 : ev L x5 = some v5) (h6 : ev L x6 = some v6) (h7 : ev L x7 = some v7) (h8 : ev L x8 = some v8) (h9 : ev L x9 = some v9) (h10 : ev L x10 = some v10) (h11 : ev L x11 = some v11) (h12 : ev L x12 = some v12) (h13 : ev L x13 = some v13) (h14 : ev L x14 = some v14) : (#[(i1, x1), (i2, x2), (i3, x3), (i4, x4), (i5, x5), (i6, x6), (i7, x7), (i8, x8), (i9, x9), (i10, x10), (i11, x11), (i12, x12), (i13, x13), (i14, x14)].map fun (i, x) => (i, a.eval x)) = #[(i1, v1), (i2, v2), (i3, v3), (i4, v4), (i5, v5), (i6, v6), (i7, v7), (i8, v8), (i9, v9), (i10, v10), (i11, v11), (i12, v12), (i13, v13), (i14, v14)] := by simp [ha.ev h1, ha.ev h2, ha.ev h3, ha.ev h4, ha.ev h5, ha.ev h6, ha.ev h7, ha.ev h8, ha.ev h9, ha.ev h10, ha.ev h11, ha.ev h12, ha.ev h13, ha.ev h14]
/-- An element of a part of a row: where it is, and that it is the whole row's. -/
theorem sub_idx {α : Type} {xs ys : List α} {j l i : Int} {z : α} (hs : Mir.sub xs j l = some ys) (hx : Mir.idx ys i = some z) : 0 ≤ i ∧ 0 ≤ j ∧ Mir.idx xs ((j.toNat + i.toNat : Nat) : Int) = some z := by
  obtain ⟨⟨h0, h1, h2⟩, rfl⟩ := Mir.sub_some hs
  obtain ⟨g0, g1⟩ := Mir.idx_some hx
  refine ⟨g0, h0, ?_⟩
  rw [Mir.idx_nat]
  rw [List.getElem?_drop, List.getElem?_take] at g1
  split at g1
  · exact g1
  · cases g1
theorem IdxAt.part {α : Type} {A A' : Option Addr} {c c2 sz : Nat} {xs ys : List α} {j l i : Int} {z : α} (hA : A = some ⟨bk A, bo A, none⟩) (hS : SubAt A c xs.length sz j l A' c2 ys.length) (hs : Mir.sub xs j l = some ys) (hx : Mir.idx ys i = some z) : IdxAt A' ys.length sz i ⟨bk A, bo A + (j.toNat + i.toNat) * sz, none⟩ := by
  obtain ⟨h0, h1, h2⟩ := sub_idx hs hx
  obtain ⟨g0, g1⟩ := Mir.idx_some hx
  obtain ⟨k0, k1⟩ := Mir.idx_some h2
  have hlt := (List.getElem?_eq_some_iff.1 k1).1
  have hlt2 := (List.getElem?_eq_some_iff.1 g1).1
  obtain ⟨⟨_, _, _⟩, hcap, hA', _, _⟩ := hS
  have hne : ¬ c = j.toNat := by
    have : ((j.toNat + i.toNat : Nat) : Int).toNat = j.toNat + i.toNat := by omega
    rw [this] at hlt
    omega
  rw [if_neg hne] at hA'
  refine ⟨h0, by omega, (⟨bk A, bo A, none⟩ : Addr).add (j.toNat * sz), by rw [hA', hA]; rfl, ?_⟩
  rw [add_add, add_off, ← Nat.add_mul]
end
section
variable {P : Program} {E : Env} {n : Nat} {L L' : List (Nat × Value)} {F F' Fs : PH} {H H' Hs : List Chunk} {K : Act → World → Prop} {Q : Exit → Act → World → Prop} {ops : Array Oper} {rest : List Oper} {T : List Nat} {fuel : Nat} {listed : Array Bool}
/-- Four operations may come up. -/
theorem StD.four {i j q s : Nat} {oi oj oq os : Oper} (hi : ops[i]? = some oi) (hj : ops[j]? = some oj) (hq : ops[q]? = some oq) (hs4 : ops[s]? = some os) (hr : Region.ready .any ops listed = [i, j, q, s]) {l1 l2 l3 l4 : Array Bool} (hl : listed.setIfInBounds i true = l1) (hl2 : listed.setIfInBounds j true = l2) (hl3 : listed.setIfInBounds q true = l3) (hl4 : listed.setIfInBounds s true = l4)
    (h : Closed ops l1 → St (wpList P ops (Exit.then (fun a w => (T.contains i = false → Sat E Fs Hs w) ∧ wpAnyT P ops Q (Sat E Fs Hs) T fuel l1 a w) Q) [oi]) E n L F H)
    (h2 : Closed ops l2 → St (wpList P ops (Exit.then (fun a w => (T.contains j = false → Sat E Fs Hs w) ∧ wpAnyT P ops Q (Sat E Fs Hs) T fuel l2 a w) Q) [oj]) E n L F H)
    (h3 : Closed ops l3 → St (wpList P ops (Exit.then (fun a w => (T.contains q = false → Sat E Fs Hs w) ∧ wpAnyT P ops Q (Sat E Fs Hs) T fuel l3 a w) Q) [oq]) E n L F H)
    (h4 : Closed ops l4 → St (wpList P ops (Exit.then (fun a w => (T.contains s = false → Sat E Fs Hs w) ∧ wpAnyT P ops Q (Sat E Fs Hs) T fuel l4 a w) Q) [os]) E n L F H) : StD P ops Q T Fs Hs (fuel + 1) listed E n L F H := fun a w ha hs hcl => by
  subst hl; subst hl2; subst hl3; subst hl4
  unfold wpAnyT
  refine ⟨fun h0 => (by rw [hr] at h0; cases h0), fun p hp => ?_⟩
  have hp' := hp
  rw [hr] at hp
  rcases List.mem_cons.1 hp with rfl | hp
  · exact wpOp_mono (fun a' w' h => ⟨fun hT _ => h.1 hT, h.2⟩) (StD.step hi (h (hcl.set hp') a w ha hs))
  · rcases List.mem_cons.1 hp with rfl | hp
    · exact wpOp_mono (fun a' w' h => ⟨fun hT _ => h.1 hT, h.2⟩) (StD.step hj (h2 (hcl.set hp') a w ha hs))
    · rcases List.mem_cons.1 hp with rfl | hp
      · exact wpOp_mono (fun a' w' h => ⟨fun hT _ => h.1 hT, h.2⟩) (StD.step hq (h3 (hcl.set hp') a w ha hs))
      · rw [List.mem_singleton.1 hp] at hp' ⊢
        exact wpOp_mono (fun a' w' h => ⟨fun hT _ => h.1 hT, h.2⟩) (StD.step hs4 (h4 (hcl.set hp') a w ha hs))
/-- What holds when some operations are done, told once for all ways there. -/
theorem StD.node {listed' : Array Bool} {fuel' : Nat} (I : Act → World → Prop) (h1 : ∀ a w, I a w → Closed ops listed' → wpAnyT P ops Q (Sat E Fs Hs) T fuel' listed' a w) (h2 : (∀ a w, I a w → Closed ops listed' → wpAnyT P ops Q (Sat E Fs Hs) T fuel' listed' a w) → StD P ops Q T Fs Hs fuel listed E n L F H) : StD P ops Q T Fs Hs fuel listed E n L F H := h2 h1
theorem StD.use (h : StD P ops Q T Fs Hs fuel listed E n L F H) {a : Act} {w : World} (ha : Has n a L) (hs : Sat E F H w) : Closed ops listed → wpAnyT P ops Q (Sat E Fs Hs) T fuel listed a w := h a w ha hs
theorem StD.into {I : Act → World → Prop} (h1 : ∀ a w, I a w → Closed ops listed → wpAnyT P ops Q (Sat E Fs Hs) T fuel listed a w) (h2 : ∀ a w, Has n a L → Sat E F H w → I a w) : StD P ops Q T Fs Hs fuel listed E n L F H := fun a w ha hs => h1 a w (h2 a w ha hs)
end
section
variable {E : Env} {n : Nat} {L : List (Nat × Value)} {F : PH} {R : List Chunk} {K : Act → World → Prop}
theorem pk1 {c0 c1 : Chunk} (h : St K E n L F (c1 :: c0 :: R)) : St K E n L F (c0 :: c1 :: R) := St.pick 1 rfl rfl h
theorem pk2 {c0 c1 c2 : Chunk} (h : St K E n L F (c2 :: c0 :: c1 :: R)) : St K E n L F (c0 :: c1 :: c2 :: R) := St.pick 2 rfl rfl h
theorem pk3 {c0 c1 c2 c3 : Chunk} (h : St K E n L F (c3 :: c0 :: c1 :: c2 :: R)) : St K E n L F (c0 :: c1 :: c2 :: c3 :: R) := St.pick 3 rfl rfl h
theorem pk4 {c0 c1 c2 c3 c4 : Chunk} (h : St K E n L F (c4 :: c0 :: c1 :: c2 :: c3 :: R)) : St K E n L F (c0 :: c1 :: c2 :: c3 :: c4 :: R) := St.pick 4 rfl rfl h
theorem pk5 {c0 c1 c2 c3 c4 c5 : Chunk} (h : St K E n L F (c5 :: c0 :: c1 :: c2 :: c3 :: c4 :: R)) : St K E n L F (c0 :: c1 :: c2 :: c3 :: c4 :: c5 :: R) := St.pick 5 rfl rfl h
theorem pk6 {c0 c1 c2 c3 c4 c5 c6 : Chunk} (h : St K E n L F (c6 :: c0 :: c1 :: c2 :: c3 :: c4 :: c5 :: R)) : St K E n L F (c0 :: c1 :: c2 :: c3 :: c4 :: c5 :: c6 :: R) := St.pick 6 rfl rfl h
theorem pk7 {c0 c1 c2 c3 c4 c5 c6 c7 : Chunk} (h : St K E n L F (c7 :: c0 :: c1 :: c2 :: c3 :: c4 :: c5 :: c6 :: R)) : St K E n L F (c0 :: c1 :: c2 :: c3 :: c4 :: c5 :: c6 :: c7 :: R) := St.pick 7 rfl rfl h
theorem pk8 {c0 c1 c2 c3 c4 c5 c6 c7 c8 : Chunk} (h : St K E n L F (c8 :: c0 :: c1 :: c2 :: c3 :: c4 :: c5 :: c6 :: c7 :: R)) : St K E n L F (c0 :: c1 :: c2 :: c3 :: c4 :: c5 :: c6 :: c7 :: c8 :: R) := St.pick 8 rfl rfl h
theorem pk9 {c0 c1 c2 c3 c4 c5 c6 c7 c8 c9 : Chunk} (h : St K E n L F (c9 :: c0 :: c1 :: c2 :: c3 :: c4 :: c5 :: c6 :: c7 :: c8 :: R)) : St K E n L F (c0 :: c1 :: c2 :: c3 :: c4 :: c5 :: c6 :: c7 :: c8 :: c9 :: R) := St.pick 9 rfl rfl h
theorem pk10 {c0 c1 c2 c3 c4 c5 c6 c7 c8 c9 c10 : Chunk} (h : St K E n L F (c10 :: c0 :: c1 :: c2 :: c3 :: c4 :: c5 :: c6 :: c7 :: c8 :: c9 :: R)) : St K E n L F (c0 :: c1 :: c2 :: c3 :: c4 :: c5 :: c6 :: c7 :: c8 :: c9 :: c10 :: R) := St.pick 10 rfl rfl h
theorem pk11 {c0 c1 c2 c3 c4 c5 c6 c7 c8 c9 c10 c11 : Chunk} (h : St K E n L F (c11 :: c0 :: c1 :: c2 :: c3 :: c4 :: c5 :: c6 :: c7 :: c8 :: c9 :: c10 :: R)) : St K E n L F (c0 :: c1 :: c2 :: c3 :: c4 :: c5 :: c6 :: c7 :: c8 :: c9 :: c10 :: c11 :: R) := St.pick 11 rfl rfl h
theorem pk12 {c0 c1 c2 c3 c4 c5 c6 c7 c8 c9 c10 c11 c12 : Chunk} (h : St K E n L F (c12 :: c0 :: c1 :: c2 :: c3 :: c4 :: c5 :: c6 :: c7 :: c8 :: c9 :: c10 :: c11 :: R)) : St K E n L F (c0 :: c1 :: c2 :: c3 :: c4 :: c5 :: c6 :: c7 :: c8 :: c9 :: c10 :: c11 :: c12 :: R) := St.pick 12 rfl rfl h
end
end Go.Sy
