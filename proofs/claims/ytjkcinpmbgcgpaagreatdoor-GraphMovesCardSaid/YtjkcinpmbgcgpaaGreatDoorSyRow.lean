/- The calculus's rules for slices: rows of the call's own, and rows that are read in the frozen part. -/
import Derived.Test.YtjkcinpmbgcgpaaGreatDoorSyDraw
namespace Go.Sy
open Go Go.RowKit
def slT (P : Program) (t e sz bytes : Nat) : Bool :=
  match P.underlying t, P.info? e with
  | some (.slice e'), some i => Nat.beq e' e && Nat.beq i.size sz && Nat.beq i.bytes bytes && (match i.zero with | some z => Nat.beq z.cells.size sz | none => false)
  | _, _ => false
theorem slT_spec {P : Program} {t e sz bytes : Nat} (h : slT P t e sz bytes = true) : ∃ i z, P.underlying t = some (.slice e) ∧ P.info? e = some i ∧ i.zero = some z ∧ i.size = sz ∧ i.bytes = bytes ∧ z.cells.size = sz := by
  unfold slT at h
  split at h
  · rename_i e' i hu hi
    simp only [Bool.and_eq_true] at h
    obtain ⟨⟨⟨h1, h2⟩, h3⟩, h4⟩ := h
    have := Nat.eq_of_beq_eq_true h1
    subst this
    split at h4
    · rename_i z hz
      exact ⟨i, z, hu, hi, hz, Nat.eq_of_beq_eq_true h2, Nat.eq_of_beq_eq_true h3, Nat.eq_of_beq_eq_true h4⟩
    · cases h4
  · cases h
theorem add_off (b off k : Nat) : (Addr.add ⟨b, off, none⟩ k) = ⟨b, off + k, none⟩ := by unfold Addr.add; split <;> simp_all
theorem add_zero' (a : Addr) : a.add 0 = a := by simp [Addr.add]
section
variable {P : Program} {E : Env} {n : Nat} {L L' : List (Nat × Value)} {F F' : PH} {H H' R : List Chunk} {K : Act → World → Prop} {Q : Exit → Act → World → Prop} {ops : Array Oper} {rest : List Oper}
section
variable {d : Nat} {dd : Option Nat} {ty : TypeId} {pos : String} {aft : Array Edge} {gd : Option (Nat × Bool)} {x y s : Operand} {v u : Value} {t e sz bytes : Nat} {A A' : Option Addr} {k c m c2 : Nat} {xs news : List Value}
theorem St.append (hT : slT P t e sz bytes = true) (hsz : Nat.blt 0 sz = true) (hx : ev L s = some (.slice A k c)) {ad : Addr} (hy : ev L y = some (.slice (some ad) m c2)) (i : Nat) (hi : H[i]? = some (row A k c e sz xs)) (hR : H.eraseIdx i = R)
    (hl : news.length = m * sz) (hnews : ∀ w, Sat E F H w → ∀ j u, news[j]? = some u → w.cell? (ad.add j) = some u) (h1 : ∀ u ∈ news, u.oneCell' = true) (h63 : k + m ≤ maxLen) (hb : (k + m) * bytes ≤ 140737488355328)
    (hdn : Nat.blt d n = true) (hw : Wanted ops ⟨some d, .call ⟨.builtin .append, #[s, y], #[t, t]⟩, ty, pos, aft, gd⟩ L)
    (h : ∀ A' c', St (wpList P ops Q rest) E n ((d, .slice A' (k + m) c') :: L) F (row A' (k + m) c' e sz (xs ++ news) :: R)) : St (wpList P ops Q (⟨some d, .call ⟨.builtin .append, #[s, y], #[t, t]⟩, ty, pos, aft, gd⟩ :: rest)) E n L F H := by
  obtain ⟨ti, z, hu, hin, hz, rfl, rfl, hzs⟩ := slT_spec hT
  refine St.act hw rfl hdn fun a w ha hs => ?_
  have hs1 : Sat E F (row A k c e ti.size xs :: R) w := hs.perm (by subst hR; exact perm_erase i hi)
  obtain ⟨v', w', hr, ho, hg, _, hat⟩ := run_append_own_at (P := P) w 0 t ty e ti z ti.size ti.bytes hu hin hz rfl rfl hzs (by rwa [Nat.blt_eq] at hsz) (.slice A k c) k xs hs1.row_owns ad m c2 news hl (hnews w hs) h1 h63 hb (Nat.zero_le _)
  have hv : ∃ A' c', v' = .slice A' (k + m) c' := by
    rcases ho.2 with ⟨rfl, hk⟩ | ⟨g, cap, cur, rfl, _⟩
    · exact ⟨none, 0, by rw [hk]⟩
    · exact ⟨_, _, rfl⟩
  obtain ⟨A', c', rfl⟩ := hv
  refine ⟨_, w', F, _, ?_, hs1.row_of ho hg hat, h A' c'⟩
  simp only [execOp, resolve, ev2 ha hx hy, Sem.run_bind, Sem.run_pure, Result.andThen_ok, invoke, Go.builtin, hr]
/-- append of nothing. -/
theorem St.append_nil (hT : slT P t e sz bytes = true) (hx : ev L s = some (.slice A k c)) (hy : ev L y = some (.slice none 0 c2)) (i : Nat) (hi : H[i]? = some (row A k c e sz xs)) (hR : H.eraseIdx i = R)
    (hdn : Nat.blt d n = true) (hw : Wanted ops ⟨some d, .call ⟨.builtin .append, #[s, y], #[t, t]⟩, ty, pos, aft, gd⟩ L)
    (h : St (wpList P ops Q rest) E n ((d, .slice A k c) :: L) F (row A k c e sz xs :: R)) : St (wpList P ops Q (⟨some d, .call ⟨.builtin .append, #[s, y], #[t, t]⟩, ty, pos, aft, gd⟩ :: rest)) E n L F H := by
  obtain ⟨ti, z, hu, hin, hz, rfl, rfl, hzs⟩ := slT_spec hT
  refine St.act hw rfl hdn fun a w ha hs => ?_
  have hs1 : Sat E F (row A k c e ti.size xs :: R) w := hs.perm (by subst hR; exact perm_erase i hi)
  have hkc : k ≤ c := by
    rcases hs1.row_owns.2 with ⟨hv, hk⟩ | ⟨g, cap, cur, hv, _, _, h3, _⟩
    · cases hv; exact Nat.le_refl _
    · cases hv; exact h3
  refine ⟨_, w, F, _, ?_, hs1, h⟩
  simp only [execOp, resolve, ev2 ha hx hy, Sem.run_bind, Sem.run_pure, Result.andThen_ok, invoke, Go.builtin]
  cases A with
  | none => simp [Builtin.append_, underlying, hu, sizeOf, typeInfo, hin, Builtin.lenOf, Builtin.firstCells, hkc]
  | some a => simp [Builtin.append_, underlying, hu, sizeOf, typeInfo, hin, Builtin.lenOf, Builtin.firstCells, hkc, storeCells]
theorem Yields.indexAddr {kd : IntKind} {j : Int} {ad p : Addr} (hT : slT P t e sz bytes = true) (hx : ev L x = some (.slice (some ad) k c)) (hy : ev L y = some (.int kd j)) (h0 : 0 ≤ j) (h1 : j < k) (hp : ad.add (j.toNat * sz) = p) : Yields P E n L F H ⟨dd, .indexAddr t x y, ty, pos, aft, gd⟩ (.pointer (some p)) := fun a w ha _ => by
  obtain ⟨ti, z, hu, hin, hz, rfl, rfl, hzs⟩ := slT_spec hT
  subst hp
  simp [execOp, ha.ev hx, ha.ev hy, Instr.indexAt, asIntOf, underlying, hu, sizeOf, typeInfo, hin, h0, h1]
theorem Yields.sliceTo {kd : IntKind} {j : Int} {k' : Nat} (hT : slT P t e sz bytes = true) (hx : ev L x = some (.slice A k c)) (hy : ev L y = some (.int kd j)) (hj : j = (k' : Int)) (h1 : k' ≤ c) : Yields P E n L F H ⟨dd, .slice t x none (some y) none, ty, pos, aft, gd⟩ (.slice A k' c) := fun a w ha _ => by
  obtain ⟨ti, z, hu, hin, hz, rfl, rfl, hzs⟩ := slT_spec hT
  subst hj
  simp only [execOp, ha.ev hx, Option.map_some, Option.map_none, ha.ev hy, Instr.sliceAt, underlying, Sem.run_bind, run_program, Result.andThen_ok, hu, Sem.run_pure, Instr.slice, Instr.sliceBounds, run_sliceBound w kd (k' : Int) c _ (by omega) (by omega), sizeOf, typeInfo, hin, Nat.zero_mul, Int.toNat_natCast]
  have : A.map (fun x => x.add 0) = A := by cases A <;> simp [add_zero']
  simp [this]
theorem Yields.sliceFrom {kd : IntKind} {j : Int} (hT : slT P t e sz bytes = true) (hx : ev L x = some (.slice A k c)) (hy : ev L y = some (.int kd j)) (h0 : 0 ≤ j) (h1 : j ≤ k) : Yields P E n L F H ⟨dd, .slice t x (some y) none none, ty, pos, aft, gd⟩ (.slice (if c = j.toNat then A else A.map (·.add (j.toNat * sz))) (k - j.toNat) (c - j.toNat)) := fun a w ha _ => by
  obtain ⟨ti, z, hu, hin, hz, rfl, rfl, hzs⟩ := slT_spec hT
  simp only [execOp, ha.ev hx, Option.map_some, Option.map_none, ha.ev hy, Instr.sliceAt, underlying, Sem.run_bind, run_program, Result.andThen_ok, hu, Sem.run_pure, Instr.slice, Instr.sliceBounds, run_sliceBound w kd j k _ h0 h1, sizeOf, typeInfo, hin]
theorem Yields.slice2 {kd kd2 : IntKind} {j l : Int} {z' : Operand} (hT : slT P t e sz bytes = true) (hx : ev L x = some (.slice A k c)) (hy : ev L y = some (.int kd j)) (hz : ev L z' = some (.int kd2 l)) (h0 : 0 ≤ j) (h1 : j ≤ l) (h2 : l ≤ c) : Yields P E n L F H ⟨dd, .slice t x (some y) (some z') none, ty, pos, aft, gd⟩ (.slice (if c = j.toNat then A else A.map (·.add (j.toNat * sz))) (l.toNat - j.toNat) (c - j.toNat)) := fun a w ha _ => by
  obtain ⟨ti, z, hu, hin, _, rfl, rfl, hzs⟩ := slT_spec hT
  simp only [execOp, ha.ev hx, Option.map_some, Option.map_none, ha.ev hy, ha.ev hz, Instr.sliceAt, underlying, Sem.run_bind, run_program, Result.andThen_ok, hu, Sem.run_pure, Instr.slice, Instr.sliceBounds, run_sliceBound w kd2 l c _ (by omega) h2, run_sliceBound w kd j l.toNat _ h0 (by omega), sizeOf, typeInfo, hin]
theorem St.buildSlice {len : Nat} {ps : Array (Nat × Operand)} {vs : Array (Nat × Value)} {cells : Array Value} (h1 : ∀ a, Has n a L → (ps.map fun (i, x) => (i, a.eval x)) = vs)
    (hr : ∀ w, (Instr.buildSlice t len vs).run P w = .ok (.slice (some ⟨w.heap.size, 0, none⟩) len len) (w.alloc (.cells cells e))) (hdn : Nat.blt d n = true) (hw : Wanted ops ⟨some d, .buildSlice t len ps, ty, pos, aft, gd⟩ L)
    (h : ∀ b, St (wpList P ops Q rest) E n ((d, .slice (some ⟨b, 0, none⟩) len len) :: L) F (blk b (.cells cells e (0, 0)) :: H)) : St (wpList P ops Q (⟨some d, .buildSlice t len ps, ty, pos, aft, gd⟩ :: rest)) E n L F H :=
  St.act hw rfl hdn fun a w ha hs => ⟨_, _, F, _, by
    simp only [execOp, h1 a ha, Sem.run_bind, hr w, Result.andThen_ok]
    rfl, hs.alloc _, h _⟩
/-- Rows as pieces. -/
theorem row_some (hk : 0 < k) {m : PH} (h : row A k c e sz xs m) : ∃ g, A = some ⟨g, 0, none⟩ := by
  rcases h.2 with ⟨_, h, _⟩ | ⟨g, cur, h, _⟩
  · omega
  · exact ⟨g, h⟩
theorem Sat.head_sep {c : Chunk} {w : World} (hs : Sat E F (c :: H) w) : ∃ m, c m ∧ m.inW w := by
  obtain ⟨m, ⟨m1, m2, h1, h2, h12, rfl⟩, hin, _⟩ := hs.mem
  exact ⟨m1, h1, fun b o e => hin b o (PH.le_un_left _ _ b o e)⟩
theorem St.row_some (i : Nat) (hi : H[i]? = some (row A k c e sz xs)) (hk : 0 < k) (h : ∀ g, A = some ⟨g, 0, none⟩ → St K E n L F H) : St K E n L F H := fun a w ha hs => by
  obtain ⟨m, hm, _⟩ := (hs.perm (perm_erase i hi)).head_sep
  obtain ⟨g, hg⟩ := Sy.row_some hk hm
  exact h g hg a w ha hs
theorem St.row_facts (i : Nat) (hi : H[i]? = some (row A k c e sz xs)) (h : xs.length = k * sz → k ≤ c → c ≤ maxLen → St K E n L F H) : St K E n L F H := fun a w ha hs => by
  obtain ⟨m, hm, _⟩ := (hs.perm (perm_erase i hi)).head_sep
  rcases hm.2 with ⟨rfl, rfl, rfl, _⟩ | ⟨g, cur, rfl, h1, h2, _⟩
  · exact h hm.1 (Nat.le_refl _) (Nat.zero_le _) a w ha hs
  · exact h hm.1 h1 h2 a w ha hs
/-- A piece is another piece too. -/
theorem Sat.weak {c c' : Chunk} {w : World} (hs : Sat E F (c :: H) w) (h : ∀ m, c m → c' m) : Sat E F (c' :: H) w :=
  hs.mk' (let ⟨m, ⟨m1, m2, h1, h2⟩, h3⟩ := hs.mem; ⟨m, ⟨m1, m2, h _ h1, h2⟩, h3⟩)
theorem St.weak {c c' : Chunk} (i : Nat) (hi : H[i]? = some c) (hR : H.eraseIdx i = R) (h : ∀ m, c m → c' m) (hst : St K E n L F (c' :: R)) : St K E n L F H :=
  St.pick i hi hR fun a w ha hs => hst a w ha (hs.weak h)
theorem row_take (k' : Nat) (hk : k' ≤ k) {m : PH} (h : row A k c e sz xs m) : row A k' c e sz (xs.take (k' * sz)) m := by
  obtain ⟨hl, h⟩ := h
  have hle : k' * sz ≤ k * sz := Nat.mul_le_mul_right _ hk
  refine ⟨by rw [List.length_take, hl]; omega, ?_⟩
  rcases h with ⟨rfl, rfl, rfl, rfl⟩ | ⟨g, cur, rfl, h1, h2, h3, h4, rfl⟩
  · exact .inl ⟨rfl, by omega, rfl, rfl⟩
  · exact .inr ⟨g, cur, rfl, by omega, h2, h3, by rw [← h4, List.take_take, Nat.min_eq_left hle], rfl⟩
theorem row_nil {m : PH} (h : ∀ b, m b = none) : row none 0 0 e sz [] m := ⟨by simp, .inl ⟨rfl, rfl, rfl, funext h⟩⟩
/-- A nil slice is a row. -/
theorem St.row_new (e sz : Nat) (h : St K E n L F (row none 0 0 e sz [] :: H)) : St K E n L F H := fun a w ha hs =>
  h a w ha (hs.mk' (let ⟨m, h1, h2, h3, h4⟩ := hs.mem
    ⟨m, ⟨PH.emp, m, row_nil fun _ => rfl, h1, fun _ _ e => (by unfold PH.emp at e; cases e), by funext b; rfl⟩, h2, h3, h4⟩))
/-- A block made whole is a row. -/
theorem row_of_blk {b : Nat} {cells : Array Value} {m : PH} (hs : cells.size = k * sz) (hk : k ≤ maxLen) (h : blk b (.cells cells e (0, 0)) m) : row (some ⟨b, 0, none⟩) k k e sz cells.toList m :=
  ⟨by simpa using hs, .inr ⟨b, cells, rfl, Nat.le_refl _, hk, hs, by rw [List.take_of_length_le (by simp; omega)], h⟩⟩
theorem blk_of_row {g : Nat} {m : PH} (h : row (some ⟨g, 0, none⟩) k c e sz xs m) : ∃ cur, k ≤ c ∧ c ≤ maxLen ∧ cur.size = c * sz ∧ cur.toList.take (k * sz) = xs ∧ blk g (.cells cur e (0, 0)) m := by
  rcases h.2 with ⟨h, _⟩ | ⟨g', cur, h, h1, h2, h3, h4, h5⟩
  · cases h
  · cases h; exact ⟨cur, h1, h2, h3, h4, h5⟩
theorem row_cell {g : Nat} {w : World} {off : Nat} {u : Value} (hs : Sat E F (row (some ⟨g, 0, none⟩) k c e sz xs :: H) w) (hu : xs[off]? = some u) : w.cell? ⟨g, off, none⟩ = some u := by
  have := (hs.row_owns).cells (g := g) rfl off u hu
  rwa [add_off, Nat.zero_add] at this
theorem Loads.row1 {g off : Nat} (i : Nat) (hi : H[i]? = some (row (some ⟨g, 0, none⟩) k c e sz xs)) {t : TypeId} (ht : cellT P t = true) (hu : xs[off]? = some u) : Loads P E F H t ⟨g, off, none⟩ u :=
  .cell_of ht fun _ hs => row_cell (hs.perm (perm_erase i hi)) hu
theorem Loads.rown {g off : Nat} (i : Nat) (hi : H[i]? = some (row (some ⟨g, 0, none⟩) k c e sz xs)) {t : TypeId} {us : List Value} (ht : aggT P t us.length = true) (hu : ∀ j u, us[j]? = some u → xs[off + j]? = some u) : Loads P E F H t ⟨g, off, none⟩ (.agg us.toArray) :=
  .agg_of ht fun _ hs j v e => by rw [add_off]; exact row_cell (hs.perm (perm_erase i hi)) (hu j v e)
theorem row_set {g off : Nat} {w : World} (hs : Sat E F (row (some ⟨g, 0, none⟩) k c e sz xs :: H) w) (v : Value) (_ho : off < xs.length) : Sat E F (row (some ⟨g, 0, none⟩) k c e sz (xs.set off v) :: H) (w.setCell ⟨g, off, none⟩ v) ∧ w.frozen? ⟨g, off, none⟩ = false := by
  obtain ⟨m, ⟨m1, m2, h1, h2, h12, rfl⟩, hin, hd, hu⟩ := hs.mem
  obtain ⟨cur, g1, g2, g3, g4, g5⟩ := blk_of_row h1
  have hs' : Sat E F (blk g (.cells cur e (0, 0)) :: H) w := hs.mk' ⟨_, ⟨m1, m2, g5, h2, h12, rfl⟩, hin, hd, hu⟩
  refine ⟨(hs'.setCell v).weak fun m hm => ⟨by simpa using h1.1, .inr ⟨g, _, rfl, g1, g2, by simpa using g3, ?_, hm⟩⟩, frozen_zero hs'.head off⟩
  rw [← g4, Array.toList_setIfInBounds, List.take_set]
theorem St.store_row {g off : Nat} {t : TypeId} (hx : ev L x = some (.pointer (some ⟨g, off, none⟩))) (hy : ev L y = some v) (i : Nat) (hi : H[i]? = some (row (some ⟨g, 0, none⟩) k c e sz xs)) (hR : H.eraseIdx i = R)
    (ht : cellT P t = true) (hv : v.oneCell' = true) (ho : off < xs.length) (hw : Wanted ops ⟨none, .store t x y, ty, pos, aft, gd⟩ L)
    (h : St (wpList P ops Q rest) E n L F (row (some ⟨g, 0, none⟩) k c e sz (xs.set off v) :: R)) : St (wpList P ops Q (⟨none, .store t x y, ty, pos, aft, gd⟩ :: rest)) E n L F H :=
  St.pick i hi hR (St.act0 hw rfl fun a w ha hs => by
    obtain ⟨hs', hf⟩ := row_set hs v ho
    have hc : w.cell? ⟨g, off, none⟩ = some xs[off] := row_cell hs (List.getElem?_eq_getElem ho)
    have hcs : v.cells = #[v] := by cases v <;> first | rfl | (simp [Value.oneCell'] at hv)
    refine ⟨_, F, _, ?_, hs', h⟩
    simp [execOp, ha.ev hx, ha.ev hy, Instr.storeAt, Instr.sureAddr, storeVar, hcs, cellT_size ht, storeCells, run_store _ _ _ _ _ hv, hc, add_zero', hf])
end
end

/-! ### kinds of data in the frozen part -/
structure Kind (α : Type) where
  sz : Nat
  R : PH → List Value → α → Prop
  len : ∀ {F cs x}, R F cs x → cs.length = sz
  mono : ∀ {F F' cs x}, PH.le F F' → R F cs x → R F' cs x
  one : ∀ {F cs x}, R F cs x → ∀ u ∈ cs, u.oneCell' = true
namespace Kind
def scalar {α : Type} (enc : α → Value) (h1 : ∀ x, (enc x).oneCell' = true) : Kind α where
  sz := 1
  R := fun _ cs x => cs = [enc x]
  len := fun h => by rw [h]; rfl
  mono := fun _ h => h
  one := fun h u hu => by rw [h] at hu; rw [List.mem_singleton.1 hu]; exact h1 _
def int (k : IntKind) : Kind Int := scalar (Value.int k) fun _ => rfl
def bool : Kind Bool := scalar Value.bool fun _ => rfl
def string : Kind ByteArray := scalar Value.string fun _ => rfl
def pair {α β : Type} (a : Kind α) (b : Kind β) : Kind (α × β) where
  sz := a.sz + b.sz
  R := fun F cs x => ∃ c0 c1, cs = c0 ++ c1 ∧ a.R F c0 x.1 ∧ b.R F c1 x.2
  len := fun ⟨c0, c1, h, h0, h1⟩ => by rw [h, List.length_append, a.len h0, b.len h1]
  mono := fun hl ⟨c0, c1, h, h0, h1⟩ => ⟨c0, c1, h, a.mono hl h0, b.mono hl h1⟩
  one := fun ⟨c0, c1, h, h0, h1⟩ u hu => by
    rw [h] at hu
    rcases List.mem_append.1 hu with hu | hu
    · exact a.one h0 u hu
    · exact b.one h1 u hu
def iso {α β : Type} (d : Kind α) (f : β → α) : Kind β where
  sz := d.sz
  R := fun F cs x => d.R F cs (f x)
  len := d.len
  mono := d.mono
  one := d.one
end Kind
/-- A row that is read. -/
def Slc {α : Type} (K : Kind α) (F : PH) (A : Option Addr) (n : Nat) (xs : List α) : Prop :=
  xs.length = n ∧ (n = 0 ∨ ∃ ad, A = some ad ∧ ∀ i x, xs[i]? = some x → ∃ cs, K.R F cs x ∧ ∀ j v, cs[j]? = some v → F.cell? ((ad.add (i * K.sz)).add j) = some v)
theorem Slc.mono {α : Type} {K : Kind α} {F F' : PH} (hl : PH.le F F') {A : Option Addr} {n : Nat} {xs : List α} (h : Slc K F A n xs) : Slc K F' A n xs := by
  refine ⟨h.1, ?_⟩
  rcases h.2 with h | ⟨ad, hA, h⟩
  · exact .inl h
  · refine .inr ⟨ad, hA, fun i x e => ?_⟩
    obtain ⟨cs, h1, h2⟩ := h i x e
    exact ⟨cs, K.mono hl h1, fun j v e => PH.cell?_le hl (h2 j v e)⟩
theorem Slc.get {α : Type} {K : Kind α} {F : PH} {A : Option Addr} {n : Nat} {xs : List α} (h : Slc K F A n xs) {i : Nat} {x : α} (hi : xs[i]? = some x) : ∃ ad cs, A = some ad ∧ K.R F cs x ∧ ∀ j v, cs[j]? = some v → F.cell? ((ad.add (i * K.sz)).add j) = some v := by
  rcases h.2 with h0 | ⟨ad, hA, h2⟩
  · have := (List.getElem?_eq_some_iff.1 hi).1
    have := h.1
    omega
  · obtain ⟨cs, h3, h4⟩ := h2 i x hi
    exact ⟨ad, cs, hA, h3, h4⟩
def Kind.slice {α : Type} (K : Kind α) : Kind (List α) where
  sz := 1
  R := fun F cs xs => ∃ A c, cs = [.slice A xs.length c] ∧ xs.length ≤ c ∧ Slc K F A xs.length xs
  len := fun ⟨A, c, h, _⟩ => by rw [h]; rfl
  mono := fun hl ⟨A, c, h, h1, h2⟩ => ⟨A, c, h, h1, h2.mono hl⟩
  one := fun ⟨A, c, h, _⟩ u hu => by rw [h] at hu; rw [List.mem_singleton.1 hu]; rfl
/-- Cells that are the elements' cells, one behind the other. -/
def Cat {α : Type} (K : Kind α) (F : PH) : List Value → List α → Prop
  | cs, [] => cs = []
  | cs, x :: xs => ∃ c r, cs = c ++ r ∧ K.R F c x ∧ Cat K F r xs
theorem Cat.mono {α : Type} {K : Kind α} {F F' : PH} (hl : PH.le F F') : ∀ {xs : List α} {cs : List Value}, Cat K F cs xs → Cat K F' cs xs
  | [], _, h => h
  | _ :: _, _, ⟨c, r, h, h1, h2⟩ => ⟨c, r, h, K.mono hl h1, Cat.mono hl h2⟩
theorem Cat.snoc {α : Type} {K : Kind α} {F : PH} {c : List Value} {x : α} (hx : K.R F c x) : ∀ {xs : List α} {cs : List Value}, Cat K F cs xs → Cat K F (cs ++ c) (xs ++ [x])
  | [], _, h => ⟨c, [], by rw [h]; simp, hx, rfl⟩
  | _ :: _, _, ⟨c1, r, h, h1, h2⟩ => ⟨c1, r ++ c, by rw [h, List.append_assoc], h1, Cat.snoc hx h2⟩
theorem Cat.length {α : Type} {K : Kind α} {F : PH} : ∀ {xs : List α} {cs : List Value}, Cat K F cs xs → cs.length = xs.length * K.sz
  | [], _, h => by rw [h]; simp
  | _ :: xs, _, ⟨c, r, h, h1, h2⟩ => by rw [h, List.length_append, K.len h1, Cat.length h2, List.length_cons, Nat.succ_mul]; omega
theorem Cat.get {α : Type} {K : Kind α} {F : PH} : ∀ {xs : List α} {cs : List Value}, Cat K F cs xs → ∀ {i : Nat} {x : α}, xs[i]? = some x → ∃ c, K.R F c x ∧ ∀ j v, c[j]? = some v → cs[i * K.sz + j]? = some v
  | [], _, _, i, x, e => by simp at e
  | y :: ys, _, ⟨c, r, h, h1, h2⟩, 0, x, e => by
    cases e
    refine ⟨c, h1, fun j v e => ?_⟩
    have := (List.getElem?_eq_some_iff.1 e).1
    rw [h, Nat.zero_mul, Nat.zero_add, List.getElem?_append_left this]; exact e
  | y :: ys, _, ⟨c, r, h, h1, h2⟩, i + 1, x, e => by
    obtain ⟨c', g1, g2⟩ := Cat.get h2 (i := i) (x := x) (by simpa using e)
    refine ⟨c', g1, fun j v e => ?_⟩
    rw [h, List.getElem?_append_right (by rw [K.len h1, Nat.succ_mul]; omega), K.len h1, show (i + 1) * K.sz + j - K.sz = i * K.sz + j by rw [Nat.succ_mul]; omega]
    exact g2 j v e
theorem Cat.take {α : Type} {K : Kind α} {F : PH} : ∀ {xs : List α} {cs : List Value} (k : Nat), Cat K F cs xs → Cat K F (cs.take (k * K.sz)) (xs.take k)
  | _, _, 0, h => by simp [Cat]
  | [], _, k + 1, h => by rw [h]; simp [Cat]
  | _ :: xs, _, k + 1, ⟨c, r, h, h1, h2⟩ => by
    refine ⟨c, r.take (k * K.sz), ?_, h1, Cat.take k h2⟩
    rw [h, Nat.succ_mul, Nat.add_comm, ← K.len h1, List.take_length_add_append]
theorem cells_inW {F : PH} {b : Nat} {cs : Array Value} {e : TypeId} {fz : Nat × Nat} (h : F b = some (.cells cs e fz)) (off : Nat) : F.cell? ⟨b, off, none⟩ = cs[off]? := by simp [PH.cell?, h]
theorem Slc.of_row {α : Type} {K : Kind α} {F : PH} {m : PH} {A : Option Addr} {k c e sz : Nat} {cells : List Value} {xs : List α} (h : row A k c e sz cells m) (_hsz : sz = K.sz) (hl : xs.length = k) (hc : Cat K F cells xs) (hmF : PH.le m F) : Slc K F A k xs := by
  refine ⟨hl, ?_⟩
  rcases h.2 with ⟨_, h, _⟩ | ⟨g, cur, rfl, h1, h2, h3, h4, rfl⟩
  · exact .inl h
  · refine .inr ⟨_, rfl, fun i x e => ?_⟩
    obtain ⟨c', g1, g2⟩ := hc.get e
    refine ⟨c', g1, fun j v e => ?_⟩
    have h5 := g2 j v e
    rw [add_off, Nat.zero_add, add_off, cells_inW (hmF g _ (PH.one_same g _))]
    rw [← h4, List.getElem?_take] at h5
    split at h5
    · simpa using h5
    · cases h5
section
variable {P : Program} {E : Env} {n : Nat} {L L' : List (Nat × Value)} {F F' : PH} {H H' R : List Chunk} {K : Act → World → Prop}
theorem St.freeze (i : Nat) {c : Chunk} (hi : H[i]? = some c) (hR : H.eraseIdx i = R) (h : ∀ m, c m → PH.le F (PH.un m F) → PH.le m (PH.un m F) → St K E n L (PH.un m F) R) : St K E n L F H :=
  St.pick i hi hR fun a w ha hs => by
    obtain ⟨m, hm, hd, hs'⟩ := hs.freeze
    exact h m hm (PH.le_un_right hd) (PH.le_un_left _ _) a w ha hs'
theorem St.freeze_blk (i : Nat) {b : Nat} {o : Obj} (hi : H[i]? = some (blk b o)) (hR : H.eraseIdx i = R) (h : ∀ F', PH.le F F' → F' b = some o → St K E n L F' R) : St K E n L F H :=
  St.freeze i hi hR fun _ hm h1 h2 => h _ h1 (h2 b o (by rw [hm]; exact PH.one_same b o))
theorem St.freeze_row {α : Type} {D : Kind α} (i : Nat) {A : Option Addr} {k c e sz : Nat} {cells : List Value} {xs : List α} (hi : H[i]? = some (row A k c e sz cells)) (hR : H.eraseIdx i = R) (hsz : sz = D.sz) (hl : xs.length = k) (hc : Cat D F cells xs)
    (h : ∀ F', PH.le F F' → Slc D F' A k xs → St K E n L F' R) : St K E n L F H :=
  St.freeze i hi hR fun _ hm h1 h2 => h _ h1 (Slc.of_row hm hsz hl (hc.mono h1) h2)
end
end Go.Sy
namespace Go.Sy
open Go Go.RowKit
section
variable {P : Program} {E : Env} {n : Nat} {L L' : List (Nat × Value)} {F F' : PH} {H H' R : List Chunk} {K : Act → World → Prop} {Q : Exit → Act → World → Prop}
theorem St.norm (h : St K E n L F H) : St (fun a w => Exit.then K Q .normal a w) E n L F H := h
theorem St.innorm {id : Nat} (h : St (fun a w => Q .normal a w) E n L F H) : St (fun a w => Exit.inBlock id Q .normal a w) E n L F H := h
theorem St.inexit {id : Nat} (h : St (fun a w => Q .normal a w) E n L F H) : St (fun a w => Exit.inBlock id Q (.exit id) a w) E n L F H := fun a w ha hs => by
  show (if id = id then Q .normal a w else Q (.exit id) a w)
  rw [if_pos rfl]; exact h a w ha hs
theorem St.thenexit {id : Nat} (h : St (fun a w => Q (.exit id) a w) E n L F H) : St (fun a w => Exit.then K Q (.exit id) a w) E n L F H := h
theorem St.thenret (h : St (fun a w => Q .ret a w) E n L F H) : St (fun a w => Exit.then K Q .ret a w) E n L F H := h
theorem St.inret {id : Nat} (h : St (fun a w => Q .ret a w) E n L F H) : St (fun a w => Exit.inBlock id Q .ret a w) E n L F H := h
theorem St.inpass {id j : Nat} (hne : Nat.beq j id = false) (h : St (fun a w => Q (.exit j) a w) E n L F H) : St (fun a w => Exit.inBlock id Q (.exit j) a w) E n L F H := fun a w ha hs => by
  show (if j = id then Q .normal a w else Q (.exit j) a w)
  rw [if_neg (fun e => by subst e; simp at hne)]; exact h a w ha hs
theorem St.use (h : St K E n L F H) {a : Act} {w : World} (ha : Has n a L) (hs : Sat E F H w) : K a w := h a w ha hs
theorem Loads.Fb {t : TypeId} {b off : Nat} {cs : Array Value} {e : TypeId} {fz : Nat × Nat} {v : Value} (hb : F b = some (.cells cs e fz)) (ht : cellT P t = true) (hc : cs[off]? = some v) : Loads P E F H t ⟨b, off, none⟩ v := Loads.F1 ht (by rw [cells_inW hb]; exact hc)
theorem Loads.Fbn {t : TypeId} {b off : Nat} {cs : Array Value} {e : TypeId} {fz : Nat × Nat} {vs : List Value} (hb : F b = some (.cells cs e fz)) (ht : aggT P t vs.length = true) (hc : ∀ j v, vs[j]? = some v → cs[off + j]? = some v) : Loads P E F H t ⟨b, off, none⟩ (.agg vs.toArray) := Loads.Fn ht (fun j v e => by rw [add_off, cells_inW hb]; exact hc j v e)
theorem ev0 {a : Act} : (#[] : Array Operand).map a.eval = #[] := by simp
theorem ev3 {a : Act} (ha : Has n a L) {x1 x2 x3 : Operand} {v1 v2 v3 : Value} (h1 : ev L x1 = some v1) (h2 : ev L x2 = some v2) (h3 : ev L x3 = some v3) : #[x1, x2, x3].map a.eval = #[v1, v2, v3] := by simp [ha.ev h1, ha.ev h2, ha.ev h3]
theorem ev4 {a : Act} (ha : Has n a L) {x1 x2 x3 x4 : Operand} {v1 v2 v3 v4 : Value} (h1 : ev L x1 = some v1) (h2 : ev L x2 = some v2) (h3 : ev L x3 = some v3) (h4 : ev L x4 = some v4) : #[x1, x2, x3, x4].map a.eval = #[v1, v2, v3, v4] := by simp [ha.ev h1, ha.ev h2, ha.ev h3, ha.ev h4]
theorem ev5 {a : Act} (ha : Has n a L) {x1 x2 x3 x4 x5 : Operand} {v1 v2 v3 v4 v5 : Value} (h1 : ev L x1 = some v1) (h2 : ev L x2 = some v2) (h3 : ev L x3 = some v3) (h4 : ev L x4 = some v4) (h5 : ev L x5 = some v5) : #[x1, x2, x3, x4, x5].map a.eval = #[v1, v2, v3, v4, v5] := by simp [ha.ev h1, ha.ev h2, ha.ev h3, ha.ev h4, ha.ev h5]
theorem evp1 {a : Act} (ha : Has n a L) {i1 : Nat} {x1 : Operand} {v1 : Value} (h1 : ev L x1 = some v1) : (#[(i1, x1)].map fun (i, x) => (i, a.eval x)) = #[(i1, v1)] := by simp [ha.ev h1]
theorem evp2 {a : Act} (ha : Has n a L) {i1 i2 : Nat} {x1 x2 : Operand} {v1 v2 : Value} (h1 : ev L x1 = some v1) (h2 : ev L x2 = some v2) : (#[(i1, x1), (i2, x2)].map fun (i, x) => (i, a.eval x)) = #[(i1, v1), (i2, v2)] := by simp [ha.ev h1, ha.ev h2]
theorem evp3 {a : Act} (ha : Has n a L) {i1 i2 i3 : Nat} {x1 x2 x3 : Operand} {v1 v2 v3 : Value} (h1 : ev L x1 = some v1) (h2 : ev L x2 = some v2) (h3 : ev L x3 = some v3) : (#[(i1, x1), (i2, x2), (i3, x3)].map fun (i, x) => (i, a.eval x)) = #[(i1, v1), (i2, v2), (i3, v3)] := by simp [ha.ev h1, ha.ev h2, ha.ev h3]
theorem evp4 {a : Act} (ha : Has n a L) {i1 i2 i3 i4 : Nat} {x1 x2 x3 x4 : Operand} {v1 v2 v3 v4 : Value} (h1 : ev L x1 = some v1) (h2 : ev L x2 = some v2) (h3 : ev L x3 = some v3) (h4 : ev L x4 = some v4) : (#[(i1, x1), (i2, x2), (i3, x3), (i4, x4)].map fun (i, x) => (i, a.eval x)) = #[(i1, v1), (i2, v2), (i3, v3), (i4, v4)] := by simp [ha.ev h1, ha.ev h2, ha.ev h3, ha.ev h4]
theorem evp5 {a : Act} (ha : Has n a L) {i1 i2 i3 i4 i5 : Nat} {x1 x2 x3 x4 x5 : Operand} {v1 v2 v3 v4 v5 : Value} (h1 : ev L x1 = some v1) (h2 : ev L x2 = some v2) (h3 : ev L x3 = some v3) (h4 : ev L x4 = some v4) (h5 : ev L x5 = some v5) : (#[(i1, x1), (i2, x2), (i3, x3), (i4, x4), (i5, x5)].map fun (i, x) => (i, a.eval x)) = #[(i1, v1), (i2, v2), (i3, v3), (i4, v4), (i5, v5)] := by simp [ha.ev h1, ha.ev h2, ha.ev h3, ha.ev h4, ha.ev h5]
theorem Loads.Hk {t : TypeId} {b off k : Nat} {vs : List Value} (i : Nat) {cs : Array Value} {e : TypeId} {fz : Nat × Nat} (hi : H[i]? = some (blk b (.cells cs e fz))) (ht : aggT P t k = true) (hvs : (cs.toList.drop off).take k = vs) (hk : vs.length = k) : Loads P E F H t ⟨b, off, none⟩ (.agg vs.toArray) :=
  Loads.Hn i hi (by rw [hk]; exact ht) fun j v e => by
    rw [← hvs, List.getElem?_take] at e
    split at e
    · rw [List.getElem?_drop] at e; simpa using e
    · cases e
theorem Loads.Fk {t : TypeId} {b off k : Nat} {vs : List Value} {cs : Array Value} {e : TypeId} {fz : Nat × Nat} (hb : F b = some (.cells cs e fz)) (ht : aggT P t k = true) (hvs : (cs.toList.drop off).take k = vs) (hk : vs.length = k) : Loads P E F H t ⟨b, off, none⟩ (.agg vs.toArray) :=
  Loads.Fbn hb (by rw [hk]; exact ht) fun j v e => by
    rw [← hvs, List.getElem?_take] at e
    split at e
    · rw [List.getElem?_drop] at e; simpa using e
    · cases e
theorem news_blk {w : World} {b : Nat} {cs : Array Value} {e : TypeId} {fz : Nat × Nat} (h : w.heap[b]? = some (.cells cs e fz)) (j : Nat) (u : Value) (hu : cs.toList[j]? = some u) : w.cell? (Addr.add ⟨b, 0, none⟩ j) = some u := by
  rw [add_off, Nat.zero_add, cell_of_block h]; simpa using hu
variable {d : Nat} {ty : TypeId} {pos : String} {aft : Array Edge} {gd : Option (Nat × Bool)} {x y s : Operand} {t e sz bytes : Nat} {A : Option Addr} {k c m c2 : Nat} {xs : List Value} {ops : Array Oper} {rest : List Oper}
/-- append of a literal's cells. -/
theorem St.append_lit (hT : slT P t e sz bytes = true) (hsz : Nat.blt 0 sz = true) (hx : ev L s = some (.slice A k c)) {b : Nat} {cs : Array Value} {e' : TypeId} (hy : ev L y = some (.slice (some ⟨b, 0, none⟩) m c2)) (i : Nat) (hi : H[i]? = some (row A k c e sz xs)) (hR : H.eraseIdx i = R)
    (i2 : Nat) (hi2 : H[i2]? = some (blk b (.cells cs e' (0, 0)))) (hl : Nat.beq cs.toList.length (m * sz) = true) (h1 : cs.toList.all Value.oneCell' = true) (hb : k + m ≤ 1000000000) (hby : Nat.ble bytes 1000 = true)
    (hdn : Nat.blt d n = true) (hw : Wanted ops ⟨some d, .call ⟨.builtin .append, #[s, y], #[t, t]⟩, ty, pos, aft, gd⟩ L)
    (h : ∀ A' c', St (wpList P ops Q rest) E n ((d, .slice A' (k + m) c') :: L) F (row A' (k + m) c' e sz (xs ++ cs.toList) :: R)) : St (wpList P ops Q (⟨some d, .call ⟨.builtin .append, #[s, y], #[t, t]⟩, ty, pos, aft, gd⟩ :: rest)) E n L F H :=
  St.append hT hsz hx hy i hi hR (Nat.eq_of_beq_eq_true hl) (fun _ hs => news_blk (hs.at hi2)) (fun u hu => (List.all_eq_true.1 h1) u hu) (by unfold maxLen; omega)
    (Nat.le_trans (Nat.mul_le_mul hb (Nat.le_of_ble_eq_true hby)) (by decide)) hdn hw h
theorem calm_of {fn : Func} {w0 : World} {m F0 : PH} {Post : Value → PH → List Chunk → Prop} : Calm (bodyPost P fn (Back w0 m F0 Post)) := by
  rintro c a w ⟨_, v, F', H', h, _⟩
  cases h
theorem Calm.then {K : Act → World → Prop} (h : Calm Q) : Calm (Exit.then K Q) := fun c a w e => h c a w e
theorem Calm.inBlock {id : Nat} (h : Calm Q) : Calm (Exit.inBlock id Q) := fun c a w e => h c a w e
end
end Go.Sy
