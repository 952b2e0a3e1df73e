/- The calculus's rules for code and for single operations. -/
import Derived.Test.YtjkcinpmbgcgpaaGreatDoorSy
import Derived.Deep.LoopGhost
import Derived.Laws.Cells
import Derived.IntWalk
namespace Go.Sy
open Go Go.RowKit
section
variable {P : Program} {E : Env} {n : Nat} {L L' : List (Nat × Value)} {F F' : PH} {H H' : List Chunk} {K : Act → World → Prop} {Q : Exit → Act → World → Prop} {ops : Array Oper} {rest : List Oper}

/-! ### code -/
theorem St.seq {x y : Code} (h : St (x.wp P (Exit.then (y.wp P Q) Q)) E n L F H) : St ((Code.seq x y).wp P Q) E n L F H := fun a w ha hs => wp_seq (h a w ha hs)
theorem St.cond_t {c : Operand} {x y : Code} (hc : ev L c = some (.bool true)) (h : St (x.wp P Q) E n L F H) : St ((Code.cond c x y).wp P Q) E n L F H :=
  fun a w ha hs => wp_cond_true (ha.ev hc) (h a w ha hs)
theorem St.cond_f {c : Operand} {x y : Code} (hc : ev L c = some (.bool false)) (h : St (y.wp P Q) E n L F H) : St ((Code.cond c x y).wp P Q) E n L F H :=
  fun a w ha hs => wp_cond_false (ha.ev hc) (h a w ha hs)
theorem St.cond_b {c : Operand} {x y : Code} {b : Bool} (hc : ev L c = some (.bool b)) (h1 : b = true → St (x.wp P Q) E n L F H) (h2 : b = false → St (y.wp P Q) E n L F H) : St ((Code.cond c x y).wp P Q) E n L F H :=
  fun a w ha hs => wp_cond_split (ha.ev hc) (fun e => h1 e a w ha hs) (fun e => h2 e a w ha hs)
theorem St.skip (h : St (fun a w => Q .normal a w) E n L F H) : St (Code.skip.wp P Q) E n L F H := fun a w ha hs => wp_skip (h a w ha hs)
theorem St.ret (h : St (fun a w => Q .ret a w) E n L F H) : St (Code.ret.wp P Q) E n L F H := fun a w ha hs => wp_ret (h a w ha hs)
theorem St.exit {id : Nat} (h : St (fun a w => Q (.exit id) a w) E n L F H) : St ((Code.exit id).wp P Q) E n L F H := fun a w ha hs => wp_exit (h a w ha hs)
theorem St.block {id : Nat} {c : Code} (h : St (c.wp P (Exit.inBlock id Q)) E n L F H) : St ((Code.block id c).wp P Q) E n L F H := fun a w ha hs => wp_block (h a w ha hs)
theorem St.region {id : Nat} {l : List Oper} (h : St (wpList P l.toArray Q l) E n L F H) : St ((Code.region id l.toArray false).wp P Q) E n L F H := fun a w ha hs => wp_region_lit (h a w ha hs)
theorem St.nil (h : St (fun a w => Q .normal a w) E n L F H) : St (wpList P ops Q []) E n L F H := fun a w ha hs => wpList_nil (h a w ha hs)
/-- What stands behind is met again in one state: the state is told by a predicate. -/
theorem St.cut {x y : Code} {I : Act → World → Prop} (h1 : St (x.wp P (Exit.then I Q)) E n L F H) (h2 : ∀ a w, I a w → y.wp P Q a w) : St ((Code.seq x y).wp P Q) E n L F H := fun a w ha hs =>
  wp_seq (Code.wp_mono (fun e a' w' hq => by
    cases e with
    | normal => exact h2 a' w' hq
    | _ => exact hq) (h1 a w ha hs))
theorem St.loop {c : Code} (I : Nat → Act → World → Prop) (m : Nat) (h0 : St (I m) E n L F H)
    (hr : ∀ m a w, I m a w → c.wp P (Exit.then (fun a' w' => ∃ m', m' < m ∧ I m' a' w') Q) a w) : St ((Code.loop c).wp P Q) E n L F H :=
  fun a w ha hs => wp_loop_ghost I m (h0 a w ha hs) hr

/-! ### one operation -/
def Wanted (ops : Array Oper) (o : Oper) (L : List (Nat × Value)) : Prop :=
  match o.guard with
  | none => True
  | some (j, b) => ((ops[j]?).bind (·.dst)).bind (look L) = some (.bool b)
def Unwanted (ops : Array Oper) (o : Oper) (L : List (Nat × Value)) : Prop :=
  match o.guard with
  | none => False
  | some (j, b) => match ((ops[j]?).bind (·.dst)).bind (look L) with
    | some (.bool c) => c = !b
    | some _ => True
    | none => False
theorem Wanted.holds {o : Oper} {a : Act} (h : Wanted ops o L) (ha : Has n a L) : Region.wanted o (yielded ops a.tmps) = true := by
  unfold Wanted at h
  unfold Region.wanted
  split
  · rfl
  · rename_i j b hg
    rw [hg] at h
    simp only at h
    obtain ⟨d, h1, h2⟩ := Option.bind_eq_some_iff.1 h
    have h3 := ha.get d _ h2
    simp [yielded, h1, h3]
theorem Unwanted.holds {o : Oper} {a : Act} (h : Unwanted ops o L) (ha : Has n a L) : Region.wanted o (yielded ops a.tmps) = false := by
  unfold Unwanted at h
  unfold Region.wanted
  split
  · rename_i hg; rw [hg] at h; exact h.elim
  · rename_i j b hg
    rw [hg] at h
    simp only at h
    cases hv : ((ops[j]?).bind (·.dst)).bind (look L) with
    | none => rw [hv] at h; exact h.elim
    | some v =>
      rw [hv] at h
      obtain ⟨d, h1, h2⟩ := Option.bind_eq_some_iff.1 hv
      have h3 := ha.get d _ h2
      simp only [yielded, h1, Option.bind_some, h3]
      cases v <;> first | (subst h; cases b <;> rfl) | rfl
theorem St.unwanted {o : Oper} {d : Nat} (hu : Unwanted ops o L) (hd : o.dst = some d) (hdn : Nat.blt d n = true) (h : St (wpList P ops Q rest) E n ((d, undef) :: L) F H) : St (wpList P ops Q (o :: rest)) E n L F H := by
  intro a w ha hs
  refine wpList_step fun K hK => ?_
  rw [if_neg (by rw [hu.holds ha]; decide), hd]
  exact hK _ _ (h _ w (ha.put hdn) hs)
theorem St.unwanted0 {o : Oper} (hu : Unwanted ops o L) (hd : o.dst = none) (h : St (wpList P ops Q rest) E n L F H) : St (wpList P ops Q (o :: rest)) E n L F H := by
  intro a w ha hs
  refine wpList_step fun K hK => ?_
  rw [if_neg (by rw [hu.holds ha]; decide), hd]
  exact hK _ _ (h _ w ha hs)
/-- An operation by its own rule. -/
theorem St.op {o : Oper} (hw : Wanted ops o L) (h : ∀ Kn : Act → World → Prop, (∀ a w, wpList P ops Q rest a w → Kn a w) → ∀ a w, Has n a L → Sat E F H w → o.wp P a w Kn Q) : St (wpList P ops Q (o :: rest)) E n L F H := by
  intro a w ha hs
  refine wpList_step fun K hK => ?_
  rw [if_pos (hw.holds ha)]
  exact h K hK a w ha hs
/-- The operation leaves a value and the world as it is. -/
def Yields (P : Program) (E : Env) (n : Nat) (L : List (Nat × Value)) (F : PH) (H : List Chunk) (o : Oper) (v : Value) : Prop :=
  ∀ a w, Has n a L → Sat E F H w → (execOp a.eval o).run P w = .ok (.value v) w
theorem St.val {o : Oper} {d : Nat} {v : Value} (hy : Yields P E n L F H o v) (hw : Wanted ops o L) (hd : o.dst = some d) (hdn : Nat.blt d n = true)
    (h : St (wpList P ops Q rest) E n ((d, v) :: L) F H) : St (wpList P ops Q (o :: rest)) E n L F H :=
  St.op hw fun K hK a w ha hs => by
    unfold Oper.wp
    rw [hy a w ha hs, Oper.upon_value, hd]
    exact hK _ _ (h _ w (ha.put hdn) hs)
/-- An operation that leaves a value and turns the world. -/
theorem St.act {o : Oper} {d : Nat} (hw : Wanted ops o L) (hd : o.dst = some d) (hdn : Nat.blt d n = true)
    (h : ∀ a w, Has n a L → Sat E F H w → ∃ v w' F' H', (execOp a.eval o).run P w = .ok (.value v) w' ∧ Sat E F' H' w' ∧ St (wpList P ops Q rest) E n ((d, v) :: L) F' H') : St (wpList P ops Q (o :: rest)) E n L F H :=
  St.op hw fun K hK a w ha hs => by
    obtain ⟨v, w', F', H', hr, hs', hst⟩ := h a w ha hs
    unfold Oper.wp
    rw [hr, Oper.upon_value, hd]
    exact hK _ _ (hst _ w' (ha.put hdn) hs')
theorem St.act0 {o : Oper} (hw : Wanted ops o L) (hd : o.dst = none)
    (h : ∀ a w, Has n a L → Sat E F H w → ∃ w' F' H', (execOp a.eval o).run P w = .ok .skip w' ∧ Sat E F' H' w' ∧ St (wpList P ops Q rest) E n L F' H') : St (wpList P ops Q (o :: rest)) E n L F H :=
  St.op hw fun K hK a w ha hs => by
    obtain ⟨w', F', H', hr, hs', hst⟩ := h a w ha hs
    unfold Oper.wp
    rw [hr, Oper.upon_skip, hd]
    exact hK _ _ (hst _ w' ha hs')

/-! ### what types are -/
def cellT (P : Program) (t : TypeId) : Bool :=
  match P.underlying t, P.info? t with
  | some (.struct _), _ | some (.array _ _), _ => false
  | some _, some i => i.size == 1
  | _, _ => false
def aggT (P : Program) (t : TypeId) (sz : Nat) : Bool :=
  match P.underlying t, P.info? t with
  | some (.struct _), some i | some (.array _ _), some i => i.size == sz
  | _, _ => false
theorem cellT_isAgg {t : TypeId} (h : cellT P t = true) (w : World) : (isAgg t).run P w = .ok false w := by
  unfold cellT at h
  unfold isAgg underlying
  cases hu : P.underlying t with
  | none => rw [hu] at h; simp at h
  | some d => cases d <;> simp [hu] at h ⊢
theorem cellT_size {t : TypeId} (h : cellT P t = true) (w : World) : (sizeOf t).run P w = .ok 1 w := by
  unfold cellT at h
  unfold sizeOf typeInfo
  cases hi : P.info? t with
  | none => cases hu : P.underlying t with
    | none => simp [hu, hi] at h
    | some d => cases d <;> simp [hu, hi] at h
  | some i =>
    have : i.size = 1 := by
      cases hu : P.underlying t with
      | none => simp [hu, hi] at h
      | some d => cases d <;> simp [hu, hi] at h <;> exact h
    simp [hi, this]
theorem aggT_isAgg {t : TypeId} {sz : Nat} (h : aggT P t sz = true) (w : World) : (isAgg t).run P w = .ok true w := by
  unfold aggT at h
  unfold isAgg underlying
  cases hu : P.underlying t with
  | none => rw [hu] at h; simp at h
  | some d => cases d <;> simp [hu] at h ⊢
theorem aggT_size {t : TypeId} {sz : Nat} (h : aggT P t sz = true) (w : World) : (sizeOf t).run P w = .ok sz w := by
  unfold aggT at h
  unfold sizeOf typeInfo
  cases hi : P.info? t with
  | none => cases hu : P.underlying t with
    | none => simp [hu, hi] at h
    | some d => cases d <;> simp [hu, hi] at h
  | some i =>
    have : i.size = sz := by
      cases hu : P.underlying t with
      | none => simp [hu, hi] at h
      | some d => cases d <;> simp [hu, hi] at h <;> exact h
    simp [hi, this]

/-! ### loads -/
def Loads (P : Program) (E : Env) (F : PH) (H : List Chunk) (t : TypeId) (p : Addr) (v : Value) : Prop := ∀ w, Sat E F H w → (loadVar t p).run P w = .ok v w
theorem Loads.cell_of {t : TypeId} {p : Addr} {v : Value} (ht : cellT P t = true) (hc : ∀ w, Sat E F H w → w.cell? p = some v) : Loads P E F H t p v := fun w hs => by
  simp [loadVar, cellT_isAgg ht, hc w hs]
theorem Loads.agg_of {t : TypeId} {p : Addr} {cs : List Value} (ht : aggT P t cs.length = true) (hc : ∀ w, Sat E F H w → ∀ j v, cs[j]? = some v → w.cell? (p.add j) = some v) : Loads P E F H t p (.agg cs.toArray) := fun w hs => by
  simp only [loadVar, Sem.run_bind, aggT_isAgg ht, Result.andThen_ok, if_true, aggT_size ht]
  rw [run_loadCells_list w p cs (hc w hs)]
  rfl
theorem Loads.F1 {t : TypeId} {p : Addr} {v : Value} (ht : cellT P t = true) (hc : F.cell? p = some v) : Loads P E F H t p v := .cell_of ht fun _ hs => PH.cell?_inW hs.frz hc
theorem Loads.Fn {t : TypeId} {p : Addr} {cs : List Value} (ht : aggT P t cs.length = true) (hc : ∀ j v, cs[j]? = some v → F.cell? (p.add j) = some v) : Loads P E F H t p (.agg cs.toArray) := .agg_of ht fun _ hs j v e => PH.cell?_inW hs.frz (hc j v e)
theorem Sat.at {w : World} (hs : Sat E F H w) {i : Nat} {b : Nat} {o : Obj} (hi : H[i]? = some (blk b o)) : w.heap[b]? = some o := (hs.perm (perm_erase i hi)).head
theorem cell_of_block {w : World} {b : Nat} {cs : Array Value} {t : TypeId} {fz : Nat × Nat} (h : w.heap[b]? = some (.cells cs t fz)) (off : Nat) : w.cell? ⟨b, off, none⟩ = cs[off]? := by simp [World.cell?, h]
theorem Loads.H1 {t : TypeId} {b off : Nat} {v : Value} (i : Nat) {cs : Array Value} {e : TypeId} {fz : Nat × Nat} (hi : H[i]? = some (blk b (.cells cs e fz))) (ht : cellT P t = true) (hc : cs[off]? = some v) : Loads P E F H t ⟨b, off, none⟩ v :=
  .cell_of ht fun _ hs => (cell_of_block (hs.at hi) off).trans hc
theorem Loads.Hn {t : TypeId} {b off : Nat} {vs : List Value} (i : Nat) {cs : Array Value} {e : TypeId} {fz : Nat × Nat} (hi : H[i]? = some (blk b (.cells cs e fz))) (ht : aggT P t vs.length = true) (hc : ∀ j v, vs[j]? = some v → cs[off + j]? = some v) : Loads P E F H t ⟨b, off, none⟩ (.agg vs.toArray) :=
  .agg_of ht fun _ hs j v e => by
    have : (Addr.add ⟨b, off, none⟩ j) = ⟨b, off + j, none⟩ := by unfold Addr.add; split <;> simp_all
    rw [this]; exact (cell_of_block (hs.at hi) _).trans (hc j v e)

/-! ### operations that leave a value -/
section
variable {d : Option Nat} {ty : TypeId} {pos : String} {aft : Array Edge} {g : Option (Nat × Bool)} {x y : Operand} {v u : Value}
theorem Yields.move (hx : ev L x = some v) : Yields P E n L F H ⟨d, .move x, ty, pos, aft, g⟩ v := fun a w ha _ => by simp [execOp, ha.ev hx]
theorem Yields.assign (hx : ev L x = some v) : Yields P E n L F H ⟨d, .assign x, ty, pos, aft, g⟩ v := fun a w ha _ => by simp [execOp, ha.ev hx]
theorem Yields.pick_t {c : Operand} (hc : ev L c = some (.bool true)) (hx : ev L x = some v) : Yields P E n L F H ⟨d, .pick c x y, ty, pos, aft, g⟩ v := fun a w ha _ => by simp [execOp, ha.ev hc, ha.ev hx, asBool]
theorem Yields.pick_f {c : Operand} (hc : ev L c = some (.bool false)) (hy : ev L y = some v) : Yields P E n L F H ⟨d, .pick c x y, ty, pos, aft, g⟩ v := fun a w ha _ => by simp [execOp, ha.ev hc, ha.ev hy, asBool]
theorem Yields.load {t : TypeId} {p : Addr} (hx : ev L x = some (.pointer (some p))) (hl : Loads P E F H t p v) : Yields P E n L F H ⟨d, .load t x, ty, pos, aft, g⟩ v := fun a w ha hs => by
  simp [execOp, ha.ev hx, Instr.loadAt, Instr.sureAddr, hl w hs]
theorem Yields.nilCheck {p : Addr} (hx : ev L x = some (.pointer (some p))) : Yields P E n L F H ⟨d, .nilCheck x, ty, pos, aft, g⟩ (.pointer (some p)) := fun a w ha _ => by simp [execOp, ha.ev hx]
theorem Yields.nilCheckFunc {f : FuncId} {fs cs : Array Value} (hx : ev L x = some (.func (.func f) fs cs)) : Yields P E n L F H ⟨d, .nilCheck x, ty, pos, aft, g⟩ (.func (.func f) fs cs) := fun a w ha _ => by simp [execOp, ha.ev hx]
theorem Yields.fieldAddr {s : TypeId} {k : Nat} (hx : ev L x = some u) (hr : ∀ w, (Instr.fieldAt s u k).run P w = .ok v w) : Yields P E n L F H ⟨d, .fieldAddr s x k, ty, pos, aft, g⟩ v := fun a w ha _ => by simp [execOp, ha.ev hx, hr]
theorem Yields.field {s : TypeId} {k : Nat} (hx : ev L x = some u) (hr : ∀ w, (Instr.field s u k).run P w = .ok v w) : Yields P E n L F H ⟨d, .field s x k, ty, pos, aft, g⟩ v := fun a w ha _ => by simp [execOp, ha.ev hx, hr]
theorem Yields.extract {k : Nat} {vs : Array Value} (hx : ev L x = some (.tuple vs)) (hk : vs[k]? = some v) : Yields P E n L F H ⟨d, .extract x k, ty, pos, aft, g⟩ v := fun a w ha _ => by simp [execOp, ha.ev hx, Instr.extract, hk]
theorem Yields.makeFunc {fn : Fn} {fs cs : Array Operand} {vs us : Array Value} (h1 : ∀ a, Has n a L → fs.map a.eval = vs) (h2 : ∀ a, Has n a L → cs.map a.eval = us) : Yields P E n L F H ⟨d, .makeFunc fn fs cs, ty, pos, aft, g⟩ (.func fn vs us) := fun a w ha _ => by simp [execOp, h1 a ha, h2 a ha, Instr.makeFunc]
theorem Yields.build {t : TypeId} {ps : Array (Nat × Operand)} {vs : Array (Nat × Value)} (h1 : ∀ a, Has n a L → (ps.map fun (i, x) => (i, a.eval x)) = vs) (hr : ∀ w, (Instr.build t vs).run P w = .ok v w) : Yields P E n L F H ⟨d, .build t ps, ty, pos, aft, g⟩ v := fun a w ha _ => by
  simp only [execOp, h1 a ha]; simp [hr]
/-- The integers. -/
theorem Yields.bin {op : BinOp} {t yt : TypeId} {v1 v2 : Value} (hx : ev L x = some v1) (hy : ev L y = some v2) (hg : ∀ w, (eqGuard op t x y v1 v2).run P w = .ok () w) (hr : ∀ w, (binOp op t v1 v2).run P w = .ok v w) : Yields P E n L F H ⟨d, .binOp op t x y yt, ty, pos, aft, g⟩ v := fun a w ha _ => by
  simp [execOp, ha.ev hx, ha.ev hy, hg, hr]
theorem Yields.int {op : BinOp} {t yt : TypeId} {k : IntKind} {i j : Int} (hx : ev L x = some (.int k i)) (hy : ev L y = some (.int k j)) (hr : ∀ w, (binOp op t (.int k i) (.int k j)).run P w = .ok v w) : Yields P E n L F H ⟨d, .binOp op t x y yt, ty, pos, aft, g⟩ v :=
  Yields.bin hx hy (fun w => by cases op <;> rfl) hr
theorem Yields.add {t yt : TypeId} {i j : Int} (hx : ev L x = some (.int .i64 i)) (hy : ev L y = some (.int .i64 j)) (h0 : -9223372036854775808 ≤ i + j) (h1 : i + j < 9223372036854775808) : Yields P E n L F H ⟨d, .binOp .add t x y yt, ty, pos, aft, g⟩ (.int .i64 (i + j)) :=
  Yields.int hx hy fun w => by
    have : IntKind.i64.wrap (i + j) = i + j := IntWalk.i64_in _ (by omega)
    simp [binOp, Op.intArith, this]
theorem Yields.sub {t yt : TypeId} {i j : Int} (hx : ev L x = some (.int .i64 i)) (hy : ev L y = some (.int .i64 j)) (h0 : -9223372036854775808 ≤ i - j) (h1 : i - j < 9223372036854775808) : Yields P E n L F H ⟨d, .binOp .sub t x y yt, ty, pos, aft, g⟩ (.int .i64 (i - j)) :=
  Yields.int hx hy fun w => by
    have : IntKind.i64.wrap (i - j) = i - j := IntWalk.i64_in _ (by omega)
    simp [binOp, Op.intArith, this]
theorem Yields.mul {t yt : TypeId} {i j : Int} (hx : ev L x = some (.int .i64 i)) (hy : ev L y = some (.int .i64 j)) (h0 : -9223372036854775808 ≤ i * j) (h1 : i * j < 9223372036854775808) : Yields P E n L F H ⟨d, .binOp .mul t x y yt, ty, pos, aft, g⟩ (.int .i64 (i * j)) :=
  Yields.int hx hy fun w => by
    have : IntKind.i64.wrap (i * j) = i * j := IntWalk.i64_in _ (by omega)
    simp [binOp, Op.intArith, this]
theorem Yields.eq {t yt : TypeId} {k : IntKind} {i j : Int} (hx : ev L x = some (.int k i)) (hy : ev L y = some (.int k j)) : Yields P E n L F H ⟨d, .binOp .eql t x y yt, ty, pos, aft, g⟩ (.bool (decide (i = j))) :=
  Yields.int hx hy fun w => by simp [binOp, Op.intCmp]; rfl
theorem Yields.ne {t yt : TypeId} {k : IntKind} {i j : Int} (hx : ev L x = some (.int k i)) (hy : ev L y = some (.int k j)) : Yields P E n L F H ⟨d, .binOp .neq t x y yt, ty, pos, aft, g⟩ (.bool (!decide (i = j))) :=
  Yields.int hx hy fun w => by simp [binOp, Op.intCmp, bne]; rfl
theorem Yields.lt {t yt : TypeId} {k : IntKind} {i j : Int} (hx : ev L x = some (.int k i)) (hy : ev L y = some (.int k j)) : Yields P E n L F H ⟨d, .binOp .lss t x y yt, ty, pos, aft, g⟩ (.bool (decide (i < j))) :=
  Yields.int hx hy fun w => by simp [binOp, Op.intCmp]
theorem Yields.le {t yt : TypeId} {k : IntKind} {i j : Int} (hx : ev L x = some (.int k i)) (hy : ev L y = some (.int k j)) : Yields P E n L F H ⟨d, .binOp .leq t x y yt, ty, pos, aft, g⟩ (.bool (decide (i ≤ j))) :=
  Yields.int hx hy fun w => by simp [binOp, Op.intCmp]
theorem Yields.gt {t yt : TypeId} {k : IntKind} {i j : Int} (hx : ev L x = some (.int k i)) (hy : ev L y = some (.int k j)) : Yields P E n L F H ⟨d, .binOp .gtr t x y yt, ty, pos, aft, g⟩ (.bool (decide (i > j))) :=
  Yields.int hx hy fun w => by simp [binOp, Op.intCmp]
theorem Yields.ge {t yt : TypeId} {k : IntKind} {i j : Int} (hx : ev L x = some (.int k i)) (hy : ev L y = some (.int k j)) : Yields P E n L F H ⟨d, .binOp .geq t x y yt, ty, pos, aft, g⟩ (.bool (decide (i ≥ j))) :=
  Yields.int hx hy fun w => by simp [binOp, Op.intCmp]
theorem Yields.not {t : TypeId} {b : Bool} (hx : ev L x = some (.bool b)) : Yields P E n L F H ⟨d, .unOp .not t x, ty, pos, aft, g⟩ (.bool (!b)) := fun a w ha _ => by simp [execOp, ha.ev hx, Op.unary]
theorem Yields.not_t {t : TypeId} (hx : ev L x = some (.bool true)) : Yields P E n L F H ⟨d, .unOp .not t x, ty, pos, aft, g⟩ (.bool false) := Yields.not hx
theorem Yields.not_f {t : TypeId} (hx : ev L x = some (.bool false)) : Yields P E n L F H ⟨d, .unOp .not t x, ty, pos, aft, g⟩ (.bool true) := Yields.not hx
/-- A decided test. -/
theorem Yields.is {o : Oper} {c : Prop} [Decidable c] (h : c) (hy : Yields P E n L F H o (.bool (decide c))) : Yields P E n L F H o (.bool true) := by rw [decide_eq_true h] at hy; exact hy
theorem Yields.isnt {o : Oper} {c : Prop} [Decidable c] (h : ¬ c) (hy : Yields P E n L F H o (.bool (decide c))) : Yields P E n L F H o (.bool false) := by rw [decide_eq_false h] at hy; exact hy
theorem Yields.nis {o : Oper} {c : Prop} [Decidable c] (h : c) (hy : Yields P E n L F H o (.bool (!decide c))) : Yields P E n L F H o (.bool false) := by rw [decide_eq_true h] at hy; exact hy
theorem Yields.nisnt {o : Oper} {c : Prop} [Decidable c] (h : ¬ c) (hy : Yields P E n L F H o (.bool (!decide c))) : Yields P E n L F H o (.bool true) := by rw [decide_eq_false h] at hy; exact hy
/-- The builtins. -/
theorem Yields.builtin {b : Builtin} {xs : Array Operand} {ts : Array TypeId} {vs : Array Value} (h1 : ∀ a, Has n a L → xs.map a.eval = vs) (hr : ∀ w, Sat E F H w → (builtin b ts ty (xs.map fun | .const _ => true | _ => false) vs).run P w = .ok (.value v) w) : Yields P E n L F H ⟨d, .call ⟨.builtin b, xs, ts⟩, ty, pos, aft, g⟩ v := fun a w ha hs => by
  simp only [execOp, resolve, h1 a ha]
  simp only [Sem.run_bind, Sem.run_pure, Result.andThen_ok, invoke]
  exact hr w hs
theorem ev1 {a : Act} (ha : Has n a L) {x1 : Operand} {v1 : Value} (h1 : ev L x1 = some v1) : #[x1].map a.eval = #[v1] := by simp [ha.ev h1]
theorem ev2 {a : Act} (ha : Has n a L) {x1 x2 : Operand} {v1 v2 : Value} (h1 : ev L x1 = some v1) (h2 : ev L x2 = some v2) : #[x1, x2].map a.eval = #[v1, v2] := by simp [ha.ev h1, ha.ev h2]
theorem Yields.lenSlice {t e : TypeId} {A : Option Addr} {k c : Nat} (ht : P.underlying t = some (.slice e)) (hx : ev L x = some (.slice A k c)) : Yields P E n L F H ⟨d, .call ⟨.builtin .len, #[x], #[t]⟩, ty, pos, aft, g⟩ (.int .i64 k) :=
  Yields.builtin (fun a ha => ev1 ha hx) fun w _ => by simp [Go.builtin, Builtin.len_, underlying, ht, goInt]
theorem Yields.lenString {t : TypeId} {s : ByteArray} (ht : P.underlying t = some .string) (hx : ev L x = some (.string s)) : Yields P E n L F H ⟨d, .call ⟨.builtin .len, #[x], #[t]⟩, ty, pos, aft, g⟩ (.int .i64 s.size) :=
  Yields.builtin (fun a ha => ev1 ha hx) fun w _ => by simp [Go.builtin, Builtin.len_, underlying, ht, goInt]
end
end
end Go.Sy
