/- The calculus: interface values, calls by them; results that stand in memory. -/
import Derived.Test.YtjkcinpmbgcgpaaGreatDoorSyStar
namespace Go.Sy
open Go Go.RowKit
section
variable {P : Program} {E : Env} {n : Nat} {L L' : List (Nat × Value)} {F F' Fs : PH} {H H' Hs R : List Chunk} {K : Act → World → Prop} {Q : Exit → Act → World → Prop} {ops : Array Oper} {rest : List Oper}
def plainT (P : Program) (t : TypeId) : Bool := match P.underlying t with | some (.interface _) => false | some _ => true | none => false
section
variable {d : Option Nat} {ty : TypeId} {pos : String} {aft : Array Edge} {g : Option (Nat × Bool)} {x y : Operand} {v u : Value}
theorem Yields.makeInterface {t : TypeId} (ht : plainT P t = true) (hx : ev L x = some v) : Yields P E n L F H ⟨d, .makeInterface t x, ty, pos, aft, g⟩ (.iface t v) := fun a w ha _ => by
  unfold plainT at ht
  simp only [execOp, ha.ev hx, Instr.makeInterface, Sem.run_bind, underlying, run_program, Result.andThen_ok]
  cases hu : P.underlying t with
  | none => rw [hu] at ht; cases ht
  | some q => cases q <;> simp [hu] at ht ⊢
theorem Yields.typeAssert {t t0 : TypeId} (ht : plainT P t = true) (hx : ev L x = some (.iface t v)) : Yields P E n L F H ⟨d, .typeAssert x t0 t false, ty, pos, aft, g⟩ v := fun a w ha _ => by
  unfold plainT at ht
  simp only [execOp, ha.ev hx, Instr.typeAssert, Sem.run_bind, underlying, run_program, Result.andThen_ok]
  cases hu : P.underlying t with
  | none => rw [hu] at ht; cases ht
  | some q => cases q <;> simp [hu] at ht ⊢
end
theorem Yields.quo {d : Option Nat} {ty : TypeId} {pos : String} {aft : Array Edge} {g : Option (Nat × Bool)} {x y : Operand} {t yt : TypeId} {i j : Int} (hx : ev L x = some (.int .i64 i)) (hy : ev L y = some (.int .i64 j)) (h0 : 0 ≤ i) (hj : 0 < j) (h1 : i < 9223372036854775808) : Yields P E n L F H ⟨d, .binOp .quo t x y yt, ty, pos, aft, g⟩ (.int .i64 (i / j)) :=
  Yields.int hx hy fun w => by
    have e1 : Int.tdiv i j = i / j := Int.tdiv_eq_ediv_of_nonneg h0
    have e2 : 0 ≤ i / j := Int.ediv_nonneg h0 (by omega)
    have e3 : i / j ≤ i := Int.ediv_le_self j h0
    have e4 : IntKind.i64.wrap (i / j) = i / j := IntWalk.i64_in _ (by omega)
    simp [binOp, Op.intDiv, e1, e4, show ¬ j = 0 by omega]
theorem Yields.quo_t {d : Option Nat} {ty : TypeId} {pos : String} {aft : Array Edge} {g : Option (Nat × Bool)} {x y : Operand} {t yt : TypeId} {i j r : Int} (hx : ev L x = some (.int .i64 i)) (hy : ev L y = some (.int .i64 j)) (hj : j ≠ 0) (hr : Int.tdiv i j = r) (h0 : -9223372036854775808 ≤ r) (h1 : r < 9223372036854775808) : Yields P E n L F H ⟨d, .binOp .quo t x y yt, ty, pos, aft, g⟩ (.int .i64 r) :=
  Yields.int hx hy fun w => by
    have e4 : IntKind.i64.wrap r = r := IntWalk.i64_in _ (by omega)
    simp [binOp, Op.intDiv, hr, e4, hj]
theorem Yields.subk {d : Option Nat} {ty : TypeId} {pos : String} {aft : Array Edge} {g : Option (Nat × Bool)} {x y : Operand} {t yt : TypeId} {i j r : Int} (hx : ev L x = some (.int .i64 i)) (hy : ev L y = some (.int .i64 j)) (hr : i - j = r) (h0 : -9223372036854775808 ≤ r) (h1 : r < 9223372036854775808) : Yields P E n L F H ⟨d, .binOp .sub t x y yt, ty, pos, aft, g⟩ (.int .i64 r) := by
  subst hr; exact Yields.sub hx hy h0 h1
theorem Yields.addk {d : Option Nat} {ty : TypeId} {pos : String} {aft : Array Edge} {g : Option (Nat × Bool)} {x y : Operand} {t yt : TypeId} {i j r : Int} (hx : ev L x = some (.int .i64 i)) (hy : ev L y = some (.int .i64 j)) (hr : i + j = r) (h0 : -9223372036854775808 ≤ r) (h1 : r < 9223372036854775808) : Yields P E n L F H ⟨d, .binOp .add t x y yt, ty, pos, aft, g⟩ (.int .i64 r) := by
  subst hr; exact Yields.add hx hy h0 h1
/-- What a call by an interface value comes to. -/
def Invokes (P : Program) (t : TypeId) (name : String) (f : FuncId) : Prop := ∀ (v : Value) (args : Array Value) w, (callMethod (.iface t v) name args).run P w = .ok (.enter f (#[v] ++ args)) w
theorem St.invokev {d : Option Nat} {ty : TypeId} {pos : String} {aft : Array Edge} {g : Option (Nat × Bool)} {rx : Operand} {name : String} {xs : Array Operand} {ts : Array TypeId} {t : TypeId} {v0 : Value} {f : FuncId} {vs args : Array Value} {Hp Hr : List Chunk} {Post : Value → PH → List Chunk → Prop}
    (hc : CallSp P f args F Hp Post) (hf : ev L rx = some (.iface t v0)) (hargs : ∀ a, Has n a L → xs.map a.eval = vs) (he : #[v0] ++ vs = args) (hen : Invokes P t name f) (hH : H = Hp ++ Hr)
    (hw : Wanted ops ⟨d, .call ⟨.invoke rx name, xs, ts⟩, ty, pos, aft, g⟩ L)
    (h : ∀ v F' H', Post v F' H' → PH.le F F' → ∀ a w, Has n a L → Sat E F' (H' ++ Hr) w → wpList P ops Q rest (a.put d v) w) : St (wpList P ops Q (⟨d, .call ⟨.invoke rx name, xs, ts⟩, ty, pos, aft, g⟩ :: rest)) E n L F H := by
  subst hH
  subst he
  refine St.op hw fun K hK a w ha hs => ?_
  obtain ⟨m, hm, hin, hd, hu⟩ := hs.mem
  obtain ⟨m1, m2, h1, h2, h12, rfl⟩ := hm.split
  unfold Oper.wp
  have hrun : (execOp a.eval ⟨d, .call ⟨.invoke rx name, xs, ts⟩, ty, pos, aft, g⟩).run P w = .ok (.enter f (#[v0] ++ vs)) w := by
    simp only [execOp, resolve, hargs a ha, ha.ev hf, Sem.run_bind, Sem.run_pure, Result.andThen_ok, invoke]
    have e1 : (#[Value.iface t v0] ++ vs)[0]? = some (.iface t v0) := by rw [Array.getElem?_append_left (by simp)]; rfl
    have e2 : (#[Value.iface t v0] ++ vs).extract 1 (#[Value.iface t v0] ++ vs).size = vs := by
      apply Array.ext
      · simp
      · intro i h1 h2
        simp
    simp only [e1, e2]
    exact hen v0 vs w
  rw [hrun, Oper.upon_enter]
  refine (hc w m1 h1 (fun b o e => hin b o (PH.le_un_left _ _ b o e)) (PH.disj_mono hd (PH.le_un_left _ _)) hs.frz).mono ?_
  rintro e w' ⟨v, F', H', rfl, hp, hs'⟩
  exact hK _ _ (h v F' H' hp hs'.old a w' ha (hs.called h2 h12 hin hd hu hs'))
theorem St.invoke {d : Nat} {ty : TypeId} {pos : String} {aft : Array Edge} {g : Option (Nat × Bool)} {rx : Operand} {name : String} {xs : Array Operand} {ts : Array TypeId} {t : TypeId} {v0 : Value} {f : FuncId} {vs args : Array Value} {Hp : List Chunk} (Hr : List Chunk) {Post : Value → PH → List Chunk → Prop}
    (hc : CallSp P f args F Hp Post) (hf : ev L rx = some (.iface t v0)) (hargs : ∀ a, Has n a L → xs.map a.eval = vs) (he : #[v0] ++ vs = args) (hen : Invokes P t name f) (hH : H = Hp ++ Hr) (hdn : Nat.blt d n = true)
    (hw : Wanted ops ⟨some d, .call ⟨.invoke rx name, xs, ts⟩, ty, pos, aft, g⟩ L)
    (h : ∀ v F' H', Post v F' H' → PH.le F F' → St (wpList P ops Q rest) E n ((d, v) :: L) F' (H' ++ Hr)) : St (wpList P ops Q (⟨some d, .call ⟨.invoke rx name, xs, ts⟩, ty, pos, aft, g⟩ :: rest)) E n L F H :=
  St.invokev hc hf hargs he hen hH hw fun v F' H' hp hle _ w ha hs => h v F' H' hp hle _ w (ha.put hdn) hs
/-! ### results -/
def resOf (tmps : Array Value) : ResultVar → Sem Value
  | .tmp t => pure (tmps.getD t undef)
  | .cell a t => do loadVar t (← asAddr (tmps.getD a undef))
theorem results1' {fn : Func} {r : ResultVar} {tmps : Array Value} {w : World} {v : Value} (h : fn.results = #[r]) (h1 : (resOf tmps r).run P w = .ok v w) : (results fn tmps).run P w = .ok v w := by
  cases r <;> (simp only [resOf] at h1; simp [results, h]; first | (simp at h1; exact h1) | (simp only [Sem.run_bind] at h1; simp [h1]))
theorem results2' {fn : Func} {r s : ResultVar} {tmps : Array Value} {w : World} {v u : Value} (h : fn.results = #[r, s]) (h1 : (resOf tmps r).run P w = .ok v w) (h2 : (resOf tmps s).run P w = .ok u w) : (results fn tmps).run P w = .ok (.tuple #[v, u]) w := by
  have e : results fn tmps = (do let a ← resOf tmps r; let b ← resOf tmps s; pure (.tuple #[a, b])) := by
    cases r <;> cases s <;> simp [results, h, resOf]
  rw [e]
  simp [h1, h2]
theorem results3' {fn : Func} {r s t : ResultVar} {tmps : Array Value} {w : World} {v u x : Value} (h : fn.results = #[r, s, t]) (h1 : (resOf tmps r).run P w = .ok v w) (h2 : (resOf tmps s).run P w = .ok u w) (h3 : (resOf tmps t).run P w = .ok x w) : (results fn tmps).run P w = .ok (.tuple #[v, u, x]) w := by
  have e : results fn tmps = (do let a ← resOf tmps r; let b ← resOf tmps s; let c ← resOf tmps t; pure (.tuple #[a, b, c])) := by
    cases r <;> cases s <;> cases t <;> simp [results, h, resOf]
  rw [e]
  simp [h1, h2, h3]
def ResOk (P : Program) (E : Env) (F : PH) (H : List Chunk) (L : List (Nat × Value)) : ResultVar → Value → Prop
  | .tmp t, v => look L t = some v
  | .cell a t, v => ∃ p, look L a = some (.pointer (some p)) ∧ Loads P E F H t p v
theorem ResOk.cell {a : Nat} {t : TypeId} {v : Value} {p : Addr} (ha : look L a = some (.pointer (some p))) (h : Loads P E F H t p v) : ResOk P E F H L (.cell a t) v := ⟨p, ha, h⟩
theorem ResOk.run {r : ResultVar} {v : Value} (h : ResOk P E F H L r v) {a : Act} {w : World} (ha : Has n a L) (hs : Sat E F H w) : (resOf a.tmps r).run P w = .ok v w := by
  cases r with
  | tmp t => simp [resOf, show a.tmps.getD t undef = v from ha.ev (x := .tmp t) h]
  | cell b t =>
    obtain ⟨p, h1, h2⟩ := h
    simp [resOf, show a.tmps.getD b undef = _ from ha.ev (x := .tmp b) h1, asAddr, h2 w hs]
section
variable {w0 : World} {m : PH} {F0 : PH} {fn : Func} {Post : Value → PH → List Chunk → Prop} {r1 r2 r3 : ResultVar} {v v2 v3 : Value}
theorem St.doneR1 (hres : fn.results = #[r1]) (h1 : ResOk P ⟨w0, fun b => m b ≠ none, F0⟩ F H L r1 v) (hp : Post v F H') (ham : ∀ w, Sat ⟨w0, fun b => m b ≠ none, F0⟩ F H w → Sat ⟨w0, fun b => m b ≠ none, F0⟩ F H' w) : St (fun a w => bodyPost P fn (Back w0 m F0 Post) .ret a w) ⟨w0, fun b => m b ≠ none, F0⟩ n L F H := fun _ w ha hs =>
  bodyPost_ret (results1' hres (h1.run ha hs)) ha.defers ⟨_, F, H', rfl, hp, ham w hs⟩
theorem St.doneR2 (hres : fn.results = #[r1, r2]) (h1 : ResOk P ⟨w0, fun b => m b ≠ none, F0⟩ F H L r1 v) (h2 : ResOk P ⟨w0, fun b => m b ≠ none, F0⟩ F H L r2 v2) (hp : Post (.tuple #[v, v2]) F H') (ham : ∀ w, Sat ⟨w0, fun b => m b ≠ none, F0⟩ F H w → Sat ⟨w0, fun b => m b ≠ none, F0⟩ F H' w) : St (fun a w => bodyPost P fn (Back w0 m F0 Post) .ret a w) ⟨w0, fun b => m b ≠ none, F0⟩ n L F H := fun _ w ha hs =>
  bodyPost_ret (results2' hres (h1.run ha hs) (h2.run ha hs)) ha.defers ⟨_, F, H', rfl, hp, ham w hs⟩
theorem St.doneR3 (hres : fn.results = #[r1, r2, r3]) (h1 : ResOk P ⟨w0, fun b => m b ≠ none, F0⟩ F H L r1 v) (h2 : ResOk P ⟨w0, fun b => m b ≠ none, F0⟩ F H L r2 v2) (h3 : ResOk P ⟨w0, fun b => m b ≠ none, F0⟩ F H L r3 v3) (hp : Post (.tuple #[v, v2, v3]) F H') (ham : ∀ w, Sat ⟨w0, fun b => m b ≠ none, F0⟩ F H w → Sat ⟨w0, fun b => m b ≠ none, F0⟩ F H' w) : St (fun a w => bodyPost P fn (Back w0 m F0 Post) .ret a w) ⟨w0, fun b => m b ≠ none, F0⟩ n L F H := fun _ w ha hs =>
  bodyPost_ret (results3' hres (h1.run ha hs) (h2.run ha hs) (h3.run ha hs)) ha.defers ⟨_, F, H', rfl, hp, ham w hs⟩
end
/-! ### maps whose elements are read by R -/
open Go.Maps
def mapR (P : Program) (k : TypeId) (R : Value → Option (DataW Unit × List MemPlace)) (b n : Nat) (D : DataW Unit) : Chunk := fun m => ∃ es clock, m = PH.one b (.map es clock) ∧ ∀ w : World, w.heap[b]? = some (.map es clock) → w.ownsMap P k R b n D
section
variable {RR : Value → Option (DataW Unit × List MemPlace)} {d : Nat} {dd : Option Nat} {ty : TypeId} {pos : String} {aft : Array Edge} {gd : Option (Nat × Bool)} {x y z : Operand} {t k e : TypeId} {b c : Nat} {D : DataW Unit}
theorem mapR_new (b : Nat) (m : PH) (hm : blk b (.map #[] 0) m) : mapR P k RR b 0 (.map []) m := ⟨#[], 0, hm, fun _ h => ⟨#[], 0, h, ⟨by simp, Go.MapKept.stamped_empty 0, by simp⟩, Nat.le_refl _, rfl⟩⟩
theorem Sat.open_mapR {w : World} (hs : Sat E F (mapR P k RR b c D :: H) w) : ∃ es clock, Sat E F (blk b (.map es clock) :: H) w ∧ w.ownsMap P k RR b c D := by
  obtain ⟨m, ⟨m1, m2, ⟨es, clock, h1, h5⟩, h2⟩, h3⟩ := hs.mem
  have hs' : Sat E F (blk b (.map es clock) :: H) w := hs.mk' ⟨m, ⟨m1, m2, h1, h2⟩, h3⟩
  exact ⟨es, clock, hs', h5 w hs'.head⟩
theorem St.makeMapR (hw : Wanted ops ⟨some d, .makeMap t none, ty, pos, aft, gd⟩ L) (hdn : Nat.blt d n = true)
    (h : ∀ b, St (wpList P ops Q rest) E n ((d, .map (some b)) :: L) F (mapR P k RR b 0 (.map []) :: H)) : St (wpList P ops Q (⟨some d, .makeMap t none, ty, pos, aft, gd⟩ :: rest)) E n L F H :=
  St.act hw rfl hdn fun a w ha hs => ⟨.map (some w.heap.size), w.alloc (.map #[] 0), F, _, by simp [execOp, Instr.makeMap], (hs.alloc _).one (mapR_new _), h _⟩
theorem St.insertR {key val : Value} {kl : Lit} {v : DataW Unit} (hm : ev L x = some (.map (some b))) (hx : ev L y = some key) (hv : ev L z = some val) (i : Nat) (hi : H[i]? = some (mapR P k RR b c D)) (hR : H.eraseIdx i = R)
    (K : Keyed P k) (ht : P.underlying t = some (.map k e)) (hn : c < maxLen) (hkey : keyOf P k key = some kl) (hval : RR val = some (v, [])) (hw : Wanted ops ⟨none, .insert t x y z, ty, pos, aft, gd⟩ L)
    (h : St (wpList P ops Q rest) E n L F (mapR P k RR b (c + 1) (D.put kl v) :: R)) : St (wpList P ops Q (⟨none, .insert t x y z, ty, pos, aft, gd⟩ :: rest)) E n L F H :=
  St.pick i hi hR (St.act0 hw rfl fun a w ha hs => by
    obtain ⟨es, clock, hs1, hown⟩ := hs.open_mapR
    obtain ⟨w', hrun, hown', es0, clock0, es', clock', hb, rfl⟩ := hown.store K ht hn hkey hval
    have hs2 := hs1.set (w' := Go.ChangeMaps.setBlock w b (.map es' clock')) (o' := .map es' clock') rfl rfl rfl (by simp [Go.ChangeMaps.setBlock]) (Go.ChangeMaps.heap_setBlock_same hb _) (fun j hj => Go.ChangeMaps.heap_setBlock_other hb _ hj)
    refine ⟨_, F, _, by simp [execOp, ha.ev hm, ha.ev hx, ha.ev hv, hrun], hs2.one (fun m hm => ⟨es', clock', hm, fun w2 h2 => ?_⟩), h⟩
    obtain ⟨es2, clock2, g1, g2⟩ := hown'
    rw [Go.ChangeMaps.heap_setBlock_same hb _] at g1
    cases g1
    exact ⟨es', clock', h2, g2⟩)
theorem Yields.lookupR {key z0 v : Value} {kl : Lit} {zd : DataW Unit} {zp : List MemPlace} (hm : ev L x = some (.map (some b))) (hx : ev L y = some key) (i : Nat) (hi : H[i]? = some (mapR P k RR b c D))
    (K : Keyed P k) (ht : P.underlying t = some (.map k e)) (hz : ∀ w, (zeroValue e).run P w = .ok z0 w) (hzd : RR z0 = some (zd, zp)) (hkey : keyOf P k key = some kl) (hres : ∀ u ps, RR u = some (D.atKey kl zd, ps) → u = v) : Yields P E n L F H ⟨dd, .lookup t x y false, ty, pos, aft, gd⟩ v := fun a w ha hs => by
  obtain ⟨es, clock, hs1, hown⟩ := (hs.perm (perm_erase i hi)).open_mapR
  obtain ⟨u, ps, hrun, hu⟩ := hown.lookup K ht (hz w) hzd hkey
  rw [hres u ps hu] at hrun
  simp [execOp, ha.ev hm, ha.ev hx, hrun]
/-- Functions without captures, by their numbers. -/
def funcElem : Value → Option (DataW Unit × List MemPlace)
  | .func (.func f) a b => if a = #[] ∧ b = #[] then some (.lit (.int .i64 f), []) else none
  | .nilFunc => some (.lit (.int .i64 (-1)), [])
  | _ => none
theorem funcElem_inv {u : Value} {f : Nat} {ps : List MemPlace} (h : funcElem u = some (.lit (.int .i64 f), ps)) : u = .func (.func f) #[] #[] := by
  unfold funcElem at h
  split at h
  · rename_i g a b
    split at h
    · rename_i hab
      obtain ⟨rfl, rfl⟩ := hab
      simp only [Option.some.injEq, Prod.mk.injEq, DataW.lit.injEq, Lit.int.injEq, true_and] at h
      have : g = f := Int.ofNat.inj h.1
      subst this; rfl
    · cases h
  · simp only [Option.some.injEq, Prod.mk.injEq, DataW.lit.injEq, Lit.int.injEq, true_and] at h
    have := h.1
    omega
  · cases h
end
end
end Go.Sy
namespace Go.Sy
open Go Go.RowKit
section
variable {P : Program} {E : Env} {n : Nat} {L L' : List (Nat × Value)} {F F' : PH} {H H' R : List Chunk} {K : Act → World → Prop} {Q : Exit → Act → World → Prop} {ops : Array Oper} {rest : List Oper}
variable {ty : TypeId} {pos : String} {aft : Array Edge} {gd : Option (Nat × Bool)} {x y : Operand} {k c e sz : Nat} {xs : List Value}
/-- A struct is stored whole into a row of the call's own. -/
theorem St.store_rown {g off : Nat} {t : TypeId} {vs : Array Value} {m : Nat} (hx : ev L x = some (.pointer (some ⟨g, off, none⟩))) (hy : ev L y = some (.agg vs)) (i : Nat) (hi : H[i]? = some (row (some ⟨g, 0, none⟩) k c e sz xs)) (hR : H.eraseIdx i = R)
    (ht : aggT P t m = true) (hvs : Nat.beq vs.size m = true) (hv : vs.toList.all Value.oneCell' = true) (ho : off + m ≤ xs.length) (hw : Wanted ops ⟨none, .store t x y, ty, pos, aft, gd⟩ L)
    (h : St (wpList P ops Q rest) E n L F (row (some ⟨g, 0, none⟩) k c e sz (xs.take off ++ vs.toList ++ xs.drop (off + m)) :: R)) : St (wpList P ops Q (⟨none, .store t x y, ty, pos, aft, gd⟩ :: rest)) E n L F H :=
  St.pick i hi hR (St.act0 hw rfl fun a w ha hs => by
    have h9 : vs.size = m := Nat.eq_of_beq_eq_true hvs
    obtain ⟨mm, ⟨m1, m2, h1, h2, h12, rfl⟩, hin, hd, hu⟩ := hs.mem
    obtain ⟨cur, g1, g2, g3, g4, g5⟩ := blk_of_row h1
    have hxl := h1.1
    have hs' : Sat E F (blk g (.cells cur e (0, 0)) :: R) w := hs.mk' ⟨_, ⟨m1, m2, g5, h2, h12, rfl⟩, hin, hd, hu⟩
    have hkc : k * sz ≤ c * sz := Nat.mul_le_mul_right _ g1
    have hst := run_storeCells_at (P := P) g off e vs.toList 0 cur w hs'.head (by simp; omega) (fun u hu => (List.all_eq_true.1 hv) u hu)
    refine ⟨w.setRow g (cur.toList.take off ++ vs.toList ++ cur.toList.drop (off + m)).toArray, F, _, ?_, (hs'.set (w' := w.setRow g (cur.toList.take off ++ vs.toList ++ cur.toList.drop (off + m)).toArray) (o' := .cells (cur.toList.take off ++ vs.toList ++ cur.toList.drop (off + m)).toArray e (0, 0)) rfl rfl rfl (by simp) (setRow_heap w g cur _ e (0, 0) hs'.head) (fun j hj => setRow_other w g j _ hj)).weak (fun m' hm' => ⟨?_, .inr ⟨g, _, rfl, g1, g2, ?_, ?_, hm'⟩⟩), h⟩
    · simp only [execOp, ha.ev hx, ha.ev hy, Instr.storeAt, Instr.sureAddr, Sem.run_bind, Sem.run_pure, Result.andThen_ok, storeVar, Value.cells, aggT_size ht, h9, ne_eq, not_true_eq_false, if_false]
      simp only [Nat.add_zero, Array.length_toList, h9] at hst
      rw [hst]
      rfl
    · simp [h9]; omega
    · simp [h9]; omega
    · have h8 : vs.toList.length = m := by simp [h9]
      have h7 : (cur.toList.take (k * sz)).length = k * sz := by simp; omega
      rw [← g4] at ho ⊢
      have e1 : (cur.toList.take (k * sz)).take off = cur.toList.take off := by rw [List.take_take, Nat.min_eq_left (by omega)]
      rw [e1, List.take_append, List.take_of_length_le (by simp; omega)]
      congr 1
      rw [List.drop_take]
      congr 1
      simp; omega)
end
end Go.Sy
