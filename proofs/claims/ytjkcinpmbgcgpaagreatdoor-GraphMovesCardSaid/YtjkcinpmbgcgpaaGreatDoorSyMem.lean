/- The calculus's rules for memory, calls and rows. -/
import Derived.Test.YtjkcinpmbgcgpaaGreatDoorSyOps
import Derived.Maps.AppendAt
import Derived.OwnWalk
namespace Go.Sy
open Go Go.RowKit
section
variable {P : Program} {E : Env} {n : Nat} {L L' : List (Nat × Value)} {F F' : PH} {H H' : List Chunk} {K : Act → World → Prop} {Q : Exit → Act → World → Prop} {ops : Array Oper} {rest : List Oper}
section
variable {d : Nat} {ty : TypeId} {pos : String} {aft : Array Edge} {g : Option (Nat × Bool)} {x y : Operand} {v u : Value}
theorem St.box {e : TypeId} (hx : ev L x = some v) (hw : Wanted ops ⟨some d, .box e x, ty, pos, aft, g⟩ L) (hdn : Nat.blt d n = true)
    (h : ∀ b, St (wpList P ops Q rest) E n ((d, .pointer (some ⟨b, 0, none⟩)) :: L) F (blk b (.cells v.cells e (0, 0)) :: H)) : St (wpList P ops Q (⟨some d, .box e x, ty, pos, aft, g⟩ :: rest)) E n L F H :=
  St.act hw rfl hdn fun a w ha hs => ⟨_, _, F, _, by simp only [execOp, ha.ev hx]; rfl, hs.alloc _, h _⟩
theorem St.alloc {e : TypeId} {z : Value} (hz0 : (P.info? e).bind TypeInfo.zero = some z) (hw : Wanted ops ⟨some d, .alloc e, ty, pos, aft, g⟩ L) (hdn : Nat.blt d n = true)
    (h : ∀ b, St (wpList P ops Q rest) E n ((d, .pointer (some ⟨b, 0, none⟩)) :: L) F (blk b (.cells z.cells e (0, 0)) :: H)) : St (wpList P ops Q (⟨some d, .alloc e, ty, pos, aft, g⟩ :: rest)) E n L F H :=
  St.act hw rfl hdn fun a w ha hs => ⟨_, _, F, _, by
    obtain ⟨i, hi, hz⟩ := Option.bind_eq_some_iff.1 hz0
    simp only [execOp, Instr.alloc, Sem.run_bind, zeroValue, typeInfo, run_program, Result.andThen_ok, hi, Sem.run_pure, hz]
    rfl, hs.alloc _, h _⟩
theorem frozen_zero {w : World} {b : Nat} {cs : Array Value} {t : TypeId} (h : w.heap[b]? = some (.cells cs t (0, 0))) (off : Nat) : w.frozen? ⟨b, off, none⟩ = false := by simp [World.frozen?, h]
theorem Sat.setCell {b off : Nat} {cs : Array Value} {e : TypeId} {fz : Nat × Nat} {w : World} (hs : Sat E F (blk b (.cells cs e fz) :: H) w) (v : Value) : Sat E F (blk b (.cells (cs.setIfInBounds off v) e fz) :: H) (w.setCell ⟨b, off, none⟩ v) :=
  hs.set rfl rfl rfl (by simp) (by simp only [World.setCell, Array.getElem?_modify, if_true, hs.head]; rfl) (fun k hk => Below.heap_setCell w ⟨b, off, none⟩ v k hk)
theorem run_storeVar1 {t : TypeId} {b off : Nat} {cs : Array Value} {e : TypeId} {w : World} (ht : cellT P t = true) (hv : v.oneCell' = true) (hb : w.heap[b]? = some (.cells cs e (0, 0))) (ho : off < cs.size) : (storeVar t ⟨b, off, none⟩ v).run P w = .ok () (w.setCell ⟨b, off, none⟩ v) := by
  have hc : w.cell? ⟨b, off, none⟩ = some cs[off] := by rw [cell_of_block hb, Array.getElem?_eq_getElem ho]
  have hcs : v.cells = #[v] := by cases v <;> first | rfl | (simp [Value.oneCell'] at hv)
  simp [storeVar, hcs, cellT_size ht, storeCells, run_store _ _ _ _ _ hv, hc, Addr.add, frozen_zero hb]
theorem St.store {t : TypeId} {b off : Nat} {cs : Array Value} {e : TypeId} {R : List Chunk} (hx : ev L x = some (.pointer (some ⟨b, off, none⟩))) (hy : ev L y = some v) (i : Nat) (hi : H[i]? = some (blk b (.cells cs e (0, 0)))) (hR : H.eraseIdx i = R)
    (ht : cellT P t = true) (hv : v.oneCell' = true) (ho : Nat.blt off cs.size = true) (hw : Wanted ops ⟨none, .store t x y, ty, pos, aft, g⟩ L)
    {cs' : Array Value} (hcs : cs.setIfInBounds off v = cs') (h : St (wpList P ops Q rest) E n L F (blk b (.cells cs' e (0, 0)) :: R)) : St (wpList P ops Q (⟨none, .store t x y, ty, pos, aft, g⟩ :: rest)) E n L F H :=
  St.pick i hi hR (St.act0 hw rfl fun a w ha hs => ⟨_, F, _, by
    simp only [execOp, ha.ev hx, ha.ev hy, Instr.storeAt, Instr.sureAddr, Sem.run_bind, Sem.run_pure, Result.andThen_ok]
    rw [run_storeVar1 ht hv hs.head (by have := ho; rwa [Nat.blt_eq] at this)]
    rfl, hs.setCell v, hcs ▸ h⟩)
end

/-! ### calls -/
/-- What a call of f does: the pieces Hp go in, Post tells the value, what is frozen behind it, and the pieces that come out. -/
def CallSp (P : Program) (f : FuncId) (args : Array Value) (F : PH) (Hp : List Chunk) (Post : Value → PH → List Chunk → Prop) : Prop :=
  ∀ w m, Sep Hp m → m.inW w → PH.disj m F → F.inW w → Calls P f args w fun e w' => ∃ v F' H', e = .returned v ∧ Post v F' H' ∧ Sat ⟨w, fun b => m b ≠ none, F⟩ F' H' w'
theorem CallSp.mono {f : FuncId} {args : Array Value} {Hp : List Chunk} {Post Post' : Value → PH → List Chunk → Prop} (h : CallSp P f args F Hp Post) (hp : ∀ v F' H', Post v F' H' → Post' v F' H') : CallSp P f args F Hp Post' :=
  fun w m h1 h2 h3 h4 => (h w m h1 h2 h3 h4).mono fun _ _ ⟨v, F', H', e, hp', hs⟩ => ⟨v, F', H', e, hp _ _ _ hp', hs⟩
theorem Sat.called {Hp Hr : List Chunk} {w w' : World} {F' : PH} {H' : List Chunk} {m1 m2 : PH} (hs : Sat E F (Hp ++ Hr) w) (h2 : Sep Hr m2) (h12 : PH.disj m1 m2) (hin : (PH.un m1 m2).inW w) (hd : PH.disj (PH.un m1 m2) F)
    (hu : ∀ b o, PH.un m1 m2 b = some o → E.U b ∨ E.w0.heap.size ≤ b) (hs' : Sat ⟨w, fun b => m1 b ≠ none, F⟩ F' H' w') : Sat E F' (H' ++ Hr) w' := by
  have hne : ∀ b, m1 b ≠ none → E.U b ∨ E.w0.heap.size ≤ b := fun b hb => by
    cases hm : m1 b with
    | none => exact absurd hm hb
    | some o => exact hu b o (PH.le_un_left _ _ b o hm)
  refine ⟨hs'.os.trans hs.os, hs'.tape.trans hs.tape, hs'.output.trans hs.output, Nat.le_trans hs.size hs'.size, ?_, hs'.frz, ?_, PH.le_trans hs.old hs'.old, ?_⟩
  · intro b hb hub
    refine (hs'.same b (Nat.lt_of_lt_of_le hb hs.size) ?_).trans (hs.same b hb hub)
    intro hm
    rcases hne b hm with h | h
    · exact hub h
    · omega
  · intro b o e
    rcases hs'.grow b o e with h | h | h
    · exact hs.grow b o h
    · exact .inr (hne b h)
    · exact .inr (.inr (Nat.le_trans hs.size h))
  · obtain ⟨m', g1, g2, g3, g4⟩ := hs'.mem
    have hd' : PH.disj m' m2 := fun b o e => by
      rcases g4 b o e with h | h
      · cases hm : m1 b with
        | none => exact absurd hm h
        | some o' => exact h12 b o' hm
      · cases hm : m2 b with
        | none => rfl
        | some o' =>
          have h9 := inW_lt hin (PH.le_un_right h12 b o' hm)
          have h8 : w.heap.size ≤ b := h
          omega
    refine ⟨PH.un m' m2, Sep.append g1 h2 hd', ?_, ?_, ?_⟩
    · intro b o e
      rcases PH.un_some e with e | e
      · exact g2 b o e
      · have hb := PH.le_un_right h12 b o e
        rw [hs'.same b (inW_lt hin hb) (fun hm => by
          cases hm' : m1 b with
          | none => exact hm hm'
          | some o' => have := h12 b o' hm'; rw [e] at this; cases this)]
        exact hin b o hb
    · refine PH.disj_un_left g3 fun b o e => ?_
      cases hF : F' b with
      | none => rfl
      | some o' =>
        have hb := PH.le_un_right h12 b o e
        rcases hs'.grow b o' hF with h | h | h
        · have := hd b o hb; have h' : F b = some o' := h; rw [h'] at this; cases this
        · cases hm' : m1 b with
          | none => exact absurd hm' h
          | some o' => have := h12 b o' hm'; rw [e] at this; cases this
        · have h9 := inW_lt hin hb
          have h8 : w.heap.size ≤ b := h
          omega
    · intro b o e
      rcases PH.un_some e with e | e
      · rcases g4 b o e with h | h
        · exact hne b h
        · exact .inr (Nat.le_trans hs.size h)
      · exact hu b o (PH.le_un_right h12 b o e)
def Enters (P : Program) (f : FuncId) : Prop := ∀ (args : Array Value) w, (callFunc f args).run P w = .ok (.enter f args) w
theorem St.callv {d : Option Nat} {ty : TypeId} {pos : String} {aft : Array Edge} {g : Option (Nat × Bool)} {fx : Operand} {xs : Array Operand} {ts : Array TypeId} {f : FuncId} {fs cs vs args : Array Value} {Hp Hr : List Chunk} {Post : Value → PH → List Chunk → Prop}
    (hc : CallSp P f args F Hp Post) (hf : ev L fx = some (.func (.func f) fs cs)) (hargs : ∀ a, Has n a L → xs.map a.eval = vs) (he : (fs ++ vs) ++ cs = args) (hen : Enters P f) (hH : H = Hp ++ Hr)
    (hw : Wanted ops ⟨d, .call ⟨.value fx, xs, ts⟩, ty, pos, aft, g⟩ L)
    (h : ∀ v F' H', Post v F' H' → PH.le F F' → ∀ a w, Has n a L → Sat E F' (H' ++ Hr) w → wpList P ops Q rest (a.put d v) w) : St (wpList P ops Q (⟨d, .call ⟨.value fx, xs, ts⟩, ty, pos, aft, g⟩ :: rest)) E n L F H := by
  subst hH
  refine St.op hw fun K hK a w ha hs => ?_
  obtain ⟨m, hm, hin, hd, hu⟩ := hs.mem
  obtain ⟨m1, m2, h1, h2, h12, rfl⟩ := hm.split
  unfold Oper.wp
  have hrun : (execOp a.eval ⟨d, .call ⟨.value fx, xs, ts⟩, ty, pos, aft, g⟩).run P w = .ok (.enter f args) w := by
    simp only [execOp, resolve, hargs a ha, ha.ev hf, Deferred.ofValue, Sem.run_bind, Sem.run_pure, Result.andThen_ok, invoke, he, hen args w]
  rw [hrun, Oper.upon_enter]
  refine (hc w m1 h1 (fun b o e => hin b o (PH.le_un_left _ _ b o e)) (PH.disj_mono hd (PH.le_un_left _ _)) hs.frz).mono ?_
  rintro e w' ⟨v, F', H', rfl, hp, hs'⟩
  exact hK _ _ (h v F' H' hp hs'.old a w' ha (hs.called h2 h12 hin hd hu hs'))
theorem St.call {d : Nat} {ty : TypeId} {pos : String} {aft : Array Edge} {g : Option (Nat × Bool)} {fx : Operand} {xs : Array Operand} {ts : Array TypeId} {f : FuncId} {fs cs vs args : Array Value} {Hp : List Chunk} (Hr : List Chunk) {Post : Value → PH → List Chunk → Prop}
    (hc : CallSp P f args F Hp Post) (hf : ev L fx = some (.func (.func f) fs cs)) (hargs : ∀ a, Has n a L → xs.map a.eval = vs) (he : (fs ++ vs) ++ cs = args) (hen : Enters P f) (hH : H = Hp ++ Hr) (hdn : Nat.blt d n = true)
    (hw : Wanted ops ⟨some d, .call ⟨.value fx, xs, ts⟩, ty, pos, aft, g⟩ L)
    (h : ∀ v F' H', Post v F' H' → PH.le F F' → St (wpList P ops Q rest) E n ((d, v) :: L) F' (H' ++ Hr)) : St (wpList P ops Q (⟨some d, .call ⟨.value fx, xs, ts⟩, ty, pos, aft, g⟩ :: rest)) E n L F H :=
  St.callv hc hf hargs he hen hH hw fun v F' H' hp hle _ w ha hs => h v F' H' hp hle _ w (ha.put hdn) hs
theorem St.call0 {ty : TypeId} {pos : String} {aft : Array Edge} {g : Option (Nat × Bool)} {fx : Operand} {xs : Array Operand} {ts : Array TypeId} {f : FuncId} {fs cs vs args : Array Value} {Hp : List Chunk} (Hr : List Chunk) {Post : Value → PH → List Chunk → Prop}
    (hc : CallSp P f args F Hp Post) (hf : ev L fx = some (.func (.func f) fs cs)) (hargs : ∀ a, Has n a L → xs.map a.eval = vs) (he : (fs ++ vs) ++ cs = args) (hen : Enters P f) (hH : H = Hp ++ Hr)
    (hw : Wanted ops ⟨none, .call ⟨.value fx, xs, ts⟩, ty, pos, aft, g⟩ L)
    (h : ∀ v F' H', Post v F' H' → PH.le F F' → St (wpList P ops Q rest) E n L F' (H' ++ Hr)) : St (wpList P ops Q (⟨none, .call ⟨.value fx, xs, ts⟩, ty, pos, aft, g⟩ :: rest)) E n L F H :=
  St.callv hc hf hargs he hen hH hw fun v F' H' hp hle _ w ha hs => h v F' H' hp hle _ w ha hs

/-! ### a function's body -/
def enum : List Value → Nat → List (Nat × Value)
  | [], _ => []
  | v :: l, k => (k, v) :: enum l (k + 1)
theorem look_enum {l : List Value} {s k : Nat} {v : Value} (h : look (enum l s) k = some v) : s ≤ k ∧ l[k - s]? = some v := by
  induction l generalizing s with
  | nil => cases h
  | cons u l ih =>
    unfold enum look at h
    split at h
    · rename_i hb; have := Nat.eq_of_beq_eq_true hb; subst this; simpa using h
    · rename_i hb
      obtain ⟨h1, h2⟩ := ih h
      refine ⟨by omega, ?_⟩
      rw [show k - s = (k - (s + 1)) + 1 by omega]
      simpa using h2
def Back (w0 : World) (m : PH) (F : PH) (Post : Value → PH → List Chunk → Prop) (e : Ending) (w' : World) : Prop := ∃ v F' H', e = .returned v ∧ Post v F' H' ∧ Sat ⟨w0, fun b => m b ≠ none, F⟩ F' H' w'
theorem CallSp.enter {f : FuncId} {fn : Func} {c : Code} {args : List Value} {Hp : List Chunk} {Post : Value → PH → List Chunk → Prop} (hf : P.funcs[f]? = some fn) (hb : fn.body = some c) (hn0 : Nat.ble args.length fn.ntmps = true)
    (h : ∀ w m, (∀ b o, m b = some o → F b = none) → St (c.wp P (bodyPost P fn (Back w m F Post))) ⟨w, fun b => m b ≠ none, F⟩ fn.ntmps (enum args 0) F Hp) : CallSp P f args.toArray F Hp Post := by
  intro w m h1 h2 h3 h4
  have hn : args.length ≤ fn.ntmps := Nat.le_of_ble_eq_true hn0
  refine calls_of_wp hf hb ?_
  refine h w m h3 _ w ⟨?_, rfl, ?_⟩ ⟨rfl, rfl, rfl, Nat.le_refl _, fun _ _ _ => rfl, h4, fun _ _ e => .inl e, PH.le_refl _, m, h1, h2, h3, fun b o e => .inl (show m b ≠ none by rw [e]; simp)⟩
  · simp; omega
  · intro k v e
    obtain ⟨_, e⟩ := look_enum e
    have hk : k < args.length := by
      rcases Nat.lt_or_ge k args.length with h | h
      · exact h
      · simp [List.getElem?_eq_none h] at e
    simp only [Nat.sub_zero] at e
    rw [Array.getElem?_append_left (by simpa using hk)]
    simpa using e
section
variable {w0 : World} {m : PH} {F0 : PH} {fn : Func} {Post : Value → PH → List Chunk → Prop} {t t2 t3 t4 : Nat} {v v2 v3 v4 : Value} {U : Nat → Prop}
theorem St.done1 (hres : fn.results = #[.tmp t]) (hl : look L t = some v) (hp : Post v F H) : St (fun a w => bodyPost P fn (Back w0 m F0 Post) .ret a w) ⟨w0, fun b => m b ≠ none, F0⟩ n L F H := fun a w ha hs =>
  bodyPost_ret (results_tmp hres _ _ _) ha.defers ⟨_, F, H, rfl, by rw [show a.tmps.getD t undef = v from ha.ev (x := .tmp t) hl]; exact hp, hs⟩
theorem St.done2 (hres : fn.results = #[.tmp t, .tmp t2]) (hl : look L t = some v) (hl2 : look L t2 = some v2) (hp : Post (.tuple #[v, v2]) F H) : St (fun a w => bodyPost P fn (Back w0 m F0 Post) .ret a w) ⟨w0, fun b => m b ≠ none, F0⟩ n L F H := fun a w ha hs =>
  bodyPost_ret (results_tmp2 hres _ _ _) ha.defers ⟨_, F, H, rfl, by rw [show a.tmps.getD t undef = v from ha.ev (x := .tmp t) hl, show a.tmps.getD t2 undef = v2 from ha.ev (x := .tmp t2) hl2]; exact hp, hs⟩
theorem results_tmp3' {fn : Func} {t u s : Tmp} (h : fn.results = #[.tmp t, .tmp u, .tmp s]) (tmps : Array Value) (P : Program) (w : World) :
    (results fn tmps).run P w = .ok (.tuple #[tmps.getD t undef, tmps.getD u undef, tmps.getD s undef]) w := by
  simp [results, h]
theorem results_tmp4' {fn : Func} {t u s r : Tmp} (h : fn.results = #[.tmp t, .tmp u, .tmp s, .tmp r]) (tmps : Array Value) (P : Program) (w : World) :
    (results fn tmps).run P w = .ok (.tuple #[tmps.getD t undef, tmps.getD u undef, tmps.getD s undef, tmps.getD r undef]) w := by
  simp [results, h]
theorem St.done3 (hres : fn.results = #[.tmp t, .tmp t2, .tmp t3]) (hl : look L t = some v) (hl2 : look L t2 = some v2) (hl3 : look L t3 = some v3) (hp : Post (.tuple #[v, v2, v3]) F H) : St (fun a w => bodyPost P fn (Back w0 m F0 Post) .ret a w) ⟨w0, fun b => m b ≠ none, F0⟩ n L F H := fun a w ha hs =>
  bodyPost_ret (results_tmp3' hres _ _ _) ha.defers ⟨_, F, H, rfl, by rw [show a.tmps.getD t undef = v from ha.ev (x := .tmp t) hl, show a.tmps.getD t2 undef = v2 from ha.ev (x := .tmp t2) hl2, show a.tmps.getD t3 undef = v3 from ha.ev (x := .tmp t3) hl3]; exact hp, hs⟩
theorem St.done4 (hres : fn.results = #[.tmp t, .tmp t2, .tmp t3, .tmp t4]) (hl : look L t = some v) (hl2 : look L t2 = some v2) (hl3 : look L t3 = some v3) (hl4 : look L t4 = some v4) (hp : Post (.tuple #[v, v2, v3, v4]) F H) : St (fun a w => bodyPost P fn (Back w0 m F0 Post) .ret a w) ⟨w0, fun b => m b ≠ none, F0⟩ n L F H := fun a w ha hs =>
  bodyPost_ret (results_tmp4' hres _ _ _) ha.defers ⟨_, F, H, rfl, by rw [show a.tmps.getD t undef = v from ha.ev (x := .tmp t) hl, show a.tmps.getD t2 undef = v2 from ha.ev (x := .tmp t2) hl2, show a.tmps.getD t3 undef = v3 from ha.ev (x := .tmp t3) hl3, show a.tmps.getD t4 undef = v4 from ha.ev (x := .tmp t4) hl4]; exact hp, hs⟩
theorem St.done0 (hres : fn.results = #[]) (hp : Post (.tuple #[]) F H) : St (fun a w => bodyPost P fn (Back w0 m F0 Post) .ret a w) ⟨w0, fun b => m b ≠ none, F0⟩ n L F H := fun _ _ ha hs =>
  bodyPost_ret (results_none hres _ _ _) ha.defers ⟨_, F, H, rfl, hp, hs⟩
theorem St.end0 (hres : fn.results = #[]) (hp : Post (.tuple #[]) F H) : St (fun a w => bodyPost P fn (Back w0 m F0 Post) .normal a w) ⟨w0, fun b => m b ≠ none, F0⟩ n L F H := fun _ _ ha hs =>
  bodyPost_end (results_none hres _ _ _) ha.defers ⟨_, F, H, rfl, hp, hs⟩
end

/-! ### rows of the call's own -/
def row (A : Option Addr) (k c : Nat) (e : TypeId) (sz : Nat) (xs : List Value) : Chunk := fun m =>
  xs.length = k * sz ∧ ((A = none ∧ k = 0 ∧ c = 0 ∧ m = PH.emp) ∨
    ∃ g cur, A = some ⟨g, 0, none⟩ ∧ k ≤ c ∧ c ≤ maxLen ∧ cur.size = c * sz ∧ cur.toList.take (k * sz) = xs ∧ m = PH.one g (.cells cur e (0, 0)))
theorem Sat.row_owns {A : Option Addr} {k c : Nat} {e : TypeId} {sz : Nat} {xs : List Value} {w : World} (hs : Sat E F (row A k c e sz xs :: H) w) : w.ownsRow 0 e sz (.slice A k c) k xs := by
  obtain ⟨m, ⟨m1, m2, ⟨hl, h1⟩, _, h12, rfl⟩, hin, _⟩ := hs.mem
  refine ⟨hl, ?_⟩
  rcases h1 with ⟨rfl, rfl, rfl, _⟩ | ⟨g, cur, rfl, h1, h2, h3, h4, rfl⟩
  · exact .inl ⟨rfl, rfl⟩
  · exact .inr ⟨g, c, cur, rfl, Nat.zero_le _, hin g _ (PH.le_un_left _ _ g _ (PH.one_same g _)), h1, h2, h3, h4⟩
theorem Sat.row_of {k c k' c' : Nat} {A A' : Option Addr} {e : TypeId} {sz : Nat} {xs xs' : List Value} {w w' : World} (hs : Sat E F (row A k c e sz xs :: H) w)
    (ho : w'.ownsRow 0 e sz (.slice A' k' c') k' xs') (hg : w.grownBy w' (Value.slice A k c).ownBlock) (hat : (Value.slice A' k' c').ownBlock = (Value.slice A k c).ownBlock ∨ (Value.slice A' k' c').ownBlock = some w.heap.size) : Sat E F (row A' k' c' e sz xs' :: H) w' := by
  obtain ⟨m, ⟨m1, m2, ⟨hl, h1⟩, h2, h12, rfl⟩, hin, hd, hu⟩ := hs.mem
  have hblk : ∀ g, (Value.slice A k c).ownBlock = some g → ∃ o, m1 g = some o := by
    intro g hg'
    rcases h1 with ⟨rfl, rfl, rfl, _⟩ | ⟨g1, cur, rfl, _, _, _, _, rfl⟩
    · simp [Value.ownBlock] at hg'
    · simp [Value.ownBlock] at hg'; subst hg'; exact ⟨_, PH.one_same _ _⟩
  have hsame : ∀ b, b < w.heap.size → m1 b = none → w'.heap[b]? = w.heap[b]? := fun b hb hm => hg.block b hb (fun e => by
    obtain ⟨o, ho⟩ := hblk b e.symm
    rw [hm] at ho; cases ho)
  have hin2 : m2.inW w' := fun b o e => by
    have hb := PH.le_un_right h12 b o e
    rw [hsame b (inW_lt hin hb) (by
      cases hm : m1 b with
      | none => rfl
      | some o' => have := h12 b o' hm; rw [e] at this; cases this)]
    exact hin b o hb
  refine ⟨hg.os.trans hs.os, hg.tape.trans hs.tape, hg.output.trans hs.output, Nat.le_trans hs.size hg.size, ?_, ?_, hs.grow, hs.old, ?_⟩
  · intro b hb hub
    rw [hsame b (Nat.lt_of_lt_of_le hb hs.size)]
    · exact hs.same b hb hub
    · cases hm : m1 b with
      | none => rfl
      | some o => rcases hu b o (PH.le_un_left _ _ b o hm) with h | h
                  · exact absurd h hub
                  · omega
  · intro b o e
    rw [hsame b (inW_lt hs.frz e)]
    · exact hs.frz b o e
    · cases hm : m1 b with
      | none => rfl
      | some o' => have := hd b o' (PH.le_un_left _ _ b o' hm); rw [e] at this; cases this
  · rcases ho.2 with ⟨hv, hk⟩ | ⟨g, cap, cur, hv, _, hgg, h3, h4, h5, h6⟩
    · cases hv
      refine ⟨PH.un PH.emp m2, ⟨_, m2, ⟨ho.1, .inl ⟨rfl, rfl, rfl, rfl⟩⟩, h2, (fun b o (e : none = some o) => nomatch e), rfl⟩, ?_, ?_, ?_⟩
      · exact fun b o e => hin2 b o (by rcases PH.un_some e with e | e; cases e; exact e)
      · exact fun b o e => hd b o (PH.le_un_right h12 b o (by rcases PH.un_some e with e | e; cases e; exact e))
      · exact fun b o e => hu b o (PH.le_un_right h12 b o (by rcases PH.un_some e with e | e; cases e; exact e))
    · cases hv
      have hgu : E.U g ∨ E.w0.heap.size ≤ g := by
        rcases hat with hat | hat
        · obtain ⟨o, ho'⟩ := hblk g hat.symm
          exact hu g o (PH.le_un_left _ _ g o ho')
        · simp [Value.ownBlock] at hat; subst hat; exact .inr hs.size
      have hg2 : m2 g = none := by
        rcases hat with hat | hat
        · obtain ⟨o, ho'⟩ := hblk g hat.symm
          exact h12 g o ho'
        · simp [Value.ownBlock] at hat; subst hat
          cases hm : m2 w.heap.size with
          | none => rfl
          | some o => have := inW_lt hin (PH.le_un_right h12 _ o hm); omega
      have hgF : F g = none := by
        rcases hat with hat | hat
        · obtain ⟨o, ho'⟩ := hblk g hat.symm
          exact hd g o (PH.le_un_left _ _ g o ho')
        · simp [Value.ownBlock] at hat; subst hat
          cases hm : F w.heap.size with
          | none => rfl
          | some o => have := inW_lt hs.frz hm; omega
      refine ⟨PH.un (PH.one g (.cells cur e (0, 0))) m2, ⟨_, m2, ⟨ho.1, .inr ⟨g, cur, rfl, h3, h4, h5, h6, rfl⟩⟩, h2, (fun b o e => by obtain ⟨rfl, rfl⟩ := PH.one_some e; exact hg2), rfl⟩, ?_, ?_, ?_⟩
      · intro b o e
        rcases PH.un_some e with e | e
        · obtain ⟨rfl, rfl⟩ := PH.one_some e; exact hgg
        · exact hin2 b o e
      · refine PH.disj_un_left (fun b o e => by obtain ⟨rfl, rfl⟩ := PH.one_some e; exact hgF) (PH.disj_mono hd (PH.le_un_right h12))
      · intro b o e
        rcases PH.un_some e with e | e
        · obtain ⟨rfl, rfl⟩ := PH.one_some e; exact hgu
        · exact hu b o (PH.le_un_right h12 b o e)
end
end Go.Sy
