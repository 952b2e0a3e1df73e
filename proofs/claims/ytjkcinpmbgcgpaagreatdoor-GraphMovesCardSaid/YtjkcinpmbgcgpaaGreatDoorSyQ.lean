/- Short rules: walks told in few letters. -/
import Derived.Test.YtjkcinpmbgcgpaaGreatDoorSyRange
namespace Go.Sy
open Go Go.RowKit
set_option linter.unusedVariables false
abbrev pP (b o : Nat) : Value := .pointer (some ⟨b, o, none⟩)
abbrev bA (b : Nat) : Option Addr := some ⟨b, 0, none⟩
abbrev nI (n : Nat) : Int := (n : Int)
abbrev iV (i : Int) : Value := .int .i64 i
abbrev T : Bool := true
abbrev O : Bool := false
abbrev sl {α : Type} (A : Option Addr) (xs : List α) (c : Nat) : Value := .slice A xs.length c
abbrev lV {α : Type} (xs : List α) : Value := .int .i64 (xs.length : Int)
abbrev nV (n : Nat) : Value := .int .i64 (n : Int)
abbrev sV (l : List UInt8) : Value := .string (bs l)
abbrev nS : Value := .slice none 0 0
abbrev bK (b : Nat) (cs : Array Value) (e : TypeId) : Chunk := blk b (.cells cs e (0, 0))
abbrev eV (w : World) (m F : PH) : Env := ⟨w, fun b => m b ≠ none, F⟩
section
variable {P : Program} {E : Env} {n : Nat} {L : List (Nat × Value)} {F : PH} {H : List Chunk} {K : Act → World → Prop} {Q : Exit → Act → World → Prop} {ops : Array Oper} {rest : List Oper} {d : Nat} {ty : TypeId} {pos : String} {aft : Array Edge} {g : Option (Nat × Bool)} {x y z : Operand} {v u : Value} {t : TypeId} {op : Op}
theorem mv (e : (ev L x, Nat.blt d n) = (some v, true)) (h : St (wpList P ops Q rest) E n ((d, v) :: L) F H) : St (wpList P ops Q (⟨some d, .move x, ty, pos, aft, none⟩ :: rest)) E n L F H := St.val (Yields.move (congrArg (·.1) e)) trivial rfl (congrArg (·.2) e) h
theorem sg (e : (ev L x, Nat.blt d n) = (some v, true)) (h : St (wpList P ops Q rest) E n ((d, v) :: L) F H) : St (wpList P ops Q (⟨some d, .assign x, ty, pos, aft, none⟩ :: rest)) E n L F H := St.val (Yields.assign (congrArg (·.1) e)) trivial rfl (congrArg (·.2) e) h
theorem un (hu : Unwanted ops ⟨some d, op, ty, pos, aft, g⟩ L) (e : Nat.blt d n = true) (h : St (wpList P ops Q rest) E n ((d, undef) :: L) F H) : St (wpList P ops Q (⟨some d, op, ty, pos, aft, g⟩ :: rest)) E n L F H := St.unwanted hu rfl e h
theorem pt (e : (ev L z, ev L x, Nat.blt d n) = (some (.bool true), some v, true)) (h : St (wpList P ops Q rest) E n ((d, v) :: L) F H) : St (wpList P ops Q (⟨some d, .pick z x y, ty, pos, aft, none⟩ :: rest)) E n L F H := St.val (Yields.pick_t (congrArg (·.1) e) (congrArg (·.2.1) e)) trivial rfl (congrArg (·.2.2) e) h
theorem pf (e : (ev L z, ev L y, Nat.blt d n) = (some (.bool false), some v, true)) (h : St (wpList P ops Q rest) E n ((d, v) :: L) F H) : St (wpList P ops Q (⟨some d, .pick z x y, ty, pos, aft, none⟩ :: rest)) E n L F H := St.val (Yields.pick_f (congrArg (·.1) e) (congrArg (·.2.1) e)) trivial rfl (congrArg (·.2.2) e) h
/-- Any operation by its own rule. -/
theorem yv (hy : Yields P E n L F H ⟨some d, op, ty, pos, aft, none⟩ v) (e : Nat.blt d n = true) (h : St (wpList P ops Q rest) E n ((d, v) :: L) F H) : St (wpList P ops Q (⟨some d, op, ty, pos, aft, none⟩ :: rest)) E n L F H := St.val hy trivial rfl e h
theorem yw (hy : Yields P E n L F H ⟨some d, op, ty, pos, aft, g⟩ v) (hw : Wanted ops ⟨some d, op, ty, pos, aft, g⟩ L) (e : Nat.blt d n = true) (h : St (wpList P ops Q rest) E n ((d, v) :: L) F H) : St (wpList P ops Q (⟨some d, op, ty, pos, aft, g⟩ :: rest)) E n L F H := St.val hy hw rfl e h
theorem Yields.ld {b off : Nat} {cs : Array Value} {e : TypeId} {fz : Nat × Nat} {d : Option Nat} (i : Nat) (ht : cellT P t = true) (q : (ev L x, H[i]?, cs.toList[off]?) = (some (.pointer (some ⟨b, off, none⟩)), some (blk b (.cells cs e fz)), some v)) : Yields P E n L F H ⟨d, .load t x, ty, pos, aft, g⟩ v :=
  Yields.load (congrArg (·.1) q) (Loads.H1 i (congrArg (·.2.1) q) ht ((Array.getElem?_toList ..).symm.trans (congrArg (·.2.2) q)))
theorem Yields.lk {b k : Nat} {cs : Array Value} {e : TypeId} {fz : Nat × Nat} {d : Option Nat} (i : Nat) (ht : aggT P t k = true) (q : (ev L x, H[i]?, cs.size) = (some (.pointer (some ⟨b, 0, none⟩)), some (blk b (.cells cs e fz)), k)) : Yields P E n L F H ⟨d, .load t x, ty, pos, aft, g⟩ (.agg cs) := by
  have h := Yields.load (P := P) (E := E) (n := n) (F := F) (g := g) (ty := ty) (pos := pos) (aft := aft) (d := d) (congrArg (·.1) q) (Loads.Hk (P := P) (E := E) (F := F) (k := k) (vs := cs.toList) i (congrArg (·.2.1) q) ht (by
    have h1 : cs.size = k := congrArg (·.2.2) q
    rw [List.drop_zero, ← h1, ← Array.length_toList, List.take_length]) (by
    have h1 : cs.size = k := congrArg (·.2.2) q
    rw [← h1, Array.length_toList]))
  simpa using h
theorem Loads.HK {b k : Nat} {cs : Array Value} {e : TypeId} {fz : Nat × Nat} (i : Nat) (ht : aggT P t k = true) (q : (H[i]?, cs.size) = (some (blk b (.cells cs e fz)), k)) : Loads P E F H t ⟨b, 0, none⟩ (.agg cs) := by
  have h1 : cs.size = k := congrArg (·.2) q
  have h := Loads.Hk (P := P) (E := E) (F := F) (k := k) (vs := cs.toList) i (congrArg (·.1) q) ht (by rw [List.drop_zero, ← h1, ← Array.length_toList, List.take_length]) (by rw [← h1, Array.length_toList])
  simpa using h
theorem ld {b off : Nat} {cs : Array Value} {e : TypeId} {fz : Nat × Nat} (i : Nat) (ht : cellT P t = true) (q : (ev L x, H[i]?, cs.toList[off]?, Nat.blt d n) = (some (.pointer (some ⟨b, off, none⟩)), some (blk b (.cells cs e fz)), some v, true)) (h : St (wpList P ops Q rest) E n ((d, v) :: L) F H) : St (wpList P ops Q (⟨some d, .load t x, ty, pos, aft, none⟩ :: rest)) E n L F H :=
  yv (Yields.load (congrArg (·.1) q) (Loads.H1 i (congrArg (·.2.1) q) ht ((Array.getElem?_toList ..).symm.trans (congrArg (·.2.2.1) q)))) (congrArg (·.2.2.2) q) h
theorem lk {b k : Nat} {cs : Array Value} {e : TypeId} {fz : Nat × Nat} (i : Nat) (ht : aggT P t k = true) (q : (ev L x, H[i]?, cs.size) = (some (.pointer (some ⟨b, 0, none⟩)), some (blk b (.cells cs e fz)), k)) (e1 : Nat.blt d n = true) (h : St (wpList P ops Q rest) E n ((d, .agg cs) :: L) F H) : St (wpList P ops Q (⟨some d, .load t x, ty, pos, aft, none⟩ :: rest)) E n L F H :=
  yv (Yields.lk i ht q) e1 h
/-- Where a field is. -/
def FA (P : Program) (s k o o' : Nat) : Prop := ∀ b w, (Instr.fieldAt s (.pointer (some ⟨b, o, none⟩)) k).run P w = .ok (.pointer (some ⟨b, o', none⟩)) w
theorem Yields.fa {s k o o' b : Nat} {d : Option Nat} (hf : FA P s k o o') (hx : ev L x = some (.pointer (some ⟨b, o, none⟩))) : Yields P E n L F H ⟨d, .fieldAddr s x k, ty, pos, aft, g⟩ (.pointer (some ⟨b, o', none⟩)) := Yields.fieldAddr hx (hf b)
theorem fa {s k o o' b : Nat} (hf : FA P s k o o') (q : (ev L x, Nat.blt d n) = (some (.pointer (some ⟨b, o, none⟩)), true)) (h : St (wpList P ops Q rest) E n ((d, .pointer (some ⟨b, o', none⟩)) :: L) F H) : St (wpList P ops Q (⟨some d, .fieldAddr s x k, ty, pos, aft, none⟩ :: rest)) E n L F H :=
  yv (Yields.fieldAddr (congrArg (·.1) q) (hf b)) (congrArg (·.2) q) h
/-- Ways that part. -/
theorem iS {α : Type} {c : Prop} [Decidable c] {x y : Option α} {r : α} (hm : (if c then x else y) = some r) : c ∧ x = some r ∨ ¬ c ∧ y = some r := by
  by_cases h : c
  · rw [if_pos h] at hm; exact .inl ⟨h, hm⟩
  · rw [if_neg h] at hm; exact .inr ⟨h, hm⟩
theorem cP {α : Type} {c : Prop} [Decidable c] {X Y : Option α} {r : α} {o : Operand} {a b : Code} (hm : (if c then X else Y) = some r) (hc : ev L o = some (.bool (decide c))) (h1 : c → X = some r → St (a.wp P Q) E n L F H) (h2 : ¬ c → Y = some r → St (b.wp P Q) E n L F H) : St ((Code.cond o a b).wp P Q) E n L F H := by
  rcases iS hm with ⟨h, hm⟩ | ⟨h, hm⟩
  · exact St.cond_t (by rw [hc, decide_eq_true h]) (h1 h hm)
  · exact St.cond_f (by rw [hc, decide_eq_false h]) (h2 h hm)
theorem cB {α : Type} {c : Bool} {X Y : Option α} {r : α} {o : Operand} {a b : Code} (hm : (if c = true then X else Y) = some r) (hc : ev L o = some (.bool c)) (h1 : c = true → X = some r → St (a.wp P Q) E n L F H) (h2 : ¬ c = true → Y = some r → St (b.wp P Q) E n L F H) : St ((Code.cond o a b).wp P Q) E n L F H := by
  rcases iS hm with ⟨h, hm⟩ | ⟨h, hm⟩
  · exact St.cond_t (by rw [hc, h]) (h1 h hm)
  · exact St.cond_f (by rw [hc, eq_false_of_ne_true h]) (h2 h hm)
theorem Cat.cn {α : Type} {D : Kind α} {F : PH} {cs : List Value} {x : α} {xs : List α} (h1 : D.R F (cs.take D.sz) x) (h2 : Cat D F (cs.drop D.sz) xs) : Cat D F cs (x :: xs) := ⟨_, _, (List.take_append_drop _ _).symm, h1, h2⟩
/-- Pieces picked out by numbers. -/
def sel {α : Type} : List Nat → List α → Option (List α)
  | [], _ => some []
  | i :: l, xs => match xs[i]? with
    | none => none
    | some x => (sel l (xs.eraseIdx i)).map (x :: ·)
theorem sel_of : ∀ (l : List Nat) {H H' : List Chunk}, sel l H = some H' → ∀ m, Sep H m → ∃ m', Sep H' m' ∧ PH.le m' m
  | [], H, H', h => by cases h; exact Among.none
  | i :: l, H, H', h => by
    unfold sel at h
    cases hi : H[i]? with
    | none => rw [hi] at h; cases h
    | some c =>
      rw [hi] at h
      obtain ⟨R, hr, rfl⟩ := Option.map_eq_some_iff.1 (show (sel l (H.eraseIdx i)).map (c :: ·) = some H' from h)
      exact Among.take i hi rfl (sel_of l hr)
theorem am {E : Env} {H H' : List Chunk} {F : PH} {w : World} (l : List Nat) (hs : Sat E F H w) (h : sel l H = some H') : Sat E F H' w := Among.of (sel_of l h) _ hs
/-- The slots that stay. -/
theorem cv {a : Act} {L' : List (Nat × Value)} (ha : Has n a L) (hc : Covers L L' := by repeat first | exact trivial | refine ⟨rfl, ?_⟩) : Has n a L' := ha.covers hc
theorem us {a : Act} {w : World} (ha : Has n a L) (hs : Sat E F H w) (h : St K E n L F H) : K a w := h a w ha hs
theorem cI {x y : Code} (I : (List (Nat × Value) → Prop) → (PH → List Chunk → Prop) → Prop) (h1 : St (x.wp P (Exit.then (fun a w => I (Has n a) fun F H => Sat E F H w) Q)) E n L F H) (h2 : ∀ a w, I (Has n a) (fun F H => Sat E F H w) → y.wp P Q a w) : St ((Code.seq x y).wp P Q) E n L F H := St.cutI _ h1 h2
theorem lM {S Q0 : Type} {c : Code} {s0 : S} {body : S → Option (S ⊕ Q0)} {z : Q0} (hz : Mir.Loop s0 body = some z) (I : S → (List (Nat × Value) → Prop) → (PH → List Chunk → Prop) → Prop) (h0 : St (fun a w => I s0 (Has n a) fun F H => Sat E F H w) E n L F H)
    (hr : ∀ s o (cont : S → Prop), body s = some o → Mir.After o cont z → ∀ a w, I s (Has n a) (fun F H => Sat E F H w) → c.wp P (Exit.then (fun a' w' => ∃ s', cont s' ∧ I s' (Has n a') fun F H => Sat E F H w') Q) a w) : St ((Code.loop c).wp P Q) E n L F H := St.loopM hz (fun s a w => I s (Has n a) fun F H => Sat E F H w) h0 hr
/-- Arguments at hand. -/
def evs (L : List (Nat × Value)) : List Operand → Option (List Value)
  | [] => some []
  | x :: l => (ev L x).bind fun v => (evs L l).map (v :: ·)
theorem evs_of {a : Act} (ha : Has n a L) : ∀ {l : List Operand} {vs : List Value}, evs L l = some vs → l.map a.eval = vs
  | [], vs, h => by cases h; rfl
  | x :: l, vs, h => by
    unfold evs at h
    obtain ⟨v, h1, h2⟩ := Option.bind_eq_some_iff.1 h
    obtain ⟨r, h3, h4⟩ := Option.map_eq_some_iff.1 h2
    rw [List.map_cons, evs_of ha h3, ha.ev h1, h4]
theorem A1 {xs : Array Operand} {vs : List Value} (h : evs L xs.toList = some vs) (a : Act) (ha : Has n a L) : xs.map a.eval = vs.toArray := by
  have := evs_of ha h
  rw [← this, ← Array.toList_map, Array.toArray_toList]
def evp (L : List (Nat × Value)) : List (Nat × Operand) → Option (List (Nat × Value))
  | [] => some []
  | (i, x) :: l => (ev L x).bind fun v => (evp L l).map ((i, v) :: ·)
theorem evp_of {a : Act} (ha : Has n a L) : ∀ {l : List (Nat × Operand)} {vs : List (Nat × Value)}, evp L l = some vs → (l.map fun (i, x) => (i, a.eval x)) = vs
  | [], vs, h => by cases h; rfl
  | (i, x) :: l, vs, h => by
    unfold evp at h
    obtain ⟨v, h1, h2⟩ := Option.bind_eq_some_iff.1 h
    obtain ⟨r, h3, h4⟩ := Option.map_eq_some_iff.1 h2
    rw [List.map_cons, evp_of ha h3, ← h4]
    show (i, a.eval x) :: r = _
    rw [ha.ev h1]
theorem A2 {ps : Array (Nat × Operand)} {vs : List (Nat × Value)} (h : evp L ps.toList = some vs) (a : Act) (ha : Has n a L) : (ps.map fun (i, x) => (i, a.eval x)) = vs.toArray := by
  have := evp_of ha h
  rw [← this, ← Array.toList_map, Array.toArray_toList]
theorem dR {fn : Func} {w0 : World} {m F0 : PH} {Post : Value → PH → List Chunk → Prop} {H' : List Chunk} (l : List Nat) (hres : fn.results = #[]) (hp : Post (.tuple #[]) F H') (h : sel l H = some H') : St (fun a w => bodyPost P fn (Back w0 m F0 Post) .ret a w) ⟨w0, fun b => m b ≠ none, F0⟩ n L F H := St.doneR0 hres hp fun w hs => am l hs h
variable {T : List Nat} {Fs : PH} {Hs : List Chunk} {fuel : Nat} {listed listed' : Array Bool}
theorem tp [hc : CalmI Q] (i : Nat) (hi : ops[i]? = some ⟨some d, op, ty, pos, aft, none⟩) (hy : ∀ E, Yields P E n L PH.emp [] ⟨some d, op, ty, pos, aft, none⟩ v) (hdn : Nat.blt d n = true) (hl : listed.setIfInBounds i true = listed')
    (h : StD P ops Q T Fs Hs fuel listed' E n ((d, v) :: L) F H) (hcheck : (Region.noSelect ops && Region.free .any ops listed i && (Region.ready .any ops listed).contains i) = true := by kernel_rfl) : StD P ops Q T Fs Hs (fuel + 1) listed E n L F H := sdp i hi hy hdn hcheck hl h
/-- Not wanted, or wanted, told by a Bool. -/
def uwB (ops : Array Oper) (o : Oper) (L : List (Nat × Value)) : Bool := match o.guard with
  | none => false
  | some (j, b) => match ((ops[j]?).bind (·.dst)).bind (look L) with
    | some (.bool c) => c == !b
    | some _ => true
    | none => false
theorem uw_of {ops : Array Oper} {o : Oper} {L : List (Nat × Value)} (h : uwB ops o L = true) : Unwanted ops o L := by
  unfold uwB at h
  unfold Unwanted
  cases hg : o.guard with
  | none => rw [hg] at h; cases h
  | some p =>
    obtain ⟨j, b⟩ := p
    rw [hg] at h
    dsimp only at h ⊢
    cases hv : ((ops[j]?).bind (·.dst)).bind (look L) with
    | none => rw [hv] at h; cases h
    | some v =>
      rw [hv] at h
      cases v <;> first | trivial | exact eq_of_beq h
def waB (ops : Array Oper) (o : Oper) (L : List (Nat × Value)) : Bool := match o.guard with
  | none => true
  | some (j, b) => match ((ops[j]?).bind (·.dst)).bind (look L) with
    | some (.bool c) => c == b
    | _ => false
theorem wa_of {ops : Array Oper} {o : Oper} {L : List (Nat × Value)} (h : waB ops o L = true) : Wanted ops o L := by
  unfold waB at h
  unfold Wanted
  cases hg : o.guard with
  | none => trivial
  | some p =>
    obtain ⟨j, b⟩ := p
    rw [hg] at h
    dsimp only at h ⊢
    cases hv : ((ops[j]?).bind (·.dst)).bind (look L) with
    | none => rw [hv] at h; cases h
    | some v =>
      rw [hv] at h
      cases v <;> first | cases h | (rw [eq_of_beq h]) 
theorem tn [hc : CalmI Q] (i : Nat) (q : (ops[i]?, Nat.blt d n) = (some ⟨some d, op, ty, pos, aft, g⟩, true)) (hu : uwB ops ⟨some d, op, ty, pos, aft, g⟩ L = true) (hl : listed.setIfInBounds i true = listed')
    (h : StD P ops Q T Fs Hs fuel listed' E n ((d, undef) :: L) F H) (hcheck : (Region.noSelect ops && Region.free .any ops listed i && (Region.ready .any ops listed).contains i) = true := by kernel_rfl) : StD P ops Q T Fs Hs (fuel + 1) listed E n L F H := StD.takeNot (congrArg (·.1) q) (uw_of hu) rfl (congrArg (·.2) q) hc.out hcheck hl h
theorem tq [hc : CalmI Q] (i : Nat) (hi : ops[i]? = some ⟨some d, op, ty, pos, aft, g⟩) (hy : ∀ E, Yields P E n L PH.emp [] ⟨some d, op, ty, pos, aft, g⟩ v) (hdn : Nat.blt d n = true) (hw : waB ops ⟨some d, op, ty, pos, aft, g⟩ L = true) (hl : listed.setIfInBounds i true = listed')
    (h : StD P ops Q T Fs Hs fuel listed' E n ((d, v) :: L) F H) (hcheck : (Region.noSelect ops && Region.free .any ops listed i && (Region.ready .any ops listed).contains i) = true := by kernel_rfl) : StD P ops Q T Fs Hs (fuel + 1) listed E n L F H := StD.takeP hi hy rfl hdn (wa_of hw) hc.out hcheck hl h
theorem tv [hc : CalmI Q] (U : List Nat) (i : Nat) (hi : ops[i]? = some ⟨some d, op, ty, pos, aft, g⟩) (hy : Yields P E n L Fs Hs ⟨some d, op, ty, pos, aft, g⟩ v) (hdn : Nat.blt d n = true) (hw : waB ops ⟨some d, op, ty, pos, aft, g⟩ L = true) (hl : listed.setIfInBounds i true = listed') (ham : Among E Fs Hs F H)
    (h : StD P ops Q T Fs Hs fuel listed' E n ((d, v) :: L) F H) (hcheck : (!T.contains i && !U.contains i && tailOk ops T U && Region.noSelect ops && Region.free .any ops listed i && (Region.ready .any ops listed).contains i) = true := by kernel_rfl) : StD P ops Q T Fs Hs (fuel + 1) listed E n L F H := StD.take U hi hy rfl hdn (wa_of hw) ham hc.out hcheck hl h
theorem oN (i : Nat) {oi : Oper} (hi : ops[i]? = some oi) (hl : listed.setIfInBounds i true = listed') (h : Closed ops listed' → St (wpList P ops (Exit.then (fun a w => (T.contains i = false → Sat E Fs Hs w) ∧ wpAnyT P ops Q (Sat E Fs Hs) T fuel listed' a w) Q) [oi]) E n L F H) (hr : Region.ready .any ops listed = [i] := by kernel_rfl) : StD P ops Q T Fs Hs (fuel + 1) listed E n L F H := StD.only hi hr hl h
/-- A region begins, whose order is open: all pieces stand for it. -/
theorem ds {id : Nat} {l : List Oper} (T : List Nat) (hm : P.follows .mixedOrders = true) (h : StD P l.toArray Q T F H l.length (List.replicate l.length false).toArray E n L F H) : St ((Code.region id l.toArray true).wp P Q) E n L F H := StD.start T H hm h
theorem tk [hc : CalmI Q] (U : List Nat) (i : Nat) (hi : ops[i]? = some ⟨some d, op, ty, pos, aft, none⟩) (hy : Yields P E n L Fs Hs ⟨some d, op, ty, pos, aft, none⟩ v) (hdn : Nat.blt d n = true) (hl : listed.setIfInBounds i true = listed') (ham : Among E Fs Hs F H)
    (h : StD P ops Q T Fs Hs fuel listed' E n ((d, v) :: L) F H) (hcheck : (!T.contains i && !U.contains i && tailOk ops T U && Region.noSelect ops && Region.free .any ops listed i && (Region.ready .any ops listed).contains i) = true := by kernel_rfl) : StD P ops Q T Fs Hs (fuel + 1) listed E n L F H := sdt U i hi hy hdn ham hcheck hl h
end
section
variable {P : Program} {E : Env} {n : Nat} {L : List (Nat × Value)} {F : PH} {R R3 : List Chunk} {K : Act → World → Prop} {Q : Exit → Act → World → Prop} {ops : Array Oper} {rest : List Oper} {d : Nat} {ty : TypeId} {pos : String} {aft : Array Edge} {gd : Option (Nat × Bool)} {x y z s : Operand} {v u : Value} {t e sz c : Nat} {A : Option Addr} {cells : List Value}
theorem sN {b k : Nat} {cs vs : Array Value} (ht : aggT P t k = true) (q : (ev L x, ev L y) = (some (.pointer (some ⟨b, 0, none⟩)), some (.agg vs))) (hv : (vs.toList.all Value.oneCell' && Nat.beq vs.size k && Nat.beq cs.size k) = true)
    (h : St (wpList P ops Q rest) E n L F (blk b (.cells vs e (0, 0)) :: R)) : St (wpList P ops Q (⟨none, .store t x y, ty, pos, aft, none⟩ :: rest)) E n L F (blk b (.cells cs e (0, 0)) :: R) := by
  rw [Bool.and_eq_true, Bool.and_eq_true] at hv
  obtain ⟨⟨h1, h2⟩, h3⟩ := hv
  have e2 := Nat.eq_of_beq_eq_true h2
  have e3 := Nat.eq_of_beq_eq_true h3
  refine St.storen (congrArg (·.1) q) (congrArg (·.2) q) 0 rfl rfl ht h2 h1 (by rw [e2, e3, Nat.zero_add, Nat.ble_eq]; exact Nat.le_refl _) trivial ?_ h
  rw [List.take_zero, List.nil_append, Nat.zero_add, List.drop_of_length_le (by rw [Array.length_toList, e2, e3]; exact Nat.le_refl _), List.append_nil, Array.toArray_toList]
theorem sM {b off k : Nat} {cs vs : Array Value} (ht : aggT P t k = true) (hx : ev L x = some (.pointer (some ⟨b, off, none⟩))) (hy : ev L y = some (.agg vs)) (hvs : Nat.beq vs.size k = true) (hv : vs.toList.all Value.oneCell' = true) (ho : Nat.ble (off + vs.size) cs.size = true) {cs' : Array Value} (hcs : (cs.toList.take off ++ vs.toList ++ cs.toList.drop (off + vs.size)).toArray = cs')
    (h : St (wpList P ops Q rest) E n L F (blk b (.cells cs' e (0, 0)) :: R)) : St (wpList P ops Q (⟨none, .store t x y, ty, pos, aft, none⟩ :: rest)) E n L F (blk b (.cells cs e (0, 0)) :: R) := St.storen hx hy 0 rfl rfl ht hvs hv ho trivial hcs h
theorem s1 {b : Nat} (ht : cellT P t = true) (q : (ev L x, ev L y, v.oneCell') = (some (.pointer (some ⟨b, 0, none⟩)), some v, true))
    (h : St (wpList P ops Q rest) E n L F (blk b (.cells #[v] e (0, 0)) :: R)) : St (wpList P ops Q (⟨none, .store t x y, ty, pos, aft, none⟩ :: rest)) E n L F (blk b (.cells #[u] e (0, 0)) :: R) := St.store (R := R) (off := 0) (cs := #[u]) (congrArg (·.1) q) (congrArg (·.2.1) q) 0 rfl rfl ht (congrArg (·.2.2) q) rfl trivial (cs' := #[v]) rfl h
theorem sO {b off : Nat} {cs : Array Value} (ht : cellT P t = true) (hx : ev L x = some (.pointer (some ⟨b, off, none⟩))) (hy : ev L y = some v) (hv : v.oneCell' = true) (ho : Nat.blt off cs.size = true) {cs' : Array Value} (hcs : cs.setIfInBounds off v = cs')
    (h : St (wpList P ops Q rest) E n L F (blk b (.cells cs' e (0, 0)) :: R)) : St (wpList P ops Q (⟨none, .store t x y, ty, pos, aft, none⟩ :: rest)) E n L F (blk b (.cells cs e (0, 0)) :: R) := St.store hx hy 0 rfl rfl ht hv ho trivial hcs h
class En (P : Program) (f : FuncId) : Prop where
  out : Enters P f
theorem cl {f : FuncId} [hen : En P f] {d : Nat} {fx : Operand} {xs : Array Operand} {ts : Array TypeId} {fs cs args : Array Value} {vs : List Value} {H Hp Hr : List Chunk} {Post : Value → PH → List Chunk → Prop} (hc : CallSp P f args F Hp Post) (q : (ev L fx, evs L xs.toList, H, Nat.blt d n) = (some (.func (.func f) fs cs), some vs, Hp ++ Hr, true)) (he : (fs ++ vs.toArray) ++ cs = args)
    (h : ∀ v F' H', Post v F' H' → PH.le F F' → St (wpList P ops Q rest) E n ((d, v) :: L) F' (H' ++ Hr)) : St (wpList P ops Q (⟨some d, .call ⟨.value fx, xs, ts⟩, ty, pos, aft, none⟩ :: rest)) E n L F H := St.call Hr hc (congrArg (·.1) q) (A1 (congrArg (·.2.1) q)) he hen.out (congrArg (·.2.2.1) q) (congrArg (·.2.2.2) q) trivial h
theorem d0 {fn : Func} {w0 : World} {m F0 : PH} {H H' : List Chunk} {Post : Value → PH → List Chunk → Prop} (l : List Nat) (hres : fn.results = #[]) (hp : Post (.tuple #[]) F H') (h : sel l H = some H') : St (fun a w => bodyPost P fn (Back w0 m F0 Post) .ret a w) ⟨w0, fun b => m b ≠ none, F0⟩ n L F H := St.doneR0 hres hp fun w hs => am l hs h
theorem mP {κ : Type} [DecidableEq κ] {KE : KeyEnc κ} {α : Type} {K0 : Kind α} {agg : Bool} {es zs : List (κ × α)} {vs : List (κ × Value)} {b k : Nat} {kk : κ} {val : Value} {xx : α} (hz : Mir.put es kk xx = some zs) (hr : Mrel K0 agg F vs es) (hval : Mval K0 agg F val xx) (ht : P.underlying t = some (.map k e)) (hk : P.underlying k = some KE.desc) (q : (ev L x, ev L y, ev L z) = (some (.map (some b)), some (KE.enc kk), some val))
    (h : ∀ vs', Mrel K0 agg F vs' zs → St (wpList P ops Q rest) E n L F (mapv KE b vs' :: R)) : St (wpList P ops Q (⟨none, .mapUpdate t x y z, ty, pos, aft, none⟩ :: rest)) E n L F (mapv KE b vs :: R) := St.mapPutK hz hr hval (congrArg (·.1) q) (congrArg (·.2.1) q) (congrArg (·.2.2) q) 0 rfl rfl ht hk trivial h
theorem mI {κ : Type} [DecidableEq κ] {KE : KeyEnc κ} {α : Type} {K0 : Kind α} {agg : Bool} {es zs : List (κ × α)} {vs : List (κ × Value)} {b k : Nat} {kk : κ} {val : Value} {xx : α} (hz : Mir.put es kk xx = some zs) (hr : Mrel K0 agg F vs es) (hval : Mval K0 agg F val xx) (ht : P.underlying t = some (.map k e)) (hk : P.underlying k = some KE.desc) (q : (ev L x, ev L y, ev L z) = (some (.map (some b)), some (KE.enc kk), some val))
    (h : ∀ vs', Mrel K0 agg F vs' zs → St (wpList P ops Q rest) E n L F (mapv KE b vs' :: R)) : St (wpList P ops Q (⟨none, .insert t x y z, ty, pos, aft, none⟩ :: rest)) E n L F (mapv KE b vs :: R) := St.mapInsK hz hr hval (congrArg (·.1) q) (congrArg (·.2.1) q) (congrArg (·.2.2) q) 0 rfl rfl ht hk trivial h
theorem mw (e1 : (ev L x, Nat.blt d n) = (some v, true)) (hw : waB ops ⟨some d, .move x, ty, pos, aft, gd⟩ L = true) (h : St (wpList P ops Q rest) E n ((d, v) :: L) F R) : St (wpList P ops Q (⟨some d, .move x, ty, pos, aft, gd⟩ :: rest)) E n L F R := St.val (Yields.move (congrArg (·.1) e1)) (wa_of hw) rfl (congrArg (·.2) e1) h
theorem lw {H : List Chunk} {b off : Nat} {cs : Array Value} {e : TypeId} {fz : Nat × Nat} (i : Nat) (ht : cellT P t = true) (q : (ev L x, H[i]?, cs.toList[off]?, Nat.blt d n) = (some (.pointer (some ⟨b, off, none⟩)), some (blk b (.cells cs e fz)), some v, true)) (hw : waB ops ⟨some d, .load t x, ty, pos, aft, gd⟩ L = true) (h : St (wpList P ops Q rest) E n ((d, v) :: L) F H) : St (wpList P ops Q (⟨some d, .load t x, ty, pos, aft, gd⟩ :: rest)) E n L F H :=
  St.val (Yields.load (congrArg (·.1) q) (Loads.H1 i (congrArg (·.2.1) q) ht ((Array.getElem?_toList ..).symm.trans (congrArg (·.2.2.1) q)))) (wa_of hw) rfl (congrArg (·.2.2.2) q) h
theorem fw {s k o o' b : Nat} (hf : FA P s k o o') (q : (ev L x, Nat.blt d n) = (some (.pointer (some ⟨b, o, none⟩)), true)) (hw : waB ops ⟨some d, .fieldAddr s x k, ty, pos, aft, gd⟩ L = true) (h : St (wpList P ops Q rest) E n ((d, .pointer (some ⟨b, o', none⟩)) :: L) F R) : St (wpList P ops Q (⟨some d, .fieldAddr s x k, ty, pos, aft, gd⟩ :: rest)) E n L F R :=
  St.val (Yields.fieldAddr (congrArg (·.1) q) (hf b)) (wa_of hw) rfl (congrArg (·.2) q) h
/-- A way ends: what stands is what was asked. -/
theorem eN {H H' : List Chunk} {L' : List (Nat × Value)} (l : List Nat) (h : sel l H = some H') (hc : Covers L L' := by repeat first | exact trivial | refine ⟨rfl, ?_⟩) : St (fun a w => Has n a L' ∧ Sat E F H' w) E n L F H := fun _ _ ha hs => ⟨ha.covers hc, am l hs h⟩
theorem nx {T : List Nat} {Fs : PH} {Hs H : List Chunk} {fuel : Nat} {listed' : Array Bool} {i : Nat} (hcl : Closed ops listed') (l : List Nat) (hle : PH.le Fs F) (hold : PH.le E.F0 Fs) (q : sel l H = some Hs) (h : StD P ops Q T Fs Hs fuel listed' E n L F H) :
    St (wpList P ops (Exit.then (fun a w => (T.contains i = false → Sat E Fs Hs w) ∧ wpAnyT P ops Q (Sat E Fs Hs) T fuel listed' a w) Q) []) E n L F H := StD.next hcl (fun _ => Among.of_le hle hold (sel_of l q)) h
theorem wr {α : Type} {b k : Nat} {cs : Array Value} {l : List Value} (xs : List α) (sz : Nat) (q : (xs.length, cs.toList) = (k, l)) (hs : (Nat.beq cs.size (k * sz) && Nat.ble k maxLen) = true) (hst : St K E n L F (rowo (some ⟨b, 0, none⟩) xs.length k e sz l :: R)) : St K E n L F (blk b (.cells cs e (0, 0)) :: R) := by
  rw [Bool.and_eq_true] at hs
  have h1 : xs.length = k := congrArg (·.1) q
  have h2 : cs.toList = l := congrArg (·.2) q
  rw [h1, ← h2] at hst
  exact St.weak 0 rfl rfl (fun m hm => rowo_of_row (row_of_blk (Nat.eq_of_beq_eq_true hs.1) (Nat.le_of_ble_eq_true hs.2) hm)) hst
theorem wk {a b : Chunk} (h : ∀ m, a m → b m) (hst : St K E n L F (b :: R)) : St K E n L F (a :: R) := St.weak 0 rfl rfl h hst
theorem fz {α : Type} {D : Kind α} {b : Nat} {xs : List α} (hsz : sz = D.sz) (hc : Cat D F cells xs) (hb : xs.length * b ≤ 140737488355328 ∧ xs.length ≤ 140737488355328) (h : ∀ F', PH.le F F' → Fsl b D F' A c xs → St K E n L F' R) : St K E n L F (rowo A xs.length c e sz cells :: R) := St.frz 0 rfl rfl hsz hc hb h
theorem pL {α : Type} {b : Nat} {D : Kind α} {xs ys zs : List α} {g m c2 : Nat} {cs : Array Value} {e' : TypeId} (hz : Mir.push b xs ys = some zs) (hT : slT P t e sz b = true) (hsz : Nat.blt 0 sz = true) (hDs : D.sz = sz) (hx : ev L s = some (.slice A xs.length c)) (hy : ev L y = some (.slice (some ⟨g, 0, none⟩) m c2)) (hm : ys.length = m) (hC : Cat D F cells xs) (hD : Cat D F cs.toList ys) (hdn : Nat.blt d n = true)
    (h : ∀ A' c' cells', Cat D F cells' zs → St (wpList P ops Q rest) E n ((d, .slice A' zs.length c') :: L) F (rowo A' zs.length c' e sz cells' :: R)) : St (wpList P ops Q (⟨some d, .call ⟨.builtin .append, #[s, y], #[t, t]⟩, ty, pos, aft, none⟩ :: rest)) E n L F (rowo A xs.length c e sz cells :: blk g (.cells cs e' (0, 0)) :: R) := St.pushL hz hT hsz hDs hx hy hm 0 rfl rfl 1 rfl 0 rfl rfl hC hD hdn trivial h
theorem pS {α : Type} {b b2 c2 : Nat} {D : Kind α} {B : Option Addr} {xs ys zs : List α} (hz : Mir.push b xs ys = some zs) (hT : slT P t e sz b = true) (hsz : Nat.blt 0 sz = true) (hDs : D.sz = sz) (hx : ev L s = some (.slice A xs.length c)) (hy : ev L y = some (.slice B ys.length c2)) (hC : Cat D F cells xs) (hS : Fsl b2 D F B c2 ys) (hdn : Nat.blt d n = true)
    (h : ∀ A' c' cells', Cat D F cells' zs → St (wpList P ops Q rest) E n ((d, .slice A' zs.length c') :: L) F (rowo A' zs.length c' e sz cells' :: R)) : St (wpList P ops Q (⟨some d, .call ⟨.builtin .append, #[s, y], #[t, t]⟩, ty, pos, aft, none⟩ :: rest)) E n L F (rowo A xs.length c e sz cells :: R) := St.pushS hz hT hsz hDs hx hy 0 rfl rfl hC hS hdn trivial h
theorem bx {e : TypeId} (q : (ev L x, v.cells, Nat.blt d n) = (some v, #[v], true)) (h : ∀ b, St (wpList P ops Q rest) E n ((d, .pointer (some ⟨b, 0, none⟩)) :: L) F (blk b (.cells #[v] e (0, 0)) :: R)) : St (wpList P ops Q (⟨some d, .box e x, ty, pos, aft, none⟩ :: rest)) E n L F R := St.box (congrArg (·.1) q) trivial (congrArg (·.2.2) q) fun b => by
  have hc : v.cells = #[v] := congrArg (·.2.1) q
  rw [hc]; exact h b
theorem ba {e : TypeId} {cs : Array Value} (q : (ev L x, Nat.blt d n) = (some (.agg cs), true)) (h : ∀ b, St (wpList P ops Q rest) E n ((d, .pointer (some ⟨b, 0, none⟩)) :: L) F (blk b (.cells cs e (0, 0)) :: R)) : St (wpList P ops Q (⟨some d, .box e x, ty, pos, aft, none⟩ :: rest)) E n L F R := St.box (v := .agg cs) (congrArg (·.1) q) trivial (congrArg (·.2) q) h
theorem al {e : TypeId} {v : Value} (hz : (P.info? e).bind TypeInfo.zero = some v) (q : (v.cells, Nat.blt d n) = (#[v], true)) (h : ∀ b, St (wpList P ops Q rest) E n ((d, .pointer (some ⟨b, 0, none⟩)) :: L) F (blk b (.cells #[v] e (0, 0)) :: R)) : St (wpList P ops Q (⟨some d, .alloc e, ty, pos, aft, none⟩ :: rest)) E n L F R := St.alloc hz trivial (congrArg (·.2) q) fun b => by
  have hc : v.cells = #[v] := congrArg (·.1) q
  rw [hc]; exact h b
theorem aa {e : TypeId} {cs : Array Value} (hz : (P.info? e).bind TypeInfo.zero = some (.agg cs)) (q : Nat.blt d n = true) (h : ∀ b, St (wpList P ops Q rest) E n ((d, .pointer (some ⟨b, 0, none⟩)) :: L) F (blk b (.cells cs e (0, 0)) :: R)) : St (wpList P ops Q (⟨some d, .alloc e, ty, pos, aft, none⟩ :: rest)) E n L F R := St.alloc (z := .agg cs) hz trivial q h
theorem aF {E : Env} {H Hs : List Chunk} {F : PH} (l : List Nat) (q : sel l H = some Hs) : Among E F Hs F H := Among.of (sel_of l q)
theorem aG {E : Env} {H Hs : List Chunk} {F F' : PH} (l : List Nat) (hle : PH.le F F') (hold : PH.le E.F0 F) (q : sel l H = some Hs) : Among E F Hs F' H := Among.of_le hle hold (sel_of l q)
theorem bl {α : Type} {xs : List α} (b : Nat) (h : (Nat.ble (xs.length * b) 140737488355328 && Nat.ble xs.length 140737488355328) = true) : Bnd b xs := by
  rw [Bool.and_eq_true] at h
  exact ⟨Nat.le_of_ble_eq_true h.1, Nat.le_of_ble_eq_true h.2⟩
theorem dn {T : List Nat} {Fs : PH} {Hs H : List Chunk} {fuel : Nat} {listed : Array Bool} (h : St (fun a w => Q .normal a w) E n L F H) (hr : Region.ready .any ops listed = [] := by kernel_rfl) : StD P ops Q T Fs Hs fuel listed E n L F H := StD.done hr h
theorem oS {α β : Type} {p : Option α} {k : α → Option β} {r : β} {G : Prop} (hm : p.bind k = some r) (h : ∀ x, p = some x → k x = some r → G) : G := by
  obtain ⟨x, h1, h2⟩ := Mir.bS hm
  exact h x h1 h2
theorem oJ {J A : Type} {x : Option (J ⊕ A)} {k : J → Option A} {r : A} {G : Prop} (hm : Mir.jx x k = some r) (h : ∀ o, x = some o → Mir.After o (fun j => k j = some r) r → G) : G := by
  obtain ⟨o, h1, h2⟩ := Mir.jS hm
  exact h o h1 h2
theorem oC {α β : Type} {p : Option α} {k : α → Option β} {r : β} {x y : Code} {H : List Chunk} (hm : p.bind k = some r) (I : α → (List (Nat × Value) → Prop) → (PH → List Chunk → Prop) → Prop) (h1 : ∀ z, p = some z → St (x.wp P (Exit.then (fun a w => I z (Has n a) fun F H => Sat E F H w) Q)) E n L F H) (h2 : ∀ z, k z = some r → ∀ a w, I z (Has n a) (fun F H => Sat E F H w) → y.wp P Q a w) : St ((Code.seq x y).wp P Q) E n L F H := by
  obtain ⟨z, hm, hk⟩ := Mir.bS hm
  exact St.cutI _ (h1 z hm) (h2 z hk)
theorem oD {J A : Type} {p : Option (J ⊕ A)} {k : J → Option A} {r : A} {x y : Code} {H : List Chunk} (hm : Mir.jx p k = some r) (I : (J ⊕ A) → (List (Nat × Value) → Prop) → (PH → List Chunk → Prop) → Prop) (h1 : ∀ o, p = some o → Mir.After o (fun j => k j = some r) r → St (x.wp P (Exit.then (fun a w => I o (Has n a) fun F H => Sat E F H w) Q)) E n L F H) (h2 : ∀ o, Mir.After o (fun j => k j = some r) r → ∀ a w, I o (Has n a) (fun F H => Sat E F H w) → y.wp P Q a w) : St ((Code.seq x y).wp P Q) E n L F H := by
  obtain ⟨o, hm, ho⟩ := Mir.jS hm
  exact St.cutI _ (h1 o hm ho) (h2 o ho)
theorem mN {κ α : Type} {F : PH} (K0 : Kind α) (agg : Bool) : Mrel K0 agg F ([] : List (κ × Value)) [] := trivial
theorem nN {α : Type} {r : α} {G : Prop} (h : (none : Option α) = some r) : G := nomatch h
end
theorem z.{u} {α : Sort u} {a : α} : a = a := rfl
end Go.Sy
