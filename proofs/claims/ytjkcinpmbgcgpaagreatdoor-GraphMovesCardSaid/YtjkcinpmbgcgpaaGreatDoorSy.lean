/- A small calculus of assertions on memory, for walks over Go's loaded code: frames known by slots, a frozen part of memory (F), pieces that may be written (H). -/
import Derived.Below
import Derived.Calls
import Derived.Tactics
import Derived.WalkKit
import Derived.KernelRfl
namespace Go.Sy
open Go Go.RowKit

abbrev PH := Nat → Option Obj
def PH.le (m m' : PH) : Prop := ∀ b o, m b = some o → m' b = some o
def PH.disj (m m' : PH) : Prop := ∀ b o, m b = some o → m' b = none
def PH.one (b : Nat) (o : Obj) : PH := fun k => if k = b then some o else none
def PH.un (m m' : PH) : PH := fun k => match m k with | some o => some o | none => m' k
theorem PH.one_some {b k : Nat} {o x : Obj} (h : PH.one b o k = some x) : k = b ∧ x = o := by
  unfold PH.one at h
  split at h
  · rename_i e; exact ⟨e, (Option.some.inj h).symm⟩
  · cases h
theorem PH.one_same (b : Nat) (o : Obj) : PH.one b o b = some o := by simp [PH.one]
def PH.emp : PH := fun _ => none
def PH.inW (m : PH) (w : World) : Prop := ∀ b o, m b = some o → w.heap[b]? = some o
def PH.ofW (w : World) : PH := fun b => w.heap[b]?
def PH.cell? (m : PH) (a : Addr) : Option Value := match m a.block with | some (.cells c _ _) => if a.spot.isSome then none else c[a.off]? | _ => none

theorem PH.le_refl (m : PH) : PH.le m m := fun _ _ h => h
theorem PH.le_trans {a b c : PH} (h : PH.le a b) (k : PH.le b c) : PH.le a c := fun x o e => k x o (h x o e)
theorem PH.disj_symm {a b : PH} (h : PH.disj a b) : PH.disj b a := fun x o e => by
  cases ha : a x with
  | none => rfl
  | some y => have := h x y ha; rw [e] at this; cases this
theorem PH.un_some {m m' : PH} {b : Nat} {o : Obj} (h : PH.un m m' b = some o) : m b = some o ∨ m' b = some o := by
  unfold PH.un at h
  split at h
  · rename_i x hx; exact .inl (by rw [hx]; exact h)
  · exact .inr h
theorem PH.le_un_left (m m' : PH) : PH.le m (PH.un m m') := fun b o h => by unfold PH.un; rw [h]
theorem PH.le_un_right {m m' : PH} (hd : PH.disj m m') : PH.le m' (PH.un m m') := fun b o h => by
  unfold PH.un
  have := PH.disj_symm hd b o h
  rw [this]; exact h
theorem PH.cell?_le {m m' : PH} (h : PH.le m m') {a : Addr} {v : Value} (hc : m.cell? a = some v) : m'.cell? a = some v := by
  unfold PH.cell? at *
  split at hc
  · rename_i c e fz hm; rw [h _ _ hm]; exact hc
  · cases hc
theorem PH.cell?_inW {m : PH} {w : World} (h : m.inW w) {a : Addr} {v : Value} (hc : m.cell? a = some v) : w.cell? a = some v := by
  unfold PH.cell? at hc
  unfold World.cell?
  split at hc
  · rename_i c e fz hm; rw [h _ _ hm]; exact hc
  · cases hc

/-- Pieces of memory, one beside the other. -/
abbrev Chunk := PH → Prop
def Sep : List Chunk → PH → Prop
  | [], m => ∀ b, m b = none
  | c :: H, m => ∃ m1 m2, c m1 ∧ Sep H m2 ∧ PH.disj m1 m2 ∧ m = PH.un m1 m2
def blk (b : Nat) (o : Obj) : Chunk := fun m => m = PH.one b o

theorem PH.un_comm {a b : PH} (h : PH.disj a b) : PH.un a b = PH.un b a := by
  funext k
  unfold PH.un
  cases ha : a k with
  | none => cases hb : b k <;> rfl
  | some o => rw [h k o ha]
theorem PH.un_assoc (a b c : PH) : PH.un (PH.un a b) c = PH.un a (PH.un b c) := by
  funext k
  unfold PH.un
  cases ha : a k <;> rfl
theorem PH.disj_un_left {a b c : PH} (h1 : PH.disj a c) (h2 : PH.disj b c) : PH.disj (PH.un a b) c := fun k o h => by
  rcases PH.un_some h with h | h
  · exact h1 k o h
  · exact h2 k o h
theorem PH.disj_un_right {a b c : PH} (h1 : PH.disj a b) (h2 : PH.disj a c) : PH.disj a (PH.un b c) := fun k o h => by
  unfold PH.un; rw [h1 k o h]; exact h2 k o h
theorem PH.disj_mono {a a' b : PH} (h : PH.disj a b) (hl : PH.le a' a) : PH.disj a' b := fun k o e => h k o (hl k o e)
theorem PH.disj_mono_right {a b b' : PH} (h : PH.disj a b) (hl : PH.le b' b) : PH.disj a b' := fun k o e => by
  have := h k o e
  cases hb : b' k with
  | none => rfl
  | some x => rw [hl k x hb] at this; cases this
theorem PH.un_le {a b c : PH} (h1 : PH.le a c) (h2 : PH.le b c) : PH.le (PH.un a b) c := fun k o h => by
  rcases PH.un_some h with h | h
  · exact h1 k o h
  · exact h2 k o h

theorem Sep.append {H H' : List Chunk} {m m' : PH} (h : Sep H m) (h' : Sep H' m') (hd : PH.disj m m') : Sep (H ++ H') (PH.un m m') := by
  induction H generalizing m with
  | nil =>
    have : PH.un m m' = m' := by funext k; unfold PH.un; rw [h k]
    rw [this]; exact h'
  | cons c H ih =>
    obtain ⟨m1, m2, h1, h2, h12, rfl⟩ := h
    have hd1 : PH.disj m1 m' := PH.disj_mono hd (PH.le_un_left _ _)
    have hd2 : PH.disj m2 m' := PH.disj_mono hd (PH.le_un_right h12)
    exact ⟨m1, PH.un m2 m', h1, ih h2 hd2, PH.disj_un_right h12 hd1, PH.un_assoc _ _ _⟩
theorem Sep.split {H H' : List Chunk} {m : PH} (h : Sep (H ++ H') m) : ∃ m1 m2, Sep H m1 ∧ Sep H' m2 ∧ PH.disj m1 m2 ∧ m = PH.un m1 m2 := by
  induction H generalizing m with
  | nil => exact ⟨PH.emp, m, fun _ => rfl, h, fun _ _ (e : none = some _) => (nomatch e), by funext k; rfl⟩
  | cons c H ih =>
    obtain ⟨m1, m2, h1, h2, h12, rfl⟩ := h
    obtain ⟨n1, n2, g1, g2, g12, rfl⟩ := ih h2
    have d1 : PH.disj m1 n1 := PH.disj_mono_right h12 (PH.le_un_left _ _)
    have d2 : PH.disj m1 n2 := PH.disj_mono_right h12 (PH.le_un_right g12)
    exact ⟨PH.un m1 n1, n2, ⟨m1, n1, h1, g1, d1, rfl⟩, g2, PH.disj_un_left d2 g12, (PH.un_assoc _ _ _).symm⟩
theorem Sep.swap {c1 c2 : Chunk} {H : List Chunk} {m : PH} (h : Sep (c1 :: c2 :: H) m) : Sep (c2 :: c1 :: H) m := by
  obtain ⟨m1, m2, h1, ⟨m3, m4, h3, h4, h34, rfl⟩, h12, rfl⟩ := h
  have d13 : PH.disj m1 m3 := PH.disj_mono_right h12 (PH.le_un_left _ _)
  have d14 : PH.disj m1 m4 := PH.disj_mono_right h12 (PH.le_un_right h34)
  refine ⟨m3, PH.un m1 m4, h3, ⟨m1, m4, h1, h4, d14, rfl⟩, PH.disj_un_right (PH.disj_symm d13) h34, ?_⟩
  rw [← PH.un_assoc, PH.un_comm d13, PH.un_assoc]
theorem Sep.perm {H H' : List Chunk} (hp : H.Perm H') : ∀ {m : PH}, Sep H m → Sep H' m := by
  induction hp with
  | nil => exact fun h => h
  | cons c _ ih => exact fun ⟨m1, m2, h1, h2, h12, e⟩ => ⟨m1, m2, h1, ih h2, h12, e⟩
  | swap c1 c2 H => exact fun h => Sep.swap h
  | trans _ _ ih1 ih2 => exact fun h => ih2 (ih1 h)

/-- Where a function began: its world, what it was lent, what was frozen. -/
structure Env where
  w0 : World
  U : Nat → Prop
  F0 : PH
structure Sat (E : Env) (F : PH) (H : List Chunk) (w : World) : Prop where
  os : w.os = E.w0.os
  tape : w.tape = E.w0.tape
  output : w.output = E.w0.output
  size : E.w0.heap.size ≤ w.heap.size
  same : ∀ b, b < E.w0.heap.size → ¬ E.U b → w.heap[b]? = E.w0.heap[b]?
  frz : F.inW w
  grow : ∀ b o, F b = some o → E.F0 b = some o ∨ E.U b ∨ E.w0.heap.size ≤ b
  old : PH.le E.F0 F
  mem : ∃ m, Sep H m ∧ m.inW w ∧ PH.disj m F ∧ ∀ b o, m b = some o → E.U b ∨ E.w0.heap.size ≤ b

theorem Sat.mk' {E : Env} {F : PH} {H H' : List Chunk} {w : World} (h : Sat E F H w) (hm : ∃ m, Sep H' m ∧ m.inW w ∧ PH.disj m F ∧ ∀ b o, m b = some o → E.U b ∨ E.w0.heap.size ≤ b) : Sat E F H' w := ⟨h.os, h.tape, h.output, h.size, h.same, h.frz, h.grow, h.old, hm⟩
theorem Sat.perm {E : Env} {F : PH} {H H' : List Chunk} {w : World} (h : Sat E F H w) (hp : H.Perm H') : Sat E F H' w :=
  h.mk' (let ⟨m, h1, h2⟩ := h.mem; ⟨m, Sep.perm hp h1, h2⟩)
theorem Sat.weaken {E : Env} {F : PH} {c : Chunk} {H : List Chunk} {w : World} (h : Sat E F (c :: H) w) : Sat E F H w :=
  h.mk' (by
      obtain ⟨m, ⟨m1, m2, h1, h2, h12, rfl⟩, hin, hd, hb⟩ := h.mem
      exact ⟨m2, h2, fun b o e => hin b o (PH.le_un_right h12 b o e), PH.disj_mono hd (PH.le_un_right h12), fun b o e => hb b o (PH.le_un_right h12 b o e)⟩)
theorem inW_lt {m : PH} {w : World} (h : m.inW w) {b : Nat} {o : Obj} (e : m b = some o) : b < w.heap.size := by
  have := h b o e
  rcases Nat.lt_or_ge b w.heap.size with h' | h'
  · exact h'
  · simp [Array.getElem?_eq_none h'] at this

/-- A new block. -/
theorem Sat.alloc {E : Env} {F : PH} {H : List Chunk} {w : World} (h : Sat E F H w) (o : Obj) : Sat E F (blk w.heap.size o :: H) (w.alloc o) where
  os := h.os
  tape := h.tape
  output := h.output
  size := by have := h.size; simp; omega
  same := fun b hb hu => by rw [Below.heap_alloc w o b (Nat.lt_of_lt_of_le hb h.size)]; exact h.same b hb hu
  frz := fun b x e => by rw [Below.heap_alloc w o b (inW_lt h.frz e)]; exact h.frz b x e
  grow := h.grow
  old := h.old
  mem := by
    obtain ⟨m, h1, h2, h3, h4⟩ := h.mem
    have hd : PH.disj (PH.one w.heap.size o) m := fun b x e => by
      unfold PH.one at e
      split at e
      · rename_i hb
        cases hm : m b with
        | none => rfl
        | some y => have := inW_lt h2 hm; omega
      · cases e
    refine ⟨PH.un (PH.one w.heap.size o) m, ⟨_, m, rfl, h1, hd, rfl⟩, ?_, ?_, ?_⟩
    · intro b x e
      rcases PH.un_some e with e | e
      · obtain ⟨rfl, rfl⟩ := PH.one_some e
        show (w.heap.push x)[w.heap.size]? = _; simp
      · rw [Below.heap_alloc w o b (inW_lt h2 e)]; exact h2 b x e
    · refine PH.disj_un_left (fun b x e => ?_) h3
      unfold PH.one at e
      split at e
      · rename_i hb
        cases hm : F b with
        | none => rfl
        | some y => have := inW_lt h.frz hm; omega
      · cases e
    · intro b x e
      rcases PH.un_some e with e | e
      · unfold PH.one at e
        split at e
        · rename_i hb; subst hb; exact .inr h.size
        · cases e
      · exact h4 b x e
theorem Sat.drew {E : Env} {F : PH} {H : List Chunk} {w : World} (h : Sat E F H w) : Sat E F H w.drew := ⟨h.os, h.tape, h.output, h.size, h.same, h.frz, h.grow, h.old, h.mem⟩

/-- One block of the first piece is written. -/
theorem Sat.set {E : Env} {F : PH} {H : List Chunk} {w w' : World} {b : Nat} {o o' : Obj} (h : Sat E F (blk b o :: H) w)
    (hos : w'.os = w.os) (htape : w'.tape = w.tape) (hout : w'.output = w.output) (hsz : w'.heap.size = w.heap.size)
    (hb : w'.heap[b]? = some o') (ho : ∀ k, k ≠ b → w'.heap[k]? = w.heap[k]?) : Sat E F (blk b o' :: H) w' := by
  obtain ⟨m, ⟨m1, m2, rfl, h2, h12, rfl⟩, hin, hd, hu⟩ := h.mem
  have hb1 : PH.one b o b = some o := by simp [PH.one]
  have hub := hu b o (PH.le_un_left _ _ b o hb1)
  have hFb : F b = none := hd b o (PH.le_un_left _ _ b o hb1)
  refine ⟨hos.trans h.os, htape.trans h.tape, hout.trans h.output, by rw [hsz]; exact h.size, ?_, ?_, h.grow, h.old, ?_⟩
  · intro k hk hku
    by_cases hkb : k = b
    · subst hkb; rcases hub with hub | hub
      · exact absurd hub hku
      · omega
    · rw [ho k hkb]; exact h.same k hk hku
  · intro k x e
    by_cases hkb : k = b
    · subst hkb; rw [hFb] at e; cases e
    · rw [ho k hkb]; exact h.frz k x e
  · have hd' : PH.disj (PH.one b o') m2 := fun k x e => by
      unfold PH.one at e
      split at e
      · rename_i hk; subst hk; exact h12 k o hb1
      · cases e
    refine ⟨PH.un (PH.one b o') m2, ⟨_, m2, rfl, h2, hd', rfl⟩, ?_, ?_, ?_⟩
    · intro k x e
      rcases PH.un_some e with e | e
      · obtain ⟨rfl, rfl⟩ := PH.one_some e
        exact hb
      · have hkb : k ≠ b := fun hk => by
          subst hk
          have h9 := h12 k o hb1
          rename_i e9
          first | (rw [h9] at e9; cases e9) | (rw [h9] at e; cases e)
        rw [ho k hkb]; exact hin k x (PH.le_un_right h12 k x e)
    · refine PH.disj_un_left (fun k x e => ?_) (PH.disj_mono hd (PH.le_un_right h12))
      unfold PH.one at e
      split at e
      · rename_i hk; subst hk; exact hFb
      · cases e
    · intro k x e
      rcases PH.un_some e with e | e
      · unfold PH.one at e
        split at e
        · rename_i hk; subst hk; exact hub
        · cases e
      · exact hu k x (PH.le_un_right h12 k x e)
theorem Sat.head {E : Env} {F : PH} {H : List Chunk} {w : World} {b : Nat} {o : Obj} (h : Sat E F (blk b o :: H) w) : w.heap[b]? = some o := by
  obtain ⟨m, ⟨m1, m2, rfl, h2, h12, rfl⟩, hin, _⟩ := h.mem
  exact hin b o (PH.le_un_left _ _ b o (by simp [PH.one]))

/-- The first piece is frozen. -/
theorem Sat.freeze {E : Env} {F : PH} {H : List Chunk} {w : World} {c : Chunk} (h : Sat E F (c :: H) w) : ∃ m, c m ∧ PH.disj m F ∧ Sat E (PH.un m F) H w := by
  obtain ⟨m, ⟨m1, m2, h1, h2, h12, rfl⟩, hin, hd, hu⟩ := h.mem
  have hd1 : PH.disj m1 F := PH.disj_mono hd (PH.le_un_left _ _)
  refine ⟨m1, h1, hd1, ⟨h.os, h.tape, h.output, h.size, h.same, ?_, ?_, ?_, ?_⟩⟩
  · intro b o e
    rcases PH.un_some e with e | e
    · exact hin b o (PH.le_un_left _ _ b o e)
    · exact h.frz b o e
  · intro b o e
    rcases PH.un_some e with e | e
    · exact .inr (hu b o (PH.le_un_left _ _ b o e))
    · exact h.grow b o e
  · exact PH.le_trans h.old (PH.le_un_right hd1)
  · exact ⟨m2, h2, fun b o e => hin b o (PH.le_un_right h12 b o e), PH.disj_un_right (PH.disj_symm h12) (PH.disj_mono hd (PH.le_un_right h12)), fun b o e => hu b o (PH.le_un_right h12 b o e)⟩

/-! ### frames by slots -/
def look : List (Nat × Value) → Nat → Option Value
  | [], _ => none
  | (k, v) :: l, i => match Nat.beq k i with | true => some v | false => look l i
structure Has (n : Nat) (a : Act) (L : List (Nat × Value)) : Prop where
  size : a.tmps.size = n
  defers : a.defers = []
  get : ∀ k v, look L k = some v → a.tmps[k]? = some v
def ev (L : List (Nat × Value)) : Operand → Option Value
  | .tmp t => look L t
  | .const v => some v
  | .global g => some (.pointer (some ⟨g, 0, none⟩))
  | .func f => some (.func (.func f) #[] #[])
theorem Has.ev {n : Nat} {a : Act} {L : List (Nat × Value)} (h : Has n a L) {x : Operand} {v : Value} (hv : ev L x = some v) : a.eval x = v := by
  cases x with
  | tmp t => have := h.get t v hv; simp [Act.eval, Array.getD_eq_getD_getElem?, this]
  | const u => exact Option.some.inj hv
  | global g => exact Option.some.inj hv
  | func f => exact Option.some.inj hv
theorem Has.put {n : Nat} {a : Act} {L : List (Nat × Value)} (h : Has n a L) {d : Nat} {v : Value} (hd : Nat.blt d n = true) : Has n (a.put (some d) v) ((d, v) :: L) where
  size := by simp [Act.put, h.size]
  defers := h.defers
  get := fun k u e => by
    have hdn : d < a.tmps.size := by rw [h.size]; exact (Nat.blt_eq ▸ hd : d < n)
    unfold look at e
    by_cases hk : d = k
    · subst hk
      have : Nat.beq d d = true := by simp
      rw [this] at e
      cases e
      simp [Act.put, hdn]
    · have : Nat.beq d k = false := by rw [Bool.eq_false_iff]; intro h; exact hk (Nat.eq_of_beq_eq_true h)
      rw [this] at e
      have := h.get k u e
      simp [Act.put, Array.getElem?_setIfInBounds_ne hk, this]
theorem Has.putNone {n : Nat} {a : Act} {L : List (Nat × Value)} (h : Has n a L) (v : Value) : Has n (a.put none v) L := h
/-- Only some slots are kept. -/
def Covers (L : List (Nat × Value)) : List (Nat × Value) → Prop
  | [] => True
  | (k, v) :: l => look L k = some v ∧ Covers L l
theorem Covers.get {L L' : List (Nat × Value)} (h : Covers L L') (k : Nat) (v : Value) (e : look L' k = some v) : look L k = some v := by
  induction L' with
  | nil => cases e
  | cons p l ih =>
    obtain ⟨i, u⟩ := p
    unfold look at e
    split at e
    · rename_i hb; have := Nat.eq_of_beq_eq_true hb; subst this; cases e; exact h.1
    · exact ih h.2 e
theorem Has.covers {n : Nat} {a : Act} {L L' : List (Nat × Value)} (h : Has n a L) (hc : Covers L L') : Has n a L' := ⟨h.size, h.defers, fun k v e => h.get k v (hc.get k v e)⟩

/-- A state of the walk. -/
def St (K : Act → World → Prop) (E : Env) (n : Nat) (L : List (Nat × Value)) (F : PH) (H : List Chunk) : Prop := ∀ a w, Has n a L → Sat E F H w → K a w

section
variable {P : Program} {E : Env} {n : Nat} {L L' : List (Nat × Value)} {F F' : PH} {H H' : List Chunk} {K : Act → World → Prop} {Q : Exit → Act → World → Prop} {ops : Array Oper} {rest : List Oper}

theorem St.perm (hp : H.Perm H') (h : St K E n L F H') : St K E n L F H := fun a w ha hs => h a w ha (hs.perm hp)
theorem St.drop {c : Chunk} (h : St K E n L F H) : St K E n L F (c :: H) := fun a w ha hs => h a w ha hs.weaken
theorem St.covers (hc : Covers L L') (h : St K E n L' F H) : St K E n L F H := fun a w ha hs => h a w (ha.covers hc) hs
theorem St.rot1 {c0 c1 : Chunk} (h : St K E n L F (c1 :: c0 :: H)) : St K E n L F (c0 :: c1 :: H) := St.perm (List.Perm.swap _ _ _) h
theorem St.rot2 {c0 c1 c2 : Chunk} (h : St K E n L F (c2 :: c0 :: c1 :: H)) : St K E n L F (c0 :: c1 :: c2 :: H) :=
  St.perm ((List.Perm.cons _ (List.Perm.swap _ _ _)).trans (List.Perm.swap _ _ _)) h
theorem St.rot3 {c0 c1 c2 c3 : Chunk} (h : St K E n L F (c3 :: c0 :: c1 :: c2 :: H)) : St K E n L F (c0 :: c1 :: c2 :: c3 :: H) :=
  St.perm ((List.Perm.cons _ ((List.Perm.cons _ (List.Perm.swap _ _ _)).trans (List.Perm.swap _ _ _))).trans (List.Perm.swap _ _ _)) h
theorem perm_erase {A : Type} : ∀ {H : List A} (i : Nat) {c : A}, H[i]? = some c → H.Perm (c :: H.eraseIdx i)
  | [], _, _, h => by cases h
  | d :: H, 0, _, h => by cases h; exact List.Perm.refl _
  | d :: H, i + 1, c, h => (List.Perm.cons d (perm_erase i (H := H) h)).trans (List.Perm.swap _ _ _)
/-- Piece number i comes to the front. -/
theorem St.pick (i : Nat) {c : Chunk} {R : List Chunk} (hi : H[i]? = some c) (hR : H.eraseIdx i = R) (h : St K E n L F (c :: R)) : St K E n L F H :=
  St.perm (by subst hR; exact perm_erase i hi) h
end
end Go.Sy
