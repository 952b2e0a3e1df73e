/- The calculus, for walks that a program writes: plain words for what Go's operations check, loops in plain words, slices of data. -/
import Derived.Test.YtjkcinpmbgcgpaaGreatDoorSyFrom
import Derived.Test.YtjkcinpmbgcgpaaGreatDoorSyLaw
namespace Go.Mir
open Go
/-! ### plain words -/
def idx {α : Type} (xs : List α) (i : Int) : Option α := if 0 ≤ i then xs[i.toNat]? else none
def push {α : Type} (b : Nat) (xs ys : List α) : Option (List α) := if (xs.length + ys.length) * b ≤ 140737488355328 ∧ xs.length + ys.length ≤ 140737488355328 then some (xs ++ ys) else none
def sub {α : Type} (xs : List α) (j l : Int) : Option (List α) := if 0 ≤ j ∧ j ≤ l ∧ l ≤ xs.length then some ((xs.take l.toNat).drop j.toNat) else none
def upd {α : Type} (xs : List α) (i : Int) (x : α) : Option (List α) := if 0 ≤ i ∧ i < xs.length then some (xs.set i.toNat x) else none
def made {α : Type} (b : Nat) (n : Int) (z : α) : Option (List α) := if 0 ≤ n ∧ n ≤ 1000000000000 ∧ n * b ≤ 140737488355328 then some (List.replicate n.toNat z) else none
def w64 (a : Int) : Int := IntKind.i64.wrap a
def quo (a b : Int) : Option Int := if b = 0 then none else some (w64 (a.tdiv b))
def rem (a b : Int) : Option Int := if b = 0 then none else some (a.tmod b)
def jx {J A : Type} (x : Option (J ⊕ A)) (k : J → Option A) : Option A := match x with | none => none | some (.inl j) => k j | some (.inr a) => some a
def LoopN {S Q : Type} (body : S → Option (S ⊕ Q)) : Nat → S → Option Q
  | 0, _ => none
  | n + 1, s => match body s with
    | none => none
    | some (.inl s') => LoopN body n s'
    | some (.inr q) => some q
theorem LoopN_mono {S Q : Type} {body : S → Option (S ⊕ Q)} : ∀ {n : Nat} {s : S} {q : Q}, LoopN body n s = some q → ∀ m, n ≤ m → LoopN body m s = some q
  | 0, _, _, h => by cases h
  | n + 1, s, q, h => fun m hm => by
    obtain ⟨m, rfl⟩ : ∃ k, m = k + 1 := ⟨m - 1, by omega⟩
    rw [LoopN] at h ⊢
    cases hb : body s with
    | none => rw [hb] at h; cases h
    | some o =>
      rw [hb] at h
      cases o with
      | inl s' => exact LoopN_mono h m (by omega)
      | inr q' => exact h
open Classical in
/-- A loop: by 64 rounds, or by whatever ends it. -/
noncomputable def Loop {S Q : Type} (s : S) (body : S → Option (S ⊕ Q)) : Option Q := match LoopN body 64 s with
  | some q => some q
  | none => if h : ∃ q, ∃ n, LoopN body n s = some q then some (Classical.choose h) else none
theorem Loop_some {S Q : Type} {s : S} {body : S → Option (S ⊕ Q)} {q : Q} : Loop s body = some q ↔ ∃ n, LoopN body n s = some q := by
  unfold Loop
  cases h0 : LoopN body 64 s with
  | some q0 =>
    constructor
    · intro h; cases h; exact ⟨64, h0⟩
    · rintro ⟨n, h⟩
      have h1 := LoopN_mono h (n + 64) (by omega)
      have h2 := LoopN_mono h0 (n + 64) (by omega)
      rw [h1] at h2
      exact h2.symm
  | none =>
    constructor
    · intro h
      dsimp only at h
      split at h
      · rename_i h'
        cases h
        exact Classical.choose_spec h'
      · cases h
    · rintro ⟨n, h⟩
      have h' : ∃ q, ∃ n, LoopN body n s = some q := ⟨q, n, h⟩
      dsimp only
      rw [dif_pos h']
      obtain ⟨m, hm⟩ := Classical.choose_spec h'
      have h1 := LoopN_mono h (n + m) (by omega)
      have h2 := LoopN_mono hm (n + m) (by omega)
      rw [h1] at h2
      exact h2.symm
theorem Loop_inl {S Q : Type} {s s' : S} {body : S → Option (S ⊕ Q)} (h : body s = some (.inl s')) : Loop s body = Loop s' body := by
  have key : ∀ q, Loop s body = some q ↔ Loop s' body = some q := fun q => by
    rw [Loop_some, Loop_some]
    constructor
    · rintro ⟨n, hn⟩
      cases n with
      | zero => cases hn
      | succ n => rw [LoopN, h] at hn; exact ⟨n, hn⟩
    · rintro ⟨n, hn⟩
      exact ⟨n + 1, by rw [LoopN, h]; exact hn⟩
  cases h1 : Loop s body with
  | some q => exact ((key q).1 h1).symm
  | none =>
    cases h2 : Loop s' body with
    | none => rfl
    | some q => rw [(key q).2 h2] at h1; cases h1
theorem Loop_inr {S Q : Type} {s : S} {q : Q} {body : S → Option (S ⊕ Q)} (h : body s = some (.inr q)) : Loop s body = some q := Loop_some.2 ⟨1, by rw [LoopN, h]⟩
/-- What comes of a round. -/
def After {S Q : Type} (o : S ⊕ Q) (cont : S → Prop) (z : Q) : Prop := match o with | .inl s => cont s | .inr q => q = z
theorem bS {α β : Type} {x : Option α} {f : α → Option β} {r : β} (h : x.bind f = some r) : ∃ a, x = some a ∧ f a = some r := Option.bind_eq_some_iff.1 h
theorem jS {J A : Type} {x : Option (J ⊕ A)} {k : J → Option A} {r : A} (h : jx x k = some r) : ∃ o, x = some o ∧ After o (fun j => k j = some r) r := by
  unfold jx at h
  split at h
  · cases h
  · exact ⟨_, rfl, h⟩
  · exact ⟨_, rfl, Option.some.inj h⟩
theorem iT {α : Type} {c : Prop} [Decidable c] {x y : Option α} {r : α} (hm : (if c then x else y) = some r) (h : c) : x = some r := by rwa [if_pos h] at hm
theorem iF {α : Type} {c : Prop} [Decidable c] {x y : Option α} {r : α} (hm : (if c then x else y) = some r) (h : ¬ c) : y = some r := by rwa [if_neg h] at hm
theorem sI {α : Type} {x y : α} (h : some x = some y) : x = y := Option.some.inj h
theorem aR {S Q : Type} {q z : Q} {cont : S → Prop} (h : After (.inr q) cont z) : q = z := h
theorem aL {S Q : Type} {s : S} {z : Q} {cont : S → Prop} (h : After (.inl s) cont z) : cont s := h
theorem nd_t {c : Prop} [Decidable c] (h : (!decide c) = true) : ¬ c := by simpa using h
theorem nd_f {c : Prop} [Decidable c] (h : (!decide c) = false) : c := by simpa using h
theorem bf {b : Bool} (h : b = false) : ¬ b = true := by rw [h]; decide
theorem nb_t {b : Bool} (h : (!b) = true) : ¬ b = true := by cases b <;> simp_all
theorem nb_f {b : Bool} (h : (!b) = false) : b = true := by cases b <;> simp_all
theorem idx_some {α : Type} {xs : List α} {i : Int} {x : α} (h : idx xs i = some x) : 0 ≤ i ∧ xs[i.toNat]? = some x := by
  unfold idx at h
  split at h
  · exact ⟨by assumption, h⟩
  · cases h
theorem idx_nat {α : Type} (xs : List α) (i : Nat) : idx xs (i : Int) = xs[i]? := by
  unfold idx
  rw [if_pos (by omega), Int.toNat_natCast]
theorem nlit {α : Type} {xs : List α} {i : Nat} {x : α} (h : xs[i]? = some x) : idx xs (i : Int) = some x := by rw [idx_nat]; exact h
theorem push_some {α : Type} {b : Nat} {xs ys zs : List α} (h : push b xs ys = some zs) : zs = xs ++ ys ∧ zs.length * b ≤ 140737488355328 ∧ zs.length ≤ 140737488355328 := by
  unfold push at h
  split at h
  · rename_i h1
    cases h
    exact ⟨rfl, by rw [List.length_append]; exact h1.1, by rw [List.length_append]; exact h1.2⟩
  · cases h
theorem sub_some {α : Type} {xs ys : List α} {j l : Int} (h : sub xs j l = some ys) : (0 ≤ j ∧ j ≤ l ∧ l ≤ xs.length) ∧ ys = (xs.take l.toNat).drop j.toNat := by
  unfold sub at h
  split at h
  · rename_i h1; cases h; exact ⟨h1, rfl⟩
  · cases h
theorem upd_some {α : Type} {xs ys : List α} {i : Int} {x : α} (h : upd xs i x = some ys) : (0 ≤ i ∧ i < xs.length) ∧ ys = xs.set i.toNat x := by
  unfold upd at h
  split at h
  · rename_i h1; cases h; exact ⟨h1, rfl⟩
  · cases h
theorem made_some {α : Type} {b : Nat} {n : Int} {z : α} {ys : List α} (h : made b n z = some ys) : (0 ≤ n ∧ n ≤ 1000000000000 ∧ n * b ≤ 140737488355328) ∧ ys = List.replicate n.toNat z := by
  unfold made at h
  split at h
  · rename_i h1; cases h; exact ⟨h1, rfl⟩
  · cases h
theorem quo_some {a b r : Int} (h : quo a b = some r) : b ≠ 0 ∧ r = w64 (a.tdiv b) := by
  unfold quo at h
  split at h
  · cases h
  · cases h; exact ⟨by assumption, rfl⟩
theorem rem_some {a b r : Int} (h : rem a b = some r) : b ≠ 0 ∧ r = a.tmod b := by
  unfold rem at h
  split at h
  · cases h
  · cases h; exact ⟨by assumption, rfl⟩
theorem w64_eq {a : Int} (h : -9223372036854775808 ≤ a ∧ a < 9223372036854775808) : w64 a = a := IntWalk.i64_in a (by omega)
end Go.Mir
namespace Go.Sy
open Go Go.RowKit Go.Mir
def bs (l : List UInt8) : ByteArray := ⟨l.toArray⟩
/-- A slice of data that is read. -/
structure Fsl {α : Type} (b : Nat) (K : Kind α) (F : PH) (A : Option Addr) (c : Nat) (xs : List α) : Prop where
  slc : Slc K F A xs.length xs
  cap : xs.length ≤ c
  bnd : xs.length * b ≤ 140737488355328 ∧ xs.length ≤ 140737488355328
theorem Fsl.mono {α : Type} {b : Nat} {K : Kind α} {F F' : PH} {A : Option Addr} {c : Nat} {xs : List α} (hl : PH.le F F') (h : Fsl b K F A c xs) : Fsl b K F' A c xs := ⟨h.slc.mono hl, h.cap, h.bnd⟩
theorem Fsl.nil {α : Type} {b : Nat} {K : Kind α} {F : PH} : Fsl b K F none 0 ([] : List α) := ⟨⟨rfl, .inl rfl⟩, Nat.le_refl _, by simp⟩
def Kind.sl {α : Type} (b : Nat) (K : Kind α) : Kind (List α) where
  sz := 1
  R := fun F cs xs => ∃ A c, cs = [.slice A xs.length c] ∧ Fsl b K F A c xs
  len := fun ⟨A, c, h, _⟩ => by rw [h]; rfl
  mono := fun hl ⟨A, c, h, h1⟩ => ⟨A, c, h, h1.mono hl⟩
  one := fun ⟨A, c, h, _⟩ u hu => by rw [h] at hu; rw [List.mem_singleton.1 hu]; rfl
def Kind.str : Kind (List UInt8) := Kind.scalar (fun l => .string (bs l)) fun _ => rfl
/-- Where the element is. -/
def IdxAt (A : Option Addr) (k sz : Nat) (i : Int) (p : Addr) : Prop := 0 ≤ i ∧ i < k ∧ ∃ ad, A = some ad ∧ ad.add (i.toNat * sz) = p
theorem Fsl.idx {α : Type} {b : Nat} {K : Kind α} {F : PH} {A : Option Addr} {c : Nat} {xs : List α} (h : Fsl b K F A c xs) {i : Int} {x : α} (hx : Mir.idx xs i = some x) :
    ∃ p cs, IdxAt A xs.length K.sz i p ∧ K.R F cs x ∧ ∀ j v, cs[j]? = some v → F.cell? (p.add j) = some v := by
  obtain ⟨h0, hx⟩ := idx_some hx
  obtain ⟨ad, cs, hA, h1, h2⟩ := h.slc.get hx
  have := (List.getElem?_eq_some_iff.1 hx).1
  exact ⟨_, cs, ⟨h0, by omega, ad, hA, rfl⟩, h1, h2⟩
theorem Fsl.nidx {α : Type} {b : Nat} {K : Kind α} {F : PH} {A : Option Addr} {c : Nat} {xs : List α} (h : Fsl b K F A c xs) {i : Nat} {x : α} (hx : xs[i]? = some x) :
    ∃ p cs, IdxAt A xs.length K.sz (i : Int) p ∧ K.R F cs x ∧ ∀ j v, cs[j]? = some v → F.cell? (p.add j) = some v := h.idx (by rw [idx_nat]; exact hx)
theorem Cat.idx {α : Type} {K : Kind α} {F : PH} {cells : List Value} {xs : List α} (h : Cat K F cells xs) {i : Int} {x : α} (hx : Mir.idx xs i = some x) :
    0 ≤ i ∧ i < xs.length ∧ ∃ cs, K.R F cs x ∧ ∀ j v, cs[j]? = some v → cells[i.toNat * K.sz + j]? = some v := by
  obtain ⟨h0, hx⟩ := idx_some hx
  have := (List.getElem?_eq_some_iff.1 hx).1
  exact ⟨h0, by omega, h.get hx⟩
theorem Cat.nidx {α : Type} {K : Kind α} {F : PH} {cells : List Value} {xs : List α} (h : Cat K F cells xs) {i : Nat} {x : α} (hx : xs[i]? = some x) :
    0 ≤ (i : Int) ∧ (i : Int) < xs.length ∧ ∃ cs, K.R F cs x ∧ ∀ j v, cs[j]? = some v → cells[(i : Int).toNat * K.sz + j]? = some v := h.idx (by rw [idx_nat]; exact hx)
theorem Cat.put {α : Type} {K : Kind α} {F : PH} {vs : List Value} {y : α} (hy : K.R F vs y) : ∀ {xs : List α} {cells : List Value} {i : Nat}, Cat K F cells xs → i < xs.length → Cat K F (cells.take (i * K.sz) ++ vs ++ cells.drop (i * K.sz + K.sz)) (xs.set i y)
  | [], _, _, _, h => by cases h
  | x :: xs, cells, 0, ⟨c, r, h, h1, h2⟩, _ => by
    refine ⟨vs, r, ?_, hy, h2⟩
    rw [h, Nat.zero_mul, Nat.zero_add, List.take_zero, List.nil_append, ← K.len h1, List.drop_left]
  | x :: xs, cells, i + 1, ⟨c, r, h, h1, h2⟩, hi => by
    refine ⟨c, r.take (i * K.sz) ++ vs ++ r.drop (i * K.sz + K.sz), ?_, h1, Cat.put hy h2 (by simpa using hi)⟩
    have hl := K.len h1
    rw [h, Nat.succ_mul, show i * K.sz + K.sz = K.sz + i * K.sz by omega, ← hl, List.take_length_add_append, show c.length + i * c.length + c.length = c.length + (i * c.length + c.length) by omega, List.drop_append, List.drop_of_length_le (by omega)]
    simp [List.append_assoc, Nat.add_sub_cancel_left, Nat.add_comm]
/-- One cell of an element is written. -/
theorem Cat.putf {α : Type} {K : Kind α} {F : PH} {v : Value} {y : α} {fo : Nat} (hfo : fo < K.sz) : ∀ {xs : List α} {cells : List Value} {i : Nat} {x : α}, Cat K F cells xs → xs[i]? = some x → (∀ cs, K.R F cs x → K.R F (cs.set fo v) y) → Cat K F (cells.set (i * K.sz + fo) v) (xs.set i y)
  | [], _, _, _, _, h, _ => by simp at h
  | x :: xs, cells, 0, x', ⟨c, r, h, h1, h2⟩, hx, hy => by
    cases hx
    refine ⟨c.set fo v, r, ?_, hy c h1, h2⟩
    rw [h, Nat.zero_mul, Nat.zero_add, List.set_append_left _ _ (by rw [K.len h1]; exact hfo)]
  | x :: xs, cells, i + 1, x', ⟨c, r, h, h1, h2⟩, hx, hy => by
    refine ⟨c, r.set (i * K.sz + fo) v, ?_, h1, Cat.putf hfo h2 (by simpa using hx) hy⟩
    rw [h, List.set_append_right _ _ (by rw [K.len h1, Nat.succ_mul]; omega), K.len h1]
    congr 2
    rw [Nat.succ_mul]; omega
theorem Cat.rep {α : Type} {K : Kind α} {F : PH} {vs : List Value} {z : α} (h : K.R F vs z) : ∀ n, Cat K F (List.flatten (List.replicate n vs)) (List.replicate n z)
  | 0 => rfl
  | n + 1 => ⟨vs, _, rfl, h, Cat.rep h n⟩
def bk (A : Option Addr) : Nat := match A with | some a => a.block | none => 0
section
variable {P : Program} {E : Env} {n : Nat} {L L' : List (Nat × Value)} {F F' : PH} {H H' R : List Chunk} {K : Act → World → Prop} {Q : Exit → Act → World → Prop} {ops : Array Oper} {rest : List Oper}
variable {d : Nat} {dd : Option Nat} {ty : TypeId} {pos : String} {aft : Array Edge} {gd : Option (Nat × Bool)} {x y s : Operand} {v u : Value} {t e sz bytes : Nat} {A A' : Option Addr} {k c m c2 : Nat} {cells : List Value}
theorem Yields.addw {kd : IntKind} {t yt : TypeId} {i j : Int} (hx : ev L x = some (.int kd i)) (hy : ev L y = some (.int kd j)) : Yields P E n L F H ⟨dd, .binOp .add t x y yt, ty, pos, aft, gd⟩ (.int kd (kd.wrap (i + j))) :=
  Yields.int hx hy fun w => by simp [binOp, Op.intArith]
theorem Yields.subw {kd : IntKind} {t yt : TypeId} {i j : Int} (hx : ev L x = some (.int kd i)) (hy : ev L y = some (.int kd j)) : Yields P E n L F H ⟨dd, .binOp .sub t x y yt, ty, pos, aft, gd⟩ (.int kd (kd.wrap (i - j))) :=
  Yields.int hx hy fun w => by simp [binOp, Op.intArith]
theorem Yields.mulw {kd : IntKind} {t yt : TypeId} {i j : Int} (hx : ev L x = some (.int kd i)) (hy : ev L y = some (.int kd j)) : Yields P E n L F H ⟨dd, .binOp .mul t x y yt, ty, pos, aft, gd⟩ (.int kd (kd.wrap (i * j))) :=
  Yields.int hx hy fun w => by simp [binOp, Op.intArith]
theorem Yields.quow {t yt : TypeId} {i j r : Int} (h : Mir.quo i j = some r) (hx : ev L x = some (.int .i64 i)) (hy : ev L y = some (.int .i64 j)) : Yields P E n L F H ⟨dd, .binOp .quo t x y yt, ty, pos, aft, gd⟩ (.int .i64 r) :=
  Yields.int hx hy fun w => by
    obtain ⟨h1, rfl⟩ := quo_some h
    simp [binOp, Op.intDiv, h1, w64]
theorem Yields.remw {t yt : TypeId} {i j r : Int} (h : Mir.rem i j = some r) (hx : ev L x = some (.int .i64 i)) (hy : ev L y = some (.int .i64 j)) : Yields P E n L F H ⟨dd, .binOp .rem t x y yt, ty, pos, aft, gd⟩ (.int .i64 r) :=
  Yields.int hx hy fun w => by
    obtain ⟨h1, rfl⟩ := rem_some h
    simp [binOp, Op.intDiv, h1]
theorem Yields.addn {t yt : TypeId} {i j : Nat} {j' : Int} (hx : ev L x = some (.int .i64 (i : Int))) (hy : ev L y = some (.int .i64 j')) (hj : j' = (j : Int)) (h : i + j < 9223372036854775808) : Yields P E n L F H ⟨dd, .binOp .add t x y yt, ty, pos, aft, gd⟩ (.int .i64 ((i + j : Nat) : Int)) := by
  subst hj
  have := Yields.add (P := P) (E := E) (n := n) (F := F) (H := H) (d := dd) (ty := ty) (pos := pos) (aft := aft) (g := gd) (t := t) (yt := yt) hx hy (by omega) (by omega)
  rwa [← Int.natCast_add] at this
theorem Yields.neg {t : TypeId} {i : Int} (hx : ev L x = some (.int .i64 i)) : Yields P E n L F H ⟨dd, .unOp .neg t x, ty, pos, aft, gd⟩ (.int .i64 (IntKind.i64.wrap (-i))) := fun a w ha _ => by simp [execOp, ha.ev hx, Op.unary, Op.intArith]
theorem Yields.beq {t yt : TypeId} {i j : Bool} (hx : ev L x = some (.bool i)) (hy : ev L y = some (.bool j)) (hb : P.underlying t = some .bool) : Yields P E n L F H ⟨dd, .binOp .eql t x y yt, ty, pos, aft, gd⟩ (.bool (i == j)) := by
  refine Yields.bin hx hy (fun w => ?_) (fun w => ?_)
  · simp [eqGuard]
  · have h9 : ∀ dp, (Op.equalIn (dp + 1) t (.bool i) (.bool j)).run P w = .ok (i == j) w := fun dp => by
      rw [Op.equalIn]
      simp [underlying, hb]
    have h8 : (Op.equal t (.bool i) (.bool j)).run P w = .ok (i == j) w := h9 9999
    simp [binOp, h8]
theorem Yields.beqd {t yt : TypeId} {i j : Bool} (hb : P.underlying t = some .bool) (hx : ev L x = some (.bool i)) (hy : ev L y = some (.bool j)) : Yields P E n L F H ⟨dd, .binOp .eql t x y yt, ty, pos, aft, gd⟩ (.bool (decide (i = j))) := by
  have := Yields.beq (P := P) (E := E) (n := n) (F := F) (H := H) (dd := dd) (ty := ty) (pos := pos) (aft := aft) (gd := gd) (t := t) (yt := yt) hx hy hb
  rwa [show (i == j) = decide (i = j) by cases i <;> cases j <;> rfl] at this
theorem Yields.bned {t yt : TypeId} {i j : Bool} (hb : P.underlying t = some .bool) (hx : ev L x = some (.bool i)) (hy : ev L y = some (.bool j)) : Yields P E n L F H ⟨dd, .binOp .neq t x y yt, ty, pos, aft, gd⟩ (.bool (!decide (i = j))) := by
  refine Yields.bin hx hy (fun w => ?_) (fun w => ?_)
  · simp [eqGuard]
  · have h9 : ∀ dp, (Op.equalIn (dp + 1) t (.bool i) (.bool j)).run P w = .ok (i == j) w := fun dp => by
      rw [Op.equalIn]
      simp [underlying, hb]
    have h8 : (Op.equal t (.bool i) (.bool j)).run P w = .ok (i == j) w := h9 9999
    simp only [binOp]
    simp [h8, show (i == j) = decide (i = j) by cases i <;> cases j <;> rfl]
def NilSafe (P : Program) (t : TypeId) (name : String) : Prop := ∀ (u : Value) w, (nilAhead (P.types.size + Made.depth) t u name).run P w = .ok (some false) w
theorem Yields.nilCheckMeth {name : String} {t0 : TypeId} (hn : NilSafe P t0 name) (hx : ev L x = some (.func (.method name) #[.iface t0 u] #[])) : Yields P E n L F H ⟨dd, .nilCheck x, ty, pos, aft, gd⟩ (.func (.method name) #[.iface t0 u] #[]) := fun a w ha _ => by
  simp [execOp, ha.ev hx, hn u w]
end
end Go.Sy
