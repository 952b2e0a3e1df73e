/- The calculus: strings as lists of bytes; conversions; max and min. -/
import Derived.Test.YtjkcinpmbgcgpaaGreatDoorSyMapV
namespace Go.Mir
def cat (a b : List UInt8) : Option (List UInt8) := if a.length + b.length ≤ 140737488355328 then some (a ++ b) else none
theorem cat_some {a b c : List UInt8} (h : cat a b = some c) : a.length + b.length ≤ 140737488355328 ∧ c = a ++ b := by
  unfold cat at h
  split at h
  · rename_i h1; cases h; exact ⟨h1, rfl⟩
  · cases h
/-- A text of which only small ones are at hand. -/
def small {α : Type} (a : List α) : Option Unit := if a.length ≤ 140737488355328 then some () else none
theorem small_le {α : Type} {a : List α} {u : Unit} (h : small a = some u) : a.length ≤ 140737488355328 := by
  unfold small at h
  split at h
  · assumption
  · cases h
end Go.Mir
namespace Go.Sy
open Go Go.RowKit Go.Mir
theorem bs_size (l : List UInt8) : (bs l).size = l.length := by simp [bs, ByteArray.size]
theorem bs_toList (l : List UInt8) : (bs l).toList = l := by rw [ByteArray.toList_eq]; simp [bs]
theorem bs_append (a b : List UInt8) : bs a ++ bs b = bs (a ++ b) := by
  apply ByteArray.ext
  simp [bs]
theorem bs_get (l : List UInt8) (i : Nat) : (bs l)[i]? = l[i]? := by
  by_cases h : i < l.length
  · rw [getElem?_pos (bs l) i (by rw [bs_size]; exact h), getElem?_pos l i h]
    congr 1
  · rw [getElem?_neg (bs l) i (by rw [bs_size]; exact h), getElem?_neg l i h]
theorem bs_extract (l : List UInt8) (i j : Nat) : (bs l).extract i j = bs ((l.take j).drop i) := by
  apply ByteArray.ext
  simp [bs, List.drop_take]
theorem beq_dec (l l2 : List UInt8) : (l == l2) = decide (l = l2) := by
  by_cases h : l = l2
  · subst h; simp
  · simp [h]
section
variable {P : Program} {E : Env} {n : Nat} {L L' : List (Nat × Value)} {F F' : PH} {H H' R : List Chunk} {K : Act → World → Prop} {Q : Exit → Act → World → Prop} {ops : Array Oper} {rest : List Oper}
variable {d : Nat} {dd : Option Nat} {ty : TypeId} {pos : String} {aft : Array Edge} {gd : Option (Nat × Bool)} {x y s : Operand} {v u : Value} {t t2 e : TypeId} {l l2 : List UInt8}
theorem Yields.lenStr (ht : P.underlying t = some .string) (hx : ev L x = some (.string (bs l))) : Yields P E n L F H ⟨dd, .call ⟨.builtin .len, #[x], #[t]⟩, ty, pos, aft, gd⟩ (.int .i64 ((l.length : Nat) : Int)) := by
  have := Yields.lenString (P := P) (E := E) (n := n) (F := F) (H := H) (d := dd) (ty := ty) (pos := pos) (aft := aft) (g := gd) ht hx
  rwa [bs_size] at this
theorem Yields.indexStr {kd : IntKind} {i : Int} {b : UInt8} (h : Mir.idx l i = some b) (ht : P.underlying t = some .string) (hx : ev L x = some (.string (bs l))) (hy : ev L y = some (.int kd i)) : Yields P E n L F H ⟨dd, .index t x y, ty, pos, aft, gd⟩ (.int .u8 ((b.toNat : Nat) : Int)) := fun a w ha _ => by
  obtain ⟨h0, h1⟩ := idx_some h
  simp [execOp, ha.ev hx, ha.ev hy, Instr.index, asIntOf, underlying, ht, h0, bs_get, h1]
theorem run_subStr {w : World} {j k : Int} {lo hi : Option Value} {kl kh : IntKind} (ht : P.underlying t = some .string) (h0 : 0 ≤ j) (h1 : j ≤ k) (h2 : k ≤ l.length) (hlo : (lo = some (.int kl j)) ∨ (lo = none ∧ j = 0)) (hhi : (hi = some (.int kh k)) ∨ (hi = none ∧ k = l.length)) :
    (Instr.slice t (.string (bs l)) lo hi none).run P w = .ok (.string (bs ((l.take k.toNat).drop j.toNat))) w := by
  have b1 : (Instr.sliceBounds false (bs l).size (bs l).size lo hi none).run P w = .ok (j.toNat, k.toNat, l.length) w := by
    rw [bs_size]
    rcases hlo with rfl | ⟨rfl, rfl⟩ <;> rcases hhi with rfl | ⟨rfl, rfl⟩
    · simp only [Instr.sliceBounds, Sem.run_bind, Sem.run_pure, Result.andThen_ok, run_sliceBound w kh k l.length _ (by omega) h2, run_sliceBound w kl j k.toNat _ h0 (by omega)]
    · simp only [Instr.sliceBounds, Sem.run_bind, Sem.run_pure, Result.andThen_ok, run_sliceBound w kl j l.length _ h0 (by omega), Int.toNat_natCast]
    · simp only [Instr.sliceBounds, Sem.run_bind, Sem.run_pure, Result.andThen_ok, run_sliceBound w kh k l.length _ (by omega) h2, Int.toNat_zero]
    · simp only [Instr.sliceBounds, Sem.run_bind, Sem.run_pure, Result.andThen_ok, Int.toNat_natCast, Int.toNat_zero]
  simp only [Instr.slice, Sem.run_bind, underlying, run_program, Result.andThen_ok, ht, Sem.run_pure, Option.isSome_none, Bool.false_eq_true, if_false, b1, bs_extract]
theorem Yields.subS2 {kl kh : IntKind} {j k : Int} {z : Operand} {r : List UInt8} (h : Mir.sub l j k = some r) (ht : P.underlying t = some .string) (hx : ev L x = some (.string (bs l))) (hy : ev L y = some (.int kl j)) (hz : ev L z = some (.int kh k)) : Yields P E n L F H ⟨dd, .slice t x (some y) (some z) none, ty, pos, aft, gd⟩ (.string (bs r)) := fun a w ha _ => by
  obtain ⟨⟨h0, h1, h2⟩, rfl⟩ := sub_some h
  simp [execOp, ha.ev hx, ha.ev hy, ha.ev hz, Instr.sliceAt, underlying, ht, run_subStr (w := w) ht h0 h1 h2 (.inl rfl) (.inl rfl)]
theorem Yields.subST {kh : IntKind} {k : Int} {z : Operand} {r : List UInt8} (h : Mir.sub l 0 k = some r) (ht : P.underlying t = some .string) (hx : ev L x = some (.string (bs l))) (hz : ev L z = some (.int kh k)) : Yields P E n L F H ⟨dd, .slice t x none (some z) none, ty, pos, aft, gd⟩ (.string (bs r)) := fun a w ha _ => by
  obtain ⟨⟨h0, h1, h2⟩, rfl⟩ := sub_some h
  simp [execOp, ha.ev hx, ha.ev hz, Instr.sliceAt, underlying, ht, run_subStr (w := w) (kl := .i64) ht h0 h1 h2 (.inr ⟨rfl, rfl⟩) (.inl rfl)]
theorem Yields.subSD {kl : IntKind} {j : Int} {r : List UInt8} (h : Mir.sub l j ((l.length : Nat) : Int) = some r) (ht : P.underlying t = some .string) (hx : ev L x = some (.string (bs l))) (hy : ev L y = some (.int kl j)) : Yields P E n L F H ⟨dd, .slice t x (some y) none none, ty, pos, aft, gd⟩ (.string (bs r)) := fun a w ha _ => by
  obtain ⟨⟨h0, h1, h2⟩, rfl⟩ := sub_some h
  simp [execOp, ha.ev hx, ha.ev hy, Instr.sliceAt, underlying, ht, run_subStr (w := w) (kh := .i64) ht h0 h1 h2 (.inl rfl) (.inr ⟨rfl, rfl⟩)]
theorem Yields.catStr {yt : TypeId} {r : List UInt8} (h : Mir.cat l l2 = some r) (hx : ev L x = some (.string (bs l))) (hy : ev L y = some (.string (bs l2))) : Yields P E n L F H ⟨dd, .binOp .add t x y yt, ty, pos, aft, gd⟩ (.string (bs r)) := by
  obtain ⟨h1, rfl⟩ := cat_some h
  refine Yields.bin hx hy (fun w => rfl) fun w => ?_
  have h2 : ¬ (((bs l).size + (bs l2).size : Nat) : Int) > IntKind.i64.max := by
    rw [bs_size, bs_size]
    have : IntKind.i64.max = 9223372036854775807 := rfl
    omega
  simp only [binOp, Op.stringOp, h2, if_false, bs_append]
  rfl
theorem Yields.eqStr {yt : TypeId} (hx : ev L x = some (.string (bs l))) (hy : ev L y = some (.string (bs l2))) : Yields P E n L F H ⟨dd, .binOp .eql t x y yt, ty, pos, aft, gd⟩ (.bool (decide (l = l2))) :=
  Yields.bin hx hy (fun w => rfl) fun w => by
    simp only [binOp, Op.stringOp, bs_toList, beq_dec]
    rfl
theorem Yields.neStr {yt : TypeId} (hx : ev L x = some (.string (bs l))) (hy : ev L y = some (.string (bs l2))) : Yields P E n L F H ⟨dd, .binOp .neq t x y yt, ty, pos, aft, gd⟩ (.bool (!decide (l = l2))) :=
  Yields.bin hx hy (fun w => rfl) fun w => by
    simp only [binOp, Op.stringOp, bs_toList, beq_dec]
    rfl
theorem Yields.ltStr {yt : TypeId} (hx : ev L x = some (.string (bs l))) (hy : ev L y = some (.string (bs l2))) : Yields P E n L F H ⟨dd, .binOp .lss t x y yt, ty, pos, aft, gd⟩ (.bool (Op.bytesLess l l2)) :=
  Yields.bin hx hy (fun w => rfl) fun w => by
    simp only [binOp, Op.stringOp, bs_toList]
    rfl
theorem bytesLess_asymm : ∀ (a b : List UInt8), Op.bytesLess a b = true → (Op.bytesLess b a || decide (a = b)) = false
  | [], [], h => by simp [Op.bytesLess] at h
  | [], _ :: _, _ => by simp [Op.bytesLess]
  | _ :: _, [], h => by simp [Op.bytesLess] at h
  | a :: x, b :: y, h => by
    unfold Op.bytesLess at h ⊢
    simp only [Bool.or_eq_true, decide_eq_true_eq, Bool.and_eq_true, beq_iff_eq] at h
    rcases h with h | ⟨rfl, h⟩
    · have h1 : ¬ b < a := UInt8.lt_asymm h
      have h2 : a ≠ b := UInt8.ne_of_lt h
      simp [h1, h2, Ne.symm h2]
    · have := bytesLess_asymm x y h
      simp only [Bool.or_eq_false_iff, decide_eq_false_iff_not] at this
      simp [this.1, this.2, UInt8.lt_irrefl]
theorem bytesLess_total : ∀ (a b : List UInt8), Op.bytesLess a b = false → (Op.bytesLess b a || decide (a = b)) = true
  | [], [], _ => by simp
  | [], _ :: _, h => by simp [Op.bytesLess] at h
  | _ :: _, [], _ => by simp [Op.bytesLess]
  | a :: x, b :: y, h => by
    unfold Op.bytesLess at h ⊢
    simp only [Bool.or_eq_false_iff, decide_eq_false_iff_not, Bool.and_eq_false_iff, beq_eq_false_iff_ne] at h
    obtain ⟨h1, h2⟩ := h
    by_cases hab : a = b
    · subst hab
      have h3 : Op.bytesLess x y = false := by rcases h2 with h2 | h2; exact absurd rfl h2; exact h2
      have := bytesLess_total x y h3
      simp only [Bool.or_eq_true, decide_eq_true_eq] at this
      rcases this with h4 | rfl <;> simp [*]
    · have : b < a := by
        rcases UInt8.lt_or_lt_of_ne hab with h | h
        · exact absurd h h1
        · exact h
      simp [this]
theorem le_str (a b : List UInt8) : (Op.bytesLess a b || decide (a = b)) = !(Op.bytesLess b a) := by
  cases h : Op.bytesLess b a with
  | true =>
    have := bytesLess_asymm b a h
    rw [Bool.or_eq_false_iff] at this
    rw [this.1]
    simp only [decide_eq_false_iff_not] at this
    simp [Ne.symm this.2]
  | false =>
    have := bytesLess_total b a h
    simp only [Bool.or_eq_true, decide_eq_true_eq] at this
    rcases this with h4 | rfl <;> simp [*]
theorem Yields.gtStr {yt : TypeId} (hx : ev L x = some (.string (bs l))) (hy : ev L y = some (.string (bs l2))) : Yields P E n L F H ⟨dd, .binOp .gtr t x y yt, ty, pos, aft, gd⟩ (.bool (Op.bytesLess l2 l)) :=
  Yields.bin hx hy (fun w => rfl) fun w => by
    have h := le_str l l2
    simp only [binOp, Op.stringOp, bs_toList]
    rw [beq_dec, h, Bool.not_not]
    rfl
theorem Yields.leStr {yt : TypeId} (hx : ev L x = some (.string (bs l))) (hy : ev L y = some (.string (bs l2))) : Yields P E n L F H ⟨dd, .binOp .leq t x y yt, ty, pos, aft, gd⟩ (.bool (!Op.bytesLess l2 l)) :=
  Yields.bin hx hy (fun w => rfl) fun w => by
    have h := le_str l l2
    simp only [binOp, Op.stringOp, bs_toList]
    rw [beq_dec, h]
    rfl
theorem Yields.geStr {yt : TypeId} (hx : ev L x = some (.string (bs l))) (hy : ev L y = some (.string (bs l2))) : Yields P E n L F H ⟨dd, .binOp .geq t x y yt, ty, pos, aft, gd⟩ (.bool (!Op.bytesLess l l2)) :=
  Yields.bin hx hy (fun w => rfl) fun w => by
    simp only [binOp, Op.stringOp, bs_toList]
    rfl
theorem Yields.max2 {k : IntKind} {i j : Int} {ts : Array TypeId} (hx : ev L x = some (.int k i)) (hy : ev L y = some (.int k j)) : Yields P E n L F H ⟨dd, .call ⟨.builtin .max, #[x, y], ts⟩, ty, pos, aft, gd⟩ (.int k (if j > i then j else i)) :=
  Yields.builtin (fun a ha => ev2 ha hx hy) fun w _ => by
    simp [Go.builtin, Builtin.max_, Builtin.max2]
theorem Yields.min2 {k : IntKind} {i j : Int} {ts : Array TypeId} (hx : ev L x = some (.int k i)) (hy : ev L y = some (.int k j)) : Yields P E n L F H ⟨dd, .call ⟨.builtin .min, #[x, y], ts⟩, ty, pos, aft, gd⟩ (.int k (if j < i then j else i)) :=
  Yields.builtin (fun a ha => ev2 ha hx hy) fun w _ => by
    simp [Go.builtin, Builtin.min_, Builtin.min2]
theorem Yields.boolT {o : Oper} {b : Bool} (h : b = true) (hy : Yields P E n L F H o (.bool b)) : Yields P E n L F H o (.bool true) := by rw [h] at hy; exact hy
theorem Yields.boolF {o : Oper} {b : Bool} (h : ¬ b = true) (hy : Yields P E n L F H o (.bool b)) : Yields P E n L F H o (.bool false) := by rw [Bool.not_eq_true] at h; rw [h] at hy; exact hy
theorem Yields.boolNT {o : Oper} {b : Bool} (h : b = true) (hy : Yields P E n L F H o (.bool (!b))) : Yields P E n L F H o (.bool false) := by rw [h] at hy; exact hy
theorem Yields.boolNF {o : Oper} {b : Bool} (h : ¬ b = true) (hy : Yields P E n L F H o (.bool (!b))) : Yields P E n L F H o (.bool true) := by rw [Bool.not_eq_true] at h; rw [h] at hy; exact hy
theorem Yields.max2n {i j : Nat} {ts : Array TypeId} (hx : ev L x = some (.int .i64 (i : Int))) (hy : ev L y = some (.int .i64 (j : Int))) : Yields P E n L F H ⟨dd, .call ⟨.builtin .max, #[x, y], ts⟩, ty, pos, aft, gd⟩ (.int .i64 ((max i j : Nat) : Int)) := by
  have := Yields.max2 (P := P) (E := E) (n := n) (F := F) (H := H) (dd := dd) (ty := ty) (pos := pos) (aft := aft) (gd := gd) (ts := ts) hx hy
  rwa [show (if (j : Int) > (i : Int) then (j : Int) else (i : Int)) = ((max i j : Nat) : Int) by split <;> omega] at this
theorem Yields.min2n {i j : Nat} {ts : Array TypeId} (hx : ev L x = some (.int .i64 (i : Int))) (hy : ev L y = some (.int .i64 (j : Int))) : Yields P E n L F H ⟨dd, .call ⟨.builtin .min, #[x, y], ts⟩, ty, pos, aft, gd⟩ (.int .i64 ((min i j : Nat) : Int)) := by
  have := Yields.min2 (P := P) (E := E) (n := n) (F := F) (H := H) (dd := dd) (ty := ty) (pos := pos) (aft := aft) (gd := gd) (ts := ts) hx hy
  rwa [show (if (j : Int) < (i : Int) then (j : Int) else (i : Int)) = ((min i j : Nat) : Int) by split <;> omega] at this
theorem Yields.convNat {k' : IntKind} {m : Nat} (ht : P.underlying t2 = some (.int .i64)) (hs : ∃ q, P.underlying t = some q) (hm : m < 9223372036854775808) (hx : ev L x = some (.int k' (m : Int))) : Yields P E n L F H ⟨dd, .convert t t2 x, ty, pos, aft, gd⟩ (.int .i64 (m : Int)) := fun a w ha _ => by
  obtain ⟨q, hq⟩ := hs
  have : IntKind.i64.wrap (m : Int) = m := IntWalk.i64_in _ (by omega)
  simp [execOp, ha.ev hx, convert, underlying, ht, hq, Conv.intToInt, this]
theorem Yields.convInt {k k' : IntKind} {i : Int} (ht : P.underlying t2 = some (.int k)) (hs : ∃ q, P.underlying t = some q) (hx : ev L x = some (.int k' i)) : Yields P E n L F H ⟨dd, .convert t t2 x, ty, pos, aft, gd⟩ (.int k (k.wrap i)) := fun a w ha _ => by
  obtain ⟨q, hq⟩ := hs
  simp [execOp, ha.ev hx, convert, underlying, ht, hq, Conv.intToInt]
end
end Go.Sy
