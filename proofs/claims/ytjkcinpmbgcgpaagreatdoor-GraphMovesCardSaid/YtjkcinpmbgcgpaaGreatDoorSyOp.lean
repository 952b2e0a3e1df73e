/- The calculus: from a row's arguments to data of any kind. -/
import Derived.Test.YtjkcinpmbgcgpaaGreatDoorSyStr
namespace Go.Sy
open Go Go.RowKit
theorem opens_zero {α : Type} {P : Program} (t : TypeId) (K : Kind α) (Good : α → Prop) : OpensN P 0 t K Good := by
  intro H enc w base spare held fuel cs d ps hf ht _
  obtain rfl : fuel = 0 := by omega
  have h : DataW.trod enc P w base spare held 0 t cs = none := rfl
  rw [h] at ht
  cases ht
theorem opens_sl {α : Type} {P : Program} {t e : TypeId} {N : Nat} {K : Kind α} {Good : α → Prop} {B : Nat} (hu : P.underlying t = some (.slice e)) (hc : P.cellsOf e = K.sz) (hB : P.bytesOf e = B) (hB0 : 0 < B) (h : OpensN P N e K Good) :
    OpensN P (N + 1) t (Kind.sl B K) (fun xs => xs.length * B ≤ 140737488351232 ∧ ∀ x ∈ xs, Good x) :=
  OpensN.imp (K' := Kind.sl B K) (opens_slice (B := B) hu hc hB h) fun F cs xs ⟨A, c, e1, h1, h2⟩ g =>
    ⟨xs, ⟨A, c, e1, h2, h1, by have := g.1; omega, by
      have h3 : xs.length * 1 ≤ xs.length * B := Nat.mul_le_mul_left _ hB0
      have := g.1; omega⟩, g⟩
theorem bs_data (s : ByteArray) : bs s.data.toList = s := rfl
theorem opens_str {P : Program} {t : TypeId} (hu : P.underlying t = some .string) (N : Nat) : OpensN P N t Kind.str (fun l => l.length ≤ 140737488351232) :=
  OpensN.imp (K' := Kind.str) (opens_string hu N) fun F cs s h g => ⟨s.data.toList, by
    have h : cs = [Value.string s] := h
    show cs = [Value.string (bs s.data.toList)]
    rw [bs_data]; exact h, by simpa using g⟩
theorem agg_of {v : Value} {vs : Array Value} {l : List Value} (hv : v = .agg vs) (h : v.cells.toList = l) : v = .agg l.toArray := by
  subst hv
  have h : vs.toList = l := h
  rw [← h]
theorem wf_i64 {n : Int} (h : (Lit.int .i64 n).wf = true) : -9223372036854775808 ≤ n ∧ n < 9223372036854775808 := by
  have h1 : IntKind.i64.min ≤ n ∧ n ≤ 9223372036854775807 := by simpa [Lit.wf] using h
  have h2 : IntKind.i64.min = -9223372036854775808 := by decide
  omega
end Go.Sy
