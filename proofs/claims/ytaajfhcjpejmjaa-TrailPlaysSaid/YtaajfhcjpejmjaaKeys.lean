/- The keys of a map of ints, collected: by the kit's shelf. -/
import Derived.Test.YtaajfhcjpejmjaaStoreDefs
import Derived.Test.YtaajfhcjpejmjaaSyMap
import Derived.Shelf.SlIterI.Collect
namespace Go.Proofs.Ytaajfhcjpejmjaa
open Go Go.Sy Go.RowKit Go.Maps
def kρ : Go.Shelf.Ren where
  f := fun x => match x with | 7 => 14 | 8 => 13 | 10 => 19 | 11 => 18 | x => x
  t := fun x => match x with | 0 => 0 | 3 => 4 | 4 => 4 | 23 => 44 | 24 => 23 | 26 => 3 | 27 => 48 | 28 => 49 | 33 => 58 | x => x
  g := fun x => x
theorem lay8 : SlLaysZI.n8 Try.prog kρ where
  mixed := by kernel_rfl
  f8 := ⟨"slices.Collect[int]", rfl, by kernel_rfl⟩
  f11 := ⟨"slices.AppendSeq[[]int,int]", rfl, by kernel_rfl⟩
  t0 := by kernel_rfl
  a0 := fun _ => by kernel_rfl
  z0 := fun _ => by kernel_rfl
  v0 := fun _ => by kernel_rfl
  t24 := by kernel_rfl
  a24 := fun _ => by kernel_rfl
  z24 := fun _ => by kernel_rfl
  v24 := fun _ => by kernel_rfl
  t26 := by kernel_rfl
  a26 := fun _ => by kernel_rfl
  z26 := fun _ => by kernel_rfl
  v26 := fun _ => by kernel_rfl
  t28 := by kernel_rfl
  a28 := fun _ => by kernel_rfl
  z28 := fun _ => by kernel_rfl
  v28 := fun _ => by kernel_rfl
  i26 := by kernel_rfl
theorem lay10 : SlLaysZI.n10 Try.prog kρ where
  mixed := by kernel_rfl
  f10 := ⟨"maps.Keys[map[int]bool,int,bool]$1", rfl, by kernel_rfl⟩
  t0 := by kernel_rfl
  a0 := fun _ => by kernel_rfl
  z0 := fun _ => by kernel_rfl
  v0 := fun _ => by kernel_rfl
  t4 := by kernel_rfl
  a4 := fun _ => by kernel_rfl
  z4 := fun _ => by kernel_rfl
  v4 := fun _ => by kernel_rfl
  t23 := by kernel_rfl
  a23 := fun _ => by kernel_rfl
  z23 := fun _ => by kernel_rfl
  v23 := fun _ => by kernel_rfl
  t26 := by kernel_rfl
  a26 := fun _ => by kernel_rfl
  z26 := fun _ => by kernel_rfl
  v26 := fun _ => by kernel_rfl
  t33 := by kernel_rfl
  a33 := fun _ => by kernel_rfl
  z33 := fun _ => by kernel_rfl
  v33 := fun _ => by kernel_rfl
theorem collect_sp {F : PH} {B b c q : Nat} {D : DataW Unit} (hq : (intKeys D).length = q) (hc : c ≤ 1000000) :
    CallSp Try.prog 13 #[.func (.func 19) #[] #[.pointer (some ⟨B, 0, none⟩)]] F [blk B (.cells #[.map (some b)] 44 (0, 0)), mapc Try.prog 3 4 b c D] (fun u F' H' => ∃ A cc, u = .slice A q cc ∧ F = F' ∧ H' = []) := by
  intro w m hm hin hd hf
  obtain ⟨m1, m2, h1, ⟨m3, m4, ⟨es, clock, h3, h5⟩, h4, h34, rfl⟩, h12, rfl⟩ := hm
  have hb : w.heap[b]? = some (.map es clock) := hin b _ (PH.le_un_right h12 _ _ (PH.le_un_left _ _ _ _ (by rw [h3]; exact PH.one_same _ _)))
  have hB : w.heap[B]? = some (.cells #[.map (some b)] 44 (0, 0)) := hin B _ (PH.le_un_left _ _ _ _ (by rw [h1]; exact PH.one_same _ _))
  have hown := h5 w hb
  have hcell : w.cell? ⟨B, 0, none⟩ = some (.map (some b)) := by simp [World.cell?, hB]
  have hsz := hown.size_le
  have hg := AnyZI.keys_gives (ρ := kρ) lay10 Fence.wide 4 trivial rfl (by omega) B b c D w (Array.getElem?_eq_some_iff.1 hB).1 hcell hown
  have h := AnyZI.collect_in (ρ := kρ) lay8 Fence.wide 6 trivial trivial rfl (by omega) 19 #[.pointer (some ⟨B, 0, none⟩)] trivial (fun _ _ => by kernel_rfl) _ (Maps.size D) (by unfold maxLen; omega) (by omega) w hg
  refine (callsIn_wide.1 h).mono ?_
  rintro e w' ⟨v, ss, rfl, hS, hrow, _, hbel⟩
  refine ⟨v, F, [], rfl, ?_, ⟨hbel.os, hbel.tape, hbel.output, hbel.size, fun b hb _ => hbel.block b hb, fun b o e => (hbel.block b (inW_lt hf e)).trans (hf b o e), fun _ _ e => .inl e, PH.le_refl _, PH.emp, fun _ => rfl, fun _ _ e => (nomatch e), fun _ _ e => (nomatch e), fun _ _ e => (nomatch e)⟩⟩
  have hl := hS.length_eq
  rcases hrow.2 with ⟨rfl, h0⟩ | ⟨g, cap, cur, rfl, _⟩
  · exact ⟨none, 0, by rw [← hq, ← hl, h0], rfl, rfl⟩
  · exact ⟨_, _, by rw [← hq, hl], rfl, rfl⟩
theorem law3 : Keyed Try.prog 3 := int_keyed Try.underlying3
theorem tm44 : Try.prog.underlying 44 = some (.map 3 4) := by kernel_rfl
theorem key3 {a : Int} (h0 : -9223372036854775808 ≤ a) (h1 : a < 9223372036854775808) : keyOf Try.prog 3 (.int .i64 a) = some (.int .i64 a) := keyOf_int_mk Try.underlying3 (by
  show (decide (IntKind.i64.min ≤ a) && decide (a ≤ IntKind.i64.max)) = true
  rw [show IntKind.i64.min = -9223372036854775808 from rfl, show IntKind.i64.max = 9223372036854775807 from rfl, Bool.and_eq_true, decide_eq_true_eq, decide_eq_true_eq]
  omega)
theorem val4 (x : Bool) : plainElem (H := Unit) Try.prog 4 (.bool x) = some (.lit (.bool x), []) := plainElem_bool Try.underlying4 x
end Go.Proofs.Ytaajfhcjpejmjaa
