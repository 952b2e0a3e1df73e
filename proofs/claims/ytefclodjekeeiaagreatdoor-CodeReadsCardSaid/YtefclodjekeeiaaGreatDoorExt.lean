/- Library functions by their contracts. -/
import Derived.Test.YtefclodjekeeiaaGreatDoorLib
import Derived.Test.YtefclodjekeeiaaGreatDoorNestW
import Derived.Test.YtefclodjekeeiaaGreatDoorBldX
import Derived.Test.YtefclodjekeeiaaGreatDoorShelf
import Derived.Lib.AtoiErrMem
import Derived.Laws.StructEq
import Derived.KernelRfl
import Derived.Laws.Tables
import Derived.Laws.Cover2
namespace Go.Proofs.YtefclodjekeeiaaGreatDoor
open Go Go.Sy Go.RowKit Go.Mir
set_option linter.unusedVariables false
theorem CallSp.quiet {P : Program} {f : FuncId} {args : Array Value} {F : PH} {Q : Value → Prop} (h : ∀ w, F.inW w → Calls P f args w fun e w' => ∃ v, e = .returned v ∧ Q v ∧ Below w.heap.size w w') : CallSp P f args F [] (fun u F' H' => Q u ∧ H' = []) := by
  intro w m hm hin hd hf
  refine (h w hf).mono ?_
  rintro e w' ⟨v, rfl, hq, hbel⟩
  refine ⟨v, F, [], rfl, ⟨hq, rfl⟩, ⟨hbel.os, hbel.tape, hbel.output, hbel.size, fun b hb _ => hbel.block b hb, fun b o e => (hbel.block b (inW_lt hf e)).trans (hf b o e), fun _ _ e => .inl e, PH.le_refl _, PH.emp, fun _ => rfl, fun _ _ e => (nomatch e), fun _ _ e => (nomatch e), fun _ _ e => (nomatch e)⟩⟩
theorem x_index48_sp {F : PH} {g : Nat} {a0 a1 : List UInt8} {r : Int} (hm : x_index g a0 a1 = some r) : CallSp Tryz.prog 48 #[.string (bs a0), .string (bs a1)] F [] (fun u F' H' => u = (.int .i64 r) ∧ H' = []) := by
  unfold x_index at hm
  split at hm
  · cases hm
    exact CallSp.quiet fun w _ => (Tryz.strings_Index_one _ _ w).mono fun e w' ⟨h1, h2⟩ => ⟨_, h1, rfl, by rw [h2]; exact Below.refl _ _⟩
  · cases hm
theorem x_index73_sp {F : PH} {g : Nat} {a0 a1 : List UInt8} {r : Int} (hm : x_index g a0 a1 = some r) : CallSp Tryz.prog 73 #[.string (bs a0), .string (bs a1)] F [] (fun u F' H' => u = (.int .i64 r) ∧ H' = []) := by
  unfold x_index at hm
  split at hm
  · cases hm
    exact CallSp.quiet fun w _ => (Tryz.stringslite_Index_one _ _ w).mono fun e w' ⟨h1, h2⟩ => ⟨_, h1, rfl, by rw [h2]; exact Below.refl _ _⟩
  · cases hm
theorem x_count47_sp {F : PH} {g : Nat} {a0 a1 : List UInt8} {r : Int} (hm : x_count g a0 a1 = some r) : CallSp Tryz.prog 47 #[.string (bs a0), .string (bs a1)] F [] (fun u F' H' => u = (.int .i64 r) ∧ H' = []) := by
  unfold x_count at hm
  split at hm
  · cases hm
    exact CallSp.quiet fun w _ => (Tryz.strings_Count_one _ _ w).mono fun e w' ⟨h1, h2⟩ => ⟨_, h1, rfl, by rw [h2]; exact Below.refl _ _⟩
  · cases hm
theorem x_atoi60_sp {F : PH} {g : Nat} {a0 : List UInt8} {r : Int} (hm : x_atoi g a0 = some r) : CallSp Tryz.prog 60 #[.string (bs a0)] F [] (fun u F' H' => u = (.tuple #[.int .i64 r, .nilIface]) ∧ H' = []) := by
  unfold x_atoi at hm
  split at hm
  · rename_i h
    exact CallSp.quiet fun w _ => (Tryz.strconv_Atoi (bs a0) r (by rw [bs_size]; exact h) hm w).mono fun e w' ⟨h1, t, h2⟩ => ⟨_, h1, rfl, by rw [h2]; exact Lib.bytesWorld_below _ _ _⟩
  · cases hm
theorem x_itoa41_sp {F : PH} {g : Nat} {a0 : Int} {r : List UInt8} (hm : x_itoa g a0 = some r) : CallSp Tryz.prog 41 #[.int .i64 a0] F [] (fun u F' H' => u = (.string (bs r)) ∧ H' = []) := by
  unfold x_itoa at hm
  split at hm
  · rename_i h
    cases hm
    obtain ⟨k, rfl⟩ : ∃ k : Nat, a0 = (k : Int) := ⟨a0.toNat, by omega⟩
    exact CallSp.quiet fun w _ => (Tryz.strconv_Itoa_small k (by omega) w).mono fun e w' ⟨h1, h2⟩ => ⟨_, h1, rfl, by rw [h2]; exact Below.refl _ _⟩
  · cases hm
theorem x_join42_sp {F : PH} {g : Nat} {a0 : List (List UInt8)} {a1 : List UInt8} {pA0 : Option Addr} {pc0 : Nat} (ph0 : Fsl 16 Kind.str F pA0 pc0 a0) {r : List UInt8} (hm : x_join g a0 a1 = some r) : CallSp Tryz.prog 42 #[.slice pA0 a0.length pc0, .string (bs a1)] F [] (fun u F' H' => u = (.string (bs r)) ∧ H' = []) := by
  unfold x_join at hm
  split at hm
  · rename_i h
    cases hm
    have hxs : (a0.map bs).map (fun b => b.data.toList) = a0 := by
      rw [List.map_map]
      conv => rhs; rw [← List.map_id a0]
      exact List.map_congr_left fun x _ => by simp [bs]
    have hsep : (bs a1).data.toList = a1 := by simp [bs]
    refine CallSp.quiet fun w hF => ?_
    cases a0 with
    | nil => exact (Tryz.strings_Join_none _ _ _ w).mono fun e w' ⟨h1, h2⟩ => ⟨_, h1, rfl, by rw [h2]; exact Below.refl _ _⟩
    | cons y0 r0 =>
      rcases ph0.slc.2 with h0 | ⟨ad, rfl, hget⟩
      · cases h0
      · have hsp : ad.spot = none := by
          obtain ⟨cs, h1, h2⟩ := hget 0 y0 rfl
          have h3 := h2 0 (.string (bs y0)) (by rw [show cs = [Value.string (bs y0)] from h1]; rfl)
          rw [Nat.zero_mul, show (ad.add 0).add 0 = ad by simp [Addr.add]] at h3
          unfold PH.cell? at h3
          split at h3
          · split at h3
            · cases h3
            · rename_i hs
              cases hq : ad.spot with
              | none => rfl
              | some q => exact absurd (by rw [hq]; rfl) hs
          · cases h3
        have hadd : ∀ k, ad.add k = ⟨ad.block, ad.off + k, none⟩ := fun k => by
          unfold Addr.add
          split
          · rename_i h; subst h; cases ad; simp at hsp ⊢; exact hsp
          · rfl
        have hc : ∀ (j : Nat) (y : List UInt8), (y0 :: r0)[j]? = some y → w.cell? ⟨ad.block, ad.off + j, none⟩ = some (.string (bs y)) ∧ ad.spot = none ∧ ad.block < w.heap.size := fun j y hj => by
          obtain ⟨cs, h1, h2⟩ := hget j y hj
          have h3 := h2 0 (.string (bs y)) (by rw [show cs = [Value.string (bs y)] from h1]; rfl)
          have h4 := PH.cell?_inW hF h3
          rw [show Kind.str.sz = 1 from rfl, Nat.mul_one, show (ad.add j).add 0 = ad.add j by simp [Addr.add], hadd] at h4
          refine ⟨h4, hsp, ?_⟩
          unfold World.cell? at h4
          split at h4
          · rename_i hb
            exact (Array.getElem?_eq_some_iff.1 hb).1
          · cases h4
        have h00 := hc 0 y0 rfl
        have hA : (some ad : Option Addr) = some ⟨ad.block, ad.off, none⟩ := by
          have := hadd 0
          rw [show ad.add 0 = ad by simp [Addr.add], Nat.add_zero] at this
          exact congrArg some this
        have key := Tryz.strings_Join ad.block ad.off pc0 ((y0 :: r0).map bs) (bs a1) w (fun j x hj => by
          rw [List.getElem?_map] at hj
          obtain ⟨y, hy, rfl⟩ := Option.map_eq_some_iff.1 hj
          exact (hc j y hy).1) h00.2.2 (by rw [List.length_map]; exact h.2) (by rw [List.length_map]; exact ph0.cap) (by rw [hxs, hsep]; exact h.1)
        rw [hxs, hsep, List.length_map] at key
        rw [hA]
        exact key.mono fun e w' ⟨h1, h2⟩ => ⟨_, h1, rfl, h2⟩
  · cases hm
theorem eq49 (a a' : List UInt8) (b b' c c' : Int) (w : World) : (Op.equalIn 10000 49 (.agg #[.string (bs a), .int .i64 b, .int .i64 c]) (.agg #[.string (bs a'), .int .i64 b', .int .i64 c'])).run Tryz.prog w = .ok (decide (a = a' ∧ b = b' ∧ c = c')) w := by
  have hS : Tryz.prog.underlying 49 = some (.struct (Tryz.prog.fieldsOf 49)) := by kernel_rfl
  have hp : Tryz.prog.stoodInHeld 49 = false := by kernel_rfl
  rw [show (10000 : Nat) = 9999 + 1 from rfl, run_equalIn_agg w 9999 49 _ _ hS hp]
  have u3 := Tryz.underlying3
  have u9 := Tryz.underlying9
  have a3 := Tryz.isAgg3
  have z3 := Tryz.sizeOf3
  have a9 := Tryz.isAgg9
  have z9 := Tryz.sizeOf9
  simp only [Program.fieldsOf, Tryz.underlying49]
  go_simp
  simp only [bs_toList]
  by_cases h1 : a = a' <;> by_cases h2 : b = b' <;> by_cases h3 : c = c' <;> simp [h1, h2, h3]
theorem neAgg49 {E : Env} {n : Nat} {L : List (Nat × Value)} {F : PH} {H : List Chunk} {dd : Option Nat} {ty yt : TypeId} {pos : String} {aft : Array Edge} {gd : Option (Nat × Bool)} {x y : Operand} {a a' : List UInt8} {b b' c c' : Int} (hx : ev L x = some (.agg #[.string (bs a), .int .i64 b, .int .i64 c])) (hy : ev L y = some (.agg #[.string (bs a'), .int .i64 b', .int .i64 c'])) : Go.Sy.Yields Tryz.prog E n L F H ⟨dd, .binOp .neq 49 x y yt, ty, pos, aft, gd⟩ (.bool (!decide (a = a' ∧ b = b' ∧ c = c'))) :=
  Go.Sy.Yields.bin hx hy (fun w => run_eqGuard_agg w .neq 49 x y _ _ (by kernel_rfl)) fun w => by
    rw [run_neq_struct, eq49]; rfl
end Go.Proofs.YtefclodjekeeiaaGreatDoor
