/- Library functions by their contracts. -/
import Derived.Test.YtjkcinpmbgcgpaaGreatDoorBldX
import Derived.Test.YtjkcinpmbgcgpaaGreatDoorShelf
namespace Go.Proofs.YtjkcinpmbgcgpaaGreatDoor
open Go Go.Sy Go.RowKit Go.Mir
set_option linter.unusedVariables false
theorem CallSp.quiet {P : Program} {f : FuncId} {args : Array Value} {F : PH} {Q : Value → Prop} (h : ∀ w, F.inW w → Calls P f args w fun e w' => ∃ v, e = .returned v ∧ Q v ∧ Below w.heap.size w w') : CallSp P f args F [] (fun u F' H' => Q u ∧ H' = []) := by
  intro w m hm hin hd hf
  refine (h w hf).mono ?_
  rintro e w' ⟨v, rfl, hq, hbel⟩
  refine ⟨v, F, [], rfl, ⟨hq, rfl⟩, ⟨hbel.os, hbel.tape, hbel.output, hbel.size, fun b hb _ => hbel.block b hb, fun b o e => (hbel.block b (inW_lt hf e)).trans (hf b o e), fun _ _ e => .inl e, PH.le_refl _, PH.emp, fun _ => rfl, fun _ _ e => (nomatch e), fun _ _ e => (nomatch e), fun _ _ e => (nomatch e)⟩⟩
/-- The table of powers of ten is laid. -/
def Tab (F : PH) : Prop := ∀ w, F.inW w → Lib.TabIs Tryz.prog w "internal/strconv.uint64pow10" .u64 Lib.pow10Tab
theorem Tab.mono {F F' : PH} (h : PH.le F F') (hT : Tab F) : Tab F' := fun w hw => hT w (fun b o e => hw b o (h b o e))
theorem x_itoa50_sp {F : PH} {g : Nat} (hT : Tab F) {a0 : Int} {r : List UInt8} (hm : x_itoa g a0 = some r) : CallSp Tryz.prog 50 #[.int .i64 a0] F [] (fun u F' H' => u = (.string (bs r)) ∧ H' = []) := by
  unfold x_itoa at hm
  split at hm
  · rename_i h
    cases hm
    exact CallSp.quiet fun w hw => (Tryz.strconv_Itoa a0 h.1 h.2 w (hT w hw)).mono fun e w' ⟨h1, k, os, h2⟩ => ⟨_, h1, rfl, by rw [h2]; exact Lib.below_grow _ w (Nat.le_refl _) k os⟩
  · cases hm
end Go.Proofs.YtjkcinpmbgcgpaaGreatDoor
