/- The reference's marks, frozen; what it answers, in plain words. -/
import Derived.Test.YtaajfhcjpejmjaaPlayed
namespace Go.Proofs.Ytaajfhcjpejmjaa
open Go Go.Sy Go.RowKit
theorem bools_cat {F : PH} : ∀ l : List Bool, Cat Kind.bool F (bools l) l
  | [] => rfl
  | x :: l => ⟨[.bool x], bools l, rfl, rfl, bools_cat l⟩
def MK (n : Nat) : Kind Mk where
  sz := 2
  R := fun F cs m => ∃ B c D d, cs = [.slice B n c, .slice D n d] ∧ Slc (Kind.int .i64) F B n m.bef ∧ Slc Kind.bool F D n m.chg
  len := fun ⟨_, _, _, _, h, _⟩ => by rw [h]; rfl
  mono := fun hl ⟨B, c, D, d, h, h1, h2⟩ => ⟨B, c, D, d, h, h1.mono hl, h2.mono hl⟩
  one := fun ⟨_, _, _, _, h, _⟩ u hu => by
    rw [h] at hu
    simp at hu
    rcases hu with rfl | rfl <;> rfl
theorem MC.cat {n : Nat} {F F' : PH} (hl : PH.le F F') : ∀ {ms : List Mk} {cs : List Value} {C : List Chunk} {m : PH}, MC n F cs C ms → Sep C m → PH.le m F' → (∀ x ∈ ms, x.chg.length = n) → Cat (MK n) F' cs ms.reverse
  | [], _, _, _, h, _, _, _ => h.1
  | x :: ms, _, _, _, ⟨B, c, D, d, cs', C', h1, h2, h3, h4, h5⟩, hS, hm, hn => by
    subst h1; subst h2
    obtain ⟨m1, m2, g1, g2, g12, rfl⟩ := hS
    rw [List.reverse_cons]
    refine Cat.snoc (K := MK n) (x := x) ?_ (MC.cat hl h5 g2 (PH.le_trans (PH.le_un_right g12) hm) (fun y hy => hn y (by simp [hy])))
    exact ⟨B, c, D, d, rfl, h3.mono hl, Slc.of_row g1 rfl (hn x (by simp)) (bools_cat _) (PH.le_trans (PH.le_un_left _ _) hm)⟩
theorem St.freeze_marks {E : Env} {nn : Nat} {L : List (Nat × Value)} {F : PH} {H R : List Chunk} {K : Act → World → Prop} {n : Nat} {ms : List Mk} {cs : List Value} {C : List Chunk} (i : Nat) (hMC : MC n F cs C ms) (hn : ∀ x ∈ ms, x.bef.length = n ∧ x.chg.length = n) (hi : H[i]? = some (Sep C)) (hR : H.eraseIdx i = R)
    (h : ∀ F', PH.le F F' → Cat (MK n) F' cs ms.reverse → St K E nn L F' R) : St K E nn L F H :=
  St.freeze i hi hR fun _ hm h1 h2 => h _ h1 (hMC.cat h1 hm h2 fun x hx => (hn x hx).2)
def cntTo (l : List Bool) : Nat → Nat
  | 0 => 0
  | j + 1 => cntTo l j + (if l.getD j false then 1 else 0)
def rkTo (n : Nat) (ms : List Mk) : Nat → Nat
  | 0 => 0
  | i + 1 => rkTo n ms i + cntTo (ms.getD i ⟨[], []⟩).chg n
theorem cntTo_le (l : List Bool) : ∀ j, cntTo l j ≤ j
  | 0 => Nat.le_refl _
  | j + 1 => by have := cntTo_le l j; unfold cntTo; split <;> omega
theorem rkTo_le (n : Nat) (ms : List Mk) : ∀ i, rkTo n ms i ≤ i * n
  | 0 => by simp [rkTo]
  | i + 1 => by have := rkTo_le n ms i; have := cntTo_le (ms.getD i ⟨[], []⟩).chg n; rw [Nat.succ_mul]; unfold rkTo; omega
theorem cntTo_snoc {l : List Bool} {j : Nat} {x : Bool} (h : l[j]? = some x) : cntTo l (j + 1) = cntTo l j + (if x then 1 else 0) := by
  rw [cntTo, List.getD_eq_getElem?_getD, h]; rfl
theorem rkTo_snoc {n : Nat} {ms : List Mk} {i : Nat} {x : Mk} (h : ms[i]? = some x) : rkTo n ms (i + 1) = rkTo n ms i + cntTo x.chg n := by
  rw [rkTo, List.getD_eq_getElem?_getD, h]; rfl
def rplayR (n : Int) (l : List Sh) : List Int × Nat × Int :=
  if shErr n l ≠ 0 then ([], 0, shErr n l) else match rplays n.toNat l (rstart n.toNat) with
    | none => ([], 0, 11)
    | some s => (s.cells, s.ms.length, 0)
def rkeptR (n : Int) (l : List Sh) : Nat × Int :=
  if shErr n l ≠ 0 then (0, shErr n l) else match rplays n.toNat l (rstart n.toNat) with
    | none => (0, 11)
    | some s => (rkTo n.toNat s.ms.reverse s.ms.length, 0)
end Go.Proofs.Ytaajfhcjpejmjaa
