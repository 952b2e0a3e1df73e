/- The law in plain words. -/
import Derived.Test.YtefclodjekeeiaaGreatDoorCrG
import Derived.Test.YtefclodjekeeiaaGreatDoorKn
namespace Go.Proofs.YtefclodjekeeiaaGreatDoor
open Go Go.Mir
set_option linter.unusedVariables false
theorem s_ints (g : Nat) (l : List Int) : m_ref01_SameInts g l l = some true := by
  unfold m_ref01_SameInts
  rw [if_pos rfl]
  refine Gives.eq (G_all (bad := false) l (fun _ => true) (fun i x hx hi => ?_) ?_ (fun h => Gives.some rfl) (fun h => ?_))
  · exact Gives.pos (by omega) (Gives.bindE hx (Gives.bindE hx (Gives.pos rfl (Gives.some (by simp)))))
  · rw [if_neg (by omega)]
  · simp at h
theorem s_same (g : Nat) (l : List DCode) : m_law14_same g l l = some true := by
  unfold m_law14_same
  rw [if_pos rfl]
  refine Gives.eq (Gives.jx (fun _ => True) (Gives.loop (fun i => i ≤ l.length) (fun i => l.length - i) (Nat.zero_le _) fun i hi => ?_) (fun _ _ => Gives.some rfl))
  refine Gives.ite (fun c => ?_) (fun c => Gives.some trivial)
  have hi' : i < l.length := by omega
  have hx := List.getElem?_eq_getElem hi'
  generalize l[i] = x at *
  refine Gives.jx (fun _ => True) (Gives.bindE (a := false) ?_ (Gives.neg (by decide) ?_)) (fun _ _ => Gives.some ⟨by omega, by omega⟩)
  · rw [hx, Option.bind_some, Option.bind_some, if_pos rfl, Option.bind_some, Option.bind_some, if_pos rfl, Option.bind_some, Option.bind_some, decide_eq_true rfl]; rfl
  refine Gives.loop (fun k => k ≤ x.L.length) (fun k => x.L.length - k) (Nat.zero_le _) fun k hk => ?_
  refine Gives.bindE hx (Gives.ite (fun c2 => ?_) (fun c2 => Gives.some trivial))
  have hk' : k < x.L.length := by omega
  have hy := List.getElem?_eq_getElem hk'
  generalize x.L[k] = y at *
  refine Gives.jx (fun _ => True) (Gives.bindE (a := (y.Op, y.A, y.B, y.N, y.Name, y.Args, y.Cases, y.Op, y.A, y.B, y.N, y.Name, y.Args, y.Cases)) ?_ (Gives.bindE (a := false) ?_ (Gives.neg (by decide) ?_))) (fun _ _ => Gives.some ⟨by omega, by omega⟩)
  · rw [hx, Option.bind_some, hy, Option.bind_some, Option.bind_some, hy, Option.bind_some]
  · rw [if_pos rfl, if_pos rfl, if_pos rfl, if_pos rfl, if_pos rfl]
    dsimp only
    rw [s_ints, Option.bind_some, if_pos rfl, decide_eq_true rfl]; rfl
  dsimp only
  refine Gives.loop (fun n => n ≤ y.Cases.length) (fun n => y.Cases.length - n) (Nat.zero_le _) fun n hn => ?_
  refine Gives.ite (fun c3 => ?_) (fun c3 => Gives.some trivial)
  have hn' : n < y.Cases.length := by omega
  have hz := List.getElem?_eq_getElem hn'
  exact Gives.bindE hz (Gives.bindE hz (Gives.pos ⟨rfl, rfl, rfl⟩ (Gives.some ⟨by omega, by omega⟩)))
theorem m_reads (s : List UInt8) : ∃ g, m_law14_CodeReads g s = some true := by
  refine ⟨300, ?_⟩
  unfold m_law14_CodeReads
  rw [m_Parse, Option.bind_some, r_Parse, Option.bind_some, s_same, Option.bind_some, if_pos rfl, if_pos rfl, if_pos rfl, m_known]; rfl
end Go.Proofs.YtefclodjekeeiaaGreatDoor
