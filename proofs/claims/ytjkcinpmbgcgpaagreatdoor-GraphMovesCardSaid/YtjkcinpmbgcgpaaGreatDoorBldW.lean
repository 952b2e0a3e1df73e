/- strings.Builder by contract. -/
import Derived.Test.YtjkcinpmbgcgpaaGreatDoorBld
import Derived.Test.YtjkcinpmbgcgpaaGreatDoorProg
import Derived.Lib.Builder
import Derived.Lib.UnsafeStr
import Derived.Laws.Externs
import Derived.KernelRfl
namespace Go.Proofs.YtjkcinpmbgcgpaaGreatDoor
open Go Go.Sy Go.RowKit Go.Mir
set_option linter.unusedVariables false
/-- A builder that holds the text l: its own block and the row of its bytes. -/
def bld (b : Nat) (l : List UInt8) : Chunk := fun m => ∃ p A c, (p = .pointer none ∨ p = .pointer (some ⟨b, 0, none⟩)) ∧ Sep [blk b (.cells #[p, .slice A l.length c] 115 (0, 0)), row A l.length c 5 1 (byteVs l)] m
theorem Sep.two {c1 c2 : Chunk} {H : List Chunk} {m : PH} (h : Sep (c1 :: c2 :: H) m) : Sep ((fun m => Sep [c1, c2] m) :: H) m := by
  obtain ⟨m1, m2, h1, h2, h3, rfl⟩ := Sep.split (H := [c1, c2]) (H' := H) h
  exact ⟨m1, m2, h1, h2, h3, rfl⟩
theorem Sep.untwo {c1 c2 : Chunk} {H : List Chunk} {m : PH} (h : Sep ((fun m => Sep [c1, c2] m) :: H) m) : Sep (c1 :: c2 :: H) m := by
  obtain ⟨m1, m2, h1, h2, h3, rfl⟩ := h
  exact Sep.append (H := [c1, c2]) h1 h2 h3
theorem Sat.bld {E : Env} {F : PH} {H : List Chunk} {w : World} {b : Nat} {l : List UInt8} {p : Value} {A : Option Addr} {c : Nat} (hp : p = .pointer none ∨ p = .pointer (some ⟨b, 0, none⟩)) (hs : Sat E F (blk b (.cells #[p, .slice A l.length c] 115 (0, 0)) :: row A l.length c 5 1 (byteVs l) :: H) w) : Sat E F (bld b l :: H) w :=
  hs.mk' (by
    obtain ⟨m, hm, h2⟩ := hs.mem
    obtain ⟨m1, m2, h1, h3, h4, rfl⟩ := Sep.two hm
    exact ⟨_, ⟨m1, m2, ⟨p, A, c, hp, h1⟩, h3, h4, rfl⟩, h2⟩)
theorem St.bld_new {E : Env} {n : Nat} {L : List (Nat × Value)} {F : PH} {H : List Chunk} {K : Act → World → Prop} {b : Nat} (h : St K E n L F (bld b [] :: H)) : St K E n L F (blk b (.cells #[.pointer none, .slice none 0 0] 115 (0, 0)) :: H) :=
  St.row_new 5 1 (St.pick 1 rfl rfl fun a w ha hs => h a w ha (Sat.bld (.inl rfl) hs))
theorem CallSp.bld_open {P : Program} {f : FuncId} {args : Array Value} {F : PH} {b : Nat} {l : List UInt8} {Post : Value → PH → List Chunk → Prop} (h : ∀ p A c, (p = .pointer none ∨ p = .pointer (some ⟨b, 0, none⟩)) → CallSp P f args F [blk b (.cells #[p, .slice A l.length c] 115 (0, 0)), row A l.length c 5 1 (byteVs l)] Post) : CallSp P f args F [bld b l] Post := by
  intro w m hm
  obtain ⟨m1, m2, ⟨p, A, c, hp, h1⟩, h2, h3, rfl⟩ := hm
  have : PH.un m1 m2 = m1 := by
    funext k
    unfold PH.un
    cases m1 k with
    | some o => rfl
    | none => exact h2 k
  rw [this]
  exact h p A c hp w m1 h1
theorem b_to {w : World} {b : Nat} {x y : Value} (h : w.heap[b]? = some (.cells #[x, y] 115 (0, 0))) : (convert 112 187 (.pointer (some ⟨b, 0, none⟩))).run Tryz.prog w = .ok (.pointer (some ⟨b, 0, none⟩)) w := by
  obtain ⟨j, hj, hjs⟩ := Option.map_eq_some_iff.1 (show (Tryz.prog.info? 115).map (·.size) = some 2 by kernel_rfl)
  exact Lib.run_to_unsafe w ⟨b, 0, none⟩ (show Tryz.prog.underlying 112 = some (.pointer 115) by kernel_rfl) (show Tryz.prog.underlying 187 = some .unsafePointer by kernel_rfl) hj (by rw [hjs]; decide) (show w.shape? b = some (115, 2) by simp [World.shape?, h]) (Nat.zero_lt_succ 1)
theorem b_from {w : World} {b : Nat} {x y : Value} (h : w.heap[b]? = some (.cells #[x, y] 115 (0, 0))) : (convert 187 112 (.pointer (some ⟨b, 0, none⟩))).run Tryz.prog w = .ok (.pointer (some ⟨b, 0, none⟩)) w := by
  obtain ⟨j, hj, hjs⟩ := Option.map_eq_some_iff.1 (show (Tryz.prog.info? 115).map (·.size) = some 2 by kernel_rfl)
  exact Lib.run_from_unsafe w ⟨b, 0, none⟩ (show Tryz.prog.underlying 187 = some .unsafePointer by kernel_rfl) (show Tryz.prog.underlying 112 = some (.pointer 115) by kernel_rfl) hj (show w.shape? b = some (115, 2) by simp [World.shape?, h]) (show liesAt Tryz.prog Tryz.prog.depth 115 (2 / Tryz.prog.cellsOf 115) 0 115 1 = true by kernel_rfl)
theorem b_ne (w : World) (b : Nat) : (binOp .neq 112 (.pointer (some ⟨b, 0, none⟩)) (.pointer (some ⟨b, 0, none⟩))).run Tryz.prog w = .ok (.bool false) w := by
  obtain ⟨j, hj, _⟩ := Option.map_eq_some_iff.1 (show (Tryz.prog.info? 115).map (·.size) = some 2 by kernel_rfl)
  exact Lib.run_neq_ptr_same w _ (show Tryz.prog.underlying 112 = some (.pointer 115) by kernel_rfl) hj
theorem b_noEsc (w : World) (x : Value) : (callFunc 104 #[x]).run Tryz.prog w = .ok (.value x) w := by
  rw [run_callFunc_extern Tryz.func104 (by kernel_rfl) (by kernel_rfl) (by kernel_rfl) (e := Extern.AbiNoEscape.same) (by kernel_rfl), Lib.run_noEscape]
  rfl
theorem btc63 : cellT Tryz.prog 112 = true := by kernel_rfl
theorem btc64 : cellT Tryz.prog 113 = true := by kernel_rfl
theorem btu64 : Tryz.prog.underlying 113 = some (.slice 5) := by kernel_rfl
theorem bts64 : slT Tryz.prog 113 5 1 1 = true := by kernel_rfl
theorem btu9 : Tryz.prog.underlying 9 = some .string := by kernel_rfl
theorem copy_sp {F : PH} {b : Nat} {p v : Value} (hp : p = .pointer none ∨ p = .pointer (some ⟨b, 0, none⟩)) : CallSp Tryz.prog 77 #[.pointer (some ⟨b, 0, none⟩)] F [blk b (.cells #[p, v] 115 (0, 0))] (fun u F' H' => u = .tuple #[] ∧ F' = F ∧ H' = [blk b (.cells #[.pointer (some ⟨b, 0, none⟩), v] 115 (0, 0))]) := by
  refine CallSp.enter (args := [.pointer (some ⟨b, 0, none⟩)]) Tryz.func77 rfl rfl ?_
  intro w0 m0 hm0
  refine St.seq ?_
  refine St.region ?_
  refine St.val (Yields.move rfl) trivial rfl rfl ?_
  refine St.val (Yields.nilCheck rfl) trivial rfl rfl ?_
  refine St.val (v := .pointer (some ⟨b, 0, none⟩)) (Yields.fieldAddr rfl (fun _ => by kernel_rfl)) trivial rfl rfl ?_
  refine St.val (v := p) (Yields.load rfl (Loads.H1 0 rfl btc63 rfl)) trivial rfl rfl ?_
  rcases hp with rfl | rfl
  · refine St.val (v := .bool true) (Yields.bin rfl rfl (fun _ => rfl) (fun w => by kernel_rfl)) trivial rfl rfl ?_
    refine St.nil ?_
    refine St.norm ?_
    refine St.cond_t rfl ?_
    refine St.region ?_
    refine St.val (Yields.move rfl) trivial rfl rfl ?_
    refine St.val (Yields.move rfl) trivial rfl rfl ?_
    refine St.val (v := .pointer (some ⟨b, 0, none⟩)) (fun a w ha hs => by simp [execOp, ha.ev (show ev _ (.tmp 8) = some (.pointer (some ⟨b, 0, none⟩)) from rfl), b_to hs.head]) trivial rfl rfl ?_
    refine St.val (v := .pointer (some ⟨b, 0, none⟩)) (fun a w ha hs => by
      simp only [execOp, resolve, ev1 ha (show ev _ (.tmp 9) = some (.pointer (some ⟨b, 0, none⟩)) from rfl), ha.ev (show ev _ (.func 104) = some (.func (.func 104) #[] #[]) from rfl), Deferred.ofValue, Sem.run_bind, Sem.run_pure, Result.andThen_ok, invoke]
      exact b_noEsc w _) trivial rfl rfl ?_
    refine St.val (v := .pointer (some ⟨b, 0, none⟩)) (fun a w ha hs => by simp [execOp, ha.ev (show ev _ (.tmp 10) = some (.pointer (some ⟨b, 0, none⟩)) from rfl), b_from hs.head]) trivial rfl rfl ?_
    refine St.val (Yields.nilCheck rfl) trivial rfl rfl ?_
    refine St.val (v := .pointer (some ⟨b, 0, none⟩)) (Yields.fieldAddr rfl (fun _ => by kernel_rfl)) trivial rfl rfl ?_
    refine St.store (R := []) rfl rfl 0 rfl rfl btc63 rfl rfl trivial (cs' := #[.pointer (some ⟨b, 0, none⟩), v]) rfl ?_
    refine St.nil ?_
    exact St.end0 rfl ⟨rfl, rfl, rfl⟩
  · refine St.val (v := .bool false) (Yields.bin rfl rfl (fun _ => rfl) (fun w => by kernel_rfl)) trivial rfl rfl ?_
    refine St.nil ?_
    refine St.norm ?_
    refine St.cond_f rfl ?_
    refine St.seq ?_
    refine St.region ?_
    refine St.val (Yields.move rfl) trivial rfl rfl ?_
    refine St.val (Yields.nilCheck rfl) trivial rfl rfl ?_
    refine St.val (v := .pointer (some ⟨b, 0, none⟩)) (Yields.fieldAddr rfl (fun _ => by kernel_rfl)) trivial rfl rfl ?_
    refine St.val (v := .pointer (some ⟨b, 0, none⟩)) (Yields.load rfl (Loads.H1 0 rfl btc63 rfl)) trivial rfl rfl ?_
    refine St.val (Yields.move rfl) trivial rfl rfl ?_
    refine St.val (v := .bool false) (Yields.bin rfl rfl (fun _ => rfl) (fun w => b_ne w b)) trivial rfl rfl ?_
    refine St.nil ?_
    refine St.norm ?_
    refine St.cond_f rfl ?_
    refine St.skip ?_
    exact St.end0 rfl ⟨rfl, rfl, rfl⟩
end Go.Proofs.YtjkcinpmbgcgpaaGreatDoor
