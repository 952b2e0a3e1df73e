/- What a store of trail is in memory. -/
import Derived.Test.YtaajfhcjpejmjaaTy
namespace Go.Proofs.Ytaajfhcjpejmjaa
open Go Go.Sy Go.RowKit
def ints (l : List Int) : List Value := l.map (Value.int .i64)
theorem ints_set (l : List Int) (i : Nat) (v : Int) : ints (l.set i v) = (ints l).set i (.int .i64 v) := by unfold ints; rw [List.map_set]
theorem ints_snoc (l : List Int) (v : Int) : ints (l ++ [v]) = ints l ++ [.int .i64 v] := by unfold ints; simp
theorem ints_length (l : List Int) : (ints l).length = l.length := by unfold ints; simp
theorem ints_get {l : List Int} {i : Nat} {v : Int} (h : l[i]? = some v) : (ints l)[i]? = some (.int .i64 v) := by unfold ints; simp [h]
theorem ints_dropLast {l : List Int} {q : Nat} (h : l.length = q + 1) : (ints l).take (q * 1) = ints l.dropLast := by unfold ints; rw [List.dropLast_eq_take, h, ← List.map_take]; simp
/-- An entry of a trail: the cell's number, and a closure that puts its old content back. -/
def TE (SB : Nat) : Kind (Int × Int) where
  sz := 2
  R := fun F cs x => ∃ wb sb ab, cs = [.int .i64 x.1, .func (.func 26) #[] #[.pointer (some ⟨wb, 0, none⟩), .pointer (some ⟨sb, 0, none⟩), .pointer (some ⟨ab, 0, none⟩)]] ∧
    F wb = some (.cells #[.int .i64 x.2] 3 (0, 0)) ∧ F sb = some (.cells #[.pointer (some ⟨SB, 0, none⟩)] 35 (0, 0)) ∧ F ab = some (.cells #[.int .i64 x.1] 3 (0, 0))
  len := fun ⟨_, _, _, h, _⟩ => by rw [h]; rfl
  mono := fun hl ⟨wb, sb, ab, h, h1, h2, h3⟩ => ⟨wb, sb, ab, h, hl _ _ h1, hl _ _ h2, hl _ _ h3⟩
  one := fun ⟨_, _, _, h, _⟩ u hu => by
    rw [h] at hu
    simp at hu
    rcases hu with rfl | rfl <;> rfl
/-- What is put back, the last one first. -/
def undo (cells : List Int) (l : List (Int × Int)) : List Int := l.foldr (fun e c => c.set e.1.toNat e.2) cells
theorem undo_length (cells : List Int) (l : List (Int × Int)) : (undo cells l).length = cells.length := by
  induction l with
  | nil => rfl
  | cons e l ih => simp only [undo, List.foldr_cons, List.length_set]; exact ih
theorem undo_drop (cells : List Int) {tr : List (Int × Int)} {q : Nat} {e : Int × Int} (h : tr[q]? = some e) : undo cells (tr.drop q) = (undo cells (tr.drop (q + 1))).set e.1.toNat e.2 := by
  obtain ⟨hq, rfl⟩ := List.getElem?_eq_some_iff.1 h
  rw [List.drop_eq_getElem_cons hq]
  rfl
/-- A change. -/
structure Sh where
  k : Int
  a : Int
  v : Int
def shV (x : Sh) : List Value := [.int .i64 x.k, .int .i64 x.a, .int .i64 x.v]
def shK : Kind Sh where
  sz := 3
  R := fun _ cs x => cs = shV x
  len := fun h => by rw [h]; rfl
  mono := fun _ h => h
  one := fun h u hu => by rw [h] at hu; simp [shV] at hu; rcases hu with rfl | rfl | rfl <;> rfl
/-- A store, in plain words. -/
structure TS where
  cells : List Int
  tr : List (Int × Int)
  marks : List Int
def TS.last (s : TS) : Nat := (s.marks.getLastD 0).toNat
def TS.back (s : TS) : TS := ⟨undo s.cells (s.tr.drop s.last), s.tr.take s.last, s.marks⟩
def TS.drop (s : TS) : TS := ⟨s.cells, s.tr, s.marks.dropLast⟩
def TS.step (s : TS) (x : Sh) : TS :=
  if x.k = 0 then ⟨s.cells.set x.a.toNat x.v, s.tr ++ [(x.a, s.cells.getD x.a.toNat 0)], s.marks⟩
  else if x.k = 1 then ⟨s.cells, s.tr, s.marks ++ [(s.tr.length : Int)]⟩
  else if x.k = 2 then s.back
  else if x.k = 3 then s.drop
  else s.back.drop
/-- What holds of each store: n cells; the trail's numbers are cells'; marks ascend, up to the trail's length. -/
structure WF (n : Nat) (s : TS) : Prop where
  len : s.cells.length = n
  ix : ∀ e ∈ s.tr, 0 ≤ e.1 ∧ e.1 < n
  nn : ∀ m ∈ s.marks, 0 ≤ m
  up : (s.marks ++ [(s.tr.length : Int)]).Pairwise (· ≤ ·)
def StoreH (F : PH) (SB n : Nat) (s : TS) (H : List Chunk) : Prop := ∃ CA cc TA tc MA mc tcells,
  H = [blk SB (.cells #[.slice CA n cc, .slice TA s.tr.length tc, .slice MA s.marks.length mc] 40 (0, 0)), row CA n cc 3 1 (ints s.cells), row TA s.tr.length tc 46 2 tcells, row MA s.marks.length mc 3 1 (ints s.marks)] ∧ Cat (TE SB) F tcells s.tr
def okSh (n : Int) (x : Sh) : Bool :=
  if x.k < 0 ∨ 4 < x.k then false else if x.k = 0 then decide (0 ≤ x.a ∧ x.a < n ∧ -1000000000 ≤ x.v ∧ x.v ≤ 1000000000) else decide (x.a = 0 ∧ x.v = 0)
theorem WF.last_le {n : Nat} {s : TS} (h : WF n s) : s.last ≤ s.tr.length := by
  unfold TS.last
  cases hm : s.marks.reverse with
  | nil =>
    have : s.marks = [] := by simpa using hm
    simp [this]
  | cons m r =>
    have hs : s.marks = r.reverse ++ [m] := by have := congrArg List.reverse hm; simpa using this
    have hup := h.up
    rw [hs, List.pairwise_append] at hup
    have := hup.2.2 m (by simp) _ (List.mem_singleton.2 rfl)
    rw [hs]
    simp
    omega
theorem WF.last_get {n : Nat} {s : TS} (h : WF n s) (hm : s.marks ≠ []) : s.marks[s.marks.length - 1]? = some (s.last : Int) := by
  unfold TS.last
  rw [← List.getLast?_eq_getElem?, List.getLast?_eq_some_getLast hm, List.getLastD_eq_getLast?, List.getLast?_eq_some_getLast hm]
  have := h.nn _ (List.getLast_mem hm)
  simp
  omega
theorem WF.back {n : Nat} {s : TS} (h : WF n s) : WF n s.back := by
  have hl := h.last_le
  refine ⟨by unfold TS.back; rw [undo_length]; exact h.len, fun e he => h.ix e (List.mem_of_mem_take he), h.nn, ?_⟩
  show (s.marks ++ [((s.tr.take s.last).length : Int)]).Pairwise (· ≤ ·)
  rw [List.length_take, Nat.min_eq_left hl]
  have hup := h.up
  rw [List.pairwise_append] at hup ⊢
  refine ⟨hup.1, List.pairwise_singleton _ _, fun m hm l hl => ?_⟩
  rw [List.mem_singleton] at hl
  subst hl
  unfold TS.last
  cases hr : s.marks.reverse with
  | nil => have : s.marks = [] := by simpa using hr
           rw [this] at hm; cases hm
  | cons x r =>
    have hs : s.marks = r.reverse ++ [x] := by have := congrArg List.reverse hr; simpa using this
    have hx := h.nn x (by rw [hs]; simp)
    have h1 := hup.1
    rw [hs, List.pairwise_append] at h1
    rw [hs] at hm ⊢
    simp only [List.getLastD_concat]
    rcases List.mem_append.1 hm with hm | hm
    · have := h1.2.2 m hm x (List.mem_singleton.2 rfl); omega
    · rw [List.mem_singleton.1 hm]; omega
theorem WF.drop {n : Nat} {s : TS} (h : WF n s) : WF n s.drop := by
  refine ⟨h.len, h.ix, fun m hm => h.nn m ((List.dropLast_sublist _).subset hm), ?_⟩
  have hup := h.up
  show (s.marks.dropLast ++ [(s.tr.length : Int)]).Pairwise (· ≤ ·)
  rw [List.pairwise_append] at hup ⊢
  exact ⟨hup.1.sublist (List.dropLast_sublist _), hup.2.1, fun m hm => hup.2.2 m ((List.dropLast_sublist _).subset hm)⟩
theorem WF.step {n : Nat} {s : TS} (h : WF n s) {x : Sh} (hx : okSh n x = true) : WF n (s.step x) := by
  unfold TS.step
  split
  · rename_i h0
    unfold okSh at hx
    rw [if_neg (by omega), if_pos h0] at hx
    have hx := of_decide_eq_true hx
    refine ⟨by simpa using h.len, fun e he => ?_, h.nn, ?_⟩
    · rcases List.mem_append.1 he with he | he
      · exact h.ix e he
      · rw [List.mem_singleton.1 he]; exact ⟨hx.1, hx.2.1⟩
    · have hup := h.up
      show (s.marks ++ [((s.tr ++ [_]).length : Int)]).Pairwise (· ≤ ·)
      rw [List.pairwise_append] at hup ⊢
      refine ⟨hup.1, List.pairwise_singleton _ _, fun m hm l hl => ?_⟩
      rw [List.mem_singleton] at hl
      have := hup.2.2 m hm _ (List.mem_singleton.2 rfl)
      rw [hl]; simp; omega
  · split
    · refine ⟨h.len, h.ix, fun m hm => ?_, ?_⟩
      · rcases List.mem_append.1 hm with hm | hm
        · exact h.nn m hm
        · rw [List.mem_singleton.1 hm]; omega
      · show ((s.marks ++ [(s.tr.length : Int)]) ++ [(s.tr.length : Int)]).Pairwise (· ≤ ·)
        rw [List.pairwise_append]
        refine ⟨h.up, List.pairwise_singleton _ _, fun m hm l hl => ?_⟩
        rw [List.mem_singleton] at hl
        rw [hl]
        rcases List.mem_append.1 hm with hm | hm
        · have hup := h.up
          rw [List.pairwise_append] at hup
          exact hup.2.2 m hm _ (List.mem_singleton.2 rfl)
        · rw [List.mem_singleton.1 hm]; exact Int.le_refl _
    · split
      · exact h.back
      · split
        · exact h.drop
        · exact h.back.drop
end Go.Proofs.Ytaajfhcjpejmjaa
