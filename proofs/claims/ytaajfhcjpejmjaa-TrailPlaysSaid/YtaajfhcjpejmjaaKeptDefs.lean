/- How many cells a trail keeps, in plain words. -/
import Derived.Test.YtaajfhcjpejmjaaKeys
import Derived.Test.YtaajfhcjpejmjaaBacks
namespace Go.Proofs.Ytaajfhcjpejmjaa
open Go Go.Sy Go.RowKit Go.Maps
def dOf (l : List Int) : DataW Unit := setOf (.lit (.bool true)) (l.map (Lit.int .i64))
def card (l : List Int) : Nat := (intKeys (dOf l)).length
theorem dOf_snoc {l : List (Int × Int)} {j : Nat} {e : Int × Int} (h : l[j]? = some e) : dOf ((l.take (j + 1)).map (·.1)) = (dOf ((l.take j).map (·.1))).put (.int .i64 e.1) (.lit (.bool true)) := by
  unfold dOf
  rw [List.take_add_one, h, Option.toList_some, List.map_append, List.map_append]
  exact setOf_snoc _ _ _
theorem intKeys_length (D : DataW Unit) : (intKeys D).length = Maps.size D := by
  cases D <;> simp [intKeys, Maps.size]
theorem card_eq (l : List Int) : card l = ((l.map (Lit.int .i64)).foldl addKey []).length := by
  unfold card
  rw [intKeys_length]
  exact size_setOf _ _ (by simp [WideAt.IsKeyLit])
theorem addKeys_le : ∀ (l acc : List Lit), (l.foldl addKey acc).length ≤ acc.length + l.length
  | [], acc => by simp
  | x :: l, acc => by
    rw [List.foldl_cons]
    have := addKeys_le l (addKey acc x)
    have h2 : (addKey acc x).length ≤ acc.length + 1 := by unfold addKey; split <;> simp
    simp only [List.length_cons]; omega
theorem card_le (l : List Int) : card l ≤ l.length := by
  rw [card_eq]
  have := addKeys_le (l.map (Lit.int .i64)) []
  simpa using this
def bounds (s : TS) : List Int := s.marks ++ [(s.tr.length : Int)]
def seg (s : TS) (i : Nat) : List Int := ((s.tr.take ((bounds s).getD (i + 1) 0).toNat).drop ((bounds s).getD i 0).toNat).map (·.1)
def keptTo (s : TS) : Nat → Nat
  | 0 => 0
  | i + 1 => keptTo s i + card (seg s i)
theorem seg_le (s : TS) (i : Nat) : (seg s i).length ≤ s.tr.length := by unfold seg; simp; omega
theorem keptTo_le (s : TS) : ∀ i, keptTo s i ≤ i * s.tr.length
  | 0 => by simp [keptTo]
  | i + 1 => by
    have h1 := keptTo_le s i
    have h2 := card_le (seg s i)
    have h3 := seg_le s i
    rw [Nat.succ_mul]; unfold keptTo; omega
theorem bounds_mono {n : Nat} {s : TS} (hw : WF n s) {i : Nat} {x y : Int} (hx : (bounds s)[i]? = some x) (hy : (bounds s)[i + 1]? = some y) : 0 ≤ x ∧ x ≤ y ∧ y ≤ s.tr.length := by
  have hp : (bounds s).Pairwise (· ≤ ·) := hw.up
  obtain ⟨hi, rfl⟩ := List.getElem?_eq_some_iff.1 hx
  obtain ⟨hi2, rfl⟩ := List.getElem?_eq_some_iff.1 hy
  refine ⟨?_, List.pairwise_iff_getElem.1 hp i (i + 1) hi hi2 (by omega), ?_⟩
  · have : (bounds s)[i] ∈ bounds s := List.getElem_mem _
    rcases List.mem_append.1 this with h | h
    · exact hw.nn _ h
    · rw [List.mem_singleton.1 h]; omega
  · have : (bounds s)[i + 1] ∈ bounds s := List.getElem_mem _
    rcases List.mem_append.1 this with h | h
    · have := (List.pairwise_append.1 hw.up).2.2 _ h _ (List.mem_singleton.2 rfl)
      exact this
    · rw [List.mem_singleton.1 h]; exact Int.le_refl _
theorem bounds_mark {s : TS} {i : Nat} {x : Int} (h : s.marks[i]? = some x) : (bounds s)[i]? = some x := by
  unfold bounds; rw [List.getElem?_append_left (List.getElem?_eq_some_iff.1 h).1]; exact h
theorem bounds_last {s : TS} {i : Nat} (h : i = s.marks.length) : (bounds s)[i]? = some (s.tr.length : Int) := by
  subst h; unfold bounds; rw [List.getElem?_append_right (Nat.le_refl _)]; simp
theorem seg_eq {s : TS} {i : Nat} {x y : Int} (hx : (bounds s)[i]? = some x) (hy : (bounds s)[i + 1]? = some y) : seg s i = ((s.tr.take y.toNat).drop x.toNat).map (·.1) := by
  unfold seg; rw [List.getD_eq_getElem?_getD, List.getD_eq_getElem?_getD, hx, hy]; rfl
def keptR (n : Int) (l : List Sh) : Nat × Int :=
  if shErr n l ≠ 0 then (0, shErr n l) else match plays l (start n.toNat) with
    | none => (0, 11)
    | some s => (keptTo s s.marks.length, 0)
theorem plays_lens : ∀ (l : List Sh) (s s' : TS), plays l s = some s' → s'.marks.length ≤ s.marks.length + l.length ∧ s'.tr.length ≤ s.tr.length + l.length
  | [], s, s', h => by cases h; simp
  | x :: l, s, s', h => by
    simp only [plays] at h
    split at h
    · cases h
    · have h1 := plays_lens l _ _ h
      have h2 := step_lens s x
      simp only [List.length_cons]; omega
end Go.Proofs.Ytaajfhcjpejmjaa
