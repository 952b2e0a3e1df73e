/- What do does with a store, in plain words. -/
import Derived.Test.YtaajfhcjpejmjaaStore
namespace Go.Proofs.Ytaajfhcjpejmjaa
open Go Go.Sy Go.RowKit
/-- What shifts answers. -/
def okn (n : Int) : Bool := decide (1 ≤ n ∧ n ≤ 64)
def shErr (n : Int) (l : List Sh) : Int := if (okn n && l.all (okSh n)) = false then 1 else if l.length > 400 then 3 else 0
theorem all_snoc {l : List Sh} {n : Int} {i : Nat} {x : Sh} (h : l[i]? = some x) : (l.take (i + 1)).all (okSh n) = ((l.take i).all (okSh n) && okSh n x) := by
  rw [List.take_add_one, h, Option.toList_some, List.all_append]; simp
/-- Changes one behind the other. -/
def plays : List Sh → TS → Option TS
  | [], s => some s
  | x :: l, s => if x.k > 1 ∧ s.marks = [] then none else plays l (s.step x)
def start (n : Nat) : TS := ⟨List.replicate n 0, [], []⟩
theorem plays_drop {l : List Sh} {i : Nat} {x : Sh} {s : TS} (h : l[i]? = some x) : plays (l.drop i) s = if x.k > 1 ∧ s.marks = [] then none else plays (l.drop (i + 1)) (s.step x) := by
  obtain ⟨hi, rfl⟩ := List.getElem?_eq_some_iff.1 h
  rw [List.drop_eq_getElem_cons hi]; rfl
theorem start_wf (n : Nat) : WF n (start n) := ⟨by simp [start], fun e he => by simp [start] at he, fun m hm => by simp [start] at hm, by simp [start]⟩
theorem step_lens (s : TS) (x : Sh) : (s.step x).tr.length ≤ s.tr.length + 1 ∧ (s.step x).marks.length ≤ s.marks.length + 1 := by
  unfold TS.step
  split
  · simp
  · split
    · simp
    · split
      · simp [TS.back]; omega
      · split
        · simp [TS.drop]; omega
        · simp [TS.drop, TS.back]; omega
theorem store_last {n : Nat} {s : TS} (hw : WF n s) {q : Nat} (hq : s.marks.length = q + 1) : s.marks[q]? = some (s.last : Int) := by
  have := hw.last_get (by intro h; rw [h] at hq; cases hq)
  rwa [hq, Nat.add_sub_cancel] at this
theorem do_sp {F : PH} {SB n : Nat} {s : TS} {x : Sh} {H : List Chunk} (hS : StoreH F SB n s H) (hw : WF n s) (hb : s.tr.length ≤ 100000) (hm : s.marks.length ≤ 100000) (hx : okSh n x = true) :
    CallSp Try.prog 16 #[.pointer (some ⟨SB, 0, none⟩), .agg (shV x).toArray] F H (fun u F' H' => (x.k > 1 ∧ s.marks = [] ∧ u = .bool false) ∨ (¬ (x.k > 1 ∧ s.marks = []) ∧ u = .bool true ∧ StoreH F' SB n (s.step x) H')) := by
  obtain ⟨CA, cc, TA, tc, MA, mc, tcells, rfl, hT⟩ := hS
  obtain ⟨k, a, v⟩ := x
  have hk : 0 ≤ k ∧ k ≤ 4 := by unfold okSh at hx; split at hx <;> first | cases hx | (simp only at *; omega)
  by_cases h0 : k = 0
  · subst h0
    unfold okSh at hx
    rw [if_neg (by simp), if_pos rfl] at hx
    have hx := of_decide_eq_true hx
    have ha0 : 0 ≤ a := hx.1
    have ha1 : a < n := hx.2.1
    have hlen := hw.len
    refine (do0_sp (q := 0) (was := s.cells.getD a.toNat 0) hT hb hm (by omega) ha0 ha1 (by rw [List.getD_eq_getElem?_getD, List.getElem?_eq_getElem (by omega)]; rfl)).mono ?_
    rintro u F' H' ⟨TA', tc', tcells', rfl, rfl, hT'⟩
    refine .inr ⟨fun h => by have := h.1; simp at this, rfl, CA, cc, TA', tc', MA, mc, tcells', ?_, ?_⟩
    · simp [TS.step]
    · simpa [TS.step] using hT'
  by_cases h1 : k = 1
  · subst h1
    refine (do1_sp (q := 0) hT hb hm (by omega)).mono ?_
    rintro u F' H' ⟨MA', mc', rfl, rfl, hT'⟩
    refine .inr ⟨fun h => by have := h.1; simp at this, rfl, CA, cc, TA, tc, MA', mc', tcells, ?_, ?_⟩
    · simp [TS.step]
    · simpa [TS.step] using hT'
  have hk1 : k > 1 := by omega
  by_cases hq : s.marks = []
  · rw [hq]
    have h := donone_sp (F := F) (SB := SB) (CA := CA) (TA := TA) (MA := MA) (n := n) (cc := cc) (t := s.tr.length) (tc := tc) (m := 0) (q := 0) (mc := mc) (cells := s.cells) (marks := []) (a := a) (v := v) hT hb (by omega) (by omega) hk1
    refine (show CallSp _ _ _ _ _ _ from h).mono ?_
    rintro u F' H' ⟨rfl, rfl, hT'⟩
    exact .inl ⟨hk1, rfl, rfl⟩
  · obtain ⟨q, hml⟩ : ∃ q, s.marks.length = q + 1 := ⟨s.marks.length - 1, by have := List.length_pos_iff.2 hq; omega⟩
    have hlast := store_last hw hml
    have hle := hw.last_le
    rw [hml] at hm ⊢
    have hnot : ∀ P : Prop, ¬ (P ∧ s.marks = []) := fun P h => hq h.2
    have hmin : min s.last s.tr.length = s.last := Nat.min_eq_left hle
    have hdl : s.marks.dropLast.length = q := by rw [List.length_dropLast, hml]; rfl
    by_cases h2 : k = 2
    · subst h2
      refine (do2_sp (m := 0) hT hb (by omega) (by omega) hw.len rfl hlast hml hle hw.ix).mono ?_
      rintro u F' H' ⟨rfl, rfl, hT'⟩
      refine .inr ⟨hnot _, rfl, CA, cc, TA, tc, MA, mc, tcells.take (s.last * 2), ?_, ?_⟩
      · simp [TS.step, TS.back, hmin, hml]
      · simpa [TS.step, TS.back] using hT'
    by_cases h3 : k = 3
    · subst h3
      refine (do3_sp (m := 0) hT hb (by omega) (by omega) hw.len rfl hlast hml hle hw.ix).mono ?_
      rintro u F' H' ⟨rfl, rfl, hT'⟩
      refine .inr ⟨hnot _, rfl, CA, cc, TA, tc, MA, mc, tcells, ?_, ?_⟩
      · simp [TS.step, TS.drop, hml]
      · simpa [TS.step, TS.drop] using hT'
    obtain rfl : k = 4 := by omega
    refine (do4_sp (m := 0) hT hb (by omega) (by omega) hw.len rfl hlast hml hle hw.ix).mono ?_
    rintro u F' H' ⟨rfl, rfl, hT'⟩
    refine .inr ⟨hnot _, rfl, CA, cc, TA, tc, MA, mc, tcells.take (s.last * 2), ?_, ?_⟩
    · simp [TS.step, TS.back, TS.drop, hmin, hml]
    · simpa [TS.step, TS.back, TS.drop] using hT'
end Go.Proofs.Ytaajfhcjpejmjaa
