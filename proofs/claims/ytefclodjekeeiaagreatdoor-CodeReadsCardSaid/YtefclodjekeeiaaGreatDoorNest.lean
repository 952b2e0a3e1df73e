/- Rows of structs whose last field is a list: the last one's list is a row of the call's own, and grows. -/
import Derived.Test.YtefclodjekeeiaaGreatDoorSyPl
namespace Go.Mir
def lastL {α β : Type} (tl : α → List β) (xs : List α) : List β := match xs.getLast? with
  | some x => tl x
  | none => []
def setLast {α β : Type} (put : α → List β → α) (xs : List α) (ys : List β) : Option (List α) := match xs.getLast? with
  | some x => some (xs.dropLast ++ [put x ys])
  | none => none
theorem lastL_snoc {α β : Type} {tl : α → List β} {xs : List α} {x : α} : lastL tl (xs ++ [x]) = tl x := by
  unfold lastL; rw [List.getLast?_append]; rfl
theorem setLast_snoc {α β : Type} {put : α → List β → α} {xs : List α} {x : α} {ys : List β} : setLast put (xs ++ [x]) ys = some (xs ++ [put x ys]) := by
  unfold setLast; rw [List.getLast?_append, List.dropLast_concat]; rfl
end Go.Mir
namespace Go.Sy
open Go Go.RowKit Go.Mir
structure Tailed {α β : Type} (K : Kind α) (K2 : Kind β) (b : Nat) (hd : α → List Value) (tl : α → List β) (put : α → List β → α) : Prop where
  shut : ∀ {F : PH} {x : α} {A : Option Addr} {c : Nat}, Fsl b K2 F A c (tl x) → K.R F (hd x ++ [.slice A (tl x).length c]) x
  len : ∀ x, (hd x).length + 1 = K.sz
  tlp : ∀ x ys, tl (put x ys) = ys
  hdp : ∀ x ys, hd (put x ys) = hd x
def Nest {α β : Type} (K : Kind α) (K2 : Kind β) (hd : α → List Value) (tl : α → List β) (F : PH) (cells : List Value) (A2 : Option Addr) (c2 : Nat) (cells2 : List Value) (xs : List α) : Prop :=
  (xs = [] ∧ cells = [] ∧ A2 = none ∧ c2 = 0 ∧ cells2 = []) ∨ ∃ init last ci, xs = init ++ [last] ∧ Cat K F ci init ∧ cells = ci ++ (hd last ++ [.slice A2 (tl last).length c2]) ∧ Cat K2 F cells2 (tl last)
section
variable {α β : Type} {K : Kind α} {K2 : Kind β} {b : Nat} {hd : α → List Value} {tl : α → List β} {put : α → List β → α} {F F' : PH} {cells cells2 cells3 : List Value} {A2 A3 : Option Addr} {c2 c3 : Nat} {xs xs' : List α} {ys : List β}
theorem Cat.length_sz : ∀ {cs : List Value} {xs : List α}, Cat K F cs xs → cs.length = xs.length * K.sz
  | _, [], h => by rw [show _ = [] from h]; simp
  | _, x :: xs, ⟨c, r, h, h1, h2⟩ => by
    rw [h, List.length_append, K.len h1, Cat.length_sz h2, List.length_cons, Nat.succ_mul]; omega
theorem Bnd.of_len {b : Nat} {xs ys : List α} (hl : xs.length = ys.length) (h : Bnd b xs) : Bnd b ys := by
  unfold Bnd at *; rw [← hl]; exact h
theorem Nest.nil : Nest K K2 hd tl F [] none 0 [] [] := .inl ⟨rfl, rfl, rfl, rfl, rfl⟩
theorem Nest.mono (hl : PH.le F F') (h : Nest K K2 hd tl F cells A2 c2 cells2 xs) : Nest K K2 hd tl F' cells A2 c2 cells2 xs := by
  rcases h with h | ⟨init, last, ci, h1, h2, h3, h4⟩
  · exact .inl h
  · exact .inr ⟨init, last, ci, h1, h2.mono hl, h3, h4.mono hl⟩
theorem Nest.inner (h : Nest K K2 hd tl F cells A2 c2 cells2 xs) : Cat K2 F cells2 (lastL tl xs) := by
  rcases h with ⟨rfl, rfl, rfl, rfl, rfl⟩ | ⟨init, last, ci, rfl, h2, h3, h4⟩
  · rfl
  · rw [lastL_snoc]; exact h4
theorem Nest.cat (T : Tailed K K2 b hd tl put) (h : Nest K K2 hd tl F cells A2 c2 cells2 xs) (hf : Fsl b K2 F A2 c2 (lastL tl xs)) : Cat K F cells xs := by
  rcases h with ⟨rfl, rfl, rfl, rfl, rfl⟩ | ⟨init, last, ci, rfl, h2, rfl, h4⟩
  · rfl
  · rw [lastL_snoc] at hf
    exact Cat.snoc (T.shut hf) h2
theorem Nest.get (T : Tailed K K2 b hd tl put) (h : Nest K K2 hd tl F cells A2 c2 cells2 xs) (hx : xs ≠ []) : cells[(xs.length - 1) * K.sz + (K.sz - 1)]? = some (.slice A2 (lastL tl xs).length c2) := by
  rcases h with ⟨rfl, _⟩ | ⟨init, last, ci, rfl, h2, rfl, h4⟩
  · exact absurd rfl hx
  · have := T.len last
    have hc := Cat.length_sz h2
    rw [lastL_snoc, List.length_append, List.length_singleton, Nat.add_sub_cancel, List.getElem?_append_right (by omega), hc, Nat.add_sub_cancel_left, List.getElem?_append_right (by omega), show K.sz - 1 - (hd last).length = 0 by omega]; rfl
theorem Nest.set (T : Tailed K K2 b hd tl put) (h : Nest K K2 hd tl F cells A2 c2 cells2 xs) (hs : setLast put xs ys = some xs') (hc3 : Cat K2 F cells3 ys) : Nest K K2 hd tl F (cells.set ((xs.length - 1) * K.sz + (K.sz - 1)) (.slice A3 ys.length c3)) A3 c3 cells3 xs' ∧ xs'.length = xs.length ∧ lastL tl xs' = ys := by
  rcases h with ⟨rfl, _⟩ | ⟨init, last, ci, rfl, h2, rfl, h4⟩
  · cases hs
  · rw [setLast_snoc] at hs
    cases hs
    have := T.len last
    have hc := Cat.length_sz h2
    refine ⟨.inr ⟨init, put last ys, ci, rfl, h2, ?_, by rw [T.tlp]; exact hc3⟩, by simp, by rw [lastL_snoc, T.tlp]⟩
    rw [List.length_append, List.length_singleton, Nat.add_sub_cancel, List.set_append_right _ _ (by omega), hc, Nat.add_sub_cancel_left, List.set_append_right _ _ (by omega), show K.sz - 1 - (hd last).length = 0 by omega, T.hdp, T.tlp]; rfl
theorem Nest.snoc {x : α} (h : Cat K F cells xs) (hx : tl x = []) : Nest K K2 hd tl F (cells ++ (hd x ++ [.slice none 0 0])) none 0 [] (xs ++ [x]) :=
  .inr ⟨xs, x, cells, rfl, h, by rw [hx]; rfl, by rw [hx]; rfl⟩
theorem idx_rng {xs : List α} {i : Int} {x : α} (h : Mir.idx xs i = some x) : 0 ≤ i ∧ i < xs.length := by
  obtain ⟨h0, h1⟩ := idx_some h
  have := (List.getElem?_eq_some_iff.1 h1).1
  exact ⟨h0, by omega⟩
theorem Nest.at {x : α} {i : Int} (h : Nest K K2 hd tl F cells A2 c2 cells2 xs) (hx : Mir.idx xs i = some x) (hi : i.toNat + 1 = xs.length) : ∀ j v, (hd x ++ [.slice A2 (lastL tl xs).length c2])[j]? = some v → cells[i.toNat * K.sz + j]? = some v := by
  obtain ⟨h0, h1⟩ := idx_some hx
  rcases h with ⟨rfl, _⟩ | ⟨init, last, ci, rfl, h2, rfl, h4⟩
  · simp at hi
  · have hc := Cat.length_sz h2
    rw [List.length_append, List.length_singleton] at hi
    have hil : i.toNat = init.length := by omega
    rw [hil, List.getElem?_append_right (Nat.le_refl _), Nat.sub_self] at h1
    obtain rfl : last = x := Option.some.inj h1
    intro j v hv
    rw [lastL_snoc] at hv
    rw [hil, ← hc, List.getElem?_append_right (by omega), Nat.add_sub_cancel_left]
    exact hv
end
end Go.Sy
