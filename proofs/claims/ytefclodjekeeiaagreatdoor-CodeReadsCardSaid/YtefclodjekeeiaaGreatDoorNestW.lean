/- Rows whose last element's list grows: the rules. -/
import Derived.Test.YtefclodjekeeiaaGreatDoorNest
namespace Go.Sy
open Go Go.RowKit Go.Mir
set_option linter.unusedVariables false
section
variable {P : Program} {E : Env} {n : Nat} {L : List (Nat × Value)} {F : PH} {H R : List Chunk} {K : Act → World → Prop} {Q : Exit → Act → World → Prop} {ops : Array Oper} {rest : List Oper}
variable {d : Nat} {ty : TypeId} {pos : String} {aft : Array Edge} {gd : Option (Nat × Bool)} {x y s : Operand} {t e e2 : TypeId} {A A2 A3 : Option Addr} {c c2 c3 sz sz2 bytes : Nat} {cells cells2 cells3 : List Value}
variable {α β : Type} {D : Kind α} {D2 : Kind β} {b b2 : Nat} {hd : α → List Value} {tl : α → List β} {put : α → List β → α} {xs zs : List α} {ys : List β}
theorem Loads.nest {t : TypeId} (T : Tailed D D2 b hd tl put) (hN : Nest D D2 hd tl F cells A2 c2 cells2 xs) (hx : xs ≠ []) (i : Nat) (hi : H[i]? = some (rowo A xs.length c e sz cells)) (ht : cellT P t = true) : Loads P E F H t ⟨bk A, bo A + ((xs.length - 1) * D.sz + (D.sz - 1)), none⟩ (.slice A2 (lastL tl xs).length c2) :=
  Loads.rA1 i hi ht (Nest.get T hN hx)
/-- An element with no list yet is put behind. -/
theorem St.nest_push {zs : List α} {y0 : α} {g : Nat} {cs : Array Value} {e' : TypeId} (hz : Mir.push b xs [y0] = some zs) (hT : slT P t e sz b = true) (hsz : Nat.blt 0 sz = true) (hDs : D.sz = sz) (hx : ev L s = some (.slice A xs.length c)) {cy : Nat} (hy : ev L y = some (.slice (some ⟨g, 0, none⟩) 1 cy)) (i : Nat) (hi : H[i]? = some (rowo A xs.length c e sz cells)) (hR : H.eraseIdx i = R)
    (i2 : Nat) (hi2 : H[i2]? = some (blk g (.cells cs e' (0, 0)))) (i3 : Nat) {R3 : List Chunk} {ch3 : Chunk} (hi3 : R[i3]? = some ch3) (hR3 : R.eraseIdx i3 = R3) (hC : Cat D F cells xs) (hcs : cs.toList = hd y0 ++ [.slice none 0 0]) (hlen : (hd y0).length + 1 = sz) (h1 : cs.toList.all Value.oneCell' = true) (htl : tl y0 = [])
    (hdn : Nat.blt d n = true) (hw : Wanted ops ⟨some d, .call ⟨.builtin .append, #[s, y], #[t, t]⟩, ty, pos, aft, gd⟩ L)
    (h : ∀ A' c' cells', Nest D D2 hd tl F cells' none 0 [] zs → lastL tl zs = [] → St (wpList P ops Q rest) E n ((d, .slice A' zs.length c') :: L) F (rowo A' zs.length c' e sz cells' :: rowo none (lastL tl zs).length 0 e2 sz2 [] :: R3)) : St (wpList P ops Q (⟨some d, .call ⟨.builtin .append, #[s, y], #[t, t]⟩, ty, pos, aft, gd⟩ :: rest)) E n L F H := by
  obtain ⟨rfl, hb1, hb2⟩ := push_some hz
  have hsz' : 0 < sz := by rwa [Nat.blt_eq] at hsz
  rw [List.length_append, List.length_singleton] at hb1 hb2
  refine St.act hw rfl hdn fun a w ha hs => ?_
  have hs1 : Sat E F (rowo A xs.length c e sz cells :: R) w := hs.perm (by subst hR; exact perm_erase i hi)
  have hl : cs.toList.length = 1 * sz := by rw [hcs, List.length_append, List.length_singleton]; omega
  obtain ⟨A', c', w', hr, hs2⟩ := Sat.appendo (ty := ty) (c2 := cy) hT hsz' hs1 hl (news_blk (hs.at hi2)) (fun u hu => (List.all_eq_true.1 h1) u hu) (by omega) (by unfold maxLen; omega) hb1
  have hN : Nest D D2 hd tl F (cells ++ cs.toList) none 0 [] (xs ++ [y0]) := by rw [hcs]; exact Nest.snoc hC htl
  have h' := h A' c' (cells ++ cs.toList) hN (by rw [lastL_snoc, htl])
  rw [List.length_append, List.length_singleton] at h'
  have e0 : (lastL tl (xs ++ [y0])).length = 0 := by rw [lastL_snoc, htl]; rfl
  rw [e0] at h'
  refine ⟨_, w', F, _, ?_, hs2, St.pick (i3 + 1) (by simpa using hi3) (R := rowo A' (xs.length + 1) c' e sz (cells ++ cs.toList) :: R3) (by rw [← hR3]; rfl) (St.drop (St.rowo_new e2 sz2 (St.pick 1 rfl rfl h')))⟩
  simp only [execOp, resolve, ev2 ha hx hy, Sem.run_bind, Sem.run_pure, Result.andThen_ok, Go.invoke, Go.builtin, hr]
/-- The last element's list is stored back. -/
theorem St.nest_put {xs' : List α} {e3 : TypeId} (T : Tailed D D2 b hd tl put) (hN : Nest D D2 hd tl F cells A2 c2 cells2 xs) (hs : setLast put xs ys = some xs') (hc3 : Cat D2 F cells3 ys) (hDs : D.sz = sz) {off : Nat} (hoff : off = (xs.length - 1) * sz + (sz - 1)) (hx : ev L x = some (.pointer (some ⟨bk A, bo A + off, none⟩))) (hy : ev L y = some (.slice A3 ys.length c3)) (i : Nat) (hi : H[i]? = some (rowo A xs.length c e sz cells)) (hR : H.eraseIdx i = R)
    (i3 : Nat) {R3 : List Chunk} (hi3 : R[i3]? = some (rowo A3 ys.length c3 e3 sz2 cells3)) (hR3 : R.eraseIdx i3 = R3) (ht : cellT P t = true) (hw : Wanted ops ⟨none, .store t x y, ty, pos, aft, gd⟩ L)
    (h : ∀ cells', Nest D D2 hd tl F cells' A3 c3 cells3 xs' → xs.length = xs'.length → lastL tl xs' = ys → St (wpList P ops Q rest) E n L F (rowo A xs'.length c e sz cells' :: rowo A3 (lastL tl xs').length c3 e3 sz2 cells3 :: R3)) : St (wpList P ops Q (⟨none, .store t x y, ty, pos, aft, gd⟩ :: rest)) E n L F H := by
  subst hDs hoff
  have hne : xs ≠ [] := fun h => by subst h; cases hs
  have hg := Nest.get T hN hne
  have ho := (List.getElem?_eq_some_iff.1 hg).1
  obtain ⟨h1, h2, h3⟩ := Nest.set T hN hs hc3 (A3 := A3) (c3 := c3)
  have h' := h _ h1 h2.symm h3
  rw [h2, h3] at h'
  exact St.putA hx hy i hi hR ht rfl ho hw (St.pick (i3 + 1) (by simpa using hi3) (R := rowo A xs.length c e D.sz (cells.set ((xs.length - 1) * D.sz + (D.sz - 1)) (.slice A3 ys.length c3)) :: R3) (by rw [← hR3]; rfl) (St.pick 1 rfl rfl h'))
end
end Go.Sy
