/- The calculus, for walks that a program writes: rows of the call's own as lists of data; loops; calls that are lent rows. -/
import Derived.Test.YtjkcinpmbgcgpaaGreatDoorSyMir
namespace Go.Sy
open Go Go.RowKit Go.Mir
def bo (A : Option Addr) : Nat := match A with | some a => a.off | none => 0
section
variable {P : Program} {E : Env} {n : Nat} {L L' : List (Nat × Value)} {F F' : PH} {H H' R : List Chunk} {K : Act → World → Prop} {Q : Exit → Act → World → Prop} {ops : Array Oper} {rest : List Oper}
variable {d : Nat} {dd : Option Nat} {ty : TypeId} {pos : String} {aft : Array Edge} {gd : Option (Nat × Bool)} {x y s : Operand} {v u : Value} {t e sz bytes : Nat} {A A' : Option Addr} {k c m c2 : Nat} {cells : List Value}
/-! ### reading -/
theorem Yields.idx {kd : IntKind} {j : Int} {p : Addr} (h : IdxAt A k sz j p) (hT : slT P t e sz bytes = true) (hx : ev L x = some (.slice A k c)) (hy : ev L y = some (.int kd j)) : Yields P E n L F H ⟨dd, .indexAddr t x y, ty, pos, aft, gd⟩ (.pointer (some p)) := by
  obtain ⟨h0, h1, ad, rfl, rfl⟩ := h
  exact Yields.indexAddr hT hx hy h0 h1 rfl
theorem rowo_ad {w : World} (hs : Sat E F (rowo A k c e sz cells :: H) w) (hk : 0 < k) : A = some ⟨bk A, bo A, none⟩ ∧ ∀ j u, cells[j]? = some u → w.cell? ⟨bk A, bo A + j, none⟩ = some u := by
  obtain ⟨g, o, rfl, h⟩ := rowo_head hs hk
  exact ⟨rfl, h⟩
theorem Yields.ridx {kd : IntKind} {j : Int} (i : Nat) (hi : H[i]? = some (rowo A k c e sz cells)) (hT : slT P t e sz bytes = true) (hx : ev L x = some (.slice A k c)) (hy : ev L y = some (.int kd j)) (h0 : 0 ≤ j) (h1 : j < k) : Yields P E n L F H ⟨dd, .indexAddr t x y, ty, pos, aft, gd⟩ (.pointer (some ⟨bk A, bo A + j.toNat * sz, none⟩)) := fun a w ha hs => by
  obtain ⟨g, o, rfl, _⟩ := rowo_head (hs.perm (perm_erase i hi)) (by omega)
  exact Yields.indexAddr hT hx hy h0 h1 (add_off _ _ _) a w ha hs
theorem St.rowo_at (i : Nat) (hi : H[i]? = some (rowo A k c e sz cells)) (hk : 0 < k) (h : A = some ⟨bk A, bo A, none⟩ → St K E n L F H) : St K E n L F H := fun a w ha hs => h (rowo_ad (hs.perm (perm_erase i hi)) hk).1 a w ha hs
theorem IdxAt.own {j : Int} (hA : A = some ⟨bk A, bo A, none⟩) (h0 : 0 ≤ j) (h1 : j < k) : IdxAt A k sz j ⟨bk A, bo A + j.toNat * sz, none⟩ := ⟨h0, h1, _, hA, add_off _ _ _⟩
theorem fieldA {s : TypeId} {f b o z off : Nat} (h : ∀ w, (Instr.fieldAt s (.pointer (some ⟨b, o + z, none⟩)) f).run P w = .ok (.pointer (some (Addr.add ⟨b, o + z, none⟩ off))) w) : ∀ w, (Instr.fieldAt s (.pointer (some ⟨b, o + z, none⟩)) f).run P w = .ok (.pointer (some ⟨b, o + (z + off), none⟩)) w := fun w => by
  rw [h, add_off, Nat.add_assoc]
theorem rowo_pos {m : PH} {off : Nat} (h : rowo A k c e sz cells m) (ho : off < cells.length) : 0 < k := by
  have := h.1
  rcases Nat.eq_zero_or_pos k with h0 | h0
  · rw [h0, Nat.zero_mul] at this; omega
  · exact h0
theorem Loads.rA1 {off : Nat} (i : Nat) (hi : H[i]? = some (rowo A k c e sz cells)) {t : TypeId} (ht : cellT P t = true) (hu : cells[off]? = some u) : Loads P E F H t ⟨bk A, bo A + off, none⟩ u :=
  .cell_of ht fun _ hs => by
    have hs1 := hs.perm (perm_erase i hi)
    obtain ⟨mm, hm, _⟩ := hs1.head_sep
    exact (rowo_ad hs1 (rowo_pos hm (List.getElem?_eq_some_iff.1 hu).1)).2 _ _ hu
theorem Loads.rAn {off : Nat} (i : Nat) (hi : H[i]? = some (rowo A k c e sz cells)) {t : TypeId} {us : List Value} (ht : aggT P t us.length = true) (hu : ∀ j u, us[j]? = some u → cells[off + j]? = some u) : Loads P E F H t ⟨bk A, bo A + off, none⟩ (.agg us.toArray) :=
  .agg_of ht fun _ hs j v e => by
    have hs1 := hs.perm (perm_erase i hi)
    obtain ⟨mm, hm, _⟩ := hs1.head_sep
    have h9 := hu j v e
    rw [add_off, Nat.add_assoc]
    exact (rowo_ad hs1 (rowo_pos hm (List.getElem?_eq_some_iff.1 h9).1)).2 _ _ h9
/-- A part of what was told of an element's cells. -/
theorem part_of {cs us cells : List Value} {o q m : Nat} (hc : ∀ j v, cs[j]? = some v → cells[o + j]? = some v) (hu : (cs.drop q).take m = us) : ∀ j u, us[j]? = some u → cells[o + q + j]? = some u := fun j u e => by
  rw [← hu, List.getElem?_take] at e
  split at e
  · rw [List.getElem?_drop] at e
    rw [Nat.add_assoc]; exact hc _ _ e
  · cases e
/-! ### writing -/
theorem St.putA {off : Nat} {t : TypeId} (hx : ev L x = some (.pointer (some ⟨bk A, bo A + off, none⟩))) (hy : ev L y = some v) (i : Nat) (hi : H[i]? = some (rowo A k c e sz cells)) (hR : H.eraseIdx i = R)
    (ht : cellT P t = true) (hv : v.oneCell' = true) (ho : off < cells.length) (hw : Wanted ops ⟨none, .store t x y, ty, pos, aft, gd⟩ L)
    (h : St (wpList P ops Q rest) E n L F (rowo A k c e sz (cells.set off v) :: R)) : St (wpList P ops Q (⟨none, .store t x y, ty, pos, aft, gd⟩ :: rest)) E n L F H :=
  St.pick i hi hR (St.act0 hw rfl fun a w ha hs => by
    obtain ⟨mm, ⟨m1, m2, h1, h2, h12, rfl⟩, hin, hd, hu⟩ := hs.mem
    have hk := rowo_pos h1 ho
    obtain ⟨hl, h1⟩ := h1
    rcases h1 with ⟨_, h9, _⟩ | ⟨g, o, cur, rfl, g1, g2, g3, g4, rfl⟩
    · omega
    · have hs' : Sat E F (blk g (.cells cur e (0, 0)) :: R) w := hs.mk' ⟨_, ⟨_, m2, rfl, h2, h12, rfl⟩, hin, hd, hu⟩
      have hcs : v.cells = #[v] := by cases v <;> first | rfl | (simp [Value.oneCell'] at hv)
      have hkc : k * sz ≤ c * sz := Nat.mul_le_mul_right _ g1
      refine ⟨w.setCell ⟨g, o + off, none⟩ v, F, _, ?_, (hs'.setCell (off := o + off) v).weak fun m hm => ⟨by simpa using hl, .inr ⟨g, o, _, rfl, g1, g2, by simpa using g3, ?_, hm⟩⟩, h⟩
      · simp only [execOp, ha.ev hx, ha.ev hy, Instr.storeAt, Instr.sureAddr, Sem.run_bind, Sem.run_pure, Result.andThen_ok]
        have h7 : o + off < cur.size := by omega
        have := run_storeVar1 (P := P) (off := o + off) ht hv hs'.head h7
        simp only [bk, bo]
        rw [this]
        rfl
      · rw [← g4, Array.toList_setIfInBounds, List.drop_set, if_neg (by omega), Nat.add_sub_cancel_left, List.take_set])
theorem St.putAn {off : Nat} {t : TypeId} {vs : Array Value} {m : Nat} (hx : ev L x = some (.pointer (some ⟨bk A, bo A + off, none⟩))) (hy : ev L y = some (.agg vs)) (i : Nat) (hi : H[i]? = some (rowo A k c e sz cells)) (hR : H.eraseIdx i = R)
    (ht : aggT P t m = true) (hvs : Nat.beq vs.size m = true) (hv : vs.toList.all Value.oneCell' = true) (hm : 0 < m) (ho : off + m ≤ cells.length) (hw : Wanted ops ⟨none, .store t x y, ty, pos, aft, gd⟩ L)
    (h : St (wpList P ops Q rest) E n L F (rowo A k c e sz (cells.take off ++ vs.toList ++ cells.drop (off + m)) :: R)) : St (wpList P ops Q (⟨none, .store t x y, ty, pos, aft, gd⟩ :: rest)) E n L F H :=
  St.pick i hi hR (St.act0 hw rfl fun a w ha hs => by
    have h9 : vs.size = m := Nat.eq_of_beq_eq_true hvs
    obtain ⟨mm, ⟨m1, m2, h1, h2, h12, rfl⟩, hin, hd, hu⟩ := hs.mem
    have hk := rowo_pos (off := off) h1 (by omega)
    obtain ⟨hxl, h1⟩ := h1
    rcases h1 with ⟨_, h9, _⟩ | ⟨g, o, cur, rfl, g1, g2, g3, g4, rfl⟩
    · omega
    have hs' : Sat E F (blk g (.cells cur e (0, 0)) :: R) w := hs.mk' ⟨_, ⟨_, m2, rfl, h2, h12, rfl⟩, hin, hd, hu⟩
    have hkc : k * sz ≤ c * sz := Nat.mul_le_mul_right _ g1
    have hst := run_storeCells_at (P := P) g (o + off) e vs.toList 0 cur w hs'.head (by simp; omega) (fun u hu => (List.all_eq_true.1 hv) u hu)
    refine ⟨w.setRow g (cur.toList.take (o + off) ++ vs.toList ++ cur.toList.drop (o + off + m)).toArray, F, _, ?_, (hs'.set (w' := w.setRow g (cur.toList.take (o + off) ++ vs.toList ++ cur.toList.drop (o + off + m)).toArray) (o' := .cells (cur.toList.take (o + off) ++ vs.toList ++ cur.toList.drop (o + off + m)).toArray e (0, 0)) rfl rfl rfl (by simp) (setRow_heap w g cur _ e (0, 0) hs'.head) (fun j hj => setRow_other w g j _ hj)).weak (fun m' hm' => ⟨?_, .inr ⟨g, o, _, rfl, g1, g2, ?_, ?_, hm'⟩⟩), h⟩
    · simp only [execOp, ha.ev hx, ha.ev hy, Instr.storeAt, Instr.sureAddr, Sem.run_bind, Sem.run_pure, Result.andThen_ok, storeVar, Value.cells, aggT_size ht, h9, ne_eq, not_true_eq_false, if_false]
      simp only [Nat.add_zero, Array.length_toList, h9] at hst
      simp only [bk, bo]
      rw [hst]
      rfl
    · simp [h9]; omega
    · simp [h9]; omega
    · have h8 : vs.toList.length = m := by simp [h9]
      have e0 : cells.take off = (cur.toList.drop o).take off := by rw [← g4, List.take_take, Nat.min_eq_left (by omega)]
      have e1 : cells.drop (off + m) = ((cur.toList.drop o).drop (off + m)).take (k * sz - (off + m)) := by rw [← g4, List.drop_take]
      have e3 : (cur.toList.take (o + off)).length = o + off := by simp; omega
      rw [List.append_assoc, List.drop_append_of_le_length (by omega), List.drop_take, Nat.add_sub_cancel_left, e0, e1, List.take_append, List.take_of_length_le (by simp; omega), List.append_assoc]
      congr 1
      rw [List.take_append, List.take_of_length_le (by simp; omega), List.drop_drop]
      congr 1
      rw [show o + (off + m) = o + off + m by omega]
      congr 1
      simp; omega)
theorem upd_len {α : Type} {xs zs : List α} {j : Int} {y : α} (h : Mir.upd xs j y = some zs) : xs.length = zs.length := by obtain ⟨_, rfl⟩ := upd_some h; simp
theorem Cat.put1 {α : Type} {D : Kind α} (hD : D.sz = 1) {v : Value} {y : α} (hy : D.R F [v] y) {xs : List α} {i : Nat} (hC : Cat D F cells xs) (hi : i < xs.length) : Cat D F (cells.set (i * 1) v) (xs.set i y) := by
  have h1 := Cat.putf (K := D) (fo := 0) (v := v) (y := y) (x := xs[i]) (by omega) hC (List.getElem?_eq_getElem hi) (fun cs h => by
    have hl := D.len h
    rw [hD] at hl
    match cs, hl with
    | [_], _ => exact hy)
  rw [hD] at h1
  exact h1
theorem St.putK1 {α : Type} {D : Kind α} {xs zs : List α} {j : Int} {yy : α} {t : TypeId} (hz : Mir.upd xs j yy = some zs) (hC : Cat D F cells xs) (hR0 : D.R F [v] yy) (hD : D.sz = 1) (hx : ev L x = some (.pointer (some ⟨bk A, bo A + j.toNat * 1, none⟩))) (hy : ev L y = some v) (i : Nat) (hi : H[i]? = some (rowo A xs.length c e 1 cells)) (hR : H.eraseIdx i = R)
    (ht : cellT P t = true) (hv : v.oneCell' = true) (hw : Wanted ops ⟨none, .store t x y, ty, pos, aft, gd⟩ L)
    (h : ∀ cells', Cat D F cells' zs → St (wpList P ops Q rest) E n L F (rowo A xs.length c e 1 cells' :: R)) : St (wpList P ops Q (⟨none, .store t x y, ty, pos, aft, gd⟩ :: rest)) E n L F H := by
  obtain ⟨⟨h0, h1⟩, rfl⟩ := upd_some hz
  have hl := hC.length
  rw [hD] at hl
  exact St.putA hx hy i hi hR ht hv (by omega) hw (h _ (Cat.put1 hD hR0 hC (by omega)))
theorem St.putKn {α : Type} {D : Kind α} {xs zs : List α} {j : Int} {yy : α} {t : TypeId} {vs : Array Value} (hz : Mir.upd xs j yy = some zs) (hC : Cat D F cells xs) (hR0 : D.R F vs.toList yy) (hD : D.sz = sz) (hx : ev L x = some (.pointer (some ⟨bk A, bo A + j.toNat * sz, none⟩))) (hy : ev L y = some (.agg vs)) (i : Nat) (hi : H[i]? = some (rowo A xs.length c e sz cells)) (hR : H.eraseIdx i = R)
    (ht : aggT P t sz = true) (hm : Nat.blt 0 sz = true) (hw : Wanted ops ⟨none, .store t x y, ty, pos, aft, gd⟩ L)
    (h : ∀ cells', Cat D F cells' zs → St (wpList P ops Q rest) E n L F (rowo A xs.length c e sz cells' :: R)) : St (wpList P ops Q (⟨none, .store t x y, ty, pos, aft, gd⟩ :: rest)) E n L F H := by
  obtain ⟨⟨h0, h1⟩, rfl⟩ := upd_some hz
  have hl := hC.length
  rw [hD] at hl
  have hvl := D.len hR0
  rw [hD] at hvl
  have hlt : (j.toNat + 1) * sz ≤ xs.length * sz := Nat.mul_le_mul_right _ (by omega)
  rw [Nat.succ_mul] at hlt
  have := Cat.put hR0 hC (i := j.toNat) (by omega)
  rw [hD] at this
  exact St.putAn (m := sz) hx hy i hi hR ht (by simpa using hvl) (List.all_eq_true.2 fun u hu => D.one hR0 u hu) (by rwa [Nat.blt_eq] at hm) (by omega) hw (h _ this)
/-- One cell of an element is written. -/
theorem St.putKf {α : Type} {D : Kind α} {xs zs : List α} {j : Int} {x0 yy : α} {t : TypeId} {fo : Nat} (hx0 : Mir.idx xs j = some x0) (hz : Mir.upd xs j yy = some zs) (hC : Cat D F cells xs) (hR0 : ∀ cs, D.R F cs x0 → D.R F (cs.set fo v) yy) (hD : D.sz = sz) (hfo : Nat.blt fo sz = true) (hx : ev L x = some (.pointer (some ⟨bk A, bo A + (j.toNat * sz + fo), none⟩))) (hy : ev L y = some v) (i : Nat) (hi : H[i]? = some (rowo A xs.length c e sz cells)) (hR : H.eraseIdx i = R)
    (ht : cellT P t = true) (hv : v.oneCell' = true) (hw : Wanted ops ⟨none, .store t x y, ty, pos, aft, gd⟩ L)
    (h : ∀ cells', Cat D F cells' zs → St (wpList P ops Q rest) E n L F (rowo A xs.length c e sz cells' :: R)) : St (wpList P ops Q (⟨none, .store t x y, ty, pos, aft, gd⟩ :: rest)) E n L F H := by
  obtain ⟨⟨h0, h1⟩, rfl⟩ := upd_some hz
  have hfo' : fo < sz := by rwa [Nat.blt_eq] at hfo
  have hl := hC.length
  rw [hD] at hl
  have hlt : (j.toNat + 1) * sz ≤ xs.length * sz := Nat.mul_le_mul_right _ (by omega)
  rw [Nat.succ_mul] at hlt
  have := Cat.putf (fo := fo) (by rw [hD]; exact hfo') hC (idx_some hx0).2 hR0
  rw [hD] at this
  exact St.putA hx hy i hi hR ht hv (by omega) hw (h _ this)
/-! ### rows grow -/
theorem St.rowo_new (e sz : Nat) (h : St K E n L F (rowo none 0 0 e sz [] :: H)) : St K E n L F H := St.row_new e sz (St.weak (R := H) 0 rfl rfl (fun _ hm => rowo_of_row hm) h)
theorem St.push {α : Type} {b : Nat} {D : Kind α} {xs ys zs : List α} {ad : Addr} {news : List Value} (hz : Mir.push b xs ys = some zs) (hT : slT P t e sz b = true) (hsz : Nat.blt 0 sz = true) (hDs : D.sz = sz) (hx : ev L s = some (.slice A xs.length c)) (hy : ev L y = some (.slice (some ad) ys.length c2)) (i : Nat) (hi : H[i]? = some (rowo A xs.length c e sz cells)) (hR : H.eraseIdx i = R)
    (hC : Cat D F cells xs) (hD : Cat D F news ys) (hnews : ∀ w, Sat E F H w → ∀ j u, news[j]? = some u → w.cell? (ad.add j) = some u)
    (hdn : Nat.blt d n = true) (hw : Wanted ops ⟨some d, .call ⟨.builtin .append, #[s, y], #[t, t]⟩, ty, pos, aft, gd⟩ L)
    (h : ∀ A' c' cells', Cat D F cells' zs → St (wpList P ops Q rest) E n ((d, .slice A' zs.length c') :: L) F (rowo A' zs.length c' e sz cells' :: R)) : St (wpList P ops Q (⟨some d, .call ⟨.builtin .append, #[s, y], #[t, t]⟩, ty, pos, aft, gd⟩ :: rest)) E n L F H := by
  obtain ⟨rfl, hb1, hb2⟩ := push_some hz
  have hsz' : 0 < sz := by rwa [Nat.blt_eq] at hsz
  rw [List.length_append] at hb1 hb2
  refine St.act hw rfl hdn fun a w ha hs => ?_
  have hs1 : Sat E F (rowo A xs.length c e sz cells :: R) w := hs.perm (by subst hR; exact perm_erase i hi)
  rcases Nat.eq_zero_or_pos ys.length with hm | hm
  · have hys : ys = [] := List.eq_nil_of_length_eq_zero hm
    subst hys
    have hkc : xs.length ≤ c := by
      obtain ⟨mm, hm, _⟩ := hs1.head_sep
      rcases hm.2 with ⟨_, h1, h2, _⟩ | ⟨_, _, _, _, h1, _⟩
      · omega
      · exact h1
    obtain ⟨ti, z, hu, hin, hz0, rfl, rfl, hzs⟩ := slT_spec hT
    have hf := run_firstCells_some (P := P) w ti.size 0 ad 0 c2 [] (by simp) (fun j u h => by simp at h)
    have h' := h A c cells (by rw [List.append_nil]; exact hC)
    rw [List.append_nil] at h'
    refine ⟨_, w, F, _, ?_, hs1, h'⟩
    simp only [execOp, resolve, ev2 ha hx hy, Sem.run_bind, Sem.run_pure, Result.andThen_ok, Go.invoke, Go.builtin]
    cases A with
    | none => simp [Builtin.append_, underlying, hu, sizeOf, typeInfo, hin, Builtin.lenOf, hf, hkc]
    | some a => simp [Builtin.append_, underlying, hu, sizeOf, typeInfo, hin, Builtin.lenOf, hf, hkc, storeCells]
  · obtain ⟨A', c', w', hr, hs2⟩ := Sat.appendo (ty := ty) (c2 := c2) hT hsz' hs1 (by rw [hD.length, hDs]) (hnews w hs) hD.one hm (by unfold maxLen; omega) hb1
    have h' := h A' c' (cells ++ news) (Cat.append hC hD)
    rw [List.length_append] at h'
    refine ⟨_, w', F, _, ?_, hs2, h'⟩
    simp only [execOp, resolve, ev2 ha hx hy, Sem.run_bind, Sem.run_pure, Result.andThen_ok, Go.invoke, Go.builtin, hr]
/-- append(s, x, ..): the literal's block is let go. -/
theorem St.pushL {α : Type} {b : Nat} {D : Kind α} {xs ys zs : List α} {g m : Nat} {cs : Array Value} {e' : TypeId} (hz : Mir.push b xs ys = some zs) (hT : slT P t e sz b = true) (hsz : Nat.blt 0 sz = true) (hDs : D.sz = sz) (hx : ev L s = some (.slice A xs.length c)) (hy : ev L y = some (.slice (some ⟨g, 0, none⟩) m c2)) (hm : ys.length = m) (i : Nat) (hi : H[i]? = some (rowo A xs.length c e sz cells)) (hR : H.eraseIdx i = R)
    (i2 : Nat) (hi2 : H[i2]? = some (blk g (.cells cs e' (0, 0)))) (i3 : Nat) {R3 : List Chunk} {c3 : Chunk} (hi3 : R[i3]? = some c3) (hR3 : R.eraseIdx i3 = R3) (hC : Cat D F cells xs) (hD : Cat D F cs.toList ys)
    (hdn : Nat.blt d n = true) (hw : Wanted ops ⟨some d, .call ⟨.builtin .append, #[s, y], #[t, t]⟩, ty, pos, aft, gd⟩ L)
    (h : ∀ A' c' cells', Cat D F cells' zs → St (wpList P ops Q rest) E n ((d, .slice A' zs.length c') :: L) F (rowo A' zs.length c' e sz cells' :: R3)) : St (wpList P ops Q (⟨some d, .call ⟨.builtin .append, #[s, y], #[t, t]⟩, ty, pos, aft, gd⟩ :: rest)) E n L F H := by
  subst hm
  exact St.push hz hT hsz hDs hx hy i hi hR hC hD (fun _ hs => news_blk (hs.at hi2)) hdn hw fun A' c' cells' hc => St.pick (i3 + 1) (by simpa using hi3) (R := rowo A' zs.length c' e sz cells' :: R3) (by rw [← hR3]; rfl) (St.drop (h A' c' cells' hc))
theorem St.pushS {α : Type} {b b2 : Nat} {D : Kind α} {B : Option Addr} {xs ys zs : List α} (hz : Mir.push b xs ys = some zs) (hT : slT P t e sz b = true) (hsz : Nat.blt 0 sz = true) (hDs : D.sz = sz) (hx : ev L s = some (.slice A xs.length c)) (hy : ev L y = some (.slice B ys.length c2)) (i : Nat) (hi : H[i]? = some (rowo A xs.length c e sz cells)) (hR : H.eraseIdx i = R)
    (hC : Cat D F cells xs) (hS : Fsl b2 D F B c2 ys)
    (hdn : Nat.blt d n = true) (hw : Wanted ops ⟨some d, .call ⟨.builtin .append, #[s, y], #[t, t]⟩, ty, pos, aft, gd⟩ L)
    (h : ∀ A' c' cells', Cat D F cells' zs → St (wpList P ops Q rest) E n ((d, .slice A' zs.length c') :: L) F (rowo A' zs.length c' e sz cells' :: R)) : St (wpList P ops Q (⟨some d, .call ⟨.builtin .append, #[s, y], #[t, t]⟩, ty, pos, aft, gd⟩ :: rest)) E n L F H := by
  cases B with
  | none =>
    obtain ⟨rfl, hb1, hb2⟩ := push_some hz
    have hys : ys = [] := by
      rcases hS.slc.2 with h0 | ⟨ad, h0, _⟩
      · exact List.eq_nil_of_length_eq_zero h0
      · cases h0
    subst hys
    refine St.act hw rfl hdn fun a w ha hs => ?_
    have hs1 : Sat E F (rowo A xs.length c e sz cells :: R) w := hs.perm (by subst hR; exact perm_erase i hi)
    have hkc : xs.length ≤ c := by
      obtain ⟨mm, hm, _⟩ := hs1.head_sep
      rcases hm.2 with ⟨_, h1, h2, _⟩ | ⟨_, _, _, _, h1, _⟩
      · omega
      · exact h1
    obtain ⟨ti, z, hu, hin, hz0, rfl, rfl, hzs⟩ := slT_spec hT
    have h' := h A c cells (by rw [List.append_nil]; exact hC)
    rw [List.append_nil] at h'
    refine ⟨_, w, F, _, ?_, hs1, h'⟩
    simp only [execOp, resolve, ev2 ha hx hy, Sem.run_bind, Sem.run_pure, Result.andThen_ok, Go.invoke, Go.builtin]
    cases A with
    | none => simp [Builtin.append_, underlying, hu, sizeOf, typeInfo, hin, Builtin.lenOf, Builtin.firstCells, hkc]
    | some a => simp [Builtin.append_, underlying, hu, sizeOf, typeInfo, hin, Builtin.lenOf, Builtin.firstCells, hkc, storeCells]
  | some ad =>
    obtain ⟨news, h1, h2⟩ := hS.slc.cat
    exact St.push hz hT hsz hDs hx hy i hi hR hC h1 (fun w hs j u e => PH.cell?_inW hs.frz (h2 j u e)) hdn hw h
theorem St.pushR {α : Type} {b : Nat} {D : Kind α} {B : Option Addr} {xs ys zs : List α} {cells2 : List Value} (hz : Mir.push b xs ys = some zs) (hT : slT P t e sz b = true) (hsz : Nat.blt 0 sz = true) (hDs : D.sz = sz) (hx : ev L s = some (.slice A xs.length c)) (hy : ev L y = some (.slice B ys.length c2)) (i : Nat) (hi : H[i]? = some (rowo A xs.length c e sz cells)) (hR : H.eraseIdx i = R)
    (i2 : Nat) (hi2 : H[i2]? = some (rowo B ys.length c2 e sz cells2)) (hC : Cat D F cells xs) (hD : Cat D F cells2 ys)
    (hdn : Nat.blt d n = true) (hw : Wanted ops ⟨some d, .call ⟨.builtin .append, #[s, y], #[t, t]⟩, ty, pos, aft, gd⟩ L)
    (h : ∀ A' c' cells', Cat D F cells' zs → St (wpList P ops Q rest) E n ((d, .slice A' zs.length c') :: L) F (rowo A' zs.length c' e sz cells' :: R)) : St (wpList P ops Q (⟨some d, .call ⟨.builtin .append, #[s, y], #[t, t]⟩, ty, pos, aft, gd⟩ :: rest)) E n L F H := by
  rcases Nat.eq_zero_or_pos ys.length with hm | hm
  · obtain ⟨rfl, hb1, hb2⟩ := push_some hz
    have hys : ys = [] := List.eq_nil_of_length_eq_zero hm
    subst hys
    refine St.act hw rfl hdn fun a w ha hs => ?_
    have hs1 : Sat E F (rowo A xs.length c e sz cells :: R) w := hs.perm (by subst hR; exact perm_erase i hi)
    have hkc : xs.length ≤ c := by
      obtain ⟨mm, hm, _⟩ := hs1.head_sep
      rcases hm.2 with ⟨_, h1, h2, _⟩ | ⟨_, _, _, _, h1, _⟩
      · omega
      · exact h1
    obtain ⟨ti, z, hu, hin, hz0, rfl, rfl, hzs⟩ := slT_spec hT
    have hf : (Builtin.firstCells ti.size 0 (.slice B 0 c2)).run P w = .ok #[] w := by
      cases B with
      | none => simp [Builtin.firstCells]
      | some ad => simpa using run_firstCells_some (P := P) w ti.size 0 ad 0 c2 [] (by simp) (fun j u h => by simp at h)
    have h' := h A c cells (by rw [List.append_nil]; exact hC)
    rw [List.append_nil] at h'
    refine ⟨_, w, F, _, ?_, hs1, h'⟩
    simp only [execOp, resolve, ev2 ha hx hy, Sem.run_bind, Sem.run_pure, Result.andThen_ok, Go.invoke, Go.builtin]
    cases A with
    | none => simp [Builtin.append_, underlying, hu, sizeOf, typeInfo, hin, Builtin.lenOf, hf, hkc]
    | some a => simp [Builtin.append_, underlying, hu, sizeOf, typeInfo, hin, Builtin.lenOf, hf, hkc, storeCells]
  · intro a w ha hs
    have hs2 := hs.perm (perm_erase i2 hi2)
    have hB := (rowo_ad hs2 hm).1
    refine St.push (ad := ⟨bk B, bo B, none⟩) hz hT hsz hDs hx (by rw [hy, ← hB]) i hi hR hC hD (fun w hs j u e => ?_) hdn hw h a w ha hs
    rw [add_off]
    exact (rowo_ad (hs.perm (perm_erase i2 hi2)) hm).2 _ _ e
/-! ### rows are frozen -/
theorem Slc.of_rowo {α : Type} {D : Kind α} {m : PH} {xs : List α} (h : rowo A k c e sz cells m) (_hsz : sz = D.sz) (hl : xs.length = k) (hc : Cat D F cells xs) (hmF : PH.le m F) : Slc D F A k xs ∧ k ≤ c := by
  rcases h.2 with ⟨_, h, h3, _⟩ | ⟨g, o, cur, rfl, h1, h2, h3, h4, rfl⟩
  · exact ⟨⟨hl, .inl h⟩, by omega⟩
  · refine ⟨⟨hl, .inr ⟨_, rfl, fun i x e => ?_⟩⟩, h1⟩
    obtain ⟨c', g1, g2⟩ := hc.get e
    refine ⟨c', g1, fun j v e => ?_⟩
    have h5 := g2 j v e
    rw [add_off, add_off, cells_inW (hmF g _ (PH.one_same g _))]
    rw [← h4, List.getElem?_take] at h5
    split at h5
    · rw [List.getElem?_drop] at h5
      rw [Nat.add_assoc]; simpa using h5
    · cases h5
theorem St.frz {α : Type} {D : Kind α} {b : Nat} {xs : List α} (i : Nat) (hi : H[i]? = some (rowo A xs.length c e sz cells)) (hR : H.eraseIdx i = R) (hsz : sz = D.sz) (hc : Cat D F cells xs) (hb : xs.length * b ≤ 140737488355328 ∧ xs.length ≤ 140737488355328)
    (h : ∀ F', PH.le F F' → Fsl b D F' A c xs → St K E n L F' R) : St K E n L F H :=
  St.freeze i hi hR fun _ hm h1 h2 => h _ h1 (let ⟨g1, g2⟩ := Slc.of_rowo hm hsz rfl (hc.mono h1) h2; ⟨g1, g2, hb⟩)
/-! ### parts of rows -/
theorem Fsl.sub {α : Type} {b : Nat} {D : Kind α} {xs ys : List α} {j l : Int} (h : Fsl b D F A c xs) (hs : Mir.sub xs j l = some ys) : Fsl b D F (if c = j.toNat then A else A.map (·.add (j.toNat * D.sz))) (c - j.toNat) ys ∧ ys.length = l.toNat - j.toNat := by
  obtain ⟨⟨h0, h1, h2⟩, rfl⟩ := sub_some hs
  have hl : ((xs.take l.toNat).drop j.toNat).length = l.toNat - j.toNat := by rw [List.length_drop, List.length_take]; omega
  refine ⟨⟨?_, ?_, ?_⟩, hl⟩
  · have := h.slc.sub h.cap (i := j.toNat) (j := l.toNat) (by omega) (by omega)
    rw [hl]; exact this
  · have := h.cap; omega
  · have h3 : ((xs.take l.toNat).drop j.toNat).length ≤ xs.length := by omega
    exact ⟨Nat.le_trans (Nat.mul_le_mul_right _ h3) h.bnd.1, Nat.le_trans h3 h.bnd.2⟩
def SubAt (A : Option Addr) (c k sz : Nat) (j l : Int) (A' : Option Addr) (c' k' : Nat) : Prop := (0 ≤ j ∧ j ≤ l ∧ l ≤ k) ∧ k ≤ c ∧ A' = (if c = j.toNat then A else A.map (·.add (j.toNat * sz))) ∧ c' = c - j.toNat ∧ k' = l.toNat - j.toNat
theorem Fsl.subx {α : Type} {b : Nat} {D : Kind α} {xs ys : List α} {j l : Int} (h : Fsl b D F A c xs) (hs : Mir.sub xs j l = some ys) : ∃ A' c', SubAt A c xs.length D.sz j l A' c' ys.length ∧ Fsl b D F A' c' ys := by
  obtain ⟨h1, h2⟩ := h.sub hs
  exact ⟨_, _, ⟨(sub_some hs).1, h.cap, rfl, rfl, h2⟩, h1⟩
theorem Yields.sub2 {kd kd2 : IntKind} {j l : Int} {k' : Nat} {zz : Operand} (h : SubAt A c k sz j l A' c2 k') (hT : slT P t e sz bytes = true) (hx : ev L s = some (.slice A k c)) (hy : ev L y = some (.int kd j)) (hz : ev L zz = some (.int kd2 l)) : Yields P E n L F H ⟨dd, .slice t s (some y) (some zz) none, ty, pos, aft, gd⟩ (.slice A' k' c2) := by
  obtain ⟨⟨h0, h1, h2⟩, h3, rfl, rfl, rfl⟩ := h
  exact Yields.slice2 hT hx hy hz h0 h1 (by omega)
theorem Yields.subT {kd2 : IntKind} {l : Int} {k' cc : Nat} {zz : Operand} (h : SubAt A cc k sz 0 l A' c2 k') (hT : slT P t e sz bytes = true) (hx : ev L s = some (.slice A k cc)) (hz : ev L zz = some (.int kd2 l)) : Yields P E n L F H ⟨dd, .slice t s none (some zz) none, ty, pos, aft, gd⟩ (.slice A' k' c2) := by
  obtain ⟨⟨h0, h1, h2⟩, h3, hA, hc, hk⟩ := h
  subst hA; subst hk
  rw [Int.toNat_zero, Nat.sub_zero] at hc
  rw [hc]
  have h5 : (if cc = (0 : Int).toNat then A else A.map (·.add ((0 : Int).toNat * sz))) = A := by
    split
    · rfl
    · cases A <;> simp [add_zero']
  rw [h5]
  exact Yields.sliceTo (k' := l.toNat) hT hx hz (by omega) (by omega)
theorem Yields.subD {kd : IntKind} {j : Int} {k' : Nat} (h : SubAt A c k sz j k A' c2 k') (hT : slT P t e sz bytes = true) (hx : ev L s = some (.slice A k c)) (hy : ev L y = some (.int kd j)) : Yields P E n L F H ⟨dd, .slice t s (some y) none none, ty, pos, aft, gd⟩ (.slice A' k' c2) := by
  obtain ⟨⟨h0, h1, h2⟩, h3, rfl, rfl, rfl⟩ := h
  rw [Int.toNat_natCast]
  exact Yields.sliceFrom hT hx hy h0 h1
theorem Yields.subA (hT : slT P t e sz bytes = true) (hx : ev L s = some (.slice A k c)) : Yields P E n L F H ⟨dd, .slice t s none none none, ty, pos, aft, gd⟩ (.slice A k c) := fun a w ha _ => by
  obtain ⟨ti, z, hu, hin, _, rfl, rfl, hzs⟩ := slT_spec hT
  have : A.map (fun x => x.add 0) = A := by cases A <;> simp [add_zero']
  simp [execOp, ha.ev hx, Instr.sliceAt, underlying, hu, Instr.slice, Instr.sliceBounds, sizeOf, typeInfo, hin, this]
/-- The first elements of a row of the call's own. -/
theorem rowo_take {m : PH} (k' : Nat) (hk : k' ≤ k) (h : rowo A k c e sz cells m) : rowo A k' c e sz (cells.take (k' * sz)) m := by
  obtain ⟨hl, h⟩ := h
  have hle : k' * sz ≤ k * sz := Nat.mul_le_mul_right _ hk
  refine ⟨by rw [List.length_take, hl]; omega, ?_⟩
  rcases h with ⟨rfl, rfl, rfl, rfl⟩ | ⟨g, o, cur, rfl, h1, h2, h3, h4, rfl⟩
  · exact .inl ⟨rfl, by omega, rfl, rfl⟩
  · exact .inr ⟨g, o, cur, rfl, by omega, h2, h3, by rw [← h4, List.take_take, Nat.min_eq_left hle], rfl⟩
theorem St.cutT {α : Type} {D : Kind α} {xs ys : List α} {kd2 : IntKind} {l : Int} {zz : Operand} (hT : slT P t e sz bytes = true) (hx : ev L s = some (.slice A xs.length c)) (hz : ev L zz = some (.int kd2 l)) (hDs : D.sz = sz) (i : Nat) (hi : H[i]? = some (rowo A xs.length c e sz cells)) (hR : H.eraseIdx i = R) (hC : Cat D F cells xs) (hs : Mir.sub xs 0 l = some ys)
    (hdn : Nat.blt d n = true) (hw : Wanted ops ⟨some d, .slice t s none (some zz) none, ty, pos, aft, gd⟩ L)
    (h : ∀ cells', Cat D F cells' ys → St (wpList P ops Q rest) E n ((d, .slice A ys.length c) :: L) F (rowo A ys.length c e sz cells' :: R)) : St (wpList P ops Q (⟨some d, .slice t s none (some zz) none, ty, pos, aft, gd⟩ :: rest)) E n L F H := by
  subst hDs
  obtain ⟨⟨_, h1, h2⟩, rfl⟩ := sub_some hs
  rw [Int.toNat_zero, List.drop_zero] at h
  have hl : (xs.take l.toNat).length = l.toNat := by rw [List.length_take]; omega
  refine St.rowo_facts i hi fun _ hkc _ => ?_
  have h3 := h _ (Cat.take l.toNat hC)
  rw [hl] at h3
  refine St.val (Yields.sliceTo (k' := l.toNat) hT hx hz (by omega) (by omega)) hw rfl hdn ?_
  exact St.pick i hi hR fun a w ha hs => h3 a w ha (hs.weak fun m hm => rowo_take _ (by omega) hm)
theorem Cat.drop {α : Type} {D : Kind α} : ∀ {xs : List α} {cs : List Value} (k : Nat), Cat D F cs xs → Cat D F (cs.drop (k * D.sz)) (xs.drop k)
  | _, _, 0, h => by simpa using h
  | [], _, k + 1, h => by rw [h]; simp [Cat]
  | _ :: xs, _, k + 1, ⟨c, r, h, h1, h2⟩ => by
    rw [h, Nat.succ_mul, show k * D.sz + D.sz = D.sz + k * D.sz by omega, ← D.len h1, ← List.drop_drop, List.drop_left, List.drop_succ_cons]
    rw [D.len h1]
    exact Cat.drop k h2
theorem St.cutD {α : Type} {D : Kind α} {xs ys : List α} {kd : IntKind} {j : Int} (hT : slT P t e sz bytes = true) (hx : ev L s = some (.slice A xs.length c)) (hy : ev L y = some (.int kd j)) (hDs : D.sz = sz) (i : Nat) (hi : H[i]? = some (rowo A xs.length c e sz cells)) (hR : H.eraseIdx i = R) (hC : Cat D F cells xs) (hs : Mir.sub xs j xs.length = some ys)
    (hdn : Nat.blt d n = true) (hw : Wanted ops ⟨some d, .slice t s (some y) none none, ty, pos, aft, gd⟩ L)
    (h : ∀ A' c' cells', Cat D F cells' ys → St (wpList P ops Q rest) E n ((d, .slice A' ys.length c') :: L) F (rowo A' ys.length c' e sz cells' :: R)) : St (wpList P ops Q (⟨some d, .slice t s (some y) none none, ty, pos, aft, gd⟩ :: rest)) E n L F H := by
  subst hDs
  obtain ⟨⟨h0, h1, _⟩, rfl⟩ := sub_some hs
  rw [Int.toNat_natCast, List.take_length] at h
  have hl : (xs.drop j.toNat).length = xs.length - j.toNat := List.length_drop
  refine St.val (Yields.sliceFrom hT hx hy h0 h1) hw rfl hdn ?_
  have h3 := h (if c = j.toNat then A else A.map (·.add (j.toNat * D.sz))) (c - j.toNat) _ (Cat.drop j.toNat hC)
  rw [hl] at h3
  exact St.pick i hi hR fun a w ha hs => h3 a w ha (hs.weak fun m hm => rowo_drop _ (by omega) hm)
/-- A part of a row of the call's own: where it is, and how the row comes down to it. -/
theorem subOwn {α : Type} {D : Kind α} {xs ys : List α} {j l : Int} (A : Option Addr) (e : TypeId) (hkc : xs.length ≤ c) (hs : Mir.sub xs j l = some ys) : ∃ A' c', SubAt A c xs.length D.sz j l A' c' ys.length ∧ ∀ F cells, Cat D F cells xs → ∃ cells', Cat D F cells' ys ∧ ∀ m, rowo A xs.length c e D.sz cells m → rowo A' ys.length c' e D.sz cells' m := by
  obtain ⟨⟨h0, h1, h2⟩, rfl⟩ := sub_some hs
  have hl : ((xs.take l.toNat).drop j.toNat).length = l.toNat - j.toNat := by rw [List.length_drop, List.length_take]; omega
  refine ⟨_, _, ⟨⟨h0, h1, h2⟩, hkc, rfl, rfl, hl⟩, fun F cells hC => ⟨_, Cat.drop j.toNat (Cat.take l.toNat hC), fun m hm => ?_⟩⟩
  have h3 := rowo_drop j.toNat (by omega) (rowo_take l.toNat (by omega) hm)
  rw [hl]; exact h3
theorem Fsl.subAt {α : Type} {b : Nat} {D : Kind α} {xs ys : List α} {j l : Int} (h : Fsl b D F A c xs) (hS : SubAt A c xs.length D.sz j l A' c2 ys.length) (hs : Mir.sub xs j l = some ys) : Fsl b D F A' c2 ys := by
  obtain ⟨_, _, rfl, rfl, _⟩ := hS
  exact (h.sub hs).1
theorem St.shrink {α : Type} {D : Kind α} {xs ys : List α} (i : Nat) (hi : H[i]? = some (rowo A xs.length c e D.sz cells)) (hR : H.eraseIdx i = R) (hC : Cat D F cells xs) (hw : ∀ F cells, Cat D F cells xs → ∃ cells', Cat D F cells' ys ∧ ∀ m, rowo A xs.length c e D.sz cells m → rowo A' ys.length c2 e D.sz cells' m)
    (h : ∀ cells', Cat D F cells' ys → St K E n L F (rowo A' ys.length c2 e D.sz cells' :: R)) : St K E n L F H := by
  obtain ⟨cells', h1, h2⟩ := hw F cells hC
  exact St.weak i hi hR h2 (h cells' h1)
theorem St.rowo_len (i : Nat) (hi : H[i]? = some (rowo A k c e sz cells)) (h : k ≤ c → St K E n L F H) : St K E n L F H := St.rowo_facts i hi fun _ h1 _ => h h1
theorem toList_madeCells (z : Array Value) (hz : 0 < z.size) : ∀ k, (madeCells z (k * z.size)).toList = (List.replicate k z.toList).flatten := by
  intro k
  apply List.ext_getElem?
  intro i
  have hlen : (List.replicate k z.toList).flatten.length = k * z.size := by simp
  by_cases hi : i < k * z.size
  · have h1 : (madeCells z (k * z.size)).toList[i]? = some z[i % z.size]! := by
      simp [madeCells, hi]
    rw [h1]
    have h2 : ∀ (k i : Nat), i < k * z.size → (List.replicate k z.toList).flatten[i]? = some z[i % z.size]! := by
      intro k
      induction k with
      | zero => intro i h; simp at h
      | succ k ih =>
        intro i h
        rw [List.replicate_succ, List.flatten_cons]
        have hm : i % z.size < z.size := Nat.mod_lt _ hz
        by_cases hlt : i < z.size
        · rw [List.getElem?_append_left (by simpa using hlt), Nat.mod_eq_of_lt hlt]
          simp [hlt]
        · rw [List.getElem?_append_right (by simp; omega)]
          rw [Nat.succ_mul] at h
          rw [ih _ (by simp; omega)]
          have : (i - z.toList.length) % z.size = i % z.size := by
            rw [Array.length_toList]
            conv => rhs; rw [show i = (i - z.size) + z.size by omega, Nat.add_mod_right]
          rw [this]
    exact (h2 k i hi).symm
  · rw [List.getElem?_eq_none (by rw [Array.length_toList, size_madeCells]; omega), List.getElem?_eq_none (by rw [hlen]; omega)]
/-- make([]T, n). -/
theorem St.makeK {α : Type} {D : Kind α} {zs : List α} {zd : α} {b : Nat} {kl : IntKind} {l : Int} {z : Value} (hm : Mir.made b l zd = some zs) (hT : slT P t e sz b = true) (hz0 : (P.info? e).bind TypeInfo.zero = some z) (hD : D.sz = sz) (hsz : Nat.blt 0 sz = true) (hR : D.R F z.cells.toList zd) (hx : ev L x = some (.int kl l)) (hy : ev L y = some (.int kl l))
    (hdn : Nat.blt d n = true) (hw : Wanted ops ⟨some d, .makeSlice t x y, ty, pos, aft, gd⟩ L)
    (h : ∀ g c cells, Cat D F cells zs → zs.length * b ≤ 140737488355328 ∧ zs.length ≤ 140737488355328 → St (wpList P ops Q rest) E n ((d, .slice (some ⟨g, 0, none⟩) zs.length c) :: L) F (rowo (some ⟨g, 0, none⟩) zs.length c e sz cells :: H)) : St (wpList P ops Q (⟨some d, .makeSlice t x y, ty, pos, aft, gd⟩ :: rest)) E n L F H := by
  obtain ⟨⟨h0, h1, h2⟩, rfl⟩ := made_some hm
  have hl : (List.replicate l.toNat zd).length = l.toNat := List.length_replicate
  obtain ⟨ti, z', hu, hin, hz', hs1, hs2, hzs⟩ := slT_spec hT
  obtain ⟨ti', hi', hz⟩ := Option.bind_eq_some_iff.1 hz0
  rw [hin] at hi'; cases hi'
  rw [hz] at hz'; cases hz'
  have hsz' : 0 < sz := by rwa [Nat.blt_eq] at hsz
  have hbn : l.toNat * b ≤ 140737488355328 := by
    have : ((l.toNat * b : Nat) : Int) ≤ 140737488355328 := by rw [Int.natCast_mul, Int.toNat_of_nonneg h0]; exact h2
    omega
  refine St.act hw rfl hdn fun a w ha hs => ?_
  have hr := run_make (P := P) w t e ti z hu hin hz kl kl l l h0 (Int.le_refl _) (by rw [hs2, Int.mul_comm]; omega) (by omega)
  have h3 := h w.heap.size l.toNat _ (Cat.rep hR l.toNat) (by rw [hl]; exact ⟨hbn, by omega⟩)
  rw [hl] at h3
  refine ⟨_, _, F, _, ?_, (hs.alloc (.cells (madeCells z.cells (l.toNat * sz)) e)).weak (fun m hm' => rowo_of_row (c := l.toNat) ⟨?_, .inr ⟨_, _, rfl, Nat.le_refl _, by unfold maxLen; omega, ?_, ?_, hm'⟩⟩), h3⟩
  · simp only [execOp, ha.ev hx, ha.ev hy, Sem.run_bind, hr, Result.andThen_ok, hs1]; rfl
  · rw [(Cat.rep hR l.toNat).length, List.length_replicate, hD]
  · rw [size_madeCells]
  · rw [← hzs, toList_madeCells _ (by rw [hzs]; exact hsz'), List.take_of_length_le]
    simp
/-! ### loops and ways that meet -/
theorem St.loopM {S Q0 : Type} {c : Code} {s0 : S} {body : S → Option (S ⊕ Q0)} {z : Q0} (hz : Mir.Loop s0 body = some z) (I : S → Act → World → Prop) (h0 : St (I s0) E n L F H)
    (hr : ∀ s o (cont : S → Prop), body s = some o → After o cont z → ∀ a w, I s a w → c.wp P (Exit.then (fun a' w' => ∃ s', cont s' ∧ I s' a' w') Q) a w) : St ((Code.loop c).wp P Q) E n L F H := by
  obtain ⟨N, hN⟩ := Loop_some.1 hz
  refine St.loop (fun k a w => ∃ s, LoopN body k s = some z ∧ I s a w) N (fun a w ha hs => ⟨s0, hN, h0 a w ha hs⟩) ?_
  rintro k a w ⟨s, hs, hI⟩
  cases k with
  | zero => cases hs
  | succ k =>
    rw [LoopN] at hs
    cases hb : body s with
    | none => rw [hb] at hs; cases hs
    | some o =>
      rw [hb] at hs
      have h1 := hr s o (fun s' => LoopN body k s' = some z) hb (by cases o with
        | inl s' => exact hs
        | inr q => exact Option.some.inj hs) a w hI
      refine Code.wp_mono (fun e a' w' hq => ?_) h1
      cases e with
      | normal =>
        obtain ⟨s', h2, h3⟩ := hq
        exact ⟨k, Nat.lt_succ_self k, s', h2, h3⟩
      | _ => exact hq
theorem St.cutI {x y : Code} (I : Act → World → Prop) (h1 : St (x.wp P (Exit.then I Q)) E n L F H) (h2 : ∀ a w, I a w → y.wp P Q a w) : St ((Code.seq x y).wp P Q) E n L F H := St.cut h1 h2
def Bnd {α : Type} (b : Nat) (xs : List α) : Prop := xs.length * b ≤ 140737488355328 ∧ xs.length ≤ 140737488355328
theorem Bnd.of_push {α : Type} {b : Nat} {xs ys zs : List α} (h : Mir.push b xs ys = some zs) : Bnd b zs := (push_some h).2
theorem Bnd.of_sub {α : Type} {b : Nat} {xs ys : List α} {j l : Int} (h : Bnd b xs) (hs : Mir.sub xs j l = some ys) : Bnd b ys := by
  obtain ⟨⟨h0, h1, h2⟩, rfl⟩ := sub_some hs
  have h3 : ((xs.take l.toNat).drop j.toNat).length ≤ xs.length := by rw [List.length_drop, List.length_take]; omega
  exact ⟨Nat.le_trans (Nat.mul_le_mul_right _ h3) h.1, Nat.le_trans h3 h.2⟩
theorem Bnd.of_upd {α : Type} {b : Nat} {xs ys : List α} {i : Int} {x : α} (h : Bnd b xs) (hs : Mir.upd xs i x = some ys) : Bnd b ys := by
  obtain ⟨_, rfl⟩ := upd_some hs
  unfold Bnd; rw [List.length_set]; exact h
theorem Bnd.of_nil {α : Type} {b : Nat} : Bnd b ([] : List α) := by simp [Bnd]
/-! ### ends -/
theorem results4'' {fn : Func} {r s t q : ResultVar} {tmps : Array Value} {w : World} {v u x y : Value} (h : fn.results = #[r, s, t, q]) (h1 : (resOf tmps r).run P w = .ok v w) (h2 : (resOf tmps s).run P w = .ok u w) (h3 : (resOf tmps t).run P w = .ok x w) (h4 : (resOf tmps q).run P w = .ok y w) : (results fn tmps).run P w = .ok (.tuple #[v, u, x, y]) w := by
  have e : results fn tmps = (do let a ← resOf tmps r; let b ← resOf tmps s; let c ← resOf tmps t; let d ← resOf tmps q; pure (.tuple #[a, b, c, d])) := by
    cases r <;> cases s <;> cases t <;> cases q <;> simp [results, h, resOf]
  rw [e]
  simp [h1, h2, h3, h4]
section
variable {w0 : World} {m : PH} {F0 : PH} {fn : Func} {Post : Value → PH → List Chunk → Prop} {r1 r2 r3 r4 : ResultVar} {v v2 v3 v4 : Value}
theorem St.doneR4 (hres : fn.results = #[r1, r2, r3, r4]) (h1 : ResOk P ⟨w0, fun b => m b ≠ none, F0⟩ F H L r1 v) (h2 : ResOk P ⟨w0, fun b => m b ≠ none, F0⟩ F H L r2 v2) (h3 : ResOk P ⟨w0, fun b => m b ≠ none, F0⟩ F H L r3 v3) (h4 : ResOk P ⟨w0, fun b => m b ≠ none, F0⟩ F H L r4 v4) (hp : Post (.tuple #[v, v2, v3, v4]) F H') (ham : ∀ w, Sat ⟨w0, fun b => m b ≠ none, F0⟩ F H w → Sat ⟨w0, fun b => m b ≠ none, F0⟩ F H' w) : St (fun a w => bodyPost P fn (Back w0 m F0 Post) .ret a w) ⟨w0, fun b => m b ≠ none, F0⟩ n L F H := fun _ w ha hs =>
  bodyPost_ret (results4'' hres (h1.run ha hs) (h2.run ha hs) (h3.run ha hs) (h4.run ha hs)) ha.defers ⟨_, F, H', rfl, hp, ham w hs⟩
theorem St.doneR0 (hres : fn.results = #[]) (hp : Post (.tuple #[]) F H') (ham : ∀ w, Sat ⟨w0, fun b => m b ≠ none, F0⟩ F H w → Sat ⟨w0, fun b => m b ≠ none, F0⟩ F H' w) : St (fun a w => bodyPost P fn (Back w0 m F0 Post) .ret a w) ⟨w0, fun b => m b ≠ none, F0⟩ n L F H := fun _ w ha hs =>
  bodyPost_ret (results_none hres _ _ _) ha.defers ⟨_, F, H', rfl, hp, ham w hs⟩
theorem St.endR0 (hres : fn.results = #[]) (hp : Post (.tuple #[]) F H') (ham : ∀ w, Sat ⟨w0, fun b => m b ≠ none, F0⟩ F H w → Sat ⟨w0, fun b => m b ≠ none, F0⟩ F H' w) : St (fun a w => bodyPost P fn (Back w0 m F0 Post) .normal a w) ⟨w0, fun b => m b ≠ none, F0⟩ n L F H := fun _ w ha hs =>
  bodyPost_end (results_none hres _ _ _) ha.defers ⟨_, F, H', rfl, hp, ham w hs⟩
end
/-! ### calls that are lent pieces -/
def PH.less (F m : PH) : PH := fun b => match m b with | some _ => none | none => F b
theorem CallSp.lend {f : FuncId} {args : Array Value} {Hp Hl : List Chunk} {Post : Value → PH → List Chunk → Prop} (h : ∀ m, Sep Hl m → PH.disj m F → PH.le F (PH.un m F) → PH.le m (PH.un m F) → CallSp P f args (PH.un m F) Hp fun v _ H' => ∀ F'', PH.le F F'' → Post v F'' H') : CallSp P f args F (Hp ++ Hl) fun v F' H' => ∃ H1, H' = H1 ++ Hl ∧ Post v F' H1 := by
  intro w m hm hin hd hF
  obtain ⟨m1, m2, h1, h2, h12, rfl⟩ := hm.split
  have hd2 : PH.disj m2 F := PH.disj_mono hd (PH.le_un_right h12)
  have hin2 : m2.inW w := fun b o e => hin b o (PH.le_un_right h12 b o e)
  refine (h m2 h2 hd2 (PH.le_un_right hd2) (PH.le_un_left _ _) w m1 h1 (fun b o e => hin b o (PH.le_un_left _ _ b o e)) (PH.disj_un_right h12 (PH.disj_mono hd (PH.le_un_left _ _))) (fun b o e => by
    rcases PH.un_some e with e | e
    · exact hin2 b o e
    · exact hF b o e)).mono ?_
  rintro e w' ⟨v, F', H', rfl, hp, hs⟩
  have hle2 : PH.le m2 F' := fun b o e => hs.old b o (PH.le_un_left _ _ b o e)
  have hleF : PH.le F (PH.less F' m2) := fun b o e => by
    unfold PH.less
    have h9 : m2 b = none := PH.disj_symm hd2 b o e
    rw [h9]
    exact hs.old b o (PH.le_un_right hd2 b o e)
  have hless : PH.le (PH.less F' m2) F' := fun b o e => by
    unfold PH.less at e
    split at e
    · cases e
    · exact e
  refine ⟨v, PH.less F' m2, H' ++ Hl, rfl, ⟨H', rfl, hp _ hleF⟩, ⟨hs.os, hs.tape, hs.output, hs.size, ?_, ?_, ?_, hleF, ?_⟩⟩
  · intro b hb hu
    refine hs.same b hb fun hm => hu ?_
    cases hm1 : m1 b with
    | none => exact absurd hm1 hm
    | some o => exact (show PH.un m1 m2 b ≠ none by rw [PH.le_un_left m1 m2 b o hm1]; simp)
  · exact fun b o e => hs.frz b o (hless b o e)
  · intro b o e
    have e' := hless b o e
    rcases hs.grow b o e' with g | g | g
    · rcases PH.un_some g with g | g
      · unfold PH.less at e; rw [g] at e; cases e
      · exact .inl g
    · refine .inr (.inl ?_)
      cases hm1 : m1 b with
      | none => exact absurd hm1 g
      | some o => exact (show PH.un m1 m2 b ≠ none by rw [PH.le_un_left m1 m2 b o hm1]; simp)
    · exact .inr (.inr g)
  · obtain ⟨m', g1, g2, g3, g4⟩ := hs.mem
    have hd' : PH.disj m' m2 := fun b o e => by
      have h9 := g3 b o e
      cases hm : m2 b with
      | none => rfl
      | some o' => rw [hle2 b o' hm] at h9; cases h9
    refine ⟨PH.un m' m2, Sep.append g1 h2 hd', ?_, ?_, ?_⟩
    · intro b o e
      rcases PH.un_some e with e | e
      · exact g2 b o e
      · exact hs.frz b o (hle2 b o e)
    · refine PH.disj_un_left (PH.disj_mono_right g3 hless) fun b o e => ?_
      unfold PH.less
      rw [e]
    · intro b o e
      rcases PH.un_some e with e | e
      · rcases g4 b o e with g | g
        · refine .inl ?_
          cases hm1 : m1 b with
          | none => exact absurd hm1 g
          | some o => exact (show PH.un m1 m2 b ≠ none by rw [PH.le_un_left m1 m2 b o hm1]; simp)
        · exact .inr g
      · exact .inl (show PH.un m1 m2 b ≠ none by rw [PH.le_un_right h12 b o e]; simp)
end
end Go.Sy
