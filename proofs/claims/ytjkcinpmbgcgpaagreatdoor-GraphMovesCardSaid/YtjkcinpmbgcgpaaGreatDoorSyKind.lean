/- The calculus: kinds of data that hold data of their own kind. -/
import Derived.Test.YtjkcinpmbgcgpaaGreatDoorSyMir2
namespace Go.Sy
open Go Go.RowKit Go.Mir
theorem Slc.up {α : Type} {K K' : Kind α} {F : PH} {A : Option Addr} {k : Nat} {xs : List α} (h : Slc K F A k xs) (hK : ∀ {cs x}, K.R F cs x → K'.R F cs x) (hsz : K.sz = K'.sz) : Slc K' F A k xs := by
  refine ⟨h.1, ?_⟩
  rcases h.2 with h0 | ⟨ad, hA, h2⟩
  · exact .inl h0
  · refine .inr ⟨ad, hA, fun i x e => ?_⟩
    obtain ⟨cs, g1, g2⟩ := h2 i x e
    exact ⟨cs, hK g1, by rw [← hsz]; exact g2⟩
theorem Fsl.up {α : Type} {b : Nat} {K K' : Kind α} {F : PH} {A : Option Addr} {c : Nat} {xs : List α} (h : Fsl b K F A c xs) (hK : ∀ {cs x}, K.R F cs x → K'.R F cs x) (hsz : K.sz = K'.sz) : Fsl b K' F A c xs := ⟨h.slc.up hK hsz, h.cap, h.bnd⟩
def Kind.no {α : Type} (sz : Nat) : Kind α where
  sz := sz
  R := fun _ _ _ => False
  len := fun h => h.elim
  mono := fun _ h => h.elim
  one := fun h => h.elim
def Kind.lim {α : Type} (C : Nat → Kind α) (sz : Nat) (hsz : ∀ n, (C n).sz = sz) : Kind α where
  sz := sz
  R := fun F cs x => ∃ n, (C n).R F cs x
  len := fun ⟨n, h⟩ => ((C n).len h).trans (hsz n)
  mono := fun hl ⟨n, h⟩ => ⟨n, (C n).mono hl h⟩
  one := fun ⟨n, h⟩ => (C n).one h
theorem Kind.up_le {α : Type} {C : Nat → Kind α} (hm : ∀ n F cs x, (C n).R F cs x → (C (n + 1)).R F cs x) {n m : Nat} (h : n ≤ m) {F : PH} {cs : List Value} {x : α} (hx : (C n).R F cs x) : (C m).R F cs x := by
  obtain ⟨d, rfl⟩ := Nat.le.dest h
  clear h
  induction d with
  | zero => exact hx
  | succ d ih => exact hm _ _ _ _ ih
theorem Fsl.lim {α : Type} {b : Nat} {C : Nat → Kind α} {sz : Nat} {hsz : ∀ n, (C n).sz = sz} (hm : ∀ n F cs x, (C n).R F cs x → (C (n + 1)).R F cs x) {F : PH} {A : Option Addr} {c : Nat} {xs : List α} (h : Fsl b (Kind.lim C sz hsz) F A c xs) : ∃ n, Fsl b (C n) F A c xs := by
  rcases h.slc.2 with h0 | ⟨ad, hA, h2⟩
  · exact ⟨0, ⟨h.slc.1, .inl h0⟩, h.cap, h.bnd⟩
  · have key : ∀ k, k ≤ xs.length → ∃ n, ∀ i x, i < k → xs[i]? = some x → ∃ cs, (C n).R F cs x ∧ ∀ j v, cs[j]? = some v → F.cell? ((ad.add (i * sz)).add j) = some v := by
      intro k
      induction k with
      | zero => exact fun _ => ⟨0, fun i x h => by omega⟩
      | succ k ih =>
        intro hk
        obtain ⟨n, hn⟩ := ih (by omega)
        obtain ⟨cs, ⟨m, hm1⟩, g2⟩ := h2 k xs[k] (List.getElem?_eq_getElem (by omega))
        refine ⟨max n m, fun i x hi e => ?_⟩
        by_cases hik : i = k
        · subst hik
          rw [List.getElem?_eq_getElem (by omega)] at e
          cases e
          exact ⟨cs, Kind.up_le hm (Nat.le_max_right _ _) hm1, g2⟩
        · obtain ⟨cs, g1, g2⟩ := hn i x (by omega) e
          exact ⟨cs, Kind.up_le hm (Nat.le_max_left _ _) g1, g2⟩
    obtain ⟨n, hn⟩ := key xs.length (Nat.le_refl _)
    refine ⟨n, ⟨h.slc.1, .inr ⟨ad, hA, fun i x e => ?_⟩⟩, h.cap, h.bnd⟩
    obtain ⟨cs, g1, g2⟩ := hn i x (List.getElem?_eq_some_iff.1 e).1 e
    exact ⟨cs, g1, by rw [hsz]; exact g2⟩
/-- Arrays. -/
def Kind.arr {α : Type} (n : Nat) (K : Kind α) : Kind (List α) where
  sz := n * K.sz
  R := fun F cs xs => xs.length = n ∧ Cat K F cs xs
  len := fun ⟨h1, h2⟩ => by rw [h2.length, h1]
  mono := fun hl ⟨h1, h2⟩ => ⟨h1, h2.mono hl⟩
  one := fun ⟨_, h2⟩ => h2.one
theorem arr_set {α : Type} {n : Nat} {D : Kind α} {F : PH} {v : Value} {x x' : List α} {i : Int} {y : α} (hD : D.sz = 1) (hR : D.R F [v] y) (hy : Mir.upd x i y = some x') : ∀ cs, (Kind.arr n D).R F cs x → (Kind.arr n D).R F (cs.set (i.toNat * 1) v) x' := fun cs ⟨h1, h2⟩ => by
  obtain ⟨⟨h3, h4⟩, rfl⟩ := upd_some hy
  exact ⟨by rw [List.length_set]; exact h1, Cat.put1 hD hR h2 (by omega)⟩
section
variable {P : Program} {E : Env} {n : Nat} {L L' : List (Nat × Value)} {F F' : PH} {H H' R : List Chunk} {K : Act → World → Prop} {Q : Exit → Act → World → Prop} {ops : Array Oper} {rest : List Oper}
variable {d : Nat} {dd : Option Nat} {ty : TypeId} {pos : String} {aft : Array Edge} {gd : Option (Nat × Bool)} {x y s : Operand} {v u : Value} {t e sz bytes : Nat} {A A' : Option Addr} {k c m c2 : Nat} {cells : List Value}
/-- A cell of an array that is an element of a row. -/
theorem St.putKa {α : Type} {nn : Nat} {D : Kind α} {xs zs : List (List α)} {i j : Int} {x0 x1 : List α} {yy : α} {t : TypeId} (hx0 : Mir.idx xs j = some x0) (hy0 : Mir.upd x0 i yy = some x1) (hz : Mir.upd xs j x1 = some zs) (hC : Cat (Kind.arr nn D) F cells xs) (hD : D.sz = 1) (hR0 : D.R F [v] yy) (hx : ev L x = some (.pointer (some ⟨bk A, bo A + (j.toNat * nn + i.toNat * 1), none⟩))) (hy : ev L y = some v) (q : Nat) (hi : H[q]? = some (rowo A xs.length c e nn cells)) (hR : H.eraseIdx q = R)
    (ht : cellT P t = true) (hv : v.oneCell' = true) (hw : Wanted ops ⟨none, .store t x y, ty, pos, aft, gd⟩ L)
    (h : ∀ cells', Cat (Kind.arr nn D) F cells' zs → St (wpList P ops Q rest) E n L F (rowo A xs.length c e nn cells' :: R)) : St (wpList P ops Q (⟨none, .store t x y, ty, pos, aft, gd⟩ :: rest)) E n L F H := by
  obtain ⟨⟨h0, h1⟩, rfl⟩ := upd_some hz
  obtain ⟨⟨g0, g1⟩, g2⟩ := upd_some hy0
  have hs : (Kind.arr nn D).sz = nn := by show nn * D.sz = nn; rw [hD, Nat.mul_one]
  obtain ⟨cs0, hR1, _⟩ := (Cat.idx hC hx0).2.2
  have hl0 : x0.length = nn := hR1.1
  have hl := hC.length
  rw [hs] at hl
  have hlt : (j.toNat + 1) * nn ≤ xs.length * nn := Nat.mul_le_mul_right _ (by omega)
  rw [Nat.succ_mul] at hlt
  have := Cat.putf (fo := i.toNat * 1) (by rw [hs]; omega) hC (idx_some hx0).2 (arr_set hD hR0 hy0)
  rw [hs] at this
  exact St.putA hx hy q hi hR ht hv (by omega) hw (h _ this)
/-- An array is stored whole into its variable. -/
theorem St.storeArr {α : Type} {D : Kind α} {xs : List α} {b nn : Nat} {cs : Array Value} {vs : List Value} {e : TypeId} (hC : Cat D F vs xs) (hl : xs.length = nn) (hD : D.sz = 1) (hx : ev L x = some (.pointer (some ⟨b, 0, none⟩))) (hy : ev L y = some (.agg vs.toArray)) (i : Nat) (hi : H[i]? = some (blk b (.cells cs e (0, 0)))) (hR : H.eraseIdx i = R)
    (ht : aggT P t nn = true) (hcs : Nat.beq cs.size nn = true) (hm : Nat.ble nn 1000000 = true) (hw : Wanted ops ⟨none, .store t x y, ty, pos, aft, gd⟩ L)
    (h : St (wpList P ops Q rest) E n L F (rowo (some ⟨b, 0, none⟩) xs.length nn e 1 vs :: R)) : St (wpList P ops Q (⟨none, .store t x y, ty, pos, aft, gd⟩ :: rest)) E n L F H :=
  St.pick i hi hR (St.act0 hw rfl fun a w ha hs => by
    have hcs' := Nat.eq_of_beq_eq_true hcs
    have hvl : vs.length = nn := by rw [hC.length, hl, hD, Nat.mul_one]
    have hst := run_storeCells_at (P := P) b 0 e vs 0 cs w hs.head (by omega) hC.one
    simp only [Nat.add_zero, List.take_zero, List.nil_append, Nat.zero_add] at hst
    refine ⟨w.setRow b (vs ++ cs.toList.drop vs.length).toArray, F, _, ?_, (hs.set (w' := w.setRow b (vs ++ cs.toList.drop vs.length).toArray) (o' := .cells (vs ++ cs.toList.drop vs.length).toArray e (0, 0)) rfl rfl rfl (by simp) (setRow_heap w b cs _ e (0, 0) hs.head) (fun k hk => setRow_other w b k _ hk)).weak (fun m' hm' => ⟨by rw [hvl, hl, Nat.mul_one], .inr ⟨b, 0, _, rfl, by omega, by have := Nat.le_of_ble_eq_true hm; unfold maxLen; omega, ?_, ?_, hm'⟩⟩), h⟩
    · simp only [execOp, ha.ev hx, ha.ev hy, Instr.storeAt, Instr.sureAddr, Sem.run_bind, Sem.run_pure, Result.andThen_ok, storeVar, Value.cells, aggT_size ht, List.size_toArray, hvl, ne_eq, not_true_eq_false, if_false]
      rw [hvl] at hst
      rw [hst]
      rfl
    · simp; omega
    · simp only [List.drop_zero, Nat.mul_one]
      rw [hl, ← hvl, List.take_left])
end
end Go.Sy
