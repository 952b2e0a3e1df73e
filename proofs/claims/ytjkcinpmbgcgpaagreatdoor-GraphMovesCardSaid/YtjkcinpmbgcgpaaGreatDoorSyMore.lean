/- The calculus: more rules: whole structs stored, made slices, arrays, slices appended whole. -/
import Derived.Test.YtjkcinpmbgcgpaaGreatDoorSyRow
import Derived.Laws.MakeOwn
namespace Go.Sy
open Go Go.RowKit
theorem add_add (a : Addr) (x j : Nat) : (a.add x).add j = a.add (x + j) := by
  unfold Addr.add
  by_cases hx : x = 0
  · subst hx; simp
  · by_cases hj : j = 0
    · subst hj; simp
    · simp [hx, hj, Nat.add_assoc]
section
variable {P : Program} {E : Env} {n : Nat} {L L' : List (Nat × Value)} {F F' : PH} {H H' R : List Chunk} {K : Act → World → Prop} {Q : Exit → Act → World → Prop} {ops : Array Oper} {rest : List Oper}
variable {d : Nat} {dd : Option Nat} {ty : TypeId} {pos : String} {aft : Array Edge} {gd : Option (Nat × Bool)} {x y s : Operand} {v u : Value} {t e sz bytes : Nat} {A A' : Option Addr} {k c m c2 : Nat} {xs news : List Value}
/-- All pieces are let go. -/
theorem St.nilH (h : St K E n L F []) : St K E n L F H := fun a w ha hs => h a w ha (Among.of Among.none w hs)
/-- A struct, or an array, is stored whole. -/
theorem St.storen {b off sz : Nat} {cs vs : Array Value} {e : TypeId} (hx : ev L x = some (.pointer (some ⟨b, off, none⟩))) (hy : ev L y = some (.agg vs)) (i : Nat) (hi : H[i]? = some (blk b (.cells cs e (0, 0)))) (hR : H.eraseIdx i = R)
    (ht : aggT P t sz = true) (hvs : Nat.beq vs.size sz = true) (hv : vs.toList.all Value.oneCell' = true) (ho : Nat.ble (off + vs.size) cs.size = true) (hw : Wanted ops ⟨none, .store t x y, ty, pos, aft, gd⟩ L)
    {cs' : Array Value} (hcs : (cs.toList.take off ++ vs.toList ++ cs.toList.drop (off + vs.size)).toArray = cs') (h : St (wpList P ops Q rest) E n L F (blk b (.cells cs' e (0, 0)) :: R)) : St (wpList P ops Q (⟨none, .store t x y, ty, pos, aft, gd⟩ :: rest)) E n L F H :=
  St.pick i hi hR (St.act0 hw rfl fun a w ha hs => by
    have hst := run_storeCells_at (P := P) b off e vs.toList 0 cs w hs.head (by have := Nat.le_of_ble_eq_true ho; simpa using this) (fun u hu => (List.all_eq_true.1 hv) u hu)
    refine ⟨w.setRow b cs', F, _, ?_, hs.set rfl rfl rfl (by simp) (setRow_heap w b cs cs' e (0, 0) hs.head) (fun k hk => setRow_other w b k cs' hk), h⟩
    have h9 : vs.size = sz := Nat.eq_of_beq_eq_true hvs
    simp only [execOp, ha.ev hx, ha.ev hy, Instr.storeAt, Instr.sureAddr, Sem.run_bind, Sem.run_pure, Result.andThen_ok, storeVar, Value.cells, aggT_size ht, h9, ne_eq, not_true_eq_false, if_false]
    simp only [Nat.add_zero, Array.length_toList] at hst
    rw [hcs] at hst
    rw [hst]
    rfl)
theorem madeCells_one (z : Value) (k : Nat) : madeCells #[z] k = Array.replicate k z := by
  unfold madeCells
  apply Array.ext
  · simp
  · intro i h1 h2
    simp [Nat.mod_one]
/-- make of one-cell elements. -/
theorem St.make1 {kl kc : IntKind} {l cc : Int} {z : Value} (hT : slT P t e 1 bytes = true) (hz0 : (P.info? e).bind TypeInfo.zero = some z) (hz1 : z.cells = #[z]) (hx : ev L x = some (.int kl l)) (hy : ev L y = some (.int kc cc)) (h0 : 0 ≤ l) (h1 : l ≤ cc) (hb : cc ≤ 1000000000000) (hby : Nat.ble bytes 200 = true)
    (hdn : Nat.blt d n = true) (hw : Wanted ops ⟨some d, .makeSlice t x y, ty, pos, aft, gd⟩ L)
    (h : ∀ b, St (wpList P ops Q rest) E n ((d, .slice (some ⟨b, 0, none⟩) l.toNat cc.toNat) :: L) F (row (some ⟨b, 0, none⟩) l.toNat cc.toNat e 1 (List.replicate l.toNat z) :: H)) : St (wpList P ops Q (⟨some d, .makeSlice t x y, ty, pos, aft, gd⟩ :: rest)) E n L F H :=
  St.act hw rfl hdn fun a w ha hs => by
    obtain ⟨ti, z', hu, hin, hz', hsz, rfl, hzs⟩ := slT_spec hT
    obtain ⟨ti', hi', hz⟩ := Option.bind_eq_some_iff.1 hz0
    rw [hin] at hi'; cases hi'
    rw [hz] at hz'; cases hz'
    have hbb : (ti.bytes : Int) ≤ 200 := by have := Nat.le_of_ble_eq_true hby; omega
    have hr := run_make (P := P) w t e ti z hu hin hz kl kc l cc h0 h1 (by
      have h2 : (ti.bytes : Int) * cc ≤ 200 * 1000000000000 := Int.mul_le_mul hbb hb (by omega) (by omega)
      omega) (by omega)
    rw [hz1, madeCells_one, hsz, Nat.mul_one] at hr
    refine ⟨_, _, F, _, ?_, (hs.alloc (.cells (Array.replicate cc.toNat z) e)).weak (fun m hm => ?_), h w.heap.size⟩
    · simp only [execOp, ha.ev hx, ha.ev hy, Sem.run_bind, hr, Result.andThen_ok]; rfl
    · refine ⟨by simp, .inr ⟨_, _, rfl, by omega, by unfold maxLen; omega, by simp, ?_, hm⟩⟩
      simp only [Array.toList_replicate, Nat.mul_one, List.take_replicate]
      congr 1; omega
/-- An array's element. -/
def arrT (P : Program) (t len e sz : Nat) : Bool :=
  match P.underlying t, P.info? e with
  | some (.array l e'), some i => Nat.beq l len && Nat.beq e' e && Nat.beq i.size sz
  | _, _ => false
theorem Yields.indexArr {kd : IntKind} {j : Int} {len : Nat} {ad p : Addr} (hT : arrT P t len e sz = true) (hx : ev L x = some (.pointer (some ad))) (hy : ev L y = some (.int kd j)) (h0 : 0 ≤ j) (h1 : j < len) (hp : ad.add (j.toNat * sz) = p) : Yields P E n L F H ⟨dd, .indexAddr t x y, ty, pos, aft, gd⟩ (.pointer (some p)) := fun a w ha _ => by
  subst hp
  unfold arrT at hT
  split at hT
  · rename_i l e' i hu hi
    simp only [Bool.and_eq_true] at hT
    obtain ⟨⟨h2, h3⟩, h4⟩ := hT
    have := Nat.eq_of_beq_eq_true h2; subst this
    have := Nat.eq_of_beq_eq_true h3; subst this
    have := Nat.eq_of_beq_eq_true h4; subst this
    simp [execOp, ha.ev hx, ha.ev hy, Instr.indexAt, asIntOf, underlying, hu, sizeOf, typeInfo, hi, h0, h1, Instr.sureAddr]
  · cases hT
/-- The cells of a row that is read, one behind the other. -/
theorem Slc.cat {α : Type} {D : Kind α} {ad : Addr} {ys : List α} (h : Slc D F (some ad) m ys) : ∃ news, Cat D F news ys ∧ ∀ j u, news[j]? = some u → F.cell? (ad.add j) = some u := by
  have key : ∀ (ys : List α) (o : Nat), (∀ i x, ys[i]? = some x → ∃ cs, D.R F cs x ∧ ∀ j v, cs[j]? = some v → F.cell? (ad.add ((o + i) * D.sz + j)) = some v) → ∃ news, Cat D F news ys ∧ ∀ j u, news[j]? = some u → F.cell? (ad.add (o * D.sz + j)) = some u := by
    intro ys
    induction ys with
    | nil => intro o _; exact ⟨[], rfl, fun j u e => by simp at e⟩
    | cons y ys ih =>
      intro o h
      obtain ⟨cs, h1, h2⟩ := h 0 y rfl
      obtain ⟨news, h3, h4⟩ := ih (o + 1) (fun i x e => by
        obtain ⟨cs, g1, g2⟩ := h (i + 1) x (by simpa using e)
        exact ⟨cs, g1, fun j v e => by have := g2 j v e; rwa [show o + (i + 1) = o + 1 + i by omega] at this⟩)
      refine ⟨cs ++ news, ⟨cs, news, rfl, h1, h3⟩, fun j u e => ?_⟩
      have hl := D.len h1
      by_cases hj : j < cs.length
      · rw [List.getElem?_append_left hj] at e
        exact h2 j u e
      · rw [List.getElem?_append_right (by omega)] at e
        have := h4 _ u e
        rwa [show (o + 1) * D.sz + (j - cs.length) = o * D.sz + j by rw [Nat.succ_mul]; omega] at this
  rcases h.2 with h0 | ⟨ad', hA, h2⟩
  · have : ys = [] := List.eq_nil_of_length_eq_zero (h.1.trans h0)
    subst this
    exact ⟨[], rfl, fun j u e => by simp at e⟩
  · cases hA
    obtain ⟨news, h3, h4⟩ := key ys 0 (fun i x e => by
      obtain ⟨cs, g1, g2⟩ := h2 i x e
      exact ⟨cs, g1, fun j v e => by have := g2 j v e; rwa [add_add, show i * D.sz + j = (0 + i) * D.sz + j by rw [Nat.zero_add]] at this⟩)
    exact ⟨news, h3, fun j u e => by have := h4 j u e; rwa [Nat.zero_mul, Nat.zero_add] at this⟩
theorem Cat.one {α : Type} {D : Kind α} : ∀ {xs : List α} {cs : List Value}, Cat D F cs xs → ∀ u ∈ cs, u.oneCell' = true
  | [], _, h, u, hu => by rw [h] at hu; cases hu
  | _ :: _, _, ⟨c, r, h, h1, h2⟩, u, hu => by
    rw [h] at hu
    rcases List.mem_append.1 hu with hu | hu
    · exact D.one h1 u hu
    · exact Cat.one h2 u hu
theorem Cat.append {α : Type} {D : Kind α} : ∀ {xs ys : List α} {cs ds : List Value}, Cat D F cs xs → Cat D F ds ys → Cat D F (cs ++ ds) (xs ++ ys)
  | [], _, _, _, h, h' => by rw [h]; exact h'
  | _ :: _, _, _, _, ⟨c, r, h, h1, h2⟩, h' => ⟨c, r ++ _, by rw [h, List.append_assoc], h1, Cat.append h2 h'⟩
/-- append(dst, src...), src in the frozen part. -/
theorem St.append_slc {α : Type} {D : Kind α} {B : Option Addr} {ys : List α} (hT : slT P t e sz bytes = true) (hsz : Nat.blt 0 sz = true) (hDs : D.sz = sz) (hx : ev L s = some (.slice A k c)) (hy : ev L y = some (.slice B m c2)) (hS : Slc D F B m ys) (i : Nat) (hi : H[i]? = some (row A k c e sz xs)) (hR : H.eraseIdx i = R)
    (hb : k + m ≤ 1000000000) (hby : Nat.ble bytes 1000 = true)
    (hdn : Nat.blt d n = true) (hw : Wanted ops ⟨some d, .call ⟨.builtin .append, #[s, y], #[t, t]⟩, ty, pos, aft, gd⟩ L)
    (h : ∀ A' c' news, Cat D F news ys → St (wpList P ops Q rest) E n ((d, .slice A' (k + m) c') :: L) F (row A' (k + m) c' e sz (xs ++ news) :: R)) : St (wpList P ops Q (⟨some d, .call ⟨.builtin .append, #[s, y], #[t, t]⟩, ty, pos, aft, gd⟩ :: rest)) E n L F H := by
  cases B with
  | none =>
    have hm : m = 0 := by
      rcases hS.2 with h | ⟨ad, h, _⟩
      · exact h
      · cases h
    subst hm
    have hys : ys = [] := List.eq_nil_of_length_eq_zero hS.1
    subst hys
    have := h A c [] rfl
    rw [List.append_nil, Nat.add_zero] at this
    exact St.append_nil hT hx hy i hi hR hdn hw this
  | some ad =>
    obtain ⟨news, h1, h2⟩ := hS.cat
    refine St.append hT hsz hx hy i hi hR (by rw [h1.length, hS.1, hDs]) (fun w hs j u e => PH.cell?_inW hs.frz (h2 j u e)) h1.one (by unfold maxLen; omega) (Nat.le_trans (Nat.mul_le_mul hb (Nat.le_of_ble_eq_true hby)) (by decide)) hdn hw (fun A' c' => h A' c' news h1)
/-- append(dst, src...), src another row of the call's own. -/
theorem St.append_row {B : Option Addr} {ys : List Value} (hT : slT P t e sz bytes = true) (hsz : Nat.blt 0 sz = true) (hx : ev L s = some (.slice A k c)) (hy : ev L y = some (.slice B m c2)) (i : Nat) (hi : H[i]? = some (row A k c e sz xs)) (hR : H.eraseIdx i = R)
    (i2 : Nat) (hi2 : H[i2]? = some (row B m c2 e sz ys)) (_hne : i2 ≠ i) (hb : k + m ≤ 1000000000) (hby : Nat.ble bytes 1000 = true) (h1 : ∀ u ∈ ys, u.oneCell' = true)
    (hdn : Nat.blt d n = true) (hw : Wanted ops ⟨some d, .call ⟨.builtin .append, #[s, y], #[t, t]⟩, ty, pos, aft, gd⟩ L)
    (h : ∀ A' c', St (wpList P ops Q rest) E n ((d, .slice A' (k + m) c') :: L) F (row A' (k + m) c' e sz (xs ++ ys) :: R)) : St (wpList P ops Q (⟨some d, .call ⟨.builtin .append, #[s, y], #[t, t]⟩, ty, pos, aft, gd⟩ :: rest)) E n L F H := by
  refine St.row_facts i2 hi2 fun hl _ _ => ?_
  cases B with
  | none =>
    intro a w ha hs
    obtain ⟨mm, hm, _⟩ := (hs.perm (perm_erase i2 hi2)).head_sep
    rcases hm.2 with ⟨_, hm0, hc0, _⟩ | ⟨g, cur, hg, _⟩
    · subst hm0
      have hys : ys = [] := List.eq_nil_of_length_eq_zero (by rw [hl]; simp)
      subst hys
      have := h A c
      rw [List.append_nil, Nat.add_zero] at this
      exact St.append_nil hT hx hy i hi hR hdn hw this a w ha hs
    · cases hg
  | some ad =>
    refine St.append hT hsz hx hy i hi hR hl (fun w hs j u e => ?_) h1 (by unfold maxLen; omega) (Nat.le_trans (Nat.mul_le_mul hb (Nat.le_of_ble_eq_true hby)) (by decide)) hdn hw h
    have hs2 := hs.perm (perm_erase i2 hi2)
    obtain ⟨mm, hm, _⟩ := hs2.head_sep
    rcases hm.2 with ⟨hm0, _⟩ | ⟨g, cur, hg, _⟩
    · cases hm0
    · cases hg
      rw [add_off, Nat.zero_add]
      exact row_cell hs2 e
theorem Loads.Fat {t : TypeId} {p : Addr} {cs : List Value} {v : Value} (h : ∀ j v, cs[j]? = some v → F.cell? (p.add j) = some v) (ht : cellT P t = true) (hc : cs[0]? = some v) : Loads P E F H t p v := Loads.F1 ht (by have := h 0 v hc; rwa [add_zero'] at this)
theorem Loads.Fatk {t : TypeId} {p : Addr} {cs : List Value} {v : Value} (k : Nat) (h : ∀ j v, cs[j]? = some v → F.cell? (p.add j) = some v) (ht : cellT P t = true) (hc : cs[k]? = some v) : Loads P E F H t (p.add k) v := Loads.F1 ht (h k v hc)
theorem Loads.Fatn {t : TypeId} {p : Addr} {cs vs : List Value} {sz : Nat} (k : Nat) (h : ∀ j v, cs[j]? = some v → F.cell? (p.add j) = some v) (ht : aggT P t sz = true) (hvs : (cs.drop k).take sz = vs) (hk : vs.length = sz) : Loads P E F H t (p.add k) (.agg vs.toArray) :=
  Loads.Fn (by rw [hk]; exact ht) fun j v e => by
    rw [← hvs, List.getElem?_take] at e
    split at e
    · rw [List.getElem?_drop] at e; rw [add_add]; exact h _ v e
    · cases e
theorem Loads.Fatn0 {t : TypeId} {p : Addr} {cs : List Value} (h : ∀ j v, cs[j]? = some v → F.cell? (p.add j) = some v) (ht : aggT P t cs.length = true) : Loads P E F H t p (.agg cs.toArray) := Loads.Fn ht h
end
end Go.Sy
