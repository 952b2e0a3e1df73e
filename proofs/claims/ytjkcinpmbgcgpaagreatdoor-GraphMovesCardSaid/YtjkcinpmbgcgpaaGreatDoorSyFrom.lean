/- The calculus: rows that begin inside their block (what s[1:] leaves), and append behind them. -/
import Derived.Test.YtjkcinpmbgcgpaaGreatDoorSyIf
namespace Go.Sy
open Go Go.RowKit
/-- A row at an offset of its block. -/
def rowo (A : Option Addr) (k c : Nat) (e : TypeId) (sz : Nat) (xs : List Value) : Chunk := fun m =>
  xs.length = k * sz ∧ ((A = none ∧ k = 0 ∧ c = 0 ∧ m = PH.emp) ∨
    ∃ g o cur, A = some ⟨g, o, none⟩ ∧ k ≤ c ∧ c ≤ maxLen ∧ o + c * sz ≤ cur.size ∧ (cur.toList.drop o).take (k * sz) = xs ∧ m = PH.one g (.cells cur e (0, 0)))
theorem rowo_of_row {A : Option Addr} {k c : Nat} {e : TypeId} {sz : Nat} {xs : List Value} {m : PH} (h : row A k c e sz xs m) : rowo A k c e sz xs m := by
  refine ⟨h.1, ?_⟩
  rcases h.2 with h | ⟨g, cur, rfl, h1, h2, h3, h4, h5⟩
  · exact .inl h
  · exact .inr ⟨g, 0, cur, rfl, h1, h2, by omega, by simpa using h4, h5⟩
/-- The first j elements are let go. -/
theorem rowo_drop {A : Option Addr} {k c : Nat} {e : TypeId} {sz : Nat} {xs : List Value} {m : PH} (j : Nat) (hj : j ≤ k) (h : rowo A k c e sz xs m) :
    rowo (if c = j then A else A.map (·.add (j * sz))) (k - j) (c - j) e sz (xs.drop (j * sz)) m := by
  obtain ⟨hl, h⟩ := h
  refine ⟨by rw [List.length_drop, hl, Nat.sub_mul], ?_⟩
  rcases h with ⟨rfl, rfl, rfl, rfl⟩ | ⟨g, o, cur, rfl, h1, h2, h3, h4, rfl⟩
  · exact .inl ⟨by split <;> rfl, by omega, by omega, rfl⟩
  · by_cases hc : c = j
    · rw [if_pos hc]
      refine .inr ⟨g, o, cur, rfl, by omega, by omega, ?_, ?_, rfl⟩
      · rw [hc, Nat.sub_self, Nat.zero_mul]
        omega
      · have e1 : k - j = 0 := by omega
        rw [e1, Nat.zero_mul, List.take_zero, List.drop_of_length_le]
        rw [hl]; exact Nat.mul_le_mul_right _ (by omega)
    · rw [if_neg hc]
      have e2 : c * sz = j * sz + (c - j) * sz := by rw [← Nat.add_mul]; congr 1; omega
      have e3 : k * sz = j * sz + (k - j) * sz := by rw [← Nat.add_mul]; congr 1; omega
      refine .inr ⟨g, o + j * sz, cur, by simp [add_off], by omega, by omega, by omega, ?_, rfl⟩
      rw [← h4, List.drop_take, List.drop_drop, e3, Nat.add_sub_cancel_left]
section
variable {P : Program} {E : Env} {n : Nat} {L L' : List (Nat × Value)} {F F' : PH} {H H' R : List Chunk} {K : Act → World → Prop} {Q : Exit → Act → World → Prop} {ops : Array Oper} {rest : List Oper}
theorem run_append_roomo (w : World) (t ty e : TypeId) (i : TypeInfo) (ht : P.underlying t = some (.slice e)) (hi : P.info? e = some i)
    (g o sLen sCap : Nat) (cur : Array Value) (hg : w.heap[g]? = some (.cells cur e (0, 0)))
    (a : Addr) (m c : Nat) (news : List Value) (hl : news.length = m * i.size) (hnews : ∀ j u, news[j]? = some u → w.cell? (a.add j) = some u) (h1 : ∀ u ∈ news, u.oneCell' = true)
    (hroom : sLen + m ≤ sCap) (hfit : o + sLen * i.size + news.length ≤ cur.size) :
    (Builtin.append_ #[t, t] ty #[.slice (some ⟨g, o, none⟩) sLen sCap, .slice (some a) m c]).run P w =
      .ok (.slice (some ⟨g, o, none⟩) (sLen + m) sCap) (w.setRow g (cur.toList.take (o + sLen * i.size) ++ news ++ cur.toList.drop (o + sLen * i.size + news.length)).toArray) := by
  have hf := run_firstCells_some (P := P) w i.size m a m c news hl hnews
  have hst := run_storeCells_at P g (o + sLen * i.size) e news 0 cur w hg (by simpa using hfit) h1
  simp only [Nat.add_zero] at hst
  simp [Builtin.append_, run_underlying ht, sizeOf, typeInfo, hi, Builtin.lenOf, hroom, hf, add_off, hst]
variable {d : Nat} {ty : TypeId} {pos : String} {aft : Array Edge} {gd : Option (Nat × Bool)} {x y s : Operand} {t e sz bytes : Nat} {A : Option Addr} {k c m c2 : Nat} {xs news : List Value}
theorem Sat.appendo {w : World} (hT : slT P t e sz bytes = true) (hsz : 0 < sz) (hs : Sat E F (rowo A k c e sz xs :: H) w) {ad : Addr} (hl : news.length = m * sz) (hnews : ∀ j u, news[j]? = some u → w.cell? (ad.add j) = some u) (h1 : ∀ u ∈ news, u.oneCell' = true) (hm : 0 < m) (h63 : k + m ≤ maxLen) (hb : (k + m) * bytes ≤ 140737488355328) :
    ∃ A' c' w', (Builtin.append_ #[t, t] ty #[.slice A k c, .slice (some ad) m c2]).run P w = .ok (.slice A' (k + m) c') w' ∧ Sat E F (rowo A' (k + m) c' e sz (xs ++ news) :: H) w' := by
  obtain ⟨ti, z, hu, hin, hz, rfl, rfl, hzs⟩ := slT_spec hT
  have hsmall : k + m ≤ 9223372036854775807 := by simp only [maxLen] at h63; omega
  obtain ⟨mm, ⟨m1, m2, ⟨hxl, hrow⟩, g2, g12, rfl⟩, hin', hd', hu'⟩ := hs.mem
  have hlen : (xs ++ news).length = (k + m) * ti.size := by rw [List.length_append, hxl, hl, Nat.add_mul]
  have grown : ∀ (old : Nat), old < k + m → ∀ w2, w2 = w.drew.alloc (.cells (xs.toArray ++ news.toArray ++ Builtin.zeroCells z.cells (grownCap w (k + m) old e - (k + m))) e) → Sat E F (rowo (some ⟨w.heap.size, 0, none⟩) (k + m) (grownCap w (k + m) old e) e ti.size (xs ++ news) :: H) w2 := by
    rintro old ho w2 rfl
    have hge := grownCap_ge w (k + m) old e
    have hcm : grownCap w (k + m) old e ≤ maxLen := grownCap_le_maxLen w (k + m) old e h63
    refine (hs.weaken.drew.alloc _).weak (fun m' hm' => ⟨hlen, .inr ⟨w.heap.size, 0, _, rfl, hge, hcm, ?_, ?_, hm'⟩⟩)
    · simp only [Array.size_append, List.size_toArray, size_zeroCells, hzs, hxl, hl, ← Nat.add_mul, Nat.zero_add]
      refine Nat.le_of_eq ?_
      congr 1
      omega
    · simp only [Array.toList_append, List.append_assoc, List.drop_zero]
      rw [← List.append_assoc, ← hlen]
      exact List.take_left
  rcases hrow with ⟨rfl, rfl, rfl, _⟩ | ⟨g, o, cur, rfl, h2, h3, h4, h5, h6⟩
  · have hx : xs = [] := List.eq_nil_of_length_eq_zero (by simpa using hxl)
    subst hx
    have hr := run_append_nil (P := P) w t ty e ti z hu hin hz ad m c2 news hl hnews hm (by omega) (by simp only [Nat.zero_add] at hb; omega)
    refine ⟨_, _, _, by rw [Nat.zero_add]; exact hr, ?_⟩
    have := grown 0 (by omega) _ rfl
    simpa using this
  · have hs' : Sat E F (blk g (.cells cur e (0, 0)) :: H) w := hs.mk' ⟨_, ⟨m1, m2, h6, g2, g12, rfl⟩, hin', hd', hu'⟩
    by_cases hroom : k + m ≤ c
    · have e1 : (k + m) * ti.size ≤ c * ti.size := Nat.mul_le_mul_right _ hroom
      rw [Nat.add_mul] at e1
      have hr := run_append_roomo (P := P) w t ty e ti hu hin g o k c cur hs'.head ad m c2 news hl hnews h1 hroom (by rw [hl]; omega)
      refine ⟨_, _, _, hr, (hs'.set (w' := w.setRow g (cur.toList.take (o + k * ti.size) ++ news ++ cur.toList.drop (o + k * ti.size + news.length)).toArray) (o' := .cells (cur.toList.take (o + k * ti.size) ++ news ++ cur.toList.drop (o + k * ti.size + news.length)).toArray e (0, 0)) rfl rfl rfl (by simp) (setRow_heap w g cur _ e (0, 0) hs'.head) (fun j hj => setRow_other w g j _ hj)).weak (fun m' hm' => ⟨hlen, .inr ⟨g, o, _, rfl, hroom, h3, ?_, ?_, hm'⟩⟩)⟩
      · simp [hl]; omega
      · rw [hlen.symm, ← h5]
        simp only [List.append_assoc]
        rw [List.drop_append_of_le_length (by simp; omega), List.drop_take, Nat.add_sub_cancel_left, ← List.append_assoc]
        exact List.take_left
    · have holds : ∀ j u, xs[j]? = some u → w.cell? ((⟨g, o, none⟩ : Addr).add j) = some u := by
        intro j u hj
        rw [add_off, cell_of_block hs'.head]
        rw [← h5, List.getElem?_take] at hj
        split at hj
        · rw [List.getElem?_drop] at hj; simpa using hj
        · cases hj
      have hr := run_append_grow (P := P) w t ty e ti z hu hin hz ⟨g, o, none⟩ k c xs hxl holds ad m c2 news hl hnews (by omega) (by omega) (growslice_fits (by omega) hb)
      exact ⟨_, _, _, hr, grown c (by omega) _ rfl⟩
end
end Go.Sy
namespace Go.Sy
open Go Go.RowKit
section
variable {P : Program} {E : Env} {n : Nat} {L L' : List (Nat × Value)} {F F' : PH} {H H' R : List Chunk} {K : Act → World → Prop} {Q : Exit → Act → World → Prop} {ops : Array Oper} {rest : List Oper}
variable {d : Nat} {ty : TypeId} {pos : String} {aft : Array Edge} {gd : Option (Nat × Bool)} {x y s : Operand} {t e sz bytes : Nat} {A : Option Addr} {k c m c2 : Nat} {xs : List Value}
theorem St.appendo_lit (hT : slT P t e sz bytes = true) (hsz : Nat.blt 0 sz = true) (hx : ev L s = some (.slice A k c)) {b : Nat} {cs : Array Value} {e' : TypeId} (hy : ev L y = some (.slice (some ⟨b, 0, none⟩) m c2)) (i : Nat) (hi : H[i]? = some (rowo A k c e sz xs)) (hR : H.eraseIdx i = R)
    (i2 : Nat) (hi2 : H[i2]? = some (blk b (.cells cs e' (0, 0)))) (hl : Nat.beq cs.toList.length (m * sz) = true) (h1 : cs.toList.all Value.oneCell' = true) (hm : Nat.blt 0 m = true) (hb : k + m ≤ 1000000000) (hby : Nat.ble bytes 1000 = true)
    (hdn : Nat.blt d n = true) (hw : Wanted ops ⟨some d, .call ⟨.builtin .append, #[s, y], #[t, t]⟩, ty, pos, aft, gd⟩ L)
    (h : ∀ A' c', St (wpList P ops Q rest) E n ((d, .slice A' (k + m) c') :: L) F (rowo A' (k + m) c' e sz (xs ++ cs.toList) :: R)) : St (wpList P ops Q (⟨some d, .call ⟨.builtin .append, #[s, y], #[t, t]⟩, ty, pos, aft, gd⟩ :: rest)) E n L F H :=
  St.act hw rfl hdn fun a w ha hs => by
    have hs1 : Sat E F (rowo A k c e sz xs :: R) w := hs.perm (by subst hR; exact perm_erase i hi)
    obtain ⟨A', c', w', hr, hs2⟩ := Sat.appendo (ty := ty) (c2 := c2) hT (by rwa [Nat.blt_eq] at hsz) hs1 (Nat.eq_of_beq_eq_true hl) (news_blk (hs.at hi2)) (fun u hu => (List.all_eq_true.1 h1) u hu) (by rwa [Nat.blt_eq] at hm) (by unfold maxLen; omega) (Nat.le_trans (Nat.mul_le_mul hb (Nat.le_of_ble_eq_true hby)) (by decide))
    refine ⟨_, w', F, _, ?_, hs2, h A' c'⟩
    simp only [execOp, resolve, ev2 ha hx hy, Sem.run_bind, Sem.run_pure, Result.andThen_ok, Go.invoke, Go.builtin, hr]
theorem rowo_head {w : World} (hs : Sat E F (rowo A k c e sz xs :: H) w) (hk : 0 < k) : ∃ g o, A = some ⟨g, o, none⟩ ∧ ∀ j u, xs[j]? = some u → w.cell? ⟨g, o + j, none⟩ = some u := by
  obtain ⟨mm, ⟨m1, m2, ⟨hxl, hrow⟩, g2, g12, rfl⟩, hin', hd', hu'⟩ := hs.mem
  rcases hrow with ⟨_, h, _⟩ | ⟨g, o, cur, rfl, h2, h3, h4, h5, h6⟩
  · omega
  · have hb : w.heap[g]? = some (.cells cur e (0, 0)) := hin' g _ (PH.le_un_left _ _ _ _ (by rw [h6]; exact PH.one_same _ _))
    refine ⟨g, o, rfl, fun j u hj => ?_⟩
    rw [cell_of_block hb]
    rw [← h5, List.getElem?_take] at hj
    split at hj
    · rw [List.getElem?_drop] at hj; simpa using hj
    · cases hj
theorem St.rowo_some (i : Nat) (hi : H[i]? = some (rowo A k c e sz xs)) (hk : 0 < k) (h : ∀ g o, A = some ⟨g, o, none⟩ → St K E n L F H) : St K E n L F H := fun a w ha hs => by
  obtain ⟨g, o, hg, _⟩ := rowo_head (hs.perm (perm_erase i hi)) hk
  exact h g o hg a w ha hs
theorem St.rowo_facts (i : Nat) (hi : H[i]? = some (rowo A k c e sz xs)) (h : xs.length = k * sz → k ≤ c → c ≤ maxLen → St K E n L F H) : St K E n L F H := fun a w ha hs => by
  obtain ⟨m, hm, _⟩ := (hs.perm (perm_erase i hi)).head_sep
  rcases hm.2 with ⟨rfl, rfl, rfl, _⟩ | ⟨g, o, cur, rfl, h1, h2, _⟩
  · exact h hm.1 (Nat.le_refl _) (Nat.zero_le _) a w ha hs
  · exact h hm.1 h1 h2 a w ha hs
theorem Loads.rowon {g o off : Nat} (i : Nat) (hi : H[i]? = some (rowo (some ⟨g, o, none⟩) k c e sz xs)) (hk : 0 < k) {us : List Value} (ht : aggT P t us.length = true) (hu : ∀ j u, us[j]? = some u → xs[off + j]? = some u) : Loads P E F H t ⟨g, o + off, none⟩ (.agg us.toArray) :=
  .agg_of ht fun _ hs j v e => by
    obtain ⟨g', o', hg, h⟩ := rowo_head (hs.perm (perm_erase i hi)) hk
    cases hg
    rw [add_off, Nat.add_assoc]
    exact h _ _ (hu j v e)
end
end Go.Sy
namespace Go.Sy
open Go Go.RowKit
section
variable {P : Program} {E : Env} {n : Nat} {L L' : List (Nat × Value)} {F F' : PH} {H H' R : List Chunk} {K : Act → World → Prop} {Q : Exit → Act → World → Prop} {ops : Array Oper} {rest : List Oper}
variable {d : Nat} {ty : TypeId} {pos : String} {aft : Array Edge} {gd : Option (Nat × Bool)} {x y s : Operand} {t e sz bytes : Nat} {A : Option Addr} {k c : Nat} {xs : List Value}
theorem St.rowo_from {kd : IntKind} {q : Int} (j : Nat) (hT : slT P t e sz bytes = true) (hx : ev L s = some (.slice A k c)) (hy : ev L y = some (.int kd q)) (hq : q = (j : Int)) (i : Nat) (hi : H[i]? = some (rowo A k c e sz xs)) (hR : H.eraseIdx i = R) (hj : j ≤ k)
    (hdn : Nat.blt d n = true) (hw : Wanted ops ⟨some d, .slice t s (some y) none none, ty, pos, aft, gd⟩ L)
    (h : ∀ A' c', St (wpList P ops Q rest) E n ((d, .slice A' (k - j) c') :: L) F (rowo A' (k - j) c' e sz (xs.drop (j * sz)) :: R)) : St (wpList P ops Q (⟨some d, .slice t s (some y) none none, ty, pos, aft, gd⟩ :: rest)) E n L F H := by
  subst hq
  refine St.val (Yields.sliceFrom hT hx hy (by omega) (by omega)) hw rfl hdn ?_
  rw [Int.toNat_natCast]
  exact St.pick i hi hR fun a w ha hs => h _ _ a w ha (hs.weak fun m hm => rowo_drop j hj hm)
end
end Go.Sy
