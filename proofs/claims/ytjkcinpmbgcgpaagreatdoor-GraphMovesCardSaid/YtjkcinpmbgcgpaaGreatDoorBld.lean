/- Appending a text to bytes. -/
import Derived.Test.YtjkcinpmbgcgpaaGreatDoorSyRange
namespace Go.Sy
open Go Go.RowKit Go.Mir
set_option linter.unusedVariables false
def byteVs (l : List UInt8) : List Value := l.map fun b => Value.int .u8 ((b.toNat : Nat) : Int)
theorem byteVs_len (l : List UInt8) : (byteVs l).length = l.length := List.length_map _
section
variable {P : Program} {E : Env} {n : Nat} {L L' : List (Nat × Value)} {F F' : PH} {H H' R : List Chunk} {K : Act → World → Prop} {Q : Exit → Act → World → Prop} {ops : Array Oper} {rest : List Oper}
theorem run_first_str (w : World) (l : List UInt8) (sz : Nat) : (Builtin.firstCells sz l.length (.string (bs l))).run P w = .ok (byteVs l).toArray w := by
  simp only [Builtin.firstCells, Sem.run_pure]
  congr 1
  have h : (bs l).extract 0 l.length = bs l := by
    rw [bs_extract, List.drop_zero, List.take_length]
  rw [h]
  apply Array.ext'
  simp [byteVs, bs]
theorem run_append_roomS (w : World) (t u ty e : TypeId) (i : TypeInfo) (ht : P.underlying t = some (.slice e)) (hu : P.underlying u = some .string) (hi : P.info? e = some i) (hsz : i.size = 1)
    (g o sLen sCap : Nat) (cur : Array Value) (hg : w.heap[g]? = some (.cells cur e (0, 0))) (l : List UInt8)
    (hroom : sLen + l.length ≤ sCap) (hfit : o + sLen + l.length ≤ cur.size) :
    (Builtin.append_ #[t, u] ty #[.slice (some ⟨g, o, none⟩) sLen sCap, .string (bs l)]).run P w =
      .ok (.slice (some ⟨g, o, none⟩) (sLen + l.length) sCap) (w.setRow g (cur.toList.take (o + sLen) ++ byteVs l ++ cur.toList.drop (o + sLen + l.length)).toArray) := by
  have hf := run_first_str (P := P) w l i.size
  have hst := run_storeCells_at P g (o + sLen) e (byteVs l) 0 cur w hg (by rw [byteVs_len]; simpa using hfit) (fun v hv => by obtain ⟨b, _, rfl⟩ := List.mem_map.1 hv; rfl)
  simp only [Nat.add_zero, byteVs_len] at hst
  rw [hsz] at hf
  simp [Builtin.append_, run_underlying ht, run_underlying hu, sizeOf, typeInfo, hi, hsz, Builtin.lenOf, bs_size, hroom, hf, add_off, hst]
theorem run_append_nilS (w : World) (t u ty e : TypeId) (i : TypeInfo) (z : Value) (ht : P.underlying t = some (.slice e)) (hu : P.underlying u = some .string) (hi : P.info? e = some i) (hz : i.zero = some z) (l : List UInt8)
    (h0 : 0 < l.length) (h63 : (l.length : Int) ≤ 9223372036854775807) (h48 : l.length * i.bytes ≤ 281474976710656) :
    (Builtin.append_ #[t, u] ty #[.slice none 0 0, .string (bs l)]).run P w =
      .ok (.slice (some ⟨w.heap.size, 0, none⟩) l.length (grownCap w l.length 0 e)) (w.drew.alloc (.cells ((byteVs l).toArray ++ Builtin.zeroCells z.cells (grownCap w l.length 0 e - l.length)) e)) := by
  have hn : l ≠ [] := fun h => by subst h; simp at h0
  have h63' : ¬ (9223372036854775807 < (l.length : Int)) := by omega
  have h48' : ¬ (281474976710656 < Builtin.nextslicecap l.length 0 * i.bytes) := by rw [nextslicecap_zero h0]; omega
  have hf := run_first_str (P := P) w.drew l i.size
  simp [Builtin.append_, run_underlying ht, run_underlying hu, sizeOf, typeInfo, zeroValue, hi, hz, Builtin.lenOf, bs_size, hn, h63', h48', Question.forced, run_firstCells_none, hf, newRow, grownCap]
theorem run_append_growS (w : World) (t u ty e : TypeId) (i : TypeInfo) (z : Value) (ht : P.underlying t = some (.slice e)) (hu : P.underlying u = some .string) (hi : P.info? e = some i) (hz : i.zero = some z)
    (b : Addr) (sLen sCap : Nat) (olds : List Value) (hlo : olds.length = sLen * i.size) (holds : ∀ j v, olds[j]? = some v → w.cell? (b.add j) = some v) (l : List UInt8)
    (hg : sCap < sLen + l.length) (h63 : ((sLen + l.length : Nat) : Int) ≤ 9223372036854775807) (hfit : Builtin.nextslicecap (sLen + l.length) sCap * i.bytes ≤ 281474976710656) :
    (Builtin.append_ #[t, u] ty #[.slice (some b) sLen sCap, .string (bs l)]).run P w =
      .ok (.slice (some ⟨w.heap.size, 0, none⟩) (sLen + l.length) (grownCap w (sLen + l.length) sCap e))
        (w.drew.alloc (.cells (olds.toArray ++ (byteVs l).toArray ++ Builtin.zeroCells z.cells (grownCap w (sLen + l.length) sCap e - (sLen + l.length))) e)) := by
  have hn : ¬ (sLen + l.length ≤ sCap) := by omega
  have h63' : ¬ (9223372036854775807 < ((sLen : Int) + (l.length : Int))) := by omega
  have h48' : ¬ (281474976710656 < Builtin.nextslicecap (sLen + l.length) sCap * i.bytes) := by omega
  have hf := run_first_str (P := P) w.drew l i.size
  have hfo := run_firstCells_some (P := P) w.drew i.size sLen b sLen sCap olds hlo (by simpa using holds)
  simp [Builtin.append_, run_underlying ht, run_underlying hu, sizeOf, typeInfo, zeroValue, hi, hz, Builtin.lenOf, bs_size, hn, h63', h48', Question.forced, hf, hfo, newRow, grownCap]
  congr 2
  apply Array.ext'
  simp [List.append_assoc]
variable {d : Nat} {ty : TypeId} {pos : String} {aft : Array Edge} {gd : Option (Nat × Bool)} {x y s : Operand} {t u e sz bytes : Nat} {A : Option Addr} {k c m c2 : Nat} {xs news : List Value}
theorem Sat.appendS {w : World} (hT : slT P t e 1 bytes = true) (hU : P.underlying u = some .string) (hs : Sat E F (row A k c e 1 xs :: H) w) (l : List UInt8) (hm : 0 < l.length) (h63 : k + l.length ≤ maxLen) (hb : (k + l.length) * bytes ≤ 140737488355328) :
    ∃ A' c' w', (Builtin.append_ #[t, u] ty #[.slice A k c, .string (bs l)]).run P w = .ok (.slice A' (k + l.length) c') w' ∧ Sat E F (row A' (k + l.length) c' e 1 (xs ++ byteVs l) :: H) w' := by
  obtain ⟨ti, z, hu, hin, hz, hsz1, rfl, hzs⟩ := slT_spec hT
  have hl := byteVs_len l
  have hsmall : k + l.length ≤ 9223372036854775807 := by simp only [maxLen] at h63; omega
  obtain ⟨mm, ⟨m1, m2, ⟨hxl, hrow⟩, g2, g12, rfl⟩, hin', hd', hu'⟩ := hs.mem
  have hlen : (xs ++ byteVs l).length = (k + l.length) * 1 := by rw [List.length_append, hxl, hl]; omega
  have grown : ∀ (old : Nat), old < k + l.length → ∀ w2, w2 = w.drew.alloc (.cells (xs.toArray ++ (byteVs l).toArray ++ Builtin.zeroCells z.cells (grownCap w (k + l.length) old e - (k + l.length))) e) → Sat E F (row (some ⟨w.heap.size, 0, none⟩) (k + l.length) (grownCap w (k + l.length) old e) e 1 (xs ++ byteVs l) :: H) w2 := by
    rintro old ho w2 rfl
    have hge := grownCap_ge w (k + l.length) old e
    have hcm : grownCap w (k + l.length) old e ≤ maxLen := grownCap_le_maxLen w (k + l.length) old e h63
    refine (hs.weaken.drew.alloc _).weak (fun m' hm' => ⟨hlen, .inr ⟨w.heap.size, _, rfl, hge, hcm, ?_, ?_, hm'⟩⟩)
    · simp only [Array.size_append, List.size_toArray, size_zeroCells, hzs, hxl, hl, Nat.mul_one]
      omega
    · simp only [Array.toList_append, List.append_assoc]
      rw [← List.append_assoc, ← hlen]
      exact List.take_left
  rcases hrow with ⟨rfl, rfl, rfl, _⟩ | ⟨g, cur, rfl, h2, h3, h4, h5, h6⟩
  · have hx : xs = [] := List.eq_nil_of_length_eq_zero (by simpa using hxl)
    subst hx
    have hr := run_append_nilS (P := P) w t u ty e ti z hu hU hin hz l hm (by omega) (by simp only [Nat.zero_add] at hb; omega)
    refine ⟨_, _, _, by rw [Nat.zero_add]; exact hr, ?_⟩
    have := grown 0 (by omega) _ rfl
    simpa using this
  · have hs' : Sat E F (blk g (.cells cur e (0, 0)) :: H) w := hs.mk' ⟨_, ⟨m1, m2, h6, g2, g12, rfl⟩, hin', hd', hu'⟩
    by_cases hroom : k + l.length ≤ c
    · have hr := run_append_roomS (P := P) w t u ty e ti hu hU hin hsz1 g 0 k c cur hs'.head l hroom (by omega)
      refine ⟨_, _, _, hr, (hs'.set (w' := w.setRow g (cur.toList.take (0 + k) ++ byteVs l ++ cur.toList.drop (0 + k + l.length)).toArray) (o' := .cells (cur.toList.take (0 + k) ++ byteVs l ++ cur.toList.drop (0 + k + l.length)).toArray e (0, 0)) rfl rfl rfl (by simp) (setRow_heap w g cur _ e (0, 0) hs'.head) (fun j hj => setRow_other w g j _ hj)).weak (fun m' hm' => ⟨hlen, .inr ⟨g, _, rfl, hroom, h3, ?_, ?_, hm'⟩⟩)⟩
      · simp [hl]; omega
      · rw [hlen.symm, ← h5]
        simp only [List.append_assoc, Nat.mul_one, Nat.zero_add]
        rw [← List.append_assoc]
        exact List.take_left
    · have holds : ∀ j u, xs[j]? = some u → w.cell? ((⟨g, 0, none⟩ : Addr).add j) = some u := by
        intro j u hj
        rw [add_off, cell_of_block hs'.head]
        rw [← h5, List.getElem?_take] at hj
        split at hj
        · simpa using hj
        · cases hj
      have hr := run_append_growS (P := P) w t u ty e ti z hu hU hin hz ⟨g, 0, none⟩ k c xs (by rw [hxl, hsz1]) holds l (by omega) (by omega) (growslice_fits (by omega) hb)
      exact ⟨_, _, _, hr, grown c (by omega) _ rfl⟩
theorem St.appendS {A : Option Addr} {k c : Nat} {R : List Chunk} {l : List UInt8} (hT : slT P t e 1 bytes = true) (hU : P.underlying u = some .string) (hx : ev L s = some (.slice A k c)) (hy : ev L y = some (.string (bs l))) (hm : 0 < l.length) (h63 : k + l.length ≤ maxLen) (hb : (k + l.length) * bytes ≤ 140737488355328) (i : Nat) (hi : H[i]? = some (row A k c e 1 xs)) (hR : H.eraseIdx i = R)
    (hdn : Nat.blt d n = true) (hw : Wanted ops ⟨some d, .call ⟨.builtin .append, #[s, y], #[t, u]⟩, ty, pos, aft, gd⟩ L)
    (h : ∀ A' c', St (wpList P ops Q rest) E n ((d, .slice A' (k + l.length) c') :: L) F (row A' (k + l.length) c' e 1 (xs ++ byteVs l) :: R)) : St (wpList P ops Q (⟨some d, .call ⟨.builtin .append, #[s, y], #[t, u]⟩, ty, pos, aft, gd⟩ :: rest)) E n L F H :=
  St.act hw rfl hdn fun a w ha hs => by
    have hs1 : Sat E F (row A k c e 1 xs :: R) w := hs.perm (by subst hR; exact perm_erase i hi)
    obtain ⟨A', c', w', hr, hs2⟩ := Sat.appendS (ty := ty) hT hU hs1 l hm h63 hb
    refine ⟨_, w', F, _, ?_, hs2, h A' c'⟩
    simp only [execOp, resolve, ev2 ha hx hy, Sem.run_bind, Sem.run_pure, Result.andThen_ok, Go.invoke, Go.builtin, hr]
end
end Go.Sy
