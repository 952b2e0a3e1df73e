/- All tuples of some domains, as the document goes through them. -/
import Derived.Test.YtopmcncaanjboaaDmIF
namespace Go.Proofs.Ytopmcncaanjboaa
open Go Go.Mir
set_option linter.unusedVariables false
/-- A tuple with a value of each domain. -/
def InT (D : List (List Int)) (x : List Int) : Prop := x.length = D.length ∧ ∀ (k : Nat) y, x[k]? = some y → y ∈ domOf D (k : Int)
def lensD (D : List (List Int)) : List Nat := D.map List.length
def tup (D : List (List Int)) (bs : List Nat) : List Int := List.zipWith (fun d a => d.getD a 0) D bs
theorem tup_get {D : List (List Int)} {bs : List Nat} {k : Nat} {d : List Int} {a : Nat} (hd : D[k]? = some d) (ha : bs[k]? = some a) : (tup D bs)[k]? = some (d.getD a 0) := by
  unfold tup; rw [List.getElem?_zipWith, hd, ha]
theorem tup_len {D : List (List Int)} {bs : List Nat} (h : bs.length = D.length) : (tup D bs).length = D.length := by
  unfold tup; rw [List.length_zipWith]; omega
theorem lensD_len (D : List (List Int)) : (lensD D).length = D.length := List.length_map _
theorem val_at {D : List (List Int)} {bs : List Nat} (h : ValO (lensD D) bs) {k : Nat} {a : Nat} (ha : bs[k]? = some a) : ∃ d, D[k]? = some d ∧ a < d.length ∧ d[a]? = some (d.getD a 0) := by
  obtain ⟨n, h1, h2⟩ := h.get ha
  unfold lensD at h1
  rw [List.getElem?_map] at h1
  obtain ⟨d, hd, rfl⟩ := Option.map_eq_some_iff.1 h1
  exact ⟨d, hd, h2, by rw [List.getD_eq_getElem?_getD, List.getElem?_eq_getElem h2]; rfl⟩
theorem tup_in {D : List (List Int)} {bs : List Nat} (h : ValO (lensD D) bs) : InT D (tup D bs) := by
  have hl := h.len
  rw [lensD_len] at hl
  refine ⟨tup_len hl, fun k y hy => ?_⟩
  have hk : k < bs.length := by have := (List.getElem?_eq_some_iff.1 hy).1; rw [tup_len hl] at this; omega
  obtain ⟨d, h1, h2, h3⟩ := val_at h (List.getElem?_eq_getElem hk)
  rw [tup_get h1 (List.getElem?_eq_getElem hk)] at hy
  cases hy
  rw [domOf_nat, h1]
  exact List.mem_of_getElem? h3
open Classical in
noncomputable def posO (d : List Int) (y : Int) : Nat := if h : ∃ a : Nat, d[a]? = some y then h.choose else 0
theorem posO_get {d : List Int} {y : Int} (h : y ∈ d) : d[posO d y]? = some y := by
  have h2 : ∃ a : Nat, d[a]? = some y := List.mem_iff_getElem?.1 h
  unfold posO
  rw [dif_pos h2]
  exact h2.choose_spec
theorem in_tup {D : List (List Int)} {x : List Int} (h : InT D x) : ∃ bs, ValO (lensD D) bs ∧ x = tup D bs := by
  have hg : ∀ (k : Nat) d y, D[k]? = some d → x[k]? = some y → (List.zipWith posO D x)[k]? = some (posO d y) ∧ d[posO d y]? = some y := fun k d y hd hy => by
    refine ⟨by rw [List.getElem?_zipWith, hd, hy], posO_get ?_⟩
    have := h.2 k y hy
    rwa [domOf_nat, hd] at this
  have hl : (List.zipWith posO D x).length = D.length := by rw [List.length_zipWith, h.1, Nat.min_self]
  refine ⟨List.zipWith posO D x, ValO.of (by rw [lensD_len, hl]) fun k a n ha hn => ?_, ?_⟩
  · unfold lensD at hn
    rw [List.getElem?_map] at hn
    obtain ⟨d, hd, rfl⟩ := Option.map_eq_some_iff.1 hn
    have hk := (List.getElem?_eq_some_iff.1 hd).1
    have hx : k < x.length := by rw [h.1]; exact hk
    obtain ⟨g1, g2⟩ := hg k d x[k] hd (List.getElem?_eq_getElem hx)
    rw [g1] at ha
    cases ha
    exact (List.getElem?_eq_some_iff.1 g2).1
  · refine List.ext_getElem? fun k => ?_
    by_cases hk : k < D.length
    · have hx : k < x.length := by rw [h.1]; exact hk
      obtain ⟨g1, g2⟩ := hg k D[k] x[k] (List.getElem?_eq_getElem hk) (List.getElem?_eq_getElem hx)
      rw [tup_get (List.getElem?_eq_getElem hk) g1, List.getElem?_eq_getElem hx, List.getD_eq_getElem?_getD, g2]; rfl
    · rw [List.getElem?_eq_none (by rw [h.1]; omega), List.getElem?_eq_none (by rw [tup_len hl]; omega)]
theorem tup_inj {D : List (List Int)} (hr : ∀ d ∈ D, risP d) {as bs : List Nat} (ha : ValO (lensD D) as) (hb : ValO (lensD D) bs) (h : tup D as = tup D bs) : as = bs := by
  have la := ha.len
  have lb := hb.len
  refine List.ext_getElem? fun k => ?_
  by_cases hk : k < as.length
  · have hk2 : k < bs.length := by omega
    obtain ⟨d, d1, d2, d3⟩ := val_at ha (List.getElem?_eq_getElem hk)
    obtain ⟨d', e1, e2, e3⟩ := val_at hb (List.getElem?_eq_getElem hk2)
    rw [d1] at e1
    cases e1
    have t1 := tup_get d1 (List.getElem?_eq_getElem hk)
    have t2 := tup_get d1 (List.getElem?_eq_getElem hk2)
    rw [h, t2] at t1
    rw [Option.some.inj t1] at e3
    rw [List.getElem?_eq_getElem hk, List.getElem?_eq_getElem hk2, risP_inj (hr d (List.mem_of_getElem? d1)) d3 e3]
  · rw [List.getElem?_eq_none (by omega), List.getElem?_eq_none (by omega)]
/-- The document's step of the numbers. -/
theorem m_stepT {D : List (List Int)} (hl : ∀ d ∈ D, 0 < d.length ∧ d.length ≤ 100000) (hn : D.length < 1000000) {as : List Nat} (ha : ValO (lensD D) as) :
    Gives (Mir.Loop (S := List Int × Int) (Q := List Int × Int) (asI as, (((asI as).length : Nat) : Int) - 1) fun s262 =>
        (
          if s262.2 ≥ 0 then
            (Mir.idx s262.1 s262.2).bind fun x275 =>
            (Mir.idx D s262.2).bind fun x283 =>
            some (decide (x275 = ((x283.length : Nat) : Int) - 1))
          else
            some false
        : Option Bool).bind fun (z272 : Bool) =>
        if z272 = true then
          (Mir.idx s262.1 s262.2).bind fun x295 =>
          (Mir.upd s262.1 s262.2 0).bind fun x305 =>
          some (.inl (x305, Mir.w64 (s262.2 - 1)))
        else
          some (.inr (s262.1, s262.2)))
      (fun q => (q.2 < 0 ∧ nextO (lensD D) as = none) ∨ ∃ (i : Nat) (c : Int) (bs : List Nat), q.2 = (i : Int) ∧ q.1[i]? = some c ∧ i < q.1.length ∧ nextO (lensD D) as = some bs ∧ q.1.set i (w64 (c + 1)) = asI bs) := by
  generalize hns : lensD D = ns at *
  have hlen := ha.len
  have hvl : D.length = ns.length := by rw [← hns, lensD_len]
  refine Gives.loop (fun (s : List Int × Int) => ∃ i : Nat, i ≤ as.length ∧ s.2 = (i : Int) - 1 ∧ s.1 = asI (as.take i ++ (as.drop i).map fun _ => 0) ∧ nextO (ns.drop i) (as.drop i) = none) (fun (s : List Int × Int) => (s.2 + 1).toNat) ⟨as.length, Nat.le_refl _, by rw [asI_len], by simp, by rw [List.drop_of_length_le (by omega), List.drop_of_length_le (by omega)]; rfl⟩ ?_
  rintro ⟨_, _⟩ ⟨i, hi, rfl, rfl, hno⟩
  dsimp only
  cases i with
  | zero =>
    rw [if_neg (by omega), Option.bind_some, if_neg (by decide)]
    exact Gives.some (.inl ⟨by dsimp only; omega, by simpa using hno⟩)
  | succ i =>
    have hi' : i < as.length := by omega
    have hz : (as.take (i + 1) ++ (as.drop (i + 1)).map fun _ => 0) = as.take i ++ as[i] :: ((as.drop (i + 1)).map fun _ => 0) := by
      rw [List.take_add_one, List.getElem?_eq_getElem hi', List.append_assoc]; rfl
    have hlt : (as.take i).length = i := by rw [List.length_take]; omega
    have hget : (asI (as.take i ++ as[i] :: ((as.drop (i + 1)).map fun _ => 0)))[i]? = some ((as[i] : Nat) : Int) := by
      rw [asI_get, List.getElem?_append_right (by omega), hlt, Nat.sub_self]; rfl
    have hset : ∀ y : Nat, (asI (as.take i ++ as[i] :: ((as.drop (i + 1)).map fun _ => 0))).set i (y : Int) = asI (as.take i ++ y :: ((as.drop (i + 1)).map fun _ => 0)) := by
      intro y
      unfold asI
      rw [List.map_append, List.map_append, List.set_append_right _ _ (by rw [List.length_map]; omega), List.length_map, hlt, Nat.sub_self]; rfl
    have hll : (asI (as.take i ++ as[i] :: ((as.drop (i + 1)).map fun _ => 0))).length = as.length := by
      rw [asI_len, List.length_append, List.length_cons, List.length_map, List.length_drop, hlt]; omega
    have hvi : i < D.length := by omega
    have hni : ns[i]? = some D[i].length := by rw [← hns]; unfold lensD; rw [List.getElem?_map, List.getElem?_eq_getElem hvi]; rfl
    have hal : as[i] < D[i].length := by
      obtain ⟨n, h1, h2⟩ := ha.get (List.getElem?_eq_getElem hi')
      rw [hni] at h1; cases h1; exact h2
    have hdl := (hl _ (List.getElem_mem hvi)).2
    have hw : w64 (((as[i] : Nat) : Int) + 1) = ((as[i] + 1 : Nat) : Int) := by rw [w64_eq (by omega)]; omega
    have hnd : ns.drop i = D[i].length :: ns.drop (i + 1) := by
      obtain ⟨g1, g2⟩ := List.getElem?_eq_some_iff.1 hni
      rw [List.drop_eq_getElem_cons g1, g2]
    have had : as.drop i = as[i] :: as.drop (i + 1) := List.drop_eq_getElem_cons hi'
    rw [if_pos (by omega), hz, show (((i + 1 : Nat) : Int) - 1) = ((i : Nat) : Int) by omega, idx_nat, hget, Option.bind_some, idx_nat, List.getElem?_eq_getElem hvi, Option.bind_some, Option.bind_some, Option.bind_some]
    by_cases c : as[i] + 1 < D[i].length
    · rw [decide_eq_false (by omega), if_neg (by decide)]
      refine Gives.some (.inr ⟨i, _, _, rfl, hget, by dsimp only; omega, ?_, by dsimp only; rw [hw, hset]⟩)
      have h1 : nextO (ns.drop i) (as.drop i) = some ((as[i] + 1) :: ((as.drop (i + 1)).map fun _ => 0)) := by
        rw [hnd, had, nextO, hno]
        show (if as[i] + 1 < _ then _ else _) = _
        rw [if_pos c]
      have := nextO_app (n1 := ns.take i) (a1 := as.take i) (by rw [List.length_take, List.length_take]; omega) h1
      rwa [List.take_append_drop, List.take_append_drop] at this
    · rw [decide_eq_true (by omega), if_pos rfl, upd_ok (by omega), Option.bind_some]
      refine Gives.some ⟨⟨i, by omega, by dsimp only; rw [w64_eq (by omega)], ?_, ?_⟩, by dsimp only; rw [w64_eq (by omega)]; omega⟩
      · dsimp only
        rw [had, List.map_cons]
        exact hset 0
      · rw [hnd, had, nextO, hno]
        show (if as[i] + 1 < _ then _ else _) = _
        rw [if_neg c]
theorem rankO_next {ns as bs : List Nat} (hp : PosO ns) (ha : ValO ns as) (h : nextO ns as = some bs) (cs : List Nat) (hc : ValO ns cs) : rankO ns cs < rankO ns bs ↔ rankO ns cs < rankO ns as ∨ cs = as := by
  rw [(nextO_some hp ha h).2]
  constructor
  · intro h1
    rcases Nat.lt_or_ge (rankO ns cs) (rankO ns as) with h2 | h2
    · exact .inl h2
    · exact .inr (rankO_inj hc ha (by omega))
  · rintro (h1 | rfl) <;> omega
theorem m_TuplesP (g : Nat) {D : List (List Int)} (hn : D.length ≤ 12) (hl : ∀ d ∈ D, d.length ≤ 30) (hr : ∀ d ∈ D, risP d) (hp : (∀ d ∈ D, 0 < d.length) → prodO (lensD D) ≤ 1500) :
    Gives (m_ref11_Tuples g ⟨D, []⟩) (fun T => T.Nodup ∧ T.length ≤ 1500 ∧ ∀ x, x ∈ T ↔ InT D x) := by
  unfold m_ref11_Tuples
  dsimp only
  refine Gives.jx (fun _ => ∀ d ∈ D, 0 < d.length) (Gives.loop (fun i => i ≤ D.length ∧ ∀ d ∈ D.take i, 0 < d.length) (fun i => D.length - i) ⟨Nat.zero_le _, (fun d h => nomatch h)⟩ fun i hi => ?_) fun _ hpos => ?_
  · obtain ⟨hi, hpi⟩ := hi
    refine Gives.ite (fun c => ?_) (fun c => Gives.some ?_)
    · have hi' : i < D.length := by omega
      refine Gives.bindE (List.getElem?_eq_getElem hi') (Gives.ite (fun c0 => Gives.some ?_) (fun c0 => Gives.some ?_))
      · refine ⟨List.nodup_nil, Nat.zero_le _, fun x => ⟨(fun h => nomatch h), fun h => ?_⟩⟩
        have hx : i < x.length := by rw [h.1]; exact hi'
        have := h.2 i x[i] (List.getElem?_eq_getElem hx)
        rw [domOf_nat, List.getElem?_eq_getElem hi'] at this
        have h0 : D[i] = [] := List.length_eq_zero_iff.1 (by omega)
        rw [h0] at this
        exact nomatch this
      · refine ⟨⟨by omega, fun d hd => ?_⟩, by omega⟩
        rw [List.take_add_one, List.getElem?_eq_getElem hi'] at hd
        rcases List.mem_append.1 hd with hd | hd
        · exact hpi d hd
        · simp at hd; subst hd; omega
    · intro d hd
      rw [List.take_of_length_le (by omega)] at hpi
      exact hpi d hd
  · have hpr := hp hpos
    have hP : PosO (lensD D) := fun n hn' => by
      unfold lensD at hn'
      obtain ⟨d, hd, rfl⟩ := List.mem_map.1 hn'
      exact hpos d hd
    obtain ⟨hz1, hz2⟩ := zero_valO (ns := lensD D) (as := D.map fun _ => 0) hP (by unfold lensD; rw [List.length_map, List.length_map])
    have hz : (List.replicate D.length (0 : Int)) = asI ((D.map fun _ => 0).map fun _ => 0) := by
      unfold asI; rw [List.map_map, List.map_map]
      rw [← List.map_const']
      rfl
    refine Gives.bindE (made_ok (by omega)) ?_
    rw [hz]
    refine Gives.loop (fun s => ∃ as, s.2 = asI as ∧ ValO (lensD D) as ∧ s.1.length = rankO (lensD D) as ∧ s.1.Nodup ∧ ∀ x, x ∈ s.1 ↔ ∃ bs, ValO (lensD D) bs ∧ rankO (lensD D) bs < rankO (lensD D) as ∧ x = tup D bs) (fun s => prodO (lensD D) - s.1.length) ⟨_, rfl, hz1, by rw [hz2]; rfl, List.nodup_nil, fun x => ⟨(fun h => nomatch h), fun ⟨bs, _, h, _⟩ => by rw [hz2] at h; omega⟩⟩ ?_
    rintro ⟨T, _⟩ ⟨as, rfl, hv, hT, hnd, hm⟩
    dsimp only at hT hnd hm ⊢
    have hlen := hv.len
    rw [lensD_len] at hlen
    have hrk := rankO_lt hv
    refine Gives.bind (fun z => z = tup D as) ?_ fun z hz => ?_
    · refine Gives.loop (fun s => s.2 ≤ D.length ∧ s.1 = (tup D as).take s.2) (fun s => D.length - s.2) ⟨Nat.zero_le _, rfl⟩ ?_
      rintro ⟨a, i⟩ ⟨hi, haE⟩
      dsimp only at hi haE ⊢
      subst haE
      rw [asI_len, hlen]
      refine Gives.ite (fun c => ?_) (fun c => Gives.some ?_)
      · have hi' : i < D.length := by omega
        have ha := List.getElem?_eq_getElem (show i < as.length by omega)
        obtain ⟨d, d1, d2, d3⟩ := val_at hv ha
        refine Gives.bindE d1 (Gives.bindE (by rw [asI_get, ha]; rfl) (Gives.bindE (by rw [idx_nat]; exact d3) ?_))
        refine Gives.bindE (push_small 12 (by rw [List.length_take]; simp only [List.length_cons, List.length_nil]; omega) (by decide)) (Gives.some ⟨⟨by dsimp only; omega, ?_⟩, by dsimp only; omega⟩)
        dsimp only
        rw [List.take_add_one, tup_get d1 ha]; rfl
      · show List.take i (tup D as) = _
        rw [List.take_of_length_le (by rw [tup_len hlen]; omega)]
    subst hz
    refine Gives.bind (fun z => z = (tup D as, true)) ?_ fun z hz => ?_
    · refine Gives.loop (fun s => s = (tup D as, true, 0)) (fun _ => 0) rfl ?_
      rintro _ rfl
      dsimp only
      rw [if_neg (by simp), Option.bind_some, if_neg (by decide)]
      exact Gives.some rfl
    subst hz
    have hnot : tup D as ∉ T := fun h => by
      obtain ⟨bs, h1, h2, h3⟩ := (hm _).1 h
      rw [tup_inj hr hv h1 h3] at h2
      omega
    refine Gives.bind (fun z => z = T ++ [tup D as]) (Gives.pos rfl (Gives.bindE (push_small 2000 (by simp only [List.length_cons, List.length_nil]; omega) (by decide)) (Gives.some rfl))) fun z hz => ?_
    subst hz
    have hnd2 : (T ++ [tup D as]).Nodup := by
      rw [List.nodup_append]
      refine ⟨hnd, by simp, fun a ha b hb => ?_⟩
      simp at hb
      subst hb
      exact fun h => hnot (h ▸ ha)
    have hm2 : ∀ x, x ∈ T ++ [tup D as] ↔ ∃ bs, ValO (lensD D) bs ∧ (rankO (lensD D) bs < rankO (lensD D) as ∨ bs = as) ∧ x = tup D bs := fun x => by
      rw [List.mem_append, hm]
      constructor
      · rintro (⟨bs, h1, h2, h3⟩ | h)
        · exact ⟨bs, h1, .inl h2, h3⟩
        · exact ⟨as, hv, .inr rfl, by simpa using h⟩
      · rintro ⟨bs, h1, h2 | rfl, h3⟩
        · exact .inl ⟨bs, h1, h2, h3⟩
        · exact .inr (by simpa using h3)
    refine Gives.bind _ (m_stepT (fun d hd => ⟨hpos d hd, by have := hl d hd; omega⟩) (by omega) hv) fun q hq => ?_
    rcases hq with ⟨h1, h2⟩ | ⟨i, c, bs, h1, h2, h3, h4, h5⟩
    · refine Gives.pos h1 (Gives.some ⟨hnd2, ?_, fun x => ?_⟩)
      · simp only [List.length_append, List.length_cons, List.length_nil]; omega
      · rw [hm2]
        constructor
        · rintro ⟨bs, g1, _, rfl⟩; exact tup_in g1
        · intro hx
          obtain ⟨bs, g1, rfl⟩ := in_tup hx
          refine ⟨bs, g1, ?_, rfl⟩
          have k1 := nextO_none hP hv h2
          have k2 := rankO_lt g1
          rcases Nat.lt_or_ge (rankO (lensD D) bs) (rankO (lensD D) as) with k3 | k3
          · exact .inl k3
          · exact .inr (rankO_inj g1 hv (by omega))
    · obtain ⟨q1, q2⟩ := q
      dsimp only at h1 h2 h3 h5 ⊢
      subst h1
      refine Gives.neg (by omega) (Gives.bindE (by rw [idx_nat]; exact h2) (Gives.bindE (by rw [idx_nat]; exact h2) (Gives.bindE (upd_ok h3) (Gives.some ⟨⟨bs, h5, (nextO_some hP hv h4).1, ?_, hnd2, fun x => ?_⟩, ?_⟩))))
      · dsimp only
        rw [(nextO_some hP hv h4).2]
        simp only [List.length_append, List.length_cons, List.length_nil]; omega
      · dsimp only
        rw [hm2]
        constructor
        · rintro ⟨cs, g1, g2, g3⟩; exact ⟨cs, g1, (rankO_next hP hv h4 cs g1).2 g2, g3⟩
        · rintro ⟨cs, g1, g2, g3⟩; exact ⟨cs, g1, (rankO_next hP hv h4 cs g1).1 g2, g3⟩
      · dsimp only
        simp only [List.length_append, List.length_cons, List.length_nil]; omega
end Go.Proofs.Ytopmcncaanjboaa
