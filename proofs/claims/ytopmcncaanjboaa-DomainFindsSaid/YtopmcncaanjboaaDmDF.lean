/- Which values of a limit's variables have support, in plain words. -/
import Derived.Test.YtopmcncaanjboaaDmCF
namespace Go.Proofs.Ytopmcncaanjboaa
open Go Go.Mir
set_option linter.unusedVariables false
def lensO (D : List (List Int)) (vs : List Int) : List Nat := vs.map fun v => (domOf D v).length
/-- The values of a combination. -/
def valsO (D : List (List Int)) (vs : List Int) (as : List Nat) : List Int := List.zipWith (fun v a => (domOf D v).getD a 0) vs as
theorem valsO_len {D : List (List Int)} {vs : List Int} {as : List Nat} (h : as.length = vs.length) : (valsO D vs as).length = vs.length := by
  unfold valsO; rw [List.length_zipWith]; omega
theorem valsO_get {D : List (List Int)} {vs : List Int} {as : List Nat} {i : Nat} {v : Int} {a : Nat} (hv : vs[i]? = some v) (ha : as[i]? = some a) : (valsO D vs as)[i]? = some ((domOf D v).getD a 0) := by
  unfold valsO; rw [List.getElem?_zipWith, hv, ha]
theorem lensO_get {D : List (List Int)} {vs : List Int} {i : Nat} {v : Int} (hv : vs[i]? = some v) : (lensO D vs)[i]? = some (domOf D v).length := by
  unfold lensO; rw [List.getElem?_map, hv]; rfl
theorem valO_at {D : List (List Int)} {vs : List Int} {as : List Nat} (h : ValO (lensO D vs) as) {i : Nat} {v : Int} (hv : vs[i]? = some v) : ∃ a, as[i]? = some a ∧ a < (domOf D v).length ∧ (domOf D v)[a]? = some ((domOf D v).getD a 0) := by
  have hl := h.len
  have h1 := (List.getElem?_eq_some_iff.1 hv).1
  have h2 : i < as.length := by unfold lensO at hl; rw [List.length_map] at hl; omega
  obtain ⟨n, g1, g2⟩ := h.get (List.getElem?_eq_getElem h2)
  rw [lensO_get hv] at g1
  cases g1
  refine ⟨_, List.getElem?_eq_getElem h2, g2, ?_⟩
  rw [List.getD_eq_getElem?_getD, List.getElem?_eq_getElem g2]; rfl
theorem m_vals (D : List (List Int)) {vs : List Int} (hv : ∀ v ∈ vs, 0 ≤ v ∧ v < D.length) {as : List Nat} (ha : ValO (lensO D vs) as) {x : List Int} (hx : x.length = vs.length) {A : Type} (out : A) :
    Mir.Loop (S := List Int × Nat) (Q := (List Int) ⊕ A) (x, (0 : Nat)) (fun s113 =>
          if ((s113.2 : Nat) : Int) < ((vs.length : Nat) : Int) then
            ((vs)[s113.2]?).bind fun x124 =>
            ((asI as)[s113.2]?).bind fun x131 =>
            (Mir.idx D x124).bind fun x139 =>
            if x131 ≥ ((x139.length : Nat) : Int) then
              some (.inr (.inr out))
            else
              (Mir.idx D x124).bind fun x156 =>
              ((asI as)[s113.2]?).bind fun x167 =>
              (Mir.idx x156 x167).bind fun x174 =>
              ((s113.1)[s113.2]?).bind fun x181 =>
              (Mir.upd s113.1 (s113.2 : Int) x174).bind fun x192 =>
              some (.inl (x192, s113.2 + 1))
          else
            some (.inr (.inl s113.1))) = some (.inl (valsO D vs as)) := by
  have hal : as.length = vs.length := by have := ha.len; unfold lensO at this; rwa [List.length_map] at this
  have hvl := valsO_len (D := D) hal
  refine Loop_rel (fun (s : List Int × Nat) (q : List Int ⊕ A) => s.2 ≤ vs.length ∧ s.1.length = vs.length ∧ s.1.take s.2 = (valsO D vs as).take s.2 ∧ q = .inl (valsO D vs as)) (fun s => vs.length - s.2) ?_ ⟨Nat.zero_le _, hx, rfl, rfl⟩
  rintro ⟨y, i⟩ q ⟨hi, hy, ht, rfl⟩
  dsimp only at hi hy ht ⊢
  by_cases c : i < vs.length
  · right
    have e1 := List.getElem?_eq_getElem c
    obtain ⟨a, e2, e3, e4⟩ := valO_at ha e1
    have hd := domOf_idx (hv _ (List.getElem_mem c))
    have e5 : (asI as)[i]? = some (a : Int) := by rw [asI_get, e2]; rfl
    rw [if_pos (by omega), e1, Option.bind_some, e5, Option.bind_some, hd, Option.bind_some, if_neg (by omega), Option.bind_some, Option.bind_some, idx_nat, e4, Option.bind_some, List.getElem?_eq_getElem (show i < y.length by omega), Option.bind_some, upd_ok (by omega), Option.bind_some]
    refine ⟨_, rfl, ⟨by dsimp only; omega, by simpa using hy, ?_, rfl⟩, by dsimp only; omega⟩
    dsimp only
    rw [List.take_add_one, List.take_add_one, valsO_get e1 e2, List.take_set_of_le (Nat.le_refl _), ht, List.getElem?_set_self (by omega)]
  · left
    have : i = vs.length := by omega
    subst this
    rw [if_neg (by omega)]
    rw [List.take_of_length_le (by omega), List.take_of_length_le (by omega)] at ht
    rw [ht]
/-- A combination's places are marked. -/
def markAll (M : List (List Bool)) (as : List Nat) : List (List Bool) := List.zipWith (fun m a => m.set a true) M as
def marked (M : List (List Bool)) (i j : Nat) : Prop := ∃ m, M[i]? = some m ∧ m[j]? = some true
structure Shape (n : Nat) (M : List (List Bool)) : Prop where
  len : M.length = n
  row : ∀ m ∈ M, m.length = 30
theorem markAll_get {M : List (List Bool)} {as : List Nat} {i : Nat} {m : List Bool} {a : Nat} (hm : M[i]? = some m) (ha : as[i]? = some a) : (markAll M as)[i]? = some (m.set a true) := by
  unfold markAll; rw [List.getElem?_zipWith, hm, ha]
theorem Shape.mark {n : Nat} {M : List (List Bool)} {as : List Nat} (h : Shape n M) (ha : as.length = n) : Shape n (markAll M as) := by
  have hl : (markAll M as).length = n := by unfold markAll; rw [List.length_zipWith, h.len, ha, Nat.min_self]
  refine ⟨hl, fun m hm => ?_⟩
  obtain ⟨i, hi⟩ := List.mem_iff_getElem?.1 hm
  have h1 := (List.getElem?_eq_some_iff.1 hi).1
  have e1 := List.getElem?_eq_getElem (show i < M.length by have := h.len; omega)
  have e2 := List.getElem?_eq_getElem (show i < as.length by omega)
  rw [markAll_get e1 e2] at hi
  cases hi
  rw [List.length_set]
  exact h.row _ (List.getElem_mem _)
theorem marked_mark {n : Nat} {M : List (List Bool)} {as : List Nat} (h : Shape n M) (ha : as.length = n) (hb : ∀ a ∈ as, a < 30) {i j : Nat} : marked (markAll M as) i j ↔ marked M i j ∨ as[i]? = some j := by
  by_cases hi : i < n
  · have e1 := List.getElem?_eq_getElem (show i < M.length by have := h.len; omega)
    have e2 := List.getElem?_eq_getElem (show i < as.length by omega)
    have hr := h.row _ (List.getElem_mem (show i < M.length by have := h.len; omega))
    have ha30 := hb _ (List.getElem_mem (show i < as.length by omega))
    unfold marked
    rw [markAll_get e1 e2, e1, e2]
    constructor
    · rintro ⟨m, hm, hj⟩
      cases hm
      by_cases c : as[i] = j
      · exact .inr (by rw [c])
      · rw [List.getElem?_set_ne c] at hj
        exact .inl ⟨_, rfl, hj⟩
    · rintro (⟨m, hm, hj⟩ | hj)
      · cases hm
        refine ⟨_, rfl, ?_⟩
        by_cases c : as[i] = j
        · rw [← c, List.getElem?_set_self (by omega)]
        · rw [List.getElem?_set_ne c]; exact hj
      · cases hj
        exact ⟨_, rfl, List.getElem?_set_self (by omega)⟩
  · have e1 : (markAll M as)[i]? = none := List.getElem?_eq_none (by have := (h.mark ha).len; omega)
    have e2 : M[i]? = none := List.getElem?_eq_none (by have := h.len; omega)
    have e3 : as[i]? = none := List.getElem?_eq_none (by omega)
    unfold marked
    rw [e1, e2, e3]
    constructor
    · rintro ⟨_, h, _⟩; cases h
    · rintro (⟨_, h, _⟩ | h) <;> cases h
theorem m_mark {n : Nat} {M : List (List Bool)} {as : List Nat} (h : Shape n M) (ha : as.length = n) (hb : ∀ a ∈ as, a < 30) :
    Mir.Loop (S := List (List Bool) × Nat) (Q := List (List Bool)) (M, (0 : Nat)) (fun s224 =>
                if ((s224.2 : Nat) : Int) < (((asI as).length : Nat) : Int) then
                  ((asI as)[s224.2]?).bind fun x235 =>
                  ((s224.1)[s224.2]?).bind fun x243 =>
                  (Mir.idx x243 x235).bind fun x253 =>
                  (Mir.upd x243 x235 true).bind fun x258 =>
                  (Mir.upd s224.1 (s224.2 : Int) x258).bind fun x260 =>
                  some (.inl (x260, s224.2 + 1))
                else
                  some (.inr s224.1)) = some (markAll M as) := by
  have hl := (h.mark ha).len
  rw [asI_len]
  refine Loop_rel (fun (s : List (List Bool) × Nat) (q : List (List Bool)) => s.2 ≤ n ∧ s.1.length = n ∧ s.1.take s.2 = (markAll M as).take s.2 ∧ s.1.drop s.2 = M.drop s.2 ∧ q = markAll M as) (fun s => n - s.2) ?_ ⟨Nat.zero_le _, h.len, rfl, rfl, rfl⟩
  rintro ⟨y, i⟩ q ⟨hi, hy, ht, hd, rfl⟩
  dsimp only at hi hy ht hd ⊢
  by_cases c : i < n
  · right
    have e0 := List.getElem?_eq_getElem (show i < M.length by have := h.len; omega)
    have e1 : y[i]? = M[i]? := by
      have := congrArg (·[0]?) hd
      simpa [List.getElem?_drop] using this
    have e2 := List.getElem?_eq_getElem (show i < as.length by omega)
    have hr := h.row _ (List.getElem_mem (show i < M.length by have := h.len; omega))
    have ha30 := hb _ (List.getElem_mem (show i < as.length by omega))
    rw [if_pos (by omega), asI_get, e2, Option.map_some, Option.bind_some, e1, e0, Option.bind_some, idx_ok (by omega), Option.bind_some, upd_ok (by omega), Option.bind_some, upd_ok (by omega), Option.bind_some]
    refine ⟨_, rfl, ⟨by dsimp only; omega, by simpa using hy, ?_, ?_, rfl⟩, by dsimp only; omega⟩
    · dsimp only
      rw [List.take_add_one, List.take_add_one, markAll_get e0 e2, List.take_set_of_le (Nat.le_refl _), ht, List.getElem?_set_self (by omega)]
    · dsimp only
      rw [List.drop_set_of_lt (by omega)]
      have := congrArg (List.drop 1) hd
      rwa [List.drop_drop, List.drop_drop] at this
  · left
    have : i = n := by omega
    subst this
    rw [if_neg (by omega)]
    rw [List.take_of_length_le (by omega), List.take_of_length_le (by omega)] at ht
    rw [ht]
/-- A value has support: it stands in a combination that satisfies the limit. -/
def Supp (D : List (List Int)) (l : DLimit) (i : Nat) (n : Int) : Prop :=
  ∃ x : List Int, x.length = l.Vars.length ∧ (∀ (k : Nat) v, l.Vars[k]? = some v → ∃ y, x[k]? = some y ∧ y ∈ domOf D v) ∧ x[i]? = some n ∧ holdsL l x = true
noncomputable def suppBody (g : Nat) (D : List (List Int)) (vs : List Int) : List (List Bool) × List Int × List Int × ILimit → Option ((List (List Bool) × List Int × List Int × ILimit) ⊕ List (List Bool)) := fun s70 =>
      jx (J := List Int) (A := (List (List Bool) × List Int × List Int × ILimit) ⊕ (List (List Bool))) (
        Mir.Loop (S := List Int × Nat) (Q := (List Int) ⊕ ((List (List Bool) × List Int × List Int × ILimit) ⊕ (List (List Bool)))) (s70.2.2.1, (0 : Nat)) fun s113 =>
          if ((s113.2 : Nat) : Int) < ((vs.length : Nat) : Int) then
            ((vs)[s113.2]?).bind fun x124 =>
            ((s70.2.1)[s113.2]?).bind fun x131 =>
            (Mir.idx D x124).bind fun x139 =>
            if x131 ≥ ((x139.length : Nat) : Int) then
              some (.inr (.inr (.inr s70.1)))
            else
              (Mir.idx D x124).bind fun x156 =>
              ((s70.2.1)[s113.2]?).bind fun x167 =>
              (Mir.idx x156 x167).bind fun x174 =>
              ((s113.1)[s113.2]?).bind fun x181 =>
              (Mir.upd s113.1 (s113.2 : Int) x174).bind fun x192 =>
              some (.inl (x192, s113.2 + 1))
          else
            some (.inr (.inl s113.1))
      ) fun z96 =>
      (holdsM g s70.2.2.2 z96).bind fun q203 =>
      (
        if q203 = true then
          Mir.Loop (S := List (List Bool) × Nat) (Q := List (List Bool)) (s70.1, (0 : Nat)) fun s224 =>
            if ((s224.2 : Nat) : Int) < ((s70.2.1.length : Nat) : Int) then
              ((s70.2.1)[s224.2]?).bind fun x235 =>
              ((s224.1)[s224.2]?).bind fun x243 =>
              (Mir.idx x243 x235).bind fun x253 =>
              (Mir.upd x243 x235 true).bind fun x258 =>
              (Mir.upd s224.1 (s224.2 : Int) x258).bind fun x260 =>
              some (.inl (x260, s224.2 + 1))
            else
              some (.inr s224.1)
        else
          some s70.1
      : Option (List (List Bool))).bind fun (z207 : List (List Bool)) =>
      (
        Mir.Loop (S := List Int × Int) (Q := List Int × Int) (s70.2.1, ((s70.2.1.length : Nat) : Int) - 1) fun s282 =>
          if s282.2 ≥ 0 then
            (Mir.idx s282.1 s282.2).bind fun x293 =>
            (Mir.idx s282.1 s282.2).bind fun x301 =>
            (Mir.upd s282.1 s282.2 (Mir.w64 (x293 + 1))).bind fun x310 =>
            (Mir.idx x310 s282.2).bind fun x312 =>
            (Mir.idx vs s282.2).bind fun x319 =>
            (Mir.idx D x319).bind fun x326 =>
            if x312 < ((x326.length : Nat) : Int) then
              some (.inr (x310, s282.2))
            else
              (Mir.idx x310 s282.2).bind fun x340 =>
              (Mir.upd x310 s282.2 0).bind fun x349 =>
              some (.inl (x349, Mir.w64 (s282.2 - 1)))
          else
            some (.inr (s282.1, s282.2))
      : Option (List Int × Int)).bind fun (z266 : List Int × Int) =>
      if z266.2 < 0 then
        some (.inr z207)
      else
        some (.inl (z207, z266.1, z96, s70.2.2.2))
theorem support_eq (g : Nat) (D : List (List Int)) (l : DLimit) : m_domain_support g D l =
    (Mir.made 30 ((l.Vars.length : Nat) : Int) (List.replicate 30 false)).bind fun x6 =>
    (Mir.made 8 ((l.Vars.length : Nat) : Int) (0 : Int)).bind fun x14 =>
    (Mir.made 8 ((l.Vars.length : Nat) : Int) (0 : Int)).bind fun x22 =>
    (m_domain_of g l).bind fun q30 =>
    (m_domain_isEmpty g q30).bind fun q36 =>
    if q36 = true then some x6 else Mir.Loop (x6, x14, x22, q30) (suppBody g D l.Vars) := by
  unfold m_domain_support
  have hb : ∀ s, suppBody g D l.Vars s = suppBody g D l.Vars s := fun _ => rfl
  congr 1; funext x6; congr 1; funext x14; congr 1; funext x22; congr 1; funext q30; congr 1; funext q36
  congr 1
  congr 1
  funext s
  obtain ⟨a, b, c, k⟩ := s
  cases k <;> rfl
theorem m_support (g : Nat) {D : List (List Int)} {l : DLimit} (hl : LimOk D.length l) (hn : l.Vars.length ≤ 12) (hD : ∀ d ∈ D, 0 < d.length ∧ d.length ≤ 30) :
    ∃ M, m_domain_support g D l = some M ∧ Shape l.Vars.length M ∧ ∀ i j v, l.Vars[i]? = some v → ∀ n, (domOf D v)[j]? = some n → (marked M i j ↔ Supp D l i n) := by
  have hv : ∀ v ∈ l.Vars, 0 ≤ v ∧ v < D.length := hl.vars
  have hdom : ∀ v ∈ l.Vars, 0 < (domOf D v).length ∧ (domOf D v).length ≤ 30 := fun v hv' => by
    have h1 := hv v hv'
    obtain ⟨k, rfl⟩ : ∃ k : Nat, v = k := ⟨v.toNat, by omega⟩
    unfold domOf
    rw [idx_ok (show k < D.length by omega)]
    exact hD _ (List.getElem_mem _)
  have hpos : PosO (lensO D l.Vars) := fun n hn' => by
    obtain ⟨v, hv', rfl⟩ := List.mem_map.1 hn'
    exact (hdom v hv').1
  rw [support_eq, made_ok (by omega), Option.bind_some, made_ok (by omega), Option.bind_some, Option.bind_some, m_of, Option.bind_some, m_isEmpty, Option.bind_some]
  have hsh0 : Shape l.Vars.length (List.replicate l.Vars.length (List.replicate 30 false)) := ⟨List.length_replicate, fun m hm => by rw [List.eq_of_mem_replicate hm, List.length_replicate]⟩
  have hno0 : ∀ i j, ¬ marked (List.replicate l.Vars.length (List.replicate 30 false)) i j := by
    rintro i j ⟨m, h1, h2⟩
    have := List.eq_of_mem_replicate (List.mem_of_getElem? h1)
    subst this
    have := List.eq_of_mem_replicate (List.mem_of_getElem? h2)
    cases this
  by_cases he : l.Kind = 4 ∧ l.Rows = []
  · rw [decide_eq_true he, if_pos rfl]
    refine ⟨_, rfl, hsh0, fun i j v hv' n hn' => ⟨fun h => absurd h (hno0 i j), fun ⟨x, _, _, _, hx⟩ => ?_⟩⟩
    unfold holdsL at hx
    rw [if_neg (by omega), if_pos he.1, he.2] at hx
    simp at hx
  · rw [decide_eq_false he, if_neg (by decide)]
    have hz : (List.replicate l.Vars.length (0 : Int)) = asI ((l.Vars.map fun _ => 0).map fun _ => 0) := by
      unfold asI; rw [List.map_map, List.map_map]
      rw [← List.map_const']
      rfl
    obtain ⟨hz1, hz2⟩ := zero_valO (ns := lensO D l.Vars) (as := l.Vars.map fun _ => 0) hpos (by unfold lensO; rw [List.length_map, List.length_map])
    obtain ⟨M, hM, hs, hm⟩ := Loop_ex (body := suppBody g D l.Vars)
      (fun s => ∃ as, s.2.1 = asI as ∧ ValO (lensO D l.Vars) as ∧ s.2.2.1.length = l.Vars.length ∧ s.2.2.2 = ofL l ∧ Shape l.Vars.length s.1 ∧ ∀ i j, marked s.1 i j ↔ ∃ bs, ValO (lensO D l.Vars) bs ∧ rankO (lensO D l.Vars) bs < rankO (lensO D l.Vars) as ∧ bs[i]? = some j ∧ holdsL l (valsO D l.Vars bs) = true)
      (fun M => Shape l.Vars.length M ∧ ∀ i j, marked M i j ↔ ∃ bs, ValO (lensO D l.Vars) bs ∧ bs[i]? = some j ∧ holdsL l (valsO D l.Vars bs) = true)
      (fun s => prodO (lensO D l.Vars) - rankO (lensO D l.Vars) (s.2.1.map Int.toNat)) (by
        rintro ⟨M, _, x, _⟩ ⟨as, rfl, ha, hx, rfl, hs, hm⟩
        dsimp only at hx hs hm ⊢
        have hal : as.length = l.Vars.length := by have := ha.len; unfold lensO at this; rwa [List.length_map] at this
        have h30 : ∀ a ∈ as, a < 30 := fun a ha' => by
          obtain ⟨i, hi⟩ := List.mem_iff_getElem?.1 ha'
          have h1 := (List.getElem?_eq_some_iff.1 hi).1
          obtain ⟨a', e1, e2, _⟩ := valO_at ha (List.getElem?_eq_getElem (show i < l.Vars.length by omega))
          rw [hi] at e1; cases e1
          have := (hdom _ (List.getElem_mem (show i < l.Vars.length by omega))).2
          omega
        have hnat : ∀ bs : List Nat, (asI bs).map Int.toNat = bs := fun bs => by
          unfold asI; rw [List.map_map]
          induction bs with
          | nil => rfl
          | cons b bs ih => rw [List.map_cons, ih]; rfl
        unfold suppBody
        dsimp only
        rw [m_vals D hv ha hx, jx_inl, holdsM_eq g hl (valsO_len hal), Option.bind_some]
        obtain ⟨M', hM', hs', hm'⟩ : ∃ M', (if holdsL l (valsO D l.Vars as) = true then
            Mir.Loop (S := List (List Bool) × Nat) (Q := List (List Bool)) (M, (0 : Nat)) (fun s224 =>
                if ((s224.2 : Nat) : Int) < (((asI as).length : Nat) : Int) then
                  ((asI as)[s224.2]?).bind fun x235 =>
                  ((s224.1)[s224.2]?).bind fun x243 =>
                  (Mir.idx x243 x235).bind fun x253 =>
                  (Mir.upd x243 x235 true).bind fun x258 =>
                  (Mir.upd s224.1 (s224.2 : Int) x258).bind fun x260 =>
                  some (.inl (x260, s224.2 + 1))
                else
                  some (.inr s224.1)) else some M) = some M' ∧ Shape l.Vars.length M' ∧ ∀ i j, marked M' i j ↔ ∃ bs, ValO (lensO D l.Vars) bs ∧ rankO (lensO D l.Vars) bs ≤ rankO (lensO D l.Vars) as ∧ bs[i]? = some j ∧ holdsL l (valsO D l.Vars bs) = true := by
          by_cases c : holdsL l (valsO D l.Vars as) = true
          · rw [if_pos c, m_mark hs hal h30]
            refine ⟨_, rfl, hs.mark hal, fun i j => ?_⟩
            rw [marked_mark hs hal h30, hm]
            constructor
            · rintro (⟨bs, b1, b2, b3, b4⟩ | h)
              · exact ⟨bs, b1, by omega, b3, b4⟩
              · exact ⟨as, ha, Nat.le_refl _, h, c⟩
            · rintro ⟨bs, b1, b2, b3, b4⟩
              rcases Nat.lt_or_ge (rankO (lensO D l.Vars) bs) (rankO (lensO D l.Vars) as) with h | h
              · exact .inl ⟨bs, b1, h, b3, b4⟩
              · have := rankO_inj b1 ha (by omega)
                subst this
                exact .inr b3
          · rw [if_neg c]
            refine ⟨_, rfl, hs, fun i j => ?_⟩
            rw [hm]
            constructor
            · rintro ⟨bs, b1, b2, b3, b4⟩
              exact ⟨bs, b1, by omega, b3, b4⟩
            · rintro ⟨bs, b1, b2, b3, b4⟩
              rcases Nat.lt_or_ge (rankO (lensO D l.Vars) bs) (rankO (lensO D l.Vars) as) with h | h
              · exact ⟨bs, b1, h, b3, b4⟩
              · have := rankO_inj b1 ha (by omega)
                subst this
                exact absurd b4 c
        rw [hM', Option.bind_some]
        obtain ⟨q, hq, h⟩ := m_step hv (fun d hd => by have := (hD d hd).2; omega) (by omega) ha
        rw [hq, Option.bind_some]
        rcases h with ⟨h1, h2⟩ | ⟨h1, bs, h2, h3⟩
        · left
          rw [if_pos h1]
          refine ⟨_, rfl, hs', fun i j => ?_⟩
          rw [hm']
          have hr := nextO_none hpos ha h2
          constructor
          · rintro ⟨bs, b1, _, b3, b4⟩; exact ⟨bs, b1, b3, b4⟩
          · rintro ⟨bs, b1, b3, b4⟩
            have := rankO_lt b1
            exact ⟨bs, b1, by omega, b3, b4⟩
        · right
          rw [if_neg (by omega)]
          obtain ⟨g1, g2⟩ := nextO_some hpos ha h2
          have hlt := rankO_lt ha
          have hlt2 := rankO_lt g1
          refine ⟨_, rfl, ⟨bs, h3, g1, valsO_len hal, rfl, hs', fun i j => ?_⟩, ?_⟩
          · dsimp only
            rw [hm', g2]
            constructor
            · rintro ⟨cs, b1, b2, b3, b4⟩; exact ⟨cs, b1, by omega, b3, b4⟩
            · rintro ⟨cs, b1, b2, b3, b4⟩; exact ⟨cs, b1, by omega, b3, b4⟩
          · dsimp only
            rw [h3, hnat, hnat]
            omega) (s := (_, _, _, _)) ⟨_, hz, hz1, List.length_replicate, rfl, hsh0, fun i j => ⟨fun h => absurd h (hno0 i j), fun ⟨bs, _, h, _⟩ => by rw [hz2] at h; omega⟩⟩
    refine ⟨M, hM, hs, fun i j v hv' n hn' => ?_⟩
    rw [hm]
    have hil := (List.getElem?_eq_some_iff.1 hv').1
    constructor
    · rintro ⟨bs, b1, b3, b4⟩
      have hbl : bs.length = l.Vars.length := by have := b1.len; unfold lensO at this; rwa [List.length_map] at this
      refine ⟨valsO D l.Vars bs, valsO_len hbl, fun k w hw => ?_, ?_, b4⟩
      · obtain ⟨a, e1, e2, e3⟩ := valO_at b1 hw
        exact ⟨_, valsO_get hw e1, List.mem_of_getElem? e3⟩
      · obtain ⟨a, e1, e2, e3⟩ := valO_at b1 hv'
        rw [b3] at e1; cases e1
        rw [hn'] at e3; cases e3
        rw [valsO_get hv' b3]
    · rintro ⟨x, x1, x2, x3, x4⟩
      -- the places of the values
      have hex : ∀ k, k < l.Vars.length → ∃ a : Nat, ∀ w, l.Vars[k]? = some w → (domOf D w)[a]? = x[k]? ∧ (k = i → a = j) := fun k hk => by
        have hw := List.getElem?_eq_getElem hk
        obtain ⟨y, y1, y2⟩ := x2 k _ hw
        by_cases hki : k = i
        · subst hki
          refine ⟨j, fun w hw' => ⟨?_, fun _ => rfl⟩⟩
          rw [hv'] at hw'; cases hw'
          rw [hn', x3]
        · obtain ⟨a, ha⟩ := List.mem_iff_getElem?.1 y2
          refine ⟨a, fun w hw' => ⟨?_, fun h => absurd h hki⟩⟩
          rw [hw] at hw'; cases hw'
          rw [ha, y1]
      obtain ⟨bs, bl, hb⟩ := Go.Sy.list_of hex
      have hvb : ValO (lensO D l.Vars) bs := by
        refine ValO.of (by unfold lensO; rw [List.length_map, bl]) fun k a n' hk hn2 => ?_
        have hkl : k < l.Vars.length := by have := (List.getElem?_eq_some_iff.1 hk).1; omega
        have hw := List.getElem?_eq_getElem hkl
        rw [lensO_get hw] at hn2; cases hn2
        obtain ⟨y, y1, _⟩ := x2 k _ hw
        have := (hb k a hk _ hw).1
        rw [y1] at this
        exact (List.getElem?_eq_some_iff.1 this).1
      have hvx : valsO D l.Vars bs = x := by
        apply List.ext_getElem?
        intro k
        by_cases hk : k < l.Vars.length
        · have hw := List.getElem?_eq_getElem hk
          have hbk := List.getElem?_eq_getElem (show k < bs.length by omega)
          obtain ⟨y, y1, _⟩ := x2 k _ hw
          have h9 := (hb k _ hbk _ hw).1
          rw [valsO_get hw hbk, List.getD_eq_getElem?_getD, h9, y1]; rfl
        · rw [List.getElem?_eq_none (by rw [valsO_len bl]; omega), List.getElem?_eq_none (by omega)]
      refine ⟨bs, hvb, ?_, by rw [hvx]; exact x4⟩
      have hbi := List.getElem?_eq_getElem (show i < bs.length by omega)
      have := (hb i _ hbi _ hv').2 rfl
      rw [hbi, this]
end Go.Proofs.Ytopmcncaanjboaa
