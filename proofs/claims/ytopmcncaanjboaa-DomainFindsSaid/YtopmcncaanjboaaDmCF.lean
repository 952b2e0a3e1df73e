/- Going through all combinations in plain words: each comes once. -/
import Derived.Test.YtopmcncaanjboaaDmBF
namespace Go.Proofs.Ytopmcncaanjboaa
open Go Go.Mir
set_option linter.unusedVariables false
/-- The next combination of numbers below some lengths. -/
def nextO : List Nat → List Nat → Option (List Nat)
  | n :: ns, a :: as => match nextO ns as with
    | some as' => some (a :: as')
    | none => if a + 1 < n then some ((a + 1) :: as.map fun _ => 0) else none
  | _, _ => none
def ValO : List Nat → List Nat → Prop
  | [], [] => True
  | n :: ns, a :: as => a < n ∧ ValO ns as
  | _, _ => False
def prodO : List Nat → Nat
  | [] => 1
  | n :: ns => n * prodO ns
def rankO : List Nat → List Nat → Nat
  | n :: ns, a :: as => a * prodO ns + rankO ns as
  | _, _ => 0
theorem ValO.len : ∀ {ns as : List Nat}, ValO ns as → as.length = ns.length
  | [], [], _ => rfl
  | _ :: _, _ :: _, h => by rw [List.length_cons, List.length_cons, ValO.len h.2]
  | [], _ :: _, h => h.elim
  | _ :: _, [], h => h.elim
theorem rankO_lt : ∀ {ns as : List Nat}, ValO ns as → rankO ns as < prodO ns
  | [], [], _ => by simp [rankO, prodO]
  | n :: ns, a :: as, h => by
    have := rankO_lt h.2
    rw [rankO, prodO]
    have h1 : (a + 1) * prodO ns ≤ n * prodO ns := Nat.mul_le_mul_right _ h.1
    rw [Nat.succ_mul] at h1
    omega
  | [], _ :: _, h => h.elim
  | _ :: _, [], h => h.elim
theorem rankO_inj : ∀ {ns as bs : List Nat}, ValO ns as → ValO ns bs → rankO ns as = rankO ns bs → as = bs
  | [], [], [], _, _, _ => rfl
  | n :: ns, a :: as, b :: bs, h1, h2, h => by
    have r1 := rankO_lt h1.2
    have r2 := rankO_lt h2.2
    rw [rankO, rankO] at h
    have hab : a = b := by
      rcases Nat.lt_trichotomy a b with hl | he | hl
      · have : (a + 1) * prodO ns ≤ b * prodO ns := Nat.mul_le_mul_right _ hl
        rw [Nat.succ_mul] at this; omega
      · exact he
      · have : (b + 1) * prodO ns ≤ a * prodO ns := Nat.mul_le_mul_right _ hl
        rw [Nat.succ_mul] at this; omega
    subst hab
    rw [rankO_inj h1.2 h2.2 (by omega)]
  | [], _ :: _, _, h, _, _ => h.elim
  | _ :: _, [], _, h, _, _ => h.elim
  | [], [], _ :: _, _, h, _ => h.elim
  | _ :: _, _ :: _, [], _, h, _ => h.elim
def PosO (ns : List Nat) : Prop := ∀ n ∈ ns, 0 < n
theorem zero_valO : ∀ {ns as : List Nat}, PosO ns → as.length = ns.length → ValO ns (as.map fun _ => 0) ∧ rankO ns (as.map fun _ => 0) = 0
  | [], [], _, _ => ⟨trivial, rfl⟩
  | n :: ns, a :: as, hp, hl => by
    have := zero_valO (ns := ns) (as := as) (fun m hm => hp m (List.mem_cons_of_mem _ hm)) (by simpa using hl)
    refine ⟨⟨hp n List.mem_cons_self, this.1⟩, ?_⟩
    show 0 * prodO ns + rankO ns (as.map fun _ => 0) = 0
    rw [this.2, Nat.zero_mul]
  | [], _ :: _, _, h => by cases h
  | _ :: _, [], _, h => by cases h
theorem nextO_some : ∀ {ns as bs : List Nat}, PosO ns → ValO ns as → nextO ns as = some bs → ValO ns bs ∧ rankO ns bs = rankO ns as + 1
  | n :: ns, a :: as, bs, hp, hv, h => by
    have hp' : PosO ns := fun m hm => hp m (List.mem_cons_of_mem _ hm)
    rw [nextO] at h
    split at h
    · rename_i as' h1
      cases h
      obtain ⟨g1, g2⟩ := nextO_some hp' hv.2 h1
      refine ⟨⟨hv.1, g1⟩, ?_⟩
      rw [rankO, rankO, g2]; omega
    · rename_i h1
      split at h
      · rename_i h2
        cases h
        obtain ⟨g1, g2⟩ := zero_valO hp' hv.2.len
        refine ⟨⟨h2, g1⟩, ?_⟩
        have h3 := nextO_none hp' hv.2 h1
        rw [rankO, rankO, g2, Nat.succ_mul]; omega
      · cases h
  | [], _, _, _, _, h => by simp [nextO] at h
  | _ :: _, [], _, _, _, h => by simp [nextO] at h
where
  nextO_none : ∀ {ns as : List Nat}, PosO ns → ValO ns as → nextO ns as = none → rankO ns as + 1 = prodO ns
  | [], [], _, _, _ => by simp [rankO, prodO]
  | n :: ns, a :: as, hp, hv, h => by
    have hp' : PosO ns := fun m hm => hp m (List.mem_cons_of_mem _ hm)
    rw [nextO] at h
    split at h
    · cases h
    · rename_i h1
      split at h
      · cases h
      · rename_i h2
        have h3 := nextO_none hp' hv.2 h1
        have h4 := hv.1
        have h5 : n = a + 1 := by omega
        subst h5
        rw [rankO, prodO, Nat.succ_mul]; omega
  | [], _ :: _, _, h, _ => h.elim
  | _ :: _, [], _, h, _ => h.elim
theorem nextO_none {ns as : List Nat} (hp : PosO ns) (hv : ValO ns as) (h : nextO ns as = none) : rankO ns as + 1 = prodO ns := nextO_some.nextO_none hp hv h
theorem nextO_app : ∀ {n1 a1 n2 a2 b : List Nat}, a1.length = n1.length → nextO n2 a2 = some b → nextO (n1 ++ n2) (a1 ++ a2) = some (a1 ++ b)
  | [], [], _, _, _, _, h => h
  | n :: n1, a :: a1, n2, a2, b, hl, h => by
    rw [List.cons_append, List.cons_append, nextO, nextO_app (by simpa using hl) h]; rfl
  | [], _ :: _, _, _, _, h, _ => by cases h
  | _ :: _, [], _, _, _, h, _ => by cases h
theorem ValO.get : ∀ {ns as : List Nat} {i : Nat} {a : Nat}, ValO ns as → as[i]? = some a → ∃ n, ns[i]? = some n ∧ a < n
  | _ :: _, _ :: _, 0, _, h, e => by cases e; exact ⟨_, rfl, h.1⟩
  | n :: ns, a :: as, i + 1, x, h, e => ValO.get (ns := ns) (as := as) (i := i) (a := x) h.2 (by simpa using e)
  | [], [], _, _, _, e => by simp at e
  | [], _ :: _, _, _, h, _ => h.elim
  | _ :: _, [], _, _, h, _ => h.elim
theorem ValO.of : ∀ {ns as : List Nat}, as.length = ns.length → (∀ (i a n : Nat), as[i]? = some a → ns[i]? = some n → a < n) → ValO ns as
  | [], [], _, _ => trivial
  | n :: ns, a :: as, hl, h => ⟨h 0 a n rfl rfl, ValO.of (by simpa using hl) fun i x y hx hy => h (i + 1) x y hx hy⟩
  | [], _ :: _, h, _ => by cases h
  | _ :: _, [], h, _ => by cases h
/-- Numbers as the machine has them. -/
def asI (as : List Nat) : List Int := as.map fun (a : Nat) => (a : Int)
theorem asI_get {as : List Nat} {i : Nat} : (asI as)[i]? = (as[i]?).map fun (a : Nat) => (a : Int) := by unfold asI; rw [List.getElem?_map]
theorem asI_len (as : List Nat) : (asI as).length = as.length := List.length_map _
/-- The domain of a variable. -/
def domOf (D : List (List Int)) (v : Int) : List Int := (idx D v).getD []
theorem domOf_idx {D : List (List Int)} {v : Int} (h : 0 ≤ v ∧ v < D.length) : idx D v = some (domOf D v) := by
  obtain ⟨i, rfl⟩ : ∃ i : Nat, v = i := ⟨v.toNat, by omega⟩
  unfold domOf
  rw [idx_ok (show i < D.length by omega)]; rfl
/-- One step of the numbers, by the machine's loop. -/
theorem m_step {D : List (List Int)} {vs : List Int} (hv : ∀ v ∈ vs, 0 ≤ v ∧ v < D.length) (hl : ∀ d ∈ D, d.length ≤ 100000) {as : List Nat} (hn : vs.length < 1000000) (ha : ValO (vs.map fun v => (domOf D v).length) as) :
    ∃ q, Mir.Loop (S := List Int × Int) (Q := List Int × Int) (asI as, (((asI as).length : Nat) : Int) - 1) (fun s282 =>
              if s282.2 ≥ 0 then
                (Mir.idx s282.1 s282.2).bind fun x293 =>
                (Mir.idx s282.1 s282.2).bind fun x301 =>
                (Mir.upd s282.1 s282.2 (Mir.w64 (x293 + 1))).bind fun x310 =>
                (Mir.idx x310 s282.2).bind fun x312 =>
                (Mir.idx vs s282.2).bind fun x319 =>
                (Mir.idx D x319).bind fun x326 =>
                if x312 < ((x326.length : Nat) : Int) then
                  some (.inr (x310, s282.2))
                else
                  (Mir.idx x310 s282.2).bind fun x340 =>
                  (Mir.upd x310 s282.2 0).bind fun x349 =>
                  some (.inl (x349, Mir.w64 (s282.2 - 1)))
              else
                some (.inr (s282.1, s282.2))) = some q ∧
      (q.2 < 0 ∧ nextO (vs.map fun v => (domOf D v).length) as = none ∨ 0 ≤ q.2 ∧ ∃ bs, nextO (vs.map fun v => (domOf D v).length) as = some bs ∧ q.1 = asI bs) := by
  generalize hns : (vs.map fun v => (domOf D v).length) = ns at *
  have hlen := ha.len
  have hvl : vs.length = ns.length := by rw [← hns, List.length_map]
  refine Loop_ex (fun (s : List Int × Int) => ∃ i : Nat, i ≤ as.length ∧ s.2 = (i : Int) - 1 ∧ s.1 = asI (as.take i ++ (as.drop i).map fun _ => 0) ∧ nextO (ns.drop i) (as.drop i) = none) (fun (q : List Int × Int) => (q.2 < 0 ∧ nextO ns as = none ∨ 0 ≤ q.2 ∧ ∃ bs, nextO ns as = some bs ∧ q.1 = asI bs)) (fun (s : List Int × Int) => (s.2 + 1).toNat) ?_ (s := (asI as, (((asI as).length : Nat) : Int) - 1)) ⟨as.length, Nat.le_refl _, by rw [asI_len], by simp, ?_⟩
  · rintro ⟨_, _⟩ ⟨i, hi, rfl, rfl, hno⟩
    dsimp only
    cases i with
    | zero =>
      left
      rw [if_neg (by omega)]
      exact ⟨_, rfl, .inl ⟨by dsimp only; omega, by simpa using hno⟩⟩
    | succ i =>
      have hi' : i < as.length := by omega
      have hz : (as.take (i + 1) ++ (as.drop (i + 1)).map fun _ => 0) = as.take i ++ as[i] :: ((as.drop (i + 1)).map fun _ => 0) := by
        rw [List.take_add_one, List.getElem?_eq_getElem hi', List.append_assoc]; rfl
      have hlt : (as.take i).length = i := by rw [List.length_take]; omega
      have hget : (asI (as.take i ++ as[i] :: ((as.drop (i + 1)).map fun _ => 0)))[i]? = some ((as[i] : Nat) : Int) := by
        rw [asI_get, List.getElem?_append_right (by omega), hlt, Nat.sub_self]; rfl
      have hset : ∀ y : Nat, (asI (as.take i ++ as[i] :: ((as.drop (i + 1)).map fun _ => 0))).set i (y : Int) = asI (as.take i ++ y :: ((as.drop (i + 1)).map fun _ => 0)) := by
        intro y
        unfold asI
        rw [List.map_append, List.map_append, List.set_append_right _ _ (by rw [List.length_map]; omega), List.length_map, hlt, Nat.sub_self]; rfl
      have hll : (asI (as.take i ++ as[i] :: ((as.drop (i + 1)).map fun _ => 0))).length = as.length := by
        rw [asI_len, List.length_append, List.length_cons, List.length_map, List.length_drop, hlt]; omega
      have hvi : i < vs.length := by omega
      have hmem : vs[i] ∈ vs := List.getElem_mem _
      have hdom := domOf_idx (hv _ hmem)
      have hni : ns[i]? = some (domOf D vs[i]).length := by rw [← hns, List.getElem?_map, List.getElem?_eq_getElem hvi]; rfl
      have hal : as[i] < (domOf D vs[i]).length := by
        obtain ⟨n, h1, h2⟩ := ha.get (List.getElem?_eq_getElem hi')
        rw [hni] at h1; cases h1; exact h2
      have hdl : (domOf D vs[i]).length ≤ 100000 := by
        obtain ⟨k, hk⟩ : ∃ k : Nat, vs[i] = k := ⟨vs[i].toNat, by have := hv _ hmem; omega⟩
        have h9 := hv _ hmem
        rw [hk] at h9 ⊢
        unfold domOf
        rw [idx_ok (show k < D.length by omega)]
        exact hl _ (List.getElem_mem _)
      have hw : w64 (((as[i] : Nat) : Int) + 1) = ((as[i] + 1 : Nat) : Int) := by rw [w64_eq (by omega)]; omega
      have hnd : ns.drop i = (domOf D vs[i]).length :: ns.drop (i + 1) := by
        obtain ⟨g1, g2⟩ := List.getElem?_eq_some_iff.1 hni
        rw [List.drop_eq_getElem_cons g1, g2]
      have had : as.drop i = as[i] :: as.drop (i + 1) := List.drop_eq_getElem_cons hi'
      rw [if_pos (by omega), hz, show (((i + 1 : Nat) : Int) - 1) = ((i : Nat) : Int) by omega, idx_nat, hget, Option.bind_some, Option.bind_some, upd_ok (by omega), Option.bind_some, hw, hset, idx_nat]
      have hget2 : ∀ y : Nat, (asI (as.take i ++ y :: ((as.drop (i + 1)).map fun _ => 0)))[i]? = some ((y : Nat) : Int) := by
        intro y
        rw [asI_get, List.getElem?_append_right (by omega), hlt, Nat.sub_self]; rfl
      rw [hget2, Option.bind_some, idx_nat, List.getElem?_eq_getElem hvi, Option.bind_some, hdom, Option.bind_some]
      by_cases c : as[i] + 1 < (domOf D vs[i]).length
      · left
        rw [if_pos (by omega)]
        refine ⟨_, rfl, .inr ⟨by dsimp only; omega, _, ?_, rfl⟩⟩
        have e1 : ns = ns.take i ++ ns.drop i := (List.take_append_drop _ _).symm
        have e2 : as = as.take i ++ as.drop i := (List.take_append_drop _ _).symm
        have h1 : nextO (ns.drop i) (as.drop i) = some ((as[i] + 1) :: ((as.drop (i + 1)).map fun _ => 0)) := by
          rw [hnd, had, nextO, hno]
          show (if as[i] + 1 < _ then _ else _) = _
          rw [if_pos c]
        have := nextO_app (n1 := ns.take i) (a1 := as.take i) (by rw [List.length_take, List.length_take]; omega) h1
        rwa [List.take_append_drop, List.take_append_drop] at this
      · right
        have hll2 : i < (asI (as.take i ++ (as[i] + 1) :: ((as.drop (i + 1)).map fun _ => 0))).length := by
          rw [asI_len, List.length_append, List.length_cons, hlt]; omega
        rw [if_neg (by omega), Option.bind_some, upd_ok hll2, Option.bind_some]
        refine ⟨_, rfl, ⟨i, by omega, by dsimp only; rw [w64_eq (by omega)], ?_, ?_⟩, by dsimp only; rw [w64_eq (by omega)]; omega⟩
        · dsimp only
          rw [had, List.map_cons]
          unfold asI
          rw [List.map_append, List.map_append, List.set_append_right _ _ (by rw [List.length_map]; omega), List.length_map, hlt, Nat.sub_self]; rfl
        · rw [hnd, had, nextO, hno]
          show (if as[i] + 1 < _ then _ else _) = _
          rw [if_neg c]
  · rw [List.drop_of_length_le (by omega), List.drop_of_length_le (by omega)]; rfl
end Go.Proofs.Ytopmcncaanjboaa
