/- Limits in plain words: when values satisfy one. -/
import Derived.Test.YtopmcncaanjboaaDmAF
namespace Go.Proofs.Ytopmcncaanjboaa
open Go Go.Mir
set_option linter.unusedVariables false
noncomputable instance (l : List Int) : Decidable l.Nodup := Classical.propDecidable _
/-- The sum of products, as the machine adds. -/
def dotF : Int → List Int → List Int → Int
  | s, a :: A, x :: X => dotF (w64 (s + w64 (a * x))) A X
  | s, _, _ => s
noncomputable def holdsL (l : DLimit) (x : List Int) : Bool :=
  if l.Kind = 3 then decide x.Nodup
  else if l.Kind = 4 then decide (x ∈ l.Rows)
  else if l.Kind = 0 then decide (dotF 0 l.A x ≤ l.B) else if l.Kind = 1 then decide (dotF 0 l.A x = l.B) else !decide (dotF 0 l.A x = l.B)
theorem m_apart (g : Nat) (x : List Int) : m_domain_apart_holds g (DApart.mk) x = some (decide x.Nodup) := by
  unfold m_domain_apart_holds
  obtain ⟨q, hq, ⟨rfl, h⟩ | ⟨rfl, h⟩⟩ := Loop_ex (Q := Unit ⊕ Bool) (body := fun s7 : Nat =>
      if ((s7 : Nat) : Int) < ((x.length : Nat) : Int) then
        jx (J := Unit) (A := (Nat) ⊕ ((Unit) ⊕ (Bool))) (
          ((x)[s7]?).bind fun x15 =>
          (Mir.sub x 0 ((s7 : Nat) : Int)).bind fun x26 =>
          Mir.Loop (S := Nat) (Q := (Unit) ⊕ ((Nat) ⊕ ((Unit) ⊕ (Bool)))) (0 : Nat) fun s30 =>
            if ((s30 : Nat) : Int) < ((x26.length : Nat) : Int) then
              ((x26)[s30]?).bind fun x35 =>
              if x15 = x35 then
                some (.inr (.inr (.inr (.inr false))))
              else
                some (.inl (s30 + 1))
            else
              some (.inr (.inl ()))
        ) fun z12 =>
        some (.inl (s7 + 1))
      else
        some (.inr (.inl ()))) (fun i => i ≤ x.length ∧ (x.take i).Nodup) (fun q => q = .inl () ∧ x.Nodup ∨ q = .inr false ∧ ¬ x.Nodup) (fun i => x.length - i) (by
      rintro i ⟨hi, hn⟩
      by_cases h : i < x.length
      · have hx := List.getElem?_eq_getElem h
        rw [if_pos (by omega), hx, Option.bind_some, sub_ok (by omega), Option.bind_some]
        have e : ((x.take ((i : Nat) : Int).toNat).drop (0 : Int).toNat) = x.take i := by rw [Int.toNat_natCast]; rfl
        rw [e]
        rw [Loop_all (x.take i) (fun y => !decide (x[i] = y)) (by rw [if_neg (by omega)]) fun k y hk hy => by
          rw [if_pos (by omega), hy, Option.bind_some]
          by_cases c : x[i] = y
          · rw [if_pos c, decide_eq_true c]; rfl
          · rw [if_neg c, decide_eq_false c]; rfl]
        by_cases c : (x.take i).all (fun y => !decide (x[i] = y)) = true
        · right
          rw [if_pos c, jx_inl]
          refine ⟨i + 1, rfl, ⟨h, ?_⟩, by omega⟩
          rw [List.take_add_one, hx]
          show (x.take i ++ [x[i]]).Nodup
          rw [List.nodup_append]
          refine ⟨hn, by simp, fun a ha b hb => ?_⟩
          have := List.all_eq_true.1 c a ha
          rw [List.mem_singleton.1 hb]
          intro hab
          simp [hab] at this
        · left
          rw [if_neg c, jx_inr]
          refine ⟨_, rfl, .inr ⟨rfl, fun hnd => c ?_⟩⟩
          rw [List.all_eq_true]
          intro y hy
          have h2 : (x.take (i + 1)).Nodup := hnd.sublist (List.take_sublist _ _)
          rw [List.take_add_one, hx] at h2
          have h2 : (x.take i ++ [x[i]]).Nodup := h2
          rw [List.nodup_append] at h2
          have := h2.2.2 y hy x[i] (by simp)
          simp [Ne.symm this]
      · left
        rw [if_neg (by omega)]
        refine ⟨_, rfl, .inl ⟨rfl, ?_⟩⟩
        rwa [List.take_of_length_le (by omega)] at hn) (s := 0) ⟨Nat.zero_le _, by simp⟩
  · rw [hq, decide_eq_true h]; rfl
  · rw [hq, decide_eq_false h]; rfl
theorem m_sum (g : Nat) (l : DLimit) (x : List Int) (h : l.A.length = x.length) : m_domain_sum_holds g (DSum.mk l) x = some (if l.Kind = 0 then decide (dotF 0 l.A x ≤ l.B) else if l.Kind = 1 then decide (dotF 0 l.A x = l.B) else !decide (dotF 0 l.A x = l.B)) := by
  unfold m_domain_sum_holds
  rw [Loop_rel (fun (s : Int × Nat) (q : Int) => s.2 ≤ x.length ∧ q = dotF s.1 (l.A.drop s.2) (x.drop s.2)) (fun s => x.length - s.2) (q := dotF 0 l.A x) ?_ ⟨Nat.zero_le _, rfl⟩]
  · rw [Option.bind_some]
    by_cases k0 : l.Kind = 0
    · rw [if_pos k0, if_pos k0]
    · rw [if_neg k0, if_neg k0]
      by_cases k1 : l.Kind = 1
      · rw [if_pos k1, if_pos k1]
      · rw [if_neg k1, if_neg k1]
  · rintro ⟨s, i⟩ q ⟨hi, rfl⟩
    dsimp only at hi ⊢
    by_cases c : i < x.length
    · right
      have e1 := List.getElem?_eq_getElem c
      have e2 := List.getElem?_eq_getElem (show i < l.A.length by omega)
      rw [if_pos (by omega), e1, e2, Option.bind_some, Option.bind_some]
      refine ⟨_, rfl, ⟨by dsimp only; omega, ?_⟩, by dsimp only; omega⟩
      rw [List.drop_eq_getElem_cons c, List.drop_eq_getElem_cons (show i < l.A.length by omega), dotF]
    · left
      rw [if_neg (by omega), List.drop_of_length_le (show x.length ≤ i by omega)]
      cases l.A.drop i <;> rfl
theorem m_table (g : Nat) (rows : List (List Int)) (x : List Int) (h : ∀ r ∈ rows, r.length = x.length) : m_domain_table_holds g (DTable.mk rows) x = some (decide (x ∈ rows)) := by
  unfold m_domain_table_holds
  have key := Loop_all rows (fun r => !decide (r = x)) (j := ()) (r := true) (body := fun s8 : Nat =>
      if ((s8 : Nat) : Int) < ((rows.length : Nat) : Int) then
        ((rows)[s8]?).bind fun x13 =>
        (
          Mir.Loop (S := Bool × Nat) (Q := Bool) (true, (0 : Nat)) fun s28 =>
            if ((s28.2 : Nat) : Int) < ((x.length : Nat) : Int) then
              (
                ((x)[s28.2]?).bind fun x35 =>
                if s28.1 = true then
                  ((x13)[s28.2]?).bind fun x44 =>
                  some (decide (x44 = x35))
                else
                  some false
              : Option Bool).bind fun (z33 : Bool) =>
              some (.inl (z33, s28.2 + 1))
            else
              some (.inr s28.1)
        : Option Bool).bind fun (z24 : Bool) =>
        if z24 = true then
          some (.inr (.inr true))
        else
          some (.inl (s8 + 1))
      else
        some (.inr (.inl ()))) (by rw [if_neg (by omega)]) (fun i r hi hr => by
      have hrl := h r (List.mem_of_getElem? hr)
      rw [if_pos (by omega), hr, Option.bind_some]
      rw [Loop_rel (fun (s : Bool × Nat) (q : Bool) => s.2 ≤ x.length ∧ q = (s.1 && decide (r.drop s.2 = x.drop s.2))) (fun s => x.length - s.2) (q := decide (r = x)) ?_ ⟨Nat.zero_le _, by simp⟩]
      · rw [Option.bind_some]
        by_cases c : r = x
        · rw [decide_eq_true c]; rfl
        · rw [decide_eq_false c]; rfl
      · rintro ⟨b, i⟩ q ⟨hi, rfl⟩
        dsimp only at hi ⊢
        by_cases c : i < x.length
        · right
          have e1 := List.getElem?_eq_getElem c
          have e2 := List.getElem?_eq_getElem (show i < r.length by omega)
          rw [if_pos (by omega), e1, Option.bind_some]
          refine ⟨(b && decide (r[i] = x[i]), i + 1), ?_, ⟨by dsimp only; omega, ?_⟩, by dsimp only; omega⟩
          · cases b
            · rfl
            · rw [if_pos rfl, e2]; rfl
          · dsimp only
            rw [List.drop_eq_getElem_cons c, List.drop_eq_getElem_cons (show i < r.length by omega), Bool.and_assoc]
            congr 1
            by_cases c2 : r[i] = x[i]
            · rw [decide_eq_true c2, Bool.true_and]
              exact decide_eq_decide.2 ⟨fun h => (List.cons.inj h).2, fun h => by rw [c2, h]⟩
            · rw [decide_eq_false c2, Bool.false_and]
              exact decide_eq_false fun h => c2 (List.cons.inj h).1
        · left
          rw [if_neg (by omega), List.drop_of_length_le (show x.length ≤ i by omega), List.drop_of_length_le (show r.length ≤ i by omega)]
          simp)
  rw [key]
  by_cases c : x ∈ rows
  · rw [decide_eq_true c, if_neg]
    · rfl
    · intro h2
      have := List.all_eq_true.1 h2 x c
      simp at this
  · rw [decide_eq_false c, if_pos]
    · rfl
    · rw [List.all_eq_true]
      intro r hr
      have : r ≠ x := fun e => c (e ▸ hr)
      simp [this]
/-- What the program asks of a limit, by its kind. -/
noncomputable def holdsM (g : Nat) (k : ILimit) (x : List Int) : Option Bool :=
  ILimit.on k none (fun y => m_domain_apart_holds g (DApart.mk) x) (fun y => m_domain_table_holds g y x) (fun y => m_domain_sum_holds g y x)
def ofL (l : DLimit) : ILimit := if l.Kind = 3 then .c78 (DApart.mk) else if l.Kind = 4 then .c80 (DTable.mk l.Rows) else .c82 (DSum.mk l)
theorem m_of (g : Nat) (l : DLimit) : m_domain_of g l = some (ofL l) := by
  unfold m_domain_of ofL
  by_cases h3 : l.Kind = 3
  · rw [if_pos h3, if_pos h3]
  · rw [if_neg h3, if_neg h3]
    by_cases h4 : l.Kind = 4
    · rw [if_pos h4, if_pos h4]
    · rw [if_neg h4, if_neg h4]
theorem holdsM_eq (g : Nat) {n : Nat} {l : DLimit} (hl : LimOk n l) {x : List Int} (hx : x.length = l.Vars.length) : holdsM g (ofL l) x = some (holdsL l x) := by
  unfold holdsM ofL holdsL
  by_cases h3 : l.Kind = 3
  · rw [if_pos h3, if_pos h3]; exact m_apart g x
  · rw [if_neg h3, if_neg h3]
    by_cases h4 : l.Kind = 4
    · rw [if_pos h4, if_pos h4]; exact m_table g l.Rows x fun r hr => by rw [hl.rows r hr, hx]
    · rw [if_neg h4, if_neg h4]
      exact m_sum g l x (by have := hl.k0; have := hl.k4; rw [hl.sum (by omega), hx])
theorem m_isEmpty (g : Nat) (l : DLimit) : m_domain_isEmpty g (ofL l) = some (decide (l.Kind = 4 ∧ l.Rows = [])) := by
  unfold m_domain_isEmpty ofL
  by_cases h3 : l.Kind = 3
  · rw [if_pos h3, decide_eq_false (by omega)]; rfl
  · rw [if_neg h3]
    by_cases h4 : l.Kind = 4
    · rw [if_pos h4]
      show some (decide (((l.Rows.length : Nat) : Int) = 0)) = _
      congr 1
      refine decide_eq_decide.2 ⟨fun h => ⟨h4, List.eq_nil_of_length_eq_zero (by omega)⟩, fun h => by rw [h.2]; rfl⟩
    · rw [if_neg h4, decide_eq_false (by omega)]; rfl
end Go.Proofs.Ytopmcncaanjboaa
