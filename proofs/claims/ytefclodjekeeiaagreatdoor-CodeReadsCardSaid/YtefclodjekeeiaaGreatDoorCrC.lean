/- A text parted at a byte, and its end cut off. -/
import Derived.Test.YtefclodjekeeiaaGreatDoorCrB
namespace Go.Proofs.YtefclodjekeeiaaGreatDoor
open Go Go.Mir
set_option linter.unusedVariables false
def splitS (c : UInt8) : List UInt8 → List (List UInt8)
  | [] => [[]]
  | b :: r => if b = c then [] :: splitS c r else match splitS c r with
    | [] => [[b]]
    | w :: ws => (b :: w) :: ws
theorem splitS_cons (c b : UInt8) (r : List UInt8) : splitS c (b :: r) = if b = c then [] :: splitS c r else match splitS c r with
    | [] => [[b]]
    | w :: ws => (b :: w) :: ws := rfl
theorem splitS_ne (c : UInt8) (s : List UInt8) : splitS c s ≠ [] := by
  cases s with
  | nil => exact fun h => by cases h
  | cons b r =>
    rw [splitS_cons]
    split
    · exact fun h => by cases h
    · split <;> exact fun h => by cases h
theorem splitS_small (c : UInt8) : ∀ s : List UInt8, (splitS c s).length ≤ s.length + 1 ∧ ∀ w ∈ splitS c s, w.length ≤ s.length
  | [] => ⟨Nat.le_refl _, fun w hw => by rw [List.mem_singleton.1 (show w ∈ [[]] from hw)]; exact Nat.le_refl _⟩
  | b :: r => by
    obtain ⟨h1, h2⟩ := splitS_small c r
    rw [splitS_cons]
    split
    · refine ⟨by rw [List.length_cons, List.length_cons]; omega, fun w hw => ?_⟩
      rcases List.mem_cons.1 hw with rfl | hw
      · exact Nat.zero_le _
      · have := h2 w hw; rw [List.length_cons]; omega
    · split
      · refine ⟨by simp, fun w hw => ?_⟩
        rw [List.mem_singleton.1 hw]; simp
      · rename_i v vs hv
        rw [hv] at h1 h2
        refine ⟨by simp only [List.length_cons] at h1 ⊢; omega, fun w hw => ?_⟩
        rcases List.mem_cons.1 hw with rfl | hw
        · have := h2 v (by simp); rw [List.length_cons, List.length_cons]; omega
        · have := h2 w (by simp [hw]); rw [List.length_cons]; omega
theorem splitS_none {c : UInt8} : ∀ {s : List UInt8}, c ∉ s → splitS c s = [s]
  | [], _ => rfl
  | b :: r, h => by
    rw [splitS_cons, if_neg (fun e => h (by rw [e]; simp)), splitS_none (fun hm => h (by simp [hm]))]
theorem splitS_at {c : UInt8} : ∀ {s : List UInt8} {k : Nat}, s[k]? = some c → c ∉ s.take k → splitS c s = s.take k :: splitS c (s.drop (k + 1))
  | [], k, h, _ => by simp at h
  | b :: r, 0, h, _ => by
    have : b = c := by simpa using h
    rw [splitS_cons, if_pos this]; rfl
  | b :: r, k + 1, h, hn => by
    have hb : b ≠ c := fun e => hn (by simp [e])
    rw [splitS_cons, if_neg hb, splitS_at (s := r) (k := k) (by simpa using h) (fun hm => hn (by simp [hm]))]
    rfl
theorem count_at {c : UInt8} {s : List UInt8} {k : Nat} (h : s[k]? = some c) (hn : c ∉ s.take k) : s.count c = (s.drop (k + 1)).count c + 1 := by
  have hk := (List.getElem?_eq_some_iff.1 h).1
  have e : s = s.take k ++ c :: s.drop (k + 1) := by
    have h2 : s[k] = c := (List.getElem?_eq_some_iff.1 h).2
    rw [← h2, ← List.drop_eq_getElem_cons hk, List.take_append_drop]
  rw [show s.count c = (s.take k ++ c :: s.drop (k + 1)).count c by rw [← e], List.count_append, List.count_eq_zero.2 hn, List.count_cons_self]
  omega
theorem set_take {α : Type} (l : List α) (i : Nat) (x : α) (h : i < l.length) : (l.set i x).take (i + 1) = l.take i ++ [x] := by
  have hm : (l.take i).length = i := by rw [List.length_take]; omega
  rw [List.take_set, List.take_succ_eq_append_getElem h, List.set_append_right _ _ (by omega), hm, Nat.sub_self]; rfl
theorem m_Split (g : Nat) (s : List UInt8) (c : UInt8) (hs : s.length ≤ 100000) : m_strings_Split g s [c] = some (splitS c s) := by
  unfold m_strings_Split m_strings_genSplit
  have hc : s.count c ≤ s.length := List.count_le_length
  refine Gives.eq (Gives.bind (fun q => q = splitS c s) (Gives.neg (by decide) (Gives.neg (by simp) (Gives.bindE (a := ((s.count c : Nat) : Int) + 1) ?_ ?_))) (fun a ha => Gives.some ha))
  · rw [if_pos (by decide), show x_count g s [c] = some ((s.count c : Nat) : Int) from rfl, Option.bind_some, w64_eq (by omega)]
  · refine Gives.bindE (show small s = some () from if_pos (by omega)) ?_
    rw [if_neg (by omega)]
    refine Gives.bindE (a := List.replicate (s.count c + 1) []) (made_ok (n := s.count c + 1) ⟨by omega, by omega⟩) ?_
    rw [w64_eq (a := ((s.count c : Nat) : Int) + 1 - 1) (by omega)]
    refine Gives.bind (fun z : List UInt8 × List (List UInt8) × Int => ∃ i : Nat, z.2.2 = i ∧ i < z.2.1.length ∧ z.2.1.length ≤ 100001 ∧ z.2.1.take i ++ [z.1] = splitS c s) ?_ ?_
    · refine Gives.loop (fun z : List UInt8 × List (List UInt8) × Int => ∃ i : Nat, z.2.2 = i ∧ z.2.1.length = s.count c + 1 ∧ i + z.1.count c = s.count c ∧ z.1.length ≤ s.length ∧ z.2.1.take i ++ splitS c z.1 = splitS c s) (fun z => s.count c + 1 - z.2.2.toNat) ⟨0, rfl, by simp, by simp, Nat.le_refl _, rfl⟩ ?_
      rintro ⟨t, row, x⟩ ⟨i, h1, h2, h3, h4, h5⟩
      dsimp only at h1 h2 h3 h4 h5 ⊢
      subst h1
      refine Gives.ite (fun c1 => ?_) (fun c1 => Gives.some ?_)
      · rw [show x_index g t [c] = some (Lib.indexByte t c) from rfl]
        refine Gives.bindE rfl ?_
        rcases ix_spec c t with ⟨_, hn⟩ | ⟨k, k1, k2, k3⟩
        · rw [List.count_eq_zero.2 hn] at h3; omega
        · have hk := (List.getElem?_eq_some_iff.1 k2).1
          have hcnt := count_at k2 k3
          rw [k1]
          refine Gives.neg (by omega) ?_
          rw [w64_eq (a := (k : Int) + 0) (by omega), show (([c] : List UInt8).length : Int) = 1 from rfl, w64_eq (a := (k : Int) + 1) (by omega), w64_eq (a := (i : Int) + 1) (by omega)]
          refine Gives.bindE (a := t.take k) (by rw [sub_ok ⟨by decide, by omega, by omega⟩, show ((k : Int) + 0).toNat = k by omega]; rfl) (Gives.bindE (idx_ok (by omega)) (Gives.bindE (upd_ok (by omega)) (Gives.bindE (show small ([c] : List UInt8) = some () from if_pos (by simp)) (Gives.bindE (a := t.drop (k + 1)) ?_ (Gives.some ?_)))))
          · rw [sub_ok ⟨by omega, by omega, Int.le_refl _⟩, Int.toNat_natCast, List.take_length, show ((k : Int) + 1).toNat = k + 1 by omega]
          · refine ⟨⟨i + 1, rfl, by rw [List.length_set]; exact h2, by dsimp only; omega, by dsimp only; rw [List.length_drop]; omega, ?_⟩, by dsimp only; omega⟩
            dsimp only
            rw [set_take _ _ _ (by omega), ← h5, splitS_at k2 k3]
            simp
      · have : i = s.count c := by omega
        have h0 : t.count c = 0 := by omega
        refine ⟨i, rfl, by dsimp only; omega, by dsimp only; omega, ?_⟩
        dsimp only
        rw [← h5, splitS_none (List.count_eq_zero.1 h0)]
    · rintro ⟨t, row, x⟩ ⟨i, h1, h2, h3, h4⟩
      dsimp only at h1 h2 h3 h4 ⊢
      subst h1
      rw [w64_eq (a := (i : Int) + 1) (by omega)]
      refine Gives.bindE (idx_ok h2) (Gives.bindE (upd_ok h2) (Gives.bindE (a := row.take i ++ [t]) ?_ (Gives.some h4)))
      rw [sub_ok ⟨by decide, by omega, by rw [List.length_set]; omega⟩, show ((i : Int) + 1).toNat = i + 1 by omega, set_take _ _ _ h2]; rfl
def trimS (s : List UInt8) : List UInt8 := if s.getLast? = some 10 then s.dropLast else s
theorem trimS_le (s : List UInt8) : (trimS s).length ≤ s.length := by
  unfold trimS
  split
  · rw [List.length_dropLast]; omega
  · exact Nat.le_refl _
theorem sub_init {s : List UInt8} (h : s ≠ []) : Mir.sub s 0 (((s.length : Nat) : Int) - 1) = some s.dropLast := by
  have := List.length_pos_iff.2 h
  rw [sub_ok ⟨by decide, by omega, by omega⟩, show (((s.length : Nat) : Int) - 1).toNat = s.length - 1 by omega, ← List.dropLast_eq_take]; rfl
theorem getLast_at {s : List UInt8} (h : s ≠ []) : s[s.length - 1]? = s.getLast? := by rw [List.getLast?_eq_getElem?]
theorem m_Trim (g : Nat) (s : List UInt8) (h : s ≠ []) (hs : s.length ≤ 100000) : m_strings_TrimSuffix g s [10] = some (trimS s) := by
  have hl := List.length_pos_iff.2 h
  obtain ⟨b, hb⟩ : ∃ b, s.getLast? = some b := ⟨_, List.getLast?_eq_some_getLast h⟩
  unfold m_strings_TrimSuffix m_stringslite_TrimSuffix m_stringslite_HasSuffix
  have hsub : Mir.sub s (((s.length : Nat) : Int) - 1) ((s.length : Nat) : Int) = some [b] := by
    rw [sub_ok ⟨by omega, by omega, Int.le_refl _⟩, Int.toNat_natCast, List.take_length, show (((s.length : Nat) : Int) - 1).toNat = s.length - 1 by omega]
    have h2 := getLast_at h
    rw [hb] at h2
    rw [List.drop_eq_getElem_cons (by omega), (List.getElem?_eq_some_iff.1 h2).2, show s.length - 1 + 1 = s.length by omega, List.drop_length]
  rw [show (([10] : List UInt8).length : Int) = 1 from rfl, if_pos (by omega), show small s = some () from if_pos (by omega), Option.bind_some, show small ([10] : List UInt8) = some () from if_pos (by simp), Option.bind_some, hsub, Option.bind_some, Option.bind_some, Option.bind_some]
  unfold trimS
  rw [hb]
  by_cases hc : b = 10
  · subst hc
    rw [if_pos rfl, if_pos (by decide), Option.bind_some, Option.bind_some, sub_init h]; rfl
  · rw [if_neg (by simpa using hc), if_neg (by simpa using hc)]; rfl
end Go.Proofs.YtefclodjekeeiaaGreatDoor
