/- Numbers of the reference, lists of numbers, jumps: both sides tell them the same. -/
import Derived.Test.YtefclodjekeeiaaGreatDoorCrA
namespace Go.Proofs.YtefclodjekeeiaaGreatDoor
open Go Go.Mir
set_option linter.unusedVariables false
theorem r_whole2 (t : List UInt8) (ht : t.length ≤ 100000) {P : Bool → Prop} (hP : P (numS t).isSome) : Gives ((
    if ((t.length : Nat) : Int) < 1 then
      some true
    else
      if ((t.length : Nat) : Int) > 10 then
        some true
      else
        ((t)[0]?).bind fun x19 =>
        if ((x19.toNat : Nat) : Int) = 48 then
          some (decide (((t.length : Nat) : Int) > 1))
        else
          some false
  : Option Bool).bind fun (z15 : Bool) =>
  if z15 = true then
    some false
  else
    jx (J := Unit) (A := Bool) (
      Mir.Loop (S := Nat) (Q := (Unit) ⊕ (Bool)) (0 : Nat) fun s28 =>
        if ((s28 : Nat) : Int) < ((t.length : Nat) : Int) then
          (
            ((t)[s28]?).bind fun x35 =>
            if ((x35.toNat : Nat) : Int) < 48 then
              some true
            else
              ((t)[s28]?).bind fun x38 =>
              some (decide (((x38.toNat : Nat) : Int) > 57))
          : Option Bool).bind fun (z33 : Bool) =>
          if z33 = true then
            some (.inr (.inr false))
          else
            (Mir.small t).bind fun x42 =>
            some (.inl (s28 + 1))
        else
          some (.inr (.inl ()))
    ) fun z24 =>
    some true) P := by
  refine Gives.bind (fun z => z = decide (badN t)) ?_ fun z hz => ?_
  · refine Gives.ite (fun c => Gives.some ?_) (fun c => ?_)
    · have : t = [] := List.eq_nil_of_length_eq_zero (by omega)
      rw [decide_eq_true (show badN t from .inl this)]
    refine Gives.ite (fun c0 => Gives.some ?_) (fun c0 => ?_)
    · rw [decide_eq_true (show badN t from .inr (.inl (by omega)))]
    match t, c, c0 with
    | [], c, _ => exact absurd (by simp) c
    | x :: r, c, c0 =>
      refine Gives.bindE (show (x :: r)[0]? = some x from rfl) (Gives.ite (fun c2 => Gives.some ?_) (fun c2 => Gives.some ?_))
      · refine decide_eq_decide.2 ⟨fun h => .inr (.inr ⟨by omega, by rw [c48.1 c2]; rfl⟩), ?_⟩
        rintro (h | h | ⟨h, _⟩)
        · cases h
        · omega
        · omega
      · refine (decide_eq_false ?_).symm
        rintro (h | h | ⟨_, h⟩)
        · cases h
        · omega
        · have : x = 48 := Option.some.inj h
          exact absurd (c48.2 this) c2
  · subst hz
    refine Gives.ite (fun c => Gives.some ?_) (fun c => ?_)
    · rw [numS_bad (of_decide_eq_true c)] at hP
      exact hP
    · have hb : ¬ badN t := fun h => c (decide_eq_true h)
      rw [numS_good hb] at hP
      refine G_all (bad := false) t isDigB (fun i x hx hi => ?_) ?_ (fun h => Gives.some ?_) (fun h => ?_)
      · refine Gives.pos (by omega) (Gives.bind (fun z => z = !isDigB x) ?_ fun z hz => ?_)
        · refine Gives.bindE hx (Gives.ite (fun c2 => Gives.some ?_) (fun c2 => Gives.bindE hx (Gives.some ?_)))
          · rw [show isDigB x = false from decide_eq_false (by omega)]; rfl
          · unfold isDigB; rw [← decide_not]; exact decide_eq_decide.2 (by omega)
        · subst hz
          refine Gives.ite (fun c2 => Gives.some ?_) (fun c2 => ?_)
          · rw [if_neg (by simpa using c2)]
          · refine Gives.bindE (show small t = some () from if_pos (by omega)) (Gives.some ?_)
            rw [if_pos (by simpa using c2)]
      · rw [if_neg (by omega)]
      · obtain ⟨n, hn⟩ := digF_all t 0 h
        rw [hn] at hP; exact hP
      · rw [digF_alln t 0 h] at hP; exact hP
theorem r_isWhole (g : Nat) (s : List UInt8) (hs : s.length ≤ 100000) : m_ref14_isWhole g s = some (intS s).isSome := by
  unfold m_ref14_isWhole
  refine Gives.eq ?_
  refine Gives.jx (fun t => (intS s).isSome = (numS t).isSome ∧ t.length ≤ s.length) ?_ (fun t ht => r_whole2 t (by omega) ht.1.symm)
  refine Gives.bind (fun z => z = decide (s.head? = some 45)) ?_ fun z hz => ?_
  · refine Gives.ite (fun c => ?_) (fun c => Gives.some ?_)
    · match s, c with
      | x :: r, _ =>
        refine Gives.bindE (show (x :: r)[0]? = some x from rfl) (Gives.some ?_)
        refine decide_eq_decide.2 ⟨fun h => by rw [c45.1 h]; rfl, fun h => c45.2 (Option.some.inj h)⟩
    · have : s = [] := List.eq_nil_of_length_eq_zero (by omega)
      subst this; rfl
  · subst hz
    refine Gives.ite (fun c => ?_) (fun c => Gives.some ?_)
    · have hh : s.head? = some 45 := of_decide_eq_true c
      match s, hh, hs with
      | x :: r, hh, hs =>
        have hx : x = 45 := Option.some.inj hh
        subst hx
        refine Gives.bindE (a := r) (by rw [sub_ok ⟨by decide, by rw [List.length_cons]; omega, by omega⟩, Int.toNat_natCast, List.take_length]; rfl) ?_
        rw [intS_cons, if_pos rfl]
        refine Gives.ite (fun c2 => Gives.some ?_) (fun c2 => Gives.some ?_)
        · rw [if_pos c2]; rfl
        · rw [if_neg c2]
          exact ⟨by cases numS r <;> rfl, by rw [List.length_cons]; omega⟩
    · refine ⟨?_, Nat.le_refl _⟩
      match s, c with
      | [], _ => rfl
      | x :: r, c =>
        rw [intS_cons, if_neg]
        intro h; subst h
        exact c rfl
theorem numS_digits {s : List UInt8} {n : Int} (h : numS s = some n) : s.all isDigB = true ∧ ¬ badN s := by
  unfold numS at h
  split at h
  · cases h
  · rename_i hb
    refine ⟨?_, hb⟩
    cases ha : s.all isDigB with
    | true => rfl
    | false => rw [digF_alln s 0 ha] at h; cases h
theorem atoi_num {s : List UInt8} {n : Int} (h : numS s = some n) : ∃ m : Nat, Lib.decNat s = some m ∧ n = (m : Int) := by
  obtain ⟨h1, h2⟩ := numS_digits h
  rw [numS_good h2] at h
  obtain ⟨m, h3, h4⟩ := digF_dec s 0 h1
  rw [show ((0 : Nat) : Int) = 0 from rfl, h] at h4
  refine ⟨m, ?_, Option.some.inj h4⟩
  unfold Lib.decNat
  rw [if_neg, h3]
  intro he
  exact h2 (.inl (List.isEmpty_iff.1 he))
theorem dig_45 : ¬ isDigB 45 = true := by decide
theorem dig_43 : ¬ isDigB 43 = true := by decide
theorem atoi_cons {b : UInt8} {r : List UInt8} : Lib.atoi (b :: r) = if b == 45 then (Lib.decNat r).map fun (m : Nat) => -(m : Int) else if b == 43 then (Lib.decNat r).map fun (m : Nat) => (m : Int) else (Lib.decNat (b :: r)).map fun (m : Nat) => (m : Int) := rfl
theorem atoi_int {s : List UInt8} {n : Int} (h : intS s = some n) : s.length ≤ 11 ∧ Lib.atoi s = some n := by
  match s, h with
  | c :: r, h =>
    rw [intS_cons] at h
    by_cases hc : c = 45
    · rw [if_pos hc] at h
      subst hc
      split at h
      · cases h
      · obtain ⟨k, hk, rfl⟩ := Option.map_eq_some_iff.1 h
        obtain ⟨m, h1, rfl⟩ := atoi_num hk
        have hb := (numS_digits hk).2
        refine ⟨?_, ?_⟩
        · rw [List.length_cons]
          rcases Nat.lt_or_ge 10 r.length with h | h
          · exact absurd (.inr (.inl h)) hb
          · omega
        · rw [atoi_cons, if_pos (show (45 == (45 : UInt8)) = true from rfl), h1]; rfl
    · rw [if_neg hc] at h
      obtain ⟨m, h1, rfl⟩ := atoi_num h
      obtain ⟨hd, hb⟩ := numS_digits h
      rw [List.all_cons, Bool.and_eq_true] at hd
      refine ⟨?_, ?_⟩
      · rcases Nat.lt_or_ge 10 (c :: r).length with h | h
        · exact absurd (.inr (.inl h)) hb
        · omega
      · rw [atoi_cons, if_neg (by simpa using hc), if_neg (fun h => by
          have : c = 43 := by simpa using h
          rw [this] at hd; exact dig_43 hd.1), h1]; rfl
theorem r_integer (g : Nat) (s : List UInt8) (hs : s.length ≤ 100000) : m_ref14_integer g s = some (resI (intS s)) := by
  unfold m_ref14_integer
  rw [r_isWhole g s hs, Option.bind_some]
  cases h : intS s with
  | none => rfl
  | some n =>
    obtain ⟨h1, h2⟩ := atoi_int h
    rw [show (some n).isSome = true from rfl, if_pos rfl, show x_atoi g s = some n from (if_pos (by omega)).trans h2]; rfl
theorem r_number (g : Nat) (s : List UInt8) (hs : s.length ≤ 100000) : m_ref14_number g s = some (resI (numS s)) := by
  unfold m_ref14_number
  match s, hs with
  | [], _ => rfl
  | c :: r, hs =>
    rw [if_neg (by simp), show (c :: r)[0]? = some c from rfl, Option.bind_some, Option.bind_some]
    by_cases hc : c = 45
    · rw [if_pos (by rw [decide_eq_true (c45.2 hc)])]
      subst hc
      rw [numS_nodig dig_45]; rfl
    · rw [if_neg (by rw [decide_eq_true_eq]; exact fun h => hc (c45.1 h)), r_integer g _ hs, Option.bind_some, intS_cons, if_neg hc]
/-! ### lists -/
def mapF {α β : Type} (f : α → Option β) : List α → Option (List β)
  | [] => some []
  | x :: r => match f x with
    | none => none
    | some y => match mapF f r with
      | none => none
      | some ys => some (y :: ys)
/-- A loop that reads one thing after the other. -/
theorem G_map {α β A : Type} (xs : List α) (f : α → Option β) (j0 : Nat) {bad : A} {body : List β × Nat → Option ((List β × Nat) ⊕ (List β ⊕ A))} {k : List β → Option A} {R : A → Prop} (hj : j0 ≤ xs.length)
    (h : ∀ a i x, xs[i]? = some x → i < xs.length → a.length ≤ i → Gives (body (a, i)) (fun o => match f x with | some y => o = .inl (a ++ [y], i + 1) | none => o = .inr (.inr bad)))
    (he : ∀ a, body (a, xs.length) = some (.inr (.inl a))) (hk : ∀ ys, mapF f (xs.drop j0) = some ys → Gives (k ys) R) (hb : mapF f (xs.drop j0) = none → R bad) : Gives (jx (Mir.Loop (([] : List β), j0) body) k) R := by
  refine Gives.jx (fun ys => mapF f (xs.drop j0) = some ys) (Gives.loop (fun s => j0 ≤ s.2 ∧ s.2 ≤ xs.length ∧ s.1.length ≤ s.2 ∧ mapF f (xs.drop j0) = (mapF f (xs.drop s.2)).map (s.1 ++ ·)) (fun s => xs.length - s.2) ⟨Nat.le_refl _, hj, Nat.zero_le _, by cases mapF f (xs.drop j0) <;> rfl⟩ ?_) (fun ys h => hk ys h)
  rintro ⟨a, i⟩ ⟨h0, h1, h2, h3⟩
  dsimp only at h0 h1 h2 h3 ⊢
  rcases Nat.lt_or_ge i xs.length with h4 | h4
  · have hx := List.getElem?_eq_getElem h4
    rw [List.drop_eq_getElem_cons h4] at h3
    refine (h a i _ hx h4 h2).mono fun o ho => ?_
    cases hf : f xs[i] with
    | none =>
      rw [hf] at ho
      have ho : o = .inr (.inr bad) := ho
      subst ho
      rw [show mapF f (xs[i] :: xs.drop (i + 1)) = none by rw [mapF, hf]] at h3
      exact hb h3
    | some y =>
      rw [hf] at ho
      have ho : o = .inl (a ++ [y], i + 1) := ho
      subst ho
      refine ⟨⟨by dsimp only; omega, h4, by simp; omega, ?_⟩, by dsimp only; omega⟩
      rw [h3, mapF, hf]
      cases mapF f (xs.drop (i + 1)) with
      | none => rfl
      | some ys => simp
  · obtain rfl : i = xs.length := by omega
    rw [List.drop_of_length_le (Nat.le_refl _)] at h3
    refine ⟨_, he a, ?_⟩
    show mapF f (xs.drop j0) = some a
    rw [h3]
    simp [mapF]
def numsS (l : List (List UInt8)) : Option (List Int) := mapF numS l
def resL (o : Option (List Int)) : List Int × Bool := match o with | some n => (n, true) | none => ([], false)
def Small (l : List (List UInt8)) : Prop := l.length ≤ 100000 ∧ ∀ s ∈ l, s.length ≤ 100000
theorem Small.at {l : List (List UInt8)} (h : Small l) {i : Nat} {x : List UInt8} (hx : l[i]? = some x) : x.length ≤ 100000 := h.2 x (List.mem_of_getElem? hx)
theorem Small.drop {l : List (List UInt8)} (h : Small l) (j : Nat) : Small (l.drop j) := ⟨by rw [List.length_drop]; have := h.1; omega, fun s hs => h.2 s (List.mem_of_mem_drop hs)⟩
theorem Small.tail {x : List UInt8} {l : List (List UInt8)} (h : Small (x :: l)) : Small l := h.drop 1
theorem Small.take {l : List (List UInt8)} (h : Small l) (j : Nat) : Small (l.take j) := ⟨by rw [List.length_take]; have := h.1; omega, fun s hs => h.2 s (List.mem_of_mem_take hs)⟩
theorem m_numbers (g : Nat) (l : List (List UInt8)) (hl : Small l) : m_code_numbers g l = some (resL (numsS l)) := by
  unfold m_code_numbers
  refine Gives.eq (G_map (bad := (([] : List Int), false)) l numS 0 (Nat.zero_le _) (fun a i x hx hi ha => ?_) (fun a => ?_) (fun ys h => Gives.some ?_) (fun h => ?_))
  · refine Gives.pos (by dsimp only; omega) (Gives.bindE hx (Gives.bindE (m_number g x false) ?_))
    rw [if_neg (show ¬ (false = true) by decide)]
    cases numS x with
    | none => exact Gives.some rfl
    | some n =>
      refine Gives.pos rfl (Gives.bindE (push_small 1000000 (by dsimp only; rw [List.length_singleton]; have := hl.1; omega) ⟨by decide, by decide⟩) (Gives.some rfl))
  · rw [if_neg (by dsimp only; omega)]
  · rw [show numsS l = some ys from h]; rfl
  · rw [show numsS l = none from h]; rfl
theorem r_all (g : Nat) (l : List (List UInt8)) (hl : Small l) : m_ref14_all g l = some (resL (numsS l)) := by
  unfold m_ref14_all
  refine Gives.eq (G_map (bad := (([] : List Int), false)) l numS 0 (Nat.zero_le _) (fun a i x hx hi ha => ?_) (fun a => ?_) (fun ys h => Gives.some ?_) (fun h => ?_))
  · refine Gives.pos (by dsimp only; omega) (Gives.bindE hx (Gives.bindE (r_number g x (hl.at hx)) ?_))
    cases numS x with
    | none => exact Gives.some rfl
    | some n =>
      refine Gives.pos rfl (Gives.bindE (push_small 1000000 (by dsimp only; rw [List.length_singleton]; have := hl.1; omega) ⟨by decide, by decide⟩) (Gives.some rfl))
  · rw [if_neg (by dsimp only; omega)]
  · rw [show numsS l = some ys from h]; rfl
  · rw [show numsS l = none from h]; rfl
/-! ### jumps -/
/-- What is told, with the word that it is there. -/
def Is {α : Type} (o : Option α) (r : α × Bool) : Prop := match o with | some x => r = (x, true) | none => r.2 = false
def jumpA (a : List UInt8) (to : Int) : Option DJump := match intS a with
  | some n => some ⟨[], n, to⟩
  | none => if wordS a = true ∧ ∃ c, a.head? = some c ∧ ¬ isDigB c = true then some ⟨a, 0, to⟩ else none
def jumpS (s : List UInt8) : Option DJump :=
  if 58 ∈ s then (match numS (s.drop ((Lib.indexByte s 58).toNat + 1)) with
    | none => none
    | some to => jumpA (s.take (Lib.indexByte s 58).toNat) to)
  else none
theorem ix_spec (c : UInt8) : ∀ s : List UInt8, (Lib.indexByte s c = -1 ∧ c ∉ s) ∨ ∃ k : Nat, Lib.indexByte s c = k ∧ s[k]? = some c ∧ c ∉ s.take k
  | [] => .inl ⟨rfl, by simp⟩
  | b :: l => by
    unfold Lib.indexByte
    by_cases h : b = c
    · subst h
      exact .inr ⟨0, by simp, rfl, by simp⟩
    · rw [if_neg (by simpa using h)]
      rcases ix_spec c l with ⟨h1, h2⟩ | ⟨k, h1, h2, h3⟩
      · exact .inl ⟨by rw [h1]; rfl, by simp [h2, Ne.symm h]⟩
      · refine .inr ⟨k + 1, ?_, h2, by simp [h3, Ne.symm h]⟩
        rw [h1, if_neg (by simp)]
        omega
theorem numS_mem {s : List UInt8} {n : Int} (h : numS s = some n) : (58 : UInt8) ∉ s := fun hm => by
  have h1 := (numS_digits h).1
  rw [List.all_eq_true] at h1
  exact absurd (h1 58 hm) (by decide)
theorem intS_mem {s : List UInt8} (h : (58 : UInt8) ∈ s) : intS s = none := by
  match s, h with
  | c :: r, h =>
    rw [intS_cons]
    by_cases hc : c = 45
    · subst hc
      have hr : (58 : UInt8) ∈ r := by
        rcases List.mem_cons.1 h with h | h
        · exact absurd h (by decide)
        · exact h
      rw [if_pos rfl]
      split
      · rfl
      · cases hn : numS r with
        | none => rfl
        | some n => exact absurd hr (numS_mem hn)
    · rw [if_neg hc]
      cases hn : numS (c :: r) with
      | none => rfl
      | some n => exact absurd h (numS_mem hn)
theorem wordS_mem {s : List UInt8} (h : (58 : UInt8) ∈ s) : wordS s = false := by
  unfold wordS
  have : s.all isWordB = false := by
    rw [List.all_eq_false]
    exact ⟨58, h, by decide⟩
  rw [this]; rfl
theorem m_Cut (g : Nat) (s : List UInt8) (hs : s.length ≤ 100000) : m_strings_Cut g s [58] = some (if 58 ∈ s then (s.take (Lib.indexByte s 58).toNat, s.drop ((Lib.indexByte s 58).toNat + 1), true) else (s, [], false)) := by
  unfold m_strings_Cut m_stringslite_Cut
  rw [show x_index g s [58] = some (Lib.indexByte s 58) from rfl, Option.bind_some]
  rcases ix_spec 58 s with ⟨h1, h2⟩ | ⟨k, h1, h2, h3⟩
  · rw [if_neg h2, h1, if_neg (by decide)]; rfl
  · have hk : k < s.length := (List.getElem?_eq_some_iff.1 h2).1
    rw [if_pos (List.mem_of_getElem? h2), h1, if_pos (by omega), sub_ok ⟨by decide, by omega, by omega⟩, Option.bind_some, show small ([58] : List UInt8) = some () from if_pos (by decide), Option.bind_some, show (([58] : List UInt8).length : Int) = 1 from rfl, w64_eq (by omega), sub_ok ⟨by omega, by omega, Int.le_refl _⟩, Option.bind_some, Option.bind_some]
    rw [Int.toNat_natCast, Int.toNat_natCast, List.take_length, show ((k : Int) + 1).toNat = k + 1 by omega]; rfl
theorem m_jump (g : Nat) (s : List UInt8) (hs : s.length ≤ 100000) : Gives (m_code_jump g s) (Is (jumpS s)) := by
  unfold m_code_jump jumpS
  refine Gives.bindE (m_Cut g s hs) ?_
  by_cases hm : (58 : UInt8) ∈ s
  · rw [if_pos hm, if_pos hm]
    dsimp only
    have hl1 : (s.take (Lib.indexByte s 58).toNat).length ≤ 100000 := by rw [List.length_take]; omega
    generalize s.take (Lib.indexByte s 58).toNat = a at *
    generalize s.drop ((Lib.indexByte s 58).toNat + 1) = b at *
    refine Gives.bindE (m_number g b false) ?_
    rw [if_neg (show ¬ (false = true) by decide), if_pos rfl]
    refine Gives.bindE rfl ?_
    cases numS b with
    | none => exact Gives.pos rfl (Gives.some rfl)
    | some to =>
      refine Gives.neg (by simp [resI]) (Gives.bindE (m_number g a true) ?_)
      rw [if_pos rfl]
      unfold jumpA
      cases intS a with
      | some n => exact Gives.pos rfl (Gives.some rfl)
      | none =>
        refine Gives.neg (by simp [resI]) (Gives.bind (fun z => z = decide (wordS a = true ∧ ∃ c, a.head? = some c ∧ ¬ isDigB c = true)) ?_ fun z hz => ?_)
        · refine Gives.bindE (m_isWord g a hl1) (Gives.ite (fun c => ?_) (fun c => Gives.some (decide_eq_false fun h => c h.1).symm))
          match a, c with
          | [], c => exact absurd c (by decide)
          | x :: r, c =>
            refine Gives.bindE (show (x :: r)[0]? = some x from rfl) (Gives.ite (fun c2 => Gives.some ?_) (fun c2 => Gives.bindE (show (x :: r)[0]? = some x from rfl) (Gives.some ?_)))
            · exact (decide_eq_true ⟨c, x, rfl, fun h => by have := of_decide_eq_true h; omega⟩).symm
            · refine decide_eq_decide.2 ⟨fun h => ⟨c, x, rfl, fun h2 => by have := of_decide_eq_true h2; omega⟩, fun ⟨_, y, hy, h⟩ => ?_⟩
              have : x = y := Option.some.inj hy
              subst this
              have : ¬ (48 ≤ x.toNat ∧ x.toNat ≤ 57) := fun h2 => h (decide_eq_true h2)
              omega
        · subst hz
          refine Gives.some ?_
          dsimp only
          by_cases h : wordS a = true ∧ ∃ c, a.head? = some c ∧ ¬ isDigB c = true
          · rw [if_pos h, decide_eq_true h]; rfl
          · rw [if_neg h]
            exact decide_eq_false h
  · rw [if_neg hm, if_neg hm]
    dsimp only
    refine Gives.bindE (m_number g [] false) ?_
    exact Gives.bindE (a := true) (if_neg (by decide)) (Gives.pos rfl (Gives.some rfl))
theorem r_last (g : Nat) (s : List UInt8) (hs : s.length ≤ 100000) : Gives (m_strings_LastIndexByte g s 58) (fun q => (q = -1 ∧ (58 : UInt8) ∉ s) ∨ ∃ k : Nat, q = k ∧ s[k]? = some 58 ∧ (58 : UInt8) ∉ s.drop (k + 1)) := by
  unfold m_strings_LastIndexByte m_bytealg_LastIndexByteString
  refine Gives.bind _ (Gives.jx (fun _ => (58 : UInt8) ∉ s) ?_ (fun _ h => Gives.some (.inl ⟨rfl, h⟩))) (fun a ha => Gives.some ha)
  refine Gives.bindE (show small s = some () from if_pos (by omega)) ?_
  refine Gives.loop (fun (x : Int) => ∃ i : Nat, x = (i : Int) - 1 ∧ i ≤ s.length ∧ (58 : UInt8) ∉ s.drop i) (fun x => (x + 1).toNat) ⟨s.length, rfl, Nat.le_refl _, by simp⟩ ?_
  rintro _ ⟨i, rfl, h1, h2⟩
  refine Gives.ite (fun c => ?_) (fun c => Gives.some ?_)
  · obtain ⟨j, rfl⟩ : ∃ j, i = j + 1 := ⟨i - 1, by omega⟩
    have hj : j < s.length := by omega
    rw [show (((j + 1 : Nat) : Int) - 1) = (j : Int) by omega]
    have hx := List.getElem?_eq_getElem hj
    refine Gives.bindE (idx_ok hj) ?_
    generalize s[j] = b at *
    refine Gives.ite (fun c2 => Gives.some ?_) (fun c2 => Gives.some ?_)
    · have : b = 58 := UInt8.toNat_inj.1 (by rw [show (58 : UInt8).toNat = 58 from rfl]; omega)
      subst this
      exact .inr ⟨j, rfl, hx, h2⟩
    · rw [w64_eq (by omega)]
      refine ⟨⟨j, rfl, by omega, ?_⟩, by omega⟩
      have hd : s.drop j = b :: s.drop (j + 1) := by
        rw [List.drop_eq_getElem_cons hj]
        congr 1
        rw [List.getElem?_eq_getElem hj] at hx
        exact Option.some.inj hx
      rw [hd]
      intro hm
      rcases List.mem_cons.1 hm with h | h
      · exact c2 (by rw [← h]; rfl)
      · exact h2 h
  · obtain rfl : i = 0 := by omega
    exact h2
theorem r_jump (g : Nat) (s : List UInt8) (hs : s.length ≤ 100000) : Gives (m_ref14_jump g s) (Is (jumpS s)) := by
  unfold m_ref14_jump
  refine Gives.bind _ (r_last g s hs) fun q hq => ?_
  rcases hq with ⟨rfl, hm⟩ | ⟨k, rfl, hk, hlast⟩
  · refine Gives.pos (by decide) (Gives.some ?_)
    unfold jumpS
    rw [if_neg hm]; rfl
  · have hkl : k < s.length := (List.getElem?_eq_some_iff.1 hk).1
    have hm := List.mem_of_getElem? hk
    rcases ix_spec 58 s with ⟨_, h⟩ | ⟨f, f1, f2, f3⟩
    · exact absurd hm h
    have hfk : f ≤ k := by
      rcases Nat.lt_or_ge k f with h | h
      · exfalso
        refine f3 (List.mem_of_getElem? (i := k) ?_)
        rw [List.getElem?_take, if_pos h, hk]
      · exact h
    have hS : jumpS s = match numS (s.drop (f + 1)) with | none => none | some to => jumpA (s.take f) to := by
      unfold jumpS
      rw [if_pos hm, f1, Int.toNat_natCast]
    refine Gives.ite (fun c => Gives.some ?_) (fun c => ?_)
    · obtain rfl : k = 0 := by omega
      obtain rfl : f = 0 := by omega
      rw [hS]
      have : ∀ to, jumpA (s.take 0) to = none := fun to => by
        unfold jumpA
        rw [List.take_zero]
        rw [show intS [] = none from rfl]
        rw [if_neg (fun h => absurd h.1 (by decide))]
      cases numS (s.drop (0 + 1)) with
      | none => rfl
      | some to => dsimp only; rw [this to]; rfl
    · have hsub : Mir.sub s (Mir.w64 ((k : Int) + 1)) ((s.length : Nat) : Int) = some (s.drop (k + 1)) := by
        rw [w64_eq (by omega), sub_ok ⟨by omega, by omega, Int.le_refl _⟩, Int.toNat_natCast, List.take_length, show ((k : Int) + 1).toNat = k + 1 by omega]
      have hsub2 : Mir.sub s 0 (k : Int) = some (s.take k) := by
        rw [sub_ok ⟨by decide, by omega, by omega⟩, Int.toNat_natCast]; rfl
      refine Gives.bindE hsub (Gives.bindE (r_number g _ (by rw [List.length_drop]; omega)) ?_)
      have hlk : (s.take k).length ≤ 100000 := by rw [List.length_take]; omega
      -- the first one, or another one
      by_cases hfe : f = k
      · subst hfe
        rw [hS]
        cases hn : numS (s.drop (f + 1)) with
        | none => exact Gives.neg (by simp [resI]) (Gives.some rfl)
        | some to =>
          refine Gives.pos rfl ?_
          match s, hkl, hs, c, hsub2, hlk with
          | x :: r, hkl, hs, c, hsub2, hlk =>
            obtain ⟨f', rfl⟩ : ∃ f', f = f' + 1 := ⟨f - 1, by omega⟩
            rw [List.take_succ_cons] at hsub2 hlk ⊢
            refine Gives.bindE (show (x :: r)[0]? = some x from rfl) (Gives.bind (fun z => z = decide (x = 45 ∨ isDigB x = true)) ?_ fun z hz => ?_)
            · refine Gives.ite (fun c => Gives.some (decide_eq_true (.inl (c45.1 c))).symm) (fun c => Gives.ite (fun c2 => Gives.some ?_) (fun c2 => Gives.some ?_))
              · refine decide_eq_decide.2 ⟨fun h => .inr (decide_eq_true (by omega)), ?_⟩
                rintro (h | h)
                · exact absurd (c45.2 h) c
                · have := of_decide_eq_true h; omega
              · refine (decide_eq_false ?_).symm
                rintro (h | h)
                · exact c (c45.2 h)
                · have := of_decide_eq_true h; omega
            · subst hz
              refine Gives.ite (fun cz => ?_) (fun cz => ?_)
              · have hz := of_decide_eq_true cz
                refine Gives.bindE hsub2 (Gives.bindE (r_integer g _ hlk) (Gives.some ?_))
                dsimp only
                unfold jumpA
                cases intS (x :: r.take f') with
                | some n => rfl
                | none =>
                  rw [if_neg]
                  · rfl
                  · rintro ⟨hw, y, hy, hd⟩
                    have : x = y := Option.some.inj hy
                    subst this
                    rcases hz with rfl | hz
                    · unfold wordS at hw
                      rw [List.all_cons, show isWordB 45 = false from rfl] at hw
                      simp at hw
                    · exact hd hz
              · have hz : ¬ (x = 45 ∨ isDigB x = true) := fun h => cz (decide_eq_true h)
                refine Gives.bindE hsub2 (Gives.bindE hsub2 (Gives.bindE (r_isRun g _ hlk) (Gives.some ?_)))
                dsimp only
                unfold jumpA
                rw [intS_cons, if_neg (fun h => hz (.inl h)), numS_nodig (fun h => hz (.inr h))]
                dsimp only
                cases hw : wordS (x :: r.take f') with
                | true => rw [if_pos ⟨rfl, x, rfl, fun h => hz (.inr h)⟩]; rfl
                | false => rw [if_neg (fun h => by cases h.1)]; rfl
      · have hlt : f < k := by omega
        have hin1 : (58 : UInt8) ∈ s.drop (f + 1) := by
          refine List.mem_of_getElem? (i := k - (f + 1)) ?_
          rw [List.getElem?_drop, show f + 1 + (k - (f + 1)) = k by omega, hk]
        have hin2 : (58 : UInt8) ∈ s.take k := by
          refine List.mem_of_getElem? (i := f) ?_
          rw [List.getElem?_take, if_pos hlt, f2]
        have hnone : jumpS s = none := by
          rw [hS]
          cases hn : numS (s.drop (f + 1)) with
          | none => rfl
          | some n => exact absurd hin1 (numS_mem hn)
        rw [hnone]
        refine Gives.ite (fun _ => ?_) (fun _ => Gives.some rfl)
        have hx := List.getElem?_eq_getElem (show 0 < s.length by omega)
        refine Gives.bindE hx (Gives.bind (fun _ => True) ?_ fun z _ => ?_)
        · refine Gives.ite (fun _ => Gives.some trivial) (fun _ => Gives.ite (fun _ => Gives.some trivial) (fun _ => Gives.some trivial))
        · refine Gives.ite (fun _ => ?_) (fun _ => ?_)
          · refine Gives.bindE hsub2 (Gives.bindE (r_integer g _ hlk) (Gives.some ?_))
            rw [intS_mem hin2]; rfl
          · refine Gives.bindE hsub2 (Gives.bindE hsub2 (Gives.bindE (r_isRun g _ hlk) (Gives.some ?_)))
            rw [wordS_mem hin2]; rfl
end Go.Proofs.YtefclodjekeeiaaGreatDoor
