/- Search trees in plain words: how many nodes they have, and that both validations say the same. -/
import Derived.Test.YtjjmdiddgcllkaaMi
namespace Go.Proofs.Ytjjmdiddgcllkaa
open Go Go.Mir
set_option linter.unusedVariables false
theorem DSTree.ind {P : DSTree → Prop} (h : ∀ n ks, (∀ k ∈ ks, P k) → P ⟨n, ks⟩) : ∀ t, P t := fun t =>
  DSTree.rec (motive_1 := P) (motive_2 := fun l => ∀ k ∈ l, P k) (fun n ks ih => h n ks ih) (fun k hk => by cases hk)
    (fun a l ha hl k hk => by
      rcases List.mem_cons.1 hk with rfl | hk
      · exact ha
      · exact hl k hk) t
mutual
def cnt : DSTree → Nat
  | ⟨_, ks⟩ => cntL ks + 1
def cntL : List DSTree → Nat
  | [] => 0
  | k :: ks => cnt k + cntL ks
end
mutual
def hgt : DSTree → Nat
  | ⟨_, ks⟩ => hgtL ks + 1
def hgtL : List DSTree → Nat
  | [] => 0
  | k :: ks => max (hgt k) (hgtL ks)
end
theorem hgt_le {k : DSTree} : ∀ {ks : List DSTree}, k ∈ ks → hgt k ≤ hgtL ks
  | x :: ks, h => by
    rw [hgtL]
    rcases List.mem_cons.1 h with rfl | h
    · omega
    · have := hgt_le h; omega
theorem hgt_pos (t : DSTree) : 0 < hgt t := by cases t; rw [hgt]; omega
/-- Validate's closure: too large, and how many nodes were counted. -/
def f1L (f : DSTree → Nat → Bool × Nat) : List DSTree → Nat → Bool × Nat
  | [], n => (false, n)
  | k :: ks, n => if (f k n).1 then (true, (f k n).2) else f1L f ks (f k n).2
mutual
def f1 : Nat → DSTree → Nat → Bool × Nat
  | room, ⟨_, ks⟩, n => if n + 1 > 400 ∨ room < 1 ∨ ks.length > 64 then (true, n + 1) else f1s (room - 1) ks (n + 1)
def f1s : Nat → List DSTree → Nat → Bool × Nat
  | _, [], n => (false, n)
  | room, k :: ks, n => if (f1 room k n).1 then (true, (f1 room k n).2) else f1s room ks (f1 room k n).2
end
mutual
theorem f1_fits : ∀ {room : Nat} {t : DSTree} {n : Nat}, n ≤ 400 → (f1 room t n).1 = false → (f1 room t n).2 = n + cnt t ∧ n + cnt t ≤ 400 ∧ hgt t ≤ room
  | room, ⟨_, ks⟩, n, hn, h => by
    rw [f1] at h ⊢
    split at h
    · cases h
    · rename_i h1
      rw [if_neg h1]
      have := f1s_fits (by omega) h
      rw [cnt, hgt]
      omega
theorem f1s_fits : ∀ {room : Nat} {ks : List DSTree} {n : Nat}, n ≤ 400 → (f1s room ks n).1 = false → (f1s room ks n).2 = n + cntL ks ∧ n + cntL ks ≤ 400 ∧ hgtL ks ≤ room
  | room, [], n, hn, h => by rw [f1s, cntL, hgtL]; simp [hn]
  | room, k :: ks, n, hn, h => by
    rw [f1s] at h ⊢
    split at h
    · cases h
    · rename_i h1
      rw [if_neg h1]
      have a := f1_fits hn (by simpa using h1)
      have b := f1s_fits (by omega) h
      rw [cntL, hgtL]
      omega
end
theorem m_f1 : ∀ (t : DSTree) {g : Nat} {room n : Nat}, hgt t ≤ g → n ≤ 400 → room ≤ 40 → m_search_Validate_f1 g t room n = some ((f1 room t n).1, ((f1 room t n).2 : Int)) := by
  intro t
  induction t using DSTree.ind with
  | h v ks ih =>
    intro g room n hg hn hr
    rw [hgt] at hg
    obtain ⟨g, rfl⟩ : ∃ k, g = k + 1 := ⟨g - 1, by omega⟩
    have e1 : w64 ((n : Int) + 1) = ((n + 1 : Nat) : Int) := w64_eq (by omega)
    have e2 : w64 ((room : Int) - 1) = (room : Int) - 1 := w64_eq (by omega)
    rw [m_search_Validate_f1, f1]
    simp only [e1, e2]
    by_cases h : n + 1 > 400 ∨ room < 1 ∨ ks.length > 64
    · rw [if_pos h]
      by_cases h1 : n + 1 > 400
      · rw [if_pos (show ((n + 1 : Nat) : Int) > 400 by omega)]; rfl
      · by_cases h2 : room < 1
        · rw [if_neg (show ¬ ((n + 1 : Nat) : Int) > 400 by omega), if_pos (show (room : Int) < 1 by omega)]; rfl
        · rw [if_neg (show ¬ ((n + 1 : Nat) : Int) > 400 by omega), if_neg (show ¬ (room : Int) < 1 by omega), decide_eq_true (show ((ks.length : Nat) : Int) > 64 by omega)]; rfl
    · rw [if_neg h]
      have h1 : ¬ (((n + 1 : Nat) : Int) > 400) := by omega
      have h2 : ¬ ((room : Int) < 1) := by omega
      have h3 : ¬ (((ks.length : Nat) : Int) > 64) := by omega
      rw [if_neg h1, if_neg h2, decide_eq_false h3]
      simp only [Option.bind_some, if_neg (show ¬ (false = true) by decide)]
      have key := Loop_list (Q := Int ⊕ (Bool × Int)) (fun (a : Nat) i => ((a : Int), i)) ks
        (fun a r q => a ≤ 400 ∧ (∀ k ∈ r, k ∈ ks) ∧ q = if (f1s (room - 1) r a).1 then .inr (true, ((f1s (room - 1) r a).2 : Int)) else .inl ((f1s (room - 1) r a).2 : Int))
        (body := fun s17 =>
          if ((s17.2 : Nat) : Int) < ((ks.length : Nat) : Int) then
            ((ks)[s17.2]?).bind fun x24 =>
            (m_search_Validate_f1 g x24 ((room : Int) - 1) s17.1).bind fun q36 =>
            if q36.1 = true then
              some (.inr (.inr (true, q36.2)))
            else
              some (.inl (q36.2, s17.2 + 1))
          else
            some (.inr (.inl s17.1)))
        (by
          rintro a q ⟨_, _, rfl⟩
          simp [f1s])
        (by
          rintro a i x r q hx hi _ ⟨ha, hm, rfl⟩
          have hxk : x ∈ ks := hm x List.mem_cons_self
          have := ih x hxk (g := g) (room := room - 1) (n := a) (by have := hgt_le hxk; omega) ha (by omega)
          rw [show ((room : Int) - 1) = ((room - 1 : Nat) : Int) by omega]
          simp only [if_pos (show ((i : Nat) : Int) < ((ks.length : Nat) : Int) by omega), hx, Option.bind_some, this]
          by_cases hb : (f1 (room - 1) x a).1 = true
          · left
            simp [f1s, hb]
          · right
            refine ⟨(f1 (room - 1) x a).2, by simp [hb], ?_, fun k hk => hm k (List.mem_cons_of_mem _ hk), by simp [f1s, hb]⟩
            have := f1_fits ha (by simpa using hb)
            omega)
        (a := n + 1) (q := _) ⟨by omega, fun k hk => hk, rfl⟩
      rw [key]
      by_cases hb : (f1s (room - 1) ks (n + 1)).1 = true
      · simp [hb, jx_inr]
      · simp [hb, jx_inl]
theorem m_count : ∀ (t : DSTree) {g : Nat} {room n : Nat}, hgt t ≤ g → n ≤ 400 → room ≤ 40 → m_ref13_count g t (41 - room : Int) (400 - n : Int) = some (if (f1 room t n).1 then -1 else 400 - ((f1 room t n).2 : Int)) := by
  intro t
  induction t using DSTree.ind with
  | h v ks ih =>
    intro g room n hg hn hr
    rw [hgt] at hg
    obtain ⟨g, rfl⟩ : ∃ k, g = k + 1 := ⟨g - 1, by omega⟩
    have e1 : w64 ((400 - n : Int) - 1) = 400 - ((n + 1 : Nat) : Int) := by rw [w64_eq (by omega)]; omega
    have e2 : w64 ((41 - room : Int) + 1) = 41 - (room : Int) + 1 := w64_eq (by omega)
    rw [m_ref13_count, f1]
    simp only [e1, e2]
    by_cases h : n + 1 > 400 ∨ room < 1 ∨ ks.length > 64
    · rw [if_pos h]
      by_cases h1 : room < 1
      · rw [if_pos (show (41 - room : Int) > 40 by omega)]; rfl
      · by_cases h2 : n + 1 > 400
        · rw [if_neg (show ¬ (41 - room : Int) > 40 by omega), if_pos (show (400 - n : Int) < 1 by omega)]; rfl
        · rw [if_neg (show ¬ (41 - room : Int) > 40 by omega), if_neg (show ¬ (400 - n : Int) < 1 by omega), decide_eq_true (show ((ks.length : Nat) : Int) > 64 by omega)]; rfl
    · rw [if_neg h]
      rw [if_neg (show ¬ (41 - room : Int) > 40 by omega), if_neg (show ¬ (400 - n : Int) < 1 by omega), decide_eq_false (show ¬ ((ks.length : Nat) : Int) > 64 by omega)]
      simp only [Option.bind_some, if_neg (show ¬ (false = true) by decide)]
      have key := Loop_list (Q := Int ⊕ Int) (fun (a : Nat) i => ((400 - a : Int), i)) ks
        (fun a r q => a ≤ 400 ∧ (∀ k ∈ r, k ∈ ks) ∧ q = if (f1s (room - 1) r a).1 then .inr (-1) else .inl (400 - ((f1s (room - 1) r a).2 : Int)))
        (body := fun s17 =>
          if ((s17.2 : Nat) : Int) < ((ks.length : Nat) : Int) then
            ((ks)[s17.2]?).bind fun x24 =>
            (m_ref13_count g x24 (41 - (room : Int) + 1) s17.1).bind fun q35 =>
            if q35 < 0 then
              some (.inr (.inr (-1)))
            else
              some (.inl (q35, s17.2 + 1))
          else
            some (.inr (.inl s17.1)))
        (by
          rintro a q ⟨_, _, rfl⟩
          simp [f1s])
        (by
          rintro a i x r q hx hi _ ⟨ha, hm, rfl⟩
          have hxk : x ∈ ks := hm x List.mem_cons_self
          have := ih x hxk (g := g) (room := room - 1) (n := a) (by have := hgt_le hxk; omega) ha (by omega)
          rw [show (41 - (room : Int) + 1) = (41 - ((room - 1 : Nat) : Int)) by omega]
          simp only [if_pos (show ((i : Nat) : Int) < ((ks.length : Nat) : Int) by omega), hx, Option.bind_some, this]
          by_cases hb : (f1 (room - 1) x a).1 = true
          · left
            simp [f1s, hb]
          · right
            have h9 := f1_fits ha (by simpa using hb)
            refine ⟨(f1 (room - 1) x a).2, ?_, by omega, fun k hk => hm k (List.mem_cons_of_mem _ hk), by simp [f1s, hb]⟩
            rw [if_neg hb, if_neg (by omega)])
        (a := n + 1) (q := _) ⟨by omega, fun k hk => hk, rfl⟩
      rw [key]
      by_cases hb : (f1s (room - 1) ks (n + 1)).1 = true
      · simp [hb, jx_inr]
      · simp [hb, jx_inl]
mutual
def isT : DSTree → Bool
  | ⟨n, ks⟩ => if n < -1 ∨ (ks.length > 0 ∧ n ≠ 0) then false else isTs ks
def isTs : List DSTree → Bool
  | [] => true
  | k :: ks => isT k && isTs ks
end
theorem m_isTree : ∀ (t : DSTree) {g : Nat}, hgt t ≤ g → m_search_isTree g t = some (isT t) ∧ m_ref13_isTree g t = some (isT t) := by
  intro t
  induction t using DSTree.ind with
  | h v ks ih =>
    intro g hg
    rw [hgt] at hg
    obtain ⟨g, rfl⟩ : ∃ k, g = k + 1 := ⟨g - 1, by omega⟩
    rw [m_search_isTree, m_ref13_isTree, isT]
    have e : (if v < (-1) then some true else if ((ks.length : Nat) : Int) > 0 then some (!decide (v = 0)) else some false) = some (decide (v < -1 ∨ (ks.length > 0 ∧ v ≠ 0))) := by
      by_cases h1 : v < -1
      · simp [h1]
      · by_cases h2 : ks.length > 0
        · simp [h1, h2]
        · simp [h1, h2]
    simp only [e, Option.bind_some]
    by_cases h : v < -1 ∨ (ks.length > 0 ∧ v ≠ 0)
    · simp [h]
    · rw [decide_eq_false h, if_neg h]
      simp only [if_neg (show ¬ (false = true) by decide)]
      have key : ∀ (f : DSTree → Option Bool) (hf : ∀ k ∈ ks, f k = some (isT k)), Mir.Loop (S := Nat) (Q := Unit ⊕ Bool) (0 : Nat) (fun s16 =>
          if ((s16 : Nat) : Int) < ((ks.length : Nat) : Int) then
            ((ks)[s16]?).bind fun x23 =>
            (f x23).bind fun q35 =>
            if q35 = true then
              some (.inl (s16 + 1))
            else
              some (.inr (.inr false))
          else
            some (.inr (.inl ()))) = some (if isTs ks then .inl () else .inr false) := fun f hf =>
        Loop_list (fun (_ : Unit) i => i) ks (fun _ r q => (∀ k ∈ r, k ∈ ks) ∧ q = if isTs r then .inl () else .inr false)
          (by rintro a q ⟨_, rfl⟩; simp [isTs])
          (by
            rintro a i x r q hx hi _ ⟨hm, rfl⟩
            have := hf x (hm x List.mem_cons_self)
            simp only [if_pos (show ((i : Nat) : Int) < ((ks.length : Nat) : Int) by omega), hx, Option.bind_some, this]
            cases hb : isT x
            · left; simp [isTs, hb]
            · right; exact ⟨(), rfl, fun k hk => hm k (List.mem_cons_of_mem _ hk), by simp [isTs, hb]⟩)
          (a := ()) ⟨fun k hk => hk, rfl⟩
      rw [key _ fun k hk => (ih k hk (by have := hgt_le hk; omega)).1, key _ fun k hk => (ih k hk (by have := hgt_le hk; omega)).2]
      cases isTs ks <;> simp [jx_inl, jx_inr]
/-- The errors of a tree. -/
def errT (t : DSTree) : Int := if (f1 40 t 0).1 then 3 else if isT t then 0 else 1
theorem m_valid {t : DSTree} {g : Nat} (hg : hgt t ≤ g) : m_search_Validate g t = some (errT t) ∧ m_ref13_Validate g t = some (errT t) := by
  have h1 := m_f1 t (room := 40) (n := 0) hg (by omega) (by omega)
  have h2 := m_count t (room := 40) (n := 0) hg (by omega) (by omega)
  obtain ⟨h3, h4⟩ := m_isTree t hg
  rw [m_search_Validate, m_ref13_Validate, errT]
  rw [show ((40 : Nat) : Int) = 40 from rfl, show ((0 : Nat) : Int) = 0 from rfl] at h1 h2
  rw [show (41 - 40 : Int) = 1 from rfl, show (400 - 0 : Int) = 400 from rfl] at h2
  rw [h1, h2]
  simp only [Option.bind_some, h3, h4]
  by_cases hb : (f1 40 t 0).1 = true
  · simp [hb]
  · have := f1_fits (n := 0) (by omega) (by simpa using hb)
    simp only [if_neg hb]
    rw [if_neg (show ¬ (400 - ((f1 40 t 0).2 : Int)) < 0 by omega)]
    cases isT t <;> simp
theorem errT_ok {t : DSTree} (h : errT t = 0) : cnt t ≤ 400 ∧ hgt t ≤ 40 ∧ isT t = true := by
  unfold errT at h
  split at h
  · cases h
  · rename_i h1
    split at h
    · rename_i h2
      have := f1_fits (n := 0) (by omega) (by simpa using h1)
      exact ⟨by omega, by omega, h2⟩
    · cases h
end Go.Proofs.Ytjjmdiddgcllkaa
