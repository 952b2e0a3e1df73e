/- What the program's Leaves and Places give, in plain words. -/
import Derived.Test.YtjjmdiddgcllkaaPsF
namespace Go.Proofs.Ytjjmdiddgcllkaa
open Go Go.Mir
set_option linter.unusedVariables false
def vL (e : PT) : List Int := if e.2.Kids.length = 0 ∧ 0 ≤ e.2.N then [e.2.N] else []
def vP (e : PT) : List (List Int) := if e.2.Kids.length = 0 then [e.1] else []
theorem asks_L (g : Nat) : Asks (m_search_Leaves_f1 g) vL := fun p x acc h1 h2 => by
  unfold m_search_Leaves_f1 vL
  dsimp only
  by_cases e : x.Kids.length = 0
  · rw [if_pos (by omega)]
    by_cases e2 : 0 ≤ x.N
    · rw [decide_eq_true (by omega), Option.bind_some, if_pos rfl, push_small 1000 (by simp; omega) (by decide), if_pos ⟨e, e2⟩]
      exact ⟨rfl, by simp⟩
    · rw [decide_eq_false (by omega), Option.bind_some, if_neg (by decide), if_neg (fun h => e2 h.2)]
      exact ⟨by simp, by simp⟩
  · rw [if_neg (by omega), Option.bind_some, if_neg (by decide), if_neg (fun h => e h.1)]
    exact ⟨by simp, by simp⟩
theorem asks_P (g : Nat) : Asks (m_search_Places_f1 g) vP := fun p x acc h1 h2 => by
  unfold m_search_Places_f1 vP
  dsimp only
  by_cases e : x.Kids.length = 0
  · rw [if_pos (by omega), push_small 1000 (by simp; omega) (by decide), Option.bind_some, push_small 1000 (by simp; omega) (by decide), Option.bind_some, Option.bind_some, if_pos e]
    exact ⟨rfl, by simp⟩
  · rw [if_neg (by omega), Option.bind_some, if_neg e]
    exact ⟨by simp, by simp⟩
theorem low_root {t : DSTree} (h1 : cnt t ≤ 400) (h2 : hgt t ≤ 40) : Low [(([] : List Int), t)] := by
  refine ⟨by rw [wt_cons]; show cnt t + 0 ≤ 400; omega, fun e he => ?_⟩
  rw [List.mem_singleton.1 he]
  simp; omega
theorem wt_root (t : DSTree) : wt [(([] : List Int), t)] = cnt t := by rw [wt_cons]; rfl
theorem rk_nil (how : Int) : rk how [] = 0 := by
  unfold rk
  by_cases h1 : how = 1
  · rw [if_pos h1]; rfl
  · rw [if_neg h1]
    by_cases h2 : how = 2
    · rw [if_pos h2]; rfl
    · rw [if_neg h2]
      by_cases h3 : how = 3
      · rw [if_pos h3]; rfl
      · rw [if_neg h3]
theorem m_searchG {B : Type} {ask : List Int → DSTree → List B → Option (Int × DSTree × Bool × List B)} {v : PT → List B} (hask : Asks ask v) (g : Nat) {how : Int} (h0 : 0 ≤ how) (h4 : how ≤ 4) {t : DSTree} (hc : cnt t ≤ 400) (hh : hgt t ≤ 40) :
    ∃ l, Taken how t l ∧ (if how = 4 then (fairG ask g [] [⟨[], 0, t⟩]).bind fun q5 => some (q5.1, q5.2)
      else (m_search_ranks g).bind fun q16 => (assoc q16 how).bind fun f25 => (m_heap_Push g (DPlace.mk ([] : List Int) 0 t) ([] : List DPlace) f25).bind fun q30 => walkG ask g f25 [] q30) = some (false, l.flatMap v) := by
  by_cases e : how = 4
  · obtain ⟨l, h1, h2⟩ := m_fair hask g (q0 := [⟨[], 0, t⟩]) (acc0 := []) (low_root hc hh) (by show 0 + wt [(([] : List Int), t)] ≤ 400; rw [wt_root]; omega)
    refine ⟨l, by unfold Taken; rw [if_pos e]; exact h1, ?_⟩
    rw [if_pos e, h2]; rfl
  · obtain ⟨L, f, r1, r2, r3⟩ := m_rank g h0 (show how < 4 by omega)
    obtain ⟨q, p1, p2, p3⟩ := m_hPush g (q := []) (f := f) (x := DPlace.mk ([] : List Int) 0 t) (by simp) (fun i hi hin => by simp at hin)
    have hp : q = [⟨[], 0, t⟩] := List.perm_singleton.1 p2
    subst hp
    obtain ⟨l, h1, h2⟩ := m_walk hask g r3 (q0 := [⟨[], 0, t⟩]) (acc0 := []) p3 (fun d hd => by rw [List.mem_singleton.1 hd]; exact (rk_nil how).symm) (low_root hc hh) (by show 0 + wt [(([] : List Int), t)] ≤ 400; rw [wt_root]; omega)
    refine ⟨l, by unfold Taken; rw [if_neg e]; exact h1, ?_⟩
    rw [if_neg e, r1, Option.bind_some, r2, Option.bind_some, p1, Option.bind_some, h2]; rfl
theorem m_walkL (g : Nat) {how : Int} (h0 : 0 ≤ how) (h4 : how ≤ 4) {t : DSTree} (hc : cnt t ≤ 400) (hh : hgt t ≤ 40) : ∃ l, Taken how t l ∧ m_api_STree g how t [] = some (false, l.flatMap vL) := by
  obtain ⟨l, h1, h2⟩ := m_searchG (asks_L g) g h0 h4 hc hh
  exact ⟨l, h1, h2⟩
theorem m_walkP (g : Nat) {how : Int} (h0 : 0 ≤ how) (h4 : how ≤ 4) {t : DSTree} (hc : cnt t ≤ 400) (hh : hgt t ≤ 40) : ∃ l, Taken how t l ∧ m_api_STree_3 g how t [] = some (false, l.flatMap vP) := by
  obtain ⟨l, h1, h2⟩ := m_searchG (asks_P g) g h0 h4 hc hh
  exact ⟨l, h1, h2⟩
def isHowB (how : Int) : Prop := 0 ≤ how ∧ how ≤ 4
instance (how : Int) : Decidable (isHowB how) := by unfold isHowB; infer_instance
theorem m_isHow (g : Nat) (how : Int) : m_search_isHow g how = some (decide (isHowB how)) := by
  unfold m_search_isHow isHowB
  by_cases h : how ≥ 0
  · rw [if_pos h]
    simp [show 0 ≤ how from h]
  · rw [if_neg h]
    simp [show ¬ 0 ≤ how from h]
/-- What is given of all answers. -/
def resL (o : List Int) (most : Int) : List Int × Bool × Int := if (o.length : Int) > most then (o.take most.toNat, true, 0) else (o, false, 0)
theorem m_Leaves_err {t : DSTree} {g : Nat} (hg : hgt t ≤ g) (how most : Int) (h : errT t ≠ 0) : m_search_Leaves g t how most = some ([], false, errT t) := by
  unfold m_search_Leaves
  rw [(m_valid hg).1, Option.bind_some, if_neg h]
theorem badL (how most : Int) (g : Nat) : ((m_search_isHow g how).bind fun q13 => if q13 = true then (if most < 1 then some true else some (decide (most > 400))) else some true) = some (decide (¬ (isHowB how ∧ 1 ≤ most ∧ most ≤ 400))) := by
  rw [m_isHow, Option.bind_some]
  by_cases h1 : isHowB how
  · rw [decide_eq_true h1, if_pos rfl]
    by_cases h2 : most < 1
    · rw [if_pos h2, decide_eq_true (by omega)]
    · rw [if_neg h2]
      by_cases h3 : most > 400
      · rw [decide_eq_true h3, decide_eq_true (by omega)]
      · rw [decide_eq_false h3, decide_eq_false (fun h => h ⟨h1, by omega, by omega⟩)]
  · rw [decide_eq_false h1, if_neg (by decide), decide_eq_true (p := ¬ (isHowB how ∧ 1 ≤ most ∧ most ≤ 400)) (fun h => h1 h.1)]
theorem m_Leaves_arg {t : DSTree} {g : Nat} (hg : hgt t ≤ g) {how most : Int} (h : errT t = 0) (hb : ¬ (isHowB how ∧ 1 ≤ most ∧ most ≤ 400)) : m_search_Leaves g t how most = some ([], false, 1) := by
  unfold m_search_Leaves
  rw [(m_valid hg).1, Option.bind_some, if_pos h]
  rw [badL, Option.bind_some, decide_eq_true hb, if_pos rfl]
theorem m_Leaves_ok {t : DSTree} {g : Nat} (hg : hgt t ≤ g) {how most : Int} (h : errT t = 0) (hb : isHowB how ∧ 1 ≤ most ∧ most ≤ 400) : ∃ l, Taken how t l ∧ m_search_Leaves g t how most = some (resL (l.flatMap vL) most) := by
  obtain ⟨e1, e2, _⟩ := errT_ok h
  obtain ⟨l, h1, h2⟩ := m_walkL g hb.1.1 hb.1.2 e1 e2
  refine ⟨l, h1, ?_⟩
  unfold m_search_Leaves resL
  rw [(m_valid hg).1, Option.bind_some, if_pos h]
  rw [badL, Option.bind_some, decide_eq_false (Classical.not_not.2 hb), if_neg (by decide), h2, Option.bind_some]
  dsimp only
  by_cases h3 : ((l.flatMap vL).length : Int) > most
  · rw [if_pos h3, if_pos h3, sub_ok ⟨by omega, by omega, by omega⟩]; rfl
  · rw [if_neg h3, if_neg h3]
theorem m_Places_err {t : DSTree} {g : Nat} (hg : hgt t ≤ g) (how : Int) (h : errT t ≠ 0) : m_search_Places g t how = some ([], errT t) := by
  unfold m_search_Places
  rw [(m_valid hg).1, Option.bind_some, if_neg h]
theorem m_Places_arg {t : DSTree} {g : Nat} (hg : hgt t ≤ g) {how : Int} (h : errT t = 0) (hb : ¬ isHowB how) : m_search_Places g t how = some ([], 1) := by
  unfold m_search_Places
  rw [(m_valid hg).1, Option.bind_some, if_pos h, m_isHow, Option.bind_some, decide_eq_false hb, if_neg (by decide)]
theorem m_Places_ok {t : DSTree} {g : Nat} (hg : hgt t ≤ g) {how : Int} (h : errT t = 0) (hb : isHowB how) : ∃ l, Taken how t l ∧ m_search_Places g t how = some (l.flatMap vP, 0) := by
  obtain ⟨e1, e2, _⟩ := errT_ok h
  obtain ⟨l, h1, h2⟩ := m_walkP g hb.1 hb.2 e1 e2
  refine ⟨l, h1, ?_⟩
  unfold m_search_Places
  rw [(m_valid hg).1, Option.bind_some, if_pos h, m_isHow, Option.bind_some, decide_eq_true hb, if_pos rfl, h2, Option.bind_some]
end Go.Proofs.Ytjjmdiddgcllkaa
