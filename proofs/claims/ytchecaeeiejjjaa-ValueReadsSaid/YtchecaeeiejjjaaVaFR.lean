/- Which values are valid: both sides say the same. -/
import Derived.Test.YtchecaeeiejjjaaVaER
namespace Go.Proofs.Ytchecaeeiejjjaa
open Go Go.Mir
set_option linter.unusedVariables false
theorem DValue.ind {P : DValue → Prop} (h : ∀ op nm n ks, (∀ k ∈ ks, P k) → P ⟨op, nm, n, ks⟩) : ∀ t, P t := fun t =>
  DValue.rec (motive_1 := P) (motive_2 := fun l => ∀ k ∈ l, P k) (fun op nm n ks ih => h op nm n ks ih) (fun k hk => by cases hk)
    (fun a l ha hl k hk => by
      rcases List.mem_cons.1 hk with rfl | hk
      · exact ha
      · exact hl k hk) t
mutual
def cnt : DValue → Nat
  | ⟨_, _, _, ks⟩ => cntL ks + 1
def cntL : List DValue → Nat
  | [] => 0
  | k :: ks => cnt k + cntL ks
end
mutual
def hgt : DValue → Nat
  | ⟨_, _, _, ks⟩ => hgtL ks + 1
def hgtL : List DValue → Nat
  | [] => 0
  | k :: ks => max (hgt k) (hgtL ks)
end
theorem hgt_le {k : DValue} : ∀ {ks : List DValue}, k ∈ ks → hgt k ≤ hgtL ks
  | x :: ks, h => by
    rw [hgtL]
    rcases List.mem_cons.1 h with rfl | h
    · omega
    · have := hgt_le h; omega
theorem hgtL_le {m : Nat} : ∀ {ks : List DValue}, (∀ k ∈ ks, hgt k ≤ m) → hgtL ks ≤ m
  | [], _ => Nat.zero_le _
  | x :: ks, h => by
    rw [hgtL]
    have h1 := h x List.mem_cons_self
    have h2 := hgtL_le (ks := ks) fun k hk => h k (List.mem_cons_of_mem _ hk)
    omega
theorem hgt_pos (t : DValue) : 0 < hgt t := by cases t; rw [hgt]; omega
theorem hgtL_app (l : List DValue) (v : DValue) : hgtL (l ++ [v]) = max (hgtL l) (hgt v) := by
  induction l with
  | nil => simp only [List.nil_append, hgtL]; omega
  | cons x l ih => rw [List.cons_append, hgtL, hgtL, ih]; omega
theorem cntL_app (l : List DValue) (v : DValue) : cntL (l ++ [v]) = cntL l + cnt v := by
  induction l with
  | nil => simp only [List.nil_append, cntL]; omega
  | cons x l ih => rw [List.cons_append, cntL, cntL, ih]; omega
theorem take_app {ks : List DValue} {j : Nat} (h : j < ks.length) : ks.take (j + 1) = ks.take j ++ [ks[j]] := by rw [List.take_add_one, List.getElem?_eq_getElem h]; rfl
theorem cntL_take (ks : List DValue) : ∀ (m j : Nat), ks.length ≤ j + m → cntL (ks.take j) ≤ cntL ks
  | 0, j, h => by rw [List.take_of_length_le (by omega)]; exact Nat.le_refl _
  | m + 1, j, h => by
    have ih := cntL_take ks m (j + 1) (by omega)
    by_cases c : j < ks.length
    · rw [take_app c, cntL_app] at ih; omega
    · rw [List.take_of_length_le (by omega)]; exact Nat.le_refl _
theorem cntL_le (ks : List DValue) (j : Nat) : cntL (ks.take j) ≤ cntL ks := cntL_take ks ks.length j (by omega)
theorem len_cntL : ∀ ks : List DValue, ks.length ≤ cntL ks
  | [] => Nat.zero_le _
  | k :: ks => by
    have := len_cntL ks
    have : 1 ≤ cnt k := by cases k; rw [cnt]; omega
    rw [cntL, List.length_cons]; omega
theorem len_take {ks : List DValue} {j : Nat} (h : j ≤ ks.length) : j ≤ cntL (ks.take j) := by
  have := len_cntL (ks.take j)
  rw [List.length_take] at this; omega
theorem PP.hgt {tk : Task} {o : Out} (h : PP tk o) : match tk, o with
    | .val L, .okV v L' => Proofs.Ytchecaeeiejjjaa.hgt v + L'.length ≤ L.length
    | .kids L acc, .okK ks L' => hgtL ks + L'.length ≤ max (hgtL acc + L'.length) L.length
    | _, _ => True := by
  induction h with
  | grp h1 h2 h3 ih => simp only [List.length_cons] at *; omega
  | grpNo => trivial
  | grpBad => trivial
  | leafNo => trivial
  | num => simp only [Proofs.Ytchecaeeiejjjaa.hgt, hgtL, List.length_cons]; omega
  | con h1 h2 h3 ih =>
    have := h3.len
    simp only [shorter, Proofs.Ytchecaeeiejjjaa.hgt, hgtL, List.length_cons] at *; omega
  | conBad => trivial
  | @kLeaf a r x acc o h1 h2 ih =>
    have := h2.len
    cases o
    · trivial
    · simp only [shorter, hgtL_app, Proofs.Ytchecaeeiejjjaa.hgt, hgtL, List.length_cons] at *; omega
    · trivial
  | @kGrp a r L1 v acc o h1 h2 h3 ih1 ih2 =>
    have := h3.len
    have := h2.len
    cases o
    · trivial
    · simp only [shorter, hgtL_app, List.length_cons] at *; omega
    · trivial
  | kGrpBad => trivial
  | kEnd => simp only; omega
theorem m_deep : ∀ (v : DValue) (g n : Nat), 4 * hgt v ≤ g → n ≤ 40 → m_value_deep g v (n : Int) = some (decide (hgt v > n)) := by
  intro v
  induction v using DValue.ind with
  | h op nm x ks ih =>
    intro g n hg hn
    rw [hgt] at hg ⊢
    obtain ⟨g, rfl⟩ : ∃ k, g = k + 4 := ⟨g - 4, by omega⟩
    rw [m_value_deep]
    dsimp only
    refine Gives.eq (Gives.ite (fun c => Gives.some (decide_eq_true (by omega)).symm) (fun c => ?_))
    rw [m_api_Value, m_api_Value_2]
    refine Gives.bind (fun z => z = decide (hgtL ks + 1 > n)) (Gives.bind (fun q => q ≥ 0 ↔ hgtL ks + 1 > n) ?_ fun q hq => Gives.some (decide_eq_decide.2 hq)) fun z hz => Gives.some hz
    refine Gives.jx (fun _ => hgtL ks ≤ n - 1) ?_ (fun _ h => Gives.some ⟨fun h => absurd h (by decide), fun h => by omega⟩)
    refine Gives.loop (fun i => i ≤ ks.length ∧ ∀ k ∈ ks.take i, hgt k ≤ n - 1) (fun i => ks.length - i) ⟨Nat.zero_le _, (fun k hk => nomatch hk)⟩ ?_
    rintro i ⟨i1, i2⟩
    refine Gives.ite (fun c1 => ?_) (fun c1 => Gives.some ?_)
    · have hi : i < ks.length := by omega
      have hm := List.getElem_mem hi
      have hle := hgt_le hm
      refine Gives.bindE (List.getElem?_eq_getElem hi) (Gives.bindE (a := decide (hgt ks[i] > n - 1)) ?_ ?_)
      · rw [m_value_deep_f1, w64_eq (by omega), show ((n : Int) - 1) = ((n - 1 : Nat) : Int) by omega, ih _ hm g (n - 1) (by omega) (by omega)]; rfl
      · refine Gives.ite (fun c2 => Gives.some ?_) (fun c2 => Gives.some ⟨⟨by omega, fun k hk => ?_⟩, by omega⟩)
        · have := of_decide_eq_true c2
          exact ⟨fun _ => by omega, fun _ => by omega⟩
        · rw [take_app hi] at hk
          rcases List.mem_append.1 hk with hk | hk
          · exact i2 k hk
          · obtain rfl : k = ks[i] := by simpa using hk
            have : ¬ hgt ks[i] > n - 1 := fun h => c2 (decide_eq_true h)
            omega
    · rw [List.take_of_length_le (by omega)] at i2
      exact hgtL_le i2
theorem m_count : ∀ (v : DValue) (g : Nat), hgt v ≤ g → hgt v ≤ 40 → Gives (m_value_count g v) (fun r => 1 ≤ r ∧ r ≤ 301 * (hgt v : Int) ∧ (r ≤ 300 → r = (cnt v : Int)) ∧ (r > 300 → cnt v > 300)) := by
  intro v
  induction v using DValue.ind with
  | h op nm x ks ih =>
    intro g hg h40
    rw [hgt] at hg h40 ⊢
    rw [cnt]
    obtain ⟨g, rfl⟩ : ∃ k, g = k + 1 := ⟨g - 1, by omega⟩
    rw [m_value_count]
    dsimp only
    refine Gives.bind _ (Gives.loop (P := fun r => 1 ≤ r ∧ r ≤ 301 * ((hgtL ks + 1 : Nat) : Int) ∧ (r ≤ 300 → r = ((cntL ks + 1 : Nat) : Int)) ∧ (r > 300 → cntL ks + 1 > 300)) (fun s => ∃ j : Nat, s.2 = (j : Int) ∧ j ≤ ks.length ∧ 1 ≤ s.1 ∧ s.1 ≤ 301 * ((hgtL ks + 1 : Nat) : Int) ∧ (s.1 ≤ 300 → s.1 = ((cntL (ks.take j) + 1 : Nat) : Int)) ∧ (s.1 > 300 → cntL (ks.take j) + 1 > 300)) (fun s => ks.length - s.2.toNat) ⟨0, rfl, Nat.zero_le _, by decide, by dsimp only; omega, (fun _ => rfl), fun h => absurd h (by decide)⟩ ?_) fun r hr => Gives.some hr
    rintro ⟨c, _⟩ ⟨j, rfl, j1, j2, j3, j4, j5⟩
    dsimp only at j2 j3 j4 j5 ⊢
    refine Gives.bind (fun z => z = decide (j < ks.length ∧ c ≤ 300)) (Gives.ite (fun c1 => Gives.some (decide_eq_decide.2 ⟨fun h => ⟨by omega, h⟩, fun h => h.2⟩)) (fun c1 => Gives.some (decide_eq_false (by omega)).symm)) fun z hz => ?_
    subst hz
    refine Gives.ite (fun c1 => ?_) (fun c1 => Gives.some ?_)
    · obtain ⟨c1, c2⟩ := of_decide_eq_true c1
      have hm := List.getElem_mem c1
      have hle := hgt_le hm
      refine Gives.bindE (idx_ok c1) (Gives.bind _ (ih _ hm g (by omega) (by omega)) fun q hq => ?_)
      obtain ⟨q1, q2, q3, q4⟩ := hq
      have e := j4 c2
      have hjl := len_take j1
      rw [w64_eq (a := c + q) (by omega), w64_eq (by omega)]
      refine Gives.some ⟨⟨j + 1, rfl, by omega, by dsimp only; omega, by dsimp only; omega, fun h => ?_, fun h => ?_⟩, by dsimp only; omega⟩
      · dsimp only at h ⊢
        rw [take_app c1, cntL_app]
        have := q3 (by omega)
        omega
      · dsimp only at h
        rw [take_app c1, cntL_app]
        rcases Classical.em (q > 300) with h9 | h9
        · have := q4 h9; omega
        · have := q3 (by omega); omega
    · have hle := cntL_le ks j
      have c1 := fun h => c1 (decide_eq_true h)
      refine ⟨j2, j3, fun h => ?_, fun h => by have := j5 h; omega⟩
      have := j4 h
      rcases Nat.lt_or_ge j ks.length with h9 | h9
      · exact absurd ⟨h9, h⟩ c1
      · rw [List.take_of_length_le h9] at this; exact this
def nodeOk (op : Int) (nm : List UInt8) (n : Int) (len : Nat) : Bool :=
  if op = 1 then nameS 65 90 nm && decide (n = 0 ∧ len ≤ 8)
  else if op = 4 then coreS nm && decide (n = 0 ∧ len ≤ 8)
  else if op = 2 then decide (nm = [] ∧ len = 0 ∧ -1000000000 ≤ n ∧ n ≤ 1000000000)
  else if op = 3 then decide (nm = [] ∧ len = 0 ∧ 0 ≤ n ∧ n ≤ 300)
  else false
mutual
def okV : DValue → Bool
  | ⟨op, nm, n, ks⟩ => nodeOk op nm n ks.length && okL ks
def okL : List DValue → Bool
  | [] => true
  | k :: ks => okV k && okL ks
end
theorem okL_all : ∀ ks : List DValue, okL ks = ks.all okV
  | [] => by rw [okL]; rfl
  | k :: ks => by rw [okL, okL_all ks, List.all_cons]
theorem and_if {P Q : Prop} [Decidable P] [Decidable Q] {x y : Option Bool} (h1 : P → x = some (decide Q)) (h2 : ¬ P → y = some false) : (if P then x else y) = some (decide (P ∧ Q)) := by
  by_cases c : P
  · rw [if_pos c, h1 c]; exact congrArg some (decide_eq_decide.2 ⟨fun h => ⟨c, h⟩, fun h => h.2⟩)
  · rw [if_neg c, h2 c]; exact congrArg some (decide_eq_false fun h => c h.1).symm
theorem okL_drop {ks : List DValue} {i : Nat} (h : i < ks.length) : (ks.drop i).all okV = (okV ks[i] && (ks.drop (i + 1)).all okV) := by
  rw [List.drop_eq_getElem_cons h, List.all_cons]
theorem kind2 (nm : List UInt8) (n : Int) (ks : List DValue) (lo hi : Int) : (if nm = ([] : List UInt8) then
                if ((ks.length : Nat) : Int) = 0 then
                  if n ≥ lo then
                    some (decide (n ≤ hi))
                  else
                    some false
                else
                  some false
              else
                some false) = some (decide (nm = [] ∧ ks.length = 0 ∧ lo ≤ n ∧ n ≤ hi)) := by
  refine and_if (fun _ => ?_) (fun _ => rfl)
  by_cases c : ks.length = 0
  · rw [if_pos (by omega)]
    by_cases c2 : n ≥ lo
    · rw [if_pos c2]; exact congrArg some (decide_eq_decide.2 ⟨fun h => ⟨c, c2, h⟩, fun h => h.2.2⟩)
    · rw [if_neg c2]; exact congrArg some (decide_eq_false fun h => c2 h.2.1).symm
  · rw [if_neg (by omega)]; exact congrArg some (decide_eq_false fun h => c h.1).symm
theorem kind1 (b : Bool) (n : Int) (ks : List DValue) : (if b = true then
          if n = 0 then
            some (decide (((ks.length : Nat) : Int) ≤ 8))
          else
            some false
        else
          some false) = some (b && decide (n = 0 ∧ ks.length ≤ 8)) := by
  cases b with
  | false => rfl
  | true =>
    rw [if_pos rfl, Bool.true_and]
    by_cases c : n = 0
    · rw [if_pos c]; exact congrArg some (decide_eq_decide.2 ⟨fun h => ⟨c, by omega⟩, fun h => by omega⟩)
    · rw [if_neg c]; exact congrArg some (decide_eq_false fun h => c h.1).symm
theorem m_isRight : ∀ (v : DValue) (g : Nat), 4 * hgt v ≤ g → m_value_isRight g v = some (okV v) := by
  intro v
  induction v using DValue.ind with
  | h op nm x ks ih =>
    intro g hg
    rw [hgt] at hg
    obtain ⟨g, rfl⟩ : ∃ k, g = k + 4 := ⟨g - 4, by omega⟩
    rw [m_value_isRight, okV, okL_all]
    dsimp only
    refine Gives.eq (Gives.bind (fun z => z = nodeOk op nm x ks.length) ?_ fun z hz => ?_)
    · unfold nodeOk
      refine Gives.ite (fun c => ?_) (fun c => ?_)
      · rw [if_pos c, m_isName, Option.bind_some, kind1]; exact Gives.some rfl
      · rw [if_neg c]
        refine Gives.ite (fun c => ?_) (fun c => ?_)
        · rw [if_pos c, m_isFunction, Option.bind_some, kind1]; exact Gives.some rfl
        · rw [if_neg c]
          refine Gives.ite (fun c => ?_) (fun c => ?_)
          · rw [if_pos c, kind2]; exact Gives.some rfl
          · rw [if_neg c]
            refine Gives.ite (fun c => ?_) (fun c => ?_)
            · rw [if_pos c, kind2]; exact Gives.some rfl
            · rw [if_neg c]; exact Gives.some rfl
    · subst hz
      refine Gives.bind (fun z => z = (nodeOk op nm x ks.length && ks.all okV)) ?_ fun z hz => Gives.some hz
      refine Gives.ite (fun c => ?_) (fun c => Gives.some (by rw [show nodeOk op nm x ks.length = false by simpa using c]; rfl))
      rw [c, Bool.true_and, m_api_Value_3, m_api_Value_4]
      refine Gives.bind (fun z => z = !ks.all okV) (Gives.bind (fun q => q ≥ 0 ↔ ks.all okV = false) ?_ fun q hq => Gives.some ?_) fun z hz => Gives.some (by rw [hz, Bool.not_not])
      · refine Gives.jx (fun _ => ks.all okV = true) ?_ (fun _ h => Gives.some ⟨fun h => absurd h (by decide), fun h' => by rw [h] at h'; cases h'⟩)
        refine Gives.loop (fun i => i ≤ ks.length ∧ ks.all okV = (ks.drop i).all okV) (fun i => ks.length - i) ⟨Nat.zero_le _, rfl⟩ ?_
        rintro i ⟨i1, i2⟩
        refine Gives.ite (fun c1 => ?_) (fun c1 => Gives.some ?_)
        · have hi : i < ks.length := by omega
          have hm := List.getElem_mem hi
          have hle := hgt_le hm
          rw [okL_drop hi] at i2
          refine Gives.bindE (List.getElem?_eq_getElem hi) (Gives.bindE (a := !okV ks[i]) ?_ ?_)
          · rw [m_value_isRight_f1, ih _ hm g (by omega)]; rfl
          · refine Gives.ite (fun c2 => Gives.some ?_) (fun c2 => Gives.some ⟨⟨by omega, ?_⟩, by omega⟩)
            · have : okV ks[i] = false := by simpa using c2
              rw [this, Bool.false_and] at i2
              exact ⟨fun _ => i2, fun _ => by omega⟩
            · have : okV ks[i] = true := by simpa using c2
              rw [this, Bool.true_and] at i2
              exact i2
        · rw [List.drop_of_length_le (by omega)] at i2
          exact i2
      · cases h : ks.all okV with
        | true => rw [h] at hq; exact decide_eq_false fun h => by have := hq.1 h; cases this
        | false => exact decide_eq_true (hq.2 h)
theorem r_isNode (g : Nat) (op : Int) (nm : List UInt8) (x : Int) (ks : List DValue) : m_ref08_isNode g ⟨op, nm, x, ks⟩ = some (nodeOk op nm x ks.length) := by
  unfold m_ref08_isNode nodeOk
  dsimp only
  by_cases c1 : op = 1
  · rw [if_pos c1, if_pos c1, r_IsGreat, Option.bind_some, kind1]; rfl
  · rw [if_neg c1, if_neg c1]
    by_cases c2 : op = 2
    · rw [if_pos c2, kind2, if_neg (by omega), if_pos c2]; rfl
    · rw [if_neg c2]
      by_cases c3 : op = 3
      · rw [if_pos c3, kind2, if_neg (by omega), if_neg c2, if_pos c3]; rfl
      · rw [if_neg c3]
        by_cases c4 : op = 4
        · rw [if_pos c4, if_pos c4, r_IsCore, Option.bind_some, kind1]; rfl
        · rw [if_neg c4, if_neg c4, if_neg c2, if_neg c3]
theorem r_isValue : ∀ (v : DValue) (g : Nat), hgt v ≤ g → m_ref08_isValue g v = some (okV v) := by
  intro v
  induction v using DValue.ind with
  | h op nm x ks ih =>
    intro g hg
    rw [hgt] at hg
    obtain ⟨g, rfl⟩ : ∃ k, g = k + 1 := ⟨g - 1, by omega⟩
    rw [m_ref08_isValue, okV, okL_all, r_isNode, Option.bind_some]
    dsimp only
    refine Gives.eq (Gives.ite (fun c => ?_) (fun c => Gives.some (by rw [show nodeOk op nm x ks.length = false by simpa using c]; rfl)))
    rw [c, Bool.true_and]
    refine Gives.jx (fun _ => ks.all okV = true) ?_ (fun _ h => Gives.some h.symm)
    refine Gives.loop (fun i => i ≤ ks.length ∧ ks.all okV = (ks.drop i).all okV) (fun i => ks.length - i) ⟨Nat.zero_le _, rfl⟩ ?_
    rintro i ⟨i1, i2⟩
    refine Gives.ite (fun c1 => ?_) (fun c1 => Gives.some ?_)
    · have hi : i < ks.length := by omega
      have hm := List.getElem_mem hi
      have hle := hgt_le hm
      rw [okL_drop hi] at i2
      refine Gives.bindE (List.getElem?_eq_getElem hi) (Gives.bindE (ih _ hm g (by omega)) ?_)
      refine Gives.ite (fun c2 => Gives.some ⟨⟨by omega, ?_⟩, by omega⟩) (fun c2 => Gives.some ?_)
      · rw [c2, Bool.true_and] at i2
        exact i2
      · have : okV ks[i] = false := by simpa using c2
        rw [this, Bool.false_and] at i2
        exact i2.symm
    · rw [List.drop_of_length_le (by omega)] at i2
      exact i2
theorem r_measure : ∀ (v : DValue) (g : Nat) (d n : Nat), hgt v ≤ g → 1 ≤ d → d ≤ 41 → n ≤ 300 → Gives (m_ref08_measure g v (d : Int) (n : Int)) (fun r => (n : Int) + 1 ≤ r.2 ∧ r.2 ≤ 301 ∧ ((r.1 = ((d + hgt v - 1 : Nat) : Int) ∧ r.2 = ((n + cnt v : Nat) : Int) ∧ r.1 ≤ 40 ∧ r.2 ≤ 300) ∨ ((r.1 > 40 ∨ r.2 > 300) ∧ (d + hgt v - 1 > 40 ∨ n + cnt v > 300)))) := by
  intro v
  induction v using DValue.ind with
  | h op nm x ks ih =>
    intro g d n hg h1 h41 hn
    rw [hgt] at hg ⊢
    rw [cnt]
    obtain ⟨g, rfl⟩ : ∃ k, g = k + 1 := ⟨g - 1, by omega⟩
    rw [m_ref08_measure]
    dsimp only
    have hw : w64 ((n : Int) + 1) = ((n + 1 : Nat) : Int) := by rw [w64_eq (by omega)]; rfl
    rw [hw]
    refine Gives.bind (fun z => z = decide (d > 40 ∨ n + 1 > 300)) (Gives.ite (fun c => Gives.some (decide_eq_true (.inl (by omega))).symm) (fun c => Gives.some (decide_eq_decide.2 (by omega)))) fun z hz => ?_
    subst hz
    refine Gives.ite (fun c => Gives.some ?_) (fun c => ?_)
    · have c := of_decide_eq_true c
      exact ⟨by dsimp only; omega, by dsimp only; omega, .inr ⟨by dsimp only; omega, by omega⟩⟩
    · have c : ¬ (d > 40 ∨ n + 1 > 300) := fun h => c (decide_eq_true h)
      refine Gives.bind (fun r => (n : Int) + 1 ≤ r.1 ∧ r.1 ≤ 301 ∧ ((r.2 = ((d + hgtL ks : Nat) : Int) ∧ r.1 = ((n + 1 + cntL ks : Nat) : Int) ∧ r.2 ≤ 40 ∧ r.1 ≤ 300) ∨ ((r.2 > 40 ∨ r.1 > 300) ∧ (d + hgtL ks > 40 ∨ n + 1 + cntL ks > 300)))) ?_ fun r hr => Gives.some ?_
      · refine Gives.loop (fun s => ∃ j : Nat, s.2.2 = (j : Int) ∧ j ≤ ks.length ∧ (n : Int) + 1 + j ≤ s.1 ∧ s.1 ≤ 301 ∧ ((s.2.1 = ((d + hgtL (ks.take j) : Nat) : Int) ∧ s.1 = ((n + 1 + cntL (ks.take j) : Nat) : Int) ∧ s.2.1 ≤ 40 ∧ s.1 ≤ 300) ∨ ((s.2.1 > 40 ∨ s.1 > 300) ∧ (d + hgtL ks > 40 ∨ n + 1 + cntL ks > 300)))) (fun s => ks.length - s.2.2.toNat) ⟨0, rfl, Nat.zero_le _, by dsimp only; omega, by dsimp only; omega, .inl ⟨rfl, rfl, by dsimp only; omega, by dsimp only; omega⟩⟩ ?_
        rintro ⟨m, e, _⟩ ⟨j, rfl, j1, j2, j3, j4⟩
        dsimp only at j2 j3 j4 ⊢
        refine Gives.bind (fun z => z = decide (j < ks.length ∧ m ≤ 300)) (Gives.ite (fun c1 => Gives.some (decide_eq_decide.2 ⟨fun h => ⟨by omega, h⟩, fun h => h.2⟩)) (fun c1 => Gives.some (decide_eq_false (by omega)).symm)) fun z hz => ?_
        subst hz
        refine Gives.ite (fun c1 => ?_) (fun c1 => Gives.some ?_)
        · obtain ⟨cj, cm⟩ := of_decide_eq_true c1
          clear c1
          have hm := List.getElem_mem cj
          have hle := hgt_le hm
          have hcl := cntL_le ks (j + 1)
          rw [take_app cj, cntL_app] at hcl
          have hw2 : w64 ((d : Int) + 1) = ((d + 1 : Nat) : Int) := by rw [w64_eq (by omega)]; rfl
          obtain ⟨m', rfl⟩ : ∃ m' : Nat, m = (m' : Int) := ⟨m.toNat, by omega⟩
          rw [hw2, w64_eq (a := (j : Int) + 1) (by omega)]
          refine Gives.bindE (idx_ok cj) (Gives.bind _ (ih _ hm g (d + 1) m' (by omega) (by omega) (by omega) (by omega)) fun q hq => Gives.some ⟨⟨j + 1, rfl, by omega, by have := hq.1; dsimp only; omega, hq.2.1, ?_⟩, by dsimp only; omega⟩)
          obtain ⟨q1, q2, q3⟩ := hq
          dsimp only
          rw [take_app cj, cntL_app, hgtL_app]
          split
          · rename_i c3
            rcases j4 with ⟨a1, a2, a3, a4⟩ | ⟨a1, a2⟩
            · rcases q3 with ⟨b1, b2, b3, b4⟩ | ⟨b1, b2⟩
              · exact .inl ⟨by omega, by omega, by omega, by omega⟩
              · exact .inr ⟨by omega, by omega⟩
            · exact .inr ⟨by omega, a2⟩
          · rename_i c3
            rcases j4 with ⟨a1, a2, a3, a4⟩ | ⟨a1, a2⟩
            · rcases q3 with ⟨b1, b2, b3, b4⟩ | ⟨b1, b2⟩
              · exact .inl ⟨by omega, by omega, by omega, by omega⟩
              · exact .inr ⟨by omega, by omega⟩
            · exact .inr ⟨by omega, a2⟩
        · have c1 : ¬ (j < ks.length ∧ m ≤ 300) := fun h => c1 (decide_eq_true h)
          refine ⟨by omega, j3, ?_⟩
          rcases j4 with ⟨a1, a2, a3, a4⟩ | h
          · rcases Nat.lt_or_ge j ks.length with h9 | h9
            · exact absurd ⟨h9, a4⟩ c1
            · rw [List.take_of_length_le h9] at a1 a2
              exact .inl ⟨a1, a2, a3, a4⟩
          · exact .inr h
      · obtain ⟨r1, r2, r3⟩ := hr
        refine ⟨r1, r2, ?_⟩
        rcases r3 with ⟨a1, a2, a3, a4⟩ | ⟨a1, a2⟩
        · exact .inl ⟨by dsimp only; omega, by dsimp only; omega, a3, a4⟩
        · exact .inr ⟨a1, by omega⟩
def vErr (v : DValue) : Int := if hgt v > 40 ∨ cnt v > 300 then 3 else if okV v = true then 0 else 1
theorem m_Validate (v : DValue) (g : Nat) (hg : 4 * hgt v ≤ g) : m_value_Validate g v = some (vErr v) := by
  unfold m_value_Validate
  refine Gives.eq (Gives.bind (fun z => z = decide (hgt v > 40 ∨ cnt v > 300)) ?_ fun z hz => ?_)
  · refine Gives.bindE (m_deep v g 40 hg (by decide)) (Gives.ite (fun c => Gives.some (decide_eq_true (.inl (of_decide_eq_true c))).symm) (fun c => ?_))
    have c : ¬ hgt v > 40 := fun h => c (decide_eq_true h)
    refine Gives.bind _ (m_count v g (by omega) (by omega)) fun r hr => Gives.some ?_
    obtain ⟨r1, r2, r3, r4⟩ := hr
    rcases Classical.em (r > 300) with h9 | h9
    · rw [decide_eq_true h9, decide_eq_true (.inr (r4 h9))]
    · have := r3 (by omega)
      rw [decide_eq_false h9, decide_eq_false (by omega)]
  · subst hz
    unfold vErr
    refine Gives.ite (fun c => Gives.some (by rw [if_pos (of_decide_eq_true c)])) (fun c => ?_)
    rw [if_neg fun h => c (decide_eq_true h)]
    refine Gives.bindE (m_isRight v g hg) (Gives.ite (fun c => Gives.some (by rw [if_pos c])) (fun c => Gives.some (by rw [if_neg c])))
theorem r_Validate (v : DValue) (g : Nat) (hg : hgt v ≤ g) : m_ref08_Validate g v = some (vErr v) := by
  unfold m_ref08_Validate m_ref08_isLarge
  have hp := hgt_pos v
  refine Gives.eq (Gives.bind (fun z => z = decide (hgt v > 40 ∨ cnt v > 300)) (Gives.bind _ (r_measure v g 1 0 hg (by decide) (by decide) (by decide)) fun r hr => ?_) fun z hz => ?_)
  · obtain ⟨_, _, hr⟩ := hr
    refine Gives.bind (fun z => z = decide (r.1 > 40 ∨ r.2 > 300)) (Gives.ite (fun c => Gives.some (decide_eq_true (.inl c)).symm) (fun c => Gives.some (decide_eq_decide.2 ⟨.inr, fun h => h.resolve_left c⟩))) fun z hz => Gives.some ?_
    rw [hz]
    rcases hr with ⟨a1, a2, a3, a4⟩ | ⟨a1, a2⟩
    · rw [decide_eq_false (by omega), decide_eq_false (by omega)]
    · rw [decide_eq_true a1, decide_eq_true (by omega)]
  · subst hz
    unfold vErr
    refine Gives.ite (fun c => Gives.some (by rw [if_pos (of_decide_eq_true c)])) (fun c => ?_)
    rw [if_neg fun h => c (decide_eq_true h)]
    refine Gives.bindE (r_isValue v g hg) (Gives.ite (fun c => Gives.some (by rw [if_pos c])) (fun c => Gives.some (by rw [if_neg c])))
theorem r_Exact : ∀ (v : DValue) (g : Nat), hgt v ≤ g → m_ref08_Exact g v v = some true := by
  intro v
  induction v using DValue.ind with
  | h op nm x ks ih =>
    intro g hg
    rw [hgt] at hg
    obtain ⟨g, rfl⟩ : ∃ k, g = k + 1 := ⟨g - 1, by omega⟩
    rw [m_ref08_Exact]
    dsimp only
    refine Gives.eq (Gives.bind (fun z => z = false) (Gives.pos rfl (Gives.pos rfl (Gives.pos rfl (Gives.some (by rw [decide_eq_true rfl]; rfl))))) fun z hz => ?_)
    subst hz
    refine Gives.neg (by decide) (Gives.jx (fun _ => True) (uptoV ks.length 0 (fun i _ hi => ?_) (fun i _ hi => ?_)) (fun _ _ => Gives.some rfl))
    · rw [if_pos (by omega)]
      have hm := List.getElem_mem hi
      have hle := hgt_le hm
      exact Gives.bindE (List.getElem?_eq_getElem hi) (Gives.bindE (List.getElem?_eq_getElem hi) (Gives.bindE (ih _ hm g (by omega)) (Gives.pos rfl (Gives.some rfl))))
    · rw [if_neg (by omega)]
      exact Gives.some True.intro
end Go.Proofs.Ytchecaeeiejjjaa
