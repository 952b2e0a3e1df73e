/- Which tuples satisfy a problem; how many tuples there are. -/
import Derived.Test.YtopmcncaanjboaaDnAF
namespace Go.Proofs.Ytopmcncaanjboaa
open Go Go.Mir
set_option linter.unusedVariables false
def pick (l : DLimit) (x : List Int) : List Int := l.Vars.map fun v => (idx x v).getD 0
/-- A tuple of the domains that satisfies every limit. -/
def Sol (Ls : List DLimit) (D : List (List Int)) (x : List Int) : Prop := InT D x ∧ ∀ l ∈ Ls, holdsL l (pick l x) = true
theorem m_tuples (g : Nat) {p : DProblem} (hl : ∀ d ∈ p.Doms, d.length ≤ 30) : Gives (m_law11_tuples g p) (fun r => (∀ d ∈ p.Doms, 0 < d.length) → r ≤ 20000 → r = (prodO (lensD p.Doms) : Int)) := by
  unfold m_law11_tuples
  have key : Gives (m_ref11_Combinations g p.Doms) (fun r => (∀ d ∈ p.Doms, 0 < d.length) → r ≤ 20000 → r = (prodO (lensD p.Doms) : Int)) := by
    unfold m_ref11_Combinations
    refine Gives.jx (fun _ => True) (upto p.Doms.length 0 (fun i h1 hi => ?_) (fun i h1 hi => ?_)) (fun _ _ => ?_)
    · rw [if_pos (by omega)]
      refine Gives.bindE (List.getElem?_eq_getElem hi) (Gives.ite (fun c => Gives.some fun h => ?_) (fun c => Gives.some rfl))
      have := h _ (List.getElem_mem hi)
      omega
    · rw [if_neg (by omega)]
      exact Gives.some True.intro
    refine Gives.jx (fun r => r = (prodO (lensD p.Doms) : Int)) (Gives.loop (fun s => s.2 ≤ p.Doms.length ∧ 0 ≤ s.1 ∧ s.1 ≤ 20000 ∧ s.1 * (prodO (lensD (p.Doms.drop s.2)) : Int) = (prodO (lensD p.Doms) : Int)) (fun s => p.Doms.length - s.2) ⟨Nat.zero_le _, by decide, by decide, by dsimp only; rw [List.drop_zero]; omega⟩ ?_) (fun r hr => Gives.some fun _ _ => hr)
    rintro ⟨a, i⟩ ⟨hi, h0, h1, h2⟩
    dsimp only at hi h0 h1 h2 ⊢
    refine Gives.ite (fun c => ?_) (fun c => Gives.some ?_)
    · have hi' : i < p.Doms.length := by omega
      have hd := hl _ (List.getElem_mem hi')
      refine Gives.bindE (List.getElem?_eq_getElem hi') ?_
      have hb : a * (p.Doms[i].length : Int) ≤ 20000 * 30 := Int.mul_le_mul h1 (by omega) (by omega) (by omega)
      have hb0 : 0 ≤ a * (p.Doms[i].length : Int) := Int.mul_nonneg h0 (by omega)
      rw [w64_eq (by omega)]
      refine Gives.ite (fun c1 => Gives.some fun _ h => absurd h (by decide)) (fun c1 => Gives.some ⟨⟨by dsimp only; omega, hb0, by dsimp only; omega, ?_⟩, by dsimp only; omega⟩)
      rw [List.drop_eq_getElem_cons hi'] at h2
      have e : prodO (lensD (p.Doms[i] :: p.Doms.drop (i + 1))) = p.Doms[i].length * prodO (lensD (p.Doms.drop (i + 1))) := rfl
      rw [e, Int.natCast_mul, ← Int.mul_assoc] at h2
      exact h2
    · rw [List.drop_of_length_le (by omega)] at h2
      show a = _
      rw [← h2]
      show a = a * ((1 : Nat) : Int)
      omega
  exact Gives.bind _ key fun r hr => Gives.some hr
theorem m_has (g : Nat) {l : List Int} {x : Int} (h : x ∈ l) : m_domain_has g l x = some true := m_in g h
theorem m_chosen (g : Nat) {l : DLimit} {x : List Int} (hv : ∀ v ∈ l.Vars, 0 ≤ v ∧ v < x.length) (hn : l.Vars.length ≤ 12) : m_domain_chosen g l x = some (pick l x) := by
  unfold m_domain_chosen
  suffices h : Gives (Mir.Loop (S := List Int × Nat) (Q := List Int) (([] : List Int), (0 : Nat)) fun s22 =>
      if ((s22.2 : Nat) : Int) < ((l.Vars.length : Nat) : Int) then
        ((l.Vars)[s22.2]?).bind fun x34 =>
        (Mir.idx x x34).bind fun x41 =>
        (Mir.push 8 s22.1 [x41]).bind fun x53 =>
        some (.inl (x53, s22.2 + 1))
      else
        some (.inr s22.1)) (fun q => q = pick l x) by
    obtain ⟨q, h1, rfl⟩ := h
    rw [h1]; rfl
  have hpl : (pick l x).length = l.Vars.length := List.length_map _
  refine Gives.loop (fun s => s.2 ≤ l.Vars.length ∧ s.1 = (pick l x).take s.2) (fun s => l.Vars.length - s.2) ⟨Nat.zero_le _, rfl⟩ ?_
  rintro ⟨a, i⟩ ⟨hi, haE⟩
  dsimp only at hi haE ⊢
  subst haE
  refine Gives.ite (fun c => ?_) (fun c => Gives.some ?_)
  · have hi' : i < l.Vars.length := by omega
    have hvi := hv _ (List.getElem_mem hi')
    obtain ⟨k, hk⟩ : ∃ k : Nat, l.Vars[i] = (k : Int) := ⟨l.Vars[i].toNat, by omega⟩
    have hkx : k < x.length := by omega
    refine Gives.bindE (List.getElem?_eq_getElem hi') (Gives.bindE (a := x[k]) (by rw [hk, idx_ok hkx]) ?_)
    refine Gives.bindE (push_small 12 (by rw [List.length_take]; simp only [List.length_cons, List.length_nil]; omega) (by decide)) (Gives.some ⟨⟨by dsimp only; omega, ?_⟩, by dsimp only; omega⟩)
    dsimp only
    have : (pick l x)[i]? = some x[k] := by
      unfold pick
      rw [List.getElem?_map, List.getElem?_eq_getElem hi', Option.map_some, hk, idx_ok hkx]; rfl
    rw [List.take_add_one, this]; rfl
  · show List.take i (pick l x) = _
    rw [List.take_of_length_le (by omega)]
theorem onHolds (g : Nat) (l : DLimit) {X : Option (List Int)} : (ILimit.on (ofL l) (none : Option Bool)
                (fun y98 =>
                  X.bind fun q106 =>
                  (m_domain_apart_holds g (DApart.mk) q106).bind fun q115 =>
                  some (!q115)
                )
                (fun y99 =>
                  X.bind fun q127 =>
                  (m_domain_table_holds g y99 q127).bind fun q136 =>
                  some (!q136)
                )
                (fun y100 =>
                  X.bind fun q156 =>
                  (m_domain_sum_holds g y100 q156).bind fun q165 =>
                  some (!q165)
                )) = X.bind fun q => (holdsM g (ofL l) q).bind fun b => some (!b) := by
  unfold ofL
  split
  · rfl
  · split <;> rfl
theorem m_Holds (g : Nat) {p : DProblem} (h : Valid p) {x : List Int} (hx : InT p.Doms x) : Gives (m_domain_Holds g p x) (fun r => r.2.2 = 0 ∧ (r.1 = true ↔ ∀ l ∈ p.Limits, holdsL l (pick l x) = true)) := by
  unfold m_domain_Holds
  obtain ⟨e, h1, h2⟩ := m_Validate g p
  have h0 := h2.2 h
  subst h0
  refine Gives.bindE h1 (Gives.pos rfl (Gives.pos (by rw [hx.1]) ?_))
  refine Gives.jx (fun _ => True) (upto x.length 0 (fun i _ hi => ?_) (fun i _ hi => ?_)) (fun _ _ => ?_)
  · rw [if_pos (by omega)]
    have hid : i < p.Doms.length := by rw [← hx.1]; exact hi
    refine Gives.bindE (List.getElem?_eq_getElem hi) (Gives.bindE (List.getElem?_eq_getElem hid) ?_)
    have := hx.2 i x[i] (List.getElem?_eq_getElem hi)
    rw [domOf_nat, List.getElem?_eq_getElem hid] at this
    exact Gives.bindE (m_has g this) (Gives.pos rfl (Gives.some rfl))
  · rw [if_neg (by omega)]
    exact Gives.some True.intro
  refine Gives.jx (fun _ => ∀ l ∈ p.Limits, holdsL l (pick l x) = true) (Gives.loop (fun i => i ≤ p.Limits.length ∧ ∀ l ∈ p.Limits.take i, holdsL l (pick l x) = true) (fun i => p.Limits.length - i) ⟨Nat.zero_le _, fun l h => nomatch h⟩ fun i hi => ?_) (fun _ hh => Gives.some ⟨rfl, fun _ => hh, fun _ => rfl⟩)
  obtain ⟨hi, hpi⟩ := hi
  refine Gives.ite (fun c => ?_) (fun c => Gives.some ?_)
  · have hi' : i < p.Limits.length := by omega
    have hm := List.getElem_mem hi'
    have ok := h.lim _ hm
    refine Gives.bindE (List.getElem?_eq_getElem hi') ?_
    refine Gives.bind (fun z => z = !holdsL p.Limits[i] (pick p.Limits[i] x)) ?_ fun z hz => ?_
    · refine Gives.bindE (m_of g _) ?_
      rw [onHolds, m_chosen g (by rw [hx.1]; exact ok.vars) (h.ll _ hm).1, Option.bind_some, holdsM_eq g ok (x := pick p.Limits[i] x) (List.length_map _)]
      exact Gives.some rfl
    · subst hz
      refine Gives.ite (fun c => Gives.some ⟨rfl, (fun h => nomatch h), fun h9 => ?_⟩) (fun c => Gives.some ⟨⟨by omega, fun l hl => ?_⟩, by omega⟩)
      · rw [h9 _ hm] at c
        exact absurd c (by decide)
      · rw [List.take_add_one, List.getElem?_eq_getElem hi'] at hl
        rcases List.mem_append.1 hl with hl | hl
        · exact hpi l hl
        · obtain rfl : l = p.Limits[i] := by simpa using hl
          cases h9 : holdsL p.Limits[i] (pick p.Limits[i] x) with
          | true => rfl
          | false => rw [h9] at c; exact absurd rfl c
  · intro l hl
    rw [List.take_of_length_le (by omega)] at hpi
    exact hpi l hl
/-- A tuple as sets of values. -/
def Ex (x : List Int) (v n : Int) : Prop := idx x v = some n
theorem Ex.nat {x : List Int} {v n : Int} (h : Ex x v n) : ∃ k : Nat, v = (k : Int) ∧ x[k]? = some n := by
  unfold Ex idx at h
  split at h
  · exact ⟨v.toNat, by omega, h⟩
  · cases h
theorem Ex.fam {D : List (List Int)} {x : List Int} (h : InT D x) : Fam D (Ex x) := fun v n hn => by
  obtain ⟨k, rfl, h2⟩ := hn.nat
  exact h.2 k n h2
theorem Ex.full {x : List Int} {n : Nat} (h : x.length = n) : FullE n (Ex x) := fun v h0 h1 => by
  obtain ⟨k, rfl⟩ : ∃ k : Nat, v = (k : Int) := ⟨v.toNat, by omega⟩
  exact ⟨x[k]'(by omega), idx_ok (by omega)⟩
theorem pick_get {l : DLimit} {x : List Int} (hv : ∀ v ∈ l.Vars, 0 ≤ v ∧ v < x.length) {k : Nat} {w : Int} (h : l.Vars[k]? = some w) : ∃ y, (pick l x)[k]? = some y ∧ Ex x w y := by
  have hw := hv w (List.mem_of_getElem? h)
  obtain ⟨j, rfl⟩ : ∃ j : Nat, w = (j : Int) := ⟨w.toNat, by omega⟩
  have e := idx_ok (xs := x) (i := j) (by omega)
  refine ⟨_, ?_, e⟩
  unfold pick
  rw [List.getElem?_map, h, Option.map_some, e]; rfl
theorem Sol.cons {Ls : List DLimit} {D : List (List Int)} {x : List Int} (h : Sol Ls D x) (hv : ∀ l ∈ Ls, ∀ v ∈ l.Vars, 0 ≤ v ∧ v < D.length) : ConsE Ls (Ex x) := fun l hl => by
  have hv' : ∀ v ∈ l.Vars, 0 ≤ v ∧ v < x.length := by rw [h.1.1]; exact hv l hl
  refine ⟨fun i v n hi hn => ⟨pick l x, List.length_map _, fun k w hk => pick_get hv' hk, ?_, h.2 l hl⟩, fun h0 => ?_⟩
  · obtain ⟨y, h1, h2⟩ := pick_get hv' hi
    have : y = n := Option.some.inj (h2.symm.trans hn)
    rw [← this]; exact h1
  · have := h.2 l hl
    rwa [show pick l x = [] by unfold pick; rw [h0]; rfl] at this
theorem InT.sub {D D' : List (List Int)} {x : List Int} (hl : D'.length = D.length) (hs : ∀ v n, n ∈ domOf D' v → n ∈ domOf D v) (h : InT D' x) : InT D x := ⟨by rw [h.1, hl], fun k y hy => hs _ _ (h.2 k y hy)⟩
theorem Narrowed.sol {Doms D : List (List Int)} {Ls : List DLimit} (h : Narrowed Doms Ls D) (hv : ∀ l ∈ Ls, ∀ v ∈ l.Vars, 0 ≤ v ∧ v < Doms.length) {x : List Int} : Sol Ls D x ↔ Sol Ls Doms x := by
  constructor
  · exact fun hx => ⟨hx.1.sub h.len h.fam, hx.2⟩
  · intro hx
    refine ⟨⟨by rw [h.len]; exact hx.1.1, fun k y hy => ?_⟩, hx.2⟩
    exact h.top (Ex x) (Ex.fam hx.1) (hx.cons hv) k y (by unfold Ex; rw [idx_nat]; exact hy)
theorem no_sol {Doms : List (List Int)} {Ls : List DLimit} (h : ∀ E, Fam Doms E → ConsE Ls E → ¬ FullE Doms.length E) (hv : ∀ l ∈ Ls, ∀ v ∈ l.Vars, 0 ≤ v ∧ v < Doms.length) {x : List Int} : ¬ Sol Ls Doms x :=
  fun hx => h (Ex x) (Ex.fam hx.1) (hx.cons hv) (Ex.full hx.1.1)
end Go.Proofs.Ytopmcncaanjboaa
