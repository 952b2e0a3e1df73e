/- Narrow in plain words, and how what it gives hangs on the problem. -/
import Derived.Test.YtopmcncaanjboaaDmFF
namespace Go.Proofs.Ytopmcncaanjboaa
open Go Go.Mir
set_option linter.unusedVariables false
/-- How many combinations there are, cut above the limit. -/
def combG : Int → List Nat → Int
  | a, [] => a
  | a, n :: r => if a * n > 20000 then 20001 else combG (a * n) r
theorem combG_mono : ∀ {l l' : List Nat} {a a' : Int}, l'.length = l.length → (∀ (i x y : Nat), l[i]? = some x → l'[i]? = some y → y ≤ x) → 0 ≤ a' → a' ≤ a → ¬ combG a l > 20000 → ¬ combG a' l' > 20000
  | [], [], a, a', _, _, _, h, h1 => by simp only [combG] at *; omega
  | n :: l, n' :: l', a, a', hl, h, h0, ha, h1 => by
    have hn := h 0 n n' rfl rfl
    rw [combG] at h1 ⊢
    have hm : a' * (n' : Int) ≤ a * (n : Int) := Int.mul_le_mul ha (by omega) (by omega) (by omega)
    have h2 : 0 ≤ a' * (n' : Int) := Int.mul_nonneg h0 (by omega)
    by_cases c : a * (n : Int) > 20000
    · rw [if_pos c] at h1; omega
    · rw [if_neg c] at h1
      rw [if_neg (by omega)]
      exact combG_mono (by simpa using hl) (fun i x y hx hy => h (i + 1) x y hx hy) h2 hm h1
  | [], _ :: _, _, _, h, _, _, _, _ => by cases h
  | _ :: _, [], _, _, h, _, _, _, _ => by cases h
def costly (D : List (List Int)) (l : DLimit) : Prop := 3 < l.Vars.length ∧ combG 1 (lensO D l.Vars) > 20000
theorem m_comb (g : Nat) {D : List (List Int)} {vs : List Int} (hv : ∀ v ∈ vs, 0 ≤ v ∧ v < D.length) (hD : ∀ d ∈ D, d.length ≤ 30) : m_domain_combinations g D vs = some (combG 1 (lensO D vs)) := by
  unfold m_domain_combinations
  by_cases hall : ∃ q : Int ⊕ Int, jx (some q) (fun z => some z) = some (combG 1 (lensO D vs))
  · obtain ⟨q, hq⟩ := hall
    have hg : Gives (Mir.Loop (S := Int × Nat) (Q := (Int) ⊕ (Int)) ((1 : Int), (0 : Nat)) fun s8 =>
      if ((s8.2 : Nat) : Int) < ((vs.length : Nat) : Int) then
        ((vs)[s8.2]?).bind fun x13 =>
        (Mir.idx D x13).bind fun x20 =>
        if Mir.w64 (s8.1 * ((x20.length : Nat) : Int)) > 20000 then
          some (.inr (.inr (20001 : Int)))
        else
          some (.inl (Mir.w64 (s8.1 * ((x20.length : Nat) : Int)), s8.2 + 1))
      else
        some (.inr (.inl s8.1))) (fun q => jx (some q) (fun z => some z) = some (combG 1 (lensO D vs))) := by
      refine Gives.loop (fun s => s.2 ≤ vs.length ∧ 0 ≤ s.1 ∧ s.1 ≤ 20000 ∧ combG 1 (lensO D vs) = combG s.1 (lensO D (vs.drop s.2))) (fun s => vs.length - s.2) ⟨Nat.zero_le _, by decide, by decide, rfl⟩ ?_
      rintro ⟨a, i⟩ ⟨hi, h0, h1, h2⟩
      dsimp only at hi h0 h1 h2 ⊢
      refine Gives.ite (fun c => ?_) (fun c => ?_)
      · have hil : i < vs.length := by omega
        have hvm := hv _ (List.getElem_mem hil)
        have hdl := hD _ (domOf_mem hvm)
        refine Gives.bindE (List.getElem?_eq_getElem hil) (Gives.bindE (domOf_idx hvm) ?_)
        have hb : a * ((domOf D vs[i]).length : Int) ≤ 20000 * 30 := Int.mul_le_mul h1 (by omega) (by omega) (by omega)
        have hb0 : 0 ≤ a * ((domOf D vs[i]).length : Int) := Int.mul_nonneg h0 (by omega)
        rw [w64_eq (by omega)]
        rw [List.drop_eq_getElem_cons hil] at h2
        have e : lensO D (vs[i] :: vs.drop (i + 1)) = (domOf D vs[i]).length :: lensO D (vs.drop (i + 1)) := rfl
        rw [e, combG] at h2
        refine Gives.ite (fun c1 => ?_) (fun c1 => ?_)
        · rw [if_pos c1] at h2
          exact Gives.some (by show some (20001 : Int) = _; rw [h2])
        · rw [if_neg c1] at h2
          exact Gives.some ⟨⟨by dsimp only; omega, hb0, by dsimp only; omega, h2⟩, by dsimp only; omega⟩
      · rw [List.drop_of_length_le (by omega)] at h2
        exact Gives.some (by show some a = _; rw [h2]; rfl)
    obtain ⟨q', h1, h2⟩ := hg
    rw [h1]; exact h2
  · exact absurd ⟨.inl _, rfl⟩ hall
theorem m_isCostly (g : Nat) {p : DProblem} (h : Valid p) : ∃ b, m_domain_isCostly g p = some b ∧ (b = true ↔ ∃ l ∈ p.Limits, costly p.Doms l) := by
  classical
  unfold m_domain_isCostly
  rw [Loop_all p.Limits (fun l => !decide (costly p.Doms l)) (j := ()) (r := true) (by rw [if_neg (by omega)]) fun i x hi hx => by
    have hx' := List.mem_of_getElem? hx
    rw [if_pos (by omega), hx, Option.bind_some]
    by_cases c : 3 < x.Vars.length
    · rw [if_pos (by omega), m_comb g (h.lim x hx').vars (fun d hd => (h.dl d hd).1), Option.bind_some, Option.bind_some]
      by_cases c2 : combG 1 (lensO p.Doms x.Vars) > 20000
      · rw [decide_eq_true c2, if_pos rfl, decide_eq_true (show costly p.Doms x from ⟨c, c2⟩)]; rfl
      · rw [decide_eq_false c2, if_neg (by decide), decide_eq_false (show ¬ costly p.Doms x from fun h => c2 h.2)]; rfl
    · rw [if_neg (by omega), Option.bind_some, if_neg (by decide), decide_eq_false (show ¬ costly p.Doms x from fun h => c h.1)]; rfl]
  by_cases c : p.Limits.all (fun l => !decide (costly p.Doms l)) = true
  · rw [if_pos c]
    refine ⟨false, rfl, fun h => (nomatch h), fun ⟨l, hl, hc⟩ => ?_⟩
    have := List.all_eq_true.1 c l hl
    simp [hc] at this
  · rw [if_neg c]
    refine ⟨true, rfl, fun _ => ?_, fun _ => rfl⟩
    by_cases h2 : ∃ l ∈ p.Limits, costly p.Doms l
    · exact h2
    · refine absurd ?_ c
      rw [List.all_eq_true]
      intro l hl
      have : ¬ costly p.Doms l := fun hc => h2 ⟨l, hl, hc⟩
      simp [this]
def Easy (p : DProblem) : Prop := Valid p ∧ ∀ l ∈ p.Limits, ¬ costly p.Doms l
theorem Valid.narrow {p : DProblem} (h : Valid p) (g : Nat) : Gives (m_domain_narrow g p.Doms p.Limits) (NarrowSpec p.Doms p.Limits) :=
  m_narrow g h.nd (fun d hd => (h.dl d hd).1) fun l hl => ⟨h.lim l hl, (h.ll l hl).1⟩
theorem m_Narrow (g : Nat) (p : DProblem) : Gives (m_domain_Narrow g p) (fun r => (r.2.2 = 0 ↔ Easy p) ∧ (Easy p → NarrowSpec p.Doms p.Limits (r.1, r.2.1))) := by
  unfold m_domain_Narrow
  obtain ⟨e, h1, h2⟩ := m_Validate g p
  refine Gives.bindE h1 ?_
  refine Gives.ite (fun c => ?_) (fun c => ?_)
  · have hv := h2.1 c
    obtain ⟨b, h3, h4⟩ := m_isCostly g hv
    refine Gives.bindE h3 ?_
    refine Gives.ite (fun cb => ?_) (fun cb => ?_)
    · obtain ⟨l, hl, hc⟩ := h4.1 cb
      exact Gives.some ⟨⟨(fun h => nomatch h), fun h => absurd hc (h.2 l hl)⟩, fun h => absurd hc (h.2 l hl)⟩
    · have he : Easy p := ⟨hv, fun l hl hc => cb (h4.2 ⟨l, hl, hc⟩)⟩
      refine Gives.bind _ (hv.narrow g) fun r hr => ?_
      exact Gives.some ⟨⟨fun _ => he, fun _ => rfl⟩, fun _ => hr⟩
  · exact Gives.some ⟨⟨fun h => absurd h c, fun h => h2.2 h.1⟩, fun h => absurd (h2.2 h.1) c⟩
theorem risP_pair {l : List Int} : risP l ↔ l.Pairwise (· < ·) := by
  rw [List.pairwise_iff_getElem]
  constructor
  · intro h i j hi hj hij
    have := risP_lt h (j - i - 1) i _ _ (List.getElem?_eq_getElem hi) (by rw [show i + (j - i - 1) + 1 = j by omega]; exact List.getElem?_eq_getElem hj)
    exact this
  · intro h i x y hx hy
    obtain ⟨h1, rfl⟩ := List.getElem?_eq_some_iff.1 hx
    obtain ⟨h2, rfl⟩ := List.getElem?_eq_some_iff.1 hy
    exact h i (i + 1) h1 h2 (by omega)
theorem risP_filter {l : List Int} (h : risP l) (f : Int → Bool) : risP (l.filter f) := risP_pair.2 ((risP_pair.1 h).filter f)
theorem isLimit_len (g : Nat) {p p' : DProblem} (h : p'.Doms.length = p.Doms.length) (l : DLimit) : m_domain_isLimit g p' l = m_domain_isLimit g p l := by
  unfold m_domain_isLimit
  rw [h]
/-- A problem with narrower domains, and limits of the same, is as easy. -/
theorem Easy.sub {p p' : DProblem} (h : Easy p) (hd : p'.Doms.length = p.Doms.length) (hf : ∀ v, ∃ f : Int → Bool, domOf p'.Doms v = (domOf p.Doms v).filter f) (hl : p'.Limits.length ≤ 24) (hm : ∀ l ∈ p'.Limits, l ∈ p.Limits) : Easy p' := by
  have hlen : ∀ v, (domOf p'.Doms v).length ≤ (domOf p.Doms v).length := fun v => filter_len (hf v)
  refine ⟨⟨by have := h.1.nd; omega, hl, fun d hd' => ?_, fun l hl' => ?_⟩, fun l hl' hc => h.2 l (hm l hl') ?_⟩
  · obtain ⟨k, hk⟩ := List.mem_iff_getElem?.1 hd'
    have hkl := (List.getElem?_eq_some_iff.1 hk).1
    have e : domOf p'.Doms (k : Int) = d := by rw [domOf_nat, hk]; rfl
    obtain ⟨f, hf'⟩ := hf k
    obtain ⟨h1, h2, h3⟩ := h.1.dl _ (domOf_mem (D := p.Doms) (v := (k : Int)) (by omega))
    rw [← e, hf']
    refine ⟨Nat.le_trans (List.length_filter_le _ _) h1, ?_, risP_filter h3 f⟩
    rw [List.all_eq_true] at h2 ⊢
    exact fun x hx => h2 x ((List.mem_filter.1 hx).1)
  · obtain ⟨h1, h2, h3⟩ := h.1.ll l (hm l hl')
    exact ⟨h1, h2, by rw [isLimit_len 0 hd]; exact h3⟩
  · refine ⟨hc.1, ?_⟩
    rcases Classical.em (combG 1 (lensO p.Doms l.Vars) > 20000) with h9 | h9
    · exact h9
    · refine absurd hc.2 (combG_mono (by unfold lensO; rw [List.length_map, List.length_map]) (fun i x y hx hy => ?_) (by decide) (Int.le_refl _) h9)
      unfold lensO at hx hy
      rw [List.getElem?_map] at hx hy
      obtain ⟨v, hv, rfl⟩ := Option.map_eq_some_iff.1 hx
      rw [hv] at hy
      cases hy
      exact hlen v
theorem filter_same {l : List Int} {f f' : Int → Bool} (h : ∀ n, n ∈ l.filter f ↔ n ∈ l.filter f') : l.filter f = l.filter f' := by
  apply List.filter_congr
  intro n hn
  have := h n
  rw [List.mem_filter, List.mem_filter] at this
  have : f n = true ↔ f' n = true := ⟨fun h1 => (this.1 ⟨hn, h1⟩).2, fun h1 => (this.2 ⟨hn, h1⟩).2⟩
  cases h1 : f n <;> cases h2 : f' n <;> simp_all
theorem Narrowed.fam {Doms D : List (List Int)} {Ls : List DLimit} (h : Narrowed Doms Ls D) : Fam Doms (InD D) := fun v n hn => by
  obtain ⟨f, hf⟩ := h.sub v
  have hn : n ∈ domOf D v := hn
  rw [hf] at hn
  exact (List.mem_filter.1 hn).1
theorem Narrowed.full {Doms D : List (List Int)} {Ls : List DLimit} (h : Narrowed Doms Ls D) : FullE Doms.length (InD D) := fun v h0 h1 => by
  have := h.ne _ (domOf_mem (D := D) (v := v) ⟨h0, by rw [h.len]; exact h1⟩)
  obtain ⟨n, hn⟩ := List.exists_mem_of_ne_nil (domOf D v) (fun h => by rw [h] at this; cases this)
  exact ⟨n, hn⟩
/-- There is one greatest consistent family. -/
theorem Narrowed.one {Doms D D' : List (List Int)} {Ls Ls' : List DLimit} (h : Narrowed Doms Ls D) (c : ConsE Ls (InD D)) (h' : Narrowed Doms Ls' D') (c' : ConsE Ls' (InD D')) (hc : ∀ E, ConsE Ls E ↔ ConsE Ls' E) : D' = D := by
  have a1 := h'.top _ h.fam ((hc _).1 c)
  have a2 := h.top _ h'.fam ((hc _).2 c')
  refine domOf_ext (by rw [h'.len, h.len]) fun v => ?_
  obtain ⟨f, hf⟩ := h.sub v
  obtain ⟨f', hf'⟩ := h'.sub v
  have : ∀ n, n ∈ domOf D' v ↔ n ∈ domOf D v := fun n => ⟨fun hn => a2 v n hn, fun hn => a1 v n hn⟩
  rw [hf, hf'] at this ⊢
  exact filter_same this
theorem Narrowed.again {Doms D D' : List (List Int)} {Ls : List DLimit} (h : Narrowed Doms Ls D) (c : ConsE Ls (InD D)) (h' : Narrowed D Ls D') : D' = D := by
  have a1 := h'.top _ (fun v n hn => hn) c
  refine domOf_ext (by rw [h'.len]) fun v => ?_
  obtain ⟨f, hf⟩ := h'.sub v
  rw [hf]
  refine List.filter_eq_self.2 fun n hn => ?_
  have := a1 v n hn
  rw [hf] at this
  exact (List.mem_filter.1 this).2
end Go.Proofs.Ytopmcncaanjboaa
