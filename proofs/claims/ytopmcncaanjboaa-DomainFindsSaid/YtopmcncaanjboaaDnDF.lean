/- The law of finding: it is told true. -/
import Derived.Test.YtopmcncaanjboaaDnCF
namespace Go.Proofs.Ytopmcncaanjboaa
open Go Go.Mir
set_option linter.unusedVariables false
theorem m_lhas (g : Nat) (a : List (List Int)) (x : List Int) : m_law11_has g a x = some (decide (x ∈ a)) := by
  unfold m_law11_has
  suffices h : Gives (Mir.Loop (S := Nat) (Q := (Unit) ⊕ (Bool)) (0 : Nat) fun s10 =>
      if ((s10 : Nat) : Int) < ((a.length : Nat) : Int) then
        ((a)[s10]?).bind fun x17 =>
        (m_ref01_SameInts g x17 x).bind fun q28 =>
        if q28 = true then
          some (.inr (.inr true))
        else
          some (.inl (s10 + 1))
      else
        some (.inr (.inl ()))) (fun q => (q = .inr true ∧ x ∈ a) ∨ (q = .inl () ∧ x ∉ a)) by
    obtain ⟨q, h1, ⟨rfl, h2⟩ | ⟨rfl, h2⟩⟩ := h
    · rw [h1, decide_eq_true h2]; rfl
    · rw [h1, decide_eq_false h2]; rfl
  refine Gives.loop (fun i => i ≤ a.length ∧ x ∉ a.take i) (fun i => a.length - i) ⟨Nat.zero_le _, by simp⟩ ?_
  rintro i ⟨hi, hm⟩
  refine Gives.ite (fun c => ?_) (fun c => Gives.some ?_)
  · have hi' : i < a.length := by omega
    have ha := List.getElem?_eq_getElem hi'
    refine Gives.bindE ha (Gives.bindE (m_SameInts g _ _) (Gives.ite (fun e => Gives.some (.inl ⟨rfl, ?_⟩)) (fun e => Gives.some ⟨⟨by omega, fun h => ?_⟩, by omega⟩)))
    · rw [← of_decide_eq_true e]; exact List.getElem_mem hi'
    · rw [List.take_add_one, ha] at h
      rcases List.mem_append.1 h with h | h
      · exact hm h
      · have : x = a[i] := by simpa using h
        exact e (decide_eq_true this.symm)
  · rw [List.take_of_length_le (by omega)] at hm
    exact .inr ⟨rfl, hm⟩
theorem m_finds (p : DProblem) : ∃ g, m_law11_DomainFinds g p = some true := by
  refine ⟨1000, ?_⟩
  suffices h : Gives (m_law11_DomainFinds 1000 p) (fun b => b = true) by obtain ⟨b, h1, rfl⟩ := h; exact h1
  unfold m_law11_DomainFinds
  have kn : Gives ((m_law11_known 1000).bind fun q => some q) (fun b => b = true) := Gives.bindE (m_known 1000) (Gives.some rfl)
  refine Gives.bind (fun z => ¬ z = true → Valid p ∧ ((∀ d ∈ p.Doms, 0 < d.length) → prodO (lensD p.Doms) ≤ 1500)) ?_ fun z hz => ?_
  · obtain ⟨e, h1, h2⟩ := m_Validate 1000 p
    refine Gives.bindE h1 (Gives.ite (fun c => ?_) (fun c => Gives.some fun h => absurd rfl h))
    have hv := h2.1 c
    refine Gives.bind (fun _ => True) (e_isHeavy 1000 hv) fun b _ => Gives.ite (fun _ => Gives.some fun h => absurd rfl h) (fun _ => ?_)
    refine Gives.bind _ (m_tuples 1000 fun d hd => (hv.dl d hd).1) fun q hq => Gives.some fun h => ⟨hv, fun hpos => ?_⟩
    have hle : q ≤ 1500 := by
      rcases Classical.em (q > 1500) with h9 | h9
      · exact absurd (decide_eq_true h9) h
      · omega
    have := hq hpos (by omega)
    omega
  refine Gives.ite (fun _ => kn) (fun hzf => ?_)
  obtain ⟨hv, hp⟩ := hz hzf
  refine Gives.bind _ (m_Narrow 1000 p) fun d hd => ?_
  refine Gives.ite (fun c => ?_) (fun _ => kn)
  have ep := hd.1.1 c
  have sp := hd.2 ep
  have hvar : ∀ l ∈ p.Limits, ∀ v ∈ l.Vars, 0 ≤ v ∧ v < p.Doms.length := fun l hl => (hv.lim l hl).vars
  refine Gives.bind _ (m_TuplesP 1000 hv.nd (fun d hd => (hv.dl d hd).1) (fun d hd => (hv.dl d hd).2.2) hp) fun T hT => ?_
  obtain ⟨T1, T2, T3⟩ := hT
  have hB : ∀ l : List (List Int), l.Nodup → (∀ x ∈ l, Sol p.Limits p.Doms x) → l.length ≤ 1500 := fun l hn hs =>
    Nat.le_trans (nodup_le hn fun x hx => (T3 x).2 (hs x hx).1) T2
  refine Gives.jx (fun all => all.Nodup ∧ ∀ x, x ∈ all ↔ Sol p.Limits p.Doms x) ?_ fun all hall => ?_
  · refine Gives.loop (fun s => s.1 = d.2.1 ∧ s.2.2 ≤ T.length ∧ s.2.1.Nodup ∧ ∀ x, x ∈ s.2.1 ↔ x ∈ T.take s.2.2 ∧ Sol p.Limits p.Doms x) (fun s => T.length - s.2.2) ⟨rfl, Nat.zero_le _, List.nodup_nil, fun x => ⟨(fun h => nomatch h), fun h => nomatch h.1⟩⟩ ?_
    rintro ⟨ok, all, i⟩ ⟨hok, hi, hnd, hm⟩
    dsimp only at hok hi hnd hm ⊢
    refine Gives.ite (fun c => ?_) (fun c => Gives.some ⟨hnd, fun x => ?_⟩)
    · have hi' : i < T.length := by omega
      have hti := List.getElem?_eq_getElem hi'
      have hin := (T3 T[i]).1 (List.getElem_mem hi')
      have hmem : ∀ x, x ∈ T.take (i + 1) ↔ x ∈ T.take i ∨ x = T[i] := fun x => by
        rw [List.take_add_one, hti, List.mem_append]
        simp
      have hlen : all.length ≤ 1500 := hB all hnd fun x hx => ((hm x).1 hx).2
      refine Gives.jx (fun z => z.1 = d.2.1 ∧ z.2.Nodup ∧ ∀ x, x ∈ z.2 ↔ x ∈ T.take (i + 1) ∧ Sol p.Limits p.Doms x) ?_ (fun z hz => Gives.some ⟨⟨hz.1, by dsimp only; omega, hz.2⟩, by dsimp only; omega⟩)
      refine Gives.bindE hti ?_
      refine Gives.bind _ (m_Holds 1000 hv hin) fun r hr => Gives.pos hr.1 (Gives.ite (fun h1 => ?_) (fun h1 => Gives.some ⟨hok, hnd, fun x => ?_⟩))
      · have hsol : Sol p.Limits p.Doms T[i] := ⟨hin, hr.2.1 h1⟩
        refine Gives.bindE hti (Gives.bindE (push_small 2000 (by simp only [List.length_cons, List.length_nil]; omega) (by decide)) ?_)
        rcases sp with ⟨k1, k2, k3⟩ | ⟨k1, k2⟩
        · dsimp only at k1 k2 k3
          have hs2 : Sol p.Limits d.1 T[i] := (k2.sol hvar).2 hsol
          refine Gives.bind (fun z => z = (true, false)) ?_ fun z hz => ?_
          · refine Gives.pos (by rw [hok]; exact k1) (Gives.bindE hti (Gives.some ?_))
            rw [decide_eq_true (by rw [hs2.1.1])]; rfl
          · subst hz
            refine Gives.neg (by decide) ?_
            refine upto d.1.length 0 (fun j _ hj => ?_) (fun j _ hj => ?_)
            · rw [if_pos (by omega)]
              have hjx : j < T[i].length := by rw [hs2.1.1]; exact hj
              have := hs2.1.2 j T[i][j] (List.getElem?_eq_getElem hjx)
              rw [domOf_nat, List.getElem?_eq_getElem hj] at this
              refine Gives.bindE (List.getElem?_eq_getElem hj) (Gives.bindE hti (Gives.bindE (List.getElem?_eq_getElem hjx) (Gives.bindE (m_in 1000 this) (Gives.pos rfl (Gives.some rfl)))))
            · rw [if_neg (by omega)]
              refine Gives.some ⟨k1.symm, ?_, fun x => ?_⟩
              · show (all ++ [T[i]]).Nodup
                rw [List.nodup_append]
                refine ⟨hnd, by simp, fun a ha b hb => ?_⟩
                obtain rfl : b = T[i] := by simpa using hb
                intro hab
                subst hab
                have h9 := ((hm _).1 ha).1
                obtain ⟨q, hq⟩ := List.mem_iff_getElem?.1 h9
                rw [List.getElem?_take] at hq
                split at hq
                · rename_i hqi
                  have hq2 := (List.getElem?_eq_some_iff.1 hq)
                  obtain ⟨g1, g2⟩ := hq2
                  have := (List.nodup_iff_pairwise_ne.1 T1)
                  rw [List.pairwise_iff_getElem] at this
                  exact this q i g1 hi' hqi g2
                · cases hq
              · show x ∈ all ++ [T[i]] ↔ _
                rw [List.mem_append, hm, hmem, List.mem_singleton]
                constructor
                · rintro (⟨h1, h2⟩ | rfl)
                  · exact ⟨.inl h1, h2⟩
                  · exact ⟨.inr rfl, hsol⟩
                · rintro ⟨h1 | h1, h2⟩
                  · exact .inl ⟨h1, h2⟩
                  · exact .inr h1
        · exact absurd hsol (no_sol k2 hvar)
      · show x ∈ all ↔ _
        rw [hm, hmem]
        constructor
        · rintro ⟨h1, h2⟩; exact ⟨.inl h1, h2⟩
        · rintro ⟨h3 | rfl, h2⟩
          · exact ⟨h3, h2⟩
          · exact absurd (hr.2.2 h2.2) h1
    · show x ∈ all ↔ _
      rw [hm, List.take_of_length_le (by omega)]
      exact ⟨fun h => h.2, fun h => ⟨(T3 x).2 h.1, h⟩⟩
  · obtain ⟨hn, hm⟩ := hall
    refine Gives.jx (fun _ => True) (upto 3 0 (fun i _ hi => ?_) (fun i _ hi => ?_)) (fun _ _ => kn)
    · rw [if_pos (by omega)]
      refine Gives.jx (fun _ => True) ?_ (fun _ _ => Gives.some rfl)
      refine Gives.bind _ (m_Solve ep hB (how := (i : Int)) (by omega) (by omega)) fun r hr => ?_
      obtain ⟨r1, r2, r3, r4⟩ := hr
      have hlen : r.1.length = all.length := Nat.le_antisymm (nodup_le r3 fun x hx => (hm x).2 ((r4 x).1 hx)) (nodup_le hn fun x hx => (r4 x).2 ((hm x).1 hx))
      refine Gives.bind (fun z => z = false) (Gives.pos r1 (Gives.neg (by rw [r2]; decide) (Gives.some (by rw [decide_eq_true (by rw [hlen])]; rfl)))) fun z hz => ?_
      subst hz
      refine Gives.neg (by decide) (upto r.1.length 0 (fun j _ hj => ?_) (fun j _ hj => ?_))
      · rw [if_pos (by omega)]
        have hrj := List.getElem?_eq_getElem hj
        have hin : r.1[j] ∈ all := (hm _).2 ((r4 _).1 (List.getElem_mem hj))
        refine Gives.bind (fun z => z = false) ?_ (fun z hz => by subst hz; exact Gives.neg (by decide) (Gives.some rfl))
        refine Gives.bindE hrj (Gives.bindE (m_lhas 1000 _ _) ?_)
        rw [decide_eq_true hin]
        refine Gives.pos rfl (Gives.bindE (sub_ok ⟨by decide, by omega, by omega⟩) (Gives.bindE hrj (Gives.bindE (m_lhas 1000 _ _) (Gives.some (decide_eq_false fun h => ?_)))))
        rw [Int.toNat_natCast] at h
        have h : r.1[j] ∈ r.1.take j := List.mem_of_mem_drop h
        obtain ⟨q, hq⟩ := List.mem_iff_getElem?.1 h
        rw [List.getElem?_take] at hq
        split at hq
        · rename_i hqi
          obtain ⟨g1, g2⟩ := List.getElem?_eq_some_iff.1 hq
          have := (List.nodup_iff_pairwise_ne.1 r3)
          rw [List.pairwise_iff_getElem] at this
          exact this q j g1 hj hqi g2
        · cases hq
      · rw [if_neg (by omega)]
        exact Gives.some True.intro
    · rw [if_neg (by omega)]
      exact Gives.some True.intro
end Go.Proofs.Ytopmcncaanjboaa
