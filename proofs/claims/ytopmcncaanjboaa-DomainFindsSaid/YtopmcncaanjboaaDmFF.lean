/- Narrowing in plain words, all limits: it gives the greatest consistent domains. -/
import Derived.Test.YtopmcncaanjboaaDmEF
namespace Go.Proofs.Ytopmcncaanjboaa
open Go Go.Mir
set_option linter.unusedVariables false
theorem Narrowed.rev {Doms D D' : List (List Int)} {Ls : List DLimit} {l : DLimit} (h : Narrowed Doms Ls D) (hl : l ∈ Ls) (hv : ∀ v ∈ l.Vars, 0 ≤ v ∧ v < D.length) (hr : Rev D l D') : Narrowed Doms Ls D' := by
  refine ⟨by rw [hr.len, h.len], fun v => ?_, fun d hd => ?_, fun E h1 h2 => hr.top (h.top E h1 h2) (h2 l hl)⟩
  · obtain ⟨f, hf⟩ := h.sub v
    obtain ⟨f', hf'⟩ := hr.le v
    exact ⟨fun n => f' n && f n, by rw [hf', hf, List.filter_filter]⟩
  · obtain ⟨k, hk⟩ := List.mem_iff_getElem?.1 hd
    have hkl := (List.getElem?_eq_some_iff.1 hk).1
    have e : domOf D' (k : Int) = d := by rw [domOf_nat, hk]; rfl
    by_cases hm : (k : Int) ∈ l.Vars
    · obtain ⟨i, hi⟩ := List.mem_iff_getElem?.1 hm
      obtain ⟨f, _, h2, _⟩ := hr.sup i _ hi
      rwa [e] at h2
    · have := hr.oth _ hm
      rw [e] at this
      rw [this]
      exact h.ne _ (domOf_mem (by have := hr.len; omega))
theorem filter_len {D D' : List (List Int)} {v : Int} (h : ∃ f : Int → Bool, domOf D' v = (domOf D v).filter f) : (domOf D' v).length ≤ (domOf D v).length := by
  obtain ⟨f, hf⟩ := h
  rw [hf]; exact List.length_filter_le _ _
theorem Rev.cons {D : List (List Int)} {l : DLimit} (hr : Rev D l D) (h0 : l.Vars = [] → holdsL l [] = true) : ConsL l (InD D) := by
  refine ⟨fun i v n hv hn => ?_, h0⟩
  obtain ⟨f, h1, _, h3⟩ := hr.sup i v hv
  have hn : n ∈ domOf D v := hn
  have h4 := hn
  rw [h1, List.mem_filter] at h4
  obtain ⟨x, x1, x2, x3, x4⟩ := (h3 n hn).1 h4.2
  exact ⟨x, x1, x2, x3, x4⟩
theorem Narrowed.lens {Doms D : List (List Int)} {Ls : List DLimit} (h : Narrowed Doms Ls D) (hD : ∀ d ∈ Doms, d.length ≤ 30) : ∀ d ∈ D, 0 < d.length ∧ d.length ≤ 30 := fun d hd => by
  refine ⟨h.ne d hd, ?_⟩
  obtain ⟨k, hk⟩ := List.mem_iff_getElem?.1 hd
  have hkl := (List.getElem?_eq_some_iff.1 hk).1
  have e : domOf D (k : Int) = d := by rw [domOf_nat, hk]; rfl
  obtain ⟨f, hf⟩ := h.sub k
  rw [e] at hf
  have := List.length_filter_le f (domOf Doms (k : Int))
  have := hD _ (domOf_mem (D := Doms) (v := (k : Int)) (by have := h.len; omega))
  rw [hf]; omega
theorem m_narrow (g : Nat) {Doms : List (List Int)} {Ls : List DLimit} (hn : Doms.length ≤ 12) (hD : ∀ d ∈ Doms, d.length ≤ 30) (hL : ∀ l ∈ Ls, LimOk Doms.length l ∧ l.Vars.length ≤ 12) : Gives (m_domain_narrow g Doms Ls) (NarrowSpec Doms Ls) := by
  unfold m_domain_narrow
  refine Gives.bindE (made_ok (by omega)) ?_
  refine Gives.jx (fun z => z = Doms ∧ ∀ d ∈ Doms, 0 < d.length) ?_ ?_
  · refine Gives.loop (fun s => s.2 ≤ Doms.length ∧ s.1.length = Doms.length ∧ s.1.take s.2 = Doms.take s.2 ∧ ∀ d ∈ Doms.take s.2, 0 < d.length) (fun s => Doms.length - s.2) ⟨Nat.zero_le _, List.length_replicate, rfl, by simp⟩ ?_
    rintro ⟨y, i⟩ ⟨hi, hy, ht, hne⟩
    dsimp only at hi hy ht hne ⊢
    refine Gives.ite (fun c => ?_) (fun c => ?_)
    · have hil : i < Doms.length := by omega
      have e := List.getElem?_eq_getElem hil
      have hdl := hD _ (List.getElem_mem hil)
      refine Gives.bindE e (Gives.bindE (push_small 1000 (by simp; omega) (by decide)) (Gives.bindE (List.getElem?_eq_getElem (show i < y.length by omega)) (Gives.bindE (upd_ok (by omega)) ?_)))
      refine Gives.ite (fun c0 => ?_) (fun c0 => ?_)
      · refine Gives.some (.inr ⟨rfl, fun E hF hC hFull => ?_⟩)
        obtain ⟨n, hn'⟩ := hFull (i : Int) (by omega) (by omega)
        have := hF _ _ hn'
        rw [domOf_nat, e] at this
        rw [Option.getD_some, List.eq_nil_of_length_eq_zero (show Doms[i].length = 0 by omega)] at this
        cases this
      · refine Gives.some ⟨⟨by dsimp only; omega, by simpa using hy, ?_, ?_⟩, by dsimp only; omega⟩
        · dsimp only
          rw [List.take_add_one, List.take_add_one, e, List.take_set_of_le (Nat.le_refl _), ht, List.getElem?_set_self (by omega), List.nil_append]
        · dsimp only
          intro d hd
          rw [List.take_add_one, e] at hd
          rcases List.mem_append.1 hd with hd | hd
          · exact hne d hd
          · rw [List.mem_singleton.1 (show d ∈ [Doms[i]] from hd)]; omega
    · refine Gives.some ⟨?_, ?_⟩
      · rwa [List.take_of_length_le (by omega), List.take_of_length_le (by omega)] at ht
      · rwa [List.take_of_length_le (by omega)] at hne
  · rintro z0 ⟨hz0, hne⟩
    rw [hz0]
    clear hz0 z0
    refine Gives.jx (fun z => Narrowed Doms Ls z ∧ ConsE Ls (InD z)) ?_ ?_
    · refine Gives.loop (fun s => Narrowed Doms Ls s.1 ∧ (s.2 = false → ConsE Ls (InD s.1))) (fun s => 2 * total s.1 + if s.2 = true then 1 else 0) ⟨⟨rfl, fun v => ⟨fun _ => true, (List.filter_eq_self.2 fun _ _ => rfl).symm⟩, hne, fun E h _ => h⟩, fun h => by cases h⟩ ?_
      rintro ⟨D0, again⟩ ⟨hN0, hc0⟩
      dsimp only at hN0 hc0 ⊢
      refine Gives.ite (fun ca => ?_) (fun ca => ?_)
      · subst ca
        refine Gives.loop (fun s => s.2.2 ≤ Ls.length ∧ Narrowed Doms Ls s.1 ∧ (∀ v, ∃ f : Int → Bool, domOf s.1 v = (domOf D0 v).filter f) ∧ (s.2.1 = true → ∃ k : Nat, (domOf s.1 k).length < (domOf D0 k).length) ∧ (s.2.1 = false → s.1 = D0 ∧ ∀ l ∈ Ls.take s.2.2, ConsL l (InD D0)))
          (fun s => Ls.length - s.2.2) ⟨Nat.zero_le _, hN0, fun v => ⟨fun _ => true, (List.filter_eq_self.2 fun _ _ => rfl).symm⟩, (fun h => nomatch h), fun _ => ⟨rfl, by simp⟩⟩ ?_
        rintro ⟨D, a, i⟩ ⟨hi, hN, hle, h1, h2⟩
        dsimp only at hi hN hle h1 h2 ⊢
        refine Gives.ite (fun c => ?_) (fun c => ?_)
        · have hil : i < Ls.length := by omega
          have e := List.getElem?_eq_getElem hil
          have hmem := List.getElem_mem hil
          generalize hlq : Ls[i] = l at *
          obtain ⟨hok, h12⟩ := hL l hmem
          have hok' : LimOk D.length l := by rw [hN.len]; exact hok
          refine Gives.jx (fun z => Narrowed Doms Ls z.1 ∧ (∀ v, ∃ f : Int → Bool, domOf z.1 v = (domOf D0 v).filter f) ∧ (z.2 = true → ∃ k : Nat, (domOf z.1 k).length < (domOf D0 k).length) ∧ (z.2 = false → z.1 = D0 ∧ (∀ l ∈ Ls.take i, ConsL l (InD D0)) ∧ ConsL l (InD D0))) ?_ ?_
          · refine Gives.bindE e ?_
            refine Gives.ite (fun cv => ?_) (fun cv => ?_)
            · have hv0 : l.Vars = [] := List.eq_nil_of_length_eq_zero (by omega)
              refine Gives.jx (fun _ => holdsL l [] = true) ?_ ?_
              · refine Gives.bindE (m_of g l) ?_
                have hh := holdsM_eq g hok (x := []) (by rw [hv0])
                have fail : holdsL l [] = false → NarrowSpec Doms Ls ([], false) := fun hf => .inr ⟨rfl, fun E _ hC _ => by
                  have := (hC l hmem).2 hv0
                  rw [hf] at this; cases this⟩
                unfold holdsM at hh
                revert hh
                generalize ofL l = k
                intro hh
                cases k
                · cases hh
                all_goals
                  refine Gives.bindE hh ?_
                  refine Gives.ite (fun ch => Gives.some ch) (fun ch => Gives.some ?_)
                  exact fail (by simpa using ch)
              · intro _ hh
                refine Gives.some ⟨hN, hle, h1, fun hf => ⟨(h2 hf).1, (h2 hf).2, ?_⟩⟩
                refine ⟨fun j v n hv hn' => ?_, fun _ => hh⟩
                rw [hv0] at hv; simp at hv
            · obtain ⟨M, hM, hs, hmk⟩ := m_support g hok' h12 (hN.lens hD)
              refine Gives.bindE hM ?_
              refine (m_revise (X := ((List (List Int) × Bool × Nat) ⊕ ((List (List Int) × Bool) ⊕ ((List (List Int)) ⊕ (List (List Int) × Bool))))) (.inr (.inr (.inr (([] : List (List Int)), false)))) hok' (fun d hd => (hN.lens hD d hd).2) hs hmk).mono ?_
              intro o ho
              cases o with
              | inl z =>
                obtain ⟨hr, hz1, hz2⟩ := ho
                have hle' : ∀ v, ∃ f : Int → Bool, domOf z.1 v = (domOf D0 v).filter f := fun v => by
                  obtain ⟨f, hf⟩ := hle v
                  obtain ⟨f', hf'⟩ := hr.le v
                  exact ⟨fun n => f' n && f n, by rw [hf', hf, List.filter_filter]⟩
                refine ⟨hN.rev hmem hok'.vars hr, hle', fun ht => ?_, fun hf => ?_⟩
                · rcases hz1 ht with h9 | ⟨v, h9⟩
                  · obtain ⟨k, hk⟩ := h1 h9
                    have := filter_len (hr.le (k : Int))
                    exact ⟨k, by omega⟩
                  · have hvin : 0 ≤ v ∧ v < D.length := by
                      have hne9 : domOf D v ≠ [] := fun h => by rw [h] at h9; simp at h9
                      obtain ⟨n, hn9⟩ := List.exists_mem_of_ne_nil _ hne9
                      exact domOf_in hn9
                    obtain ⟨k, rfl⟩ : ∃ k : Nat, v = k := ⟨v.toNat, by omega⟩
                    have := filter_len (hle (k : Int))
                    exact ⟨k, by omega⟩
                · obtain ⟨ha, hz⟩ := hz2 hf
                  obtain ⟨rfl, h4⟩ := h2 ha
                  rw [hz] at hr
                  exact ⟨hz, h4, hr.cons fun h => by rw [h] at cv; exact absurd rfl cv⟩
              | inr x =>
                obtain ⟨rfl, i', v, hv, hno⟩ := ho
                refine .inr ⟨rfl, fun E hF hC hFull => ?_⟩
                have hvr := hok.vars v (List.mem_of_getElem? hv)
                obtain ⟨n, hn'⟩ := hFull v hvr.1 hvr.2
                have hFD := hN.top E hF hC
                exact hno n (hFD v n hn') (Supp.of hFD (hC l hmem) hv hn')
          · rintro ⟨D1, a1⟩ ⟨k1, k2, k3, k4⟩
            dsimp only at k1 k2 k3 k4 ⊢
            refine Gives.some ⟨⟨by dsimp only; omega, k1, k2, k3, fun hf => ⟨(k4 hf).1, fun l' hl' => ?_⟩⟩, by dsimp only; omega⟩
            dsimp only at hl'
            rw [List.take_add_one, e] at hl'
            rcases List.mem_append.1 hl' with hl' | hl'
            · exact (k4 hf).2.1 l' hl'
            · rw [List.mem_singleton.1 (show l' ∈ [l] from hl')]; exact (k4 hf).2.2
        · have hi' : i = Ls.length := by omega
          subst hi'
          refine Gives.some ⟨⟨hN, fun hf => ?_⟩, ?_⟩
          · dsimp only at hf ⊢
            obtain ⟨h3, h4⟩ := h2 hf
            rw [List.take_length] at h4
            rw [h3]; exact h4
          · dsimp only
            have hlen : D.length = D0.length := by rw [hN.len, hN0.len]
            have hsub : ∀ k : Nat, (domOf D k).length ≤ (domOf D0 k).length := fun k => filter_len (hle k)
            by_cases ha : a = true
            · have := total_lt hlen hsub (h1 ha)
              simp [ha]; omega
            · have := total_le hlen hsub
              simp [ha]; omega
      · have ca : again = false := by simpa using ca
        exact Gives.some ⟨hN0, hc0 ca⟩
    · rintro z ⟨h1, h2⟩
      exact Gives.some (.inl ⟨rfl, h1, h2⟩)
end Go.Proofs.Ytopmcncaanjboaa
