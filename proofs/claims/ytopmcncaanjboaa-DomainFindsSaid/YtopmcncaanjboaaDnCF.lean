/- The search for all solutions, in plain words. -/
import Derived.Test.YtopmcncaanjboaaDnBF
namespace Go.Proofs.Ytopmcncaanjboaa
open Go Go.Mir
set_option linter.unusedVariables false
theorem nodup_le : ∀ {l s : List (List Int)}, l.Nodup → (∀ x ∈ l, x ∈ s) → l.length ≤ s.length
  | [], s, _, _ => Nat.zero_le _
  | x :: l, s, hn, hs => by
    have hx := hs x List.mem_cons_self
    have hn' := List.nodup_cons.1 hn
    have h := nodup_le (l := l) (s := s.erase x) hn'.2 fun y hy => (List.mem_erase_of_ne (fun e => hn'.1 (by rw [← e]; exact hy))).2 (hs y (List.mem_cons_of_mem _ hy))
    rw [List.length_erase_of_mem hx] at h
    have := List.length_pos_of_mem hx
    rw [List.length_cons]; omega
theorem m_next (g : Nat) (D a1 : List (List Int)) (a2 : List DLimit) (how a4 : Int) (a5 : List (List Int)) (a6 : Int) :
    Gives (m_domain_solver_next g D a1 a2 how a4 a5 a6) (fun q => (q < 0 ∧ ∀ d ∈ D, d.length < 2) ∨ ∃ k d, q = ((k : Nat) : Int) ∧ D[k]? = some d ∧ 2 ≤ d.length) := by
  unfold m_domain_solver_next
  refine Gives.bind (fun q => (q < 0 ∧ ∀ d ∈ D, d.length < 2) ∨ ∃ k d, q = ((k : Nat) : Int) ∧ D[k]? = some d ∧ 2 ≤ d.length) ?_ (fun q hq => Gives.some hq)
  refine Gives.loop (fun s => s.2 ≤ D.length ∧ ((s.1 < 0 ∧ ∀ d ∈ D.take s.2, d.length < 2) ∨ ∃ k d, s.1 = ((k : Nat) : Int) ∧ D[k]? = some d ∧ 2 ≤ d.length)) (fun s => D.length - s.2) ⟨Nat.zero_le _, .inl ⟨by decide, fun d h => nomatch h⟩⟩ ?_
  rintro ⟨b, i⟩ ⟨hi, hb⟩
  dsimp only at hi hb ⊢
  refine Gives.ite (fun c => ?_) (fun c => Gives.some ?_)
  · have hi' : i < D.length := by omega
    have hd := List.getElem?_eq_getElem hi'
    refine Gives.bind (fun z => (z < 0 ∧ ∀ d ∈ D.take (i + 1), d.length < 2) ∨ ∃ k d, z = ((k : Nat) : Int) ∧ D[k]? = some d ∧ 2 ≤ d.length) ?_ (fun z hz => Gives.some ⟨⟨by dsimp only; omega, hz⟩, by dsimp only; omega⟩)
    refine Gives.bindE hd (Gives.ite (fun c1 => Gives.some ?_) (fun c1 => ?_))
    · rcases hb with ⟨h1, h2⟩ | h
      · refine .inl ⟨h1, fun d hd' => ?_⟩
        rw [List.take_add_one, hd] at hd'
        rcases List.mem_append.1 hd' with h3 | h3
        · exact h2 d h3
        · obtain rfl : d = D[i] := by simpa using h3
          omega
      · exact .inr h
    · refine Gives.bind (fun z => b < 0 → z = true) ?_ (fun z hz => ?_)
      · refine Gives.ite (fun c2 => Gives.some fun _ => decide_eq_true c2) (fun c2 => ?_)
        refine Gives.ite (fun c3 => Gives.some fun h => absurd h c2) (fun c3 => ?_)
        refine Gives.ite (fun c4 => ?_) (fun c4 => Gives.some fun h => absurd h c2)
        rcases hb with ⟨h1, h2⟩ | ⟨k, d, rfl, h3, h4⟩
        · exact absurd h1 c2
        · exact Gives.bindE (by rw [idx_nat]; exact h3) (Gives.some fun h => absurd h c2)
      · refine Gives.ite (fun _ => Gives.some (.inr ⟨i, _, rfl, hd, by omega⟩)) (fun c2 => Gives.some ?_)
        rcases hb with ⟨h1, h2⟩ | h
        · exact absurd (hz h1) c2
        · exact .inr h
  · rcases hb with ⟨h1, h2⟩ | h
    · rw [List.take_of_length_le (by omega)] at h2
      exact .inl ⟨h1, h2⟩
    · exact .inr h
theorem total_pos_lt {D D' : List (List Int)} (hl : D'.length = D.length) {k : Nat} {d d' : List Int} (hd : D[k]? = some d) (hlt : d'.length < d.length) (hs : ∀ v, ∃ f : Int → Bool, domOf D' v = (domOf (D.set k d') v).filter f) : total D' < total D := by
  have hk := (List.getElem?_eq_some_iff.1 hd).1
  have e0 : domOf D (k : Int) = d := by rw [domOf_nat, hd]; rfl
  refine total_lt hl (fun j => ?_) ⟨k, ?_⟩
  · have h1 := filter_len (D := D.set k d') (D' := D') (v := (j : Int)) (hs j)
    rw [domOf_set hk] at h1
    split at h1
    · rename_i e
      obtain rfl : j = k := by omega
      rw [e0]; omega
    · exact h1
  · have h1 := filter_len (D := D.set k d') (D' := D') (v := (k : Int)) (hs k)
    rw [domOf_set hk, if_pos rfl] at h1
    rw [e0]; omega
theorem narrow_two (g : Nat) (D : List (List Int)) (Ls : List DLimit) : m_domain_narrow_2 g D Ls = m_domain_narrow g D Ls := rfl
/-- What is known of the domains while searching. -/
structure Now (Ls : List DLimit) (Doms D : List (List Int)) : Prop where
  len : D.length = Doms.length
  dl : ∀ d ∈ D, 0 < d.length ∧ d.length ≤ 30
  ris : ∀ v, risP (domOf D v)
  sub : ∀ v n, n ∈ domOf D v → n ∈ domOf Doms v
  cons : ConsE Ls (InD D)
def heads (D : List (List Int)) : List Int := D.map fun d => d.getD 0 0
theorem heads_get {D : List (List Int)} {k : Nat} {d : List Int} (h : D[k]? = some d) : (heads D)[k]? = some (d.getD 0 0) := by
  unfold heads; rw [List.getElem?_map, h]; rfl
theorem one_head {d : List Int} {n : Int} (h : d.length < 2) (hn : n ∈ d) : n = d.getD 0 0 := by
  match d, h with
  | [a], _ => simpa using hn
  | [], _ => exact nomatch hn
theorem Now.leaf {Ls : List DLimit} {Doms D : List (List Int)} (h : Now Ls Doms D) (hv : ∀ l ∈ Ls, ∀ v ∈ l.Vars, 0 ≤ v ∧ v < Doms.length) (h1 : ∀ d ∈ D, d.length < 2) (x : List Int) : Sol Ls D x ↔ x = heads D := by
  have hin : InT D (heads D) := ⟨List.length_map _, fun k y hy => by
    have hk : k < D.length := by have := (List.getElem?_eq_some_iff.1 hy).1; unfold heads at this; rwa [List.length_map] at this
    have hd := List.getElem?_eq_getElem hk
    rw [heads_get hd] at hy
    cases hy
    rw [domOf_nat, hd]
    have := (h.dl _ (List.getElem_mem hk)).1
    rw [List.getD_eq_getElem?_getD, List.getElem?_eq_getElem this]
    exact List.getElem_mem this⟩
  have huniq : ∀ v n, n ∈ domOf D v → Ex (heads D) v n := fun v n hn => by
    obtain ⟨h0, h2⟩ := domOf_in hn
    obtain ⟨k, rfl⟩ : ∃ k : Nat, v = (k : Int) := ⟨v.toNat, by omega⟩
    have hk : k < D.length := by omega
    have hd := List.getElem?_eq_getElem hk
    unfold Ex
    rw [idx_nat, heads_get hd]
    rw [domOf_nat, hd] at hn
    rw [one_head (h1 _ (List.getElem_mem hk)) hn]
  constructor
  · intro hx
    refine List.ext_getElem? fun k => ?_
    by_cases hk : k < D.length
    · have hkx : k < x.length := by rw [hx.1.1]; exact hk
      have := huniq k x[k] (hx.1.2 k _ (List.getElem?_eq_getElem hkx))
      unfold Ex at this
      rw [idx_nat] at this
      rw [this, List.getElem?_eq_getElem hkx]
    · rw [List.getElem?_eq_none (by rw [hx.1.1]; omega), List.getElem?_eq_none (by rw [hin.1]; omega)]
  · rintro rfl
    refine ⟨hin, fun l hl => ?_⟩
    have hvl : ∀ v ∈ l.Vars, 0 ≤ v ∧ v < (heads D).length := by rw [hin.1, h.len]; exact hv l hl
    have hc := h.cons l hl
    by_cases h0 : l.Vars = []
    · rw [show pick l (heads D) = [] by unfold pick; rw [h0]; rfl]
      exact hc.2 h0
    · obtain ⟨v, hvm⟩ := List.exists_mem_of_ne_nil _ h0
      obtain ⟨i, hi⟩ := List.mem_iff_getElem?.1 hvm
      obtain ⟨y, hy, hy2⟩ := pick_get hvl hi
      obtain ⟨k, rfl, hk2⟩ := hy2.nat
      obtain ⟨t, t1, t2, t3, t4⟩ := hc.1 i _ y hi (hin.2 k y hk2)
      have : t = pick l (heads D) := by
        refine List.ext_getElem? fun j => ?_
        by_cases hj : j < l.Vars.length
        · have hw := List.getElem?_eq_getElem hj
          obtain ⟨a, a1, a2⟩ := t2 j _ hw
          obtain ⟨b, b1, b2⟩ := pick_get hvl hw
          have e := huniq _ a a2
          rw [a1, b1]
          exact e.symm.trans b2
        · rw [List.getElem?_eq_none (by omega), List.getElem?_eq_none (by unfold pick; rw [List.length_map]; omega)]
      rw [← this]; exact t4
theorem risP_one (n : Int) : risP [n] := risP_pair.2 (by simp)
theorem m_from {Ls : List DLimit} {Doms : List (List Int)} (how : Int) (hn : Doms.length ≤ 12) (hL : ∀ l ∈ Ls, LimOk Doms.length l ∧ l.Vars.length ≤ 12)
    (hB : ∀ l : List (List Int), l.Nodup → (∀ x ∈ l, Sol Ls Doms x) → l.length ≤ 1500) :
    ∀ (g : Nat) (D a5 : List (List Int)) (a6 : Int), total D < g → Now Ls Doms D → a5.Nodup → (∀ x ∈ a5, Sol Ls Doms x) → (∀ x ∈ a5, ¬ Sol Ls D x) →
      Gives (m_domain_solver_from g D Doms Ls how 2000 a5 a6) (fun r => r.1.Nodup ∧ ∀ x, x ∈ r.1 ↔ x ∈ a5 ∨ Sol Ls D x)
  | 0, D, a5, a6, h, _, _, _, _ => absurd h (Nat.not_lt_zero _)
  | g + 1, D, a5, a6, ht, hD, hnd, hall, hdis => by
    have hv : ∀ l ∈ Ls, ∀ v ∈ l.Vars, 0 ≤ v ∧ v < Doms.length := fun l hl => (hL l hl).1.vars
    have hsub : ∀ {x}, Sol Ls D x → Sol Ls Doms x := fun h => ⟨h.1.sub hD.len hD.sub, h.2⟩
    have hb := hB a5 hnd hall
    have hDn : D.length ≤ 12 := by rw [hD.len]; exact hn
    rw [m_domain_solver_from]
    refine Gives.neg (by omega) ?_
    refine Gives.bind _ (m_next g D Doms Ls how 2000 a5 a6) fun q hq => ?_
    rcases hq with ⟨h1, h2⟩ | ⟨k, d, rfl, hd, h2⟩
    · refine Gives.pos h1 ?_
      have hlf := hD.leaf hv h2
      refine Gives.bind (fun z => z = heads D) ?_ fun z hz => ?_
      · have hhl : (heads D).length = D.length := List.length_map _
        refine Gives.loop (fun s => s.2 ≤ D.length ∧ s.1 = (heads D).take s.2) (fun s => D.length - s.2) ⟨Nat.zero_le _, rfl⟩ ?_
        rintro ⟨a, i⟩ ⟨hi, ha⟩
        dsimp only at hi ha ⊢
        subst ha
        refine Gives.ite (fun c => ?_) (fun c => Gives.some ?_)
        · have hi' : i < D.length := by omega
          have hd := List.getElem?_eq_getElem hi'
          have hp := (hD.dl _ (List.getElem_mem hi')).1
          refine Gives.bindE hd (Gives.bindE (List.getElem?_eq_getElem hp) ?_)
          refine Gives.bindE (push_small 12 (by rw [List.length_take]; simp only [List.length_cons, List.length_nil]; omega) (by decide)) (Gives.some ⟨⟨by dsimp only; omega, ?_⟩, by dsimp only; omega⟩)
          dsimp only
          rw [List.take_add_one, heads_get hd, List.getD_eq_getElem?_getD, List.getElem?_eq_getElem hp]; rfl
        · show List.take i (heads D) = _
          rw [List.take_of_length_le (by omega)]
      subst hz
      have hnew : heads D ∉ a5 := fun h => hdis _ h ((hlf _).2 rfl)
      refine Gives.bindE (push_small 2000 (by simp only [List.length_cons, List.length_nil]; omega) (by decide)) (Gives.some ⟨?_, fun x => ?_⟩)
      · show (a5 ++ [heads D]).Nodup
        rw [List.nodup_append]
        refine ⟨hnd, by simp, fun a ha b hb => ?_⟩
        simp at hb
        subst hb
        exact fun h => hnew (h ▸ ha)
      · show x ∈ a5 ++ [heads D] ↔ _
        rw [List.mem_append, hlf, List.mem_singleton]
    · refine Gives.neg (by omega) ?_
      have hk := (List.getElem?_eq_some_iff.1 hd).1
      have e0 : domOf D (k : Int) = d := by rw [domOf_nat, hd]; rfl
      have hrd : risP d := by rw [← e0]; exact hD.ris k
      refine Gives.bindE (by rw [idx_nat]; exact hd) ?_
      refine Gives.loop (fun s => s.2.2 ≤ d.length ∧ s.1.Nodup ∧ ∀ x, x ∈ s.1 ↔ x ∈ a5 ∨ (Sol Ls D x ∧ ∃ j n, j < s.2.2 ∧ d[j]? = some n ∧ x[k]? = some n)) (fun s => d.length - s.2.2) ⟨Nat.zero_le _, hnd, fun x => ⟨.inl, fun h => h.elim id fun ⟨_, j, n, h, _⟩ => absurd h (Nat.not_lt_zero _)⟩⟩ ?_
      rintro ⟨b5, b6, i⟩ ⟨hi, hnb, hmb⟩
      dsimp only at hi hnb hmb ⊢
      have hallb : ∀ x ∈ b5, Sol Ls Doms x := fun x hx => ((hmb x).1 hx).elim (hall x) fun h => hsub h.1
      have hbb := hB b5 hnb hallb
      refine Gives.ite (fun c => ?_) (fun c => Gives.some ⟨hnb, fun x => ?_⟩)
      · have hi' : i < d.length := by omega
        have hdi := List.getElem?_eq_getElem hi'
        have hset : (D.set k [d[i]]).length = D.length := List.length_set
        -- the solutions with this value
        have hsolset : ∀ x, Sol Ls (D.set k [d[i]]) x ↔ Sol Ls D x ∧ x[k]? = some d[i] := fun x => by
          constructor
          · intro h
            have hkx : k < x.length := by rw [h.1.1, hset]; exact hk
            have h9 := h.1.2 k x[k] (List.getElem?_eq_getElem hkx)
            rw [domOf_set hk, if_pos rfl] at h9
            have h10 : x[k] = d[i] := by simpa using h9
            refine ⟨⟨⟨by rw [h.1.1, hset], fun j y hy => ?_⟩, h.2⟩, by rw [List.getElem?_eq_getElem hkx, h10]⟩
            have h11 := h.1.2 j y hy
            rw [domOf_set hk] at h11
            split at h11
            · rename_i e
              obtain rfl : j = k := by omega
              rw [e0]
              rw [List.mem_singleton.1 h11]
              exact List.getElem_mem hi'
            · exact h11
          · rintro ⟨h, hx⟩
            refine ⟨⟨by rw [h.1.1, hset], fun j y hy => ?_⟩, h.2⟩
            rw [domOf_set hk]
            split
            · rename_i e
              obtain rfl : j = k := by omega
              rw [hx] at hy
              cases hy
              exact List.mem_singleton.2 rfl
            · exact h.1.2 j y hy
        have hnext : ∀ x : List Int, (∃ j n, j < i + 1 ∧ d[j]? = some n ∧ x[k]? = some n) ↔ (∃ j n, j < i ∧ d[j]? = some n ∧ x[k]? = some n) ∨ x[k]? = some d[i] := fun x => by
          constructor
          · rintro ⟨j, n, h1, h2, h3⟩
            rcases Nat.lt_or_ge j i with h4 | h4
            · exact .inl ⟨j, n, h4, h2, h3⟩
            · obtain rfl : j = i := by omega
              rw [hdi] at h2
              exact .inr (h3.trans h2.symm)
          · rintro (⟨j, n, h1, h2, h3⟩ | h)
            · exact ⟨j, n, by omega, h2, h3⟩
            · exact ⟨i, _, by omega, hdi, h⟩
        have hNS := m_narrow g (Doms := D.set k [d[i]]) (Ls := Ls) (by rw [hset]; exact hDn) (fun e he => ?_) (fun l hl => by rw [hset, hD.len]; exact hL l hl)
        · refine Gives.jx (fun z => z.1.Nodup ∧ ∀ x, x ∈ z.1 ↔ x ∈ a5 ∨ (Sol Ls D x ∧ ∃ j n, j < i + 1 ∧ d[j]? = some n ∧ x[k]? = some n)) ?_ (fun z hz => Gives.some ⟨⟨by dsimp only; omega, hz⟩, by dsimp only; omega⟩)
          refine Gives.bindE hdi (Gives.neg (by omega) ?_)
          refine Gives.bindE (push_small 12 (by simp; omega) (by decide)) ?_
          rw [List.nil_append]
          refine Gives.bindE (by rw [idx_nat]; exact hd) (Gives.bindE (upd_ok hk) ?_)
          rw [narrow_two]
          refine Gives.bind _ hNS fun r hr => ?_
          have hvs : ∀ l ∈ Ls, ∀ v ∈ l.Vars, 0 ≤ v ∧ v < (D.set k [d[i]]).length := by rw [hset, hD.len]; exact hv
          rcases hr with ⟨r1, r2, r3⟩ | ⟨r1, r2⟩
          · refine Gives.pos r1 ?_
            have hsol : ∀ x, Sol Ls r.1 x ↔ Sol Ls D x ∧ x[k]? = some d[i] := fun x => (r2.sol hvs).trans (hsolset x)
            have hN : Now Ls Doms r.1 := by
              refine ⟨by rw [r2.len, hset, hD.len], r2.lens fun e he => ?_, fun v => ?_, fun v n hn => ?_, r3⟩
              · rcases List.mem_or_eq_of_mem_set he with h | h
                · exact (hD.dl e h).2
                · subst h; exact Nat.le_of_ble_eq_true rfl
              · obtain ⟨f, hf⟩ := r2.sub v
                rw [hf]
                refine risP_filter ?_ f
                rw [domOf_set hk]
                split
                · exact risP_one _
                · exact hD.ris v
              · have := r2.fam v n hn
                rw [domOf_set hk] at this
                split at this
                · rename_i e
                  subst e
                  refine hD.sub _ _ ?_
                  rw [e0, List.mem_singleton.1 this]
                  exact List.getElem_mem hi'
                · exact hD.sub _ _ this
            have htot : total r.1 < total D := total_pos_lt (by rw [r2.len, hset]) hd (show [d[i]].length < d.length by simp only [List.length_cons, List.length_nil]; omega) r2.sub
            refine Gives.bind _ (m_from how hn hL hB g r.1 b5 b6 (by omega) hN hnb hallb fun x hx hs => ?_) fun z hz => Gives.some ⟨hz.1, fun x => ?_⟩
            · obtain ⟨s1, s2⟩ := (hsol x).1 hs
              rcases (hmb x).1 hx with h | ⟨_, j, n, j1, j2, j3⟩
              · exact hdis x h s1
              · rw [j3] at s2
                cases s2
                have := risP_inj hrd j2 hdi
                omega
            · show x ∈ z.1 ↔ _
              rw [hz.2, hmb, hsol, hnext]
              constructor
              · rintro ((h | ⟨h1, h2⟩) | ⟨h1, h2⟩)
                · exact .inl h
                · exact .inr ⟨h1, .inl h2⟩
                · exact .inr ⟨h1, .inr h2⟩
              · rintro (h | ⟨h1, h2 | h2⟩)
                · exact .inl (.inl h)
                · exact .inl (.inr ⟨h1, h2⟩)
                · exact .inr ⟨h1, h2⟩
          · refine Gives.neg (by rw [r1]; decide) (Gives.some ⟨hnb, fun x => ?_⟩)
            show x ∈ b5 ↔ _
            rw [hmb, hnext]
            have hno := no_sol r2 hvs (x := x)
            rw [hsolset] at hno
            constructor
            · rintro (h | ⟨h1, h2⟩)
              · exact .inl h
              · exact .inr ⟨h1, .inl h2⟩
            · rintro (h | ⟨h1, h2 | h2⟩)
              · exact .inl h
              · exact .inr ⟨h1, h2⟩
              · exact absurd ⟨h1, h2⟩ hno
        · rcases List.mem_or_eq_of_mem_set he with h | h
          · exact (hD.dl e h).2
          · subst h; exact Nat.le_of_ble_eq_true rfl
      · show x ∈ b5 ↔ _
        rw [hmb]
        constructor
        · rintro (h | h)
          · exact .inl h
          · exact .inr h.1
        · rintro (h | h)
          · exact .inl h
          · refine .inr ⟨h, ?_⟩
            have hkx : k < x.length := by rw [h.1.1]; exact hk
            have h9 := h.1.2 k x[k] (List.getElem?_eq_getElem hkx)
            rw [e0] at h9
            obtain ⟨j, hj⟩ := List.mem_iff_getElem?.1 h9
            have := (List.getElem?_eq_some_iff.1 hj).1
            exact ⟨j, _, by omega, hj, List.getElem?_eq_getElem hkx⟩
theorem m_Solve {p : DProblem} (h : Easy p) (hB : ∀ l : List (List Int), l.Nodup → (∀ x ∈ l, Sol p.Limits p.Doms x) → l.length ≤ 1500) {how : Int} (h0 : 0 ≤ how) (h2 : how ≤ 2) :
    Gives (m_domain_Solve 1000 p how 2000) (fun r => r.2.2.2 = 0 ∧ r.2.1 = false ∧ r.1.Nodup ∧ ∀ x, x ∈ r.1 ↔ Sol p.Limits p.Doms x) := by
  unfold m_domain_Solve
  obtain ⟨e, h1, h3⟩ := m_Validate 1000 p
  have he := h3.2 h.1
  subst he
  refine Gives.bindE h1 (Gives.pos rfl ?_)
  refine Gives.bind (fun z => z = false) ?_ fun z hz => ?_
  · exact Gives.neg (by omega) (Gives.neg (by omega) (Gives.neg (by decide) (Gives.some (by decide))))
  subst hz
  refine Gives.neg (by decide) ?_
  obtain ⟨b, b1, b2⟩ := m_isCostly 1000 h.1
  have hbf : ¬ b = true := fun hb => by
    obtain ⟨l, l1, l2⟩ := b2.1 hb
    exact h.2 l l1 l2
  refine Gives.bindE b1 (Gives.neg hbf ?_)
  have hL : ∀ l ∈ p.Limits, LimOk p.Doms.length l ∧ l.Vars.length ≤ 12 := fun l hl => ⟨h.1.lim l hl, (h.1.ll l hl).1⟩
  have hv : ∀ l ∈ p.Limits, ∀ v ∈ l.Vars, 0 ≤ v ∧ v < p.Doms.length := fun l hl => (hL l hl).1.vars
  refine Gives.bind (fun z => z.1.Nodup ∧ ∀ x, x ∈ z.1 ↔ Sol p.Limits p.Doms x) ?_ fun z hz => ?_
  · refine Gives.bind _ (h.1.narrow 1000) fun r hr => ?_
    rcases hr with ⟨r1, r2, r3⟩ | ⟨r1, r2⟩
    · refine Gives.pos r1 ?_
      have hN : Now p.Limits p.Doms r.1 := by
        refine ⟨r2.len, r2.lens fun d hd => (h.1.dl d hd).1, fun v => ?_, fun v n hn => r2.fam v n hn, r3⟩
        obtain ⟨f, hf⟩ := r2.sub v
        rw [hf]
        refine risP_filter ?_ f
        by_cases c : 0 ≤ v ∧ v < p.Doms.length
        · exact (h.1.dl _ (domOf_mem c)).2.2
        · have : domOf p.Doms v = [] := List.eq_nil_iff_forall_not_mem.2 fun n hn => c (domOf_in hn)
          rw [this]
          exact risP_pair.2 List.Pairwise.nil
      have htot : total r.1 < 1000 := by
        have key : ∀ D : List (List Int), (∀ d ∈ D, d.length ≤ 30) → total D ≤ D.length * 30 := by
          intro D
          induction D with
          | nil => intro _; exact Nat.le_refl _
          | cons d D ih =>
            intro hd
            have := ih fun e he => hd e (List.mem_cons_of_mem _ he)
            have h9 := hd d List.mem_cons_self
            show ((d :: D).map List.length).sum ≤ _
            rw [List.map_cons, List.sum_cons, List.length_cons]
            have : total D = (D.map List.length).sum := rfl
            omega
        have := key r.1 fun d hd => (hN.dl d hd).2
        rw [r2.len] at this
        have := h.1.nd
        omega
      refine Gives.bind _ (m_from how h.1.nd hL hB 1000 r.1 [] 0 htot hN List.nodup_nil (fun x hx => nomatch hx) (fun x hx => nomatch hx)) fun z hz => Gives.some ⟨hz.1, fun x => ?_⟩
      show x ∈ z.1 ↔ _
      rw [hz.2, r2.sol hv]
      exact ⟨fun h => h.elim (fun h => nomatch h) id, .inr⟩
    · refine Gives.neg (by rw [r1]; decide) (Gives.some ⟨List.nodup_nil, fun x => ⟨(fun h => nomatch h), fun hx => absurd hx (no_sol r2 hv)⟩⟩)
  · have := hB z.1 hz.1 fun x hx => (hz.2 x).1 hx
    exact Gives.neg (by omega) (Gives.some ⟨rfl, rfl, hz.1, hz.2⟩)
end Go.Proofs.Ytopmcncaanjboaa
