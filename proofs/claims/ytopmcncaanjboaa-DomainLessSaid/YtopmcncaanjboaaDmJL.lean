/- The law of one limit more: the statement's shape. -/
import Derived.Test.YtopmcncaanjboaaDmIL
namespace Go.Proofs.Ytopmcncaanjboaa
open Go Go.Mir
set_option linter.unusedVariables false
theorem consE_mem {Ls Ls' : List DLimit} {E : Int → Int → Prop} (h : ConsE Ls E) (hm : ∀ l ∈ Ls', l ∈ Ls) : ConsE Ls' E := fun l hl => h l (hm l hl)
theorem m_less (g : Nat) (p : DProblem) (l : DLimit) (hb : p.Limits.length * 88 ≤ 140737488351232) : ∃ g, m_law11_DomainLess g p l = some true := by
  refine ⟨g, ?_⟩
  suffices h : Gives (m_law11_DomainLess g p l) (fun b => b = true) by obtain ⟨b, h1, rfl⟩ := h; exact h1
  unfold m_law11_DomainLess
  have kn : Gives ((m_law11_known g).bind fun q => some q) (fun b => b = true) := Gives.bindE (m_known g) (Gives.some rfl)
  refine Gives.bindE (push_small 1 (by simp) (by decide)) ?_
  refine Gives.bind (fun z => z = l :: p.Limits.reverse) ?_ fun z hz => ?_
  · refine Gives.loop (fun s => ∃ k : Nat, s.2 = (k : Int) - 1 ∧ k ≤ p.Limits.length ∧ s.1 = l :: (p.Limits.drop k).reverse) (fun s => (s.2 + 1).toNat) ⟨p.Limits.length, rfl, Nat.le_refl _, by rw [List.drop_length]; rfl⟩ ?_
    rintro ⟨a, i⟩ ⟨k, hk, hkl, ha⟩
    dsimp only at hk ha ⊢
    refine Gives.ite (fun c => ?_) (fun c => ?_)
    · obtain ⟨j, rfl⟩ : ∃ j, k = j + 1 := ⟨k - 1, by omega⟩
      obtain rfl : i = (j : Int) := by omega
      refine Gives.bindE (idx_ok (by omega)) ?_
      refine Gives.bindE (push_ok (by rw [ha]; simp; omega) (by rw [ha]; simp; omega)) ?_
      rw [w64_eq (by omega)]
      refine Gives.some ⟨⟨j, rfl, by omega, ?_⟩, by dsimp only; omega⟩
      dsimp only
      rw [ha, List.drop_eq_getElem_cons (show j < p.Limits.length by omega), List.reverse_cons]; rfl
    · refine Gives.some ?_
      obtain rfl : k = 0 := by omega
      rw [List.drop_zero] at ha
      exact ha
  subst hz
  refine Gives.bind (fun z => z.1 = l :: p.Limits.reverse) ?_ fun z hz => ?_
  · obtain ⟨e, h1, h2⟩ := m_Validate g p
    refine Gives.bindE h1 (Gives.ite (fun c => ?_) (fun c => Gives.some rfl))
    obtain ⟨e', h1', h2'⟩ := m_Validate g ⟨p.Doms, l :: p.Limits.reverse⟩
    refine Gives.bindE h1' (Gives.ite (fun c' => ?_) (fun c' => Gives.some rfl))
    refine Gives.bind (fun _ => True) (e_isHeavy g (h2'.1 c')) fun b _ => Gives.ite (fun _ => Gives.some rfl) (fun _ => ?_)
    exact Gives.bind (fun _ => True) (e_isHeavy g (h2.1 c)) fun b _ => Gives.some rfl
  obtain ⟨z1, z2⟩ := z
  dsimp only at hz ⊢
  subst hz
  refine Gives.ite (fun _ => kn) (fun _ => ?_)
  refine Gives.bind _ (m_Narrow g p) fun d hd => ?_
  refine Gives.bind _ (m_Narrow g ⟨p.Doms, l :: p.Limits.reverse⟩) fun c hc => ?_
  refine Gives.bind (fun z => ¬ z = true → d.2.2 = 0 ∧ c.2.2 = 0) ?_ fun z hz => ?_
  · refine Gives.ite (fun e => Gives.some fun h => ?_) (fun e => Gives.some fun h => absurd rfl h)
    refine ⟨e, ?_⟩
    by_cases e2 : c.2.2 = 0
    · exact e2
    · simp [e2] at h
  refine Gives.ite (fun _ => kn) (fun hzf => ?_)
  obtain ⟨hd0, hc0⟩ := hz hzf
  have ep := hd.1.1 hd0
  have eq := hc.1.1 hc0
  have sp := hd.2 ep
  have sq := hc.2 eq
  have mq : ∀ l' ∈ p.Limits, l' ∈ l :: p.Limits.reverse := fun l' h => List.mem_cons_of_mem _ (List.mem_reverse.2 h)
  dsimp only at sq
  rcases sp with ⟨b1, np, cp⟩ | ⟨b1, np⟩
  · dsimp only at b1 np cp
    refine Gives.pos b1 ?_
    have e1 : Easy ⟨d.1, p.Limits⟩ := ep.sub np.len np.sub ep.1.nl fun l h => h
    obtain ⟨r, r1, r2, r3⟩ := m_Narrow g ⟨d.1, p.Limits⟩
    refine Gives.bindE r1 ?_
    refine Gives.bind (fun z => ¬ z = true) ?_ fun z hz => ?_
    · refine Gives.pos (r2.2 e1) ?_
      rcases r3 e1 with ⟨k1, k2, k3⟩ | ⟨k1, k2⟩
      · dsimp only at k1 k2 k3
        refine Gives.pos k1 ?_
        rw [np.again cp k2]
        exact Gives.bindE (m_SameRows g _) (Gives.some (by decide))
      · refine absurd ?_ (k2 (InD d.1) (fun v n h => h) cp)
        have := np.full
        rw [← np.len] at this
        exact this
    refine Gives.neg hz ?_
    refine Gives.bindE (sub_ok ⟨by decide, by simp; omega, by omega⟩) ?_
    rw [show (List.take (((l :: p.Limits.reverse).length : Nat) : Int).toNat (l :: p.Limits.reverse)).drop (1 : Int).toNat = p.Limits.reverse by
      rw [Int.toNat_natCast, List.take_length]; rfl]
    have e2 : Easy ⟨p.Doms, p.Limits.reverse⟩ := ep.sub rfl (fun v => ⟨fun _ => true, by rw [List.filter_eq_self.2 (fun _ _ => rfl)]⟩) (by show p.Limits.reverse.length ≤ 24; rw [List.length_reverse]; exact ep.1.nl) fun l h => List.mem_reverse.1 h
    obtain ⟨t, t1, t2, t3⟩ := m_Narrow g ⟨p.Doms, p.Limits.reverse⟩
    refine Gives.bindE t1 ?_
    have hrev : ∀ E, ConsE p.Limits E ↔ ConsE p.Limits.reverse E := fun E => ⟨fun h => consE_mem h fun l hl => List.mem_reverse.1 hl, fun h => consE_mem h fun l hl => List.mem_reverse.2 hl⟩
    refine Gives.bind (fun z => ¬ z = true) ?_ fun z hz => ?_
    · refine Gives.pos (t2.2 e2) ?_
      rcases t3 e2 with ⟨k1, k2, k3⟩ | ⟨k1, k2⟩
      · dsimp only at k1 k2 k3
        refine Gives.pos k1 ?_
        rw [np.one cp k2 k3 hrev]
        exact Gives.bindE (m_SameRows g _) (Gives.some (by decide))
      · exact absurd np.full (k2 _ np.fam ((hrev _).1 cp))
    refine Gives.neg hz ?_
    rcases sq with ⟨b2, nq, cq⟩ | ⟨b2, nq⟩
    · dsimp only at b2 nq cq
      refine Gives.pos b2 ?_
      have hlen : c.1.length = d.1.length := by rw [nq.len, np.len]
      have hsub : ∀ v n, n ∈ domOf c.1 v → n ∈ domOf d.1 v := np.top (InD c.1) nq.fam (consE_mem cq mq)
      refine Gives.pos (by rw [hlen]) ?_
      refine Gives.jx (fun _ => True) (upto c.1.length 0 (fun i _ hi => ?_) (fun i _ hi => ?_)) (fun _ _ => kn)
      · rw [if_pos (by omega)]
        have hid : i < d.1.length := by omega
        refine Gives.jx (fun _ => True) (upto c.1[i].length 0 (fun j _ hj => ?_) (fun j _ hj => ?_)) (fun _ _ => Gives.some rfl)
        · refine Gives.bindE (List.getElem?_eq_getElem hi) ?_
          rw [if_pos (by omega)]
          refine Gives.bindE (List.getElem?_eq_getElem hid) (Gives.bindE (List.getElem?_eq_getElem hi) (Gives.bindE (List.getElem?_eq_getElem hj) ?_))
          have hm : c.1[i][j] ∈ d.1[i] := by
            have h1 := hsub (i : Int) c.1[i][j]
            rw [domOf_nat, domOf_nat, List.getElem?_eq_getElem hi, List.getElem?_eq_getElem hid] at h1
            exact h1 (List.getElem_mem hj)
          exact Gives.bindE (m_in g hm) (Gives.pos rfl (Gives.some rfl))
        · refine Gives.bindE (List.getElem?_eq_getElem hi) ?_
          rw [if_neg (by omega)]
          exact Gives.some True.intro
      · rw [if_neg (by omega)]
        exact Gives.some True.intro
    · refine Gives.neg (by rw [show c.2.1 = false from (Prod.mk.inj b2).2]; decide) kn
  · refine Gives.neg (by rw [show d.2.1 = false from (Prod.mk.inj b1).2]; decide) ?_
    refine Gives.bind (fun b => b = true) ?_ fun b hb => Gives.some hb
    rcases sq with ⟨b2, nq, cq⟩ | ⟨b2, nq⟩
    · dsimp only at b2 nq cq
      exact absurd nq.full (np _ nq.fam (consE_mem cq mq))
    · exact Gives.neg (by rw [show c.2.1 = false from (Prod.mk.inj b2).2]; decide) kn
end Go.Proofs.Ytopmcncaanjboaa
