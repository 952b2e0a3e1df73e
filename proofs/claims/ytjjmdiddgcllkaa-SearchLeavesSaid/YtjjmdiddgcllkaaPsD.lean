/- The orders in which places are taken, in plain words: which node comes when; that each comes once; and that there is one such order. -/
import Derived.Test.YtjjmdiddgcllkaaPsC
namespace Go.Proofs.Ytjjmdiddgcllkaa
open Go Go.Mir
set_option linter.unusedVariables false
abbrev PT := List Int × DSTree
def kidsL (p : List Int) : Nat → List DSTree → List PT
  | _, [] => []
  | i, k :: ks => (p ++ [(i : Int)], k) :: kidsL p (i + 1) ks
def kids (e : PT) : List PT := kidsL e.1 0 e.2.Kids
theorem kidsL_len (p : List Int) : ∀ (i : Nat) (ks : List DSTree), (kidsL p i ks).length = ks.length
  | _, [] => rfl
  | i, k :: ks => by rw [kidsL, List.length_cons, List.length_cons, kidsL_len]
theorem kidsL_get (p : List Int) : ∀ (i : Nat) (ks : List DSTree) (j : Nat), (kidsL p i ks)[j]? = ks[j]?.map fun x => (p ++ [((i + j : Nat) : Int)], x)
  | _, [], j => by simp [kidsL]
  | i, k :: ks, 0 => by simp [kidsL]
  | i, k :: ks, j + 1 => by
    rw [kidsL, List.getElem?_cons_succ, List.getElem?_cons_succ, kidsL_get p (i + 1) ks j, show i + 1 + j = i + (j + 1) by omega]
theorem kids_get (e : PT) (j : Nat) : (kids e)[j]? = e.2.Kids[j]?.map fun x => (e.1 ++ [(j : Int)], x) := by
  rw [kids, kidsL_get, Nat.zero_add]
mutual
def nd : List Int → DSTree → List PT
  | p, ⟨n, ks⟩ => (p, ⟨n, ks⟩) :: ndL p 0 ks
def ndL : List Int → Nat → List DSTree → List PT
  | _, _, [] => []
  | p, i, k :: ks => nd (p ++ [(i : Int)]) k ++ ndL p (i + 1) ks
end
theorem ndL_eq (p : List Int) : ∀ (i : Nat) (ks : List DSTree), ndL p i ks = (kidsL p i ks).flatMap fun e => nd e.1 e.2
  | _, [] => by rw [ndL, kidsL]; rfl
  | i, k :: ks => by rw [ndL, kidsL, List.flatMap_cons, ndL_eq p (i + 1) ks]
def nds (w : List PT) : List PT := w.flatMap fun e => nd e.1 e.2
theorem nd_eq (e : PT) : nd e.1 e.2 = e :: nds (kids e) := by
  obtain ⟨p, ⟨n, ks⟩⟩ := e
  rw [nd, ndL_eq]; rfl
theorem nds_cons (e : PT) (w : List PT) : nds (e :: w) = e :: (nds (kids e) ++ nds w) := by rw [nds, List.flatMap_cons, nd_eq]; rfl
theorem nds_append (a b : List PT) : nds (a ++ b) = nds a ++ nds b := List.flatMap_append
theorem nds_perm {a b : List PT} (h : a.Perm b) : (nds a).Perm (nds b) := List.Perm.flatMap_right _ h
def wt (w : List PT) : Nat := (w.map fun e => cnt e.2).sum
theorem wt_perm {a b : List PT} (h : a.Perm b) : wt a = wt b := (h.map _).sum_nat
theorem wt_append (a b : List PT) : wt (a ++ b) = wt a + wt b := by simp [wt]
theorem wt_cons (e : PT) (b : List PT) : wt (e :: b) = cnt e.2 + wt b := by simp [wt]
theorem wt_kidsL (p : List Int) : ∀ (i : Nat) (ks : List DSTree), wt (kidsL p i ks) = cntL ks
  | _, [] => by rw [kidsL, cntL]; rfl
  | i, k :: ks => by rw [kidsL, wt_cons, cntL, wt_kidsL]
theorem cnt_eq (t : DSTree) : cnt t = cntL t.Kids + 1 := by cases t; rw [cnt]
theorem wt_kids (e : PT) : wt (kids e) + 1 = cnt e.2 := by rw [kids, wt_kidsL, cnt_eq]
theorem cnt_pos (t : DSTree) : 0 < cnt t := by rw [cnt_eq]; omega
theorem len_wt : ∀ w : List PT, w.length ≤ wt w
  | [] => Nat.le_refl _
  | e :: w => by have := len_wt w; have := cnt_pos e.2; rw [wt_cons, List.length_cons]; omega
mutual
theorem nd_len : ∀ (p : List Int) (t : DSTree), (nd p t).length = cnt t
  | p, ⟨n, ks⟩ => by rw [nd, cnt, List.length_cons, ndL_len]
theorem ndL_len : ∀ (p : List Int) (i : Nat) (ks : List DSTree), (ndL p i ks).length = cntL ks
  | _, _, [] => by rw [ndL, cntL]; rfl
  | p, i, k :: ks => by rw [ndL, cntL, List.length_append, nd_len, ndL_len]
end
mutual
theorem nd_pre : ∀ (p : List Int) (t : DSTree) (e : PT), e ∈ nd p t → p <+: e.1
  | p, ⟨n, ks⟩, e, h => by
    rw [nd] at h
    rcases List.mem_cons.1 h with rfl | h
    · exact List.prefix_refl _
    · obtain ⟨j, _, h1⟩ := ndL_pre p 0 ks e h
      exact (List.prefix_append _ _).trans h1
theorem ndL_pre : ∀ (p : List Int) (i : Nat) (ks : List DSTree) (e : PT), e ∈ ndL p i ks → ∃ j : Nat, i ≤ j ∧ (p ++ [(j : Int)]) <+: e.1
  | _, _, [], e, h => by rw [ndL] at h; cases h
  | p, i, k :: ks, e, h => by
    rw [ndL] at h
    rcases List.mem_append.1 h with h | h
    · exact ⟨i, Nat.le_refl _, nd_pre _ k e h⟩
    · obtain ⟨j, h1, h2⟩ := ndL_pre p (i + 1) ks e h
      exact ⟨j, by omega, h2⟩
end
theorem pre_part {p : List Int} {i j : Int} {l : List Int} (h : i ≠ j) (h1 : (p ++ [i]) <+: l) (h2 : (p ++ [j]) <+: l) : False := by
  obtain ⟨a, rfl⟩ := h1
  obtain ⟨b, hb⟩ := h2
  rw [List.append_assoc, List.append_assoc, List.append_cancel_left_eq] at hb
  simp at hb
  exact h hb.1.symm
mutual
theorem nd_nodup : ∀ (p : List Int) (t : DSTree), ((nd p t).map (·.1)).Nodup
  | p, ⟨n, ks⟩ => by
    rw [nd, List.map_cons, List.nodup_cons]
    refine ⟨fun h => ?_, ndL_nodup p 0 ks⟩
    obtain ⟨e, he, h1⟩ := List.mem_map.1 h
    obtain ⟨j, _, h2⟩ := ndL_pre p 0 ks e he
    dsimp only at h1
    rw [h1] at h2
    have := h2.length_le
    simp at this
    omega
theorem ndL_nodup : ∀ (p : List Int) (i : Nat) (ks : List DSTree), ((ndL p i ks).map (·.1)).Nodup
  | _, _, [] => by rw [ndL]; exact List.nodup_nil
  | p, i, k :: ks => by
    rw [ndL, List.map_append, List.nodup_append]
    refine ⟨nd_nodup _ k, ndL_nodup p (i + 1) ks, fun a ha b hb hab => ?_⟩
    obtain ⟨e, he, rfl⟩ := List.mem_map.1 ha
    obtain ⟨e', he', rfl⟩ := List.mem_map.1 hb
    have h1 := nd_pre _ k e he
    obtain ⟨j, hj, h2⟩ := ndL_pre p (i + 1) ks e' he'
    rw [← hab] at h2
    exact pre_part (by omega) h1 h2
end
/-- All places that wait, and all below them, are different. -/
def Dist (w : List PT) : Prop := ((nds w).map (·.1)).Nodup
theorem Dist.perm {a b : List PT} (h : a.Perm b) (hd : Dist a) : Dist b := ((nds_perm h).map _).nodup_iff.1 hd
theorem Dist.step {e : PT} {r : List PT} (h : Dist (e :: r)) : Dist (r ++ kids e) := by
  unfold Dist at *
  rw [nds_cons, List.map_cons, List.nodup_cons] at h
  rw [nds_append]
  exact (List.perm_append_comm.map _).nodup_iff.1 h.2
theorem Dist.inj {w : List PT} (h : Dist w) {e e' : PT} (he : e ∈ w) (he' : e' ∈ w) (hp : e.1 = e'.1) : e = e' := by
  have mem : ∀ x ∈ w, x ∈ nds w := fun x hx => List.mem_flatMap.2 ⟨x, hx, by rw [nd_eq]; exact List.mem_cons_self⟩
  unfold Dist at h
  rw [List.Nodup, List.pairwise_map] at h
  generalize nds w = l at *
  have a := mem e he
  have b := mem e' he'
  clear mem he he'
  induction l with
  | nil => cases a
  | cons x l ih =>
    obtain ⟨h1, h2⟩ := List.pairwise_cons.1 h
    rcases List.mem_cons.1 a with a2 | a2
    · rcases List.mem_cons.1 b with b2 | b2
      · rw [a2, b2]
      · rw [a2] at hp; exact absurd hp (h1 _ b2)
    · rcases List.mem_cons.1 b with b2 | b2
      · rw [b2] at hp; exact absurd hp.symm (h1 _ a2)
      · exact ih h2 a2 b2
/-- In this order places are taken by a strategy but the fair one. -/
inductive Ord (how : Int) : List PT → List PT → Prop
  | nil : Ord how [] []
  | step {w r : List PT} {e : PT} {l : List PT} (hp : w.Perm (e :: r)) (hm : ∀ y ∈ w, ahd how y.1 e.1 = false) (h : Ord how (r ++ kids e) l) : Ord how w (e :: l)
theorem Ord.one {how : Int} {w l : List PT} (h : Ord how w l) : ∀ {w' l' : List PT}, Dist w → w.Perm w' → Ord how w' l' → l = l' := by
  induction h with
  | nil =>
    intro w' l' _ hp h'
    obtain rfl := List.nil_perm.1 hp
    cases h' with
    | nil => rfl
    | step hp2 _ _ => have := hp2.length_eq; simp at this
  | step hp hm h ih =>
    intro w' l' hd hpw h'
    cases h' with
    | nil => have := (hpw.symm.trans hp).length_eq; simp at this
    | step hp2 hm2 h2 =>
      rename_i w r e l r' e' l'
      have he : e ∈ w := hp.mem_iff.2 List.mem_cons_self
      have he' : e' ∈ w := (hpw.trans hp2).mem_iff.2 List.mem_cons_self
      have hee : e = e' := by
        refine hd.inj he he' ?_
        by_cases hq : e.1 = e'.1
        · exact hq
        · rcases ahd_total (how := how) hq with h9 | h9
          · rw [hm2 e (hpw.mem_iff.1 he)] at h9; cases h9
          · rw [hm e' he'] at h9; cases h9
      subst hee
      have hr : r.Perm r' := List.Perm.cons_inv (hp.symm.trans (hpw.trans hp2))
      have hd' : Dist (r ++ kids e) := (hd.perm hp).step
      rw [ih hd' (hr.append_right _) h2]
theorem Ord.all {how : Int} {w l : List PT} (h : Ord how w l) : l.Perm (nds w) := by
  induction h with
  | nil => exact List.Perm.refl _
  | step hp hm h ih =>
    rename_i w r e l
    refine List.Perm.trans ?_ (nds_perm hp).symm
    rw [nds_cons]
    refine List.Perm.cons _ (ih.trans ?_)
    rw [nds_append]
    exact List.perm_append_comm
theorem Ord.perm {how : Int} {w w' l : List PT} (h : Ord how w l) (hp : w'.Perm w) : Ord how w' l := by
  cases h with
  | nil => rw [List.Perm.eq_nil hp]; exact .nil
  | step hp2 hm h => exact .step (hp.trans hp2) (fun y hy => hm y (hp.mem_iff.1 hy)) h
/-- What the fair strategy goes on with. -/
def after (e : PT) (r : List PT) : List PT := match kids e with | [] => r | k :: ks => k :: (r ++ ks)
theorem after_perm (e : PT) (r : List PT) : (after e r).Perm (r ++ kids e) := by
  unfold after
  cases kids e with
  | nil => simp
  | cons k ks => exact List.perm_middle.symm
inductive FOrd : List PT → List PT → Prop
  | nil : FOrd [] []
  | step {r : List PT} {e : PT} {l : List PT} (h : FOrd (after e r) l) : FOrd (e :: r) (e :: l)
theorem FOrd.one {w l : List PT} (h : FOrd w l) : ∀ {l' : List PT}, FOrd w l' → l = l' := by
  induction h with
  | nil => intro l' h'; cases h'; rfl
  | step h ih =>
    intro l' h'
    cases h' with
    | step h2 => rw [ih h2]
theorem FOrd.all {w l : List PT} (h : FOrd w l) : l.Perm (nds w) := by
  induction h with
  | nil => exact List.Perm.refl _
  | step h ih =>
    rename_i r e l
    rw [nds_cons]
    refine List.Perm.cons _ (ih.trans ((nds_perm (after_perm e r)).trans ?_))
    rw [nds_append]
    exact List.perm_append_comm
/-- In this order a strategy takes the nodes of a tree. -/
def Taken (how : Int) (t : DSTree) (l : List PT) : Prop := if how = 4 then FOrd [([], t)] l else Ord how [([], t)] l
theorem Taken.one {how : Int} {t : DSTree} {l l' : List PT} (h : Taken how t l) (h' : Taken how t l') : l = l' := by
  unfold Taken at *
  split at h
  · rename_i e; rw [if_pos e] at h'; exact h.one h'
  · rename_i e
    rw [if_neg e] at h'
    exact h.one (by unfold Dist; rw [nds, List.flatMap_cons]; simpa using nd_nodup [] t) (List.Perm.refl _) h'
theorem Taken.all {how : Int} {t : DSTree} {l : List PT} (h : Taken how t l) : l.Perm (nd [] t) := by
  have e : nds [([], t)] = nd [] t := by simp [nds]
  unfold Taken at h
  split at h
  · rw [← e]; exact h.all
  · rw [← e]; exact h.all
/-- The subtree of a place. -/
def atF : DSTree → List Int → Option DSTree
  | t, [] => some t
  | t, k :: p => (idx t.Kids k).bind fun x => atF x p
theorem atF_snoc : ∀ {t : DSTree} {p : List Int} {k : Int}, atF t (p ++ [k]) = (atF t p).bind fun x => idx x.Kids k
  | t, [], k => by simp [atF]
  | t, j :: p, k => by
    rw [List.cons_append, atF, atF]
    cases idx t.Kids j with
    | none => rfl
    | some x => simp only [Option.bind_some]; exact atF_snoc
theorem atF_kids {t : DSTree} {e : PT} (h : atF t e.1 = some e.2) : ∀ k ∈ kids e, atF t k.1 = some k.2 := fun k hk => by
  obtain ⟨j, hj⟩ := List.mem_iff_getElem?.1 hk
  rw [kids_get] at hj
  obtain ⟨x, hx, rfl⟩ := Option.map_eq_some_iff.1 hj
  rw [atF_snoc, h, Option.bind_some, idx_nat, hx]
mutual
theorem atF_nd {t : DSTree} : ∀ {p : List Int} {x : DSTree}, atF t p = some x → ∀ e ∈ nd p x, atF t e.1 = some e.2
  | p, ⟨n, ks⟩, h, e, he => by
    rw [nd] at he
    rcases List.mem_cons.1 he with rfl | he
    · exact h
    · exact atF_ndL (fun j k hk => by rw [atF_snoc, h, Option.bind_some, idx_nat, Nat.zero_add]; exact hk) e he
theorem atF_ndL {t : DSTree} : ∀ {p : List Int} {i : Nat} {ks : List DSTree}, (∀ (j : Nat) k, ks[j]? = some k → atF t (p ++ [((i + j : Nat) : Int)]) = some k) → ∀ e ∈ ndL p i ks, atF t e.1 = some e.2
  | p, i, [], h, e, he => by rw [ndL] at he; cases he
  | p, i, k :: ks, h, e, he => by
    rw [ndL] at he
    rcases List.mem_append.1 he with he | he
    · exact atF_nd (h 0 k rfl) e he
    · exact atF_ndL (fun j x hx => by have := h (j + 1) x hx; rwa [show i + (j + 1) = i + 1 + j by omega] at this) e he
end
theorem Taken.at {how : Int} {t : DSTree} {l : List PT} (h : Taken how t l) : ∀ e ∈ l, atF t e.1 = some e.2 := fun e he => atF_nd rfl e (h.all.mem_iff.1 he)
end Go.Proofs.Ytjjmdiddgcllkaa
