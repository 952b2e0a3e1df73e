/- The calculus: maps that are ranged over, in whatever order. -/
import Derived.Test.YtjkcinpmbgcgpaaGreatDoorSyGr
import Derived.Maps.RangeRun
namespace Go.Sy
open Go Go.RowKit Go.Mir
section
variable {κ : Type} [DecidableEq κ] {KE : KeyEnc κ}
theorem assoc_upsert {α : Type} {k q : κ} {y : α} : ∀ {vs : List (κ × α)}, assoc (upsert vs k y) q = if k = q then some y else assoc vs q
  | [] => rfl
  | (k1, v1) :: vs => by
    rw [upsert]
    by_cases hk : k1 = k
    · subst hk
      rw [if_pos rfl, assoc, assoc]
      split <;> rfl
    · rw [if_neg hk, assoc, assoc, assoc_upsert]
      by_cases hq : k1 = q
      · rw [if_pos hq, if_pos hq, if_neg (fun e => hk (hq.trans e.symm))]
      · rw [if_neg hq, if_neg hq]
theorem assoc_none_of {α : Type} {q : κ} : ∀ {l : List (κ × α)}, q ∉ l.map (·.1) → assoc l q = none
  | [], _ => rfl
  | (k1, v1) :: l, h => by
    rw [List.map_cons, List.mem_cons, not_or] at h
    rw [assoc, if_neg (fun e => h.1 e.symm), assoc_none_of h.2]
theorem upsAll_assoc {α : Type} {q : κ} : ∀ {dn us : List (κ × α)}, (dn.map (·.1)).Nodup → assoc (Mir.upsAll us dn) q = (assoc dn q).or (assoc us q)
  | [], us, _ => by simp [Mir.upsAll, assoc]
  | (k1, v1) :: dn, us, h => by
    rw [List.map_cons, List.nodup_cons] at h
    show assoc (Mir.upsAll (upsert us k1 v1) dn) q = _
    rw [upsAll_assoc h.2, assoc_upsert, assoc]
    by_cases hk : k1 = q
    · subst hk
      rw [if_pos rfl, if_pos rfl, assoc_none_of h.1]; rfl
    · rw [if_neg hk, if_neg hk]
theorem upsAll_nodup {α : Type} : ∀ {dn us : List (κ × α)}, (us.map (·.1)).Nodup → ((Mir.upsAll us dn).map (·.1)).Nodup
  | [], _, h => h
  | (k1, v1) :: dn, us, h => upsAll_nodup (dn := dn) (us := upsert us k1 v1) (upsert_nodup h)
/-- What a map and an iterator over it have to do with each other: lf is what is still to come, cur the entry at hand. -/
structure Ranged (KE : KeyEnc κ) (ents : List MapEntry) (clock : Nat) (seen : Array Nat) (vs lf : List (κ × Value)) (cur : Option (κ × Value)) : Prop where
  all : ∃ vs', entsOf KE ents vs' ∧ vs'.Perm vs
  nod : (vs.map (·.1)).Nodup
  st : stamped ents clock
  left : ∃ lf', entsOf KE (ents.filter fun e => !seen.contains e.born) lf' ∧ lf'.Perm lf
  cur : ∀ p, cur = some p → ∃ e ∈ ents, ∃ s : Array Nat, seen = s.push e.born ∧ e.key = KE.enc p.1 ∧ e.val = p.2
def iterv (KE : KeyEnc κ) (b r : Nat) (vs lf : List (κ × Value)) (cur : Option (κ × Value)) : Chunk := fun m => ∃ ents clock seen, Sep [blk b (.map ents clock), blk r (.mapIter (some b) clock seen clock)] m ∧ Ranged KE ents.toList clock seen vs lf cur
variable {P : Program} {E : Env} {n : Nat} {L L' : List (Nat × Value)} {F F' : PH} {H H' R : List Chunk} {K : Act → World → Prop} {Q : Exit → Act → World → Prop} {ops : Array Oper} {rest : List Oper}
variable {d : Nat} {dd : Option Nat} {ty : TypeId} {pos : String} {aft : Array Edge} {gd : Option (Nat × Bool)} {x y z : Operand} {t k e : TypeId} {b r : Nat} {vs lf : List (κ × Value)} {cur : Option (κ × Value)}
theorem Sat.open_iterv {w : World} (hs : Sat E F (iterv KE b r vs lf cur :: H) w) : ∃ ents clock seen, Sat E F (blk b (.map ents clock) :: blk r (.mapIter (some b) clock seen clock) :: H) w ∧ w.heap[b]? = some (.map ents clock) ∧ w.heap[r]? = some (.mapIter (some b) clock seen clock) ∧ Ranged KE ents.toList clock seen vs lf cur := by
  obtain ⟨m, ⟨m1, m2, ⟨ents, clock, seen, h1, h5⟩, h2⟩, h3⟩ := hs.mem
  have hs' : Sat E F (blk b (.map ents clock) :: blk r (.mapIter (some b) clock seen clock) :: H) w := hs.mk' ⟨m, (Sep.star (C := [_, _])).1 ⟨m1, m2, h1, h2⟩, h3⟩
  exact ⟨ents, clock, seen, hs', hs'.head, (hs'.perm (List.Perm.swap _ _ _)).head, h5⟩
omit [DecidableEq κ] in
theorem Sat.close2 {c1 c2 c : Chunk} {w : World} (hs : Sat E F (c1 :: c2 :: H) w) (h : ∀ m, Sep [c1, c2] m → c m) : Sat E F (c :: H) w :=
  hs.of_sep fun m hm => by
    obtain ⟨m1, m2, h1, h2, h12, e⟩ := (Sep.star (C := [c1, c2])).2 hm
    exact ⟨m1, m2, h _ h1, h2, h12, e⟩
theorem St.rangeMap (hx : ev L x = some (.map (some b))) (i : Nat) (hi : H[i]? = some (mapv KE b vs)) (hR : H.eraseIdx i = R) (ht : P.underlying t = some (.map k e)) (hw : Wanted ops ⟨some d, .range t x, ty, pos, aft, gd⟩ L) (hdn : Nat.blt d n = true)
    (h : ∀ r, St (wpList P ops Q rest) E n ((d, .pointer (some ⟨r, 0, none⟩)) :: L) F (iterv KE b r vs vs none :: R)) : St (wpList P ops Q (⟨some d, .range t x, ty, pos, aft, gd⟩ :: rest)) E n L F H :=
  St.pick i hi hR (St.act hw rfl hdn fun a w ha hs => by
    obtain ⟨ents, clock, vs0, hs1, hb, hes, hper, hnod, hst⟩ := hs.open_mapv
    refine ⟨.pointer (some ⟨w.heap.size, 0, none⟩), w.alloc (.mapIter (some b) clock #[] clock), F, _, ?_, ((hs1.alloc _).perm (List.Perm.swap _ _ _)).close2 (c := iterv KE b w.heap.size vs vs none) (fun m hm => ⟨ents, clock, #[], hm, ⟨⟨vs0, hes, hper⟩, hnod, hst, ⟨vs0, by rw [List.filter_eq_self.2 (fun x _ => by simp)]; exact hes, hper⟩, fun p hp => by cases hp⟩⟩), h _⟩
    simp [execOp, ha.ev hx, run_range_map w t k e b ents clock ht hb])
theorem entsOf_split {A B : List MapEntry} {e : MapEntry} {l : List (κ × Value)} (h : entsOf KE (A ++ e :: B) l) : ∃ A' p B', l = A' ++ p :: B' ∧ e.key = KE.enc p.1 ∧ e.val = p.2 ∧ entsOf KE (A ++ B) (A' ++ B') := by
  unfold entsOf at h
  rw [List.map_append, List.map_cons] at h
  obtain ⟨A', l2, rfl, h1, h2⟩ := List.map_eq_append_iff.1 h.symm
  obtain ⟨p, B', rfl, h3, h4⟩ := List.map_eq_cons_iff.1 h2
  refine ⟨A', p, B', rfl, (Prod.mk.inj h3).1.symm, (Prod.mk.inj h3).2.symm, ?_⟩
  unfold entsOf
  rw [List.map_append, List.map_append, h1, h4]
theorem left_push {ents A B : List MapEntry} {e : MapEntry} {seen : Array Nat} (hn : (ents.map (·.born)).Nodup) (h : (ents.filter fun x => !seen.contains x.born) = A ++ e :: B) : (ents.filter fun x => !(seen.push e.born).contains x.born) = A ++ B := by
  have h1 : (ents.filter fun x => !(seen.push e.born).contains x.born) = (ents.filter fun x => !seen.contains x.born).filter fun x => !(x.born == e.born) := by
    rw [List.filter_filter]
    refine List.filter_congr fun x _ => ?_
    rw [contains_push, Bool.not_or, Bool.and_comm]
  have h2 : ((A ++ e :: B).map (·.born)).Nodup := by
    rw [← h]; exact hn.sublist (List.filter_sublist.map _)
  rw [h1, h, List.filter_append, List.filter_cons, if_neg (by simp)]
  rw [List.map_append, List.map_cons, List.nodup_append] at h2
  have hA : ∀ x ∈ A, x.born ≠ e.born := fun x hx => h2.2.2 _ (List.mem_map_of_mem (f := (·.born)) hx) _ List.mem_cons_self
  have hB : ∀ x ∈ B, x.born ≠ e.born := fun x hx he => (List.nodup_cons.1 h2.2.1).1 (he ▸ List.mem_map_of_mem (f := (·.born)) hx)
  rw [List.filter_eq_self.2 fun x hx => by simpa using hA x hx, List.filter_eq_self.2 fun x hx => by simpa using hB x hx]
theorem St.nextMap (hx : ev L x = some (.pointer (some ⟨r, 0, none⟩))) (i : Nat) (hi : H[i]? = some (iterv KE b r vs lf cur)) (hR : H.eraseIdx i = R) (hw : Wanted ops ⟨some d, .next x false, ty, pos, aft, gd⟩ L) (hdn : Nat.blt d n = true)
    (h0 : lf = [] → St (wpList P ops Q rest) E n ((d, .tuple #[.bool false]) :: L) F (iterv KE b r vs lf cur :: R))
    (h1 : ∀ p lf', lf.Perm (p :: lf') → St (wpList P ops Q rest) E n ((d, .tuple #[.bool true, KE.enc p.1, p.2]) :: L) F (iterv KE b r vs lf' (some p) :: R)) : St (wpList P ops Q (⟨some d, .next x false, ty, pos, aft, gd⟩ :: rest)) E n L F H :=
  St.pick i hi hR (St.act hw rfl hdn fun a w ha hs => by
    obtain ⟨ents, clock, seen, hs1, hb, hr, hg⟩ := hs.open_iterv
    obtain ⟨lf1, g1, g2⟩ := hg.left
    have hl : (leftOf ents seen).toList = ents.toList.filter fun x => !seen.contains x.born := by unfold leftOf; simp
    rcases run_next_at (P := P) w ty r b clock clock seen ents clock hr hb hg.st.2 (Nat.le_refl _) with ⟨he, hrun⟩ | ⟨e, he, w1, hw1, hrun⟩
    · have hnil : lf = [] := by
        have h2 : (ents.toList.filter fun x => !seen.contains x.born) = [] := by rw [← hl]; exact List.eq_nil_of_length_eq_zero (by rw [Array.length_toList]; exact he)
        rw [h2] at g1
        have h3 : lf1 = [] := by
          unfold entsOf at g1
          rw [List.map_nil] at g1
          exact List.map_eq_nil_iff.1 g1.symm
        subst h3
        exact g2.symm.eq_nil
      exact ⟨_, w, F, _, by simp [execOp, ha.ev hx, hrun], hs, h0 hnil⟩
    · rw [hl] at he
      obtain ⟨A, B, hAB⟩ := List.append_of_mem he
      rw [hAB] at g1
      obtain ⟨A', p, B', rfl, hk, hv, hes⟩ := entsOf_split g1
      have hmem : e ∈ ents.toList := (List.mem_filter.1 he).1
      have hs2 : Sat E F (blk b (.map ents clock) :: blk r (.mapIter (some b) clock seen clock) :: R) w1 := by
        rcases hw1 with rfl | rfl
        · exact hs1
        · exact hs1.drew
      have hr1 : w1.heap[r]? = some (.mapIter (some b) clock seen clock) := by rcases hw1 with rfl | rfl <;> exact hr
      have hs3 := (hs2.perm (List.Perm.swap _ _ _)).set (w' := Go.ChangeMaps.setBlock w1 r (.mapIter (some b) clock (seen.push e.born) clock)) (o' := .mapIter (some b) clock (seen.push e.born) clock) rfl rfl rfl (by simp [Go.ChangeMaps.setBlock]) (by have hlt := inW_lt (m := PH.one r (.mapIter (some b) clock seen clock)) (w := w1) (fun b' o' e' => by unfold PH.one at e'; split at e' <;> cases e'; rename_i hbb; subst hbb; exact hr1) (b := r) (o := .mapIter (some b) clock seen clock) (by simp [PH.one]); simp [Go.ChangeMaps.setBlock, hlt]) (fun j hj => by simp [Go.ChangeMaps.setBlock, Ne.symm hj])
      refine ⟨.tuple #[.bool true, e.key, e.val], Go.ChangeMaps.setBlock w1 r (.mapIter (some b) clock (seen.push e.born) clock), F, _, by simp [execOp, ha.ev hx, hrun], (hs3.perm (List.Perm.swap _ _ _)).close2 (c := iterv KE b r vs (A' ++ B') (some p)) (fun m hm => ⟨ents, clock, _, hm, ⟨hg.all, hg.nod, hg.st, ⟨_, by rw [left_push hg.st.1 hAB]; exact hes, List.Perm.refl _⟩, fun q hq => by cases hq; exact ⟨e, hmem, seen, rfl, hk, hv⟩⟩⟩), ?_⟩
      rw [hk, hv]
      exact h1 p _ (g2.symm.trans List.perm_middle))
theorem Yields.entry {p : κ × Value} (hx : ev L x = some (.pointer (some ⟨r, 0, none⟩))) (i : Nat) (hi : H[i]? = some (iterv KE b r vs lf (some p))) : Yields P E n L F H ⟨dd, .entry x, ty, pos, aft, gd⟩ (.tuple #[KE.enc p.1, p.2]) := fun a w ha hs => by
  obtain ⟨ents, clock, seen, hs1, hb, hr, hg⟩ := (hs.perm (perm_erase i hi)).open_iterv
  obtain ⟨e, he, s, rfl, hk, hv⟩ := hg.cur p rfl
  have := run_entry_at (P := P) w r b clock s ents clock e hr hb he hg.st.1
  rw [hk, hv] at this
  simp [execOp, ha.ev hx, this]
/-- The range is over: the map is what it was. -/
theorem St.rangeOver (i : Nat) (hi : H[i]? = some (iterv KE b r vs lf cur)) (hR : H.eraseIdx i = R) (h : St K E n L F (mapv KE b vs :: R)) : St K E n L F H :=
  St.pick i hi hR fun a w ha hs => h a w ha (by
    obtain ⟨ents, clock, seen, hs1, hb, hr, hg⟩ := hs.open_iterv
    obtain ⟨vs', g1, g2⟩ := hg.all
    exact ((hs1.perm (List.Perm.swap _ _ _)).weaken).one fun m hm => ⟨ents, clock, vs', hm, g1, g2, hg.nod, hg.st⟩)
theorem mapv_perm {vs' : List (κ × Value)} (hp : vs.Perm vs') {m : PH} (h : mapv KE b vs m) : mapv KE b vs' m := by
  obtain ⟨ents, clock, vs0, h1, h2, h3, h4, h5⟩ := h
  exact ⟨ents, clock, vs0, h1, h2, h3.trans hp, (hp.map (·.1)).nodup_iff.1 h4, h5⟩
theorem nodup_of_keys {α β : Type} : ∀ {l : List (α × β)}, (l.map (·.1)).Nodup → l.Nodup
  | [], _ => List.nodup_nil
  | p :: l, h => by
    rw [List.map_cons, List.nodup_cons] at h
    exact List.nodup_cons.2 ⟨fun hp => h.1 (List.mem_map_of_mem (f := (·.1)) hp), nodup_of_keys h.2⟩
theorem upsAll_perm {α : Type} {us vs dn : List (κ × α)} (hu : (us.map (·.1)).Nodup) (hd : (vs.map (·.1)).Nodup) (hp : vs.Perm dn) : (Mir.upsAll us dn).Perm (Mir.upsAll us vs) := by
  have hd' := (hp.map (·.1)).nodup_iff.1 hd
  have h1 := upsAll_nodup (dn := dn) hu
  have h2 := upsAll_nodup (dn := vs) hu
  refine (List.perm_ext_iff_of_nodup (nodup_of_keys h1) (nodup_of_keys h2)).2 fun ⟨q, v⟩ => ?_
  rw [← assoc_mem_iff h1, ← assoc_mem_iff h2, upsAll_assoc hd', upsAll_assoc hd, assoc_perm hp.symm hd]
theorem upsAll_snoc {α : Type} {us dn : List (κ × α)} {p : κ × α} : Mir.upsAll us (dn ++ [p]) = upsert (Mir.upsAll us dn) p.1 p.2 := by
  unfold Mir.upsAll; rw [List.foldl_append]; rfl
theorem Mrel.copy {α : Type} {K0 : Kind α} {agg : Bool} : ∀ {vs us : List (κ × Value)} {es zs ys : List (κ × α)}, Mir.copyMap es zs = some ys → Mrel K0 agg F vs es → Mrel K0 agg F us zs → Mrel K0 agg F (Mir.upsAll us vs) ys
  | [], us, [], zs, ys, h, _, hu => by cases h; exact hu
  | (k1, v) :: vs, us, (k2, x) :: es, zs, ys, h, ⟨h1, h2, h3⟩, hu => by
    subst h1
    exact Mrel.copy (vs := vs) (us := upsert us k1 v) (es := es) (zs := upsert zs k1 x) h h3 (Mrel.put h2 hu)
  | [], _, _ :: _, _, _, _, h, _ => h.elim
  | _ :: _, _, [], _, _, _, h, _ => h.elim
theorem St.actv0 {o : Oper} (hw : Wanted ops o L) (hd : o.dst = none)
    (h : ∀ a w, Has n a L → Sat E F H w → ∃ v w' F' H', (execOp a.eval o).run P w = .ok (.value v) w' ∧ Sat E F' H' w' ∧ St (wpList P ops Q rest) E n L F' H') : St (wpList P ops Q (o :: rest)) E n L F H :=
  St.op hw fun K hK a w ha hs => by
    obtain ⟨v, w', F', H', hr, hs', hst⟩ := h a w ha hs
    unfold Oper.wp
    rw [hr, Oper.upon_value, hd]
    exact hK _ _ (hst _ w' ha hs')
theorem enc_inj (KE : KeyEnc κ) {a b : κ} (h : KE.enc a = KE.enc b) : a = b := by
  have h1 := KE.same a b
  rw [← h, KE.same a a] at h1
  simpa using h1
theorem del_none {α : Type} {k : κ} : ∀ {vs : List (κ × α)}, assoc vs k = none → Mir.del vs k = vs
  | [], _ => rfl
  | (k1, v1) :: vs, h => by
    rw [assoc] at h
    split at h
    · cases h
    · rename_i hk
      have := del_none h
      unfold Mir.del at this ⊢
      rw [List.filter_cons, if_pos (by simpa using hk), this]
theorem del_out {α : Type} {k : κ} {vs : List (κ × α)} (h : k ∉ vs.map (·.1)) : Mir.del vs k = vs := del_none (assoc_none_of h)
theorem entsOf_erase {k : κ} : ∀ {ents : List MapEntry} {vs : List (κ × Value)} {j : Nat} {e : MapEntry}, entsOf KE ents vs → (vs.map (·.1)).Nodup → ents[j]? = some e → e.key = KE.enc k → entsOf KE (ents.eraseIdx j) (Mir.del vs k)
  | [], _, _, _, _, _, h, _ => by cases h
  | _ :: _, [], _, _, h, _, _, _ => by cases h
  | e1 :: ents, (k1, v1) :: vs, 0, e, h, hn, he, hk => by
    cases he
    have h1 : e1.key = KE.enc k1 := (Prod.mk.inj (List.cons.inj h).1).1
    have hkk : k1 = k := enc_inj KE (h1.symm.trans hk)
    subst hkk
    rw [List.map_cons, List.nodup_cons] at hn
    have := del_out (α := Value) hn.1
    unfold Mir.del at this ⊢
    rw [List.filter_cons, if_neg (by simp), this]
    exact (List.cons.inj h).2
  | e1 :: ents, (k1, v1) :: vs, j + 1, e, h, hn, he, hk => by
    rw [List.map_cons, List.nodup_cons] at hn
    have h2 : entsOf KE ents vs := (List.cons.inj h).2
    have ih := entsOf_erase (j := j) h2 hn.2 he hk
    have hne : ¬ k1 = k := by
      rintro rfl
      have hm : (e.key, e.val) ∈ ents.map (fun e => (e.key, e.val)) := List.mem_map_of_mem (f := fun e : MapEntry => (e.key, e.val)) (List.mem_of_getElem? he)
      rw [h2] at hm
      obtain ⟨p, hp, hpe⟩ := List.mem_map.1 hm
      have : p.1 = k1 := enc_inj KE ((Prod.mk.inj hpe).1.trans hk)
      exact hn.1 (this ▸ List.mem_map_of_mem (f := (·.1)) hp)
    unfold Mir.del at ih ⊢
    rw [List.filter_cons, if_pos (by simpa using hne), List.eraseIdx_cons_succ]
    unfold entsOf at ih h ⊢
    rw [List.map_cons, List.map_cons, ih]
    exact congrArg (· :: _) (List.cons.inj h).1
theorem stamped.erase {ents : List MapEntry} {clock : Nat} (h : stamped ents clock) (j : Nat) : stamped (ents.eraseIdx j) clock :=
  ⟨h.1.sublist ((List.eraseIdx_sublist _ _).map _), fun e he => h.2 e ((List.eraseIdx_sublist _ _).subset he)⟩
theorem Mrel.del {α : Type} {K0 : Kind α} {agg : Bool} {k : κ} : ∀ {vs : List (κ × Value)} {es : List (κ × α)}, Mrel K0 agg F vs es → Mrel K0 agg F (Mir.del vs k) (Mir.del es k)
  | [], [], _ => trivial
  | (k1, v) :: vs, (k2, x) :: es, ⟨h1, h2, h3⟩ => by
    subst h1
    have ih := Mrel.del (k := k) h3
    unfold Mir.del at ih ⊢
    rw [List.filter_cons, List.filter_cons]
    by_cases hk : k1 = k
    · rw [if_neg (by simpa using hk), if_neg (by simpa using hk)]; exact ih
    · rw [if_pos (by simpa using hk), if_pos (by simpa using hk)]; exact ⟨rfl, h2, ih⟩
  | [], _ :: _, h => h.elim
  | _ :: _, [], h => h.elim
theorem St.mapDel {kk : κ} (hm : ev L x = some (.map (some b))) (hx : ev L y = some (KE.enc kk)) (i : Nat) (hi : H[i]? = some (mapv KE b vs)) (hR : H.eraseIdx i = R)
    (ht : P.underlying t = some (.map k e)) (hk : P.underlying k = some KE.desc) (hw : Wanted ops ⟨none, .call ⟨.builtin .delete, #[x, y], #[t, k]⟩, ty, pos, aft, gd⟩ L)
    (h : St (wpList P ops Q rest) E n L F (mapv KE b (Mir.del vs kk) :: R)) : St (wpList P ops Q (⟨none, .call ⟨.builtin .delete, #[x, y], #[t, k]⟩, ty, pos, aft, gd⟩ :: rest)) E n L F H :=
  St.pick i hi hR (St.actv0 hw rfl fun a w ha hs => by
    obtain ⟨ents, clock, vs0, hs1, hb, hes, hper, hnod, hst⟩ := hs.open_mapv
    obtain ⟨r, g1, g2, g3⟩ := findKey_of (P := P) (w := w) (k := kk) hes hk
    have hck := KE.plain P k ents.isEmpty kk w hk
    have hget : (getObj b).run P w = .ok (.map ents clock) w := Go.MapKept.run_getObj_map hb
    have hnod0 := (hper.map (·.1)).nodup_iff.2 hnod
    have put : ∀ (es' : Array MapEntry), entsOf KE es'.toList (Mir.del vs0 kk) → stamped es'.toList clock → ∃ w', (setObj b (.map es' clock)).run P w = .ok () w' ∧ Sat E F (mapv KE b (Mir.del vs kk) :: R) w' := fun es' h' hst' =>
      ⟨Go.ChangeMaps.setBlock w b (.map es' clock), Go.MapKept.run_setObj_map _ hb, (hs1.set (w' := Go.ChangeMaps.setBlock w b (.map es' clock)) (o' := .map es' clock) rfl rfl rfl (by simp [Go.ChangeMaps.setBlock]) (Go.ChangeMaps.heap_setBlock_same hb _) (fun j hj => Go.ChangeMaps.heap_setBlock_other hb _ hj)).one (fun m hm => ⟨es', clock, _, hm, h', hper.filter _, hnod.sublist (List.filter_sublist.map _), hst'⟩)⟩
    have key : ∃ w', (Builtin.delete_ #[t, k] ty #[.map (some b), KE.enc kk]).run P w = .ok (.tuple #[]) w' ∧ Sat E F (mapv KE b (Mir.del vs kk) :: R) w' := by
      cases r with
      | none =>
        have hn : assoc vs0 kk = none := g2.symm
        obtain ⟨w', h1, h2⟩ := put ents (by rw [del_none hn]; exact hes) hst
        exact ⟨w', by simp [Builtin.delete_, underlying, ht, hget, hck, g1, h1], h2⟩
      | some p =>
        obtain ⟨j, v⟩ := p
        obtain ⟨⟨e0, he0, hke⟩, a3⟩ := g3 j v rfl
        have hj : j < ents.size := by
          have := (List.getElem?_eq_some_iff.1 he0).1
          simpa using this
        have he : (ents.eraseIdxIfInBounds j).toList = ents.toList.eraseIdx j := by simp
        obtain ⟨w', h1, h2⟩ := put (ents.eraseIdxIfInBounds j) (by rw [he]; exact entsOf_erase hes hnod0 he0 hke) (by rw [he]; exact hst.erase j)
        exact ⟨w', by simp [Builtin.delete_, underlying, ht, hget, hck, g1, h1], h2⟩
    obtain ⟨w', h1, h2⟩ := key
    refine ⟨.tuple #[], w', F, _, ?_, h2, h⟩
    have hb2 : (Go.builtin .delete #[t, k] ty (#[x, y].map fun | .const _ => true | _ => false) #[.map (some b), KE.enc kk]).run P w = .ok (.value (.tuple #[])) w' := by simp [Go.builtin, h1]
    simp only [execOp, resolve, ev2 ha hm hx]
    simp only [Sem.run_bind, Sem.run_pure, Result.andThen_ok]
    exact hb2)
theorem St.mapDelK {α : Type} {K0 : Kind α} {agg : Bool} {es : List (κ × α)} {kk : κ} (hr : Mrel K0 agg F vs es) (hm : ev L x = some (.map (some b))) (hx : ev L y = some (KE.enc kk)) (i : Nat) (hi : H[i]? = some (mapv KE b vs)) (hR : H.eraseIdx i = R)
    (ht : P.underlying t = some (.map k e)) (hk : P.underlying k = some KE.desc) (hw : Wanted ops ⟨none, .call ⟨.builtin .delete, #[x, y], #[t, k]⟩, ty, pos, aft, gd⟩ L)
    (h : ∀ vs', Mrel K0 agg F vs' (Mir.del es kk) → St (wpList P ops Q rest) E n L F (mapv KE b vs' :: R)) : St (wpList P ops Q (⟨none, .call ⟨.builtin .delete, #[x, y], #[t, k]⟩, ty, pos, aft, gd⟩ :: rest)) E n L F H :=
  St.mapDel hm hx i hi hR ht hk hw (h _ (Mrel.del hr))
theorem St.iterNodup (i : Nat) (hi : H[i]? = some (iterv KE b r vs lf cur)) (h : (vs.map (·.1)).Nodup → St K E n L F H) : St K E n L F H := fun a w ha hs => by
  obtain ⟨ents, clock, seen, hs1, hb, hr, hg⟩ := (hs.perm (perm_erase i hi)).open_iterv
  exact h hg.nod a w ha hs
theorem St.keysNodup (i : Nat) (hi : H[i]? = some (mapv KE b vs)) (h : (vs.map (·.1)).Nodup → St K E n L F H) : St K E n L F H := fun a w ha hs => by
  obtain ⟨ents, clock, vs0, hs1, hb, hes, hper, hnod, hst⟩ := (hs.perm (perm_erase i hi)).open_mapv
  exact h hnod a w ha hs
end
section
variable {P : Program} {E : Env} {n : Nat} {L L' : List (Nat × Value)} {F F' : PH} {H H' R : List Chunk} {K : Act → World → Prop} {Q : Exit → Act → World → Prop} {ops : Array Oper} {rest : List Oper}
variable {d : Nat} {dd : Option Nat} {ty : TypeId} {pos : String} {aft : Array Edge} {gd : Option (Nat × Bool)} {x y z : Operand} {t k e : TypeId} {b r : Nat}
theorem St.rangeNil (hx : ev L x = some (.map none)) (ht : P.underlying t = some (.map k e)) (hw : Wanted ops ⟨some d, .range t x, ty, pos, aft, gd⟩ L) (hdn : Nat.blt d n = true)
    (h : ∀ r, St (wpList P ops Q rest) E n ((d, .pointer (some ⟨r, 0, none⟩)) :: L) F (blk r (.mapIter none 0 #[] 0) :: H)) : St (wpList P ops Q (⟨some d, .range t x, ty, pos, aft, gd⟩ :: rest)) E n L F H :=
  St.act hw rfl hdn fun a w ha hs => ⟨.pointer (some ⟨w.heap.size, 0, none⟩), w.alloc (.mapIter none 0 #[] 0), F, _, by simp [execOp, ha.ev hx, run_range_nilMap w t k e ht], hs.alloc _, h _⟩
theorem Yields.nextNil {q1 q2 : Nat} {s : Array Nat} (hx : ev L x = some (.pointer (some ⟨r, 0, none⟩))) (i : Nat) (hi : H[i]? = some (blk r (.mapIter none q1 s q2))) : Yields P E n L F H ⟨dd, .next x false, ty, pos, aft, gd⟩ (.tuple #[.bool false]) := fun a w ha hs => by
  have hr := (hs.perm (perm_erase i hi)).head
  simp [execOp, ha.ev hx, Instr.next, getObj, Sem.run, hr]
end
end Go.Sy
