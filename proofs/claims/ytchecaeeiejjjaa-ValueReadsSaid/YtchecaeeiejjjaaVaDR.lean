/- Reading values, in plain words: what the document reads. -/
import Derived.Test.YtchecaeeiejjjaaVaCR
namespace Go.Proofs.Ytchecaeeiejjjaa
open Go Go.Mir
set_option linter.unusedVariables false
theorem Gives.loopR {S Q : Type} {s : S} {body : S → Option (S ⊕ Q)} (I : S → Prop) (μ : S → Nat) (Out : S → Q → Prop) (h0 : I s) (h : ∀ s, I s → Gives (body s) (Two (fun s' => I s' ∧ μ s' < μ s ∧ ∀ q, Out s' q → Out s q) (Out s))) : Gives (Mir.Loop s body) (Out s) := by
  refine Gives.loop (fun s' => I s' ∧ ∀ q, Out s' q → Out s q) μ ⟨h0, fun _ h => h⟩ fun s' hs => (h s' hs.1).mono fun o ho => ?_
  cases o with
  | inl s'' => exact ⟨⟨ho.1, fun q hq => hs.2 q (ho.2.2 q hq)⟩, ho.2.1⟩
  | inr q => exact hs.2 q ho
theorem Gives.step {S Q : Type} {s : S} {body : S → Option (S ⊕ Q)} {P : Q → Prop} (h : Gives (body s) (Two (fun s' => Gives (Mir.Loop s' body) P) P)) : Gives (Mir.Loop s body) P := by
  obtain ⟨o, h1, h2⟩ := h
  rw [Loop_eq, h1, Option.bind_some]
  cases o with
  | inl s' => exact h2
  | inr q => exact Gives.some h2
theorem leaf40 : leafS [40] = none := by decide
theorem leaf41 : leafS [41] = none := by decide
theorem leaf0 : leafS [] = none := rfl
inductive Task where
  | val (L : List DToken)
  | kids (L : List DToken) (acc : List DValue)
inductive Out where
  | okV (v : DValue) (L : List DToken)
  | okK (ks : List DValue) (L : List DToken)
  | bad (L : List DToken)
/-- What tokens are read as. -/
inductive PP : Task → Out → Prop where
  | grp {a c : DToken} {r r' : List DToken} {v : DValue} : a.s = [40] → PP (.val r) (.okV v (c :: r')) → c.s = [41] → PP (.val (a :: r)) (.okV v r')
  | grpNo {a c : DToken} {r r' : List DToken} {v : DValue} : a.s = [40] → PP (.val r) (.okV v (c :: r')) → c.s ≠ [41] → PP (.val (a :: r)) (.bad (c :: r'))
  | grpBad {a : DToken} {r L' : List DToken} : a.s = [40] → PP (.val r) (.bad L') → PP (.val (a :: r)) (.bad L')
  | leafNo {a : DToken} {r : List DToken} : a.s ≠ [40] → leafS a.s = none → PP (.val (a :: r)) (.bad (a :: r))
  | num {a : DToken} {r : List DToken} {x : Int × List UInt8 × Int} : leafS a.s = some x → ¬ (x.1 = 1 ∨ x.1 = 4) → PP (.val (a :: r)) (.okV ⟨x.1, x.2.1, x.2.2, []⟩ r)
  | con {a : DToken} {r L' : List DToken} {x : Int × List UInt8 × Int} {ks : List DValue} : leafS a.s = some x → (x.1 = 1 ∨ x.1 = 4) → PP (.kids r []) (.okK ks L') → PP (.val (a :: r)) (.okV ⟨x.1, x.2.1, x.2.2, ks⟩ L')
  | conBad {a : DToken} {r L' : List DToken} {x : Int × List UInt8 × Int} : leafS a.s = some x → (x.1 = 1 ∨ x.1 = 4) → PP (.kids r []) (.bad L') → PP (.val (a :: r)) (.bad L')
  | kLeaf {a : DToken} {r : List DToken} {x : Int × List UInt8 × Int} {acc : List DValue} {o : Out} : leafS a.s = some x → PP (.kids r (acc ++ [⟨x.1, x.2.1, x.2.2, []⟩])) o → PP (.kids (a :: r) acc) o
  | kGrp {a : DToken} {r L1 : List DToken} {v : DValue} {acc : List DValue} {o : Out} : a.s = [40] → PP (.val (a :: r)) (.okV v L1) → PP (.kids L1 (acc ++ [v])) o → PP (.kids (a :: r) acc) o
  | kGrpBad {a : DToken} {r L' : List DToken} {acc : List DValue} : a.s = [40] → PP (.val (a :: r)) (.bad L') → PP (.kids (a :: r) acc) (.bad L')
  | kEnd {a : DToken} {r : List DToken} {acc : List DValue} : leafS a.s = none → a.s ≠ [40] → PP (.kids (a :: r) acc) (.okK acc (a :: r))
def shorter : Task → Out → Prop
  | .val L, .okV _ L' => L'.length < L.length
  | .kids L _, .okK _ L' => L'.length ≤ L.length
  | _, _ => True
theorem PP.len {tk : Task} {o : Out} (h : PP tk o) : shorter tk o := by
  induction h with
  | grp h1 h2 h3 ih => simp only [shorter, List.length_cons] at *; omega
  | grpNo => trivial
  | grpBad => trivial
  | leafNo => trivial
  | num => exact Nat.lt_succ_self _
  | con h1 h2 h3 ih => simp only [shorter, List.length_cons] at *; omega
  | conBad => trivial
  | @kLeaf a r x acc o h1 h2 ih => cases o <;> simp only [shorter, List.length_cons] at * <;> omega
  | @kGrp a r L1 v acc o h1 h2 h3 ih1 ih2 => cases o <;> simp only [shorter, List.length_cons] at * <;> omega
  | kGrpBad => trivial
  | kEnd => exact Nat.le_refl _
def At (T : List DToken) (i : Int) (L : List DToken) : Prop := ∃ k : Nat, i = (k : Int) ∧ T.drop k = L ∧ Ends L
def RefV (T : List DToken) : Out → DValue × Int × Bool → Prop
  | .okV v L, x => x.2.2 = true ∧ x.1 = v ∧ At T x.2.1 L
  | .bad L, x => x.2.2 = false ∧ At T x.2.1 L
  | .okK _ _, _ => False
def RefK (T : List DToken) : Out → (Int × List DValue) ⊕ (DValue × Int × Bool) → Prop
  | .okK ks L, .inl x => x.2 = ks ∧ At T x.1 L
  | .bad L, .inr x => x.2.2 = false ∧ At T x.2.1 L
  | _, _ => False
theorem dropT {T r : List DToken} {k : Nat} {a : DToken} (h : T.drop k = a :: r) : idx T (k : Int) = some a ∧ T.drop (k + 1) = r ∧ k < T.length := by
  have hp : k < T.length := by
    rcases Nat.lt_or_ge k T.length with h1 | h1
    · exact h1
    · rw [List.drop_of_length_le h1] at h; cases h
  rw [List.drop_eq_getElem_cons hp] at h
  obtain ⟨h1, h2⟩ := List.cons.inj h
  exact ⟨by rw [idx_ok hp, h1], h2, hp⟩
theorem eta (v : DValue) : DValue.mk v.Op v.Name v.N v.Kids = v := by cases v; rfl
theorem Ends.split {L : List DToken} (h : Ends L) : ∃ a r, L = a :: r := by
  cases L with
  | nil => exact absurd rfl h.ne
  | cons a r => exact ⟨a, r, rfl⟩
theorem leaf_ne {s : List UInt8} {x : Int × List UInt8 × Int} (h : leafS s = some x) : s ≠ [] ∧ s ≠ [40] ∧ s ≠ [41] := ⟨fun e => (by rw [e] at h; cases h), fun e => (by rw [e, leaf40] at h; cases h), fun e => (by rw [e, leaf41] at h; cases h)⟩
theorem r_value {T : List DToken} (hT : T.length ≤ 20001) : ∀ (N g k : Nat), (T.drop k).length ≤ N → N < g → Ends (T.drop k) → Gives (m_ref08_value g T (k : Int)) (fun x => ∃ o, PP (.val (T.drop k)) o ∧ RefV T o x)
  | 0, g, k, h, _, he => absurd (List.length_eq_zero_iff.1 (Nat.le_zero.1 h)) he.ne
  | N + 1, 0, k, h, hg, _ => absurd hg (Nat.not_lt_zero _)
  | N + 1, g + 1, k, h, hg, he => by
    obtain ⟨a, r, hL⟩ := he.split
    obtain ⟨hi, hr, hk⟩ := dropT hL
    have hw1 : w64 ((k : Int) + 1) = ((k + 1 : Nat) : Int) := by rw [w64_eq (by omega)]; rfl
    rw [hL] at h he
    rw [List.length_cons] at h
    rw [m_ref08_value, hL]
    refine Gives.bindE hi (Gives.ite (fun c1 => ?_) (fun c1 => ?_))
    · have her : Ends (T.drop (k + 1)) := by rw [hr]; exact he.tail (by rw [c1]; decide)
      have ih := r_value hT N g (k + 1) (by rw [hr]; omega) (by omega) her
      rw [hw1]
      refine Gives.bind _ ih fun q hq => ?_
      obtain ⟨o, hp, ho⟩ := hq
      rw [hr] at hp
      match o, ho, hp with
      | .okV v L1, ⟨o1, o2, k1, o3, o4, o5⟩, hp =>
        obtain ⟨c, r', rfl⟩ := o5.split
        obtain ⟨ci, cr, ck⟩ := dropT o4
        refine Gives.bind (fun z => z = !decide (c.s = [41])) (Gives.pos o1 (Gives.bindE (by rw [o3]; exact ci) (Gives.some rfl))) fun z hz => ?_
        subst hz
        by_cases c2 : c.s = [41]
        · refine Gives.neg (by rw [decide_eq_true c2]; decide) (Gives.some ⟨_, PP.grp c1 hp c2, rfl, o2, k1 + 1, ?_, cr, o5.tail (by rw [c2]; decide)⟩)
          dsimp only
          rw [o3, w64_eq (by omega)]; rfl
        · exact Gives.pos (by rw [decide_eq_false c2]; rfl) (Gives.some ⟨_, PP.grpNo c1 hp c2, rfl, k1, o3, o4, o5⟩)
      | .bad L1, ⟨o1, o2⟩, hp =>
        refine Gives.bind (fun z => z = true) (Gives.neg (by rw [o1]; decide) (Gives.some rfl)) fun z hz => ?_
        subst hz
        exact Gives.pos rfl (Gives.some ⟨_, PP.grpBad c1 hp, rfl, o2⟩)
    · refine Gives.bindE hi (Gives.bind _ (r_leaf g a.s) fun lf hlf => ?_)
      rcases hlf with ⟨l1, l2⟩ | ⟨x, l1, rfl⟩
      · exact Gives.neg (by rw [l2]; decide) (Gives.some ⟨_, PP.leafNo c1 l1, rfl, k, rfl, hL, he⟩)
      · have her : Ends (T.drop (k + 1)) := by rw [hr]; exact he.tail (leaf_ne l1).1
        dsimp only
        rw [if_pos rfl]
        by_cases cx : x.1 = 1 ∨ x.1 = 4
        · rw [hw1]
          have hlen0 : r.length ≤ 20001 := by
            have : (T.drop k).length ≤ T.length := by rw [List.length_drop]; omega
            rw [hL, List.length_cons] at this
            omega
          refine Gives.jx (fun (j : Int × List DValue) => ∃ L', PP (.kids r []) (.okK j.2 L') ∧ At T j.1 L') (Gives.mono (Gives.loopR (S := Int × List DValue) (Q := (Int × List DValue) ⊕ (DValue × Int × Bool)) (fun s => ∃ k' : Nat, s.1 = (k' : Int) ∧ Ends (T.drop k') ∧ (T.drop k').length ≤ N ∧ s.2.length + (T.drop k').length ≤ 20001) (fun s => (T.drop s.1.toNat).length) (fun s q => ∃ o, PP (.kids (T.drop s.1.toNat) s.2) o ∧ RefK T o q) ⟨k + 1, rfl, her, by rw [hr]; omega, by rw [hr]; simp only [List.length_nil]; omega⟩ ?_) ?_) ?_
          · rintro ⟨_, acc⟩ ⟨k', rfl, e1, e2, e3⟩
            dsimp only at e1 e2 e3 ⊢
            rw [Int.toNat_natCast]
            obtain ⟨b, r1, hb⟩ := e1.split
            obtain ⟨bi, br, bk⟩ := dropT hb
            have hw2 : w64 ((k' : Int) + 1) = ((k' + 1 : Nat) : Int) := by rw [w64_eq (by omega)]; rfl
            refine Gives.bind (fun z => z = true) (Gives.ite (fun _ => Gives.some rfl) (fun c => Gives.some (decide_eq_true (by omega)))) fun z hz => ?_
            subst hz
            refine Gives.pos rfl (Gives.bindE bi (Gives.bind _ (r_leaf g b.s) fun lf hlf => ?_))
            refine Gives.jx (fun j => (∃ y, leafS b.s = some y ∧ j = (y.1, y.2.1, y.2.2, [], true, ((k' + 1 : Nat) : Int))) ∨ (b.s = [40] ∧ ∃ v k1, PP (.val (b :: r1)) (.okV v (T.drop k1)) ∧ Ends (T.drop k1) ∧ j = (v.Op, v.Name, v.N, v.Kids, true, ((k1 : Nat) : Int))) ∨ (leafS b.s = none ∧ b.s ≠ [40] ∧ j.2.2.2.2.1 = false)) ?_ fun j hj => ?_
            · rcases hlf with ⟨l1', l2'⟩ | ⟨y, l1', rfl⟩
              · refine Gives.bind (fun z => z = (false, decide (b.s = [40]))) (Gives.neg (by rw [l2']; decide) (Gives.bindE bi (Gives.some rfl))) fun z hz => ?_
                subst hz
                refine Gives.ite (fun c4 => ?_) (fun c4 => Gives.some (.inr (.inr ⟨l1', fun h => c4 (decide_eq_true h), rfl⟩)))
                have c4 : b.s = [40] := of_decide_eq_true c4
                have ih := r_value hT N g k' e2 (by omega) e1
                refine Gives.bind _ ih fun q hq => ?_
                obtain ⟨o, hp, ho⟩ := hq
                match o, ho, hp with
                | .okV v L1, ⟨o1, o2, k1, o3, o4, o5⟩, hp =>
                  refine Gives.pos o1 (Gives.some (.inr (.inl ⟨c4, v, k1, ?_, by rw [o4]; exact o5, ?_⟩)))
                  · rw [o4, ← hb]; exact hp
                  · rw [o1, o2, o3]
                | .bad L1, ⟨o1, o2⟩, hp =>
                  refine Gives.neg (by rw [o1]; decide) (Gives.some ⟨.bad L1, ?_, rfl, o2⟩)
                  rw [hb] at hp ⊢
                  exact PP.kGrpBad c4 hp
              · refine Gives.bind (fun z => z = (true, false)) (Gives.pos rfl (Gives.some rfl)) fun z hz => ?_
                subst hz
                refine Gives.neg (by decide) (Gives.some (.inl ⟨y, l1', ?_⟩))
                rw [hw2]
            · rcases hj with ⟨y, y1, rfl⟩ | ⟨y0, v, k1, y1, y2, rfl⟩ | ⟨y1, y2, y3⟩
              · have hne := (leaf_ne y1).1
                rw [hb, List.length_cons] at e2 e3
                refine Gives.pos rfl (Gives.bindE (push_small 20001 (by simp only [List.length_cons, List.length_nil]; omega) (by decide)) (Gives.some ⟨⟨k' + 1, rfl, ?_, ?_, ?_⟩, ?_, ?_⟩))
                · rw [br]; rw [hb] at e1; exact e1.tail hne
                · rw [br]; omega
                · rw [br]; dsimp only; simp only [List.length_append, List.length_cons, List.length_nil]; omega
                · dsimp only; rw [Int.toNat_natCast, br, hb, List.length_cons]; omega
                · intro q hq
                  dsimp only at hq
                  try rw [Int.toNat_natCast] at hq
                  rw [br] at hq
                  obtain ⟨o, o1, o2⟩ := hq
                  refine ⟨o, ?_, o2⟩
                  rw [hb]
                  exact PP.kLeaf y1 o1
              · have hlen := y1.len
                simp only [shorter] at hlen
                rw [← hb] at hlen
                refine Gives.pos rfl (Gives.bindE (push_small 20001 (by rw [hb, List.length_cons] at e3; simp only [List.length_cons, List.length_nil]; omega) (by decide)) (Gives.some ⟨⟨k1, rfl, y2, by omega, ?_⟩, ?_, ?_⟩))
                · dsimp only; simp only [List.length_append, List.length_cons, List.length_nil]; omega
                · dsimp only; exact hlen
                · intro q hq
                  dsimp only at hq
                  try rw [Int.toNat_natCast] at hq
                  rw [eta] at hq
                  obtain ⟨o, o1, o2⟩ := hq
                  refine ⟨o, ?_, o2⟩
                  rw [hb]
                  exact PP.kGrp y0 y1 o1
              · refine Gives.neg (by rw [y3]; decide) (Gives.some ⟨.okK acc (b :: r1), by rw [hb]; exact PP.kEnd y1 y2, rfl, k', rfl, hb, by rw [← hb]; exact e1⟩)
          · intro q hq
            obtain ⟨o, o1, o2⟩ := hq
            dsimp only at o1
            rw [Int.toNat_natCast, hr] at o1
            match o, q, o2, o1 with
            | .okK ks L', .inl j, ⟨o3, o4⟩, o1 =>
              refine ⟨L', ?_, o4⟩
              rw [o3]; exact o1
            | .bad L', .inr y, o2, o1 => exact ⟨.bad L', PP.conBad l1 cx o1, o2⟩
          · intro j hj
            obtain ⟨L', j1, j2⟩ := hj
            exact Gives.some ⟨_, PP.con l1 cx j1, rfl, rfl, j2⟩
        · rw [hw1]
          refine Gives.jx (fun j => j = (((k + 1 : Nat) : Int), [])) (Gives.step ?_) fun j hj => ?_
          · refine Gives.bind (fun z => z = false) (Gives.neg (by omega) (Gives.some (decide_eq_false (by omega)))) fun z hz => ?_
            subst hz
            exact Gives.neg (by decide) (Gives.some rfl)
          · subst hj
            exact Gives.some ⟨_, PP.num l1 cx, rfl, rfl, k + 1, rfl, hr, by rw [← hr]; exact her⟩
end Go.Proofs.Ytchecaeeiejjjaa
