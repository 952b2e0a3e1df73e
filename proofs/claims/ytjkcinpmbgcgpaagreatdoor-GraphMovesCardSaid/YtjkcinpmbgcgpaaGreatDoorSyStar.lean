/- The calculus: lists of pieces as one piece; copy into a row; two operations that may come up in either order. -/
import Derived.Test.YtjkcinpmbgcgpaaGreatDoorSyMap
import Derived.Laws.CopyRow
namespace Go.Sy
open Go Go.RowKit
section
variable {P : Program} {E : Env} {n : Nat} {L L' : List (Nat × Value)} {F F' Fs : PH} {H H' Hs R : List Chunk} {K : Act → World → Prop} {Q : Exit → Act → World → Prop} {ops : Array Oper} {rest : List Oper} {T : List Nat} {fuel : Nat} {listed : Array Bool}
theorem PH.emp_un (m : PH) : PH.un PH.emp m = m := by funext k; rfl
theorem Sep.star {C H : List Chunk} {m : PH} : Sep (Sep C :: H) m ↔ Sep (C ++ H) m := by
  constructor
  · rintro ⟨m1, m2, h1, h2, h12, rfl⟩
    exact Sep.append h1 h2 h12
  · intro h
    obtain ⟨m1, m2, h1, h2, h12, rfl⟩ := h.split
    exact ⟨m1, m2, h1, h2, h12, rfl⟩
theorem Sep.under {c : Chunk} {H H' : List Chunk} (h : ∀ m, Sep H m → Sep H' m) {m : PH} (hm : Sep (c :: H) m) : Sep (c :: H') m := let ⟨m1, m2, h1, h2, h3⟩ := hm; ⟨m1, m2, h1, h m2 h2, h3⟩
theorem Sep.star_cons {c : Chunk} {C H : List Chunk} {m : PH} : Sep (Sep (c :: C) :: H) m ↔ Sep (c :: Sep C :: H) m :=
  Sep.star.trans ⟨fun h => Sep.under (fun _ h => Sep.star.2 h) h, fun h => Sep.under (fun _ h => Sep.star.1 h) h⟩
theorem Sat.of_sep {w : World} (hs : Sat E F H w) (h : ∀ m, Sep H m → Sep H' m) : Sat E F H' w :=
  hs.mk' (let ⟨m, h1, h2⟩ := hs.mem; ⟨m, h m h1, h2⟩)
/-- The first piece of a star is taken out. -/
theorem St.star_out (i : Nat) {c : Chunk} {C : List Chunk} (hi : H[i]? = some (Sep (c :: C))) (hR : H.eraseIdx i = R) (h : St K E n L F (c :: Sep C :: R)) : St K E n L F H :=
  St.pick i hi hR fun a w ha hs => h a w ha (hs.of_sep fun _ h => Sep.star_cons.1 h)
/-- A piece goes into the star. -/
theorem Sat.star_in {c : Chunk} {C : List Chunk} {w : World} (hs : Sat E F (c :: Sep C :: H) w) : Sat E F (Sep (c :: C) :: H) w := hs.of_sep fun _ h => Sep.star_cons.2 h
theorem St.star_in {c : Chunk} {C : List Chunk} (h : St K E n L F (Sep (c :: C) :: H)) : St K E n L F (c :: Sep C :: H) := fun a w ha hs => h a w ha hs.star_in
theorem St.star_new (h : St K E n L F (Sep [] :: H)) : St K E n L F H := fun a w ha hs => h a w ha (hs.of_sep fun m hm => ⟨PH.emp, m, fun _ => rfl, hm, fun _ _ e => (nomatch e), (PH.emp_un m).symm⟩)
section
variable {d : Nat} {ty : TypeId} {pos : String} {aft : Array Edge} {gd : Option (Nat × Bool)} {x y : Operand} {t e bytes : Nat} {B : Option Addr} {g k c m c2 : Nat} {xs : List Value}
/-- copy of a row that is read, as long as the row of the call's own that it goes to. -/
theorem St.copy_all {α : Type} {D : Kind α} {ys : List α} (hT : slT P t e 1 bytes = true) (hx : ev L x = some (.slice (some ⟨g, 0, none⟩) k c)) (hy : ev L y = some (.slice B m c2)) (hS : Slc D F B m ys) (hDs : D.sz = 1) (hm : m = k) (hk : 0 < k) (i : Nat) (hi : H[i]? = some (row (some ⟨g, 0, none⟩) k c e 1 xs)) (hR : H.eraseIdx i = R)
    (hdn : Nat.blt d n = true) (hw : Wanted ops ⟨some d, .call ⟨.builtin .copy, #[x, y], #[t, t]⟩, ty, pos, aft, gd⟩ L)
    (h : ∀ news, Cat D F news ys → St (wpList P ops Q rest) E n ((d, .int .i64 k) :: L) F (row (some ⟨g, 0, none⟩) k c e 1 news :: R)) : St (wpList P ops Q (⟨some d, .call ⟨.builtin .copy, #[x, y], #[t, t]⟩, ty, pos, aft, gd⟩ :: rest)) E n L F H := by
  subst hm
  obtain ⟨ad, rfl⟩ : ∃ ad, B = some ad := by
    rcases hS.2 with h | ⟨ad, h, _⟩
    · omega
    · exact ⟨ad, h⟩
  obtain ⟨news, h1, h2⟩ := hS.cat
  obtain ⟨ti, z, hu, hin, hz, hsz, rfl, hzs⟩ := slT_spec hT
  have hnl : news.length = m := by rw [h1.length, hS.1, hDs, Nat.mul_one]
  refine St.pick i hi hR (St.act hw rfl hdn fun a w ha hs => ?_)
  obtain ⟨mm, ⟨m1, m2, g1, g2, g12, rfl⟩, hin', hd', hu'⟩ := hs.mem
  obtain ⟨cur, k1, k2, k3, k4, k5⟩ := blk_of_row g1
  have hs' : Sat E F (blk g (.cells cur e (0, 0)) :: R) w := hs.mk' ⟨_, ⟨m1, m2, k5, g2, g12, rfl⟩, hin', hd', hu'⟩
  have hcs : cur.size = c := by rw [k3, Nat.mul_one]
  have hr := run_copy_row P w t t ty e g 0 m c ad m c2 cur e news hu (by rw [hin]; simp [hsz]) hs'.head (by rw [hnl]; simp) (fun j v e => PH.cell?_inW hs.frz (h2 j v e)) (by omega) h1.one
  simp only [List.take_zero, List.nil_append, Nat.zero_add] at hr
  refine ⟨.int .i64 m, _, F, _, ?_, (hs'.set (w' := w.setRow g (news ++ cur.toList.drop news.length).toArray) (o' := .cells (news ++ cur.toList.drop news.length).toArray e (0, 0)) rfl rfl rfl (by simp) (setRow_heap w g cur _ e (0, 0) hs'.head) (fun j hj => setRow_other w g j _ hj)).weak (c' := row (some ⟨g, 0, none⟩) m c e 1 news) (fun m' hm' => ?_), h news h1⟩
  · simp only [execOp, resolve, ev2 ha hx hy, Sem.run_bind, Sem.run_pure, Result.andThen_ok, invoke, Go.builtin]
    simp only [hr, Result.andThen_ok, goInt, hnl]
  · refine ⟨by rw [hnl, Nat.mul_one], .inr ⟨g, _, rfl, k1, k2, by simp; omega, ?_, hm'⟩⟩
    simp [hnl]
end
theorem StD.step {i : Nat} {oi : Oper} (hi : ops[i]? = some oi) {K' : Act → World → Prop} {a : Act} {w : World} (h1 : wpList P ops (Exit.then K' Q) [oi] a w) : wpOp P ops Q i K' a w := by
  unfold wpOp
  simp only [hi]
  unfold wpList at h1
  split
  · rename_i hw
    rw [if_pos hw] at h1
    rcases h1 with h1 | h1
    · left
      unfold Oper.wp at *
      generalize (execOp a.eval oi).run P w = r at *
      cases r with
      | ok nx w' =>
        cases nx <;> simp only [Oper.upon] at h1 ⊢ <;> first
          | exact h1
          | exact Calls.mono h1 (fun e w'' he => by cases e <;> first | exact he | (obtain ⟨a, w, q⟩ := he; exact ⟨a, w, q⟩))
          | exact Rows.mono h1 (fun _ _ he => he)
      | halt x w' => cases x <;> simp only [Oper.upon] at h1 ⊢ <;> exact h1
    · right
      obtain ⟨h1, a', w', q⟩ := h1
      exact ⟨h1, a', w', q⟩
  · rename_i hw
    rw [if_neg hw] at h1
    exact h1
/-- Two operations may come up: each way is walked. -/
theorem StD.two {i j : Nat} {oi oj : Oper} (hi : ops[i]? = some oi) (hj : ops[j]? = some oj) (hr : Region.ready .any ops listed = [i, j]) {l1 l2 : Array Bool} (hl : listed.setIfInBounds i true = l1) (hl2 : listed.setIfInBounds j true = l2)
    (h : Closed ops l1 → St (wpList P ops (Exit.then (fun a w => (T.contains i = false → Sat E Fs Hs w) ∧ wpAnyT P ops Q (Sat E Fs Hs) T fuel l1 a w) Q) [oi]) E n L F H)
    (h2 : Closed ops l2 → St (wpList P ops (Exit.then (fun a w => (T.contains j = false → Sat E Fs Hs w) ∧ wpAnyT P ops Q (Sat E Fs Hs) T fuel l2 a w) Q) [oj]) E n L F H) : StD P ops Q T Fs Hs (fuel + 1) listed E n L F H := fun a w ha hs hcl => by
  subst hl; subst hl2
  unfold wpAnyT
  refine ⟨fun h0 => (by rw [hr] at h0; cases h0), fun q hq => ?_⟩
  have hq' := hq
  rw [hr] at hq
  rcases List.mem_cons.1 hq with rfl | hq
  · exact wpOp_mono (fun a' w' h => ⟨fun hT _ => h.1 hT, h.2⟩) (StD.step hi (h (hcl.set hq') a w ha hs))
  · rw [List.mem_singleton.1 hq] at hq' ⊢
    exact wpOp_mono (fun a' w' h => ⟨fun hT _ => h.1 hT, h.2⟩) (StD.step hj (h2 (hcl.set hq') a w ha hs))
end
end Go.Sy
