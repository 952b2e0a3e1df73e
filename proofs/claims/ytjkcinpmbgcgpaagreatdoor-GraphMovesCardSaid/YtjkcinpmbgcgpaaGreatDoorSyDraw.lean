/- The calculus's rules for a statement whose order is open: what only reads is taken first; what is left comes up as it may. -/
import Derived.Test.YtjkcinpmbgcgpaaGreatDoorSyMem
import Derived.OrdersHeld
namespace Go.Sy
open Go Go.RowKit
/-- Operation j waits for operation k, by way of others perhaps. -/
def waits (ops : Array Oper) : Nat → Nat → Nat → Bool
  | 0, _, _ => false
  | n + 1, j, k => match ops[j]? with
    | none => false
    | some o => (o.after.any fun e => Region.binds .any e && e.on == k) || (o.after.any fun e => Region.binds .any e && waits ops n e.on k)
/-- The operations in T wait for all others but those in U. -/
def tailOk (ops : Array Oper) (T U : List Nat) : Bool := T.all fun j => (List.range ops.size).all fun k => T.contains k || U.contains k || waits ops ops.size j k
def Closed (ops : Array Oper) (listed : Array Bool) : Prop := ∀ (j : Nat) (o : Oper), ops[j]? = some o → listed.getD j false = true → ∀ e ∈ o.after, Region.binds .any e = true → listed.getD e.on false = true
theorem waits_listed {ops : Array Oper} {listed : Array Bool} (hc : Closed ops listed) : ∀ n j k, waits ops n j k = true → (∀ o, ops[j]? = some o → ∀ e ∈ o.after, Region.binds .any e = true → listed.getD e.on false = true) → listed.getD k false = true := by
  intro n
  induction n with
  | zero => intro j k h; cases h
  | succ n ih =>
    intro j k h hd
    unfold waits at h
    split at h
    · cases h
    · rename_i o ho
      rw [Bool.or_eq_true] at h
      rcases h with h | h
      · rw [Array.any_eq_true'] at h
        obtain ⟨e, he, hb⟩ := h
        rw [Bool.and_eq_true] at hb
        have : e.on = k := by simpa using hb.2
        rw [← this]; exact hd o ho e he hb.1
      · rw [Array.any_eq_true'] at h
        obtain ⟨e, he, hb⟩ := h
        rw [Bool.and_eq_true] at hb
        have hon := hd o ho e he hb.1
        exact ih e.on k hb.2 fun o' ho' => hc e.on o' ho' hon
theorem getD_ft {listed : Array Bool} {i : Nat} (h0 : listed.getD i true = false) (h1 : listed.getD i false = true) : False := by
  rw [Array.getD_eq_getD_getElem?] at h0 h1
  cases hc : listed[i]? with
  | none => rw [hc] at h1; cases h1
  | some b => rw [hc] at h1 h0; simp only [Option.getD_some] at h1 h0; rw [h1] at h0; cases h0
theorem Closed.set {ops : Array Oper} {listed : Array Bool} (hc : Closed ops listed) {i : Nat} (hi : i ∈ Region.ready .any ops listed) : Closed ops (listed.setIfInBounds i true) := by
  intro j o ho hl e he hb
  by_cases hji : i = j
  · subst hji
    obtain ⟨_, o', ho', hall⟩ := mem_ready.1 hi
    rw [ho] at ho'; cases ho'
    exact getD_set_true (hall e he hb)
  · rw [getD_set_ne false hji] at hl
    exact getD_set_true (hc j o ho hl e he hb)
theorem Closed.start (ops : Array Oper) (n : Nat) : Closed ops (Array.replicate n false) := by
  intro j o _ hl
  rw [Array.getD_eq_getD_getElem?, Array.getElem?_replicate] at hl
  split at hl <;> cases hl
section
variable {P : Program} {ops : Array Oper} {Q : Exit → Act → World → Prop} {S : World → Prop} {T : List Nat}
def wpAnyT (P : Program) (ops : Array Oper) (Q : Exit → Act → World → Prop) (S : World → Prop) (T : List Nat) : Nat → Array Bool → Act → World → Prop
  | 0, listed, a, w => Region.ready .any ops listed = [] ∧ Q .normal a w
  | fuel + 1, listed, a, w =>
    (Region.ready .any ops listed = [] → Q .normal a w) ∧
    ∀ i ∈ Region.ready .any ops listed, wpOp P ops Q i (fun a' w' => (T.contains i = false → S w → S w') ∧ wpAnyT P ops Q S T fuel (listed.setIfInBounds i true) a' w') a w
theorem wpAny_of_T : ∀ (fuel : Nat) (listed : Array Bool) (a : Act) (w : World), wpAnyT P ops Q S T fuel listed a w → wpAny P .any ops Q fuel listed a w
  | 0, _, _, _, h => h
  | fuel + 1, _, _, _, h => ⟨h.1, fun i hi => wpOp_mono (fun a' w' h' => wpAny_of_T fuel _ a' w' h'.2) (h.2 i hi)⟩
theorem wpAnyT_first {U : List Nat} {i : Nat} {oi : Oper} {v : Value} (hi : ops[i]? = some oi) (hTi : T.contains i = false) (hUi : U.contains i = false) (htail : tailOk ops T U = true) (hsel : ∀ (j : Nat) (o : Oper) cs b, ops[j]? = some o → o.op ≠ .select cs b)
    (hQ : ∀ c a w, Q (.panic c) (a.put oi.dst v) w → Q (.panic c) a w) :
    ∀ (fuel : Nat) (listed : Array Bool) (a : Act) (w : World), Closed ops listed →
      (∀ j oj, ops[j]? = some oj → j ≠ i → listed.getD j true = false → (∀ e ∈ oj.after, Region.binds .any e = true → e.on ≠ i) → oi.apart ops oj = true) →
      i ∈ Region.ready .any ops listed → YieldsIf P ops S oi v a → S w →
      wpAnyT P ops Q S T fuel (listed.setIfInBounds i true) (a.put oi.dst v) w → wpAnyT P ops Q S T (fuel + 1) listed a w := by
  intro fuel
  have his : i < ops.size := (Array.getElem?_eq_some_iff.1 hi).1
  induction fuel with
  | zero =>
    intro listed a w _ _ hr hy hS hH
    unfold wpAnyT
    refine ⟨fun h => (by rw [h] at hr; cases hr), fun j hj => ?_⟩
    by_cases hji : j = i
    · subst hji; exact hy.wpOp hi hS ⟨fun _ h => h, hH⟩
    · have h9 := ready_mono hj hji
      rw [hH.1] at h9; cases h9
  | succ fuel ih =>
    intro listed a w hcl hfree hr hy hS hH
    unfold wpAnyT
    refine ⟨fun h => (by rw [h] at hr; cases hr), fun j hj => ?_⟩
    by_cases hji : j = i
    · subst hji; exact hy.wpOp hi hS ⟨fun _ h => h, hH⟩
    · have hi0 := (mem_ready.1 hr).1
      obtain ⟨hj0, oj, hoj, hall⟩ := mem_ready.1 hj
      have hnot : ∀ e ∈ oj.after, Region.binds .any e = true → e.on ≠ i := fun e he hb heq => getD_ft hi0 (heq ▸ hall e he hb)
      have hTj : T.contains j = false := by
        cases hT : T.contains j with
        | false => rfl
        | true =>
          exfalso
          unfold tailOk at htail
          rw [List.all_eq_true] at htail
          have h1 := htail j (by simpa using hT)
          rw [List.all_eq_true] at h1
          have h2 := h1 i (List.mem_range.2 his)
          rw [hTi, hUi, Bool.false_or, Bool.false_or] at h2
          exact getD_ft hi0 (waits_listed hcl _ _ _ h2 fun o ho => by rw [hoj] at ho; cases ho; exact hall)
      have hstep := wpOp_putIf hoj (hfree j oj hoj hji hj0 hnot) (fun cs b => hsel i oi cs b hi) (fun cs b => hsel j oj cs b hoj) hQ hy (hH.2 j (ready_mono hj hji))
      have hi1 : i ∈ Region.ready .any ops (listed.setIfInBounds j true) := ready_mono hr (Ne.symm hji)
      refine wpOp_mono ?_ hstep
      rintro a' w' ⟨hy', hS', hK⟩
      have hSw := hS' hTj hS
      have hfree' : ∀ k ok, ops[k]? = some ok → k ≠ i → (listed.setIfInBounds j true).getD k true = false → (∀ e ∈ ok.after, Region.binds .any e = true → e.on ≠ i) → oi.apart ops ok = true := by
        intro k ok hk hki hun hno
        refine hfree k ok hk hki ?_ hno
        by_cases hjk : j = k
        · subst hjk; exact hj0
        · rwa [getD_set_ne true hjk] at hun
      refine ⟨fun _ _ => hSw, ih (listed.setIfInBounds j true) a' w' (hcl.set hj) hfree' hi1 hy' hSw ?_⟩
      rw [← Array.setIfInBounds_comm _ _ (Ne.symm hji)]; exact hK
/-- .. what does not look at memory. -/
theorem wpAnyT_firstP {i : Nat} {oi : Oper} {v : Value} (hi : ops[i]? = some oi) (hsel : ∀ (j : Nat) (o : Oper) cs b, ops[j]? = some o → o.op ≠ .select cs b)
    (hQ : ∀ c a w, Q (.panic c) (a.put oi.dst v) w → Q (.panic c) a w) :
    ∀ (fuel : Nat) (listed : Array Bool) (a : Act) (w : World),
      (∀ j oj, ops[j]? = some oj → j ≠ i → listed.getD j true = false → (∀ e ∈ oj.after, Region.binds .any e = true → e.on ≠ i) → oi.apart ops oj = true) →
      i ∈ Region.ready .any ops listed → YieldsIf P ops (fun _ => True) oi v a →
      wpAnyT P ops Q S T fuel (listed.setIfInBounds i true) (a.put oi.dst v) w → wpAnyT P ops Q S T (fuel + 1) listed a w := by
  intro fuel
  induction fuel with
  | zero =>
    intro listed a w _ hr hy hH
    unfold wpAnyT
    refine ⟨fun h => (by rw [h] at hr; cases hr), fun j hj => ?_⟩
    by_cases hji : j = i
    · subst hji; exact hy.wpOp hi trivial ⟨fun _ h => h, hH⟩
    · have h9 := ready_mono hj hji
      rw [hH.1] at h9; cases h9
  | succ fuel ih =>
    intro listed a w hfree hr hy hH
    unfold wpAnyT
    refine ⟨fun h => (by rw [h] at hr; cases hr), fun j hj => ?_⟩
    by_cases hji : j = i
    · subst hji; exact hy.wpOp hi trivial ⟨fun _ h => h, hH⟩
    · have hi0 := (mem_ready.1 hr).1
      obtain ⟨hj0, oj, hoj, hall⟩ := mem_ready.1 hj
      have hnot : ∀ e ∈ oj.after, Region.binds .any e = true → e.on ≠ i := fun e he hb heq => getD_ft hi0 (heq ▸ hall e he hb)
      have hstep := wpOp_putIf hoj (hfree j oj hoj hji hj0 hnot) (fun cs b => hsel i oi cs b hi) (fun cs b => hsel j oj cs b hoj) hQ hy (hH.2 j (ready_mono hj hji))
      have hi1 : i ∈ Region.ready .any ops (listed.setIfInBounds j true) := ready_mono hr (Ne.symm hji)
      refine wpOp_mono ?_ hstep
      rintro a' w' ⟨hy', hS', hK⟩
      have hfree' : ∀ k ok, ops[k]? = some ok → k ≠ i → (listed.setIfInBounds j true).getD k true = false → (∀ e ∈ ok.after, Region.binds .any e = true → e.on ≠ i) → oi.apart ops ok = true := by
        intro k ok hk hki hun hno
        refine hfree k ok hk hki ?_ hno
        by_cases hjk : j = k
        · subst hjk; exact hj0
        · rwa [getD_set_ne true hjk] at hun
      refine ⟨hS', ih (listed.setIfInBounds j true) a' w' hfree' hi1 hy' ?_⟩
      rw [← Array.setIfInBounds_comm _ _ (Ne.symm hji)]; exact hK
end
section
variable {P : Program} {E : Env} {n : Nat} {L L' : List (Nat × Value)} {F F' : PH} {H H' Hs : List Chunk} {K : Act → World → Prop} {Q : Exit → Act → World → Prop} {ops : Array Oper} {rest : List Oper} {T : List Nat} {fuel : Nat} {listed : Array Bool}
def Calm (Q : Exit → Act → World → Prop) : Prop := ∀ c a w, Q (.panic c) a w → False
/-- The pieces Hs are among the pieces H. -/
def Among (E : Env) (F : PH) (Hs : List Chunk) (F' : PH) (H : List Chunk) : Prop := ∀ w, Sat E F' H w → Sat E F Hs w
theorem Among.refl : Among E F H F H := fun _ h => h
theorem Sat.lower {w : World} (h : Sat E F' H w) (hle : PH.le F F') (hold : PH.le E.F0 F) : Sat E F H w :=
  ⟨h.os, h.tape, h.output, h.size, h.same, fun b o e => h.frz b o (hle b o e), fun b o e => h.grow b o (hle b o e), hold,
    let ⟨m, h1, h2, h3, h4⟩ := h.mem; ⟨m, h1, h2, PH.disj_mono_right h3 hle, h4⟩⟩
theorem Among.drop {c : Chunk} (h : Among E F Hs F' H) : Among E F Hs F' (c :: H) := fun w hs => h w hs.weaken
theorem Among.perm (hp : H.Perm H') (h : Among E F Hs F' H') : Among E F Hs F' H := fun w hs => h w (hs.perm hp)
theorem Among.take (i : Nat) {c : Chunk} {R : List Chunk} (hi : H[i]? = some c) (hR : H.eraseIdx i = R) (h : ∀ m, Sep R m → ∃ m', Sep Hs m' ∧ PH.le m' m) : ∀ m, Sep H m → ∃ m', Sep (c :: Hs) m' ∧ PH.le m' m := by
  intro m hm
  subst hR
  obtain ⟨m1, m2, h1, h2, h12, rfl⟩ := Sep.perm (perm_erase i hi) hm
  obtain ⟨m', g1, g2⟩ := h m2 h2
  exact ⟨PH.un m1 m', ⟨m1, m', h1, g1, PH.disj_mono_right h12 g2, rfl⟩, PH.un_le (PH.le_un_left _ _) (PH.le_trans g2 (PH.le_un_right h12))⟩
theorem Among.none : ∀ m, Sep H m → ∃ m', Sep [] m' ∧ PH.le m' m := fun m _ => ⟨PH.emp, fun _ => rfl, fun _ _ e => by unfold PH.emp at e; cases e⟩
theorem Among.of (h : ∀ m, Sep H m → ∃ m', Sep Hs m' ∧ PH.le m' m) : Among E F Hs F H := fun w hs => by
  obtain ⟨m, h1, h2, h3, h4⟩ := hs.mem
  obtain ⟨m', g1, g2⟩ := h m h1
  exact hs.mk' ⟨m', g1, fun b o e => h2 b o (g2 b o e), PH.disj_mono h3 g2, fun b o e => h4 b o (g2 b o e)⟩
theorem Among.of_le (hle : PH.le F F') (hold : PH.le E.F0 F) (h : ∀ m, Sep H m → ∃ m', Sep Hs m' ∧ PH.le m' m) : Among E F Hs F' H := fun w hs => Among.of h w (hs.lower hle hold)

/-- The region's state. -/
def StD (P : Program) (ops : Array Oper) (Q : Exit → Act → World → Prop) (T : List Nat) (Fs : PH) (Hs : List Chunk) (fuel : Nat) (listed : Array Bool) (E : Env) (n : Nat) (L : List (Nat × Value)) (F : PH) (H : List Chunk) : Prop :=
  St (fun a w => Closed ops listed → wpAnyT P ops Q (Sat E Fs Hs) T fuel listed a w) E n L F H
theorem StD.start {id : Nat} {l : List Oper} (T : List Nat) (Hs : List Chunk) (hm : P.follows .mixedOrders = true) (h : StD P l.toArray Q T F Hs l.length (List.replicate l.length false).toArray E n L F H) : St ((Code.region id l.toArray true).wp P Q) E n L F H := fun a w ha hs =>
  wp_region_any hm (wpAny_of_T _ _ _ _ (by
    have h1 := h a w.drew ha hs.drew
    rw [← List.toArray_replicate] at *
    simpa using h1 (by rw [List.toArray_replicate]; exact Closed.start _ _)))
variable {Fs : PH}
theorem StD.take (U : List Nat) {i : Nat} {oi : Oper} {d : Nat} {v : Value} (hi : ops[i]? = some oi) (hy : Yields P E n L Fs Hs oi v) (hd : oi.dst = some d) (hdn : Nat.blt d n = true) (hw : Wanted ops oi L) (ham : Among E Fs Hs F H) (hc : Calm Q)
    (hcheck : (!T.contains i && !U.contains i && tailOk ops T U && Region.noSelect ops && Region.free .any ops listed i && (Region.ready .any ops listed).contains i) = true)
    {listed' : Array Bool} (hl : listed.setIfInBounds i true = listed')
    (h : StD P ops Q T Fs Hs fuel listed' E n ((d, v) :: L) F H) : StD P ops Q T Fs Hs (fuel + 1) listed E n L F H := fun a w ha hs hcl => by
  subst hl
  simp only [Bool.and_eq_true, Bool.not_eq_true'] at hcheck
  obtain ⟨⟨⟨⟨⟨h1, h0⟩, h2⟩, h3⟩, h4⟩, h5⟩ := hcheck
  have hr : i ∈ Region.ready .any ops listed := by simpa using h5
  refine wpAnyT_first hi h1 h0 h2 (Region.noSelect_spec h3) (fun c a w e => (hc _ _ _ e).elim) fuel listed a w hcl (Region.free_spec hi h4) hr (.inl ⟨hw.holds ha, fun w' hs' => hy a w' ha hs'⟩) (ham w hs) ?_
  rw [hd]
  exact h _ w (ha.put hdn) hs (hcl.set hr)
theorem sat_any (w : World) : Sat ⟨w, fun _ => False, PH.emp⟩ PH.emp [] w := ⟨rfl, rfl, rfl, Nat.le_refl _, fun _ _ _ => rfl, fun _ _ e => (nomatch e), fun _ _ e => (nomatch e), PH.le_refl _, PH.emp, fun _ => rfl, fun _ _ e => (nomatch e), fun _ _ e => (nomatch e), fun _ _ e => (nomatch e)⟩
theorem StD.takeP {i : Nat} {oi : Oper} {d : Nat} {v : Value} (hi : ops[i]? = some oi) (hy : ∀ E, Yields P E n L PH.emp [] oi v) (hd : oi.dst = some d) (hdn : Nat.blt d n = true) (hw : Wanted ops oi L) (hc : Calm Q)
    (hcheck : (Region.noSelect ops && Region.free .any ops listed i && (Region.ready .any ops listed).contains i) = true)
    {listed' : Array Bool} (hl : listed.setIfInBounds i true = listed')
    (h : StD P ops Q T Fs Hs fuel listed' E n ((d, v) :: L) F H) : StD P ops Q T Fs Hs (fuel + 1) listed E n L F H := fun a w ha hs hcl => by
  subst hl
  simp only [Bool.and_eq_true] at hcheck
  obtain ⟨⟨h3, h4⟩, h5⟩ := hcheck
  have hr : i ∈ Region.ready .any ops listed := by simpa using h5
  refine wpAnyT_firstP hi (Region.noSelect_spec h3) (fun c a w e => (hc _ _ _ e).elim) fuel listed a w (Region.free_spec hi h4) hr (.inl ⟨hw.holds ha, fun w' _ => hy _ a w' ha (sat_any w')⟩) ?_
  rw [hd]
  exact h _ w (ha.put hdn) hs (hcl.set hr)
theorem StD.takeNot {i : Nat} {oi : Oper} {d : Nat} (hi : ops[i]? = some oi) (hu : Unwanted ops oi L) (hd : oi.dst = some d) (hdn : Nat.blt d n = true) (hc : Calm Q)
    (hcheck : (Region.noSelect ops && Region.free .any ops listed i && (Region.ready .any ops listed).contains i) = true)
    {listed' : Array Bool} (hl : listed.setIfInBounds i true = listed')
    (h : StD P ops Q T Fs Hs fuel listed' E n ((d, undef) :: L) F H) : StD P ops Q T Fs Hs (fuel + 1) listed E n L F H := fun a w ha hs hcl => by
  subst hl
  simp only [Bool.and_eq_true] at hcheck
  obtain ⟨⟨h3, h4⟩, h5⟩ := hcheck
  have hr : i ∈ Region.ready .any ops listed := by simpa using h5
  refine wpAnyT_firstP hi (Region.noSelect_spec h3) (fun c a w e => (hc _ _ _ e).elim) fuel listed a w (Region.free_spec hi h4) hr (.inr ⟨hu.holds ha, rfl⟩) ?_
  rw [hd]
  exact h _ w (ha.put hdn) hs (hcl.set hr)
/-- Just one operation may come up: it is walked as if it stood alone. -/
theorem StD.only {i : Nat} {oi : Oper} (hi : ops[i]? = some oi) (hr : Region.ready .any ops listed = [i]) {listed' : Array Bool} (hl : listed.setIfInBounds i true = listed')
    (h : Closed ops listed' → St (wpList P ops (Exit.then (fun a w => (T.contains i = false → Sat E Fs Hs w) ∧ wpAnyT P ops Q (Sat E Fs Hs) T fuel listed' a w) Q) [oi]) E n L F H) : StD P ops Q T Fs Hs (fuel + 1) listed E n L F H := fun a w ha hs hcl => by
  subst hl
  have hri : i ∈ Region.ready .any ops listed := by rw [hr]; simp
  unfold wpAnyT
  refine ⟨fun h0 => (by rw [hr] at h0; cases h0), fun j hj => ?_⟩
  rw [hr] at hj
  have : j = i := by simpa using hj
  subst this
  have h1 := h (hcl.set hri) a w ha hs
  refine wpOp_mono (fun a' w' h => ⟨fun hT _ => h.1 hT, h.2⟩) (?_ : wpOp P ops Q j (fun a w => (T.contains j = false → Sat E Fs Hs w) ∧ wpAnyT P ops Q (Sat E Fs Hs) T fuel (listed.setIfInBounds j true) a w) a w)
  unfold wpOp
  simp only [hi]
  unfold wpList at h1
  split
  · rename_i hw
    rw [if_pos hw] at h1
    rcases h1 with h1 | h1
    · left
      unfold Oper.wp at *
      generalize (execOp a.eval oi).run P w = r at *
      cases r with
      | ok nx w' =>
        cases nx <;> simp only [Oper.upon] at h1 ⊢ <;> first
          | exact h1
          | exact Calls.mono h1 (fun e w'' he => by cases e <;> first | exact he | (obtain ⟨a, w, q⟩ := he; exact ⟨a, w, q⟩))
          | exact Rows.mono h1 (fun _ _ he => he)
      | halt x w' => cases x <;> simp only [Oper.upon] at h1 ⊢ <;> exact h1
    · right
      obtain ⟨h1, a', w', q⟩ := h1
      exact ⟨h1, a', w', q⟩
  · rename_i hw
    rw [if_neg hw] at h1
    exact h1
theorem StD.next {i : Nat} {listed' : Array Bool} (hcl : Closed ops listed') (ham : T.contains i = false → Among E Fs Hs F H) (h : StD P ops Q T Fs Hs fuel listed' E n L F H) :
    St (wpList P ops (Exit.then (fun a w => (T.contains i = false → Sat E Fs Hs w) ∧ wpAnyT P ops Q (Sat E Fs Hs) T fuel listed' a w) Q) []) E n L F H := fun a w ha hs =>
  wpList_nil (show (_ ∧ _) from ⟨fun hT => ham hT w hs, h a w ha hs hcl⟩)
theorem StD.done (hr : Region.ready .any ops listed = []) (h : St (fun a w => Q .normal a w) E n L F H) : StD P ops Q T Fs Hs fuel listed E n L F H := fun a w ha hs _ => by
  cases fuel with
  | zero => exact ⟨hr, h a w ha hs⟩
  | succ fuel =>
    unfold wpAnyT
    exact ⟨fun _ => h a w ha hs, fun i hi => by rw [hr] at hi; cases hi⟩
end
end Go.Sy
