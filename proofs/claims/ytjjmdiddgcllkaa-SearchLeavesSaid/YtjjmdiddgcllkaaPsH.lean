/- What the document's Leaves and Places give, in plain words. -/
import Derived.Test.YtjjmdiddgcllkaaPsG
namespace Go.Proofs.Ytjjmdiddgcllkaa
open Go Go.Mir
set_option linter.unusedVariables false
theorem m_at (g : Nat) {t x : DSTree} {p : List Int} (h : atF t p = some x) : m_ref13_at g t p = some x := by
  unfold m_ref13_at
  rw [Loop_list (fun (a : Int × List DSTree) i => (a.1, a.2, i)) p (fun a r q => ∃ y, atF ⟨a.1, a.2⟩ r = some y ∧ q = (y.N, y.Kids)) (q := (x.N, x.Kids)) ?_ ?_ (a := (t.N, t.Kids)) ⟨x, by rw [eta]; exact h, rfl⟩]
  · rw [Option.bind_some, eta]
  · rintro ⟨n, ks⟩ q ⟨y, h1, rfl⟩
    cases h1
    rw [if_neg (by simp)]
  · rintro ⟨n, ks⟩ i k r q hx hi _ ⟨y, h1, rfl⟩
    right
    rw [atF] at h1
    obtain ⟨z, hz, h2⟩ := Option.bind_eq_some_iff.1 h1
    refine ⟨(z.N, z.Kids), ?_, y, by rw [eta]; exact h2, rfl⟩
    dsimp only at hz ⊢
    rw [if_pos (by omega), hx, Option.bind_some, hz]; rfl
theorem m_Kid (g : Nat) {p : List Int} {k : Int} (h : p.length ≤ 100) : m_ref13_Kid g p k = some (p ++ [k]) := by
  unfold m_ref13_Kid
  rw [push_small 1000 (by simp; omega) (by decide), Option.bind_some, push_small 1000 (by simp; omega) (by decide)]; rfl
theorem m_Put (g : Nat) {p : List Int} {how : Int} {w : List (List Int)} (h : w.length ≤ 10000) : m_ref13_Waiting_Put g p how w = some (w ++ [p]) := by
  unfold m_ref13_Waiting_Put
  rw [push_small 100000 (by simp; omega) (by decide)]; rfl
/-- The list without its place z, from number i on. -/
def rmF {α : Type} (z : Nat) : Nat → List α → List α
  | _, [] => []
  | i, x :: r => if i = z then rmF z (i + 1) r else x :: rmF z (i + 1) r
theorem rmF_past {α : Type} {z : Nat} : ∀ {i : Nat} {l : List α}, z < i → rmF z i l = l
  | _, [], _ => rfl
  | i, x :: r, h => by rw [rmF, if_neg (by omega), rmF_past (by omega)]
theorem rmF_eq {α : Type} {z : Nat} : ∀ {i : Nat} {l : List α}, i ≤ z → rmF z i l = l.eraseIdx (z - i)
  | _, [], _ => rfl
  | i, x :: r, h => by
    rw [rmF]
    by_cases e : i = z
    · rw [if_pos e, rmF_past (by omega), show z - i = 0 by omega, List.eraseIdx_cons_zero]
    · rw [if_neg e, rmF_eq (by omega), show z - i = (z - (i + 1)) + 1 by omega, List.eraseIdx_cons_succ]
theorem perm_erase {α : Type} {w : List α} {z : Nat} (h : z < w.length) : w.Perm (w[z] :: w.eraseIdx z) := by
  have e : w = w.take z ++ w[z] :: w.drop (z + 1) := by rw [← List.drop_eq_getElem_cons h, List.take_append_drop]
  rw [List.eraseIdx_eq_take_drop_succ]
  exact (List.Perm.of_eq e).trans List.perm_middle
theorem map_erase {α β : Type} (f : α → β) (w : List α) (z : Nat) : (w.map f).eraseIdx z = (w.eraseIdx z).map f := by
  rw [List.eraseIdx_eq_take_drop_succ, List.eraseIdx_eq_take_drop_succ, List.map_append, List.map_take, List.map_drop]
theorem m_rest (z : Nat) {w : List (List Int)} (hw : w.length ≤ 10000) : Mir.Loop (S := List (List Int) × Nat) (Q := List (List Int)) (([] : List (List Int)), (0 : Nat)) (fun s81 =>
      if ((s81.2 : Nat) : Int) < ((w.length : Nat) : Int) then
        (
          if ((s81.2 : Nat) : Int) = ((z : Nat) : Int) then
            some s81.1
          else
            ((w)[s81.2]?).bind fun x102 =>
            (Mir.push 24 s81.1 [x102]).bind fun x118 =>
            some x118
        : Option (List (List Int))).bind fun (z93 : List (List Int)) =>
        some (.inl (z93, s81.2 + 1))
      else
        some (.inr s81.1)) = some (w.eraseIdx z) := by
  refine Loop_rel (fun s q => s.2 ≤ w.length ∧ s.1.length ≤ s.2 ∧ q = s.1 ++ rmF z s.2 (w.drop s.2)) (fun s => w.length - s.2) ?_ ⟨Nat.zero_le _, Nat.le_refl _, by rw [List.drop_zero, rmF_eq (Nat.zero_le _)]; rfl⟩
  rintro ⟨a, i⟩ q ⟨hi, ha, rfl⟩
  dsimp only at hi ha ⊢
  by_cases h : i < w.length
  · right
    have hx := List.getElem?_eq_getElem h
    rw [if_pos (by omega), drop_at hx, rmF]
    by_cases e : i = z
    · refine ⟨(a, i + 1), by rw [if_pos (by omega)]; rfl, ⟨by dsimp only; omega, by dsimp only; omega, by dsimp only; rw [if_pos e]⟩, by dsimp only; omega⟩
    · refine ⟨(a ++ [w[i]], i + 1), ?_, ⟨by dsimp only; omega, by simp; omega, by dsimp only; rw [if_neg e]; simp⟩, by dsimp only; omega⟩
      rw [if_neg (by omega), hx, Option.bind_some, push_small 100000 (by simp; omega) (by decide)]; rfl
  · left
    rw [if_neg (by omega), List.drop_of_length_le (by omega), rmF, List.append_nil]
theorem m_Take (g : Nat) {how : Int} (hh : how ≠ 4) {w : List (List Int)} (hw : w.length ≤ 10000) (h0 : 0 < w.length) (hl : ∀ p ∈ w, p.length ≤ 1000) :
    ∃ z x, w[z]? = some x ∧ m_ref13_Waiting_Take g how w = some (x, w.eraseIdx z) ∧ ∀ y ∈ w, ahd how y x = false := by
  unfold m_ref13_Waiting_Take
  obtain ⟨z, hz, h1, h2⟩ := Loop_ex (Q := Nat) (body := fun s10 : Nat × Nat =>
        if ((s10.2 : Nat) : Int) < ((w.length : Nat) : Int) then
          (
            ((w)[s10.2]?).bind fun x21 =>
            ((w)[s10.1]?).bind fun x33 =>
            (m_ref13_Ahead g how x21 x33).bind fun q45 =>
            if q45 = true then
              some s10.2
            else
              some s10.1
          : Option Nat).bind fun (z17 : Nat) =>
          some (.inl (z17, s10.2 + 1))
        else
          some (.inr s10.1))
    (fun s => s.1 < w.length ∧ 1 ≤ s.2 ∧ s.2 ≤ w.length ∧ ∀ k (hk : k < s.2) (hkw : k < w.length) (h1 : s.1 < w.length), ahd how w[k] w[s.1] = false)
    (fun z => z < w.length ∧ ∀ k (hkw : k < w.length) (h1 : z < w.length), ahd how w[k] w[z] = false) (fun s => w.length - s.2) (by
      rintro ⟨a, i⟩ ⟨h1, h2, h3, h4⟩
      dsimp only at h1 h2 h3 h4 ⊢
      by_cases h : i < w.length
      · right
        rw [if_pos (by omega), List.getElem?_eq_getElem h, Option.bind_some, List.getElem?_eq_getElem h1, Option.bind_some, m_Ahead g (by have := hl _ (List.getElem_mem h); omega), Option.bind_some]
        cases e : ahd how w[i] w[a]
        · refine ⟨(a, i + 1), rfl, ⟨h1, by dsimp only; omega, by dsimp only; omega, fun k hk hkw h5 => ?_⟩, by dsimp only; omega⟩
          dsimp only at hk h5 ⊢
          by_cases e2 : k = i
          · subst e2; exact e
          · exact h4 k (by omega) hkw h5
        · refine ⟨(i, i + 1), rfl, ⟨h, by dsimp only; omega, by dsimp only; omega, fun k hk hkw h5 => ?_⟩, by dsimp only; omega⟩
          dsimp only at hk h5 ⊢
          by_cases e2 : k = i
          · subst e2; exact ahd_irr _ _
          · cases e3 : ahd how w[k] w[i]
            · rfl
            · have := ahd_trans e3 e
              rw [h4 k (by omega) hkw h1] at this; cases this
      · left
        rw [if_neg (by omega)]
        exact ⟨a, rfl, h1, fun k hkw h5 => h4 k (by omega) hkw h5⟩) (s := (0, 1)) ⟨h0, Nat.le_refl _, h0, fun k hk hkw h5 => by
          have hk : k < 1 := hk
          obtain rfl : k = 0 := by omega
          exact ahd_irr _ _⟩
  refine ⟨z, w[z], List.getElem?_eq_getElem h1, ?_, fun y hy => ?_⟩
  · rw [if_neg hh, hz, Option.bind_some, List.getElem?_eq_getElem h1, Option.bind_some, m_rest z hw]; rfl
  · obtain ⟨k, hk, rfl⟩ := List.mem_iff_getElem.1 hy
    exact h2 k hk h1
theorem m_Take4 (g : Nat) {x : List Int} {w : List (List Int)} (hw : (x :: w).length ≤ 10000) : m_ref13_Waiting_Take g 4 (x :: w) = some (x, w) := by
  unfold m_ref13_Waiting_Take
  rw [if_pos rfl, Option.bind_some, List.getElem?_cons_zero, Option.bind_some, m_rest 0 hw]; rfl
theorem vP_none {e : PT} (h : e.2.Kids.length ≠ 0) : vP e = [] := by unfold vP; rw [if_neg h]
theorem vP_one {e : PT} (h : e.2.Kids.length = 0) : vP e = [e.1] := by unfold vP; rw [if_pos h]
/-- Kids are put behind those that wait. -/
theorem m_puts (g : Nat) {how : Int} {e : PT} {w : List (List Int)} {k0 : Nat} (hp : e.1.length ≤ 100) (hw : w.length + e.2.Kids.length ≤ 10000) :
    Mir.Loop (S := List (List Int) × Nat) (Q := List (List Int)) (w, k0) (fun s136 =>
      if ((s136.2 : Nat) : Int) < ((e.2.Kids.length : Nat) : Int) then
        (m_ref13_Kid g e.1 ((s136.2 : Nat) : Int)).bind fun q149 =>
        (m_ref13_Waiting_Put g q149 how s136.1).bind fun q157 =>
        some (.inl (q157, s136.2 + 1))
      else
        some (.inr s136.1)) = some (w ++ ((kids e).drop k0).map (·.1)) := by
  refine Loop_rel (fun s q => s.1.length ≤ w.length + s.2 ∧ q = s.1 ++ ((kids e).drop s.2).map (·.1)) (fun s => e.2.Kids.length - s.2) ?_ ⟨by dsimp only; omega, rfl⟩
  rintro ⟨a, i⟩ q ⟨hi, rfl⟩
  dsimp only at hi ⊢
  have hkl : (kids e).length = e.2.Kids.length := kidsL_len _ _ _
  by_cases h : i < e.2.Kids.length
  · right
    have hx := List.getElem?_eq_getElem h
    have hk : (kids e)[i]? = some (e.1 ++ [(i : Int)], e.2.Kids[i]) := by rw [kids_get, hx]; rfl
    rw [if_pos (by omega), m_Kid g hp, Option.bind_some, m_Put g (by omega), Option.bind_some]
    exact ⟨_, rfl, ⟨by simp; omega, by dsimp only; rw [drop_at hk]; simp⟩, by dsimp only; omega⟩
  · left
    rw [if_neg (by omega), List.drop_of_length_le (by omega)]; simp
theorem m_places (g : Nat) {how : Int} {t : DSTree} (hc : cnt t ≤ 400) (hh : hgt t ≤ 40) : ∃ l, Taken how t l ∧ m_ref13_places g t how = some (l.flatMap vP) := by
  unfold m_ref13_places Taken
  by_cases h4 : how = 4
  · subst h4
    simp only [if_true, Option.bind_some]
    have inner : ∀ (out : List (List Int)) (w : List PT) (e : PT), Low (e :: w) → out.length + wt (e :: w) ≤ 400 → (∀ x ∈ e :: w, atF t x.1 = some x.2) →
        ∃ z, Mir.Loop (S := List (List Int) × List Int) (Q := (List (List Int) × List (List Int)) ⊕ (List (List Int))) (w.map (·.1), e.1) (fun s78 =>
          (m_ref13_at g t s78.2).bind fun q94 =>
          if ((q94.Kids.length : Nat) : Int) = 0 then
            (Mir.push 24 out [s78.2]).bind fun x109 =>
            some (.inr (.inl (s78.1, x109)))
          else
            (
              Mir.Loop (S := List (List Int) × Nat) (Q := List (List Int)) (s78.1, 1) fun s136 =>
                if ((s136.2 : Nat) : Int) < ((q94.Kids.length : Nat) : Int) then
                  (m_ref13_Kid g s78.2 ((s136.2 : Nat) : Int)).bind fun q149 =>
                  (m_ref13_Waiting_Put g q149 4 s136.1).bind fun q157 =>
                  some (.inl (q157, s136.2 + 1))
                else
                  some (.inr s136.1)
            : Option (List (List Int))).bind fun (z117 : List (List Int)) =>
              (m_ref13_Kid g s78.2 0).bind fun q170 =>
              some (.inl (z117, q170))) = some (.inl z) ∧
        ∃ (vis w' : List PT), z.1 = w'.map (·.1) ∧ z.2 = out ++ vis.flatMap vP ∧ (∀ l, FOrd w' l → FOrd (e :: w) (vis ++ l)) ∧ Low w' ∧ z.2.length + wt w' ≤ 400 ∧ wt w' < wt (e :: w) ∧ ∀ x ∈ w', atF t x.1 = some x.2 := by
      intro out w e hL hA hat
      obtain ⟨zz, hz, z, rfl, k⟩ := Loop_ex (Q := (List (List Int) × List (List Int)) ⊕ (List (List Int))) (body := fun s78 : List (List Int) × List Int =>
          (m_ref13_at g t s78.2).bind fun q94 =>
          if ((q94.Kids.length : Nat) : Int) = 0 then
            (Mir.push 24 out [s78.2]).bind fun x109 =>
            some (.inr (.inl (s78.1, x109)))
          else
            (
              Mir.Loop (S := List (List Int) × Nat) (Q := List (List Int)) (s78.1, 1) fun s136 =>
                if ((s136.2 : Nat) : Int) < ((q94.Kids.length : Nat) : Int) then
                  (m_ref13_Kid g s78.2 ((s136.2 : Nat) : Int)).bind fun q149 =>
                  (m_ref13_Waiting_Put g q149 4 s136.1).bind fun q157 =>
                  some (.inl (q157, s136.2 + 1))
                else
                  some (.inr s136.1)
            : Option (List (List Int))).bind fun (z117 : List (List Int)) =>
              (m_ref13_Kid g s78.2 0).bind fun q170 =>
              some (.inl (z117, q170)))
        (fun s => ∃ (vis w1 : List PT) (e1 : PT), s.1 = w1.map (·.1) ∧ s.2 = e1.1 ∧ vis.flatMap vP = [] ∧ (∀ l, FOrd (e1 :: w1) l → FOrd (e :: w) (vis ++ l)) ∧ Low (e1 :: w1) ∧ out.length + wt (e1 :: w1) ≤ 400 ∧ wt (e1 :: w1) ≤ wt (e :: w) ∧ ∀ x ∈ e1 :: w1, atF t x.1 = some x.2)
        (fun zz => ∃ z, zz = .inl z ∧ ∃ (vis w' : List PT), z.1 = w'.map (·.1) ∧ z.2 = out ++ vis.flatMap vP ∧ (∀ l, FOrd w' l → FOrd (e :: w) (vis ++ l)) ∧ Low w' ∧ z.2.length + wt w' ≤ 400 ∧ wt w' < wt (e :: w) ∧ ∀ x ∈ w', atF t x.1 = some x.2)
        (fun s => match atF t s.2 with | some x => cnt x | none => 0) (by
          rintro ⟨_, _⟩ ⟨vis, w1, e1, rfl, rfl, h1, h2, h3, h4, h5, h6⟩
          dsimp only
          have he1 := h6 e1 List.mem_cons_self
          rw [m_at g he1, Option.bind_some]
          have hpl := h3.2 _ List.mem_cons_self
          have hw1 := h3.1
          have hcx := cnt_pos e1.2
          rw [wt_cons] at hw1
          have hlr := len_wt w1
          have hkl : (kids e1).length = e1.2.Kids.length := kidsL_len _ _ _
          have hwk := wt_kids e1
          have hlk := len_wt (kids e1)
          obtain ⟨hLa, hwa⟩ := h3.after
          have hta : ∀ x ∈ after e1 w1, atF t x.1 = some x.2 := fun x hx => by
            rcases List.mem_append.1 ((after_perm e1 w1).mem_iff.1 hx) with hx | hx
            · exact h6 x (List.mem_cons_of_mem _ hx)
            · exact atF_kids he1 x hx
          by_cases hn : e1.2.Kids.length = 0
          · left
            have hk0 : kids e1 = [] := List.eq_nil_of_length_eq_zero (by omega)
            have haft : after e1 w1 = w1 := by unfold after; rw [hk0]
            rw [haft] at hLa hwa hta
            refine ⟨_, by rw [if_pos (by omega), push_small 100000 (by simp; omega) (by decide)]; rfl, _, rfl, vis ++ [e1], w1, rfl, ?_, fun l hl => ?_, hLa, ?_, ?_, hta⟩
            · dsimp only; rw [List.flatMap_append, h1, List.flatMap_cons, vP_one hn]; simp
            · rw [List.append_assoc]
              refine h2 _ (.step ?_)
              rw [haft]; exact hl
            · simp; omega
            · omega
          · right
            rw [if_neg (by omega), m_puts g (by omega) (by simp; omega), Option.bind_some, m_Kid g (by omega), Option.bind_some]
            have h0 : 0 < e1.2.Kids.length := by omega
            have hx := List.getElem?_eq_getElem h0
            have hk : (kids e1)[0]? = some (e1.1 ++ [((0 : Nat) : Int)], e1.2.Kids[0]) := by rw [kids_get, hx]; rfl
            have hkc := drop_at hk
            rw [List.drop_zero, Nat.zero_add] at hkc
            have haft : after e1 w1 = (e1.1 ++ [(0 : Int)], e1.2.Kids[0]) :: (w1 ++ (kids e1).drop 1) := by unfold after; rw [hkc]; rfl
            rw [haft] at hLa hwa hta
            refine ⟨_, rfl, ⟨vis ++ [e1], w1 ++ (kids e1).drop 1, (e1.1 ++ [(0 : Int)], e1.2.Kids[0]), by simp, rfl, by rw [List.flatMap_append, h1, List.flatMap_cons, vP_none hn]; rfl, fun l hl => ?_, hLa, by omega, by omega, hta⟩, ?_⟩
            · rw [List.append_assoc]
              refine h2 _ (.step ?_)
              rw [haft]; exact hl
            · dsimp only
              have := hta _ List.mem_cons_self
              dsimp only at this
              rw [this, he1]
              dsimp only
              have h7 := wt_cons (e1.1 ++ [(0 : Int)], e1.2.Kids[0]) (w1 ++ (kids e1).drop 1)
              dsimp only at h7
              have h8 : wt (w1 ++ (kids e1).drop 1) ≥ wt w1 := by rw [wt_append]; omega
              have h9 := wt_cons e1 w1
              omega) (s := (w.map (·.1), e.1)) ⟨[], w, e, rfl, rfl, rfl, fun l hl => hl, hL, hA, Nat.le_refl _, hat⟩
      exact ⟨z, hz, k⟩
    obtain ⟨q, hq, l, h1, rfl⟩ := Loop_ex (Q := List (List Int)) (body := fun s31 : List (List Int) × List (List Int) =>
      if ((s31.1.length : Nat) : Int) > 0 then
        (m_ref13_Waiting_Take g 4 s31.1).bind fun q51 =>
        Mir.Loop (S := List (List Int) × List Int) (Q := (List (List Int) × List (List Int)) ⊕ (List (List Int))) (q51.2, q51.1) fun s78 =>
          (m_ref13_at g t s78.2).bind fun q94 =>
          if ((q94.Kids.length : Nat) : Int) = 0 then
            (Mir.push 24 s31.2 [s78.2]).bind fun x109 =>
            some (.inr (.inl (s78.1, x109)))
          else
            (
              Mir.Loop (S := List (List Int) × Nat) (Q := List (List Int)) (s78.1, 1) fun s136 =>
                if ((s136.2 : Nat) : Int) < ((q94.Kids.length : Nat) : Int) then
                  (m_ref13_Kid g s78.2 ((s136.2 : Nat) : Int)).bind fun q149 =>
                  (m_ref13_Waiting_Put g q149 4 s136.1).bind fun q157 =>
                  some (.inl (q157, s136.2 + 1))
                else
                  some (.inr s136.1)
            : Option (List (List Int))).bind fun (z117 : List (List Int)) =>
              (m_ref13_Kid g s78.2 0).bind fun q170 =>
              some (.inl (z117, q170))
      else
        some (.inr s31.2))
      (fun s => ∃ vis w : List PT, s.1 = w.map (·.1) ∧ s.2 = vis.flatMap vP ∧ (∀ l, FOrd w l → FOrd [([], t)] (vis ++ l)) ∧ Low w ∧ s.2.length + wt w ≤ 400 ∧ ∀ x ∈ w, atF t x.1 = some x.2)
      (fun q => ∃ l, FOrd [([], t)] l ∧ q = l.flatMap vP) (fun s => wt ((s.1.map fun p => (p, (atF t p).getD t)))) (by
        rintro ⟨_, out⟩ ⟨vis, w, rfl, h1, h2, h3, h4, h5⟩
        dsimp only at h1 h4 ⊢
        have hmap : ∀ w : List PT, (∀ x ∈ w, atF t x.1 = some x.2) → ((w.map (·.1)).map fun p => (p, (atF t p).getD t)) = w := by
          intro w hw
          induction w with
          | nil => rfl
          | cons e w ih => rw [List.map_cons, List.map_cons, ih fun x hx => hw x (List.mem_cons_of_mem _ hx), hw e List.mem_cons_self]; rfl
        cases w with
        | nil =>
          left
          exact ⟨_, rfl, vis, by simpa using h2 [] .nil, h1⟩
        | cons e w =>
          right
          obtain ⟨z, k0, vis2, w', k1, k2, k3, k4, k5, k6, k7⟩ := inner out w e h3 h4 h5
          refine ⟨z, ?_, ⟨vis ++ vis2, w', k1, by rw [k2, h1, List.flatMap_append], fun l hl => by rw [List.append_assoc]; exact h2 _ (k3 l hl), k4, k5, k7⟩, ?_⟩
          · have := len_wt (e :: w)
            have := h3.1
            rw [if_pos (by simp only [List.map_cons, List.length_cons]; omega), List.map_cons, m_Take4 g (by simp at *; omega), Option.bind_some]
            exact k0
          · rw [hmap _ h5, k1, hmap _ k7]; exact k6) (s := ([[]], [])) ⟨[], [([], t)], rfl, rfl, fun l hl => hl, low_root hc hh, by rw [wt_root]; simp; omega, fun x hx => by rw [List.mem_singleton.1 hx]; rfl⟩
    refine ⟨l, h1, ?_⟩
    rw [hq]; rfl
  · simp only [if_neg h4, Option.bind_some]
    obtain ⟨q, hq, l, h1, rfl⟩ := Loop_ex (Q := List (List Int)) (body := fun s31 : List (List Int) × List (List Int) =>
      if ((s31.1.length : Nat) : Int) > 0 then
        (m_ref13_Waiting_Take g how s31.1).bind fun q51 =>
        Mir.Loop (S := List (List Int) × List Int) (Q := (List (List Int) × List (List Int)) ⊕ (List (List Int))) (q51.2, q51.1) fun s78 =>
          (m_ref13_at g t s78.2).bind fun q94 =>
          if ((q94.Kids.length : Nat) : Int) = 0 then
            (Mir.push 24 s31.2 [s78.2]).bind fun x109 =>
            some (.inr (.inl (s78.1, x109)))
          else
            (
              Mir.Loop (S := List (List Int) × Nat) (Q := List (List Int)) (s78.1, 0) fun s136 =>
                if ((s136.2 : Nat) : Int) < ((q94.Kids.length : Nat) : Int) then
                  (m_ref13_Kid g s78.2 ((s136.2 : Nat) : Int)).bind fun q149 =>
                  (m_ref13_Waiting_Put g q149 how s136.1).bind fun q157 =>
                  some (.inl (q157, s136.2 + 1))
                else
                  some (.inr s136.1)
            : Option (List (List Int))).bind fun (z117 : List (List Int)) =>
              some (.inr (.inl (z117, s31.2)))
      else
        some (.inr s31.2))
      (fun s => ∃ vis w : List PT, s.1 = w.map (·.1) ∧ s.2 = vis.flatMap vP ∧ (∀ l, Ord how w l → Ord how [([], t)] (vis ++ l)) ∧ Low w ∧ s.2.length + wt w ≤ 400 ∧ ∀ x ∈ w, atF t x.1 = some x.2)
      (fun q => ∃ l, Ord how [([], t)] l ∧ q = l.flatMap vP) (fun s => wt ((s.1.map fun p => (p, (atF t p).getD t)))) (by
        rintro ⟨_, out⟩ ⟨vis, w, rfl, h1, h2, h3, h5, h6⟩
        dsimp only at h1 h5 ⊢
        have hmap : ∀ w : List PT, (∀ x ∈ w, atF t x.1 = some x.2) → ((w.map (·.1)).map fun p => (p, (atF t p).getD t)) = w := by
          intro w hw
          induction w with
          | nil => rfl
          | cons e w ih => rw [List.map_cons, List.map_cons, ih fun x hx => hw x (List.mem_cons_of_mem _ hx), hw e List.mem_cons_self]; rfl
        by_cases hw : w.length = 0
        · left
          have hw : w = [] := List.eq_nil_of_length_eq_zero hw
          subst hw
          exact ⟨_, rfl, vis, by simpa using h2 [] .nil, h1⟩
        · right
          have hlr := len_wt w
          have hlow := h3.1
          obtain ⟨z, x, g1, g2, g3⟩ := m_Take g h4 (w := w.map (·.1)) (by rw [List.length_map]; omega) (by rw [List.length_map]; omega) (fun p hp => by
            obtain ⟨e, he, rfl⟩ := List.mem_map.1 hp
            have := h3.2 e he; omega)
          rw [List.getElem?_map] at g1
          obtain ⟨e, he, rfl⟩ := Option.map_eq_some_iff.1 g1
          obtain ⟨hzl, hze⟩ := List.getElem?_eq_some_iff.1 he
          have hp : w.Perm (e :: w.eraseIdx z) := by rw [← hze]; exact perm_erase hzl
          have hem : e ∈ w := hp.mem_iff.2 List.mem_cons_self
          have hate := h6 e hem
          have hL := h3.perm hp
          obtain ⟨hL1, hw1⟩ := hL.step
          have hww := wt_perm hp
          have hpl := h3.2 e hem
          have hw2 := wt_cons e (w.eraseIdx z)
          have hcx := cnt_pos e.2
          have hkl : (kids e).length = e.2.Kids.length := kidsL_len _ _ _
          have hwk := wt_kids e
          have hlk := len_wt (kids e)
          have hle := len_wt (w.eraseIdx z)
          have hat' : ∀ x ∈ w.eraseIdx z ++ kids e, atF t x.1 = some x.2 := fun x hx => by
            rcases List.mem_append.1 hx with hx | hx
            · exact h6 x (hp.mem_iff.2 (List.mem_cons_of_mem _ hx))
            · exact atF_kids hate x hx
          have hord : ∀ l, Ord how (w.eraseIdx z ++ kids e) l → Ord how [([], t)] (vis ++ [e] ++ l) := fun l hl => by
            rw [List.append_assoc]
            exact h2 _ (.step hp (fun y hy => g3 y.1 (List.mem_map.2 ⟨y, hy, rfl⟩)) hl)
          rw [if_pos (by rw [List.length_map]; omega), g2, Option.bind_some, map_erase]
          by_cases hn : e.2.Kids.length = 0
          · have hk0 : kids e = [] := List.eq_nil_of_length_eq_zero (by omega)
            rw [hk0, List.append_nil] at hL1 hw1 hat' hord
            refine ⟨((w.eraseIdx z).map (·.1), out ++ [e.1]), ?_, ⟨vis ++ [e], w.eraseIdx z, rfl, ?_, hord, hL1, ?_, hat'⟩, ?_⟩
            · refine Loop_inr ?_
              dsimp only
              rw [m_at g hate, Option.bind_some, if_pos (by omega), push_small 100000 (by simp; omega) (by decide)]; rfl
            · dsimp only; rw [List.flatMap_append, h1, List.flatMap_cons, vP_one hn]; simp
            · simp; omega
            · dsimp only; rw [hmap _ h6, hmap _ hat']; omega
          · refine ⟨((w.eraseIdx z ++ kids e).map (·.1), out), ?_, ⟨vis ++ [e], w.eraseIdx z ++ kids e, rfl, ?_, hord, hL1, by dsimp only; omega, hat'⟩, ?_⟩
            · refine Loop_inr ?_
              dsimp only
              rw [m_at g hate, Option.bind_some, if_neg (by omega), m_puts g (by omega) (by rw [List.length_map]; omega), Option.bind_some, List.drop_zero, List.map_append]
            · dsimp only; rw [List.flatMap_append, h1, List.flatMap_cons, vP_none hn]; simp
            · dsimp only; rw [hmap _ h6, hmap _ hat']; omega) (s := ([[]], [])) ⟨[], [([], t)], rfl, rfl, fun l hl => hl, low_root hc hh, by rw [wt_root]; simp; omega, fun x hx => by rw [List.mem_singleton.1 hx]; rfl⟩
    refine ⟨l, h1, ?_⟩
    rw [hq]; rfl
end Go.Proofs.Ytjjmdiddgcllkaa
