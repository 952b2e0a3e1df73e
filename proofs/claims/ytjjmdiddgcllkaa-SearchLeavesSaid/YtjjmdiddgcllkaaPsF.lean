/- The program's fair walk in plain words, and what its leaves and places are. -/
import Derived.Test.YtjjmdiddgcllkaaPsE
namespace Go.Proofs.Ytjjmdiddgcllkaa
open Go Go.Mir
set_option linter.unusedVariables false
noncomputable def fairG {B : Type} (ask : List Int → DSTree → List B → Option (Int × DSTree × Bool × List B)) (g : Nat) (a1 : List B) (row0 : List DPlace) : Option (Bool × List B) :=
  jx (J := List B) (A := Bool × List B) (
    Mir.Loop (S := List B × List DPlace) (Q := (List B) ⊕ (Bool × List B)) (a1, row0) fun s32 =>
      if ((s32.2.length : Nat) : Int) > 0 then
        ((s32.2)[0]?).bind fun x51 =>
        (Mir.sub s32.2 1 ((s32.2.length : Nat) : Int)).bind fun x68 =>
        Mir.Loop (S := List B × List DPlace × List Int × Int × Int × List DSTree) (Q := (List B × List DPlace) ⊕ ((List B) ⊕ (Bool × List B))) (s32.1, x68, x51.l, x51.rank, x51.x.N, x51.x.Kids) fun s105 =>
          (ask s105.2.2.1 (DSTree.mk s105.2.2.2.2.1 s105.2.2.2.2.2) s105.1).bind fun q131 =>
          (
            Mir.Loop (S := List DPlace × Int) (Q := List DPlace) (s105.2.1, (1 : Int)) fun s174 =>
              if s174.2 < q131.1 then
                (
                  (Mir.push 8 ([] : List Int) s105.2.2.1).bind fun x197 =>
                  (Mir.push 8 x197 [s174.2]).bind fun x213 =>
                  (m_search_below g q131.2.1 s174.2).bind fun q217 =>
                  (Mir.push 64 s174.1 [(DPlace.mk x213 0 q217)]).bind fun x235 =>
                  some x235
                : Option (List DPlace)).bind fun (z187 : List DPlace) =>
                some (.inl (z187, Mir.w64 (s174.2 + 1)))
              else
                some (.inr s174.1)
          : Option (List DPlace)).bind fun (z146 : List DPlace) =>
          if q131.2.2.1 = true then
            if q131.1 = 0 then
              some (.inr (.inl (q131.2.2.2, z146)))
            else
              (Mir.push 8 ([] : List Int) s105.2.2.1).bind fun x285 =>
              (Mir.push 8 x285 [0]).bind fun x301 =>
              (m_search_below g q131.2.1 0).bind fun q305 =>
              some (.inl (q131.2.2.2, z146, x301, (0 : Int), q305.N, q305.Kids))
          else
            (
              if q131.1 > 0 then
                some true
              else
                some (decide (((z146.length : Nat) : Int) > 0))
            : Option Bool).bind fun (z279 : Bool) =>
            some (.inr (.inr (.inr (z279, q131.2.2.2))))
      else
        some (.inr (.inl s32.1))
  ) fun z6 =>
  some (false, z6)
theorem Low.after {e : PT} {r : List PT} (h : Low (e :: r)) : Low (after e r) ∧ wt (after e r) + 1 = wt (e :: r) := by
  obtain ⟨h1, h2⟩ := h.step
  exact ⟨h1.perm (after_perm e r).symm, by rw [wt_perm (after_perm e r)]; exact h2⟩
theorem eta (t : DSTree) : (⟨t.N, t.Kids⟩ : DSTree) = t := by cases t; rfl
theorem m_fair {B : Type} {ask : List Int → DSTree → List B → Option (Int × DSTree × Bool × List B)} {v : PT → List B} (hask : Asks ask v) (g : Nat) {q0 : List DPlace} {acc0 : List B}
    (hl0 : Low (q0.map ofD)) (ha0 : acc0.length + wt (q0.map ofD) ≤ 400) :
    ∃ l, FOrd (q0.map ofD) l ∧ fairG ask g acc0 q0 = some (false, acc0 ++ l.flatMap v) := by
  have inner : ∀ (acc : List B) (q : List DPlace) (d : DPlace), Low (ofD d :: q.map ofD) → acc.length + wt (ofD d :: q.map ofD) ≤ 400 →
      ∃ z, Mir.Loop (S := List B × List DPlace × List Int × Int × Int × List DSTree) (Q := (List B × List DPlace) ⊕ ((List B) ⊕ (Bool × List B))) (acc, q, d.l, d.rank, d.x.N, d.x.Kids) (fun s105 =>
          (ask s105.2.2.1 (DSTree.mk s105.2.2.2.2.1 s105.2.2.2.2.2) s105.1).bind fun q131 =>
          (
            Mir.Loop (S := List DPlace × Int) (Q := List DPlace) (s105.2.1, (1 : Int)) fun s174 =>
              if s174.2 < q131.1 then
                (
                  (Mir.push 8 ([] : List Int) s105.2.2.1).bind fun x197 =>
                  (Mir.push 8 x197 [s174.2]).bind fun x213 =>
                  (m_search_below g q131.2.1 s174.2).bind fun q217 =>
                  (Mir.push 64 s174.1 [(DPlace.mk x213 0 q217)]).bind fun x235 =>
                  some x235
                : Option (List DPlace)).bind fun (z187 : List DPlace) =>
                some (.inl (z187, Mir.w64 (s174.2 + 1)))
              else
                some (.inr s174.1)
          : Option (List DPlace)).bind fun (z146 : List DPlace) =>
          if q131.2.2.1 = true then
            if q131.1 = 0 then
              some (.inr (.inl (q131.2.2.2, z146)))
            else
              (Mir.push 8 ([] : List Int) s105.2.2.1).bind fun x285 =>
              (Mir.push 8 x285 [0]).bind fun x301 =>
              (m_search_below g q131.2.1 0).bind fun q305 =>
              some (.inl (q131.2.2.2, z146, x301, (0 : Int), q305.N, q305.Kids))
          else
            (
              if q131.1 > 0 then
                some true
              else
                some (decide (((z146.length : Nat) : Int) > 0))
            : Option Bool).bind fun (z279 : Bool) =>
            some (.inr (.inr (.inr (z279, q131.2.2.2))))) = some (.inl z) ∧
        ∃ vis : List PT, z.1 = acc ++ vis.flatMap v ∧ (∀ l, FOrd (z.2.map ofD) l → FOrd (ofD d :: q.map ofD) (vis ++ l)) ∧ Low (z.2.map ofD) ∧ z.1.length + wt (z.2.map ofD) ≤ 400 ∧ wt (z.2.map ofD) < wt (ofD d :: q.map ofD) := by
    intro acc q d hL hA
    obtain ⟨zz, hz, z, rfl, k⟩ := Loop_ex (Q := (List B × List DPlace) ⊕ ((List B) ⊕ (Bool × List B))) (body := fun s105 : List B × List DPlace × List Int × Int × Int × List DSTree =>
          (ask s105.2.2.1 (DSTree.mk s105.2.2.2.2.1 s105.2.2.2.2.2) s105.1).bind fun q131 =>
          (
            Mir.Loop (S := List DPlace × Int) (Q := List DPlace) (s105.2.1, (1 : Int)) fun s174 =>
              if s174.2 < q131.1 then
                (
                  (Mir.push 8 ([] : List Int) s105.2.2.1).bind fun x197 =>
                  (Mir.push 8 x197 [s174.2]).bind fun x213 =>
                  (m_search_below g q131.2.1 s174.2).bind fun q217 =>
                  (Mir.push 64 s174.1 [(DPlace.mk x213 0 q217)]).bind fun x235 =>
                  some x235
                : Option (List DPlace)).bind fun (z187 : List DPlace) =>
                some (.inl (z187, Mir.w64 (s174.2 + 1)))
              else
                some (.inr s174.1)
          : Option (List DPlace)).bind fun (z146 : List DPlace) =>
          if q131.2.2.1 = true then
            if q131.1 = 0 then
              some (.inr (.inl (q131.2.2.2, z146)))
            else
              (Mir.push 8 ([] : List Int) s105.2.2.1).bind fun x285 =>
              (Mir.push 8 x285 [0]).bind fun x301 =>
              (m_search_below g q131.2.1 0).bind fun q305 =>
              some (.inl (q131.2.2.2, z146, x301, (0 : Int), q305.N, q305.Kids))
          else
            (
              if q131.1 > 0 then
                some true
              else
                some (decide (((z146.length : Nat) : Int) > 0))
            : Option Bool).bind fun (z279 : Bool) =>
            some (.inr (.inr (.inr (z279, q131.2.2.2)))))
      (fun s => ∃ vis : List PT, s.1 = acc ++ vis.flatMap v ∧ (∀ l, FOrd ((s.2.2.1, ⟨s.2.2.2.2.1, s.2.2.2.2.2⟩) :: s.2.1.map ofD) l → FOrd (ofD d :: q.map ofD) (vis ++ l)) ∧ Low ((s.2.2.1, ⟨s.2.2.2.2.1, s.2.2.2.2.2⟩) :: s.2.1.map ofD) ∧ s.1.length + wt ((s.2.2.1, ⟨s.2.2.2.2.1, s.2.2.2.2.2⟩) :: s.2.1.map ofD) ≤ 400 ∧ wt ((s.2.2.1, ⟨s.2.2.2.2.1, s.2.2.2.2.2⟩) :: s.2.1.map ofD) ≤ wt (ofD d :: q.map ofD))
      (fun zz => ∃ z, zz = .inl z ∧ ∃ vis : List PT, z.1 = acc ++ vis.flatMap v ∧ (∀ l, FOrd (z.2.map ofD) l → FOrd (ofD d :: q.map ofD) (vis ++ l)) ∧ Low (z.2.map ofD) ∧ z.1.length + wt (z.2.map ofD) ≤ 400 ∧ wt (z.2.map ofD) < wt (ofD d :: q.map ofD))
      (fun s => cnt ⟨s.2.2.2.2.1, s.2.2.2.2.2⟩) (by
        rintro ⟨ac, row, p, rnk, N, ks⟩ ⟨vis, h1, h2, h3, h4, h5⟩
        dsimp only at h1 h2 h3 h4 h5 ⊢
        generalize ex : (⟨N, ks⟩ : DSTree) = x at *
        have hks : ks = x.Kids := by rw [← ex]
        have hpl := h3.2 _ List.mem_cons_self
        dsimp only at hpl
        have hw1 := h3.1
        have hcx := cnt_pos x
        have hwc : wt ((p, x) :: row.map ofD) = cnt x + wt (row.map ofD) := wt_cons _ _
        have hlr := len_wt (row.map ofD)
        rw [List.length_map] at hlr
        obtain ⟨ha1, ha2⟩ := hask p x ac (by omega) (by omega)
        rw [ha1, Option.bind_some]
        dsimp only
        have hkl : (kids (p, x)).length = x.Kids.length := kidsL_len _ _ _
        have hwk := wt_kids (p, x)
        have hlk := len_wt (kids (p, x))
        have hcpx : cnt (p, x).2 = cnt x := rfl
        obtain ⟨hLa, hwa⟩ := h3.after
        obtain ⟨z, hz, k1⟩ := Loop_ex (Q := List DPlace) (body := fun s174 : List DPlace × Int =>
              if s174.2 < (x.Kids.length : Int) then
                (
                  (Mir.push 8 ([] : List Int) p).bind fun x197 =>
                  (Mir.push 8 x197 [s174.2]).bind fun x213 =>
                  (m_search_below g x s174.2).bind fun q217 =>
                  (Mir.push 64 s174.1 [(DPlace.mk x213 0 q217)]).bind fun x235 =>
                  some x235
                : Option (List DPlace)).bind fun (z187 : List DPlace) =>
                some (.inl (z187, Mir.w64 (s174.2 + 1)))
              else
                some (.inr s174.1))
          (fun s => ∃ i : Nat, s.2 = i ∧ 1 ≤ i ∧ (i = 1 ∨ i ≤ x.Kids.length) ∧ s.1.map ofD = row.map ofD ++ ((kids (p, x)).take i).drop 1)
          (fun z => z.map ofD = row.map ofD ++ (kids (p, x)).drop 1) (fun s => x.Kids.length - s.2.toNat) (by
            rintro ⟨u, _⟩ ⟨i, rfl, hi1, hi, hu⟩
            dsimp only at hi hu ⊢
            have hul := congrArg List.length hu
            rw [List.length_append, List.length_map, List.length_map, List.length_drop, List.length_take] at hul
            by_cases hil : i < x.Kids.length
            · right
              have hx := List.getElem?_eq_getElem hil
              rw [if_pos (by omega), push_small 100 (by simp; omega) (by decide), Option.bind_some, push_small 200 (by simp; omega) (by decide), Option.bind_some, m_below g x i _ hx, Option.bind_some, push_small 1000 (by simp; omega) (by decide), Option.bind_some, Option.bind_some]
              refine ⟨_, rfl, ⟨i + 1, by dsimp only; rw [w64_eq (by omega)]; omega, by omega, by omega, ?_⟩, by dsimp only; rw [w64_eq (by omega)]; omega⟩
              have hk : (kids (p, x))[i]? = some (p ++ [(i : Int)], x.Kids[i]) := by rw [kids_get]; show (x.Kids[i]?).map _ = _; rw [hx]; rfl
              dsimp only
              rw [List.map_append, hu, List.take_add_one, hk, List.append_assoc]
              congr 1
              rw [List.drop_append_of_le_length (by rw [List.length_take]; omega)]
              simp [ofD]
            · left
              rw [if_neg (by omega)]
              refine ⟨u, rfl, ?_⟩
              rwa [List.take_of_length_le (by omega)] at hu) (s := (row, 1)) ⟨1, rfl, Nat.le_refl _, .inl rfl, by
                rw [List.drop_take]; simp⟩
        rw [hz, Option.bind_some, if_pos rfl]
        by_cases hn : x.Kids.length = 0
        · left
          have hk0 : kids (p, x) = [] := List.eq_nil_of_length_eq_zero (by omega)
          have haft : after (p, x) (row.map ofD) = row.map ofD := by unfold after; rw [hk0]
          have hzr : z.map ofD = row.map ofD := by rw [k1, hk0]; simp
          refine ⟨_, by rw [if_pos (by omega)], _, rfl, vis ++ [(p, x)], ?_, fun l hl => ?_, ?_, ?_, ?_⟩
          · dsimp only; rw [h1]; simp
          · rw [List.append_assoc]
            refine h2 _ (.step ?_)
            rw [haft, ← hzr]; exact hl
          · dsimp only; rw [hzr, ← haft]; exact hLa
          · dsimp only; rw [hzr, List.length_append, ← haft]; omega
          · dsimp only; rw [hzr, ← haft]; omega
        · right
          have h0 : 0 < x.Kids.length := by omega
          have hx := List.getElem?_eq_getElem h0
          have hk : (kids (p, x))[0]? = some (p ++ [((0 : Nat) : Int)], x.Kids[0]) := by rw [kids_get]; show (x.Kids[0]?).map _ = _; rw [hx]; rfl
          have hkc := drop_at hk
          rw [List.drop_zero, Nat.zero_add] at hkc
          have haft : after (p, x) (row.map ofD) = (p ++ [(0 : Int)], x.Kids[0]) :: z.map ofD := by
            unfold after; rw [hkc, k1]; rfl
          rw [if_neg (by omega), push_small 100 (by simp; omega) (by decide), Option.bind_some, push_small 200 (by simp; omega) (by decide), Option.bind_some, show (0 : Int) = ((0 : Nat) : Int) from rfl, m_below g x 0 _ hx, Option.bind_some]
          refine ⟨_, rfl, ⟨vis ++ [(p, x)], ?_, fun l hl => ?_, ?_, ?_, ?_⟩, ?_⟩
          · dsimp only; rw [h1]; simp
          · rw [List.append_assoc]
            refine h2 _ (.step ?_)
            rw [haft]
            simpa [eta] using hl
          · dsimp only; simp only [List.nil_append, eta]; rw [haft] at hLa; exact hLa
          · dsimp only; simp only [List.nil_append, eta]; rw [haft] at hwa; rw [List.length_append]; have e9 : ((0 : Nat) : Int) = 0 := rfl; rw [e9]; omega
          · dsimp only; simp only [List.nil_append, eta]; rw [haft] at hwa; have e9 : ((0 : Nat) : Int) = 0 := rfl; rw [e9]; omega
          · dsimp only
            have := wt_cons (p ++ [(0 : Int)], x.Kids[0]) (z.map ofD)
            rw [← haft] at this
            have h9 : wt (z.map ofD) = wt (row.map ofD) + wt ((kids (p, x)).drop 1) := by rw [k1, wt_append]
            have h8 : cnt (p ++ [(0 : Int)], x.Kids[0]).2 = cnt x.Kids[0] := rfl
            rw [eta]
            omega) (s := (acc, q, d.l, d.rank, d.x.N, d.x.Kids)) ⟨[], by simp, by dsimp only; rw [eta]; exact fun l hl => hl, by dsimp only; rw [eta]; exact hL, by dsimp only; rw [eta]; exact hA, by dsimp only; rw [eta]; exact Nat.le_refl _⟩
    exact ⟨z, hz, k⟩
  obtain ⟨q, hq, l, h1, rfl⟩ := Loop_ex (Q := List B ⊕ (Bool × List B)) (body := fun s32 : List B × List DPlace =>
      if ((s32.2.length : Nat) : Int) > 0 then
        ((s32.2)[0]?).bind fun x51 =>
        (Mir.sub s32.2 1 ((s32.2.length : Nat) : Int)).bind fun x68 =>
        Mir.Loop (S := List B × List DPlace × List Int × Int × Int × List DSTree) (Q := (List B × List DPlace) ⊕ ((List B) ⊕ (Bool × List B))) (s32.1, x68, x51.l, x51.rank, x51.x.N, x51.x.Kids) fun s105 =>
          (ask s105.2.2.1 (DSTree.mk s105.2.2.2.2.1 s105.2.2.2.2.2) s105.1).bind fun q131 =>
          (
            Mir.Loop (S := List DPlace × Int) (Q := List DPlace) (s105.2.1, (1 : Int)) fun s174 =>
              if s174.2 < q131.1 then
                (
                  (Mir.push 8 ([] : List Int) s105.2.2.1).bind fun x197 =>
                  (Mir.push 8 x197 [s174.2]).bind fun x213 =>
                  (m_search_below g q131.2.1 s174.2).bind fun q217 =>
                  (Mir.push 64 s174.1 [(DPlace.mk x213 0 q217)]).bind fun x235 =>
                  some x235
                : Option (List DPlace)).bind fun (z187 : List DPlace) =>
                some (.inl (z187, Mir.w64 (s174.2 + 1)))
              else
                some (.inr s174.1)
          : Option (List DPlace)).bind fun (z146 : List DPlace) =>
          if q131.2.2.1 = true then
            if q131.1 = 0 then
              some (.inr (.inl (q131.2.2.2, z146)))
            else
              (Mir.push 8 ([] : List Int) s105.2.2.1).bind fun x285 =>
              (Mir.push 8 x285 [0]).bind fun x301 =>
              (m_search_below g q131.2.1 0).bind fun q305 =>
              some (.inl (q131.2.2.2, z146, x301, (0 : Int), q305.N, q305.Kids))
          else
            (
              if q131.1 > 0 then
                some true
              else
                some (decide (((z146.length : Nat) : Int) > 0))
            : Option Bool).bind fun (z279 : Bool) =>
            some (.inr (.inr (.inr (z279, q131.2.2.2))))
      else
        some (.inr (.inl s32.1)))
    (fun s => ∃ vis : List PT, s.1 = acc0 ++ vis.flatMap v ∧ (∀ l, FOrd (s.2.map ofD) l → FOrd (q0.map ofD) (vis ++ l)) ∧ Low (s.2.map ofD) ∧ s.1.length + wt (s.2.map ofD) ≤ 400)
    (fun q => ∃ l, FOrd (q0.map ofD) l ∧ q = .inl (acc0 ++ l.flatMap v)) (fun s => wt (s.2.map ofD)) (by
      rintro ⟨acc, q⟩ ⟨vis, h1, h2, h3, h4⟩
      dsimp only at h1 h2 h3 h4 ⊢
      cases q with
      | nil =>
        left
        exact ⟨_, rfl, vis, by simpa using h2 [] .nil, by rw [h1]⟩
      | cons d q =>
        right
        obtain ⟨z, k0, vis2, k1, k2, k3, k4, k5⟩ := inner acc q d h3 h4
        refine ⟨z, ?_, ⟨vis ++ vis2, ?_, fun l hl => ?_, k3, k4⟩, k5⟩
        · rw [if_pos (by simp only [List.length_cons]; omega), sub_ok (by simp only [List.length_cons]; omega)]
          rw [show ((List.take (((d :: q).length : Int)).toNat (d :: q)).drop (1 : Int).toNat) = q by
            rw [Int.toNat_natCast, List.take_length]; rfl]
          exact k0
        · rw [k1, h1, List.append_assoc, List.flatMap_append]
        · rw [List.append_assoc]; exact h2 _ (k2 l hl)) (s := (acc0, q0)) ⟨[], by simp, fun l hl => hl, hl0, ha0⟩
  refine ⟨l, h1, ?_⟩
  unfold fairG
  rw [hq]
  rfl
end Go.Proofs.Ytjjmdiddgcllkaa
