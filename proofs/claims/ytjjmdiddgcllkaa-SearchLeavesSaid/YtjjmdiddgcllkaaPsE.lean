/- The program's walk through a tree, in plain words: it takes the nodes in the strategy's order. -/
import Derived.Test.YtjjmdiddgcllkaaPsD
namespace Go.Proofs.Ytjjmdiddgcllkaa
open Go Go.Mir
set_option linter.unusedVariables false
def ofD (d : DPlace) : PT := (d.l, d.x)
def toD (how : Int) (e : PT) : DPlace := ⟨e.1, rk how e.1, e.2⟩
theorem ofD_toD (how : Int) (l : List PT) : (l.map (toD how)).map ofD = l := by
  induction l with
  | nil => rfl
  | cons e l ih => rw [List.map_cons, List.map_cons, ih]; rfl
theorem hgt_eq (t : DSTree) : hgt t = hgtL t.Kids + 1 := by cases t; rw [hgt]
theorem m_below (g : Nat) (t : DSTree) (i : Nat) (k : DSTree) (h : t.Kids[i]? = some k) : m_search_below g t (i : Int) = some k := by
  unfold m_search_below
  rw [idx_nat, h]; rfl
/-- What is asked at each place, and what it adds. -/
def Asks {B : Type} (ask : List Int → DSTree → List B → Option (Int × DSTree × Bool × List B)) (v : PT → List B) : Prop :=
  ∀ p x acc, acc.length ≤ 400 → p.length ≤ 100 → ask p x acc = some ((x.Kids.length : Int), x, true, acc ++ v (p, x)) ∧ (v (p, x)).length ≤ 1
noncomputable def walkG {B : Type} (ask : List Int → DSTree → List B → Option (Int × DSTree × Bool × List B)) (g : Nat) (f25 : Nat) (a2 : List B) (q30 : List DPlace) : Option (Bool × List B) :=
    jx (J := List B) (A := Bool × List B) (
      Mir.Loop (S := List B × List DPlace) (Q := (List B) ⊕ (Bool × List B)) (a2, q30) fun s66 =>
        (m_api_STree_Len g s66.2 f25).bind fun q84 =>
        if q84 > 0 then
          (m_heap_Pop g s66.2 f25).bind fun q89 =>
          (ask q89.1.l q89.1.x s66.1).bind fun q108 =>
          (
            Mir.Loop (S := List DPlace × Int) (Q := List DPlace) (q89.2, (0 : Int)) fun s151 =>
              if s151.2 < q108.1 then
                (Mir.push 8 ([] : List Int) q89.1.l).bind fun x169 =>
                (Mir.push 8 x169 [s151.2]).bind fun x177 =>
                (m_table1 g f25 x177).bind fun q181 =>
                (m_search_below g q108.2.1 s151.2).bind fun q186 =>
                (m_heap_Push g (DPlace.mk x177 q181 q186) s151.1 f25).bind fun q198 =>
                some (.inl (q198, Mir.w64 (s151.2 + 1)))
              else
                some (.inr s151.1)
          : Option (List DPlace)).bind fun (z123 : List DPlace) =>
          if q108.2.2.1 = true then
            some (.inl (q108.2.2.2, z123))
          else
            (m_api_STree_Len g z123 f25).bind fun q210 =>
            some (.inr (.inr (decide (q210 > 0), q108.2.2.2)))
        else
          some (.inr (.inl s66.1))
    ) fun z40 =>
    some (false, z40)
/-- The bounds of what waits. -/
def Low (w : List PT) : Prop := wt w ≤ 400 ∧ ∀ e ∈ w, e.1.length + hgt e.2 ≤ 50
theorem Low.perm {a b : List PT} (h : a.Perm b) (hl : Low a) : Low b := ⟨by rw [← wt_perm h]; exact hl.1, fun e he => hl.2 e (h.mem_iff.2 he)⟩
theorem Low.step {e : PT} {r : List PT} (h : Low (e :: r)) : Low (r ++ kids e) ∧ wt (r ++ kids e) + 1 = wt (e :: r) := by
  have h1 := wt_kids e
  have h2 := h.1
  rw [wt_cons] at h2
  refine ⟨⟨by rw [wt_append]; omega, fun k hk => ?_⟩, by rw [wt_append, wt_cons]; omega⟩
  rcases List.mem_append.1 hk with hk | hk
  · exact h.2 k (List.mem_cons_of_mem _ hk)
  · obtain ⟨j, hj⟩ := List.mem_iff_getElem?.1 hk
    rw [kids_get] at hj
    obtain ⟨x, hx, rfl⟩ := Option.map_eq_some_iff.1 hj
    have a := h.2 e List.mem_cons_self
    have b := hgt_le (List.mem_of_getElem? hx)
    rw [hgt_eq e.2] at a
    simp
    omega
theorem m_walk {B : Type} {ask : List Int → DSTree → List B → Option (Int × DSTree × Bool × List B)} {v : PT → List B} (hask : Asks ask v) (g : Nat) {how : Int} {f : Nat} (hf : ∀ l, m_table1 g f l = some (rk how l)) {q0 : List DPlace} {acc0 : List B}
    (h0 : heapP q0 q0.length) (hr0 : ∀ d ∈ q0, d.rank = rk how d.l) (hl0 : Low (q0.map ofD)) (ha0 : acc0.length + wt (q0.map ofD) ≤ 400) :
    ∃ l, Ord how (q0.map ofD) l ∧ walkG ask g f acc0 q0 = some (false, acc0 ++ l.flatMap v) := by
  obtain ⟨q, hq, l, h1, rfl⟩ := Loop_ex (Q := List B ⊕ (Bool × List B)) (body := fun s66 : List B × List DPlace =>
        (m_api_STree_Len g s66.2 f).bind fun q84 =>
        if q84 > 0 then
          (m_heap_Pop g s66.2 f).bind fun q89 =>
          (ask q89.1.l q89.1.x s66.1).bind fun q108 =>
          (
            Mir.Loop (S := List DPlace × Int) (Q := List DPlace) (q89.2, (0 : Int)) fun s151 =>
              if s151.2 < q108.1 then
                (Mir.push 8 ([] : List Int) q89.1.l).bind fun x169 =>
                (Mir.push 8 x169 [s151.2]).bind fun x177 =>
                (m_table1 g f x177).bind fun q181 =>
                (m_search_below g q108.2.1 s151.2).bind fun q186 =>
                (m_heap_Push g (DPlace.mk x177 q181 q186) s151.1 f).bind fun q198 =>
                some (.inl (q198, Mir.w64 (s151.2 + 1)))
              else
                some (.inr s151.1)
          : Option (List DPlace)).bind fun (z123 : List DPlace) =>
          if q108.2.2.1 = true then
            some (.inl (q108.2.2.2, z123))
          else
            (m_api_STree_Len g z123 f).bind fun q210 =>
            some (.inr (.inr (decide (q210 > 0), q108.2.2.2)))
        else
          some (.inr (.inl s66.1)))
    (fun s => ∃ vis : List PT, s.1 = acc0 ++ vis.flatMap v ∧ (∀ l, Ord how (s.2.map ofD) l → Ord how (q0.map ofD) (vis ++ l)) ∧ heapP s.2 s.2.length ∧ (∀ d ∈ s.2, d.rank = rk how d.l) ∧ Low (s.2.map ofD) ∧ s.1.length + wt (s.2.map ofD) ≤ 400)
    (fun q => ∃ l, Ord how (q0.map ofD) l ∧ q = .inl (acc0 ++ l.flatMap v)) (fun s => wt (s.2.map ofD)) (by
      rintro ⟨acc, q⟩ ⟨vis, h1, h2, h3, h4, h5, h6⟩
      dsimp only at h1 h2 h3 h4 h5 h6 ⊢
      have hlq : q.length ≤ 400 := by have := len_wt (q.map ofD); have := h5.1; rw [List.length_map] at *; omega
      unfold m_api_STree_Len
      rw [Option.bind_some]
      by_cases hq : q.length = 0
      · left
        have hq : q = [] := List.eq_nil_of_length_eq_zero hq
        subst hq
        exact ⟨_, rfl, vis, by simpa using h2 [] .nil, by rw [h1]⟩
      · right
        rw [if_pos (by omega)]
        obtain ⟨d, q1, g1, g2, g3, g4⟩ := m_hPop g (f := f) (show q.length < 10000 by omega) (by omega) h3
        rw [g1, Option.bind_some]
        have hp : (q.map ofD).Perm (ofD d :: q1.map ofD) := g2.map ofD
        have hL := h5.perm hp
        obtain ⟨hL1, hw1⟩ := hL.step
        have hw := wt_perm hp
        have hdl : d.l.length + hgt d.x ≤ 50 := hL.2 _ List.mem_cons_self
        have hcp := cnt_pos d.x
        have hw2 := hL.1
        obtain ⟨ha1, ha2⟩ := hask d.l d.x acc (by omega) (by omega)
        dsimp only
        rw [ha1, Option.bind_some]
        dsimp only
        have hwk := wt_kids (ofD d)
        have hlk := len_wt (kids (ofD d))
        have hkl : (kids (ofD d)).length = d.x.Kids.length := kidsL_len _ _ _
        rw [wt_cons] at hw2
        have hlq1 := len_wt (q1.map ofD)
        rw [List.length_map] at hlq1
        have hcd : cnt (ofD d).2 = cnt d.x := rfl
        obtain ⟨z, hz, k1, k2⟩ := Loop_ex (Q := List DPlace) (body := fun s151 : List DPlace × Int =>
              if s151.2 < (d.x.Kids.length : Int) then
                (Mir.push 8 ([] : List Int) d.l).bind fun x169 =>
                (Mir.push 8 x169 [s151.2]).bind fun x177 =>
                (m_table1 g f x177).bind fun q181 =>
                (m_search_below g d.x s151.2).bind fun q186 =>
                (m_heap_Push g (DPlace.mk x177 q181 q186) s151.1 f).bind fun q198 =>
                some (.inl (q198, Mir.w64 (s151.2 + 1)))
              else
                some (.inr s151.1))
          (fun s => ∃ i : Nat, s.2 = i ∧ i ≤ d.x.Kids.length ∧ s.1.Perm (q1 ++ ((kids (ofD d)).take i).map (toD how)) ∧ heapP s.1 s.1.length)
          (fun z => z.Perm (q1 ++ (kids (ofD d)).map (toD how)) ∧ heapP z z.length) (fun s => d.x.Kids.length - s.2.toNat) (by
            rintro ⟨u, _⟩ ⟨i, rfl, hi, hu, hh⟩
            dsimp only at hi hu hh ⊢
            have hul := hu.length_eq
            rw [List.length_append, List.length_map, List.length_take] at hul
            by_cases hil : i < d.x.Kids.length
            · right
              have hx := List.getElem?_eq_getElem hil
              rw [if_pos (by omega), push_small 100 (by simp; omega) (by decide), Option.bind_some, push_small 200 (by simp; omega) (by decide), Option.bind_some, hf, Option.bind_some, m_below g d.x i _ hx, Option.bind_some]
              obtain ⟨u', e1, e2, e3⟩ := m_hPush g (f := f) (x := DPlace.mk ([] ++ d.l ++ [(i : Int)]) (rk how ([] ++ d.l ++ [(i : Int)])) d.x.Kids[i]) (show u.length < 10000 by omega) hh
              refine ⟨(u', ((i + 1 : Nat) : Int)), by rw [e1, w64_eq (by omega)]; rfl, ⟨i + 1, rfl, by omega, ?_, e3⟩, by simp; omega⟩
              refine e2.trans ((hu.append_right _).trans (List.Perm.of_eq ?_))
              have hk : (kids (ofD d))[i]? = some (d.l ++ [(i : Int)], d.x.Kids[i]) := by rw [kids_get]; show (d.x.Kids[i]?).map _ = _; rw [hx]; rfl
              rw [List.take_add_one, hk, List.append_assoc, List.map_append]
              simp [toD]
            · left
              rw [if_neg (by omega)]
              refine ⟨u, rfl, ?_, hh⟩
              rwa [List.take_of_length_le (by omega)] at hu) (s := (q1, 0)) ⟨0, rfl, by omega, by simp, g3⟩
        rw [hz, Option.bind_some, if_pos rfl]
        have hzm : (z.map ofD).Perm (q1.map ofD ++ kids (ofD d)) := by
          refine (k1.map ofD).trans (List.Perm.of_eq ?_)
          rw [List.map_append, ofD_toD]
        refine ⟨_, rfl, ⟨vis ++ [ofD d], ?_, ?_, k2, ?_, hL1.perm hzm.symm, ?_⟩, ?_⟩
        · dsimp only
          rw [h1]; simp [ofD]
        · intro l hl
          rw [List.append_assoc]
          refine h2 _ (.step hp (fun y hy => ?_) (hl.perm hzm.symm))
          obtain ⟨dy, hdy, rfl⟩ := List.mem_map.1 hy
          have := g4 dy hdy
          have hrd := h4 d (g2.mem_iff.2 List.mem_cons_self)
          unfold leP lessP at this
          rw [h4 dy hdy, hrd] at this
          exact this
        · intro y hy
          rcases List.mem_append.1 (k1.mem_iff.1 hy) with hy | hy
          · exact h4 y (g2.mem_iff.2 (List.mem_cons_of_mem _ hy))
          · obtain ⟨e, _, rfl⟩ := List.mem_map.1 hy
            rfl
        · dsimp only
          rw [List.length_append, wt_perm hzm]
          omega
        · dsimp only
          rw [wt_perm hzm]
          omega) (s := (acc0, q0)) ⟨[], by simp, fun l hl => hl, h0, hr0, hl0, ha0⟩
  refine ⟨l, h1, ?_⟩
  unfold walkG
  rw [hq]
  rfl
end Go.Proofs.Ytjjmdiddgcllkaa
