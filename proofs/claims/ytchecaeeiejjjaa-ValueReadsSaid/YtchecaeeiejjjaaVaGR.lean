/- The law of reading values: it is told true. -/
import Derived.Test.YtchecaeeiejjjaaVaFR
namespace Go.Proofs.Ytchecaeeiejjjaa
open Go Go.Mir
set_option linter.unusedVariables false
def V3 (n : Int) : DValue := ⟨3, [], n, []⟩
def zOf (l : List (Int × Int)) (n : Int) : List (Int × Int) := if (assoc l n).isSome = true then l else upsert l n ((l.length : Nat) : Int)
theorem ren_var (g : Nat) (n : Int) (l : List (Int × Int)) : m_value_renamed (g + 1) (V3 n) l = some (V3 ((assoc (zOf l n) n).getD 0), zOf l n) := by
  rw [m_value_renamed]
  unfold V3
  dsimp only
  refine Gives.eq (Gives.bind (fun z => z = (zOf l n, (assoc (zOf l n) n).getD 0)) ?_ fun z hz => ?_)
  · refine Gives.pos rfl (Gives.bind (fun z => z = zOf l n) (Gives.bindE rfl ?_) fun z hz => ?_)
    · unfold zOf
      exact Gives.ite (fun c => Gives.some (by rw [if_pos c])) (fun c => Gives.bindE rfl (Gives.some (by rw [if_neg c])))
    · subst hz
      exact Gives.bindE rfl (Gives.some rfl)
  · subst hz
    refine Gives.bind (fun z => z = (zOf l n, [])) (Gives.step (Gives.neg (show ¬ (((0 : Nat) : Int) < ((0 : Nat) : Int)) by decide) (Gives.some rfl))) fun z hz => ?_
    subst hz
    exact Gives.some rfl
def exV : DValue := ⟨1, [80, 97, 105, 114], 0, [V3 3, V3 3]⟩
theorem push1 (l : List DValue) (v : DValue) (h : l.length ≤ 100) : push 56 l [v] = some (l ++ [v]) := push_small 101 (by simp only [List.length_cons, List.length_nil]; omega) (by decide)
theorem ren_pair (g : Nat) : m_value_renamed (g + 2) exV [] = some (⟨1, [80, 97, 105, 114], 0, [V3 0, V3 0]⟩, [(3, 0)]) := by
  rw [m_value_renamed]
  unfold exV
  dsimp only
  refine Gives.eq (Gives.bind (fun z => z = (([] : List (Int × Int)), (0 : Int))) (Gives.neg (by decide) (Gives.some rfl)) fun z hz => ?_)
  subst hz
  dsimp only
  refine Gives.bind (fun z => z = ([(3, 0)], [V3 0, V3 0])) ?_ fun z hz => ?_
  · refine Gives.step (Gives.pos (by decide) (Gives.bindE (a := V3 3) rfl (Gives.bindE (ren_var g 3 []) (Gives.bindE (push1 _ _ (by decide)) (Gives.some ?_)))))
    refine Gives.step (Gives.pos (by decide) (Gives.bindE (a := V3 3) rfl (Gives.bindE (ren_var g 3 _) (Gives.bindE (push1 _ _ (by decide)) (Gives.some ?_)))))
    exact Gives.step (Gives.neg (by decide) (Gives.some rfl))
  · subst hz
    exact Gives.some rfl
theorem m_Answer0 (g : Nat) (hg : 8 ≤ g) : m_value_Answer g ⟨exV, [V3 3, V3 7]⟩ = some 0 := by
  unfold m_value_Answer
  dsimp only
  refine Gives.eq (Gives.neg (by decide) (Gives.bindE (a := [exV, V3 3, V3 7]) (if_pos (by decide)) ?_))
  have hv : ∀ v ∈ [exV, V3 3, V3 7], m_value_Validate g v = some 0 := by
    intro v hv
    have h2 : hgt v ≤ 2 ∧ vErr v = 0 := by
      rcases List.mem_cons.1 hv with rfl | hv
      · exact ⟨by decide, by decide⟩
      rcases List.mem_cons.1 hv with rfl | hv
      · exact ⟨by decide, by decide⟩
      rcases List.mem_cons.1 hv with rfl | hv
      · exact ⟨by decide, by decide⟩
      · exact nomatch hv
    rw [m_Validate v g (by omega), h2.2]
  refine Gives.jx (fun _ => True) (uptoV 2 0 (fun i _ hi => ?_) (fun i _ hi => ?_)) (fun _ _ => Gives.some rfl)
  · rw [if_pos (by simp only [List.length_cons, List.length_nil]; omega)]
    have hx : i < ([3, 1] : List Int).length := hi
    have hne : ([3, 1] : List Int)[i] ≠ 0 := by
      match i, hi with
      | 0, _ => exact show (3 : Int) ≠ 0 by decide
      | 1, _ => exact show (1 : Int) ≠ 0 by decide
    refine Gives.jx (fun _ => True) (Gives.bindE (List.getElem?_eq_getElem hx) (uptoV 3 0 (fun j _ hj => ?_) (fun j _ hj => ?_))) (fun _ _ => Gives.some rfl)
    · rw [if_pos (by simp only [List.length_cons, List.length_nil]; omega)]
      have hy : j < ([exV, V3 3, V3 7] : List DValue).length := hj
      refine Gives.bindE (List.getElem?_eq_getElem hy) (Gives.bindE (hv _ (List.getElem_mem hy)) (Gives.neg (fun h => hne h.symm) (Gives.some rfl)))
    · rw [if_neg (by simp only [List.length_cons, List.length_nil]; omega)]
      exact Gives.some True.intro
  · rw [if_neg (by simp only [List.length_cons, List.length_nil]; omega)]
    exact Gives.some True.intro
theorem m_normal0 (g : Nat) : m_value_normal (g + 2) ⟨exV, [V3 3, V3 7]⟩ = some (⟨⟨1, [80, 97, 105, 114], 0, [V3 0, V3 0]⟩, [V3 0, V3 1]⟩, 2) := by
  unfold m_value_normal
  dsimp only
  refine Gives.eq (Gives.bindE (ren_pair g) ?_)
  refine Gives.bind (fun z => z = ([(3, 0), (7, 1)], [V3 0, V3 1])) ?_ fun z hz => ?_
  · refine Gives.step (Gives.pos (by decide) (Gives.bindE (a := V3 3) rfl (Gives.bindE (ren_var (g + 1) 3 _) (Gives.bindE (push1 _ _ (by decide)) (Gives.some ?_)))))
    refine Gives.step (Gives.pos (by decide) (Gives.bindE (a := V3 7) rfl (Gives.bindE (ren_var (g + 1) 7 _) (Gives.bindE (push1 _ _ (by decide)) (Gives.some ?_)))))
    exact Gives.step (Gives.neg (by decide) (Gives.some rfl))
  · subst hz
    exact Gives.some rfl
theorem m_known (g : Nat) (hg : 8 ≤ g) : m_law08_known g = some true := by
  unfold m_law08_known
  obtain ⟨k, rfl⟩ : ∃ k, g = k + 2 := ⟨g - 2, by omega⟩
  have h : m_value_Normal (k + 2) ⟨exV, [V3 3, V3 7]⟩ = some (⟨⟨1, [80, 97, 105, 114], 0, [V3 0, V3 0]⟩, [V3 0, V3 1]⟩, 0) := by
    unfold m_value_Normal
    rw [m_Answer0 _ hg, Option.bind_some, if_pos rfl, m_normal0, Option.bind_some, if_neg (by decide)]
  refine Gives.eq (Gives.bindE h ?_)
  refine Gives.bind (fun z => z = true) (Gives.pos rfl (Gives.pos rfl (Gives.bindE (a := V3 0) rfl (Gives.pos rfl (Gives.bindE (a := V3 1) rfl (Gives.pos rfl (Gives.pos rfl (Gives.bindE (a := V3 0) rfl (Gives.some rfl))))))))) fun z hz => Gives.some hz
def v0 : DValue := ⟨0, [], 0, []⟩
theorem hgt_v0 : hgt v0 ≤ 20001 := by decide
theorem parse_same (t : List UInt8) (g : Nat) (hg : 200000 ≤ g) : ∃ v e1 e2, hgt v ≤ 20001 ∧ m_value_Parse g t = some (v, e1, e2) ∧ m_ref08_Parse g t = some (v, e1, e2) := by
  unfold m_value_Parse m_ref08_Parse
  by_cases hlong : ((t.length : Nat) : Int) > 20000
  · rw [if_pos hlong, if_pos hlong]
    exact ⟨v0, 0, 3, hgt_v0, rfl, rfl⟩
  · rw [if_neg hlong, if_neg hlong]
    have hn : t.length ≤ 20000 := by omega
    have hT : (toksR t.length t).length ≤ 20001 := by have := toksR_len t.length t.length t (Nat.le_refl _); omega
    have hE := toksR_ends t.length t.length t (Nat.le_refl _)
    generalize hTT : toksR t.length t = T at *
    rw [r_tokens g hn, hTT, Option.bind_some]
    have hon : On t 0 T := ⟨0, rfl, Nat.zero_le _, by rw [List.drop_zero]; exact hTT⟩
    obtain ⟨x, hx, o, hp, ho⟩ := r_value hT 20001 g 0 (by rw [List.drop_zero]; exact hT) (by omega) (by rw [List.drop_zero]; exact hE)
    rw [List.drop_zero] at hp
    obtain ⟨y, hy, hyo⟩ := (told (a0 := 0) hn hp hT g (by omega) 0 hon).1
    rw [show ((0 : Nat) : Int) = 0 from rfl] at hx
    rw [hx, hy, Option.bind_some, Option.bind_some]
    have hh := hp.hgt
    match o, hp, ho, hyo, hh with
    | .bad L, hp, ⟨o1, k, o2, o3, o4⟩, ⟨a, r, y1, y2, y3⟩, _ =>
      subst y1
      obtain ⟨i1, _, _⟩ := dropT o3
      refine ⟨v0, a.f_at, 2, hgt_v0, ?_, ?_⟩
      · refine Gives.eq (Gives.bind (fun z => z = a.f_at) (Gives.neg (by omega) (Gives.some y2)) fun z hz => ?_)
        subst hz
        exact Gives.pos (by omega) (Gives.some rfl)
      · rw [if_neg (by rw [o1]; decide), o2, i1]; rfl
    | .okV v L, hp, ⟨o1, o5, k, o2, o3, o4⟩, hyo, hh =>
      obtain ⟨c, r', rfl⟩ := o4.split
      obtain ⟨i1, _, _⟩ := dropT o3
      have hv : hgt v ≤ 20001 := by dsimp only at hh; omega
      by_cases c1 : c.s = []
      · refine ⟨if vErr v = 0 then v else v0, 0, if vErr v = 0 then 0 else vErr v, by split; exact hv; exact hgt_v0, ?_, ?_⟩
        · rcases hyo with ⟨y1, y2, y3⟩ | ⟨a, r, y1, y2, y3, y4, y5⟩
          · refine Gives.eq (Gives.bind (fun z => z = -1) (Gives.pos (by omega) ?_) fun z hz => ?_)
            · rw [y1]
              refine Gives.bind _ (m_tok g hn y3 (-1)) fun w hw => ?_
              obtain ⟨w1, w2, w3, w4⟩ := hw
              rcases w4 with ⟨w4, _⟩ | ⟨_, w4⟩
              · exact Gives.pos (by rw [w4, c1]) (Gives.some rfl)
              · exact absurd c1 w4.1
            · subst hz
              refine Gives.neg (by decide) ?_
              rw [y2]
              refine Gives.bindE (m_Validate v g (by omega)) (Gives.ite (fun h => Gives.some (by rw [if_pos h, if_pos h])) (fun h => Gives.some (by rw [if_neg h, if_neg h]; rfl)))
          · obtain ⟨rfl, _⟩ := List.cons.inj y1
            exact absurd c1 y4
        · refine Gives.eq (Gives.pos o1 (Gives.bindE (by rw [o2]; exact i1) (Gives.pos c1 ?_)))
          rw [o5]
          refine Gives.bindE (r_Validate v g (by omega)) (Gives.ite (fun h => Gives.some (by rw [if_pos h, if_pos h])) (fun h => Gives.some (by rw [if_neg h, if_neg h]; rfl)))
      · refine ⟨v0, c.f_at, 2, hgt_v0, ?_, ?_⟩
        · refine Gives.eq (Gives.bind (fun z => z = c.f_at ∧ 0 ≤ c.f_at) ?_ fun z hz => ?_)
          · rcases hyo with ⟨y1, y2, y3⟩ | ⟨a, r, y1, y2, y3, y4, y5⟩
            · refine Gives.pos (by omega) ?_
              rw [y1]
              refine Gives.bind _ (m_tok g hn y3 (-1)) fun w hw => ?_
              obtain ⟨w1, w2, w3, w4⟩ := hw
              have hne : w.1 ≠ [] := by
                rcases w4 with ⟨w4, _⟩ | ⟨w4, _⟩
                · rw [w4]; exact c1
                · exact w4.1
              refine Gives.neg hne (Gives.bindE (m_fail g _ _ _) (Gives.some ⟨w1, w2⟩))
            · obtain ⟨rfl, _⟩ := List.cons.inj y1
              exact Gives.neg (by omega) (Gives.some ⟨y2, y3⟩)
          · obtain ⟨rfl, h0⟩ := hz
            exact Gives.pos h0 (Gives.some rfl)
        · exact Gives.eq (Gives.pos o1 (Gives.bindE (by rw [o2]; exact i1) (Gives.neg c1 (Gives.bindE (by rw [o2]; exact i1) (Gives.some rfl)))))
theorem m_reads (t : List UInt8) : ∃ g, m_law08_ValueReads g t = some true := by
  refine ⟨200000, ?_⟩
  obtain ⟨v, e1, e2, h1, h2, h3⟩ := parse_same t 200000 (Nat.le_refl _)
  unfold m_law08_ValueReads
  rw [h2, h3, Option.bind_some, Option.bind_some]
  dsimp only
  rw [r_Exact v 200000 (by omega), Option.bind_some, if_pos rfl, if_pos rfl, if_pos rfl, m_known _ (by decide)]
  rfl
end Go.Proofs.Ytchecaeeiejjjaa
