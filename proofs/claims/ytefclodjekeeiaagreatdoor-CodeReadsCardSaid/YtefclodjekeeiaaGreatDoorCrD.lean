/- Instructions: both sides read them alike. -/
import Derived.Test.YtefclodjekeeiaaGreatDoorCrB
namespace Go.Proofs.YtefclodjekeeiaaGreatDoor
open Go Go.Mir
set_option linter.unusedVariables false
theorem Is.some {α : Type} {x : α} {b : Bool} (h : b = true) : Is (some x) (x, b) := by subst h; rfl
theorem Is.none {α : Type} {r : α × Bool} (h : r.2 = false) : Is none r := h
theorem sub_tail {x : List UInt8} {r : List (List UInt8)} : Mir.sub (x :: r) 1 (((x :: r).length : Nat) : Int) = some r := by
  rw [sub_ok ⟨by decide, by rw [List.length_cons]; omega, by omega⟩, Int.toNat_natCast, List.take_length]; rfl
def kCon : List UInt8 := [99, 111, 110]
def kCall : List UInt8 := [99, 97, 108, 108]
def kInt : List UInt8 := [105, 110, 116]
def kApply : List UInt8 := [97, 112, 112, 108, 121]
def kOr : List UInt8 := [111, 114]
def kFail : List UInt8 := [102, 97, 105, 108]
def withArgs (n : Int) (nm : List UInt8) (ws : List (List UInt8)) : Option DInstr := match numsS ws with
  | none => none
  | some l => some ⟨2, 0, 0, n, nm, l, []⟩
def named (n : Int) (ws : List (List UInt8)) : Option DInstr := match ws with
  | [] => none
  | nm :: as => if wordS nm = true then withArgs n nm as else none
def intN (ws : List (List UInt8)) : Option DInstr := match ws with
  | [x] => (match intS x with | none => none | some n => some ⟨2, n, 0, 2, [], [], []⟩)
  | _ => none
def nodeS (k : List UInt8) (ws : List (List UInt8)) : Option DInstr :=
  if k = kCon then named 1 ws
  else if k = kCall then named 3 ws
  else if k = kInt then intN ws
  else if k = kApply then withArgs 4 [] ws
  else if k = kOr then withArgs 5 [] ws
  else if k = kFail then (if ws = [] then some ⟨2, 0, 0, 7, [], [], []⟩ else none)
  else none
def kindN (k : List UInt8) : Int := if k = kCon then 1 else if k = kCall then 3 else if k = kInt then 2 else if k = kApply then 4 else if k = kOr then 5 else if k = kFail then 7 else 0
abbrev Q7 := Int × Int × Int × Int × List UInt8 × List Int × Bool
def ofQ (q : Q7) : DInstr × Bool := ((DInstr.mk q.1 q.2.1 q.2.2.1 q.2.2.2.1 q.2.2.2.2.1 q.2.2.2.2.2.1 ([] : List DJump)), q.2.2.2.2.2.2)
theorem withArgs_is {n : Int} {nm : List UInt8} {ws : List (List UInt8)} : Is (withArgs n nm ws) (ofQ ((2 : Int), (0 : Int), (0 : Int), n, nm, (resL (numsS ws)).1, (resL (numsS ws)).2)) := by
  unfold withArgs
  cases numsS ws <;> rfl
theorem kinds_get (g : Nat) (k : List UInt8) {β : Type} {f : Int → Option β} {P : β → Prop} (h : Gives (f (kindN k)) P) : Gives (
  (Mir.put ([] : List ((List UInt8) × Int)) [99, 111, 110] 1).bind fun x5 =>
  (Mir.put x5 [99, 97, 108, 108] 3).bind fun x10 =>
  (Mir.put x10 [105, 110, 116] 2).bind fun x15 =>
  (Mir.put x15 [97, 112, 112, 108, 121] 4).bind fun x20 =>
  (Mir.put x20 [111, 114] 5).bind fun x25 =>
  (Mir.put x25 [102, 97, 105, 108] 7).bind fun x30 =>
  (Mir.getD x30 k 0).bind f) P := by
  refine Gives.bindE rfl (Gives.bindE rfl (Gives.bindE rfl (Gives.bindE rfl (Gives.bindE rfl (Gives.bindE rfl (Gives.bindE (a := kindN k) ?_ h))))))
  unfold Mir.getD
  congr 1
  rw [show upsert (upsert (upsert (upsert (upsert (upsert ([] : List ((List UInt8) × Int)) [99, 111, 110] 1) [99, 97, 108, 108] 3) [105, 110, 116] 2) [97, 112, 112, 108, 121] 4) [111, 114] 5) [102, 97, 105, 108] 7 = [(kCon, 1), (kCall, 3), (kInt, 2), (kApply, 4), (kOr, 5), (kFail, 7)] from by decide]
  unfold kindN
  simp only [assoc, @eq_comm _ _ k]
  repeat' split
  all_goals rfl
theorem m_node (g : Nat) (k : List UInt8) (ws : List (List UInt8)) (hw : Small ws) : Gives (m_code_node g k ws) (fun q => Is (nodeS k ws) (ofQ q)) := by
  unfold m_code_node
  refine kinds_get g k ?_
  refine Gives.jx (fun z => nodeS k ws = withArgs (kindN k) z.2 z.1 ∧ Small z.1) ?_ (fun z hz => ?_)
  rotate_left
  · refine Gives.bindE (m_numbers g _ hz.2) (Gives.some ?_)
    rw [hz.1]
    exact withArgs_is
  have e1 : (1 : Int) ≠ 3 := by decide
  unfold nodeS kindN
  by_cases h1 : k = kCon
  · rw [if_pos h1, if_pos h1]
    refine Gives.neg (by decide) (Gives.bindE (if_pos rfl) (Gives.pos (by decide) ?_))
    unfold named
    refine Gives.bind (fun z => z = decide (ws = [] ∨ ¬ wordS (ws.headD []) = true)) ?_ (fun z hz => ?_)
    · match ws, hw with
      | [], _ => exact Gives.pos rfl (Gives.some rfl)
      | x :: r, hw =>
        refine Gives.neg (by rw [List.length_cons]; omega) (Gives.bindE (show (x :: r)[0]? = some x from rfl) (Gives.bindE (m_isWord g x (hw.2 x (by simp))) (Gives.some ?_)))
        cases h : wordS x <;> simp [h]
    · subst hz
      match ws, hw with
      | [], _ => exact Gives.pos (by decide) (Gives.some rfl)
      | x :: r, hw =>
        dsimp only [List.headD]
        by_cases c : wordS x = true
        · refine Gives.neg (by simp [c]) (Gives.bindE (show (x :: r)[0]? = some x from rfl) (Gives.bindE sub_tail (Gives.some ?_)))
          exact ⟨if_pos c, hw.tail⟩
        · refine Gives.pos (by simp [c]) (Gives.some ?_)
          show Is _ _
          rw [if_neg c]; rfl
  rw [if_neg h1, if_neg h1]
  by_cases h2 : k = kCall
  · rw [if_pos h2, if_pos h2]
    refine Gives.neg (by decide) (Gives.bindE (if_neg (by decide)) (Gives.pos (by decide) ?_))
    unfold named
    refine Gives.bind (fun z => z = decide (ws = [] ∨ ¬ wordS (ws.headD []) = true)) ?_ (fun z hz => ?_)
    · match ws, hw with
      | [], _ => exact Gives.pos rfl (Gives.some rfl)
      | x :: r, hw =>
        refine Gives.neg (by rw [List.length_cons]; omega) (Gives.bindE (show (x :: r)[0]? = some x from rfl) (Gives.bindE (m_isWord g x (hw.2 x (by simp))) (Gives.some ?_)))
        cases h : wordS x <;> simp [h]
    · subst hz
      match ws, hw with
      | [], _ => exact Gives.pos (by decide) (Gives.some rfl)
      | x :: r, hw =>
        dsimp only [List.headD]
        by_cases c : wordS x = true
        · refine Gives.neg (by simp [c]) (Gives.bindE (show (x :: r)[0]? = some x from rfl) (Gives.bindE sub_tail (Gives.some ?_)))
          exact ⟨if_pos c, hw.tail⟩
        · refine Gives.pos (by simp [c]) (Gives.some ?_)
          show Is _ _
          rw [if_neg c]; rfl
  rw [if_neg h2, if_neg h2]
  by_cases h3 : k = kInt
  · rw [if_pos h3, if_pos h3]
    refine Gives.neg (by decide) (Gives.bindE (if_neg (by decide)) (Gives.neg (by decide) (Gives.pos rfl ?_)))
    match ws, hw with
    | [], _ => exact Gives.neg (by decide) (Gives.some rfl)
    | [x], hw =>
      refine Gives.pos rfl (Gives.bindE (show [x][0]? = some x from rfl) (Gives.bindE (m_number g x true) (Gives.some ?_)))
      rw [if_pos rfl]
      show Is (intN [x]) _
      unfold intN
      dsimp only
      cases intS x <;> rfl
    | x :: y :: r, hw =>
      refine Gives.neg (by rw [List.length_cons, List.length_cons]; omega) (Gives.some rfl)
  rw [if_neg h3, if_neg h3]
  by_cases h4 : k = kApply
  · rw [if_pos h4, if_pos h4]
    refine Gives.neg (by decide) (Gives.bindE (if_neg (by decide)) (Gives.neg (by decide) (Gives.neg (by decide) (Gives.neg (by decide) (Gives.some ⟨rfl, hw⟩)))))
  rw [if_neg h4, if_neg h4]
  by_cases h5 : k = kOr
  · rw [if_pos h5, if_pos h5]
    refine Gives.neg (by decide) (Gives.bindE (if_neg (by decide)) (Gives.neg (by decide) (Gives.neg (by decide) (Gives.neg (by decide) (Gives.some ⟨rfl, hw⟩)))))
  rw [if_neg h5, if_neg h5]
  by_cases h6 : k = kFail
  · rw [if_pos h6, if_pos h6]
    refine Gives.neg (by decide) (Gives.bindE (if_neg (by decide)) (Gives.neg (by decide) (Gives.neg (by decide) (Gives.pos rfl (Gives.some ?_)))))
    match ws with
    | [] => rfl
    | x :: r => exact (decide_eq_false (by rw [List.length_cons]; omega) : decide ((((x :: r).length : Nat) : Int) = 0) = false)
  rw [if_neg h6, if_neg h6]
  exact Gives.pos rfl (Gives.some rfl)
theorem r_made (g : Nat) (k : List UInt8) (ws : List (List UInt8)) (hw : Small ws) : Gives (m_ref14_made g (k :: ws)) (fun q => Is (nodeS k ws) (ofQ q)) := by
  unfold m_ref14_made
  refine Gives.neg (by rw [List.length_cons]; omega) (Gives.bindE (show (k :: ws)[0]? = some k from rfl) (Gives.bindE sub_tail ?_))
  refine Gives.jx (fun z => nodeS k ws = withArgs z.1 z.2.1 z.2.2 ∧ Small z.2.2) ?_ (fun z hz => ?_)
  rotate_left
  · refine Gives.bindE (r_all g _ hz.2) (Gives.some ?_)
    rw [hz.1]
    exact withArgs_is
  unfold nodeS
  have key : ∀ n : Nat, (k = kCon ∧ n = 1 ∨ k = kCall ∧ n = 3) → Gives (
        (
          if ((ws.length : Nat) : Int) = 0 then
            some true
          else
            ((ws)[0]?).bind fun x39 =>
            (m_ref14_isRun g x39).bind fun q46 =>
            some (!q46)
        : Option Bool).bind fun (z34 : Bool) =>
        if z34 = true then
          some (.inr ((2 : Int), (0 : Int), (0 : Int), (0 : Int), ([] : List UInt8), ([] : List Int), false))
        else
          ((ws)[0]?).bind fun x52 =>
          (Mir.sub ws 1 ((ws.length : Nat) : Int)).bind fun x63 =>
          if k = ([99, 97, 108, 108] : List UInt8) then
            some (.inl ((3 : Nat), x52, x63))
          else
            some (.inl ((1 : Nat), x52, x63))) (Two (fun z : Nat × List UInt8 × List (List UInt8) => named n ws = withArgs z.1 z.2.1 z.2.2 ∧ Small z.2.2) (fun q : Q7 => Is (named n ws) (ofQ q))) := by
    intro n hn
    unfold named
    refine Gives.bind (fun z => z = decide (ws = [] ∨ ¬ wordS (ws.headD []) = true)) ?_ (fun z hz => ?_)
    · match ws, hw with
      | [], _ => exact Gives.pos rfl (Gives.some rfl)
      | x :: r, hw =>
        refine Gives.neg (by rw [List.length_cons]; omega) (Gives.bindE (show (x :: r)[0]? = some x from rfl) (Gives.bindE (r_isRun g x (hw.2 x (by simp))) (Gives.some ?_)))
        cases h : wordS x <;> simp [h]
    · subst hz
      match ws, hw with
      | [], _ => exact Gives.pos (by decide) (Gives.some rfl)
      | x :: r, hw =>
        dsimp only [List.headD]
        by_cases c : wordS x = true
        · refine Gives.neg (by simp [c]) (Gives.bindE (show (x :: r)[0]? = some x from rfl) (Gives.bindE sub_tail ?_))
          rcases hn with ⟨rfl, rfl⟩ | ⟨rfl, rfl⟩
          · exact Gives.neg (by decide) (Gives.some ⟨if_pos c, hw.tail⟩)
          · exact Gives.pos rfl (Gives.some ⟨if_pos c, hw.tail⟩)
        · refine Gives.pos (by simp [c]) (Gives.some ?_)
          show Is _ _
          rw [if_neg c]; rfl
  by_cases h1 : k = kCon
  · rw [if_pos h1]
    exact Gives.bindE (a := true) ((if_pos h1).trans (congrArg some (decide_eq_true h1))) (Gives.pos rfl (key 1 (.inl ⟨h1, rfl⟩)))
  rw [if_neg h1]
  by_cases h2 : k = kCall
  · rw [if_pos h2]
    exact Gives.bindE (a := true) ((if_neg h1).trans (congrArg some (decide_eq_true h2))) (Gives.pos rfl (key 3 (.inr ⟨h2, rfl⟩)))
  rw [if_neg h2]
  refine Gives.bindE (a := false) ((if_neg h1).trans (congrArg some (decide_eq_false h2))) (Gives.neg (by decide) ?_)
  by_cases h3 : k = kInt
  · rw [if_pos h3]
    refine Gives.pos h3 ?_
    match ws, hw with
    | [], _ => exact Gives.neg (by decide) (Gives.some rfl)
    | [x], hw =>
      refine Gives.pos rfl (Gives.bindE (show [x][0]? = some x from rfl) (Gives.bindE (r_integer g x (hw.2 x (by simp))) (Gives.some ?_)))
      show Is (intN [x]) _
      unfold intN
      dsimp only
      cases intS x <;> rfl
    | x :: y :: r, hw =>
      refine Gives.neg (by rw [List.length_cons, List.length_cons]; omega) (Gives.some rfl)
  rw [if_neg h3]
  refine Gives.neg h3 ?_
  by_cases h4 : k = kApply
  · rw [if_pos h4]
    exact Gives.pos h4 (Gives.some ⟨rfl, hw⟩)
  rw [if_neg h4]
  refine Gives.neg h4 ?_
  by_cases h5 : k = kOr
  · rw [if_pos h5]
    exact Gives.pos h5 (Gives.some ⟨rfl, hw⟩)
  rw [if_neg h5]
  refine Gives.neg h5 ?_
  by_cases h6 : k = kFail
  · rw [if_pos h6]
    refine Gives.pos h6 (Gives.some ?_)
    match ws with
    | [] => rfl
    | x :: r => exact (decide_eq_false (by rw [List.length_cons]; omega) : decide ((((x :: r).length : Nat) : Int) = 0) = false)
  rw [if_neg h6]
  exact Gives.neg h6 (Gives.some rfl)
def wMatch : List UInt8 := [109, 97, 116, 99, 104]
def wFree : List UInt8 := [102, 114, 101, 101]
def wStop : List UInt8 := [115, 116, 111, 112]
def wEnd : List UInt8 := [101, 110, 100]
def wNode : List UInt8 := [110, 111, 100, 101]
def matchS (r : List (List UInt8)) : Option DInstr := if r.length < 2 then none else match numsS (r.take 2) with
  | none => none
  | some l => match mapF jumpS (r.drop 2) with
    | none => none
    | some cs => some ⟨1, l.headD 0, (l.drop 1).headD 0, 0, [], [], cs⟩
def endS (r : List (List UInt8)) : Option DInstr := match numsS r with
  | some [n] => some ⟨4, n, 0, 0, [], [], []⟩
  | _ => none
def nodeT (r : List (List UInt8)) : Option DInstr := match r with
  | [] => none
  | k :: ws => nodeS k ws
def instrS (x : List UInt8) (r : List (List UInt8)) : Option DInstr :=
  if x = wMatch then matchS r
  else if x = wFree then (if r = [] then some ⟨3, 0, 0, 0, [], [], []⟩ else none)
  else if x = wStop then (if r = [] then some ⟨5, 0, 0, 0, [], [], []⟩ else none)
  else if x = wEnd then endS r
  else if x = wNode then nodeT r
  else none
theorem mapF_length {α β : Type} {f : α → Option β} : ∀ {l : List α} {ys : List β}, mapF f l = some ys → ys.length = l.length
  | [], ys, h => by cases h; rfl
  | x :: r, ys, h => by
    unfold mapF at h
    split at h
    · cases h
    · split at h
      · cases h
      · rename_i h2
        cases h
        rw [List.length_cons, List.length_cons, mapF_length h2]
theorem two_of {l : List Int} (h : l.length = 2) : l[0]? = some (l.headD 0) ∧ l[1]? = some ((l.drop 1).headD 0) := by
  match l, h with
  | [a, b], _ => exact ⟨rfl, rfl⟩
abbrev QM := Int × Int × Int × Int × List UInt8 × List DJump × Bool
def ofM (q : QM) : DInstr × Bool := (DInstr.mk q.1 q.2.1 q.2.2.1 q.2.2.2.1 q.2.2.2.2.1 ([] : List Int) q.2.2.2.2.2.1, q.2.2.2.2.2.2)
theorem m_match (g : Nat) (r : List (List UInt8)) (hr : Small r) : Gives (m_code_match g r) (fun q => Is (matchS r) (ofM q)) := by
  unfold m_code_match matchS
  refine Gives.ite (fun c => Gives.some ?_) (fun c => ?_)
  · rw [if_pos (by omega)]; rfl
  rw [if_neg (by omega)]
  refine Gives.bindE (a := r.take 2) (by rw [sub_ok ⟨by decide, by decide, by omega⟩]; rfl) (Gives.bindE (m_numbers g _ (hr.take 2)) ?_)
  cases hn : numsS (r.take 2) with
  | none => exact Gives.neg (by simp [resL]) (Gives.some rfl)
  | some l =>
    have hl : l.length = 2 := by rw [mapF_length hn, List.length_take]; omega
    obtain ⟨e0, e1⟩ := two_of hl
    refine Gives.pos rfl (Gives.bindE e0 (Gives.bindE e1 ?_))
    have hsub : Mir.sub r 2 ((r.length : Nat) : Int) = some (r.drop 2) := by
      rw [sub_ok ⟨by decide, by omega, Int.le_refl _⟩, Int.toNat_natCast, List.take_length]; rfl
    rw [hsub, Option.bind_some]
    have hd := hr.drop 2
    generalize r.drop 2 = js at *
    have hjs : js.length ≤ 100000 := hd.1
    unfold jx
    have := G_map (bad := ((0 : Int), (0 : Int), (0 : Int), (0 : Int), ([] : List UInt8), ([] : List DJump), false)) js jumpS 0 (Nat.zero_le _)
      (body := fun s66 =>
          if ((s66.2 : Nat) : Int) < ((js.length : Nat) : Int) then
            ((js)[s66.2]?).bind fun x80 =>
            (m_code_jump g x80).bind fun q87 =>
            if q87.2 = true then
              (Mir.push 32 s66.1 [q87.1]).bind fun x99 =>
              some (.inl (x99, s66.2 + 1))
            else
              some (.inr (.inr ((0 : Int), (0 : Int), (0 : Int), (0 : Int), ([] : List UInt8), ([] : List DJump), false)))
          else
            some (.inr (.inl s66.1)))
      (k := fun z39 => some ((1 : Int), l.headD 0, (l.drop 1).headD 0, (0 : Int), ([] : List UInt8), z39, true))
      (R := fun q => Is (match mapF jumpS js with | none => none | some cs => some ⟨1, l.headD 0, (l.drop 1).headD 0, 0, [], [], cs⟩) (ofM q))
      (fun a i x hx hi ha => by
        refine Gives.pos (by dsimp only; omega) (Gives.bindE hx (Gives.bind _ (m_jump g x (hd.at hx)) fun q hq => ?_))
        cases hj : jumpS x with
        | none =>
          rw [hj] at hq
          exact Gives.neg (by rw [show q.2 = false from hq]; decide) (Gives.some rfl)
        | some y =>
          rw [hj] at hq
          have hq : q = (y, true) := hq
          subst hq
          exact Gives.pos rfl (Gives.bindE (push_small 1000000 (by dsimp only; rw [List.length_singleton]; omega) ⟨by decide, by decide⟩) (Gives.some rfl)))
      (fun a => by rw [if_neg (by dsimp only; omega)])
      (fun ys h => Gives.some (by rw [show mapF jumpS js = some ys from h]; rfl))
      (fun h => by rw [show mapF jumpS js = none from h]; rfl)
    exact this
theorem m_instr (g : Nat) (x : List UInt8) (r : List (List UInt8)) (hr : Small r) : Gives (m_code_instr g (x :: r)) (Is (instrS x r)) := by
  unfold m_code_instr
  refine Gives.jx (fun _ => instrS x r = none) ?_ (fun _ h => Gives.some (by rw [h]; rfl))
  refine Gives.bindE (show (x :: r)[0]? = some x from rfl) ?_
  by_cases h1 : x = wMatch
  · rw [show instrS x r = matchS r by unfold instrS; rw [if_pos h1]]
    refine Gives.pos h1 (Gives.bindE sub_tail (Gives.bind _ (m_match g r hr) fun q hq => Gives.some hq))
  refine Gives.neg h1 ?_
  have hlen : ∀ i : DInstr, Is (if r = [] then some i else none) (i, decide ((((x :: r).length : Nat) : Int) = 1)) := by
    intro i
    match r with
    | [] => rfl
    | y :: r => exact (decide_eq_false (by rw [List.length_cons, List.length_cons]; omega) : decide ((((x :: y :: r).length : Nat) : Int) = 1) = false)
  by_cases h2 : x = wFree
  · rw [show instrS x r = _ by unfold instrS; rw [if_neg h1, if_pos h2]]
    exact Gives.pos h2 (Gives.some (hlen _))
  refine Gives.neg h2 ?_
  by_cases h3 : x = wStop
  · rw [show instrS x r = _ by unfold instrS; rw [if_neg h1, if_neg h2, if_pos h3]]
    exact Gives.pos h3 (Gives.some (hlen _))
  refine Gives.neg h3 ?_
  by_cases h4 : x = wEnd
  · rw [show instrS x r = endS r by unfold instrS; rw [if_neg h1, if_neg h2, if_neg h3, if_pos h4]]
    refine Gives.pos h4 (Gives.bindE sub_tail (Gives.bindE (m_numbers g r hr) ?_))
    unfold endS
    cases numsS r with
    | none => exact Gives.bindE (a := true) (if_neg (by simp [resL])) (Gives.pos rfl (Gives.some rfl))
    | some l =>
      match l with
      | [] => exact Gives.bindE (a := true) rfl (Gives.pos rfl (Gives.some rfl))
      | [n] => exact Gives.bindE (a := false) rfl (Gives.neg (by decide) (Gives.bindE (show [n][0]? = some n from rfl) (Gives.some rfl)))
      | a :: b :: l =>
        refine Gives.bindE (a := true) ?_ (Gives.pos rfl (Gives.some rfl))
        rw [if_pos (show (resL (some (a :: b :: l))).2 = true from rfl)]
        congr 1
  refine Gives.neg h4 ?_
  by_cases h5 : x = wNode
  · refine Gives.pos h5 ?_
    match r, hr with
    | [], _ =>
      refine Gives.neg (by rw [List.length_singleton]; omega) (Gives.some ?_)
      show instrS x [] = none
      unfold instrS
      rw [if_neg h1, if_neg h2, if_neg h3, if_neg h4, if_pos h5]; rfl
    | k :: ws, hr =>
      rw [show instrS x (k :: ws) = nodeS k ws by unfold instrS; rw [if_neg h1, if_neg h2, if_neg h3, if_neg h4, if_pos h5]; rfl]
      refine Gives.pos (by rw [List.length_cons, List.length_cons]; omega) (Gives.bindE (show (x :: k :: ws)[1]? = some k from rfl) (Gives.bindE (a := ws) ?_ (Gives.bind _ (m_node g k ws hr.tail) fun q hq => Gives.some hq)))
      rw [sub_ok ⟨by decide, by rw [List.length_cons, List.length_cons]; omega, Int.le_refl _⟩, Int.toNat_natCast, List.take_length]; rfl
  refine Gives.neg h5 (Gives.some ?_)
  show instrS x r = none
  unfold instrS
  rw [if_neg h1, if_neg h2, if_neg h3, if_neg h4, if_neg h5]
theorem r_instr (g : Nat) (x : List UInt8) (r : List (List UInt8)) (hxr : Small (x :: r)) : Gives (m_ref14_instr g (x :: r)) (Is (instrS x r)) := by
  have hr := hxr.tail
  unfold m_ref14_instr
  refine Gives.bindE (show (x :: r)[0]? = some x from rfl) ?_
  have hlen : ∀ i : DInstr, Is (if r = [] then some i else none) (i, decide ((((x :: r).length : Nat) : Int) = 1)) := by
    intro i
    match r with
    | [] => rfl
    | y :: r => exact (decide_eq_false (by rw [List.length_cons, List.length_cons]; omega) : decide ((((x :: y :: r).length : Nat) : Int) = 1) = false)
  by_cases h2 : x = wFree
  · rw [show instrS x r = _ by unfold instrS; rw [if_neg (show ¬ x = wMatch by rw [h2]; decide), if_pos h2]]
    exact Gives.pos h2 (Gives.some (hlen _))
  refine Gives.neg h2 ?_
  by_cases h3 : x = wStop
  · rw [show instrS x r = _ by unfold instrS; rw [if_neg (show ¬ x = wMatch by rw [h3]; decide), if_neg h2, if_pos h3]]
    exact Gives.pos h3 (Gives.some (hlen _))
  refine Gives.neg h3 ?_
  by_cases h5 : x = wNode
  · have e : ∀ r, instrS x r = nodeT r := fun r => by
      unfold instrS; rw [if_neg (show ¬ x = wMatch by rw [h5]; decide), if_neg h2, if_neg h3, if_neg (show ¬ x = wEnd by rw [h5]; decide), if_pos h5]
    rw [e r]
    refine Gives.pos h5 (Gives.bindE sub_tail ?_)
    clear hxr
    match r, hr with
    | [], _ => exact Gives.bindE (a := ((2 : Int), (0 : Int), (0 : Int), (0 : Int), ([] : List UInt8), ([] : List Int), false)) rfl (Gives.some rfl)
    | k :: ws, hr => exact Gives.bind _ (r_made g k ws hr.tail) fun q hq => Gives.some hq
  refine Gives.neg h5 ?_
  by_cases h4 : x = wEnd
  · rw [show instrS x r = endS r by unfold instrS; rw [if_neg (show ¬ x = wMatch by rw [h4]; decide), if_neg h2, if_neg h3, if_pos h4]]
    refine Gives.pos h4 (Gives.bindE sub_tail (Gives.bindE (r_all g r hr) ?_))
    unfold endS
    cases numsS r with
    | none => exact Gives.bindE (a := true) (if_neg (by simp [resL])) (Gives.pos rfl (Gives.some rfl))
    | some l =>
      match l with
      | [] => exact Gives.bindE (a := true) rfl (Gives.pos rfl (Gives.some rfl))
      | [n] => exact Gives.bindE (a := false) rfl (Gives.neg (by decide) (Gives.bindE (show [n][0]? = some n from rfl) (Gives.some rfl)))
      | a :: b :: l =>
        refine Gives.bindE (a := true) ?_ (Gives.pos rfl (Gives.some rfl))
        rw [if_pos (show (resL (some (a :: b :: l))).2 = true from rfl)]
        congr 1
  refine Gives.neg h4 ?_
  by_cases h1 : x = wMatch
  · rw [show instrS x r = matchS r by unfold instrS; rw [if_pos h1]]
    refine Gives.pos h1 ?_
    unfold matchS
    refine Gives.ite (fun c => Gives.some ?_) (fun c => ?_)
    · rw [if_pos (by rw [List.length_cons] at c; omega)]; rfl
    rw [if_neg (by rw [List.length_cons] at c; omega)]
    refine Gives.bindE (a := r.take 2) ?_ (Gives.bindE (r_all g _ (hr.take 2)) ?_)
    · rw [sub_ok ⟨by decide, by decide, by omega⟩]; rfl
    cases hn : numsS (r.take 2) with
    | none => exact Gives.neg (by simp [resL]) (Gives.some rfl)
    | some l =>
      have hl : l.length = 2 := by rw [mapF_length hn, List.length_take]; rw [List.length_cons] at c; omega
      obtain ⟨e0, e1⟩ := two_of hl
      refine Gives.pos rfl (Gives.bindE e0 (Gives.bindE e1 ?_))
      refine G_map (bad := (({ Op := 0, A := 0, B := 0, N := 0, Name := [], Args := [], Cases := [] } : DInstr), false)) (x :: r) jumpS 3 (by omega) (fun a i y hy hi ha => ?_) (fun a => ?_) (fun ys h => Gives.some ?_) (fun h => ?_)
      · refine Gives.pos (by dsimp only; omega) (Gives.bindE hy (Gives.bind _ (r_jump g y (hxr.at hy)) fun q hq => ?_))
        have hll := hxr.1
        cases hj : jumpS y with
        | none =>
          rw [hj] at hq
          exact Gives.neg (by rw [show q.2 = false from hq]; decide) (Gives.some rfl)
        | some z =>
          rw [hj] at hq
          have hq : q = (z, true) := hq
          subst hq
          exact Gives.pos rfl (Gives.bindE (push_small 1000000 (by dsimp only; rw [List.length_singleton]; omega) ⟨by decide, by decide⟩) (Gives.some rfl))
      · rw [if_neg (by dsimp only; omega)]
      · rw [show mapF jumpS (r.drop 2) = some ys from h]; rfl
      · rw [show mapF jumpS (r.drop 2) = none from h]; rfl
  rw [show instrS x r = none by unfold instrS; rw [if_neg h1, if_neg h2, if_neg h3, if_neg h4, if_neg h5]]
  exact Gives.neg h1 (Gives.some rfl)
end Go.Proofs.YtefclodjekeeiaaGreatDoor
