/- Both sides read a text alike. -/
import Derived.Test.YtefclodjekeeiaaGreatDoorCrC
import Derived.Test.YtefclodjekeeiaaGreatDoorCrD
import Derived.Test.YtefclodjekeeiaaGreatDoorCrF
namespace Go.Proofs.YtefclodjekeeiaaGreatDoor
open Go Go.Mir
set_option linter.unusedVariables false
def wCode : List UInt8 := [99, 111, 100, 101]
def putL (x : DCode) (ys : List DInstr) : DCode := DCode.mk x.Name x.Arity ys
def newS (r : List (List UInt8)) : Option DCode := match r with
  | [nm, n] => if wordS nm = true then (match numS n with | none => none | some k => some ⟨nm, k, []⟩) else none
  | _ => none
def lineW (out : List DCode) (w : List (List UInt8)) : Option (List DCode) := match w with
  | [] => none
  | x :: r => if x = wCode then (match newS r with | none => none | some f => some (out ++ [f]))
    else match instrS x r with
      | none => none
      | some i => if out = [] then none else setLast putL out (lastL DCode.L out ++ [i])
def lineS (out : List DCode) (l : List UInt8) : Option (List DCode) := lineW out (splitS 32 l)
def foldS : List DCode → List (List UInt8) → Nat → List DCode ⊕ Nat
  | out, [], _ => .inl out
  | out, l :: ls, i => match lineS out l with
    | none => .inr (i + 1)
    | some o => foldS o ls (i + 1)
def errS (out : List DCode) : Int := if bigS out = true then 3 else if out.all codeOk = true then 0 else 1
def doneS (out : List DCode) : List DCode × Int × Int := if errS out = 0 then (out, 0, 0) else ([], 0, errS out)
def parseS (s : List UInt8) : List DCode × Int × Int :=
  if s.length > 20000 then ([], 0, 3)
  else if s = [] then ([], 0, 0)
  else match foldS [] (splitS 10 (trimS s)) 0 with
    | .inr i => ([], (i : Int), 2)
    | .inl out => doneS out
theorem mapF_none {α β : Type} {f : α → Option β} {a : α} (h : f a = none) : ∀ {l : List α}, a ∈ l → mapF f l = none
  | x :: r, hm => by
    rw [mapF]
    rcases List.mem_cons.1 hm with rfl | hm
    · rw [h]
    · rw [mapF_none h hm]
      cases f x <;> rfl
theorem numS_nil : numS [] = none := rfl
theorem jumpS_nil : jumpS [] = none := rfl
theorem withArgs_nil {n : Int} {nm : List UInt8} {ws : List (List UInt8)} (h : [] ∈ ws) : withArgs n nm ws = none := by
  unfold withArgs numsS
  rw [mapF_none numS_nil h]
theorem named_nil {n : Int} {ws : List (List UInt8)} (h : [] ∈ ws) : named n ws = none := by
  unfold named
  match ws, h with
  | nm :: as, h =>
    dsimp only
    rcases List.mem_cons.1 h with h | h
    · rw [← h]; rfl
    · split
      · exact withArgs_nil h
      · rfl
theorem nodeS_nil {k : List UInt8} {ws : List (List UInt8)} (h : [] ∈ k :: ws) : nodeS k ws = none := by
  rcases List.mem_cons.1 h with h | h
  · rw [← h]; rfl
  · unfold nodeS
    have hne : ws ≠ [] := fun e => by rw [e] at h; cases h
    rw [named_nil h, named_nil h, withArgs_nil h, withArgs_nil h, if_neg hne]
    have h3 : intN ws = none := by
      match ws, h with
      | [x], h =>
        have : x = [] := (List.mem_singleton.1 h).symm
        subst this; rfl
      | _ :: _ :: _, _ => rfl
    rw [h3]
    repeat' split
    all_goals rfl
theorem instrS_nil {x : List UInt8} {r : List (List UInt8)} (h : [] ∈ x :: r) : instrS x r = none := by
  rcases List.mem_cons.1 h with h | h
  · rw [← h]; rfl
  · unfold instrS
    have hne : r ≠ [] := fun e => by rw [e] at h; cases h
    have hm : matchS r = none := by
      unfold matchS
      split
      · rfl
      · have h2 : [] ∈ r.take 2 ∨ [] ∈ r.drop 2 := by
          rw [← List.take_append_drop 2 r] at h
          exact List.mem_append.1 h
        rcases h2 with h2 | h2
        · rw [show numsS (r.take 2) = none from mapF_none numS_nil h2]
        · rw [mapF_none jumpS_nil h2]
          cases numsS (r.take 2) <;> rfl
    have he : endS r = none := by
      unfold endS
      rw [show numsS r = none from mapF_none numS_nil h]
    have hn : nodeT r = none := by
      match r, h with
      | k :: ws, h => exact nodeS_nil h
    rw [hm, he, if_neg hne, if_neg hne, hn]
    repeat' split
    all_goals rfl
theorem newS_nil {r : List (List UInt8)} (h : [] ∈ r) : newS r = none := by
  unfold newS
  match r, h with
  | [], h => cases h
  | [_], _ => rfl
  | [nm, n], h =>
    dsimp only
    rcases List.mem_cons.1 h with h | h
    · rw [← h]; rfl
    · rw [← List.mem_singleton.1 h]
      split <;> rfl
  | _ :: _ :: _ :: _, _ => rfl
theorem lineW_nil {out : List DCode} {w : List (List UInt8)} (h : [] ∈ w) : lineW out w = none := by
  match w, h with
  | x :: r, h =>
    unfold lineW
    dsimp only
    by_cases c : x = wCode
    · rw [if_pos c]
      rcases List.mem_cons.1 h with h | h
      · rw [← h] at c; cases c
      · rw [newS_nil h]
    · rw [if_neg c, instrS_nil h]
theorem lineW_le {out o : List DCode} {w : List (List UInt8)} {i : Nat} (h : lineW out w = some o) (h1 : out.length ≤ i) (h2 : ∀ f ∈ out, f.L.length ≤ i) : o.length ≤ i + 1 ∧ ∀ f ∈ o, f.L.length ≤ i + 1 := by
  unfold lineW at h
  match w, h with
  | x :: r, h =>
    dsimp only at h
    split at h
    · split at h
      · cases h
      · rename_i f hf
        cases h
        refine ⟨by simp; omega, fun f' hf' => ?_⟩
        rcases List.mem_append.1 hf' with hf' | hf'
        · have := h2 f' hf'; omega
        · rw [List.mem_singleton.1 hf']
          unfold newS at hf
          split at hf
          · split at hf
            · split at hf
              · cases hf
              · cases hf; exact Nat.zero_le _
            · cases hf
          · cases hf
    · split at h
      · cases h
      · split at h
        · cases h
        · rename_i hne
          rcases List.eq_nil_or_concat out with rfl | ⟨init, last, hl⟩
          · exact absurd rfl hne
          · rw [List.concat_eq_append] at hl
            subst hl
            rw [setLast_snoc, lastL_snoc] at h
            cases h
            refine ⟨by simp at h1 ⊢; omega, fun f' hf' => ?_⟩
            rcases List.mem_append.1 hf' with hf' | hf'
            · have := h2 f' (by simp [hf']); omega
            · rw [List.mem_singleton.1 hf']
              have := h2 last (by simp)
              simp only [putL, List.length_append, List.length_singleton]
              omega
theorem last_le {out : List DCode} {i : Nat} (h2 : ∀ f ∈ out, f.L.length ≤ i) : (lastL DCode.L out).length ≤ i := by
  rcases List.eq_nil_or_concat out with rfl | ⟨init, last, hl⟩
  · exact Nat.zero_le _
  · rw [List.concat_eq_append] at hl
    subst hl
    rw [lastL_snoc]
    exact h2 last (by simp)
theorem setLast_some {out : List DCode} (h : out ≠ []) (ys : List DInstr) : ∃ o, setLast putL out ys = some o := by
  rcases List.eq_nil_or_concat out with rfl | ⟨init, last, hl⟩
  · exact absurd rfl h
  · rw [List.concat_eq_append] at hl
    subst hl
    exact ⟨_, setLast_snoc⟩
theorem idx_last {out : List DCode} (h : out ≠ []) : ∃ f, Mir.idx out (((out.length : Nat) : Int) - 1) = some f := by
  have := List.length_pos_iff.2 h
  exact ⟨_, by rw [show ((out.length : Nat) : Int) - 1 = ((out.length - 1 : Nat) : Int) by omega]; exact idx_ok (by omega)⟩
/-- The instruction is put behind. -/
theorem addI {out : List DCode} {i : DInstr} {n : Nat} (h : out ≠ []) (hn : n ≤ 100000) (h2 : ∀ f ∈ out, f.L.length ≤ n) {β : Type} {P : β → Prop} {k : List DCode → Option β} (hk : ∀ o, setLast putL out (lastL DCode.L out ++ [i]) = some o → Gives (k o) P) : Gives (
                  (Mir.idx out (((out.length : Nat) : Int) - 1)).bind fun x179 =>
                  (Mir.push 96 (Mir.lastL DCode.L out) [i]).bind fun x192 =>
                  (Mir.idx out (((out.length : Nat) : Int) - 1)).bind fun x195 =>
                  (Mir.setLast (fun (x : DCode) ys => DCode.mk x.Name x.Arity ys) out x192).bind k) P := by
  obtain ⟨f, hf⟩ := idx_last h
  obtain ⟨o, ho⟩ := setLast_some h (lastL DCode.L out ++ [i])
  have hl := last_le h2
  exact Gives.bindE hf (Gives.bindE (push_small 1000000 (by rw [List.length_singleton]; omega) ⟨by decide, by decide⟩) (Gives.bindE hf (Gives.bindE ho (hk o ho))))
theorem lines_small {s : List UInt8} (hs : s.length ≤ 20000) : (splitS 10 (trimS s)).length ≤ 20001 ∧ ∀ w ∈ splitS 10 (trimS s), w.length ≤ 20000 := by
  obtain ⟨h1, h2⟩ := splitS_small 10 (trimS s)
  have h3 := trimS_le s
  exact ⟨by omega, fun w hw => by have := h2 w hw; omega⟩
theorem words_small {l : List UInt8} (hl : l.length ≤ 20000) : Small (splitS 32 l) := by
  obtain ⟨h1, h2⟩ := splitS_small 32 l
  exact ⟨by omega, fun w hw => by have := h2 w hw; omega⟩
theorem drop_fold {out : List DCode} {W : List (List UInt8)} {i : Nat} {l : List UInt8} (hx : W[i]? = some l) (hi : i < W.length) : foldS out (W.drop i) i = match lineS out l with | none => .inr (i + 1) | some o => foldS o (W.drop (i + 1)) (i + 1) := by
  rw [List.drop_eq_getElem_cons hi, (List.getElem?_eq_some_iff.1 hx).2]
  rfl
/-- A loop through the lines. -/
theorem G_lines {W : List (List UInt8)} {body : List DCode × Nat → Option ((List DCode × Nat) ⊕ (List DCode ⊕ (List DCode × Int × Int)))} {k : List DCode → Option (List DCode × Int × Int)} {R : List DCode × Int × Int → Prop} (hW : W.length ≤ 20001)
    (h : ∀ out i l, W[i]? = some l → i < W.length → out.length ≤ i → (∀ f ∈ out, f.L.length ≤ i) → Gives (body (out, i)) (fun o => match lineS out l with | none => o = .inr (.inr ([], ((i + 1 : Nat) : Int), 2)) | some x => o = .inl (x, i + 1)))
    (he : ∀ out, body (out, W.length) = some (.inr (.inl out))) (hk : ∀ out, foldS [] W 0 = .inl out → Gives (k out) R) (hb : ∀ i, foldS [] W 0 = .inr i → R ([], (i : Int), 2)) : Gives (jx (Mir.Loop (([] : List DCode), (0 : Nat)) body) k) R := by
  refine Gives.jx (fun out => foldS [] W 0 = .inl out) (Gives.loop (fun st => st.2 ≤ W.length ∧ foldS [] W 0 = foldS st.1 (W.drop st.2) st.2 ∧ st.1.length ≤ st.2 ∧ ∀ f ∈ st.1, f.L.length ≤ st.2) (fun st => W.length - st.2) ⟨Nat.zero_le _, rfl, Nat.zero_le _, fun f hf => by cases hf⟩ ?_) (fun out ho => hk out ho)
  rintro ⟨out, i⟩ ⟨h1, h2, h3, h4⟩
  dsimp only at h1 h2 h3 h4 ⊢
  rcases Nat.lt_or_ge i W.length with hi | hi
  · have hx := List.getElem?_eq_getElem hi
    rw [drop_fold hx hi] at h2
    refine (h out i _ hx hi h3 h4).mono fun o ho => ?_
    cases hl : lineS out W[i] with
    | none =>
      rw [hl] at ho h2
      have ho : o = .inr (.inr ([], ((i + 1 : Nat) : Int), 2)) := ho
      subst ho
      exact hb _ h2
    | some x =>
      rw [hl] at ho h2
      have ho : o = .inl (x, i + 1) := ho
      subst ho
      have := lineW_le hl h3 h4
      exact ⟨⟨hi, h2, this.1, this.2⟩, by dsimp only; omega⟩
  · obtain rfl : i = W.length := by omega
    rw [List.drop_of_length_le (Nat.le_refl _)] at h2
    exact ⟨_, he out, h2⟩
theorem m_Parse (g : Nat) (s : List UInt8) : m_code_Parse g s = some (parseS s) := by
  unfold m_code_Parse parseS
  by_cases h0 : s.length > 20000
  · rw [if_pos (by omega), if_pos h0]
  rw [if_neg (by omega), if_neg h0]
  by_cases h1 : s = []
  · rw [if_pos h1, if_pos h1]
  rw [if_neg h1, if_neg h1]
  rw [m_Trim g s h1 (by omega), Option.bind_some, m_Split g _ 10 (by have := trimS_le s; omega), Option.bind_some]
  obtain ⟨hW, hw⟩ := lines_small (s := s) (by omega)
  generalize splitS 10 (trimS s) = W at *
  refine Gives.eq (G_lines hW (fun out i l hx hi ho hf => ?_) (fun out => ?_) (fun out ho => ?_) (fun i hi => ?_))
  · have hl : l.length ≤ 20000 := hw l (List.mem_of_getElem? hx)
    refine Gives.pos (by dsimp only; omega) ?_
    dsimp only
    refine Gives.jx (fun o => lineS out l = some o) (Gives.bindE hx (Gives.bindE (m_Split g l 32 (by omega)) ?_)) (fun o hlo => Gives.some (by rw [hlo]))
    unfold lineS
    have hs := words_small hl
    have badW : ∀ w, lineW out w = none → Two (fun o => lineW out w = some o) (fun o : (List DCode × Nat) ⊕ (List DCode ⊕ (List DCode × Int × Int)) => match lineW out w with | none => o = .inr (.inr ([], ((i + 1 : Nat) : Int), 2)) | some x => o = .inl (x, i + 1)) (.inr (.inr (.inr ([], ((i + 1 : Nat) : Int), 2)))) := by
      intro w hw
      rw [hw]
      exact (rfl : (Sum.inr (Sum.inr (([] : List DCode), ((i + 1 : Nat) : Int), (2 : Int))) : (List DCode × Nat) ⊕ (List DCode ⊕ (List DCode × Int × Int))) = _)
    match hsp : splitS 32 l, hs with
    | [], _ => exact absurd hsp (splitS_ne 32 l)
    | x :: r, hs =>
      refine Gives.bindE (show (x :: r)[0]? = some x from rfl) ?_
      by_cases c : x = wCode
      · have e : lineW out (x :: r) = match newS r with | none => none | some f => some (out ++ [f]) := if_pos c
        refine Gives.pos c ?_
        match r, hs, e with
        | [], _, e => exact Gives.bindE (a := true) rfl (Gives.pos rfl (Gives.some (badW _ e)))
        | [a], _, e => exact Gives.bindE (a := true) rfl (Gives.pos rfl (Gives.some (badW _ e)))
        | a :: b :: d :: r, _, e =>
          exact Gives.bindE (a := true) (if_neg (by rw [List.length_cons, List.length_cons, List.length_cons, List.length_cons]; omega)) (Gives.pos rfl (Gives.some (badW _ e)))
        | [nm, n], hs, e =>
          have e2 : newS [nm, n] = if wordS nm = true then (match numS n with | none => none | some k => some ⟨nm, k, []⟩) else none := rfl
          refine Gives.bindE (a := !wordS nm) ?_ ?_
          · rw [if_pos (by rfl), show [x, nm, n][1]? = some nm from rfl, Option.bind_some, m_isWord g nm (hs.2 nm (by simp))]; rfl
          · cases hwd : wordS nm with
            | false =>
              refine Gives.pos rfl (Gives.some (badW _ ?_))
              rw [e, e2, hwd]; rfl
            | true =>
              refine Gives.neg (by decide) (Gives.bindE (show [x, nm, n][2]? = some n from rfl) (Gives.bindE (m_number g n false) ?_))
              rw [if_neg (show ¬ (false = true) by decide)]
              cases hnn : numS n with
              | none =>
                refine Gives.neg (by simp [resI]) (Gives.some (badW _ ?_))
                rw [e, e2, hwd, hnn]; rfl
              | some k =>
                refine Gives.pos rfl (Gives.bindE (show [x, nm, n][1]? = some nm from rfl) (Gives.bindE (push_small 1000000 (by rw [List.length_singleton]; omega) ⟨by decide, by decide⟩) (Gives.some ?_)))
                rw [e, e2, hwd, hnn]
                exact (rfl : some (out ++ [(⟨nm, k, []⟩ : DCode)]) = _)
      · have e : lineW out (x :: r) = match instrS x r with
            | none => none
            | some i => if out = [] then none else setLast putL out (lastL DCode.L out ++ [i]) := if_neg c
        refine Gives.neg c (Gives.bind _ (m_instr g x r hs.tail) fun q hq => ?_)
        cases hI : instrS x r with
        | none =>
          rw [hI] at hq e
          exact Gives.bindE (a := true) (if_neg (by rw [show q.2 = false from hq]; decide)) (Gives.pos rfl (Gives.some (badW _ e)))
        | some ins =>
          rw [hI] at hq e
          have hq : q = (ins, true) := hq
          subst hq
          refine Gives.bindE (a := decide (((out.length : Nat) : Int) = 0)) (if_pos rfl) ?_
          dsimp only at e ⊢
          by_cases hout : out = []
          · rw [if_pos hout] at e
            exact Gives.pos (decide_eq_true (len0.2 hout)) (Gives.some (badW _ e))
          · rw [if_neg hout] at e
            refine Gives.neg (fun h => hout (len0.1 (of_decide_eq_true h))) (addI hout (by omega) hf (fun o h => Gives.some (e.trans h)))
  · exact if_neg (by dsimp only; omega)
  · refine Gives.bindE (m_printed g out) ?_
    rw [ho]
    show Gives _ (fun q => q = doneS out)
    unfold doneS
    refine Gives.ite (fun c => Gives.some ?_) (fun c => Gives.some ?_)
    · rw [if_pos (show errS out = 0 from c)]
    · rw [if_neg (show ¬ errS out = 0 from c)]; rfl
  · rw [hi]
def areW (w : List (List UInt8)) : Bool := w.all (fun s => !decide (s = []))
theorem r_areWords (g : Nat) (w : List (List UInt8)) : m_ref14_areWords g w = some (areW w) := by
  unfold m_ref14_areWords areW
  refine Gives.eq (G_all (bad := false) w (fun s => !decide (s = [])) (fun i x hx hi => ?_) ?_ (fun h => Gives.some h.symm) (fun h => h.symm))
  · refine Gives.pos (by omega) (Gives.bindE hx (Gives.ite (fun c => Gives.some ?_) (fun c => Gives.some ?_)))
    · rw [decide_eq_true c]; rfl
    · rw [decide_eq_false c]; rfl
  · rw [if_neg (by omega)]
theorem areW_no {w : List (List UInt8)} (h : areW w = false) : [] ∈ w := by
  unfold areW at h
  rw [List.all_eq_false] at h
  obtain ⟨x, hx, h2⟩ := h
  have : x = [] := by simpa using h2
  rw [← this]; exact hx
theorem r_Parse (g : Nat) (s : List UInt8) : m_ref14_Parse g s = some (parseS s) := by
  unfold m_ref14_Parse parseS
  by_cases h0 : s.length > 20000
  · rw [if_pos (by omega), if_pos h0]
  rw [if_neg (by omega), if_neg h0]
  by_cases h1 : s = []
  · rw [if_pos h1, if_pos h1]
  rw [if_neg h1, if_neg h1]
  have hl := List.length_pos_iff.2 h1
  obtain ⟨b, hb⟩ : ∃ b, s.getLast? = some b := ⟨_, List.getLast?_eq_some_getLast h1⟩
  have hix : Mir.idx s (((s.length : Nat) : Int) - 1) = some b := by
    have h2 := getLast_at h1
    rw [hb] at h2
    rw [show ((s.length : Nat) : Int) - 1 = ((s.length - 1 : Nat) : Int) by omega, idx_nat, h2]
  have htrim : (if ((b.toNat : Nat) : Int) = 10 then
          (Mir.sub s 0 (((s.length : Nat) : Int) - 1)).bind fun x12 =>
          some x12
        else
          some s) = some (trimS s) := by
    unfold trimS
    rw [hb]
    by_cases hc : b = 10
    · subst hc
      rw [if_pos (by decide), if_pos rfl, sub_init h1]; rfl
    · rw [if_neg (fun e => hc (UInt8.toNat_inj.1 (by rw [show (10 : UInt8).toNat = 10 from rfl]; omega))), if_neg (by simpa using hc)]
  rw [show small s = some () from if_pos (by omega), Option.bind_some, hix, Option.bind_some, htrim, Option.bind_some, m_Split g _ 10 (by have := trimS_le s; omega), Option.bind_some]
  obtain ⟨hW, hw⟩ := lines_small (s := s) (by omega)
  generalize splitS 10 (trimS s) = W at *
  refine Gives.eq (G_lines hW (fun out i l hx hi ho hf => ?_) (fun out => ?_) (fun out ho => ?_) (fun i hi => ?_))
  · have hl : l.length ≤ 20000 := hw l (List.mem_of_getElem? hx)
    refine Gives.pos (by dsimp only; omega) ?_
    dsimp only
    refine Gives.jx (fun o => lineS out l = some o) (Gives.bindE hx (Gives.bindE (m_Split g l 32 (by omega)) (Gives.bindE (r_areWords g _) ?_))) (fun o hlo => Gives.some (by rw [hlo]))
    unfold lineS
    have hs := words_small hl
    have badW : ∀ w, lineW out w = none → Two (fun o => lineW out w = some o) (fun o : (List DCode × Nat) ⊕ (List DCode ⊕ (List DCode × Int × Int)) => match lineW out w with | none => o = .inr (.inr ([], ((i + 1 : Nat) : Int), 2)) | some x => o = .inl (x, i + 1)) (.inr (.inr (.inr ([], ((i + 1 : Nat) : Int), 2)))) := by
      intro w hw
      rw [hw]
      exact (rfl : (Sum.inr (Sum.inr (([] : List DCode), ((i + 1 : Nat) : Int), (2 : Int))) : (List DCode × Nat) ⊕ (List DCode ⊕ (List DCode × Int × Int))) = _)
    match hsp : splitS 32 l, hs with
    | [], _ => exact absurd hsp (splitS_ne 32 l)
    | x :: r, hs =>
      refine Gives.ite (fun ca => ?_) (fun ca => Gives.some (badW _ (lineW_nil (areW_no (by simpa using ca)))))
      refine Gives.bindE (show (x :: r)[0]? = some x from rfl) ?_
      by_cases c : x = wCode
      · have e : lineW out (x :: r) = match newS r with | none => none | some f => some (out ++ [f]) := if_pos c
        refine Gives.pos c ?_
        match r, hs, e with
        | [], _, e => exact Gives.neg (by rw [List.length_singleton]; omega) (Gives.some (badW _ e))
        | [a], _, e => exact Gives.neg (by rw [List.length_cons, List.length_cons]; simp) (Gives.some (badW _ e))
        | a :: b :: d :: r, _, e =>
          exact Gives.neg (by rw [List.length_cons, List.length_cons, List.length_cons, List.length_cons]; omega) (Gives.some (badW _ e))
        | [nm, n], hs, e =>
          have e2 : newS [nm, n] = if wordS nm = true then (match numS n with | none => none | some k => some ⟨nm, k, []⟩) else none := rfl
          refine Gives.pos rfl (Gives.bindE (show [x, nm, n][2]? = some n from rfl) (Gives.bindE (r_number g n (hs.2 n (by simp))) ?_))
          cases hnn : numS n with
          | none =>
            refine Gives.bindE (a := true) (if_neg (by simp [resI])) (Gives.pos rfl (Gives.some (badW _ ?_)))
            rw [e, e2, hnn]
            cases wordS nm <;> rfl
          | some k =>
            refine Gives.bindE (a := !wordS nm) ?_ ?_
            · rw [if_pos (by rfl), show [x, nm, n][1]? = some nm from rfl, Option.bind_some, r_isRun g nm (hs.2 nm (by simp))]; rfl
            · cases hwd : wordS nm with
              | false =>
                refine Gives.pos rfl (Gives.some (badW _ ?_))
                rw [e, e2, hwd]; rfl
              | true =>
                refine Gives.neg (by decide) (Gives.bindE (show [x, nm, n][1]? = some nm from rfl) (Gives.bindE (push_small 1000000 (by rw [List.length_singleton]; omega) ⟨by decide, by decide⟩) (Gives.some ?_)))
                rw [e, e2, hwd, hnn]
                exact (rfl : some (out ++ [(⟨nm, k, []⟩ : DCode)]) = _)
      · have e : lineW out (x :: r) = match instrS x r with
            | none => none
            | some i => if out = [] then none else setLast putL out (lastL DCode.L out ++ [i]) := if_neg c
        refine Gives.neg c (Gives.bind _ (r_instr g x r hs) fun q hq => ?_)
        cases hI : instrS x r with
        | none =>
          rw [hI] at hq e
          exact Gives.bindE (a := true) (if_neg (by rw [show q.2 = false from hq]; decide)) (Gives.pos rfl (Gives.some (badW _ e)))
        | some ins =>
          rw [hI] at hq e
          have hq : q = (ins, true) := hq
          subst hq
          refine Gives.bindE (a := decide (((out.length : Nat) : Int) = 0)) (if_pos rfl) ?_
          dsimp only at e ⊢
          by_cases hout : out = []
          · rw [if_pos hout] at e
            exact Gives.pos (decide_eq_true (len0.2 hout)) (Gives.some (badW _ e))
          · rw [if_neg hout] at e
            refine Gives.neg (fun h => hout (len0.1 (of_decide_eq_true h))) (addI hout (by omega) hf (fun o h => Gives.some (e.trans h)))
  · exact if_neg (by dsimp only; omega)
  · refine Gives.bindE (r_sizes g out) ?_
    rw [ho]
    show Gives _ (fun q => q = doneS out)
    unfold doneS errS
    cases bigS out with
    | true => exact Gives.neg (by decide) (Gives.some rfl)
    | false =>
      refine Gives.pos rfl (Gives.bindE (r_isTold g out) ?_)
      cases out.all codeOk with
      | true => exact Gives.pos rfl (Gives.some rfl)
      | false => exact Gives.neg (by decide) (Gives.some rfl)
  · rw [hi]
end Go.Proofs.YtefclodjekeeiaaGreatDoor
