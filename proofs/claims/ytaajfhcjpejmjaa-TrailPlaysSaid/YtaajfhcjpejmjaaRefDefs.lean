/- The reference's trail, in plain words and in memory. -/
import Derived.Test.YtaajfhcjpejmjaaKeptDefs
import Derived.Test.YtaajfhcjpejmjaaPlay3
import Derived.Test.YtaajfhcjpejmjaaSyStar
namespace Go.Proofs.Ytaajfhcjpejmjaa
open Go Go.Sy Go.RowKit
structure Mk where
  bef : List Int
  chg : List Bool
/-- The cells, and the marks, the last one first. -/
structure RS where
  cells : List Int
  ms : List Mk
def bools (l : List Bool) : List Value := l.map Value.bool
def orTo (p q : List Bool) : Nat → List Bool
  | 0 => p
  | j + 1 => (orTo p q j).set j ((orTo p q j).getD j false || q.getD j false)
theorem orTo_length (p q : List Bool) : ∀ j, (orTo p q j).length = p.length
  | 0 => rfl
  | j + 1 => by unfold orTo; rw [List.length_set]; exact orTo_length p q j
def chg0 (x : Sh) : List Mk → List Mk
  | [] => []
  | m :: r => ⟨m.bef, m.chg.set x.a.toNat true⟩ :: r
def RS.step (n : Nat) (s : RS) (x : Sh) : RS :=
  if x.k = 0 then ⟨s.cells.set x.a.toNat x.v, chg0 x s.ms⟩
  else if x.k = 1 then ⟨s.cells, ⟨s.cells, List.replicate n false⟩ :: s.ms⟩
  else match s.ms with
    | [] => s
    | m :: r =>
      if x.k = 2 then ⟨m.bef, ⟨m.bef, List.replicate n false⟩ :: r⟩
      else if x.k = 3 then ⟨s.cells, match r with | [] => [] | p :: r => ⟨p.bef, orTo p.chg m.chg n⟩ :: r⟩
      else ⟨m.bef, r⟩
def rplays (n : Nat) : List Sh → RS → Option RS
  | [], s => some s
  | x :: l, s => if x.k > 1 ∧ s.ms = [] then none else rplays n l (s.step n x)
def rstart (n : Nat) : RS := ⟨List.replicate n 0, []⟩
theorem rplays_drop {n : Nat} {l : List Sh} {i : Nat} {x : Sh} {s : RS} (h : l[i]? = some x) : rplays n (l.drop i) s = if x.k > 1 ∧ s.ms = [] then none else rplays n (l.drop (i + 1)) (s.step n x) := by
  obtain ⟨hi, rfl⟩ := List.getElem?_eq_some_iff.1 h
  rw [List.drop_eq_getElem_cons hi]; rfl
structure RWF (n : Nat) (s : RS) : Prop where
  len : s.cells.length = n
  ms : ∀ m ∈ s.ms, m.bef.length = n ∧ m.chg.length = n
theorem RWF.start (n : Nat) : RWF n (rstart n) := ⟨by simp [rstart], fun m h => by simp [rstart] at h⟩
theorem RWF.step {n : Nat} {s : RS} (h : RWF n s) (x : Sh) : RWF n (s.step n x) := by
  obtain ⟨cells, ms⟩ := s
  have hl : cells.length = n := h.len
  have hm : ∀ m ∈ ms, m.bef.length = n ∧ m.chg.length = n := h.ms
  unfold RS.step
  split
  · refine ⟨by simpa using hl, fun m hm' => ?_⟩
    cases ms with
    | nil => cases hm'
    | cons m0 r =>
      rcases List.mem_cons.1 hm' with rfl | hm'
      · simpa using hm m0 (by simp)
      · exact hm m (by simp [hm'])
  · split
    · refine ⟨hl, fun m hm' => ?_⟩
      rcases List.mem_cons.1 hm' with rfl | hm'
      · simpa using hl
      · exact hm m hm'
    · split
      · exact h
      · rename_i m0 r heq
        simp only at heq
        subst heq
        have h0 := hm m0 (by simp)
        split
        · refine ⟨h0.1, fun m hm' => ?_⟩
          rcases List.mem_cons.1 hm' with rfl | hm'
          · simpa using h0.1
          · exact hm m (by simp [hm'])
        · split
          · refine ⟨hl, fun m hm' => ?_⟩
            cases r with
            | nil => cases hm'
            | cons p r =>
              rcases List.mem_cons.1 hm' with rfl | hm'
              · have := hm p (by simp)
                exact ⟨this.1, by rw [orTo_length]; exact this.2⟩
              · exact hm m (by simp [hm'])
          · exact ⟨h0.1, fun m hm' => hm m (by simp [hm'])⟩
theorem rstep_len (n : Nat) (s : RS) (x : Sh) : (s.step n x).ms.length ≤ s.ms.length + 1 := by
  obtain ⟨cells, ms⟩ := s
  unfold RS.step
  split
  · cases ms <;> simp [chg0]
  · split
    · simp
    · cases ms with
      | nil => simp
      | cons m r =>
        simp only
        split
        · simp
        · split
          · cases r <;> simp
          · simp; omega
/-- The marks in memory: their cells one behind the other, the rows of what was changed, the last one first. -/
def MC (n : Nat) (F : PH) : List Value → List Chunk → List Mk → Prop
  | cs, C, [] => cs = [] ∧ C = []
  | cs, C, m :: r => ∃ B c D d cs' C', cs = cs' ++ [.slice B n c, .slice D n d] ∧ C = row D n d 4 1 (bools m.chg) :: C' ∧ Slc (Kind.int .i64) F B n m.bef ∧ n ≤ c ∧ MC n F cs' C' r
theorem MC.mono {n : Nat} {F F' : PH} (hl : PH.le F F') : ∀ {ms : List Mk} {cs : List Value} {C : List Chunk}, MC n F cs C ms → MC n F' cs C ms
  | [], _, _, h => h
  | _ :: _, _, _, ⟨B, c, D, d, cs', C', h1, h2, h3, h4, h5⟩ => ⟨B, c, D, d, cs', C', h1, h2, h3.mono hl, h4, MC.mono hl h5⟩
theorem MC.length {n : Nat} {F : PH} : ∀ {ms : List Mk} {cs : List Value} {C : List Chunk}, MC n F cs C ms → cs.length = ms.length * 2
  | [], _, _, h => by rw [h.1]; rfl
  | _ :: _, _, _, ⟨_, _, _, _, _, _, h1, _, _, _, h5⟩ => by rw [h1, List.length_append, MC.length h5, List.length_cons]; simp; omega
theorem at0 {cs : List Value} {k : Nat} {a b : Value} (h : cs.length = k) : (cs ++ [a, b])[k]? = some a := by subst h; simp
theorem at1 {cs : List Value} {k : Nat} {a b : Value} (h : cs.length = k) : (cs ++ [a, b])[k + 1]? = some b := by subst h; simp
theorem atlo {cs ds : List Value} {k : Nat} {a : Value} (h : cs[k]? = some a) : (cs ++ ds)[k]? = some a := by
  rw [List.getElem?_append_left (List.getElem?_eq_some_iff.1 h).1]; exact h
theorem set1 {cs : List Value} {k : Nat} {a b x : Value} (h : cs.length = k) : (cs ++ [a, b]).set (k + 1) x = cs ++ [a, x] := by
  subst h; rw [List.set_append_right _ _ (by omega)]; simp
theorem takelo {cs ds : List Value} {k : Nat} (h : cs.length = k) : (cs ++ ds).take k = cs := by subst h; simp
theorem bools_get {l : List Bool} {i : Nat} {v : Bool} (h : l[i]? = some v) : (bools l)[i]? = some (.bool v) := by unfold bools; simp [h]
theorem bools_set (l : List Bool) (i : Nat) (v : Bool) : bools (l.set i v) = (bools l).set i (.bool v) := by unfold bools; rw [List.map_set]
theorem bools_length (l : List Bool) : (bools l).length = l.length := by unfold bools; simp
theorem bools_replicate (k : Nat) : bools (List.replicate k false) = List.replicate k (.bool false) := by unfold bools; simp
theorem bools_getD {l : List Bool} {i : Nat} (h : i < l.length) : (bools l)[i]? = some (.bool (l.getD i false)) := by
  apply bools_get; rw [List.getD_eq_getElem?_getD, List.getElem?_eq_getElem h]; rfl
theorem ints_one (l : List Int) : ∀ u ∈ ints l, u.oneCell' = true := by
  intro u hu; unfold ints at hu; obtain ⟨x, _, rfl⟩ := List.mem_map.1 hu; rfl
theorem cat_ints {F : PH} : ∀ {l : List Int} {cs : List Value}, Cat (Kind.int .i64) F cs l → cs = ints l
  | [], _, h => h
  | x :: l, _, ⟨c, r, h, h1, h2⟩ => by
    have h1 : c = [.int .i64 x] := h1
    rw [h, h1, cat_ints h2]; rfl
theorem okSh_t {n : Int} {x : Sh} (h : (x.k = 0 ∧ 0 ≤ x.a ∧ x.a < n ∧ -1000000000 ≤ x.v ∧ x.v ≤ 1000000000) ∨ (1 ≤ x.k ∧ x.k ≤ 4 ∧ x.a = 0 ∧ x.v = 0)) : okSh n x = true := by
  unfold okSh
  split
  · omega
  · split
    · exact decide_eq_true (by omega)
    · exact decide_eq_true (by omega)
theorem okSh_cases {n : Int} {x : Sh} (h : okSh n x = true) : (x.k = 0 ∧ 0 ≤ x.a ∧ x.a < n) ∨ (1 ≤ x.k ∧ x.k ≤ 4) := by
  unfold okSh at h
  split at h
  · cases h
  · split at h
    · have := of_decide_eq_true h; exact .inl ⟨by assumption, this.1, this.2.1⟩
    · exact .inr (by omega)
theorem okSh_f {n : Int} {x : Sh} (h : ¬ ((x.k = 0 ∧ 0 ≤ x.a ∧ x.a < n ∧ -1000000000 ≤ x.v ∧ x.v ≤ 1000000000) ∨ (1 ≤ x.k ∧ x.k ≤ 4 ∧ x.a = 0 ∧ x.v = 0))) : okSh n x = false := by
  unfold okSh
  split
  · rfl
  · split
    · exact decide_eq_false (by omega)
    · exact decide_eq_false (by omega)
end Go.Proofs.Ytaajfhcjpejmjaa
