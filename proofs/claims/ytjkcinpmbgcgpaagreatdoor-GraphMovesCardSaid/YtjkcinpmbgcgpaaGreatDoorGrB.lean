/- Data types: what is checked of them is told for all. -/
import Derived.Test.YtjkcinpmbgcgpaaGreatDoorGrA
namespace Go.Proofs.YtjkcinpmbgcgpaaGreatDoor
open Go Go.Mir
set_option linter.unusedVariables false
def sumN {α : Type} (f : α → Nat) (l : List α) : Nat := (l.map f).foldr (· + ·) 0
theorem sumN_nil {α : Type} (f : α → Nat) : sumN f ([] : List α) = 0 := rfl
theorem sumN_cons {α : Type} (f : α → Nat) (x : α) (l : List α) : sumN f (x :: l) = f x + sumN f l := rfl
theorem sumN_append {α : Type} (f : α → Nat) (l m : List α) : sumN f (l ++ m) = sumN f l + sumN f m := by
  induction l with
  | nil => rw [List.nil_append, sumN_nil, Nat.zero_add]
  | cons x l ih => rw [List.cons_append, sumN_cons, sumN_cons, ih, Nat.add_assoc]
theorem sumN_le {α : Type} {f : α → Nat} {l : List α} {n : Nat} (h : ∀ x ∈ l, f x ≤ n) : sumN f l ≤ l.length * n := by
  induction l with
  | nil => rw [sumN_nil]; exact Nat.zero_le _
  | cons x l ih =>
    have h1 := h x List.mem_cons_self
    have h2 := ih fun y hy => h y (List.mem_cons_of_mem _ hy)
    rw [sumN_cons, List.length_cons, Nat.add_mul, Nat.one_mul]; omega
theorem take_next {α : Type} {l : List α} {i : Nat} {x : α} (h : l[i]? = some x) : l.take (i + 1) = l.take i ++ [x] := by
  obtain ⟨hi, rfl⟩ := List.getElem?_eq_some_iff.1 h
  rw [List.take_add_one, h]; rfl
/-- How many nodes a type has. -/
def cntT : DType → Nat
  | ⟨_, as⟩ => 1 + go as
where go : List DType → Nat
  | [] => 0
  | x :: r => cntT x + go r
theorem cntT_go (l : List DType) : cntT.go l = sumN cntT l := by
  induction l with
  | nil => rfl
  | cons x l ih => rw [cntT.go, ih]; rfl
theorem cntT_eq (t : DType) : cntT t = 1 + sumN cntT t.Args := by
  cases t with
  | mk n as => rw [cntT, cntT_go]
theorem size_arg {t x : DType} (h : x ∈ t.Args) : SizeOf.sizeOf x < SizeOf.sizeOf t := by
  cases t with
  | mk n as =>
    have := List.sizeOf_lt_of_mem h
    simp only [DType.mk.sizeOf_spec]
    simp only at this
    omega
theorem w64_lit {i : Int} (h : -9223372036854775808 ≤ i ∧ i ≤ 9223372036854775807) : w64 i = i := w64_eq (by omega)
/-- The walk through a type: the nodes are counted, or there are too many. -/
theorem g_tLarge1 : ∀ (g : Nat) (t : DType) (r : Int) (n : Nat), SizeOf.sizeOf t ≤ g → -200 ≤ r → r ≤ 40 → n ≤ 200 → Gives (m_types_IsLarge_f1 g t r (n : Int)) fun q => q.1 = false → q.2 = ((n + cntT t : Nat) : Int) ∧ n + cntT t ≤ 200 := by
  intro g
  induction g with
  | zero =>
    intro t r n h
    cases t with
    | mk n as => simp only [DType.mk.sizeOf_spec] at h; omega
  | succ g ih =>
    intro t r n hg hr hr2 hn
    rw [m_types_IsLarge_f1]
    have hw : w64 ((n : Int) + 1) = ((n + 1 : Nat) : Int) := w64_lit (by omega)
    rw [hw]
    refine Gives.bind (fun z => z = false → n + 1 ≤ 200 ∧ 1 ≤ r) (Gives.ite (fun _ => Gives.some fun h => by cases h) fun h => Gives.some fun h2 => ⟨by omega, by have := of_decide_eq_false h2; omega⟩) fun z hz => Gives.ite (fun _ => Gives.some fun h => by cases h) fun hz' => ?_
    obtain ⟨h1, h2⟩ := hz (by simpa using hz')
    have hw2 : w64 (r - 1) = r - 1 := w64_lit (by omega)
    rw [hw2]
    refine Gives.jx (fun j => j = ((n + cntT t : Nat) : Int) ∧ n + cntT t ≤ 200) (G_each t.Args (fun s : Int × Nat => s.2) (fun s : Int × Nat => s.1 = ((n + 1 + sumN cntT (t.Args.take s.2) : Nat) : Int) ∧ n + 1 + sumN cntT (t.Args.take s.2) ≤ 200) ⟨by simp [sumN_nil], by simp only [List.take_zero, sumN_nil]; omega⟩ (Nat.zero_le _) (fun s x hs hc hx hm => ?_) (fun s hs hc => Gives.some ?_)) fun j hj => Gives.some fun _ => hj
    · rw [hs.1]
      refine Gives.bind _ (ih x (r - 1) _ (by have := size_arg hm; omega) (by omega) (by omega) hs.2) fun q hq => Gives.ite (fun _ => Gives.some fun h => by cases h) fun hb => Gives.some ?_
      obtain ⟨h3, h4⟩ := hq (by simpa using hb)
      have h5 : sumN cntT (t.Args.take (s.2 + 1)) = sumN cntT (t.Args.take s.2) + cntT x := by rw [take_next hx, sumN_append]; rfl
      refine ⟨⟨?_, ?_⟩, rfl⟩
      · show q.2 = _
        rw [h3, h5]; congr 1; omega
      · show n + 1 + sumN cntT (t.Args.take (s.2 + 1)) ≤ 200
        rw [h5]; omega
    · have h5 : t.Args.take s.2 = t.Args := by rw [hc, List.take_length]
      have h6 := cntT_eq t
      rw [h5] at hs
      have h7 : n + cntT t = n + 1 + sumN cntT t.Args := by omega
      exact ⟨by rw [hs.1, h7], by rw [h7]; exact hs.2⟩
theorem g_tLarge (g : Nat) (t : DType) (h : SizeOf.sizeOf t ≤ g) : Gives (m_types_IsLarge g t) fun q => q = false → cntT t ≤ 200 := by
  unfold m_types_IsLarge
  exact Gives.bind _ (g_tLarge1 g t 40 0 h (by omega) (by omega) (by omega)) fun q hq => Gives.some fun h => by have := (hq h).2; omega
theorem t_tEach : ∀ (g : Nat) (t : DType) (b : Bool), SizeOf.sizeOf t ≤ g → Tot (m_types_each g t b) := by
  intro g
  induction g with
  | zero =>
    intro t r h
    cases t with
    | mk n as => simp only [DType.mk.sizeOf_spec] at h; omega
  | succ g ih =>
    intro t b hg
    rw [m_types_each]
    refine Gives.bind (fun _ => True) ?_ fun q _ => G_each t.Args (fun s : Bool × Nat => s.2) (fun _ => True) trivial (Nat.zero_le _) (fun s x hs hc hx hm => Gives.bind _ (ih x _ (by have := size_arg hm; omega)) fun q hq => Gives.some ⟨trivial, rfl⟩) (fun s hs hc => Gives.some trivial)
    unfold m_types_Validate_f1
    exact Gives.ite (fun _ => Gives.bind _ (t_tNode g t) fun _ _ => Gives.some trivial) fun _ => Gives.some trivial
theorem g_tValid (g : Nat) (t : DType) (h : SizeOf.sizeOf t ≤ g) : Gives (m_types_Validate g t) fun q => q = 0 → cntT t ≤ 200 := by
  unfold m_types_Validate
  refine Gives.bind _ (g_tLarge g t h) fun q hq => Gives.ite (fun _ => Gives.some fun h => by cases h) fun hb => ?_
  have := hq (by simpa using hb)
  exact Gives.bind _ (t_tEach g t true h) fun _ _ => Gives.ite (fun _ => Gives.some fun _ => this) fun _ => Gives.some fun _ => this
/-- The nodes of a type in a row. -/
theorem g_nodes : ∀ (g : Nat) (t : DType), SizeOf.sizeOf t ≤ g → cntT t ≤ 200 → Gives (m_data_nodes g t) fun q => q.length = cntT t := by
  intro g
  induction g with
  | zero =>
    intro t h
    cases t with
    | mk n as => simp only [DType.mk.sizeOf_spec] at h; omega
  | succ g ih =>
    intro t hg hn
    rw [m_data_nodes]
    have h6 := cntT_eq t
    refine Gives.bind (fun q => q.length = cntT t) (G_each t.Args (fun s : List DType × Nat => s.2) (fun s : List DType × Nat => s.1.length = 1 + sumN cntT (t.Args.take s.2)) rfl (Nat.zero_le _) (fun s x hs hc hx hm => ?_) (fun s hs hc => Gives.some ?_)) fun _ h => Gives.some h
    · have h5 : sumN cntT (t.Args.take (s.2 + 1)) = sumN cntT (t.Args.take s.2) + cntT x := by rw [take_next hx, sumN_append]; rfl
      have h7 : sumN cntT t.Args = sumN cntT (t.Args.take (s.2 + 1)) + sumN cntT (t.Args.drop (s.2 + 1)) := by rw [← sumN_append, List.take_append_drop]
      refine Gives.bind _ (ih x (by have := size_arg hm; omega) (by omega)) fun q hq => Gives.bindE (push_small 200 (by omega) (by decide)) (Gives.some ⟨?_, rfl⟩)
      show (s.1 ++ q).length = 1 + sumN cntT (t.Args.take (s.2 + 1))
      rw [List.length_append, h5]; omega
    · have h5 : t.Args.take s.2 = t.Args := by rw [hc, List.take_length]
      rw [h5] at hs
      show s.1.length = _
      omega
theorem t_isVarD (g : Nat) (t : DType) : Tot (m_data_isVar g t) := by
  unfold m_data_isVar
  exact Gives.bind (fun _ => True) (Gives.ite (fun _ => Gives.bind _ (t_dSmall g _) fun _ _ => Gives.some trivial) fun _ => Gives.some trivial) fun _ _ => Gives.some trivial
/-- What the first three checks say. -/
structure GD (l : List DData) : Prop where
  len : l.length ≤ 30
  cons : ∀ d ∈ l, d.Cons.length ≤ 16
structure GA (l : List DData) : Prop where
  args : ∀ d ∈ l, ∀ c ∈ d.Cons, c.Args.length ≤ 8
abbrev GT (l : List DData) : Prop := ∀ d ∈ l, ∀ c ∈ d.Cons, ∀ t ∈ c.Args, cntT t ≤ 200
theorem unit_loop {P : Unit → Prop} {β : Type} (l : List β) (hl : l = []) (h : P ()) : Gives (Mir.Loop (S := Unit) (Q := Unit) () fun s => if 0 < ((l.length : Nat) : Int) then none else some (.inr ())) P := by
  subst hl
  exact G_cnt 0 (fun _ => 0) (fun _ => True) trivial (Nat.le_refl _) (fun s _ h => absurd h (Nat.lt_irrefl _)) fun s _ _ => Gives.neg (by simp) (Gives.some h)
theorem takeAll {α : Type} {l : List α} {i : Nat} (h : i = l.length) : l.take i = l := by rw [h, List.take_length]
theorem takeMem {α : Type} {l : List α} {i : Nat} {x y : α} (h : l[i]? = some x) (hy : y ∈ l.take (i + 1)) : y ∈ l.take i ∨ y = x := by
  rw [take_next h, List.mem_append] at hy
  exact hy.imp id fun h => by simpa using h
theorem takeAllP {α : Type} {l : List α} {i : Nat} {P : α → Prop} (h : i = l.length) (hp : ∀ d ∈ l.take i, P d) : ∀ d ∈ l, P d := by rw [takeAll h] at hp; exact hp
theorem takeStep {α : Type} {l : List α} {i : Nat} {x : α} {P : α → Prop} (h : l[i]? = some x) (hp : ∀ d ∈ l.take i, P d) (hx : P x) : ∀ d ∈ l.take (i + 1), P d := fun d hd => by
  rcases takeMem h hd with h1 | rfl
  · exact hp d h1
  · exact hx
theorem g_large (g : Nat) (l : List DData) : Gives (m_data_large g ⟨l, [], []⟩) fun q => q = 0 → GD l := by
  unfold m_data_large
  refine Gives.bind (fun z => z = false → l.length ≤ 30) (Gives.ite (fun _ => Gives.some fun h => by cases h) fun h => Gives.ite (fun _ => Gives.some fun h => by cases h) fun _ => Gives.some fun _ => ?_) fun z hz => ?_
  · simp only at h; omega
  refine Gives.bind (fun q => q = false → GD l) (G_cnt l.length (fun s : Bool × Nat => s.2) (fun s : Bool × Nat => s.1 = false → l.length ≤ 30 ∧ ∀ d ∈ l.take s.2, d.Cons.length ≤ 16) (fun h => ⟨hz h, fun d hd => by simp at hd⟩) (Nat.zero_le _) (fun s hs hc => ?_) (fun s hs hc => ?_)) fun q hq => ?_
  · refine Gives.pos (by simp only; omega) (Gives.bind (fun z => z = false → l.length ≤ 30 ∧ ∀ d ∈ l.take (s.2 + 1), d.Cons.length ≤ 16) (G_get hc fun x hx hm => Gives.ite (fun _ => Gives.some fun h => by cases h) fun h1 => Gives.some fun h2 => ?_) fun z hz => Gives.some ⟨hz, rfl⟩)
    have h3 := hs (by simpa using h1)
    exact ⟨h3.1, takeStep hx h3.2 (by have := of_decide_eq_false h2; omega)⟩
  · exact Gives.neg (by simp only; omega) (Gives.some fun h => ⟨(hs h).1, takeAllP hc (hs h).2⟩)
  · refine Gives.bind (fun _ => True) (unit_loop _ rfl trivial) fun _ _ => Gives.bind (fun _ => True) (unit_loop _ rfl trivial) fun _ _ => Gives.ite (fun _ => Gives.some fun h => by cases h) fun h => Gives.some fun _ => hq (by simpa using h)
theorem g_args (g : Nat) (l : List DData) : Gives (m_data_args g ⟨l, [], []⟩) fun q => q = 0 → GA l := by
  unfold m_data_args
  refine Gives.bind (fun q => q = true → GA l) (G_cnt l.length (fun s : Bool × Nat => s.2) (fun s : Bool × Nat => s.1 = true → ∀ d ∈ l.take s.2, ∀ c ∈ d.Cons, c.Args.length ≤ 8) (fun h d hd => by simp at hd) (Nat.zero_le _) (fun s hs hc => ?_) (fun s hs hc => ?_)) fun q hq => ?_
  · refine Gives.pos (by simp only; omega) (Gives.bind (fun z => z = true → ∀ d ∈ l.take (s.2 + 1), ∀ c ∈ d.Cons, c.Args.length ≤ 8) (G_get hc fun x hx hm => ?_) fun z hz => Gives.some ⟨hz, rfl⟩)
    refine Gives.bind (fun z => z = true → s.1 = true) (Gives.ite (fun h => Gives.bind _ (t_dGreat g _) fun _ _ => Gives.ite (fun _ => Gives.some fun _ => h) fun _ => Gives.some fun h => by cases h) fun _ => Gives.some fun h => by cases h) fun z hz => ?_
    refine Gives.bind (fun z => z = true → s.1 = true) (G_cnt x.Vars.length (fun s : Bool × Nat => s.2) (fun s' : Bool × Nat => s'.1 = true → s.1 = true) hz (Nat.zero_le _) (fun s' hs' hc' => ?_) (fun s' hs' hc' => ?_)) fun z hz => ?_
    · exact Gives.pos (by omega) (Gives.bind (fun z => z = true → s.1 = true) (G_get hc' fun x _ _ => Gives.ite (fun h => Gives.bind _ (t_dSmall g _) fun _ _ => Gives.some fun _ => hs' h) fun _ => Gives.some fun h => by cases h) fun z hz => Gives.some ⟨hz, rfl⟩)
    · exact Gives.neg (by omega) (Gives.some hs')
    refine G_cnt x.Cons.length (fun s : Bool × Nat => s.2) (fun s' : Bool × Nat => s'.1 = true → s.1 = true ∧ ∀ c ∈ x.Cons.take s'.2, c.Args.length ≤ 8) (fun h => ⟨hz h, fun c hc => by simp at hc⟩) (Nat.zero_le _) (fun s' hs' hc' => ?_) (fun s' hs' hc' => ?_)
    · exact Gives.pos (by omega) (Gives.bind (fun z => z = true → s.1 = true ∧ ∀ c ∈ x.Cons.take (s'.2 + 1), c.Args.length ≤ 8) (G_get hc' fun y hy _ => Gives.ite (fun h => Gives.bind _ (t_dGreat g _) fun _ _ => Gives.ite (fun _ => Gives.some fun h3 => ⟨(hs' h).1, takeStep hy (hs' h).2 (by have := of_decide_eq_true h3; omega)⟩) fun _ => Gives.some fun h => by cases h) fun _ => Gives.some fun h => by cases h) fun z hz => Gives.some ⟨hz, rfl⟩)
    · exact Gives.neg (by omega) (Gives.some fun h => takeStep hx (hs (hs' h).1) (takeAllP hc' (hs' h).2))
  · exact Gives.neg (by simp only; omega) (Gives.some fun h => ⟨takeAllP hc (hs h)⟩)
  · refine Gives.bind (fun _ => True) (unit_loop _ rfl trivial) fun _ _ => Gives.bind (fun _ => True) (unit_loop _ rfl trivial) fun _ _ => Gives.ite (fun h => Gives.some fun _ => hq h) fun h => Gives.some fun h => by cases h
/-- A loop through a list, from the outside: each element told by the body. -/
theorem G_list {α J A : Type} (xs : List α) (T : α → Prop) {body : Nat → Option (Nat ⊕ (J ⊕ A))} {kk : J → Option A} {P : A → Prop}
    (h : ∀ i x, xs[i]? = some x → x ∈ xs → i < xs.length → Gives (body i) (Two (fun i' => i' = i + 1 ∧ T x) (Two (fun _ => False) P)))
    (he : Gives (body xs.length) (Two (fun _ => False) (Two (fun _ => True) P))) (hk : (∀ x ∈ xs, T x) → ∀ j, Gives (kk j) P) : Gives (Mir.jx (Mir.Loop (0 : Nat) body) kk) P := by
  refine Gives.jx (fun _ => ∀ x ∈ xs, T x) (G_cnt xs.length id (fun i => ∀ d ∈ xs.take i, T d) (fun x hx => by simp at hx) (Nat.zero_le _) (fun s hs hc => ?_) (fun s hs hc => ?_)) fun j hj => hk hj j
  · have hx := List.getElem?_eq_getElem (show s < xs.length from hc)
    refine (h s _ hx (List.getElem_mem hc) hc).mono fun o ho => ?_
    rcases o with s' | (j | a)
    · obtain ⟨rfl, hT⟩ := ho
      exact ⟨takeStep hx hs hT, rfl⟩
    · exact ho.elim
    · exact ho
  · obtain rfl : s = xs.length := hc
    refine he.mono fun o ho => ?_
    rcases o with s' | (j | a)
    · exact ho.elim
    · exact takeAllP rfl hs
    · exact ho
theorem g_texts (g : Nat) (l : List DData) (hg : SizeOf.sizeOf l ≤ g) : Gives (m_data_texts g ⟨l, [], []⟩) fun q => q = 0 → GT l := by
  unfold m_data_texts
  refine G_list l (fun d => ∀ c ∈ d.Cons, ∀ t ∈ c.Args, cntT t ≤ 200) (fun i d hd hdm hi => Gives.pos (by simp only; omega) ?_) (Gives.neg (by simp) (Gives.some trivial)) fun hT _ => ?_
  · refine Gives.jx (fun _ => ∀ c ∈ d.Cons, ∀ t ∈ c.Args, cntT t ≤ 200) (Gives.bindE hd ?_) fun _ h => Gives.some ⟨rfl, h⟩
    refine G_cnt d.Cons.length id (fun i => ∀ c ∈ d.Cons.take i, ∀ t ∈ c.Args, cntT t ≤ 200) (fun x hx => by simp at hx) (Nat.zero_le _) (fun s hs hc => Gives.pos (by simp only [id] at hc; omega) ?_) (fun s hs hc => Gives.neg (by simp only [id] at hc; omega) (Gives.some (takeAllP hc hs)))
    refine Gives.jx (fun _ => ∀ c ∈ d.Cons.take (s + 1), ∀ t ∈ c.Args, cntT t ≤ 200) (G_get hc fun c hx hcm => ?_) fun _ h => Gives.some ⟨h, rfl⟩
    refine G_cnt c.Args.length id (fun i => ∀ t ∈ c.Args.take i, cntT t ≤ 200) (fun x hx => by simp at hx) (Nat.zero_le _) (fun s' hs' hc' => Gives.pos (by simp only [id] at hc'; omega) (G_get hc' fun t ht htm => ?_)) (fun s' hs' hc' => Gives.neg (by simp only [id] at hc'; omega) (Gives.some (takeStep hx hs (takeAllP hc' hs'))))
    have h1 := List.sizeOf_lt_of_mem hdm
    have h2 := List.sizeOf_lt_of_mem hcm
    have h3 := List.sizeOf_lt_of_mem htm
    have h4 : SizeOf.sizeOf d.Cons < SizeOf.sizeOf d := by cases d; simp only [DData.mk.sizeOf_spec]; omega
    have h5 : SizeOf.sizeOf c.Args < SizeOf.sizeOf c := by cases c; simp only [DCon.mk.sizeOf_spec]; omega
    refine Gives.bind _ (g_tValid g t (by omega)) fun q hq => Gives.ite (fun h => Gives.some ⟨takeStep ht hs' (hq h), rfl⟩) fun h => Gives.some fun h' => absurd h' h
  · exact Gives.bind (fun _ => True) (unit_loop _ rfl trivial) fun _ _ => Gives.some fun _ => hT
theorem t_alike (g : Nat) (l : List (List UInt8)) : Tot (m_data_alike g l) := by
  unfold m_data_alike
  refine Gives.jx (fun _ => True) (G_each l (fun s : List (List UInt8 × Bool) × Nat => s.2) (fun _ => True) trivial (Nat.zero_le _) (fun s x _ hc hx hm => Gives.bindE rfl (Gives.ite (fun _ => Gives.some trivial) fun _ => Gives.bindE rfl (Gives.some ⟨trivial, rfl⟩))) fun s _ _ => Gives.some trivial) fun _ _ => Gives.some trivial
noncomputable def base : List DData := (m_data_Base_2 0).getD []
theorem base_eq (g : Nat) : m_data_Base_2 g = some base := rfl
theorem base_len : base.length ≤ 10 := by unfold base m_data_Base_2; simp
theorem base_cons : ∀ d ∈ base, d.Cons.length ≤ 16 := by unfold base m_data_Base_2; simp
theorem all_eq (g : Nat) (l : List DData) (h : l.length ≤ 30) : m_data_all g ⟨l, [], []⟩ = some (base ++ l) := by
  unfold m_data_all
  rw [base_eq, Option.bind_some, push_small 40 (by have := base_len; simp only; omega) (by decide)]; rfl
theorem t_twice (g : Nat) (l : List DData) (h : GD l) : Tot (m_data_twice g ⟨l, [], []⟩) := by
  unfold m_data_twice
  have hb := base_len
  have hl := h.len
  have hlen : (base ++ l).length ≤ 40 := by rw [List.length_append]; omega
  have hcons : ∀ d ∈ base ++ l, d.Cons.length ≤ 16 := fun d hd => by
    rcases List.mem_append.1 hd with h1 | h1
    · exact base_cons d h1
    · exact h.cons d h1
  refine Gives.bind (fun _ => True) (Gives.bindE (all_eq g l h.len) ?_) fun z _ => ?_
  · generalize base ++ l = q at hlen hcons
    refine G_cnt q.length (fun s : List (List UInt8) × List (List UInt8) × Bool × Nat => s.2.2.2) (fun s : List (List UInt8) × List (List UInt8) × Bool × Nat => s.1.length ≤ 1 + s.2.2.2 ∧ s.2.1.length ≤ s.2.2.2 * 16) ⟨Nat.le_refl _, Nat.le_refl _⟩ (Nat.zero_le _) (fun s hs hc => Gives.pos (by omega) ?_) (fun s hs hc => Gives.neg (by omega) (Gives.some trivial))
    refine Gives.bind (fun z : List (List UInt8) × List (List UInt8) × Bool => z.1.length ≤ 1 + (s.2.2.2 + 1) ∧ z.2.1.length ≤ (s.2.2.2 + 1) * 16) (G_get hc fun x hx hm => ?_) fun z hz => Gives.some ⟨hz, rfl⟩
    refine Gives.bindE (push_small 100 (by simp only [List.length_cons, List.length_nil]; omega) (by decide)) ?_
    refine Gives.bind (fun _ => True) (Gives.ite (fun _ => Gives.some trivial) fun _ => Gives.bind _ (t_alike g _) fun _ _ => Gives.some trivial) fun z _ => ?_
    have h16 := hcons x hm
    refine G_each x.Cons (fun s : List (List UInt8) × Nat => s.2) (fun s' : List (List UInt8) × Nat => s'.1.length ≤ s.2.2.2 * 16 + s'.2) (by simpa using hs.2) (Nat.zero_le _) (fun s' y hs' hc' hy _ => ?_) (fun s' hs' hc' => Gives.some ⟨?_, ?_⟩)
    · refine Gives.bindE (push_small 1000 (by simp only [List.length_cons, List.length_nil]; omega) (by decide)) (Gives.some ⟨?_, rfl⟩)
      simp only [List.length_append, List.length_cons, List.length_nil]; omega
    · simp only [List.length_append, List.length_cons, List.length_nil]; omega
    · have h3 : s'.2 = x.Cons.length := hc'
      have h4 : s'.1.length ≤ s.2.2.2 * 16 + s'.2 := hs'
      show s'.1.length ≤ (s.2.2.2 + 1) * 16
      omega
  · refine Gives.bind (fun _ => True) (unit_loop _ rfl trivial) fun _ _ => Gives.bind (fun _ => True) (unit_loop _ rfl trivial) fun _ _ => Gives.bind (fun _ => True) ?_ fun _ _ => Gives.ite (fun _ => Gives.some trivial) fun _ => Gives.some trivial
    refine Gives.ite (fun _ => Gives.some trivial) fun _ => ?_
    repeat' first | exact Gives.some trivial | exact t_alike g _ | refine Gives.bind (fun _ => True) (t_alike g _) fun _ _ => ?_ | refine Gives.ite (fun _ => ?_) (fun _ => ?_)
theorem g_allTypes (g : Nat) (l : List DData) (h : GD l) (ha : GA l) (ht : GT l) : Gives (m_data_allTypes g ⟨l, [], []⟩) fun q => ∀ t ∈ q, cntT t ≤ 200 ∧ ∃ d ∈ l, ∃ c ∈ d.Cons, t ∈ c.Args := by
  unfold m_data_allTypes
  have hl := h.len
  refine Gives.bind (fun q => ∀ t ∈ q, cntT t ≤ 200 ∧ ∃ d ∈ l, ∃ c ∈ d.Cons, t ∈ c.Args) (G_cnt l.length (fun s : List DType × Nat => s.2) (fun s : List DType × Nat => s.1.length ≤ s.2 * 128 ∧ ∀ t ∈ s.1, cntT t ≤ 200 ∧ ∃ d ∈ l, ∃ c ∈ d.Cons, t ∈ c.Args) ⟨Nat.zero_le _, fun t ht => by cases ht⟩ (Nat.zero_le _) (fun s hs hc => Gives.pos (by simp only; omega) ?_) (fun s hs hc => Gives.neg (by simp only; omega) (Gives.some hs.2))) fun z hz => Gives.bind (fun _ => True) (unit_loop _ rfl trivial) fun _ _ => Gives.some hz
  refine Gives.bind (fun z : List DType => z.length ≤ (s.2 + 1) * 128 ∧ ∀ t ∈ z, cntT t ≤ 200 ∧ ∃ d ∈ l, ∃ c ∈ d.Cons, t ∈ c.Args) (G_get hc fun x hx hm => ?_) fun z hz => Gives.some ⟨hz, rfl⟩
  have h16 := h.cons x hm
  refine G_each x.Cons (fun s : List DType × Nat => s.2) (fun s' : List DType × Nat => s'.1.length ≤ s.2 * 128 + s'.2 * 8 ∧ ∀ t ∈ s'.1, cntT t ≤ 200 ∧ ∃ d ∈ l, ∃ c ∈ d.Cons, t ∈ c.Args) ⟨by simpa using hs.1, hs.2⟩ (Nat.zero_le _) (fun s' y hs' hc' hy hym => ?_) (fun s' hs' hc' => Gives.some ⟨?_, hs'.2⟩)
  · have h8 := ha.args x hm y hym
    refine Gives.bindE (push_small 5000 (by omega) (by decide)) (Gives.some ⟨⟨?_, fun t htm => ?_⟩, rfl⟩)
    · simp only [List.length_append]; omega
    · rcases List.mem_append.1 htm with h1 | h1
      · exact hs'.2 t h1
      · exact ⟨ht x hm y hym t h1, x, hm, y, hym, h1⟩
  · have h3 : s'.2 = x.Cons.length := hc'
    have h4 := hs'.1
    show s'.1.length ≤ (s.2 + 1) * 128
    omega
theorem t_named (g : Nat) (l : List DData) (n : List UInt8) (h : GD l) : Tot (m_data_named g ⟨l, [], []⟩ n) := by
  unfold m_data_named
  refine Gives.ite (fun _ => Gives.some trivial) fun _ => Gives.jx (fun _ => True) (Gives.bindE (all_eq g l h.len) ?_) fun _ _ => Gives.some trivial
  exact G_each _ id (fun _ => True) trivial (Nat.zero_le _) (fun s x _ _ _ _ => Gives.ite (fun _ => Gives.some trivial) fun _ => Gives.some ⟨trivial, rfl⟩) fun s _ _ => Gives.some trivial
theorem t_kinds (g : Nat) (l : List DData) (t : DType) (e : Int) (h : GD l) (ht : cntT t ≤ 200) (hg : SizeOf.sizeOf t ≤ g) : Tot (m_data_kinds g ⟨l, [], []⟩ t e) := by
  unfold m_data_kinds
  refine Gives.jx (fun _ => True) (Gives.bind _ (g_nodes g t hg ht) fun q _ => ?_) fun _ _ => Gives.some trivial
  refine G_cnt q.length id (fun _ => True) trivial (Nat.zero_le _) (fun s hs hc => Gives.pos (by simp only [id] at hc; omega) ?_) (fun s hs hc => Gives.neg (by simp only [id] at hc; omega) (Gives.some trivial))
  refine Gives.jx (fun _ => True) (G_get hc fun x hx hm => ?_) fun _ _ => Gives.some ⟨trivial, rfl⟩
  refine Gives.bind (fun _ => True) (Gives.bind _ (t_isVarD g x) fun _ _ => Gives.ite (fun _ => Gives.some trivial) fun _ => Gives.some trivial) fun z _ => Gives.ite (fun _ => Gives.some trivial) fun _ => ?_
  refine Gives.bind _ (t_named g l _ h) fun q _ => Gives.bind (fun _ => True) ?_ fun z _ => Gives.ite (fun _ => Gives.some trivial) fun _ => Gives.some trivial
  repeat' first | exact Gives.some trivial | refine Gives.ite (fun _ => ?_) (fun _ => ?_)
theorem size_in {l : List DData} {t : DType} (h : ∃ d ∈ l, ∃ c ∈ d.Cons, t ∈ c.Args) : SizeOf.sizeOf t ≤ SizeOf.sizeOf l := by
  obtain ⟨d, hd, c, hc, ht⟩ := h
  have h1 := List.sizeOf_lt_of_mem hd
  have h2 := List.sizeOf_lt_of_mem hc
  have h3 := List.sizeOf_lt_of_mem ht
  have h4 : SizeOf.sizeOf d.Cons < SizeOf.sizeOf d := by cases d; simp only [DData.mk.sizeOf_spec]; omega
  have h5 : SizeOf.sizeOf c.Args < SizeOf.sizeOf c := by cases c; simp only [DCon.mk.sizeOf_spec]; omega
  omega
theorem t_none (g : Nat) (l : List DData) (h : GD l) (ha : GA l) (ht : GT l) (hg : SizeOf.sizeOf l ≤ g) : Tot (m_data_none g ⟨l, [], []⟩) := by
  unfold m_data_none
  refine Gives.jx (fun _ => True) (Gives.bind _ (g_allTypes g l h ha ht) fun q hq => ?_) fun _ _ => Gives.bind (fun _ => True) (unit_loop _ rfl trivial) fun _ _ => Gives.bind (fun _ => True) (unit_loop _ rfl trivial) fun _ _ => Gives.some trivial
  exact G_each q id (fun _ => True) trivial (Nat.zero_le _) (fun s x _ _ _ hm => Gives.bind _ (t_kinds g l x 4 h (hq x hm).1 (Nat.le_trans (size_in (hq x hm).2) hg)) fun _ _ => Gives.ite (fun _ => Gives.some ⟨trivial, rfl⟩) fun _ => Gives.some trivial) fun s _ _ => Gives.some trivial
theorem t_fit (g : Nat) (l : List DData) (h : GD l) (ha : GA l) (ht : GT l) (hg : SizeOf.sizeOf l ≤ g) : Tot (m_data_fit g ⟨l, [], []⟩) := by
  unfold m_data_fit
  refine Gives.jx (fun _ => True) (Gives.bind _ (g_allTypes g l h ha ht) fun q hq => ?_) fun _ _ => Gives.jx (fun _ => True) ?_ fun _ _ => Gives.some trivial
  · exact G_each q id (fun _ => True) trivial (Nat.zero_le _) (fun s x _ _ _ hm => Gives.bind _ (t_kinds g l x 8 h (hq x hm).1 (Nat.le_trans (size_in (hq x hm).2) hg)) fun _ _ => Gives.ite (fun _ => Gives.some ⟨trivial, rfl⟩) fun _ => Gives.some trivial) fun s _ _ => Gives.some trivial
  refine G_cnt l.length id (fun _ => True) trivial (Nat.zero_le _) (fun s hs hc => Gives.pos (by simp only [id] at hc ⊢; omega) ?_) (fun s hs hc => Gives.neg (by simp only [id] at hc ⊢; omega) (Gives.some trivial))
  refine Gives.jx (fun _ => True) (G_get hc fun d hd hdm => ?_) fun _ _ => Gives.some ⟨trivial, rfl⟩
  refine G_cnt d.Cons.length id (fun _ => True) trivial (Nat.zero_le _) (fun s hs hc => Gives.pos (by simp only [id] at hc ⊢; omega) ?_) (fun s hs hc => Gives.neg (by simp only [id] at hc ⊢; omega) (Gives.some trivial))
  refine Gives.jx (fun _ => True) (G_get hc fun c hd hcm => ?_) fun _ _ => Gives.some ⟨trivial, rfl⟩
  refine G_cnt c.Args.length id (fun _ => True) trivial (Nat.zero_le _) (fun s hs hc => Gives.pos (by simp only [id] at hc ⊢; omega) ?_) (fun s hs hc => Gives.neg (by simp only [id] at hc ⊢; omega) (Gives.some trivial))
  refine Gives.jx (fun _ => True) (G_get hc fun t hd htm => ?_) fun _ _ => Gives.some ⟨trivial, rfl⟩
  refine Gives.bind _ (g_nodes g t (Nat.le_trans (size_in ⟨d, hdm, c, hcm, htm⟩) hg) (ht d hdm c hcm t htm)) fun q _ => ?_
  refine G_each q id (fun _ => True) trivial (Nat.zero_le _) (fun s x _ _ _ hm => Gives.bind (fun _ => True) ?_ fun z _ => Gives.ite (fun _ => Gives.some trivial) fun _ => Gives.some ⟨trivial, rfl⟩) fun s _ _ => Gives.some trivial
  exact Gives.bind _ (t_isVarD g x) fun _ _ => Gives.ite (fun _ => Gives.bind _ (t_contains g _ _) fun _ _ => Gives.some trivial) fun _ => Gives.some trivial
/-- data.Validate ends for all data types; what it lets through is small. -/
theorem g_dValid (g : Nat) (l : List DData) (hg : SizeOf.sizeOf l ≤ g) : Gives (m_data_Validate g ⟨l, [], []⟩) fun q => q = 0 → GD l ∧ GA l := by
  unfold m_data_Validate
  have t59 : m_table1 g 59 ⟨l, [], []⟩ = m_data_large g ⟨l, [], []⟩ := rfl
  have t60 : m_table1 g 60 ⟨l, [], []⟩ = m_data_args g ⟨l, [], []⟩ := rfl
  have t61 : m_table1 g 61 ⟨l, [], []⟩ = m_data_texts g ⟨l, [], []⟩ := rfl
  have t62 : m_table1 g 62 ⟨l, [], []⟩ = m_data_twice g ⟨l, [], []⟩ := rfl
  have t63 : m_table1 g 63 ⟨l, [], []⟩ = m_data_none g ⟨l, [], []⟩ := rfl
  have t64 : m_table1 g 64 ⟨l, [], []⟩ = m_data_fit g ⟨l, [], []⟩ := rfl
  have t65 : m_table1 g 65 ⟨l, [], []⟩ = m_data_loop g ⟨l, [], []⟩ := rfl
  have t66 : m_table1 g 66 ⟨l, [], []⟩ = m_data_rule g ⟨l, [], []⟩ := rfl
  refine Gives.jx (fun _ => GD l ∧ GA l) (G_cnt 8 id (fun i => (1 ≤ i → GD l) ∧ (2 ≤ i → GA l) ∧ (3 ≤ i → GT l)) ⟨fun h => by omega, fun h => by omega, fun h => by omega⟩ (by decide) (fun s hs hc => Gives.pos (by simp only [id, List.length_cons, List.length_nil] at hc ⊢; omega) ?_) (fun s hs hc => Gives.neg (by simp only [id, List.length_cons, List.length_nil] at hc ⊢; omega) (Gives.some ?_))) fun _ h => Gives.some fun _ => h
  · have step : ∀ (q : Option Int), Gives q (fun q => q = 0 → ((1 ≤ s + 1 → GD l) ∧ (2 ≤ s + 1 → GA l) ∧ (3 ≤ s + 1 → GT l))) → Gives (q.bind fun q29 => if q29 = 0 then some (.inl (s + 1)) else some (.inr (.inr q29))) (Two (fun s' => ((1 ≤ s' → GD l) ∧ (2 ≤ s' → GA l) ∧ (3 ≤ s' → GT l)) ∧ id s' = id s + 1) (Two (fun _ : Unit => GD l ∧ GA l) (fun q => q = 0 → GD l ∧ GA l))) :=
      fun q h => Gives.bind _ h fun r hr => Gives.ite (fun h => Gives.some ⟨hr h, rfl⟩) fun h => Gives.some fun h' => absurd h' h
    obtain ⟨h1, h2, h3⟩ := hs
    simp only [id] at hc
    rcases s with _ | _ | _ | _ | _ | _ | _ | _ | s
    · refine Gives.bindE rfl (step _ ?_)
      rw [t59]
      exact (g_large g l).mono fun q hq h => ⟨fun _ => hq h, fun h => by omega, fun h => by omega⟩
    · refine Gives.bindE rfl (step _ ?_)
      rw [t60]
      exact (g_args g l).mono fun q hq h => ⟨fun _ => h1 (by omega), fun _ => hq h, fun h => by omega⟩
    · refine Gives.bindE rfl (step _ ?_)
      rw [t61]
      exact (g_texts g l hg).mono fun q hq h => ⟨fun _ => h1 (by omega), fun _ => h2 (by omega), fun _ => hq h⟩
    · refine Gives.bindE rfl (step _ ?_)
      rw [t62]
      exact (t_twice g l (h1 (by omega))).mono fun q hq h => ⟨fun _ => h1 (by omega), fun _ => h2 (by omega), fun _ => h3 (by omega)⟩
    · refine Gives.bindE rfl (step _ ?_)
      rw [t63]
      exact (t_none g l (h1 (by omega)) (h2 (by omega)) (h3 (by omega)) hg).mono fun q hq h => ⟨fun _ => h1 (by omega), fun _ => h2 (by omega), fun _ => h3 (by omega)⟩
    · refine Gives.bindE rfl (step _ ?_)
      rw [t64]
      exact (t_fit g l (h1 (by omega)) (h2 (by omega)) (h3 (by omega)) hg).mono fun q hq h => ⟨fun _ => h1 (by omega), fun _ => h2 (by omega), fun _ => h3 (by omega)⟩
    · refine Gives.bindE rfl (step _ ?_)
      rw [t65]
      unfold m_data_loop
      exact Gives.bind (fun _ => True) (unit_loop _ rfl trivial) fun _ _ => Gives.some fun _ => ⟨fun _ => h1 (by omega), fun _ => h2 (by omega), fun _ => h3 (by omega)⟩
    · refine Gives.bindE rfl (step _ ?_)
      rw [t66]
      unfold m_data_rule
      exact Gives.bind (fun _ => True) (unit_loop _ rfl trivial) fun _ _ => Gives.bind (fun _ => True) (unit_loop _ rfl trivial) fun _ _ => Gives.some fun _ => ⟨fun _ => h1 (by omega), fun _ => h2 (by omega), fun _ => h3 (by omega)⟩
    · omega
  · simp only [id] at hc
    exact ⟨hs.1 (by omega), hs.2.1 (by omega)⟩
end Go.Proofs.YtjkcinpmbgcgpaaGreatDoor
