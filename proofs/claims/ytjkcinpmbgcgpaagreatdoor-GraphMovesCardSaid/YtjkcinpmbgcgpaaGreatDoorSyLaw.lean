/- The calculus: from a row's arguments to data in the frozen part, and from a contract to the row's walk. -/
import Derived.Test.YtjkcinpmbgcgpaaGreatDoorSyMore
import Derived.ProofKit
import Derived.ChangeArms
import Derived.Deep.Slices
import Derived.SizedLaws
import Derived.WalkKit
import Derived.OpenShut
import Derived.ShutString
import Derived.ChangeOld
namespace Go.Sy
open Go Go.RowKit
/-- What reads at type t, within so many steps of reading, is of the kind K, and Good. -/
def OpensN {α : Type} (P : Program) (N : Nat) (t : TypeId) (K : Kind α) (Good : α → Prop) : Prop :=
  ∀ {H : Type} {enc : TypeId × Value → H} {w : World} {base : Nat} {spare : Nat → Bool} {held : Bool} {fuel : Nat} {cs : List Value} {d : DataW H} {ps : List MemPlace}, fuel ≤ N →
    DataW.trod enc P w base spare held fuel t cs = some (d, ps) → (∀ k ∈ d.weights P t, k ≤ reachBytes) → ∃ x, K.R (PH.ofW w) cs x ∧ Good x
theorem OpensN.imp {α β : Type} {P : Program} {N : Nat} {t : TypeId} {K : Kind α} {K' : Kind β} {Good : α → Prop} {Good' : β → Prop} (h : OpensN P N t K Good) (hk : ∀ F cs x, K.R F cs x → Good x → ∃ y, K'.R F cs y ∧ Good' y) : OpensN P N t K' Good' := fun hf ht hw =>
  let ⟨x, h1, h2⟩ := h hf ht hw
  hk _ _ x h1 h2
theorem OpensN.mono {α : Type} {P : Program} {N : Nat} {t : TypeId} {K : Kind α} {Good : α → Prop} (h : OpensN P (N + 1) t K Good) : OpensN P N t K Good := fun hf ht hw => h (Nat.le_succ_of_le hf) ht hw
theorem opens_int {P : Program} {t : TypeId} {k : IntKind} (hu : P.underlying t = some (.int k)) (N : Nat) : OpensN P N t (Kind.int k) (fun x => (Lit.int k x).wf = true) := fun _ ht _ => by
  obtain ⟨n, rfl, _, hw⟩ := DataW.trod_int hu ht
  exact ⟨n, rfl, hw⟩
theorem opens_bool {P : Program} {t : TypeId} (hu : P.underlying t = some .bool) (N : Nat) : OpensN P N t Kind.bool (fun _ => True) := fun _ ht _ => by
  obtain ⟨n, rfl, _⟩ := DataW.trod_bool hu ht
  exact ⟨n, rfl, trivial⟩
theorem opens_string {P : Program} {t : TypeId} (hu : P.underlying t = some .string) (N : Nat) : OpensN P N t Kind.string (fun s => s.size ≤ 140737488351232) := fun _ ht hw => by
  obtain ⟨s, rfl, hx, _⟩ := DataW.trod_string hu ht
  cases hx
  refine ⟨s, rfl, ?_⟩
  have := hw s.data.toList.length (by simp [DataW.weights])
  simpa [reachBytes] using this
theorem mapM_cells {w : World} {a : Addr} : ∀ {n : Nat} {cs : List Value}, (List.range n).mapM (fun i => w.cell? (a.add i)) = some cs → cs.length = n ∧ ∀ j v, cs[j]? = some v → w.cell? (a.add j) = some v := by
  intro n cs h
  have hl : cs.length = n := by simpa using mapM_some_length h
  refine ⟨hl, fun j v e => ?_⟩
  have hj : j < n := by have := (List.getElem?_eq_some_iff.1 e).1; omega
  have := mapM_some_get h j j (by simp [hj])
  rw [this]; exact e
theorem cell_ofW (w : World) (a : Addr) : (PH.ofW w).cell? a = w.cell? a := rfl
theorem list_of {α : Type} {p : Nat → α → Prop} : ∀ {n : Nat}, (∀ i, i < n → ∃ x, p i x) → ∃ xs : List α, xs.length = n ∧ ∀ i x, xs[i]? = some x → p i x
  | 0, _ => ⟨[], rfl, fun i x e => by simp at e⟩
  | n + 1, h => by
    obtain ⟨xs, h1, h2⟩ := list_of (n := n) (fun i hi => h i (by omega))
    obtain ⟨x, hx⟩ := h n (by omega)
    refine ⟨xs ++ [x], by simp [h1], fun i y e => ?_⟩
    by_cases hi : i < n
    · rw [List.getElem?_append_left (by omega)] at e; exact h2 i y e
    · rw [List.getElem?_append_right (by omega)] at e
      have : i - xs.length = 0 := by
        have := (List.getElem?_eq_some_iff.1 e).1
        simp at this; omega
      rw [this] at e
      have hin : i = n := by omega
      subst hin
      cases e; exact hx
theorem weightsAll_mem {H : Type} {P : Program} {e : TypeId} {k : Nat} : ∀ {l : List (DataW H)} {d : DataW H}, d ∈ l → k ∈ d.weights P e → k ∈ DataW.weightsAll P e l
  | x :: l, d, hd, hk => by
    unfold DataW.weightsAll
    rcases List.mem_cons.1 hd with rfl | hd
    · exact List.mem_append_left _ hk
    · exact List.mem_append_right _ (weightsAll_mem hd hk)
theorem opens_slice {α : Type} {P : Program} {t e : TypeId} {N : Nat} {K : Kind α} {Good : α → Prop} {B : Nat} (hu : P.underlying t = some (.slice e)) (hc : P.cellsOf e = K.sz) (hB : P.bytesOf e = B) (h : OpensN P N e K Good) :
    OpensN P (N + 1) t (Kind.slice K) (fun xs => xs.length * B ≤ 140737488351232 ∧ ∀ x ∈ xs, Good x) := fun {H enc w base spare held fuel cs d ps} hf ht hw => by
  rcases DataW.trod_slice hu ht with ⟨rfl, hx⟩ | ⟨a, len, cap, elems, rest, n, rfl, rfl, hx, hb, hl, hm, hlen, hel, _, _⟩
  · exact ⟨[], ⟨none, 0, rfl, Nat.le_refl _, rfl, .inl rfl⟩, by simp, fun x hx => by cases hx⟩
  · cases hx
    simp only [DataW.weights, hu] at hw
    have h1 : ∀ i, i < len → ∃ x, ∃ cs', K.R (PH.ofW w) cs' x ∧ Good x ∧ ∀ j v, cs'[j]? = some v → (PH.ofW w).cell? ((a.add (i * K.sz)).add j) = some v := by
      intro i hi
      have hk := hel i hi
      rw [List.getElem?_eq_getElem (by omega)] at hk
      obtain ⟨cs', hcs, htr⟩ := Option.bind_eq_some_iff.1 hk
      unfold World.cells? at hcs
      rw [if_pos (by unfold Addr.add; split <;> exact hb)] at hcs
      obtain ⟨_, hcell⟩ := mapM_cells hcs
      obtain ⟨x, hx1, hx2⟩ := h (d := elems[i].1) (ps := elems[i].2) (by omega) htr (fun k hk => hw k (List.mem_cons_of_mem _ (List.mem_append_left _ (weightsAll_mem (List.mem_map.2 ⟨elems[i], List.getElem_mem _, rfl⟩) hk))))
      exact ⟨x, cs', hx1, hx2, fun j v e => by rw [← hc, cell_ofW]; exact hcell j v e⟩
    obtain ⟨xs, hxl, hxs⟩ := list_of h1
    refine ⟨xs, ⟨some a, cap, by rw [hxl], by omega, rfl, .inr ⟨a, rfl, fun i x e => ?_⟩⟩, ?_, fun x hx => ?_⟩
    · obtain ⟨cs', g1, _, g3⟩ := hxs i x e
      exact ⟨cs', g1, g3⟩
    · have := hw _ List.mem_cons_self
      rw [hB, List.length_map, List.length_map, hlen] at this
      rw [hxl]
      have h2 : len * B ≤ (len + rest.length) * B := Nat.mul_le_mul_right _ (by omega)
      unfold reachBytes at this
      omega
    · obtain ⟨i, hi⟩ := List.mem_iff_getElem?.1 hx
      obtain ⟨_, _, g2, _⟩ := hxs i x hi
      exact g2
/-- Nothing more. -/
def Kind.unit : Kind Unit where
  sz := 0
  R := fun _ cs _ => cs = []
  len := fun h => by rw [h]; rfl
  mono := fun _ h => h
  one := fun h u hu => by rw [h] at hu; cases hu
def OpF {α : Type} (P : Program) (N : Nat) (fs : List Field) (o : Nat) (K : Kind α) (Good : α → Prop) : Prop :=
  ∀ {H : Type} {enc : TypeId × Value → H} {w : World} {base : Nat} {spare : Nat → Bool} {held : Bool} {n : Nat} (cs : List Value) (ds : List (DataW H × List MemPlace)), n ≤ N → ds.length = fs.length →
    (∀ (i : Nat) (f : Field), fs[i]? = some f → DataW.trod enc P w base spare held n f.type ((cs.drop f.offset).take (P.cellsOf f.type)) = ds[i]?) → cs.length = o + K.sz →
    (∀ k ∈ DataW.weightsEach P (fs.map (·.type)) (ds.map (·.1)), k ≤ reachBytes) → ∃ x, K.R (PH.ofW w) (cs.drop o) x ∧ Good x
theorem opf_nil (P : Program) (N o : Nat) : OpF P N [] o Kind.unit (fun _ => True) := fun cs ds _ _ _ hl _ => ⟨(), by show cs.drop o = []; rw [List.drop_of_length_le]; have := hl; simp [Kind.unit] at this; omega, trivial⟩
theorem opf_cons {α β : Type} {P : Program} {N o : Nat} {f : Field} {fs : List Field} {K : Kind α} {K' : Kind β} {Good : α → Prop} {Good' : β → Prop} {o' : Nat} (ho : f.offset = o) (hc : P.cellsOf f.type = K.sz) (ho' : o + K.sz = o') (h : OpensN P N f.type K Good) (h' : OpF P N fs o' K' Good') :
    OpF P N (f :: fs) o (Kind.pair K K') (fun x => Good x.1 ∧ Good' x.2) := fun {H enc w base spare held n} cs ds hn hl hds hcs hw => by
  cases ds with
  | nil => cases hl
  | cons d ds =>
    subst ho'
    have h0 := hds 0 f rfl
    rw [ho, hc] at h0
    simp only [List.map_cons, DataW.weightsEach] at hw
    obtain ⟨x, hx1, hx2⟩ := h (d := d.1) (ps := d.2) hn h0 (fun k hk => hw k (List.mem_append_left _ hk))
    obtain ⟨y, hy1, hy2⟩ := h' cs ds hn (by simpa using hl) (fun i g hg => by have := hds (i + 1) g (by simpa using hg); simpa using this) (by simp only [Kind.pair] at hcs; omega) (fun k hk => hw k (List.mem_append_right _ hk))
    refine ⟨(x, y), ⟨(cs.drop o).take K.sz, cs.drop (o + K.sz), ?_, hx1, hy1⟩, hx2, hy2⟩
    rw [← List.drop_drop, List.take_append_drop]
theorem opens_struct {α : Type} {P : Program} {t : TypeId} {N : Nat} {fs : Array Field} {K : Kind α} {Good : α → Prop} (hu : P.underlying t = some (.struct fs)) (hc : P.cellsOf t = K.sz) (h : OpF P N fs.toList 0 K Good) : OpensN P (N + 1) t K Good := fun {H enc w base spare held fuel cs d ps} hf ht hw => by
  obtain ⟨xs, n, rfl, hx, hl, hxl, hxs⟩ := DataW.trod_struct hu ht
  cases hx
  simp only [DataW.weights, hu] at hw
  obtain ⟨x, h1, h2⟩ := h cs xs (by omega) (by simpa using hxl) (fun i f hf => hxs i f (by simpa using hf)) (by rw [hl, hc]; simp) hw
  exact ⟨x, by simpa using h1, h2⟩
/-- At an argument. -/
theorem Opens.arg {α : Type} {P : Program} {t : TypeId} {K : Kind α} {Good : α → Prop} (h : ∀ N, OpensN P N t K Good) {H : Type} {enc : TypeId × Value → H} {W : World} {v : Value} {d : DataW H} {ps : List MemPlace} (ht : DataW.Trod enc P W 0 (fun _ => true) true t v d ps)
    {ts : List TypeId} {ds : List (DataW H)} {j : Nat} (hsz : (DataW.weightsEach P ts ds).all (· ≤ reachBytes) = true) (h1 : ts[j]? = some t) (h2 : ds[j]? = some d) : ∃ x, K.R (PH.ofW W) v.cells.toList x ∧ Good x := by
  obtain ⟨fuel, hf⟩ := ht
  refine h fuel (Nat.le_refl _) hf fun k hk => ?_
  have := List.all_eq_true.1 hsz _ (DataW.weights_mem_each h1 h2 k hk)
  simpa using this
theorem CallSp.below {P : Program} {f : FuncId} {args : Array Value} {W : World} {Post : Value → PH → List Chunk → Prop} (h : CallSp P f args (PH.ofW W) [] Post) : Calls P f args W fun e w' => (∃ v F' H', e = .returned v ∧ Post v F' H') ∧ Below W.heap.size W w' :=
  (h W PH.emp (fun _ => rfl) (fun b o (e : PH.emp b = some o) => (by unfold PH.emp at e; cases e)) (fun b o e => by unfold PH.emp at e; cases e) (fun b o e => e)).mono fun e w' ⟨v, F', H', h1, h2, hs⟩ =>
    ⟨⟨v, F', H', h1, h2⟩, hs.os, hs.tape, hs.output, hs.size, fun k hk => hs.same k hk (fun hu => hu rfl)⟩
theorem of_bool_post {e : Ending} {Q : PH → List Chunk → Prop} (h : ∃ v F' H', e = .returned v ∧ v = .bool true ∧ Q F' H') : e = .returned (.bool true) := by
  obtain ⟨v, F', H', rfl, rfl, _⟩ := h; rfl
end Go.Sy
