/- The calculus: maps of the call's own, of plain elements. -/
import Derived.Test.YtjkcinpmbgcgpaaGreatDoorSyMore
import Derived.Maps.OwnSet
namespace Go.Sy
open Go Go.RowKit Go.Maps
/-- A map in block b: at most n entries, it reads as D. -/
def mapc (P : Program) (k e : TypeId) (b n : Nat) (D : DataW Unit) : Chunk := fun m => ∃ es clock, m = PH.one b (.map es clock) ∧ ∀ w : World, w.heap[b]? = some (.map es clock) → w.ownsMap P k (plainElem P e) b n D
section
variable {P : Program} {E : Env} {n : Nat} {L L' : List (Nat × Value)} {F F' : PH} {H H' R : List Chunk} {K : Act → World → Prop} {Q : Exit → Act → World → Prop} {ops : Array Oper} {rest : List Oper}
variable {d : Nat} {dd : Option Nat} {ty : TypeId} {pos : String} {aft : Array Edge} {gd : Option (Nat × Bool)} {x y z : Operand} {t k e : TypeId} {b c : Nat} {D : DataW Unit}
theorem mapc_new (b : Nat) (m : PH) (hm : blk b (.map #[] 0) m) : mapc P k e b 0 (.map []) m := ⟨#[], 0, hm, fun _ h => ⟨#[], 0, h, ⟨by simp, Go.MapKept.stamped_empty 0, by simp⟩, Nat.le_refl _, rfl⟩⟩
theorem Sat.one {c c' : Chunk} {w : World} (hs : Sat E F (c :: H) w) (hc : ∀ m, c m → c' m) : Sat E F (c' :: H) w :=
  hs.mk' (let ⟨m, ⟨m1, m2, h1, h2⟩, h3⟩ := hs.mem; ⟨m, ⟨m1, m2, hc _ h1, h2⟩, h3⟩)
theorem Sat.open_map {w : World} (hs : Sat E F (mapc P k e b c D :: H) w) : ∃ es clock, Sat E F (blk b (.map es clock) :: H) w ∧ w.ownsMap P k (plainElem P e) b c D := by
  obtain ⟨m, ⟨m1, m2, ⟨es, clock, h1, h5⟩, h2⟩, h3⟩ := hs.mem
  have hs' : Sat E F (blk b (.map es clock) :: H) w := hs.mk' ⟨m, ⟨m1, m2, h1, h2⟩, h3⟩
  exact ⟨es, clock, hs', h5 w hs'.head⟩
theorem St.makeMap (hw : Wanted ops ⟨some d, .makeMap t none, ty, pos, aft, gd⟩ L) (hdn : Nat.blt d n = true)
    (h : ∀ b, St (wpList P ops Q rest) E n ((d, .map (some b)) :: L) F (mapc P k e b 0 (.map []) :: H)) : St (wpList P ops Q (⟨some d, .makeMap t none, ty, pos, aft, gd⟩ :: rest)) E n L F H :=
  St.act hw rfl hdn fun a w ha hs => ⟨.map (some w.heap.size), w.alloc (.map #[] 0), F, _, by simp [execOp, Instr.makeMap], (hs.alloc _).one (mapc_new _), h _⟩
theorem St.mapUpdate {key val : Value} {kl : Lit} {v : DataW Unit} (hm : ev L x = some (.map (some b))) (hx : ev L y = some key) (hv : ev L z = some val) (i : Nat) (hi : H[i]? = some (mapc P k e b c D)) (hR : H.eraseIdx i = R)
    (K : Keyed P k) (ht : P.underlying t = some (.map k e)) (hn : c < maxLen) (hkey : keyOf P k key = some kl) (hval : plainElem P e val = some (v, [])) (hw : Wanted ops ⟨none, .mapUpdate t x y z, ty, pos, aft, gd⟩ L)
    (h : St (wpList P ops Q rest) E n L F (mapc P k e b (c + 1) (D.put kl v) :: R)) : St (wpList P ops Q (⟨none, .mapUpdate t x y z, ty, pos, aft, gd⟩ :: rest)) E n L F H :=
  St.pick i hi hR (St.act0 hw rfl fun a w ha hs => by
    obtain ⟨es, clock, hs1, hown⟩ := hs.open_map
    obtain ⟨w', hrun, hown', es0, clock0, es', clock', hb, rfl⟩ := hown.store K ht hn hkey hval
    have hs2 := hs1.set (w' := Go.ChangeMaps.setBlock w b (.map es' clock')) (o' := .map es' clock') rfl rfl rfl (by simp [Go.ChangeMaps.setBlock]) (Go.ChangeMaps.heap_setBlock_same hb _) (fun j hj => Go.ChangeMaps.heap_setBlock_other hb _ hj)
    refine ⟨_, F, _, by simp [execOp, ha.ev hm, ha.ev hx, ha.ev hv, hrun], hs2.one (fun m hm => ⟨es', clock', hm, fun w2 h2 => ?_⟩), h⟩
    obtain ⟨es2, clock2, g1, g2⟩ := hown'
    rw [Go.ChangeMaps.heap_setBlock_same hb _] at g1
    cases g1
    exact ⟨es', clock', h2, g2⟩)
/-- A part of a row that is read. -/
theorem Slc.sub {α : Type} {K : Kind α} {A : Option Addr} {k c : Nat} {xs : List α} (h : Slc K F A k xs) (hkc : k ≤ c) {i j : Nat} (hij : i ≤ j) (hj : j ≤ k) : Slc K F (if c = i then A else A.map (·.add (i * K.sz))) (j - i) ((xs.take j).drop i) := by
  have hl := h.1
  refine ⟨by rw [List.length_drop, List.length_take]; omega, ?_⟩
  by_cases hz : j - i = 0
  · exact .inl hz
  · rcases h.2 with h0 | ⟨ad, rfl, h2⟩
    · omega
    · refine .inr ⟨ad.add (i * K.sz), by rw [if_neg (by omega)]; rfl, fun q x e => ?_⟩
      rw [List.getElem?_drop, List.getElem?_take] at e
      split at e
      · obtain ⟨cs, g1, g2⟩ := h2 _ x e
        refine ⟨cs, g1, fun p v hv => ?_⟩
        have := g2 p v hv
        rw [add_add, add_add]
        rwa [add_add, Nat.add_mul, Nat.add_assoc] at this
      · cases e
theorem St.sub {α : Type} {D : Kind α} {xs : List α} {A : Option Addr} {sz bytes c k : Nat} {kd kd2 : IntKind} {j l : Int} {s zz : Operand} (hT : slT P t e sz bytes = true) (hx : ev L s = some (.slice A k c)) (hy : ev L y = some (.int kd j)) (hz : ev L zz = some (.int kd2 l)) (hS : Slc D F A k xs) (hDs : D.sz = sz) (hkc : k ≤ c) (h0 : 0 ≤ j) (h1 : j ≤ l) (h2 : l ≤ k)
    (hdn : Nat.blt d n = true) (hw : Wanted ops ⟨some d, .slice t s (some y) (some zz) none, ty, pos, aft, gd⟩ L)
    (h : ∀ A' c', l.toNat - j.toNat ≤ c' → Slc D F A' (l.toNat - j.toNat) ((xs.take l.toNat).drop j.toNat) → St (wpList P ops Q rest) E n ((d, .slice A' (l.toNat - j.toNat) c') :: L) F H) : St (wpList P ops Q (⟨some d, .slice t s (some y) (some zz) none, ty, pos, aft, gd⟩ :: rest)) E n L F H := by
  subst hDs
  exact St.val (Yields.slice2 hT hx hy hz h0 h1 (by omega)) hw rfl hdn (h _ _ (by omega) (hS.sub hkc (by omega) (by omega)))
end
end Go.Sy
