/- The calculus: maps of the call's own as lists of keys and values. -/
import Derived.Test.YtjkcinpmbgcgpaaGreatDoorSyKind
import Derived.MapKept
namespace Go.Mir
def assoc {κ α : Type} [DecidableEq κ] : List (κ × α) → κ → Option α
  | [], _ => none
  | (k, v) :: l, x => if k = x then some v else assoc l x
def upsert {κ α : Type} [DecidableEq κ] : List (κ × α) → κ → α → List (κ × α)
  | [], x, y => [(x, y)]
  | (k, v) :: l, x, y => if k = x then (k, y) :: l else (k, v) :: upsert l x y
def put {κ α : Type} [DecidableEq κ] (l : List (κ × α)) (x : κ) (y : α) : Option (List (κ × α)) := some (upsert l x y)
def getD {κ α : Type} [DecidableEq κ] (l : List (κ × α)) (x : κ) (y : α) : Option α := some ((assoc l x).getD y)
theorem getD_some {κ α : Type} [DecidableEq κ] {l : List (κ × α)} {x : κ} {y z : α} (h : getD l x y = some z) : (assoc l x).getD y = z := Option.some.inj h
def upsAll {κ α : Type} [DecidableEq κ] (us dn : List (κ × α)) : List (κ × α) := dn.foldl (fun u p => upsert u p.1 p.2) us
/-- A map without a key. -/
def del {κ α : Type} [DecidableEq κ] (l : List (κ × α)) (k : κ) : List (κ × α) := l.filter fun p => !decide (p.1 = k)
/-- All entries of a map stored into another one. -/
def copyMap {κ α : Type} [DecidableEq κ] (es zs : List (κ × α)) : Option (List (κ × α)) := some (upsAll zs es)
end Go.Mir
namespace Go.Sy
open Go Go.RowKit Go.Mir
structure KeyEnc (κ : Type) [DecidableEq κ] where
  enc : κ → Value
  desc : TypeDesc
  same : ∀ a b, Instr.sameNow desc (enc a) (enc b) = some (decide (a = b))
  bits : ∀ a, Instr.sameBits 10000 (enc a) (enc a) = true
  plain : ∀ (P : Program) (t : TypeId) (e : Bool) a w, P.underlying t = some desc → (Instr.checkKey e 10000 t (enc a)).run P w = .ok () w
def keyInt : KeyEnc Int where
  enc := .int .i64
  desc := .int .i64
  same := fun a b => by simp [Instr.sameNow]; rfl
  bits := fun a => by unfold Instr.sameBits; simp
  plain := fun P t e a w h => by unfold Instr.checkKey; simp [underlying, h]
theorem bs_beq (a b : List UInt8) : (bs a == bs b) = decide (a = b) := by
  by_cases h : a = b
  · subst h; rw [decide_eq_true rfl]; exact (Go.MapKept.bytes_beq _ _).2 rfl
  · have : ¬ bs a = bs b := fun e => h (by have := congrArg (fun x : ByteArray => x.data.toList) e; simpa [bs] using this)
    rw [decide_eq_false h, Bool.eq_false_iff]
    exact fun e => this ((Go.MapKept.bytes_beq _ _).1 e)
def keyStr : KeyEnc (List UInt8) where
  enc := fun l => .string (bs l)
  desc := .string
  same := fun a b => by simp only [Instr.sameNow, bs_beq]
  bits := fun a => by unfold Instr.sameBits; exact (bs_beq a a).trans (decide_eq_true rfl)
  plain := fun P t e a w h => by unfold Instr.checkKey; simp [underlying, h]
section
variable {κ : Type} [DecidableEq κ] {KE : KeyEnc κ}
def entsOf (KE : KeyEnc κ) (ents : List MapEntry) (vs : List (κ × Value)) : Prop := ents.map (fun e => (e.key, e.val)) = vs.map (fun p => (KE.enc p.1, p.2))
/-- No two entries have one stamp, and none has one that is still to come. -/
def stamped (ents : List MapEntry) (clock : Nat) : Prop := (ents.map (·.born)).Nodup ∧ ∀ e ∈ ents, e.born < clock
theorem stamped.push {ents : List MapEntry} {clock : Nat} (h : stamped ents clock) (k v : Value) : stamped (ents ++ [{ key := k, val := v, born := clock }]) (clock + 1) := by
  refine ⟨?_, fun e he => ?_⟩
  · rw [List.map_append, List.nodup_append]
    refine ⟨h.1, by simp, fun a ha b hb => ?_⟩
    obtain ⟨e, he, rfl⟩ := List.mem_map.1 ha
    rw [List.mem_singleton.1 hb]
    exact Nat.ne_of_lt (h.2 e he)
  · rcases List.mem_append.1 he with h1 | h1
    · exact Nat.lt_succ_of_lt (h.2 e h1)
    · rw [List.mem_singleton.1 h1]; exact Nat.lt_succ_self _
theorem born_modify (f : MapEntry → MapEntry) (hf : ∀ e, (f e).born = e.born) : ∀ (l : List MapEntry) (j : Nat), (l.modify j f).map (·.born) = l.map (·.born)
  | [], j => by cases j <;> rfl
  | e :: l, 0 => by rw [List.modify_zero_cons, List.map_cons, List.map_cons, hf]
  | e :: l, j + 1 => by rw [List.modify_succ_cons, List.map_cons, List.map_cons, born_modify f hf l j]
theorem stamped.modify {ents : List MapEntry} {clock : Nat} (h : stamped ents clock) (j : Nat) (f : MapEntry → MapEntry) (hf : ∀ e, (f e).born = e.born) : stamped (ents.modify j f) clock := by
  have he := born_modify f hf ents j
  refine ⟨by rw [he]; exact h.1, fun e hm => ?_⟩
  have : e.born ∈ ents.map (·.born) := he ▸ List.mem_map_of_mem (f := (·.born)) hm
  obtain ⟨e', h1, h2⟩ := List.mem_map.1 this
  rw [← h2]; exact h.2 e' h1
/-- A map of the call's own: its entries in some order. -/
def mapv (KE : KeyEnc κ) (b : Nat) (vs : List (κ × Value)) : Chunk := fun m => ∃ ents clock vs', m = PH.one b (.map ents clock) ∧ entsOf KE ents.toList vs' ∧ vs'.Perm vs ∧ (vs.map (·.1)).Nodup ∧ stamped ents.toList clock
theorem assoc_mem_iff {α : Type} {k : κ} {v : α} : ∀ {vs : List (κ × α)}, (vs.map (·.1)).Nodup → (assoc vs k = some v ↔ (k, v) ∈ vs)
  | [], _ => by simp [assoc]
  | (k1, v1) :: vs, hn => by
    rw [List.map_cons, List.nodup_cons] at hn
    rw [assoc, List.mem_cons]
    by_cases hk : k1 = k
    · subst hk
      rw [if_pos rfl]
      refine ⟨fun h => .inl (by cases h; rfl), fun h => ?_⟩
      rcases h with h | h
      · cases h; rfl
      · exact (hn.1 (List.mem_map_of_mem (f := (·.1)) h)).elim
    · rw [if_neg hk, assoc_mem_iff hn.2]
      exact ⟨.inr, fun h => h.resolve_left fun e => hk (by cases e; rfl)⟩
theorem assoc_perm {α : Type} {k : κ} {vs vs' : List (κ × α)} (hp : vs'.Perm vs) (hn : (vs.map (·.1)).Nodup) : assoc vs' k = assoc vs k :=
  Option.ext fun v => by rw [assoc_mem_iff ((hp.map (·.1)).nodup_iff.2 hn), assoc_mem_iff hn, hp.mem_iff]
theorem upsert_out {α : Type} {k : κ} {y : α} : ∀ {vs : List (κ × α)}, k ∉ vs.map (·.1) → upsert vs k y = vs ++ [(k, y)]
  | [], _ => rfl
  | (k1, v1) :: vs, h => by
    rw [List.map_cons, List.mem_cons, not_or] at h
    rw [upsert, if_neg (fun e => h.1 e.symm), upsert_out h.2]; rfl
theorem upsert_in {α : Type} {k : κ} {y : α} : ∀ {vs : List (κ × α)}, (vs.map (·.1)).Nodup → k ∈ vs.map (·.1) → upsert vs k y = vs.map fun p => if p.1 = k then (k, y) else p
  | [], _, h => by cases h
  | (k1, v1) :: vs, hn, h => by
    rw [List.map_cons, List.nodup_cons] at hn
    rw [List.map_cons, List.mem_cons] at h
    rw [upsert, List.map_cons]
    by_cases hk : k1 = k
    · subst hk
      rw [if_pos rfl, if_pos rfl]
      refine congrArg _ ((List.map_id vs).symm.trans (List.map_congr_left fun p hp => ?_))
      have : ¬ p.1 = k1 := fun e => hn.1 (e ▸ List.mem_map_of_mem (f := (·.1)) hp)
      rw [if_neg this]; rfl
    · rw [if_neg hk, if_neg hk, upsert_in hn.2 (h.resolve_left fun e => hk e.symm)]
theorem upsert_perm {α : Type} {k : κ} {y : α} {vs vs' : List (κ × α)} (hp : vs'.Perm vs) (hn : (vs.map (·.1)).Nodup) : (upsert vs' k y).Perm (upsert vs k y) := by
  have hn' := (hp.map (·.1)).nodup_iff.2 hn
  by_cases hk : k ∈ vs.map (·.1)
  · rw [upsert_in hn hk, upsert_in hn' ((hp.map (·.1)).mem_iff.2 hk)]; exact hp.map _
  · rw [upsert_out hk, upsert_out (fun h => hk ((hp.map (·.1)).mem_iff.1 h))]; exact hp.append_right _
theorem upsert_keys {α : Type} {k : κ} {y : α} : ∀ {vs : List (κ × α)}, ∀ q, q ∈ (upsert vs k y).map (·.1) → q = k ∨ q ∈ vs.map (·.1)
  | [], q, h => by rw [upsert] at h; exact .inl (List.mem_singleton.1 h)
  | (k1, v1) :: vs, q, h => by
    rw [upsert] at h
    split at h
    · exact .inr h
    · rcases List.mem_cons.1 h with rfl | h
      · exact .inr List.mem_cons_self
      · exact (upsert_keys q h).imp_right (List.mem_cons_of_mem _)
theorem upsert_nodup {α : Type} {k : κ} {y : α} : ∀ {vs : List (κ × α)}, (vs.map (·.1)).Nodup → ((upsert vs k y).map (·.1)).Nodup
  | [], _ => by rw [upsert]; simp
  | (k1, v1) :: vs, hn => by
    rw [upsert]
    split
    · exact hn
    · rename_i hk
      rw [List.map_cons, List.nodup_cons] at hn ⊢
      exact ⟨fun h => (upsert_keys _ h).elim hk hn.1, upsert_nodup hn.2⟩
theorem findNow_of {k : κ} : ∀ {ents : List MapEntry} {vs : List (κ × Value)} (i : Nat), entsOf KE ents vs → ∃ r, Instr.findNow KE.desc (KE.enc k) ents i = some r ∧ r.map (·.2) = assoc vs k ∧
    ∀ j v, r = some (j, v) → i ≤ j ∧ (∃ e, ents[j - i]? = some e ∧ e.key = KE.enc k) ∧ ∀ y, entsOf KE (ents.modify (j - i) fun e => { e with key := KE.enc k, val := y }) (upsert vs k y)
  | [], [], i, _ => ⟨none, rfl, rfl, fun j v h => by cases h⟩
  | [], _ :: _, _, h => by cases h
  | _ :: _, [], _, h => by cases h
  | e :: ents, (k', v') :: vs, i, h => by
    have h1 : e.key = KE.enc k' ∧ e.val = v' := by
      have := (List.cons.inj h).1
      exact ⟨(Prod.mk.inj this).1, (Prod.mk.inj this).2⟩
    have h2 : entsOf KE ents vs := (List.cons.inj h).2
    unfold Instr.findNow
    rw [h1.1, KE.same]
    by_cases hk : k = k'
    · subst hk
      rw [decide_eq_true rfl]
      refine ⟨some (i, e.val), rfl, by simp [assoc, h1.2], fun j v hj => ?_⟩
      cases hj
      refine ⟨Nat.le_refl _, ⟨e, by simp, h1.1⟩, fun y => ?_⟩
      simp only [Nat.sub_self, List.modify_zero_cons, upsert, if_true]
      unfold entsOf
      rw [List.map_cons, List.map_cons]
      exact congrArg _ h2
    · rw [decide_eq_false hk]
      obtain ⟨r, g1, g2, g3⟩ := findNow_of (k := k) (i + 1) h2
      refine ⟨r, g1, by rw [g2, assoc, if_neg (fun e => hk e.symm)], fun j v hj => ?_⟩
      obtain ⟨a1, a2, a3⟩ := g3 j v hj
      have ej : j - i = (j - (i + 1)) + 1 := by omega
      refine ⟨by omega, by rw [ej]; simpa using a2, fun y => ?_⟩
      rw [ej, List.modify_succ_cons, upsert, if_neg (fun e => hk e.symm)]
      unfold entsOf
      rw [List.map_cons, List.map_cons, h1.1, h1.2]
      exact congrArg _ (a3 y)
theorem upsert_new {vs : List (κ × Value)} {k : κ} {y : Value} (h : assoc vs k = none) : upsert vs k y = vs ++ [(k, y)] := by
  induction vs with
  | nil => rfl
  | cons p vs ih =>
    obtain ⟨k', v'⟩ := p
    rw [assoc] at h
    split at h
    · cases h
    · rename_i hk
      rw [upsert, if_neg hk, ih h]; rfl
theorem findKey_of {P : Program} {t : TypeId} {w : World} {k : κ} {ents : List MapEntry} {vs : List (κ × Value)} (h : entsOf KE ents vs) (ht : P.underlying t = some KE.desc) : ∃ r, (Instr.findKey t (KE.enc k) ents).run P w = .ok r w ∧ r.map (·.2) = assoc vs k ∧
    ∀ j v, r = some (j, v) → (∃ e, ents[j]? = some e ∧ e.key = KE.enc k) ∧ ∀ y, entsOf KE (ents.modify j fun e => { e with key := KE.enc k, val := y }) (upsert vs k y) := by
  obtain ⟨r, g1, g2, g3⟩ := findNow_of (k := k) 0 h
  refine ⟨r, ?_, g2, fun j v hj => ?_⟩
  · simp [Instr.findKey, underlying, ht, g1]
  · obtain ⟨_, a2, a3⟩ := g3 j v hj
    exact ⟨by simpa using a2, fun y => by simpa using a3 y⟩
variable {P : Program} {E : Env} {n : Nat} {L L' : List (Nat × Value)} {F F' : PH} {H H' R : List Chunk} {K : Act → World → Prop} {Q : Exit → Act → World → Prop} {ops : Array Oper} {rest : List Oper}
variable {d : Nat} {dd : Option Nat} {ty : TypeId} {pos : String} {aft : Array Edge} {gd : Option (Nat × Bool)} {x y z : Operand} {t k e : TypeId} {b : Nat} {vs : List (κ × Value)}
theorem Sat.open_mapv {w : World} (hs : Sat E F (mapv KE b vs :: H) w) : ∃ ents clock vs', Sat E F (blk b (.map ents clock) :: H) w ∧ w.heap[b]? = some (.map ents clock) ∧ entsOf KE ents.toList vs' ∧ vs'.Perm vs ∧ (vs.map (·.1)).Nodup ∧ stamped ents.toList clock := by
  obtain ⟨m, ⟨m1, m2, ⟨es, clock, vs', h1, h5⟩, h2⟩, h3⟩ := hs.mem
  have hs' : Sat E F (blk b (.map es clock) :: H) w := hs.mk' ⟨m, ⟨m1, m2, h1, h2⟩, h3⟩
  exact ⟨es, clock, vs', hs', hs'.head, h5⟩
theorem St.newMap (KE : KeyEnc κ) (hw : Wanted ops ⟨some d, .makeMap t none, ty, pos, aft, gd⟩ L) (hdn : Nat.blt d n = true)
    (h : ∀ b, St (wpList P ops Q rest) E n ((d, .map (some b)) :: L) F (mapv KE b [] :: H)) : St (wpList P ops Q (⟨some d, .makeMap t none, ty, pos, aft, gd⟩ :: rest)) E n L F H :=
  St.act hw rfl hdn fun a w ha hs => ⟨.map (some w.heap.size), w.alloc (.map #[] 0), F, _, by simp [execOp, Instr.makeMap], (hs.alloc _).one (fun m hm => ⟨#[], 0, [], hm, rfl, List.Perm.refl _, List.nodup_nil, List.nodup_nil, fun _ h => by cases h⟩), h _⟩
theorem run_mapUpdate {w : World} {kk : κ} {val : Value} (hs : Sat E F (mapv KE b vs :: H) w) (ht : P.underlying t = some (.map k e)) (hk : P.underlying k = some KE.desc) :
    ∃ w', (Instr.mapUpdate t (.map (some b)) (KE.enc kk) val).run P w = .ok () w' ∧ Sat E F (mapv KE b (upsert vs kk val) :: H) w' := by
  obtain ⟨ents, clock, vs0, hs1, hb, hes, hper, hnod, hst⟩ := hs.open_mapv
  obtain ⟨r, g1, g2, g3⟩ := findKey_of (P := P) (w := w) (k := kk) hes hk
  have hck := KE.plain P k false kk w hk
  have hget : (getObj b).run P w = .ok (.map ents clock) w := Go.MapKept.run_getObj_map hb
  have put : ∀ (es' : Array MapEntry) (c' : Nat), entsOf KE es'.toList (upsert vs0 kk val) → stamped es'.toList c' → ∃ w', (setObj b (.map es' c')).run P w = .ok () w' ∧ Sat E F (mapv KE b (upsert vs kk val) :: H) w' := fun es' c' h' hst' =>
    ⟨Go.ChangeMaps.setBlock w b (.map es' c'), Go.MapKept.run_setObj_map _ hb, (hs1.set (w' := Go.ChangeMaps.setBlock w b (.map es' c')) (o' := .map es' c') rfl rfl rfl (by simp [Go.ChangeMaps.setBlock]) (Go.ChangeMaps.heap_setBlock_same hb _) (fun j hj => Go.ChangeMaps.heap_setBlock_other hb _ hj)).one (fun m hm => ⟨es', c', _, hm, h', upsert_perm hper hnod, upsert_nodup hnod, hst'⟩)⟩
  cases r with
  | none =>
    have hn : assoc vs0 kk = none := g2.symm
    obtain ⟨w', h1, h2⟩ := put (ents.push { key := KE.enc kk, val := val, born := clock }) (clock + 1) (by
      rw [upsert_new hn]
      unfold entsOf at hes ⊢
      simp [hes]) (by simpa using hst.push _ _)
    refine ⟨w', ?_, h2⟩
    simp only [Instr.mapUpdate, Sem.run_bind, underlying, run_program, Result.andThen_ok, ht, Sem.run_pure, hget, hck, g1]
    exact h1
  | some p =>
    obtain ⟨j, v⟩ := p
    obtain ⟨⟨e0, he0, hke⟩, a3⟩ := g3 j v rfl
    have hstay : ∀ w, (Instr.keyThatStays (((ents[j]?).map (·.key)).getD (KE.enc kk)) (KE.enc kk)).run P w = .ok (KE.enc kk) w := fun w => by
      have h9 : ents[j]? = some e0 := by simpa using he0
      rw [h9]
      simp [Instr.keyThatStays, hke, KE.bits]
    obtain ⟨w', h1, h2⟩ := put (ents.modify j fun e => { e with key := KE.enc kk, val := val }) clock (by
      have := a3 val
      simpa using this) (by simpa using hst.modify j (fun e => { e with key := KE.enc kk, val := val }) fun _ => rfl)
    refine ⟨w', ?_, h2⟩
    simp only [Instr.mapUpdate, Sem.run_bind, underlying, run_program, Result.andThen_ok, ht, Sem.run_pure, hget, hck, g1, hstay]
    exact h1
theorem St.mapPut {kk : κ} {val : Value} (hm : ev L x = some (.map (some b))) (hx : ev L y = some (KE.enc kk)) (hv : ev L z = some val) (i : Nat) (hi : H[i]? = some (mapv KE b vs)) (hR : H.eraseIdx i = R)
    (ht : P.underlying t = some (.map k e)) (hk : P.underlying k = some KE.desc) (hw : Wanted ops ⟨none, .mapUpdate t x y z, ty, pos, aft, gd⟩ L)
    (h : St (wpList P ops Q rest) E n L F (mapv KE b (upsert vs kk val) :: R)) : St (wpList P ops Q (⟨none, .mapUpdate t x y z, ty, pos, aft, gd⟩ :: rest)) E n L F H :=
  St.pick i hi hR (St.act0 hw rfl fun a w ha hs => by
    obtain ⟨w', h1, h2⟩ := run_mapUpdate (kk := kk) (val := val) hs ht hk
    exact ⟨w', F, _, by simp [execOp, ha.ev hm, ha.ev hx, ha.ev hv, h1], h2, h⟩)
theorem St.mapIns {kk : κ} {val : Value} (hm : ev L x = some (.map (some b))) (hx : ev L y = some (KE.enc kk)) (hv : ev L z = some val) (i : Nat) (hi : H[i]? = some (mapv KE b vs)) (hR : H.eraseIdx i = R)
    (ht : P.underlying t = some (.map k e)) (hk : P.underlying k = some KE.desc) (hw : Wanted ops ⟨none, .insert t x y z, ty, pos, aft, gd⟩ L)
    (h : St (wpList P ops Q rest) E n L F (mapv KE b (upsert vs kk val) :: R)) : St (wpList P ops Q (⟨none, .insert t x y z, ty, pos, aft, gd⟩ :: rest)) E n L F H :=
  St.pick i hi hR (St.act0 hw rfl fun a w ha hs => by
    obtain ⟨w', h1, h2⟩ := run_mapUpdate (kk := kk) (val := val) hs ht hk
    exact ⟨w', F, _, by simp [execOp, ha.ev hm, ha.ev hx, ha.ev hv, h1], h2, h⟩)
theorem run_lookup {w : World} {kk : κ} {z0 : Value} {ok : Bool} (hs : Sat E F (mapv KE b vs :: H) w) (ht : P.underlying t = some (.map k e)) (hk : P.underlying k = some KE.desc) (hz : (P.info? e).bind TypeInfo.zero = some z0) :
    (Instr.lookup t (.map (some b)) (KE.enc kk) ok).run P w = .ok (if ok then .tuple #[(assoc vs kk).getD z0, .bool (assoc vs kk).isSome] else (assoc vs kk).getD z0) w := by
  obtain ⟨ents, clock, vs0, hs1, hb, hes, hper, hnod, hst⟩ := hs.open_mapv
  obtain ⟨r, g1, g2, g3⟩ := findKey_of (P := P) (w := w) (k := kk) hes hk
  rw [assoc_perm hper hnod] at g2
  have hck := KE.plain P k ents.isEmpty kk w hk
  have hget : (getObj b).run P w = .ok (.map ents clock) w := Go.MapKept.run_getObj_map hb
  obtain ⟨ti, hi, hz1⟩ := Option.bind_eq_some_iff.1 hz
  have hzv : (zeroValue e).run P w = .ok z0 w := by simp [zeroValue, typeInfo, hi, hz1]
  rw [← g2]
  simp only [Instr.lookup, Sem.run_bind, underlying, run_program, Result.andThen_ok, ht, Sem.run_pure, hget, hck, g1]
  cases r with
  | none =>
    simp only [Sem.run_bind, hzv, Result.andThen_ok, Sem.run_pure]
    cases ok <;> rfl
  | some p => cases ok <;> rfl
theorem Yields.look {kk : κ} {z0 : Value} (hm : ev L x = some (.map (some b))) (hx : ev L y = some (KE.enc kk)) (i : Nat) (hi : H[i]? = some (mapv KE b vs)) (ht : P.underlying t = some (.map k e)) (hk : P.underlying k = some KE.desc) (hz : (P.info? e).bind TypeInfo.zero = some z0)
    {v : Value} (hv : (assoc vs kk).getD z0 = v) : Yields P E n L F H ⟨dd, .lookup t x y false, ty, pos, aft, gd⟩ v := fun a w ha hs => by
  have := run_lookup (kk := kk) (ok := false) (hs.perm (perm_erase i hi)) ht hk hz
  subst hv
  simp [execOp, ha.ev hm, ha.ev hx, this]
theorem Yields.look2 {kk : κ} {z0 : Value} (hm : ev L x = some (.map (some b))) (hx : ev L y = some (KE.enc kk)) (i : Nat) (hi : H[i]? = some (mapv KE b vs)) (ht : P.underlying t = some (.map k e)) (hk : P.underlying k = some KE.desc) (hz : (P.info? e).bind TypeInfo.zero = some z0)
    {v : Value} {o : Bool} (hv : (assoc vs kk).getD z0 = v) (ho : (assoc vs kk).isSome = o) : Yields P E n L F H ⟨dd, .lookup t x y true, ty, pos, aft, gd⟩ (.tuple #[v, .bool o]) := fun a w ha hs => by
  have := run_lookup (kk := kk) (ok := true) (hs.perm (perm_erase i hi)) ht hk hz
  subst hv; subst ho
  simp [execOp, ha.ev hm, ha.ev hx, this]
theorem Yields.lenMap {ln : Nat} (hm : ev L x = some (.map (some b))) (i : Nat) (hi : H[i]? = some (mapv KE b vs)) (ht : P.underlying t = some (.map k e)) (hl : vs.length = ln) : Yields P E n L F H ⟨dd, .call ⟨.builtin .len, #[x], #[t]⟩, ty, pos, aft, gd⟩ (.int .i64 (ln : Int)) :=
  Yields.builtin (fun a ha => ev1 ha hm) fun w hs => by
    obtain ⟨ents, clock, vs0, hs1, hb, hes, hper, hnod, hst⟩ := (hs.perm (perm_erase i hi)).open_mapv
    have hl2 : ents.size = vs.length := by
      have := congrArg List.length hes
      rw [← hper.length_eq]
      simpa using this
    have hget : (getObj b).run P w = .ok (.map ents clock) w := Go.MapKept.run_getObj_map hb
    simp [Go.builtin, Builtin.len_, underlying, ht, hget, goInt, hl2, hl]
/-! ### values that are data -/
/-- The map's values, read as data. -/
def Mval {α : Type} (K : Kind α) (agg : Bool) (F : PH) (v : Value) (x : α) : Prop := ∃ cs, K.R F cs x ∧ if agg then v = .agg cs.toArray else cs = [v]
def Mrel {α : Type} (K : Kind α) (agg : Bool) (F : PH) : List (κ × Value) → List (κ × α) → Prop
  | [], [] => True
  | (k, v) :: vs, (k', x) :: es => k = k' ∧ Mval K agg F v x ∧ Mrel K agg F vs es
  | _, _ => False
theorem Mval.mono {α : Type} {K : Kind α} {agg : Bool} {v : Value} {x : α} (hl : PH.le F F') (h : Mval K agg F v x) : Mval K agg F' v x := let ⟨cs, h1, h2⟩ := h; ⟨cs, K.mono hl h1, h2⟩
omit [DecidableEq κ] in
theorem Mrel.mono {α : Type} {K : Kind α} {agg : Bool} (hl : PH.le F F') : ∀ {vs : List (κ × Value)} {es : List (κ × α)}, Mrel K agg F vs es → Mrel K agg F' vs es
  | [], [], _ => trivial
  | (_, _) :: _, (_, _) :: _, ⟨h1, h2, h3⟩ => ⟨h1, h2.mono hl, Mrel.mono hl h3⟩
  | [], _ :: _, h => h.elim
  | _ :: _, [], h => h.elim
omit [DecidableEq κ] in
theorem Mrel.length {α : Type} {K : Kind α} {agg : Bool} : ∀ {vs : List (κ × Value)} {es : List (κ × α)}, Mrel K agg F vs es → vs.length = es.length
  | [], [], _ => rfl
  | (_, _) :: _, (_, _) :: _, ⟨_, _, h3⟩ => congrArg (· + 1) (Mrel.length h3)
  | [], _ :: _, h => h.elim
  | _ :: _, [], h => h.elim
theorem Mrel.put {α : Type} {K : Kind α} {agg : Bool} {k : κ} {v : Value} {x : α} (hv : Mval K agg F v x) : ∀ {vs : List (κ × Value)} {es : List (κ × α)}, Mrel K agg F vs es → Mrel K agg F (upsert vs k v) (upsert es k x)
  | [], [], _ => ⟨rfl, hv, trivial⟩
  | (k1, _) :: _, (k2, _) :: _, ⟨h1, h2, h3⟩ => by
    subst h1
    rw [upsert, upsert]
    by_cases hk : k1 = k
    · rw [if_pos hk, if_pos hk]; exact ⟨rfl, hv, h3⟩
    · rw [if_neg hk, if_neg hk]; exact ⟨rfl, h2, Mrel.put hv h3⟩
  | [], _ :: _, h => h.elim
  | _ :: _, [], h => h.elim
theorem Mrel.look {α : Type} {K : Kind α} {agg : Bool} {k : κ} {z0 : Value} {zd : α} (hz : Mval K agg F z0 zd) : ∀ {vs : List (κ × Value)} {es : List (κ × α)}, Mrel K agg F vs es → Mval K agg F ((assoc vs k).getD z0) ((assoc es k).getD zd) ∧ (assoc vs k).isSome = (assoc es k).isSome
  | [], [], _ => ⟨hz, rfl⟩
  | (k1, _) :: _, (k2, _) :: _, ⟨h1, h2, h3⟩ => by
    subst h1
    rw [assoc, assoc]
    by_cases hk : k1 = k
    · rw [if_pos hk, if_pos hk]; exact ⟨h2, rfl⟩
    · rw [if_neg hk, if_neg hk]; exact Mrel.look hz h3
  | [], _ :: _, h => h.elim
  | _ :: _, [], h => h.elim
theorem Mrel.look' {α : Type} {K : Kind α} {agg : Bool} {k : κ} {z0 : Value} {zd : α} {vs : List (κ × Value)} {es : List (κ × α)} (h : Mrel K agg F vs es) (hz : Mval K agg F z0 zd) : ∃ v, (assoc vs k).getD z0 = v ∧ Mval K agg F v ((assoc es k).getD zd) := ⟨_, rfl, (Mrel.look hz h).1⟩
theorem St.mapPutK {α : Type} {K0 : Kind α} {agg : Bool} {es zs : List (κ × α)} {kk : κ} {val : Value} {xx : α} (hz : Mir.put es kk xx = some zs) (hr : Mrel K0 agg F vs es) (hval : Mval K0 agg F val xx) (hm : ev L x = some (.map (some b))) (hx : ev L y = some (KE.enc kk)) (hv : ev L z = some val) (i : Nat) (hi : H[i]? = some (mapv KE b vs)) (hR : H.eraseIdx i = R)
    (ht : P.underlying t = some (.map k e)) (hk : P.underlying k = some KE.desc) (hw : Wanted ops ⟨none, .mapUpdate t x y z, ty, pos, aft, gd⟩ L)
    (h : ∀ vs', Mrel K0 agg F vs' zs → St (wpList P ops Q rest) E n L F (mapv KE b vs' :: R)) : St (wpList P ops Q (⟨none, .mapUpdate t x y z, ty, pos, aft, gd⟩ :: rest)) E n L F H :=
  St.mapPut hm hx hv i hi hR ht hk hw (h _ (by cases hz; exact Mrel.put hval hr))
theorem St.mapInsK {α : Type} {K0 : Kind α} {agg : Bool} {es zs : List (κ × α)} {kk : κ} {val : Value} {xx : α} (hz : Mir.put es kk xx = some zs) (hr : Mrel K0 agg F vs es) (hval : Mval K0 agg F val xx) (hm : ev L x = some (.map (some b))) (hx : ev L y = some (KE.enc kk)) (hv : ev L z = some val) (i : Nat) (hi : H[i]? = some (mapv KE b vs)) (hR : H.eraseIdx i = R)
    (ht : P.underlying t = some (.map k e)) (hk : P.underlying k = some KE.desc) (hw : Wanted ops ⟨none, .insert t x y z, ty, pos, aft, gd⟩ L)
    (h : ∀ vs', Mrel K0 agg F vs' zs → St (wpList P ops Q rest) E n L F (mapv KE b vs' :: R)) : St (wpList P ops Q (⟨none, .insert t x y z, ty, pos, aft, gd⟩ :: rest)) E n L F H :=
  St.mapIns hm hx hv i hi hR ht hk hw (h _ (by cases hz; exact Mrel.put hval hr))
/-! ### interface values -/
omit [DecidableEq κ] in
theorem Yields.assertT {t t0 : TypeId} {v : Value} (ht : plainT P t = true) (hx : ev L x = some (.iface t v)) : Yields P E n L F H ⟨dd, .typeAssert x t0 t true, ty, pos, aft, gd⟩ (.tuple #[v, .bool true]) := fun a w ha _ => by
  unfold plainT at ht
  simp only [execOp, ha.ev hx, Instr.typeAssert, Sem.run_bind, underlying, run_program, Result.andThen_ok]
  cases hu : P.underlying t with
  | none => rw [hu] at ht; cases ht
  | some q => cases q <;> simp [hu] at ht ⊢
omit [DecidableEq κ] in
theorem Yields.assertF {t t0 t1 : TypeId} {v z0 : Value} (ht : plainT P t = true) (hne : Nat.beq t1 t = false) (hz : (P.info? t).bind TypeInfo.zero = some z0) (hx : ev L x = some (.iface t1 v)) : Yields P E n L F H ⟨dd, .typeAssert x t0 t true, ty, pos, aft, gd⟩ (.tuple #[z0, .bool false]) := fun a w ha _ => by
  unfold plainT at ht
  have h1 : ¬ t1 = t := fun e => by subst e; simp at hne
  obtain ⟨ti, hi, hz1⟩ := Option.bind_eq_some_iff.1 hz
  have hzv : (zeroValue t).run P w = .ok z0 w := by simp [zeroValue, typeInfo, hi, hz1]
  simp only [execOp, ha.ev hx, Instr.typeAssert, Sem.run_bind, underlying, run_program, Result.andThen_ok]
  cases hu : P.underlying t with
  | none => rw [hu] at ht; cases ht
  | some q => cases q <;> simp [hu] at ht ⊢ <;> simp [h1, hzv]
omit [DecidableEq κ] in
theorem Yields.assertN {t t0 : TypeId} {z0 : Value} (ht : plainT P t = true) (hz : (P.info? t).bind TypeInfo.zero = some z0) (hx : ev L x = some .nilIface) : Yields P E n L F H ⟨dd, .typeAssert x t0 t true, ty, pos, aft, gd⟩ (.tuple #[z0, .bool false]) := fun a w ha _ => by
  unfold plainT at ht
  obtain ⟨ti, hi, hz1⟩ := Option.bind_eq_some_iff.1 hz
  have hzv : (zeroValue t).run P w = .ok z0 w := by simp [zeroValue, typeInfo, hi, hz1]
  simp only [execOp, ha.ev hx, Instr.typeAssert, Sem.run_bind, underlying, run_program, Result.andThen_ok]
  cases hu : P.underlying t with
  | none => rw [hu] at ht; cases ht
  | some q => cases q <;> simp [hu] at ht ⊢ <;> simp [hzv]
/-- A value in an interface: its cells, as data. -/
def Ival {α : Type} (K : Kind α) (agg : Bool) (t : TypeId) (F : PH) (v : Value) (x : α) : Prop := ∃ u, Mval K agg F u x ∧ v = .iface t u
omit [DecidableEq κ] in
theorem Ival.mono {α : Type} {K : Kind α} {agg : Bool} {t : TypeId} {v : Value} {x : α} (hl : PH.le F F') (h : Ival K agg t F v x) : Ival K agg t F' v x := let ⟨u, h1, h2⟩ := h; ⟨u, h1.mono hl, h2⟩
omit [DecidableEq κ] in
theorem Ival.agg {α : Type} {K : Kind α} {t : TypeId} {v : Value} {x : α} (h : Ival K true t F v x) : ∃ cs, K.R F cs x ∧ v = .iface t (.agg cs.toArray) := let ⟨_, ⟨cs, h1, h3⟩, h2⟩ := h; ⟨cs, h1, by have h4 : _ = Value.agg cs.toArray := h3; rw [h2, h4]⟩
omit [DecidableEq κ] in
theorem Ival.one {α : Type} {K : Kind α} {t : TypeId} {v : Value} {x : α} (h : Ival K false t F v x) : ∃ u, K.R F [u] x ∧ v = .iface t u := let ⟨u, ⟨cs, h1, h3⟩, h2⟩ := h; ⟨u, by have h4 : cs = [u] := h3; rw [← h4]; exact h1, h2⟩
/-! ### functions told by their numbers -/
def FnIn (fs : List Nat) (es : List (κ × Nat)) : Prop := ∀ p ∈ es, p.2 ∈ fs
omit [DecidableEq κ] in
theorem FnIn.nil {fs : List Nat} : FnIn fs ([] : List (κ × Nat)) := fun _ h => by cases h
theorem FnIn.put {fs : List Nat} {k : κ} {x : Nat} (hx : x ∈ fs) : ∀ {es zs : List (κ × Nat)}, FnIn fs es → Mir.put es k x = some zs → FnIn fs zs
  | [], zs, _, h => by cases h; intro p hp; rw [upsert] at hp; rw [List.mem_singleton.1 hp]; exact hx
  | (k1, y) :: es, zs, hes, h => by
    cases h
    intro p hp
    rw [upsert] at hp
    split at hp
    · rcases List.mem_cons.1 hp with rfl | hp
      · exact hx
      · exact hes p (List.mem_cons_of_mem _ hp)
    · rcases List.mem_cons.1 hp with rfl | hp
      · exact hes (k1, y) List.mem_cons_self
      · exact FnIn.put hx (es := es) (fun q hq => hes q (List.mem_cons_of_mem _ hq)) rfl p hp
theorem FnIn.get {fs : List Nat} {k : κ} {x : Nat} : ∀ {es : List (κ × Nat)}, FnIn fs es → assoc es k = some x → x ∈ fs
  | (k1, y) :: es, hes, h => by
    rw [assoc] at h
    split at h
    · cases h; exact hes (k1, x) List.mem_cons_self
    · exact FnIn.get (fun q hq => hes q (List.mem_cons_of_mem _ hq)) h
def Kfn : Kind Nat := Kind.scalar (fun f => .func (.func f) #[] #[]) fun _ => rfl
theorem assoc_of {α : Type} {K : Kind α} {agg : Bool} {k : κ} : ∀ {vs : List (κ × Value)} {es : List (κ × α)} {x : α}, Mrel K agg F vs es → assoc es k = some x → ∃ v, assoc vs k = some v ∧ Mval K agg F v x
  | [], [], _, _, h => by cases h
  | (k1, v) :: _, (k2, y) :: _, x, ⟨h1, h2, h3⟩, h => by
    subst h1
    rw [assoc] at h ⊢
    by_cases hk : k1 = k
    · rw [if_pos hk] at h ⊢; cases h; exact ⟨v, rfl, h2⟩
    · rw [if_neg hk] at h ⊢; exact assoc_of h3 h
  | [], _ :: _, _, h, _ => h.elim
  | _ :: _, [], _, h, _ => h.elim
theorem Yields.lookf {kk : κ} {es : List (κ × Nat)} {f : Nat} {z0 : Value} (hr : Mrel Kfn false F vs es) (ha : assoc es kk = some f) (hm : ev L x = some (.map (some b))) (hx : ev L y = some (KE.enc kk)) (i : Nat) (hi : H[i]? = some (mapv KE b vs)) (ht : P.underlying t = some (.map k e)) (hk : P.underlying k = some KE.desc) (hz : (P.info? e).bind TypeInfo.zero = some z0) : Yields P E n L F' H ⟨dd, .lookup t x y false, ty, pos, aft, gd⟩ (.func (.func f) #[] #[]) := by
  obtain ⟨v, h1, cs, h2, h3⟩ := assoc_of hr ha
  have h2 : cs = [.func (.func f) #[] #[]] := h2
  subst h2
  have h3 : [Value.func (.func f) #[] #[]] = [v] := h3
  cases h3
  exact Yields.look hm hx i hi ht hk hz (by rw [h1]; rfl)
theorem assoc_mem {α : Type} {k : κ} {x : α} : ∀ {es : List (κ × α)}, assoc es k = some x → x ∈ es.map (·.2)
  | (k1, y) :: es, h => by
    rw [assoc] at h
    split at h
    · cases h; simp
    · exact List.mem_cons_of_mem _ (assoc_mem h)
/-! ### rows that are lent -/
omit [DecidableEq κ] in
theorem Sep.mem : ∀ {H : List Chunk} {m : PH} (i : Nat) {c : Chunk}, H[i]? = some c → Sep H m → ∃ m', c m' ∧ PH.le m' m
  | [], _, _, _, h, _ => by simp at h
  | d :: H, m, 0, c, h, hm => by
    cases h
    obtain ⟨m1, m2, h1, h2, h12, rfl⟩ := hm
    exact ⟨m1, h1, PH.le_un_left _ _⟩
  | d :: H, m, i + 1, c, h, hm => by
    obtain ⟨m1, m2, h1, h2, h12, rfl⟩ := hm
    obtain ⟨m', g1, g2⟩ := Sep.mem i (by simpa using h) h2
    exact ⟨m', g1, PH.le_trans g2 (PH.le_un_right h12)⟩
omit [DecidableEq κ] in
theorem lentR {α : Type} {D : Kind α} {b2 : Nat} {Hl : List Chunk} {m : PH} {A : Option Addr} {c sz : Nat} {cells : List Value} {xs : List α} (hm : Sep Hl m) (i : Nat) (hi : Hl[i]? = some (rowo A xs.length c e sz cells)) (hsz : sz = D.sz) (hC : Cat D F cells xs) (hb : Bnd b2 xs) (h1 : PH.le F (PH.un m F)) (h2 : PH.le m (PH.un m F)) : Fsl b2 D (PH.un m F) A c xs := by
  obtain ⟨m', g1, g2⟩ := Sep.mem i hi hm
  obtain ⟨g3, g4⟩ := Slc.of_rowo g1 hsz rfl (hC.mono h1) (PH.le_trans g2 h2)
  exact ⟨g3, g4, hb⟩
/-! ### arrays -/
omit [DecidableEq κ] in
theorem Loads.Fatm {t : TypeId} {p : Addr} {cs : List Value} {m : Nat} (h : ∀ j v, cs[j]? = some v → F.cell? (p.add j) = some v) (hl : cs.length = m) (ht : aggT P t m = true) : Loads P E F H t p (.agg cs.toArray) := Loads.Fn (by rw [hl]; exact ht) h
omit [DecidableEq κ] in
/-- Three operations may come up: each way is walked. -/
theorem StD.three {Fs : PH} {Hs : List Chunk} {T : List Nat} {fuel : Nat} {listed : Array Bool} {i j q : Nat} {oi oj oq : Oper} (hi : ops[i]? = some oi) (hj : ops[j]? = some oj) (hq : ops[q]? = some oq) (hr : Region.ready .any ops listed = [i, j, q]) {l1 l2 l3 : Array Bool} (hl : listed.setIfInBounds i true = l1) (hl2 : listed.setIfInBounds j true = l2) (hl3 : listed.setIfInBounds q true = l3)
    (h : Closed ops l1 → St (wpList P ops (Exit.then (fun a w => (T.contains i = false → Sat E Fs Hs w) ∧ wpAnyT P ops Q (Sat E Fs Hs) T fuel l1 a w) Q) [oi]) E n L F H)
    (h2 : Closed ops l2 → St (wpList P ops (Exit.then (fun a w => (T.contains j = false → Sat E Fs Hs w) ∧ wpAnyT P ops Q (Sat E Fs Hs) T fuel l2 a w) Q) [oj]) E n L F H)
    (h3 : Closed ops l3 → St (wpList P ops (Exit.then (fun a w => (T.contains q = false → Sat E Fs Hs w) ∧ wpAnyT P ops Q (Sat E Fs Hs) T fuel l3 a w) Q) [oq]) E n L F H) : StD P ops Q T Fs Hs (fuel + 1) listed E n L F H := fun a w ha hs hcl => by
  subst hl; subst hl2; subst hl3
  unfold wpAnyT
  refine ⟨fun h0 => (by rw [hr] at h0; cases h0), fun p hp => ?_⟩
  have hp' := hp
  rw [hr] at hp
  rcases List.mem_cons.1 hp with rfl | hp
  · exact wpOp_mono (fun a' w' h => ⟨fun hT _ => h.1 hT, h.2⟩) (StD.step hi (h (hcl.set hp') a w ha hs))
  · rcases List.mem_cons.1 hp with rfl | hp
    · exact wpOp_mono (fun a' w' h => ⟨fun hT _ => h.1 hT, h.2⟩) (StD.step hj (h2 (hcl.set hp') a w ha hs))
    · rw [List.mem_singleton.1 hp] at hp' ⊢
      exact wpOp_mono (fun a' w' h => ⟨fun hT _ => h.1 hT, h.2⟩) (StD.step hq (h3 (hcl.set hp') a w ha hs))
end
end Go.Sy
