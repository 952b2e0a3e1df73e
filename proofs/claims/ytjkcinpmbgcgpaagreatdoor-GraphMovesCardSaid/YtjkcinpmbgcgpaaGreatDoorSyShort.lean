/- Rules that stand together, as one: they make walks shorter. -/
import Derived.Test.YtjkcinpmbgcgpaaGreatDoorSyStr
namespace Go.Sy
open Go Go.RowKit
section
variable {P : Program} {E : Env} {n : Nat} {L : List (Nat × Value)} {F : PH} {H : List Chunk} {K : Act → World → Prop} {Q : Exit → Act → World → Prop} {ops : Array Oper} {rest : List Oper}
theorem sv {d : Nat} {op : Op} {ty : TypeId} {pos : String} {aft : Array Edge} {v : Value} (hy : Yields P E n L F H ⟨some d, op, ty, pos, aft, none⟩ v) (hdn : Nat.blt d n = true) (h : St (wpList P ops Q rest) E n ((d, v) :: L) F H) : St (wpList P ops Q (⟨some d, op, ty, pos, aft, none⟩ :: rest)) E n L F H := St.val hy trivial rfl hdn h
theorem sfa {d : Nat} {ty : TypeId} {pos : String} {aft : Array Edge} {x : Operand} {u v : Value} {s : TypeId} {k : Nat} (hx : ev L x = some u) (hr : ∀ w, (Instr.fieldAt s u k).run P w = .ok v w) (hdn : Nat.blt d n = true) (h : St (wpList P ops Q rest) E n ((d, v) :: L) F H) : St (wpList P ops Q (⟨some d, .fieldAddr s x k, ty, pos, aft, none⟩ :: rest)) E n L F H := sv (Yields.fieldAddr hx hr) hdn h
theorem smv {d : Nat} {ty : TypeId} {pos : String} {aft : Array Edge} {x : Operand} {v : Value} (hx : ev L x = some v) (hdn : Nat.blt d n = true) (h : St (wpList P ops Q rest) E n ((d, v) :: L) F H) : St (wpList P ops Q (⟨some d, .move x, ty, pos, aft, none⟩ :: rest)) E n L F H := sv (Yields.move hx) hdn h
theorem sas {d : Nat} {ty : TypeId} {pos : String} {aft : Array Edge} {x : Operand} {v : Value} (hx : ev L x = some v) (hdn : Nat.blt d n = true) (h : St (wpList P ops Q rest) E n ((d, v) :: L) F H) : St (wpList P ops Q (⟨some d, .assign x, ty, pos, aft, none⟩ :: rest)) E n L F H := sv (Yields.assign hx) hdn h
theorem spt {d : Nat} {ty : TypeId} {pos : String} {aft : Array Edge} {c x y : Operand} {v : Value} (hc : ev L c = some (.bool true)) (hx : ev L x = some v) (hdn : Nat.blt d n = true) (h : St (wpList P ops Q rest) E n ((d, v) :: L) F H) : St (wpList P ops Q (⟨some d, .pick c x y, ty, pos, aft, none⟩ :: rest)) E n L F H := sv (Yields.pick_t hc hx) hdn h
theorem spf {d : Nat} {ty : TypeId} {pos : String} {aft : Array Edge} {c x y : Operand} {v : Value} (hc : ev L c = some (.bool false)) (hx : ev L y = some v) (hdn : Nat.blt d n = true) (h : St (wpList P ops Q rest) E n ((d, v) :: L) F H) : St (wpList P ops Q (⟨some d, .pick c x y, ty, pos, aft, none⟩ :: rest)) E n L F H := sv (Yields.pick_f hc hx) hdn h
theorem snn (h : St K E n L F H) : St (wpList P ops (Exit.then K Q) []) E n L F H := St.nil (St.norm h)
theorem ssr {id : Nat} {l : List Oper} {y : Code} (h : St (wpList P l.toArray (Exit.then (y.wp P Q) Q) l) E n L F H) : St ((Code.seq (.region id l.toArray false) y).wp P Q) E n L F H := St.seq (St.region h)
theorem skn (h : St K E n L F H) : St (Code.skip.wp P (Exit.then K Q)) E n L F H := St.skip (St.norm h)
abbrev vT : Value := .bool true
abbrev vF : Value := .bool false
theorem su {o : Oper} {d : Nat} (hu : Unwanted ops o L) (hd : o.dst = some d) (hdn : Nat.blt d n = true) (h : St (wpList P ops Q rest) E n ((d, undef) :: L) F H) : St (wpList P ops Q (o :: rest)) E n L F H := St.unwanted hu hd hdn h
class CalmI (Q : Exit → Act → World → Prop) : Prop where
  out : Calm Q
instance {fn : Func} {w0 : World} {m F0 : PH} {Post : Value → PH → List Chunk → Prop} : CalmI (bodyPost P fn (Back w0 m F0 Post)) := ⟨calm_of⟩
instance [h : CalmI Q] : CalmI (Exit.then K Q) := ⟨h.out.then⟩
instance {id : Nat} [h : CalmI Q] : CalmI (Exit.inBlock id Q) := ⟨h.out.inBlock⟩
variable {T : List Nat} {Fs : PH} {Hs : List Chunk} {fuel : Nat} {listed listed' : Array Bool}
theorem sdp [hc : CalmI Q] (i : Nat) {d : Nat} {op : Op} {ty : TypeId} {pos : String} {aft : Array Edge} {v : Value} (hi : ops[i]? = some ⟨some d, op, ty, pos, aft, none⟩) (hy : ∀ E, Yields P E n L PH.emp [] ⟨some d, op, ty, pos, aft, none⟩ v) (hdn : Nat.blt d n = true)
    (hcheck : (Region.noSelect ops && Region.free .any ops listed i && (Region.ready .any ops listed).contains i) = true) (hl : listed.setIfInBounds i true = listed')
    (h : StD P ops Q T Fs Hs fuel listed' E n ((d, v) :: L) F H) : StD P ops Q T Fs Hs (fuel + 1) listed E n L F H := StD.takeP hi hy rfl hdn trivial hc.out hcheck hl h
theorem sdt [hc : CalmI Q] (U : List Nat) (i : Nat) {d : Nat} {op : Op} {ty : TypeId} {pos : String} {aft : Array Edge} {v : Value} (hi : ops[i]? = some ⟨some d, op, ty, pos, aft, none⟩) (hy : Yields P E n L Fs Hs ⟨some d, op, ty, pos, aft, none⟩ v) (hdn : Nat.blt d n = true) (ham : Among E Fs Hs F H)
    (hcheck : (!T.contains i && !U.contains i && tailOk ops T U && Region.noSelect ops && Region.free .any ops listed i && (Region.ready .any ops listed).contains i) = true) (hl : listed.setIfInBounds i true = listed')
    (h : StD P ops Q T Fs Hs fuel listed' E n ((d, v) :: L) F H) : StD P ops Q T Fs Hs (fuel + 1) listed E n L F H := StD.take U hi hy rfl hdn trivial ham hc.out hcheck hl h
end
end Go.Sy
