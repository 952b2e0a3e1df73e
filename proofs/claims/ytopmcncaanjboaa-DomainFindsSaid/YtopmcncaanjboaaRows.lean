/-
  No cell of these rows narrows 'for every input' (looked for: loops, veiled, ifaces, maps, wideKeys, modest, calm, conditions, laid).
  DERIVED. THE GIVEN ROWS OF THIS SEAT. 3 by the template 'for every input the law returns true; each argument reads behind the call as it read before'; 0 by the template 'total and deterministic' (their statements: YtopmcncaanjboaaTotals.lean).
  GIVEN WITH THE SEED: the statements are not yours to turn. If you find one false, say at which input.
  Laid BY PROGRAM, IN A SANDBOX (cutbox-rows.mjs): the forced cells as the released guide's own fill.sh prints them over the translation f07356bfa7e67717… (all of the seat's roots in one cut). By AI agents, Wed Nov 11 2026. No macro, syntax, notation, axiom, sorry.
-/
import Derived.Test.YtopmcncaanjboaaChecked
import GoSem.Claim
import GoSem.ClaimJoined
import GoSem.ClaimMapViews
import Derived.JoinedTies
import Derived.KernelRfl
namespace Go.Proofs.Ytopmcncaanjboaa
/- THE CELL 'sum', in the pinned program and in every row, IS THE sha256 OF THE DUMP (.gsa) THAT YtopmcncaanjboaaProg.lean LOADS. Nothing in Lean hashes anything: it is a label: what it is worth is what the hold of that sum in a sandbox is worth. -/
noncomputable def Try.pinned : Pinned := { name := "ytopmcncaanjboaa", sum := "f07356bfa7e6771743d20c69e430a538da45599c3e853ed38e9675fbc10e779e", checked := Try.checked }
namespace Rows
def none {H : Type} : Left H := { results := [], args := [] }

/-- 'searchlightlaw11.DomainLess': WHATEVER THE INPUT: true; the input reads as it did. -/
def domainLessSpec : ChangeSpec := { name := "domainLess", fn := fun _ => fun
  | [d1, d2] => { results := [.lit (.bool true)], args := [d1, d2] }
  | _ => none }
def domainLessRow : OpenClaim := { program := "ytopmcncaanjboaa", sum := "f07356bfa7e6771743d20c69e430a538da45599c3e853ed38e9675fbc10e779e", func := "searchlight/searchlightlaw11.DomainLess", spec := "domainLess", unfollowed := true, recurses := true, apart := false }
def DomainLessSaid : Prop := domainLessRow.holds Try.pinned (OpenSpec.ofChange domainLessSpec)

/-- ITS FALSE NEIGHBOUR: 'it returns false'. Refute it at one input. -/
def domainLessWrong : ChangeSpec := { name := "domainLess", fn := fun _ => fun
  | [d1, d2] => { results := [.lit (.bool false)], args := [d1, d2] }
  | _ => none }
def DomainLessWrongFalsely : Prop := domainLessRow.holds Try.pinned (OpenSpec.ofChange domainLessWrong)

/-- 'searchlightlaw11.DomainFinds': WHATEVER THE INPUT: true; the input reads as it did. -/
def domainFindsSpec : ChangeSpec := { name := "domainFinds", fn := fun _ => fun
  | [d] => { results := [.lit (.bool true)], args := [d] }
  | _ => none }
def domainFindsRow : OpenClaim := { program := "ytopmcncaanjboaa", sum := "f07356bfa7e6771743d20c69e430a538da45599c3e853ed38e9675fbc10e779e", func := "searchlight/searchlightlaw11.DomainFinds", spec := "domainFinds", unfollowed := true, recurses := true, apart := false }
def DomainFindsSaid : Prop := domainFindsRow.holds Try.pinned (OpenSpec.ofChange domainFindsSpec)

/-- ITS FALSE NEIGHBOUR: 'it returns false'. Refute it at one input. -/
def domainFindsWrong : ChangeSpec := { name := "domainFinds", fn := fun _ => fun
  | [d] => { results := [.lit (.bool false)], args := [d] }
  | _ => none }
def DomainFindsWrongFalsely : Prop := domainFindsRow.holds Try.pinned (OpenSpec.ofChange domainFindsWrong)

/-- 'searchlightlaw11.DomainTells': WHATEVER THE INPUT: true; the input reads as it did. -/
def domainTellsSpec : ChangeSpec := { name := "domainTells", fn := fun _ => fun
  | [d1, d2, d3, d4, d5, d6] => { results := [.lit (.bool true)], args := [d1, d2, d3, d4, d5, d6] }
  | _ => none }
def domainTellsRow : OpenClaim := { program := "ytopmcncaanjboaa", sum := "f07356bfa7e6771743d20c69e430a538da45599c3e853ed38e9675fbc10e779e", func := "searchlight/searchlightlaw11.DomainTells", spec := "domainTells", unfollowed := true, recurses := true, apart := false }
def DomainTellsSaid : Prop := domainTellsRow.holds Try.pinned (OpenSpec.ofChange domainTellsSpec)

/-- ITS FALSE NEIGHBOUR: 'it returns false'. Refute it at one input. -/
def domainTellsWrong : ChangeSpec := { name := "domainTells", fn := fun _ => fun
  | [d1, d2, d3, d4, d5, d6] => { results := [.lit (.bool false)], args := [d1, d2, d3, d4, d5, d6] }
  | _ => none }
def DomainTellsWrongFalsely : Prop := domainTellsRow.holds Try.pinned (OpenSpec.ofChange domainTellsWrong)

/- THE SECOND FORM. 'bulk': how many values and letters a reading holds, each counted each time it is reached (what is shared counts as often as it is met; a slice's spare places count too). A statement '..UptoSaid' is the law's where the arguments, and the package variables that the reading takes, are together of bulk at most 1048576: NARROWER than '..Said'. Prove '..Said' where nothing that the law and all that it calls make is longer than what came in: it says more and counts as full. Else prove '..UptoSaid'. A law counts once. -/
mutual
def uptoBulk {H : Type} : DataW H → Nat
  | .lit (.string bytes) => bytes.length + 1
  | .lit _ => 1
  | .nil => 1
  | .ptr d => uptoBulk d + 1
  | .slice elems spare => uptoBulkAll elems + uptoBulkAll spare + 1
  | .agg parts => uptoBulkAll parts + 1
  | .iface _ d => uptoBulk d + 1
  | .map entries => uptoBulkEntries entries + 1
  | .held _ => 1
def uptoBulkAll {H : Type} : List (DataW H) → Nat
  | [] => 0
  | d :: r => uptoBulk d + uptoBulkAll r
def uptoBulkEntries {H : Type} : List (Lit × DataW H) → Nat
  | [] => 0
  | x :: r => uptoBulkEntry x + uptoBulkEntries r
def uptoBulkEntry {H : Type} : Lit × DataW H → Nat
  | (.string bytes, d) => bytes.length + uptoBulk d + 1
  | (_, d) => uptoBulk d + 1
 end
def uptoSmall : (H : Type) → List (DataW H) → Bool := fun _ ds => decide (uptoBulkAll ds ≤ 1048576)
def OpenSpec.upto (s : _root_.Go.ChangeSpec) : _root_.Go.OpenSpec := { _root_.Go.OpenSpec.ofChange s with cond := some uptoSmall }

/-- 'searchlightlaw11.DomainLess', WHERE WHAT IT READS IS OF BULK AT MOST 1048576: true; the input reads as it did. -/
def domainLessUptoRow : OpenClaim := { program := "ytopmcncaanjboaa", sum := "f07356bfa7e6771743d20c69e430a538da45599c3e853ed38e9675fbc10e779e", func := "searchlight/searchlightlaw11.DomainLess", spec := "domainLess", unfollowed := true, recurses := true, apart := false, narrowed := true }
def DomainLessUptoSaid : Prop := domainLessUptoRow.holds Try.pinned (OpenSpec.upto domainLessSpec)

/-- 'searchlightlaw11.DomainFinds', WHERE WHAT IT READS IS OF BULK AT MOST 1048576: true; the input reads as it did. -/
def domainFindsUptoRow : OpenClaim := { program := "ytopmcncaanjboaa", sum := "f07356bfa7e6771743d20c69e430a538da45599c3e853ed38e9675fbc10e779e", func := "searchlight/searchlightlaw11.DomainFinds", spec := "domainFinds", unfollowed := true, recurses := true, apart := false, narrowed := true }
def DomainFindsUptoSaid : Prop := domainFindsUptoRow.holds Try.pinned (OpenSpec.upto domainFindsSpec)

/-- 'searchlightlaw11.DomainTells', WHERE WHAT IT READS IS OF BULK AT MOST 1048576: true; the input reads as it did. -/
def domainTellsUptoRow : OpenClaim := { program := "ytopmcncaanjboaa", sum := "f07356bfa7e6771743d20c69e430a538da45599c3e853ed38e9675fbc10e779e", func := "searchlight/searchlightlaw11.DomainTells", spec := "domainTells", unfollowed := true, recurses := true, apart := false, narrowed := true }
def DomainTellsUptoSaid : Prop := domainTellsUptoRow.holds Try.pinned (OpenSpec.upto domainTellsSpec)

end Rows
end Go.Proofs.Ytopmcncaanjboaa
