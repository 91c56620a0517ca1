/-
  No cell of these rows narrows 'for every input' (looked for: loops, veiled, ifaces, maps, wideKeys, modest, calm, conditions, laid).
  DERIVED. THE GIVEN ROWS OF THIS SEAT. 4 by the template 'for every input the law returns true; each argument reads behind the call as it read before'; 0 by the template 'total and deterministic' (their statements: YtamlbkalopefgaaRTotals.lean).
  GIVEN WITH THE SEED: the statements are not yours to turn. If you find one false, say at which input.
  Laid BY PROGRAM, IN A SANDBOX (cutbox-rows.mjs): the forced cells as the released guide's own fill.sh prints them over the translation a14aa13ba756940e… (all of the seat's roots in one cut). By AI agents, Wed Nov 11 2026. No macro, syntax, notation, axiom, sorry.
-/
import Derived.Test.YtamlbkalopefgaaRChecked
import GoSem.Claim
import GoSem.ClaimJoined
import GoSem.ClaimMapViews
import Derived.JoinedTies
import Derived.KernelRfl
namespace Go.Proofs.YtamlbkalopefgaaR
/- THE CELL 'sum', in the pinned program and in every row, IS THE sha256 OF THE DUMP (.gsa) THAT YtamlbkalopefgaaRProg.lean LOADS. Nothing in Lean hashes anything: it is a label: what it is worth is what the hold of that sum in a sandbox is worth. -/
noncomputable def Try.pinned : Pinned := { name := "ytamlbkalopefgaar", sum := "a14aa13ba756940e7366dbc0ef1b3a67ebd10f59d2f2676c2365c2be04c5eff3", checked := Try.checked }
namespace Rows
def none {H : Type} : Left H := { results := [], args := [] }

/-- 'gnomonlaw05.NamesNames': WHATEVER THE INPUT: true; the input reads as it did. -/
def namesNamesSpec : ChangeSpec := { name := "namesNames", fn := fun _ => fun
  | [d] => { results := [.lit (.bool true)], args := [d] }
  | _ => none }
def namesNamesRow : OpenClaim := { program := "ytamlbkalopefgaar", sum := "a14aa13ba756940e7366dbc0ef1b3a67ebd10f59d2f2676c2365c2be04c5eff3", func := "gnomon/gnomonlaw05.NamesNames", spec := "namesNames", unfollowed := true, recurses := true, apart := false }
def NamesNamesSaid : Prop := namesNamesRow.holds Try.pinned (OpenSpec.ofChange namesNamesSpec)

/-- ITS FALSE NEIGHBOUR: 'it returns false'. Refute it at one input. -/
def namesNamesWrong : ChangeSpec := { name := "namesNames", fn := fun _ => fun
  | [d] => { results := [.lit (.bool false)], args := [d] }
  | _ => none }
def NamesNamesWrongFalsely : Prop := namesNamesRow.holds Try.pinned (OpenSpec.ofChange namesNamesWrong)

/-- 'gnomonlaw05.NamesOnce': WHATEVER THE INPUT: true; the input reads as it did. -/
def namesOnceSpec : ChangeSpec := { name := "namesOnce", fn := fun _ => fun
  | [d] => { results := [.lit (.bool true)], args := [d] }
  | _ => none }
def namesOnceRow : OpenClaim := { program := "ytamlbkalopefgaar", sum := "a14aa13ba756940e7366dbc0ef1b3a67ebd10f59d2f2676c2365c2be04c5eff3", func := "gnomon/gnomonlaw05.NamesOnce", spec := "namesOnce", unfollowed := true, recurses := true, apart := false }
def NamesOnceSaid : Prop := namesOnceRow.holds Try.pinned (OpenSpec.ofChange namesOnceSpec)

/-- ITS FALSE NEIGHBOUR: 'it returns false'. Refute it at one input. -/
def namesOnceWrong : ChangeSpec := { name := "namesOnce", fn := fun _ => fun
  | [d] => { results := [.lit (.bool false)], args := [d] }
  | _ => none }
def NamesOnceWrongFalsely : Prop := namesOnceRow.holds Try.pinned (OpenSpec.ofChange namesOnceWrong)

/-- 'gnomonlaw05.NamesOrder': WHATEVER THE INPUT: true; the input reads as it did. -/
def namesOrderSpec : ChangeSpec := { name := "namesOrder", fn := fun _ => fun
  | [d1, d2, d3] => { results := [.lit (.bool true)], args := [d1, d2, d3] }
  | _ => none }
def namesOrderRow : OpenClaim := { program := "ytamlbkalopefgaar", sum := "a14aa13ba756940e7366dbc0ef1b3a67ebd10f59d2f2676c2365c2be04c5eff3", func := "gnomon/gnomonlaw05.NamesOrder", spec := "namesOrder", unfollowed := true, recurses := true, apart := false }
def NamesOrderSaid : Prop := namesOrderRow.holds Try.pinned (OpenSpec.ofChange namesOrderSpec)

/-- ITS FALSE NEIGHBOUR: 'it returns false'. Refute it at one input. -/
def namesOrderWrong : ChangeSpec := { name := "namesOrder", fn := fun _ => fun
  | [d1, d2, d3] => { results := [.lit (.bool false)], args := [d1, d2, d3] }
  | _ => none }
def NamesOrderWrongFalsely : Prop := namesOrderRow.holds Try.pinned (OpenSpec.ofChange namesOrderWrong)

/-- 'gnomonlaw05.NamesRenamed': WHATEVER THE INPUT: true; the input reads as it did. -/
def namesRenamedSpec : ChangeSpec := { name := "namesRenamed", fn := fun _ => fun
  | [d] => { results := [.lit (.bool true)], args := [d] }
  | _ => none }
def namesRenamedRow : OpenClaim := { program := "ytamlbkalopefgaar", sum := "a14aa13ba756940e7366dbc0ef1b3a67ebd10f59d2f2676c2365c2be04c5eff3", func := "gnomon/gnomonlaw05.NamesRenamed", spec := "namesRenamed", unfollowed := true, recurses := true, apart := false }
def NamesRenamedSaid : Prop := namesRenamedRow.holds Try.pinned (OpenSpec.ofChange namesRenamedSpec)

/-- ITS FALSE NEIGHBOUR: 'it returns false'. Refute it at one input. -/
def namesRenamedWrong : ChangeSpec := { name := "namesRenamed", fn := fun _ => fun
  | [d] => { results := [.lit (.bool false)], args := [d] }
  | _ => none }
def NamesRenamedWrongFalsely : Prop := namesRenamedRow.holds Try.pinned (OpenSpec.ofChange namesRenamedWrong)

/- THE SECOND FORM. 'bulk': how many values and letters a reading holds, each counted each time it is reached (what is shared counts as often as it is met; a slice's spare places count too). A statement '..UptoSaid' is the law's where the arguments, and the package variables that the reading takes, are together of bulk at most 1048576: NARROWER than '..Said'. Prove '..Said' where nothing that the law and all that it calls make is longer than what came in: it says more and counts as full. Else prove '..UptoSaid'. A law counts once. -/
mutual
def uptoBulk {H : Type} : DataW H → Nat
  | .lit (.string bytes) => bytes.length + 1
  | .lit _ => 1
  | .nil => 1
  | .ptr d => uptoBulk d + 1
  | .slice elems spare => uptoBulkAll elems + uptoBulkAll spare + 1
  | .agg parts => uptoBulkAll parts + 1
  | .iface _ d => uptoBulk d + 1
  | .map entries => uptoBulkEntries entries + 1
  | .held _ => 1
def uptoBulkAll {H : Type} : List (DataW H) → Nat
  | [] => 0
  | d :: r => uptoBulk d + uptoBulkAll r
def uptoBulkEntries {H : Type} : List (Lit × DataW H) → Nat
  | [] => 0
  | x :: r => uptoBulkEntry x + uptoBulkEntries r
def uptoBulkEntry {H : Type} : Lit × DataW H → Nat
  | (.string bytes, d) => bytes.length + uptoBulk d + 1
  | (_, d) => uptoBulk d + 1
 end
def uptoSmall : (H : Type) → List (DataW H) → Bool := fun _ ds => decide (uptoBulkAll ds ≤ 1048576)
def OpenSpec.upto (s : _root_.Go.ChangeSpec) : _root_.Go.OpenSpec := { _root_.Go.OpenSpec.ofChange s with cond := some uptoSmall }

/-- 'gnomonlaw05.NamesNames', WHERE WHAT IT READS IS OF BULK AT MOST 1048576: true; the input reads as it did. -/
def namesNamesUptoRow : OpenClaim := { program := "ytamlbkalopefgaar", sum := "a14aa13ba756940e7366dbc0ef1b3a67ebd10f59d2f2676c2365c2be04c5eff3", func := "gnomon/gnomonlaw05.NamesNames", spec := "namesNames", unfollowed := true, recurses := true, apart := false, narrowed := true }
def NamesNamesUptoSaid : Prop := namesNamesUptoRow.holds Try.pinned (OpenSpec.upto namesNamesSpec)

/-- 'gnomonlaw05.NamesOnce', WHERE WHAT IT READS IS OF BULK AT MOST 1048576: true; the input reads as it did. -/
def namesOnceUptoRow : OpenClaim := { program := "ytamlbkalopefgaar", sum := "a14aa13ba756940e7366dbc0ef1b3a67ebd10f59d2f2676c2365c2be04c5eff3", func := "gnomon/gnomonlaw05.NamesOnce", spec := "namesOnce", unfollowed := true, recurses := true, apart := false, narrowed := true }
def NamesOnceUptoSaid : Prop := namesOnceUptoRow.holds Try.pinned (OpenSpec.upto namesOnceSpec)

/-- 'gnomonlaw05.NamesOrder', WHERE WHAT IT READS IS OF BULK AT MOST 1048576: true; the input reads as it did. -/
def namesOrderUptoRow : OpenClaim := { program := "ytamlbkalopefgaar", sum := "a14aa13ba756940e7366dbc0ef1b3a67ebd10f59d2f2676c2365c2be04c5eff3", func := "gnomon/gnomonlaw05.NamesOrder", spec := "namesOrder", unfollowed := true, recurses := true, apart := false, narrowed := true }
def NamesOrderUptoSaid : Prop := namesOrderUptoRow.holds Try.pinned (OpenSpec.upto namesOrderSpec)

/-- 'gnomonlaw05.NamesRenamed', WHERE WHAT IT READS IS OF BULK AT MOST 1048576: true; the input reads as it did. -/
def namesRenamedUptoRow : OpenClaim := { program := "ytamlbkalopefgaar", sum := "a14aa13ba756940e7366dbc0ef1b3a67ebd10f59d2f2676c2365c2be04c5eff3", func := "gnomon/gnomonlaw05.NamesRenamed", spec := "namesRenamed", unfollowed := true, recurses := true, apart := false, narrowed := true }
def NamesRenamedUptoSaid : Prop := namesRenamedUptoRow.holds Try.pinned (OpenSpec.upto namesRenamedSpec)

end Rows
end Go.Proofs.YtamlbkalopefgaaR
