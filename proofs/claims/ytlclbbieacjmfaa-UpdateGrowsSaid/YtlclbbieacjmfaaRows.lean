/-
  No cell of these rows narrows 'for every input' (looked for: loops, veiled, ifaces, maps, wideKeys, modest, calm, conditions, laid).
  DERIVED. THE GIVEN ROWS OF THIS SEAT. 3 by the template 'for every input the law returns true; each argument reads behind the call as it read before'; 0 by the template 'total and deterministic' (their statements: YtlclbbieacjmfaaTotals.lean).
  GIVEN WITH THE SEED: the statements are not yours to turn. If you find one false, say at which input.
  Laid BY PROGRAM, IN A SANDBOX (cutbox-rows.mjs): the forced cells as the released guide's own fill.sh prints them over the translation d8cf88fba9a41f39… (all of the seat's roots in one cut). By AI agents, Wed Nov 11 2026. No macro, syntax, notation, axiom, sorry.
-/
import Derived.Test.YtlclbbieacjmfaaChecked
import GoSem.Claim
import GoSem.ClaimJoined
import GoSem.ClaimMapViews
import Derived.JoinedTies
import Derived.KernelRfl
namespace Go.Proofs.Ytlclbbieacjmfaa
/- THE CELL 'sum', in the pinned program and in every row, IS THE sha256 OF THE DUMP (.gsa) THAT YtlclbbieacjmfaaProg.lean LOADS. Nothing in Lean hashes anything: it is a label: what it is worth is what the hold of that sum in a sandbox is worth. -/
noncomputable def Try.pinned : Pinned := { name := "ytlclbbieacjmfaa", sum := "d8cf88fba9a41f3914cce7e72a7cab4804bca858e3fd6afc2d457f0b7fdba294", checked := Try.checked }
namespace Rows
def none {H : Type} : Left H := { results := [], args := [] }

/-- 'gnomonlaw25.UpdateGrows': WHATEVER THE INPUT: true; the input reads as it did. -/
def updateGrowsSpec : ChangeSpec := { name := "updateGrows", fn := fun _ => fun
  | [d1, d2, d3, d4, d5, d6, d7] => { results := [.lit (.bool true)], args := [d1, d2, d3, d4, d5, d6, d7] }
  | _ => none }
def updateGrowsRow : OpenClaim := { program := "ytlclbbieacjmfaa", sum := "d8cf88fba9a41f3914cce7e72a7cab4804bca858e3fd6afc2d457f0b7fdba294", func := "gnomon/gnomonlaw25.UpdateGrows", spec := "updateGrows", inPlace := ["maps.clone"], unfollowed := true, recurses := true, apart := false }
def UpdateGrowsSaid : Prop := updateGrowsRow.holds Try.pinned (OpenSpec.ofChange updateGrowsSpec)

/-- ITS FALSE NEIGHBOUR: 'it returns false'. Refute it at one input. -/
def updateGrowsWrong : ChangeSpec := { name := "updateGrows", fn := fun _ => fun
  | [d1, d2, d3, d4, d5, d6, d7] => { results := [.lit (.bool false)], args := [d1, d2, d3, d4, d5, d6, d7] }
  | _ => none }
def UpdateGrowsWrongFalsely : Prop := updateGrowsRow.holds Try.pinned (OpenSpec.ofChange updateGrowsWrong)

/-- 'gnomonlaw25.UpdateOrder': WHATEVER THE INPUT: true; the input reads as it did. -/
def updateOrderSpec : ChangeSpec := { name := "updateOrder", fn := fun _ => fun
  | [d1, d2] => { results := [.lit (.bool true)], args := [d1, d2] }
  | _ => none }
def updateOrderRow : OpenClaim := { program := "ytlclbbieacjmfaa", sum := "d8cf88fba9a41f3914cce7e72a7cab4804bca858e3fd6afc2d457f0b7fdba294", func := "gnomon/gnomonlaw25.UpdateOrder", spec := "updateOrder", inPlace := ["maps.clone"], unfollowed := true, recurses := true, apart := false }
def UpdateOrderSaid : Prop := updateOrderRow.holds Try.pinned (OpenSpec.ofChange updateOrderSpec)

/-- ITS FALSE NEIGHBOUR: 'it returns false'. Refute it at one input. -/
def updateOrderWrong : ChangeSpec := { name := "updateOrder", fn := fun _ => fun
  | [d1, d2] => { results := [.lit (.bool false)], args := [d1, d2] }
  | _ => none }
def UpdateOrderWrongFalsely : Prop := updateOrderRow.holds Try.pinned (OpenSpec.ofChange updateOrderWrong)

/-- 'gnomonlaw25.UpdateCases': WHATEVER THE INPUT: true; the input reads as it did. -/
def updateCasesSpec : ChangeSpec := { name := "updateCases", fn := fun _ => fun
  | [d1, d2, d3, d4] => { results := [.lit (.bool true)], args := [d1, d2, d3, d4] }
  | _ => none }
def updateCasesRow : OpenClaim := { program := "ytlclbbieacjmfaa", sum := "d8cf88fba9a41f3914cce7e72a7cab4804bca858e3fd6afc2d457f0b7fdba294", func := "gnomon/gnomonlaw25.UpdateCases", spec := "updateCases", inPlace := ["maps.clone"], unfollowed := true, recurses := true, apart := false }
def UpdateCasesSaid : Prop := updateCasesRow.holds Try.pinned (OpenSpec.ofChange updateCasesSpec)

/-- ITS FALSE NEIGHBOUR: 'it returns false'. Refute it at one input. -/
def updateCasesWrong : ChangeSpec := { name := "updateCases", fn := fun _ => fun
  | [d1, d2, d3, d4] => { results := [.lit (.bool false)], args := [d1, d2, d3, d4] }
  | _ => none }
def UpdateCasesWrongFalsely : Prop := updateCasesRow.holds Try.pinned (OpenSpec.ofChange updateCasesWrong)

/- THE SECOND FORM. 'bulk': how many values and letters a reading holds, each counted each time it is reached (what is shared counts as often as it is met; a slice's spare places count too). A statement '..UptoSaid' is the law's where the arguments, and the package variables that the reading takes, are together of bulk at most 1048576: NARROWER than '..Said'. Prove '..Said' where nothing that the law and all that it calls make is longer than what came in: it says more and counts as full. Else prove '..UptoSaid'. A law counts once. -/
mutual
def uptoBulk {H : Type} : DataW H → Nat
  | .lit (.string bytes) => bytes.length + 1
  | .lit _ => 1
  | .nil => 1
  | .ptr d => uptoBulk d + 1
  | .slice elems spare => uptoBulkAll elems + uptoBulkAll spare + 1
  | .agg parts => uptoBulkAll parts + 1
  | .iface _ d => uptoBulk d + 1
  | .map entries => uptoBulkEntries entries + 1
  | .held _ => 1
def uptoBulkAll {H : Type} : List (DataW H) → Nat
  | [] => 0
  | d :: r => uptoBulk d + uptoBulkAll r
def uptoBulkEntries {H : Type} : List (Lit × DataW H) → Nat
  | [] => 0
  | x :: r => uptoBulkEntry x + uptoBulkEntries r
def uptoBulkEntry {H : Type} : Lit × DataW H → Nat
  | (.string bytes, d) => bytes.length + uptoBulk d + 1
  | (_, d) => uptoBulk d + 1
 end
def uptoSmall : (H : Type) → List (DataW H) → Bool := fun _ ds => decide (uptoBulkAll ds ≤ 1048576)
def OpenSpec.upto (s : _root_.Go.ChangeSpec) : _root_.Go.OpenSpec := { _root_.Go.OpenSpec.ofChange s with cond := some uptoSmall }

/-- 'gnomonlaw25.UpdateGrows', WHERE WHAT IT READS IS OF BULK AT MOST 1048576: true; the input reads as it did. -/
def updateGrowsUptoRow : OpenClaim := { program := "ytlclbbieacjmfaa", sum := "d8cf88fba9a41f3914cce7e72a7cab4804bca858e3fd6afc2d457f0b7fdba294", func := "gnomon/gnomonlaw25.UpdateGrows", spec := "updateGrows", inPlace := ["maps.clone"], unfollowed := true, recurses := true, apart := false, narrowed := true }
def UpdateGrowsUptoSaid : Prop := updateGrowsUptoRow.holds Try.pinned (OpenSpec.upto updateGrowsSpec)

/-- 'gnomonlaw25.UpdateOrder', WHERE WHAT IT READS IS OF BULK AT MOST 1048576: true; the input reads as it did. -/
def updateOrderUptoRow : OpenClaim := { program := "ytlclbbieacjmfaa", sum := "d8cf88fba9a41f3914cce7e72a7cab4804bca858e3fd6afc2d457f0b7fdba294", func := "gnomon/gnomonlaw25.UpdateOrder", spec := "updateOrder", inPlace := ["maps.clone"], unfollowed := true, recurses := true, apart := false, narrowed := true }
def UpdateOrderUptoSaid : Prop := updateOrderUptoRow.holds Try.pinned (OpenSpec.upto updateOrderSpec)

/-- 'gnomonlaw25.UpdateCases', WHERE WHAT IT READS IS OF BULK AT MOST 1048576: true; the input reads as it did. -/
def updateCasesUptoRow : OpenClaim := { program := "ytlclbbieacjmfaa", sum := "d8cf88fba9a41f3914cce7e72a7cab4804bca858e3fd6afc2d457f0b7fdba294", func := "gnomon/gnomonlaw25.UpdateCases", spec := "updateCases", inPlace := ["maps.clone"], unfollowed := true, recurses := true, apart := false, narrowed := true }
def UpdateCasesUptoSaid : Prop := updateCasesUptoRow.holds Try.pinned (OpenSpec.upto updateCasesSpec)

end Rows
end Go.Proofs.Ytlclbbieacjmfaa
