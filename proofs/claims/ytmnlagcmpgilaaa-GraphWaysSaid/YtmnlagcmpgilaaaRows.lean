/-
  No cell of these rows narrows 'for every input' (looked for: loops, veiled, ifaces, maps, wideKeys, modest, calm, conditions, laid).
  DERIVED. THE GIVEN ROWS OF THIS SEAT. 6 by the template 'for every input the law returns true; each argument reads behind the call as it read before'; 0 by the template 'total and deterministic' (their statements: YtmnlagcmpgilaaaTotals.lean).
  GIVEN WITH THE SEED: the statements are not yours to turn. If you find one false, say at which input.
  Laid BY PROGRAM, IN A SANDBOX (cutbox-rows.mjs): the forced cells as the released guide's own fill.sh prints them over the translation a039a9a0771068d1… (all of the seat's roots in one cut). By AI agents, Wed Nov 11 2026. No macro, syntax, notation, axiom, sorry.
-/
import Derived.Test.YtmnlagcmpgilaaaChecked
import GoSem.Claim
import GoSem.ClaimJoined
import GoSem.ClaimMapViews
import Derived.JoinedTies
import Derived.KernelRfl
namespace Go.Proofs.Ytmnlagcmpgilaaa
/- THE CELL 'sum', in the pinned program and in every row, IS THE sha256 OF THE DUMP (.gsa) THAT YtmnlagcmpgilaaaProg.lean LOADS. Nothing in Lean hashes anything: it is a label: what it is worth is what the hold of that sum in a sandbox is worth. -/
noncomputable def Try.pinned : Pinned := { name := "ytmnlagcmpgilaaa", sum := "a039a9a0771068d131e7b2d6e6d5d65bfc079a5da2aadded74162a71e0ae2e01", checked := Try.checked }
namespace Rows
def none {H : Type} : Left H := { results := [], args := [] }

/-- 'gnomonlaw07.GraphForms': WHATEVER THE INPUT: true; the input reads as it did. -/
def graphFormsSpec : ChangeSpec := { name := "graphForms", fn := fun _ => fun
  | [d] => { results := [.lit (.bool true)], args := [d] }
  | _ => none }
def graphFormsRow : OpenClaim := { program := "ytmnlagcmpgilaaa", sum := "a039a9a0771068d131e7b2d6e6d5d65bfc079a5da2aadded74162a71e0ae2e01", func := "gnomon/gnomonlaw07.GraphForms", spec := "graphForms", unfollowed := true, recurses := true, apart := false }
def GraphFormsSaid : Prop := graphFormsRow.holds Try.pinned (OpenSpec.ofChange graphFormsSpec)

/-- ITS FALSE NEIGHBOUR: 'it returns false'. Refute it at one input. -/
def graphFormsWrong : ChangeSpec := { name := "graphForms", fn := fun _ => fun
  | [d] => { results := [.lit (.bool false)], args := [d] }
  | _ => none }
def GraphFormsWrongFalsely : Prop := graphFormsRow.holds Try.pinned (OpenSpec.ofChange graphFormsWrong)

/-- 'gnomonlaw07.GraphWays': WHATEVER THE INPUT: true; the input reads as it did. -/
def graphWaysSpec : ChangeSpec := { name := "graphWays", fn := fun _ => fun
  | [d1, d2, d3, d4] => { results := [.lit (.bool true)], args := [d1, d2, d3, d4] }
  | _ => none }
def graphWaysRow : OpenClaim := { program := "ytmnlagcmpgilaaa", sum := "a039a9a0771068d131e7b2d6e6d5d65bfc079a5da2aadded74162a71e0ae2e01", func := "gnomon/gnomonlaw07.GraphWays", spec := "graphWays", unfollowed := true, recurses := true, apart := false }
def GraphWaysSaid : Prop := graphWaysRow.holds Try.pinned (OpenSpec.ofChange graphWaysSpec)

/-- ITS FALSE NEIGHBOUR: 'it returns false'. Refute it at one input. -/
def graphWaysWrong : ChangeSpec := { name := "graphWays", fn := fun _ => fun
  | [d1, d2, d3, d4] => { results := [.lit (.bool false)], args := [d1, d2, d3, d4] }
  | _ => none }
def GraphWaysWrongFalsely : Prop := graphWaysRow.holds Try.pinned (OpenSpec.ofChange graphWaysWrong)

/-- 'gnomonlaw07.GraphBack': WHATEVER THE INPUT: true; the input reads as it did. -/
def graphBackSpec : ChangeSpec := { name := "graphBack", fn := fun _ => fun
  | [d] => { results := [.lit (.bool true)], args := [d] }
  | _ => none }
def graphBackRow : OpenClaim := { program := "ytmnlagcmpgilaaa", sum := "a039a9a0771068d131e7b2d6e6d5d65bfc079a5da2aadded74162a71e0ae2e01", func := "gnomon/gnomonlaw07.GraphBack", spec := "graphBack", unfollowed := true, recurses := true, apart := false }
def GraphBackSaid : Prop := graphBackRow.holds Try.pinned (OpenSpec.ofChange graphBackSpec)

/-- ITS FALSE NEIGHBOUR: 'it returns false'. Refute it at one input. -/
def graphBackWrong : ChangeSpec := { name := "graphBack", fn := fun _ => fun
  | [d] => { results := [.lit (.bool false)], args := [d] }
  | _ => none }
def GraphBackWrongFalsely : Prop := graphBackRow.holds Try.pinned (OpenSpec.ofChange graphBackWrong)

/-- 'gnomonlaw07.GraphPost': WHATEVER THE INPUT: true; the input reads as it did. -/
def graphPostSpec : ChangeSpec := { name := "graphPost", fn := fun _ => fun
  | [d1, d2] => { results := [.lit (.bool true)], args := [d1, d2] }
  | _ => none }
def graphPostRow : OpenClaim := { program := "ytmnlagcmpgilaaa", sum := "a039a9a0771068d131e7b2d6e6d5d65bfc079a5da2aadded74162a71e0ae2e01", func := "gnomon/gnomonlaw07.GraphPost", spec := "graphPost", unfollowed := true, recurses := true, apart := false }
def GraphPostSaid : Prop := graphPostRow.holds Try.pinned (OpenSpec.ofChange graphPostSpec)

/-- ITS FALSE NEIGHBOUR: 'it returns false'. Refute it at one input. -/
def graphPostWrong : ChangeSpec := { name := "graphPost", fn := fun _ => fun
  | [d1, d2] => { results := [.lit (.bool false)], args := [d1, d2] }
  | _ => none }
def GraphPostWrongFalsely : Prop := graphPostRow.holds Try.pinned (OpenSpec.ofChange graphPostWrong)

/-- 'gnomonlaw07.GraphTogether': WHATEVER THE INPUT: true; the input reads as it did. -/
def graphTogetherSpec : ChangeSpec := { name := "graphTogether", fn := fun _ => fun
  | [d1, d2, d3] => { results := [.lit (.bool true)], args := [d1, d2, d3] }
  | _ => none }
def graphTogetherRow : OpenClaim := { program := "ytmnlagcmpgilaaa", sum := "a039a9a0771068d131e7b2d6e6d5d65bfc079a5da2aadded74162a71e0ae2e01", func := "gnomon/gnomonlaw07.GraphTogether", spec := "graphTogether", unfollowed := true, recurses := true, apart := false }
def GraphTogetherSaid : Prop := graphTogetherRow.holds Try.pinned (OpenSpec.ofChange graphTogetherSpec)

/-- ITS FALSE NEIGHBOUR: 'it returns false'. Refute it at one input. -/
def graphTogetherWrong : ChangeSpec := { name := "graphTogether", fn := fun _ => fun
  | [d1, d2, d3] => { results := [.lit (.bool false)], args := [d1, d2, d3] }
  | _ => none }
def GraphTogetherWrongFalsely : Prop := graphTogetherRow.holds Try.pinned (OpenSpec.ofChange graphTogetherWrong)

/-- 'gnomonlaw07.GraphForm': WHATEVER THE INPUT: true; the input reads as it did. -/
def graphFormSpec : ChangeSpec := { name := "graphForm", fn := fun _ => fun
  | [d1, d2] => { results := [.lit (.bool true)], args := [d1, d2] }
  | _ => none }
def graphFormRow : OpenClaim := { program := "ytmnlagcmpgilaaa", sum := "a039a9a0771068d131e7b2d6e6d5d65bfc079a5da2aadded74162a71e0ae2e01", func := "gnomon/gnomonlaw07.GraphForm", spec := "graphForm", unfollowed := true, recurses := true, apart := false }
def GraphFormSaid : Prop := graphFormRow.holds Try.pinned (OpenSpec.ofChange graphFormSpec)

/-- ITS FALSE NEIGHBOUR: 'it returns false'. Refute it at one input. -/
def graphFormWrong : ChangeSpec := { name := "graphForm", fn := fun _ => fun
  | [d1, d2] => { results := [.lit (.bool false)], args := [d1, d2] }
  | _ => none }
def GraphFormWrongFalsely : Prop := graphFormRow.holds Try.pinned (OpenSpec.ofChange graphFormWrong)

/- THE SECOND FORM. 'bulk': how many values and letters a reading holds, each counted each time it is reached (what is shared counts as often as it is met; a slice's spare places count too). A statement '..UptoSaid' is the law's where the arguments, and the package variables that the reading takes, are together of bulk at most 1048576: NARROWER than '..Said'. Prove '..Said' where nothing that the law and all that it calls make is longer than what came in: it says more and counts as full. Else prove '..UptoSaid'. A law counts once. -/
mutual
def uptoBulk {H : Type} : DataW H → Nat
  | .lit (.string bytes) => bytes.length + 1
  | .lit _ => 1
  | .nil => 1
  | .ptr d => uptoBulk d + 1
  | .slice elems spare => uptoBulkAll elems + uptoBulkAll spare + 1
  | .agg parts => uptoBulkAll parts + 1
  | .iface _ d => uptoBulk d + 1
  | .map entries => uptoBulkEntries entries + 1
  | .held _ => 1
def uptoBulkAll {H : Type} : List (DataW H) → Nat
  | [] => 0
  | d :: r => uptoBulk d + uptoBulkAll r
def uptoBulkEntries {H : Type} : List (Lit × DataW H) → Nat
  | [] => 0
  | x :: r => uptoBulkEntry x + uptoBulkEntries r
def uptoBulkEntry {H : Type} : Lit × DataW H → Nat
  | (.string bytes, d) => bytes.length + uptoBulk d + 1
  | (_, d) => uptoBulk d + 1
 end
def uptoSmall : (H : Type) → List (DataW H) → Bool := fun _ ds => decide (uptoBulkAll ds ≤ 1048576)
def OpenSpec.upto (s : _root_.Go.ChangeSpec) : _root_.Go.OpenSpec := { _root_.Go.OpenSpec.ofChange s with cond := some uptoSmall }

/-- 'gnomonlaw07.GraphForms', WHERE WHAT IT READS IS OF BULK AT MOST 1048576: true; the input reads as it did. -/
def graphFormsUptoRow : OpenClaim := { program := "ytmnlagcmpgilaaa", sum := "a039a9a0771068d131e7b2d6e6d5d65bfc079a5da2aadded74162a71e0ae2e01", func := "gnomon/gnomonlaw07.GraphForms", spec := "graphForms", unfollowed := true, recurses := true, apart := false, narrowed := true }
def GraphFormsUptoSaid : Prop := graphFormsUptoRow.holds Try.pinned (OpenSpec.upto graphFormsSpec)

/-- 'gnomonlaw07.GraphWays', WHERE WHAT IT READS IS OF BULK AT MOST 1048576: true; the input reads as it did. -/
def graphWaysUptoRow : OpenClaim := { program := "ytmnlagcmpgilaaa", sum := "a039a9a0771068d131e7b2d6e6d5d65bfc079a5da2aadded74162a71e0ae2e01", func := "gnomon/gnomonlaw07.GraphWays", spec := "graphWays", unfollowed := true, recurses := true, apart := false, narrowed := true }
def GraphWaysUptoSaid : Prop := graphWaysUptoRow.holds Try.pinned (OpenSpec.upto graphWaysSpec)

/-- 'gnomonlaw07.GraphBack', WHERE WHAT IT READS IS OF BULK AT MOST 1048576: true; the input reads as it did. -/
def graphBackUptoRow : OpenClaim := { program := "ytmnlagcmpgilaaa", sum := "a039a9a0771068d131e7b2d6e6d5d65bfc079a5da2aadded74162a71e0ae2e01", func := "gnomon/gnomonlaw07.GraphBack", spec := "graphBack", unfollowed := true, recurses := true, apart := false, narrowed := true }
def GraphBackUptoSaid : Prop := graphBackUptoRow.holds Try.pinned (OpenSpec.upto graphBackSpec)

/-- 'gnomonlaw07.GraphPost', WHERE WHAT IT READS IS OF BULK AT MOST 1048576: true; the input reads as it did. -/
def graphPostUptoRow : OpenClaim := { program := "ytmnlagcmpgilaaa", sum := "a039a9a0771068d131e7b2d6e6d5d65bfc079a5da2aadded74162a71e0ae2e01", func := "gnomon/gnomonlaw07.GraphPost", spec := "graphPost", unfollowed := true, recurses := true, apart := false, narrowed := true }
def GraphPostUptoSaid : Prop := graphPostUptoRow.holds Try.pinned (OpenSpec.upto graphPostSpec)

/-- 'gnomonlaw07.GraphTogether', WHERE WHAT IT READS IS OF BULK AT MOST 1048576: true; the input reads as it did. -/
def graphTogetherUptoRow : OpenClaim := { program := "ytmnlagcmpgilaaa", sum := "a039a9a0771068d131e7b2d6e6d5d65bfc079a5da2aadded74162a71e0ae2e01", func := "gnomon/gnomonlaw07.GraphTogether", spec := "graphTogether", unfollowed := true, recurses := true, apart := false, narrowed := true }
def GraphTogetherUptoSaid : Prop := graphTogetherUptoRow.holds Try.pinned (OpenSpec.upto graphTogetherSpec)

/-- 'gnomonlaw07.GraphForm', WHERE WHAT IT READS IS OF BULK AT MOST 1048576: true; the input reads as it did. -/
def graphFormUptoRow : OpenClaim := { program := "ytmnlagcmpgilaaa", sum := "a039a9a0771068d131e7b2d6e6d5d65bfc079a5da2aadded74162a71e0ae2e01", func := "gnomon/gnomonlaw07.GraphForm", spec := "graphForm", unfollowed := true, recurses := true, apart := false, narrowed := true }
def GraphFormUptoSaid : Prop := graphFormUptoRow.holds Try.pinned (OpenSpec.upto graphFormSpec)

end Rows
end Go.Proofs.Ytmnlagcmpgilaaa
