/-
  No cell of these rows narrows 'for every input' (looked for: loops, veiled, ifaces, maps, wideKeys, modest, calm, conditions, laid).
  DERIVED. THE GIVEN ROWS OF THIS SEAT. 5 by the template 'for every input the law returns true; each argument reads behind the call as it read before'; 0 by the template 'total and deterministic' (their statements: YtdmnenlpdeolaaaTotals.lean).
  GIVEN WITH THE SEED: the statements are not yours to turn. If you find one false, say at which input.
  Laid BY PROGRAM, IN A SANDBOX (cutbox-rows.mjs): the forced cells as the released guide's own fill.sh prints them over the translation f08ad1929f6bdc56… (all of the seat's roots in one cut). By AI agents, Wed Nov 11 2026. No macro, syntax, notation, axiom, sorry.
-/
import Derived.Test.YtdmnenlpdeolaaaChecked
import GoSem.Claim
import GoSem.ClaimJoined
import GoSem.ClaimMapViews
import Derived.JoinedTies
import Derived.KernelRfl
namespace Go.Proofs.Ytdmnenlpdeolaaa
/- THE CELL 'sum', in the pinned program and in every row, IS THE sha256 OF THE DUMP (.gsa) THAT YtdmnenlpdeolaaaProg.lean LOADS. Nothing in Lean hashes anything: it is a label: what it is worth is what the hold of that sum in a sandbox is worth. -/
noncomputable def Try.pinned : Pinned := { name := "ytdmnenlpdeolaaa", sum := "f08ad1929f6bdc56ca12d7731841b5b992c064e78e6911579aa00ddf585cc2bb", checked := Try.checked }
namespace Rows
def none {H : Type} : Left H := { results := [], args := [] }

/-- 'gnomonlaw09.DomTells': WHATEVER THE INPUT: true; the input reads as it did. -/
def domTellsSpec : ChangeSpec := { name := "domTells", fn := fun _ => fun
  | [d1, d2, d3, d4] => { results := [.lit (.bool true)], args := [d1, d2, d3, d4] }
  | _ => none }
def domTellsRow : OpenClaim := { program := "ytdmnenlpdeolaaa", sum := "f08ad1929f6bdc56ca12d7731841b5b992c064e78e6911579aa00ddf585cc2bb", func := "gnomon/gnomonlaw09.DomTells", spec := "domTells", unfollowed := true, recurses := true, apart := false }
def DomTellsSaid : Prop := domTellsRow.holds Try.pinned (OpenSpec.ofChange domTellsSpec)

/-- ITS FALSE NEIGHBOUR: 'it returns false'. Refute it at one input. -/
def domTellsWrong : ChangeSpec := { name := "domTells", fn := fun _ => fun
  | [d1, d2, d3, d4] => { results := [.lit (.bool false)], args := [d1, d2, d3, d4] }
  | _ => none }
def DomTellsWrongFalsely : Prop := domTellsRow.holds Try.pinned (OpenSpec.ofChange domTellsWrong)

/-- 'gnomonlaw09.DomChain': WHATEVER THE INPUT: true; the input reads as it did. -/
def domChainSpec : ChangeSpec := { name := "domChain", fn := fun _ => fun
  | [d1, d2] => { results := [.lit (.bool true)], args := [d1, d2] }
  | _ => none }
def domChainRow : OpenClaim := { program := "ytdmnenlpdeolaaa", sum := "f08ad1929f6bdc56ca12d7731841b5b992c064e78e6911579aa00ddf585cc2bb", func := "gnomon/gnomonlaw09.DomChain", spec := "domChain", unfollowed := true, recurses := true, apart := false }
def DomChainSaid : Prop := domChainRow.holds Try.pinned (OpenSpec.ofChange domChainSpec)

/-- ITS FALSE NEIGHBOUR: 'it returns false'. Refute it at one input. -/
def domChainWrong : ChangeSpec := { name := "domChain", fn := fun _ => fun
  | [d1, d2] => { results := [.lit (.bool false)], args := [d1, d2] }
  | _ => none }
def DomChainWrongFalsely : Prop := domChainRow.holds Try.pinned (OpenSpec.ofChange domChainWrong)

/-- 'gnomonlaw09.DomFronts': WHATEVER THE INPUT: true; the input reads as it did. -/
def domFrontsSpec : ChangeSpec := { name := "domFronts", fn := fun _ => fun
  | [d1, d2, d3] => { results := [.lit (.bool true)], args := [d1, d2, d3] }
  | _ => none }
def domFrontsRow : OpenClaim := { program := "ytdmnenlpdeolaaa", sum := "f08ad1929f6bdc56ca12d7731841b5b992c064e78e6911579aa00ddf585cc2bb", func := "gnomon/gnomonlaw09.DomFronts", spec := "domFronts", unfollowed := true, recurses := true, apart := false }
def DomFrontsSaid : Prop := domFrontsRow.holds Try.pinned (OpenSpec.ofChange domFrontsSpec)

/-- ITS FALSE NEIGHBOUR: 'it returns false'. Refute it at one input. -/
def domFrontsWrong : ChangeSpec := { name := "domFronts", fn := fun _ => fun
  | [d1, d2, d3] => { results := [.lit (.bool false)], args := [d1, d2, d3] }
  | _ => none }
def DomFrontsWrongFalsely : Prop := domFrontsRow.holds Try.pinned (OpenSpec.ofChange domFrontsWrong)

/-- 'gnomonlaw09.DomMeet': WHATEVER THE INPUT: true; the input reads as it did. -/
def domMeetSpec : ChangeSpec := { name := "domMeet", fn := fun _ => fun
  | [d1, d2, d3] => { results := [.lit (.bool true)], args := [d1, d2, d3] }
  | _ => none }
def domMeetRow : OpenClaim := { program := "ytdmnenlpdeolaaa", sum := "f08ad1929f6bdc56ca12d7731841b5b992c064e78e6911579aa00ddf585cc2bb", func := "gnomon/gnomonlaw09.DomMeet", spec := "domMeet", unfollowed := true, recurses := true, apart := false }
def DomMeetSaid : Prop := domMeetRow.holds Try.pinned (OpenSpec.ofChange domMeetSpec)

/-- ITS FALSE NEIGHBOUR: 'it returns false'. Refute it at one input. -/
def domMeetWrong : ChangeSpec := { name := "domMeet", fn := fun _ => fun
  | [d1, d2, d3] => { results := [.lit (.bool false)], args := [d1, d2, d3] }
  | _ => none }
def DomMeetWrongFalsely : Prop := domMeetRow.holds Try.pinned (OpenSpec.ofChange domMeetWrong)

/-- 'gnomonlaw09.DomWays': WHATEVER THE INPUT: true; the input reads as it did. -/
def domWaysSpec : ChangeSpec := { name := "domWays", fn := fun _ => fun
  | [d1, d2] => { results := [.lit (.bool true)], args := [d1, d2] }
  | _ => none }
def domWaysRow : OpenClaim := { program := "ytdmnenlpdeolaaa", sum := "f08ad1929f6bdc56ca12d7731841b5b992c064e78e6911579aa00ddf585cc2bb", func := "gnomon/gnomonlaw09.DomWays", spec := "domWays", unfollowed := true, recurses := true, apart := false }
def DomWaysSaid : Prop := domWaysRow.holds Try.pinned (OpenSpec.ofChange domWaysSpec)

/-- ITS FALSE NEIGHBOUR: 'it returns false'. Refute it at one input. -/
def domWaysWrong : ChangeSpec := { name := "domWays", fn := fun _ => fun
  | [d1, d2] => { results := [.lit (.bool false)], args := [d1, d2] }
  | _ => none }
def DomWaysWrongFalsely : Prop := domWaysRow.holds Try.pinned (OpenSpec.ofChange domWaysWrong)

/- THE SECOND FORM. 'bulk': how many values and letters a reading holds, each counted each time it is reached (what is shared counts as often as it is met; a slice's spare places count too). A statement '..UptoSaid' is the law's where the arguments, and the package variables that the reading takes, are together of bulk at most 1048576: NARROWER than '..Said'. Prove '..Said' where nothing that the law and all that it calls make is longer than what came in: it says more and counts as full. Else prove '..UptoSaid'. A law counts once. -/
mutual
def uptoBulk {H : Type} : DataW H → Nat
  | .lit (.string bytes) => bytes.length + 1
  | .lit _ => 1
  | .nil => 1
  | .ptr d => uptoBulk d + 1
  | .slice elems spare => uptoBulkAll elems + uptoBulkAll spare + 1
  | .agg parts => uptoBulkAll parts + 1
  | .iface _ d => uptoBulk d + 1
  | .map entries => uptoBulkEntries entries + 1
  | .held _ => 1
def uptoBulkAll {H : Type} : List (DataW H) → Nat
  | [] => 0
  | d :: r => uptoBulk d + uptoBulkAll r
def uptoBulkEntries {H : Type} : List (Lit × DataW H) → Nat
  | [] => 0
  | x :: r => uptoBulkEntry x + uptoBulkEntries r
def uptoBulkEntry {H : Type} : Lit × DataW H → Nat
  | (.string bytes, d) => bytes.length + uptoBulk d + 1
  | (_, d) => uptoBulk d + 1
 end
def uptoSmall : (H : Type) → List (DataW H) → Bool := fun _ ds => decide (uptoBulkAll ds ≤ 1048576)
def OpenSpec.upto (s : _root_.Go.ChangeSpec) : _root_.Go.OpenSpec := { _root_.Go.OpenSpec.ofChange s with cond := some uptoSmall }

/-- 'gnomonlaw09.DomTells', WHERE WHAT IT READS IS OF BULK AT MOST 1048576: true; the input reads as it did. -/
def domTellsUptoRow : OpenClaim := { program := "ytdmnenlpdeolaaa", sum := "f08ad1929f6bdc56ca12d7731841b5b992c064e78e6911579aa00ddf585cc2bb", func := "gnomon/gnomonlaw09.DomTells", spec := "domTells", unfollowed := true, recurses := true, apart := false, narrowed := true }
def DomTellsUptoSaid : Prop := domTellsUptoRow.holds Try.pinned (OpenSpec.upto domTellsSpec)

/-- 'gnomonlaw09.DomChain', WHERE WHAT IT READS IS OF BULK AT MOST 1048576: true; the input reads as it did. -/
def domChainUptoRow : OpenClaim := { program := "ytdmnenlpdeolaaa", sum := "f08ad1929f6bdc56ca12d7731841b5b992c064e78e6911579aa00ddf585cc2bb", func := "gnomon/gnomonlaw09.DomChain", spec := "domChain", unfollowed := true, recurses := true, apart := false, narrowed := true }
def DomChainUptoSaid : Prop := domChainUptoRow.holds Try.pinned (OpenSpec.upto domChainSpec)

/-- 'gnomonlaw09.DomFronts', WHERE WHAT IT READS IS OF BULK AT MOST 1048576: true; the input reads as it did. -/
def domFrontsUptoRow : OpenClaim := { program := "ytdmnenlpdeolaaa", sum := "f08ad1929f6bdc56ca12d7731841b5b992c064e78e6911579aa00ddf585cc2bb", func := "gnomon/gnomonlaw09.DomFronts", spec := "domFronts", unfollowed := true, recurses := true, apart := false, narrowed := true }
def DomFrontsUptoSaid : Prop := domFrontsUptoRow.holds Try.pinned (OpenSpec.upto domFrontsSpec)

/-- 'gnomonlaw09.DomMeet', WHERE WHAT IT READS IS OF BULK AT MOST 1048576: true; the input reads as it did. -/
def domMeetUptoRow : OpenClaim := { program := "ytdmnenlpdeolaaa", sum := "f08ad1929f6bdc56ca12d7731841b5b992c064e78e6911579aa00ddf585cc2bb", func := "gnomon/gnomonlaw09.DomMeet", spec := "domMeet", unfollowed := true, recurses := true, apart := false, narrowed := true }
def DomMeetUptoSaid : Prop := domMeetUptoRow.holds Try.pinned (OpenSpec.upto domMeetSpec)

/-- 'gnomonlaw09.DomWays', WHERE WHAT IT READS IS OF BULK AT MOST 1048576: true; the input reads as it did. -/
def domWaysUptoRow : OpenClaim := { program := "ytdmnenlpdeolaaa", sum := "f08ad1929f6bdc56ca12d7731841b5b992c064e78e6911579aa00ddf585cc2bb", func := "gnomon/gnomonlaw09.DomWays", spec := "domWays", unfollowed := true, recurses := true, apart := false, narrowed := true }
def DomWaysUptoSaid : Prop := domWaysUptoRow.holds Try.pinned (OpenSpec.upto domWaysSpec)

end Rows
end Go.Proofs.Ytdmnenlpdeolaaa
