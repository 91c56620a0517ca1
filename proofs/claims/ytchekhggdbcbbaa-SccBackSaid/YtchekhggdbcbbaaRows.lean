/-
  No cell of these rows narrows 'for every input' (looked for: loops, veiled, ifaces, maps, wideKeys, modest, calm, conditions, laid).
  DERIVED. THE GIVEN ROWS OF THIS SEAT. 5 by the template 'for every input the law returns true; each argument reads behind the call as it read before'; 0 by the template 'total and deterministic' (their statements: YtchekhggdbcbbaaTotals.lean).
  GIVEN WITH THE SEED: the statements are not yours to turn. If you find one false, say at which input.
  Laid BY PROGRAM, IN A SANDBOX (cutbox-rows.mjs): the forced cells as the released guide's own fill.sh prints them over the translation 5c74da81de09e7bc… (all of the seat's roots in one cut). By AI agents, Wed Nov 11 2026. No macro, syntax, notation, axiom, sorry.
-/
import Derived.Test.YtchekhggdbcbbaaChecked
import GoSem.Claim
import GoSem.ClaimJoined
import GoSem.ClaimMapViews
import Derived.JoinedTies
import Derived.KernelRfl
namespace Go.Proofs.Ytchekhggdbcbbaa
/- THE CELL 'sum', in the pinned program and in every row, IS THE sha256 OF THE DUMP (.gsa) THAT YtchekhggdbcbbaaProg.lean LOADS. Nothing in Lean hashes anything: it is a label: what it is worth is what the hold of that sum in a sandbox is worth. -/
noncomputable def Try.pinned : Pinned := { name := "ytchekhggdbcbbaa", sum := "5c74da81de09e7bc4decf79e4dafd8614eb0f5312aab6d5979d734a8c297d00a", checked := Try.checked }
namespace Rows
def none {H : Type} : Left H := { results := [], args := [] }

/-- 'gnomonlaw08.SccTells': WHATEVER THE INPUT: true; the input reads as it did. -/
def sccTellsSpec : ChangeSpec := { name := "sccTells", fn := fun _ => fun
  | [d] => { results := [.lit (.bool true)], args := [d] }
  | _ => none }
def sccTellsRow : OpenClaim := { program := "ytchekhggdbcbbaa", sum := "5c74da81de09e7bc4decf79e4dafd8614eb0f5312aab6d5979d734a8c297d00a", func := "gnomon/gnomonlaw08.SccTells", spec := "sccTells", unfollowed := true, recurses := true, apart := false }
def SccTellsSaid : Prop := sccTellsRow.holds Try.pinned (OpenSpec.ofChange sccTellsSpec)

/-- ITS FALSE NEIGHBOUR: 'it returns false'. Refute it at one input. -/
def sccTellsWrong : ChangeSpec := { name := "sccTells", fn := fun _ => fun
  | [d] => { results := [.lit (.bool false)], args := [d] }
  | _ => none }
def SccTellsWrongFalsely : Prop := sccTellsRow.holds Try.pinned (OpenSpec.ofChange sccTellsWrong)

/-- 'gnomonlaw08.SccGoes': WHATEVER THE INPUT: true; the input reads as it did. -/
def sccGoesSpec : ChangeSpec := { name := "sccGoes", fn := fun _ => fun
  | [d] => { results := [.lit (.bool true)], args := [d] }
  | _ => none }
def sccGoesRow : OpenClaim := { program := "ytchekhggdbcbbaa", sum := "5c74da81de09e7bc4decf79e4dafd8614eb0f5312aab6d5979d734a8c297d00a", func := "gnomon/gnomonlaw08.SccGoes", spec := "sccGoes", unfollowed := true, recurses := true, apart := false }
def SccGoesSaid : Prop := sccGoesRow.holds Try.pinned (OpenSpec.ofChange sccGoesSpec)

/-- ITS FALSE NEIGHBOUR: 'it returns false'. Refute it at one input. -/
def sccGoesWrong : ChangeSpec := { name := "sccGoes", fn := fun _ => fun
  | [d] => { results := [.lit (.bool false)], args := [d] }
  | _ => none }
def SccGoesWrongFalsely : Prop := sccGoesRow.holds Try.pinned (OpenSpec.ofChange sccGoesWrong)

/-- 'gnomonlaw08.SccTwice': WHATEVER THE INPUT: true; the input reads as it did. -/
def sccTwiceSpec : ChangeSpec := { name := "sccTwice", fn := fun _ => fun
  | [d] => { results := [.lit (.bool true)], args := [d] }
  | _ => none }
def sccTwiceRow : OpenClaim := { program := "ytchekhggdbcbbaa", sum := "5c74da81de09e7bc4decf79e4dafd8614eb0f5312aab6d5979d734a8c297d00a", func := "gnomon/gnomonlaw08.SccTwice", spec := "sccTwice", unfollowed := true, recurses := true, apart := false }
def SccTwiceSaid : Prop := sccTwiceRow.holds Try.pinned (OpenSpec.ofChange sccTwiceSpec)

/-- ITS FALSE NEIGHBOUR: 'it returns false'. Refute it at one input. -/
def sccTwiceWrong : ChangeSpec := { name := "sccTwice", fn := fun _ => fun
  | [d] => { results := [.lit (.bool false)], args := [d] }
  | _ => none }
def SccTwiceWrongFalsely : Prop := sccTwiceRow.holds Try.pinned (OpenSpec.ofChange sccTwiceWrong)

/-- 'gnomonlaw08.SccBack': WHATEVER THE INPUT: true; the input reads as it did. -/
def sccBackSpec : ChangeSpec := { name := "sccBack", fn := fun _ => fun
  | [d] => { results := [.lit (.bool true)], args := [d] }
  | _ => none }
def sccBackRow : OpenClaim := { program := "ytchekhggdbcbbaa", sum := "5c74da81de09e7bc4decf79e4dafd8614eb0f5312aab6d5979d734a8c297d00a", func := "gnomon/gnomonlaw08.SccBack", spec := "sccBack", unfollowed := true, recurses := true, apart := false }
def SccBackSaid : Prop := sccBackRow.holds Try.pinned (OpenSpec.ofChange sccBackSpec)

/-- ITS FALSE NEIGHBOUR: 'it returns false'. Refute it at one input. -/
def sccBackWrong : ChangeSpec := { name := "sccBack", fn := fun _ => fun
  | [d] => { results := [.lit (.bool false)], args := [d] }
  | _ => none }
def SccBackWrongFalsely : Prop := sccBackRow.holds Try.pinned (OpenSpec.ofChange sccBackWrong)

/-- 'gnomonlaw08.SccSame': WHATEVER THE INPUT: true; the input reads as it did. -/
def sccSameSpec : ChangeSpec := { name := "sccSame", fn := fun _ => fun
  | [d] => { results := [.lit (.bool true)], args := [d] }
  | _ => none }
def sccSameRow : OpenClaim := { program := "ytchekhggdbcbbaa", sum := "5c74da81de09e7bc4decf79e4dafd8614eb0f5312aab6d5979d734a8c297d00a", func := "gnomon/gnomonlaw08.SccSame", spec := "sccSame", unfollowed := true, recurses := true, apart := false }
def SccSameSaid : Prop := sccSameRow.holds Try.pinned (OpenSpec.ofChange sccSameSpec)

/-- ITS FALSE NEIGHBOUR: 'it returns false'. Refute it at one input. -/
def sccSameWrong : ChangeSpec := { name := "sccSame", fn := fun _ => fun
  | [d] => { results := [.lit (.bool false)], args := [d] }
  | _ => none }
def SccSameWrongFalsely : Prop := sccSameRow.holds Try.pinned (OpenSpec.ofChange sccSameWrong)

/- THE SECOND FORM. 'bulk': how many values and letters a reading holds, each counted each time it is reached (what is shared counts as often as it is met; a slice's spare places count too). A statement '..UptoSaid' is the law's where the arguments, and the package variables that the reading takes, are together of bulk at most 1048576: NARROWER than '..Said'. Prove '..Said' where nothing that the law and all that it calls make is longer than what came in: it says more and counts as full. Else prove '..UptoSaid'. A law counts once. -/
mutual
def uptoBulk {H : Type} : DataW H → Nat
  | .lit (.string bytes) => bytes.length + 1
  | .lit _ => 1
  | .nil => 1
  | .ptr d => uptoBulk d + 1
  | .slice elems spare => uptoBulkAll elems + uptoBulkAll spare + 1
  | .agg parts => uptoBulkAll parts + 1
  | .iface _ d => uptoBulk d + 1
  | .map entries => uptoBulkEntries entries + 1
  | .held _ => 1
def uptoBulkAll {H : Type} : List (DataW H) → Nat
  | [] => 0
  | d :: r => uptoBulk d + uptoBulkAll r
def uptoBulkEntries {H : Type} : List (Lit × DataW H) → Nat
  | [] => 0
  | x :: r => uptoBulkEntry x + uptoBulkEntries r
def uptoBulkEntry {H : Type} : Lit × DataW H → Nat
  | (.string bytes, d) => bytes.length + uptoBulk d + 1
  | (_, d) => uptoBulk d + 1
 end
def uptoSmall : (H : Type) → List (DataW H) → Bool := fun _ ds => decide (uptoBulkAll ds ≤ 1048576)
def OpenSpec.upto (s : _root_.Go.ChangeSpec) : _root_.Go.OpenSpec := { _root_.Go.OpenSpec.ofChange s with cond := some uptoSmall }

/-- 'gnomonlaw08.SccTells', WHERE WHAT IT READS IS OF BULK AT MOST 1048576: true; the input reads as it did. -/
def sccTellsUptoRow : OpenClaim := { program := "ytchekhggdbcbbaa", sum := "5c74da81de09e7bc4decf79e4dafd8614eb0f5312aab6d5979d734a8c297d00a", func := "gnomon/gnomonlaw08.SccTells", spec := "sccTells", unfollowed := true, recurses := true, apart := false, narrowed := true }
def SccTellsUptoSaid : Prop := sccTellsUptoRow.holds Try.pinned (OpenSpec.upto sccTellsSpec)

/-- 'gnomonlaw08.SccGoes', WHERE WHAT IT READS IS OF BULK AT MOST 1048576: true; the input reads as it did. -/
def sccGoesUptoRow : OpenClaim := { program := "ytchekhggdbcbbaa", sum := "5c74da81de09e7bc4decf79e4dafd8614eb0f5312aab6d5979d734a8c297d00a", func := "gnomon/gnomonlaw08.SccGoes", spec := "sccGoes", unfollowed := true, recurses := true, apart := false, narrowed := true }
def SccGoesUptoSaid : Prop := sccGoesUptoRow.holds Try.pinned (OpenSpec.upto sccGoesSpec)

/-- 'gnomonlaw08.SccTwice', WHERE WHAT IT READS IS OF BULK AT MOST 1048576: true; the input reads as it did. -/
def sccTwiceUptoRow : OpenClaim := { program := "ytchekhggdbcbbaa", sum := "5c74da81de09e7bc4decf79e4dafd8614eb0f5312aab6d5979d734a8c297d00a", func := "gnomon/gnomonlaw08.SccTwice", spec := "sccTwice", unfollowed := true, recurses := true, apart := false, narrowed := true }
def SccTwiceUptoSaid : Prop := sccTwiceUptoRow.holds Try.pinned (OpenSpec.upto sccTwiceSpec)

/-- 'gnomonlaw08.SccBack', WHERE WHAT IT READS IS OF BULK AT MOST 1048576: true; the input reads as it did. -/
def sccBackUptoRow : OpenClaim := { program := "ytchekhggdbcbbaa", sum := "5c74da81de09e7bc4decf79e4dafd8614eb0f5312aab6d5979d734a8c297d00a", func := "gnomon/gnomonlaw08.SccBack", spec := "sccBack", unfollowed := true, recurses := true, apart := false, narrowed := true }
def SccBackUptoSaid : Prop := sccBackUptoRow.holds Try.pinned (OpenSpec.upto sccBackSpec)

/-- 'gnomonlaw08.SccSame', WHERE WHAT IT READS IS OF BULK AT MOST 1048576: true; the input reads as it did. -/
def sccSameUptoRow : OpenClaim := { program := "ytchekhggdbcbbaa", sum := "5c74da81de09e7bc4decf79e4dafd8614eb0f5312aab6d5979d734a8c297d00a", func := "gnomon/gnomonlaw08.SccSame", spec := "sccSame", unfollowed := true, recurses := true, apart := false, narrowed := true }
def SccSameUptoSaid : Prop := sccSameUptoRow.holds Try.pinned (OpenSpec.upto sccSameSpec)

end Rows
end Go.Proofs.Ytchekhggdbcbbaa
