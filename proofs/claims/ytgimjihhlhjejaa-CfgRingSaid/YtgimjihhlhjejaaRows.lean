/-
  No cell of these rows narrows 'for every input' (looked for: loops, veiled, ifaces, maps, wideKeys, modest, calm, conditions, laid).
  DERIVED. THE GIVEN ROWS OF THIS SEAT. 5 by the template 'for every input the law returns true; each argument reads behind the call as it read before'; 0 by the template 'total and deterministic' (their statements: YtgimjihhlhjejaaTotals.lean).
  GIVEN WITH THE SEED: the statements are not yours to turn. If you find one false, say at which input.
  Laid BY PROGRAM, IN A SANDBOX (cutbox-rows.mjs): the forced cells as the released guide's own fill.sh prints them over the translation 1f148ec437a02650… (all of the seat's roots in one cut). By AI agents, Wed Nov 11 2026. No macro, syntax, notation, axiom, sorry.
-/
import Derived.Test.YtgimjihhlhjejaaChecked
import GoSem.Claim
import GoSem.ClaimJoined
import GoSem.ClaimMapViews
import Derived.JoinedTies
import Derived.KernelRfl
namespace Go.Proofs.Ytgimjihhlhjejaa
/- THE CELL 'sum', in the pinned program and in every row, IS THE sha256 OF THE DUMP (.gsa) THAT YtgimjihhlhjejaaProg.lean LOADS. Nothing in Lean hashes anything: it is a label: what it is worth is what the hold of that sum in a sandbox is worth. -/
noncomputable def Try.pinned : Pinned := { name := "ytgimjihhlhjejaa", sum := "1f148ec437a02650a5b6d9bf5fe7f11f8d81ac87b1e721b851ebadd78feb48fb", checked := Try.checked }
namespace Rows
def none {H : Type} : Left H := { results := [], args := [] }

/-- 'gnomonlaw10.CfgUses': WHATEVER THE INPUT: true; the input reads as it did. -/
def cfgUsesSpec : ChangeSpec := { name := "cfgUses", fn := fun _ => fun
  | [d] => { results := [.lit (.bool true)], args := [d] }
  | _ => none }
def cfgUsesRow : OpenClaim := { program := "ytgimjihhlhjejaa", sum := "1f148ec437a02650a5b6d9bf5fe7f11f8d81ac87b1e721b851ebadd78feb48fb", func := "gnomon/gnomonlaw10.CfgUses", spec := "cfgUses", unfollowed := true, recurses := true, apart := false }
def CfgUsesSaid : Prop := cfgUsesRow.holds Try.pinned (OpenSpec.ofChange cfgUsesSpec)

/-- ITS FALSE NEIGHBOUR: 'it returns false'. Refute it at one input. -/
def cfgUsesWrong : ChangeSpec := { name := "cfgUses", fn := fun _ => fun
  | [d] => { results := [.lit (.bool false)], args := [d] }
  | _ => none }
def CfgUsesWrongFalsely : Prop := cfgUsesRow.holds Try.pinned (OpenSpec.ofChange cfgUsesWrong)

/-- 'gnomonlaw10.CfgOwn': WHATEVER THE INPUT: true; the input reads as it did. -/
def cfgOwnSpec : ChangeSpec := { name := "cfgOwn", fn := fun _ => fun
  | [d1, d2] => { results := [.lit (.bool true)], args := [d1, d2] }
  | _ => none }
def cfgOwnRow : OpenClaim := { program := "ytgimjihhlhjejaa", sum := "1f148ec437a02650a5b6d9bf5fe7f11f8d81ac87b1e721b851ebadd78feb48fb", func := "gnomon/gnomonlaw10.CfgOwn", spec := "cfgOwn", unfollowed := true, recurses := true, apart := false }
def CfgOwnSaid : Prop := cfgOwnRow.holds Try.pinned (OpenSpec.ofChange cfgOwnSpec)

/-- ITS FALSE NEIGHBOUR: 'it returns false'. Refute it at one input. -/
def cfgOwnWrong : ChangeSpec := { name := "cfgOwn", fn := fun _ => fun
  | [d1, d2] => { results := [.lit (.bool false)], args := [d1, d2] }
  | _ => none }
def CfgOwnWrongFalsely : Prop := cfgOwnRow.holds Try.pinned (OpenSpec.ofChange cfgOwnWrong)

/-- 'gnomonlaw10.CfgWays': WHATEVER THE INPUT: true; the input reads as it did. -/
def cfgWaysSpec : ChangeSpec := { name := "cfgWays", fn := fun _ => fun
  | [d] => { results := [.lit (.bool true)], args := [d] }
  | _ => none }
def cfgWaysRow : OpenClaim := { program := "ytgimjihhlhjejaa", sum := "1f148ec437a02650a5b6d9bf5fe7f11f8d81ac87b1e721b851ebadd78feb48fb", func := "gnomon/gnomonlaw10.CfgWays", spec := "cfgWays", unfollowed := true, recurses := true, apart := false }
def CfgWaysSaid : Prop := cfgWaysRow.holds Try.pinned (OpenSpec.ofChange cfgWaysSpec)

/-- ITS FALSE NEIGHBOUR: 'it returns false'. Refute it at one input. -/
def cfgWaysWrong : ChangeSpec := { name := "cfgWays", fn := fun _ => fun
  | [d] => { results := [.lit (.bool false)], args := [d] }
  | _ => none }
def CfgWaysWrongFalsely : Prop := cfgWaysRow.holds Try.pinned (OpenSpec.ofChange cfgWaysWrong)

/-- 'gnomonlaw10.CfgRing': WHATEVER THE INPUT: true; the input reads as it did. -/
def cfgRingSpec : ChangeSpec := { name := "cfgRing", fn := fun _ => fun
  | [d1, d2] => { results := [.lit (.bool true)], args := [d1, d2] }
  | _ => none }
def cfgRingRow : OpenClaim := { program := "ytgimjihhlhjejaa", sum := "1f148ec437a02650a5b6d9bf5fe7f11f8d81ac87b1e721b851ebadd78feb48fb", func := "gnomon/gnomonlaw10.CfgRing", spec := "cfgRing", unfollowed := true, recurses := true, apart := false }
def CfgRingSaid : Prop := cfgRingRow.holds Try.pinned (OpenSpec.ofChange cfgRingSpec)

/-- ITS FALSE NEIGHBOUR: 'it returns false'. Refute it at one input. -/
def cfgRingWrong : ChangeSpec := { name := "cfgRing", fn := fun _ => fun
  | [d1, d2] => { results := [.lit (.bool false)], args := [d1, d2] }
  | _ => none }
def CfgRingWrongFalsely : Prop := cfgRingRow.holds Try.pinned (OpenSpec.ofChange cfgRingWrong)

/-- 'gnomonlaw10.CfgKnown': WHATEVER THE INPUT: true; the input reads as it did. -/
def cfgKnownSpec : ChangeSpec := { name := "cfgKnown", fn := fun _ => fun
  | [] => { results := [.lit (.bool true)], args := [] }
  | _ => none }
def cfgKnownRow : OpenClaim := { program := "ytgimjihhlhjejaa", sum := "1f148ec437a02650a5b6d9bf5fe7f11f8d81ac87b1e721b851ebadd78feb48fb", func := "gnomon/gnomonlaw10.CfgKnown", spec := "cfgKnown", unfollowed := true, recurses := true, apart := false }
def CfgKnownSaid : Prop := cfgKnownRow.holds Try.pinned (OpenSpec.ofChange cfgKnownSpec)

/-- ITS FALSE NEIGHBOUR: 'it returns false'. Refute it at one input. -/
def cfgKnownWrong : ChangeSpec := { name := "cfgKnown", fn := fun _ => fun
  | [] => { results := [.lit (.bool false)], args := [] }
  | _ => none }
def CfgKnownWrongFalsely : Prop := cfgKnownRow.holds Try.pinned (OpenSpec.ofChange cfgKnownWrong)

/- THE SECOND FORM. 'bulk': how many values and letters a reading holds, each counted each time it is reached (what is shared counts as often as it is met; a slice's spare places count too). A statement '..UptoSaid' is the law's where the arguments, and the package variables that the reading takes, are together of bulk at most 1048576: NARROWER than '..Said'. Prove '..Said' where nothing that the law and all that it calls make is longer than what came in: it says more and counts as full. Else prove '..UptoSaid'. A law counts once. -/
mutual
def uptoBulk {H : Type} : DataW H → Nat
  | .lit (.string bytes) => bytes.length + 1
  | .lit _ => 1
  | .nil => 1
  | .ptr d => uptoBulk d + 1
  | .slice elems spare => uptoBulkAll elems + uptoBulkAll spare + 1
  | .agg parts => uptoBulkAll parts + 1
  | .iface _ d => uptoBulk d + 1
  | .map entries => uptoBulkEntries entries + 1
  | .held _ => 1
def uptoBulkAll {H : Type} : List (DataW H) → Nat
  | [] => 0
  | d :: r => uptoBulk d + uptoBulkAll r
def uptoBulkEntries {H : Type} : List (Lit × DataW H) → Nat
  | [] => 0
  | x :: r => uptoBulkEntry x + uptoBulkEntries r
def uptoBulkEntry {H : Type} : Lit × DataW H → Nat
  | (.string bytes, d) => bytes.length + uptoBulk d + 1
  | (_, d) => uptoBulk d + 1
 end
def uptoSmall : (H : Type) → List (DataW H) → Bool := fun _ ds => decide (uptoBulkAll ds ≤ 1048576)
def OpenSpec.upto (s : _root_.Go.ChangeSpec) : _root_.Go.OpenSpec := { _root_.Go.OpenSpec.ofChange s with cond := some uptoSmall }

/-- 'gnomonlaw10.CfgUses', WHERE WHAT IT READS IS OF BULK AT MOST 1048576: true; the input reads as it did. -/
def cfgUsesUptoRow : OpenClaim := { program := "ytgimjihhlhjejaa", sum := "1f148ec437a02650a5b6d9bf5fe7f11f8d81ac87b1e721b851ebadd78feb48fb", func := "gnomon/gnomonlaw10.CfgUses", spec := "cfgUses", unfollowed := true, recurses := true, apart := false, narrowed := true }
def CfgUsesUptoSaid : Prop := cfgUsesUptoRow.holds Try.pinned (OpenSpec.upto cfgUsesSpec)

/-- 'gnomonlaw10.CfgOwn', WHERE WHAT IT READS IS OF BULK AT MOST 1048576: true; the input reads as it did. -/
def cfgOwnUptoRow : OpenClaim := { program := "ytgimjihhlhjejaa", sum := "1f148ec437a02650a5b6d9bf5fe7f11f8d81ac87b1e721b851ebadd78feb48fb", func := "gnomon/gnomonlaw10.CfgOwn", spec := "cfgOwn", unfollowed := true, recurses := true, apart := false, narrowed := true }
def CfgOwnUptoSaid : Prop := cfgOwnUptoRow.holds Try.pinned (OpenSpec.upto cfgOwnSpec)

/-- 'gnomonlaw10.CfgWays', WHERE WHAT IT READS IS OF BULK AT MOST 1048576: true; the input reads as it did. -/
def cfgWaysUptoRow : OpenClaim := { program := "ytgimjihhlhjejaa", sum := "1f148ec437a02650a5b6d9bf5fe7f11f8d81ac87b1e721b851ebadd78feb48fb", func := "gnomon/gnomonlaw10.CfgWays", spec := "cfgWays", unfollowed := true, recurses := true, apart := false, narrowed := true }
def CfgWaysUptoSaid : Prop := cfgWaysUptoRow.holds Try.pinned (OpenSpec.upto cfgWaysSpec)

/-- 'gnomonlaw10.CfgRing', WHERE WHAT IT READS IS OF BULK AT MOST 1048576: true; the input reads as it did. -/
def cfgRingUptoRow : OpenClaim := { program := "ytgimjihhlhjejaa", sum := "1f148ec437a02650a5b6d9bf5fe7f11f8d81ac87b1e721b851ebadd78feb48fb", func := "gnomon/gnomonlaw10.CfgRing", spec := "cfgRing", unfollowed := true, recurses := true, apart := false, narrowed := true }
def CfgRingUptoSaid : Prop := cfgRingUptoRow.holds Try.pinned (OpenSpec.upto cfgRingSpec)

/-- 'gnomonlaw10.CfgKnown', WHERE WHAT IT READS IS OF BULK AT MOST 1048576: true; the input reads as it did. -/
def cfgKnownUptoRow : OpenClaim := { program := "ytgimjihhlhjejaa", sum := "1f148ec437a02650a5b6d9bf5fe7f11f8d81ac87b1e721b851ebadd78feb48fb", func := "gnomon/gnomonlaw10.CfgKnown", spec := "cfgKnown", unfollowed := true, recurses := true, apart := false, narrowed := true }
def CfgKnownUptoSaid : Prop := cfgKnownUptoRow.holds Try.pinned (OpenSpec.upto cfgKnownSpec)

end Rows
end Go.Proofs.Ytgimjihhlhjejaa
