/-
  Laws for reading rows told as expressions.
-/
import Derived.Test.YtmnlagcmpgilaaaAm23
set_option linter.all false
namespace Go.AM

theorem pickO_bool (p x y : Bool) : pickO (some (.s (.bool p))) (some (.s (.bool x))) (some (.s (.bool y))) = some (.s (.bool (bif p then x else y))) := by cases p <;> rfl
theorem pickO_true (x y : Option V) : pickO (some (.s (.bool true))) x y = x := rfl
theorem pickO_false (x y : Option V) : pickO (some (.s (.bool false))) x y = y := rfl
theorem reqB_true (p b : Bool) : reqB (some (.s (.bool p))) b true = true := by simp [reqB]
theorem reqB_eq (p b r : Bool) : reqB (some (.s (.bool p))) b r = (if p = b then r else true) := rfl

/-! ### Frames -/
theorem getD_set_same {fr : List V} {s : Nat} {v : V} (h : s < fr.length) : (fr.set s v).getD s .unk = v := by simp [h]
theorem getD_set_other {fr : List V} {s t : Nat} {v : V} (h : s ≠ t) : (fr.set s v).getD t .unk = fr.getD t .unk := by simp [h]
theorem killS_keep {ks : List Nat} {fr : List V} {s : Nat} (h : ks.contains s = false) : (killS ks fr).getD s .unk = fr.getD s .unk := by
  rw [killS_getD, if_neg (by simpa using h)]

theorem killS_nil (fr : List V) : killS [] fr = fr := rfl

theorem trim_same {m : Nat} {fr : List V} {H : Heap} (h : H.length = m) : trim m fr H = H := by
  unfold trim
  split
  · rw [← h]; exact List.take_length
  · rfl

theorem evC_regionE {call : CallF} {it : IterF} {base : Nat} {ops : List AOper} {kill outs : List Nat} {fr : List V} {H : Heap} {tale : Tale} (h : symAll ops kill outs = tale) :
    evC call it base (.regionE ops kill outs) fr H = match evTale tale kill fr H with | some fr' => some (.nrm, fr', H) | none => none := by
  rw [← h]; rfl

end Go.AM
