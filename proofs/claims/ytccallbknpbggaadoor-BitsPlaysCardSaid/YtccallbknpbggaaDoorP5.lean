/- Texts of the proof: BitsS8, AmZ, AmI, RefF2, RefF3. -/
import Derived.Test.YtccallbknpbggaaDoorP0
import Derived.Test.YtccallbknpbggaaDoorP1
import Derived.Test.YtccallbknpbggaaDoorP2
import Derived.Test.YtccallbknpbggaaDoorP3
import Derived.Test.YtccallbknpbggaaDoorP4
set_option linter.all false
set_option maxRecDepth 100000
namespace Go.Proofs.YtccallbknpbggaaDoor
open Go.AM
abbrev k_gnomonref01_Add : Nat := 26
def s_gnomonref01_Add_r0_k : List Nat := [2, 3, 4, 5, 6, 7, 8, 9, 10, 11, 12, 13, 14, 15, 16, 17, 18, 19, 20, 21, 22, 23, 24, 25, 26, 27, 28, 29, 30, 31, 32, 33, 34, 35, 36, 37, 38, 39, 40, 41]
theorem s_gnomonref01_Add_r0_kT : killV s_gnomonref01_Add_r0_k (startV 42 [] 2) = [] := by kernel_rfl
theorem s_gnomonref01_Add_r0_kA0 : s_gnomonref01_Add_r0_k.contains 0 = false := by kernel_rfl
theorem s_gnomonref01_Add_r0_kA1 : s_gnomonref01_Add_r0_k.contains 1 = false := by kernel_rfl
def s_gnomonref01_Add_r0 : List AOper := [
  ⟨some 4, (.move (.c (.s (.slice none 0 0)))), none⟩]
theorem s_gnomonref01_Add_r0_tale (fr : List V) (H : Heap) : evTale (symAll s_gnomonref01_Add_r0 s_gnomonref01_Add_r0_k []) s_gnomonref01_Add_r0_k fr H = evTale (some (5, [], [])) s_gnomonref01_Add_r0_k fr H := tale_row (items := [.cc (.s (.slice none 0 0))]) (by kernel_rfl) fr H
def s_gnomonref01_Add_r1t4 : List AOper := [⟨some 13, (.pick (.t 9) (.c (.s (.bool true))) (.t 12)), none⟩]
def s_gnomonref01_Add_r1p3 : List AOper := [⟨some 12, (.call (.c (.fn 39 [] [])) [(.t 10), (.t 11)]), some (9, false)⟩]
def s_gnomonref01_Add_r1t3 : List AOper := s_gnomonref01_Add_r1p3 ++ s_gnomonref01_Add_r1t4
def s_gnomonref01_Add_r1p2 : List AOper := [⟨some 11, (.move (.t 1)), some (9, false)⟩]
def s_gnomonref01_Add_r1t2 : List AOper := s_gnomonref01_Add_r1p2 ++ s_gnomonref01_Add_r1t3
def s_gnomonref01_Add_r1p1 : List AOper := [⟨some 10, (.move (.t 0)), some (9, false)⟩]
def s_gnomonref01_Add_r1t1 : List AOper := s_gnomonref01_Add_r1p1 ++ s_gnomonref01_Add_r1t2
def s_gnomonref01_Add_r1p0 : List AOper := [⟨some 7, (.move (.t 1)), none⟩, ⟨some 8, (.bin .lss (.t 7) (.c (.s (.int .i64 0)))), none⟩, ⟨some 9, (.move (.t 8)), none⟩]
def s_gnomonref01_Add_r1 : List AOper := s_gnomonref01_Add_r1p0 ++ s_gnomonref01_Add_r1t1
theorem s_gnomonref01_Add_r1p0_tale (fr : List V) (H : Heap) : evTale (symAll s_gnomonref01_Add_r1p0 [7, 8] [9]) [7, 8] fr H = evTale (some (10, [], [(9, (.op (.bin .lss (.t 0) (.c (.s (.int .i64 0)))) [(.t 1), (.c (.s (.int .i64 0)))]))])) [7, 8] fr H := tale_row (items := [.tt 1, .sub 0 [] [], .sub 0 [] []]) (by kernel_rfl) fr H
theorem s_gnomonref01_Add_r1_x (call : CallF) (it : IterF) (base : Nat) (f : List V) (H : Heap) : evC call it base (.region s_gnomonref01_Add_r1 [] [7, 8, 9, 10, 11, 12]) f H = segC call it base s_gnomonref01_Add_r1t1 [7, 8, 9, 10, 11, 12] H (evTale (symAll s_gnomonref01_Add_r1p0 [7, 8] [9]) [7, 8] f H) (origRow call it base s_gnomonref01_Add_r1 [7, 8, 9, 10, 11, 12] f H) := row_seg call it base s_gnomonref01_Add_r1p0 s_gnomonref01_Add_r1t1 (by kernel_rfl) f H
theorem s_gnomonref01_Add_r1t1_x (call : CallF) (it : IterF) (base : Nat) (f : List V) (H : Heap) : evC call it base (.region s_gnomonref01_Add_r1t1 [] [7, 8, 9, 10, 11, 12]) f H = thenC call it base (.region s_gnomonref01_Add_r1t2 [] [7, 8, 9, 10, 11, 12]) (opsC [] s_gnomonref01_Add_r1p1 [] (evOps call base [⟨some 10, (.move (.t 0)), some (9, false)⟩] f H)) := (row_op call it base s_gnomonref01_Add_r1p1 s_gnomonref01_Add_r1t2 (kc := []) (by kernel_rfl) f H).trans (by rw [row_ops]; rfl)
theorem s_gnomonref01_Add_r1t2_x (call : CallF) (it : IterF) (base : Nat) (f : List V) (H : Heap) : evC call it base (.region s_gnomonref01_Add_r1t2 [] [7, 8, 9, 10, 11, 12]) f H = thenC call it base (.region s_gnomonref01_Add_r1t3 [] [7, 8, 9, 10, 11, 12]) (opsC [] s_gnomonref01_Add_r1p2 [] (evOps call base [⟨some 11, (.move (.t 1)), some (9, false)⟩] f H)) := (row_op call it base s_gnomonref01_Add_r1p2 s_gnomonref01_Add_r1t3 (kc := []) (by kernel_rfl) f H).trans (by rw [row_ops]; rfl)
theorem s_gnomonref01_Add_r1t3_x (call : CallF) (it : IterF) (base : Nat) (f : List V) (H : Heap) : evC call it base (.region s_gnomonref01_Add_r1t3 [] [7, 8, 9, 10, 11, 12]) f H = thenC call it base (.region s_gnomonref01_Add_r1t4 [] [7, 8, 9, 10, 11, 12]) (opsC [] s_gnomonref01_Add_r1p3 [10, 11] (evOps call base [⟨some 12, (.call (.c (.fn 39 [] [])) [(.t 10), (.t 11)]), some (9, false)⟩] f H)) := (row_op call it base s_gnomonref01_Add_r1p3 s_gnomonref01_Add_r1t4 (kc := [10, 11]) (by kernel_rfl) f H).trans (by rw [row_ops]; rfl)
theorem s_gnomonref01_Add_r1t4_tale (fr : List V) (H : Heap) : evTale (symAll s_gnomonref01_Add_r1t4 [7, 8, 9, 10, 11, 12] [13]) [7, 8, 9, 10, 11, 12] fr H = evTale (some (14, [], [(13, (.pick (.t 9) (.c (.s (.bool true))) (.t 12)))])) [7, 8, 9, 10, 11, 12] fr H := tale_row (items := [.sub 0 [] []]) (by kernel_rfl) fr H
theorem s_gnomonref01_Add_r1t4_x (call : CallF) (it : IterF) (base : Nat) (f : List V) (H : Heap) : evC call it base (.region s_gnomonref01_Add_r1t4 [] [7, 8, 9, 10, 11, 12]) f H = segL H (evTale (symAll s_gnomonref01_Add_r1t4 [7, 8, 9, 10, 11, 12] [13]) [7, 8, 9, 10, 11, 12] f H) (origRow call it base s_gnomonref01_Add_r1t4 [7, 8, 9, 10, 11, 12] f H) := row_last call it base _ f H
def s_gnomonref01_Add_r2 : List AOper := [
  ⟨some 14, (.move (.t 0)), none⟩,
  ⟨some 4, (.move (.t 14)), none⟩]
theorem s_gnomonref01_Add_r2_tale (fr : List V) (H : Heap) : evTale (symAll s_gnomonref01_Add_r2 [0, 1, 13, 14] [4]) [0, 1, 13, 14] fr H = evTale (some (15, [], [(4, (.t 0))])) [0, 1, 13, 14] fr H := tale_row (items := [.tt 0, .tt 0]) (by kernel_rfl) fr H
def s_gnomonref01_Add_r3 : List AOper := [
  ⟨some 5, (.move (.c (.s (.int .i64 0)))), none⟩]
theorem s_gnomonref01_Add_r3_tale (fr : List V) (H : Heap) : evTale (symAll s_gnomonref01_Add_r3 [13] [5]) [13] fr H = evTale (some (6, [], [(5, (.c (.s (.int .i64 0))))])) [13] fr H := tale_row (items := [.cc (.s (.int .i64 0))]) (by kernel_rfl) fr H
def s_gnomonref01_Add_r4 : List AOper := [
  ⟨some 15, (.move (.t 5)), none⟩,
  ⟨some 16, (.move (.t 0)), none⟩,
  ⟨some 17, (.lenS .s (.t 16)), none⟩,
  ⟨some 18, (.bin .lss (.t 15) (.t 17)), none⟩,
  ⟨some 19, (.move (.t 18)), none⟩,
  ⟨some 20, (.move (.t 0)), some (19, true)⟩,
  ⟨some 21, (.move (.t 5)), some (19, true)⟩,
  ⟨some 22, (.indexAddr 1 (.t 20) (.t 21)), some (19, true)⟩,
  ⟨some 23, (.load false 1 (.t 22)), some (19, true)⟩,
  ⟨some 24, (.move (.t 1)), some (19, true)⟩,
  ⟨some 25, (.bin .lss (.t 23) (.t 24)), some (19, true)⟩,
  ⟨some 26, (.pick (.t 19) (.t 25) (.c (.s (.bool false)))), none⟩]
theorem s_gnomonref01_Add_r4_tale (fr : List V) (H : Heap) : evTale (symAll s_gnomonref01_Add_r4 [15, 16, 17, 18, 19, 20, 21, 22, 23, 24, 25] [26]) [15, 16, 17, 18, 19, 20, 21, 22, 23, 24, 25] fr H = evTale (some (27, [], [(26, (.pick (.op (.bin .lss (.t 0) (.t 1)) [(.t 5), (.op (.lenS .s (.t 0)) [(.t 0)])]) (.op (.bin .lss (.t 0) (.t 1)) [(.op (.load false 1 (.t 0)) [(.op (.indexAddr 1 (.t 0) (.t 1)) [(.t 0), (.t 5)])]), (.t 1)]) (.c (.s (.bool false)))))])) [15, 16, 17, 18, 19, 20, 21, 22, 23, 24, 25] fr H := tale_row (items := [.tt 5, .tt 0, .sub 0 [0, 1] [], .sub 0 [0] [], .sub 0 [0] [], .sub 0 [1, 0, 0, 0] [19], .sub 0 [1, 0, 0, 1] [19], .sub 0 [1, 0, 0] [19], .sub 0 [1, 0] [19], .sub 0 [1, 1] [19], .sub 0 [1] [19], .sub 0 [] []]) (by kernel_rfl) fr H
def s_gnomonref01_Add_r5 : List AOper := [
  ⟨some 27, (.move (.t 5)), none⟩,
  ⟨some 28, (.bin .add (.t 27) (.c (.s (.int .i64 1)))), none⟩,
  ⟨some 5, (.move (.t 28)), none⟩]
theorem s_gnomonref01_Add_r5_tale (fr : List V) (H : Heap) : evTale (symAll s_gnomonref01_Add_r5 [26, 27, 28] [5]) [26, 27, 28] fr H = evTale (some (29, [], [(5, (.op (.bin .add (.t 0) (.c (.s (.int .i64 1)))) [(.t 5), (.c (.s (.int .i64 1)))]))])) [26, 27, 28] fr H := tale_row (items := [.tt 5, .sub 0 [] [], .sub 0 [] []]) (by kernel_rfl) fr H
def s_gnomonref01_Add_l0_b : ACode :=
  (.seq (.seq (.regionE s_gnomonref01_Add_r4 [15, 16, 17, 18, 19, 20, 21, 22, 23, 24, 25] [26])
  (.cond (.t 26)
  .skip
  (.exit 0)))
  (.block 1
  (.regionE s_gnomonref01_Add_r5 [26, 27, 28] [5])))
def s_gnomonref01_Add_l0 : ACode := s_gnomonref01_Add_l0_b
theorem s_gnomonref01_Add_l0_ev (call : CallF) (it : IterF) (base : Nat) (fr : List V) (H : Heap) : evC call it base s_gnomonref01_Add_l0 fr H = evC call it base s_gnomonref01_Add_l0_b fr H := rfl
def s_gnomonref01_Add_r6t2 : List AOper := [⟨some 6, (.move (.t 32)), none⟩]
def s_gnomonref01_Add_r6p1 : List AOper := [⟨some 32, (.append 1 8 (.c (.s (.slice none 0 0))) (.t 31)), none⟩]
def s_gnomonref01_Add_r6t1 : List AOper := s_gnomonref01_Add_r6p1 ++ s_gnomonref01_Add_r6t2
def s_gnomonref01_Add_r6p0 : List AOper := [⟨some 29, (.move (.t 0)), none⟩, ⟨some 30, (.move (.t 5)), none⟩, ⟨some 31, (.subSl 1 (.t 29) none (some (.t 30)) none), none⟩]
def s_gnomonref01_Add_r6 : List AOper := s_gnomonref01_Add_r6p0 ++ s_gnomonref01_Add_r6t1
theorem s_gnomonref01_Add_r6p0_tale (fr : List V) (H : Heap) : evTale (symAll s_gnomonref01_Add_r6p0 [26, 29, 30] [31]) [26, 29, 30] fr H = evTale (some (32, [], [(31, (.op (.subSl 1 (.t 0) none (some (.t 1)) none) [(.t 0), (.t 5)]))])) [26, 29, 30] fr H := tale_row (items := [.tt 0, .tt 5, .sub 0 [] []]) (by kernel_rfl) fr H
theorem s_gnomonref01_Add_r6_x (call : CallF) (it : IterF) (base : Nat) (f : List V) (H : Heap) : evC call it base (.region s_gnomonref01_Add_r6 [] [26, 29, 30, 31, 32]) f H = segC call it base s_gnomonref01_Add_r6t1 [26, 29, 30, 31, 32] H (evTale (symAll s_gnomonref01_Add_r6p0 [26, 29, 30] [31]) [26, 29, 30] f H) (origRow call it base s_gnomonref01_Add_r6 [26, 29, 30, 31, 32] f H) := row_seg call it base s_gnomonref01_Add_r6p0 s_gnomonref01_Add_r6t1 (by kernel_rfl) f H
theorem s_gnomonref01_Add_r6t1_x (call : CallF) (it : IterF) (base : Nat) (f : List V) (H : Heap) : evC call it base (.region s_gnomonref01_Add_r6t1 [] [26, 29, 30, 31, 32]) f H = thenC call it base (.region s_gnomonref01_Add_r6t2 [] [26, 29, 30, 31, 32]) (opsC [] s_gnomonref01_Add_r6p1 [31] (evOps call base [⟨some 32, (.append 1 8 (.c (.s (.slice none 0 0))) (.t 31)), none⟩] f H)) := (row_op call it base s_gnomonref01_Add_r6p1 s_gnomonref01_Add_r6t2 (kc := [31]) (by kernel_rfl) f H).trans (by rw [row_ops]; rfl)
theorem s_gnomonref01_Add_r6t2_tale (fr : List V) (H : Heap) : evTale (symAll s_gnomonref01_Add_r6t2 [26, 29, 30, 31, 32] [6]) [26, 29, 30, 31, 32] fr H = evTale (some (7, [], [(6, (.t 32))])) [26, 29, 30, 31, 32] fr H := tale_row (items := [.tt 32]) (by kernel_rfl) fr H
theorem s_gnomonref01_Add_r6t2_x (call : CallF) (it : IterF) (base : Nat) (f : List V) (H : Heap) : evC call it base (.region s_gnomonref01_Add_r6t2 [] [26, 29, 30, 31, 32]) f H = segL H (evTale (symAll s_gnomonref01_Add_r6t2 [26, 29, 30, 31, 32] [6]) [26, 29, 30, 31, 32] f H) (origRow call it base s_gnomonref01_Add_r6t2 [26, 29, 30, 31, 32] f H) := row_last call it base _ f H
def s_gnomonref01_Add_r7t3 : List AOper := [⟨some 6, (.move (.t 36)), none⟩]
def s_gnomonref01_Add_r7p2 : List AOper := [⟨some 36, (.append 1 8 (.t 33) (.t 35)), none⟩]
def s_gnomonref01_Add_r7t2 : List AOper := s_gnomonref01_Add_r7p2 ++ s_gnomonref01_Add_r7t3
def s_gnomonref01_Add_r7p1 : List AOper := [⟨some 35, (.buildSl 1 1 [(.s (.int .i64 0))] [(0, (.t 34))]), none⟩]
def s_gnomonref01_Add_r7t1 : List AOper := s_gnomonref01_Add_r7p1 ++ s_gnomonref01_Add_r7t2
def s_gnomonref01_Add_r7p0 : List AOper := [⟨some 33, (.move (.t 6)), none⟩, ⟨some 34, (.move (.t 1)), none⟩]
def s_gnomonref01_Add_r7 : List AOper := s_gnomonref01_Add_r7p0 ++ s_gnomonref01_Add_r7t1
theorem s_gnomonref01_Add_r7p0_tale (fr : List V) (H : Heap) : evTale (symAll s_gnomonref01_Add_r7p0 [1, 6] [33, 34]) [1, 6] fr H = evTale (some (35, [], [(33, (.t 6)), (34, (.t 1))])) [1, 6] fr H := tale_row (items := [.tt 6, .tt 1]) (by kernel_rfl) fr H
theorem s_gnomonref01_Add_r7_x (call : CallF) (it : IterF) (base : Nat) (f : List V) (H : Heap) : evC call it base (.region s_gnomonref01_Add_r7 [] [1, 33, 34, 35, 36]) f H = segC call it base s_gnomonref01_Add_r7t1 [1, 33, 34, 35, 36] H (evTale (symAll s_gnomonref01_Add_r7p0 [1, 6] [33, 34]) [1, 6] f H) (origRow call it base s_gnomonref01_Add_r7 [1, 33, 34, 35, 36] f H) := row_seg call it base s_gnomonref01_Add_r7p0 s_gnomonref01_Add_r7t1 (by kernel_rfl) f H
theorem s_gnomonref01_Add_r7t1_x (call : CallF) (it : IterF) (base : Nat) (f : List V) (H : Heap) : evC call it base (.region s_gnomonref01_Add_r7t1 [] [1, 33, 34, 35, 36]) f H = thenC call it base (.region s_gnomonref01_Add_r7t2 [] [1, 33, 34, 35, 36]) (opsC [] s_gnomonref01_Add_r7p1 [34] (evOps call base [⟨some 35, (.buildSl 1 1 [(.s (.int .i64 0))] [(0, (.t 34))]), none⟩] f H)) := (row_op call it base s_gnomonref01_Add_r7p1 s_gnomonref01_Add_r7t2 (kc := [34]) (by kernel_rfl) f H).trans (by rw [row_ops]; rfl)
theorem s_gnomonref01_Add_r7t2_x (call : CallF) (it : IterF) (base : Nat) (f : List V) (H : Heap) : evC call it base (.region s_gnomonref01_Add_r7t2 [] [1, 33, 34, 35, 36]) f H = thenC call it base (.region s_gnomonref01_Add_r7t3 [] [1, 33, 34, 35, 36]) (opsC [] s_gnomonref01_Add_r7p2 [33, 35] (evOps call base [⟨some 36, (.append 1 8 (.t 33) (.t 35)), none⟩] f H)) := (row_op call it base s_gnomonref01_Add_r7p2 s_gnomonref01_Add_r7t3 (kc := [33, 35]) (by kernel_rfl) f H).trans (by rw [row_ops]; rfl)
theorem s_gnomonref01_Add_r7t3_tale (fr : List V) (H : Heap) : evTale (symAll s_gnomonref01_Add_r7t3 [1, 33, 34, 35, 36] [6]) [1, 33, 34, 35, 36] fr H = evTale (some (7, [], [(6, (.t 36))])) [1, 33, 34, 35, 36] fr H := tale_row (items := [.tt 36]) (by kernel_rfl) fr H
theorem s_gnomonref01_Add_r7t3_x (call : CallF) (it : IterF) (base : Nat) (f : List V) (H : Heap) : evC call it base (.region s_gnomonref01_Add_r7t3 [] [1, 33, 34, 35, 36]) f H = segL H (evTale (symAll s_gnomonref01_Add_r7t3 [1, 33, 34, 35, 36] [6]) [1, 33, 34, 35, 36] f H) (origRow call it base s_gnomonref01_Add_r7t3 [1, 33, 34, 35, 36] f H) := row_last call it base _ f H
def s_gnomonref01_Add_r8t2 : List AOper := [⟨some 4, (.move (.t 41)), none⟩]
def s_gnomonref01_Add_r8p1 : List AOper := [⟨some 41, (.append 1 8 (.t 37) (.t 40)), none⟩]
def s_gnomonref01_Add_r8t1 : List AOper := s_gnomonref01_Add_r8p1 ++ s_gnomonref01_Add_r8t2
def s_gnomonref01_Add_r8p0 : List AOper := [⟨some 37, (.move (.t 6)), none⟩, ⟨some 38, (.move (.t 0)), none⟩, ⟨some 39, (.move (.t 5)), none⟩, ⟨some 40, (.subSl 1 (.t 38) (some (.t 39)) none none), none⟩]
def s_gnomonref01_Add_r8 : List AOper := s_gnomonref01_Add_r8p0 ++ s_gnomonref01_Add_r8t1
theorem s_gnomonref01_Add_r8p0_tale (fr : List V) (H : Heap) : evTale (symAll s_gnomonref01_Add_r8p0 [0, 5, 6, 38, 39] [37, 40]) [0, 5, 6, 38, 39] fr H = evTale (some (41, [], [(37, (.t 6)), (40, (.op (.subSl 1 (.t 0) (some (.t 1)) none none) [(.t 0), (.t 5)]))])) [0, 5, 6, 38, 39] fr H := tale_row (items := [.tt 6, .tt 0, .tt 5, .sub 1 [] []]) (by kernel_rfl) fr H
theorem s_gnomonref01_Add_r8_x (call : CallF) (it : IterF) (base : Nat) (f : List V) (H : Heap) : evC call it base (.region s_gnomonref01_Add_r8 [] [0, 5, 6, 37, 38, 39, 40, 41]) f H = segC call it base s_gnomonref01_Add_r8t1 [0, 5, 6, 37, 38, 39, 40, 41] H (evTale (symAll s_gnomonref01_Add_r8p0 [0, 5, 6, 38, 39] [37, 40]) [0, 5, 6, 38, 39] f H) (origRow call it base s_gnomonref01_Add_r8 [0, 5, 6, 37, 38, 39, 40, 41] f H) := row_seg call it base s_gnomonref01_Add_r8p0 s_gnomonref01_Add_r8t1 (by kernel_rfl) f H
theorem s_gnomonref01_Add_r8t1_x (call : CallF) (it : IterF) (base : Nat) (f : List V) (H : Heap) : evC call it base (.region s_gnomonref01_Add_r8t1 [] [0, 5, 6, 37, 38, 39, 40, 41]) f H = thenC call it base (.region s_gnomonref01_Add_r8t2 [] [0, 5, 6, 37, 38, 39, 40, 41]) (opsC [] s_gnomonref01_Add_r8p1 [37, 40] (evOps call base [⟨some 41, (.append 1 8 (.t 37) (.t 40)), none⟩] f H)) := (row_op call it base s_gnomonref01_Add_r8p1 s_gnomonref01_Add_r8t2 (kc := [37, 40]) (by kernel_rfl) f H).trans (by rw [row_ops]; rfl)
theorem s_gnomonref01_Add_r8t2_tale (fr : List V) (H : Heap) : evTale (symAll s_gnomonref01_Add_r8t2 [0, 5, 6, 37, 38, 39, 40, 41] [4]) [0, 5, 6, 37, 38, 39, 40, 41] fr H = evTale (some (5, [], [(4, (.t 41))])) [0, 5, 6, 37, 38, 39, 40, 41] fr H := tale_row (items := [.tt 41]) (by kernel_rfl) fr H
theorem s_gnomonref01_Add_r8t2_x (call : CallF) (it : IterF) (base : Nat) (f : List V) (H : Heap) : evC call it base (.region s_gnomonref01_Add_r8t2 [] [0, 5, 6, 37, 38, 39, 40, 41]) f H = segL H (evTale (symAll s_gnomonref01_Add_r8t2 [0, 5, 6, 37, 38, 39, 40, 41] [4]) [0, 5, 6, 37, 38, 39, 40, 41] f H) (origRow call it base s_gnomonref01_Add_r8t2 [0, 5, 6, 37, 38, 39, 40, 41] f H) := row_last call it base _ f H
def s_gnomonref01_Add : ACFun := { ntmps := 42, results := [(.tmp 4)], body :=
  (.seq (.regionE s_gnomonref01_Add_r0 s_gnomonref01_Add_r0_k [])
  (.seq (.seq (.region s_gnomonref01_Add_r1 [] [7, 8, 9, 10, 11, 12])
  (.cond (.t 13)
  (.seq (.regionE s_gnomonref01_Add_r2 [0, 1, 13, 14] [4])
  .ret)
  .skip))
  (.seq (.regionE s_gnomonref01_Add_r3 [13] [5])
  (.seq (.block 0
  (.loop [] s_gnomonref01_Add_l0))
  (.seq (.region s_gnomonref01_Add_r6 [] [26, 29, 30, 31, 32])
  (.seq (.region s_gnomonref01_Add_r7 [] [1, 33, 34, 35, 36])
  (.seq (.region s_gnomonref01_Add_r8 [] [0, 5, 6, 37, 38, 39, 40, 41])
  .ret))))))) }
abbrev k_gnomonref01_Pick : Nat := 27
def s_gnomonref01_Pick_r0_k : List Nat := [3, 4, 5, 6, 7, 8, 9, 10, 11, 12, 13, 14, 15, 16, 17, 18, 19, 20, 21, 22, 23, 24, 25, 26, 27, 28, 29, 30]
theorem s_gnomonref01_Pick_r0_kT : killV s_gnomonref01_Pick_r0_k (startV 31 [] 3) = [] := by kernel_rfl
theorem s_gnomonref01_Pick_r0_kA0 : s_gnomonref01_Pick_r0_k.contains 0 = false := by kernel_rfl
theorem s_gnomonref01_Pick_r0_kA1 : s_gnomonref01_Pick_r0_k.contains 1 = false := by kernel_rfl
theorem s_gnomonref01_Pick_r0_kA2 : s_gnomonref01_Pick_r0_k.contains 2 = false := by kernel_rfl
def s_gnomonref01_Pick_r0 : List AOper := [
  ⟨some 6, (.move (.c (.s (.slice none 0 0)))), none⟩]
theorem s_gnomonref01_Pick_r0_tale (fr : List V) (H : Heap) : evTale (symAll s_gnomonref01_Pick_r0 s_gnomonref01_Pick_r0_k []) s_gnomonref01_Pick_r0_k fr H = evTale (some (7, [], [])) s_gnomonref01_Pick_r0_k fr H := tale_row (items := [.cc (.s (.slice none 0 0))]) (by kernel_rfl) fr H
def s_gnomonref01_Pick_r1 : List AOper := [
  ⟨some 7, (.move (.c (.s (.slice none 0 0)))), none⟩]
theorem s_gnomonref01_Pick_r1_tale (fr : List V) (H : Heap) : evTale (symAll s_gnomonref01_Pick_r1 [] [7]) [] fr H = evTale (some (8, [], [(7, (.c (.s (.slice none 0 0))))])) [] fr H := tale_row (items := [.cc (.s (.slice none 0 0))]) (by kernel_rfl) fr H
def s_gnomonref01_Pick_r2 : List AOper := [
  ⟨some 8, (.move (.c (.s (.int .i64 0)))), none⟩]
theorem s_gnomonref01_Pick_r2_tale (fr : List V) (H : Heap) : evTale (symAll s_gnomonref01_Pick_r2 [] [8]) [] fr H = evTale (some (9, [], [(8, (.c (.s (.int .i64 0))))])) [] fr H := tale_row (items := [.cc (.s (.int .i64 0))]) (by kernel_rfl) fr H
def s_gnomonref01_Pick_r3 : List AOper := [
  ⟨some 9, (.move (.t 8)), none⟩,
  ⟨some 10, (.move (.t 0)), none⟩,
  ⟨some 11, (.lenS .s (.t 10)), none⟩,
  ⟨some 12, (.bin .lss (.t 9) (.t 11)), none⟩]
theorem s_gnomonref01_Pick_r3_tale (fr : List V) (H : Heap) : evTale (symAll s_gnomonref01_Pick_r3 [9, 10, 11] [12]) [9, 10, 11] fr H = evTale (some (13, [], [(12, (.op (.bin .lss (.t 0) (.t 1)) [(.t 8), (.op (.lenS .s (.t 0)) [(.t 0)])]))])) [9, 10, 11] fr H := tale_row (items := [.tt 8, .tt 0, .sub 0 [1] [], .sub 0 [] []]) (by kernel_rfl) fr H
def s_gnomonref01_Pick_r4t2 : List AOper := [⟨some 21, (.move (.t 2)), none⟩, ⟨some 22, (.eqB false (.t 20) (.t 21)), none⟩]
def s_gnomonref01_Pick_r4p1 : List AOper := [⟨some 20, (.call (.c (.fn 39 [] [])) [(.t 15), (.t 19)]), none⟩]
def s_gnomonref01_Pick_r4t1 : List AOper := s_gnomonref01_Pick_r4p1 ++ s_gnomonref01_Pick_r4t2
def s_gnomonref01_Pick_r4p0 : List AOper := [⟨some 15, (.move (.t 1)), none⟩, ⟨some 16, (.move (.t 0)), none⟩, ⟨some 17, (.move (.t 8)), none⟩, ⟨some 18, (.indexAddr 1 (.t 16) (.t 17)), none⟩, ⟨some 19, (.load false 1 (.t 18)), none⟩]
def s_gnomonref01_Pick_r4 : List AOper := s_gnomonref01_Pick_r4p0 ++ s_gnomonref01_Pick_r4t1
theorem s_gnomonref01_Pick_r4p0_tale (fr : List V) (H : Heap) : evTale (symAll s_gnomonref01_Pick_r4p0 [12, 16, 17, 18] [15, 19]) [12, 16, 17, 18] fr H = evTale (some (20, [], [(15, (.t 1)), (19, (.op (.load false 1 (.t 0)) [(.op (.indexAddr 1 (.t 0) (.t 1)) [(.t 0), (.t 8)])]))])) [12, 16, 17, 18] fr H := tale_row (items := [.tt 1, .tt 0, .tt 8, .sub 1 [0] [], .sub 1 [] []]) (by kernel_rfl) fr H
theorem s_gnomonref01_Pick_r4_x (call : CallF) (it : IterF) (base : Nat) (f : List V) (H : Heap) : evC call it base (.region s_gnomonref01_Pick_r4 [] [12, 15, 16, 17, 18, 19, 20, 21]) f H = segC call it base s_gnomonref01_Pick_r4t1 [12, 15, 16, 17, 18, 19, 20, 21] H (evTale (symAll s_gnomonref01_Pick_r4p0 [12, 16, 17, 18] [15, 19]) [12, 16, 17, 18] f H) (origRow call it base s_gnomonref01_Pick_r4 [12, 15, 16, 17, 18, 19, 20, 21] f H) := row_seg call it base s_gnomonref01_Pick_r4p0 s_gnomonref01_Pick_r4t1 (by kernel_rfl) f H
theorem s_gnomonref01_Pick_r4t1_x (call : CallF) (it : IterF) (base : Nat) (f : List V) (H : Heap) : evC call it base (.region s_gnomonref01_Pick_r4t1 [] [12, 15, 16, 17, 18, 19, 20, 21]) f H = thenC call it base (.region s_gnomonref01_Pick_r4t2 [] [12, 15, 16, 17, 18, 19, 20, 21]) (opsC [] s_gnomonref01_Pick_r4p1 [15, 19] (evOps call base [⟨some 20, (.call (.c (.fn 39 [] [])) [(.t 15), (.t 19)]), none⟩] f H)) := (row_op call it base s_gnomonref01_Pick_r4p1 s_gnomonref01_Pick_r4t2 (kc := [15, 19]) (by kernel_rfl) f H).trans (by rw [row_ops]; rfl)
theorem s_gnomonref01_Pick_r4t2_tale (fr : List V) (H : Heap) : evTale (symAll s_gnomonref01_Pick_r4t2 [12, 15, 16, 17, 18, 19, 20, 21] [22]) [12, 15, 16, 17, 18, 19, 20, 21] fr H = evTale (some (23, [], [(22, (.op (.eqB false (.t 0) (.t 1)) [(.t 20), (.t 2)]))])) [12, 15, 16, 17, 18, 19, 20, 21] fr H := tale_row (items := [.tt 2, .sub 0 [] []]) (by kernel_rfl) fr H
theorem s_gnomonref01_Pick_r4t2_x (call : CallF) (it : IterF) (base : Nat) (f : List V) (H : Heap) : evC call it base (.region s_gnomonref01_Pick_r4t2 [] [12, 15, 16, 17, 18, 19, 20, 21]) f H = segL H (evTale (symAll s_gnomonref01_Pick_r4t2 [12, 15, 16, 17, 18, 19, 20, 21] [22]) [12, 15, 16, 17, 18, 19, 20, 21] f H) (origRow call it base s_gnomonref01_Pick_r4t2 [12, 15, 16, 17, 18, 19, 20, 21] f H) := row_last call it base _ f H
def s_gnomonref01_Pick_r5t3 : List AOper := [⟨some 7, (.move (.t 29)), none⟩]
def s_gnomonref01_Pick_r5p2 : List AOper := [⟨some 29, (.append 1 8 (.t 23) (.t 28)), none⟩]
def s_gnomonref01_Pick_r5t2 : List AOper := s_gnomonref01_Pick_r5p2 ++ s_gnomonref01_Pick_r5t3
def s_gnomonref01_Pick_r5p1 : List AOper := [⟨some 28, (.buildSl 1 1 [(.s (.int .i64 0))] [(0, (.t 27))]), none⟩]
def s_gnomonref01_Pick_r5t1 : List AOper := s_gnomonref01_Pick_r5p1 ++ s_gnomonref01_Pick_r5t2
def s_gnomonref01_Pick_r5p0 : List AOper := [⟨some 23, (.move (.t 7)), none⟩, ⟨some 24, (.move (.t 0)), none⟩, ⟨some 25, (.move (.t 8)), none⟩, ⟨some 26, (.indexAddr 1 (.t 24) (.t 25)), none⟩, ⟨some 27, (.load false 1 (.t 26)), none⟩]
def s_gnomonref01_Pick_r5 : List AOper := s_gnomonref01_Pick_r5p0 ++ s_gnomonref01_Pick_r5t1
theorem s_gnomonref01_Pick_r5p0_tale (fr : List V) (H : Heap) : evTale (symAll s_gnomonref01_Pick_r5p0 [7, 22, 24, 25, 26] [23, 27]) [7, 22, 24, 25, 26] fr H = evTale (some (28, [], [(23, (.t 7)), (27, (.op (.load false 1 (.t 0)) [(.op (.indexAddr 1 (.t 0) (.t 1)) [(.t 0), (.t 8)])]))])) [7, 22, 24, 25, 26] fr H := tale_row (items := [.tt 7, .tt 0, .tt 8, .sub 1 [0] [], .sub 1 [] []]) (by kernel_rfl) fr H
theorem s_gnomonref01_Pick_r5_x (call : CallF) (it : IterF) (base : Nat) (f : List V) (H : Heap) : evC call it base (.region s_gnomonref01_Pick_r5 [] [22, 23, 24, 25, 26, 27, 28, 29]) f H = segC call it base s_gnomonref01_Pick_r5t1 [22, 23, 24, 25, 26, 27, 28, 29] H (evTale (symAll s_gnomonref01_Pick_r5p0 [7, 22, 24, 25, 26] [23, 27]) [7, 22, 24, 25, 26] f H) (origRow call it base s_gnomonref01_Pick_r5 [22, 23, 24, 25, 26, 27, 28, 29] f H) := row_seg call it base s_gnomonref01_Pick_r5p0 s_gnomonref01_Pick_r5t1 (by kernel_rfl) f H
theorem s_gnomonref01_Pick_r5t1_x (call : CallF) (it : IterF) (base : Nat) (f : List V) (H : Heap) : evC call it base (.region s_gnomonref01_Pick_r5t1 [] [22, 23, 24, 25, 26, 27, 28, 29]) f H = thenC call it base (.region s_gnomonref01_Pick_r5t2 [] [22, 23, 24, 25, 26, 27, 28, 29]) (opsC [] s_gnomonref01_Pick_r5p1 [27] (evOps call base [⟨some 28, (.buildSl 1 1 [(.s (.int .i64 0))] [(0, (.t 27))]), none⟩] f H)) := (row_op call it base s_gnomonref01_Pick_r5p1 s_gnomonref01_Pick_r5t2 (kc := [27]) (by kernel_rfl) f H).trans (by rw [row_ops]; rfl)
theorem s_gnomonref01_Pick_r5t2_x (call : CallF) (it : IterF) (base : Nat) (f : List V) (H : Heap) : evC call it base (.region s_gnomonref01_Pick_r5t2 [] [22, 23, 24, 25, 26, 27, 28, 29]) f H = thenC call it base (.region s_gnomonref01_Pick_r5t3 [] [22, 23, 24, 25, 26, 27, 28, 29]) (opsC [] s_gnomonref01_Pick_r5p2 [23, 28] (evOps call base [⟨some 29, (.append 1 8 (.t 23) (.t 28)), none⟩] f H)) := (row_op call it base s_gnomonref01_Pick_r5p2 s_gnomonref01_Pick_r5t3 (kc := [23, 28]) (by kernel_rfl) f H).trans (by rw [row_ops]; rfl)
theorem s_gnomonref01_Pick_r5t3_tale (fr : List V) (H : Heap) : evTale (symAll s_gnomonref01_Pick_r5t3 [22, 23, 24, 25, 26, 27, 28, 29] [7]) [22, 23, 24, 25, 26, 27, 28, 29] fr H = evTale (some (8, [], [(7, (.t 29))])) [22, 23, 24, 25, 26, 27, 28, 29] fr H := tale_row (items := [.tt 29]) (by kernel_rfl) fr H
theorem s_gnomonref01_Pick_r5t3_x (call : CallF) (it : IterF) (base : Nat) (f : List V) (H : Heap) : evC call it base (.region s_gnomonref01_Pick_r5t3 [] [22, 23, 24, 25, 26, 27, 28, 29]) f H = segL H (evTale (symAll s_gnomonref01_Pick_r5t3 [22, 23, 24, 25, 26, 27, 28, 29] [7]) [22, 23, 24, 25, 26, 27, 28, 29] f H) (origRow call it base s_gnomonref01_Pick_r5t3 [22, 23, 24, 25, 26, 27, 28, 29] f H) := row_last call it base _ f H
def s_gnomonref01_Pick_r6 : List AOper := [
  ⟨some 13, (.move (.t 8)), none⟩,
  ⟨some 14, (.bin .add (.t 13) (.c (.s (.int .i64 1)))), none⟩,
  ⟨some 8, (.move (.t 14)), none⟩]
theorem s_gnomonref01_Pick_r6_tale (fr : List V) (H : Heap) : evTale (symAll s_gnomonref01_Pick_r6 [13, 14, 22] [8]) [13, 14, 22] fr H = evTale (some (15, [], [(8, (.op (.bin .add (.t 0) (.c (.s (.int .i64 1)))) [(.t 8), (.c (.s (.int .i64 1)))]))])) [13, 14, 22] fr H := tale_row (items := [.tt 8, .sub 0 [] [], .sub 0 [] []]) (by kernel_rfl) fr H
def s_gnomonref01_Pick_l0_b : ACode :=
  (.seq (.seq (.regionE s_gnomonref01_Pick_r3 [9, 10, 11] [12])
  (.cond (.t 12)
  .skip
  (.exit 0)))
  (.seq (.block 1
  (.seq (.region s_gnomonref01_Pick_r4 [] [12, 15, 16, 17, 18, 19, 20, 21])
  (.cond (.t 22)
  (.region s_gnomonref01_Pick_r5 [] [22, 23, 24, 25, 26, 27, 28, 29])
  .skip)))
  (.regionE s_gnomonref01_Pick_r6 [13, 14, 22] [8])))
def s_gnomonref01_Pick_l0 : ACode := s_gnomonref01_Pick_l0_b
theorem s_gnomonref01_Pick_l0_ev (call : CallF) (it : IterF) (base : Nat) (fr : List V) (H : Heap) : evC call it base s_gnomonref01_Pick_l0 fr H = evC call it base s_gnomonref01_Pick_l0_b fr H := rfl
def s_gnomonref01_Pick_r7 : List AOper := [
  ⟨some 30, (.move (.t 7)), none⟩,
  ⟨some 6, (.move (.t 30)), none⟩]
theorem s_gnomonref01_Pick_r7_tale (fr : List V) (H : Heap) : evTale (symAll s_gnomonref01_Pick_r7 [0, 1, 2, 7, 8, 12, 30] [6]) [0, 1, 2, 7, 8, 12, 30] fr H = evTale (some (31, [], [(6, (.t 7))])) [0, 1, 2, 7, 8, 12, 30] fr H := tale_row (items := [.tt 7, .tt 7]) (by kernel_rfl) fr H
def s_gnomonref01_Pick : ACFun := { ntmps := 31, results := [(.tmp 6)], body :=
  (.seq (.regionE s_gnomonref01_Pick_r0 s_gnomonref01_Pick_r0_k [])
  (.seq (.regionE s_gnomonref01_Pick_r1 [] [7])
  (.seq (.seq (.regionE s_gnomonref01_Pick_r2 [] [8])
  (.block 0
  (.loop [] s_gnomonref01_Pick_l0)))
  (.seq (.regionE s_gnomonref01_Pick_r7 [0, 1, 2, 7, 8, 12, 30] [6])
  .ret)))) }
abbrev k_gnomonref01_Union : Nat := 28
def s_gnomonref01_Union_r0_k : List Nat := [2, 3, 4, 5, 6, 7, 8, 9, 10, 11, 12, 13, 14, 15, 16, 17, 18]
theorem s_gnomonref01_Union_r0_kT : killV s_gnomonref01_Union_r0_k (startV 19 [] 2) = [] := by kernel_rfl
theorem s_gnomonref01_Union_r0_kA0 : s_gnomonref01_Union_r0_k.contains 0 = false := by kernel_rfl
theorem s_gnomonref01_Union_r0_kA1 : s_gnomonref01_Union_r0_k.contains 1 = false := by kernel_rfl
def s_gnomonref01_Union_r0 : List AOper := [
  ⟨some 4, (.move (.c (.s (.slice none 0 0)))), none⟩]
theorem s_gnomonref01_Union_r0_tale (fr : List V) (H : Heap) : evTale (symAll s_gnomonref01_Union_r0 s_gnomonref01_Union_r0_k []) s_gnomonref01_Union_r0_k fr H = evTale (some (5, [], [])) s_gnomonref01_Union_r0_k fr H := tale_row (items := [.cc (.s (.slice none 0 0))]) (by kernel_rfl) fr H
def s_gnomonref01_Union_r1 : List AOper := [
  ⟨some 5, (.move (.c (.s (.int .i64 0)))), none⟩]
theorem s_gnomonref01_Union_r1_tale (fr : List V) (H : Heap) : evTale (symAll s_gnomonref01_Union_r1 [] [5]) [] fr H = evTale (some (6, [], [(5, (.c (.s (.int .i64 0))))])) [] fr H := tale_row (items := [.cc (.s (.int .i64 0))]) (by kernel_rfl) fr H
def s_gnomonref01_Union_r2 : List AOper := [
  ⟨some 6, (.move (.t 5)), none⟩,
  ⟨some 7, (.move (.t 1)), none⟩,
  ⟨some 8, (.lenS .s (.t 7)), none⟩,
  ⟨some 9, (.bin .lss (.t 6) (.t 8)), none⟩]
theorem s_gnomonref01_Union_r2_tale (fr : List V) (H : Heap) : evTale (symAll s_gnomonref01_Union_r2 [6, 7, 8] [9]) [6, 7, 8] fr H = evTale (some (10, [], [(9, (.op (.bin .lss (.t 0) (.t 1)) [(.t 5), (.op (.lenS .s (.t 0)) [(.t 1)])]))])) [6, 7, 8] fr H := tale_row (items := [.tt 5, .tt 1, .sub 0 [1] [], .sub 0 [] []]) (by kernel_rfl) fr H
def s_gnomonref01_Union_r3t2 : List AOper := [⟨some 0, (.move (.t 17)), none⟩]
def s_gnomonref01_Union_r3p1 : List AOper := [⟨some 17, (.call (.c (.fn 26 [] [])) [(.t 12), (.t 16)]), none⟩]
def s_gnomonref01_Union_r3t1 : List AOper := s_gnomonref01_Union_r3p1 ++ s_gnomonref01_Union_r3t2
def s_gnomonref01_Union_r3p0 : List AOper := [⟨some 12, (.move (.t 0)), none⟩, ⟨some 13, (.move (.t 1)), none⟩, ⟨some 14, (.move (.t 5)), none⟩, ⟨some 15, (.indexAddr 1 (.t 13) (.t 14)), none⟩, ⟨some 16, (.load false 1 (.t 15)), none⟩]
def s_gnomonref01_Union_r3 : List AOper := s_gnomonref01_Union_r3p0 ++ s_gnomonref01_Union_r3t1
theorem s_gnomonref01_Union_r3p0_tale (fr : List V) (H : Heap) : evTale (symAll s_gnomonref01_Union_r3p0 [0, 9, 13, 14, 15] [12, 16]) [0, 9, 13, 14, 15] fr H = evTale (some (17, [], [(12, (.t 0)), (16, (.op (.load false 1 (.t 0)) [(.op (.indexAddr 1 (.t 0) (.t 1)) [(.t 1), (.t 5)])]))])) [0, 9, 13, 14, 15] fr H := tale_row (items := [.tt 0, .tt 1, .tt 5, .sub 1 [0] [], .sub 1 [] []]) (by kernel_rfl) fr H
theorem s_gnomonref01_Union_r3_x (call : CallF) (it : IterF) (base : Nat) (f : List V) (H : Heap) : evC call it base (.region s_gnomonref01_Union_r3 [] [9, 12, 13, 14, 15, 16, 17]) f H = segC call it base s_gnomonref01_Union_r3t1 [9, 12, 13, 14, 15, 16, 17] H (evTale (symAll s_gnomonref01_Union_r3p0 [0, 9, 13, 14, 15] [12, 16]) [0, 9, 13, 14, 15] f H) (origRow call it base s_gnomonref01_Union_r3 [9, 12, 13, 14, 15, 16, 17] f H) := row_seg call it base s_gnomonref01_Union_r3p0 s_gnomonref01_Union_r3t1 (by kernel_rfl) f H
theorem s_gnomonref01_Union_r3t1_x (call : CallF) (it : IterF) (base : Nat) (f : List V) (H : Heap) : evC call it base (.region s_gnomonref01_Union_r3t1 [] [9, 12, 13, 14, 15, 16, 17]) f H = thenC call it base (.region s_gnomonref01_Union_r3t2 [] [9, 12, 13, 14, 15, 16, 17]) (opsC [] s_gnomonref01_Union_r3p1 [12, 16] (evOps call base [⟨some 17, (.call (.c (.fn 26 [] [])) [(.t 12), (.t 16)]), none⟩] f H)) := (row_op call it base s_gnomonref01_Union_r3p1 s_gnomonref01_Union_r3t2 (kc := [12, 16]) (by kernel_rfl) f H).trans (by rw [row_ops]; rfl)
theorem s_gnomonref01_Union_r3t2_tale (fr : List V) (H : Heap) : evTale (symAll s_gnomonref01_Union_r3t2 [9, 12, 13, 14, 15, 16, 17] [0]) [9, 12, 13, 14, 15, 16, 17] fr H = evTale (some (1, [], [(0, (.t 17))])) [9, 12, 13, 14, 15, 16, 17] fr H := tale_row (items := [.tt 17]) (by kernel_rfl) fr H
theorem s_gnomonref01_Union_r3t2_x (call : CallF) (it : IterF) (base : Nat) (f : List V) (H : Heap) : evC call it base (.region s_gnomonref01_Union_r3t2 [] [9, 12, 13, 14, 15, 16, 17]) f H = segL H (evTale (symAll s_gnomonref01_Union_r3t2 [9, 12, 13, 14, 15, 16, 17] [0]) [9, 12, 13, 14, 15, 16, 17] f H) (origRow call it base s_gnomonref01_Union_r3t2 [9, 12, 13, 14, 15, 16, 17] f H) := row_last call it base _ f H
def s_gnomonref01_Union_r4 : List AOper := [
  ⟨some 10, (.move (.t 5)), none⟩,
  ⟨some 11, (.bin .add (.t 10) (.c (.s (.int .i64 1)))), none⟩,
  ⟨some 5, (.move (.t 11)), none⟩]
theorem s_gnomonref01_Union_r4_tale (fr : List V) (H : Heap) : evTale (symAll s_gnomonref01_Union_r4 [10, 11] [5]) [10, 11] fr H = evTale (some (12, [], [(5, (.op (.bin .add (.t 0) (.c (.s (.int .i64 1)))) [(.t 5), (.c (.s (.int .i64 1)))]))])) [10, 11] fr H := tale_row (items := [.tt 5, .sub 0 [] [], .sub 0 [] []]) (by kernel_rfl) fr H
def s_gnomonref01_Union_l0_b : ACode :=
  (.seq (.seq (.regionE s_gnomonref01_Union_r2 [6, 7, 8] [9])
  (.cond (.t 9)
  .skip
  (.exit 0)))
  (.seq (.block 1
  (.region s_gnomonref01_Union_r3 [] [9, 12, 13, 14, 15, 16, 17]))
  (.regionE s_gnomonref01_Union_r4 [10, 11] [5])))
def s_gnomonref01_Union_l0 : ACode := s_gnomonref01_Union_l0_b
theorem s_gnomonref01_Union_l0_ev (call : CallF) (it : IterF) (base : Nat) (fr : List V) (H : Heap) : evC call it base s_gnomonref01_Union_l0 fr H = evC call it base s_gnomonref01_Union_l0_b fr H := rfl
def s_gnomonref01_Union_r5 : List AOper := [
  ⟨some 18, (.move (.t 0)), none⟩,
  ⟨some 4, (.move (.t 18)), none⟩]
theorem s_gnomonref01_Union_r5_tale (fr : List V) (H : Heap) : evTale (symAll s_gnomonref01_Union_r5 [0, 1, 5, 9, 18] [4]) [0, 1, 5, 9, 18] fr H = evTale (some (19, [], [(4, (.t 0))])) [0, 1, 5, 9, 18] fr H := tale_row (items := [.tt 0, .tt 0]) (by kernel_rfl) fr H
def s_gnomonref01_Union : ACFun := { ntmps := 19, results := [(.tmp 4)], body :=
  (.seq (.regionE s_gnomonref01_Union_r0 s_gnomonref01_Union_r0_k [])
  (.seq (.seq (.regionE s_gnomonref01_Union_r1 [] [5])
  (.block 0
  (.loop [] s_gnomonref01_Union_l0)))
  (.seq (.regionE s_gnomonref01_Union_r5 [0, 1, 5, 9, 18] [4])
  .ret))) }
abbrev k_gnomonref01_Of : Nat := 29
def s_gnomonref01_Of_r0_k : List Nat := [1, 2, 3, 4, 5, 6, 7, 8, 9, 10, 11, 12, 13, 14, 15, 16, 17]
theorem s_gnomonref01_Of_r0_kT : killV s_gnomonref01_Of_r0_k (startV 18 [] 1) = [] := by kernel_rfl
theorem s_gnomonref01_Of_r0_kA0 : s_gnomonref01_Of_r0_k.contains 0 = false := by kernel_rfl
def s_gnomonref01_Of_r0 : List AOper := [
  ⟨some 2, (.move (.c (.s (.slice none 0 0)))), none⟩]
theorem s_gnomonref01_Of_r0_tale (fr : List V) (H : Heap) : evTale (symAll s_gnomonref01_Of_r0 s_gnomonref01_Of_r0_k []) s_gnomonref01_Of_r0_k fr H = evTale (some (3, [], [])) s_gnomonref01_Of_r0_k fr H := tale_row (items := [.cc (.s (.slice none 0 0))]) (by kernel_rfl) fr H
def s_gnomonref01_Of_r1 : List AOper := [
  ⟨some 3, (.move (.c (.s (.slice none 0 0)))), none⟩]
theorem s_gnomonref01_Of_r1_tale (fr : List V) (H : Heap) : evTale (symAll s_gnomonref01_Of_r1 [] [3]) [] fr H = evTale (some (4, [], [(3, (.c (.s (.slice none 0 0))))])) [] fr H := tale_row (items := [.cc (.s (.slice none 0 0))]) (by kernel_rfl) fr H
def s_gnomonref01_Of_r2 : List AOper := [
  ⟨some 4, (.move (.c (.s (.int .i64 0)))), none⟩]
theorem s_gnomonref01_Of_r2_tale (fr : List V) (H : Heap) : evTale (symAll s_gnomonref01_Of_r2 [] [4]) [] fr H = evTale (some (5, [], [(4, (.c (.s (.int .i64 0))))])) [] fr H := tale_row (items := [.cc (.s (.int .i64 0))]) (by kernel_rfl) fr H
def s_gnomonref01_Of_r3 : List AOper := [
  ⟨some 5, (.move (.t 4)), none⟩,
  ⟨some 6, (.move (.t 0)), none⟩,
  ⟨some 7, (.lenS .s (.t 6)), none⟩,
  ⟨some 8, (.bin .lss (.t 5) (.t 7)), none⟩]
theorem s_gnomonref01_Of_r3_tale (fr : List V) (H : Heap) : evTale (symAll s_gnomonref01_Of_r3 [5, 6, 7] [8]) [5, 6, 7] fr H = evTale (some (9, [], [(8, (.op (.bin .lss (.t 0) (.t 1)) [(.t 4), (.op (.lenS .s (.t 0)) [(.t 0)])]))])) [5, 6, 7] fr H := tale_row (items := [.tt 4, .tt 0, .sub 0 [1] [], .sub 0 [] []]) (by kernel_rfl) fr H
def s_gnomonref01_Of_r4t2 : List AOper := [⟨some 3, (.move (.t 16)), none⟩]
def s_gnomonref01_Of_r4p1 : List AOper := [⟨some 16, (.call (.c (.fn 26 [] [])) [(.t 11), (.t 15)]), none⟩]
def s_gnomonref01_Of_r4t1 : List AOper := s_gnomonref01_Of_r4p1 ++ s_gnomonref01_Of_r4t2
def s_gnomonref01_Of_r4p0 : List AOper := [⟨some 11, (.move (.t 3)), none⟩, ⟨some 12, (.move (.t 0)), none⟩, ⟨some 13, (.move (.t 4)), none⟩, ⟨some 14, (.indexAddr 1 (.t 12) (.t 13)), none⟩, ⟨some 15, (.load false 1 (.t 14)), none⟩]
def s_gnomonref01_Of_r4 : List AOper := s_gnomonref01_Of_r4p0 ++ s_gnomonref01_Of_r4t1
theorem s_gnomonref01_Of_r4p0_tale (fr : List V) (H : Heap) : evTale (symAll s_gnomonref01_Of_r4p0 [3, 8, 12, 13, 14] [11, 15]) [3, 8, 12, 13, 14] fr H = evTale (some (16, [], [(11, (.t 3)), (15, (.op (.load false 1 (.t 0)) [(.op (.indexAddr 1 (.t 0) (.t 1)) [(.t 0), (.t 4)])]))])) [3, 8, 12, 13, 14] fr H := tale_row (items := [.tt 3, .tt 0, .tt 4, .sub 1 [0] [], .sub 1 [] []]) (by kernel_rfl) fr H
theorem s_gnomonref01_Of_r4_x (call : CallF) (it : IterF) (base : Nat) (f : List V) (H : Heap) : evC call it base (.region s_gnomonref01_Of_r4 [] [8, 11, 12, 13, 14, 15, 16]) f H = segC call it base s_gnomonref01_Of_r4t1 [8, 11, 12, 13, 14, 15, 16] H (evTale (symAll s_gnomonref01_Of_r4p0 [3, 8, 12, 13, 14] [11, 15]) [3, 8, 12, 13, 14] f H) (origRow call it base s_gnomonref01_Of_r4 [8, 11, 12, 13, 14, 15, 16] f H) := row_seg call it base s_gnomonref01_Of_r4p0 s_gnomonref01_Of_r4t1 (by kernel_rfl) f H
theorem s_gnomonref01_Of_r4t1_x (call : CallF) (it : IterF) (base : Nat) (f : List V) (H : Heap) : evC call it base (.region s_gnomonref01_Of_r4t1 [] [8, 11, 12, 13, 14, 15, 16]) f H = thenC call it base (.region s_gnomonref01_Of_r4t2 [] [8, 11, 12, 13, 14, 15, 16]) (opsC [] s_gnomonref01_Of_r4p1 [11, 15] (evOps call base [⟨some 16, (.call (.c (.fn 26 [] [])) [(.t 11), (.t 15)]), none⟩] f H)) := (row_op call it base s_gnomonref01_Of_r4p1 s_gnomonref01_Of_r4t2 (kc := [11, 15]) (by kernel_rfl) f H).trans (by rw [row_ops]; rfl)
theorem s_gnomonref01_Of_r4t2_tale (fr : List V) (H : Heap) : evTale (symAll s_gnomonref01_Of_r4t2 [8, 11, 12, 13, 14, 15, 16] [3]) [8, 11, 12, 13, 14, 15, 16] fr H = evTale (some (4, [], [(3, (.t 16))])) [8, 11, 12, 13, 14, 15, 16] fr H := tale_row (items := [.tt 16]) (by kernel_rfl) fr H
theorem s_gnomonref01_Of_r4t2_x (call : CallF) (it : IterF) (base : Nat) (f : List V) (H : Heap) : evC call it base (.region s_gnomonref01_Of_r4t2 [] [8, 11, 12, 13, 14, 15, 16]) f H = segL H (evTale (symAll s_gnomonref01_Of_r4t2 [8, 11, 12, 13, 14, 15, 16] [3]) [8, 11, 12, 13, 14, 15, 16] f H) (origRow call it base s_gnomonref01_Of_r4t2 [8, 11, 12, 13, 14, 15, 16] f H) := row_last call it base _ f H
def s_gnomonref01_Of_r5 : List AOper := [
  ⟨some 9, (.move (.t 4)), none⟩,
  ⟨some 10, (.bin .add (.t 9) (.c (.s (.int .i64 1)))), none⟩,
  ⟨some 4, (.move (.t 10)), none⟩]
theorem s_gnomonref01_Of_r5_tale (fr : List V) (H : Heap) : evTale (symAll s_gnomonref01_Of_r5 [9, 10] [4]) [9, 10] fr H = evTale (some (11, [], [(4, (.op (.bin .add (.t 0) (.c (.s (.int .i64 1)))) [(.t 4), (.c (.s (.int .i64 1)))]))])) [9, 10] fr H := tale_row (items := [.tt 4, .sub 0 [] [], .sub 0 [] []]) (by kernel_rfl) fr H
def s_gnomonref01_Of_l0_b : ACode :=
  (.seq (.seq (.regionE s_gnomonref01_Of_r3 [5, 6, 7] [8])
  (.cond (.t 8)
  .skip
  (.exit 0)))
  (.seq (.block 1
  (.region s_gnomonref01_Of_r4 [] [8, 11, 12, 13, 14, 15, 16]))
  (.regionE s_gnomonref01_Of_r5 [9, 10] [4])))
def s_gnomonref01_Of_l0 : ACode := s_gnomonref01_Of_l0_b
theorem s_gnomonref01_Of_l0_ev (call : CallF) (it : IterF) (base : Nat) (fr : List V) (H : Heap) : evC call it base s_gnomonref01_Of_l0 fr H = evC call it base s_gnomonref01_Of_l0_b fr H := rfl
def s_gnomonref01_Of_r6 : List AOper := [
  ⟨some 17, (.move (.t 3)), none⟩,
  ⟨some 2, (.move (.t 17)), none⟩]
theorem s_gnomonref01_Of_r6_tale (fr : List V) (H : Heap) : evTale (symAll s_gnomonref01_Of_r6 [0, 3, 4, 8, 17] [2]) [0, 3, 4, 8, 17] fr H = evTale (some (18, [], [(2, (.t 3))])) [0, 3, 4, 8, 17] fr H := tale_row (items := [.tt 3, .tt 3]) (by kernel_rfl) fr H
def s_gnomonref01_Of : ACFun := { ntmps := 18, results := [(.tmp 2)], body :=
  (.seq (.regionE s_gnomonref01_Of_r0 s_gnomonref01_Of_r0_k [])
  (.seq (.regionE s_gnomonref01_Of_r1 [] [3])
  (.seq (.seq (.regionE s_gnomonref01_Of_r2 [] [4])
  (.block 0
  (.loop [] s_gnomonref01_Of_l0)))
  (.seq (.regionE s_gnomonref01_Of_r6 [0, 3, 4, 8, 17] [2])
  .ret)))) }
def a_gnomonref01_Add := And.intro @s_gnomonref01_Add_r0_tale (And.intro @s_gnomonref01_Add_r0_kT (And.intro @s_gnomonref01_Add_r0_kA0 (And.intro @s_gnomonref01_Add_r0_kA1 (And.intro @s_gnomonref01_Add_r1p0_tale (And.intro @s_gnomonref01_Add_r1_x (And.intro @s_gnomonref01_Add_r1t1_x (And.intro @s_gnomonref01_Add_r1t2_x (And.intro @s_gnomonref01_Add_r1t3_x (And.intro @s_gnomonref01_Add_r1t4_tale (And.intro @s_gnomonref01_Add_r1t4_x (And.intro @s_gnomonref01_Add_r2_tale (And.intro @s_gnomonref01_Add_r3_tale (And.intro @s_gnomonref01_Add_r4_tale (And.intro @s_gnomonref01_Add_r5_tale (And.intro @s_gnomonref01_Add_l0_ev (And.intro @s_gnomonref01_Add_r6p0_tale (And.intro @s_gnomonref01_Add_r6_x (And.intro @s_gnomonref01_Add_r6t1_x (And.intro @s_gnomonref01_Add_r6t2_tale (And.intro @s_gnomonref01_Add_r6t2_x (And.intro @s_gnomonref01_Add_r7p0_tale (And.intro @s_gnomonref01_Add_r7_x (And.intro @s_gnomonref01_Add_r7t1_x (And.intro @s_gnomonref01_Add_r7t2_x (And.intro @s_gnomonref01_Add_r7t3_tale (And.intro @s_gnomonref01_Add_r7t3_x (And.intro @s_gnomonref01_Add_r8p0_tale (And.intro @s_gnomonref01_Add_r8_x (And.intro @s_gnomonref01_Add_r8t1_x (And.intro @s_gnomonref01_Add_r8t2_tale (@s_gnomonref01_Add_r8t2_x)))))))))))))))))))))))))))))))
def a_gnomonref01_Pick := And.intro @s_gnomonref01_Pick_r0_tale (And.intro @s_gnomonref01_Pick_r0_kT (And.intro @s_gnomonref01_Pick_r0_kA0 (And.intro @s_gnomonref01_Pick_r0_kA1 (And.intro @s_gnomonref01_Pick_r0_kA2 (And.intro @s_gnomonref01_Pick_r1_tale (And.intro @s_gnomonref01_Pick_r2_tale (And.intro @s_gnomonref01_Pick_r3_tale (And.intro @s_gnomonref01_Pick_r4p0_tale (And.intro @s_gnomonref01_Pick_r4_x (And.intro @s_gnomonref01_Pick_r4t1_x (And.intro @s_gnomonref01_Pick_r4t2_tale (And.intro @s_gnomonref01_Pick_r4t2_x (And.intro @s_gnomonref01_Pick_r5p0_tale (And.intro @s_gnomonref01_Pick_r5_x (And.intro @s_gnomonref01_Pick_r5t1_x (And.intro @s_gnomonref01_Pick_r5t2_x (And.intro @s_gnomonref01_Pick_r5t3_tale (And.intro @s_gnomonref01_Pick_r5t3_x (And.intro @s_gnomonref01_Pick_r6_tale (And.intro @s_gnomonref01_Pick_l0_ev (@s_gnomonref01_Pick_r7_tale)))))))))))))))))))))
def a_gnomonref01_Union := And.intro @s_gnomonref01_Union_r0_tale (And.intro @s_gnomonref01_Union_r0_kT (And.intro @s_gnomonref01_Union_r0_kA0 (And.intro @s_gnomonref01_Union_r0_kA1 (And.intro @s_gnomonref01_Union_r1_tale (And.intro @s_gnomonref01_Union_r2_tale (And.intro @s_gnomonref01_Union_r3p0_tale (And.intro @s_gnomonref01_Union_r3_x (And.intro @s_gnomonref01_Union_r3t1_x (And.intro @s_gnomonref01_Union_r3t2_tale (And.intro @s_gnomonref01_Union_r3t2_x (And.intro @s_gnomonref01_Union_r4_tale (And.intro @s_gnomonref01_Union_l0_ev (@s_gnomonref01_Union_r5_tale)))))))))))))
def a_gnomonref01_Of := And.intro @s_gnomonref01_Of_r0_tale (And.intro @s_gnomonref01_Of_r0_kT (And.intro @s_gnomonref01_Of_r0_kA0 (And.intro @s_gnomonref01_Of_r1_tale (And.intro @s_gnomonref01_Of_r2_tale (And.intro @s_gnomonref01_Of_r3_tale (And.intro @s_gnomonref01_Of_r4p0_tale (And.intro @s_gnomonref01_Of_r4_x (And.intro @s_gnomonref01_Of_r4t1_x (And.intro @s_gnomonref01_Of_r4t2_tale (And.intro @s_gnomonref01_Of_r4t2_x (And.intro @s_gnomonref01_Of_r5_tale (And.intro @s_gnomonref01_Of_l0_ev (@s_gnomonref01_Of_r6_tale)))))))))))))
theorem CB8_26 : compK Tryd.prog PX0 26 = some (false, s_gnomonref01_Add.ntmps, s_gnomonref01_Add.results, s_gnomonref01_Add.body.bare) := by kernel_rfl
theorem CB8_27 : compK Tryd.prog PX0 27 = some (false, s_gnomonref01_Pick.ntmps, s_gnomonref01_Pick.results, s_gnomonref01_Pick.body.bare) := by kernel_rfl
theorem CB8_28 : compK Tryd.prog PX0 28 = some (false, s_gnomonref01_Union.ntmps, s_gnomonref01_Union.results, s_gnomonref01_Union.body.bare) := by kernel_rfl
theorem CB8_29 : compK Tryd.prog PX0 29 = some (false, s_gnomonref01_Of.ntmps, s_gnomonref01_Of.results, s_gnomonref01_Of.body.bare) := by kernel_rfl
end Go.Proofs.YtccallbknpbggaaDoor
namespace Go.AM
theorem flat_len {w : Nat} : ∀ (R : List (List V)), (∀ r ∈ R, r.length = w) → R.flatten.length = R.length * w := by
  intro R
  induction R with
  | nil => intro _; simp
  | cons r R ih =>
    intro h
    rw [List.flatten_cons, List.length_append, ih (fun x hx => h x (List.mem_cons_of_mem _ hx)), h r List.mem_cons_self, List.length_cons, Nat.add_mul]
    omega
theorem rows_get {w : Nat} : ∀ (R : List (List V)), (∀ r ∈ R, r.length = w) → ∀ (i : Nat) (r : List V), R[i]? = some r → (R.flatten.drop (i * w)).take w = r := by
  intro R
  induction R with
  | nil => intro _ i r h; simp at h
  | cons s R ih =>
    intro h i r hr
    have hs := h s List.mem_cons_self
    cases i with
    | zero =>
      simp only [List.getElem?_cons_zero, Option.some.injEq] at hr
      subst hr
      rw [Nat.zero_mul, List.drop_zero, List.flatten_cons, ← hs, List.take_left]
    | succ i =>
      simp only [List.getElem?_cons_succ] at hr
      rw [List.flatten_cons, show (i + 1) * w = s.length + i * w by rw [hs, Nat.add_mul]; omega, List.drop_append, List.drop_eq_nil_of_le (by omega), List.nil_append, Nat.add_sub_cancel_left]
      exact ih (fun x hx => h x (List.mem_cons_of_mem _ hx)) i r hr
structure RdW (w : Nat) (H : Heap) (v : V) (R : List (List V)) : Prop where
  el : elems H w v = some (R.length, R.flatten)
  len : xLen H .s v = some (.s (.int .i64 R.length))
  one : v.one = true
  at' : ∀ (i : Nat) (r : List V), R[i]? = some r → ∃ a, xIndexAddr w v (.s (.int .i64 i)) = some a ∧ xLoad H true w a = some (.agg r) ∧ ∀ (o : Nat) (x : V), r[o]? = some x → ∃ b, xFieldAddr o a = some b ∧ xLoad H false 1 b = some x
theorem RdW.nil (w : Nat) (H : Heap) : RdW w H nilS [] := ⟨rfl, rfl, rfl, fun i r h => by simp at h⟩
theorem take_one {r : List V} {o : Nat} {x : V} (h : r[o]? = some x) : (r.drop o).take 1 = [x] := by
  obtain ⟨ho, rfl⟩ := List.getElem?_eq_some_iff.1 h
  rw [List.drop_eq_getElem_cons ho]
  rfl
theorem RdW.psl {w : Nat} (H : Heap) {R : List (List V)} (hR : ∀ r ∈ R, r.length = w) : RdW w H (.psl R w) R := by
  refine ⟨by simp [elems], rfl, rfl, fun i r h => ⟨.pref r, ?_, ?_, fun o x hx => ⟨.pref (r.drop o), ?_, ?_⟩⟩⟩
  · rw [xi_psl, if_pos ⟨by omega, rfl⟩, Int.toNat_natCast, h]
    rfl
  · have := hR r (List.mem_of_getElem? h)
    rw [xo_pref, List.take_of_length_le (by omega), if_pos this, shut_agg]
  · rw [xa_pref, if_pos (by have := (List.getElem?_eq_some_iff.1 hx).1; omega)]
  · rw [xo_pref, take_one hx, if_pos (by rfl), shut_one]
theorem RdW.sl {w : Nat} {H : Heap} {id g : Nat} {R : List (List V)} (hc : getC H id g = some R.flatten) (hR : ∀ r ∈ R, r.length = w) : RdW w H (.sl id g 0 R.length w) R := by
  have hl := flat_len R hR
  refine ⟨?_, rfl, rfl, fun i r h => ?_⟩
  · simp only [elems, if_true, hc, List.drop_zero, ← hl, List.take_length]
  · have hr := hR r (List.mem_of_getElem? h)
    have hi := (List.getElem?_eq_some_iff.1 h).1
    have hg := rows_get R hR i r h
    refine ⟨.ref id g (0 + i * w), ?_, ?_, fun o x hx => ⟨.ref id g (0 + i * w + o), rfl, ?_⟩⟩
    · rw [xi_sl, if_pos ⟨by omega, by omega, rfl⟩, Int.toNat_natCast]
    · rw [xo_ref, hc, Nat.zero_add]
      simp only [hg, hr, if_true, shut_agg]
    · have ho := (List.getElem?_eq_some_iff.1 hx).1
      have e : (R.flatten.drop (0 + i * w + o)).take 1 = [x] := by
        have h2 := take_one hx
        rw [← hg, List.drop_take, List.drop_drop, List.take_take, Nat.min_eq_left (by omega)] at h2
        rw [Nat.zero_add]
        exact h2
      rw [xo_ref, hc]
      simp only [e, List.length_singleton, if_true, shut_one]
def AccW (m w : Nat) (H : Heap) (v : V) (R : List (List V)) : Prop := (∀ r ∈ R, r.length = w) ∧ ((R = [] ∧ v = nilS) ∨ ∃ id g, v = .sl id g 0 R.length w ∧ getC H id g = some R.flatten ∧ m ≤ id)
theorem AccW.start (m w : Nat) (H : Heap) : AccW m w H nilS [] := ⟨fun r h => by simp at h, .inl ⟨rfl, rfl⟩⟩
theorem AccW.rd {m w : Nat} {H : Heap} {v : V} {R : List (List V)} (h : AccW m w H v R) : RdW w H v R := by
  obtain ⟨hR, ⟨rfl, rfl⟩ | ⟨id, g, rfl, hc, _⟩⟩ := h
  · exact RdW.nil w H
  · exact RdW.sl hc hR
theorem AccW.keep {m w : Nat} {H H' : Heap} {v : V} {R : List (List V)} (h : AccW m w H v R) (hk : ∀ id g n, v = .sl id g 0 n w → H'[id]? = H[id]?) : AccW m w H' v R := by
  obtain ⟨hR, h | ⟨id, g, rfl, hc, hm⟩⟩ := h
  · exact ⟨hR, .inl h⟩
  · refine ⟨hR, .inr ⟨id, g, rfl, ?_, hm⟩⟩
    unfold getC at hc ⊢
    rw [hk id g _ rfl]
    exact hc
theorem AccW.lt {m w : Nat} {H : Heap} {v : V} {R : List (List V)} (h : AccW m w H v R) : ∀ id g n, v = .sl id g 0 n w → id < H.length := by
  obtain ⟨_, ⟨_, rfl⟩ | ⟨id, g, rfl, hc, hm⟩⟩ := h
  · intro id g n e; cases e
  · intro id' g' n e
    cases e
    exact getC_lt hc
theorem AccW.d {m w : Nat} {H H' : Heap} {v : V} {R : List (List V)} (h : AccW m w H v R) (k : KeepD H.length [] H H') : AccW m w H' v R := h.keep fun id g n e => k.2 id (h.lt id g n e) (by simp)
def Plain1 (R : List (List V)) : Prop := ∀ r ∈ R, ∃ x xs, r = .s x :: xs
theorem AccW.apart {m w : Nat} {H : Heap} {v : V} {R : List (List V)} (h : AccW m w H v R) (hp : Plain1 R) {i j : Nat} {p : WS} (hs : SetP H i j p) : ∀ id g n, v = .sl id g 0 n w → id ≠ i ∧ id ≠ j := by
  obtain ⟨hR, ⟨_, rfl⟩ | ⟨id, g, rfl, hc, hm⟩⟩ := h
  · intro id g n e; cases e
  · intro id' g' n e
    cases e
    refine ⟨fun e => ?_, fun e => ?_⟩
    · subst e
      have hb := SetW.box hs
      unfold getC at hc hb
      cases ho : H[id]? with
      | none => rw [ho] at hb; cases hb
      | some o =>
        rw [ho] at hb hc
        cases o with
        | cells g2 c =>
          dsimp only at hb hc
          split at hb
          · split at hc
            · cases hb
              cases R with
              | nil => simp at hc
              | cons r R =>
                obtain ⟨x, xs, rfl⟩ := hp r List.mem_cons_self
                simp at hc
            · cases hc
          · cases hb
        | map _ => cases hb
        | loop _ _ _ _ _ _ => cases hb
        | dead => cases hb
    · subst e
      have hb := SetW.map hs
      unfold getC at hc
      rw [hb] at hc
      cases hc
theorem AccW.append {m w : Nat} {H : Heap} {v : V} {R : List (List V)} (h : AccW m w H v R) {base bytes : Nat} (hb : base ≤ m) (hm : m ≤ H.length) {S : List (List V)} (hS : ∀ r ∈ S, r.length = w) (h0 : S ≠ []) {x : V} (hx : elems H w x = some (S.length, S.flatten)) (ho : S.flatten.all V.one = true) (hs : (R.length + S.length) * bytes ≤ 2 ^ 47) :
    ∃ v' H', appendV H base w bytes v x = some (v', H') ∧ AccW m w H' v' (R ++ S) ∧ H.length ≤ H'.length ∧ (∀ id, id < H.length → (∀ g n, v ≠ .sl id g 0 n w) → H'[id]? = H[id]?) := by
  have hn : ¬ S.length = 0 := fun e => h0 (List.eq_nil_of_length_eq_zero e)
  have hRS : ∀ r ∈ R ++ S, r.length = w → r.length = w := fun _ _ e => e
  obtain ⟨hR, ⟨rfl, rfl⟩ | ⟨id, g, rfl, hc, hid⟩⟩ := h
  · have hs' : S.length * bytes ≤ 2 ^ 47 := by simpa using hs
    refine ⟨.sl H.length 0 0 S.length w, H ++ [.cells 0 S.flatten], ?_, ⟨?_, .inr ⟨H.length, 0, by simp, ?_, hm⟩⟩, by simp, fun id hid _ => List.getElem?_append_left hid⟩
    · simp only [appendV, hx, ho, if_true, nilS, hn, if_false, hs']
    · simpa using hS
    · rw [List.nil_append]; exact getC_new H 0 _
  · have hlt := getC_lt hc
    have hbi : base ≤ id := by omega
    have hl := flat_len R hR
    refine ⟨.sl id (g + 1) 0 (R.length + S.length) w, H.set id (.cells (g + 1) (R.flatten ++ S.flatten)), ?_, ⟨?_, .inr ⟨id, g + 1, by simp, ?_, hid⟩⟩, by simp, fun id' hid' hne => ?_⟩
    · have h2 : 0 + R.length * w ≤ R.flatten.length := by omega
      simp only [appendV, hx, ho, if_true, true_and, hbi, hc, h2, hn, if_false, hs, List.drop_zero]
      rw [List.take_of_length_le (by omega)]
    · intro r hr
      rcases List.mem_append.1 hr with hr | hr
      · exact hR r hr
      · exact hS r hr
    · rw [List.flatten_append]
      exact getC_set hc _
    · rw [List.getElem?_set_ne]
      rintro rfl
      exact hne g _ rfl
theorem AccW.trim_or {m w L : Nat} {H : Heap} {v : V} {R : List (List V)} (h : AccW m w H v R) (hL : L ≤ m) {fr : List V} (hv : v ∈ fr) : R = [] ∧ v = nilS ∨ trim L fr H = H := by
  obtain ⟨_, h | ⟨id, g, rfl, hc, hid⟩⟩ := h
  · exact .inl h
  · rcases Go.AM.trim_or L fr H with e | ⟨_, hu⟩
    · exact .inr e
    · have := hu _ hv
      simp only [idsUnder, decide_eq_true_eq] at this
      omega
theorem AccW.append0 {m w : Nat} {H : Heap} {v : V} {R : List (List V)} (h : AccW m w H v R) {base bytes : Nat} (hb : base ≤ m) (hm : m ≤ H.length) {S : List (List V)} (hS : ∀ r ∈ S, r.length = w) {x : V} (hx : elems H w x = some (S.length, S.flatten)) (ho : S.flatten.all V.one = true) (hs : (R.length + S.length) * bytes ≤ 2 ^ 47) :
    ∃ v' H', appendV H base w bytes v x = some (v', H') ∧ AccW m w H' v' (R ++ S) ∧ H.length ≤ H'.length ∧ (∀ id, id < H.length → (∀ g n, v ≠ .sl id g 0 n w) → H'[id]? = H[id]?) := by
  by_cases h0 : S = []
  · subst h0
    refine ⟨v, H, ?_, by rw [List.append_nil]; exact h, Nat.le_refl _, fun _ _ _ => rfl⟩
    obtain ⟨hR, ⟨rfl, rfl⟩ | ⟨id, g, rfl, hc, hid⟩⟩ := h
    · simp only [appendV, hx, ho, if_true, nilS, List.length_nil]
    · have hl := flat_len R hR
      have h2 : 0 + R.length * w ≤ R.flatten.length := by omega
      have hbi : base ≤ id := by omega
      simp only [appendV, hx, ho, if_true, true_and, hbi, hc, h2, List.length_nil]
  · exact h.append hb hm hS h0 hx ho hs
theorem RdW.ext {w : Nat} {H H' : Heap} {v : V} {R : List (List V)} (h : RdW w H v R) (k : Ext H H') (hv : (∃ es, v = .psl es w) ∨ v = nilS ∨ ∃ m, AccW m w H v R) : RdW w H' v R := by
  rcases hv with ⟨es, rfl⟩ | rfl | ⟨m, hv⟩
  · refine ⟨?_, h.len, rfl, fun i r hr => ?_⟩
    · exact h.el
    · obtain ⟨a, h1, h2, h3⟩ := h.at' i r hr
      rw [xi_psl] at h1
      split at h1
      · cases he : es[(i : Int).toNat]? with
        | none => rw [he] at h1; cases h1
        | some c =>
          rw [he] at h1
          cases h1
          exact ⟨.pref c, by rw [xi_psl, if_pos (by assumption), he]; rfl, h2, fun o x hx => by
            obtain ⟨b, e1, e2⟩ := h3 o x hx
            refine ⟨b, e1, ?_⟩
            rw [xa_pref] at e1
            split at e1
            · cases e1; exact e2
            · cases e1⟩
      · cases h1
  · exact ⟨h.el, h.len, rfl, fun i r hr => by
      obtain ⟨a, h1, _⟩ := h.at' i r hr
      cases h1⟩
  · exact (hv.d (k.d [])).rd
end Go.AM
namespace Go.AM
theorem trim_cells (m : Nat) (fr : List V) (H : Heap) : trim m fr H = H ∨ (trim m fr H = H.take m ∧ (∀ v ∈ fr, idsUnder m 8 v = true) ∧ ∀ id g c, id < m → getC H id g = some c → ∀ v ∈ c, idsUnder m 8 v = true) := by
  unfold trim
  split
  · rename_i h
    rw [Bool.and_eq_true, List.all_eq_true, List.all_eq_true] at h
    refine .inr ⟨rfl, h.1, fun id g c hid hc v hv => ?_⟩
    unfold getC at hc
    cases ho : H[id]? with
    | none => rw [ho] at hc; cases hc
    | some o =>
      rw [ho] at hc
      have hm : o ∈ H.take m := List.mem_of_getElem? (i := id) (by rw [List.getElem?_take_of_lt hid]; exact ho)
      have := h.2 o hm
      cases o with
      | cells g2 c2 =>
        dsimp only at hc
        split at hc
        · cases hc
          simp only [Ob.under, List.all_eq_true] at this
          exact this v hv
        · cases hc
      | map _ => cases hc
      | loop _ _ _ _ _ _ => cases hc
      | dead => cases hc
  · exact .inl rfl
def LiS (m : Nat) (H : Heap) (v : V) (l : List Int) : Prop := (l = [] ∧ v = nilS) ∨ ∃ id g, v = .sl id g 0 l.length 1 ∧ getC H id g = some (l.map iV) ∧ m ≤ id
theorem LiS.nil (m : Nat) (H : Heap) : LiS m H nilS [] := .inl ⟨rfl, rfl⟩
theorem LiS.rd {m : Nat} {H : Heap} {v : V} {l : List Int} (h : LiS m H v l) : Rd H v (l.map iV) := by
  rcases h with ⟨rfl, rfl⟩ | ⟨id, g, rfl, hc, _⟩
  · exact Rd.nil H
  · have := getC_sl hc
    rwa [List.length_map] at this
theorem LiS.wide {m : Nat} {H : Heap} {v : V} {l : List Int} (h : LiS m H v l) : Wide1 v := by
  rcases h with ⟨_, rfl⟩ | ⟨_, _, rfl, _⟩ <;> trivial
theorem LiS.one {m : Nat} {H : Heap} {v : V} {l : List Int} (h : LiS m H v l) : v.one = true := h.rd.one
theorem LiS.mono {m k : Nat} {H : Heap} {v : V} {l : List Int} (h : LiS m H v l) (hk : k ≤ m) : LiS k H v l := by
  rcases h with h | ⟨id, g, h1, h2, h3⟩
  · exact .inl h
  · exact .inr ⟨id, g, h1, h2, by omega⟩
theorem LiS.keep {m : Nat} {H H' : Heap} {v : V} {l : List Int} (h : LiS m H v l) (hk : ∀ id g n, v = .sl id g 0 n 1 → H'[id]? = H[id]?) : LiS m H' v l := by
  rcases h with h | ⟨id, g, rfl, hc, hm⟩
  · exact .inl h
  · refine .inr ⟨id, g, rfl, ?_, hm⟩
    unfold getC at hc ⊢
    rw [hk id g _ rfl]
    exact hc
theorem LiS.lt {m : Nat} {H : Heap} {v : V} {l : List Int} (h : LiS m H v l) : ∀ id g n, v = .sl id g 0 n 1 → id < H.length := by
  rcases h with ⟨_, rfl⟩ | ⟨id, g, rfl, hc, hm⟩
  · intro id g n e; cases e
  · intro id' g' n e
    cases e
    exact getC_lt hc
theorem LiS.d {m : Nat} {H H' : Heap} {v : V} {l : List Int} (h : LiS m H v l) (k : KeepD H.length [] H H') : LiS m H' v l := h.keep fun id g n e => k.2 id (h.lt id g n e) (by simp)
theorem LiS.under {m M : Nat} {H : Heap} {v : V} {l : List Int} (h : LiS m H v l) (hv : idsUnder M 8 v = true) : LiS m (H.take M) v l := by
  rcases h with h | ⟨id, g, rfl, hc, hm⟩
  · exact .inl h
  · simp only [idsUnder, decide_eq_true_eq] at hv
    refine .inr ⟨id, g, rfl, ?_, hm⟩
    unfold getC at hc ⊢
    rw [List.getElem?_take_of_lt hv]
    exact hc
theorem LiS.trim_fr {m : Nat} {H : Heap} {v : V} {l : List Int} (h : LiS m H v l) (L : Nat) {fr : List V} (hv : v ∈ fr) : LiS m (trim L fr H) v l := by
  rcases trim_or L fr H with e | ⟨e, hu⟩
  · rw [e]; exact h
  · rw [e]; exact h.under (hu v hv)
theorem LiS.apart {m : Nat} {H : Heap} {v : V} {l : List Int} (h : LiS m H v l) {o g : Nat} {x : V} {c : List V} (hc : getC H o g = some (x :: c)) (hx : ∀ n, x ≠ iV n) : ∀ id g n, v = .sl id g 0 n 1 → id ≠ o := by
  rcases h with ⟨_, rfl⟩ | ⟨id, g', rfl, hc', _⟩
  · intro id g n e; cases e
  · intro id' g2 n e e2
    cases e
    subst e2
    unfold getC at hc hc'
    cases ho : H[id]? with
    | none => rw [ho] at hc; cases hc
    | some ob =>
      rw [ho] at hc hc'
      cases ob with
      | cells g3 c3 =>
        dsimp only at hc hc'
        split at hc
        · split at hc'
          · cases hc
            cases l with
            | nil => simp at hc'
            | cons y l =>
              simp only [List.map_cons, Option.some.injEq, List.cons.injEq] at hc'
              exact hx y hc'.1
          · cases hc'
        · cases hc
      | map _ => cases hc
      | loop _ _ _ _ _ _ => cases hc
      | dead => cases hc
theorem LiS.apart_set {m : Nat} {H : Heap} {v : V} {l : List Int} (h : LiS m H v l) {i j : Nat} {p : WS} (hp : SetP H i j p) : ∀ id g n, v = .sl id g 0 n 1 → id ≠ i ∧ id ≠ j := by
  have h1 := h.apart (SetW.box hp) (by intro n e; cases e)
  intro id g n e
  refine ⟨h1 id g n e, ?_⟩
  rintro rfl
  rcases h with ⟨_, rfl⟩ | ⟨id', g', rfl, hc', _⟩
  · cases e
  · cases e
    have hb := SetW.map hp
    unfold getC at hc'
    rw [hb] at hc'
    cases hc'
theorem rowI_flat (l : List Int) : (l.map fun x => [iV x]).flatten = l.map iV := by
  induction l with
  | nil => rfl
  | cons x l ih => simp [ih]
theorem all_one_iV (l : List Int) : (l.map iV).all V.one = true := by simp [List.all_eq_true, iV, V.one]
theorem LiS.append {m : Nat} {H : Heap} {v : V} {l : List Int} (h : LiS m H v l) {base bytes : Nat} (hb : base ≤ m) (hm : m ≤ H.length) {x : V} {l2 : List Int} (hx : Rd H x (l2.map iV)) (hs : (l.length + l2.length) * bytes ≤ 2 ^ 47) :
    ∃ v' H', appendV H base 1 bytes v x = some (v', H') ∧ LiS m H' v' (l ++ l2) ∧ H.length ≤ H'.length ∧ (∀ id, id < H.length → (∀ g n, v ≠ .sl id g 0 n 1) → H'[id]? = H[id]?) := by
  have ha : AccW m 1 H v (l.map fun x => [iV x]) := by
    refine ⟨fun r hr => ?_, ?_⟩
    · obtain ⟨_, _, rfl⟩ := List.mem_map.1 hr; rfl
    · rcases h with ⟨rfl, rfl⟩ | ⟨id, g, rfl, hc, hm⟩
      · exact .inl ⟨rfl, rfl⟩
      · exact .inr ⟨id, g, by rw [List.length_map], by rw [rowI_flat]; exact hc, hm⟩
  obtain ⟨v', H', e1, e2, e3, e4⟩ := ha.append0 (base := base) (bytes := bytes) hb hm (S := l2.map fun x => [iV x]) (fun r hr => by obtain ⟨_, _, rfl⟩ := List.mem_map.1 hr; rfl) (x := x)
    (by rw [rowI_flat, List.length_map]; have := hx.2; rwa [List.length_map] at this) (by rw [rowI_flat]; exact all_one_iV l2) (by simpa using hs)
  refine ⟨v', H', e1, ?_, e3, e4⟩
  rw [← List.map_append] at e2
  obtain ⟨_, ⟨h1, h2⟩ | ⟨id, g, h1, h2, h3⟩⟩ := e2
  · exact .inl ⟨by simpa using h1, h2⟩
  · exact .inr ⟨id, g, by rw [List.length_map] at h1; exact h1, by rw [rowI_flat] at h2; exact h2, h3⟩
theorem OwnN.store {m : Nat} {H : Heap} {v : V} {l : List V} (h : OwnN m H v l) {base k : Nat} (hb : base ≤ m) (hk : k < l.length) {x : V} (hx : x.one = true) :
    ∃ a H', xIndexAddr 1 v (.s (.int .i64 k)) = some a ∧ storeV H base 1 x a = some H' ∧ OwnN m H' v (l.set k x) ∧ H'.length = H.length ∧ ∀ id, id < m → H'[id]? = H[id]? := by
  rcases h with ⟨rfl, _⟩ | ⟨id, g, c, rfl, hc, hl, ht, hm⟩
  · cases hk
  · have hcl : k < c.length := by omega
    have hx2 : c[k]? = some c[k] := List.getElem?_eq_getElem hcl
    refine ⟨.ref id g k, H.set id (.cells g (c.set k x)), (at_sl hc hk hx2).1, storeV_at hc (by omega) hx hcl, .inr ⟨id, g, c.set k x, by rw [List.length_set], getC_put hc, by rw [List.length_set, List.length_set]; exact hl, ?_, hm⟩, List.length_set, fun id' hid => ?_⟩
    · rw [List.length_set, List.take_set, ht]
    · rw [List.getElem?_set_ne (by omega)]
theorem evC_late1 {call : CallF} {it : IterF} {base : Nat} {A B : List AOper} {o : AOper} {chk : List (Nat × Nat)} {kill : List Nat} {fr f1 f2 f3 : List V} {H H1 H2 H3 : Heap} (hA : evOps call base A fr H = some (f1, H1)) (ho : evOps call base [o] f1 H1 = some (f2, H2)) (hB : evOps call base B f2 H2 = some (f3, H3)) (hc : o.op.isCallB = true)
    (hchk : ∀ p ∈ chk, p.1 = A.length ∧ ∃ q, lookAt f3 ((A ++ o :: B).getD p.2 default).op = some q ∧ ∀ id, q = some id → H2[id]? = H1[id]?) : evC call it base (.region (A ++ o :: B) chk kill) fr H = some (.nrm, killS kill f3, H3) := by
  have h2 : evOps call base (A ++ [o]) fr H = some (f2, H2) := by rw [evOps_cat, hA]; exact ho
  have h3 : evOps call base (A ++ o :: B) fr H = some (f3, H3) := by
    rw [show A ++ o :: B = (A ++ [o]) ++ B by simp, evOps_cat, h2]; exact hB
  refine evC_late h3 ?_
  rw [List.all_eq_true]
  intro p hp
  obtain ⟨e, q, hq, hk⟩ := hchk p hp
  have t1 : (A ++ o :: B).take p.1 = A := by rw [e]; simp
  have t2 : (A ++ o :: B).take (p.1 + 1) = A ++ [o] := by
    rw [e, show A ++ o :: B = (A ++ [o]) ++ B by simp, show A.length + 1 = (A ++ [o]).length by simp, List.take_left]
  have t3 : (A ++ o :: B).getD p.1 default = o := by rw [e]; simp
  have key : callKeeps call base (A ++ o :: B) fr H f3 p.1 p.2 = true := by
    unfold callKeeps
    rw [t1, t2, hA, h2, hq]
    cases q with
    | none => rfl
    | some id => exact @decide_eq_true _ (Classical.propDecidable _) (hk id rfl)
  simp only [lateOk, t3, hc, key, Bool.and_self, Bool.or_true, Bool.true_or]
end Go.AM
set_option maxRecDepth 100000
namespace Go.Proofs.YtccallbknpbggaaDoor
open Go.AM
def addL (l : List Int) (x : Int) : List Int := if x < 0 ∨ l.contains x = true then l else l.takeWhile (fun y => decide (y < x)) ++ [x] ++ l.dropWhile (fun y => decide (y < x))
theorem take_while (p : Int → Bool) (l : List Int) : l.take (l.takeWhile p).length = l.takeWhile p ∧ l.drop (l.takeWhile p).length = l.dropWhile p := by
  have h := List.takeWhile_append_dropWhile (p := p) (l := l)
  constructor
  · conv => lhs; rw [← h]
    rw [List.take_append_of_le_length (by rw [h]; exact Nat.le_refl _)] <;> simp
  · have h2 := List.drop_left (l₁ := l.takeWhile p) (l₂ := l.dropWhile p)
    rwa [h] at h2
theorem radd_loop (call : CallF) (base : Nat) (H : Heap) (v : V) (l : List Int) (x : Int) (hv : Rd H v (l.map iV)) (hw : Wide1 v) (hn : l.length < 2 ^ 62) : ∀ (r : List Int) (k : Nat), l.drop k = r → k ≤ l.length →
    itW (evC call itW base s_gnomonref01_Add_l0) [] H.length (frOf 42 [(0, v), (1, .s (.int .i64 x)), (5, .s (.int .i64 k))]) H = some (.ext 0, frOf 42 [(0, v), (1, .s (.int .i64 x)), (5, .s (.int .i64 (k + (r.takeWhile (fun y => decide (y < x))).length : Nat))), (26, .s (.bool false))], H) := by
  intro r
  induction r with
  | nil =>
    intro k hd hk
    obtain rfl := drop_nil hd hk
    rw [itW_step]
    simp only [a_gnomonref01_Add,s_gnomonref01_Add_l0_b, am0,am1,am2,am3,am4,am5,am6,am7,bl,i64,reduceIte,reduceCtorEq,Nat.reduceEqDiff,Nat.reduceLT,Nat.reduceLeDiff,Nat.reduceBEq,Nat.reduceAdd,fillA,splice,Nat.reduceMul,al0,al1,al2,al3,al4,al5,al6,al7,al8,al9,al10,al11,al12,al13,al14,al15,al16,al17,al18,al19,al20,al21,al22,al23,al24,al25,al26,al27,al28,al29,al30,al31,al32,al33,al34,amY,op_eqP, iV_len hv, Int.lt_irrefl, trim_same rfl, List.takeWhile_nil, List.length_nil, Nat.add_zero]
    done
  | cons y r ih =>
    intro k hd hk
    obtain ⟨hx, hlt, hd'⟩ := drop_cons hd
    obtain ⟨a, ha1, ha2⟩ := iV_at hv hw hx
    have hlt' : (k : Int) < (l.length : Int) := by omega
    have hwk := wrap_pos (n := k) (by omega)
    rw [itW_step]
    cases hxy : decide (y < x) with
    | true =>
      have e := ih (k + 1) hd' (by omega)
      have hl : (y :: r).takeWhile (fun y => decide (y < x)) = y :: r.takeWhile (fun y => decide (y < x)) := by rw [List.takeWhile_cons, if_pos hxy]
      simp only [a_gnomonref01_Add,s_gnomonref01_Add_l0_b, am0,am1,am2,am3,am4,am5,am6,am7,bl,i64,reduceIte,reduceCtorEq,Nat.reduceEqDiff,Nat.reduceLT,Nat.reduceLeDiff,Nat.reduceBEq,Nat.reduceAdd,fillA,splice,Nat.reduceMul,al0,al1,al2,al3,al4,al5,al6,al7,al8,al9,al10,al11,al12,al13,al14,al15,al16,al17,al18,al19,al20,al21,al22,al23,al24,al25,al26,al27,al28,al29,al30,al31,al32,al33,al34,amY,op_eqP, iV_len hv, hlt', ha1, ha2, hxy, hwk, trim_same rfl]
      rw [e, hl, List.length_cons, show k + 1 + (r.takeWhile (fun y => decide (y < x))).length = k + ((r.takeWhile (fun y => decide (y < x))).length + 1) by omega]
    | false =>
      have hl : (y :: r).takeWhile (fun y => decide (y < x)) = [] := by rw [List.takeWhile_cons, hxy]; rfl
      simp only [a_gnomonref01_Add,s_gnomonref01_Add_l0_b, am0,am1,am2,am3,am4,am5,am6,am7,bl,i64,reduceIte,reduceCtorEq,Nat.reduceEqDiff,Nat.reduceLT,Nat.reduceLeDiff,Nat.reduceBEq,Nat.reduceAdd,fillA,splice,Nat.reduceMul,al0,al1,al2,al3,al4,al5,al6,al7,al8,al9,al10,al11,al12,al13,al14,al15,al16,al17,al18,al19,al20,al21,al22,al23,al24,al25,al26,al27,al28,al29,al30,al31,al32,al33,al34,amY,op_eqP, iV_len hv, hlt', ha1, ha2, hxy, trim_same rfl, hl, List.length_nil, Nat.add_zero]
      done
theorem radd_fun {CT : Nat → Option CFun} (hT : CT k_gnomonref01_Add = some (.code s_gnomonref01_Add)) (hH : CT k_gnomonref01_Has = some (.code s_gnomonref01_Has)) (base : Nat) {H : Heap} {v : V} {l : List Int} (x : Int) (hv : LiS 0 H v l) (hn : l.length < 2 ^ 40) (hb : base ≤ H.length) :
    ∃ v' H', callW CT (.fn k_gnomonref01_Add [] []) [v, .s (.int .i64 x)] base H = some (v', H') ∧ LiS 0 H' v' (addL l x) ∧ KeepD H.length [] H H' := by
  have hw := hv.wide
  have hrd := hv.rd
  have hh := fun base => rhas_fun hH base H v l x hrd hw (by omega)
  by_cases h0 : x < 0
  · refine ⟨v, H, ?_, by rw [addL, if_pos (.inl h0)]; exact hv, KeepD.refl _ _⟩
    refine callW_fn (c := s_gnomonref01_Add) hT (by simp [s_gnomonref01_Add]) ?_
    simp only [s_gnomonref01_Add, a_gnomonref01_Add,s_gnomonref01_Add_l0_b, am0,am1,am2,am3,am4,am5,am6,am7,bl,i64,reduceIte,reduceCtorEq,Nat.reduceEqDiff,Nat.reduceLT,Nat.reduceLeDiff,Nat.reduceBEq,Nat.reduceAdd,fillA,splice,Nat.reduceMul,al0,al1,al2,al3,al4,al5,al6,al7,al8,al9,al10,al11,al12,al13,al14,al15,al16,al17,al18,al19,al20,al21,al22,al23,al24,al25,al26,al27,al28,al29,al30,al31,al32,al33,al34,amY,op_eqP, h0]
    done
  by_cases h1 : l.contains x = true
  · refine ⟨v, H, ?_, by rw [addL, if_pos (.inr h1)]; exact hv, KeepD.refl _ _⟩
    refine callW_fn (c := s_gnomonref01_Add) hT (by simp [s_gnomonref01_Add]) ?_
    simp only [s_gnomonref01_Add, a_gnomonref01_Add,s_gnomonref01_Add_l0_b, am0,am1,am2,am3,am4,am5,am6,am7,bl,i64,reduceIte,reduceCtorEq,Nat.reduceEqDiff,Nat.reduceLT,Nat.reduceLeDiff,Nat.reduceBEq,Nat.reduceAdd,fillA,splice,Nat.reduceMul,al0,al1,al2,al3,al4,al5,al6,al7,al8,al9,al10,al11,al12,al13,al14,al15,al16,al17,al18,al19,al20,al21,al22,al23,al24,al25,al26,al27,al28,al29,al30,al31,al32,al33,al34,amY,op_eqP, h0, hh, h1]
    done
  have h1' : l.contains x = false := by simpa using h1
  obtain ⟨t1, t2⟩ := take_while (fun y => decide (y < x)) l
  have hle : (l.takeWhile (fun y => decide (y < x))).length ≤ l.length := (List.takeWhile_prefix _).length_le
  have hloop := radd_loop (callW CT) base H v l x hrd hw (by omega) l 0 rfl (Nat.zero_le _)
  rw [cast0, Nat.zero_add] at hloop
  obtain ⟨n, hn'⟩ : ∃ n, (l.takeWhile (fun y => decide (y < x))).length = n := ⟨_, rfl⟩
  rw [hn'] at t1 t2 hle hloop
  have hm : (l.map iV).length = l.length := List.length_map ..
  obtain ⟨w1, q1, q2, q3⟩ := hrd.slice hw (lo := none) (hi := some (.s (.int .i64 n))) (a := 0) (b := n) rfl rfl (Nat.zero_le _) (by omega)
  have q2 : Rd H w1 ((l.take n).map iV) := by simpa using q2
  obtain ⟨v1, H1, e1, x1, k1, k1'⟩ := (LiS.nil H.length H).append (base := base) (bytes := 8) hb (Nat.le_refl _) (l2 := l.take n) q2 (by simp; omega)
  rw [List.nil_append] at x1
  simp only [nilS] at e1
  obtain ⟨B, hB⟩ : ∃ B, H1 ++ [Ob.cells 0 [iV x]] = B := ⟨_, rfl⟩
  have kB : KeepD H1.length [] H1 B := ⟨by rw [← hB]; simp, fun id h1 _ => by rw [← hB, List.getElem?_append_left h1]⟩
  have rB : Rd B (.sl H1.length 0 0 1 1) ([x].map iV) := by
    rw [← hB]; exact getC_sl (getC_new H1 0 [iV x])
  have xB := x1.d kB
  obtain ⟨v2, H2, e2, x2, k2, k2'⟩ := xB.append (base := base) (bytes := 8) hb (Nat.le_trans k1 kB.1) rB (by simp; omega)
  have a1 := x1.lt
  have hK : KeepD H.length [] H H2 := ⟨by have := kB.1; omega, fun id hid _ => by
    have hne : ∀ g n, v1 ≠ .sl id g 0 n 1 := fun g n e => by
      rcases x1 with ⟨_, rfl⟩ | ⟨id', g', rfl, _, h⟩
      · cases e
      · cases e; omega
    rw [k2' id (by have := kB.1; omega) hne, kB.2 id (by omega) (by simp), k1' id hid (fun g n e => by cases e)]⟩
  obtain ⟨w3, q4, q5, q6⟩ := (hrd.ext hK.ext).slice hw (lo := some (.s (.int .i64 n))) (hi := none) (a := n) (b := l.length) rfl (by rw [hm]; rfl) hle (by omega)
  have q5 : Rd H2 w3 ((l.drop n).map iV) := by
    rw [List.take_of_length_le (by simp)] at q5
    simpa using q5
  obtain ⟨v3, H3, e3, x3, k3, k3'⟩ := x2.append (base := base) (bytes := 8) hb hK.1 q5 (by simp; omega)
  simp only [iV] at hB
  refine ⟨v3, H3, ?_, ?_, ?_⟩
  · refine callW_fn (c := s_gnomonref01_Add) hT (by simp [s_gnomonref01_Add]) ?_
    simp only [s_gnomonref01_Add, a_gnomonref01_Add,s_gnomonref01_Add_l0_b, am0,am1,am2,am3,am4,am5,am6,am7,bl,i64,reduceIte,reduceCtorEq,Nat.reduceEqDiff,Nat.reduceLT,Nat.reduceLeDiff,Nat.reduceBEq,Nat.reduceAdd,fillA,splice,Nat.reduceMul,al0,al1,al2,al3,al4,al5,al6,al7,al8,al9,al10,al11,al12,al13,al14,al15,al16,al17,al18,al19,al20,al21,al22,al23,al24,al25,al26,al27,al28,al29,al30,al31,al32,al33,al34,amY,op_eqP, h0, hh, h1', hloop, q1, e1, hB, e2, q4, e3]
    done
  · have := x3.mono (Nat.zero_le _)
    rw [addL, if_neg (by rintro (h | h) <;> contradiction), ← t1, ← t2]
    exact this
  · refine ⟨by have := hK.1; omega, fun id hid _ => ?_⟩
    have hne : ∀ g n, v2 ≠ .sl id g 0 n 1 := fun g n e => by
      rcases x2 with ⟨_, rfl⟩ | ⟨id', g', rfl, _, h⟩
      · cases e
      · cases e; omega
    rw [k3' id (by have := hK.1; omega) hne, hK.2 id hid (by simp)]
end Go.Proofs.YtccallbknpbggaaDoor
set_option maxRecDepth 100000
namespace Go.Proofs.YtccallbknpbggaaDoor
open Go.AM
theorem addL_len (l : List Int) (x : Int) : (addL l x).length ≤ l.length + 1 := by
  unfold addL
  split
  · omega
  · have h := congrArg List.length (List.takeWhile_append_dropWhile (p := fun y => decide (y < x)) (l := l))
    rw [List.length_append] at h
    simp only [List.length_append, List.length_singleton]
    omega
theorem rof_loop {CT : Nat → Option CFun} (hA : CT k_gnomonref01_Add = some (.code s_gnomonref01_Add)) (hH : CT k_gnomonref01_Has = some (.code s_gnomonref01_Has)) (base : Nat) {H0 : Heap} {v : V} {l : List Int} (hv : ∀ H, KeepD H0.length [] H0 H → Rd H v (l.map iV)) (hw : Wide1 v) (hb : base ≤ H0.length) (hl : l.length < 2 ^ 40) :
    ∀ (r : List Int) (k : Nat) (H : Heap) (w : V) (out : List Int), l.drop k = r → k ≤ l.length → KeepD H0.length [] H0 H → LiS 0 H w out → out.length + r.length < 2 ^ 40 →
    ∃ w' H', itW (evC (callW CT) itW base s_gnomonref01_Of_l0) [] H0.length (frOf 18 [(0, v), (3, w), (4, .s (.int .i64 k))]) H = some (.ext 0, frOf 18 [(0, v), (3, w'), (4, .s (.int .i64 l.length)), (8, .s (.bool false))], H') ∧ LiS 0 H' w' (r.foldl addL out) ∧ KeepD H0.length [] H0 H' := by
  intro r
  induction r with
  | nil =>
    intro k H w out hd hk hK hwl hs
    obtain rfl := drop_nil hd hk
    rw [itW_step]
    simp only [a_gnomonref01_Of,s_gnomonref01_Of_l0_b, am0,am1,am2,am3,am4,am5,am6,am7,bl,i64,reduceIte,reduceCtorEq,Nat.reduceEqDiff,Nat.reduceLT,Nat.reduceLeDiff,Nat.reduceBEq,Nat.reduceAdd,fillA,splice,Nat.reduceMul,al0,al1,al2,al3,al4,al5,al6,al7,al8,al9,al10,al11,al12,al13,al14,al15,al16,al17,al18,al19,al20,al21,al22,al23,al24,al25,al26,al27,al28,al29,al30,al31,al32,al33,al34,amY,op_eqP, iV_len (hv H hK), Int.lt_irrefl]
    exact ⟨w, _, rfl, hwl.trim_fr _ (frOf_mem (s := 3) (by decide) rfl), hK.trim (Nat.le_refl _) _⟩
  | cons y r ih =>
    intro k H w out hd hk hK hwl hs
    obtain ⟨hx, hlt, hd'⟩ := drop_cons hd
    obtain ⟨a, ha1, ha2⟩ := iV_at (hv H hK) hw hx
    have hlt' : (k : Int) < (l.length : Int) := by omega
    have hwk := wrap_pos (n := k) (by omega)
    have hHl := hK.1
    rw [List.length_cons] at hs
    obtain ⟨w1, H1, e1, x1, k1⟩ := radd_fun hA hH base y hwl (by omega) (by omega)
    have hK1 := hK.trans k1 hHl
    obtain ⟨w2, H2, e2, x2, k2⟩ := ih (k + 1) (trim H0.length (frOf 18 [(0, v), (3, w1), (4, .s (.int .i64 (k + 1 : Nat)))]) H1) w1 (addL out y) hd' (by omega) (hK1.trim (Nat.le_refl _) _) (x1.trim_fr _ (frOf_mem (s := 3) (by decide) rfl)) (by have := addL_len out y; omega)
    refine ⟨w2, H2, ?_, x2, k2⟩
    rw [itW_step]
    simp only [a_gnomonref01_Of,s_gnomonref01_Of_l0_b, am0,am1,am2,am3,am4,am5,am6,am7,bl,i64,reduceIte,reduceCtorEq,Nat.reduceEqDiff,Nat.reduceLT,Nat.reduceLeDiff,Nat.reduceBEq,Nat.reduceAdd,fillA,splice,Nat.reduceMul,al0,al1,al2,al3,al4,al5,al6,al7,al8,al9,al10,al11,al12,al13,al14,al15,al16,al17,al18,al19,al20,al21,al22,al23,al24,al25,al26,al27,al28,al29,al30,al31,al32,al33,al34,amY,op_eqP, iV_len (hv H hK), hlt', ha1, ha2, hwk, e1]
    exact e2
theorem rof_fun {CT : Nat → Option CFun} (hT : CT k_gnomonref01_Of = some (.code s_gnomonref01_Of)) (hA : CT k_gnomonref01_Add = some (.code s_gnomonref01_Add)) (hH : CT k_gnomonref01_Has = some (.code s_gnomonref01_Has)) (base : Nat) {H : Heap} {v : V} {l : List Int} (hv : Rd H v (l.map iV)) (hw : Wide1 v) (hl : l.length < 2 ^ 40) (hb : base ≤ H.length) :
    ∃ v' H', callW CT (.fn k_gnomonref01_Of [] []) [v] base H = some (v', H') ∧ LiS 0 H' v' (l.foldl addL []) ∧ KeepD H.length [] H H' := by
  obtain ⟨w', H', e, x, k⟩ := rof_loop hA hH base (H0 := H) (fun H' hk => hv.ext hk.ext) hw hb hl l 0 H nilS [] rfl (Nat.zero_le _) (KeepD.refl _ _) (LiS.nil _ _) (by simpa using hl)
  rw [cast0] at e
  simp only [nilS] at e
  refine ⟨w', H', ?_, x, k⟩
  refine callW_fn (c := s_gnomonref01_Of) hT (by simp [s_gnomonref01_Of]) ?_
  simp only [s_gnomonref01_Of, a_gnomonref01_Of,s_gnomonref01_Of_l0_b, am0,am1,am2,am3,am4,am5,am6,am7,bl,i64,reduceIte,reduceCtorEq,Nat.reduceEqDiff,Nat.reduceLT,Nat.reduceLeDiff,Nat.reduceBEq,Nat.reduceAdd,fillA,splice,Nat.reduceMul,al0,al1,al2,al3,al4,al5,al6,al7,al8,al9,al10,al11,al12,al13,al14,al15,al16,al17,al18,al19,al20,al21,al22,al23,al24,al25,al26,al27,al28,al29,al30,al31,al32,al33,al34,amY,op_eqP, e]
  done
theorem runi_loop {CT : Nat → Option CFun} (hA : CT k_gnomonref01_Add = some (.code s_gnomonref01_Add)) (hH : CT k_gnomonref01_Has = some (.code s_gnomonref01_Has)) (base : Nat) {H0 : Heap} {v : V} {l : List Int} (hv : ∀ H, KeepD H0.length [] H0 H → Rd H v (l.map iV)) (hw : Wide1 v) (hb : base ≤ H0.length) (hl : l.length < 2 ^ 40) :
    ∀ (r : List Int) (k : Nat) (H : Heap) (w : V) (out : List Int), l.drop k = r → k ≤ l.length → KeepD H0.length [] H0 H → LiS 0 H w out → out.length + r.length < 2 ^ 40 →
    ∃ w' H', itW (evC (callW CT) itW base s_gnomonref01_Union_l0) [] H0.length (frOf 19 [(0, w), (1, v), (5, .s (.int .i64 k))]) H = some (.ext 0, frOf 19 [(0, w'), (1, v), (5, .s (.int .i64 l.length)), (9, .s (.bool false))], H') ∧ LiS 0 H' w' (r.foldl addL out) ∧ KeepD H0.length [] H0 H' := by
  intro r
  induction r with
  | nil =>
    intro k H w out hd hk hK hwl hs
    obtain rfl := drop_nil hd hk
    rw [itW_step]
    simp only [a_gnomonref01_Union,s_gnomonref01_Union_l0_b, am0,am1,am2,am3,am4,am5,am6,am7,bl,i64,reduceIte,reduceCtorEq,Nat.reduceEqDiff,Nat.reduceLT,Nat.reduceLeDiff,Nat.reduceBEq,Nat.reduceAdd,fillA,splice,Nat.reduceMul,al0,al1,al2,al3,al4,al5,al6,al7,al8,al9,al10,al11,al12,al13,al14,al15,al16,al17,al18,al19,al20,al21,al22,al23,al24,al25,al26,al27,al28,al29,al30,al31,al32,al33,al34,amY,op_eqP, iV_len (hv H hK), Int.lt_irrefl]
    exact ⟨w, _, rfl, hwl.trim_fr _ (frOf_mem (s := 0) (by decide) rfl), hK.trim (Nat.le_refl _) _⟩
  | cons y r ih =>
    intro k H w out hd hk hK hwl hs
    obtain ⟨hx, hlt, hd'⟩ := drop_cons hd
    obtain ⟨a, ha1, ha2⟩ := iV_at (hv H hK) hw hx
    have hlt' : (k : Int) < (l.length : Int) := by omega
    have hwk := wrap_pos (n := k) (by omega)
    have hHl := hK.1
    rw [List.length_cons] at hs
    obtain ⟨w1, H1, e1, x1, k1⟩ := radd_fun hA hH base y hwl (by omega) (by omega)
    have hK1 := hK.trans k1 hHl
    obtain ⟨w2, H2, e2, x2, k2⟩ := ih (k + 1) (trim H0.length (frOf 19 [(0, w1), (1, v), (5, .s (.int .i64 (k + 1 : Nat)))]) H1) w1 (addL out y) hd' (by omega) (hK1.trim (Nat.le_refl _) _) (x1.trim_fr _ (frOf_mem (s := 0) (by decide) rfl)) (by have := addL_len out y; omega)
    refine ⟨w2, H2, ?_, x2, k2⟩
    rw [itW_step]
    simp only [a_gnomonref01_Union,s_gnomonref01_Union_l0_b, am0,am1,am2,am3,am4,am5,am6,am7,bl,i64,reduceIte,reduceCtorEq,Nat.reduceEqDiff,Nat.reduceLT,Nat.reduceLeDiff,Nat.reduceBEq,Nat.reduceAdd,fillA,splice,Nat.reduceMul,al0,al1,al2,al3,al4,al5,al6,al7,al8,al9,al10,al11,al12,al13,al14,al15,al16,al17,al18,al19,al20,al21,al22,al23,al24,al25,al26,al27,al28,al29,al30,al31,al32,al33,al34,amY,op_eqP, iV_len (hv H hK), hlt', ha1, ha2, hwk, e1]
    exact e2
theorem runi_fun {CT : Nat → Option CFun} (hT : CT k_gnomonref01_Union = some (.code s_gnomonref01_Union)) (hA : CT k_gnomonref01_Add = some (.code s_gnomonref01_Add)) (hH : CT k_gnomonref01_Has = some (.code s_gnomonref01_Has)) (base : Nat) {H : Heap} {a v : V} {la l : List Int} (ha : LiS 0 H a la) (hv : Rd H v (l.map iV)) (hw : Wide1 v) (hl : la.length + l.length < 2 ^ 40) (hb : base ≤ H.length) :
    ∃ v' H', callW CT (.fn k_gnomonref01_Union [] []) [a, v] base H = some (v', H') ∧ LiS 0 H' v' (l.foldl addL la) ∧ KeepD H.length [] H H' := by
  obtain ⟨w', H', e, x, k⟩ := runi_loop hA hH base (H0 := H) (fun H' hk => hv.ext hk.ext) hw hb (by omega) l 0 H a la rfl (Nat.zero_le _) (KeepD.refl _ _) ha hl
  rw [cast0] at e
  refine ⟨w', H', ?_, x, k⟩
  refine callW_fn (c := s_gnomonref01_Union) hT (by simp [s_gnomonref01_Union]) ?_
  simp only [s_gnomonref01_Union, a_gnomonref01_Union,s_gnomonref01_Union_l0_b, am0,am1,am2,am3,am4,am5,am6,am7,bl,i64,reduceIte,reduceCtorEq,Nat.reduceEqDiff,Nat.reduceLT,Nat.reduceLeDiff,Nat.reduceBEq,Nat.reduceAdd,fillA,splice,Nat.reduceMul,al0,al1,al2,al3,al4,al5,al6,al7,al8,al9,al10,al11,al12,al13,al14,al15,al16,al17,al18,al19,al20,al21,al22,al23,al24,al25,al26,al27,al28,al29,al30,al31,al32,al33,al34,amY,op_eqP, e]
  done
def pickI (b : List Int) (q : Bool) (l : List Int) : List Int := l.filter fun x => b.contains x == q
theorem rpick_loop {CT : Nat → Option CFun} (hH : CT k_gnomonref01_Has = some (.code s_gnomonref01_Has)) (base : Nat) {H0 : Heap} {v vb : V} {l lb : List Int} (q : Bool) (hv : ∀ H, KeepD H0.length [] H0 H → Rd H v (l.map iV)) (hw : Wide1 v) (hvb : ∀ H, KeepD H0.length [] H0 H → Rd H vb (lb.map iV)) (hwb : Wide1 vb) (hb : base ≤ H0.length) (hl : l.length < 2 ^ 40) (hlb : lb.length < 2 ^ 40) :
    ∀ (r : List Int) (k : Nat) (H : Heap) (w : V) (out : List Int), l.drop k = r → k ≤ l.length → KeepD H0.length [] H0 H → LiS H0.length H w out → out.length + r.length < 2 ^ 40 →
    ∃ w' H', itW (evC (callW CT) itW base s_gnomonref01_Pick_l0) [] H0.length (frOf 31 [(0, v), (1, vb), (2, .s (.bool q)), (7, w), (8, .s (.int .i64 k))]) H = some (.ext 0, frOf 31 [(0, v), (1, vb), (2, .s (.bool q)), (7, w'), (8, .s (.int .i64 l.length)), (12, .s (.bool false))], H') ∧ LiS H0.length H' w' (out ++ pickI lb q r) ∧ KeepD H0.length [] H0 H' := by
  intro r
  induction r with
  | nil =>
    intro k H w out hd hk hK hwl hs
    obtain rfl := drop_nil hd hk
    rw [itW_step]
    simp only [a_gnomonref01_Pick,s_gnomonref01_Pick_l0_b, am0,am1,am2,am3,am4,am5,am6,am7,bl,i64,reduceIte,reduceCtorEq,Nat.reduceEqDiff,Nat.reduceLT,Nat.reduceLeDiff,Nat.reduceBEq,Nat.reduceAdd,fillA,splice,Nat.reduceMul,al0,al1,al2,al3,al4,al5,al6,al7,al8,al9,al10,al11,al12,al13,al14,al15,al16,al17,al18,al19,al20,al21,al22,al23,al24,al25,al26,al27,al28,al29,al30,al31,al32,al33,al34,amY,op_eqP, iV_len (hv H hK), Int.lt_irrefl]
    exact ⟨w, _, rfl, by simpa [pickI] using hwl.trim_fr _ (frOf_mem (s := 7) (by decide) rfl), hK.trim (Nat.le_refl _) _⟩
  | cons y r ih =>
    intro k H w out hd hk hK hwl hs
    obtain ⟨hx, hlt, hd'⟩ := drop_cons hd
    obtain ⟨a, ha1, ha2⟩ := iV_at (hv H hK) hw hx
    have hlt' : (k : Int) < (l.length : Int) := by omega
    have hwk := wrap_pos (n := k) (by omega)
    have hHl := hK.1
    rw [List.length_cons] at hs
    have eh := fun base => rhas_fun hH base H vb lb y (hvb H hK) hwb (by omega)
    cases hq : lb.contains y == q with
    | false =>
      have hp : pickI lb q (y :: r) = pickI lb q r := by rw [pickI, List.filter_cons, hq]; rfl
      obtain ⟨w2, H2, e2, x2, k2⟩ := ih (k + 1) (trim H0.length (frOf 31 [(0, v), (1, vb), (2, .s (.bool q)), (7, w), (8, .s (.int .i64 (k + 1 : Nat)))]) H) w out hd' (by omega) (hK.trim (Nat.le_refl _) _) (hwl.trim_fr _ (frOf_mem (s := 7) (by decide) rfl)) (by omega)
      refine ⟨w2, H2, ?_, by rw [hp]; exact x2, k2⟩
      rw [itW_step]
      simp only [a_gnomonref01_Pick,s_gnomonref01_Pick_l0_b, am0,am1,am2,am3,am4,am5,am6,am7,bl,i64,reduceIte,reduceCtorEq,Nat.reduceEqDiff,Nat.reduceLT,Nat.reduceLeDiff,Nat.reduceBEq,Nat.reduceAdd,fillA,splice,Nat.reduceMul,al0,al1,al2,al3,al4,al5,al6,al7,al8,al9,al10,al11,al12,al13,al14,al15,al16,al17,al18,al19,al20,al21,al22,al23,al24,al25,al26,al27,al28,al29,al30,al31,al32,al33,al34,amY,op_eqP, iV_len (hv H hK), hlt', ha1, ha2, hwk, eh, hq]
      exact e2
    | true =>
      have hp : out ++ pickI lb q (y :: r) = (out ++ [y]) ++ pickI lb q r := by rw [pickI, List.filter_cons, hq]; simp [pickI]
      obtain ⟨B, hB⟩ : ∃ B, H ++ [Ob.cells 0 [iV y]] = B := ⟨_, rfl⟩
      have kB : KeepD H.length [] H B := ⟨by rw [← hB]; simp, fun id h1 _ => by rw [← hB, List.getElem?_append_left h1]⟩
      have rB : Rd B (.sl H.length 0 0 1 1) ([y].map iV) := by rw [← hB]; exact getC_sl (getC_new H 0 [iV y])
      obtain ⟨w1, H1, e1, x1, k1, k1'⟩ := (hwl.d kB).append (base := base) (bytes := 8) hb (Nat.le_trans hHl kB.1) rB (by simp; omega)
      have hKB := hK.trans kB hHl
      have hK1 : KeepD H0.length [] H0 H1 := ⟨by have := kB.1; omega, fun id hid _ => by
        have hne : ∀ g n, w ≠ .sl id g 0 n 1 := fun g n e => by
          rcases hwl with ⟨_, rfl⟩ | ⟨id', g', rfl, _, h⟩
          · cases e
          · cases e; omega
        rw [k1' id (by have := kB.1; omega) hne, hKB.2 id hid (by simp)]⟩
      simp only [iV] at hB
      obtain ⟨w2, H2, e2, x2, k2⟩ := ih (k + 1) (trim H0.length (frOf 31 [(0, v), (1, vb), (2, .s (.bool q)), (7, w1), (8, .s (.int .i64 (k + 1 : Nat)))]) H1) w1 (out ++ [y]) hd' (by omega) (hK1.trim (Nat.le_refl _) _) (x1.trim_fr _ (frOf_mem (s := 7) (by decide) rfl)) (by simp; omega)
      refine ⟨w2, H2, ?_, by rw [hp]; exact x2, k2⟩
      rw [itW_step]
      simp only [a_gnomonref01_Pick,s_gnomonref01_Pick_l0_b, am0,am1,am2,am3,am4,am5,am6,am7,bl,i64,reduceIte,reduceCtorEq,Nat.reduceEqDiff,Nat.reduceLT,Nat.reduceLeDiff,Nat.reduceBEq,Nat.reduceAdd,fillA,splice,Nat.reduceMul,al0,al1,al2,al3,al4,al5,al6,al7,al8,al9,al10,al11,al12,al13,al14,al15,al16,al17,al18,al19,al20,al21,al22,al23,al24,al25,al26,al27,al28,al29,al30,al31,al32,al33,al34,amY,op_eqP, iV_len (hv H hK), hlt', ha1, ha2, hwk, eh, hq, hB, e1]
      exact e2
theorem rpick_fun {CT : Nat → Option CFun} (hT : CT k_gnomonref01_Pick = some (.code s_gnomonref01_Pick)) (hH : CT k_gnomonref01_Has = some (.code s_gnomonref01_Has)) (base : Nat) {H : Heap} {a v : V} {la l : List Int} (q : Bool) (ha : Rd H a (la.map iV)) (hwa : Wide1 a) (hv : Rd H v (l.map iV)) (hw : Wide1 v) (hla : la.length < 2 ^ 40) (hl : l.length < 2 ^ 40) (hb : base ≤ H.length) :
    ∃ v' H', callW CT (.fn k_gnomonref01_Pick [] []) [a, v, .s (.bool q)] base H = some (v', H') ∧ LiS H.length H' v' (pickI l q la) ∧ KeepD H.length [] H H' := by
  obtain ⟨w', H', e, x, k⟩ := rpick_loop hH base (H0 := H) q (fun H' hk => ha.ext hk.ext) hwa (fun H' hk => hv.ext hk.ext) hw hb hla hl la 0 H nilS [] rfl (Nat.zero_le _) (KeepD.refl _ _) (LiS.nil _ _) (by simpa using hla)
  rw [cast0] at e
  simp only [nilS] at e
  refine ⟨w', H', ?_, by simpa using x, k⟩
  refine callW_fn (c := s_gnomonref01_Pick) hT (by simp [s_gnomonref01_Pick]) ?_
  simp only [s_gnomonref01_Pick, a_gnomonref01_Pick,s_gnomonref01_Pick_l0_b, am0,am1,am2,am3,am4,am5,am6,am7,bl,i64,reduceIte,reduceCtorEq,Nat.reduceEqDiff,Nat.reduceLT,Nat.reduceLeDiff,Nat.reduceBEq,Nat.reduceAdd,fillA,splice,Nat.reduceMul,al0,al1,al2,al3,al4,al5,al6,al7,al8,al9,al10,al11,al12,al13,al14,al15,al16,al17,al18,al19,al20,al21,al22,al23,al24,al25,al26,al27,al28,al29,al30,al31,al32,al33,al34,amY,op_eqP, e]
  done
theorem mem_addL {l : List Int} {x y : Int} : y ∈ addL l x ↔ y ∈ l ∨ (y = x ∧ 0 ≤ x) := by
  unfold addL
  split
  · rename_i h
    constructor
    · exact .inl
    · rintro (h1 | ⟨rfl, h1⟩)
      · exact h1
      · rcases h with h | h
        · omega
        · simpa using h
  · rename_i h
    have h0 : 0 ≤ x := by omega
    have e := List.takeWhile_append_dropWhile (p := fun y => decide (y < x)) (l := l)
    simp only [List.mem_append, List.mem_singleton]
    constructor
    · rintro ((h1 | h1) | h1)
      · left; rw [← e]; exact List.mem_append_left _ h1
      · exact .inr ⟨h1, h0⟩
      · left; rw [← e]; exact List.mem_append_right _ h1
    · rintro (h1 | ⟨h1, _⟩)
      · rw [← e, List.mem_append] at h1
        rcases h1 with h1 | h1
        · exact .inl (.inl h1)
        · exact .inr h1
      · exact .inl (.inr h1)
theorem dropWhile_ge {x : Int} : ∀ {l : List Int}, l.Pairwise (· < ·) → ∀ y ∈ l.dropWhile (fun y => decide (y < x)), x ≤ y := by
  intro l
  induction l with
  | nil => intro _ y h; simp at h
  | cons z l ih =>
    intro hp y h
    rw [List.pairwise_cons] at hp
    rw [List.dropWhile_cons] at h
    split at h
    · exact ih hp.2 y h
    · rename_i hz
      simp only [decide_eq_true_eq] at hz
      rcases List.mem_cons.1 h with rfl | h
      · omega
      · have := hp.1 y h; omega
theorem mem_takeWhile_lt {x : Int} : ∀ {l : List Int}, ∀ y ∈ l.takeWhile (fun y => decide (y < x)), y < x := by
  intro l
  induction l with
  | nil => intro y h; simp at h
  | cons z l ih =>
    intro y h
    rw [List.takeWhile_cons] at h
    split at h
    · rename_i hz
      rcases List.mem_cons.1 h with rfl | h
      · simpa using hz
      · exact ih y h
    · cases h
theorem addL_lt {l : List Int} (h : l.Pairwise (· < ·)) (x : Int) : (addL l x).Pairwise (· < ·) := by
  unfold addL
  split
  · exact h
  · rename_i hx
    have hx' : x ∉ l := fun hm => hx (.inr (by simpa using hm))
    have e := List.takeWhile_append_dropWhile (p := fun y => decide (y < x)) (l := l)
    have h2 := h
    rw [← e, List.pairwise_append] at h2
    have hd : ∀ y ∈ l.dropWhile (fun y => decide (y < x)), x < y := fun y hy => by
      have h3 := dropWhile_ge h y hy
      have h4 : y ∈ l := by rw [← e]; exact List.mem_append_right _ hy
      have : y ≠ x := fun e => hx' (e ▸ h4)
      omega
    rw [List.append_assoc, List.pairwise_append]
    refine ⟨h2.1, ?_, ?_⟩
    · rw [List.singleton_append, List.pairwise_cons]
      exact ⟨hd, h2.2.1⟩
    · intro a ha b hb
      rw [List.singleton_append, List.mem_cons] at hb
      have := mem_takeWhile_lt a ha
      rcases hb with rfl | hb
      · exact this
      · have := hd b hb; omega
theorem foldL_lt : ∀ {r : List Int} {l : List Int}, l.Pairwise (· < ·) → (r.foldl addL l).Pairwise (· < ·) := by
  intro r
  induction r with
  | nil => intro l h; exact h
  | cons x r ih => intro l h; exact ih (addL_lt h x)
theorem mem_foldL : ∀ {r : List Int} {l : List Int} {y : Int}, y ∈ r.foldl addL l ↔ y ∈ l ∨ (y ∈ r ∧ 0 ≤ y) := by
  intro r
  induction r with
  | nil => intro l y; simp
  | cons x r ih =>
    intro l y
    rw [List.foldl_cons, ih, mem_addL, List.mem_cons]
    constructor
    · rintro ((h | ⟨rfl, h⟩) | ⟨h, h'⟩)
      · exact .inl h
      · exact .inr ⟨.inl rfl, h⟩
      · exact .inr ⟨.inr h, h'⟩
    · rintro (h | ⟨rfl | h, h'⟩)
      · exact .inl (.inl h)
      · exact .inl (.inr ⟨rfl, h'⟩)
      · exact .inr ⟨h, h'⟩
theorem pickI_lt {b : List Int} {q : Bool} {l : List Int} (h : l.Pairwise (· < ·)) : (pickI b q l).Pairwise (· < ·) := h.sublist List.filter_sublist
theorem mem_pickI {b : List Int} {q : Bool} {l : List Int} {y : Int} : y ∈ pickI b q l ↔ y ∈ l ∧ (b.contains y = q) := by
  rw [pickI, List.mem_filter, beq_iff_eq]
end Go.Proofs.YtccallbknpbggaaDoor
