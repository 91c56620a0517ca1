/- Texts of the proof: BitsS3, BitsL3. -/
import Derived.Test.YtccallbknpbggaaDoorP0
import Derived.Test.YtccallbknpbggaaDoorP1
import Derived.Test.YtccallbknpbggaaDoorP2
import Derived.Test.YtccallbknpbggaaDoorP3
import Derived.Test.YtccallbknpbggaaDoorP4
set_option linter.all false
set_option maxRecDepth 100000
namespace Go.Proofs.YtccallbknpbggaaDoor
open Go.AM
abbrev k_gnomonlaw01_BitsAlgebra : Nat := 7
def s_gnomonlaw01_BitsAlgebra_r0_k : List Nat := [3, 4, 5, 6, 7, 8, 9, 10, 11, 12, 13, 14, 15, 16, 17, 18, 19, 20, 21, 22, 23, 24, 25, 26, 27, 28, 29, 30, 31, 32, 33, 34, 35, 36, 37, 38, 39, 40, 41, 42, 43, 44, 45, 46, 47, 48, 49, 50, 51, 52, 53, 54, 55, 56, 57, 58, 59, 60, 61, 62, 63, 64, 65, 66, 67, 68, 69, 70, 71, 72, 73, 74, 75, 76, 77, 78, 79, 80, 81, 82, 83, 84, 85, 86, 87, 88, 89, 90, 91, 92, 93, 94, 95, 96, 97, 98, 99, 100, 101, 102, 103, 104, 105, 106, 107, 108, 109, 110]
theorem s_gnomonlaw01_BitsAlgebra_r0_kT : killV s_gnomonlaw01_BitsAlgebra_r0_k (startV 111 [] 3) = [] := by kernel_rfl
theorem s_gnomonlaw01_BitsAlgebra_r0_kA0 : s_gnomonlaw01_BitsAlgebra_r0_k.contains 0 = false := by kernel_rfl
theorem s_gnomonlaw01_BitsAlgebra_r0_kA1 : s_gnomonlaw01_BitsAlgebra_r0_k.contains 1 = false := by kernel_rfl
theorem s_gnomonlaw01_BitsAlgebra_r0_kA2 : s_gnomonlaw01_BitsAlgebra_r0_k.contains 2 = false := by kernel_rfl
def s_gnomonlaw01_BitsAlgebra_r0 : List AOper := [
  ⟨some 6, (.move (.c (.s (.bool false)))), none⟩]
theorem s_gnomonlaw01_BitsAlgebra_r0_tale (fr : List V) (H : Heap) : evTale (symAll s_gnomonlaw01_BitsAlgebra_r0 s_gnomonlaw01_BitsAlgebra_r0_k []) s_gnomonlaw01_BitsAlgebra_r0_k fr H = evTale (some (7, [], [])) s_gnomonlaw01_BitsAlgebra_r0_k fr H := tale_row (items := [.cc (.s (.bool false))]) (by kernel_rfl) fr H
def s_gnomonlaw01_BitsAlgebra_r1 : List AOper := [
  ⟨some 14, (.move (.t 0)), none⟩,
  ⟨some 15, (.lenS .s (.t 14)), none⟩,
  ⟨some 16, (.bin .gtr (.t 15) (.c (.s (.int .i64 1000)))), none⟩,
  ⟨some 17, (.move (.t 16)), none⟩,
  ⟨some 18, (.move (.t 1)), some (17, false)⟩,
  ⟨some 19, (.lenS .s (.t 18)), some (17, false)⟩,
  ⟨some 20, (.bin .gtr (.t 19) (.c (.s (.int .i64 1000)))), some (17, false)⟩,
  ⟨some 21, (.pick (.t 17) (.c (.s (.bool true))) (.t 20)), none⟩,
  ⟨some 22, (.move (.t 21)), none⟩,
  ⟨some 23, (.move (.t 2)), some (22, false)⟩,
  ⟨some 24, (.lenS .s (.t 23)), some (22, false)⟩,
  ⟨some 25, (.bin .gtr (.t 24) (.c (.s (.int .i64 1000)))), some (22, false)⟩,
  ⟨some 26, (.pick (.t 22) (.c (.s (.bool true))) (.t 25)), none⟩]
theorem s_gnomonlaw01_BitsAlgebra_r1_tale (fr : List V) (H : Heap) : evTale (symAll s_gnomonlaw01_BitsAlgebra_r1 [14, 15, 16, 17, 18, 19, 20, 21, 22, 23, 24, 25] [26]) [14, 15, 16, 17, 18, 19, 20, 21, 22, 23, 24, 25] fr H = evTale (some (27, [], [(26, (.pick (.pick (.op (.bin .gtr (.t 0) (.c (.s (.int .i64 1000)))) [(.op (.lenS .s (.t 0)) [(.t 0)]), (.c (.s (.int .i64 1000)))]) (.c (.s (.bool true))) (.op (.bin .gtr (.t 0) (.c (.s (.int .i64 1000)))) [(.op (.lenS .s (.t 0)) [(.t 1)]), (.c (.s (.int .i64 1000)))])) (.c (.s (.bool true))) (.op (.bin .gtr (.t 0) (.c (.s (.int .i64 1000)))) [(.op (.lenS .s (.t 0)) [(.t 2)]), (.c (.s (.int .i64 1000)))])))])) [14, 15, 16, 17, 18, 19, 20, 21, 22, 23, 24, 25] fr H := tale_row (items := [.tt 0, .sub 0 [0, 0, 0] [], .sub 0 [0, 0] [], .sub 0 [0, 0] [], .sub 0 [0, 2, 0, 0] [17], .sub 0 [0, 2, 0] [17], .sub 0 [0, 2] [17], .sub 0 [0] [], .sub 0 [0] [], .sub 0 [2, 0, 0] [22], .sub 0 [2, 0] [22], .sub 0 [2] [22], .sub 0 [] []]) (by kernel_rfl) fr H
def s_gnomonlaw01_BitsAlgebra_r2t1 : List AOper := [⟨some 6, (.move (.t 27)), none⟩]
def s_gnomonlaw01_BitsAlgebra_r2p0 : List AOper := [⟨some 27, (.call (.c (.fn 10 [] [])) []), none⟩]
def s_gnomonlaw01_BitsAlgebra_r2 : List AOper := s_gnomonlaw01_BitsAlgebra_r2p0 ++ s_gnomonlaw01_BitsAlgebra_r2t1
theorem s_gnomonlaw01_BitsAlgebra_r2_x (call : CallF) (it : IterF) (base : Nat) (f : List V) (H : Heap) : evC call it base (.region s_gnomonlaw01_BitsAlgebra_r2 [] [0, 1, 2, 26, 27]) f H = thenC call it base (.region s_gnomonlaw01_BitsAlgebra_r2t1 [] [0, 1, 2, 26, 27]) (opsC [] s_gnomonlaw01_BitsAlgebra_r2p0 [0, 1, 2, 26] (evOps call base [⟨some 27, (.call (.c (.fn 10 [] [])) []), none⟩] f H)) := (row_op call it base s_gnomonlaw01_BitsAlgebra_r2p0 s_gnomonlaw01_BitsAlgebra_r2t1 (kc := [0, 1, 2, 26]) (by kernel_rfl) f H).trans (by rw [row_ops]; rfl)
theorem s_gnomonlaw01_BitsAlgebra_r2t1_tale (fr : List V) (H : Heap) : evTale (symAll s_gnomonlaw01_BitsAlgebra_r2t1 [0, 1, 2, 26, 27] [6]) [0, 1, 2, 26, 27] fr H = evTale (some (7, [], [(6, (.t 27))])) [0, 1, 2, 26, 27] fr H := tale_row (items := [.tt 27]) (by kernel_rfl) fr H
theorem s_gnomonlaw01_BitsAlgebra_r2t1_x (call : CallF) (it : IterF) (base : Nat) (f : List V) (H : Heap) : evC call it base (.region s_gnomonlaw01_BitsAlgebra_r2t1 [] [0, 1, 2, 26, 27]) f H = segL H (evTale (symAll s_gnomonlaw01_BitsAlgebra_r2t1 [0, 1, 2, 26, 27] [6]) [0, 1, 2, 26, 27] f H) (origRow call it base s_gnomonlaw01_BitsAlgebra_r2t1 [0, 1, 2, 26, 27] f H) := row_last call it base _ f H
def s_gnomonlaw01_BitsAlgebra_r3t6 : List AOper := [⟨some 7, (.move (.t 29)), none⟩, ⟨some 8, (.move (.t 31)), none⟩, ⟨some 9, (.move (.t 33)), none⟩]
def s_gnomonlaw01_BitsAlgebra_r3p5 : List AOper := [⟨some 33, (.call (.c (.fn 11 [] [])) [(.t 32)]), none⟩]
def s_gnomonlaw01_BitsAlgebra_r3t5 : List AOper := s_gnomonlaw01_BitsAlgebra_r3p5 ++ s_gnomonlaw01_BitsAlgebra_r3t6
def s_gnomonlaw01_BitsAlgebra_r3p4 : List AOper := [⟨some 32, (.move (.t 2)), none⟩]
def s_gnomonlaw01_BitsAlgebra_r3t4 : List AOper := s_gnomonlaw01_BitsAlgebra_r3p4 ++ s_gnomonlaw01_BitsAlgebra_r3t5
def s_gnomonlaw01_BitsAlgebra_r3p3 : List AOper := [⟨some 31, (.call (.c (.fn 11 [] [])) [(.t 30)]), none⟩]
def s_gnomonlaw01_BitsAlgebra_r3t3 : List AOper := s_gnomonlaw01_BitsAlgebra_r3p3 ++ s_gnomonlaw01_BitsAlgebra_r3t4
def s_gnomonlaw01_BitsAlgebra_r3p2 : List AOper := [⟨some 30, (.move (.t 1)), none⟩]
def s_gnomonlaw01_BitsAlgebra_r3t2 : List AOper := s_gnomonlaw01_BitsAlgebra_r3p2 ++ s_gnomonlaw01_BitsAlgebra_r3t3
def s_gnomonlaw01_BitsAlgebra_r3p1 : List AOper := [⟨some 29, (.call (.c (.fn 11 [] [])) [(.t 28)]), none⟩]
def s_gnomonlaw01_BitsAlgebra_r3t1 : List AOper := s_gnomonlaw01_BitsAlgebra_r3p1 ++ s_gnomonlaw01_BitsAlgebra_r3t2
def s_gnomonlaw01_BitsAlgebra_r3p0 : List AOper := [⟨some 28, (.move (.t 0)), none⟩]
def s_gnomonlaw01_BitsAlgebra_r3 : List AOper := s_gnomonlaw01_BitsAlgebra_r3p0 ++ s_gnomonlaw01_BitsAlgebra_r3t1
theorem s_gnomonlaw01_BitsAlgebra_r3p0_tale (fr : List V) (H : Heap) : evTale (symAll s_gnomonlaw01_BitsAlgebra_r3p0 [0, 26] [28]) [0, 26] fr H = evTale (some (29, [], [(28, (.t 0))])) [0, 26] fr H := tale_row (items := [.tt 0]) (by kernel_rfl) fr H
theorem s_gnomonlaw01_BitsAlgebra_r3_x (call : CallF) (it : IterF) (base : Nat) (f : List V) (H : Heap) : evC call it base (.region s_gnomonlaw01_BitsAlgebra_r3 [] [0, 1, 2, 26, 28, 29, 30, 31, 32, 33]) f H = segC call it base s_gnomonlaw01_BitsAlgebra_r3t1 [0, 1, 2, 26, 28, 29, 30, 31, 32, 33] H (evTale (symAll s_gnomonlaw01_BitsAlgebra_r3p0 [0, 26] [28]) [0, 26] f H) (origRow call it base s_gnomonlaw01_BitsAlgebra_r3 [0, 1, 2, 26, 28, 29, 30, 31, 32, 33] f H) := row_seg call it base s_gnomonlaw01_BitsAlgebra_r3p0 s_gnomonlaw01_BitsAlgebra_r3t1 (by kernel_rfl) f H
theorem s_gnomonlaw01_BitsAlgebra_r3t1_x (call : CallF) (it : IterF) (base : Nat) (f : List V) (H : Heap) : evC call it base (.region s_gnomonlaw01_BitsAlgebra_r3t1 [] [0, 1, 2, 26, 28, 29, 30, 31, 32, 33]) f H = thenC call it base (.region s_gnomonlaw01_BitsAlgebra_r3t2 [] [0, 1, 2, 26, 28, 29, 30, 31, 32, 33]) (opsC [] s_gnomonlaw01_BitsAlgebra_r3p1 [28] (evOps call base [⟨some 29, (.call (.c (.fn 11 [] [])) [(.t 28)]), none⟩] f H)) := (row_op call it base s_gnomonlaw01_BitsAlgebra_r3p1 s_gnomonlaw01_BitsAlgebra_r3t2 (kc := [28]) (by kernel_rfl) f H).trans (by rw [row_ops]; rfl)
theorem s_gnomonlaw01_BitsAlgebra_r3p2_tale (fr : List V) (H : Heap) : evTale (symAll s_gnomonlaw01_BitsAlgebra_r3p2 [1] [30]) [1] fr H = evTale (some (31, [], [(30, (.t 1))])) [1] fr H := tale_row (items := [.tt 1]) (by kernel_rfl) fr H
theorem s_gnomonlaw01_BitsAlgebra_r3t2_x (call : CallF) (it : IterF) (base : Nat) (f : List V) (H : Heap) : evC call it base (.region s_gnomonlaw01_BitsAlgebra_r3t2 [] [0, 1, 2, 26, 28, 29, 30, 31, 32, 33]) f H = segC call it base s_gnomonlaw01_BitsAlgebra_r3t3 [0, 1, 2, 26, 28, 29, 30, 31, 32, 33] H (evTale (symAll s_gnomonlaw01_BitsAlgebra_r3p2 [1] [30]) [1] f H) (origRow call it base s_gnomonlaw01_BitsAlgebra_r3t2 [0, 1, 2, 26, 28, 29, 30, 31, 32, 33] f H) := row_seg call it base s_gnomonlaw01_BitsAlgebra_r3p2 s_gnomonlaw01_BitsAlgebra_r3t3 (by kernel_rfl) f H
theorem s_gnomonlaw01_BitsAlgebra_r3t3_x (call : CallF) (it : IterF) (base : Nat) (f : List V) (H : Heap) : evC call it base (.region s_gnomonlaw01_BitsAlgebra_r3t3 [] [0, 1, 2, 26, 28, 29, 30, 31, 32, 33]) f H = thenC call it base (.region s_gnomonlaw01_BitsAlgebra_r3t4 [] [0, 1, 2, 26, 28, 29, 30, 31, 32, 33]) (opsC [] s_gnomonlaw01_BitsAlgebra_r3p3 [30] (evOps call base [⟨some 31, (.call (.c (.fn 11 [] [])) [(.t 30)]), none⟩] f H)) := (row_op call it base s_gnomonlaw01_BitsAlgebra_r3p3 s_gnomonlaw01_BitsAlgebra_r3t4 (kc := [30]) (by kernel_rfl) f H).trans (by rw [row_ops]; rfl)
theorem s_gnomonlaw01_BitsAlgebra_r3p4_tale (fr : List V) (H : Heap) : evTale (symAll s_gnomonlaw01_BitsAlgebra_r3p4 [2] [32]) [2] fr H = evTale (some (33, [], [(32, (.t 2))])) [2] fr H := tale_row (items := [.tt 2]) (by kernel_rfl) fr H
theorem s_gnomonlaw01_BitsAlgebra_r3t4_x (call : CallF) (it : IterF) (base : Nat) (f : List V) (H : Heap) : evC call it base (.region s_gnomonlaw01_BitsAlgebra_r3t4 [] [0, 1, 2, 26, 28, 29, 30, 31, 32, 33]) f H = segC call it base s_gnomonlaw01_BitsAlgebra_r3t5 [0, 1, 2, 26, 28, 29, 30, 31, 32, 33] H (evTale (symAll s_gnomonlaw01_BitsAlgebra_r3p4 [2] [32]) [2] f H) (origRow call it base s_gnomonlaw01_BitsAlgebra_r3t4 [0, 1, 2, 26, 28, 29, 30, 31, 32, 33] f H) := row_seg call it base s_gnomonlaw01_BitsAlgebra_r3p4 s_gnomonlaw01_BitsAlgebra_r3t5 (by kernel_rfl) f H
theorem s_gnomonlaw01_BitsAlgebra_r3t5_x (call : CallF) (it : IterF) (base : Nat) (f : List V) (H : Heap) : evC call it base (.region s_gnomonlaw01_BitsAlgebra_r3t5 [] [0, 1, 2, 26, 28, 29, 30, 31, 32, 33]) f H = thenC call it base (.region s_gnomonlaw01_BitsAlgebra_r3t6 [] [0, 1, 2, 26, 28, 29, 30, 31, 32, 33]) (opsC [] s_gnomonlaw01_BitsAlgebra_r3p5 [32] (evOps call base [⟨some 33, (.call (.c (.fn 11 [] [])) [(.t 32)]), none⟩] f H)) := (row_op call it base s_gnomonlaw01_BitsAlgebra_r3p5 s_gnomonlaw01_BitsAlgebra_r3t6 (kc := [32]) (by kernel_rfl) f H).trans (by rw [row_ops]; rfl)
theorem s_gnomonlaw01_BitsAlgebra_r3t6_tale (fr : List V) (H : Heap) : evTale (symAll s_gnomonlaw01_BitsAlgebra_r3t6 [0, 1, 2, 26, 28, 29, 30, 31, 32, 33] [7, 8, 9]) [0, 1, 2, 26, 28, 29, 30, 31, 32, 33] fr H = evTale (some (10, [], [(7, (.t 29)), (8, (.t 31)), (9, (.t 33))])) [0, 1, 2, 26, 28, 29, 30, 31, 32, 33] fr H := tale_row (items := [.tt 29, .tt 31, .tt 33]) (by kernel_rfl) fr H
theorem s_gnomonlaw01_BitsAlgebra_r3t6_x (call : CallF) (it : IterF) (base : Nat) (f : List V) (H : Heap) : evC call it base (.region s_gnomonlaw01_BitsAlgebra_r3t6 [] [0, 1, 2, 26, 28, 29, 30, 31, 32, 33]) f H = segL H (evTale (symAll s_gnomonlaw01_BitsAlgebra_r3t6 [0, 1, 2, 26, 28, 29, 30, 31, 32, 33] [7, 8, 9]) [0, 1, 2, 26, 28, 29, 30, 31, 32, 33] f H) (origRow call it base s_gnomonlaw01_BitsAlgebra_r3t6 [0, 1, 2, 26, 28, 29, 30, 31, 32, 33] f H) := row_last call it base _ f H
def s_gnomonlaw01_BitsAlgebra_r4t2 : List AOper := [⟨some 10, (.move (.t 35)), none⟩]
def s_gnomonlaw01_BitsAlgebra_r4p1 : List AOper := [⟨some 35, (.call (.c (.fn 21 [] [])) [(.t 34)]), none⟩]
def s_gnomonlaw01_BitsAlgebra_r4t1 : List AOper := s_gnomonlaw01_BitsAlgebra_r4p1 ++ s_gnomonlaw01_BitsAlgebra_r4t2
def s_gnomonlaw01_BitsAlgebra_r4p0 : List AOper := [⟨some 34, (.move (.t 7)), none⟩]
def s_gnomonlaw01_BitsAlgebra_r4 : List AOper := s_gnomonlaw01_BitsAlgebra_r4p0 ++ s_gnomonlaw01_BitsAlgebra_r4t1
theorem s_gnomonlaw01_BitsAlgebra_r4p0_tale (fr : List V) (H : Heap) : evTale (symAll s_gnomonlaw01_BitsAlgebra_r4p0 [] [34]) [] fr H = evTale (some (35, [], [(34, (.t 7))])) [] fr H := tale_row (items := [.tt 7]) (by kernel_rfl) fr H
theorem s_gnomonlaw01_BitsAlgebra_r4_x (call : CallF) (it : IterF) (base : Nat) (f : List V) (H : Heap) : evC call it base (.region s_gnomonlaw01_BitsAlgebra_r4 [] [34, 35]) f H = segC call it base s_gnomonlaw01_BitsAlgebra_r4t1 [34, 35] H (evTale (symAll s_gnomonlaw01_BitsAlgebra_r4p0 [] [34]) [] f H) (origRow call it base s_gnomonlaw01_BitsAlgebra_r4 [34, 35] f H) := row_seg call it base s_gnomonlaw01_BitsAlgebra_r4p0 s_gnomonlaw01_BitsAlgebra_r4t1 (by kernel_rfl) f H
theorem s_gnomonlaw01_BitsAlgebra_r4t1_x (call : CallF) (it : IterF) (base : Nat) (f : List V) (H : Heap) : evC call it base (.region s_gnomonlaw01_BitsAlgebra_r4t1 [] [34, 35]) f H = thenC call it base (.region s_gnomonlaw01_BitsAlgebra_r4t2 [] [34, 35]) (opsC [] s_gnomonlaw01_BitsAlgebra_r4p1 [34] (evOps call base [⟨some 35, (.call (.c (.fn 21 [] [])) [(.t 34)]), none⟩] f H)) := (row_op call it base s_gnomonlaw01_BitsAlgebra_r4p1 s_gnomonlaw01_BitsAlgebra_r4t2 (kc := [34]) (by kernel_rfl) f H).trans (by rw [row_ops]; rfl)
theorem s_gnomonlaw01_BitsAlgebra_r4t2_tale (fr : List V) (H : Heap) : evTale (symAll s_gnomonlaw01_BitsAlgebra_r4t2 [34, 35] [10]) [34, 35] fr H = evTale (some (11, [], [(10, (.t 35))])) [34, 35] fr H := tale_row (items := [.tt 35]) (by kernel_rfl) fr H
theorem s_gnomonlaw01_BitsAlgebra_r4t2_x (call : CallF) (it : IterF) (base : Nat) (f : List V) (H : Heap) : evC call it base (.region s_gnomonlaw01_BitsAlgebra_r4t2 [] [34, 35]) f H = segL H (evTale (symAll s_gnomonlaw01_BitsAlgebra_r4t2 [34, 35] [10]) [34, 35] f H) (origRow call it base s_gnomonlaw01_BitsAlgebra_r4t2 [34, 35] f H) := row_last call it base _ f H
def s_gnomonlaw01_BitsAlgebra_r5t1 : List AOper := [⟨some 38, (.call (.c (.fn 24 [] [])) [(.t 36), (.t 37)]), none⟩]
def s_gnomonlaw01_BitsAlgebra_r5p0 : List AOper := [⟨some 36, (.move (.t 10)), none⟩, ⟨some 37, (.move (.t 8)), none⟩]
def s_gnomonlaw01_BitsAlgebra_r5 : List AOper := s_gnomonlaw01_BitsAlgebra_r5p0 ++ s_gnomonlaw01_BitsAlgebra_r5t1
theorem s_gnomonlaw01_BitsAlgebra_r5p0_tale (fr : List V) (H : Heap) : evTale (symAll s_gnomonlaw01_BitsAlgebra_r5p0 [] [36, 37]) [] fr H = evTale (some (38, [], [(36, (.t 10)), (37, (.t 8))])) [] fr H := tale_row (items := [.tt 10, .tt 8]) (by kernel_rfl) fr H
theorem s_gnomonlaw01_BitsAlgebra_r5_x (call : CallF) (it : IterF) (base : Nat) (f : List V) (H : Heap) : evC call it base (.region s_gnomonlaw01_BitsAlgebra_r5 [] [36, 37, 38]) f H = segC call it base s_gnomonlaw01_BitsAlgebra_r5t1 [36, 37, 38] H (evTale (symAll s_gnomonlaw01_BitsAlgebra_r5p0 [] [36, 37]) [] f H) (origRow call it base s_gnomonlaw01_BitsAlgebra_r5 [36, 37, 38] f H) := row_seg call it base s_gnomonlaw01_BitsAlgebra_r5p0 s_gnomonlaw01_BitsAlgebra_r5t1 (by kernel_rfl) f H
theorem s_gnomonlaw01_BitsAlgebra_r5t1_x (call : CallF) (it : IterF) (base : Nat) (f : List V) (H : Heap) : evC call it base (.region s_gnomonlaw01_BitsAlgebra_r5t1 [] [36, 37, 38]) f H = opsC [] s_gnomonlaw01_BitsAlgebra_r5t1 [36, 37, 38] (evOps call base [⟨some 38, (.call (.c (.fn 24 [] [])) [(.t 36), (.t 37)]), none⟩] f H) := row_ops call it base _ _ _ f H
def s_gnomonlaw01_BitsAlgebra_r6t2 : List AOper := [⟨some 11, (.move (.t 41)), none⟩]
def s_gnomonlaw01_BitsAlgebra_r6p1 : List AOper := [⟨some 41, (.call (.c (.fn 22 [] [])) [(.t 39), (.t 40)]), none⟩]
def s_gnomonlaw01_BitsAlgebra_r6t1 : List AOper := s_gnomonlaw01_BitsAlgebra_r6p1 ++ s_gnomonlaw01_BitsAlgebra_r6t2
def s_gnomonlaw01_BitsAlgebra_r6p0 : List AOper := [⟨some 39, (.move (.t 7)), none⟩, ⟨some 40, (.move (.t 9)), none⟩]
def s_gnomonlaw01_BitsAlgebra_r6 : List AOper := s_gnomonlaw01_BitsAlgebra_r6p0 ++ s_gnomonlaw01_BitsAlgebra_r6t1
theorem s_gnomonlaw01_BitsAlgebra_r6p0_tale (fr : List V) (H : Heap) : evTale (symAll s_gnomonlaw01_BitsAlgebra_r6p0 [] [39, 40]) [] fr H = evTale (some (41, [], [(39, (.t 7)), (40, (.t 9))])) [] fr H := tale_row (items := [.tt 7, .tt 9]) (by kernel_rfl) fr H
theorem s_gnomonlaw01_BitsAlgebra_r6_x (call : CallF) (it : IterF) (base : Nat) (f : List V) (H : Heap) : evC call it base (.region s_gnomonlaw01_BitsAlgebra_r6 [] [39, 40, 41]) f H = segC call it base s_gnomonlaw01_BitsAlgebra_r6t1 [39, 40, 41] H (evTale (symAll s_gnomonlaw01_BitsAlgebra_r6p0 [] [39, 40]) [] f H) (origRow call it base s_gnomonlaw01_BitsAlgebra_r6 [39, 40, 41] f H) := row_seg call it base s_gnomonlaw01_BitsAlgebra_r6p0 s_gnomonlaw01_BitsAlgebra_r6t1 (by kernel_rfl) f H
theorem s_gnomonlaw01_BitsAlgebra_r6t1_x (call : CallF) (it : IterF) (base : Nat) (f : List V) (H : Heap) : evC call it base (.region s_gnomonlaw01_BitsAlgebra_r6t1 [] [39, 40, 41]) f H = thenC call it base (.region s_gnomonlaw01_BitsAlgebra_r6t2 [] [39, 40, 41]) (opsC [] s_gnomonlaw01_BitsAlgebra_r6p1 [39, 40] (evOps call base [⟨some 41, (.call (.c (.fn 22 [] [])) [(.t 39), (.t 40)]), none⟩] f H)) := (row_op call it base s_gnomonlaw01_BitsAlgebra_r6p1 s_gnomonlaw01_BitsAlgebra_r6t2 (kc := [39, 40]) (by kernel_rfl) f H).trans (by rw [row_ops]; rfl)
theorem s_gnomonlaw01_BitsAlgebra_r6t2_tale (fr : List V) (H : Heap) : evTale (symAll s_gnomonlaw01_BitsAlgebra_r6t2 [39, 40, 41] [11]) [39, 40, 41] fr H = evTale (some (12, [], [(11, (.t 41))])) [39, 40, 41] fr H := tale_row (items := [.tt 41]) (by kernel_rfl) fr H
theorem s_gnomonlaw01_BitsAlgebra_r6t2_x (call : CallF) (it : IterF) (base : Nat) (f : List V) (H : Heap) : evC call it base (.region s_gnomonlaw01_BitsAlgebra_r6t2 [] [39, 40, 41]) f H = segL H (evTale (symAll s_gnomonlaw01_BitsAlgebra_r6t2 [39, 40, 41] [11]) [39, 40, 41] f H) (origRow call it base s_gnomonlaw01_BitsAlgebra_r6t2 [39, 40, 41] f H) := row_last call it base _ f H
def s_gnomonlaw01_BitsAlgebra_r7t2 : List AOper := [⟨some 46, (.call (.c (.fn 24 [] [])) [(.t 42), (.t 45)]), none⟩]
def s_gnomonlaw01_BitsAlgebra_r7p1 : List AOper := [⟨some 45, (.call (.c (.fn 22 [] [])) [(.t 43), (.t 44)]), none⟩]
def s_gnomonlaw01_BitsAlgebra_r7t1 : List AOper := s_gnomonlaw01_BitsAlgebra_r7p1 ++ s_gnomonlaw01_BitsAlgebra_r7t2
def s_gnomonlaw01_BitsAlgebra_r7p0 : List AOper := [⟨some 42, (.move (.t 11)), none⟩, ⟨some 43, (.move (.t 8)), none⟩, ⟨some 44, (.move (.t 9)), none⟩]
def s_gnomonlaw01_BitsAlgebra_r7 : List AOper := s_gnomonlaw01_BitsAlgebra_r7p0 ++ s_gnomonlaw01_BitsAlgebra_r7t1
theorem s_gnomonlaw01_BitsAlgebra_r7p0_tale (fr : List V) (H : Heap) : evTale (symAll s_gnomonlaw01_BitsAlgebra_r7p0 [] [42, 43, 44]) [] fr H = evTale (some (45, [], [(42, (.t 11)), (43, (.t 8)), (44, (.t 9))])) [] fr H := tale_row (items := [.tt 11, .tt 8, .tt 9]) (by kernel_rfl) fr H
theorem s_gnomonlaw01_BitsAlgebra_r7_x (call : CallF) (it : IterF) (base : Nat) (f : List V) (H : Heap) : evC call it base (.region s_gnomonlaw01_BitsAlgebra_r7 [] [42, 43, 44, 45, 46]) f H = segC call it base s_gnomonlaw01_BitsAlgebra_r7t1 [42, 43, 44, 45, 46] H (evTale (symAll s_gnomonlaw01_BitsAlgebra_r7p0 [] [42, 43, 44]) [] f H) (origRow call it base s_gnomonlaw01_BitsAlgebra_r7 [42, 43, 44, 45, 46] f H) := row_seg call it base s_gnomonlaw01_BitsAlgebra_r7p0 s_gnomonlaw01_BitsAlgebra_r7t1 (by kernel_rfl) f H
theorem s_gnomonlaw01_BitsAlgebra_r7t1_x (call : CallF) (it : IterF) (base : Nat) (f : List V) (H : Heap) : evC call it base (.region s_gnomonlaw01_BitsAlgebra_r7t1 [] [42, 43, 44, 45, 46]) f H = thenC call it base (.region s_gnomonlaw01_BitsAlgebra_r7t2 [] [42, 43, 44, 45, 46]) (opsC [] s_gnomonlaw01_BitsAlgebra_r7p1 [43, 44] (evOps call base [⟨some 45, (.call (.c (.fn 22 [] [])) [(.t 43), (.t 44)]), none⟩] f H)) := (row_op call it base s_gnomonlaw01_BitsAlgebra_r7p1 s_gnomonlaw01_BitsAlgebra_r7t2 (kc := [43, 44]) (by kernel_rfl) f H).trans (by rw [row_ops]; rfl)
theorem s_gnomonlaw01_BitsAlgebra_r7t2_x (call : CallF) (it : IterF) (base : Nat) (f : List V) (H : Heap) : evC call it base (.region s_gnomonlaw01_BitsAlgebra_r7t2 [] [42, 43, 44, 45, 46]) f H = opsC [] s_gnomonlaw01_BitsAlgebra_r7t2 [42, 43, 44, 45, 46] (evOps call base [⟨some 46, (.call (.c (.fn 24 [] [])) [(.t 42), (.t 45)]), none⟩] f H) := row_ops call it base _ _ _ f H
def s_gnomonlaw01_BitsAlgebra_r8t2 : List AOper := [⟨some 12, (.move (.t 49)), none⟩]
def s_gnomonlaw01_BitsAlgebra_r8p1 : List AOper := [⟨some 49, (.call (.c (.fn 23 [] [])) [(.t 47), (.t 48)]), none⟩]
def s_gnomonlaw01_BitsAlgebra_r8t1 : List AOper := s_gnomonlaw01_BitsAlgebra_r8p1 ++ s_gnomonlaw01_BitsAlgebra_r8t2
def s_gnomonlaw01_BitsAlgebra_r8p0 : List AOper := [⟨some 47, (.move (.t 7)), none⟩, ⟨some 48, (.move (.t 9)), none⟩]
def s_gnomonlaw01_BitsAlgebra_r8 : List AOper := s_gnomonlaw01_BitsAlgebra_r8p0 ++ s_gnomonlaw01_BitsAlgebra_r8t1
theorem s_gnomonlaw01_BitsAlgebra_r8p0_tale (fr : List V) (H : Heap) : evTale (symAll s_gnomonlaw01_BitsAlgebra_r8p0 [] [47, 48]) [] fr H = evTale (some (49, [], [(47, (.t 7)), (48, (.t 9))])) [] fr H := tale_row (items := [.tt 7, .tt 9]) (by kernel_rfl) fr H
theorem s_gnomonlaw01_BitsAlgebra_r8_x (call : CallF) (it : IterF) (base : Nat) (f : List V) (H : Heap) : evC call it base (.region s_gnomonlaw01_BitsAlgebra_r8 [] [47, 48, 49]) f H = segC call it base s_gnomonlaw01_BitsAlgebra_r8t1 [47, 48, 49] H (evTale (symAll s_gnomonlaw01_BitsAlgebra_r8p0 [] [47, 48]) [] f H) (origRow call it base s_gnomonlaw01_BitsAlgebra_r8 [47, 48, 49] f H) := row_seg call it base s_gnomonlaw01_BitsAlgebra_r8p0 s_gnomonlaw01_BitsAlgebra_r8t1 (by kernel_rfl) f H
theorem s_gnomonlaw01_BitsAlgebra_r8t1_x (call : CallF) (it : IterF) (base : Nat) (f : List V) (H : Heap) : evC call it base (.region s_gnomonlaw01_BitsAlgebra_r8t1 [] [47, 48, 49]) f H = thenC call it base (.region s_gnomonlaw01_BitsAlgebra_r8t2 [] [47, 48, 49]) (opsC [] s_gnomonlaw01_BitsAlgebra_r8p1 [47, 48] (evOps call base [⟨some 49, (.call (.c (.fn 23 [] [])) [(.t 47), (.t 48)]), none⟩] f H)) := (row_op call it base s_gnomonlaw01_BitsAlgebra_r8p1 s_gnomonlaw01_BitsAlgebra_r8t2 (kc := [47, 48]) (by kernel_rfl) f H).trans (by rw [row_ops]; rfl)
theorem s_gnomonlaw01_BitsAlgebra_r8t2_tale (fr : List V) (H : Heap) : evTale (symAll s_gnomonlaw01_BitsAlgebra_r8t2 [47, 48, 49] [12]) [47, 48, 49] fr H = evTale (some (13, [], [(12, (.t 49))])) [47, 48, 49] fr H := tale_row (items := [.tt 49]) (by kernel_rfl) fr H
theorem s_gnomonlaw01_BitsAlgebra_r8t2_x (call : CallF) (it : IterF) (base : Nat) (f : List V) (H : Heap) : evC call it base (.region s_gnomonlaw01_BitsAlgebra_r8t2 [] [47, 48, 49]) f H = segL H (evTale (symAll s_gnomonlaw01_BitsAlgebra_r8t2 [47, 48, 49] [12]) [47, 48, 49] f H) (origRow call it base s_gnomonlaw01_BitsAlgebra_r8t2 [47, 48, 49] f H) := row_last call it base _ f H
def s_gnomonlaw01_BitsAlgebra_r9t2 : List AOper := [⟨some 54, (.call (.c (.fn 24 [] [])) [(.t 50), (.t 53)]), none⟩]
def s_gnomonlaw01_BitsAlgebra_r9p1 : List AOper := [⟨some 53, (.call (.c (.fn 23 [] [])) [(.t 51), (.t 52)]), none⟩]
def s_gnomonlaw01_BitsAlgebra_r9t1 : List AOper := s_gnomonlaw01_BitsAlgebra_r9p1 ++ s_gnomonlaw01_BitsAlgebra_r9t2
def s_gnomonlaw01_BitsAlgebra_r9p0 : List AOper := [⟨some 50, (.move (.t 12)), none⟩, ⟨some 51, (.move (.t 8)), none⟩, ⟨some 52, (.move (.t 9)), none⟩]
def s_gnomonlaw01_BitsAlgebra_r9 : List AOper := s_gnomonlaw01_BitsAlgebra_r9p0 ++ s_gnomonlaw01_BitsAlgebra_r9t1
theorem s_gnomonlaw01_BitsAlgebra_r9p0_tale (fr : List V) (H : Heap) : evTale (symAll s_gnomonlaw01_BitsAlgebra_r9p0 [] [50, 51, 52]) [] fr H = evTale (some (53, [], [(50, (.t 12)), (51, (.t 8)), (52, (.t 9))])) [] fr H := tale_row (items := [.tt 12, .tt 8, .tt 9]) (by kernel_rfl) fr H
theorem s_gnomonlaw01_BitsAlgebra_r9_x (call : CallF) (it : IterF) (base : Nat) (f : List V) (H : Heap) : evC call it base (.region s_gnomonlaw01_BitsAlgebra_r9 [] [50, 51, 52, 53, 54]) f H = segC call it base s_gnomonlaw01_BitsAlgebra_r9t1 [50, 51, 52, 53, 54] H (evTale (symAll s_gnomonlaw01_BitsAlgebra_r9p0 [] [50, 51, 52]) [] f H) (origRow call it base s_gnomonlaw01_BitsAlgebra_r9 [50, 51, 52, 53, 54] f H) := row_seg call it base s_gnomonlaw01_BitsAlgebra_r9p0 s_gnomonlaw01_BitsAlgebra_r9t1 (by kernel_rfl) f H
theorem s_gnomonlaw01_BitsAlgebra_r9t1_x (call : CallF) (it : IterF) (base : Nat) (f : List V) (H : Heap) : evC call it base (.region s_gnomonlaw01_BitsAlgebra_r9t1 [] [50, 51, 52, 53, 54]) f H = thenC call it base (.region s_gnomonlaw01_BitsAlgebra_r9t2 [] [50, 51, 52, 53, 54]) (opsC [] s_gnomonlaw01_BitsAlgebra_r9p1 [51, 52] (evOps call base [⟨some 53, (.call (.c (.fn 23 [] [])) [(.t 51), (.t 52)]), none⟩] f H)) := (row_op call it base s_gnomonlaw01_BitsAlgebra_r9p1 s_gnomonlaw01_BitsAlgebra_r9t2 (kc := [51, 52]) (by kernel_rfl) f H).trans (by rw [row_ops]; rfl)
theorem s_gnomonlaw01_BitsAlgebra_r9t2_x (call : CallF) (it : IterF) (base : Nat) (f : List V) (H : Heap) : evC call it base (.region s_gnomonlaw01_BitsAlgebra_r9t2 [] [50, 51, 52, 53, 54]) f H = opsC [] s_gnomonlaw01_BitsAlgebra_r9t2 [50, 51, 52, 53, 54] (evOps call base [⟨some 54, (.call (.c (.fn 24 [] [])) [(.t 50), (.t 53)]), none⟩] f H) := row_ops call it base _ _ _ f H
def s_gnomonlaw01_BitsAlgebra_r10t2 : List AOper := [⟨some 13, (.move (.t 56)), none⟩]
def s_gnomonlaw01_BitsAlgebra_r10p1 : List AOper := [⟨some 56, (.call (.c (.fn 21 [] [])) [(.t 55)]), none⟩]
def s_gnomonlaw01_BitsAlgebra_r10t1 : List AOper := s_gnomonlaw01_BitsAlgebra_r10p1 ++ s_gnomonlaw01_BitsAlgebra_r10t2
def s_gnomonlaw01_BitsAlgebra_r10p0 : List AOper := [⟨some 55, (.move (.t 8)), none⟩]
def s_gnomonlaw01_BitsAlgebra_r10 : List AOper := s_gnomonlaw01_BitsAlgebra_r10p0 ++ s_gnomonlaw01_BitsAlgebra_r10t1
theorem s_gnomonlaw01_BitsAlgebra_r10p0_tale (fr : List V) (H : Heap) : evTale (symAll s_gnomonlaw01_BitsAlgebra_r10p0 [] [55]) [] fr H = evTale (some (56, [], [(55, (.t 8))])) [] fr H := tale_row (items := [.tt 8]) (by kernel_rfl) fr H
theorem s_gnomonlaw01_BitsAlgebra_r10_x (call : CallF) (it : IterF) (base : Nat) (f : List V) (H : Heap) : evC call it base (.region s_gnomonlaw01_BitsAlgebra_r10 [] [55, 56]) f H = segC call it base s_gnomonlaw01_BitsAlgebra_r10t1 [55, 56] H (evTale (symAll s_gnomonlaw01_BitsAlgebra_r10p0 [] [55]) [] f H) (origRow call it base s_gnomonlaw01_BitsAlgebra_r10 [55, 56] f H) := row_seg call it base s_gnomonlaw01_BitsAlgebra_r10p0 s_gnomonlaw01_BitsAlgebra_r10t1 (by kernel_rfl) f H
theorem s_gnomonlaw01_BitsAlgebra_r10t1_x (call : CallF) (it : IterF) (base : Nat) (f : List V) (H : Heap) : evC call it base (.region s_gnomonlaw01_BitsAlgebra_r10t1 [] [55, 56]) f H = thenC call it base (.region s_gnomonlaw01_BitsAlgebra_r10t2 [] [55, 56]) (opsC [] s_gnomonlaw01_BitsAlgebra_r10p1 [55] (evOps call base [⟨some 56, (.call (.c (.fn 21 [] [])) [(.t 55)]), none⟩] f H)) := (row_op call it base s_gnomonlaw01_BitsAlgebra_r10p1 s_gnomonlaw01_BitsAlgebra_r10t2 (kc := [55]) (by kernel_rfl) f H).trans (by rw [row_ops]; rfl)
theorem s_gnomonlaw01_BitsAlgebra_r10t2_tale (fr : List V) (H : Heap) : evTale (symAll s_gnomonlaw01_BitsAlgebra_r10t2 [55, 56] [13]) [55, 56] fr H = evTale (some (14, [], [(13, (.t 56))])) [55, 56] fr H := tale_row (items := [.tt 56]) (by kernel_rfl) fr H
theorem s_gnomonlaw01_BitsAlgebra_r10t2_x (call : CallF) (it : IterF) (base : Nat) (f : List V) (H : Heap) : evC call it base (.region s_gnomonlaw01_BitsAlgebra_r10t2 [] [55, 56]) f H = segL H (evTale (symAll s_gnomonlaw01_BitsAlgebra_r10t2 [55, 56] [13]) [55, 56] f H) (origRow call it base s_gnomonlaw01_BitsAlgebra_r10t2 [55, 56] f H) := row_last call it base _ f H
def s_gnomonlaw01_BitsAlgebra_r11t1 : List AOper := [⟨some 59, (.call (.c (.fn 24 [] [])) [(.t 57), (.t 58)]), none⟩]
def s_gnomonlaw01_BitsAlgebra_r11p0 : List AOper := [⟨some 57, (.move (.t 13)), none⟩, ⟨some 58, (.move (.t 9)), none⟩]
def s_gnomonlaw01_BitsAlgebra_r11 : List AOper := s_gnomonlaw01_BitsAlgebra_r11p0 ++ s_gnomonlaw01_BitsAlgebra_r11t1
theorem s_gnomonlaw01_BitsAlgebra_r11p0_tale (fr : List V) (H : Heap) : evTale (symAll s_gnomonlaw01_BitsAlgebra_r11p0 [] [57, 58]) [] fr H = evTale (some (59, [], [(57, (.t 13)), (58, (.t 9))])) [] fr H := tale_row (items := [.tt 13, .tt 9]) (by kernel_rfl) fr H
theorem s_gnomonlaw01_BitsAlgebra_r11_x (call : CallF) (it : IterF) (base : Nat) (f : List V) (H : Heap) : evC call it base (.region s_gnomonlaw01_BitsAlgebra_r11 [] [57, 58, 59]) f H = segC call it base s_gnomonlaw01_BitsAlgebra_r11t1 [57, 58, 59] H (evTale (symAll s_gnomonlaw01_BitsAlgebra_r11p0 [] [57, 58]) [] f H) (origRow call it base s_gnomonlaw01_BitsAlgebra_r11 [57, 58, 59] f H) := row_seg call it base s_gnomonlaw01_BitsAlgebra_r11p0 s_gnomonlaw01_BitsAlgebra_r11t1 (by kernel_rfl) f H
theorem s_gnomonlaw01_BitsAlgebra_r11t1_x (call : CallF) (it : IterF) (base : Nat) (f : List V) (H : Heap) : evC call it base (.region s_gnomonlaw01_BitsAlgebra_r11t1 [] [57, 58, 59]) f H = opsC [] s_gnomonlaw01_BitsAlgebra_r11t1 [57, 58, 59] (evOps call base [⟨some 59, (.call (.c (.fn 24 [] [])) [(.t 57), (.t 58)]), none⟩] f H) := row_ops call it base _ _ _ f H
def s_gnomonlaw01_BitsAlgebra_r12t43 : List AOper := [⟨some 110, (.pick (.t 108) (.t 109) (.c (.s (.bool false)))), none⟩, ⟨some 6, (.move (.t 110)), none⟩]
def s_gnomonlaw01_BitsAlgebra_r12p42 : List AOper := [⟨some 109, (.call (.c (.fn 10 [] [])) []), some (108, true)⟩]
def s_gnomonlaw01_BitsAlgebra_r12t42 : List AOper := s_gnomonlaw01_BitsAlgebra_r12p42 ++ s_gnomonlaw01_BitsAlgebra_r12t43
def s_gnomonlaw01_BitsAlgebra_r12p41 : List AOper := [⟨some 107, (.pick (.t 101) (.t 106) (.c (.s (.bool false)))), none⟩, ⟨some 108, (.move (.t 107)), none⟩]
def s_gnomonlaw01_BitsAlgebra_r12t41 : List AOper := s_gnomonlaw01_BitsAlgebra_r12p41 ++ s_gnomonlaw01_BitsAlgebra_r12t42
def s_gnomonlaw01_BitsAlgebra_r12p40 : List AOper := [⟨some 106, (.call (.c (.fn 14 [] [])) [(.t 104), (.t 105)]), some (101, true)⟩]
def s_gnomonlaw01_BitsAlgebra_r12t40 : List AOper := s_gnomonlaw01_BitsAlgebra_r12p40 ++ s_gnomonlaw01_BitsAlgebra_r12t41
def s_gnomonlaw01_BitsAlgebra_r12p39 : List AOper := [⟨some 105, (.move (.t 7)), some (101, true)⟩]
def s_gnomonlaw01_BitsAlgebra_r12t39 : List AOper := s_gnomonlaw01_BitsAlgebra_r12p39 ++ s_gnomonlaw01_BitsAlgebra_r12t40
def s_gnomonlaw01_BitsAlgebra_r12p38 : List AOper := [⟨some 104, (.call (.c (.fn 23 [] [])) [(.t 102), (.t 103)]), some (101, true)⟩]
def s_gnomonlaw01_BitsAlgebra_r12t38 : List AOper := s_gnomonlaw01_BitsAlgebra_r12p38 ++ s_gnomonlaw01_BitsAlgebra_r12t39
def s_gnomonlaw01_BitsAlgebra_r12p37 : List AOper := [⟨some 103, (.move (.t 7)), some (101, true)⟩]
def s_gnomonlaw01_BitsAlgebra_r12t37 : List AOper := s_gnomonlaw01_BitsAlgebra_r12p37 ++ s_gnomonlaw01_BitsAlgebra_r12t38
def s_gnomonlaw01_BitsAlgebra_r12p36 : List AOper := [⟨some 102, (.move (.t 7)), some (101, true)⟩]
def s_gnomonlaw01_BitsAlgebra_r12t36 : List AOper := s_gnomonlaw01_BitsAlgebra_r12p36 ++ s_gnomonlaw01_BitsAlgebra_r12t37
def s_gnomonlaw01_BitsAlgebra_r12p35 : List AOper := [⟨some 99, (.bin .eql (.t 98) (.c (.s (.int .i64 0)))), some (94, true)⟩, ⟨some 100, (.pick (.t 94) (.t 99) (.c (.s (.bool false)))), none⟩, ⟨some 101, (.move (.t 100)), none⟩]
def s_gnomonlaw01_BitsAlgebra_r12t35 : List AOper := s_gnomonlaw01_BitsAlgebra_r12p35 ++ s_gnomonlaw01_BitsAlgebra_r12t36
def s_gnomonlaw01_BitsAlgebra_r12p34 : List AOper := [⟨some 98, (.call (.c (.fn 20 [] [])) [(.t 97)]), some (94, true)⟩]
def s_gnomonlaw01_BitsAlgebra_r12t34 : List AOper := s_gnomonlaw01_BitsAlgebra_r12p34 ++ s_gnomonlaw01_BitsAlgebra_r12t35
def s_gnomonlaw01_BitsAlgebra_r12p33 : List AOper := [⟨some 97, (.call (.c (.fn 22 [] [])) [(.t 95), (.t 96)]), some (94, true)⟩]
def s_gnomonlaw01_BitsAlgebra_r12t33 : List AOper := s_gnomonlaw01_BitsAlgebra_r12p33 ++ s_gnomonlaw01_BitsAlgebra_r12t34
def s_gnomonlaw01_BitsAlgebra_r12p32 : List AOper := [⟨some 96, (.move (.t 7)), some (94, true)⟩]
def s_gnomonlaw01_BitsAlgebra_r12t32 : List AOper := s_gnomonlaw01_BitsAlgebra_r12p32 ++ s_gnomonlaw01_BitsAlgebra_r12t33
def s_gnomonlaw01_BitsAlgebra_r12p31 : List AOper := [⟨some 95, (.move (.t 7)), some (94, true)⟩]
def s_gnomonlaw01_BitsAlgebra_r12t31 : List AOper := s_gnomonlaw01_BitsAlgebra_r12p31 ++ s_gnomonlaw01_BitsAlgebra_r12t32
def s_gnomonlaw01_BitsAlgebra_r12p30 : List AOper := [⟨some 93, (.pick (.t 83) (.t 92) (.c (.s (.bool false)))), none⟩, ⟨some 94, (.move (.t 93)), none⟩]
def s_gnomonlaw01_BitsAlgebra_r12t30 : List AOper := s_gnomonlaw01_BitsAlgebra_r12p30 ++ s_gnomonlaw01_BitsAlgebra_r12t31
def s_gnomonlaw01_BitsAlgebra_r12p29 : List AOper := [⟨some 92, (.call (.c (.fn 14 [] [])) [(.t 88), (.t 91)]), some (83, true)⟩]
def s_gnomonlaw01_BitsAlgebra_r12t29 : List AOper := s_gnomonlaw01_BitsAlgebra_r12p29 ++ s_gnomonlaw01_BitsAlgebra_r12t30
def s_gnomonlaw01_BitsAlgebra_r12p28 : List AOper := [⟨some 91, (.call (.c (.fn 23 [] [])) [(.t 89), (.t 90)]), some (83, true)⟩]
def s_gnomonlaw01_BitsAlgebra_r12t28 : List AOper := s_gnomonlaw01_BitsAlgebra_r12p28 ++ s_gnomonlaw01_BitsAlgebra_r12t29
def s_gnomonlaw01_BitsAlgebra_r12p27 : List AOper := [⟨some 90, (.move (.t 8)), some (83, true)⟩]
def s_gnomonlaw01_BitsAlgebra_r12t27 : List AOper := s_gnomonlaw01_BitsAlgebra_r12p27 ++ s_gnomonlaw01_BitsAlgebra_r12t28
def s_gnomonlaw01_BitsAlgebra_r12p26 : List AOper := [⟨some 89, (.move (.t 7)), some (83, true)⟩]
def s_gnomonlaw01_BitsAlgebra_r12t26 : List AOper := s_gnomonlaw01_BitsAlgebra_r12p26 ++ s_gnomonlaw01_BitsAlgebra_r12t27
def s_gnomonlaw01_BitsAlgebra_r12p25 : List AOper := [⟨some 88, (.call (.c (.fn 22 [] [])) [(.t 84), (.t 87)]), some (83, true)⟩]
def s_gnomonlaw01_BitsAlgebra_r12t25 : List AOper := s_gnomonlaw01_BitsAlgebra_r12p25 ++ s_gnomonlaw01_BitsAlgebra_r12t26
def s_gnomonlaw01_BitsAlgebra_r12p24 : List AOper := [⟨some 87, (.call (.c (.fn 22 [] [])) [(.t 85), (.t 86)]), some (83, true)⟩]
def s_gnomonlaw01_BitsAlgebra_r12t24 : List AOper := s_gnomonlaw01_BitsAlgebra_r12p24 ++ s_gnomonlaw01_BitsAlgebra_r12t25
def s_gnomonlaw01_BitsAlgebra_r12p23 : List AOper := [⟨some 86, (.move (.t 8)), some (83, true)⟩]
def s_gnomonlaw01_BitsAlgebra_r12t23 : List AOper := s_gnomonlaw01_BitsAlgebra_r12p23 ++ s_gnomonlaw01_BitsAlgebra_r12t24
def s_gnomonlaw01_BitsAlgebra_r12p22 : List AOper := [⟨some 85, (.move (.t 7)), some (83, true)⟩]
def s_gnomonlaw01_BitsAlgebra_r12t22 : List AOper := s_gnomonlaw01_BitsAlgebra_r12p22 ++ s_gnomonlaw01_BitsAlgebra_r12t23
def s_gnomonlaw01_BitsAlgebra_r12p21 : List AOper := [⟨some 84, (.move (.t 7)), some (83, true)⟩]
def s_gnomonlaw01_BitsAlgebra_r12t21 : List AOper := s_gnomonlaw01_BitsAlgebra_r12p21 ++ s_gnomonlaw01_BitsAlgebra_r12t22
def s_gnomonlaw01_BitsAlgebra_r12p20 : List AOper := [⟨some 82, (.pick (.t 72) (.t 81) (.c (.s (.bool false)))), none⟩, ⟨some 83, (.move (.t 82)), none⟩]
def s_gnomonlaw01_BitsAlgebra_r12t20 : List AOper := s_gnomonlaw01_BitsAlgebra_r12p20 ++ s_gnomonlaw01_BitsAlgebra_r12t21
def s_gnomonlaw01_BitsAlgebra_r12p19 : List AOper := [⟨some 81, (.call (.c (.fn 14 [] [])) [(.t 77), (.t 80)]), some (72, true)⟩]
def s_gnomonlaw01_BitsAlgebra_r12t19 : List AOper := s_gnomonlaw01_BitsAlgebra_r12p19 ++ s_gnomonlaw01_BitsAlgebra_r12t20
def s_gnomonlaw01_BitsAlgebra_r12p18 : List AOper := [⟨some 80, (.call (.c (.fn 22 [] [])) [(.t 78), (.t 79)]), some (72, true)⟩]
def s_gnomonlaw01_BitsAlgebra_r12t18 : List AOper := s_gnomonlaw01_BitsAlgebra_r12p18 ++ s_gnomonlaw01_BitsAlgebra_r12t19
def s_gnomonlaw01_BitsAlgebra_r12p17 : List AOper := [⟨some 79, (.move (.t 13)), some (72, true)⟩]
def s_gnomonlaw01_BitsAlgebra_r12t17 : List AOper := s_gnomonlaw01_BitsAlgebra_r12p17 ++ s_gnomonlaw01_BitsAlgebra_r12t18
def s_gnomonlaw01_BitsAlgebra_r12p16 : List AOper := [⟨some 78, (.move (.t 7)), some (72, true)⟩]
def s_gnomonlaw01_BitsAlgebra_r12t16 : List AOper := s_gnomonlaw01_BitsAlgebra_r12p16 ++ s_gnomonlaw01_BitsAlgebra_r12t17
def s_gnomonlaw01_BitsAlgebra_r12p15 : List AOper := [⟨some 77, (.call (.c (.fn 22 [] [])) [(.t 75), (.t 76)]), some (72, true)⟩]
def s_gnomonlaw01_BitsAlgebra_r12t15 : List AOper := s_gnomonlaw01_BitsAlgebra_r12p15 ++ s_gnomonlaw01_BitsAlgebra_r12t16
def s_gnomonlaw01_BitsAlgebra_r12p14 : List AOper := [⟨some 76, (.move (.t 9)), some (72, true)⟩]
def s_gnomonlaw01_BitsAlgebra_r12t14 : List AOper := s_gnomonlaw01_BitsAlgebra_r12p14 ++ s_gnomonlaw01_BitsAlgebra_r12t15
def s_gnomonlaw01_BitsAlgebra_r12p13 : List AOper := [⟨some 75, (.call (.c (.fn 22 [] [])) [(.t 73), (.t 74)]), some (72, true)⟩]
def s_gnomonlaw01_BitsAlgebra_r12t13 : List AOper := s_gnomonlaw01_BitsAlgebra_r12p13 ++ s_gnomonlaw01_BitsAlgebra_r12t14
def s_gnomonlaw01_BitsAlgebra_r12p12 : List AOper := [⟨some 74, (.move (.t 8)), some (72, true)⟩]
def s_gnomonlaw01_BitsAlgebra_r12t12 : List AOper := s_gnomonlaw01_BitsAlgebra_r12p12 ++ s_gnomonlaw01_BitsAlgebra_r12t13
def s_gnomonlaw01_BitsAlgebra_r12p11 : List AOper := [⟨some 73, (.move (.t 7)), some (72, true)⟩]
def s_gnomonlaw01_BitsAlgebra_r12t11 : List AOper := s_gnomonlaw01_BitsAlgebra_r12p11 ++ s_gnomonlaw01_BitsAlgebra_r12t12
def s_gnomonlaw01_BitsAlgebra_r12p10 : List AOper := [⟨some 71, (.pick (.t 65) (.t 70) (.c (.s (.bool false)))), none⟩, ⟨some 72, (.move (.t 71)), none⟩]
def s_gnomonlaw01_BitsAlgebra_r12t10 : List AOper := s_gnomonlaw01_BitsAlgebra_r12p10 ++ s_gnomonlaw01_BitsAlgebra_r12t11
def s_gnomonlaw01_BitsAlgebra_r12p9 : List AOper := [⟨some 70, (.call (.c (.fn 14 [] [])) [(.t 68), (.t 69)]), some (65, true)⟩]
def s_gnomonlaw01_BitsAlgebra_r12t9 : List AOper := s_gnomonlaw01_BitsAlgebra_r12p9 ++ s_gnomonlaw01_BitsAlgebra_r12t10
def s_gnomonlaw01_BitsAlgebra_r12p8 : List AOper := [⟨some 69, (.move (.t 12)), some (65, true)⟩]
def s_gnomonlaw01_BitsAlgebra_r12t8 : List AOper := s_gnomonlaw01_BitsAlgebra_r12p8 ++ s_gnomonlaw01_BitsAlgebra_r12t9
def s_gnomonlaw01_BitsAlgebra_r12p7 : List AOper := [⟨some 68, (.call (.c (.fn 23 [] [])) [(.t 66), (.t 67)]), some (65, true)⟩]
def s_gnomonlaw01_BitsAlgebra_r12t7 : List AOper := s_gnomonlaw01_BitsAlgebra_r12p7 ++ s_gnomonlaw01_BitsAlgebra_r12t8
def s_gnomonlaw01_BitsAlgebra_r12p6 : List AOper := [⟨some 67, (.move (.t 9)), some (65, true)⟩]
def s_gnomonlaw01_BitsAlgebra_r12t6 : List AOper := s_gnomonlaw01_BitsAlgebra_r12p6 ++ s_gnomonlaw01_BitsAlgebra_r12t7
def s_gnomonlaw01_BitsAlgebra_r12p5 : List AOper := [⟨some 66, (.move (.t 10)), some (65, true)⟩]
def s_gnomonlaw01_BitsAlgebra_r12t5 : List AOper := s_gnomonlaw01_BitsAlgebra_r12p5 ++ s_gnomonlaw01_BitsAlgebra_r12t6
def s_gnomonlaw01_BitsAlgebra_r12p4 : List AOper := [⟨some 65, (.move (.t 64)), none⟩]
def s_gnomonlaw01_BitsAlgebra_r12t4 : List AOper := s_gnomonlaw01_BitsAlgebra_r12p4 ++ s_gnomonlaw01_BitsAlgebra_r12t5
def s_gnomonlaw01_BitsAlgebra_r12p3 : List AOper := [⟨some 64, (.call (.c (.fn 14 [] [])) [(.t 62), (.t 63)]), none⟩]
def s_gnomonlaw01_BitsAlgebra_r12t3 : List AOper := s_gnomonlaw01_BitsAlgebra_r12p3 ++ s_gnomonlaw01_BitsAlgebra_r12t4
def s_gnomonlaw01_BitsAlgebra_r12p2 : List AOper := [⟨some 63, (.move (.t 11)), none⟩]
def s_gnomonlaw01_BitsAlgebra_r12t2 : List AOper := s_gnomonlaw01_BitsAlgebra_r12p2 ++ s_gnomonlaw01_BitsAlgebra_r12t3
def s_gnomonlaw01_BitsAlgebra_r12p1 : List AOper := [⟨some 62, (.call (.c (.fn 22 [] [])) [(.t 60), (.t 61)]), none⟩]
def s_gnomonlaw01_BitsAlgebra_r12t1 : List AOper := s_gnomonlaw01_BitsAlgebra_r12p1 ++ s_gnomonlaw01_BitsAlgebra_r12t2
def s_gnomonlaw01_BitsAlgebra_r12p0 : List AOper := [⟨some 60, (.move (.t 10)), none⟩, ⟨some 61, (.move (.t 9)), none⟩]
def s_gnomonlaw01_BitsAlgebra_r12 : List AOper := s_gnomonlaw01_BitsAlgebra_r12p0 ++ s_gnomonlaw01_BitsAlgebra_r12t1
theorem s_gnomonlaw01_BitsAlgebra_r12p0_tale (fr : List V) (H : Heap) : evTale (symAll s_gnomonlaw01_BitsAlgebra_r12p0 [] [60, 61]) [] fr H = evTale (some (62, [], [(60, (.t 10)), (61, (.t 9))])) [] fr H := tale_row (items := [.tt 10, .tt 9]) (by kernel_rfl) fr H
theorem s_gnomonlaw01_BitsAlgebra_r12_x (call : CallF) (it : IterF) (base : Nat) (f : List V) (H : Heap) : evC call it base (.region s_gnomonlaw01_BitsAlgebra_r12 [] [7, 8, 9, 10, 11, 12, 13, 60, 61, 62, 63, 64, 65, 66, 67, 68, 69, 70, 71, 72, 73, 74, 75, 76, 77, 78, 79, 80, 81, 82, 83, 84, 85, 86, 87, 88, 89, 90, 91, 92, 93, 94, 95, 96, 97, 98, 99, 100, 101, 102, 103, 104, 105, 106, 107, 108, 109, 110]) f H = segC call it base s_gnomonlaw01_BitsAlgebra_r12t1 [7, 8, 9, 10, 11, 12, 13, 60, 61, 62, 63, 64, 65, 66, 67, 68, 69, 70, 71, 72, 73, 74, 75, 76, 77, 78, 79, 80, 81, 82, 83, 84, 85, 86, 87, 88, 89, 90, 91, 92, 93, 94, 95, 96, 97, 98, 99, 100, 101, 102, 103, 104, 105, 106, 107, 108, 109, 110] H (evTale (symAll s_gnomonlaw01_BitsAlgebra_r12p0 [] [60, 61]) [] f H) (origRow call it base s_gnomonlaw01_BitsAlgebra_r12 [7, 8, 9, 10, 11, 12, 13, 60, 61, 62, 63, 64, 65, 66, 67, 68, 69, 70, 71, 72, 73, 74, 75, 76, 77, 78, 79, 80, 81, 82, 83, 84, 85, 86, 87, 88, 89, 90, 91, 92, 93, 94, 95, 96, 97, 98, 99, 100, 101, 102, 103, 104, 105, 106, 107, 108, 109, 110] f H) := row_seg call it base s_gnomonlaw01_BitsAlgebra_r12p0 s_gnomonlaw01_BitsAlgebra_r12t1 (by kernel_rfl) f H
theorem s_gnomonlaw01_BitsAlgebra_r12t1_x (call : CallF) (it : IterF) (base : Nat) (f : List V) (H : Heap) : evC call it base (.region s_gnomonlaw01_BitsAlgebra_r12t1 [] [7, 8, 9, 10, 11, 12, 13, 60, 61, 62, 63, 64, 65, 66, 67, 68, 69, 70, 71, 72, 73, 74, 75, 76, 77, 78, 79, 80, 81, 82, 83, 84, 85, 86, 87, 88, 89, 90, 91, 92, 93, 94, 95, 96, 97, 98, 99, 100, 101, 102, 103, 104, 105, 106, 107, 108, 109, 110]) f H = thenC call it base (.region s_gnomonlaw01_BitsAlgebra_r12t2 [] [7, 8, 9, 10, 11, 12, 13, 60, 61, 62, 63, 64, 65, 66, 67, 68, 69, 70, 71, 72, 73, 74, 75, 76, 77, 78, 79, 80, 81, 82, 83, 84, 85, 86, 87, 88, 89, 90, 91, 92, 93, 94, 95, 96, 97, 98, 99, 100, 101, 102, 103, 104, 105, 106, 107, 108, 109, 110]) (opsC [] s_gnomonlaw01_BitsAlgebra_r12p1 [60, 61] (evOps call base [⟨some 62, (.call (.c (.fn 22 [] [])) [(.t 60), (.t 61)]), none⟩] f H)) := (row_op call it base s_gnomonlaw01_BitsAlgebra_r12p1 s_gnomonlaw01_BitsAlgebra_r12t2 (kc := [60, 61]) (by kernel_rfl) f H).trans (by rw [row_ops]; rfl)
theorem s_gnomonlaw01_BitsAlgebra_r12p2_tale (fr : List V) (H : Heap) : evTale (symAll s_gnomonlaw01_BitsAlgebra_r12p2 [11] [63]) [11] fr H = evTale (some (64, [], [(63, (.t 11))])) [11] fr H := tale_row (items := [.tt 11]) (by kernel_rfl) fr H
theorem s_gnomonlaw01_BitsAlgebra_r12t2_x (call : CallF) (it : IterF) (base : Nat) (f : List V) (H : Heap) : evC call it base (.region s_gnomonlaw01_BitsAlgebra_r12t2 [] [7, 8, 9, 10, 11, 12, 13, 60, 61, 62, 63, 64, 65, 66, 67, 68, 69, 70, 71, 72, 73, 74, 75, 76, 77, 78, 79, 80, 81, 82, 83, 84, 85, 86, 87, 88, 89, 90, 91, 92, 93, 94, 95, 96, 97, 98, 99, 100, 101, 102, 103, 104, 105, 106, 107, 108, 109, 110]) f H = segC call it base s_gnomonlaw01_BitsAlgebra_r12t3 [7, 8, 9, 10, 11, 12, 13, 60, 61, 62, 63, 64, 65, 66, 67, 68, 69, 70, 71, 72, 73, 74, 75, 76, 77, 78, 79, 80, 81, 82, 83, 84, 85, 86, 87, 88, 89, 90, 91, 92, 93, 94, 95, 96, 97, 98, 99, 100, 101, 102, 103, 104, 105, 106, 107, 108, 109, 110] H (evTale (symAll s_gnomonlaw01_BitsAlgebra_r12p2 [11] [63]) [11] f H) (origRow call it base s_gnomonlaw01_BitsAlgebra_r12t2 [7, 8, 9, 10, 11, 12, 13, 60, 61, 62, 63, 64, 65, 66, 67, 68, 69, 70, 71, 72, 73, 74, 75, 76, 77, 78, 79, 80, 81, 82, 83, 84, 85, 86, 87, 88, 89, 90, 91, 92, 93, 94, 95, 96, 97, 98, 99, 100, 101, 102, 103, 104, 105, 106, 107, 108, 109, 110] f H) := row_seg call it base s_gnomonlaw01_BitsAlgebra_r12p2 s_gnomonlaw01_BitsAlgebra_r12t3 (by kernel_rfl) f H
theorem s_gnomonlaw01_BitsAlgebra_r12t3_x (call : CallF) (it : IterF) (base : Nat) (f : List V) (H : Heap) : evC call it base (.region s_gnomonlaw01_BitsAlgebra_r12t3 [] [7, 8, 9, 10, 11, 12, 13, 60, 61, 62, 63, 64, 65, 66, 67, 68, 69, 70, 71, 72, 73, 74, 75, 76, 77, 78, 79, 80, 81, 82, 83, 84, 85, 86, 87, 88, 89, 90, 91, 92, 93, 94, 95, 96, 97, 98, 99, 100, 101, 102, 103, 104, 105, 106, 107, 108, 109, 110]) f H = thenC call it base (.region s_gnomonlaw01_BitsAlgebra_r12t4 [] [7, 8, 9, 10, 11, 12, 13, 60, 61, 62, 63, 64, 65, 66, 67, 68, 69, 70, 71, 72, 73, 74, 75, 76, 77, 78, 79, 80, 81, 82, 83, 84, 85, 86, 87, 88, 89, 90, 91, 92, 93, 94, 95, 96, 97, 98, 99, 100, 101, 102, 103, 104, 105, 106, 107, 108, 109, 110]) (opsC [] s_gnomonlaw01_BitsAlgebra_r12p3 [62, 63] (evOps call base [⟨some 64, (.call (.c (.fn 14 [] [])) [(.t 62), (.t 63)]), none⟩] f H)) := (row_op call it base s_gnomonlaw01_BitsAlgebra_r12p3 s_gnomonlaw01_BitsAlgebra_r12t4 (kc := [62, 63]) (by kernel_rfl) f H).trans (by rw [row_ops]; rfl)
theorem s_gnomonlaw01_BitsAlgebra_r12p4_tale (fr : List V) (H : Heap) : evTale (symAll s_gnomonlaw01_BitsAlgebra_r12p4 [64] [65]) [64] fr H = evTale (some (66, [], [(65, (.t 64))])) [64] fr H := tale_row (items := [.tt 64]) (by kernel_rfl) fr H
theorem s_gnomonlaw01_BitsAlgebra_r12t4_x (call : CallF) (it : IterF) (base : Nat) (f : List V) (H : Heap) : evC call it base (.region s_gnomonlaw01_BitsAlgebra_r12t4 [] [7, 8, 9, 10, 11, 12, 13, 60, 61, 62, 63, 64, 65, 66, 67, 68, 69, 70, 71, 72, 73, 74, 75, 76, 77, 78, 79, 80, 81, 82, 83, 84, 85, 86, 87, 88, 89, 90, 91, 92, 93, 94, 95, 96, 97, 98, 99, 100, 101, 102, 103, 104, 105, 106, 107, 108, 109, 110]) f H = segC call it base s_gnomonlaw01_BitsAlgebra_r12t5 [7, 8, 9, 10, 11, 12, 13, 60, 61, 62, 63, 64, 65, 66, 67, 68, 69, 70, 71, 72, 73, 74, 75, 76, 77, 78, 79, 80, 81, 82, 83, 84, 85, 86, 87, 88, 89, 90, 91, 92, 93, 94, 95, 96, 97, 98, 99, 100, 101, 102, 103, 104, 105, 106, 107, 108, 109, 110] H (evTale (symAll s_gnomonlaw01_BitsAlgebra_r12p4 [64] [65]) [64] f H) (origRow call it base s_gnomonlaw01_BitsAlgebra_r12t4 [7, 8, 9, 10, 11, 12, 13, 60, 61, 62, 63, 64, 65, 66, 67, 68, 69, 70, 71, 72, 73, 74, 75, 76, 77, 78, 79, 80, 81, 82, 83, 84, 85, 86, 87, 88, 89, 90, 91, 92, 93, 94, 95, 96, 97, 98, 99, 100, 101, 102, 103, 104, 105, 106, 107, 108, 109, 110] f H) := row_seg call it base s_gnomonlaw01_BitsAlgebra_r12p4 s_gnomonlaw01_BitsAlgebra_r12t5 (by kernel_rfl) f H
theorem s_gnomonlaw01_BitsAlgebra_r12t5_x (call : CallF) (it : IterF) (base : Nat) (f : List V) (H : Heap) : evC call it base (.region s_gnomonlaw01_BitsAlgebra_r12t5 [] [7, 8, 9, 10, 11, 12, 13, 60, 61, 62, 63, 64, 65, 66, 67, 68, 69, 70, 71, 72, 73, 74, 75, 76, 77, 78, 79, 80, 81, 82, 83, 84, 85, 86, 87, 88, 89, 90, 91, 92, 93, 94, 95, 96, 97, 98, 99, 100, 101, 102, 103, 104, 105, 106, 107, 108, 109, 110]) f H = thenC call it base (.region s_gnomonlaw01_BitsAlgebra_r12t6 [] [7, 8, 9, 10, 11, 12, 13, 60, 61, 62, 63, 64, 65, 66, 67, 68, 69, 70, 71, 72, 73, 74, 75, 76, 77, 78, 79, 80, 81, 82, 83, 84, 85, 86, 87, 88, 89, 90, 91, 92, 93, 94, 95, 96, 97, 98, 99, 100, 101, 102, 103, 104, 105, 106, 107, 108, 109, 110]) (opsC [] s_gnomonlaw01_BitsAlgebra_r12p5 [10] (evOps call base [⟨some 66, (.move (.t 10)), some (65, true)⟩] f H)) := (row_op call it base s_gnomonlaw01_BitsAlgebra_r12p5 s_gnomonlaw01_BitsAlgebra_r12t6 (kc := [10]) (by kernel_rfl) f H).trans (by rw [row_ops]; rfl)
theorem s_gnomonlaw01_BitsAlgebra_r12t6_x (call : CallF) (it : IterF) (base : Nat) (f : List V) (H : Heap) : evC call it base (.region s_gnomonlaw01_BitsAlgebra_r12t6 [] [7, 8, 9, 10, 11, 12, 13, 60, 61, 62, 63, 64, 65, 66, 67, 68, 69, 70, 71, 72, 73, 74, 75, 76, 77, 78, 79, 80, 81, 82, 83, 84, 85, 86, 87, 88, 89, 90, 91, 92, 93, 94, 95, 96, 97, 98, 99, 100, 101, 102, 103, 104, 105, 106, 107, 108, 109, 110]) f H = thenC call it base (.region s_gnomonlaw01_BitsAlgebra_r12t7 [] [7, 8, 9, 10, 11, 12, 13, 60, 61, 62, 63, 64, 65, 66, 67, 68, 69, 70, 71, 72, 73, 74, 75, 76, 77, 78, 79, 80, 81, 82, 83, 84, 85, 86, 87, 88, 89, 90, 91, 92, 93, 94, 95, 96, 97, 98, 99, 100, 101, 102, 103, 104, 105, 106, 107, 108, 109, 110]) (opsC [] s_gnomonlaw01_BitsAlgebra_r12p6 [] (evOps call base [⟨some 67, (.move (.t 9)), some (65, true)⟩] f H)) := (row_op call it base s_gnomonlaw01_BitsAlgebra_r12p6 s_gnomonlaw01_BitsAlgebra_r12t7 (kc := []) (by kernel_rfl) f H).trans (by rw [row_ops]; rfl)
theorem s_gnomonlaw01_BitsAlgebra_r12t7_x (call : CallF) (it : IterF) (base : Nat) (f : List V) (H : Heap) : evC call it base (.region s_gnomonlaw01_BitsAlgebra_r12t7 [] [7, 8, 9, 10, 11, 12, 13, 60, 61, 62, 63, 64, 65, 66, 67, 68, 69, 70, 71, 72, 73, 74, 75, 76, 77, 78, 79, 80, 81, 82, 83, 84, 85, 86, 87, 88, 89, 90, 91, 92, 93, 94, 95, 96, 97, 98, 99, 100, 101, 102, 103, 104, 105, 106, 107, 108, 109, 110]) f H = thenC call it base (.region s_gnomonlaw01_BitsAlgebra_r12t8 [] [7, 8, 9, 10, 11, 12, 13, 60, 61, 62, 63, 64, 65, 66, 67, 68, 69, 70, 71, 72, 73, 74, 75, 76, 77, 78, 79, 80, 81, 82, 83, 84, 85, 86, 87, 88, 89, 90, 91, 92, 93, 94, 95, 96, 97, 98, 99, 100, 101, 102, 103, 104, 105, 106, 107, 108, 109, 110]) (opsC [] s_gnomonlaw01_BitsAlgebra_r12p7 [66, 67] (evOps call base [⟨some 68, (.call (.c (.fn 23 [] [])) [(.t 66), (.t 67)]), some (65, true)⟩] f H)) := (row_op call it base s_gnomonlaw01_BitsAlgebra_r12p7 s_gnomonlaw01_BitsAlgebra_r12t8 (kc := [66, 67]) (by kernel_rfl) f H).trans (by rw [row_ops]; rfl)
theorem s_gnomonlaw01_BitsAlgebra_r12t8_x (call : CallF) (it : IterF) (base : Nat) (f : List V) (H : Heap) : evC call it base (.region s_gnomonlaw01_BitsAlgebra_r12t8 [] [7, 8, 9, 10, 11, 12, 13, 60, 61, 62, 63, 64, 65, 66, 67, 68, 69, 70, 71, 72, 73, 74, 75, 76, 77, 78, 79, 80, 81, 82, 83, 84, 85, 86, 87, 88, 89, 90, 91, 92, 93, 94, 95, 96, 97, 98, 99, 100, 101, 102, 103, 104, 105, 106, 107, 108, 109, 110]) f H = thenC call it base (.region s_gnomonlaw01_BitsAlgebra_r12t9 [] [7, 8, 9, 10, 11, 12, 13, 60, 61, 62, 63, 64, 65, 66, 67, 68, 69, 70, 71, 72, 73, 74, 75, 76, 77, 78, 79, 80, 81, 82, 83, 84, 85, 86, 87, 88, 89, 90, 91, 92, 93, 94, 95, 96, 97, 98, 99, 100, 101, 102, 103, 104, 105, 106, 107, 108, 109, 110]) (opsC [] s_gnomonlaw01_BitsAlgebra_r12p8 [12] (evOps call base [⟨some 69, (.move (.t 12)), some (65, true)⟩] f H)) := (row_op call it base s_gnomonlaw01_BitsAlgebra_r12p8 s_gnomonlaw01_BitsAlgebra_r12t9 (kc := [12]) (by kernel_rfl) f H).trans (by rw [row_ops]; rfl)
theorem s_gnomonlaw01_BitsAlgebra_r12t9_x (call : CallF) (it : IterF) (base : Nat) (f : List V) (H : Heap) : evC call it base (.region s_gnomonlaw01_BitsAlgebra_r12t9 [] [7, 8, 9, 10, 11, 12, 13, 60, 61, 62, 63, 64, 65, 66, 67, 68, 69, 70, 71, 72, 73, 74, 75, 76, 77, 78, 79, 80, 81, 82, 83, 84, 85, 86, 87, 88, 89, 90, 91, 92, 93, 94, 95, 96, 97, 98, 99, 100, 101, 102, 103, 104, 105, 106, 107, 108, 109, 110]) f H = thenC call it base (.region s_gnomonlaw01_BitsAlgebra_r12t10 [] [7, 8, 9, 10, 11, 12, 13, 60, 61, 62, 63, 64, 65, 66, 67, 68, 69, 70, 71, 72, 73, 74, 75, 76, 77, 78, 79, 80, 81, 82, 83, 84, 85, 86, 87, 88, 89, 90, 91, 92, 93, 94, 95, 96, 97, 98, 99, 100, 101, 102, 103, 104, 105, 106, 107, 108, 109, 110]) (opsC [] s_gnomonlaw01_BitsAlgebra_r12p9 [68, 69] (evOps call base [⟨some 70, (.call (.c (.fn 14 [] [])) [(.t 68), (.t 69)]), some (65, true)⟩] f H)) := (row_op call it base s_gnomonlaw01_BitsAlgebra_r12p9 s_gnomonlaw01_BitsAlgebra_r12t10 (kc := [68, 69]) (by kernel_rfl) f H).trans (by rw [row_ops]; rfl)
theorem s_gnomonlaw01_BitsAlgebra_r12p10_tale (fr : List V) (H : Heap) : evTale (symAll s_gnomonlaw01_BitsAlgebra_r12p10 [65, 70, 71] [72]) [65, 70, 71] fr H = evTale (some (73, [], [(72, (.pick (.t 65) (.t 70) (.c (.s (.bool false)))))])) [65, 70, 71] fr H := tale_row (items := [.sub 0 [] [], .sub 0 [] []]) (by kernel_rfl) fr H
theorem s_gnomonlaw01_BitsAlgebra_r12t10_x (call : CallF) (it : IterF) (base : Nat) (f : List V) (H : Heap) : evC call it base (.region s_gnomonlaw01_BitsAlgebra_r12t10 [] [7, 8, 9, 10, 11, 12, 13, 60, 61, 62, 63, 64, 65, 66, 67, 68, 69, 70, 71, 72, 73, 74, 75, 76, 77, 78, 79, 80, 81, 82, 83, 84, 85, 86, 87, 88, 89, 90, 91, 92, 93, 94, 95, 96, 97, 98, 99, 100, 101, 102, 103, 104, 105, 106, 107, 108, 109, 110]) f H = segC call it base s_gnomonlaw01_BitsAlgebra_r12t11 [7, 8, 9, 10, 11, 12, 13, 60, 61, 62, 63, 64, 65, 66, 67, 68, 69, 70, 71, 72, 73, 74, 75, 76, 77, 78, 79, 80, 81, 82, 83, 84, 85, 86, 87, 88, 89, 90, 91, 92, 93, 94, 95, 96, 97, 98, 99, 100, 101, 102, 103, 104, 105, 106, 107, 108, 109, 110] H (evTale (symAll s_gnomonlaw01_BitsAlgebra_r12p10 [65, 70, 71] [72]) [65, 70, 71] f H) (origRow call it base s_gnomonlaw01_BitsAlgebra_r12t10 [7, 8, 9, 10, 11, 12, 13, 60, 61, 62, 63, 64, 65, 66, 67, 68, 69, 70, 71, 72, 73, 74, 75, 76, 77, 78, 79, 80, 81, 82, 83, 84, 85, 86, 87, 88, 89, 90, 91, 92, 93, 94, 95, 96, 97, 98, 99, 100, 101, 102, 103, 104, 105, 106, 107, 108, 109, 110] f H) := row_seg call it base s_gnomonlaw01_BitsAlgebra_r12p10 s_gnomonlaw01_BitsAlgebra_r12t11 (by kernel_rfl) f H
theorem s_gnomonlaw01_BitsAlgebra_r12t11_x (call : CallF) (it : IterF) (base : Nat) (f : List V) (H : Heap) : evC call it base (.region s_gnomonlaw01_BitsAlgebra_r12t11 [] [7, 8, 9, 10, 11, 12, 13, 60, 61, 62, 63, 64, 65, 66, 67, 68, 69, 70, 71, 72, 73, 74, 75, 76, 77, 78, 79, 80, 81, 82, 83, 84, 85, 86, 87, 88, 89, 90, 91, 92, 93, 94, 95, 96, 97, 98, 99, 100, 101, 102, 103, 104, 105, 106, 107, 108, 109, 110]) f H = thenC call it base (.region s_gnomonlaw01_BitsAlgebra_r12t12 [] [7, 8, 9, 10, 11, 12, 13, 60, 61, 62, 63, 64, 65, 66, 67, 68, 69, 70, 71, 72, 73, 74, 75, 76, 77, 78, 79, 80, 81, 82, 83, 84, 85, 86, 87, 88, 89, 90, 91, 92, 93, 94, 95, 96, 97, 98, 99, 100, 101, 102, 103, 104, 105, 106, 107, 108, 109, 110]) (opsC [] s_gnomonlaw01_BitsAlgebra_r12p11 [] (evOps call base [⟨some 73, (.move (.t 7)), some (72, true)⟩] f H)) := (row_op call it base s_gnomonlaw01_BitsAlgebra_r12p11 s_gnomonlaw01_BitsAlgebra_r12t12 (kc := []) (by kernel_rfl) f H).trans (by rw [row_ops]; rfl)
theorem s_gnomonlaw01_BitsAlgebra_r12t12_x (call : CallF) (it : IterF) (base : Nat) (f : List V) (H : Heap) : evC call it base (.region s_gnomonlaw01_BitsAlgebra_r12t12 [] [7, 8, 9, 10, 11, 12, 13, 60, 61, 62, 63, 64, 65, 66, 67, 68, 69, 70, 71, 72, 73, 74, 75, 76, 77, 78, 79, 80, 81, 82, 83, 84, 85, 86, 87, 88, 89, 90, 91, 92, 93, 94, 95, 96, 97, 98, 99, 100, 101, 102, 103, 104, 105, 106, 107, 108, 109, 110]) f H = thenC call it base (.region s_gnomonlaw01_BitsAlgebra_r12t13 [] [7, 8, 9, 10, 11, 12, 13, 60, 61, 62, 63, 64, 65, 66, 67, 68, 69, 70, 71, 72, 73, 74, 75, 76, 77, 78, 79, 80, 81, 82, 83, 84, 85, 86, 87, 88, 89, 90, 91, 92, 93, 94, 95, 96, 97, 98, 99, 100, 101, 102, 103, 104, 105, 106, 107, 108, 109, 110]) (opsC [] s_gnomonlaw01_BitsAlgebra_r12p12 [] (evOps call base [⟨some 74, (.move (.t 8)), some (72, true)⟩] f H)) := (row_op call it base s_gnomonlaw01_BitsAlgebra_r12p12 s_gnomonlaw01_BitsAlgebra_r12t13 (kc := []) (by kernel_rfl) f H).trans (by rw [row_ops]; rfl)
theorem s_gnomonlaw01_BitsAlgebra_r12t13_x (call : CallF) (it : IterF) (base : Nat) (f : List V) (H : Heap) : evC call it base (.region s_gnomonlaw01_BitsAlgebra_r12t13 [] [7, 8, 9, 10, 11, 12, 13, 60, 61, 62, 63, 64, 65, 66, 67, 68, 69, 70, 71, 72, 73, 74, 75, 76, 77, 78, 79, 80, 81, 82, 83, 84, 85, 86, 87, 88, 89, 90, 91, 92, 93, 94, 95, 96, 97, 98, 99, 100, 101, 102, 103, 104, 105, 106, 107, 108, 109, 110]) f H = thenC call it base (.region s_gnomonlaw01_BitsAlgebra_r12t14 [] [7, 8, 9, 10, 11, 12, 13, 60, 61, 62, 63, 64, 65, 66, 67, 68, 69, 70, 71, 72, 73, 74, 75, 76, 77, 78, 79, 80, 81, 82, 83, 84, 85, 86, 87, 88, 89, 90, 91, 92, 93, 94, 95, 96, 97, 98, 99, 100, 101, 102, 103, 104, 105, 106, 107, 108, 109, 110]) (opsC [] s_gnomonlaw01_BitsAlgebra_r12p13 [73, 74] (evOps call base [⟨some 75, (.call (.c (.fn 22 [] [])) [(.t 73), (.t 74)]), some (72, true)⟩] f H)) := (row_op call it base s_gnomonlaw01_BitsAlgebra_r12p13 s_gnomonlaw01_BitsAlgebra_r12t14 (kc := [73, 74]) (by kernel_rfl) f H).trans (by rw [row_ops]; rfl)
theorem s_gnomonlaw01_BitsAlgebra_r12t14_x (call : CallF) (it : IterF) (base : Nat) (f : List V) (H : Heap) : evC call it base (.region s_gnomonlaw01_BitsAlgebra_r12t14 [] [7, 8, 9, 10, 11, 12, 13, 60, 61, 62, 63, 64, 65, 66, 67, 68, 69, 70, 71, 72, 73, 74, 75, 76, 77, 78, 79, 80, 81, 82, 83, 84, 85, 86, 87, 88, 89, 90, 91, 92, 93, 94, 95, 96, 97, 98, 99, 100, 101, 102, 103, 104, 105, 106, 107, 108, 109, 110]) f H = thenC call it base (.region s_gnomonlaw01_BitsAlgebra_r12t15 [] [7, 8, 9, 10, 11, 12, 13, 60, 61, 62, 63, 64, 65, 66, 67, 68, 69, 70, 71, 72, 73, 74, 75, 76, 77, 78, 79, 80, 81, 82, 83, 84, 85, 86, 87, 88, 89, 90, 91, 92, 93, 94, 95, 96, 97, 98, 99, 100, 101, 102, 103, 104, 105, 106, 107, 108, 109, 110]) (opsC [] s_gnomonlaw01_BitsAlgebra_r12p14 [9] (evOps call base [⟨some 76, (.move (.t 9)), some (72, true)⟩] f H)) := (row_op call it base s_gnomonlaw01_BitsAlgebra_r12p14 s_gnomonlaw01_BitsAlgebra_r12t15 (kc := [9]) (by kernel_rfl) f H).trans (by rw [row_ops]; rfl)
theorem s_gnomonlaw01_BitsAlgebra_r12t15_x (call : CallF) (it : IterF) (base : Nat) (f : List V) (H : Heap) : evC call it base (.region s_gnomonlaw01_BitsAlgebra_r12t15 [] [7, 8, 9, 10, 11, 12, 13, 60, 61, 62, 63, 64, 65, 66, 67, 68, 69, 70, 71, 72, 73, 74, 75, 76, 77, 78, 79, 80, 81, 82, 83, 84, 85, 86, 87, 88, 89, 90, 91, 92, 93, 94, 95, 96, 97, 98, 99, 100, 101, 102, 103, 104, 105, 106, 107, 108, 109, 110]) f H = thenC call it base (.region s_gnomonlaw01_BitsAlgebra_r12t16 [] [7, 8, 9, 10, 11, 12, 13, 60, 61, 62, 63, 64, 65, 66, 67, 68, 69, 70, 71, 72, 73, 74, 75, 76, 77, 78, 79, 80, 81, 82, 83, 84, 85, 86, 87, 88, 89, 90, 91, 92, 93, 94, 95, 96, 97, 98, 99, 100, 101, 102, 103, 104, 105, 106, 107, 108, 109, 110]) (opsC [] s_gnomonlaw01_BitsAlgebra_r12p15 [75, 76] (evOps call base [⟨some 77, (.call (.c (.fn 22 [] [])) [(.t 75), (.t 76)]), some (72, true)⟩] f H)) := (row_op call it base s_gnomonlaw01_BitsAlgebra_r12p15 s_gnomonlaw01_BitsAlgebra_r12t16 (kc := [75, 76]) (by kernel_rfl) f H).trans (by rw [row_ops]; rfl)
theorem s_gnomonlaw01_BitsAlgebra_r12t16_x (call : CallF) (it : IterF) (base : Nat) (f : List V) (H : Heap) : evC call it base (.region s_gnomonlaw01_BitsAlgebra_r12t16 [] [7, 8, 9, 10, 11, 12, 13, 60, 61, 62, 63, 64, 65, 66, 67, 68, 69, 70, 71, 72, 73, 74, 75, 76, 77, 78, 79, 80, 81, 82, 83, 84, 85, 86, 87, 88, 89, 90, 91, 92, 93, 94, 95, 96, 97, 98, 99, 100, 101, 102, 103, 104, 105, 106, 107, 108, 109, 110]) f H = thenC call it base (.region s_gnomonlaw01_BitsAlgebra_r12t17 [] [7, 8, 9, 10, 11, 12, 13, 60, 61, 62, 63, 64, 65, 66, 67, 68, 69, 70, 71, 72, 73, 74, 75, 76, 77, 78, 79, 80, 81, 82, 83, 84, 85, 86, 87, 88, 89, 90, 91, 92, 93, 94, 95, 96, 97, 98, 99, 100, 101, 102, 103, 104, 105, 106, 107, 108, 109, 110]) (opsC [] s_gnomonlaw01_BitsAlgebra_r12p16 [] (evOps call base [⟨some 78, (.move (.t 7)), some (72, true)⟩] f H)) := (row_op call it base s_gnomonlaw01_BitsAlgebra_r12p16 s_gnomonlaw01_BitsAlgebra_r12t17 (kc := []) (by kernel_rfl) f H).trans (by rw [row_ops]; rfl)
theorem s_gnomonlaw01_BitsAlgebra_r12t17_x (call : CallF) (it : IterF) (base : Nat) (f : List V) (H : Heap) : evC call it base (.region s_gnomonlaw01_BitsAlgebra_r12t17 [] [7, 8, 9, 10, 11, 12, 13, 60, 61, 62, 63, 64, 65, 66, 67, 68, 69, 70, 71, 72, 73, 74, 75, 76, 77, 78, 79, 80, 81, 82, 83, 84, 85, 86, 87, 88, 89, 90, 91, 92, 93, 94, 95, 96, 97, 98, 99, 100, 101, 102, 103, 104, 105, 106, 107, 108, 109, 110]) f H = thenC call it base (.region s_gnomonlaw01_BitsAlgebra_r12t18 [] [7, 8, 9, 10, 11, 12, 13, 60, 61, 62, 63, 64, 65, 66, 67, 68, 69, 70, 71, 72, 73, 74, 75, 76, 77, 78, 79, 80, 81, 82, 83, 84, 85, 86, 87, 88, 89, 90, 91, 92, 93, 94, 95, 96, 97, 98, 99, 100, 101, 102, 103, 104, 105, 106, 107, 108, 109, 110]) (opsC [] s_gnomonlaw01_BitsAlgebra_r12p17 [13] (evOps call base [⟨some 79, (.move (.t 13)), some (72, true)⟩] f H)) := (row_op call it base s_gnomonlaw01_BitsAlgebra_r12p17 s_gnomonlaw01_BitsAlgebra_r12t18 (kc := [13]) (by kernel_rfl) f H).trans (by rw [row_ops]; rfl)
theorem s_gnomonlaw01_BitsAlgebra_r12t18_x (call : CallF) (it : IterF) (base : Nat) (f : List V) (H : Heap) : evC call it base (.region s_gnomonlaw01_BitsAlgebra_r12t18 [] [7, 8, 9, 10, 11, 12, 13, 60, 61, 62, 63, 64, 65, 66, 67, 68, 69, 70, 71, 72, 73, 74, 75, 76, 77, 78, 79, 80, 81, 82, 83, 84, 85, 86, 87, 88, 89, 90, 91, 92, 93, 94, 95, 96, 97, 98, 99, 100, 101, 102, 103, 104, 105, 106, 107, 108, 109, 110]) f H = thenC call it base (.region s_gnomonlaw01_BitsAlgebra_r12t19 [] [7, 8, 9, 10, 11, 12, 13, 60, 61, 62, 63, 64, 65, 66, 67, 68, 69, 70, 71, 72, 73, 74, 75, 76, 77, 78, 79, 80, 81, 82, 83, 84, 85, 86, 87, 88, 89, 90, 91, 92, 93, 94, 95, 96, 97, 98, 99, 100, 101, 102, 103, 104, 105, 106, 107, 108, 109, 110]) (opsC [] s_gnomonlaw01_BitsAlgebra_r12p18 [78, 79] (evOps call base [⟨some 80, (.call (.c (.fn 22 [] [])) [(.t 78), (.t 79)]), some (72, true)⟩] f H)) := (row_op call it base s_gnomonlaw01_BitsAlgebra_r12p18 s_gnomonlaw01_BitsAlgebra_r12t19 (kc := [78, 79]) (by kernel_rfl) f H).trans (by rw [row_ops]; rfl)
theorem s_gnomonlaw01_BitsAlgebra_r12t19_x (call : CallF) (it : IterF) (base : Nat) (f : List V) (H : Heap) : evC call it base (.region s_gnomonlaw01_BitsAlgebra_r12t19 [] [7, 8, 9, 10, 11, 12, 13, 60, 61, 62, 63, 64, 65, 66, 67, 68, 69, 70, 71, 72, 73, 74, 75, 76, 77, 78, 79, 80, 81, 82, 83, 84, 85, 86, 87, 88, 89, 90, 91, 92, 93, 94, 95, 96, 97, 98, 99, 100, 101, 102, 103, 104, 105, 106, 107, 108, 109, 110]) f H = thenC call it base (.region s_gnomonlaw01_BitsAlgebra_r12t20 [] [7, 8, 9, 10, 11, 12, 13, 60, 61, 62, 63, 64, 65, 66, 67, 68, 69, 70, 71, 72, 73, 74, 75, 76, 77, 78, 79, 80, 81, 82, 83, 84, 85, 86, 87, 88, 89, 90, 91, 92, 93, 94, 95, 96, 97, 98, 99, 100, 101, 102, 103, 104, 105, 106, 107, 108, 109, 110]) (opsC [] s_gnomonlaw01_BitsAlgebra_r12p19 [77, 80] (evOps call base [⟨some 81, (.call (.c (.fn 14 [] [])) [(.t 77), (.t 80)]), some (72, true)⟩] f H)) := (row_op call it base s_gnomonlaw01_BitsAlgebra_r12p19 s_gnomonlaw01_BitsAlgebra_r12t20 (kc := [77, 80]) (by kernel_rfl) f H).trans (by rw [row_ops]; rfl)
theorem s_gnomonlaw01_BitsAlgebra_r12p20_tale (fr : List V) (H : Heap) : evTale (symAll s_gnomonlaw01_BitsAlgebra_r12p20 [72, 81, 82] [83]) [72, 81, 82] fr H = evTale (some (84, [], [(83, (.pick (.t 72) (.t 81) (.c (.s (.bool false)))))])) [72, 81, 82] fr H := tale_row (items := [.sub 0 [] [], .sub 0 [] []]) (by kernel_rfl) fr H
theorem s_gnomonlaw01_BitsAlgebra_r12t20_x (call : CallF) (it : IterF) (base : Nat) (f : List V) (H : Heap) : evC call it base (.region s_gnomonlaw01_BitsAlgebra_r12t20 [] [7, 8, 9, 10, 11, 12, 13, 60, 61, 62, 63, 64, 65, 66, 67, 68, 69, 70, 71, 72, 73, 74, 75, 76, 77, 78, 79, 80, 81, 82, 83, 84, 85, 86, 87, 88, 89, 90, 91, 92, 93, 94, 95, 96, 97, 98, 99, 100, 101, 102, 103, 104, 105, 106, 107, 108, 109, 110]) f H = segC call it base s_gnomonlaw01_BitsAlgebra_r12t21 [7, 8, 9, 10, 11, 12, 13, 60, 61, 62, 63, 64, 65, 66, 67, 68, 69, 70, 71, 72, 73, 74, 75, 76, 77, 78, 79, 80, 81, 82, 83, 84, 85, 86, 87, 88, 89, 90, 91, 92, 93, 94, 95, 96, 97, 98, 99, 100, 101, 102, 103, 104, 105, 106, 107, 108, 109, 110] H (evTale (symAll s_gnomonlaw01_BitsAlgebra_r12p20 [72, 81, 82] [83]) [72, 81, 82] f H) (origRow call it base s_gnomonlaw01_BitsAlgebra_r12t20 [7, 8, 9, 10, 11, 12, 13, 60, 61, 62, 63, 64, 65, 66, 67, 68, 69, 70, 71, 72, 73, 74, 75, 76, 77, 78, 79, 80, 81, 82, 83, 84, 85, 86, 87, 88, 89, 90, 91, 92, 93, 94, 95, 96, 97, 98, 99, 100, 101, 102, 103, 104, 105, 106, 107, 108, 109, 110] f H) := row_seg call it base s_gnomonlaw01_BitsAlgebra_r12p20 s_gnomonlaw01_BitsAlgebra_r12t21 (by kernel_rfl) f H
theorem s_gnomonlaw01_BitsAlgebra_r12t21_x (call : CallF) (it : IterF) (base : Nat) (f : List V) (H : Heap) : evC call it base (.region s_gnomonlaw01_BitsAlgebra_r12t21 [] [7, 8, 9, 10, 11, 12, 13, 60, 61, 62, 63, 64, 65, 66, 67, 68, 69, 70, 71, 72, 73, 74, 75, 76, 77, 78, 79, 80, 81, 82, 83, 84, 85, 86, 87, 88, 89, 90, 91, 92, 93, 94, 95, 96, 97, 98, 99, 100, 101, 102, 103, 104, 105, 106, 107, 108, 109, 110]) f H = thenC call it base (.region s_gnomonlaw01_BitsAlgebra_r12t22 [] [7, 8, 9, 10, 11, 12, 13, 60, 61, 62, 63, 64, 65, 66, 67, 68, 69, 70, 71, 72, 73, 74, 75, 76, 77, 78, 79, 80, 81, 82, 83, 84, 85, 86, 87, 88, 89, 90, 91, 92, 93, 94, 95, 96, 97, 98, 99, 100, 101, 102, 103, 104, 105, 106, 107, 108, 109, 110]) (opsC [] s_gnomonlaw01_BitsAlgebra_r12p21 [] (evOps call base [⟨some 84, (.move (.t 7)), some (83, true)⟩] f H)) := (row_op call it base s_gnomonlaw01_BitsAlgebra_r12p21 s_gnomonlaw01_BitsAlgebra_r12t22 (kc := []) (by kernel_rfl) f H).trans (by rw [row_ops]; rfl)
theorem s_gnomonlaw01_BitsAlgebra_r12t22_x (call : CallF) (it : IterF) (base : Nat) (f : List V) (H : Heap) : evC call it base (.region s_gnomonlaw01_BitsAlgebra_r12t22 [] [7, 8, 9, 10, 11, 12, 13, 60, 61, 62, 63, 64, 65, 66, 67, 68, 69, 70, 71, 72, 73, 74, 75, 76, 77, 78, 79, 80, 81, 82, 83, 84, 85, 86, 87, 88, 89, 90, 91, 92, 93, 94, 95, 96, 97, 98, 99, 100, 101, 102, 103, 104, 105, 106, 107, 108, 109, 110]) f H = thenC call it base (.region s_gnomonlaw01_BitsAlgebra_r12t23 [] [7, 8, 9, 10, 11, 12, 13, 60, 61, 62, 63, 64, 65, 66, 67, 68, 69, 70, 71, 72, 73, 74, 75, 76, 77, 78, 79, 80, 81, 82, 83, 84, 85, 86, 87, 88, 89, 90, 91, 92, 93, 94, 95, 96, 97, 98, 99, 100, 101, 102, 103, 104, 105, 106, 107, 108, 109, 110]) (opsC [] s_gnomonlaw01_BitsAlgebra_r12p22 [] (evOps call base [⟨some 85, (.move (.t 7)), some (83, true)⟩] f H)) := (row_op call it base s_gnomonlaw01_BitsAlgebra_r12p22 s_gnomonlaw01_BitsAlgebra_r12t23 (kc := []) (by kernel_rfl) f H).trans (by rw [row_ops]; rfl)
theorem s_gnomonlaw01_BitsAlgebra_r12t23_x (call : CallF) (it : IterF) (base : Nat) (f : List V) (H : Heap) : evC call it base (.region s_gnomonlaw01_BitsAlgebra_r12t23 [] [7, 8, 9, 10, 11, 12, 13, 60, 61, 62, 63, 64, 65, 66, 67, 68, 69, 70, 71, 72, 73, 74, 75, 76, 77, 78, 79, 80, 81, 82, 83, 84, 85, 86, 87, 88, 89, 90, 91, 92, 93, 94, 95, 96, 97, 98, 99, 100, 101, 102, 103, 104, 105, 106, 107, 108, 109, 110]) f H = thenC call it base (.region s_gnomonlaw01_BitsAlgebra_r12t24 [] [7, 8, 9, 10, 11, 12, 13, 60, 61, 62, 63, 64, 65, 66, 67, 68, 69, 70, 71, 72, 73, 74, 75, 76, 77, 78, 79, 80, 81, 82, 83, 84, 85, 86, 87, 88, 89, 90, 91, 92, 93, 94, 95, 96, 97, 98, 99, 100, 101, 102, 103, 104, 105, 106, 107, 108, 109, 110]) (opsC [] s_gnomonlaw01_BitsAlgebra_r12p23 [] (evOps call base [⟨some 86, (.move (.t 8)), some (83, true)⟩] f H)) := (row_op call it base s_gnomonlaw01_BitsAlgebra_r12p23 s_gnomonlaw01_BitsAlgebra_r12t24 (kc := []) (by kernel_rfl) f H).trans (by rw [row_ops]; rfl)
theorem s_gnomonlaw01_BitsAlgebra_r12t24_x (call : CallF) (it : IterF) (base : Nat) (f : List V) (H : Heap) : evC call it base (.region s_gnomonlaw01_BitsAlgebra_r12t24 [] [7, 8, 9, 10, 11, 12, 13, 60, 61, 62, 63, 64, 65, 66, 67, 68, 69, 70, 71, 72, 73, 74, 75, 76, 77, 78, 79, 80, 81, 82, 83, 84, 85, 86, 87, 88, 89, 90, 91, 92, 93, 94, 95, 96, 97, 98, 99, 100, 101, 102, 103, 104, 105, 106, 107, 108, 109, 110]) f H = thenC call it base (.region s_gnomonlaw01_BitsAlgebra_r12t25 [] [7, 8, 9, 10, 11, 12, 13, 60, 61, 62, 63, 64, 65, 66, 67, 68, 69, 70, 71, 72, 73, 74, 75, 76, 77, 78, 79, 80, 81, 82, 83, 84, 85, 86, 87, 88, 89, 90, 91, 92, 93, 94, 95, 96, 97, 98, 99, 100, 101, 102, 103, 104, 105, 106, 107, 108, 109, 110]) (opsC [] s_gnomonlaw01_BitsAlgebra_r12p24 [85, 86] (evOps call base [⟨some 87, (.call (.c (.fn 22 [] [])) [(.t 85), (.t 86)]), some (83, true)⟩] f H)) := (row_op call it base s_gnomonlaw01_BitsAlgebra_r12p24 s_gnomonlaw01_BitsAlgebra_r12t25 (kc := [85, 86]) (by kernel_rfl) f H).trans (by rw [row_ops]; rfl)
theorem s_gnomonlaw01_BitsAlgebra_r12t25_x (call : CallF) (it : IterF) (base : Nat) (f : List V) (H : Heap) : evC call it base (.region s_gnomonlaw01_BitsAlgebra_r12t25 [] [7, 8, 9, 10, 11, 12, 13, 60, 61, 62, 63, 64, 65, 66, 67, 68, 69, 70, 71, 72, 73, 74, 75, 76, 77, 78, 79, 80, 81, 82, 83, 84, 85, 86, 87, 88, 89, 90, 91, 92, 93, 94, 95, 96, 97, 98, 99, 100, 101, 102, 103, 104, 105, 106, 107, 108, 109, 110]) f H = thenC call it base (.region s_gnomonlaw01_BitsAlgebra_r12t26 [] [7, 8, 9, 10, 11, 12, 13, 60, 61, 62, 63, 64, 65, 66, 67, 68, 69, 70, 71, 72, 73, 74, 75, 76, 77, 78, 79, 80, 81, 82, 83, 84, 85, 86, 87, 88, 89, 90, 91, 92, 93, 94, 95, 96, 97, 98, 99, 100, 101, 102, 103, 104, 105, 106, 107, 108, 109, 110]) (opsC [] s_gnomonlaw01_BitsAlgebra_r12p25 [84, 87] (evOps call base [⟨some 88, (.call (.c (.fn 22 [] [])) [(.t 84), (.t 87)]), some (83, true)⟩] f H)) := (row_op call it base s_gnomonlaw01_BitsAlgebra_r12p25 s_gnomonlaw01_BitsAlgebra_r12t26 (kc := [84, 87]) (by kernel_rfl) f H).trans (by rw [row_ops]; rfl)
theorem s_gnomonlaw01_BitsAlgebra_r12t26_x (call : CallF) (it : IterF) (base : Nat) (f : List V) (H : Heap) : evC call it base (.region s_gnomonlaw01_BitsAlgebra_r12t26 [] [7, 8, 9, 10, 11, 12, 13, 60, 61, 62, 63, 64, 65, 66, 67, 68, 69, 70, 71, 72, 73, 74, 75, 76, 77, 78, 79, 80, 81, 82, 83, 84, 85, 86, 87, 88, 89, 90, 91, 92, 93, 94, 95, 96, 97, 98, 99, 100, 101, 102, 103, 104, 105, 106, 107, 108, 109, 110]) f H = thenC call it base (.region s_gnomonlaw01_BitsAlgebra_r12t27 [] [7, 8, 9, 10, 11, 12, 13, 60, 61, 62, 63, 64, 65, 66, 67, 68, 69, 70, 71, 72, 73, 74, 75, 76, 77, 78, 79, 80, 81, 82, 83, 84, 85, 86, 87, 88, 89, 90, 91, 92, 93, 94, 95, 96, 97, 98, 99, 100, 101, 102, 103, 104, 105, 106, 107, 108, 109, 110]) (opsC [] s_gnomonlaw01_BitsAlgebra_r12p26 [] (evOps call base [⟨some 89, (.move (.t 7)), some (83, true)⟩] f H)) := (row_op call it base s_gnomonlaw01_BitsAlgebra_r12p26 s_gnomonlaw01_BitsAlgebra_r12t27 (kc := []) (by kernel_rfl) f H).trans (by rw [row_ops]; rfl)
theorem s_gnomonlaw01_BitsAlgebra_r12t27_x (call : CallF) (it : IterF) (base : Nat) (f : List V) (H : Heap) : evC call it base (.region s_gnomonlaw01_BitsAlgebra_r12t27 [] [7, 8, 9, 10, 11, 12, 13, 60, 61, 62, 63, 64, 65, 66, 67, 68, 69, 70, 71, 72, 73, 74, 75, 76, 77, 78, 79, 80, 81, 82, 83, 84, 85, 86, 87, 88, 89, 90, 91, 92, 93, 94, 95, 96, 97, 98, 99, 100, 101, 102, 103, 104, 105, 106, 107, 108, 109, 110]) f H = thenC call it base (.region s_gnomonlaw01_BitsAlgebra_r12t28 [] [7, 8, 9, 10, 11, 12, 13, 60, 61, 62, 63, 64, 65, 66, 67, 68, 69, 70, 71, 72, 73, 74, 75, 76, 77, 78, 79, 80, 81, 82, 83, 84, 85, 86, 87, 88, 89, 90, 91, 92, 93, 94, 95, 96, 97, 98, 99, 100, 101, 102, 103, 104, 105, 106, 107, 108, 109, 110]) (opsC [] s_gnomonlaw01_BitsAlgebra_r12p27 [8] (evOps call base [⟨some 90, (.move (.t 8)), some (83, true)⟩] f H)) := (row_op call it base s_gnomonlaw01_BitsAlgebra_r12p27 s_gnomonlaw01_BitsAlgebra_r12t28 (kc := [8]) (by kernel_rfl) f H).trans (by rw [row_ops]; rfl)
theorem s_gnomonlaw01_BitsAlgebra_r12t28_x (call : CallF) (it : IterF) (base : Nat) (f : List V) (H : Heap) : evC call it base (.region s_gnomonlaw01_BitsAlgebra_r12t28 [] [7, 8, 9, 10, 11, 12, 13, 60, 61, 62, 63, 64, 65, 66, 67, 68, 69, 70, 71, 72, 73, 74, 75, 76, 77, 78, 79, 80, 81, 82, 83, 84, 85, 86, 87, 88, 89, 90, 91, 92, 93, 94, 95, 96, 97, 98, 99, 100, 101, 102, 103, 104, 105, 106, 107, 108, 109, 110]) f H = thenC call it base (.region s_gnomonlaw01_BitsAlgebra_r12t29 [] [7, 8, 9, 10, 11, 12, 13, 60, 61, 62, 63, 64, 65, 66, 67, 68, 69, 70, 71, 72, 73, 74, 75, 76, 77, 78, 79, 80, 81, 82, 83, 84, 85, 86, 87, 88, 89, 90, 91, 92, 93, 94, 95, 96, 97, 98, 99, 100, 101, 102, 103, 104, 105, 106, 107, 108, 109, 110]) (opsC [] s_gnomonlaw01_BitsAlgebra_r12p28 [89, 90] (evOps call base [⟨some 91, (.call (.c (.fn 23 [] [])) [(.t 89), (.t 90)]), some (83, true)⟩] f H)) := (row_op call it base s_gnomonlaw01_BitsAlgebra_r12p28 s_gnomonlaw01_BitsAlgebra_r12t29 (kc := [89, 90]) (by kernel_rfl) f H).trans (by rw [row_ops]; rfl)
theorem s_gnomonlaw01_BitsAlgebra_r12t29_x (call : CallF) (it : IterF) (base : Nat) (f : List V) (H : Heap) : evC call it base (.region s_gnomonlaw01_BitsAlgebra_r12t29 [] [7, 8, 9, 10, 11, 12, 13, 60, 61, 62, 63, 64, 65, 66, 67, 68, 69, 70, 71, 72, 73, 74, 75, 76, 77, 78, 79, 80, 81, 82, 83, 84, 85, 86, 87, 88, 89, 90, 91, 92, 93, 94, 95, 96, 97, 98, 99, 100, 101, 102, 103, 104, 105, 106, 107, 108, 109, 110]) f H = thenC call it base (.region s_gnomonlaw01_BitsAlgebra_r12t30 [] [7, 8, 9, 10, 11, 12, 13, 60, 61, 62, 63, 64, 65, 66, 67, 68, 69, 70, 71, 72, 73, 74, 75, 76, 77, 78, 79, 80, 81, 82, 83, 84, 85, 86, 87, 88, 89, 90, 91, 92, 93, 94, 95, 96, 97, 98, 99, 100, 101, 102, 103, 104, 105, 106, 107, 108, 109, 110]) (opsC [] s_gnomonlaw01_BitsAlgebra_r12p29 [88, 91] (evOps call base [⟨some 92, (.call (.c (.fn 14 [] [])) [(.t 88), (.t 91)]), some (83, true)⟩] f H)) := (row_op call it base s_gnomonlaw01_BitsAlgebra_r12p29 s_gnomonlaw01_BitsAlgebra_r12t30 (kc := [88, 91]) (by kernel_rfl) f H).trans (by rw [row_ops]; rfl)
theorem s_gnomonlaw01_BitsAlgebra_r12p30_tale (fr : List V) (H : Heap) : evTale (symAll s_gnomonlaw01_BitsAlgebra_r12p30 [83, 92, 93] [94]) [83, 92, 93] fr H = evTale (some (95, [], [(94, (.pick (.t 83) (.t 92) (.c (.s (.bool false)))))])) [83, 92, 93] fr H := tale_row (items := [.sub 0 [] [], .sub 0 [] []]) (by kernel_rfl) fr H
theorem s_gnomonlaw01_BitsAlgebra_r12t30_x (call : CallF) (it : IterF) (base : Nat) (f : List V) (H : Heap) : evC call it base (.region s_gnomonlaw01_BitsAlgebra_r12t30 [] [7, 8, 9, 10, 11, 12, 13, 60, 61, 62, 63, 64, 65, 66, 67, 68, 69, 70, 71, 72, 73, 74, 75, 76, 77, 78, 79, 80, 81, 82, 83, 84, 85, 86, 87, 88, 89, 90, 91, 92, 93, 94, 95, 96, 97, 98, 99, 100, 101, 102, 103, 104, 105, 106, 107, 108, 109, 110]) f H = segC call it base s_gnomonlaw01_BitsAlgebra_r12t31 [7, 8, 9, 10, 11, 12, 13, 60, 61, 62, 63, 64, 65, 66, 67, 68, 69, 70, 71, 72, 73, 74, 75, 76, 77, 78, 79, 80, 81, 82, 83, 84, 85, 86, 87, 88, 89, 90, 91, 92, 93, 94, 95, 96, 97, 98, 99, 100, 101, 102, 103, 104, 105, 106, 107, 108, 109, 110] H (evTale (symAll s_gnomonlaw01_BitsAlgebra_r12p30 [83, 92, 93] [94]) [83, 92, 93] f H) (origRow call it base s_gnomonlaw01_BitsAlgebra_r12t30 [7, 8, 9, 10, 11, 12, 13, 60, 61, 62, 63, 64, 65, 66, 67, 68, 69, 70, 71, 72, 73, 74, 75, 76, 77, 78, 79, 80, 81, 82, 83, 84, 85, 86, 87, 88, 89, 90, 91, 92, 93, 94, 95, 96, 97, 98, 99, 100, 101, 102, 103, 104, 105, 106, 107, 108, 109, 110] f H) := row_seg call it base s_gnomonlaw01_BitsAlgebra_r12p30 s_gnomonlaw01_BitsAlgebra_r12t31 (by kernel_rfl) f H
theorem s_gnomonlaw01_BitsAlgebra_r12t31_x (call : CallF) (it : IterF) (base : Nat) (f : List V) (H : Heap) : evC call it base (.region s_gnomonlaw01_BitsAlgebra_r12t31 [] [7, 8, 9, 10, 11, 12, 13, 60, 61, 62, 63, 64, 65, 66, 67, 68, 69, 70, 71, 72, 73, 74, 75, 76, 77, 78, 79, 80, 81, 82, 83, 84, 85, 86, 87, 88, 89, 90, 91, 92, 93, 94, 95, 96, 97, 98, 99, 100, 101, 102, 103, 104, 105, 106, 107, 108, 109, 110]) f H = thenC call it base (.region s_gnomonlaw01_BitsAlgebra_r12t32 [] [7, 8, 9, 10, 11, 12, 13, 60, 61, 62, 63, 64, 65, 66, 67, 68, 69, 70, 71, 72, 73, 74, 75, 76, 77, 78, 79, 80, 81, 82, 83, 84, 85, 86, 87, 88, 89, 90, 91, 92, 93, 94, 95, 96, 97, 98, 99, 100, 101, 102, 103, 104, 105, 106, 107, 108, 109, 110]) (opsC [] s_gnomonlaw01_BitsAlgebra_r12p31 [] (evOps call base [⟨some 95, (.move (.t 7)), some (94, true)⟩] f H)) := (row_op call it base s_gnomonlaw01_BitsAlgebra_r12p31 s_gnomonlaw01_BitsAlgebra_r12t32 (kc := []) (by kernel_rfl) f H).trans (by rw [row_ops]; rfl)
theorem s_gnomonlaw01_BitsAlgebra_r12t32_x (call : CallF) (it : IterF) (base : Nat) (f : List V) (H : Heap) : evC call it base (.region s_gnomonlaw01_BitsAlgebra_r12t32 [] [7, 8, 9, 10, 11, 12, 13, 60, 61, 62, 63, 64, 65, 66, 67, 68, 69, 70, 71, 72, 73, 74, 75, 76, 77, 78, 79, 80, 81, 82, 83, 84, 85, 86, 87, 88, 89, 90, 91, 92, 93, 94, 95, 96, 97, 98, 99, 100, 101, 102, 103, 104, 105, 106, 107, 108, 109, 110]) f H = thenC call it base (.region s_gnomonlaw01_BitsAlgebra_r12t33 [] [7, 8, 9, 10, 11, 12, 13, 60, 61, 62, 63, 64, 65, 66, 67, 68, 69, 70, 71, 72, 73, 74, 75, 76, 77, 78, 79, 80, 81, 82, 83, 84, 85, 86, 87, 88, 89, 90, 91, 92, 93, 94, 95, 96, 97, 98, 99, 100, 101, 102, 103, 104, 105, 106, 107, 108, 109, 110]) (opsC [] s_gnomonlaw01_BitsAlgebra_r12p32 [] (evOps call base [⟨some 96, (.move (.t 7)), some (94, true)⟩] f H)) := (row_op call it base s_gnomonlaw01_BitsAlgebra_r12p32 s_gnomonlaw01_BitsAlgebra_r12t33 (kc := []) (by kernel_rfl) f H).trans (by rw [row_ops]; rfl)
theorem s_gnomonlaw01_BitsAlgebra_r12t33_x (call : CallF) (it : IterF) (base : Nat) (f : List V) (H : Heap) : evC call it base (.region s_gnomonlaw01_BitsAlgebra_r12t33 [] [7, 8, 9, 10, 11, 12, 13, 60, 61, 62, 63, 64, 65, 66, 67, 68, 69, 70, 71, 72, 73, 74, 75, 76, 77, 78, 79, 80, 81, 82, 83, 84, 85, 86, 87, 88, 89, 90, 91, 92, 93, 94, 95, 96, 97, 98, 99, 100, 101, 102, 103, 104, 105, 106, 107, 108, 109, 110]) f H = thenC call it base (.region s_gnomonlaw01_BitsAlgebra_r12t34 [] [7, 8, 9, 10, 11, 12, 13, 60, 61, 62, 63, 64, 65, 66, 67, 68, 69, 70, 71, 72, 73, 74, 75, 76, 77, 78, 79, 80, 81, 82, 83, 84, 85, 86, 87, 88, 89, 90, 91, 92, 93, 94, 95, 96, 97, 98, 99, 100, 101, 102, 103, 104, 105, 106, 107, 108, 109, 110]) (opsC [] s_gnomonlaw01_BitsAlgebra_r12p33 [95, 96] (evOps call base [⟨some 97, (.call (.c (.fn 22 [] [])) [(.t 95), (.t 96)]), some (94, true)⟩] f H)) := (row_op call it base s_gnomonlaw01_BitsAlgebra_r12p33 s_gnomonlaw01_BitsAlgebra_r12t34 (kc := [95, 96]) (by kernel_rfl) f H).trans (by rw [row_ops]; rfl)
theorem s_gnomonlaw01_BitsAlgebra_r12t34_x (call : CallF) (it : IterF) (base : Nat) (f : List V) (H : Heap) : evC call it base (.region s_gnomonlaw01_BitsAlgebra_r12t34 [] [7, 8, 9, 10, 11, 12, 13, 60, 61, 62, 63, 64, 65, 66, 67, 68, 69, 70, 71, 72, 73, 74, 75, 76, 77, 78, 79, 80, 81, 82, 83, 84, 85, 86, 87, 88, 89, 90, 91, 92, 93, 94, 95, 96, 97, 98, 99, 100, 101, 102, 103, 104, 105, 106, 107, 108, 109, 110]) f H = thenC call it base (.region s_gnomonlaw01_BitsAlgebra_r12t35 [] [7, 8, 9, 10, 11, 12, 13, 60, 61, 62, 63, 64, 65, 66, 67, 68, 69, 70, 71, 72, 73, 74, 75, 76, 77, 78, 79, 80, 81, 82, 83, 84, 85, 86, 87, 88, 89, 90, 91, 92, 93, 94, 95, 96, 97, 98, 99, 100, 101, 102, 103, 104, 105, 106, 107, 108, 109, 110]) (opsC [] s_gnomonlaw01_BitsAlgebra_r12p34 [97] (evOps call base [⟨some 98, (.call (.c (.fn 20 [] [])) [(.t 97)]), some (94, true)⟩] f H)) := (row_op call it base s_gnomonlaw01_BitsAlgebra_r12p34 s_gnomonlaw01_BitsAlgebra_r12t35 (kc := [97]) (by kernel_rfl) f H).trans (by rw [row_ops]; rfl)
theorem s_gnomonlaw01_BitsAlgebra_r12p35_tale (fr : List V) (H : Heap) : evTale (symAll s_gnomonlaw01_BitsAlgebra_r12p35 [94, 98, 99, 100] [101]) [94, 98, 99, 100] fr H = evTale (some (102, [], [(101, (.pick (.t 94) (.op (.bin .eql (.t 0) (.c (.s (.int .i64 0)))) [(.t 98), (.c (.s (.int .i64 0)))]) (.c (.s (.bool false)))))])) [94, 98, 99, 100] fr H := tale_row (items := [.sub 0 [1] [94], .sub 0 [] [], .sub 0 [] []]) (by kernel_rfl) fr H
theorem s_gnomonlaw01_BitsAlgebra_r12t35_x (call : CallF) (it : IterF) (base : Nat) (f : List V) (H : Heap) : evC call it base (.region s_gnomonlaw01_BitsAlgebra_r12t35 [] [7, 8, 9, 10, 11, 12, 13, 60, 61, 62, 63, 64, 65, 66, 67, 68, 69, 70, 71, 72, 73, 74, 75, 76, 77, 78, 79, 80, 81, 82, 83, 84, 85, 86, 87, 88, 89, 90, 91, 92, 93, 94, 95, 96, 97, 98, 99, 100, 101, 102, 103, 104, 105, 106, 107, 108, 109, 110]) f H = segC call it base s_gnomonlaw01_BitsAlgebra_r12t36 [7, 8, 9, 10, 11, 12, 13, 60, 61, 62, 63, 64, 65, 66, 67, 68, 69, 70, 71, 72, 73, 74, 75, 76, 77, 78, 79, 80, 81, 82, 83, 84, 85, 86, 87, 88, 89, 90, 91, 92, 93, 94, 95, 96, 97, 98, 99, 100, 101, 102, 103, 104, 105, 106, 107, 108, 109, 110] H (evTale (symAll s_gnomonlaw01_BitsAlgebra_r12p35 [94, 98, 99, 100] [101]) [94, 98, 99, 100] f H) (origRow call it base s_gnomonlaw01_BitsAlgebra_r12t35 [7, 8, 9, 10, 11, 12, 13, 60, 61, 62, 63, 64, 65, 66, 67, 68, 69, 70, 71, 72, 73, 74, 75, 76, 77, 78, 79, 80, 81, 82, 83, 84, 85, 86, 87, 88, 89, 90, 91, 92, 93, 94, 95, 96, 97, 98, 99, 100, 101, 102, 103, 104, 105, 106, 107, 108, 109, 110] f H) := row_seg call it base s_gnomonlaw01_BitsAlgebra_r12p35 s_gnomonlaw01_BitsAlgebra_r12t36 (by kernel_rfl) f H
theorem s_gnomonlaw01_BitsAlgebra_r12t36_x (call : CallF) (it : IterF) (base : Nat) (f : List V) (H : Heap) : evC call it base (.region s_gnomonlaw01_BitsAlgebra_r12t36 [] [7, 8, 9, 10, 11, 12, 13, 60, 61, 62, 63, 64, 65, 66, 67, 68, 69, 70, 71, 72, 73, 74, 75, 76, 77, 78, 79, 80, 81, 82, 83, 84, 85, 86, 87, 88, 89, 90, 91, 92, 93, 94, 95, 96, 97, 98, 99, 100, 101, 102, 103, 104, 105, 106, 107, 108, 109, 110]) f H = thenC call it base (.region s_gnomonlaw01_BitsAlgebra_r12t37 [] [7, 8, 9, 10, 11, 12, 13, 60, 61, 62, 63, 64, 65, 66, 67, 68, 69, 70, 71, 72, 73, 74, 75, 76, 77, 78, 79, 80, 81, 82, 83, 84, 85, 86, 87, 88, 89, 90, 91, 92, 93, 94, 95, 96, 97, 98, 99, 100, 101, 102, 103, 104, 105, 106, 107, 108, 109, 110]) (opsC [] s_gnomonlaw01_BitsAlgebra_r12p36 [] (evOps call base [⟨some 102, (.move (.t 7)), some (101, true)⟩] f H)) := (row_op call it base s_gnomonlaw01_BitsAlgebra_r12p36 s_gnomonlaw01_BitsAlgebra_r12t37 (kc := []) (by kernel_rfl) f H).trans (by rw [row_ops]; rfl)
theorem s_gnomonlaw01_BitsAlgebra_r12t37_x (call : CallF) (it : IterF) (base : Nat) (f : List V) (H : Heap) : evC call it base (.region s_gnomonlaw01_BitsAlgebra_r12t37 [] [7, 8, 9, 10, 11, 12, 13, 60, 61, 62, 63, 64, 65, 66, 67, 68, 69, 70, 71, 72, 73, 74, 75, 76, 77, 78, 79, 80, 81, 82, 83, 84, 85, 86, 87, 88, 89, 90, 91, 92, 93, 94, 95, 96, 97, 98, 99, 100, 101, 102, 103, 104, 105, 106, 107, 108, 109, 110]) f H = thenC call it base (.region s_gnomonlaw01_BitsAlgebra_r12t38 [] [7, 8, 9, 10, 11, 12, 13, 60, 61, 62, 63, 64, 65, 66, 67, 68, 69, 70, 71, 72, 73, 74, 75, 76, 77, 78, 79, 80, 81, 82, 83, 84, 85, 86, 87, 88, 89, 90, 91, 92, 93, 94, 95, 96, 97, 98, 99, 100, 101, 102, 103, 104, 105, 106, 107, 108, 109, 110]) (opsC [] s_gnomonlaw01_BitsAlgebra_r12p37 [] (evOps call base [⟨some 103, (.move (.t 7)), some (101, true)⟩] f H)) := (row_op call it base s_gnomonlaw01_BitsAlgebra_r12p37 s_gnomonlaw01_BitsAlgebra_r12t38 (kc := []) (by kernel_rfl) f H).trans (by rw [row_ops]; rfl)
theorem s_gnomonlaw01_BitsAlgebra_r12t38_x (call : CallF) (it : IterF) (base : Nat) (f : List V) (H : Heap) : evC call it base (.region s_gnomonlaw01_BitsAlgebra_r12t38 [] [7, 8, 9, 10, 11, 12, 13, 60, 61, 62, 63, 64, 65, 66, 67, 68, 69, 70, 71, 72, 73, 74, 75, 76, 77, 78, 79, 80, 81, 82, 83, 84, 85, 86, 87, 88, 89, 90, 91, 92, 93, 94, 95, 96, 97, 98, 99, 100, 101, 102, 103, 104, 105, 106, 107, 108, 109, 110]) f H = thenC call it base (.region s_gnomonlaw01_BitsAlgebra_r12t39 [] [7, 8, 9, 10, 11, 12, 13, 60, 61, 62, 63, 64, 65, 66, 67, 68, 69, 70, 71, 72, 73, 74, 75, 76, 77, 78, 79, 80, 81, 82, 83, 84, 85, 86, 87, 88, 89, 90, 91, 92, 93, 94, 95, 96, 97, 98, 99, 100, 101, 102, 103, 104, 105, 106, 107, 108, 109, 110]) (opsC [] s_gnomonlaw01_BitsAlgebra_r12p38 [102, 103] (evOps call base [⟨some 104, (.call (.c (.fn 23 [] [])) [(.t 102), (.t 103)]), some (101, true)⟩] f H)) := (row_op call it base s_gnomonlaw01_BitsAlgebra_r12p38 s_gnomonlaw01_BitsAlgebra_r12t39 (kc := [102, 103]) (by kernel_rfl) f H).trans (by rw [row_ops]; rfl)
theorem s_gnomonlaw01_BitsAlgebra_r12t39_x (call : CallF) (it : IterF) (base : Nat) (f : List V) (H : Heap) : evC call it base (.region s_gnomonlaw01_BitsAlgebra_r12t39 [] [7, 8, 9, 10, 11, 12, 13, 60, 61, 62, 63, 64, 65, 66, 67, 68, 69, 70, 71, 72, 73, 74, 75, 76, 77, 78, 79, 80, 81, 82, 83, 84, 85, 86, 87, 88, 89, 90, 91, 92, 93, 94, 95, 96, 97, 98, 99, 100, 101, 102, 103, 104, 105, 106, 107, 108, 109, 110]) f H = thenC call it base (.region s_gnomonlaw01_BitsAlgebra_r12t40 [] [7, 8, 9, 10, 11, 12, 13, 60, 61, 62, 63, 64, 65, 66, 67, 68, 69, 70, 71, 72, 73, 74, 75, 76, 77, 78, 79, 80, 81, 82, 83, 84, 85, 86, 87, 88, 89, 90, 91, 92, 93, 94, 95, 96, 97, 98, 99, 100, 101, 102, 103, 104, 105, 106, 107, 108, 109, 110]) (opsC [] s_gnomonlaw01_BitsAlgebra_r12p39 [7] (evOps call base [⟨some 105, (.move (.t 7)), some (101, true)⟩] f H)) := (row_op call it base s_gnomonlaw01_BitsAlgebra_r12p39 s_gnomonlaw01_BitsAlgebra_r12t40 (kc := [7]) (by kernel_rfl) f H).trans (by rw [row_ops]; rfl)
theorem s_gnomonlaw01_BitsAlgebra_r12t40_x (call : CallF) (it : IterF) (base : Nat) (f : List V) (H : Heap) : evC call it base (.region s_gnomonlaw01_BitsAlgebra_r12t40 [] [7, 8, 9, 10, 11, 12, 13, 60, 61, 62, 63, 64, 65, 66, 67, 68, 69, 70, 71, 72, 73, 74, 75, 76, 77, 78, 79, 80, 81, 82, 83, 84, 85, 86, 87, 88, 89, 90, 91, 92, 93, 94, 95, 96, 97, 98, 99, 100, 101, 102, 103, 104, 105, 106, 107, 108, 109, 110]) f H = thenC call it base (.region s_gnomonlaw01_BitsAlgebra_r12t41 [] [7, 8, 9, 10, 11, 12, 13, 60, 61, 62, 63, 64, 65, 66, 67, 68, 69, 70, 71, 72, 73, 74, 75, 76, 77, 78, 79, 80, 81, 82, 83, 84, 85, 86, 87, 88, 89, 90, 91, 92, 93, 94, 95, 96, 97, 98, 99, 100, 101, 102, 103, 104, 105, 106, 107, 108, 109, 110]) (opsC [] s_gnomonlaw01_BitsAlgebra_r12p40 [104, 105] (evOps call base [⟨some 106, (.call (.c (.fn 14 [] [])) [(.t 104), (.t 105)]), some (101, true)⟩] f H)) := (row_op call it base s_gnomonlaw01_BitsAlgebra_r12p40 s_gnomonlaw01_BitsAlgebra_r12t41 (kc := [104, 105]) (by kernel_rfl) f H).trans (by rw [row_ops]; rfl)
theorem s_gnomonlaw01_BitsAlgebra_r12p41_tale (fr : List V) (H : Heap) : evTale (symAll s_gnomonlaw01_BitsAlgebra_r12p41 [101, 106, 107] [108]) [101, 106, 107] fr H = evTale (some (109, [], [(108, (.pick (.t 101) (.t 106) (.c (.s (.bool false)))))])) [101, 106, 107] fr H := tale_row (items := [.sub 0 [] [], .sub 0 [] []]) (by kernel_rfl) fr H
theorem s_gnomonlaw01_BitsAlgebra_r12t41_x (call : CallF) (it : IterF) (base : Nat) (f : List V) (H : Heap) : evC call it base (.region s_gnomonlaw01_BitsAlgebra_r12t41 [] [7, 8, 9, 10, 11, 12, 13, 60, 61, 62, 63, 64, 65, 66, 67, 68, 69, 70, 71, 72, 73, 74, 75, 76, 77, 78, 79, 80, 81, 82, 83, 84, 85, 86, 87, 88, 89, 90, 91, 92, 93, 94, 95, 96, 97, 98, 99, 100, 101, 102, 103, 104, 105, 106, 107, 108, 109, 110]) f H = segC call it base s_gnomonlaw01_BitsAlgebra_r12t42 [7, 8, 9, 10, 11, 12, 13, 60, 61, 62, 63, 64, 65, 66, 67, 68, 69, 70, 71, 72, 73, 74, 75, 76, 77, 78, 79, 80, 81, 82, 83, 84, 85, 86, 87, 88, 89, 90, 91, 92, 93, 94, 95, 96, 97, 98, 99, 100, 101, 102, 103, 104, 105, 106, 107, 108, 109, 110] H (evTale (symAll s_gnomonlaw01_BitsAlgebra_r12p41 [101, 106, 107] [108]) [101, 106, 107] f H) (origRow call it base s_gnomonlaw01_BitsAlgebra_r12t41 [7, 8, 9, 10, 11, 12, 13, 60, 61, 62, 63, 64, 65, 66, 67, 68, 69, 70, 71, 72, 73, 74, 75, 76, 77, 78, 79, 80, 81, 82, 83, 84, 85, 86, 87, 88, 89, 90, 91, 92, 93, 94, 95, 96, 97, 98, 99, 100, 101, 102, 103, 104, 105, 106, 107, 108, 109, 110] f H) := row_seg call it base s_gnomonlaw01_BitsAlgebra_r12p41 s_gnomonlaw01_BitsAlgebra_r12t42 (by kernel_rfl) f H
theorem s_gnomonlaw01_BitsAlgebra_r12t42_x (call : CallF) (it : IterF) (base : Nat) (f : List V) (H : Heap) : evC call it base (.region s_gnomonlaw01_BitsAlgebra_r12t42 [] [7, 8, 9, 10, 11, 12, 13, 60, 61, 62, 63, 64, 65, 66, 67, 68, 69, 70, 71, 72, 73, 74, 75, 76, 77, 78, 79, 80, 81, 82, 83, 84, 85, 86, 87, 88, 89, 90, 91, 92, 93, 94, 95, 96, 97, 98, 99, 100, 101, 102, 103, 104, 105, 106, 107, 108, 109, 110]) f H = thenC call it base (.region s_gnomonlaw01_BitsAlgebra_r12t43 [] [7, 8, 9, 10, 11, 12, 13, 60, 61, 62, 63, 64, 65, 66, 67, 68, 69, 70, 71, 72, 73, 74, 75, 76, 77, 78, 79, 80, 81, 82, 83, 84, 85, 86, 87, 88, 89, 90, 91, 92, 93, 94, 95, 96, 97, 98, 99, 100, 101, 102, 103, 104, 105, 106, 107, 108, 109, 110]) (opsC [] s_gnomonlaw01_BitsAlgebra_r12p42 [] (evOps call base [⟨some 109, (.call (.c (.fn 10 [] [])) []), some (108, true)⟩] f H)) := (row_op call it base s_gnomonlaw01_BitsAlgebra_r12p42 s_gnomonlaw01_BitsAlgebra_r12t43 (kc := []) (by kernel_rfl) f H).trans (by rw [row_ops]; rfl)
theorem s_gnomonlaw01_BitsAlgebra_r12t43_tale (fr : List V) (H : Heap) : evTale (symAll s_gnomonlaw01_BitsAlgebra_r12t43 [7, 8, 9, 10, 11, 12, 13, 60, 61, 62, 63, 64, 65, 66, 67, 68, 69, 70, 71, 72, 73, 74, 75, 76, 77, 78, 79, 80, 81, 82, 83, 84, 85, 86, 87, 88, 89, 90, 91, 92, 93, 94, 95, 96, 97, 98, 99, 100, 101, 102, 103, 104, 105, 106, 107, 108, 109, 110] [6]) [7, 8, 9, 10, 11, 12, 13, 60, 61, 62, 63, 64, 65, 66, 67, 68, 69, 70, 71, 72, 73, 74, 75, 76, 77, 78, 79, 80, 81, 82, 83, 84, 85, 86, 87, 88, 89, 90, 91, 92, 93, 94, 95, 96, 97, 98, 99, 100, 101, 102, 103, 104, 105, 106, 107, 108, 109, 110] fr H = evTale (some (111, [], [(6, (.pick (.t 108) (.t 109) (.c (.s (.bool false)))))])) [7, 8, 9, 10, 11, 12, 13, 60, 61, 62, 63, 64, 65, 66, 67, 68, 69, 70, 71, 72, 73, 74, 75, 76, 77, 78, 79, 80, 81, 82, 83, 84, 85, 86, 87, 88, 89, 90, 91, 92, 93, 94, 95, 96, 97, 98, 99, 100, 101, 102, 103, 104, 105, 106, 107, 108, 109, 110] fr H := tale_row (items := [.sub 0 [] [], .sub 0 [] []]) (by kernel_rfl) fr H
theorem s_gnomonlaw01_BitsAlgebra_r12t43_x (call : CallF) (it : IterF) (base : Nat) (f : List V) (H : Heap) : evC call it base (.region s_gnomonlaw01_BitsAlgebra_r12t43 [] [7, 8, 9, 10, 11, 12, 13, 60, 61, 62, 63, 64, 65, 66, 67, 68, 69, 70, 71, 72, 73, 74, 75, 76, 77, 78, 79, 80, 81, 82, 83, 84, 85, 86, 87, 88, 89, 90, 91, 92, 93, 94, 95, 96, 97, 98, 99, 100, 101, 102, 103, 104, 105, 106, 107, 108, 109, 110]) f H = segL H (evTale (symAll s_gnomonlaw01_BitsAlgebra_r12t43 [7, 8, 9, 10, 11, 12, 13, 60, 61, 62, 63, 64, 65, 66, 67, 68, 69, 70, 71, 72, 73, 74, 75, 76, 77, 78, 79, 80, 81, 82, 83, 84, 85, 86, 87, 88, 89, 90, 91, 92, 93, 94, 95, 96, 97, 98, 99, 100, 101, 102, 103, 104, 105, 106, 107, 108, 109, 110] [6]) [7, 8, 9, 10, 11, 12, 13, 60, 61, 62, 63, 64, 65, 66, 67, 68, 69, 70, 71, 72, 73, 74, 75, 76, 77, 78, 79, 80, 81, 82, 83, 84, 85, 86, 87, 88, 89, 90, 91, 92, 93, 94, 95, 96, 97, 98, 99, 100, 101, 102, 103, 104, 105, 106, 107, 108, 109, 110] f H) (origRow call it base s_gnomonlaw01_BitsAlgebra_r12t43 [7, 8, 9, 10, 11, 12, 13, 60, 61, 62, 63, 64, 65, 66, 67, 68, 69, 70, 71, 72, 73, 74, 75, 76, 77, 78, 79, 80, 81, 82, 83, 84, 85, 86, 87, 88, 89, 90, 91, 92, 93, 94, 95, 96, 97, 98, 99, 100, 101, 102, 103, 104, 105, 106, 107, 108, 109, 110] f H) := row_last call it base _ f H
def s_gnomonlaw01_BitsAlgebra : ACFun := { ntmps := 111, results := [(.tmp 6)], body :=
  (.seq (.regionE s_gnomonlaw01_BitsAlgebra_r0 s_gnomonlaw01_BitsAlgebra_r0_k [])
  (.seq (.seq (.regionE s_gnomonlaw01_BitsAlgebra_r1 [14, 15, 16, 17, 18, 19, 20, 21, 22, 23, 24, 25] [26])
  (.cond (.t 26)
  (.seq (.region s_gnomonlaw01_BitsAlgebra_r2 [] [0, 1, 2, 26, 27])
  .ret)
  .skip))
  (.seq (.region s_gnomonlaw01_BitsAlgebra_r3 [] [0, 1, 2, 26, 28, 29, 30, 31, 32, 33])
  (.seq (.region s_gnomonlaw01_BitsAlgebra_r4 [] [34, 35])
  (.seq (.region s_gnomonlaw01_BitsAlgebra_r5 [] [36, 37, 38])
  (.seq (.region s_gnomonlaw01_BitsAlgebra_r6 [] [39, 40, 41])
  (.seq (.region s_gnomonlaw01_BitsAlgebra_r7 [] [42, 43, 44, 45, 46])
  (.seq (.region s_gnomonlaw01_BitsAlgebra_r8 [] [47, 48, 49])
  (.seq (.region s_gnomonlaw01_BitsAlgebra_r9 [] [50, 51, 52, 53, 54])
  (.seq (.region s_gnomonlaw01_BitsAlgebra_r10 [] [55, 56])
  (.seq (.region s_gnomonlaw01_BitsAlgebra_r11 [] [57, 58, 59])
  (.seq (.region s_gnomonlaw01_BitsAlgebra_r12 [] [7, 8, 9, 10, 11, 12, 13, 60, 61, 62, 63, 64, 65, 66, 67, 68, 69, 70, 71, 72, 73, 74, 75, 76, 77, 78, 79, 80, 81, 82, 83, 84, 85, 86, 87, 88, 89, 90, 91, 92, 93, 94, 95, 96, 97, 98, 99, 100, 101, 102, 103, 104, 105, 106, 107, 108, 109, 110])
  .ret)))))))))))) }
def a_gnomonlaw01_BitsAlgebra := And.intro @s_gnomonlaw01_BitsAlgebra_r0_tale (And.intro @s_gnomonlaw01_BitsAlgebra_r0_kT (And.intro @s_gnomonlaw01_BitsAlgebra_r0_kA0 (And.intro @s_gnomonlaw01_BitsAlgebra_r0_kA1 (And.intro @s_gnomonlaw01_BitsAlgebra_r0_kA2 (And.intro @s_gnomonlaw01_BitsAlgebra_r1_tale (And.intro @s_gnomonlaw01_BitsAlgebra_r2_x (And.intro @s_gnomonlaw01_BitsAlgebra_r2t1_tale (And.intro @s_gnomonlaw01_BitsAlgebra_r2t1_x (And.intro @s_gnomonlaw01_BitsAlgebra_r3p0_tale (And.intro @s_gnomonlaw01_BitsAlgebra_r3_x (And.intro @s_gnomonlaw01_BitsAlgebra_r3t1_x (And.intro @s_gnomonlaw01_BitsAlgebra_r3p2_tale (And.intro @s_gnomonlaw01_BitsAlgebra_r3t2_x (And.intro @s_gnomonlaw01_BitsAlgebra_r3t3_x (And.intro @s_gnomonlaw01_BitsAlgebra_r3p4_tale (And.intro @s_gnomonlaw01_BitsAlgebra_r3t4_x (And.intro @s_gnomonlaw01_BitsAlgebra_r3t5_x (And.intro @s_gnomonlaw01_BitsAlgebra_r3t6_tale (And.intro @s_gnomonlaw01_BitsAlgebra_r3t6_x (And.intro @s_gnomonlaw01_BitsAlgebra_r4p0_tale (And.intro @s_gnomonlaw01_BitsAlgebra_r4_x (And.intro @s_gnomonlaw01_BitsAlgebra_r4t1_x (And.intro @s_gnomonlaw01_BitsAlgebra_r4t2_tale (And.intro @s_gnomonlaw01_BitsAlgebra_r4t2_x (And.intro @s_gnomonlaw01_BitsAlgebra_r5p0_tale (And.intro @s_gnomonlaw01_BitsAlgebra_r5_x (And.intro @s_gnomonlaw01_BitsAlgebra_r5t1_x (And.intro @s_gnomonlaw01_BitsAlgebra_r6p0_tale (And.intro @s_gnomonlaw01_BitsAlgebra_r6_x (And.intro @s_gnomonlaw01_BitsAlgebra_r6t1_x (And.intro @s_gnomonlaw01_BitsAlgebra_r6t2_tale (And.intro @s_gnomonlaw01_BitsAlgebra_r6t2_x (And.intro @s_gnomonlaw01_BitsAlgebra_r7p0_tale (And.intro @s_gnomonlaw01_BitsAlgebra_r7_x (And.intro @s_gnomonlaw01_BitsAlgebra_r7t1_x (And.intro @s_gnomonlaw01_BitsAlgebra_r7t2_x (And.intro @s_gnomonlaw01_BitsAlgebra_r8p0_tale (And.intro @s_gnomonlaw01_BitsAlgebra_r8_x (And.intro @s_gnomonlaw01_BitsAlgebra_r8t1_x (And.intro @s_gnomonlaw01_BitsAlgebra_r8t2_tale (And.intro @s_gnomonlaw01_BitsAlgebra_r8t2_x (And.intro @s_gnomonlaw01_BitsAlgebra_r9p0_tale (And.intro @s_gnomonlaw01_BitsAlgebra_r9_x (And.intro @s_gnomonlaw01_BitsAlgebra_r9t1_x (And.intro @s_gnomonlaw01_BitsAlgebra_r9t2_x (And.intro @s_gnomonlaw01_BitsAlgebra_r10p0_tale (And.intro @s_gnomonlaw01_BitsAlgebra_r10_x (And.intro @s_gnomonlaw01_BitsAlgebra_r10t1_x (And.intro @s_gnomonlaw01_BitsAlgebra_r10t2_tale (And.intro @s_gnomonlaw01_BitsAlgebra_r10t2_x (And.intro @s_gnomonlaw01_BitsAlgebra_r11p0_tale (And.intro @s_gnomonlaw01_BitsAlgebra_r11_x (And.intro @s_gnomonlaw01_BitsAlgebra_r11t1_x (And.intro @s_gnomonlaw01_BitsAlgebra_r12p0_tale (And.intro @s_gnomonlaw01_BitsAlgebra_r12_x (And.intro @s_gnomonlaw01_BitsAlgebra_r12t1_x (And.intro @s_gnomonlaw01_BitsAlgebra_r12p2_tale (And.intro @s_gnomonlaw01_BitsAlgebra_r12t2_x (And.intro @s_gnomonlaw01_BitsAlgebra_r12t3_x (And.intro @s_gnomonlaw01_BitsAlgebra_r12p4_tale (And.intro @s_gnomonlaw01_BitsAlgebra_r12t4_x (And.intro @s_gnomonlaw01_BitsAlgebra_r12t5_x (And.intro @s_gnomonlaw01_BitsAlgebra_r12t6_x (And.intro @s_gnomonlaw01_BitsAlgebra_r12t7_x (And.intro @s_gnomonlaw01_BitsAlgebra_r12t8_x (And.intro @s_gnomonlaw01_BitsAlgebra_r12t9_x (And.intro @s_gnomonlaw01_BitsAlgebra_r12p10_tale (And.intro @s_gnomonlaw01_BitsAlgebra_r12t10_x (And.intro @s_gnomonlaw01_BitsAlgebra_r12t11_x (And.intro @s_gnomonlaw01_BitsAlgebra_r12t12_x (And.intro @s_gnomonlaw01_BitsAlgebra_r12t13_x (And.intro @s_gnomonlaw01_BitsAlgebra_r12t14_x (And.intro @s_gnomonlaw01_BitsAlgebra_r12t15_x (And.intro @s_gnomonlaw01_BitsAlgebra_r12t16_x (And.intro @s_gnomonlaw01_BitsAlgebra_r12t17_x (And.intro @s_gnomonlaw01_BitsAlgebra_r12t18_x (And.intro @s_gnomonlaw01_BitsAlgebra_r12t19_x (And.intro @s_gnomonlaw01_BitsAlgebra_r12p20_tale (And.intro @s_gnomonlaw01_BitsAlgebra_r12t20_x (And.intro @s_gnomonlaw01_BitsAlgebra_r12t21_x (And.intro @s_gnomonlaw01_BitsAlgebra_r12t22_x (And.intro @s_gnomonlaw01_BitsAlgebra_r12t23_x (And.intro @s_gnomonlaw01_BitsAlgebra_r12t24_x (And.intro @s_gnomonlaw01_BitsAlgebra_r12t25_x (And.intro @s_gnomonlaw01_BitsAlgebra_r12t26_x (And.intro @s_gnomonlaw01_BitsAlgebra_r12t27_x (And.intro @s_gnomonlaw01_BitsAlgebra_r12t28_x (And.intro @s_gnomonlaw01_BitsAlgebra_r12t29_x (And.intro @s_gnomonlaw01_BitsAlgebra_r12p30_tale (And.intro @s_gnomonlaw01_BitsAlgebra_r12t30_x (And.intro @s_gnomonlaw01_BitsAlgebra_r12t31_x (And.intro @s_gnomonlaw01_BitsAlgebra_r12t32_x (And.intro @s_gnomonlaw01_BitsAlgebra_r12t33_x (And.intro @s_gnomonlaw01_BitsAlgebra_r12t34_x (And.intro @s_gnomonlaw01_BitsAlgebra_r12p35_tale (And.intro @s_gnomonlaw01_BitsAlgebra_r12t35_x (And.intro @s_gnomonlaw01_BitsAlgebra_r12t36_x (And.intro @s_gnomonlaw01_BitsAlgebra_r12t37_x (And.intro @s_gnomonlaw01_BitsAlgebra_r12t38_x (And.intro @s_gnomonlaw01_BitsAlgebra_r12t39_x (And.intro @s_gnomonlaw01_BitsAlgebra_r12t40_x (And.intro @s_gnomonlaw01_BitsAlgebra_r12p41_tale (And.intro @s_gnomonlaw01_BitsAlgebra_r12t41_x (And.intro @s_gnomonlaw01_BitsAlgebra_r12t42_x (And.intro @s_gnomonlaw01_BitsAlgebra_r12t43_tale (@s_gnomonlaw01_BitsAlgebra_r12t43_x))))))))))))))))))))))))))))))))))))))))))))))))))))))))))))))))))))))))))))))))))))))))))))))))))))))))))
theorem CB3_7 : compK Tryd.prog PX0 7 = some (false, s_gnomonlaw01_BitsAlgebra.ntmps, s_gnomonlaw01_BitsAlgebra.results, s_gnomonlaw01_BitsAlgebra.body.bare) := by kernel_rfl
end Go.Proofs.YtccallbknpbggaaDoor
set_option maxRecDepth 100000
namespace Go.Proofs.YtccallbknpbggaaDoor
open Go.AM
section
variable {CT : Nat → Option CFun}
theorem algebra_law (h : TD CT) (hF : CT k_gnomonlaw01_BitsAlgebra = some (.code s_gnomonlaw01_BitsAlgebra)) (hwk : ∀ base H, callW CT (.fn k_gnomonlaw01_wakes [] []) [] base H = some (.s (.bool true), H))
    (va : V) (a : List Int) (hva : ∀ H, Rd H va (a.map iV)) (hwa : Wide1 va) (hna : a.length < 2 ^ 63) (hxa : ∀ x ∈ a, x < 2 ^ 63) (vb : V) (b : List Int) (hvb : ∀ H, Rd H vb (b.map iV)) (hwb : Wide1 vb) (hnb : b.length < 2 ^ 63) (hxb : ∀ x ∈ b, x < 2 ^ 63) (vc : V) (c : List Int) (hvc : ∀ H, Rd H vc (c.map iV)) (hwc : Wide1 vc) (hnc : c.length < 2 ^ 63) (hxc : ∀ x ∈ c, x < 2 ^ 63) :
    ∃ H', callW CT (.fn k_gnomonlaw01_BitsAlgebra [] []) [va, vb, vc] 0 [] = some (.s (.bool true), H') := by
  suffices hall : ∀ A0 : Heap, ∃ H', callW CT (.fn k_gnomonlaw01_BitsAlgebra [] []) [va, vb, vc] 0 A0 = some (.s (.bool true), H') from hall []
  intro A0
  have la := fun H => iV_len' (hva H)
  have lb := fun H => iV_len' (hvb H)
  have lc := fun H => iV_len' (hvc H)
  by_cases ha : a.length > 1000
  · have hg : decide ((a.length : Int) > 1000) = true := by simp; omega
    refine ⟨A0, callW_fn (c := s_gnomonlaw01_BitsAlgebra) hF (by simp [s_gnomonlaw01_BitsAlgebra]) ?_⟩
    simp only [s_gnomonlaw01_BitsAlgebra, a_gnomonlaw01_BitsAlgebra, am0,am1,am2,am3,am4,am5,am6,am7,bl,i64,reduceIte,reduceCtorEq,Nat.reduceEqDiff,Nat.reduceLT,Nat.reduceLeDiff,Nat.reduceBEq,Nat.reduceAdd,fillA,splice,Nat.reduceMul,al0,al1,al2,al3,al4,al5,al6,al7,al8,al9,al10,al11,al12,al13,al14,al15,al16,al17,al18,al19,al20,al21,al22,al23,al24,al25,al26,al27,al28,al29,al30,al31,al32,al33,al34,amY, la, lb, lc, hg, hwk]
    done
  have ga : decide ((a.length : Int) > 1000) = false := by simp; omega
  by_cases hb : b.length > 1000
  · have hg : decide ((b.length : Int) > 1000) = true := by simp; omega
    refine ⟨A0, callW_fn (c := s_gnomonlaw01_BitsAlgebra) hF (by simp [s_gnomonlaw01_BitsAlgebra]) ?_⟩
    simp only [s_gnomonlaw01_BitsAlgebra, a_gnomonlaw01_BitsAlgebra, am0,am1,am2,am3,am4,am5,am6,am7,bl,i64,reduceIte,reduceCtorEq,Nat.reduceEqDiff,Nat.reduceLT,Nat.reduceLeDiff,Nat.reduceBEq,Nat.reduceAdd,fillA,splice,Nat.reduceMul,al0,al1,al2,al3,al4,al5,al6,al7,al8,al9,al10,al11,al12,al13,al14,al15,al16,al17,al18,al19,al20,al21,al22,al23,al24,al25,al26,al27,al28,al29,al30,al31,al32,al33,al34,amY, la, lb, lc, ga, hg, hwk]
    done
  have gb : decide ((b.length : Int) > 1000) = false := by simp; omega
  by_cases hc : c.length > 1000
  · have hg : decide ((c.length : Int) > 1000) = true := by simp; omega
    refine ⟨A0, callW_fn (c := s_gnomonlaw01_BitsAlgebra) hF (by simp [s_gnomonlaw01_BitsAlgebra]) ?_⟩
    simp only [s_gnomonlaw01_BitsAlgebra, a_gnomonlaw01_BitsAlgebra, am0,am1,am2,am3,am4,am5,am6,am7,bl,i64,reduceIte,reduceCtorEq,Nat.reduceEqDiff,Nat.reduceLT,Nat.reduceLeDiff,Nat.reduceBEq,Nat.reduceAdd,fillA,splice,Nat.reduceMul,al0,al1,al2,al3,al4,al5,al6,al7,al8,al9,al10,al11,al12,al13,al14,al15,al16,al17,al18,al19,al20,al21,al22,al23,al24,al25,al26,al27,al28,al29,al30,al31,al32,al33,al34,amY, la, lb, lc, ga, gb, hg, hwk]
    done
  have gc : decide ((c.length : Int) > 1000) = false := by simp; omega
  obtain ⟨A1, eA1, sx, kx, lA1⟩ := of_P h.toTB 0 (H := A0) (v := va) (l := a) (hva _) hwa (by first | omega | decide) hxa (Nat.zero_le _)
  have kA1 := kx.d []
  clear kx
  have cx : cnt (ofP a noP) ≤ 1000 := Nat.le_trans (cnt_of hxa) (by first | omega | decide)
  have dx := SetW.lt sx
  obtain ⟨A2, eA2, sy, kx, lA2⟩ := of_P h.toTB 0 (H := A1) (v := vb) (l := b) (hvb _) hwb (by first | omega | decide) hxb (Nat.zero_le _)
  have kA2 := kx.d []
  clear kx
  have sx := kA2.s sx
  have cy : cnt (ofP b noP) ≤ 1000 := Nat.le_trans (cnt_of hxb) (by first | omega | decide)
  have dy := SetW.lt sy
  obtain ⟨A3, eA3, sz, kx, lA3⟩ := of_P h.toTB 0 (H := A2) (v := vc) (l := c) (hvc _) hwc (by first | omega | decide) hxc (Nat.zero_le _)
  have kA3 := kx.d []
  clear kx
  have sx := kA3.s sx
  have sy := kA3.s sy
  have cz : cnt (ofP c noP) ≤ 1000 := Nat.le_trans (cnt_of hxc) (by first | omega | decide)
  have dz := SetW.lt sz
  obtain ⟨A4, eA4, su, kA4, lA4⟩ := copy_ex h.toTC 0 sx
  have sx := kA4.s sx
  have sy := kA4.s sy
  have sz := kA4.s sz
  have cu := cx
  have du := SetW.lt su
  have mA5 := cnt_uniA su.wd sy.wd
  obtain ⟨A5, eA5, nu, kA5⟩ := union_P h.toTB 0 su (Nat.zero_le _) (Nat.zero_le _) sy (.inr ⟨by omega, by omega, by omega, by omega⟩) (by omega) h.union
  have sx := kA5.s sx ⟨by omega, by omega, by omega, by omega⟩
  have sy := kA5.s sy ⟨by omega, by omega, by omega, by omega⟩
  have sz := kA5.s sz ⟨by omega, by omega, by omega, by omega⟩
  have su := nu
  clear nu
  have cu := mA5
  have lA5 := kA5.1
  have mA6 := cnt_minus sx.wd sz.wd
  obtain ⟨ip, jp, A6, eA6, sp, kA6, gp, qp⟩ := minus_P h.toTC 0 sx (by omega) (AtV.set h.toTB sz) (Nat.zero_le _)
  have sx := kA6.s sx
  have sy := kA6.s sy
  have sz := kA6.s sz
  have su := kA6.s su
  have cp := mA6
  have dp := SetW.lt sp
  have lA6 := kA6.1
  have mA7 := cnt_minus sy.wd sz.wd
  obtain ⟨it1, jt1, A7, eA7, st1, kA7, gt1, qt1⟩ := minus_P h.toTC 0 sy (by omega) (AtV.set h.toTB sz) (Nat.zero_le _)
  have sx := kA7.s sx
  have sy := kA7.s sy
  have sz := kA7.s sz
  have su := kA7.s su
  have sp := kA7.s sp
  have ct1 := mA7
  have dt1 := SetW.lt st1
  have lA7 := kA7.1
  have mA8 := cnt_uniA sp.wd st1.wd
  obtain ⟨A8, eA8, np, kA8⟩ := union_P h.toTB 0 sp (Nat.zero_le _) (Nat.zero_le _) st1 (.inr ⟨by omega, by omega, by omega, by omega⟩) (by omega) h.union
  have sx := kA8.s sx ⟨by omega, by omega, by omega, by omega⟩
  have sy := kA8.s sy ⟨by omega, by omega, by omega, by omega⟩
  have sz := kA8.s sz ⟨by omega, by omega, by omega, by omega⟩
  have su := kA8.s su ⟨by omega, by omega, by omega, by omega⟩
  have st1 := kA8.s st1 ⟨by omega, by omega, by omega, by omega⟩
  have sp := np
  clear np
  have cp := mA8
  have lA8 := kA8.1
  have mA9 := cnt_both sx.wd sz.wd
  obtain ⟨iq, jq, A9, eA9, sq, kA9, gq, qq⟩ := both_P h.toTC 0 sx (by omega) (AtV.set h.toTB sz) (Nat.zero_le _)
  have sx := kA9.s sx
  have sy := kA9.s sy
  have sz := kA9.s sz
  have su := kA9.s su
  have sp := kA9.s sp
  have st1 := kA9.s st1
  have cq := mA9
  have dq := SetW.lt sq
  have lA9 := kA9.1
  have mA10 := cnt_both sy.wd sz.wd
  obtain ⟨it2, jt2, A10, eA10, st2, kA10, gt2, qt2⟩ := both_P h.toTC 0 sy (by omega) (AtV.set h.toTB sz) (Nat.zero_le _)
  have sx := kA10.s sx
  have sy := kA10.s sy
  have sz := kA10.s sz
  have su := kA10.s su
  have sp := kA10.s sp
  have st1 := kA10.s st1
  have sq := kA10.s sq
  have ct2 := mA10
  have dt2 := SetW.lt st2
  have lA10 := kA10.1
  have mA11 := cnt_uniA sq.wd st2.wd
  obtain ⟨A11, eA11, nq, kA11⟩ := union_P h.toTB 0 sq (Nat.zero_le _) (Nat.zero_le _) st2 (.inr ⟨by omega, by omega, by omega, by omega⟩) (by omega) h.union
  have sx := kA11.s sx ⟨by omega, by omega, by omega, by omega⟩
  have sy := kA11.s sy ⟨by omega, by omega, by omega, by omega⟩
  have sz := kA11.s sz ⟨by omega, by omega, by omega, by omega⟩
  have su := kA11.s su ⟨by omega, by omega, by omega, by omega⟩
  have sp := kA11.s sp ⟨by omega, by omega, by omega, by omega⟩
  have st1 := kA11.s st1 ⟨by omega, by omega, by omega, by omega⟩
  have st2 := kA11.s st2 ⟨by omega, by omega, by omega, by omega⟩
  have sq := nq
  clear nq
  have cq := mA11
  have lA11 := kA11.1
  obtain ⟨A12, eA12, sw, kA12, lA12⟩ := copy_ex h.toTC 0 sy
  have sx := kA12.s sx
  have sy := kA12.s sy
  have sz := kA12.s sz
  have su := kA12.s su
  have sp := kA12.s sp
  have st1 := kA12.s st1
  have sq := kA12.s sq
  have st2 := kA12.s st2
  have cw := cy
  have dw := SetW.lt sw
  have mA13 := cnt_uniA sw.wd sz.wd
  obtain ⟨A13, eA13, nw, kA13⟩ := union_P h.toTB 0 sw (Nat.zero_le _) (Nat.zero_le _) sz (.inr ⟨by omega, by omega, by omega, by omega⟩) (by omega) h.union
  have sx := kA13.s sx ⟨by omega, by omega, by omega, by omega⟩
  have sy := kA13.s sy ⟨by omega, by omega, by omega, by omega⟩
  have sz := kA13.s sz ⟨by omega, by omega, by omega, by omega⟩
  have su := kA13.s su ⟨by omega, by omega, by omega, by omega⟩
  have sp := kA13.s sp ⟨by omega, by omega, by omega, by omega⟩
  have st1 := kA13.s st1 ⟨by omega, by omega, by omega, by omega⟩
  have sq := kA13.s sq ⟨by omega, by omega, by omega, by omega⟩
  have st2 := kA13.s st2 ⟨by omega, by omega, by omega, by omega⟩
  have sw := nw
  clear nw
  have cw := mA13
  have lA13 := kA13.1
  have mA14 := cnt_minus su.wd sz.wd
  obtain ⟨it3, jt3, A14, eA14, st3, kA14, gt3, qt3⟩ := minus_P h.toTC 0 su (by omega) (AtV.set h.toTB sz) (Nat.zero_le _)
  have sx := kA14.s sx
  have sy := kA14.s sy
  have sz := kA14.s sz
  have su := kA14.s su
  have sp := kA14.s sp
  have st1 := kA14.s st1
  have sq := kA14.s sq
  have st2 := kA14.s st2
  have sw := kA14.s sw
  have ct3 := mA14
  have dt3 := SetW.lt st3
  have lA14 := kA14.1
  obtain ⟨r1, A15, eA15, zr1, kA15⟩ := same_P h.toTC 0 st3 (by omega) (AtV.set h.toTB sp) (LenV.set h.toTB sp) (Nat.zero_le _)
  have zr1 := zr1.trans (same_iff st3.wd sp.wd)
  have yr1 : r1 = true := zr1.2 (el_ext st3.wd sp.wd fun n => by simp only [mem_of hxa, mem_of hxb, mem_of hxc, mem_uniA (of_wd hxa) (of_wd hxb), mem_uniA (of_wd hxb) (of_wd hxc), mem_minus (of_wd hxa) (of_wd hxc), mem_minus (of_wd hxb) (of_wd hxc), mem_both (of_wd hxa) (of_wd hxc), mem_both (of_wd hxb) (of_wd hxc), mem_minus (of_wd hxa) (of_wd hxb), mem_both (of_wd hxa) (of_wd hxb), mem_both (of_wd hxa) (of_wd hxa), mem_uniA (minus_wd (of_wd hxa)) (minus_wd (of_wd hxb)), mem_uniA (both_wd (of_wd hxa)) (both_wd (of_wd hxb)), mem_minus (uniA_wd (of_wd hxa) (of_wd hxb)) (of_wd hxc), mem_both (uniA_wd (of_wd hxa) (of_wd hxb)) (of_wd hxc), mem_minus (minus_wd (of_wd hxa)) (of_wd hxc), mem_minus (of_wd hxa) (uniA_wd (of_wd hxb) (of_wd hxc)), mem_minus (of_wd hxa) (minus_wd (of_wd hxa))]; grind)
  subst yr1
  have sx := kA15.s sx
  have sy := kA15.s sy
  have sz := kA15.s sz
  have su := kA15.s su
  have sp := kA15.s sp
  have st1 := kA15.s st1
  have sq := kA15.s sq
  have st2 := kA15.s st2
  have sw := kA15.s sw
  have st3 := kA15.s st3
  have lA15 := kA15.1
  have mA16 := cnt_both su.wd sz.wd
  obtain ⟨it4, jt4, A16, eA16, st4, kA16, gt4, qt4⟩ := both_P h.toTC 0 su (by omega) (AtV.set h.toTB sz) (Nat.zero_le _)
  have sx := kA16.s sx
  have sy := kA16.s sy
  have sz := kA16.s sz
  have su := kA16.s su
  have sp := kA16.s sp
  have st1 := kA16.s st1
  have sq := kA16.s sq
  have st2 := kA16.s st2
  have sw := kA16.s sw
  have st3 := kA16.s st3
  have ct4 := mA16
  have dt4 := SetW.lt st4
  have lA16 := kA16.1
  obtain ⟨r2, A17, eA17, zr2, kA17⟩ := same_P h.toTC 0 st4 (by omega) (AtV.set h.toTB sq) (LenV.set h.toTB sq) (Nat.zero_le _)
  have zr2 := zr2.trans (same_iff st4.wd sq.wd)
  have yr2 : r2 = true := zr2.2 (el_ext st4.wd sq.wd fun n => by simp only [mem_of hxa, mem_of hxb, mem_of hxc, mem_uniA (of_wd hxa) (of_wd hxb), mem_uniA (of_wd hxb) (of_wd hxc), mem_minus (of_wd hxa) (of_wd hxc), mem_minus (of_wd hxb) (of_wd hxc), mem_both (of_wd hxa) (of_wd hxc), mem_both (of_wd hxb) (of_wd hxc), mem_minus (of_wd hxa) (of_wd hxb), mem_both (of_wd hxa) (of_wd hxb), mem_both (of_wd hxa) (of_wd hxa), mem_uniA (minus_wd (of_wd hxa)) (minus_wd (of_wd hxb)), mem_uniA (both_wd (of_wd hxa)) (both_wd (of_wd hxb)), mem_minus (uniA_wd (of_wd hxa) (of_wd hxb)) (of_wd hxc), mem_both (uniA_wd (of_wd hxa) (of_wd hxb)) (of_wd hxc), mem_minus (minus_wd (of_wd hxa)) (of_wd hxc), mem_minus (of_wd hxa) (uniA_wd (of_wd hxb) (of_wd hxc)), mem_minus (of_wd hxa) (minus_wd (of_wd hxa))]; grind)
  subst yr2
  have sx := kA17.s sx
  have sy := kA17.s sy
  have sz := kA17.s sz
  have su := kA17.s su
  have sp := kA17.s sp
  have st1 := kA17.s st1
  have sq := kA17.s sq
  have st2 := kA17.s st2
  have sw := kA17.s sw
  have st3 := kA17.s st3
  have st4 := kA17.s st4
  have lA17 := kA17.1
  have mA18 := cnt_minus sx.wd sy.wd
  obtain ⟨it5, jt5, A18, eA18, st5, kA18, gt5, qt5⟩ := minus_P h.toTC 0 sx (by omega) (AtV.set h.toTB sy) (Nat.zero_le _)
  have sx := kA18.s sx
  have sy := kA18.s sy
  have sz := kA18.s sz
  have su := kA18.s su
  have sp := kA18.s sp
  have st1 := kA18.s st1
  have sq := kA18.s sq
  have st2 := kA18.s st2
  have sw := kA18.s sw
  have st3 := kA18.s st3
  have st4 := kA18.s st4
  have ct5 := mA18
  have dt5 := SetW.lt st5
  have lA18 := kA18.1
  have mA19 := cnt_minus st5.wd sz.wd
  obtain ⟨it6, jt6, A19, eA19, st6, kA19, gt6, qt6⟩ := minus_P h.toTC 0 st5 (by omega) (AtV.set h.toTB sz) (Nat.zero_le _)
  have sx := kA19.s sx
  have sy := kA19.s sy
  have sz := kA19.s sz
  have su := kA19.s su
  have sp := kA19.s sp
  have st1 := kA19.s st1
  have sq := kA19.s sq
  have st2 := kA19.s st2
  have sw := kA19.s sw
  have st3 := kA19.s st3
  have st4 := kA19.s st4
  have st5 := kA19.s st5
  have ct6 := mA19
  have dt6 := SetW.lt st6
  have lA19 := kA19.1
  have mA20 := cnt_minus sx.wd sw.wd
  obtain ⟨it7, jt7, A20, eA20, st7, kA20, gt7, qt7⟩ := minus_P h.toTC 0 sx (by omega) (AtV.set h.toTB sw) (Nat.zero_le _)
  have sx := kA20.s sx
  have sy := kA20.s sy
  have sz := kA20.s sz
  have su := kA20.s su
  have sp := kA20.s sp
  have st1 := kA20.s st1
  have sq := kA20.s sq
  have st2 := kA20.s st2
  have sw := kA20.s sw
  have st3 := kA20.s st3
  have st4 := kA20.s st4
  have st5 := kA20.s st5
  have st6 := kA20.s st6
  have ct7 := mA20
  have dt7 := SetW.lt st7
  have lA20 := kA20.1
  obtain ⟨r3, A21, eA21, zr3, kA21⟩ := same_P h.toTC 0 st6 (by omega) (AtV.set h.toTB st7) (LenV.set h.toTB st7) (Nat.zero_le _)
  have zr3 := zr3.trans (same_iff st6.wd st7.wd)
  have yr3 : r3 = true := zr3.2 (el_ext st6.wd st7.wd fun n => by simp only [mem_of hxa, mem_of hxb, mem_of hxc, mem_uniA (of_wd hxa) (of_wd hxb), mem_uniA (of_wd hxb) (of_wd hxc), mem_minus (of_wd hxa) (of_wd hxc), mem_minus (of_wd hxb) (of_wd hxc), mem_both (of_wd hxa) (of_wd hxc), mem_both (of_wd hxb) (of_wd hxc), mem_minus (of_wd hxa) (of_wd hxb), mem_both (of_wd hxa) (of_wd hxb), mem_both (of_wd hxa) (of_wd hxa), mem_uniA (minus_wd (of_wd hxa)) (minus_wd (of_wd hxb)), mem_uniA (both_wd (of_wd hxa)) (both_wd (of_wd hxb)), mem_minus (uniA_wd (of_wd hxa) (of_wd hxb)) (of_wd hxc), mem_both (uniA_wd (of_wd hxa) (of_wd hxb)) (of_wd hxc), mem_minus (minus_wd (of_wd hxa)) (of_wd hxc), mem_minus (of_wd hxa) (uniA_wd (of_wd hxb) (of_wd hxc)), mem_minus (of_wd hxa) (minus_wd (of_wd hxa))]; grind)
  subst yr3
  have sx := kA21.s sx
  have sy := kA21.s sy
  have sz := kA21.s sz
  have su := kA21.s su
  have sp := kA21.s sp
  have st1 := kA21.s st1
  have sq := kA21.s sq
  have st2 := kA21.s st2
  have sw := kA21.s sw
  have st3 := kA21.s st3
  have st4 := kA21.s st4
  have st5 := kA21.s st5
  have st6 := kA21.s st6
  have st7 := kA21.s st7
  have lA21 := kA21.1
  have mA22 := cnt_minus sx.wd sy.wd
  obtain ⟨it8, jt8, A22, eA22, st8, kA22, gt8, qt8⟩ := minus_P h.toTC 0 sx (by omega) (AtV.set h.toTB sy) (Nat.zero_le _)
  have sx := kA22.s sx
  have sy := kA22.s sy
  have sz := kA22.s sz
  have su := kA22.s su
  have sp := kA22.s sp
  have st1 := kA22.s st1
  have sq := kA22.s sq
  have st2 := kA22.s st2
  have sw := kA22.s sw
  have st3 := kA22.s st3
  have st4 := kA22.s st4
  have st5 := kA22.s st5
  have st6 := kA22.s st6
  have st7 := kA22.s st7
  have ct8 := mA22
  have dt8 := SetW.lt st8
  have lA22 := kA22.1
  have mA23 := cnt_minus sx.wd st8.wd
  obtain ⟨it9, jt9, A23, eA23, st9, kA23, gt9, qt9⟩ := minus_P h.toTC 0 sx (by omega) (AtV.set h.toTB st8) (Nat.zero_le _)
  have sx := kA23.s sx
  have sy := kA23.s sy
  have sz := kA23.s sz
  have su := kA23.s su
  have sp := kA23.s sp
  have st1 := kA23.s st1
  have sq := kA23.s sq
  have st2 := kA23.s st2
  have sw := kA23.s sw
  have st3 := kA23.s st3
  have st4 := kA23.s st4
  have st5 := kA23.s st5
  have st6 := kA23.s st6
  have st7 := kA23.s st7
  have st8 := kA23.s st8
  have ct9 := mA23
  have dt9 := SetW.lt st9
  have lA23 := kA23.1
  have mA24 := cnt_both sx.wd sy.wd
  obtain ⟨it10, jt10, A24, eA24, st10, kA24, gt10, qt10⟩ := both_P h.toTC 0 sx (by omega) (AtV.set h.toTB sy) (Nat.zero_le _)
  have sx := kA24.s sx
  have sy := kA24.s sy
  have sz := kA24.s sz
  have su := kA24.s su
  have sp := kA24.s sp
  have st1 := kA24.s st1
  have sq := kA24.s sq
  have st2 := kA24.s st2
  have sw := kA24.s sw
  have st3 := kA24.s st3
  have st4 := kA24.s st4
  have st5 := kA24.s st5
  have st6 := kA24.s st6
  have st7 := kA24.s st7
  have st8 := kA24.s st8
  have st9 := kA24.s st9
  have ct10 := mA24
  have dt10 := SetW.lt st10
  have lA24 := kA24.1
  obtain ⟨r4, A25, eA25, zr4, kA25⟩ := same_P h.toTC 0 st9 (by omega) (AtV.set h.toTB st10) (LenV.set h.toTB st10) (Nat.zero_le _)
  have zr4 := zr4.trans (same_iff st9.wd st10.wd)
  have yr4 : r4 = true := zr4.2 (el_ext st9.wd st10.wd fun n => by simp only [mem_of hxa, mem_of hxb, mem_of hxc, mem_uniA (of_wd hxa) (of_wd hxb), mem_uniA (of_wd hxb) (of_wd hxc), mem_minus (of_wd hxa) (of_wd hxc), mem_minus (of_wd hxb) (of_wd hxc), mem_both (of_wd hxa) (of_wd hxc), mem_both (of_wd hxb) (of_wd hxc), mem_minus (of_wd hxa) (of_wd hxb), mem_both (of_wd hxa) (of_wd hxb), mem_both (of_wd hxa) (of_wd hxa), mem_uniA (minus_wd (of_wd hxa)) (minus_wd (of_wd hxb)), mem_uniA (both_wd (of_wd hxa)) (both_wd (of_wd hxb)), mem_minus (uniA_wd (of_wd hxa) (of_wd hxb)) (of_wd hxc), mem_both (uniA_wd (of_wd hxa) (of_wd hxb)) (of_wd hxc), mem_minus (minus_wd (of_wd hxa)) (of_wd hxc), mem_minus (of_wd hxa) (uniA_wd (of_wd hxb) (of_wd hxc)), mem_minus (of_wd hxa) (minus_wd (of_wd hxa))]; grind)
  subst yr4
  have sx := kA25.s sx
  have sy := kA25.s sy
  have sz := kA25.s sz
  have su := kA25.s su
  have sp := kA25.s sp
  have st1 := kA25.s st1
  have sq := kA25.s sq
  have st2 := kA25.s st2
  have sw := kA25.s sw
  have st3 := kA25.s st3
  have st4 := kA25.s st4
  have st5 := kA25.s st5
  have st6 := kA25.s st6
  have st7 := kA25.s st7
  have st8 := kA25.s st8
  have st9 := kA25.s st9
  have st10 := kA25.s st10
  have lA25 := kA25.1
  have mA26 := cnt_minus sx.wd sx.wd
  obtain ⟨it11, jt11, A26, eA26, st11, kA26, gt11, qt11⟩ := minus_P h.toTC 0 sx (by omega) (AtV.set h.toTB sx) (Nat.zero_le _)
  have sx := kA26.s sx
  have sy := kA26.s sy
  have sz := kA26.s sz
  have su := kA26.s su
  have sp := kA26.s sp
  have st1 := kA26.s st1
  have sq := kA26.s sq
  have st2 := kA26.s st2
  have sw := kA26.s sw
  have st3 := kA26.s st3
  have st4 := kA26.s st4
  have st5 := kA26.s st5
  have st6 := kA26.s st6
  have st7 := kA26.s st7
  have st8 := kA26.s st8
  have st9 := kA26.s st9
  have st10 := kA26.s st10
  have ct11 := mA26
  have dt11 := SetW.lt st11
  have lA26 := kA26.1
  have f5 := fun base => len_fun h.len base st11
  have mA27 := cnt_both sx.wd sx.wd
  obtain ⟨it12, jt12, A27, eA27, st12, kA27, gt12, qt12⟩ := both_P h.toTC 0 sx (by omega) (AtV.set h.toTB sx) (Nat.zero_le _)
  have sx := kA27.s sx
  have sy := kA27.s sy
  have sz := kA27.s sz
  have su := kA27.s su
  have sp := kA27.s sp
  have st1 := kA27.s st1
  have sq := kA27.s sq
  have st2 := kA27.s st2
  have sw := kA27.s sw
  have st3 := kA27.s st3
  have st4 := kA27.s st4
  have st5 := kA27.s st5
  have st6 := kA27.s st6
  have st7 := kA27.s st7
  have st8 := kA27.s st8
  have st9 := kA27.s st9
  have st10 := kA27.s st10
  have st11 := kA27.s st11
  have ct12 := mA27
  have dt12 := SetW.lt st12
  have lA27 := kA27.1
  obtain ⟨r6, A28, eA28, zr6, kA28⟩ := same_P h.toTC 0 st12 (by omega) (AtV.set h.toTB sx) (LenV.set h.toTB sx) (Nat.zero_le _)
  have zr6 := zr6.trans (same_iff st12.wd sx.wd)
  have yr6 : r6 = true := zr6.2 (el_ext st12.wd sx.wd fun n => by simp only [mem_of hxa, mem_of hxb, mem_of hxc, mem_uniA (of_wd hxa) (of_wd hxb), mem_uniA (of_wd hxb) (of_wd hxc), mem_minus (of_wd hxa) (of_wd hxc), mem_minus (of_wd hxb) (of_wd hxc), mem_both (of_wd hxa) (of_wd hxc), mem_both (of_wd hxb) (of_wd hxc), mem_minus (of_wd hxa) (of_wd hxb), mem_both (of_wd hxa) (of_wd hxb), mem_both (of_wd hxa) (of_wd hxa), mem_uniA (minus_wd (of_wd hxa)) (minus_wd (of_wd hxb)), mem_uniA (both_wd (of_wd hxa)) (both_wd (of_wd hxb)), mem_minus (uniA_wd (of_wd hxa) (of_wd hxb)) (of_wd hxc), mem_both (uniA_wd (of_wd hxa) (of_wd hxb)) (of_wd hxc), mem_minus (minus_wd (of_wd hxa)) (of_wd hxc), mem_minus (of_wd hxa) (uniA_wd (of_wd hxb) (of_wd hxc)), mem_minus (of_wd hxa) (minus_wd (of_wd hxa))]; grind)
  subst yr6
  have sx := kA28.s sx
  have sy := kA28.s sy
  have sz := kA28.s sz
  have su := kA28.s su
  have sp := kA28.s sp
  have st1 := kA28.s st1
  have sq := kA28.s sq
  have st2 := kA28.s st2
  have sw := kA28.s sw
  have st3 := kA28.s st3
  have st4 := kA28.s st4
  have st5 := kA28.s st5
  have st6 := kA28.s st6
  have st7 := kA28.s st7
  have st8 := kA28.s st8
  have st9 := kA28.s st9
  have st10 := kA28.s st10
  have st11 := kA28.s st11
  have st12 := kA28.s st12
  have lA28 := kA28.1
  have hz : cnt (pickP (ofP a noP) (ofP a noP).2 andNot) = 0 := by
    rw [← el_len]
    have : el (pickP (ofP a noP) (ofP a noP).2 andNot) = [] := List.eq_nil_iff_forall_not_mem.2 fun n hn => ((mem_minus (of_wd hxa) (of_wd hxa)).1 hn).2 ((mem_minus (of_wd hxa) (of_wd hxa)).1 hn).1
    rw [this]; rfl
  rw [hz] at f5
  refine ⟨A28, callW_fn (c := s_gnomonlaw01_BitsAlgebra) hF (by simp [s_gnomonlaw01_BitsAlgebra]) ?_⟩
  rw [show (((0 : Nat)) : Int) = 0 from rfl] at f5
  simp only [s_gnomonlaw01_BitsAlgebra, a_gnomonlaw01_BitsAlgebra, am0,am1,am2,am3,am4,am5,am6,am7,bl,i64,reduceIte,reduceCtorEq,Nat.reduceEqDiff,Nat.reduceLT,Nat.reduceLeDiff,Nat.reduceBEq,Nat.reduceAdd,fillA,splice,Nat.reduceMul,al0,al1,al2,al3,al4,al5,al6,al7,al8,al9,al10,al11,al12,al13,al14,al15,al16,al17,al18,al19,al20,al21,al22,al23,al24,al25,al26,al27,al28,al29,al30,al31,al32,al33,al34,amY, la, lb, lc, ga, gb, gc, hwk, List.length_nil, eA1, eA2, eA3, eA4, eA5, eA6, eA7, eA8, eA9, eA10, eA11, eA12, eA13, eA14, eA15, eA16, eA17, eA18, eA19, eA20, eA21, eA22, eA23, eA24, eA25, eA26, f5, eA27, eA28]
  done
end
end Go.Proofs.YtccallbknpbggaaDoor
