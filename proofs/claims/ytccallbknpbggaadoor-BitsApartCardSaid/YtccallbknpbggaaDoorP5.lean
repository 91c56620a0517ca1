/- Texts of the proof: BitsS4, BitsL4. -/
import Derived.Test.YtccallbknpbggaaDoorP0
import Derived.Test.YtccallbknpbggaaDoorP1
import Derived.Test.YtccallbknpbggaaDoorP2
import Derived.Test.YtccallbknpbggaaDoorP3
import Derived.Test.YtccallbknpbggaaDoorP4
set_option linter.all false
set_option maxRecDepth 100000
namespace Go.Proofs.YtccallbknpbggaaDoor
open Go.AM
abbrev k_gnomonlaw01_BitsApart : Nat := 5
def s_gnomonlaw01_BitsApart_r0_k : List Nat := [3, 4, 5, 6, 7, 8, 9, 10, 11, 12, 13, 14, 15, 16, 17, 18, 19, 20, 21, 22, 23, 24, 25, 26, 27, 28, 29, 30, 31, 32, 33, 34, 35, 36, 37, 38, 39, 40, 41, 42, 43, 44, 45, 46, 47, 48, 49, 50, 51, 52, 53, 54, 55, 56, 57, 58, 59, 60, 61, 62, 63, 64, 65, 66, 67, 68, 69, 70, 71, 72, 73, 74, 75, 76, 77, 78, 79, 80, 81, 82, 83, 84, 85, 86, 87, 88, 89, 90, 91, 92, 93, 94, 95, 96, 97]
theorem s_gnomonlaw01_BitsApart_r0_kT : killV s_gnomonlaw01_BitsApart_r0_k (startV 98 [] 3) = [] := by kernel_rfl
theorem s_gnomonlaw01_BitsApart_r0_kA0 : s_gnomonlaw01_BitsApart_r0_k.contains 0 = false := by kernel_rfl
theorem s_gnomonlaw01_BitsApart_r0_kA1 : s_gnomonlaw01_BitsApart_r0_k.contains 1 = false := by kernel_rfl
theorem s_gnomonlaw01_BitsApart_r0_kA2 : s_gnomonlaw01_BitsApart_r0_k.contains 2 = false := by kernel_rfl
def s_gnomonlaw01_BitsApart_r0 : List AOper := [
  ⟨some 6, (.move (.c (.s (.bool false)))), none⟩]
theorem s_gnomonlaw01_BitsApart_r0_tale (fr : List V) (H : Heap) : evTale (symAll s_gnomonlaw01_BitsApart_r0 s_gnomonlaw01_BitsApart_r0_k []) s_gnomonlaw01_BitsApart_r0_k fr H = evTale (some (7, [], [])) s_gnomonlaw01_BitsApart_r0_k fr H := tale_row (items := [.cc (.s (.bool false))]) (by kernel_rfl) fr H
def s_gnomonlaw01_BitsApart_r1 : List AOper := [
  ⟨some 16, (.move (.t 0)), none⟩,
  ⟨some 17, (.lenS .s (.t 16)), none⟩,
  ⟨some 18, (.bin .gtr (.t 17) (.c (.s (.int .i64 1000)))), none⟩,
  ⟨some 19, (.move (.t 18)), none⟩,
  ⟨some 20, (.move (.t 1)), some (19, false)⟩,
  ⟨some 21, (.lenS .s (.t 20)), some (19, false)⟩,
  ⟨some 22, (.bin .gtr (.t 21) (.c (.s (.int .i64 1000)))), some (19, false)⟩,
  ⟨some 23, (.pick (.t 19) (.c (.s (.bool true))) (.t 22)), none⟩]
theorem s_gnomonlaw01_BitsApart_r1_tale (fr : List V) (H : Heap) : evTale (symAll s_gnomonlaw01_BitsApart_r1 [16, 17, 18, 19, 20, 21, 22] [23]) [16, 17, 18, 19, 20, 21, 22] fr H = evTale (some (24, [], [(23, (.pick (.op (.bin .gtr (.t 0) (.c (.s (.int .i64 1000)))) [(.op (.lenS .s (.t 0)) [(.t 0)]), (.c (.s (.int .i64 1000)))]) (.c (.s (.bool true))) (.op (.bin .gtr (.t 0) (.c (.s (.int .i64 1000)))) [(.op (.lenS .s (.t 0)) [(.t 1)]), (.c (.s (.int .i64 1000)))])))])) [16, 17, 18, 19, 20, 21, 22] fr H := tale_row (items := [.tt 0, .sub 0 [0, 0] [], .sub 0 [0] [], .sub 0 [0] [], .sub 0 [2, 0, 0] [19], .sub 0 [2, 0] [19], .sub 0 [2] [19], .sub 0 [] []]) (by kernel_rfl) fr H
def s_gnomonlaw01_BitsApart_r2t1 : List AOper := [⟨some 6, (.move (.t 24)), none⟩]
def s_gnomonlaw01_BitsApart_r2p0 : List AOper := [⟨some 24, (.call (.c (.fn 10 [] [])) []), none⟩]
def s_gnomonlaw01_BitsApart_r2 : List AOper := s_gnomonlaw01_BitsApart_r2p0 ++ s_gnomonlaw01_BitsApart_r2t1
theorem s_gnomonlaw01_BitsApart_r2_x (call : CallF) (it : IterF) (base : Nat) (f : List V) (H : Heap) : evC call it base (.region s_gnomonlaw01_BitsApart_r2 [] [0, 1, 2, 23, 24]) f H = thenC call it base (.region s_gnomonlaw01_BitsApart_r2t1 [] [0, 1, 2, 23, 24]) (opsC [] s_gnomonlaw01_BitsApart_r2p0 [0, 1, 2, 23] (evOps call base [⟨some 24, (.call (.c (.fn 10 [] [])) []), none⟩] f H)) := (row_op call it base s_gnomonlaw01_BitsApart_r2p0 s_gnomonlaw01_BitsApart_r2t1 (kc := [0, 1, 2, 23]) (by kernel_rfl) f H).trans (by rw [row_ops]; rfl)
theorem s_gnomonlaw01_BitsApart_r2t1_tale (fr : List V) (H : Heap) : evTale (symAll s_gnomonlaw01_BitsApart_r2t1 [0, 1, 2, 23, 24] [6]) [0, 1, 2, 23, 24] fr H = evTale (some (7, [], [(6, (.t 24))])) [0, 1, 2, 23, 24] fr H := tale_row (items := [.tt 24]) (by kernel_rfl) fr H
theorem s_gnomonlaw01_BitsApart_r2t1_x (call : CallF) (it : IterF) (base : Nat) (f : List V) (H : Heap) : evC call it base (.region s_gnomonlaw01_BitsApart_r2t1 [] [0, 1, 2, 23, 24]) f H = segL H (evTale (symAll s_gnomonlaw01_BitsApart_r2t1 [0, 1, 2, 23, 24] [6]) [0, 1, 2, 23, 24] f H) (origRow call it base s_gnomonlaw01_BitsApart_r2t1 [0, 1, 2, 23, 24] f H) := row_last call it base _ f H
def s_gnomonlaw01_BitsApart_r3t4 : List AOper := [⟨some 7, (.move (.t 26)), none⟩, ⟨some 8, (.move (.t 28)), none⟩]
def s_gnomonlaw01_BitsApart_r3p3 : List AOper := [⟨some 28, (.call (.c (.fn 11 [] [])) [(.t 27)]), none⟩]
def s_gnomonlaw01_BitsApart_r3t3 : List AOper := s_gnomonlaw01_BitsApart_r3p3 ++ s_gnomonlaw01_BitsApart_r3t4
def s_gnomonlaw01_BitsApart_r3p2 : List AOper := [⟨some 27, (.move (.t 1)), none⟩]
def s_gnomonlaw01_BitsApart_r3t2 : List AOper := s_gnomonlaw01_BitsApart_r3p2 ++ s_gnomonlaw01_BitsApart_r3t3
def s_gnomonlaw01_BitsApart_r3p1 : List AOper := [⟨some 26, (.call (.c (.fn 11 [] [])) [(.t 25)]), none⟩]
def s_gnomonlaw01_BitsApart_r3t1 : List AOper := s_gnomonlaw01_BitsApart_r3p1 ++ s_gnomonlaw01_BitsApart_r3t2
def s_gnomonlaw01_BitsApart_r3p0 : List AOper := [⟨some 25, (.move (.t 0)), none⟩]
def s_gnomonlaw01_BitsApart_r3 : List AOper := s_gnomonlaw01_BitsApart_r3p0 ++ s_gnomonlaw01_BitsApart_r3t1
theorem s_gnomonlaw01_BitsApart_r3p0_tale (fr : List V) (H : Heap) : evTale (symAll s_gnomonlaw01_BitsApart_r3p0 [0, 23] [25]) [0, 23] fr H = evTale (some (26, [], [(25, (.t 0))])) [0, 23] fr H := tale_row (items := [.tt 0]) (by kernel_rfl) fr H
theorem s_gnomonlaw01_BitsApart_r3_x (call : CallF) (it : IterF) (base : Nat) (f : List V) (H : Heap) : evC call it base (.region s_gnomonlaw01_BitsApart_r3 [] [0, 1, 23, 25, 26, 27, 28]) f H = segC call it base s_gnomonlaw01_BitsApart_r3t1 [0, 1, 23, 25, 26, 27, 28] H (evTale (symAll s_gnomonlaw01_BitsApart_r3p0 [0, 23] [25]) [0, 23] f H) (origRow call it base s_gnomonlaw01_BitsApart_r3 [0, 1, 23, 25, 26, 27, 28] f H) := row_seg call it base s_gnomonlaw01_BitsApart_r3p0 s_gnomonlaw01_BitsApart_r3t1 (by kernel_rfl) f H
theorem s_gnomonlaw01_BitsApart_r3t1_x (call : CallF) (it : IterF) (base : Nat) (f : List V) (H : Heap) : evC call it base (.region s_gnomonlaw01_BitsApart_r3t1 [] [0, 1, 23, 25, 26, 27, 28]) f H = thenC call it base (.region s_gnomonlaw01_BitsApart_r3t2 [] [0, 1, 23, 25, 26, 27, 28]) (opsC [] s_gnomonlaw01_BitsApart_r3p1 [25] (evOps call base [⟨some 26, (.call (.c (.fn 11 [] [])) [(.t 25)]), none⟩] f H)) := (row_op call it base s_gnomonlaw01_BitsApart_r3p1 s_gnomonlaw01_BitsApart_r3t2 (kc := [25]) (by kernel_rfl) f H).trans (by rw [row_ops]; rfl)
theorem s_gnomonlaw01_BitsApart_r3p2_tale (fr : List V) (H : Heap) : evTale (symAll s_gnomonlaw01_BitsApart_r3p2 [1] [27]) [1] fr H = evTale (some (28, [], [(27, (.t 1))])) [1] fr H := tale_row (items := [.tt 1]) (by kernel_rfl) fr H
theorem s_gnomonlaw01_BitsApart_r3t2_x (call : CallF) (it : IterF) (base : Nat) (f : List V) (H : Heap) : evC call it base (.region s_gnomonlaw01_BitsApart_r3t2 [] [0, 1, 23, 25, 26, 27, 28]) f H = segC call it base s_gnomonlaw01_BitsApart_r3t3 [0, 1, 23, 25, 26, 27, 28] H (evTale (symAll s_gnomonlaw01_BitsApart_r3p2 [1] [27]) [1] f H) (origRow call it base s_gnomonlaw01_BitsApart_r3t2 [0, 1, 23, 25, 26, 27, 28] f H) := row_seg call it base s_gnomonlaw01_BitsApart_r3p2 s_gnomonlaw01_BitsApart_r3t3 (by kernel_rfl) f H
theorem s_gnomonlaw01_BitsApart_r3t3_x (call : CallF) (it : IterF) (base : Nat) (f : List V) (H : Heap) : evC call it base (.region s_gnomonlaw01_BitsApart_r3t3 [] [0, 1, 23, 25, 26, 27, 28]) f H = thenC call it base (.region s_gnomonlaw01_BitsApart_r3t4 [] [0, 1, 23, 25, 26, 27, 28]) (opsC [] s_gnomonlaw01_BitsApart_r3p3 [27] (evOps call base [⟨some 28, (.call (.c (.fn 11 [] [])) [(.t 27)]), none⟩] f H)) := (row_op call it base s_gnomonlaw01_BitsApart_r3p3 s_gnomonlaw01_BitsApart_r3t4 (kc := [27]) (by kernel_rfl) f H).trans (by rw [row_ops]; rfl)
theorem s_gnomonlaw01_BitsApart_r3t4_tale (fr : List V) (H : Heap) : evTale (symAll s_gnomonlaw01_BitsApart_r3t4 [0, 1, 23, 25, 26, 27, 28] [7, 8]) [0, 1, 23, 25, 26, 27, 28] fr H = evTale (some (9, [], [(7, (.t 26)), (8, (.t 28))])) [0, 1, 23, 25, 26, 27, 28] fr H := tale_row (items := [.tt 26, .tt 28]) (by kernel_rfl) fr H
theorem s_gnomonlaw01_BitsApart_r3t4_x (call : CallF) (it : IterF) (base : Nat) (f : List V) (H : Heap) : evC call it base (.region s_gnomonlaw01_BitsApart_r3t4 [] [0, 1, 23, 25, 26, 27, 28]) f H = segL H (evTale (symAll s_gnomonlaw01_BitsApart_r3t4 [0, 1, 23, 25, 26, 27, 28] [7, 8]) [0, 1, 23, 25, 26, 27, 28] f H) (origRow call it base s_gnomonlaw01_BitsApart_r3t4 [0, 1, 23, 25, 26, 27, 28] f H) := row_last call it base _ f H
def s_gnomonlaw01_BitsApart_r4t4 : List AOper := [⟨some 9, (.move (.t 30)), none⟩, ⟨some 10, (.move (.t 32)), none⟩]
def s_gnomonlaw01_BitsApart_r4p3 : List AOper := [⟨some 32, (.call (.c (.fn 16 [] [])) [(.t 31)]), none⟩]
def s_gnomonlaw01_BitsApart_r4t3 : List AOper := s_gnomonlaw01_BitsApart_r4p3 ++ s_gnomonlaw01_BitsApart_r4t4
def s_gnomonlaw01_BitsApart_r4p2 : List AOper := [⟨some 31, (.move (.t 8)), none⟩]
def s_gnomonlaw01_BitsApart_r4t2 : List AOper := s_gnomonlaw01_BitsApart_r4p2 ++ s_gnomonlaw01_BitsApart_r4t3
def s_gnomonlaw01_BitsApart_r4p1 : List AOper := [⟨some 30, (.call (.c (.fn 16 [] [])) [(.t 29)]), none⟩]
def s_gnomonlaw01_BitsApart_r4t1 : List AOper := s_gnomonlaw01_BitsApart_r4p1 ++ s_gnomonlaw01_BitsApart_r4t2
def s_gnomonlaw01_BitsApart_r4p0 : List AOper := [⟨some 29, (.move (.t 7)), none⟩]
def s_gnomonlaw01_BitsApart_r4 : List AOper := s_gnomonlaw01_BitsApart_r4p0 ++ s_gnomonlaw01_BitsApart_r4t1
theorem s_gnomonlaw01_BitsApart_r4p0_tale (fr : List V) (H : Heap) : evTale (symAll s_gnomonlaw01_BitsApart_r4p0 [] [29]) [] fr H = evTale (some (30, [], [(29, (.t 7))])) [] fr H := tale_row (items := [.tt 7]) (by kernel_rfl) fr H
theorem s_gnomonlaw01_BitsApart_r4_x (call : CallF) (it : IterF) (base : Nat) (f : List V) (H : Heap) : evC call it base (.region s_gnomonlaw01_BitsApart_r4 [] [29, 30, 31, 32]) f H = segC call it base s_gnomonlaw01_BitsApart_r4t1 [29, 30, 31, 32] H (evTale (symAll s_gnomonlaw01_BitsApart_r4p0 [] [29]) [] f H) (origRow call it base s_gnomonlaw01_BitsApart_r4 [29, 30, 31, 32] f H) := row_seg call it base s_gnomonlaw01_BitsApart_r4p0 s_gnomonlaw01_BitsApart_r4t1 (by kernel_rfl) f H
theorem s_gnomonlaw01_BitsApart_r4t1_x (call : CallF) (it : IterF) (base : Nat) (f : List V) (H : Heap) : evC call it base (.region s_gnomonlaw01_BitsApart_r4t1 [] [29, 30, 31, 32]) f H = thenC call it base (.region s_gnomonlaw01_BitsApart_r4t2 [] [29, 30, 31, 32]) (opsC [] s_gnomonlaw01_BitsApart_r4p1 [29] (evOps call base [⟨some 30, (.call (.c (.fn 16 [] [])) [(.t 29)]), none⟩] f H)) := (row_op call it base s_gnomonlaw01_BitsApart_r4p1 s_gnomonlaw01_BitsApart_r4t2 (kc := [29]) (by kernel_rfl) f H).trans (by rw [row_ops]; rfl)
theorem s_gnomonlaw01_BitsApart_r4p2_tale (fr : List V) (H : Heap) : evTale (symAll s_gnomonlaw01_BitsApart_r4p2 [] [31]) [] fr H = evTale (some (32, [], [(31, (.t 8))])) [] fr H := tale_row (items := [.tt 8]) (by kernel_rfl) fr H
theorem s_gnomonlaw01_BitsApart_r4t2_x (call : CallF) (it : IterF) (base : Nat) (f : List V) (H : Heap) : evC call it base (.region s_gnomonlaw01_BitsApart_r4t2 [] [29, 30, 31, 32]) f H = segC call it base s_gnomonlaw01_BitsApart_r4t3 [29, 30, 31, 32] H (evTale (symAll s_gnomonlaw01_BitsApart_r4p2 [] [31]) [] f H) (origRow call it base s_gnomonlaw01_BitsApart_r4t2 [29, 30, 31, 32] f H) := row_seg call it base s_gnomonlaw01_BitsApart_r4p2 s_gnomonlaw01_BitsApart_r4t3 (by kernel_rfl) f H
theorem s_gnomonlaw01_BitsApart_r4t3_x (call : CallF) (it : IterF) (base : Nat) (f : List V) (H : Heap) : evC call it base (.region s_gnomonlaw01_BitsApart_r4t3 [] [29, 30, 31, 32]) f H = thenC call it base (.region s_gnomonlaw01_BitsApart_r4t4 [] [29, 30, 31, 32]) (opsC [] s_gnomonlaw01_BitsApart_r4p3 [31] (evOps call base [⟨some 32, (.call (.c (.fn 16 [] [])) [(.t 31)]), none⟩] f H)) := (row_op call it base s_gnomonlaw01_BitsApart_r4p3 s_gnomonlaw01_BitsApart_r4t4 (kc := [31]) (by kernel_rfl) f H).trans (by rw [row_ops]; rfl)
theorem s_gnomonlaw01_BitsApart_r4t4_tale (fr : List V) (H : Heap) : evTale (symAll s_gnomonlaw01_BitsApart_r4t4 [29, 30, 31, 32] [9, 10]) [29, 30, 31, 32] fr H = evTale (some (11, [], [(9, (.t 30)), (10, (.t 32))])) [29, 30, 31, 32] fr H := tale_row (items := [.tt 30, .tt 32]) (by kernel_rfl) fr H
theorem s_gnomonlaw01_BitsApart_r4t4_x (call : CallF) (it : IterF) (base : Nat) (f : List V) (H : Heap) : evC call it base (.region s_gnomonlaw01_BitsApart_r4t4 [] [29, 30, 31, 32]) f H = segL H (evTale (symAll s_gnomonlaw01_BitsApart_r4t4 [29, 30, 31, 32] [9, 10]) [29, 30, 31, 32] f H) (origRow call it base s_gnomonlaw01_BitsApart_r4t4 [29, 30, 31, 32] f H) := row_last call it base _ f H
def s_gnomonlaw01_BitsApart_r5t6 : List AOper := [⟨some 11, (.move (.t 34)), none⟩, ⟨some 12, (.move (.t 37)), none⟩, ⟨some 13, (.move (.t 40)), none⟩]
def s_gnomonlaw01_BitsApart_r5p5 : List AOper := [⟨some 40, (.call (.c (.fn 23 [] [])) [(.t 38), (.t 39)]), none⟩]
def s_gnomonlaw01_BitsApart_r5t5 : List AOper := s_gnomonlaw01_BitsApart_r5p5 ++ s_gnomonlaw01_BitsApart_r5t6
def s_gnomonlaw01_BitsApart_r5p4 : List AOper := [⟨some 38, (.move (.t 7)), none⟩, ⟨some 39, (.move (.t 8)), none⟩]
def s_gnomonlaw01_BitsApart_r5t4 : List AOper := s_gnomonlaw01_BitsApart_r5p4 ++ s_gnomonlaw01_BitsApart_r5t5
def s_gnomonlaw01_BitsApart_r5p3 : List AOper := [⟨some 37, (.call (.c (.fn 22 [] [])) [(.t 35), (.t 36)]), none⟩]
def s_gnomonlaw01_BitsApart_r5t3 : List AOper := s_gnomonlaw01_BitsApart_r5p3 ++ s_gnomonlaw01_BitsApart_r5t4
def s_gnomonlaw01_BitsApart_r5p2 : List AOper := [⟨some 35, (.move (.t 7)), none⟩, ⟨some 36, (.move (.t 8)), none⟩]
def s_gnomonlaw01_BitsApart_r5t2 : List AOper := s_gnomonlaw01_BitsApart_r5p2 ++ s_gnomonlaw01_BitsApart_r5t3
def s_gnomonlaw01_BitsApart_r5p1 : List AOper := [⟨some 34, (.call (.c (.fn 21 [] [])) [(.t 33)]), none⟩]
def s_gnomonlaw01_BitsApart_r5t1 : List AOper := s_gnomonlaw01_BitsApart_r5p1 ++ s_gnomonlaw01_BitsApart_r5t2
def s_gnomonlaw01_BitsApart_r5p0 : List AOper := [⟨some 33, (.move (.t 7)), none⟩]
def s_gnomonlaw01_BitsApart_r5 : List AOper := s_gnomonlaw01_BitsApart_r5p0 ++ s_gnomonlaw01_BitsApart_r5t1
theorem s_gnomonlaw01_BitsApart_r5p0_tale (fr : List V) (H : Heap) : evTale (symAll s_gnomonlaw01_BitsApart_r5p0 [] [33]) [] fr H = evTale (some (34, [], [(33, (.t 7))])) [] fr H := tale_row (items := [.tt 7]) (by kernel_rfl) fr H
theorem s_gnomonlaw01_BitsApart_r5_x (call : CallF) (it : IterF) (base : Nat) (f : List V) (H : Heap) : evC call it base (.region s_gnomonlaw01_BitsApart_r5 [] [33, 34, 35, 36, 37, 38, 39, 40]) f H = segC call it base s_gnomonlaw01_BitsApart_r5t1 [33, 34, 35, 36, 37, 38, 39, 40] H (evTale (symAll s_gnomonlaw01_BitsApart_r5p0 [] [33]) [] f H) (origRow call it base s_gnomonlaw01_BitsApart_r5 [33, 34, 35, 36, 37, 38, 39, 40] f H) := row_seg call it base s_gnomonlaw01_BitsApart_r5p0 s_gnomonlaw01_BitsApart_r5t1 (by kernel_rfl) f H
theorem s_gnomonlaw01_BitsApart_r5t1_x (call : CallF) (it : IterF) (base : Nat) (f : List V) (H : Heap) : evC call it base (.region s_gnomonlaw01_BitsApart_r5t1 [] [33, 34, 35, 36, 37, 38, 39, 40]) f H = thenC call it base (.region s_gnomonlaw01_BitsApart_r5t2 [] [33, 34, 35, 36, 37, 38, 39, 40]) (opsC [] s_gnomonlaw01_BitsApart_r5p1 [33] (evOps call base [⟨some 34, (.call (.c (.fn 21 [] [])) [(.t 33)]), none⟩] f H)) := (row_op call it base s_gnomonlaw01_BitsApart_r5p1 s_gnomonlaw01_BitsApart_r5t2 (kc := [33]) (by kernel_rfl) f H).trans (by rw [row_ops]; rfl)
theorem s_gnomonlaw01_BitsApart_r5p2_tale (fr : List V) (H : Heap) : evTale (symAll s_gnomonlaw01_BitsApart_r5p2 [] [35, 36]) [] fr H = evTale (some (37, [], [(35, (.t 7)), (36, (.t 8))])) [] fr H := tale_row (items := [.tt 7, .tt 8]) (by kernel_rfl) fr H
theorem s_gnomonlaw01_BitsApart_r5t2_x (call : CallF) (it : IterF) (base : Nat) (f : List V) (H : Heap) : evC call it base (.region s_gnomonlaw01_BitsApart_r5t2 [] [33, 34, 35, 36, 37, 38, 39, 40]) f H = segC call it base s_gnomonlaw01_BitsApart_r5t3 [33, 34, 35, 36, 37, 38, 39, 40] H (evTale (symAll s_gnomonlaw01_BitsApart_r5p2 [] [35, 36]) [] f H) (origRow call it base s_gnomonlaw01_BitsApart_r5t2 [33, 34, 35, 36, 37, 38, 39, 40] f H) := row_seg call it base s_gnomonlaw01_BitsApart_r5p2 s_gnomonlaw01_BitsApart_r5t3 (by kernel_rfl) f H
theorem s_gnomonlaw01_BitsApart_r5t3_x (call : CallF) (it : IterF) (base : Nat) (f : List V) (H : Heap) : evC call it base (.region s_gnomonlaw01_BitsApart_r5t3 [] [33, 34, 35, 36, 37, 38, 39, 40]) f H = thenC call it base (.region s_gnomonlaw01_BitsApart_r5t4 [] [33, 34, 35, 36, 37, 38, 39, 40]) (opsC [] s_gnomonlaw01_BitsApart_r5p3 [35, 36] (evOps call base [⟨some 37, (.call (.c (.fn 22 [] [])) [(.t 35), (.t 36)]), none⟩] f H)) := (row_op call it base s_gnomonlaw01_BitsApart_r5p3 s_gnomonlaw01_BitsApart_r5t4 (kc := [35, 36]) (by kernel_rfl) f H).trans (by rw [row_ops]; rfl)
theorem s_gnomonlaw01_BitsApart_r5p4_tale (fr : List V) (H : Heap) : evTale (symAll s_gnomonlaw01_BitsApart_r5p4 [] [38, 39]) [] fr H = evTale (some (40, [], [(38, (.t 7)), (39, (.t 8))])) [] fr H := tale_row (items := [.tt 7, .tt 8]) (by kernel_rfl) fr H
theorem s_gnomonlaw01_BitsApart_r5t4_x (call : CallF) (it : IterF) (base : Nat) (f : List V) (H : Heap) : evC call it base (.region s_gnomonlaw01_BitsApart_r5t4 [] [33, 34, 35, 36, 37, 38, 39, 40]) f H = segC call it base s_gnomonlaw01_BitsApart_r5t5 [33, 34, 35, 36, 37, 38, 39, 40] H (evTale (symAll s_gnomonlaw01_BitsApart_r5p4 [] [38, 39]) [] f H) (origRow call it base s_gnomonlaw01_BitsApart_r5t4 [33, 34, 35, 36, 37, 38, 39, 40] f H) := row_seg call it base s_gnomonlaw01_BitsApart_r5p4 s_gnomonlaw01_BitsApart_r5t5 (by kernel_rfl) f H
theorem s_gnomonlaw01_BitsApart_r5t5_x (call : CallF) (it : IterF) (base : Nat) (f : List V) (H : Heap) : evC call it base (.region s_gnomonlaw01_BitsApart_r5t5 [] [33, 34, 35, 36, 37, 38, 39, 40]) f H = thenC call it base (.region s_gnomonlaw01_BitsApart_r5t6 [] [33, 34, 35, 36, 37, 38, 39, 40]) (opsC [] s_gnomonlaw01_BitsApart_r5p5 [38, 39] (evOps call base [⟨some 40, (.call (.c (.fn 23 [] [])) [(.t 38), (.t 39)]), none⟩] f H)) := (row_op call it base s_gnomonlaw01_BitsApart_r5p5 s_gnomonlaw01_BitsApart_r5t6 (kc := [38, 39]) (by kernel_rfl) f H).trans (by rw [row_ops]; rfl)
theorem s_gnomonlaw01_BitsApart_r5t6_tale (fr : List V) (H : Heap) : evTale (symAll s_gnomonlaw01_BitsApart_r5t6 [33, 34, 35, 36, 37, 38, 39, 40] [11, 12, 13]) [33, 34, 35, 36, 37, 38, 39, 40] fr H = evTale (some (14, [], [(11, (.t 34)), (12, (.t 37)), (13, (.t 40))])) [33, 34, 35, 36, 37, 38, 39, 40] fr H := tale_row (items := [.tt 34, .tt 37, .tt 40]) (by kernel_rfl) fr H
theorem s_gnomonlaw01_BitsApart_r5t6_x (call : CallF) (it : IterF) (base : Nat) (f : List V) (H : Heap) : evC call it base (.region s_gnomonlaw01_BitsApart_r5t6 [] [33, 34, 35, 36, 37, 38, 39, 40]) f H = segL H (evTale (symAll s_gnomonlaw01_BitsApart_r5t6 [33, 34, 35, 36, 37, 38, 39, 40] [11, 12, 13]) [33, 34, 35, 36, 37, 38, 39, 40] f H) (origRow call it base s_gnomonlaw01_BitsApart_r5t6 [33, 34, 35, 36, 37, 38, 39, 40] f H) := row_last call it base _ f H
def s_gnomonlaw01_BitsApart_r6t1 : List AOper := [⟨some 43, (.call (.c (.fn 12 [] [])) [(.t 41), (.t 42)]), none⟩]
def s_gnomonlaw01_BitsApart_r6p0 : List AOper := [⟨some 41, (.move (.t 11)), none⟩, ⟨some 42, (.move (.t 2)), none⟩]
def s_gnomonlaw01_BitsApart_r6 : List AOper := s_gnomonlaw01_BitsApart_r6p0 ++ s_gnomonlaw01_BitsApart_r6t1
theorem s_gnomonlaw01_BitsApart_r6p0_tale (fr : List V) (H : Heap) : evTale (symAll s_gnomonlaw01_BitsApart_r6p0 [] [41, 42]) [] fr H = evTale (some (43, [], [(41, (.t 11)), (42, (.t 2))])) [] fr H := tale_row (items := [.tt 11, .tt 2]) (by kernel_rfl) fr H
theorem s_gnomonlaw01_BitsApart_r6_x (call : CallF) (it : IterF) (base : Nat) (f : List V) (H : Heap) : evC call it base (.region s_gnomonlaw01_BitsApart_r6 [] [41, 42, 43]) f H = segC call it base s_gnomonlaw01_BitsApart_r6t1 [41, 42, 43] H (evTale (symAll s_gnomonlaw01_BitsApart_r6p0 [] [41, 42]) [] f H) (origRow call it base s_gnomonlaw01_BitsApart_r6 [41, 42, 43] f H) := row_seg call it base s_gnomonlaw01_BitsApart_r6p0 s_gnomonlaw01_BitsApart_r6t1 (by kernel_rfl) f H
theorem s_gnomonlaw01_BitsApart_r6t1_x (call : CallF) (it : IterF) (base : Nat) (f : List V) (H : Heap) : evC call it base (.region s_gnomonlaw01_BitsApart_r6t1 [] [41, 42, 43]) f H = opsC [] s_gnomonlaw01_BitsApart_r6t1 [41, 42, 43] (evOps call base [⟨some 43, (.call (.c (.fn 12 [] [])) [(.t 41), (.t 42)]), none⟩] f H) := row_ops call it base _ _ _ f H
def s_gnomonlaw01_BitsApart_r7t1 : List AOper := [⟨some 46, (.call (.c (.fn 18 [] [])) [(.t 44), (.t 45)]), none⟩]
def s_gnomonlaw01_BitsApart_r7p0 : List AOper := [⟨some 44, (.move (.t 11)), none⟩, ⟨some 45, (.move (.t 2)), none⟩]
def s_gnomonlaw01_BitsApart_r7 : List AOper := s_gnomonlaw01_BitsApart_r7p0 ++ s_gnomonlaw01_BitsApart_r7t1
theorem s_gnomonlaw01_BitsApart_r7p0_tale (fr : List V) (H : Heap) : evTale (symAll s_gnomonlaw01_BitsApart_r7p0 [] [44, 45]) [] fr H = evTale (some (46, [], [(44, (.t 11)), (45, (.t 2))])) [] fr H := tale_row (items := [.tt 11, .tt 2]) (by kernel_rfl) fr H
theorem s_gnomonlaw01_BitsApart_r7_x (call : CallF) (it : IterF) (base : Nat) (f : List V) (H : Heap) : evC call it base (.region s_gnomonlaw01_BitsApart_r7 [] [44, 45, 46]) f H = segC call it base s_gnomonlaw01_BitsApart_r7t1 [44, 45, 46] H (evTale (symAll s_gnomonlaw01_BitsApart_r7p0 [] [44, 45]) [] f H) (origRow call it base s_gnomonlaw01_BitsApart_r7 [44, 45, 46] f H) := row_seg call it base s_gnomonlaw01_BitsApart_r7p0 s_gnomonlaw01_BitsApart_r7t1 (by kernel_rfl) f H
theorem s_gnomonlaw01_BitsApart_r7t1_x (call : CallF) (it : IterF) (base : Nat) (f : List V) (H : Heap) : evC call it base (.region s_gnomonlaw01_BitsApart_r7t1 [] [44, 45, 46]) f H = opsC [] s_gnomonlaw01_BitsApart_r7t1 [44, 45, 46] (evOps call base [⟨some 46, (.call (.c (.fn 18 [] [])) [(.t 44), (.t 45)]), none⟩] f H) := row_ops call it base _ _ _ f H
def s_gnomonlaw01_BitsApart_r8t1 : List AOper := [⟨some 49, (.call (.c (.fn 12 [] [])) [(.t 47), (.t 48)]), none⟩]
def s_gnomonlaw01_BitsApart_r8p0 : List AOper := [⟨some 47, (.move (.t 12)), none⟩, ⟨some 48, (.move (.t 2)), none⟩]
def s_gnomonlaw01_BitsApart_r8 : List AOper := s_gnomonlaw01_BitsApart_r8p0 ++ s_gnomonlaw01_BitsApart_r8t1
theorem s_gnomonlaw01_BitsApart_r8p0_tale (fr : List V) (H : Heap) : evTale (symAll s_gnomonlaw01_BitsApart_r8p0 [] [47, 48]) [] fr H = evTale (some (49, [], [(47, (.t 12)), (48, (.t 2))])) [] fr H := tale_row (items := [.tt 12, .tt 2]) (by kernel_rfl) fr H
theorem s_gnomonlaw01_BitsApart_r8_x (call : CallF) (it : IterF) (base : Nat) (f : List V) (H : Heap) : evC call it base (.region s_gnomonlaw01_BitsApart_r8 [] [47, 48, 49]) f H = segC call it base s_gnomonlaw01_BitsApart_r8t1 [47, 48, 49] H (evTale (symAll s_gnomonlaw01_BitsApart_r8p0 [] [47, 48]) [] f H) (origRow call it base s_gnomonlaw01_BitsApart_r8 [47, 48, 49] f H) := row_seg call it base s_gnomonlaw01_BitsApart_r8p0 s_gnomonlaw01_BitsApart_r8t1 (by kernel_rfl) f H
theorem s_gnomonlaw01_BitsApart_r8t1_x (call : CallF) (it : IterF) (base : Nat) (f : List V) (H : Heap) : evC call it base (.region s_gnomonlaw01_BitsApart_r8t1 [] [47, 48, 49]) f H = opsC [] s_gnomonlaw01_BitsApart_r8t1 [47, 48, 49] (evOps call base [⟨some 49, (.call (.c (.fn 12 [] [])) [(.t 47), (.t 48)]), none⟩] f H) := row_ops call it base _ _ _ f H
def s_gnomonlaw01_BitsApart_r9t1 : List AOper := [⟨some 52, (.call (.c (.fn 12 [] [])) [(.t 50), (.t 51)]), none⟩]
def s_gnomonlaw01_BitsApart_r9p0 : List AOper := [⟨some 50, (.move (.t 13)), none⟩, ⟨some 51, (.move (.t 2)), none⟩]
def s_gnomonlaw01_BitsApart_r9 : List AOper := s_gnomonlaw01_BitsApart_r9p0 ++ s_gnomonlaw01_BitsApart_r9t1
theorem s_gnomonlaw01_BitsApart_r9p0_tale (fr : List V) (H : Heap) : evTale (symAll s_gnomonlaw01_BitsApart_r9p0 [2] [50, 51]) [2] fr H = evTale (some (52, [], [(50, (.t 13)), (51, (.t 2))])) [2] fr H := tale_row (items := [.tt 13, .tt 2]) (by kernel_rfl) fr H
theorem s_gnomonlaw01_BitsApart_r9_x (call : CallF) (it : IterF) (base : Nat) (f : List V) (H : Heap) : evC call it base (.region s_gnomonlaw01_BitsApart_r9 [] [2, 50, 51, 52]) f H = segC call it base s_gnomonlaw01_BitsApart_r9t1 [2, 50, 51, 52] H (evTale (symAll s_gnomonlaw01_BitsApart_r9p0 [2] [50, 51]) [2] f H) (origRow call it base s_gnomonlaw01_BitsApart_r9 [2, 50, 51, 52] f H) := row_seg call it base s_gnomonlaw01_BitsApart_r9p0 s_gnomonlaw01_BitsApart_r9t1 (by kernel_rfl) f H
theorem s_gnomonlaw01_BitsApart_r9t1_x (call : CallF) (it : IterF) (base : Nat) (f : List V) (H : Heap) : evC call it base (.region s_gnomonlaw01_BitsApart_r9t1 [] [2, 50, 51, 52]) f H = opsC [] s_gnomonlaw01_BitsApart_r9t1 [2, 50, 51, 52] (evOps call base [⟨some 52, (.call (.c (.fn 12 [] [])) [(.t 50), (.t 51)]), none⟩] f H) := row_ops call it base _ _ _ f H
def s_gnomonlaw01_BitsApart_r10t1 : List AOper := [⟨some 55, (.call (.c (.fn 24 [] [])) [(.t 53), (.t 54)]), none⟩]
def s_gnomonlaw01_BitsApart_r10p0 : List AOper := [⟨some 53, (.move (.t 13)), none⟩, ⟨some 54, (.move (.t 8)), none⟩]
def s_gnomonlaw01_BitsApart_r10 : List AOper := s_gnomonlaw01_BitsApart_r10p0 ++ s_gnomonlaw01_BitsApart_r10t1
theorem s_gnomonlaw01_BitsApart_r10p0_tale (fr : List V) (H : Heap) : evTale (symAll s_gnomonlaw01_BitsApart_r10p0 [] [53, 54]) [] fr H = evTale (some (55, [], [(53, (.t 13)), (54, (.t 8))])) [] fr H := tale_row (items := [.tt 13, .tt 8]) (by kernel_rfl) fr H
theorem s_gnomonlaw01_BitsApart_r10_x (call : CallF) (it : IterF) (base : Nat) (f : List V) (H : Heap) : evC call it base (.region s_gnomonlaw01_BitsApart_r10 [] [53, 54, 55]) f H = segC call it base s_gnomonlaw01_BitsApart_r10t1 [53, 54, 55] H (evTale (symAll s_gnomonlaw01_BitsApart_r10p0 [] [53, 54]) [] f H) (origRow call it base s_gnomonlaw01_BitsApart_r10 [53, 54, 55] f H) := row_seg call it base s_gnomonlaw01_BitsApart_r10p0 s_gnomonlaw01_BitsApart_r10t1 (by kernel_rfl) f H
theorem s_gnomonlaw01_BitsApart_r10t1_x (call : CallF) (it : IterF) (base : Nat) (f : List V) (H : Heap) : evC call it base (.region s_gnomonlaw01_BitsApart_r10t1 [] [53, 54, 55]) f H = opsC [] s_gnomonlaw01_BitsApart_r10t1 [53, 54, 55] (evOps call base [⟨some 55, (.call (.c (.fn 24 [] [])) [(.t 53), (.t 54)]), none⟩] f H) := row_ops call it base _ _ _ f H
def s_gnomonlaw01_BitsApart_r11 : List AOper := [
  ⟨some 56, (.move (.t 9)), none⟩,
  ⟨some 57, (.lenS .s (.t 56)), none⟩,
  ⟨some 58, (.bin .gtr (.t 57) (.c (.s (.int .i64 0)))), none⟩]
theorem s_gnomonlaw01_BitsApart_r11_tale (fr : List V) (H : Heap) : evTale (symAll s_gnomonlaw01_BitsApart_r11 [56, 57] [58]) [56, 57] fr H = evTale (some (59, [], [(58, (.op (.bin .gtr (.t 0) (.c (.s (.int .i64 0)))) [(.op (.lenS .s (.t 0)) [(.t 9)]), (.c (.s (.int .i64 0)))]))])) [56, 57] fr H := tale_row (items := [.tt 9, .sub 0 [0] [], .sub 0 [] []]) (by kernel_rfl) fr H
def s_gnomonlaw01_BitsApart_r12t1 : List AOper := [⟨some 63, (.call (.c (.fn 18 [] [])) [(.t 59), (.t 62)]), none⟩]
def s_gnomonlaw01_BitsApart_r12p0 : List AOper := [⟨some 59, (.move (.t 12)), none⟩, ⟨some 60, (.move (.t 9)), none⟩, ⟨some 61, (.indexAddr 1 (.t 60) (.c (.s (.int .i64 0)))), none⟩, ⟨some 62, (.load false 1 (.t 61)), none⟩]
def s_gnomonlaw01_BitsApart_r12 : List AOper := s_gnomonlaw01_BitsApart_r12p0 ++ s_gnomonlaw01_BitsApart_r12t1
theorem s_gnomonlaw01_BitsApart_r12p0_tale (fr : List V) (H : Heap) : evTale (symAll s_gnomonlaw01_BitsApart_r12p0 [12, 58, 60, 61] [59, 62]) [12, 58, 60, 61] fr H = evTale (some (63, [], [(59, (.t 12)), (62, (.op (.load false 1 (.t 0)) [(.op (.indexAddr 1 (.t 0) (.c (.s (.int .i64 0)))) [(.t 9), (.c (.s (.int .i64 0)))])]))])) [12, 58, 60, 61] fr H := tale_row (items := [.tt 12, .tt 9, .sub 1 [0] [], .sub 1 [] []]) (by kernel_rfl) fr H
theorem s_gnomonlaw01_BitsApart_r12_x (call : CallF) (it : IterF) (base : Nat) (f : List V) (H : Heap) : evC call it base (.region s_gnomonlaw01_BitsApart_r12 [] [12, 58, 59, 60, 61, 62, 63]) f H = segC call it base s_gnomonlaw01_BitsApart_r12t1 [12, 58, 59, 60, 61, 62, 63] H (evTale (symAll s_gnomonlaw01_BitsApart_r12p0 [12, 58, 60, 61] [59, 62]) [12, 58, 60, 61] f H) (origRow call it base s_gnomonlaw01_BitsApart_r12 [12, 58, 59, 60, 61, 62, 63] f H) := row_seg call it base s_gnomonlaw01_BitsApart_r12p0 s_gnomonlaw01_BitsApart_r12t1 (by kernel_rfl) f H
theorem s_gnomonlaw01_BitsApart_r12t1_x (call : CallF) (it : IterF) (base : Nat) (f : List V) (H : Heap) : evC call it base (.region s_gnomonlaw01_BitsApart_r12t1 [] [12, 58, 59, 60, 61, 62, 63]) f H = opsC [] s_gnomonlaw01_BitsApart_r12t1 [12, 58, 59, 60, 61, 62, 63] (evOps call base [⟨some 63, (.call (.c (.fn 18 [] [])) [(.t 59), (.t 62)]), none⟩] f H) := row_ops call it base _ _ _ f H
def s_gnomonlaw01_BitsApart_r13t1 : List AOper := [⟨some 68, (.call (.c (.fn 18 [] [])) [(.t 64), (.t 67)]), none⟩]
def s_gnomonlaw01_BitsApart_r13p0 : List AOper := [⟨some 64, (.move (.t 13)), none⟩, ⟨some 65, (.move (.t 9)), none⟩, ⟨some 66, (.indexAddr 1 (.t 65) (.c (.s (.int .i64 0)))), none⟩, ⟨some 67, (.load false 1 (.t 66)), none⟩]
def s_gnomonlaw01_BitsApart_r13 : List AOper := s_gnomonlaw01_BitsApart_r13p0 ++ s_gnomonlaw01_BitsApart_r13t1
theorem s_gnomonlaw01_BitsApart_r13p0_tale (fr : List V) (H : Heap) : evTale (symAll s_gnomonlaw01_BitsApart_r13p0 [13, 65, 66] [64, 67]) [13, 65, 66] fr H = evTale (some (68, [], [(64, (.t 13)), (67, (.op (.load false 1 (.t 0)) [(.op (.indexAddr 1 (.t 0) (.c (.s (.int .i64 0)))) [(.t 9), (.c (.s (.int .i64 0)))])]))])) [13, 65, 66] fr H := tale_row (items := [.tt 13, .tt 9, .sub 1 [0] [], .sub 1 [] []]) (by kernel_rfl) fr H
theorem s_gnomonlaw01_BitsApart_r13_x (call : CallF) (it : IterF) (base : Nat) (f : List V) (H : Heap) : evC call it base (.region s_gnomonlaw01_BitsApart_r13 [] [13, 64, 65, 66, 67, 68]) f H = segC call it base s_gnomonlaw01_BitsApart_r13t1 [13, 64, 65, 66, 67, 68] H (evTale (symAll s_gnomonlaw01_BitsApart_r13p0 [13, 65, 66] [64, 67]) [13, 65, 66] f H) (origRow call it base s_gnomonlaw01_BitsApart_r13 [13, 64, 65, 66, 67, 68] f H) := row_seg call it base s_gnomonlaw01_BitsApart_r13p0 s_gnomonlaw01_BitsApart_r13t1 (by kernel_rfl) f H
theorem s_gnomonlaw01_BitsApart_r13t1_x (call : CallF) (it : IterF) (base : Nat) (f : List V) (H : Heap) : evC call it base (.region s_gnomonlaw01_BitsApart_r13t1 [] [13, 64, 65, 66, 67, 68]) f H = opsC [] s_gnomonlaw01_BitsApart_r13t1 [13, 64, 65, 66, 67, 68] (evOps call base [⟨some 68, (.call (.c (.fn 18 [] [])) [(.t 64), (.t 67)]), none⟩] f H) := row_ops call it base _ _ _ f H
def s_gnomonlaw01_BitsApart_r14t1 : List AOper := [⟨some 73, (.call (.c (.fn 18 [] [])) [(.t 69), (.t 72)]), none⟩]
def s_gnomonlaw01_BitsApart_r14p0 : List AOper := [⟨some 69, (.move (.t 11)), none⟩, ⟨some 70, (.move (.t 9)), none⟩, ⟨some 71, (.indexAddr 1 (.t 70) (.c (.s (.int .i64 0)))), none⟩, ⟨some 72, (.load false 1 (.t 71)), none⟩]
def s_gnomonlaw01_BitsApart_r14 : List AOper := s_gnomonlaw01_BitsApart_r14p0 ++ s_gnomonlaw01_BitsApart_r14t1
theorem s_gnomonlaw01_BitsApart_r14p0_tale (fr : List V) (H : Heap) : evTale (symAll s_gnomonlaw01_BitsApart_r14p0 [11, 70, 71] [69, 72]) [11, 70, 71] fr H = evTale (some (73, [], [(69, (.t 11)), (72, (.op (.load false 1 (.t 0)) [(.op (.indexAddr 1 (.t 0) (.c (.s (.int .i64 0)))) [(.t 9), (.c (.s (.int .i64 0)))])]))])) [11, 70, 71] fr H := tale_row (items := [.tt 11, .tt 9, .sub 1 [0] [], .sub 1 [] []]) (by kernel_rfl) fr H
theorem s_gnomonlaw01_BitsApart_r14_x (call : CallF) (it : IterF) (base : Nat) (f : List V) (H : Heap) : evC call it base (.region s_gnomonlaw01_BitsApart_r14 [] [11, 69, 70, 71, 72, 73]) f H = segC call it base s_gnomonlaw01_BitsApart_r14t1 [11, 69, 70, 71, 72, 73] H (evTale (symAll s_gnomonlaw01_BitsApart_r14p0 [11, 70, 71] [69, 72]) [11, 70, 71] f H) (origRow call it base s_gnomonlaw01_BitsApart_r14 [11, 69, 70, 71, 72, 73] f H) := row_seg call it base s_gnomonlaw01_BitsApart_r14p0 s_gnomonlaw01_BitsApart_r14t1 (by kernel_rfl) f H
theorem s_gnomonlaw01_BitsApart_r14t1_x (call : CallF) (it : IterF) (base : Nat) (f : List V) (H : Heap) : evC call it base (.region s_gnomonlaw01_BitsApart_r14t1 [] [11, 69, 70, 71, 72, 73]) f H = opsC [] s_gnomonlaw01_BitsApart_r14t1 [11, 69, 70, 71, 72, 73] (evOps call base [⟨some 73, (.call (.c (.fn 18 [] [])) [(.t 69), (.t 72)]), none⟩] f H) := row_ops call it base _ _ _ f H
def s_gnomonlaw01_BitsApart_r15t2 : List AOper := [⟨some 14, (.move (.t 75)), none⟩]
def s_gnomonlaw01_BitsApart_r15p1 : List AOper := [⟨some 75, (.call (.c (.fn 16 [] [])) [(.t 74)]), none⟩]
def s_gnomonlaw01_BitsApart_r15t1 : List AOper := s_gnomonlaw01_BitsApart_r15p1 ++ s_gnomonlaw01_BitsApart_r15t2
def s_gnomonlaw01_BitsApart_r15p0 : List AOper := [⟨some 74, (.move (.t 7)), none⟩]
def s_gnomonlaw01_BitsApart_r15 : List AOper := s_gnomonlaw01_BitsApart_r15p0 ++ s_gnomonlaw01_BitsApart_r15t1
theorem s_gnomonlaw01_BitsApart_r15p0_tale (fr : List V) (H : Heap) : evTale (symAll s_gnomonlaw01_BitsApart_r15p0 [11, 12, 13, 58] [74]) [11, 12, 13, 58] fr H = evTale (some (75, [], [(74, (.t 7))])) [11, 12, 13, 58] fr H := tale_row (items := [.tt 7]) (by kernel_rfl) fr H
theorem s_gnomonlaw01_BitsApart_r15_x (call : CallF) (it : IterF) (base : Nat) (f : List V) (H : Heap) : evC call it base (.region s_gnomonlaw01_BitsApart_r15 [] [11, 12, 13, 58, 74, 75]) f H = segC call it base s_gnomonlaw01_BitsApart_r15t1 [11, 12, 13, 58, 74, 75] H (evTale (symAll s_gnomonlaw01_BitsApart_r15p0 [11, 12, 13, 58] [74]) [11, 12, 13, 58] f H) (origRow call it base s_gnomonlaw01_BitsApart_r15 [11, 12, 13, 58, 74, 75] f H) := row_seg call it base s_gnomonlaw01_BitsApart_r15p0 s_gnomonlaw01_BitsApart_r15t1 (by kernel_rfl) f H
theorem s_gnomonlaw01_BitsApart_r15t1_x (call : CallF) (it : IterF) (base : Nat) (f : List V) (H : Heap) : evC call it base (.region s_gnomonlaw01_BitsApart_r15t1 [] [11, 12, 13, 58, 74, 75]) f H = thenC call it base (.region s_gnomonlaw01_BitsApart_r15t2 [] [11, 12, 13, 58, 74, 75]) (opsC [] s_gnomonlaw01_BitsApart_r15p1 [74] (evOps call base [⟨some 75, (.call (.c (.fn 16 [] [])) [(.t 74)]), none⟩] f H)) := (row_op call it base s_gnomonlaw01_BitsApart_r15p1 s_gnomonlaw01_BitsApart_r15t2 (kc := [74]) (by kernel_rfl) f H).trans (by rw [row_ops]; rfl)
theorem s_gnomonlaw01_BitsApart_r15t2_tale (fr : List V) (H : Heap) : evTale (symAll s_gnomonlaw01_BitsApart_r15t2 [11, 12, 13, 58, 74, 75] [14]) [11, 12, 13, 58, 74, 75] fr H = evTale (some (15, [], [(14, (.t 75))])) [11, 12, 13, 58, 74, 75] fr H := tale_row (items := [.tt 75]) (by kernel_rfl) fr H
theorem s_gnomonlaw01_BitsApart_r15t2_x (call : CallF) (it : IterF) (base : Nat) (f : List V) (H : Heap) : evC call it base (.region s_gnomonlaw01_BitsApart_r15t2 [] [11, 12, 13, 58, 74, 75]) f H = segL H (evTale (symAll s_gnomonlaw01_BitsApart_r15t2 [11, 12, 13, 58, 74, 75] [14]) [11, 12, 13, 58, 74, 75] f H) (origRow call it base s_gnomonlaw01_BitsApart_r15t2 [11, 12, 13, 58, 74, 75] f H) := row_last call it base _ f H
def s_gnomonlaw01_BitsApart_r16 : List AOper := [
  ⟨some 15, (.move (.c (.s (.int .i64 0)))), none⟩]
theorem s_gnomonlaw01_BitsApart_r16_tale (fr : List V) (H : Heap) : evTale (symAll s_gnomonlaw01_BitsApart_r16 [] [15]) [] fr H = evTale (some (16, [], [(15, (.c (.s (.int .i64 0))))])) [] fr H := tale_row (items := [.cc (.s (.int .i64 0))]) (by kernel_rfl) fr H
def s_gnomonlaw01_BitsApart_r17 : List AOper := [
  ⟨some 76, (.move (.t 15)), none⟩,
  ⟨some 77, (.move (.t 14)), none⟩,
  ⟨some 78, (.lenS .s (.t 77)), none⟩,
  ⟨some 79, (.bin .lss (.t 76) (.t 78)), none⟩]
theorem s_gnomonlaw01_BitsApart_r17_tale (fr : List V) (H : Heap) : evTale (symAll s_gnomonlaw01_BitsApart_r17 [76, 77, 78] [79]) [76, 77, 78] fr H = evTale (some (80, [], [(79, (.op (.bin .lss (.t 0) (.t 1)) [(.t 15), (.op (.lenS .s (.t 0)) [(.t 14)])]))])) [76, 77, 78] fr H := tale_row (items := [.tt 15, .tt 14, .sub 0 [1] [], .sub 0 [] []]) (by kernel_rfl) fr H
def s_gnomonlaw01_BitsApart_r18t1 : List AOper := [⟨none, (.store 1 (.t 84) (.c (.s (.int .i64 (-1))))), none⟩]
def s_gnomonlaw01_BitsApart_r18p0 : List AOper := [⟨some 82, (.move (.t 14)), none⟩, ⟨some 83, (.move (.t 15)), none⟩, ⟨some 84, (.indexAddr 1 (.t 82) (.t 83)), none⟩]
def s_gnomonlaw01_BitsApart_r18 : List AOper := s_gnomonlaw01_BitsApart_r18p0 ++ s_gnomonlaw01_BitsApart_r18t1
theorem s_gnomonlaw01_BitsApart_r18p0_tale (fr : List V) (H : Heap) : evTale (symAll s_gnomonlaw01_BitsApart_r18p0 [79, 82, 83] [84]) [79, 82, 83] fr H = evTale (some (85, [], [(84, (.op (.indexAddr 1 (.t 0) (.t 1)) [(.t 14), (.t 15)]))])) [79, 82, 83] fr H := tale_row (items := [.tt 14, .tt 15, .sub 0 [] []]) (by kernel_rfl) fr H
theorem s_gnomonlaw01_BitsApart_r18_x (call : CallF) (it : IterF) (base : Nat) (f : List V) (H : Heap) : evC call it base (.region s_gnomonlaw01_BitsApart_r18 [] [79, 82, 83, 84]) f H = segC call it base s_gnomonlaw01_BitsApart_r18t1 [79, 82, 83, 84] H (evTale (symAll s_gnomonlaw01_BitsApart_r18p0 [79, 82, 83] [84]) [79, 82, 83] f H) (origRow call it base s_gnomonlaw01_BitsApart_r18 [79, 82, 83, 84] f H) := row_seg call it base s_gnomonlaw01_BitsApart_r18p0 s_gnomonlaw01_BitsApart_r18t1 (by kernel_rfl) f H
theorem s_gnomonlaw01_BitsApart_r18t1_x (call : CallF) (it : IterF) (base : Nat) (f : List V) (H : Heap) : evC call it base (.region s_gnomonlaw01_BitsApart_r18t1 [] [79, 82, 83, 84]) f H = opsC [] s_gnomonlaw01_BitsApart_r18t1 [79, 82, 83, 84] (evOps call base [⟨none, (.store 1 (.t 84) (.c (.s (.int .i64 (-1))))), none⟩] f H) := row_ops call it base _ _ _ f H
def s_gnomonlaw01_BitsApart_r19 : List AOper := [
  ⟨some 80, (.move (.t 15)), none⟩,
  ⟨some 81, (.bin .add (.t 80) (.c (.s (.int .i64 1)))), none⟩,
  ⟨some 15, (.move (.t 81)), none⟩]
theorem s_gnomonlaw01_BitsApart_r19_tale (fr : List V) (H : Heap) : evTale (symAll s_gnomonlaw01_BitsApart_r19 [80, 81] [15]) [80, 81] fr H = evTale (some (82, [], [(15, (.op (.bin .add (.t 0) (.c (.s (.int .i64 1)))) [(.t 15), (.c (.s (.int .i64 1)))]))])) [80, 81] fr H := tale_row (items := [.tt 15, .sub 0 [] [], .sub 0 [] []]) (by kernel_rfl) fr H
def s_gnomonlaw01_BitsApart_l0_b : ACode :=
  (.seq (.seq (.regionE s_gnomonlaw01_BitsApart_r17 [76, 77, 78] [79])
  (.cond (.t 79)
  .skip
  (.exit 0)))
  (.seq (.block 1
  (.region s_gnomonlaw01_BitsApart_r18 [] [79, 82, 83, 84]))
  (.regionE s_gnomonlaw01_BitsApart_r19 [80, 81] [15])))
def s_gnomonlaw01_BitsApart_l0 : ACode := s_gnomonlaw01_BitsApart_l0_b
theorem s_gnomonlaw01_BitsApart_l0_ev (call : CallF) (it : IterF) (base : Nat) (fr : List V) (H : Heap) : evC call it base s_gnomonlaw01_BitsApart_l0 fr H = evC call it base s_gnomonlaw01_BitsApart_l0_b fr H := rfl
def s_gnomonlaw01_BitsApart_r20t11 : List AOper := [⟨some 97, (.pick (.t 95) (.t 96) (.c (.s (.bool false)))), none⟩, ⟨some 6, (.move (.t 97)), none⟩]
def s_gnomonlaw01_BitsApart_r20p10 : List AOper := [⟨some 96, (.call (.c (.fn 10 [] [])) []), some (95, true)⟩]
def s_gnomonlaw01_BitsApart_r20t10 : List AOper := s_gnomonlaw01_BitsApart_r20p10 ++ s_gnomonlaw01_BitsApart_r20t11
def s_gnomonlaw01_BitsApart_r20p9 : List AOper := [⟨some 94, (.pick (.t 89) (.t 93) (.c (.s (.bool false)))), none⟩, ⟨some 95, (.move (.t 94)), none⟩]
def s_gnomonlaw01_BitsApart_r20t9 : List AOper := s_gnomonlaw01_BitsApart_r20p9 ++ s_gnomonlaw01_BitsApart_r20t10
def s_gnomonlaw01_BitsApart_r20p8 : List AOper := [⟨some 93, (.call (.c (.fn 15 [] [])) [(.t 91), (.t 92)]), some (89, true)⟩]
def s_gnomonlaw01_BitsApart_r20t8 : List AOper := s_gnomonlaw01_BitsApart_r20p8 ++ s_gnomonlaw01_BitsApart_r20t9
def s_gnomonlaw01_BitsApart_r20p7 : List AOper := [⟨some 92, (.move (.t 10)), some (89, true)⟩]
def s_gnomonlaw01_BitsApart_r20t7 : List AOper := s_gnomonlaw01_BitsApart_r20p7 ++ s_gnomonlaw01_BitsApart_r20t8
def s_gnomonlaw01_BitsApart_r20p6 : List AOper := [⟨some 91, (.call (.c (.fn 16 [] [])) [(.t 90)]), some (89, true)⟩]
def s_gnomonlaw01_BitsApart_r20t6 : List AOper := s_gnomonlaw01_BitsApart_r20p6 ++ s_gnomonlaw01_BitsApart_r20t7
def s_gnomonlaw01_BitsApart_r20p5 : List AOper := [⟨some 90, (.move (.t 8)), some (89, true)⟩]
def s_gnomonlaw01_BitsApart_r20t5 : List AOper := s_gnomonlaw01_BitsApart_r20p5 ++ s_gnomonlaw01_BitsApart_r20t6
def s_gnomonlaw01_BitsApart_r20p4 : List AOper := [⟨some 89, (.move (.t 88)), none⟩]
def s_gnomonlaw01_BitsApart_r20t4 : List AOper := s_gnomonlaw01_BitsApart_r20p4 ++ s_gnomonlaw01_BitsApart_r20t5
def s_gnomonlaw01_BitsApart_r20p3 : List AOper := [⟨some 88, (.call (.c (.fn 15 [] [])) [(.t 86), (.t 87)]), none⟩]
def s_gnomonlaw01_BitsApart_r20t3 : List AOper := s_gnomonlaw01_BitsApart_r20p3 ++ s_gnomonlaw01_BitsApart_r20t4
def s_gnomonlaw01_BitsApart_r20p2 : List AOper := [⟨some 87, (.move (.t 9)), none⟩]
def s_gnomonlaw01_BitsApart_r20t2 : List AOper := s_gnomonlaw01_BitsApart_r20p2 ++ s_gnomonlaw01_BitsApart_r20t3
def s_gnomonlaw01_BitsApart_r20p1 : List AOper := [⟨some 86, (.call (.c (.fn 16 [] [])) [(.t 85)]), none⟩]
def s_gnomonlaw01_BitsApart_r20t1 : List AOper := s_gnomonlaw01_BitsApart_r20p1 ++ s_gnomonlaw01_BitsApart_r20t2
def s_gnomonlaw01_BitsApart_r20p0 : List AOper := [⟨some 85, (.move (.t 7)), none⟩]
def s_gnomonlaw01_BitsApart_r20 : List AOper := s_gnomonlaw01_BitsApart_r20p0 ++ s_gnomonlaw01_BitsApart_r20t1
theorem s_gnomonlaw01_BitsApart_r20p0_tale (fr : List V) (H : Heap) : evTale (symAll s_gnomonlaw01_BitsApart_r20p0 [7, 14, 15, 79] [85]) [7, 14, 15, 79] fr H = evTale (some (86, [], [(85, (.t 7))])) [7, 14, 15, 79] fr H := tale_row (items := [.tt 7]) (by kernel_rfl) fr H
theorem s_gnomonlaw01_BitsApart_r20_x (call : CallF) (it : IterF) (base : Nat) (f : List V) (H : Heap) : evC call it base (.region s_gnomonlaw01_BitsApart_r20 [] [7, 8, 9, 10, 14, 15, 79, 85, 86, 87, 88, 89, 90, 91, 92, 93, 94, 95, 96, 97]) f H = segC call it base s_gnomonlaw01_BitsApart_r20t1 [7, 8, 9, 10, 14, 15, 79, 85, 86, 87, 88, 89, 90, 91, 92, 93, 94, 95, 96, 97] H (evTale (symAll s_gnomonlaw01_BitsApart_r20p0 [7, 14, 15, 79] [85]) [7, 14, 15, 79] f H) (origRow call it base s_gnomonlaw01_BitsApart_r20 [7, 8, 9, 10, 14, 15, 79, 85, 86, 87, 88, 89, 90, 91, 92, 93, 94, 95, 96, 97] f H) := row_seg call it base s_gnomonlaw01_BitsApart_r20p0 s_gnomonlaw01_BitsApart_r20t1 (by kernel_rfl) f H
theorem s_gnomonlaw01_BitsApart_r20t1_x (call : CallF) (it : IterF) (base : Nat) (f : List V) (H : Heap) : evC call it base (.region s_gnomonlaw01_BitsApart_r20t1 [] [7, 8, 9, 10, 14, 15, 79, 85, 86, 87, 88, 89, 90, 91, 92, 93, 94, 95, 96, 97]) f H = thenC call it base (.region s_gnomonlaw01_BitsApart_r20t2 [] [7, 8, 9, 10, 14, 15, 79, 85, 86, 87, 88, 89, 90, 91, 92, 93, 94, 95, 96, 97]) (opsC [] s_gnomonlaw01_BitsApart_r20p1 [85] (evOps call base [⟨some 86, (.call (.c (.fn 16 [] [])) [(.t 85)]), none⟩] f H)) := (row_op call it base s_gnomonlaw01_BitsApart_r20p1 s_gnomonlaw01_BitsApart_r20t2 (kc := [85]) (by kernel_rfl) f H).trans (by rw [row_ops]; rfl)
theorem s_gnomonlaw01_BitsApart_r20p2_tale (fr : List V) (H : Heap) : evTale (symAll s_gnomonlaw01_BitsApart_r20p2 [9] [87]) [9] fr H = evTale (some (88, [], [(87, (.t 9))])) [9] fr H := tale_row (items := [.tt 9]) (by kernel_rfl) fr H
theorem s_gnomonlaw01_BitsApart_r20t2_x (call : CallF) (it : IterF) (base : Nat) (f : List V) (H : Heap) : evC call it base (.region s_gnomonlaw01_BitsApart_r20t2 [] [7, 8, 9, 10, 14, 15, 79, 85, 86, 87, 88, 89, 90, 91, 92, 93, 94, 95, 96, 97]) f H = segC call it base s_gnomonlaw01_BitsApart_r20t3 [7, 8, 9, 10, 14, 15, 79, 85, 86, 87, 88, 89, 90, 91, 92, 93, 94, 95, 96, 97] H (evTale (symAll s_gnomonlaw01_BitsApart_r20p2 [9] [87]) [9] f H) (origRow call it base s_gnomonlaw01_BitsApart_r20t2 [7, 8, 9, 10, 14, 15, 79, 85, 86, 87, 88, 89, 90, 91, 92, 93, 94, 95, 96, 97] f H) := row_seg call it base s_gnomonlaw01_BitsApart_r20p2 s_gnomonlaw01_BitsApart_r20t3 (by kernel_rfl) f H
theorem s_gnomonlaw01_BitsApart_r20t3_x (call : CallF) (it : IterF) (base : Nat) (f : List V) (H : Heap) : evC call it base (.region s_gnomonlaw01_BitsApart_r20t3 [] [7, 8, 9, 10, 14, 15, 79, 85, 86, 87, 88, 89, 90, 91, 92, 93, 94, 95, 96, 97]) f H = thenC call it base (.region s_gnomonlaw01_BitsApart_r20t4 [] [7, 8, 9, 10, 14, 15, 79, 85, 86, 87, 88, 89, 90, 91, 92, 93, 94, 95, 96, 97]) (opsC [] s_gnomonlaw01_BitsApart_r20p3 [86, 87] (evOps call base [⟨some 88, (.call (.c (.fn 15 [] [])) [(.t 86), (.t 87)]), none⟩] f H)) := (row_op call it base s_gnomonlaw01_BitsApart_r20p3 s_gnomonlaw01_BitsApart_r20t4 (kc := [86, 87]) (by kernel_rfl) f H).trans (by rw [row_ops]; rfl)
theorem s_gnomonlaw01_BitsApart_r20p4_tale (fr : List V) (H : Heap) : evTale (symAll s_gnomonlaw01_BitsApart_r20p4 [88] [89]) [88] fr H = evTale (some (90, [], [(89, (.t 88))])) [88] fr H := tale_row (items := [.tt 88]) (by kernel_rfl) fr H
theorem s_gnomonlaw01_BitsApart_r20t4_x (call : CallF) (it : IterF) (base : Nat) (f : List V) (H : Heap) : evC call it base (.region s_gnomonlaw01_BitsApart_r20t4 [] [7, 8, 9, 10, 14, 15, 79, 85, 86, 87, 88, 89, 90, 91, 92, 93, 94, 95, 96, 97]) f H = segC call it base s_gnomonlaw01_BitsApart_r20t5 [7, 8, 9, 10, 14, 15, 79, 85, 86, 87, 88, 89, 90, 91, 92, 93, 94, 95, 96, 97] H (evTale (symAll s_gnomonlaw01_BitsApart_r20p4 [88] [89]) [88] f H) (origRow call it base s_gnomonlaw01_BitsApart_r20t4 [7, 8, 9, 10, 14, 15, 79, 85, 86, 87, 88, 89, 90, 91, 92, 93, 94, 95, 96, 97] f H) := row_seg call it base s_gnomonlaw01_BitsApart_r20p4 s_gnomonlaw01_BitsApart_r20t5 (by kernel_rfl) f H
theorem s_gnomonlaw01_BitsApart_r20t5_x (call : CallF) (it : IterF) (base : Nat) (f : List V) (H : Heap) : evC call it base (.region s_gnomonlaw01_BitsApart_r20t5 [] [7, 8, 9, 10, 14, 15, 79, 85, 86, 87, 88, 89, 90, 91, 92, 93, 94, 95, 96, 97]) f H = thenC call it base (.region s_gnomonlaw01_BitsApart_r20t6 [] [7, 8, 9, 10, 14, 15, 79, 85, 86, 87, 88, 89, 90, 91, 92, 93, 94, 95, 96, 97]) (opsC [] s_gnomonlaw01_BitsApart_r20p5 [8] (evOps call base [⟨some 90, (.move (.t 8)), some (89, true)⟩] f H)) := (row_op call it base s_gnomonlaw01_BitsApart_r20p5 s_gnomonlaw01_BitsApart_r20t6 (kc := [8]) (by kernel_rfl) f H).trans (by rw [row_ops]; rfl)
theorem s_gnomonlaw01_BitsApart_r20t6_x (call : CallF) (it : IterF) (base : Nat) (f : List V) (H : Heap) : evC call it base (.region s_gnomonlaw01_BitsApart_r20t6 [] [7, 8, 9, 10, 14, 15, 79, 85, 86, 87, 88, 89, 90, 91, 92, 93, 94, 95, 96, 97]) f H = thenC call it base (.region s_gnomonlaw01_BitsApart_r20t7 [] [7, 8, 9, 10, 14, 15, 79, 85, 86, 87, 88, 89, 90, 91, 92, 93, 94, 95, 96, 97]) (opsC [] s_gnomonlaw01_BitsApart_r20p6 [90] (evOps call base [⟨some 91, (.call (.c (.fn 16 [] [])) [(.t 90)]), some (89, true)⟩] f H)) := (row_op call it base s_gnomonlaw01_BitsApart_r20p6 s_gnomonlaw01_BitsApart_r20t7 (kc := [90]) (by kernel_rfl) f H).trans (by rw [row_ops]; rfl)
theorem s_gnomonlaw01_BitsApart_r20t7_x (call : CallF) (it : IterF) (base : Nat) (f : List V) (H : Heap) : evC call it base (.region s_gnomonlaw01_BitsApart_r20t7 [] [7, 8, 9, 10, 14, 15, 79, 85, 86, 87, 88, 89, 90, 91, 92, 93, 94, 95, 96, 97]) f H = thenC call it base (.region s_gnomonlaw01_BitsApart_r20t8 [] [7, 8, 9, 10, 14, 15, 79, 85, 86, 87, 88, 89, 90, 91, 92, 93, 94, 95, 96, 97]) (opsC [] s_gnomonlaw01_BitsApart_r20p7 [10] (evOps call base [⟨some 92, (.move (.t 10)), some (89, true)⟩] f H)) := (row_op call it base s_gnomonlaw01_BitsApart_r20p7 s_gnomonlaw01_BitsApart_r20t8 (kc := [10]) (by kernel_rfl) f H).trans (by rw [row_ops]; rfl)
theorem s_gnomonlaw01_BitsApart_r20t8_x (call : CallF) (it : IterF) (base : Nat) (f : List V) (H : Heap) : evC call it base (.region s_gnomonlaw01_BitsApart_r20t8 [] [7, 8, 9, 10, 14, 15, 79, 85, 86, 87, 88, 89, 90, 91, 92, 93, 94, 95, 96, 97]) f H = thenC call it base (.region s_gnomonlaw01_BitsApart_r20t9 [] [7, 8, 9, 10, 14, 15, 79, 85, 86, 87, 88, 89, 90, 91, 92, 93, 94, 95, 96, 97]) (opsC [] s_gnomonlaw01_BitsApart_r20p8 [91, 92] (evOps call base [⟨some 93, (.call (.c (.fn 15 [] [])) [(.t 91), (.t 92)]), some (89, true)⟩] f H)) := (row_op call it base s_gnomonlaw01_BitsApart_r20p8 s_gnomonlaw01_BitsApart_r20t9 (kc := [91, 92]) (by kernel_rfl) f H).trans (by rw [row_ops]; rfl)
theorem s_gnomonlaw01_BitsApart_r20p9_tale (fr : List V) (H : Heap) : evTale (symAll s_gnomonlaw01_BitsApart_r20p9 [89, 93, 94] [95]) [89, 93, 94] fr H = evTale (some (96, [], [(95, (.pick (.t 89) (.t 93) (.c (.s (.bool false)))))])) [89, 93, 94] fr H := tale_row (items := [.sub 0 [] [], .sub 0 [] []]) (by kernel_rfl) fr H
theorem s_gnomonlaw01_BitsApart_r20t9_x (call : CallF) (it : IterF) (base : Nat) (f : List V) (H : Heap) : evC call it base (.region s_gnomonlaw01_BitsApart_r20t9 [] [7, 8, 9, 10, 14, 15, 79, 85, 86, 87, 88, 89, 90, 91, 92, 93, 94, 95, 96, 97]) f H = segC call it base s_gnomonlaw01_BitsApart_r20t10 [7, 8, 9, 10, 14, 15, 79, 85, 86, 87, 88, 89, 90, 91, 92, 93, 94, 95, 96, 97] H (evTale (symAll s_gnomonlaw01_BitsApart_r20p9 [89, 93, 94] [95]) [89, 93, 94] f H) (origRow call it base s_gnomonlaw01_BitsApart_r20t9 [7, 8, 9, 10, 14, 15, 79, 85, 86, 87, 88, 89, 90, 91, 92, 93, 94, 95, 96, 97] f H) := row_seg call it base s_gnomonlaw01_BitsApart_r20p9 s_gnomonlaw01_BitsApart_r20t10 (by kernel_rfl) f H
theorem s_gnomonlaw01_BitsApart_r20t10_x (call : CallF) (it : IterF) (base : Nat) (f : List V) (H : Heap) : evC call it base (.region s_gnomonlaw01_BitsApart_r20t10 [] [7, 8, 9, 10, 14, 15, 79, 85, 86, 87, 88, 89, 90, 91, 92, 93, 94, 95, 96, 97]) f H = thenC call it base (.region s_gnomonlaw01_BitsApart_r20t11 [] [7, 8, 9, 10, 14, 15, 79, 85, 86, 87, 88, 89, 90, 91, 92, 93, 94, 95, 96, 97]) (opsC [] s_gnomonlaw01_BitsApart_r20p10 [] (evOps call base [⟨some 96, (.call (.c (.fn 10 [] [])) []), some (95, true)⟩] f H)) := (row_op call it base s_gnomonlaw01_BitsApart_r20p10 s_gnomonlaw01_BitsApart_r20t11 (kc := []) (by kernel_rfl) f H).trans (by rw [row_ops]; rfl)
theorem s_gnomonlaw01_BitsApart_r20t11_tale (fr : List V) (H : Heap) : evTale (symAll s_gnomonlaw01_BitsApart_r20t11 [7, 8, 9, 10, 14, 15, 79, 85, 86, 87, 88, 89, 90, 91, 92, 93, 94, 95, 96, 97] [6]) [7, 8, 9, 10, 14, 15, 79, 85, 86, 87, 88, 89, 90, 91, 92, 93, 94, 95, 96, 97] fr H = evTale (some (98, [], [(6, (.pick (.t 95) (.t 96) (.c (.s (.bool false)))))])) [7, 8, 9, 10, 14, 15, 79, 85, 86, 87, 88, 89, 90, 91, 92, 93, 94, 95, 96, 97] fr H := tale_row (items := [.sub 0 [] [], .sub 0 [] []]) (by kernel_rfl) fr H
theorem s_gnomonlaw01_BitsApart_r20t11_x (call : CallF) (it : IterF) (base : Nat) (f : List V) (H : Heap) : evC call it base (.region s_gnomonlaw01_BitsApart_r20t11 [] [7, 8, 9, 10, 14, 15, 79, 85, 86, 87, 88, 89, 90, 91, 92, 93, 94, 95, 96, 97]) f H = segL H (evTale (symAll s_gnomonlaw01_BitsApart_r20t11 [7, 8, 9, 10, 14, 15, 79, 85, 86, 87, 88, 89, 90, 91, 92, 93, 94, 95, 96, 97] [6]) [7, 8, 9, 10, 14, 15, 79, 85, 86, 87, 88, 89, 90, 91, 92, 93, 94, 95, 96, 97] f H) (origRow call it base s_gnomonlaw01_BitsApart_r20t11 [7, 8, 9, 10, 14, 15, 79, 85, 86, 87, 88, 89, 90, 91, 92, 93, 94, 95, 96, 97] f H) := row_last call it base _ f H
def s_gnomonlaw01_BitsApart : ACFun := { ntmps := 98, results := [(.tmp 6)], body :=
  (.seq (.regionE s_gnomonlaw01_BitsApart_r0 s_gnomonlaw01_BitsApart_r0_k [])
  (.seq (.seq (.regionE s_gnomonlaw01_BitsApart_r1 [16, 17, 18, 19, 20, 21, 22] [23])
  (.cond (.t 23)
  (.seq (.region s_gnomonlaw01_BitsApart_r2 [] [0, 1, 2, 23, 24])
  .ret)
  .skip))
  (.seq (.region s_gnomonlaw01_BitsApart_r3 [] [0, 1, 23, 25, 26, 27, 28])
  (.seq (.region s_gnomonlaw01_BitsApart_r4 [] [29, 30, 31, 32])
  (.seq (.region s_gnomonlaw01_BitsApart_r5 [] [33, 34, 35, 36, 37, 38, 39, 40])
  (.seq (.region s_gnomonlaw01_BitsApart_r6 [] [41, 42, 43])
  (.seq (.region s_gnomonlaw01_BitsApart_r7 [] [44, 45, 46])
  (.seq (.region s_gnomonlaw01_BitsApart_r8 [] [47, 48, 49])
  (.seq (.region s_gnomonlaw01_BitsApart_r9 [] [2, 50, 51, 52])
  (.seq (.region s_gnomonlaw01_BitsApart_r10 [] [53, 54, 55])
  (.seq (.seq (.regionE s_gnomonlaw01_BitsApart_r11 [56, 57] [58])
  (.cond (.t 58)
  (.seq (.region s_gnomonlaw01_BitsApart_r12 [] [12, 58, 59, 60, 61, 62, 63])
  (.seq (.region s_gnomonlaw01_BitsApart_r13 [] [13, 64, 65, 66, 67, 68])
  (.region s_gnomonlaw01_BitsApart_r14 [] [11, 69, 70, 71, 72, 73])))
  .skip))
  (.seq (.region s_gnomonlaw01_BitsApart_r15 [] [11, 12, 13, 58, 74, 75])
  (.seq (.seq (.regionE s_gnomonlaw01_BitsApart_r16 [] [15])
  (.block 0
  (.loop [] s_gnomonlaw01_BitsApart_l0)))
  (.seq (.region s_gnomonlaw01_BitsApart_r20 [] [7, 8, 9, 10, 14, 15, 79, 85, 86, 87, 88, 89, 90, 91, 92, 93, 94, 95, 96, 97])
  .ret)))))))))))))) }
def a_gnomonlaw01_BitsApart := And.intro @s_gnomonlaw01_BitsApart_r0_tale (And.intro @s_gnomonlaw01_BitsApart_r0_kT (And.intro @s_gnomonlaw01_BitsApart_r0_kA0 (And.intro @s_gnomonlaw01_BitsApart_r0_kA1 (And.intro @s_gnomonlaw01_BitsApart_r0_kA2 (And.intro @s_gnomonlaw01_BitsApart_r1_tale (And.intro @s_gnomonlaw01_BitsApart_r2_x (And.intro @s_gnomonlaw01_BitsApart_r2t1_tale (And.intro @s_gnomonlaw01_BitsApart_r2t1_x (And.intro @s_gnomonlaw01_BitsApart_r3p0_tale (And.intro @s_gnomonlaw01_BitsApart_r3_x (And.intro @s_gnomonlaw01_BitsApart_r3t1_x (And.intro @s_gnomonlaw01_BitsApart_r3p2_tale (And.intro @s_gnomonlaw01_BitsApart_r3t2_x (And.intro @s_gnomonlaw01_BitsApart_r3t3_x (And.intro @s_gnomonlaw01_BitsApart_r3t4_tale (And.intro @s_gnomonlaw01_BitsApart_r3t4_x (And.intro @s_gnomonlaw01_BitsApart_r4p0_tale (And.intro @s_gnomonlaw01_BitsApart_r4_x (And.intro @s_gnomonlaw01_BitsApart_r4t1_x (And.intro @s_gnomonlaw01_BitsApart_r4p2_tale (And.intro @s_gnomonlaw01_BitsApart_r4t2_x (And.intro @s_gnomonlaw01_BitsApart_r4t3_x (And.intro @s_gnomonlaw01_BitsApart_r4t4_tale (And.intro @s_gnomonlaw01_BitsApart_r4t4_x (And.intro @s_gnomonlaw01_BitsApart_r5p0_tale (And.intro @s_gnomonlaw01_BitsApart_r5_x (And.intro @s_gnomonlaw01_BitsApart_r5t1_x (And.intro @s_gnomonlaw01_BitsApart_r5p2_tale (And.intro @s_gnomonlaw01_BitsApart_r5t2_x (And.intro @s_gnomonlaw01_BitsApart_r5t3_x (And.intro @s_gnomonlaw01_BitsApart_r5p4_tale (And.intro @s_gnomonlaw01_BitsApart_r5t4_x (And.intro @s_gnomonlaw01_BitsApart_r5t5_x (And.intro @s_gnomonlaw01_BitsApart_r5t6_tale (And.intro @s_gnomonlaw01_BitsApart_r5t6_x (And.intro @s_gnomonlaw01_BitsApart_r6p0_tale (And.intro @s_gnomonlaw01_BitsApart_r6_x (And.intro @s_gnomonlaw01_BitsApart_r6t1_x (And.intro @s_gnomonlaw01_BitsApart_r7p0_tale (And.intro @s_gnomonlaw01_BitsApart_r7_x (And.intro @s_gnomonlaw01_BitsApart_r7t1_x (And.intro @s_gnomonlaw01_BitsApart_r8p0_tale (And.intro @s_gnomonlaw01_BitsApart_r8_x (And.intro @s_gnomonlaw01_BitsApart_r8t1_x (And.intro @s_gnomonlaw01_BitsApart_r9p0_tale (And.intro @s_gnomonlaw01_BitsApart_r9_x (And.intro @s_gnomonlaw01_BitsApart_r9t1_x (And.intro @s_gnomonlaw01_BitsApart_r10p0_tale (And.intro @s_gnomonlaw01_BitsApart_r10_x (And.intro @s_gnomonlaw01_BitsApart_r10t1_x (And.intro @s_gnomonlaw01_BitsApart_r11_tale (And.intro @s_gnomonlaw01_BitsApart_r12p0_tale (And.intro @s_gnomonlaw01_BitsApart_r12_x (And.intro @s_gnomonlaw01_BitsApart_r12t1_x (And.intro @s_gnomonlaw01_BitsApart_r13p0_tale (And.intro @s_gnomonlaw01_BitsApart_r13_x (And.intro @s_gnomonlaw01_BitsApart_r13t1_x (And.intro @s_gnomonlaw01_BitsApart_r14p0_tale (And.intro @s_gnomonlaw01_BitsApart_r14_x (And.intro @s_gnomonlaw01_BitsApart_r14t1_x (And.intro @s_gnomonlaw01_BitsApart_r15p0_tale (And.intro @s_gnomonlaw01_BitsApart_r15_x (And.intro @s_gnomonlaw01_BitsApart_r15t1_x (And.intro @s_gnomonlaw01_BitsApart_r15t2_tale (And.intro @s_gnomonlaw01_BitsApart_r15t2_x (And.intro @s_gnomonlaw01_BitsApart_r16_tale (And.intro @s_gnomonlaw01_BitsApart_r17_tale (And.intro @s_gnomonlaw01_BitsApart_r18p0_tale (And.intro @s_gnomonlaw01_BitsApart_r18_x (And.intro @s_gnomonlaw01_BitsApart_r18t1_x (And.intro @s_gnomonlaw01_BitsApart_r19_tale (And.intro @s_gnomonlaw01_BitsApart_l0_ev (And.intro @s_gnomonlaw01_BitsApart_r20p0_tale (And.intro @s_gnomonlaw01_BitsApart_r20_x (And.intro @s_gnomonlaw01_BitsApart_r20t1_x (And.intro @s_gnomonlaw01_BitsApart_r20p2_tale (And.intro @s_gnomonlaw01_BitsApart_r20t2_x (And.intro @s_gnomonlaw01_BitsApart_r20t3_x (And.intro @s_gnomonlaw01_BitsApart_r20p4_tale (And.intro @s_gnomonlaw01_BitsApart_r20t4_x (And.intro @s_gnomonlaw01_BitsApart_r20t5_x (And.intro @s_gnomonlaw01_BitsApart_r20t6_x (And.intro @s_gnomonlaw01_BitsApart_r20t7_x (And.intro @s_gnomonlaw01_BitsApart_r20t8_x (And.intro @s_gnomonlaw01_BitsApart_r20p9_tale (And.intro @s_gnomonlaw01_BitsApart_r20t9_x (And.intro @s_gnomonlaw01_BitsApart_r20t10_x (And.intro @s_gnomonlaw01_BitsApart_r20t11_tale (@s_gnomonlaw01_BitsApart_r20t11_x)))))))))))))))))))))))))))))))))))))))))))))))))))))))))))))))))))))))))))))))))))))))))
theorem CB4_5 : compK Tryd.prog PX0 5 = some (false, s_gnomonlaw01_BitsApart.ntmps, s_gnomonlaw01_BitsApart.results, s_gnomonlaw01_BitsApart.body.bare) := by kernel_rfl
end Go.Proofs.YtccallbknpbggaaDoor
set_option maxRecDepth 100000
namespace Go.Proofs.YtccallbknpbggaaDoor
open Go.AM
section
variable {CT : Nat → Option CFun}
theorem apart_loop (call : CallF) (l : List Int) (t7 t8 t9 t10 : V) (id m : Nat) (hn : l.length < 2 ^ 62) (him : id < m) : ∀ (d i : Nat) (c : List V) (g : Nat) (H : Heap), i + d = l.length → getC H id g = some c → l.length ≤ c.length → H.length = m →
    ∃ en H2, itW (evC call itW 0 s_gnomonlaw01_BitsApart_l0) [] m (frOf 98 [(7, t7), (8, t8), (9, t9), (10, t10), (14, .sl id g 0 l.length 1), (15, .s (.int .i64 i))]) H = some (.ext 0, frOf 98 ((7, t7) :: (8, t8) :: (9, t9) :: (10, t10) :: en), H2) ∧ (∃ a b c, en = [(14, a), (15, b), (79, c)]) ∧ H2.length = m ∧ ∀ j, j ≠ id → H2[j]? = H[j]? := by
  intro d
  induction d with
  | zero =>
    intro i c g H hi hc hl hH
    have : i = l.length := by omega
    subst this
    rw [itW_step]
    simp only [a_gnomonlaw01_BitsApart,s_gnomonlaw01_BitsApart_l0_b, am0,am1,am2,am3,am4,am5,am6,am7,bl,i64,reduceIte,reduceCtorEq,Nat.reduceEqDiff,Nat.reduceLT,Nat.reduceLeDiff,Nat.reduceBEq,Nat.reduceAdd,fillA,splice,Nat.reduceMul,al0,al1,al2,al3,al4,al5,al6,al7,al8,al9,al10,al11,al12,al13,al14,al15,al16,al17,al18,al19,al20,al21,al22,al23,al24,al25,al26,al27,al28,al29,al30,al31,al32,al33,al34,amY, Int.lt_irrefl, trim_same hH]
    exact ⟨_, _, rfl, ⟨_, _, _, rfl⟩, hH, fun _ _ => rfl⟩
  | succ d ih =>
    intro i c g H hi hc hl hH
    have hlt : (i : Int) < (l.length : Int) := by omega
    have hxi : xIndexAddr 1 (.sl id g 0 l.length 1) (.s (.int .i64 i)) = some (.ref id g i) := by
      have h1 : (0 : Int) ≤ i ∧ (i : Int) < l.length ∧ 1 = 1 := ⟨by omega, by omega, rfl⟩
      simp only [xi_sl, h1, and_self, if_true, Int.toNat_natCast, Nat.mul_one, Nat.zero_add]
    have hst : storeV H 0 1 (.s (.int .i64 (-1))) (.ref id g i) = some (H.set id (.cells g (c.set i (.s (.int .i64 (-1)))))) := storeV_at hc (Nat.zero_le _) rfl (by omega)
    have hH2 : (H.set id (.cells g (c.set i (.s (.int .i64 (-1)))))).length = m := by rw [List.length_set]; exact hH
    rw [itW_step]
    simp only [a_gnomonlaw01_BitsApart,s_gnomonlaw01_BitsApart_l0_b, hst, ↓hst, am0,am1,am2,am3,am4,am5,am6,am7,bl,i64,reduceIte,reduceCtorEq,Nat.reduceEqDiff,Nat.reduceLT,Nat.reduceLeDiff,Nat.reduceBEq,Nat.reduceAdd,fillA,splice,Nat.reduceMul,al0,al1,al2,al3,al4,al5,al6,al7,al8,al9,al10,al11,al12,al13,al14,al15,al16,al17,al18,al19,al20,al21,al22,al23,al24,al25,al26,al27,al28,al29,al30,al31,al32,al33,al34,amY, hlt, hxi, wrap_pos (n := i) (by omega), trim_same hH2]
    obtain ⟨en, H2, h1, h2, h3, h4⟩ := ih (i + 1) (c.set i (.s (.int .i64 (-1)))) g (H.set id (.cells g (c.set i (.s (.int .i64 (-1)))))) (by omega) (getC_set hc g) (by simpa using hl) hH2
    exact ⟨en, H2, h1, h2, h3, fun j hj => by rw [h4 j hj, List.getElem?_set_ne (Ne.symm hj)]⟩
theorem apart_law (h : TD CT) (hF : CT k_gnomonlaw01_BitsApart = some (.code s_gnomonlaw01_BitsApart)) (hS : CT k_gnomonref01_Same = some (.code s_gnomonref01_Same)) (hwk : ∀ base H, callW CT (.fn k_gnomonlaw01_wakes [] []) [] base H = some (.s (.bool true), H))
    (va : V) (a : List Int) (hva : ∀ H, Rd H va (a.map iV)) (hwa : Wide1 va) (hna : a.length < 2 ^ 63) (hxa : ∀ x ∈ a, x < 2 ^ 63) (vb : V) (b : List Int) (hvb : ∀ H, Rd H vb (b.map iV)) (hwb : Wide1 vb) (hnb : b.length < 2 ^ 63) (hxb : ∀ x ∈ b, x < 2 ^ 63) (z : Int) (hz : z < 2 ^ 63) :
    ∃ H', callW CT (.fn k_gnomonlaw01_BitsApart [] []) [va, vb, .s (.int .i64 z)] 0 [] = some (.s (.bool true), H') := by
  suffices hall : ∀ A0 : Heap, ∃ H', callW CT (.fn k_gnomonlaw01_BitsApart [] []) [va, vb, .s (.int .i64 z)] 0 A0 = some (.s (.bool true), H') from hall []
  intro A0
  have la := fun H => iV_len' (hva H)
  have lb := fun H => iV_len' (hvb H)
  by_cases ha : a.length > 1000
  · have hg : decide ((a.length : Int) > 1000) = true := by simp; omega
    refine ⟨A0, callW_fn (c := s_gnomonlaw01_BitsApart) hF (by simp [s_gnomonlaw01_BitsApart]) ?_⟩
    simp only [s_gnomonlaw01_BitsApart, a_gnomonlaw01_BitsApart,s_gnomonlaw01_BitsApart_l0_b, am0,am1,am2,am3,am4,am5,am6,am7,bl,i64,reduceIte,reduceCtorEq,Nat.reduceEqDiff,Nat.reduceLT,Nat.reduceLeDiff,Nat.reduceBEq,Nat.reduceAdd,fillA,splice,Nat.reduceMul,al0,al1,al2,al3,al4,al5,al6,al7,al8,al9,al10,al11,al12,al13,al14,al15,al16,al17,al18,al19,al20,al21,al22,al23,al24,al25,al26,al27,al28,al29,al30,al31,al32,al33,al34,amY, la, lb, hg, hwk]
    done
  have ga : decide ((a.length : Int) > 1000) = false := by simp; omega
  by_cases hb : b.length > 1000
  · have hg : decide ((b.length : Int) > 1000) = true := by simp; omega
    refine ⟨A0, callW_fn (c := s_gnomonlaw01_BitsApart) hF (by simp [s_gnomonlaw01_BitsApart]) ?_⟩
    simp only [s_gnomonlaw01_BitsApart, a_gnomonlaw01_BitsApart,s_gnomonlaw01_BitsApart_l0_b, am0,am1,am2,am3,am4,am5,am6,am7,bl,i64,reduceIte,reduceCtorEq,Nat.reduceEqDiff,Nat.reduceLT,Nat.reduceLeDiff,Nat.reduceBEq,Nat.reduceAdd,fillA,splice,Nat.reduceMul,al0,al1,al2,al3,al4,al5,al6,al7,al8,al9,al10,al11,al12,al13,al14,al15,al16,al17,al18,al19,al20,al21,al22,al23,al24,al25,al26,al27,al28,al29,al30,al31,al32,al33,al34,amY, la, lb, ga, hg, hwk]
    done
  have gb : decide ((b.length : Int) > 1000) = false := by simp; omega
  obtain ⟨A1, eA1, sx, kx, lA1⟩ := of_P h.toTB 0 (H := A0) (v := va) (l := a) (hva _) hwa (by first | omega | decide) hxa (Nat.zero_le _)
  have kA1 := kx.d []
  clear kx
  have cx : cnt (ofP a noP) ≤ 1000 := Nat.le_trans (cnt_of hxa) (by first | omega | decide)
  have dx := SetW.lt sx
  obtain ⟨A2, eA2, sy, kx, lA2⟩ := of_P h.toTB 0 (H := A1) (v := vb) (l := b) (hvb _) hwb (by first | omega | decide) hxb (Nat.zero_le _)
  have kA2 := kx.d []
  clear kx
  have sx := kA2.s sx
  have cy : cnt (ofP b noP) ≤ 1000 := Nat.le_trans (cnt_of hxb) (by first | omega | decide)
  have dy := SetW.lt sy
  obtain ⟨vwas, A3, eA3, owas, kA3⟩ := list_P h 0 sx (by omega) (Nat.zero_le _)
  have sx := kA3.s sx
  have sy := kA3.s sy
  have bwas := own_lt owas
  have lA3 := kA3.1
  obtain ⟨vhad, A4, eA4, ohad, kA4⟩ := list_P h 0 sy (by omega) (Nat.zero_le _)
  have sx := kA4.s sx
  have sy := kA4.s sy
  have owas := kA4.o owas
  have bhad := own_lt ohad
  have lA4 := kA4.1
  obtain ⟨A5, eA5, sc, kA5, lA5⟩ := copy_ex h.toTC 0 sx
  have sx := kA5.s sx
  have sy := kA5.s sy
  have owas := kA5.o owas
  have ohad := kA5.o ohad
  have cc := cx
  have dc := SetW.lt sc
  have mA6 := cnt_minus sx.wd sy.wd
  obtain ⟨imm, jmm, A6, eA6, smm, kA6, gmm, qmm⟩ := minus_P h.toTC 0 sx (by omega) (AtV.set h.toTB sy) (Nat.zero_le _)
  have sx := kA6.s sx
  have sy := kA6.s sy
  have sc := kA6.s sc
  have owas := kA6.o owas
  have ohad := kA6.o ohad
  have cmm := mA6
  have dmm := SetW.lt smm
  have lA6 := kA6.1
  have mA7 := cnt_both sx.wd sy.wd
  obtain ⟨iob, job, A7, eA7, sob, kA7, gob, qob⟩ := both_P h.toTC 0 sx (by omega) (AtV.set h.toTB sy) (Nat.zero_le _)
  have sx := kA7.s sx
  have sy := kA7.s sy
  have sc := kA7.s sc
  have smm := kA7.s smm
  have owas := kA7.o owas
  have ohad := kA7.o ohad
  have cob := mA7
  have dob := SetW.lt sob
  have lA7 := kA7.1
  have eA8 := add_P h.toTB 0 sc (Nat.zero_le _) (Nat.zero_le _) z hz (by omega)
  have kA8 := putPH_b A7 (A4.length + 1) (A4.length) (addP (ofP a noP) z)
  have nc := sc.putPH (sc.wd.addP hz)
  have mA8 := cnt_add1 sc.wd hz
  have lA8 := putPH_len A7 (A4.length + 1) (A4.length) (addP (ofP a noP) z)
  generalize putPH A7 (A4.length + 1) (A4.length) (addP (ofP a noP) z) = A8 at eA8 kA8 nc lA8
  have sx := kA8.s sx ⟨by omega, by omega, by omega, by omega⟩
  have sy := kA8.s sy ⟨by omega, by omega, by omega, by omega⟩
  have smm := kA8.s smm ⟨by omega, by omega, by omega, by omega⟩
  have sob := kA8.s sob ⟨by omega, by omega, by omega, by omega⟩
  have owas := kA8.o3 owas bwas (by omega) (by omega)
  have ohad := kA8.o3 ohad bhad (by omega) (by omega)
  have sc := nc
  clear nc
  have cc := mA8
  have eA9 := drop_P h.toTC 0 sc (Nat.zero_le _) (Nat.zero_le _) z hz (by omega)
  have kA9 := putPH_b A8 (A4.length + 1) (A4.length) (dropP (addP (ofP a noP) z) z)
  have nc := sc.putPH (sc.wd.dropP hz)
  have mA9 := cnt_dropP sc.wd hz
  have lA9 := putPH_len A8 (A4.length + 1) (A4.length) (dropP (addP (ofP a noP) z) z)
  generalize putPH A8 (A4.length + 1) (A4.length) (dropP (addP (ofP a noP) z) z) = A9 at eA9 kA9 nc lA9
  have sx := kA9.s sx ⟨by omega, by omega, by omega, by omega⟩
  have sy := kA9.s sy ⟨by omega, by omega, by omega, by omega⟩
  have smm := kA9.s smm ⟨by omega, by omega, by omega, by omega⟩
  have sob := kA9.s sob ⟨by omega, by omega, by omega, by omega⟩
  have owas := kA9.o3 owas bwas (by omega) (by omega)
  have ohad := kA9.o3 ohad bhad (by omega) (by omega)
  have sc := nc
  clear nc
  have cc := mA9
  have eA10 := add_P h.toTB 0 smm (Nat.zero_le _) (Nat.zero_le _) z hz (by omega)
  have kA10 := putPH_b A9 (imm) (jmm) (addP (pickP (ofP a noP) ((ofP b noP)).2 andNot) z)
  have nmm := smm.putPH (smm.wd.addP hz)
  have mA10 := cnt_add1 smm.wd hz
  have lA10 := putPH_len A9 (imm) (jmm) (addP (pickP (ofP a noP) ((ofP b noP)).2 andNot) z)
  generalize putPH A9 (imm) (jmm) (addP (pickP (ofP a noP) ((ofP b noP)).2 andNot) z) = A10 at eA10 kA10 nmm lA10
  have sx := kA10.s sx ⟨by omega, by omega, by omega, by omega⟩
  have sy := kA10.s sy ⟨by omega, by omega, by omega, by omega⟩
  have sc := kA10.s sc ⟨by omega, by omega, by omega, by omega⟩
  have sob := kA10.s sob ⟨by omega, by omega, by omega, by omega⟩
  have owas := kA10.o3 owas bwas (by omega) (by omega)
  have ohad := kA10.o3 ohad bhad (by omega) (by omega)
  have smm := nmm
  clear nmm
  have cmm := mA10
  have eA11 := add_P h.toTB 0 sob (Nat.zero_le _) (Nat.zero_le _) z hz (by omega)
  have kA11 := putPH_b A10 (iob) (job) (addP (pickP (ofP a noP) ((ofP b noP)).2 (· &&& ·)) z)
  have nob := sob.putPH (sob.wd.addP hz)
  have mA11 := cnt_add1 sob.wd hz
  have lA11 := putPH_len A10 (iob) (job) (addP (pickP (ofP a noP) ((ofP b noP)).2 (· &&& ·)) z)
  generalize putPH A10 (iob) (job) (addP (pickP (ofP a noP) ((ofP b noP)).2 (· &&& ·)) z) = A11 at eA11 kA11 nob lA11
  have sx := kA11.s sx ⟨by omega, by omega, by omega, by omega⟩
  have sy := kA11.s sy ⟨by omega, by omega, by omega, by omega⟩
  have sc := kA11.s sc ⟨by omega, by omega, by omega, by omega⟩
  have smm := kA11.s smm ⟨by omega, by omega, by omega, by omega⟩
  have owas := kA11.o3 owas bwas (by omega) (by omega)
  have ohad := kA11.o3 ohad bhad (by omega) (by omega)
  have sob := nob
  clear nob
  have cob := mA11
  have mA12 := cnt_uniA sob.wd sy.wd
  obtain ⟨A12, eA12, nob, kA12⟩ := union_P h.toTB 0 sob (Nat.zero_le _) (Nat.zero_le _) sy (.inr ⟨by omega, by omega, by omega, by omega⟩) (by omega) h.union
  have sx := kA12.s sx ⟨by omega, by omega, by omega, by omega⟩
  have sy := kA12.s sy ⟨by omega, by omega, by omega, by omega⟩
  have sc := kA12.s sc ⟨by omega, by omega, by omega, by omega⟩
  have smm := kA12.s smm ⟨by omega, by omega, by omega, by omega⟩
  have owas := kA12.o3 owas bwas (by omega) (by omega)
  have ohad := kA12.o3 ohad bhad (by omega) (by omega)
  have sob := nob
  clear nob
  have cob := mA12
  have lA12 := kA12.1
  have hlw : xLen A12 .s vwas = some (.s (.int .i64 (el (ofP a noP)).length)) := iV_len' owas.rd
  cases hel : el (ofP a noP) with
  | nil =>
    have g0 : decide ((((el (ofP a noP)).length : Nat) : Int) > 0) = false := by rw [hel]; rfl
    have s0x := sx
    have s0y := sy
    have o0was := owas
    have o0had := ohad
    obtain ⟨vl, A13, eA13, ol, kA13⟩ := list_P h 0 sx (by omega) (Nat.zero_le _)
    have sx := kA13.s sx
    have sy := kA13.s sy
    have owas := kA13.o owas
    have ohad := kA13.o ohad
    have bl := own_lt ol
    have lA13 := kA13.1
    have hlv : OwnN A12.length A13 vl ((el (ofP a noP)).map iV) := ol
    obtain ⟨en, A14, hlp, ⟨q1, q2, q3, rfl⟩, hlpl, hlpk⟩ : ∃ en H2, itW (evC (callW CT) itW 0 s_gnomonlaw01_BitsApart_l0) [] A13.length (frOf 98 [(7, .ref (A0.length + 1) 0 0), (8, .ref (A1.length + 1) 0 0), (9, vwas), (10, vhad), (14, vl), (15, .s (.int .i64 0))]) A13 = some (.ext 0, frOf 98 ((7, .ref (A0.length + 1) 0 0) :: (8, .ref (A1.length + 1) 0 0) :: (9, vwas) :: (10, vhad) :: en), H2) ∧ (∃ a b c, en = [(14, a), (15, b), (79, c)]) ∧ H2.length = A13.length ∧ ∀ j, j < A12.length → H2[j]? = A13[j]? := by
      rcases hlv with ⟨hnil, hv⟩ | ⟨id, g, cc, hv, hcc, hle, htk, hid⟩
      · refine ⟨[(14, vl), (15, .s (.int .i64 0)), (79, .s (.bool false))], A13, ?_, ⟨_, _, _, rfl⟩, rfl, fun _ _ => rfl⟩
        rw [itW_step]
        rcases hv with rfl | rfl
        · simp only [nilS, a_gnomonlaw01_BitsApart,s_gnomonlaw01_BitsApart_l0_b, am0,am1,am2,am3,am4,am5,am6,am7,bl,i64,reduceIte,reduceCtorEq,Nat.reduceEqDiff,Nat.reduceLT,Nat.reduceLeDiff,Nat.reduceBEq,Nat.reduceAdd,fillA,splice,Nat.reduceMul,al0,al1,al2,al3,al4,al5,al6,al7,al8,al9,al10,al11,al12,al13,al14,al15,al16,al17,al18,al19,al20,al21,al22,al23,al24,al25,al26,al27,al28,al29,al30,al31,al32,al33,al34,amY, Int.lt_irrefl, trim_same rfl]
        · simp only [a_gnomonlaw01_BitsApart,s_gnomonlaw01_BitsApart_l0_b, am0,am1,am2,am3,am4,am5,am6,am7,bl,i64,reduceIte,reduceCtorEq,Nat.reduceEqDiff,Nat.reduceLT,Nat.reduceLeDiff,Nat.reduceBEq,Nat.reduceAdd,fillA,splice,Nat.reduceMul,al0,al1,al2,al3,al4,al5,al6,al7,al8,al9,al10,al11,al12,al13,al14,al15,al16,al17,al18,al19,al20,al21,al22,al23,al24,al25,al26,al27,al28,al29,al30,al31,al32,al33,al34,amY, Int.lt_irrefl, trim_same rfl]
      · rw [List.length_map] at hv hle
        subst hv
        have hcl : getC A13 id g = some cc := hcc
        obtain ⟨en, H2, h1, h2, h3, h4⟩ := apart_loop (callW CT) (el (ofP a noP)) (.ref (A0.length + 1) 0 0) (.ref (A1.length + 1) 0 0) vwas vhad id A13.length (by rw [el_len]; omega) (getC_lt hcc) (el (ofP a noP)).length 0 cc g A13 (by omega) hcc hle rfl
        exact ⟨en, H2, h1, h2, h3, fun j hj => h4 j (by omega)⟩
    have kk : KeepD A12.length [] A12 A14 := ⟨by omega, fun id h1 _ => (hlpk id h1).trans (kA13.2 id h1 (by simp))⟩
    have sx : SetP A14 (A0.length + 1) (A0.length) (ofP a noP) := kk.s s0x
    have sy : SetP A14 (A1.length + 1) (A1.length) (ofP b noP) := kk.s s0y
    have owas := kk.o o0was
    have ohad := kk.o o0had
    have lA14 : A13.length ≤ A14.length := by omega
    obtain ⟨vv1, A15, eA15, ov1, kA15⟩ := list_P h 0 sx (by omega) (Nat.zero_le _)
    have sx := kA15.s sx
    have sy := kA15.s sy
    have owas := kA15.o owas
    have ohad := kA15.o ohad
    have bv1 := own_lt ov1
    have lA15 := kA15.1
    have ov1 := ov1
    have hc1 := same_fun hS 0 A15 vv1 vwas (el (ofP a noP)) (el (ofP a noP)) ov1.rd ov1.wide owas.rd owas.wide (by rw [el_len]; omega)
    rw [BEq.rfl] at hc1
    obtain ⟨vv2, A16, eA16, ov2, kA16⟩ := list_P h 0 sy (by omega) (Nat.zero_le _)
    have sx := kA16.s sx
    have sy := kA16.s sy
    have owas := kA16.o owas
    have ohad := kA16.o ohad
    have ov1 := kA16.o ov1
    have bv2 := own_lt ov2
    have lA16 := kA16.1
    have hc2 := same_fun hS 0 A16 vv2 vhad (el (ofP b noP)) (el (ofP b noP)) ov2.rd ov2.wide ohad.rd ohad.wide (by rw [el_len]; omega)
    rw [BEq.rfl] at hc2
    refine ⟨A16, callW_fn (c := s_gnomonlaw01_BitsApart) hF (by simp [s_gnomonlaw01_BitsApart]) ?_⟩
    simp only [s_gnomonlaw01_BitsApart, a_gnomonlaw01_BitsApart,s_gnomonlaw01_BitsApart_l0_b, am0,am1,am2,am3,am4,am5,am6,am7,bl,i64,reduceIte,reduceCtorEq,Nat.reduceEqDiff,Nat.reduceLT,Nat.reduceLeDiff,Nat.reduceBEq,Nat.reduceAdd,fillA,splice,Nat.reduceMul,al0,al1,al2,al3,al4,al5,al6,al7,al8,al9,al10,al11,al12,al13,al14,al15,al16,al17,al18,al19,al20,al21,al22,al23,al24,al25,al26,al27,al28,al29,al30,al31,al32,al33,al34,amY, la, lb, ga, gb, hwk, hlw, g0, eA1, eA2, eA3, eA4, eA5, eA6, eA7, eA8, eA9, eA10, eA11, eA12, eA13, eA15, eA16, hlp, hc1, hc2]
    done
  | cons x0 rest =>
    have g0 : decide ((((el (ofP a noP)).length : Nat) : Int) > 0) = true := by rw [hel]; simp
    have hx0 : x0 < 2 ^ 63 := (el_nn (of_wd hxa) (x := x0) (by rw [hel]; simp)).2
    have hw0 : (el (ofP a noP))[0]? = some x0 := by rw [hel]; rfl
    obtain ⟨a0, w1, w2⟩ := iV_at owas.rd owas.wide hw0
    rw [show (((0 : Nat) : Nat) : Int) = 0 from rfl] at w1
    have eA13 := drop_P h.toTC 0 smm (Nat.zero_le _) (Nat.zero_le _) x0 hx0 (by omega)
    have kA13 := putPH_b A12 (imm) (jmm) (dropP (addP (pickP (ofP a noP) ((ofP b noP)).2 andNot) z) x0)
    have nmm := smm.putPH (smm.wd.dropP hx0)
    have mA13 := cnt_dropP smm.wd hx0
    have lA13 := putPH_len A12 (imm) (jmm) (dropP (addP (pickP (ofP a noP) ((ofP b noP)).2 andNot) z) x0)
    generalize putPH A12 (imm) (jmm) (dropP (addP (pickP (ofP a noP) ((ofP b noP)).2 andNot) z) x0) = A13 at eA13 kA13 nmm lA13
    have sx := kA13.s sx ⟨by omega, by omega, by omega, by omega⟩
    have sy := kA13.s sy ⟨by omega, by omega, by omega, by omega⟩
    have sc := kA13.s sc ⟨by omega, by omega, by omega, by omega⟩
    have sob := kA13.s sob ⟨by omega, by omega, by omega, by omega⟩
    have owas := kA13.o3 owas bwas (by omega) (by omega)
    have ohad := kA13.o3 ohad bhad (by omega) (by omega)
    have smm := nmm
    clear nmm
    have cmm := mA13
    obtain ⟨a1, w3, w4⟩ := iV_at owas.rd owas.wide hw0
    rw [show (((0 : Nat) : Nat) : Int) = 0 from rfl] at w3
    obtain rfl : a0 = a1 := Option.some.inj (w1.symm.trans w3)
    have eA14 := drop_P h.toTC 0 sob (Nat.zero_le _) (Nat.zero_le _) x0 hx0 (by omega)
    have kA14 := putPH_b A13 (iob) (job) (dropP (uniA (addP (pickP (ofP a noP) ((ofP b noP)).2 (· &&& ·)) z) (ofP b noP)) x0)
    have nob := sob.putPH (sob.wd.dropP hx0)
    have mA14 := cnt_dropP sob.wd hx0
    have lA14 := putPH_len A13 (iob) (job) (dropP (uniA (addP (pickP (ofP a noP) ((ofP b noP)).2 (· &&& ·)) z) (ofP b noP)) x0)
    generalize putPH A13 (iob) (job) (dropP (uniA (addP (pickP (ofP a noP) ((ofP b noP)).2 (· &&& ·)) z) (ofP b noP)) x0) = A14 at eA14 kA14 nob lA14
    have sx := kA14.s sx ⟨by omega, by omega, by omega, by omega⟩
    have sy := kA14.s sy ⟨by omega, by omega, by omega, by omega⟩
    have sc := kA14.s sc ⟨by omega, by omega, by omega, by omega⟩
    have smm := kA14.s smm ⟨by omega, by omega, by omega, by omega⟩
    have owas := kA14.o3 owas bwas (by omega) (by omega)
    have ohad := kA14.o3 ohad bhad (by omega) (by omega)
    have sob := nob
    clear nob
    have cob := mA14
    obtain ⟨a2, w5, w6⟩ := iV_at owas.rd owas.wide hw0
    rw [show (((0 : Nat) : Nat) : Int) = 0 from rfl] at w5
    obtain rfl : a0 = a2 := Option.some.inj (w1.symm.trans w5)
    have eA15 := drop_P h.toTC 0 sc (Nat.zero_le _) (Nat.zero_le _) x0 hx0 (by omega)
    have kA15 := putPH_b A14 (A4.length + 1) (A4.length) (dropP (dropP (addP (ofP a noP) z) z) x0)
    have nc := sc.putPH (sc.wd.dropP hx0)
    have mA15 := cnt_dropP sc.wd hx0
    have lA15 := putPH_len A14 (A4.length + 1) (A4.length) (dropP (dropP (addP (ofP a noP) z) z) x0)
    generalize putPH A14 (A4.length + 1) (A4.length) (dropP (dropP (addP (ofP a noP) z) z) x0) = A15 at eA15 kA15 nc lA15
    have sx := kA15.s sx ⟨by omega, by omega, by omega, by omega⟩
    have sy := kA15.s sy ⟨by omega, by omega, by omega, by omega⟩
    have smm := kA15.s smm ⟨by omega, by omega, by omega, by omega⟩
    have sob := kA15.s sob ⟨by omega, by omega, by omega, by omega⟩
    have owas := kA15.o3 owas bwas (by omega) (by omega)
    have ohad := kA15.o3 ohad bhad (by omega) (by omega)
    have sc := nc
    clear nc
    have cc := mA15
    have s0x := sx
    have s0y := sy
    have o0was := owas
    have o0had := ohad
    obtain ⟨vl, A16, eA16, ol, kA16⟩ := list_P h 0 sx (by omega) (Nat.zero_le _)
    have sx := kA16.s sx
    have sy := kA16.s sy
    have owas := kA16.o owas
    have ohad := kA16.o ohad
    have bl := own_lt ol
    have lA16 := kA16.1
    have hlv : OwnN A15.length A16 vl ((el (ofP a noP)).map iV) := ol
    obtain ⟨en, A17, hlp, ⟨q1, q2, q3, rfl⟩, hlpl, hlpk⟩ : ∃ en H2, itW (evC (callW CT) itW 0 s_gnomonlaw01_BitsApart_l0) [] A16.length (frOf 98 [(7, .ref (A0.length + 1) 0 0), (8, .ref (A1.length + 1) 0 0), (9, vwas), (10, vhad), (14, vl), (15, .s (.int .i64 0))]) A16 = some (.ext 0, frOf 98 ((7, .ref (A0.length + 1) 0 0) :: (8, .ref (A1.length + 1) 0 0) :: (9, vwas) :: (10, vhad) :: en), H2) ∧ (∃ a b c, en = [(14, a), (15, b), (79, c)]) ∧ H2.length = A16.length ∧ ∀ j, j < A15.length → H2[j]? = A16[j]? := by
      rcases hlv with ⟨hnil, hv⟩ | ⟨id, g, cc, hv, hcc, hle, htk, hid⟩
      · refine ⟨[(14, vl), (15, .s (.int .i64 0)), (79, .s (.bool false))], A16, ?_, ⟨_, _, _, rfl⟩, rfl, fun _ _ => rfl⟩
        rw [itW_step]
        rcases hv with rfl | rfl
        · simp only [nilS, a_gnomonlaw01_BitsApart,s_gnomonlaw01_BitsApart_l0_b, am0,am1,am2,am3,am4,am5,am6,am7,bl,i64,reduceIte,reduceCtorEq,Nat.reduceEqDiff,Nat.reduceLT,Nat.reduceLeDiff,Nat.reduceBEq,Nat.reduceAdd,fillA,splice,Nat.reduceMul,al0,al1,al2,al3,al4,al5,al6,al7,al8,al9,al10,al11,al12,al13,al14,al15,al16,al17,al18,al19,al20,al21,al22,al23,al24,al25,al26,al27,al28,al29,al30,al31,al32,al33,al34,amY, Int.lt_irrefl, trim_same rfl]
        · simp only [a_gnomonlaw01_BitsApart,s_gnomonlaw01_BitsApart_l0_b, am0,am1,am2,am3,am4,am5,am6,am7,bl,i64,reduceIte,reduceCtorEq,Nat.reduceEqDiff,Nat.reduceLT,Nat.reduceLeDiff,Nat.reduceBEq,Nat.reduceAdd,fillA,splice,Nat.reduceMul,al0,al1,al2,al3,al4,al5,al6,al7,al8,al9,al10,al11,al12,al13,al14,al15,al16,al17,al18,al19,al20,al21,al22,al23,al24,al25,al26,al27,al28,al29,al30,al31,al32,al33,al34,amY, Int.lt_irrefl, trim_same rfl]
      · rw [List.length_map] at hv hle
        subst hv
        have hcl : getC A16 id g = some cc := hcc
        obtain ⟨en, H2, h1, h2, h3, h4⟩ := apart_loop (callW CT) (el (ofP a noP)) (.ref (A0.length + 1) 0 0) (.ref (A1.length + 1) 0 0) vwas vhad id A16.length (by rw [el_len]; omega) (getC_lt hcc) (el (ofP a noP)).length 0 cc g A16 (by omega) hcc hle rfl
        exact ⟨en, H2, h1, h2, h3, fun j hj => h4 j (by omega)⟩
    have kk : KeepD A15.length [] A15 A17 := ⟨by omega, fun id h1 _ => (hlpk id h1).trans (kA16.2 id h1 (by simp))⟩
    have sx : SetP A17 (A0.length + 1) (A0.length) (ofP a noP) := kk.s s0x
    have sy : SetP A17 (A1.length + 1) (A1.length) (ofP b noP) := kk.s s0y
    have owas := kk.o o0was
    have ohad := kk.o o0had
    have lA17 : A16.length ≤ A17.length := by omega
    obtain ⟨vv1, A18, eA18, ov1, kA18⟩ := list_P h 0 sx (by omega) (Nat.zero_le _)
    have sx := kA18.s sx
    have sy := kA18.s sy
    have owas := kA18.o owas
    have ohad := kA18.o ohad
    have bv1 := own_lt ov1
    have lA18 := kA18.1
    have ov1 := ov1
    have hc1 := same_fun hS 0 A18 vv1 vwas (el (ofP a noP)) (el (ofP a noP)) ov1.rd ov1.wide owas.rd owas.wide (by rw [el_len]; omega)
    rw [BEq.rfl] at hc1
    obtain ⟨vv2, A19, eA19, ov2, kA19⟩ := list_P h 0 sy (by omega) (Nat.zero_le _)
    have sx := kA19.s sx
    have sy := kA19.s sy
    have owas := kA19.o owas
    have ohad := kA19.o ohad
    have ov1 := kA19.o ov1
    have bv2 := own_lt ov2
    have lA19 := kA19.1
    have hc2 := same_fun hS 0 A19 vv2 vhad (el (ofP b noP)) (el (ofP b noP)) ov2.rd ov2.wide ohad.rd ohad.wide (by rw [el_len]; omega)
    rw [BEq.rfl] at hc2
    refine ⟨A19, callW_fn (c := s_gnomonlaw01_BitsApart) hF (by simp [s_gnomonlaw01_BitsApart]) ?_⟩
    simp only [s_gnomonlaw01_BitsApart, a_gnomonlaw01_BitsApart,s_gnomonlaw01_BitsApart_l0_b, am0,am1,am2,am3,am4,am5,am6,am7,bl,i64,reduceIte,reduceCtorEq,Nat.reduceEqDiff,Nat.reduceLT,Nat.reduceLeDiff,Nat.reduceBEq,Nat.reduceAdd,fillA,splice,Nat.reduceMul,al0,al1,al2,al3,al4,al5,al6,al7,al8,al9,al10,al11,al12,al13,al14,al15,al16,al17,al18,al19,al20,al21,al22,al23,al24,al25,al26,al27,al28,al29,al30,al31,al32,al33,al34,amY, la, lb, ga, gb, hwk, hlw, g0, w1, w2, w3, w4, w5, w6, eA1, eA2, eA3, eA4, eA5, eA6, eA7, eA8, eA9, eA10, eA11, eA12, eA13, eA14, eA15, eA16, eA18, eA19, hlp, hc1, hc2]
    done
end
end Go.Proofs.YtccallbknpbggaaDoor
