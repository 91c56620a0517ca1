/- Texts of the proof: GraphS, GraphF1, GraphF2. -/
import Derived.Test.YtmnlagcmpgilaaaP0
import Derived.Test.YtmnlagcmpgilaaaP1
import Derived.Test.YtmnlagcmpgilaaaP2
import Derived.KernelRfl
import Derived.Test.YtmnlagcmpgilaaaProg
set_option linter.all false
/- Functions of the given program, their rows told as expressions. -/
set_option maxRecDepth 100000
namespace Go.Proofs.Ytmnlagcmpgilaaa
open Go.AM

/- 3 gnomon/gnomonlaw07.GraphForms -/
abbrev k_gnomonlaw07_GraphForms : Nat := 3
def s_gnomonlaw07_GraphForms_r0_k : List Nat := [1, 2, 3, 4, 5, 6, 7, 8, 9, 10, 11, 12, 13, 14, 15, 16, 17, 18, 19, 20, 21, 22, 23, 24, 25, 26, 27, 28, 29, 30, 31, 32, 33, 34, 35, 36, 37, 38, 39, 40, 41, 42, 43, 44, 45, 46, 47, 48, 49, 50, 51, 52, 53, 54, 55]
theorem s_gnomonlaw07_GraphForms_r0_kT : killV s_gnomonlaw07_GraphForms_r0_k (startV 56 [] 1) = [] := by kernel_rfl
theorem s_gnomonlaw07_GraphForms_r0_kA0 : s_gnomonlaw07_GraphForms_r0_k.contains 0 = false := by kernel_rfl
def s_gnomonlaw07_GraphForms_r0 : List AOper := [
  ⟨some 2, (.move (.c (.s (.bool false)))), none⟩]
theorem s_gnomonlaw07_GraphForms_r0_tale (fr : List V) (H : Heap) : evTale (symAll s_gnomonlaw07_GraphForms_r0 s_gnomonlaw07_GraphForms_r0_k []) s_gnomonlaw07_GraphForms_r0_k fr H = evTale (some (3, [], [])) s_gnomonlaw07_GraphForms_r0_k fr H := tale_row (items := [.cc (.s (.bool false))]) (by kernel_rfl) fr H
def s_gnomonlaw07_GraphForms_r1t1 : List AOper := [⟨some 9, (.call (.c (.fn 9 [] [])) [(.t 8)]), none⟩]
def s_gnomonlaw07_GraphForms_r1p0 : List AOper := [⟨some 8, (.move (.t 0)), none⟩]
def s_gnomonlaw07_GraphForms_r1 : List AOper := s_gnomonlaw07_GraphForms_r1p0 ++ s_gnomonlaw07_GraphForms_r1t1
theorem s_gnomonlaw07_GraphForms_r1p0_tale (fr : List V) (H : Heap) : evTale (symAll s_gnomonlaw07_GraphForms_r1p0 [] [8]) [] fr H = evTale (some (9, [], [(8, (.t 0))])) [] fr H := tale_row (items := [.tt 0]) (by kernel_rfl) fr H
theorem s_gnomonlaw07_GraphForms_r1_x (call : CallF) (it : IterF) (base : Nat) (f : List V) (H : Heap) : evC call it base (.region s_gnomonlaw07_GraphForms_r1 [] [8]) f H = segC call it base s_gnomonlaw07_GraphForms_r1t1 [8] H (evTale (symAll s_gnomonlaw07_GraphForms_r1p0 [] [8]) [] f H) (origRow call it base s_gnomonlaw07_GraphForms_r1 [8] f H) := row_seg call it base s_gnomonlaw07_GraphForms_r1p0 s_gnomonlaw07_GraphForms_r1t1 (by kernel_rfl) f H
theorem s_gnomonlaw07_GraphForms_r1t1_x (call : CallF) (it : IterF) (base : Nat) (f : List V) (H : Heap) : evC call it base (.region s_gnomonlaw07_GraphForms_r1t1 [] [8]) f H = opsC [] s_gnomonlaw07_GraphForms_r1t1 [8] (evOps call base [⟨some 9, (.call (.c (.fn 9 [] [])) [(.t 8)]), none⟩] f H) := row_ops call it base _ _ _ f H
def s_gnomonlaw07_GraphForms_r2t1 : List AOper := [⟨some 2, (.move (.t 10)), none⟩]
def s_gnomonlaw07_GraphForms_r2p0 : List AOper := [⟨some 10, (.call (.c (.fn 10 [] [])) []), none⟩]
def s_gnomonlaw07_GraphForms_r2 : List AOper := s_gnomonlaw07_GraphForms_r2p0 ++ s_gnomonlaw07_GraphForms_r2t1
theorem s_gnomonlaw07_GraphForms_r2_x (call : CallF) (it : IterF) (base : Nat) (f : List V) (H : Heap) : evC call it base (.region s_gnomonlaw07_GraphForms_r2 [] [0, 9, 10]) f H = thenC call it base (.region s_gnomonlaw07_GraphForms_r2t1 [] [0, 9, 10]) (opsC [] s_gnomonlaw07_GraphForms_r2p0 [0, 9] (evOps call base [⟨some 10, (.call (.c (.fn 10 [] [])) []), none⟩] f H)) := (row_op call it base s_gnomonlaw07_GraphForms_r2p0 s_gnomonlaw07_GraphForms_r2t1 (kc := [0, 9]) (by kernel_rfl) f H).trans (by rw [row_ops]; rfl)
theorem s_gnomonlaw07_GraphForms_r2t1_tale (fr : List V) (H : Heap) : evTale (symAll s_gnomonlaw07_GraphForms_r2t1 [0, 9, 10] [2]) [0, 9, 10] fr H = evTale (some (3, [], [(2, (.t 10))])) [0, 9, 10] fr H := tale_row (items := [.tt 10]) (by kernel_rfl) fr H
theorem s_gnomonlaw07_GraphForms_r2t1_x (call : CallF) (it : IterF) (base : Nat) (f : List V) (H : Heap) : evC call it base (.region s_gnomonlaw07_GraphForms_r2t1 [] [0, 9, 10]) f H = segL H (evTale (symAll s_gnomonlaw07_GraphForms_r2t1 [0, 9, 10] [2]) [0, 9, 10] f H) (origRow call it base s_gnomonlaw07_GraphForms_r2t1 [0, 9, 10] f H) := row_last call it base _ f H
def s_gnomonlaw07_GraphForms_r3t2 : List AOper := [⟨some 3, (.move (.t 12)), none⟩]
def s_gnomonlaw07_GraphForms_r3p1 : List AOper := [⟨some 12, (.call (.c (.fn 11 [] [])) [(.t 11)]), none⟩]
def s_gnomonlaw07_GraphForms_r3t1 : List AOper := s_gnomonlaw07_GraphForms_r3p1 ++ s_gnomonlaw07_GraphForms_r3t2
def s_gnomonlaw07_GraphForms_r3p0 : List AOper := [⟨some 11, (.move (.t 0)), none⟩]
def s_gnomonlaw07_GraphForms_r3 : List AOper := s_gnomonlaw07_GraphForms_r3p0 ++ s_gnomonlaw07_GraphForms_r3t1
theorem s_gnomonlaw07_GraphForms_r3p0_tale (fr : List V) (H : Heap) : evTale (symAll s_gnomonlaw07_GraphForms_r3p0 [9] [11]) [9] fr H = evTale (some (12, [], [(11, (.t 0))])) [9] fr H := tale_row (items := [.tt 0]) (by kernel_rfl) fr H
theorem s_gnomonlaw07_GraphForms_r3_x (call : CallF) (it : IterF) (base : Nat) (f : List V) (H : Heap) : evC call it base (.region s_gnomonlaw07_GraphForms_r3 [] [9, 11, 12]) f H = segC call it base s_gnomonlaw07_GraphForms_r3t1 [9, 11, 12] H (evTale (symAll s_gnomonlaw07_GraphForms_r3p0 [9] [11]) [9] f H) (origRow call it base s_gnomonlaw07_GraphForms_r3 [9, 11, 12] f H) := row_seg call it base s_gnomonlaw07_GraphForms_r3p0 s_gnomonlaw07_GraphForms_r3t1 (by kernel_rfl) f H
theorem s_gnomonlaw07_GraphForms_r3t1_x (call : CallF) (it : IterF) (base : Nat) (f : List V) (H : Heap) : evC call it base (.region s_gnomonlaw07_GraphForms_r3t1 [] [9, 11, 12]) f H = thenC call it base (.region s_gnomonlaw07_GraphForms_r3t2 [] [9, 11, 12]) (opsC [] s_gnomonlaw07_GraphForms_r3p1 [11] (evOps call base [⟨some 12, (.call (.c (.fn 11 [] [])) [(.t 11)]), none⟩] f H)) := (row_op call it base s_gnomonlaw07_GraphForms_r3p1 s_gnomonlaw07_GraphForms_r3t2 (kc := [11]) (by kernel_rfl) f H).trans (by rw [row_ops]; rfl)
theorem s_gnomonlaw07_GraphForms_r3t2_tale (fr : List V) (H : Heap) : evTale (symAll s_gnomonlaw07_GraphForms_r3t2 [9, 11, 12] [3]) [9, 11, 12] fr H = evTale (some (4, [], [(3, (.t 12))])) [9, 11, 12] fr H := tale_row (items := [.tt 12]) (by kernel_rfl) fr H
theorem s_gnomonlaw07_GraphForms_r3t2_x (call : CallF) (it : IterF) (base : Nat) (f : List V) (H : Heap) : evC call it base (.region s_gnomonlaw07_GraphForms_r3t2 [] [9, 11, 12]) f H = segL H (evTale (symAll s_gnomonlaw07_GraphForms_r3t2 [9, 11, 12] [3]) [9, 11, 12] f H) (origRow call it base s_gnomonlaw07_GraphForms_r3t2 [9, 11, 12] f H) := row_last call it base _ f H
def s_gnomonlaw07_GraphForms_r4t4 : List AOper := [⟨some 4, (.move (.t 14)), none⟩, ⟨some 5, (.move (.t 16)), none⟩]
def s_gnomonlaw07_GraphForms_r4p3 : List AOper := [⟨some 16, (.call (.c (.fn 13 [] [])) [(.t 15)]), none⟩]
def s_gnomonlaw07_GraphForms_r4t3 : List AOper := s_gnomonlaw07_GraphForms_r4p3 ++ s_gnomonlaw07_GraphForms_r4t4
def s_gnomonlaw07_GraphForms_r4p2 : List AOper := [⟨some 15, (.move (.t 3)), none⟩]
def s_gnomonlaw07_GraphForms_r4t2 : List AOper := s_gnomonlaw07_GraphForms_r4p2 ++ s_gnomonlaw07_GraphForms_r4t3
def s_gnomonlaw07_GraphForms_r4p1 : List AOper := [⟨some 14, (.call (.c (.fn 12 [] [])) [(.t 13)]), none⟩]
def s_gnomonlaw07_GraphForms_r4t1 : List AOper := s_gnomonlaw07_GraphForms_r4p1 ++ s_gnomonlaw07_GraphForms_r4t2
def s_gnomonlaw07_GraphForms_r4p0 : List AOper := [⟨some 13, (.move (.t 3)), none⟩]
def s_gnomonlaw07_GraphForms_r4 : List AOper := s_gnomonlaw07_GraphForms_r4p0 ++ s_gnomonlaw07_GraphForms_r4t1
theorem s_gnomonlaw07_GraphForms_r4p0_tale (fr : List V) (H : Heap) : evTale (symAll s_gnomonlaw07_GraphForms_r4p0 [] [13]) [] fr H = evTale (some (14, [], [(13, (.t 3))])) [] fr H := tale_row (items := [.tt 3]) (by kernel_rfl) fr H
theorem s_gnomonlaw07_GraphForms_r4_x (call : CallF) (it : IterF) (base : Nat) (f : List V) (H : Heap) : evC call it base (.region s_gnomonlaw07_GraphForms_r4 [] [13, 14, 15, 16]) f H = segC call it base s_gnomonlaw07_GraphForms_r4t1 [13, 14, 15, 16] H (evTale (symAll s_gnomonlaw07_GraphForms_r4p0 [] [13]) [] f H) (origRow call it base s_gnomonlaw07_GraphForms_r4 [13, 14, 15, 16] f H) := row_seg call it base s_gnomonlaw07_GraphForms_r4p0 s_gnomonlaw07_GraphForms_r4t1 (by kernel_rfl) f H
theorem s_gnomonlaw07_GraphForms_r4t1_x (call : CallF) (it : IterF) (base : Nat) (f : List V) (H : Heap) : evC call it base (.region s_gnomonlaw07_GraphForms_r4t1 [] [13, 14, 15, 16]) f H = thenC call it base (.region s_gnomonlaw07_GraphForms_r4t2 [] [13, 14, 15, 16]) (opsC [] s_gnomonlaw07_GraphForms_r4p1 [13] (evOps call base [⟨some 14, (.call (.c (.fn 12 [] [])) [(.t 13)]), none⟩] f H)) := (row_op call it base s_gnomonlaw07_GraphForms_r4p1 s_gnomonlaw07_GraphForms_r4t2 (kc := [13]) (by kernel_rfl) f H).trans (by rw [row_ops]; rfl)
theorem s_gnomonlaw07_GraphForms_r4p2_tale (fr : List V) (H : Heap) : evTale (symAll s_gnomonlaw07_GraphForms_r4p2 [] [15]) [] fr H = evTale (some (16, [], [(15, (.t 3))])) [] fr H := tale_row (items := [.tt 3]) (by kernel_rfl) fr H
theorem s_gnomonlaw07_GraphForms_r4t2_x (call : CallF) (it : IterF) (base : Nat) (f : List V) (H : Heap) : evC call it base (.region s_gnomonlaw07_GraphForms_r4t2 [] [13, 14, 15, 16]) f H = segC call it base s_gnomonlaw07_GraphForms_r4t3 [13, 14, 15, 16] H (evTale (symAll s_gnomonlaw07_GraphForms_r4p2 [] [15]) [] f H) (origRow call it base s_gnomonlaw07_GraphForms_r4t2 [13, 14, 15, 16] f H) := row_seg call it base s_gnomonlaw07_GraphForms_r4p2 s_gnomonlaw07_GraphForms_r4t3 (by kernel_rfl) f H
theorem s_gnomonlaw07_GraphForms_r4t3_x (call : CallF) (it : IterF) (base : Nat) (f : List V) (H : Heap) : evC call it base (.region s_gnomonlaw07_GraphForms_r4t3 [] [13, 14, 15, 16]) f H = thenC call it base (.region s_gnomonlaw07_GraphForms_r4t4 [] [13, 14, 15, 16]) (opsC [] s_gnomonlaw07_GraphForms_r4p3 [15] (evOps call base [⟨some 16, (.call (.c (.fn 13 [] [])) [(.t 15)]), none⟩] f H)) := (row_op call it base s_gnomonlaw07_GraphForms_r4p3 s_gnomonlaw07_GraphForms_r4t4 (kc := [15]) (by kernel_rfl) f H).trans (by rw [row_ops]; rfl)
theorem s_gnomonlaw07_GraphForms_r4t4_tale (fr : List V) (H : Heap) : evTale (symAll s_gnomonlaw07_GraphForms_r4t4 [13, 14, 15, 16] [4, 5]) [13, 14, 15, 16] fr H = evTale (some (6, [], [(4, (.t 14)), (5, (.t 16))])) [13, 14, 15, 16] fr H := tale_row (items := [.tt 14, .tt 16]) (by kernel_rfl) fr H
theorem s_gnomonlaw07_GraphForms_r4t4_x (call : CallF) (it : IterF) (base : Nat) (f : List V) (H : Heap) : evC call it base (.region s_gnomonlaw07_GraphForms_r4t4 [] [13, 14, 15, 16]) f H = segL H (evTale (symAll s_gnomonlaw07_GraphForms_r4t4 [13, 14, 15, 16] [4, 5]) [13, 14, 15, 16] f H) (origRow call it base s_gnomonlaw07_GraphForms_r4t4 [13, 14, 15, 16] f H) := row_last call it base _ f H
def s_gnomonlaw07_GraphForms_r5t8 : List AOper := [⟨some 27, (.un .not (.t 26)), some (22, false)⟩, ⟨some 28, (.pick (.t 22) (.c (.s (.bool true))) (.t 27)), none⟩]
def s_gnomonlaw07_GraphForms_r5p7 : List AOper := [⟨some 26, (.call (.c (.fn 14 [] [])) [(.t 23), (.t 25)]), some (22, false)⟩]
def s_gnomonlaw07_GraphForms_r5t7 : List AOper := s_gnomonlaw07_GraphForms_r5p7 ++ s_gnomonlaw07_GraphForms_r5t8
def s_gnomonlaw07_GraphForms_r5p6 : List AOper := [⟨some 25, (.call (.c (.fn 16 [] [])) [(.t 24)]), some (22, false)⟩]
def s_gnomonlaw07_GraphForms_r5t6 : List AOper := s_gnomonlaw07_GraphForms_r5p6 ++ s_gnomonlaw07_GraphForms_r5t7
def s_gnomonlaw07_GraphForms_r5p5 : List AOper := [⟨some 24, (.move (.t 0)), some (22, false)⟩]
def s_gnomonlaw07_GraphForms_r5t5 : List AOper := s_gnomonlaw07_GraphForms_r5p5 ++ s_gnomonlaw07_GraphForms_r5t6
def s_gnomonlaw07_GraphForms_r5p4 : List AOper := [⟨some 23, (.move (.t 5)), some (22, false)⟩]
def s_gnomonlaw07_GraphForms_r5t4 : List AOper := s_gnomonlaw07_GraphForms_r5p4 ++ s_gnomonlaw07_GraphForms_r5t5
def s_gnomonlaw07_GraphForms_r5p3 : List AOper := [⟨some 21, (.un .not (.t 20)), none⟩, ⟨some 22, (.move (.t 21)), none⟩]
def s_gnomonlaw07_GraphForms_r5t3 : List AOper := s_gnomonlaw07_GraphForms_r5p3 ++ s_gnomonlaw07_GraphForms_r5t4
def s_gnomonlaw07_GraphForms_r5p2 : List AOper := [⟨some 20, (.call (.c (.fn 14 [] [])) [(.t 17), (.t 19)]), none⟩]
def s_gnomonlaw07_GraphForms_r5t2 : List AOper := s_gnomonlaw07_GraphForms_r5p2 ++ s_gnomonlaw07_GraphForms_r5t3
def s_gnomonlaw07_GraphForms_r5p1 : List AOper := [⟨some 19, (.call (.c (.fn 15 [] [])) [(.t 18)]), none⟩]
def s_gnomonlaw07_GraphForms_r5t1 : List AOper := s_gnomonlaw07_GraphForms_r5p1 ++ s_gnomonlaw07_GraphForms_r5t2
def s_gnomonlaw07_GraphForms_r5p0 : List AOper := [⟨some 17, (.move (.t 4)), none⟩, ⟨some 18, (.move (.t 0)), none⟩]
def s_gnomonlaw07_GraphForms_r5 : List AOper := s_gnomonlaw07_GraphForms_r5p0 ++ s_gnomonlaw07_GraphForms_r5t1
theorem s_gnomonlaw07_GraphForms_r5p0_tale (fr : List V) (H : Heap) : evTale (symAll s_gnomonlaw07_GraphForms_r5p0 [] [17, 18]) [] fr H = evTale (some (19, [], [(17, (.t 4)), (18, (.t 0))])) [] fr H := tale_row (items := [.tt 4, .tt 0]) (by kernel_rfl) fr H
theorem s_gnomonlaw07_GraphForms_r5_x (call : CallF) (it : IterF) (base : Nat) (f : List V) (H : Heap) : evC call it base (.region s_gnomonlaw07_GraphForms_r5 [] [5, 17, 18, 19, 20, 21, 22, 23, 24, 25, 26, 27]) f H = segC call it base s_gnomonlaw07_GraphForms_r5t1 [5, 17, 18, 19, 20, 21, 22, 23, 24, 25, 26, 27] H (evTale (symAll s_gnomonlaw07_GraphForms_r5p0 [] [17, 18]) [] f H) (origRow call it base s_gnomonlaw07_GraphForms_r5 [5, 17, 18, 19, 20, 21, 22, 23, 24, 25, 26, 27] f H) := row_seg call it base s_gnomonlaw07_GraphForms_r5p0 s_gnomonlaw07_GraphForms_r5t1 (by kernel_rfl) f H
theorem s_gnomonlaw07_GraphForms_r5t1_x (call : CallF) (it : IterF) (base : Nat) (f : List V) (H : Heap) : evC call it base (.region s_gnomonlaw07_GraphForms_r5t1 [] [5, 17, 18, 19, 20, 21, 22, 23, 24, 25, 26, 27]) f H = thenC call it base (.region s_gnomonlaw07_GraphForms_r5t2 [] [5, 17, 18, 19, 20, 21, 22, 23, 24, 25, 26, 27]) (opsC [] s_gnomonlaw07_GraphForms_r5p1 [18] (evOps call base [⟨some 19, (.call (.c (.fn 15 [] [])) [(.t 18)]), none⟩] f H)) := (row_op call it base s_gnomonlaw07_GraphForms_r5p1 s_gnomonlaw07_GraphForms_r5t2 (kc := [18]) (by kernel_rfl) f H).trans (by rw [row_ops]; rfl)
theorem s_gnomonlaw07_GraphForms_r5t2_x (call : CallF) (it : IterF) (base : Nat) (f : List V) (H : Heap) : evC call it base (.region s_gnomonlaw07_GraphForms_r5t2 [] [5, 17, 18, 19, 20, 21, 22, 23, 24, 25, 26, 27]) f H = thenC call it base (.region s_gnomonlaw07_GraphForms_r5t3 [] [5, 17, 18, 19, 20, 21, 22, 23, 24, 25, 26, 27]) (opsC [] s_gnomonlaw07_GraphForms_r5p2 [17, 19] (evOps call base [⟨some 20, (.call (.c (.fn 14 [] [])) [(.t 17), (.t 19)]), none⟩] f H)) := (row_op call it base s_gnomonlaw07_GraphForms_r5p2 s_gnomonlaw07_GraphForms_r5t3 (kc := [17, 19]) (by kernel_rfl) f H).trans (by rw [row_ops]; rfl)
theorem s_gnomonlaw07_GraphForms_r5p3_tale (fr : List V) (H : Heap) : evTale (symAll s_gnomonlaw07_GraphForms_r5p3 [20, 21] [22]) [20, 21] fr H = evTale (some (23, [], [(22, (.op (.un .not (.t 0)) [(.t 20)]))])) [20, 21] fr H := tale_row (items := [.sub 0 [] [], .sub 0 [] []]) (by kernel_rfl) fr H
theorem s_gnomonlaw07_GraphForms_r5t3_x (call : CallF) (it : IterF) (base : Nat) (f : List V) (H : Heap) : evC call it base (.region s_gnomonlaw07_GraphForms_r5t3 [] [5, 17, 18, 19, 20, 21, 22, 23, 24, 25, 26, 27]) f H = segC call it base s_gnomonlaw07_GraphForms_r5t4 [5, 17, 18, 19, 20, 21, 22, 23, 24, 25, 26, 27] H (evTale (symAll s_gnomonlaw07_GraphForms_r5p3 [20, 21] [22]) [20, 21] f H) (origRow call it base s_gnomonlaw07_GraphForms_r5t3 [5, 17, 18, 19, 20, 21, 22, 23, 24, 25, 26, 27] f H) := row_seg call it base s_gnomonlaw07_GraphForms_r5p3 s_gnomonlaw07_GraphForms_r5t4 (by kernel_rfl) f H
theorem s_gnomonlaw07_GraphForms_r5t4_x (call : CallF) (it : IterF) (base : Nat) (f : List V) (H : Heap) : evC call it base (.region s_gnomonlaw07_GraphForms_r5t4 [] [5, 17, 18, 19, 20, 21, 22, 23, 24, 25, 26, 27]) f H = thenC call it base (.region s_gnomonlaw07_GraphForms_r5t5 [] [5, 17, 18, 19, 20, 21, 22, 23, 24, 25, 26, 27]) (opsC [] s_gnomonlaw07_GraphForms_r5p4 [5] (evOps call base [⟨some 23, (.move (.t 5)), some (22, false)⟩] f H)) := (row_op call it base s_gnomonlaw07_GraphForms_r5p4 s_gnomonlaw07_GraphForms_r5t5 (kc := [5]) (by kernel_rfl) f H).trans (by rw [row_ops]; rfl)
theorem s_gnomonlaw07_GraphForms_r5t5_x (call : CallF) (it : IterF) (base : Nat) (f : List V) (H : Heap) : evC call it base (.region s_gnomonlaw07_GraphForms_r5t5 [] [5, 17, 18, 19, 20, 21, 22, 23, 24, 25, 26, 27]) f H = thenC call it base (.region s_gnomonlaw07_GraphForms_r5t6 [] [5, 17, 18, 19, 20, 21, 22, 23, 24, 25, 26, 27]) (opsC [] s_gnomonlaw07_GraphForms_r5p5 [] (evOps call base [⟨some 24, (.move (.t 0)), some (22, false)⟩] f H)) := (row_op call it base s_gnomonlaw07_GraphForms_r5p5 s_gnomonlaw07_GraphForms_r5t6 (kc := []) (by kernel_rfl) f H).trans (by rw [row_ops]; rfl)
theorem s_gnomonlaw07_GraphForms_r5t6_x (call : CallF) (it : IterF) (base : Nat) (f : List V) (H : Heap) : evC call it base (.region s_gnomonlaw07_GraphForms_r5t6 [] [5, 17, 18, 19, 20, 21, 22, 23, 24, 25, 26, 27]) f H = thenC call it base (.region s_gnomonlaw07_GraphForms_r5t7 [] [5, 17, 18, 19, 20, 21, 22, 23, 24, 25, 26, 27]) (opsC [] s_gnomonlaw07_GraphForms_r5p6 [24] (evOps call base [⟨some 25, (.call (.c (.fn 16 [] [])) [(.t 24)]), some (22, false)⟩] f H)) := (row_op call it base s_gnomonlaw07_GraphForms_r5p6 s_gnomonlaw07_GraphForms_r5t7 (kc := [24]) (by kernel_rfl) f H).trans (by rw [row_ops]; rfl)
theorem s_gnomonlaw07_GraphForms_r5t7_x (call : CallF) (it : IterF) (base : Nat) (f : List V) (H : Heap) : evC call it base (.region s_gnomonlaw07_GraphForms_r5t7 [] [5, 17, 18, 19, 20, 21, 22, 23, 24, 25, 26, 27]) f H = thenC call it base (.region s_gnomonlaw07_GraphForms_r5t8 [] [5, 17, 18, 19, 20, 21, 22, 23, 24, 25, 26, 27]) (opsC [] s_gnomonlaw07_GraphForms_r5p7 [23, 25] (evOps call base [⟨some 26, (.call (.c (.fn 14 [] [])) [(.t 23), (.t 25)]), some (22, false)⟩] f H)) := (row_op call it base s_gnomonlaw07_GraphForms_r5p7 s_gnomonlaw07_GraphForms_r5t8 (kc := [23, 25]) (by kernel_rfl) f H).trans (by rw [row_ops]; rfl)
theorem s_gnomonlaw07_GraphForms_r5t8_tale (fr : List V) (H : Heap) : evTale (symAll s_gnomonlaw07_GraphForms_r5t8 [5, 17, 18, 19, 20, 21, 22, 23, 24, 25, 26, 27] [28]) [5, 17, 18, 19, 20, 21, 22, 23, 24, 25, 26, 27] fr H = evTale (some (29, [], [(28, (.pick (.t 22) (.c (.s (.bool true))) (.op (.un .not (.t 0)) [(.t 26)])))])) [5, 17, 18, 19, 20, 21, 22, 23, 24, 25, 26, 27] fr H := tale_row (items := [.sub 0 [2] [22], .sub 0 [] []]) (by kernel_rfl) fr H
theorem s_gnomonlaw07_GraphForms_r5t8_x (call : CallF) (it : IterF) (base : Nat) (f : List V) (H : Heap) : evC call it base (.region s_gnomonlaw07_GraphForms_r5t8 [] [5, 17, 18, 19, 20, 21, 22, 23, 24, 25, 26, 27]) f H = segL H (evTale (symAll s_gnomonlaw07_GraphForms_r5t8 [5, 17, 18, 19, 20, 21, 22, 23, 24, 25, 26, 27] [28]) [5, 17, 18, 19, 20, 21, 22, 23, 24, 25, 26, 27] f H) (origRow call it base s_gnomonlaw07_GraphForms_r5t8 [5, 17, 18, 19, 20, 21, 22, 23, 24, 25, 26, 27] f H) := row_last call it base _ f H
def s_gnomonlaw07_GraphForms_r6 : List AOper := [
  ⟨some 2, (.move (.c (.s (.bool false)))), none⟩]
theorem s_gnomonlaw07_GraphForms_r6_tale (fr : List V) (H : Heap) : evTale (symAll s_gnomonlaw07_GraphForms_r6 [0, 3, 4, 28] [2]) [0, 3, 4, 28] fr H = evTale (some (3, [], [(2, (.c (.s (.bool false))))])) [0, 3, 4, 28] fr H := tale_row (items := [.cc (.s (.bool false))]) (by kernel_rfl) fr H
def s_gnomonlaw07_GraphForms_r7 : List AOper := [
  ⟨some 6, (.move (.c (.s (.int .i64 0)))), none⟩]
theorem s_gnomonlaw07_GraphForms_r7_tale (fr : List V) (H : Heap) : evTale (symAll s_gnomonlaw07_GraphForms_r7 [28] [6]) [28] fr H = evTale (some (7, [], [(6, (.c (.s (.int .i64 0))))])) [28] fr H := tale_row (items := [.cc (.s (.int .i64 0))]) (by kernel_rfl) fr H
def s_gnomonlaw07_GraphForms_r8 : List AOper := [
  ⟨some 29, (.move (.t 6)), none⟩,
  ⟨some 30, (.move (.t 4)), none⟩,
  ⟨some 31, (.lenS .s (.t 30)), none⟩,
  ⟨some 32, (.bin .lss (.t 29) (.t 31)), none⟩]
theorem s_gnomonlaw07_GraphForms_r8_tale (fr : List V) (H : Heap) : evTale (symAll s_gnomonlaw07_GraphForms_r8 [29, 30, 31] [32]) [29, 30, 31] fr H = evTale (some (33, [], [(32, (.op (.bin .lss (.t 0) (.t 1)) [(.t 6), (.op (.lenS .s (.t 0)) [(.t 4)])]))])) [29, 30, 31] fr H := tale_row (items := [.tt 6, .tt 4, .sub 0 [1] [], .sub 0 [] []]) (by kernel_rfl) fr H
def s_gnomonlaw07_GraphForms_r9 : List AOper := [
  ⟨some 7, (.move (.c (.s (.int .i64 0)))), none⟩]
theorem s_gnomonlaw07_GraphForms_r9_tale (fr : List V) (H : Heap) : evTale (symAll s_gnomonlaw07_GraphForms_r9 [32] [7]) [32] fr H = evTale (some (8, [], [(7, (.c (.s (.int .i64 0))))])) [32] fr H := tale_row (items := [.cc (.s (.int .i64 0))]) (by kernel_rfl) fr H
def s_gnomonlaw07_GraphForms_r10 : List AOper := [
  ⟨some 35, (.move (.t 7)), none⟩,
  ⟨some 36, (.move (.t 4)), none⟩,
  ⟨some 37, (.move (.t 6)), none⟩,
  ⟨some 38, (.indexAddr 1 (.t 36) (.t 37)), none⟩,
  ⟨some 39, (.load false 1 (.t 38)), none⟩,
  ⟨some 40, (.lenS .s (.t 39)), none⟩,
  ⟨some 41, (.bin .lss (.t 35) (.t 40)), none⟩]
theorem s_gnomonlaw07_GraphForms_r10_tale (fr : List V) (H : Heap) : evTale (symAll s_gnomonlaw07_GraphForms_r10 [35, 36, 37, 38, 39, 40] [41]) [35, 36, 37, 38, 39, 40] fr H = evTale (some (42, [], [(41, (.op (.bin .lss (.t 0) (.t 1)) [(.t 7), (.op (.lenS .s (.t 0)) [(.op (.load false 1 (.t 0)) [(.op (.indexAddr 1 (.t 0) (.t 1)) [(.t 4), (.t 6)])])])]))])) [35, 36, 37, 38, 39, 40] fr H := tale_row (items := [.tt 7, .tt 4, .tt 6, .sub 0 [1, 0, 0] [], .sub 0 [1, 0] [], .sub 0 [1] [], .sub 0 [] []]) (by kernel_rfl) fr H
def s_gnomonlaw07_GraphForms_r11t1 : List AOper := [⟨none, (.store 1 (.t 49) (.c (.s (.int .i64 (-9))))), none⟩]
def s_gnomonlaw07_GraphForms_r11p0 : List AOper := [⟨some 44, (.move (.t 4)), none⟩, ⟨some 45, (.move (.t 6)), none⟩, ⟨some 46, (.indexAddr 1 (.t 44) (.t 45)), none⟩, ⟨some 47, (.load false 1 (.t 46)), none⟩, ⟨some 48, (.move (.t 7)), none⟩, ⟨some 49, (.indexAddr 1 (.t 47) (.t 48)), none⟩]
def s_gnomonlaw07_GraphForms_r11 : List AOper := s_gnomonlaw07_GraphForms_r11p0 ++ s_gnomonlaw07_GraphForms_r11t1
theorem s_gnomonlaw07_GraphForms_r11p0_tale (fr : List V) (H : Heap) : evTale (symAll s_gnomonlaw07_GraphForms_r11p0 [41, 44, 45, 46, 47, 48] [49]) [41, 44, 45, 46, 47, 48] fr H = evTale (some (50, [], [(49, (.op (.indexAddr 1 (.t 0) (.t 1)) [(.op (.load false 1 (.t 0)) [(.op (.indexAddr 1 (.t 0) (.t 1)) [(.t 4), (.t 6)])]), (.t 7)]))])) [41, 44, 45, 46, 47, 48] fr H := tale_row (items := [.tt 4, .tt 6, .sub 0 [0, 0] [], .sub 0 [0] [], .tt 7, .sub 0 [] []]) (by kernel_rfl) fr H
theorem s_gnomonlaw07_GraphForms_r11_x (call : CallF) (it : IterF) (base : Nat) (f : List V) (H : Heap) : evC call it base (.region s_gnomonlaw07_GraphForms_r11 [] [41, 44, 45, 46, 47, 48, 49]) f H = segC call it base s_gnomonlaw07_GraphForms_r11t1 [41, 44, 45, 46, 47, 48, 49] H (evTale (symAll s_gnomonlaw07_GraphForms_r11p0 [41, 44, 45, 46, 47, 48] [49]) [41, 44, 45, 46, 47, 48] f H) (origRow call it base s_gnomonlaw07_GraphForms_r11 [41, 44, 45, 46, 47, 48, 49] f H) := row_seg call it base s_gnomonlaw07_GraphForms_r11p0 s_gnomonlaw07_GraphForms_r11t1 (by kernel_rfl) f H
theorem s_gnomonlaw07_GraphForms_r11t1_x (call : CallF) (it : IterF) (base : Nat) (f : List V) (H : Heap) : evC call it base (.region s_gnomonlaw07_GraphForms_r11t1 [] [41, 44, 45, 46, 47, 48, 49]) f H = opsC [] s_gnomonlaw07_GraphForms_r11t1 [41, 44, 45, 46, 47, 48, 49] (evOps call base [⟨none, (.store 1 (.t 49) (.c (.s (.int .i64 (-9))))), none⟩] f H) := row_ops call it base _ _ _ f H
def s_gnomonlaw07_GraphForms_r12 : List AOper := [
  ⟨some 42, (.move (.t 7)), none⟩,
  ⟨some 43, (.bin .add (.t 42) (.c (.s (.int .i64 1)))), none⟩,
  ⟨some 7, (.move (.t 43)), none⟩]
theorem s_gnomonlaw07_GraphForms_r12_tale (fr : List V) (H : Heap) : evTale (symAll s_gnomonlaw07_GraphForms_r12 [42, 43] [7]) [42, 43] fr H = evTale (some (44, [], [(7, (.op (.bin .add (.t 0) (.c (.s (.int .i64 1)))) [(.t 7), (.c (.s (.int .i64 1)))]))])) [42, 43] fr H := tale_row (items := [.tt 7, .sub 0 [] [], .sub 0 [] []]) (by kernel_rfl) fr H
def s_gnomonlaw07_GraphForms_l0_b : ACode :=
  (.seq (.seq (.regionE s_gnomonlaw07_GraphForms_r10 [35, 36, 37, 38, 39, 40] [41])
  (.cond (.t 41)
  .skip
  (.exit 2)))
  (.seq (.block 3
  (.region s_gnomonlaw07_GraphForms_r11 [] [41, 44, 45, 46, 47, 48, 49]))
  (.regionE s_gnomonlaw07_GraphForms_r12 [42, 43] [7])))
def s_gnomonlaw07_GraphForms_l0 : ACode := s_gnomonlaw07_GraphForms_l0_b
theorem s_gnomonlaw07_GraphForms_l0_ev (call : CallF) (it : IterF) (base : Nat) (fr : List V) (H : Heap) : evC call it base s_gnomonlaw07_GraphForms_l0 fr H = evC call it base s_gnomonlaw07_GraphForms_l0_b fr H := rfl
def s_gnomonlaw07_GraphForms_r13 : List AOper := [
  ⟨some 33, (.move (.t 6)), none⟩,
  ⟨some 34, (.bin .add (.t 33) (.c (.s (.int .i64 1)))), none⟩,
  ⟨some 6, (.move (.t 34)), none⟩]
theorem s_gnomonlaw07_GraphForms_r13_tale (fr : List V) (H : Heap) : evTale (symAll s_gnomonlaw07_GraphForms_r13 [7, 33, 34, 41] [6]) [7, 33, 34, 41] fr H = evTale (some (35, [], [(6, (.op (.bin .add (.t 0) (.c (.s (.int .i64 1)))) [(.t 6), (.c (.s (.int .i64 1)))]))])) [7, 33, 34, 41] fr H := tale_row (items := [.tt 6, .sub 0 [] [], .sub 0 [] []]) (by kernel_rfl) fr H
def s_gnomonlaw07_GraphForms_l1_b : ACode :=
  (.seq (.seq (.regionE s_gnomonlaw07_GraphForms_r8 [29, 30, 31] [32])
  (.cond (.t 32)
  .skip
  (.exit 0)))
  (.seq (.block 1
  (.seq (.regionE s_gnomonlaw07_GraphForms_r9 [32] [7])
  (.block 2
  (.loop [] s_gnomonlaw07_GraphForms_l0))))
  (.regionE s_gnomonlaw07_GraphForms_r13 [7, 33, 34, 41] [6])))
def s_gnomonlaw07_GraphForms_l1 : ACode := s_gnomonlaw07_GraphForms_l1_b
theorem s_gnomonlaw07_GraphForms_l1_ev (call : CallF) (it : IterF) (base : Nat) (fr : List V) (H : Heap) : evC call it base s_gnomonlaw07_GraphForms_l1 fr H = evC call it base s_gnomonlaw07_GraphForms_l1_b fr H := rfl
def s_gnomonlaw07_GraphForms_r14t4 : List AOper := [⟨some 55, (.pick (.t 53) (.t 54) (.c (.s (.bool false)))), none⟩, ⟨some 2, (.move (.t 55)), none⟩]
def s_gnomonlaw07_GraphForms_r14p3 : List AOper := [⟨some 54, (.call (.c (.fn 10 [] [])) []), some (53, true)⟩]
def s_gnomonlaw07_GraphForms_r14t3 : List AOper := s_gnomonlaw07_GraphForms_r14p3 ++ s_gnomonlaw07_GraphForms_r14t4
def s_gnomonlaw07_GraphForms_r14p2 : List AOper := [⟨some 53, (.move (.t 52)), none⟩]
def s_gnomonlaw07_GraphForms_r14t2 : List AOper := s_gnomonlaw07_GraphForms_r14p2 ++ s_gnomonlaw07_GraphForms_r14t3
def s_gnomonlaw07_GraphForms_r14p1 : List AOper := [⟨some 52, (.call (.c (.fn 14 [] [])) [(.t 50), (.t 51)]), none⟩]
def s_gnomonlaw07_GraphForms_r14t1 : List AOper := s_gnomonlaw07_GraphForms_r14p1 ++ s_gnomonlaw07_GraphForms_r14t2
def s_gnomonlaw07_GraphForms_r14p0 : List AOper := [⟨some 50, (.move (.t 3)), none⟩, ⟨some 51, (.move (.t 0)), none⟩]
def s_gnomonlaw07_GraphForms_r14 : List AOper := s_gnomonlaw07_GraphForms_r14p0 ++ s_gnomonlaw07_GraphForms_r14t1
theorem s_gnomonlaw07_GraphForms_r14p0_tale (fr : List V) (H : Heap) : evTale (symAll s_gnomonlaw07_GraphForms_r14p0 [0, 3, 4, 6, 32] [50, 51]) [0, 3, 4, 6, 32] fr H = evTale (some (52, [], [(50, (.t 3)), (51, (.t 0))])) [0, 3, 4, 6, 32] fr H := tale_row (items := [.tt 3, .tt 0]) (by kernel_rfl) fr H
theorem s_gnomonlaw07_GraphForms_r14_x (call : CallF) (it : IterF) (base : Nat) (f : List V) (H : Heap) : evC call it base (.region s_gnomonlaw07_GraphForms_r14 [] [0, 3, 4, 6, 32, 50, 51, 52, 53, 54, 55]) f H = segC call it base s_gnomonlaw07_GraphForms_r14t1 [0, 3, 4, 6, 32, 50, 51, 52, 53, 54, 55] H (evTale (symAll s_gnomonlaw07_GraphForms_r14p0 [0, 3, 4, 6, 32] [50, 51]) [0, 3, 4, 6, 32] f H) (origRow call it base s_gnomonlaw07_GraphForms_r14 [0, 3, 4, 6, 32, 50, 51, 52, 53, 54, 55] f H) := row_seg call it base s_gnomonlaw07_GraphForms_r14p0 s_gnomonlaw07_GraphForms_r14t1 (by kernel_rfl) f H
theorem s_gnomonlaw07_GraphForms_r14t1_x (call : CallF) (it : IterF) (base : Nat) (f : List V) (H : Heap) : evC call it base (.region s_gnomonlaw07_GraphForms_r14t1 [] [0, 3, 4, 6, 32, 50, 51, 52, 53, 54, 55]) f H = thenC call it base (.region s_gnomonlaw07_GraphForms_r14t2 [] [0, 3, 4, 6, 32, 50, 51, 52, 53, 54, 55]) (opsC [] s_gnomonlaw07_GraphForms_r14p1 [50, 51] (evOps call base [⟨some 52, (.call (.c (.fn 14 [] [])) [(.t 50), (.t 51)]), none⟩] f H)) := (row_op call it base s_gnomonlaw07_GraphForms_r14p1 s_gnomonlaw07_GraphForms_r14t2 (kc := [50, 51]) (by kernel_rfl) f H).trans (by rw [row_ops]; rfl)
theorem s_gnomonlaw07_GraphForms_r14p2_tale (fr : List V) (H : Heap) : evTale (symAll s_gnomonlaw07_GraphForms_r14p2 [52] [53]) [52] fr H = evTale (some (54, [], [(53, (.t 52))])) [52] fr H := tale_row (items := [.tt 52]) (by kernel_rfl) fr H
theorem s_gnomonlaw07_GraphForms_r14t2_x (call : CallF) (it : IterF) (base : Nat) (f : List V) (H : Heap) : evC call it base (.region s_gnomonlaw07_GraphForms_r14t2 [] [0, 3, 4, 6, 32, 50, 51, 52, 53, 54, 55]) f H = segC call it base s_gnomonlaw07_GraphForms_r14t3 [0, 3, 4, 6, 32, 50, 51, 52, 53, 54, 55] H (evTale (symAll s_gnomonlaw07_GraphForms_r14p2 [52] [53]) [52] f H) (origRow call it base s_gnomonlaw07_GraphForms_r14t2 [0, 3, 4, 6, 32, 50, 51, 52, 53, 54, 55] f H) := row_seg call it base s_gnomonlaw07_GraphForms_r14p2 s_gnomonlaw07_GraphForms_r14t3 (by kernel_rfl) f H
theorem s_gnomonlaw07_GraphForms_r14t3_x (call : CallF) (it : IterF) (base : Nat) (f : List V) (H : Heap) : evC call it base (.region s_gnomonlaw07_GraphForms_r14t3 [] [0, 3, 4, 6, 32, 50, 51, 52, 53, 54, 55]) f H = thenC call it base (.region s_gnomonlaw07_GraphForms_r14t4 [] [0, 3, 4, 6, 32, 50, 51, 52, 53, 54, 55]) (opsC [] s_gnomonlaw07_GraphForms_r14p3 [] (evOps call base [⟨some 54, (.call (.c (.fn 10 [] [])) []), some (53, true)⟩] f H)) := (row_op call it base s_gnomonlaw07_GraphForms_r14p3 s_gnomonlaw07_GraphForms_r14t4 (kc := []) (by kernel_rfl) f H).trans (by rw [row_ops]; rfl)
theorem s_gnomonlaw07_GraphForms_r14t4_tale (fr : List V) (H : Heap) : evTale (symAll s_gnomonlaw07_GraphForms_r14t4 [0, 3, 4, 6, 32, 50, 51, 52, 53, 54, 55] [2]) [0, 3, 4, 6, 32, 50, 51, 52, 53, 54, 55] fr H = evTale (some (56, [], [(2, (.pick (.t 53) (.t 54) (.c (.s (.bool false)))))])) [0, 3, 4, 6, 32, 50, 51, 52, 53, 54, 55] fr H := tale_row (items := [.sub 0 [] [], .sub 0 [] []]) (by kernel_rfl) fr H
theorem s_gnomonlaw07_GraphForms_r14t4_x (call : CallF) (it : IterF) (base : Nat) (f : List V) (H : Heap) : evC call it base (.region s_gnomonlaw07_GraphForms_r14t4 [] [0, 3, 4, 6, 32, 50, 51, 52, 53, 54, 55]) f H = segL H (evTale (symAll s_gnomonlaw07_GraphForms_r14t4 [0, 3, 4, 6, 32, 50, 51, 52, 53, 54, 55] [2]) [0, 3, 4, 6, 32, 50, 51, 52, 53, 54, 55] f H) (origRow call it base s_gnomonlaw07_GraphForms_r14t4 [0, 3, 4, 6, 32, 50, 51, 52, 53, 54, 55] f H) := row_last call it base _ f H
def s_gnomonlaw07_GraphForms : ACFun := { ntmps := 56, results := [(.tmp 2)], body :=
  (.seq (.regionE s_gnomonlaw07_GraphForms_r0 s_gnomonlaw07_GraphForms_r0_k [])
  (.seq (.seq (.region s_gnomonlaw07_GraphForms_r1 [] [8])
  (.cond (.t 9)
  (.seq (.region s_gnomonlaw07_GraphForms_r2 [] [0, 9, 10])
  .ret)
  .skip))
  (.seq (.region s_gnomonlaw07_GraphForms_r3 [] [9, 11, 12])
  (.seq (.region s_gnomonlaw07_GraphForms_r4 [] [13, 14, 15, 16])
  (.seq (.seq (.region s_gnomonlaw07_GraphForms_r5 [] [5, 17, 18, 19, 20, 21, 22, 23, 24, 25, 26, 27])
  (.cond (.t 28)
  (.seq (.regionE s_gnomonlaw07_GraphForms_r6 [0, 3, 4, 28] [2])
  .ret)
  .skip))
  (.seq (.seq (.regionE s_gnomonlaw07_GraphForms_r7 [28] [6])
  (.block 0
  (.loop [] s_gnomonlaw07_GraphForms_l1)))
  (.seq (.region s_gnomonlaw07_GraphForms_r14 [] [0, 3, 4, 6, 32, 50, 51, 52, 53, 54, 55])
  .ret))))))) }
/- 9 gnomon/gnomonlaw07.great -/
abbrev k_gnomonlaw07_great : Nat := 9
def s_gnomonlaw07_great_r0_k : List Nat := [1, 2, 3, 4, 5, 6, 7, 8, 9, 10, 11, 12, 13, 14, 15, 16, 17, 18, 19, 20, 21, 22, 23, 24, 25, 26, 27, 28]
theorem s_gnomonlaw07_great_r0_kT : killV s_gnomonlaw07_great_r0_k (startV 29 [] 1) = [] := by kernel_rfl
theorem s_gnomonlaw07_great_r0_kA0 : s_gnomonlaw07_great_r0_k.contains 0 = false := by kernel_rfl
def s_gnomonlaw07_great_r0 : List AOper := [
  ⟨some 2, (.move (.c (.s (.bool false)))), none⟩]
theorem s_gnomonlaw07_great_r0_tale (fr : List V) (H : Heap) : evTale (symAll s_gnomonlaw07_great_r0 s_gnomonlaw07_great_r0_k []) s_gnomonlaw07_great_r0_k fr H = evTale (some (3, [], [])) s_gnomonlaw07_great_r0_k fr H := tale_row (items := [.cc (.s (.bool false))]) (by kernel_rfl) fr H
def s_gnomonlaw07_great_r1 : List AOper := [
  ⟨some 5, (.move (.t 0)), none⟩,
  ⟨some 6, (.lenS .s (.t 5)), none⟩,
  ⟨some 7, (.bin .gtr (.t 6) (.c (.s (.int .i64 200)))), none⟩]
theorem s_gnomonlaw07_great_r1_tale (fr : List V) (H : Heap) : evTale (symAll s_gnomonlaw07_great_r1 [5, 6] [7]) [5, 6] fr H = evTale (some (8, [], [(7, (.op (.bin .gtr (.t 0) (.c (.s (.int .i64 200)))) [(.op (.lenS .s (.t 0)) [(.t 0)]), (.c (.s (.int .i64 200)))]))])) [5, 6] fr H := tale_row (items := [.tt 0, .sub 0 [0] [], .sub 0 [] []]) (by kernel_rfl) fr H
def s_gnomonlaw07_great_r2 : List AOper := [
  ⟨some 2, (.move (.c (.s (.bool true)))), none⟩]
theorem s_gnomonlaw07_great_r2_tale (fr : List V) (H : Heap) : evTale (symAll s_gnomonlaw07_great_r2 [0, 7] [2]) [0, 7] fr H = evTale (some (3, [], [(2, (.c (.s (.bool true))))])) [0, 7] fr H := tale_row (items := [.cc (.s (.bool true))]) (by kernel_rfl) fr H
def s_gnomonlaw07_great_r3 : List AOper := [
  ⟨some 3, (.move (.c (.s (.int .i64 0)))), none⟩]
theorem s_gnomonlaw07_great_r3_tale (fr : List V) (H : Heap) : evTale (symAll s_gnomonlaw07_great_r3 [7] [3]) [7] fr H = evTale (some (4, [], [(3, (.c (.s (.int .i64 0))))])) [7] fr H := tale_row (items := [.cc (.s (.int .i64 0))]) (by kernel_rfl) fr H
def s_gnomonlaw07_great_r4 : List AOper := [
  ⟨some 4, (.move (.c (.s (.int .i64 0)))), none⟩]
theorem s_gnomonlaw07_great_r4_tale (fr : List V) (H : Heap) : evTale (symAll s_gnomonlaw07_great_r4 [] [4]) [] fr H = evTale (some (5, [], [(4, (.c (.s (.int .i64 0))))])) [] fr H := tale_row (items := [.cc (.s (.int .i64 0))]) (by kernel_rfl) fr H
def s_gnomonlaw07_great_r5 : List AOper := [
  ⟨some 8, (.move (.t 4)), none⟩,
  ⟨some 9, (.move (.t 0)), none⟩,
  ⟨some 10, (.lenS .s (.t 9)), none⟩,
  ⟨some 11, (.bin .lss (.t 8) (.t 10)), none⟩]
theorem s_gnomonlaw07_great_r5_tale (fr : List V) (H : Heap) : evTale (symAll s_gnomonlaw07_great_r5 [8, 9, 10] [11]) [8, 9, 10] fr H = evTale (some (12, [], [(11, (.op (.bin .lss (.t 0) (.t 1)) [(.t 4), (.op (.lenS .s (.t 0)) [(.t 0)])]))])) [8, 9, 10] fr H := tale_row (items := [.tt 4, .tt 0, .sub 0 [1] [], .sub 0 [] []]) (by kernel_rfl) fr H
def s_gnomonlaw07_great_r6 : List AOper := [
  ⟨some 14, (.move (.t 0)), none⟩,
  ⟨some 15, (.move (.t 4)), none⟩,
  ⟨some 16, (.indexAddr 1 (.t 14) (.t 15)), none⟩,
  ⟨some 17, (.load false 1 (.t 16)), none⟩,
  ⟨some 18, (.lenS .s (.t 17)), none⟩,
  ⟨some 19, (.bin .gtr (.t 18) (.c (.s (.int .i64 3000)))), none⟩]
theorem s_gnomonlaw07_great_r6_tale (fr : List V) (H : Heap) : evTale (symAll s_gnomonlaw07_great_r6 [11, 14, 15, 16, 17, 18] [19]) [11, 14, 15, 16, 17, 18] fr H = evTale (some (20, [], [(19, (.op (.bin .gtr (.t 0) (.c (.s (.int .i64 3000)))) [(.op (.lenS .s (.t 0)) [(.op (.load false 1 (.t 0)) [(.op (.indexAddr 1 (.t 0) (.t 1)) [(.t 0), (.t 4)])])]), (.c (.s (.int .i64 3000)))]))])) [11, 14, 15, 16, 17, 18] fr H := tale_row (items := [.tt 0, .tt 4, .sub 0 [0, 0, 0] [], .sub 0 [0, 0] [], .sub 0 [0] [], .sub 0 [] []]) (by kernel_rfl) fr H
def s_gnomonlaw07_great_r7 : List AOper := [
  ⟨some 2, (.move (.c (.s (.bool true)))), none⟩]
theorem s_gnomonlaw07_great_r7_tale (fr : List V) (H : Heap) : evTale (symAll s_gnomonlaw07_great_r7 [0, 3, 4, 19] [2]) [0, 3, 4, 19] fr H = evTale (some (3, [], [(2, (.c (.s (.bool true))))])) [0, 3, 4, 19] fr H := tale_row (items := [.cc (.s (.bool true))]) (by kernel_rfl) fr H
def s_gnomonlaw07_great_r8 : List AOper := [
  ⟨some 20, (.move (.t 3)), none⟩,
  ⟨some 21, (.move (.t 0)), none⟩,
  ⟨some 22, (.move (.t 4)), none⟩,
  ⟨some 23, (.indexAddr 1 (.t 21) (.t 22)), none⟩,
  ⟨some 24, (.load false 1 (.t 23)), none⟩,
  ⟨some 25, (.lenS .s (.t 24)), none⟩,
  ⟨some 26, (.bin .add (.t 20) (.t 25)), none⟩,
  ⟨some 3, (.move (.t 26)), none⟩]
theorem s_gnomonlaw07_great_r8_tale (fr : List V) (H : Heap) : evTale (symAll s_gnomonlaw07_great_r8 [19, 20, 21, 22, 23, 24, 25, 26] [3]) [19, 20, 21, 22, 23, 24, 25, 26] fr H = evTale (some (27, [], [(3, (.op (.bin .add (.t 0) (.t 1)) [(.t 3), (.op (.lenS .s (.t 0)) [(.op (.load false 1 (.t 0)) [(.op (.indexAddr 1 (.t 0) (.t 1)) [(.t 0), (.t 4)])])])]))])) [19, 20, 21, 22, 23, 24, 25, 26] fr H := tale_row (items := [.tt 3, .tt 0, .tt 4, .sub 0 [1, 0, 0] [], .sub 0 [1, 0] [], .sub 0 [1] [], .sub 0 [] [], .sub 0 [] []]) (by kernel_rfl) fr H
def s_gnomonlaw07_great_r9 : List AOper := [
  ⟨some 12, (.move (.t 4)), none⟩,
  ⟨some 13, (.bin .add (.t 12) (.c (.s (.int .i64 1)))), none⟩,
  ⟨some 4, (.move (.t 13)), none⟩]
theorem s_gnomonlaw07_great_r9_tale (fr : List V) (H : Heap) : evTale (symAll s_gnomonlaw07_great_r9 [12, 13] [4]) [12, 13] fr H = evTale (some (14, [], [(4, (.op (.bin .add (.t 0) (.c (.s (.int .i64 1)))) [(.t 4), (.c (.s (.int .i64 1)))]))])) [12, 13] fr H := tale_row (items := [.tt 4, .sub 0 [] [], .sub 0 [] []]) (by kernel_rfl) fr H
def s_gnomonlaw07_great_l0_b : ACode :=
  (.seq (.seq (.regionE s_gnomonlaw07_great_r5 [8, 9, 10] [11])
  (.cond (.t 11)
  .skip
  (.exit 0)))
  (.seq (.block 1
  (.seq (.seq (.regionE s_gnomonlaw07_great_r6 [11, 14, 15, 16, 17, 18] [19])
  (.cond (.t 19)
  (.seq (.regionE s_gnomonlaw07_great_r7 [0, 3, 4, 19] [2])
  .ret)
  .skip))
  (.regionE s_gnomonlaw07_great_r8 [19, 20, 21, 22, 23, 24, 25, 26] [3])))
  (.regionE s_gnomonlaw07_great_r9 [12, 13] [4])))
def s_gnomonlaw07_great_l0 : ACode := s_gnomonlaw07_great_l0_b
theorem s_gnomonlaw07_great_l0_ev (call : CallF) (it : IterF) (base : Nat) (fr : List V) (H : Heap) : evC call it base s_gnomonlaw07_great_l0 fr H = evC call it base s_gnomonlaw07_great_l0_b fr H := rfl
def s_gnomonlaw07_great_r10 : List AOper := [
  ⟨some 27, (.move (.t 3)), none⟩,
  ⟨some 28, (.bin .gtr (.t 27) (.c (.s (.int .i64 3000)))), none⟩,
  ⟨some 2, (.move (.t 28)), none⟩]
theorem s_gnomonlaw07_great_r10_tale (fr : List V) (H : Heap) : evTale (symAll s_gnomonlaw07_great_r10 [0, 3, 4, 11, 27, 28] [2]) [0, 3, 4, 11, 27, 28] fr H = evTale (some (29, [], [(2, (.op (.bin .gtr (.t 0) (.c (.s (.int .i64 3000)))) [(.t 3), (.c (.s (.int .i64 3000)))]))])) [0, 3, 4, 11, 27, 28] fr H := tale_row (items := [.tt 3, .sub 0 [] [], .sub 0 [] []]) (by kernel_rfl) fr H
def s_gnomonlaw07_great : ACFun := { ntmps := 29, results := [(.tmp 2)], body :=
  (.seq (.regionE s_gnomonlaw07_great_r0 s_gnomonlaw07_great_r0_k [])
  (.seq (.seq (.regionE s_gnomonlaw07_great_r1 [5, 6] [7])
  (.cond (.t 7)
  (.seq (.regionE s_gnomonlaw07_great_r2 [0, 7] [2])
  .ret)
  .skip))
  (.seq (.regionE s_gnomonlaw07_great_r3 [7] [3])
  (.seq (.seq (.regionE s_gnomonlaw07_great_r4 [] [4])
  (.block 0
  (.loop [] s_gnomonlaw07_great_l0)))
  (.seq (.regionE s_gnomonlaw07_great_r10 [0, 3, 4, 11, 27, 28] [2])
  .ret))))) }
/- 11 gnomon/gnomonlaw07.own -/
abbrev k_gnomonlaw07_own : Nat := 11
def s_gnomonlaw07_own_r0_k : List Nat := [1, 2, 3, 4, 5, 6, 7, 8, 9, 10, 11, 12, 13, 14, 15, 16, 17, 18, 19]
theorem s_gnomonlaw07_own_r0_kT : killV s_gnomonlaw07_own_r0_k (startV 20 [] 1) = [] := by kernel_rfl
theorem s_gnomonlaw07_own_r0_kA0 : s_gnomonlaw07_own_r0_k.contains 0 = false := by kernel_rfl
def s_gnomonlaw07_own_r0 : List AOper := [
  ⟨some 2, (.move (.c (.s (.slice none 0 0)))), none⟩]
theorem s_gnomonlaw07_own_r0_tale (fr : List V) (H : Heap) : evTale (symAll s_gnomonlaw07_own_r0 s_gnomonlaw07_own_r0_k []) s_gnomonlaw07_own_r0_k fr H = evTale (some (3, [], [])) s_gnomonlaw07_own_r0_k fr H := tale_row (items := [.cc (.s (.slice none 0 0))]) (by kernel_rfl) fr H
def s_gnomonlaw07_own_r1 : List AOper := [
  ⟨some 3, (.move (.c (.s (.slice none 0 0)))), none⟩]
theorem s_gnomonlaw07_own_r1_tale (fr : List V) (H : Heap) : evTale (symAll s_gnomonlaw07_own_r1 [] [3]) [] fr H = evTale (some (4, [], [(3, (.c (.s (.slice none 0 0))))])) [] fr H := tale_row (items := [.cc (.s (.slice none 0 0))]) (by kernel_rfl) fr H
def s_gnomonlaw07_own_r2 : List AOper := [
  ⟨some 4, (.move (.c (.s (.int .i64 0)))), none⟩]
theorem s_gnomonlaw07_own_r2_tale (fr : List V) (H : Heap) : evTale (symAll s_gnomonlaw07_own_r2 [] [4]) [] fr H = evTale (some (5, [], [(4, (.c (.s (.int .i64 0))))])) [] fr H := tale_row (items := [.cc (.s (.int .i64 0))]) (by kernel_rfl) fr H
def s_gnomonlaw07_own_r3 : List AOper := [
  ⟨some 5, (.move (.t 4)), none⟩,
  ⟨some 6, (.move (.t 0)), none⟩,
  ⟨some 7, (.lenS .s (.t 6)), none⟩,
  ⟨some 8, (.bin .lss (.t 5) (.t 7)), none⟩]
theorem s_gnomonlaw07_own_r3_tale (fr : List V) (H : Heap) : evTale (symAll s_gnomonlaw07_own_r3 [5, 6, 7] [8]) [5, 6, 7] fr H = evTale (some (9, [], [(8, (.op (.bin .lss (.t 0) (.t 1)) [(.t 4), (.op (.lenS .s (.t 0)) [(.t 0)])]))])) [5, 6, 7] fr H := tale_row (items := [.tt 4, .tt 0, .sub 0 [1] [], .sub 0 [] []]) (by kernel_rfl) fr H
def s_gnomonlaw07_own_r4t4 : List AOper := [⟨some 3, (.move (.t 18)), none⟩]
def s_gnomonlaw07_own_r4p3 : List AOper := [⟨some 18, (.append 1 24 (.t 11) (.t 17)), none⟩]
def s_gnomonlaw07_own_r4t3 : List AOper := s_gnomonlaw07_own_r4p3 ++ s_gnomonlaw07_own_r4t4
def s_gnomonlaw07_own_r4p2 : List AOper := [⟨some 17, (.buildSl 1 1 [(.s (.slice none 0 0))] [(0, (.t 16))]), none⟩]
def s_gnomonlaw07_own_r4t2 : List AOper := s_gnomonlaw07_own_r4p2 ++ s_gnomonlaw07_own_r4t3
def s_gnomonlaw07_own_r4p1 : List AOper := [⟨some 16, (.append 1 8 (.c (.s (.slice none 0 0))) (.t 15)), none⟩]
def s_gnomonlaw07_own_r4t1 : List AOper := s_gnomonlaw07_own_r4p1 ++ s_gnomonlaw07_own_r4t2
def s_gnomonlaw07_own_r4p0 : List AOper := [⟨some 11, (.move (.t 3)), none⟩, ⟨some 12, (.move (.t 0)), none⟩, ⟨some 13, (.move (.t 4)), none⟩, ⟨some 14, (.indexAddr 1 (.t 12) (.t 13)), none⟩, ⟨some 15, (.load false 1 (.t 14)), none⟩]
def s_gnomonlaw07_own_r4 : List AOper := s_gnomonlaw07_own_r4p0 ++ s_gnomonlaw07_own_r4t1
theorem s_gnomonlaw07_own_r4p0_tale (fr : List V) (H : Heap) : evTale (symAll s_gnomonlaw07_own_r4p0 [3, 8, 12, 13, 14] [11, 15]) [3, 8, 12, 13, 14] fr H = evTale (some (16, [], [(11, (.t 3)), (15, (.op (.load false 1 (.t 0)) [(.op (.indexAddr 1 (.t 0) (.t 1)) [(.t 0), (.t 4)])]))])) [3, 8, 12, 13, 14] fr H := tale_row (items := [.tt 3, .tt 0, .tt 4, .sub 1 [0] [], .sub 1 [] []]) (by kernel_rfl) fr H
theorem s_gnomonlaw07_own_r4_x (call : CallF) (it : IterF) (base : Nat) (f : List V) (H : Heap) : evC call it base (.region s_gnomonlaw07_own_r4 [] [8, 11, 12, 13, 14, 15, 16, 17, 18]) f H = segC call it base s_gnomonlaw07_own_r4t1 [8, 11, 12, 13, 14, 15, 16, 17, 18] H (evTale (symAll s_gnomonlaw07_own_r4p0 [3, 8, 12, 13, 14] [11, 15]) [3, 8, 12, 13, 14] f H) (origRow call it base s_gnomonlaw07_own_r4 [8, 11, 12, 13, 14, 15, 16, 17, 18] f H) := row_seg call it base s_gnomonlaw07_own_r4p0 s_gnomonlaw07_own_r4t1 (by kernel_rfl) f H
theorem s_gnomonlaw07_own_r4t1_x (call : CallF) (it : IterF) (base : Nat) (f : List V) (H : Heap) : evC call it base (.region s_gnomonlaw07_own_r4t1 [] [8, 11, 12, 13, 14, 15, 16, 17, 18]) f H = thenC call it base (.region s_gnomonlaw07_own_r4t2 [] [8, 11, 12, 13, 14, 15, 16, 17, 18]) (opsC [] s_gnomonlaw07_own_r4p1 [15] (evOps call base [⟨some 16, (.append 1 8 (.c (.s (.slice none 0 0))) (.t 15)), none⟩] f H)) := (row_op call it base s_gnomonlaw07_own_r4p1 s_gnomonlaw07_own_r4t2 (kc := [15]) (by kernel_rfl) f H).trans (by rw [row_ops]; rfl)
theorem s_gnomonlaw07_own_r4t2_x (call : CallF) (it : IterF) (base : Nat) (f : List V) (H : Heap) : evC call it base (.region s_gnomonlaw07_own_r4t2 [] [8, 11, 12, 13, 14, 15, 16, 17, 18]) f H = thenC call it base (.region s_gnomonlaw07_own_r4t3 [] [8, 11, 12, 13, 14, 15, 16, 17, 18]) (opsC [] s_gnomonlaw07_own_r4p2 [16] (evOps call base [⟨some 17, (.buildSl 1 1 [(.s (.slice none 0 0))] [(0, (.t 16))]), none⟩] f H)) := (row_op call it base s_gnomonlaw07_own_r4p2 s_gnomonlaw07_own_r4t3 (kc := [16]) (by kernel_rfl) f H).trans (by rw [row_ops]; rfl)
theorem s_gnomonlaw07_own_r4t3_x (call : CallF) (it : IterF) (base : Nat) (f : List V) (H : Heap) : evC call it base (.region s_gnomonlaw07_own_r4t3 [] [8, 11, 12, 13, 14, 15, 16, 17, 18]) f H = thenC call it base (.region s_gnomonlaw07_own_r4t4 [] [8, 11, 12, 13, 14, 15, 16, 17, 18]) (opsC [] s_gnomonlaw07_own_r4p3 [11, 17] (evOps call base [⟨some 18, (.append 1 24 (.t 11) (.t 17)), none⟩] f H)) := (row_op call it base s_gnomonlaw07_own_r4p3 s_gnomonlaw07_own_r4t4 (kc := [11, 17]) (by kernel_rfl) f H).trans (by rw [row_ops]; rfl)
theorem s_gnomonlaw07_own_r4t4_tale (fr : List V) (H : Heap) : evTale (symAll s_gnomonlaw07_own_r4t4 [8, 11, 12, 13, 14, 15, 16, 17, 18] [3]) [8, 11, 12, 13, 14, 15, 16, 17, 18] fr H = evTale (some (4, [], [(3, (.t 18))])) [8, 11, 12, 13, 14, 15, 16, 17, 18] fr H := tale_row (items := [.tt 18]) (by kernel_rfl) fr H
theorem s_gnomonlaw07_own_r4t4_x (call : CallF) (it : IterF) (base : Nat) (f : List V) (H : Heap) : evC call it base (.region s_gnomonlaw07_own_r4t4 [] [8, 11, 12, 13, 14, 15, 16, 17, 18]) f H = segL H (evTale (symAll s_gnomonlaw07_own_r4t4 [8, 11, 12, 13, 14, 15, 16, 17, 18] [3]) [8, 11, 12, 13, 14, 15, 16, 17, 18] f H) (origRow call it base s_gnomonlaw07_own_r4t4 [8, 11, 12, 13, 14, 15, 16, 17, 18] f H) := row_last call it base _ f H
def s_gnomonlaw07_own_r5 : List AOper := [
  ⟨some 9, (.move (.t 4)), none⟩,
  ⟨some 10, (.bin .add (.t 9) (.c (.s (.int .i64 1)))), none⟩,
  ⟨some 4, (.move (.t 10)), none⟩]
theorem s_gnomonlaw07_own_r5_tale (fr : List V) (H : Heap) : evTale (symAll s_gnomonlaw07_own_r5 [9, 10] [4]) [9, 10] fr H = evTale (some (11, [], [(4, (.op (.bin .add (.t 0) (.c (.s (.int .i64 1)))) [(.t 4), (.c (.s (.int .i64 1)))]))])) [9, 10] fr H := tale_row (items := [.tt 4, .sub 0 [] [], .sub 0 [] []]) (by kernel_rfl) fr H
def s_gnomonlaw07_own_l0_b : ACode :=
  (.seq (.seq (.regionE s_gnomonlaw07_own_r3 [5, 6, 7] [8])
  (.cond (.t 8)
  .skip
  (.exit 0)))
  (.seq (.block 1
  (.region s_gnomonlaw07_own_r4 [] [8, 11, 12, 13, 14, 15, 16, 17, 18]))
  (.regionE s_gnomonlaw07_own_r5 [9, 10] [4])))
def s_gnomonlaw07_own_l0 : ACode := s_gnomonlaw07_own_l0_b
theorem s_gnomonlaw07_own_l0_ev (call : CallF) (it : IterF) (base : Nat) (fr : List V) (H : Heap) : evC call it base s_gnomonlaw07_own_l0 fr H = evC call it base s_gnomonlaw07_own_l0_b fr H := rfl
def s_gnomonlaw07_own_r6 : List AOper := [
  ⟨some 19, (.move (.t 3)), none⟩,
  ⟨some 2, (.move (.t 19)), none⟩]
theorem s_gnomonlaw07_own_r6_tale (fr : List V) (H : Heap) : evTale (symAll s_gnomonlaw07_own_r6 [0, 3, 4, 8, 19] [2]) [0, 3, 4, 8, 19] fr H = evTale (some (20, [], [(2, (.t 3))])) [0, 3, 4, 8, 19] fr H := tale_row (items := [.tt 3, .tt 3]) (by kernel_rfl) fr H
def s_gnomonlaw07_own : ACFun := { ntmps := 20, results := [(.tmp 2)], body :=
  (.seq (.regionE s_gnomonlaw07_own_r0 s_gnomonlaw07_own_r0_k [])
  (.seq (.regionE s_gnomonlaw07_own_r1 [] [3])
  (.seq (.seq (.regionE s_gnomonlaw07_own_r2 [] [4])
  (.block 0
  (.loop [] s_gnomonlaw07_own_l0)))
  (.seq (.regionE s_gnomonlaw07_own_r6 [0, 3, 4, 8, 19] [2])
  .ret)))) }
/- 12 gnomon/graph.Norm -/
abbrev k_graph_Norm : Nat := 12
def s_graph_Norm_r0_k : List Nat := [0, 2, 3, 4, 5, 6, 7, 8, 9, 10, 11, 12, 13, 14, 15, 16, 17, 18, 19, 20, 21, 22, 23, 24, 25, 26, 27, 28, 29]
theorem s_graph_Norm_r0_k_kA0 : s_graph_Norm_r0_k.contains 0 = true := by kernel_rfl
theorem s_graph_Norm_r0_k_kA1 : s_graph_Norm_r0_k.contains 1 = false := by kernel_rfl
theorem s_graph_Norm_r0_k_kA2 : s_graph_Norm_r0_k.contains 2 = true := by kernel_rfl
def s_graph_Norm_r0t1 : List AOper := [⟨some 2, (.move (.c (.s (.slice none 0 0)))), none⟩]
def s_graph_Norm_r0p0 : List AOper := [⟨some 1, (.box (.t 0)), none⟩]
def s_graph_Norm_r0 : List AOper := s_graph_Norm_r0p0 ++ s_graph_Norm_r0t1
theorem s_graph_Norm_r0_x (call : CallF) (it : IterF) (base : Nat) (f : List V) (H : Heap) : evC call it base (.region s_graph_Norm_r0 [] s_graph_Norm_r0_k) f H = thenC call it base (.region s_graph_Norm_r0t1 [] s_graph_Norm_r0_k) (opsC [] s_graph_Norm_r0p0 [0, 2, 3, 4, 5, 6, 7, 8, 9, 10, 11, 12, 13, 14, 15, 16, 17, 18, 19, 20, 21, 22, 23, 24, 25, 26, 27, 28, 29] (evOps call base [⟨some 1, (.box (.t 0)), none⟩] f H)) := (row_op call it base s_graph_Norm_r0p0 s_graph_Norm_r0t1 (kc := [0, 2, 3, 4, 5, 6, 7, 8, 9, 10, 11, 12, 13, 14, 15, 16, 17, 18, 19, 20, 21, 22, 23, 24, 25, 26, 27, 28, 29]) (by kernel_rfl) f H).trans (by rw [row_ops]; rfl)
theorem s_graph_Norm_r0t1_tale (fr : List V) (H : Heap) : evTale (symAll s_graph_Norm_r0t1 s_graph_Norm_r0_k []) s_graph_Norm_r0_k fr H = evTale (some (3, [], [])) s_graph_Norm_r0_k fr H := tale_row (items := [.cc (.s (.slice none 0 0))]) (by kernel_rfl) fr H
theorem s_graph_Norm_r0t1_x (call : CallF) (it : IterF) (base : Nat) (f : List V) (H : Heap) : evC call it base (.region s_graph_Norm_r0t1 [] s_graph_Norm_r0_k) f H = segL H (evTale (symAll s_graph_Norm_r0t1 s_graph_Norm_r0_k []) s_graph_Norm_r0_k f H) (origRow call it base s_graph_Norm_r0t1 s_graph_Norm_r0_k f H) := row_last call it base _ f H
def s_graph_Norm_r1t2 : List AOper := [⟨some 3, (.move (.t 9)), none⟩]
def s_graph_Norm_r1p1 : List AOper := [⟨some 9, (.mkSl [(.s (.slice none 0 0))] 1 24 (.t 8) (.t 8)), none⟩]
def s_graph_Norm_r1t1 : List AOper := s_graph_Norm_r1p1 ++ s_graph_Norm_r1t2
def s_graph_Norm_r1p0 : List AOper := [⟨some 7, (.load false 1 (.t 1)), none⟩, ⟨some 8, (.lenS .s (.t 7)), none⟩]
def s_graph_Norm_r1 : List AOper := s_graph_Norm_r1p0 ++ s_graph_Norm_r1t1
theorem s_graph_Norm_r1p0_tale (fr : List V) (H : Heap) : evTale (symAll s_graph_Norm_r1p0 [7] [8]) [7] fr H = evTale (some (9, [], [(8, (.op (.lenS .s (.t 0)) [(.op (.load false 1 (.t 0)) [(.t 1)])]))])) [7] fr H := tale_row (items := [.sub 0 [0] [], .sub 0 [] []]) (by kernel_rfl) fr H
theorem s_graph_Norm_r1_x (call : CallF) (it : IterF) (base : Nat) (f : List V) (H : Heap) : evC call it base (.region s_graph_Norm_r1 [] [7, 8, 9]) f H = segC call it base s_graph_Norm_r1t1 [7, 8, 9] H (evTale (symAll s_graph_Norm_r1p0 [7] [8]) [7] f H) (origRow call it base s_graph_Norm_r1 [7, 8, 9] f H) := row_seg call it base s_graph_Norm_r1p0 s_graph_Norm_r1t1 (by kernel_rfl) f H
theorem s_graph_Norm_r1t1_x (call : CallF) (it : IterF) (base : Nat) (f : List V) (H : Heap) : evC call it base (.region s_graph_Norm_r1t1 [] [7, 8, 9]) f H = thenC call it base (.region s_graph_Norm_r1t2 [] [7, 8, 9]) (opsC [] s_graph_Norm_r1p1 [8] (evOps call base [⟨some 9, (.mkSl [(.s (.slice none 0 0))] 1 24 (.t 8) (.t 8)), none⟩] f H)) := (row_op call it base s_graph_Norm_r1p1 s_graph_Norm_r1t2 (kc := [8]) (by kernel_rfl) f H).trans (by rw [row_ops]; rfl)
theorem s_graph_Norm_r1t2_tale (fr : List V) (H : Heap) : evTale (symAll s_graph_Norm_r1t2 [7, 8, 9] [3]) [7, 8, 9] fr H = evTale (some (4, [], [(3, (.t 9))])) [7, 8, 9] fr H := tale_row (items := [.tt 9]) (by kernel_rfl) fr H
theorem s_graph_Norm_r1t2_x (call : CallF) (it : IterF) (base : Nat) (f : List V) (H : Heap) : evC call it base (.region s_graph_Norm_r1t2 [] [7, 8, 9]) f H = segL H (evTale (symAll s_graph_Norm_r1t2 [7, 8, 9] [3]) [7, 8, 9] f H) (origRow call it base s_graph_Norm_r1t2 [7, 8, 9] f H) := row_last call it base _ f H
def s_graph_Norm_r2 : List AOper := [
  ⟨some 10, (.load false 1 (.t 1)), none⟩,
  ⟨some 11, (.lenS .s (.t 10)), none⟩,
  ⟨some 12, (.move (.c (.s (.int .i64 0)))), none⟩]
theorem s_graph_Norm_r2_tale (fr : List V) (H : Heap) : evTale (symAll s_graph_Norm_r2 [] [10, 11, 12]) [] fr H = evTale (some (13, [], [(10, (.op (.load false 1 (.t 0)) [(.t 1)])), (11, (.op (.lenS .s (.t 0)) [(.op (.load false 1 (.t 0)) [(.t 1)])])), (12, (.c (.s (.int .i64 0))))])) [] fr H := tale_row (items := [.sub 0 [] [], .sub 1 [] [], .cc (.s (.int .i64 0))]) (by kernel_rfl) fr H
def s_graph_Norm_r3 : List AOper := [
  ⟨some 13, (.bin .lss (.t 12) (.t 11)), none⟩]
theorem s_graph_Norm_r3_tale (fr : List V) (H : Heap) : evTale (symAll s_graph_Norm_r3 [] [13]) [] fr H = evTale (some (14, [], [(13, (.op (.bin .lss (.t 0) (.t 1)) [(.t 12), (.t 11)]))])) [] fr H := tale_row (items := [.sub 0 [] []]) (by kernel_rfl) fr H
def s_graph_Norm_r4 : List AOper := [
  ⟨some 14, (.move (.t 12)), none⟩,
  ⟨some 15, (.indexAddr 1 (.t 10) (.t 12)), none⟩,
  ⟨some 16, (.load false 1 (.t 15)), none⟩,
  ⟨some 4, (.move (.t 14)), none⟩,
  ⟨some 5, (.move (.t 16)), none⟩]
theorem s_graph_Norm_r4_tale (fr : List V) (H : Heap) : evTale (symAll s_graph_Norm_r4 [13, 14, 15, 16] [4, 5]) [13, 14, 15, 16] fr H = evTale (some (17, [], [(4, (.t 12)), (5, (.op (.load false 1 (.t 0)) [(.op (.indexAddr 1 (.t 0) (.t 1)) [(.t 10), (.t 12)])]))])) [13, 14, 15, 16] fr H := tale_row (items := [.tt 12, .sub 1 [0] [], .sub 1 [] [], .tt 12, .sub 1 [] []]) (by kernel_rfl) fr H
def s_graph_Norm_r5t4 : List AOper := [⟨some 6, (.move (.t 20)), none⟩]
def s_graph_Norm_r5p3 : List AOper := [⟨some 20, (.call (.c (.fn 26 [] [])) [(.t 18), (.t 19)]), none⟩]
def s_graph_Norm_r5t3 : List AOper := s_graph_Norm_r5p3 ++ s_graph_Norm_r5t4
def s_graph_Norm_r5p2 : List AOper := [⟨some 19, (.mkFn 28 [] [(.t 1)]), none⟩]
def s_graph_Norm_r5t2 : List AOper := s_graph_Norm_r5p2 ++ s_graph_Norm_r5t3
def s_graph_Norm_r5p1 : List AOper := [⟨some 18, (.call (.c (.fn 27 [] [])) [(.t 17)]), none⟩]
def s_graph_Norm_r5t1 : List AOper := s_graph_Norm_r5p1 ++ s_graph_Norm_r5t2
def s_graph_Norm_r5p0 : List AOper := [⟨some 17, (.move (.t 5)), none⟩]
def s_graph_Norm_r5 : List AOper := s_graph_Norm_r5p0 ++ s_graph_Norm_r5t1
theorem s_graph_Norm_r5p0_tale (fr : List V) (H : Heap) : evTale (symAll s_graph_Norm_r5p0 [5] [17]) [5] fr H = evTale (some (18, [], [(17, (.t 5))])) [5] fr H := tale_row (items := [.tt 5]) (by kernel_rfl) fr H
theorem s_graph_Norm_r5_x (call : CallF) (it : IterF) (base : Nat) (f : List V) (H : Heap) : evC call it base (.region s_graph_Norm_r5 [] [5, 17, 18, 19, 20]) f H = segC call it base s_graph_Norm_r5t1 [5, 17, 18, 19, 20] H (evTale (symAll s_graph_Norm_r5p0 [5] [17]) [5] f H) (origRow call it base s_graph_Norm_r5 [5, 17, 18, 19, 20] f H) := row_seg call it base s_graph_Norm_r5p0 s_graph_Norm_r5t1 (by kernel_rfl) f H
theorem s_graph_Norm_r5t1_x (call : CallF) (it : IterF) (base : Nat) (f : List V) (H : Heap) : evC call it base (.region s_graph_Norm_r5t1 [] [5, 17, 18, 19, 20]) f H = thenC call it base (.region s_graph_Norm_r5t2 [] [5, 17, 18, 19, 20]) (opsC [] s_graph_Norm_r5p1 [17] (evOps call base [⟨some 18, (.call (.c (.fn 27 [] [])) [(.t 17)]), none⟩] f H)) := (row_op call it base s_graph_Norm_r5p1 s_graph_Norm_r5t2 (kc := [17]) (by kernel_rfl) f H).trans (by rw [row_ops]; rfl)
theorem s_graph_Norm_r5p2_tale (fr : List V) (H : Heap) : evTale (symAll s_graph_Norm_r5p2 [] [19]) [] fr H = evTale (some (20, [], [(19, (.op (.mkFn 28 [] [(.t 0)]) [(.t 1)]))])) [] fr H := tale_row (items := [.sub 0 [] []]) (by kernel_rfl) fr H
theorem s_graph_Norm_r5t2_x (call : CallF) (it : IterF) (base : Nat) (f : List V) (H : Heap) : evC call it base (.region s_graph_Norm_r5t2 [] [5, 17, 18, 19, 20]) f H = segC call it base s_graph_Norm_r5t3 [5, 17, 18, 19, 20] H (evTale (symAll s_graph_Norm_r5p2 [] [19]) [] f H) (origRow call it base s_graph_Norm_r5t2 [5, 17, 18, 19, 20] f H) := row_seg call it base s_graph_Norm_r5p2 s_graph_Norm_r5t3 (by kernel_rfl) f H
theorem s_graph_Norm_r5t3_x (call : CallF) (it : IterF) (base : Nat) (f : List V) (H : Heap) : evC call it base (.region s_graph_Norm_r5t3 [] [5, 17, 18, 19, 20]) f H = thenC call it base (.region s_graph_Norm_r5t4 [] [5, 17, 18, 19, 20]) (opsC [] s_graph_Norm_r5p3 [18, 19] (evOps call base [⟨some 20, (.call (.c (.fn 26 [] [])) [(.t 18), (.t 19)]), none⟩] f H)) := (row_op call it base s_graph_Norm_r5p3 s_graph_Norm_r5t4 (kc := [18, 19]) (by kernel_rfl) f H).trans (by rw [row_ops]; rfl)
theorem s_graph_Norm_r5t4_tale (fr : List V) (H : Heap) : evTale (symAll s_graph_Norm_r5t4 [5, 17, 18, 19, 20] [6]) [5, 17, 18, 19, 20] fr H = evTale (some (7, [], [(6, (.t 20))])) [5, 17, 18, 19, 20] fr H := tale_row (items := [.tt 20]) (by kernel_rfl) fr H
theorem s_graph_Norm_r5t4_x (call : CallF) (it : IterF) (base : Nat) (f : List V) (H : Heap) : evC call it base (.region s_graph_Norm_r5t4 [] [5, 17, 18, 19, 20]) f H = segL H (evTale (symAll s_graph_Norm_r5t4 [5, 17, 18, 19, 20] [6]) [5, 17, 18, 19, 20] f H) (origRow call it base s_graph_Norm_r5t4 [5, 17, 18, 19, 20] f H) := row_last call it base _ f H
def s_graph_Norm_r6t1 : List AOper := [⟨some 22, (.call (.c (.fn 29 [] [])) [(.t 21)]), none⟩]
def s_graph_Norm_r6p0 : List AOper := [⟨some 21, (.move (.t 6)), none⟩]
def s_graph_Norm_r6 : List AOper := s_graph_Norm_r6p0 ++ s_graph_Norm_r6t1
theorem s_graph_Norm_r6p0_tale (fr : List V) (H : Heap) : evTale (symAll s_graph_Norm_r6p0 [] [21]) [] fr H = evTale (some (22, [], [(21, (.t 6))])) [] fr H := tale_row (items := [.tt 6]) (by kernel_rfl) fr H
theorem s_graph_Norm_r6_x (call : CallF) (it : IterF) (base : Nat) (f : List V) (H : Heap) : evC call it base (.region s_graph_Norm_r6 [] [21, 22]) f H = segC call it base s_graph_Norm_r6t1 [21, 22] H (evTale (symAll s_graph_Norm_r6p0 [] [21]) [] f H) (origRow call it base s_graph_Norm_r6 [21, 22] f H) := row_seg call it base s_graph_Norm_r6p0 s_graph_Norm_r6t1 (by kernel_rfl) f H
theorem s_graph_Norm_r6t1_x (call : CallF) (it : IterF) (base : Nat) (f : List V) (H : Heap) : evC call it base (.region s_graph_Norm_r6t1 [] [21, 22]) f H = opsC [] s_graph_Norm_r6t1 [21, 22] (evOps call base [⟨some 22, (.call (.c (.fn 29 [] [])) [(.t 21)]), none⟩] f H) := row_ops call it base _ _ _ f H
def s_graph_Norm_r7t3 : List AOper := [⟨none, (.store 1 (.t 27) (.t 26)), none⟩]
def s_graph_Norm_r7p2 : List AOper := [⟨some 27, (.indexAddr 1 (.t 23) (.t 24)), none⟩]
def s_graph_Norm_r7t2 : List AOper := s_graph_Norm_r7p2 ++ s_graph_Norm_r7t3
def s_graph_Norm_r7p1 : List AOper := [⟨some 26, (.call (.c (.fn 30 [] [])) [(.t 25)]), none⟩]
def s_graph_Norm_r7t1 : List AOper := s_graph_Norm_r7p1 ++ s_graph_Norm_r7t2
def s_graph_Norm_r7p0 : List AOper := [⟨some 23, (.move (.t 3)), none⟩, ⟨some 24, (.move (.t 4)), none⟩, ⟨some 25, (.move (.t 6)), none⟩]
def s_graph_Norm_r7 : List AOper := s_graph_Norm_r7p0 ++ s_graph_Norm_r7t1
theorem s_graph_Norm_r7p0_tale (fr : List V) (H : Heap) : evTale (symAll s_graph_Norm_r7p0 [4, 6] [23, 24, 25]) [4, 6] fr H = evTale (some (26, [], [(23, (.t 3)), (24, (.t 4)), (25, (.t 6))])) [4, 6] fr H := tale_row (items := [.tt 3, .tt 4, .tt 6]) (by kernel_rfl) fr H
theorem s_graph_Norm_r7_x (call : CallF) (it : IterF) (base : Nat) (f : List V) (H : Heap) : evC call it base (.region s_graph_Norm_r7 [] [4, 6, 23, 24, 25, 26, 27]) f H = segC call it base s_graph_Norm_r7t1 [4, 6, 23, 24, 25, 26, 27] H (evTale (symAll s_graph_Norm_r7p0 [4, 6] [23, 24, 25]) [4, 6] f H) (origRow call it base s_graph_Norm_r7 [4, 6, 23, 24, 25, 26, 27] f H) := row_seg call it base s_graph_Norm_r7p0 s_graph_Norm_r7t1 (by kernel_rfl) f H
theorem s_graph_Norm_r7t1_x (call : CallF) (it : IterF) (base : Nat) (f : List V) (H : Heap) : evC call it base (.region s_graph_Norm_r7t1 [] [4, 6, 23, 24, 25, 26, 27]) f H = thenC call it base (.region s_graph_Norm_r7t2 [] [4, 6, 23, 24, 25, 26, 27]) (opsC [] s_graph_Norm_r7p1 [25] (evOps call base [⟨some 26, (.call (.c (.fn 30 [] [])) [(.t 25)]), none⟩] f H)) := (row_op call it base s_graph_Norm_r7p1 s_graph_Norm_r7t2 (kc := [25]) (by kernel_rfl) f H).trans (by rw [row_ops]; rfl)
theorem s_graph_Norm_r7p2_tale (fr : List V) (H : Heap) : evTale (symAll s_graph_Norm_r7p2 [23, 24] [27]) [23, 24] fr H = evTale (some (28, [], [(27, (.op (.indexAddr 1 (.t 0) (.t 1)) [(.t 23), (.t 24)]))])) [23, 24] fr H := tale_row (items := [.sub 0 [] []]) (by kernel_rfl) fr H
theorem s_graph_Norm_r7t2_x (call : CallF) (it : IterF) (base : Nat) (f : List V) (H : Heap) : evC call it base (.region s_graph_Norm_r7t2 [] [4, 6, 23, 24, 25, 26, 27]) f H = segC call it base s_graph_Norm_r7t3 [4, 6, 23, 24, 25, 26, 27] H (evTale (symAll s_graph_Norm_r7p2 [23, 24] [27]) [23, 24] f H) (origRow call it base s_graph_Norm_r7t2 [4, 6, 23, 24, 25, 26, 27] f H) := row_seg call it base s_graph_Norm_r7p2 s_graph_Norm_r7t3 (by kernel_rfl) f H
theorem s_graph_Norm_r7t3_x (call : CallF) (it : IterF) (base : Nat) (f : List V) (H : Heap) : evC call it base (.region s_graph_Norm_r7t3 [] [4, 6, 23, 24, 25, 26, 27]) f H = opsC [] s_graph_Norm_r7t3 [4, 6, 23, 24, 25, 26, 27] (evOps call base [⟨none, (.store 1 (.t 27) (.t 26)), none⟩] f H) := row_ops call it base _ _ _ f H
def s_graph_Norm_r8 : List AOper := [
  ⟨some 28, (.bin .add (.t 12) (.c (.s (.int .i64 1)))), none⟩,
  ⟨some 12, (.move (.t 28)), none⟩]
theorem s_graph_Norm_r8_tale (fr : List V) (H : Heap) : evTale (symAll s_graph_Norm_r8 [28] [12]) [28] fr H = evTale (some (29, [], [(12, (.op (.bin .add (.t 0) (.c (.s (.int .i64 1)))) [(.t 12), (.c (.s (.int .i64 1)))]))])) [28] fr H := tale_row (items := [.sub 0 [] [], .sub 0 [] []]) (by kernel_rfl) fr H
def s_graph_Norm_l0_b : ACode :=
  (.seq (.regionE s_graph_Norm_r3 [] [13])
  (.seq (.cond (.t 13)
  .skip
  (.exit 0))
  (.seq (.block 1
  (.seq (.regionE s_graph_Norm_r4 [13, 14, 15, 16] [4, 5])
  (.seq (.region s_graph_Norm_r5 [] [5, 17, 18, 19, 20])
  (.seq (.region s_graph_Norm_r6 [] [21, 22])
  (.region s_graph_Norm_r7 [] [4, 6, 23, 24, 25, 26, 27])))))
  (.regionE s_graph_Norm_r8 [28] [12]))))
def s_graph_Norm_l0 : ACode := s_graph_Norm_l0_b
theorem s_graph_Norm_l0_ev (call : CallF) (it : IterF) (base : Nat) (fr : List V) (H : Heap) : evC call it base s_graph_Norm_l0 fr H = evC call it base s_graph_Norm_l0_b fr H := rfl
def s_graph_Norm_r9 : List AOper := [
  ⟨some 29, (.move (.t 3)), none⟩,
  ⟨some 2, (.move (.t 29)), none⟩]
theorem s_graph_Norm_r9_tale (fr : List V) (H : Heap) : evTale (symAll s_graph_Norm_r9 [1, 3, 10, 11, 12, 13, 29] [2]) [1, 3, 10, 11, 12, 13, 29] fr H = evTale (some (30, [], [(2, (.t 3))])) [1, 3, 10, 11, 12, 13, 29] fr H := tale_row (items := [.tt 3, .tt 3]) (by kernel_rfl) fr H
def s_graph_Norm : ACFun := { ntmps := 30, results := [(.tmp 2)], body :=
  (.seq (.region s_graph_Norm_r0 [] s_graph_Norm_r0_k)
  (.seq (.region s_graph_Norm_r1 [] [7, 8, 9])
  (.seq (.seq (.regionE s_graph_Norm_r2 [] [10, 11, 12])
  (.block 0
  (.loop [] s_graph_Norm_l0)))
  (.seq (.regionE s_graph_Norm_r9 [1, 3, 10, 11, 12, 13, 29] [2])
  .ret)))) }
theorem s_graph_Norm_first : firstOk (List.range' 1 (s_graph_Norm.ntmps - 1)) s_graph_Norm.body = true := by kernel_rfl
/- 13 gnomon/graph.Back -/
abbrev k_graph_Back : Nat := 13
def s_graph_Back_r0_k : List Nat := [1, 2, 3, 4, 5, 6, 7, 8, 9, 10, 11, 12, 13, 14, 15, 16, 17, 18, 19, 20, 21, 22, 23, 24, 25, 26, 27, 28, 29, 30, 31, 32, 33, 34, 35, 36, 37]
theorem s_graph_Back_r0_kT : killV s_graph_Back_r0_k (startV 38 [] 1) = [] := by kernel_rfl
theorem s_graph_Back_r0_kA0 : s_graph_Back_r0_k.contains 0 = false := by kernel_rfl
def s_graph_Back_r0 : List AOper := [
  ⟨some 2, (.move (.c (.s (.slice none 0 0)))), none⟩]
theorem s_graph_Back_r0_tale (fr : List V) (H : Heap) : evTale (symAll s_graph_Back_r0 s_graph_Back_r0_k []) s_graph_Back_r0_k fr H = evTale (some (3, [], [])) s_graph_Back_r0_k fr H := tale_row (items := [.cc (.s (.slice none 0 0))]) (by kernel_rfl) fr H
def s_graph_Back_r1t2 : List AOper := [⟨some 3, (.move (.t 10)), none⟩]
def s_graph_Back_r1p1 : List AOper := [⟨some 10, (.mkSl [(.s (.slice none 0 0))] 1 24 (.t 9) (.t 9)), none⟩]
def s_graph_Back_r1t1 : List AOper := s_graph_Back_r1p1 ++ s_graph_Back_r1t2
def s_graph_Back_r1p0 : List AOper := [⟨some 8, (.move (.t 0)), none⟩, ⟨some 9, (.lenS .s (.t 8)), none⟩]
def s_graph_Back_r1 : List AOper := s_graph_Back_r1p0 ++ s_graph_Back_r1t1
theorem s_graph_Back_r1p0_tale (fr : List V) (H : Heap) : evTale (symAll s_graph_Back_r1p0 [8] [9]) [8] fr H = evTale (some (10, [], [(9, (.op (.lenS .s (.t 0)) [(.t 0)]))])) [8] fr H := tale_row (items := [.tt 0, .sub 0 [] []]) (by kernel_rfl) fr H
theorem s_graph_Back_r1_x (call : CallF) (it : IterF) (base : Nat) (f : List V) (H : Heap) : evC call it base (.region s_graph_Back_r1 [] [8, 9, 10]) f H = segC call it base s_graph_Back_r1t1 [8, 9, 10] H (evTale (symAll s_graph_Back_r1p0 [8] [9]) [8] f H) (origRow call it base s_graph_Back_r1 [8, 9, 10] f H) := row_seg call it base s_graph_Back_r1p0 s_graph_Back_r1t1 (by kernel_rfl) f H
theorem s_graph_Back_r1t1_x (call : CallF) (it : IterF) (base : Nat) (f : List V) (H : Heap) : evC call it base (.region s_graph_Back_r1t1 [] [8, 9, 10]) f H = thenC call it base (.region s_graph_Back_r1t2 [] [8, 9, 10]) (opsC [] s_graph_Back_r1p1 [9] (evOps call base [⟨some 10, (.mkSl [(.s (.slice none 0 0))] 1 24 (.t 9) (.t 9)), none⟩] f H)) := (row_op call it base s_graph_Back_r1p1 s_graph_Back_r1t2 (kc := [9]) (by kernel_rfl) f H).trans (by rw [row_ops]; rfl)
theorem s_graph_Back_r1t2_tale (fr : List V) (H : Heap) : evTale (symAll s_graph_Back_r1t2 [8, 9, 10] [3]) [8, 9, 10] fr H = evTale (some (4, [], [(3, (.t 10))])) [8, 9, 10] fr H := tale_row (items := [.tt 10]) (by kernel_rfl) fr H
theorem s_graph_Back_r1t2_x (call : CallF) (it : IterF) (base : Nat) (f : List V) (H : Heap) : evC call it base (.region s_graph_Back_r1t2 [] [8, 9, 10]) f H = segL H (evTale (symAll s_graph_Back_r1t2 [8, 9, 10] [3]) [8, 9, 10] f H) (origRow call it base s_graph_Back_r1t2 [8, 9, 10] f H) := row_last call it base _ f H
def s_graph_Back_r2t2 : List AOper := [⟨some 13, (.lenS .s (.t 12)), none⟩, ⟨some 14, (.move (.c (.s (.int .i64 0)))), none⟩]
def s_graph_Back_r2p1 : List AOper := [⟨some 12, (.call (.c (.fn 12 [] [])) [(.t 11)]), none⟩]
def s_graph_Back_r2t1 : List AOper := s_graph_Back_r2p1 ++ s_graph_Back_r2t2
def s_graph_Back_r2p0 : List AOper := [⟨some 11, (.move (.t 0)), none⟩]
def s_graph_Back_r2 : List AOper := s_graph_Back_r2p0 ++ s_graph_Back_r2t1
theorem s_graph_Back_r2p0_tale (fr : List V) (H : Heap) : evTale (symAll s_graph_Back_r2p0 [0] [11]) [0] fr H = evTale (some (12, [], [(11, (.t 0))])) [0] fr H := tale_row (items := [.tt 0]) (by kernel_rfl) fr H
theorem s_graph_Back_r2_x (call : CallF) (it : IterF) (base : Nat) (f : List V) (H : Heap) : evC call it base (.region s_graph_Back_r2 [] [0, 11]) f H = segC call it base s_graph_Back_r2t1 [0, 11] H (evTale (symAll s_graph_Back_r2p0 [0] [11]) [0] f H) (origRow call it base s_graph_Back_r2 [0, 11] f H) := row_seg call it base s_graph_Back_r2p0 s_graph_Back_r2t1 (by kernel_rfl) f H
theorem s_graph_Back_r2t1_x (call : CallF) (it : IterF) (base : Nat) (f : List V) (H : Heap) : evC call it base (.region s_graph_Back_r2t1 [] [0, 11]) f H = thenC call it base (.region s_graph_Back_r2t2 [] [0, 11]) (opsC [] s_graph_Back_r2p1 [11] (evOps call base [⟨some 12, (.call (.c (.fn 12 [] [])) [(.t 11)]), none⟩] f H)) := (row_op call it base s_graph_Back_r2p1 s_graph_Back_r2t2 (kc := [11]) (by kernel_rfl) f H).trans (by rw [row_ops]; rfl)
theorem s_graph_Back_r2t2_tale (fr : List V) (H : Heap) : evTale (symAll s_graph_Back_r2t2 [0, 11] [13, 14]) [0, 11] fr H = evTale (some (15, [], [(13, (.op (.lenS .s (.t 0)) [(.t 12)])), (14, (.c (.s (.int .i64 0))))])) [0, 11] fr H := tale_row (items := [.sub 0 [] [], .cc (.s (.int .i64 0))]) (by kernel_rfl) fr H
theorem s_graph_Back_r2t2_x (call : CallF) (it : IterF) (base : Nat) (f : List V) (H : Heap) : evC call it base (.region s_graph_Back_r2t2 [] [0, 11]) f H = segL H (evTale (symAll s_graph_Back_r2t2 [0, 11] [13, 14]) [0, 11] f H) (origRow call it base s_graph_Back_r2t2 [0, 11] f H) := row_last call it base _ f H
def s_graph_Back_r3 : List AOper := [
  ⟨some 15, (.bin .lss (.t 14) (.t 13)), none⟩]
theorem s_graph_Back_r3_tale (fr : List V) (H : Heap) : evTale (symAll s_graph_Back_r3 [] [15]) [] fr H = evTale (some (16, [], [(15, (.op (.bin .lss (.t 0) (.t 1)) [(.t 14), (.t 13)]))])) [] fr H := tale_row (items := [.sub 0 [] []]) (by kernel_rfl) fr H
def s_graph_Back_r4 : List AOper := [
  ⟨some 16, (.move (.t 14)), none⟩,
  ⟨some 17, (.indexAddr 1 (.t 12) (.t 14)), none⟩,
  ⟨some 18, (.load false 1 (.t 17)), none⟩,
  ⟨some 4, (.move (.t 16)), none⟩,
  ⟨some 5, (.move (.t 18)), none⟩]
theorem s_graph_Back_r4_tale (fr : List V) (H : Heap) : evTale (symAll s_graph_Back_r4 [15, 16, 17, 18] [4, 5]) [15, 16, 17, 18] fr H = evTale (some (19, [], [(4, (.t 14)), (5, (.op (.load false 1 (.t 0)) [(.op (.indexAddr 1 (.t 0) (.t 1)) [(.t 12), (.t 14)])]))])) [15, 16, 17, 18] fr H := tale_row (items := [.tt 14, .sub 1 [0] [], .sub 1 [] [], .tt 14, .sub 1 [] []]) (by kernel_rfl) fr H
def s_graph_Back_r5 : List AOper := [
  ⟨some 19, (.move (.t 5)), none⟩,
  ⟨some 20, (.lenS .s (.t 19)), none⟩,
  ⟨some 21, (.move (.c (.s (.int .i64 0)))), none⟩]
theorem s_graph_Back_r5_tale (fr : List V) (H : Heap) : evTale (symAll s_graph_Back_r5 [5] [19, 20, 21]) [5] fr H = evTale (some (22, [], [(19, (.t 5)), (20, (.op (.lenS .s (.t 0)) [(.t 5)])), (21, (.c (.s (.int .i64 0))))])) [5] fr H := tale_row (items := [.tt 5, .sub 1 [] [], .cc (.s (.int .i64 0))]) (by kernel_rfl) fr H
def s_graph_Back_r6 : List AOper := [
  ⟨some 22, (.bin .lss (.t 21) (.t 20)), none⟩]
theorem s_graph_Back_r6_tale (fr : List V) (H : Heap) : evTale (symAll s_graph_Back_r6 [] [22]) [] fr H = evTale (some (23, [], [(22, (.op (.bin .lss (.t 0) (.t 1)) [(.t 21), (.t 20)]))])) [] fr H := tale_row (items := [.sub 0 [] []]) (by kernel_rfl) fr H
def s_graph_Back_r7 : List AOper := [
  ⟨some 23, (.indexAddr 1 (.t 19) (.t 21)), none⟩,
  ⟨some 24, (.load false 1 (.t 23)), none⟩,
  ⟨some 7, (.move (.t 24)), none⟩]
theorem s_graph_Back_r7_tale (fr : List V) (H : Heap) : evTale (symAll s_graph_Back_r7 [22, 23, 24] [7]) [22, 23, 24] fr H = evTale (some (25, [], [(7, (.op (.load false 1 (.t 0)) [(.op (.indexAddr 1 (.t 0) (.t 1)) [(.t 19), (.t 21)])]))])) [22, 23, 24] fr H := tale_row (items := [.sub 0 [0] [], .sub 0 [] [], .sub 0 [] []]) (by kernel_rfl) fr H
def s_graph_Back_r8t4 : List AOper := [⟨none, (.store 1 (.t 34) (.t 33)), none⟩]
def s_graph_Back_r8p3 : List AOper := [⟨some 34, (.indexAddr 1 (.t 25) (.t 26)), none⟩]
def s_graph_Back_r8t3 : List AOper := s_graph_Back_r8p3 ++ s_graph_Back_r8t4
def s_graph_Back_r8p2 : List AOper := [⟨some 33, (.append 1 8 (.t 30) (.t 32)), none⟩]
def s_graph_Back_r8t2 : List AOper := s_graph_Back_r8p2 ++ s_graph_Back_r8t3
def s_graph_Back_r8p1 : List AOper := [⟨some 32, (.buildSl 1 1 [(.s (.int .i64 0))] [(0, (.t 31))]), none⟩]
def s_graph_Back_r8t1 : List AOper := s_graph_Back_r8p1 ++ s_graph_Back_r8t2
def s_graph_Back_r8p0 : List AOper := [⟨some 25, (.move (.t 3)), none⟩, ⟨some 26, (.move (.t 7)), none⟩, ⟨some 27, (.move (.t 3)), none⟩, ⟨some 28, (.move (.t 7)), none⟩, ⟨some 29, (.indexAddr 1 (.t 27) (.t 28)), none⟩, ⟨some 30, (.load false 1 (.t 29)), none⟩, ⟨some 31, (.move (.t 4)), none⟩]
def s_graph_Back_r8 : List AOper := s_graph_Back_r8p0 ++ s_graph_Back_r8t1
theorem s_graph_Back_r8p0_tale (fr : List V) (H : Heap) : evTale (symAll s_graph_Back_r8p0 [7, 27, 28, 29] [25, 26, 30, 31]) [7, 27, 28, 29] fr H = evTale (some (32, [], [(25, (.t 3)), (26, (.t 7)), (30, (.op (.load false 1 (.t 0)) [(.op (.indexAddr 1 (.t 0) (.t 1)) [(.t 3), (.t 7)])])), (31, (.t 4))])) [7, 27, 28, 29] fr H := tale_row (items := [.tt 3, .tt 7, .tt 3, .tt 7, .sub 2 [0] [], .sub 2 [] [], .tt 4]) (by kernel_rfl) fr H
theorem s_graph_Back_r8_x (call : CallF) (it : IterF) (base : Nat) (f : List V) (H : Heap) : evC call it base (.region s_graph_Back_r8 [] [7, 25, 26, 27, 28, 29, 30, 31, 32, 33, 34]) f H = segC call it base s_graph_Back_r8t1 [7, 25, 26, 27, 28, 29, 30, 31, 32, 33, 34] H (evTale (symAll s_graph_Back_r8p0 [7, 27, 28, 29] [25, 26, 30, 31]) [7, 27, 28, 29] f H) (origRow call it base s_graph_Back_r8 [7, 25, 26, 27, 28, 29, 30, 31, 32, 33, 34] f H) := row_seg call it base s_graph_Back_r8p0 s_graph_Back_r8t1 (by kernel_rfl) f H
theorem s_graph_Back_r8t1_x (call : CallF) (it : IterF) (base : Nat) (f : List V) (H : Heap) : evC call it base (.region s_graph_Back_r8t1 [] [7, 25, 26, 27, 28, 29, 30, 31, 32, 33, 34]) f H = thenC call it base (.region s_graph_Back_r8t2 [] [7, 25, 26, 27, 28, 29, 30, 31, 32, 33, 34]) (opsC [] s_graph_Back_r8p1 [31] (evOps call base [⟨some 32, (.buildSl 1 1 [(.s (.int .i64 0))] [(0, (.t 31))]), none⟩] f H)) := (row_op call it base s_graph_Back_r8p1 s_graph_Back_r8t2 (kc := [31]) (by kernel_rfl) f H).trans (by rw [row_ops]; rfl)
theorem s_graph_Back_r8t2_x (call : CallF) (it : IterF) (base : Nat) (f : List V) (H : Heap) : evC call it base (.region s_graph_Back_r8t2 [] [7, 25, 26, 27, 28, 29, 30, 31, 32, 33, 34]) f H = thenC call it base (.region s_graph_Back_r8t3 [] [7, 25, 26, 27, 28, 29, 30, 31, 32, 33, 34]) (opsC [] s_graph_Back_r8p2 [30, 32] (evOps call base [⟨some 33, (.append 1 8 (.t 30) (.t 32)), none⟩] f H)) := (row_op call it base s_graph_Back_r8p2 s_graph_Back_r8t3 (kc := [30, 32]) (by kernel_rfl) f H).trans (by rw [row_ops]; rfl)
theorem s_graph_Back_r8p3_tale (fr : List V) (H : Heap) : evTale (symAll s_graph_Back_r8p3 [25, 26] [34]) [25, 26] fr H = evTale (some (35, [], [(34, (.op (.indexAddr 1 (.t 0) (.t 1)) [(.t 25), (.t 26)]))])) [25, 26] fr H := tale_row (items := [.sub 0 [] []]) (by kernel_rfl) fr H
theorem s_graph_Back_r8t3_x (call : CallF) (it : IterF) (base : Nat) (f : List V) (H : Heap) : evC call it base (.region s_graph_Back_r8t3 [] [7, 25, 26, 27, 28, 29, 30, 31, 32, 33, 34]) f H = segC call it base s_graph_Back_r8t4 [7, 25, 26, 27, 28, 29, 30, 31, 32, 33, 34] H (evTale (symAll s_graph_Back_r8p3 [25, 26] [34]) [25, 26] f H) (origRow call it base s_graph_Back_r8t3 [7, 25, 26, 27, 28, 29, 30, 31, 32, 33, 34] f H) := row_seg call it base s_graph_Back_r8p3 s_graph_Back_r8t4 (by kernel_rfl) f H
theorem s_graph_Back_r8t4_x (call : CallF) (it : IterF) (base : Nat) (f : List V) (H : Heap) : evC call it base (.region s_graph_Back_r8t4 [] [7, 25, 26, 27, 28, 29, 30, 31, 32, 33, 34]) f H = opsC [] s_graph_Back_r8t4 [7, 25, 26, 27, 28, 29, 30, 31, 32, 33, 34] (evOps call base [⟨none, (.store 1 (.t 34) (.t 33)), none⟩] f H) := row_ops call it base _ _ _ f H
def s_graph_Back_r9 : List AOper := [
  ⟨some 35, (.bin .add (.t 21) (.c (.s (.int .i64 1)))), none⟩,
  ⟨some 21, (.move (.t 35)), none⟩]
theorem s_graph_Back_r9_tale (fr : List V) (H : Heap) : evTale (symAll s_graph_Back_r9 [35] [21]) [35] fr H = evTale (some (36, [], [(21, (.op (.bin .add (.t 0) (.c (.s (.int .i64 1)))) [(.t 21), (.c (.s (.int .i64 1)))]))])) [35] fr H := tale_row (items := [.sub 0 [] [], .sub 0 [] []]) (by kernel_rfl) fr H
def s_graph_Back_l0_b : ACode :=
  (.seq (.regionE s_graph_Back_r6 [] [22])
  (.seq (.cond (.t 22)
  .skip
  (.exit 2))
  (.seq (.block 3
  (.seq (.regionE s_graph_Back_r7 [22, 23, 24] [7])
  (.region s_graph_Back_r8 [] [7, 25, 26, 27, 28, 29, 30, 31, 32, 33, 34])))
  (.regionE s_graph_Back_r9 [35] [21]))))
def s_graph_Back_l0 : ACode := s_graph_Back_l0_b
theorem s_graph_Back_l0_ev (call : CallF) (it : IterF) (base : Nat) (fr : List V) (H : Heap) : evC call it base s_graph_Back_l0 fr H = evC call it base s_graph_Back_l0_b fr H := rfl
def s_graph_Back_r10 : List AOper := [
  ⟨some 36, (.bin .add (.t 14) (.c (.s (.int .i64 1)))), none⟩,
  ⟨some 14, (.move (.t 36)), none⟩]
theorem s_graph_Back_r10_tale (fr : List V) (H : Heap) : evTale (symAll s_graph_Back_r10 [4, 19, 20, 21, 22, 36] [14]) [4, 19, 20, 21, 22, 36] fr H = evTale (some (37, [], [(14, (.op (.bin .add (.t 0) (.c (.s (.int .i64 1)))) [(.t 14), (.c (.s (.int .i64 1)))]))])) [4, 19, 20, 21, 22, 36] fr H := tale_row (items := [.sub 0 [] [], .sub 0 [] []]) (by kernel_rfl) fr H
def s_graph_Back_l1_b : ACode :=
  (.seq (.regionE s_graph_Back_r3 [] [15])
  (.seq (.cond (.t 15)
  .skip
  (.exit 0))
  (.seq (.block 1
  (.seq (.regionE s_graph_Back_r4 [15, 16, 17, 18] [4, 5])
  (.seq (.regionE s_graph_Back_r5 [5] [19, 20, 21])
  (.block 2
  (.loop [] s_graph_Back_l0)))))
  (.regionE s_graph_Back_r10 [4, 19, 20, 21, 22, 36] [14]))))
def s_graph_Back_l1 : ACode := s_graph_Back_l1_b
theorem s_graph_Back_l1_ev (call : CallF) (it : IterF) (base : Nat) (fr : List V) (H : Heap) : evC call it base s_graph_Back_l1 fr H = evC call it base s_graph_Back_l1_b fr H := rfl
def s_graph_Back_r11 : List AOper := [
  ⟨some 37, (.move (.t 3)), none⟩,
  ⟨some 2, (.move (.t 37)), none⟩]
theorem s_graph_Back_r11_tale (fr : List V) (H : Heap) : evTale (symAll s_graph_Back_r11 [3, 12, 13, 14, 15, 37] [2]) [3, 12, 13, 14, 15, 37] fr H = evTale (some (38, [], [(2, (.t 3))])) [3, 12, 13, 14, 15, 37] fr H := tale_row (items := [.tt 3, .tt 3]) (by kernel_rfl) fr H
def s_graph_Back : ACFun := { ntmps := 38, results := [(.tmp 2)], body :=
  (.seq (.regionE s_graph_Back_r0 s_graph_Back_r0_k [])
  (.seq (.region s_graph_Back_r1 [] [8, 9, 10])
  (.seq (.seq (.region s_graph_Back_r2 [] [0, 11])
  (.block 0
  (.loop [] s_graph_Back_l1)))
  (.seq (.regionE s_graph_Back_r11 [3, 12, 13, 14, 15, 37] [2])
  .ret)))) }
/- 14 gnomon/gnomonref07.Same -/
abbrev k_gnomonref07_Same : Nat := 14
def s_gnomonref07_Same_r0_k : List Nat := [2, 3, 4, 5, 6, 7, 8, 9, 10, 11, 12, 13, 14, 15, 16, 17, 18, 19, 20, 21, 22, 23, 24, 25, 26]
theorem s_gnomonref07_Same_r0_kT : killV s_gnomonref07_Same_r0_k (startV 27 [] 2) = [] := by kernel_rfl
theorem s_gnomonref07_Same_r0_kA0 : s_gnomonref07_Same_r0_k.contains 0 = false := by kernel_rfl
theorem s_gnomonref07_Same_r0_kA1 : s_gnomonref07_Same_r0_k.contains 1 = false := by kernel_rfl
def s_gnomonref07_Same_r0 : List AOper := [
  ⟨some 4, (.move (.c (.s (.bool false)))), none⟩]
theorem s_gnomonref07_Same_r0_tale (fr : List V) (H : Heap) : evTale (symAll s_gnomonref07_Same_r0 s_gnomonref07_Same_r0_k []) s_gnomonref07_Same_r0_k fr H = evTale (some (5, [], [])) s_gnomonref07_Same_r0_k fr H := tale_row (items := [.cc (.s (.bool false))]) (by kernel_rfl) fr H
def s_gnomonref07_Same_r1 : List AOper := [
  ⟨some 6, (.move (.t 0)), none⟩,
  ⟨some 7, (.lenS .s (.t 6)), none⟩,
  ⟨some 8, (.move (.t 1)), none⟩,
  ⟨some 9, (.lenS .s (.t 8)), none⟩,
  ⟨some 10, (.bin .neq (.t 7) (.t 9)), none⟩]
theorem s_gnomonref07_Same_r1_tale (fr : List V) (H : Heap) : evTale (symAll s_gnomonref07_Same_r1 [6, 7, 8, 9] [10]) [6, 7, 8, 9] fr H = evTale (some (11, [], [(10, (.op (.bin .neq (.t 0) (.t 1)) [(.op (.lenS .s (.t 0)) [(.t 0)]), (.op (.lenS .s (.t 0)) [(.t 1)])]))])) [6, 7, 8, 9] fr H := tale_row (items := [.tt 0, .sub 0 [0] [], .tt 1, .sub 0 [1] [], .sub 0 [] []]) (by kernel_rfl) fr H
def s_gnomonref07_Same_r2 : List AOper := [
  ⟨some 4, (.move (.c (.s (.bool false)))), none⟩]
theorem s_gnomonref07_Same_r2_tale (fr : List V) (H : Heap) : evTale (symAll s_gnomonref07_Same_r2 [0, 1, 10] [4]) [0, 1, 10] fr H = evTale (some (5, [], [(4, (.c (.s (.bool false))))])) [0, 1, 10] fr H := tale_row (items := [.cc (.s (.bool false))]) (by kernel_rfl) fr H
def s_gnomonref07_Same_r3 : List AOper := [
  ⟨some 5, (.move (.c (.s (.int .i64 0)))), none⟩]
theorem s_gnomonref07_Same_r3_tale (fr : List V) (H : Heap) : evTale (symAll s_gnomonref07_Same_r3 [10] [5]) [10] fr H = evTale (some (6, [], [(5, (.c (.s (.int .i64 0))))])) [10] fr H := tale_row (items := [.cc (.s (.int .i64 0))]) (by kernel_rfl) fr H
def s_gnomonref07_Same_r4 : List AOper := [
  ⟨some 11, (.move (.t 5)), none⟩,
  ⟨some 12, (.move (.t 0)), none⟩,
  ⟨some 13, (.lenS .s (.t 12)), none⟩,
  ⟨some 14, (.bin .lss (.t 11) (.t 13)), none⟩]
theorem s_gnomonref07_Same_r4_tale (fr : List V) (H : Heap) : evTale (symAll s_gnomonref07_Same_r4 [11, 12, 13] [14]) [11, 12, 13] fr H = evTale (some (15, [], [(14, (.op (.bin .lss (.t 0) (.t 1)) [(.t 5), (.op (.lenS .s (.t 0)) [(.t 0)])]))])) [11, 12, 13] fr H := tale_row (items := [.tt 5, .tt 0, .sub 0 [1] [], .sub 0 [] []]) (by kernel_rfl) fr H
def s_gnomonref07_Same_r5t2 : List AOper := [⟨some 26, (.un .not (.t 25)), none⟩]
def s_gnomonref07_Same_r5p1 : List AOper := [⟨some 25, (.call (.c (.fn 22 [] [])) [(.t 20), (.t 24)]), none⟩]
def s_gnomonref07_Same_r5t1 : List AOper := s_gnomonref07_Same_r5p1 ++ s_gnomonref07_Same_r5t2
def s_gnomonref07_Same_r5p0 : List AOper := [⟨some 17, (.move (.t 0)), none⟩, ⟨some 18, (.move (.t 5)), none⟩, ⟨some 19, (.indexAddr 1 (.t 17) (.t 18)), none⟩, ⟨some 20, (.load false 1 (.t 19)), none⟩, ⟨some 21, (.move (.t 1)), none⟩, ⟨some 22, (.move (.t 5)), none⟩, ⟨some 23, (.indexAddr 1 (.t 21) (.t 22)), none⟩, ⟨some 24, (.load false 1 (.t 23)), none⟩]
def s_gnomonref07_Same_r5 : List AOper := s_gnomonref07_Same_r5p0 ++ s_gnomonref07_Same_r5t1
theorem s_gnomonref07_Same_r5p0_tale (fr : List V) (H : Heap) : evTale (symAll s_gnomonref07_Same_r5p0 [14, 17, 18, 19, 21, 22, 23] [20, 24]) [14, 17, 18, 19, 21, 22, 23] fr H = evTale (some (25, [], [(20, (.op (.load false 1 (.t 0)) [(.op (.indexAddr 1 (.t 0) (.t 1)) [(.t 0), (.t 5)])])), (24, (.op (.load false 1 (.t 0)) [(.op (.indexAddr 1 (.t 0) (.t 1)) [(.t 1), (.t 5)])]))])) [14, 17, 18, 19, 21, 22, 23] fr H := tale_row (items := [.tt 0, .tt 5, .sub 0 [0] [], .sub 0 [] [], .tt 1, .tt 5, .sub 1 [0] [], .sub 1 [] []]) (by kernel_rfl) fr H
theorem s_gnomonref07_Same_r5_x (call : CallF) (it : IterF) (base : Nat) (f : List V) (H : Heap) : evC call it base (.region s_gnomonref07_Same_r5 [] [14, 17, 18, 19, 20, 21, 22, 23, 24, 25]) f H = segC call it base s_gnomonref07_Same_r5t1 [14, 17, 18, 19, 20, 21, 22, 23, 24, 25] H (evTale (symAll s_gnomonref07_Same_r5p0 [14, 17, 18, 19, 21, 22, 23] [20, 24]) [14, 17, 18, 19, 21, 22, 23] f H) (origRow call it base s_gnomonref07_Same_r5 [14, 17, 18, 19, 20, 21, 22, 23, 24, 25] f H) := row_seg call it base s_gnomonref07_Same_r5p0 s_gnomonref07_Same_r5t1 (by kernel_rfl) f H
theorem s_gnomonref07_Same_r5t1_x (call : CallF) (it : IterF) (base : Nat) (f : List V) (H : Heap) : evC call it base (.region s_gnomonref07_Same_r5t1 [] [14, 17, 18, 19, 20, 21, 22, 23, 24, 25]) f H = thenC call it base (.region s_gnomonref07_Same_r5t2 [] [14, 17, 18, 19, 20, 21, 22, 23, 24, 25]) (opsC [] s_gnomonref07_Same_r5p1 [20, 24] (evOps call base [⟨some 25, (.call (.c (.fn 22 [] [])) [(.t 20), (.t 24)]), none⟩] f H)) := (row_op call it base s_gnomonref07_Same_r5p1 s_gnomonref07_Same_r5t2 (kc := [20, 24]) (by kernel_rfl) f H).trans (by rw [row_ops]; rfl)
theorem s_gnomonref07_Same_r5t2_tale (fr : List V) (H : Heap) : evTale (symAll s_gnomonref07_Same_r5t2 [14, 17, 18, 19, 20, 21, 22, 23, 24, 25] [26]) [14, 17, 18, 19, 20, 21, 22, 23, 24, 25] fr H = evTale (some (27, [], [(26, (.op (.un .not (.t 0)) [(.t 25)]))])) [14, 17, 18, 19, 20, 21, 22, 23, 24, 25] fr H := tale_row (items := [.sub 0 [] []]) (by kernel_rfl) fr H
theorem s_gnomonref07_Same_r5t2_x (call : CallF) (it : IterF) (base : Nat) (f : List V) (H : Heap) : evC call it base (.region s_gnomonref07_Same_r5t2 [] [14, 17, 18, 19, 20, 21, 22, 23, 24, 25]) f H = segL H (evTale (symAll s_gnomonref07_Same_r5t2 [14, 17, 18, 19, 20, 21, 22, 23, 24, 25] [26]) [14, 17, 18, 19, 20, 21, 22, 23, 24, 25] f H) (origRow call it base s_gnomonref07_Same_r5t2 [14, 17, 18, 19, 20, 21, 22, 23, 24, 25] f H) := row_last call it base _ f H
def s_gnomonref07_Same_r6 : List AOper := [
  ⟨some 4, (.move (.c (.s (.bool false)))), none⟩]
theorem s_gnomonref07_Same_r6_tale (fr : List V) (H : Heap) : evTale (symAll s_gnomonref07_Same_r6 [0, 1, 5, 26] [4]) [0, 1, 5, 26] fr H = evTale (some (5, [], [(4, (.c (.s (.bool false))))])) [0, 1, 5, 26] fr H := tale_row (items := [.cc (.s (.bool false))]) (by kernel_rfl) fr H
def s_gnomonref07_Same_r7 : List AOper := [
  ⟨some 15, (.move (.t 5)), none⟩,
  ⟨some 16, (.bin .add (.t 15) (.c (.s (.int .i64 1)))), none⟩,
  ⟨some 5, (.move (.t 16)), none⟩]
theorem s_gnomonref07_Same_r7_tale (fr : List V) (H : Heap) : evTale (symAll s_gnomonref07_Same_r7 [15, 16, 26] [5]) [15, 16, 26] fr H = evTale (some (17, [], [(5, (.op (.bin .add (.t 0) (.c (.s (.int .i64 1)))) [(.t 5), (.c (.s (.int .i64 1)))]))])) [15, 16, 26] fr H := tale_row (items := [.tt 5, .sub 0 [] [], .sub 0 [] []]) (by kernel_rfl) fr H
def s_gnomonref07_Same_l0_b : ACode :=
  (.seq (.seq (.regionE s_gnomonref07_Same_r4 [11, 12, 13] [14])
  (.cond (.t 14)
  .skip
  (.exit 0)))
  (.seq (.block 1
  (.seq (.region s_gnomonref07_Same_r5 [] [14, 17, 18, 19, 20, 21, 22, 23, 24, 25])
  (.cond (.t 26)
  (.seq (.regionE s_gnomonref07_Same_r6 [0, 1, 5, 26] [4])
  .ret)
  .skip)))
  (.regionE s_gnomonref07_Same_r7 [15, 16, 26] [5])))
def s_gnomonref07_Same_l0 : ACode := s_gnomonref07_Same_l0_b
theorem s_gnomonref07_Same_l0_ev (call : CallF) (it : IterF) (base : Nat) (fr : List V) (H : Heap) : evC call it base s_gnomonref07_Same_l0 fr H = evC call it base s_gnomonref07_Same_l0_b fr H := rfl
def s_gnomonref07_Same_r8 : List AOper := [
  ⟨some 4, (.move (.c (.s (.bool true)))), none⟩]
theorem s_gnomonref07_Same_r8_tale (fr : List V) (H : Heap) : evTale (symAll s_gnomonref07_Same_r8 [0, 1, 5, 14] [4]) [0, 1, 5, 14] fr H = evTale (some (5, [], [(4, (.c (.s (.bool true))))])) [0, 1, 5, 14] fr H := tale_row (items := [.cc (.s (.bool true))]) (by kernel_rfl) fr H
def s_gnomonref07_Same : ACFun := { ntmps := 27, results := [(.tmp 4)], body :=
  (.seq (.regionE s_gnomonref07_Same_r0 s_gnomonref07_Same_r0_k [])
  (.seq (.seq (.regionE s_gnomonref07_Same_r1 [6, 7, 8, 9] [10])
  (.cond (.t 10)
  (.seq (.regionE s_gnomonref07_Same_r2 [0, 1, 10] [4])
  .ret)
  .skip))
  (.seq (.seq (.regionE s_gnomonref07_Same_r3 [10] [5])
  (.block 0
  (.loop [] s_gnomonref07_Same_l0)))
  (.seq (.regionE s_gnomonref07_Same_r8 [0, 1, 5, 14] [4])
  .ret)))) }
/- 15 gnomon/gnomonref07.Norm -/
abbrev k_gnomonref07_Norm : Nat := 15
def s_gnomonref07_Norm_r0_k : List Nat := [1, 2, 3, 4, 5, 6, 7, 8, 9, 10, 11, 12, 13, 14, 15, 16, 17, 18, 19, 20, 21, 22, 23, 24, 25, 26, 27, 28, 29, 30, 31, 32, 33, 34, 35, 36, 37, 38, 39, 40, 41, 42, 43, 44, 45, 46, 47, 48, 49, 50, 51, 52, 53, 54, 55]
theorem s_gnomonref07_Norm_r0_kT : killV s_gnomonref07_Norm_r0_k (startV 56 [] 1) = [] := by kernel_rfl
theorem s_gnomonref07_Norm_r0_kA0 : s_gnomonref07_Norm_r0_k.contains 0 = false := by kernel_rfl
def s_gnomonref07_Norm_r0 : List AOper := [
  ⟨some 2, (.move (.c (.s (.slice none 0 0)))), none⟩]
theorem s_gnomonref07_Norm_r0_tale (fr : List V) (H : Heap) : evTale (symAll s_gnomonref07_Norm_r0 s_gnomonref07_Norm_r0_k []) s_gnomonref07_Norm_r0_k fr H = evTale (some (3, [], [])) s_gnomonref07_Norm_r0_k fr H := tale_row (items := [.cc (.s (.slice none 0 0))]) (by kernel_rfl) fr H
def s_gnomonref07_Norm_r1 : List AOper := [
  ⟨some 3, (.move (.c (.s (.slice none 0 0)))), none⟩]
theorem s_gnomonref07_Norm_r1_tale (fr : List V) (H : Heap) : evTale (symAll s_gnomonref07_Norm_r1 [] [3]) [] fr H = evTale (some (4, [], [(3, (.c (.s (.slice none 0 0))))])) [] fr H := tale_row (items := [.cc (.s (.slice none 0 0))]) (by kernel_rfl) fr H
def s_gnomonref07_Norm_r2 : List AOper := [
  ⟨some 4, (.move (.c (.s (.int .i64 0)))), none⟩]
theorem s_gnomonref07_Norm_r2_tale (fr : List V) (H : Heap) : evTale (symAll s_gnomonref07_Norm_r2 [] [4]) [] fr H = evTale (some (5, [], [(4, (.c (.s (.int .i64 0))))])) [] fr H := tale_row (items := [.cc (.s (.int .i64 0))]) (by kernel_rfl) fr H
def s_gnomonref07_Norm_r3 : List AOper := [
  ⟨some 7, (.move (.t 4)), none⟩,
  ⟨some 8, (.move (.t 0)), none⟩,
  ⟨some 9, (.lenS .s (.t 8)), none⟩,
  ⟨some 10, (.bin .lss (.t 7) (.t 9)), none⟩]
theorem s_gnomonref07_Norm_r3_tale (fr : List V) (H : Heap) : evTale (symAll s_gnomonref07_Norm_r3 [7, 8, 9] [10]) [7, 8, 9] fr H = evTale (some (11, [], [(10, (.op (.bin .lss (.t 0) (.t 1)) [(.t 4), (.op (.lenS .s (.t 0)) [(.t 0)])]))])) [7, 8, 9] fr H := tale_row (items := [.tt 4, .tt 0, .sub 0 [1] [], .sub 0 [] []]) (by kernel_rfl) fr H
def s_gnomonref07_Norm_r4 : List AOper := [
  ⟨some 5, (.move (.c (.s (.slice none 0 0)))), none⟩]
theorem s_gnomonref07_Norm_r4_tale (fr : List V) (H : Heap) : evTale (symAll s_gnomonref07_Norm_r4 [10] [5]) [10] fr H = evTale (some (6, [], [(5, (.c (.s (.slice none 0 0))))])) [10] fr H := tale_row (items := [.cc (.s (.slice none 0 0))]) (by kernel_rfl) fr H
def s_gnomonref07_Norm_r5 : List AOper := [
  ⟨some 6, (.move (.c (.s (.int .i64 0)))), none⟩]
theorem s_gnomonref07_Norm_r5_tale (fr : List V) (H : Heap) : evTale (symAll s_gnomonref07_Norm_r5 [] [6]) [] fr H = evTale (some (7, [], [(6, (.c (.s (.int .i64 0))))])) [] fr H := tale_row (items := [.cc (.s (.int .i64 0))]) (by kernel_rfl) fr H
def s_gnomonref07_Norm_r6 : List AOper := [
  ⟨some 13, (.move (.t 6)), none⟩,
  ⟨some 14, (.move (.t 0)), none⟩,
  ⟨some 15, (.move (.t 4)), none⟩,
  ⟨some 16, (.indexAddr 1 (.t 14) (.t 15)), none⟩,
  ⟨some 17, (.load false 1 (.t 16)), none⟩,
  ⟨some 18, (.lenS .s (.t 17)), none⟩,
  ⟨some 19, (.bin .lss (.t 13) (.t 18)), none⟩]
theorem s_gnomonref07_Norm_r6_tale (fr : List V) (H : Heap) : evTale (symAll s_gnomonref07_Norm_r6 [13, 14, 15, 16, 17, 18] [19]) [13, 14, 15, 16, 17, 18] fr H = evTale (some (20, [], [(19, (.op (.bin .lss (.t 0) (.t 1)) [(.t 6), (.op (.lenS .s (.t 0)) [(.op (.load false 1 (.t 0)) [(.op (.indexAddr 1 (.t 0) (.t 1)) [(.t 0), (.t 4)])])])]))])) [13, 14, 15, 16, 17, 18] fr H := tale_row (items := [.tt 6, .tt 0, .tt 4, .sub 0 [1, 0, 0] [], .sub 0 [1, 0] [], .sub 0 [1] [], .sub 0 [] []]) (by kernel_rfl) fr H
def s_gnomonref07_Norm_r7 : List AOper := [
  ⟨some 22, (.move (.t 0)), none⟩,
  ⟨some 23, (.move (.t 4)), none⟩,
  ⟨some 24, (.indexAddr 1 (.t 22) (.t 23)), none⟩,
  ⟨some 25, (.load false 1 (.t 24)), none⟩,
  ⟨some 26, (.move (.t 6)), none⟩,
  ⟨some 27, (.indexAddr 1 (.t 25) (.t 26)), none⟩,
  ⟨some 28, (.load false 1 (.t 27)), none⟩,
  ⟨some 29, (.bin .geq (.t 28) (.c (.s (.int .i64 0)))), none⟩,
  ⟨some 30, (.move (.t 29)), none⟩,
  ⟨some 31, (.move (.t 0)), some (30, true)⟩,
  ⟨some 32, (.move (.t 4)), some (30, true)⟩,
  ⟨some 33, (.indexAddr 1 (.t 31) (.t 32)), some (30, true)⟩,
  ⟨some 34, (.load false 1 (.t 33)), some (30, true)⟩,
  ⟨some 35, (.move (.t 6)), some (30, true)⟩,
  ⟨some 36, (.indexAddr 1 (.t 34) (.t 35)), some (30, true)⟩,
  ⟨some 37, (.load false 1 (.t 36)), some (30, true)⟩,
  ⟨some 38, (.move (.t 0)), some (30, true)⟩,
  ⟨some 39, (.lenS .s (.t 38)), some (30, true)⟩,
  ⟨some 40, (.bin .lss (.t 37) (.t 39)), some (30, true)⟩,
  ⟨some 41, (.pick (.t 30) (.t 40) (.c (.s (.bool false)))), none⟩]
theorem s_gnomonref07_Norm_r7_tale (fr : List V) (H : Heap) : evTale (symAll s_gnomonref07_Norm_r7 [19, 22, 23, 24, 25, 26, 27, 28, 29, 30, 31, 32, 33, 34, 35, 36, 37, 38, 39, 40] [41]) [19, 22, 23, 24, 25, 26, 27, 28, 29, 30, 31, 32, 33, 34, 35, 36, 37, 38, 39, 40] fr H = evTale (some (42, [], [(41, (.pick (.op (.bin .geq (.t 0) (.c (.s (.int .i64 0)))) [(.op (.load false 1 (.t 0)) [(.op (.indexAddr 1 (.t 0) (.t 1)) [(.op (.load false 1 (.t 0)) [(.op (.indexAddr 1 (.t 0) (.t 1)) [(.t 0), (.t 4)])]), (.t 6)])]), (.c (.s (.int .i64 0)))]) (.op (.bin .lss (.t 0) (.t 1)) [(.op (.load false 1 (.t 0)) [(.op (.indexAddr 1 (.t 0) (.t 1)) [(.op (.load false 1 (.t 0)) [(.op (.indexAddr 1 (.t 0) (.t 1)) [(.t 0), (.t 4)])]), (.t 6)])]), (.op (.lenS .s (.t 0)) [(.t 0)])]) (.c (.s (.bool false)))))])) [19, 22, 23, 24, 25, 26, 27, 28, 29, 30, 31, 32, 33, 34, 35, 36, 37, 38, 39, 40] fr H := tale_row (items := [.tt 0, .tt 4, .sub 0 [0, 0, 0, 0, 0] [], .sub 0 [0, 0, 0, 0] [], .tt 6, .sub 0 [0, 0, 0] [], .sub 0 [0, 0] [], .sub 0 [0] [], .sub 0 [0] [], .sub 0 [1, 0, 0, 0, 0, 0] [30], .sub 0 [1, 0, 0, 0, 0, 1] [30], .sub 0 [1, 0, 0, 0, 0] [30], .sub 0 [1, 0, 0, 0] [30], .sub 0 [1, 0, 0, 1] [30], .sub 0 [1, 0, 0] [30], .sub 0 [1, 0] [30], .sub 0 [1, 0, 0, 0, 0, 0] [30], .sub 0 [1, 1] [30], .sub 0 [1] [30], .sub 0 [] []]) (by kernel_rfl) fr H
def s_gnomonref07_Norm_r8t2 : List AOper := [⟨some 5, (.move (.t 50)), none⟩]
def s_gnomonref07_Norm_r8p1 : List AOper := [⟨some 50, (.call (.c (.fn 31 [] [])) [(.t 42), (.t 49)]), none⟩]
def s_gnomonref07_Norm_r8t1 : List AOper := s_gnomonref07_Norm_r8p1 ++ s_gnomonref07_Norm_r8t2
def s_gnomonref07_Norm_r8p0 : List AOper := [⟨some 42, (.move (.t 5)), none⟩, ⟨some 43, (.move (.t 0)), none⟩, ⟨some 44, (.move (.t 4)), none⟩, ⟨some 45, (.indexAddr 1 (.t 43) (.t 44)), none⟩, ⟨some 46, (.load false 1 (.t 45)), none⟩, ⟨some 47, (.move (.t 6)), none⟩, ⟨some 48, (.indexAddr 1 (.t 46) (.t 47)), none⟩, ⟨some 49, (.load false 1 (.t 48)), none⟩]
def s_gnomonref07_Norm_r8 : List AOper := s_gnomonref07_Norm_r8p0 ++ s_gnomonref07_Norm_r8t1
theorem s_gnomonref07_Norm_r8p0_tale (fr : List V) (H : Heap) : evTale (symAll s_gnomonref07_Norm_r8p0 [5, 41, 43, 44, 45, 46, 47, 48] [42, 49]) [5, 41, 43, 44, 45, 46, 47, 48] fr H = evTale (some (50, [], [(42, (.t 5)), (49, (.op (.load false 1 (.t 0)) [(.op (.indexAddr 1 (.t 0) (.t 1)) [(.op (.load false 1 (.t 0)) [(.op (.indexAddr 1 (.t 0) (.t 1)) [(.t 0), (.t 4)])]), (.t 6)])]))])) [5, 41, 43, 44, 45, 46, 47, 48] fr H := tale_row (items := [.tt 5, .tt 0, .tt 4, .sub 1 [0, 0, 0] [], .sub 1 [0, 0] [], .tt 6, .sub 1 [0] [], .sub 1 [] []]) (by kernel_rfl) fr H
theorem s_gnomonref07_Norm_r8_x (call : CallF) (it : IterF) (base : Nat) (f : List V) (H : Heap) : evC call it base (.region s_gnomonref07_Norm_r8 [] [41, 42, 43, 44, 45, 46, 47, 48, 49, 50]) f H = segC call it base s_gnomonref07_Norm_r8t1 [41, 42, 43, 44, 45, 46, 47, 48, 49, 50] H (evTale (symAll s_gnomonref07_Norm_r8p0 [5, 41, 43, 44, 45, 46, 47, 48] [42, 49]) [5, 41, 43, 44, 45, 46, 47, 48] f H) (origRow call it base s_gnomonref07_Norm_r8 [41, 42, 43, 44, 45, 46, 47, 48, 49, 50] f H) := row_seg call it base s_gnomonref07_Norm_r8p0 s_gnomonref07_Norm_r8t1 (by kernel_rfl) f H
theorem s_gnomonref07_Norm_r8t1_x (call : CallF) (it : IterF) (base : Nat) (f : List V) (H : Heap) : evC call it base (.region s_gnomonref07_Norm_r8t1 [] [41, 42, 43, 44, 45, 46, 47, 48, 49, 50]) f H = thenC call it base (.region s_gnomonref07_Norm_r8t2 [] [41, 42, 43, 44, 45, 46, 47, 48, 49, 50]) (opsC [] s_gnomonref07_Norm_r8p1 [42, 49] (evOps call base [⟨some 50, (.call (.c (.fn 31 [] [])) [(.t 42), (.t 49)]), none⟩] f H)) := (row_op call it base s_gnomonref07_Norm_r8p1 s_gnomonref07_Norm_r8t2 (kc := [42, 49]) (by kernel_rfl) f H).trans (by rw [row_ops]; rfl)
theorem s_gnomonref07_Norm_r8t2_tale (fr : List V) (H : Heap) : evTale (symAll s_gnomonref07_Norm_r8t2 [41, 42, 43, 44, 45, 46, 47, 48, 49, 50] [5]) [41, 42, 43, 44, 45, 46, 47, 48, 49, 50] fr H = evTale (some (6, [], [(5, (.t 50))])) [41, 42, 43, 44, 45, 46, 47, 48, 49, 50] fr H := tale_row (items := [.tt 50]) (by kernel_rfl) fr H
theorem s_gnomonref07_Norm_r8t2_x (call : CallF) (it : IterF) (base : Nat) (f : List V) (H : Heap) : evC call it base (.region s_gnomonref07_Norm_r8t2 [] [41, 42, 43, 44, 45, 46, 47, 48, 49, 50]) f H = segL H (evTale (symAll s_gnomonref07_Norm_r8t2 [41, 42, 43, 44, 45, 46, 47, 48, 49, 50] [5]) [41, 42, 43, 44, 45, 46, 47, 48, 49, 50] f H) (origRow call it base s_gnomonref07_Norm_r8t2 [41, 42, 43, 44, 45, 46, 47, 48, 49, 50] f H) := row_last call it base _ f H
def s_gnomonref07_Norm_r9 : List AOper := [
  ⟨some 20, (.move (.t 6)), none⟩,
  ⟨some 21, (.bin .add (.t 20) (.c (.s (.int .i64 1)))), none⟩,
  ⟨some 6, (.move (.t 21)), none⟩]
theorem s_gnomonref07_Norm_r9_tale (fr : List V) (H : Heap) : evTale (symAll s_gnomonref07_Norm_r9 [20, 21, 41] [6]) [20, 21, 41] fr H = evTale (some (22, [], [(6, (.op (.bin .add (.t 0) (.c (.s (.int .i64 1)))) [(.t 6), (.c (.s (.int .i64 1)))]))])) [20, 21, 41] fr H := tale_row (items := [.tt 6, .sub 0 [] [], .sub 0 [] []]) (by kernel_rfl) fr H
def s_gnomonref07_Norm_l0_b : ACode :=
  (.seq (.seq (.regionE s_gnomonref07_Norm_r6 [13, 14, 15, 16, 17, 18] [19])
  (.cond (.t 19)
  .skip
  (.exit 2)))
  (.seq (.block 3
  (.seq (.regionE s_gnomonref07_Norm_r7 [19, 22, 23, 24, 25, 26, 27, 28, 29, 30, 31, 32, 33, 34, 35, 36, 37, 38, 39, 40] [41])
  (.cond (.t 41)
  (.region s_gnomonref07_Norm_r8 [] [41, 42, 43, 44, 45, 46, 47, 48, 49, 50])
  .skip)))
  (.regionE s_gnomonref07_Norm_r9 [20, 21, 41] [6])))
def s_gnomonref07_Norm_l0 : ACode := s_gnomonref07_Norm_l0_b
theorem s_gnomonref07_Norm_l0_ev (call : CallF) (it : IterF) (base : Nat) (fr : List V) (H : Heap) : evC call it base s_gnomonref07_Norm_l0 fr H = evC call it base s_gnomonref07_Norm_l0_b fr H := rfl
def s_gnomonref07_Norm_r10t3 : List AOper := [⟨some 3, (.move (.t 54)), none⟩]
def s_gnomonref07_Norm_r10p2 : List AOper := [⟨some 54, (.append 1 24 (.t 51) (.t 53)), none⟩]
def s_gnomonref07_Norm_r10t2 : List AOper := s_gnomonref07_Norm_r10p2 ++ s_gnomonref07_Norm_r10t3
def s_gnomonref07_Norm_r10p1 : List AOper := [⟨some 53, (.buildSl 1 1 [(.s (.slice none 0 0))] [(0, (.t 52))]), none⟩]
def s_gnomonref07_Norm_r10t1 : List AOper := s_gnomonref07_Norm_r10p1 ++ s_gnomonref07_Norm_r10t2
def s_gnomonref07_Norm_r10p0 : List AOper := [⟨some 51, (.move (.t 3)), none⟩, ⟨some 52, (.move (.t 5)), none⟩]
def s_gnomonref07_Norm_r10 : List AOper := s_gnomonref07_Norm_r10p0 ++ s_gnomonref07_Norm_r10t1
theorem s_gnomonref07_Norm_r10p0_tale (fr : List V) (H : Heap) : evTale (symAll s_gnomonref07_Norm_r10p0 [3, 5, 6, 19] [51, 52]) [3, 5, 6, 19] fr H = evTale (some (53, [], [(51, (.t 3)), (52, (.t 5))])) [3, 5, 6, 19] fr H := tale_row (items := [.tt 3, .tt 5]) (by kernel_rfl) fr H
theorem s_gnomonref07_Norm_r10_x (call : CallF) (it : IterF) (base : Nat) (f : List V) (H : Heap) : evC call it base (.region s_gnomonref07_Norm_r10 [] [5, 6, 19, 51, 52, 53, 54]) f H = segC call it base s_gnomonref07_Norm_r10t1 [5, 6, 19, 51, 52, 53, 54] H (evTale (symAll s_gnomonref07_Norm_r10p0 [3, 5, 6, 19] [51, 52]) [3, 5, 6, 19] f H) (origRow call it base s_gnomonref07_Norm_r10 [5, 6, 19, 51, 52, 53, 54] f H) := row_seg call it base s_gnomonref07_Norm_r10p0 s_gnomonref07_Norm_r10t1 (by kernel_rfl) f H
theorem s_gnomonref07_Norm_r10t1_x (call : CallF) (it : IterF) (base : Nat) (f : List V) (H : Heap) : evC call it base (.region s_gnomonref07_Norm_r10t1 [] [5, 6, 19, 51, 52, 53, 54]) f H = thenC call it base (.region s_gnomonref07_Norm_r10t2 [] [5, 6, 19, 51, 52, 53, 54]) (opsC [] s_gnomonref07_Norm_r10p1 [52] (evOps call base [⟨some 53, (.buildSl 1 1 [(.s (.slice none 0 0))] [(0, (.t 52))]), none⟩] f H)) := (row_op call it base s_gnomonref07_Norm_r10p1 s_gnomonref07_Norm_r10t2 (kc := [52]) (by kernel_rfl) f H).trans (by rw [row_ops]; rfl)
theorem s_gnomonref07_Norm_r10t2_x (call : CallF) (it : IterF) (base : Nat) (f : List V) (H : Heap) : evC call it base (.region s_gnomonref07_Norm_r10t2 [] [5, 6, 19, 51, 52, 53, 54]) f H = thenC call it base (.region s_gnomonref07_Norm_r10t3 [] [5, 6, 19, 51, 52, 53, 54]) (opsC [] s_gnomonref07_Norm_r10p2 [51, 53] (evOps call base [⟨some 54, (.append 1 24 (.t 51) (.t 53)), none⟩] f H)) := (row_op call it base s_gnomonref07_Norm_r10p2 s_gnomonref07_Norm_r10t3 (kc := [51, 53]) (by kernel_rfl) f H).trans (by rw [row_ops]; rfl)
theorem s_gnomonref07_Norm_r10t3_tale (fr : List V) (H : Heap) : evTale (symAll s_gnomonref07_Norm_r10t3 [5, 6, 19, 51, 52, 53, 54] [3]) [5, 6, 19, 51, 52, 53, 54] fr H = evTale (some (4, [], [(3, (.t 54))])) [5, 6, 19, 51, 52, 53, 54] fr H := tale_row (items := [.tt 54]) (by kernel_rfl) fr H
theorem s_gnomonref07_Norm_r10t3_x (call : CallF) (it : IterF) (base : Nat) (f : List V) (H : Heap) : evC call it base (.region s_gnomonref07_Norm_r10t3 [] [5, 6, 19, 51, 52, 53, 54]) f H = segL H (evTale (symAll s_gnomonref07_Norm_r10t3 [5, 6, 19, 51, 52, 53, 54] [3]) [5, 6, 19, 51, 52, 53, 54] f H) (origRow call it base s_gnomonref07_Norm_r10t3 [5, 6, 19, 51, 52, 53, 54] f H) := row_last call it base _ f H
def s_gnomonref07_Norm_r11 : List AOper := [
  ⟨some 11, (.move (.t 4)), none⟩,
  ⟨some 12, (.bin .add (.t 11) (.c (.s (.int .i64 1)))), none⟩,
  ⟨some 4, (.move (.t 12)), none⟩]
theorem s_gnomonref07_Norm_r11_tale (fr : List V) (H : Heap) : evTale (symAll s_gnomonref07_Norm_r11 [11, 12] [4]) [11, 12] fr H = evTale (some (13, [], [(4, (.op (.bin .add (.t 0) (.c (.s (.int .i64 1)))) [(.t 4), (.c (.s (.int .i64 1)))]))])) [11, 12] fr H := tale_row (items := [.tt 4, .sub 0 [] [], .sub 0 [] []]) (by kernel_rfl) fr H
def s_gnomonref07_Norm_l1_b : ACode :=
  (.seq (.seq (.regionE s_gnomonref07_Norm_r3 [7, 8, 9] [10])
  (.cond (.t 10)
  .skip
  (.exit 0)))
  (.seq (.block 1
  (.seq (.regionE s_gnomonref07_Norm_r4 [10] [5])
  (.seq (.seq (.regionE s_gnomonref07_Norm_r5 [] [6])
  (.block 2
  (.loop [] s_gnomonref07_Norm_l0)))
  (.region s_gnomonref07_Norm_r10 [] [5, 6, 19, 51, 52, 53, 54]))))
  (.regionE s_gnomonref07_Norm_r11 [11, 12] [4])))
def s_gnomonref07_Norm_l1 : ACode := s_gnomonref07_Norm_l1_b
theorem s_gnomonref07_Norm_l1_ev (call : CallF) (it : IterF) (base : Nat) (fr : List V) (H : Heap) : evC call it base s_gnomonref07_Norm_l1 fr H = evC call it base s_gnomonref07_Norm_l1_b fr H := rfl
def s_gnomonref07_Norm_r12 : List AOper := [
  ⟨some 55, (.move (.t 3)), none⟩,
  ⟨some 2, (.move (.t 55)), none⟩]
theorem s_gnomonref07_Norm_r12_tale (fr : List V) (H : Heap) : evTale (symAll s_gnomonref07_Norm_r12 [0, 3, 4, 10, 55] [2]) [0, 3, 4, 10, 55] fr H = evTale (some (56, [], [(2, (.t 3))])) [0, 3, 4, 10, 55] fr H := tale_row (items := [.tt 3, .tt 3]) (by kernel_rfl) fr H
def s_gnomonref07_Norm : ACFun := { ntmps := 56, results := [(.tmp 2)], body :=
  (.seq (.regionE s_gnomonref07_Norm_r0 s_gnomonref07_Norm_r0_k [])
  (.seq (.regionE s_gnomonref07_Norm_r1 [] [3])
  (.seq (.seq (.regionE s_gnomonref07_Norm_r2 [] [4])
  (.block 0
  (.loop [] s_gnomonref07_Norm_l1)))
  (.seq (.regionE s_gnomonref07_Norm_r12 [0, 3, 4, 10, 55] [2])
  .ret)))) }
/- 16 gnomon/gnomonref07.Back -/
abbrev k_gnomonref07_Back : Nat := 16
def s_gnomonref07_Back_r0_k : List Nat := [1, 2, 3, 4, 5, 6, 7, 8, 9, 10, 11, 12, 13, 14, 15, 16, 17, 18, 19, 20, 21, 22, 23, 24, 25, 26, 27, 28, 29, 30, 31, 32, 33, 34, 35, 36, 37, 38, 39, 40, 41, 42, 43, 44, 45, 46, 47, 48]
theorem s_gnomonref07_Back_r0_kT : killV s_gnomonref07_Back_r0_k (startV 49 [] 1) = [] := by kernel_rfl
theorem s_gnomonref07_Back_r0_kA0 : s_gnomonref07_Back_r0_k.contains 0 = false := by kernel_rfl
def s_gnomonref07_Back_r0 : List AOper := [
  ⟨some 2, (.move (.c (.s (.slice none 0 0)))), none⟩]
theorem s_gnomonref07_Back_r0_tale (fr : List V) (H : Heap) : evTale (symAll s_gnomonref07_Back_r0 s_gnomonref07_Back_r0_k []) s_gnomonref07_Back_r0_k fr H = evTale (some (3, [], [])) s_gnomonref07_Back_r0_k fr H := tale_row (items := [.cc (.s (.slice none 0 0))]) (by kernel_rfl) fr H
def s_gnomonref07_Back_r1t2 : List AOper := [⟨some 0, (.move (.t 7)), none⟩]
def s_gnomonref07_Back_r1p1 : List AOper := [⟨some 7, (.call (.c (.fn 15 [] [])) [(.t 6)]), none⟩]
def s_gnomonref07_Back_r1t1 : List AOper := s_gnomonref07_Back_r1p1 ++ s_gnomonref07_Back_r1t2
def s_gnomonref07_Back_r1p0 : List AOper := [⟨some 6, (.move (.t 0)), none⟩]
def s_gnomonref07_Back_r1 : List AOper := s_gnomonref07_Back_r1p0 ++ s_gnomonref07_Back_r1t1
theorem s_gnomonref07_Back_r1p0_tale (fr : List V) (H : Heap) : evTale (symAll s_gnomonref07_Back_r1p0 [0] [6]) [0] fr H = evTale (some (7, [], [(6, (.t 0))])) [0] fr H := tale_row (items := [.tt 0]) (by kernel_rfl) fr H
theorem s_gnomonref07_Back_r1_x (call : CallF) (it : IterF) (base : Nat) (f : List V) (H : Heap) : evC call it base (.region s_gnomonref07_Back_r1 [] [6, 7]) f H = segC call it base s_gnomonref07_Back_r1t1 [6, 7] H (evTale (symAll s_gnomonref07_Back_r1p0 [0] [6]) [0] f H) (origRow call it base s_gnomonref07_Back_r1 [6, 7] f H) := row_seg call it base s_gnomonref07_Back_r1p0 s_gnomonref07_Back_r1t1 (by kernel_rfl) f H
theorem s_gnomonref07_Back_r1t1_x (call : CallF) (it : IterF) (base : Nat) (f : List V) (H : Heap) : evC call it base (.region s_gnomonref07_Back_r1t1 [] [6, 7]) f H = thenC call it base (.region s_gnomonref07_Back_r1t2 [] [6, 7]) (opsC [] s_gnomonref07_Back_r1p1 [6] (evOps call base [⟨some 7, (.call (.c (.fn 15 [] [])) [(.t 6)]), none⟩] f H)) := (row_op call it base s_gnomonref07_Back_r1p1 s_gnomonref07_Back_r1t2 (kc := [6]) (by kernel_rfl) f H).trans (by rw [row_ops]; rfl)
theorem s_gnomonref07_Back_r1t2_tale (fr : List V) (H : Heap) : evTale (symAll s_gnomonref07_Back_r1t2 [6, 7] [0]) [6, 7] fr H = evTale (some (1, [], [(0, (.t 7))])) [6, 7] fr H := tale_row (items := [.tt 7]) (by kernel_rfl) fr H
theorem s_gnomonref07_Back_r1t2_x (call : CallF) (it : IterF) (base : Nat) (f : List V) (H : Heap) : evC call it base (.region s_gnomonref07_Back_r1t2 [] [6, 7]) f H = segL H (evTale (symAll s_gnomonref07_Back_r1t2 [6, 7] [0]) [6, 7] f H) (origRow call it base s_gnomonref07_Back_r1t2 [6, 7] f H) := row_last call it base _ f H
def s_gnomonref07_Back_r2t2 : List AOper := [⟨some 3, (.move (.t 10)), none⟩]
def s_gnomonref07_Back_r2p1 : List AOper := [⟨some 10, (.mkSl [(.s (.slice none 0 0))] 1 24 (.t 9) (.t 9)), none⟩]
def s_gnomonref07_Back_r2t1 : List AOper := s_gnomonref07_Back_r2p1 ++ s_gnomonref07_Back_r2t2
def s_gnomonref07_Back_r2p0 : List AOper := [⟨some 8, (.move (.t 0)), none⟩, ⟨some 9, (.lenS .s (.t 8)), none⟩]
def s_gnomonref07_Back_r2 : List AOper := s_gnomonref07_Back_r2p0 ++ s_gnomonref07_Back_r2t1
theorem s_gnomonref07_Back_r2p0_tale (fr : List V) (H : Heap) : evTale (symAll s_gnomonref07_Back_r2p0 [8] [9]) [8] fr H = evTale (some (10, [], [(9, (.op (.lenS .s (.t 0)) [(.t 0)]))])) [8] fr H := tale_row (items := [.tt 0, .sub 0 [] []]) (by kernel_rfl) fr H
theorem s_gnomonref07_Back_r2_x (call : CallF) (it : IterF) (base : Nat) (f : List V) (H : Heap) : evC call it base (.region s_gnomonref07_Back_r2 [] [8, 9, 10]) f H = segC call it base s_gnomonref07_Back_r2t1 [8, 9, 10] H (evTale (symAll s_gnomonref07_Back_r2p0 [8] [9]) [8] f H) (origRow call it base s_gnomonref07_Back_r2 [8, 9, 10] f H) := row_seg call it base s_gnomonref07_Back_r2p0 s_gnomonref07_Back_r2t1 (by kernel_rfl) f H
theorem s_gnomonref07_Back_r2t1_x (call : CallF) (it : IterF) (base : Nat) (f : List V) (H : Heap) : evC call it base (.region s_gnomonref07_Back_r2t1 [] [8, 9, 10]) f H = thenC call it base (.region s_gnomonref07_Back_r2t2 [] [8, 9, 10]) (opsC [] s_gnomonref07_Back_r2p1 [9] (evOps call base [⟨some 10, (.mkSl [(.s (.slice none 0 0))] 1 24 (.t 9) (.t 9)), none⟩] f H)) := (row_op call it base s_gnomonref07_Back_r2p1 s_gnomonref07_Back_r2t2 (kc := [9]) (by kernel_rfl) f H).trans (by rw [row_ops]; rfl)
theorem s_gnomonref07_Back_r2t2_tale (fr : List V) (H : Heap) : evTale (symAll s_gnomonref07_Back_r2t2 [8, 9, 10] [3]) [8, 9, 10] fr H = evTale (some (4, [], [(3, (.t 10))])) [8, 9, 10] fr H := tale_row (items := [.tt 10]) (by kernel_rfl) fr H
theorem s_gnomonref07_Back_r2t2_x (call : CallF) (it : IterF) (base : Nat) (f : List V) (H : Heap) : evC call it base (.region s_gnomonref07_Back_r2t2 [] [8, 9, 10]) f H = segL H (evTale (symAll s_gnomonref07_Back_r2t2 [8, 9, 10] [3]) [8, 9, 10] f H) (origRow call it base s_gnomonref07_Back_r2t2 [8, 9, 10] f H) := row_last call it base _ f H
def s_gnomonref07_Back_r3 : List AOper := [
  ⟨some 4, (.move (.c (.s (.int .i64 0)))), none⟩]
theorem s_gnomonref07_Back_r3_tale (fr : List V) (H : Heap) : evTale (symAll s_gnomonref07_Back_r3 [] [4]) [] fr H = evTale (some (5, [], [(4, (.c (.s (.int .i64 0))))])) [] fr H := tale_row (items := [.cc (.s (.int .i64 0))]) (by kernel_rfl) fr H
def s_gnomonref07_Back_r4 : List AOper := [
  ⟨some 11, (.move (.t 4)), none⟩,
  ⟨some 12, (.move (.t 0)), none⟩,
  ⟨some 13, (.lenS .s (.t 12)), none⟩,
  ⟨some 14, (.bin .lss (.t 11) (.t 13)), none⟩]
theorem s_gnomonref07_Back_r4_tale (fr : List V) (H : Heap) : evTale (symAll s_gnomonref07_Back_r4 [11, 12, 13] [14]) [11, 12, 13] fr H = evTale (some (15, [], [(14, (.op (.bin .lss (.t 0) (.t 1)) [(.t 4), (.op (.lenS .s (.t 0)) [(.t 0)])]))])) [11, 12, 13] fr H := tale_row (items := [.tt 4, .tt 0, .sub 0 [1] [], .sub 0 [] []]) (by kernel_rfl) fr H
def s_gnomonref07_Back_r5 : List AOper := [
  ⟨some 5, (.move (.c (.s (.int .i64 0)))), none⟩]
theorem s_gnomonref07_Back_r5_tale (fr : List V) (H : Heap) : evTale (symAll s_gnomonref07_Back_r5 [14] [5]) [14] fr H = evTale (some (6, [], [(5, (.c (.s (.int .i64 0))))])) [14] fr H := tale_row (items := [.cc (.s (.int .i64 0))]) (by kernel_rfl) fr H
def s_gnomonref07_Back_r6 : List AOper := [
  ⟨some 17, (.move (.t 5)), none⟩,
  ⟨some 18, (.move (.t 0)), none⟩,
  ⟨some 19, (.move (.t 4)), none⟩,
  ⟨some 20, (.indexAddr 1 (.t 18) (.t 19)), none⟩,
  ⟨some 21, (.load false 1 (.t 20)), none⟩,
  ⟨some 22, (.lenS .s (.t 21)), none⟩,
  ⟨some 23, (.bin .lss (.t 17) (.t 22)), none⟩]
theorem s_gnomonref07_Back_r6_tale (fr : List V) (H : Heap) : evTale (symAll s_gnomonref07_Back_r6 [17, 18, 19, 20, 21, 22] [23]) [17, 18, 19, 20, 21, 22] fr H = evTale (some (24, [], [(23, (.op (.bin .lss (.t 0) (.t 1)) [(.t 5), (.op (.lenS .s (.t 0)) [(.op (.load false 1 (.t 0)) [(.op (.indexAddr 1 (.t 0) (.t 1)) [(.t 0), (.t 4)])])])]))])) [17, 18, 19, 20, 21, 22] fr H := tale_row (items := [.tt 5, .tt 0, .tt 4, .sub 0 [1, 0, 0] [], .sub 0 [1, 0] [], .sub 0 [1] [], .sub 0 [] []]) (by kernel_rfl) fr H
def s_gnomonref07_Back_r7 : List AOper := [
  ⟨some 26, (.move (.t 3)), none⟩,
  ⟨some 27, (.move (.t 0)), none⟩,
  ⟨some 28, (.move (.t 4)), none⟩,
  ⟨some 29, (.indexAddr 1 (.t 27) (.t 28)), none⟩,
  ⟨some 30, (.load false 1 (.t 29)), none⟩,
  ⟨some 31, (.move (.t 5)), none⟩,
  ⟨some 32, (.indexAddr 1 (.t 30) (.t 31)), none⟩,
  ⟨some 33, (.load false 1 (.t 32)), none⟩,
  ⟨some 34, (.move (.t 3)), none⟩,
  ⟨some 35, (.move (.t 0)), none⟩,
  ⟨some 36, (.move (.t 4)), none⟩,
  ⟨some 37, (.indexAddr 1 (.t 35) (.t 36)), none⟩,
  ⟨some 38, (.load false 1 (.t 37)), none⟩,
  ⟨some 39, (.move (.t 5)), none⟩,
  ⟨some 40, (.indexAddr 1 (.t 38) (.t 39)), none⟩,
  ⟨some 41, (.load false 1 (.t 40)), none⟩,
  ⟨some 42, (.indexAddr 1 (.t 34) (.t 41)), none⟩,
  ⟨some 43, (.load false 1 (.t 42)), none⟩,
  ⟨some 44, (.move (.t 4)), none⟩,
  ⟨some 45, (.buildSl 1 1 [(.s (.int .i64 0))] [(0, (.t 44))]), none⟩,
  ⟨some 46, (.append 1 8 (.t 43) (.t 45)), none⟩,
  ⟨some 47, (.indexAddr 1 (.t 26) (.t 33)), none⟩,
  ⟨none, (.store 1 (.t 47) (.t 46)), none⟩]
theorem s_gnomonref07_Back_r7_x (call : CallF) (it : IterF) (base : Nat) (f : List V) (H : Heap) : evC call it base (.region s_gnomonref07_Back_r7 [(4, 20), (7, 20)] [23, 26, 27, 28, 29, 30, 31, 32, 33, 34, 35, 36, 37, 38, 39, 40, 41, 42, 43, 44, 45, 46, 47]) f H = opsC [(4, 20), (7, 20)] s_gnomonref07_Back_r7 [23, 26, 27, 28, 29, 30, 31, 32, 33, 34, 35, 36, 37, 38, 39, 40, 41, 42, 43, 44, 45, 46, 47] (evOps call base [⟨some 26, (.move (.t 3)), none⟩, ⟨some 27, (.move (.t 0)), none⟩, ⟨some 28, (.move (.t 4)), none⟩, ⟨some 29, (.indexAddr 1 (.t 27) (.t 28)), none⟩, ⟨some 30, (.load false 1 (.t 29)), none⟩, ⟨some 31, (.move (.t 5)), none⟩, ⟨some 32, (.indexAddr 1 (.t 30) (.t 31)), none⟩, ⟨some 33, (.load false 1 (.t 32)), none⟩, ⟨some 34, (.move (.t 3)), none⟩, ⟨some 35, (.move (.t 0)), none⟩, ⟨some 36, (.move (.t 4)), none⟩, ⟨some 37, (.indexAddr 1 (.t 35) (.t 36)), none⟩, ⟨some 38, (.load false 1 (.t 37)), none⟩, ⟨some 39, (.move (.t 5)), none⟩, ⟨some 40, (.indexAddr 1 (.t 38) (.t 39)), none⟩, ⟨some 41, (.load false 1 (.t 40)), none⟩, ⟨some 42, (.indexAddr 1 (.t 34) (.t 41)), none⟩, ⟨some 43, (.load false 1 (.t 42)), none⟩, ⟨some 44, (.move (.t 4)), none⟩, ⟨some 45, (.buildSl 1 1 [(.s (.int .i64 0))] [(0, (.t 44))]), none⟩, ⟨some 46, (.append 1 8 (.t 43) (.t 45)), none⟩, ⟨some 47, (.indexAddr 1 (.t 26) (.t 33)), none⟩, ⟨none, (.store 1 (.t 47) (.t 46)), none⟩] f H) := row_ops call it base _ _ _ f H
def s_gnomonref07_Back_r8 : List AOper := [
  ⟨some 24, (.move (.t 5)), none⟩,
  ⟨some 25, (.bin .add (.t 24) (.c (.s (.int .i64 1)))), none⟩,
  ⟨some 5, (.move (.t 25)), none⟩]
theorem s_gnomonref07_Back_r8_tale (fr : List V) (H : Heap) : evTale (symAll s_gnomonref07_Back_r8 [24, 25] [5]) [24, 25] fr H = evTale (some (26, [], [(5, (.op (.bin .add (.t 0) (.c (.s (.int .i64 1)))) [(.t 5), (.c (.s (.int .i64 1)))]))])) [24, 25] fr H := tale_row (items := [.tt 5, .sub 0 [] [], .sub 0 [] []]) (by kernel_rfl) fr H
def s_gnomonref07_Back_l0_b : ACode :=
  (.seq (.seq (.regionE s_gnomonref07_Back_r6 [17, 18, 19, 20, 21, 22] [23])
  (.cond (.t 23)
  .skip
  (.exit 2)))
  (.seq (.block 3
  (.region s_gnomonref07_Back_r7 [(4, 20), (7, 20)] [23, 26, 27, 28, 29, 30, 31, 32, 33, 34, 35, 36, 37, 38, 39, 40, 41, 42, 43, 44, 45, 46, 47]))
  (.regionE s_gnomonref07_Back_r8 [24, 25] [5])))
def s_gnomonref07_Back_l0 : ACode := s_gnomonref07_Back_l0_b
theorem s_gnomonref07_Back_l0_ev (call : CallF) (it : IterF) (base : Nat) (fr : List V) (H : Heap) : evC call it base s_gnomonref07_Back_l0 fr H = evC call it base s_gnomonref07_Back_l0_b fr H := rfl
def s_gnomonref07_Back_r9 : List AOper := [
  ⟨some 15, (.move (.t 4)), none⟩,
  ⟨some 16, (.bin .add (.t 15) (.c (.s (.int .i64 1)))), none⟩,
  ⟨some 4, (.move (.t 16)), none⟩]
theorem s_gnomonref07_Back_r9_tale (fr : List V) (H : Heap) : evTale (symAll s_gnomonref07_Back_r9 [5, 15, 16, 23] [4]) [5, 15, 16, 23] fr H = evTale (some (17, [], [(4, (.op (.bin .add (.t 0) (.c (.s (.int .i64 1)))) [(.t 4), (.c (.s (.int .i64 1)))]))])) [5, 15, 16, 23] fr H := tale_row (items := [.tt 4, .sub 0 [] [], .sub 0 [] []]) (by kernel_rfl) fr H
def s_gnomonref07_Back_l1_b : ACode :=
  (.seq (.seq (.regionE s_gnomonref07_Back_r4 [11, 12, 13] [14])
  (.cond (.t 14)
  .skip
  (.exit 0)))
  (.seq (.block 1
  (.seq (.regionE s_gnomonref07_Back_r5 [14] [5])
  (.block 2
  (.loop [] s_gnomonref07_Back_l0))))
  (.regionE s_gnomonref07_Back_r9 [5, 15, 16, 23] [4])))
def s_gnomonref07_Back_l1 : ACode := s_gnomonref07_Back_l1_b
theorem s_gnomonref07_Back_l1_ev (call : CallF) (it : IterF) (base : Nat) (fr : List V) (H : Heap) : evC call it base s_gnomonref07_Back_l1 fr H = evC call it base s_gnomonref07_Back_l1_b fr H := rfl
def s_gnomonref07_Back_r10 : List AOper := [
  ⟨some 48, (.move (.t 3)), none⟩,
  ⟨some 2, (.move (.t 48)), none⟩]
theorem s_gnomonref07_Back_r10_tale (fr : List V) (H : Heap) : evTale (symAll s_gnomonref07_Back_r10 [0, 3, 4, 14, 48] [2]) [0, 3, 4, 14, 48] fr H = evTale (some (49, [], [(2, (.t 3))])) [0, 3, 4, 14, 48] fr H := tale_row (items := [.tt 3, .tt 3]) (by kernel_rfl) fr H
def s_gnomonref07_Back : ACFun := { ntmps := 49, results := [(.tmp 2)], body :=
  (.seq (.regionE s_gnomonref07_Back_r0 s_gnomonref07_Back_r0_k [])
  (.seq (.region s_gnomonref07_Back_r1 [] [6, 7])
  (.seq (.region s_gnomonref07_Back_r2 [] [8, 9, 10])
  (.seq (.seq (.regionE s_gnomonref07_Back_r3 [] [4])
  (.block 0
  (.loop [] s_gnomonref07_Back_l1)))
  (.seq (.regionE s_gnomonref07_Back_r10 [0, 3, 4, 14, 48] [2])
  .ret))))) }
/- 22 gnomon/gnomonref01.Same -/
abbrev k_gnomonref01_Same : Nat := 22
def s_gnomonref01_Same_r0_k : List Nat := [2, 3, 4, 5, 6, 7, 8, 9, 10, 11, 12, 13, 14, 15, 16, 17, 18, 19, 20, 21, 22, 23, 24, 25]
theorem s_gnomonref01_Same_r0_kT : killV s_gnomonref01_Same_r0_k (startV 26 [] 2) = [] := by kernel_rfl
theorem s_gnomonref01_Same_r0_kA0 : s_gnomonref01_Same_r0_k.contains 0 = false := by kernel_rfl
theorem s_gnomonref01_Same_r0_kA1 : s_gnomonref01_Same_r0_k.contains 1 = false := by kernel_rfl
def s_gnomonref01_Same_r0 : List AOper := [
  ⟨some 4, (.move (.c (.s (.bool false)))), none⟩]
theorem s_gnomonref01_Same_r0_tale (fr : List V) (H : Heap) : evTale (symAll s_gnomonref01_Same_r0 s_gnomonref01_Same_r0_k []) s_gnomonref01_Same_r0_k fr H = evTale (some (5, [], [])) s_gnomonref01_Same_r0_k fr H := tale_row (items := [.cc (.s (.bool false))]) (by kernel_rfl) fr H
def s_gnomonref01_Same_r1 : List AOper := [
  ⟨some 6, (.move (.t 0)), none⟩,
  ⟨some 7, (.lenS .s (.t 6)), none⟩,
  ⟨some 8, (.move (.t 1)), none⟩,
  ⟨some 9, (.lenS .s (.t 8)), none⟩,
  ⟨some 10, (.bin .neq (.t 7) (.t 9)), none⟩]
theorem s_gnomonref01_Same_r1_tale (fr : List V) (H : Heap) : evTale (symAll s_gnomonref01_Same_r1 [6, 7, 8, 9] [10]) [6, 7, 8, 9] fr H = evTale (some (11, [], [(10, (.op (.bin .neq (.t 0) (.t 1)) [(.op (.lenS .s (.t 0)) [(.t 0)]), (.op (.lenS .s (.t 0)) [(.t 1)])]))])) [6, 7, 8, 9] fr H := tale_row (items := [.tt 0, .sub 0 [0] [], .tt 1, .sub 0 [1] [], .sub 0 [] []]) (by kernel_rfl) fr H
def s_gnomonref01_Same_r2 : List AOper := [
  ⟨some 4, (.move (.c (.s (.bool false)))), none⟩]
theorem s_gnomonref01_Same_r2_tale (fr : List V) (H : Heap) : evTale (symAll s_gnomonref01_Same_r2 [0, 1, 10] [4]) [0, 1, 10] fr H = evTale (some (5, [], [(4, (.c (.s (.bool false))))])) [0, 1, 10] fr H := tale_row (items := [.cc (.s (.bool false))]) (by kernel_rfl) fr H
def s_gnomonref01_Same_r3 : List AOper := [
  ⟨some 5, (.move (.c (.s (.int .i64 0)))), none⟩]
theorem s_gnomonref01_Same_r3_tale (fr : List V) (H : Heap) : evTale (symAll s_gnomonref01_Same_r3 [10] [5]) [10] fr H = evTale (some (6, [], [(5, (.c (.s (.int .i64 0))))])) [10] fr H := tale_row (items := [.cc (.s (.int .i64 0))]) (by kernel_rfl) fr H
def s_gnomonref01_Same_r4 : List AOper := [
  ⟨some 11, (.move (.t 5)), none⟩,
  ⟨some 12, (.move (.t 0)), none⟩,
  ⟨some 13, (.lenS .s (.t 12)), none⟩,
  ⟨some 14, (.bin .lss (.t 11) (.t 13)), none⟩]
theorem s_gnomonref01_Same_r4_tale (fr : List V) (H : Heap) : evTale (symAll s_gnomonref01_Same_r4 [11, 12, 13] [14]) [11, 12, 13] fr H = evTale (some (15, [], [(14, (.op (.bin .lss (.t 0) (.t 1)) [(.t 5), (.op (.lenS .s (.t 0)) [(.t 0)])]))])) [11, 12, 13] fr H := tale_row (items := [.tt 5, .tt 0, .sub 0 [1] [], .sub 0 [] []]) (by kernel_rfl) fr H
def s_gnomonref01_Same_r5 : List AOper := [
  ⟨some 17, (.move (.t 0)), none⟩,
  ⟨some 18, (.move (.t 5)), none⟩,
  ⟨some 19, (.indexAddr 1 (.t 17) (.t 18)), none⟩,
  ⟨some 20, (.load false 1 (.t 19)), none⟩,
  ⟨some 21, (.move (.t 1)), none⟩,
  ⟨some 22, (.move (.t 5)), none⟩,
  ⟨some 23, (.indexAddr 1 (.t 21) (.t 22)), none⟩,
  ⟨some 24, (.load false 1 (.t 23)), none⟩,
  ⟨some 25, (.bin .neq (.t 20) (.t 24)), none⟩]
theorem s_gnomonref01_Same_r5_tale (fr : List V) (H : Heap) : evTale (symAll s_gnomonref01_Same_r5 [14, 17, 18, 19, 20, 21, 22, 23, 24] [25]) [14, 17, 18, 19, 20, 21, 22, 23, 24] fr H = evTale (some (26, [], [(25, (.op (.bin .neq (.t 0) (.t 1)) [(.op (.load false 1 (.t 0)) [(.op (.indexAddr 1 (.t 0) (.t 1)) [(.t 0), (.t 5)])]), (.op (.load false 1 (.t 0)) [(.op (.indexAddr 1 (.t 0) (.t 1)) [(.t 1), (.t 5)])])]))])) [14, 17, 18, 19, 20, 21, 22, 23, 24] fr H := tale_row (items := [.tt 0, .tt 5, .sub 0 [0, 0] [], .sub 0 [0] [], .tt 1, .tt 5, .sub 0 [1, 0] [], .sub 0 [1] [], .sub 0 [] []]) (by kernel_rfl) fr H
def s_gnomonref01_Same_r6 : List AOper := [
  ⟨some 4, (.move (.c (.s (.bool false)))), none⟩]
theorem s_gnomonref01_Same_r6_tale (fr : List V) (H : Heap) : evTale (symAll s_gnomonref01_Same_r6 [0, 1, 5, 25] [4]) [0, 1, 5, 25] fr H = evTale (some (5, [], [(4, (.c (.s (.bool false))))])) [0, 1, 5, 25] fr H := tale_row (items := [.cc (.s (.bool false))]) (by kernel_rfl) fr H
def s_gnomonref01_Same_r7 : List AOper := [
  ⟨some 15, (.move (.t 5)), none⟩,
  ⟨some 16, (.bin .add (.t 15) (.c (.s (.int .i64 1)))), none⟩,
  ⟨some 5, (.move (.t 16)), none⟩]
theorem s_gnomonref01_Same_r7_tale (fr : List V) (H : Heap) : evTale (symAll s_gnomonref01_Same_r7 [15, 16, 25] [5]) [15, 16, 25] fr H = evTale (some (17, [], [(5, (.op (.bin .add (.t 0) (.c (.s (.int .i64 1)))) [(.t 5), (.c (.s (.int .i64 1)))]))])) [15, 16, 25] fr H := tale_row (items := [.tt 5, .sub 0 [] [], .sub 0 [] []]) (by kernel_rfl) fr H
def s_gnomonref01_Same_l0_b : ACode :=
  (.seq (.seq (.regionE s_gnomonref01_Same_r4 [11, 12, 13] [14])
  (.cond (.t 14)
  .skip
  (.exit 0)))
  (.seq (.block 1
  (.seq (.regionE s_gnomonref01_Same_r5 [14, 17, 18, 19, 20, 21, 22, 23, 24] [25])
  (.cond (.t 25)
  (.seq (.regionE s_gnomonref01_Same_r6 [0, 1, 5, 25] [4])
  .ret)
  .skip)))
  (.regionE s_gnomonref01_Same_r7 [15, 16, 25] [5])))
def s_gnomonref01_Same_l0 : ACode := s_gnomonref01_Same_l0_b
theorem s_gnomonref01_Same_l0_ev (call : CallF) (it : IterF) (base : Nat) (fr : List V) (H : Heap) : evC call it base s_gnomonref01_Same_l0 fr H = evC call it base s_gnomonref01_Same_l0_b fr H := rfl
def s_gnomonref01_Same_r8 : List AOper := [
  ⟨some 4, (.move (.c (.s (.bool true)))), none⟩]
theorem s_gnomonref01_Same_r8_tale (fr : List V) (H : Heap) : evTale (symAll s_gnomonref01_Same_r8 [0, 1, 5, 14] [4]) [0, 1, 5, 14] fr H = evTale (some (5, [], [(4, (.c (.s (.bool true))))])) [0, 1, 5, 14] fr H := tale_row (items := [.cc (.s (.bool true))]) (by kernel_rfl) fr H
def s_gnomonref01_Same : ACFun := { ntmps := 26, results := [(.tmp 4)], body :=
  (.seq (.regionE s_gnomonref01_Same_r0 s_gnomonref01_Same_r0_k [])
  (.seq (.seq (.regionE s_gnomonref01_Same_r1 [6, 7, 8, 9] [10])
  (.cond (.t 10)
  (.seq (.regionE s_gnomonref01_Same_r2 [0, 1, 10] [4])
  .ret)
  .skip))
  (.seq (.seq (.regionE s_gnomonref01_Same_r3 [10] [5])
  (.block 0
  (.loop [] s_gnomonref01_Same_l0)))
  (.seq (.regionE s_gnomonref01_Same_r8 [0, 1, 5, 14] [4])
  .ret)))) }
/- 26 slices.DeleteFunc[[]int,int] -/
abbrev k_slices_DeleteFunc_int_int : Nat := 26
def s_slices_DeleteFunc_int_int_r0_k : List Nat := [2, 3, 4, 5, 6, 7, 8, 9, 10, 11, 12, 13, 14, 15, 16, 17, 18, 19, 20, 21, 22, 23, 24, 25, 26, 27, 28, 29, 30, 31, 32, 33, 34, 35, 36, 37, 38, 39, 40, 41]
theorem s_slices_DeleteFunc_int_int_r0_kT : killV s_slices_DeleteFunc_int_int_r0_k (startV 42 [] 2) = [] := by kernel_rfl
theorem s_slices_DeleteFunc_int_int_r0_kA0 : s_slices_DeleteFunc_int_int_r0_k.contains 0 = false := by kernel_rfl
theorem s_slices_DeleteFunc_int_int_r0_kA1 : s_slices_DeleteFunc_int_int_r0_k.contains 1 = false := by kernel_rfl
def s_slices_DeleteFunc_int_int_r0 : List AOper := [
  ⟨some 4, (.move (.c (.s (.slice none 0 0)))), none⟩]
theorem s_slices_DeleteFunc_int_int_r0_tale (fr : List V) (H : Heap) : evTale (symAll s_slices_DeleteFunc_int_int_r0 s_slices_DeleteFunc_int_int_r0_k []) s_slices_DeleteFunc_int_int_r0_k fr H = evTale (some (5, [], [])) s_slices_DeleteFunc_int_int_r0_k fr H := tale_row (items := [.cc (.s (.slice none 0 0))]) (by kernel_rfl) fr H
def s_slices_DeleteFunc_int_int_r1t2 : List AOper := [⟨some 5, (.move (.t 10)), none⟩]
def s_slices_DeleteFunc_int_int_r1p1 : List AOper := [⟨some 10, (.call (.c (.fn 33 [] [])) [(.t 8), (.t 9)]), none⟩]
def s_slices_DeleteFunc_int_int_r1t1 : List AOper := s_slices_DeleteFunc_int_int_r1p1 ++ s_slices_DeleteFunc_int_int_r1t2
def s_slices_DeleteFunc_int_int_r1p0 : List AOper := [⟨some 8, (.move (.t 0)), none⟩, ⟨some 9, (.move (.t 1)), none⟩]
def s_slices_DeleteFunc_int_int_r1 : List AOper := s_slices_DeleteFunc_int_int_r1p0 ++ s_slices_DeleteFunc_int_int_r1t1
theorem s_slices_DeleteFunc_int_int_r1p0_tale (fr : List V) (H : Heap) : evTale (symAll s_slices_DeleteFunc_int_int_r1p0 [] [8, 9]) [] fr H = evTale (some (10, [], [(8, (.t 0)), (9, (.t 1))])) [] fr H := tale_row (items := [.tt 0, .tt 1]) (by kernel_rfl) fr H
theorem s_slices_DeleteFunc_int_int_r1_x (call : CallF) (it : IterF) (base : Nat) (f : List V) (H : Heap) : evC call it base (.region s_slices_DeleteFunc_int_int_r1 [] [8, 9, 10]) f H = segC call it base s_slices_DeleteFunc_int_int_r1t1 [8, 9, 10] H (evTale (symAll s_slices_DeleteFunc_int_int_r1p0 [] [8, 9]) [] f H) (origRow call it base s_slices_DeleteFunc_int_int_r1 [8, 9, 10] f H) := row_seg call it base s_slices_DeleteFunc_int_int_r1p0 s_slices_DeleteFunc_int_int_r1t1 (by kernel_rfl) f H
theorem s_slices_DeleteFunc_int_int_r1t1_x (call : CallF) (it : IterF) (base : Nat) (f : List V) (H : Heap) : evC call it base (.region s_slices_DeleteFunc_int_int_r1t1 [] [8, 9, 10]) f H = thenC call it base (.region s_slices_DeleteFunc_int_int_r1t2 [] [8, 9, 10]) (opsC [] s_slices_DeleteFunc_int_int_r1p1 [8, 9] (evOps call base [⟨some 10, (.call (.c (.fn 33 [] [])) [(.t 8), (.t 9)]), none⟩] f H)) := (row_op call it base s_slices_DeleteFunc_int_int_r1p1 s_slices_DeleteFunc_int_int_r1t2 (kc := [8, 9]) (by kernel_rfl) f H).trans (by rw [row_ops]; rfl)
theorem s_slices_DeleteFunc_int_int_r1t2_tale (fr : List V) (H : Heap) : evTale (symAll s_slices_DeleteFunc_int_int_r1t2 [8, 9, 10] [5]) [8, 9, 10] fr H = evTale (some (6, [], [(5, (.t 10))])) [8, 9, 10] fr H := tale_row (items := [.tt 10]) (by kernel_rfl) fr H
theorem s_slices_DeleteFunc_int_int_r1t2_x (call : CallF) (it : IterF) (base : Nat) (f : List V) (H : Heap) : evC call it base (.region s_slices_DeleteFunc_int_int_r1t2 [] [8, 9, 10]) f H = segL H (evTale (symAll s_slices_DeleteFunc_int_int_r1t2 [8, 9, 10] [5]) [8, 9, 10] f H) (origRow call it base s_slices_DeleteFunc_int_int_r1t2 [8, 9, 10] f H) := row_last call it base _ f H
def s_slices_DeleteFunc_int_int_r2 : List AOper := [
  ⟨some 11, (.move (.t 5)), none⟩,
  ⟨some 12, (.bin .eql (.t 11) (.c (.s (.int .i64 (-1))))), none⟩]
theorem s_slices_DeleteFunc_int_int_r2_tale (fr : List V) (H : Heap) : evTale (symAll s_slices_DeleteFunc_int_int_r2 [11] [12]) [11] fr H = evTale (some (13, [], [(12, (.op (.bin .eql (.t 0) (.c (.s (.int .i64 (-1))))) [(.t 5), (.c (.s (.int .i64 (-1))))]))])) [11] fr H := tale_row (items := [.tt 5, .sub 0 [] []]) (by kernel_rfl) fr H
def s_slices_DeleteFunc_int_int_r3 : List AOper := [
  ⟨some 13, (.move (.t 0)), none⟩,
  ⟨some 4, (.move (.t 13)), none⟩]
theorem s_slices_DeleteFunc_int_int_r3_tale (fr : List V) (H : Heap) : evTale (symAll s_slices_DeleteFunc_int_int_r3 [0, 1, 5, 12, 13] [4]) [0, 1, 5, 12, 13] fr H = evTale (some (14, [], [(4, (.t 0))])) [0, 1, 5, 12, 13] fr H := tale_row (items := [.tt 0, .tt 0]) (by kernel_rfl) fr H
def s_slices_DeleteFunc_int_int_r4 : List AOper := [
  ⟨some 14, (.move (.t 5)), none⟩,
  ⟨some 15, (.bin .add (.t 14) (.c (.s (.int .i64 1)))), none⟩,
  ⟨some 6, (.move (.t 15)), none⟩]
theorem s_slices_DeleteFunc_int_int_r4_tale (fr : List V) (H : Heap) : evTale (symAll s_slices_DeleteFunc_int_int_r4 [12, 14, 15] [6]) [12, 14, 15] fr H = evTale (some (16, [], [(6, (.op (.bin .add (.t 0) (.c (.s (.int .i64 1)))) [(.t 5), (.c (.s (.int .i64 1)))]))])) [12, 14, 15] fr H := tale_row (items := [.tt 5, .sub 0 [] [], .sub 0 [] []]) (by kernel_rfl) fr H
def s_slices_DeleteFunc_int_int_r5 : List AOper := [
  ⟨some 16, (.move (.t 6)), none⟩,
  ⟨some 17, (.move (.t 0)), none⟩,
  ⟨some 18, (.lenS .s (.t 17)), none⟩,
  ⟨some 19, (.bin .lss (.t 16) (.t 18)), none⟩]
theorem s_slices_DeleteFunc_int_int_r5_tale (fr : List V) (H : Heap) : evTale (symAll s_slices_DeleteFunc_int_int_r5 [16, 17, 18] [19]) [16, 17, 18] fr H = evTale (some (20, [], [(19, (.op (.bin .lss (.t 0) (.t 1)) [(.t 6), (.op (.lenS .s (.t 0)) [(.t 0)])]))])) [16, 17, 18] fr H := tale_row (items := [.tt 6, .tt 0, .sub 0 [1] [], .sub 0 [] []]) (by kernel_rfl) fr H
def s_slices_DeleteFunc_int_int_r6 : List AOper := [
  ⟨some 22, (.move (.t 0)), none⟩,
  ⟨some 23, (.move (.t 6)), none⟩,
  ⟨some 24, (.indexAddr 1 (.t 22) (.t 23)), none⟩,
  ⟨some 25, (.load false 1 (.t 24)), none⟩,
  ⟨some 7, (.move (.t 25)), none⟩]
theorem s_slices_DeleteFunc_int_int_r6_tale (fr : List V) (H : Heap) : evTale (symAll s_slices_DeleteFunc_int_int_r6 [19, 22, 23, 24, 25] [7]) [19, 22, 23, 24, 25] fr H = evTale (some (26, [], [(7, (.op (.load false 1 (.t 0)) [(.op (.indexAddr 1 (.t 0) (.t 1)) [(.t 0), (.t 6)])]))])) [19, 22, 23, 24, 25] fr H := tale_row (items := [.tt 0, .tt 6, .sub 0 [0] [], .sub 0 [] [], .sub 0 [] []]) (by kernel_rfl) fr H
def s_slices_DeleteFunc_int_int_r7t2 : List AOper := [⟨some 29, (.un .not (.t 28)), none⟩]
def s_slices_DeleteFunc_int_int_r7p1 : List AOper := [⟨some 28, (.call (.t 26) [(.t 27)]), none⟩]
def s_slices_DeleteFunc_int_int_r7t1 : List AOper := s_slices_DeleteFunc_int_int_r7p1 ++ s_slices_DeleteFunc_int_int_r7t2
def s_slices_DeleteFunc_int_int_r7p0 : List AOper := [⟨some 26, (.move (.t 1)), none⟩, ⟨some 27, (.move (.t 7)), none⟩]
def s_slices_DeleteFunc_int_int_r7 : List AOper := s_slices_DeleteFunc_int_int_r7p0 ++ s_slices_DeleteFunc_int_int_r7t1
theorem s_slices_DeleteFunc_int_int_r7p0_tale (fr : List V) (H : Heap) : evTale (symAll s_slices_DeleteFunc_int_int_r7p0 [] [26, 27]) [] fr H = evTale (some (28, [], [(26, (.t 1)), (27, (.t 7))])) [] fr H := tale_row (items := [.tt 1, .tt 7]) (by kernel_rfl) fr H
theorem s_slices_DeleteFunc_int_int_r7_x (call : CallF) (it : IterF) (base : Nat) (f : List V) (H : Heap) : evC call it base (.region s_slices_DeleteFunc_int_int_r7 [] [26, 27, 28]) f H = segC call it base s_slices_DeleteFunc_int_int_r7t1 [26, 27, 28] H (evTale (symAll s_slices_DeleteFunc_int_int_r7p0 [] [26, 27]) [] f H) (origRow call it base s_slices_DeleteFunc_int_int_r7 [26, 27, 28] f H) := row_seg call it base s_slices_DeleteFunc_int_int_r7p0 s_slices_DeleteFunc_int_int_r7t1 (by kernel_rfl) f H
theorem s_slices_DeleteFunc_int_int_r7t1_x (call : CallF) (it : IterF) (base : Nat) (f : List V) (H : Heap) : evC call it base (.region s_slices_DeleteFunc_int_int_r7t1 [] [26, 27, 28]) f H = thenC call it base (.region s_slices_DeleteFunc_int_int_r7t2 [] [26, 27, 28]) (opsC [] s_slices_DeleteFunc_int_int_r7p1 [26, 27] (evOps call base [⟨some 28, (.call (.t 26) [(.t 27)]), none⟩] f H)) := (row_op call it base s_slices_DeleteFunc_int_int_r7p1 s_slices_DeleteFunc_int_int_r7t2 (kc := [26, 27]) (by kernel_rfl) f H).trans (by rw [row_ops]; rfl)
theorem s_slices_DeleteFunc_int_int_r7t2_tale (fr : List V) (H : Heap) : evTale (symAll s_slices_DeleteFunc_int_int_r7t2 [26, 27, 28] [29]) [26, 27, 28] fr H = evTale (some (30, [], [(29, (.op (.un .not (.t 0)) [(.t 28)]))])) [26, 27, 28] fr H := tale_row (items := [.sub 0 [] []]) (by kernel_rfl) fr H
theorem s_slices_DeleteFunc_int_int_r7t2_x (call : CallF) (it : IterF) (base : Nat) (f : List V) (H : Heap) : evC call it base (.region s_slices_DeleteFunc_int_int_r7t2 [] [26, 27, 28]) f H = segL H (evTale (symAll s_slices_DeleteFunc_int_int_r7t2 [26, 27, 28] [29]) [26, 27, 28] f H) (origRow call it base s_slices_DeleteFunc_int_int_r7t2 [26, 27, 28] f H) := row_last call it base _ f H
def s_slices_DeleteFunc_int_int_r8t1 : List AOper := [⟨none, (.store 1 (.t 33) (.t 32)), none⟩]
def s_slices_DeleteFunc_int_int_r8p0 : List AOper := [⟨some 30, (.move (.t 0)), none⟩, ⟨some 31, (.move (.t 5)), none⟩, ⟨some 32, (.move (.t 7)), none⟩, ⟨some 33, (.indexAddr 1 (.t 30) (.t 31)), none⟩]
def s_slices_DeleteFunc_int_int_r8 : List AOper := s_slices_DeleteFunc_int_int_r8p0 ++ s_slices_DeleteFunc_int_int_r8t1
theorem s_slices_DeleteFunc_int_int_r8p0_tale (fr : List V) (H : Heap) : evTale (symAll s_slices_DeleteFunc_int_int_r8p0 [7, 29, 30, 31] [32, 33]) [7, 29, 30, 31] fr H = evTale (some (34, [], [(32, (.t 7)), (33, (.op (.indexAddr 1 (.t 0) (.t 1)) [(.t 0), (.t 5)]))])) [7, 29, 30, 31] fr H := tale_row (items := [.tt 0, .tt 5, .tt 7, .sub 1 [] []]) (by kernel_rfl) fr H
theorem s_slices_DeleteFunc_int_int_r8_x (call : CallF) (it : IterF) (base : Nat) (f : List V) (H : Heap) : evC call it base (.region s_slices_DeleteFunc_int_int_r8 [] [7, 29, 30, 31, 32, 33]) f H = segC call it base s_slices_DeleteFunc_int_int_r8t1 [7, 29, 30, 31, 32, 33] H (evTale (symAll s_slices_DeleteFunc_int_int_r8p0 [7, 29, 30, 31] [32, 33]) [7, 29, 30, 31] f H) (origRow call it base s_slices_DeleteFunc_int_int_r8 [7, 29, 30, 31, 32, 33] f H) := row_seg call it base s_slices_DeleteFunc_int_int_r8p0 s_slices_DeleteFunc_int_int_r8t1 (by kernel_rfl) f H
theorem s_slices_DeleteFunc_int_int_r8t1_x (call : CallF) (it : IterF) (base : Nat) (f : List V) (H : Heap) : evC call it base (.region s_slices_DeleteFunc_int_int_r8t1 [] [7, 29, 30, 31, 32, 33]) f H = opsC [] s_slices_DeleteFunc_int_int_r8t1 [7, 29, 30, 31, 32, 33] (evOps call base [⟨none, (.store 1 (.t 33) (.t 32)), none⟩] f H) := row_ops call it base _ _ _ f H
def s_slices_DeleteFunc_int_int_r9 : List AOper := [
  ⟨some 34, (.move (.t 5)), none⟩,
  ⟨some 35, (.bin .add (.t 34) (.c (.s (.int .i64 1)))), none⟩,
  ⟨some 5, (.move (.t 35)), none⟩]
theorem s_slices_DeleteFunc_int_int_r9_tale (fr : List V) (H : Heap) : evTale (symAll s_slices_DeleteFunc_int_int_r9 [34, 35] [5]) [34, 35] fr H = evTale (some (36, [], [(5, (.op (.bin .add (.t 0) (.c (.s (.int .i64 1)))) [(.t 5), (.c (.s (.int .i64 1)))]))])) [34, 35] fr H := tale_row (items := [.tt 5, .sub 0 [] [], .sub 0 [] []]) (by kernel_rfl) fr H
def s_slices_DeleteFunc_int_int_r10 : List AOper := [
  ⟨some 20, (.move (.t 6)), none⟩,
  ⟨some 21, (.bin .add (.t 20) (.c (.s (.int .i64 1)))), none⟩,
  ⟨some 6, (.move (.t 21)), none⟩]
theorem s_slices_DeleteFunc_int_int_r10_tale (fr : List V) (H : Heap) : evTale (symAll s_slices_DeleteFunc_int_int_r10 [7, 20, 21, 29] [6]) [7, 20, 21, 29] fr H = evTale (some (22, [], [(6, (.op (.bin .add (.t 0) (.c (.s (.int .i64 1)))) [(.t 6), (.c (.s (.int .i64 1)))]))])) [7, 20, 21, 29] fr H := tale_row (items := [.tt 6, .sub 0 [] [], .sub 0 [] []]) (by kernel_rfl) fr H
def s_slices_DeleteFunc_int_int_l0_b : ACode :=
  (.seq (.seq (.regionE s_slices_DeleteFunc_int_int_r5 [16, 17, 18] [19])
  (.cond (.t 19)
  .skip
  (.exit 0)))
  (.seq (.block 1
  (.seq (.regionE s_slices_DeleteFunc_int_int_r6 [19, 22, 23, 24, 25] [7])
  (.seq (.region s_slices_DeleteFunc_int_int_r7 [] [26, 27, 28])
  (.cond (.t 29)
  (.seq (.region s_slices_DeleteFunc_int_int_r8 [] [7, 29, 30, 31, 32, 33])
  (.regionE s_slices_DeleteFunc_int_int_r9 [34, 35] [5]))
  .skip))))
  (.regionE s_slices_DeleteFunc_int_int_r10 [7, 20, 21, 29] [6])))
def s_slices_DeleteFunc_int_int_l0 : ACode := s_slices_DeleteFunc_int_int_l0_b
theorem s_slices_DeleteFunc_int_int_l0_ev (call : CallF) (it : IterF) (base : Nat) (fr : List V) (H : Heap) : evC call it base s_slices_DeleteFunc_int_int_l0 fr H = evC call it base s_slices_DeleteFunc_int_int_l0_b fr H := rfl
def s_slices_DeleteFunc_int_int_r11t1 : List AOper := [⟨none, (.clearSl 1 [(.s (.int .i64 0))] (.t 38)), none⟩]
def s_slices_DeleteFunc_int_int_r11p0 : List AOper := [⟨some 36, (.move (.t 0)), none⟩, ⟨some 37, (.move (.t 5)), none⟩, ⟨some 38, (.subSl 1 (.t 36) (some (.t 37)) none none), none⟩]
def s_slices_DeleteFunc_int_int_r11 : List AOper := s_slices_DeleteFunc_int_int_r11p0 ++ s_slices_DeleteFunc_int_int_r11t1
theorem s_slices_DeleteFunc_int_int_r11p0_tale (fr : List V) (H : Heap) : evTale (symAll s_slices_DeleteFunc_int_int_r11p0 [1, 6, 19, 36, 37] [38]) [1, 6, 19, 36, 37] fr H = evTale (some (39, [], [(38, (.op (.subSl 1 (.t 0) (some (.t 1)) none none) [(.t 0), (.t 5)]))])) [1, 6, 19, 36, 37] fr H := tale_row (items := [.tt 0, .tt 5, .sub 0 [] []]) (by kernel_rfl) fr H
theorem s_slices_DeleteFunc_int_int_r11_x (call : CallF) (it : IterF) (base : Nat) (f : List V) (H : Heap) : evC call it base (.region s_slices_DeleteFunc_int_int_r11 [] [1, 6, 19, 36, 37, 38]) f H = segC call it base s_slices_DeleteFunc_int_int_r11t1 [1, 6, 19, 36, 37, 38] H (evTale (symAll s_slices_DeleteFunc_int_int_r11p0 [1, 6, 19, 36, 37] [38]) [1, 6, 19, 36, 37] f H) (origRow call it base s_slices_DeleteFunc_int_int_r11 [1, 6, 19, 36, 37, 38] f H) := row_seg call it base s_slices_DeleteFunc_int_int_r11p0 s_slices_DeleteFunc_int_int_r11t1 (by kernel_rfl) f H
theorem s_slices_DeleteFunc_int_int_r11t1_x (call : CallF) (it : IterF) (base : Nat) (f : List V) (H : Heap) : evC call it base (.region s_slices_DeleteFunc_int_int_r11t1 [] [1, 6, 19, 36, 37, 38]) f H = opsC [] s_slices_DeleteFunc_int_int_r11t1 [1, 6, 19, 36, 37, 38] (evOps call base [⟨none, (.clearSl 1 [(.s (.int .i64 0))] (.t 38)), none⟩] f H) := row_ops call it base _ _ _ f H
def s_slices_DeleteFunc_int_int_r12 : List AOper := [
  ⟨some 39, (.move (.t 0)), none⟩,
  ⟨some 40, (.move (.t 5)), none⟩,
  ⟨some 41, (.subSl 1 (.t 39) none (some (.t 40)) none), none⟩,
  ⟨some 4, (.move (.t 41)), none⟩]
theorem s_slices_DeleteFunc_int_int_r12_tale (fr : List V) (H : Heap) : evTale (symAll s_slices_DeleteFunc_int_int_r12 [0, 5, 39, 40, 41] [4]) [0, 5, 39, 40, 41] fr H = evTale (some (42, [], [(4, (.op (.subSl 1 (.t 0) none (some (.t 1)) none) [(.t 0), (.t 5)]))])) [0, 5, 39, 40, 41] fr H := tale_row (items := [.tt 0, .tt 5, .sub 0 [] [], .sub 0 [] []]) (by kernel_rfl) fr H
def s_slices_DeleteFunc_int_int : ACFun := { ntmps := 42, results := [(.tmp 4)], body :=
  (.seq (.regionE s_slices_DeleteFunc_int_int_r0 s_slices_DeleteFunc_int_int_r0_k [])
  (.seq (.region s_slices_DeleteFunc_int_int_r1 [] [8, 9, 10])
  (.seq (.seq (.regionE s_slices_DeleteFunc_int_int_r2 [11] [12])
  (.cond (.t 12)
  (.seq (.regionE s_slices_DeleteFunc_int_int_r3 [0, 1, 5, 12, 13] [4])
  .ret)
  .skip))
  (.seq (.seq (.regionE s_slices_DeleteFunc_int_int_r4 [12, 14, 15] [6])
  (.block 0
  (.loop [] s_slices_DeleteFunc_int_int_l0)))
  (.seq (.region s_slices_DeleteFunc_int_int_r11 [] [1, 6, 19, 36, 37, 38])
  (.seq (.regionE s_slices_DeleteFunc_int_int_r12 [0, 5, 39, 40, 41] [4])
  .ret)))))) }
/- 27 slices.Clone[[]int,int] -/
abbrev k_slices_Clone_int_int : Nat := 27
def s_slices_Clone_int_int_r0_k : List Nat := [1, 2, 3, 4, 5, 6, 7]
theorem s_slices_Clone_int_int_r0_kT : killV s_slices_Clone_int_int_r0_k (startV 8 [] 1) = [] := by kernel_rfl
theorem s_slices_Clone_int_int_r0_kA0 : s_slices_Clone_int_int_r0_k.contains 0 = false := by kernel_rfl
def s_slices_Clone_int_int_r0 : List AOper := [
  ⟨some 2, (.move (.c (.s (.slice none 0 0)))), none⟩]
theorem s_slices_Clone_int_int_r0_tale (fr : List V) (H : Heap) : evTale (symAll s_slices_Clone_int_int_r0 s_slices_Clone_int_int_r0_k []) s_slices_Clone_int_int_r0_k fr H = evTale (some (3, [], [])) s_slices_Clone_int_int_r0_k fr H := tale_row (items := [.cc (.s (.slice none 0 0))]) (by kernel_rfl) fr H
def s_slices_Clone_int_int_r1 : List AOper := [
  ⟨some 3, (.move (.t 0)), none⟩,
  ⟨some 4, (.eqNil .s false (.t 3)), none⟩]
theorem s_slices_Clone_int_int_r1_tale (fr : List V) (H : Heap) : evTale (symAll s_slices_Clone_int_int_r1 [3] [4]) [3] fr H = evTale (some (5, [], [(4, (.op (.eqNil .s false (.t 0)) [(.t 0)]))])) [3] fr H := tale_row (items := [.tt 0, .sub 0 [] []]) (by kernel_rfl) fr H
def s_slices_Clone_int_int_r2 : List AOper := [
  ⟨some 2, (.move (.c (.s (.slice none 0 0)))), none⟩]
theorem s_slices_Clone_int_int_r2_tale (fr : List V) (H : Heap) : evTale (symAll s_slices_Clone_int_int_r2 [0, 4] [2]) [0, 4] fr H = evTale (some (3, [], [(2, (.c (.s (.slice none 0 0))))])) [0, 4] fr H := tale_row (items := [.cc (.s (.slice none 0 0))]) (by kernel_rfl) fr H
def s_slices_Clone_int_int_r3t3 : List AOper := [⟨some 2, (.move (.t 7)), none⟩]
def s_slices_Clone_int_int_r3p2 : List AOper := [⟨some 7, (.append 1 8 (.t 5) (.t 6)), none⟩]
def s_slices_Clone_int_int_r3t2 : List AOper := s_slices_Clone_int_int_r3p2 ++ s_slices_Clone_int_int_r3t3
def s_slices_Clone_int_int_r3p1 : List AOper := [⟨some 6, (.move (.t 0)), none⟩]
def s_slices_Clone_int_int_r3t1 : List AOper := s_slices_Clone_int_int_r3p1 ++ s_slices_Clone_int_int_r3t2
def s_slices_Clone_int_int_r3p0 : List AOper := [⟨some 5, (.buildSl 1 0 [] []), none⟩]
def s_slices_Clone_int_int_r3 : List AOper := s_slices_Clone_int_int_r3p0 ++ s_slices_Clone_int_int_r3t1
theorem s_slices_Clone_int_int_r3_x (call : CallF) (it : IterF) (base : Nat) (f : List V) (H : Heap) : evC call it base (.region s_slices_Clone_int_int_r3 [] [0, 4, 5, 6, 7]) f H = thenC call it base (.region s_slices_Clone_int_int_r3t1 [] [0, 4, 5, 6, 7]) (opsC [] s_slices_Clone_int_int_r3p0 [4] (evOps call base [⟨some 5, (.buildSl 1 0 [] []), none⟩] f H)) := (row_op call it base s_slices_Clone_int_int_r3p0 s_slices_Clone_int_int_r3t1 (kc := [4]) (by kernel_rfl) f H).trans (by rw [row_ops]; rfl)
theorem s_slices_Clone_int_int_r3p1_tale (fr : List V) (H : Heap) : evTale (symAll s_slices_Clone_int_int_r3p1 [0] [6]) [0] fr H = evTale (some (7, [], [(6, (.t 0))])) [0] fr H := tale_row (items := [.tt 0]) (by kernel_rfl) fr H
theorem s_slices_Clone_int_int_r3t1_x (call : CallF) (it : IterF) (base : Nat) (f : List V) (H : Heap) : evC call it base (.region s_slices_Clone_int_int_r3t1 [] [0, 4, 5, 6, 7]) f H = segC call it base s_slices_Clone_int_int_r3t2 [0, 4, 5, 6, 7] H (evTale (symAll s_slices_Clone_int_int_r3p1 [0] [6]) [0] f H) (origRow call it base s_slices_Clone_int_int_r3t1 [0, 4, 5, 6, 7] f H) := row_seg call it base s_slices_Clone_int_int_r3p1 s_slices_Clone_int_int_r3t2 (by kernel_rfl) f H
theorem s_slices_Clone_int_int_r3t2_x (call : CallF) (it : IterF) (base : Nat) (f : List V) (H : Heap) : evC call it base (.region s_slices_Clone_int_int_r3t2 [] [0, 4, 5, 6, 7]) f H = thenC call it base (.region s_slices_Clone_int_int_r3t3 [] [0, 4, 5, 6, 7]) (opsC [] s_slices_Clone_int_int_r3p2 [5, 6] (evOps call base [⟨some 7, (.append 1 8 (.t 5) (.t 6)), none⟩] f H)) := (row_op call it base s_slices_Clone_int_int_r3p2 s_slices_Clone_int_int_r3t3 (kc := [5, 6]) (by kernel_rfl) f H).trans (by rw [row_ops]; rfl)
theorem s_slices_Clone_int_int_r3t3_tale (fr : List V) (H : Heap) : evTale (symAll s_slices_Clone_int_int_r3t3 [0, 4, 5, 6, 7] [2]) [0, 4, 5, 6, 7] fr H = evTale (some (3, [], [(2, (.t 7))])) [0, 4, 5, 6, 7] fr H := tale_row (items := [.tt 7]) (by kernel_rfl) fr H
theorem s_slices_Clone_int_int_r3t3_x (call : CallF) (it : IterF) (base : Nat) (f : List V) (H : Heap) : evC call it base (.region s_slices_Clone_int_int_r3t3 [] [0, 4, 5, 6, 7]) f H = segL H (evTale (symAll s_slices_Clone_int_int_r3t3 [0, 4, 5, 6, 7] [2]) [0, 4, 5, 6, 7] f H) (origRow call it base s_slices_Clone_int_int_r3t3 [0, 4, 5, 6, 7] f H) := row_last call it base _ f H
def s_slices_Clone_int_int : ACFun := { ntmps := 8, results := [(.tmp 2)], body :=
  (.seq (.regionE s_slices_Clone_int_int_r0 s_slices_Clone_int_int_r0_k [])
  (.seq (.seq (.regionE s_slices_Clone_int_int_r1 [3] [4])
  (.cond (.t 4)
  (.seq (.regionE s_slices_Clone_int_int_r2 [0, 4] [2])
  .ret)
  .skip))
  (.seq (.region s_slices_Clone_int_int_r3 [] [0, 4, 5, 6, 7])
  .ret))) }
/- 28 gnomon/graph.Norm$1 -/
abbrev k_graph_Norm_1 : Nat := 28
def s_graph_Norm_1_r0_k : List Nat := [2, 3, 4, 5, 6, 7, 8, 9, 10, 11]
theorem s_graph_Norm_1_r0_kT : killV s_graph_Norm_1_r0_k (startV 12 [] 2) = [] := by kernel_rfl
theorem s_graph_Norm_1_r0_kA0 : s_graph_Norm_1_r0_k.contains 0 = false := by kernel_rfl
theorem s_graph_Norm_1_r0_kA1 : s_graph_Norm_1_r0_k.contains 1 = false := by kernel_rfl
def s_graph_Norm_1_r0 : List AOper := [
  ⟨some 3, (.move (.c (.s (.bool false)))), none⟩]
theorem s_graph_Norm_1_r0_tale (fr : List V) (H : Heap) : evTale (symAll s_graph_Norm_1_r0 s_graph_Norm_1_r0_k []) s_graph_Norm_1_r0_k fr H = evTale (some (4, [], [])) s_graph_Norm_1_r0_k fr H := tale_row (items := [.cc (.s (.bool false))]) (by kernel_rfl) fr H
def s_graph_Norm_1_r1 : List AOper := [
  ⟨some 4, (.move (.t 0)), none⟩,
  ⟨some 5, (.bin .lss (.t 4) (.c (.s (.int .i64 0)))), none⟩,
  ⟨some 6, (.move (.t 5)), none⟩,
  ⟨some 7, (.move (.t 0)), some (6, false)⟩,
  ⟨some 8, (.load false 1 (.t 1)), some (6, false)⟩,
  ⟨some 9, (.lenS .s (.t 8)), some (6, false)⟩,
  ⟨some 10, (.bin .geq (.t 7) (.t 9)), some (6, false)⟩,
  ⟨some 11, (.pick (.t 6) (.c (.s (.bool true))) (.t 10)), none⟩,
  ⟨some 3, (.move (.t 11)), none⟩]
theorem s_graph_Norm_1_r1_tale (fr : List V) (H : Heap) : evTale (symAll s_graph_Norm_1_r1 [0, 1, 4, 5, 6, 7, 8, 9, 10, 11] [3]) [0, 1, 4, 5, 6, 7, 8, 9, 10, 11] fr H = evTale (some (12, [], [(3, (.pick (.op (.bin .lss (.t 0) (.c (.s (.int .i64 0)))) [(.t 0), (.c (.s (.int .i64 0)))]) (.c (.s (.bool true))) (.op (.bin .geq (.t 0) (.t 1)) [(.t 0), (.op (.lenS .s (.t 0)) [(.op (.load false 1 (.t 0)) [(.t 1)])])])))])) [0, 1, 4, 5, 6, 7, 8, 9, 10, 11] fr H := tale_row (items := [.tt 0, .sub 0 [0] [], .sub 0 [0] [], .sub 0 [2, 0] [6], .sub 0 [2, 1, 0] [6], .sub 0 [2, 1] [6], .sub 0 [2] [6], .sub 0 [] [], .sub 0 [] []]) (by kernel_rfl) fr H
def s_graph_Norm_1 : ACFun := { ntmps := 12, results := [(.tmp 3)], body :=
  (.seq (.regionE s_graph_Norm_1_r0 s_graph_Norm_1_r0_k [])
  (.seq (.regionE s_graph_Norm_1_r1 [0, 1, 4, 5, 6, 7, 8, 9, 10, 11] [3])
  .ret)) }
/- 30 slices.Compact[[]int,int] -/
abbrev k_slices_Compact_int_int : Nat := 30
def s_slices_Compact_int_int_r0_k : List Nat := [1, 2, 3, 4, 5, 6, 7, 8, 9, 10, 11, 12, 13, 14, 15, 16, 17, 18, 19, 20, 21, 22, 23, 24, 25, 26, 27, 28, 29, 30, 31, 32, 33, 34, 35, 36, 37, 38, 39, 40, 41, 42, 43, 44, 45, 46, 47, 48, 49, 50, 51, 52, 53, 54, 55, 56, 57, 58, 59, 60]
theorem s_slices_Compact_int_int_r0_kT : killV s_slices_Compact_int_int_r0_k (startV 61 [] 1) = [] := by kernel_rfl
theorem s_slices_Compact_int_int_r0_kA0 : s_slices_Compact_int_int_r0_k.contains 0 = false := by kernel_rfl
def s_slices_Compact_int_int_r0 : List AOper := [
  ⟨some 2, (.move (.c (.s (.slice none 0 0)))), none⟩]
theorem s_slices_Compact_int_int_r0_tale (fr : List V) (H : Heap) : evTale (symAll s_slices_Compact_int_int_r0 s_slices_Compact_int_int_r0_k []) s_slices_Compact_int_int_r0_k fr H = evTale (some (3, [], [])) s_slices_Compact_int_int_r0_k fr H := tale_row (items := [.cc (.s (.slice none 0 0))]) (by kernel_rfl) fr H
def s_slices_Compact_int_int_r1 : List AOper := [
  ⟨some 6, (.move (.t 0)), none⟩,
  ⟨some 7, (.lenS .s (.t 6)), none⟩,
  ⟨some 8, (.bin .lss (.t 7) (.c (.s (.int .i64 2)))), none⟩]
theorem s_slices_Compact_int_int_r1_tale (fr : List V) (H : Heap) : evTale (symAll s_slices_Compact_int_int_r1 [6, 7] [8]) [6, 7] fr H = evTale (some (9, [], [(8, (.op (.bin .lss (.t 0) (.c (.s (.int .i64 2)))) [(.op (.lenS .s (.t 0)) [(.t 0)]), (.c (.s (.int .i64 2)))]))])) [6, 7] fr H := tale_row (items := [.tt 0, .sub 0 [0] [], .sub 0 [] []]) (by kernel_rfl) fr H
def s_slices_Compact_int_int_r2 : List AOper := [
  ⟨some 9, (.move (.t 0)), none⟩,
  ⟨some 2, (.move (.t 9)), none⟩]
theorem s_slices_Compact_int_int_r2_tale (fr : List V) (H : Heap) : evTale (symAll s_slices_Compact_int_int_r2 [0, 8, 9] [2]) [0, 8, 9] fr H = evTale (some (10, [], [(2, (.t 0))])) [0, 8, 9] fr H := tale_row (items := [.tt 0, .tt 0]) (by kernel_rfl) fr H
def s_slices_Compact_int_int_r3 : List AOper := [
  ⟨some 3, (.move (.c (.s (.int .i64 1)))), none⟩]
theorem s_slices_Compact_int_int_r3_tale (fr : List V) (H : Heap) : evTale (symAll s_slices_Compact_int_int_r3 [8] [3]) [8] fr H = evTale (some (4, [], [(3, (.c (.s (.int .i64 1))))])) [8] fr H := tale_row (items := [.cc (.s (.int .i64 1))]) (by kernel_rfl) fr H
def s_slices_Compact_int_int_r4 : List AOper := [
  ⟨some 10, (.move (.t 3)), none⟩,
  ⟨some 11, (.move (.t 0)), none⟩,
  ⟨some 12, (.lenS .s (.t 11)), none⟩,
  ⟨some 13, (.bin .lss (.t 10) (.t 12)), none⟩]
theorem s_slices_Compact_int_int_r4_tale (fr : List V) (H : Heap) : evTale (symAll s_slices_Compact_int_int_r4 [10, 11, 12] [13]) [10, 11, 12] fr H = evTale (some (14, [], [(13, (.op (.bin .lss (.t 0) (.t 1)) [(.t 3), (.op (.lenS .s (.t 0)) [(.t 0)])]))])) [10, 11, 12] fr H := tale_row (items := [.tt 3, .tt 0, .sub 0 [1] [], .sub 0 [] []]) (by kernel_rfl) fr H
def s_slices_Compact_int_int_r5 : List AOper := [
  ⟨some 16, (.move (.t 0)), none⟩,
  ⟨some 17, (.move (.t 3)), none⟩,
  ⟨some 18, (.indexAddr 1 (.t 16) (.t 17)), none⟩,
  ⟨some 19, (.load false 1 (.t 18)), none⟩,
  ⟨some 20, (.move (.t 0)), none⟩,
  ⟨some 21, (.move (.t 3)), none⟩,
  ⟨some 22, (.bin .sub (.t 21) (.c (.s (.int .i64 1)))), none⟩,
  ⟨some 23, (.indexAddr 1 (.t 20) (.t 22)), none⟩,
  ⟨some 24, (.load false 1 (.t 23)), none⟩,
  ⟨some 25, (.bin .eql (.t 19) (.t 24)), none⟩]
theorem s_slices_Compact_int_int_r5_tale (fr : List V) (H : Heap) : evTale (symAll s_slices_Compact_int_int_r5 [13, 16, 17, 18, 19, 20, 21, 22, 23, 24] [25]) [13, 16, 17, 18, 19, 20, 21, 22, 23, 24] fr H = evTale (some (26, [], [(25, (.op (.bin .eql (.t 0) (.t 1)) [(.op (.load false 1 (.t 0)) [(.op (.indexAddr 1 (.t 0) (.t 1)) [(.t 0), (.t 3)])]), (.op (.load false 1 (.t 0)) [(.op (.indexAddr 1 (.t 0) (.t 1)) [(.t 0), (.op (.bin .sub (.t 0) (.c (.s (.int .i64 1)))) [(.t 3), (.c (.s (.int .i64 1)))])])])]))])) [13, 16, 17, 18, 19, 20, 21, 22, 23, 24] fr H := tale_row (items := [.tt 0, .tt 3, .sub 0 [0, 0] [], .sub 0 [0] [], .tt 0, .tt 3, .sub 0 [1, 0, 1] [], .sub 0 [1, 0] [], .sub 0 [1] [], .sub 0 [] []]) (by kernel_rfl) fr H
def s_slices_Compact_int_int_r6 : List AOper := [
  ⟨some 26, (.move (.t 0)), none⟩,
  ⟨some 27, (.move (.t 3)), none⟩,
  ⟨some 28, (.subSl 1 (.t 26) (some (.t 27)) none none), none⟩,
  ⟨some 4, (.move (.t 28)), none⟩]
theorem s_slices_Compact_int_int_r6_tale (fr : List V) (H : Heap) : evTale (symAll s_slices_Compact_int_int_r6 [25, 26, 27, 28] [4]) [25, 26, 27, 28] fr H = evTale (some (29, [], [(4, (.op (.subSl 1 (.t 0) (some (.t 1)) none none) [(.t 0), (.t 3)]))])) [25, 26, 27, 28] fr H := tale_row (items := [.tt 0, .tt 3, .sub 0 [] [], .sub 0 [] []]) (by kernel_rfl) fr H
def s_slices_Compact_int_int_r7 : List AOper := [
  ⟨some 5, (.move (.c (.s (.int .i64 1)))), none⟩]
theorem s_slices_Compact_int_int_r7_tale (fr : List V) (H : Heap) : evTale (symAll s_slices_Compact_int_int_r7 [] [5]) [] fr H = evTale (some (6, [], [(5, (.c (.s (.int .i64 1))))])) [] fr H := tale_row (items := [.cc (.s (.int .i64 1))]) (by kernel_rfl) fr H
def s_slices_Compact_int_int_r8 : List AOper := [
  ⟨some 29, (.move (.t 5)), none⟩,
  ⟨some 30, (.move (.t 4)), none⟩,
  ⟨some 31, (.lenS .s (.t 30)), none⟩,
  ⟨some 32, (.bin .lss (.t 29) (.t 31)), none⟩]
theorem s_slices_Compact_int_int_r8_tale (fr : List V) (H : Heap) : evTale (symAll s_slices_Compact_int_int_r8 [29, 30, 31] [32]) [29, 30, 31] fr H = evTale (some (33, [], [(32, (.op (.bin .lss (.t 0) (.t 1)) [(.t 5), (.op (.lenS .s (.t 0)) [(.t 4)])]))])) [29, 30, 31] fr H := tale_row (items := [.tt 5, .tt 4, .sub 0 [1] [], .sub 0 [] []]) (by kernel_rfl) fr H
def s_slices_Compact_int_int_r9 : List AOper := [
  ⟨some 35, (.move (.t 4)), none⟩,
  ⟨some 36, (.move (.t 5)), none⟩,
  ⟨some 37, (.indexAddr 1 (.t 35) (.t 36)), none⟩,
  ⟨some 38, (.load false 1 (.t 37)), none⟩,
  ⟨some 39, (.move (.t 4)), none⟩,
  ⟨some 40, (.move (.t 5)), none⟩,
  ⟨some 41, (.bin .sub (.t 40) (.c (.s (.int .i64 1)))), none⟩,
  ⟨some 42, (.indexAddr 1 (.t 39) (.t 41)), none⟩,
  ⟨some 43, (.load false 1 (.t 42)), none⟩,
  ⟨some 44, (.bin .neq (.t 38) (.t 43)), none⟩]
theorem s_slices_Compact_int_int_r9_tale (fr : List V) (H : Heap) : evTale (symAll s_slices_Compact_int_int_r9 [32, 35, 36, 37, 38, 39, 40, 41, 42, 43] [44]) [32, 35, 36, 37, 38, 39, 40, 41, 42, 43] fr H = evTale (some (45, [], [(44, (.op (.bin .neq (.t 0) (.t 1)) [(.op (.load false 1 (.t 0)) [(.op (.indexAddr 1 (.t 0) (.t 1)) [(.t 4), (.t 5)])]), (.op (.load false 1 (.t 0)) [(.op (.indexAddr 1 (.t 0) (.t 1)) [(.t 4), (.op (.bin .sub (.t 0) (.c (.s (.int .i64 1)))) [(.t 5), (.c (.s (.int .i64 1)))])])])]))])) [32, 35, 36, 37, 38, 39, 40, 41, 42, 43] fr H := tale_row (items := [.tt 4, .tt 5, .sub 0 [0, 0] [], .sub 0 [0] [], .tt 4, .tt 5, .sub 0 [1, 0, 1] [], .sub 0 [1, 0] [], .sub 0 [1] [], .sub 0 [] []]) (by kernel_rfl) fr H
def s_slices_Compact_int_int_r10t1 : List AOper := [⟨none, (.store 1 (.t 51) (.t 50)), none⟩]
def s_slices_Compact_int_int_r10p0 : List AOper := [⟨some 45, (.move (.t 0)), none⟩, ⟨some 46, (.move (.t 3)), none⟩, ⟨some 47, (.move (.t 4)), none⟩, ⟨some 48, (.move (.t 5)), none⟩, ⟨some 49, (.indexAddr 1 (.t 47) (.t 48)), none⟩, ⟨some 50, (.load false 1 (.t 49)), none⟩, ⟨some 51, (.indexAddr 1 (.t 45) (.t 46)), none⟩]
def s_slices_Compact_int_int_r10 : List AOper := s_slices_Compact_int_int_r10p0 ++ s_slices_Compact_int_int_r10t1
theorem s_slices_Compact_int_int_r10p0_tale (fr : List V) (H : Heap) : evTale (symAll s_slices_Compact_int_int_r10p0 [44, 45, 46, 47, 48, 49] [50, 51]) [44, 45, 46, 47, 48, 49] fr H = evTale (some (52, [], [(50, (.op (.load false 1 (.t 0)) [(.op (.indexAddr 1 (.t 0) (.t 1)) [(.t 4), (.t 5)])])), (51, (.op (.indexAddr 1 (.t 0) (.t 1)) [(.t 0), (.t 3)]))])) [44, 45, 46, 47, 48, 49] fr H := tale_row (items := [.tt 0, .tt 3, .tt 4, .tt 5, .sub 0 [0] [], .sub 0 [] [], .sub 1 [] []]) (by kernel_rfl) fr H
theorem s_slices_Compact_int_int_r10_x (call : CallF) (it : IterF) (base : Nat) (f : List V) (H : Heap) : evC call it base (.region s_slices_Compact_int_int_r10 [] [44, 45, 46, 47, 48, 49, 50, 51]) f H = segC call it base s_slices_Compact_int_int_r10t1 [44, 45, 46, 47, 48, 49, 50, 51] H (evTale (symAll s_slices_Compact_int_int_r10p0 [44, 45, 46, 47, 48, 49] [50, 51]) [44, 45, 46, 47, 48, 49] f H) (origRow call it base s_slices_Compact_int_int_r10 [44, 45, 46, 47, 48, 49, 50, 51] f H) := row_seg call it base s_slices_Compact_int_int_r10p0 s_slices_Compact_int_int_r10t1 (by kernel_rfl) f H
theorem s_slices_Compact_int_int_r10t1_x (call : CallF) (it : IterF) (base : Nat) (f : List V) (H : Heap) : evC call it base (.region s_slices_Compact_int_int_r10t1 [] [44, 45, 46, 47, 48, 49, 50, 51]) f H = opsC [] s_slices_Compact_int_int_r10t1 [44, 45, 46, 47, 48, 49, 50, 51] (evOps call base [⟨none, (.store 1 (.t 51) (.t 50)), none⟩] f H) := row_ops call it base _ _ _ f H
def s_slices_Compact_int_int_r11 : List AOper := [
  ⟨some 52, (.move (.t 3)), none⟩,
  ⟨some 53, (.bin .add (.t 52) (.c (.s (.int .i64 1)))), none⟩,
  ⟨some 3, (.move (.t 53)), none⟩]
theorem s_slices_Compact_int_int_r11_tale (fr : List V) (H : Heap) : evTale (symAll s_slices_Compact_int_int_r11 [52, 53] [3]) [52, 53] fr H = evTale (some (54, [], [(3, (.op (.bin .add (.t 0) (.c (.s (.int .i64 1)))) [(.t 3), (.c (.s (.int .i64 1)))]))])) [52, 53] fr H := tale_row (items := [.tt 3, .sub 0 [] [], .sub 0 [] []]) (by kernel_rfl) fr H
def s_slices_Compact_int_int_r12 : List AOper := [
  ⟨some 33, (.move (.t 5)), none⟩,
  ⟨some 34, (.bin .add (.t 33) (.c (.s (.int .i64 1)))), none⟩,
  ⟨some 5, (.move (.t 34)), none⟩]
theorem s_slices_Compact_int_int_r12_tale (fr : List V) (H : Heap) : evTale (symAll s_slices_Compact_int_int_r12 [33, 34, 44] [5]) [33, 34, 44] fr H = evTale (some (35, [], [(5, (.op (.bin .add (.t 0) (.c (.s (.int .i64 1)))) [(.t 5), (.c (.s (.int .i64 1)))]))])) [33, 34, 44] fr H := tale_row (items := [.tt 5, .sub 0 [] [], .sub 0 [] []]) (by kernel_rfl) fr H
def s_slices_Compact_int_int_l0_b : ACode :=
  (.seq (.seq (.regionE s_slices_Compact_int_int_r8 [29, 30, 31] [32])
  (.cond (.t 32)
  .skip
  (.exit 2)))
  (.seq (.block 3
  (.seq (.regionE s_slices_Compact_int_int_r9 [32, 35, 36, 37, 38, 39, 40, 41, 42, 43] [44])
  (.cond (.t 44)
  (.seq (.region s_slices_Compact_int_int_r10 [] [44, 45, 46, 47, 48, 49, 50, 51])
  (.regionE s_slices_Compact_int_int_r11 [52, 53] [3]))
  .skip)))
  (.regionE s_slices_Compact_int_int_r12 [33, 34, 44] [5])))
def s_slices_Compact_int_int_l0 : ACode := s_slices_Compact_int_int_l0_b
theorem s_slices_Compact_int_int_l0_ev (call : CallF) (it : IterF) (base : Nat) (fr : List V) (H : Heap) : evC call it base s_slices_Compact_int_int_l0 fr H = evC call it base s_slices_Compact_int_int_l0_b fr H := rfl
def s_slices_Compact_int_int_r13t1 : List AOper := [⟨none, (.clearSl 1 [(.s (.int .i64 0))] (.t 56)), none⟩]
def s_slices_Compact_int_int_r13p0 : List AOper := [⟨some 54, (.move (.t 0)), none⟩, ⟨some 55, (.move (.t 3)), none⟩, ⟨some 56, (.subSl 1 (.t 54) (some (.t 55)) none none), none⟩]
def s_slices_Compact_int_int_r13 : List AOper := s_slices_Compact_int_int_r13p0 ++ s_slices_Compact_int_int_r13t1
theorem s_slices_Compact_int_int_r13p0_tale (fr : List V) (H : Heap) : evTale (symAll s_slices_Compact_int_int_r13p0 [4, 5, 32, 54, 55] [56]) [4, 5, 32, 54, 55] fr H = evTale (some (57, [], [(56, (.op (.subSl 1 (.t 0) (some (.t 1)) none none) [(.t 0), (.t 3)]))])) [4, 5, 32, 54, 55] fr H := tale_row (items := [.tt 0, .tt 3, .sub 0 [] []]) (by kernel_rfl) fr H
theorem s_slices_Compact_int_int_r13_x (call : CallF) (it : IterF) (base : Nat) (f : List V) (H : Heap) : evC call it base (.region s_slices_Compact_int_int_r13 [] [4, 5, 32, 54, 55, 56]) f H = segC call it base s_slices_Compact_int_int_r13t1 [4, 5, 32, 54, 55, 56] H (evTale (symAll s_slices_Compact_int_int_r13p0 [4, 5, 32, 54, 55] [56]) [4, 5, 32, 54, 55] f H) (origRow call it base s_slices_Compact_int_int_r13 [4, 5, 32, 54, 55, 56] f H) := row_seg call it base s_slices_Compact_int_int_r13p0 s_slices_Compact_int_int_r13t1 (by kernel_rfl) f H
theorem s_slices_Compact_int_int_r13t1_x (call : CallF) (it : IterF) (base : Nat) (f : List V) (H : Heap) : evC call it base (.region s_slices_Compact_int_int_r13t1 [] [4, 5, 32, 54, 55, 56]) f H = opsC [] s_slices_Compact_int_int_r13t1 [4, 5, 32, 54, 55, 56] (evOps call base [⟨none, (.clearSl 1 [(.s (.int .i64 0))] (.t 56)), none⟩] f H) := row_ops call it base _ _ _ f H
def s_slices_Compact_int_int_r14 : List AOper := [
  ⟨some 57, (.move (.t 0)), none⟩,
  ⟨some 58, (.move (.t 3)), none⟩,
  ⟨some 59, (.subSl 1 (.t 57) none (some (.t 58)) none), none⟩,
  ⟨some 2, (.move (.t 59)), none⟩]
theorem s_slices_Compact_int_int_r14_tale (fr : List V) (H : Heap) : evTale (symAll s_slices_Compact_int_int_r14 [0, 3, 57, 58, 59] [2]) [0, 3, 57, 58, 59] fr H = evTale (some (60, [], [(2, (.op (.subSl 1 (.t 0) none (some (.t 1)) none) [(.t 0), (.t 3)]))])) [0, 3, 57, 58, 59] fr H := tale_row (items := [.tt 0, .tt 3, .sub 0 [] [], .sub 0 [] []]) (by kernel_rfl) fr H
def s_slices_Compact_int_int_r15 : List AOper := [
  ⟨some 14, (.move (.t 3)), none⟩,
  ⟨some 15, (.bin .add (.t 14) (.c (.s (.int .i64 1)))), none⟩,
  ⟨some 3, (.move (.t 15)), none⟩]
theorem s_slices_Compact_int_int_r15_tale (fr : List V) (H : Heap) : evTale (symAll s_slices_Compact_int_int_r15 [14, 15, 25] [3]) [14, 15, 25] fr H = evTale (some (16, [], [(3, (.op (.bin .add (.t 0) (.c (.s (.int .i64 1)))) [(.t 3), (.c (.s (.int .i64 1)))]))])) [14, 15, 25] fr H := tale_row (items := [.tt 3, .sub 0 [] [], .sub 0 [] []]) (by kernel_rfl) fr H
def s_slices_Compact_int_int_l1_b : ACode :=
  (.seq (.seq (.regionE s_slices_Compact_int_int_r4 [10, 11, 12] [13])
  (.cond (.t 13)
  .skip
  (.exit 0)))
  (.seq (.block 1
  (.seq (.regionE s_slices_Compact_int_int_r5 [13, 16, 17, 18, 19, 20, 21, 22, 23, 24] [25])
  (.cond (.t 25)
  (.seq (.regionE s_slices_Compact_int_int_r6 [25, 26, 27, 28] [4])
  (.seq (.seq (.regionE s_slices_Compact_int_int_r7 [] [5])
  (.block 2
  (.loop [] s_slices_Compact_int_int_l0)))
  (.seq (.region s_slices_Compact_int_int_r13 [] [4, 5, 32, 54, 55, 56])
  (.seq (.regionE s_slices_Compact_int_int_r14 [0, 3, 57, 58, 59] [2])
  .ret))))
  .skip)))
  (.regionE s_slices_Compact_int_int_r15 [14, 15, 25] [3])))
def s_slices_Compact_int_int_l1 : ACode := s_slices_Compact_int_int_l1_b
theorem s_slices_Compact_int_int_l1_ev (call : CallF) (it : IterF) (base : Nat) (fr : List V) (H : Heap) : evC call it base s_slices_Compact_int_int_l1 fr H = evC call it base s_slices_Compact_int_int_l1_b fr H := rfl
def s_slices_Compact_int_int_r16 : List AOper := [
  ⟨some 60, (.move (.t 0)), none⟩,
  ⟨some 2, (.move (.t 60)), none⟩]
theorem s_slices_Compact_int_int_r16_tale (fr : List V) (H : Heap) : evTale (symAll s_slices_Compact_int_int_r16 [0, 3, 13, 60] [2]) [0, 3, 13, 60] fr H = evTale (some (61, [], [(2, (.t 0))])) [0, 3, 13, 60] fr H := tale_row (items := [.tt 0, .tt 0]) (by kernel_rfl) fr H
def s_slices_Compact_int_int : ACFun := { ntmps := 61, results := [(.tmp 2)], body :=
  (.seq (.regionE s_slices_Compact_int_int_r0 s_slices_Compact_int_int_r0_k [])
  (.seq (.seq (.regionE s_slices_Compact_int_int_r1 [6, 7] [8])
  (.cond (.t 8)
  (.seq (.regionE s_slices_Compact_int_int_r2 [0, 8, 9] [2])
  .ret)
  .skip))
  (.seq (.seq (.regionE s_slices_Compact_int_int_r3 [8] [3])
  (.block 0
  (.loop [] s_slices_Compact_int_int_l1)))
  (.seq (.regionE s_slices_Compact_int_int_r16 [0, 3, 13, 60] [2])
  .ret)))) }
/- 31 gnomon/gnomonref01.Add -/
abbrev k_gnomonref01_Add : Nat := 31
def s_gnomonref01_Add_r0_k : List Nat := [2, 3, 4, 5, 6, 7, 8, 9, 10, 11, 12, 13, 14, 15, 16, 17, 18, 19, 20, 21, 22, 23, 24, 25, 26, 27, 28, 29, 30, 31, 32, 33, 34, 35, 36, 37, 38, 39, 40, 41]
theorem s_gnomonref01_Add_r0_kT : killV s_gnomonref01_Add_r0_k (startV 42 [] 2) = [] := by kernel_rfl
theorem s_gnomonref01_Add_r0_kA0 : s_gnomonref01_Add_r0_k.contains 0 = false := by kernel_rfl
theorem s_gnomonref01_Add_r0_kA1 : s_gnomonref01_Add_r0_k.contains 1 = false := by kernel_rfl
def s_gnomonref01_Add_r0 : List AOper := [
  ⟨some 4, (.move (.c (.s (.slice none 0 0)))), none⟩]
theorem s_gnomonref01_Add_r0_tale (fr : List V) (H : Heap) : evTale (symAll s_gnomonref01_Add_r0 s_gnomonref01_Add_r0_k []) s_gnomonref01_Add_r0_k fr H = evTale (some (5, [], [])) s_gnomonref01_Add_r0_k fr H := tale_row (items := [.cc (.s (.slice none 0 0))]) (by kernel_rfl) fr H
def s_gnomonref01_Add_r1t4 : List AOper := [⟨some 13, (.pick (.t 9) (.c (.s (.bool true))) (.t 12)), none⟩]
def s_gnomonref01_Add_r1p3 : List AOper := [⟨some 12, (.call (.c (.fn 39 [] [])) [(.t 10), (.t 11)]), some (9, false)⟩]
def s_gnomonref01_Add_r1t3 : List AOper := s_gnomonref01_Add_r1p3 ++ s_gnomonref01_Add_r1t4
def s_gnomonref01_Add_r1p2 : List AOper := [⟨some 11, (.move (.t 1)), some (9, false)⟩]
def s_gnomonref01_Add_r1t2 : List AOper := s_gnomonref01_Add_r1p2 ++ s_gnomonref01_Add_r1t3
def s_gnomonref01_Add_r1p1 : List AOper := [⟨some 10, (.move (.t 0)), some (9, false)⟩]
def s_gnomonref01_Add_r1t1 : List AOper := s_gnomonref01_Add_r1p1 ++ s_gnomonref01_Add_r1t2
def s_gnomonref01_Add_r1p0 : List AOper := [⟨some 7, (.move (.t 1)), none⟩, ⟨some 8, (.bin .lss (.t 7) (.c (.s (.int .i64 0)))), none⟩, ⟨some 9, (.move (.t 8)), none⟩]
def s_gnomonref01_Add_r1 : List AOper := s_gnomonref01_Add_r1p0 ++ s_gnomonref01_Add_r1t1
theorem s_gnomonref01_Add_r1p0_tale (fr : List V) (H : Heap) : evTale (symAll s_gnomonref01_Add_r1p0 [7, 8] [9]) [7, 8] fr H = evTale (some (10, [], [(9, (.op (.bin .lss (.t 0) (.c (.s (.int .i64 0)))) [(.t 1), (.c (.s (.int .i64 0)))]))])) [7, 8] fr H := tale_row (items := [.tt 1, .sub 0 [] [], .sub 0 [] []]) (by kernel_rfl) fr H
theorem s_gnomonref01_Add_r1_x (call : CallF) (it : IterF) (base : Nat) (f : List V) (H : Heap) : evC call it base (.region s_gnomonref01_Add_r1 [] [7, 8, 9, 10, 11, 12]) f H = segC call it base s_gnomonref01_Add_r1t1 [7, 8, 9, 10, 11, 12] H (evTale (symAll s_gnomonref01_Add_r1p0 [7, 8] [9]) [7, 8] f H) (origRow call it base s_gnomonref01_Add_r1 [7, 8, 9, 10, 11, 12] f H) := row_seg call it base s_gnomonref01_Add_r1p0 s_gnomonref01_Add_r1t1 (by kernel_rfl) f H
theorem s_gnomonref01_Add_r1t1_x (call : CallF) (it : IterF) (base : Nat) (f : List V) (H : Heap) : evC call it base (.region s_gnomonref01_Add_r1t1 [] [7, 8, 9, 10, 11, 12]) f H = thenC call it base (.region s_gnomonref01_Add_r1t2 [] [7, 8, 9, 10, 11, 12]) (opsC [] s_gnomonref01_Add_r1p1 [] (evOps call base [⟨some 10, (.move (.t 0)), some (9, false)⟩] f H)) := (row_op call it base s_gnomonref01_Add_r1p1 s_gnomonref01_Add_r1t2 (kc := []) (by kernel_rfl) f H).trans (by rw [row_ops]; rfl)
theorem s_gnomonref01_Add_r1t2_x (call : CallF) (it : IterF) (base : Nat) (f : List V) (H : Heap) : evC call it base (.region s_gnomonref01_Add_r1t2 [] [7, 8, 9, 10, 11, 12]) f H = thenC call it base (.region s_gnomonref01_Add_r1t3 [] [7, 8, 9, 10, 11, 12]) (opsC [] s_gnomonref01_Add_r1p2 [] (evOps call base [⟨some 11, (.move (.t 1)), some (9, false)⟩] f H)) := (row_op call it base s_gnomonref01_Add_r1p2 s_gnomonref01_Add_r1t3 (kc := []) (by kernel_rfl) f H).trans (by rw [row_ops]; rfl)
theorem s_gnomonref01_Add_r1t3_x (call : CallF) (it : IterF) (base : Nat) (f : List V) (H : Heap) : evC call it base (.region s_gnomonref01_Add_r1t3 [] [7, 8, 9, 10, 11, 12]) f H = thenC call it base (.region s_gnomonref01_Add_r1t4 [] [7, 8, 9, 10, 11, 12]) (opsC [] s_gnomonref01_Add_r1p3 [10, 11] (evOps call base [⟨some 12, (.call (.c (.fn 39 [] [])) [(.t 10), (.t 11)]), some (9, false)⟩] f H)) := (row_op call it base s_gnomonref01_Add_r1p3 s_gnomonref01_Add_r1t4 (kc := [10, 11]) (by kernel_rfl) f H).trans (by rw [row_ops]; rfl)
theorem s_gnomonref01_Add_r1t4_tale (fr : List V) (H : Heap) : evTale (symAll s_gnomonref01_Add_r1t4 [7, 8, 9, 10, 11, 12] [13]) [7, 8, 9, 10, 11, 12] fr H = evTale (some (14, [], [(13, (.pick (.t 9) (.c (.s (.bool true))) (.t 12)))])) [7, 8, 9, 10, 11, 12] fr H := tale_row (items := [.sub 0 [] []]) (by kernel_rfl) fr H
theorem s_gnomonref01_Add_r1t4_x (call : CallF) (it : IterF) (base : Nat) (f : List V) (H : Heap) : evC call it base (.region s_gnomonref01_Add_r1t4 [] [7, 8, 9, 10, 11, 12]) f H = segL H (evTale (symAll s_gnomonref01_Add_r1t4 [7, 8, 9, 10, 11, 12] [13]) [7, 8, 9, 10, 11, 12] f H) (origRow call it base s_gnomonref01_Add_r1t4 [7, 8, 9, 10, 11, 12] f H) := row_last call it base _ f H
def s_gnomonref01_Add_r2 : List AOper := [
  ⟨some 14, (.move (.t 0)), none⟩,
  ⟨some 4, (.move (.t 14)), none⟩]
theorem s_gnomonref01_Add_r2_tale (fr : List V) (H : Heap) : evTale (symAll s_gnomonref01_Add_r2 [0, 1, 13, 14] [4]) [0, 1, 13, 14] fr H = evTale (some (15, [], [(4, (.t 0))])) [0, 1, 13, 14] fr H := tale_row (items := [.tt 0, .tt 0]) (by kernel_rfl) fr H
def s_gnomonref01_Add_r3 : List AOper := [
  ⟨some 5, (.move (.c (.s (.int .i64 0)))), none⟩]
theorem s_gnomonref01_Add_r3_tale (fr : List V) (H : Heap) : evTale (symAll s_gnomonref01_Add_r3 [13] [5]) [13] fr H = evTale (some (6, [], [(5, (.c (.s (.int .i64 0))))])) [13] fr H := tale_row (items := [.cc (.s (.int .i64 0))]) (by kernel_rfl) fr H
def s_gnomonref01_Add_r4 : List AOper := [
  ⟨some 15, (.move (.t 5)), none⟩,
  ⟨some 16, (.move (.t 0)), none⟩,
  ⟨some 17, (.lenS .s (.t 16)), none⟩,
  ⟨some 18, (.bin .lss (.t 15) (.t 17)), none⟩,
  ⟨some 19, (.move (.t 18)), none⟩,
  ⟨some 20, (.move (.t 0)), some (19, true)⟩,
  ⟨some 21, (.move (.t 5)), some (19, true)⟩,
  ⟨some 22, (.indexAddr 1 (.t 20) (.t 21)), some (19, true)⟩,
  ⟨some 23, (.load false 1 (.t 22)), some (19, true)⟩,
  ⟨some 24, (.move (.t 1)), some (19, true)⟩,
  ⟨some 25, (.bin .lss (.t 23) (.t 24)), some (19, true)⟩,
  ⟨some 26, (.pick (.t 19) (.t 25) (.c (.s (.bool false)))), none⟩]
theorem s_gnomonref01_Add_r4_tale (fr : List V) (H : Heap) : evTale (symAll s_gnomonref01_Add_r4 [15, 16, 17, 18, 19, 20, 21, 22, 23, 24, 25] [26]) [15, 16, 17, 18, 19, 20, 21, 22, 23, 24, 25] fr H = evTale (some (27, [], [(26, (.pick (.op (.bin .lss (.t 0) (.t 1)) [(.t 5), (.op (.lenS .s (.t 0)) [(.t 0)])]) (.op (.bin .lss (.t 0) (.t 1)) [(.op (.load false 1 (.t 0)) [(.op (.indexAddr 1 (.t 0) (.t 1)) [(.t 0), (.t 5)])]), (.t 1)]) (.c (.s (.bool false)))))])) [15, 16, 17, 18, 19, 20, 21, 22, 23, 24, 25] fr H := tale_row (items := [.tt 5, .tt 0, .sub 0 [0, 1] [], .sub 0 [0] [], .sub 0 [0] [], .sub 0 [1, 0, 0, 0] [19], .sub 0 [1, 0, 0, 1] [19], .sub 0 [1, 0, 0] [19], .sub 0 [1, 0] [19], .sub 0 [1, 1] [19], .sub 0 [1] [19], .sub 0 [] []]) (by kernel_rfl) fr H
def s_gnomonref01_Add_r5 : List AOper := [
  ⟨some 27, (.move (.t 5)), none⟩,
  ⟨some 28, (.bin .add (.t 27) (.c (.s (.int .i64 1)))), none⟩,
  ⟨some 5, (.move (.t 28)), none⟩]
theorem s_gnomonref01_Add_r5_tale (fr : List V) (H : Heap) : evTale (symAll s_gnomonref01_Add_r5 [26, 27, 28] [5]) [26, 27, 28] fr H = evTale (some (29, [], [(5, (.op (.bin .add (.t 0) (.c (.s (.int .i64 1)))) [(.t 5), (.c (.s (.int .i64 1)))]))])) [26, 27, 28] fr H := tale_row (items := [.tt 5, .sub 0 [] [], .sub 0 [] []]) (by kernel_rfl) fr H
def s_gnomonref01_Add_l0_b : ACode :=
  (.seq (.seq (.regionE s_gnomonref01_Add_r4 [15, 16, 17, 18, 19, 20, 21, 22, 23, 24, 25] [26])
  (.cond (.t 26)
  .skip
  (.exit 0)))
  (.block 1
  (.regionE s_gnomonref01_Add_r5 [26, 27, 28] [5])))
def s_gnomonref01_Add_l0 : ACode := s_gnomonref01_Add_l0_b
theorem s_gnomonref01_Add_l0_ev (call : CallF) (it : IterF) (base : Nat) (fr : List V) (H : Heap) : evC call it base s_gnomonref01_Add_l0 fr H = evC call it base s_gnomonref01_Add_l0_b fr H := rfl
def s_gnomonref01_Add_r6t2 : List AOper := [⟨some 6, (.move (.t 32)), none⟩]
def s_gnomonref01_Add_r6p1 : List AOper := [⟨some 32, (.append 1 8 (.c (.s (.slice none 0 0))) (.t 31)), none⟩]
def s_gnomonref01_Add_r6t1 : List AOper := s_gnomonref01_Add_r6p1 ++ s_gnomonref01_Add_r6t2
def s_gnomonref01_Add_r6p0 : List AOper := [⟨some 29, (.move (.t 0)), none⟩, ⟨some 30, (.move (.t 5)), none⟩, ⟨some 31, (.subSl 1 (.t 29) none (some (.t 30)) none), none⟩]
def s_gnomonref01_Add_r6 : List AOper := s_gnomonref01_Add_r6p0 ++ s_gnomonref01_Add_r6t1
theorem s_gnomonref01_Add_r6p0_tale (fr : List V) (H : Heap) : evTale (symAll s_gnomonref01_Add_r6p0 [26, 29, 30] [31]) [26, 29, 30] fr H = evTale (some (32, [], [(31, (.op (.subSl 1 (.t 0) none (some (.t 1)) none) [(.t 0), (.t 5)]))])) [26, 29, 30] fr H := tale_row (items := [.tt 0, .tt 5, .sub 0 [] []]) (by kernel_rfl) fr H
theorem s_gnomonref01_Add_r6_x (call : CallF) (it : IterF) (base : Nat) (f : List V) (H : Heap) : evC call it base (.region s_gnomonref01_Add_r6 [] [26, 29, 30, 31, 32]) f H = segC call it base s_gnomonref01_Add_r6t1 [26, 29, 30, 31, 32] H (evTale (symAll s_gnomonref01_Add_r6p0 [26, 29, 30] [31]) [26, 29, 30] f H) (origRow call it base s_gnomonref01_Add_r6 [26, 29, 30, 31, 32] f H) := row_seg call it base s_gnomonref01_Add_r6p0 s_gnomonref01_Add_r6t1 (by kernel_rfl) f H
theorem s_gnomonref01_Add_r6t1_x (call : CallF) (it : IterF) (base : Nat) (f : List V) (H : Heap) : evC call it base (.region s_gnomonref01_Add_r6t1 [] [26, 29, 30, 31, 32]) f H = thenC call it base (.region s_gnomonref01_Add_r6t2 [] [26, 29, 30, 31, 32]) (opsC [] s_gnomonref01_Add_r6p1 [31] (evOps call base [⟨some 32, (.append 1 8 (.c (.s (.slice none 0 0))) (.t 31)), none⟩] f H)) := (row_op call it base s_gnomonref01_Add_r6p1 s_gnomonref01_Add_r6t2 (kc := [31]) (by kernel_rfl) f H).trans (by rw [row_ops]; rfl)
theorem s_gnomonref01_Add_r6t2_tale (fr : List V) (H : Heap) : evTale (symAll s_gnomonref01_Add_r6t2 [26, 29, 30, 31, 32] [6]) [26, 29, 30, 31, 32] fr H = evTale (some (7, [], [(6, (.t 32))])) [26, 29, 30, 31, 32] fr H := tale_row (items := [.tt 32]) (by kernel_rfl) fr H
theorem s_gnomonref01_Add_r6t2_x (call : CallF) (it : IterF) (base : Nat) (f : List V) (H : Heap) : evC call it base (.region s_gnomonref01_Add_r6t2 [] [26, 29, 30, 31, 32]) f H = segL H (evTale (symAll s_gnomonref01_Add_r6t2 [26, 29, 30, 31, 32] [6]) [26, 29, 30, 31, 32] f H) (origRow call it base s_gnomonref01_Add_r6t2 [26, 29, 30, 31, 32] f H) := row_last call it base _ f H
def s_gnomonref01_Add_r7t3 : List AOper := [⟨some 6, (.move (.t 36)), none⟩]
def s_gnomonref01_Add_r7p2 : List AOper := [⟨some 36, (.append 1 8 (.t 33) (.t 35)), none⟩]
def s_gnomonref01_Add_r7t2 : List AOper := s_gnomonref01_Add_r7p2 ++ s_gnomonref01_Add_r7t3
def s_gnomonref01_Add_r7p1 : List AOper := [⟨some 35, (.buildSl 1 1 [(.s (.int .i64 0))] [(0, (.t 34))]), none⟩]
def s_gnomonref01_Add_r7t1 : List AOper := s_gnomonref01_Add_r7p1 ++ s_gnomonref01_Add_r7t2
def s_gnomonref01_Add_r7p0 : List AOper := [⟨some 33, (.move (.t 6)), none⟩, ⟨some 34, (.move (.t 1)), none⟩]
def s_gnomonref01_Add_r7 : List AOper := s_gnomonref01_Add_r7p0 ++ s_gnomonref01_Add_r7t1
theorem s_gnomonref01_Add_r7p0_tale (fr : List V) (H : Heap) : evTale (symAll s_gnomonref01_Add_r7p0 [1, 6] [33, 34]) [1, 6] fr H = evTale (some (35, [], [(33, (.t 6)), (34, (.t 1))])) [1, 6] fr H := tale_row (items := [.tt 6, .tt 1]) (by kernel_rfl) fr H
theorem s_gnomonref01_Add_r7_x (call : CallF) (it : IterF) (base : Nat) (f : List V) (H : Heap) : evC call it base (.region s_gnomonref01_Add_r7 [] [1, 33, 34, 35, 36]) f H = segC call it base s_gnomonref01_Add_r7t1 [1, 33, 34, 35, 36] H (evTale (symAll s_gnomonref01_Add_r7p0 [1, 6] [33, 34]) [1, 6] f H) (origRow call it base s_gnomonref01_Add_r7 [1, 33, 34, 35, 36] f H) := row_seg call it base s_gnomonref01_Add_r7p0 s_gnomonref01_Add_r7t1 (by kernel_rfl) f H
theorem s_gnomonref01_Add_r7t1_x (call : CallF) (it : IterF) (base : Nat) (f : List V) (H : Heap) : evC call it base (.region s_gnomonref01_Add_r7t1 [] [1, 33, 34, 35, 36]) f H = thenC call it base (.region s_gnomonref01_Add_r7t2 [] [1, 33, 34, 35, 36]) (opsC [] s_gnomonref01_Add_r7p1 [34] (evOps call base [⟨some 35, (.buildSl 1 1 [(.s (.int .i64 0))] [(0, (.t 34))]), none⟩] f H)) := (row_op call it base s_gnomonref01_Add_r7p1 s_gnomonref01_Add_r7t2 (kc := [34]) (by kernel_rfl) f H).trans (by rw [row_ops]; rfl)
theorem s_gnomonref01_Add_r7t2_x (call : CallF) (it : IterF) (base : Nat) (f : List V) (H : Heap) : evC call it base (.region s_gnomonref01_Add_r7t2 [] [1, 33, 34, 35, 36]) f H = thenC call it base (.region s_gnomonref01_Add_r7t3 [] [1, 33, 34, 35, 36]) (opsC [] s_gnomonref01_Add_r7p2 [33, 35] (evOps call base [⟨some 36, (.append 1 8 (.t 33) (.t 35)), none⟩] f H)) := (row_op call it base s_gnomonref01_Add_r7p2 s_gnomonref01_Add_r7t3 (kc := [33, 35]) (by kernel_rfl) f H).trans (by rw [row_ops]; rfl)
theorem s_gnomonref01_Add_r7t3_tale (fr : List V) (H : Heap) : evTale (symAll s_gnomonref01_Add_r7t3 [1, 33, 34, 35, 36] [6]) [1, 33, 34, 35, 36] fr H = evTale (some (7, [], [(6, (.t 36))])) [1, 33, 34, 35, 36] fr H := tale_row (items := [.tt 36]) (by kernel_rfl) fr H
theorem s_gnomonref01_Add_r7t3_x (call : CallF) (it : IterF) (base : Nat) (f : List V) (H : Heap) : evC call it base (.region s_gnomonref01_Add_r7t3 [] [1, 33, 34, 35, 36]) f H = segL H (evTale (symAll s_gnomonref01_Add_r7t3 [1, 33, 34, 35, 36] [6]) [1, 33, 34, 35, 36] f H) (origRow call it base s_gnomonref01_Add_r7t3 [1, 33, 34, 35, 36] f H) := row_last call it base _ f H
def s_gnomonref01_Add_r8t2 : List AOper := [⟨some 4, (.move (.t 41)), none⟩]
def s_gnomonref01_Add_r8p1 : List AOper := [⟨some 41, (.append 1 8 (.t 37) (.t 40)), none⟩]
def s_gnomonref01_Add_r8t1 : List AOper := s_gnomonref01_Add_r8p1 ++ s_gnomonref01_Add_r8t2
def s_gnomonref01_Add_r8p0 : List AOper := [⟨some 37, (.move (.t 6)), none⟩, ⟨some 38, (.move (.t 0)), none⟩, ⟨some 39, (.move (.t 5)), none⟩, ⟨some 40, (.subSl 1 (.t 38) (some (.t 39)) none none), none⟩]
def s_gnomonref01_Add_r8 : List AOper := s_gnomonref01_Add_r8p0 ++ s_gnomonref01_Add_r8t1
theorem s_gnomonref01_Add_r8p0_tale (fr : List V) (H : Heap) : evTale (symAll s_gnomonref01_Add_r8p0 [0, 5, 6, 38, 39] [37, 40]) [0, 5, 6, 38, 39] fr H = evTale (some (41, [], [(37, (.t 6)), (40, (.op (.subSl 1 (.t 0) (some (.t 1)) none none) [(.t 0), (.t 5)]))])) [0, 5, 6, 38, 39] fr H := tale_row (items := [.tt 6, .tt 0, .tt 5, .sub 1 [] []]) (by kernel_rfl) fr H
theorem s_gnomonref01_Add_r8_x (call : CallF) (it : IterF) (base : Nat) (f : List V) (H : Heap) : evC call it base (.region s_gnomonref01_Add_r8 [] [0, 5, 6, 37, 38, 39, 40, 41]) f H = segC call it base s_gnomonref01_Add_r8t1 [0, 5, 6, 37, 38, 39, 40, 41] H (evTale (symAll s_gnomonref01_Add_r8p0 [0, 5, 6, 38, 39] [37, 40]) [0, 5, 6, 38, 39] f H) (origRow call it base s_gnomonref01_Add_r8 [0, 5, 6, 37, 38, 39, 40, 41] f H) := row_seg call it base s_gnomonref01_Add_r8p0 s_gnomonref01_Add_r8t1 (by kernel_rfl) f H
theorem s_gnomonref01_Add_r8t1_x (call : CallF) (it : IterF) (base : Nat) (f : List V) (H : Heap) : evC call it base (.region s_gnomonref01_Add_r8t1 [] [0, 5, 6, 37, 38, 39, 40, 41]) f H = thenC call it base (.region s_gnomonref01_Add_r8t2 [] [0, 5, 6, 37, 38, 39, 40, 41]) (opsC [] s_gnomonref01_Add_r8p1 [37, 40] (evOps call base [⟨some 41, (.append 1 8 (.t 37) (.t 40)), none⟩] f H)) := (row_op call it base s_gnomonref01_Add_r8p1 s_gnomonref01_Add_r8t2 (kc := [37, 40]) (by kernel_rfl) f H).trans (by rw [row_ops]; rfl)
theorem s_gnomonref01_Add_r8t2_tale (fr : List V) (H : Heap) : evTale (symAll s_gnomonref01_Add_r8t2 [0, 5, 6, 37, 38, 39, 40, 41] [4]) [0, 5, 6, 37, 38, 39, 40, 41] fr H = evTale (some (5, [], [(4, (.t 41))])) [0, 5, 6, 37, 38, 39, 40, 41] fr H := tale_row (items := [.tt 41]) (by kernel_rfl) fr H
theorem s_gnomonref01_Add_r8t2_x (call : CallF) (it : IterF) (base : Nat) (f : List V) (H : Heap) : evC call it base (.region s_gnomonref01_Add_r8t2 [] [0, 5, 6, 37, 38, 39, 40, 41]) f H = segL H (evTale (symAll s_gnomonref01_Add_r8t2 [0, 5, 6, 37, 38, 39, 40, 41] [4]) [0, 5, 6, 37, 38, 39, 40, 41] f H) (origRow call it base s_gnomonref01_Add_r8t2 [0, 5, 6, 37, 38, 39, 40, 41] f H) := row_last call it base _ f H
def s_gnomonref01_Add : ACFun := { ntmps := 42, results := [(.tmp 4)], body :=
  (.seq (.regionE s_gnomonref01_Add_r0 s_gnomonref01_Add_r0_k [])
  (.seq (.seq (.region s_gnomonref01_Add_r1 [] [7, 8, 9, 10, 11, 12])
  (.cond (.t 13)
  (.seq (.regionE s_gnomonref01_Add_r2 [0, 1, 13, 14] [4])
  .ret)
  .skip))
  (.seq (.regionE s_gnomonref01_Add_r3 [13] [5])
  (.seq (.block 0
  (.loop [] s_gnomonref01_Add_l0))
  (.seq (.region s_gnomonref01_Add_r6 [] [26, 29, 30, 31, 32])
  (.seq (.region s_gnomonref01_Add_r7 [] [1, 33, 34, 35, 36])
  (.seq (.region s_gnomonref01_Add_r8 [] [0, 5, 6, 37, 38, 39, 40, 41])
  .ret))))))) }
/- 33 slices.IndexFunc[[]int,int] -/
abbrev k_slices_IndexFunc_int_int : Nat := 33
def s_slices_IndexFunc_int_int_r0_k : List Nat := [2, 3, 4, 5, 6, 7, 8, 9, 10, 11, 12, 13, 14, 15, 16, 17, 18]
theorem s_slices_IndexFunc_int_int_r0_kT : killV s_slices_IndexFunc_int_int_r0_k (startV 19 [] 2) = [] := by kernel_rfl
theorem s_slices_IndexFunc_int_int_r0_kA0 : s_slices_IndexFunc_int_int_r0_k.contains 0 = false := by kernel_rfl
theorem s_slices_IndexFunc_int_int_r0_kA1 : s_slices_IndexFunc_int_int_r0_k.contains 1 = false := by kernel_rfl
def s_slices_IndexFunc_int_int_r0 : List AOper := [
  ⟨some 4, (.move (.c (.s (.int .i64 0)))), none⟩]
theorem s_slices_IndexFunc_int_int_r0_tale (fr : List V) (H : Heap) : evTale (symAll s_slices_IndexFunc_int_int_r0 s_slices_IndexFunc_int_int_r0_k []) s_slices_IndexFunc_int_int_r0_k fr H = evTale (some (5, [], [])) s_slices_IndexFunc_int_int_r0_k fr H := tale_row (items := [.cc (.s (.int .i64 0))]) (by kernel_rfl) fr H
def s_slices_IndexFunc_int_int_r1 : List AOper := [
  ⟨some 6, (.move (.t 0)), none⟩,
  ⟨some 7, (.lenS .s (.t 6)), none⟩,
  ⟨some 8, (.move (.c (.s (.int .i64 0)))), none⟩]
theorem s_slices_IndexFunc_int_int_r1_tale (fr : List V) (H : Heap) : evTale (symAll s_slices_IndexFunc_int_int_r1 [6] [7, 8]) [6] fr H = evTale (some (9, [], [(7, (.op (.lenS .s (.t 0)) [(.t 0)])), (8, (.c (.s (.int .i64 0))))])) [6] fr H := tale_row (items := [.tt 0, .sub 0 [] [], .cc (.s (.int .i64 0))]) (by kernel_rfl) fr H
def s_slices_IndexFunc_int_int_r2 : List AOper := [
  ⟨some 9, (.bin .lss (.t 8) (.t 7)), none⟩]
theorem s_slices_IndexFunc_int_int_r2_tale (fr : List V) (H : Heap) : evTale (symAll s_slices_IndexFunc_int_int_r2 [] [9]) [] fr H = evTale (some (10, [], [(9, (.op (.bin .lss (.t 0) (.t 1)) [(.t 8), (.t 7)]))])) [] fr H := tale_row (items := [.sub 0 [] []]) (by kernel_rfl) fr H
def s_slices_IndexFunc_int_int_r3 : List AOper := [
  ⟨some 10, (.move (.t 8)), none⟩,
  ⟨some 5, (.move (.t 10)), none⟩]
theorem s_slices_IndexFunc_int_int_r3_tale (fr : List V) (H : Heap) : evTale (symAll s_slices_IndexFunc_int_int_r3 [9, 10] [5]) [9, 10] fr H = evTale (some (11, [], [(5, (.t 8))])) [9, 10] fr H := tale_row (items := [.tt 8, .tt 8]) (by kernel_rfl) fr H
def s_slices_IndexFunc_int_int_r4t1 : List AOper := [⟨some 16, (.call (.t 11) [(.t 15)]), none⟩]
def s_slices_IndexFunc_int_int_r4p0 : List AOper := [⟨some 11, (.move (.t 1)), none⟩, ⟨some 12, (.move (.t 0)), none⟩, ⟨some 13, (.move (.t 5)), none⟩, ⟨some 14, (.indexAddr 1 (.t 12) (.t 13)), none⟩, ⟨some 15, (.load false 1 (.t 14)), none⟩]
def s_slices_IndexFunc_int_int_r4 : List AOper := s_slices_IndexFunc_int_int_r4p0 ++ s_slices_IndexFunc_int_int_r4t1
theorem s_slices_IndexFunc_int_int_r4p0_tale (fr : List V) (H : Heap) : evTale (symAll s_slices_IndexFunc_int_int_r4p0 [12, 13, 14] [11, 15]) [12, 13, 14] fr H = evTale (some (16, [], [(11, (.t 1)), (15, (.op (.load false 1 (.t 0)) [(.op (.indexAddr 1 (.t 0) (.t 1)) [(.t 0), (.t 5)])]))])) [12, 13, 14] fr H := tale_row (items := [.tt 1, .tt 0, .tt 5, .sub 1 [0] [], .sub 1 [] []]) (by kernel_rfl) fr H
theorem s_slices_IndexFunc_int_int_r4_x (call : CallF) (it : IterF) (base : Nat) (f : List V) (H : Heap) : evC call it base (.region s_slices_IndexFunc_int_int_r4 [] [11, 12, 13, 14, 15]) f H = segC call it base s_slices_IndexFunc_int_int_r4t1 [11, 12, 13, 14, 15] H (evTale (symAll s_slices_IndexFunc_int_int_r4p0 [12, 13, 14] [11, 15]) [12, 13, 14] f H) (origRow call it base s_slices_IndexFunc_int_int_r4 [11, 12, 13, 14, 15] f H) := row_seg call it base s_slices_IndexFunc_int_int_r4p0 s_slices_IndexFunc_int_int_r4t1 (by kernel_rfl) f H
theorem s_slices_IndexFunc_int_int_r4t1_x (call : CallF) (it : IterF) (base : Nat) (f : List V) (H : Heap) : evC call it base (.region s_slices_IndexFunc_int_int_r4t1 [] [11, 12, 13, 14, 15]) f H = opsC [] s_slices_IndexFunc_int_int_r4t1 [11, 12, 13, 14, 15] (evOps call base [⟨some 16, (.call (.t 11) [(.t 15)]), none⟩] f H) := row_ops call it base _ _ _ f H
def s_slices_IndexFunc_int_int_r5 : List AOper := [
  ⟨some 17, (.move (.t 5)), none⟩,
  ⟨some 4, (.move (.t 17)), none⟩]
theorem s_slices_IndexFunc_int_int_r5_tale (fr : List V) (H : Heap) : evTale (symAll s_slices_IndexFunc_int_int_r5 [0, 1, 5, 7, 8, 16, 17] [4]) [0, 1, 5, 7, 8, 16, 17] fr H = evTale (some (18, [], [(4, (.t 5))])) [0, 1, 5, 7, 8, 16, 17] fr H := tale_row (items := [.tt 5, .tt 5]) (by kernel_rfl) fr H
def s_slices_IndexFunc_int_int_r6 : List AOper := [
  ⟨some 18, (.bin .add (.t 8) (.c (.s (.int .i64 1)))), none⟩,
  ⟨some 8, (.move (.t 18)), none⟩]
theorem s_slices_IndexFunc_int_int_r6_tale (fr : List V) (H : Heap) : evTale (symAll s_slices_IndexFunc_int_int_r6 [5, 16, 18] [8]) [5, 16, 18] fr H = evTale (some (19, [], [(8, (.op (.bin .add (.t 0) (.c (.s (.int .i64 1)))) [(.t 8), (.c (.s (.int .i64 1)))]))])) [5, 16, 18] fr H := tale_row (items := [.sub 0 [] [], .sub 0 [] []]) (by kernel_rfl) fr H
def s_slices_IndexFunc_int_int_l0_b : ACode :=
  (.seq (.regionE s_slices_IndexFunc_int_int_r2 [] [9])
  (.seq (.cond (.t 9)
  .skip
  (.exit 0))
  (.seq (.block 1
  (.seq (.regionE s_slices_IndexFunc_int_int_r3 [9, 10] [5])
  (.seq (.region s_slices_IndexFunc_int_int_r4 [] [11, 12, 13, 14, 15])
  (.cond (.t 16)
  (.seq (.regionE s_slices_IndexFunc_int_int_r5 [0, 1, 5, 7, 8, 16, 17] [4])
  .ret)
  .skip))))
  (.regionE s_slices_IndexFunc_int_int_r6 [5, 16, 18] [8]))))
def s_slices_IndexFunc_int_int_l0 : ACode := s_slices_IndexFunc_int_int_l0_b
theorem s_slices_IndexFunc_int_int_l0_ev (call : CallF) (it : IterF) (base : Nat) (fr : List V) (H : Heap) : evC call it base s_slices_IndexFunc_int_int_l0 fr H = evC call it base s_slices_IndexFunc_int_int_l0_b fr H := rfl
def s_slices_IndexFunc_int_int_r7 : List AOper := [
  ⟨some 4, (.move (.c (.s (.int .i64 (-1))))), none⟩]
theorem s_slices_IndexFunc_int_int_r7_tale (fr : List V) (H : Heap) : evTale (symAll s_slices_IndexFunc_int_int_r7 [0, 1, 7, 8, 9] [4]) [0, 1, 7, 8, 9] fr H = evTale (some (5, [], [(4, (.c (.s (.int .i64 (-1)))))])) [0, 1, 7, 8, 9] fr H := tale_row (items := [.cc (.s (.int .i64 (-1)))]) (by kernel_rfl) fr H
def s_slices_IndexFunc_int_int : ACFun := { ntmps := 19, results := [(.tmp 4)], body :=
  (.seq (.regionE s_slices_IndexFunc_int_int_r0 s_slices_IndexFunc_int_int_r0_k [])
  (.seq (.seq (.regionE s_slices_IndexFunc_int_int_r1 [6] [7, 8])
  (.block 0
  (.loop [] s_slices_IndexFunc_int_int_l0)))
  (.seq (.regionE s_slices_IndexFunc_int_int_r7 [0, 1, 7, 8, 9] [4])
  .ret))) }
/- 39 gnomon/gnomonref01.Has -/
abbrev k_gnomonref01_Has : Nat := 39
def s_gnomonref01_Has_r0_k : List Nat := [2, 3, 4, 5, 6, 7, 8, 9, 10, 11, 12, 13, 14, 15, 16, 17]
theorem s_gnomonref01_Has_r0_kT : killV s_gnomonref01_Has_r0_k (startV 18 [] 2) = [] := by kernel_rfl
theorem s_gnomonref01_Has_r0_kA0 : s_gnomonref01_Has_r0_k.contains 0 = false := by kernel_rfl
theorem s_gnomonref01_Has_r0_kA1 : s_gnomonref01_Has_r0_k.contains 1 = false := by kernel_rfl
def s_gnomonref01_Has_r0 : List AOper := [
  ⟨some 4, (.move (.c (.s (.bool false)))), none⟩]
theorem s_gnomonref01_Has_r0_tale (fr : List V) (H : Heap) : evTale (symAll s_gnomonref01_Has_r0 s_gnomonref01_Has_r0_k []) s_gnomonref01_Has_r0_k fr H = evTale (some (5, [], [])) s_gnomonref01_Has_r0_k fr H := tale_row (items := [.cc (.s (.bool false))]) (by kernel_rfl) fr H
def s_gnomonref01_Has_r1 : List AOper := [
  ⟨some 5, (.move (.c (.s (.int .i64 0)))), none⟩]
theorem s_gnomonref01_Has_r1_tale (fr : List V) (H : Heap) : evTale (symAll s_gnomonref01_Has_r1 [] [5]) [] fr H = evTale (some (6, [], [(5, (.c (.s (.int .i64 0))))])) [] fr H := tale_row (items := [.cc (.s (.int .i64 0))]) (by kernel_rfl) fr H
def s_gnomonref01_Has_r2 : List AOper := [
  ⟨some 6, (.move (.t 5)), none⟩,
  ⟨some 7, (.move (.t 0)), none⟩,
  ⟨some 8, (.lenS .s (.t 7)), none⟩,
  ⟨some 9, (.bin .lss (.t 6) (.t 8)), none⟩]
theorem s_gnomonref01_Has_r2_tale (fr : List V) (H : Heap) : evTale (symAll s_gnomonref01_Has_r2 [6, 7, 8] [9]) [6, 7, 8] fr H = evTale (some (10, [], [(9, (.op (.bin .lss (.t 0) (.t 1)) [(.t 5), (.op (.lenS .s (.t 0)) [(.t 0)])]))])) [6, 7, 8] fr H := tale_row (items := [.tt 5, .tt 0, .sub 0 [1] [], .sub 0 [] []]) (by kernel_rfl) fr H
def s_gnomonref01_Has_r3 : List AOper := [
  ⟨some 12, (.move (.t 0)), none⟩,
  ⟨some 13, (.move (.t 5)), none⟩,
  ⟨some 14, (.indexAddr 1 (.t 12) (.t 13)), none⟩,
  ⟨some 15, (.load false 1 (.t 14)), none⟩,
  ⟨some 16, (.move (.t 1)), none⟩,
  ⟨some 17, (.bin .eql (.t 15) (.t 16)), none⟩]
theorem s_gnomonref01_Has_r3_tale (fr : List V) (H : Heap) : evTale (symAll s_gnomonref01_Has_r3 [9, 12, 13, 14, 15, 16] [17]) [9, 12, 13, 14, 15, 16] fr H = evTale (some (18, [], [(17, (.op (.bin .eql (.t 0) (.t 1)) [(.op (.load false 1 (.t 0)) [(.op (.indexAddr 1 (.t 0) (.t 1)) [(.t 0), (.t 5)])]), (.t 1)]))])) [9, 12, 13, 14, 15, 16] fr H := tale_row (items := [.tt 0, .tt 5, .sub 0 [0, 0] [], .sub 0 [0] [], .tt 1, .sub 0 [] []]) (by kernel_rfl) fr H
def s_gnomonref01_Has_r4 : List AOper := [
  ⟨some 4, (.move (.c (.s (.bool true)))), none⟩]
theorem s_gnomonref01_Has_r4_tale (fr : List V) (H : Heap) : evTale (symAll s_gnomonref01_Has_r4 [0, 1, 5, 17] [4]) [0, 1, 5, 17] fr H = evTale (some (5, [], [(4, (.c (.s (.bool true))))])) [0, 1, 5, 17] fr H := tale_row (items := [.cc (.s (.bool true))]) (by kernel_rfl) fr H
def s_gnomonref01_Has_r5 : List AOper := [
  ⟨some 10, (.move (.t 5)), none⟩,
  ⟨some 11, (.bin .add (.t 10) (.c (.s (.int .i64 1)))), none⟩,
  ⟨some 5, (.move (.t 11)), none⟩]
theorem s_gnomonref01_Has_r5_tale (fr : List V) (H : Heap) : evTale (symAll s_gnomonref01_Has_r5 [10, 11, 17] [5]) [10, 11, 17] fr H = evTale (some (12, [], [(5, (.op (.bin .add (.t 0) (.c (.s (.int .i64 1)))) [(.t 5), (.c (.s (.int .i64 1)))]))])) [10, 11, 17] fr H := tale_row (items := [.tt 5, .sub 0 [] [], .sub 0 [] []]) (by kernel_rfl) fr H
def s_gnomonref01_Has_l0_b : ACode :=
  (.seq (.seq (.regionE s_gnomonref01_Has_r2 [6, 7, 8] [9])
  (.cond (.t 9)
  .skip
  (.exit 0)))
  (.seq (.block 1
  (.seq (.regionE s_gnomonref01_Has_r3 [9, 12, 13, 14, 15, 16] [17])
  (.cond (.t 17)
  (.seq (.regionE s_gnomonref01_Has_r4 [0, 1, 5, 17] [4])
  .ret)
  .skip)))
  (.regionE s_gnomonref01_Has_r5 [10, 11, 17] [5])))
def s_gnomonref01_Has_l0 : ACode := s_gnomonref01_Has_l0_b
theorem s_gnomonref01_Has_l0_ev (call : CallF) (it : IterF) (base : Nat) (fr : List V) (H : Heap) : evC call it base s_gnomonref01_Has_l0 fr H = evC call it base s_gnomonref01_Has_l0_b fr H := rfl
def s_gnomonref01_Has_r6 : List AOper := [
  ⟨some 4, (.move (.c (.s (.bool false)))), none⟩]
theorem s_gnomonref01_Has_r6_tale (fr : List V) (H : Heap) : evTale (symAll s_gnomonref01_Has_r6 [0, 1, 5, 9] [4]) [0, 1, 5, 9] fr H = evTale (some (5, [], [(4, (.c (.s (.bool false))))])) [0, 1, 5, 9] fr H := tale_row (items := [.cc (.s (.bool false))]) (by kernel_rfl) fr H
def s_gnomonref01_Has : ACFun := { ntmps := 18, results := [(.tmp 4)], body :=
  (.seq (.regionE s_gnomonref01_Has_r0 s_gnomonref01_Has_r0_k [])
  (.seq (.seq (.regionE s_gnomonref01_Has_r1 [] [5])
  (.block 0
  (.loop [] s_gnomonref01_Has_l0)))
  (.seq (.regionE s_gnomonref01_Has_r6 [0, 1, 5, 9] [4])
  .ret))) }
abbrev k_slices_Sort_int_int : Nat := 29
abbrev k_gnomonlaw07_wakes : Nat := 10
def a_gnomonlaw07_GraphForms := And.intro @s_gnomonlaw07_GraphForms_r0_tale (And.intro @s_gnomonlaw07_GraphForms_r0_kT (And.intro @s_gnomonlaw07_GraphForms_r0_kA0 (And.intro @s_gnomonlaw07_GraphForms_r1p0_tale (And.intro @s_gnomonlaw07_GraphForms_r1_x (And.intro @s_gnomonlaw07_GraphForms_r1t1_x (And.intro @s_gnomonlaw07_GraphForms_r2_x (And.intro @s_gnomonlaw07_GraphForms_r2t1_tale (And.intro @s_gnomonlaw07_GraphForms_r2t1_x (And.intro @s_gnomonlaw07_GraphForms_r3p0_tale (And.intro @s_gnomonlaw07_GraphForms_r3_x (And.intro @s_gnomonlaw07_GraphForms_r3t1_x (And.intro @s_gnomonlaw07_GraphForms_r3t2_tale (And.intro @s_gnomonlaw07_GraphForms_r3t2_x (And.intro @s_gnomonlaw07_GraphForms_r4p0_tale (And.intro @s_gnomonlaw07_GraphForms_r4_x (And.intro @s_gnomonlaw07_GraphForms_r4t1_x (And.intro @s_gnomonlaw07_GraphForms_r4p2_tale (And.intro @s_gnomonlaw07_GraphForms_r4t2_x (And.intro @s_gnomonlaw07_GraphForms_r4t3_x (And.intro @s_gnomonlaw07_GraphForms_r4t4_tale (And.intro @s_gnomonlaw07_GraphForms_r4t4_x (And.intro @s_gnomonlaw07_GraphForms_r5p0_tale (And.intro @s_gnomonlaw07_GraphForms_r5_x (And.intro @s_gnomonlaw07_GraphForms_r5t1_x (And.intro @s_gnomonlaw07_GraphForms_r5t2_x (And.intro @s_gnomonlaw07_GraphForms_r5p3_tale (And.intro @s_gnomonlaw07_GraphForms_r5t3_x (And.intro @s_gnomonlaw07_GraphForms_r5t4_x (And.intro @s_gnomonlaw07_GraphForms_r5t5_x (And.intro @s_gnomonlaw07_GraphForms_r5t6_x (And.intro @s_gnomonlaw07_GraphForms_r5t7_x (And.intro @s_gnomonlaw07_GraphForms_r5t8_tale (And.intro @s_gnomonlaw07_GraphForms_r5t8_x (And.intro @s_gnomonlaw07_GraphForms_r6_tale (And.intro @s_gnomonlaw07_GraphForms_r7_tale (And.intro @s_gnomonlaw07_GraphForms_r8_tale (And.intro @s_gnomonlaw07_GraphForms_r9_tale (And.intro @s_gnomonlaw07_GraphForms_r10_tale (And.intro @s_gnomonlaw07_GraphForms_r11p0_tale (And.intro @s_gnomonlaw07_GraphForms_r11_x (And.intro @s_gnomonlaw07_GraphForms_r11t1_x (And.intro @s_gnomonlaw07_GraphForms_r12_tale (And.intro @s_gnomonlaw07_GraphForms_l0_ev (And.intro @s_gnomonlaw07_GraphForms_r13_tale (And.intro @s_gnomonlaw07_GraphForms_l1_ev (And.intro @s_gnomonlaw07_GraphForms_r14p0_tale (And.intro @s_gnomonlaw07_GraphForms_r14_x (And.intro @s_gnomonlaw07_GraphForms_r14t1_x (And.intro @s_gnomonlaw07_GraphForms_r14p2_tale (And.intro @s_gnomonlaw07_GraphForms_r14t2_x (And.intro @s_gnomonlaw07_GraphForms_r14t3_x (And.intro @s_gnomonlaw07_GraphForms_r14t4_tale (@s_gnomonlaw07_GraphForms_r14t4_x)))))))))))))))))))))))))))))))))))))))))))))))))))))
def a_gnomonlaw07_great := And.intro @s_gnomonlaw07_great_r0_tale (And.intro @s_gnomonlaw07_great_r0_kT (And.intro @s_gnomonlaw07_great_r0_kA0 (And.intro @s_gnomonlaw07_great_r1_tale (And.intro @s_gnomonlaw07_great_r2_tale (And.intro @s_gnomonlaw07_great_r3_tale (And.intro @s_gnomonlaw07_great_r4_tale (And.intro @s_gnomonlaw07_great_r5_tale (And.intro @s_gnomonlaw07_great_r6_tale (And.intro @s_gnomonlaw07_great_r7_tale (And.intro @s_gnomonlaw07_great_r8_tale (And.intro @s_gnomonlaw07_great_r9_tale (And.intro @s_gnomonlaw07_great_l0_ev (@s_gnomonlaw07_great_r10_tale)))))))))))))
def a_gnomonlaw07_own := And.intro @s_gnomonlaw07_own_r0_tale (And.intro @s_gnomonlaw07_own_r0_kT (And.intro @s_gnomonlaw07_own_r0_kA0 (And.intro @s_gnomonlaw07_own_r1_tale (And.intro @s_gnomonlaw07_own_r2_tale (And.intro @s_gnomonlaw07_own_r3_tale (And.intro @s_gnomonlaw07_own_r4p0_tale (And.intro @s_gnomonlaw07_own_r4_x (And.intro @s_gnomonlaw07_own_r4t1_x (And.intro @s_gnomonlaw07_own_r4t2_x (And.intro @s_gnomonlaw07_own_r4t3_x (And.intro @s_gnomonlaw07_own_r4t4_tale (And.intro @s_gnomonlaw07_own_r4t4_x (And.intro @s_gnomonlaw07_own_r5_tale (And.intro @s_gnomonlaw07_own_l0_ev (@s_gnomonlaw07_own_r6_tale)))))))))))))))
def a_graph_Norm := And.intro @s_graph_Norm_r0_x (And.intro @s_graph_Norm_r0t1_tale (And.intro @s_graph_Norm_r0t1_x (And.intro @s_graph_Norm_r0_k_kA0 (And.intro @s_graph_Norm_r0_k_kA1 (And.intro @s_graph_Norm_r0_k_kA2 (And.intro @s_graph_Norm_r1p0_tale (And.intro @s_graph_Norm_r1_x (And.intro @s_graph_Norm_r1t1_x (And.intro @s_graph_Norm_r1t2_tale (And.intro @s_graph_Norm_r1t2_x (And.intro @s_graph_Norm_r2_tale (And.intro @s_graph_Norm_r3_tale (And.intro @s_graph_Norm_r4_tale (And.intro @s_graph_Norm_r5p0_tale (And.intro @s_graph_Norm_r5_x (And.intro @s_graph_Norm_r5t1_x (And.intro @s_graph_Norm_r5p2_tale (And.intro @s_graph_Norm_r5t2_x (And.intro @s_graph_Norm_r5t3_x (And.intro @s_graph_Norm_r5t4_tale (And.intro @s_graph_Norm_r5t4_x (And.intro @s_graph_Norm_r6p0_tale (And.intro @s_graph_Norm_r6_x (And.intro @s_graph_Norm_r6t1_x (And.intro @s_graph_Norm_r7p0_tale (And.intro @s_graph_Norm_r7_x (And.intro @s_graph_Norm_r7t1_x (And.intro @s_graph_Norm_r7p2_tale (And.intro @s_graph_Norm_r7t2_x (And.intro @s_graph_Norm_r7t3_x (And.intro @s_graph_Norm_r8_tale (And.intro @s_graph_Norm_l0_ev (@s_graph_Norm_r9_tale)))))))))))))))))))))))))))))))))
def a_graph_Back := And.intro @s_graph_Back_r0_tale (And.intro @s_graph_Back_r0_kT (And.intro @s_graph_Back_r0_kA0 (And.intro @s_graph_Back_r1p0_tale (And.intro @s_graph_Back_r1_x (And.intro @s_graph_Back_r1t1_x (And.intro @s_graph_Back_r1t2_tale (And.intro @s_graph_Back_r1t2_x (And.intro @s_graph_Back_r2p0_tale (And.intro @s_graph_Back_r2_x (And.intro @s_graph_Back_r2t1_x (And.intro @s_graph_Back_r2t2_tale (And.intro @s_graph_Back_r2t2_x (And.intro @s_graph_Back_r3_tale (And.intro @s_graph_Back_r4_tale (And.intro @s_graph_Back_r5_tale (And.intro @s_graph_Back_r6_tale (And.intro @s_graph_Back_r7_tale (And.intro @s_graph_Back_r8p0_tale (And.intro @s_graph_Back_r8_x (And.intro @s_graph_Back_r8t1_x (And.intro @s_graph_Back_r8t2_x (And.intro @s_graph_Back_r8p3_tale (And.intro @s_graph_Back_r8t3_x (And.intro @s_graph_Back_r8t4_x (And.intro @s_graph_Back_r9_tale (And.intro @s_graph_Back_l0_ev (And.intro @s_graph_Back_r10_tale (And.intro @s_graph_Back_l1_ev (@s_graph_Back_r11_tale)))))))))))))))))))))))))))))
def a_gnomonref07_Same := And.intro @s_gnomonref07_Same_r0_tale (And.intro @s_gnomonref07_Same_r0_kT (And.intro @s_gnomonref07_Same_r0_kA0 (And.intro @s_gnomonref07_Same_r0_kA1 (And.intro @s_gnomonref07_Same_r1_tale (And.intro @s_gnomonref07_Same_r2_tale (And.intro @s_gnomonref07_Same_r3_tale (And.intro @s_gnomonref07_Same_r4_tale (And.intro @s_gnomonref07_Same_r5p0_tale (And.intro @s_gnomonref07_Same_r5_x (And.intro @s_gnomonref07_Same_r5t1_x (And.intro @s_gnomonref07_Same_r5t2_tale (And.intro @s_gnomonref07_Same_r5t2_x (And.intro @s_gnomonref07_Same_r6_tale (And.intro @s_gnomonref07_Same_r7_tale (And.intro @s_gnomonref07_Same_l0_ev (@s_gnomonref07_Same_r8_tale))))))))))))))))
def a_gnomonref07_Norm := And.intro @s_gnomonref07_Norm_r0_tale (And.intro @s_gnomonref07_Norm_r0_kT (And.intro @s_gnomonref07_Norm_r0_kA0 (And.intro @s_gnomonref07_Norm_r1_tale (And.intro @s_gnomonref07_Norm_r2_tale (And.intro @s_gnomonref07_Norm_r3_tale (And.intro @s_gnomonref07_Norm_r4_tale (And.intro @s_gnomonref07_Norm_r5_tale (And.intro @s_gnomonref07_Norm_r6_tale (And.intro @s_gnomonref07_Norm_r7_tale (And.intro @s_gnomonref07_Norm_r8p0_tale (And.intro @s_gnomonref07_Norm_r8_x (And.intro @s_gnomonref07_Norm_r8t1_x (And.intro @s_gnomonref07_Norm_r8t2_tale (And.intro @s_gnomonref07_Norm_r8t2_x (And.intro @s_gnomonref07_Norm_r9_tale (And.intro @s_gnomonref07_Norm_l0_ev (And.intro @s_gnomonref07_Norm_r10p0_tale (And.intro @s_gnomonref07_Norm_r10_x (And.intro @s_gnomonref07_Norm_r10t1_x (And.intro @s_gnomonref07_Norm_r10t2_x (And.intro @s_gnomonref07_Norm_r10t3_tale (And.intro @s_gnomonref07_Norm_r10t3_x (And.intro @s_gnomonref07_Norm_r11_tale (And.intro @s_gnomonref07_Norm_l1_ev (@s_gnomonref07_Norm_r12_tale)))))))))))))))))))))))))
def a_gnomonref07_Back := And.intro @s_gnomonref07_Back_r0_tale (And.intro @s_gnomonref07_Back_r0_kT (And.intro @s_gnomonref07_Back_r0_kA0 (And.intro @s_gnomonref07_Back_r1p0_tale (And.intro @s_gnomonref07_Back_r1_x (And.intro @s_gnomonref07_Back_r1t1_x (And.intro @s_gnomonref07_Back_r1t2_tale (And.intro @s_gnomonref07_Back_r1t2_x (And.intro @s_gnomonref07_Back_r2p0_tale (And.intro @s_gnomonref07_Back_r2_x (And.intro @s_gnomonref07_Back_r2t1_x (And.intro @s_gnomonref07_Back_r2t2_tale (And.intro @s_gnomonref07_Back_r2t2_x (And.intro @s_gnomonref07_Back_r3_tale (And.intro @s_gnomonref07_Back_r4_tale (And.intro @s_gnomonref07_Back_r5_tale (And.intro @s_gnomonref07_Back_r6_tale (And.intro @s_gnomonref07_Back_r7_x (And.intro @s_gnomonref07_Back_r8_tale (And.intro @s_gnomonref07_Back_l0_ev (And.intro @s_gnomonref07_Back_r9_tale (And.intro @s_gnomonref07_Back_l1_ev (@s_gnomonref07_Back_r10_tale))))))))))))))))))))))
def a_gnomonref01_Same := And.intro @s_gnomonref01_Same_r0_tale (And.intro @s_gnomonref01_Same_r0_kT (And.intro @s_gnomonref01_Same_r0_kA0 (And.intro @s_gnomonref01_Same_r0_kA1 (And.intro @s_gnomonref01_Same_r1_tale (And.intro @s_gnomonref01_Same_r2_tale (And.intro @s_gnomonref01_Same_r3_tale (And.intro @s_gnomonref01_Same_r4_tale (And.intro @s_gnomonref01_Same_r5_tale (And.intro @s_gnomonref01_Same_r6_tale (And.intro @s_gnomonref01_Same_r7_tale (And.intro @s_gnomonref01_Same_l0_ev (@s_gnomonref01_Same_r8_tale))))))))))))
def a_slices_DeleteFunc_int_int := And.intro @s_slices_DeleteFunc_int_int_r0_tale (And.intro @s_slices_DeleteFunc_int_int_r0_kT (And.intro @s_slices_DeleteFunc_int_int_r0_kA0 (And.intro @s_slices_DeleteFunc_int_int_r0_kA1 (And.intro @s_slices_DeleteFunc_int_int_r1p0_tale (And.intro @s_slices_DeleteFunc_int_int_r1_x (And.intro @s_slices_DeleteFunc_int_int_r1t1_x (And.intro @s_slices_DeleteFunc_int_int_r1t2_tale (And.intro @s_slices_DeleteFunc_int_int_r1t2_x (And.intro @s_slices_DeleteFunc_int_int_r2_tale (And.intro @s_slices_DeleteFunc_int_int_r3_tale (And.intro @s_slices_DeleteFunc_int_int_r4_tale (And.intro @s_slices_DeleteFunc_int_int_r5_tale (And.intro @s_slices_DeleteFunc_int_int_r6_tale (And.intro @s_slices_DeleteFunc_int_int_r7p0_tale (And.intro @s_slices_DeleteFunc_int_int_r7_x (And.intro @s_slices_DeleteFunc_int_int_r7t1_x (And.intro @s_slices_DeleteFunc_int_int_r7t2_tale (And.intro @s_slices_DeleteFunc_int_int_r7t2_x (And.intro @s_slices_DeleteFunc_int_int_r8p0_tale (And.intro @s_slices_DeleteFunc_int_int_r8_x (And.intro @s_slices_DeleteFunc_int_int_r8t1_x (And.intro @s_slices_DeleteFunc_int_int_r9_tale (And.intro @s_slices_DeleteFunc_int_int_r10_tale (And.intro @s_slices_DeleteFunc_int_int_l0_ev (And.intro @s_slices_DeleteFunc_int_int_r11p0_tale (And.intro @s_slices_DeleteFunc_int_int_r11_x (And.intro @s_slices_DeleteFunc_int_int_r11t1_x (@s_slices_DeleteFunc_int_int_r12_tale))))))))))))))))))))))))))))
def a_slices_Clone_int_int := And.intro @s_slices_Clone_int_int_r0_tale (And.intro @s_slices_Clone_int_int_r0_kT (And.intro @s_slices_Clone_int_int_r0_kA0 (And.intro @s_slices_Clone_int_int_r1_tale (And.intro @s_slices_Clone_int_int_r2_tale (And.intro @s_slices_Clone_int_int_r3_x (And.intro @s_slices_Clone_int_int_r3p1_tale (And.intro @s_slices_Clone_int_int_r3t1_x (And.intro @s_slices_Clone_int_int_r3t2_x (And.intro @s_slices_Clone_int_int_r3t3_tale (@s_slices_Clone_int_int_r3t3_x))))))))))
def a_graph_Norm_1 := And.intro @s_graph_Norm_1_r0_tale (And.intro @s_graph_Norm_1_r0_kT (And.intro @s_graph_Norm_1_r0_kA0 (And.intro @s_graph_Norm_1_r0_kA1 (@s_graph_Norm_1_r1_tale))))
def a_slices_Compact_int_int := And.intro @s_slices_Compact_int_int_r0_tale (And.intro @s_slices_Compact_int_int_r0_kT (And.intro @s_slices_Compact_int_int_r0_kA0 (And.intro @s_slices_Compact_int_int_r1_tale (And.intro @s_slices_Compact_int_int_r2_tale (And.intro @s_slices_Compact_int_int_r3_tale (And.intro @s_slices_Compact_int_int_r4_tale (And.intro @s_slices_Compact_int_int_r5_tale (And.intro @s_slices_Compact_int_int_r6_tale (And.intro @s_slices_Compact_int_int_r7_tale (And.intro @s_slices_Compact_int_int_r8_tale (And.intro @s_slices_Compact_int_int_r9_tale (And.intro @s_slices_Compact_int_int_r10p0_tale (And.intro @s_slices_Compact_int_int_r10_x (And.intro @s_slices_Compact_int_int_r10t1_x (And.intro @s_slices_Compact_int_int_r11_tale (And.intro @s_slices_Compact_int_int_r12_tale (And.intro @s_slices_Compact_int_int_l0_ev (And.intro @s_slices_Compact_int_int_r13p0_tale (And.intro @s_slices_Compact_int_int_r13_x (And.intro @s_slices_Compact_int_int_r13t1_x (And.intro @s_slices_Compact_int_int_r14_tale (And.intro @s_slices_Compact_int_int_r15_tale (And.intro @s_slices_Compact_int_int_l1_ev (@s_slices_Compact_int_int_r16_tale))))))))))))))))))))))))
def a_gnomonref01_Add := And.intro @s_gnomonref01_Add_r0_tale (And.intro @s_gnomonref01_Add_r0_kT (And.intro @s_gnomonref01_Add_r0_kA0 (And.intro @s_gnomonref01_Add_r0_kA1 (And.intro @s_gnomonref01_Add_r1p0_tale (And.intro @s_gnomonref01_Add_r1_x (And.intro @s_gnomonref01_Add_r1t1_x (And.intro @s_gnomonref01_Add_r1t2_x (And.intro @s_gnomonref01_Add_r1t3_x (And.intro @s_gnomonref01_Add_r1t4_tale (And.intro @s_gnomonref01_Add_r1t4_x (And.intro @s_gnomonref01_Add_r2_tale (And.intro @s_gnomonref01_Add_r3_tale (And.intro @s_gnomonref01_Add_r4_tale (And.intro @s_gnomonref01_Add_r5_tale (And.intro @s_gnomonref01_Add_l0_ev (And.intro @s_gnomonref01_Add_r6p0_tale (And.intro @s_gnomonref01_Add_r6_x (And.intro @s_gnomonref01_Add_r6t1_x (And.intro @s_gnomonref01_Add_r6t2_tale (And.intro @s_gnomonref01_Add_r6t2_x (And.intro @s_gnomonref01_Add_r7p0_tale (And.intro @s_gnomonref01_Add_r7_x (And.intro @s_gnomonref01_Add_r7t1_x (And.intro @s_gnomonref01_Add_r7t2_x (And.intro @s_gnomonref01_Add_r7t3_tale (And.intro @s_gnomonref01_Add_r7t3_x (And.intro @s_gnomonref01_Add_r8p0_tale (And.intro @s_gnomonref01_Add_r8_x (And.intro @s_gnomonref01_Add_r8t1_x (And.intro @s_gnomonref01_Add_r8t2_tale (@s_gnomonref01_Add_r8t2_x)))))))))))))))))))))))))))))))
def a_slices_IndexFunc_int_int := And.intro @s_slices_IndexFunc_int_int_r0_tale (And.intro @s_slices_IndexFunc_int_int_r0_kT (And.intro @s_slices_IndexFunc_int_int_r0_kA0 (And.intro @s_slices_IndexFunc_int_int_r0_kA1 (And.intro @s_slices_IndexFunc_int_int_r1_tale (And.intro @s_slices_IndexFunc_int_int_r2_tale (And.intro @s_slices_IndexFunc_int_int_r3_tale (And.intro @s_slices_IndexFunc_int_int_r4p0_tale (And.intro @s_slices_IndexFunc_int_int_r4_x (And.intro @s_slices_IndexFunc_int_int_r4t1_x (And.intro @s_slices_IndexFunc_int_int_r5_tale (And.intro @s_slices_IndexFunc_int_int_r6_tale (And.intro @s_slices_IndexFunc_int_int_l0_ev (@s_slices_IndexFunc_int_int_r7_tale)))))))))))))
def a_gnomonref01_Has := And.intro @s_gnomonref01_Has_r0_tale (And.intro @s_gnomonref01_Has_r0_kT (And.intro @s_gnomonref01_Has_r0_kA0 (And.intro @s_gnomonref01_Has_r0_kA1 (And.intro @s_gnomonref01_Has_r1_tale (And.intro @s_gnomonref01_Has_r2_tale (And.intro @s_gnomonref01_Has_r3_tale (And.intro @s_gnomonref01_Has_r4_tale (And.intro @s_gnomonref01_Has_r5_tale (And.intro @s_gnomonref01_Has_l0_ev (@s_gnomonref01_Has_r6_tale))))))))))
def CS0 : Nat → Option CFun
  | 3 => some (.code s_gnomonlaw07_GraphForms)
  | 9 => some (.code s_gnomonlaw07_great)
  | 11 => some (.code s_gnomonlaw07_own)
  | 12 => some (.code s_graph_Norm)
  | 13 => some (.code s_graph_Back)
  | 14 => some (.code s_gnomonref07_Same)
  | 15 => some (.code s_gnomonref07_Norm)
  | 16 => some (.code s_gnomonref07_Back)
  | 22 => some (.code s_gnomonref01_Same)
  | 26 => some (.code s_slices_DeleteFunc_int_int)
  | 27 => some (.code s_slices_Clone_int_int)
  | 28 => some (.code s_graph_Norm_1)
  | 30 => some (.code s_slices_Compact_int_int)
  | 31 => some (.code s_gnomonref01_Add)
  | 33 => some (.code s_slices_IndexFunc_int_int)
  | 39 => some (.code s_gnomonref01_Has)
  | _ => none
theorem CS0_3 : compK Try.prog (fun _ => false) 3 = some (false, s_gnomonlaw07_GraphForms.ntmps, s_gnomonlaw07_GraphForms.results, s_gnomonlaw07_GraphForms.body.bare) := by kernel_rfl
theorem CS0_9 : compK Try.prog (fun _ => false) 9 = some (false, s_gnomonlaw07_great.ntmps, s_gnomonlaw07_great.results, s_gnomonlaw07_great.body.bare) := by kernel_rfl
theorem CS0_11 : compK Try.prog (fun _ => false) 11 = some (false, s_gnomonlaw07_own.ntmps, s_gnomonlaw07_own.results, s_gnomonlaw07_own.body.bare) := by kernel_rfl
theorem CS0_12 : compK Try.prog (fun _ => false) 12 = some (false, s_graph_Norm.ntmps, s_graph_Norm.results, s_graph_Norm.body.bare) := by kernel_rfl
theorem CS0_13 : compK Try.prog (fun _ => false) 13 = some (false, s_graph_Back.ntmps, s_graph_Back.results, s_graph_Back.body.bare) := by kernel_rfl
theorem CS0_14 : compK Try.prog (fun _ => false) 14 = some (false, s_gnomonref07_Same.ntmps, s_gnomonref07_Same.results, s_gnomonref07_Same.body.bare) := by kernel_rfl
theorem CS0_15 : compK Try.prog (fun _ => false) 15 = some (false, s_gnomonref07_Norm.ntmps, s_gnomonref07_Norm.results, s_gnomonref07_Norm.body.bare) := by kernel_rfl
theorem CS0_16 : compK Try.prog (fun _ => false) 16 = some (false, s_gnomonref07_Back.ntmps, s_gnomonref07_Back.results, s_gnomonref07_Back.body.bare) := by kernel_rfl
theorem CS0_22 : compK Try.prog (fun _ => false) 22 = some (false, s_gnomonref01_Same.ntmps, s_gnomonref01_Same.results, s_gnomonref01_Same.body.bare) := by kernel_rfl
theorem CS0_26 : compK Try.prog (fun _ => false) 26 = some (false, s_slices_DeleteFunc_int_int.ntmps, s_slices_DeleteFunc_int_int.results, s_slices_DeleteFunc_int_int.body.bare) := by kernel_rfl
theorem CS0_27 : compK Try.prog (fun _ => false) 27 = some (false, s_slices_Clone_int_int.ntmps, s_slices_Clone_int_int.results, s_slices_Clone_int_int.body.bare) := by kernel_rfl
theorem CS0_28 : compK Try.prog (fun _ => false) 28 = some (false, s_graph_Norm_1.ntmps, s_graph_Norm_1.results, s_graph_Norm_1.body.bare) := by kernel_rfl
theorem CS0_30 : compK Try.prog (fun _ => false) 30 = some (false, s_slices_Compact_int_int.ntmps, s_slices_Compact_int_int.results, s_slices_Compact_int_int.body.bare) := by kernel_rfl
theorem CS0_31 : compK Try.prog (fun _ => false) 31 = some (false, s_gnomonref01_Add.ntmps, s_gnomonref01_Add.results, s_gnomonref01_Add.body.bare) := by kernel_rfl
theorem CS0_33 : compK Try.prog (fun _ => false) 33 = some (false, s_slices_IndexFunc_int_int.ntmps, s_slices_IndexFunc_int_int.results, s_slices_IndexFunc_int_int.body.bare) := by kernel_rfl
theorem CS0_39 : compK Try.prog (fun _ => false) 39 = some (false, s_gnomonref01_Has.ntmps, s_gnomonref01_Has.results, s_gnomonref01_Has.body.bare) := by kernel_rfl
theorem CS0_ok : ∀ k c, CS0 k = some c → FunOk Try.prog (fun _ => false) k c := by
  intro k c h
  unfold CS0 at h
  split at h
  · cases h; exact funOk_of CS0_3
  · cases h; exact funOk_of CS0_9
  · cases h; exact funOk_of CS0_11
  · cases h; exact funOk_of CS0_12
  · cases h; exact funOk_of CS0_13
  · cases h; exact funOk_of CS0_14
  · cases h; exact funOk_of CS0_15
  · cases h; exact funOk_of CS0_16
  · cases h; exact funOk_of CS0_22
  · cases h; exact funOk_of CS0_26
  · cases h; exact funOk_of CS0_27
  · cases h; exact funOk_of CS0_28
  · cases h; exact funOk_of CS0_30
  · cases h; exact funOk_of CS0_31
  · cases h; exact funOk_of CS0_33
  · cases h; exact funOk_of CS0_39
  · cases h

end Go.Proofs.Ytmnlagcmpgilaaa
set_option maxRecDepth 100000
namespace Go.Proofs.Ytmnlagcmpgilaaa
open Go.AM
/-- slices.IndexFunc -/
def idx (p : V → Bool) : List V → Nat → Option Nat
  | [], _ => none
  | x :: l, i => if p x then some i else idx p l (i + 1)
def idxV : Option Nat → V
  | some i => .s (.int .i64 i)
  | none => .s (.int .i64 (-1))
theorem index_loop (call : CallF) (base : Nat) (H : Heap) (v f : V) (cs : List V) (hv : Rd H v cs) (hw : Wide1 v) (hn : cs.length < 2 ^ 62) (p : V → Bool) (hp : ∀ x ∈ cs, call f [x] base H = some (.s (.bool (p x)), H)) :
    ∀ (l : List V) (i : Nat), cs.drop i = l → i ≤ cs.length →
    itW (evC call itW base s_slices_IndexFunc_int_int_l0) [] H.length (frOf 19 [(0, v), (1, f), (7, .s (.int .i64 cs.length)), (8, .s (.int .i64 i))]) H =
    match idx p l i with
    | some j => some (.ret, frOf 19 [(4, .s (.int .i64 j))], H)
    | none => some (.ext 0, frOf 19 [(0, v), (1, f), (7, .s (.int .i64 cs.length)), (8, .s (.int .i64 cs.length)), (9, .s (.bool false))], H) := by
  intro l
  induction l with
  | nil =>
    intro i hd hi
    have hin : i = cs.length := by
      have := congrArg List.length hd
      rw [List.length_drop] at this
      simp at this
      omega
    subst hin
    rw [itW_step]
    simp only [a_slices_IndexFunc_int_int,s_slices_IndexFunc_int_int_l0_b, am0,am1,am2,am3,am4,am5,am6,am7,bl,i64,reduceIte,reduceCtorEq,Nat.reduceEqDiff,Nat.reduceLT,Nat.reduceLeDiff,Nat.reduceBEq,Nat.reduceAdd,fillA,splice,Nat.reduceMul,al0,al1,al2,al3,al4,al5,al6,al7,al8,al9,al10,al11,al12,al13,al14,al15,al16,al17,al18,al19,al20,al21,al22,al23,al24,al25,al26,al27,al28,al29,al30,al31,al32,al33,al34, Int.lt_irrefl, idx]
  | cons x l ih =>
    intro i hd hi
    have hc : cs[i]? = some x := by have := congrArg (·[0]?) hd; simp only [List.getElem?_drop] at this; exact this
    have hlt : i < cs.length := (List.getElem?_eq_some_iff.1 hc).1
    have hi' : ((i : Int) < (cs.length : Int)) := by omega
    have hd' : cs.drop (i + 1) = l := by
      have := congrArg (List.drop 1) hd
      simpa [List.drop_drop, Nat.add_comm] using this
    obtain ⟨a, ha1, ha2⟩ := hv.at' hw hc
    have hcall := hp x (List.mem_of_getElem? hc)
    rw [itW_step]
    cases hx : p x with
    | true => simp only [a_slices_IndexFunc_int_int,s_slices_IndexFunc_int_int_l0_b, am0,am1,am2,am3,am4,am5,am6,am7,bl,i64,reduceIte,reduceCtorEq,Nat.reduceEqDiff,Nat.reduceLT,Nat.reduceLeDiff,Nat.reduceBEq,Nat.reduceAdd,fillA,splice,Nat.reduceMul,al0,al1,al2,al3,al4,al5,al6,al7,al8,al9,al10,al11,al12,al13,al14,al15,al16,al17,al18,al19,al20,al21,al22,al23,al24,al25,al26,al27,al28,al29,al30,al31,al32,al33,al34, hi', ha1, ha2, hcall, hx, idx]
    | false =>
      simp only [a_slices_IndexFunc_int_int,s_slices_IndexFunc_int_int_l0_b, am0,am1,am2,am3,am4,am5,am6,am7,bl,i64,reduceIte,reduceCtorEq,Nat.reduceEqDiff,Nat.reduceLT,Nat.reduceLeDiff,Nat.reduceBEq,Nat.reduceAdd,fillA,splice,Nat.reduceMul,al0,al1,al2,al3,al4,al5,al6,al7,al8,al9,al10,al11,al12,al13,al14,al15,al16,al17,al18,al19,al20,al21,al22,al23,al24,al25,al26,al27,al28,al29,al30,al31,al32,al33,al34, hi', ha1, ha2, hcall, hx, idx, wrap_pos (n := i) (by omega)]
      exact ih (i + 1) hd' hlt
theorem index_fun {CT : Nat → Option CFun} (hT : CT k_slices_IndexFunc_int_int = some (.code s_slices_IndexFunc_int_int)) (base : Nat) (H : Heap) (v f : V) (cs : List V) (hv : Rd H v cs) (hw : Wide1 v) (hn : cs.length < 2 ^ 62) (p : V → Bool) (hp : ∀ x ∈ cs, callW CT f [x] base H = some (.s (.bool (p x)), H)) :
    callW CT (.fn k_slices_IndexFunc_int_int [] []) [v, f] base H = some (idxV (idx p cs 0), H) := by
  refine callW_fn (c := s_slices_IndexFunc_int_int) hT (by simp [s_slices_IndexFunc_int_int]) ?_
  have hl := index_loop (callW CT) base H v f cs hv hw hn p hp cs 0 rfl (Nat.zero_le _)
  rw [show ((0 : Nat) : Int) = 0 from rfl] at hl
  simp only [s_slices_IndexFunc_int_int, a_slices_IndexFunc_int_int,s_slices_IndexFunc_int_int_l0_b, am0,am1,am2,am3,am4,am5,am6,am7,bl,i64,reduceIte,reduceCtorEq,Nat.reduceEqDiff,Nat.reduceLT,Nat.reduceLeDiff,Nat.reduceBEq,Nat.reduceAdd,fillA,splice,Nat.reduceMul,al0,al1,al2,al3,al4,al5,al6,al7,al8,al9,al10,al11,al12,al13,al14,al15,al16,al17,al18,al19,al20,al21,al22,al23,al24,al25,al26,al27,al28,al29,al30,al31,al32,al33,al34, hv.len, hl]
  cases idx p cs 0 <;> simp only [a_slices_IndexFunc_int_int,s_slices_IndexFunc_int_int_l0_b, am0,am1,am2,am3,am4,am5,am6,am7,bl,i64,reduceIte,reduceCtorEq,Nat.reduceEqDiff,Nat.reduceLT,Nat.reduceLeDiff,Nat.reduceBEq,Nat.reduceAdd,fillA,splice,Nat.reduceMul,al0,al1,al2,al3,al4,al5,al6,al7,al8,al9,al10,al11,al12,al13,al14,al15,al16,al17,al18,al19,al20,al21,al22,al23,al24,al25,al26,al27,al28,al29,al30,al31,al32,al33,al34, idxV]
/-- what is left of some values: in place, from the i-th kept on, as far as the j-th -/
def keepAt (p : V → Bool) : List V → (i : Nat) → List V → List V × Nat
  | [], i, c => (c, i)
  | x :: l, i, c => if p x then keepAt p l i c else keepAt p l (i + 1) (c.set i x)
theorem delete_loop (call : CallF) (base : Nat) (f : V) (id g n : Nat) (hb : base ≤ id) (hn : n < 2 ^ 62) (p : V → Bool) (Q : V → Prop) (hQ : ∀ x, Q x → x.one = true) (H : Heap) (hp : ∀ x, Q x → ∀ c, c.length = n → call f [x] base (H.set id (.cells g c)) = some (.s (.bool (p x)), H.set id (.cells g c))) (hid : id < H.length) :
    ∀ (l : List V) (j i : Nat) (c : List V), c.length = n → c.drop j = l → (∀ x ∈ c, Q x) → i < j → j ≤ n →
    itW (evC call itW base s_slices_DeleteFunc_int_int_l0) [] H.length (frOf 42 [(0, .sl id g 0 n 1), (1, f), (5, .s (.int .i64 i)), (6, .s (.int .i64 j))]) (H.set id (.cells g c)) =
    some (.ext 0, frOf 42 [(0, .sl id g 0 n 1), (1, f), (5, .s (.int .i64 (keepAt p l i c).2)), (6, .s (.int .i64 n)), (19, .s (.bool false))], H.set id (.cells g (keepAt p l i c).1)) := by
  intro l
  induction l with
  | nil =>
    intro j i c hc hd ho hij hj
    have hin : j = n := by
      have := congrArg List.length hd
      rw [List.length_drop] at this
      simp at this
      omega
    subst hin
    rw [itW_step]
    have hL : (H.set id (.cells g c)).length = H.length := List.length_set
    simp only [a_slices_DeleteFunc_int_int,s_slices_DeleteFunc_int_int_l0_b, am0,am1,am2,am3,am4,am5,am6,am7,bl,i64,reduceIte,reduceCtorEq,Nat.reduceEqDiff,Nat.reduceLT,Nat.reduceLeDiff,Nat.reduceBEq,Nat.reduceAdd,fillA,splice,Nat.reduceMul,al0,al1,al2,al3,al4,al5,al6,al7,al8,al9,al10,al11,al12,al13,al14,al15,al16,al17,al18,al19,al20,al21,al22,al23,al24,al25,al26,al27,al28,al29,al30,al31,al32,al33,al34, Int.lt_irrefl, keepAt, trim_same hL]
  | cons x l ih =>
    intro j i c hc hd ho hij hj
    have hcx : c[j]? = some x := by have := congrArg (·[0]?) hd; simp only [List.getElem?_drop] at this; exact this
    have hlt : j < n := by have := (List.getElem?_eq_some_iff.1 hcx).1; omega
    have hd' : c.drop (j + 1) = l := by
      have := congrArg (List.drop 1) hd
      simpa [List.drop_drop, Nat.add_comm] using this
    have hxQ : Q x := ho x (List.mem_of_getElem? hcx)
    have hx1 : x.one = true := hQ x hxQ
    have hg : getC (H.set id (.cells g c)) id g = some c := by simp [getC, hid]
    have hrd : Rd (H.set id (.cells g c)) (.sl id g 0 n 1) c := by
      have := Rd.sl hg (off := 0) (n := n) (by omega)
      rwa [List.drop_zero, List.take_of_length_le (by omega)] at this
    obtain ⟨a, ha1, ha2⟩ := hrd.at' trivial hcx
    have hcall := hp x hxQ c hc
    have hi' : ((j : Int) < (n : Int)) := by omega
    have hL : ∀ c, (H.set id (.cells g c)).length = H.length := fun c => List.length_set
    rw [itW_step]
    have hii : (i : Int) < (n : Int) := by omega
    have hst := storeV_at (v := x) hg hb hx1 (off := i) (by omega)
    cases hpx : p x with
    | true =>
      simp only [a_slices_DeleteFunc_int_int,s_slices_DeleteFunc_int_int_l0_b, am0,am1,am2,am3,am4,am5,am6,am7,bl,i64,reduceIte,reduceCtorEq,Nat.reduceEqDiff,Nat.reduceLT,Nat.reduceLeDiff,Nat.reduceBEq,Nat.reduceAdd,fillA,splice,Nat.reduceMul,al0,al1,al2,al3,al4,al5,al6,al7,al8,al9,al10,al11,al12,al13,al14,al15,al16,al17,al18,al19,al20,al21,al22,al23,al24,al25,al26,al27,al28,al29,al30,al31,al32,al33,al34, hi', ha1, ha2, hcall, hpx, keepAt, wrap_pos (n := j) (by omega), trim_same (hL _)]
      exact ih (j + 1) i c hc hd' ho (by omega) (by omega)
    | false =>
      simp only [a_slices_DeleteFunc_int_int,s_slices_DeleteFunc_int_int_l0_b, am0,am1,am2,am3,am4,am5,am6,am7,bl,i64,reduceIte,reduceCtorEq,Nat.reduceEqDiff,Nat.reduceLT,Nat.reduceLeDiff,Nat.reduceBEq,Nat.reduceAdd,fillA,splice,Nat.reduceMul,al0,al1,al2,al3,al4,al5,al6,al7,al8,al9,al10,al11,al12,al13,al14,al15,al16,al17,al18,al19,al20,al21,al22,al23,al24,al25,al26,al27,al28,al29,al30,al31,al32,al33,al34, hi', ha1, ha2, hcall, hpx, keepAt, wrap_pos (n := j) (by omega), wrap_pos (n := i) (by omega), trim_same (hL _), hii, hst]
      have hd2 : (c.set i x).drop (j + 1) = l := by rw [List.drop_set_of_lt (by omega), hd']
      exact ih (j + 1) (i + 1) (c.set i x) (by rw [List.length_set]; exact hc) hd2 (fun y hy => by
        rcases List.mem_or_eq_of_mem_set hy with h | h
        · exact ho y h
        · rw [h]; exact hxQ) (by omega) (by omega)
theorem keepAt_spec (p : V → Bool) : ∀ (l : List V) (i : Nat) (c : List V), i + l.length ≤ c.length → (keepAt p l i c).2 = i + (l.filter fun x => !p x).length ∧ (keepAt p l i c).1.length = c.length ∧ (keepAt p l i c).1.take (keepAt p l i c).2 = c.take i ++ l.filter fun x => !p x := by
  intro l
  induction l with
  | nil => intro i c _; simp [keepAt]
  | cons x l ih =>
    intro i c h
    simp only [List.length_cons] at h
    simp only [keepAt, List.filter_cons]
    cases hp : p x with
    | true => simpa using ih i c (by omega)
    | false =>
      obtain ⟨h1, h2, h3⟩ := ih (i + 1) (c.set i x) (by rw [List.length_set]; omega)
      rw [List.length_set] at h2
      refine ⟨by simp [h1]; omega, by simpa using h2, ?_⟩
      have : (c.set i x).take (i + 1) = c.take i ++ [x] := by
        rw [List.take_succ_eq_append_getElem (by rw [List.length_set]; omega), List.take_set_of_le (Nat.le_refl _)]
        simp
      simp only [Bool.false_eq_true, if_false, Bool.not_false, if_true]
      rw [h3, this, List.append_assoc]
      rfl
theorem idx_none {p : V → Bool} : ∀ {l : List V} {i : Nat}, idx p l i = none → l.filter (fun x => !p x) = l := by
  intro l
  induction l with
  | nil => intro i _; rfl
  | cons x l ih =>
    intro i h
    simp only [idx] at h
    cases hp : p x with
    | true => simp [hp] at h
    | false =>
      rw [hp] at h
      simp [hp, ih (by simpa using h)]
theorem idx_some {p : V → Bool} : ∀ {l : List V} {i j : Nat}, idx p l i = some j → ∃ k, j = i + k ∧ k < l.length ∧ (l.take k).filter (fun x => !p x) = l.take k ∧ (l.drop k).filter (fun x => !p x) = (l.drop (k + 1)).filter (fun x => !p x) := by
  intro l
  induction l with
  | nil => intro i j h; cases h
  | cons x l ih =>
    intro i j h
    simp only [idx] at h
    cases hp : p x with
    | true =>
      rw [hp] at h
      simp at h
      exact ⟨0, by omega, by simp, rfl, by simp [hp]⟩
    | false =>
      rw [hp] at h
      obtain ⟨k, h1, h2, h3, h4⟩ := ih (i := i + 1) (by simpa using h)
      exact ⟨k + 1, by omega, by simpa using h2, by simp [hp, h3], by simpa using h4⟩
theorem delete_fun {CT : Nat → Option CFun} (hT : CT k_slices_DeleteFunc_int_int = some (.code s_slices_DeleteFunc_int_int)) (hT2 : CT k_slices_IndexFunc_int_int = some (.code s_slices_IndexFunc_int_int))
    (base : Nat) (H : Heap) (f : V) (id g n : Nat) (c : List V) (hc : getC H id g = some c) (hl : c.length = n) (Q : V → Prop) (hQ : ∀ x, Q x → x.one = true) (ho : ∀ x ∈ c, Q x) (hb : base ≤ id) (hn : n < 2 ^ 62) (p : V → Bool)
    (hp : ∀ x, Q x → ∀ c, c.length = n → callW CT f [x] base (H.set id (.cells g c)) = some (.s (.bool (p x)), H.set id (.cells g c))) :
    ∃ c', callW CT (.fn k_slices_DeleteFunc_int_int [] []) [.sl id g 0 n 1, f] base H = some (.sl id g 0 (c.filter fun x => !p x).length 1, H.set id (.cells g c')) ∧ c'.length = n ∧ c'.take (c.filter fun x => !p x).length = c.filter fun x => !p x := by
  have hid : id < H.length := by
    unfold getC at hc
    split at hc
    · rename_i hh; exact (List.getElem?_eq_some_iff.1 hh).1
    · cases hc
  have hrd : Rd H (.sl id g 0 n 1) c := by
    have := Rd.sl hc (off := 0) (n := n) (by omega)
    rwa [List.drop_zero, List.take_of_length_le (by omega)] at this
  have hix := index_fun hT2 base H (.sl id g 0 n 1) f c hrd trivial (by omega) p (fun x hx => by have := hp x (ho x hx) c hl; rwa [getC_same hc] at this)
  cases hi : idx p c 0 with
  | none =>
    have hfl := idx_none hi
    refine ⟨c, ?_, hl, by rw [hfl, List.take_length]⟩
    rw [getC_same hc, hfl, hl]
    refine callW_fn (c := s_slices_DeleteFunc_int_int) hT (by simp [s_slices_DeleteFunc_int_int]) ?_
    rw [hi] at hix
    simp only [s_slices_DeleteFunc_int_int, a_slices_DeleteFunc_int_int,s_slices_DeleteFunc_int_int_l0_b, am0,am1,am2,am3,am4,am5,am6,am7,bl,i64,reduceIte,reduceCtorEq,Nat.reduceEqDiff,Nat.reduceLT,Nat.reduceLeDiff,Nat.reduceBEq,Nat.reduceAdd,fillA,splice,Nat.reduceMul,al0,al1,al2,al3,al4,al5,al6,al7,al8,al9,al10,al11,al12,al13,al14,al15,al16,al17,al18,al19,al20,al21,al22,al23,al24,al25,al26,al27,al28,al29,al30,al31,al32,al33,al34, hix, idxV]
  | some j =>
    rw [hi] at hix
    obtain ⟨k, hjk, hk, h3, h4⟩ := idx_some hi
    obtain rfl : j = k := by omega
    have hlp := delete_loop (callW CT) base f id g n hb hn p Q hQ H hp hid (c.drop (j + 1)) (j + 1) j c hl rfl ho (by omega) (by omega)
    obtain ⟨q1, q2, q3⟩ := keepAt_spec p (c.drop (j + 1)) j c (by simp; omega)
    have hft : c.filter (fun x => !p x) = c.take j ++ (c.drop (j + 1)).filter fun x => !p x := by
      rw [← h3, ← h4, ← List.filter_append, List.take_append_drop]
    have hk2 : (keepAt p (c.drop (j + 1)) j c).2 = (c.filter fun x => !p x).length := by rw [q1, hft, List.length_append, List.length_take]; omega
    rw [hk2] at q3 hlp
    have hkn : (c.filter fun x => !p x).length ≤ n := by rw [← hl]; exact List.length_filter_le _ _
    generalize hK : (c.filter fun x => !p x).length = K at *
    generalize hC : (keepAt p (c.drop (j + 1)) j c).1 = C at *
    refine ⟨C.take K ++ (List.replicate (n - K) [V.s (.int .i64 0)]).flatten ++ C.drop (K + (n - K)), ?_, ?_, ?_⟩
    · refine callW_fn (c := s_slices_DeleteFunc_int_int) hT (by simp [s_slices_DeleteFunc_int_int]) ?_
      have hg' : getC (H.set id (.cells g C)) id g = some C := by simp [getC, hid]
      have hcl := clear_at (zero := [.s (.int .i64 0)]) (off := K) (len := n - K) hg' hb rfl rfl (by rw [q2]; omega)
      rw [getC_same hc] at hlp
      have hjw := wrap_pos (n := j) (by omega)
      have hj0 : ((j : Int) == -1) = false := by rw [beq_eq_false_iff_ne]; omega
      have hk1 : (K : Int) ≤ (n : Int) := by omega
      have hk2 : ((n : Int) - (K : Int)).toNat = n - K := by omega
      simp only [s_slices_DeleteFunc_int_int, a_slices_DeleteFunc_int_int,s_slices_DeleteFunc_int_int_l0_b, am0,am1,am2,am3,am4,am5,am6,am7,bl,i64,reduceIte,reduceCtorEq,Nat.reduceEqDiff,Nat.reduceLT,Nat.reduceLeDiff,Nat.reduceBEq,Nat.reduceAdd,fillA,splice,Nat.reduceMul,al0,al1,al2,al3,al4,al5,al6,al7,al8,al9,al10,al11,al12,al13,al14,al15,al16,al17,al18,al19,al20,al21,al22,al23,al24,al25,al26,al27,al28,al29,al30,al31,al32,al33,al34, hix, idxV, hjw, hlp, hj0, hk1, hk2, hcl]
    · simp [q2]; omega
    · rw [hft, ← q3, List.append_assoc, List.take_append_of_le_length (by rw [List.length_take]; omega), List.take_take, Nat.min_self]
end Go.Proofs.Ytmnlagcmpgilaaa
set_option maxRecDepth 100000
namespace Go.Proofs.Ytmnlagcmpgilaaa
open Go.AM
/-- A slice of the call's own: it begins with these values. -/
def Own (H0 H : Heap) (v : V) (l : List Int) : Prop :=
  Ext H0 H ∧ ((l = [] ∧ (v = nilS ∨ v = .esl)) ∨ ∃ id g c, v = .sl id g 0 l.length 1 ∧ getC H id g = some c ∧ l.length ≤ c.length ∧ c.take l.length = l.map iV ∧ H0.length ≤ id)
theorem Own.rd {H0 H : Heap} {v : V} {l : List Int} (h : Own H0 H v l) : Rd H v (l.map iV) := by
  rcases h.2 with ⟨rfl, rfl | rfl⟩ | ⟨id, g, c, rfl, hc, hl, ht, _⟩
  · exact Rd.nil H
  · exact Rd.esl H
  · have := Rd.sl hc (off := 0) (n := l.length) (by omega)
    rwa [List.drop_zero, ht] at this
theorem Own.wide {H0 H : Heap} {v : V} {l : List Int} (h : Own H0 H v l) : Wide1 v := by
  rcases h.2 with ⟨_, rfl | rfl⟩ | ⟨_, _, _, rfl, _⟩ <;> trivial
theorem ones (l : List Int) : (l.map iV).all V.one = true := by
  rw [List.all_eq_true]
  intro x hx
  obtain ⟨n, _, rfl⟩ := List.mem_map.1 hx
  rfl
/-- Is it nil? -/
def nilV : V → Bool
  | .s (.slice none 0 0) => true
  | _ => false
theorem rd_isNil {H : Heap} {v : V} {l : List V} (h : Rd H v l) : xEqNil .s false v = some (.s (.bool (nilV v))) := by
  rcases h.cases with ⟨_, rfl | rfl⟩ | ⟨es, rfl, _⟩ | ⟨id, g, off, n, c, rfl, _⟩ <;> rfl
/-- slices.Clone -/
theorem clone_fun {CT : Nat → Option CFun} (hT : CT k_slices_Clone_int_int = some (.code s_slices_Clone_int_int)) (base : Nat) (H : Heap) (v : V) (l : List Int) (hv : Rd H v (l.map iV)) (hn : l.length * 8 ≤ 2 ^ 47) :
    ∃ r H', callW CT (.fn k_slices_Clone_int_int [] []) [v] base H = some (r, H') ∧ Ext H H' ∧ ((l = [] ∧ (r = nilS ∨ r = .esl)) ∨ ∃ id, r = .sl id 0 0 l.length 1 ∧ getC H' id 0 = some (l.map iV) ∧ H.length ≤ id) := by
  have hnil := rd_isNil hv
  cases hz : nilV v with
  | true =>
    have hvn : v = nilS := by
      unfold nilV at hz
      split at hz
      · rfl
      · cases hz
    subst hvn
    have hl : l = [] := by
      have := hv.2
      simp only [nilS, elems] at this
      cases l with
      | nil => rfl
      | cons a l => simp at this
    refine ⟨nilS, H, callW_fn (c := s_slices_Clone_int_int) hT (by simp [s_slices_Clone_int_int]) ?_, Ext.refl H, .inl ⟨hl, .inl rfl⟩⟩
    simp only [s_slices_Clone_int_int, a_slices_Clone_int_int, am0,am1,am2,am3,am4,am5,am6,am7,bl,i64,reduceIte,reduceCtorEq,Nat.reduceEqDiff,Nat.reduceLT,Nat.reduceLeDiff,Nat.reduceBEq,Nat.reduceAdd,fillA,splice,Nat.reduceMul,al0,al1,al2,al3,al4,al5,al6,al7,al8,al9,al10,al11,al12,al13,al14,al15,al16,al17,al18,al19,al20,al21,al22,al23,al24,al25,al26,al27,al28,al29,al30,al31,al32,al33,al34, nilS]
  | false =>
    rw [hz] at hnil
    have hap := appendV_esl (base := base) (bytes := 8) (hv.app [Ob.cells 0 []]) (ones l) (by rw [List.length_map]; exact hn)
    by_cases hl : l.length = 0
    · have hl' : l = [] := List.eq_nil_of_length_eq_zero hl
      rw [List.length_map, if_pos hl] at hap
      refine ⟨.esl, H ++ [.cells 0 []], callW_fn (c := s_slices_Clone_int_int) hT (by simp [s_slices_Clone_int_int]) ?_, Ext.app _ _, .inl ⟨hl', .inr rfl⟩⟩
      simp only [s_slices_Clone_int_int, a_slices_Clone_int_int, am0,am1,am2,am3,am4,am5,am6,am7,bl,i64,reduceIte,reduceCtorEq,Nat.reduceEqDiff,Nat.reduceLT,Nat.reduceLeDiff,Nat.reduceBEq,Nat.reduceAdd,fillA,splice,Nat.reduceMul,al0,al1,al2,al3,al4,al5,al6,al7,al8,al9,al10,al11,al12,al13,al14,al15,al16,al17,al18,al19,al20,al21,al22,al23,al24,al25,al26,al27,al28,al29,al30,al31,al32,al33,al34, hnil, hap]
    · rw [List.length_map, if_neg hl, len_snoc] at hap
      refine ⟨.sl (H.length + 1) 0 0 l.length 1, H ++ [.cells 0 []] ++ [.cells 0 (l.map iV)], callW_fn (c := s_slices_Clone_int_int) hT (by simp [s_slices_Clone_int_int]) ?_, (Ext.app _ _).trans (Ext.app _ _), .inr ⟨H.length + 1, rfl, ?_, by omega⟩⟩
      · simp only [s_slices_Clone_int_int, a_slices_Clone_int_int, am0,am1,am2,am3,am4,am5,am6,am7,bl,i64,reduceIte,reduceCtorEq,Nat.reduceEqDiff,Nat.reduceLT,Nat.reduceLeDiff,Nat.reduceBEq,Nat.reduceAdd,fillA,splice,Nat.reduceMul,al0,al1,al2,al3,al4,al5,al6,al7,al8,al9,al10,al11,al12,al13,al14,al15,al16,al17,al18,al19,al20,al21,al22,al23,al24,al25,al26,al27,al28,al29,al30,al31,al32,al33,al34, hnil, hap]
      · simp only [am0,am1,am2,am3,am4,am5,am6,am7,bl,i64,reduceIte,reduceCtorEq,Nat.reduceEqDiff,Nat.reduceLT,Nat.reduceLeDiff,Nat.reduceBEq,Nat.reduceAdd,fillA,splice,Nat.reduceMul,al0,al1,al2,al3,al4,al5,al6,al7,al8,al9,al10,al11,al12,al13,al14,al15,al16,al17,al18,al19,al20,al21,al22,al23,al24,al25,al26,al27,al28,al29,al30,al31,al32,al33,al34]
/-- graph.Norm's closure: may a node not be? -/
theorem norm1_fun {CT : Nat → Option CFun} (hT : CT k_graph_Norm_1 = some (.code s_graph_Norm_1)) (base : Nat) (H : Heap) (id : Nat) (v : V) (hc : getC H id 0 = some [v]) (n : Nat) (hv : xLen H .s v = some (.s (.int .i64 n))) (k : Int) :
    callW CT (.fn k_graph_Norm_1 [] [.ref id 0 0]) [iV k] base H = some (.s (.bool (decide (k < 0) || decide (k ≥ n))), H) := by
  refine callW_fn (c := s_graph_Norm_1) hT (by simp [s_graph_Norm_1]) ?_
  simp only [s_graph_Norm_1, a_graph_Norm_1, am0,am1,am2,am3,am4,am5,am6,am7,bl,i64,reduceIte,reduceCtorEq,Nat.reduceEqDiff,Nat.reduceLT,Nat.reduceLeDiff,Nat.reduceBEq,Nat.reduceAdd,fillA,splice,Nat.reduceMul,al0,al1,al2,al3,al4,al5,al6,al7,al8,al9,al10,al11,al12,al13,al14,al15,al16,al17,al18,al19,al20,al21,al22,al23,al24,al25,al26,al27,al28,al29,al30,al31,al32,al33,al34, iV, hc, hv]
end Go.Proofs.Ytmnlagcmpgilaaa
