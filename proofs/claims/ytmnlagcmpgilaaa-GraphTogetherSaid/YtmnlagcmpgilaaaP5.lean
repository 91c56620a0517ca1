/- Texts of the proof: GraphS2, AmO, GraphF15, GraphF16, GraphF17, GraphF18, GraphF19, GraphF20, GraphF21. -/
import Derived.Test.YtmnlagcmpgilaaaP0
import Derived.Test.YtmnlagcmpgilaaaP1
import Derived.Test.YtmnlagcmpgilaaaP2
import Derived.Test.YtmnlagcmpgilaaaP3
import Derived.Test.YtmnlagcmpgilaaaP4
set_option linter.all false
/- Functions of the given program, their rows told as expressions (the rest). -/
set_option maxRecDepth 100000
namespace Go.Proofs.Ytmnlagcmpgilaaa
open Go.AM

/- 4 gnomon/gnomonlaw07.GraphWays -/
abbrev k_gnomonlaw07_GraphWays : Nat := 4
def s_gnomonlaw07_GraphWays_r0_k : List Nat := [4, 5, 6, 7, 8, 9, 10, 11, 12, 13, 14, 15, 16, 17, 18, 19, 20, 21, 22, 23, 24, 25, 26, 27, 28, 29, 30, 31, 32, 33, 34, 35, 36, 37, 38, 39, 40, 41, 42, 43, 44, 45, 46]
theorem s_gnomonlaw07_GraphWays_r0_kT : killV s_gnomonlaw07_GraphWays_r0_k (startV 47 [] 4) = [] := by kernel_rfl
theorem s_gnomonlaw07_GraphWays_r0_kA0 : s_gnomonlaw07_GraphWays_r0_k.contains 0 = false := by kernel_rfl
theorem s_gnomonlaw07_GraphWays_r0_kA1 : s_gnomonlaw07_GraphWays_r0_k.contains 1 = false := by kernel_rfl
theorem s_gnomonlaw07_GraphWays_r0_kA2 : s_gnomonlaw07_GraphWays_r0_k.contains 2 = false := by kernel_rfl
theorem s_gnomonlaw07_GraphWays_r0_kA3 : s_gnomonlaw07_GraphWays_r0_k.contains 3 = false := by kernel_rfl
def s_gnomonlaw07_GraphWays_r0 : List AOper := [
  ⟨some 8, (.move (.c (.s (.bool false)))), none⟩]
theorem s_gnomonlaw07_GraphWays_r0_tale (fr : List V) (H : Heap) : evTale (symAll s_gnomonlaw07_GraphWays_r0 s_gnomonlaw07_GraphWays_r0_k []) s_gnomonlaw07_GraphWays_r0_k fr H = evTale (some (9, [], [])) s_gnomonlaw07_GraphWays_r0_k fr H := tale_row (items := [.cc (.s (.bool false))]) (by kernel_rfl) fr H
def s_gnomonlaw07_GraphWays_r1t2 : List AOper := [⟨some 11, (.move (.t 10)), none⟩, ⟨some 12, (.move (.t 1)), some (11, false)⟩, ⟨some 13, (.lenS .s (.t 12)), some (11, false)⟩, ⟨some 14, (.bin .gtr (.t 13) (.c (.s (.int .i64 200)))), some (11, false)⟩, ⟨some 15, (.pick (.t 11) (.c (.s (.bool true))) (.t 14)), none⟩]
def s_gnomonlaw07_GraphWays_r1p1 : List AOper := [⟨some 10, (.call (.c (.fn 9 [] [])) [(.t 9)]), none⟩]
def s_gnomonlaw07_GraphWays_r1t1 : List AOper := s_gnomonlaw07_GraphWays_r1p1 ++ s_gnomonlaw07_GraphWays_r1t2
def s_gnomonlaw07_GraphWays_r1p0 : List AOper := [⟨some 9, (.move (.t 0)), none⟩]
def s_gnomonlaw07_GraphWays_r1 : List AOper := s_gnomonlaw07_GraphWays_r1p0 ++ s_gnomonlaw07_GraphWays_r1t1
theorem s_gnomonlaw07_GraphWays_r1p0_tale (fr : List V) (H : Heap) : evTale (symAll s_gnomonlaw07_GraphWays_r1p0 [] [9]) [] fr H = evTale (some (10, [], [(9, (.t 0))])) [] fr H := tale_row (items := [.tt 0]) (by kernel_rfl) fr H
theorem s_gnomonlaw07_GraphWays_r1_x (call : CallF) (it : IterF) (base : Nat) (f : List V) (H : Heap) : evC call it base (.region s_gnomonlaw07_GraphWays_r1 [] [9, 10, 11, 12, 13, 14]) f H = segC call it base s_gnomonlaw07_GraphWays_r1t1 [9, 10, 11, 12, 13, 14] H (evTale (symAll s_gnomonlaw07_GraphWays_r1p0 [] [9]) [] f H) (origRow call it base s_gnomonlaw07_GraphWays_r1 [9, 10, 11, 12, 13, 14] f H) := row_seg call it base s_gnomonlaw07_GraphWays_r1p0 s_gnomonlaw07_GraphWays_r1t1 (by kernel_rfl) f H
theorem s_gnomonlaw07_GraphWays_r1t1_x (call : CallF) (it : IterF) (base : Nat) (f : List V) (H : Heap) : evC call it base (.region s_gnomonlaw07_GraphWays_r1t1 [] [9, 10, 11, 12, 13, 14]) f H = thenC call it base (.region s_gnomonlaw07_GraphWays_r1t2 [] [9, 10, 11, 12, 13, 14]) (opsC [] s_gnomonlaw07_GraphWays_r1p1 [9] (evOps call base [⟨some 10, (.call (.c (.fn 9 [] [])) [(.t 9)]), none⟩] f H)) := (row_op call it base s_gnomonlaw07_GraphWays_r1p1 s_gnomonlaw07_GraphWays_r1t2 (kc := [9]) (by kernel_rfl) f H).trans (by rw [row_ops]; rfl)
theorem s_gnomonlaw07_GraphWays_r1t2_tale (fr : List V) (H : Heap) : evTale (symAll s_gnomonlaw07_GraphWays_r1t2 [9, 10, 11, 12, 13, 14] [15]) [9, 10, 11, 12, 13, 14] fr H = evTale (some (16, [], [(15, (.pick (.t 10) (.c (.s (.bool true))) (.op (.bin .gtr (.t 0) (.c (.s (.int .i64 200)))) [(.op (.lenS .s (.t 0)) [(.t 1)]), (.c (.s (.int .i64 200)))])))])) [9, 10, 11, 12, 13, 14] fr H := tale_row (items := [.tt 10, .sub 0 [2, 0, 0] [11], .sub 0 [2, 0] [11], .sub 0 [2] [11], .sub 0 [] []]) (by kernel_rfl) fr H
theorem s_gnomonlaw07_GraphWays_r1t2_x (call : CallF) (it : IterF) (base : Nat) (f : List V) (H : Heap) : evC call it base (.region s_gnomonlaw07_GraphWays_r1t2 [] [9, 10, 11, 12, 13, 14]) f H = segL H (evTale (symAll s_gnomonlaw07_GraphWays_r1t2 [9, 10, 11, 12, 13, 14] [15]) [9, 10, 11, 12, 13, 14] f H) (origRow call it base s_gnomonlaw07_GraphWays_r1t2 [9, 10, 11, 12, 13, 14] f H) := row_last call it base _ f H
def s_gnomonlaw07_GraphWays_r2t1 : List AOper := [⟨some 8, (.move (.t 16)), none⟩]
def s_gnomonlaw07_GraphWays_r2p0 : List AOper := [⟨some 16, (.call (.c (.fn 10 [] [])) []), none⟩]
def s_gnomonlaw07_GraphWays_r2 : List AOper := s_gnomonlaw07_GraphWays_r2p0 ++ s_gnomonlaw07_GraphWays_r2t1
theorem s_gnomonlaw07_GraphWays_r2_x (call : CallF) (it : IterF) (base : Nat) (f : List V) (H : Heap) : evC call it base (.region s_gnomonlaw07_GraphWays_r2 [] [0, 1, 2, 3, 15, 16]) f H = thenC call it base (.region s_gnomonlaw07_GraphWays_r2t1 [] [0, 1, 2, 3, 15, 16]) (opsC [] s_gnomonlaw07_GraphWays_r2p0 [0, 1, 2, 3, 15] (evOps call base [⟨some 16, (.call (.c (.fn 10 [] [])) []), none⟩] f H)) := (row_op call it base s_gnomonlaw07_GraphWays_r2p0 s_gnomonlaw07_GraphWays_r2t1 (kc := [0, 1, 2, 3, 15]) (by kernel_rfl) f H).trans (by rw [row_ops]; rfl)
theorem s_gnomonlaw07_GraphWays_r2t1_tale (fr : List V) (H : Heap) : evTale (symAll s_gnomonlaw07_GraphWays_r2t1 [0, 1, 2, 3, 15, 16] [8]) [0, 1, 2, 3, 15, 16] fr H = evTale (some (9, [], [(8, (.t 16))])) [0, 1, 2, 3, 15, 16] fr H := tale_row (items := [.tt 16]) (by kernel_rfl) fr H
theorem s_gnomonlaw07_GraphWays_r2t1_x (call : CallF) (it : IterF) (base : Nat) (f : List V) (H : Heap) : evC call it base (.region s_gnomonlaw07_GraphWays_r2t1 [] [0, 1, 2, 3, 15, 16]) f H = segL H (evTale (symAll s_gnomonlaw07_GraphWays_r2t1 [0, 1, 2, 3, 15, 16] [8]) [0, 1, 2, 3, 15, 16] f H) (origRow call it base s_gnomonlaw07_GraphWays_r2t1 [0, 1, 2, 3, 15, 16] f H) := row_last call it base _ f H
def s_gnomonlaw07_GraphWays_r3t24 : List AOper := [⟨some 46, (.pick (.t 44) (.t 45) (.c (.s (.bool false)))), none⟩, ⟨some 8, (.move (.t 46)), none⟩]
def s_gnomonlaw07_GraphWays_r3p23 : List AOper := [⟨some 45, (.call (.c (.fn 10 [] [])) []), some (44, true)⟩]
def s_gnomonlaw07_GraphWays_r3t23 : List AOper := s_gnomonlaw07_GraphWays_r3p23 ++ s_gnomonlaw07_GraphWays_r3t24
def s_gnomonlaw07_GraphWays_r3p22 : List AOper := [⟨some 43, (.pick (.t 35) (.t 42) (.c (.s (.bool false)))), none⟩, ⟨some 44, (.move (.t 43)), none⟩]
def s_gnomonlaw07_GraphWays_r3t22 : List AOper := s_gnomonlaw07_GraphWays_r3p22 ++ s_gnomonlaw07_GraphWays_r3t23
def s_gnomonlaw07_GraphWays_r3p21 : List AOper := [⟨some 42, (.call (.c (.fn 22 [] [])) [(.t 38), (.t 41)]), some (35, true)⟩]
def s_gnomonlaw07_GraphWays_r3t21 : List AOper := s_gnomonlaw07_GraphWays_r3p21 ++ s_gnomonlaw07_GraphWays_r3t22
def s_gnomonlaw07_GraphWays_r3p20 : List AOper := [⟨some 41, (.call (.c (.fn 24 [] [])) [(.t 39), (.t 40)]), some (35, true)⟩]
def s_gnomonlaw07_GraphWays_r3t20 : List AOper := s_gnomonlaw07_GraphWays_r3p20 ++ s_gnomonlaw07_GraphWays_r3t21
def s_gnomonlaw07_GraphWays_r3p19 : List AOper := [⟨some 40, (.move (.t 2)), some (35, true)⟩]
def s_gnomonlaw07_GraphWays_r3t19 : List AOper := s_gnomonlaw07_GraphWays_r3p19 ++ s_gnomonlaw07_GraphWays_r3t20
def s_gnomonlaw07_GraphWays_r3p18 : List AOper := [⟨some 39, (.move (.t 0)), some (35, true)⟩]
def s_gnomonlaw07_GraphWays_r3t18 : List AOper := s_gnomonlaw07_GraphWays_r3p18 ++ s_gnomonlaw07_GraphWays_r3t19
def s_gnomonlaw07_GraphWays_r3p17 : List AOper := [⟨some 38, (.call (.c (.fn 23 [] [])) [(.t 36), (.t 37)]), some (35, true)⟩]
def s_gnomonlaw07_GraphWays_r3t17 : List AOper := s_gnomonlaw07_GraphWays_r3p17 ++ s_gnomonlaw07_GraphWays_r3t18
def s_gnomonlaw07_GraphWays_r3p16 : List AOper := [⟨some 37, (.move (.t 2)), some (35, true)⟩]
def s_gnomonlaw07_GraphWays_r3t16 : List AOper := s_gnomonlaw07_GraphWays_r3p16 ++ s_gnomonlaw07_GraphWays_r3t17
def s_gnomonlaw07_GraphWays_r3p15 : List AOper := [⟨some 36, (.move (.t 0)), some (35, true)⟩]
def s_gnomonlaw07_GraphWays_r3t15 : List AOper := s_gnomonlaw07_GraphWays_r3p15 ++ s_gnomonlaw07_GraphWays_r3t16
def s_gnomonlaw07_GraphWays_r3p14 : List AOper := [⟨some 33, (.eqB false (.t 28) (.t 32)), some (24, true)⟩, ⟨some 34, (.pick (.t 24) (.t 33) (.c (.s (.bool false)))), none⟩, ⟨some 35, (.move (.t 34)), none⟩]
def s_gnomonlaw07_GraphWays_r3t14 : List AOper := s_gnomonlaw07_GraphWays_r3p14 ++ s_gnomonlaw07_GraphWays_r3t15
def s_gnomonlaw07_GraphWays_r3p13 : List AOper := [⟨some 32, (.call (.c (.fn 21 [] [])) [(.t 29), (.t 30), (.t 31)]), some (24, true)⟩]
def s_gnomonlaw07_GraphWays_r3t13 : List AOper := s_gnomonlaw07_GraphWays_r3p13 ++ s_gnomonlaw07_GraphWays_r3t14
def s_gnomonlaw07_GraphWays_r3p12 : List AOper := [⟨some 31, (.move (.t 3)), some (24, true)⟩]
def s_gnomonlaw07_GraphWays_r3t12 : List AOper := s_gnomonlaw07_GraphWays_r3p12 ++ s_gnomonlaw07_GraphWays_r3t13
def s_gnomonlaw07_GraphWays_r3p11 : List AOper := [⟨some 30, (.move (.t 2)), some (24, true)⟩]
def s_gnomonlaw07_GraphWays_r3t11 : List AOper := s_gnomonlaw07_GraphWays_r3p11 ++ s_gnomonlaw07_GraphWays_r3t12
def s_gnomonlaw07_GraphWays_r3p10 : List AOper := [⟨some 29, (.move (.t 0)), some (24, true)⟩]
def s_gnomonlaw07_GraphWays_r3t10 : List AOper := s_gnomonlaw07_GraphWays_r3p10 ++ s_gnomonlaw07_GraphWays_r3t11
def s_gnomonlaw07_GraphWays_r3p9 : List AOper := [⟨some 28, (.call (.c (.fn 20 [] [])) [(.t 25), (.t 26), (.t 27)]), some (24, true)⟩]
def s_gnomonlaw07_GraphWays_r3t9 : List AOper := s_gnomonlaw07_GraphWays_r3p9 ++ s_gnomonlaw07_GraphWays_r3t10
def s_gnomonlaw07_GraphWays_r3p8 : List AOper := [⟨some 27, (.move (.t 3)), some (24, true)⟩]
def s_gnomonlaw07_GraphWays_r3t8 : List AOper := s_gnomonlaw07_GraphWays_r3p8 ++ s_gnomonlaw07_GraphWays_r3t9
def s_gnomonlaw07_GraphWays_r3p7 : List AOper := [⟨some 26, (.move (.t 2)), some (24, true)⟩]
def s_gnomonlaw07_GraphWays_r3t7 : List AOper := s_gnomonlaw07_GraphWays_r3p7 ++ s_gnomonlaw07_GraphWays_r3t8
def s_gnomonlaw07_GraphWays_r3p6 : List AOper := [⟨some 25, (.move (.t 0)), some (24, true)⟩]
def s_gnomonlaw07_GraphWays_r3t6 : List AOper := s_gnomonlaw07_GraphWays_r3p6 ++ s_gnomonlaw07_GraphWays_r3t7
def s_gnomonlaw07_GraphWays_r3p5 : List AOper := [⟨some 24, (.move (.t 23)), none⟩]
def s_gnomonlaw07_GraphWays_r3t5 : List AOper := s_gnomonlaw07_GraphWays_r3p5 ++ s_gnomonlaw07_GraphWays_r3t6
def s_gnomonlaw07_GraphWays_r3p4 : List AOper := [⟨some 23, (.call (.c (.fn 17 [] [])) [(.t 19), (.t 22)]), none⟩]
def s_gnomonlaw07_GraphWays_r3t4 : List AOper := s_gnomonlaw07_GraphWays_r3p4 ++ s_gnomonlaw07_GraphWays_r3t5
def s_gnomonlaw07_GraphWays_r3p3 : List AOper := [⟨some 22, (.call (.c (.fn 19 [] [])) [(.t 20), (.t 21)]), none⟩]
def s_gnomonlaw07_GraphWays_r3t3 : List AOper := s_gnomonlaw07_GraphWays_r3p3 ++ s_gnomonlaw07_GraphWays_r3t4
def s_gnomonlaw07_GraphWays_r3p2 : List AOper := [⟨some 20, (.move (.t 0)), none⟩, ⟨some 21, (.move (.t 1)), none⟩]
def s_gnomonlaw07_GraphWays_r3t2 : List AOper := s_gnomonlaw07_GraphWays_r3p2 ++ s_gnomonlaw07_GraphWays_r3t3
def s_gnomonlaw07_GraphWays_r3p1 : List AOper := [⟨some 19, (.call (.c (.fn 18 [] [])) [(.t 17), (.t 18)]), none⟩]
def s_gnomonlaw07_GraphWays_r3t1 : List AOper := s_gnomonlaw07_GraphWays_r3p1 ++ s_gnomonlaw07_GraphWays_r3t2
def s_gnomonlaw07_GraphWays_r3p0 : List AOper := [⟨some 17, (.move (.t 0)), none⟩, ⟨some 18, (.move (.t 1)), none⟩]
def s_gnomonlaw07_GraphWays_r3 : List AOper := s_gnomonlaw07_GraphWays_r3p0 ++ s_gnomonlaw07_GraphWays_r3t1
theorem s_gnomonlaw07_GraphWays_r3p0_tale (fr : List V) (H : Heap) : evTale (symAll s_gnomonlaw07_GraphWays_r3p0 [15] [17, 18]) [15] fr H = evTale (some (19, [], [(17, (.t 0)), (18, (.t 1))])) [15] fr H := tale_row (items := [.tt 0, .tt 1]) (by kernel_rfl) fr H
theorem s_gnomonlaw07_GraphWays_r3_x (call : CallF) (it : IterF) (base : Nat) (f : List V) (H : Heap) : evC call it base (.region s_gnomonlaw07_GraphWays_r3 [] [0, 1, 2, 3, 15, 17, 18, 19, 20, 21, 22, 23, 24, 25, 26, 27, 28, 29, 30, 31, 32, 33, 34, 35, 36, 37, 38, 39, 40, 41, 42, 43, 44, 45, 46]) f H = segC call it base s_gnomonlaw07_GraphWays_r3t1 [0, 1, 2, 3, 15, 17, 18, 19, 20, 21, 22, 23, 24, 25, 26, 27, 28, 29, 30, 31, 32, 33, 34, 35, 36, 37, 38, 39, 40, 41, 42, 43, 44, 45, 46] H (evTale (symAll s_gnomonlaw07_GraphWays_r3p0 [15] [17, 18]) [15] f H) (origRow call it base s_gnomonlaw07_GraphWays_r3 [0, 1, 2, 3, 15, 17, 18, 19, 20, 21, 22, 23, 24, 25, 26, 27, 28, 29, 30, 31, 32, 33, 34, 35, 36, 37, 38, 39, 40, 41, 42, 43, 44, 45, 46] f H) := row_seg call it base s_gnomonlaw07_GraphWays_r3p0 s_gnomonlaw07_GraphWays_r3t1 (by kernel_rfl) f H
theorem s_gnomonlaw07_GraphWays_r3t1_x (call : CallF) (it : IterF) (base : Nat) (f : List V) (H : Heap) : evC call it base (.region s_gnomonlaw07_GraphWays_r3t1 [] [0, 1, 2, 3, 15, 17, 18, 19, 20, 21, 22, 23, 24, 25, 26, 27, 28, 29, 30, 31, 32, 33, 34, 35, 36, 37, 38, 39, 40, 41, 42, 43, 44, 45, 46]) f H = thenC call it base (.region s_gnomonlaw07_GraphWays_r3t2 [] [0, 1, 2, 3, 15, 17, 18, 19, 20, 21, 22, 23, 24, 25, 26, 27, 28, 29, 30, 31, 32, 33, 34, 35, 36, 37, 38, 39, 40, 41, 42, 43, 44, 45, 46]) (opsC [] s_gnomonlaw07_GraphWays_r3p1 [17, 18] (evOps call base [⟨some 19, (.call (.c (.fn 18 [] [])) [(.t 17), (.t 18)]), none⟩] f H)) := (row_op call it base s_gnomonlaw07_GraphWays_r3p1 s_gnomonlaw07_GraphWays_r3t2 (kc := [17, 18]) (by kernel_rfl) f H).trans (by rw [row_ops]; rfl)
theorem s_gnomonlaw07_GraphWays_r3p2_tale (fr : List V) (H : Heap) : evTale (symAll s_gnomonlaw07_GraphWays_r3p2 [1] [20, 21]) [1] fr H = evTale (some (22, [], [(20, (.t 0)), (21, (.t 1))])) [1] fr H := tale_row (items := [.tt 0, .tt 1]) (by kernel_rfl) fr H
theorem s_gnomonlaw07_GraphWays_r3t2_x (call : CallF) (it : IterF) (base : Nat) (f : List V) (H : Heap) : evC call it base (.region s_gnomonlaw07_GraphWays_r3t2 [] [0, 1, 2, 3, 15, 17, 18, 19, 20, 21, 22, 23, 24, 25, 26, 27, 28, 29, 30, 31, 32, 33, 34, 35, 36, 37, 38, 39, 40, 41, 42, 43, 44, 45, 46]) f H = segC call it base s_gnomonlaw07_GraphWays_r3t3 [0, 1, 2, 3, 15, 17, 18, 19, 20, 21, 22, 23, 24, 25, 26, 27, 28, 29, 30, 31, 32, 33, 34, 35, 36, 37, 38, 39, 40, 41, 42, 43, 44, 45, 46] H (evTale (symAll s_gnomonlaw07_GraphWays_r3p2 [1] [20, 21]) [1] f H) (origRow call it base s_gnomonlaw07_GraphWays_r3t2 [0, 1, 2, 3, 15, 17, 18, 19, 20, 21, 22, 23, 24, 25, 26, 27, 28, 29, 30, 31, 32, 33, 34, 35, 36, 37, 38, 39, 40, 41, 42, 43, 44, 45, 46] f H) := row_seg call it base s_gnomonlaw07_GraphWays_r3p2 s_gnomonlaw07_GraphWays_r3t3 (by kernel_rfl) f H
theorem s_gnomonlaw07_GraphWays_r3t3_x (call : CallF) (it : IterF) (base : Nat) (f : List V) (H : Heap) : evC call it base (.region s_gnomonlaw07_GraphWays_r3t3 [] [0, 1, 2, 3, 15, 17, 18, 19, 20, 21, 22, 23, 24, 25, 26, 27, 28, 29, 30, 31, 32, 33, 34, 35, 36, 37, 38, 39, 40, 41, 42, 43, 44, 45, 46]) f H = thenC call it base (.region s_gnomonlaw07_GraphWays_r3t4 [] [0, 1, 2, 3, 15, 17, 18, 19, 20, 21, 22, 23, 24, 25, 26, 27, 28, 29, 30, 31, 32, 33, 34, 35, 36, 37, 38, 39, 40, 41, 42, 43, 44, 45, 46]) (opsC [] s_gnomonlaw07_GraphWays_r3p3 [20, 21] (evOps call base [⟨some 22, (.call (.c (.fn 19 [] [])) [(.t 20), (.t 21)]), none⟩] f H)) := (row_op call it base s_gnomonlaw07_GraphWays_r3p3 s_gnomonlaw07_GraphWays_r3t4 (kc := [20, 21]) (by kernel_rfl) f H).trans (by rw [row_ops]; rfl)
theorem s_gnomonlaw07_GraphWays_r3t4_x (call : CallF) (it : IterF) (base : Nat) (f : List V) (H : Heap) : evC call it base (.region s_gnomonlaw07_GraphWays_r3t4 [] [0, 1, 2, 3, 15, 17, 18, 19, 20, 21, 22, 23, 24, 25, 26, 27, 28, 29, 30, 31, 32, 33, 34, 35, 36, 37, 38, 39, 40, 41, 42, 43, 44, 45, 46]) f H = thenC call it base (.region s_gnomonlaw07_GraphWays_r3t5 [] [0, 1, 2, 3, 15, 17, 18, 19, 20, 21, 22, 23, 24, 25, 26, 27, 28, 29, 30, 31, 32, 33, 34, 35, 36, 37, 38, 39, 40, 41, 42, 43, 44, 45, 46]) (opsC [] s_gnomonlaw07_GraphWays_r3p4 [19, 22] (evOps call base [⟨some 23, (.call (.c (.fn 17 [] [])) [(.t 19), (.t 22)]), none⟩] f H)) := (row_op call it base s_gnomonlaw07_GraphWays_r3p4 s_gnomonlaw07_GraphWays_r3t5 (kc := [19, 22]) (by kernel_rfl) f H).trans (by rw [row_ops]; rfl)
theorem s_gnomonlaw07_GraphWays_r3p5_tale (fr : List V) (H : Heap) : evTale (symAll s_gnomonlaw07_GraphWays_r3p5 [23] [24]) [23] fr H = evTale (some (25, [], [(24, (.t 23))])) [23] fr H := tale_row (items := [.tt 23]) (by kernel_rfl) fr H
theorem s_gnomonlaw07_GraphWays_r3t5_x (call : CallF) (it : IterF) (base : Nat) (f : List V) (H : Heap) : evC call it base (.region s_gnomonlaw07_GraphWays_r3t5 [] [0, 1, 2, 3, 15, 17, 18, 19, 20, 21, 22, 23, 24, 25, 26, 27, 28, 29, 30, 31, 32, 33, 34, 35, 36, 37, 38, 39, 40, 41, 42, 43, 44, 45, 46]) f H = segC call it base s_gnomonlaw07_GraphWays_r3t6 [0, 1, 2, 3, 15, 17, 18, 19, 20, 21, 22, 23, 24, 25, 26, 27, 28, 29, 30, 31, 32, 33, 34, 35, 36, 37, 38, 39, 40, 41, 42, 43, 44, 45, 46] H (evTale (symAll s_gnomonlaw07_GraphWays_r3p5 [23] [24]) [23] f H) (origRow call it base s_gnomonlaw07_GraphWays_r3t5 [0, 1, 2, 3, 15, 17, 18, 19, 20, 21, 22, 23, 24, 25, 26, 27, 28, 29, 30, 31, 32, 33, 34, 35, 36, 37, 38, 39, 40, 41, 42, 43, 44, 45, 46] f H) := row_seg call it base s_gnomonlaw07_GraphWays_r3p5 s_gnomonlaw07_GraphWays_r3t6 (by kernel_rfl) f H
theorem s_gnomonlaw07_GraphWays_r3t6_x (call : CallF) (it : IterF) (base : Nat) (f : List V) (H : Heap) : evC call it base (.region s_gnomonlaw07_GraphWays_r3t6 [] [0, 1, 2, 3, 15, 17, 18, 19, 20, 21, 22, 23, 24, 25, 26, 27, 28, 29, 30, 31, 32, 33, 34, 35, 36, 37, 38, 39, 40, 41, 42, 43, 44, 45, 46]) f H = thenC call it base (.region s_gnomonlaw07_GraphWays_r3t7 [] [0, 1, 2, 3, 15, 17, 18, 19, 20, 21, 22, 23, 24, 25, 26, 27, 28, 29, 30, 31, 32, 33, 34, 35, 36, 37, 38, 39, 40, 41, 42, 43, 44, 45, 46]) (opsC [] s_gnomonlaw07_GraphWays_r3p6 [] (evOps call base [⟨some 25, (.move (.t 0)), some (24, true)⟩] f H)) := (row_op call it base s_gnomonlaw07_GraphWays_r3p6 s_gnomonlaw07_GraphWays_r3t7 (kc := []) (by kernel_rfl) f H).trans (by rw [row_ops]; rfl)
theorem s_gnomonlaw07_GraphWays_r3t7_x (call : CallF) (it : IterF) (base : Nat) (f : List V) (H : Heap) : evC call it base (.region s_gnomonlaw07_GraphWays_r3t7 [] [0, 1, 2, 3, 15, 17, 18, 19, 20, 21, 22, 23, 24, 25, 26, 27, 28, 29, 30, 31, 32, 33, 34, 35, 36, 37, 38, 39, 40, 41, 42, 43, 44, 45, 46]) f H = thenC call it base (.region s_gnomonlaw07_GraphWays_r3t8 [] [0, 1, 2, 3, 15, 17, 18, 19, 20, 21, 22, 23, 24, 25, 26, 27, 28, 29, 30, 31, 32, 33, 34, 35, 36, 37, 38, 39, 40, 41, 42, 43, 44, 45, 46]) (opsC [] s_gnomonlaw07_GraphWays_r3p7 [] (evOps call base [⟨some 26, (.move (.t 2)), some (24, true)⟩] f H)) := (row_op call it base s_gnomonlaw07_GraphWays_r3p7 s_gnomonlaw07_GraphWays_r3t8 (kc := []) (by kernel_rfl) f H).trans (by rw [row_ops]; rfl)
theorem s_gnomonlaw07_GraphWays_r3t8_x (call : CallF) (it : IterF) (base : Nat) (f : List V) (H : Heap) : evC call it base (.region s_gnomonlaw07_GraphWays_r3t8 [] [0, 1, 2, 3, 15, 17, 18, 19, 20, 21, 22, 23, 24, 25, 26, 27, 28, 29, 30, 31, 32, 33, 34, 35, 36, 37, 38, 39, 40, 41, 42, 43, 44, 45, 46]) f H = thenC call it base (.region s_gnomonlaw07_GraphWays_r3t9 [] [0, 1, 2, 3, 15, 17, 18, 19, 20, 21, 22, 23, 24, 25, 26, 27, 28, 29, 30, 31, 32, 33, 34, 35, 36, 37, 38, 39, 40, 41, 42, 43, 44, 45, 46]) (opsC [] s_gnomonlaw07_GraphWays_r3p8 [] (evOps call base [⟨some 27, (.move (.t 3)), some (24, true)⟩] f H)) := (row_op call it base s_gnomonlaw07_GraphWays_r3p8 s_gnomonlaw07_GraphWays_r3t9 (kc := []) (by kernel_rfl) f H).trans (by rw [row_ops]; rfl)
theorem s_gnomonlaw07_GraphWays_r3t9_x (call : CallF) (it : IterF) (base : Nat) (f : List V) (H : Heap) : evC call it base (.region s_gnomonlaw07_GraphWays_r3t9 [] [0, 1, 2, 3, 15, 17, 18, 19, 20, 21, 22, 23, 24, 25, 26, 27, 28, 29, 30, 31, 32, 33, 34, 35, 36, 37, 38, 39, 40, 41, 42, 43, 44, 45, 46]) f H = thenC call it base (.region s_gnomonlaw07_GraphWays_r3t10 [] [0, 1, 2, 3, 15, 17, 18, 19, 20, 21, 22, 23, 24, 25, 26, 27, 28, 29, 30, 31, 32, 33, 34, 35, 36, 37, 38, 39, 40, 41, 42, 43, 44, 45, 46]) (opsC [] s_gnomonlaw07_GraphWays_r3p9 [25, 26, 27] (evOps call base [⟨some 28, (.call (.c (.fn 20 [] [])) [(.t 25), (.t 26), (.t 27)]), some (24, true)⟩] f H)) := (row_op call it base s_gnomonlaw07_GraphWays_r3p9 s_gnomonlaw07_GraphWays_r3t10 (kc := [25, 26, 27]) (by kernel_rfl) f H).trans (by rw [row_ops]; rfl)
theorem s_gnomonlaw07_GraphWays_r3t10_x (call : CallF) (it : IterF) (base : Nat) (f : List V) (H : Heap) : evC call it base (.region s_gnomonlaw07_GraphWays_r3t10 [] [0, 1, 2, 3, 15, 17, 18, 19, 20, 21, 22, 23, 24, 25, 26, 27, 28, 29, 30, 31, 32, 33, 34, 35, 36, 37, 38, 39, 40, 41, 42, 43, 44, 45, 46]) f H = thenC call it base (.region s_gnomonlaw07_GraphWays_r3t11 [] [0, 1, 2, 3, 15, 17, 18, 19, 20, 21, 22, 23, 24, 25, 26, 27, 28, 29, 30, 31, 32, 33, 34, 35, 36, 37, 38, 39, 40, 41, 42, 43, 44, 45, 46]) (opsC [] s_gnomonlaw07_GraphWays_r3p10 [] (evOps call base [⟨some 29, (.move (.t 0)), some (24, true)⟩] f H)) := (row_op call it base s_gnomonlaw07_GraphWays_r3p10 s_gnomonlaw07_GraphWays_r3t11 (kc := []) (by kernel_rfl) f H).trans (by rw [row_ops]; rfl)
theorem s_gnomonlaw07_GraphWays_r3t11_x (call : CallF) (it : IterF) (base : Nat) (f : List V) (H : Heap) : evC call it base (.region s_gnomonlaw07_GraphWays_r3t11 [] [0, 1, 2, 3, 15, 17, 18, 19, 20, 21, 22, 23, 24, 25, 26, 27, 28, 29, 30, 31, 32, 33, 34, 35, 36, 37, 38, 39, 40, 41, 42, 43, 44, 45, 46]) f H = thenC call it base (.region s_gnomonlaw07_GraphWays_r3t12 [] [0, 1, 2, 3, 15, 17, 18, 19, 20, 21, 22, 23, 24, 25, 26, 27, 28, 29, 30, 31, 32, 33, 34, 35, 36, 37, 38, 39, 40, 41, 42, 43, 44, 45, 46]) (opsC [] s_gnomonlaw07_GraphWays_r3p11 [] (evOps call base [⟨some 30, (.move (.t 2)), some (24, true)⟩] f H)) := (row_op call it base s_gnomonlaw07_GraphWays_r3p11 s_gnomonlaw07_GraphWays_r3t12 (kc := []) (by kernel_rfl) f H).trans (by rw [row_ops]; rfl)
theorem s_gnomonlaw07_GraphWays_r3t12_x (call : CallF) (it : IterF) (base : Nat) (f : List V) (H : Heap) : evC call it base (.region s_gnomonlaw07_GraphWays_r3t12 [] [0, 1, 2, 3, 15, 17, 18, 19, 20, 21, 22, 23, 24, 25, 26, 27, 28, 29, 30, 31, 32, 33, 34, 35, 36, 37, 38, 39, 40, 41, 42, 43, 44, 45, 46]) f H = thenC call it base (.region s_gnomonlaw07_GraphWays_r3t13 [] [0, 1, 2, 3, 15, 17, 18, 19, 20, 21, 22, 23, 24, 25, 26, 27, 28, 29, 30, 31, 32, 33, 34, 35, 36, 37, 38, 39, 40, 41, 42, 43, 44, 45, 46]) (opsC [] s_gnomonlaw07_GraphWays_r3p12 [3] (evOps call base [⟨some 31, (.move (.t 3)), some (24, true)⟩] f H)) := (row_op call it base s_gnomonlaw07_GraphWays_r3p12 s_gnomonlaw07_GraphWays_r3t13 (kc := [3]) (by kernel_rfl) f H).trans (by rw [row_ops]; rfl)
theorem s_gnomonlaw07_GraphWays_r3t13_x (call : CallF) (it : IterF) (base : Nat) (f : List V) (H : Heap) : evC call it base (.region s_gnomonlaw07_GraphWays_r3t13 [] [0, 1, 2, 3, 15, 17, 18, 19, 20, 21, 22, 23, 24, 25, 26, 27, 28, 29, 30, 31, 32, 33, 34, 35, 36, 37, 38, 39, 40, 41, 42, 43, 44, 45, 46]) f H = thenC call it base (.region s_gnomonlaw07_GraphWays_r3t14 [] [0, 1, 2, 3, 15, 17, 18, 19, 20, 21, 22, 23, 24, 25, 26, 27, 28, 29, 30, 31, 32, 33, 34, 35, 36, 37, 38, 39, 40, 41, 42, 43, 44, 45, 46]) (opsC [] s_gnomonlaw07_GraphWays_r3p13 [29, 30, 31] (evOps call base [⟨some 32, (.call (.c (.fn 21 [] [])) [(.t 29), (.t 30), (.t 31)]), some (24, true)⟩] f H)) := (row_op call it base s_gnomonlaw07_GraphWays_r3p13 s_gnomonlaw07_GraphWays_r3t14 (kc := [29, 30, 31]) (by kernel_rfl) f H).trans (by rw [row_ops]; rfl)
theorem s_gnomonlaw07_GraphWays_r3p14_tale (fr : List V) (H : Heap) : evTale (symAll s_gnomonlaw07_GraphWays_r3p14 [24, 28, 32, 33, 34] [35]) [24, 28, 32, 33, 34] fr H = evTale (some (36, [], [(35, (.pick (.t 24) (.op (.eqB false (.t 0) (.t 1)) [(.t 28), (.t 32)]) (.c (.s (.bool false)))))])) [24, 28, 32, 33, 34] fr H := tale_row (items := [.sub 0 [1] [24], .sub 0 [] [], .sub 0 [] []]) (by kernel_rfl) fr H
theorem s_gnomonlaw07_GraphWays_r3t14_x (call : CallF) (it : IterF) (base : Nat) (f : List V) (H : Heap) : evC call it base (.region s_gnomonlaw07_GraphWays_r3t14 [] [0, 1, 2, 3, 15, 17, 18, 19, 20, 21, 22, 23, 24, 25, 26, 27, 28, 29, 30, 31, 32, 33, 34, 35, 36, 37, 38, 39, 40, 41, 42, 43, 44, 45, 46]) f H = segC call it base s_gnomonlaw07_GraphWays_r3t15 [0, 1, 2, 3, 15, 17, 18, 19, 20, 21, 22, 23, 24, 25, 26, 27, 28, 29, 30, 31, 32, 33, 34, 35, 36, 37, 38, 39, 40, 41, 42, 43, 44, 45, 46] H (evTale (symAll s_gnomonlaw07_GraphWays_r3p14 [24, 28, 32, 33, 34] [35]) [24, 28, 32, 33, 34] f H) (origRow call it base s_gnomonlaw07_GraphWays_r3t14 [0, 1, 2, 3, 15, 17, 18, 19, 20, 21, 22, 23, 24, 25, 26, 27, 28, 29, 30, 31, 32, 33, 34, 35, 36, 37, 38, 39, 40, 41, 42, 43, 44, 45, 46] f H) := row_seg call it base s_gnomonlaw07_GraphWays_r3p14 s_gnomonlaw07_GraphWays_r3t15 (by kernel_rfl) f H
theorem s_gnomonlaw07_GraphWays_r3t15_x (call : CallF) (it : IterF) (base : Nat) (f : List V) (H : Heap) : evC call it base (.region s_gnomonlaw07_GraphWays_r3t15 [] [0, 1, 2, 3, 15, 17, 18, 19, 20, 21, 22, 23, 24, 25, 26, 27, 28, 29, 30, 31, 32, 33, 34, 35, 36, 37, 38, 39, 40, 41, 42, 43, 44, 45, 46]) f H = thenC call it base (.region s_gnomonlaw07_GraphWays_r3t16 [] [0, 1, 2, 3, 15, 17, 18, 19, 20, 21, 22, 23, 24, 25, 26, 27, 28, 29, 30, 31, 32, 33, 34, 35, 36, 37, 38, 39, 40, 41, 42, 43, 44, 45, 46]) (opsC [] s_gnomonlaw07_GraphWays_r3p15 [] (evOps call base [⟨some 36, (.move (.t 0)), some (35, true)⟩] f H)) := (row_op call it base s_gnomonlaw07_GraphWays_r3p15 s_gnomonlaw07_GraphWays_r3t16 (kc := []) (by kernel_rfl) f H).trans (by rw [row_ops]; rfl)
theorem s_gnomonlaw07_GraphWays_r3t16_x (call : CallF) (it : IterF) (base : Nat) (f : List V) (H : Heap) : evC call it base (.region s_gnomonlaw07_GraphWays_r3t16 [] [0, 1, 2, 3, 15, 17, 18, 19, 20, 21, 22, 23, 24, 25, 26, 27, 28, 29, 30, 31, 32, 33, 34, 35, 36, 37, 38, 39, 40, 41, 42, 43, 44, 45, 46]) f H = thenC call it base (.region s_gnomonlaw07_GraphWays_r3t17 [] [0, 1, 2, 3, 15, 17, 18, 19, 20, 21, 22, 23, 24, 25, 26, 27, 28, 29, 30, 31, 32, 33, 34, 35, 36, 37, 38, 39, 40, 41, 42, 43, 44, 45, 46]) (opsC [] s_gnomonlaw07_GraphWays_r3p16 [] (evOps call base [⟨some 37, (.move (.t 2)), some (35, true)⟩] f H)) := (row_op call it base s_gnomonlaw07_GraphWays_r3p16 s_gnomonlaw07_GraphWays_r3t17 (kc := []) (by kernel_rfl) f H).trans (by rw [row_ops]; rfl)
theorem s_gnomonlaw07_GraphWays_r3t17_x (call : CallF) (it : IterF) (base : Nat) (f : List V) (H : Heap) : evC call it base (.region s_gnomonlaw07_GraphWays_r3t17 [] [0, 1, 2, 3, 15, 17, 18, 19, 20, 21, 22, 23, 24, 25, 26, 27, 28, 29, 30, 31, 32, 33, 34, 35, 36, 37, 38, 39, 40, 41, 42, 43, 44, 45, 46]) f H = thenC call it base (.region s_gnomonlaw07_GraphWays_r3t18 [] [0, 1, 2, 3, 15, 17, 18, 19, 20, 21, 22, 23, 24, 25, 26, 27, 28, 29, 30, 31, 32, 33, 34, 35, 36, 37, 38, 39, 40, 41, 42, 43, 44, 45, 46]) (opsC [] s_gnomonlaw07_GraphWays_r3p17 [36, 37] (evOps call base [⟨some 38, (.call (.c (.fn 23 [] [])) [(.t 36), (.t 37)]), some (35, true)⟩] f H)) := (row_op call it base s_gnomonlaw07_GraphWays_r3p17 s_gnomonlaw07_GraphWays_r3t18 (kc := [36, 37]) (by kernel_rfl) f H).trans (by rw [row_ops]; rfl)
theorem s_gnomonlaw07_GraphWays_r3t18_x (call : CallF) (it : IterF) (base : Nat) (f : List V) (H : Heap) : evC call it base (.region s_gnomonlaw07_GraphWays_r3t18 [] [0, 1, 2, 3, 15, 17, 18, 19, 20, 21, 22, 23, 24, 25, 26, 27, 28, 29, 30, 31, 32, 33, 34, 35, 36, 37, 38, 39, 40, 41, 42, 43, 44, 45, 46]) f H = thenC call it base (.region s_gnomonlaw07_GraphWays_r3t19 [] [0, 1, 2, 3, 15, 17, 18, 19, 20, 21, 22, 23, 24, 25, 26, 27, 28, 29, 30, 31, 32, 33, 34, 35, 36, 37, 38, 39, 40, 41, 42, 43, 44, 45, 46]) (opsC [] s_gnomonlaw07_GraphWays_r3p18 [0] (evOps call base [⟨some 39, (.move (.t 0)), some (35, true)⟩] f H)) := (row_op call it base s_gnomonlaw07_GraphWays_r3p18 s_gnomonlaw07_GraphWays_r3t19 (kc := [0]) (by kernel_rfl) f H).trans (by rw [row_ops]; rfl)
theorem s_gnomonlaw07_GraphWays_r3t19_x (call : CallF) (it : IterF) (base : Nat) (f : List V) (H : Heap) : evC call it base (.region s_gnomonlaw07_GraphWays_r3t19 [] [0, 1, 2, 3, 15, 17, 18, 19, 20, 21, 22, 23, 24, 25, 26, 27, 28, 29, 30, 31, 32, 33, 34, 35, 36, 37, 38, 39, 40, 41, 42, 43, 44, 45, 46]) f H = thenC call it base (.region s_gnomonlaw07_GraphWays_r3t20 [] [0, 1, 2, 3, 15, 17, 18, 19, 20, 21, 22, 23, 24, 25, 26, 27, 28, 29, 30, 31, 32, 33, 34, 35, 36, 37, 38, 39, 40, 41, 42, 43, 44, 45, 46]) (opsC [] s_gnomonlaw07_GraphWays_r3p19 [2] (evOps call base [⟨some 40, (.move (.t 2)), some (35, true)⟩] f H)) := (row_op call it base s_gnomonlaw07_GraphWays_r3p19 s_gnomonlaw07_GraphWays_r3t20 (kc := [2]) (by kernel_rfl) f H).trans (by rw [row_ops]; rfl)
theorem s_gnomonlaw07_GraphWays_r3t20_x (call : CallF) (it : IterF) (base : Nat) (f : List V) (H : Heap) : evC call it base (.region s_gnomonlaw07_GraphWays_r3t20 [] [0, 1, 2, 3, 15, 17, 18, 19, 20, 21, 22, 23, 24, 25, 26, 27, 28, 29, 30, 31, 32, 33, 34, 35, 36, 37, 38, 39, 40, 41, 42, 43, 44, 45, 46]) f H = thenC call it base (.region s_gnomonlaw07_GraphWays_r3t21 [] [0, 1, 2, 3, 15, 17, 18, 19, 20, 21, 22, 23, 24, 25, 26, 27, 28, 29, 30, 31, 32, 33, 34, 35, 36, 37, 38, 39, 40, 41, 42, 43, 44, 45, 46]) (opsC [] s_gnomonlaw07_GraphWays_r3p20 [39, 40] (evOps call base [⟨some 41, (.call (.c (.fn 24 [] [])) [(.t 39), (.t 40)]), some (35, true)⟩] f H)) := (row_op call it base s_gnomonlaw07_GraphWays_r3p20 s_gnomonlaw07_GraphWays_r3t21 (kc := [39, 40]) (by kernel_rfl) f H).trans (by rw [row_ops]; rfl)
theorem s_gnomonlaw07_GraphWays_r3t21_x (call : CallF) (it : IterF) (base : Nat) (f : List V) (H : Heap) : evC call it base (.region s_gnomonlaw07_GraphWays_r3t21 [] [0, 1, 2, 3, 15, 17, 18, 19, 20, 21, 22, 23, 24, 25, 26, 27, 28, 29, 30, 31, 32, 33, 34, 35, 36, 37, 38, 39, 40, 41, 42, 43, 44, 45, 46]) f H = thenC call it base (.region s_gnomonlaw07_GraphWays_r3t22 [] [0, 1, 2, 3, 15, 17, 18, 19, 20, 21, 22, 23, 24, 25, 26, 27, 28, 29, 30, 31, 32, 33, 34, 35, 36, 37, 38, 39, 40, 41, 42, 43, 44, 45, 46]) (opsC [] s_gnomonlaw07_GraphWays_r3p21 [38, 41] (evOps call base [⟨some 42, (.call (.c (.fn 22 [] [])) [(.t 38), (.t 41)]), some (35, true)⟩] f H)) := (row_op call it base s_gnomonlaw07_GraphWays_r3p21 s_gnomonlaw07_GraphWays_r3t22 (kc := [38, 41]) (by kernel_rfl) f H).trans (by rw [row_ops]; rfl)
theorem s_gnomonlaw07_GraphWays_r3p22_tale (fr : List V) (H : Heap) : evTale (symAll s_gnomonlaw07_GraphWays_r3p22 [35, 42, 43] [44]) [35, 42, 43] fr H = evTale (some (45, [], [(44, (.pick (.t 35) (.t 42) (.c (.s (.bool false)))))])) [35, 42, 43] fr H := tale_row (items := [.sub 0 [] [], .sub 0 [] []]) (by kernel_rfl) fr H
theorem s_gnomonlaw07_GraphWays_r3t22_x (call : CallF) (it : IterF) (base : Nat) (f : List V) (H : Heap) : evC call it base (.region s_gnomonlaw07_GraphWays_r3t22 [] [0, 1, 2, 3, 15, 17, 18, 19, 20, 21, 22, 23, 24, 25, 26, 27, 28, 29, 30, 31, 32, 33, 34, 35, 36, 37, 38, 39, 40, 41, 42, 43, 44, 45, 46]) f H = segC call it base s_gnomonlaw07_GraphWays_r3t23 [0, 1, 2, 3, 15, 17, 18, 19, 20, 21, 22, 23, 24, 25, 26, 27, 28, 29, 30, 31, 32, 33, 34, 35, 36, 37, 38, 39, 40, 41, 42, 43, 44, 45, 46] H (evTale (symAll s_gnomonlaw07_GraphWays_r3p22 [35, 42, 43] [44]) [35, 42, 43] f H) (origRow call it base s_gnomonlaw07_GraphWays_r3t22 [0, 1, 2, 3, 15, 17, 18, 19, 20, 21, 22, 23, 24, 25, 26, 27, 28, 29, 30, 31, 32, 33, 34, 35, 36, 37, 38, 39, 40, 41, 42, 43, 44, 45, 46] f H) := row_seg call it base s_gnomonlaw07_GraphWays_r3p22 s_gnomonlaw07_GraphWays_r3t23 (by kernel_rfl) f H
theorem s_gnomonlaw07_GraphWays_r3t23_x (call : CallF) (it : IterF) (base : Nat) (f : List V) (H : Heap) : evC call it base (.region s_gnomonlaw07_GraphWays_r3t23 [] [0, 1, 2, 3, 15, 17, 18, 19, 20, 21, 22, 23, 24, 25, 26, 27, 28, 29, 30, 31, 32, 33, 34, 35, 36, 37, 38, 39, 40, 41, 42, 43, 44, 45, 46]) f H = thenC call it base (.region s_gnomonlaw07_GraphWays_r3t24 [] [0, 1, 2, 3, 15, 17, 18, 19, 20, 21, 22, 23, 24, 25, 26, 27, 28, 29, 30, 31, 32, 33, 34, 35, 36, 37, 38, 39, 40, 41, 42, 43, 44, 45, 46]) (opsC [] s_gnomonlaw07_GraphWays_r3p23 [] (evOps call base [⟨some 45, (.call (.c (.fn 10 [] [])) []), some (44, true)⟩] f H)) := (row_op call it base s_gnomonlaw07_GraphWays_r3p23 s_gnomonlaw07_GraphWays_r3t24 (kc := []) (by kernel_rfl) f H).trans (by rw [row_ops]; rfl)
theorem s_gnomonlaw07_GraphWays_r3t24_tale (fr : List V) (H : Heap) : evTale (symAll s_gnomonlaw07_GraphWays_r3t24 [0, 1, 2, 3, 15, 17, 18, 19, 20, 21, 22, 23, 24, 25, 26, 27, 28, 29, 30, 31, 32, 33, 34, 35, 36, 37, 38, 39, 40, 41, 42, 43, 44, 45, 46] [8]) [0, 1, 2, 3, 15, 17, 18, 19, 20, 21, 22, 23, 24, 25, 26, 27, 28, 29, 30, 31, 32, 33, 34, 35, 36, 37, 38, 39, 40, 41, 42, 43, 44, 45, 46] fr H = evTale (some (47, [], [(8, (.pick (.t 44) (.t 45) (.c (.s (.bool false)))))])) [0, 1, 2, 3, 15, 17, 18, 19, 20, 21, 22, 23, 24, 25, 26, 27, 28, 29, 30, 31, 32, 33, 34, 35, 36, 37, 38, 39, 40, 41, 42, 43, 44, 45, 46] fr H := tale_row (items := [.sub 0 [] [], .sub 0 [] []]) (by kernel_rfl) fr H
theorem s_gnomonlaw07_GraphWays_r3t24_x (call : CallF) (it : IterF) (base : Nat) (f : List V) (H : Heap) : evC call it base (.region s_gnomonlaw07_GraphWays_r3t24 [] [0, 1, 2, 3, 15, 17, 18, 19, 20, 21, 22, 23, 24, 25, 26, 27, 28, 29, 30, 31, 32, 33, 34, 35, 36, 37, 38, 39, 40, 41, 42, 43, 44, 45, 46]) f H = segL H (evTale (symAll s_gnomonlaw07_GraphWays_r3t24 [0, 1, 2, 3, 15, 17, 18, 19, 20, 21, 22, 23, 24, 25, 26, 27, 28, 29, 30, 31, 32, 33, 34, 35, 36, 37, 38, 39, 40, 41, 42, 43, 44, 45, 46] [8]) [0, 1, 2, 3, 15, 17, 18, 19, 20, 21, 22, 23, 24, 25, 26, 27, 28, 29, 30, 31, 32, 33, 34, 35, 36, 37, 38, 39, 40, 41, 42, 43, 44, 45, 46] f H) (origRow call it base s_gnomonlaw07_GraphWays_r3t24 [0, 1, 2, 3, 15, 17, 18, 19, 20, 21, 22, 23, 24, 25, 26, 27, 28, 29, 30, 31, 32, 33, 34, 35, 36, 37, 38, 39, 40, 41, 42, 43, 44, 45, 46] f H) := row_last call it base _ f H
def s_gnomonlaw07_GraphWays : ACFun := { ntmps := 47, results := [(.tmp 8)], body :=
  (.seq (.regionE s_gnomonlaw07_GraphWays_r0 s_gnomonlaw07_GraphWays_r0_k [])
  (.seq (.seq (.region s_gnomonlaw07_GraphWays_r1 [] [9, 10, 11, 12, 13, 14])
  (.cond (.t 15)
  (.seq (.region s_gnomonlaw07_GraphWays_r2 [] [0, 1, 2, 3, 15, 16])
  .ret)
  .skip))
  (.seq (.region s_gnomonlaw07_GraphWays_r3 [] [0, 1, 2, 3, 15, 17, 18, 19, 20, 21, 22, 23, 24, 25, 26, 27, 28, 29, 30, 31, 32, 33, 34, 35, 36, 37, 38, 39, 40, 41, 42, 43, 44, 45, 46])
  .ret))) }
/- 5 gnomon/gnomonlaw07.GraphBack -/
abbrev k_gnomonlaw07_GraphBack : Nat := 5
def s_gnomonlaw07_GraphBack_r0_k : List Nat := [1, 2, 3, 4, 5, 6, 7, 8, 9, 10, 11, 12, 13, 14, 15, 16, 17, 18, 19, 20, 21, 22, 23, 24, 25, 26, 27, 28, 29, 30, 31, 32, 33, 34, 35, 36, 37, 38, 39, 40, 41, 42, 43, 44, 45, 46, 47, 48, 49, 50, 51, 52, 53, 54, 55, 56, 57, 58, 59, 60, 61, 62, 63, 64, 65]
theorem s_gnomonlaw07_GraphBack_r0_kT : killV s_gnomonlaw07_GraphBack_r0_k (startV 66 [] 1) = [] := by kernel_rfl
theorem s_gnomonlaw07_GraphBack_r0_kA0 : s_gnomonlaw07_GraphBack_r0_k.contains 0 = false := by kernel_rfl
def s_gnomonlaw07_GraphBack_r0 : List AOper := [
  ⟨some 2, (.move (.c (.s (.bool false)))), none⟩]
theorem s_gnomonlaw07_GraphBack_r0_tale (fr : List V) (H : Heap) : evTale (symAll s_gnomonlaw07_GraphBack_r0 s_gnomonlaw07_GraphBack_r0_k []) s_gnomonlaw07_GraphBack_r0_k fr H = evTale (some (3, [], [])) s_gnomonlaw07_GraphBack_r0_k fr H := tale_row (items := [.cc (.s (.bool false))]) (by kernel_rfl) fr H
def s_gnomonlaw07_GraphBack_r1t2 : List AOper := [⟨some 10, (.move (.t 9)), none⟩, ⟨some 11, (.move (.t 0)), some (10, false)⟩, ⟨some 12, (.lenS .s (.t 11)), some (10, false)⟩, ⟨some 13, (.bin .gtr (.t 12) (.c (.s (.int .i64 60)))), some (10, false)⟩, ⟨some 14, (.pick (.t 10) (.c (.s (.bool true))) (.t 13)), none⟩]
def s_gnomonlaw07_GraphBack_r1p1 : List AOper := [⟨some 9, (.call (.c (.fn 9 [] [])) [(.t 8)]), none⟩]
def s_gnomonlaw07_GraphBack_r1t1 : List AOper := s_gnomonlaw07_GraphBack_r1p1 ++ s_gnomonlaw07_GraphBack_r1t2
def s_gnomonlaw07_GraphBack_r1p0 : List AOper := [⟨some 8, (.move (.t 0)), none⟩]
def s_gnomonlaw07_GraphBack_r1 : List AOper := s_gnomonlaw07_GraphBack_r1p0 ++ s_gnomonlaw07_GraphBack_r1t1
theorem s_gnomonlaw07_GraphBack_r1p0_tale (fr : List V) (H : Heap) : evTale (symAll s_gnomonlaw07_GraphBack_r1p0 [] [8]) [] fr H = evTale (some (9, [], [(8, (.t 0))])) [] fr H := tale_row (items := [.tt 0]) (by kernel_rfl) fr H
theorem s_gnomonlaw07_GraphBack_r1_x (call : CallF) (it : IterF) (base : Nat) (f : List V) (H : Heap) : evC call it base (.region s_gnomonlaw07_GraphBack_r1 [] [8, 9, 10, 11, 12, 13]) f H = segC call it base s_gnomonlaw07_GraphBack_r1t1 [8, 9, 10, 11, 12, 13] H (evTale (symAll s_gnomonlaw07_GraphBack_r1p0 [] [8]) [] f H) (origRow call it base s_gnomonlaw07_GraphBack_r1 [8, 9, 10, 11, 12, 13] f H) := row_seg call it base s_gnomonlaw07_GraphBack_r1p0 s_gnomonlaw07_GraphBack_r1t1 (by kernel_rfl) f H
theorem s_gnomonlaw07_GraphBack_r1t1_x (call : CallF) (it : IterF) (base : Nat) (f : List V) (H : Heap) : evC call it base (.region s_gnomonlaw07_GraphBack_r1t1 [] [8, 9, 10, 11, 12, 13]) f H = thenC call it base (.region s_gnomonlaw07_GraphBack_r1t2 [] [8, 9, 10, 11, 12, 13]) (opsC [] s_gnomonlaw07_GraphBack_r1p1 [8] (evOps call base [⟨some 9, (.call (.c (.fn 9 [] [])) [(.t 8)]), none⟩] f H)) := (row_op call it base s_gnomonlaw07_GraphBack_r1p1 s_gnomonlaw07_GraphBack_r1t2 (kc := [8]) (by kernel_rfl) f H).trans (by rw [row_ops]; rfl)
theorem s_gnomonlaw07_GraphBack_r1t2_tale (fr : List V) (H : Heap) : evTale (symAll s_gnomonlaw07_GraphBack_r1t2 [8, 9, 10, 11, 12, 13] [14]) [8, 9, 10, 11, 12, 13] fr H = evTale (some (15, [], [(14, (.pick (.t 9) (.c (.s (.bool true))) (.op (.bin .gtr (.t 0) (.c (.s (.int .i64 60)))) [(.op (.lenS .s (.t 0)) [(.t 0)]), (.c (.s (.int .i64 60)))])))])) [8, 9, 10, 11, 12, 13] fr H := tale_row (items := [.tt 9, .sub 0 [2, 0, 0] [10], .sub 0 [2, 0] [10], .sub 0 [2] [10], .sub 0 [] []]) (by kernel_rfl) fr H
theorem s_gnomonlaw07_GraphBack_r1t2_x (call : CallF) (it : IterF) (base : Nat) (f : List V) (H : Heap) : evC call it base (.region s_gnomonlaw07_GraphBack_r1t2 [] [8, 9, 10, 11, 12, 13]) f H = segL H (evTale (symAll s_gnomonlaw07_GraphBack_r1t2 [8, 9, 10, 11, 12, 13] [14]) [8, 9, 10, 11, 12, 13] f H) (origRow call it base s_gnomonlaw07_GraphBack_r1t2 [8, 9, 10, 11, 12, 13] f H) := row_last call it base _ f H
def s_gnomonlaw07_GraphBack_r2t1 : List AOper := [⟨some 2, (.move (.t 15)), none⟩]
def s_gnomonlaw07_GraphBack_r2p0 : List AOper := [⟨some 15, (.call (.c (.fn 10 [] [])) []), none⟩]
def s_gnomonlaw07_GraphBack_r2 : List AOper := s_gnomonlaw07_GraphBack_r2p0 ++ s_gnomonlaw07_GraphBack_r2t1
theorem s_gnomonlaw07_GraphBack_r2_x (call : CallF) (it : IterF) (base : Nat) (f : List V) (H : Heap) : evC call it base (.region s_gnomonlaw07_GraphBack_r2 [] [0, 14, 15]) f H = thenC call it base (.region s_gnomonlaw07_GraphBack_r2t1 [] [0, 14, 15]) (opsC [] s_gnomonlaw07_GraphBack_r2p0 [0, 14] (evOps call base [⟨some 15, (.call (.c (.fn 10 [] [])) []), none⟩] f H)) := (row_op call it base s_gnomonlaw07_GraphBack_r2p0 s_gnomonlaw07_GraphBack_r2t1 (kc := [0, 14]) (by kernel_rfl) f H).trans (by rw [row_ops]; rfl)
theorem s_gnomonlaw07_GraphBack_r2t1_tale (fr : List V) (H : Heap) : evTale (symAll s_gnomonlaw07_GraphBack_r2t1 [0, 14, 15] [2]) [0, 14, 15] fr H = evTale (some (3, [], [(2, (.t 15))])) [0, 14, 15] fr H := tale_row (items := [.tt 15]) (by kernel_rfl) fr H
theorem s_gnomonlaw07_GraphBack_r2t1_x (call : CallF) (it : IterF) (base : Nat) (f : List V) (H : Heap) : evC call it base (.region s_gnomonlaw07_GraphBack_r2t1 [] [0, 14, 15]) f H = segL H (evTale (symAll s_gnomonlaw07_GraphBack_r2t1 [0, 14, 15] [2]) [0, 14, 15] f H) (origRow call it base s_gnomonlaw07_GraphBack_r2t1 [0, 14, 15] f H) := row_last call it base _ f H
def s_gnomonlaw07_GraphBack_r3t2 : List AOper := [⟨some 3, (.move (.t 17)), none⟩]
def s_gnomonlaw07_GraphBack_r3p1 : List AOper := [⟨some 17, (.call (.c (.fn 13 [] [])) [(.t 16)]), none⟩]
def s_gnomonlaw07_GraphBack_r3t1 : List AOper := s_gnomonlaw07_GraphBack_r3p1 ++ s_gnomonlaw07_GraphBack_r3t2
def s_gnomonlaw07_GraphBack_r3p0 : List AOper := [⟨some 16, (.move (.t 0)), none⟩]
def s_gnomonlaw07_GraphBack_r3 : List AOper := s_gnomonlaw07_GraphBack_r3p0 ++ s_gnomonlaw07_GraphBack_r3t1
theorem s_gnomonlaw07_GraphBack_r3p0_tale (fr : List V) (H : Heap) : evTale (symAll s_gnomonlaw07_GraphBack_r3p0 [14] [16]) [14] fr H = evTale (some (17, [], [(16, (.t 0))])) [14] fr H := tale_row (items := [.tt 0]) (by kernel_rfl) fr H
theorem s_gnomonlaw07_GraphBack_r3_x (call : CallF) (it : IterF) (base : Nat) (f : List V) (H : Heap) : evC call it base (.region s_gnomonlaw07_GraphBack_r3 [] [14, 16, 17]) f H = segC call it base s_gnomonlaw07_GraphBack_r3t1 [14, 16, 17] H (evTale (symAll s_gnomonlaw07_GraphBack_r3p0 [14] [16]) [14] f H) (origRow call it base s_gnomonlaw07_GraphBack_r3 [14, 16, 17] f H) := row_seg call it base s_gnomonlaw07_GraphBack_r3p0 s_gnomonlaw07_GraphBack_r3t1 (by kernel_rfl) f H
theorem s_gnomonlaw07_GraphBack_r3t1_x (call : CallF) (it : IterF) (base : Nat) (f : List V) (H : Heap) : evC call it base (.region s_gnomonlaw07_GraphBack_r3t1 [] [14, 16, 17]) f H = thenC call it base (.region s_gnomonlaw07_GraphBack_r3t2 [] [14, 16, 17]) (opsC [] s_gnomonlaw07_GraphBack_r3p1 [16] (evOps call base [⟨some 17, (.call (.c (.fn 13 [] [])) [(.t 16)]), none⟩] f H)) := (row_op call it base s_gnomonlaw07_GraphBack_r3p1 s_gnomonlaw07_GraphBack_r3t2 (kc := [16]) (by kernel_rfl) f H).trans (by rw [row_ops]; rfl)
theorem s_gnomonlaw07_GraphBack_r3t2_tale (fr : List V) (H : Heap) : evTale (symAll s_gnomonlaw07_GraphBack_r3t2 [14, 16, 17] [3]) [14, 16, 17] fr H = evTale (some (4, [], [(3, (.t 17))])) [14, 16, 17] fr H := tale_row (items := [.tt 17]) (by kernel_rfl) fr H
theorem s_gnomonlaw07_GraphBack_r3t2_x (call : CallF) (it : IterF) (base : Nat) (f : List V) (H : Heap) : evC call it base (.region s_gnomonlaw07_GraphBack_r3t2 [] [14, 16, 17]) f H = segL H (evTale (symAll s_gnomonlaw07_GraphBack_r3t2 [14, 16, 17] [3]) [14, 16, 17] f H) (origRow call it base s_gnomonlaw07_GraphBack_r3t2 [14, 16, 17] f H) := row_last call it base _ f H
def s_gnomonlaw07_GraphBack_r4t4 : List AOper := [⟨some 4, (.move (.t 19)), none⟩, ⟨some 5, (.move (.t 21)), none⟩]
def s_gnomonlaw07_GraphBack_r4p3 : List AOper := [⟨some 21, (.call (.c (.fn 13 [] [])) [(.t 20)]), none⟩]
def s_gnomonlaw07_GraphBack_r4t3 : List AOper := s_gnomonlaw07_GraphBack_r4p3 ++ s_gnomonlaw07_GraphBack_r4t4
def s_gnomonlaw07_GraphBack_r4p2 : List AOper := [⟨some 20, (.move (.t 3)), none⟩]
def s_gnomonlaw07_GraphBack_r4t2 : List AOper := s_gnomonlaw07_GraphBack_r4p2 ++ s_gnomonlaw07_GraphBack_r4t3
def s_gnomonlaw07_GraphBack_r4p1 : List AOper := [⟨some 19, (.call (.c (.fn 12 [] [])) [(.t 18)]), none⟩]
def s_gnomonlaw07_GraphBack_r4t1 : List AOper := s_gnomonlaw07_GraphBack_r4p1 ++ s_gnomonlaw07_GraphBack_r4t2
def s_gnomonlaw07_GraphBack_r4p0 : List AOper := [⟨some 18, (.move (.t 0)), none⟩]
def s_gnomonlaw07_GraphBack_r4 : List AOper := s_gnomonlaw07_GraphBack_r4p0 ++ s_gnomonlaw07_GraphBack_r4t1
theorem s_gnomonlaw07_GraphBack_r4p0_tale (fr : List V) (H : Heap) : evTale (symAll s_gnomonlaw07_GraphBack_r4p0 [] [18]) [] fr H = evTale (some (19, [], [(18, (.t 0))])) [] fr H := tale_row (items := [.tt 0]) (by kernel_rfl) fr H
theorem s_gnomonlaw07_GraphBack_r4_x (call : CallF) (it : IterF) (base : Nat) (f : List V) (H : Heap) : evC call it base (.region s_gnomonlaw07_GraphBack_r4 [] [18, 19, 20, 21]) f H = segC call it base s_gnomonlaw07_GraphBack_r4t1 [18, 19, 20, 21] H (evTale (symAll s_gnomonlaw07_GraphBack_r4p0 [] [18]) [] f H) (origRow call it base s_gnomonlaw07_GraphBack_r4 [18, 19, 20, 21] f H) := row_seg call it base s_gnomonlaw07_GraphBack_r4p0 s_gnomonlaw07_GraphBack_r4t1 (by kernel_rfl) f H
theorem s_gnomonlaw07_GraphBack_r4t1_x (call : CallF) (it : IterF) (base : Nat) (f : List V) (H : Heap) : evC call it base (.region s_gnomonlaw07_GraphBack_r4t1 [] [18, 19, 20, 21]) f H = thenC call it base (.region s_gnomonlaw07_GraphBack_r4t2 [] [18, 19, 20, 21]) (opsC [] s_gnomonlaw07_GraphBack_r4p1 [18] (evOps call base [⟨some 19, (.call (.c (.fn 12 [] [])) [(.t 18)]), none⟩] f H)) := (row_op call it base s_gnomonlaw07_GraphBack_r4p1 s_gnomonlaw07_GraphBack_r4t2 (kc := [18]) (by kernel_rfl) f H).trans (by rw [row_ops]; rfl)
theorem s_gnomonlaw07_GraphBack_r4p2_tale (fr : List V) (H : Heap) : evTale (symAll s_gnomonlaw07_GraphBack_r4p2 [] [20]) [] fr H = evTale (some (21, [], [(20, (.t 3))])) [] fr H := tale_row (items := [.tt 3]) (by kernel_rfl) fr H
theorem s_gnomonlaw07_GraphBack_r4t2_x (call : CallF) (it : IterF) (base : Nat) (f : List V) (H : Heap) : evC call it base (.region s_gnomonlaw07_GraphBack_r4t2 [] [18, 19, 20, 21]) f H = segC call it base s_gnomonlaw07_GraphBack_r4t3 [18, 19, 20, 21] H (evTale (symAll s_gnomonlaw07_GraphBack_r4p2 [] [20]) [] f H) (origRow call it base s_gnomonlaw07_GraphBack_r4t2 [18, 19, 20, 21] f H) := row_seg call it base s_gnomonlaw07_GraphBack_r4p2 s_gnomonlaw07_GraphBack_r4t3 (by kernel_rfl) f H
theorem s_gnomonlaw07_GraphBack_r4t3_x (call : CallF) (it : IterF) (base : Nat) (f : List V) (H : Heap) : evC call it base (.region s_gnomonlaw07_GraphBack_r4t3 [] [18, 19, 20, 21]) f H = thenC call it base (.region s_gnomonlaw07_GraphBack_r4t4 [] [18, 19, 20, 21]) (opsC [] s_gnomonlaw07_GraphBack_r4p3 [20] (evOps call base [⟨some 21, (.call (.c (.fn 13 [] [])) [(.t 20)]), none⟩] f H)) := (row_op call it base s_gnomonlaw07_GraphBack_r4p3 s_gnomonlaw07_GraphBack_r4t4 (kc := [20]) (by kernel_rfl) f H).trans (by rw [row_ops]; rfl)
theorem s_gnomonlaw07_GraphBack_r4t4_tale (fr : List V) (H : Heap) : evTale (symAll s_gnomonlaw07_GraphBack_r4t4 [18, 19, 20, 21] [4, 5]) [18, 19, 20, 21] fr H = evTale (some (6, [], [(4, (.t 19)), (5, (.t 21))])) [18, 19, 20, 21] fr H := tale_row (items := [.tt 19, .tt 21]) (by kernel_rfl) fr H
theorem s_gnomonlaw07_GraphBack_r4t4_x (call : CallF) (it : IterF) (base : Nat) (f : List V) (H : Heap) : evC call it base (.region s_gnomonlaw07_GraphBack_r4t4 [] [18, 19, 20, 21]) f H = segL H (evTale (symAll s_gnomonlaw07_GraphBack_r4t4 [18, 19, 20, 21] [4, 5]) [18, 19, 20, 21] f H) (origRow call it base s_gnomonlaw07_GraphBack_r4t4 [18, 19, 20, 21] f H) := row_last call it base _ f H
def s_gnomonlaw07_GraphBack_r5 : List AOper := [
  ⟨some 22, (.move (.t 4)), none⟩,
  ⟨some 23, (.lenS .s (.t 22)), none⟩,
  ⟨some 24, (.move (.t 5)), none⟩,
  ⟨some 25, (.lenS .s (.t 24)), none⟩,
  ⟨some 26, (.bin .neq (.t 23) (.t 25)), none⟩,
  ⟨some 27, (.move (.t 26)), none⟩,
  ⟨some 28, (.move (.t 4)), some (27, false)⟩,
  ⟨some 29, (.lenS .s (.t 28)), some (27, false)⟩,
  ⟨some 30, (.move (.t 0)), some (27, false)⟩,
  ⟨some 31, (.lenS .s (.t 30)), some (27, false)⟩,
  ⟨some 32, (.bin .neq (.t 29) (.t 31)), some (27, false)⟩,
  ⟨some 33, (.pick (.t 27) (.c (.s (.bool true))) (.t 32)), none⟩]
theorem s_gnomonlaw07_GraphBack_r5_tale (fr : List V) (H : Heap) : evTale (symAll s_gnomonlaw07_GraphBack_r5 [22, 23, 24, 25, 26, 27, 28, 29, 30, 31, 32] [33]) [22, 23, 24, 25, 26, 27, 28, 29, 30, 31, 32] fr H = evTale (some (34, [], [(33, (.pick (.op (.bin .neq (.t 0) (.t 1)) [(.op (.lenS .s (.t 0)) [(.t 4)]), (.op (.lenS .s (.t 0)) [(.t 5)])]) (.c (.s (.bool true))) (.op (.bin .neq (.t 0) (.t 1)) [(.op (.lenS .s (.t 0)) [(.t 4)]), (.op (.lenS .s (.t 0)) [(.t 0)])])))])) [22, 23, 24, 25, 26, 27, 28, 29, 30, 31, 32] fr H := tale_row (items := [.tt 4, .sub 0 [0, 0] [], .tt 5, .sub 0 [0, 1] [], .sub 0 [0] [], .sub 0 [0] [], .sub 0 [2, 0, 0] [27], .sub 0 [2, 0] [27], .sub 0 [2, 1, 0] [27], .sub 0 [2, 1] [27], .sub 0 [2] [27], .sub 0 [] []]) (by kernel_rfl) fr H
def s_gnomonlaw07_GraphBack_r6 : List AOper := [
  ⟨some 2, (.move (.c (.s (.bool false)))), none⟩]
theorem s_gnomonlaw07_GraphBack_r6_tale (fr : List V) (H : Heap) : evTale (symAll s_gnomonlaw07_GraphBack_r6 [0, 3, 4, 5, 33] [2]) [0, 3, 4, 5, 33] fr H = evTale (some (3, [], [(2, (.c (.s (.bool false))))])) [0, 3, 4, 5, 33] fr H := tale_row (items := [.cc (.s (.bool false))]) (by kernel_rfl) fr H
def s_gnomonlaw07_GraphBack_r7 : List AOper := [
  ⟨some 6, (.move (.c (.s (.int .i64 0)))), none⟩]
theorem s_gnomonlaw07_GraphBack_r7_tale (fr : List V) (H : Heap) : evTale (symAll s_gnomonlaw07_GraphBack_r7 [33] [6]) [33] fr H = evTale (some (7, [], [(6, (.c (.s (.int .i64 0))))])) [33] fr H := tale_row (items := [.cc (.s (.int .i64 0))]) (by kernel_rfl) fr H
def s_gnomonlaw07_GraphBack_r8 : List AOper := [
  ⟨some 34, (.move (.t 6)), none⟩,
  ⟨some 35, (.move (.t 4)), none⟩,
  ⟨some 36, (.lenS .s (.t 35)), none⟩,
  ⟨some 37, (.bin .lss (.t 34) (.t 36)), none⟩]
theorem s_gnomonlaw07_GraphBack_r8_tale (fr : List V) (H : Heap) : evTale (symAll s_gnomonlaw07_GraphBack_r8 [34, 35, 36] [37]) [34, 35, 36] fr H = evTale (some (38, [], [(37, (.op (.bin .lss (.t 0) (.t 1)) [(.t 6), (.op (.lenS .s (.t 0)) [(.t 4)])]))])) [34, 35, 36] fr H := tale_row (items := [.tt 6, .tt 4, .sub 0 [1] [], .sub 0 [] []]) (by kernel_rfl) fr H
def s_gnomonlaw07_GraphBack_r9t2 : List AOper := [⟨some 49, (.un .not (.t 48)), none⟩]
def s_gnomonlaw07_GraphBack_r9p1 : List AOper := [⟨some 48, (.call (.c (.fn 22 [] [])) [(.t 43), (.t 47)]), none⟩]
def s_gnomonlaw07_GraphBack_r9t1 : List AOper := s_gnomonlaw07_GraphBack_r9p1 ++ s_gnomonlaw07_GraphBack_r9t2
def s_gnomonlaw07_GraphBack_r9p0 : List AOper := [⟨some 40, (.move (.t 4)), none⟩, ⟨some 41, (.move (.t 6)), none⟩, ⟨some 42, (.indexAddr 1 (.t 40) (.t 41)), none⟩, ⟨some 43, (.load false 1 (.t 42)), none⟩, ⟨some 44, (.move (.t 5)), none⟩, ⟨some 45, (.move (.t 6)), none⟩, ⟨some 46, (.indexAddr 1 (.t 44) (.t 45)), none⟩, ⟨some 47, (.load false 1 (.t 46)), none⟩]
def s_gnomonlaw07_GraphBack_r9 : List AOper := s_gnomonlaw07_GraphBack_r9p0 ++ s_gnomonlaw07_GraphBack_r9t1
theorem s_gnomonlaw07_GraphBack_r9p0_tale (fr : List V) (H : Heap) : evTale (symAll s_gnomonlaw07_GraphBack_r9p0 [37, 40, 41, 42, 44, 45, 46] [43, 47]) [37, 40, 41, 42, 44, 45, 46] fr H = evTale (some (48, [], [(43, (.op (.load false 1 (.t 0)) [(.op (.indexAddr 1 (.t 0) (.t 1)) [(.t 4), (.t 6)])])), (47, (.op (.load false 1 (.t 0)) [(.op (.indexAddr 1 (.t 0) (.t 1)) [(.t 5), (.t 6)])]))])) [37, 40, 41, 42, 44, 45, 46] fr H := tale_row (items := [.tt 4, .tt 6, .sub 0 [0] [], .sub 0 [] [], .tt 5, .tt 6, .sub 1 [0] [], .sub 1 [] []]) (by kernel_rfl) fr H
theorem s_gnomonlaw07_GraphBack_r9_x (call : CallF) (it : IterF) (base : Nat) (f : List V) (H : Heap) : evC call it base (.region s_gnomonlaw07_GraphBack_r9 [] [37, 40, 41, 42, 43, 44, 45, 46, 47, 48]) f H = segC call it base s_gnomonlaw07_GraphBack_r9t1 [37, 40, 41, 42, 43, 44, 45, 46, 47, 48] H (evTale (symAll s_gnomonlaw07_GraphBack_r9p0 [37, 40, 41, 42, 44, 45, 46] [43, 47]) [37, 40, 41, 42, 44, 45, 46] f H) (origRow call it base s_gnomonlaw07_GraphBack_r9 [37, 40, 41, 42, 43, 44, 45, 46, 47, 48] f H) := row_seg call it base s_gnomonlaw07_GraphBack_r9p0 s_gnomonlaw07_GraphBack_r9t1 (by kernel_rfl) f H
theorem s_gnomonlaw07_GraphBack_r9t1_x (call : CallF) (it : IterF) (base : Nat) (f : List V) (H : Heap) : evC call it base (.region s_gnomonlaw07_GraphBack_r9t1 [] [37, 40, 41, 42, 43, 44, 45, 46, 47, 48]) f H = thenC call it base (.region s_gnomonlaw07_GraphBack_r9t2 [] [37, 40, 41, 42, 43, 44, 45, 46, 47, 48]) (opsC [] s_gnomonlaw07_GraphBack_r9p1 [43, 47] (evOps call base [⟨some 48, (.call (.c (.fn 22 [] [])) [(.t 43), (.t 47)]), none⟩] f H)) := (row_op call it base s_gnomonlaw07_GraphBack_r9p1 s_gnomonlaw07_GraphBack_r9t2 (kc := [43, 47]) (by kernel_rfl) f H).trans (by rw [row_ops]; rfl)
theorem s_gnomonlaw07_GraphBack_r9t2_tale (fr : List V) (H : Heap) : evTale (symAll s_gnomonlaw07_GraphBack_r9t2 [37, 40, 41, 42, 43, 44, 45, 46, 47, 48] [49]) [37, 40, 41, 42, 43, 44, 45, 46, 47, 48] fr H = evTale (some (50, [], [(49, (.op (.un .not (.t 0)) [(.t 48)]))])) [37, 40, 41, 42, 43, 44, 45, 46, 47, 48] fr H := tale_row (items := [.sub 0 [] []]) (by kernel_rfl) fr H
theorem s_gnomonlaw07_GraphBack_r9t2_x (call : CallF) (it : IterF) (base : Nat) (f : List V) (H : Heap) : evC call it base (.region s_gnomonlaw07_GraphBack_r9t2 [] [37, 40, 41, 42, 43, 44, 45, 46, 47, 48]) f H = segL H (evTale (symAll s_gnomonlaw07_GraphBack_r9t2 [37, 40, 41, 42, 43, 44, 45, 46, 47, 48] [49]) [37, 40, 41, 42, 43, 44, 45, 46, 47, 48] f H) (origRow call it base s_gnomonlaw07_GraphBack_r9t2 [37, 40, 41, 42, 43, 44, 45, 46, 47, 48] f H) := row_last call it base _ f H
def s_gnomonlaw07_GraphBack_r10 : List AOper := [
  ⟨some 2, (.move (.c (.s (.bool false)))), none⟩]
theorem s_gnomonlaw07_GraphBack_r10_tale (fr : List V) (H : Heap) : evTale (symAll s_gnomonlaw07_GraphBack_r10 [0, 3, 4, 5, 6, 49] [2]) [0, 3, 4, 5, 6, 49] fr H = evTale (some (3, [], [(2, (.c (.s (.bool false))))])) [0, 3, 4, 5, 6, 49] fr H := tale_row (items := [.cc (.s (.bool false))]) (by kernel_rfl) fr H
def s_gnomonlaw07_GraphBack_r11 : List AOper := [
  ⟨some 7, (.move (.c (.s (.int .i64 0)))), none⟩]
theorem s_gnomonlaw07_GraphBack_r11_tale (fr : List V) (H : Heap) : evTale (symAll s_gnomonlaw07_GraphBack_r11 [49] [7]) [49] fr H = evTale (some (8, [], [(7, (.c (.s (.int .i64 0))))])) [49] fr H := tale_row (items := [.cc (.s (.int .i64 0))]) (by kernel_rfl) fr H
def s_gnomonlaw07_GraphBack_r12 : List AOper := [
  ⟨some 50, (.move (.t 7)), none⟩,
  ⟨some 51, (.move (.t 0)), none⟩,
  ⟨some 52, (.lenS .s (.t 51)), none⟩,
  ⟨some 53, (.bin .lss (.t 50) (.t 52)), none⟩]
theorem s_gnomonlaw07_GraphBack_r12_tale (fr : List V) (H : Heap) : evTale (symAll s_gnomonlaw07_GraphBack_r12 [50, 51, 52] [53]) [50, 51, 52] fr H = evTale (some (54, [], [(53, (.op (.bin .lss (.t 0) (.t 1)) [(.t 7), (.op (.lenS .s (.t 0)) [(.t 0)])]))])) [50, 51, 52] fr H := tale_row (items := [.tt 7, .tt 0, .sub 0 [1] [], .sub 0 [] []]) (by kernel_rfl) fr H
def s_gnomonlaw07_GraphBack_r13t4 : List AOper := [⟨some 64, (.eqB true (.t 59) (.t 63)), none⟩]
def s_gnomonlaw07_GraphBack_r13p3 : List AOper := [⟨some 63, (.call (.c (.fn 20 [] [])) [(.t 60), (.t 61), (.t 62)]), none⟩]
def s_gnomonlaw07_GraphBack_r13t3 : List AOper := s_gnomonlaw07_GraphBack_r13p3 ++ s_gnomonlaw07_GraphBack_r13t4
def s_gnomonlaw07_GraphBack_r13p2 : List AOper := [⟨some 60, (.move (.t 3)), none⟩, ⟨some 61, (.move (.t 7)), none⟩, ⟨some 62, (.move (.t 6)), none⟩]
def s_gnomonlaw07_GraphBack_r13t2 : List AOper := s_gnomonlaw07_GraphBack_r13p2 ++ s_gnomonlaw07_GraphBack_r13t3
def s_gnomonlaw07_GraphBack_r13p1 : List AOper := [⟨some 59, (.call (.c (.fn 20 [] [])) [(.t 56), (.t 57), (.t 58)]), none⟩]
def s_gnomonlaw07_GraphBack_r13t1 : List AOper := s_gnomonlaw07_GraphBack_r13p1 ++ s_gnomonlaw07_GraphBack_r13t2
def s_gnomonlaw07_GraphBack_r13p0 : List AOper := [⟨some 56, (.move (.t 0)), none⟩, ⟨some 57, (.move (.t 6)), none⟩, ⟨some 58, (.move (.t 7)), none⟩]
def s_gnomonlaw07_GraphBack_r13 : List AOper := s_gnomonlaw07_GraphBack_r13p0 ++ s_gnomonlaw07_GraphBack_r13t1
theorem s_gnomonlaw07_GraphBack_r13p0_tale (fr : List V) (H : Heap) : evTale (symAll s_gnomonlaw07_GraphBack_r13p0 [53] [56, 57, 58]) [53] fr H = evTale (some (59, [], [(56, (.t 0)), (57, (.t 6)), (58, (.t 7))])) [53] fr H := tale_row (items := [.tt 0, .tt 6, .tt 7]) (by kernel_rfl) fr H
theorem s_gnomonlaw07_GraphBack_r13_x (call : CallF) (it : IterF) (base : Nat) (f : List V) (H : Heap) : evC call it base (.region s_gnomonlaw07_GraphBack_r13 [] [53, 56, 57, 58, 59, 60, 61, 62, 63]) f H = segC call it base s_gnomonlaw07_GraphBack_r13t1 [53, 56, 57, 58, 59, 60, 61, 62, 63] H (evTale (symAll s_gnomonlaw07_GraphBack_r13p0 [53] [56, 57, 58]) [53] f H) (origRow call it base s_gnomonlaw07_GraphBack_r13 [53, 56, 57, 58, 59, 60, 61, 62, 63] f H) := row_seg call it base s_gnomonlaw07_GraphBack_r13p0 s_gnomonlaw07_GraphBack_r13t1 (by kernel_rfl) f H
theorem s_gnomonlaw07_GraphBack_r13t1_x (call : CallF) (it : IterF) (base : Nat) (f : List V) (H : Heap) : evC call it base (.region s_gnomonlaw07_GraphBack_r13t1 [] [53, 56, 57, 58, 59, 60, 61, 62, 63]) f H = thenC call it base (.region s_gnomonlaw07_GraphBack_r13t2 [] [53, 56, 57, 58, 59, 60, 61, 62, 63]) (opsC [] s_gnomonlaw07_GraphBack_r13p1 [56, 57, 58] (evOps call base [⟨some 59, (.call (.c (.fn 20 [] [])) [(.t 56), (.t 57), (.t 58)]), none⟩] f H)) := (row_op call it base s_gnomonlaw07_GraphBack_r13p1 s_gnomonlaw07_GraphBack_r13t2 (kc := [56, 57, 58]) (by kernel_rfl) f H).trans (by rw [row_ops]; rfl)
theorem s_gnomonlaw07_GraphBack_r13p2_tale (fr : List V) (H : Heap) : evTale (symAll s_gnomonlaw07_GraphBack_r13p2 [] [60, 61, 62]) [] fr H = evTale (some (63, [], [(60, (.t 3)), (61, (.t 7)), (62, (.t 6))])) [] fr H := tale_row (items := [.tt 3, .tt 7, .tt 6]) (by kernel_rfl) fr H
theorem s_gnomonlaw07_GraphBack_r13t2_x (call : CallF) (it : IterF) (base : Nat) (f : List V) (H : Heap) : evC call it base (.region s_gnomonlaw07_GraphBack_r13t2 [] [53, 56, 57, 58, 59, 60, 61, 62, 63]) f H = segC call it base s_gnomonlaw07_GraphBack_r13t3 [53, 56, 57, 58, 59, 60, 61, 62, 63] H (evTale (symAll s_gnomonlaw07_GraphBack_r13p2 [] [60, 61, 62]) [] f H) (origRow call it base s_gnomonlaw07_GraphBack_r13t2 [53, 56, 57, 58, 59, 60, 61, 62, 63] f H) := row_seg call it base s_gnomonlaw07_GraphBack_r13p2 s_gnomonlaw07_GraphBack_r13t3 (by kernel_rfl) f H
theorem s_gnomonlaw07_GraphBack_r13t3_x (call : CallF) (it : IterF) (base : Nat) (f : List V) (H : Heap) : evC call it base (.region s_gnomonlaw07_GraphBack_r13t3 [] [53, 56, 57, 58, 59, 60, 61, 62, 63]) f H = thenC call it base (.region s_gnomonlaw07_GraphBack_r13t4 [] [53, 56, 57, 58, 59, 60, 61, 62, 63]) (opsC [] s_gnomonlaw07_GraphBack_r13p3 [60, 61, 62] (evOps call base [⟨some 63, (.call (.c (.fn 20 [] [])) [(.t 60), (.t 61), (.t 62)]), none⟩] f H)) := (row_op call it base s_gnomonlaw07_GraphBack_r13p3 s_gnomonlaw07_GraphBack_r13t4 (kc := [60, 61, 62]) (by kernel_rfl) f H).trans (by rw [row_ops]; rfl)
theorem s_gnomonlaw07_GraphBack_r13t4_tale (fr : List V) (H : Heap) : evTale (symAll s_gnomonlaw07_GraphBack_r13t4 [53, 56, 57, 58, 59, 60, 61, 62, 63] [64]) [53, 56, 57, 58, 59, 60, 61, 62, 63] fr H = evTale (some (65, [], [(64, (.op (.eqB true (.t 0) (.t 1)) [(.t 59), (.t 63)]))])) [53, 56, 57, 58, 59, 60, 61, 62, 63] fr H := tale_row (items := [.sub 0 [] []]) (by kernel_rfl) fr H
theorem s_gnomonlaw07_GraphBack_r13t4_x (call : CallF) (it : IterF) (base : Nat) (f : List V) (H : Heap) : evC call it base (.region s_gnomonlaw07_GraphBack_r13t4 [] [53, 56, 57, 58, 59, 60, 61, 62, 63]) f H = segL H (evTale (symAll s_gnomonlaw07_GraphBack_r13t4 [53, 56, 57, 58, 59, 60, 61, 62, 63] [64]) [53, 56, 57, 58, 59, 60, 61, 62, 63] f H) (origRow call it base s_gnomonlaw07_GraphBack_r13t4 [53, 56, 57, 58, 59, 60, 61, 62, 63] f H) := row_last call it base _ f H
def s_gnomonlaw07_GraphBack_r14 : List AOper := [
  ⟨some 2, (.move (.c (.s (.bool false)))), none⟩]
theorem s_gnomonlaw07_GraphBack_r14_tale (fr : List V) (H : Heap) : evTale (symAll s_gnomonlaw07_GraphBack_r14 [0, 3, 4, 5, 6, 7, 64] [2]) [0, 3, 4, 5, 6, 7, 64] fr H = evTale (some (3, [], [(2, (.c (.s (.bool false))))])) [0, 3, 4, 5, 6, 7, 64] fr H := tale_row (items := [.cc (.s (.bool false))]) (by kernel_rfl) fr H
def s_gnomonlaw07_GraphBack_r15 : List AOper := [
  ⟨some 54, (.move (.t 7)), none⟩,
  ⟨some 55, (.bin .add (.t 54) (.c (.s (.int .i64 1)))), none⟩,
  ⟨some 7, (.move (.t 55)), none⟩]
theorem s_gnomonlaw07_GraphBack_r15_tale (fr : List V) (H : Heap) : evTale (symAll s_gnomonlaw07_GraphBack_r15 [54, 55, 64] [7]) [54, 55, 64] fr H = evTale (some (56, [], [(7, (.op (.bin .add (.t 0) (.c (.s (.int .i64 1)))) [(.t 7), (.c (.s (.int .i64 1)))]))])) [54, 55, 64] fr H := tale_row (items := [.tt 7, .sub 0 [] [], .sub 0 [] []]) (by kernel_rfl) fr H
def s_gnomonlaw07_GraphBack_l0_b : ACode :=
  (.seq (.seq (.regionE s_gnomonlaw07_GraphBack_r12 [50, 51, 52] [53])
  (.cond (.t 53)
  .skip
  (.exit 2)))
  (.seq (.block 3
  (.seq (.region s_gnomonlaw07_GraphBack_r13 [] [53, 56, 57, 58, 59, 60, 61, 62, 63])
  (.cond (.t 64)
  (.seq (.regionE s_gnomonlaw07_GraphBack_r14 [0, 3, 4, 5, 6, 7, 64] [2])
  .ret)
  .skip)))
  (.regionE s_gnomonlaw07_GraphBack_r15 [54, 55, 64] [7])))
def s_gnomonlaw07_GraphBack_l0 : ACode := s_gnomonlaw07_GraphBack_l0_b
theorem s_gnomonlaw07_GraphBack_l0_ev (call : CallF) (it : IterF) (base : Nat) (fr : List V) (H : Heap) : evC call it base s_gnomonlaw07_GraphBack_l0 fr H = evC call it base s_gnomonlaw07_GraphBack_l0_b fr H := rfl
def s_gnomonlaw07_GraphBack_r16 : List AOper := [
  ⟨some 38, (.move (.t 6)), none⟩,
  ⟨some 39, (.bin .add (.t 38) (.c (.s (.int .i64 1)))), none⟩,
  ⟨some 6, (.move (.t 39)), none⟩]
theorem s_gnomonlaw07_GraphBack_r16_tale (fr : List V) (H : Heap) : evTale (symAll s_gnomonlaw07_GraphBack_r16 [7, 38, 39, 53] [6]) [7, 38, 39, 53] fr H = evTale (some (40, [], [(6, (.op (.bin .add (.t 0) (.c (.s (.int .i64 1)))) [(.t 6), (.c (.s (.int .i64 1)))]))])) [7, 38, 39, 53] fr H := tale_row (items := [.tt 6, .sub 0 [] [], .sub 0 [] []]) (by kernel_rfl) fr H
def s_gnomonlaw07_GraphBack_l1_b : ACode :=
  (.seq (.seq (.regionE s_gnomonlaw07_GraphBack_r8 [34, 35, 36] [37])
  (.cond (.t 37)
  .skip
  (.exit 0)))
  (.seq (.block 1
  (.seq (.seq (.region s_gnomonlaw07_GraphBack_r9 [] [37, 40, 41, 42, 43, 44, 45, 46, 47, 48])
  (.cond (.t 49)
  (.seq (.regionE s_gnomonlaw07_GraphBack_r10 [0, 3, 4, 5, 6, 49] [2])
  .ret)
  .skip))
  (.seq (.regionE s_gnomonlaw07_GraphBack_r11 [49] [7])
  (.block 2
  (.loop [] s_gnomonlaw07_GraphBack_l0)))))
  (.regionE s_gnomonlaw07_GraphBack_r16 [7, 38, 39, 53] [6])))
def s_gnomonlaw07_GraphBack_l1 : ACode := s_gnomonlaw07_GraphBack_l1_b
theorem s_gnomonlaw07_GraphBack_l1_ev (call : CallF) (it : IterF) (base : Nat) (fr : List V) (H : Heap) : evC call it base s_gnomonlaw07_GraphBack_l1 fr H = evC call it base s_gnomonlaw07_GraphBack_l1_b fr H := rfl
def s_gnomonlaw07_GraphBack_r17t1 : List AOper := [⟨some 2, (.move (.t 65)), none⟩]
def s_gnomonlaw07_GraphBack_r17p0 : List AOper := [⟨some 65, (.call (.c (.fn 10 [] [])) []), none⟩]
def s_gnomonlaw07_GraphBack_r17 : List AOper := s_gnomonlaw07_GraphBack_r17p0 ++ s_gnomonlaw07_GraphBack_r17t1
theorem s_gnomonlaw07_GraphBack_r17_x (call : CallF) (it : IterF) (base : Nat) (f : List V) (H : Heap) : evC call it base (.region s_gnomonlaw07_GraphBack_r17 [] [0, 3, 4, 5, 6, 37, 65]) f H = thenC call it base (.region s_gnomonlaw07_GraphBack_r17t1 [] [0, 3, 4, 5, 6, 37, 65]) (opsC [] s_gnomonlaw07_GraphBack_r17p0 [0, 3, 4, 5, 6, 37] (evOps call base [⟨some 65, (.call (.c (.fn 10 [] [])) []), none⟩] f H)) := (row_op call it base s_gnomonlaw07_GraphBack_r17p0 s_gnomonlaw07_GraphBack_r17t1 (kc := [0, 3, 4, 5, 6, 37]) (by kernel_rfl) f H).trans (by rw [row_ops]; rfl)
theorem s_gnomonlaw07_GraphBack_r17t1_tale (fr : List V) (H : Heap) : evTale (symAll s_gnomonlaw07_GraphBack_r17t1 [0, 3, 4, 5, 6, 37, 65] [2]) [0, 3, 4, 5, 6, 37, 65] fr H = evTale (some (3, [], [(2, (.t 65))])) [0, 3, 4, 5, 6, 37, 65] fr H := tale_row (items := [.tt 65]) (by kernel_rfl) fr H
theorem s_gnomonlaw07_GraphBack_r17t1_x (call : CallF) (it : IterF) (base : Nat) (f : List V) (H : Heap) : evC call it base (.region s_gnomonlaw07_GraphBack_r17t1 [] [0, 3, 4, 5, 6, 37, 65]) f H = segL H (evTale (symAll s_gnomonlaw07_GraphBack_r17t1 [0, 3, 4, 5, 6, 37, 65] [2]) [0, 3, 4, 5, 6, 37, 65] f H) (origRow call it base s_gnomonlaw07_GraphBack_r17t1 [0, 3, 4, 5, 6, 37, 65] f H) := row_last call it base _ f H
def s_gnomonlaw07_GraphBack : ACFun := { ntmps := 66, results := [(.tmp 2)], body :=
  (.seq (.regionE s_gnomonlaw07_GraphBack_r0 s_gnomonlaw07_GraphBack_r0_k [])
  (.seq (.seq (.region s_gnomonlaw07_GraphBack_r1 [] [8, 9, 10, 11, 12, 13])
  (.cond (.t 14)
  (.seq (.region s_gnomonlaw07_GraphBack_r2 [] [0, 14, 15])
  .ret)
  .skip))
  (.seq (.region s_gnomonlaw07_GraphBack_r3 [] [14, 16, 17])
  (.seq (.region s_gnomonlaw07_GraphBack_r4 [] [18, 19, 20, 21])
  (.seq (.seq (.regionE s_gnomonlaw07_GraphBack_r5 [22, 23, 24, 25, 26, 27, 28, 29, 30, 31, 32] [33])
  (.cond (.t 33)
  (.seq (.regionE s_gnomonlaw07_GraphBack_r6 [0, 3, 4, 5, 33] [2])
  .ret)
  .skip))
  (.seq (.seq (.regionE s_gnomonlaw07_GraphBack_r7 [33] [6])
  (.block 0
  (.loop [] s_gnomonlaw07_GraphBack_l1)))
  (.seq (.region s_gnomonlaw07_GraphBack_r17 [] [0, 3, 4, 5, 6, 37, 65])
  .ret))))))) }
/- 7 gnomon/gnomonlaw07.GraphTogether -/
abbrev k_gnomonlaw07_GraphTogether : Nat := 7
def s_gnomonlaw07_GraphTogether_r0_k : List Nat := [3, 4, 5, 6, 7, 8, 9, 10, 11, 12, 13, 14, 15, 16, 17, 18, 19, 20, 21, 22, 23, 24, 25, 26, 27, 28, 29, 30, 31, 32, 33, 34, 35, 36, 37, 38, 39, 40, 41, 42, 43, 44, 45, 46, 47, 48, 49, 50, 51, 52, 53, 54, 55, 56, 57, 58, 59, 60, 61, 62, 63, 64, 65, 66, 67, 68, 69, 70, 71, 72, 73, 74, 75, 76, 77, 78, 79, 80, 81, 82, 83, 84, 85, 86, 87, 88, 89, 90, 91, 92, 93, 94, 95, 96, 97, 98, 99, 100, 101, 102, 103, 104, 105, 106, 107, 108, 109, 110]
theorem s_gnomonlaw07_GraphTogether_r0_kT : killV s_gnomonlaw07_GraphTogether_r0_k (startV 111 [] 3) = [] := by kernel_rfl
theorem s_gnomonlaw07_GraphTogether_r0_kA0 : s_gnomonlaw07_GraphTogether_r0_k.contains 0 = false := by kernel_rfl
theorem s_gnomonlaw07_GraphTogether_r0_kA1 : s_gnomonlaw07_GraphTogether_r0_k.contains 1 = false := by kernel_rfl
theorem s_gnomonlaw07_GraphTogether_r0_kA2 : s_gnomonlaw07_GraphTogether_r0_k.contains 2 = false := by kernel_rfl
def s_gnomonlaw07_GraphTogether_r0 : List AOper := [
  ⟨some 6, (.move (.c (.s (.bool false)))), none⟩]
theorem s_gnomonlaw07_GraphTogether_r0_tale (fr : List V) (H : Heap) : evTale (symAll s_gnomonlaw07_GraphTogether_r0 s_gnomonlaw07_GraphTogether_r0_k []) s_gnomonlaw07_GraphTogether_r0_k fr H = evTale (some (7, [], [])) s_gnomonlaw07_GraphTogether_r0_k fr H := tale_row (items := [.cc (.s (.bool false))]) (by kernel_rfl) fr H
def s_gnomonlaw07_GraphTogether_r1t2 : List AOper := [⟨some 16, (.move (.t 15)), none⟩, ⟨some 17, (.move (.t 0)), some (16, false)⟩, ⟨some 18, (.lenS .s (.t 17)), some (16, false)⟩, ⟨some 19, (.bin .gtr (.t 18) (.c (.s (.int .i64 60)))), some (16, false)⟩, ⟨some 20, (.pick (.t 16) (.c (.s (.bool true))) (.t 19)), none⟩, ⟨some 21, (.move (.t 20)), none⟩, ⟨some 22, (.move (.t 1)), some (21, false)⟩, ⟨some 23, (.lenS .s (.t 22)), some (21, false)⟩, ⟨some 24, (.bin .gtr (.t 23) (.c (.s (.int .i64 60)))), some (21, false)⟩, ⟨some 25, (.pick (.t 21) (.c (.s (.bool true))) (.t 24)), none⟩, ⟨some 26, (.move (.t 25)), none⟩, ⟨some 27, (.move (.t 2)), some (26, false)⟩, ⟨some 28, (.lenS .s (.t 27)), some (26, false)⟩, ⟨some 29, (.bin .gtr (.t 28) (.c (.s (.int .i64 60)))), some (26, false)⟩, ⟨some 30, (.pick (.t 26) (.c (.s (.bool true))) (.t 29)), none⟩]
def s_gnomonlaw07_GraphTogether_r1p1 : List AOper := [⟨some 15, (.call (.c (.fn 9 [] [])) [(.t 14)]), none⟩]
def s_gnomonlaw07_GraphTogether_r1t1 : List AOper := s_gnomonlaw07_GraphTogether_r1p1 ++ s_gnomonlaw07_GraphTogether_r1t2
def s_gnomonlaw07_GraphTogether_r1p0 : List AOper := [⟨some 14, (.move (.t 0)), none⟩]
def s_gnomonlaw07_GraphTogether_r1 : List AOper := s_gnomonlaw07_GraphTogether_r1p0 ++ s_gnomonlaw07_GraphTogether_r1t1
theorem s_gnomonlaw07_GraphTogether_r1p0_tale (fr : List V) (H : Heap) : evTale (symAll s_gnomonlaw07_GraphTogether_r1p0 [] [14]) [] fr H = evTale (some (15, [], [(14, (.t 0))])) [] fr H := tale_row (items := [.tt 0]) (by kernel_rfl) fr H
theorem s_gnomonlaw07_GraphTogether_r1_x (call : CallF) (it : IterF) (base : Nat) (f : List V) (H : Heap) : evC call it base (.region s_gnomonlaw07_GraphTogether_r1 [] [14, 15, 16, 17, 18, 19, 20, 21, 22, 23, 24, 25, 26, 27, 28, 29]) f H = segC call it base s_gnomonlaw07_GraphTogether_r1t1 [14, 15, 16, 17, 18, 19, 20, 21, 22, 23, 24, 25, 26, 27, 28, 29] H (evTale (symAll s_gnomonlaw07_GraphTogether_r1p0 [] [14]) [] f H) (origRow call it base s_gnomonlaw07_GraphTogether_r1 [14, 15, 16, 17, 18, 19, 20, 21, 22, 23, 24, 25, 26, 27, 28, 29] f H) := row_seg call it base s_gnomonlaw07_GraphTogether_r1p0 s_gnomonlaw07_GraphTogether_r1t1 (by kernel_rfl) f H
theorem s_gnomonlaw07_GraphTogether_r1t1_x (call : CallF) (it : IterF) (base : Nat) (f : List V) (H : Heap) : evC call it base (.region s_gnomonlaw07_GraphTogether_r1t1 [] [14, 15, 16, 17, 18, 19, 20, 21, 22, 23, 24, 25, 26, 27, 28, 29]) f H = thenC call it base (.region s_gnomonlaw07_GraphTogether_r1t2 [] [14, 15, 16, 17, 18, 19, 20, 21, 22, 23, 24, 25, 26, 27, 28, 29]) (opsC [] s_gnomonlaw07_GraphTogether_r1p1 [14] (evOps call base [⟨some 15, (.call (.c (.fn 9 [] [])) [(.t 14)]), none⟩] f H)) := (row_op call it base s_gnomonlaw07_GraphTogether_r1p1 s_gnomonlaw07_GraphTogether_r1t2 (kc := [14]) (by kernel_rfl) f H).trans (by rw [row_ops]; rfl)
theorem s_gnomonlaw07_GraphTogether_r1t2_tale (fr : List V) (H : Heap) : evTale (symAll s_gnomonlaw07_GraphTogether_r1t2 [14, 15, 16, 17, 18, 19, 20, 21, 22, 23, 24, 25, 26, 27, 28, 29] [30]) [14, 15, 16, 17, 18, 19, 20, 21, 22, 23, 24, 25, 26, 27, 28, 29] fr H = evTale (some (31, [], [(30, (.pick (.pick (.pick (.t 15) (.c (.s (.bool true))) (.op (.bin .gtr (.t 0) (.c (.s (.int .i64 60)))) [(.op (.lenS .s (.t 0)) [(.t 0)]), (.c (.s (.int .i64 60)))])) (.c (.s (.bool true))) (.op (.bin .gtr (.t 0) (.c (.s (.int .i64 60)))) [(.op (.lenS .s (.t 0)) [(.t 1)]), (.c (.s (.int .i64 60)))])) (.c (.s (.bool true))) (.op (.bin .gtr (.t 0) (.c (.s (.int .i64 60)))) [(.op (.lenS .s (.t 0)) [(.t 2)]), (.c (.s (.int .i64 60)))])))])) [14, 15, 16, 17, 18, 19, 20, 21, 22, 23, 24, 25, 26, 27, 28, 29] fr H := tale_row (items := [.tt 15, .sub 0 [0, 0, 2, 0, 0] [16], .sub 0 [0, 0, 2, 0] [16], .sub 0 [0, 0, 2] [16], .sub 0 [0, 0] [], .sub 0 [0, 0] [], .sub 0 [0, 2, 0, 0] [21], .sub 0 [0, 2, 0] [21], .sub 0 [0, 2] [21], .sub 0 [0] [], .sub 0 [0] [], .sub 0 [2, 0, 0] [26], .sub 0 [2, 0] [26], .sub 0 [2] [26], .sub 0 [] []]) (by kernel_rfl) fr H
theorem s_gnomonlaw07_GraphTogether_r1t2_x (call : CallF) (it : IterF) (base : Nat) (f : List V) (H : Heap) : evC call it base (.region s_gnomonlaw07_GraphTogether_r1t2 [] [14, 15, 16, 17, 18, 19, 20, 21, 22, 23, 24, 25, 26, 27, 28, 29]) f H = segL H (evTale (symAll s_gnomonlaw07_GraphTogether_r1t2 [14, 15, 16, 17, 18, 19, 20, 21, 22, 23, 24, 25, 26, 27, 28, 29] [30]) [14, 15, 16, 17, 18, 19, 20, 21, 22, 23, 24, 25, 26, 27, 28, 29] f H) (origRow call it base s_gnomonlaw07_GraphTogether_r1t2 [14, 15, 16, 17, 18, 19, 20, 21, 22, 23, 24, 25, 26, 27, 28, 29] f H) := row_last call it base _ f H
def s_gnomonlaw07_GraphTogether_r2t1 : List AOper := [⟨some 6, (.move (.t 31)), none⟩]
def s_gnomonlaw07_GraphTogether_r2p0 : List AOper := [⟨some 31, (.call (.c (.fn 10 [] [])) []), none⟩]
def s_gnomonlaw07_GraphTogether_r2 : List AOper := s_gnomonlaw07_GraphTogether_r2p0 ++ s_gnomonlaw07_GraphTogether_r2t1
theorem s_gnomonlaw07_GraphTogether_r2_x (call : CallF) (it : IterF) (base : Nat) (f : List V) (H : Heap) : evC call it base (.region s_gnomonlaw07_GraphTogether_r2 [] [0, 1, 2, 30, 31]) f H = thenC call it base (.region s_gnomonlaw07_GraphTogether_r2t1 [] [0, 1, 2, 30, 31]) (opsC [] s_gnomonlaw07_GraphTogether_r2p0 [0, 1, 2, 30] (evOps call base [⟨some 31, (.call (.c (.fn 10 [] [])) []), none⟩] f H)) := (row_op call it base s_gnomonlaw07_GraphTogether_r2p0 s_gnomonlaw07_GraphTogether_r2t1 (kc := [0, 1, 2, 30]) (by kernel_rfl) f H).trans (by rw [row_ops]; rfl)
theorem s_gnomonlaw07_GraphTogether_r2t1_tale (fr : List V) (H : Heap) : evTale (symAll s_gnomonlaw07_GraphTogether_r2t1 [0, 1, 2, 30, 31] [6]) [0, 1, 2, 30, 31] fr H = evTale (some (7, [], [(6, (.t 31))])) [0, 1, 2, 30, 31] fr H := tale_row (items := [.tt 31]) (by kernel_rfl) fr H
theorem s_gnomonlaw07_GraphTogether_r2t1_x (call : CallF) (it : IterF) (base : Nat) (f : List V) (H : Heap) : evC call it base (.region s_gnomonlaw07_GraphTogether_r2t1 [] [0, 1, 2, 30, 31]) f H = segL H (evTale (symAll s_gnomonlaw07_GraphTogether_r2t1 [0, 1, 2, 30, 31] [6]) [0, 1, 2, 30, 31] f H) (origRow call it base s_gnomonlaw07_GraphTogether_r2t1 [0, 1, 2, 30, 31] f H) := row_last call it base _ f H
def s_gnomonlaw07_GraphTogether_r3t9 : List AOper := [⟨some 7, (.move (.t 34)), none⟩, ⟨some 8, (.move (.t 37)), none⟩, ⟨some 9, (.move (.t 43)), none⟩]
def s_gnomonlaw07_GraphTogether_r3p8 : List AOper := [⟨some 43, (.call (.c (.fn 18 [] [])) [(.t 38), (.t 42)]), none⟩]
def s_gnomonlaw07_GraphTogether_r3t8 : List AOper := s_gnomonlaw07_GraphTogether_r3p8 ++ s_gnomonlaw07_GraphTogether_r3t9
def s_gnomonlaw07_GraphTogether_r3p7 : List AOper := [⟨some 42, (.append 1 8 (.t 40) (.t 41)), none⟩]
def s_gnomonlaw07_GraphTogether_r3t7 : List AOper := s_gnomonlaw07_GraphTogether_r3p7 ++ s_gnomonlaw07_GraphTogether_r3t8
def s_gnomonlaw07_GraphTogether_r3p6 : List AOper := [⟨some 41, (.move (.t 2)), none⟩]
def s_gnomonlaw07_GraphTogether_r3t6 : List AOper := s_gnomonlaw07_GraphTogether_r3p6 ++ s_gnomonlaw07_GraphTogether_r3t7
def s_gnomonlaw07_GraphTogether_r3p5 : List AOper := [⟨some 40, (.append 1 8 (.c (.s (.slice none 0 0))) (.t 39)), none⟩]
def s_gnomonlaw07_GraphTogether_r3t5 : List AOper := s_gnomonlaw07_GraphTogether_r3p5 ++ s_gnomonlaw07_GraphTogether_r3t6
def s_gnomonlaw07_GraphTogether_r3p4 : List AOper := [⟨some 38, (.move (.t 0)), none⟩, ⟨some 39, (.move (.t 1)), none⟩]
def s_gnomonlaw07_GraphTogether_r3t4 : List AOper := s_gnomonlaw07_GraphTogether_r3p4 ++ s_gnomonlaw07_GraphTogether_r3t5
def s_gnomonlaw07_GraphTogether_r3p3 : List AOper := [⟨some 37, (.call (.c (.fn 18 [] [])) [(.t 35), (.t 36)]), none⟩]
def s_gnomonlaw07_GraphTogether_r3t3 : List AOper := s_gnomonlaw07_GraphTogether_r3p3 ++ s_gnomonlaw07_GraphTogether_r3t4
def s_gnomonlaw07_GraphTogether_r3p2 : List AOper := [⟨some 35, (.move (.t 0)), none⟩, ⟨some 36, (.move (.t 2)), none⟩]
def s_gnomonlaw07_GraphTogether_r3t2 : List AOper := s_gnomonlaw07_GraphTogether_r3p2 ++ s_gnomonlaw07_GraphTogether_r3t3
def s_gnomonlaw07_GraphTogether_r3p1 : List AOper := [⟨some 34, (.call (.c (.fn 18 [] [])) [(.t 32), (.t 33)]), none⟩]
def s_gnomonlaw07_GraphTogether_r3t1 : List AOper := s_gnomonlaw07_GraphTogether_r3p1 ++ s_gnomonlaw07_GraphTogether_r3t2
def s_gnomonlaw07_GraphTogether_r3p0 : List AOper := [⟨some 32, (.move (.t 0)), none⟩, ⟨some 33, (.move (.t 1)), none⟩]
def s_gnomonlaw07_GraphTogether_r3 : List AOper := s_gnomonlaw07_GraphTogether_r3p0 ++ s_gnomonlaw07_GraphTogether_r3t1
theorem s_gnomonlaw07_GraphTogether_r3p0_tale (fr : List V) (H : Heap) : evTale (symAll s_gnomonlaw07_GraphTogether_r3p0 [30] [32, 33]) [30] fr H = evTale (some (34, [], [(32, (.t 0)), (33, (.t 1))])) [30] fr H := tale_row (items := [.tt 0, .tt 1]) (by kernel_rfl) fr H
theorem s_gnomonlaw07_GraphTogether_r3_x (call : CallF) (it : IterF) (base : Nat) (f : List V) (H : Heap) : evC call it base (.region s_gnomonlaw07_GraphTogether_r3 [] [1, 2, 30, 32, 33, 34, 35, 36, 37, 38, 39, 40, 41, 42, 43]) f H = segC call it base s_gnomonlaw07_GraphTogether_r3t1 [1, 2, 30, 32, 33, 34, 35, 36, 37, 38, 39, 40, 41, 42, 43] H (evTale (symAll s_gnomonlaw07_GraphTogether_r3p0 [30] [32, 33]) [30] f H) (origRow call it base s_gnomonlaw07_GraphTogether_r3 [1, 2, 30, 32, 33, 34, 35, 36, 37, 38, 39, 40, 41, 42, 43] f H) := row_seg call it base s_gnomonlaw07_GraphTogether_r3p0 s_gnomonlaw07_GraphTogether_r3t1 (by kernel_rfl) f H
theorem s_gnomonlaw07_GraphTogether_r3t1_x (call : CallF) (it : IterF) (base : Nat) (f : List V) (H : Heap) : evC call it base (.region s_gnomonlaw07_GraphTogether_r3t1 [] [1, 2, 30, 32, 33, 34, 35, 36, 37, 38, 39, 40, 41, 42, 43]) f H = thenC call it base (.region s_gnomonlaw07_GraphTogether_r3t2 [] [1, 2, 30, 32, 33, 34, 35, 36, 37, 38, 39, 40, 41, 42, 43]) (opsC [] s_gnomonlaw07_GraphTogether_r3p1 [32, 33] (evOps call base [⟨some 34, (.call (.c (.fn 18 [] [])) [(.t 32), (.t 33)]), none⟩] f H)) := (row_op call it base s_gnomonlaw07_GraphTogether_r3p1 s_gnomonlaw07_GraphTogether_r3t2 (kc := [32, 33]) (by kernel_rfl) f H).trans (by rw [row_ops]; rfl)
theorem s_gnomonlaw07_GraphTogether_r3p2_tale (fr : List V) (H : Heap) : evTale (symAll s_gnomonlaw07_GraphTogether_r3p2 [] [35, 36]) [] fr H = evTale (some (37, [], [(35, (.t 0)), (36, (.t 2))])) [] fr H := tale_row (items := [.tt 0, .tt 2]) (by kernel_rfl) fr H
theorem s_gnomonlaw07_GraphTogether_r3t2_x (call : CallF) (it : IterF) (base : Nat) (f : List V) (H : Heap) : evC call it base (.region s_gnomonlaw07_GraphTogether_r3t2 [] [1, 2, 30, 32, 33, 34, 35, 36, 37, 38, 39, 40, 41, 42, 43]) f H = segC call it base s_gnomonlaw07_GraphTogether_r3t3 [1, 2, 30, 32, 33, 34, 35, 36, 37, 38, 39, 40, 41, 42, 43] H (evTale (symAll s_gnomonlaw07_GraphTogether_r3p2 [] [35, 36]) [] f H) (origRow call it base s_gnomonlaw07_GraphTogether_r3t2 [1, 2, 30, 32, 33, 34, 35, 36, 37, 38, 39, 40, 41, 42, 43] f H) := row_seg call it base s_gnomonlaw07_GraphTogether_r3p2 s_gnomonlaw07_GraphTogether_r3t3 (by kernel_rfl) f H
theorem s_gnomonlaw07_GraphTogether_r3t3_x (call : CallF) (it : IterF) (base : Nat) (f : List V) (H : Heap) : evC call it base (.region s_gnomonlaw07_GraphTogether_r3t3 [] [1, 2, 30, 32, 33, 34, 35, 36, 37, 38, 39, 40, 41, 42, 43]) f H = thenC call it base (.region s_gnomonlaw07_GraphTogether_r3t4 [] [1, 2, 30, 32, 33, 34, 35, 36, 37, 38, 39, 40, 41, 42, 43]) (opsC [] s_gnomonlaw07_GraphTogether_r3p3 [35, 36] (evOps call base [⟨some 37, (.call (.c (.fn 18 [] [])) [(.t 35), (.t 36)]), none⟩] f H)) := (row_op call it base s_gnomonlaw07_GraphTogether_r3p3 s_gnomonlaw07_GraphTogether_r3t4 (kc := [35, 36]) (by kernel_rfl) f H).trans (by rw [row_ops]; rfl)
theorem s_gnomonlaw07_GraphTogether_r3p4_tale (fr : List V) (H : Heap) : evTale (symAll s_gnomonlaw07_GraphTogether_r3p4 [1] [38, 39]) [1] fr H = evTale (some (40, [], [(38, (.t 0)), (39, (.t 1))])) [1] fr H := tale_row (items := [.tt 0, .tt 1]) (by kernel_rfl) fr H
theorem s_gnomonlaw07_GraphTogether_r3t4_x (call : CallF) (it : IterF) (base : Nat) (f : List V) (H : Heap) : evC call it base (.region s_gnomonlaw07_GraphTogether_r3t4 [] [1, 2, 30, 32, 33, 34, 35, 36, 37, 38, 39, 40, 41, 42, 43]) f H = segC call it base s_gnomonlaw07_GraphTogether_r3t5 [1, 2, 30, 32, 33, 34, 35, 36, 37, 38, 39, 40, 41, 42, 43] H (evTale (symAll s_gnomonlaw07_GraphTogether_r3p4 [1] [38, 39]) [1] f H) (origRow call it base s_gnomonlaw07_GraphTogether_r3t4 [1, 2, 30, 32, 33, 34, 35, 36, 37, 38, 39, 40, 41, 42, 43] f H) := row_seg call it base s_gnomonlaw07_GraphTogether_r3p4 s_gnomonlaw07_GraphTogether_r3t5 (by kernel_rfl) f H
theorem s_gnomonlaw07_GraphTogether_r3t5_x (call : CallF) (it : IterF) (base : Nat) (f : List V) (H : Heap) : evC call it base (.region s_gnomonlaw07_GraphTogether_r3t5 [] [1, 2, 30, 32, 33, 34, 35, 36, 37, 38, 39, 40, 41, 42, 43]) f H = thenC call it base (.region s_gnomonlaw07_GraphTogether_r3t6 [] [1, 2, 30, 32, 33, 34, 35, 36, 37, 38, 39, 40, 41, 42, 43]) (opsC [] s_gnomonlaw07_GraphTogether_r3p5 [39] (evOps call base [⟨some 40, (.append 1 8 (.c (.s (.slice none 0 0))) (.t 39)), none⟩] f H)) := (row_op call it base s_gnomonlaw07_GraphTogether_r3p5 s_gnomonlaw07_GraphTogether_r3t6 (kc := [39]) (by kernel_rfl) f H).trans (by rw [row_ops]; rfl)
theorem s_gnomonlaw07_GraphTogether_r3p6_tale (fr : List V) (H : Heap) : evTale (symAll s_gnomonlaw07_GraphTogether_r3p6 [2] [41]) [2] fr H = evTale (some (42, [], [(41, (.t 2))])) [2] fr H := tale_row (items := [.tt 2]) (by kernel_rfl) fr H
theorem s_gnomonlaw07_GraphTogether_r3t6_x (call : CallF) (it : IterF) (base : Nat) (f : List V) (H : Heap) : evC call it base (.region s_gnomonlaw07_GraphTogether_r3t6 [] [1, 2, 30, 32, 33, 34, 35, 36, 37, 38, 39, 40, 41, 42, 43]) f H = segC call it base s_gnomonlaw07_GraphTogether_r3t7 [1, 2, 30, 32, 33, 34, 35, 36, 37, 38, 39, 40, 41, 42, 43] H (evTale (symAll s_gnomonlaw07_GraphTogether_r3p6 [2] [41]) [2] f H) (origRow call it base s_gnomonlaw07_GraphTogether_r3t6 [1, 2, 30, 32, 33, 34, 35, 36, 37, 38, 39, 40, 41, 42, 43] f H) := row_seg call it base s_gnomonlaw07_GraphTogether_r3p6 s_gnomonlaw07_GraphTogether_r3t7 (by kernel_rfl) f H
theorem s_gnomonlaw07_GraphTogether_r3t7_x (call : CallF) (it : IterF) (base : Nat) (f : List V) (H : Heap) : evC call it base (.region s_gnomonlaw07_GraphTogether_r3t7 [] [1, 2, 30, 32, 33, 34, 35, 36, 37, 38, 39, 40, 41, 42, 43]) f H = thenC call it base (.region s_gnomonlaw07_GraphTogether_r3t8 [] [1, 2, 30, 32, 33, 34, 35, 36, 37, 38, 39, 40, 41, 42, 43]) (opsC [] s_gnomonlaw07_GraphTogether_r3p7 [40, 41] (evOps call base [⟨some 42, (.append 1 8 (.t 40) (.t 41)), none⟩] f H)) := (row_op call it base s_gnomonlaw07_GraphTogether_r3p7 s_gnomonlaw07_GraphTogether_r3t8 (kc := [40, 41]) (by kernel_rfl) f H).trans (by rw [row_ops]; rfl)
theorem s_gnomonlaw07_GraphTogether_r3t8_x (call : CallF) (it : IterF) (base : Nat) (f : List V) (H : Heap) : evC call it base (.region s_gnomonlaw07_GraphTogether_r3t8 [] [1, 2, 30, 32, 33, 34, 35, 36, 37, 38, 39, 40, 41, 42, 43]) f H = thenC call it base (.region s_gnomonlaw07_GraphTogether_r3t9 [] [1, 2, 30, 32, 33, 34, 35, 36, 37, 38, 39, 40, 41, 42, 43]) (opsC [] s_gnomonlaw07_GraphTogether_r3p8 [38, 42] (evOps call base [⟨some 43, (.call (.c (.fn 18 [] [])) [(.t 38), (.t 42)]), none⟩] f H)) := (row_op call it base s_gnomonlaw07_GraphTogether_r3p8 s_gnomonlaw07_GraphTogether_r3t9 (kc := [38, 42]) (by kernel_rfl) f H).trans (by rw [row_ops]; rfl)
theorem s_gnomonlaw07_GraphTogether_r3t9_tale (fr : List V) (H : Heap) : evTale (symAll s_gnomonlaw07_GraphTogether_r3t9 [1, 2, 30, 32, 33, 34, 35, 36, 37, 38, 39, 40, 41, 42, 43] [7, 8, 9]) [1, 2, 30, 32, 33, 34, 35, 36, 37, 38, 39, 40, 41, 42, 43] fr H = evTale (some (10, [], [(7, (.t 34)), (8, (.t 37)), (9, (.t 43))])) [1, 2, 30, 32, 33, 34, 35, 36, 37, 38, 39, 40, 41, 42, 43] fr H := tale_row (items := [.tt 34, .tt 37, .tt 43]) (by kernel_rfl) fr H
theorem s_gnomonlaw07_GraphTogether_r3t9_x (call : CallF) (it : IterF) (base : Nat) (f : List V) (H : Heap) : evC call it base (.region s_gnomonlaw07_GraphTogether_r3t9 [] [1, 2, 30, 32, 33, 34, 35, 36, 37, 38, 39, 40, 41, 42, 43]) f H = segL H (evTale (symAll s_gnomonlaw07_GraphTogether_r3t9 [1, 2, 30, 32, 33, 34, 35, 36, 37, 38, 39, 40, 41, 42, 43] [7, 8, 9]) [1, 2, 30, 32, 33, 34, 35, 36, 37, 38, 39, 40, 41, 42, 43] f H) (origRow call it base s_gnomonlaw07_GraphTogether_r3t9 [1, 2, 30, 32, 33, 34, 35, 36, 37, 38, 39, 40, 41, 42, 43] f H) := row_last call it base _ f H
def s_gnomonlaw07_GraphTogether_r4 : List AOper := [
  ⟨some 44, (.move (.t 7)), none⟩,
  ⟨some 45, (.lenS .s (.t 44)), none⟩,
  ⟨some 46, (.move (.t 0)), none⟩,
  ⟨some 47, (.lenS .s (.t 46)), none⟩,
  ⟨some 48, (.bin .neq (.t 45) (.t 47)), none⟩,
  ⟨some 49, (.move (.t 48)), none⟩,
  ⟨some 50, (.move (.t 8)), some (49, false)⟩,
  ⟨some 51, (.lenS .s (.t 50)), some (49, false)⟩,
  ⟨some 52, (.move (.t 0)), some (49, false)⟩,
  ⟨some 53, (.lenS .s (.t 52)), some (49, false)⟩,
  ⟨some 54, (.bin .neq (.t 51) (.t 53)), some (49, false)⟩,
  ⟨some 55, (.pick (.t 49) (.c (.s (.bool true))) (.t 54)), none⟩,
  ⟨some 56, (.move (.t 55)), none⟩,
  ⟨some 57, (.move (.t 9)), some (56, false)⟩,
  ⟨some 58, (.lenS .s (.t 57)), some (56, false)⟩,
  ⟨some 59, (.move (.t 0)), some (56, false)⟩,
  ⟨some 60, (.lenS .s (.t 59)), some (56, false)⟩,
  ⟨some 61, (.bin .neq (.t 58) (.t 60)), some (56, false)⟩,
  ⟨some 62, (.pick (.t 56) (.c (.s (.bool true))) (.t 61)), none⟩]
theorem s_gnomonlaw07_GraphTogether_r4_tale (fr : List V) (H : Heap) : evTale (symAll s_gnomonlaw07_GraphTogether_r4 [44, 45, 46, 47, 48, 49, 50, 51, 52, 53, 54, 55, 56, 57, 58, 59, 60, 61] [62]) [44, 45, 46, 47, 48, 49, 50, 51, 52, 53, 54, 55, 56, 57, 58, 59, 60, 61] fr H = evTale (some (63, [], [(62, (.pick (.pick (.op (.bin .neq (.t 0) (.t 1)) [(.op (.lenS .s (.t 0)) [(.t 7)]), (.op (.lenS .s (.t 0)) [(.t 0)])]) (.c (.s (.bool true))) (.op (.bin .neq (.t 0) (.t 1)) [(.op (.lenS .s (.t 0)) [(.t 8)]), (.op (.lenS .s (.t 0)) [(.t 0)])])) (.c (.s (.bool true))) (.op (.bin .neq (.t 0) (.t 1)) [(.op (.lenS .s (.t 0)) [(.t 9)]), (.op (.lenS .s (.t 0)) [(.t 0)])])))])) [44, 45, 46, 47, 48, 49, 50, 51, 52, 53, 54, 55, 56, 57, 58, 59, 60, 61] fr H := tale_row (items := [.tt 7, .sub 0 [0, 0, 0] [], .tt 0, .sub 0 [0, 0, 1] [], .sub 0 [0, 0] [], .sub 0 [0, 0] [], .sub 0 [0, 2, 0, 0] [49], .sub 0 [0, 2, 0] [49], .sub 0 [0, 2, 1, 0] [49], .sub 0 [0, 2, 1] [49], .sub 0 [0, 2] [49], .sub 0 [0] [], .sub 0 [0] [], .sub 0 [2, 0, 0] [56], .sub 0 [2, 0] [56], .sub 0 [2, 1, 0] [56], .sub 0 [2, 1] [56], .sub 0 [2] [56], .sub 0 [] []]) (by kernel_rfl) fr H
def s_gnomonlaw07_GraphTogether_r5 : List AOper := [
  ⟨some 6, (.move (.c (.s (.bool false)))), none⟩]
theorem s_gnomonlaw07_GraphTogether_r5_tale (fr : List V) (H : Heap) : evTale (symAll s_gnomonlaw07_GraphTogether_r5 [0, 7, 8, 9, 62] [6]) [0, 7, 8, 9, 62] fr H = evTale (some (7, [], [(6, (.c (.s (.bool false))))])) [0, 7, 8, 9, 62] fr H := tale_row (items := [.cc (.s (.bool false))]) (by kernel_rfl) fr H
def s_gnomonlaw07_GraphTogether_r6 : List AOper := [
  ⟨some 10, (.move (.c (.s (.slice none 0 0)))), none⟩]
theorem s_gnomonlaw07_GraphTogether_r6_tale (fr : List V) (H : Heap) : evTale (symAll s_gnomonlaw07_GraphTogether_r6 [62] [10]) [62] fr H = evTale (some (11, [], [(10, (.c (.s (.slice none 0 0))))])) [62] fr H := tale_row (items := [.cc (.s (.slice none 0 0))]) (by kernel_rfl) fr H
def s_gnomonlaw07_GraphTogether_r7 : List AOper := [
  ⟨some 11, (.move (.c (.s (.int .i64 0)))), none⟩]
theorem s_gnomonlaw07_GraphTogether_r7_tale (fr : List V) (H : Heap) : evTale (symAll s_gnomonlaw07_GraphTogether_r7 [] [11]) [] fr H = evTale (some (12, [], [(11, (.c (.s (.int .i64 0))))])) [] fr H := tale_row (items := [.cc (.s (.int .i64 0))]) (by kernel_rfl) fr H
def s_gnomonlaw07_GraphTogether_r8 : List AOper := [
  ⟨some 63, (.move (.t 11)), none⟩,
  ⟨some 64, (.move (.t 0)), none⟩,
  ⟨some 65, (.lenS .s (.t 64)), none⟩,
  ⟨some 66, (.bin .lss (.t 63) (.t 65)), none⟩]
theorem s_gnomonlaw07_GraphTogether_r8_tale (fr : List V) (H : Heap) : evTale (symAll s_gnomonlaw07_GraphTogether_r8 [63, 64, 65] [66]) [63, 64, 65] fr H = evTale (some (67, [], [(66, (.op (.bin .lss (.t 0) (.t 1)) [(.t 11), (.op (.lenS .s (.t 0)) [(.t 0)])]))])) [63, 64, 65] fr H := tale_row (items := [.tt 11, .tt 0, .sub 0 [1] [], .sub 0 [] []]) (by kernel_rfl) fr H
def s_gnomonlaw07_GraphTogether_r9 : List AOper := [
  ⟨some 69, (.move (.t 9)), none⟩,
  ⟨some 70, (.move (.t 11)), none⟩,
  ⟨some 71, (.indexAddr 1 (.t 69) (.t 70)), none⟩,
  ⟨some 72, (.load false 1 (.t 71)), none⟩,
  ⟨some 73, (.move (.t 7)), none⟩,
  ⟨some 74, (.move (.t 11)), none⟩,
  ⟨some 75, (.indexAddr 1 (.t 73) (.t 74)), none⟩,
  ⟨some 76, (.load false 1 (.t 75)), none⟩,
  ⟨some 77, (.move (.t 76)), none⟩,
  ⟨some 78, (.move (.t 8)), some (77, false)⟩,
  ⟨some 79, (.move (.t 11)), some (77, false)⟩,
  ⟨some 80, (.indexAddr 1 (.t 78) (.t 79)), some (77, false)⟩,
  ⟨some 81, (.load false 1 (.t 80)), some (77, false)⟩,
  ⟨some 82, (.pick (.t 77) (.c (.s (.bool true))) (.t 81)), none⟩,
  ⟨some 83, (.eqB true (.t 72) (.t 82)), none⟩]
theorem s_gnomonlaw07_GraphTogether_r9_tale (fr : List V) (H : Heap) : evTale (symAll s_gnomonlaw07_GraphTogether_r9 [66, 69, 70, 71, 72, 73, 74, 75, 76, 77, 78, 79, 80, 81, 82] [83]) [66, 69, 70, 71, 72, 73, 74, 75, 76, 77, 78, 79, 80, 81, 82] fr H = evTale (some (84, [], [(83, (.op (.eqB true (.t 0) (.t 1)) [(.op (.load false 1 (.t 0)) [(.op (.indexAddr 1 (.t 0) (.t 1)) [(.t 9), (.t 11)])]), (.pick (.op (.load false 1 (.t 0)) [(.op (.indexAddr 1 (.t 0) (.t 1)) [(.t 7), (.t 11)])]) (.c (.s (.bool true))) (.op (.load false 1 (.t 0)) [(.op (.indexAddr 1 (.t 0) (.t 1)) [(.t 8), (.t 11)])]))]))])) [66, 69, 70, 71, 72, 73, 74, 75, 76, 77, 78, 79, 80, 81, 82] fr H := tale_row (items := [.tt 9, .tt 11, .sub 0 [0, 0] [], .sub 0 [0] [], .tt 7, .tt 11, .sub 0 [1, 0, 0] [], .sub 0 [1, 0] [], .sub 0 [1, 0] [], .sub 0 [1, 2, 0, 0] [77], .sub 0 [1, 2, 0, 1] [77], .sub 0 [1, 2, 0] [77], .sub 0 [1, 2] [77], .sub 0 [1] [], .sub 0 [] []]) (by kernel_rfl) fr H
def s_gnomonlaw07_GraphTogether_r10 : List AOper := [
  ⟨some 6, (.move (.c (.s (.bool false)))), none⟩]
theorem s_gnomonlaw07_GraphTogether_r10_tale (fr : List V) (H : Heap) : evTale (symAll s_gnomonlaw07_GraphTogether_r10 [0, 7, 8, 9, 10, 11, 83] [6]) [0, 7, 8, 9, 10, 11, 83] fr H = evTale (some (7, [], [(6, (.c (.s (.bool false))))])) [0, 7, 8, 9, 10, 11, 83] fr H := tale_row (items := [.cc (.s (.bool false))]) (by kernel_rfl) fr H
def s_gnomonlaw07_GraphTogether_r11 : List AOper := [
  ⟨some 84, (.move (.t 7)), none⟩,
  ⟨some 85, (.move (.t 11)), none⟩,
  ⟨some 86, (.indexAddr 1 (.t 84) (.t 85)), none⟩,
  ⟨some 87, (.load false 1 (.t 86)), none⟩]
theorem s_gnomonlaw07_GraphTogether_r11_tale (fr : List V) (H : Heap) : evTale (symAll s_gnomonlaw07_GraphTogether_r11 [83, 84, 85, 86] [87]) [83, 84, 85, 86] fr H = evTale (some (88, [], [(87, (.op (.load false 1 (.t 0)) [(.op (.indexAddr 1 (.t 0) (.t 1)) [(.t 7), (.t 11)])]))])) [83, 84, 85, 86] fr H := tale_row (items := [.tt 7, .tt 11, .sub 0 [0] [], .sub 0 [] []]) (by kernel_rfl) fr H
def s_gnomonlaw07_GraphTogether_r12t3 : List AOper := [⟨some 10, (.move (.t 91)), none⟩]
def s_gnomonlaw07_GraphTogether_r12p2 : List AOper := [⟨some 91, (.append 1 8 (.t 88) (.t 90)), none⟩]
def s_gnomonlaw07_GraphTogether_r12t2 : List AOper := s_gnomonlaw07_GraphTogether_r12p2 ++ s_gnomonlaw07_GraphTogether_r12t3
def s_gnomonlaw07_GraphTogether_r12p1 : List AOper := [⟨some 90, (.buildSl 1 1 [(.s (.int .i64 0))] [(0, (.t 89))]), none⟩]
def s_gnomonlaw07_GraphTogether_r12t1 : List AOper := s_gnomonlaw07_GraphTogether_r12p1 ++ s_gnomonlaw07_GraphTogether_r12t2
def s_gnomonlaw07_GraphTogether_r12p0 : List AOper := [⟨some 88, (.move (.t 10)), none⟩, ⟨some 89, (.move (.t 11)), none⟩]
def s_gnomonlaw07_GraphTogether_r12 : List AOper := s_gnomonlaw07_GraphTogether_r12p0 ++ s_gnomonlaw07_GraphTogether_r12t1
theorem s_gnomonlaw07_GraphTogether_r12p0_tale (fr : List V) (H : Heap) : evTale (symAll s_gnomonlaw07_GraphTogether_r12p0 [10, 87] [88, 89]) [10, 87] fr H = evTale (some (90, [], [(88, (.t 10)), (89, (.t 11))])) [10, 87] fr H := tale_row (items := [.tt 10, .tt 11]) (by kernel_rfl) fr H
theorem s_gnomonlaw07_GraphTogether_r12_x (call : CallF) (it : IterF) (base : Nat) (f : List V) (H : Heap) : evC call it base (.region s_gnomonlaw07_GraphTogether_r12 [] [87, 88, 89, 90, 91]) f H = segC call it base s_gnomonlaw07_GraphTogether_r12t1 [87, 88, 89, 90, 91] H (evTale (symAll s_gnomonlaw07_GraphTogether_r12p0 [10, 87] [88, 89]) [10, 87] f H) (origRow call it base s_gnomonlaw07_GraphTogether_r12 [87, 88, 89, 90, 91] f H) := row_seg call it base s_gnomonlaw07_GraphTogether_r12p0 s_gnomonlaw07_GraphTogether_r12t1 (by kernel_rfl) f H
theorem s_gnomonlaw07_GraphTogether_r12t1_x (call : CallF) (it : IterF) (base : Nat) (f : List V) (H : Heap) : evC call it base (.region s_gnomonlaw07_GraphTogether_r12t1 [] [87, 88, 89, 90, 91]) f H = thenC call it base (.region s_gnomonlaw07_GraphTogether_r12t2 [] [87, 88, 89, 90, 91]) (opsC [] s_gnomonlaw07_GraphTogether_r12p1 [89] (evOps call base [⟨some 90, (.buildSl 1 1 [(.s (.int .i64 0))] [(0, (.t 89))]), none⟩] f H)) := (row_op call it base s_gnomonlaw07_GraphTogether_r12p1 s_gnomonlaw07_GraphTogether_r12t2 (kc := [89]) (by kernel_rfl) f H).trans (by rw [row_ops]; rfl)
theorem s_gnomonlaw07_GraphTogether_r12t2_x (call : CallF) (it : IterF) (base : Nat) (f : List V) (H : Heap) : evC call it base (.region s_gnomonlaw07_GraphTogether_r12t2 [] [87, 88, 89, 90, 91]) f H = thenC call it base (.region s_gnomonlaw07_GraphTogether_r12t3 [] [87, 88, 89, 90, 91]) (opsC [] s_gnomonlaw07_GraphTogether_r12p2 [88, 90] (evOps call base [⟨some 91, (.append 1 8 (.t 88) (.t 90)), none⟩] f H)) := (row_op call it base s_gnomonlaw07_GraphTogether_r12p2 s_gnomonlaw07_GraphTogether_r12t3 (kc := [88, 90]) (by kernel_rfl) f H).trans (by rw [row_ops]; rfl)
theorem s_gnomonlaw07_GraphTogether_r12t3_tale (fr : List V) (H : Heap) : evTale (symAll s_gnomonlaw07_GraphTogether_r12t3 [87, 88, 89, 90, 91] [10]) [87, 88, 89, 90, 91] fr H = evTale (some (11, [], [(10, (.t 91))])) [87, 88, 89, 90, 91] fr H := tale_row (items := [.tt 91]) (by kernel_rfl) fr H
theorem s_gnomonlaw07_GraphTogether_r12t3_x (call : CallF) (it : IterF) (base : Nat) (f : List V) (H : Heap) : evC call it base (.region s_gnomonlaw07_GraphTogether_r12t3 [] [87, 88, 89, 90, 91]) f H = segL H (evTale (symAll s_gnomonlaw07_GraphTogether_r12t3 [87, 88, 89, 90, 91] [10]) [87, 88, 89, 90, 91] f H) (origRow call it base s_gnomonlaw07_GraphTogether_r12t3 [87, 88, 89, 90, 91] f H) := row_last call it base _ f H
def s_gnomonlaw07_GraphTogether_r13 : List AOper := [
  ⟨some 67, (.move (.t 11)), none⟩,
  ⟨some 68, (.bin .add (.t 67) (.c (.s (.int .i64 1)))), none⟩,
  ⟨some 11, (.move (.t 68)), none⟩]
theorem s_gnomonlaw07_GraphTogether_r13_tale (fr : List V) (H : Heap) : evTale (symAll s_gnomonlaw07_GraphTogether_r13 [67, 68, 87] [11]) [67, 68, 87] fr H = evTale (some (69, [], [(11, (.op (.bin .add (.t 0) (.c (.s (.int .i64 1)))) [(.t 11), (.c (.s (.int .i64 1)))]))])) [67, 68, 87] fr H := tale_row (items := [.tt 11, .sub 0 [] [], .sub 0 [] []]) (by kernel_rfl) fr H
def s_gnomonlaw07_GraphTogether_l0_b : ACode :=
  (.seq (.seq (.regionE s_gnomonlaw07_GraphTogether_r8 [63, 64, 65] [66])
  (.cond (.t 66)
  .skip
  (.exit 0)))
  (.seq (.block 1
  (.seq (.seq (.regionE s_gnomonlaw07_GraphTogether_r9 [66, 69, 70, 71, 72, 73, 74, 75, 76, 77, 78, 79, 80, 81, 82] [83])
  (.cond (.t 83)
  (.seq (.regionE s_gnomonlaw07_GraphTogether_r10 [0, 7, 8, 9, 10, 11, 83] [6])
  .ret)
  .skip))
  (.seq (.regionE s_gnomonlaw07_GraphTogether_r11 [83, 84, 85, 86] [87])
  (.cond (.t 87)
  (.region s_gnomonlaw07_GraphTogether_r12 [] [87, 88, 89, 90, 91])
  .skip))))
  (.regionE s_gnomonlaw07_GraphTogether_r13 [67, 68, 87] [11])))
def s_gnomonlaw07_GraphTogether_l0 : ACode := s_gnomonlaw07_GraphTogether_l0_b
theorem s_gnomonlaw07_GraphTogether_l0_ev (call : CallF) (it : IterF) (base : Nat) (fr : List V) (H : Heap) : evC call it base s_gnomonlaw07_GraphTogether_l0 fr H = evC call it base s_gnomonlaw07_GraphTogether_l0_b fr H := rfl
def s_gnomonlaw07_GraphTogether_r14t2 : List AOper := [⟨some 12, (.move (.t 94)), none⟩]
def s_gnomonlaw07_GraphTogether_r14p1 : List AOper := [⟨some 94, (.call (.c (.fn 18 [] [])) [(.t 92), (.t 93)]), none⟩]
def s_gnomonlaw07_GraphTogether_r14t1 : List AOper := s_gnomonlaw07_GraphTogether_r14p1 ++ s_gnomonlaw07_GraphTogether_r14t2
def s_gnomonlaw07_GraphTogether_r14p0 : List AOper := [⟨some 92, (.move (.t 0)), none⟩, ⟨some 93, (.move (.t 10)), none⟩]
def s_gnomonlaw07_GraphTogether_r14 : List AOper := s_gnomonlaw07_GraphTogether_r14p0 ++ s_gnomonlaw07_GraphTogether_r14t1
theorem s_gnomonlaw07_GraphTogether_r14p0_tale (fr : List V) (H : Heap) : evTale (symAll s_gnomonlaw07_GraphTogether_r14p0 [8, 9, 10, 11, 66] [92, 93]) [8, 9, 10, 11, 66] fr H = evTale (some (94, [], [(92, (.t 0)), (93, (.t 10))])) [8, 9, 10, 11, 66] fr H := tale_row (items := [.tt 0, .tt 10]) (by kernel_rfl) fr H
theorem s_gnomonlaw07_GraphTogether_r14_x (call : CallF) (it : IterF) (base : Nat) (f : List V) (H : Heap) : evC call it base (.region s_gnomonlaw07_GraphTogether_r14 [] [8, 9, 10, 11, 66, 92, 93, 94]) f H = segC call it base s_gnomonlaw07_GraphTogether_r14t1 [8, 9, 10, 11, 66, 92, 93, 94] H (evTale (symAll s_gnomonlaw07_GraphTogether_r14p0 [8, 9, 10, 11, 66] [92, 93]) [8, 9, 10, 11, 66] f H) (origRow call it base s_gnomonlaw07_GraphTogether_r14 [8, 9, 10, 11, 66, 92, 93, 94] f H) := row_seg call it base s_gnomonlaw07_GraphTogether_r14p0 s_gnomonlaw07_GraphTogether_r14t1 (by kernel_rfl) f H
theorem s_gnomonlaw07_GraphTogether_r14t1_x (call : CallF) (it : IterF) (base : Nat) (f : List V) (H : Heap) : evC call it base (.region s_gnomonlaw07_GraphTogether_r14t1 [] [8, 9, 10, 11, 66, 92, 93, 94]) f H = thenC call it base (.region s_gnomonlaw07_GraphTogether_r14t2 [] [8, 9, 10, 11, 66, 92, 93, 94]) (opsC [] s_gnomonlaw07_GraphTogether_r14p1 [92, 93] (evOps call base [⟨some 94, (.call (.c (.fn 18 [] [])) [(.t 92), (.t 93)]), none⟩] f H)) := (row_op call it base s_gnomonlaw07_GraphTogether_r14p1 s_gnomonlaw07_GraphTogether_r14t2 (kc := [92, 93]) (by kernel_rfl) f H).trans (by rw [row_ops]; rfl)
theorem s_gnomonlaw07_GraphTogether_r14t2_tale (fr : List V) (H : Heap) : evTale (symAll s_gnomonlaw07_GraphTogether_r14t2 [8, 9, 10, 11, 66, 92, 93, 94] [12]) [8, 9, 10, 11, 66, 92, 93, 94] fr H = evTale (some (13, [], [(12, (.t 94))])) [8, 9, 10, 11, 66, 92, 93, 94] fr H := tale_row (items := [.tt 94]) (by kernel_rfl) fr H
theorem s_gnomonlaw07_GraphTogether_r14t2_x (call : CallF) (it : IterF) (base : Nat) (f : List V) (H : Heap) : evC call it base (.region s_gnomonlaw07_GraphTogether_r14t2 [] [8, 9, 10, 11, 66, 92, 93, 94]) f H = segL H (evTale (symAll s_gnomonlaw07_GraphTogether_r14t2 [8, 9, 10, 11, 66, 92, 93, 94] [12]) [8, 9, 10, 11, 66, 92, 93, 94] f H) (origRow call it base s_gnomonlaw07_GraphTogether_r14t2 [8, 9, 10, 11, 66, 92, 93, 94] f H) := row_last call it base _ f H
def s_gnomonlaw07_GraphTogether_r15 : List AOper := [
  ⟨some 13, (.move (.c (.s (.int .i64 0)))), none⟩]
theorem s_gnomonlaw07_GraphTogether_r15_tale (fr : List V) (H : Heap) : evTale (symAll s_gnomonlaw07_GraphTogether_r15 [] [13]) [] fr H = evTale (some (14, [], [(13, (.c (.s (.int .i64 0))))])) [] fr H := tale_row (items := [.cc (.s (.int .i64 0))]) (by kernel_rfl) fr H
def s_gnomonlaw07_GraphTogether_r16 : List AOper := [
  ⟨some 95, (.move (.t 13)), none⟩,
  ⟨some 96, (.move (.t 0)), none⟩,
  ⟨some 97, (.lenS .s (.t 96)), none⟩,
  ⟨some 98, (.bin .lss (.t 95) (.t 97)), none⟩]
theorem s_gnomonlaw07_GraphTogether_r16_tale (fr : List V) (H : Heap) : evTale (symAll s_gnomonlaw07_GraphTogether_r16 [95, 96, 97] [98]) [95, 96, 97] fr H = evTale (some (99, [], [(98, (.op (.bin .lss (.t 0) (.t 1)) [(.t 13), (.op (.lenS .s (.t 0)) [(.t 0)])]))])) [95, 96, 97] fr H := tale_row (items := [.tt 13, .tt 0, .sub 0 [1] [], .sub 0 [] []]) (by kernel_rfl) fr H
def s_gnomonlaw07_GraphTogether_r17 : List AOper := [
  ⟨some 101, (.move (.t 12)), none⟩,
  ⟨some 102, (.move (.t 13)), none⟩,
  ⟨some 103, (.indexAddr 1 (.t 101) (.t 102)), none⟩,
  ⟨some 104, (.load false 1 (.t 103)), none⟩,
  ⟨some 105, (.move (.t 7)), none⟩,
  ⟨some 106, (.move (.t 13)), none⟩,
  ⟨some 107, (.indexAddr 1 (.t 105) (.t 106)), none⟩,
  ⟨some 108, (.load false 1 (.t 107)), none⟩,
  ⟨some 109, (.eqB true (.t 104) (.t 108)), none⟩]
theorem s_gnomonlaw07_GraphTogether_r17_tale (fr : List V) (H : Heap) : evTale (symAll s_gnomonlaw07_GraphTogether_r17 [98, 101, 102, 103, 104, 105, 106, 107, 108] [109]) [98, 101, 102, 103, 104, 105, 106, 107, 108] fr H = evTale (some (110, [], [(109, (.op (.eqB true (.t 0) (.t 1)) [(.op (.load false 1 (.t 0)) [(.op (.indexAddr 1 (.t 0) (.t 1)) [(.t 12), (.t 13)])]), (.op (.load false 1 (.t 0)) [(.op (.indexAddr 1 (.t 0) (.t 1)) [(.t 7), (.t 13)])])]))])) [98, 101, 102, 103, 104, 105, 106, 107, 108] fr H := tale_row (items := [.tt 12, .tt 13, .sub 0 [0, 0] [], .sub 0 [0] [], .tt 7, .tt 13, .sub 0 [1, 0] [], .sub 0 [1] [], .sub 0 [] []]) (by kernel_rfl) fr H
def s_gnomonlaw07_GraphTogether_r18 : List AOper := [
  ⟨some 6, (.move (.c (.s (.bool false)))), none⟩]
theorem s_gnomonlaw07_GraphTogether_r18_tale (fr : List V) (H : Heap) : evTale (symAll s_gnomonlaw07_GraphTogether_r18 [0, 7, 12, 13, 109] [6]) [0, 7, 12, 13, 109] fr H = evTale (some (7, [], [(6, (.c (.s (.bool false))))])) [0, 7, 12, 13, 109] fr H := tale_row (items := [.cc (.s (.bool false))]) (by kernel_rfl) fr H
def s_gnomonlaw07_GraphTogether_r19 : List AOper := [
  ⟨some 99, (.move (.t 13)), none⟩,
  ⟨some 100, (.bin .add (.t 99) (.c (.s (.int .i64 1)))), none⟩,
  ⟨some 13, (.move (.t 100)), none⟩]
theorem s_gnomonlaw07_GraphTogether_r19_tale (fr : List V) (H : Heap) : evTale (symAll s_gnomonlaw07_GraphTogether_r19 [99, 100, 109] [13]) [99, 100, 109] fr H = evTale (some (101, [], [(13, (.op (.bin .add (.t 0) (.c (.s (.int .i64 1)))) [(.t 13), (.c (.s (.int .i64 1)))]))])) [99, 100, 109] fr H := tale_row (items := [.tt 13, .sub 0 [] [], .sub 0 [] []]) (by kernel_rfl) fr H
def s_gnomonlaw07_GraphTogether_l1_b : ACode :=
  (.seq (.seq (.regionE s_gnomonlaw07_GraphTogether_r16 [95, 96, 97] [98])
  (.cond (.t 98)
  .skip
  (.exit 2)))
  (.seq (.block 3
  (.seq (.regionE s_gnomonlaw07_GraphTogether_r17 [98, 101, 102, 103, 104, 105, 106, 107, 108] [109])
  (.cond (.t 109)
  (.seq (.regionE s_gnomonlaw07_GraphTogether_r18 [0, 7, 12, 13, 109] [6])
  .ret)
  .skip)))
  (.regionE s_gnomonlaw07_GraphTogether_r19 [99, 100, 109] [13])))
def s_gnomonlaw07_GraphTogether_l1 : ACode := s_gnomonlaw07_GraphTogether_l1_b
theorem s_gnomonlaw07_GraphTogether_l1_ev (call : CallF) (it : IterF) (base : Nat) (fr : List V) (H : Heap) : evC call it base s_gnomonlaw07_GraphTogether_l1 fr H = evC call it base s_gnomonlaw07_GraphTogether_l1_b fr H := rfl
def s_gnomonlaw07_GraphTogether_r20t1 : List AOper := [⟨some 6, (.move (.t 110)), none⟩]
def s_gnomonlaw07_GraphTogether_r20p0 : List AOper := [⟨some 110, (.call (.c (.fn 10 [] [])) []), none⟩]
def s_gnomonlaw07_GraphTogether_r20 : List AOper := s_gnomonlaw07_GraphTogether_r20p0 ++ s_gnomonlaw07_GraphTogether_r20t1
theorem s_gnomonlaw07_GraphTogether_r20_x (call : CallF) (it : IterF) (base : Nat) (f : List V) (H : Heap) : evC call it base (.region s_gnomonlaw07_GraphTogether_r20 [] [0, 7, 12, 13, 98, 110]) f H = thenC call it base (.region s_gnomonlaw07_GraphTogether_r20t1 [] [0, 7, 12, 13, 98, 110]) (opsC [] s_gnomonlaw07_GraphTogether_r20p0 [0, 7, 12, 13, 98] (evOps call base [⟨some 110, (.call (.c (.fn 10 [] [])) []), none⟩] f H)) := (row_op call it base s_gnomonlaw07_GraphTogether_r20p0 s_gnomonlaw07_GraphTogether_r20t1 (kc := [0, 7, 12, 13, 98]) (by kernel_rfl) f H).trans (by rw [row_ops]; rfl)
theorem s_gnomonlaw07_GraphTogether_r20t1_tale (fr : List V) (H : Heap) : evTale (symAll s_gnomonlaw07_GraphTogether_r20t1 [0, 7, 12, 13, 98, 110] [6]) [0, 7, 12, 13, 98, 110] fr H = evTale (some (7, [], [(6, (.t 110))])) [0, 7, 12, 13, 98, 110] fr H := tale_row (items := [.tt 110]) (by kernel_rfl) fr H
theorem s_gnomonlaw07_GraphTogether_r20t1_x (call : CallF) (it : IterF) (base : Nat) (f : List V) (H : Heap) : evC call it base (.region s_gnomonlaw07_GraphTogether_r20t1 [] [0, 7, 12, 13, 98, 110]) f H = segL H (evTale (symAll s_gnomonlaw07_GraphTogether_r20t1 [0, 7, 12, 13, 98, 110] [6]) [0, 7, 12, 13, 98, 110] f H) (origRow call it base s_gnomonlaw07_GraphTogether_r20t1 [0, 7, 12, 13, 98, 110] f H) := row_last call it base _ f H
def s_gnomonlaw07_GraphTogether : ACFun := { ntmps := 111, results := [(.tmp 6)], body :=
  (.seq (.regionE s_gnomonlaw07_GraphTogether_r0 s_gnomonlaw07_GraphTogether_r0_k [])
  (.seq (.seq (.region s_gnomonlaw07_GraphTogether_r1 [] [14, 15, 16, 17, 18, 19, 20, 21, 22, 23, 24, 25, 26, 27, 28, 29])
  (.cond (.t 30)
  (.seq (.region s_gnomonlaw07_GraphTogether_r2 [] [0, 1, 2, 30, 31])
  .ret)
  .skip))
  (.seq (.region s_gnomonlaw07_GraphTogether_r3 [] [1, 2, 30, 32, 33, 34, 35, 36, 37, 38, 39, 40, 41, 42, 43])
  (.seq (.seq (.regionE s_gnomonlaw07_GraphTogether_r4 [44, 45, 46, 47, 48, 49, 50, 51, 52, 53, 54, 55, 56, 57, 58, 59, 60, 61] [62])
  (.cond (.t 62)
  (.seq (.regionE s_gnomonlaw07_GraphTogether_r5 [0, 7, 8, 9, 62] [6])
  .ret)
  .skip))
  (.seq (.regionE s_gnomonlaw07_GraphTogether_r6 [62] [10])
  (.seq (.seq (.regionE s_gnomonlaw07_GraphTogether_r7 [] [11])
  (.block 0
  (.loop [] s_gnomonlaw07_GraphTogether_l0)))
  (.seq (.region s_gnomonlaw07_GraphTogether_r14 [] [8, 9, 10, 11, 66, 92, 93, 94])
  (.seq (.seq (.regionE s_gnomonlaw07_GraphTogether_r15 [] [13])
  (.block 2
  (.loop [] s_gnomonlaw07_GraphTogether_l1)))
  (.seq (.region s_gnomonlaw07_GraphTogether_r20 [] [0, 7, 12, 13, 98, 110])
  .ret))))))))) }
/- 17 gnomon/gnomonref07.Bools -/
abbrev k_gnomonref07_Bools : Nat := 17
def s_gnomonref07_Bools_r0_k : List Nat := [2, 3, 4, 5, 6, 7, 8, 9, 10, 11, 12, 13, 14, 15, 16, 17, 18, 19, 20, 21, 22, 23, 24, 25]
theorem s_gnomonref07_Bools_r0_kT : killV s_gnomonref07_Bools_r0_k (startV 26 [] 2) = [] := by kernel_rfl
theorem s_gnomonref07_Bools_r0_kA0 : s_gnomonref07_Bools_r0_k.contains 0 = false := by kernel_rfl
theorem s_gnomonref07_Bools_r0_kA1 : s_gnomonref07_Bools_r0_k.contains 1 = false := by kernel_rfl
def s_gnomonref07_Bools_r0 : List AOper := [
  ⟨some 4, (.move (.c (.s (.bool false)))), none⟩]
theorem s_gnomonref07_Bools_r0_tale (fr : List V) (H : Heap) : evTale (symAll s_gnomonref07_Bools_r0 s_gnomonref07_Bools_r0_k []) s_gnomonref07_Bools_r0_k fr H = evTale (some (5, [], [])) s_gnomonref07_Bools_r0_k fr H := tale_row (items := [.cc (.s (.bool false))]) (by kernel_rfl) fr H
def s_gnomonref07_Bools_r1 : List AOper := [
  ⟨some 6, (.move (.t 0)), none⟩,
  ⟨some 7, (.lenS .s (.t 6)), none⟩,
  ⟨some 8, (.move (.t 1)), none⟩,
  ⟨some 9, (.lenS .s (.t 8)), none⟩,
  ⟨some 10, (.bin .neq (.t 7) (.t 9)), none⟩]
theorem s_gnomonref07_Bools_r1_tale (fr : List V) (H : Heap) : evTale (symAll s_gnomonref07_Bools_r1 [6, 7, 8, 9] [10]) [6, 7, 8, 9] fr H = evTale (some (11, [], [(10, (.op (.bin .neq (.t 0) (.t 1)) [(.op (.lenS .s (.t 0)) [(.t 0)]), (.op (.lenS .s (.t 0)) [(.t 1)])]))])) [6, 7, 8, 9] fr H := tale_row (items := [.tt 0, .sub 0 [0] [], .tt 1, .sub 0 [1] [], .sub 0 [] []]) (by kernel_rfl) fr H
def s_gnomonref07_Bools_r2 : List AOper := [
  ⟨some 4, (.move (.c (.s (.bool false)))), none⟩]
theorem s_gnomonref07_Bools_r2_tale (fr : List V) (H : Heap) : evTale (symAll s_gnomonref07_Bools_r2 [0, 1, 10] [4]) [0, 1, 10] fr H = evTale (some (5, [], [(4, (.c (.s (.bool false))))])) [0, 1, 10] fr H := tale_row (items := [.cc (.s (.bool false))]) (by kernel_rfl) fr H
def s_gnomonref07_Bools_r3 : List AOper := [
  ⟨some 5, (.move (.c (.s (.int .i64 0)))), none⟩]
theorem s_gnomonref07_Bools_r3_tale (fr : List V) (H : Heap) : evTale (symAll s_gnomonref07_Bools_r3 [10] [5]) [10] fr H = evTale (some (6, [], [(5, (.c (.s (.int .i64 0))))])) [10] fr H := tale_row (items := [.cc (.s (.int .i64 0))]) (by kernel_rfl) fr H
def s_gnomonref07_Bools_r4 : List AOper := [
  ⟨some 11, (.move (.t 5)), none⟩,
  ⟨some 12, (.move (.t 0)), none⟩,
  ⟨some 13, (.lenS .s (.t 12)), none⟩,
  ⟨some 14, (.bin .lss (.t 11) (.t 13)), none⟩]
theorem s_gnomonref07_Bools_r4_tale (fr : List V) (H : Heap) : evTale (symAll s_gnomonref07_Bools_r4 [11, 12, 13] [14]) [11, 12, 13] fr H = evTale (some (15, [], [(14, (.op (.bin .lss (.t 0) (.t 1)) [(.t 5), (.op (.lenS .s (.t 0)) [(.t 0)])]))])) [11, 12, 13] fr H := tale_row (items := [.tt 5, .tt 0, .sub 0 [1] [], .sub 0 [] []]) (by kernel_rfl) fr H
def s_gnomonref07_Bools_r5 : List AOper := [
  ⟨some 17, (.move (.t 0)), none⟩,
  ⟨some 18, (.move (.t 5)), none⟩,
  ⟨some 19, (.indexAddr 1 (.t 17) (.t 18)), none⟩,
  ⟨some 20, (.load false 1 (.t 19)), none⟩,
  ⟨some 21, (.move (.t 1)), none⟩,
  ⟨some 22, (.move (.t 5)), none⟩,
  ⟨some 23, (.indexAddr 1 (.t 21) (.t 22)), none⟩,
  ⟨some 24, (.load false 1 (.t 23)), none⟩,
  ⟨some 25, (.eqB true (.t 20) (.t 24)), none⟩]
theorem s_gnomonref07_Bools_r5_tale (fr : List V) (H : Heap) : evTale (symAll s_gnomonref07_Bools_r5 [14, 17, 18, 19, 20, 21, 22, 23, 24] [25]) [14, 17, 18, 19, 20, 21, 22, 23, 24] fr H = evTale (some (26, [], [(25, (.op (.eqB true (.t 0) (.t 1)) [(.op (.load false 1 (.t 0)) [(.op (.indexAddr 1 (.t 0) (.t 1)) [(.t 0), (.t 5)])]), (.op (.load false 1 (.t 0)) [(.op (.indexAddr 1 (.t 0) (.t 1)) [(.t 1), (.t 5)])])]))])) [14, 17, 18, 19, 20, 21, 22, 23, 24] fr H := tale_row (items := [.tt 0, .tt 5, .sub 0 [0, 0] [], .sub 0 [0] [], .tt 1, .tt 5, .sub 0 [1, 0] [], .sub 0 [1] [], .sub 0 [] []]) (by kernel_rfl) fr H
def s_gnomonref07_Bools_r6 : List AOper := [
  ⟨some 4, (.move (.c (.s (.bool false)))), none⟩]
theorem s_gnomonref07_Bools_r6_tale (fr : List V) (H : Heap) : evTale (symAll s_gnomonref07_Bools_r6 [0, 1, 5, 25] [4]) [0, 1, 5, 25] fr H = evTale (some (5, [], [(4, (.c (.s (.bool false))))])) [0, 1, 5, 25] fr H := tale_row (items := [.cc (.s (.bool false))]) (by kernel_rfl) fr H
def s_gnomonref07_Bools_r7 : List AOper := [
  ⟨some 15, (.move (.t 5)), none⟩,
  ⟨some 16, (.bin .add (.t 15) (.c (.s (.int .i64 1)))), none⟩,
  ⟨some 5, (.move (.t 16)), none⟩]
theorem s_gnomonref07_Bools_r7_tale (fr : List V) (H : Heap) : evTale (symAll s_gnomonref07_Bools_r7 [15, 16, 25] [5]) [15, 16, 25] fr H = evTale (some (17, [], [(5, (.op (.bin .add (.t 0) (.c (.s (.int .i64 1)))) [(.t 5), (.c (.s (.int .i64 1)))]))])) [15, 16, 25] fr H := tale_row (items := [.tt 5, .sub 0 [] [], .sub 0 [] []]) (by kernel_rfl) fr H
def s_gnomonref07_Bools_l0_b : ACode :=
  (.seq (.seq (.regionE s_gnomonref07_Bools_r4 [11, 12, 13] [14])
  (.cond (.t 14)
  .skip
  (.exit 0)))
  (.seq (.block 1
  (.seq (.regionE s_gnomonref07_Bools_r5 [14, 17, 18, 19, 20, 21, 22, 23, 24] [25])
  (.cond (.t 25)
  (.seq (.regionE s_gnomonref07_Bools_r6 [0, 1, 5, 25] [4])
  .ret)
  .skip)))
  (.regionE s_gnomonref07_Bools_r7 [15, 16, 25] [5])))
def s_gnomonref07_Bools_l0 : ACode := s_gnomonref07_Bools_l0_b
theorem s_gnomonref07_Bools_l0_ev (call : CallF) (it : IterF) (base : Nat) (fr : List V) (H : Heap) : evC call it base s_gnomonref07_Bools_l0 fr H = evC call it base s_gnomonref07_Bools_l0_b fr H := rfl
def s_gnomonref07_Bools_r8 : List AOper := [
  ⟨some 4, (.move (.c (.s (.bool true)))), none⟩]
theorem s_gnomonref07_Bools_r8_tale (fr : List V) (H : Heap) : evTale (symAll s_gnomonref07_Bools_r8 [0, 1, 5, 14] [4]) [0, 1, 5, 14] fr H = evTale (some (5, [], [(4, (.c (.s (.bool true))))])) [0, 1, 5, 14] fr H := tale_row (items := [.cc (.s (.bool true))]) (by kernel_rfl) fr H
def s_gnomonref07_Bools : ACFun := { ntmps := 26, results := [(.tmp 4)], body :=
  (.seq (.regionE s_gnomonref07_Bools_r0 s_gnomonref07_Bools_r0_k [])
  (.seq (.seq (.regionE s_gnomonref07_Bools_r1 [6, 7, 8, 9] [10])
  (.cond (.t 10)
  (.seq (.regionE s_gnomonref07_Bools_r2 [0, 1, 10] [4])
  .ret)
  .skip))
  (.seq (.seq (.regionE s_gnomonref07_Bools_r3 [10] [5])
  (.block 0
  (.loop [] s_gnomonref07_Bools_l0)))
  (.seq (.regionE s_gnomonref07_Bools_r8 [0, 1, 5, 14] [4])
  .ret)))) }
/- 18 gnomon/graph.Reach -/
abbrev k_graph_Reach : Nat := 18
def s_graph_Reach_r0_k : List Nat := [0, 3, 4, 5, 6, 7, 8, 9, 10, 11, 12, 13, 14, 15, 16, 17, 18, 19, 20, 21, 22, 23, 24, 25, 26, 27, 28, 29, 30, 31, 32, 33, 34, 35, 36, 37, 38, 39, 40, 41, 42, 43, 44, 45, 46, 47, 48, 49, 50, 51, 52, 53, 54]
theorem s_graph_Reach_r0_k_kA0 : s_graph_Reach_r0_k.contains 0 = true := by kernel_rfl
theorem s_graph_Reach_r0_k_kA1 : s_graph_Reach_r0_k.contains 1 = false := by kernel_rfl
theorem s_graph_Reach_r0_k_kA2 : s_graph_Reach_r0_k.contains 2 = false := by kernel_rfl
theorem s_graph_Reach_r0_k_kA4 : s_graph_Reach_r0_k.contains 4 = true := by kernel_rfl
def s_graph_Reach_r0t1 : List AOper := [⟨some 4, (.move (.c (.s (.slice none 0 0)))), none⟩]
def s_graph_Reach_r0p0 : List AOper := [⟨some 2, (.box (.t 0)), none⟩]
def s_graph_Reach_r0 : List AOper := s_graph_Reach_r0p0 ++ s_graph_Reach_r0t1
def s_graph_Reach_r0p0_k : List Nat := [0, 3, 4, 5, 6, 7, 8, 9, 10, 11, 12, 13, 14, 15, 16, 17, 18, 19, 20, 21, 22, 23, 24, 25, 26, 27, 28, 29, 30, 31, 32, 33, 34, 35, 36, 37, 38, 39, 40, 41, 42, 43, 44, 45, 46, 47, 48, 49, 50, 51, 52, 53, 54]
theorem s_graph_Reach_r0p0_k_kA0 : s_graph_Reach_r0p0_k.contains 0 = true := by kernel_rfl
theorem s_graph_Reach_r0p0_k_kA1 : s_graph_Reach_r0p0_k.contains 1 = false := by kernel_rfl
theorem s_graph_Reach_r0p0_k_kA2 : s_graph_Reach_r0p0_k.contains 2 = false := by kernel_rfl
theorem s_graph_Reach_r0p0_k_kA4 : s_graph_Reach_r0p0_k.contains 4 = true := by kernel_rfl
theorem s_graph_Reach_r0_x (call : CallF) (it : IterF) (base : Nat) (f : List V) (H : Heap) : evC call it base (.region s_graph_Reach_r0 [] s_graph_Reach_r0_k) f H = thenC call it base (.region s_graph_Reach_r0t1 [] s_graph_Reach_r0_k) (opsC [] s_graph_Reach_r0p0 s_graph_Reach_r0p0_k (evOps call base [⟨some 2, (.box (.t 0)), none⟩] f H)) := (row_op call it base s_graph_Reach_r0p0 s_graph_Reach_r0t1 (kc := s_graph_Reach_r0p0_k) (by kernel_rfl) f H).trans (by rw [row_ops]; rfl)
theorem s_graph_Reach_r0t1_tale (fr : List V) (H : Heap) : evTale (symAll s_graph_Reach_r0t1 s_graph_Reach_r0_k []) s_graph_Reach_r0_k fr H = evTale (some (5, [], [])) s_graph_Reach_r0_k fr H := tale_row (items := [.cc (.s (.slice none 0 0))]) (by kernel_rfl) fr H
theorem s_graph_Reach_r0t1_x (call : CallF) (it : IterF) (base : Nat) (f : List V) (H : Heap) : evC call it base (.region s_graph_Reach_r0t1 [] s_graph_Reach_r0_k) f H = segL H (evTale (symAll s_graph_Reach_r0t1 s_graph_Reach_r0_k []) s_graph_Reach_r0_k f H) (origRow call it base s_graph_Reach_r0t1 s_graph_Reach_r0_k f H) := row_last call it base _ f H
def s_graph_Reach_r1t3 : List AOper := [⟨none, (.store 1 (.t 5) (.t 15)), none⟩]
def s_graph_Reach_r1p2 : List AOper := [⟨some 5, (.alloc [(.s (.slice none 0 0))]), none⟩]
def s_graph_Reach_r1t2 : List AOper := s_graph_Reach_r1p2 ++ s_graph_Reach_r1t3
def s_graph_Reach_r1p1 : List AOper := [⟨some 15, (.mkSl [(.s (.bool false))] 1 1 (.t 14) (.t 14)), none⟩]
def s_graph_Reach_r1t1 : List AOper := s_graph_Reach_r1p1 ++ s_graph_Reach_r1t2
def s_graph_Reach_r1p0 : List AOper := [⟨some 13, (.load false 1 (.t 2)), none⟩, ⟨some 14, (.lenS .s (.t 13)), none⟩]
def s_graph_Reach_r1 : List AOper := s_graph_Reach_r1p0 ++ s_graph_Reach_r1t1
theorem s_graph_Reach_r1p0_tale (fr : List V) (H : Heap) : evTale (symAll s_graph_Reach_r1p0 [13] [14]) [13] fr H = evTale (some (15, [], [(14, (.op (.lenS .s (.t 0)) [(.op (.load false 1 (.t 0)) [(.t 2)])]))])) [13] fr H := tale_row (items := [.sub 0 [0] [], .sub 0 [] []]) (by kernel_rfl) fr H
theorem s_graph_Reach_r1_x (call : CallF) (it : IterF) (base : Nat) (f : List V) (H : Heap) : evC call it base (.region s_graph_Reach_r1 [] [13, 14, 15]) f H = segC call it base s_graph_Reach_r1t1 [13, 14, 15] H (evTale (symAll s_graph_Reach_r1p0 [13] [14]) [13] f H) (origRow call it base s_graph_Reach_r1 [13, 14, 15] f H) := row_seg call it base s_graph_Reach_r1p0 s_graph_Reach_r1t1 (by kernel_rfl) f H
theorem s_graph_Reach_r1t1_x (call : CallF) (it : IterF) (base : Nat) (f : List V) (H : Heap) : evC call it base (.region s_graph_Reach_r1t1 [] [13, 14, 15]) f H = thenC call it base (.region s_graph_Reach_r1t2 [] [13, 14, 15]) (opsC [] s_graph_Reach_r1p1 [14] (evOps call base [⟨some 15, (.mkSl [(.s (.bool false))] 1 1 (.t 14) (.t 14)), none⟩] f H)) := (row_op call it base s_graph_Reach_r1p1 s_graph_Reach_r1t2 (kc := [14]) (by kernel_rfl) f H).trans (by rw [row_ops]; rfl)
theorem s_graph_Reach_r1t2_x (call : CallF) (it : IterF) (base : Nat) (f : List V) (H : Heap) : evC call it base (.region s_graph_Reach_r1t2 [] [13, 14, 15]) f H = thenC call it base (.region s_graph_Reach_r1t3 [] [13, 14, 15]) (opsC [] s_graph_Reach_r1p2 [] (evOps call base [⟨some 5, (.alloc [(.s (.slice none 0 0))]), none⟩] f H)) := (row_op call it base s_graph_Reach_r1p2 s_graph_Reach_r1t3 (kc := []) (by kernel_rfl) f H).trans (by rw [row_ops]; rfl)
theorem s_graph_Reach_r1t3_x (call : CallF) (it : IterF) (base : Nat) (f : List V) (H : Heap) : evC call it base (.region s_graph_Reach_r1t3 [] [13, 14, 15]) f H = opsC [] s_graph_Reach_r1t3 [13, 14, 15] (evOps call base [⟨none, (.store 1 (.t 5) (.t 15)), none⟩] f H) := row_ops call it base _ _ _ f H
def s_graph_Reach_r2 : List AOper := [⟨some 6, (.alloc [(.s (.slice none 0 0))]), none⟩]
theorem s_graph_Reach_r2_x (call : CallF) (it : IterF) (base : Nat) (f : List V) (H : Heap) : evC call it base (.region s_graph_Reach_r2 [] []) f H = opsC [] s_graph_Reach_r2 [] (evOps call base [⟨some 6, (.alloc [(.s (.slice none 0 0))]), none⟩] f H) := row_ops call it base _ _ _ f H
def s_graph_Reach_r3 : List AOper := [
  ⟨some 16, (.mkFn 32 [] [(.t 2), (.t 5), (.t 6)]), none⟩,
  ⟨some 7, (.move (.t 16)), none⟩]
theorem s_graph_Reach_r3_tale (fr : List V) (H : Heap) : evTale (symAll s_graph_Reach_r3 [16] [7]) [16] fr H = evTale (some (17, [], [(7, (.op (.mkFn 32 [] [(.t 0), (.t 1), (.t 2)]) [(.t 2), (.t 5), (.t 6)]))])) [16] fr H := tale_row (items := [.sub 0 [] [], .sub 0 [] []]) (by kernel_rfl) fr H
def s_graph_Reach_r4 : List AOper := [
  ⟨some 17, (.move (.t 1)), none⟩,
  ⟨some 18, (.lenS .s (.t 17)), none⟩,
  ⟨some 19, (.move (.c (.s (.int .i64 0)))), none⟩]
theorem s_graph_Reach_r4_tale (fr : List V) (H : Heap) : evTale (symAll s_graph_Reach_r4 [1] [17, 18, 19]) [1] fr H = evTale (some (20, [], [(17, (.t 1)), (18, (.op (.lenS .s (.t 0)) [(.t 1)])), (19, (.c (.s (.int .i64 0))))])) [1] fr H := tale_row (items := [.tt 1, .sub 1 [] [], .cc (.s (.int .i64 0))]) (by kernel_rfl) fr H
def s_graph_Reach_r5 : List AOper := [
  ⟨some 20, (.bin .lss (.t 19) (.t 18)), none⟩]
theorem s_graph_Reach_r5_tale (fr : List V) (H : Heap) : evTale (symAll s_graph_Reach_r5 [] [20]) [] fr H = evTale (some (21, [], [(20, (.op (.bin .lss (.t 0) (.t 1)) [(.t 19), (.t 18)]))])) [] fr H := tale_row (items := [.sub 0 [] []]) (by kernel_rfl) fr H
def s_graph_Reach_r6 : List AOper := [
  ⟨some 21, (.indexAddr 1 (.t 17) (.t 19)), none⟩,
  ⟨some 22, (.load false 1 (.t 21)), none⟩,
  ⟨some 9, (.move (.t 22)), none⟩]
theorem s_graph_Reach_r6_tale (fr : List V) (H : Heap) : evTale (symAll s_graph_Reach_r6 [20, 21, 22] [9]) [20, 21, 22] fr H = evTale (some (23, [], [(9, (.op (.load false 1 (.t 0)) [(.op (.indexAddr 1 (.t 0) (.t 1)) [(.t 17), (.t 19)])]))])) [20, 21, 22] fr H := tale_row (items := [.sub 0 [0] [], .sub 0 [] [], .sub 0 [] []]) (by kernel_rfl) fr H
def s_graph_Reach_r7t1 : List AOper := [⟨some 25, (.call (.t 23) [(.t 24)]), none⟩]
def s_graph_Reach_r7p0 : List AOper := [⟨some 23, (.move (.t 7)), none⟩, ⟨some 24, (.move (.t 9)), none⟩]
def s_graph_Reach_r7 : List AOper := s_graph_Reach_r7p0 ++ s_graph_Reach_r7t1
theorem s_graph_Reach_r7p0_tale (fr : List V) (H : Heap) : evTale (symAll s_graph_Reach_r7p0 [9] [23, 24]) [9] fr H = evTale (some (25, [], [(23, (.t 7)), (24, (.t 9))])) [9] fr H := tale_row (items := [.tt 7, .tt 9]) (by kernel_rfl) fr H
theorem s_graph_Reach_r7_x (call : CallF) (it : IterF) (base : Nat) (f : List V) (H : Heap) : evC call it base (.region s_graph_Reach_r7 [] [9, 23, 24, 25]) f H = segC call it base s_graph_Reach_r7t1 [9, 23, 24, 25] H (evTale (symAll s_graph_Reach_r7p0 [9] [23, 24]) [9] f H) (origRow call it base s_graph_Reach_r7 [9, 23, 24, 25] f H) := row_seg call it base s_graph_Reach_r7p0 s_graph_Reach_r7t1 (by kernel_rfl) f H
theorem s_graph_Reach_r7t1_x (call : CallF) (it : IterF) (base : Nat) (f : List V) (H : Heap) : evC call it base (.region s_graph_Reach_r7t1 [] [9, 23, 24, 25]) f H = opsC [] s_graph_Reach_r7t1 [9, 23, 24, 25] (evOps call base [⟨some 25, (.call (.t 23) [(.t 24)]), none⟩] f H) := row_ops call it base _ _ _ f H
def s_graph_Reach_r8 : List AOper := [
  ⟨some 26, (.bin .add (.t 19) (.c (.s (.int .i64 1)))), none⟩,
  ⟨some 19, (.move (.t 26)), none⟩]
theorem s_graph_Reach_r8_tale (fr : List V) (H : Heap) : evTale (symAll s_graph_Reach_r8 [26] [19]) [26] fr H = evTale (some (27, [], [(19, (.op (.bin .add (.t 0) (.c (.s (.int .i64 1)))) [(.t 19), (.c (.s (.int .i64 1)))]))])) [26] fr H := tale_row (items := [.sub 0 [] [], .sub 0 [] []]) (by kernel_rfl) fr H
def s_graph_Reach_l0_b : ACode :=
  (.seq (.regionE s_graph_Reach_r5 [] [20])
  (.seq (.cond (.t 20)
  .skip
  (.exit 0))
  (.seq (.block 1
  (.seq (.regionE s_graph_Reach_r6 [20, 21, 22] [9])
  (.region s_graph_Reach_r7 [] [9, 23, 24, 25])))
  (.regionE s_graph_Reach_r8 [26] [19]))))
def s_graph_Reach_l0 : ACode := s_graph_Reach_l0_b
theorem s_graph_Reach_l0_ev (call : CallF) (it : IterF) (base : Nat) (fr : List V) (H : Heap) : evC call it base s_graph_Reach_l0 fr H = evC call it base s_graph_Reach_l0_b fr H := rfl
def s_graph_Reach_r9 : List AOper := [
  ⟨some 27, (.load false 1 (.t 6)), none⟩,
  ⟨some 28, (.lenS .s (.t 27)), none⟩,
  ⟨some 29, (.bin .gtr (.t 28) (.c (.s (.int .i64 0)))), none⟩]
theorem s_graph_Reach_r9_tale (fr : List V) (H : Heap) : evTale (symAll s_graph_Reach_r9 [27, 28] [29]) [27, 28] fr H = evTale (some (30, [], [(29, (.op (.bin .gtr (.t 0) (.c (.s (.int .i64 0)))) [(.op (.lenS .s (.t 0)) [(.op (.load false 1 (.t 0)) [(.t 6)])]), (.c (.s (.int .i64 0)))]))])) [27, 28] fr H := tale_row (items := [.sub 0 [0, 0] [], .sub 0 [0] [], .sub 0 [] []]) (by kernel_rfl) fr H
def s_graph_Reach_r10 : List AOper := [
  ⟨some 30, (.load false 1 (.t 6)), none⟩,
  ⟨some 31, (.load false 1 (.t 6)), none⟩,
  ⟨some 32, (.lenS .s (.t 31)), none⟩,
  ⟨some 33, (.bin .sub (.t 32) (.c (.s (.int .i64 1)))), none⟩,
  ⟨some 34, (.indexAddr 1 (.t 30) (.t 33)), none⟩,
  ⟨some 35, (.load false 1 (.t 34)), none⟩,
  ⟨some 10, (.move (.t 35)), none⟩]
theorem s_graph_Reach_r10_tale (fr : List V) (H : Heap) : evTale (symAll s_graph_Reach_r10 [29, 30, 31, 32, 33, 34, 35] [10]) [29, 30, 31, 32, 33, 34, 35] fr H = evTale (some (36, [], [(10, (.op (.load false 1 (.t 0)) [(.op (.indexAddr 1 (.t 0) (.t 1)) [(.op (.load false 1 (.t 0)) [(.t 6)]), (.op (.bin .sub (.t 0) (.c (.s (.int .i64 1)))) [(.op (.lenS .s (.t 0)) [(.op (.load false 1 (.t 0)) [(.t 6)])]), (.c (.s (.int .i64 1)))])])]))])) [29, 30, 31, 32, 33, 34, 35] fr H := tale_row (items := [.sub 0 [0, 0] [], .sub 0 [0, 0] [], .sub 0 [0, 1, 0] [], .sub 0 [0, 1] [], .sub 0 [0] [], .sub 0 [] [], .sub 0 [] []]) (by kernel_rfl) fr H
def s_graph_Reach_r11t1 : List AOper := [⟨none, (.store 1 (.t 6) (.t 40)), none⟩]
def s_graph_Reach_r11p0 : List AOper := [⟨some 36, (.load false 1 (.t 6)), none⟩, ⟨some 37, (.load false 1 (.t 6)), none⟩, ⟨some 38, (.lenS .s (.t 37)), none⟩, ⟨some 39, (.bin .sub (.t 38) (.c (.s (.int .i64 1)))), none⟩, ⟨some 40, (.subSl 1 (.t 36) none (some (.t 39)) none), none⟩]
def s_graph_Reach_r11 : List AOper := s_graph_Reach_r11p0 ++ s_graph_Reach_r11t1
theorem s_graph_Reach_r11p0_tale (fr : List V) (H : Heap) : evTale (symAll s_graph_Reach_r11p0 [36, 37, 38, 39] [40]) [36, 37, 38, 39] fr H = evTale (some (41, [], [(40, (.op (.subSl 1 (.t 0) none (some (.t 1)) none) [(.op (.load false 1 (.t 0)) [(.t 6)]), (.op (.bin .sub (.t 0) (.c (.s (.int .i64 1)))) [(.op (.lenS .s (.t 0)) [(.op (.load false 1 (.t 0)) [(.t 6)])]), (.c (.s (.int .i64 1)))])]))])) [36, 37, 38, 39] fr H := tale_row (items := [.sub 0 [0] [], .sub 0 [0] [], .sub 0 [1, 0] [], .sub 0 [1] [], .sub 0 [] []]) (by kernel_rfl) fr H
theorem s_graph_Reach_r11_x (call : CallF) (it : IterF) (base : Nat) (f : List V) (H : Heap) : evC call it base (.region s_graph_Reach_r11 [] [36, 37, 38, 39, 40]) f H = segC call it base s_graph_Reach_r11t1 [36, 37, 38, 39, 40] H (evTale (symAll s_graph_Reach_r11p0 [36, 37, 38, 39] [40]) [36, 37, 38, 39] f H) (origRow call it base s_graph_Reach_r11 [36, 37, 38, 39, 40] f H) := row_seg call it base s_graph_Reach_r11p0 s_graph_Reach_r11t1 (by kernel_rfl) f H
theorem s_graph_Reach_r11t1_x (call : CallF) (it : IterF) (base : Nat) (f : List V) (H : Heap) : evC call it base (.region s_graph_Reach_r11t1 [] [36, 37, 38, 39, 40]) f H = opsC [] s_graph_Reach_r11t1 [36, 37, 38, 39, 40] (evOps call base [⟨none, (.store 1 (.t 6) (.t 40)), none⟩] f H) := row_ops call it base _ _ _ f H
def s_graph_Reach_r12 : List AOper := [
  ⟨some 41, (.load false 1 (.t 2)), none⟩,
  ⟨some 42, (.move (.t 10)), none⟩,
  ⟨some 43, (.indexAddr 1 (.t 41) (.t 42)), none⟩,
  ⟨some 44, (.load false 1 (.t 43)), none⟩,
  ⟨some 45, (.lenS .s (.t 44)), none⟩,
  ⟨some 46, (.move (.c (.s (.int .i64 0)))), none⟩]
theorem s_graph_Reach_r12_tale (fr : List V) (H : Heap) : evTale (symAll s_graph_Reach_r12 [10, 41, 42, 43] [44, 45, 46]) [10, 41, 42, 43] fr H = evTale (some (47, [], [(44, (.op (.load false 1 (.t 0)) [(.op (.indexAddr 1 (.t 0) (.t 1)) [(.op (.load false 1 (.t 0)) [(.t 2)]), (.t 10)])])), (45, (.op (.lenS .s (.t 0)) [(.op (.load false 1 (.t 0)) [(.op (.indexAddr 1 (.t 0) (.t 1)) [(.op (.load false 1 (.t 0)) [(.t 2)]), (.t 10)])])])), (46, (.c (.s (.int .i64 0))))])) [10, 41, 42, 43] fr H := tale_row (items := [.sub 0 [0, 0] [], .tt 10, .sub 0 [0] [], .sub 0 [] [], .sub 1 [] [], .cc (.s (.int .i64 0))]) (by kernel_rfl) fr H
def s_graph_Reach_r13 : List AOper := [
  ⟨some 47, (.bin .lss (.t 46) (.t 45)), none⟩]
theorem s_graph_Reach_r13_tale (fr : List V) (H : Heap) : evTale (symAll s_graph_Reach_r13 [] [47]) [] fr H = evTale (some (48, [], [(47, (.op (.bin .lss (.t 0) (.t 1)) [(.t 46), (.t 45)]))])) [] fr H := tale_row (items := [.sub 0 [] []]) (by kernel_rfl) fr H
def s_graph_Reach_r14 : List AOper := [
  ⟨some 48, (.indexAddr 1 (.t 44) (.t 46)), none⟩,
  ⟨some 49, (.load false 1 (.t 48)), none⟩,
  ⟨some 12, (.move (.t 49)), none⟩]
theorem s_graph_Reach_r14_tale (fr : List V) (H : Heap) : evTale (symAll s_graph_Reach_r14 [47, 48, 49] [12]) [47, 48, 49] fr H = evTale (some (50, [], [(12, (.op (.load false 1 (.t 0)) [(.op (.indexAddr 1 (.t 0) (.t 1)) [(.t 44), (.t 46)])]))])) [47, 48, 49] fr H := tale_row (items := [.sub 0 [0] [], .sub 0 [] [], .sub 0 [] []]) (by kernel_rfl) fr H
def s_graph_Reach_r15t1 : List AOper := [⟨some 52, (.call (.t 50) [(.t 51)]), none⟩]
def s_graph_Reach_r15p0 : List AOper := [⟨some 50, (.move (.t 7)), none⟩, ⟨some 51, (.move (.t 12)), none⟩]
def s_graph_Reach_r15 : List AOper := s_graph_Reach_r15p0 ++ s_graph_Reach_r15t1
theorem s_graph_Reach_r15p0_tale (fr : List V) (H : Heap) : evTale (symAll s_graph_Reach_r15p0 [12] [50, 51]) [12] fr H = evTale (some (52, [], [(50, (.t 7)), (51, (.t 12))])) [12] fr H := tale_row (items := [.tt 7, .tt 12]) (by kernel_rfl) fr H
theorem s_graph_Reach_r15_x (call : CallF) (it : IterF) (base : Nat) (f : List V) (H : Heap) : evC call it base (.region s_graph_Reach_r15 [] [12, 50, 51, 52]) f H = segC call it base s_graph_Reach_r15t1 [12, 50, 51, 52] H (evTale (symAll s_graph_Reach_r15p0 [12] [50, 51]) [12] f H) (origRow call it base s_graph_Reach_r15 [12, 50, 51, 52] f H) := row_seg call it base s_graph_Reach_r15p0 s_graph_Reach_r15t1 (by kernel_rfl) f H
theorem s_graph_Reach_r15t1_x (call : CallF) (it : IterF) (base : Nat) (f : List V) (H : Heap) : evC call it base (.region s_graph_Reach_r15t1 [] [12, 50, 51, 52]) f H = opsC [] s_graph_Reach_r15t1 [12, 50, 51, 52] (evOps call base [⟨some 52, (.call (.t 50) [(.t 51)]), none⟩] f H) := row_ops call it base _ _ _ f H
def s_graph_Reach_r16 : List AOper := [
  ⟨some 53, (.bin .add (.t 46) (.c (.s (.int .i64 1)))), none⟩,
  ⟨some 46, (.move (.t 53)), none⟩]
theorem s_graph_Reach_r16_tale (fr : List V) (H : Heap) : evTale (symAll s_graph_Reach_r16 [53] [46]) [53] fr H = evTale (some (54, [], [(46, (.op (.bin .add (.t 0) (.c (.s (.int .i64 1)))) [(.t 46), (.c (.s (.int .i64 1)))]))])) [53] fr H := tale_row (items := [.sub 0 [] [], .sub 0 [] []]) (by kernel_rfl) fr H
def s_graph_Reach_l1_b : ACode :=
  (.seq (.regionE s_graph_Reach_r13 [] [47])
  (.seq (.cond (.t 47)
  .skip
  (.exit 4))
  (.seq (.block 5
  (.seq (.regionE s_graph_Reach_r14 [47, 48, 49] [12])
  (.region s_graph_Reach_r15 [] [12, 50, 51, 52])))
  (.regionE s_graph_Reach_r16 [53] [46]))))
def s_graph_Reach_l1 : ACode := s_graph_Reach_l1_b
theorem s_graph_Reach_l1_ev (call : CallF) (it : IterF) (base : Nat) (fr : List V) (H : Heap) : evC call it base s_graph_Reach_l1 fr H = evC call it base s_graph_Reach_l1_b fr H := rfl
def s_graph_Reach_l2_b : ACode :=
  (.seq (.seq (.regionE s_graph_Reach_r9 [27, 28] [29])
  (.cond (.t 29)
  .skip
  (.exit 2)))
  (.block 3
  (.seq (.regionE s_graph_Reach_r10 [29, 30, 31, 32, 33, 34, 35] [10])
  (.seq (.region s_graph_Reach_r11 [] [36, 37, 38, 39, 40])
  (.seq (.regionE s_graph_Reach_r12 [10, 41, 42, 43] [44, 45, 46])
  (.block 4
  (.loop [] s_graph_Reach_l1)))))))
def s_graph_Reach_l2 : ACode := s_graph_Reach_l2_b
theorem s_graph_Reach_l2_ev (call : CallF) (it : IterF) (base : Nat) (fr : List V) (H : Heap) : evC call it base s_graph_Reach_l2 fr H = evC call it base s_graph_Reach_l2_b fr H := rfl
def s_graph_Reach_r17 : List AOper := [
  ⟨some 54, (.load false 1 (.t 5)), none⟩,
  ⟨some 4, (.move (.t 54)), none⟩]
theorem s_graph_Reach_r17_tale (fr : List V) (H : Heap) : evTale (symAll s_graph_Reach_r17 [2, 5, 6, 7, 29, 54] [4]) [2, 5, 6, 7, 29, 54] fr H = evTale (some (55, [], [(4, (.op (.load false 1 (.t 0)) [(.t 5)]))])) [2, 5, 6, 7, 29, 54] fr H := tale_row (items := [.sub 0 [] [], .sub 0 [] []]) (by kernel_rfl) fr H
def s_graph_Reach : ACFun := { ntmps := 55, results := [(.tmp 4)], body :=
  (.seq (.region s_graph_Reach_r0 [] s_graph_Reach_r0_k)
  (.seq (.region s_graph_Reach_r1 [] [13, 14, 15])
  (.seq (.region s_graph_Reach_r2 [] [])
  (.seq (.regionE s_graph_Reach_r3 [16] [7])
  (.seq (.seq (.regionE s_graph_Reach_r4 [1] [17, 18, 19])
  (.block 0
  (.loop [] s_graph_Reach_l0)))
  (.seq (.block 2
  (.loop [17, 18, 19, 20, 44, 45, 46, 47] s_graph_Reach_l2))
  (.seq (.regionE s_graph_Reach_r17 [2, 5, 6, 7, 29, 54] [4])
  .ret))))))) }
theorem s_graph_Reach_first : firstOk (List.range' 2 (s_graph_Reach.ntmps - 2)) s_graph_Reach.body = true := by kernel_rfl
/- 19 gnomon/gnomonref07.Reach -/
abbrev k_gnomonref07_Reach : Nat := 19
def s_gnomonref07_Reach_r0_k : List Nat := [2, 3, 4, 5, 6, 7, 8, 9, 10, 11, 12, 13, 14, 15, 16, 17, 18, 19, 20, 21, 22, 23, 24, 25, 26, 27, 28, 29, 30, 31, 32, 33, 34, 35, 36, 37, 38, 39, 40, 41, 42, 43, 44, 45, 46, 47, 48, 49, 50, 51, 52, 53, 54, 55, 56, 57, 58, 59, 60, 61, 62, 63, 64, 65, 66, 67, 68, 69, 70, 71, 72, 73, 74, 75, 76, 77, 78, 79, 80, 81, 82, 83]
theorem s_gnomonref07_Reach_r0_kT : killV s_gnomonref07_Reach_r0_k (startV 84 [] 2) = [] := by kernel_rfl
theorem s_gnomonref07_Reach_r0_kA0 : s_gnomonref07_Reach_r0_k.contains 0 = false := by kernel_rfl
theorem s_gnomonref07_Reach_r0_kA1 : s_gnomonref07_Reach_r0_k.contains 1 = false := by kernel_rfl
def s_gnomonref07_Reach_r0 : List AOper := [
  ⟨some 4, (.move (.c (.s (.slice none 0 0)))), none⟩]
theorem s_gnomonref07_Reach_r0_tale (fr : List V) (H : Heap) : evTale (symAll s_gnomonref07_Reach_r0 s_gnomonref07_Reach_r0_k []) s_gnomonref07_Reach_r0_k fr H = evTale (some (5, [], [])) s_gnomonref07_Reach_r0_k fr H := tale_row (items := [.cc (.s (.slice none 0 0))]) (by kernel_rfl) fr H
def s_gnomonref07_Reach_r1t2 : List AOper := [⟨some 0, (.move (.t 11)), none⟩]
def s_gnomonref07_Reach_r1p1 : List AOper := [⟨some 11, (.call (.c (.fn 15 [] [])) [(.t 10)]), none⟩]
def s_gnomonref07_Reach_r1t1 : List AOper := s_gnomonref07_Reach_r1p1 ++ s_gnomonref07_Reach_r1t2
def s_gnomonref07_Reach_r1p0 : List AOper := [⟨some 10, (.move (.t 0)), none⟩]
def s_gnomonref07_Reach_r1 : List AOper := s_gnomonref07_Reach_r1p0 ++ s_gnomonref07_Reach_r1t1
theorem s_gnomonref07_Reach_r1p0_tale (fr : List V) (H : Heap) : evTale (symAll s_gnomonref07_Reach_r1p0 [0] [10]) [0] fr H = evTale (some (11, [], [(10, (.t 0))])) [0] fr H := tale_row (items := [.tt 0]) (by kernel_rfl) fr H
theorem s_gnomonref07_Reach_r1_x (call : CallF) (it : IterF) (base : Nat) (f : List V) (H : Heap) : evC call it base (.region s_gnomonref07_Reach_r1 [] [10, 11]) f H = segC call it base s_gnomonref07_Reach_r1t1 [10, 11] H (evTale (symAll s_gnomonref07_Reach_r1p0 [0] [10]) [0] f H) (origRow call it base s_gnomonref07_Reach_r1 [10, 11] f H) := row_seg call it base s_gnomonref07_Reach_r1p0 s_gnomonref07_Reach_r1t1 (by kernel_rfl) f H
theorem s_gnomonref07_Reach_r1t1_x (call : CallF) (it : IterF) (base : Nat) (f : List V) (H : Heap) : evC call it base (.region s_gnomonref07_Reach_r1t1 [] [10, 11]) f H = thenC call it base (.region s_gnomonref07_Reach_r1t2 [] [10, 11]) (opsC [] s_gnomonref07_Reach_r1p1 [10] (evOps call base [⟨some 11, (.call (.c (.fn 15 [] [])) [(.t 10)]), none⟩] f H)) := (row_op call it base s_gnomonref07_Reach_r1p1 s_gnomonref07_Reach_r1t2 (kc := [10]) (by kernel_rfl) f H).trans (by rw [row_ops]; rfl)
theorem s_gnomonref07_Reach_r1t2_tale (fr : List V) (H : Heap) : evTale (symAll s_gnomonref07_Reach_r1t2 [10, 11] [0]) [10, 11] fr H = evTale (some (1, [], [(0, (.t 11))])) [10, 11] fr H := tale_row (items := [.tt 11]) (by kernel_rfl) fr H
theorem s_gnomonref07_Reach_r1t2_x (call : CallF) (it : IterF) (base : Nat) (f : List V) (H : Heap) : evC call it base (.region s_gnomonref07_Reach_r1t2 [] [10, 11]) f H = segL H (evTale (symAll s_gnomonref07_Reach_r1t2 [10, 11] [0]) [10, 11] f H) (origRow call it base s_gnomonref07_Reach_r1t2 [10, 11] f H) := row_last call it base _ f H
def s_gnomonref07_Reach_r2t2 : List AOper := [⟨some 5, (.move (.t 14)), none⟩]
def s_gnomonref07_Reach_r2p1 : List AOper := [⟨some 14, (.mkSl [(.s (.bool false))] 1 1 (.t 13) (.t 13)), none⟩]
def s_gnomonref07_Reach_r2t1 : List AOper := s_gnomonref07_Reach_r2p1 ++ s_gnomonref07_Reach_r2t2
def s_gnomonref07_Reach_r2p0 : List AOper := [⟨some 12, (.move (.t 0)), none⟩, ⟨some 13, (.lenS .s (.t 12)), none⟩]
def s_gnomonref07_Reach_r2 : List AOper := s_gnomonref07_Reach_r2p0 ++ s_gnomonref07_Reach_r2t1
theorem s_gnomonref07_Reach_r2p0_tale (fr : List V) (H : Heap) : evTale (symAll s_gnomonref07_Reach_r2p0 [12] [13]) [12] fr H = evTale (some (14, [], [(13, (.op (.lenS .s (.t 0)) [(.t 0)]))])) [12] fr H := tale_row (items := [.tt 0, .sub 0 [] []]) (by kernel_rfl) fr H
theorem s_gnomonref07_Reach_r2_x (call : CallF) (it : IterF) (base : Nat) (f : List V) (H : Heap) : evC call it base (.region s_gnomonref07_Reach_r2 [] [12, 13, 14]) f H = segC call it base s_gnomonref07_Reach_r2t1 [12, 13, 14] H (evTale (symAll s_gnomonref07_Reach_r2p0 [12] [13]) [12] f H) (origRow call it base s_gnomonref07_Reach_r2 [12, 13, 14] f H) := row_seg call it base s_gnomonref07_Reach_r2p0 s_gnomonref07_Reach_r2t1 (by kernel_rfl) f H
theorem s_gnomonref07_Reach_r2t1_x (call : CallF) (it : IterF) (base : Nat) (f : List V) (H : Heap) : evC call it base (.region s_gnomonref07_Reach_r2t1 [] [12, 13, 14]) f H = thenC call it base (.region s_gnomonref07_Reach_r2t2 [] [12, 13, 14]) (opsC [] s_gnomonref07_Reach_r2p1 [13] (evOps call base [⟨some 14, (.mkSl [(.s (.bool false))] 1 1 (.t 13) (.t 13)), none⟩] f H)) := (row_op call it base s_gnomonref07_Reach_r2p1 s_gnomonref07_Reach_r2t2 (kc := [13]) (by kernel_rfl) f H).trans (by rw [row_ops]; rfl)
theorem s_gnomonref07_Reach_r2t2_tale (fr : List V) (H : Heap) : evTale (symAll s_gnomonref07_Reach_r2t2 [12, 13, 14] [5]) [12, 13, 14] fr H = evTale (some (6, [], [(5, (.t 14))])) [12, 13, 14] fr H := tale_row (items := [.tt 14]) (by kernel_rfl) fr H
theorem s_gnomonref07_Reach_r2t2_x (call : CallF) (it : IterF) (base : Nat) (f : List V) (H : Heap) : evC call it base (.region s_gnomonref07_Reach_r2t2 [] [12, 13, 14]) f H = segL H (evTale (symAll s_gnomonref07_Reach_r2t2 [12, 13, 14] [5]) [12, 13, 14] f H) (origRow call it base s_gnomonref07_Reach_r2t2 [12, 13, 14] f H) := row_last call it base _ f H
def s_gnomonref07_Reach_r3 : List AOper := [
  ⟨some 6, (.move (.c (.s (.int .i64 0)))), none⟩]
theorem s_gnomonref07_Reach_r3_tale (fr : List V) (H : Heap) : evTale (symAll s_gnomonref07_Reach_r3 [] [6]) [] fr H = evTale (some (7, [], [(6, (.c (.s (.int .i64 0))))])) [] fr H := tale_row (items := [.cc (.s (.int .i64 0))]) (by kernel_rfl) fr H
def s_gnomonref07_Reach_r4 : List AOper := [
  ⟨some 15, (.move (.t 6)), none⟩,
  ⟨some 16, (.move (.t 1)), none⟩,
  ⟨some 17, (.lenS .s (.t 16)), none⟩,
  ⟨some 18, (.bin .lss (.t 15) (.t 17)), none⟩]
theorem s_gnomonref07_Reach_r4_tale (fr : List V) (H : Heap) : evTale (symAll s_gnomonref07_Reach_r4 [15, 16, 17] [18]) [15, 16, 17] fr H = evTale (some (19, [], [(18, (.op (.bin .lss (.t 0) (.t 1)) [(.t 6), (.op (.lenS .s (.t 0)) [(.t 1)])]))])) [15, 16, 17] fr H := tale_row (items := [.tt 6, .tt 1, .sub 0 [1] [], .sub 0 [] []]) (by kernel_rfl) fr H
def s_gnomonref07_Reach_r5 : List AOper := [
  ⟨some 21, (.move (.t 1)), none⟩,
  ⟨some 22, (.move (.t 6)), none⟩,
  ⟨some 23, (.indexAddr 1 (.t 21) (.t 22)), none⟩,
  ⟨some 24, (.load false 1 (.t 23)), none⟩,
  ⟨some 25, (.bin .geq (.t 24) (.c (.s (.int .i64 0)))), none⟩,
  ⟨some 26, (.move (.t 25)), none⟩,
  ⟨some 27, (.move (.t 1)), some (26, true)⟩,
  ⟨some 28, (.move (.t 6)), some (26, true)⟩,
  ⟨some 29, (.indexAddr 1 (.t 27) (.t 28)), some (26, true)⟩,
  ⟨some 30, (.load false 1 (.t 29)), some (26, true)⟩,
  ⟨some 31, (.move (.t 0)), some (26, true)⟩,
  ⟨some 32, (.lenS .s (.t 31)), some (26, true)⟩,
  ⟨some 33, (.bin .lss (.t 30) (.t 32)), some (26, true)⟩,
  ⟨some 34, (.pick (.t 26) (.t 33) (.c (.s (.bool false)))), none⟩]
theorem s_gnomonref07_Reach_r5_tale (fr : List V) (H : Heap) : evTale (symAll s_gnomonref07_Reach_r5 [18, 21, 22, 23, 24, 25, 26, 27, 28, 29, 30, 31, 32, 33] [34]) [18, 21, 22, 23, 24, 25, 26, 27, 28, 29, 30, 31, 32, 33] fr H = evTale (some (35, [], [(34, (.pick (.op (.bin .geq (.t 0) (.c (.s (.int .i64 0)))) [(.op (.load false 1 (.t 0)) [(.op (.indexAddr 1 (.t 0) (.t 1)) [(.t 1), (.t 6)])]), (.c (.s (.int .i64 0)))]) (.op (.bin .lss (.t 0) (.t 1)) [(.op (.load false 1 (.t 0)) [(.op (.indexAddr 1 (.t 0) (.t 1)) [(.t 1), (.t 6)])]), (.op (.lenS .s (.t 0)) [(.t 0)])]) (.c (.s (.bool false)))))])) [18, 21, 22, 23, 24, 25, 26, 27, 28, 29, 30, 31, 32, 33] fr H := tale_row (items := [.tt 1, .tt 6, .sub 0 [0, 0, 0] [], .sub 0 [0, 0] [], .sub 0 [0] [], .sub 0 [0] [], .sub 0 [1, 0, 0, 0] [26], .sub 0 [1, 0, 0, 1] [26], .sub 0 [1, 0, 0] [26], .sub 0 [1, 0] [26], .sub 0 [1, 1, 0] [26], .sub 0 [1, 1] [26], .sub 0 [1] [26], .sub 0 [] []]) (by kernel_rfl) fr H
def s_gnomonref07_Reach_r6t1 : List AOper := [⟨none, (.store 1 (.t 40) (.c (.s (.bool true)))), none⟩]
def s_gnomonref07_Reach_r6p0 : List AOper := [⟨some 35, (.move (.t 5)), none⟩, ⟨some 36, (.move (.t 1)), none⟩, ⟨some 37, (.move (.t 6)), none⟩, ⟨some 38, (.indexAddr 1 (.t 36) (.t 37)), none⟩, ⟨some 39, (.load false 1 (.t 38)), none⟩, ⟨some 40, (.indexAddr 1 (.t 35) (.t 39)), none⟩]
def s_gnomonref07_Reach_r6 : List AOper := s_gnomonref07_Reach_r6p0 ++ s_gnomonref07_Reach_r6t1
theorem s_gnomonref07_Reach_r6p0_tale (fr : List V) (H : Heap) : evTale (symAll s_gnomonref07_Reach_r6p0 [34, 35, 36, 37, 38, 39] [40]) [34, 35, 36, 37, 38, 39] fr H = evTale (some (41, [], [(40, (.op (.indexAddr 1 (.t 0) (.t 1)) [(.t 5), (.op (.load false 1 (.t 0)) [(.op (.indexAddr 1 (.t 0) (.t 1)) [(.t 1), (.t 6)])])]))])) [34, 35, 36, 37, 38, 39] fr H := tale_row (items := [.tt 5, .tt 1, .tt 6, .sub 0 [1, 0] [], .sub 0 [1] [], .sub 0 [] []]) (by kernel_rfl) fr H
theorem s_gnomonref07_Reach_r6_x (call : CallF) (it : IterF) (base : Nat) (f : List V) (H : Heap) : evC call it base (.region s_gnomonref07_Reach_r6 [] [34, 35, 36, 37, 38, 39, 40]) f H = segC call it base s_gnomonref07_Reach_r6t1 [34, 35, 36, 37, 38, 39, 40] H (evTale (symAll s_gnomonref07_Reach_r6p0 [34, 35, 36, 37, 38, 39] [40]) [34, 35, 36, 37, 38, 39] f H) (origRow call it base s_gnomonref07_Reach_r6 [34, 35, 36, 37, 38, 39, 40] f H) := row_seg call it base s_gnomonref07_Reach_r6p0 s_gnomonref07_Reach_r6t1 (by kernel_rfl) f H
theorem s_gnomonref07_Reach_r6t1_x (call : CallF) (it : IterF) (base : Nat) (f : List V) (H : Heap) : evC call it base (.region s_gnomonref07_Reach_r6t1 [] [34, 35, 36, 37, 38, 39, 40]) f H = opsC [] s_gnomonref07_Reach_r6t1 [34, 35, 36, 37, 38, 39, 40] (evOps call base [⟨none, (.store 1 (.t 40) (.c (.s (.bool true)))), none⟩] f H) := row_ops call it base _ _ _ f H
def s_gnomonref07_Reach_r7 : List AOper := [
  ⟨some 19, (.move (.t 6)), none⟩,
  ⟨some 20, (.bin .add (.t 19) (.c (.s (.int .i64 1)))), none⟩,
  ⟨some 6, (.move (.t 20)), none⟩]
theorem s_gnomonref07_Reach_r7_tale (fr : List V) (H : Heap) : evTale (symAll s_gnomonref07_Reach_r7 [19, 20, 34] [6]) [19, 20, 34] fr H = evTale (some (21, [], [(6, (.op (.bin .add (.t 0) (.c (.s (.int .i64 1)))) [(.t 6), (.c (.s (.int .i64 1)))]))])) [19, 20, 34] fr H := tale_row (items := [.tt 6, .sub 0 [] [], .sub 0 [] []]) (by kernel_rfl) fr H
def s_gnomonref07_Reach_l0_b : ACode :=
  (.seq (.seq (.regionE s_gnomonref07_Reach_r4 [15, 16, 17] [18])
  (.cond (.t 18)
  .skip
  (.exit 0)))
  (.seq (.block 1
  (.seq (.regionE s_gnomonref07_Reach_r5 [18, 21, 22, 23, 24, 25, 26, 27, 28, 29, 30, 31, 32, 33] [34])
  (.cond (.t 34)
  (.region s_gnomonref07_Reach_r6 [] [34, 35, 36, 37, 38, 39, 40])
  .skip)))
  (.regionE s_gnomonref07_Reach_r7 [19, 20, 34] [6])))
def s_gnomonref07_Reach_l0 : ACode := s_gnomonref07_Reach_l0_b
theorem s_gnomonref07_Reach_l0_ev (call : CallF) (it : IterF) (base : Nat) (fr : List V) (H : Heap) : evC call it base s_gnomonref07_Reach_l0 fr H = evC call it base s_gnomonref07_Reach_l0_b fr H := rfl
def s_gnomonref07_Reach_r8 : List AOper := [
  ⟨some 7, (.move (.c (.s (.bool true)))), none⟩]
theorem s_gnomonref07_Reach_r8_tale (fr : List V) (H : Heap) : evTale (symAll s_gnomonref07_Reach_r8 [1, 6, 18] [7]) [1, 6, 18] fr H = evTale (some (8, [], [(7, (.c (.s (.bool true))))])) [1, 6, 18] fr H := tale_row (items := [.cc (.s (.bool true))]) (by kernel_rfl) fr H
def s_gnomonref07_Reach_r9 : List AOper := [
  ⟨some 41, (.move (.t 7)), none⟩]
theorem s_gnomonref07_Reach_r9_tale (fr : List V) (H : Heap) : evTale (symAll s_gnomonref07_Reach_r9 [7] [41]) [7] fr H = evTale (some (42, [], [(41, (.t 7))])) [7] fr H := tale_row (items := [.tt 7]) (by kernel_rfl) fr H
def s_gnomonref07_Reach_r10 : List AOper := [
  ⟨some 7, (.move (.c (.s (.bool false)))), none⟩]
theorem s_gnomonref07_Reach_r10_tale (fr : List V) (H : Heap) : evTale (symAll s_gnomonref07_Reach_r10 [41] [7]) [41] fr H = evTale (some (8, [], [(7, (.c (.s (.bool false))))])) [41] fr H := tale_row (items := [.cc (.s (.bool false))]) (by kernel_rfl) fr H
def s_gnomonref07_Reach_r11 : List AOper := [
  ⟨some 8, (.move (.c (.s (.int .i64 0)))), none⟩]
theorem s_gnomonref07_Reach_r11_tale (fr : List V) (H : Heap) : evTale (symAll s_gnomonref07_Reach_r11 [] [8]) [] fr H = evTale (some (9, [], [(8, (.c (.s (.int .i64 0))))])) [] fr H := tale_row (items := [.cc (.s (.int .i64 0))]) (by kernel_rfl) fr H
def s_gnomonref07_Reach_r12 : List AOper := [
  ⟨some 42, (.move (.t 8)), none⟩,
  ⟨some 43, (.move (.t 0)), none⟩,
  ⟨some 44, (.lenS .s (.t 43)), none⟩,
  ⟨some 45, (.bin .lss (.t 42) (.t 44)), none⟩]
theorem s_gnomonref07_Reach_r12_tale (fr : List V) (H : Heap) : evTale (symAll s_gnomonref07_Reach_r12 [42, 43, 44] [45]) [42, 43, 44] fr H = evTale (some (46, [], [(45, (.op (.bin .lss (.t 0) (.t 1)) [(.t 8), (.op (.lenS .s (.t 0)) [(.t 0)])]))])) [42, 43, 44] fr H := tale_row (items := [.tt 8, .tt 0, .sub 0 [1] [], .sub 0 [] []]) (by kernel_rfl) fr H
def s_gnomonref07_Reach_r13 : List AOper := [
  ⟨some 9, (.move (.c (.s (.int .i64 0)))), none⟩]
theorem s_gnomonref07_Reach_r13_tale (fr : List V) (H : Heap) : evTale (symAll s_gnomonref07_Reach_r13 [45] [9]) [45] fr H = evTale (some (10, [], [(9, (.c (.s (.int .i64 0))))])) [45] fr H := tale_row (items := [.cc (.s (.int .i64 0))]) (by kernel_rfl) fr H
def s_gnomonref07_Reach_r14 : List AOper := [
  ⟨some 48, (.move (.t 9)), none⟩,
  ⟨some 49, (.move (.t 0)), none⟩,
  ⟨some 50, (.move (.t 8)), none⟩,
  ⟨some 51, (.indexAddr 1 (.t 49) (.t 50)), none⟩,
  ⟨some 52, (.load false 1 (.t 51)), none⟩,
  ⟨some 53, (.lenS .s (.t 52)), none⟩,
  ⟨some 54, (.bin .lss (.t 48) (.t 53)), none⟩]
theorem s_gnomonref07_Reach_r14_tale (fr : List V) (H : Heap) : evTale (symAll s_gnomonref07_Reach_r14 [48, 49, 50, 51, 52, 53] [54]) [48, 49, 50, 51, 52, 53] fr H = evTale (some (55, [], [(54, (.op (.bin .lss (.t 0) (.t 1)) [(.t 9), (.op (.lenS .s (.t 0)) [(.op (.load false 1 (.t 0)) [(.op (.indexAddr 1 (.t 0) (.t 1)) [(.t 0), (.t 8)])])])]))])) [48, 49, 50, 51, 52, 53] fr H := tale_row (items := [.tt 9, .tt 0, .tt 8, .sub 0 [1, 0, 0] [], .sub 0 [1, 0] [], .sub 0 [1] [], .sub 0 [] []]) (by kernel_rfl) fr H
def s_gnomonref07_Reach_r15 : List AOper := [
  ⟨some 57, (.move (.t 5)), none⟩,
  ⟨some 58, (.move (.t 8)), none⟩,
  ⟨some 59, (.indexAddr 1 (.t 57) (.t 58)), none⟩,
  ⟨some 60, (.load false 1 (.t 59)), none⟩,
  ⟨some 61, (.move (.t 60)), none⟩,
  ⟨some 62, (.move (.t 5)), some (61, true)⟩,
  ⟨some 63, (.move (.t 0)), some (61, true)⟩,
  ⟨some 64, (.move (.t 8)), some (61, true)⟩,
  ⟨some 65, (.indexAddr 1 (.t 63) (.t 64)), some (61, true)⟩,
  ⟨some 66, (.load false 1 (.t 65)), some (61, true)⟩,
  ⟨some 67, (.move (.t 9)), some (61, true)⟩,
  ⟨some 68, (.indexAddr 1 (.t 66) (.t 67)), some (61, true)⟩,
  ⟨some 69, (.load false 1 (.t 68)), some (61, true)⟩,
  ⟨some 70, (.indexAddr 1 (.t 62) (.t 69)), some (61, true)⟩,
  ⟨some 71, (.load false 1 (.t 70)), some (61, true)⟩,
  ⟨some 72, (.un .not (.t 71)), some (61, true)⟩,
  ⟨some 73, (.pick (.t 61) (.t 72) (.c (.s (.bool false)))), none⟩]
theorem s_gnomonref07_Reach_r15_tale (fr : List V) (H : Heap) : evTale (symAll s_gnomonref07_Reach_r15 [54, 57, 58, 59, 60, 61, 62, 63, 64, 65, 66, 67, 68, 69, 70, 71, 72] [73]) [54, 57, 58, 59, 60, 61, 62, 63, 64, 65, 66, 67, 68, 69, 70, 71, 72] fr H = evTale (some (74, [], [(73, (.pick (.op (.load false 1 (.t 0)) [(.op (.indexAddr 1 (.t 0) (.t 1)) [(.t 5), (.t 8)])]) (.op (.un .not (.t 0)) [(.op (.load false 1 (.t 0)) [(.op (.indexAddr 1 (.t 0) (.t 1)) [(.t 5), (.op (.load false 1 (.t 0)) [(.op (.indexAddr 1 (.t 0) (.t 1)) [(.op (.load false 1 (.t 0)) [(.op (.indexAddr 1 (.t 0) (.t 1)) [(.t 0), (.t 8)])]), (.t 9)])])])])]) (.c (.s (.bool false)))))])) [54, 57, 58, 59, 60, 61, 62, 63, 64, 65, 66, 67, 68, 69, 70, 71, 72] fr H := tale_row (items := [.tt 5, .tt 8, .sub 0 [0, 0] [], .sub 0 [0] [], .sub 0 [0] [], .sub 0 [1, 0, 0, 0] [61], .sub 0 [1, 0, 0, 1, 0, 0, 0, 0] [61], .sub 0 [1, 0, 0, 1, 0, 0, 0, 1] [61], .sub 0 [1, 0, 0, 1, 0, 0, 0] [61], .sub 0 [1, 0, 0, 1, 0, 0] [61], .sub 0 [1, 0, 0, 1, 0, 1] [61], .sub 0 [1, 0, 0, 1, 0] [61], .sub 0 [1, 0, 0, 1] [61], .sub 0 [1, 0, 0] [61], .sub 0 [1, 0] [61], .sub 0 [1] [61], .sub 0 [] []]) (by kernel_rfl) fr H
def s_gnomonref07_Reach_r16t1 : List AOper := [⟨none, (.store 1 (.t 82) (.c (.s (.bool true)))), none⟩]
def s_gnomonref07_Reach_r16p0 : List AOper := [⟨some 74, (.move (.t 5)), none⟩, ⟨some 75, (.move (.t 0)), none⟩, ⟨some 76, (.move (.t 8)), none⟩, ⟨some 77, (.indexAddr 1 (.t 75) (.t 76)), none⟩, ⟨some 78, (.load false 1 (.t 77)), none⟩, ⟨some 79, (.move (.t 9)), none⟩, ⟨some 80, (.indexAddr 1 (.t 78) (.t 79)), none⟩, ⟨some 81, (.load false 1 (.t 80)), none⟩, ⟨some 82, (.indexAddr 1 (.t 74) (.t 81)), none⟩]
def s_gnomonref07_Reach_r16 : List AOper := s_gnomonref07_Reach_r16p0 ++ s_gnomonref07_Reach_r16t1
theorem s_gnomonref07_Reach_r16p0_tale (fr : List V) (H : Heap) : evTale (symAll s_gnomonref07_Reach_r16p0 [7, 73, 74, 75, 76, 77, 78, 79, 80, 81] [82]) [7, 73, 74, 75, 76, 77, 78, 79, 80, 81] fr H = evTale (some (83, [], [(82, (.op (.indexAddr 1 (.t 0) (.t 1)) [(.t 5), (.op (.load false 1 (.t 0)) [(.op (.indexAddr 1 (.t 0) (.t 1)) [(.op (.load false 1 (.t 0)) [(.op (.indexAddr 1 (.t 0) (.t 1)) [(.t 0), (.t 8)])]), (.t 9)])])]))])) [7, 73, 74, 75, 76, 77, 78, 79, 80, 81] fr H := tale_row (items := [.tt 5, .tt 0, .tt 8, .sub 0 [1, 0, 0, 0] [], .sub 0 [1, 0, 0] [], .tt 9, .sub 0 [1, 0] [], .sub 0 [1] [], .sub 0 [] []]) (by kernel_rfl) fr H
theorem s_gnomonref07_Reach_r16_x (call : CallF) (it : IterF) (base : Nat) (f : List V) (H : Heap) : evC call it base (.region s_gnomonref07_Reach_r16 [] [7, 73, 74, 75, 76, 77, 78, 79, 80, 81, 82]) f H = segC call it base s_gnomonref07_Reach_r16t1 [7, 73, 74, 75, 76, 77, 78, 79, 80, 81, 82] H (evTale (symAll s_gnomonref07_Reach_r16p0 [7, 73, 74, 75, 76, 77, 78, 79, 80, 81] [82]) [7, 73, 74, 75, 76, 77, 78, 79, 80, 81] f H) (origRow call it base s_gnomonref07_Reach_r16 [7, 73, 74, 75, 76, 77, 78, 79, 80, 81, 82] f H) := row_seg call it base s_gnomonref07_Reach_r16p0 s_gnomonref07_Reach_r16t1 (by kernel_rfl) f H
theorem s_gnomonref07_Reach_r16t1_x (call : CallF) (it : IterF) (base : Nat) (f : List V) (H : Heap) : evC call it base (.region s_gnomonref07_Reach_r16t1 [] [7, 73, 74, 75, 76, 77, 78, 79, 80, 81, 82]) f H = opsC [] s_gnomonref07_Reach_r16t1 [7, 73, 74, 75, 76, 77, 78, 79, 80, 81, 82] (evOps call base [⟨none, (.store 1 (.t 82) (.c (.s (.bool true)))), none⟩] f H) := row_ops call it base _ _ _ f H
def s_gnomonref07_Reach_r17 : List AOper := [
  ⟨some 7, (.move (.c (.s (.bool true)))), none⟩]
theorem s_gnomonref07_Reach_r17_tale (fr : List V) (H : Heap) : evTale (symAll s_gnomonref07_Reach_r17 [] [7]) [] fr H = evTale (some (8, [], [(7, (.c (.s (.bool true))))])) [] fr H := tale_row (items := [.cc (.s (.bool true))]) (by kernel_rfl) fr H
def s_gnomonref07_Reach_r18 : List AOper := [
  ⟨some 55, (.move (.t 9)), none⟩,
  ⟨some 56, (.bin .add (.t 55) (.c (.s (.int .i64 1)))), none⟩,
  ⟨some 9, (.move (.t 56)), none⟩]
theorem s_gnomonref07_Reach_r18_tale (fr : List V) (H : Heap) : evTale (symAll s_gnomonref07_Reach_r18 [55, 56, 73] [9]) [55, 56, 73] fr H = evTale (some (57, [], [(9, (.op (.bin .add (.t 0) (.c (.s (.int .i64 1)))) [(.t 9), (.c (.s (.int .i64 1)))]))])) [55, 56, 73] fr H := tale_row (items := [.tt 9, .sub 0 [] [], .sub 0 [] []]) (by kernel_rfl) fr H
def s_gnomonref07_Reach_l1_b : ACode :=
  (.seq (.seq (.regionE s_gnomonref07_Reach_r14 [48, 49, 50, 51, 52, 53] [54])
  (.cond (.t 54)
  .skip
  (.exit 6)))
  (.seq (.block 7
  (.seq (.regionE s_gnomonref07_Reach_r15 [54, 57, 58, 59, 60, 61, 62, 63, 64, 65, 66, 67, 68, 69, 70, 71, 72] [73])
  (.cond (.t 73)
  (.seq (.region s_gnomonref07_Reach_r16 [] [7, 73, 74, 75, 76, 77, 78, 79, 80, 81, 82])
  (.regionE s_gnomonref07_Reach_r17 [] [7]))
  .skip)))
  (.regionE s_gnomonref07_Reach_r18 [55, 56, 73] [9])))
def s_gnomonref07_Reach_l1 : ACode := s_gnomonref07_Reach_l1_b
theorem s_gnomonref07_Reach_l1_ev (call : CallF) (it : IterF) (base : Nat) (fr : List V) (H : Heap) : evC call it base s_gnomonref07_Reach_l1 fr H = evC call it base s_gnomonref07_Reach_l1_b fr H := rfl
def s_gnomonref07_Reach_r19 : List AOper := [
  ⟨some 46, (.move (.t 8)), none⟩,
  ⟨some 47, (.bin .add (.t 46) (.c (.s (.int .i64 1)))), none⟩,
  ⟨some 8, (.move (.t 47)), none⟩]
theorem s_gnomonref07_Reach_r19_tale (fr : List V) (H : Heap) : evTale (symAll s_gnomonref07_Reach_r19 [9, 46, 47, 54] [8]) [9, 46, 47, 54] fr H = evTale (some (48, [], [(8, (.op (.bin .add (.t 0) (.c (.s (.int .i64 1)))) [(.t 8), (.c (.s (.int .i64 1)))]))])) [9, 46, 47, 54] fr H := tale_row (items := [.tt 8, .sub 0 [] [], .sub 0 [] []]) (by kernel_rfl) fr H
def s_gnomonref07_Reach_l2_b : ACode :=
  (.seq (.seq (.regionE s_gnomonref07_Reach_r12 [42, 43, 44] [45])
  (.cond (.t 45)
  .skip
  (.exit 4)))
  (.seq (.block 5
  (.seq (.regionE s_gnomonref07_Reach_r13 [45] [9])
  (.block 6
  (.loop [] s_gnomonref07_Reach_l1))))
  (.regionE s_gnomonref07_Reach_r19 [9, 46, 47, 54] [8])))
def s_gnomonref07_Reach_l2 : ACode := s_gnomonref07_Reach_l2_b
theorem s_gnomonref07_Reach_l2_ev (call : CallF) (it : IterF) (base : Nat) (fr : List V) (H : Heap) : evC call it base s_gnomonref07_Reach_l2 fr H = evC call it base s_gnomonref07_Reach_l2_b fr H := rfl
def s_gnomonref07_Reach_l3_b : ACode :=
  (.seq (.seq (.regionE s_gnomonref07_Reach_r9 [7] [41])
  (.cond (.t 41)
  .skip
  (.exit 2)))
  (.block 3
  (.seq (.regionE s_gnomonref07_Reach_r10 [41] [7])
  (.seq (.regionE s_gnomonref07_Reach_r11 [] [8])
  (.block 4
  (.loop [] s_gnomonref07_Reach_l2))))))
def s_gnomonref07_Reach_l3 : ACode := s_gnomonref07_Reach_l3_b
theorem s_gnomonref07_Reach_l3_ev (call : CallF) (it : IterF) (base : Nat) (fr : List V) (H : Heap) : evC call it base s_gnomonref07_Reach_l3 fr H = evC call it base s_gnomonref07_Reach_l3_b fr H := rfl
def s_gnomonref07_Reach_r20 : List AOper := [
  ⟨some 83, (.move (.t 5)), none⟩,
  ⟨some 4, (.move (.t 83)), none⟩]
theorem s_gnomonref07_Reach_r20_tale (fr : List V) (H : Heap) : evTale (symAll s_gnomonref07_Reach_r20 [0, 5, 41, 83] [4]) [0, 5, 41, 83] fr H = evTale (some (84, [], [(4, (.t 5))])) [0, 5, 41, 83] fr H := tale_row (items := [.tt 5, .tt 5]) (by kernel_rfl) fr H
def s_gnomonref07_Reach : ACFun := { ntmps := 84, results := [(.tmp 4)], body :=
  (.seq (.regionE s_gnomonref07_Reach_r0 s_gnomonref07_Reach_r0_k [])
  (.seq (.region s_gnomonref07_Reach_r1 [] [10, 11])
  (.seq (.region s_gnomonref07_Reach_r2 [] [12, 13, 14])
  (.seq (.seq (.regionE s_gnomonref07_Reach_r3 [] [6])
  (.block 0
  (.loop [] s_gnomonref07_Reach_l0)))
  (.seq (.seq (.regionE s_gnomonref07_Reach_r8 [1, 6, 18] [7])
  (.block 2
  (.loop [8, 45] s_gnomonref07_Reach_l3)))
  (.seq (.regionE s_gnomonref07_Reach_r20 [0, 5, 41, 83] [4])
  .ret)))))) }
/- 20 gnomon/graph.Leads -/
abbrev k_graph_Leads : Nat := 20
def s_graph_Leads_r0_k : List Nat := [3, 4, 5, 6, 7, 8, 9, 10, 11, 12, 13, 14, 15, 16, 17, 18, 19, 20, 21, 22, 23]
theorem s_graph_Leads_r0_kT : killV s_graph_Leads_r0_k (startV 24 [] 3) = [] := by kernel_rfl
theorem s_graph_Leads_r0_kA0 : s_graph_Leads_r0_k.contains 0 = false := by kernel_rfl
theorem s_graph_Leads_r0_kA1 : s_graph_Leads_r0_k.contains 1 = false := by kernel_rfl
theorem s_graph_Leads_r0_kA2 : s_graph_Leads_r0_k.contains 2 = false := by kernel_rfl
def s_graph_Leads_r0 : List AOper := [
  ⟨some 6, (.move (.c (.s (.bool false)))), none⟩]
theorem s_graph_Leads_r0_tale (fr : List V) (H : Heap) : evTale (symAll s_graph_Leads_r0 s_graph_Leads_r0_k []) s_graph_Leads_r0_k fr H = evTale (some (7, [], [])) s_graph_Leads_r0_k fr H := tale_row (items := [.cc (.s (.bool false))]) (by kernel_rfl) fr H
def s_graph_Leads_r1t5 : List AOper := [⟨some 20, (.move (.t 2)), some (15, true)⟩, ⟨some 21, (.indexAddr 1 (.t 19) (.t 20)), some (15, true)⟩, ⟨some 22, (.load false 1 (.t 21)), some (15, true)⟩, ⟨some 23, (.pick (.t 15) (.t 22) (.c (.s (.bool false)))), none⟩, ⟨some 6, (.move (.t 23)), none⟩]
def s_graph_Leads_r1p4 : List AOper := [⟨some 19, (.call (.c (.fn 18 [] [])) [(.t 16), (.t 18)]), some (15, true)⟩]
def s_graph_Leads_r1t4 : List AOper := s_graph_Leads_r1p4 ++ s_graph_Leads_r1t5
def s_graph_Leads_r1p3 : List AOper := [⟨some 18, (.buildSl 1 1 [(.s (.int .i64 0))] [(0, (.t 17))]), some (15, true)⟩]
def s_graph_Leads_r1t3 : List AOper := s_graph_Leads_r1p3 ++ s_graph_Leads_r1t4
def s_graph_Leads_r1p2 : List AOper := [⟨some 17, (.move (.t 1)), some (15, true)⟩]
def s_graph_Leads_r1t2 : List AOper := s_graph_Leads_r1p2 ++ s_graph_Leads_r1t3
def s_graph_Leads_r1p1 : List AOper := [⟨some 16, (.move (.t 0)), some (15, true)⟩]
def s_graph_Leads_r1t1 : List AOper := s_graph_Leads_r1p1 ++ s_graph_Leads_r1t2
def s_graph_Leads_r1p0 : List AOper := [⟨some 7, (.move (.t 2)), none⟩, ⟨some 8, (.bin .geq (.t 7) (.c (.s (.int .i64 0)))), none⟩, ⟨some 9, (.move (.t 8)), none⟩, ⟨some 10, (.move (.t 2)), some (9, true)⟩, ⟨some 11, (.move (.t 0)), some (9, true)⟩, ⟨some 12, (.lenS .s (.t 11)), some (9, true)⟩, ⟨some 13, (.bin .lss (.t 10) (.t 12)), some (9, true)⟩, ⟨some 14, (.pick (.t 9) (.t 13) (.c (.s (.bool false)))), none⟩, ⟨some 15, (.move (.t 14)), none⟩]
def s_graph_Leads_r1 : List AOper := s_graph_Leads_r1p0 ++ s_graph_Leads_r1t1
theorem s_graph_Leads_r1p0_tale (fr : List V) (H : Heap) : evTale (symAll s_graph_Leads_r1p0 [7, 8, 9, 10, 11, 12, 13, 14] [15]) [7, 8, 9, 10, 11, 12, 13, 14] fr H = evTale (some (16, [], [(15, (.pick (.op (.bin .geq (.t 0) (.c (.s (.int .i64 0)))) [(.t 2), (.c (.s (.int .i64 0)))]) (.op (.bin .lss (.t 0) (.t 1)) [(.t 2), (.op (.lenS .s (.t 0)) [(.t 0)])]) (.c (.s (.bool false)))))])) [7, 8, 9, 10, 11, 12, 13, 14] fr H := tale_row (items := [.tt 2, .sub 0 [0] [], .sub 0 [0] [], .sub 0 [1, 0] [9], .sub 0 [1, 1, 0] [9], .sub 0 [1, 1] [9], .sub 0 [1] [9], .sub 0 [] [], .sub 0 [] []]) (by kernel_rfl) fr H
theorem s_graph_Leads_r1_x (call : CallF) (it : IterF) (base : Nat) (f : List V) (H : Heap) : evC call it base (.region s_graph_Leads_r1 [] [0, 1, 2, 7, 8, 9, 10, 11, 12, 13, 14, 15, 16, 17, 18, 19, 20, 21, 22, 23]) f H = segC call it base s_graph_Leads_r1t1 [0, 1, 2, 7, 8, 9, 10, 11, 12, 13, 14, 15, 16, 17, 18, 19, 20, 21, 22, 23] H (evTale (symAll s_graph_Leads_r1p0 [7, 8, 9, 10, 11, 12, 13, 14] [15]) [7, 8, 9, 10, 11, 12, 13, 14] f H) (origRow call it base s_graph_Leads_r1 [0, 1, 2, 7, 8, 9, 10, 11, 12, 13, 14, 15, 16, 17, 18, 19, 20, 21, 22, 23] f H) := row_seg call it base s_graph_Leads_r1p0 s_graph_Leads_r1t1 (by kernel_rfl) f H
theorem s_graph_Leads_r1t1_x (call : CallF) (it : IterF) (base : Nat) (f : List V) (H : Heap) : evC call it base (.region s_graph_Leads_r1t1 [] [0, 1, 2, 7, 8, 9, 10, 11, 12, 13, 14, 15, 16, 17, 18, 19, 20, 21, 22, 23]) f H = thenC call it base (.region s_graph_Leads_r1t2 [] [0, 1, 2, 7, 8, 9, 10, 11, 12, 13, 14, 15, 16, 17, 18, 19, 20, 21, 22, 23]) (opsC [] s_graph_Leads_r1p1 [0] (evOps call base [⟨some 16, (.move (.t 0)), some (15, true)⟩] f H)) := (row_op call it base s_graph_Leads_r1p1 s_graph_Leads_r1t2 (kc := [0]) (by kernel_rfl) f H).trans (by rw [row_ops]; rfl)
theorem s_graph_Leads_r1t2_x (call : CallF) (it : IterF) (base : Nat) (f : List V) (H : Heap) : evC call it base (.region s_graph_Leads_r1t2 [] [0, 1, 2, 7, 8, 9, 10, 11, 12, 13, 14, 15, 16, 17, 18, 19, 20, 21, 22, 23]) f H = thenC call it base (.region s_graph_Leads_r1t3 [] [0, 1, 2, 7, 8, 9, 10, 11, 12, 13, 14, 15, 16, 17, 18, 19, 20, 21, 22, 23]) (opsC [] s_graph_Leads_r1p2 [1] (evOps call base [⟨some 17, (.move (.t 1)), some (15, true)⟩] f H)) := (row_op call it base s_graph_Leads_r1p2 s_graph_Leads_r1t3 (kc := [1]) (by kernel_rfl) f H).trans (by rw [row_ops]; rfl)
theorem s_graph_Leads_r1t3_x (call : CallF) (it : IterF) (base : Nat) (f : List V) (H : Heap) : evC call it base (.region s_graph_Leads_r1t3 [] [0, 1, 2, 7, 8, 9, 10, 11, 12, 13, 14, 15, 16, 17, 18, 19, 20, 21, 22, 23]) f H = thenC call it base (.region s_graph_Leads_r1t4 [] [0, 1, 2, 7, 8, 9, 10, 11, 12, 13, 14, 15, 16, 17, 18, 19, 20, 21, 22, 23]) (opsC [] s_graph_Leads_r1p3 [17] (evOps call base [⟨some 18, (.buildSl 1 1 [(.s (.int .i64 0))] [(0, (.t 17))]), some (15, true)⟩] f H)) := (row_op call it base s_graph_Leads_r1p3 s_graph_Leads_r1t4 (kc := [17]) (by kernel_rfl) f H).trans (by rw [row_ops]; rfl)
theorem s_graph_Leads_r1t4_x (call : CallF) (it : IterF) (base : Nat) (f : List V) (H : Heap) : evC call it base (.region s_graph_Leads_r1t4 [] [0, 1, 2, 7, 8, 9, 10, 11, 12, 13, 14, 15, 16, 17, 18, 19, 20, 21, 22, 23]) f H = thenC call it base (.region s_graph_Leads_r1t5 [] [0, 1, 2, 7, 8, 9, 10, 11, 12, 13, 14, 15, 16, 17, 18, 19, 20, 21, 22, 23]) (opsC [] s_graph_Leads_r1p4 [16, 18] (evOps call base [⟨some 19, (.call (.c (.fn 18 [] [])) [(.t 16), (.t 18)]), some (15, true)⟩] f H)) := (row_op call it base s_graph_Leads_r1p4 s_graph_Leads_r1t5 (kc := [16, 18]) (by kernel_rfl) f H).trans (by rw [row_ops]; rfl)
theorem s_graph_Leads_r1t5_tale (fr : List V) (H : Heap) : evTale (symAll s_graph_Leads_r1t5 [0, 1, 2, 7, 8, 9, 10, 11, 12, 13, 14, 15, 16, 17, 18, 19, 20, 21, 22, 23] [6]) [0, 1, 2, 7, 8, 9, 10, 11, 12, 13, 14, 15, 16, 17, 18, 19, 20, 21, 22, 23] fr H = evTale (some (24, [], [(6, (.pick (.t 15) (.op (.load false 1 (.t 0)) [(.op (.indexAddr 1 (.t 0) (.t 1)) [(.t 19), (.t 2)])]) (.c (.s (.bool false)))))])) [0, 1, 2, 7, 8, 9, 10, 11, 12, 13, 14, 15, 16, 17, 18, 19, 20, 21, 22, 23] fr H := tale_row (items := [.sub 0 [1, 0, 1] [15], .sub 0 [1, 0] [15], .sub 0 [1] [15], .sub 0 [] [], .sub 0 [] []]) (by kernel_rfl) fr H
theorem s_graph_Leads_r1t5_x (call : CallF) (it : IterF) (base : Nat) (f : List V) (H : Heap) : evC call it base (.region s_graph_Leads_r1t5 [] [0, 1, 2, 7, 8, 9, 10, 11, 12, 13, 14, 15, 16, 17, 18, 19, 20, 21, 22, 23]) f H = segL H (evTale (symAll s_graph_Leads_r1t5 [0, 1, 2, 7, 8, 9, 10, 11, 12, 13, 14, 15, 16, 17, 18, 19, 20, 21, 22, 23] [6]) [0, 1, 2, 7, 8, 9, 10, 11, 12, 13, 14, 15, 16, 17, 18, 19, 20, 21, 22, 23] f H) (origRow call it base s_graph_Leads_r1t5 [0, 1, 2, 7, 8, 9, 10, 11, 12, 13, 14, 15, 16, 17, 18, 19, 20, 21, 22, 23] f H) := row_last call it base _ f H
def s_graph_Leads : ACFun := { ntmps := 24, results := [(.tmp 6)], body :=
  (.seq (.regionE s_graph_Leads_r0 s_graph_Leads_r0_k [])
  (.seq (.region s_graph_Leads_r1 [] [0, 1, 2, 7, 8, 9, 10, 11, 12, 13, 14, 15, 16, 17, 18, 19, 20, 21, 22, 23])
  .ret)) }
/- 21 gnomon/gnomonref07.Leads -/
abbrev k_gnomonref07_Leads : Nat := 21
def s_gnomonref07_Leads_r0_k : List Nat := [3, 4, 5, 6, 7, 8, 9, 10, 11, 12, 13, 14, 15, 16, 17, 18, 19, 20, 21, 22, 23]
theorem s_gnomonref07_Leads_r0_kT : killV s_gnomonref07_Leads_r0_k (startV 24 [] 3) = [] := by kernel_rfl
theorem s_gnomonref07_Leads_r0_kA0 : s_gnomonref07_Leads_r0_k.contains 0 = false := by kernel_rfl
theorem s_gnomonref07_Leads_r0_kA1 : s_gnomonref07_Leads_r0_k.contains 1 = false := by kernel_rfl
theorem s_gnomonref07_Leads_r0_kA2 : s_gnomonref07_Leads_r0_k.contains 2 = false := by kernel_rfl
def s_gnomonref07_Leads_r0 : List AOper := [
  ⟨some 6, (.move (.c (.s (.bool false)))), none⟩]
theorem s_gnomonref07_Leads_r0_tale (fr : List V) (H : Heap) : evTale (symAll s_gnomonref07_Leads_r0 s_gnomonref07_Leads_r0_k []) s_gnomonref07_Leads_r0_k fr H = evTale (some (7, [], [])) s_gnomonref07_Leads_r0_k fr H := tale_row (items := [.cc (.s (.bool false))]) (by kernel_rfl) fr H
def s_gnomonref07_Leads_r1t5 : List AOper := [⟨some 20, (.move (.t 2)), some (15, true)⟩, ⟨some 21, (.indexAddr 1 (.t 19) (.t 20)), some (15, true)⟩, ⟨some 22, (.load false 1 (.t 21)), some (15, true)⟩, ⟨some 23, (.pick (.t 15) (.t 22) (.c (.s (.bool false)))), none⟩, ⟨some 6, (.move (.t 23)), none⟩]
def s_gnomonref07_Leads_r1p4 : List AOper := [⟨some 19, (.call (.c (.fn 19 [] [])) [(.t 16), (.t 18)]), some (15, true)⟩]
def s_gnomonref07_Leads_r1t4 : List AOper := s_gnomonref07_Leads_r1p4 ++ s_gnomonref07_Leads_r1t5
def s_gnomonref07_Leads_r1p3 : List AOper := [⟨some 18, (.buildSl 1 1 [(.s (.int .i64 0))] [(0, (.t 17))]), some (15, true)⟩]
def s_gnomonref07_Leads_r1t3 : List AOper := s_gnomonref07_Leads_r1p3 ++ s_gnomonref07_Leads_r1t4
def s_gnomonref07_Leads_r1p2 : List AOper := [⟨some 17, (.move (.t 1)), some (15, true)⟩]
def s_gnomonref07_Leads_r1t2 : List AOper := s_gnomonref07_Leads_r1p2 ++ s_gnomonref07_Leads_r1t3
def s_gnomonref07_Leads_r1p1 : List AOper := [⟨some 16, (.move (.t 0)), some (15, true)⟩]
def s_gnomonref07_Leads_r1t1 : List AOper := s_gnomonref07_Leads_r1p1 ++ s_gnomonref07_Leads_r1t2
def s_gnomonref07_Leads_r1p0 : List AOper := [⟨some 7, (.move (.t 2)), none⟩, ⟨some 8, (.bin .geq (.t 7) (.c (.s (.int .i64 0)))), none⟩, ⟨some 9, (.move (.t 8)), none⟩, ⟨some 10, (.move (.t 2)), some (9, true)⟩, ⟨some 11, (.move (.t 0)), some (9, true)⟩, ⟨some 12, (.lenS .s (.t 11)), some (9, true)⟩, ⟨some 13, (.bin .lss (.t 10) (.t 12)), some (9, true)⟩, ⟨some 14, (.pick (.t 9) (.t 13) (.c (.s (.bool false)))), none⟩, ⟨some 15, (.move (.t 14)), none⟩]
def s_gnomonref07_Leads_r1 : List AOper := s_gnomonref07_Leads_r1p0 ++ s_gnomonref07_Leads_r1t1
theorem s_gnomonref07_Leads_r1p0_tale (fr : List V) (H : Heap) : evTale (symAll s_gnomonref07_Leads_r1p0 [7, 8, 9, 10, 11, 12, 13, 14] [15]) [7, 8, 9, 10, 11, 12, 13, 14] fr H = evTale (some (16, [], [(15, (.pick (.op (.bin .geq (.t 0) (.c (.s (.int .i64 0)))) [(.t 2), (.c (.s (.int .i64 0)))]) (.op (.bin .lss (.t 0) (.t 1)) [(.t 2), (.op (.lenS .s (.t 0)) [(.t 0)])]) (.c (.s (.bool false)))))])) [7, 8, 9, 10, 11, 12, 13, 14] fr H := tale_row (items := [.tt 2, .sub 0 [0] [], .sub 0 [0] [], .sub 0 [1, 0] [9], .sub 0 [1, 1, 0] [9], .sub 0 [1, 1] [9], .sub 0 [1] [9], .sub 0 [] [], .sub 0 [] []]) (by kernel_rfl) fr H
theorem s_gnomonref07_Leads_r1_x (call : CallF) (it : IterF) (base : Nat) (f : List V) (H : Heap) : evC call it base (.region s_gnomonref07_Leads_r1 [] [0, 1, 2, 7, 8, 9, 10, 11, 12, 13, 14, 15, 16, 17, 18, 19, 20, 21, 22, 23]) f H = segC call it base s_gnomonref07_Leads_r1t1 [0, 1, 2, 7, 8, 9, 10, 11, 12, 13, 14, 15, 16, 17, 18, 19, 20, 21, 22, 23] H (evTale (symAll s_gnomonref07_Leads_r1p0 [7, 8, 9, 10, 11, 12, 13, 14] [15]) [7, 8, 9, 10, 11, 12, 13, 14] f H) (origRow call it base s_gnomonref07_Leads_r1 [0, 1, 2, 7, 8, 9, 10, 11, 12, 13, 14, 15, 16, 17, 18, 19, 20, 21, 22, 23] f H) := row_seg call it base s_gnomonref07_Leads_r1p0 s_gnomonref07_Leads_r1t1 (by kernel_rfl) f H
theorem s_gnomonref07_Leads_r1t1_x (call : CallF) (it : IterF) (base : Nat) (f : List V) (H : Heap) : evC call it base (.region s_gnomonref07_Leads_r1t1 [] [0, 1, 2, 7, 8, 9, 10, 11, 12, 13, 14, 15, 16, 17, 18, 19, 20, 21, 22, 23]) f H = thenC call it base (.region s_gnomonref07_Leads_r1t2 [] [0, 1, 2, 7, 8, 9, 10, 11, 12, 13, 14, 15, 16, 17, 18, 19, 20, 21, 22, 23]) (opsC [] s_gnomonref07_Leads_r1p1 [0] (evOps call base [⟨some 16, (.move (.t 0)), some (15, true)⟩] f H)) := (row_op call it base s_gnomonref07_Leads_r1p1 s_gnomonref07_Leads_r1t2 (kc := [0]) (by kernel_rfl) f H).trans (by rw [row_ops]; rfl)
theorem s_gnomonref07_Leads_r1t2_x (call : CallF) (it : IterF) (base : Nat) (f : List V) (H : Heap) : evC call it base (.region s_gnomonref07_Leads_r1t2 [] [0, 1, 2, 7, 8, 9, 10, 11, 12, 13, 14, 15, 16, 17, 18, 19, 20, 21, 22, 23]) f H = thenC call it base (.region s_gnomonref07_Leads_r1t3 [] [0, 1, 2, 7, 8, 9, 10, 11, 12, 13, 14, 15, 16, 17, 18, 19, 20, 21, 22, 23]) (opsC [] s_gnomonref07_Leads_r1p2 [1] (evOps call base [⟨some 17, (.move (.t 1)), some (15, true)⟩] f H)) := (row_op call it base s_gnomonref07_Leads_r1p2 s_gnomonref07_Leads_r1t3 (kc := [1]) (by kernel_rfl) f H).trans (by rw [row_ops]; rfl)
theorem s_gnomonref07_Leads_r1t3_x (call : CallF) (it : IterF) (base : Nat) (f : List V) (H : Heap) : evC call it base (.region s_gnomonref07_Leads_r1t3 [] [0, 1, 2, 7, 8, 9, 10, 11, 12, 13, 14, 15, 16, 17, 18, 19, 20, 21, 22, 23]) f H = thenC call it base (.region s_gnomonref07_Leads_r1t4 [] [0, 1, 2, 7, 8, 9, 10, 11, 12, 13, 14, 15, 16, 17, 18, 19, 20, 21, 22, 23]) (opsC [] s_gnomonref07_Leads_r1p3 [17] (evOps call base [⟨some 18, (.buildSl 1 1 [(.s (.int .i64 0))] [(0, (.t 17))]), some (15, true)⟩] f H)) := (row_op call it base s_gnomonref07_Leads_r1p3 s_gnomonref07_Leads_r1t4 (kc := [17]) (by kernel_rfl) f H).trans (by rw [row_ops]; rfl)
theorem s_gnomonref07_Leads_r1t4_x (call : CallF) (it : IterF) (base : Nat) (f : List V) (H : Heap) : evC call it base (.region s_gnomonref07_Leads_r1t4 [] [0, 1, 2, 7, 8, 9, 10, 11, 12, 13, 14, 15, 16, 17, 18, 19, 20, 21, 22, 23]) f H = thenC call it base (.region s_gnomonref07_Leads_r1t5 [] [0, 1, 2, 7, 8, 9, 10, 11, 12, 13, 14, 15, 16, 17, 18, 19, 20, 21, 22, 23]) (opsC [] s_gnomonref07_Leads_r1p4 [16, 18] (evOps call base [⟨some 19, (.call (.c (.fn 19 [] [])) [(.t 16), (.t 18)]), some (15, true)⟩] f H)) := (row_op call it base s_gnomonref07_Leads_r1p4 s_gnomonref07_Leads_r1t5 (kc := [16, 18]) (by kernel_rfl) f H).trans (by rw [row_ops]; rfl)
theorem s_gnomonref07_Leads_r1t5_tale (fr : List V) (H : Heap) : evTale (symAll s_gnomonref07_Leads_r1t5 [0, 1, 2, 7, 8, 9, 10, 11, 12, 13, 14, 15, 16, 17, 18, 19, 20, 21, 22, 23] [6]) [0, 1, 2, 7, 8, 9, 10, 11, 12, 13, 14, 15, 16, 17, 18, 19, 20, 21, 22, 23] fr H = evTale (some (24, [], [(6, (.pick (.t 15) (.op (.load false 1 (.t 0)) [(.op (.indexAddr 1 (.t 0) (.t 1)) [(.t 19), (.t 2)])]) (.c (.s (.bool false)))))])) [0, 1, 2, 7, 8, 9, 10, 11, 12, 13, 14, 15, 16, 17, 18, 19, 20, 21, 22, 23] fr H := tale_row (items := [.sub 0 [1, 0, 1] [15], .sub 0 [1, 0] [15], .sub 0 [1] [15], .sub 0 [] [], .sub 0 [] []]) (by kernel_rfl) fr H
theorem s_gnomonref07_Leads_r1t5_x (call : CallF) (it : IterF) (base : Nat) (f : List V) (H : Heap) : evC call it base (.region s_gnomonref07_Leads_r1t5 [] [0, 1, 2, 7, 8, 9, 10, 11, 12, 13, 14, 15, 16, 17, 18, 19, 20, 21, 22, 23]) f H = segL H (evTale (symAll s_gnomonref07_Leads_r1t5 [0, 1, 2, 7, 8, 9, 10, 11, 12, 13, 14, 15, 16, 17, 18, 19, 20, 21, 22, 23] [6]) [0, 1, 2, 7, 8, 9, 10, 11, 12, 13, 14, 15, 16, 17, 18, 19, 20, 21, 22, 23] f H) (origRow call it base s_gnomonref07_Leads_r1t5 [0, 1, 2, 7, 8, 9, 10, 11, 12, 13, 14, 15, 16, 17, 18, 19, 20, 21, 22, 23] f H) := row_last call it base _ f H
def s_gnomonref07_Leads : ACFun := { ntmps := 24, results := [(.tmp 6)], body :=
  (.seq (.regionE s_gnomonref07_Leads_r0 s_gnomonref07_Leads_r0_k [])
  (.seq (.region s_gnomonref07_Leads_r1 [] [0, 1, 2, 7, 8, 9, 10, 11, 12, 13, 14, 15, 16, 17, 18, 19, 20, 21, 22, 23])
  .ret)) }
/- 32 gnomon/graph.Reach$1 -/
abbrev k_graph_Reach_1 : Nat := 32
def s_graph_Reach_1_r0_k : List Nat := [1, 4, 5, 6, 7, 8, 9, 10, 11, 12, 13, 14, 15, 16, 17, 18, 20, 21, 22, 23, 24, 25, 26]
theorem s_graph_Reach_1_r0_kT : killV s_graph_Reach_1_r0_k (startV 27 [] 4) = [(19, und)] := by kernel_rfl
theorem s_graph_Reach_1_r0_kA0 : s_graph_Reach_1_r0_k.contains 0 = false := by kernel_rfl
theorem s_graph_Reach_1_r0_kA1 : s_graph_Reach_1_r0_k.contains 1 = true := by kernel_rfl
theorem s_graph_Reach_1_r0_kA2 : s_graph_Reach_1_r0_k.contains 2 = false := by kernel_rfl
theorem s_graph_Reach_1_r0_kA3 : s_graph_Reach_1_r0_k.contains 3 = false := by kernel_rfl
def s_graph_Reach_1_r0 : List AOper := [
  ⟨some 5, (.move (.t 0)), none⟩,
  ⟨some 6, (.bin .geq (.t 5) (.c (.s (.int .i64 0)))), none⟩,
  ⟨some 7, (.move (.t 6)), none⟩,
  ⟨some 8, (.move (.t 0)), some (7, true)⟩,
  ⟨some 9, (.load false 1 (.t 1)), some (7, true)⟩,
  ⟨some 10, (.lenS .s (.t 9)), some (7, true)⟩,
  ⟨some 11, (.bin .lss (.t 8) (.t 10)), some (7, true)⟩,
  ⟨some 12, (.pick (.t 7) (.t 11) (.c (.s (.bool false)))), none⟩,
  ⟨some 13, (.move (.t 12)), none⟩,
  ⟨some 14, (.load false 1 (.t 2)), some (13, true)⟩,
  ⟨some 15, (.move (.t 0)), some (13, true)⟩,
  ⟨some 16, (.indexAddr 1 (.t 14) (.t 15)), some (13, true)⟩,
  ⟨some 17, (.load false 1 (.t 16)), some (13, true)⟩,
  ⟨some 18, (.un .not (.t 17)), some (13, true)⟩,
  ⟨some 19, (.pick (.t 13) (.t 18) (.c (.s (.bool false)))), none⟩]
theorem s_graph_Reach_1_r0_tale (fr : List V) (H : Heap) : evTale (symAll s_graph_Reach_1_r0 s_graph_Reach_1_r0_k [19]) s_graph_Reach_1_r0_k fr H = evTale (some (20, [], [(19, (.pick (.pick (.op (.bin .geq (.t 0) (.c (.s (.int .i64 0)))) [(.t 0), (.c (.s (.int .i64 0)))]) (.op (.bin .lss (.t 0) (.t 1)) [(.t 0), (.op (.lenS .s (.t 0)) [(.op (.load false 1 (.t 0)) [(.t 1)])])]) (.c (.s (.bool false)))) (.op (.un .not (.t 0)) [(.op (.load false 1 (.t 0)) [(.op (.indexAddr 1 (.t 0) (.t 1)) [(.op (.load false 1 (.t 0)) [(.t 2)]), (.t 0)])])]) (.c (.s (.bool false)))))])) s_graph_Reach_1_r0_k fr H := tale_row (items := [.tt 0, .sub 0 [0, 0] [], .sub 0 [0, 0] [], .sub 0 [0, 1, 0] [7], .sub 0 [0, 1, 1, 0] [7], .sub 0 [0, 1, 1] [7], .sub 0 [0, 1] [7], .sub 0 [0] [], .sub 0 [0] [], .sub 0 [1, 0, 0, 0] [13], .sub 0 [1, 0, 0, 1] [13], .sub 0 [1, 0, 0] [13], .sub 0 [1, 0] [13], .sub 0 [1] [13], .sub 0 [] []]) (by kernel_rfl) fr H
def s_graph_Reach_1_r1t1 : List AOper := [⟨none, (.store 1 (.t 22) (.c (.s (.bool true)))), none⟩]
def s_graph_Reach_1_r1p0 : List AOper := [⟨some 20, (.load false 1 (.t 2)), none⟩, ⟨some 21, (.move (.t 0)), none⟩, ⟨some 22, (.indexAddr 1 (.t 20) (.t 21)), none⟩]
def s_graph_Reach_1_r1 : List AOper := s_graph_Reach_1_r1p0 ++ s_graph_Reach_1_r1t1
theorem s_graph_Reach_1_r1p0_tale (fr : List V) (H : Heap) : evTale (symAll s_graph_Reach_1_r1p0 [2, 19, 20, 21] [22]) [2, 19, 20, 21] fr H = evTale (some (23, [], [(22, (.op (.indexAddr 1 (.t 0) (.t 1)) [(.op (.load false 1 (.t 0)) [(.t 2)]), (.t 0)]))])) [2, 19, 20, 21] fr H := tale_row (items := [.sub 0 [0] [], .tt 0, .sub 0 [] []]) (by kernel_rfl) fr H
theorem s_graph_Reach_1_r1_x (call : CallF) (it : IterF) (base : Nat) (f : List V) (H : Heap) : evC call it base (.region s_graph_Reach_1_r1 [] [2, 19, 20, 21, 22]) f H = segC call it base s_graph_Reach_1_r1t1 [2, 19, 20, 21, 22] H (evTale (symAll s_graph_Reach_1_r1p0 [2, 19, 20, 21] [22]) [2, 19, 20, 21] f H) (origRow call it base s_graph_Reach_1_r1 [2, 19, 20, 21, 22] f H) := row_seg call it base s_graph_Reach_1_r1p0 s_graph_Reach_1_r1t1 (by kernel_rfl) f H
theorem s_graph_Reach_1_r1t1_x (call : CallF) (it : IterF) (base : Nat) (f : List V) (H : Heap) : evC call it base (.region s_graph_Reach_1_r1t1 [] [2, 19, 20, 21, 22]) f H = opsC [] s_graph_Reach_1_r1t1 [2, 19, 20, 21, 22] (evOps call base [⟨none, (.store 1 (.t 22) (.c (.s (.bool true)))), none⟩] f H) := row_ops call it base _ _ _ f H
def s_graph_Reach_1_r2t3 : List AOper := [⟨none, (.store 1 (.t 3) (.t 26)), none⟩]
def s_graph_Reach_1_r2p2 : List AOper := [⟨some 26, (.append 1 8 (.t 23) (.t 25)), none⟩]
def s_graph_Reach_1_r2t2 : List AOper := s_graph_Reach_1_r2p2 ++ s_graph_Reach_1_r2t3
def s_graph_Reach_1_r2p1 : List AOper := [⟨some 25, (.buildSl 1 1 [(.s (.int .i64 0))] [(0, (.t 24))]), none⟩]
def s_graph_Reach_1_r2t1 : List AOper := s_graph_Reach_1_r2p1 ++ s_graph_Reach_1_r2t2
def s_graph_Reach_1_r2p0 : List AOper := [⟨some 23, (.load false 1 (.t 3)), none⟩, ⟨some 24, (.move (.t 0)), none⟩]
def s_graph_Reach_1_r2 : List AOper := s_graph_Reach_1_r2p0 ++ s_graph_Reach_1_r2t1
theorem s_graph_Reach_1_r2p0_tale (fr : List V) (H : Heap) : evTale (symAll s_graph_Reach_1_r2p0 [0] [23, 24]) [0] fr H = evTale (some (25, [], [(23, (.op (.load false 1 (.t 0)) [(.t 3)])), (24, (.t 0))])) [0] fr H := tale_row (items := [.sub 0 [] [], .tt 0]) (by kernel_rfl) fr H
theorem s_graph_Reach_1_r2_x (call : CallF) (it : IterF) (base : Nat) (f : List V) (H : Heap) : evC call it base (.region s_graph_Reach_1_r2 [] [0, 3, 23, 24, 25, 26]) f H = segC call it base s_graph_Reach_1_r2t1 [0, 3, 23, 24, 25, 26] H (evTale (symAll s_graph_Reach_1_r2p0 [0] [23, 24]) [0] f H) (origRow call it base s_graph_Reach_1_r2 [0, 3, 23, 24, 25, 26] f H) := row_seg call it base s_graph_Reach_1_r2p0 s_graph_Reach_1_r2t1 (by kernel_rfl) f H
theorem s_graph_Reach_1_r2t1_x (call : CallF) (it : IterF) (base : Nat) (f : List V) (H : Heap) : evC call it base (.region s_graph_Reach_1_r2t1 [] [0, 3, 23, 24, 25, 26]) f H = thenC call it base (.region s_graph_Reach_1_r2t2 [] [0, 3, 23, 24, 25, 26]) (opsC [] s_graph_Reach_1_r2p1 [24] (evOps call base [⟨some 25, (.buildSl 1 1 [(.s (.int .i64 0))] [(0, (.t 24))]), none⟩] f H)) := (row_op call it base s_graph_Reach_1_r2p1 s_graph_Reach_1_r2t2 (kc := [24]) (by kernel_rfl) f H).trans (by rw [row_ops]; rfl)
theorem s_graph_Reach_1_r2t2_x (call : CallF) (it : IterF) (base : Nat) (f : List V) (H : Heap) : evC call it base (.region s_graph_Reach_1_r2t2 [] [0, 3, 23, 24, 25, 26]) f H = thenC call it base (.region s_graph_Reach_1_r2t3 [] [0, 3, 23, 24, 25, 26]) (opsC [] s_graph_Reach_1_r2p2 [23, 25] (evOps call base [⟨some 26, (.append 1 8 (.t 23) (.t 25)), none⟩] f H)) := (row_op call it base s_graph_Reach_1_r2p2 s_graph_Reach_1_r2t3 (kc := [23, 25]) (by kernel_rfl) f H).trans (by rw [row_ops]; rfl)
theorem s_graph_Reach_1_r2t3_x (call : CallF) (it : IterF) (base : Nat) (f : List V) (H : Heap) : evC call it base (.region s_graph_Reach_1_r2t3 [] [0, 3, 23, 24, 25, 26]) f H = opsC [] s_graph_Reach_1_r2t3 [0, 3, 23, 24, 25, 26] (evOps call base [⟨none, (.store 1 (.t 3) (.t 26)), none⟩] f H) := row_ops call it base _ _ _ f H
def s_graph_Reach_1 : ACFun := { ntmps := 27, results := [], body :=
  (.seq (.regionE s_graph_Reach_1_r0 s_graph_Reach_1_r0_k [19])
  (.cond (.t 19)
  (.seq (.region s_graph_Reach_1_r1 [] [2, 19, 20, 21, 22])
  (.region s_graph_Reach_1_r2 [] [0, 3, 23, 24, 25, 26]))
  .skip)) }
def a_gnomonlaw07_GraphWays := And.intro @s_gnomonlaw07_GraphWays_r0_tale (And.intro @s_gnomonlaw07_GraphWays_r0_kT (And.intro @s_gnomonlaw07_GraphWays_r0_kA0 (And.intro @s_gnomonlaw07_GraphWays_r0_kA1 (And.intro @s_gnomonlaw07_GraphWays_r0_kA2 (And.intro @s_gnomonlaw07_GraphWays_r0_kA3 (And.intro @s_gnomonlaw07_GraphWays_r1p0_tale (And.intro @s_gnomonlaw07_GraphWays_r1_x (And.intro @s_gnomonlaw07_GraphWays_r1t1_x (And.intro @s_gnomonlaw07_GraphWays_r1t2_tale (And.intro @s_gnomonlaw07_GraphWays_r1t2_x (And.intro @s_gnomonlaw07_GraphWays_r2_x (And.intro @s_gnomonlaw07_GraphWays_r2t1_tale (And.intro @s_gnomonlaw07_GraphWays_r2t1_x (And.intro @s_gnomonlaw07_GraphWays_r3p0_tale (And.intro @s_gnomonlaw07_GraphWays_r3_x (And.intro @s_gnomonlaw07_GraphWays_r3t1_x (And.intro @s_gnomonlaw07_GraphWays_r3p2_tale (And.intro @s_gnomonlaw07_GraphWays_r3t2_x (And.intro @s_gnomonlaw07_GraphWays_r3t3_x (And.intro @s_gnomonlaw07_GraphWays_r3t4_x (And.intro @s_gnomonlaw07_GraphWays_r3p5_tale (And.intro @s_gnomonlaw07_GraphWays_r3t5_x (And.intro @s_gnomonlaw07_GraphWays_r3t6_x (And.intro @s_gnomonlaw07_GraphWays_r3t7_x (And.intro @s_gnomonlaw07_GraphWays_r3t8_x (And.intro @s_gnomonlaw07_GraphWays_r3t9_x (And.intro @s_gnomonlaw07_GraphWays_r3t10_x (And.intro @s_gnomonlaw07_GraphWays_r3t11_x (And.intro @s_gnomonlaw07_GraphWays_r3t12_x (And.intro @s_gnomonlaw07_GraphWays_r3t13_x (And.intro @s_gnomonlaw07_GraphWays_r3p14_tale (And.intro @s_gnomonlaw07_GraphWays_r3t14_x (And.intro @s_gnomonlaw07_GraphWays_r3t15_x (And.intro @s_gnomonlaw07_GraphWays_r3t16_x (And.intro @s_gnomonlaw07_GraphWays_r3t17_x (And.intro @s_gnomonlaw07_GraphWays_r3t18_x (And.intro @s_gnomonlaw07_GraphWays_r3t19_x (And.intro @s_gnomonlaw07_GraphWays_r3t20_x (And.intro @s_gnomonlaw07_GraphWays_r3t21_x (And.intro @s_gnomonlaw07_GraphWays_r3p22_tale (And.intro @s_gnomonlaw07_GraphWays_r3t22_x (And.intro @s_gnomonlaw07_GraphWays_r3t23_x (And.intro @s_gnomonlaw07_GraphWays_r3t24_tale (@s_gnomonlaw07_GraphWays_r3t24_x))))))))))))))))))))))))))))))))))))))))))))
def a_gnomonlaw07_GraphBack := And.intro @s_gnomonlaw07_GraphBack_r0_tale (And.intro @s_gnomonlaw07_GraphBack_r0_kT (And.intro @s_gnomonlaw07_GraphBack_r0_kA0 (And.intro @s_gnomonlaw07_GraphBack_r1p0_tale (And.intro @s_gnomonlaw07_GraphBack_r1_x (And.intro @s_gnomonlaw07_GraphBack_r1t1_x (And.intro @s_gnomonlaw07_GraphBack_r1t2_tale (And.intro @s_gnomonlaw07_GraphBack_r1t2_x (And.intro @s_gnomonlaw07_GraphBack_r2_x (And.intro @s_gnomonlaw07_GraphBack_r2t1_tale (And.intro @s_gnomonlaw07_GraphBack_r2t1_x (And.intro @s_gnomonlaw07_GraphBack_r3p0_tale (And.intro @s_gnomonlaw07_GraphBack_r3_x (And.intro @s_gnomonlaw07_GraphBack_r3t1_x (And.intro @s_gnomonlaw07_GraphBack_r3t2_tale (And.intro @s_gnomonlaw07_GraphBack_r3t2_x (And.intro @s_gnomonlaw07_GraphBack_r4p0_tale (And.intro @s_gnomonlaw07_GraphBack_r4_x (And.intro @s_gnomonlaw07_GraphBack_r4t1_x (And.intro @s_gnomonlaw07_GraphBack_r4p2_tale (And.intro @s_gnomonlaw07_GraphBack_r4t2_x (And.intro @s_gnomonlaw07_GraphBack_r4t3_x (And.intro @s_gnomonlaw07_GraphBack_r4t4_tale (And.intro @s_gnomonlaw07_GraphBack_r4t4_x (And.intro @s_gnomonlaw07_GraphBack_r5_tale (And.intro @s_gnomonlaw07_GraphBack_r6_tale (And.intro @s_gnomonlaw07_GraphBack_r7_tale (And.intro @s_gnomonlaw07_GraphBack_r8_tale (And.intro @s_gnomonlaw07_GraphBack_r9p0_tale (And.intro @s_gnomonlaw07_GraphBack_r9_x (And.intro @s_gnomonlaw07_GraphBack_r9t1_x (And.intro @s_gnomonlaw07_GraphBack_r9t2_tale (And.intro @s_gnomonlaw07_GraphBack_r9t2_x (And.intro @s_gnomonlaw07_GraphBack_r10_tale (And.intro @s_gnomonlaw07_GraphBack_r11_tale (And.intro @s_gnomonlaw07_GraphBack_r12_tale (And.intro @s_gnomonlaw07_GraphBack_r13p0_tale (And.intro @s_gnomonlaw07_GraphBack_r13_x (And.intro @s_gnomonlaw07_GraphBack_r13t1_x (And.intro @s_gnomonlaw07_GraphBack_r13p2_tale (And.intro @s_gnomonlaw07_GraphBack_r13t2_x (And.intro @s_gnomonlaw07_GraphBack_r13t3_x (And.intro @s_gnomonlaw07_GraphBack_r13t4_tale (And.intro @s_gnomonlaw07_GraphBack_r13t4_x (And.intro @s_gnomonlaw07_GraphBack_r14_tale (And.intro @s_gnomonlaw07_GraphBack_r15_tale (And.intro @s_gnomonlaw07_GraphBack_l0_ev (And.intro @s_gnomonlaw07_GraphBack_r16_tale (And.intro @s_gnomonlaw07_GraphBack_l1_ev (And.intro @s_gnomonlaw07_GraphBack_r17_x (And.intro @s_gnomonlaw07_GraphBack_r17t1_tale (@s_gnomonlaw07_GraphBack_r17t1_x)))))))))))))))))))))))))))))))))))))))))))))))))))
def a_gnomonlaw07_GraphTogether := And.intro @s_gnomonlaw07_GraphTogether_r0_tale (And.intro @s_gnomonlaw07_GraphTogether_r0_kT (And.intro @s_gnomonlaw07_GraphTogether_r0_kA0 (And.intro @s_gnomonlaw07_GraphTogether_r0_kA1 (And.intro @s_gnomonlaw07_GraphTogether_r0_kA2 (And.intro @s_gnomonlaw07_GraphTogether_r1p0_tale (And.intro @s_gnomonlaw07_GraphTogether_r1_x (And.intro @s_gnomonlaw07_GraphTogether_r1t1_x (And.intro @s_gnomonlaw07_GraphTogether_r1t2_tale (And.intro @s_gnomonlaw07_GraphTogether_r1t2_x (And.intro @s_gnomonlaw07_GraphTogether_r2_x (And.intro @s_gnomonlaw07_GraphTogether_r2t1_tale (And.intro @s_gnomonlaw07_GraphTogether_r2t1_x (And.intro @s_gnomonlaw07_GraphTogether_r3p0_tale (And.intro @s_gnomonlaw07_GraphTogether_r3_x (And.intro @s_gnomonlaw07_GraphTogether_r3t1_x (And.intro @s_gnomonlaw07_GraphTogether_r3p2_tale (And.intro @s_gnomonlaw07_GraphTogether_r3t2_x (And.intro @s_gnomonlaw07_GraphTogether_r3t3_x (And.intro @s_gnomonlaw07_GraphTogether_r3p4_tale (And.intro @s_gnomonlaw07_GraphTogether_r3t4_x (And.intro @s_gnomonlaw07_GraphTogether_r3t5_x (And.intro @s_gnomonlaw07_GraphTogether_r3p6_tale (And.intro @s_gnomonlaw07_GraphTogether_r3t6_x (And.intro @s_gnomonlaw07_GraphTogether_r3t7_x (And.intro @s_gnomonlaw07_GraphTogether_r3t8_x (And.intro @s_gnomonlaw07_GraphTogether_r3t9_tale (And.intro @s_gnomonlaw07_GraphTogether_r3t9_x (And.intro @s_gnomonlaw07_GraphTogether_r4_tale (And.intro @s_gnomonlaw07_GraphTogether_r5_tale (And.intro @s_gnomonlaw07_GraphTogether_r6_tale (And.intro @s_gnomonlaw07_GraphTogether_r7_tale (And.intro @s_gnomonlaw07_GraphTogether_r8_tale (And.intro @s_gnomonlaw07_GraphTogether_r9_tale (And.intro @s_gnomonlaw07_GraphTogether_r10_tale (And.intro @s_gnomonlaw07_GraphTogether_r11_tale (And.intro @s_gnomonlaw07_GraphTogether_r12p0_tale (And.intro @s_gnomonlaw07_GraphTogether_r12_x (And.intro @s_gnomonlaw07_GraphTogether_r12t1_x (And.intro @s_gnomonlaw07_GraphTogether_r12t2_x (And.intro @s_gnomonlaw07_GraphTogether_r12t3_tale (And.intro @s_gnomonlaw07_GraphTogether_r12t3_x (And.intro @s_gnomonlaw07_GraphTogether_r13_tale (And.intro @s_gnomonlaw07_GraphTogether_l0_ev (And.intro @s_gnomonlaw07_GraphTogether_r14p0_tale (And.intro @s_gnomonlaw07_GraphTogether_r14_x (And.intro @s_gnomonlaw07_GraphTogether_r14t1_x (And.intro @s_gnomonlaw07_GraphTogether_r14t2_tale (And.intro @s_gnomonlaw07_GraphTogether_r14t2_x (And.intro @s_gnomonlaw07_GraphTogether_r15_tale (And.intro @s_gnomonlaw07_GraphTogether_r16_tale (And.intro @s_gnomonlaw07_GraphTogether_r17_tale (And.intro @s_gnomonlaw07_GraphTogether_r18_tale (And.intro @s_gnomonlaw07_GraphTogether_r19_tale (And.intro @s_gnomonlaw07_GraphTogether_l1_ev (And.intro @s_gnomonlaw07_GraphTogether_r20_x (And.intro @s_gnomonlaw07_GraphTogether_r20t1_tale (@s_gnomonlaw07_GraphTogether_r20t1_x)))))))))))))))))))))))))))))))))))))))))))))))))))))))))
def a_gnomonref07_Bools := And.intro @s_gnomonref07_Bools_r0_tale (And.intro @s_gnomonref07_Bools_r0_kT (And.intro @s_gnomonref07_Bools_r0_kA0 (And.intro @s_gnomonref07_Bools_r0_kA1 (And.intro @s_gnomonref07_Bools_r1_tale (And.intro @s_gnomonref07_Bools_r2_tale (And.intro @s_gnomonref07_Bools_r3_tale (And.intro @s_gnomonref07_Bools_r4_tale (And.intro @s_gnomonref07_Bools_r5_tale (And.intro @s_gnomonref07_Bools_r6_tale (And.intro @s_gnomonref07_Bools_r7_tale (And.intro @s_gnomonref07_Bools_l0_ev (@s_gnomonref07_Bools_r8_tale))))))))))))
def a_graph_Reach := And.intro @s_graph_Reach_r0p0_k_kA0 (And.intro @s_graph_Reach_r0p0_k_kA1 (And.intro @s_graph_Reach_r0p0_k_kA2 (And.intro @s_graph_Reach_r0p0_k_kA4 (And.intro @s_graph_Reach_r0_x (And.intro @s_graph_Reach_r0t1_tale (And.intro @s_graph_Reach_r0t1_x (And.intro @s_graph_Reach_r0_k_kA0 (And.intro @s_graph_Reach_r0_k_kA1 (And.intro @s_graph_Reach_r0_k_kA2 (And.intro @s_graph_Reach_r0_k_kA4 (And.intro @s_graph_Reach_r1p0_tale (And.intro @s_graph_Reach_r1_x (And.intro @s_graph_Reach_r1t1_x (And.intro @s_graph_Reach_r1t2_x (And.intro @s_graph_Reach_r1t3_x (And.intro @s_graph_Reach_r2_x (And.intro @s_graph_Reach_r3_tale (And.intro @s_graph_Reach_r4_tale (And.intro @s_graph_Reach_r5_tale (And.intro @s_graph_Reach_r6_tale (And.intro @s_graph_Reach_r7p0_tale (And.intro @s_graph_Reach_r7_x (And.intro @s_graph_Reach_r7t1_x (And.intro @s_graph_Reach_r8_tale (And.intro @s_graph_Reach_l0_ev (And.intro @s_graph_Reach_r9_tale (And.intro @s_graph_Reach_r10_tale (And.intro @s_graph_Reach_r11p0_tale (And.intro @s_graph_Reach_r11_x (And.intro @s_graph_Reach_r11t1_x (And.intro @s_graph_Reach_r12_tale (And.intro @s_graph_Reach_r13_tale (And.intro @s_graph_Reach_r14_tale (And.intro @s_graph_Reach_r15p0_tale (And.intro @s_graph_Reach_r15_x (And.intro @s_graph_Reach_r15t1_x (And.intro @s_graph_Reach_r16_tale (And.intro @s_graph_Reach_l1_ev (And.intro @s_graph_Reach_l2_ev (@s_graph_Reach_r17_tale))))))))))))))))))))))))))))))))))))))))
def a_gnomonref07_Reach := And.intro @s_gnomonref07_Reach_r0_tale (And.intro @s_gnomonref07_Reach_r0_kT (And.intro @s_gnomonref07_Reach_r0_kA0 (And.intro @s_gnomonref07_Reach_r0_kA1 (And.intro @s_gnomonref07_Reach_r1p0_tale (And.intro @s_gnomonref07_Reach_r1_x (And.intro @s_gnomonref07_Reach_r1t1_x (And.intro @s_gnomonref07_Reach_r1t2_tale (And.intro @s_gnomonref07_Reach_r1t2_x (And.intro @s_gnomonref07_Reach_r2p0_tale (And.intro @s_gnomonref07_Reach_r2_x (And.intro @s_gnomonref07_Reach_r2t1_x (And.intro @s_gnomonref07_Reach_r2t2_tale (And.intro @s_gnomonref07_Reach_r2t2_x (And.intro @s_gnomonref07_Reach_r3_tale (And.intro @s_gnomonref07_Reach_r4_tale (And.intro @s_gnomonref07_Reach_r5_tale (And.intro @s_gnomonref07_Reach_r6p0_tale (And.intro @s_gnomonref07_Reach_r6_x (And.intro @s_gnomonref07_Reach_r6t1_x (And.intro @s_gnomonref07_Reach_r7_tale (And.intro @s_gnomonref07_Reach_l0_ev (And.intro @s_gnomonref07_Reach_r8_tale (And.intro @s_gnomonref07_Reach_r9_tale (And.intro @s_gnomonref07_Reach_r10_tale (And.intro @s_gnomonref07_Reach_r11_tale (And.intro @s_gnomonref07_Reach_r12_tale (And.intro @s_gnomonref07_Reach_r13_tale (And.intro @s_gnomonref07_Reach_r14_tale (And.intro @s_gnomonref07_Reach_r15_tale (And.intro @s_gnomonref07_Reach_r16p0_tale (And.intro @s_gnomonref07_Reach_r16_x (And.intro @s_gnomonref07_Reach_r16t1_x (And.intro @s_gnomonref07_Reach_r17_tale (And.intro @s_gnomonref07_Reach_r18_tale (And.intro @s_gnomonref07_Reach_l1_ev (And.intro @s_gnomonref07_Reach_r19_tale (And.intro @s_gnomonref07_Reach_l2_ev (And.intro @s_gnomonref07_Reach_l3_ev (@s_gnomonref07_Reach_r20_tale)))))))))))))))))))))))))))))))))))))))
def a_graph_Leads := And.intro @s_graph_Leads_r0_tale (And.intro @s_graph_Leads_r0_kT (And.intro @s_graph_Leads_r0_kA0 (And.intro @s_graph_Leads_r0_kA1 (And.intro @s_graph_Leads_r0_kA2 (And.intro @s_graph_Leads_r1p0_tale (And.intro @s_graph_Leads_r1_x (And.intro @s_graph_Leads_r1t1_x (And.intro @s_graph_Leads_r1t2_x (And.intro @s_graph_Leads_r1t3_x (And.intro @s_graph_Leads_r1t4_x (And.intro @s_graph_Leads_r1t5_tale (@s_graph_Leads_r1t5_x))))))))))))
def a_gnomonref07_Leads := And.intro @s_gnomonref07_Leads_r0_tale (And.intro @s_gnomonref07_Leads_r0_kT (And.intro @s_gnomonref07_Leads_r0_kA0 (And.intro @s_gnomonref07_Leads_r0_kA1 (And.intro @s_gnomonref07_Leads_r0_kA2 (And.intro @s_gnomonref07_Leads_r1p0_tale (And.intro @s_gnomonref07_Leads_r1_x (And.intro @s_gnomonref07_Leads_r1t1_x (And.intro @s_gnomonref07_Leads_r1t2_x (And.intro @s_gnomonref07_Leads_r1t3_x (And.intro @s_gnomonref07_Leads_r1t4_x (And.intro @s_gnomonref07_Leads_r1t5_tale (@s_gnomonref07_Leads_r1t5_x))))))))))))
def a_graph_Reach_1 := And.intro @s_graph_Reach_1_r0_tale (And.intro @s_graph_Reach_1_r0_kT (And.intro @s_graph_Reach_1_r0_kA0 (And.intro @s_graph_Reach_1_r0_kA1 (And.intro @s_graph_Reach_1_r0_kA2 (And.intro @s_graph_Reach_1_r0_kA3 (And.intro @s_graph_Reach_1_r1p0_tale (And.intro @s_graph_Reach_1_r1_x (And.intro @s_graph_Reach_1_r1t1_x (And.intro @s_graph_Reach_1_r2p0_tale (And.intro @s_graph_Reach_1_r2_x (And.intro @s_graph_Reach_1_r2t1_x (And.intro @s_graph_Reach_1_r2t2_x (@s_graph_Reach_1_r2t3_x)))))))))))))
def CS1 : Nat → Option CFun
  | 4 => some (.code s_gnomonlaw07_GraphWays)
  | 5 => some (.code s_gnomonlaw07_GraphBack)
  | 7 => some (.code s_gnomonlaw07_GraphTogether)
  | 17 => some (.code s_gnomonref07_Bools)
  | 18 => some (.code s_graph_Reach)
  | 19 => some (.code s_gnomonref07_Reach)
  | 20 => some (.code s_graph_Leads)
  | 21 => some (.code s_gnomonref07_Leads)
  | 32 => some (.code s_graph_Reach_1)
  | _ => none
theorem CS1_4 : compK Try.prog (fun _ => false) 4 = some (false, s_gnomonlaw07_GraphWays.ntmps, s_gnomonlaw07_GraphWays.results, s_gnomonlaw07_GraphWays.body.bare) := by kernel_rfl
theorem CS1_5 : compK Try.prog (fun _ => false) 5 = some (false, s_gnomonlaw07_GraphBack.ntmps, s_gnomonlaw07_GraphBack.results, s_gnomonlaw07_GraphBack.body.bare) := by kernel_rfl
theorem CS1_7 : compK Try.prog (fun _ => false) 7 = some (false, s_gnomonlaw07_GraphTogether.ntmps, s_gnomonlaw07_GraphTogether.results, s_gnomonlaw07_GraphTogether.body.bare) := by kernel_rfl
theorem CS1_17 : compK Try.prog (fun _ => false) 17 = some (false, s_gnomonref07_Bools.ntmps, s_gnomonref07_Bools.results, s_gnomonref07_Bools.body.bare) := by kernel_rfl
theorem CS1_18 : compK Try.prog (fun _ => false) 18 = some (false, s_graph_Reach.ntmps, s_graph_Reach.results, s_graph_Reach.body.bare) := by kernel_rfl
theorem CS1_19 : compK Try.prog (fun _ => false) 19 = some (false, s_gnomonref07_Reach.ntmps, s_gnomonref07_Reach.results, s_gnomonref07_Reach.body.bare) := by kernel_rfl
theorem CS1_20 : compK Try.prog (fun _ => false) 20 = some (false, s_graph_Leads.ntmps, s_graph_Leads.results, s_graph_Leads.body.bare) := by kernel_rfl
theorem CS1_21 : compK Try.prog (fun _ => false) 21 = some (false, s_gnomonref07_Leads.ntmps, s_gnomonref07_Leads.results, s_gnomonref07_Leads.body.bare) := by kernel_rfl
theorem CS1_32 : compK Try.prog (fun _ => false) 32 = some (false, s_graph_Reach_1.ntmps, s_graph_Reach_1.results, s_graph_Reach_1.body.bare) := by kernel_rfl
theorem CS1_ok : ∀ k c, CS1 k = some c → FunOk Try.prog (fun _ => false) k c := by
  intro k c h
  unfold CS1 at h
  split at h
  · cases h; exact funOk_of CS1_4
  · cases h; exact funOk_of CS1_5
  · cases h; exact funOk_of CS1_7
  · cases h; exact funOk_of CS1_17
  · cases h; exact funOk_of CS1_18
  · cases h; exact funOk_of CS1_19
  · cases h; exact funOk_of CS1_20
  · cases h; exact funOk_of CS1_21
  · cases h; exact funOk_of CS1_32
  · cases h

end Go.Proofs.Ytmnlagcmpgilaaa
/-
  Slices that are appended to and cut; lists of bools.
-/
namespace Go.AM
def bV (b : Bool) : V := .s (.bool b)
/-- 'append(v, x)' to a slice of the call's own -/
theorem OwnN.append {m base bytes : Nat} {H : Heap} {v x : V} {l : List V} (h : OwnN m H v l) (hb : base ≤ m) (hx : x.one = true) (hm : m ≤ H.length) (hs : (l.length + 1) * bytes ≤ 2 ^ 47) :
    ∃ v' H', appendV (H ++ [.cells 0 [x]]) base 1 bytes v (.sl H.length 0 0 1 1) = some (v', H') ∧ OwnN m H' v' (l ++ [x]) ∧ H.length ≤ H'.length ∧ (∀ i, i < m → H'[i]? = H[i]?) := by
  have hx' : [x].all V.one = true := by simp [hx]
  have hnew : 1 * bytes ≤ 2 ^ 47 := by
    refine Nat.le_trans (Nat.mul_le_mul_right _ ?_) hs
    omega
  have hfresh : OwnN m (H ++ [.cells 0 [x]] ++ [.cells 0 [x]]) (.sl (H.length + 1) 0 0 1 1) [x] := by
    refine .inr ⟨H.length + 1, 0, [x], rfl, ?_, Nat.le_refl _, rfl, by omega⟩
    have := getC_new (H ++ [Ob.cells 0 [x]]) 0 [x]
    simpa using this
  rcases h with ⟨rfl, rfl | rfl⟩ | ⟨id, g, c, rfl, hc, hl, ht, hid⟩
  · refine ⟨.sl (H.length + 1) 0 0 1 1, H ++ [.cells 0 [x]] ++ [.cells 0 [x]], ?_, hfresh, by simp, fun i hi => ?_⟩
    · simp only [appendV, elems_new, hx', if_true, nilS, Nat.one_ne_zero, if_false, hnew, List.length_append, List.length_cons, List.length_nil]
    · rw [List.getElem?_append_left (by simp; omega), List.getElem?_append_left (by omega)]
  · refine ⟨.sl (H.length + 1) 0 0 1 1, H ++ [.cells 0 [x]] ++ [.cells 0 [x]], ?_, hfresh, by simp, fun i hi => ?_⟩
    · simp only [appendV, elems_new, hx', if_true, Nat.one_ne_zero, if_false, hnew, List.length_append, List.length_cons, List.length_nil]
    · rw [List.getElem?_append_left (by simp; omega), List.getElem?_append_left (by omega)]
  · have hc' := getC_app hc (G := [Ob.cells 0 [x]])
    have hbi : base ≤ id := by omega
    have h2 : 0 + l.length ≤ c.length := by omega
    refine ⟨.sl id (g + 1) 0 (l.length + 1) 1, (H ++ [Ob.cells 0 [x]]).set id (.cells (g + 1) (l ++ [x])), ?_, .inr ⟨id, g + 1, l ++ [x], by simp, getC_set hc' _, Nat.le_refl _, List.take_length, hid⟩, by simp, fun i hi => ?_⟩
    · simp only [appendV, elems_new, hx', if_true, true_and, hbi, hc', h2, Nat.one_ne_zero, if_false, hs, List.drop_zero, Nat.mul_one, ht]
    · rw [List.getElem?_set_ne (by omega), List.getElem?_append_left (by omega)]
/-- 'v[:len(v)-1]' -/
theorem OwnN.pop {m : Nat} {H : Heap} {v : V} {l : List V} (h : OwnN m H v l) {k : Nat} (hk : k ≤ l.length) : ∃ w, xSlice 1 v none (some (.s (.int .i64 k))) = some w ∧ OwnN m H w (l.take k) := by
  rcases h with ⟨rfl, hv⟩ | ⟨id, g, c, rfl, hc, hl, ht, hid⟩
  · have hk0 : k = 0 := by simpa using hk
    subst hk0
    refine ⟨v, ?_, .inl ⟨rfl, hv⟩⟩
    rcases hv with rfl | rfl
    · simp only [xslice_nil, bndV_none, bndV_int, cutNil_some, cast0, and_self, if_true]
    · simp only [xslice_esl, bndV_none, bndV_int, cutNil_some, cast0, and_self, if_true]
  · have i4 : (0 : Int) ≤ (0 : Int) ∧ (0 : Int) ≤ k ∧ (k : Int) ≤ l.length ∧ 1 = 1 := ⟨by omega, by omega, by omega, rfl⟩
    have i5 : ((k : Int) - 0).toNat = k := by omega
    refine ⟨.sl id g 0 k 1, ?_, .inr ⟨id, g, c, by rw [List.length_take, Nat.min_eq_left hk], hc, by rw [List.length_take]; omega, ?_, hid⟩⟩
    · simp only [xslice_sl, bndV_none, bndV_int, cutSl_some, cast0, i4, i5, and_self, if_true, Int.toNat_zero, Nat.zero_mul, Nat.add_zero]
    · rw [List.length_take, Nat.min_eq_left hk, ← ht, List.take_take, Nat.min_eq_left hk]
end Go.AM
set_option maxRecDepth 100000
namespace Go.Proofs.Ytmnlagcmpgilaaa
open Go.AM
/-! ### graph.Reach -/
/-- where Reach stands: out, next -/
def RS (h : Nat) (v : V) (n : Nat) (H0 H : Heap) (B : List Bool) (S : List Int) : Prop :=
  H0.length = h ∧ Ext H0 H ∧ getC H h 0 = some [v] ∧ getC H (h + 1) 0 = some (B.map bV) ∧ getC H (h + 2) 0 = some [.sl (h + 1) 0 0 n 1] ∧ B.length = n ∧
  ∃ nv, getC H (h + 3) 0 = some [nv] ∧ OwnN (h + 4) H nv (S.map iV)
theorem RS.trim {h L n : Nat} {v : V} {H0 H : Heap} {B : List Bool} {S : List Int} (k : RS h v n H0 H B S) (hL : h + 4 ≤ L) (fr : List V) : RS h v n H0 (trim L fr H) B S := by
  obtain ⟨a1, a2, a3, a4, a5, a6, nv, a7, a8⟩ := k
  exact ⟨a1, a2.trim (by omega) _, trim_get a3 (by omega), trim_get a4 (by omega), trim_get a5 (by omega), a6, nv, trim_get a7 (by omega), a8.trim a7 (by omega) List.mem_cons_self _⟩
def enterZ (n : Nat) (k : Int) (s : List Bool × List Int) : List Bool × List Int :=
  bif decide (k ≥ 0) && decide (k < n) && !(s.1.getD k.toNat true) then (s.1.set k.toNat true, s.2 ++ [k]) else s
theorem getC_load {H : Heap} {id g : Nat} {w : V} (h : getC H id g = some [w]) : xLoad H false 1 (.ref id g 0) = some w := by
  simp only [xo_ref, h, List.drop_zero, List.take_succ_cons, List.take_zero, List.length_singleton, if_true, shut_one]
theorem res_nil (fr : List V) (H : Heap) : resultV [] fr H = some (.tup []) := by simp [resultV]
theorem enter_fun {CT : Nat → Option CFun} (hT : CT k_graph_Reach_1 = some (.code s_graph_Reach_1)) (base h n : Nat) (v : V) (H0 H : Heap) (B : List Bool) (S : List Int) (k : Int) (hb : base ≤ h) (hv : xLen H0 .s v = some (.s (.int .i64 n))) (hlen : ∀ H, xLen H .s v = xLen H0 .s v) (hn : n < 2 ^ 40) (hS : S.length < 2 ^ 40) (hs : RS h v n H0 H B S) :
    ∃ H', callW CT (.fn k_graph_Reach_1 [] [.ref h 0 0, .ref (h + 2) 0 0, .ref (h + 3) 0 0]) [.s (.int .i64 k)] base H = some (.tup [], H') ∧ RS h v n H0 H' (enterZ n k (B, S)).1 (enterZ n k (B, S)).2 := by
  obtain ⟨a1, a2, a3, a4, a5, a6, nv, a7, a8⟩ := hs
  have l3 := getC_lt a7
  by_cases h0 : k ≥ 0
  · by_cases hkn : k < (n : Int)
    · obtain ⟨j, rfl⟩ := Int.eq_ofNat_of_zero_le h0
      have hj : j < n := by omega
      have hBj : B[j]? = some (B.getD j true) := by rw [List.getD, List.getElem?_eq_getElem (by omega)]; rfl
      obtain ⟨b1, b2⟩ := at_sl (n := n) a4 hj (w := bV (B.getD j true)) (by rw [List.getElem?_map, hBj]; rfl)
      cases hb1 : B.getD j true with
      | true =>
        have he : enterZ n (j : Int) (B, S) = (B, S) := by simp only [enterZ, Int.toNat_natCast, hb1, Bool.not_true, Bool.and_false, cond_false]
        rw [he]
        rw [hb1] at b2
        simp only [bV] at b2
        refine ⟨H, callW_fn (c := s_graph_Reach_1) hT (by simp [s_graph_Reach_1]) ?_, a1, a2, a3, a4, a5, a6, nv, a7, a8⟩
        have h0' : (0 : Int) ≤ (j : Int) := h0
        simp only [s_graph_Reach_1, a_graph_Reach_1, am0,am1,am2,am3,am4,am5,am6,am7,bl,i64,reduceIte,reduceCtorEq,Nat.reduceEqDiff,Nat.reduceLT,Nat.reduceLeDiff,Nat.reduceBEq,Nat.reduceAdd,fillA,splice,Nat.reduceMul,al0,al1,al2,al3,al4,al5,al6,al7,al8,al9,al10,al11,al12,al13,al14,al15,al16,al17,al18,al19,al20,al21,al22,al23,al24,al25,al26,al27,al28,al29,al30,al31,al32,al33,al34, ge_iff_le, h0', getC_load a3, hlen, hv, hkn, getC_load a5, b1, b2, res_nil]
      | false =>
        have he : enterZ n (j : Int) (B, S) = (B.set j true, S ++ [(j : Int)]) := by simp only [enterZ, Int.toNat_natCast, hb1, h0, hkn, decide_true, Bool.not_false, Bool.and_true, cond_true]
        rw [he]
        rw [hb1] at b2
        simp only [bV] at b2
        have hst := storeV_at (v := bV true) (base := base) a4 (by omega) rfl (off := j) (by rw [List.length_map]; omega)
        have a8' : OwnN (h + 4) (H.set (h + 1) (.cells 0 ((B.map bV).set j (bV true)))) nv (S.map iV) := a8.set (by omega) _
        have a7' : getC (H.set (h + 1) (.cells 0 ((B.map bV).set j (bV true)))) (h + 3) 0 = some [nv] := by rw [getC_other (by omega)]; exact a7
        obtain ⟨nv', H2, c1, c2, c3, c4⟩ := a8'.append (x := iV j) (base := base) (bytes := 8) (by omega) rfl (by rw [List.length_set]; omega) (by rw [List.length_map]; omega)
        have l4 := getC_lt a4
        have d4 : getC H2 (h + 1) 0 = some ((B.map bV).set j (bV true)) := by
          have : getC (H.set (h + 1) (.cells 0 ((B.map bV).set j (bV true)))) (h + 1) 0 = some ((B.map bV).set j (bV true)) := getC_put a4
          simp only [getC] at this ⊢
          rw [c4 (h + 1) (by omega)]; exact this
        have low : ∀ i g c, i < h + 4 → i ≠ h + 1 → getC H i g = some c → getC H2 i g = some c := by
          intro i g c hi hne hg
          simp only [getC] at hg ⊢
          rw [c4 i hi, List.getElem?_set_ne (Ne.symm hne)]; exact hg
        have st2 := storeV_at (v := nv') (base := base) (low (h + 3) 0 _ (by omega) (by omega) a7) (by omega) c2.one (off := 0) (by simp)
        have hj0 : ¬ (j : Int) < 0 := by omega
        have h0' : (0 : Int) ≤ (j : Int) := h0
        refine ⟨H2.set (h + 3) (.cells 0 ([nv].set 0 nv')), callW_fn (c := s_graph_Reach_1) hT (by simp [s_graph_Reach_1]) ?_, a1, ?_, ?_, ?_, ?_, by rw [List.length_set]; exact a6, nv', ?_, ?_⟩
        · simp only [bV, iV, List.length_set] at hst c1 st2 a7'
          simp only [s_graph_Reach_1, a_graph_Reach_1, am0,am1,am2,am3,am4,am5,am6,am7,bl,i64,reduceIte,reduceCtorEq,Nat.reduceEqDiff,Nat.reduceLT,Nat.reduceLeDiff,Nat.reduceBEq,Nat.reduceAdd,fillA,splice,Nat.reduceMul,al0,al1,al2,al3,al4,al5,al6,al7,al8,al9,al10,al11,al12,al13,al14,al15,al16,al17,al18,al19,al20,al21,al22,al23,al24,al25,al26,al27,al28,al29,al30,al31,al32,al33,al34, ge_iff_le, h0', getC_load a3, hlen, hv, hkn, getC_load a5, b1, b2, hst, a7', c1, st2, res_nil, bV]
        · refine (Ext.of_get ?_ fun i hi => ?_ : Ext H0 H2).set (by omega) _
          · have := a2.le; rw [List.length_set] at c3; omega
          · rw [c4 i (by omega), List.getElem?_set_ne (by omega), a2.get hi]
        · rw [getC_other (by omega)]; exact low h 0 _ (by omega) (by omega) a3
        · rw [getC_other (by omega), d4, List.map_set]
        · rw [getC_other (by omega)]; exact low (h + 2) 0 _ (by omega) (by omega) a5
        · have := getC_put (c' := [nv].set 0 nv') (low (h + 3) 0 _ (by omega) (by omega) a7)
          simpa using this
        · have := c2.set (id := h + 3) (by omega) (.cells 0 ([nv].set 0 nv'))
          rwa [List.map_append]
    · have he : enterZ n k (B, S) = (B, S) := by simp only [enterZ, hkn, decide_false, Bool.and_false, Bool.false_and, cond_false]
      rw [he]
      refine ⟨H, callW_fn (c := s_graph_Reach_1) hT (by simp [s_graph_Reach_1]) ?_, a1, a2, a3, a4, a5, a6, nv, a7, a8⟩
      simp only [s_graph_Reach_1, a_graph_Reach_1, am0,am1,am2,am3,am4,am5,am6,am7,bl,i64,reduceIte,reduceCtorEq,Nat.reduceEqDiff,Nat.reduceLT,Nat.reduceLeDiff,Nat.reduceBEq,Nat.reduceAdd,fillA,splice,Nat.reduceMul,al0,al1,al2,al3,al4,al5,al6,al7,al8,al9,al10,al11,al12,al13,al14,al15,al16,al17,al18,al19,al20,al21,al22,al23,al24,al25,al26,al27,al28,al29,al30,al31,al32,al33,al34, ge_iff_le, ge_iff_le.1 h0, getC_load a3, hlen, hv, hkn, res_nil]
  · have he : enterZ n k (B, S) = (B, S) := by simp only [enterZ, h0, decide_false, Bool.false_and, cond_false]
    rw [he]
    have h0' : ¬ 0 ≤ k := h0
    refine ⟨H, callW_fn (c := s_graph_Reach_1) hT (by simp [s_graph_Reach_1]) ?_, a1, a2, a3, a4, a5, a6, nv, a7, a8⟩
    simp only [s_graph_Reach_1, a_graph_Reach_1, am0,am1,am2,am3,am4,am5,am6,am7,bl,i64,reduceIte,reduceCtorEq,Nat.reduceEqDiff,Nat.reduceLT,Nat.reduceLeDiff,Nat.reduceBEq,Nat.reduceAdd,fillA,splice,Nat.reduceMul,al0,al1,al2,al3,al4,al5,al6,al7,al8,al9,al10,al11,al12,al13,al14,al15,al16,al17,al18,al19,al20,al21,al22,al23,al24,al25,al26,al27,al28,al29,al30,al31,al32,al33,al34, ge_iff_le, h0', res_nil]
def cntF : List Bool → Nat
  | [] => 0
  | b :: l => (if b then 0 else 1) + cntF l
theorem cntF_set : ∀ (l : List Bool) (j : Nat), l[j]? = some false → cntF (l.set j true) + 1 = cntF l := by
  intro l
  induction l with
  | nil => intro j h; simp at h
  | cons b l ih =>
    intro j h
    cases j with
    | zero => simp at h; subst h; simp [cntF]; omega
    | succ j => have := ih j (by simpa using h); simp only [List.set_cons_succ, cntF]; omega
theorem enterZ_inv (n : Nat) (k : Int) (s : List Bool × List Int) (h : s.1.length = n) : (enterZ n k s).1.length = n ∧ (enterZ n k s).2.length + cntF (enterZ n k s).1 = s.2.length + cntF s.1 := by
  simp only [enterZ]
  cases hc : decide (k ≥ 0) && decide (k < (n : Int)) && !(s.1.getD k.toNat true) with
  | false => exact ⟨h, rfl⟩
  | true =>
    simp only [Bool.and_eq_true, decide_eq_true_eq, Bool.not_eq_true'] at hc
    have hj : k.toNat < s.1.length := by omega
    have hf : s.1[k.toNat]? = some false := by
      have := hc.2
      rw [List.getD, List.getElem?_eq_getElem hj] at this
      rw [List.getElem?_eq_getElem hj]; exact congrArg some this
    have := cntF_set s.1 k.toNat hf
    refine ⟨by simp [h], ?_⟩
    simp only [cond_true, List.length_append, List.length_singleton]
    omega
def clos (h : Nat) : V := .fn k_graph_Reach_1 [] [.ref h 0 0, .ref (h + 2) 0 0, .ref (h + 3) 0 0]
def enters (n : Nat) (l : List Int) (s : List Bool × List Int) : List Bool × List Int := l.foldl (fun s k => enterZ n k s) s
theorem enters_inv (n : Nat) : ∀ (l : List Int) (s : List Bool × List Int), s.1.length = n → (enters n l s).1.length = n ∧ (enters n l s).2.length + cntF (enters n l s).1 = s.2.length + cntF s.1 := by
  intro l
  induction l with
  | nil => intro s h; exact ⟨h, rfl⟩
  | cons k l ih =>
    intro s h
    obtain ⟨a, b⟩ := enterZ_inv n k s h
    obtain ⟨c, d⟩ := ih _ a
    exact ⟨c, by rw [← b]; exact d⟩
theorem reach_l0 {CT : Nat → Option CFun} (hT : CT k_graph_Reach_1 = some (.code s_graph_Reach_1)) (base h n L : Nat) (v fv : V) (H0 : Heap) (l : List Int) (hb : base ≤ h) (hL : h + 4 ≤ L) (hv : xLen H0 .s v = some (.s (.int .i64 n))) (hlen : ∀ H, xLen H .s v = xLen H0 .s v) (hn : n < 2 ^ 40) (hf : Rd H0 fv (l.map iV)) (hfw : Wide1 fv) (hl : l.length < 2 ^ 62) :
    ∀ (rest : List Int) (k : Nat) (H : Heap) (s : List Bool × List Int), l.drop k = rest → k ≤ l.length → RS h v n H0 H s.1 s.2 → s.2.length + cntF s.1 ≤ n →
    ∃ H', itW (evC (callW CT) itW base s_graph_Reach_l0) [] L (frOf 55 [(2, .ref h 0 0), (5, .ref (h + 2) 0 0), (6, .ref (h + 3) 0 0), (7, clos h), (17, fv), (18, .s (.int .i64 l.length)), (19, .s (.int .i64 k))]) H =
      some (.ext 0, frOf 55 [(2, .ref h 0 0), (5, .ref (h + 2) 0 0), (6, .ref (h + 3) 0 0), (7, clos h), (17, fv), (18, .s (.int .i64 l.length)), (19, .s (.int .i64 l.length)), (20, .s (.bool false))], H') ∧ RS h v n H0 H' (enters n rest s).1 (enters n rest s).2 := by
  intro rest
  induction rest with
  | nil =>
    intro k H s hd hk hs hc
    obtain rfl := drop_nil hd hk
    refine ⟨trim L (frOf 55 [(2, .ref h 0 0), (5, .ref (h + 2) 0 0), (6, .ref (h + 3) 0 0), (7, clos h), (17, fv), (18, .s (.int .i64 l.length)), (19, .s (.int .i64 l.length)), (20, .s (.bool false))]) H, ?_, hs.trim hL _⟩
    rw [itW_step]
    simp only [a_graph_Reach,s_graph_Reach_l0_b,s_graph_Reach_l1_b,s_graph_Reach_l2_b, am0,am1,am2,am3,am4,am5,am6,am7,bl,i64,reduceIte,reduceCtorEq,Nat.reduceEqDiff,Nat.reduceLT,Nat.reduceLeDiff,Nat.reduceBEq,Nat.reduceAdd,fillA,splice,Nat.reduceMul,al0,al1,al2,al3,al4,al5,al6,al7,al8,al9,al10,al11,al12,al13,al14,al15,al16,al17,al18,al19,al20,al21,al22,al23,al24,al25,al26,al27,al28,al29,al30,al31,al32,al33,al34, Int.lt_irrefl]
  | cons x rest ih =>
    intro k H s hd hk hs hc
    obtain ⟨hx, hlt, hd'⟩ := drop_cons hd
    obtain ⟨a, ha1, ha2⟩ := iV_at (hf.ext hs.2.1) hfw hx
    have hlt' : (k : Int) < (l.length : Int) := by omega
    have hwk := wrap_pos (n := k) (by omega)
    obtain ⟨H1, q1, q2⟩ := enter_fun hT base h n v H0 H s.1 s.2 x hb hv hlen hn (by omega) hs
    have q1' : callW CT (clos h) [.s (.int .i64 x)] base H = some (.tup [], H1) := q1
    obtain ⟨i1, i2⟩ := enterZ_inv n x s hs.2.2.2.2.2.1
    obtain ⟨H', p1, p2⟩ := ih (k + 1) (trim L (frOf 55 [(2, .ref h 0 0), (5, .ref (h + 2) 0 0), (6, .ref (h + 3) 0 0), (7, clos h), (17, fv), (18, .s (.int .i64 l.length)), (19, .s (.int .i64 ((k + 1 : Nat) : Int)))]) H1) (enterZ n x s) hd' (by omega) (q2.trim hL _) (by omega)
    refine ⟨H', ?_, p2⟩
    rw [itW_step]
    simp only [a_graph_Reach,s_graph_Reach_l0_b,s_graph_Reach_l1_b,s_graph_Reach_l2_b, am0,am1,am2,am3,am4,am5,am6,am7,bl,i64,reduceIte,reduceCtorEq,Nat.reduceEqDiff,Nat.reduceLT,Nat.reduceLeDiff,Nat.reduceBEq,Nat.reduceAdd,fillA,splice,Nat.reduceMul,al0,al1,al2,al3,al4,al5,al6,al7,al8,al9,al10,al11,al12,al13,al14,al15,al16,al17,al18,al19,al20,al21,al22,al23,al24,al25,al26,al27,al28,al29,al30,al31,al32,al33,al34, hlt', hwk, ha1, ha2, q1']
    exact p1
theorem reach_l1 {CT : Nat → Option CFun} (hT : CT k_graph_Reach_1 = some (.code s_graph_Reach_1)) (base h n L : Nat) (v fv : V) (H0 : Heap) (l : List Int) (hb : base ≤ h) (hL : h + 4 ≤ L) (hv : xLen H0 .s v = some (.s (.int .i64 n))) (hlen : ∀ H, xLen H .s v = xLen H0 .s v) (hn : n < 2 ^ 40) (hf : Rd H0 fv (l.map iV)) (hfw : Wide1 fv) (hl : l.length < 2 ^ 62) :
    ∀ (rest : List Int) (k : Nat) (H : Heap) (s : List Bool × List Int), l.drop k = rest → k ≤ l.length → RS h v n H0 H s.1 s.2 → s.2.length + cntF s.1 ≤ n →
    ∃ H', itW (evC (callW CT) itW base s_graph_Reach_l1) [] L (frOf 55 [(2, .ref h 0 0), (5, .ref (h + 2) 0 0), (6, .ref (h + 3) 0 0), (7, clos h), (44, fv), (45, .s (.int .i64 l.length)), (46, .s (.int .i64 k))]) H =
      some (.ext 4, frOf 55 [(2, .ref h 0 0), (5, .ref (h + 2) 0 0), (6, .ref (h + 3) 0 0), (7, clos h), (44, fv), (45, .s (.int .i64 l.length)), (46, .s (.int .i64 l.length)), (47, .s (.bool false))], H') ∧ RS h v n H0 H' (enters n rest s).1 (enters n rest s).2 := by
  intro rest
  induction rest with
  | nil =>
    intro k H s hd hk hs hc
    obtain rfl := drop_nil hd hk
    refine ⟨trim L (frOf 55 [(2, .ref h 0 0), (5, .ref (h + 2) 0 0), (6, .ref (h + 3) 0 0), (7, clos h), (44, fv), (45, .s (.int .i64 l.length)), (46, .s (.int .i64 l.length)), (47, .s (.bool false))]) H, ?_, hs.trim hL _⟩
    rw [itW_step]
    simp only [a_graph_Reach,s_graph_Reach_l0_b,s_graph_Reach_l1_b,s_graph_Reach_l2_b, am0,am1,am2,am3,am4,am5,am6,am7,bl,i64,reduceIte,reduceCtorEq,Nat.reduceEqDiff,Nat.reduceLT,Nat.reduceLeDiff,Nat.reduceBEq,Nat.reduceAdd,fillA,splice,Nat.reduceMul,al0,al1,al2,al3,al4,al5,al6,al7,al8,al9,al10,al11,al12,al13,al14,al15,al16,al17,al18,al19,al20,al21,al22,al23,al24,al25,al26,al27,al28,al29,al30,al31,al32,al33,al34, Int.lt_irrefl]
  | cons x rest ih =>
    intro k H s hd hk hs hc
    obtain ⟨hx, hlt, hd'⟩ := drop_cons hd
    obtain ⟨a, ha1, ha2⟩ := iV_at (hf.ext hs.2.1) hfw hx
    have hlt' : (k : Int) < (l.length : Int) := by omega
    have hwk := wrap_pos (n := k) (by omega)
    obtain ⟨H1, q1, q2⟩ := enter_fun hT base h n v H0 H s.1 s.2 x hb hv hlen hn (by omega) hs
    have q1' : callW CT (clos h) [.s (.int .i64 x)] base H = some (.tup [], H1) := q1
    obtain ⟨i1, i2⟩ := enterZ_inv n x s hs.2.2.2.2.2.1
    obtain ⟨H', p1, p2⟩ := ih (k + 1) (trim L (frOf 55 [(2, .ref h 0 0), (5, .ref (h + 2) 0 0), (6, .ref (h + 3) 0 0), (7, clos h), (44, fv), (45, .s (.int .i64 l.length)), (46, .s (.int .i64 ((k + 1 : Nat) : Int)))]) H1) (enterZ n x s) hd' (by omega) (q2.trim hL _) (by omega)
    refine ⟨H', ?_, p2⟩
    rw [itW_step]
    simp only [a_graph_Reach,s_graph_Reach_l0_b,s_graph_Reach_l1_b,s_graph_Reach_l2_b, am0,am1,am2,am3,am4,am5,am6,am7,bl,i64,reduceIte,reduceCtorEq,Nat.reduceEqDiff,Nat.reduceLT,Nat.reduceLeDiff,Nat.reduceBEq,Nat.reduceAdd,fillA,splice,Nat.reduceMul,al0,al1,al2,al3,al4,al5,al6,al7,al8,al9,al10,al11,al12,al13,al14,al15,al16,al17,al18,al19,al20,al21,al22,al23,al24,al25,al26,al27,al28,al29,al30,al31,al32,al33,al34, hlt', hwk, ha1, ha2, q1']
    exact p1
end Go.Proofs.Ytmnlagcmpgilaaa
set_option maxRecDepth 100000
namespace Go.Proofs.Ytmnlagcmpgilaaa
open Go.AM
theorem enters_cnt (n : Nat) : ∀ (l : List Int) (s : List Bool × List Int), s.1.length = n → cntF (enters n l s).1 ≤ cntF s.1 := by
  intro l
  induction l with
  | nil => intro s _; exact Nat.le_refl _
  | cons k l ih =>
    intro s h
    obtain ⟨a, b⟩ := enterZ_inv n k s h
    have h2 := ih _ a
    have h3 : cntF (enterZ n k s).1 ≤ cntF s.1 := by
      have : s.2.length ≤ (enterZ n k s).2.length := by
        simp only [enterZ]
        cases decide (k ≥ 0) && decide (k < (n : Int)) && !(s.1.getD k.toNat true) <;> simp
      omega
    exact Nat.le_trans h2 h3
theorem reach_l2 {CT : Nat → Option CFun} (hT : CT k_graph_Reach_1 = some (.code s_graph_Reach_1)) (base h L : Nat) (v : V) (H0 : Heap) (G : List (List Int)) (hb : base ≤ h) (hL : h + 4 ≤ L) (hv : RdRows H0 v (rowsV G)) (hlen : ∀ H, xLen H .s v = xLen H0 .s v) (hn : G.length < 2 ^ 40) (hr : ∀ r ∈ G, r.length < 2 ^ 62)
    (P : List Bool × List Int → Prop) (hP : ∀ (B : List Bool) (S : List Int) (i : Int), P (B, S ++ [i]) → (0 ≤ i ∧ i < G.length) ∧ P (enters G.length (G.getD i.toNat []) (B, S))) :
    ∀ (m : Nat) (H : Heap) (s : List Bool × List Int), 2 * cntF s.1 + s.2.length ≤ m → RS h v G.length H0 H s.1 s.2 → s.2.length + cntF s.1 ≤ G.length → P s →
    ∃ H' B', itW (evC (callW CT) itW base s_graph_Reach_l2) [17, 18, 19, 20, 44, 45, 46, 47] L (frOf 55 [(2, .ref h 0 0), (5, .ref (h + 2) 0 0), (6, .ref (h + 3) 0 0), (7, clos h)]) H =
      some (.ext 2, frOf 55 [(2, .ref h 0 0), (5, .ref (h + 2) 0 0), (6, .ref (h + 3) 0 0), (7, clos h), (29, .s (.bool false))], H') ∧ RS h v G.length H0 H' B' [] ∧ P (B', []) := by
  have stop : ∀ (H : Heap) (B : List Bool), RS h v G.length H0 H B [] → P (B, []) → ∃ H' B', itW (evC (callW CT) itW base s_graph_Reach_l2) [17, 18, 19, 20, 44, 45, 46, 47] L (frOf 55 [(2, .ref h 0 0), (5, .ref (h + 2) 0 0), (6, .ref (h + 3) 0 0), (7, clos h)]) H = some (.ext 2, (frOf 55 [(2, .ref h 0 0), (5, .ref (h + 2) 0 0), (6, .ref (h + 3) 0 0), (7, clos h), (29, .s (.bool false))]), H') ∧ RS h v G.length H0 H' B' [] ∧ P (B', []) := by
    intro H B hs hp
    obtain ⟨a1, a2, a3, a4, a5, a6, nv, a7, a8⟩ := hs
    have hnl := iV_len a8.rd
    rw [List.length_nil, cast0] at hnl
    refine ⟨trim L (frOf 55 [(2, .ref h 0 0), (5, .ref (h + 2) 0 0), (6, .ref (h + 3) 0 0), (7, clos h), (29, .s (.bool false))]) H, B, ?_, RS.trim ⟨a1, a2, a3, a4, a5, a6, nv, a7, a8⟩ hL _, hp⟩
    rw [itW_step]
    simp only [a_graph_Reach,s_graph_Reach_l0_b,s_graph_Reach_l1_b,s_graph_Reach_l2_b, am0,am1,am2,am3,am4,am5,am6,am7,bl,i64,reduceIte,reduceCtorEq,Nat.reduceEqDiff,Nat.reduceLT,Nat.reduceLeDiff,Nat.reduceBEq,Nat.reduceAdd,fillA,splice,Nat.reduceMul,al0,al1,al2,al3,al4,al5,al6,al7,al8,al9,al10,al11,al12,al13,al14,al15,al16,al17,al18,al19,al20,al21,al22,al23,al24,al25,al26,al27,al28,al29,al30,al31,al32,al33,al34, getC_load a7, hnl, gt_iff_lt, Int.lt_irrefl]
  intro m
  induction m with
  | zero =>
    intro H s hm hs hc hp
    obtain ⟨B, S⟩ := s
    have : S = [] := List.eq_nil_of_length_eq_zero (by simp only at hm; omega)
    subst this
    exact stop H B hs hp
  | succ m ih =>
    intro H s hm hs hc hp
    obtain ⟨B, S0⟩ := s
    rcases List.eq_nil_or_concat S0 with rfl | ⟨S, i, rfl⟩
    · exact stop H B hs hp
    · rw [List.concat_eq_append] at *
      obtain ⟨⟨hi0, hin⟩, hp'⟩ := hP B S i hp
      obtain ⟨j, rfl⟩ := Int.eq_ofNat_of_zero_le hi0
      obtain ⟨a1, a2, a3, a4, a5, a6, nv, a7, a8⟩ := hs
      simp only at a4 a6 a8 hm hc
      have hnl := iV_len a8.rd
      rw [List.length_append, List.length_singleton] at hnl hm hc
      have hj : j < G.length := by omega
      obtain ⟨r, hG⟩ : ∃ r, G[j]? = some r := ⟨G[j], List.getElem?_eq_getElem hj⟩
      have hGD : G.getD j [] = r := by rw [List.getD, hG]; rfl
      obtain ⟨a, ha1, ha2⟩ := iV_at a8.rd a8.wide (k := S.length) (x := (j : Int)) (by simp)
      obtain ⟨w, w1, w2⟩ := a8.pop (k := S.length) (by simp)
      have hst := storeV_at (v := w) (base := base) a7 (by omega) w2.one (off := 0) (by simp)
      have hwp : IntKind.i64.wrap (((S.length + 1 : Nat) : Int) - 1) = (S.length : Nat) := by rw [IntKind.wrap_i64]; omega
      have hpos : (0 : Int) < ((S.length + 1 : Nat) : Int) := by omega
      have a7' := getC_put (c' := [w]) a7
      have hs1 : RS h v G.length H0 (H.set (h + 3) (.cells 0 [w])) B S := by
        refine ⟨a1, a2.set (by omega) _, by rw [getC_other (by omega)]; exact a3, by rw [getC_other (by omega)]; exact a4, by rw [getC_other (by omega)]; exact a5, a6, w, a7', ?_⟩
        have := w2.set (id := h + 3) (by omega) (.cells 0 [w])
        rwa [← List.map_take, List.take_left'] at this
        rfl
      obtain ⟨vs, hv1, hv2, hv3, hv4⟩ := id hv
      obtain ⟨xv, hx1, hx0, hx4⟩ := hv4 j _ (rowsV_get hG)
      obtain ⟨b, hb1, hb2⟩ := (hv1.ext hs1.2.1).at' hv2 hx1
      have hx3 := hx0.ext hs1.2.1
      have hrl := hr r (List.mem_of_getElem? hG)
      obtain ⟨H1, p1, p2⟩ := reach_l1 hT base h G.length H.length v xv H0 r hb (by have := getC_lt a7; omega) (rows_len hv) hlen hn hx0 hx4 hrl r 0 _ (B, S) rfl (Nat.zero_le _) hs1 (by simp only; omega)
      rw [cast0] at p1
      rw [Int.toNat_natCast, hGD] at hp'
      obtain ⟨i1, i2⟩ := enters_inv G.length r (B, S) a6
      simp only at i2
      obtain ⟨H', B', q1, q2, q3⟩ := ih (trim L (frOf 55 [(2, .ref h 0 0), (5, .ref (h + 2) 0 0), (6, .ref (h + 3) 0 0), (7, clos h)]) H1) (enters G.length r (B, S)) (by have := enters_cnt G.length r (B, S) a6; simp only at this; omega) (p2.trim hL _) (by omega) hp'
      refine ⟨H', B', ?_, q2, q3⟩
      rw [itW_step]
      have a3' := hs1.2.2.1
      simp only [a_graph_Reach,s_graph_Reach_l0_b,s_graph_Reach_l1_b,s_graph_Reach_l2_b, am0,am1,am2,am3,am4,am5,am6,am7,bl,i64,reduceIte,reduceCtorEq,Nat.reduceEqDiff,Nat.reduceLT,Nat.reduceLeDiff,Nat.reduceBEq,Nat.reduceAdd,fillA,splice,Nat.reduceMul,al0,al1,al2,al3,al4,al5,al6,al7,al8,al9,al10,al11,al12,al13,al14,al15,al16,al17,al18,al19,al20,al21,al22,al23,al24,al25,al26,al27,al28,al29,al30,al31,al32,al33,al34, getC_load a7, hnl, gt_iff_lt, hpos, hwp, ha1, ha2, w1, hst, a3', hb1, hb2, iV_len hx3, p1]
      exact q1
end Go.Proofs.Ytmnlagcmpgilaaa
set_option maxRecDepth 100000
namespace Go.Proofs.Ytmnlagcmpgilaaa
open Go.AM
theorem reach_run {CT : Nat → Option CFun} (hR : CT k_graph_Reach = some (.code s_graph_Reach)) (hT : CT k_graph_Reach_1 = some (.code s_graph_Reach_1)) (base : Nat) (H : Heap) (v fv : V) (G : List (List Int)) (l : List Int) (hb : base ≤ H.length) (hv : RdRows H v (rowsV G)) (hf : Rd H fv (l.map iV)) (hfw : Wide1 fv) (hl : l.length < 2 ^ 62) (hn : G.length < 2 ^ 40) (hr : ∀ r ∈ G, r.length < 2 ^ 62)
    (P : List Bool × List Int → Prop) (hP : ∀ (B : List Bool) (S : List Int) (i : Int), P (B, S ++ [i]) → (0 ≤ i ∧ i < G.length) ∧ P (enters G.length (G.getD i.toNat []) (B, S))) (h0 : P (enters G.length l (List.replicate G.length false, []))) :
    ∃ v' H' B, callW CT (.fn k_graph_Reach [] []) [v, fv] base H = some (v', H') ∧ Ext H H' ∧ Rd H' v' (B.map bV) ∧ Wide1 v' ∧ B.length = G.length ∧ P (B, []) := by
  have hone : v.one = true := by obtain ⟨vs, h, _⟩ := hv; exact h.one
  have hlen : ∀ H', xLen H' .s v = xLen H .s v := by
    intro H'
    obtain ⟨vs, h, _⟩ := hv
    rcases h.cases with ⟨_, rfl | rfl⟩ | ⟨es, rfl, _⟩ | ⟨id, g, off, n, c, rfl, _⟩ <;> rfl
  have hvl := rows_len hv
  have hfl : ∀ H', xLen H' .s fv = some (.s (.int .i64 l.length)) := by
    intro H'
    rw [← iV_len hf]
    rcases hf.cases with ⟨_, rfl | rfl⟩ | ⟨es, rfl, _⟩ | ⟨id, g, off, n, c, rfl, _⟩ <;> rfl
  have hb2 : base ≤ H.length + 2 := by omega
  have hmk := make_n (H := H ++ [.cells 0 [v]]) (zero := [.s (.bool false)]) (sz := 1) (bytes := 1) (k := .i64) (k' := .i64) (n := G.length) (by omega)
  rw [flat_one] at hmk
  let H4 : Heap := H ++ [.cells 0 [v]] ++ [.cells 0 (List.replicate G.length (.s (.bool false)))] ++ [.cells 0 [.sl (H.length + 1) 0 0 G.length 1]] ++ [.cells 0 [nilS]]
  have hrs : RS H.length v G.length H H4 (List.replicate G.length false) [] := by
    refine ⟨rfl, ⟨[.cells 0 [v], .cells 0 (List.replicate G.length (.s (.bool false))), .cells 0 [.sl (H.length + 1) 0 0 G.length 1], .cells 0 [nilS]], by simp [H4]⟩, by simp [H4, getC], by simp [H4, getC, bV], by simp [H4, getC], by simp, nilS, by simp [H4, getC], .inl ⟨rfl, .inl rfl⟩⟩
  have hcnt : ∀ n, cntF (List.replicate n false) = n := by
    intro n
    induction n with
    | zero => rfl
    | succ n ih => simp only [List.replicate_succ, cntF, ih]; simp; omega
  obtain ⟨H5, p1, p2⟩ := reach_l0 hT base H.length G.length (H.length + 4) v fv H l hb (Nat.le_refl _) hvl hlen hn hf hfw hl l 0 H4 (List.replicate G.length false, []) rfl (Nat.zero_le _) hrs (by simp [hcnt])
  rw [cast0] at p1
  obtain ⟨i1, i2⟩ := enters_inv G.length l (List.replicate G.length false, []) (by simp)
  simp only [hcnt, List.length_nil, Nat.zero_add] at i2
  obtain ⟨H6, B, q1, q2, q3⟩ := reach_l2 hT base H.length H5.length v H G hb (by have := getC_lt p2.2.2.2.2.2.2.choose_spec.1; omega) hv hlen hn hr P hP _ H5 _ (Nat.le_refl _) p2 (by omega) h0
  obtain ⟨a1, a2, a3, a4, a5, a6, nv, a7, a8⟩ := q2
  refine ⟨.sl (H.length + 1) 0 0 G.length 1, H6, B, callW_fnA (c := s_graph_Reach) (k := 2) hR rfl (by decide) s_graph_Reach_first ?_, a2, ?_, trivial, a6, q3⟩
  · simp only [clos] at p1 q1
    simp only [H4, nilS] at p1
    simp only [s_graph_Reach, a_graph_Reach,s_graph_Reach_l0_b,s_graph_Reach_l1_b,s_graph_Reach_l2_b, am0,am1,am2,am3,am4,am5,am6,am7,bl,i64,reduceIte,reduceCtorEq,Nat.reduceEqDiff,Nat.reduceLT,Nat.reduceLeDiff,Nat.reduceBEq,Nat.reduceAdd,fillA,splice,Nat.reduceMul,al0,al1,al2,al3,al4,al5,al6,al7,al8,al9,al10,al11,al12,al13,al14,al15,al16,al17,al18,al19,al20,al21,al22,al23,al24,al25,al26,al27,al28,al29,al30,al31,al32,al33,al34, cells_of_one hone, hone, hlen, hvl, op_mkSl, hmk, hb2, hfl, xsub_mkFn, p1, q1, getC_load a5]
  · have := getC_sl a4
    rwa [List.length_map, a6] at this
end Go.Proofs.Ytmnlagcmpgilaaa
set_option maxRecDepth 100000
namespace Go.Proofs.Ytmnlagcmpgilaaa
open Go.AM
/-- a node to which a way leads -/
inductive Rch (G : List (List Int)) (l : List Int) : Nat → Prop
  | base (k : Nat) : (k : Int) ∈ l → k < G.length → Rch G l k
  | step (i k : Nat) : Rch G l i → (k : Int) ∈ G.getD i [] → k < G.length → Rch G l k
/-- what entering does -/
structure Ent (n : Nat) (r : List Int) (s t : List Bool × List Int) : Prop where
  len : t.1.length = n
  mono : ∀ k : Nat, s.1[k]? = some true → t.1[k]? = some true
  only : ∀ k : Nat, t.1[k]? = some true → s.1[k]? = some true ∨ ((k : Int) ∈ r ∧ k < n ∧ (k : Int) ∈ t.2)
  all : ∀ k : Nat, (k : Int) ∈ r → k < n → t.1[k]? = some true
  sub : ∀ x, x ∈ s.2 → x ∈ t.2
  new : ∀ x, x ∈ t.2 → x ∈ s.2 ∨ ∃ k : Nat, x = k ∧ k < n ∧ t.1[k]? = some true
theorem enterZ_ent (n : Nat) (x : Int) (s : List Bool × List Int) (h : s.1.length = n) : Ent n [x] s (enterZ n x s) := by
  obtain ⟨l1, _⟩ := enterZ_inv n x s h
  simp only [enterZ] at l1 ⊢
  cases hc : decide (x ≥ 0) && decide (x < (n : Int)) && !(s.1.getD x.toNat true) with
  | false =>
    simp only [cond_false]
    refine ⟨h, fun _ h => h, fun _ h => .inl h, fun k hk hkn => ?_, fun _ h => h, fun _ h => .inl h⟩
    have : x = (k : Int) := (List.mem_singleton.1 hk).symm
    subst this
    have h1 : decide ((k : Int) ≥ 0) = true := by rw [decide_eq_true_eq]; omega
    have h2 : decide ((k : Int) < (n : Int)) = true := by rw [decide_eq_true_eq]; omega
    rw [h1, h2, Bool.true_and, Bool.true_and, Bool.not_eq_false', Int.toNat_natCast, List.getD, List.getElem?_eq_getElem (by omega)] at hc
    rw [List.getElem?_eq_getElem (by omega)]
    exact congrArg some hc
  | true =>
    rw [hc] at l1
    simp only [cond_true] at l1 ⊢
    simp only [Bool.and_eq_true, decide_eq_true_eq, Bool.not_eq_true'] at hc
    obtain ⟨j, rfl⟩ := Int.eq_ofNat_of_zero_le hc.1.1
    have hj : j < n := by omega
    simp only [Int.toNat_natCast] at l1 ⊢
    have hset : (s.1.set j true)[j]? = some true := by rw [List.getElem?_set_self (by omega)]
    refine ⟨l1, fun k hk => ?_, fun k hk => ?_, fun k hk _ => ?_, fun y hy => List.mem_append_left _ hy, fun y hy => ?_⟩
    · by_cases e : j = k
      · subst e; exact hset
      · rw [List.getElem?_set_ne e]; exact hk
    · by_cases e : j = k
      · subst e; exact .inr ⟨List.mem_singleton.2 rfl, hj, List.mem_append_right _ (List.mem_singleton.2 rfl)⟩
      · rw [List.getElem?_set_ne e] at hk; exact .inl hk
    · have : k = j := by have := List.mem_singleton.1 hk; omega
      subst this; exact hset
    · rcases List.mem_append.1 hy with hy | hy
      · exact .inl hy
      · exact .inr ⟨j, List.mem_singleton.1 hy, hj, hset⟩
theorem enters_ent (n : Nat) : ∀ (r : List Int) (s : List Bool × List Int), s.1.length = n → Ent n r s (enters n r s) := by
  intro r
  induction r with
  | nil => intro s h; exact ⟨h, fun _ h => h, fun _ h => .inl h, fun _ h => absurd h List.not_mem_nil, fun _ h => h, fun _ h => .inl h⟩
  | cons x r ih =>
    intro s h
    have a := enterZ_ent n x s h
    have b := ih (enterZ n x s) a.len
    refine ⟨b.len, fun k hk => b.mono k (a.mono k hk), fun k hk => ?_, fun k hk hkn => ?_, fun y hy => b.sub y (a.sub y hy), fun y hy => ?_⟩
    · rcases b.only k hk with q | ⟨q1, q2, q3⟩
      · rcases a.only k q with q | ⟨q1, q2, q3⟩
        · exact .inl q
        · exact .inr ⟨List.mem_cons.2 (.inl (List.mem_singleton.1 q1)), q2, b.sub _ q3⟩
      · exact .inr ⟨List.mem_cons_of_mem _ q1, q2, q3⟩
    · rcases List.mem_cons.1 hk with e | e
      · exact b.mono k (a.all k (List.mem_singleton.2 e) hkn)
      · exact b.all k e hkn
    · rcases b.new y hy with q | q
      · rcases a.new y q with q | ⟨k, q1, q2, q3⟩
        · exact .inl q
        · exact .inr ⟨k, q1, q2, b.mono k q3⟩
      · exact .inr q
end Go.Proofs.Ytmnlagcmpgilaaa
set_option maxRecDepth 100000
namespace Go.Proofs.Ytmnlagcmpgilaaa
open Go.AM
/-- what holds between the rounds -/
structure Inv (G : List (List Int)) (l : List Int) (s : List Bool × List Int) : Prop where
  len : s.1.length = G.length
  stk : ∀ x, x ∈ s.2 → ∃ k : Nat, x = k ∧ k < G.length ∧ s.1[k]? = some true
  snd : ∀ k : Nat, s.1[k]? = some true → Rch G l k
  bas : ∀ k : Nat, (k : Int) ∈ l → k < G.length → s.1[k]? = some true
  cls : ∀ i k : Nat, s.1[i]? = some true → (i : Int) ∉ s.2 → (k : Int) ∈ G.getD i [] → k < G.length → s.1[k]? = some true
theorem inv_start (G : List (List Int)) (l : List Int) : Inv G l (enters G.length l (List.replicate G.length false, [])) := by
  have e := enters_ent G.length l (List.replicate G.length false, []) (by simp)
  have no : ∀ k : Nat, (List.replicate G.length false)[k]? ≠ some true := by
    intro k hk
    rw [List.getElem?_replicate] at hk
    split at hk <;> cases hk
  refine ⟨e.len, fun x hx => ?_, fun k hk => ?_, e.all, fun i k hi hn _ _ => ?_⟩
  · rcases e.new x hx with h | h
    · exact absurd h List.not_mem_nil
    · exact h
  · rcases e.only k hk with h | ⟨h1, h2, _⟩
    · exact absurd h (no k)
    · exact .base k h1 h2
  · rcases e.only i hi with h | ⟨_, _, h3⟩
    · exact absurd h (no i)
    · exact absurd h3 hn
theorem inv_round (G : List (List Int)) (l : List Int) (B : List Bool) (S : List Int) (x : Int) (h : Inv G l (B, S ++ [x])) : (0 ≤ x ∧ x < G.length) ∧ Inv G l (enters G.length (G.getD x.toNat []) (B, S)) := by
  obtain ⟨j, rfl, hj, hBj⟩ := h.stk x (List.mem_append_right _ (List.mem_singleton.2 rfl))
  refine ⟨⟨by omega, by omega⟩, ?_⟩
  rw [Int.toNat_natCast]
  have e := enters_ent G.length (G.getD j []) (B, S) h.len
  refine ⟨e.len, fun y hy => ?_, fun k hk => ?_, fun k hk hkn => e.mono k (h.bas k hk hkn), fun i k hi hn hk hkn => ?_⟩
  · rcases e.new y hy with q | q
    · obtain ⟨k, q1, q2, q3⟩ := h.stk y (List.mem_append_left _ q)
      exact ⟨k, q1, q2, e.mono k q3⟩
    · exact q
  · rcases e.only k hk with q | ⟨q1, q2, _⟩
    · exact h.snd k q
    · exact .step j k (h.snd j hBj) q1 q2
  · by_cases hij : i = j
    · subst hij; exact e.all k hk hkn
    · rcases e.only i hi with q | ⟨_, _, q3⟩
      · refine e.mono k (h.cls i k q (fun hm => ?_) hk hkn)
        rcases List.mem_append.1 hm with hm | hm
        · exact hn (e.sub _ hm)
        · have := List.mem_singleton.1 hm; omega
      · exact absurd q3 hn
theorem inv_end {G : List (List Int)} {l : List Int} {B : List Bool} (h : Inv G l (B, [])) (k : Nat) : B[k]? = some true ↔ Rch G l k := by
  refine ⟨h.snd k, fun hr => ?_⟩
  induction hr with
  | base k h1 h2 => exact h.bas k h1 h2
  | step i k _ h1 h2 ih => exact h.cls i k ih List.not_mem_nil h1 h2
theorem reach_f {CT : Nat → Option CFun} (hR : CT k_graph_Reach = some (.code s_graph_Reach)) (hT : CT k_graph_Reach_1 = some (.code s_graph_Reach_1)) (base : Nat) (H : Heap) (v fv : V) (G : List (List Int)) (l : List Int) (hb : base ≤ H.length) (hv : RdRows H v (rowsV G)) (hf : Rd H fv (l.map iV)) (hfw : Wide1 fv) (hl : l.length < 2 ^ 62) (hn : G.length < 2 ^ 40) (hr : ∀ r ∈ G, r.length < 2 ^ 62) :
    ∃ (v' : V) (H' : Heap) (B : List Bool), callW CT (.fn k_graph_Reach [] []) [v, fv] base H = some (v', H') ∧ Ext H H' ∧ Rd H' v' (B.map bV) ∧ Wide1 v' ∧ B.length = G.length ∧ ∀ k : Nat, B[k]? = some true ↔ Rch G l k := by
  obtain ⟨v', H', B, h1, h2, h3, h4, h5, h6⟩ := reach_run hR hT base H v fv G l hb hv hf hfw hl hn hr (Inv G l) (inv_round G l) (inv_start G l)
  exact ⟨v', H', B, h1, h2, h3, h4, h5, inv_end h6⟩
end Go.Proofs.Ytmnlagcmpgilaaa
set_option maxRecDepth 100000
namespace Go.Proofs.Ytmnlagcmpgilaaa
open Go.AM
theorem rch_mono {G : List (List Int)} {a b : List Int} (h : ∀ x, x ∈ a → x ∈ b) {k : Nat} (hk : Rch G a k) : Rch G b k := by
  induction hk with
  | base k h1 h2 => exact .base k (h _ h1) h2
  | step i k _ h1 h2 ih => exact .step i k ih h1 h2
theorem rch_app (G : List (List Int)) (a b : List Int) (k : Nat) : Rch G (a ++ b) k ↔ Rch G a k ∨ Rch G b k := by
  constructor
  · intro h
    induction h with
    | base k h1 h2 =>
      rcases List.mem_append.1 h1 with h | h
      · exact .inl (.base k h h2)
      · exact .inr (.base k h h2)
    | step i k _ h1 h2 ih =>
      rcases ih with ih | ih
      · exact .inl (.step i k ih h1 h2)
      · exact .inr (.step i k ih h1 h2)
  · rintro (h | h)
    · exact rch_mono (fun x hx => List.mem_append_left _ hx) h
    · exact rch_mono (fun x hx => List.mem_append_right _ hx) h
theorem rch_lt {G : List (List Int)} {a : List Int} {k : Nat} (h : Rch G a k) : k < G.length := by cases h <;> assumption
/-- who is reached from what is reached is reached -/
theorem rch_again (G : List (List Int)) (a all : List Int) (h : ∀ x, x ∈ all ↔ ∃ k : Nat, x = k ∧ Rch G a k) (k : Nat) : Rch G all k ↔ Rch G a k := by
  constructor
  · intro hk
    induction hk with
    | base k h1 h2 =>
      obtain ⟨j, e, hj⟩ := (h _).1 h1
      have : k = j := by omega
      subst this; exact hj
    | step i k _ h1 h2 ih => exact .step i k ih h1 h2
  · intro hk
    exact .base k ((h _).2 ⟨k, rfl, hk⟩) (rch_lt hk)
def allTo (X : List Bool) : Nat → List Int
  | 0 => []
  | i + 1 => bif X.getD i false then allTo X i ++ [(i : Int)] else allTo X i
theorem bV_at {H : Heap} {v : V} {B : List Bool} (h : Rd H v (B.map bV)) (hw : Wide1 v) {k : Nat} (hk : k < B.length) : ∃ a, xIndexAddr 1 v (.s (.int .i64 k)) = some a ∧ xLoad H false 1 a = some (.s (.bool (B.getD k false))) := by
  refine h.at' hw ?_
  rw [List.getElem?_map, List.getElem?_eq_getElem hk, List.getD, List.getElem?_eq_getElem hk]
  rfl
theorem allTo_len (X : List Bool) : ∀ i, (allTo X i).length ≤ i := by
  intro i
  induction i with
  | zero => exact Nat.le_refl _
  | succ i ih => simp only [allTo]; cases X.getD i false <;> simp <;> omega
theorem tog_l0 (call : CallF) (base : Nat) (H0 : Heap) (g x y u : V) (n : Nat) (X Y U : List Bool) (hb : base ≤ H0.length) (hg : ∀ H, xLen H .s g = some (.s (.int .i64 n))) (hx : Rd H0 x (X.map bV)) (hxw : Wide1 x) (hy : Rd H0 y (Y.map bV)) (hyw : Wide1 y) (hu : Rd H0 u (U.map bV)) (huw : Wide1 u) (hX : X.length = n) (hY : Y.length = n) (hU : U.length = n) (hn : n < 2 ^ 40) (he : ∀ k, k < n → U.getD k false = (X.getD k false || Y.getD k false)) :
    ∀ (d i : Nat) (H : Heap) (acc : V), i + d = n → Acc H0 H acc ((allTo X i).map iV) →
    ∃ acc' H', itW (evC call itW base s_gnomonlaw07_GraphTogether_l0) [] H0.length (frOf 111 [(0, g), (7, x), (8, y), (9, u), (10, acc), (11, .s (.int .i64 i))]) H =
      some (.ext 0, frOf 111 [(0, g), (7, x), (8, y), (9, u), (10, acc'), (11, .s (.int .i64 n)), (66, .s (.bool false))], H') ∧ Acc H0 H' acc' ((allTo X n).map iV) := by
  intro d
  induction d with
  | zero =>
    intro i H acc hi ha
    obtain rfl : i = n := by omega
    refine ⟨acc, trim H0.length (frOf 111 [(0, g), (7, x), (8, y), (9, u), (10, acc), (11, .s (.int .i64 i)), (66, .s (.bool false))]) H, ?_, ha.trim (Nat.le_refl _) (frOf_mem (s := 10) (by omega) rfl)⟩
    rw [itW_step]
    simp only [a_gnomonlaw07_GraphTogether,s_gnomonlaw07_GraphTogether_l0_b,s_gnomonlaw07_GraphTogether_l1_b, am0,am1,am2,am3,am4,am5,am6,am7,bl,i64,reduceIte,reduceCtorEq,Nat.reduceEqDiff,Nat.reduceLT,Nat.reduceLeDiff,Nat.reduceBEq,Nat.reduceAdd,fillA,splice,Nat.reduceMul,al0,al1,al2,al3,al4,al5,al6,al7,al8,al9,al10,al11,al12,al13,al14,al15,al16,al17,al18,al19,al20,al21,al22,al23,al24,al25,al26,al27,al28,al29,al30,al31,al32,al33,al34, hg, Int.lt_irrefl]
  | succ d ih =>
    intro i H acc hi ha
    have hlt : i < n := by omega
    have hlt' : (i : Int) < (n : Int) := by omega
    have hwk := wrap_pos (n := i) (by omega)
    obtain ⟨a, ha1, ha2⟩ := bV_at (hx.ext ha.1) hxw (k := i) (by omega)
    obtain ⟨b, hb1, hb2⟩ := bV_at (hy.ext ha.1) hyw (k := i) (by omega)
    obtain ⟨c, hc1, hc2⟩ := bV_at (hu.ext ha.1) huw (k := i) (by omega)
    rw [he i hlt] at hc2
    cases hXi : X.getD i false with
    | true =>
      rw [hXi] at ha2 hc2
      have hall : allTo X (i + 1) = allTo X i ++ [(i : Int)] := by simp only [allTo, hXi, cond_true]
      have hl := allTo_len X i
      obtain ⟨acc1, H1, f1, f2⟩ := ha.append (base := base) (bytes := 8) hb (x := iV i) rfl (by rw [List.length_map]; omega)
      have f2' : Acc H0 H1 acc1 ((allTo X (i + 1)).map iV) := by rw [hall, List.map_append]; exact f2
      obtain ⟨acc', H', p1, p2⟩ := ih (i + 1) (trim H0.length (frOf 111 [(0, g), (7, x), (8, y), (9, u), (10, acc1), (11, .s (.int .i64 ((i + 1 : Nat) : Int)))]) H1) acc1 (by omega) (f2'.trim (Nat.le_refl _) (frOf_mem (s := 10) (by omega) rfl))
      refine ⟨acc', H', ?_, p2⟩
      simp only [iV] at f1
      rw [itW_step]
      simp only [a_gnomonlaw07_GraphTogether,s_gnomonlaw07_GraphTogether_l0_b,s_gnomonlaw07_GraphTogether_l1_b, am0,am1,am2,am3,am4,am5,am6,am7,bl,i64,reduceIte,reduceCtorEq,Nat.reduceEqDiff,Nat.reduceLT,Nat.reduceLeDiff,Nat.reduceBEq,Nat.reduceAdd,fillA,splice,Nat.reduceMul,al0,al1,al2,al3,al4,al5,al6,al7,al8,al9,al10,al11,al12,al13,al14,al15,al16,al17,al18,al19,al20,al21,al22,al23,al24,al25,al26,al27,al28,al29,al30,al31,al32,al33,al34, hg, hlt', hwk, ha1, ha2, hb1, hb2, hc1, hc2, f1]
      exact p1
    | false =>
      rw [hXi] at ha2 hc2
      have hall : allTo X (i + 1) = allTo X i := by simp only [allTo, hXi, cond_false]
      rw [← hall] at ha
      obtain ⟨acc', H', p1, p2⟩ := ih (i + 1) (trim H0.length (frOf 111 [(0, g), (7, x), (8, y), (9, u), (10, acc), (11, .s (.int .i64 ((i + 1 : Nat) : Int)))]) H) acc (by omega) (ha.trim (Nat.le_refl _) (frOf_mem (s := 10) (by omega) rfl))
      refine ⟨acc', H', ?_, p2⟩
      rw [itW_step]
      simp only [a_gnomonlaw07_GraphTogether,s_gnomonlaw07_GraphTogether_l0_b,s_gnomonlaw07_GraphTogether_l1_b, am0,am1,am2,am3,am4,am5,am6,am7,bl,i64,reduceIte,reduceCtorEq,Nat.reduceEqDiff,Nat.reduceLT,Nat.reduceLeDiff,Nat.reduceBEq,Nat.reduceAdd,fillA,splice,Nat.reduceMul,al0,al1,al2,al3,al4,al5,al6,al7,al8,al9,al10,al11,al12,al13,al14,al15,al16,al17,al18,al19,al20,al21,al22,al23,al24,al25,al26,al27,al28,al29,al30,al31,al32,al33,al34, hg, hlt', hwk, ha1, ha2, hb1, hb2, hc1, hc2]
      exact p1
end Go.Proofs.Ytmnlagcmpgilaaa
set_option maxRecDepth 100000
namespace Go.Proofs.Ytmnlagcmpgilaaa
open Go.AM
theorem tog_l1 (call : CallF) (base : Nat) (H : Heap) (g x w : V) (n : Nat) (X : List Bool) (hg : xLen H .s g = some (.s (.int .i64 n))) (hx : Rd H x (X.map bV)) (hxw : Wide1 x) (hy : Rd H w (X.map bV)) (hyw : Wide1 w) (hX : X.length = n) (hn : n < 2 ^ 40) : ∀ (d i : Nat), i + d = n →
    itW (evC call itW base s_gnomonlaw07_GraphTogether_l1) [] H.length (frOf 111 [(0, g), (7, x), (12, w), (13, .s (.int .i64 i))]) H = some (.ext 2, frOf 111 [(0, g), (7, x), (12, w), (13, .s (.int .i64 n)), (98, .s (.bool false))], H) := by
  intro d
  induction d with
  | zero =>
    intro i hi
    obtain rfl : i = n := by omega
    rw [itW_step]
    simp only [a_gnomonlaw07_GraphTogether,s_gnomonlaw07_GraphTogether_l0_b,s_gnomonlaw07_GraphTogether_l1_b, am0,am1,am2,am3,am4,am5,am6,am7,bl,i64,reduceIte,reduceCtorEq,Nat.reduceEqDiff,Nat.reduceLT,Nat.reduceLeDiff,Nat.reduceBEq,Nat.reduceAdd,fillA,splice,Nat.reduceMul,al0,al1,al2,al3,al4,al5,al6,al7,al8,al9,al10,al11,al12,al13,al14,al15,al16,al17,al18,al19,al20,al21,al22,al23,al24,al25,al26,al27,al28,al29,al30,al31,al32,al33,al34, hg, Int.lt_irrefl, trim_same rfl]
  | succ d ih =>
    intro i hi
    have hlt' : (i : Int) < (n : Int) := by omega
    have hwk := wrap_pos (n := i) (by omega)
    obtain ⟨a, ha1, ha2⟩ := bV_at hx hxw (k := i) (by omega)
    obtain ⟨b, hb1, hb2⟩ := bV_at hy hyw (k := i) (by omega)
    rw [itW_step]
    have hi2 := ih (i + 1) (by omega)
    cases hXi : X.getD i false with
    | true =>
      rw [hXi] at ha2 hb2
      simp only [a_gnomonlaw07_GraphTogether,s_gnomonlaw07_GraphTogether_l0_b,s_gnomonlaw07_GraphTogether_l1_b, am0,am1,am2,am3,am4,am5,am6,am7,bl,i64,reduceIte,reduceCtorEq,Nat.reduceEqDiff,Nat.reduceLT,Nat.reduceLeDiff,Nat.reduceBEq,Nat.reduceAdd,fillA,splice,Nat.reduceMul,al0,al1,al2,al3,al4,al5,al6,al7,al8,al9,al10,al11,al12,al13,al14,al15,al16,al17,al18,al19,al20,al21,al22,al23,al24,al25,al26,al27,al28,al29,al30,al31,al32,al33,al34, hg, hlt', hwk, ha1, ha2, hb1, hb2, trim_same rfl]
      exact hi2
    | false =>
      rw [hXi] at ha2 hb2
      simp only [a_gnomonlaw07_GraphTogether,s_gnomonlaw07_GraphTogether_l0_b,s_gnomonlaw07_GraphTogether_l1_b, am0,am1,am2,am3,am4,am5,am6,am7,bl,i64,reduceIte,reduceCtorEq,Nat.reduceEqDiff,Nat.reduceLT,Nat.reduceLeDiff,Nat.reduceBEq,Nat.reduceAdd,fillA,splice,Nat.reduceMul,al0,al1,al2,al3,al4,al5,al6,al7,al8,al9,al10,al11,al12,al13,al14,al15,al16,al17,al18,al19,al20,al21,al22,al23,al24,al25,al26,al27,al28,al29,al30,al31,al32,al33,al34, hg, hlt', hwk, ha1, ha2, hb1, hb2, trim_same rfl]
      exact hi2
theorem bools_eq {n : Nat} {A B : List Bool} (hA : A.length = n) (hB : B.length = n) (h : ∀ k : Nat, A[k]? = some true ↔ B[k]? = some true) : A = B := by
  refine List.ext_getElem (by omega) fun i h1 h2 => ?_
  have := h i
  rw [List.getElem?_eq_getElem h1, List.getElem?_eq_getElem h2, Option.some.injEq, Option.some.injEq] at this
  cases hA : A[i] <;> cases hB : B[i] <;> simp_all
end Go.Proofs.Ytmnlagcmpgilaaa
