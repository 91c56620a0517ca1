/- Texts of the proof: GraphS2, GraphS3, GraphS4, GraphF1, GraphF2, GraphF3, AmM, GraphF4, GraphF5. -/
import Derived.Test.YtmnlagcmpgilaaaP0
import Derived.Test.YtmnlagcmpgilaaaP1
import Derived.Test.YtmnlagcmpgilaaaP2
set_option linter.all false
set_option maxRecDepth 100000
namespace Go.Proofs.Ytmnlagcmpgilaaa
open Go.AM
abbrev k_gnomonlaw07_GraphWays : Nat := 4
def s_gnomonlaw07_GraphWays_r0_k : List Nat := [4, 5, 6, 7, 8, 9, 10, 11, 12, 13, 14, 15, 16, 17, 18, 19, 20, 21, 22, 23, 24, 25, 26, 27, 28, 29, 30, 31, 32, 33, 34, 35, 36, 37, 38, 39, 40, 41, 42, 43, 44, 45, 46]
theorem s_gnomonlaw07_GraphWays_r0_kT : killV s_gnomonlaw07_GraphWays_r0_k (startV 47 [] 4) = [] := by kernel_rfl
theorem s_gnomonlaw07_GraphWays_r0_kA0 : s_gnomonlaw07_GraphWays_r0_k.contains 0 = false := by kernel_rfl
theorem s_gnomonlaw07_GraphWays_r0_kA1 : s_gnomonlaw07_GraphWays_r0_k.contains 1 = false := by kernel_rfl
theorem s_gnomonlaw07_GraphWays_r0_kA2 : s_gnomonlaw07_GraphWays_r0_k.contains 2 = false := by kernel_rfl
theorem s_gnomonlaw07_GraphWays_r0_kA3 : s_gnomonlaw07_GraphWays_r0_k.contains 3 = false := by kernel_rfl
def s_gnomonlaw07_GraphWays_r0 : List AOper := [
  ⟨some 8, (.move (.c (.s (.bool false)))), none⟩]
theorem s_gnomonlaw07_GraphWays_r0_tale (fr : List V) (H : Heap) : evTale (symAll s_gnomonlaw07_GraphWays_r0 s_gnomonlaw07_GraphWays_r0_k []) s_gnomonlaw07_GraphWays_r0_k fr H = evTale (some (9, [], [])) s_gnomonlaw07_GraphWays_r0_k fr H := tale_row (items := [.cc (.s (.bool false))]) (by kernel_rfl) fr H
def s_gnomonlaw07_GraphWays_r1t2 : List AOper := [⟨some 11, (.move (.t 10)), none⟩, ⟨some 12, (.move (.t 1)), some (11, false)⟩, ⟨some 13, (.lenS .s (.t 12)), some (11, false)⟩, ⟨some 14, (.bin .gtr (.t 13) (.c (.s (.int .i64 200)))), some (11, false)⟩, ⟨some 15, (.pick (.t 11) (.c (.s (.bool true))) (.t 14)), none⟩]
def s_gnomonlaw07_GraphWays_r1p1 : List AOper := [⟨some 10, (.call (.c (.fn 9 [] [])) [(.t 9)]), none⟩]
def s_gnomonlaw07_GraphWays_r1t1 : List AOper := s_gnomonlaw07_GraphWays_r1p1 ++ s_gnomonlaw07_GraphWays_r1t2
def s_gnomonlaw07_GraphWays_r1p0 : List AOper := [⟨some 9, (.move (.t 0)), none⟩]
def s_gnomonlaw07_GraphWays_r1 : List AOper := s_gnomonlaw07_GraphWays_r1p0 ++ s_gnomonlaw07_GraphWays_r1t1
theorem s_gnomonlaw07_GraphWays_r1p0_tale (fr : List V) (H : Heap) : evTale (symAll s_gnomonlaw07_GraphWays_r1p0 [] [9]) [] fr H = evTale (some (10, [], [(9, (.t 0))])) [] fr H := tale_row (items := [.tt 0]) (by kernel_rfl) fr H
theorem s_gnomonlaw07_GraphWays_r1_x (call : CallF) (it : IterF) (base : Nat) (f : List V) (H : Heap) : evC call it base (.region s_gnomonlaw07_GraphWays_r1 [] [9, 10, 11, 12, 13, 14]) f H = segC call it base s_gnomonlaw07_GraphWays_r1t1 [9, 10, 11, 12, 13, 14] H (evTale (symAll s_gnomonlaw07_GraphWays_r1p0 [] [9]) [] f H) (origRow call it base s_gnomonlaw07_GraphWays_r1 [9, 10, 11, 12, 13, 14] f H) := row_seg call it base s_gnomonlaw07_GraphWays_r1p0 s_gnomonlaw07_GraphWays_r1t1 (by kernel_rfl) f H
theorem s_gnomonlaw07_GraphWays_r1t1_x (call : CallF) (it : IterF) (base : Nat) (f : List V) (H : Heap) : evC call it base (.region s_gnomonlaw07_GraphWays_r1t1 [] [9, 10, 11, 12, 13, 14]) f H = thenC call it base (.region s_gnomonlaw07_GraphWays_r1t2 [] [9, 10, 11, 12, 13, 14]) (opsC [] s_gnomonlaw07_GraphWays_r1p1 [9] (evOps call base [⟨some 10, (.call (.c (.fn 9 [] [])) [(.t 9)]), none⟩] f H)) := (row_op call it base s_gnomonlaw07_GraphWays_r1p1 s_gnomonlaw07_GraphWays_r1t2 (kc := [9]) (by kernel_rfl) f H).trans (by rw [row_ops]; rfl)
theorem s_gnomonlaw07_GraphWays_r1t2_tale (fr : List V) (H : Heap) : evTale (symAll s_gnomonlaw07_GraphWays_r1t2 [9, 10, 11, 12, 13, 14] [15]) [9, 10, 11, 12, 13, 14] fr H = evTale (some (16, [], [(15, (.pick (.t 10) (.c (.s (.bool true))) (.op (.bin .gtr (.t 0) (.c (.s (.int .i64 200)))) [(.op (.lenS .s (.t 0)) [(.t 1)]), (.c (.s (.int .i64 200)))])))])) [9, 10, 11, 12, 13, 14] fr H := tale_row (items := [.tt 10, .sub 0 [2, 0, 0] [11], .sub 0 [2, 0] [11], .sub 0 [2] [11], .sub 0 [] []]) (by kernel_rfl) fr H
theorem s_gnomonlaw07_GraphWays_r1t2_x (call : CallF) (it : IterF) (base : Nat) (f : List V) (H : Heap) : evC call it base (.region s_gnomonlaw07_GraphWays_r1t2 [] [9, 10, 11, 12, 13, 14]) f H = segL H (evTale (symAll s_gnomonlaw07_GraphWays_r1t2 [9, 10, 11, 12, 13, 14] [15]) [9, 10, 11, 12, 13, 14] f H) (origRow call it base s_gnomonlaw07_GraphWays_r1t2 [9, 10, 11, 12, 13, 14] f H) := row_last call it base _ f H
def s_gnomonlaw07_GraphWays_r2t1 : List AOper := [⟨some 8, (.move (.t 16)), none⟩]
def s_gnomonlaw07_GraphWays_r2p0 : List AOper := [⟨some 16, (.call (.c (.fn 10 [] [])) []), none⟩]
def s_gnomonlaw07_GraphWays_r2 : List AOper := s_gnomonlaw07_GraphWays_r2p0 ++ s_gnomonlaw07_GraphWays_r2t1
theorem s_gnomonlaw07_GraphWays_r2_x (call : CallF) (it : IterF) (base : Nat) (f : List V) (H : Heap) : evC call it base (.region s_gnomonlaw07_GraphWays_r2 [] [0, 1, 2, 3, 15, 16]) f H = thenC call it base (.region s_gnomonlaw07_GraphWays_r2t1 [] [0, 1, 2, 3, 15, 16]) (opsC [] s_gnomonlaw07_GraphWays_r2p0 [0, 1, 2, 3, 15] (evOps call base [⟨some 16, (.call (.c (.fn 10 [] [])) []), none⟩] f H)) := (row_op call it base s_gnomonlaw07_GraphWays_r2p0 s_gnomonlaw07_GraphWays_r2t1 (kc := [0, 1, 2, 3, 15]) (by kernel_rfl) f H).trans (by rw [row_ops]; rfl)
theorem s_gnomonlaw07_GraphWays_r2t1_tale (fr : List V) (H : Heap) : evTale (symAll s_gnomonlaw07_GraphWays_r2t1 [0, 1, 2, 3, 15, 16] [8]) [0, 1, 2, 3, 15, 16] fr H = evTale (some (9, [], [(8, (.t 16))])) [0, 1, 2, 3, 15, 16] fr H := tale_row (items := [.tt 16]) (by kernel_rfl) fr H
theorem s_gnomonlaw07_GraphWays_r2t1_x (call : CallF) (it : IterF) (base : Nat) (f : List V) (H : Heap) : evC call it base (.region s_gnomonlaw07_GraphWays_r2t1 [] [0, 1, 2, 3, 15, 16]) f H = segL H (evTale (symAll s_gnomonlaw07_GraphWays_r2t1 [0, 1, 2, 3, 15, 16] [8]) [0, 1, 2, 3, 15, 16] f H) (origRow call it base s_gnomonlaw07_GraphWays_r2t1 [0, 1, 2, 3, 15, 16] f H) := row_last call it base _ f H
def s_gnomonlaw07_GraphWays_r3t24 : List AOper := [⟨some 46, (.pick (.t 44) (.t 45) (.c (.s (.bool false)))), none⟩, ⟨some 8, (.move (.t 46)), none⟩]
def s_gnomonlaw07_GraphWays_r3p23 : List AOper := [⟨some 45, (.call (.c (.fn 10 [] [])) []), some (44, true)⟩]
def s_gnomonlaw07_GraphWays_r3t23 : List AOper := s_gnomonlaw07_GraphWays_r3p23 ++ s_gnomonlaw07_GraphWays_r3t24
def s_gnomonlaw07_GraphWays_r3p22 : List AOper := [⟨some 43, (.pick (.t 35) (.t 42) (.c (.s (.bool false)))), none⟩, ⟨some 44, (.move (.t 43)), none⟩]
def s_gnomonlaw07_GraphWays_r3t22 : List AOper := s_gnomonlaw07_GraphWays_r3p22 ++ s_gnomonlaw07_GraphWays_r3t23
def s_gnomonlaw07_GraphWays_r3p21 : List AOper := [⟨some 42, (.call (.c (.fn 22 [] [])) [(.t 38), (.t 41)]), some (35, true)⟩]
def s_gnomonlaw07_GraphWays_r3t21 : List AOper := s_gnomonlaw07_GraphWays_r3p21 ++ s_gnomonlaw07_GraphWays_r3t22
def s_gnomonlaw07_GraphWays_r3p20 : List AOper := [⟨some 41, (.call (.c (.fn 24 [] [])) [(.t 39), (.t 40)]), some (35, true)⟩]
def s_gnomonlaw07_GraphWays_r3t20 : List AOper := s_gnomonlaw07_GraphWays_r3p20 ++ s_gnomonlaw07_GraphWays_r3t21
def s_gnomonlaw07_GraphWays_r3p19 : List AOper := [⟨some 40, (.move (.t 2)), some (35, true)⟩]
def s_gnomonlaw07_GraphWays_r3t19 : List AOper := s_gnomonlaw07_GraphWays_r3p19 ++ s_gnomonlaw07_GraphWays_r3t20
def s_gnomonlaw07_GraphWays_r3p18 : List AOper := [⟨some 39, (.move (.t 0)), some (35, true)⟩]
def s_gnomonlaw07_GraphWays_r3t18 : List AOper := s_gnomonlaw07_GraphWays_r3p18 ++ s_gnomonlaw07_GraphWays_r3t19
def s_gnomonlaw07_GraphWays_r3p17 : List AOper := [⟨some 38, (.call (.c (.fn 23 [] [])) [(.t 36), (.t 37)]), some (35, true)⟩]
def s_gnomonlaw07_GraphWays_r3t17 : List AOper := s_gnomonlaw07_GraphWays_r3p17 ++ s_gnomonlaw07_GraphWays_r3t18
def s_gnomonlaw07_GraphWays_r3p16 : List AOper := [⟨some 37, (.move (.t 2)), some (35, true)⟩]
def s_gnomonlaw07_GraphWays_r3t16 : List AOper := s_gnomonlaw07_GraphWays_r3p16 ++ s_gnomonlaw07_GraphWays_r3t17
def s_gnomonlaw07_GraphWays_r3p15 : List AOper := [⟨some 36, (.move (.t 0)), some (35, true)⟩]
def s_gnomonlaw07_GraphWays_r3t15 : List AOper := s_gnomonlaw07_GraphWays_r3p15 ++ s_gnomonlaw07_GraphWays_r3t16
def s_gnomonlaw07_GraphWays_r3p14 : List AOper := [⟨some 33, (.eqB false (.t 28) (.t 32)), some (24, true)⟩, ⟨some 34, (.pick (.t 24) (.t 33) (.c (.s (.bool false)))), none⟩, ⟨some 35, (.move (.t 34)), none⟩]
def s_gnomonlaw07_GraphWays_r3t14 : List AOper := s_gnomonlaw07_GraphWays_r3p14 ++ s_gnomonlaw07_GraphWays_r3t15
def s_gnomonlaw07_GraphWays_r3p13 : List AOper := [⟨some 32, (.call (.c (.fn 21 [] [])) [(.t 29), (.t 30), (.t 31)]), some (24, true)⟩]
def s_gnomonlaw07_GraphWays_r3t13 : List AOper := s_gnomonlaw07_GraphWays_r3p13 ++ s_gnomonlaw07_GraphWays_r3t14
def s_gnomonlaw07_GraphWays_r3p12 : List AOper := [⟨some 31, (.move (.t 3)), some (24, true)⟩]
def s_gnomonlaw07_GraphWays_r3t12 : List AOper := s_gnomonlaw07_GraphWays_r3p12 ++ s_gnomonlaw07_GraphWays_r3t13
def s_gnomonlaw07_GraphWays_r3p11 : List AOper := [⟨some 30, (.move (.t 2)), some (24, true)⟩]
def s_gnomonlaw07_GraphWays_r3t11 : List AOper := s_gnomonlaw07_GraphWays_r3p11 ++ s_gnomonlaw07_GraphWays_r3t12
def s_gnomonlaw07_GraphWays_r3p10 : List AOper := [⟨some 29, (.move (.t 0)), some (24, true)⟩]
def s_gnomonlaw07_GraphWays_r3t10 : List AOper := s_gnomonlaw07_GraphWays_r3p10 ++ s_gnomonlaw07_GraphWays_r3t11
def s_gnomonlaw07_GraphWays_r3p9 : List AOper := [⟨some 28, (.call (.c (.fn 20 [] [])) [(.t 25), (.t 26), (.t 27)]), some (24, true)⟩]
def s_gnomonlaw07_GraphWays_r3t9 : List AOper := s_gnomonlaw07_GraphWays_r3p9 ++ s_gnomonlaw07_GraphWays_r3t10
def s_gnomonlaw07_GraphWays_r3p8 : List AOper := [⟨some 27, (.move (.t 3)), some (24, true)⟩]
def s_gnomonlaw07_GraphWays_r3t8 : List AOper := s_gnomonlaw07_GraphWays_r3p8 ++ s_gnomonlaw07_GraphWays_r3t9
def s_gnomonlaw07_GraphWays_r3p7 : List AOper := [⟨some 26, (.move (.t 2)), some (24, true)⟩]
def s_gnomonlaw07_GraphWays_r3t7 : List AOper := s_gnomonlaw07_GraphWays_r3p7 ++ s_gnomonlaw07_GraphWays_r3t8
def s_gnomonlaw07_GraphWays_r3p6 : List AOper := [⟨some 25, (.move (.t 0)), some (24, true)⟩]
def s_gnomonlaw07_GraphWays_r3t6 : List AOper := s_gnomonlaw07_GraphWays_r3p6 ++ s_gnomonlaw07_GraphWays_r3t7
def s_gnomonlaw07_GraphWays_r3p5 : List AOper := [⟨some 24, (.move (.t 23)), none⟩]
def s_gnomonlaw07_GraphWays_r3t5 : List AOper := s_gnomonlaw07_GraphWays_r3p5 ++ s_gnomonlaw07_GraphWays_r3t6
def s_gnomonlaw07_GraphWays_r3p4 : List AOper := [⟨some 23, (.call (.c (.fn 17 [] [])) [(.t 19), (.t 22)]), none⟩]
def s_gnomonlaw07_GraphWays_r3t4 : List AOper := s_gnomonlaw07_GraphWays_r3p4 ++ s_gnomonlaw07_GraphWays_r3t5
def s_gnomonlaw07_GraphWays_r3p3 : List AOper := [⟨some 22, (.call (.c (.fn 19 [] [])) [(.t 20), (.t 21)]), none⟩]
def s_gnomonlaw07_GraphWays_r3t3 : List AOper := s_gnomonlaw07_GraphWays_r3p3 ++ s_gnomonlaw07_GraphWays_r3t4
def s_gnomonlaw07_GraphWays_r3p2 : List AOper := [⟨some 20, (.move (.t 0)), none⟩, ⟨some 21, (.move (.t 1)), none⟩]
def s_gnomonlaw07_GraphWays_r3t2 : List AOper := s_gnomonlaw07_GraphWays_r3p2 ++ s_gnomonlaw07_GraphWays_r3t3
def s_gnomonlaw07_GraphWays_r3p1 : List AOper := [⟨some 19, (.call (.c (.fn 18 [] [])) [(.t 17), (.t 18)]), none⟩]
def s_gnomonlaw07_GraphWays_r3t1 : List AOper := s_gnomonlaw07_GraphWays_r3p1 ++ s_gnomonlaw07_GraphWays_r3t2
def s_gnomonlaw07_GraphWays_r3p0 : List AOper := [⟨some 17, (.move (.t 0)), none⟩, ⟨some 18, (.move (.t 1)), none⟩]
def s_gnomonlaw07_GraphWays_r3 : List AOper := s_gnomonlaw07_GraphWays_r3p0 ++ s_gnomonlaw07_GraphWays_r3t1
theorem s_gnomonlaw07_GraphWays_r3p0_tale (fr : List V) (H : Heap) : evTale (symAll s_gnomonlaw07_GraphWays_r3p0 [15] [17, 18]) [15] fr H = evTale (some (19, [], [(17, (.t 0)), (18, (.t 1))])) [15] fr H := tale_row (items := [.tt 0, .tt 1]) (by kernel_rfl) fr H
theorem s_gnomonlaw07_GraphWays_r3_x (call : CallF) (it : IterF) (base : Nat) (f : List V) (H : Heap) : evC call it base (.region s_gnomonlaw07_GraphWays_r3 [] [0, 1, 2, 3, 15, 17, 18, 19, 20, 21, 22, 23, 24, 25, 26, 27, 28, 29, 30, 31, 32, 33, 34, 35, 36, 37, 38, 39, 40, 41, 42, 43, 44, 45, 46]) f H = segC call it base s_gnomonlaw07_GraphWays_r3t1 [0, 1, 2, 3, 15, 17, 18, 19, 20, 21, 22, 23, 24, 25, 26, 27, 28, 29, 30, 31, 32, 33, 34, 35, 36, 37, 38, 39, 40, 41, 42, 43, 44, 45, 46] H (evTale (symAll s_gnomonlaw07_GraphWays_r3p0 [15] [17, 18]) [15] f H) (origRow call it base s_gnomonlaw07_GraphWays_r3 [0, 1, 2, 3, 15, 17, 18, 19, 20, 21, 22, 23, 24, 25, 26, 27, 28, 29, 30, 31, 32, 33, 34, 35, 36, 37, 38, 39, 40, 41, 42, 43, 44, 45, 46] f H) := row_seg call it base s_gnomonlaw07_GraphWays_r3p0 s_gnomonlaw07_GraphWays_r3t1 (by kernel_rfl) f H
theorem s_gnomonlaw07_GraphWays_r3t1_x (call : CallF) (it : IterF) (base : Nat) (f : List V) (H : Heap) : evC call it base (.region s_gnomonlaw07_GraphWays_r3t1 [] [0, 1, 2, 3, 15, 17, 18, 19, 20, 21, 22, 23, 24, 25, 26, 27, 28, 29, 30, 31, 32, 33, 34, 35, 36, 37, 38, 39, 40, 41, 42, 43, 44, 45, 46]) f H = thenC call it base (.region s_gnomonlaw07_GraphWays_r3t2 [] [0, 1, 2, 3, 15, 17, 18, 19, 20, 21, 22, 23, 24, 25, 26, 27, 28, 29, 30, 31, 32, 33, 34, 35, 36, 37, 38, 39, 40, 41, 42, 43, 44, 45, 46]) (opsC [] s_gnomonlaw07_GraphWays_r3p1 [17, 18] (evOps call base [⟨some 19, (.call (.c (.fn 18 [] [])) [(.t 17), (.t 18)]), none⟩] f H)) := (row_op call it base s_gnomonlaw07_GraphWays_r3p1 s_gnomonlaw07_GraphWays_r3t2 (kc := [17, 18]) (by kernel_rfl) f H).trans (by rw [row_ops]; rfl)
theorem s_gnomonlaw07_GraphWays_r3p2_tale (fr : List V) (H : Heap) : evTale (symAll s_gnomonlaw07_GraphWays_r3p2 [1] [20, 21]) [1] fr H = evTale (some (22, [], [(20, (.t 0)), (21, (.t 1))])) [1] fr H := tale_row (items := [.tt 0, .tt 1]) (by kernel_rfl) fr H
theorem s_gnomonlaw07_GraphWays_r3t2_x (call : CallF) (it : IterF) (base : Nat) (f : List V) (H : Heap) : evC call it base (.region s_gnomonlaw07_GraphWays_r3t2 [] [0, 1, 2, 3, 15, 17, 18, 19, 20, 21, 22, 23, 24, 25, 26, 27, 28, 29, 30, 31, 32, 33, 34, 35, 36, 37, 38, 39, 40, 41, 42, 43, 44, 45, 46]) f H = segC call it base s_gnomonlaw07_GraphWays_r3t3 [0, 1, 2, 3, 15, 17, 18, 19, 20, 21, 22, 23, 24, 25, 26, 27, 28, 29, 30, 31, 32, 33, 34, 35, 36, 37, 38, 39, 40, 41, 42, 43, 44, 45, 46] H (evTale (symAll s_gnomonlaw07_GraphWays_r3p2 [1] [20, 21]) [1] f H) (origRow call it base s_gnomonlaw07_GraphWays_r3t2 [0, 1, 2, 3, 15, 17, 18, 19, 20, 21, 22, 23, 24, 25, 26, 27, 28, 29, 30, 31, 32, 33, 34, 35, 36, 37, 38, 39, 40, 41, 42, 43, 44, 45, 46] f H) := row_seg call it base s_gnomonlaw07_GraphWays_r3p2 s_gnomonlaw07_GraphWays_r3t3 (by kernel_rfl) f H
theorem s_gnomonlaw07_GraphWays_r3t3_x (call : CallF) (it : IterF) (base : Nat) (f : List V) (H : Heap) : evC call it base (.region s_gnomonlaw07_GraphWays_r3t3 [] [0, 1, 2, 3, 15, 17, 18, 19, 20, 21, 22, 23, 24, 25, 26, 27, 28, 29, 30, 31, 32, 33, 34, 35, 36, 37, 38, 39, 40, 41, 42, 43, 44, 45, 46]) f H = thenC call it base (.region s_gnomonlaw07_GraphWays_r3t4 [] [0, 1, 2, 3, 15, 17, 18, 19, 20, 21, 22, 23, 24, 25, 26, 27, 28, 29, 30, 31, 32, 33, 34, 35, 36, 37, 38, 39, 40, 41, 42, 43, 44, 45, 46]) (opsC [] s_gnomonlaw07_GraphWays_r3p3 [20, 21] (evOps call base [⟨some 22, (.call (.c (.fn 19 [] [])) [(.t 20), (.t 21)]), none⟩] f H)) := (row_op call it base s_gnomonlaw07_GraphWays_r3p3 s_gnomonlaw07_GraphWays_r3t4 (kc := [20, 21]) (by kernel_rfl) f H).trans (by rw [row_ops]; rfl)
theorem s_gnomonlaw07_GraphWays_r3t4_x (call : CallF) (it : IterF) (base : Nat) (f : List V) (H : Heap) : evC call it base (.region s_gnomonlaw07_GraphWays_r3t4 [] [0, 1, 2, 3, 15, 17, 18, 19, 20, 21, 22, 23, 24, 25, 26, 27, 28, 29, 30, 31, 32, 33, 34, 35, 36, 37, 38, 39, 40, 41, 42, 43, 44, 45, 46]) f H = thenC call it base (.region s_gnomonlaw07_GraphWays_r3t5 [] [0, 1, 2, 3, 15, 17, 18, 19, 20, 21, 22, 23, 24, 25, 26, 27, 28, 29, 30, 31, 32, 33, 34, 35, 36, 37, 38, 39, 40, 41, 42, 43, 44, 45, 46]) (opsC [] s_gnomonlaw07_GraphWays_r3p4 [19, 22] (evOps call base [⟨some 23, (.call (.c (.fn 17 [] [])) [(.t 19), (.t 22)]), none⟩] f H)) := (row_op call it base s_gnomonlaw07_GraphWays_r3p4 s_gnomonlaw07_GraphWays_r3t5 (kc := [19, 22]) (by kernel_rfl) f H).trans (by rw [row_ops]; rfl)
theorem s_gnomonlaw07_GraphWays_r3p5_tale (fr : List V) (H : Heap) : evTale (symAll s_gnomonlaw07_GraphWays_r3p5 [23] [24]) [23] fr H = evTale (some (25, [], [(24, (.t 23))])) [23] fr H := tale_row (items := [.tt 23]) (by kernel_rfl) fr H
theorem s_gnomonlaw07_GraphWays_r3t5_x (call : CallF) (it : IterF) (base : Nat) (f : List V) (H : Heap) : evC call it base (.region s_gnomonlaw07_GraphWays_r3t5 [] [0, 1, 2, 3, 15, 17, 18, 19, 20, 21, 22, 23, 24, 25, 26, 27, 28, 29, 30, 31, 32, 33, 34, 35, 36, 37, 38, 39, 40, 41, 42, 43, 44, 45, 46]) f H = segC call it base s_gnomonlaw07_GraphWays_r3t6 [0, 1, 2, 3, 15, 17, 18, 19, 20, 21, 22, 23, 24, 25, 26, 27, 28, 29, 30, 31, 32, 33, 34, 35, 36, 37, 38, 39, 40, 41, 42, 43, 44, 45, 46] H (evTale (symAll s_gnomonlaw07_GraphWays_r3p5 [23] [24]) [23] f H) (origRow call it base s_gnomonlaw07_GraphWays_r3t5 [0, 1, 2, 3, 15, 17, 18, 19, 20, 21, 22, 23, 24, 25, 26, 27, 28, 29, 30, 31, 32, 33, 34, 35, 36, 37, 38, 39, 40, 41, 42, 43, 44, 45, 46] f H) := row_seg call it base s_gnomonlaw07_GraphWays_r3p5 s_gnomonlaw07_GraphWays_r3t6 (by kernel_rfl) f H
theorem s_gnomonlaw07_GraphWays_r3t6_x (call : CallF) (it : IterF) (base : Nat) (f : List V) (H : Heap) : evC call it base (.region s_gnomonlaw07_GraphWays_r3t6 [] [0, 1, 2, 3, 15, 17, 18, 19, 20, 21, 22, 23, 24, 25, 26, 27, 28, 29, 30, 31, 32, 33, 34, 35, 36, 37, 38, 39, 40, 41, 42, 43, 44, 45, 46]) f H = thenC call it base (.region s_gnomonlaw07_GraphWays_r3t7 [] [0, 1, 2, 3, 15, 17, 18, 19, 20, 21, 22, 23, 24, 25, 26, 27, 28, 29, 30, 31, 32, 33, 34, 35, 36, 37, 38, 39, 40, 41, 42, 43, 44, 45, 46]) (opsC [] s_gnomonlaw07_GraphWays_r3p6 [] (evOps call base [⟨some 25, (.move (.t 0)), some (24, true)⟩] f H)) := (row_op call it base s_gnomonlaw07_GraphWays_r3p6 s_gnomonlaw07_GraphWays_r3t7 (kc := []) (by kernel_rfl) f H).trans (by rw [row_ops]; rfl)
theorem s_gnomonlaw07_GraphWays_r3t7_x (call : CallF) (it : IterF) (base : Nat) (f : List V) (H : Heap) : evC call it base (.region s_gnomonlaw07_GraphWays_r3t7 [] [0, 1, 2, 3, 15, 17, 18, 19, 20, 21, 22, 23, 24, 25, 26, 27, 28, 29, 30, 31, 32, 33, 34, 35, 36, 37, 38, 39, 40, 41, 42, 43, 44, 45, 46]) f H = thenC call it base (.region s_gnomonlaw07_GraphWays_r3t8 [] [0, 1, 2, 3, 15, 17, 18, 19, 20, 21, 22, 23, 24, 25, 26, 27, 28, 29, 30, 31, 32, 33, 34, 35, 36, 37, 38, 39, 40, 41, 42, 43, 44, 45, 46]) (opsC [] s_gnomonlaw07_GraphWays_r3p7 [] (evOps call base [⟨some 26, (.move (.t 2)), some (24, true)⟩] f H)) := (row_op call it base s_gnomonlaw07_GraphWays_r3p7 s_gnomonlaw07_GraphWays_r3t8 (kc := []) (by kernel_rfl) f H).trans (by rw [row_ops]; rfl)
theorem s_gnomonlaw07_GraphWays_r3t8_x (call : CallF) (it : IterF) (base : Nat) (f : List V) (H : Heap) : evC call it base (.region s_gnomonlaw07_GraphWays_r3t8 [] [0, 1, 2, 3, 15, 17, 18, 19, 20, 21, 22, 23, 24, 25, 26, 27, 28, 29, 30, 31, 32, 33, 34, 35, 36, 37, 38, 39, 40, 41, 42, 43, 44, 45, 46]) f H = thenC call it base (.region s_gnomonlaw07_GraphWays_r3t9 [] [0, 1, 2, 3, 15, 17, 18, 19, 20, 21, 22, 23, 24, 25, 26, 27, 28, 29, 30, 31, 32, 33, 34, 35, 36, 37, 38, 39, 40, 41, 42, 43, 44, 45, 46]) (opsC [] s_gnomonlaw07_GraphWays_r3p8 [] (evOps call base [⟨some 27, (.move (.t 3)), some (24, true)⟩] f H)) := (row_op call it base s_gnomonlaw07_GraphWays_r3p8 s_gnomonlaw07_GraphWays_r3t9 (kc := []) (by kernel_rfl) f H).trans (by rw [row_ops]; rfl)
theorem s_gnomonlaw07_GraphWays_r3t9_x (call : CallF) (it : IterF) (base : Nat) (f : List V) (H : Heap) : evC call it base (.region s_gnomonlaw07_GraphWays_r3t9 [] [0, 1, 2, 3, 15, 17, 18, 19, 20, 21, 22, 23, 24, 25, 26, 27, 28, 29, 30, 31, 32, 33, 34, 35, 36, 37, 38, 39, 40, 41, 42, 43, 44, 45, 46]) f H = thenC call it base (.region s_gnomonlaw07_GraphWays_r3t10 [] [0, 1, 2, 3, 15, 17, 18, 19, 20, 21, 22, 23, 24, 25, 26, 27, 28, 29, 30, 31, 32, 33, 34, 35, 36, 37, 38, 39, 40, 41, 42, 43, 44, 45, 46]) (opsC [] s_gnomonlaw07_GraphWays_r3p9 [25, 26, 27] (evOps call base [⟨some 28, (.call (.c (.fn 20 [] [])) [(.t 25), (.t 26), (.t 27)]), some (24, true)⟩] f H)) := (row_op call it base s_gnomonlaw07_GraphWays_r3p9 s_gnomonlaw07_GraphWays_r3t10 (kc := [25, 26, 27]) (by kernel_rfl) f H).trans (by rw [row_ops]; rfl)
theorem s_gnomonlaw07_GraphWays_r3t10_x (call : CallF) (it : IterF) (base : Nat) (f : List V) (H : Heap) : evC call it base (.region s_gnomonlaw07_GraphWays_r3t10 [] [0, 1, 2, 3, 15, 17, 18, 19, 20, 21, 22, 23, 24, 25, 26, 27, 28, 29, 30, 31, 32, 33, 34, 35, 36, 37, 38, 39, 40, 41, 42, 43, 44, 45, 46]) f H = thenC call it base (.region s_gnomonlaw07_GraphWays_r3t11 [] [0, 1, 2, 3, 15, 17, 18, 19, 20, 21, 22, 23, 24, 25, 26, 27, 28, 29, 30, 31, 32, 33, 34, 35, 36, 37, 38, 39, 40, 41, 42, 43, 44, 45, 46]) (opsC [] s_gnomonlaw07_GraphWays_r3p10 [] (evOps call base [⟨some 29, (.move (.t 0)), some (24, true)⟩] f H)) := (row_op call it base s_gnomonlaw07_GraphWays_r3p10 s_gnomonlaw07_GraphWays_r3t11 (kc := []) (by kernel_rfl) f H).trans (by rw [row_ops]; rfl)
theorem s_gnomonlaw07_GraphWays_r3t11_x (call : CallF) (it : IterF) (base : Nat) (f : List V) (H : Heap) : evC call it base (.region s_gnomonlaw07_GraphWays_r3t11 [] [0, 1, 2, 3, 15, 17, 18, 19, 20, 21, 22, 23, 24, 25, 26, 27, 28, 29, 30, 31, 32, 33, 34, 35, 36, 37, 38, 39, 40, 41, 42, 43, 44, 45, 46]) f H = thenC call it base (.region s_gnomonlaw07_GraphWays_r3t12 [] [0, 1, 2, 3, 15, 17, 18, 19, 20, 21, 22, 23, 24, 25, 26, 27, 28, 29, 30, 31, 32, 33, 34, 35, 36, 37, 38, 39, 40, 41, 42, 43, 44, 45, 46]) (opsC [] s_gnomonlaw07_GraphWays_r3p11 [] (evOps call base [⟨some 30, (.move (.t 2)), some (24, true)⟩] f H)) := (row_op call it base s_gnomonlaw07_GraphWays_r3p11 s_gnomonlaw07_GraphWays_r3t12 (kc := []) (by kernel_rfl) f H).trans (by rw [row_ops]; rfl)
theorem s_gnomonlaw07_GraphWays_r3t12_x (call : CallF) (it : IterF) (base : Nat) (f : List V) (H : Heap) : evC call it base (.region s_gnomonlaw07_GraphWays_r3t12 [] [0, 1, 2, 3, 15, 17, 18, 19, 20, 21, 22, 23, 24, 25, 26, 27, 28, 29, 30, 31, 32, 33, 34, 35, 36, 37, 38, 39, 40, 41, 42, 43, 44, 45, 46]) f H = thenC call it base (.region s_gnomonlaw07_GraphWays_r3t13 [] [0, 1, 2, 3, 15, 17, 18, 19, 20, 21, 22, 23, 24, 25, 26, 27, 28, 29, 30, 31, 32, 33, 34, 35, 36, 37, 38, 39, 40, 41, 42, 43, 44, 45, 46]) (opsC [] s_gnomonlaw07_GraphWays_r3p12 [3] (evOps call base [⟨some 31, (.move (.t 3)), some (24, true)⟩] f H)) := (row_op call it base s_gnomonlaw07_GraphWays_r3p12 s_gnomonlaw07_GraphWays_r3t13 (kc := [3]) (by kernel_rfl) f H).trans (by rw [row_ops]; rfl)
theorem s_gnomonlaw07_GraphWays_r3t13_x (call : CallF) (it : IterF) (base : Nat) (f : List V) (H : Heap) : evC call it base (.region s_gnomonlaw07_GraphWays_r3t13 [] [0, 1, 2, 3, 15, 17, 18, 19, 20, 21, 22, 23, 24, 25, 26, 27, 28, 29, 30, 31, 32, 33, 34, 35, 36, 37, 38, 39, 40, 41, 42, 43, 44, 45, 46]) f H = thenC call it base (.region s_gnomonlaw07_GraphWays_r3t14 [] [0, 1, 2, 3, 15, 17, 18, 19, 20, 21, 22, 23, 24, 25, 26, 27, 28, 29, 30, 31, 32, 33, 34, 35, 36, 37, 38, 39, 40, 41, 42, 43, 44, 45, 46]) (opsC [] s_gnomonlaw07_GraphWays_r3p13 [29, 30, 31] (evOps call base [⟨some 32, (.call (.c (.fn 21 [] [])) [(.t 29), (.t 30), (.t 31)]), some (24, true)⟩] f H)) := (row_op call it base s_gnomonlaw07_GraphWays_r3p13 s_gnomonlaw07_GraphWays_r3t14 (kc := [29, 30, 31]) (by kernel_rfl) f H).trans (by rw [row_ops]; rfl)
theorem s_gnomonlaw07_GraphWays_r3p14_tale (fr : List V) (H : Heap) : evTale (symAll s_gnomonlaw07_GraphWays_r3p14 [24, 28, 32, 33, 34] [35]) [24, 28, 32, 33, 34] fr H = evTale (some (36, [], [(35, (.pick (.t 24) (.op (.eqB false (.t 0) (.t 1)) [(.t 28), (.t 32)]) (.c (.s (.bool false)))))])) [24, 28, 32, 33, 34] fr H := tale_row (items := [.sub 0 [1] [24], .sub 0 [] [], .sub 0 [] []]) (by kernel_rfl) fr H
theorem s_gnomonlaw07_GraphWays_r3t14_x (call : CallF) (it : IterF) (base : Nat) (f : List V) (H : Heap) : evC call it base (.region s_gnomonlaw07_GraphWays_r3t14 [] [0, 1, 2, 3, 15, 17, 18, 19, 20, 21, 22, 23, 24, 25, 26, 27, 28, 29, 30, 31, 32, 33, 34, 35, 36, 37, 38, 39, 40, 41, 42, 43, 44, 45, 46]) f H = segC call it base s_gnomonlaw07_GraphWays_r3t15 [0, 1, 2, 3, 15, 17, 18, 19, 20, 21, 22, 23, 24, 25, 26, 27, 28, 29, 30, 31, 32, 33, 34, 35, 36, 37, 38, 39, 40, 41, 42, 43, 44, 45, 46] H (evTale (symAll s_gnomonlaw07_GraphWays_r3p14 [24, 28, 32, 33, 34] [35]) [24, 28, 32, 33, 34] f H) (origRow call it base s_gnomonlaw07_GraphWays_r3t14 [0, 1, 2, 3, 15, 17, 18, 19, 20, 21, 22, 23, 24, 25, 26, 27, 28, 29, 30, 31, 32, 33, 34, 35, 36, 37, 38, 39, 40, 41, 42, 43, 44, 45, 46] f H) := row_seg call it base s_gnomonlaw07_GraphWays_r3p14 s_gnomonlaw07_GraphWays_r3t15 (by kernel_rfl) f H
theorem s_gnomonlaw07_GraphWays_r3t15_x (call : CallF) (it : IterF) (base : Nat) (f : List V) (H : Heap) : evC call it base (.region s_gnomonlaw07_GraphWays_r3t15 [] [0, 1, 2, 3, 15, 17, 18, 19, 20, 21, 22, 23, 24, 25, 26, 27, 28, 29, 30, 31, 32, 33, 34, 35, 36, 37, 38, 39, 40, 41, 42, 43, 44, 45, 46]) f H = thenC call it base (.region s_gnomonlaw07_GraphWays_r3t16 [] [0, 1, 2, 3, 15, 17, 18, 19, 20, 21, 22, 23, 24, 25, 26, 27, 28, 29, 30, 31, 32, 33, 34, 35, 36, 37, 38, 39, 40, 41, 42, 43, 44, 45, 46]) (opsC [] s_gnomonlaw07_GraphWays_r3p15 [] (evOps call base [⟨some 36, (.move (.t 0)), some (35, true)⟩] f H)) := (row_op call it base s_gnomonlaw07_GraphWays_r3p15 s_gnomonlaw07_GraphWays_r3t16 (kc := []) (by kernel_rfl) f H).trans (by rw [row_ops]; rfl)
theorem s_gnomonlaw07_GraphWays_r3t16_x (call : CallF) (it : IterF) (base : Nat) (f : List V) (H : Heap) : evC call it base (.region s_gnomonlaw07_GraphWays_r3t16 [] [0, 1, 2, 3, 15, 17, 18, 19, 20, 21, 22, 23, 24, 25, 26, 27, 28, 29, 30, 31, 32, 33, 34, 35, 36, 37, 38, 39, 40, 41, 42, 43, 44, 45, 46]) f H = thenC call it base (.region s_gnomonlaw07_GraphWays_r3t17 [] [0, 1, 2, 3, 15, 17, 18, 19, 20, 21, 22, 23, 24, 25, 26, 27, 28, 29, 30, 31, 32, 33, 34, 35, 36, 37, 38, 39, 40, 41, 42, 43, 44, 45, 46]) (opsC [] s_gnomonlaw07_GraphWays_r3p16 [] (evOps call base [⟨some 37, (.move (.t 2)), some (35, true)⟩] f H)) := (row_op call it base s_gnomonlaw07_GraphWays_r3p16 s_gnomonlaw07_GraphWays_r3t17 (kc := []) (by kernel_rfl) f H).trans (by rw [row_ops]; rfl)
theorem s_gnomonlaw07_GraphWays_r3t17_x (call : CallF) (it : IterF) (base : Nat) (f : List V) (H : Heap) : evC call it base (.region s_gnomonlaw07_GraphWays_r3t17 [] [0, 1, 2, 3, 15, 17, 18, 19, 20, 21, 22, 23, 24, 25, 26, 27, 28, 29, 30, 31, 32, 33, 34, 35, 36, 37, 38, 39, 40, 41, 42, 43, 44, 45, 46]) f H = thenC call it base (.region s_gnomonlaw07_GraphWays_r3t18 [] [0, 1, 2, 3, 15, 17, 18, 19, 20, 21, 22, 23, 24, 25, 26, 27, 28, 29, 30, 31, 32, 33, 34, 35, 36, 37, 38, 39, 40, 41, 42, 43, 44, 45, 46]) (opsC [] s_gnomonlaw07_GraphWays_r3p17 [36, 37] (evOps call base [⟨some 38, (.call (.c (.fn 23 [] [])) [(.t 36), (.t 37)]), some (35, true)⟩] f H)) := (row_op call it base s_gnomonlaw07_GraphWays_r3p17 s_gnomonlaw07_GraphWays_r3t18 (kc := [36, 37]) (by kernel_rfl) f H).trans (by rw [row_ops]; rfl)
theorem s_gnomonlaw07_GraphWays_r3t18_x (call : CallF) (it : IterF) (base : Nat) (f : List V) (H : Heap) : evC call it base (.region s_gnomonlaw07_GraphWays_r3t18 [] [0, 1, 2, 3, 15, 17, 18, 19, 20, 21, 22, 23, 24, 25, 26, 27, 28, 29, 30, 31, 32, 33, 34, 35, 36, 37, 38, 39, 40, 41, 42, 43, 44, 45, 46]) f H = thenC call it base (.region s_gnomonlaw07_GraphWays_r3t19 [] [0, 1, 2, 3, 15, 17, 18, 19, 20, 21, 22, 23, 24, 25, 26, 27, 28, 29, 30, 31, 32, 33, 34, 35, 36, 37, 38, 39, 40, 41, 42, 43, 44, 45, 46]) (opsC [] s_gnomonlaw07_GraphWays_r3p18 [0] (evOps call base [⟨some 39, (.move (.t 0)), some (35, true)⟩] f H)) := (row_op call it base s_gnomonlaw07_GraphWays_r3p18 s_gnomonlaw07_GraphWays_r3t19 (kc := [0]) (by kernel_rfl) f H).trans (by rw [row_ops]; rfl)
theorem s_gnomonlaw07_GraphWays_r3t19_x (call : CallF) (it : IterF) (base : Nat) (f : List V) (H : Heap) : evC call it base (.region s_gnomonlaw07_GraphWays_r3t19 [] [0, 1, 2, 3, 15, 17, 18, 19, 20, 21, 22, 23, 24, 25, 26, 27, 28, 29, 30, 31, 32, 33, 34, 35, 36, 37, 38, 39, 40, 41, 42, 43, 44, 45, 46]) f H = thenC call it base (.region s_gnomonlaw07_GraphWays_r3t20 [] [0, 1, 2, 3, 15, 17, 18, 19, 20, 21, 22, 23, 24, 25, 26, 27, 28, 29, 30, 31, 32, 33, 34, 35, 36, 37, 38, 39, 40, 41, 42, 43, 44, 45, 46]) (opsC [] s_gnomonlaw07_GraphWays_r3p19 [2] (evOps call base [⟨some 40, (.move (.t 2)), some (35, true)⟩] f H)) := (row_op call it base s_gnomonlaw07_GraphWays_r3p19 s_gnomonlaw07_GraphWays_r3t20 (kc := [2]) (by kernel_rfl) f H).trans (by rw [row_ops]; rfl)
theorem s_gnomonlaw07_GraphWays_r3t20_x (call : CallF) (it : IterF) (base : Nat) (f : List V) (H : Heap) : evC call it base (.region s_gnomonlaw07_GraphWays_r3t20 [] [0, 1, 2, 3, 15, 17, 18, 19, 20, 21, 22, 23, 24, 25, 26, 27, 28, 29, 30, 31, 32, 33, 34, 35, 36, 37, 38, 39, 40, 41, 42, 43, 44, 45, 46]) f H = thenC call it base (.region s_gnomonlaw07_GraphWays_r3t21 [] [0, 1, 2, 3, 15, 17, 18, 19, 20, 21, 22, 23, 24, 25, 26, 27, 28, 29, 30, 31, 32, 33, 34, 35, 36, 37, 38, 39, 40, 41, 42, 43, 44, 45, 46]) (opsC [] s_gnomonlaw07_GraphWays_r3p20 [39, 40] (evOps call base [⟨some 41, (.call (.c (.fn 24 [] [])) [(.t 39), (.t 40)]), some (35, true)⟩] f H)) := (row_op call it base s_gnomonlaw07_GraphWays_r3p20 s_gnomonlaw07_GraphWays_r3t21 (kc := [39, 40]) (by kernel_rfl) f H).trans (by rw [row_ops]; rfl)
theorem s_gnomonlaw07_GraphWays_r3t21_x (call : CallF) (it : IterF) (base : Nat) (f : List V) (H : Heap) : evC call it base (.region s_gnomonlaw07_GraphWays_r3t21 [] [0, 1, 2, 3, 15, 17, 18, 19, 20, 21, 22, 23, 24, 25, 26, 27, 28, 29, 30, 31, 32, 33, 34, 35, 36, 37, 38, 39, 40, 41, 42, 43, 44, 45, 46]) f H = thenC call it base (.region s_gnomonlaw07_GraphWays_r3t22 [] [0, 1, 2, 3, 15, 17, 18, 19, 20, 21, 22, 23, 24, 25, 26, 27, 28, 29, 30, 31, 32, 33, 34, 35, 36, 37, 38, 39, 40, 41, 42, 43, 44, 45, 46]) (opsC [] s_gnomonlaw07_GraphWays_r3p21 [38, 41] (evOps call base [⟨some 42, (.call (.c (.fn 22 [] [])) [(.t 38), (.t 41)]), some (35, true)⟩] f H)) := (row_op call it base s_gnomonlaw07_GraphWays_r3p21 s_gnomonlaw07_GraphWays_r3t22 (kc := [38, 41]) (by kernel_rfl) f H).trans (by rw [row_ops]; rfl)
theorem s_gnomonlaw07_GraphWays_r3p22_tale (fr : List V) (H : Heap) : evTale (symAll s_gnomonlaw07_GraphWays_r3p22 [35, 42, 43] [44]) [35, 42, 43] fr H = evTale (some (45, [], [(44, (.pick (.t 35) (.t 42) (.c (.s (.bool false)))))])) [35, 42, 43] fr H := tale_row (items := [.sub 0 [] [], .sub 0 [] []]) (by kernel_rfl) fr H
theorem s_gnomonlaw07_GraphWays_r3t22_x (call : CallF) (it : IterF) (base : Nat) (f : List V) (H : Heap) : evC call it base (.region s_gnomonlaw07_GraphWays_r3t22 [] [0, 1, 2, 3, 15, 17, 18, 19, 20, 21, 22, 23, 24, 25, 26, 27, 28, 29, 30, 31, 32, 33, 34, 35, 36, 37, 38, 39, 40, 41, 42, 43, 44, 45, 46]) f H = segC call it base s_gnomonlaw07_GraphWays_r3t23 [0, 1, 2, 3, 15, 17, 18, 19, 20, 21, 22, 23, 24, 25, 26, 27, 28, 29, 30, 31, 32, 33, 34, 35, 36, 37, 38, 39, 40, 41, 42, 43, 44, 45, 46] H (evTale (symAll s_gnomonlaw07_GraphWays_r3p22 [35, 42, 43] [44]) [35, 42, 43] f H) (origRow call it base s_gnomonlaw07_GraphWays_r3t22 [0, 1, 2, 3, 15, 17, 18, 19, 20, 21, 22, 23, 24, 25, 26, 27, 28, 29, 30, 31, 32, 33, 34, 35, 36, 37, 38, 39, 40, 41, 42, 43, 44, 45, 46] f H) := row_seg call it base s_gnomonlaw07_GraphWays_r3p22 s_gnomonlaw07_GraphWays_r3t23 (by kernel_rfl) f H
theorem s_gnomonlaw07_GraphWays_r3t23_x (call : CallF) (it : IterF) (base : Nat) (f : List V) (H : Heap) : evC call it base (.region s_gnomonlaw07_GraphWays_r3t23 [] [0, 1, 2, 3, 15, 17, 18, 19, 20, 21, 22, 23, 24, 25, 26, 27, 28, 29, 30, 31, 32, 33, 34, 35, 36, 37, 38, 39, 40, 41, 42, 43, 44, 45, 46]) f H = thenC call it base (.region s_gnomonlaw07_GraphWays_r3t24 [] [0, 1, 2, 3, 15, 17, 18, 19, 20, 21, 22, 23, 24, 25, 26, 27, 28, 29, 30, 31, 32, 33, 34, 35, 36, 37, 38, 39, 40, 41, 42, 43, 44, 45, 46]) (opsC [] s_gnomonlaw07_GraphWays_r3p23 [] (evOps call base [⟨some 45, (.call (.c (.fn 10 [] [])) []), some (44, true)⟩] f H)) := (row_op call it base s_gnomonlaw07_GraphWays_r3p23 s_gnomonlaw07_GraphWays_r3t24 (kc := []) (by kernel_rfl) f H).trans (by rw [row_ops]; rfl)
theorem s_gnomonlaw07_GraphWays_r3t24_tale (fr : List V) (H : Heap) : evTale (symAll s_gnomonlaw07_GraphWays_r3t24 [0, 1, 2, 3, 15, 17, 18, 19, 20, 21, 22, 23, 24, 25, 26, 27, 28, 29, 30, 31, 32, 33, 34, 35, 36, 37, 38, 39, 40, 41, 42, 43, 44, 45, 46] [8]) [0, 1, 2, 3, 15, 17, 18, 19, 20, 21, 22, 23, 24, 25, 26, 27, 28, 29, 30, 31, 32, 33, 34, 35, 36, 37, 38, 39, 40, 41, 42, 43, 44, 45, 46] fr H = evTale (some (47, [], [(8, (.pick (.t 44) (.t 45) (.c (.s (.bool false)))))])) [0, 1, 2, 3, 15, 17, 18, 19, 20, 21, 22, 23, 24, 25, 26, 27, 28, 29, 30, 31, 32, 33, 34, 35, 36, 37, 38, 39, 40, 41, 42, 43, 44, 45, 46] fr H := tale_row (items := [.sub 0 [] [], .sub 0 [] []]) (by kernel_rfl) fr H
theorem s_gnomonlaw07_GraphWays_r3t24_x (call : CallF) (it : IterF) (base : Nat) (f : List V) (H : Heap) : evC call it base (.region s_gnomonlaw07_GraphWays_r3t24 [] [0, 1, 2, 3, 15, 17, 18, 19, 20, 21, 22, 23, 24, 25, 26, 27, 28, 29, 30, 31, 32, 33, 34, 35, 36, 37, 38, 39, 40, 41, 42, 43, 44, 45, 46]) f H = segL H (evTale (symAll s_gnomonlaw07_GraphWays_r3t24 [0, 1, 2, 3, 15, 17, 18, 19, 20, 21, 22, 23, 24, 25, 26, 27, 28, 29, 30, 31, 32, 33, 34, 35, 36, 37, 38, 39, 40, 41, 42, 43, 44, 45, 46] [8]) [0, 1, 2, 3, 15, 17, 18, 19, 20, 21, 22, 23, 24, 25, 26, 27, 28, 29, 30, 31, 32, 33, 34, 35, 36, 37, 38, 39, 40, 41, 42, 43, 44, 45, 46] f H) (origRow call it base s_gnomonlaw07_GraphWays_r3t24 [0, 1, 2, 3, 15, 17, 18, 19, 20, 21, 22, 23, 24, 25, 26, 27, 28, 29, 30, 31, 32, 33, 34, 35, 36, 37, 38, 39, 40, 41, 42, 43, 44, 45, 46] f H) := row_last call it base _ f H
def s_gnomonlaw07_GraphWays : ACFun := { ntmps := 47, results := [(.tmp 8)], body :=
  (.seq (.regionE s_gnomonlaw07_GraphWays_r0 s_gnomonlaw07_GraphWays_r0_k [])
  (.seq (.seq (.region s_gnomonlaw07_GraphWays_r1 [] [9, 10, 11, 12, 13, 14])
  (.cond (.t 15)
  (.seq (.region s_gnomonlaw07_GraphWays_r2 [] [0, 1, 2, 3, 15, 16])
  .ret)
  .skip))
  (.seq (.region s_gnomonlaw07_GraphWays_r3 [] [0, 1, 2, 3, 15, 17, 18, 19, 20, 21, 22, 23, 24, 25, 26, 27, 28, 29, 30, 31, 32, 33, 34, 35, 36, 37, 38, 39, 40, 41, 42, 43, 44, 45, 46])
  .ret))) }
abbrev k_gnomonref07_Bools : Nat := 17
def s_gnomonref07_Bools_r0_k : List Nat := [2, 3, 4, 5, 6, 7, 8, 9, 10, 11, 12, 13, 14, 15, 16, 17, 18, 19, 20, 21, 22, 23, 24, 25]
theorem s_gnomonref07_Bools_r0_kT : killV s_gnomonref07_Bools_r0_k (startV 26 [] 2) = [] := by kernel_rfl
theorem s_gnomonref07_Bools_r0_kA0 : s_gnomonref07_Bools_r0_k.contains 0 = false := by kernel_rfl
theorem s_gnomonref07_Bools_r0_kA1 : s_gnomonref07_Bools_r0_k.contains 1 = false := by kernel_rfl
def s_gnomonref07_Bools_r0 : List AOper := [
  ⟨some 4, (.move (.c (.s (.bool false)))), none⟩]
theorem s_gnomonref07_Bools_r0_tale (fr : List V) (H : Heap) : evTale (symAll s_gnomonref07_Bools_r0 s_gnomonref07_Bools_r0_k []) s_gnomonref07_Bools_r0_k fr H = evTale (some (5, [], [])) s_gnomonref07_Bools_r0_k fr H := tale_row (items := [.cc (.s (.bool false))]) (by kernel_rfl) fr H
def s_gnomonref07_Bools_r1 : List AOper := [
  ⟨some 6, (.move (.t 0)), none⟩,
  ⟨some 7, (.lenS .s (.t 6)), none⟩,
  ⟨some 8, (.move (.t 1)), none⟩,
  ⟨some 9, (.lenS .s (.t 8)), none⟩,
  ⟨some 10, (.bin .neq (.t 7) (.t 9)), none⟩]
theorem s_gnomonref07_Bools_r1_tale (fr : List V) (H : Heap) : evTale (symAll s_gnomonref07_Bools_r1 [6, 7, 8, 9] [10]) [6, 7, 8, 9] fr H = evTale (some (11, [], [(10, (.op (.bin .neq (.t 0) (.t 1)) [(.op (.lenS .s (.t 0)) [(.t 0)]), (.op (.lenS .s (.t 0)) [(.t 1)])]))])) [6, 7, 8, 9] fr H := tale_row (items := [.tt 0, .sub 0 [0] [], .tt 1, .sub 0 [1] [], .sub 0 [] []]) (by kernel_rfl) fr H
def s_gnomonref07_Bools_r2 : List AOper := [
  ⟨some 4, (.move (.c (.s (.bool false)))), none⟩]
theorem s_gnomonref07_Bools_r2_tale (fr : List V) (H : Heap) : evTale (symAll s_gnomonref07_Bools_r2 [0, 1, 10] [4]) [0, 1, 10] fr H = evTale (some (5, [], [(4, (.c (.s (.bool false))))])) [0, 1, 10] fr H := tale_row (items := [.cc (.s (.bool false))]) (by kernel_rfl) fr H
def s_gnomonref07_Bools_r3 : List AOper := [
  ⟨some 5, (.move (.c (.s (.int .i64 0)))), none⟩]
theorem s_gnomonref07_Bools_r3_tale (fr : List V) (H : Heap) : evTale (symAll s_gnomonref07_Bools_r3 [10] [5]) [10] fr H = evTale (some (6, [], [(5, (.c (.s (.int .i64 0))))])) [10] fr H := tale_row (items := [.cc (.s (.int .i64 0))]) (by kernel_rfl) fr H
def s_gnomonref07_Bools_r4 : List AOper := [
  ⟨some 11, (.move (.t 5)), none⟩,
  ⟨some 12, (.move (.t 0)), none⟩,
  ⟨some 13, (.lenS .s (.t 12)), none⟩,
  ⟨some 14, (.bin .lss (.t 11) (.t 13)), none⟩]
theorem s_gnomonref07_Bools_r4_tale (fr : List V) (H : Heap) : evTale (symAll s_gnomonref07_Bools_r4 [11, 12, 13] [14]) [11, 12, 13] fr H = evTale (some (15, [], [(14, (.op (.bin .lss (.t 0) (.t 1)) [(.t 5), (.op (.lenS .s (.t 0)) [(.t 0)])]))])) [11, 12, 13] fr H := tale_row (items := [.tt 5, .tt 0, .sub 0 [1] [], .sub 0 [] []]) (by kernel_rfl) fr H
def s_gnomonref07_Bools_r5 : List AOper := [
  ⟨some 17, (.move (.t 0)), none⟩,
  ⟨some 18, (.move (.t 5)), none⟩,
  ⟨some 19, (.indexAddr 1 (.t 17) (.t 18)), none⟩,
  ⟨some 20, (.load false 1 (.t 19)), none⟩,
  ⟨some 21, (.move (.t 1)), none⟩,
  ⟨some 22, (.move (.t 5)), none⟩,
  ⟨some 23, (.indexAddr 1 (.t 21) (.t 22)), none⟩,
  ⟨some 24, (.load false 1 (.t 23)), none⟩,
  ⟨some 25, (.eqB true (.t 20) (.t 24)), none⟩]
theorem s_gnomonref07_Bools_r5_tale (fr : List V) (H : Heap) : evTale (symAll s_gnomonref07_Bools_r5 [14, 17, 18, 19, 20, 21, 22, 23, 24] [25]) [14, 17, 18, 19, 20, 21, 22, 23, 24] fr H = evTale (some (26, [], [(25, (.op (.eqB true (.t 0) (.t 1)) [(.op (.load false 1 (.t 0)) [(.op (.indexAddr 1 (.t 0) (.t 1)) [(.t 0), (.t 5)])]), (.op (.load false 1 (.t 0)) [(.op (.indexAddr 1 (.t 0) (.t 1)) [(.t 1), (.t 5)])])]))])) [14, 17, 18, 19, 20, 21, 22, 23, 24] fr H := tale_row (items := [.tt 0, .tt 5, .sub 0 [0, 0] [], .sub 0 [0] [], .tt 1, .tt 5, .sub 0 [1, 0] [], .sub 0 [1] [], .sub 0 [] []]) (by kernel_rfl) fr H
def s_gnomonref07_Bools_r6 : List AOper := [
  ⟨some 4, (.move (.c (.s (.bool false)))), none⟩]
theorem s_gnomonref07_Bools_r6_tale (fr : List V) (H : Heap) : evTale (symAll s_gnomonref07_Bools_r6 [0, 1, 5, 25] [4]) [0, 1, 5, 25] fr H = evTale (some (5, [], [(4, (.c (.s (.bool false))))])) [0, 1, 5, 25] fr H := tale_row (items := [.cc (.s (.bool false))]) (by kernel_rfl) fr H
def s_gnomonref07_Bools_r7 : List AOper := [
  ⟨some 15, (.move (.t 5)), none⟩,
  ⟨some 16, (.bin .add (.t 15) (.c (.s (.int .i64 1)))), none⟩,
  ⟨some 5, (.move (.t 16)), none⟩]
theorem s_gnomonref07_Bools_r7_tale (fr : List V) (H : Heap) : evTale (symAll s_gnomonref07_Bools_r7 [15, 16, 25] [5]) [15, 16, 25] fr H = evTale (some (17, [], [(5, (.op (.bin .add (.t 0) (.c (.s (.int .i64 1)))) [(.t 5), (.c (.s (.int .i64 1)))]))])) [15, 16, 25] fr H := tale_row (items := [.tt 5, .sub 0 [] [], .sub 0 [] []]) (by kernel_rfl) fr H
def s_gnomonref07_Bools_l0_b : ACode :=
  (.seq (.seq (.regionE s_gnomonref07_Bools_r4 [11, 12, 13] [14])
  (.cond (.t 14)
  .skip
  (.exit 0)))
  (.seq (.block 1
  (.seq (.regionE s_gnomonref07_Bools_r5 [14, 17, 18, 19, 20, 21, 22, 23, 24] [25])
  (.cond (.t 25)
  (.seq (.regionE s_gnomonref07_Bools_r6 [0, 1, 5, 25] [4])
  .ret)
  .skip)))
  (.regionE s_gnomonref07_Bools_r7 [15, 16, 25] [5])))
def s_gnomonref07_Bools_l0 : ACode := s_gnomonref07_Bools_l0_b
theorem s_gnomonref07_Bools_l0_ev (call : CallF) (it : IterF) (base : Nat) (fr : List V) (H : Heap) : evC call it base s_gnomonref07_Bools_l0 fr H = evC call it base s_gnomonref07_Bools_l0_b fr H := rfl
def s_gnomonref07_Bools_r8 : List AOper := [
  ⟨some 4, (.move (.c (.s (.bool true)))), none⟩]
theorem s_gnomonref07_Bools_r8_tale (fr : List V) (H : Heap) : evTale (symAll s_gnomonref07_Bools_r8 [0, 1, 5, 14] [4]) [0, 1, 5, 14] fr H = evTale (some (5, [], [(4, (.c (.s (.bool true))))])) [0, 1, 5, 14] fr H := tale_row (items := [.cc (.s (.bool true))]) (by kernel_rfl) fr H
def s_gnomonref07_Bools : ACFun := { ntmps := 26, results := [(.tmp 4)], body :=
  (.seq (.regionE s_gnomonref07_Bools_r0 s_gnomonref07_Bools_r0_k [])
  (.seq (.seq (.regionE s_gnomonref07_Bools_r1 [6, 7, 8, 9] [10])
  (.cond (.t 10)
  (.seq (.regionE s_gnomonref07_Bools_r2 [0, 1, 10] [4])
  .ret)
  .skip))
  (.seq (.seq (.regionE s_gnomonref07_Bools_r3 [10] [5])
  (.block 0
  (.loop [] s_gnomonref07_Bools_l0)))
  (.seq (.regionE s_gnomonref07_Bools_r8 [0, 1, 5, 14] [4])
  .ret)))) }
abbrev k_graph_Reach : Nat := 18
def s_graph_Reach_r0_k : List Nat := [0, 3, 4, 5, 6, 7, 8, 9, 10, 11, 12, 13, 14, 15, 16, 17, 18, 19, 20, 21, 22, 23, 24, 25, 26, 27, 28, 29, 30, 31, 32, 33, 34, 35, 36, 37, 38, 39, 40, 41, 42, 43, 44, 45, 46, 47, 48, 49, 50, 51, 52, 53, 54]
theorem s_graph_Reach_r0_k_kA0 : s_graph_Reach_r0_k.contains 0 = true := by kernel_rfl
theorem s_graph_Reach_r0_k_kA1 : s_graph_Reach_r0_k.contains 1 = false := by kernel_rfl
theorem s_graph_Reach_r0_k_kA2 : s_graph_Reach_r0_k.contains 2 = false := by kernel_rfl
theorem s_graph_Reach_r0_k_kA4 : s_graph_Reach_r0_k.contains 4 = true := by kernel_rfl
def s_graph_Reach_r0t1 : List AOper := [⟨some 4, (.move (.c (.s (.slice none 0 0)))), none⟩]
def s_graph_Reach_r0p0 : List AOper := [⟨some 2, (.box (.t 0)), none⟩]
def s_graph_Reach_r0 : List AOper := s_graph_Reach_r0p0 ++ s_graph_Reach_r0t1
def s_graph_Reach_r0p0_k : List Nat := [0, 3, 4, 5, 6, 7, 8, 9, 10, 11, 12, 13, 14, 15, 16, 17, 18, 19, 20, 21, 22, 23, 24, 25, 26, 27, 28, 29, 30, 31, 32, 33, 34, 35, 36, 37, 38, 39, 40, 41, 42, 43, 44, 45, 46, 47, 48, 49, 50, 51, 52, 53, 54]
theorem s_graph_Reach_r0p0_k_kA0 : s_graph_Reach_r0p0_k.contains 0 = true := by kernel_rfl
theorem s_graph_Reach_r0p0_k_kA1 : s_graph_Reach_r0p0_k.contains 1 = false := by kernel_rfl
theorem s_graph_Reach_r0p0_k_kA2 : s_graph_Reach_r0p0_k.contains 2 = false := by kernel_rfl
theorem s_graph_Reach_r0p0_k_kA4 : s_graph_Reach_r0p0_k.contains 4 = true := by kernel_rfl
theorem s_graph_Reach_r0_x (call : CallF) (it : IterF) (base : Nat) (f : List V) (H : Heap) : evC call it base (.region s_graph_Reach_r0 [] s_graph_Reach_r0_k) f H = thenC call it base (.region s_graph_Reach_r0t1 [] s_graph_Reach_r0_k) (opsC [] s_graph_Reach_r0p0 s_graph_Reach_r0p0_k (evOps call base [⟨some 2, (.box (.t 0)), none⟩] f H)) := (row_op call it base s_graph_Reach_r0p0 s_graph_Reach_r0t1 (kc := s_graph_Reach_r0p0_k) (by kernel_rfl) f H).trans (by rw [row_ops]; rfl)
theorem s_graph_Reach_r0t1_tale (fr : List V) (H : Heap) : evTale (symAll s_graph_Reach_r0t1 s_graph_Reach_r0_k []) s_graph_Reach_r0_k fr H = evTale (some (5, [], [])) s_graph_Reach_r0_k fr H := tale_row (items := [.cc (.s (.slice none 0 0))]) (by kernel_rfl) fr H
theorem s_graph_Reach_r0t1_x (call : CallF) (it : IterF) (base : Nat) (f : List V) (H : Heap) : evC call it base (.region s_graph_Reach_r0t1 [] s_graph_Reach_r0_k) f H = segL H (evTale (symAll s_graph_Reach_r0t1 s_graph_Reach_r0_k []) s_graph_Reach_r0_k f H) (origRow call it base s_graph_Reach_r0t1 s_graph_Reach_r0_k f H) := row_last call it base _ f H
def s_graph_Reach_r1t3 : List AOper := [⟨none, (.store 1 (.t 5) (.t 15)), none⟩]
def s_graph_Reach_r1p2 : List AOper := [⟨some 5, (.alloc [(.s (.slice none 0 0))]), none⟩]
def s_graph_Reach_r1t2 : List AOper := s_graph_Reach_r1p2 ++ s_graph_Reach_r1t3
def s_graph_Reach_r1p1 : List AOper := [⟨some 15, (.mkSl [(.s (.bool false))] 1 1 (.t 14) (.t 14)), none⟩]
def s_graph_Reach_r1t1 : List AOper := s_graph_Reach_r1p1 ++ s_graph_Reach_r1t2
def s_graph_Reach_r1p0 : List AOper := [⟨some 13, (.load false 1 (.t 2)), none⟩, ⟨some 14, (.lenS .s (.t 13)), none⟩]
def s_graph_Reach_r1 : List AOper := s_graph_Reach_r1p0 ++ s_graph_Reach_r1t1
theorem s_graph_Reach_r1p0_tale (fr : List V) (H : Heap) : evTale (symAll s_graph_Reach_r1p0 [13] [14]) [13] fr H = evTale (some (15, [], [(14, (.op (.lenS .s (.t 0)) [(.op (.load false 1 (.t 0)) [(.t 2)])]))])) [13] fr H := tale_row (items := [.sub 0 [0] [], .sub 0 [] []]) (by kernel_rfl) fr H
theorem s_graph_Reach_r1_x (call : CallF) (it : IterF) (base : Nat) (f : List V) (H : Heap) : evC call it base (.region s_graph_Reach_r1 [] [13, 14, 15]) f H = segC call it base s_graph_Reach_r1t1 [13, 14, 15] H (evTale (symAll s_graph_Reach_r1p0 [13] [14]) [13] f H) (origRow call it base s_graph_Reach_r1 [13, 14, 15] f H) := row_seg call it base s_graph_Reach_r1p0 s_graph_Reach_r1t1 (by kernel_rfl) f H
theorem s_graph_Reach_r1t1_x (call : CallF) (it : IterF) (base : Nat) (f : List V) (H : Heap) : evC call it base (.region s_graph_Reach_r1t1 [] [13, 14, 15]) f H = thenC call it base (.region s_graph_Reach_r1t2 [] [13, 14, 15]) (opsC [] s_graph_Reach_r1p1 [14] (evOps call base [⟨some 15, (.mkSl [(.s (.bool false))] 1 1 (.t 14) (.t 14)), none⟩] f H)) := (row_op call it base s_graph_Reach_r1p1 s_graph_Reach_r1t2 (kc := [14]) (by kernel_rfl) f H).trans (by rw [row_ops]; rfl)
theorem s_graph_Reach_r1t2_x (call : CallF) (it : IterF) (base : Nat) (f : List V) (H : Heap) : evC call it base (.region s_graph_Reach_r1t2 [] [13, 14, 15]) f H = thenC call it base (.region s_graph_Reach_r1t3 [] [13, 14, 15]) (opsC [] s_graph_Reach_r1p2 [] (evOps call base [⟨some 5, (.alloc [(.s (.slice none 0 0))]), none⟩] f H)) := (row_op call it base s_graph_Reach_r1p2 s_graph_Reach_r1t3 (kc := []) (by kernel_rfl) f H).trans (by rw [row_ops]; rfl)
theorem s_graph_Reach_r1t3_x (call : CallF) (it : IterF) (base : Nat) (f : List V) (H : Heap) : evC call it base (.region s_graph_Reach_r1t3 [] [13, 14, 15]) f H = opsC [] s_graph_Reach_r1t3 [13, 14, 15] (evOps call base [⟨none, (.store 1 (.t 5) (.t 15)), none⟩] f H) := row_ops call it base _ _ _ f H
def s_graph_Reach_r2 : List AOper := [⟨some 6, (.alloc [(.s (.slice none 0 0))]), none⟩]
theorem s_graph_Reach_r2_x (call : CallF) (it : IterF) (base : Nat) (f : List V) (H : Heap) : evC call it base (.region s_graph_Reach_r2 [] []) f H = opsC [] s_graph_Reach_r2 [] (evOps call base [⟨some 6, (.alloc [(.s (.slice none 0 0))]), none⟩] f H) := row_ops call it base _ _ _ f H
def s_graph_Reach_r3 : List AOper := [
  ⟨some 16, (.mkFn 32 [] [(.t 2), (.t 5), (.t 6)]), none⟩,
  ⟨some 7, (.move (.t 16)), none⟩]
theorem s_graph_Reach_r3_tale (fr : List V) (H : Heap) : evTale (symAll s_graph_Reach_r3 [16] [7]) [16] fr H = evTale (some (17, [], [(7, (.op (.mkFn 32 [] [(.t 0), (.t 1), (.t 2)]) [(.t 2), (.t 5), (.t 6)]))])) [16] fr H := tale_row (items := [.sub 0 [] [], .sub 0 [] []]) (by kernel_rfl) fr H
def s_graph_Reach_r4 : List AOper := [
  ⟨some 17, (.move (.t 1)), none⟩,
  ⟨some 18, (.lenS .s (.t 17)), none⟩,
  ⟨some 19, (.move (.c (.s (.int .i64 0)))), none⟩]
theorem s_graph_Reach_r4_tale (fr : List V) (H : Heap) : evTale (symAll s_graph_Reach_r4 [1] [17, 18, 19]) [1] fr H = evTale (some (20, [], [(17, (.t 1)), (18, (.op (.lenS .s (.t 0)) [(.t 1)])), (19, (.c (.s (.int .i64 0))))])) [1] fr H := tale_row (items := [.tt 1, .sub 1 [] [], .cc (.s (.int .i64 0))]) (by kernel_rfl) fr H
def s_graph_Reach_r5 : List AOper := [
  ⟨some 20, (.bin .lss (.t 19) (.t 18)), none⟩]
theorem s_graph_Reach_r5_tale (fr : List V) (H : Heap) : evTale (symAll s_graph_Reach_r5 [] [20]) [] fr H = evTale (some (21, [], [(20, (.op (.bin .lss (.t 0) (.t 1)) [(.t 19), (.t 18)]))])) [] fr H := tale_row (items := [.sub 0 [] []]) (by kernel_rfl) fr H
def s_graph_Reach_r6 : List AOper := [
  ⟨some 21, (.indexAddr 1 (.t 17) (.t 19)), none⟩,
  ⟨some 22, (.load false 1 (.t 21)), none⟩,
  ⟨some 9, (.move (.t 22)), none⟩]
theorem s_graph_Reach_r6_tale (fr : List V) (H : Heap) : evTale (symAll s_graph_Reach_r6 [20, 21, 22] [9]) [20, 21, 22] fr H = evTale (some (23, [], [(9, (.op (.load false 1 (.t 0)) [(.op (.indexAddr 1 (.t 0) (.t 1)) [(.t 17), (.t 19)])]))])) [20, 21, 22] fr H := tale_row (items := [.sub 0 [0] [], .sub 0 [] [], .sub 0 [] []]) (by kernel_rfl) fr H
def s_graph_Reach_r7t1 : List AOper := [⟨some 25, (.call (.t 23) [(.t 24)]), none⟩]
def s_graph_Reach_r7p0 : List AOper := [⟨some 23, (.move (.t 7)), none⟩, ⟨some 24, (.move (.t 9)), none⟩]
def s_graph_Reach_r7 : List AOper := s_graph_Reach_r7p0 ++ s_graph_Reach_r7t1
theorem s_graph_Reach_r7p0_tale (fr : List V) (H : Heap) : evTale (symAll s_graph_Reach_r7p0 [9] [23, 24]) [9] fr H = evTale (some (25, [], [(23, (.t 7)), (24, (.t 9))])) [9] fr H := tale_row (items := [.tt 7, .tt 9]) (by kernel_rfl) fr H
theorem s_graph_Reach_r7_x (call : CallF) (it : IterF) (base : Nat) (f : List V) (H : Heap) : evC call it base (.region s_graph_Reach_r7 [] [9, 23, 24, 25]) f H = segC call it base s_graph_Reach_r7t1 [9, 23, 24, 25] H (evTale (symAll s_graph_Reach_r7p0 [9] [23, 24]) [9] f H) (origRow call it base s_graph_Reach_r7 [9, 23, 24, 25] f H) := row_seg call it base s_graph_Reach_r7p0 s_graph_Reach_r7t1 (by kernel_rfl) f H
theorem s_graph_Reach_r7t1_x (call : CallF) (it : IterF) (base : Nat) (f : List V) (H : Heap) : evC call it base (.region s_graph_Reach_r7t1 [] [9, 23, 24, 25]) f H = opsC [] s_graph_Reach_r7t1 [9, 23, 24, 25] (evOps call base [⟨some 25, (.call (.t 23) [(.t 24)]), none⟩] f H) := row_ops call it base _ _ _ f H
def s_graph_Reach_r8 : List AOper := [
  ⟨some 26, (.bin .add (.t 19) (.c (.s (.int .i64 1)))), none⟩,
  ⟨some 19, (.move (.t 26)), none⟩]
theorem s_graph_Reach_r8_tale (fr : List V) (H : Heap) : evTale (symAll s_graph_Reach_r8 [26] [19]) [26] fr H = evTale (some (27, [], [(19, (.op (.bin .add (.t 0) (.c (.s (.int .i64 1)))) [(.t 19), (.c (.s (.int .i64 1)))]))])) [26] fr H := tale_row (items := [.sub 0 [] [], .sub 0 [] []]) (by kernel_rfl) fr H
def s_graph_Reach_l0_b : ACode :=
  (.seq (.regionE s_graph_Reach_r5 [] [20])
  (.seq (.cond (.t 20)
  .skip
  (.exit 0))
  (.seq (.block 1
  (.seq (.regionE s_graph_Reach_r6 [20, 21, 22] [9])
  (.region s_graph_Reach_r7 [] [9, 23, 24, 25])))
  (.regionE s_graph_Reach_r8 [26] [19]))))
def s_graph_Reach_l0 : ACode := s_graph_Reach_l0_b
theorem s_graph_Reach_l0_ev (call : CallF) (it : IterF) (base : Nat) (fr : List V) (H : Heap) : evC call it base s_graph_Reach_l0 fr H = evC call it base s_graph_Reach_l0_b fr H := rfl
def s_graph_Reach_r9 : List AOper := [
  ⟨some 27, (.load false 1 (.t 6)), none⟩,
  ⟨some 28, (.lenS .s (.t 27)), none⟩,
  ⟨some 29, (.bin .gtr (.t 28) (.c (.s (.int .i64 0)))), none⟩]
theorem s_graph_Reach_r9_tale (fr : List V) (H : Heap) : evTale (symAll s_graph_Reach_r9 [27, 28] [29]) [27, 28] fr H = evTale (some (30, [], [(29, (.op (.bin .gtr (.t 0) (.c (.s (.int .i64 0)))) [(.op (.lenS .s (.t 0)) [(.op (.load false 1 (.t 0)) [(.t 6)])]), (.c (.s (.int .i64 0)))]))])) [27, 28] fr H := tale_row (items := [.sub 0 [0, 0] [], .sub 0 [0] [], .sub 0 [] []]) (by kernel_rfl) fr H
def s_graph_Reach_r10 : List AOper := [
  ⟨some 30, (.load false 1 (.t 6)), none⟩,
  ⟨some 31, (.load false 1 (.t 6)), none⟩,
  ⟨some 32, (.lenS .s (.t 31)), none⟩,
  ⟨some 33, (.bin .sub (.t 32) (.c (.s (.int .i64 1)))), none⟩,
  ⟨some 34, (.indexAddr 1 (.t 30) (.t 33)), none⟩,
  ⟨some 35, (.load false 1 (.t 34)), none⟩,
  ⟨some 10, (.move (.t 35)), none⟩]
theorem s_graph_Reach_r10_tale (fr : List V) (H : Heap) : evTale (symAll s_graph_Reach_r10 [29, 30, 31, 32, 33, 34, 35] [10]) [29, 30, 31, 32, 33, 34, 35] fr H = evTale (some (36, [], [(10, (.op (.load false 1 (.t 0)) [(.op (.indexAddr 1 (.t 0) (.t 1)) [(.op (.load false 1 (.t 0)) [(.t 6)]), (.op (.bin .sub (.t 0) (.c (.s (.int .i64 1)))) [(.op (.lenS .s (.t 0)) [(.op (.load false 1 (.t 0)) [(.t 6)])]), (.c (.s (.int .i64 1)))])])]))])) [29, 30, 31, 32, 33, 34, 35] fr H := tale_row (items := [.sub 0 [0, 0] [], .sub 0 [0, 0] [], .sub 0 [0, 1, 0] [], .sub 0 [0, 1] [], .sub 0 [0] [], .sub 0 [] [], .sub 0 [] []]) (by kernel_rfl) fr H
def s_graph_Reach_r11t1 : List AOper := [⟨none, (.store 1 (.t 6) (.t 40)), none⟩]
def s_graph_Reach_r11p0 : List AOper := [⟨some 36, (.load false 1 (.t 6)), none⟩, ⟨some 37, (.load false 1 (.t 6)), none⟩, ⟨some 38, (.lenS .s (.t 37)), none⟩, ⟨some 39, (.bin .sub (.t 38) (.c (.s (.int .i64 1)))), none⟩, ⟨some 40, (.subSl 1 (.t 36) none (some (.t 39)) none), none⟩]
def s_graph_Reach_r11 : List AOper := s_graph_Reach_r11p0 ++ s_graph_Reach_r11t1
theorem s_graph_Reach_r11p0_tale (fr : List V) (H : Heap) : evTale (symAll s_graph_Reach_r11p0 [36, 37, 38, 39] [40]) [36, 37, 38, 39] fr H = evTale (some (41, [], [(40, (.op (.subSl 1 (.t 0) none (some (.t 1)) none) [(.op (.load false 1 (.t 0)) [(.t 6)]), (.op (.bin .sub (.t 0) (.c (.s (.int .i64 1)))) [(.op (.lenS .s (.t 0)) [(.op (.load false 1 (.t 0)) [(.t 6)])]), (.c (.s (.int .i64 1)))])]))])) [36, 37, 38, 39] fr H := tale_row (items := [.sub 0 [0] [], .sub 0 [0] [], .sub 0 [1, 0] [], .sub 0 [1] [], .sub 0 [] []]) (by kernel_rfl) fr H
theorem s_graph_Reach_r11_x (call : CallF) (it : IterF) (base : Nat) (f : List V) (H : Heap) : evC call it base (.region s_graph_Reach_r11 [] [36, 37, 38, 39, 40]) f H = segC call it base s_graph_Reach_r11t1 [36, 37, 38, 39, 40] H (evTale (symAll s_graph_Reach_r11p0 [36, 37, 38, 39] [40]) [36, 37, 38, 39] f H) (origRow call it base s_graph_Reach_r11 [36, 37, 38, 39, 40] f H) := row_seg call it base s_graph_Reach_r11p0 s_graph_Reach_r11t1 (by kernel_rfl) f H
theorem s_graph_Reach_r11t1_x (call : CallF) (it : IterF) (base : Nat) (f : List V) (H : Heap) : evC call it base (.region s_graph_Reach_r11t1 [] [36, 37, 38, 39, 40]) f H = opsC [] s_graph_Reach_r11t1 [36, 37, 38, 39, 40] (evOps call base [⟨none, (.store 1 (.t 6) (.t 40)), none⟩] f H) := row_ops call it base _ _ _ f H
def s_graph_Reach_r12 : List AOper := [
  ⟨some 41, (.load false 1 (.t 2)), none⟩,
  ⟨some 42, (.move (.t 10)), none⟩,
  ⟨some 43, (.indexAddr 1 (.t 41) (.t 42)), none⟩,
  ⟨some 44, (.load false 1 (.t 43)), none⟩,
  ⟨some 45, (.lenS .s (.t 44)), none⟩,
  ⟨some 46, (.move (.c (.s (.int .i64 0)))), none⟩]
theorem s_graph_Reach_r12_tale (fr : List V) (H : Heap) : evTale (symAll s_graph_Reach_r12 [10, 41, 42, 43] [44, 45, 46]) [10, 41, 42, 43] fr H = evTale (some (47, [], [(44, (.op (.load false 1 (.t 0)) [(.op (.indexAddr 1 (.t 0) (.t 1)) [(.op (.load false 1 (.t 0)) [(.t 2)]), (.t 10)])])), (45, (.op (.lenS .s (.t 0)) [(.op (.load false 1 (.t 0)) [(.op (.indexAddr 1 (.t 0) (.t 1)) [(.op (.load false 1 (.t 0)) [(.t 2)]), (.t 10)])])])), (46, (.c (.s (.int .i64 0))))])) [10, 41, 42, 43] fr H := tale_row (items := [.sub 0 [0, 0] [], .tt 10, .sub 0 [0] [], .sub 0 [] [], .sub 1 [] [], .cc (.s (.int .i64 0))]) (by kernel_rfl) fr H
def s_graph_Reach_r13 : List AOper := [
  ⟨some 47, (.bin .lss (.t 46) (.t 45)), none⟩]
theorem s_graph_Reach_r13_tale (fr : List V) (H : Heap) : evTale (symAll s_graph_Reach_r13 [] [47]) [] fr H = evTale (some (48, [], [(47, (.op (.bin .lss (.t 0) (.t 1)) [(.t 46), (.t 45)]))])) [] fr H := tale_row (items := [.sub 0 [] []]) (by kernel_rfl) fr H
def s_graph_Reach_r14 : List AOper := [
  ⟨some 48, (.indexAddr 1 (.t 44) (.t 46)), none⟩,
  ⟨some 49, (.load false 1 (.t 48)), none⟩,
  ⟨some 12, (.move (.t 49)), none⟩]
theorem s_graph_Reach_r14_tale (fr : List V) (H : Heap) : evTale (symAll s_graph_Reach_r14 [47, 48, 49] [12]) [47, 48, 49] fr H = evTale (some (50, [], [(12, (.op (.load false 1 (.t 0)) [(.op (.indexAddr 1 (.t 0) (.t 1)) [(.t 44), (.t 46)])]))])) [47, 48, 49] fr H := tale_row (items := [.sub 0 [0] [], .sub 0 [] [], .sub 0 [] []]) (by kernel_rfl) fr H
def s_graph_Reach_r15t1 : List AOper := [⟨some 52, (.call (.t 50) [(.t 51)]), none⟩]
def s_graph_Reach_r15p0 : List AOper := [⟨some 50, (.move (.t 7)), none⟩, ⟨some 51, (.move (.t 12)), none⟩]
def s_graph_Reach_r15 : List AOper := s_graph_Reach_r15p0 ++ s_graph_Reach_r15t1
theorem s_graph_Reach_r15p0_tale (fr : List V) (H : Heap) : evTale (symAll s_graph_Reach_r15p0 [12] [50, 51]) [12] fr H = evTale (some (52, [], [(50, (.t 7)), (51, (.t 12))])) [12] fr H := tale_row (items := [.tt 7, .tt 12]) (by kernel_rfl) fr H
theorem s_graph_Reach_r15_x (call : CallF) (it : IterF) (base : Nat) (f : List V) (H : Heap) : evC call it base (.region s_graph_Reach_r15 [] [12, 50, 51, 52]) f H = segC call it base s_graph_Reach_r15t1 [12, 50, 51, 52] H (evTale (symAll s_graph_Reach_r15p0 [12] [50, 51]) [12] f H) (origRow call it base s_graph_Reach_r15 [12, 50, 51, 52] f H) := row_seg call it base s_graph_Reach_r15p0 s_graph_Reach_r15t1 (by kernel_rfl) f H
theorem s_graph_Reach_r15t1_x (call : CallF) (it : IterF) (base : Nat) (f : List V) (H : Heap) : evC call it base (.region s_graph_Reach_r15t1 [] [12, 50, 51, 52]) f H = opsC [] s_graph_Reach_r15t1 [12, 50, 51, 52] (evOps call base [⟨some 52, (.call (.t 50) [(.t 51)]), none⟩] f H) := row_ops call it base _ _ _ f H
def s_graph_Reach_r16 : List AOper := [
  ⟨some 53, (.bin .add (.t 46) (.c (.s (.int .i64 1)))), none⟩,
  ⟨some 46, (.move (.t 53)), none⟩]
theorem s_graph_Reach_r16_tale (fr : List V) (H : Heap) : evTale (symAll s_graph_Reach_r16 [53] [46]) [53] fr H = evTale (some (54, [], [(46, (.op (.bin .add (.t 0) (.c (.s (.int .i64 1)))) [(.t 46), (.c (.s (.int .i64 1)))]))])) [53] fr H := tale_row (items := [.sub 0 [] [], .sub 0 [] []]) (by kernel_rfl) fr H
def s_graph_Reach_l1_b : ACode :=
  (.seq (.regionE s_graph_Reach_r13 [] [47])
  (.seq (.cond (.t 47)
  .skip
  (.exit 4))
  (.seq (.block 5
  (.seq (.regionE s_graph_Reach_r14 [47, 48, 49] [12])
  (.region s_graph_Reach_r15 [] [12, 50, 51, 52])))
  (.regionE s_graph_Reach_r16 [53] [46]))))
def s_graph_Reach_l1 : ACode := s_graph_Reach_l1_b
theorem s_graph_Reach_l1_ev (call : CallF) (it : IterF) (base : Nat) (fr : List V) (H : Heap) : evC call it base s_graph_Reach_l1 fr H = evC call it base s_graph_Reach_l1_b fr H := rfl
def s_graph_Reach_l2_b : ACode :=
  (.seq (.seq (.regionE s_graph_Reach_r9 [27, 28] [29])
  (.cond (.t 29)
  .skip
  (.exit 2)))
  (.block 3
  (.seq (.regionE s_graph_Reach_r10 [29, 30, 31, 32, 33, 34, 35] [10])
  (.seq (.region s_graph_Reach_r11 [] [36, 37, 38, 39, 40])
  (.seq (.regionE s_graph_Reach_r12 [10, 41, 42, 43] [44, 45, 46])
  (.block 4
  (.loop [] s_graph_Reach_l1)))))))
def s_graph_Reach_l2 : ACode := s_graph_Reach_l2_b
theorem s_graph_Reach_l2_ev (call : CallF) (it : IterF) (base : Nat) (fr : List V) (H : Heap) : evC call it base s_graph_Reach_l2 fr H = evC call it base s_graph_Reach_l2_b fr H := rfl
def s_graph_Reach_r17 : List AOper := [
  ⟨some 54, (.load false 1 (.t 5)), none⟩,
  ⟨some 4, (.move (.t 54)), none⟩]
theorem s_graph_Reach_r17_tale (fr : List V) (H : Heap) : evTale (symAll s_graph_Reach_r17 [2, 5, 6, 7, 29, 54] [4]) [2, 5, 6, 7, 29, 54] fr H = evTale (some (55, [], [(4, (.op (.load false 1 (.t 0)) [(.t 5)]))])) [2, 5, 6, 7, 29, 54] fr H := tale_row (items := [.sub 0 [] [], .sub 0 [] []]) (by kernel_rfl) fr H
def s_graph_Reach : ACFun := { ntmps := 55, results := [(.tmp 4)], body :=
  (.seq (.region s_graph_Reach_r0 [] s_graph_Reach_r0_k)
  (.seq (.region s_graph_Reach_r1 [] [13, 14, 15])
  (.seq (.region s_graph_Reach_r2 [] [])
  (.seq (.regionE s_graph_Reach_r3 [16] [7])
  (.seq (.seq (.regionE s_graph_Reach_r4 [1] [17, 18, 19])
  (.block 0
  (.loop [] s_graph_Reach_l0)))
  (.seq (.block 2
  (.loop [17, 18, 19, 20, 44, 45, 46, 47] s_graph_Reach_l2))
  (.seq (.regionE s_graph_Reach_r17 [2, 5, 6, 7, 29, 54] [4])
  .ret))))))) }
theorem s_graph_Reach_first : firstOk (List.range' 2 (s_graph_Reach.ntmps - 2)) s_graph_Reach.body = true := by kernel_rfl
abbrev k_gnomonref07_Reach : Nat := 19
abbrev k_graph_Leads : Nat := 20
def s_graph_Leads_r0_k : List Nat := [3, 4, 5, 6, 7, 8, 9, 10, 11, 12, 13, 14, 15, 16, 17, 18, 19, 20, 21, 22, 23]
theorem s_graph_Leads_r0_kT : killV s_graph_Leads_r0_k (startV 24 [] 3) = [] := by kernel_rfl
theorem s_graph_Leads_r0_kA0 : s_graph_Leads_r0_k.contains 0 = false := by kernel_rfl
theorem s_graph_Leads_r0_kA1 : s_graph_Leads_r0_k.contains 1 = false := by kernel_rfl
theorem s_graph_Leads_r0_kA2 : s_graph_Leads_r0_k.contains 2 = false := by kernel_rfl
def s_graph_Leads_r0 : List AOper := [
  ⟨some 6, (.move (.c (.s (.bool false)))), none⟩]
theorem s_graph_Leads_r0_tale (fr : List V) (H : Heap) : evTale (symAll s_graph_Leads_r0 s_graph_Leads_r0_k []) s_graph_Leads_r0_k fr H = evTale (some (7, [], [])) s_graph_Leads_r0_k fr H := tale_row (items := [.cc (.s (.bool false))]) (by kernel_rfl) fr H
def s_graph_Leads_r1t5 : List AOper := [⟨some 20, (.move (.t 2)), some (15, true)⟩, ⟨some 21, (.indexAddr 1 (.t 19) (.t 20)), some (15, true)⟩, ⟨some 22, (.load false 1 (.t 21)), some (15, true)⟩, ⟨some 23, (.pick (.t 15) (.t 22) (.c (.s (.bool false)))), none⟩, ⟨some 6, (.move (.t 23)), none⟩]
def s_graph_Leads_r1p4 : List AOper := [⟨some 19, (.call (.c (.fn 18 [] [])) [(.t 16), (.t 18)]), some (15, true)⟩]
def s_graph_Leads_r1t4 : List AOper := s_graph_Leads_r1p4 ++ s_graph_Leads_r1t5
def s_graph_Leads_r1p3 : List AOper := [⟨some 18, (.buildSl 1 1 [(.s (.int .i64 0))] [(0, (.t 17))]), some (15, true)⟩]
def s_graph_Leads_r1t3 : List AOper := s_graph_Leads_r1p3 ++ s_graph_Leads_r1t4
def s_graph_Leads_r1p2 : List AOper := [⟨some 17, (.move (.t 1)), some (15, true)⟩]
def s_graph_Leads_r1t2 : List AOper := s_graph_Leads_r1p2 ++ s_graph_Leads_r1t3
def s_graph_Leads_r1p1 : List AOper := [⟨some 16, (.move (.t 0)), some (15, true)⟩]
def s_graph_Leads_r1t1 : List AOper := s_graph_Leads_r1p1 ++ s_graph_Leads_r1t2
def s_graph_Leads_r1p0 : List AOper := [⟨some 7, (.move (.t 2)), none⟩, ⟨some 8, (.bin .geq (.t 7) (.c (.s (.int .i64 0)))), none⟩, ⟨some 9, (.move (.t 8)), none⟩, ⟨some 10, (.move (.t 2)), some (9, true)⟩, ⟨some 11, (.move (.t 0)), some (9, true)⟩, ⟨some 12, (.lenS .s (.t 11)), some (9, true)⟩, ⟨some 13, (.bin .lss (.t 10) (.t 12)), some (9, true)⟩, ⟨some 14, (.pick (.t 9) (.t 13) (.c (.s (.bool false)))), none⟩, ⟨some 15, (.move (.t 14)), none⟩]
def s_graph_Leads_r1 : List AOper := s_graph_Leads_r1p0 ++ s_graph_Leads_r1t1
theorem s_graph_Leads_r1p0_tale (fr : List V) (H : Heap) : evTale (symAll s_graph_Leads_r1p0 [7, 8, 9, 10, 11, 12, 13, 14] [15]) [7, 8, 9, 10, 11, 12, 13, 14] fr H = evTale (some (16, [], [(15, (.pick (.op (.bin .geq (.t 0) (.c (.s (.int .i64 0)))) [(.t 2), (.c (.s (.int .i64 0)))]) (.op (.bin .lss (.t 0) (.t 1)) [(.t 2), (.op (.lenS .s (.t 0)) [(.t 0)])]) (.c (.s (.bool false)))))])) [7, 8, 9, 10, 11, 12, 13, 14] fr H := tale_row (items := [.tt 2, .sub 0 [0] [], .sub 0 [0] [], .sub 0 [1, 0] [9], .sub 0 [1, 1, 0] [9], .sub 0 [1, 1] [9], .sub 0 [1] [9], .sub 0 [] [], .sub 0 [] []]) (by kernel_rfl) fr H
theorem s_graph_Leads_r1_x (call : CallF) (it : IterF) (base : Nat) (f : List V) (H : Heap) : evC call it base (.region s_graph_Leads_r1 [] [0, 1, 2, 7, 8, 9, 10, 11, 12, 13, 14, 15, 16, 17, 18, 19, 20, 21, 22, 23]) f H = segC call it base s_graph_Leads_r1t1 [0, 1, 2, 7, 8, 9, 10, 11, 12, 13, 14, 15, 16, 17, 18, 19, 20, 21, 22, 23] H (evTale (symAll s_graph_Leads_r1p0 [7, 8, 9, 10, 11, 12, 13, 14] [15]) [7, 8, 9, 10, 11, 12, 13, 14] f H) (origRow call it base s_graph_Leads_r1 [0, 1, 2, 7, 8, 9, 10, 11, 12, 13, 14, 15, 16, 17, 18, 19, 20, 21, 22, 23] f H) := row_seg call it base s_graph_Leads_r1p0 s_graph_Leads_r1t1 (by kernel_rfl) f H
theorem s_graph_Leads_r1t1_x (call : CallF) (it : IterF) (base : Nat) (f : List V) (H : Heap) : evC call it base (.region s_graph_Leads_r1t1 [] [0, 1, 2, 7, 8, 9, 10, 11, 12, 13, 14, 15, 16, 17, 18, 19, 20, 21, 22, 23]) f H = thenC call it base (.region s_graph_Leads_r1t2 [] [0, 1, 2, 7, 8, 9, 10, 11, 12, 13, 14, 15, 16, 17, 18, 19, 20, 21, 22, 23]) (opsC [] s_graph_Leads_r1p1 [0] (evOps call base [⟨some 16, (.move (.t 0)), some (15, true)⟩] f H)) := (row_op call it base s_graph_Leads_r1p1 s_graph_Leads_r1t2 (kc := [0]) (by kernel_rfl) f H).trans (by rw [row_ops]; rfl)
theorem s_graph_Leads_r1t2_x (call : CallF) (it : IterF) (base : Nat) (f : List V) (H : Heap) : evC call it base (.region s_graph_Leads_r1t2 [] [0, 1, 2, 7, 8, 9, 10, 11, 12, 13, 14, 15, 16, 17, 18, 19, 20, 21, 22, 23]) f H = thenC call it base (.region s_graph_Leads_r1t3 [] [0, 1, 2, 7, 8, 9, 10, 11, 12, 13, 14, 15, 16, 17, 18, 19, 20, 21, 22, 23]) (opsC [] s_graph_Leads_r1p2 [1] (evOps call base [⟨some 17, (.move (.t 1)), some (15, true)⟩] f H)) := (row_op call it base s_graph_Leads_r1p2 s_graph_Leads_r1t3 (kc := [1]) (by kernel_rfl) f H).trans (by rw [row_ops]; rfl)
theorem s_graph_Leads_r1t3_x (call : CallF) (it : IterF) (base : Nat) (f : List V) (H : Heap) : evC call it base (.region s_graph_Leads_r1t3 [] [0, 1, 2, 7, 8, 9, 10, 11, 12, 13, 14, 15, 16, 17, 18, 19, 20, 21, 22, 23]) f H = thenC call it base (.region s_graph_Leads_r1t4 [] [0, 1, 2, 7, 8, 9, 10, 11, 12, 13, 14, 15, 16, 17, 18, 19, 20, 21, 22, 23]) (opsC [] s_graph_Leads_r1p3 [17] (evOps call base [⟨some 18, (.buildSl 1 1 [(.s (.int .i64 0))] [(0, (.t 17))]), some (15, true)⟩] f H)) := (row_op call it base s_graph_Leads_r1p3 s_graph_Leads_r1t4 (kc := [17]) (by kernel_rfl) f H).trans (by rw [row_ops]; rfl)
theorem s_graph_Leads_r1t4_x (call : CallF) (it : IterF) (base : Nat) (f : List V) (H : Heap) : evC call it base (.region s_graph_Leads_r1t4 [] [0, 1, 2, 7, 8, 9, 10, 11, 12, 13, 14, 15, 16, 17, 18, 19, 20, 21, 22, 23]) f H = thenC call it base (.region s_graph_Leads_r1t5 [] [0, 1, 2, 7, 8, 9, 10, 11, 12, 13, 14, 15, 16, 17, 18, 19, 20, 21, 22, 23]) (opsC [] s_graph_Leads_r1p4 [16, 18] (evOps call base [⟨some 19, (.call (.c (.fn 18 [] [])) [(.t 16), (.t 18)]), some (15, true)⟩] f H)) := (row_op call it base s_graph_Leads_r1p4 s_graph_Leads_r1t5 (kc := [16, 18]) (by kernel_rfl) f H).trans (by rw [row_ops]; rfl)
theorem s_graph_Leads_r1t5_tale (fr : List V) (H : Heap) : evTale (symAll s_graph_Leads_r1t5 [0, 1, 2, 7, 8, 9, 10, 11, 12, 13, 14, 15, 16, 17, 18, 19, 20, 21, 22, 23] [6]) [0, 1, 2, 7, 8, 9, 10, 11, 12, 13, 14, 15, 16, 17, 18, 19, 20, 21, 22, 23] fr H = evTale (some (24, [], [(6, (.pick (.t 15) (.op (.load false 1 (.t 0)) [(.op (.indexAddr 1 (.t 0) (.t 1)) [(.t 19), (.t 2)])]) (.c (.s (.bool false)))))])) [0, 1, 2, 7, 8, 9, 10, 11, 12, 13, 14, 15, 16, 17, 18, 19, 20, 21, 22, 23] fr H := tale_row (items := [.sub 0 [1, 0, 1] [15], .sub 0 [1, 0] [15], .sub 0 [1] [15], .sub 0 [] [], .sub 0 [] []]) (by kernel_rfl) fr H
theorem s_graph_Leads_r1t5_x (call : CallF) (it : IterF) (base : Nat) (f : List V) (H : Heap) : evC call it base (.region s_graph_Leads_r1t5 [] [0, 1, 2, 7, 8, 9, 10, 11, 12, 13, 14, 15, 16, 17, 18, 19, 20, 21, 22, 23]) f H = segL H (evTale (symAll s_graph_Leads_r1t5 [0, 1, 2, 7, 8, 9, 10, 11, 12, 13, 14, 15, 16, 17, 18, 19, 20, 21, 22, 23] [6]) [0, 1, 2, 7, 8, 9, 10, 11, 12, 13, 14, 15, 16, 17, 18, 19, 20, 21, 22, 23] f H) (origRow call it base s_graph_Leads_r1t5 [0, 1, 2, 7, 8, 9, 10, 11, 12, 13, 14, 15, 16, 17, 18, 19, 20, 21, 22, 23] f H) := row_last call it base _ f H
def s_graph_Leads : ACFun := { ntmps := 24, results := [(.tmp 6)], body :=
  (.seq (.regionE s_graph_Leads_r0 s_graph_Leads_r0_k [])
  (.seq (.region s_graph_Leads_r1 [] [0, 1, 2, 7, 8, 9, 10, 11, 12, 13, 14, 15, 16, 17, 18, 19, 20, 21, 22, 23])
  .ret)) }
abbrev k_gnomonref07_Leads : Nat := 21
def s_gnomonref07_Leads_r0_k : List Nat := [3, 4, 5, 6, 7, 8, 9, 10, 11, 12, 13, 14, 15, 16, 17, 18, 19, 20, 21, 22, 23]
theorem s_gnomonref07_Leads_r0_kT : killV s_gnomonref07_Leads_r0_k (startV 24 [] 3) = [] := by kernel_rfl
theorem s_gnomonref07_Leads_r0_kA0 : s_gnomonref07_Leads_r0_k.contains 0 = false := by kernel_rfl
theorem s_gnomonref07_Leads_r0_kA1 : s_gnomonref07_Leads_r0_k.contains 1 = false := by kernel_rfl
theorem s_gnomonref07_Leads_r0_kA2 : s_gnomonref07_Leads_r0_k.contains 2 = false := by kernel_rfl
def s_gnomonref07_Leads_r0 : List AOper := [
  ⟨some 6, (.move (.c (.s (.bool false)))), none⟩]
theorem s_gnomonref07_Leads_r0_tale (fr : List V) (H : Heap) : evTale (symAll s_gnomonref07_Leads_r0 s_gnomonref07_Leads_r0_k []) s_gnomonref07_Leads_r0_k fr H = evTale (some (7, [], [])) s_gnomonref07_Leads_r0_k fr H := tale_row (items := [.cc (.s (.bool false))]) (by kernel_rfl) fr H
def s_gnomonref07_Leads_r1t5 : List AOper := [⟨some 20, (.move (.t 2)), some (15, true)⟩, ⟨some 21, (.indexAddr 1 (.t 19) (.t 20)), some (15, true)⟩, ⟨some 22, (.load false 1 (.t 21)), some (15, true)⟩, ⟨some 23, (.pick (.t 15) (.t 22) (.c (.s (.bool false)))), none⟩, ⟨some 6, (.move (.t 23)), none⟩]
def s_gnomonref07_Leads_r1p4 : List AOper := [⟨some 19, (.call (.c (.fn 19 [] [])) [(.t 16), (.t 18)]), some (15, true)⟩]
def s_gnomonref07_Leads_r1t4 : List AOper := s_gnomonref07_Leads_r1p4 ++ s_gnomonref07_Leads_r1t5
def s_gnomonref07_Leads_r1p3 : List AOper := [⟨some 18, (.buildSl 1 1 [(.s (.int .i64 0))] [(0, (.t 17))]), some (15, true)⟩]
def s_gnomonref07_Leads_r1t3 : List AOper := s_gnomonref07_Leads_r1p3 ++ s_gnomonref07_Leads_r1t4
def s_gnomonref07_Leads_r1p2 : List AOper := [⟨some 17, (.move (.t 1)), some (15, true)⟩]
def s_gnomonref07_Leads_r1t2 : List AOper := s_gnomonref07_Leads_r1p2 ++ s_gnomonref07_Leads_r1t3
def s_gnomonref07_Leads_r1p1 : List AOper := [⟨some 16, (.move (.t 0)), some (15, true)⟩]
def s_gnomonref07_Leads_r1t1 : List AOper := s_gnomonref07_Leads_r1p1 ++ s_gnomonref07_Leads_r1t2
def s_gnomonref07_Leads_r1p0 : List AOper := [⟨some 7, (.move (.t 2)), none⟩, ⟨some 8, (.bin .geq (.t 7) (.c (.s (.int .i64 0)))), none⟩, ⟨some 9, (.move (.t 8)), none⟩, ⟨some 10, (.move (.t 2)), some (9, true)⟩, ⟨some 11, (.move (.t 0)), some (9, true)⟩, ⟨some 12, (.lenS .s (.t 11)), some (9, true)⟩, ⟨some 13, (.bin .lss (.t 10) (.t 12)), some (9, true)⟩, ⟨some 14, (.pick (.t 9) (.t 13) (.c (.s (.bool false)))), none⟩, ⟨some 15, (.move (.t 14)), none⟩]
def s_gnomonref07_Leads_r1 : List AOper := s_gnomonref07_Leads_r1p0 ++ s_gnomonref07_Leads_r1t1
theorem s_gnomonref07_Leads_r1p0_tale (fr : List V) (H : Heap) : evTale (symAll s_gnomonref07_Leads_r1p0 [7, 8, 9, 10, 11, 12, 13, 14] [15]) [7, 8, 9, 10, 11, 12, 13, 14] fr H = evTale (some (16, [], [(15, (.pick (.op (.bin .geq (.t 0) (.c (.s (.int .i64 0)))) [(.t 2), (.c (.s (.int .i64 0)))]) (.op (.bin .lss (.t 0) (.t 1)) [(.t 2), (.op (.lenS .s (.t 0)) [(.t 0)])]) (.c (.s (.bool false)))))])) [7, 8, 9, 10, 11, 12, 13, 14] fr H := tale_row (items := [.tt 2, .sub 0 [0] [], .sub 0 [0] [], .sub 0 [1, 0] [9], .sub 0 [1, 1, 0] [9], .sub 0 [1, 1] [9], .sub 0 [1] [9], .sub 0 [] [], .sub 0 [] []]) (by kernel_rfl) fr H
theorem s_gnomonref07_Leads_r1_x (call : CallF) (it : IterF) (base : Nat) (f : List V) (H : Heap) : evC call it base (.region s_gnomonref07_Leads_r1 [] [0, 1, 2, 7, 8, 9, 10, 11, 12, 13, 14, 15, 16, 17, 18, 19, 20, 21, 22, 23]) f H = segC call it base s_gnomonref07_Leads_r1t1 [0, 1, 2, 7, 8, 9, 10, 11, 12, 13, 14, 15, 16, 17, 18, 19, 20, 21, 22, 23] H (evTale (symAll s_gnomonref07_Leads_r1p0 [7, 8, 9, 10, 11, 12, 13, 14] [15]) [7, 8, 9, 10, 11, 12, 13, 14] f H) (origRow call it base s_gnomonref07_Leads_r1 [0, 1, 2, 7, 8, 9, 10, 11, 12, 13, 14, 15, 16, 17, 18, 19, 20, 21, 22, 23] f H) := row_seg call it base s_gnomonref07_Leads_r1p0 s_gnomonref07_Leads_r1t1 (by kernel_rfl) f H
theorem s_gnomonref07_Leads_r1t1_x (call : CallF) (it : IterF) (base : Nat) (f : List V) (H : Heap) : evC call it base (.region s_gnomonref07_Leads_r1t1 [] [0, 1, 2, 7, 8, 9, 10, 11, 12, 13, 14, 15, 16, 17, 18, 19, 20, 21, 22, 23]) f H = thenC call it base (.region s_gnomonref07_Leads_r1t2 [] [0, 1, 2, 7, 8, 9, 10, 11, 12, 13, 14, 15, 16, 17, 18, 19, 20, 21, 22, 23]) (opsC [] s_gnomonref07_Leads_r1p1 [0] (evOps call base [⟨some 16, (.move (.t 0)), some (15, true)⟩] f H)) := (row_op call it base s_gnomonref07_Leads_r1p1 s_gnomonref07_Leads_r1t2 (kc := [0]) (by kernel_rfl) f H).trans (by rw [row_ops]; rfl)
theorem s_gnomonref07_Leads_r1t2_x (call : CallF) (it : IterF) (base : Nat) (f : List V) (H : Heap) : evC call it base (.region s_gnomonref07_Leads_r1t2 [] [0, 1, 2, 7, 8, 9, 10, 11, 12, 13, 14, 15, 16, 17, 18, 19, 20, 21, 22, 23]) f H = thenC call it base (.region s_gnomonref07_Leads_r1t3 [] [0, 1, 2, 7, 8, 9, 10, 11, 12, 13, 14, 15, 16, 17, 18, 19, 20, 21, 22, 23]) (opsC [] s_gnomonref07_Leads_r1p2 [1] (evOps call base [⟨some 17, (.move (.t 1)), some (15, true)⟩] f H)) := (row_op call it base s_gnomonref07_Leads_r1p2 s_gnomonref07_Leads_r1t3 (kc := [1]) (by kernel_rfl) f H).trans (by rw [row_ops]; rfl)
theorem s_gnomonref07_Leads_r1t3_x (call : CallF) (it : IterF) (base : Nat) (f : List V) (H : Heap) : evC call it base (.region s_gnomonref07_Leads_r1t3 [] [0, 1, 2, 7, 8, 9, 10, 11, 12, 13, 14, 15, 16, 17, 18, 19, 20, 21, 22, 23]) f H = thenC call it base (.region s_gnomonref07_Leads_r1t4 [] [0, 1, 2, 7, 8, 9, 10, 11, 12, 13, 14, 15, 16, 17, 18, 19, 20, 21, 22, 23]) (opsC [] s_gnomonref07_Leads_r1p3 [17] (evOps call base [⟨some 18, (.buildSl 1 1 [(.s (.int .i64 0))] [(0, (.t 17))]), some (15, true)⟩] f H)) := (row_op call it base s_gnomonref07_Leads_r1p3 s_gnomonref07_Leads_r1t4 (kc := [17]) (by kernel_rfl) f H).trans (by rw [row_ops]; rfl)
theorem s_gnomonref07_Leads_r1t4_x (call : CallF) (it : IterF) (base : Nat) (f : List V) (H : Heap) : evC call it base (.region s_gnomonref07_Leads_r1t4 [] [0, 1, 2, 7, 8, 9, 10, 11, 12, 13, 14, 15, 16, 17, 18, 19, 20, 21, 22, 23]) f H = thenC call it base (.region s_gnomonref07_Leads_r1t5 [] [0, 1, 2, 7, 8, 9, 10, 11, 12, 13, 14, 15, 16, 17, 18, 19, 20, 21, 22, 23]) (opsC [] s_gnomonref07_Leads_r1p4 [16, 18] (evOps call base [⟨some 19, (.call (.c (.fn 19 [] [])) [(.t 16), (.t 18)]), some (15, true)⟩] f H)) := (row_op call it base s_gnomonref07_Leads_r1p4 s_gnomonref07_Leads_r1t5 (kc := [16, 18]) (by kernel_rfl) f H).trans (by rw [row_ops]; rfl)
theorem s_gnomonref07_Leads_r1t5_tale (fr : List V) (H : Heap) : evTale (symAll s_gnomonref07_Leads_r1t5 [0, 1, 2, 7, 8, 9, 10, 11, 12, 13, 14, 15, 16, 17, 18, 19, 20, 21, 22, 23] [6]) [0, 1, 2, 7, 8, 9, 10, 11, 12, 13, 14, 15, 16, 17, 18, 19, 20, 21, 22, 23] fr H = evTale (some (24, [], [(6, (.pick (.t 15) (.op (.load false 1 (.t 0)) [(.op (.indexAddr 1 (.t 0) (.t 1)) [(.t 19), (.t 2)])]) (.c (.s (.bool false)))))])) [0, 1, 2, 7, 8, 9, 10, 11, 12, 13, 14, 15, 16, 17, 18, 19, 20, 21, 22, 23] fr H := tale_row (items := [.sub 0 [1, 0, 1] [15], .sub 0 [1, 0] [15], .sub 0 [1] [15], .sub 0 [] [], .sub 0 [] []]) (by kernel_rfl) fr H
theorem s_gnomonref07_Leads_r1t5_x (call : CallF) (it : IterF) (base : Nat) (f : List V) (H : Heap) : evC call it base (.region s_gnomonref07_Leads_r1t5 [] [0, 1, 2, 7, 8, 9, 10, 11, 12, 13, 14, 15, 16, 17, 18, 19, 20, 21, 22, 23]) f H = segL H (evTale (symAll s_gnomonref07_Leads_r1t5 [0, 1, 2, 7, 8, 9, 10, 11, 12, 13, 14, 15, 16, 17, 18, 19, 20, 21, 22, 23] [6]) [0, 1, 2, 7, 8, 9, 10, 11, 12, 13, 14, 15, 16, 17, 18, 19, 20, 21, 22, 23] f H) (origRow call it base s_gnomonref07_Leads_r1t5 [0, 1, 2, 7, 8, 9, 10, 11, 12, 13, 14, 15, 16, 17, 18, 19, 20, 21, 22, 23] f H) := row_last call it base _ f H
def s_gnomonref07_Leads : ACFun := { ntmps := 24, results := [(.tmp 6)], body :=
  (.seq (.regionE s_gnomonref07_Leads_r0 s_gnomonref07_Leads_r0_k [])
  (.seq (.region s_gnomonref07_Leads_r1 [] [0, 1, 2, 7, 8, 9, 10, 11, 12, 13, 14, 15, 16, 17, 18, 19, 20, 21, 22, 23])
  .ret)) }
abbrev k_graph_Reach_1 : Nat := 32
def s_graph_Reach_1_r0_k : List Nat := [1, 4, 5, 6, 7, 8, 9, 10, 11, 12, 13, 14, 15, 16, 17, 18, 20, 21, 22, 23, 24, 25, 26]
theorem s_graph_Reach_1_r0_kT : killV s_graph_Reach_1_r0_k (startV 27 [] 4) = [(19, und)] := by kernel_rfl
theorem s_graph_Reach_1_r0_kA0 : s_graph_Reach_1_r0_k.contains 0 = false := by kernel_rfl
theorem s_graph_Reach_1_r0_kA1 : s_graph_Reach_1_r0_k.contains 1 = true := by kernel_rfl
theorem s_graph_Reach_1_r0_kA2 : s_graph_Reach_1_r0_k.contains 2 = false := by kernel_rfl
theorem s_graph_Reach_1_r0_kA3 : s_graph_Reach_1_r0_k.contains 3 = false := by kernel_rfl
def s_graph_Reach_1_r0 : List AOper := [
  ⟨some 5, (.move (.t 0)), none⟩,
  ⟨some 6, (.bin .geq (.t 5) (.c (.s (.int .i64 0)))), none⟩,
  ⟨some 7, (.move (.t 6)), none⟩,
  ⟨some 8, (.move (.t 0)), some (7, true)⟩,
  ⟨some 9, (.load false 1 (.t 1)), some (7, true)⟩,
  ⟨some 10, (.lenS .s (.t 9)), some (7, true)⟩,
  ⟨some 11, (.bin .lss (.t 8) (.t 10)), some (7, true)⟩,
  ⟨some 12, (.pick (.t 7) (.t 11) (.c (.s (.bool false)))), none⟩,
  ⟨some 13, (.move (.t 12)), none⟩,
  ⟨some 14, (.load false 1 (.t 2)), some (13, true)⟩,
  ⟨some 15, (.move (.t 0)), some (13, true)⟩,
  ⟨some 16, (.indexAddr 1 (.t 14) (.t 15)), some (13, true)⟩,
  ⟨some 17, (.load false 1 (.t 16)), some (13, true)⟩,
  ⟨some 18, (.un .not (.t 17)), some (13, true)⟩,
  ⟨some 19, (.pick (.t 13) (.t 18) (.c (.s (.bool false)))), none⟩]
theorem s_graph_Reach_1_r0_tale (fr : List V) (H : Heap) : evTale (symAll s_graph_Reach_1_r0 s_graph_Reach_1_r0_k [19]) s_graph_Reach_1_r0_k fr H = evTale (some (20, [], [(19, (.pick (.pick (.op (.bin .geq (.t 0) (.c (.s (.int .i64 0)))) [(.t 0), (.c (.s (.int .i64 0)))]) (.op (.bin .lss (.t 0) (.t 1)) [(.t 0), (.op (.lenS .s (.t 0)) [(.op (.load false 1 (.t 0)) [(.t 1)])])]) (.c (.s (.bool false)))) (.op (.un .not (.t 0)) [(.op (.load false 1 (.t 0)) [(.op (.indexAddr 1 (.t 0) (.t 1)) [(.op (.load false 1 (.t 0)) [(.t 2)]), (.t 0)])])]) (.c (.s (.bool false)))))])) s_graph_Reach_1_r0_k fr H := tale_row (items := [.tt 0, .sub 0 [0, 0] [], .sub 0 [0, 0] [], .sub 0 [0, 1, 0] [7], .sub 0 [0, 1, 1, 0] [7], .sub 0 [0, 1, 1] [7], .sub 0 [0, 1] [7], .sub 0 [0] [], .sub 0 [0] [], .sub 0 [1, 0, 0, 0] [13], .sub 0 [1, 0, 0, 1] [13], .sub 0 [1, 0, 0] [13], .sub 0 [1, 0] [13], .sub 0 [1] [13], .sub 0 [] []]) (by kernel_rfl) fr H
def s_graph_Reach_1_r1t1 : List AOper := [⟨none, (.store 1 (.t 22) (.c (.s (.bool true)))), none⟩]
def s_graph_Reach_1_r1p0 : List AOper := [⟨some 20, (.load false 1 (.t 2)), none⟩, ⟨some 21, (.move (.t 0)), none⟩, ⟨some 22, (.indexAddr 1 (.t 20) (.t 21)), none⟩]
def s_graph_Reach_1_r1 : List AOper := s_graph_Reach_1_r1p0 ++ s_graph_Reach_1_r1t1
theorem s_graph_Reach_1_r1p0_tale (fr : List V) (H : Heap) : evTale (symAll s_graph_Reach_1_r1p0 [2, 19, 20, 21] [22]) [2, 19, 20, 21] fr H = evTale (some (23, [], [(22, (.op (.indexAddr 1 (.t 0) (.t 1)) [(.op (.load false 1 (.t 0)) [(.t 2)]), (.t 0)]))])) [2, 19, 20, 21] fr H := tale_row (items := [.sub 0 [0] [], .tt 0, .sub 0 [] []]) (by kernel_rfl) fr H
theorem s_graph_Reach_1_r1_x (call : CallF) (it : IterF) (base : Nat) (f : List V) (H : Heap) : evC call it base (.region s_graph_Reach_1_r1 [] [2, 19, 20, 21, 22]) f H = segC call it base s_graph_Reach_1_r1t1 [2, 19, 20, 21, 22] H (evTale (symAll s_graph_Reach_1_r1p0 [2, 19, 20, 21] [22]) [2, 19, 20, 21] f H) (origRow call it base s_graph_Reach_1_r1 [2, 19, 20, 21, 22] f H) := row_seg call it base s_graph_Reach_1_r1p0 s_graph_Reach_1_r1t1 (by kernel_rfl) f H
theorem s_graph_Reach_1_r1t1_x (call : CallF) (it : IterF) (base : Nat) (f : List V) (H : Heap) : evC call it base (.region s_graph_Reach_1_r1t1 [] [2, 19, 20, 21, 22]) f H = opsC [] s_graph_Reach_1_r1t1 [2, 19, 20, 21, 22] (evOps call base [⟨none, (.store 1 (.t 22) (.c (.s (.bool true)))), none⟩] f H) := row_ops call it base _ _ _ f H
def s_graph_Reach_1_r2t3 : List AOper := [⟨none, (.store 1 (.t 3) (.t 26)), none⟩]
def s_graph_Reach_1_r2p2 : List AOper := [⟨some 26, (.append 1 8 (.t 23) (.t 25)), none⟩]
def s_graph_Reach_1_r2t2 : List AOper := s_graph_Reach_1_r2p2 ++ s_graph_Reach_1_r2t3
def s_graph_Reach_1_r2p1 : List AOper := [⟨some 25, (.buildSl 1 1 [(.s (.int .i64 0))] [(0, (.t 24))]), none⟩]
def s_graph_Reach_1_r2t1 : List AOper := s_graph_Reach_1_r2p1 ++ s_graph_Reach_1_r2t2
def s_graph_Reach_1_r2p0 : List AOper := [⟨some 23, (.load false 1 (.t 3)), none⟩, ⟨some 24, (.move (.t 0)), none⟩]
def s_graph_Reach_1_r2 : List AOper := s_graph_Reach_1_r2p0 ++ s_graph_Reach_1_r2t1
theorem s_graph_Reach_1_r2p0_tale (fr : List V) (H : Heap) : evTale (symAll s_graph_Reach_1_r2p0 [0] [23, 24]) [0] fr H = evTale (some (25, [], [(23, (.op (.load false 1 (.t 0)) [(.t 3)])), (24, (.t 0))])) [0] fr H := tale_row (items := [.sub 0 [] [], .tt 0]) (by kernel_rfl) fr H
theorem s_graph_Reach_1_r2_x (call : CallF) (it : IterF) (base : Nat) (f : List V) (H : Heap) : evC call it base (.region s_graph_Reach_1_r2 [] [0, 3, 23, 24, 25, 26]) f H = segC call it base s_graph_Reach_1_r2t1 [0, 3, 23, 24, 25, 26] H (evTale (symAll s_graph_Reach_1_r2p0 [0] [23, 24]) [0] f H) (origRow call it base s_graph_Reach_1_r2 [0, 3, 23, 24, 25, 26] f H) := row_seg call it base s_graph_Reach_1_r2p0 s_graph_Reach_1_r2t1 (by kernel_rfl) f H
theorem s_graph_Reach_1_r2t1_x (call : CallF) (it : IterF) (base : Nat) (f : List V) (H : Heap) : evC call it base (.region s_graph_Reach_1_r2t1 [] [0, 3, 23, 24, 25, 26]) f H = thenC call it base (.region s_graph_Reach_1_r2t2 [] [0, 3, 23, 24, 25, 26]) (opsC [] s_graph_Reach_1_r2p1 [24] (evOps call base [⟨some 25, (.buildSl 1 1 [(.s (.int .i64 0))] [(0, (.t 24))]), none⟩] f H)) := (row_op call it base s_graph_Reach_1_r2p1 s_graph_Reach_1_r2t2 (kc := [24]) (by kernel_rfl) f H).trans (by rw [row_ops]; rfl)
theorem s_graph_Reach_1_r2t2_x (call : CallF) (it : IterF) (base : Nat) (f : List V) (H : Heap) : evC call it base (.region s_graph_Reach_1_r2t2 [] [0, 3, 23, 24, 25, 26]) f H = thenC call it base (.region s_graph_Reach_1_r2t3 [] [0, 3, 23, 24, 25, 26]) (opsC [] s_graph_Reach_1_r2p2 [23, 25] (evOps call base [⟨some 26, (.append 1 8 (.t 23) (.t 25)), none⟩] f H)) := (row_op call it base s_graph_Reach_1_r2p2 s_graph_Reach_1_r2t3 (kc := [23, 25]) (by kernel_rfl) f H).trans (by rw [row_ops]; rfl)
theorem s_graph_Reach_1_r2t3_x (call : CallF) (it : IterF) (base : Nat) (f : List V) (H : Heap) : evC call it base (.region s_graph_Reach_1_r2t3 [] [0, 3, 23, 24, 25, 26]) f H = opsC [] s_graph_Reach_1_r2t3 [0, 3, 23, 24, 25, 26] (evOps call base [⟨none, (.store 1 (.t 3) (.t 26)), none⟩] f H) := row_ops call it base _ _ _ f H
def s_graph_Reach_1 : ACFun := { ntmps := 27, results := [], body :=
  (.seq (.regionE s_graph_Reach_1_r0 s_graph_Reach_1_r0_k [19])
  (.cond (.t 19)
  (.seq (.region s_graph_Reach_1_r1 [] [2, 19, 20, 21, 22])
  (.region s_graph_Reach_1_r2 [] [0, 3, 23, 24, 25, 26]))
  .skip)) }
def a_gnomonlaw07_GraphWays := And.intro @s_gnomonlaw07_GraphWays_r0_tale (And.intro @s_gnomonlaw07_GraphWays_r0_kT (And.intro @s_gnomonlaw07_GraphWays_r0_kA0 (And.intro @s_gnomonlaw07_GraphWays_r0_kA1 (And.intro @s_gnomonlaw07_GraphWays_r0_kA2 (And.intro @s_gnomonlaw07_GraphWays_r0_kA3 (And.intro @s_gnomonlaw07_GraphWays_r1p0_tale (And.intro @s_gnomonlaw07_GraphWays_r1_x (And.intro @s_gnomonlaw07_GraphWays_r1t1_x (And.intro @s_gnomonlaw07_GraphWays_r1t2_tale (And.intro @s_gnomonlaw07_GraphWays_r1t2_x (And.intro @s_gnomonlaw07_GraphWays_r2_x (And.intro @s_gnomonlaw07_GraphWays_r2t1_tale (And.intro @s_gnomonlaw07_GraphWays_r2t1_x (And.intro @s_gnomonlaw07_GraphWays_r3p0_tale (And.intro @s_gnomonlaw07_GraphWays_r3_x (And.intro @s_gnomonlaw07_GraphWays_r3t1_x (And.intro @s_gnomonlaw07_GraphWays_r3p2_tale (And.intro @s_gnomonlaw07_GraphWays_r3t2_x (And.intro @s_gnomonlaw07_GraphWays_r3t3_x (And.intro @s_gnomonlaw07_GraphWays_r3t4_x (And.intro @s_gnomonlaw07_GraphWays_r3p5_tale (And.intro @s_gnomonlaw07_GraphWays_r3t5_x (And.intro @s_gnomonlaw07_GraphWays_r3t6_x (And.intro @s_gnomonlaw07_GraphWays_r3t7_x (And.intro @s_gnomonlaw07_GraphWays_r3t8_x (And.intro @s_gnomonlaw07_GraphWays_r3t9_x (And.intro @s_gnomonlaw07_GraphWays_r3t10_x (And.intro @s_gnomonlaw07_GraphWays_r3t11_x (And.intro @s_gnomonlaw07_GraphWays_r3t12_x (And.intro @s_gnomonlaw07_GraphWays_r3t13_x (And.intro @s_gnomonlaw07_GraphWays_r3p14_tale (And.intro @s_gnomonlaw07_GraphWays_r3t14_x (And.intro @s_gnomonlaw07_GraphWays_r3t15_x (And.intro @s_gnomonlaw07_GraphWays_r3t16_x (And.intro @s_gnomonlaw07_GraphWays_r3t17_x (And.intro @s_gnomonlaw07_GraphWays_r3t18_x (And.intro @s_gnomonlaw07_GraphWays_r3t19_x (And.intro @s_gnomonlaw07_GraphWays_r3t20_x (And.intro @s_gnomonlaw07_GraphWays_r3t21_x (And.intro @s_gnomonlaw07_GraphWays_r3p22_tale (And.intro @s_gnomonlaw07_GraphWays_r3t22_x (And.intro @s_gnomonlaw07_GraphWays_r3t23_x (And.intro @s_gnomonlaw07_GraphWays_r3t24_tale (@s_gnomonlaw07_GraphWays_r3t24_x))))))))))))))))))))))))))))))))))))))))))))
def a_gnomonref07_Bools := And.intro @s_gnomonref07_Bools_r0_tale (And.intro @s_gnomonref07_Bools_r0_kT (And.intro @s_gnomonref07_Bools_r0_kA0 (And.intro @s_gnomonref07_Bools_r0_kA1 (And.intro @s_gnomonref07_Bools_r1_tale (And.intro @s_gnomonref07_Bools_r2_tale (And.intro @s_gnomonref07_Bools_r3_tale (And.intro @s_gnomonref07_Bools_r4_tale (And.intro @s_gnomonref07_Bools_r5_tale (And.intro @s_gnomonref07_Bools_r6_tale (And.intro @s_gnomonref07_Bools_r7_tale (And.intro @s_gnomonref07_Bools_l0_ev (@s_gnomonref07_Bools_r8_tale))))))))))))
def a_graph_Reach := And.intro @s_graph_Reach_r0p0_k_kA0 (And.intro @s_graph_Reach_r0p0_k_kA1 (And.intro @s_graph_Reach_r0p0_k_kA2 (And.intro @s_graph_Reach_r0p0_k_kA4 (And.intro @s_graph_Reach_r0_x (And.intro @s_graph_Reach_r0t1_tale (And.intro @s_graph_Reach_r0t1_x (And.intro @s_graph_Reach_r0_k_kA0 (And.intro @s_graph_Reach_r0_k_kA1 (And.intro @s_graph_Reach_r0_k_kA2 (And.intro @s_graph_Reach_r0_k_kA4 (And.intro @s_graph_Reach_r1p0_tale (And.intro @s_graph_Reach_r1_x (And.intro @s_graph_Reach_r1t1_x (And.intro @s_graph_Reach_r1t2_x (And.intro @s_graph_Reach_r1t3_x (And.intro @s_graph_Reach_r2_x (And.intro @s_graph_Reach_r3_tale (And.intro @s_graph_Reach_r4_tale (And.intro @s_graph_Reach_r5_tale (And.intro @s_graph_Reach_r6_tale (And.intro @s_graph_Reach_r7p0_tale (And.intro @s_graph_Reach_r7_x (And.intro @s_graph_Reach_r7t1_x (And.intro @s_graph_Reach_r8_tale (And.intro @s_graph_Reach_l0_ev (And.intro @s_graph_Reach_r9_tale (And.intro @s_graph_Reach_r10_tale (And.intro @s_graph_Reach_r11p0_tale (And.intro @s_graph_Reach_r11_x (And.intro @s_graph_Reach_r11t1_x (And.intro @s_graph_Reach_r12_tale (And.intro @s_graph_Reach_r13_tale (And.intro @s_graph_Reach_r14_tale (And.intro @s_graph_Reach_r15p0_tale (And.intro @s_graph_Reach_r15_x (And.intro @s_graph_Reach_r15t1_x (And.intro @s_graph_Reach_r16_tale (And.intro @s_graph_Reach_l1_ev (And.intro @s_graph_Reach_l2_ev (@s_graph_Reach_r17_tale))))))))))))))))))))))))))))))))))))))))
def a_graph_Leads := And.intro @s_graph_Leads_r0_tale (And.intro @s_graph_Leads_r0_kT (And.intro @s_graph_Leads_r0_kA0 (And.intro @s_graph_Leads_r0_kA1 (And.intro @s_graph_Leads_r0_kA2 (And.intro @s_graph_Leads_r1p0_tale (And.intro @s_graph_Leads_r1_x (And.intro @s_graph_Leads_r1t1_x (And.intro @s_graph_Leads_r1t2_x (And.intro @s_graph_Leads_r1t3_x (And.intro @s_graph_Leads_r1t4_x (And.intro @s_graph_Leads_r1t5_tale (@s_graph_Leads_r1t5_x))))))))))))
def a_gnomonref07_Leads := And.intro @s_gnomonref07_Leads_r0_tale (And.intro @s_gnomonref07_Leads_r0_kT (And.intro @s_gnomonref07_Leads_r0_kA0 (And.intro @s_gnomonref07_Leads_r0_kA1 (And.intro @s_gnomonref07_Leads_r0_kA2 (And.intro @s_gnomonref07_Leads_r1p0_tale (And.intro @s_gnomonref07_Leads_r1_x (And.intro @s_gnomonref07_Leads_r1t1_x (And.intro @s_gnomonref07_Leads_r1t2_x (And.intro @s_gnomonref07_Leads_r1t3_x (And.intro @s_gnomonref07_Leads_r1t4_x (And.intro @s_gnomonref07_Leads_r1t5_tale (@s_gnomonref07_Leads_r1t5_x))))))))))))
def a_graph_Reach_1 := And.intro @s_graph_Reach_1_r0_tale (And.intro @s_graph_Reach_1_r0_kT (And.intro @s_graph_Reach_1_r0_kA0 (And.intro @s_graph_Reach_1_r0_kA1 (And.intro @s_graph_Reach_1_r0_kA2 (And.intro @s_graph_Reach_1_r0_kA3 (And.intro @s_graph_Reach_1_r1p0_tale (And.intro @s_graph_Reach_1_r1_x (And.intro @s_graph_Reach_1_r1t1_x (And.intro @s_graph_Reach_1_r2p0_tale (And.intro @s_graph_Reach_1_r2_x (And.intro @s_graph_Reach_1_r2t1_x (And.intro @s_graph_Reach_1_r2t2_x (@s_graph_Reach_1_r2t3_x)))))))))))))
end Go.Proofs.Ytmnlagcmpgilaaa
set_option maxRecDepth 100000
namespace Go.Proofs.Ytmnlagcmpgilaaa
open Go.AM
abbrev k_graph_Post : Nat := 23
def s_graph_Post_r0_k : List Nat := [2, 3, 4, 5, 6, 7, 8, 9, 10, 11, 12, 13, 14, 15, 16, 17, 18, 19, 20, 21, 22, 23, 24, 25, 26, 27, 28, 29, 30, 31, 32, 33, 34, 35, 36, 37, 38, 39, 40, 41, 42, 43, 44, 45, 46, 47, 48, 49, 50, 51, 52, 53, 54, 55, 56, 57, 58, 59, 60, 61, 62, 63, 64, 65, 66, 67, 68, 69, 70, 71, 72, 73, 74, 75, 76]
theorem s_graph_Post_r0_kT : killV s_graph_Post_r0_k (startV 77 [] 2) = [] := by kernel_rfl
theorem s_graph_Post_r0_kA0 : s_graph_Post_r0_k.contains 0 = false := by kernel_rfl
theorem s_graph_Post_r0_kA1 : s_graph_Post_r0_k.contains 1 = false := by kernel_rfl
def s_graph_Post_r0 : List AOper := [
  ⟨some 4, (.move (.c (.s (.slice none 0 0)))), none⟩]
theorem s_graph_Post_r0_tale (fr : List V) (H : Heap) : evTale (symAll s_graph_Post_r0 s_graph_Post_r0_k []) s_graph_Post_r0_k fr H = evTale (some (5, [], [])) s_graph_Post_r0_k fr H := tale_row (items := [.cc (.s (.slice none 0 0))]) (by kernel_rfl) fr H
def s_graph_Post_r1 : List AOper := [
  ⟨some 11, (.move (.t 1)), none⟩,
  ⟨some 12, (.bin .lss (.t 11) (.c (.s (.int .i64 0)))), none⟩,
  ⟨some 13, (.move (.t 12)), none⟩,
  ⟨some 14, (.move (.t 1)), some (13, false)⟩,
  ⟨some 15, (.move (.t 0)), some (13, false)⟩,
  ⟨some 16, (.lenS .s (.t 15)), some (13, false)⟩,
  ⟨some 17, (.bin .geq (.t 14) (.t 16)), some (13, false)⟩,
  ⟨some 18, (.pick (.t 13) (.c (.s (.bool true))) (.t 17)), none⟩]
theorem s_graph_Post_r1_tale (fr : List V) (H : Heap) : evTale (symAll s_graph_Post_r1 [11, 12, 13, 14, 15, 16, 17] [18]) [11, 12, 13, 14, 15, 16, 17] fr H = evTale (some (19, [], [(18, (.pick (.op (.bin .lss (.t 0) (.c (.s (.int .i64 0)))) [(.t 1), (.c (.s (.int .i64 0)))]) (.c (.s (.bool true))) (.op (.bin .geq (.t 0) (.t 1)) [(.t 1), (.op (.lenS .s (.t 0)) [(.t 0)])])))])) [11, 12, 13, 14, 15, 16, 17] fr H := tale_row (items := [.tt 1, .sub 0 [0] [], .sub 0 [0] [], .sub 0 [2, 0] [13], .sub 0 [2, 1, 0] [13], .sub 0 [2, 1] [13], .sub 0 [2] [13], .sub 0 [] []]) (by kernel_rfl) fr H
def s_graph_Post_r2 : List AOper := [
  ⟨some 4, (.move (.c (.s (.slice none 0 0)))), none⟩]
theorem s_graph_Post_r2_tale (fr : List V) (H : Heap) : evTale (symAll s_graph_Post_r2 [0, 1, 18] [4]) [0, 1, 18] fr H = evTale (some (5, [], [(4, (.c (.s (.slice none 0 0))))])) [0, 1, 18] fr H := tale_row (items := [.cc (.s (.slice none 0 0))]) (by kernel_rfl) fr H
def s_graph_Post_r3t2 : List AOper := [⟨some 5, (.move (.t 20)), none⟩]
def s_graph_Post_r3p1 : List AOper := [⟨some 20, (.call (.c (.fn 12 [] [])) [(.t 19)]), none⟩]
def s_graph_Post_r3t1 : List AOper := s_graph_Post_r3p1 ++ s_graph_Post_r3t2
def s_graph_Post_r3p0 : List AOper := [⟨some 19, (.move (.t 0)), none⟩]
def s_graph_Post_r3 : List AOper := s_graph_Post_r3p0 ++ s_graph_Post_r3t1
theorem s_graph_Post_r3p0_tale (fr : List V) (H : Heap) : evTale (symAll s_graph_Post_r3p0 [18] [19]) [18] fr H = evTale (some (20, [], [(19, (.t 0))])) [18] fr H := tale_row (items := [.tt 0]) (by kernel_rfl) fr H
theorem s_graph_Post_r3_x (call : CallF) (it : IterF) (base : Nat) (f : List V) (H : Heap) : evC call it base (.region s_graph_Post_r3 [] [18, 19, 20]) f H = segC call it base s_graph_Post_r3t1 [18, 19, 20] H (evTale (symAll s_graph_Post_r3p0 [18] [19]) [18] f H) (origRow call it base s_graph_Post_r3 [18, 19, 20] f H) := row_seg call it base s_graph_Post_r3p0 s_graph_Post_r3t1 (by kernel_rfl) f H
theorem s_graph_Post_r3t1_x (call : CallF) (it : IterF) (base : Nat) (f : List V) (H : Heap) : evC call it base (.region s_graph_Post_r3t1 [] [18, 19, 20]) f H = thenC call it base (.region s_graph_Post_r3t2 [] [18, 19, 20]) (opsC [] s_graph_Post_r3p1 [19] (evOps call base [⟨some 20, (.call (.c (.fn 12 [] [])) [(.t 19)]), none⟩] f H)) := (row_op call it base s_graph_Post_r3p1 s_graph_Post_r3t2 (kc := [19]) (by kernel_rfl) f H).trans (by rw [row_ops]; rfl)
theorem s_graph_Post_r3t2_tale (fr : List V) (H : Heap) : evTale (symAll s_graph_Post_r3t2 [18, 19, 20] [5]) [18, 19, 20] fr H = evTale (some (6, [], [(5, (.t 20))])) [18, 19, 20] fr H := tale_row (items := [.tt 20]) (by kernel_rfl) fr H
theorem s_graph_Post_r3t2_x (call : CallF) (it : IterF) (base : Nat) (f : List V) (H : Heap) : evC call it base (.region s_graph_Post_r3t2 [] [18, 19, 20]) f H = segL H (evTale (symAll s_graph_Post_r3t2 [18, 19, 20] [5]) [18, 19, 20] f H) (origRow call it base s_graph_Post_r3t2 [18, 19, 20] f H) := row_last call it base _ f H
def s_graph_Post_r4t3 : List AOper := [⟨none, (.store 1 (.t 6) (.t 23)), none⟩]
def s_graph_Post_r4p2 : List AOper := [⟨some 6, (.alloc [(.s (.slice none 0 0))]), none⟩]
def s_graph_Post_r4t2 : List AOper := s_graph_Post_r4p2 ++ s_graph_Post_r4t3
def s_graph_Post_r4p1 : List AOper := [⟨some 23, (.mkSl [(.s (.bool false))] 1 1 (.t 22) (.t 22)), none⟩]
def s_graph_Post_r4t1 : List AOper := s_graph_Post_r4p1 ++ s_graph_Post_r4t2
def s_graph_Post_r4p0 : List AOper := [⟨some 21, (.move (.t 0)), none⟩, ⟨some 22, (.lenS .s (.t 21)), none⟩]
def s_graph_Post_r4 : List AOper := s_graph_Post_r4p0 ++ s_graph_Post_r4t1
theorem s_graph_Post_r4p0_tale (fr : List V) (H : Heap) : evTale (symAll s_graph_Post_r4p0 [0, 21] [22]) [0, 21] fr H = evTale (some (23, [], [(22, (.op (.lenS .s (.t 0)) [(.t 0)]))])) [0, 21] fr H := tale_row (items := [.tt 0, .sub 0 [] []]) (by kernel_rfl) fr H
theorem s_graph_Post_r4_x (call : CallF) (it : IterF) (base : Nat) (f : List V) (H : Heap) : evC call it base (.region s_graph_Post_r4 [] [0, 21, 22, 23]) f H = segC call it base s_graph_Post_r4t1 [0, 21, 22, 23] H (evTale (symAll s_graph_Post_r4p0 [0, 21] [22]) [0, 21] f H) (origRow call it base s_graph_Post_r4 [0, 21, 22, 23] f H) := row_seg call it base s_graph_Post_r4p0 s_graph_Post_r4t1 (by kernel_rfl) f H
theorem s_graph_Post_r4t1_x (call : CallF) (it : IterF) (base : Nat) (f : List V) (H : Heap) : evC call it base (.region s_graph_Post_r4t1 [] [0, 21, 22, 23]) f H = thenC call it base (.region s_graph_Post_r4t2 [] [0, 21, 22, 23]) (opsC [] s_graph_Post_r4p1 [22] (evOps call base [⟨some 23, (.mkSl [(.s (.bool false))] 1 1 (.t 22) (.t 22)), none⟩] f H)) := (row_op call it base s_graph_Post_r4p1 s_graph_Post_r4t2 (kc := [22]) (by kernel_rfl) f H).trans (by rw [row_ops]; rfl)
theorem s_graph_Post_r4t2_x (call : CallF) (it : IterF) (base : Nat) (f : List V) (H : Heap) : evC call it base (.region s_graph_Post_r4t2 [] [0, 21, 22, 23]) f H = thenC call it base (.region s_graph_Post_r4t3 [] [0, 21, 22, 23]) (opsC [] s_graph_Post_r4p2 [] (evOps call base [⟨some 6, (.alloc [(.s (.slice none 0 0))]), none⟩] f H)) := (row_op call it base s_graph_Post_r4p2 s_graph_Post_r4t3 (kc := []) (by kernel_rfl) f H).trans (by rw [row_ops]; rfl)
theorem s_graph_Post_r4t3_x (call : CallF) (it : IterF) (base : Nat) (f : List V) (H : Heap) : evC call it base (.region s_graph_Post_r4t3 [] [0, 21, 22, 23]) f H = opsC [] s_graph_Post_r4t3 [0, 21, 22, 23] (evOps call base [⟨none, (.store 1 (.t 6) (.t 23)), none⟩] f H) := row_ops call it base _ _ _ f H
def s_graph_Post_r5t1 : List AOper := [⟨none, (.store 1 (.t 26) (.c (.s (.bool true)))), none⟩]
def s_graph_Post_r5p0 : List AOper := [⟨some 24, (.load false 1 (.t 6)), none⟩, ⟨some 25, (.move (.t 1)), none⟩, ⟨some 26, (.indexAddr 1 (.t 24) (.t 25)), none⟩]
def s_graph_Post_r5 : List AOper := s_graph_Post_r5p0 ++ s_graph_Post_r5t1
theorem s_graph_Post_r5p0_tale (fr : List V) (H : Heap) : evTale (symAll s_graph_Post_r5p0 [24, 25] [26]) [24, 25] fr H = evTale (some (27, [], [(26, (.op (.indexAddr 1 (.t 0) (.t 1)) [(.op (.load false 1 (.t 0)) [(.t 6)]), (.t 1)]))])) [24, 25] fr H := tale_row (items := [.sub 0 [0] [], .tt 1, .sub 0 [] []]) (by kernel_rfl) fr H
theorem s_graph_Post_r5_x (call : CallF) (it : IterF) (base : Nat) (f : List V) (H : Heap) : evC call it base (.region s_graph_Post_r5 [] [24, 25, 26]) f H = segC call it base s_graph_Post_r5t1 [24, 25, 26] H (evTale (symAll s_graph_Post_r5p0 [24, 25] [26]) [24, 25] f H) (origRow call it base s_graph_Post_r5 [24, 25, 26] f H) := row_seg call it base s_graph_Post_r5p0 s_graph_Post_r5t1 (by kernel_rfl) f H
theorem s_graph_Post_r5t1_x (call : CallF) (it : IterF) (base : Nat) (f : List V) (H : Heap) : evC call it base (.region s_graph_Post_r5t1 [] [24, 25, 26]) f H = opsC [] s_graph_Post_r5t1 [24, 25, 26] (evOps call base [⟨none, (.store 1 (.t 26) (.c (.s (.bool true)))), none⟩] f H) := row_ops call it base _ _ _ f H
def s_graph_Post_r6t2 : List AOper := [⟨some 7, (.move (.t 28)), none⟩]
def s_graph_Post_r6p1 : List AOper := [⟨some 28, (.buildSl 1 1 [(.s (.int .i64 0))] [(0, (.t 27))]), none⟩]
def s_graph_Post_r6t1 : List AOper := s_graph_Post_r6p1 ++ s_graph_Post_r6t2
def s_graph_Post_r6p0 : List AOper := [⟨some 27, (.move (.t 1)), none⟩]
def s_graph_Post_r6 : List AOper := s_graph_Post_r6p0 ++ s_graph_Post_r6t1
theorem s_graph_Post_r6p0_tale (fr : List V) (H : Heap) : evTale (symAll s_graph_Post_r6p0 [1] [27]) [1] fr H = evTale (some (28, [], [(27, (.t 1))])) [1] fr H := tale_row (items := [.tt 1]) (by kernel_rfl) fr H
theorem s_graph_Post_r6_x (call : CallF) (it : IterF) (base : Nat) (f : List V) (H : Heap) : evC call it base (.region s_graph_Post_r6 [] [1, 27, 28]) f H = segC call it base s_graph_Post_r6t1 [1, 27, 28] H (evTale (symAll s_graph_Post_r6p0 [1] [27]) [1] f H) (origRow call it base s_graph_Post_r6 [1, 27, 28] f H) := row_seg call it base s_graph_Post_r6p0 s_graph_Post_r6t1 (by kernel_rfl) f H
theorem s_graph_Post_r6t1_x (call : CallF) (it : IterF) (base : Nat) (f : List V) (H : Heap) : evC call it base (.region s_graph_Post_r6t1 [] [1, 27, 28]) f H = thenC call it base (.region s_graph_Post_r6t2 [] [1, 27, 28]) (opsC [] s_graph_Post_r6p1 [27] (evOps call base [⟨some 28, (.buildSl 1 1 [(.s (.int .i64 0))] [(0, (.t 27))]), none⟩] f H)) := (row_op call it base s_graph_Post_r6p1 s_graph_Post_r6t2 (kc := [27]) (by kernel_rfl) f H).trans (by rw [row_ops]; rfl)
theorem s_graph_Post_r6t2_tale (fr : List V) (H : Heap) : evTale (symAll s_graph_Post_r6t2 [1, 27, 28] [7]) [1, 27, 28] fr H = evTale (some (8, [], [(7, (.t 28))])) [1, 27, 28] fr H := tale_row (items := [.tt 28]) (by kernel_rfl) fr H
theorem s_graph_Post_r6t2_x (call : CallF) (it : IterF) (base : Nat) (f : List V) (H : Heap) : evC call it base (.region s_graph_Post_r6t2 [] [1, 27, 28]) f H = segL H (evTale (symAll s_graph_Post_r6t2 [1, 27, 28] [7]) [1, 27, 28] f H) (origRow call it base s_graph_Post_r6t2 [1, 27, 28] f H) := row_last call it base _ f H
def s_graph_Post_r7 : List AOper := [
  ⟨some 8, (.move (.c (.s (.slice none 0 0)))), none⟩]
theorem s_graph_Post_r7_tale (fr : List V) (H : Heap) : evTale (symAll s_graph_Post_r7 [] [8]) [] fr H = evTale (some (9, [], [(8, (.c (.s (.slice none 0 0))))])) [] fr H := tale_row (items := [.cc (.s (.slice none 0 0))]) (by kernel_rfl) fr H
def s_graph_Post_r8 : List AOper := [
  ⟨some 29, (.move (.t 7)), none⟩,
  ⟨some 30, (.lenS .s (.t 29)), none⟩,
  ⟨some 31, (.bin .gtr (.t 30) (.c (.s (.int .i64 0)))), none⟩]
theorem s_graph_Post_r8_tale (fr : List V) (H : Heap) : evTale (symAll s_graph_Post_r8 [29, 30] [31]) [29, 30] fr H = evTale (some (32, [], [(31, (.op (.bin .gtr (.t 0) (.c (.s (.int .i64 0)))) [(.op (.lenS .s (.t 0)) [(.t 7)]), (.c (.s (.int .i64 0)))]))])) [29, 30] fr H := tale_row (items := [.tt 7, .sub 0 [0] [], .sub 0 [] []]) (by kernel_rfl) fr H
def s_graph_Post_r9 : List AOper := [
  ⟨some 32, (.move (.t 7)), none⟩,
  ⟨some 33, (.move (.t 7)), none⟩,
  ⟨some 34, (.lenS .s (.t 33)), none⟩,
  ⟨some 35, (.bin .sub (.t 34) (.c (.s (.int .i64 1)))), none⟩,
  ⟨some 36, (.indexAddr 1 (.t 32) (.t 35)), none⟩,
  ⟨some 37, (.load false 1 (.t 36)), none⟩,
  ⟨some 9, (.move (.t 37)), none⟩]
theorem s_graph_Post_r9_tale (fr : List V) (H : Heap) : evTale (symAll s_graph_Post_r9 [31, 32, 33, 34, 35, 36, 37] [9]) [31, 32, 33, 34, 35, 36, 37] fr H = evTale (some (38, [], [(9, (.op (.load false 1 (.t 0)) [(.op (.indexAddr 1 (.t 0) (.t 1)) [(.t 7), (.op (.bin .sub (.t 0) (.c (.s (.int .i64 1)))) [(.op (.lenS .s (.t 0)) [(.t 7)]), (.c (.s (.int .i64 1)))])])]))])) [31, 32, 33, 34, 35, 36, 37] fr H := tale_row (items := [.tt 7, .tt 7, .sub 0 [0, 1, 0] [], .sub 0 [0, 1] [], .sub 0 [0] [], .sub 0 [] [], .sub 0 [] []]) (by kernel_rfl) fr H
def s_graph_Post_r10t2 : List AOper := [⟨some 10, (.move (.t 43)), none⟩]
def s_graph_Post_r10p1 : List AOper := [⟨some 43, (.call (.c (.fn 33 [] [])) [(.t 41), (.t 42)]), none⟩]
def s_graph_Post_r10t1 : List AOper := s_graph_Post_r10p1 ++ s_graph_Post_r10t2
def s_graph_Post_r10p0 : List AOper := [⟨some 38, (.move (.t 5)), none⟩, ⟨some 39, (.move (.t 9)), none⟩, ⟨some 40, (.indexAddr 1 (.t 38) (.t 39)), none⟩, ⟨some 41, (.load false 1 (.t 40)), none⟩, ⟨some 42, (.mkFn 34 [] [(.t 6)]), none⟩]
def s_graph_Post_r10 : List AOper := s_graph_Post_r10p0 ++ s_graph_Post_r10t1
theorem s_graph_Post_r10p0_tale (fr : List V) (H : Heap) : evTale (symAll s_graph_Post_r10p0 [38, 39, 40] [41, 42]) [38, 39, 40] fr H = evTale (some (43, [], [(41, (.op (.load false 1 (.t 0)) [(.op (.indexAddr 1 (.t 0) (.t 1)) [(.t 5), (.t 9)])])), (42, (.op (.mkFn 34 [] [(.t 0)]) [(.t 6)]))])) [38, 39, 40] fr H := tale_row (items := [.tt 5, .tt 9, .sub 0 [0] [], .sub 0 [] [], .sub 1 [] []]) (by kernel_rfl) fr H
theorem s_graph_Post_r10_x (call : CallF) (it : IterF) (base : Nat) (f : List V) (H : Heap) : evC call it base (.region s_graph_Post_r10 [] [38, 39, 40, 41, 42, 43]) f H = segC call it base s_graph_Post_r10t1 [38, 39, 40, 41, 42, 43] H (evTale (symAll s_graph_Post_r10p0 [38, 39, 40] [41, 42]) [38, 39, 40] f H) (origRow call it base s_graph_Post_r10 [38, 39, 40, 41, 42, 43] f H) := row_seg call it base s_graph_Post_r10p0 s_graph_Post_r10t1 (by kernel_rfl) f H
theorem s_graph_Post_r10t1_x (call : CallF) (it : IterF) (base : Nat) (f : List V) (H : Heap) : evC call it base (.region s_graph_Post_r10t1 [] [38, 39, 40, 41, 42, 43]) f H = thenC call it base (.region s_graph_Post_r10t2 [] [38, 39, 40, 41, 42, 43]) (opsC [] s_graph_Post_r10p1 [41, 42] (evOps call base [⟨some 43, (.call (.c (.fn 33 [] [])) [(.t 41), (.t 42)]), none⟩] f H)) := (row_op call it base s_graph_Post_r10p1 s_graph_Post_r10t2 (kc := [41, 42]) (by kernel_rfl) f H).trans (by rw [row_ops]; rfl)
theorem s_graph_Post_r10t2_tale (fr : List V) (H : Heap) : evTale (symAll s_graph_Post_r10t2 [38, 39, 40, 41, 42, 43] [10]) [38, 39, 40, 41, 42, 43] fr H = evTale (some (11, [], [(10, (.t 43))])) [38, 39, 40, 41, 42, 43] fr H := tale_row (items := [.tt 43]) (by kernel_rfl) fr H
theorem s_graph_Post_r10t2_x (call : CallF) (it : IterF) (base : Nat) (f : List V) (H : Heap) : evC call it base (.region s_graph_Post_r10t2 [] [38, 39, 40, 41, 42, 43]) f H = segL H (evTale (symAll s_graph_Post_r10t2 [38, 39, 40, 41, 42, 43] [10]) [38, 39, 40, 41, 42, 43] f H) (origRow call it base s_graph_Post_r10t2 [38, 39, 40, 41, 42, 43] f H) := row_last call it base _ f H
def s_graph_Post_r11 : List AOper := [
  ⟨some 44, (.move (.t 10)), none⟩,
  ⟨some 45, (.bin .lss (.t 44) (.c (.s (.int .i64 0)))), none⟩]
theorem s_graph_Post_r11_tale (fr : List V) (H : Heap) : evTale (symAll s_graph_Post_r11 [44] [45]) [44] fr H = evTale (some (46, [], [(45, (.op (.bin .lss (.t 0) (.c (.s (.int .i64 0)))) [(.t 10), (.c (.s (.int .i64 0)))]))])) [44] fr H := tale_row (items := [.tt 10, .sub 0 [] []]) (by kernel_rfl) fr H
def s_graph_Post_r12t3 : List AOper := [⟨some 8, (.move (.t 49)), none⟩]
def s_graph_Post_r12p2 : List AOper := [⟨some 49, (.append 1 8 (.t 46) (.t 48)), none⟩]
def s_graph_Post_r12t2 : List AOper := s_graph_Post_r12p2 ++ s_graph_Post_r12t3
def s_graph_Post_r12p1 : List AOper := [⟨some 48, (.buildSl 1 1 [(.s (.int .i64 0))] [(0, (.t 47))]), none⟩]
def s_graph_Post_r12t1 : List AOper := s_graph_Post_r12p1 ++ s_graph_Post_r12t2
def s_graph_Post_r12p0 : List AOper := [⟨some 46, (.move (.t 8)), none⟩, ⟨some 47, (.move (.t 9)), none⟩]
def s_graph_Post_r12 : List AOper := s_graph_Post_r12p0 ++ s_graph_Post_r12t1
theorem s_graph_Post_r12p0_tale (fr : List V) (H : Heap) : evTale (symAll s_graph_Post_r12p0 [8, 9, 10, 45] [46, 47]) [8, 9, 10, 45] fr H = evTale (some (48, [], [(46, (.t 8)), (47, (.t 9))])) [8, 9, 10, 45] fr H := tale_row (items := [.tt 8, .tt 9]) (by kernel_rfl) fr H
theorem s_graph_Post_r12_x (call : CallF) (it : IterF) (base : Nat) (f : List V) (H : Heap) : evC call it base (.region s_graph_Post_r12 [] [9, 10, 45, 46, 47, 48, 49]) f H = segC call it base s_graph_Post_r12t1 [9, 10, 45, 46, 47, 48, 49] H (evTale (symAll s_graph_Post_r12p0 [8, 9, 10, 45] [46, 47]) [8, 9, 10, 45] f H) (origRow call it base s_graph_Post_r12 [9, 10, 45, 46, 47, 48, 49] f H) := row_seg call it base s_graph_Post_r12p0 s_graph_Post_r12t1 (by kernel_rfl) f H
theorem s_graph_Post_r12t1_x (call : CallF) (it : IterF) (base : Nat) (f : List V) (H : Heap) : evC call it base (.region s_graph_Post_r12t1 [] [9, 10, 45, 46, 47, 48, 49]) f H = thenC call it base (.region s_graph_Post_r12t2 [] [9, 10, 45, 46, 47, 48, 49]) (opsC [] s_graph_Post_r12p1 [47] (evOps call base [⟨some 48, (.buildSl 1 1 [(.s (.int .i64 0))] [(0, (.t 47))]), none⟩] f H)) := (row_op call it base s_graph_Post_r12p1 s_graph_Post_r12t2 (kc := [47]) (by kernel_rfl) f H).trans (by rw [row_ops]; rfl)
theorem s_graph_Post_r12t2_x (call : CallF) (it : IterF) (base : Nat) (f : List V) (H : Heap) : evC call it base (.region s_graph_Post_r12t2 [] [9, 10, 45, 46, 47, 48, 49]) f H = thenC call it base (.region s_graph_Post_r12t3 [] [9, 10, 45, 46, 47, 48, 49]) (opsC [] s_graph_Post_r12p2 [46, 48] (evOps call base [⟨some 49, (.append 1 8 (.t 46) (.t 48)), none⟩] f H)) := (row_op call it base s_graph_Post_r12p2 s_graph_Post_r12t3 (kc := [46, 48]) (by kernel_rfl) f H).trans (by rw [row_ops]; rfl)
theorem s_graph_Post_r12t3_tale (fr : List V) (H : Heap) : evTale (symAll s_graph_Post_r12t3 [9, 10, 45, 46, 47, 48, 49] [8]) [9, 10, 45, 46, 47, 48, 49] fr H = evTale (some (9, [], [(8, (.t 49))])) [9, 10, 45, 46, 47, 48, 49] fr H := tale_row (items := [.tt 49]) (by kernel_rfl) fr H
theorem s_graph_Post_r12t3_x (call : CallF) (it : IterF) (base : Nat) (f : List V) (H : Heap) : evC call it base (.region s_graph_Post_r12t3 [] [9, 10, 45, 46, 47, 48, 49]) f H = segL H (evTale (symAll s_graph_Post_r12t3 [9, 10, 45, 46, 47, 48, 49] [8]) [9, 10, 45, 46, 47, 48, 49] f H) (origRow call it base s_graph_Post_r12t3 [9, 10, 45, 46, 47, 48, 49] f H) := row_last call it base _ f H
def s_graph_Post_r13 : List AOper := [
  ⟨some 50, (.move (.t 7)), none⟩,
  ⟨some 51, (.move (.t 7)), none⟩,
  ⟨some 52, (.lenS .s (.t 51)), none⟩,
  ⟨some 53, (.bin .sub (.t 52) (.c (.s (.int .i64 1)))), none⟩,
  ⟨some 54, (.subSl 1 (.t 50) none (some (.t 53)) none), none⟩,
  ⟨some 7, (.move (.t 54)), none⟩]
theorem s_graph_Post_r13_tale (fr : List V) (H : Heap) : evTale (symAll s_graph_Post_r13 [50, 51, 52, 53, 54] [7]) [50, 51, 52, 53, 54] fr H = evTale (some (55, [], [(7, (.op (.subSl 1 (.t 0) none (some (.t 1)) none) [(.t 7), (.op (.bin .sub (.t 0) (.c (.s (.int .i64 1)))) [(.op (.lenS .s (.t 0)) [(.t 7)]), (.c (.s (.int .i64 1)))])]))])) [50, 51, 52, 53, 54] fr H := tale_row (items := [.tt 7, .tt 7, .sub 0 [1, 0] [], .sub 0 [1] [], .sub 0 [] [], .sub 0 [] []]) (by kernel_rfl) fr H
def s_graph_Post_r14t1 : List AOper := [⟨none, (.store 1 (.t 63) (.c (.s (.bool true)))), none⟩]
def s_graph_Post_r14p0 : List AOper := [⟨some 55, (.load false 1 (.t 6)), none⟩, ⟨some 56, (.move (.t 5)), none⟩, ⟨some 57, (.move (.t 9)), none⟩, ⟨some 58, (.indexAddr 1 (.t 56) (.t 57)), none⟩, ⟨some 59, (.load false 1 (.t 58)), none⟩, ⟨some 60, (.move (.t 10)), none⟩, ⟨some 61, (.indexAddr 1 (.t 59) (.t 60)), none⟩, ⟨some 62, (.load false 1 (.t 61)), none⟩, ⟨some 63, (.indexAddr 1 (.t 55) (.t 62)), none⟩]
def s_graph_Post_r14 : List AOper := s_graph_Post_r14p0 ++ s_graph_Post_r14t1
theorem s_graph_Post_r14p0_tale (fr : List V) (H : Heap) : evTale (symAll s_graph_Post_r14p0 [45, 55, 56, 57, 58, 59, 60, 61, 62] [63]) [45, 55, 56, 57, 58, 59, 60, 61, 62] fr H = evTale (some (64, [], [(63, (.op (.indexAddr 1 (.t 0) (.t 1)) [(.op (.load false 1 (.t 0)) [(.t 6)]), (.op (.load false 1 (.t 0)) [(.op (.indexAddr 1 (.t 0) (.t 1)) [(.op (.load false 1 (.t 0)) [(.op (.indexAddr 1 (.t 0) (.t 1)) [(.t 5), (.t 9)])]), (.t 10)])])]))])) [45, 55, 56, 57, 58, 59, 60, 61, 62] fr H := tale_row (items := [.sub 0 [0] [], .tt 5, .tt 9, .sub 0 [1, 0, 0, 0] [], .sub 0 [1, 0, 0] [], .tt 10, .sub 0 [1, 0] [], .sub 0 [1] [], .sub 0 [] []]) (by kernel_rfl) fr H
theorem s_graph_Post_r14_x (call : CallF) (it : IterF) (base : Nat) (f : List V) (H : Heap) : evC call it base (.region s_graph_Post_r14 [] [45, 55, 56, 57, 58, 59, 60, 61, 62, 63]) f H = segC call it base s_graph_Post_r14t1 [45, 55, 56, 57, 58, 59, 60, 61, 62, 63] H (evTale (symAll s_graph_Post_r14p0 [45, 55, 56, 57, 58, 59, 60, 61, 62] [63]) [45, 55, 56, 57, 58, 59, 60, 61, 62] f H) (origRow call it base s_graph_Post_r14 [45, 55, 56, 57, 58, 59, 60, 61, 62, 63] f H) := row_seg call it base s_graph_Post_r14p0 s_graph_Post_r14t1 (by kernel_rfl) f H
theorem s_graph_Post_r14t1_x (call : CallF) (it : IterF) (base : Nat) (f : List V) (H : Heap) : evC call it base (.region s_graph_Post_r14t1 [] [45, 55, 56, 57, 58, 59, 60, 61, 62, 63]) f H = opsC [] s_graph_Post_r14t1 [45, 55, 56, 57, 58, 59, 60, 61, 62, 63] (evOps call base [⟨none, (.store 1 (.t 63) (.c (.s (.bool true)))), none⟩] f H) := row_ops call it base _ _ _ f H
def s_graph_Post_r15t3 : List AOper := [⟨some 7, (.move (.t 73)), none⟩]
def s_graph_Post_r15p2 : List AOper := [⟨some 73, (.append 1 8 (.t 64) (.t 72)), none⟩]
def s_graph_Post_r15t2 : List AOper := s_graph_Post_r15p2 ++ s_graph_Post_r15t3
def s_graph_Post_r15p1 : List AOper := [⟨some 72, (.buildSl 1 1 [(.s (.int .i64 0))] [(0, (.t 71))]), none⟩]
def s_graph_Post_r15t1 : List AOper := s_graph_Post_r15p1 ++ s_graph_Post_r15t2
def s_graph_Post_r15p0 : List AOper := [⟨some 64, (.move (.t 7)), none⟩, ⟨some 65, (.move (.t 5)), none⟩, ⟨some 66, (.move (.t 9)), none⟩, ⟨some 67, (.indexAddr 1 (.t 65) (.t 66)), none⟩, ⟨some 68, (.load false 1 (.t 67)), none⟩, ⟨some 69, (.move (.t 10)), none⟩, ⟨some 70, (.indexAddr 1 (.t 68) (.t 69)), none⟩, ⟨some 71, (.load false 1 (.t 70)), none⟩]
def s_graph_Post_r15 : List AOper := s_graph_Post_r15p0 ++ s_graph_Post_r15t1
theorem s_graph_Post_r15p0_tale (fr : List V) (H : Heap) : evTale (symAll s_graph_Post_r15p0 [7, 9, 10, 65, 66, 67, 68, 69, 70] [64, 71]) [7, 9, 10, 65, 66, 67, 68, 69, 70] fr H = evTale (some (72, [], [(64, (.t 7)), (71, (.op (.load false 1 (.t 0)) [(.op (.indexAddr 1 (.t 0) (.t 1)) [(.op (.load false 1 (.t 0)) [(.op (.indexAddr 1 (.t 0) (.t 1)) [(.t 5), (.t 9)])]), (.t 10)])]))])) [7, 9, 10, 65, 66, 67, 68, 69, 70] fr H := tale_row (items := [.tt 7, .tt 5, .tt 9, .sub 1 [0, 0, 0] [], .sub 1 [0, 0] [], .tt 10, .sub 1 [0] [], .sub 1 [] []]) (by kernel_rfl) fr H
theorem s_graph_Post_r15_x (call : CallF) (it : IterF) (base : Nat) (f : List V) (H : Heap) : evC call it base (.region s_graph_Post_r15 [] [9, 10, 64, 65, 66, 67, 68, 69, 70, 71, 72, 73]) f H = segC call it base s_graph_Post_r15t1 [9, 10, 64, 65, 66, 67, 68, 69, 70, 71, 72, 73] H (evTale (symAll s_graph_Post_r15p0 [7, 9, 10, 65, 66, 67, 68, 69, 70] [64, 71]) [7, 9, 10, 65, 66, 67, 68, 69, 70] f H) (origRow call it base s_graph_Post_r15 [9, 10, 64, 65, 66, 67, 68, 69, 70, 71, 72, 73] f H) := row_seg call it base s_graph_Post_r15p0 s_graph_Post_r15t1 (by kernel_rfl) f H
theorem s_graph_Post_r15t1_x (call : CallF) (it : IterF) (base : Nat) (f : List V) (H : Heap) : evC call it base (.region s_graph_Post_r15t1 [] [9, 10, 64, 65, 66, 67, 68, 69, 70, 71, 72, 73]) f H = thenC call it base (.region s_graph_Post_r15t2 [] [9, 10, 64, 65, 66, 67, 68, 69, 70, 71, 72, 73]) (opsC [] s_graph_Post_r15p1 [71] (evOps call base [⟨some 72, (.buildSl 1 1 [(.s (.int .i64 0))] [(0, (.t 71))]), none⟩] f H)) := (row_op call it base s_graph_Post_r15p1 s_graph_Post_r15t2 (kc := [71]) (by kernel_rfl) f H).trans (by rw [row_ops]; rfl)
theorem s_graph_Post_r15t2_x (call : CallF) (it : IterF) (base : Nat) (f : List V) (H : Heap) : evC call it base (.region s_graph_Post_r15t2 [] [9, 10, 64, 65, 66, 67, 68, 69, 70, 71, 72, 73]) f H = thenC call it base (.region s_graph_Post_r15t3 [] [9, 10, 64, 65, 66, 67, 68, 69, 70, 71, 72, 73]) (opsC [] s_graph_Post_r15p2 [64, 72] (evOps call base [⟨some 73, (.append 1 8 (.t 64) (.t 72)), none⟩] f H)) := (row_op call it base s_graph_Post_r15p2 s_graph_Post_r15t3 (kc := [64, 72]) (by kernel_rfl) f H).trans (by rw [row_ops]; rfl)
theorem s_graph_Post_r15t3_tale (fr : List V) (H : Heap) : evTale (symAll s_graph_Post_r15t3 [9, 10, 64, 65, 66, 67, 68, 69, 70, 71, 72, 73] [7]) [9, 10, 64, 65, 66, 67, 68, 69, 70, 71, 72, 73] fr H = evTale (some (8, [], [(7, (.t 73))])) [9, 10, 64, 65, 66, 67, 68, 69, 70, 71, 72, 73] fr H := tale_row (items := [.tt 73]) (by kernel_rfl) fr H
theorem s_graph_Post_r15t3_x (call : CallF) (it : IterF) (base : Nat) (f : List V) (H : Heap) : evC call it base (.region s_graph_Post_r15t3 [] [9, 10, 64, 65, 66, 67, 68, 69, 70, 71, 72, 73]) f H = segL H (evTale (symAll s_graph_Post_r15t3 [9, 10, 64, 65, 66, 67, 68, 69, 70, 71, 72, 73] [7]) [9, 10, 64, 65, 66, 67, 68, 69, 70, 71, 72, 73] f H) (origRow call it base s_graph_Post_r15t3 [9, 10, 64, 65, 66, 67, 68, 69, 70, 71, 72, 73] f H) := row_last call it base _ f H
def s_graph_Post_l0_b : ACode :=
  (.seq (.seq (.regionE s_graph_Post_r8 [29, 30] [31])
  (.cond (.t 31)
  .skip
  (.exit 0)))
  (.block 1
  (.seq (.regionE s_graph_Post_r9 [31, 32, 33, 34, 35, 36, 37] [9])
  (.seq (.region s_graph_Post_r10 [] [38, 39, 40, 41, 42, 43])
  (.seq (.seq (.regionE s_graph_Post_r11 [44] [45])
  (.cond (.t 45)
  (.seq (.region s_graph_Post_r12 [] [9, 10, 45, 46, 47, 48, 49])
  (.seq (.regionE s_graph_Post_r13 [50, 51, 52, 53, 54] [7])
  (.exit 1)))
  .skip))
  (.seq (.region s_graph_Post_r14 [] [45, 55, 56, 57, 58, 59, 60, 61, 62, 63])
  (.region s_graph_Post_r15 [] [9, 10, 64, 65, 66, 67, 68, 69, 70, 71, 72, 73])))))))
def s_graph_Post_l0 : ACode := s_graph_Post_l0_b
theorem s_graph_Post_l0_ev (call : CallF) (it : IterF) (base : Nat) (fr : List V) (H : Heap) : evC call it base s_graph_Post_l0 fr H = evC call it base s_graph_Post_l0_b fr H := rfl
def s_graph_Post_r16t1 : List AOper := [⟨some 75, (.call (.c (.fn 35 [] [])) [(.t 74)]), none⟩]
def s_graph_Post_r16p0 : List AOper := [⟨some 74, (.move (.t 8)), none⟩]
def s_graph_Post_r16 : List AOper := s_graph_Post_r16p0 ++ s_graph_Post_r16t1
theorem s_graph_Post_r16p0_tale (fr : List V) (H : Heap) : evTale (symAll s_graph_Post_r16p0 [5, 6, 7, 31] [74]) [5, 6, 7, 31] fr H = evTale (some (75, [], [(74, (.t 8))])) [5, 6, 7, 31] fr H := tale_row (items := [.tt 8]) (by kernel_rfl) fr H
theorem s_graph_Post_r16_x (call : CallF) (it : IterF) (base : Nat) (f : List V) (H : Heap) : evC call it base (.region s_graph_Post_r16 [] [5, 6, 7, 31, 74, 75]) f H = segC call it base s_graph_Post_r16t1 [5, 6, 7, 31, 74, 75] H (evTale (symAll s_graph_Post_r16p0 [5, 6, 7, 31] [74]) [5, 6, 7, 31] f H) (origRow call it base s_graph_Post_r16 [5, 6, 7, 31, 74, 75] f H) := row_seg call it base s_graph_Post_r16p0 s_graph_Post_r16t1 (by kernel_rfl) f H
theorem s_graph_Post_r16t1_x (call : CallF) (it : IterF) (base : Nat) (f : List V) (H : Heap) : evC call it base (.region s_graph_Post_r16t1 [] [5, 6, 7, 31, 74, 75]) f H = opsC [] s_graph_Post_r16t1 [5, 6, 7, 31, 74, 75] (evOps call base [⟨some 75, (.call (.c (.fn 35 [] [])) [(.t 74)]), none⟩] f H) := row_ops call it base _ _ _ f H
def s_graph_Post_r17 : List AOper := [
  ⟨some 76, (.move (.t 8)), none⟩,
  ⟨some 4, (.move (.t 76)), none⟩]
theorem s_graph_Post_r17_tale (fr : List V) (H : Heap) : evTale (symAll s_graph_Post_r17 [8, 76] [4]) [8, 76] fr H = evTale (some (77, [], [(4, (.t 8))])) [8, 76] fr H := tale_row (items := [.tt 8, .tt 8]) (by kernel_rfl) fr H
def s_graph_Post : ACFun := { ntmps := 77, results := [(.tmp 4)], body :=
  (.seq (.regionE s_graph_Post_r0 s_graph_Post_r0_k [])
  (.seq (.seq (.regionE s_graph_Post_r1 [11, 12, 13, 14, 15, 16, 17] [18])
  (.cond (.t 18)
  (.seq (.regionE s_graph_Post_r2 [0, 1, 18] [4])
  .ret)
  .skip))
  (.seq (.region s_graph_Post_r3 [] [18, 19, 20])
  (.seq (.region s_graph_Post_r4 [] [0, 21, 22, 23])
  (.seq (.region s_graph_Post_r5 [] [24, 25, 26])
  (.seq (.region s_graph_Post_r6 [] [1, 27, 28])
  (.seq (.regionE s_graph_Post_r7 [] [8])
  (.seq (.block 0
  (.loop [] s_graph_Post_l0))
  (.seq (.region s_graph_Post_r16 [] [5, 6, 7, 31, 74, 75])
  (.seq (.regionE s_graph_Post_r17 [8, 76] [4])
  .ret)))))))))) }
abbrev k_graph_Post_1 : Nat := 34
def s_graph_Post_1_r0_k : List Nat := [2, 3, 4, 5, 6, 7, 8]
theorem s_graph_Post_1_r0_kT : killV s_graph_Post_1_r0_k (startV 9 [] 2) = [] := by kernel_rfl
theorem s_graph_Post_1_r0_kA0 : s_graph_Post_1_r0_k.contains 0 = false := by kernel_rfl
theorem s_graph_Post_1_r0_kA1 : s_graph_Post_1_r0_k.contains 1 = false := by kernel_rfl
def s_graph_Post_1_r0 : List AOper := [
  ⟨some 3, (.move (.c (.s (.bool false)))), none⟩]
theorem s_graph_Post_1_r0_tale (fr : List V) (H : Heap) : evTale (symAll s_graph_Post_1_r0 s_graph_Post_1_r0_k []) s_graph_Post_1_r0_k fr H = evTale (some (4, [], [])) s_graph_Post_1_r0_k fr H := tale_row (items := [.cc (.s (.bool false))]) (by kernel_rfl) fr H
def s_graph_Post_1_r1 : List AOper := [
  ⟨some 4, (.load false 1 (.t 1)), none⟩,
  ⟨some 5, (.move (.t 0)), none⟩,
  ⟨some 6, (.indexAddr 1 (.t 4) (.t 5)), none⟩,
  ⟨some 7, (.load false 1 (.t 6)), none⟩,
  ⟨some 8, (.un .not (.t 7)), none⟩,
  ⟨some 3, (.move (.t 8)), none⟩]
theorem s_graph_Post_1_r1_tale (fr : List V) (H : Heap) : evTale (symAll s_graph_Post_1_r1 [0, 1, 4, 5, 6, 7, 8] [3]) [0, 1, 4, 5, 6, 7, 8] fr H = evTale (some (9, [], [(3, (.op (.un .not (.t 0)) [(.op (.load false 1 (.t 0)) [(.op (.indexAddr 1 (.t 0) (.t 1)) [(.op (.load false 1 (.t 0)) [(.t 1)]), (.t 0)])])]))])) [0, 1, 4, 5, 6, 7, 8] fr H := tale_row (items := [.sub 0 [0, 0, 0] [], .tt 0, .sub 0 [0, 0] [], .sub 0 [0] [], .sub 0 [] [], .sub 0 [] []]) (by kernel_rfl) fr H
def s_graph_Post_1 : ACFun := { ntmps := 9, results := [(.tmp 3)], body :=
  (.seq (.regionE s_graph_Post_1_r0 s_graph_Post_1_r0_k [])
  (.seq (.regionE s_graph_Post_1_r1 [0, 1, 4, 5, 6, 7, 8] [3])
  .ret)) }
abbrev k_slices_Reverse_int_int : Nat := 35
def s_slices_Reverse_int_int_r0_k : List Nat := [1, 4, 5, 6, 7, 8, 9, 10, 11, 12, 13, 14, 15, 16, 17, 18, 19, 20, 21, 22, 23, 24, 25, 26, 27]
theorem s_slices_Reverse_int_int_r0_kT : killV s_slices_Reverse_int_int_r0_k (startV 28 [] 1) = [(2, und), (3, und)] := by kernel_rfl
theorem s_slices_Reverse_int_int_r0_kA0 : s_slices_Reverse_int_int_r0_k.contains 0 = false := by kernel_rfl
def s_slices_Reverse_int_int_r0 : List AOper := [
  ⟨some 4, (.move (.t 0)), none⟩,
  ⟨some 5, (.lenS .s (.t 4)), none⟩,
  ⟨some 6, (.bin .sub (.t 5) (.c (.s (.int .i64 1)))), none⟩,
  ⟨some 2, (.move (.c (.s (.int .i64 0)))), none⟩,
  ⟨some 3, (.move (.t 6)), none⟩]
theorem s_slices_Reverse_int_int_r0_tale (fr : List V) (H : Heap) : evTale (symAll s_slices_Reverse_int_int_r0 s_slices_Reverse_int_int_r0_k [2, 3]) s_slices_Reverse_int_int_r0_k fr H = evTale (some (7, [], [(2, (.c (.s (.int .i64 0)))), (3, (.op (.bin .sub (.t 0) (.c (.s (.int .i64 1)))) [(.op (.lenS .s (.t 0)) [(.t 0)]), (.c (.s (.int .i64 1)))]))])) s_slices_Reverse_int_int_r0_k fr H := tale_row (items := [.tt 0, .sub 1 [0] [], .sub 1 [] [], .cc (.s (.int .i64 0)), .sub 1 [] []]) (by kernel_rfl) fr H
def s_slices_Reverse_int_int_r1 : List AOper := [
  ⟨some 7, (.move (.t 2)), none⟩,
  ⟨some 8, (.move (.t 3)), none⟩,
  ⟨some 9, (.bin .lss (.t 7) (.t 8)), none⟩]
theorem s_slices_Reverse_int_int_r1_tale (fr : List V) (H : Heap) : evTale (symAll s_slices_Reverse_int_int_r1 [7, 8] [9]) [7, 8] fr H = evTale (some (10, [], [(9, (.op (.bin .lss (.t 0) (.t 1)) [(.t 2), (.t 3)]))])) [7, 8] fr H := tale_row (items := [.tt 2, .tt 3, .sub 0 [] []]) (by kernel_rfl) fr H
def s_slices_Reverse_int_int_r2t3 : List AOper := [⟨none, (.store 1 (.t 27) (.t 25)), none⟩]
def s_slices_Reverse_int_int_r2p2 : List AOper := [⟨some 27, (.indexAddr 1 (.t 16) (.t 17)), none⟩]
def s_slices_Reverse_int_int_r2t2 : List AOper := s_slices_Reverse_int_int_r2p2 ++ s_slices_Reverse_int_int_r2t3
def s_slices_Reverse_int_int_r2p1 : List AOper := [⟨none, (.store 1 (.t 26) (.t 21)), none⟩]
def s_slices_Reverse_int_int_r2t1 : List AOper := s_slices_Reverse_int_int_r2p1 ++ s_slices_Reverse_int_int_r2t2
def s_slices_Reverse_int_int_r2p0 : List AOper := [⟨some 14, (.move (.t 0)), none⟩, ⟨some 15, (.move (.t 2)), none⟩, ⟨some 16, (.move (.t 0)), none⟩, ⟨some 17, (.move (.t 3)), none⟩, ⟨some 18, (.move (.t 0)), none⟩, ⟨some 19, (.move (.t 3)), none⟩, ⟨some 20, (.indexAddr 1 (.t 18) (.t 19)), none⟩, ⟨some 21, (.load false 1 (.t 20)), none⟩, ⟨some 22, (.move (.t 0)), none⟩, ⟨some 23, (.move (.t 2)), none⟩, ⟨some 24, (.indexAddr 1 (.t 22) (.t 23)), none⟩, ⟨some 25, (.load false 1 (.t 24)), none⟩, ⟨some 26, (.indexAddr 1 (.t 14) (.t 15)), none⟩]
def s_slices_Reverse_int_int_r2 : List AOper := s_slices_Reverse_int_int_r2p0 ++ s_slices_Reverse_int_int_r2t1
theorem s_slices_Reverse_int_int_r2p0_tale (fr : List V) (H : Heap) : evTale (symAll s_slices_Reverse_int_int_r2p0 [9, 14, 15, 18, 19, 20, 22, 23, 24] [16, 17, 21, 25, 26]) [9, 14, 15, 18, 19, 20, 22, 23, 24] fr H = evTale (some (27, [], [(16, (.t 0)), (17, (.t 3)), (21, (.op (.load false 1 (.t 0)) [(.op (.indexAddr 1 (.t 0) (.t 1)) [(.t 0), (.t 3)])])), (25, (.op (.load false 1 (.t 0)) [(.op (.indexAddr 1 (.t 0) (.t 1)) [(.t 0), (.t 2)])])), (26, (.op (.indexAddr 1 (.t 0) (.t 1)) [(.t 0), (.t 2)]))])) [9, 14, 15, 18, 19, 20, 22, 23, 24] fr H := tale_row (items := [.tt 0, .tt 2, .tt 0, .tt 3, .tt 0, .tt 3, .sub 2 [0] [], .sub 2 [] [], .tt 0, .tt 2, .sub 3 [0] [], .sub 3 [] [], .sub 3 [0] []]) (by kernel_rfl) fr H
theorem s_slices_Reverse_int_int_r2_x (call : CallF) (it : IterF) (base : Nat) (f : List V) (H : Heap) : evC call it base (.region s_slices_Reverse_int_int_r2 [] [9, 14, 15, 16, 17, 18, 19, 20, 21, 22, 23, 24, 25, 26, 27]) f H = segC call it base s_slices_Reverse_int_int_r2t1 [9, 14, 15, 16, 17, 18, 19, 20, 21, 22, 23, 24, 25, 26, 27] H (evTale (symAll s_slices_Reverse_int_int_r2p0 [9, 14, 15, 18, 19, 20, 22, 23, 24] [16, 17, 21, 25, 26]) [9, 14, 15, 18, 19, 20, 22, 23, 24] f H) (origRow call it base s_slices_Reverse_int_int_r2 [9, 14, 15, 16, 17, 18, 19, 20, 21, 22, 23, 24, 25, 26, 27] f H) := row_seg call it base s_slices_Reverse_int_int_r2p0 s_slices_Reverse_int_int_r2t1 (by kernel_rfl) f H
theorem s_slices_Reverse_int_int_r2t1_x (call : CallF) (it : IterF) (base : Nat) (f : List V) (H : Heap) : evC call it base (.region s_slices_Reverse_int_int_r2t1 [] [9, 14, 15, 16, 17, 18, 19, 20, 21, 22, 23, 24, 25, 26, 27]) f H = thenC call it base (.region s_slices_Reverse_int_int_r2t2 [] [9, 14, 15, 16, 17, 18, 19, 20, 21, 22, 23, 24, 25, 26, 27]) (opsC [] s_slices_Reverse_int_int_r2p1 [21, 26] (evOps call base [⟨none, (.store 1 (.t 26) (.t 21)), none⟩] f H)) := (row_op call it base s_slices_Reverse_int_int_r2p1 s_slices_Reverse_int_int_r2t2 (kc := [21, 26]) (by kernel_rfl) f H).trans (by rw [row_ops]; rfl)
theorem s_slices_Reverse_int_int_r2p2_tale (fr : List V) (H : Heap) : evTale (symAll s_slices_Reverse_int_int_r2p2 [16, 17] [27]) [16, 17] fr H = evTale (some (28, [], [(27, (.op (.indexAddr 1 (.t 0) (.t 1)) [(.t 16), (.t 17)]))])) [16, 17] fr H := tale_row (items := [.sub 0 [] []]) (by kernel_rfl) fr H
theorem s_slices_Reverse_int_int_r2t2_x (call : CallF) (it : IterF) (base : Nat) (f : List V) (H : Heap) : evC call it base (.region s_slices_Reverse_int_int_r2t2 [] [9, 14, 15, 16, 17, 18, 19, 20, 21, 22, 23, 24, 25, 26, 27]) f H = segC call it base s_slices_Reverse_int_int_r2t3 [9, 14, 15, 16, 17, 18, 19, 20, 21, 22, 23, 24, 25, 26, 27] H (evTale (symAll s_slices_Reverse_int_int_r2p2 [16, 17] [27]) [16, 17] f H) (origRow call it base s_slices_Reverse_int_int_r2t2 [9, 14, 15, 16, 17, 18, 19, 20, 21, 22, 23, 24, 25, 26, 27] f H) := row_seg call it base s_slices_Reverse_int_int_r2p2 s_slices_Reverse_int_int_r2t3 (by kernel_rfl) f H
theorem s_slices_Reverse_int_int_r2t3_x (call : CallF) (it : IterF) (base : Nat) (f : List V) (H : Heap) : evC call it base (.region s_slices_Reverse_int_int_r2t3 [] [9, 14, 15, 16, 17, 18, 19, 20, 21, 22, 23, 24, 25, 26, 27]) f H = opsC [] s_slices_Reverse_int_int_r2t3 [9, 14, 15, 16, 17, 18, 19, 20, 21, 22, 23, 24, 25, 26, 27] (evOps call base [⟨none, (.store 1 (.t 27) (.t 25)), none⟩] f H) := row_ops call it base _ _ _ f H
def s_slices_Reverse_int_int_r3 : List AOper := [
  ⟨some 10, (.move (.t 2)), none⟩,
  ⟨some 11, (.bin .add (.t 10) (.c (.s (.int .i64 1)))), none⟩,
  ⟨some 12, (.move (.t 3)), none⟩,
  ⟨some 13, (.bin .sub (.t 12) (.c (.s (.int .i64 1)))), none⟩,
  ⟨some 2, (.move (.t 11)), none⟩,
  ⟨some 3, (.move (.t 13)), none⟩]
theorem s_slices_Reverse_int_int_r3_tale (fr : List V) (H : Heap) : evTale (symAll s_slices_Reverse_int_int_r3 [10, 11, 12, 13] [2, 3]) [10, 11, 12, 13] fr H = evTale (some (14, [], [(2, (.op (.bin .add (.t 0) (.c (.s (.int .i64 1)))) [(.t 2), (.c (.s (.int .i64 1)))])), (3, (.op (.bin .sub (.t 0) (.c (.s (.int .i64 1)))) [(.t 3), (.c (.s (.int .i64 1)))]))])) [10, 11, 12, 13] fr H := tale_row (items := [.tt 2, .sub 0 [] [], .tt 3, .sub 1 [] [], .sub 0 [] [], .sub 1 [] []]) (by kernel_rfl) fr H
def s_slices_Reverse_int_int_l0_b : ACode :=
  (.seq (.seq (.regionE s_slices_Reverse_int_int_r1 [7, 8] [9])
  (.cond (.t 9)
  .skip
  (.exit 0)))
  (.seq (.block 1
  (.region s_slices_Reverse_int_int_r2 [] [9, 14, 15, 16, 17, 18, 19, 20, 21, 22, 23, 24, 25, 26, 27]))
  (.regionE s_slices_Reverse_int_int_r3 [10, 11, 12, 13] [2, 3])))
def s_slices_Reverse_int_int_l0 : ACode := s_slices_Reverse_int_int_l0_b
theorem s_slices_Reverse_int_int_l0_ev (call : CallF) (it : IterF) (base : Nat) (fr : List V) (H : Heap) : evC call it base s_slices_Reverse_int_int_l0 fr H = evC call it base s_slices_Reverse_int_int_l0_b fr H := rfl
def s_slices_Reverse_int_int : ACFun := { ntmps := 28, results := [], body :=
  (.seq (.regionE s_slices_Reverse_int_int_r0 s_slices_Reverse_int_int_r0_k [2, 3])
  (.block 0
  (.loop [] s_slices_Reverse_int_int_l0))) }
abbrev k_gnomonref07_walk : Nat := 36
def s_gnomonref07_walk_r0_k : List Nat := [4, 5, 6, 7, 8, 9, 10, 11, 12, 13, 14, 15, 16, 17, 18, 19, 20, 21, 22, 23, 24, 25, 26, 27, 28, 29, 30, 31, 32, 33, 34, 35, 36, 37, 38, 39, 40, 41, 42, 43, 44, 45, 46, 47]
theorem s_gnomonref07_walk_r0_kT : killV s_gnomonref07_walk_r0_k (startV 48 [] 4) = [] := by kernel_rfl
theorem s_gnomonref07_walk_r0_kA0 : s_gnomonref07_walk_r0_k.contains 0 = false := by kernel_rfl
theorem s_gnomonref07_walk_r0_kA1 : s_gnomonref07_walk_r0_k.contains 1 = false := by kernel_rfl
theorem s_gnomonref07_walk_r0_kA2 : s_gnomonref07_walk_r0_k.contains 2 = false := by kernel_rfl
theorem s_gnomonref07_walk_r0_kA3 : s_gnomonref07_walk_r0_k.contains 3 = false := by kernel_rfl
def s_gnomonref07_walk_r0 : List AOper := [
  ⟨some 8, (.move (.c (.s (.slice none 0 0)))), none⟩]
theorem s_gnomonref07_walk_r0_tale (fr : List V) (H : Heap) : evTale (symAll s_gnomonref07_walk_r0 s_gnomonref07_walk_r0_k []) s_gnomonref07_walk_r0_k fr H = evTale (some (9, [], [])) s_gnomonref07_walk_r0_k fr H := tale_row (items := [.cc (.s (.slice none 0 0))]) (by kernel_rfl) fr H
def s_gnomonref07_walk_r1t1 : List AOper := [⟨none, (.store 1 (.t 12) (.c (.s (.bool true)))), none⟩]
def s_gnomonref07_walk_r1p0 : List AOper := [⟨some 10, (.move (.t 2)), none⟩, ⟨some 11, (.move (.t 1)), none⟩, ⟨some 12, (.indexAddr 1 (.t 10) (.t 11)), none⟩]
def s_gnomonref07_walk_r1 : List AOper := s_gnomonref07_walk_r1p0 ++ s_gnomonref07_walk_r1t1
theorem s_gnomonref07_walk_r1p0_tale (fr : List V) (H : Heap) : evTale (symAll s_gnomonref07_walk_r1p0 [10, 11] [12]) [10, 11] fr H = evTale (some (13, [], [(12, (.op (.indexAddr 1 (.t 0) (.t 1)) [(.t 2), (.t 1)]))])) [10, 11] fr H := tale_row (items := [.tt 2, .tt 1, .sub 0 [] []]) (by kernel_rfl) fr H
theorem s_gnomonref07_walk_r1_x (call : CallF) (it : IterF) (base : Nat) (f : List V) (H : Heap) : evC call it base (.region s_gnomonref07_walk_r1 [] [10, 11, 12]) f H = segC call it base s_gnomonref07_walk_r1t1 [10, 11, 12] H (evTale (symAll s_gnomonref07_walk_r1p0 [10, 11] [12]) [10, 11] f H) (origRow call it base s_gnomonref07_walk_r1 [10, 11, 12] f H) := row_seg call it base s_gnomonref07_walk_r1p0 s_gnomonref07_walk_r1t1 (by kernel_rfl) f H
theorem s_gnomonref07_walk_r1t1_x (call : CallF) (it : IterF) (base : Nat) (f : List V) (H : Heap) : evC call it base (.region s_gnomonref07_walk_r1t1 [] [10, 11, 12]) f H = opsC [] s_gnomonref07_walk_r1t1 [10, 11, 12] (evOps call base [⟨none, (.store 1 (.t 12) (.c (.s (.bool true)))), none⟩] f H) := row_ops call it base _ _ _ f H
def s_gnomonref07_walk_r2 : List AOper := [
  ⟨some 9, (.move (.c (.s (.int .i64 0)))), none⟩]
theorem s_gnomonref07_walk_r2_tale (fr : List V) (H : Heap) : evTale (symAll s_gnomonref07_walk_r2 [] [9]) [] fr H = evTale (some (10, [], [(9, (.c (.s (.int .i64 0))))])) [] fr H := tale_row (items := [.cc (.s (.int .i64 0))]) (by kernel_rfl) fr H
def s_gnomonref07_walk_r3 : List AOper := [
  ⟨some 13, (.move (.t 9)), none⟩,
  ⟨some 14, (.move (.t 0)), none⟩,
  ⟨some 15, (.move (.t 1)), none⟩,
  ⟨some 16, (.indexAddr 1 (.t 14) (.t 15)), none⟩,
  ⟨some 17, (.load false 1 (.t 16)), none⟩,
  ⟨some 18, (.lenS .s (.t 17)), none⟩,
  ⟨some 19, (.bin .lss (.t 13) (.t 18)), none⟩]
theorem s_gnomonref07_walk_r3_tale (fr : List V) (H : Heap) : evTale (symAll s_gnomonref07_walk_r3 [13, 14, 15, 16, 17, 18] [19]) [13, 14, 15, 16, 17, 18] fr H = evTale (some (20, [], [(19, (.op (.bin .lss (.t 0) (.t 1)) [(.t 9), (.op (.lenS .s (.t 0)) [(.op (.load false 1 (.t 0)) [(.op (.indexAddr 1 (.t 0) (.t 1)) [(.t 0), (.t 1)])])])]))])) [13, 14, 15, 16, 17, 18] fr H := tale_row (items := [.tt 9, .tt 0, .tt 1, .sub 0 [1, 0, 0] [], .sub 0 [1, 0] [], .sub 0 [1] [], .sub 0 [] []]) (by kernel_rfl) fr H
def s_gnomonref07_walk_r4 : List AOper := [
  ⟨some 22, (.move (.t 2)), none⟩,
  ⟨some 23, (.move (.t 0)), none⟩,
  ⟨some 24, (.move (.t 1)), none⟩,
  ⟨some 25, (.indexAddr 1 (.t 23) (.t 24)), none⟩,
  ⟨some 26, (.load false 1 (.t 25)), none⟩,
  ⟨some 27, (.move (.t 9)), none⟩,
  ⟨some 28, (.indexAddr 1 (.t 26) (.t 27)), none⟩,
  ⟨some 29, (.load false 1 (.t 28)), none⟩,
  ⟨some 30, (.indexAddr 1 (.t 22) (.t 29)), none⟩,
  ⟨some 31, (.load false 1 (.t 30)), none⟩,
  ⟨some 32, (.un .not (.t 31)), none⟩]
theorem s_gnomonref07_walk_r4_tale (fr : List V) (H : Heap) : evTale (symAll s_gnomonref07_walk_r4 [19, 22, 23, 24, 25, 26, 27, 28, 29, 30, 31] [32]) [19, 22, 23, 24, 25, 26, 27, 28, 29, 30, 31] fr H = evTale (some (33, [], [(32, (.op (.un .not (.t 0)) [(.op (.load false 1 (.t 0)) [(.op (.indexAddr 1 (.t 0) (.t 1)) [(.t 2), (.op (.load false 1 (.t 0)) [(.op (.indexAddr 1 (.t 0) (.t 1)) [(.op (.load false 1 (.t 0)) [(.op (.indexAddr 1 (.t 0) (.t 1)) [(.t 0), (.t 1)])]), (.t 9)])])])])]))])) [19, 22, 23, 24, 25, 26, 27, 28, 29, 30, 31] fr H := tale_row (items := [.tt 2, .tt 0, .tt 1, .sub 0 [0, 0, 1, 0, 0, 0] [], .sub 0 [0, 0, 1, 0, 0] [], .tt 9, .sub 0 [0, 0, 1, 0] [], .sub 0 [0, 0, 1] [], .sub 0 [0, 0] [], .sub 0 [0] [], .sub 0 [] []]) (by kernel_rfl) fr H
def s_gnomonref07_walk_r5t2 : List AOper := [⟨some 3, (.move (.t 43)), none⟩]
def s_gnomonref07_walk_r5p1 : List AOper := [⟨some 43, (.call (.c (.fn 36 [] [])) [(.t 33), (.t 40), (.t 41), (.t 42)]), none⟩]
def s_gnomonref07_walk_r5t1 : List AOper := s_gnomonref07_walk_r5p1 ++ s_gnomonref07_walk_r5t2
def s_gnomonref07_walk_r5p0 : List AOper := [⟨some 33, (.move (.t 0)), none⟩, ⟨some 34, (.move (.t 0)), none⟩, ⟨some 35, (.move (.t 1)), none⟩, ⟨some 36, (.indexAddr 1 (.t 34) (.t 35)), none⟩, ⟨some 37, (.load false 1 (.t 36)), none⟩, ⟨some 38, (.move (.t 9)), none⟩, ⟨some 39, (.indexAddr 1 (.t 37) (.t 38)), none⟩, ⟨some 40, (.load false 1 (.t 39)), none⟩, ⟨some 41, (.move (.t 2)), none⟩, ⟨some 42, (.move (.t 3)), none⟩]
def s_gnomonref07_walk_r5 : List AOper := s_gnomonref07_walk_r5p0 ++ s_gnomonref07_walk_r5t1
theorem s_gnomonref07_walk_r5p0_tale (fr : List V) (H : Heap) : evTale (symAll s_gnomonref07_walk_r5p0 [3, 32, 34, 35, 36, 37, 38, 39] [33, 40, 41, 42]) [3, 32, 34, 35, 36, 37, 38, 39] fr H = evTale (some (43, [], [(33, (.t 0)), (40, (.op (.load false 1 (.t 0)) [(.op (.indexAddr 1 (.t 0) (.t 1)) [(.op (.load false 1 (.t 0)) [(.op (.indexAddr 1 (.t 0) (.t 1)) [(.t 0), (.t 1)])]), (.t 9)])])), (41, (.t 2)), (42, (.t 3))])) [3, 32, 34, 35, 36, 37, 38, 39] fr H := tale_row (items := [.tt 0, .tt 0, .tt 1, .sub 1 [0, 0, 0] [], .sub 1 [0, 0] [], .tt 9, .sub 1 [0] [], .sub 1 [] [], .tt 2, .tt 3]) (by kernel_rfl) fr H
theorem s_gnomonref07_walk_r5_x (call : CallF) (it : IterF) (base : Nat) (f : List V) (H : Heap) : evC call it base (.region s_gnomonref07_walk_r5 [] [32, 33, 34, 35, 36, 37, 38, 39, 40, 41, 42, 43]) f H = segC call it base s_gnomonref07_walk_r5t1 [32, 33, 34, 35, 36, 37, 38, 39, 40, 41, 42, 43] H (evTale (symAll s_gnomonref07_walk_r5p0 [3, 32, 34, 35, 36, 37, 38, 39] [33, 40, 41, 42]) [3, 32, 34, 35, 36, 37, 38, 39] f H) (origRow call it base s_gnomonref07_walk_r5 [32, 33, 34, 35, 36, 37, 38, 39, 40, 41, 42, 43] f H) := row_seg call it base s_gnomonref07_walk_r5p0 s_gnomonref07_walk_r5t1 (by kernel_rfl) f H
theorem s_gnomonref07_walk_r5t1_x (call : CallF) (it : IterF) (base : Nat) (f : List V) (H : Heap) : evC call it base (.region s_gnomonref07_walk_r5t1 [] [32, 33, 34, 35, 36, 37, 38, 39, 40, 41, 42, 43]) f H = thenC call it base (.region s_gnomonref07_walk_r5t2 [] [32, 33, 34, 35, 36, 37, 38, 39, 40, 41, 42, 43]) (opsC [] s_gnomonref07_walk_r5p1 [33, 40, 41, 42] (evOps call base [⟨some 43, (.call (.c (.fn 36 [] [])) [(.t 33), (.t 40), (.t 41), (.t 42)]), none⟩] f H)) := (row_op call it base s_gnomonref07_walk_r5p1 s_gnomonref07_walk_r5t2 (kc := [33, 40, 41, 42]) (by kernel_rfl) f H).trans (by rw [row_ops]; rfl)
theorem s_gnomonref07_walk_r5t2_tale (fr : List V) (H : Heap) : evTale (symAll s_gnomonref07_walk_r5t2 [32, 33, 34, 35, 36, 37, 38, 39, 40, 41, 42, 43] [3]) [32, 33, 34, 35, 36, 37, 38, 39, 40, 41, 42, 43] fr H = evTale (some (4, [], [(3, (.t 43))])) [32, 33, 34, 35, 36, 37, 38, 39, 40, 41, 42, 43] fr H := tale_row (items := [.tt 43]) (by kernel_rfl) fr H
theorem s_gnomonref07_walk_r5t2_x (call : CallF) (it : IterF) (base : Nat) (f : List V) (H : Heap) : evC call it base (.region s_gnomonref07_walk_r5t2 [] [32, 33, 34, 35, 36, 37, 38, 39, 40, 41, 42, 43]) f H = segL H (evTale (symAll s_gnomonref07_walk_r5t2 [32, 33, 34, 35, 36, 37, 38, 39, 40, 41, 42, 43] [3]) [32, 33, 34, 35, 36, 37, 38, 39, 40, 41, 42, 43] f H) (origRow call it base s_gnomonref07_walk_r5t2 [32, 33, 34, 35, 36, 37, 38, 39, 40, 41, 42, 43] f H) := row_last call it base _ f H
def s_gnomonref07_walk_r6 : List AOper := [
  ⟨some 20, (.move (.t 9)), none⟩,
  ⟨some 21, (.bin .add (.t 20) (.c (.s (.int .i64 1)))), none⟩,
  ⟨some 9, (.move (.t 21)), none⟩]
theorem s_gnomonref07_walk_r6_tale (fr : List V) (H : Heap) : evTale (symAll s_gnomonref07_walk_r6 [20, 21, 32] [9]) [20, 21, 32] fr H = evTale (some (22, [], [(9, (.op (.bin .add (.t 0) (.c (.s (.int .i64 1)))) [(.t 9), (.c (.s (.int .i64 1)))]))])) [20, 21, 32] fr H := tale_row (items := [.tt 9, .sub 0 [] [], .sub 0 [] []]) (by kernel_rfl) fr H
def s_gnomonref07_walk_l0_b : ACode :=
  (.seq (.seq (.regionE s_gnomonref07_walk_r3 [13, 14, 15, 16, 17, 18] [19])
  (.cond (.t 19)
  .skip
  (.exit 0)))
  (.seq (.block 1
  (.seq (.regionE s_gnomonref07_walk_r4 [19, 22, 23, 24, 25, 26, 27, 28, 29, 30, 31] [32])
  (.cond (.t 32)
  (.region s_gnomonref07_walk_r5 [] [32, 33, 34, 35, 36, 37, 38, 39, 40, 41, 42, 43])
  .skip)))
  (.regionE s_gnomonref07_walk_r6 [20, 21, 32] [9])))
def s_gnomonref07_walk_l0 : ACode := s_gnomonref07_walk_l0_b
theorem s_gnomonref07_walk_l0_ev (call : CallF) (it : IterF) (base : Nat) (fr : List V) (H : Heap) : evC call it base s_gnomonref07_walk_l0 fr H = evC call it base s_gnomonref07_walk_l0_b fr H := rfl
def s_gnomonref07_walk_r7t4 : List AOper := [⟨some 8, (.move (.t 47)), none⟩]
def s_gnomonref07_walk_r7p3 : List AOper := [⟨some 47, (.append 1 8 (.t 45) (.t 46)), none⟩]
def s_gnomonref07_walk_r7t3 : List AOper := s_gnomonref07_walk_r7p3 ++ s_gnomonref07_walk_r7t4
def s_gnomonref07_walk_r7p2 : List AOper := [⟨some 46, (.move (.t 3)), none⟩]
def s_gnomonref07_walk_r7t2 : List AOper := s_gnomonref07_walk_r7p2 ++ s_gnomonref07_walk_r7t3
def s_gnomonref07_walk_r7p1 : List AOper := [⟨some 45, (.buildSl 1 1 [(.s (.int .i64 0))] [(0, (.t 44))]), none⟩]
def s_gnomonref07_walk_r7t1 : List AOper := s_gnomonref07_walk_r7p1 ++ s_gnomonref07_walk_r7t2
def s_gnomonref07_walk_r7p0 : List AOper := [⟨some 44, (.move (.t 1)), none⟩]
def s_gnomonref07_walk_r7 : List AOper := s_gnomonref07_walk_r7p0 ++ s_gnomonref07_walk_r7t1
theorem s_gnomonref07_walk_r7p0_tale (fr : List V) (H : Heap) : evTale (symAll s_gnomonref07_walk_r7p0 [0, 1, 2, 9, 19] [44]) [0, 1, 2, 9, 19] fr H = evTale (some (45, [], [(44, (.t 1))])) [0, 1, 2, 9, 19] fr H := tale_row (items := [.tt 1]) (by kernel_rfl) fr H
theorem s_gnomonref07_walk_r7_x (call : CallF) (it : IterF) (base : Nat) (f : List V) (H : Heap) : evC call it base (.region s_gnomonref07_walk_r7 [] [0, 1, 2, 3, 9, 19, 44, 45, 46, 47]) f H = segC call it base s_gnomonref07_walk_r7t1 [0, 1, 2, 3, 9, 19, 44, 45, 46, 47] H (evTale (symAll s_gnomonref07_walk_r7p0 [0, 1, 2, 9, 19] [44]) [0, 1, 2, 9, 19] f H) (origRow call it base s_gnomonref07_walk_r7 [0, 1, 2, 3, 9, 19, 44, 45, 46, 47] f H) := row_seg call it base s_gnomonref07_walk_r7p0 s_gnomonref07_walk_r7t1 (by kernel_rfl) f H
theorem s_gnomonref07_walk_r7t1_x (call : CallF) (it : IterF) (base : Nat) (f : List V) (H : Heap) : evC call it base (.region s_gnomonref07_walk_r7t1 [] [0, 1, 2, 3, 9, 19, 44, 45, 46, 47]) f H = thenC call it base (.region s_gnomonref07_walk_r7t2 [] [0, 1, 2, 3, 9, 19, 44, 45, 46, 47]) (opsC [] s_gnomonref07_walk_r7p1 [44] (evOps call base [⟨some 45, (.buildSl 1 1 [(.s (.int .i64 0))] [(0, (.t 44))]), none⟩] f H)) := (row_op call it base s_gnomonref07_walk_r7p1 s_gnomonref07_walk_r7t2 (kc := [44]) (by kernel_rfl) f H).trans (by rw [row_ops]; rfl)
theorem s_gnomonref07_walk_r7p2_tale (fr : List V) (H : Heap) : evTale (symAll s_gnomonref07_walk_r7p2 [3] [46]) [3] fr H = evTale (some (47, [], [(46, (.t 3))])) [3] fr H := tale_row (items := [.tt 3]) (by kernel_rfl) fr H
theorem s_gnomonref07_walk_r7t2_x (call : CallF) (it : IterF) (base : Nat) (f : List V) (H : Heap) : evC call it base (.region s_gnomonref07_walk_r7t2 [] [0, 1, 2, 3, 9, 19, 44, 45, 46, 47]) f H = segC call it base s_gnomonref07_walk_r7t3 [0, 1, 2, 3, 9, 19, 44, 45, 46, 47] H (evTale (symAll s_gnomonref07_walk_r7p2 [3] [46]) [3] f H) (origRow call it base s_gnomonref07_walk_r7t2 [0, 1, 2, 3, 9, 19, 44, 45, 46, 47] f H) := row_seg call it base s_gnomonref07_walk_r7p2 s_gnomonref07_walk_r7t3 (by kernel_rfl) f H
theorem s_gnomonref07_walk_r7t3_x (call : CallF) (it : IterF) (base : Nat) (f : List V) (H : Heap) : evC call it base (.region s_gnomonref07_walk_r7t3 [] [0, 1, 2, 3, 9, 19, 44, 45, 46, 47]) f H = thenC call it base (.region s_gnomonref07_walk_r7t4 [] [0, 1, 2, 3, 9, 19, 44, 45, 46, 47]) (opsC [] s_gnomonref07_walk_r7p3 [45, 46] (evOps call base [⟨some 47, (.append 1 8 (.t 45) (.t 46)), none⟩] f H)) := (row_op call it base s_gnomonref07_walk_r7p3 s_gnomonref07_walk_r7t4 (kc := [45, 46]) (by kernel_rfl) f H).trans (by rw [row_ops]; rfl)
theorem s_gnomonref07_walk_r7t4_tale (fr : List V) (H : Heap) : evTale (symAll s_gnomonref07_walk_r7t4 [0, 1, 2, 3, 9, 19, 44, 45, 46, 47] [8]) [0, 1, 2, 3, 9, 19, 44, 45, 46, 47] fr H = evTale (some (9, [], [(8, (.t 47))])) [0, 1, 2, 3, 9, 19, 44, 45, 46, 47] fr H := tale_row (items := [.tt 47]) (by kernel_rfl) fr H
theorem s_gnomonref07_walk_r7t4_x (call : CallF) (it : IterF) (base : Nat) (f : List V) (H : Heap) : evC call it base (.region s_gnomonref07_walk_r7t4 [] [0, 1, 2, 3, 9, 19, 44, 45, 46, 47]) f H = segL H (evTale (symAll s_gnomonref07_walk_r7t4 [0, 1, 2, 3, 9, 19, 44, 45, 46, 47] [8]) [0, 1, 2, 3, 9, 19, 44, 45, 46, 47] f H) (origRow call it base s_gnomonref07_walk_r7t4 [0, 1, 2, 3, 9, 19, 44, 45, 46, 47] f H) := row_last call it base _ f H
def s_gnomonref07_walk : ACFun := { ntmps := 48, results := [(.tmp 8)], body :=
  (.seq (.regionE s_gnomonref07_walk_r0 s_gnomonref07_walk_r0_k [])
  (.seq (.region s_gnomonref07_walk_r1 [] [10, 11, 12])
  (.seq (.seq (.regionE s_gnomonref07_walk_r2 [] [9])
  (.block 0
  (.loop [] s_gnomonref07_walk_l0)))
  (.seq (.region s_gnomonref07_walk_r7 [] [0, 1, 2, 3, 9, 19, 44, 45, 46, 47])
  .ret)))) }
def a_graph_Post := And.intro @s_graph_Post_r0_tale (And.intro @s_graph_Post_r0_kT (And.intro @s_graph_Post_r0_kA0 (And.intro @s_graph_Post_r0_kA1 (And.intro @s_graph_Post_r1_tale (And.intro @s_graph_Post_r2_tale (And.intro @s_graph_Post_r3p0_tale (And.intro @s_graph_Post_r3_x (And.intro @s_graph_Post_r3t1_x (And.intro @s_graph_Post_r3t2_tale (And.intro @s_graph_Post_r3t2_x (And.intro @s_graph_Post_r4p0_tale (And.intro @s_graph_Post_r4_x (And.intro @s_graph_Post_r4t1_x (And.intro @s_graph_Post_r4t2_x (And.intro @s_graph_Post_r4t3_x (And.intro @s_graph_Post_r5p0_tale (And.intro @s_graph_Post_r5_x (And.intro @s_graph_Post_r5t1_x (And.intro @s_graph_Post_r6p0_tale (And.intro @s_graph_Post_r6_x (And.intro @s_graph_Post_r6t1_x (And.intro @s_graph_Post_r6t2_tale (And.intro @s_graph_Post_r6t2_x (And.intro @s_graph_Post_r7_tale (And.intro @s_graph_Post_r8_tale (And.intro @s_graph_Post_r9_tale (And.intro @s_graph_Post_r10p0_tale (And.intro @s_graph_Post_r10_x (And.intro @s_graph_Post_r10t1_x (And.intro @s_graph_Post_r10t2_tale (And.intro @s_graph_Post_r10t2_x (And.intro @s_graph_Post_r11_tale (And.intro @s_graph_Post_r12p0_tale (And.intro @s_graph_Post_r12_x (And.intro @s_graph_Post_r12t1_x (And.intro @s_graph_Post_r12t2_x (And.intro @s_graph_Post_r12t3_tale (And.intro @s_graph_Post_r12t3_x (And.intro @s_graph_Post_r13_tale (And.intro @s_graph_Post_r14p0_tale (And.intro @s_graph_Post_r14_x (And.intro @s_graph_Post_r14t1_x (And.intro @s_graph_Post_r15p0_tale (And.intro @s_graph_Post_r15_x (And.intro @s_graph_Post_r15t1_x (And.intro @s_graph_Post_r15t2_x (And.intro @s_graph_Post_r15t3_tale (And.intro @s_graph_Post_r15t3_x (And.intro @s_graph_Post_l0_ev (And.intro @s_graph_Post_r16p0_tale (And.intro @s_graph_Post_r16_x (And.intro @s_graph_Post_r16t1_x (@s_graph_Post_r17_tale)))))))))))))))))))))))))))))))))))))))))))))))))))))
def a_graph_Post_1 := And.intro @s_graph_Post_1_r0_tale (And.intro @s_graph_Post_1_r0_kT (And.intro @s_graph_Post_1_r0_kA0 (And.intro @s_graph_Post_1_r0_kA1 (@s_graph_Post_1_r1_tale))))
def a_slices_Reverse_int_int := And.intro @s_slices_Reverse_int_int_r0_tale (And.intro @s_slices_Reverse_int_int_r0_kT (And.intro @s_slices_Reverse_int_int_r0_kA0 (And.intro @s_slices_Reverse_int_int_r1_tale (And.intro @s_slices_Reverse_int_int_r2p0_tale (And.intro @s_slices_Reverse_int_int_r2_x (And.intro @s_slices_Reverse_int_int_r2t1_x (And.intro @s_slices_Reverse_int_int_r2p2_tale (And.intro @s_slices_Reverse_int_int_r2t2_x (And.intro @s_slices_Reverse_int_int_r2t3_x (And.intro @s_slices_Reverse_int_int_r3_tale (@s_slices_Reverse_int_int_l0_ev)))))))))))
def a_gnomonref07_walk := And.intro @s_gnomonref07_walk_r0_tale (And.intro @s_gnomonref07_walk_r0_kT (And.intro @s_gnomonref07_walk_r0_kA0 (And.intro @s_gnomonref07_walk_r0_kA1 (And.intro @s_gnomonref07_walk_r0_kA2 (And.intro @s_gnomonref07_walk_r0_kA3 (And.intro @s_gnomonref07_walk_r1p0_tale (And.intro @s_gnomonref07_walk_r1_x (And.intro @s_gnomonref07_walk_r1t1_x (And.intro @s_gnomonref07_walk_r2_tale (And.intro @s_gnomonref07_walk_r3_tale (And.intro @s_gnomonref07_walk_r4_tale (And.intro @s_gnomonref07_walk_r5p0_tale (And.intro @s_gnomonref07_walk_r5_x (And.intro @s_gnomonref07_walk_r5t1_x (And.intro @s_gnomonref07_walk_r5t2_tale (And.intro @s_gnomonref07_walk_r5t2_x (And.intro @s_gnomonref07_walk_r6_tale (And.intro @s_gnomonref07_walk_l0_ev (And.intro @s_gnomonref07_walk_r7p0_tale (And.intro @s_gnomonref07_walk_r7_x (And.intro @s_gnomonref07_walk_r7t1_x (And.intro @s_gnomonref07_walk_r7p2_tale (And.intro @s_gnomonref07_walk_r7t2_x (And.intro @s_gnomonref07_walk_r7t3_x (And.intro @s_gnomonref07_walk_r7t4_tale (@s_gnomonref07_walk_r7t4_x))))))))))))))))))))))))))
end Go.Proofs.Ytmnlagcmpgilaaa
set_option maxRecDepth 100000
namespace Go.Proofs.Ytmnlagcmpgilaaa
open Go.AM
abbrev k_wref07_Reach : Nat := 19
def s_wref07_Reach_r0_k : List Nat := [2, 3, 4, 5, 6, 7, 8, 9, 10, 11, 12, 13, 14, 15, 16, 17, 18, 19, 20, 21, 22, 23, 24, 25, 26, 27, 28, 29, 30, 31, 32, 33, 34, 35, 36, 37, 38, 39, 40, 41, 42, 43, 44, 45, 46, 47, 48, 49, 50, 51, 52, 53, 54, 55, 56, 57, 58, 59, 60, 61, 62, 63, 64, 65, 66, 67, 68, 69, 70, 71, 72, 73, 74, 75, 76, 77, 78, 79, 80, 81, 82, 83]
theorem s_wref07_Reach_r0_kT : killV s_wref07_Reach_r0_k (startV 84 [] 2) = [] := by kernel_rfl
theorem s_wref07_Reach_r0_kA0 : s_wref07_Reach_r0_k.contains 0 = false := by kernel_rfl
theorem s_wref07_Reach_r0_kA1 : s_wref07_Reach_r0_k.contains 1 = false := by kernel_rfl
def s_wref07_Reach_r0 : List AOper := [
  ⟨some 4, (.move (.c (.s (.slice none 0 0)))), none⟩]
theorem s_wref07_Reach_r0_tale (fr : List V) (H : Heap) : evTale (symAll s_wref07_Reach_r0 s_wref07_Reach_r0_k []) s_wref07_Reach_r0_k fr H = evTale (some (5, [], [])) s_wref07_Reach_r0_k fr H := tale_row (items := [.cc (.s (.slice none 0 0))]) (by kernel_rfl) fr H
def s_wref07_Reach_r1t2 : List AOper := [⟨some 0, (.move (.t 11)), none⟩]
def s_wref07_Reach_r1p1 : List AOper := [⟨some 11, (.callP 15 [(.t 10)]), none⟩]
def s_wref07_Reach_r1t1 : List AOper := s_wref07_Reach_r1p1 ++ s_wref07_Reach_r1t2
def s_wref07_Reach_r1p0 : List AOper := [⟨some 10, (.move (.t 0)), none⟩]
def s_wref07_Reach_r1 : List AOper := s_wref07_Reach_r1p0 ++ s_wref07_Reach_r1t1
theorem s_wref07_Reach_r1p0_tale (fr : List V) (H : Heap) : evTale (symAll s_wref07_Reach_r1p0 [0] [10]) [0] fr H = evTale (some (11, [], [(10, (.t 0))])) [0] fr H := tale_row (items := [.tt 0]) (by kernel_rfl) fr H
theorem s_wref07_Reach_r1_x (call : CallF) (it : IterF) (base : Nat) (f : List V) (H : Heap) : evC call it base (.region s_wref07_Reach_r1 [] [10, 11]) f H = segC call it base s_wref07_Reach_r1t1 [10, 11] H (evTale (symAll s_wref07_Reach_r1p0 [0] [10]) [0] f H) (origRow call it base s_wref07_Reach_r1 [10, 11] f H) := row_seg call it base s_wref07_Reach_r1p0 s_wref07_Reach_r1t1 (by kernel_rfl) f H
theorem s_wref07_Reach_r1t1_x (call : CallF) (it : IterF) (base : Nat) (f : List V) (H : Heap) : evC call it base (.region s_wref07_Reach_r1t1 [] [10, 11]) f H = thenC call it base (.region s_wref07_Reach_r1t2 [] [10, 11]) (opsC [] s_wref07_Reach_r1p1 [10] (evOps call base [⟨some 11, (.callP 15 [(.t 10)]), none⟩] f H)) := (row_op call it base s_wref07_Reach_r1p1 s_wref07_Reach_r1t2 (kc := [10]) (by kernel_rfl) f H).trans (by rw [row_ops]; rfl)
theorem s_wref07_Reach_r1t2_tale (fr : List V) (H : Heap) : evTale (symAll s_wref07_Reach_r1t2 [10, 11] [0]) [10, 11] fr H = evTale (some (1, [], [(0, (.t 11))])) [10, 11] fr H := tale_row (items := [.tt 11]) (by kernel_rfl) fr H
theorem s_wref07_Reach_r1t2_x (call : CallF) (it : IterF) (base : Nat) (f : List V) (H : Heap) : evC call it base (.region s_wref07_Reach_r1t2 [] [10, 11]) f H = segL H (evTale (symAll s_wref07_Reach_r1t2 [10, 11] [0]) [10, 11] f H) (origRow call it base s_wref07_Reach_r1t2 [10, 11] f H) := row_last call it base _ f H
def s_wref07_Reach_r2t2 : List AOper := [⟨some 5, (.move (.t 14)), none⟩]
def s_wref07_Reach_r2p1 : List AOper := [⟨some 14, (.mkSl [(.s (.bool false))] 1 1 (.t 13) (.t 13)), none⟩]
def s_wref07_Reach_r2t1 : List AOper := s_wref07_Reach_r2p1 ++ s_wref07_Reach_r2t2
def s_wref07_Reach_r2p0 : List AOper := [⟨some 12, (.move (.t 0)), none⟩, ⟨some 13, (.lenS .s (.t 12)), none⟩]
def s_wref07_Reach_r2 : List AOper := s_wref07_Reach_r2p0 ++ s_wref07_Reach_r2t1
theorem s_wref07_Reach_r2p0_tale (fr : List V) (H : Heap) : evTale (symAll s_wref07_Reach_r2p0 [12] [13]) [12] fr H = evTale (some (14, [], [(13, (.op (.lenS .s (.t 0)) [(.t 0)]))])) [12] fr H := tale_row (items := [.tt 0, .sub 0 [] []]) (by kernel_rfl) fr H
theorem s_wref07_Reach_r2_x (call : CallF) (it : IterF) (base : Nat) (f : List V) (H : Heap) : evC call it base (.region s_wref07_Reach_r2 [] [12, 13, 14]) f H = segC call it base s_wref07_Reach_r2t1 [12, 13, 14] H (evTale (symAll s_wref07_Reach_r2p0 [12] [13]) [12] f H) (origRow call it base s_wref07_Reach_r2 [12, 13, 14] f H) := row_seg call it base s_wref07_Reach_r2p0 s_wref07_Reach_r2t1 (by kernel_rfl) f H
theorem s_wref07_Reach_r2t1_x (call : CallF) (it : IterF) (base : Nat) (f : List V) (H : Heap) : evC call it base (.region s_wref07_Reach_r2t1 [] [12, 13, 14]) f H = thenC call it base (.region s_wref07_Reach_r2t2 [] [12, 13, 14]) (opsC [] s_wref07_Reach_r2p1 [13] (evOps call base [⟨some 14, (.mkSl [(.s (.bool false))] 1 1 (.t 13) (.t 13)), none⟩] f H)) := (row_op call it base s_wref07_Reach_r2p1 s_wref07_Reach_r2t2 (kc := [13]) (by kernel_rfl) f H).trans (by rw [row_ops]; rfl)
theorem s_wref07_Reach_r2t2_tale (fr : List V) (H : Heap) : evTale (symAll s_wref07_Reach_r2t2 [12, 13, 14] [5]) [12, 13, 14] fr H = evTale (some (6, [], [(5, (.t 14))])) [12, 13, 14] fr H := tale_row (items := [.tt 14]) (by kernel_rfl) fr H
theorem s_wref07_Reach_r2t2_x (call : CallF) (it : IterF) (base : Nat) (f : List V) (H : Heap) : evC call it base (.region s_wref07_Reach_r2t2 [] [12, 13, 14]) f H = segL H (evTale (symAll s_wref07_Reach_r2t2 [12, 13, 14] [5]) [12, 13, 14] f H) (origRow call it base s_wref07_Reach_r2t2 [12, 13, 14] f H) := row_last call it base _ f H
def s_wref07_Reach_r3 : List AOper := [
  ⟨some 6, (.move (.c (.s (.int .i64 0)))), none⟩]
theorem s_wref07_Reach_r3_tale (fr : List V) (H : Heap) : evTale (symAll s_wref07_Reach_r3 [] [6]) [] fr H = evTale (some (7, [], [(6, (.c (.s (.int .i64 0))))])) [] fr H := tale_row (items := [.cc (.s (.int .i64 0))]) (by kernel_rfl) fr H
def s_wref07_Reach_r4 : List AOper := [
  ⟨some 15, (.move (.t 6)), none⟩,
  ⟨some 16, (.move (.t 1)), none⟩,
  ⟨some 17, (.lenS .s (.t 16)), none⟩,
  ⟨some 18, (.bin .lss (.t 15) (.t 17)), none⟩]
theorem s_wref07_Reach_r4_tale (fr : List V) (H : Heap) : evTale (symAll s_wref07_Reach_r4 [15, 16, 17] [18]) [15, 16, 17] fr H = evTale (some (19, [], [(18, (.op (.bin .lss (.t 0) (.t 1)) [(.t 6), (.op (.lenS .s (.t 0)) [(.t 1)])]))])) [15, 16, 17] fr H := tale_row (items := [.tt 6, .tt 1, .sub 0 [1] [], .sub 0 [] []]) (by kernel_rfl) fr H
def s_wref07_Reach_r5 : List AOper := [
  ⟨some 21, (.move (.t 1)), none⟩,
  ⟨some 22, (.move (.t 6)), none⟩,
  ⟨some 23, (.indexAddr 1 (.t 21) (.t 22)), none⟩,
  ⟨some 24, (.load false 1 (.t 23)), none⟩,
  ⟨some 25, (.bin .geq (.t 24) (.c (.s (.int .i64 0)))), none⟩,
  ⟨some 26, (.move (.t 25)), none⟩,
  ⟨some 27, (.move (.t 1)), some (26, true)⟩,
  ⟨some 28, (.move (.t 6)), some (26, true)⟩,
  ⟨some 29, (.indexAddr 1 (.t 27) (.t 28)), some (26, true)⟩,
  ⟨some 30, (.load false 1 (.t 29)), some (26, true)⟩,
  ⟨some 31, (.move (.t 0)), some (26, true)⟩,
  ⟨some 32, (.lenS .s (.t 31)), some (26, true)⟩,
  ⟨some 33, (.bin .lss (.t 30) (.t 32)), some (26, true)⟩,
  ⟨some 34, (.pick (.t 26) (.t 33) (.c (.s (.bool false)))), none⟩]
theorem s_wref07_Reach_r5_tale (fr : List V) (H : Heap) : evTale (symAll s_wref07_Reach_r5 [18, 21, 22, 23, 24, 25, 26, 27, 28, 29, 30, 31, 32, 33] [34]) [18, 21, 22, 23, 24, 25, 26, 27, 28, 29, 30, 31, 32, 33] fr H = evTale (some (35, [], [(34, (.pick (.op (.bin .geq (.t 0) (.c (.s (.int .i64 0)))) [(.op (.load false 1 (.t 0)) [(.op (.indexAddr 1 (.t 0) (.t 1)) [(.t 1), (.t 6)])]), (.c (.s (.int .i64 0)))]) (.op (.bin .lss (.t 0) (.t 1)) [(.op (.load false 1 (.t 0)) [(.op (.indexAddr 1 (.t 0) (.t 1)) [(.t 1), (.t 6)])]), (.op (.lenS .s (.t 0)) [(.t 0)])]) (.c (.s (.bool false)))))])) [18, 21, 22, 23, 24, 25, 26, 27, 28, 29, 30, 31, 32, 33] fr H := tale_row (items := [.tt 1, .tt 6, .sub 0 [0, 0, 0] [], .sub 0 [0, 0] [], .sub 0 [0] [], .sub 0 [0] [], .sub 0 [1, 0, 0, 0] [26], .sub 0 [1, 0, 0, 1] [26], .sub 0 [1, 0, 0] [26], .sub 0 [1, 0] [26], .sub 0 [1, 1, 0] [26], .sub 0 [1, 1] [26], .sub 0 [1] [26], .sub 0 [] []]) (by kernel_rfl) fr H
def s_wref07_Reach_r6t1 : List AOper := [⟨none, (.store 1 (.t 40) (.c (.s (.bool true)))), none⟩]
def s_wref07_Reach_r6p0 : List AOper := [⟨some 35, (.move (.t 5)), none⟩, ⟨some 36, (.move (.t 1)), none⟩, ⟨some 37, (.move (.t 6)), none⟩, ⟨some 38, (.indexAddr 1 (.t 36) (.t 37)), none⟩, ⟨some 39, (.load false 1 (.t 38)), none⟩, ⟨some 40, (.indexAddr 1 (.t 35) (.t 39)), none⟩]
def s_wref07_Reach_r6 : List AOper := s_wref07_Reach_r6p0 ++ s_wref07_Reach_r6t1
theorem s_wref07_Reach_r6p0_tale (fr : List V) (H : Heap) : evTale (symAll s_wref07_Reach_r6p0 [34, 35, 36, 37, 38, 39] [40]) [34, 35, 36, 37, 38, 39] fr H = evTale (some (41, [], [(40, (.op (.indexAddr 1 (.t 0) (.t 1)) [(.t 5), (.op (.load false 1 (.t 0)) [(.op (.indexAddr 1 (.t 0) (.t 1)) [(.t 1), (.t 6)])])]))])) [34, 35, 36, 37, 38, 39] fr H := tale_row (items := [.tt 5, .tt 1, .tt 6, .sub 0 [1, 0] [], .sub 0 [1] [], .sub 0 [] []]) (by kernel_rfl) fr H
theorem s_wref07_Reach_r6_x (call : CallF) (it : IterF) (base : Nat) (f : List V) (H : Heap) : evC call it base (.region s_wref07_Reach_r6 [] [34, 35, 36, 37, 38, 39, 40]) f H = segC call it base s_wref07_Reach_r6t1 [34, 35, 36, 37, 38, 39, 40] H (evTale (symAll s_wref07_Reach_r6p0 [34, 35, 36, 37, 38, 39] [40]) [34, 35, 36, 37, 38, 39] f H) (origRow call it base s_wref07_Reach_r6 [34, 35, 36, 37, 38, 39, 40] f H) := row_seg call it base s_wref07_Reach_r6p0 s_wref07_Reach_r6t1 (by kernel_rfl) f H
theorem s_wref07_Reach_r6t1_x (call : CallF) (it : IterF) (base : Nat) (f : List V) (H : Heap) : evC call it base (.region s_wref07_Reach_r6t1 [] [34, 35, 36, 37, 38, 39, 40]) f H = opsC [] s_wref07_Reach_r6t1 [34, 35, 36, 37, 38, 39, 40] (evOps call base [⟨none, (.store 1 (.t 40) (.c (.s (.bool true)))), none⟩] f H) := row_ops call it base _ _ _ f H
def s_wref07_Reach_r7 : List AOper := [
  ⟨some 19, (.move (.t 6)), none⟩,
  ⟨some 20, (.bin .add (.t 19) (.c (.s (.int .i64 1)))), none⟩,
  ⟨some 6, (.move (.t 20)), none⟩]
theorem s_wref07_Reach_r7_tale (fr : List V) (H : Heap) : evTale (symAll s_wref07_Reach_r7 [19, 20, 34] [6]) [19, 20, 34] fr H = evTale (some (21, [], [(6, (.op (.bin .add (.t 0) (.c (.s (.int .i64 1)))) [(.t 6), (.c (.s (.int .i64 1)))]))])) [19, 20, 34] fr H := tale_row (items := [.tt 6, .sub 0 [] [], .sub 0 [] []]) (by kernel_rfl) fr H
def s_wref07_Reach_l0_b : ACode :=
  (.seq (.seq (.regionE s_wref07_Reach_r4 [15, 16, 17] [18])
  (.cond (.t 18)
  .skip
  (.exit 0)))
  (.seq (.block 1
  (.seq (.regionE s_wref07_Reach_r5 [18, 21, 22, 23, 24, 25, 26, 27, 28, 29, 30, 31, 32, 33] [34])
  (.cond (.t 34)
  (.region s_wref07_Reach_r6 [] [34, 35, 36, 37, 38, 39, 40])
  .skip)))
  (.regionE s_wref07_Reach_r7 [19, 20, 34] [6])))
def s_wref07_Reach_l0 : ACode := s_wref07_Reach_l0_b
theorem s_wref07_Reach_l0_ev (call : CallF) (it : IterF) (base : Nat) (fr : List V) (H : Heap) : evC call it base s_wref07_Reach_l0 fr H = evC call it base s_wref07_Reach_l0_b fr H := rfl
def s_wref07_Reach_r8 : List AOper := [
  ⟨some 7, (.move (.c (.s (.bool true)))), none⟩]
theorem s_wref07_Reach_r8_tale (fr : List V) (H : Heap) : evTale (symAll s_wref07_Reach_r8 [1, 6, 18] [7]) [1, 6, 18] fr H = evTale (some (8, [], [(7, (.c (.s (.bool true))))])) [1, 6, 18] fr H := tale_row (items := [.cc (.s (.bool true))]) (by kernel_rfl) fr H
def s_wref07_Reach_r9 : List AOper := [
  ⟨some 41, (.move (.t 7)), none⟩]
theorem s_wref07_Reach_r9_tale (fr : List V) (H : Heap) : evTale (symAll s_wref07_Reach_r9 [7] [41]) [7] fr H = evTale (some (42, [], [(41, (.t 7))])) [7] fr H := tale_row (items := [.tt 7]) (by kernel_rfl) fr H
def s_wref07_Reach_r10 : List AOper := [
  ⟨some 7, (.move (.c (.s (.bool false)))), none⟩]
theorem s_wref07_Reach_r10_tale (fr : List V) (H : Heap) : evTale (symAll s_wref07_Reach_r10 [41] [7]) [41] fr H = evTale (some (8, [], [(7, (.c (.s (.bool false))))])) [41] fr H := tale_row (items := [.cc (.s (.bool false))]) (by kernel_rfl) fr H
def s_wref07_Reach_r11 : List AOper := [
  ⟨some 8, (.move (.c (.s (.int .i64 0)))), none⟩]
theorem s_wref07_Reach_r11_tale (fr : List V) (H : Heap) : evTale (symAll s_wref07_Reach_r11 [] [8]) [] fr H = evTale (some (9, [], [(8, (.c (.s (.int .i64 0))))])) [] fr H := tale_row (items := [.cc (.s (.int .i64 0))]) (by kernel_rfl) fr H
def s_wref07_Reach_r12 : List AOper := [
  ⟨some 42, (.move (.t 8)), none⟩,
  ⟨some 43, (.move (.t 0)), none⟩,
  ⟨some 44, (.lenS .s (.t 43)), none⟩,
  ⟨some 45, (.bin .lss (.t 42) (.t 44)), none⟩]
theorem s_wref07_Reach_r12_tale (fr : List V) (H : Heap) : evTale (symAll s_wref07_Reach_r12 [42, 43, 44] [45]) [42, 43, 44] fr H = evTale (some (46, [], [(45, (.op (.bin .lss (.t 0) (.t 1)) [(.t 8), (.op (.lenS .s (.t 0)) [(.t 0)])]))])) [42, 43, 44] fr H := tale_row (items := [.tt 8, .tt 0, .sub 0 [1] [], .sub 0 [] []]) (by kernel_rfl) fr H
def s_wref07_Reach_r13 : List AOper := [
  ⟨some 9, (.move (.c (.s (.int .i64 0)))), none⟩]
theorem s_wref07_Reach_r13_tale (fr : List V) (H : Heap) : evTale (symAll s_wref07_Reach_r13 [45] [9]) [45] fr H = evTale (some (10, [], [(9, (.c (.s (.int .i64 0))))])) [45] fr H := tale_row (items := [.cc (.s (.int .i64 0))]) (by kernel_rfl) fr H
def s_wref07_Reach_r14 : List AOper := [
  ⟨some 48, (.move (.t 9)), none⟩,
  ⟨some 49, (.move (.t 0)), none⟩,
  ⟨some 50, (.move (.t 8)), none⟩,
  ⟨some 51, (.indexAddr 1 (.t 49) (.t 50)), none⟩,
  ⟨some 52, (.load false 1 (.t 51)), none⟩,
  ⟨some 53, (.lenS .s (.t 52)), none⟩,
  ⟨some 54, (.bin .lss (.t 48) (.t 53)), none⟩]
theorem s_wref07_Reach_r14_tale (fr : List V) (H : Heap) : evTale (symAll s_wref07_Reach_r14 [48, 49, 50, 51, 52, 53] [54]) [48, 49, 50, 51, 52, 53] fr H = evTale (some (55, [], [(54, (.op (.bin .lss (.t 0) (.t 1)) [(.t 9), (.op (.lenS .s (.t 0)) [(.op (.load false 1 (.t 0)) [(.op (.indexAddr 1 (.t 0) (.t 1)) [(.t 0), (.t 8)])])])]))])) [48, 49, 50, 51, 52, 53] fr H := tale_row (items := [.tt 9, .tt 0, .tt 8, .sub 0 [1, 0, 0] [], .sub 0 [1, 0] [], .sub 0 [1] [], .sub 0 [] []]) (by kernel_rfl) fr H
def s_wref07_Reach_r15 : List AOper := [
  ⟨some 57, (.move (.t 5)), none⟩,
  ⟨some 58, (.move (.t 8)), none⟩,
  ⟨some 59, (.indexAddr 1 (.t 57) (.t 58)), none⟩,
  ⟨some 60, (.load false 1 (.t 59)), none⟩,
  ⟨some 61, (.move (.t 60)), none⟩,
  ⟨some 62, (.move (.t 5)), some (61, true)⟩,
  ⟨some 63, (.move (.t 0)), some (61, true)⟩,
  ⟨some 64, (.move (.t 8)), some (61, true)⟩,
  ⟨some 65, (.indexAddr 1 (.t 63) (.t 64)), some (61, true)⟩,
  ⟨some 66, (.load false 1 (.t 65)), some (61, true)⟩,
  ⟨some 67, (.move (.t 9)), some (61, true)⟩,
  ⟨some 68, (.indexAddr 1 (.t 66) (.t 67)), some (61, true)⟩,
  ⟨some 69, (.load false 1 (.t 68)), some (61, true)⟩,
  ⟨some 70, (.indexAddr 1 (.t 62) (.t 69)), some (61, true)⟩,
  ⟨some 71, (.load false 1 (.t 70)), some (61, true)⟩,
  ⟨some 72, (.un .not (.t 71)), some (61, true)⟩,
  ⟨some 73, (.pick (.t 61) (.t 72) (.c (.s (.bool false)))), none⟩]
theorem s_wref07_Reach_r15_tale (fr : List V) (H : Heap) : evTale (symAll s_wref07_Reach_r15 [54, 57, 58, 59, 60, 61, 62, 63, 64, 65, 66, 67, 68, 69, 70, 71, 72] [73]) [54, 57, 58, 59, 60, 61, 62, 63, 64, 65, 66, 67, 68, 69, 70, 71, 72] fr H = evTale (some (74, [], [(73, (.pick (.op (.load false 1 (.t 0)) [(.op (.indexAddr 1 (.t 0) (.t 1)) [(.t 5), (.t 8)])]) (.op (.un .not (.t 0)) [(.op (.load false 1 (.t 0)) [(.op (.indexAddr 1 (.t 0) (.t 1)) [(.t 5), (.op (.load false 1 (.t 0)) [(.op (.indexAddr 1 (.t 0) (.t 1)) [(.op (.load false 1 (.t 0)) [(.op (.indexAddr 1 (.t 0) (.t 1)) [(.t 0), (.t 8)])]), (.t 9)])])])])]) (.c (.s (.bool false)))))])) [54, 57, 58, 59, 60, 61, 62, 63, 64, 65, 66, 67, 68, 69, 70, 71, 72] fr H := tale_row (items := [.tt 5, .tt 8, .sub 0 [0, 0] [], .sub 0 [0] [], .sub 0 [0] [], .sub 0 [1, 0, 0, 0] [61], .sub 0 [1, 0, 0, 1, 0, 0, 0, 0] [61], .sub 0 [1, 0, 0, 1, 0, 0, 0, 1] [61], .sub 0 [1, 0, 0, 1, 0, 0, 0] [61], .sub 0 [1, 0, 0, 1, 0, 0] [61], .sub 0 [1, 0, 0, 1, 0, 1] [61], .sub 0 [1, 0, 0, 1, 0] [61], .sub 0 [1, 0, 0, 1] [61], .sub 0 [1, 0, 0] [61], .sub 0 [1, 0] [61], .sub 0 [1] [61], .sub 0 [] []]) (by kernel_rfl) fr H
def s_wref07_Reach_r16t1 : List AOper := [⟨none, (.store 1 (.t 82) (.c (.s (.bool true)))), none⟩]
def s_wref07_Reach_r16p0 : List AOper := [⟨some 74, (.move (.t 5)), none⟩, ⟨some 75, (.move (.t 0)), none⟩, ⟨some 76, (.move (.t 8)), none⟩, ⟨some 77, (.indexAddr 1 (.t 75) (.t 76)), none⟩, ⟨some 78, (.load false 1 (.t 77)), none⟩, ⟨some 79, (.move (.t 9)), none⟩, ⟨some 80, (.indexAddr 1 (.t 78) (.t 79)), none⟩, ⟨some 81, (.load false 1 (.t 80)), none⟩, ⟨some 82, (.indexAddr 1 (.t 74) (.t 81)), none⟩]
def s_wref07_Reach_r16 : List AOper := s_wref07_Reach_r16p0 ++ s_wref07_Reach_r16t1
theorem s_wref07_Reach_r16p0_tale (fr : List V) (H : Heap) : evTale (symAll s_wref07_Reach_r16p0 [7, 73, 74, 75, 76, 77, 78, 79, 80, 81] [82]) [7, 73, 74, 75, 76, 77, 78, 79, 80, 81] fr H = evTale (some (83, [], [(82, (.op (.indexAddr 1 (.t 0) (.t 1)) [(.t 5), (.op (.load false 1 (.t 0)) [(.op (.indexAddr 1 (.t 0) (.t 1)) [(.op (.load false 1 (.t 0)) [(.op (.indexAddr 1 (.t 0) (.t 1)) [(.t 0), (.t 8)])]), (.t 9)])])]))])) [7, 73, 74, 75, 76, 77, 78, 79, 80, 81] fr H := tale_row (items := [.tt 5, .tt 0, .tt 8, .sub 0 [1, 0, 0, 0] [], .sub 0 [1, 0, 0] [], .tt 9, .sub 0 [1, 0] [], .sub 0 [1] [], .sub 0 [] []]) (by kernel_rfl) fr H
theorem s_wref07_Reach_r16_x (call : CallF) (it : IterF) (base : Nat) (f : List V) (H : Heap) : evC call it base (.region s_wref07_Reach_r16 [] [7, 73, 74, 75, 76, 77, 78, 79, 80, 81, 82]) f H = segC call it base s_wref07_Reach_r16t1 [7, 73, 74, 75, 76, 77, 78, 79, 80, 81, 82] H (evTale (symAll s_wref07_Reach_r16p0 [7, 73, 74, 75, 76, 77, 78, 79, 80, 81] [82]) [7, 73, 74, 75, 76, 77, 78, 79, 80, 81] f H) (origRow call it base s_wref07_Reach_r16 [7, 73, 74, 75, 76, 77, 78, 79, 80, 81, 82] f H) := row_seg call it base s_wref07_Reach_r16p0 s_wref07_Reach_r16t1 (by kernel_rfl) f H
theorem s_wref07_Reach_r16t1_x (call : CallF) (it : IterF) (base : Nat) (f : List V) (H : Heap) : evC call it base (.region s_wref07_Reach_r16t1 [] [7, 73, 74, 75, 76, 77, 78, 79, 80, 81, 82]) f H = opsC [] s_wref07_Reach_r16t1 [7, 73, 74, 75, 76, 77, 78, 79, 80, 81, 82] (evOps call base [⟨none, (.store 1 (.t 82) (.c (.s (.bool true)))), none⟩] f H) := row_ops call it base _ _ _ f H
def s_wref07_Reach_r17 : List AOper := [
  ⟨some 7, (.move (.c (.s (.bool true)))), none⟩]
theorem s_wref07_Reach_r17_tale (fr : List V) (H : Heap) : evTale (symAll s_wref07_Reach_r17 [] [7]) [] fr H = evTale (some (8, [], [(7, (.c (.s (.bool true))))])) [] fr H := tale_row (items := [.cc (.s (.bool true))]) (by kernel_rfl) fr H
def s_wref07_Reach_r18 : List AOper := [
  ⟨some 55, (.move (.t 9)), none⟩,
  ⟨some 56, (.bin .add (.t 55) (.c (.s (.int .i64 1)))), none⟩,
  ⟨some 9, (.move (.t 56)), none⟩]
theorem s_wref07_Reach_r18_tale (fr : List V) (H : Heap) : evTale (symAll s_wref07_Reach_r18 [55, 56, 73] [9]) [55, 56, 73] fr H = evTale (some (57, [], [(9, (.op (.bin .add (.t 0) (.c (.s (.int .i64 1)))) [(.t 9), (.c (.s (.int .i64 1)))]))])) [55, 56, 73] fr H := tale_row (items := [.tt 9, .sub 0 [] [], .sub 0 [] []]) (by kernel_rfl) fr H
def s_wref07_Reach_l1_b : ACode :=
  (.seq (.seq (.regionE s_wref07_Reach_r14 [48, 49, 50, 51, 52, 53] [54])
  (.cond (.t 54)
  .skip
  (.exit 6)))
  (.seq (.block 7
  (.seq (.regionE s_wref07_Reach_r15 [54, 57, 58, 59, 60, 61, 62, 63, 64, 65, 66, 67, 68, 69, 70, 71, 72] [73])
  (.cond (.t 73)
  (.seq (.region s_wref07_Reach_r16 [] [7, 73, 74, 75, 76, 77, 78, 79, 80, 81, 82])
  (.regionE s_wref07_Reach_r17 [] [7]))
  .skip)))
  (.regionE s_wref07_Reach_r18 [55, 56, 73] [9])))
def s_wref07_Reach_l1 : ACode := s_wref07_Reach_l1_b
theorem s_wref07_Reach_l1_ev (call : CallF) (it : IterF) (base : Nat) (fr : List V) (H : Heap) : evC call it base s_wref07_Reach_l1 fr H = evC call it base s_wref07_Reach_l1_b fr H := rfl
def s_wref07_Reach_r19 : List AOper := [
  ⟨some 46, (.move (.t 8)), none⟩,
  ⟨some 47, (.bin .add (.t 46) (.c (.s (.int .i64 1)))), none⟩,
  ⟨some 8, (.move (.t 47)), none⟩]
theorem s_wref07_Reach_r19_tale (fr : List V) (H : Heap) : evTale (symAll s_wref07_Reach_r19 [9, 46, 47, 54] [8]) [9, 46, 47, 54] fr H = evTale (some (48, [], [(8, (.op (.bin .add (.t 0) (.c (.s (.int .i64 1)))) [(.t 8), (.c (.s (.int .i64 1)))]))])) [9, 46, 47, 54] fr H := tale_row (items := [.tt 8, .sub 0 [] [], .sub 0 [] []]) (by kernel_rfl) fr H
def s_wref07_Reach_l2_b : ACode :=
  (.seq (.seq (.regionE s_wref07_Reach_r12 [42, 43, 44] [45])
  (.cond (.t 45)
  .skip
  (.exit 4)))
  (.seq (.block 5
  (.seq (.regionE s_wref07_Reach_r13 [45] [9])
  (.block 6
  (.loop [] s_wref07_Reach_l1))))
  (.regionE s_wref07_Reach_r19 [9, 46, 47, 54] [8])))
def s_wref07_Reach_l2 : ACode := s_wref07_Reach_l2_b
theorem s_wref07_Reach_l2_ev (call : CallF) (it : IterF) (base : Nat) (fr : List V) (H : Heap) : evC call it base s_wref07_Reach_l2 fr H = evC call it base s_wref07_Reach_l2_b fr H := rfl
def s_wref07_Reach_l3_b : ACode :=
  (.seq (.seq (.regionE s_wref07_Reach_r9 [7] [41])
  (.cond (.t 41)
  .skip
  (.exit 2)))
  (.block 3
  (.seq (.regionE s_wref07_Reach_r10 [41] [7])
  (.seq (.regionE s_wref07_Reach_r11 [] [8])
  (.block 4
  (.loop [] s_wref07_Reach_l2))))))
def s_wref07_Reach_l3 : ACode := s_wref07_Reach_l3_b
theorem s_wref07_Reach_l3_ev (call : CallF) (it : IterF) (base : Nat) (fr : List V) (H : Heap) : evC call it base s_wref07_Reach_l3 fr H = evC call it base s_wref07_Reach_l3_b fr H := rfl
def s_wref07_Reach_r20 : List AOper := [
  ⟨some 83, (.move (.t 5)), none⟩,
  ⟨some 4, (.move (.t 83)), none⟩]
theorem s_wref07_Reach_r20_tale (fr : List V) (H : Heap) : evTale (symAll s_wref07_Reach_r20 [0, 5, 41, 83] [4]) [0, 5, 41, 83] fr H = evTale (some (84, [], [(4, (.t 5))])) [0, 5, 41, 83] fr H := tale_row (items := [.tt 5, .tt 5]) (by kernel_rfl) fr H
def s_wref07_Reach : ACFun := { ntmps := 84, results := [(.tmp 4)], body :=
  (.seq (.regionE s_wref07_Reach_r0 s_wref07_Reach_r0_k [])
  (.seq (.region s_wref07_Reach_r1 [] [10, 11])
  (.seq (.region s_wref07_Reach_r2 [] [12, 13, 14])
  (.seq (.seq (.regionE s_wref07_Reach_r3 [] [6])
  (.block 0
  (.loop [] s_wref07_Reach_l0)))
  (.seq (.seq (.regionE s_wref07_Reach_r8 [1, 6, 18] [7])
  (.block 2
  (.loop [8, 45] s_wref07_Reach_l3)))
  (.seq (.regionE s_wref07_Reach_r20 [0, 5, 41, 83] [4])
  .ret)))))) }
abbrev k_wref07_Post : Nat := 24
def s_wref07_Post_r0_k : List Nat := [2, 3, 4, 5, 6, 7, 8, 9, 10, 11, 12, 13, 14, 15, 16, 17, 18, 19]
theorem s_wref07_Post_r0_kT : killV s_wref07_Post_r0_k (startV 20 [] 2) = [] := by kernel_rfl
theorem s_wref07_Post_r0_kA0 : s_wref07_Post_r0_k.contains 0 = false := by kernel_rfl
theorem s_wref07_Post_r0_kA1 : s_wref07_Post_r0_k.contains 1 = false := by kernel_rfl
def s_wref07_Post_r0 : List AOper := [
  ⟨some 4, (.move (.c (.s (.slice none 0 0)))), none⟩]
theorem s_wref07_Post_r0_tale (fr : List V) (H : Heap) : evTale (symAll s_wref07_Post_r0 s_wref07_Post_r0_k []) s_wref07_Post_r0_k fr H = evTale (some (5, [], [])) s_wref07_Post_r0_k fr H := tale_row (items := [.cc (.s (.slice none 0 0))]) (by kernel_rfl) fr H
def s_wref07_Post_r1 : List AOper := [
  ⟨some 5, (.move (.t 1)), none⟩,
  ⟨some 6, (.bin .lss (.t 5) (.c (.s (.int .i64 0)))), none⟩,
  ⟨some 7, (.move (.t 6)), none⟩,
  ⟨some 8, (.move (.t 1)), some (7, false)⟩,
  ⟨some 9, (.move (.t 0)), some (7, false)⟩,
  ⟨some 10, (.lenS .s (.t 9)), some (7, false)⟩,
  ⟨some 11, (.bin .geq (.t 8) (.t 10)), some (7, false)⟩,
  ⟨some 12, (.pick (.t 7) (.c (.s (.bool true))) (.t 11)), none⟩]
theorem s_wref07_Post_r1_tale (fr : List V) (H : Heap) : evTale (symAll s_wref07_Post_r1 [5, 6, 7, 8, 9, 10, 11] [12]) [5, 6, 7, 8, 9, 10, 11] fr H = evTale (some (13, [], [(12, (.pick (.op (.bin .lss (.t 0) (.c (.s (.int .i64 0)))) [(.t 1), (.c (.s (.int .i64 0)))]) (.c (.s (.bool true))) (.op (.bin .geq (.t 0) (.t 1)) [(.t 1), (.op (.lenS .s (.t 0)) [(.t 0)])])))])) [5, 6, 7, 8, 9, 10, 11] fr H := tale_row (items := [.tt 1, .sub 0 [0] [], .sub 0 [0] [], .sub 0 [2, 0] [7], .sub 0 [2, 1, 0] [7], .sub 0 [2, 1] [7], .sub 0 [2] [7], .sub 0 [] []]) (by kernel_rfl) fr H
def s_wref07_Post_r2 : List AOper := [
  ⟨some 4, (.move (.c (.s (.slice none 0 0)))), none⟩]
theorem s_wref07_Post_r2_tale (fr : List V) (H : Heap) : evTale (symAll s_wref07_Post_r2 [0, 1, 12] [4]) [0, 1, 12] fr H = evTale (some (5, [], [(4, (.c (.s (.slice none 0 0))))])) [0, 1, 12] fr H := tale_row (items := [.cc (.s (.slice none 0 0))]) (by kernel_rfl) fr H
def s_wref07_Post_r3t5 : List AOper := [⟨some 4, (.move (.t 19)), none⟩]
def s_wref07_Post_r3p4 : List AOper := [⟨some 19, (.call (.c (.fn 36 [] [])) [(.t 14), (.t 15), (.t 18), (.c (.s (.slice none 0 0)))]), none⟩]
def s_wref07_Post_r3t4 : List AOper := s_wref07_Post_r3p4 ++ s_wref07_Post_r3t5
def s_wref07_Post_r3p3 : List AOper := [⟨some 18, (.mkSl [(.s (.bool false))] 1 1 (.t 17) (.t 17)), none⟩]
def s_wref07_Post_r3t3 : List AOper := s_wref07_Post_r3p3 ++ s_wref07_Post_r3t4
def s_wref07_Post_r3p2 : List AOper := [⟨some 15, (.move (.t 1)), none⟩, ⟨some 16, (.move (.t 0)), none⟩, ⟨some 17, (.lenS .s (.t 16)), none⟩]
def s_wref07_Post_r3t2 : List AOper := s_wref07_Post_r3p2 ++ s_wref07_Post_r3t3
def s_wref07_Post_r3p1 : List AOper := [⟨some 14, (.callQ 15 [(.t 13)]), none⟩]
def s_wref07_Post_r3t1 : List AOper := s_wref07_Post_r3p1 ++ s_wref07_Post_r3t2
def s_wref07_Post_r3p0 : List AOper := [⟨some 13, (.move (.t 0)), none⟩]
def s_wref07_Post_r3 : List AOper := s_wref07_Post_r3p0 ++ s_wref07_Post_r3t1
theorem s_wref07_Post_r3p0_tale (fr : List V) (H : Heap) : evTale (symAll s_wref07_Post_r3p0 [12] [13]) [12] fr H = evTale (some (14, [], [(13, (.t 0))])) [12] fr H := tale_row (items := [.tt 0]) (by kernel_rfl) fr H
theorem s_wref07_Post_r3_x (call : CallF) (it : IterF) (base : Nat) (f : List V) (H : Heap) : evC call it base (.region s_wref07_Post_r3 [] [0, 1, 12, 13, 14, 15, 16, 17, 18, 19]) f H = segC call it base s_wref07_Post_r3t1 [0, 1, 12, 13, 14, 15, 16, 17, 18, 19] H (evTale (symAll s_wref07_Post_r3p0 [12] [13]) [12] f H) (origRow call it base s_wref07_Post_r3 [0, 1, 12, 13, 14, 15, 16, 17, 18, 19] f H) := row_seg call it base s_wref07_Post_r3p0 s_wref07_Post_r3t1 (by kernel_rfl) f H
theorem s_wref07_Post_r3t1_x (call : CallF) (it : IterF) (base : Nat) (f : List V) (H : Heap) : evC call it base (.region s_wref07_Post_r3t1 [] [0, 1, 12, 13, 14, 15, 16, 17, 18, 19]) f H = thenC call it base (.region s_wref07_Post_r3t2 [] [0, 1, 12, 13, 14, 15, 16, 17, 18, 19]) (opsC [] s_wref07_Post_r3p1 [13] (evOps call base [⟨some 14, (.callQ 15 [(.t 13)]), none⟩] f H)) := (row_op call it base s_wref07_Post_r3p1 s_wref07_Post_r3t2 (kc := [13]) (by kernel_rfl) f H).trans (by rw [row_ops]; rfl)
theorem s_wref07_Post_r3p2_tale (fr : List V) (H : Heap) : evTale (symAll s_wref07_Post_r3p2 [0, 1, 16] [15, 17]) [0, 1, 16] fr H = evTale (some (18, [], [(15, (.t 1)), (17, (.op (.lenS .s (.t 0)) [(.t 0)]))])) [0, 1, 16] fr H := tale_row (items := [.tt 1, .tt 0, .sub 1 [] []]) (by kernel_rfl) fr H
theorem s_wref07_Post_r3t2_x (call : CallF) (it : IterF) (base : Nat) (f : List V) (H : Heap) : evC call it base (.region s_wref07_Post_r3t2 [] [0, 1, 12, 13, 14, 15, 16, 17, 18, 19]) f H = segC call it base s_wref07_Post_r3t3 [0, 1, 12, 13, 14, 15, 16, 17, 18, 19] H (evTale (symAll s_wref07_Post_r3p2 [0, 1, 16] [15, 17]) [0, 1, 16] f H) (origRow call it base s_wref07_Post_r3t2 [0, 1, 12, 13, 14, 15, 16, 17, 18, 19] f H) := row_seg call it base s_wref07_Post_r3p2 s_wref07_Post_r3t3 (by kernel_rfl) f H
theorem s_wref07_Post_r3t3_x (call : CallF) (it : IterF) (base : Nat) (f : List V) (H : Heap) : evC call it base (.region s_wref07_Post_r3t3 [] [0, 1, 12, 13, 14, 15, 16, 17, 18, 19]) f H = thenC call it base (.region s_wref07_Post_r3t4 [] [0, 1, 12, 13, 14, 15, 16, 17, 18, 19]) (opsC [] s_wref07_Post_r3p3 [17] (evOps call base [⟨some 18, (.mkSl [(.s (.bool false))] 1 1 (.t 17) (.t 17)), none⟩] f H)) := (row_op call it base s_wref07_Post_r3p3 s_wref07_Post_r3t4 (kc := [17]) (by kernel_rfl) f H).trans (by rw [row_ops]; rfl)
theorem s_wref07_Post_r3t4_x (call : CallF) (it : IterF) (base : Nat) (f : List V) (H : Heap) : evC call it base (.region s_wref07_Post_r3t4 [] [0, 1, 12, 13, 14, 15, 16, 17, 18, 19]) f H = thenC call it base (.region s_wref07_Post_r3t5 [] [0, 1, 12, 13, 14, 15, 16, 17, 18, 19]) (opsC [] s_wref07_Post_r3p4 [14, 15, 18] (evOps call base [⟨some 19, (.call (.c (.fn 36 [] [])) [(.t 14), (.t 15), (.t 18), (.c (.s (.slice none 0 0)))]), none⟩] f H)) := (row_op call it base s_wref07_Post_r3p4 s_wref07_Post_r3t5 (kc := [14, 15, 18]) (by kernel_rfl) f H).trans (by rw [row_ops]; rfl)
theorem s_wref07_Post_r3t5_tale (fr : List V) (H : Heap) : evTale (symAll s_wref07_Post_r3t5 [0, 1, 12, 13, 14, 15, 16, 17, 18, 19] [4]) [0, 1, 12, 13, 14, 15, 16, 17, 18, 19] fr H = evTale (some (5, [], [(4, (.t 19))])) [0, 1, 12, 13, 14, 15, 16, 17, 18, 19] fr H := tale_row (items := [.tt 19]) (by kernel_rfl) fr H
theorem s_wref07_Post_r3t5_x (call : CallF) (it : IterF) (base : Nat) (f : List V) (H : Heap) : evC call it base (.region s_wref07_Post_r3t5 [] [0, 1, 12, 13, 14, 15, 16, 17, 18, 19]) f H = segL H (evTale (symAll s_wref07_Post_r3t5 [0, 1, 12, 13, 14, 15, 16, 17, 18, 19] [4]) [0, 1, 12, 13, 14, 15, 16, 17, 18, 19] f H) (origRow call it base s_wref07_Post_r3t5 [0, 1, 12, 13, 14, 15, 16, 17, 18, 19] f H) := row_last call it base _ f H
def s_wref07_Post : ACFun := { ntmps := 20, results := [(.tmp 4)], body :=
  (.seq (.regionE s_wref07_Post_r0 s_wref07_Post_r0_k [])
  (.seq (.seq (.regionE s_wref07_Post_r1 [5, 6, 7, 8, 9, 10, 11] [12])
  (.cond (.t 12)
  (.seq (.regionE s_wref07_Post_r2 [0, 1, 12] [4])
  .ret)
  .skip))
  (.seq (.region s_wref07_Post_r3 [] [0, 1, 12, 13, 14, 15, 16, 17, 18, 19])
  .ret))) }
def a_wref07_Reach := And.intro @s_wref07_Reach_r0_tale (And.intro @s_wref07_Reach_r0_kT (And.intro @s_wref07_Reach_r0_kA0 (And.intro @s_wref07_Reach_r0_kA1 (And.intro @s_wref07_Reach_r1p0_tale (And.intro @s_wref07_Reach_r1_x (And.intro @s_wref07_Reach_r1t1_x (And.intro @s_wref07_Reach_r1t2_tale (And.intro @s_wref07_Reach_r1t2_x (And.intro @s_wref07_Reach_r2p0_tale (And.intro @s_wref07_Reach_r2_x (And.intro @s_wref07_Reach_r2t1_x (And.intro @s_wref07_Reach_r2t2_tale (And.intro @s_wref07_Reach_r2t2_x (And.intro @s_wref07_Reach_r3_tale (And.intro @s_wref07_Reach_r4_tale (And.intro @s_wref07_Reach_r5_tale (And.intro @s_wref07_Reach_r6p0_tale (And.intro @s_wref07_Reach_r6_x (And.intro @s_wref07_Reach_r6t1_x (And.intro @s_wref07_Reach_r7_tale (And.intro @s_wref07_Reach_l0_ev (And.intro @s_wref07_Reach_r8_tale (And.intro @s_wref07_Reach_r9_tale (And.intro @s_wref07_Reach_r10_tale (And.intro @s_wref07_Reach_r11_tale (And.intro @s_wref07_Reach_r12_tale (And.intro @s_wref07_Reach_r13_tale (And.intro @s_wref07_Reach_r14_tale (And.intro @s_wref07_Reach_r15_tale (And.intro @s_wref07_Reach_r16p0_tale (And.intro @s_wref07_Reach_r16_x (And.intro @s_wref07_Reach_r16t1_x (And.intro @s_wref07_Reach_r17_tale (And.intro @s_wref07_Reach_r18_tale (And.intro @s_wref07_Reach_l1_ev (And.intro @s_wref07_Reach_r19_tale (And.intro @s_wref07_Reach_l2_ev (And.intro @s_wref07_Reach_l3_ev (@s_wref07_Reach_r20_tale)))))))))))))))))))))))))))))))))))))))
def a_wref07_Post := And.intro @s_wref07_Post_r0_tale (And.intro @s_wref07_Post_r0_kT (And.intro @s_wref07_Post_r0_kA0 (And.intro @s_wref07_Post_r0_kA1 (And.intro @s_wref07_Post_r1_tale (And.intro @s_wref07_Post_r2_tale (And.intro @s_wref07_Post_r3p0_tale (And.intro @s_wref07_Post_r3_x (And.intro @s_wref07_Post_r3t1_x (And.intro @s_wref07_Post_r3p2_tale (And.intro @s_wref07_Post_r3t2_x (And.intro @s_wref07_Post_r3t3_x (And.intro @s_wref07_Post_r3t4_x (And.intro @s_wref07_Post_r3t5_tale (@s_wref07_Post_r3t5_x))))))))))))))
theorem CW_19 : compK Try.prog (fun n => n == 15) 19 = some (false, s_wref07_Reach.ntmps, s_wref07_Reach.results, s_wref07_Reach.body.bare) := by kernel_rfl
theorem CW_24 : compK Try.prog (fun n => n == 15) 24 = some (false, s_wref07_Post.ntmps, s_wref07_Post.results, s_wref07_Post.body.bare) := by kernel_rfl
end Go.Proofs.Ytmnlagcmpgilaaa
set_option maxRecDepth 100000
namespace Go.Proofs.Ytmnlagcmpgilaaa
open Go.AM
def idx (p : V → Bool) : List V → Nat → Option Nat
  | [], _ => none
  | x :: l, i => if p x then some i else idx p l (i + 1)
def idxV : Option Nat → V
  | some i => .s (.int .i64 i)
  | none => .s (.int .i64 (-1))
theorem index_loop (call : CallF) (base : Nat) (H : Heap) (v f : V) (cs : List V) (hv : Rd H v cs) (hw : Wide1 v) (hn : cs.length < 2 ^ 62) (p : V → Bool) (hp : ∀ x ∈ cs, call f [x] base H = some (.s (.bool (p x)), H)) :
    ∀ (l : List V) (i : Nat), cs.drop i = l → i ≤ cs.length →
    itW (evC call itW base s_slices_IndexFunc_int_int_l0) [] H.length (frOf 19 [(0, v), (1, f), (7, .s (.int .i64 cs.length)), (8, .s (.int .i64 i))]) H =
    match idx p l i with
    | some j => some (.ret, frOf 19 [(4, .s (.int .i64 j))], H)
    | none => some (.ext 0, frOf 19 [(0, v), (1, f), (7, .s (.int .i64 cs.length)), (8, .s (.int .i64 cs.length)), (9, .s (.bool false))], H) := by
  intro l
  induction l with
  | nil =>
    intro i hd hi
    have hin : i = cs.length := by
      have := congrArg List.length hd
      rw [List.length_drop] at this
      simp at this
      omega
    subst hin
    rw [itW_step]
    simp only [a_slices_IndexFunc_int_int,s_slices_IndexFunc_int_int_l0_b, am0,am1,am2,am3,am4,am5,am6,am7,bl,i64,reduceIte,reduceCtorEq,Nat.reduceEqDiff,Nat.reduceLT,Nat.reduceLeDiff,Nat.reduceBEq,Nat.reduceAdd,fillA,splice,Nat.reduceMul,al0,al1,al2,al3,al4,al5,al6,al7,al8,al9,al10,al11,al12,al13,al14,al15,al16,al17,al18,al19,al20,al21,al22,al23,al24,al25,al26,al27,al28,al29,al30,al31,al32,al33,al34, Int.lt_irrefl, idx]
  | cons x l ih =>
    intro i hd hi
    have hc : cs[i]? = some x := by have := congrArg (·[0]?) hd; simp only [List.getElem?_drop] at this; exact this
    have hlt : i < cs.length := (List.getElem?_eq_some_iff.1 hc).1
    have hi' : ((i : Int) < (cs.length : Int)) := by omega
    have hd' : cs.drop (i + 1) = l := by
      have := congrArg (List.drop 1) hd
      simpa [List.drop_drop, Nat.add_comm] using this
    obtain ⟨a, ha1, ha2⟩ := hv.at' hw hc
    have hcall := hp x (List.mem_of_getElem? hc)
    rw [itW_step]
    cases hx : p x with
    | true => simp only [a_slices_IndexFunc_int_int,s_slices_IndexFunc_int_int_l0_b, am0,am1,am2,am3,am4,am5,am6,am7,bl,i64,reduceIte,reduceCtorEq,Nat.reduceEqDiff,Nat.reduceLT,Nat.reduceLeDiff,Nat.reduceBEq,Nat.reduceAdd,fillA,splice,Nat.reduceMul,al0,al1,al2,al3,al4,al5,al6,al7,al8,al9,al10,al11,al12,al13,al14,al15,al16,al17,al18,al19,al20,al21,al22,al23,al24,al25,al26,al27,al28,al29,al30,al31,al32,al33,al34, hi', ha1, ha2, hcall, hx, idx]
    | false =>
      simp only [a_slices_IndexFunc_int_int,s_slices_IndexFunc_int_int_l0_b, am0,am1,am2,am3,am4,am5,am6,am7,bl,i64,reduceIte,reduceCtorEq,Nat.reduceEqDiff,Nat.reduceLT,Nat.reduceLeDiff,Nat.reduceBEq,Nat.reduceAdd,fillA,splice,Nat.reduceMul,al0,al1,al2,al3,al4,al5,al6,al7,al8,al9,al10,al11,al12,al13,al14,al15,al16,al17,al18,al19,al20,al21,al22,al23,al24,al25,al26,al27,al28,al29,al30,al31,al32,al33,al34, hi', ha1, ha2, hcall, hx, idx, wrap_pos (n := i) (by omega)]
      exact ih (i + 1) hd' hlt
theorem index_fun {CT : Nat → Option CFun} (hT : CT k_slices_IndexFunc_int_int = some (.code s_slices_IndexFunc_int_int)) (base : Nat) (H : Heap) (v f : V) (cs : List V) (hv : Rd H v cs) (hw : Wide1 v) (hn : cs.length < 2 ^ 62) (p : V → Bool) (hp : ∀ x ∈ cs, callW CT f [x] base H = some (.s (.bool (p x)), H)) :
    callW CT (.fn k_slices_IndexFunc_int_int [] []) [v, f] base H = some (idxV (idx p cs 0), H) := by
  refine callW_fn (c := s_slices_IndexFunc_int_int) hT (by simp [s_slices_IndexFunc_int_int]) ?_
  have hl := index_loop (callW CT) base H v f cs hv hw hn p hp cs 0 rfl (Nat.zero_le _)
  rw [show ((0 : Nat) : Int) = 0 from rfl] at hl
  simp only [s_slices_IndexFunc_int_int, a_slices_IndexFunc_int_int,s_slices_IndexFunc_int_int_l0_b, am0,am1,am2,am3,am4,am5,am6,am7,bl,i64,reduceIte,reduceCtorEq,Nat.reduceEqDiff,Nat.reduceLT,Nat.reduceLeDiff,Nat.reduceBEq,Nat.reduceAdd,fillA,splice,Nat.reduceMul,al0,al1,al2,al3,al4,al5,al6,al7,al8,al9,al10,al11,al12,al13,al14,al15,al16,al17,al18,al19,al20,al21,al22,al23,al24,al25,al26,al27,al28,al29,al30,al31,al32,al33,al34, hv.len, hl]
  cases idx p cs 0 <;> simp only [a_slices_IndexFunc_int_int,s_slices_IndexFunc_int_int_l0_b, am0,am1,am2,am3,am4,am5,am6,am7,bl,i64,reduceIte,reduceCtorEq,Nat.reduceEqDiff,Nat.reduceLT,Nat.reduceLeDiff,Nat.reduceBEq,Nat.reduceAdd,fillA,splice,Nat.reduceMul,al0,al1,al2,al3,al4,al5,al6,al7,al8,al9,al10,al11,al12,al13,al14,al15,al16,al17,al18,al19,al20,al21,al22,al23,al24,al25,al26,al27,al28,al29,al30,al31,al32,al33,al34, idxV]
def keepAt (p : V → Bool) : List V → (i : Nat) → List V → List V × Nat
  | [], i, c => (c, i)
  | x :: l, i, c => if p x then keepAt p l i c else keepAt p l (i + 1) (c.set i x)
theorem delete_loop (call : CallF) (base : Nat) (f : V) (id g n : Nat) (hb : base ≤ id) (hn : n < 2 ^ 62) (p : V → Bool) (Q : V → Prop) (hQ : ∀ x, Q x → x.one = true) (H : Heap) (hp : ∀ x, Q x → ∀ c, c.length = n → call f [x] base (H.set id (.cells g c)) = some (.s (.bool (p x)), H.set id (.cells g c))) (hid : id < H.length) :
    ∀ (l : List V) (j i : Nat) (c : List V), c.length = n → c.drop j = l → (∀ x ∈ c, Q x) → i < j → j ≤ n →
    itW (evC call itW base s_slices_DeleteFunc_int_int_l0) [] H.length (frOf 42 [(0, .sl id g 0 n 1), (1, f), (5, .s (.int .i64 i)), (6, .s (.int .i64 j))]) (H.set id (.cells g c)) =
    some (.ext 0, frOf 42 [(0, .sl id g 0 n 1), (1, f), (5, .s (.int .i64 (keepAt p l i c).2)), (6, .s (.int .i64 n)), (19, .s (.bool false))], H.set id (.cells g (keepAt p l i c).1)) := by
  intro l
  induction l with
  | nil =>
    intro j i c hc hd ho hij hj
    have hin : j = n := by
      have := congrArg List.length hd
      rw [List.length_drop] at this
      simp at this
      omega
    subst hin
    rw [itW_step]
    have hL : (H.set id (.cells g c)).length = H.length := List.length_set
    simp only [a_slices_DeleteFunc_int_int,s_slices_DeleteFunc_int_int_l0_b, am0,am1,am2,am3,am4,am5,am6,am7,bl,i64,reduceIte,reduceCtorEq,Nat.reduceEqDiff,Nat.reduceLT,Nat.reduceLeDiff,Nat.reduceBEq,Nat.reduceAdd,fillA,splice,Nat.reduceMul,al0,al1,al2,al3,al4,al5,al6,al7,al8,al9,al10,al11,al12,al13,al14,al15,al16,al17,al18,al19,al20,al21,al22,al23,al24,al25,al26,al27,al28,al29,al30,al31,al32,al33,al34, Int.lt_irrefl, keepAt, trim_same hL]
  | cons x l ih =>
    intro j i c hc hd ho hij hj
    have hcx : c[j]? = some x := by have := congrArg (·[0]?) hd; simp only [List.getElem?_drop] at this; exact this
    have hlt : j < n := by have := (List.getElem?_eq_some_iff.1 hcx).1; omega
    have hd' : c.drop (j + 1) = l := by
      have := congrArg (List.drop 1) hd
      simpa [List.drop_drop, Nat.add_comm] using this
    have hxQ : Q x := ho x (List.mem_of_getElem? hcx)
    have hx1 : x.one = true := hQ x hxQ
    have hg : getC (H.set id (.cells g c)) id g = some c := by simp [getC, hid]
    have hrd : Rd (H.set id (.cells g c)) (.sl id g 0 n 1) c := by
      have := Rd.sl hg (off := 0) (n := n) (by omega)
      rwa [List.drop_zero, List.take_of_length_le (by omega)] at this
    obtain ⟨a, ha1, ha2⟩ := hrd.at' trivial hcx
    have hcall := hp x hxQ c hc
    have hi' : ((j : Int) < (n : Int)) := by omega
    have hL : ∀ c, (H.set id (.cells g c)).length = H.length := fun c => List.length_set
    rw [itW_step]
    have hii : (i : Int) < (n : Int) := by omega
    have hst := storeV_at (v := x) hg hb hx1 (off := i) (by omega)
    cases hpx : p x with
    | true =>
      simp only [a_slices_DeleteFunc_int_int,s_slices_DeleteFunc_int_int_l0_b, am0,am1,am2,am3,am4,am5,am6,am7,bl,i64,reduceIte,reduceCtorEq,Nat.reduceEqDiff,Nat.reduceLT,Nat.reduceLeDiff,Nat.reduceBEq,Nat.reduceAdd,fillA,splice,Nat.reduceMul,al0,al1,al2,al3,al4,al5,al6,al7,al8,al9,al10,al11,al12,al13,al14,al15,al16,al17,al18,al19,al20,al21,al22,al23,al24,al25,al26,al27,al28,al29,al30,al31,al32,al33,al34, hi', ha1, ha2, hcall, hpx, keepAt, wrap_pos (n := j) (by omega), trim_same (hL _)]
      exact ih (j + 1) i c hc hd' ho (by omega) (by omega)
    | false =>
      simp only [a_slices_DeleteFunc_int_int,s_slices_DeleteFunc_int_int_l0_b, am0,am1,am2,am3,am4,am5,am6,am7,bl,i64,reduceIte,reduceCtorEq,Nat.reduceEqDiff,Nat.reduceLT,Nat.reduceLeDiff,Nat.reduceBEq,Nat.reduceAdd,fillA,splice,Nat.reduceMul,al0,al1,al2,al3,al4,al5,al6,al7,al8,al9,al10,al11,al12,al13,al14,al15,al16,al17,al18,al19,al20,al21,al22,al23,al24,al25,al26,al27,al28,al29,al30,al31,al32,al33,al34, hi', ha1, ha2, hcall, hpx, keepAt, wrap_pos (n := j) (by omega), wrap_pos (n := i) (by omega), trim_same (hL _), hii, hst]
      have hd2 : (c.set i x).drop (j + 1) = l := by rw [List.drop_set_of_lt (by omega), hd']
      exact ih (j + 1) (i + 1) (c.set i x) (by rw [List.length_set]; exact hc) hd2 (fun y hy => by
        rcases List.mem_or_eq_of_mem_set hy with h | h
        · exact ho y h
        · rw [h]; exact hxQ) (by omega) (by omega)
theorem keepAt_spec (p : V → Bool) : ∀ (l : List V) (i : Nat) (c : List V), i + l.length ≤ c.length → (keepAt p l i c).2 = i + (l.filter fun x => !p x).length ∧ (keepAt p l i c).1.length = c.length ∧ (keepAt p l i c).1.take (keepAt p l i c).2 = c.take i ++ l.filter fun x => !p x := by
  intro l
  induction l with
  | nil => intro i c _; simp [keepAt]
  | cons x l ih =>
    intro i c h
    simp only [List.length_cons] at h
    simp only [keepAt, List.filter_cons]
    cases hp : p x with
    | true => simpa using ih i c (by omega)
    | false =>
      obtain ⟨h1, h2, h3⟩ := ih (i + 1) (c.set i x) (by rw [List.length_set]; omega)
      rw [List.length_set] at h2
      refine ⟨by simp [h1]; omega, by simpa using h2, ?_⟩
      have : (c.set i x).take (i + 1) = c.take i ++ [x] := by
        rw [List.take_succ_eq_append_getElem (by rw [List.length_set]; omega), List.take_set_of_le (Nat.le_refl _)]
        simp
      simp only [Bool.false_eq_true, if_false, Bool.not_false, if_true]
      rw [h3, this, List.append_assoc]
      rfl
theorem idx_none {p : V → Bool} : ∀ {l : List V} {i : Nat}, idx p l i = none → l.filter (fun x => !p x) = l := by
  intro l
  induction l with
  | nil => intro i _; rfl
  | cons x l ih =>
    intro i h
    simp only [idx] at h
    cases hp : p x with
    | true => simp [hp] at h
    | false =>
      rw [hp] at h
      simp [hp, ih (by simpa using h)]
theorem idx_some {p : V → Bool} : ∀ {l : List V} {i j : Nat}, idx p l i = some j → ∃ k, j = i + k ∧ k < l.length ∧ (l.take k).filter (fun x => !p x) = l.take k ∧ (l.drop k).filter (fun x => !p x) = (l.drop (k + 1)).filter (fun x => !p x) := by
  intro l
  induction l with
  | nil => intro i j h; cases h
  | cons x l ih =>
    intro i j h
    simp only [idx] at h
    cases hp : p x with
    | true =>
      rw [hp] at h
      simp at h
      exact ⟨0, by omega, by simp, rfl, by simp [hp]⟩
    | false =>
      rw [hp] at h
      obtain ⟨k, h1, h2, h3, h4⟩ := ih (i := i + 1) (by simpa using h)
      exact ⟨k + 1, by omega, by simpa using h2, by simp [hp, h3], by simpa using h4⟩
theorem delete_fun {CT : Nat → Option CFun} (hT : CT k_slices_DeleteFunc_int_int = some (.code s_slices_DeleteFunc_int_int)) (hT2 : CT k_slices_IndexFunc_int_int = some (.code s_slices_IndexFunc_int_int))
    (base : Nat) (H : Heap) (f : V) (id g n : Nat) (c : List V) (hc : getC H id g = some c) (hl : c.length = n) (Q : V → Prop) (hQ : ∀ x, Q x → x.one = true) (ho : ∀ x ∈ c, Q x) (hb : base ≤ id) (hn : n < 2 ^ 62) (p : V → Bool)
    (hp : ∀ x, Q x → ∀ c, c.length = n → callW CT f [x] base (H.set id (.cells g c)) = some (.s (.bool (p x)), H.set id (.cells g c))) :
    ∃ c', callW CT (.fn k_slices_DeleteFunc_int_int [] []) [.sl id g 0 n 1, f] base H = some (.sl id g 0 (c.filter fun x => !p x).length 1, H.set id (.cells g c')) ∧ c'.length = n ∧ c'.take (c.filter fun x => !p x).length = c.filter fun x => !p x := by
  have hid : id < H.length := by
    unfold getC at hc
    split at hc
    · rename_i hh; exact (List.getElem?_eq_some_iff.1 hh).1
    · cases hc
  have hrd : Rd H (.sl id g 0 n 1) c := by
    have := Rd.sl hc (off := 0) (n := n) (by omega)
    rwa [List.drop_zero, List.take_of_length_le (by omega)] at this
  have hix := index_fun hT2 base H (.sl id g 0 n 1) f c hrd trivial (by omega) p (fun x hx => by have := hp x (ho x hx) c hl; rwa [getC_same hc] at this)
  cases hi : idx p c 0 with
  | none =>
    have hfl := idx_none hi
    refine ⟨c, ?_, hl, by rw [hfl, List.take_length]⟩
    rw [getC_same hc, hfl, hl]
    refine callW_fn (c := s_slices_DeleteFunc_int_int) hT (by simp [s_slices_DeleteFunc_int_int]) ?_
    rw [hi] at hix
    simp only [s_slices_DeleteFunc_int_int, a_slices_DeleteFunc_int_int,s_slices_DeleteFunc_int_int_l0_b, am0,am1,am2,am3,am4,am5,am6,am7,bl,i64,reduceIte,reduceCtorEq,Nat.reduceEqDiff,Nat.reduceLT,Nat.reduceLeDiff,Nat.reduceBEq,Nat.reduceAdd,fillA,splice,Nat.reduceMul,al0,al1,al2,al3,al4,al5,al6,al7,al8,al9,al10,al11,al12,al13,al14,al15,al16,al17,al18,al19,al20,al21,al22,al23,al24,al25,al26,al27,al28,al29,al30,al31,al32,al33,al34, hix, idxV]
  | some j =>
    rw [hi] at hix
    obtain ⟨k, hjk, hk, h3, h4⟩ := idx_some hi
    obtain rfl : j = k := by omega
    have hlp := delete_loop (callW CT) base f id g n hb hn p Q hQ H hp hid (c.drop (j + 1)) (j + 1) j c hl rfl ho (by omega) (by omega)
    obtain ⟨q1, q2, q3⟩ := keepAt_spec p (c.drop (j + 1)) j c (by simp; omega)
    have hft : c.filter (fun x => !p x) = c.take j ++ (c.drop (j + 1)).filter fun x => !p x := by
      rw [← h3, ← h4, ← List.filter_append, List.take_append_drop]
    have hk2 : (keepAt p (c.drop (j + 1)) j c).2 = (c.filter fun x => !p x).length := by rw [q1, hft, List.length_append, List.length_take]; omega
    rw [hk2] at q3 hlp
    have hkn : (c.filter fun x => !p x).length ≤ n := by rw [← hl]; exact List.length_filter_le _ _
    generalize hK : (c.filter fun x => !p x).length = K at *
    generalize hC : (keepAt p (c.drop (j + 1)) j c).1 = C at *
    refine ⟨C.take K ++ (List.replicate (n - K) [V.s (.int .i64 0)]).flatten ++ C.drop (K + (n - K)), ?_, ?_, ?_⟩
    · refine callW_fn (c := s_slices_DeleteFunc_int_int) hT (by simp [s_slices_DeleteFunc_int_int]) ?_
      have hg' : getC (H.set id (.cells g C)) id g = some C := by simp [getC, hid]
      have hcl := clear_at (zero := [.s (.int .i64 0)]) (off := K) (len := n - K) hg' hb rfl rfl (by rw [q2]; omega)
      rw [getC_same hc] at hlp
      have hjw := wrap_pos (n := j) (by omega)
      have hj0 : ((j : Int) == -1) = false := by rw [beq_eq_false_iff_ne]; omega
      have hk1 : (K : Int) ≤ (n : Int) := by omega
      have hk2 : ((n : Int) - (K : Int)).toNat = n - K := by omega
      simp only [s_slices_DeleteFunc_int_int, a_slices_DeleteFunc_int_int,s_slices_DeleteFunc_int_int_l0_b, am0,am1,am2,am3,am4,am5,am6,am7,bl,i64,reduceIte,reduceCtorEq,Nat.reduceEqDiff,Nat.reduceLT,Nat.reduceLeDiff,Nat.reduceBEq,Nat.reduceAdd,fillA,splice,Nat.reduceMul,al0,al1,al2,al3,al4,al5,al6,al7,al8,al9,al10,al11,al12,al13,al14,al15,al16,al17,al18,al19,al20,al21,al22,al23,al24,al25,al26,al27,al28,al29,al30,al31,al32,al33,al34, hix, idxV, hjw, hlp, hj0, hk1, hk2, hcl]
    · simp [q2]; omega
    · rw [hft, ← q3, List.append_assoc, List.take_append_of_le_length (by rw [List.length_take]; omega), List.take_take, Nat.min_self]
end Go.Proofs.Ytmnlagcmpgilaaa
set_option maxRecDepth 100000
namespace Go.Proofs.Ytmnlagcmpgilaaa
open Go.AM
def Own (H0 H : Heap) (v : V) (l : List Int) : Prop :=
  Ext H0 H ∧ ((l = [] ∧ (v = nilS ∨ v = .esl)) ∨ ∃ id g c, v = .sl id g 0 l.length 1 ∧ getC H id g = some c ∧ l.length ≤ c.length ∧ c.take l.length = l.map iV ∧ H0.length ≤ id)
theorem Own.rd {H0 H : Heap} {v : V} {l : List Int} (h : Own H0 H v l) : Rd H v (l.map iV) := by
  rcases h.2 with ⟨rfl, rfl | rfl⟩ | ⟨id, g, c, rfl, hc, hl, ht, _⟩
  · exact Rd.nil H
  · exact Rd.esl H
  · have := Rd.sl hc (off := 0) (n := l.length) (by omega)
    rwa [List.drop_zero, ht] at this
theorem Own.wide {H0 H : Heap} {v : V} {l : List Int} (h : Own H0 H v l) : Wide1 v := by
  rcases h.2 with ⟨_, rfl | rfl⟩ | ⟨_, _, _, rfl, _⟩ <;> trivial
theorem ones (l : List Int) : (l.map iV).all V.one = true := by
  rw [List.all_eq_true]
  intro x hx
  obtain ⟨n, _, rfl⟩ := List.mem_map.1 hx
  rfl
def nilV : V → Bool
  | .s (.slice none 0 0) => true
  | _ => false
theorem rd_isNil {H : Heap} {v : V} {l : List V} (h : Rd H v l) : xEqNil .s false v = some (.s (.bool (nilV v))) := by
  rcases h.cases with ⟨_, rfl | rfl⟩ | ⟨es, rfl, _⟩ | ⟨id, g, off, n, c, rfl, _⟩ <;> rfl
theorem clone_fun {CT : Nat → Option CFun} (hT : CT k_slices_Clone_int_int = some (.code s_slices_Clone_int_int)) (base : Nat) (H : Heap) (v : V) (l : List Int) (hv : Rd H v (l.map iV)) (hn : l.length * 8 ≤ 2 ^ 47) :
    ∃ r H', callW CT (.fn k_slices_Clone_int_int [] []) [v] base H = some (r, H') ∧ Ext H H' ∧ ((l = [] ∧ (r = nilS ∨ r = .esl)) ∨ ∃ id, r = .sl id 0 0 l.length 1 ∧ getC H' id 0 = some (l.map iV) ∧ H.length ≤ id) := by
  have hnil := rd_isNil hv
  cases hz : nilV v with
  | true =>
    have hvn : v = nilS := by
      unfold nilV at hz
      split at hz
      · rfl
      · cases hz
    subst hvn
    have hl : l = [] := by
      have := hv.2
      simp only [nilS, elems] at this
      cases l with
      | nil => rfl
      | cons a l => simp at this
    refine ⟨nilS, H, callW_fn (c := s_slices_Clone_int_int) hT (by simp [s_slices_Clone_int_int]) ?_, Ext.refl H, .inl ⟨hl, .inl rfl⟩⟩
    simp only [s_slices_Clone_int_int, a_slices_Clone_int_int, am0,am1,am2,am3,am4,am5,am6,am7,bl,i64,reduceIte,reduceCtorEq,Nat.reduceEqDiff,Nat.reduceLT,Nat.reduceLeDiff,Nat.reduceBEq,Nat.reduceAdd,fillA,splice,Nat.reduceMul,al0,al1,al2,al3,al4,al5,al6,al7,al8,al9,al10,al11,al12,al13,al14,al15,al16,al17,al18,al19,al20,al21,al22,al23,al24,al25,al26,al27,al28,al29,al30,al31,al32,al33,al34, nilS]
  | false =>
    rw [hz] at hnil
    have hap := appendV_esl (base := base) (bytes := 8) (hv.app [Ob.cells 0 []]) (ones l) (by rw [List.length_map]; exact hn)
    by_cases hl : l.length = 0
    · have hl' : l = [] := List.eq_nil_of_length_eq_zero hl
      rw [List.length_map, if_pos hl] at hap
      refine ⟨.esl, H ++ [.cells 0 []], callW_fn (c := s_slices_Clone_int_int) hT (by simp [s_slices_Clone_int_int]) ?_, Ext.app _ _, .inl ⟨hl', .inr rfl⟩⟩
      simp only [s_slices_Clone_int_int, a_slices_Clone_int_int, am0,am1,am2,am3,am4,am5,am6,am7,bl,i64,reduceIte,reduceCtorEq,Nat.reduceEqDiff,Nat.reduceLT,Nat.reduceLeDiff,Nat.reduceBEq,Nat.reduceAdd,fillA,splice,Nat.reduceMul,al0,al1,al2,al3,al4,al5,al6,al7,al8,al9,al10,al11,al12,al13,al14,al15,al16,al17,al18,al19,al20,al21,al22,al23,al24,al25,al26,al27,al28,al29,al30,al31,al32,al33,al34, hnil, hap]
    · rw [List.length_map, if_neg hl, len_snoc] at hap
      refine ⟨.sl (H.length + 1) 0 0 l.length 1, H ++ [.cells 0 []] ++ [.cells 0 (l.map iV)], callW_fn (c := s_slices_Clone_int_int) hT (by simp [s_slices_Clone_int_int]) ?_, (Ext.app _ _).trans (Ext.app _ _), .inr ⟨H.length + 1, rfl, ?_, by omega⟩⟩
      · simp only [s_slices_Clone_int_int, a_slices_Clone_int_int, am0,am1,am2,am3,am4,am5,am6,am7,bl,i64,reduceIte,reduceCtorEq,Nat.reduceEqDiff,Nat.reduceLT,Nat.reduceLeDiff,Nat.reduceBEq,Nat.reduceAdd,fillA,splice,Nat.reduceMul,al0,al1,al2,al3,al4,al5,al6,al7,al8,al9,al10,al11,al12,al13,al14,al15,al16,al17,al18,al19,al20,al21,al22,al23,al24,al25,al26,al27,al28,al29,al30,al31,al32,al33,al34, hnil, hap]
      · simp only [am0,am1,am2,am3,am4,am5,am6,am7,bl,i64,reduceIte,reduceCtorEq,Nat.reduceEqDiff,Nat.reduceLT,Nat.reduceLeDiff,Nat.reduceBEq,Nat.reduceAdd,fillA,splice,Nat.reduceMul,al0,al1,al2,al3,al4,al5,al6,al7,al8,al9,al10,al11,al12,al13,al14,al15,al16,al17,al18,al19,al20,al21,al22,al23,al24,al25,al26,al27,al28,al29,al30,al31,al32,al33,al34]
theorem norm1_fun {CT : Nat → Option CFun} (hT : CT k_graph_Norm_1 = some (.code s_graph_Norm_1)) (base : Nat) (H : Heap) (id : Nat) (v : V) (hc : getC H id 0 = some [v]) (n : Nat) (hv : xLen H .s v = some (.s (.int .i64 n))) (k : Int) :
    callW CT (.fn k_graph_Norm_1 [] [.ref id 0 0]) [iV k] base H = some (.s (.bool (decide (k < 0) || decide (k ≥ n))), H) := by
  refine callW_fn (c := s_graph_Norm_1) hT (by simp [s_graph_Norm_1]) ?_
  simp only [s_graph_Norm_1, a_graph_Norm_1, am0,am1,am2,am3,am4,am5,am6,am7,bl,i64,reduceIte,reduceCtorEq,Nat.reduceEqDiff,Nat.reduceLT,Nat.reduceLeDiff,Nat.reduceBEq,Nat.reduceAdd,fillA,splice,Nat.reduceMul,al0,al1,al2,al3,al4,al5,al6,al7,al8,al9,al10,al11,al12,al13,al14,al15,al16,al17,al18,al19,al20,al21,al22,al23,al24,al25,al26,al27,al28,al29,al30,al31,al32,al33,al34, iV, hc, hv]
end Go.Proofs.Ytmnlagcmpgilaaa
set_option maxRecDepth 100000
namespace Go.Proofs.Ytmnlagcmpgilaaa
open Go.AM
theorem wrap_pred {n : Nat} (h1 : 1 ≤ n) (h : n < 2 ^ 63) : IntKind.i64.wrap ((n : Int) - 1) = ((n - 1 : Nat) : Int) := by rw [IntKind.wrap_i64]; omega
def chg : Int → List Int → List Int
  | _, [] => []
  | p, x :: r => if x == p then chg x r else x :: chg x r
def compactZ : List Int → List Int
  | [] => []
  | x :: r => x :: chg x r
theorem chg_len : ∀ (r : List Int) (p : Int), (chg p r).length ≤ r.length := by
  intro r
  induction r with
  | nil => intro p; simp [chg]
  | cons x r ih => intro p; simp only [chg]; split <;> simp <;> have := ih x <;> omega
theorem compact_inner (call : CallF) (base : Nat) (id g n k0 : Nat) (l : List Int) (hl : l.length = n) (hb : base ≤ id) (hn : n < 2 ^ 62) (H : Heap) (hid : id < H.length) (hk0 : k0 < n) :
    ∀ (r : List Int) (k2 k : Nat) (c : List V), l.drop (k0 + k2) = r → 1 ≤ k2 → k0 + k2 ≤ n → k0 ≤ k → k < k0 + k2 → n ≤ c.length → (∀ j, k0 + k2 - 1 ≤ j → j < n → c[j]? = some (iV (l.getD j 0))) →
    ∃ c', itW (evC call itW base s_slices_Compact_int_int_l0) [] H.length (frOf 61 [(0, .sl id g 0 n 1), (3, .s (.int .i64 k)), (4, .sl id g k0 (n - k0) 1), (5, .s (.int .i64 k2))]) (H.set id (.cells g c)) =
      some (.ext 2, frOf 61 [(0, .sl id g 0 n 1), (3, .s (.int .i64 (k + (chg (l.getD (k0 + k2 - 1) 0) r).length : Nat))), (4, .sl id g k0 (n - k0) 1), (5, .s (.int .i64 (n - k0 : Nat))), (32, .s (.bool false))], H.set id (.cells g c')) ∧
      c'.length = c.length ∧ c'.take (k + (chg (l.getD (k0 + k2 - 1) 0) r).length) = c.take k ++ (chg (l.getD (k0 + k2 - 1) 0) r).map iV := by
  intro r
  have hL : ∀ c, (H.set id (.cells g c)).length = H.length := fun c => List.length_set
  induction r with
  | nil =>
    intro k2 k c hd h1 h2 h3 h4 hc hr
    have hk : k2 = n - k0 := by
      have := congrArg List.length hd
      simp at this
      omega
    subst hk
    refine ⟨c, ?_, rfl, by simp [chg]⟩
    rw [itW_step]
    simp only [a_slices_Compact_int_int,s_slices_Compact_int_int_l0_b,s_slices_Compact_int_int_l1_b, am0,am1,am2,am3,am4,am5,am6,am7,bl,i64,reduceIte,reduceCtorEq,Nat.reduceEqDiff,Nat.reduceLT,Nat.reduceLeDiff,Nat.reduceBEq,Nat.reduceAdd,fillA,splice,Nat.reduceMul,al0,al1,al2,al3,al4,al5,al6,al7,al8,al9,al10,al11,al12,al13,al14,al15,al16,al17,al18,al19,al20,al21,al22,al23,al24,al25,al26,al27,al28,al29,al30,al31,al32,al33,al34, Int.lt_irrefl, trim_same (hL _), chg]
  | cons x r ih =>
    intro k2 k c hd h1 h2 h3 h4 hc hr
    have hx : l[k0 + k2]? = some x := by have := congrArg (·[0]?) hd; simp only [List.getElem?_drop] at this; exact this
    have hlt : k0 + k2 < n := by have := (List.getElem?_eq_some_iff.1 hx).1; omega
    have hd' : l.drop (k0 + (k2 + 1)) = r := by
      rw [← Nat.add_assoc, ← List.drop_drop, hd]; rfl
    have hxD : l.getD (k0 + k2) 0 = x := by simp [List.getD, hx]
    have hg : getC (H.set id (.cells g c)) id g = some c := by simp [getC, hid]
    have hrd : Rd (H.set id (.cells g c)) (.sl id g k0 (n - k0) 1) ((c.drop k0).take (n - k0)) := Rd.sl hg (by omega)
    have e1 : ((c.drop k0).take (n - k0))[k2]? = some (iV x) := by
      rw [List.getElem?_take_of_lt (by omega), List.getElem?_drop, hr _ (by omega) hlt, hxD]
    have e2 : ((c.drop k0).take (n - k0))[k2 - 1]? = some (iV (l.getD (k0 + k2 - 1) 0)) := by
      rw [List.getElem?_take_of_lt (by omega), List.getElem?_drop, ← hr _ (by omega) (by omega)]
      congr 1; omega
    obtain ⟨a, ha1, ha2⟩ := hrd.at' trivial e1
    obtain ⟨b, hb1, hb2⟩ := hrd.at' trivial e2
    have hwp := wrap_pred (n := k2) h1 (by omega)
    have hw2 := wrap_pos (n := k2) (by omega)
    have hw3 := wrap_pos (n := k) (by omega)
    have hlt' : (k2 : Int) < ((n - k0 : Nat) : Int) := by omega
    have hkn : (k : Int) < (n : Int) := by omega
    have hst := storeV_at (v := iV x) hg hb rfl (off := k) (by omega)
    unfold iV at ha2 hb2 hst
    rw [itW_step]
    cases heq : x == l.getD (k0 + k2 - 1) 0 with
    | true =>
      have hne : (x != l.getD (k0 + k2 - 1) 0) = false := by rw [bne, heq]; rfl
      have hpx : l.getD (k0 + (k2 + 1) - 1) 0 = x := by rw [← hxD]; congr 1
      obtain ⟨c', q1, q2, q3⟩ := ih (k2 + 1) k c hd' (by omega) (by omega) h3 (by omega) hc (fun j hj1 hj2 => hr j (by omega) hj2)
      rw [hpx] at q1 q3
      refine ⟨c', ?_, q2, by simpa only [chg, heq, if_true] using q3⟩
      simp only [a_slices_Compact_int_int,s_slices_Compact_int_int_l0_b,s_slices_Compact_int_int_l1_b, am0,am1,am2,am3,am4,am5,am6,am7,bl,i64,reduceIte,reduceCtorEq,Nat.reduceEqDiff,Nat.reduceLT,Nat.reduceLeDiff,Nat.reduceBEq,Nat.reduceAdd,fillA,splice,Nat.reduceMul,al0,al1,al2,al3,al4,al5,al6,al7,al8,al9,al10,al11,al12,al13,al14,al15,al16,al17,al18,al19,al20,al21,al22,al23,al24,al25,al26,al27,al28,al29,al30,al31,al32,al33,al34, hlt', ha1, ha2, hwp, hb1, hb2, hne, hw2, trim_same (hL _), chg, heq]
      exact q1
    | false =>
      have hne : (x != l.getD (k0 + k2 - 1) 0) = true := by rw [bne, heq]; rfl
      have hpx : l.getD (k0 + (k2 + 1) - 1) 0 = x := by rw [← hxD]; congr 1
      obtain ⟨c', q1, q2, q3⟩ := ih (k2 + 1) (k + 1) (c.set k (iV x)) hd' (by omega) (by omega) (by omega) (by omega) (by rw [List.length_set]; exact hc) (fun j hj1 hj2 => by rw [List.getElem?_set_ne (by omega)]; exact hr j (by omega) hj2)
      rw [hpx] at q1 q3
      have hkk : k + 1 + (chg x r).length = k + ((chg x r).length + 1) := by omega
      rw [hkk] at q1 q3
      refine ⟨c', ?_, by rw [q2, List.length_set], ?_⟩
      · unfold iV at q1
        simp only [a_slices_Compact_int_int,s_slices_Compact_int_int_l0_b,s_slices_Compact_int_int_l1_b, am0,am1,am2,am3,am4,am5,am6,am7,bl,i64,reduceIte,reduceCtorEq,Nat.reduceEqDiff,Nat.reduceLT,Nat.reduceLeDiff,Nat.reduceBEq,Nat.reduceAdd,fillA,splice,Nat.reduceMul,al0,al1,al2,al3,al4,al5,al6,al7,al8,al9,al10,al11,al12,al13,al14,al15,al16,al17,al18,al19,al20,al21,al22,al23,al24,al25,al26,al27,al28,al29,al30,al31,al32,al33,al34, hlt', ha1, ha2, hwp, hb1, hb2, hne, hw2, hw3, hkn, hst, trim_same (hL _), chg, heq]
        exact q1
      · simp only [chg, heq, Bool.false_eq_true, if_false, List.length_cons, List.map_cons]
        rw [q3, List.take_succ_eq_append_getElem (by rw [List.length_set]; omega), List.take_set_of_le (Nat.le_refl _)]
        simp
theorem compact_outer (call : CallF) (base : Nat) (id g n : Nat) (l : List Int) (hl : l.length = n) (hb : base ≤ id) (hn : n < 2 ^ 62) (H : Heap) (hid : id < H.length) (c : List V) (hc : n ≤ c.length) (hg : getC H id g = some c) (hr : ∀ j, j < n → c[j]? = some (iV (l.getD j 0))) :
    ∀ (r : List Int) (k : Nat), l.drop k = r → 1 ≤ k → k ≤ n →
    (itW (evC call itW base s_slices_Compact_int_int_l1) [] H.length (frOf 61 [(0, .sl id g 0 n 1), (3, .s (.int .i64 k))]) H = some (.ext 0, frOf 61 [(0, .sl id g 0 n 1), (3, .s (.int .i64 n)), (13, .s (.bool false))], H) ∧ chg (l.getD (k - 1) 0) r = r) ∨
    ∃ c', itW (evC call itW base s_slices_Compact_int_int_l1) [] H.length (frOf 61 [(0, .sl id g 0 n 1), (3, .s (.int .i64 k))]) H = some (.ret, frOf 61 [(2, .sl id g 0 (k + (chg (l.getD (k - 1) 0) r).length) 1)], H.set id (.cells g c')) ∧
      c'.length = c.length ∧ c'.take (k + (chg (l.getD (k - 1) 0) r).length) = (l.take k ++ chg (l.getD (k - 1) 0) r).map iV := by
  intro r
  induction r with
  | nil =>
    intro k hd h1 h2
    have hk : k = n := by
      have := congrArg List.length hd
      simp at this
      omega
    subst hk
    refine .inl ⟨?_, rfl⟩
    rw [itW_step]
    simp only [a_slices_Compact_int_int,s_slices_Compact_int_int_l0_b,s_slices_Compact_int_int_l1_b, am0,am1,am2,am3,am4,am5,am6,am7,bl,i64,reduceIte,reduceCtorEq,Nat.reduceEqDiff,Nat.reduceLT,Nat.reduceLeDiff,Nat.reduceBEq,Nat.reduceAdd,fillA,splice,Nat.reduceMul,al0,al1,al2,al3,al4,al5,al6,al7,al8,al9,al10,al11,al12,al13,al14,al15,al16,al17,al18,al19,al20,al21,al22,al23,al24,al25,al26,al27,al28,al29,al30,al31,al32,al33,al34, Int.lt_irrefl, trim_same rfl]
  | cons x r ih =>
    intro k hd h1 h2
    have hx : l[k]? = some x := by have := congrArg (·[0]?) hd; simp only [List.getElem?_drop] at this; exact this
    have hlt : k < n := by have := (List.getElem?_eq_some_iff.1 hx).1; omega
    have hd' : l.drop (k + 1) = r := by
      rw [← List.drop_drop, hd]; rfl
    have hxD : l.getD k 0 = x := by simp [List.getD, hx]
    have hrd : Rd H (.sl id g 0 n 1) ((c.drop 0).take n) := Rd.sl hg (by omega)
    have e1 : ((c.drop 0).take n)[k]? = some (iV x) := by
      rw [List.getElem?_take_of_lt (by omega), List.getElem?_drop, Nat.zero_add, hr _ (by omega), hxD]
    have e2 : ((c.drop 0).take n)[k - 1]? = some (iV (l.getD (k - 1) 0)) := by
      rw [List.getElem?_take_of_lt (by omega), List.getElem?_drop, Nat.zero_add, ← hr _ (by omega)]
    obtain ⟨a, ha1, ha2⟩ := hrd.at' trivial e1
    obtain ⟨b, hb1, hb2⟩ := hrd.at' trivial e2
    have hwp := wrap_pred (n := k) h1 (by omega)
    have hw2 := wrap_pos (n := k) (by omega)
    have hlt' : (k : Int) < (n : Int) := by omega
    unfold iV at ha2 hb2
    cases heq : x == l.getD (k - 1) 0 with
    | true =>
      obtain ⟨c', q1, q2, q3⟩ := compact_inner call base id g n k l hl hb hn H hid hlt r 1 k c hd' (Nat.le_refl _) (by omega) (Nat.le_refl _) (by omega) hc (fun j _ hj2 => hr j hj2)
      have hkk : k + 1 - 1 = k := by omega
      rw [hkk, hxD] at q1 q3
      rw [getC_same hg] at q1
      have c1 : ((1 : Nat) : Int) = 1 := rfl
      rw [c1] at q1
      have hm : k + (chg x r).length ≤ n := by
        have h1 := chg_len r x
        have h2 := congrArg List.length hd
        simp at h2
        omega
      have hmi : ((k + (chg x r).length : Nat) : Int) ≤ (n : Int) := by omega
      have hg' : getC (H.set id (.cells g c')) id g = some c' := by simp [getC, hid]
      have hcl := clear_at (zero := [.s (.int .i64 0)]) (off := k + (chg x r).length) (len := n - (k + (chg x r).length)) hg' hb rfl rfl (by omega)
      have hchg : chg (l.getD (k - 1) 0) (x :: r) = chg x r := by simp only [chg, heq, if_true]
      rw [hchg]
      refine .inr ⟨c'.take (k + (chg x r).length) ++ (List.replicate (n - (k + (chg x r).length)) [V.s (.int .i64 0)]).flatten ++ c'.drop (k + (chg x r).length + (n - (k + (chg x r).length))), ?_, ?_, ?_⟩
      · have hmn : ((n : Int) - (k + (chg x r).length : Nat)).toNat = n - (k + (chg x r).length) := by omega
        have hmi' : (k : Int) + ((chg x r).length : Int) ≤ n := by omega
        have hkn : (k : Int) ≤ n := by omega
        have hnk : ((n : Int) - (k : Int)).toNat = n - k := by omega
        have hmz : ((k + (chg x r).length : Nat) : Int) - 0 = (k + (chg x r).length : Nat) := by omega
        rw [itW_step]
        simp only [a_slices_Compact_int_int,s_slices_Compact_int_int_l0_b,s_slices_Compact_int_int_l1_b, am0,am1,am2,am3,am4,am5,am6,am7,bl,i64,reduceIte,reduceCtorEq,Nat.reduceEqDiff,Nat.reduceLT,Nat.reduceLeDiff,Nat.reduceBEq,Nat.reduceAdd,fillA,splice,Nat.reduceMul,al0,al1,al2,al3,al4,al5,al6,al7,al8,al9,al10,al11,al12,al13,al14,al15,al16,al17,al18,al19,al20,al21,al22,al23,al24,al25,al26,al27,al28,al29,al30,al31,al32,al33,al34, hlt', ha1, ha2, hwp, hb1, hb2, heq, trim_same rfl, hkn, hnk, q1, hmi, hmn, hcl, hmz, Int.toNat_natCast, Nat.mul_one, Nat.zero_add, List.set_set, Int.natCast_nonneg]
        rw [trim_same (List.length_set)]
      · simp
        omega
      · rw [List.append_assoc, List.take_append_of_le_length (by simp; omega), List.take_take, Nat.min_self, q3, List.map_append]
        congr 1
        refine List.ext_getElem? fun j => ?_
        by_cases hj : j < k
        · rw [List.getElem?_take_of_lt hj, hr j (by omega), List.getElem?_map, List.getElem?_take_of_lt hj, List.getElem?_eq_getElem (by omega)]
          simp [List.getD, List.getElem?_eq_getElem (show j < l.length by omega)]
        · rw [List.getElem?_eq_none (by simp; omega), List.getElem?_eq_none (by simp; omega)]
    | false =>
      have hchg : chg (l.getD (k - 1) 0) (x :: r) = x :: chg x r := by simp only [chg, heq, Bool.false_eq_true, if_false]
      have hkk : k + 1 - 1 = k := by omega
      rw [hchg]
      have hI := ih (k + 1) hd' (by omega) (by omega)
      rw [hkk, hxD] at hI
      rcases hI with ⟨q, q2⟩ | ⟨c', q1, q2, q3⟩
      · refine .inl ⟨?_, by rw [q2]⟩
        rw [itW_step]
        simp only [a_slices_Compact_int_int,s_slices_Compact_int_int_l0_b,s_slices_Compact_int_int_l1_b, am0,am1,am2,am3,am4,am5,am6,am7,bl,i64,reduceIte,reduceCtorEq,Nat.reduceEqDiff,Nat.reduceLT,Nat.reduceLeDiff,Nat.reduceBEq,Nat.reduceAdd,fillA,splice,Nat.reduceMul,al0,al1,al2,al3,al4,al5,al6,al7,al8,al9,al10,al11,al12,al13,al14,al15,al16,al17,al18,al19,al20,al21,al22,al23,al24,al25,al26,al27,al28,al29,al30,al31,al32,al33,al34, hlt', ha1, ha2, hwp, hb1, hb2, heq, hw2, trim_same rfl]
        exact q
      · have hl2 : k + 1 + (chg x r).length = k + (x :: chg x r).length := by simp; omega
        have hl3 : l.take (k + 1) ++ chg x r = l.take k ++ x :: chg x r := by
          rw [List.take_succ_eq_append_getElem (by omega), List.append_assoc]
          have : l[k] = x := by have := List.getElem?_eq_getElem (l := l) (i := k) (by omega); rw [hx] at this; injection this with h; exact h.symm
          rw [this]; rfl
        rw [hl2] at q1 q3
        rw [hl3] at q3
        refine .inr ⟨c', ?_, q2, q3⟩
        rw [itW_step]
        simp only [a_slices_Compact_int_int,s_slices_Compact_int_int_l0_b,s_slices_Compact_int_int_l1_b, am0,am1,am2,am3,am4,am5,am6,am7,bl,i64,reduceIte,reduceCtorEq,Nat.reduceEqDiff,Nat.reduceLT,Nat.reduceLeDiff,Nat.reduceBEq,Nat.reduceAdd,fillA,splice,Nat.reduceMul,al0,al1,al2,al3,al4,al5,al6,al7,al8,al9,al10,al11,al12,al13,al14,al15,al16,al17,al18,al19,al20,al21,al22,al23,al24,al25,al26,al27,al28,al29,al30,al31,al32,al33,al34, hlt', ha1, ha2, hwp, hb1, hb2, heq, hw2, trim_same rfl]
        exact q1
end Go.Proofs.Ytmnlagcmpgilaaa
namespace Go.AM
def makeV (H : Heap) (zero : List V) (sz bytes : Nat) (a b : V) : Option (V × Heap) :=
  match a, b with
  | .s (.int _ l), .s (.int _ c) => if 0 ≤ l ∧ l ≤ c ∧ c * bytes ≤ 2 ^ 47 then some (.sl H.length 0 0 l.toNat sz, H ++ [.cells 0 (List.replicate l.toNat zero).flatten]) else none
  | _, _ => none
theorem op_mkSl (call : CallF) (base : Nat) (fr : List V) (H : Heap) (zero : List V) (sz bytes : Nat) (x y : Opd) : evOp call base fr H (.mkSl zero sz bytes x y) = makeV H zero sz bytes (ev fr x) (ev fr y) := rfl
theorem make_n {H : Heap} {zero : List V} {sz bytes : Nat} {k k' : IntKind} {n : Nat} (h : n * bytes ≤ 2 ^ 47) : makeV H zero sz bytes (.s (.int k n)) (.s (.int k' n)) = some (.sl H.length 0 0 n sz, H ++ [.cells 0 (List.replicate n zero).flatten]) := by
  have h1 : (n : Int) * (bytes : Int) ≤ 2 ^ 47 := by exact_mod_cast h
  have h2 : (0 : Int) ≤ n ∧ (n : Int) ≤ n ∧ (n : Int) * (bytes : Int) ≤ 2 ^ 47 := ⟨by omega, by omega, h1⟩
  simp only [makeV, h2, and_self, if_true, Int.toNat_natCast]
theorem xsub_mkFn (H : Heap) (f : Nat) (a b : List Opd) (vs : List V) : xSub H (.mkFn f a b) (some vs) = some (.fn f (a.map (ev vs)) (b.map (ev vs))) := rfl
theorem trim_le {m : Nat} {fr : List V} {H : Heap} (h : m ≤ H.length) : m ≤ (trim m fr H).length := by
  rcases trim_or m fr H with e | ⟨e, _⟩ <;> rw [e]
  · exact h
  · rw [List.length_take]; omega
theorem flat_one (n : Nat) (x : V) : (List.replicate n [x]).flatten = List.replicate n x := by
  induction n with
  | zero => rfl
  | succ n ih => simp [List.replicate_succ, ih]
theorem trim_or' (m : Nat) (fr : List V) (H : Heap) : trim m fr H = H ∨ (trim m fr H = H.take m ∧ (∀ v ∈ fr, idsUnder m 8 v = true) ∧ ∀ id g c, id < m → getC H id g = some c → ∀ i h o n z, V.sl i h o n z ∈ c → i < m) := by
  unfold trim
  split
  · rename_i h
    simp only [Bool.and_eq_true, List.all_eq_true] at h
    refine .inr ⟨rfl, h.1, ?_⟩
    intro id g c hid hc i h' o n z hx
    unfold getC at hc
    split at hc
    · rename_i g' c' hh
      split at hc
      · cases hc
        have hm : Ob.cells g' c ∈ H.take m := by
          have : (H.take m)[id]? = some (Ob.cells g' c) := by rw [List.getElem?_take_of_lt hid]; exact hh
          exact List.mem_of_getElem? this
        have := h.2 _ hm
        simp only [Ob.under, List.all_eq_true] at this
        have := this _ hx
        simpa [idsUnder] using this
      · cases hc
    · cases hc
  · exact .inl rfl
theorem trim_get {m : Nat} {fr : List V} {H : Heap} {id g : Nat} {c : List V} (hc : getC H id g = some c) (hid : id < m) : getC (trim m fr H) id g = some c := by
  rcases trim_or' m fr H with e | ⟨e, _⟩ <;> rw [e]
  · exact hc
  · unfold getC at hc ⊢
    rw [List.getElem?_take_of_lt hid]; exact hc
def OwnN (m : Nat) (H : Heap) (v : V) (l : List V) : Prop := (l = [] ∧ (v = nilS ∨ v = .esl)) ∨ ∃ id g c, v = .sl id g 0 l.length 1 ∧ getC H id g = some c ∧ l.length ≤ c.length ∧ c.take l.length = l ∧ m ≤ id
theorem OwnN.rd {m : Nat} {H : Heap} {v : V} {l : List V} (h : OwnN m H v l) : Rd H v l := by
  rcases h with ⟨rfl, rfl | rfl⟩ | ⟨id, g, c, rfl, hc, hl, ht, _⟩
  · exact Rd.nil H
  · exact Rd.esl H
  · have := Rd.sl hc (off := 0) (n := l.length) (by omega)
    rwa [List.drop_zero, ht] at this
theorem OwnN.wide {m : Nat} {H : Heap} {v : V} {l : List V} (h : OwnN m H v l) : Wide1 v := by
  rcases h with ⟨_, rfl | rfl⟩ | ⟨_, _, _, rfl, _⟩ <;> trivial
theorem OwnN.one {m : Nat} {H : Heap} {v : V} {l : List V} (h : OwnN m H v l) : v.one = true := h.rd.one
theorem OwnN.mono {m k : Nat} {H : Heap} {v : V} {l : List V} (h : OwnN m H v l) (hk : k ≤ m) : OwnN k H v l := by
  rcases h with h | ⟨id, g, c, h1, h2, h3, h4, h5⟩
  · exact .inl h
  · exact .inr ⟨id, g, c, h1, h2, h3, h4, by omega⟩
theorem OwnN.ext {m : Nat} {H H' : Heap} {v : V} {l : List V} (h : OwnN m H v l) (k : Ext H H') : OwnN m H' v l := by
  rcases h with h | ⟨id, g, c, h1, h2, h3, h4, h5⟩
  · exact .inl h
  · exact .inr ⟨id, g, c, h1, getC_ext h2 k, h3, h4, h5⟩
theorem getC_other {H : Heap} {id id' g : Nat} {ob : Ob} (h : id ≠ id') : getC (H.set id' ob) id g = getC H id g := by
  simp only [getC, List.getElem?_set_ne (Ne.symm h)]
theorem OwnN.set {m : Nat} {H : Heap} {v : V} {l : List V} (h : OwnN m H v l) {id : Nat} (hid : id < m) (ob : Ob) : OwnN m (H.set id ob) v l := by
  rcases h with h | ⟨i, g, c, h1, h2, h3, h4, h5⟩
  · exact .inl h
  · exact .inr ⟨i, g, c, h1, by rw [getC_other (by omega)]; exact h2, h3, h4, h5⟩
theorem OwnN.trim {m L : Nat} {H : Heap} {v : V} {l : List V} (h : OwnN m H v l) {id g : Nat} {c : List V} (hc : getC H id g = some c) (hid : id < L) (hv : v ∈ c) (fr : List V) : OwnN m (trim L fr H) v l := by
  rcases h with h | ⟨i, g', c', rfl, h2, h3, h4, h5⟩
  · exact .inl h
  · refine .inr ⟨i, g', c', rfl, ?_, h3, h4, h5⟩
    rcases trim_or' L fr H with e | ⟨e, _, hu⟩
    · rw [e]; exact h2
    · exact trim_get h2 (hu _ _ _ hid hc _ _ _ _ _ hv)
theorem getC_sl {H : Heap} {id g : Nat} {c : List V} (h : getC H id g = some c) : Rd H (.sl id g 0 c.length 1) c := by
  have := Rd.sl h (off := 0) (n := c.length) (by omega)
  rwa [List.drop_zero, List.take_length] at this
theorem getC_put {H : Heap} {id g : Nat} {c c' : List V} (h : getC H id g = some c) : getC (H.set id (.cells g c')) id g = some c' := getC_set h _
theorem at_sl {H : Heap} {id g n j : Nat} {c : List V} {w : V} (hc : getC H id g = some c) (hj : j < n) (hw : c[j]? = some w) : xIndexAddr 1 (.sl id g 0 n 1) (.s (.int .i64 j)) = some (.ref id g j) ∧ xLoad H false 1 (.ref id g j) = some w := by
  have h1 : (0 : Int) ≤ j ∧ (j : Int) < n ∧ 1 = 1 := ⟨by omega, by omega, rfl⟩
  have hl := (List.getElem?_eq_some_iff.1 hw).1
  refine ⟨by simp only [xi_sl, h1, and_self, if_true, Int.toNat_natCast, Nat.mul_one, Nat.zero_add], ?_⟩
  have ht : (c.drop j).take 1 = [w] := by
    rw [List.drop_eq_getElem_cons hl, List.take_succ_cons, List.take_zero]
    rw [List.getElem?_eq_getElem hl] at hw
    cases hw; rfl
  simp only [xo_ref, hc, ht, List.length_singleton, if_true, shut_one]
def RdRows (H : Heap) (v : V) (R : List (List V)) : Prop := ∃ vs, Rd H v vs ∧ Wide1 v ∧ vs.length = R.length ∧ ∀ (i : Nat) (r : List V), R[i]? = some r → ∃ x, vs[i]? = some x ∧ Rd H x r ∧ Wide1 x
theorem RdRows.ext {H H' : Heap} {v : V} {R : List (List V)} (h : RdRows H v R) (k : Ext H H') : RdRows H' v R := by
  obtain ⟨vs, h1, h2, h3, h4⟩ := h
  refine ⟨vs, h1.ext k, h2, h3, fun i r hr => ?_⟩
  obtain ⟨x, q1, q2, q3⟩ := h4 i r hr
  exact ⟨x, q1, q2.ext k, q3⟩
theorem RdRows.len {H : Heap} {v : V} {R : List (List V)} (h : RdRows H v R) : xLen H .s v = some (.s (.int .i64 R.length)) := by
  obtain ⟨vs, h1, _, h3, _⟩ := h
  rw [h1.len, h3]
theorem RdRows.at {H : Heap} {v : V} {R : List (List V)} (h : RdRows H v R) {i : Nat} {r : List V} (hr : R[i]? = some r) : ∃ a x, xIndexAddr 1 v (.s (.int .i64 i)) = some a ∧ xLoad H false 1 a = some x ∧ Rd H x r ∧ Wide1 x := by
  obtain ⟨vs, h1, h2, _, h4⟩ := h
  obtain ⟨x, q1, q2, q3⟩ := h4 i r hr
  obtain ⟨a, e1, e2⟩ := h1.at' h2 q1
  exact ⟨a, x, e1, e2, q2, q3⟩
def OwnRows (m : Nat) (H : Heap) (v : V) (R : List (List V)) : Prop := ∃ id g vs, v = .sl id g 0 R.length 1 ∧ getC H id g = some vs ∧ m ≤ id ∧ vs.length = R.length ∧ ∀ (i : Nat) (r : List V), R[i]? = some r → ∃ x, vs[i]? = some x ∧ OwnN (id + 1) H x r
theorem OwnRows.rd {m : Nat} {H : Heap} {v : V} {R : List (List V)} (h : OwnRows m H v R) : RdRows H v R := by
  obtain ⟨id, g, vs, rfl, h2, _, h4, h5⟩ := h
  refine ⟨vs, by rw [← h4]; exact getC_sl h2, trivial, h4, fun i r hr => ?_⟩
  obtain ⟨x, q1, q2⟩ := h5 i r hr
  exact ⟨x, q1, q2.rd, q2.wide⟩
theorem OwnRows.ext {m : Nat} {H H' : Heap} {v : V} {R : List (List V)} (h : OwnRows m H v R) (k : Ext H H') : OwnRows m H' v R := by
  obtain ⟨id, g, vs, h1, h2, h3, h4, h5⟩ := h
  refine ⟨id, g, vs, h1, getC_ext h2 k, h3, h4, fun i r hr => ?_⟩
  obtain ⟨x, q1, q2⟩ := h5 i r hr
  exact ⟨x, q1, q2.ext k⟩
end Go.AM
set_option maxRecDepth 100000
namespace Go.Proofs.Ytmnlagcmpgilaaa
open Go.AM
theorem map_get {l : List Int} {j : Nat} (hj : j < l.length) : (l.map iV)[j]? = some (iV (l.getD j 0)) := by
  rw [List.getElem?_map, List.getElem?_eq_getElem hj]
  simp [List.getD, List.getElem?_eq_getElem hj]
theorem compact_own {CT : Nat → Option CFun} (hT : CT k_slices_Compact_int_int = some (.code s_slices_Compact_int_int)) (base m : Nat) (H : Heap) (v : V) (l : List Int) (hv : OwnN m H v (l.map iV)) (hb : base ≤ m) (hn : l.length < 2 ^ 62) :
    ∃ v' H', callW CT (.fn k_slices_Compact_int_int [] []) [v] base H = some (v', H') ∧ OwnN m H' v' ((compactZ l).map iV) ∧ ∀ H0, H0.length ≤ m → Ext H0 H → Ext H0 H' := by
  by_cases h2 : l.length < 2
  · refine ⟨v, H, ?_, ?_, fun _ _ h => h⟩
    · refine callW_fn (c := s_slices_Compact_int_int) hT (by simp [s_slices_Compact_int_int]) ?_
      have h2' : ((l.length : Nat) : Int) < 2 := by omega
      simp only [s_slices_Compact_int_int, a_slices_Compact_int_int,s_slices_Compact_int_int_l0_b,s_slices_Compact_int_int_l1_b, am0,am1,am2,am3,am4,am5,am6,am7,bl,i64,reduceIte,reduceCtorEq,Nat.reduceEqDiff,Nat.reduceLT,Nat.reduceLeDiff,Nat.reduceBEq,Nat.reduceAdd,fillA,splice,Nat.reduceMul,al0,al1,al2,al3,al4,al5,al6,al7,al8,al9,al10,al11,al12,al13,al14,al15,al16,al17,al18,al19,al20,al21,al22,al23,al24,al25,al26,al27,al28,al29,al30,al31,al32,al33,al34, hv.rd.len, List.length_map, h2']
    · match l, h2 with
      | [], _ => exact hv
      | [x], _ => exact hv
  · rcases hv with ⟨h, _⟩ | ⟨id, g, c, rfl, hc, hl, ht, hid⟩
    · have := congrArg List.length h
      simp at this
      subst this
      simp at h2
    · rw [List.length_map] at hl ht ⊢
      have hr : ∀ j, j < l.length → c[j]? = some (iV (l.getD j 0)) := fun j hj => by
        rw [← map_get hj, ← ht, List.getElem?_take_of_lt hj]
      have hlt := getC_lt hc
      match l, h2, hr, hl, ht, hn with
      | [], h2, _, _, _, _ => simp at h2
      | x :: r, h2, hr, hl, ht, hn =>
        have ho := compact_outer (callW CT) base id g (x :: r).length (x :: r) rfl (by omega) hn H hlt c hl hc hr r 1 rfl (Nat.le_refl _) (by simp)
        have e0 : (x :: r).getD (1 - 1) 0 = x := rfl
        rw [e0] at ho
        have c1 : ((1 : Nat) : Int) = 1 := rfl
        rw [c1, List.length_cons] at ho
        have h2' : ¬ ((r.length + 1 : Nat) : Int) < 2 := by simp at h2; omega
        rcases ho with ⟨q, hq⟩ | ⟨c', q, q2, q3⟩
        · refine ⟨.sl id g 0 (x :: r).length 1, H, ?_, ?_, fun _ _ h => h⟩
          · refine callW_fn (c := s_slices_Compact_int_int) hT (by simp [s_slices_Compact_int_int]) ?_
            simp only [s_slices_Compact_int_int, a_slices_Compact_int_int,s_slices_Compact_int_int_l0_b,s_slices_Compact_int_int_l1_b, am0,am1,am2,am3,am4,am5,am6,am7,bl,i64,reduceIte,reduceCtorEq,Nat.reduceEqDiff,Nat.reduceLT,Nat.reduceLeDiff,Nat.reduceBEq,Nat.reduceAdd,fillA,splice,Nat.reduceMul,al0,al1,al2,al3,al4,al5,al6,al7,al8,al9,al10,al11,al12,al13,al14,al15,al16,al17,al18,al19,al20,al21,al22,al23,al24,al25,al26,al27,al28,al29,al30,al31,al32,al33,al34, h2', q]
          · rw [show compactZ (x :: r) = x :: r by simp only [compactZ, hq]]
            exact .inr ⟨id, g, c, by rw [List.length_map], hc, by rw [List.length_map]; exact hl, by rw [List.length_map]; exact ht, hid⟩
        · refine ⟨.sl id g 0 (1 + (chg x r).length) 1, H.set id (.cells g c'), ?_, ?_, fun H0 h0 h => h.set (by omega) _⟩
          · refine callW_fn (c := s_slices_Compact_int_int) hT (by simp [s_slices_Compact_int_int]) ?_
            simp only [s_slices_Compact_int_int, a_slices_Compact_int_int,s_slices_Compact_int_int_l0_b,s_slices_Compact_int_int_l1_b, am0,am1,am2,am3,am4,am5,am6,am7,bl,i64,reduceIte,reduceCtorEq,Nat.reduceEqDiff,Nat.reduceLT,Nat.reduceLeDiff,Nat.reduceBEq,Nat.reduceAdd,fillA,splice,Nat.reduceMul,al0,al1,al2,al3,al4,al5,al6,al7,al8,al9,al10,al11,al12,al13,al14,al15,al16,al17,al18,al19,al20,al21,al22,al23,al24,al25,al26,al27,al28,al29,al30,al31,al32,al33,al34, h2', q]
          · have hcl := chg_len r x
            refine .inr ⟨id, g, c', ?_, getC_put hc, ?_, ?_, hid⟩
            · simp [compactZ]; omega
            · simp [compactZ] at hl ⊢; omega
            · have : ((compactZ (x :: r)).map iV).length = 1 + (chg x r).length := by simp [compactZ]; omega
              rw [this, q3]; rfl
theorem sort_own {CT : Nat → Option CFun} (hT : CT k_slices_Sort_int_int = some (.prim sortG)) (base m : Nat) (H : Heap) (v : V) (l : List Int) (hv : OwnN m H v (l.map iV)) (hb : base ≤ m) (hn : l.length < 2 ^ 62) :
    ∃ H', callW CT (.fn k_slices_Sort_int_int [] []) [v] base H = some (und, H') ∧ OwnN m H' v ((sortZ l).map iV) ∧ ∀ H0, H0.length ≤ m → Ext H0 H → Ext H0 H' := by
  have hp : ∀ r, sortG [v] base H = some r → callW CT (.fn k_slices_Sort_int_int [] []) [v] base H = some r := fun r hr => callW_eq (by simp only [evCall, hT, List.nil_append, List.append_nil]; exact hr)
  have hsl : (sortZ l).length = l.length := by rw [sortZ, List.length_mergeSort]
  have hnil : l = [] → sortZ l = [] := fun h => by subst h; simp [sortZ]
  rcases hv with ⟨h, hv⟩ | ⟨id, g, c, rfl, hc, hl, ht, hid⟩
  · have h' : l = [] := by simpa using h
    refine ⟨H, hp _ ?_, .inl ⟨by rw [hnil h']; rfl, hv⟩, fun _ _ h => h⟩
    rcases hv with rfl | rfl <;> rfl
  · rw [List.length_map] at hl ht
    by_cases h0 : l.length = 0
    · have h' : l = [] := List.eq_nil_of_length_eq_zero h0
      refine ⟨H, hp _ ?_, .inr ⟨id, g, c, by simp [hsl], hc, by simp [hsl]; exact hl, by simp [hnil h'], hid⟩, fun _ _ h => h⟩
      simp only [sortG, List.length_map, h0, if_true]
    · refine ⟨H.set id (.cells g (splice c 0 ((sortZ l).map iV))), hp _ ?_, .inr ⟨id, g, _, by simp [hsl], getC_put hc, ?_, ?_, hid⟩, fun H0 h0 h => h.set (by omega) _⟩
      · have h1 : base ≤ id ∧ 1 = 1 ∧ l.length < 4611686018427387904 := ⟨by omega, rfl, hn⟩
        have h3 : 0 + l.length ≤ c.length := by omega
        simp only [sortG, List.length_map, h0, if_false, h1, and_self, if_true, hc, List.drop_zero, ht, intsOf_map, h3]
      · simp [splice, hsl]
      · simp [splice, hsl]
end Go.Proofs.Ytmnlagcmpgilaaa
set_option maxRecDepth 100000
namespace Go.Proofs.Ytmnlagcmpgilaaa
open Go.AM
def New (m : Nat) (H : Heap) (v : V) (l : List Int) : Prop := (l = [] ∧ (v = nilS ∨ v = .esl)) ∨ ∃ id, v = .sl id 0 0 l.length 1 ∧ getC H id 0 = some (l.map iV) ∧ m ≤ id
def pV (p : Int → Bool) : V → Bool
  | .s (.int _ k) => p k
  | _ => false
theorem filter_iV (p : Int → Bool) (l : List Int) : (l.map iV).filter (fun x => !pV p x) = (l.filter fun k => !p k).map iV := by
  rw [List.filter_map]; rfl
theorem delete_own {CT : Nat → Option CFun} (hT : CT k_slices_DeleteFunc_int_int = some (.code s_slices_DeleteFunc_int_int)) (hT2 : CT k_slices_IndexFunc_int_int = some (.code s_slices_IndexFunc_int_int))
    (base m : Nat) (H : Heap) (f v : V) (l : List Int) (hv : New m H v l) (hb : base ≤ m) (hn : l.length < 2 ^ 62) (p : Int → Bool)
    (hp : ∀ H' k, (∀ i, i < m → H'[i]? = H[i]?) → callW CT f [iV k] base H' = some (.s (.bool (p k)), H')) :
    ∃ v' H', callW CT (.fn k_slices_DeleteFunc_int_int [] []) [v, f] base H = some (v', H') ∧ OwnN m H' v' ((l.filter fun k => !p k).map iV) ∧ ∀ H0, H0.length ≤ m → Ext H0 H → Ext H0 H' := by
  rcases hv with ⟨rfl, hv⟩ | ⟨id, rfl, hc, hid⟩
  · have hrd : Rd H v [] := by rcases hv with rfl | rfl <;> first | exact Rd.nil H | exact Rd.esl H
    have hw : Wide1 v := by rcases hv with rfl | rfl <;> trivial
    have hix := index_fun hT2 base H v f [] hrd hw (by simp) (fun _ => false) (fun x hx => absurd hx List.not_mem_nil)
    refine ⟨v, H, ?_, .inl ⟨rfl, hv⟩, fun _ _ h => h⟩
    refine callW_fn (c := s_slices_DeleteFunc_int_int) hT (by simp [s_slices_DeleteFunc_int_int]) ?_
    simp only [idx] at hix
    simp only [s_slices_DeleteFunc_int_int, a_slices_DeleteFunc_int_int,s_slices_DeleteFunc_int_int_l0_b, am0,am1,am2,am3,am4,am5,am6,am7,bl,i64,reduceIte,reduceCtorEq,Nat.reduceEqDiff,Nat.reduceLT,Nat.reduceLeDiff,Nat.reduceBEq,Nat.reduceAdd,fillA,splice,Nat.reduceMul,al0,al1,al2,al3,al4,al5,al6,al7,al8,al9,al10,al11,al12,al13,al14,al15,al16,al17,al18,al19,al20,al21,al22,al23,al24,al25,al26,al27,al28,al29,al30,al31,al32,al33,al34, hix, idxV]
  · obtain ⟨c', q1, q2, q3⟩ := delete_fun hT hT2 base H f id 0 l.length (l.map iV) hc (by simp) (fun x => ∃ k, x = iV k) (by rintro _ ⟨k, rfl⟩; rfl) (by intro x hx; obtain ⟨k, _, rfl⟩ := List.mem_map.1 hx; exact ⟨k, rfl⟩) (by omega) hn (pV p)
      (by
        rintro _ ⟨k, rfl⟩ c _
        exact hp _ k fun i hi => by rw [List.getElem?_set_ne (by omega)])
    rw [filter_iV] at q1 q3
    have hfl := List.length_filter_le (fun k => !p k) l
    exact ⟨_, _, q1, .inr ⟨id, 0, c', rfl, getC_put hc, by rw [List.length_map]; omega, q3, hid⟩, fun H0 h0 h => h.set (by omega) _⟩
def outR (n : Int) (k : Int) : Bool := decide (k < 0) || decide (k ≥ n)
def normR (n : Int) (r : List Int) : List Int := compactZ (sortZ (r.filter fun k => !outR n k))
def normG (G : List (List Int)) : List (List Int) := G.map (normR G.length)
def rowsV (G : List (List Int)) : List (List V) := G.map (·.map iV)
theorem rowsV_get {G : List (List Int)} {i : Nat} {r : List Int} (h : G[i]? = some r) : (rowsV G)[i]? = some (r.map iV) := by rw [rowsV, List.getElem?_map, h]; rfl
theorem rowsV_len (G : List (List Int)) : (rowsV G).length = G.length := by simp [rowsV]
theorem norm_loop {CT : Nat → Option CFun} (hC : CT k_slices_Clone_int_int = some (.code s_slices_Clone_int_int)) (hD : CT k_slices_DeleteFunc_int_int = some (.code s_slices_DeleteFunc_int_int)) (hI : CT k_slices_IndexFunc_int_int = some (.code s_slices_IndexFunc_int_int)) (hS : CT k_slices_Sort_int_int = some (.prim sortG)) (hK : CT k_slices_Compact_int_int = some (.code s_slices_Compact_int_int)) (hN : CT k_graph_Norm_1 = some (.code s_graph_Norm_1))
    (base : Nat) (v : V) (G : List (List Int)) (bx id L : Nat) (H0 : Heap) (hv : RdRows H0 v (rowsV G)) (hb : base ≤ H0.length) (hn : G.length < 2 ^ 40) (hr : ∀ r ∈ G, r.length < 2 ^ 40) (h1 : H0.length ≤ bx) (h2 : bx < id) (h3 : id < L) :
    ∀ (k i : Nat) (H : Heap) (vs : List V), i + k = G.length → Ext H0 H → L ≤ H.length → getC H bx 0 = some [v] → getC H id 0 = some vs → vs.length = G.length → (∀ (j : Nat) (r : List Int), j < i → G[j]? = some r → ∃ x, vs[j]? = some x ∧ OwnN (id + 1) H x ((normR G.length r).map iV)) →
    ∃ H' vs', itW (evC (callW CT) itW base s_graph_Norm_l0) [] L (frOf 30 [(1, .ref bx 0 0), (3, .sl id 0 0 G.length 1), (10, v), (11, .s (.int .i64 G.length)), (12, .s (.int .i64 i))]) H =
      some (.ext 0, frOf 30 [(1, .ref bx 0 0), (3, .sl id 0 0 G.length 1), (10, v), (11, .s (.int .i64 G.length)), (12, .s (.int .i64 G.length)), (13, .s (.bool false))], H') ∧
      Ext H0 H' ∧ getC H' id 0 = some vs' ∧ vs'.length = G.length ∧ (∀ (j : Nat) (r : List Int), G[j]? = some r → ∃ x, vs'[j]? = some x ∧ OwnN (id + 1) H' x ((normR G.length r).map iV)) := by
  intro k
  induction k with
  | zero =>
    intro i H vs hi he hL hbx hid hlen hrows
    obtain rfl : i = G.length := by omega
    refine ⟨trim L (frOf 30 [(1, .ref bx 0 0), (3, .sl id 0 0 G.length 1), (10, v), (11, .s (.int .i64 G.length)), (12, .s (.int .i64 G.length)), (13, .s (.bool false))]) H, vs, ?_, he.trim (by omega) _, trim_get hid h3, hlen, fun j r hj => ?_⟩
    · rw [itW_step]
      simp only [a_graph_Norm,s_graph_Norm_l0_b, am0,am1,am2,am3,am4,am5,am6,am7,bl,i64,reduceIte,reduceCtorEq,Nat.reduceEqDiff,Nat.reduceLT,Nat.reduceLeDiff,Nat.reduceBEq,Nat.reduceAdd,fillA,splice,Nat.reduceMul,al0,al1,al2,al3,al4,al5,al6,al7,al8,al9,al10,al11,al12,al13,al14,al15,al16,al17,al18,al19,al20,al21,al22,al23,al24,al25,al26,al27,al28,al29,al30,al31,al32,al33,al34, Int.lt_irrefl]
    · obtain ⟨x, q1, q2⟩ := hrows j r (List.getElem?_eq_some_iff.1 hj).1 hj
      exact ⟨x, q1, q2.trim hid h3 (List.mem_of_getElem? q1) _⟩
  | succ k ih =>
    intro i H vs hi he hL hbx hid hlen hrows
    have hig : G[i]? = some G[i] := List.getElem?_eq_getElem (by omega)
    have hrl := hr _ (List.getElem_mem (by omega : i < G.length))
    have hH0 := he.le
    obtain ⟨a, x, ha1, ha2, hx, hxw⟩ := (hv.ext he).at (rowsV_get hig)
    obtain ⟨r1, H1, q1, e1, o1⟩ := clone_fun hC base H x G[i] hx (by omega)
    have hnew : New H.length H1 r1 G[i] := o1
    have hiH : id < H.length := getC_lt hid
    obtain ⟨v2, H2, q2, o2, e2⟩ := delete_own hD hI base H.length H1 (.fn k_graph_Norm_1 [] [.ref bx 0 0]) r1 G[i] hnew (by omega) (by omega) (outR G.length) (by
      intro H' k hk
      have hk' : ∀ i, i < H.length → H'[i]? = H[i]? := fun i hi => by rw [hk i hi, e1.get hi]
      have hbx' : getC H' bx 0 = some [v] := by rw [← hbx]; simp only [getC, hk' bx (by omega)]
      have heH : Ext H0 H' := Ext.of_get (by
        refine Nat.le_of_not_lt fun hlt => ?_
        have h1 := hk' H'.length (by omega)
        rw [List.getElem?_eq_none (Nat.le_refl _), List.getElem?_eq_getElem (by omega)] at h1
        cases h1) (fun i hi => by rw [hk' i (by omega), he.get hi])
      exact norm1_fun hN base H' bx v hbx' G.length (by rw [← rowsV_len G]; exact (hv.ext heH).len) k)
    have e2' := e2 H (Nat.le_refl _) e1
    have hfl := List.length_filter_le (fun k => !outR G.length k) G[i]
    obtain ⟨H3, q3, o3, e3⟩ := sort_own hS base H.length H2 v2 _ o2 (by omega) (by omega)
    have e3' := e3 H (Nat.le_refl _) e2'
    have hsl : (sortZ (G[i].filter fun k => !outR G.length k)).length = (G[i].filter fun k => !outR G.length k).length := by rw [sortZ, List.length_mergeSort]
    obtain ⟨v4, H4, q4, o4, e4⟩ := compact_own hK base H.length H3 v2 _ o3 (by omega) (by omega)
    have e4' := e4 H (Nat.le_refl _) e3'
    have hid4 := getC_ext hid e4'
    have hst := storeV_at (v := v4) hid4 (by omega) o4.one (off := i) (base := base) (by omega)
    have hw := wrap_pos (n := i) (by omega)
    have hlt' : (i : Int) < (G.length : Int) := by omega
    have hid5 := getC_put (c' := vs.set i v4) hid4
    obtain ⟨H', vs', p1, p2, p3, p4, p5⟩ := ih (i + 1) (trim L (frOf 30 [(1, .ref bx 0 0), (3, .sl id 0 0 G.length 1), (10, v), (11, .s (.int .i64 G.length)), (12, .s (.int .i64 ((i + 1 : Nat) : Int)))]) (H4.set id (.cells 0 (vs.set i v4)))) (vs.set i v4) (by omega) (((he.trans e4').set (by omega) _).trim (by omega) _) (trim_le (by rw [List.length_set]; have := e4'.le; omega)) (trim_get (by rw [getC_other (by omega)]; exact getC_ext hbx e4') (by omega)) (trim_get hid5 h3) (by rw [List.length_set]; exact hlen) (by
      intro j r hj hr
      by_cases hji : j = i
      · subst hji
        rw [hig] at hr
        cases hr
        have hg : (vs.set j v4)[j]? = some v4 := by rw [List.getElem?_set_self (by omega)]
        exact ⟨v4, hg, ((o4.mono (by omega : id + 1 ≤ H.length)).set (by omega) _).trim hid5 h3 (List.mem_of_getElem? hg) _⟩
      · obtain ⟨x, q1, q2⟩ := hrows j r (by omega) hr
        have hg : (vs.set i v4)[j]? = some x := by rw [List.getElem?_set_ne (by omega)]; exact q1
        exact ⟨x, hg, ((q2.ext e4').set (by omega) _).trim hid5 h3 (List.mem_of_getElem? hg) _⟩)
    refine ⟨H', vs', ?_, p2, p3, p4, p5⟩
    rw [itW_step]
    simp only [a_graph_Norm,s_graph_Norm_l0_b, am0,am1,am2,am3,am4,am5,am6,am7,bl,i64,reduceIte,reduceCtorEq,Nat.reduceEqDiff,Nat.reduceLT,Nat.reduceLeDiff,Nat.reduceBEq,Nat.reduceAdd,fillA,splice,Nat.reduceMul,al0,al1,al2,al3,al4,al5,al6,al7,al8,al9,al10,al11,al12,al13,al14,al15,al16,al17,al18,al19,al20,al21,al22,al23,al24,al25,al26,al27,al28,al29,al30,al31,al32,al33,al34, hlt', ha1, ha2, q1, q2, q3, q4, hst, hw, xsub_mkFn]
    exact p1
theorem norm_fun {CT : Nat → Option CFun} (hT : CT k_graph_Norm = some (.code s_graph_Norm)) (hC : CT k_slices_Clone_int_int = some (.code s_slices_Clone_int_int)) (hD : CT k_slices_DeleteFunc_int_int = some (.code s_slices_DeleteFunc_int_int)) (hI : CT k_slices_IndexFunc_int_int = some (.code s_slices_IndexFunc_int_int)) (hS : CT k_slices_Sort_int_int = some (.prim sortG)) (hK : CT k_slices_Compact_int_int = some (.code s_slices_Compact_int_int)) (hN : CT k_graph_Norm_1 = some (.code s_graph_Norm_1))
    (base : Nat) (H : Heap) (v : V) (G : List (List Int)) (hv : RdRows H v (rowsV G)) (hb : base ≤ H.length) (hn : G.length < 2 ^ 40) (hr : ∀ r ∈ G, r.length < 2 ^ 40) :
    ∃ v' H', callW CT (.fn k_graph_Norm [] []) [v] base H = some (v', H') ∧ Ext H H' ∧ OwnRows H.length H' v' (rowsV (normG G)) := by
  have hone : v.one = true := by obtain ⟨vs, h, _⟩ := hv; exact h.one
  have hlen : xLen (H ++ [.cells 0 [v]]) .s v = some (.s (.int .i64 G.length)) := by rw [← rowsV_len G]; exact (hv.ext (Ext.app _ _)).len
  have hlen2 : xLen (H ++ [.cells 0 [v]] ++ [.cells 0 (List.replicate G.length [nilS]).flatten]) .s v = some (.s (.int .i64 G.length)) := by rw [← rowsV_len G]; exact ((hv.ext (Ext.app _ _)).ext (Ext.app _ _)).len
  have hmk := make_n (H := H ++ [.cells 0 [v]]) (zero := [nilS]) (sz := 1) (bytes := 24) (k := .i64) (k' := .i64) (n := G.length) (by omega)
  obtain ⟨H', vs, p1, p2, p3, p4, p5⟩ := norm_loop hC hD hI hS hK hN base v G H.length (H.length + 1) (H.length + 2) H hv hb hn hr (Nat.le_refl _) (by omega) (by omega) G.length 0 (H ++ [.cells 0 [v]] ++ [.cells 0 (List.replicate G.length [nilS]).flatten]) (List.replicate G.length nilS) (by omega) ⟨[.cells 0 [v], .cells 0 (List.replicate G.length [nilS]).flatten], by simp⟩ (by simp) (by simp [getC]) (by rw [flat_one]; simp [getC]) (by simp) (fun j r hj => by omega)
  rw [cast0] at p1
  simp only [nilS] at hmk p1 hlen2
  refine ⟨.sl (H.length + 1) 0 0 G.length 1, H', callW_fnA (c := s_graph_Norm) (k := 1) hT rfl (by decide) s_graph_Norm_first ?_, p2, H.length + 1, 0, vs, by rw [rowsV_len]; simp [normG], p3, by omega, by rw [rowsV_len]; simp [normG, p4], ?_⟩
  · simp only [s_graph_Norm, a_graph_Norm,s_graph_Norm_l0_b, am0,am1,am2,am3,am4,am5,am6,am7,bl,i64,reduceIte,reduceCtorEq,Nat.reduceEqDiff,Nat.reduceLT,Nat.reduceLeDiff,Nat.reduceBEq,Nat.reduceAdd,fillA,splice,Nat.reduceMul,al0,al1,al2,al3,al4,al5,al6,al7,al8,al9,al10,al11,al12,al13,al14,al15,al16,al17,al18,al19,al20,al21,al22,al23,al24,al25,al26,al27,al28,al29,al30,al31,al32,al33,al34, cells_of_one hone, hone, hlen, hlen2, op_mkSl, hmk, p1]
  · intro j r hj
    rw [rowsV, normG, List.map_map, List.getElem?_map, Option.map_eq_some_iff] at hj
    obtain ⟨g, hg, rfl⟩ := hj
    exact p5 j g hg
end Go.Proofs.Ytmnlagcmpgilaaa
