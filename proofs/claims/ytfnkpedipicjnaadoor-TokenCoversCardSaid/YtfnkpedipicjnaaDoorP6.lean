/- Texts of the proof: TokS2, TokR1, TokR2, TokR3, TokR4, TokL1. -/
import Derived.Test.YtfnkpedipicjnaaDoorP0
import Derived.Test.YtfnkpedipicjnaaDoorP1
import Derived.Test.YtfnkpedipicjnaaDoorP2
import Derived.Test.YtfnkpedipicjnaaDoorP3
import Derived.Test.YtfnkpedipicjnaaDoorP4
import Derived.Test.YtfnkpedipicjnaaDoorP5
set_option linter.all false
set_option maxRecDepth 100000
namespace Go.Proofs.YtfnkpedipicjnaaDoor
open Go.AM
abbrev k_gnomonlaw03_TokenLexes : Nat := 3
def s_gnomonlaw03_TokenLexes_r0_k : List Nat := [1, 2, 3, 4, 5, 6, 7, 8, 9, 10, 11, 12, 13, 14, 15, 16, 17, 18, 19, 20, 21, 22, 23, 24, 25, 26, 27, 28, 29, 30, 31, 32, 33, 34, 35, 36, 37, 38, 39, 40, 41, 42, 43, 44]
theorem s_gnomonlaw03_TokenLexes_r0_kT : killV s_gnomonlaw03_TokenLexes_r0_k (startV 45 [] 1) = [] := by kernel_rfl
theorem s_gnomonlaw03_TokenLexes_r0_kA0 : s_gnomonlaw03_TokenLexes_r0_k.contains 0 = false := by kernel_rfl
def s_gnomonlaw03_TokenLexes_r0 : List AOper := [
  ⟨some 2, (.move (.c (.s (.bool false)))), none⟩]
theorem s_gnomonlaw03_TokenLexes_r0_tale (fr : List V) (H : Heap) : evTale (symAll s_gnomonlaw03_TokenLexes_r0 s_gnomonlaw03_TokenLexes_r0_k []) s_gnomonlaw03_TokenLexes_r0_k fr H = evTale (some (3, [], [])) s_gnomonlaw03_TokenLexes_r0_k fr H := tale_row (items := [.cc (.s (.bool false))]) (by kernel_rfl) fr H
def s_gnomonlaw03_TokenLexes_r1 : List AOper := [
  ⟨some 9, (.move (.t 0)), none⟩,
  ⟨some 10, (.lenS .p (.t 9)), none⟩,
  ⟨some 11, (.bin .gtr (.t 10) (.c (.s (.int .i64 1500)))), none⟩,
  ⟨some 12, (.move (.t 11)), none⟩,
  ⟨some 13, (.move (.t 0)), some (12, true)⟩,
  ⟨some 14, (.lenS .p (.t 13)), some (12, true)⟩,
  ⟨some 15, (.bin .leq (.t 14) (.c (.s (.int .i64 1048576)))), some (12, true)⟩,
  ⟨some 16, (.pick (.t 12) (.t 15) (.c (.s (.bool false)))), none⟩]
theorem s_gnomonlaw03_TokenLexes_r1_tale (fr : List V) (H : Heap) : evTale (symAll s_gnomonlaw03_TokenLexes_r1 [9, 10, 11, 12, 13, 14, 15] [16]) [9, 10, 11, 12, 13, 14, 15] fr H = evTale (some (17, [], [(16, (.pick (.op (.bin .gtr (.t 0) (.c (.s (.int .i64 1500)))) [(.op (.lenS .p (.t 0)) [(.t 0)]), (.c (.s (.int .i64 1500)))]) (.op (.bin .leq (.t 0) (.c (.s (.int .i64 1048576)))) [(.op (.lenS .p (.t 0)) [(.t 0)]), (.c (.s (.int .i64 1048576)))]) (.c (.s (.bool false)))))])) [9, 10, 11, 12, 13, 14, 15] fr H := tale_row (items := [.tt 0, .sub 0 [0, 0] [], .sub 0 [0] [], .sub 0 [0] [], .sub 0 [1, 0, 0] [12], .sub 0 [1, 0] [12], .sub 0 [1] [12], .sub 0 [] []]) (by kernel_rfl) fr H
def s_gnomonlaw03_TokenLexes_r2 : List AOper := [
  ⟨some 2, (.move (.c (.s (.bool true)))), none⟩]
theorem s_gnomonlaw03_TokenLexes_r2_tale (fr : List V) (H : Heap) : evTale (symAll s_gnomonlaw03_TokenLexes_r2 [0, 16] [2]) [0, 16] fr H = evTale (some (3, [], [(2, (.c (.s (.bool true))))])) [0, 16] fr H := tale_row (items := [.cc (.s (.bool true))]) (by kernel_rfl) fr H
def s_gnomonlaw03_TokenLexes_r3t6 : List AOper := [⟨some 5, (.move (.t 22)), none⟩]
def s_gnomonlaw03_TokenLexes_r3p5 : List AOper := [⟨none, (.store 2 (.t 4) (.t 21)), none⟩]
def s_gnomonlaw03_TokenLexes_r3t5 : List AOper := s_gnomonlaw03_TokenLexes_r3p5 ++ s_gnomonlaw03_TokenLexes_r3t6
def s_gnomonlaw03_TokenLexes_r3p4 : List AOper := [⟨some 3, (.move (.t 20)), none⟩]
def s_gnomonlaw03_TokenLexes_r3t4 : List AOper := s_gnomonlaw03_TokenLexes_r3p4 ++ s_gnomonlaw03_TokenLexes_r3t5
def s_gnomonlaw03_TokenLexes_r3p3 : List AOper := [⟨some 4, (.alloc [(.s (.int .i64 0)), (.s (.int .i64 0))]), none⟩]
def s_gnomonlaw03_TokenLexes_r3t3 : List AOper := s_gnomonlaw03_TokenLexes_r3p3 ++ s_gnomonlaw03_TokenLexes_r3t4
def s_gnomonlaw03_TokenLexes_r3p2 : List AOper := [⟨some 17, (.move (.t 19)), none⟩, ⟨some 20, (.extract (.t 17) 0), none⟩, ⟨some 21, (.extract (.t 17) 1), none⟩, ⟨some 22, (.extract (.t 17) 2), none⟩]
def s_gnomonlaw03_TokenLexes_r3t2 : List AOper := s_gnomonlaw03_TokenLexes_r3p2 ++ s_gnomonlaw03_TokenLexes_r3t3
def s_gnomonlaw03_TokenLexes_r3p1 : List AOper := [⟨some 19, (.call (.c (.fn 8 [] [])) [(.t 18)]), none⟩]
def s_gnomonlaw03_TokenLexes_r3t1 : List AOper := s_gnomonlaw03_TokenLexes_r3p1 ++ s_gnomonlaw03_TokenLexes_r3t2
def s_gnomonlaw03_TokenLexes_r3p0 : List AOper := [⟨some 18, (.move (.t 0)), none⟩]
def s_gnomonlaw03_TokenLexes_r3 : List AOper := s_gnomonlaw03_TokenLexes_r3p0 ++ s_gnomonlaw03_TokenLexes_r3t1
theorem s_gnomonlaw03_TokenLexes_r3p0_tale (fr : List V) (H : Heap) : evTale (symAll s_gnomonlaw03_TokenLexes_r3p0 [16] [18]) [16] fr H = evTale (some (19, [], [(18, (.t 0))])) [16] fr H := tale_row (items := [.tt 0]) (by kernel_rfl) fr H
theorem s_gnomonlaw03_TokenLexes_r3_x (call : CallF) (it : IterF) (base : Nat) (f : List V) (H : Heap) : evC call it base (.region s_gnomonlaw03_TokenLexes_r3 [] [16, 17, 18, 19, 20, 21, 22]) f H = segC call it base s_gnomonlaw03_TokenLexes_r3t1 [16, 17, 18, 19, 20, 21, 22] H (evTale (symAll s_gnomonlaw03_TokenLexes_r3p0 [16] [18]) [16] f H) (origRow call it base s_gnomonlaw03_TokenLexes_r3 [16, 17, 18, 19, 20, 21, 22] f H) := row_seg call it base s_gnomonlaw03_TokenLexes_r3p0 s_gnomonlaw03_TokenLexes_r3t1 (by kernel_rfl) f H
theorem s_gnomonlaw03_TokenLexes_r3t1_x (call : CallF) (it : IterF) (base : Nat) (f : List V) (H : Heap) : evC call it base (.region s_gnomonlaw03_TokenLexes_r3t1 [] [16, 17, 18, 19, 20, 21, 22]) f H = thenC call it base (.region s_gnomonlaw03_TokenLexes_r3t2 [] [16, 17, 18, 19, 20, 21, 22]) (opsC [] s_gnomonlaw03_TokenLexes_r3p1 [18] (evOps call base [⟨some 19, (.call (.c (.fn 8 [] [])) [(.t 18)]), none⟩] f H)) := (row_op call it base s_gnomonlaw03_TokenLexes_r3p1 s_gnomonlaw03_TokenLexes_r3t2 (kc := [18]) (by kernel_rfl) f H).trans (by rw [row_ops]; rfl)
theorem s_gnomonlaw03_TokenLexes_r3p2_tale (fr : List V) (H : Heap) : evTale (symAll s_gnomonlaw03_TokenLexes_r3p2 [17, 19] [20, 21, 22]) [17, 19] fr H = evTale (some (23, [], [(20, (.op (.extract (.t 0) 0) [(.t 19)])), (21, (.op (.extract (.t 0) 1) [(.t 19)])), (22, (.op (.extract (.t 0) 2) [(.t 19)]))])) [17, 19] fr H := tale_row (items := [.tt 19, .sub 0 [] [], .sub 1 [] [], .sub 2 [] []]) (by kernel_rfl) fr H
theorem s_gnomonlaw03_TokenLexes_r3t2_x (call : CallF) (it : IterF) (base : Nat) (f : List V) (H : Heap) : evC call it base (.region s_gnomonlaw03_TokenLexes_r3t2 [] [16, 17, 18, 19, 20, 21, 22]) f H = segC call it base s_gnomonlaw03_TokenLexes_r3t3 [16, 17, 18, 19, 20, 21, 22] H (evTale (symAll s_gnomonlaw03_TokenLexes_r3p2 [17, 19] [20, 21, 22]) [17, 19] f H) (origRow call it base s_gnomonlaw03_TokenLexes_r3t2 [16, 17, 18, 19, 20, 21, 22] f H) := row_seg call it base s_gnomonlaw03_TokenLexes_r3p2 s_gnomonlaw03_TokenLexes_r3t3 (by kernel_rfl) f H
theorem s_gnomonlaw03_TokenLexes_r3t3_x (call : CallF) (it : IterF) (base : Nat) (f : List V) (H : Heap) : evC call it base (.region s_gnomonlaw03_TokenLexes_r3t3 [] [16, 17, 18, 19, 20, 21, 22]) f H = thenC call it base (.region s_gnomonlaw03_TokenLexes_r3t4 [] [16, 17, 18, 19, 20, 21, 22]) (opsC [] s_gnomonlaw03_TokenLexes_r3p3 [] (evOps call base [⟨some 4, (.alloc [(.s (.int .i64 0)), (.s (.int .i64 0))]), none⟩] f H)) := (row_op call it base s_gnomonlaw03_TokenLexes_r3p3 s_gnomonlaw03_TokenLexes_r3t4 (kc := []) (by kernel_rfl) f H).trans (by rw [row_ops]; rfl)
theorem s_gnomonlaw03_TokenLexes_r3p4_tale (fr : List V) (H : Heap) : evTale (symAll s_gnomonlaw03_TokenLexes_r3p4 [20] [3]) [20] fr H = evTale (some (4, [], [(3, (.t 20))])) [20] fr H := tale_row (items := [.tt 20]) (by kernel_rfl) fr H
theorem s_gnomonlaw03_TokenLexes_r3t4_x (call : CallF) (it : IterF) (base : Nat) (f : List V) (H : Heap) : evC call it base (.region s_gnomonlaw03_TokenLexes_r3t4 [] [16, 17, 18, 19, 20, 21, 22]) f H = segC call it base s_gnomonlaw03_TokenLexes_r3t5 [16, 17, 18, 19, 20, 21, 22] H (evTale (symAll s_gnomonlaw03_TokenLexes_r3p4 [20] [3]) [20] f H) (origRow call it base s_gnomonlaw03_TokenLexes_r3t4 [16, 17, 18, 19, 20, 21, 22] f H) := row_seg call it base s_gnomonlaw03_TokenLexes_r3p4 s_gnomonlaw03_TokenLexes_r3t5 (by kernel_rfl) f H
theorem s_gnomonlaw03_TokenLexes_r3t5_x (call : CallF) (it : IterF) (base : Nat) (f : List V) (H : Heap) : evC call it base (.region s_gnomonlaw03_TokenLexes_r3t5 [] [16, 17, 18, 19, 20, 21, 22]) f H = thenC call it base (.region s_gnomonlaw03_TokenLexes_r3t6 [] [16, 17, 18, 19, 20, 21, 22]) (opsC [] s_gnomonlaw03_TokenLexes_r3p5 [21] (evOps call base [⟨none, (.store 2 (.t 4) (.t 21)), none⟩] f H)) := (row_op call it base s_gnomonlaw03_TokenLexes_r3p5 s_gnomonlaw03_TokenLexes_r3t6 (kc := [21]) (by kernel_rfl) f H).trans (by rw [row_ops]; rfl)
theorem s_gnomonlaw03_TokenLexes_r3t6_tale (fr : List V) (H : Heap) : evTale (symAll s_gnomonlaw03_TokenLexes_r3t6 [16, 17, 18, 19, 20, 21, 22] [5]) [16, 17, 18, 19, 20, 21, 22] fr H = evTale (some (6, [], [(5, (.t 22))])) [16, 17, 18, 19, 20, 21, 22] fr H := tale_row (items := [.tt 22]) (by kernel_rfl) fr H
theorem s_gnomonlaw03_TokenLexes_r3t6_x (call : CallF) (it : IterF) (base : Nat) (f : List V) (H : Heap) : evC call it base (.region s_gnomonlaw03_TokenLexes_r3t6 [] [16, 17, 18, 19, 20, 21, 22]) f H = segL H (evTale (symAll s_gnomonlaw03_TokenLexes_r3t6 [16, 17, 18, 19, 20, 21, 22] [5]) [16, 17, 18, 19, 20, 21, 22] f H) (origRow call it base s_gnomonlaw03_TokenLexes_r3t6 [16, 17, 18, 19, 20, 21, 22] f H) := row_last call it base _ f H
def s_gnomonlaw03_TokenLexes_r4t6 : List AOper := [⟨some 8, (.move (.t 28)), none⟩]
def s_gnomonlaw03_TokenLexes_r4p5 : List AOper := [⟨none, (.store 2 (.t 7) (.t 27)), none⟩]
def s_gnomonlaw03_TokenLexes_r4t5 : List AOper := s_gnomonlaw03_TokenLexes_r4p5 ++ s_gnomonlaw03_TokenLexes_r4t6
def s_gnomonlaw03_TokenLexes_r4p4 : List AOper := [⟨some 6, (.move (.t 26)), none⟩]
def s_gnomonlaw03_TokenLexes_r4t4 : List AOper := s_gnomonlaw03_TokenLexes_r4p4 ++ s_gnomonlaw03_TokenLexes_r4t5
def s_gnomonlaw03_TokenLexes_r4p3 : List AOper := [⟨some 7, (.alloc [(.s (.int .i64 0)), (.s (.int .i64 0))]), none⟩]
def s_gnomonlaw03_TokenLexes_r4t3 : List AOper := s_gnomonlaw03_TokenLexes_r4p3 ++ s_gnomonlaw03_TokenLexes_r4t4
def s_gnomonlaw03_TokenLexes_r4p2 : List AOper := [⟨some 23, (.move (.t 25)), none⟩, ⟨some 26, (.extract (.t 23) 0), none⟩, ⟨some 27, (.extract (.t 23) 1), none⟩, ⟨some 28, (.extract (.t 23) 2), none⟩]
def s_gnomonlaw03_TokenLexes_r4t2 : List AOper := s_gnomonlaw03_TokenLexes_r4p2 ++ s_gnomonlaw03_TokenLexes_r4t3
def s_gnomonlaw03_TokenLexes_r4p1 : List AOper := [⟨some 25, (.call (.c (.fn 9 [] [])) [(.t 24)]), none⟩]
def s_gnomonlaw03_TokenLexes_r4t1 : List AOper := s_gnomonlaw03_TokenLexes_r4p1 ++ s_gnomonlaw03_TokenLexes_r4t2
def s_gnomonlaw03_TokenLexes_r4p0 : List AOper := [⟨some 24, (.move (.t 0)), none⟩]
def s_gnomonlaw03_TokenLexes_r4 : List AOper := s_gnomonlaw03_TokenLexes_r4p0 ++ s_gnomonlaw03_TokenLexes_r4t1
theorem s_gnomonlaw03_TokenLexes_r4p0_tale (fr : List V) (H : Heap) : evTale (symAll s_gnomonlaw03_TokenLexes_r4p0 [0] [24]) [0] fr H = evTale (some (25, [], [(24, (.t 0))])) [0] fr H := tale_row (items := [.tt 0]) (by kernel_rfl) fr H
theorem s_gnomonlaw03_TokenLexes_r4_x (call : CallF) (it : IterF) (base : Nat) (f : List V) (H : Heap) : evC call it base (.region s_gnomonlaw03_TokenLexes_r4 [] [0, 23, 24, 25, 26, 27, 28]) f H = segC call it base s_gnomonlaw03_TokenLexes_r4t1 [0, 23, 24, 25, 26, 27, 28] H (evTale (symAll s_gnomonlaw03_TokenLexes_r4p0 [0] [24]) [0] f H) (origRow call it base s_gnomonlaw03_TokenLexes_r4 [0, 23, 24, 25, 26, 27, 28] f H) := row_seg call it base s_gnomonlaw03_TokenLexes_r4p0 s_gnomonlaw03_TokenLexes_r4t1 (by kernel_rfl) f H
theorem s_gnomonlaw03_TokenLexes_r4t1_x (call : CallF) (it : IterF) (base : Nat) (f : List V) (H : Heap) : evC call it base (.region s_gnomonlaw03_TokenLexes_r4t1 [] [0, 23, 24, 25, 26, 27, 28]) f H = thenC call it base (.region s_gnomonlaw03_TokenLexes_r4t2 [] [0, 23, 24, 25, 26, 27, 28]) (opsC [] s_gnomonlaw03_TokenLexes_r4p1 [24] (evOps call base [⟨some 25, (.call (.c (.fn 9 [] [])) [(.t 24)]), none⟩] f H)) := (row_op call it base s_gnomonlaw03_TokenLexes_r4p1 s_gnomonlaw03_TokenLexes_r4t2 (kc := [24]) (by kernel_rfl) f H).trans (by rw [row_ops]; rfl)
theorem s_gnomonlaw03_TokenLexes_r4p2_tale (fr : List V) (H : Heap) : evTale (symAll s_gnomonlaw03_TokenLexes_r4p2 [23, 25] [26, 27, 28]) [23, 25] fr H = evTale (some (29, [], [(26, (.op (.extract (.t 0) 0) [(.t 25)])), (27, (.op (.extract (.t 0) 1) [(.t 25)])), (28, (.op (.extract (.t 0) 2) [(.t 25)]))])) [23, 25] fr H := tale_row (items := [.tt 25, .sub 0 [] [], .sub 1 [] [], .sub 2 [] []]) (by kernel_rfl) fr H
theorem s_gnomonlaw03_TokenLexes_r4t2_x (call : CallF) (it : IterF) (base : Nat) (f : List V) (H : Heap) : evC call it base (.region s_gnomonlaw03_TokenLexes_r4t2 [] [0, 23, 24, 25, 26, 27, 28]) f H = segC call it base s_gnomonlaw03_TokenLexes_r4t3 [0, 23, 24, 25, 26, 27, 28] H (evTale (symAll s_gnomonlaw03_TokenLexes_r4p2 [23, 25] [26, 27, 28]) [23, 25] f H) (origRow call it base s_gnomonlaw03_TokenLexes_r4t2 [0, 23, 24, 25, 26, 27, 28] f H) := row_seg call it base s_gnomonlaw03_TokenLexes_r4p2 s_gnomonlaw03_TokenLexes_r4t3 (by kernel_rfl) f H
theorem s_gnomonlaw03_TokenLexes_r4t3_x (call : CallF) (it : IterF) (base : Nat) (f : List V) (H : Heap) : evC call it base (.region s_gnomonlaw03_TokenLexes_r4t3 [] [0, 23, 24, 25, 26, 27, 28]) f H = thenC call it base (.region s_gnomonlaw03_TokenLexes_r4t4 [] [0, 23, 24, 25, 26, 27, 28]) (opsC [] s_gnomonlaw03_TokenLexes_r4p3 [] (evOps call base [⟨some 7, (.alloc [(.s (.int .i64 0)), (.s (.int .i64 0))]), none⟩] f H)) := (row_op call it base s_gnomonlaw03_TokenLexes_r4p3 s_gnomonlaw03_TokenLexes_r4t4 (kc := []) (by kernel_rfl) f H).trans (by rw [row_ops]; rfl)
theorem s_gnomonlaw03_TokenLexes_r4p4_tale (fr : List V) (H : Heap) : evTale (symAll s_gnomonlaw03_TokenLexes_r4p4 [26] [6]) [26] fr H = evTale (some (7, [], [(6, (.t 26))])) [26] fr H := tale_row (items := [.tt 26]) (by kernel_rfl) fr H
theorem s_gnomonlaw03_TokenLexes_r4t4_x (call : CallF) (it : IterF) (base : Nat) (f : List V) (H : Heap) : evC call it base (.region s_gnomonlaw03_TokenLexes_r4t4 [] [0, 23, 24, 25, 26, 27, 28]) f H = segC call it base s_gnomonlaw03_TokenLexes_r4t5 [0, 23, 24, 25, 26, 27, 28] H (evTale (symAll s_gnomonlaw03_TokenLexes_r4p4 [26] [6]) [26] f H) (origRow call it base s_gnomonlaw03_TokenLexes_r4t4 [0, 23, 24, 25, 26, 27, 28] f H) := row_seg call it base s_gnomonlaw03_TokenLexes_r4p4 s_gnomonlaw03_TokenLexes_r4t5 (by kernel_rfl) f H
theorem s_gnomonlaw03_TokenLexes_r4t5_x (call : CallF) (it : IterF) (base : Nat) (f : List V) (H : Heap) : evC call it base (.region s_gnomonlaw03_TokenLexes_r4t5 [] [0, 23, 24, 25, 26, 27, 28]) f H = thenC call it base (.region s_gnomonlaw03_TokenLexes_r4t6 [] [0, 23, 24, 25, 26, 27, 28]) (opsC [] s_gnomonlaw03_TokenLexes_r4p5 [27] (evOps call base [⟨none, (.store 2 (.t 7) (.t 27)), none⟩] f H)) := (row_op call it base s_gnomonlaw03_TokenLexes_r4p5 s_gnomonlaw03_TokenLexes_r4t6 (kc := [27]) (by kernel_rfl) f H).trans (by rw [row_ops]; rfl)
theorem s_gnomonlaw03_TokenLexes_r4t6_tale (fr : List V) (H : Heap) : evTale (symAll s_gnomonlaw03_TokenLexes_r4t6 [0, 23, 24, 25, 26, 27, 28] [8]) [0, 23, 24, 25, 26, 27, 28] fr H = evTale (some (9, [], [(8, (.t 28))])) [0, 23, 24, 25, 26, 27, 28] fr H := tale_row (items := [.tt 28]) (by kernel_rfl) fr H
theorem s_gnomonlaw03_TokenLexes_r4t6_x (call : CallF) (it : IterF) (base : Nat) (f : List V) (H : Heap) : evC call it base (.region s_gnomonlaw03_TokenLexes_r4t6 [] [0, 23, 24, 25, 26, 27, 28]) f H = segL H (evTale (symAll s_gnomonlaw03_TokenLexes_r4t6 [0, 23, 24, 25, 26, 27, 28] [8]) [0, 23, 24, 25, 26, 27, 28] f H) (origRow call it base s_gnomonlaw03_TokenLexes_r4t6 [0, 23, 24, 25, 26, 27, 28] f H) := row_last call it base _ f H
def s_gnomonlaw03_TokenLexes_r5t4 : List AOper := [⟨some 44, (.pick (.t 42) (.t 43) (.c (.s (.bool false)))), none⟩, ⟨some 2, (.move (.t 44)), none⟩]
def s_gnomonlaw03_TokenLexes_r5p3 : List AOper := [⟨some 43, (.call (.c (.fn 11 [] [])) []), some (42, true)⟩]
def s_gnomonlaw03_TokenLexes_r5t3 : List AOper := s_gnomonlaw03_TokenLexes_r5p3 ++ s_gnomonlaw03_TokenLexes_r5t4
def s_gnomonlaw03_TokenLexes_r5p2 : List AOper := [⟨some 32, (.move (.t 31)), none⟩, ⟨some 33, (.load true 2 (.t 4)), some (32, true)⟩, ⟨some 34, (.load true 2 (.t 7)), some (32, true)⟩, ⟨some 35, (.eqAgg false [(.int .i64), (.int .i64)] (.t 33) (.t 34)), some (32, true)⟩, ⟨some 36, (.pick (.t 32) (.t 35) (.c (.s (.bool false)))), none⟩, ⟨some 37, (.move (.t 36)), none⟩, ⟨some 38, (.move (.t 5)), some (37, true)⟩, ⟨some 39, (.move (.t 8)), some (37, true)⟩, ⟨some 40, (.bin .eql (.t 38) (.t 39)), some (37, true)⟩, ⟨some 41, (.pick (.t 37) (.t 40) (.c (.s (.bool false)))), none⟩, ⟨some 42, (.move (.t 41)), none⟩]
def s_gnomonlaw03_TokenLexes_r5t2 : List AOper := s_gnomonlaw03_TokenLexes_r5p2 ++ s_gnomonlaw03_TokenLexes_r5t3
def s_gnomonlaw03_TokenLexes_r5p1 : List AOper := [⟨some 31, (.call (.c (.fn 10 [] [])) [(.t 29), (.t 30)]), none⟩]
def s_gnomonlaw03_TokenLexes_r5t1 : List AOper := s_gnomonlaw03_TokenLexes_r5p1 ++ s_gnomonlaw03_TokenLexes_r5t2
def s_gnomonlaw03_TokenLexes_r5p0 : List AOper := [⟨some 29, (.move (.t 3)), none⟩, ⟨some 30, (.move (.t 6)), none⟩]
def s_gnomonlaw03_TokenLexes_r5 : List AOper := s_gnomonlaw03_TokenLexes_r5p0 ++ s_gnomonlaw03_TokenLexes_r5t1
theorem s_gnomonlaw03_TokenLexes_r5p0_tale (fr : List V) (H : Heap) : evTale (symAll s_gnomonlaw03_TokenLexes_r5p0 [3, 6] [29, 30]) [3, 6] fr H = evTale (some (31, [], [(29, (.t 3)), (30, (.t 6))])) [3, 6] fr H := tale_row (items := [.tt 3, .tt 6]) (by kernel_rfl) fr H
theorem s_gnomonlaw03_TokenLexes_r5_x (call : CallF) (it : IterF) (base : Nat) (f : List V) (H : Heap) : evC call it base (.region s_gnomonlaw03_TokenLexes_r5 [] [3, 4, 5, 6, 7, 8, 29, 30, 31, 32, 33, 34, 35, 36, 37, 38, 39, 40, 41, 42, 43, 44]) f H = segC call it base s_gnomonlaw03_TokenLexes_r5t1 [3, 4, 5, 6, 7, 8, 29, 30, 31, 32, 33, 34, 35, 36, 37, 38, 39, 40, 41, 42, 43, 44] H (evTale (symAll s_gnomonlaw03_TokenLexes_r5p0 [3, 6] [29, 30]) [3, 6] f H) (origRow call it base s_gnomonlaw03_TokenLexes_r5 [3, 4, 5, 6, 7, 8, 29, 30, 31, 32, 33, 34, 35, 36, 37, 38, 39, 40, 41, 42, 43, 44] f H) := row_seg call it base s_gnomonlaw03_TokenLexes_r5p0 s_gnomonlaw03_TokenLexes_r5t1 (by kernel_rfl) f H
theorem s_gnomonlaw03_TokenLexes_r5t1_x (call : CallF) (it : IterF) (base : Nat) (f : List V) (H : Heap) : evC call it base (.region s_gnomonlaw03_TokenLexes_r5t1 [] [3, 4, 5, 6, 7, 8, 29, 30, 31, 32, 33, 34, 35, 36, 37, 38, 39, 40, 41, 42, 43, 44]) f H = thenC call it base (.region s_gnomonlaw03_TokenLexes_r5t2 [] [3, 4, 5, 6, 7, 8, 29, 30, 31, 32, 33, 34, 35, 36, 37, 38, 39, 40, 41, 42, 43, 44]) (opsC [] s_gnomonlaw03_TokenLexes_r5p1 [29, 30] (evOps call base [⟨some 31, (.call (.c (.fn 10 [] [])) [(.t 29), (.t 30)]), none⟩] f H)) := (row_op call it base s_gnomonlaw03_TokenLexes_r5p1 s_gnomonlaw03_TokenLexes_r5t2 (kc := [29, 30]) (by kernel_rfl) f H).trans (by rw [row_ops]; rfl)
theorem s_gnomonlaw03_TokenLexes_r5p2_tale (fr : List V) (H : Heap) : evTale (symAll s_gnomonlaw03_TokenLexes_r5p2 [4, 5, 7, 8, 31, 32, 33, 34, 35, 36, 37, 38, 39, 40, 41] [42]) [4, 5, 7, 8, 31, 32, 33, 34, 35, 36, 37, 38, 39, 40, 41] fr H = evTale (some (43, [], [(42, (.pick (.pick (.t 31) (.op (.eqAgg false [(.int .i64), (.int .i64)] (.t 0) (.t 1)) [(.op (.load true 2 (.t 0)) [(.t 4)]), (.op (.load true 2 (.t 0)) [(.t 7)])]) (.c (.s (.bool false)))) (.op (.bin .eql (.t 0) (.t 1)) [(.t 5), (.t 8)]) (.c (.s (.bool false)))))])) [4, 5, 7, 8, 31, 32, 33, 34, 35, 36, 37, 38, 39, 40, 41] fr H := tale_row (items := [.tt 31, .sub 0 [0, 1, 0] [32], .sub 0 [0, 1, 1] [32], .sub 0 [0, 1] [32], .sub 0 [0] [], .sub 0 [0] [], .sub 0 [1, 0] [37], .sub 0 [1, 1] [37], .sub 0 [1] [37], .sub 0 [] [], .sub 0 [] []]) (by kernel_rfl) fr H
theorem s_gnomonlaw03_TokenLexes_r5t2_x (call : CallF) (it : IterF) (base : Nat) (f : List V) (H : Heap) : evC call it base (.region s_gnomonlaw03_TokenLexes_r5t2 [] [3, 4, 5, 6, 7, 8, 29, 30, 31, 32, 33, 34, 35, 36, 37, 38, 39, 40, 41, 42, 43, 44]) f H = segC call it base s_gnomonlaw03_TokenLexes_r5t3 [3, 4, 5, 6, 7, 8, 29, 30, 31, 32, 33, 34, 35, 36, 37, 38, 39, 40, 41, 42, 43, 44] H (evTale (symAll s_gnomonlaw03_TokenLexes_r5p2 [4, 5, 7, 8, 31, 32, 33, 34, 35, 36, 37, 38, 39, 40, 41] [42]) [4, 5, 7, 8, 31, 32, 33, 34, 35, 36, 37, 38, 39, 40, 41] f H) (origRow call it base s_gnomonlaw03_TokenLexes_r5t2 [3, 4, 5, 6, 7, 8, 29, 30, 31, 32, 33, 34, 35, 36, 37, 38, 39, 40, 41, 42, 43, 44] f H) := row_seg call it base s_gnomonlaw03_TokenLexes_r5p2 s_gnomonlaw03_TokenLexes_r5t3 (by kernel_rfl) f H
theorem s_gnomonlaw03_TokenLexes_r5t3_x (call : CallF) (it : IterF) (base : Nat) (f : List V) (H : Heap) : evC call it base (.region s_gnomonlaw03_TokenLexes_r5t3 [] [3, 4, 5, 6, 7, 8, 29, 30, 31, 32, 33, 34, 35, 36, 37, 38, 39, 40, 41, 42, 43, 44]) f H = thenC call it base (.region s_gnomonlaw03_TokenLexes_r5t4 [] [3, 4, 5, 6, 7, 8, 29, 30, 31, 32, 33, 34, 35, 36, 37, 38, 39, 40, 41, 42, 43, 44]) (opsC [] s_gnomonlaw03_TokenLexes_r5p3 [] (evOps call base [⟨some 43, (.call (.c (.fn 11 [] [])) []), some (42, true)⟩] f H)) := (row_op call it base s_gnomonlaw03_TokenLexes_r5p3 s_gnomonlaw03_TokenLexes_r5t4 (kc := []) (by kernel_rfl) f H).trans (by rw [row_ops]; rfl)
theorem s_gnomonlaw03_TokenLexes_r5t4_tale (fr : List V) (H : Heap) : evTale (symAll s_gnomonlaw03_TokenLexes_r5t4 [3, 4, 5, 6, 7, 8, 29, 30, 31, 32, 33, 34, 35, 36, 37, 38, 39, 40, 41, 42, 43, 44] [2]) [3, 4, 5, 6, 7, 8, 29, 30, 31, 32, 33, 34, 35, 36, 37, 38, 39, 40, 41, 42, 43, 44] fr H = evTale (some (45, [], [(2, (.pick (.t 42) (.t 43) (.c (.s (.bool false)))))])) [3, 4, 5, 6, 7, 8, 29, 30, 31, 32, 33, 34, 35, 36, 37, 38, 39, 40, 41, 42, 43, 44] fr H := tale_row (items := [.sub 0 [] [], .sub 0 [] []]) (by kernel_rfl) fr H
theorem s_gnomonlaw03_TokenLexes_r5t4_x (call : CallF) (it : IterF) (base : Nat) (f : List V) (H : Heap) : evC call it base (.region s_gnomonlaw03_TokenLexes_r5t4 [] [3, 4, 5, 6, 7, 8, 29, 30, 31, 32, 33, 34, 35, 36, 37, 38, 39, 40, 41, 42, 43, 44]) f H = segL H (evTale (symAll s_gnomonlaw03_TokenLexes_r5t4 [3, 4, 5, 6, 7, 8, 29, 30, 31, 32, 33, 34, 35, 36, 37, 38, 39, 40, 41, 42, 43, 44] [2]) [3, 4, 5, 6, 7, 8, 29, 30, 31, 32, 33, 34, 35, 36, 37, 38, 39, 40, 41, 42, 43, 44] f H) (origRow call it base s_gnomonlaw03_TokenLexes_r5t4 [3, 4, 5, 6, 7, 8, 29, 30, 31, 32, 33, 34, 35, 36, 37, 38, 39, 40, 41, 42, 43, 44] f H) := row_last call it base _ f H
def s_gnomonlaw03_TokenLexes : ACFun := { ntmps := 45, results := [(.tmp 2)], body :=
  (.seq (.regionE s_gnomonlaw03_TokenLexes_r0 s_gnomonlaw03_TokenLexes_r0_k [])
  (.seq (.seq (.regionE s_gnomonlaw03_TokenLexes_r1 [9, 10, 11, 12, 13, 14, 15] [16])
  (.cond (.t 16)
  (.seq (.regionE s_gnomonlaw03_TokenLexes_r2 [0, 16] [2])
  .ret)
  .skip))
  (.seq (.region s_gnomonlaw03_TokenLexes_r3 [] [16, 17, 18, 19, 20, 21, 22])
  (.seq (.region s_gnomonlaw03_TokenLexes_r4 [] [0, 23, 24, 25, 26, 27, 28])
  (.seq (.region s_gnomonlaw03_TokenLexes_r5 [] [3, 4, 5, 6, 7, 8, 29, 30, 31, 32, 33, 34, 35, 36, 37, 38, 39, 40, 41, 42, 43, 44])
  .ret))))) }
abbrev k_gnomonref03_Lex : Nat := 9
def s_gnomonref03_Lex_r0_k : List Nat := [1, 2, 4, 5, 6, 7, 8, 9, 10, 11, 12, 13, 14, 15, 16, 17, 18, 19, 20, 21, 22, 23, 24, 25, 26, 27, 28, 29, 30, 31, 32, 33, 34, 35, 36, 37, 38, 39, 40, 41, 42, 43, 44, 45, 46, 47, 48, 49, 50, 51, 52, 53, 54, 55, 56, 57, 58, 59, 60, 61, 62, 63, 64, 65, 66, 67, 68, 69, 70, 71, 72, 73, 74, 75, 76, 77, 78, 79, 80, 81, 82, 83, 84, 85, 86, 87, 88, 89, 90, 91, 92, 93, 94, 95, 96, 97, 98, 99, 100, 101, 102, 103, 104, 105, 106, 107, 108, 109, 110, 111, 112, 113, 114, 115, 116, 117, 118, 119, 120, 121, 122, 123, 124, 125, 126, 127, 128, 129, 130, 131, 132, 133, 134, 135, 136, 137, 138, 139, 140, 141, 142, 143, 144, 145, 146, 147, 148, 149, 150, 151, 152, 153, 154, 155, 156, 157, 158, 159, 160, 161, 162, 163, 164, 165, 166, 167, 168, 169, 170, 171, 172, 173, 174, 175, 176, 177, 178, 179, 180, 181, 182, 183, 184, 185, 186, 187, 188, 189, 190, 191, 192, 193, 194, 195, 196]
theorem s_gnomonref03_Lex_r0_k_kA0 : s_gnomonref03_Lex_r0_k.contains 0 = false := by kernel_rfl
theorem s_gnomonref03_Lex_r0_k_kA2 : s_gnomonref03_Lex_r0_k.contains 2 = true := by kernel_rfl
theorem s_gnomonref03_Lex_r0_k_kA3 : s_gnomonref03_Lex_r0_k.contains 3 = false := by kernel_rfl
theorem s_gnomonref03_Lex_r0_k_kA4 : s_gnomonref03_Lex_r0_k.contains 4 = true := by kernel_rfl
def s_gnomonref03_Lex_r0t2 : List AOper := [⟨some 4, (.move (.c (.s (.int .i64 0)))), none⟩]
def s_gnomonref03_Lex_r0p1 : List AOper := [⟨some 3, (.alloc [(.s (.int .i64 0)), (.s (.int .i64 0))]), none⟩]
def s_gnomonref03_Lex_r0t1 : List AOper := s_gnomonref03_Lex_r0p1 ++ s_gnomonref03_Lex_r0t2
def s_gnomonref03_Lex_r0p0 : List AOper := [⟨some 2, (.move (.c (.s (.slice none 0 0)))), none⟩]
def s_gnomonref03_Lex_r0 : List AOper := s_gnomonref03_Lex_r0p0 ++ s_gnomonref03_Lex_r0t1
def s_gnomonref03_Lex_r0p0_k : List Nat := [1, 2, 3, 4, 5, 6, 7, 8, 9, 10, 11, 12, 13, 14, 15, 16, 17, 18, 19, 20, 21, 22, 23, 24, 25, 26, 27, 28, 29, 30, 31, 32, 33, 34, 35, 36, 37, 38, 39, 40, 41, 42, 43, 44, 45, 46, 47, 48, 49, 50, 51, 52, 53, 54, 55, 56, 57, 58, 59, 60, 61, 62, 63, 64, 65, 66, 67, 68, 69, 70, 71, 72, 73, 74, 75, 76, 77, 78, 79, 80, 81, 82, 83, 84, 85, 86, 87, 88, 89, 90, 91, 92, 93, 94, 95, 96, 97, 98, 99, 100, 101, 102, 103, 104, 105, 106, 107, 108, 109, 110, 111, 112, 113, 114, 115, 116, 117, 118, 119, 120, 121, 122, 123, 124, 125, 126, 127, 128, 129, 130, 131, 132, 133, 134, 135, 136, 137, 138, 139, 140, 141, 142, 143, 144, 145, 146, 147, 148, 149, 150, 151, 152, 153, 154, 155, 156, 157, 158, 159, 160, 161, 162, 163, 164, 165, 166, 167, 168, 169, 170, 171, 172, 173, 174, 175, 176, 177, 178, 179, 180, 181, 182, 183, 184, 185, 186, 187, 188, 189, 190, 191, 192, 193, 194, 195, 196]
theorem s_gnomonref03_Lex_r0p0_k_kA0 : s_gnomonref03_Lex_r0p0_k.contains 0 = false := by kernel_rfl
theorem s_gnomonref03_Lex_r0p0_k_kA2 : s_gnomonref03_Lex_r0p0_k.contains 2 = true := by kernel_rfl
theorem s_gnomonref03_Lex_r0p0_k_kA3 : s_gnomonref03_Lex_r0p0_k.contains 3 = true := by kernel_rfl
theorem s_gnomonref03_Lex_r0p0_k_kA4 : s_gnomonref03_Lex_r0p0_k.contains 4 = true := by kernel_rfl
theorem s_gnomonref03_Lex_r0p0_tale (fr : List V) (H : Heap) : evTale (symAll s_gnomonref03_Lex_r0p0 s_gnomonref03_Lex_r0p0_k []) s_gnomonref03_Lex_r0p0_k fr H = evTale (some (3, [], [])) s_gnomonref03_Lex_r0p0_k fr H := tale_row (items := [.cc (.s (.slice none 0 0))]) (by kernel_rfl) fr H
theorem s_gnomonref03_Lex_r0_x (call : CallF) (it : IterF) (base : Nat) (f : List V) (H : Heap) : evC call it base (.region s_gnomonref03_Lex_r0 [] s_gnomonref03_Lex_r0_k) f H = segC call it base s_gnomonref03_Lex_r0t1 s_gnomonref03_Lex_r0_k H (evTale (symAll s_gnomonref03_Lex_r0p0 s_gnomonref03_Lex_r0p0_k []) s_gnomonref03_Lex_r0p0_k f H) (origRow call it base s_gnomonref03_Lex_r0 s_gnomonref03_Lex_r0_k f H) := row_seg call it base s_gnomonref03_Lex_r0p0 s_gnomonref03_Lex_r0t1 (by kernel_rfl) f H
theorem s_gnomonref03_Lex_r0t1_x (call : CallF) (it : IterF) (base : Nat) (f : List V) (H : Heap) : evC call it base (.region s_gnomonref03_Lex_r0t1 [] s_gnomonref03_Lex_r0_k) f H = thenC call it base (.region s_gnomonref03_Lex_r0t2 [] s_gnomonref03_Lex_r0_k) (opsC [] s_gnomonref03_Lex_r0p1 [] (evOps call base [⟨some 3, (.alloc [(.s (.int .i64 0)), (.s (.int .i64 0))]), none⟩] f H)) := (row_op call it base s_gnomonref03_Lex_r0p1 s_gnomonref03_Lex_r0t2 (kc := []) (by kernel_rfl) f H).trans (by rw [row_ops]; rfl)
theorem s_gnomonref03_Lex_r0t2_tale (fr : List V) (H : Heap) : evTale (symAll s_gnomonref03_Lex_r0t2 s_gnomonref03_Lex_r0_k []) s_gnomonref03_Lex_r0_k fr H = evTale (some (5, [], [])) s_gnomonref03_Lex_r0_k fr H := tale_row (items := [.cc (.s (.int .i64 0))]) (by kernel_rfl) fr H
theorem s_gnomonref03_Lex_r0t2_x (call : CallF) (it : IterF) (base : Nat) (f : List V) (H : Heap) : evC call it base (.region s_gnomonref03_Lex_r0t2 [] s_gnomonref03_Lex_r0_k) f H = segL H (evTale (symAll s_gnomonref03_Lex_r0t2 s_gnomonref03_Lex_r0_k []) s_gnomonref03_Lex_r0_k f H) (origRow call it base s_gnomonref03_Lex_r0t2 s_gnomonref03_Lex_r0_k f H) := row_last call it base _ f H
def s_gnomonref03_Lex_r1 : List AOper := [
  ⟨some 11, (.move (.t 0)), none⟩,
  ⟨some 12, (.lenS .p (.t 11)), none⟩,
  ⟨some 13, (.bin .gtr (.t 12) (.c (.s (.int .i64 1048576)))), none⟩]
theorem s_gnomonref03_Lex_r1_tale (fr : List V) (H : Heap) : evTale (symAll s_gnomonref03_Lex_r1 [11, 12] [13]) [11, 12] fr H = evTale (some (14, [], [(13, (.op (.bin .gtr (.t 0) (.c (.s (.int .i64 1048576)))) [(.op (.lenS .p (.t 0)) [(.t 0)]), (.c (.s (.int .i64 1048576)))]))])) [11, 12] fr H := tale_row (items := [.tt 0, .sub 0 [0] [], .sub 0 [] []]) (by kernel_rfl) fr H
def s_gnomonref03_Lex_r2t2 : List AOper := [⟨some 4, (.move (.c (.s (.int .i64 2)))), none⟩]
def s_gnomonref03_Lex_r2p1 : List AOper := [⟨none, (.store 2 (.t 3) (.t 14)), none⟩]
def s_gnomonref03_Lex_r2t1 : List AOper := s_gnomonref03_Lex_r2p1 ++ s_gnomonref03_Lex_r2t2
def s_gnomonref03_Lex_r2p0 : List AOper := [⟨some 14, (.build [(.s (.int .i64 0)), (.s (.int .i64 0))] [(0, 1), (1, 1)] []), none⟩, ⟨some 2, (.move (.c (.s (.slice none 0 0)))), none⟩]
def s_gnomonref03_Lex_r2 : List AOper := s_gnomonref03_Lex_r2p0 ++ s_gnomonref03_Lex_r2t1
theorem s_gnomonref03_Lex_r2p0_tale (fr : List V) (H : Heap) : evTale (symAll s_gnomonref03_Lex_r2p0 [0, 13] [14, 2]) [0, 13] fr H = evTale (some (15, [], [(14, (.op (.build [(.s (.int .i64 0)), (.s (.int .i64 0))] [(0, 1), (1, 1)] []) [])), (2, (.c (.s (.slice none 0 0))))])) [0, 13] fr H := tale_row (items := [.sub 0 [] [], .cc (.s (.slice none 0 0))]) (by kernel_rfl) fr H
theorem s_gnomonref03_Lex_r2_x (call : CallF) (it : IterF) (base : Nat) (f : List V) (H : Heap) : evC call it base (.region s_gnomonref03_Lex_r2 [] [0, 13, 14]) f H = segC call it base s_gnomonref03_Lex_r2t1 [0, 13, 14] H (evTale (symAll s_gnomonref03_Lex_r2p0 [0, 13] [14, 2]) [0, 13] f H) (origRow call it base s_gnomonref03_Lex_r2 [0, 13, 14] f H) := row_seg call it base s_gnomonref03_Lex_r2p0 s_gnomonref03_Lex_r2t1 (by kernel_rfl) f H
theorem s_gnomonref03_Lex_r2t1_x (call : CallF) (it : IterF) (base : Nat) (f : List V) (H : Heap) : evC call it base (.region s_gnomonref03_Lex_r2t1 [] [0, 13, 14]) f H = thenC call it base (.region s_gnomonref03_Lex_r2t2 [] [0, 13, 14]) (opsC [] s_gnomonref03_Lex_r2p1 [14] (evOps call base [⟨none, (.store 2 (.t 3) (.t 14)), none⟩] f H)) := (row_op call it base s_gnomonref03_Lex_r2p1 s_gnomonref03_Lex_r2t2 (kc := [14]) (by kernel_rfl) f H).trans (by rw [row_ops]; rfl)
theorem s_gnomonref03_Lex_r2t2_tale (fr : List V) (H : Heap) : evTale (symAll s_gnomonref03_Lex_r2t2 [0, 13, 14] [4]) [0, 13, 14] fr H = evTale (some (5, [], [(4, (.c (.s (.int .i64 2))))])) [0, 13, 14] fr H := tale_row (items := [.cc (.s (.int .i64 2))]) (by kernel_rfl) fr H
theorem s_gnomonref03_Lex_r2t2_x (call : CallF) (it : IterF) (base : Nat) (f : List V) (H : Heap) : evC call it base (.region s_gnomonref03_Lex_r2t2 [] [0, 13, 14]) f H = segL H (evTale (symAll s_gnomonref03_Lex_r2t2 [0, 13, 14] [4]) [0, 13, 14] f H) (origRow call it base s_gnomonref03_Lex_r2t2 [0, 13, 14] f H) := row_last call it base _ f H
def s_gnomonref03_Lex_r3 : List AOper := [
  ⟨some 5, (.move (.c (.s (.slice none 0 0)))), none⟩]
theorem s_gnomonref03_Lex_r3_tale (fr : List V) (H : Heap) : evTale (symAll s_gnomonref03_Lex_r3 [13] [5]) [13] fr H = evTale (some (6, [], [(5, (.c (.s (.slice none 0 0))))])) [13] fr H := tale_row (items := [.cc (.s (.slice none 0 0))]) (by kernel_rfl) fr H
def s_gnomonref03_Lex_r4 : List AOper := [
  ⟨some 6, (.move (.c (.s (.int .i64 0)))), none⟩]
theorem s_gnomonref03_Lex_r4_tale (fr : List V) (H : Heap) : evTale (symAll s_gnomonref03_Lex_r4 [] [6]) [] fr H = evTale (some (7, [], [(6, (.c (.s (.int .i64 0))))])) [] fr H := tale_row (items := [.cc (.s (.int .i64 0))]) (by kernel_rfl) fr H
def s_gnomonref03_Lex_r5 : List AOper := [
  ⟨some 15, (.move (.t 6)), none⟩,
  ⟨some 16, (.move (.t 0)), none⟩,
  ⟨some 17, (.lenS .p (.t 16)), none⟩,
  ⟨some 18, (.bin .lss (.t 15) (.t 17)), none⟩]
theorem s_gnomonref03_Lex_r5_tale (fr : List V) (H : Heap) : evTale (symAll s_gnomonref03_Lex_r5 [15, 16, 17] [18]) [15, 16, 17] fr H = evTale (some (19, [], [(18, (.op (.bin .lss (.t 0) (.t 1)) [(.t 6), (.op (.lenS .p (.t 0)) [(.t 0)])]))])) [15, 16, 17] fr H := tale_row (items := [.tt 6, .tt 0, .sub 0 [1] [], .sub 0 [] []]) (by kernel_rfl) fr H
def s_gnomonref03_Lex_r6 : List AOper := [
  ⟨some 19, (.move (.t 0)), none⟩,
  ⟨some 20, (.move (.t 6)), none⟩,
  ⟨some 21, (.indexStr (.t 19) (.t 20)), none⟩,
  ⟨some 7, (.move (.t 21)), none⟩]
theorem s_gnomonref03_Lex_r6_tale (fr : List V) (H : Heap) : evTale (symAll s_gnomonref03_Lex_r6 [18, 19, 20, 21] [7]) [18, 19, 20, 21] fr H = evTale (some (22, [], [(7, (.op (.indexStr (.t 0) (.t 1)) [(.t 0), (.t 6)]))])) [18, 19, 20, 21] fr H := tale_row (items := [.tt 0, .tt 6, .sub 0 [] [], .sub 0 [] []]) (by kernel_rfl) fr H
def s_gnomonref03_Lex_r7 : List AOper := [
  ⟨some 22, (.move (.t 6)), none⟩,
  ⟨some 8, (.move (.t 22)), none⟩]
theorem s_gnomonref03_Lex_r7_tale (fr : List V) (H : Heap) : evTale (symAll s_gnomonref03_Lex_r7 [22] [8]) [22] fr H = evTale (some (23, [], [(8, (.t 6))])) [22] fr H := tale_row (items := [.tt 6, .tt 6]) (by kernel_rfl) fr H
def s_gnomonref03_Lex_r8 : List AOper := [
  ⟨some 27, (.move (.t 7)), none⟩,
  ⟨some 28, (.bin .eql (.t 27) (.c (.s (.int .u8 32)))), none⟩,
  ⟨some 29, (.move (.t 28)), none⟩,
  ⟨some 30, (.move (.t 7)), some (29, false)⟩,
  ⟨some 31, (.bin .eql (.t 30) (.c (.s (.int .u8 9)))), some (29, false)⟩,
  ⟨some 32, (.pick (.t 29) (.c (.s (.bool true))) (.t 31)), none⟩,
  ⟨some 33, (.move (.t 32)), none⟩,
  ⟨some 34, (.move (.t 7)), some (33, false)⟩,
  ⟨some 35, (.bin .eql (.t 34) (.c (.s (.int .u8 13)))), some (33, false)⟩,
  ⟨some 36, (.pick (.t 33) (.c (.s (.bool true))) (.t 35)), none⟩,
  ⟨some 37, (.move (.t 36)), none⟩,
  ⟨some 38, (.move (.t 7)), some (37, false)⟩,
  ⟨some 39, (.bin .eql (.t 38) (.c (.s (.int .u8 10)))), some (37, false)⟩,
  ⟨some 40, (.pick (.t 37) (.c (.s (.bool true))) (.t 39)), none⟩,
  ⟨some 26, (.move (.t 40)), none⟩]
theorem s_gnomonref03_Lex_r8_tale (fr : List V) (H : Heap) : evTale (symAll s_gnomonref03_Lex_r8 [27, 28, 29, 30, 31, 32, 33, 34, 35, 36, 37, 38, 39, 40] [26]) [27, 28, 29, 30, 31, 32, 33, 34, 35, 36, 37, 38, 39, 40] fr H = evTale (some (41, [], [(26, (.pick (.pick (.pick (.op (.bin .eql (.t 0) (.c (.s (.int .u8 32)))) [(.t 7), (.c (.s (.int .u8 32)))]) (.c (.s (.bool true))) (.op (.bin .eql (.t 0) (.c (.s (.int .u8 9)))) [(.t 7), (.c (.s (.int .u8 9)))])) (.c (.s (.bool true))) (.op (.bin .eql (.t 0) (.c (.s (.int .u8 13)))) [(.t 7), (.c (.s (.int .u8 13)))])) (.c (.s (.bool true))) (.op (.bin .eql (.t 0) (.c (.s (.int .u8 10)))) [(.t 7), (.c (.s (.int .u8 10)))])))])) [27, 28, 29, 30, 31, 32, 33, 34, 35, 36, 37, 38, 39, 40] fr H := tale_row (items := [.tt 7, .sub 0 [0, 0, 0] [], .sub 0 [0, 0, 0] [], .sub 0 [0, 0, 2, 0] [29], .sub 0 [0, 0, 2] [29], .sub 0 [0, 0] [], .sub 0 [0, 0] [], .sub 0 [0, 2, 0] [33], .sub 0 [0, 2] [33], .sub 0 [0] [], .sub 0 [0] [], .sub 0 [2, 0] [37], .sub 0 [2] [37], .sub 0 [] [], .sub 0 [] []]) (by kernel_rfl) fr H
def s_gnomonref03_Lex_r9 : List AOper := [
  ⟨some 41, (.move (.t 6)), none⟩,
  ⟨some 42, (.bin .add (.t 41) (.c (.s (.int .i64 1)))), none⟩,
  ⟨some 6, (.move (.t 42)), none⟩]
theorem s_gnomonref03_Lex_r9_tale (fr : List V) (H : Heap) : evTale (symAll s_gnomonref03_Lex_r9 [7, 8, 26, 41, 42] [6]) [7, 8, 26, 41, 42] fr H = evTale (some (43, [], [(6, (.op (.bin .add (.t 0) (.c (.s (.int .i64 1)))) [(.t 6), (.c (.s (.int .i64 1)))]))])) [7, 8, 26, 41, 42] fr H := tale_row (items := [.tt 6, .sub 0 [] [], .sub 0 [] []]) (by kernel_rfl) fr H
def s_gnomonref03_Lex_r10 : List AOper := [
  ⟨some 44, (.move (.t 7)), none⟩,
  ⟨some 45, (.bin .eql (.t 44) (.c (.s (.int .u8 59)))), none⟩,
  ⟨some 43, (.move (.t 45)), none⟩]
theorem s_gnomonref03_Lex_r10_tale (fr : List V) (H : Heap) : evTale (symAll s_gnomonref03_Lex_r10 [26, 44, 45] [43]) [26, 44, 45] fr H = evTale (some (46, [], [(43, (.op (.bin .eql (.t 0) (.c (.s (.int .u8 59)))) [(.t 7), (.c (.s (.int .u8 59)))]))])) [26, 44, 45] fr H := tale_row (items := [.tt 7, .sub 0 [] [], .sub 0 [] []]) (by kernel_rfl) fr H
def s_gnomonref03_Lex_r11 : List AOper := [
  ⟨some 46, (.move (.t 6)), none⟩,
  ⟨some 47, (.move (.t 0)), none⟩,
  ⟨some 48, (.lenS .p (.t 47)), none⟩,
  ⟨some 49, (.bin .lss (.t 46) (.t 48)), none⟩,
  ⟨some 50, (.move (.t 49)), none⟩,
  ⟨some 51, (.move (.t 0)), some (50, true)⟩,
  ⟨some 52, (.move (.t 6)), some (50, true)⟩,
  ⟨some 53, (.indexStr (.t 51) (.t 52)), some (50, true)⟩,
  ⟨some 54, (.bin .neq (.t 53) (.c (.s (.int .u8 10)))), some (50, true)⟩,
  ⟨some 55, (.pick (.t 50) (.t 54) (.c (.s (.bool false)))), none⟩]
theorem s_gnomonref03_Lex_r11_tale (fr : List V) (H : Heap) : evTale (symAll s_gnomonref03_Lex_r11 [46, 47, 48, 49, 50, 51, 52, 53, 54] [55]) [46, 47, 48, 49, 50, 51, 52, 53, 54] fr H = evTale (some (56, [], [(55, (.pick (.op (.bin .lss (.t 0) (.t 1)) [(.t 6), (.op (.lenS .p (.t 0)) [(.t 0)])]) (.op (.bin .neq (.t 0) (.c (.s (.int .u8 10)))) [(.op (.indexStr (.t 0) (.t 1)) [(.t 0), (.t 6)]), (.c (.s (.int .u8 10)))]) (.c (.s (.bool false)))))])) [46, 47, 48, 49, 50, 51, 52, 53, 54] fr H := tale_row (items := [.tt 6, .tt 0, .sub 0 [0, 1] [], .sub 0 [0] [], .sub 0 [0] [], .sub 0 [1, 0, 0] [50], .sub 0 [1, 0, 1] [50], .sub 0 [1, 0] [50], .sub 0 [1] [50], .sub 0 [] []]) (by kernel_rfl) fr H
def s_gnomonref03_Lex_r12 : List AOper := [
  ⟨some 56, (.move (.t 6)), none⟩,
  ⟨some 57, (.bin .add (.t 56) (.c (.s (.int .i64 1)))), none⟩,
  ⟨some 6, (.move (.t 57)), none⟩]
theorem s_gnomonref03_Lex_r12_tale (fr : List V) (H : Heap) : evTale (symAll s_gnomonref03_Lex_r12 [55, 56, 57] [6]) [55, 56, 57] fr H = evTale (some (58, [], [(6, (.op (.bin .add (.t 0) (.c (.s (.int .i64 1)))) [(.t 6), (.c (.s (.int .i64 1)))]))])) [55, 56, 57] fr H := tale_row (items := [.tt 6, .sub 0 [] [], .sub 0 [] []]) (by kernel_rfl) fr H
def s_gnomonref03_Lex_l0_b : ACode :=
  (.seq (.seq (.regionE s_gnomonref03_Lex_r11 [46, 47, 48, 49, 50, 51, 52, 53, 54] [55])
  (.cond (.t 55)
  .skip
  (.exit 3)))
  (.block 4
  (.regionE s_gnomonref03_Lex_r12 [55, 56, 57] [6])))
def s_gnomonref03_Lex_l0 : ACode := s_gnomonref03_Lex_l0_b
theorem s_gnomonref03_Lex_l0_ev (call : CallF) (it : IterF) (base : Nat) (fr : List V) (H : Heap) : evC call it base s_gnomonref03_Lex_l0 fr H = evC call it base s_gnomonref03_Lex_l0_b fr H := rfl
def s_gnomonref03_Lex_r13t2 : List AOper := [⟨some 58, (.move (.t 60)), none⟩]
def s_gnomonref03_Lex_r13p1 : List AOper := [⟨some 60, (.call (.c (.fn 22 [] [])) [(.t 59)]), none⟩]
def s_gnomonref03_Lex_r13t1 : List AOper := s_gnomonref03_Lex_r13p1 ++ s_gnomonref03_Lex_r13t2
def s_gnomonref03_Lex_r13p0 : List AOper := [⟨some 59, (.move (.t 7)), none⟩]
def s_gnomonref03_Lex_r13 : List AOper := s_gnomonref03_Lex_r13p0 ++ s_gnomonref03_Lex_r13t1
theorem s_gnomonref03_Lex_r13p0_tale (fr : List V) (H : Heap) : evTale (symAll s_gnomonref03_Lex_r13p0 [43] [59]) [43] fr H = evTale (some (60, [], [(59, (.t 7))])) [43] fr H := tale_row (items := [.tt 7]) (by kernel_rfl) fr H
theorem s_gnomonref03_Lex_r13_x (call : CallF) (it : IterF) (base : Nat) (f : List V) (H : Heap) : evC call it base (.region s_gnomonref03_Lex_r13 [] [43, 59, 60]) f H = segC call it base s_gnomonref03_Lex_r13t1 [43, 59, 60] H (evTale (symAll s_gnomonref03_Lex_r13p0 [43] [59]) [43] f H) (origRow call it base s_gnomonref03_Lex_r13 [43, 59, 60] f H) := row_seg call it base s_gnomonref03_Lex_r13p0 s_gnomonref03_Lex_r13t1 (by kernel_rfl) f H
theorem s_gnomonref03_Lex_r13t1_x (call : CallF) (it : IterF) (base : Nat) (f : List V) (H : Heap) : evC call it base (.region s_gnomonref03_Lex_r13t1 [] [43, 59, 60]) f H = thenC call it base (.region s_gnomonref03_Lex_r13t2 [] [43, 59, 60]) (opsC [] s_gnomonref03_Lex_r13p1 [59] (evOps call base [⟨some 60, (.call (.c (.fn 22 [] [])) [(.t 59)]), none⟩] f H)) := (row_op call it base s_gnomonref03_Lex_r13p1 s_gnomonref03_Lex_r13t2 (kc := [59]) (by kernel_rfl) f H).trans (by rw [row_ops]; rfl)
theorem s_gnomonref03_Lex_r13t2_tale (fr : List V) (H : Heap) : evTale (symAll s_gnomonref03_Lex_r13t2 [43, 59, 60] [58]) [43, 59, 60] fr H = evTale (some (59, [], [(58, (.t 60))])) [43, 59, 60] fr H := tale_row (items := [.tt 60]) (by kernel_rfl) fr H
theorem s_gnomonref03_Lex_r13t2_x (call : CallF) (it : IterF) (base : Nat) (f : List V) (H : Heap) : evC call it base (.region s_gnomonref03_Lex_r13t2 [] [43, 59, 60]) f H = segL H (evTale (symAll s_gnomonref03_Lex_r13t2 [43, 59, 60] [58]) [43, 59, 60] f H) (origRow call it base s_gnomonref03_Lex_r13t2 [43, 59, 60] f H) := row_last call it base _ f H
def s_gnomonref03_Lex_r14t10 : List AOper := [⟨some 75, (.pick (.t 70) (.c (.s (.bool true))) (.t 74)), some (65, true)⟩, ⟨some 76, (.move (.t 75)), some (65, true)⟩, ⟨some 77, (.move (.t 0)), some (76, false)⟩, ⟨some 78, (.move (.t 6)), some (76, false)⟩, ⟨some 79, (.indexStr (.t 77) (.t 78)), some (76, false)⟩, ⟨some 80, (.bin .eql (.t 79) (.c (.s (.int .u8 46)))), some (76, false)⟩, ⟨some 81, (.pick (.t 76) (.c (.s (.bool true))) (.t 80)), some (65, true)⟩, ⟨some 82, (.pick (.t 65) (.t 81) (.c (.s (.bool false)))), none⟩]
def s_gnomonref03_Lex_r14p9 : List AOper := [⟨some 74, (.call (.c (.fn 23 [] [])) [(.t 73)]), some (70, false)⟩]
def s_gnomonref03_Lex_r14t9 : List AOper := s_gnomonref03_Lex_r14p9 ++ s_gnomonref03_Lex_r14t10
def s_gnomonref03_Lex_r14p8 : List AOper := [⟨some 73, (.indexStr (.t 71) (.t 72)), some (70, false)⟩]
def s_gnomonref03_Lex_r14t8 : List AOper := s_gnomonref03_Lex_r14p8 ++ s_gnomonref03_Lex_r14t9
def s_gnomonref03_Lex_r14p7 : List AOper := [⟨some 72, (.move (.t 6)), some (70, false)⟩]
def s_gnomonref03_Lex_r14t7 : List AOper := s_gnomonref03_Lex_r14p7 ++ s_gnomonref03_Lex_r14t8
def s_gnomonref03_Lex_r14p6 : List AOper := [⟨some 71, (.move (.t 0)), some (70, false)⟩]
def s_gnomonref03_Lex_r14t6 : List AOper := s_gnomonref03_Lex_r14p6 ++ s_gnomonref03_Lex_r14t7
def s_gnomonref03_Lex_r14p5 : List AOper := [⟨some 70, (.move (.t 69)), some (65, true)⟩]
def s_gnomonref03_Lex_r14t5 : List AOper := s_gnomonref03_Lex_r14p5 ++ s_gnomonref03_Lex_r14t6
def s_gnomonref03_Lex_r14p4 : List AOper := [⟨some 69, (.call (.c (.fn 22 [] [])) [(.t 68)]), some (65, true)⟩]
def s_gnomonref03_Lex_r14t4 : List AOper := s_gnomonref03_Lex_r14p4 ++ s_gnomonref03_Lex_r14t5
def s_gnomonref03_Lex_r14p3 : List AOper := [⟨some 68, (.indexStr (.t 66) (.t 67)), some (65, true)⟩]
def s_gnomonref03_Lex_r14t3 : List AOper := s_gnomonref03_Lex_r14p3 ++ s_gnomonref03_Lex_r14t4
def s_gnomonref03_Lex_r14p2 : List AOper := [⟨some 67, (.move (.t 6)), some (65, true)⟩]
def s_gnomonref03_Lex_r14t2 : List AOper := s_gnomonref03_Lex_r14p2 ++ s_gnomonref03_Lex_r14t3
def s_gnomonref03_Lex_r14p1 : List AOper := [⟨some 66, (.move (.t 0)), some (65, true)⟩]
def s_gnomonref03_Lex_r14t1 : List AOper := s_gnomonref03_Lex_r14p1 ++ s_gnomonref03_Lex_r14t2
def s_gnomonref03_Lex_r14p0 : List AOper := [⟨some 61, (.move (.t 6)), none⟩, ⟨some 62, (.move (.t 0)), none⟩, ⟨some 63, (.lenS .p (.t 62)), none⟩, ⟨some 64, (.bin .lss (.t 61) (.t 63)), none⟩, ⟨some 65, (.move (.t 64)), none⟩]
def s_gnomonref03_Lex_r14 : List AOper := s_gnomonref03_Lex_r14p0 ++ s_gnomonref03_Lex_r14t1
theorem s_gnomonref03_Lex_r14p0_tale (fr : List V) (H : Heap) : evTale (symAll s_gnomonref03_Lex_r14p0 [61, 62, 63, 64] [65]) [61, 62, 63, 64] fr H = evTale (some (66, [], [(65, (.op (.bin .lss (.t 0) (.t 1)) [(.t 6), (.op (.lenS .p (.t 0)) [(.t 0)])]))])) [61, 62, 63, 64] fr H := tale_row (items := [.tt 6, .tt 0, .sub 0 [1] [], .sub 0 [] [], .sub 0 [] []]) (by kernel_rfl) fr H
theorem s_gnomonref03_Lex_r14_x (call : CallF) (it : IterF) (base : Nat) (f : List V) (H : Heap) : evC call it base (.region s_gnomonref03_Lex_r14 [] [61, 62, 63, 64, 65, 66, 67, 68, 69, 70, 71, 72, 73, 74, 75, 76, 77, 78, 79, 80, 81]) f H = segC call it base s_gnomonref03_Lex_r14t1 [61, 62, 63, 64, 65, 66, 67, 68, 69, 70, 71, 72, 73, 74, 75, 76, 77, 78, 79, 80, 81] H (evTale (symAll s_gnomonref03_Lex_r14p0 [61, 62, 63, 64] [65]) [61, 62, 63, 64] f H) (origRow call it base s_gnomonref03_Lex_r14 [61, 62, 63, 64, 65, 66, 67, 68, 69, 70, 71, 72, 73, 74, 75, 76, 77, 78, 79, 80, 81] f H) := row_seg call it base s_gnomonref03_Lex_r14p0 s_gnomonref03_Lex_r14t1 (by kernel_rfl) f H
theorem s_gnomonref03_Lex_r14t1_x (call : CallF) (it : IterF) (base : Nat) (f : List V) (H : Heap) : evC call it base (.region s_gnomonref03_Lex_r14t1 [] [61, 62, 63, 64, 65, 66, 67, 68, 69, 70, 71, 72, 73, 74, 75, 76, 77, 78, 79, 80, 81]) f H = thenC call it base (.region s_gnomonref03_Lex_r14t2 [] [61, 62, 63, 64, 65, 66, 67, 68, 69, 70, 71, 72, 73, 74, 75, 76, 77, 78, 79, 80, 81]) (opsC [] s_gnomonref03_Lex_r14p1 [] (evOps call base [⟨some 66, (.move (.t 0)), some (65, true)⟩] f H)) := (row_op call it base s_gnomonref03_Lex_r14p1 s_gnomonref03_Lex_r14t2 (kc := []) (by kernel_rfl) f H).trans (by rw [row_ops]; rfl)
theorem s_gnomonref03_Lex_r14t2_x (call : CallF) (it : IterF) (base : Nat) (f : List V) (H : Heap) : evC call it base (.region s_gnomonref03_Lex_r14t2 [] [61, 62, 63, 64, 65, 66, 67, 68, 69, 70, 71, 72, 73, 74, 75, 76, 77, 78, 79, 80, 81]) f H = thenC call it base (.region s_gnomonref03_Lex_r14t3 [] [61, 62, 63, 64, 65, 66, 67, 68, 69, 70, 71, 72, 73, 74, 75, 76, 77, 78, 79, 80, 81]) (opsC [] s_gnomonref03_Lex_r14p2 [] (evOps call base [⟨some 67, (.move (.t 6)), some (65, true)⟩] f H)) := (row_op call it base s_gnomonref03_Lex_r14p2 s_gnomonref03_Lex_r14t3 (kc := []) (by kernel_rfl) f H).trans (by rw [row_ops]; rfl)
theorem s_gnomonref03_Lex_r14t3_x (call : CallF) (it : IterF) (base : Nat) (f : List V) (H : Heap) : evC call it base (.region s_gnomonref03_Lex_r14t3 [] [61, 62, 63, 64, 65, 66, 67, 68, 69, 70, 71, 72, 73, 74, 75, 76, 77, 78, 79, 80, 81]) f H = thenC call it base (.region s_gnomonref03_Lex_r14t4 [] [61, 62, 63, 64, 65, 66, 67, 68, 69, 70, 71, 72, 73, 74, 75, 76, 77, 78, 79, 80, 81]) (opsC [] s_gnomonref03_Lex_r14p3 [66, 67] (evOps call base [⟨some 68, (.indexStr (.t 66) (.t 67)), some (65, true)⟩] f H)) := (row_op call it base s_gnomonref03_Lex_r14p3 s_gnomonref03_Lex_r14t4 (kc := [66, 67]) (by kernel_rfl) f H).trans (by rw [row_ops]; rfl)
theorem s_gnomonref03_Lex_r14t4_x (call : CallF) (it : IterF) (base : Nat) (f : List V) (H : Heap) : evC call it base (.region s_gnomonref03_Lex_r14t4 [] [61, 62, 63, 64, 65, 66, 67, 68, 69, 70, 71, 72, 73, 74, 75, 76, 77, 78, 79, 80, 81]) f H = thenC call it base (.region s_gnomonref03_Lex_r14t5 [] [61, 62, 63, 64, 65, 66, 67, 68, 69, 70, 71, 72, 73, 74, 75, 76, 77, 78, 79, 80, 81]) (opsC [] s_gnomonref03_Lex_r14p4 [68] (evOps call base [⟨some 69, (.call (.c (.fn 22 [] [])) [(.t 68)]), some (65, true)⟩] f H)) := (row_op call it base s_gnomonref03_Lex_r14p4 s_gnomonref03_Lex_r14t5 (kc := [68]) (by kernel_rfl) f H).trans (by rw [row_ops]; rfl)
theorem s_gnomonref03_Lex_r14t5_x (call : CallF) (it : IterF) (base : Nat) (f : List V) (H : Heap) : evC call it base (.region s_gnomonref03_Lex_r14t5 [] [61, 62, 63, 64, 65, 66, 67, 68, 69, 70, 71, 72, 73, 74, 75, 76, 77, 78, 79, 80, 81]) f H = thenC call it base (.region s_gnomonref03_Lex_r14t6 [] [61, 62, 63, 64, 65, 66, 67, 68, 69, 70, 71, 72, 73, 74, 75, 76, 77, 78, 79, 80, 81]) (opsC [] s_gnomonref03_Lex_r14p5 [69] (evOps call base [⟨some 70, (.move (.t 69)), some (65, true)⟩] f H)) := (row_op call it base s_gnomonref03_Lex_r14p5 s_gnomonref03_Lex_r14t6 (kc := [69]) (by kernel_rfl) f H).trans (by rw [row_ops]; rfl)
theorem s_gnomonref03_Lex_r14t6_x (call : CallF) (it : IterF) (base : Nat) (f : List V) (H : Heap) : evC call it base (.region s_gnomonref03_Lex_r14t6 [] [61, 62, 63, 64, 65, 66, 67, 68, 69, 70, 71, 72, 73, 74, 75, 76, 77, 78, 79, 80, 81]) f H = thenC call it base (.region s_gnomonref03_Lex_r14t7 [] [61, 62, 63, 64, 65, 66, 67, 68, 69, 70, 71, 72, 73, 74, 75, 76, 77, 78, 79, 80, 81]) (opsC [] s_gnomonref03_Lex_r14p6 [] (evOps call base [⟨some 71, (.move (.t 0)), some (70, false)⟩] f H)) := (row_op call it base s_gnomonref03_Lex_r14p6 s_gnomonref03_Lex_r14t7 (kc := []) (by kernel_rfl) f H).trans (by rw [row_ops]; rfl)
theorem s_gnomonref03_Lex_r14t7_x (call : CallF) (it : IterF) (base : Nat) (f : List V) (H : Heap) : evC call it base (.region s_gnomonref03_Lex_r14t7 [] [61, 62, 63, 64, 65, 66, 67, 68, 69, 70, 71, 72, 73, 74, 75, 76, 77, 78, 79, 80, 81]) f H = thenC call it base (.region s_gnomonref03_Lex_r14t8 [] [61, 62, 63, 64, 65, 66, 67, 68, 69, 70, 71, 72, 73, 74, 75, 76, 77, 78, 79, 80, 81]) (opsC [] s_gnomonref03_Lex_r14p7 [] (evOps call base [⟨some 72, (.move (.t 6)), some (70, false)⟩] f H)) := (row_op call it base s_gnomonref03_Lex_r14p7 s_gnomonref03_Lex_r14t8 (kc := []) (by kernel_rfl) f H).trans (by rw [row_ops]; rfl)
theorem s_gnomonref03_Lex_r14t8_x (call : CallF) (it : IterF) (base : Nat) (f : List V) (H : Heap) : evC call it base (.region s_gnomonref03_Lex_r14t8 [] [61, 62, 63, 64, 65, 66, 67, 68, 69, 70, 71, 72, 73, 74, 75, 76, 77, 78, 79, 80, 81]) f H = thenC call it base (.region s_gnomonref03_Lex_r14t9 [] [61, 62, 63, 64, 65, 66, 67, 68, 69, 70, 71, 72, 73, 74, 75, 76, 77, 78, 79, 80, 81]) (opsC [] s_gnomonref03_Lex_r14p8 [71, 72] (evOps call base [⟨some 73, (.indexStr (.t 71) (.t 72)), some (70, false)⟩] f H)) := (row_op call it base s_gnomonref03_Lex_r14p8 s_gnomonref03_Lex_r14t9 (kc := [71, 72]) (by kernel_rfl) f H).trans (by rw [row_ops]; rfl)
theorem s_gnomonref03_Lex_r14t9_x (call : CallF) (it : IterF) (base : Nat) (f : List V) (H : Heap) : evC call it base (.region s_gnomonref03_Lex_r14t9 [] [61, 62, 63, 64, 65, 66, 67, 68, 69, 70, 71, 72, 73, 74, 75, 76, 77, 78, 79, 80, 81]) f H = thenC call it base (.region s_gnomonref03_Lex_r14t10 [] [61, 62, 63, 64, 65, 66, 67, 68, 69, 70, 71, 72, 73, 74, 75, 76, 77, 78, 79, 80, 81]) (opsC [] s_gnomonref03_Lex_r14p9 [73] (evOps call base [⟨some 74, (.call (.c (.fn 23 [] [])) [(.t 73)]), some (70, false)⟩] f H)) := (row_op call it base s_gnomonref03_Lex_r14p9 s_gnomonref03_Lex_r14t10 (kc := [73]) (by kernel_rfl) f H).trans (by rw [row_ops]; rfl)
theorem s_gnomonref03_Lex_r14t10_tale (fr : List V) (H : Heap) : evTale (symAll s_gnomonref03_Lex_r14t10 [61, 62, 63, 64, 65, 66, 67, 68, 69, 70, 71, 72, 73, 74, 75, 76, 77, 78, 79, 80, 81] [82]) [61, 62, 63, 64, 65, 66, 67, 68, 69, 70, 71, 72, 73, 74, 75, 76, 77, 78, 79, 80, 81] fr H = evTale (some (83, [], [(82, (.pick (.t 65) (.pick (.pick (.t 70) (.c (.s (.bool true))) (.t 74)) (.c (.s (.bool true))) (.op (.bin .eql (.t 0) (.c (.s (.int .u8 46)))) [(.op (.indexStr (.t 0) (.t 1)) [(.t 0), (.t 6)]), (.c (.s (.int .u8 46)))])) (.c (.s (.bool false)))))])) [61, 62, 63, 64, 65, 66, 67, 68, 69, 70, 71, 72, 73, 74, 75, 76, 77, 78, 79, 80, 81] fr H := tale_row (items := [.sub 0 [1, 0] [65], .sub 0 [1, 0] [65], .sub 0 [1, 2, 0, 0] [65, 76], .sub 0 [1, 2, 0, 1] [65, 76], .sub 0 [1, 2, 0] [65, 76], .sub 0 [1, 2] [65, 76], .sub 0 [1] [65], .sub 0 [] []]) (by kernel_rfl) fr H
theorem s_gnomonref03_Lex_r14t10_x (call : CallF) (it : IterF) (base : Nat) (f : List V) (H : Heap) : evC call it base (.region s_gnomonref03_Lex_r14t10 [] [61, 62, 63, 64, 65, 66, 67, 68, 69, 70, 71, 72, 73, 74, 75, 76, 77, 78, 79, 80, 81]) f H = segL H (evTale (symAll s_gnomonref03_Lex_r14t10 [61, 62, 63, 64, 65, 66, 67, 68, 69, 70, 71, 72, 73, 74, 75, 76, 77, 78, 79, 80, 81] [82]) [61, 62, 63, 64, 65, 66, 67, 68, 69, 70, 71, 72, 73, 74, 75, 76, 77, 78, 79, 80, 81] f H) (origRow call it base s_gnomonref03_Lex_r14t10 [61, 62, 63, 64, 65, 66, 67, 68, 69, 70, 71, 72, 73, 74, 75, 76, 77, 78, 79, 80, 81] f H) := row_last call it base _ f H
def s_gnomonref03_Lex_r15 : List AOper := [
  ⟨some 83, (.move (.t 6)), none⟩,
  ⟨some 84, (.bin .add (.t 83) (.c (.s (.int .i64 1)))), none⟩,
  ⟨some 6, (.move (.t 84)), none⟩]
theorem s_gnomonref03_Lex_r15_tale (fr : List V) (H : Heap) : evTale (symAll s_gnomonref03_Lex_r15 [82, 83, 84] [6]) [82, 83, 84] fr H = evTale (some (85, [], [(6, (.op (.bin .add (.t 0) (.c (.s (.int .i64 1)))) [(.t 6), (.c (.s (.int .i64 1)))]))])) [82, 83, 84] fr H := tale_row (items := [.tt 6, .sub 0 [] [], .sub 0 [] []]) (by kernel_rfl) fr H
def s_gnomonref03_Lex_l1_b : ACode :=
  (.seq (.seq (.region s_gnomonref03_Lex_r14 [] [61, 62, 63, 64, 65, 66, 67, 68, 69, 70, 71, 72, 73, 74, 75, 76, 77, 78, 79, 80, 81])
  (.cond (.t 82)
  .skip
  (.exit 5)))
  (.block 6
  (.regionE s_gnomonref03_Lex_r15 [82, 83, 84] [6])))
def s_gnomonref03_Lex_l1 : ACode := s_gnomonref03_Lex_l1_b
theorem s_gnomonref03_Lex_l1_ev (call : CallF) (it : IterF) (base : Nat) (fr : List V) (H : Heap) : evC call it base s_gnomonref03_Lex_l1 fr H = evC call it base s_gnomonref03_Lex_l1_b fr H := rfl
def s_gnomonref03_Lex_r16t5 : List AOper := [⟨some 5, (.move (.t 95)), none⟩]
def s_gnomonref03_Lex_r16p4 : List AOper := [⟨some 95, (.append 5 48 (.t 85) (.t 94)), none⟩]
def s_gnomonref03_Lex_r16t4 : List AOper := s_gnomonref03_Lex_r16p4 ++ s_gnomonref03_Lex_r16t5
def s_gnomonref03_Lex_r16p3 : List AOper := [⟨some 94, (.buildSl 5 1 [(.s (.int .u8 0)), (.s (.string ⟨#[]⟩)), (.s (.int .i64 0)), (.s (.int .i64 0)), (.s (.int .i64 0))] [(0, (.t 93))]), none⟩]
def s_gnomonref03_Lex_r16t3 : List AOper := s_gnomonref03_Lex_r16p3 ++ s_gnomonref03_Lex_r16t4
def s_gnomonref03_Lex_r16p2 : List AOper := [⟨some 93, (.build [(.s (.int .u8 0)), (.s (.string ⟨#[]⟩)), (.s (.int .i64 0)), (.s (.int .i64 0)), (.s (.int .i64 0))] [(0, 1), (1, 1), (2, 1), (3, 2)] [(0, (.c (.s (.int .u8 1)))), (1, (.t 89)), (3, (.t 92))]), none⟩]
def s_gnomonref03_Lex_r16t2 : List AOper := s_gnomonref03_Lex_r16p2 ++ s_gnomonref03_Lex_r16t3
def s_gnomonref03_Lex_r16p1 : List AOper := [⟨some 92, (.call (.c (.fn 24 [] [])) [(.t 90), (.t 91)]), none⟩]
def s_gnomonref03_Lex_r16t1 : List AOper := s_gnomonref03_Lex_r16p1 ++ s_gnomonref03_Lex_r16t2
def s_gnomonref03_Lex_r16p0 : List AOper := [⟨some 85, (.move (.t 5)), none⟩, ⟨some 86, (.move (.t 0)), none⟩, ⟨some 87, (.move (.t 8)), none⟩, ⟨some 88, (.move (.t 6)), none⟩, ⟨some 89, (.subStr (.t 86) (some (.t 87)) (some (.t 88))), none⟩, ⟨some 90, (.move (.t 0)), none⟩, ⟨some 91, (.move (.t 8)), none⟩]
def s_gnomonref03_Lex_r16 : List AOper := s_gnomonref03_Lex_r16p0 ++ s_gnomonref03_Lex_r16t1
theorem s_gnomonref03_Lex_r16p0_tale (fr : List V) (H : Heap) : evTale (symAll s_gnomonref03_Lex_r16p0 [5, 8, 82, 86, 87, 88] [85, 89, 90, 91]) [5, 8, 82, 86, 87, 88] fr H = evTale (some (92, [], [(85, (.t 5)), (89, (.op (.subStr (.t 0) (some (.t 1)) (some (.t 2))) [(.t 0), (.t 8), (.t 6)])), (90, (.t 0)), (91, (.t 8))])) [5, 8, 82, 86, 87, 88] fr H := tale_row (items := [.tt 5, .tt 0, .tt 8, .tt 6, .sub 1 [] [], .tt 0, .tt 8]) (by kernel_rfl) fr H
theorem s_gnomonref03_Lex_r16_x (call : CallF) (it : IterF) (base : Nat) (f : List V) (H : Heap) : evC call it base (.region s_gnomonref03_Lex_r16 [] [8, 82, 85, 86, 87, 88, 89, 90, 91, 92, 93, 94, 95]) f H = segC call it base s_gnomonref03_Lex_r16t1 [8, 82, 85, 86, 87, 88, 89, 90, 91, 92, 93, 94, 95] H (evTale (symAll s_gnomonref03_Lex_r16p0 [5, 8, 82, 86, 87, 88] [85, 89, 90, 91]) [5, 8, 82, 86, 87, 88] f H) (origRow call it base s_gnomonref03_Lex_r16 [8, 82, 85, 86, 87, 88, 89, 90, 91, 92, 93, 94, 95] f H) := row_seg call it base s_gnomonref03_Lex_r16p0 s_gnomonref03_Lex_r16t1 (by kernel_rfl) f H
theorem s_gnomonref03_Lex_r16t1_x (call : CallF) (it : IterF) (base : Nat) (f : List V) (H : Heap) : evC call it base (.region s_gnomonref03_Lex_r16t1 [] [8, 82, 85, 86, 87, 88, 89, 90, 91, 92, 93, 94, 95]) f H = thenC call it base (.region s_gnomonref03_Lex_r16t2 [] [8, 82, 85, 86, 87, 88, 89, 90, 91, 92, 93, 94, 95]) (opsC [] s_gnomonref03_Lex_r16p1 [90, 91] (evOps call base [⟨some 92, (.call (.c (.fn 24 [] [])) [(.t 90), (.t 91)]), none⟩] f H)) := (row_op call it base s_gnomonref03_Lex_r16p1 s_gnomonref03_Lex_r16t2 (kc := [90, 91]) (by kernel_rfl) f H).trans (by rw [row_ops]; rfl)
theorem s_gnomonref03_Lex_r16p2_tale (fr : List V) (H : Heap) : evTale (symAll s_gnomonref03_Lex_r16p2 [89, 92] [93]) [89, 92] fr H = evTale (some (94, [], [(93, (.op (.build [(.s (.int .u8 0)), (.s (.string ⟨#[]⟩)), (.s (.int .i64 0)), (.s (.int .i64 0)), (.s (.int .i64 0))] [(0, 1), (1, 1), (2, 1), (3, 2)] [(0, (.c (.s (.int .u8 1)))), (1, (.t 1)), (3, (.t 2))]) [(.c (.s (.int .u8 1))), (.t 89), (.t 92)]))])) [89, 92] fr H := tale_row (items := [.sub 0 [] []]) (by kernel_rfl) fr H
theorem s_gnomonref03_Lex_r16t2_x (call : CallF) (it : IterF) (base : Nat) (f : List V) (H : Heap) : evC call it base (.region s_gnomonref03_Lex_r16t2 [] [8, 82, 85, 86, 87, 88, 89, 90, 91, 92, 93, 94, 95]) f H = segC call it base s_gnomonref03_Lex_r16t3 [8, 82, 85, 86, 87, 88, 89, 90, 91, 92, 93, 94, 95] H (evTale (symAll s_gnomonref03_Lex_r16p2 [89, 92] [93]) [89, 92] f H) (origRow call it base s_gnomonref03_Lex_r16t2 [8, 82, 85, 86, 87, 88, 89, 90, 91, 92, 93, 94, 95] f H) := row_seg call it base s_gnomonref03_Lex_r16p2 s_gnomonref03_Lex_r16t3 (by kernel_rfl) f H
theorem s_gnomonref03_Lex_r16t3_x (call : CallF) (it : IterF) (base : Nat) (f : List V) (H : Heap) : evC call it base (.region s_gnomonref03_Lex_r16t3 [] [8, 82, 85, 86, 87, 88, 89, 90, 91, 92, 93, 94, 95]) f H = thenC call it base (.region s_gnomonref03_Lex_r16t4 [] [8, 82, 85, 86, 87, 88, 89, 90, 91, 92, 93, 94, 95]) (opsC [] s_gnomonref03_Lex_r16p3 [93] (evOps call base [⟨some 94, (.buildSl 5 1 [(.s (.int .u8 0)), (.s (.string ⟨#[]⟩)), (.s (.int .i64 0)), (.s (.int .i64 0)), (.s (.int .i64 0))] [(0, (.t 93))]), none⟩] f H)) := (row_op call it base s_gnomonref03_Lex_r16p3 s_gnomonref03_Lex_r16t4 (kc := [93]) (by kernel_rfl) f H).trans (by rw [row_ops]; rfl)
theorem s_gnomonref03_Lex_r16t4_x (call : CallF) (it : IterF) (base : Nat) (f : List V) (H : Heap) : evC call it base (.region s_gnomonref03_Lex_r16t4 [] [8, 82, 85, 86, 87, 88, 89, 90, 91, 92, 93, 94, 95]) f H = thenC call it base (.region s_gnomonref03_Lex_r16t5 [] [8, 82, 85, 86, 87, 88, 89, 90, 91, 92, 93, 94, 95]) (opsC [] s_gnomonref03_Lex_r16p4 [85, 94] (evOps call base [⟨some 95, (.append 5 48 (.t 85) (.t 94)), none⟩] f H)) := (row_op call it base s_gnomonref03_Lex_r16p4 s_gnomonref03_Lex_r16t5 (kc := [85, 94]) (by kernel_rfl) f H).trans (by rw [row_ops]; rfl)
theorem s_gnomonref03_Lex_r16t5_tale (fr : List V) (H : Heap) : evTale (symAll s_gnomonref03_Lex_r16t5 [8, 82, 85, 86, 87, 88, 89, 90, 91, 92, 93, 94, 95] [5]) [8, 82, 85, 86, 87, 88, 89, 90, 91, 92, 93, 94, 95] fr H = evTale (some (6, [], [(5, (.t 95))])) [8, 82, 85, 86, 87, 88, 89, 90, 91, 92, 93, 94, 95] fr H := tale_row (items := [.tt 95]) (by kernel_rfl) fr H
theorem s_gnomonref03_Lex_r16t5_x (call : CallF) (it : IterF) (base : Nat) (f : List V) (H : Heap) : evC call it base (.region s_gnomonref03_Lex_r16t5 [] [8, 82, 85, 86, 87, 88, 89, 90, 91, 92, 93, 94, 95]) f H = segL H (evTale (symAll s_gnomonref03_Lex_r16t5 [8, 82, 85, 86, 87, 88, 89, 90, 91, 92, 93, 94, 95] [5]) [8, 82, 85, 86, 87, 88, 89, 90, 91, 92, 93, 94, 95] f H) (origRow call it base s_gnomonref03_Lex_r16t5 [8, 82, 85, 86, 87, 88, 89, 90, 91, 92, 93, 94, 95] f H) := row_last call it base _ f H
def s_gnomonref03_Lex_r17t2 : List AOper := [⟨some 96, (.move (.t 98)), none⟩]
def s_gnomonref03_Lex_r17p1 : List AOper := [⟨some 98, (.call (.c (.fn 23 [] [])) [(.t 97)]), none⟩]
def s_gnomonref03_Lex_r17t1 : List AOper := s_gnomonref03_Lex_r17p1 ++ s_gnomonref03_Lex_r17t2
def s_gnomonref03_Lex_r17p0 : List AOper := [⟨some 97, (.move (.t 7)), none⟩]
def s_gnomonref03_Lex_r17 : List AOper := s_gnomonref03_Lex_r17p0 ++ s_gnomonref03_Lex_r17t1
theorem s_gnomonref03_Lex_r17p0_tale (fr : List V) (H : Heap) : evTale (symAll s_gnomonref03_Lex_r17p0 [58] [97]) [58] fr H = evTale (some (98, [], [(97, (.t 7))])) [58] fr H := tale_row (items := [.tt 7]) (by kernel_rfl) fr H
theorem s_gnomonref03_Lex_r17_x (call : CallF) (it : IterF) (base : Nat) (f : List V) (H : Heap) : evC call it base (.region s_gnomonref03_Lex_r17 [] [58, 97, 98]) f H = segC call it base s_gnomonref03_Lex_r17t1 [58, 97, 98] H (evTale (symAll s_gnomonref03_Lex_r17p0 [58] [97]) [58] f H) (origRow call it base s_gnomonref03_Lex_r17 [58, 97, 98] f H) := row_seg call it base s_gnomonref03_Lex_r17p0 s_gnomonref03_Lex_r17t1 (by kernel_rfl) f H
theorem s_gnomonref03_Lex_r17t1_x (call : CallF) (it : IterF) (base : Nat) (f : List V) (H : Heap) : evC call it base (.region s_gnomonref03_Lex_r17t1 [] [58, 97, 98]) f H = thenC call it base (.region s_gnomonref03_Lex_r17t2 [] [58, 97, 98]) (opsC [] s_gnomonref03_Lex_r17p1 [97] (evOps call base [⟨some 98, (.call (.c (.fn 23 [] [])) [(.t 97)]), none⟩] f H)) := (row_op call it base s_gnomonref03_Lex_r17p1 s_gnomonref03_Lex_r17t2 (kc := [97]) (by kernel_rfl) f H).trans (by rw [row_ops]; rfl)
theorem s_gnomonref03_Lex_r17t2_tale (fr : List V) (H : Heap) : evTale (symAll s_gnomonref03_Lex_r17t2 [58, 97, 98] [96]) [58, 97, 98] fr H = evTale (some (97, [], [(96, (.t 98))])) [58, 97, 98] fr H := tale_row (items := [.tt 98]) (by kernel_rfl) fr H
theorem s_gnomonref03_Lex_r17t2_x (call : CallF) (it : IterF) (base : Nat) (f : List V) (H : Heap) : evC call it base (.region s_gnomonref03_Lex_r17t2 [] [58, 97, 98]) f H = segL H (evTale (symAll s_gnomonref03_Lex_r17t2 [58, 97, 98] [96]) [58, 97, 98] f H) (origRow call it base s_gnomonref03_Lex_r17t2 [58, 97, 98] f H) := row_last call it base _ f H
def s_gnomonref03_Lex_r18 : List AOper := [
  ⟨some 9, (.move (.c (.s (.int .i64 0)))), none⟩]
theorem s_gnomonref03_Lex_r18_tale (fr : List V) (H : Heap) : evTale (symAll s_gnomonref03_Lex_r18 [96] [9]) [96] fr H = evTale (some (10, [], [(9, (.c (.s (.int .i64 0))))])) [96] fr H := tale_row (items := [.cc (.s (.int .i64 0))]) (by kernel_rfl) fr H
def s_gnomonref03_Lex_r19t5 : List AOper := [⟨some 108, (.pick (.t 103) (.t 107) (.c (.s (.bool false)))), none⟩]
def s_gnomonref03_Lex_r19p4 : List AOper := [⟨some 107, (.call (.c (.fn 23 [] [])) [(.t 106)]), some (103, true)⟩]
def s_gnomonref03_Lex_r19t4 : List AOper := s_gnomonref03_Lex_r19p4 ++ s_gnomonref03_Lex_r19t5
def s_gnomonref03_Lex_r19p3 : List AOper := [⟨some 106, (.indexStr (.t 104) (.t 105)), some (103, true)⟩]
def s_gnomonref03_Lex_r19t3 : List AOper := s_gnomonref03_Lex_r19p3 ++ s_gnomonref03_Lex_r19t4
def s_gnomonref03_Lex_r19p2 : List AOper := [⟨some 105, (.move (.t 6)), some (103, true)⟩]
def s_gnomonref03_Lex_r19t2 : List AOper := s_gnomonref03_Lex_r19p2 ++ s_gnomonref03_Lex_r19t3
def s_gnomonref03_Lex_r19p1 : List AOper := [⟨some 104, (.move (.t 0)), some (103, true)⟩]
def s_gnomonref03_Lex_r19t1 : List AOper := s_gnomonref03_Lex_r19p1 ++ s_gnomonref03_Lex_r19t2
def s_gnomonref03_Lex_r19p0 : List AOper := [⟨some 99, (.move (.t 6)), none⟩, ⟨some 100, (.move (.t 0)), none⟩, ⟨some 101, (.lenS .p (.t 100)), none⟩, ⟨some 102, (.bin .lss (.t 99) (.t 101)), none⟩, ⟨some 103, (.move (.t 102)), none⟩]
def s_gnomonref03_Lex_r19 : List AOper := s_gnomonref03_Lex_r19p0 ++ s_gnomonref03_Lex_r19t1
theorem s_gnomonref03_Lex_r19p0_tale (fr : List V) (H : Heap) : evTale (symAll s_gnomonref03_Lex_r19p0 [99, 100, 101, 102] [103]) [99, 100, 101, 102] fr H = evTale (some (104, [], [(103, (.op (.bin .lss (.t 0) (.t 1)) [(.t 6), (.op (.lenS .p (.t 0)) [(.t 0)])]))])) [99, 100, 101, 102] fr H := tale_row (items := [.tt 6, .tt 0, .sub 0 [1] [], .sub 0 [] [], .sub 0 [] []]) (by kernel_rfl) fr H
theorem s_gnomonref03_Lex_r19_x (call : CallF) (it : IterF) (base : Nat) (f : List V) (H : Heap) : evC call it base (.region s_gnomonref03_Lex_r19 [] [99, 100, 101, 102, 103, 104, 105, 106, 107]) f H = segC call it base s_gnomonref03_Lex_r19t1 [99, 100, 101, 102, 103, 104, 105, 106, 107] H (evTale (symAll s_gnomonref03_Lex_r19p0 [99, 100, 101, 102] [103]) [99, 100, 101, 102] f H) (origRow call it base s_gnomonref03_Lex_r19 [99, 100, 101, 102, 103, 104, 105, 106, 107] f H) := row_seg call it base s_gnomonref03_Lex_r19p0 s_gnomonref03_Lex_r19t1 (by kernel_rfl) f H
theorem s_gnomonref03_Lex_r19t1_x (call : CallF) (it : IterF) (base : Nat) (f : List V) (H : Heap) : evC call it base (.region s_gnomonref03_Lex_r19t1 [] [99, 100, 101, 102, 103, 104, 105, 106, 107]) f H = thenC call it base (.region s_gnomonref03_Lex_r19t2 [] [99, 100, 101, 102, 103, 104, 105, 106, 107]) (opsC [] s_gnomonref03_Lex_r19p1 [] (evOps call base [⟨some 104, (.move (.t 0)), some (103, true)⟩] f H)) := (row_op call it base s_gnomonref03_Lex_r19p1 s_gnomonref03_Lex_r19t2 (kc := []) (by kernel_rfl) f H).trans (by rw [row_ops]; rfl)
theorem s_gnomonref03_Lex_r19t2_x (call : CallF) (it : IterF) (base : Nat) (f : List V) (H : Heap) : evC call it base (.region s_gnomonref03_Lex_r19t2 [] [99, 100, 101, 102, 103, 104, 105, 106, 107]) f H = thenC call it base (.region s_gnomonref03_Lex_r19t3 [] [99, 100, 101, 102, 103, 104, 105, 106, 107]) (opsC [] s_gnomonref03_Lex_r19p2 [] (evOps call base [⟨some 105, (.move (.t 6)), some (103, true)⟩] f H)) := (row_op call it base s_gnomonref03_Lex_r19p2 s_gnomonref03_Lex_r19t3 (kc := []) (by kernel_rfl) f H).trans (by rw [row_ops]; rfl)
theorem s_gnomonref03_Lex_r19t3_x (call : CallF) (it : IterF) (base : Nat) (f : List V) (H : Heap) : evC call it base (.region s_gnomonref03_Lex_r19t3 [] [99, 100, 101, 102, 103, 104, 105, 106, 107]) f H = thenC call it base (.region s_gnomonref03_Lex_r19t4 [] [99, 100, 101, 102, 103, 104, 105, 106, 107]) (opsC [] s_gnomonref03_Lex_r19p3 [104, 105] (evOps call base [⟨some 106, (.indexStr (.t 104) (.t 105)), some (103, true)⟩] f H)) := (row_op call it base s_gnomonref03_Lex_r19p3 s_gnomonref03_Lex_r19t4 (kc := [104, 105]) (by kernel_rfl) f H).trans (by rw [row_ops]; rfl)
theorem s_gnomonref03_Lex_r19t4_x (call : CallF) (it : IterF) (base : Nat) (f : List V) (H : Heap) : evC call it base (.region s_gnomonref03_Lex_r19t4 [] [99, 100, 101, 102, 103, 104, 105, 106, 107]) f H = thenC call it base (.region s_gnomonref03_Lex_r19t5 [] [99, 100, 101, 102, 103, 104, 105, 106, 107]) (opsC [] s_gnomonref03_Lex_r19p4 [106] (evOps call base [⟨some 107, (.call (.c (.fn 23 [] [])) [(.t 106)]), some (103, true)⟩] f H)) := (row_op call it base s_gnomonref03_Lex_r19p4 s_gnomonref03_Lex_r19t5 (kc := [106]) (by kernel_rfl) f H).trans (by rw [row_ops]; rfl)
theorem s_gnomonref03_Lex_r19t5_tale (fr : List V) (H : Heap) : evTale (symAll s_gnomonref03_Lex_r19t5 [99, 100, 101, 102, 103, 104, 105, 106, 107] [108]) [99, 100, 101, 102, 103, 104, 105, 106, 107] fr H = evTale (some (109, [], [(108, (.pick (.t 103) (.t 107) (.c (.s (.bool false)))))])) [99, 100, 101, 102, 103, 104, 105, 106, 107] fr H := tale_row (items := [.sub 0 [] []]) (by kernel_rfl) fr H
theorem s_gnomonref03_Lex_r19t5_x (call : CallF) (it : IterF) (base : Nat) (f : List V) (H : Heap) : evC call it base (.region s_gnomonref03_Lex_r19t5 [] [99, 100, 101, 102, 103, 104, 105, 106, 107]) f H = segL H (evTale (symAll s_gnomonref03_Lex_r19t5 [99, 100, 101, 102, 103, 104, 105, 106, 107] [108]) [99, 100, 101, 102, 103, 104, 105, 106, 107] f H) (origRow call it base s_gnomonref03_Lex_r19t5 [99, 100, 101, 102, 103, 104, 105, 106, 107] f H) := row_last call it base _ f H
def s_gnomonref03_Lex_r20 : List AOper := [
  ⟨some 109, (.move (.t 6)), none⟩,
  ⟨some 110, (.move (.t 8)), none⟩,
  ⟨some 111, (.bin .sub (.t 109) (.t 110)), none⟩,
  ⟨some 112, (.bin .lss (.t 111) (.c (.s (.int .i64 9)))), none⟩]
theorem s_gnomonref03_Lex_r20_tale (fr : List V) (H : Heap) : evTale (symAll s_gnomonref03_Lex_r20 [108, 109, 110, 111] [112]) [108, 109, 110, 111] fr H = evTale (some (113, [], [(112, (.op (.bin .lss (.t 0) (.c (.s (.int .i64 9)))) [(.op (.bin .sub (.t 0) (.t 1)) [(.t 6), (.t 8)]), (.c (.s (.int .i64 9)))]))])) [108, 109, 110, 111] fr H := tale_row (items := [.tt 6, .tt 8, .sub 0 [0] [], .sub 0 [] []]) (by kernel_rfl) fr H
def s_gnomonref03_Lex_r21 : List AOper := [
  ⟨some 113, (.move (.t 9)), none⟩,
  ⟨some 114, (.bin .mul (.c (.s (.int .i64 10))) (.t 113)), none⟩,
  ⟨some 115, (.move (.t 0)), none⟩,
  ⟨some 116, (.move (.t 6)), none⟩,
  ⟨some 117, (.indexStr (.t 115) (.t 116)), none⟩,
  ⟨some 118, (.bin .sub (.t 117) (.c (.s (.int .u8 48)))), none⟩,
  ⟨some 119, (.conv .i64 (.t 118)), none⟩,
  ⟨some 120, (.bin .add (.t 114) (.t 119)), none⟩,
  ⟨some 9, (.move (.t 120)), none⟩]
theorem s_gnomonref03_Lex_r21_tale (fr : List V) (H : Heap) : evTale (symAll s_gnomonref03_Lex_r21 [112, 113, 114, 115, 116, 117, 118, 119, 120] [9]) [112, 113, 114, 115, 116, 117, 118, 119, 120] fr H = evTale (some (121, [], [(9, (.op (.bin .add (.t 0) (.t 1)) [(.op (.bin .mul (.c (.s (.int .i64 10))) (.t 1)) [(.c (.s (.int .i64 10))), (.t 9)]), (.op (.conv .i64 (.t 0)) [(.op (.bin .sub (.t 0) (.c (.s (.int .u8 48)))) [(.op (.indexStr (.t 0) (.t 1)) [(.t 0), (.t 6)]), (.c (.s (.int .u8 48)))])])]))])) [112, 113, 114, 115, 116, 117, 118, 119, 120] fr H := tale_row (items := [.tt 9, .sub 0 [0] [], .tt 0, .tt 6, .sub 0 [1, 0, 0] [], .sub 0 [1, 0] [], .sub 0 [1] [], .sub 0 [] [], .sub 0 [] []]) (by kernel_rfl) fr H
def s_gnomonref03_Lex_r22 : List AOper := [
  ⟨some 121, (.move (.t 6)), none⟩,
  ⟨some 122, (.bin .add (.t 121) (.c (.s (.int .i64 1)))), none⟩,
  ⟨some 6, (.move (.t 122)), none⟩]
theorem s_gnomonref03_Lex_r22_tale (fr : List V) (H : Heap) : evTale (symAll s_gnomonref03_Lex_r22 [112, 121, 122] [6]) [112, 121, 122] fr H = evTale (some (123, [], [(6, (.op (.bin .add (.t 0) (.c (.s (.int .i64 1)))) [(.t 6), (.c (.s (.int .i64 1)))]))])) [112, 121, 122] fr H := tale_row (items := [.tt 6, .sub 0 [] [], .sub 0 [] []]) (by kernel_rfl) fr H
def s_gnomonref03_Lex_l2_b : ACode :=
  (.seq (.seq (.region s_gnomonref03_Lex_r19 [] [99, 100, 101, 102, 103, 104, 105, 106, 107])
  (.cond (.t 108)
  .skip
  (.exit 7)))
  (.block 8
  (.seq (.seq (.regionE s_gnomonref03_Lex_r20 [108, 109, 110, 111] [112])
  (.cond (.t 112)
  (.regionE s_gnomonref03_Lex_r21 [112, 113, 114, 115, 116, 117, 118, 119, 120] [9])
  .skip))
  (.regionE s_gnomonref03_Lex_r22 [112, 121, 122] [6]))))
def s_gnomonref03_Lex_l2 : ACode := s_gnomonref03_Lex_l2_b
theorem s_gnomonref03_Lex_l2_ev (call : CallF) (it : IterF) (base : Nat) (fr : List V) (H : Heap) : evC call it base s_gnomonref03_Lex_l2 fr H = evC call it base s_gnomonref03_Lex_l2_b fr H := rfl
def s_gnomonref03_Lex_r23t5 : List AOper := [⟨some 132, (.move (.t 131)), some (127, true)⟩, ⟨some 133, (.move (.t 0)), some (132, false)⟩, ⟨some 134, (.move (.t 6)), some (132, false)⟩, ⟨some 135, (.indexStr (.t 133) (.t 134)), some (132, false)⟩, ⟨some 136, (.bin .eql (.t 135) (.c (.s (.int .u8 46)))), some (132, false)⟩, ⟨some 137, (.pick (.t 132) (.c (.s (.bool true))) (.t 136)), some (127, true)⟩, ⟨some 138, (.pick (.t 127) (.t 137) (.c (.s (.bool false)))), none⟩, ⟨some 10, (.move (.t 138)), none⟩]
def s_gnomonref03_Lex_r23p4 : List AOper := [⟨some 131, (.call (.c (.fn 22 [] [])) [(.t 130)]), some (127, true)⟩]
def s_gnomonref03_Lex_r23t4 : List AOper := s_gnomonref03_Lex_r23p4 ++ s_gnomonref03_Lex_r23t5
def s_gnomonref03_Lex_r23p3 : List AOper := [⟨some 130, (.indexStr (.t 128) (.t 129)), some (127, true)⟩]
def s_gnomonref03_Lex_r23t3 : List AOper := s_gnomonref03_Lex_r23p3 ++ s_gnomonref03_Lex_r23t4
def s_gnomonref03_Lex_r23p2 : List AOper := [⟨some 129, (.move (.t 6)), some (127, true)⟩]
def s_gnomonref03_Lex_r23t2 : List AOper := s_gnomonref03_Lex_r23p2 ++ s_gnomonref03_Lex_r23t3
def s_gnomonref03_Lex_r23p1 : List AOper := [⟨some 128, (.move (.t 0)), some (127, true)⟩]
def s_gnomonref03_Lex_r23t1 : List AOper := s_gnomonref03_Lex_r23p1 ++ s_gnomonref03_Lex_r23t2
def s_gnomonref03_Lex_r23p0 : List AOper := [⟨some 123, (.move (.t 6)), none⟩, ⟨some 124, (.move (.t 0)), none⟩, ⟨some 125, (.lenS .p (.t 124)), none⟩, ⟨some 126, (.bin .lss (.t 123) (.t 125)), none⟩, ⟨some 127, (.move (.t 126)), none⟩]
def s_gnomonref03_Lex_r23 : List AOper := s_gnomonref03_Lex_r23p0 ++ s_gnomonref03_Lex_r23t1
theorem s_gnomonref03_Lex_r23p0_tale (fr : List V) (H : Heap) : evTale (symAll s_gnomonref03_Lex_r23p0 [108, 123, 124, 125, 126] [127]) [108, 123, 124, 125, 126] fr H = evTale (some (128, [], [(127, (.op (.bin .lss (.t 0) (.t 1)) [(.t 6), (.op (.lenS .p (.t 0)) [(.t 0)])]))])) [108, 123, 124, 125, 126] fr H := tale_row (items := [.tt 6, .tt 0, .sub 0 [1] [], .sub 0 [] [], .sub 0 [] []]) (by kernel_rfl) fr H
theorem s_gnomonref03_Lex_r23_x (call : CallF) (it : IterF) (base : Nat) (f : List V) (H : Heap) : evC call it base (.region s_gnomonref03_Lex_r23 [] [108, 123, 124, 125, 126, 127, 128, 129, 130, 131, 132, 133, 134, 135, 136, 137, 138]) f H = segC call it base s_gnomonref03_Lex_r23t1 [108, 123, 124, 125, 126, 127, 128, 129, 130, 131, 132, 133, 134, 135, 136, 137, 138] H (evTale (symAll s_gnomonref03_Lex_r23p0 [108, 123, 124, 125, 126] [127]) [108, 123, 124, 125, 126] f H) (origRow call it base s_gnomonref03_Lex_r23 [108, 123, 124, 125, 126, 127, 128, 129, 130, 131, 132, 133, 134, 135, 136, 137, 138] f H) := row_seg call it base s_gnomonref03_Lex_r23p0 s_gnomonref03_Lex_r23t1 (by kernel_rfl) f H
theorem s_gnomonref03_Lex_r23t1_x (call : CallF) (it : IterF) (base : Nat) (f : List V) (H : Heap) : evC call it base (.region s_gnomonref03_Lex_r23t1 [] [108, 123, 124, 125, 126, 127, 128, 129, 130, 131, 132, 133, 134, 135, 136, 137, 138]) f H = thenC call it base (.region s_gnomonref03_Lex_r23t2 [] [108, 123, 124, 125, 126, 127, 128, 129, 130, 131, 132, 133, 134, 135, 136, 137, 138]) (opsC [] s_gnomonref03_Lex_r23p1 [] (evOps call base [⟨some 128, (.move (.t 0)), some (127, true)⟩] f H)) := (row_op call it base s_gnomonref03_Lex_r23p1 s_gnomonref03_Lex_r23t2 (kc := []) (by kernel_rfl) f H).trans (by rw [row_ops]; rfl)
theorem s_gnomonref03_Lex_r23t2_x (call : CallF) (it : IterF) (base : Nat) (f : List V) (H : Heap) : evC call it base (.region s_gnomonref03_Lex_r23t2 [] [108, 123, 124, 125, 126, 127, 128, 129, 130, 131, 132, 133, 134, 135, 136, 137, 138]) f H = thenC call it base (.region s_gnomonref03_Lex_r23t3 [] [108, 123, 124, 125, 126, 127, 128, 129, 130, 131, 132, 133, 134, 135, 136, 137, 138]) (opsC [] s_gnomonref03_Lex_r23p2 [] (evOps call base [⟨some 129, (.move (.t 6)), some (127, true)⟩] f H)) := (row_op call it base s_gnomonref03_Lex_r23p2 s_gnomonref03_Lex_r23t3 (kc := []) (by kernel_rfl) f H).trans (by rw [row_ops]; rfl)
theorem s_gnomonref03_Lex_r23t3_x (call : CallF) (it : IterF) (base : Nat) (f : List V) (H : Heap) : evC call it base (.region s_gnomonref03_Lex_r23t3 [] [108, 123, 124, 125, 126, 127, 128, 129, 130, 131, 132, 133, 134, 135, 136, 137, 138]) f H = thenC call it base (.region s_gnomonref03_Lex_r23t4 [] [108, 123, 124, 125, 126, 127, 128, 129, 130, 131, 132, 133, 134, 135, 136, 137, 138]) (opsC [] s_gnomonref03_Lex_r23p3 [128, 129] (evOps call base [⟨some 130, (.indexStr (.t 128) (.t 129)), some (127, true)⟩] f H)) := (row_op call it base s_gnomonref03_Lex_r23p3 s_gnomonref03_Lex_r23t4 (kc := [128, 129]) (by kernel_rfl) f H).trans (by rw [row_ops]; rfl)
theorem s_gnomonref03_Lex_r23t4_x (call : CallF) (it : IterF) (base : Nat) (f : List V) (H : Heap) : evC call it base (.region s_gnomonref03_Lex_r23t4 [] [108, 123, 124, 125, 126, 127, 128, 129, 130, 131, 132, 133, 134, 135, 136, 137, 138]) f H = thenC call it base (.region s_gnomonref03_Lex_r23t5 [] [108, 123, 124, 125, 126, 127, 128, 129, 130, 131, 132, 133, 134, 135, 136, 137, 138]) (opsC [] s_gnomonref03_Lex_r23p4 [130] (evOps call base [⟨some 131, (.call (.c (.fn 22 [] [])) [(.t 130)]), some (127, true)⟩] f H)) := (row_op call it base s_gnomonref03_Lex_r23p4 s_gnomonref03_Lex_r23t5 (kc := [130]) (by kernel_rfl) f H).trans (by rw [row_ops]; rfl)
theorem s_gnomonref03_Lex_r23t5_tale (fr : List V) (H : Heap) : evTale (symAll s_gnomonref03_Lex_r23t5 [108, 123, 124, 125, 126, 127, 128, 129, 130, 131, 132, 133, 134, 135, 136, 137, 138] [10]) [108, 123, 124, 125, 126, 127, 128, 129, 130, 131, 132, 133, 134, 135, 136, 137, 138] fr H = evTale (some (139, [], [(10, (.pick (.t 127) (.pick (.t 131) (.c (.s (.bool true))) (.op (.bin .eql (.t 0) (.c (.s (.int .u8 46)))) [(.op (.indexStr (.t 0) (.t 1)) [(.t 0), (.t 6)]), (.c (.s (.int .u8 46)))])) (.c (.s (.bool false)))))])) [108, 123, 124, 125, 126, 127, 128, 129, 130, 131, 132, 133, 134, 135, 136, 137, 138] fr H := tale_row (items := [.sub 0 [1, 0] [127], .sub 0 [1, 2, 0, 0] [127, 132], .sub 0 [1, 2, 0, 1] [127, 132], .sub 0 [1, 2, 0] [127, 132], .sub 0 [1, 2] [127, 132], .sub 0 [1] [127], .sub 0 [] [], .sub 0 [] []]) (by kernel_rfl) fr H
theorem s_gnomonref03_Lex_r23t5_x (call : CallF) (it : IterF) (base : Nat) (f : List V) (H : Heap) : evC call it base (.region s_gnomonref03_Lex_r23t5 [] [108, 123, 124, 125, 126, 127, 128, 129, 130, 131, 132, 133, 134, 135, 136, 137, 138]) f H = segL H (evTale (symAll s_gnomonref03_Lex_r23t5 [108, 123, 124, 125, 126, 127, 128, 129, 130, 131, 132, 133, 134, 135, 136, 137, 138] [10]) [108, 123, 124, 125, 126, 127, 128, 129, 130, 131, 132, 133, 134, 135, 136, 137, 138] f H) (origRow call it base s_gnomonref03_Lex_r23t5 [108, 123, 124, 125, 126, 127, 128, 129, 130, 131, 132, 133, 134, 135, 136, 137, 138] f H) := row_last call it base _ f H
def s_gnomonref03_Lex_r24 : List AOper := [
  ⟨some 139, (.move (.t 6)), none⟩,
  ⟨some 140, (.move (.t 8)), none⟩,
  ⟨some 141, (.bin .sub (.t 139) (.t 140)), none⟩,
  ⟨some 142, (.bin .gtr (.t 141) (.c (.s (.int .i64 9)))), none⟩,
  ⟨some 143, (.move (.t 142)), none⟩,
  ⟨some 144, (.move (.t 6)), some (143, false)⟩,
  ⟨some 145, (.move (.t 8)), some (143, false)⟩,
  ⟨some 146, (.bin .sub (.t 144) (.t 145)), some (143, false)⟩,
  ⟨some 147, (.bin .gtr (.t 146) (.c (.s (.int .i64 1)))), some (143, false)⟩,
  ⟨some 148, (.move (.t 147)), some (143, false)⟩,
  ⟨some 149, (.move (.t 7)), some (148, true)⟩,
  ⟨some 150, (.bin .eql (.t 149) (.c (.s (.int .u8 48)))), some (148, true)⟩,
  ⟨some 151, (.pick (.t 148) (.t 150) (.c (.s (.bool false)))), some (143, false)⟩,
  ⟨some 152, (.pick (.t 143) (.c (.s (.bool true))) (.t 151)), none⟩,
  ⟨some 153, (.move (.t 152)), none⟩,
  ⟨some 154, (.move (.t 10)), some (153, false)⟩,
  ⟨some 155, (.pick (.t 153) (.c (.s (.bool true))) (.t 154)), none⟩]
theorem s_gnomonref03_Lex_r24_tale (fr : List V) (H : Heap) : evTale (symAll s_gnomonref03_Lex_r24 [7, 10, 139, 140, 141, 142, 143, 144, 145, 146, 147, 148, 149, 150, 151, 152, 153, 154] [155]) [7, 10, 139, 140, 141, 142, 143, 144, 145, 146, 147, 148, 149, 150, 151, 152, 153, 154] fr H = evTale (some (156, [], [(155, (.pick (.pick (.op (.bin .gtr (.t 0) (.c (.s (.int .i64 9)))) [(.op (.bin .sub (.t 0) (.t 1)) [(.t 6), (.t 8)]), (.c (.s (.int .i64 9)))]) (.c (.s (.bool true))) (.pick (.op (.bin .gtr (.t 0) (.c (.s (.int .i64 1)))) [(.op (.bin .sub (.t 0) (.t 1)) [(.t 6), (.t 8)]), (.c (.s (.int .i64 1)))]) (.op (.bin .eql (.t 0) (.c (.s (.int .u8 48)))) [(.t 7), (.c (.s (.int .u8 48)))]) (.c (.s (.bool false))))) (.c (.s (.bool true))) (.t 10)))])) [7, 10, 139, 140, 141, 142, 143, 144, 145, 146, 147, 148, 149, 150, 151, 152, 153, 154] fr H := tale_row (items := [.tt 6, .tt 8, .sub 0 [0, 0, 0] [], .sub 0 [0, 0] [], .sub 0 [0, 0] [], .sub 0 [0, 2, 0, 0, 0] [143], .sub 0 [0, 2, 0, 0, 1] [143], .sub 0 [0, 2, 0, 0] [143], .sub 0 [0, 2, 0] [143], .sub 0 [0, 2, 0] [143], .sub 0 [0, 2, 1, 0] [143, 148], .sub 0 [0, 2, 1] [143, 148], .sub 0 [0, 2] [143], .sub 0 [0] [], .sub 0 [0] [], .sub 0 [2] [153], .sub 0 [] []]) (by kernel_rfl) fr H
def s_gnomonref03_Lex_r25t4 : List AOper := [⟨some 4, (.move (.c (.s (.int .i64 31)))), none⟩]
def s_gnomonref03_Lex_r25p3 : List AOper := [⟨none, (.store 2 (.t 3) (.t 158)), none⟩]
def s_gnomonref03_Lex_r25t3 : List AOper := s_gnomonref03_Lex_r25p3 ++ s_gnomonref03_Lex_r25t4
def s_gnomonref03_Lex_r25p2 : List AOper := [⟨some 2, (.move (.c (.s (.slice none 0 0)))), none⟩]
def s_gnomonref03_Lex_r25t2 : List AOper := s_gnomonref03_Lex_r25p2 ++ s_gnomonref03_Lex_r25t3
def s_gnomonref03_Lex_r25p1 : List AOper := [⟨some 158, (.call (.c (.fn 24 [] [])) [(.t 156), (.t 157)]), none⟩]
def s_gnomonref03_Lex_r25t1 : List AOper := s_gnomonref03_Lex_r25p1 ++ s_gnomonref03_Lex_r25t2
def s_gnomonref03_Lex_r25p0 : List AOper := [⟨some 156, (.move (.t 0)), none⟩, ⟨some 157, (.move (.t 8)), none⟩]
def s_gnomonref03_Lex_r25 : List AOper := s_gnomonref03_Lex_r25p0 ++ s_gnomonref03_Lex_r25t1
theorem s_gnomonref03_Lex_r25p0_tale (fr : List V) (H : Heap) : evTale (symAll s_gnomonref03_Lex_r25p0 [0, 5, 6, 8, 9, 155] [156, 157]) [0, 5, 6, 8, 9, 155] fr H = evTale (some (158, [], [(156, (.t 0)), (157, (.t 8))])) [0, 5, 6, 8, 9, 155] fr H := tale_row (items := [.tt 0, .tt 8]) (by kernel_rfl) fr H
theorem s_gnomonref03_Lex_r25_x (call : CallF) (it : IterF) (base : Nat) (f : List V) (H : Heap) : evC call it base (.region s_gnomonref03_Lex_r25 [] [0, 5, 6, 8, 9, 155, 156, 157, 158]) f H = segC call it base s_gnomonref03_Lex_r25t1 [0, 5, 6, 8, 9, 155, 156, 157, 158] H (evTale (symAll s_gnomonref03_Lex_r25p0 [0, 5, 6, 8, 9, 155] [156, 157]) [0, 5, 6, 8, 9, 155] f H) (origRow call it base s_gnomonref03_Lex_r25 [0, 5, 6, 8, 9, 155, 156, 157, 158] f H) := row_seg call it base s_gnomonref03_Lex_r25p0 s_gnomonref03_Lex_r25t1 (by kernel_rfl) f H
theorem s_gnomonref03_Lex_r25t1_x (call : CallF) (it : IterF) (base : Nat) (f : List V) (H : Heap) : evC call it base (.region s_gnomonref03_Lex_r25t1 [] [0, 5, 6, 8, 9, 155, 156, 157, 158]) f H = thenC call it base (.region s_gnomonref03_Lex_r25t2 [] [0, 5, 6, 8, 9, 155, 156, 157, 158]) (opsC [] s_gnomonref03_Lex_r25p1 [156, 157] (evOps call base [⟨some 158, (.call (.c (.fn 24 [] [])) [(.t 156), (.t 157)]), none⟩] f H)) := (row_op call it base s_gnomonref03_Lex_r25p1 s_gnomonref03_Lex_r25t2 (kc := [156, 157]) (by kernel_rfl) f H).trans (by rw [row_ops]; rfl)
theorem s_gnomonref03_Lex_r25p2_tale (fr : List V) (H : Heap) : evTale (symAll s_gnomonref03_Lex_r25p2 [] [2]) [] fr H = evTale (some (3, [], [(2, (.c (.s (.slice none 0 0))))])) [] fr H := tale_row (items := [.cc (.s (.slice none 0 0))]) (by kernel_rfl) fr H
theorem s_gnomonref03_Lex_r25t2_x (call : CallF) (it : IterF) (base : Nat) (f : List V) (H : Heap) : evC call it base (.region s_gnomonref03_Lex_r25t2 [] [0, 5, 6, 8, 9, 155, 156, 157, 158]) f H = segC call it base s_gnomonref03_Lex_r25t3 [0, 5, 6, 8, 9, 155, 156, 157, 158] H (evTale (symAll s_gnomonref03_Lex_r25p2 [] [2]) [] f H) (origRow call it base s_gnomonref03_Lex_r25t2 [0, 5, 6, 8, 9, 155, 156, 157, 158] f H) := row_seg call it base s_gnomonref03_Lex_r25p2 s_gnomonref03_Lex_r25t3 (by kernel_rfl) f H
theorem s_gnomonref03_Lex_r25t3_x (call : CallF) (it : IterF) (base : Nat) (f : List V) (H : Heap) : evC call it base (.region s_gnomonref03_Lex_r25t3 [] [0, 5, 6, 8, 9, 155, 156, 157, 158]) f H = thenC call it base (.region s_gnomonref03_Lex_r25t4 [] [0, 5, 6, 8, 9, 155, 156, 157, 158]) (opsC [] s_gnomonref03_Lex_r25p3 [158] (evOps call base [⟨none, (.store 2 (.t 3) (.t 158)), none⟩] f H)) := (row_op call it base s_gnomonref03_Lex_r25p3 s_gnomonref03_Lex_r25t4 (kc := [158]) (by kernel_rfl) f H).trans (by rw [row_ops]; rfl)
theorem s_gnomonref03_Lex_r25t4_tale (fr : List V) (H : Heap) : evTale (symAll s_gnomonref03_Lex_r25t4 [0, 5, 6, 8, 9, 155, 156, 157, 158] [4]) [0, 5, 6, 8, 9, 155, 156, 157, 158] fr H = evTale (some (5, [], [(4, (.c (.s (.int .i64 31))))])) [0, 5, 6, 8, 9, 155, 156, 157, 158] fr H := tale_row (items := [.cc (.s (.int .i64 31))]) (by kernel_rfl) fr H
theorem s_gnomonref03_Lex_r25t4_x (call : CallF) (it : IterF) (base : Nat) (f : List V) (H : Heap) : evC call it base (.region s_gnomonref03_Lex_r25t4 [] [0, 5, 6, 8, 9, 155, 156, 157, 158]) f H = segL H (evTale (symAll s_gnomonref03_Lex_r25t4 [0, 5, 6, 8, 9, 155, 156, 157, 158] [4]) [0, 5, 6, 8, 9, 155, 156, 157, 158] f H) (origRow call it base s_gnomonref03_Lex_r25t4 [0, 5, 6, 8, 9, 155, 156, 157, 158] f H) := row_last call it base _ f H
def s_gnomonref03_Lex_r26t5 : List AOper := [⟨some 5, (.move (.t 170)), none⟩]
def s_gnomonref03_Lex_r26p4 : List AOper := [⟨some 170, (.append 5 48 (.t 159) (.t 169)), none⟩]
def s_gnomonref03_Lex_r26t4 : List AOper := s_gnomonref03_Lex_r26p4 ++ s_gnomonref03_Lex_r26t5
def s_gnomonref03_Lex_r26p3 : List AOper := [⟨some 169, (.buildSl 5 1 [(.s (.int .u8 0)), (.s (.string ⟨#[]⟩)), (.s (.int .i64 0)), (.s (.int .i64 0)), (.s (.int .i64 0))] [(0, (.t 168))]), none⟩]
def s_gnomonref03_Lex_r26t3 : List AOper := s_gnomonref03_Lex_r26p3 ++ s_gnomonref03_Lex_r26t4
def s_gnomonref03_Lex_r26p2 : List AOper := [⟨some 168, (.build [(.s (.int .u8 0)), (.s (.string ⟨#[]⟩)), (.s (.int .i64 0)), (.s (.int .i64 0)), (.s (.int .i64 0))] [(0, 1), (1, 1), (2, 1), (3, 2)] [(0, (.c (.s (.int .u8 2)))), (1, (.t 163)), (2, (.t 164)), (3, (.t 167))]), none⟩]
def s_gnomonref03_Lex_r26t2 : List AOper := s_gnomonref03_Lex_r26p2 ++ s_gnomonref03_Lex_r26t3
def s_gnomonref03_Lex_r26p1 : List AOper := [⟨some 167, (.call (.c (.fn 24 [] [])) [(.t 165), (.t 166)]), none⟩]
def s_gnomonref03_Lex_r26t1 : List AOper := s_gnomonref03_Lex_r26p1 ++ s_gnomonref03_Lex_r26t2
def s_gnomonref03_Lex_r26p0 : List AOper := [⟨some 159, (.move (.t 5)), none⟩, ⟨some 160, (.move (.t 0)), none⟩, ⟨some 161, (.move (.t 8)), none⟩, ⟨some 162, (.move (.t 6)), none⟩, ⟨some 163, (.subStr (.t 160) (some (.t 161)) (some (.t 162))), none⟩, ⟨some 164, (.move (.t 9)), none⟩, ⟨some 165, (.move (.t 0)), none⟩, ⟨some 166, (.move (.t 8)), none⟩]
def s_gnomonref03_Lex_r26 : List AOper := s_gnomonref03_Lex_r26p0 ++ s_gnomonref03_Lex_r26t1
theorem s_gnomonref03_Lex_r26p0_tale (fr : List V) (H : Heap) : evTale (symAll s_gnomonref03_Lex_r26p0 [5, 8, 9, 155, 160, 161, 162] [159, 163, 164, 165, 166]) [5, 8, 9, 155, 160, 161, 162] fr H = evTale (some (167, [], [(159, (.t 5)), (163, (.op (.subStr (.t 0) (some (.t 1)) (some (.t 2))) [(.t 0), (.t 8), (.t 6)])), (164, (.t 9)), (165, (.t 0)), (166, (.t 8))])) [5, 8, 9, 155, 160, 161, 162] fr H := tale_row (items := [.tt 5, .tt 0, .tt 8, .tt 6, .sub 1 [] [], .tt 9, .tt 0, .tt 8]) (by kernel_rfl) fr H
theorem s_gnomonref03_Lex_r26_x (call : CallF) (it : IterF) (base : Nat) (f : List V) (H : Heap) : evC call it base (.region s_gnomonref03_Lex_r26 [] [8, 9, 155, 159, 160, 161, 162, 163, 164, 165, 166, 167, 168, 169, 170]) f H = segC call it base s_gnomonref03_Lex_r26t1 [8, 9, 155, 159, 160, 161, 162, 163, 164, 165, 166, 167, 168, 169, 170] H (evTale (symAll s_gnomonref03_Lex_r26p0 [5, 8, 9, 155, 160, 161, 162] [159, 163, 164, 165, 166]) [5, 8, 9, 155, 160, 161, 162] f H) (origRow call it base s_gnomonref03_Lex_r26 [8, 9, 155, 159, 160, 161, 162, 163, 164, 165, 166, 167, 168, 169, 170] f H) := row_seg call it base s_gnomonref03_Lex_r26p0 s_gnomonref03_Lex_r26t1 (by kernel_rfl) f H
theorem s_gnomonref03_Lex_r26t1_x (call : CallF) (it : IterF) (base : Nat) (f : List V) (H : Heap) : evC call it base (.region s_gnomonref03_Lex_r26t1 [] [8, 9, 155, 159, 160, 161, 162, 163, 164, 165, 166, 167, 168, 169, 170]) f H = thenC call it base (.region s_gnomonref03_Lex_r26t2 [] [8, 9, 155, 159, 160, 161, 162, 163, 164, 165, 166, 167, 168, 169, 170]) (opsC [] s_gnomonref03_Lex_r26p1 [165, 166] (evOps call base [⟨some 167, (.call (.c (.fn 24 [] [])) [(.t 165), (.t 166)]), none⟩] f H)) := (row_op call it base s_gnomonref03_Lex_r26p1 s_gnomonref03_Lex_r26t2 (kc := [165, 166]) (by kernel_rfl) f H).trans (by rw [row_ops]; rfl)
theorem s_gnomonref03_Lex_r26p2_tale (fr : List V) (H : Heap) : evTale (symAll s_gnomonref03_Lex_r26p2 [163, 164, 167] [168]) [163, 164, 167] fr H = evTale (some (169, [], [(168, (.op (.build [(.s (.int .u8 0)), (.s (.string ⟨#[]⟩)), (.s (.int .i64 0)), (.s (.int .i64 0)), (.s (.int .i64 0))] [(0, 1), (1, 1), (2, 1), (3, 2)] [(0, (.c (.s (.int .u8 2)))), (1, (.t 1)), (2, (.t 2)), (3, (.t 3))]) [(.c (.s (.int .u8 2))), (.t 163), (.t 164), (.t 167)]))])) [163, 164, 167] fr H := tale_row (items := [.sub 0 [] []]) (by kernel_rfl) fr H
theorem s_gnomonref03_Lex_r26t2_x (call : CallF) (it : IterF) (base : Nat) (f : List V) (H : Heap) : evC call it base (.region s_gnomonref03_Lex_r26t2 [] [8, 9, 155, 159, 160, 161, 162, 163, 164, 165, 166, 167, 168, 169, 170]) f H = segC call it base s_gnomonref03_Lex_r26t3 [8, 9, 155, 159, 160, 161, 162, 163, 164, 165, 166, 167, 168, 169, 170] H (evTale (symAll s_gnomonref03_Lex_r26p2 [163, 164, 167] [168]) [163, 164, 167] f H) (origRow call it base s_gnomonref03_Lex_r26t2 [8, 9, 155, 159, 160, 161, 162, 163, 164, 165, 166, 167, 168, 169, 170] f H) := row_seg call it base s_gnomonref03_Lex_r26p2 s_gnomonref03_Lex_r26t3 (by kernel_rfl) f H
theorem s_gnomonref03_Lex_r26t3_x (call : CallF) (it : IterF) (base : Nat) (f : List V) (H : Heap) : evC call it base (.region s_gnomonref03_Lex_r26t3 [] [8, 9, 155, 159, 160, 161, 162, 163, 164, 165, 166, 167, 168, 169, 170]) f H = thenC call it base (.region s_gnomonref03_Lex_r26t4 [] [8, 9, 155, 159, 160, 161, 162, 163, 164, 165, 166, 167, 168, 169, 170]) (opsC [] s_gnomonref03_Lex_r26p3 [168] (evOps call base [⟨some 169, (.buildSl 5 1 [(.s (.int .u8 0)), (.s (.string ⟨#[]⟩)), (.s (.int .i64 0)), (.s (.int .i64 0)), (.s (.int .i64 0))] [(0, (.t 168))]), none⟩] f H)) := (row_op call it base s_gnomonref03_Lex_r26p3 s_gnomonref03_Lex_r26t4 (kc := [168]) (by kernel_rfl) f H).trans (by rw [row_ops]; rfl)
theorem s_gnomonref03_Lex_r26t4_x (call : CallF) (it : IterF) (base : Nat) (f : List V) (H : Heap) : evC call it base (.region s_gnomonref03_Lex_r26t4 [] [8, 9, 155, 159, 160, 161, 162, 163, 164, 165, 166, 167, 168, 169, 170]) f H = thenC call it base (.region s_gnomonref03_Lex_r26t5 [] [8, 9, 155, 159, 160, 161, 162, 163, 164, 165, 166, 167, 168, 169, 170]) (opsC [] s_gnomonref03_Lex_r26p4 [159, 169] (evOps call base [⟨some 170, (.append 5 48 (.t 159) (.t 169)), none⟩] f H)) := (row_op call it base s_gnomonref03_Lex_r26p4 s_gnomonref03_Lex_r26t5 (kc := [159, 169]) (by kernel_rfl) f H).trans (by rw [row_ops]; rfl)
theorem s_gnomonref03_Lex_r26t5_tale (fr : List V) (H : Heap) : evTale (symAll s_gnomonref03_Lex_r26t5 [8, 9, 155, 159, 160, 161, 162, 163, 164, 165, 166, 167, 168, 169, 170] [5]) [8, 9, 155, 159, 160, 161, 162, 163, 164, 165, 166, 167, 168, 169, 170] fr H = evTale (some (6, [], [(5, (.t 170))])) [8, 9, 155, 159, 160, 161, 162, 163, 164, 165, 166, 167, 168, 169, 170] fr H := tale_row (items := [.tt 170]) (by kernel_rfl) fr H
theorem s_gnomonref03_Lex_r26t5_x (call : CallF) (it : IterF) (base : Nat) (f : List V) (H : Heap) : evC call it base (.region s_gnomonref03_Lex_r26t5 [] [8, 9, 155, 159, 160, 161, 162, 163, 164, 165, 166, 167, 168, 169, 170]) f H = segL H (evTale (symAll s_gnomonref03_Lex_r26t5 [8, 9, 155, 159, 160, 161, 162, 163, 164, 165, 166, 167, 168, 169, 170] [5]) [8, 9, 155, 159, 160, 161, 162, 163, 164, 165, 166, 167, 168, 169, 170] f H) (origRow call it base s_gnomonref03_Lex_r26t5 [8, 9, 155, 159, 160, 161, 162, 163, 164, 165, 166, 167, 168, 169, 170] f H) := row_last call it base _ f H
def s_gnomonref03_Lex_r27t2 : List AOper := [⟨some 171, (.move (.t 173)), none⟩]
def s_gnomonref03_Lex_r27p1 : List AOper := [⟨some 173, (.call (.c (.fn 25 [] [])) [(.t 172)]), none⟩]
def s_gnomonref03_Lex_r27t1 : List AOper := s_gnomonref03_Lex_r27p1 ++ s_gnomonref03_Lex_r27t2
def s_gnomonref03_Lex_r27p0 : List AOper := [⟨some 172, (.move (.t 7)), none⟩]
def s_gnomonref03_Lex_r27 : List AOper := s_gnomonref03_Lex_r27p0 ++ s_gnomonref03_Lex_r27t1
theorem s_gnomonref03_Lex_r27p0_tale (fr : List V) (H : Heap) : evTale (symAll s_gnomonref03_Lex_r27p0 [7, 96] [172]) [7, 96] fr H = evTale (some (173, [], [(172, (.t 7))])) [7, 96] fr H := tale_row (items := [.tt 7]) (by kernel_rfl) fr H
theorem s_gnomonref03_Lex_r27_x (call : CallF) (it : IterF) (base : Nat) (f : List V) (H : Heap) : evC call it base (.region s_gnomonref03_Lex_r27 [] [7, 96, 172, 173]) f H = segC call it base s_gnomonref03_Lex_r27t1 [7, 96, 172, 173] H (evTale (symAll s_gnomonref03_Lex_r27p0 [7, 96] [172]) [7, 96] f H) (origRow call it base s_gnomonref03_Lex_r27 [7, 96, 172, 173] f H) := row_seg call it base s_gnomonref03_Lex_r27p0 s_gnomonref03_Lex_r27t1 (by kernel_rfl) f H
theorem s_gnomonref03_Lex_r27t1_x (call : CallF) (it : IterF) (base : Nat) (f : List V) (H : Heap) : evC call it base (.region s_gnomonref03_Lex_r27t1 [] [7, 96, 172, 173]) f H = thenC call it base (.region s_gnomonref03_Lex_r27t2 [] [7, 96, 172, 173]) (opsC [] s_gnomonref03_Lex_r27p1 [172] (evOps call base [⟨some 173, (.call (.c (.fn 25 [] [])) [(.t 172)]), none⟩] f H)) := (row_op call it base s_gnomonref03_Lex_r27p1 s_gnomonref03_Lex_r27t2 (kc := [172]) (by kernel_rfl) f H).trans (by rw [row_ops]; rfl)
theorem s_gnomonref03_Lex_r27t2_tale (fr : List V) (H : Heap) : evTale (symAll s_gnomonref03_Lex_r27t2 [7, 96, 172, 173] [171]) [7, 96, 172, 173] fr H = evTale (some (172, [], [(171, (.t 173))])) [7, 96, 172, 173] fr H := tale_row (items := [.tt 173]) (by kernel_rfl) fr H
theorem s_gnomonref03_Lex_r27t2_x (call : CallF) (it : IterF) (base : Nat) (f : List V) (H : Heap) : evC call it base (.region s_gnomonref03_Lex_r27t2 [] [7, 96, 172, 173]) f H = segL H (evTale (symAll s_gnomonref03_Lex_r27t2 [7, 96, 172, 173] [171]) [7, 96, 172, 173] f H) (origRow call it base s_gnomonref03_Lex_r27t2 [7, 96, 172, 173] f H) := row_last call it base _ f H
def s_gnomonref03_Lex_r28 : List AOper := [
  ⟨some 174, (.move (.t 6)), none⟩,
  ⟨some 175, (.bin .add (.t 174) (.c (.s (.int .i64 1)))), none⟩,
  ⟨some 6, (.move (.t 175)), none⟩]
theorem s_gnomonref03_Lex_r28_tale (fr : List V) (H : Heap) : evTale (symAll s_gnomonref03_Lex_r28 [171, 174, 175] [6]) [171, 174, 175] fr H = evTale (some (176, [], [(6, (.op (.bin .add (.t 0) (.c (.s (.int .i64 1)))) [(.t 6), (.c (.s (.int .i64 1)))]))])) [171, 174, 175] fr H := tale_row (items := [.tt 6, .sub 0 [] [], .sub 0 [] []]) (by kernel_rfl) fr H
def s_gnomonref03_Lex_r29t5 : List AOper := [⟨some 5, (.move (.t 186)), none⟩]
def s_gnomonref03_Lex_r29p4 : List AOper := [⟨some 186, (.append 5 48 (.t 176) (.t 185)), none⟩]
def s_gnomonref03_Lex_r29t4 : List AOper := s_gnomonref03_Lex_r29p4 ++ s_gnomonref03_Lex_r29t5
def s_gnomonref03_Lex_r29p3 : List AOper := [⟨some 185, (.buildSl 5 1 [(.s (.int .u8 0)), (.s (.string ⟨#[]⟩)), (.s (.int .i64 0)), (.s (.int .i64 0)), (.s (.int .i64 0))] [(0, (.t 184))]), none⟩]
def s_gnomonref03_Lex_r29t3 : List AOper := s_gnomonref03_Lex_r29p3 ++ s_gnomonref03_Lex_r29t4
def s_gnomonref03_Lex_r29p2 : List AOper := [⟨some 184, (.build [(.s (.int .u8 0)), (.s (.string ⟨#[]⟩)), (.s (.int .i64 0)), (.s (.int .i64 0)), (.s (.int .i64 0))] [(0, 1), (1, 1), (2, 1), (3, 2)] [(0, (.c (.s (.int .u8 3)))), (1, (.t 180)), (3, (.t 183))]), none⟩]
def s_gnomonref03_Lex_r29t2 : List AOper := s_gnomonref03_Lex_r29p2 ++ s_gnomonref03_Lex_r29t3
def s_gnomonref03_Lex_r29p1 : List AOper := [⟨some 183, (.call (.c (.fn 24 [] [])) [(.t 181), (.t 182)]), none⟩]
def s_gnomonref03_Lex_r29t1 : List AOper := s_gnomonref03_Lex_r29p1 ++ s_gnomonref03_Lex_r29t2
def s_gnomonref03_Lex_r29p0 : List AOper := [⟨some 176, (.move (.t 5)), none⟩, ⟨some 177, (.move (.t 0)), none⟩, ⟨some 178, (.move (.t 8)), none⟩, ⟨some 179, (.move (.t 6)), none⟩, ⟨some 180, (.subStr (.t 177) (some (.t 178)) (some (.t 179))), none⟩, ⟨some 181, (.move (.t 0)), none⟩, ⟨some 182, (.move (.t 8)), none⟩]
def s_gnomonref03_Lex_r29 : List AOper := s_gnomonref03_Lex_r29p0 ++ s_gnomonref03_Lex_r29t1
theorem s_gnomonref03_Lex_r29p0_tale (fr : List V) (H : Heap) : evTale (symAll s_gnomonref03_Lex_r29p0 [5, 8, 177, 178, 179] [176, 180, 181, 182]) [5, 8, 177, 178, 179] fr H = evTale (some (183, [], [(176, (.t 5)), (180, (.op (.subStr (.t 0) (some (.t 1)) (some (.t 2))) [(.t 0), (.t 8), (.t 6)])), (181, (.t 0)), (182, (.t 8))])) [5, 8, 177, 178, 179] fr H := tale_row (items := [.tt 5, .tt 0, .tt 8, .tt 6, .sub 1 [] [], .tt 0, .tt 8]) (by kernel_rfl) fr H
theorem s_gnomonref03_Lex_r29_x (call : CallF) (it : IterF) (base : Nat) (f : List V) (H : Heap) : evC call it base (.region s_gnomonref03_Lex_r29 [] [8, 176, 177, 178, 179, 180, 181, 182, 183, 184, 185, 186]) f H = segC call it base s_gnomonref03_Lex_r29t1 [8, 176, 177, 178, 179, 180, 181, 182, 183, 184, 185, 186] H (evTale (symAll s_gnomonref03_Lex_r29p0 [5, 8, 177, 178, 179] [176, 180, 181, 182]) [5, 8, 177, 178, 179] f H) (origRow call it base s_gnomonref03_Lex_r29 [8, 176, 177, 178, 179, 180, 181, 182, 183, 184, 185, 186] f H) := row_seg call it base s_gnomonref03_Lex_r29p0 s_gnomonref03_Lex_r29t1 (by kernel_rfl) f H
theorem s_gnomonref03_Lex_r29t1_x (call : CallF) (it : IterF) (base : Nat) (f : List V) (H : Heap) : evC call it base (.region s_gnomonref03_Lex_r29t1 [] [8, 176, 177, 178, 179, 180, 181, 182, 183, 184, 185, 186]) f H = thenC call it base (.region s_gnomonref03_Lex_r29t2 [] [8, 176, 177, 178, 179, 180, 181, 182, 183, 184, 185, 186]) (opsC [] s_gnomonref03_Lex_r29p1 [181, 182] (evOps call base [⟨some 183, (.call (.c (.fn 24 [] [])) [(.t 181), (.t 182)]), none⟩] f H)) := (row_op call it base s_gnomonref03_Lex_r29p1 s_gnomonref03_Lex_r29t2 (kc := [181, 182]) (by kernel_rfl) f H).trans (by rw [row_ops]; rfl)
theorem s_gnomonref03_Lex_r29p2_tale (fr : List V) (H : Heap) : evTale (symAll s_gnomonref03_Lex_r29p2 [180, 183] [184]) [180, 183] fr H = evTale (some (185, [], [(184, (.op (.build [(.s (.int .u8 0)), (.s (.string ⟨#[]⟩)), (.s (.int .i64 0)), (.s (.int .i64 0)), (.s (.int .i64 0))] [(0, 1), (1, 1), (2, 1), (3, 2)] [(0, (.c (.s (.int .u8 3)))), (1, (.t 1)), (3, (.t 2))]) [(.c (.s (.int .u8 3))), (.t 180), (.t 183)]))])) [180, 183] fr H := tale_row (items := [.sub 0 [] []]) (by kernel_rfl) fr H
theorem s_gnomonref03_Lex_r29t2_x (call : CallF) (it : IterF) (base : Nat) (f : List V) (H : Heap) : evC call it base (.region s_gnomonref03_Lex_r29t2 [] [8, 176, 177, 178, 179, 180, 181, 182, 183, 184, 185, 186]) f H = segC call it base s_gnomonref03_Lex_r29t3 [8, 176, 177, 178, 179, 180, 181, 182, 183, 184, 185, 186] H (evTale (symAll s_gnomonref03_Lex_r29p2 [180, 183] [184]) [180, 183] f H) (origRow call it base s_gnomonref03_Lex_r29t2 [8, 176, 177, 178, 179, 180, 181, 182, 183, 184, 185, 186] f H) := row_seg call it base s_gnomonref03_Lex_r29p2 s_gnomonref03_Lex_r29t3 (by kernel_rfl) f H
theorem s_gnomonref03_Lex_r29t3_x (call : CallF) (it : IterF) (base : Nat) (f : List V) (H : Heap) : evC call it base (.region s_gnomonref03_Lex_r29t3 [] [8, 176, 177, 178, 179, 180, 181, 182, 183, 184, 185, 186]) f H = thenC call it base (.region s_gnomonref03_Lex_r29t4 [] [8, 176, 177, 178, 179, 180, 181, 182, 183, 184, 185, 186]) (opsC [] s_gnomonref03_Lex_r29p3 [184] (evOps call base [⟨some 185, (.buildSl 5 1 [(.s (.int .u8 0)), (.s (.string ⟨#[]⟩)), (.s (.int .i64 0)), (.s (.int .i64 0)), (.s (.int .i64 0))] [(0, (.t 184))]), none⟩] f H)) := (row_op call it base s_gnomonref03_Lex_r29p3 s_gnomonref03_Lex_r29t4 (kc := [184]) (by kernel_rfl) f H).trans (by rw [row_ops]; rfl)
theorem s_gnomonref03_Lex_r29t4_x (call : CallF) (it : IterF) (base : Nat) (f : List V) (H : Heap) : evC call it base (.region s_gnomonref03_Lex_r29t4 [] [8, 176, 177, 178, 179, 180, 181, 182, 183, 184, 185, 186]) f H = thenC call it base (.region s_gnomonref03_Lex_r29t5 [] [8, 176, 177, 178, 179, 180, 181, 182, 183, 184, 185, 186]) (opsC [] s_gnomonref03_Lex_r29p4 [176, 185] (evOps call base [⟨some 186, (.append 5 48 (.t 176) (.t 185)), none⟩] f H)) := (row_op call it base s_gnomonref03_Lex_r29p4 s_gnomonref03_Lex_r29t5 (kc := [176, 185]) (by kernel_rfl) f H).trans (by rw [row_ops]; rfl)
theorem s_gnomonref03_Lex_r29t5_tale (fr : List V) (H : Heap) : evTale (symAll s_gnomonref03_Lex_r29t5 [8, 176, 177, 178, 179, 180, 181, 182, 183, 184, 185, 186] [5]) [8, 176, 177, 178, 179, 180, 181, 182, 183, 184, 185, 186] fr H = evTale (some (6, [], [(5, (.t 186))])) [8, 176, 177, 178, 179, 180, 181, 182, 183, 184, 185, 186] fr H := tale_row (items := [.tt 186]) (by kernel_rfl) fr H
theorem s_gnomonref03_Lex_r29t5_x (call : CallF) (it : IterF) (base : Nat) (f : List V) (H : Heap) : evC call it base (.region s_gnomonref03_Lex_r29t5 [] [8, 176, 177, 178, 179, 180, 181, 182, 183, 184, 185, 186]) f H = segL H (evTale (symAll s_gnomonref03_Lex_r29t5 [8, 176, 177, 178, 179, 180, 181, 182, 183, 184, 185, 186] [5]) [8, 176, 177, 178, 179, 180, 181, 182, 183, 184, 185, 186] f H) (origRow call it base s_gnomonref03_Lex_r29t5 [8, 176, 177, 178, 179, 180, 181, 182, 183, 184, 185, 186] f H) := row_last call it base _ f H
def s_gnomonref03_Lex_r30t4 : List AOper := [⟨some 4, (.move (.c (.s (.int .i64 30)))), none⟩]
def s_gnomonref03_Lex_r30p3 : List AOper := [⟨none, (.store 2 (.t 3) (.t 25)), none⟩]
def s_gnomonref03_Lex_r30t3 : List AOper := s_gnomonref03_Lex_r30p3 ++ s_gnomonref03_Lex_r30t4
def s_gnomonref03_Lex_r30p2 : List AOper := [⟨some 2, (.move (.c (.s (.slice none 0 0)))), none⟩]
def s_gnomonref03_Lex_r30t2 : List AOper := s_gnomonref03_Lex_r30p2 ++ s_gnomonref03_Lex_r30t3
def s_gnomonref03_Lex_r30p1 : List AOper := [⟨some 25, (.call (.c (.fn 24 [] [])) [(.t 23), (.t 24)]), none⟩]
def s_gnomonref03_Lex_r30t1 : List AOper := s_gnomonref03_Lex_r30p1 ++ s_gnomonref03_Lex_r30t2
def s_gnomonref03_Lex_r30p0 : List AOper := [⟨some 23, (.move (.t 0)), none⟩, ⟨some 24, (.move (.t 8)), none⟩]
def s_gnomonref03_Lex_r30 : List AOper := s_gnomonref03_Lex_r30p0 ++ s_gnomonref03_Lex_r30t1
theorem s_gnomonref03_Lex_r30p0_tale (fr : List V) (H : Heap) : evTale (symAll s_gnomonref03_Lex_r30p0 [0, 5, 6, 8, 171] [23, 24]) [0, 5, 6, 8, 171] fr H = evTale (some (25, [], [(23, (.t 0)), (24, (.t 8))])) [0, 5, 6, 8, 171] fr H := tale_row (items := [.tt 0, .tt 8]) (by kernel_rfl) fr H
theorem s_gnomonref03_Lex_r30_x (call : CallF) (it : IterF) (base : Nat) (f : List V) (H : Heap) : evC call it base (.region s_gnomonref03_Lex_r30 [] [0, 5, 6, 8, 23, 24, 25, 171]) f H = segC call it base s_gnomonref03_Lex_r30t1 [0, 5, 6, 8, 23, 24, 25, 171] H (evTale (symAll s_gnomonref03_Lex_r30p0 [0, 5, 6, 8, 171] [23, 24]) [0, 5, 6, 8, 171] f H) (origRow call it base s_gnomonref03_Lex_r30 [0, 5, 6, 8, 23, 24, 25, 171] f H) := row_seg call it base s_gnomonref03_Lex_r30p0 s_gnomonref03_Lex_r30t1 (by kernel_rfl) f H
theorem s_gnomonref03_Lex_r30t1_x (call : CallF) (it : IterF) (base : Nat) (f : List V) (H : Heap) : evC call it base (.region s_gnomonref03_Lex_r30t1 [] [0, 5, 6, 8, 23, 24, 25, 171]) f H = thenC call it base (.region s_gnomonref03_Lex_r30t2 [] [0, 5, 6, 8, 23, 24, 25, 171]) (opsC [] s_gnomonref03_Lex_r30p1 [23, 24] (evOps call base [⟨some 25, (.call (.c (.fn 24 [] [])) [(.t 23), (.t 24)]), none⟩] f H)) := (row_op call it base s_gnomonref03_Lex_r30p1 s_gnomonref03_Lex_r30t2 (kc := [23, 24]) (by kernel_rfl) f H).trans (by rw [row_ops]; rfl)
theorem s_gnomonref03_Lex_r30p2_tale (fr : List V) (H : Heap) : evTale (symAll s_gnomonref03_Lex_r30p2 [] [2]) [] fr H = evTale (some (3, [], [(2, (.c (.s (.slice none 0 0))))])) [] fr H := tale_row (items := [.cc (.s (.slice none 0 0))]) (by kernel_rfl) fr H
theorem s_gnomonref03_Lex_r30t2_x (call : CallF) (it : IterF) (base : Nat) (f : List V) (H : Heap) : evC call it base (.region s_gnomonref03_Lex_r30t2 [] [0, 5, 6, 8, 23, 24, 25, 171]) f H = segC call it base s_gnomonref03_Lex_r30t3 [0, 5, 6, 8, 23, 24, 25, 171] H (evTale (symAll s_gnomonref03_Lex_r30p2 [] [2]) [] f H) (origRow call it base s_gnomonref03_Lex_r30t2 [0, 5, 6, 8, 23, 24, 25, 171] f H) := row_seg call it base s_gnomonref03_Lex_r30p2 s_gnomonref03_Lex_r30t3 (by kernel_rfl) f H
theorem s_gnomonref03_Lex_r30t3_x (call : CallF) (it : IterF) (base : Nat) (f : List V) (H : Heap) : evC call it base (.region s_gnomonref03_Lex_r30t3 [] [0, 5, 6, 8, 23, 24, 25, 171]) f H = thenC call it base (.region s_gnomonref03_Lex_r30t4 [] [0, 5, 6, 8, 23, 24, 25, 171]) (opsC [] s_gnomonref03_Lex_r30p3 [25] (evOps call base [⟨none, (.store 2 (.t 3) (.t 25)), none⟩] f H)) := (row_op call it base s_gnomonref03_Lex_r30p3 s_gnomonref03_Lex_r30t4 (kc := [25]) (by kernel_rfl) f H).trans (by rw [row_ops]; rfl)
theorem s_gnomonref03_Lex_r30t4_tale (fr : List V) (H : Heap) : evTale (symAll s_gnomonref03_Lex_r30t4 [0, 5, 6, 8, 23, 24, 25, 171] [4]) [0, 5, 6, 8, 23, 24, 25, 171] fr H = evTale (some (5, [], [(4, (.c (.s (.int .i64 30))))])) [0, 5, 6, 8, 23, 24, 25, 171] fr H := tale_row (items := [.cc (.s (.int .i64 30))]) (by kernel_rfl) fr H
theorem s_gnomonref03_Lex_r30t4_x (call : CallF) (it : IterF) (base : Nat) (f : List V) (H : Heap) : evC call it base (.region s_gnomonref03_Lex_r30t4 [] [0, 5, 6, 8, 23, 24, 25, 171]) f H = segL H (evTale (symAll s_gnomonref03_Lex_r30t4 [0, 5, 6, 8, 23, 24, 25, 171] [4]) [0, 5, 6, 8, 23, 24, 25, 171] f H) (origRow call it base s_gnomonref03_Lex_r30t4 [0, 5, 6, 8, 23, 24, 25, 171] f H) := row_last call it base _ f H
def s_gnomonref03_Lex_l3_b : ACode :=
  (.seq (.seq (.regionE s_gnomonref03_Lex_r5 [15, 16, 17] [18])
  (.cond (.t 18)
  .skip
  (.exit 0)))
  (.block 1
  (.seq (.regionE s_gnomonref03_Lex_r6 [18, 19, 20, 21] [7])
  (.seq (.regionE s_gnomonref03_Lex_r7 [22] [8])
  (.block 2
  (.seq (.regionE s_gnomonref03_Lex_r8 [27, 28, 29, 30, 31, 32, 33, 34, 35, 36, 37, 38, 39, 40] [26])
  (.cond (.t 26)
  (.regionE s_gnomonref03_Lex_r9 [7, 8, 26, 41, 42] [6])
  (.seq (.regionE s_gnomonref03_Lex_r10 [26, 44, 45] [43])
  (.cond (.t 43)
  (.block 3
  (.loop [7, 8, 43] s_gnomonref03_Lex_l0))
  (.seq (.region s_gnomonref03_Lex_r13 [] [43, 59, 60])
  (.cond (.t 58)
  (.seq (.block 5
  (.loop [7, 58] s_gnomonref03_Lex_l1))
  (.region s_gnomonref03_Lex_r16 [] [8, 82, 85, 86, 87, 88, 89, 90, 91, 92, 93, 94, 95]))
  (.seq (.region s_gnomonref03_Lex_r17 [] [58, 97, 98])
  (.cond (.t 96)
  (.seq (.regionE s_gnomonref03_Lex_r18 [96] [9])
  (.seq (.block 7
  (.loop [] s_gnomonref03_Lex_l2))
  (.seq (.region s_gnomonref03_Lex_r23 [] [108, 123, 124, 125, 126, 127, 128, 129, 130, 131, 132, 133, 134, 135, 136, 137, 138])
  (.seq (.seq (.regionE s_gnomonref03_Lex_r24 [7, 10, 139, 140, 141, 142, 143, 144, 145, 146, 147, 148, 149, 150, 151, 152, 153, 154] [155])
  (.cond (.t 155)
  (.seq (.region s_gnomonref03_Lex_r25 [] [0, 5, 6, 8, 9, 155, 156, 157, 158])
  .ret)
  .skip))
  (.region s_gnomonref03_Lex_r26 [] [8, 9, 155, 159, 160, 161, 162, 163, 164, 165, 166, 167, 168, 169, 170])))))
  (.seq (.region s_gnomonref03_Lex_r27 [] [7, 96, 172, 173])
  (.cond (.t 171)
  (.seq (.regionE s_gnomonref03_Lex_r28 [171, 174, 175] [6])
  (.region s_gnomonref03_Lex_r29 [] [8, 176, 177, 178, 179, 180, 181, 182, 183, 184, 185, 186]))
  (.seq (.region s_gnomonref03_Lex_r30 [] [0, 5, 6, 8, 23, 24, 25, 171])
  .ret))))))))))))))))
def s_gnomonref03_Lex_l3 : ACode := s_gnomonref03_Lex_l3_b
theorem s_gnomonref03_Lex_l3_ev (call : CallF) (it : IterF) (base : Nat) (fr : List V) (H : Heap) : evC call it base s_gnomonref03_Lex_l3 fr H = evC call it base s_gnomonref03_Lex_l3_b fr H := rfl
def s_gnomonref03_Lex_r31t5 : List AOper := [⟨some 5, (.move (.t 194)), none⟩]
def s_gnomonref03_Lex_r31p4 : List AOper := [⟨some 194, (.append 5 48 (.t 187) (.t 193)), none⟩]
def s_gnomonref03_Lex_r31t4 : List AOper := s_gnomonref03_Lex_r31p4 ++ s_gnomonref03_Lex_r31t5
def s_gnomonref03_Lex_r31p3 : List AOper := [⟨some 193, (.buildSl 5 1 [(.s (.int .u8 0)), (.s (.string ⟨#[]⟩)), (.s (.int .i64 0)), (.s (.int .i64 0)), (.s (.int .i64 0))] [(0, (.t 192))]), none⟩]
def s_gnomonref03_Lex_r31t3 : List AOper := s_gnomonref03_Lex_r31p3 ++ s_gnomonref03_Lex_r31t4
def s_gnomonref03_Lex_r31p2 : List AOper := [⟨some 192, (.build [(.s (.int .u8 0)), (.s (.string ⟨#[]⟩)), (.s (.int .i64 0)), (.s (.int .i64 0)), (.s (.int .i64 0))] [(0, 1), (1, 1), (2, 1), (3, 2)] [(0, (.c (.s (.int .u8 4)))), (3, (.t 191))]), none⟩]
def s_gnomonref03_Lex_r31t2 : List AOper := s_gnomonref03_Lex_r31p2 ++ s_gnomonref03_Lex_r31t3
def s_gnomonref03_Lex_r31p1 : List AOper := [⟨some 191, (.call (.c (.fn 24 [] [])) [(.t 188), (.t 190)]), none⟩]
def s_gnomonref03_Lex_r31t1 : List AOper := s_gnomonref03_Lex_r31p1 ++ s_gnomonref03_Lex_r31t2
def s_gnomonref03_Lex_r31p0 : List AOper := [⟨some 187, (.move (.t 5)), none⟩, ⟨some 188, (.move (.t 0)), none⟩, ⟨some 189, (.move (.t 0)), none⟩, ⟨some 190, (.lenS .p (.t 189)), none⟩]
def s_gnomonref03_Lex_r31 : List AOper := s_gnomonref03_Lex_r31p0 ++ s_gnomonref03_Lex_r31t1
theorem s_gnomonref03_Lex_r31p0_tale (fr : List V) (H : Heap) : evTale (symAll s_gnomonref03_Lex_r31p0 [0, 5, 6, 18, 189] [187, 188, 190]) [0, 5, 6, 18, 189] fr H = evTale (some (191, [], [(187, (.t 5)), (188, (.t 0)), (190, (.op (.lenS .p (.t 0)) [(.t 0)]))])) [0, 5, 6, 18, 189] fr H := tale_row (items := [.tt 5, .tt 0, .tt 0, .sub 2 [] []]) (by kernel_rfl) fr H
theorem s_gnomonref03_Lex_r31_x (call : CallF) (it : IterF) (base : Nat) (f : List V) (H : Heap) : evC call it base (.region s_gnomonref03_Lex_r31 [] [0, 6, 18, 187, 188, 189, 190, 191, 192, 193, 194]) f H = segC call it base s_gnomonref03_Lex_r31t1 [0, 6, 18, 187, 188, 189, 190, 191, 192, 193, 194] H (evTale (symAll s_gnomonref03_Lex_r31p0 [0, 5, 6, 18, 189] [187, 188, 190]) [0, 5, 6, 18, 189] f H) (origRow call it base s_gnomonref03_Lex_r31 [0, 6, 18, 187, 188, 189, 190, 191, 192, 193, 194] f H) := row_seg call it base s_gnomonref03_Lex_r31p0 s_gnomonref03_Lex_r31t1 (by kernel_rfl) f H
theorem s_gnomonref03_Lex_r31t1_x (call : CallF) (it : IterF) (base : Nat) (f : List V) (H : Heap) : evC call it base (.region s_gnomonref03_Lex_r31t1 [] [0, 6, 18, 187, 188, 189, 190, 191, 192, 193, 194]) f H = thenC call it base (.region s_gnomonref03_Lex_r31t2 [] [0, 6, 18, 187, 188, 189, 190, 191, 192, 193, 194]) (opsC [] s_gnomonref03_Lex_r31p1 [188, 190] (evOps call base [⟨some 191, (.call (.c (.fn 24 [] [])) [(.t 188), (.t 190)]), none⟩] f H)) := (row_op call it base s_gnomonref03_Lex_r31p1 s_gnomonref03_Lex_r31t2 (kc := [188, 190]) (by kernel_rfl) f H).trans (by rw [row_ops]; rfl)
theorem s_gnomonref03_Lex_r31p2_tale (fr : List V) (H : Heap) : evTale (symAll s_gnomonref03_Lex_r31p2 [191] [192]) [191] fr H = evTale (some (193, [], [(192, (.op (.build [(.s (.int .u8 0)), (.s (.string ⟨#[]⟩)), (.s (.int .i64 0)), (.s (.int .i64 0)), (.s (.int .i64 0))] [(0, 1), (1, 1), (2, 1), (3, 2)] [(0, (.c (.s (.int .u8 4)))), (3, (.t 1))]) [(.c (.s (.int .u8 4))), (.t 191)]))])) [191] fr H := tale_row (items := [.sub 0 [] []]) (by kernel_rfl) fr H
theorem s_gnomonref03_Lex_r31t2_x (call : CallF) (it : IterF) (base : Nat) (f : List V) (H : Heap) : evC call it base (.region s_gnomonref03_Lex_r31t2 [] [0, 6, 18, 187, 188, 189, 190, 191, 192, 193, 194]) f H = segC call it base s_gnomonref03_Lex_r31t3 [0, 6, 18, 187, 188, 189, 190, 191, 192, 193, 194] H (evTale (symAll s_gnomonref03_Lex_r31p2 [191] [192]) [191] f H) (origRow call it base s_gnomonref03_Lex_r31t2 [0, 6, 18, 187, 188, 189, 190, 191, 192, 193, 194] f H) := row_seg call it base s_gnomonref03_Lex_r31p2 s_gnomonref03_Lex_r31t3 (by kernel_rfl) f H
theorem s_gnomonref03_Lex_r31t3_x (call : CallF) (it : IterF) (base : Nat) (f : List V) (H : Heap) : evC call it base (.region s_gnomonref03_Lex_r31t3 [] [0, 6, 18, 187, 188, 189, 190, 191, 192, 193, 194]) f H = thenC call it base (.region s_gnomonref03_Lex_r31t4 [] [0, 6, 18, 187, 188, 189, 190, 191, 192, 193, 194]) (opsC [] s_gnomonref03_Lex_r31p3 [192] (evOps call base [⟨some 193, (.buildSl 5 1 [(.s (.int .u8 0)), (.s (.string ⟨#[]⟩)), (.s (.int .i64 0)), (.s (.int .i64 0)), (.s (.int .i64 0))] [(0, (.t 192))]), none⟩] f H)) := (row_op call it base s_gnomonref03_Lex_r31p3 s_gnomonref03_Lex_r31t4 (kc := [192]) (by kernel_rfl) f H).trans (by rw [row_ops]; rfl)
theorem s_gnomonref03_Lex_r31t4_x (call : CallF) (it : IterF) (base : Nat) (f : List V) (H : Heap) : evC call it base (.region s_gnomonref03_Lex_r31t4 [] [0, 6, 18, 187, 188, 189, 190, 191, 192, 193, 194]) f H = thenC call it base (.region s_gnomonref03_Lex_r31t5 [] [0, 6, 18, 187, 188, 189, 190, 191, 192, 193, 194]) (opsC [] s_gnomonref03_Lex_r31p4 [187, 193] (evOps call base [⟨some 194, (.append 5 48 (.t 187) (.t 193)), none⟩] f H)) := (row_op call it base s_gnomonref03_Lex_r31p4 s_gnomonref03_Lex_r31t5 (kc := [187, 193]) (by kernel_rfl) f H).trans (by rw [row_ops]; rfl)
theorem s_gnomonref03_Lex_r31t5_tale (fr : List V) (H : Heap) : evTale (symAll s_gnomonref03_Lex_r31t5 [0, 6, 18, 187, 188, 189, 190, 191, 192, 193, 194] [5]) [0, 6, 18, 187, 188, 189, 190, 191, 192, 193, 194] fr H = evTale (some (6, [], [(5, (.t 194))])) [0, 6, 18, 187, 188, 189, 190, 191, 192, 193, 194] fr H := tale_row (items := [.tt 194]) (by kernel_rfl) fr H
theorem s_gnomonref03_Lex_r31t5_x (call : CallF) (it : IterF) (base : Nat) (f : List V) (H : Heap) : evC call it base (.region s_gnomonref03_Lex_r31t5 [] [0, 6, 18, 187, 188, 189, 190, 191, 192, 193, 194]) f H = segL H (evTale (symAll s_gnomonref03_Lex_r31t5 [0, 6, 18, 187, 188, 189, 190, 191, 192, 193, 194] [5]) [0, 6, 18, 187, 188, 189, 190, 191, 192, 193, 194] f H) (origRow call it base s_gnomonref03_Lex_r31t5 [0, 6, 18, 187, 188, 189, 190, 191, 192, 193, 194] f H) := row_last call it base _ f H
def s_gnomonref03_Lex_r32t2 : List AOper := [⟨some 4, (.move (.c (.s (.int .i64 0)))), none⟩]
def s_gnomonref03_Lex_r32p1 : List AOper := [⟨none, (.store 2 (.t 3) (.t 196)), none⟩]
def s_gnomonref03_Lex_r32t1 : List AOper := s_gnomonref03_Lex_r32p1 ++ s_gnomonref03_Lex_r32t2
def s_gnomonref03_Lex_r32p0 : List AOper := [⟨some 195, (.move (.t 5)), none⟩, ⟨some 196, (.build [(.s (.int .i64 0)), (.s (.int .i64 0))] [(0, 1), (1, 1)] []), none⟩, ⟨some 2, (.move (.t 195)), none⟩]
def s_gnomonref03_Lex_r32 : List AOper := s_gnomonref03_Lex_r32p0 ++ s_gnomonref03_Lex_r32t1
theorem s_gnomonref03_Lex_r32p0_tale (fr : List V) (H : Heap) : evTale (symAll s_gnomonref03_Lex_r32p0 [5, 195] [196, 2]) [5, 195] fr H = evTale (some (197, [], [(196, (.op (.build [(.s (.int .i64 0)), (.s (.int .i64 0))] [(0, 1), (1, 1)] []) [])), (2, (.t 5))])) [5, 195] fr H := tale_row (items := [.tt 5, .sub 0 [] [], .tt 5]) (by kernel_rfl) fr H
theorem s_gnomonref03_Lex_r32_x (call : CallF) (it : IterF) (base : Nat) (f : List V) (H : Heap) : evC call it base (.region s_gnomonref03_Lex_r32 [] [5, 195, 196]) f H = segC call it base s_gnomonref03_Lex_r32t1 [5, 195, 196] H (evTale (symAll s_gnomonref03_Lex_r32p0 [5, 195] [196, 2]) [5, 195] f H) (origRow call it base s_gnomonref03_Lex_r32 [5, 195, 196] f H) := row_seg call it base s_gnomonref03_Lex_r32p0 s_gnomonref03_Lex_r32t1 (by kernel_rfl) f H
theorem s_gnomonref03_Lex_r32t1_x (call : CallF) (it : IterF) (base : Nat) (f : List V) (H : Heap) : evC call it base (.region s_gnomonref03_Lex_r32t1 [] [5, 195, 196]) f H = thenC call it base (.region s_gnomonref03_Lex_r32t2 [] [5, 195, 196]) (opsC [] s_gnomonref03_Lex_r32p1 [196] (evOps call base [⟨none, (.store 2 (.t 3) (.t 196)), none⟩] f H)) := (row_op call it base s_gnomonref03_Lex_r32p1 s_gnomonref03_Lex_r32t2 (kc := [196]) (by kernel_rfl) f H).trans (by rw [row_ops]; rfl)
theorem s_gnomonref03_Lex_r32t2_tale (fr : List V) (H : Heap) : evTale (symAll s_gnomonref03_Lex_r32t2 [5, 195, 196] [4]) [5, 195, 196] fr H = evTale (some (5, [], [(4, (.c (.s (.int .i64 0))))])) [5, 195, 196] fr H := tale_row (items := [.cc (.s (.int .i64 0))]) (by kernel_rfl) fr H
theorem s_gnomonref03_Lex_r32t2_x (call : CallF) (it : IterF) (base : Nat) (f : List V) (H : Heap) : evC call it base (.region s_gnomonref03_Lex_r32t2 [] [5, 195, 196]) f H = segL H (evTale (symAll s_gnomonref03_Lex_r32t2 [5, 195, 196] [4]) [5, 195, 196] f H) (origRow call it base s_gnomonref03_Lex_r32t2 [5, 195, 196] f H) := row_last call it base _ f H
def s_gnomonref03_Lex : ACFun := { ntmps := 197, results := [(.tmp 2), (.cell 3 true 2), (.tmp 4)], body :=
  (.seq (.region s_gnomonref03_Lex_r0 [] s_gnomonref03_Lex_r0_k)
  (.seq (.seq (.regionE s_gnomonref03_Lex_r1 [11, 12] [13])
  (.cond (.t 13)
  (.seq (.region s_gnomonref03_Lex_r2 [] [0, 13, 14])
  .ret)
  .skip))
  (.seq (.regionE s_gnomonref03_Lex_r3 [13] [5])
  (.seq (.regionE s_gnomonref03_Lex_r4 [] [6])
  (.seq (.block 0
  (.loop [55] s_gnomonref03_Lex_l3))
  (.seq (.region s_gnomonref03_Lex_r31 [] [0, 6, 18, 187, 188, 189, 190, 191, 192, 193, 194])
  (.seq (.region s_gnomonref03_Lex_r32 [] [5, 195, 196])
  .ret))))))) }
theorem s_gnomonref03_Lex_first : firstOk (List.range' 1 (s_gnomonref03_Lex.ntmps - 1)) s_gnomonref03_Lex.body = true := by kernel_rfl
abbrev k_gnomonref03_Same : Nat := 10
def s_gnomonref03_Same_r0_k : List Nat := [2, 3, 4, 5, 6, 7, 8, 9, 10, 11, 12, 13, 14, 15, 16, 17, 18, 19, 20, 21, 22, 23, 24, 25]
theorem s_gnomonref03_Same_r0_kT : killV s_gnomonref03_Same_r0_k (startV 26 [] 2) = [] := by kernel_rfl
theorem s_gnomonref03_Same_r0_kA0 : s_gnomonref03_Same_r0_k.contains 0 = false := by kernel_rfl
theorem s_gnomonref03_Same_r0_kA1 : s_gnomonref03_Same_r0_k.contains 1 = false := by kernel_rfl
def s_gnomonref03_Same_r0 : List AOper := [
  ⟨some 4, (.move (.c (.s (.bool false)))), none⟩]
theorem s_gnomonref03_Same_r0_tale (fr : List V) (H : Heap) : evTale (symAll s_gnomonref03_Same_r0 s_gnomonref03_Same_r0_k []) s_gnomonref03_Same_r0_k fr H = evTale (some (5, [], [])) s_gnomonref03_Same_r0_k fr H := tale_row (items := [.cc (.s (.bool false))]) (by kernel_rfl) fr H
def s_gnomonref03_Same_r1 : List AOper := [
  ⟨some 6, (.move (.t 0)), none⟩,
  ⟨some 7, (.lenS .s (.t 6)), none⟩,
  ⟨some 8, (.move (.t 1)), none⟩,
  ⟨some 9, (.lenS .s (.t 8)), none⟩,
  ⟨some 10, (.bin .neq (.t 7) (.t 9)), none⟩]
theorem s_gnomonref03_Same_r1_tale (fr : List V) (H : Heap) : evTale (symAll s_gnomonref03_Same_r1 [6, 7, 8, 9] [10]) [6, 7, 8, 9] fr H = evTale (some (11, [], [(10, (.op (.bin .neq (.t 0) (.t 1)) [(.op (.lenS .s (.t 0)) [(.t 0)]), (.op (.lenS .s (.t 0)) [(.t 1)])]))])) [6, 7, 8, 9] fr H := tale_row (items := [.tt 0, .sub 0 [0] [], .tt 1, .sub 0 [1] [], .sub 0 [] []]) (by kernel_rfl) fr H
def s_gnomonref03_Same_r2 : List AOper := [
  ⟨some 4, (.move (.c (.s (.bool false)))), none⟩]
theorem s_gnomonref03_Same_r2_tale (fr : List V) (H : Heap) : evTale (symAll s_gnomonref03_Same_r2 [0, 1, 10] [4]) [0, 1, 10] fr H = evTale (some (5, [], [(4, (.c (.s (.bool false))))])) [0, 1, 10] fr H := tale_row (items := [.cc (.s (.bool false))]) (by kernel_rfl) fr H
def s_gnomonref03_Same_r3 : List AOper := [
  ⟨some 5, (.move (.c (.s (.int .i64 0)))), none⟩]
theorem s_gnomonref03_Same_r3_tale (fr : List V) (H : Heap) : evTale (symAll s_gnomonref03_Same_r3 [10] [5]) [10] fr H = evTale (some (6, [], [(5, (.c (.s (.int .i64 0))))])) [10] fr H := tale_row (items := [.cc (.s (.int .i64 0))]) (by kernel_rfl) fr H
def s_gnomonref03_Same_r4 : List AOper := [
  ⟨some 11, (.move (.t 5)), none⟩,
  ⟨some 12, (.move (.t 0)), none⟩,
  ⟨some 13, (.lenS .s (.t 12)), none⟩,
  ⟨some 14, (.bin .lss (.t 11) (.t 13)), none⟩]
theorem s_gnomonref03_Same_r4_tale (fr : List V) (H : Heap) : evTale (symAll s_gnomonref03_Same_r4 [11, 12, 13] [14]) [11, 12, 13] fr H = evTale (some (15, [], [(14, (.op (.bin .lss (.t 0) (.t 1)) [(.t 5), (.op (.lenS .s (.t 0)) [(.t 0)])]))])) [11, 12, 13] fr H := tale_row (items := [.tt 5, .tt 0, .sub 0 [1] [], .sub 0 [] []]) (by kernel_rfl) fr H
def s_gnomonref03_Same_r5 : List AOper := [
  ⟨some 17, (.move (.t 0)), none⟩,
  ⟨some 18, (.move (.t 5)), none⟩,
  ⟨some 19, (.indexAddr 5 (.t 17) (.t 18)), none⟩,
  ⟨some 20, (.load true 5 (.t 19)), none⟩,
  ⟨some 21, (.move (.t 1)), none⟩,
  ⟨some 22, (.move (.t 5)), none⟩,
  ⟨some 23, (.indexAddr 5 (.t 21) (.t 22)), none⟩,
  ⟨some 24, (.load true 5 (.t 23)), none⟩,
  ⟨some 25, (.eqAgg true [(.int .u8), .str, (.int .i64), (.int .i64), (.int .i64)] (.t 20) (.t 24)), none⟩]
theorem s_gnomonref03_Same_r5_tale (fr : List V) (H : Heap) : evTale (symAll s_gnomonref03_Same_r5 [14, 17, 18, 19, 20, 21, 22, 23, 24] [25]) [14, 17, 18, 19, 20, 21, 22, 23, 24] fr H = evTale (some (26, [], [(25, (.op (.eqAgg true [(.int .u8), .str, (.int .i64), (.int .i64), (.int .i64)] (.t 0) (.t 1)) [(.op (.load true 5 (.t 0)) [(.op (.indexAddr 5 (.t 0) (.t 1)) [(.t 0), (.t 5)])]), (.op (.load true 5 (.t 0)) [(.op (.indexAddr 5 (.t 0) (.t 1)) [(.t 1), (.t 5)])])]))])) [14, 17, 18, 19, 20, 21, 22, 23, 24] fr H := tale_row (items := [.tt 0, .tt 5, .sub 0 [0, 0] [], .sub 0 [0] [], .tt 1, .tt 5, .sub 0 [1, 0] [], .sub 0 [1] [], .sub 0 [] []]) (by kernel_rfl) fr H
def s_gnomonref03_Same_r6 : List AOper := [
  ⟨some 4, (.move (.c (.s (.bool false)))), none⟩]
theorem s_gnomonref03_Same_r6_tale (fr : List V) (H : Heap) : evTale (symAll s_gnomonref03_Same_r6 [0, 1, 5, 25] [4]) [0, 1, 5, 25] fr H = evTale (some (5, [], [(4, (.c (.s (.bool false))))])) [0, 1, 5, 25] fr H := tale_row (items := [.cc (.s (.bool false))]) (by kernel_rfl) fr H
def s_gnomonref03_Same_r7 : List AOper := [
  ⟨some 15, (.move (.t 5)), none⟩,
  ⟨some 16, (.bin .add (.t 15) (.c (.s (.int .i64 1)))), none⟩,
  ⟨some 5, (.move (.t 16)), none⟩]
theorem s_gnomonref03_Same_r7_tale (fr : List V) (H : Heap) : evTale (symAll s_gnomonref03_Same_r7 [15, 16, 25] [5]) [15, 16, 25] fr H = evTale (some (17, [], [(5, (.op (.bin .add (.t 0) (.c (.s (.int .i64 1)))) [(.t 5), (.c (.s (.int .i64 1)))]))])) [15, 16, 25] fr H := tale_row (items := [.tt 5, .sub 0 [] [], .sub 0 [] []]) (by kernel_rfl) fr H
def s_gnomonref03_Same_l0_b : ACode :=
  (.seq (.seq (.regionE s_gnomonref03_Same_r4 [11, 12, 13] [14])
  (.cond (.t 14)
  .skip
  (.exit 0)))
  (.seq (.block 1
  (.seq (.regionE s_gnomonref03_Same_r5 [14, 17, 18, 19, 20, 21, 22, 23, 24] [25])
  (.cond (.t 25)
  (.seq (.regionE s_gnomonref03_Same_r6 [0, 1, 5, 25] [4])
  .ret)
  .skip)))
  (.regionE s_gnomonref03_Same_r7 [15, 16, 25] [5])))
def s_gnomonref03_Same_l0 : ACode := s_gnomonref03_Same_l0_b
theorem s_gnomonref03_Same_l0_ev (call : CallF) (it : IterF) (base : Nat) (fr : List V) (H : Heap) : evC call it base s_gnomonref03_Same_l0 fr H = evC call it base s_gnomonref03_Same_l0_b fr H := rfl
def s_gnomonref03_Same_r8 : List AOper := [
  ⟨some 4, (.move (.c (.s (.bool true)))), none⟩]
theorem s_gnomonref03_Same_r8_tale (fr : List V) (H : Heap) : evTale (symAll s_gnomonref03_Same_r8 [0, 1, 5, 14] [4]) [0, 1, 5, 14] fr H = evTale (some (5, [], [(4, (.c (.s (.bool true))))])) [0, 1, 5, 14] fr H := tale_row (items := [.cc (.s (.bool true))]) (by kernel_rfl) fr H
def s_gnomonref03_Same : ACFun := { ntmps := 26, results := [(.tmp 4)], body :=
  (.seq (.regionE s_gnomonref03_Same_r0 s_gnomonref03_Same_r0_k [])
  (.seq (.seq (.regionE s_gnomonref03_Same_r1 [6, 7, 8, 9] [10])
  (.cond (.t 10)
  (.seq (.regionE s_gnomonref03_Same_r2 [0, 1, 10] [4])
  .ret)
  .skip))
  (.seq (.seq (.regionE s_gnomonref03_Same_r3 [10] [5])
  (.block 0
  (.loop [] s_gnomonref03_Same_l0)))
  (.seq (.regionE s_gnomonref03_Same_r8 [0, 1, 5, 14] [4])
  .ret)))) }
abbrev k_gnomonref03_Letter : Nat := 22
def s_gnomonref03_Letter_r0_k : List Nat := [1, 2, 3, 4, 5, 6, 7, 8, 9, 10, 11, 12, 13, 14, 15, 16, 17, 18, 19, 20]
theorem s_gnomonref03_Letter_r0_kT : killV s_gnomonref03_Letter_r0_k (startV 21 [] 1) = [] := by kernel_rfl
theorem s_gnomonref03_Letter_r0_kA0 : s_gnomonref03_Letter_r0_k.contains 0 = false := by kernel_rfl
def s_gnomonref03_Letter_r0 : List AOper := [
  ⟨some 2, (.move (.c (.s (.bool false)))), none⟩]
theorem s_gnomonref03_Letter_r0_tale (fr : List V) (H : Heap) : evTale (symAll s_gnomonref03_Letter_r0 s_gnomonref03_Letter_r0_k []) s_gnomonref03_Letter_r0_k fr H = evTale (some (3, [], [])) s_gnomonref03_Letter_r0_k fr H := tale_row (items := [.cc (.s (.bool false))]) (by kernel_rfl) fr H
def s_gnomonref03_Letter_r1 : List AOper := [
  ⟨some 3, (.move (.t 0)), none⟩,
  ⟨some 4, (.bin .geq (.t 3) (.c (.s (.int .u8 97)))), none⟩,
  ⟨some 5, (.move (.t 4)), none⟩,
  ⟨some 6, (.move (.t 0)), some (5, true)⟩,
  ⟨some 7, (.bin .leq (.t 6) (.c (.s (.int .u8 122)))), some (5, true)⟩,
  ⟨some 8, (.pick (.t 5) (.t 7) (.c (.s (.bool false)))), none⟩,
  ⟨some 9, (.move (.t 8)), none⟩,
  ⟨some 10, (.move (.t 0)), some (9, false)⟩,
  ⟨some 11, (.bin .geq (.t 10) (.c (.s (.int .u8 65)))), some (9, false)⟩,
  ⟨some 12, (.move (.t 11)), some (9, false)⟩,
  ⟨some 13, (.move (.t 0)), some (12, true)⟩,
  ⟨some 14, (.bin .leq (.t 13) (.c (.s (.int .u8 90)))), some (12, true)⟩,
  ⟨some 15, (.pick (.t 12) (.t 14) (.c (.s (.bool false)))), some (9, false)⟩,
  ⟨some 16, (.pick (.t 9) (.c (.s (.bool true))) (.t 15)), none⟩,
  ⟨some 17, (.move (.t 16)), none⟩,
  ⟨some 18, (.move (.t 0)), some (17, false)⟩,
  ⟨some 19, (.bin .eql (.t 18) (.c (.s (.int .u8 95)))), some (17, false)⟩,
  ⟨some 20, (.pick (.t 17) (.c (.s (.bool true))) (.t 19)), none⟩,
  ⟨some 2, (.move (.t 20)), none⟩]
theorem s_gnomonref03_Letter_r1_tale (fr : List V) (H : Heap) : evTale (symAll s_gnomonref03_Letter_r1 [0, 3, 4, 5, 6, 7, 8, 9, 10, 11, 12, 13, 14, 15, 16, 17, 18, 19, 20] [2]) [0, 3, 4, 5, 6, 7, 8, 9, 10, 11, 12, 13, 14, 15, 16, 17, 18, 19, 20] fr H = evTale (some (21, [], [(2, (.pick (.pick (.pick (.op (.bin .geq (.t 0) (.c (.s (.int .u8 97)))) [(.t 0), (.c (.s (.int .u8 97)))]) (.op (.bin .leq (.t 0) (.c (.s (.int .u8 122)))) [(.t 0), (.c (.s (.int .u8 122)))]) (.c (.s (.bool false)))) (.c (.s (.bool true))) (.pick (.op (.bin .geq (.t 0) (.c (.s (.int .u8 65)))) [(.t 0), (.c (.s (.int .u8 65)))]) (.op (.bin .leq (.t 0) (.c (.s (.int .u8 90)))) [(.t 0), (.c (.s (.int .u8 90)))]) (.c (.s (.bool false))))) (.c (.s (.bool true))) (.op (.bin .eql (.t 0) (.c (.s (.int .u8 95)))) [(.t 0), (.c (.s (.int .u8 95)))])))])) [0, 3, 4, 5, 6, 7, 8, 9, 10, 11, 12, 13, 14, 15, 16, 17, 18, 19, 20] fr H := tale_row (items := [.tt 0, .sub 0 [0, 0, 0] [], .sub 0 [0, 0, 0] [], .sub 0 [0, 0, 1, 0] [5], .sub 0 [0, 0, 1] [5], .sub 0 [0, 0] [], .sub 0 [0, 0] [], .sub 0 [0, 2, 0, 0] [9], .sub 0 [0, 2, 0] [9], .sub 0 [0, 2, 0] [9], .sub 0 [0, 2, 1, 0] [9, 12], .sub 0 [0, 2, 1] [9, 12], .sub 0 [0, 2] [9], .sub 0 [0] [], .sub 0 [0] [], .sub 0 [2, 0] [17], .sub 0 [2] [17], .sub 0 [] [], .sub 0 [] []]) (by kernel_rfl) fr H
def s_gnomonref03_Letter : ACFun := { ntmps := 21, results := [(.tmp 2)], body :=
  (.seq (.regionE s_gnomonref03_Letter_r0 s_gnomonref03_Letter_r0_k [])
  (.seq (.regionE s_gnomonref03_Letter_r1 [0, 3, 4, 5, 6, 7, 8, 9, 10, 11, 12, 13, 14, 15, 16, 17, 18, 19, 20] [2])
  .ret)) }
abbrev k_gnomonref03_Digit : Nat := 23
def s_gnomonref03_Digit_r0_k : List Nat := [1, 2, 3, 4, 5, 6, 7, 8]
theorem s_gnomonref03_Digit_r0_kT : killV s_gnomonref03_Digit_r0_k (startV 9 [] 1) = [] := by kernel_rfl
theorem s_gnomonref03_Digit_r0_kA0 : s_gnomonref03_Digit_r0_k.contains 0 = false := by kernel_rfl
def s_gnomonref03_Digit_r0 : List AOper := [
  ⟨some 2, (.move (.c (.s (.bool false)))), none⟩]
theorem s_gnomonref03_Digit_r0_tale (fr : List V) (H : Heap) : evTale (symAll s_gnomonref03_Digit_r0 s_gnomonref03_Digit_r0_k []) s_gnomonref03_Digit_r0_k fr H = evTale (some (3, [], [])) s_gnomonref03_Digit_r0_k fr H := tale_row (items := [.cc (.s (.bool false))]) (by kernel_rfl) fr H
def s_gnomonref03_Digit_r1 : List AOper := [
  ⟨some 3, (.move (.t 0)), none⟩,
  ⟨some 4, (.bin .geq (.t 3) (.c (.s (.int .u8 48)))), none⟩,
  ⟨some 5, (.move (.t 4)), none⟩,
  ⟨some 6, (.move (.t 0)), some (5, true)⟩,
  ⟨some 7, (.bin .leq (.t 6) (.c (.s (.int .u8 57)))), some (5, true)⟩,
  ⟨some 8, (.pick (.t 5) (.t 7) (.c (.s (.bool false)))), none⟩,
  ⟨some 2, (.move (.t 8)), none⟩]
theorem s_gnomonref03_Digit_r1_tale (fr : List V) (H : Heap) : evTale (symAll s_gnomonref03_Digit_r1 [0, 3, 4, 5, 6, 7, 8] [2]) [0, 3, 4, 5, 6, 7, 8] fr H = evTale (some (9, [], [(2, (.pick (.op (.bin .geq (.t 0) (.c (.s (.int .u8 48)))) [(.t 0), (.c (.s (.int .u8 48)))]) (.op (.bin .leq (.t 0) (.c (.s (.int .u8 57)))) [(.t 0), (.c (.s (.int .u8 57)))]) (.c (.s (.bool false)))))])) [0, 3, 4, 5, 6, 7, 8] fr H := tale_row (items := [.tt 0, .sub 0 [0] [], .sub 0 [0] [], .sub 0 [1, 0] [5], .sub 0 [1] [5], .sub 0 [] [], .sub 0 [] []]) (by kernel_rfl) fr H
def s_gnomonref03_Digit : ACFun := { ntmps := 9, results := [(.tmp 2)], body :=
  (.seq (.regionE s_gnomonref03_Digit_r0 s_gnomonref03_Digit_r0_k [])
  (.seq (.regionE s_gnomonref03_Digit_r1 [0, 3, 4, 5, 6, 7, 8] [2])
  .ret)) }
abbrev k_gnomonref03_Spot : Nat := 24
def s_gnomonref03_Spot_r0_k : List Nat := [2, 3, 5, 6, 7, 8, 9, 10, 11, 12, 13, 14, 15, 16, 17, 18, 19, 20, 21, 22, 23]
theorem s_gnomonref03_Spot_r0_k_kA0 : s_gnomonref03_Spot_r0_k.contains 0 = false := by kernel_rfl
theorem s_gnomonref03_Spot_r0_k_kA1 : s_gnomonref03_Spot_r0_k.contains 1 = false := by kernel_rfl
theorem s_gnomonref03_Spot_r0_k_kA4 : s_gnomonref03_Spot_r0_k.contains 4 = false := by kernel_rfl
def s_gnomonref03_Spot_r0 : List AOper := [⟨some 4, (.alloc [(.s (.int .i64 0)), (.s (.int .i64 0))]), none⟩]
theorem s_gnomonref03_Spot_r0_x (call : CallF) (it : IterF) (base : Nat) (f : List V) (H : Heap) : evC call it base (.region s_gnomonref03_Spot_r0 [] s_gnomonref03_Spot_r0_k) f H = opsC [] s_gnomonref03_Spot_r0 s_gnomonref03_Spot_r0_k (evOps call base [⟨some 4, (.alloc [(.s (.int .i64 0)), (.s (.int .i64 0))]), none⟩] f H) := row_ops call it base _ _ f H
def s_gnomonref03_Spot_r1 : List AOper := [
  ⟨some 5, (.move (.c (.s (.int .i64 1)))), none⟩,
  ⟨some 6, (.move (.c (.s (.int .i64 1)))), none⟩]
theorem s_gnomonref03_Spot_r1_tale (fr : List V) (H : Heap) : evTale (symAll s_gnomonref03_Spot_r1 [] [5, 6]) [] fr H = evTale (some (7, [], [(5, (.c (.s (.int .i64 1)))), (6, (.c (.s (.int .i64 1))))])) [] fr H := tale_row (items := [.cc (.s (.int .i64 1)), .cc (.s (.int .i64 1))]) (by kernel_rfl) fr H
def s_gnomonref03_Spot_r2 : List AOper := [
  ⟨some 7, (.move (.c (.s (.int .i64 0)))), none⟩]
theorem s_gnomonref03_Spot_r2_tale (fr : List V) (H : Heap) : evTale (symAll s_gnomonref03_Spot_r2 [] [7]) [] fr H = evTale (some (8, [], [(7, (.c (.s (.int .i64 0))))])) [] fr H := tale_row (items := [.cc (.s (.int .i64 0))]) (by kernel_rfl) fr H
def s_gnomonref03_Spot_r3 : List AOper := [
  ⟨some 8, (.move (.t 7)), none⟩,
  ⟨some 9, (.move (.t 1)), none⟩,
  ⟨some 10, (.bin .lss (.t 8) (.t 9)), none⟩]
theorem s_gnomonref03_Spot_r3_tale (fr : List V) (H : Heap) : evTale (symAll s_gnomonref03_Spot_r3 [8, 9] [10]) [8, 9] fr H = evTale (some (11, [], [(10, (.op (.bin .lss (.t 0) (.t 1)) [(.t 7), (.t 1)]))])) [8, 9] fr H := tale_row (items := [.tt 7, .tt 1, .sub 0 [] []]) (by kernel_rfl) fr H
def s_gnomonref03_Spot_r4 : List AOper := [
  ⟨some 13, (.move (.t 6)), none⟩,
  ⟨some 14, (.bin .add (.t 13) (.c (.s (.int .i64 1)))), none⟩,
  ⟨some 6, (.move (.t 14)), none⟩]
theorem s_gnomonref03_Spot_r4_tale (fr : List V) (H : Heap) : evTale (symAll s_gnomonref03_Spot_r4 [10, 13, 14] [6]) [10, 13, 14] fr H = evTale (some (15, [], [(6, (.op (.bin .add (.t 0) (.c (.s (.int .i64 1)))) [(.t 6), (.c (.s (.int .i64 1)))]))])) [10, 13, 14] fr H := tale_row (items := [.tt 6, .sub 0 [] [], .sub 0 [] []]) (by kernel_rfl) fr H
def s_gnomonref03_Spot_r5 : List AOper := [
  ⟨some 15, (.move (.t 0)), none⟩,
  ⟨some 16, (.move (.t 7)), none⟩,
  ⟨some 17, (.indexStr (.t 15) (.t 16)), none⟩,
  ⟨some 18, (.bin .eql (.t 17) (.c (.s (.int .u8 10)))), none⟩]
theorem s_gnomonref03_Spot_r5_tale (fr : List V) (H : Heap) : evTale (symAll s_gnomonref03_Spot_r5 [15, 16, 17] [18]) [15, 16, 17] fr H = evTale (some (19, [], [(18, (.op (.bin .eql (.t 0) (.c (.s (.int .u8 10)))) [(.op (.indexStr (.t 0) (.t 1)) [(.t 0), (.t 7)]), (.c (.s (.int .u8 10)))]))])) [15, 16, 17] fr H := tale_row (items := [.tt 0, .tt 7, .sub 0 [0] [], .sub 0 [] []]) (by kernel_rfl) fr H
def s_gnomonref03_Spot_r6 : List AOper := [
  ⟨some 19, (.move (.t 5)), none⟩,
  ⟨some 20, (.bin .add (.t 19) (.c (.s (.int .i64 1)))), none⟩,
  ⟨some 5, (.move (.t 20)), none⟩]
theorem s_gnomonref03_Spot_r6_tale (fr : List V) (H : Heap) : evTale (symAll s_gnomonref03_Spot_r6 [6, 18, 19, 20] [5]) [6, 18, 19, 20] fr H = evTale (some (21, [], [(5, (.op (.bin .add (.t 0) (.c (.s (.int .i64 1)))) [(.t 5), (.c (.s (.int .i64 1)))]))])) [6, 18, 19, 20] fr H := tale_row (items := [.tt 5, .sub 0 [] [], .sub 0 [] []]) (by kernel_rfl) fr H
def s_gnomonref03_Spot_r7 : List AOper := [
  ⟨some 6, (.move (.c (.s (.int .i64 1)))), none⟩]
theorem s_gnomonref03_Spot_r7_tale (fr : List V) (H : Heap) : evTale (symAll s_gnomonref03_Spot_r7 [] [6]) [] fr H = evTale (some (7, [], [(6, (.c (.s (.int .i64 1))))])) [] fr H := tale_row (items := [.cc (.s (.int .i64 1))]) (by kernel_rfl) fr H
def s_gnomonref03_Spot_r8 : List AOper := [
  ⟨some 11, (.move (.t 7)), none⟩,
  ⟨some 12, (.bin .add (.t 11) (.c (.s (.int .i64 1)))), none⟩,
  ⟨some 7, (.move (.t 12)), none⟩]
theorem s_gnomonref03_Spot_r8_tale (fr : List V) (H : Heap) : evTale (symAll s_gnomonref03_Spot_r8 [11, 12, 18] [7]) [11, 12, 18] fr H = evTale (some (13, [], [(7, (.op (.bin .add (.t 0) (.c (.s (.int .i64 1)))) [(.t 7), (.c (.s (.int .i64 1)))]))])) [11, 12, 18] fr H := tale_row (items := [.tt 7, .sub 0 [] [], .sub 0 [] []]) (by kernel_rfl) fr H
def s_gnomonref03_Spot_l0_b : ACode :=
  (.seq (.seq (.regionE s_gnomonref03_Spot_r3 [8, 9] [10])
  (.cond (.t 10)
  .skip
  (.exit 0)))
  (.seq (.block 1
  (.seq (.regionE s_gnomonref03_Spot_r4 [10, 13, 14] [6])
  (.seq (.regionE s_gnomonref03_Spot_r5 [15, 16, 17] [18])
  (.cond (.t 18)
  (.seq (.regionE s_gnomonref03_Spot_r6 [6, 18, 19, 20] [5])
  (.regionE s_gnomonref03_Spot_r7 [] [6]))
  .skip))))
  (.regionE s_gnomonref03_Spot_r8 [11, 12, 18] [7])))
def s_gnomonref03_Spot_l0 : ACode := s_gnomonref03_Spot_l0_b
theorem s_gnomonref03_Spot_l0_ev (call : CallF) (it : IterF) (base : Nat) (fr : List V) (H : Heap) : evC call it base s_gnomonref03_Spot_l0 fr H = evC call it base s_gnomonref03_Spot_l0_b fr H := rfl
def s_gnomonref03_Spot_r9t1 : List AOper := [⟨none, (.store 2 (.t 4) (.t 23)), none⟩]
def s_gnomonref03_Spot_r9p0 : List AOper := [⟨some 21, (.move (.t 5)), none⟩, ⟨some 22, (.move (.t 6)), none⟩, ⟨some 23, (.build [(.s (.int .i64 0)), (.s (.int .i64 0))] [(0, 1), (1, 1)] [(0, (.t 21)), (1, (.t 22))]), none⟩]
def s_gnomonref03_Spot_r9 : List AOper := s_gnomonref03_Spot_r9p0 ++ s_gnomonref03_Spot_r9t1
theorem s_gnomonref03_Spot_r9p0_tale (fr : List V) (H : Heap) : evTale (symAll s_gnomonref03_Spot_r9p0 [0, 1, 5, 6, 7, 10, 21, 22] [23]) [0, 1, 5, 6, 7, 10, 21, 22] fr H = evTale (some (24, [], [(23, (.op (.build [(.s (.int .i64 0)), (.s (.int .i64 0))] [(0, 1), (1, 1)] [(0, (.t 0)), (1, (.t 1))]) [(.t 5), (.t 6)]))])) [0, 1, 5, 6, 7, 10, 21, 22] fr H := tale_row (items := [.tt 5, .tt 6, .sub 0 [] []]) (by kernel_rfl) fr H
theorem s_gnomonref03_Spot_r9_x (call : CallF) (it : IterF) (base : Nat) (f : List V) (H : Heap) : evC call it base (.region s_gnomonref03_Spot_r9 [] [0, 1, 5, 6, 7, 10, 21, 22, 23]) f H = segC call it base s_gnomonref03_Spot_r9t1 [0, 1, 5, 6, 7, 10, 21, 22, 23] H (evTale (symAll s_gnomonref03_Spot_r9p0 [0, 1, 5, 6, 7, 10, 21, 22] [23]) [0, 1, 5, 6, 7, 10, 21, 22] f H) (origRow call it base s_gnomonref03_Spot_r9 [0, 1, 5, 6, 7, 10, 21, 22, 23] f H) := row_seg call it base s_gnomonref03_Spot_r9p0 s_gnomonref03_Spot_r9t1 (by kernel_rfl) f H
theorem s_gnomonref03_Spot_r9t1_x (call : CallF) (it : IterF) (base : Nat) (f : List V) (H : Heap) : evC call it base (.region s_gnomonref03_Spot_r9t1 [] [0, 1, 5, 6, 7, 10, 21, 22, 23]) f H = opsC [] s_gnomonref03_Spot_r9t1 [0, 1, 5, 6, 7, 10, 21, 22, 23] (evOps call base [⟨none, (.store 2 (.t 4) (.t 23)), none⟩] f H) := row_ops call it base _ _ f H
def s_gnomonref03_Spot : ACFun := { ntmps := 24, results := [(.cell 4 true 2)], body :=
  (.seq (.region s_gnomonref03_Spot_r0 [] s_gnomonref03_Spot_r0_k)
  (.seq (.regionE s_gnomonref03_Spot_r1 [] [5, 6])
  (.seq (.seq (.regionE s_gnomonref03_Spot_r2 [] [7])
  (.block 0
  (.loop [] s_gnomonref03_Spot_l0)))
  (.seq (.region s_gnomonref03_Spot_r9 [] [0, 1, 5, 6, 7, 10, 21, 22, 23])
  .ret)))) }
theorem s_gnomonref03_Spot_first : firstOk (List.range' 2 (s_gnomonref03_Spot.ntmps - 2)) s_gnomonref03_Spot.body = true := by kernel_rfl
abbrev k_gnomonref03_Sign : Nat := 25
def s_gnomonref03_Sign_r0_k : List Nat := [1, 2, 3, 4, 5, 6, 7, 8, 9, 10, 11, 12, 13, 14, 15]
theorem s_gnomonref03_Sign_r0_kT : killV s_gnomonref03_Sign_r0_k (startV 16 [] 1) = [] := by kernel_rfl
theorem s_gnomonref03_Sign_r0_kA0 : s_gnomonref03_Sign_r0_k.contains 0 = false := by kernel_rfl
def s_gnomonref03_Sign_r0 : List AOper := [
  ⟨some 2, (.move (.c (.s (.bool false)))), none⟩]
theorem s_gnomonref03_Sign_r0_tale (fr : List V) (H : Heap) : evTale (symAll s_gnomonref03_Sign_r0 s_gnomonref03_Sign_r0_k []) s_gnomonref03_Sign_r0_k fr H = evTale (some (3, [], [])) s_gnomonref03_Sign_r0_k fr H := tale_row (items := [.cc (.s (.bool false))]) (by kernel_rfl) fr H
def s_gnomonref03_Sign_r1 : List AOper := [
  ⟨some 3, (.move (.c (.s (.string ⟨#[61, 44, 58, 40, 41, 123, 125, 91, 93]⟩)))), none⟩]
theorem s_gnomonref03_Sign_r1_tale (fr : List V) (H : Heap) : evTale (symAll s_gnomonref03_Sign_r1 [] [3]) [] fr H = evTale (some (4, [], [(3, (.c (.s (.string ⟨#[61, 44, 58, 40, 41, 123, 125, 91, 93]⟩))))])) [] fr H := tale_row (items := [.cc (.s (.string ⟨#[61, 44, 58, 40, 41, 123, 125, 91, 93]⟩))]) (by kernel_rfl) fr H
def s_gnomonref03_Sign_r2 : List AOper := [
  ⟨some 4, (.move (.c (.s (.int .i64 0)))), none⟩]
theorem s_gnomonref03_Sign_r2_tale (fr : List V) (H : Heap) : evTale (symAll s_gnomonref03_Sign_r2 [] [4]) [] fr H = evTale (some (5, [], [(4, (.c (.s (.int .i64 0))))])) [] fr H := tale_row (items := [.cc (.s (.int .i64 0))]) (by kernel_rfl) fr H
def s_gnomonref03_Sign_r3 : List AOper := [
  ⟨some 5, (.move (.t 4)), none⟩,
  ⟨some 6, (.move (.t 3)), none⟩,
  ⟨some 7, (.lenS .p (.t 6)), none⟩,
  ⟨some 8, (.bin .lss (.t 5) (.t 7)), none⟩]
theorem s_gnomonref03_Sign_r3_tale (fr : List V) (H : Heap) : evTale (symAll s_gnomonref03_Sign_r3 [5, 6, 7] [8]) [5, 6, 7] fr H = evTale (some (9, [], [(8, (.op (.bin .lss (.t 0) (.t 1)) [(.t 4), (.op (.lenS .p (.t 0)) [(.t 3)])]))])) [5, 6, 7] fr H := tale_row (items := [.tt 4, .tt 3, .sub 0 [1] [], .sub 0 [] []]) (by kernel_rfl) fr H
def s_gnomonref03_Sign_r4 : List AOper := [
  ⟨some 11, (.move (.t 3)), none⟩,
  ⟨some 12, (.move (.t 4)), none⟩,
  ⟨some 13, (.indexStr (.t 11) (.t 12)), none⟩,
  ⟨some 14, (.move (.t 0)), none⟩,
  ⟨some 15, (.bin .eql (.t 13) (.t 14)), none⟩]
theorem s_gnomonref03_Sign_r4_tale (fr : List V) (H : Heap) : evTale (symAll s_gnomonref03_Sign_r4 [8, 11, 12, 13, 14] [15]) [8, 11, 12, 13, 14] fr H = evTale (some (16, [], [(15, (.op (.bin .eql (.t 0) (.t 1)) [(.op (.indexStr (.t 0) (.t 1)) [(.t 3), (.t 4)]), (.t 0)]))])) [8, 11, 12, 13, 14] fr H := tale_row (items := [.tt 3, .tt 4, .sub 0 [0] [], .tt 0, .sub 0 [] []]) (by kernel_rfl) fr H
def s_gnomonref03_Sign_r5 : List AOper := [
  ⟨some 2, (.move (.c (.s (.bool true)))), none⟩]
theorem s_gnomonref03_Sign_r5_tale (fr : List V) (H : Heap) : evTale (symAll s_gnomonref03_Sign_r5 [0, 3, 4, 15] [2]) [0, 3, 4, 15] fr H = evTale (some (3, [], [(2, (.c (.s (.bool true))))])) [0, 3, 4, 15] fr H := tale_row (items := [.cc (.s (.bool true))]) (by kernel_rfl) fr H
def s_gnomonref03_Sign_r6 : List AOper := [
  ⟨some 9, (.move (.t 4)), none⟩,
  ⟨some 10, (.bin .add (.t 9) (.c (.s (.int .i64 1)))), none⟩,
  ⟨some 4, (.move (.t 10)), none⟩]
theorem s_gnomonref03_Sign_r6_tale (fr : List V) (H : Heap) : evTale (symAll s_gnomonref03_Sign_r6 [9, 10, 15] [4]) [9, 10, 15] fr H = evTale (some (11, [], [(4, (.op (.bin .add (.t 0) (.c (.s (.int .i64 1)))) [(.t 4), (.c (.s (.int .i64 1)))]))])) [9, 10, 15] fr H := tale_row (items := [.tt 4, .sub 0 [] [], .sub 0 [] []]) (by kernel_rfl) fr H
def s_gnomonref03_Sign_l0_b : ACode :=
  (.seq (.seq (.regionE s_gnomonref03_Sign_r3 [5, 6, 7] [8])
  (.cond (.t 8)
  .skip
  (.exit 0)))
  (.seq (.block 1
  (.seq (.regionE s_gnomonref03_Sign_r4 [8, 11, 12, 13, 14] [15])
  (.cond (.t 15)
  (.seq (.regionE s_gnomonref03_Sign_r5 [0, 3, 4, 15] [2])
  .ret)
  .skip)))
  (.regionE s_gnomonref03_Sign_r6 [9, 10, 15] [4])))
def s_gnomonref03_Sign_l0 : ACode := s_gnomonref03_Sign_l0_b
theorem s_gnomonref03_Sign_l0_ev (call : CallF) (it : IterF) (base : Nat) (fr : List V) (H : Heap) : evC call it base s_gnomonref03_Sign_l0 fr H = evC call it base s_gnomonref03_Sign_l0_b fr H := rfl
def s_gnomonref03_Sign_r7 : List AOper := [
  ⟨some 2, (.move (.c (.s (.bool false)))), none⟩]
theorem s_gnomonref03_Sign_r7_tale (fr : List V) (H : Heap) : evTale (symAll s_gnomonref03_Sign_r7 [0, 3, 4, 8] [2]) [0, 3, 4, 8] fr H = evTale (some (3, [], [(2, (.c (.s (.bool false))))])) [0, 3, 4, 8] fr H := tale_row (items := [.cc (.s (.bool false))]) (by kernel_rfl) fr H
def s_gnomonref03_Sign : ACFun := { ntmps := 16, results := [(.tmp 2)], body :=
  (.seq (.regionE s_gnomonref03_Sign_r0 s_gnomonref03_Sign_r0_k [])
  (.seq (.regionE s_gnomonref03_Sign_r1 [] [3])
  (.seq (.seq (.regionE s_gnomonref03_Sign_r2 [] [4])
  (.block 0
  (.loop [] s_gnomonref03_Sign_l0)))
  (.seq (.regionE s_gnomonref03_Sign_r7 [0, 3, 4, 8] [2])
  .ret)))) }
def a_gnomonlaw03_TokenLexes := And.intro @s_gnomonlaw03_TokenLexes_r0_tale (And.intro @s_gnomonlaw03_TokenLexes_r0_kT (And.intro @s_gnomonlaw03_TokenLexes_r0_kA0 (And.intro @s_gnomonlaw03_TokenLexes_r1_tale (And.intro @s_gnomonlaw03_TokenLexes_r2_tale (And.intro @s_gnomonlaw03_TokenLexes_r3p0_tale (And.intro @s_gnomonlaw03_TokenLexes_r3_x (And.intro @s_gnomonlaw03_TokenLexes_r3t1_x (And.intro @s_gnomonlaw03_TokenLexes_r3p2_tale (And.intro @s_gnomonlaw03_TokenLexes_r3t2_x (And.intro @s_gnomonlaw03_TokenLexes_r3t3_x (And.intro @s_gnomonlaw03_TokenLexes_r3p4_tale (And.intro @s_gnomonlaw03_TokenLexes_r3t4_x (And.intro @s_gnomonlaw03_TokenLexes_r3t5_x (And.intro @s_gnomonlaw03_TokenLexes_r3t6_tale (And.intro @s_gnomonlaw03_TokenLexes_r3t6_x (And.intro @s_gnomonlaw03_TokenLexes_r4p0_tale (And.intro @s_gnomonlaw03_TokenLexes_r4_x (And.intro @s_gnomonlaw03_TokenLexes_r4t1_x (And.intro @s_gnomonlaw03_TokenLexes_r4p2_tale (And.intro @s_gnomonlaw03_TokenLexes_r4t2_x (And.intro @s_gnomonlaw03_TokenLexes_r4t3_x (And.intro @s_gnomonlaw03_TokenLexes_r4p4_tale (And.intro @s_gnomonlaw03_TokenLexes_r4t4_x (And.intro @s_gnomonlaw03_TokenLexes_r4t5_x (And.intro @s_gnomonlaw03_TokenLexes_r4t6_tale (And.intro @s_gnomonlaw03_TokenLexes_r4t6_x (And.intro @s_gnomonlaw03_TokenLexes_r5p0_tale (And.intro @s_gnomonlaw03_TokenLexes_r5_x (And.intro @s_gnomonlaw03_TokenLexes_r5t1_x (And.intro @s_gnomonlaw03_TokenLexes_r5p2_tale (And.intro @s_gnomonlaw03_TokenLexes_r5t2_x (And.intro @s_gnomonlaw03_TokenLexes_r5t3_x (And.intro @s_gnomonlaw03_TokenLexes_r5t4_tale (@s_gnomonlaw03_TokenLexes_r5t4_x))))))))))))))))))))))))))))))))))
def a_gnomonref03_Lex := And.intro @s_gnomonref03_Lex_r0p0_k_kA0 (And.intro @s_gnomonref03_Lex_r0p0_k_kA2 (And.intro @s_gnomonref03_Lex_r0p0_k_kA3 (And.intro @s_gnomonref03_Lex_r0p0_k_kA4 (And.intro @s_gnomonref03_Lex_r0p0_tale (And.intro @s_gnomonref03_Lex_r0_x (And.intro @s_gnomonref03_Lex_r0t1_x (And.intro @s_gnomonref03_Lex_r0t2_tale (And.intro @s_gnomonref03_Lex_r0t2_x (And.intro @s_gnomonref03_Lex_r0_k_kA0 (And.intro @s_gnomonref03_Lex_r0_k_kA2 (And.intro @s_gnomonref03_Lex_r0_k_kA3 (And.intro @s_gnomonref03_Lex_r0_k_kA4 (And.intro @s_gnomonref03_Lex_r1_tale (And.intro @s_gnomonref03_Lex_r2p0_tale (And.intro @s_gnomonref03_Lex_r2_x (And.intro @s_gnomonref03_Lex_r2t1_x (And.intro @s_gnomonref03_Lex_r2t2_tale (And.intro @s_gnomonref03_Lex_r2t2_x (And.intro @s_gnomonref03_Lex_r3_tale (And.intro @s_gnomonref03_Lex_r4_tale (And.intro @s_gnomonref03_Lex_r5_tale (And.intro @s_gnomonref03_Lex_r6_tale (And.intro @s_gnomonref03_Lex_r7_tale (And.intro @s_gnomonref03_Lex_r8_tale (And.intro @s_gnomonref03_Lex_r9_tale (And.intro @s_gnomonref03_Lex_r10_tale (And.intro @s_gnomonref03_Lex_r11_tale (And.intro @s_gnomonref03_Lex_r12_tale (And.intro @s_gnomonref03_Lex_l0_ev (And.intro @s_gnomonref03_Lex_r13p0_tale (And.intro @s_gnomonref03_Lex_r13_x (And.intro @s_gnomonref03_Lex_r13t1_x (And.intro @s_gnomonref03_Lex_r13t2_tale (And.intro @s_gnomonref03_Lex_r13t2_x (And.intro @s_gnomonref03_Lex_r14p0_tale (And.intro @s_gnomonref03_Lex_r14_x (And.intro @s_gnomonref03_Lex_r14t1_x (And.intro @s_gnomonref03_Lex_r14t2_x (And.intro @s_gnomonref03_Lex_r14t3_x (And.intro @s_gnomonref03_Lex_r14t4_x (And.intro @s_gnomonref03_Lex_r14t5_x (And.intro @s_gnomonref03_Lex_r14t6_x (And.intro @s_gnomonref03_Lex_r14t7_x (And.intro @s_gnomonref03_Lex_r14t8_x (And.intro @s_gnomonref03_Lex_r14t9_x (And.intro @s_gnomonref03_Lex_r14t10_tale (And.intro @s_gnomonref03_Lex_r14t10_x (And.intro @s_gnomonref03_Lex_r15_tale (And.intro @s_gnomonref03_Lex_l1_ev (And.intro @s_gnomonref03_Lex_r16p0_tale (And.intro @s_gnomonref03_Lex_r16_x (And.intro @s_gnomonref03_Lex_r16t1_x (And.intro @s_gnomonref03_Lex_r16p2_tale (And.intro @s_gnomonref03_Lex_r16t2_x (And.intro @s_gnomonref03_Lex_r16t3_x (And.intro @s_gnomonref03_Lex_r16t4_x (And.intro @s_gnomonref03_Lex_r16t5_tale (And.intro @s_gnomonref03_Lex_r16t5_x (And.intro @s_gnomonref03_Lex_r17p0_tale (And.intro @s_gnomonref03_Lex_r17_x (And.intro @s_gnomonref03_Lex_r17t1_x (And.intro @s_gnomonref03_Lex_r17t2_tale (And.intro @s_gnomonref03_Lex_r17t2_x (And.intro @s_gnomonref03_Lex_r18_tale (And.intro @s_gnomonref03_Lex_r19p0_tale (And.intro @s_gnomonref03_Lex_r19_x (And.intro @s_gnomonref03_Lex_r19t1_x (And.intro @s_gnomonref03_Lex_r19t2_x (And.intro @s_gnomonref03_Lex_r19t3_x (And.intro @s_gnomonref03_Lex_r19t4_x (And.intro @s_gnomonref03_Lex_r19t5_tale (And.intro @s_gnomonref03_Lex_r19t5_x (And.intro @s_gnomonref03_Lex_r20_tale (And.intro @s_gnomonref03_Lex_r21_tale (And.intro @s_gnomonref03_Lex_r22_tale (And.intro @s_gnomonref03_Lex_l2_ev (And.intro @s_gnomonref03_Lex_r23p0_tale (And.intro @s_gnomonref03_Lex_r23_x (And.intro @s_gnomonref03_Lex_r23t1_x (And.intro @s_gnomonref03_Lex_r23t2_x (And.intro @s_gnomonref03_Lex_r23t3_x (And.intro @s_gnomonref03_Lex_r23t4_x (And.intro @s_gnomonref03_Lex_r23t5_tale (And.intro @s_gnomonref03_Lex_r23t5_x (And.intro @s_gnomonref03_Lex_r24_tale (And.intro @s_gnomonref03_Lex_r25p0_tale (And.intro @s_gnomonref03_Lex_r25_x (And.intro @s_gnomonref03_Lex_r25t1_x (And.intro @s_gnomonref03_Lex_r25p2_tale (And.intro @s_gnomonref03_Lex_r25t2_x (And.intro @s_gnomonref03_Lex_r25t3_x (And.intro @s_gnomonref03_Lex_r25t4_tale (And.intro @s_gnomonref03_Lex_r25t4_x (And.intro @s_gnomonref03_Lex_r26p0_tale (And.intro @s_gnomonref03_Lex_r26_x (And.intro @s_gnomonref03_Lex_r26t1_x (And.intro @s_gnomonref03_Lex_r26p2_tale (And.intro @s_gnomonref03_Lex_r26t2_x (And.intro @s_gnomonref03_Lex_r26t3_x (And.intro @s_gnomonref03_Lex_r26t4_x (And.intro @s_gnomonref03_Lex_r26t5_tale (And.intro @s_gnomonref03_Lex_r26t5_x (And.intro @s_gnomonref03_Lex_r27p0_tale (And.intro @s_gnomonref03_Lex_r27_x (And.intro @s_gnomonref03_Lex_r27t1_x (And.intro @s_gnomonref03_Lex_r27t2_tale (And.intro @s_gnomonref03_Lex_r27t2_x (And.intro @s_gnomonref03_Lex_r28_tale (And.intro @s_gnomonref03_Lex_r29p0_tale (And.intro @s_gnomonref03_Lex_r29_x (And.intro @s_gnomonref03_Lex_r29t1_x (And.intro @s_gnomonref03_Lex_r29p2_tale (And.intro @s_gnomonref03_Lex_r29t2_x (And.intro @s_gnomonref03_Lex_r29t3_x (And.intro @s_gnomonref03_Lex_r29t4_x (And.intro @s_gnomonref03_Lex_r29t5_tale (And.intro @s_gnomonref03_Lex_r29t5_x (And.intro @s_gnomonref03_Lex_r30p0_tale (And.intro @s_gnomonref03_Lex_r30_x (And.intro @s_gnomonref03_Lex_r30t1_x (And.intro @s_gnomonref03_Lex_r30p2_tale (And.intro @s_gnomonref03_Lex_r30t2_x (And.intro @s_gnomonref03_Lex_r30t3_x (And.intro @s_gnomonref03_Lex_r30t4_tale (And.intro @s_gnomonref03_Lex_r30t4_x (And.intro @s_gnomonref03_Lex_l3_ev (And.intro @s_gnomonref03_Lex_r31p0_tale (And.intro @s_gnomonref03_Lex_r31_x (And.intro @s_gnomonref03_Lex_r31t1_x (And.intro @s_gnomonref03_Lex_r31p2_tale (And.intro @s_gnomonref03_Lex_r31t2_x (And.intro @s_gnomonref03_Lex_r31t3_x (And.intro @s_gnomonref03_Lex_r31t4_x (And.intro @s_gnomonref03_Lex_r31t5_tale (And.intro @s_gnomonref03_Lex_r31t5_x (And.intro @s_gnomonref03_Lex_r32p0_tale (And.intro @s_gnomonref03_Lex_r32_x (And.intro @s_gnomonref03_Lex_r32t1_x (And.intro @s_gnomonref03_Lex_r32t2_tale (@s_gnomonref03_Lex_r32t2_x))))))))))))))))))))))))))))))))))))))))))))))))))))))))))))))))))))))))))))))))))))))))))))))))))))))))))))))))))))))))))))))))))))))))))))
def a_gnomonref03_Same := And.intro @s_gnomonref03_Same_r0_tale (And.intro @s_gnomonref03_Same_r0_kT (And.intro @s_gnomonref03_Same_r0_kA0 (And.intro @s_gnomonref03_Same_r0_kA1 (And.intro @s_gnomonref03_Same_r1_tale (And.intro @s_gnomonref03_Same_r2_tale (And.intro @s_gnomonref03_Same_r3_tale (And.intro @s_gnomonref03_Same_r4_tale (And.intro @s_gnomonref03_Same_r5_tale (And.intro @s_gnomonref03_Same_r6_tale (And.intro @s_gnomonref03_Same_r7_tale (And.intro @s_gnomonref03_Same_l0_ev (@s_gnomonref03_Same_r8_tale))))))))))))
def a_gnomonref03_Letter := And.intro @s_gnomonref03_Letter_r0_tale (And.intro @s_gnomonref03_Letter_r0_kT (And.intro @s_gnomonref03_Letter_r0_kA0 (@s_gnomonref03_Letter_r1_tale)))
def a_gnomonref03_Digit := And.intro @s_gnomonref03_Digit_r0_tale (And.intro @s_gnomonref03_Digit_r0_kT (And.intro @s_gnomonref03_Digit_r0_kA0 (@s_gnomonref03_Digit_r1_tale)))
def a_gnomonref03_Spot := And.intro @s_gnomonref03_Spot_r0_x (And.intro @s_gnomonref03_Spot_r0_k_kA0 (And.intro @s_gnomonref03_Spot_r0_k_kA1 (And.intro @s_gnomonref03_Spot_r0_k_kA4 (And.intro @s_gnomonref03_Spot_r1_tale (And.intro @s_gnomonref03_Spot_r2_tale (And.intro @s_gnomonref03_Spot_r3_tale (And.intro @s_gnomonref03_Spot_r4_tale (And.intro @s_gnomonref03_Spot_r5_tale (And.intro @s_gnomonref03_Spot_r6_tale (And.intro @s_gnomonref03_Spot_r7_tale (And.intro @s_gnomonref03_Spot_r8_tale (And.intro @s_gnomonref03_Spot_l0_ev (And.intro @s_gnomonref03_Spot_r9p0_tale (And.intro @s_gnomonref03_Spot_r9_x (@s_gnomonref03_Spot_r9t1_x)))))))))))))))
def a_gnomonref03_Sign := And.intro @s_gnomonref03_Sign_r0_tale (And.intro @s_gnomonref03_Sign_r0_kT (And.intro @s_gnomonref03_Sign_r0_kA0 (And.intro @s_gnomonref03_Sign_r1_tale (And.intro @s_gnomonref03_Sign_r2_tale (And.intro @s_gnomonref03_Sign_r3_tale (And.intro @s_gnomonref03_Sign_r4_tale (And.intro @s_gnomonref03_Sign_r5_tale (And.intro @s_gnomonref03_Sign_r6_tale (And.intro @s_gnomonref03_Sign_l0_ev (@s_gnomonref03_Sign_r7_tale))))))))))
theorem TA2_3 : compK Tryd.prog PX0 3 = some (false, s_gnomonlaw03_TokenLexes.ntmps, s_gnomonlaw03_TokenLexes.results, s_gnomonlaw03_TokenLexes.body.bare) := by kernel_rfl
theorem TA2_9 : compK Tryd.prog PX0 9 = some (false, s_gnomonref03_Lex.ntmps, s_gnomonref03_Lex.results, s_gnomonref03_Lex.body.bare) := by kernel_rfl
theorem TA2_10 : compK Tryd.prog PX0 10 = some (false, s_gnomonref03_Same.ntmps, s_gnomonref03_Same.results, s_gnomonref03_Same.body.bare) := by kernel_rfl
theorem TA2_22 : compK Tryd.prog PX0 22 = some (false, s_gnomonref03_Letter.ntmps, s_gnomonref03_Letter.results, s_gnomonref03_Letter.body.bare) := by kernel_rfl
theorem TA2_23 : compK Tryd.prog PX0 23 = some (false, s_gnomonref03_Digit.ntmps, s_gnomonref03_Digit.results, s_gnomonref03_Digit.body.bare) := by kernel_rfl
theorem TA2_24 : compK Tryd.prog PX0 24 = some (false, s_gnomonref03_Spot.ntmps, s_gnomonref03_Spot.results, s_gnomonref03_Spot.body.bare) := by kernel_rfl
theorem TA2_25 : compK Tryd.prog PX0 25 = some (false, s_gnomonref03_Sign.ntmps, s_gnomonref03_Sign.results, s_gnomonref03_Sign.body.bare) := by kernel_rfl
end Go.Proofs.YtfnkpedipicjnaaDoor
set_option maxRecDepth 100000
namespace Go.Proofs.YtfnkpedipicjnaaDoor
open Go.AM
section
variable {CT : Nat → Option CFun}
theorem rletter_fun (hT : CT k_gnomonref03_Letter = some (.code s_gnomonref03_Letter)) (c : UInt8) (base : Nat) (H : Heap) : callW CT (.fn k_gnomonref03_Letter [] []) [.s (.int .u8 c.toNat)] base H = some (bl (Tok.letter c), H) := by
  refine callW_fn (c := s_gnomonref03_Letter) hT (by simp [s_gnomonref03_Letter]) ?_
  rw [← letter_m]
  simp only [s_gnomonref03_Letter, a_gnomonref03_Letter, am0,am1,am2,am3,am4,am5,am6,am7,bl,i64,reduceIte,reduceCtorEq,Nat.reduceEqDiff,Nat.reduceLT,Nat.reduceLeDiff,Nat.reduceBEq,Nat.reduceAdd,fillA,splice,Nat.reduceMul,al0,al1,al2,al3,al4,al5,al6,al7,al8,al9,al10,al11,al12,al13,al14,al15,al16,al17,al18,al19,al20,al21,al22,al23,al24,al25,al26,al27,al28,al29,al30,al31,al32,al33,al34,amY,op_eqP]
theorem rdigit_fun (hT : CT k_gnomonref03_Digit = some (.code s_gnomonref03_Digit)) (c : UInt8) (base : Nat) (H : Heap) : callW CT (.fn k_gnomonref03_Digit [] []) [.s (.int .u8 c.toNat)] base H = some (bl (Tok.digit c), H) := by
  refine callW_fn (c := s_gnomonref03_Digit) hT (by simp [s_gnomonref03_Digit]) ?_
  rw [← digit_m]
  simp only [s_gnomonref03_Digit, a_gnomonref03_Digit, am0,am1,am2,am3,am4,am5,am6,am7,bl,i64,reduceIte,reduceCtorEq,Nat.reduceEqDiff,Nat.reduceLT,Nat.reduceLeDiff,Nat.reduceBEq,Nat.reduceAdd,fillA,splice,Nat.reduceMul,al0,al1,al2,al3,al4,al5,al6,al7,al8,al9,al10,al11,al12,al13,al14,al15,al16,al17,al18,al19,al20,al21,al22,al23,al24,al25,al26,al27,al28,al29,al30,al31,al32,al33,al34,amY,op_eqP]
def signs : ByteArray := ⟨#[61, 44, 58, 40, 41, 123, 125, 91, 93]⟩
theorem sign_loop (call : CallF) (base : Nat) (c : UInt8) (H : Heap) : ∀ (l : List UInt8) (j : Nat), signs.data.toList.drop j = l → j ≤ 9 →
    itW (evC call itW base s_gnomonref03_Sign_l0) [] H.length (frOf 16 [(0, .s (.int .u8 c.toNat)), (3, .s (.string signs)), (4, I j)]) H =
    bif l.contains c then some (.ret, frOf 16 [(2, bl true)], H) else some (.ext 0, frOf 16 [(0, .s (.int .u8 c.toNat)), (3, .s (.string signs)), (4, I ((9 : Nat) : Int)), (8, bl false)], H) := by
  intro l
  induction l with
  | nil =>
    intro j hd hj
    have h9 : j = 9 := by
      have := congrArg List.length hd
      rw [List.length_drop, show signs.data.toList.length = 9 from rfl] at this
      simp at this
      omega
    subst h9
    rw [itW_step]
    simp only [a_gnomonref03_Sign,s_gnomonref03_Sign_l0_b, am0,am1,am2,am3,am4,am5,am6,am7,bl,i64,reduceIte,reduceCtorEq,Nat.reduceEqDiff,Nat.reduceLT,Nat.reduceLeDiff,Nat.reduceBEq,Nat.reduceAdd,fillA,splice,Nat.reduceMul,al0,al1,al2,al3,al4,al5,al6,al7,al8,al9,al10,al11,al12,al13,al14,al15,al16,al17,al18,al19,al20,al21,al22,al23,al24,al25,al26,al27,al28,al29,al30,al31,al32,al33,al34,amY,op_eqP, I, show signs.size = 9 from rfl, Int.lt_irrefl, List.contains_nil]
  | cons x l ih =>
    intro j hd hj
    have hx : signs.data.toList[j]? = some x := by have := congrArg (·[0]?) hd; simp only [List.getElem?_drop] at this; exact this
    have hlt : j < 9 := (List.getElem?_eq_some_iff.1 hx).1
    have hd' : signs.data.toList.drop (j + 1) = l := by
      have := congrArg (List.drop 1) hd
      simpa [List.drop_drop] using this
    have w := w64_nat (n := j) (by omega)
    have hlt' : ((j : Int) < ((signs.size : Nat) : Int)) := by rw [show signs.size = 9 from rfl]; omega
    have hen := ih (j + 1) hd' (by omega)
    have e : ((x.toNat : Int) == (c.toNat : Int)) = (c == x) := by rw [Bool.eq_iff_iff, beq_iff_eq, beq_iff_eq, byte_ne]; exact eq_comm
    rw [itW_step, List.contains_cons]
    cases hcx : c == x with
    | true =>
      simp only [a_gnomonref03_Sign,s_gnomonref03_Sign_l0_b, am0,am1,am2,am3,am4,am5,am6,am7,bl,i64,reduceIte,reduceCtorEq,Nat.reduceEqDiff,Nat.reduceLT,Nat.reduceLeDiff,Nat.reduceBEq,Nat.reduceAdd,fillA,splice,Nat.reduceMul,al0,al1,al2,al3,al4,al5,al6,al7,al8,al9,al10,al11,al12,al13,al14,al15,al16,al17,al18,al19,al20,al21,al22,al23,al24,al25,al26,al27,al28,al29,al30,al31,al32,al33,al34,amY,op_eqP, I, hlt', hx, e, hcx]
    | false =>
      simp only [a_gnomonref03_Sign,s_gnomonref03_Sign_l0_b, am0,am1,am2,am3,am4,am5,am6,am7,bl,i64,reduceIte,reduceCtorEq,Nat.reduceEqDiff,Nat.reduceLT,Nat.reduceLeDiff,Nat.reduceBEq,Nat.reduceAdd,fillA,splice,Nat.reduceMul,al0,al1,al2,al3,al4,al5,al6,al7,al8,al9,al10,al11,al12,al13,al14,al15,al16,al17,al18,al19,al20,al21,al22,al23,al24,al25,al26,al27,al28,al29,al30,al31,al32,al33,al34,amY,op_eqP, I, hlt', hx, e, hcx, w]
      simp only [I] at hen
      rw [hen]
      rfl
theorem spot_loop (call : CallF) (base : Nat) (b : ByteArray) (hb : b.size ≤ 2 ^ 40) (d q : Nat) (hq : q ≤ b.size) (H : Heap) : ∀ (n p : Nat) (ln cl : Nat), p + n = q → ln ≤ p + 1 → cl ≤ p + 1 →
    itW (evC call itW base s_gnomonref03_Spot_l0) [] H.length (frOf 24 [(0, .s (.string b)), (1, I q), (4, .ref d 0 0), (5, I ln), (6, I cl), (7, I p)]) H =
    some (.ext 0, frOf 24 [(0, .s (.string b)), (1, I q), (4, .ref d 0 0), (5, I (Tok.spotL ((b.data.toList.drop p).take n) (ln, cl)).1), (6, I (Tok.spotL ((b.data.toList.drop p).take n) (ln, cl)).2), (7, I q), (10, bl false)], H) := by
  intro n
  induction n with
  | zero =>
    intro p ln cl hp hl hc
    rw [Nat.add_zero] at hp
    subst hp
    rw [itW_step]
    simp only [a_gnomonref03_Spot,s_gnomonref03_Spot_l0_b, am0,am1,am2,am3,am4,am5,am6,am7,bl,i64,reduceIte,reduceCtorEq,Nat.reduceEqDiff,Nat.reduceLT,Nat.reduceLeDiff,Nat.reduceBEq,Nat.reduceAdd,fillA,splice,Nat.reduceMul,al0,al1,al2,al3,al4,al5,al6,al7,al8,al9,al10,al11,al12,al13,al14,al15,al16,al17,al18,al19,al20,al21,al22,al23,al24,al25,al26,al27,al28,al29,al30,al31,al32,al33,al34,amY,op_eqP, I, Int.lt_irrefl, List.take_zero, Tok.spotL]
  | succ n ih =>
    intro p ln cl hp hl hc
    have hlt : p < b.data.toList.length := by show p < b.size; omega
    have hx : b.data.toList[p]? = some b.data.toList[p] := List.getElem?_eq_getElem hlt
    have hd : b.data.toList.drop p = b.data.toList[p] :: b.data.toList.drop (p + 1) := List.drop_eq_getElem_cons hlt
    have hj : ((p : Int) < (q : Int)) := by omega
    have w1 := w64_nat (n := cl) (by omega)
    have w2 := w64_nat (n := ln) (by omega)
    have w3 := w64_nat (n := p) (by omega)
    rw [hd, List.take_succ_cons, Tok.spotL]
    rw [itW_step]
    by_cases h10 : b.data.toList[p] = 10
    · rw [if_pos h10]
      have ih' := ih (p + 1) (ln + 1) 1 (by omega) (by omega) (by omega)
      simp only [a_gnomonref03_Spot,s_gnomonref03_Spot_l0_b, am0,am1,am2,am3,am4,am5,am6,am7,bl,i64,reduceIte,reduceCtorEq,Nat.reduceEqDiff,Nat.reduceLT,Nat.reduceLeDiff,Nat.reduceBEq,Nat.reduceAdd,fillA,splice,Nat.reduceMul,al0,al1,al2,al3,al4,al5,al6,al7,al8,al9,al10,al11,al12,al13,al14,al15,al16,al17,al18,al19,al20,al21,al22,al23,al24,al25,al26,al27,al28,al29,al30,al31,al32,al33,al34,amY,op_eqP, I, hj, hx, w1, w2, w3, ten_m, h10, decide_true, decide_false]
      simp only [I] at ih'
      exact ih'
    · rw [if_neg h10]
      have ih' := ih (p + 1) ln (cl + 1) (by omega) (by omega) (by omega)
      simp only [a_gnomonref03_Spot,s_gnomonref03_Spot_l0_b, am0,am1,am2,am3,am4,am5,am6,am7,bl,i64,reduceIte,reduceCtorEq,Nat.reduceEqDiff,Nat.reduceLT,Nat.reduceLeDiff,Nat.reduceBEq,Nat.reduceAdd,fillA,splice,Nat.reduceMul,al0,al1,al2,al3,al4,al5,al6,al7,al8,al9,al10,al11,al12,al13,al14,al15,al16,al17,al18,al19,al20,al21,al22,al23,al24,al25,al26,al27,al28,al29,al30,al31,al32,al33,al34,amY,op_eqP, I, hj, hx, w1, w2, w3, ten_m, h10, decide_true, decide_false]
      simp only [I] at ih'
      exact ih'
theorem rsign_fun (hT : CT k_gnomonref03_Sign = some (.code s_gnomonref03_Sign)) (c : UInt8) (base : Nat) (H : Heap) : callW CT (.fn k_gnomonref03_Sign [] []) [.s (.int .u8 c.toNat)] base H = some (bl (Tok.sign c), H) := by
  refine callW_fn (c := s_gnomonref03_Sign) hT (by simp [s_gnomonref03_Sign]) ?_
  have hl := sign_loop (callW CT) base c H signs.data.toList 0 rfl (by omega)
  rw [I, I, show ((0 : Nat) : Int) = 0 from rfl] at hl
  have e : signs.data.toList.contains c = Tok.sign c := by
    show [61, 44, 58, 40, 41, 123, 125, 91, 93].contains c = _
    unfold Tok.sign
    simp only [List.contains_cons, List.contains_nil, Bool.or_false, Bool.or_assoc]
  rw [e] at hl
  unfold signs at hl
  simp only [s_gnomonref03_Sign, a_gnomonref03_Sign,s_gnomonref03_Sign_l0_b, am0,am1,am2,am3,am4,am5,am6,am7,bl,i64,reduceIte,reduceCtorEq,Nat.reduceEqDiff,Nat.reduceLT,Nat.reduceLeDiff,Nat.reduceBEq,Nat.reduceAdd,fillA,splice,Nat.reduceMul,al0,al1,al2,al3,al4,al5,al6,al7,al8,al9,al10,al11,al12,al13,al14,al15,al16,al17,al18,al19,al20,al21,al22,al23,al24,al25,al26,al27,al28,al29,al30,al31,al32,al33,al34,amY,op_eqP, hl]
  cases Tok.sign c <;> simp only [a_gnomonref03_Sign,s_gnomonref03_Sign_l0_b, am0,am1,am2,am3,am4,am5,am6,am7,bl,i64,reduceIte,reduceCtorEq,Nat.reduceEqDiff,Nat.reduceLT,Nat.reduceLeDiff,Nat.reduceBEq,Nat.reduceAdd,fillA,splice,Nat.reduceMul,al0,al1,al2,al3,al4,al5,al6,al7,al8,al9,al10,al11,al12,al13,al14,al15,al16,al17,al18,al19,al20,al21,al22,al23,al24,al25,al26,al27,al28,al29,al30,al31,al32,al33,al34,amY,op_eqP]
theorem spot_fun (hT : CT k_gnomonref03_Spot = some (.code s_gnomonref03_Spot)) (base : Nat) (H : Heap) (hbase : base ≤ H.length) {b : ByteArray} (hb : b.size ≤ 2 ^ 40) {q : Nat} (hq : q ≤ b.size) :
    callW CT (.fn k_gnomonref03_Spot [] []) [.s (.string b), .s (.int .i64 q)] base H = some (.agg [.s (.int .i64 (Tok.spotL (b.data.toList.take q) (1, 1)).1), .s (.int .i64 (Tok.spotL (b.data.toList.take q) (1, 1)).2)], H ++ [.cells 0 [.s (.int .i64 (Tok.spotL (b.data.toList.take q) (1, 1)).1), .s (.int .i64 (Tok.spotL (b.data.toList.take q) (1, 1)).2)]]) := by
  refine callW_fnA (c := s_gnomonref03_Spot) (k := 2) hT rfl (by decide) s_gnomonref03_Spot_first ?_
  have hl := spot_loop (callW CT) base b hb H.length q hq (H ++ [.cells 0 [.s (.int .i64 0), .s (.int .i64 0)]]) q 0 1 1 (by omega) (by omega) (by omega)
  rw [I, I, I, I, show ((0 : Nat) : Int) = 0 from rfl, show ((1 : Nat) : Int) = 1 from rfl, List.drop_zero] at hl
  simp only [List.length_append, List.length_singleton] at hl
  simp only [s_gnomonref03_Spot, a_gnomonref03_Spot,s_gnomonref03_Spot_l0_b, am0,am1,am2,am3,am4,am5,am6,am7,bl,i64,reduceIte,reduceCtorEq,Nat.reduceEqDiff,Nat.reduceLT,Nat.reduceLeDiff,Nat.reduceBEq,Nat.reduceAdd,fillA,splice,Nat.reduceMul,al0,al1,al2,al3,al4,al5,al6,al7,al8,al9,al10,al11,al12,al13,al14,al15,al16,al17,al18,al19,al20,al21,al22,al23,al24,al25,al26,al27,al28,al29,al30,al31,al32,al33,al34,amY,op_eqP, hl, hbase, loadV_x]
end
end Go.Proofs.YtfnkpedipicjnaaDoor
set_option maxRecDepth 100000
namespace Go.Proofs.YtfnkpedipicjnaaDoor
open Go.AM
def nval : Nat → Nat → List UInt8 → Nat
  | _, n, [] => n
  | j, n, c :: l => if Tok.digit c then nval (j + 1) (if j < 9 then 10 * n + (c.toNat - 48) else n) l else n
theorem nval_val : ∀ (l : List UInt8) (j n : Nat), j + Tok.far Tok.digit l ≤ 9 → nval j n l = (l.take (Tok.far Tok.digit l)).foldl (fun n c => n * 10 + (c.toNat - 48)) n
  | [], j, n, _ => rfl
  | c :: l, j, n, h => by
    unfold nval
    unfold Tok.far at h ⊢
    cases hc : Tok.digit c with
    | true =>
      simp only [hc, if_true] at h ⊢
      rw [if_pos (by omega), nval_val l (j + 1) _ (by omega), List.take_succ_cons, List.foldl_cons, Nat.mul_comm 10]
    | false => rfl
section
variable {CT : Nat → Option CFun}
theorem rcomment_loop (base : Nat) {b : ByteArray} (hb : b.size ≤ 2 ^ 40) {d : Nat} {v : V} {H : Heap} : ∀ (l : List UInt8) (p : Nat), b.data.toList.drop p = l → p ≤ b.size →
    itW (evC (callW CT) itW base s_gnomonref03_Lex_l0) [7, 8, 43] H.length (frOf 197 [(0, .s (.string b)), (3, .ref d 0 0), (5, v), (6, I p)]) H = some (.ext 3, frOf 197 [(0, .s (.string b)), (3, .ref d 0 0), (5, v), (6, I ((p + Tok.far Tok.other l : Nat) : Int)), (55, bl false)], H) := by
  intro l
  induction l with
  | nil =>
    intro p hd hp
    have hin : p = b.size := by
      have := congrArg List.length hd
      rw [List.length_drop, show b.data.toList.length = b.size from rfl] at this
      simp at this
      omega
    subst hin
    rw [itW_step]
    simp only [a_gnomonref03_Lex,s_gnomonref03_Lex_l0_b,s_gnomonref03_Lex_l1_b,s_gnomonref03_Lex_l2_b,s_gnomonref03_Lex_l3_b, am0,am1,am2,am3,am4,am5,am6,am7,bl,i64,reduceIte,reduceCtorEq,Nat.reduceEqDiff,Nat.reduceLT,Nat.reduceLeDiff,Nat.reduceBEq,Nat.reduceAdd,fillA,splice,Nat.reduceMul,al0,al1,al2,al3,al4,al5,al6,al7,al8,al9,al10,al11,al12,al13,al14,al15,al16,al17,al18,al19,al20,al21,al22,al23,al24,al25,al26,al27,al28,al29,al30,al31,al32,al33,al34,amY,op_eqP, I, Int.lt_irrefl, Tok.far, Nat.add_zero]
  | cons c l ih =>
    intro p hd hp
    have hx : b.data.toList[p]? = some c := by have := congrArg (·[0]?) hd; simp only [List.getElem?_drop] at this; exact this
    have hlt : p < b.size := (List.getElem?_eq_some_iff.1 hx).1
    have hd' : b.data.toList.drop (p + 1) = l := by
      have := congrArg (List.drop 1) hd
      simpa [List.drop_drop] using this
    have hlt' : ((p : Int) < (b.size : Int)) := by omega
    have w := w64_nat (n := p) (by omega)
    have hen := ih (p + 1) hd' (by omega)
    rw [itW_step]
    cases ho : Tok.other c with
    | true =>
      simp only [a_gnomonref03_Lex,s_gnomonref03_Lex_l0_b,s_gnomonref03_Lex_l1_b,s_gnomonref03_Lex_l2_b,s_gnomonref03_Lex_l3_b, am0,am1,am2,am3,am4,am5,am6,am7,bl,i64,reduceIte,reduceCtorEq,Nat.reduceEqDiff,Nat.reduceLT,Nat.reduceLeDiff,Nat.reduceBEq,Nat.reduceAdd,fillA,splice,Nat.reduceMul,al0,al1,al2,al3,al4,al5,al6,al7,al8,al9,al10,al11,al12,al13,al14,al15,al16,al17,al18,al19,al20,al21,al22,al23,al24,al25,al26,al27,al28,al29,al30,al31,al32,al33,al34,amY,op_eqP, I, hlt', hx, w, other_m, ho, Tok.far]
      rw [show p + (Tok.far Tok.other l + 1) = p + 1 + Tok.far Tok.other l by omega]
      exact hen
    | false =>
      simp only [a_gnomonref03_Lex,s_gnomonref03_Lex_l0_b,s_gnomonref03_Lex_l1_b,s_gnomonref03_Lex_l2_b,s_gnomonref03_Lex_l3_b, am0,am1,am2,am3,am4,am5,am6,am7,bl,i64,reduceIte,reduceCtorEq,Nat.reduceEqDiff,Nat.reduceLT,Nat.reduceLeDiff,Nat.reduceBEq,Nat.reduceAdd,fillA,splice,Nat.reduceMul,al0,al1,al2,al3,al4,al5,al6,al7,al8,al9,al10,al11,al12,al13,al14,al15,al16,al17,al18,al19,al20,al21,al22,al23,al24,al25,al26,al27,al28,al29,al30,al31,al32,al33,al34,amY,op_eqP, I, hlt', hx, w, other_m, ho, Tok.far]
theorem rname_loop (hL : ∀ (c : UInt8) (base : Nat) (H : Heap), callW CT (.fn k_gnomonref03_Letter [] []) [.s (.int .u8 c.toNat)] base H = some (bl (Tok.letter c), H)) (hD : ∀ (c : UInt8) (base : Nat) (H : Heap), callW CT (.fn k_gnomonref03_Digit [] []) [.s (.int .u8 c.toNat)] base H = some (bl (Tok.digit c), H)) (base : Nat) {b : ByteArray} (hb : b.size ≤ 2 ^ 40) {d : Nat} {v w8 : V} {H : Heap} : ∀ (l : List UInt8) (p : Nat), b.data.toList.drop p = l → p ≤ b.size →
    itW (evC (callW CT) itW base s_gnomonref03_Lex_l1) [7, 58] H.length (frOf 197 [(0, .s (.string b)), (3, .ref d 0 0), (5, v), (6, I p), (8, w8)]) H = some (.ext 5, frOf 197 [(0, .s (.string b)), (3, .ref d 0 0), (5, v), (6, I ((p + Tok.far Tok.within l : Nat) : Int)), (8, w8), (82, bl false)], H) := by
  intro l
  induction l with
  | nil =>
    intro p hd hp
    have hin : p = b.size := by
      have := congrArg List.length hd
      rw [List.length_drop, show b.data.toList.length = b.size from rfl] at this
      simp at this
      omega
    subst hin
    rw [itW_step]
    simp only [a_gnomonref03_Lex,s_gnomonref03_Lex_l0_b,s_gnomonref03_Lex_l1_b,s_gnomonref03_Lex_l2_b,s_gnomonref03_Lex_l3_b, am0,am1,am2,am3,am4,am5,am6,am7,bl,i64,reduceIte,reduceCtorEq,Nat.reduceEqDiff,Nat.reduceLT,Nat.reduceLeDiff,Nat.reduceBEq,Nat.reduceAdd,fillA,splice,Nat.reduceMul,al0,al1,al2,al3,al4,al5,al6,al7,al8,al9,al10,al11,al12,al13,al14,al15,al16,al17,al18,al19,al20,al21,al22,al23,al24,al25,al26,al27,al28,al29,al30,al31,al32,al33,al34,amY,op_eqP, I, Int.lt_irrefl, Tok.far, Nat.add_zero]
  | cons c l ih =>
    intro p hd hp
    have hx : b.data.toList[p]? = some c := by have := congrArg (·[0]?) hd; simp only [List.getElem?_drop] at this; exact this
    have hlt : p < b.size := (List.getElem?_eq_some_iff.1 hx).1
    have hd' : b.data.toList.drop (p + 1) = l := by
      have := congrArg (List.drop 1) hd
      simpa [List.drop_drop] using this
    have hlt' : ((p : Int) < (b.size : Int)) := by omega
    have w := w64_nat (n := p) (by omega)
    have hen := ih (p + 1) hd' (by omega)
    rw [itW_step]
    cases ho : Tok.within c with
    | true =>
      cases hl : Tok.letter c with
      | true =>
        simp only [a_gnomonref03_Lex,s_gnomonref03_Lex_l0_b,s_gnomonref03_Lex_l1_b,s_gnomonref03_Lex_l2_b,s_gnomonref03_Lex_l3_b, am0,am1,am2,am3,am4,am5,am6,am7,bl,i64,reduceIte,reduceCtorEq,Nat.reduceEqDiff,Nat.reduceLT,Nat.reduceLeDiff,Nat.reduceBEq,Nat.reduceAdd,fillA,splice,Nat.reduceMul,al0,al1,al2,al3,al4,al5,al6,al7,al8,al9,al10,al11,al12,al13,al14,al15,al16,al17,al18,al19,al20,al21,al22,al23,al24,al25,al26,al27,al28,al29,al30,al31,al32,al33,al34,amY,op_eqP, I, hlt', hx, w, hL, hD, hl, dot_m, ho, Tok.far]
        rw [show p + (Tok.far Tok.within l + 1) = p + 1 + Tok.far Tok.within l by omega]
        exact hen
      | false =>
        have ho2 : (Tok.digit c || c == 46) = true := by unfold Tok.within at ho; rw [hl] at ho; simpa using ho
        simp only [a_gnomonref03_Lex,s_gnomonref03_Lex_l0_b,s_gnomonref03_Lex_l1_b,s_gnomonref03_Lex_l2_b,s_gnomonref03_Lex_l3_b, am0,am1,am2,am3,am4,am5,am6,am7,bl,i64,reduceIte,reduceCtorEq,Nat.reduceEqDiff,Nat.reduceLT,Nat.reduceLeDiff,Nat.reduceBEq,Nat.reduceAdd,fillA,splice,Nat.reduceMul,al0,al1,al2,al3,al4,al5,al6,al7,al8,al9,al10,al11,al12,al13,al14,al15,al16,al17,al18,al19,al20,al21,al22,al23,al24,al25,al26,al27,al28,al29,al30,al31,al32,al33,al34,amY,op_eqP, I, hlt', hx, w, hL, hD, hl, dot_m, ho, ho2, Tok.far]
        rw [show p + (Tok.far Tok.within l + 1) = p + 1 + Tok.far Tok.within l by omega]
        exact hen
    | false =>
      have hl : Tok.letter c = false := by unfold Tok.within at ho; simp only [Bool.or_eq_false_iff] at ho; exact ho.1.1
      have hd : Tok.digit c = false := by unfold Tok.within at ho; simp only [Bool.or_eq_false_iff] at ho; exact ho.1.2
      have h46 : (c == 46) = false := by unfold Tok.within at ho; simp only [Bool.or_eq_false_iff] at ho; exact ho.2
      simp only [a_gnomonref03_Lex,s_gnomonref03_Lex_l0_b,s_gnomonref03_Lex_l1_b,s_gnomonref03_Lex_l2_b,s_gnomonref03_Lex_l3_b, am0,am1,am2,am3,am4,am5,am6,am7,bl,i64,reduceIte,reduceCtorEq,Nat.reduceEqDiff,Nat.reduceLT,Nat.reduceLeDiff,Nat.reduceBEq,Nat.reduceAdd,fillA,splice,Nat.reduceMul,al0,al1,al2,al3,al4,al5,al6,al7,al8,al9,al10,al11,al12,al13,al14,al15,al16,al17,al18,al19,al20,al21,al22,al23,al24,al25,al26,al27,al28,al29,al30,al31,al32,al33,al34,amY,op_eqP, I, hlt', hx, w, hL, hD, hl, hd, h46, dot_m, ho, Tok.far]
theorem rdigit_loop (hD : ∀ (c : UInt8) (base : Nat) (H : Heap), callW CT (.fn k_gnomonref03_Digit [] []) [.s (.int .u8 c.toNat)] base H = some (bl (Tok.digit c), H)) (base : Nat) {b : ByteArray} (hb : b.size ≤ 2 ^ 40) {d : Nat} {v w7 : V} {from' : Nat} {H : Heap} : ∀ (l : List UInt8) (j n : Nat), b.data.toList.drop (from' + j) = l → from' + j ≤ b.size → n < 10 ^ (min j 9) →
    itW (evC (callW CT) itW base s_gnomonref03_Lex_l2) [] H.length (frOf 197 [(0, .s (.string b)), (3, .ref d 0 0), (5, v), (6, I ((from' + j : Nat) : Int)), (7, w7), (8, I from'), (9, I n)]) H = some (.ext 7, frOf 197 [(0, .s (.string b)), (3, .ref d 0 0), (5, v), (6, I ((from' + (j + Tok.far Tok.digit l) : Nat) : Int)), (7, w7), (8, I from'), (9, I (nval j n l)), (108, bl false)], H) := by
  intro l
  induction l with
  | nil =>
    intro j n hd hp hn
    have hin : from' + j = b.size := by
      have := congrArg List.length hd
      rw [List.length_drop, show b.data.toList.length = b.size from rfl] at this
      simp at this
      omega
    rw [itW_step]
    simp only [a_gnomonref03_Lex,s_gnomonref03_Lex_l0_b,s_gnomonref03_Lex_l1_b,s_gnomonref03_Lex_l2_b,s_gnomonref03_Lex_l3_b, am0,am1,am2,am3,am4,am5,am6,am7,bl,i64,reduceIte,reduceCtorEq,Nat.reduceEqDiff,Nat.reduceLT,Nat.reduceLeDiff,Nat.reduceBEq,Nat.reduceAdd,fillA,splice,Nat.reduceMul,al0,al1,al2,al3,al4,al5,al6,al7,al8,al9,al10,al11,al12,al13,al14,al15,al16,al17,al18,al19,al20,al21,al22,al23,al24,al25,al26,al27,al28,al29,al30,al31,al32,al33,al34,amY,op_eqP, I, hin, Int.lt_irrefl, Tok.far, Nat.add_zero, nval]
  | cons c l ih =>
    intro j n hd hp hn
    have hx : b.data.toList[from' + j]? = some c := by have := congrArg (·[0]?) hd; simp only [List.getElem?_drop] at this; exact this
    have hlt : from' + j < b.size := (List.getElem?_eq_some_iff.1 hx).1
    have hd' : b.data.toList.drop (from' + (j + 1)) = l := by
      have := congrArg (List.drop 1) hd
      simpa [List.drop_drop, Nat.add_assoc] using this
    have hlt' : (((from' + j : Nat) : Int) < (b.size : Int)) := by omega
    have w := w64_nat (n := from' + j) (by omega)
    have w2 : IntKind.i64.wrap (((from' + j : Nat) : Int) - (from' : Int)) = (j : Int) := by rw [IntKind.wrap_i64]; omega
    have q : decide ((j : Int) < 9) = decide (j < 9) := by rw [Bool.eq_iff_iff, decide_eq_true_iff, decide_eq_true_iff]; omega
    rw [itW_step]
    cases ho : Tok.digit c with
    | true =>
      have h48 : 48 ≤ c.toNat ∧ c.toNat ≤ 57 := by unfold Tok.digit at ho; simpa using ho
      have w3 : IntKind.u8.wrap ((c.toNat : Int) - 48) = ((c.toNat - 48 : Nat) : Int) := by unfold IntKind.wrap; simp [IntKind.bits, IntKind.signed]; omega
      by_cases hj : j < 9
      · have hp9 : n < 10 ^ j := by rwa [Nat.min_eq_left (by omega)] at hn
        have hle : 10 ^ (j + 1) ≤ 10 ^ 9 := Nat.pow_le_pow_right (by decide) (by omega)
        have hn2 : 10 * n + (c.toNat - 48) < 10 ^ (j + 1) := by rw [Nat.pow_succ]; omega
        have hen := ih (j + 1) (10 * n + (c.toNat - 48)) hd' (by omega) (by rw [Nat.min_eq_left (by omega)]; exact hn2)
        have w4 : IntKind.i64.wrap (10 * (n : Int)) = ((10 * n : Nat) : Int) := by rw [IntKind.wrap_i64]; omega
        have w6 : IntKind.i64.wrap ((c.toNat - 48 : Nat) : Int) = ((c.toNat - 48 : Nat) : Int) := by rw [IntKind.wrap_i64]; omega
        have w5 : IntKind.i64.wrap (((10 * n : Nat) : Int) + ((c.toNat - 48 : Nat) : Int)) = ((10 * n + (c.toNat - 48) : Nat) : Int) := by rw [IntKind.wrap_i64]; omega
        simp only [a_gnomonref03_Lex,s_gnomonref03_Lex_l0_b,s_gnomonref03_Lex_l1_b,s_gnomonref03_Lex_l2_b,s_gnomonref03_Lex_l3_b, am0,am1,am2,am3,am4,am5,am6,am7,bl,i64,reduceIte,reduceCtorEq,Nat.reduceEqDiff,Nat.reduceLT,Nat.reduceLeDiff,Nat.reduceBEq,Nat.reduceAdd,fillA,splice,Nat.reduceMul,al0,al1,al2,al3,al4,al5,al6,al7,al8,al9,al10,al11,al12,al13,al14,al15,al16,al17,al18,al19,al20,al21,al22,al23,al24,al25,al26,al27,al28,al29,al30,al31,al32,al33,al34,amY,op_eqP, I, hlt', hx, w, w2, w3, w4, w6, w5, q, hj, hD, ho, Tok.far, nval, decide_true, if_true]
        rw [show j + (Tok.far Tok.digit l + 1) = j + 1 + Tok.far Tok.digit l by omega]
        exact hen
      · have hen := ih (j + 1) n hd' (by omega) (by rw [Nat.min_eq_right (by omega)] at hn ⊢; exact hn)
        simp only [a_gnomonref03_Lex,s_gnomonref03_Lex_l0_b,s_gnomonref03_Lex_l1_b,s_gnomonref03_Lex_l2_b,s_gnomonref03_Lex_l3_b, am0,am1,am2,am3,am4,am5,am6,am7,bl,i64,reduceIte,reduceCtorEq,Nat.reduceEqDiff,Nat.reduceLT,Nat.reduceLeDiff,Nat.reduceBEq,Nat.reduceAdd,fillA,splice,Nat.reduceMul,al0,al1,al2,al3,al4,al5,al6,al7,al8,al9,al10,al11,al12,al13,al14,al15,al16,al17,al18,al19,al20,al21,al22,al23,al24,al25,al26,al27,al28,al29,al30,al31,al32,al33,al34,amY,op_eqP, I, hlt', hx, w, w2, w3, q, hj, hD, ho, Tok.far, nval, decide_true, decide_false, if_true, if_false]
        rw [show j + (Tok.far Tok.digit l + 1) = j + 1 + Tok.far Tok.digit l by omega]
        exact hen
    | false =>
      simp only [a_gnomonref03_Lex,s_gnomonref03_Lex_l0_b,s_gnomonref03_Lex_l1_b,s_gnomonref03_Lex_l2_b,s_gnomonref03_Lex_l3_b, am0,am1,am2,am3,am4,am5,am6,am7,bl,i64,reduceIte,reduceCtorEq,Nat.reduceEqDiff,Nat.reduceLT,Nat.reduceLeDiff,Nat.reduceBEq,Nat.reduceAdd,fillA,splice,Nat.reduceMul,al0,al1,al2,al3,al4,al5,al6,al7,al8,al9,al10,al11,al12,al13,al14,al15,al16,al17,al18,al19,al20,al21,al22,al23,al24,al25,al26,al27,al28,al29,al30,al31,al32,al33,al34,amY,op_eqP, I, hlt', hx, w, hD, ho, Tok.far, nval, Nat.add_zero]
end
end Go.Proofs.YtfnkpedipicjnaaDoor
set_option maxRecDepth 100000
namespace Go.Proofs.YtfnkpedipicjnaaDoor
open Go.AM
structure TR (CT : Nat → Option CFun) : Prop where
  letter : CT k_gnomonref03_Letter = some (.code s_gnomonref03_Letter)
  digit : CT k_gnomonref03_Digit = some (.code s_gnomonref03_Digit)
  sign : CT k_gnomonref03_Sign = some (.code s_gnomonref03_Sign)
  spot : CT k_gnomonref03_Spot = some (.code s_gnomonref03_Spot)
structure RefSt (m : Nat) (H : Heap) (d : Nat) (v : V) (R : List (List V)) : Prop where
  res : ∃ x y, getC H d 0 = some [x, y]
  out : AccW m 5 H v R
  len : m ≤ H.length
  lt : d < m
def refE (b : ByteArray) (d : Nat) (v : V) (p : Nat) : Env := [(0, .s (.string b)), (3, .ref d 0 0), (5, v), (6, I p)]
theorem AccW.tr {m w : Nat} {H : Heap} {v : V} {R : List (List V)} (h : AccW m w H v R) {fr : List V} (hv : v ∈ fr) : AccW m w (Go.AM.trim m fr H) v R := by
  rcases AccW.trim_or h (Nat.le_refl _) hv with ⟨rfl, rfl⟩ | e
  · exact AccW.start _ _ _
  · rw [e]; exact h
theorem RefSt.tr {m : Nat} {H : Heap} {d : Nat} {v : V} {R : List (List V)} (h : RefSt m H d v R) {fr : List V} (hv : v ∈ fr) : RefSt m (Go.AM.trim m fr H) d v R := by
  obtain ⟨x, y, hd⟩ := h.res
  exact ⟨⟨x, y, trim_get hd h.lt⟩, AccW.tr h.out hv, trim_le h.len, h.lt⟩
theorem RefSt.app {m base : Nat} {H : Heap} {d : Nat} {v : V} {R : List (List V)} (h : RefSt m H d v R) (hbm : base ≤ m) (ob : Ob) {row : List V} (hrl : row.length = 5) (hr1 : row.all V.one = true) (hR : R.length ≤ 2 ^ 40) :
    ∃ v' C, appendV (H ++ [ob] ++ [Ob.cells 0 row]) base 5 48 v (.sl (H.length + 1) 0 0 1 5) = some (v', C) ∧ RefSt m C d v' (R ++ [row]) ∧ KeepD m [] H C := by
  have hmL := h.len
  obtain ⟨A, hA⟩ : ∃ A, H ++ [ob] = A := ⟨_, rfl⟩
  have lA : A.length = H.length + 1 := by rw [← hA]; simp
  have kA : ∀ id, id < H.length → A[id]? = H[id]? := fun id h1 => by rw [← hA, List.getElem?_append_left h1]
  rw [hA, ← lA]
  obtain ⟨B, hB⟩ : ∃ B, A ++ [Ob.cells 0 row] = B := ⟨_, rfl⟩
  have kB : ∀ id, id < H.length → B[id]? = H[id]? := fun id h1 => by rw [← hB, List.getElem?_append_left (by omega), kA id h1]
  have lB : B.length = H.length + 2 := by rw [← hB]; simp [lA]
  have hx : elems B 5 (.sl A.length 0 0 1 5) = some ([row].length, [row].flatten) := by
    rw [← hB]; exact (RdW.sl (R := [row]) (by simpa using getC_new A 0 row) (by intro r hr; simp at hr; subst hr; exact hrl)).el
  have hvB : AccW m 5 B v R := h.out.keep fun id g n e => kB id (h.out.lt id g n e)
  obtain ⟨v', C, eC, aC, lC, kC⟩ := hvB.append (base := base) (bytes := 48) (S := [row]) hbm (by omega) (by intro r hr; simp at hr; subst hr; exact hrl) (by simp) hx (by simpa using hr1) (by simp; omega)
  rw [hB]
  have kk : ∀ x, x < m → C[x]? = H[x]? := fun x hx => by
    rw [kC x (by omega) (fun g n e => ?_), kB x (by omega)]
    obtain ⟨_, ⟨_, rfl⟩ | ⟨id', g', rfl, _, hid'⟩⟩ := h.out
    · cases e
    · cases e; omega
  refine ⟨v', C, eC, ⟨?_, aC, by omega, h.lt⟩, by omega, fun x hx _ => kk x hx⟩
  obtain ⟨x, y, hd⟩ := h.res
  exact ⟨x, y, by unfold getC at hd ⊢; rw [kk d h.lt]; exact hd⟩
theorem far_behind {l : List UInt8} {p : Nat} {c x : UInt8} (hdr : l.drop p = c :: l.drop (p + 1)) (hx : l[p + (Tok.far Tok.digit (l.drop (p + 1)) + 1)]? = some x) : (Tok.letter x || x == 46) = decide (Tok.far Tok.digit (l.drop (p + 1)) < Tok.far Tok.within (l.drop (p + 1))) := by
  have hx2 : (l.drop (p + 1)).drop (Tok.far Tok.digit (l.drop (p + 1))) = x :: (l.drop (p + 1)).drop (Tok.far Tok.digit (l.drop (p + 1)) + 1) := by
    have h3 : (l.drop (p + 1))[Tok.far Tok.digit (l.drop (p + 1))]? = some x := by rw [List.getElem?_drop, show p + 1 + Tok.far Tok.digit (l.drop (p + 1)) = p + (Tok.far Tok.digit (l.drop (p + 1)) + 1) by omega]; exact hx
    obtain ⟨h4, h5⟩ := List.getElem?_eq_some_iff.1 h3
    rw [List.drop_eq_getElem_cons h4, h5]
  have hnd := Tok.far_stop Tok.digit _ hx2
  have hall : ∀ y ∈ (l.drop (p + 1)).take (Tok.far Tok.digit (l.drop (p + 1))), Tok.within y = true := fun y hy => by
    unfold Tok.within
    rw [Tok.far_take _ _ y hy]
    cases Tok.letter y <;> rfl
  have e := Tok.far_all Tok.within _ (x :: (l.drop (p + 1)).drop (Tok.far Tok.digit (l.drop (p + 1)) + 1)) hall
  rw [← hx2, List.take_append_drop, Tok.far_len, hx2] at e
  rw [e, Bool.eq_iff_iff, decide_eq_true_iff]
  unfold Tok.far
  have hw : Tok.within x = (Tok.letter x || x == 46) := by
    unfold Tok.within
    rw [hnd, Bool.or_false]
  rw [hw]
  cases (Tok.letter x || x == 46) <;> simp
section
variable {CT : Nat → Option CFun}
theorem ref_blank (T : TR CT) {base m : Nat} {b : ByteArray} (hb : b.size ≤ 2 ^ 40) {d : Nat} (hbd : base ≤ d) (hbm : base ≤ m) {H : Heap} {v : V} {ln cl p : Nat} {R : List (List V)} (st : RefSt m H d v R) (hR : R.length ≤ p) {c : UInt8} (hx : b.data.toList[p]? = some c) (hsp : Tok.spotL (b.data.toList.take p) (1, 1) = (ln, cl)) (hbl : Tok.blank c = true) :
    ∃ H', itW (evC (callW CT) itW base s_gnomonref03_Lex_l3) [55] m (frOf 197 (refE b d v p)) H = itW (evC (callW CT) itW base s_gnomonref03_Lex_l3) [55] m (frOf 197 (refE b d v (p + 1))) H' ∧ RefSt m H' d v R ∧ KeepD m [] H H' := by
  have hlt : p < b.size := (List.getElem?_eq_some_iff.1 hx).1
  have hlt' : ((p : Int) < (b.size : Int)) := by omega
  have hdr : b.data.toList.drop p = c :: b.data.toList.drop (p + 1) := by
    rw [List.drop_eq_getElem_cons hlt, (List.getElem?_eq_some_iff.1 hx).2]
  have hL := rletter_fun T.letter
  have hD := rdigit_fun T.digit
  have hS := rsign_fun T.sign c
  have hmL := st.len
  have hspot := fun (H : Heap) (hH : base ≤ H.length) => spot_fun T.spot base H hH hb (q := p) (by omega)
  simp only [hsp] at hspot
  have w := w64_nat (n := p) (by omega)
  have ten := ten_m c
  have b32 : ((c.toNat : Int) == 32) = (c == 32) := by rw [Bool.eq_iff_iff, beq_iff_eq, beq_iff_eq, byte_ne]; rfl
  have b9 : ((c.toNat : Int) == 9) = (c == 9) := by rw [Bool.eq_iff_iff, beq_iff_eq, beq_iff_eq, byte_ne]; rfl
  have b13 : ((c.toNat : Int) == 13) = (c == 13) := by rw [Bool.eq_iff_iff, beq_iff_eq, beq_iff_eq, byte_ne]; rfl
  have b10 : ((c.toNat : Int) == 10) = (c == 10) := by rw [Bool.eq_iff_iff, beq_iff_eq, beq_iff_eq, byte_ne]; rfl
  refine ⟨_, ?_, st.tr (fr := frOf 197 (refE b d v (p + 1))) (frOf_mem (s := 5) (by decide) rfl), KeepD.tr (A := H) ⟨hmL, fun _ _ _ => rfl⟩ _⟩
  have nb := hbl
  unfold Tok.blank at nb
  rw [itW_step]
  cases n32 : c == 32 with
  | true => simp only [lexE, nilS, refE, I, a_gnomonref03_Lex,s_gnomonref03_Lex_l0_b,s_gnomonref03_Lex_l1_b,s_gnomonref03_Lex_l2_b,s_gnomonref03_Lex_l3_b, am0,am1,am2,am3,am4,am5,am6,am7,bl,i64,reduceIte,reduceCtorEq,Nat.reduceEqDiff,Nat.reduceLT,Nat.reduceLeDiff,Nat.reduceBEq,Nat.reduceAdd,fillA,splice,Nat.reduceMul,al0,al1,al2,al3,al4,al5,al6,al7,al8,al9,al10,al11,al12,al13,al14,al15,al16,al17,al18,al19,al20,al21,al22,al23,al24,al25,al26,al27,al28,al29,al30,al31,al32,al33,al34,amY,op_eqP, hlt', hx, w, b32, n32]
  | false =>
    cases n9 : c == 9 with
    | true => simp only [lexE, nilS, refE, I, a_gnomonref03_Lex,s_gnomonref03_Lex_l0_b,s_gnomonref03_Lex_l1_b,s_gnomonref03_Lex_l2_b,s_gnomonref03_Lex_l3_b, am0,am1,am2,am3,am4,am5,am6,am7,bl,i64,reduceIte,reduceCtorEq,Nat.reduceEqDiff,Nat.reduceLT,Nat.reduceLeDiff,Nat.reduceBEq,Nat.reduceAdd,fillA,splice,Nat.reduceMul,al0,al1,al2,al3,al4,al5,al6,al7,al8,al9,al10,al11,al12,al13,al14,al15,al16,al17,al18,al19,al20,al21,al22,al23,al24,al25,al26,al27,al28,al29,al30,al31,al32,al33,al34,amY,op_eqP, hlt', hx, w, b32, n32, b9, n9]
    | false =>
      cases n13 : c == 13 with
      | true => simp only [lexE, nilS, refE, I, a_gnomonref03_Lex,s_gnomonref03_Lex_l0_b,s_gnomonref03_Lex_l1_b,s_gnomonref03_Lex_l2_b,s_gnomonref03_Lex_l3_b, am0,am1,am2,am3,am4,am5,am6,am7,bl,i64,reduceIte,reduceCtorEq,Nat.reduceEqDiff,Nat.reduceLT,Nat.reduceLeDiff,Nat.reduceBEq,Nat.reduceAdd,fillA,splice,Nat.reduceMul,al0,al1,al2,al3,al4,al5,al6,al7,al8,al9,al10,al11,al12,al13,al14,al15,al16,al17,al18,al19,al20,al21,al22,al23,al24,al25,al26,al27,al28,al29,al30,al31,al32,al33,al34,amY,op_eqP, hlt', hx, w, b32, n32, b9, n9, b13, n13]
      | false =>
        have n10 : (c == 10) = true := by simpa only [n32, n9, n13, Bool.false_or] using nb
        simp only [lexE, nilS, refE, I, a_gnomonref03_Lex,s_gnomonref03_Lex_l0_b,s_gnomonref03_Lex_l1_b,s_gnomonref03_Lex_l2_b,s_gnomonref03_Lex_l3_b, am0,am1,am2,am3,am4,am5,am6,am7,bl,i64,reduceIte,reduceCtorEq,Nat.reduceEqDiff,Nat.reduceLT,Nat.reduceLeDiff,Nat.reduceBEq,Nat.reduceAdd,fillA,splice,Nat.reduceMul,al0,al1,al2,al3,al4,al5,al6,al7,al8,al9,al10,al11,al12,al13,al14,al15,al16,al17,al18,al19,al20,al21,al22,al23,al24,al25,al26,al27,al28,al29,al30,al31,al32,al33,al34,amY,op_eqP, hlt', hx, w, b32, n32, b9, n9, b13, n13, b10, n10]
theorem ref_comment (T : TR CT) {base m : Nat} {b : ByteArray} (hb : b.size ≤ 2 ^ 40) {d : Nat} (hbd : base ≤ d) (hbm : base ≤ m) {H : Heap} {v : V} {ln cl p : Nat} {R : List (List V)} (st : RefSt m H d v R) (hR : R.length ≤ p) {c : UInt8} (hx : b.data.toList[p]? = some c) (hsp : Tok.spotL (b.data.toList.take p) (1, 1) = (ln, cl)) (hbl : Tok.blank c = false) (h59 : c = 59) :
    ∃ H', itW (evC (callW CT) itW base s_gnomonref03_Lex_l3) [55] m (frOf 197 (refE b d v p)) H = itW (evC (callW CT) itW base s_gnomonref03_Lex_l3) [55] m (frOf 197 (refE b d v (p + (Tok.far Tok.other (b.data.toList.drop (p + 1)) + 1)))) H' ∧ RefSt m H' d v R ∧ KeepD m [] H H' := by
  have hlt : p < b.size := (List.getElem?_eq_some_iff.1 hx).1
  have hlt' : ((p : Int) < (b.size : Int)) := by omega
  have hdr : b.data.toList.drop p = c :: b.data.toList.drop (p + 1) := by
    rw [List.drop_eq_getElem_cons hlt, (List.getElem?_eq_some_iff.1 hx).2]
  have hL := rletter_fun T.letter
  have hD := rdigit_fun T.digit
  have hS := rsign_fun T.sign c
  have hmL := st.len
  have hspot := fun (H : Heap) (hH : base ≤ H.length) => spot_fun T.spot base H hH hb (q := p) (by omega)
  simp only [hsp] at hspot
  have w := w64_nat (n := p) (by omega)
  have ten := ten_m c
  have b32 : ((c.toNat : Int) == 32) = (c == 32) := by rw [Bool.eq_iff_iff, beq_iff_eq, beq_iff_eq, byte_ne]; rfl
  have b9 : ((c.toNat : Int) == 9) = (c == 9) := by rw [Bool.eq_iff_iff, beq_iff_eq, beq_iff_eq, byte_ne]; rfl
  have b13 : ((c.toNat : Int) == 13) = (c == 13) := by rw [Bool.eq_iff_iff, beq_iff_eq, beq_iff_eq, byte_ne]; rfl
  have b10 : ((c.toNat : Int) == 10) = (c == 10) := by rw [Bool.eq_iff_iff, beq_iff_eq, beq_iff_eq, byte_ne]; rfl
  have hl := rcomment_loop (CT := CT) base hb (d := d) (v := v) (H := H) (b.data.toList.drop p) p rfl (by omega)
  rw [hdr, Tok.far, if_pos (by rw [h59]; decide)] at hl
  refine ⟨_, ?_, st.tr (fr := frOf 197 (refE b d v (p + (Tok.far Tok.other (b.data.toList.drop (p + 1)) + 1)))) (frOf_mem (s := 5) (by decide) rfl), KeepD.tr (A := H) ⟨hmL, fun _ _ _ => rfl⟩ _⟩
  have h59' : ((c.toNat : Int) == 59) = true := by rw [h59]; rfl
  have nb := hbl
  unfold Tok.blank at nb
  simp only [Bool.or_eq_false_iff] at nb
  obtain ⟨⟨⟨n32, n9⟩, n13⟩, n10⟩ := nb
  rw [itW_step]
  simp only [I] at hl
  simp only [lexE, nilS, refE, I, a_gnomonref03_Lex,s_gnomonref03_Lex_l0_b,s_gnomonref03_Lex_l1_b,s_gnomonref03_Lex_l2_b,s_gnomonref03_Lex_l3_b, am0,am1,am2,am3,am4,am5,am6,am7,bl,i64,reduceIte,reduceCtorEq,Nat.reduceEqDiff,Nat.reduceLT,Nat.reduceLeDiff,Nat.reduceBEq,Nat.reduceAdd,fillA,splice,Nat.reduceMul,al0,al1,al2,al3,al4,al5,al6,al7,al8,al9,al10,al11,al12,al13,al14,al15,al16,al17,al18,al19,al20,al21,al22,al23,al24,al25,al26,al27,al28,al29,al30,al31,al32,al33,al34,amY,op_eqP, hlt', hx, w, b32, n32, b9, n9, b13, n13, b10, n10, h59', hl]
theorem ref_name (T : TR CT) {base m : Nat} {b : ByteArray} (hb : b.size ≤ 2 ^ 40) {d : Nat} (hbd : base ≤ d) (hbm : base ≤ m) {H : Heap} {v : V} {ln cl p : Nat} {R : List (List V)} (st : RefSt m H d v R) (hR : R.length ≤ p) {c : UInt8} (hx : b.data.toList[p]? = some c) (hsp : Tok.spotL (b.data.toList.take p) (1, 1) = (ln, cl)) (hbl : Tok.blank c = false) (h59 : c ≠ 59) (hlt1 : Tok.letter c = true) :
    ∃ v' H', itW (evC (callW CT) itW base s_gnomonref03_Lex_l3) [55] m (frOf 197 (refE b d v p)) H = itW (evC (callW CT) itW base s_gnomonref03_Lex_l3) [55] m (frOf 197 (refE b d v' (p + (Tok.far Tok.within (b.data.toList.drop (p + 1)) + 1)))) H' ∧ RefSt m H' d v' (R ++ [tV ⟨1, c :: (b.data.toList.drop (p + 1)).take (Tok.far Tok.within (b.data.toList.drop (p + 1))), 0, ln, cl⟩]) ∧ KeepD m [] H H' := by
  have hlt : p < b.size := (List.getElem?_eq_some_iff.1 hx).1
  have hlt' : ((p : Int) < (b.size : Int)) := by omega
  have hdr : b.data.toList.drop p = c :: b.data.toList.drop (p + 1) := by
    rw [List.drop_eq_getElem_cons hlt, (List.getElem?_eq_some_iff.1 hx).2]
  have hL := rletter_fun T.letter
  have hD := rdigit_fun T.digit
  have hS := rsign_fun T.sign c
  have hmL := st.len
  have hspot := fun (H : Heap) (hH : base ≤ H.length) => spot_fun T.spot base H hH hb (q := p) (by omega)
  simp only [hsp] at hspot
  have w := w64_nat (n := p) (by omega)
  have ten := ten_m c
  have b32 : ((c.toNat : Int) == 32) = (c == 32) := by rw [Bool.eq_iff_iff, beq_iff_eq, beq_iff_eq, byte_ne]; rfl
  have b9 : ((c.toNat : Int) == 9) = (c == 9) := by rw [Bool.eq_iff_iff, beq_iff_eq, beq_iff_eq, byte_ne]; rfl
  have b13 : ((c.toNat : Int) == 13) = (c == 13) := by rw [Bool.eq_iff_iff, beq_iff_eq, beq_iff_eq, byte_ne]; rfl
  have b10 : ((c.toNat : Int) == 10) = (c == 10) := by rw [Bool.eq_iff_iff, beq_iff_eq, beq_iff_eq, byte_ne]; rfl
  have h59' : ((c.toNat : Int) == 59) = false := by rw [beq_eq_false_iff_ne]; intro e; exact h59 ((byte_ne c 59).2 e)
  have nb := hbl
  unfold Tok.blank at nb
  simp only [Bool.or_eq_false_iff] at nb
  obtain ⟨⟨⟨n32, n9⟩, n13⟩, n10⟩ := nb
  have hw : Tok.within c = true := by unfold Tok.within; rw [hlt1]; rfl
  have hfl := Tok.far_le Tok.within (b.data.toList.drop (p + 1))
  rw [List.length_drop, show b.data.toList.length = b.size from rfl] at hfl
  have hl := fun w8 => rname_loop hL hD base hb (d := d) (v := v) (w8 := w8) (H := H) (b.data.toList.drop p) p rfl (by omega)
  simp only [hdr, Tok.far, if_pos hw, I] at hl
  have hle : (0 ≤ (p : Int) ∧ (p : Int) ≤ ((p + (Tok.far Tok.within (b.data.toList.drop (p + 1)) + 1) : Nat) : Int) ∧ ((p + (Tok.far Tok.within (b.data.toList.drop (p + 1)) + 1) : Nat) : Int) ≤ (b.size : Int)) := by omega
  have hex := extract_eq b p (Tok.far Tok.within (b.data.toList.drop (p + 1)) + 1)
  rw [hdr, List.take_succ_cons] at hex
  obtain ⟨v', C, eC, sC, kC⟩ := st.app hbm (Ob.cells 0 [V.s (.int .i64 ln), V.s (.int .i64 cl)]) (row := tV ⟨1, c :: (b.data.toList.drop (p + 1)).take (Tok.far Tok.within (b.data.toList.drop (p + 1))), 0, ln, cl⟩) rfl rfl (by omega)
  have eC' : appendV (H ++ [Ob.cells 0 [V.s (.int .i64 ln), V.s (.int .i64 cl)]] ++ [Ob.cells 0 [V.s (.int .u8 1), V.s (.string ⟨(c :: (b.data.toList.drop (p + 1)).take (Tok.far Tok.within (b.data.toList.drop (p + 1)))).toArray⟩), V.s (.int .i64 0), V.s (.int .i64 ln), V.s (.int .i64 cl)]]) base 5 48 v (.sl (H.length + 1) 0 0 1 5) = some (v', C) := eC
  refine ⟨v', _, ?_, sC.tr (fr := frOf 197 (refE b d v' (p + (Tok.far Tok.within (b.data.toList.drop (p + 1)) + 1)))) (frOf_mem (s := 5) (by decide) rfl), KeepD.tr kC _⟩
  rw [itW_step]
  have hbH : base ≤ H.length := by omega
  simp only [lexE, nilS, refE, I, a_gnomonref03_Lex,s_gnomonref03_Lex_l0_b,s_gnomonref03_Lex_l1_b,s_gnomonref03_Lex_l2_b,s_gnomonref03_Lex_l3_b, am0,am1,am2,am3,am4,am5,am6,am7,bl,i64,reduceIte,reduceCtorEq,Nat.reduceEqDiff,Nat.reduceLT,Nat.reduceLeDiff,Nat.reduceBEq,Nat.reduceAdd,fillA,splice,Nat.reduceMul,al0,al1,al2,al3,al4,al5,al6,al7,al8,al9,al10,al11,al12,al13,al14,al15,al16,al17,al18,al19,al20,al21,al22,al23,al24,al25,al26,al27,al28,al29,al30,al31,al32,al33,al34,amY,op_eqP, hlt', hx, w, b32, n32, b9, n9, b13, n13, b10, n10, h59', hL, hlt1, hl, hspot H hbH, xsub_str, xsub_build, hle, hex, eC']
theorem ref_sign (T : TR CT) {base m : Nat} {b : ByteArray} (hb : b.size ≤ 2 ^ 40) {d : Nat} (hbd : base ≤ d) (hbm : base ≤ m) {H : Heap} {v : V} {ln cl p : Nat} {R : List (List V)} (st : RefSt m H d v R) (hR : R.length ≤ p) {c : UInt8} (hx : b.data.toList[p]? = some c) (hsp : Tok.spotL (b.data.toList.take p) (1, 1) = (ln, cl)) (hbl : Tok.blank c = false) (h59 : c ≠ 59) (hlt1 : Tok.letter c = false) (hdg : Tok.digit c = false) (hsg : Tok.sign c = true) :
    ∃ v' H', itW (evC (callW CT) itW base s_gnomonref03_Lex_l3) [55] m (frOf 197 (refE b d v p)) H = itW (evC (callW CT) itW base s_gnomonref03_Lex_l3) [55] m (frOf 197 (refE b d v' (p + 1))) H' ∧ RefSt m H' d v' (R ++ [tV ⟨3, [c], 0, ln, cl⟩]) ∧ KeepD m [] H H' := by
  have hlt : p < b.size := (List.getElem?_eq_some_iff.1 hx).1
  have hlt' : ((p : Int) < (b.size : Int)) := by omega
  have hdr : b.data.toList.drop p = c :: b.data.toList.drop (p + 1) := by
    rw [List.drop_eq_getElem_cons hlt, (List.getElem?_eq_some_iff.1 hx).2]
  have hL := rletter_fun T.letter
  have hD := rdigit_fun T.digit
  have hS := rsign_fun T.sign c
  have hmL := st.len
  have hspot := fun (H : Heap) (hH : base ≤ H.length) => spot_fun T.spot base H hH hb (q := p) (by omega)
  simp only [hsp] at hspot
  have w := w64_nat (n := p) (by omega)
  have ten := ten_m c
  have b32 : ((c.toNat : Int) == 32) = (c == 32) := by rw [Bool.eq_iff_iff, beq_iff_eq, beq_iff_eq, byte_ne]; rfl
  have b9 : ((c.toNat : Int) == 9) = (c == 9) := by rw [Bool.eq_iff_iff, beq_iff_eq, beq_iff_eq, byte_ne]; rfl
  have b13 : ((c.toNat : Int) == 13) = (c == 13) := by rw [Bool.eq_iff_iff, beq_iff_eq, beq_iff_eq, byte_ne]; rfl
  have b10 : ((c.toNat : Int) == 10) = (c == 10) := by rw [Bool.eq_iff_iff, beq_iff_eq, beq_iff_eq, byte_ne]; rfl
  have h59' : ((c.toNat : Int) == 59) = false := by rw [beq_eq_false_iff_ne]; intro e; exact h59 ((byte_ne c 59).2 e)
  have nb := hbl
  unfold Tok.blank at nb
  simp only [Bool.or_eq_false_iff] at nb
  obtain ⟨⟨⟨n32, n9⟩, n13⟩, n10⟩ := nb
  have hle : (0 ≤ (p : Int) ∧ (p : Int) ≤ ((p + 1 : Nat) : Int) ∧ ((p + 1 : Nat) : Int) ≤ (b.size : Int)) := by omega
  have hex := extract_eq b p 1
  rw [hdr, List.take_succ_cons, List.take_zero] at hex
  obtain ⟨v', C, eC, sC, kC⟩ := st.app hbm (Ob.cells 0 [V.s (.int .i64 ln), V.s (.int .i64 cl)]) (row := tV ⟨3, [c], 0, ln, cl⟩) rfl rfl (by omega)
  have eC' : appendV (H ++ [Ob.cells 0 [V.s (.int .i64 ln), V.s (.int .i64 cl)]] ++ [Ob.cells 0 [V.s (.int .u8 3), V.s (.string ⟨#[c]⟩), V.s (.int .i64 0), V.s (.int .i64 ln), V.s (.int .i64 cl)]]) base 5 48 v (.sl (H.length + 1) 0 0 1 5) = some (v', C) := eC
  refine ⟨v', _, ?_, sC.tr (fr := frOf 197 (refE b d v' (p + 1))) (frOf_mem (s := 5) (by decide) rfl), KeepD.tr kC _⟩
  rw [itW_step]
  have hbH : base ≤ H.length := by omega
  simp only [lexE, nilS, refE, I, a_gnomonref03_Lex,s_gnomonref03_Lex_l0_b,s_gnomonref03_Lex_l1_b,s_gnomonref03_Lex_l2_b,s_gnomonref03_Lex_l3_b, am0,am1,am2,am3,am4,am5,am6,am7,bl,i64,reduceIte,reduceCtorEq,Nat.reduceEqDiff,Nat.reduceLT,Nat.reduceLeDiff,Nat.reduceBEq,Nat.reduceAdd,fillA,splice,Nat.reduceMul,al0,al1,al2,al3,al4,al5,al6,al7,al8,al9,al10,al11,al12,al13,al14,al15,al16,al17,al18,al19,al20,al21,al22,al23,al24,al25,al26,al27,al28,al29,al30,al31,al32,al33,al34,amY,op_eqP, hlt', hx, w, b32, n32, b9, n9, b13, n13, b10, n10, h59', hL, hlt1, hD, hdg, hS, hsg, hspot H hbH, xsub_str, xsub_build, hle, hex, eC']
theorem ref_byte (T : TR CT) {base m : Nat} {b : ByteArray} (hb : b.size ≤ 2 ^ 40) {d : Nat} (hbd : base ≤ d) (hbm : base ≤ m) {H : Heap} {v : V} {ln cl p : Nat} {R : List (List V)} (st : RefSt m H d v R) (hR : R.length ≤ p) {c : UInt8} (hx : b.data.toList[p]? = some c) (hsp : Tok.spotL (b.data.toList.take p) (1, 1) = (ln, cl)) (hbl : Tok.blank c = false) (h59 : c ≠ 59) (hlt1 : Tok.letter c = false) (hdg : Tok.digit c = false) (hsg : Tok.sign c = false) :
    ∃ H', itW (evC (callW CT) itW base s_gnomonref03_Lex_l3) [55] m (frOf 197 (refE b d v p)) H = some (.ret, frOf 197 [(2, nilS), (3, .ref d 0 0), (4, .s (.int .i64 30))], H') ∧ getC H' d 0 = some [I ln, I cl] ∧ KeepD m [d] H H' := by
  have hlt : p < b.size := (List.getElem?_eq_some_iff.1 hx).1
  have hlt' : ((p : Int) < (b.size : Int)) := by omega
  have hdr : b.data.toList.drop p = c :: b.data.toList.drop (p + 1) := by
    rw [List.drop_eq_getElem_cons hlt, (List.getElem?_eq_some_iff.1 hx).2]
  have hL := rletter_fun T.letter
  have hD := rdigit_fun T.digit
  have hS := rsign_fun T.sign c
  have hmL := st.len
  have hspot := fun (H : Heap) (hH : base ≤ H.length) => spot_fun T.spot base H hH hb (q := p) (by omega)
  simp only [hsp] at hspot
  have w := w64_nat (n := p) (by omega)
  have ten := ten_m c
  have b32 : ((c.toNat : Int) == 32) = (c == 32) := by rw [Bool.eq_iff_iff, beq_iff_eq, beq_iff_eq, byte_ne]; rfl
  have b9 : ((c.toNat : Int) == 9) = (c == 9) := by rw [Bool.eq_iff_iff, beq_iff_eq, beq_iff_eq, byte_ne]; rfl
  have b13 : ((c.toNat : Int) == 13) = (c == 13) := by rw [Bool.eq_iff_iff, beq_iff_eq, beq_iff_eq, byte_ne]; rfl
  have b10 : ((c.toNat : Int) == 10) = (c == 10) := by rw [Bool.eq_iff_iff, beq_iff_eq, beq_iff_eq, byte_ne]; rfl
  have h59' : ((c.toNat : Int) == 59) = false := by rw [beq_eq_false_iff_ne]; intro e; exact h59 ((byte_ne c 59).2 e)
  have nb := hbl
  unfold Tok.blank at nb
  simp only [Bool.or_eq_false_iff] at nb
  obtain ⟨⟨⟨n32, n9⟩, n13⟩, n10⟩ := nb
  obtain ⟨x, y, hd⟩ := st.res
  have hdm := st.lt
  have hdH : getC (H ++ [Ob.cells 0 [V.s (.int .i64 ln), V.s (.int .i64 cl)]]) d 0 = some [x, y] := getC_app hd
  obtain ⟨s1, s2⟩ := bad_end (m := m) (by simp; omega) hdH hdm (frOf 197 [(2, nilS), (3, .ref d 0 0), (4, .s (.int .i64 30))]) [I ln, I cl]
  have s3 : KeepD m [d] H (Go.AM.trim m (frOf 197 [(2, nilS), (3, .ref d 0 0), (4, .s (.int .i64 30))]) ((H ++ [Ob.cells 0 [V.s (.int .i64 ln), V.s (.int .i64 cl)]]).set d (.cells 0 [I ln, I cl]))) := ⟨s2.1, fun id h1 h2 => by rw [s2.2 id h1 h2, List.getElem?_append_left (by omega)]⟩
  refine ⟨_, ?_, s1, s3⟩
  rw [itW_step]
  have hbH : base ≤ H.length := by omega
  simp only [lexE, nilS, refE, I, a_gnomonref03_Lex,s_gnomonref03_Lex_l0_b,s_gnomonref03_Lex_l1_b,s_gnomonref03_Lex_l2_b,s_gnomonref03_Lex_l3_b, am0,am1,am2,am3,am4,am5,am6,am7,bl,i64,reduceIte,reduceCtorEq,Nat.reduceEqDiff,Nat.reduceLT,Nat.reduceLeDiff,Nat.reduceBEq,Nat.reduceAdd,fillA,splice,Nat.reduceMul,al0,al1,al2,al3,al4,al5,al6,al7,al8,al9,al10,al11,al12,al13,al14,al15,al16,al17,al18,al19,al20,al21,al22,al23,al24,al25,al26,al27,al28,al29,al30,al31,al32,al33,al34,amY,op_eqP, hlt', hx, w, b32, n32, b9, n9, b13, n13, b10, n10, h59', hL, hlt1, hD, hdg, hS, hsg, hspot H hbH, hdH, hbd]
theorem ref_num_bad (T : TR CT) {base m : Nat} {b : ByteArray} (hb : b.size ≤ 2 ^ 40) {d : Nat} (hbd : base ≤ d) (hbm : base ≤ m) {H : Heap} {v : V} {ln cl p : Nat} {R : List (List V)} (st : RefSt m H d v R) (hR : R.length ≤ p) {c : UInt8} (hx : b.data.toList[p]? = some c) (hsp : Tok.spotL (b.data.toList.take p) (1, 1) = (ln, cl)) (hbl : Tok.blank c = false) (h59 : c ≠ 59) (hlt1 : Tok.letter c = false) (hdg : Tok.digit c = true) (hco : (9 < Tok.far Tok.digit (b.data.toList.drop (p + 1)) + 1 ∨ (1 < Tok.far Tok.digit (b.data.toList.drop (p + 1)) + 1 ∧ c = 48) ∨ Tok.far Tok.digit (b.data.toList.drop (p + 1)) < Tok.far Tok.within (b.data.toList.drop (p + 1)))) :
    ∃ H', itW (evC (callW CT) itW base s_gnomonref03_Lex_l3) [55] m (frOf 197 (refE b d v p)) H = some (.ret, frOf 197 [(2, nilS), (3, .ref d 0 0), (4, .s (.int .i64 31))], H') ∧ getC H' d 0 = some [I ln, I cl] ∧ KeepD m [d] H H' := by
  have hlt : p < b.size := (List.getElem?_eq_some_iff.1 hx).1
  have hlt' : ((p : Int) < (b.size : Int)) := by omega
  have hdr : b.data.toList.drop p = c :: b.data.toList.drop (p + 1) := by
    rw [List.drop_eq_getElem_cons hlt, (List.getElem?_eq_some_iff.1 hx).2]
  have hL := rletter_fun T.letter
  have hD := rdigit_fun T.digit
  have hS := rsign_fun T.sign c
  have hmL := st.len
  have hspot := fun (H : Heap) (hH : base ≤ H.length) => spot_fun T.spot base H hH hb (q := p) (by omega)
  simp only [hsp] at hspot
  have w := w64_nat (n := p) (by omega)
  have ten := ten_m c
  have b32 : ((c.toNat : Int) == 32) = (c == 32) := by rw [Bool.eq_iff_iff, beq_iff_eq, beq_iff_eq, byte_ne]; rfl
  have b9 : ((c.toNat : Int) == 9) = (c == 9) := by rw [Bool.eq_iff_iff, beq_iff_eq, beq_iff_eq, byte_ne]; rfl
  have b13 : ((c.toNat : Int) == 13) = (c == 13) := by rw [Bool.eq_iff_iff, beq_iff_eq, beq_iff_eq, byte_ne]; rfl
  have b10 : ((c.toNat : Int) == 10) = (c == 10) := by rw [Bool.eq_iff_iff, beq_iff_eq, beq_iff_eq, byte_ne]; rfl
  have h59' : ((c.toNat : Int) == 59) = false := by rw [beq_eq_false_iff_ne]; intro e; exact h59 ((byte_ne c 59).2 e)
  have nb := hbl
  unfold Tok.blank at nb
  simp only [Bool.or_eq_false_iff] at nb
  obtain ⟨⟨⟨n32, n9⟩, n13⟩, n10⟩ := nb
  have hfl := Tok.far_le Tok.digit (b.data.toList.drop (p + 1))
  rw [List.length_drop, show b.data.toList.length = b.size from rfl] at hfl
  have hl := fun w7 => rdigit_loop hD base hb (d := d) (v := v) (w7 := w7) (from' := p) (H := H) (b.data.toList.drop p) 0 0 rfl (by omega) (by decide)
  simp only [hdr, Tok.far, if_pos hdg, I, Nat.zero_add, Nat.add_zero, show ((0 : Nat) : Int) = 0 from rfl] at hl
  have wf : IntKind.i64.wrap (((p + (Tok.far Tok.digit (b.data.toList.drop (p + 1)) + 1) : Nat) : Int) - (p : Int)) = ((Tok.far Tok.digit (b.data.toList.drop (p + 1)) + 1 : Nat) : Int) := by rw [IntKind.wrap_i64]; omega
  have h48 : ((c.toNat : Int) == 48) = decide (c = 48) := by rw [Bool.eq_iff_iff, beq_iff_eq, decide_eq_true_iff, byte_ne]; rfl
  have q1 : decide ((((Tok.far Tok.digit (b.data.toList.drop (p + 1)) + 1 : Nat) : Int)) > 9) = decide (9 < Tok.far Tok.digit (b.data.toList.drop (p + 1)) + 1) := by rw [Bool.eq_iff_iff, decide_eq_true_iff, decide_eq_true_iff]; omega
  have q2 : decide ((((Tok.far Tok.digit (b.data.toList.drop (p + 1)) + 1 : Nat) : Int)) > 1) = decide (1 < Tok.far Tok.digit (b.data.toList.drop (p + 1)) + 1) := by rw [Bool.eq_iff_iff, decide_eq_true_iff, decide_eq_true_iff]; omega
  have hbH : base ≤ H.length := by omega
  obtain ⟨nv, hnv⟩ : ∃ nv, nval 0 0 (c :: b.data.toList.drop (p + 1)) = nv := ⟨_, rfl⟩
  simp only [hnv] at hl
  have hbeh : ∀ (hz : p + (Tok.far Tok.digit (b.data.toList.drop (p + 1)) + 1) = b.size) , ¬ (Tok.far Tok.digit (b.data.toList.drop (p + 1)) < Tok.far Tok.within (b.data.toList.drop (p + 1))) := by
    intro hz h
    have := Tok.far_le Tok.within (b.data.toList.drop (p + 1))
    rw [List.length_drop, show b.data.toList.length = b.size from rfl] at this
    omega
  have hbe2 : ∀ x, b.data.toList[p + (Tok.far Tok.digit (b.data.toList.drop (p + 1)) + 1)]? = some x → (Tok.letter x || x == 46) = decide (Tok.far Tok.digit (b.data.toList.drop (p + 1)) < Tok.far Tok.within (b.data.toList.drop (p + 1))) := fun x hx => far_behind hdr hx
  obtain ⟨x, y, hd⟩ := st.res
  have hdm := st.lt
  have hdH : getC (H ++ [Ob.cells 0 [V.s (.int .i64 ln), V.s (.int .i64 cl)]]) d 0 = some [x, y] := getC_app hd
  obtain ⟨s1, s2⟩ := bad_end (m := m) (by simp; omega) hdH hdm (frOf 197 [(2, nilS), (3, .ref d 0 0), (4, .s (.int .i64 31))]) [I ln, I cl]
  have s3 : KeepD m [d] H (Go.AM.trim m (frOf 197 [(2, nilS), (3, .ref d 0 0), (4, .s (.int .i64 31))]) ((H ++ [Ob.cells 0 [V.s (.int .i64 ln), V.s (.int .i64 cl)]]).set d (.cells 0 [I ln, I cl]))) := ⟨s2.1, fun id h1 h2 => by rw [s2.2 id h1 h2, List.getElem?_append_left (by omega)]⟩
  refine ⟨_, ?_, s1, s3⟩
  rw [itW_step]
  have hcb : (decide (9 < Tok.far Tok.digit (b.data.toList.drop (p + 1)) + 1) || decide (1 < Tok.far Tok.digit (b.data.toList.drop (p + 1)) + 1) && decide (c = 48) || decide (Tok.far Tok.digit (b.data.toList.drop (p + 1)) < Tok.far Tok.within (b.data.toList.drop (p + 1)))) = true := by
    simp only [Bool.or_eq_true, Bool.and_eq_true, decide_eq_true_eq, or_assoc]; exact hco
  by_cases hz : p + (Tok.far Tok.digit (b.data.toList.drop (p + 1)) + 1) = b.size
  · have hz' : decide (((p + (Tok.far Tok.digit (b.data.toList.drop (p + 1)) + 1) : Nat) : Int) < (b.size : Int)) = false := by rw [decide_eq_false_iff_not]; omega
    rw [decide_eq_false (hbeh hz), Bool.or_false] at hcb
    simp only [lexE, nilS, refE, I, a_gnomonref03_Lex,s_gnomonref03_Lex_l0_b,s_gnomonref03_Lex_l1_b,s_gnomonref03_Lex_l2_b,s_gnomonref03_Lex_l3_b, am0,am1,am2,am3,am4,am5,am6,am7,bl,i64,reduceIte,reduceCtorEq,Nat.reduceEqDiff,Nat.reduceLT,Nat.reduceLeDiff,Nat.reduceBEq,Nat.reduceAdd,fillA,splice,Nat.reduceMul,al0,al1,al2,al3,al4,al5,al6,al7,al8,al9,al10,al11,al12,al13,al14,al15,al16,al17,al18,al19,al20,al21,al22,al23,al24,al25,al26,al27,al28,al29,al30,al31,al32,al33,al34,amY,op_eqP, hlt', hx, w, b32, n32, b9, n9, b13, n13, b10, n10, h59', hL, hlt1, hD, hdg, hl, wf, h48, q1, q2, hspot H hbH, hz', hcb, hdH, hbd]
  · have hz' : (((p + (Tok.far Tok.digit (b.data.toList.drop (p + 1)) + 1) : Nat) : Int) < (b.size : Int)) := by omega
    obtain ⟨x2, hx2⟩ : ∃ x, b.data.toList[p + (Tok.far Tok.digit (b.data.toList.drop (p + 1)) + 1)]? = some x := ⟨_, List.getElem?_eq_getElem (show p + (Tok.far Tok.digit (b.data.toList.drop (p + 1)) + 1) < b.size by omega)⟩
    have hb2 := hbe2 x2 hx2
    have dm := dot_m x2
    cases hl2 : Tok.letter x2 with
    | true =>
      simp only [lexE, nilS, refE, I, a_gnomonref03_Lex,s_gnomonref03_Lex_l0_b,s_gnomonref03_Lex_l1_b,s_gnomonref03_Lex_l2_b,s_gnomonref03_Lex_l3_b, am0,am1,am2,am3,am4,am5,am6,am7,bl,i64,reduceIte,reduceCtorEq,Nat.reduceEqDiff,Nat.reduceLT,Nat.reduceLeDiff,Nat.reduceBEq,Nat.reduceAdd,fillA,splice,Nat.reduceMul,al0,al1,al2,al3,al4,al5,al6,al7,al8,al9,al10,al11,al12,al13,al14,al15,al16,al17,al18,al19,al20,al21,al22,al23,al24,al25,al26,al27,al28,al29,al30,al31,al32,al33,al34,amY,op_eqP, hlt', hx, w, b32, n32, b9, n9, b13, n13, b10, n10, h59', hL, hlt1, hD, hdg, hl, wf, h48, q1, q2, hspot H hbH, hz', hx2, hl2, hdH, hbd]
    | false =>
      rw [hl2, Bool.false_or] at hb2
      simp only [lexE, nilS, refE, I, a_gnomonref03_Lex,s_gnomonref03_Lex_l0_b,s_gnomonref03_Lex_l1_b,s_gnomonref03_Lex_l2_b,s_gnomonref03_Lex_l3_b, am0,am1,am2,am3,am4,am5,am6,am7,bl,i64,reduceIte,reduceCtorEq,Nat.reduceEqDiff,Nat.reduceLT,Nat.reduceLeDiff,Nat.reduceBEq,Nat.reduceAdd,fillA,splice,Nat.reduceMul,al0,al1,al2,al3,al4,al5,al6,al7,al8,al9,al10,al11,al12,al13,al14,al15,al16,al17,al18,al19,al20,al21,al22,al23,al24,al25,al26,al27,al28,al29,al30,al31,al32,al33,al34,amY,op_eqP, hlt', hx, w, b32, n32, b9, n9, b13, n13, b10, n10, h59', hL, hlt1, hD, hdg, hl, wf, h48, q1, q2, hspot H hbH, hz', hx2, hl2, dm, hb2, hcb, hdH, hbd]
theorem ref_num (T : TR CT) {base m : Nat} {b : ByteArray} (hb : b.size ≤ 2 ^ 40) {d : Nat} (hbd : base ≤ d) (hbm : base ≤ m) {H : Heap} {v : V} {ln cl p : Nat} {R : List (List V)} (st : RefSt m H d v R) (hR : R.length ≤ p) {c : UInt8} (hx : b.data.toList[p]? = some c) (hsp : Tok.spotL (b.data.toList.take p) (1, 1) = (ln, cl)) (hbl : Tok.blank c = false) (h59 : c ≠ 59) (hlt1 : Tok.letter c = false) (hdg : Tok.digit c = true) (hco : ¬ (9 < Tok.far Tok.digit (b.data.toList.drop (p + 1)) + 1 ∨ (1 < Tok.far Tok.digit (b.data.toList.drop (p + 1)) + 1 ∧ c = 48) ∨ Tok.far Tok.digit (b.data.toList.drop (p + 1)) < Tok.far Tok.within (b.data.toList.drop (p + 1)))) :
    ∃ v' H', itW (evC (callW CT) itW base s_gnomonref03_Lex_l3) [55] m (frOf 197 (refE b d v p)) H = itW (evC (callW CT) itW base s_gnomonref03_Lex_l3) [55] m (frOf 197 (refE b d v' (p + (Tok.far Tok.digit (b.data.toList.drop (p + 1)) + 1)))) H' ∧ RefSt m H' d v' (R ++ [tV ⟨2, c :: (b.data.toList.drop (p + 1)).take (Tok.far Tok.digit (b.data.toList.drop (p + 1))), Tok.val (c :: (b.data.toList.drop (p + 1)).take (Tok.far Tok.digit (b.data.toList.drop (p + 1)))), ln, cl⟩]) ∧ KeepD m [] H H' := by
  have hlt : p < b.size := (List.getElem?_eq_some_iff.1 hx).1
  have hlt' : ((p : Int) < (b.size : Int)) := by omega
  have hdr : b.data.toList.drop p = c :: b.data.toList.drop (p + 1) := by
    rw [List.drop_eq_getElem_cons hlt, (List.getElem?_eq_some_iff.1 hx).2]
  have hL := rletter_fun T.letter
  have hD := rdigit_fun T.digit
  have hS := rsign_fun T.sign c
  have hmL := st.len
  have hspot := fun (H : Heap) (hH : base ≤ H.length) => spot_fun T.spot base H hH hb (q := p) (by omega)
  simp only [hsp] at hspot
  have w := w64_nat (n := p) (by omega)
  have ten := ten_m c
  have b32 : ((c.toNat : Int) == 32) = (c == 32) := by rw [Bool.eq_iff_iff, beq_iff_eq, beq_iff_eq, byte_ne]; rfl
  have b9 : ((c.toNat : Int) == 9) = (c == 9) := by rw [Bool.eq_iff_iff, beq_iff_eq, beq_iff_eq, byte_ne]; rfl
  have b13 : ((c.toNat : Int) == 13) = (c == 13) := by rw [Bool.eq_iff_iff, beq_iff_eq, beq_iff_eq, byte_ne]; rfl
  have b10 : ((c.toNat : Int) == 10) = (c == 10) := by rw [Bool.eq_iff_iff, beq_iff_eq, beq_iff_eq, byte_ne]; rfl
  have h59' : ((c.toNat : Int) == 59) = false := by rw [beq_eq_false_iff_ne]; intro e; exact h59 ((byte_ne c 59).2 e)
  have nb := hbl
  unfold Tok.blank at nb
  simp only [Bool.or_eq_false_iff] at nb
  obtain ⟨⟨⟨n32, n9⟩, n13⟩, n10⟩ := nb
  have hfl := Tok.far_le Tok.digit (b.data.toList.drop (p + 1))
  rw [List.length_drop, show b.data.toList.length = b.size from rfl] at hfl
  have hl := fun w7 => rdigit_loop hD base hb (d := d) (v := v) (w7 := w7) (from' := p) (H := H) (b.data.toList.drop p) 0 0 rfl (by omega) (by decide)
  simp only [hdr, Tok.far, if_pos hdg, I, Nat.zero_add, Nat.add_zero, show ((0 : Nat) : Int) = 0 from rfl] at hl
  have wf : IntKind.i64.wrap (((p + (Tok.far Tok.digit (b.data.toList.drop (p + 1)) + 1) : Nat) : Int) - (p : Int)) = ((Tok.far Tok.digit (b.data.toList.drop (p + 1)) + 1 : Nat) : Int) := by rw [IntKind.wrap_i64]; omega
  have h48 : ((c.toNat : Int) == 48) = decide (c = 48) := by rw [Bool.eq_iff_iff, beq_iff_eq, decide_eq_true_iff, byte_ne]; rfl
  have q1 : decide ((((Tok.far Tok.digit (b.data.toList.drop (p + 1)) + 1 : Nat) : Int)) > 9) = decide (9 < Tok.far Tok.digit (b.data.toList.drop (p + 1)) + 1) := by rw [Bool.eq_iff_iff, decide_eq_true_iff, decide_eq_true_iff]; omega
  have q2 : decide ((((Tok.far Tok.digit (b.data.toList.drop (p + 1)) + 1 : Nat) : Int)) > 1) = decide (1 < Tok.far Tok.digit (b.data.toList.drop (p + 1)) + 1) := by rw [Bool.eq_iff_iff, decide_eq_true_iff, decide_eq_true_iff]; omega
  have hbH : base ≤ H.length := by omega
  obtain ⟨nv, hnv⟩ : ∃ nv, nval 0 0 (c :: b.data.toList.drop (p + 1)) = nv := ⟨_, rfl⟩
  simp only [hnv] at hl
  have hbeh : ∀ (hz : p + (Tok.far Tok.digit (b.data.toList.drop (p + 1)) + 1) = b.size) , ¬ (Tok.far Tok.digit (b.data.toList.drop (p + 1)) < Tok.far Tok.within (b.data.toList.drop (p + 1))) := by
    intro hz h
    have := Tok.far_le Tok.within (b.data.toList.drop (p + 1))
    rw [List.length_drop, show b.data.toList.length = b.size from rfl] at this
    omega
  have hbe2 : ∀ x, b.data.toList[p + (Tok.far Tok.digit (b.data.toList.drop (p + 1)) + 1)]? = some x → (Tok.letter x || x == 46) = decide (Tok.far Tok.digit (b.data.toList.drop (p + 1)) < Tok.far Tok.within (b.data.toList.drop (p + 1))) := fun x hx => far_behind hdr hx
  have hval : nv = Tok.val (c :: (b.data.toList.drop (p + 1)).take (Tok.far Tok.digit (b.data.toList.drop (p + 1)))) := by
    have h9 : 0 + Tok.far Tok.digit (c :: b.data.toList.drop (p + 1)) ≤ 9 := by
      simp only [Tok.far, if_pos hdg]
      have := fun h => hco (.inl h)
      omega
    rw [← hnv, nval_val _ 0 0 h9]
    simp only [Tok.far, if_pos hdg, List.take_succ_cons]
    rfl
  have hle : (0 ≤ (p : Int) ∧ (p : Int) ≤ ((p + (Tok.far Tok.digit (b.data.toList.drop (p + 1)) + 1) : Nat) : Int) ∧ ((p + (Tok.far Tok.digit (b.data.toList.drop (p + 1)) + 1) : Nat) : Int) ≤ (b.size : Int)) := by omega
  have hex := extract_eq b p (Tok.far Tok.digit (b.data.toList.drop (p + 1)) + 1)
  rw [hdr, List.take_succ_cons] at hex
  obtain ⟨v', C, eC, sC, kC⟩ := st.app hbm (Ob.cells 0 [V.s (.int .i64 ln), V.s (.int .i64 cl)]) (row := tV ⟨2, c :: (b.data.toList.drop (p + 1)).take (Tok.far Tok.digit (b.data.toList.drop (p + 1))), nv, ln, cl⟩) rfl rfl (by omega)
  have eC' : appendV (H ++ [Ob.cells 0 [V.s (.int .i64 ln), V.s (.int .i64 cl)]] ++ [Ob.cells 0 [V.s (.int .u8 2), V.s (.string ⟨(c :: (b.data.toList.drop (p + 1)).take (Tok.far Tok.digit (b.data.toList.drop (p + 1)))).toArray⟩), V.s (.int .i64 nv), V.s (.int .i64 ln), V.s (.int .i64 cl)]]) base 5 48 v (.sl (H.length + 1) 0 0 1 5) = some (v', C) := eC
  rw [← hval]
  refine ⟨v', _, ?_, sC.tr (fr := frOf 197 (refE b d v' (p + (Tok.far Tok.digit (b.data.toList.drop (p + 1)) + 1)))) (frOf_mem (s := 5) (by decide) rfl), KeepD.tr kC _⟩
  rw [itW_step]
  have hcb : (decide (9 < Tok.far Tok.digit (b.data.toList.drop (p + 1)) + 1) || decide (1 < Tok.far Tok.digit (b.data.toList.drop (p + 1)) + 1) && decide (c = 48) || decide (Tok.far Tok.digit (b.data.toList.drop (p + 1)) < Tok.far Tok.within (b.data.toList.drop (p + 1)))) = false := by
    rw [← Bool.not_eq_true]
    simp only [Bool.or_eq_true, Bool.and_eq_true, decide_eq_true_eq, or_assoc]; exact hco
  by_cases hz : p + (Tok.far Tok.digit (b.data.toList.drop (p + 1)) + 1) = b.size
  · have hz' : decide (((p + (Tok.far Tok.digit (b.data.toList.drop (p + 1)) + 1) : Nat) : Int) < (b.size : Int)) = false := by rw [decide_eq_false_iff_not]; omega
    rw [decide_eq_false (hbeh hz), Bool.or_false] at hcb
    simp only [lexE, nilS, refE, I, a_gnomonref03_Lex,s_gnomonref03_Lex_l0_b,s_gnomonref03_Lex_l1_b,s_gnomonref03_Lex_l2_b,s_gnomonref03_Lex_l3_b, am0,am1,am2,am3,am4,am5,am6,am7,bl,i64,reduceIte,reduceCtorEq,Nat.reduceEqDiff,Nat.reduceLT,Nat.reduceLeDiff,Nat.reduceBEq,Nat.reduceAdd,fillA,splice,Nat.reduceMul,al0,al1,al2,al3,al4,al5,al6,al7,al8,al9,al10,al11,al12,al13,al14,al15,al16,al17,al18,al19,al20,al21,al22,al23,al24,al25,al26,al27,al28,al29,al30,al31,al32,al33,al34,amY,op_eqP, hlt', hx, w, b32, n32, b9, n9, b13, n13, b10, n10, h59', hL, hlt1, hD, hdg, hl, wf, h48, q1, q2, hspot H hbH, hz', hcb, xsub_str, xsub_build, hle, hex, eC']
  · have hz' : (((p + (Tok.far Tok.digit (b.data.toList.drop (p + 1)) + 1) : Nat) : Int) < (b.size : Int)) := by omega
    obtain ⟨x2, hx2⟩ : ∃ x, b.data.toList[p + (Tok.far Tok.digit (b.data.toList.drop (p + 1)) + 1)]? = some x := ⟨_, List.getElem?_eq_getElem (show p + (Tok.far Tok.digit (b.data.toList.drop (p + 1)) + 1) < b.size by omega)⟩
    have hb2 := hbe2 x2 hx2
    have dm := dot_m x2
    cases hl2 : Tok.letter x2 with
    | true =>
      rw [hl2, Bool.true_or] at hb2
      rw [← hb2, Bool.or_true] at hcb
      cases hcb
    | false =>
      rw [hl2, Bool.false_or] at hb2
      simp only [lexE, nilS, refE, I, a_gnomonref03_Lex,s_gnomonref03_Lex_l0_b,s_gnomonref03_Lex_l1_b,s_gnomonref03_Lex_l2_b,s_gnomonref03_Lex_l3_b, am0,am1,am2,am3,am4,am5,am6,am7,bl,i64,reduceIte,reduceCtorEq,Nat.reduceEqDiff,Nat.reduceLT,Nat.reduceLeDiff,Nat.reduceBEq,Nat.reduceAdd,fillA,splice,Nat.reduceMul,al0,al1,al2,al3,al4,al5,al6,al7,al8,al9,al10,al11,al12,al13,al14,al15,al16,al17,al18,al19,al20,al21,al22,al23,al24,al25,al26,al27,al28,al29,al30,al31,al32,al33,al34,amY,op_eqP, hlt', hx, w, b32, n32, b9, n9, b13, n13, b10, n10, h59', hL, hlt1, hD, hdg, hl, wf, h48, q1, q2, hspot H hbH, hz', hx2, hl2, dm, hb2, hcb, xsub_str, xsub_build, hle, hex, eC']
end
end Go.Proofs.YtfnkpedipicjnaaDoor
set_option maxRecDepth 100000
namespace Go.Proofs.YtfnkpedipicjnaaDoor
open Go.AM
def RefRes (m d : Nat) (b : ByteArray) (R : List (List V)) (H : Heap) (out : Tok.Out) (X : Option St) : Prop :=
  (∃ ts ln cl v H', out = .done (ts ++ [⟨4, [], 0, ln, cl⟩]) ∧ X = some (.ext 0, frOf 197 (refE b d v b.size ++ [(18, bl false)]), H') ∧ RefSt m H' d v (R ++ ts.map tV) ∧ KeepD m [] H H' ∧ Tok.spotL (b.data.toList.take b.size) (1, 1) = (ln, cl) ∧ R.length + ts.length ≤ b.size) ∨
  (∃ e a q H', out = .bad e a q ∧ X = some (.ret, frOf 197 [(2, nilS), (3, .ref d 0 0), (4, .s (.int .i64 e))], H') ∧ getC H' d 0 = some [I a, I q] ∧ KeepD m [d] H H')
theorem RefRes.keep {m d : Nat} {b : ByteArray} {R : List (List V)} {H H2 : Heap} {out : Tok.Out} {X : Option St} (r : RefRes m d b R H2 out X) (k : KeepD m [] H H2) : RefRes m d b R H out X := by
  rcases r with ⟨ts, ln, cl, v, H', h1, h2, h3, h4, h5⟩ | ⟨e, a, q, H', h1, h2, h3, h4⟩
  · exact .inl ⟨ts, ln, cl, v, H', h1, h2, h3, k.trans h4 (Nat.le_refl _), h5⟩
  · exact .inr ⟨e, a, q, H', h1, h2, h3, (KeepD.mono k (Nat.le_refl _) (fun id _ hx => by simp at hx)).trans h4 (Nat.le_refl _)⟩
theorem RefRes.cons {m d : Nat} {b : ByteArray} {R : List (List V)} {H H2 : Heap} {out : Tok.Out} {X : Option St} {t : Tok.T} (r : RefRes m d b (R ++ [tV t]) H2 out X) (k : KeepD m [] H H2) : RefRes m d b R H (.cons t out) X := by
  rcases r.keep k with ⟨ts, ln, cl, v, H', rfl, h2, h3, h4, h5, h7⟩ | ⟨e, a, q, H', rfl, h2, h3, h4⟩
  · refine .inl ⟨t :: ts, ln, cl, v, H', rfl, h2, ?_, h4, h5, ?_⟩
    · rw [List.map_cons, ← List.singleton_append, ← List.append_assoc]; exact h3
    · rw [List.length_append, List.length_singleton] at h7
      rw [List.length_cons]; omega
  · exact .inr ⟨e, a, q, H', rfl, h2, h3, h4⟩
section
variable {CT : Nat → Option CFun}
theorem ref_loop (T : TR CT) {base m : Nat} {b : ByteArray} (hb : b.size ≤ 2 ^ 40) {d : Nat} (hbm : base ≤ m) (hbd : base ≤ d) : ∀ (N : Nat) (p ln cl : Nat) (v : V) (R : List (List V)) (H : Heap), b.size - p ≤ N → p ≤ b.size → RefSt m H d v R → R.length ≤ p → Tok.spotL (b.data.toList.take p) (1, 1) = (ln, cl) →
    RefRes m d b R H (Tok.lex (b.data.toList.drop p) ln cl) (itW (evC (callW CT) itW base s_gnomonref03_Lex_l3) [55] m (frOf 197 (refE b d v p)) H) := by
  have hend : ∀ (p ln cl : Nat) (v : V) (R : List (List V)) (H : Heap), b.size - p = 0 → p ≤ b.size → RefSt m H d v R → R.length ≤ p → Tok.spotL (b.data.toList.take p) (1, 1) = (ln, cl) →
      RefRes m d b R H (Tok.lex (b.data.toList.drop p) ln cl) (itW (evC (callW CT) itW base s_gnomonref03_Lex_l3) [55] m (frOf 197 (refE b d v p)) H) := by
    intro p ln cl v R H h0 h1 st hR hsp
    obtain rfl : p = b.size := by omega
    rw [List.drop_eq_nil_of_le (show b.data.toList.length ≤ b.size from Nat.le_refl _), Tok.lex_nil]
    refine .inl ⟨[], ln, cl, v, _, rfl, ?_, by simpa using st.tr (fr := frOf 197 (refE b d v b.size ++ [(18, bl false)])) (frOf_mem (s := 5) (by decide) rfl), KeepD.tr (A := H) ⟨st.len, fun _ _ _ => rfl⟩ (frOf 197 (refE b d v b.size ++ [(18, bl false)])), hsp, by simpa using hR⟩
    rw [itW_step]
    simp only [refE, I, a_gnomonref03_Lex,s_gnomonref03_Lex_l0_b,s_gnomonref03_Lex_l1_b,s_gnomonref03_Lex_l2_b,s_gnomonref03_Lex_l3_b, am0,am1,am2,am3,am4,am5,am6,am7,bl,i64,reduceIte,reduceCtorEq,Nat.reduceEqDiff,Nat.reduceLT,Nat.reduceLeDiff,Nat.reduceBEq,Nat.reduceAdd,fillA,splice,Nat.reduceMul,al0,al1,al2,al3,al4,al5,al6,al7,al8,al9,al10,al11,al12,al13,al14,al15,al16,al17,al18,al19,al20,al21,al22,al23,al24,al25,al26,al27,al28,al29,al30,al31,al32,al33,al34,amY,op_eqP, Int.lt_irrefl]
  intro N
  induction N with
  | zero => exact fun p ln cl v R H h0 h1 st hR hsp => hend p ln cl v R H (by omega) h1 st hR hsp
  | succ N ih =>
    intro p ln cl v R H h0 h1 st hR hsp
    by_cases hz : p = b.size
    · exact hend p ln cl v R H (by omega) h1 st hR hsp
    have hlt : p < b.data.toList.length := by show p < b.size; omega
    obtain ⟨c, hx⟩ : ∃ c, b.data.toList[p]? = some c := ⟨_, List.getElem?_eq_getElem hlt⟩
    have hdr : b.data.toList.drop p = c :: b.data.toList.drop (p + 1) := by
      rw [List.drop_eq_getElem_cons hlt, (List.getElem?_eq_some_iff.1 hx).2]
    have hdd : ∀ k, (b.data.toList.drop (p + 1)).drop k = b.data.toList.drop (p + (k + 1)) := fun k => by rw [List.drop_drop]; congr 1; omega
    have hfl : ∀ q, p + (Tok.far q (b.data.toList.drop (p + 1)) + 1) ≤ b.size := fun q => by
      have := Tok.far_le q (b.data.toList.drop (p + 1))
      rw [List.length_drop, show b.data.toList.length = b.size from rfl] at this
      have : p < b.size := hlt
      omega
    have hsz : p < b.size := hlt
    have sp1 : Tok.spotL (b.data.toList.take (p + 1)) (1, 1) = (if c = 10 then (ln + 1, 1) else (ln, cl + 1)) := by
      rw [List.take_add_one, hx, Tok.spotL_app, hsp]
      simp only [Option.toList, Tok.spotL]
    have spf : ∀ q, q 10 = false → c ≠ 10 → Tok.spotL (b.data.toList.take (p + (Tok.far q (b.data.toList.drop (p + 1)) + 1))) (1, 1) = (ln, cl + (Tok.far q (b.data.toList.drop (p + 1)) + 1)) := by
      intro q hq hc
      rw [List.take_add, Tok.spotL_app, hsp, hdr, List.take_succ_cons, Tok.spotL_flat _ _ (Tok.len_ne q hq _ hc), List.length_cons, Tok.far_len]
    rw [hdr, Tok.lex_cons]
    cases hbl : Tok.blank c with
    | true =>
      obtain ⟨H2, e, s, k⟩ := ref_blank T hb hbd hbm st hR hx hsp hbl
      rw [if_pos rfl, e]
      refine RefRes.keep ?_ k
      split
      · rename_i h10
        exact ih _ _ _ v R H2 (by omega) (by omega) s (by omega) (by rw [sp1, if_pos h10])
      · rename_i h10
        exact ih _ _ _ v R H2 (by omega) (by omega) s (by omega) (by rw [sp1, if_neg h10])
    | false =>
      rw [if_neg (by simp)]
      by_cases h59 : c = 59
      · obtain ⟨H2, e, s, k⟩ := ref_comment T hb hbd hbm st hR hx hsp hbl h59
        rw [if_pos h59, e, hdd]
        exact RefRes.keep (ih _ _ _ v R H2 (by omega) (hfl _) s (by omega) (spf _ (by decide) (by rw [h59]; decide))) k
      · rw [if_neg h59]
        cases hlt1 : Tok.letter c with
        | true =>
          obtain ⟨v', H2, e, s, k⟩ := ref_name T hb hbd hbm st hR hx hsp hbl h59 hlt1
          rw [if_pos rfl, e, hdd]
          exact RefRes.cons (ih _ _ _ v' _ H2 (by omega) (hfl _) s (by simp; omega) (spf _ (by decide) (Tok.not_ten (.inl hlt1)))) k
        | false =>
          rw [if_neg (by simp)]
          cases hdg : Tok.digit c with
          | true =>
            rw [if_pos rfl]
            split
            · rename_i hco
              obtain ⟨H2, e, s, k⟩ := ref_num_bad T hb hbd hbm st hR hx hsp hbl h59 hlt1 hdg hco
              rw [e]
              exact .inr ⟨31, ln, cl, H2, rfl, rfl, s, k⟩
            · rename_i hco
              obtain ⟨v', H2, e, s, k⟩ := ref_num T hb hbd hbm st hR hx hsp hbl h59 hlt1 hdg hco
              rw [e, hdd]
              exact RefRes.cons (ih _ _ _ v' _ H2 (by omega) (hfl _) s (by simp; omega) (spf _ (by decide) (Tok.not_ten (.inr (.inl hdg))))) k
          | false =>
            rw [if_neg (by simp)]
            cases hsg : Tok.sign c with
            | true =>
              obtain ⟨v', H2, e, s, k⟩ := ref_sign T hb hbd hbm st hR hx hsp hbl h59 hlt1 hdg hsg
              rw [if_pos rfl, e]
              exact RefRes.cons (ih _ _ _ v' _ H2 (by omega) (by omega) s (by simp; omega) (by rw [sp1, if_neg (Tok.not_ten (.inr (.inr hsg)))])) k
            | false =>
              obtain ⟨H2, e, s, k⟩ := ref_byte T hb hbd hbm st hR hx hsp hbl h59 hlt1 hdg hsg
              rw [if_neg (by simp), e]
              exact .inr ⟨30, ln, cl, H2, rfl, rfl, s, k⟩
theorem ref_fun (hT : CT k_gnomonref03_Lex = some (.code s_gnomonref03_Lex)) (T : TR CT) (base : Nat) (H : Heap) (hbase : base ≤ H.length) (b : ByteArray) (r : List Tok.T × (Nat × Nat) × Nat) (hr : lexR b.data.toList = r) :
    ∃ v H', callW CT (.fn k_gnomonref03_Lex [] []) [.s (.string b)] base H = some (.tup [v, .agg [I r.2.1.1, I r.2.1.2], .s (.int .i64 r.2.2)], H') ∧ AccW H.length 5 H' v (r.1.map tV) ∧ KeepD H.length [] H H' := by
  by_cases hsz : 1048576 < b.size
  · have hr2 : r = ([], (0, 0), 2) := by rw [← hr]; exact if_pos hsz
    have hg : decide ((b.size : Int) > 1048576) = true := by rw [decide_eq_true_iff]; omega
    have e : callW CT (.fn k_gnomonref03_Lex [] []) [.s (.string b)] base H = some (.tup [nilS, .agg [.s (.int .i64 0), .s (.int .i64 0)], .s (.int .i64 2)], H ++ [.cells 0 [.s (.int .i64 0), .s (.int .i64 0)]]) := by
      refine callW_fnA (c := s_gnomonref03_Lex) (k := 1) hT rfl (by decide) s_gnomonref03_Lex_first ?_
      simp only [s_gnomonref03_Lex, nilS, a_gnomonref03_Lex,s_gnomonref03_Lex_l0_b,s_gnomonref03_Lex_l1_b,s_gnomonref03_Lex_l2_b,s_gnomonref03_Lex_l3_b, am0,am1,am2,am3,am4,am5,am6,am7,bl,i64,reduceIte,reduceCtorEq,Nat.reduceEqDiff,Nat.reduceLT,Nat.reduceLeDiff,Nat.reduceBEq,Nat.reduceAdd,fillA,splice,Nat.reduceMul,al0,al1,al2,al3,al4,al5,al6,al7,al8,al9,al10,al11,al12,al13,al14,al15,al16,al17,al18,al19,al20,al21,al22,al23,al24,al25,al26,al27,al28,al29,al30,al31,al32,al33,al34,amY,op_eqP, hg, hbase, resultV3, loadV_x]
    subst hr2
    exact ⟨_, _, e, AccW.start _ _ _, by simp, fun id h _ => by rw [List.getElem?_append_left h]⟩
  · have hg : decide ((b.size : Int) > 1048576) = false := by rw [decide_eq_false_iff_not]; omega
    obtain ⟨L, hL⟩ : ∃ L, H.length = L := ⟨_, rfl⟩
    obtain ⟨H4, hH4⟩ : ∃ H4, H ++ [Ob.cells 0 [V.s (Value.int IntKind.i64 0), V.s (Value.int IntKind.i64 0)]] = H4 := ⟨_, rfl⟩
    have k4 : ∀ x, x < L → H4[x]? = H[x]? := fun x hx => by rw [← hH4]; rw [List.getElem?_append_left (by omega)]
    have l4 : H4.length = L + 1 := by rw [← hH4]; simp [hL]
    have g0 : getC H4 L 0 = some [I 0, I 0] := by rw [← hH4]; simp [getC, hL, I]
    have st : RefSt (L + 1) H4 L nilS [] := ⟨⟨_, _, g0⟩, AccW.start _ _ _, by omega, by omega⟩
    have hlp := ref_loop T (base := base) (m := L + 1) (b := b) (by omega) (d := L) (by omega) (by omega) b.size 0 1 1 nilS [] H4 (by omega) (by omega) st (by simp) rfl
    have hr3 : r = match Tok.lex b.data.toList 1 1 with
        | .done ts => (ts, (0, 0), 0)
        | .bad e a q => ([], (a, q), e) := by rw [← hr]; exact if_neg hsz
    rw [List.drop_zero] at hlp
    have hbL : base ≤ L := by omega
    rcases hlp with ⟨ts, ln, cl, v, H', h1, h2, h3, h4, h5, h7⟩ | ⟨e, a, q, H', h1, h2, h3, h4⟩
    · rw [h1] at hr3
      simp only at hr3
      subst hr3
      have hbH : base ≤ H'.length := by have := h4.1; omega
      have hspot := spot_fun T.spot base H' hbH (b := b) (by omega) (q := b.size) (Nat.le_refl _)
      simp only [h5] at hspot
      obtain ⟨v', C, eC, sC, kC⟩ := h3.app (base := base) (by omega) (Ob.cells 0 [V.s (.int .i64 ln), V.s (.int .i64 cl)]) (row := tV ⟨4, [], 0, ln, cl⟩) rfl rfl (by simp at h7 ⊢; omega)
      have eC' : appendV (H' ++ [Ob.cells 0 [V.s (.int .i64 ln), V.s (.int .i64 cl)]] ++ [Ob.cells 0 [V.s (.int .u8 4), V.s (.string ⟨#[]⟩), V.s (.int .i64 0), V.s (.int .i64 ln), V.s (.int .i64 cl)]]) base 5 48 v (.sl (H'.length + 1) 0 0 1 5) = some (v', C) := eC
      obtain ⟨x, y, d2⟩ := sC.res
      have d3 : ∀ c, getC (C.set L (.cells 0 c)) L 0 = some c := fun c => getC_put d2 c
      have e : callW CT (.fn k_gnomonref03_Lex [] []) [.s (.string b)] base H = some (.tup [v', .agg [.s (.int .i64 0), .s (.int .i64 0)], .s (.int .i64 0)], C.set L (.cells 0 [.s (.int .i64 0), .s (.int .i64 0)])) := by
        refine callW_fnA (c := s_gnomonref03_Lex) (k := 1) hT rfl (by decide) s_gnomonref03_Lex_first ?_
        simp only [refE, nilS] at h2
        rw [I, show ((0 : Nat) : Int) = 0 from rfl] at h2
        simp only [s_gnomonref03_Lex, nilS, a_gnomonref03_Lex,s_gnomonref03_Lex_l0_b,s_gnomonref03_Lex_l1_b,s_gnomonref03_Lex_l2_b,s_gnomonref03_Lex_l3_b, am0,am1,am2,am3,am4,am5,am6,am7,bl,i64,reduceIte,reduceCtorEq,Nat.reduceEqDiff,Nat.reduceLT,Nat.reduceLeDiff,Nat.reduceBEq,Nat.reduceAdd,fillA,splice,Nat.reduceMul,al0,al1,al2,al3,al4,al5,al6,al7,al8,al9,al10,al11,al12,al13,al14,al15,al16,al17,al18,al19,al20,al21,al22,al23,al24,al25,al26,al27,al28,al29,al30,al31,al32,al33,al34,amY,op_eqP, hL, hg, hbL, resultV3, loadV_x, hH4, l4, h2, hspot, xsub_build, eC', d2, d3]
      refine ⟨_, _, e, ?_, ?_⟩
      · rw [List.map_append, List.map_cons, List.map_nil]
        obtain ⟨hw, ⟨e0, _⟩ | ⟨id, g, rfl, hcc, hid⟩⟩ := sC.out
        · simp at e0
        · rw [List.nil_append] at hw hcc ⊢
          refine ⟨hw, .inr ⟨id, g, by simp, ?_, by omega⟩⟩
          unfold getC at hcc ⊢
          rw [List.getElem?_set_ne (by omega)]
          exact hcc
      · refine ⟨by rw [List.length_set]; have := kC.1; omega, fun x hx _ => ?_⟩
        rw [List.getElem?_set_ne (by omega), kC.2 x (by omega) (by simp), h4.2 x (by omega) (by simp), k4 x (by omega)]
    · rw [h1] at hr3
      simp only at hr3
      subst hr3
      have e : callW CT (.fn k_gnomonref03_Lex [] []) [.s (.string b)] base H = some (.tup [nilS, .agg [.s (.int .i64 a), .s (.int .i64 q)], .s (.int .i64 e)], H') := by
        refine callW_fnA (c := s_gnomonref03_Lex) (k := 1) hT rfl (by decide) s_gnomonref03_Lex_first ?_
        simp only [refE, nilS] at h2
        rw [I, show ((0 : Nat) : Int) = 0 from rfl] at h2
        simp only [s_gnomonref03_Lex, nilS, a_gnomonref03_Lex,s_gnomonref03_Lex_l0_b,s_gnomonref03_Lex_l1_b,s_gnomonref03_Lex_l2_b,s_gnomonref03_Lex_l3_b, am0,am1,am2,am3,am4,am5,am6,am7,bl,i64,reduceIte,reduceCtorEq,Nat.reduceEqDiff,Nat.reduceLT,Nat.reduceLeDiff,Nat.reduceBEq,Nat.reduceAdd,fillA,splice,Nat.reduceMul,al0,al1,al2,al3,al4,al5,al6,al7,al8,al9,al10,al11,al12,al13,al14,al15,al16,al17,al18,al19,al20,al21,al22,al23,al24,al25,al26,al27,al28,al29,al30,al31,al32,al33,al34,amY,op_eqP, hL, hg, hbL, resultV3, loadV_x, hH4, l4, h2, h3]
      exact ⟨_, _, e, AccW.start _ _ _, by have := h4.1; omega, fun id hid _ => by rw [h4.2 id (by omega) (by simp; omega), k4 id (by omega)]⟩
end
end Go.Proofs.YtfnkpedipicjnaaDoor
set_option maxRecDepth 100000
namespace Go.Proofs.YtfnkpedipicjnaaDoor
open Go.AM
theorem tok_eq (t u : Tok.T) : eqLeaves [Leaf.int IntKind.u8, Leaf.str, Leaf.int IntKind.i64, Leaf.int IntKind.i64, Leaf.int IntKind.i64] (tV t) (tV u) = some (decide (t = u)) := by
  unfold tV I
  simp only [eqLeaves, eqLeaf, and_self, if_true, Bool.and_true]
  congr 1
  rw [Bool.eq_iff_iff, decide_eq_true_iff]
  cases t
  cases u
  simp only [Bool.and_eq_true, beq_iff_eq, Int.natCast_inj, Tok.T.mk.injEq]
theorem spot_eq (a b c d : Int) : eqLeaves [Leaf.int IntKind.i64, Leaf.int IntKind.i64] [.s (.int .i64 a), .s (.int .i64 b)] [.s (.int .i64 c), .s (.int .i64 d)] = some (a == c && b == d) := by
  simp only [eqLeaves, eqLeaf, and_self, if_true, Bool.and_true]
section
variable {CT : Nat → Option CFun}
theorem same_loop (base : Nat) {v1 v2 : V} {H : Heap} {ts : List Tok.T} (h1 : RdW 5 H v1 (ts.map tV)) (h2 : RdW 5 H v2 (ts.map tV)) (hn : ts.length < 2 ^ 60) : ∀ (n j : Nat), j + n = ts.length →
    itW (evC (callW CT) itW base s_gnomonref03_Same_l0) [] H.length (frOf 26 [(0, v1), (1, v2), (5, I j)]) H = some (.ext 0, frOf 26 [(0, v1), (1, v2), (5, I ts.length), (14, bl false)], H) := by
  have e1 := h1.len
  have e2 := h2.len
  rw [List.length_map] at e1 e2
  intro n
  induction n with
  | zero =>
    intro j hj
    obtain rfl : j = ts.length := by omega
    rw [itW_step]
    simp only [a_gnomonref03_Same,s_gnomonref03_Same_l0_b, am0,am1,am2,am3,am4,am5,am6,am7,bl,i64,reduceIte,reduceCtorEq,Nat.reduceEqDiff,Nat.reduceLT,Nat.reduceLeDiff,Nat.reduceBEq,Nat.reduceAdd,fillA,splice,Nat.reduceMul,al0,al1,al2,al3,al4,al5,al6,al7,al8,al9,al10,al11,al12,al13,al14,al15,al16,al17,al18,al19,al20,al21,al22,al23,al24,al25,al26,al27,al28,al29,al30,al31,al32,al33,al34,amY,op_eqP, I, e1, e2, Int.lt_irrefl]
  | succ n ih =>
    intro j hj
    have hlt : j < ts.length := by omega
    have hlt' : ((j : Int) < (ts.length : Int)) := by omega
    have w := w64_nat (n := j) (by omega)
    have hrow : (ts.map tV)[j]? = some (tV ts[j]) := by simp [hlt]
    obtain ⟨a, a1, a2, _⟩ := h1.at' j _ hrow
    obtain ⟨c, c1, c2, _⟩ := h2.at' j _ hrow
    have hen := ih (j + 1) (by omega)
    rw [itW_step]
    simp only [a_gnomonref03_Same,s_gnomonref03_Same_l0_b, am0,am1,am2,am3,am4,am5,am6,am7,bl,i64,reduceIte,reduceCtorEq,Nat.reduceEqDiff,Nat.reduceLT,Nat.reduceLeDiff,Nat.reduceBEq,Nat.reduceAdd,fillA,splice,Nat.reduceMul,al0,al1,al2,al3,al4,al5,al6,al7,al8,al9,al10,al11,al12,al13,al14,al15,al16,al17,al18,al19,al20,al21,al22,al23,al24,al25,al26,al27,al28,al29,al30,al31,al32,al33,al34,amY,op_eqP, I, e1, e2, hlt', w, a1, a2, c1, c2, tok_eq, decide_true]
    simp only [I] at hen
    exact hen
theorem same_fun (hT : CT k_gnomonref03_Same = some (.code s_gnomonref03_Same)) (base : Nat) {v1 v2 : V} {H : Heap} {ts : List Tok.T} (h1 : RdW 5 H v1 (ts.map tV)) (h2 : RdW 5 H v2 (ts.map tV)) (hn : ts.length < 2 ^ 60) :
    callW CT (.fn k_gnomonref03_Same [] []) [v1, v2] base H = some (bl true, H) := by
  refine callW_fn (c := s_gnomonref03_Same) hT (by simp [s_gnomonref03_Same]) ?_
  have e1 := h1.len
  have e2 := h2.len
  rw [List.length_map] at e1 e2
  have hl := same_loop (CT := CT) base h1 h2 hn ts.length 0 (by omega)
  rw [I, I, show ((0 : Nat) : Int) = 0 from rfl] at hl
  simp only [s_gnomonref03_Same, a_gnomonref03_Same,s_gnomonref03_Same_l0_b, am0,am1,am2,am3,am4,am5,am6,am7,bl,i64,reduceIte,reduceCtorEq,Nat.reduceEqDiff,Nat.reduceLT,Nat.reduceLeDiff,Nat.reduceBEq,Nat.reduceAdd,fillA,splice,Nat.reduceMul,al0,al1,al2,al3,al4,al5,al6,al7,al8,al9,al10,al11,al12,al13,al14,al15,al16,al17,al18,al19,al20,al21,al22,al23,al24,al25,al26,al27,al28,al29,al30,al31,al32,al33,al34,amY,op_eqP, I, e1, e2, hl, bne_self_eq_false]
theorem lex_len : ∀ (n : Nat) (l : List UInt8) (ln cl : Nat) (ts : List Tok.T), l.length ≤ n → Tok.lex l ln cl = .done ts → ts.length ≤ l.length + 1 := by
  intro n
  induction n with
  | zero =>
    intro l ln cl ts h e
    obtain rfl : l = [] := List.eq_nil_of_length_eq_zero (by omega)
    rw [Tok.lex_nil] at e
    cases e; simp
  | succ n ih =>
    intro l ln cl ts h e
    cases l with
    | nil => rw [Tok.lex_nil] at e; cases e; simp
    | cons c l =>
      have hl : l.length ≤ n := by simpa using h
      have hd : ∀ m, (l.drop m).length ≤ n := fun m => by rw [List.length_drop]; omega
      rw [List.length_cons]
      rw [Tok.lex_cons] at e
      split at e
      · split at e
        · have := ih _ _ _ _ hl e; omega
        · have := ih _ _ _ _ hl e; omega
      · split at e
        · have := ih _ _ _ _ (hd _) e; rw [List.length_drop] at this; omega
        · split at e
          · obtain ⟨us, e1, rfl⟩ := Tok.cons_done e
            have := ih _ _ _ _ (hd _) e1; rw [List.length_drop] at this; rw [List.length_cons]; omega
          · split at e
            · split at e
              · cases e
              · obtain ⟨us, e1, rfl⟩ := Tok.cons_done e
                have := ih _ _ _ _ (hd _) e1; rw [List.length_drop] at this; rw [List.length_cons]; omega
            · split at e
              · obtain ⟨us, e1, rfl⟩ := Tok.cons_done e
                have := ih _ _ _ _ hl e1; rw [List.length_cons]; omega
              · cases e
theorem lexR_len {l : List UInt8} {r : List Tok.T × (Nat × Nat) × Nat} (h : lexR l = r) : r.1.length ≤ 1048577 := by
  unfold lexR at h
  split at h
  · subst h; simp
  · rename_i hs
    split at h
    · rename_i ts hts
      subst h
      have := lex_len _ l 1 1 ts (Nat.le_refl _) hts
      simp only
      omega
    · subst h; simp
theorem lexes_law (hT : CT k_gnomonlaw03_TokenLexes = some (.code s_gnomonlaw03_TokenLexes)) (hL : CT k_token_Lex = some (.code s_token_Lex)) (T : TL CT) (hR : CT k_gnomonref03_Lex = some (.code s_gnomonref03_Lex)) (TR : TR CT) (hS : CT k_gnomonref03_Same = some (.code s_gnomonref03_Same)) (hx : ∀ base H, callW CT (.fn k_gnomonlaw03_lexes [] []) [] base H = some (bl true, H)) (b : ByteArray) :
    ∃ H', callW CT (.fn k_gnomonlaw03_TokenLexes [] []) [.s (.string b)] 0 [] = some (bl true, H') := by
  obtain ⟨r, hr⟩ : ∃ r, lexR b.data.toList = r := ⟨_, rfl⟩
  have hrl := lexR_len hr
  obtain ⟨v1, A, eA, aA, kA⟩ := lex_fun hL T 0 [] (Nat.zero_le _) b r hr
  obtain ⟨B, hB⟩ : ∃ B, A ++ [Ob.cells 0 [I r.2.1.1, I r.2.1.2]] = B := ⟨_, rfl⟩
  obtain ⟨v2, C, eC, aC, kC⟩ := ref_fun hR TR 0 B (Nat.zero_le _) b r hr
  obtain ⟨D, hD⟩ : ∃ D, C ++ [Ob.cells 0 [I r.2.1.1, I r.2.1.2]] = D := ⟨_, rfl⟩
  cases h1 : (decide ((b.size : Int) > 1500) && decide ((b.size : Int) ≤ 1048576)) with
  | true =>
    refine ⟨[], ?_⟩
    refine callW_fn (c := s_gnomonlaw03_TokenLexes) hT (by simp [s_gnomonlaw03_TokenLexes]) ?_
    simp only [s_gnomonlaw03_TokenLexes, a_gnomonlaw03_TokenLexes, am0,am1,am2,am3,am4,am5,am6,am7,bl,i64,reduceIte,reduceCtorEq,Nat.reduceEqDiff,Nat.reduceLT,Nat.reduceLeDiff,Nat.reduceBEq,Nat.reduceAdd,fillA,splice,Nat.reduceMul,al0,al1,al2,al3,al4,al5,al6,al7,al8,al9,al10,al11,al12,al13,al14,al15,al16,al17,al18,al19,al20,al21,al22,al23,al24,al25,al26,al27,al28,al29,al30,al31,al32,al33,al34,amY,op_eqP, h1]
  | false =>
    have gB : getC B A.length 0 = some [I r.2.1.1, I r.2.1.2] := by rw [← hB]; exact getC_new A 0 _
    have lB : B.length = A.length + 1 := by rw [← hB]; simp
    have gC : getC C A.length 0 = some [I r.2.1.1, I r.2.1.2] := kC.getC gB (by omega) (by simp)
    have gD : getC D A.length 0 = some [I r.2.1.1, I r.2.1.2] := by rw [← hD]; exact getC_app gC
    have gD2 : getC D C.length 0 = some [I r.2.1.1, I r.2.1.2] := by rw [← hD]; exact getC_new C 0 _
    have kAB : KeepD A.length [] A B := ⟨by omega, fun id h1 _ => by rw [← hB, List.getElem?_append_left h1]⟩
    have kCD : KeepD C.length [] C D := ⟨by rw [← hD]; simp, fun id h1 _ => by rw [← hD, List.getElem?_append_left h1]⟩
    have r1 := (((aA.d kAB).d kC).d kCD).rd
    have r2 := (aC.d kCD).rd
    have hsame := same_fun hS 0 r1 r2 (by omega)
    refine ⟨_, callW_fn (c := s_gnomonlaw03_TokenLexes) hT (r := (bl true, D)) (by simp [s_gnomonlaw03_TokenLexes]) ?_⟩
    simp only [I] at eA eC hB hD gD gD2
    simp only [s_gnomonlaw03_TokenLexes, a_gnomonlaw03_TokenLexes, am0,am1,am2,am3,am4,am5,am6,am7,bl,i64,reduceIte,reduceCtorEq,Nat.reduceEqDiff,Nat.reduceLT,Nat.reduceLeDiff,Nat.reduceBEq,Nat.reduceAdd,fillA,splice,Nat.reduceMul,al0,al1,al2,al3,al4,al5,al6,al7,al8,al9,al10,al11,al12,al13,al14,al15,al16,al17,al18,al19,al20,al21,al22,al23,al24,al25,al26,al27,al28,al29,al30,al31,al32,al33,al34,amY,op_eqP, h1, eA, eC, hB, hD, Nat.zero_le, hsame, gD, gD2, spot_eq, hx, beq_self_eq_true, Bool.and_self]
end
end Go.Proofs.YtfnkpedipicjnaaDoor
