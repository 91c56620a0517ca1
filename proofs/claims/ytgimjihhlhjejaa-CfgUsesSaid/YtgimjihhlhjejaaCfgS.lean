/- Functions of the given program, their rows told as expressions. -/
import Derived.Test.YtgimjihhlhjejaaAmL
import Derived.KernelRfl
import Derived.Test.YtgimjihhlhjejaaProg
set_option linter.all false
set_option maxRecDepth 100000
namespace Go.Proofs.Ytgimjihhlhjejaa
open Go.AM

/- 3 gnomon/gnomonlaw10.CfgUses -/
abbrev k_gnomonlaw10_CfgUses : Nat := 3
def s_gnomonlaw10_CfgUses_r0_k : List Nat := [0, 2, 3, 4, 5, 6, 7, 8, 9, 10, 11, 12, 13, 14, 15, 16, 17, 18, 19, 20, 21, 22, 23, 24, 25, 26, 27, 28, 29, 30, 31, 32, 33, 34, 35, 36, 37, 38, 39, 40, 41, 42, 43, 44, 45, 46, 47]
theorem s_gnomonlaw10_CfgUses_r0_k_kA0 : s_gnomonlaw10_CfgUses_r0_k.contains 0 = true := by kernel_rfl
theorem s_gnomonlaw10_CfgUses_r0_k_kA1 : s_gnomonlaw10_CfgUses_r0_k.contains 1 = false := by kernel_rfl
theorem s_gnomonlaw10_CfgUses_r0_k_kA2 : s_gnomonlaw10_CfgUses_r0_k.contains 2 = true := by kernel_rfl
def s_gnomonlaw10_CfgUses_r0t1 : List AOper := [⟨some 2, (.move (.c (.s (.bool false)))), none⟩]
def s_gnomonlaw10_CfgUses_r0p0 : List AOper := [⟨some 1, (.box (.t 0)), none⟩]
def s_gnomonlaw10_CfgUses_r0 : List AOper := s_gnomonlaw10_CfgUses_r0p0 ++ s_gnomonlaw10_CfgUses_r0t1
def s_gnomonlaw10_CfgUses_r0p0_k : List Nat := [0, 2, 3, 4, 5, 6, 7, 8, 9, 10, 11, 12, 13, 14, 15, 16, 17, 18, 19, 20, 21, 22, 23, 24, 25, 26, 27, 28, 29, 30, 31, 32, 33, 34, 35, 36, 37, 38, 39, 40, 41, 42, 43, 44, 45, 46, 47]
theorem s_gnomonlaw10_CfgUses_r0p0_k_kA0 : s_gnomonlaw10_CfgUses_r0p0_k.contains 0 = true := by kernel_rfl
theorem s_gnomonlaw10_CfgUses_r0p0_k_kA1 : s_gnomonlaw10_CfgUses_r0p0_k.contains 1 = false := by kernel_rfl
theorem s_gnomonlaw10_CfgUses_r0p0_k_kA2 : s_gnomonlaw10_CfgUses_r0p0_k.contains 2 = true := by kernel_rfl
theorem s_gnomonlaw10_CfgUses_r0_x (call : CallF) (it : IterF) (base : Nat) (f : List V) (H : Heap) : evC call it base (.region s_gnomonlaw10_CfgUses_r0 [] s_gnomonlaw10_CfgUses_r0_k) f H = thenC call it base (.region s_gnomonlaw10_CfgUses_r0t1 [] s_gnomonlaw10_CfgUses_r0_k) (opsC [] s_gnomonlaw10_CfgUses_r0p0 s_gnomonlaw10_CfgUses_r0p0_k (evOps call base [⟨some 1, (.box (.t 0)), none⟩] f H)) := (row_op call it base s_gnomonlaw10_CfgUses_r0p0 s_gnomonlaw10_CfgUses_r0t1 (kc := s_gnomonlaw10_CfgUses_r0p0_k) (by kernel_rfl) f H).trans (by rw [row_ops]; rfl)
theorem s_gnomonlaw10_CfgUses_r0t1_tale (fr : List V) (H : Heap) : evTale (symAll s_gnomonlaw10_CfgUses_r0t1 s_gnomonlaw10_CfgUses_r0_k []) s_gnomonlaw10_CfgUses_r0_k fr H = evTale (some (3, [], [])) s_gnomonlaw10_CfgUses_r0_k fr H := tale_row (items := [.cc (.s (.bool false))]) (by kernel_rfl) fr H
theorem s_gnomonlaw10_CfgUses_r0t1_x (call : CallF) (it : IterF) (base : Nat) (f : List V) (H : Heap) : evC call it base (.region s_gnomonlaw10_CfgUses_r0t1 [] s_gnomonlaw10_CfgUses_r0_k) f H = segL H (evTale (symAll s_gnomonlaw10_CfgUses_r0t1 s_gnomonlaw10_CfgUses_r0_k []) s_gnomonlaw10_CfgUses_r0_k f H) (origRow call it base s_gnomonlaw10_CfgUses_r0t1 s_gnomonlaw10_CfgUses_r0_k f H) := row_last call it base _ f H
def s_gnomonlaw10_CfgUses_r1 : List AOper := [
  ⟨some 7, (.fieldAddr 6 (.t 1)), none⟩,
  ⟨some 8, (.load false 1 (.t 7)), none⟩,
  ⟨some 9, (.lenS .s (.t 8)), none⟩,
  ⟨some 10, (.bin .gtr (.t 9) (.c (.s (.int .i64 100)))), none⟩]
theorem s_gnomonlaw10_CfgUses_r1_tale (fr : List V) (H : Heap) : evTale (symAll s_gnomonlaw10_CfgUses_r1 [7, 8, 9] [10]) [7, 8, 9] fr H = evTale (some (11, [], [(10, (.op (.bin .gtr (.t 0) (.c (.s (.int .i64 100)))) [(.op (.lenS .s (.t 0)) [(.op (.load false 1 (.t 0)) [(.op (.fieldAddr 6 (.t 0)) [(.t 1)])])]), (.c (.s (.int .i64 100)))]))])) [7, 8, 9] fr H := tale_row (items := [.sub 0 [0, 0, 0] [], .sub 0 [0, 0] [], .sub 0 [0] [], .sub 0 [] []]) (by kernel_rfl) fr H
def s_gnomonlaw10_CfgUses_r2 : List AOper := [
  ⟨some 2, (.move (.c (.s (.bool true)))), none⟩]
theorem s_gnomonlaw10_CfgUses_r2_tale (fr : List V) (H : Heap) : evTale (symAll s_gnomonlaw10_CfgUses_r2 [1, 10] [2]) [1, 10] fr H = evTale (some (3, [], [(2, (.c (.s (.bool true))))])) [1, 10] fr H := tale_row (items := [.cc (.s (.bool true))]) (by kernel_rfl) fr H
def s_gnomonlaw10_CfgUses_r3t2 : List AOper := [⟨none, (.store 8 (.t 3) (.t 11)), none⟩]
def s_gnomonlaw10_CfgUses_r3p1 : List AOper := [⟨some 3, (.alloc [(.s (.int .u8 0)), (.s (.string ⟨#[]⟩)), (.s (.string ⟨#[]⟩)), (.s (.string ⟨#[]⟩)), (.s (.int .i64 0)), (.s (.string ⟨#[]⟩)), (.s (.slice none 0 0)), (.s (.slice none 0 0))]), none⟩]
def s_gnomonlaw10_CfgUses_r3t1 : List AOper := s_gnomonlaw10_CfgUses_r3p1 ++ s_gnomonlaw10_CfgUses_r3t2
def s_gnomonlaw10_CfgUses_r3p0 : List AOper := [⟨some 11, (.load true 8 (.t 1)), none⟩]
def s_gnomonlaw10_CfgUses_r3 : List AOper := s_gnomonlaw10_CfgUses_r3p0 ++ s_gnomonlaw10_CfgUses_r3t1
theorem s_gnomonlaw10_CfgUses_r3p0_tale (fr : List V) (H : Heap) : evTale (symAll s_gnomonlaw10_CfgUses_r3p0 [10] [11]) [10] fr H = evTale (some (12, [], [(11, (.op (.load true 8 (.t 0)) [(.t 1)]))])) [10] fr H := tale_row (items := [.sub 0 [] []]) (by kernel_rfl) fr H
theorem s_gnomonlaw10_CfgUses_r3_x (call : CallF) (it : IterF) (base : Nat) (f : List V) (H : Heap) : evC call it base (.region s_gnomonlaw10_CfgUses_r3 [] [10, 11]) f H = segC call it base s_gnomonlaw10_CfgUses_r3t1 [10, 11] H (evTale (symAll s_gnomonlaw10_CfgUses_r3p0 [10] [11]) [10] f H) (origRow call it base s_gnomonlaw10_CfgUses_r3 [10, 11] f H) := row_seg call it base s_gnomonlaw10_CfgUses_r3p0 s_gnomonlaw10_CfgUses_r3t1 (by kernel_rfl) f H
theorem s_gnomonlaw10_CfgUses_r3t1_x (call : CallF) (it : IterF) (base : Nat) (f : List V) (H : Heap) : evC call it base (.region s_gnomonlaw10_CfgUses_r3t1 [] [10, 11]) f H = thenC call it base (.region s_gnomonlaw10_CfgUses_r3t2 [] [10, 11]) (opsC [] s_gnomonlaw10_CfgUses_r3p1 [] (evOps call base [⟨some 3, (.alloc [(.s (.int .u8 0)), (.s (.string ⟨#[]⟩)), (.s (.string ⟨#[]⟩)), (.s (.string ⟨#[]⟩)), (.s (.int .i64 0)), (.s (.string ⟨#[]⟩)), (.s (.slice none 0 0)), (.s (.slice none 0 0))]), none⟩] f H)) := (row_op call it base s_gnomonlaw10_CfgUses_r3p1 s_gnomonlaw10_CfgUses_r3t2 (kc := []) (by kernel_rfl) f H).trans (by rw [row_ops]; rfl)
theorem s_gnomonlaw10_CfgUses_r3t2_x (call : CallF) (it : IterF) (base : Nat) (f : List V) (H : Heap) : evC call it base (.region s_gnomonlaw10_CfgUses_r3t2 [] [10, 11]) f H = opsC [] s_gnomonlaw10_CfgUses_r3t2 [10, 11] (evOps call base [⟨none, (.store 8 (.t 3) (.t 11)), none⟩] f H) := row_ops call it base _ _ _ f H
def s_gnomonlaw10_CfgUses_r4t4 : List AOper := [⟨none, (.store 1 (.t 16) (.t 15)), none⟩]
def s_gnomonlaw10_CfgUses_r4p3 : List AOper := [⟨some 16, (.fieldAddr 6 (.t 3)), none⟩]
def s_gnomonlaw10_CfgUses_r4t3 : List AOper := s_gnomonlaw10_CfgUses_r4p3 ++ s_gnomonlaw10_CfgUses_r4t4
def s_gnomonlaw10_CfgUses_r4p2 : List AOper := [⟨some 15, (.append 1 16 (.t 12) (.t 14)), none⟩]
def s_gnomonlaw10_CfgUses_r4t2 : List AOper := s_gnomonlaw10_CfgUses_r4p2 ++ s_gnomonlaw10_CfgUses_r4t3
def s_gnomonlaw10_CfgUses_r4p1 : List AOper := [⟨some 13, (.fieldAddr 6 (.t 1)), none⟩, ⟨some 14, (.load false 1 (.t 13)), none⟩]
def s_gnomonlaw10_CfgUses_r4t1 : List AOper := s_gnomonlaw10_CfgUses_r4p1 ++ s_gnomonlaw10_CfgUses_r4t2
def s_gnomonlaw10_CfgUses_r4p0 : List AOper := [⟨some 12, (.buildSl 1 0 [] []), none⟩]
def s_gnomonlaw10_CfgUses_r4 : List AOper := s_gnomonlaw10_CfgUses_r4p0 ++ s_gnomonlaw10_CfgUses_r4t1
theorem s_gnomonlaw10_CfgUses_r4_x (call : CallF) (it : IterF) (base : Nat) (f : List V) (H : Heap) : evC call it base (.region s_gnomonlaw10_CfgUses_r4 [] [12, 13, 14, 15, 16]) f H = thenC call it base (.region s_gnomonlaw10_CfgUses_r4t1 [] [12, 13, 14, 15, 16]) (opsC [] s_gnomonlaw10_CfgUses_r4p0 [] (evOps call base [⟨some 12, (.buildSl 1 0 [] []), none⟩] f H)) := (row_op call it base s_gnomonlaw10_CfgUses_r4p0 s_gnomonlaw10_CfgUses_r4t1 (kc := []) (by kernel_rfl) f H).trans (by rw [row_ops]; rfl)
theorem s_gnomonlaw10_CfgUses_r4p1_tale (fr : List V) (H : Heap) : evTale (symAll s_gnomonlaw10_CfgUses_r4p1 [13] [14]) [13] fr H = evTale (some (15, [], [(14, (.op (.load false 1 (.t 0)) [(.op (.fieldAddr 6 (.t 0)) [(.t 1)])]))])) [13] fr H := tale_row (items := [.sub 0 [0] [], .sub 0 [] []]) (by kernel_rfl) fr H
theorem s_gnomonlaw10_CfgUses_r4t1_x (call : CallF) (it : IterF) (base : Nat) (f : List V) (H : Heap) : evC call it base (.region s_gnomonlaw10_CfgUses_r4t1 [] [12, 13, 14, 15, 16]) f H = segC call it base s_gnomonlaw10_CfgUses_r4t2 [12, 13, 14, 15, 16] H (evTale (symAll s_gnomonlaw10_CfgUses_r4p1 [13] [14]) [13] f H) (origRow call it base s_gnomonlaw10_CfgUses_r4t1 [12, 13, 14, 15, 16] f H) := row_seg call it base s_gnomonlaw10_CfgUses_r4p1 s_gnomonlaw10_CfgUses_r4t2 (by kernel_rfl) f H
theorem s_gnomonlaw10_CfgUses_r4t2_x (call : CallF) (it : IterF) (base : Nat) (f : List V) (H : Heap) : evC call it base (.region s_gnomonlaw10_CfgUses_r4t2 [] [12, 13, 14, 15, 16]) f H = thenC call it base (.region s_gnomonlaw10_CfgUses_r4t3 [] [12, 13, 14, 15, 16]) (opsC [] s_gnomonlaw10_CfgUses_r4p2 [12, 14] (evOps call base [⟨some 15, (.append 1 16 (.t 12) (.t 14)), none⟩] f H)) := (row_op call it base s_gnomonlaw10_CfgUses_r4p2 s_gnomonlaw10_CfgUses_r4t3 (kc := [12, 14]) (by kernel_rfl) f H).trans (by rw [row_ops]; rfl)
theorem s_gnomonlaw10_CfgUses_r4p3_tale (fr : List V) (H : Heap) : evTale (symAll s_gnomonlaw10_CfgUses_r4p3 [] [16]) [] fr H = evTale (some (17, [], [(16, (.op (.fieldAddr 6 (.t 0)) [(.t 3)]))])) [] fr H := tale_row (items := [.sub 0 [] []]) (by kernel_rfl) fr H
theorem s_gnomonlaw10_CfgUses_r4t3_x (call : CallF) (it : IterF) (base : Nat) (f : List V) (H : Heap) : evC call it base (.region s_gnomonlaw10_CfgUses_r4t3 [] [12, 13, 14, 15, 16]) f H = segC call it base s_gnomonlaw10_CfgUses_r4t4 [12, 13, 14, 15, 16] H (evTale (symAll s_gnomonlaw10_CfgUses_r4p3 [] [16]) [] f H) (origRow call it base s_gnomonlaw10_CfgUses_r4t3 [12, 13, 14, 15, 16] f H) := row_seg call it base s_gnomonlaw10_CfgUses_r4p3 s_gnomonlaw10_CfgUses_r4t4 (by kernel_rfl) f H
theorem s_gnomonlaw10_CfgUses_r4t4_x (call : CallF) (it : IterF) (base : Nat) (f : List V) (H : Heap) : evC call it base (.region s_gnomonlaw10_CfgUses_r4t4 [] [12, 13, 14, 15, 16]) f H = opsC [] s_gnomonlaw10_CfgUses_r4t4 [12, 13, 14, 15, 16] (evOps call base [⟨none, (.store 1 (.t 16) (.t 15)), none⟩] f H) := row_ops call it base _ _ _ f H
def s_gnomonlaw10_CfgUses_r5t2 : List AOper := [⟨some 4, (.move (.t 18)), none⟩]
def s_gnomonlaw10_CfgUses_r5p1 : List AOper := [⟨some 18, (.call (.c (.fn 8 [] [])) [(.t 17)]), none⟩]
def s_gnomonlaw10_CfgUses_r5t1 : List AOper := s_gnomonlaw10_CfgUses_r5p1 ++ s_gnomonlaw10_CfgUses_r5t2
def s_gnomonlaw10_CfgUses_r5p0 : List AOper := [⟨some 17, (.load true 8 (.t 3)), none⟩]
def s_gnomonlaw10_CfgUses_r5 : List AOper := s_gnomonlaw10_CfgUses_r5p0 ++ s_gnomonlaw10_CfgUses_r5t1
theorem s_gnomonlaw10_CfgUses_r5p0_tale (fr : List V) (H : Heap) : evTale (symAll s_gnomonlaw10_CfgUses_r5p0 [] [17]) [] fr H = evTale (some (18, [], [(17, (.op (.load true 8 (.t 0)) [(.t 3)]))])) [] fr H := tale_row (items := [.sub 0 [] []]) (by kernel_rfl) fr H
theorem s_gnomonlaw10_CfgUses_r5_x (call : CallF) (it : IterF) (base : Nat) (f : List V) (H : Heap) : evC call it base (.region s_gnomonlaw10_CfgUses_r5 [] [17, 18]) f H = segC call it base s_gnomonlaw10_CfgUses_r5t1 [17, 18] H (evTale (symAll s_gnomonlaw10_CfgUses_r5p0 [] [17]) [] f H) (origRow call it base s_gnomonlaw10_CfgUses_r5 [17, 18] f H) := row_seg call it base s_gnomonlaw10_CfgUses_r5p0 s_gnomonlaw10_CfgUses_r5t1 (by kernel_rfl) f H
theorem s_gnomonlaw10_CfgUses_r5t1_x (call : CallF) (it : IterF) (base : Nat) (f : List V) (H : Heap) : evC call it base (.region s_gnomonlaw10_CfgUses_r5t1 [] [17, 18]) f H = thenC call it base (.region s_gnomonlaw10_CfgUses_r5t2 [] [17, 18]) (opsC [] s_gnomonlaw10_CfgUses_r5p1 [17] (evOps call base [⟨some 18, (.call (.c (.fn 8 [] [])) [(.t 17)]), none⟩] f H)) := (row_op call it base s_gnomonlaw10_CfgUses_r5p1 s_gnomonlaw10_CfgUses_r5t2 (kc := [17]) (by kernel_rfl) f H).trans (by rw [row_ops]; rfl)
theorem s_gnomonlaw10_CfgUses_r5t2_tale (fr : List V) (H : Heap) : evTale (symAll s_gnomonlaw10_CfgUses_r5t2 [17, 18] [4]) [17, 18] fr H = evTale (some (5, [], [(4, (.t 18))])) [17, 18] fr H := tale_row (items := [.tt 18]) (by kernel_rfl) fr H
theorem s_gnomonlaw10_CfgUses_r5t2_x (call : CallF) (it : IterF) (base : Nat) (f : List V) (H : Heap) : evC call it base (.region s_gnomonlaw10_CfgUses_r5t2 [] [17, 18]) f H = segL H (evTale (symAll s_gnomonlaw10_CfgUses_r5t2 [17, 18] [4]) [17, 18] f H) (origRow call it base s_gnomonlaw10_CfgUses_r5t2 [17, 18] f H) := row_last call it base _ f H
def s_gnomonlaw10_CfgUses_r6t2 : List AOper := [⟨some 5, (.move (.t 20)), none⟩]
def s_gnomonlaw10_CfgUses_r6p1 : List AOper := [⟨some 20, (.call (.c (.fn 9 [] [])) [(.t 19)]), none⟩]
def s_gnomonlaw10_CfgUses_r6t1 : List AOper := s_gnomonlaw10_CfgUses_r6p1 ++ s_gnomonlaw10_CfgUses_r6t2
def s_gnomonlaw10_CfgUses_r6p0 : List AOper := [⟨some 19, (.load true 8 (.t 1)), none⟩]
def s_gnomonlaw10_CfgUses_r6 : List AOper := s_gnomonlaw10_CfgUses_r6p0 ++ s_gnomonlaw10_CfgUses_r6t1
theorem s_gnomonlaw10_CfgUses_r6p0_tale (fr : List V) (H : Heap) : evTale (symAll s_gnomonlaw10_CfgUses_r6p0 [] [19]) [] fr H = evTale (some (20, [], [(19, (.op (.load true 8 (.t 0)) [(.t 1)]))])) [] fr H := tale_row (items := [.sub 0 [] []]) (by kernel_rfl) fr H
theorem s_gnomonlaw10_CfgUses_r6_x (call : CallF) (it : IterF) (base : Nat) (f : List V) (H : Heap) : evC call it base (.region s_gnomonlaw10_CfgUses_r6 [] [19, 20]) f H = segC call it base s_gnomonlaw10_CfgUses_r6t1 [19, 20] H (evTale (symAll s_gnomonlaw10_CfgUses_r6p0 [] [19]) [] f H) (origRow call it base s_gnomonlaw10_CfgUses_r6 [19, 20] f H) := row_seg call it base s_gnomonlaw10_CfgUses_r6p0 s_gnomonlaw10_CfgUses_r6t1 (by kernel_rfl) f H
theorem s_gnomonlaw10_CfgUses_r6t1_x (call : CallF) (it : IterF) (base : Nat) (f : List V) (H : Heap) : evC call it base (.region s_gnomonlaw10_CfgUses_r6t1 [] [19, 20]) f H = thenC call it base (.region s_gnomonlaw10_CfgUses_r6t2 [] [19, 20]) (opsC [] s_gnomonlaw10_CfgUses_r6p1 [19] (evOps call base [⟨some 20, (.call (.c (.fn 9 [] [])) [(.t 19)]), none⟩] f H)) := (row_op call it base s_gnomonlaw10_CfgUses_r6p1 s_gnomonlaw10_CfgUses_r6t2 (kc := [19]) (by kernel_rfl) f H).trans (by rw [row_ops]; rfl)
theorem s_gnomonlaw10_CfgUses_r6t2_tale (fr : List V) (H : Heap) : evTale (symAll s_gnomonlaw10_CfgUses_r6t2 [19, 20] [5]) [19, 20] fr H = evTale (some (6, [], [(5, (.t 20))])) [19, 20] fr H := tale_row (items := [.tt 20]) (by kernel_rfl) fr H
theorem s_gnomonlaw10_CfgUses_r6t2_x (call : CallF) (it : IterF) (base : Nat) (f : List V) (H : Heap) : evC call it base (.region s_gnomonlaw10_CfgUses_r6t2 [] [19, 20]) f H = segL H (evTale (symAll s_gnomonlaw10_CfgUses_r6t2 [19, 20] [5]) [19, 20] f H) (origRow call it base s_gnomonlaw10_CfgUses_r6t2 [19, 20] f H) := row_last call it base _ f H
def s_gnomonlaw10_CfgUses_r7t4 : List AOper := [⟨some 30, (.un .not (.t 29)), some (26, false)⟩, ⟨some 31, (.pick (.t 26) (.c (.s (.bool true))) (.t 30)), none⟩]
def s_gnomonlaw10_CfgUses_r7p3 : List AOper := [⟨some 29, (.call (.c (.fn 10 [] [])) [(.t 27), (.t 28)]), some (26, false)⟩]
def s_gnomonlaw10_CfgUses_r7t3 : List AOper := s_gnomonlaw10_CfgUses_r7p3 ++ s_gnomonlaw10_CfgUses_r7t4
def s_gnomonlaw10_CfgUses_r7p2 : List AOper := [⟨some 28, (.load true 8 (.t 1)), some (26, false)⟩]
def s_gnomonlaw10_CfgUses_r7t2 : List AOper := s_gnomonlaw10_CfgUses_r7p2 ++ s_gnomonlaw10_CfgUses_r7t3
def s_gnomonlaw10_CfgUses_r7p1 : List AOper := [⟨some 27, (.load true 8 (.t 3)), some (26, false)⟩]
def s_gnomonlaw10_CfgUses_r7t1 : List AOper := s_gnomonlaw10_CfgUses_r7p1 ++ s_gnomonlaw10_CfgUses_r7t2
def s_gnomonlaw10_CfgUses_r7p0 : List AOper := [⟨some 21, (.move (.t 4)), none⟩, ⟨some 22, (.lenS .s (.t 21)), none⟩, ⟨some 23, (.move (.t 5)), none⟩, ⟨some 24, (.lenS .s (.t 23)), none⟩, ⟨some 25, (.bin .neq (.t 22) (.t 24)), none⟩, ⟨some 26, (.move (.t 25)), none⟩]
def s_gnomonlaw10_CfgUses_r7 : List AOper := s_gnomonlaw10_CfgUses_r7p0 ++ s_gnomonlaw10_CfgUses_r7t1
theorem s_gnomonlaw10_CfgUses_r7p0_tale (fr : List V) (H : Heap) : evTale (symAll s_gnomonlaw10_CfgUses_r7p0 [21, 22, 23, 24, 25] [26]) [21, 22, 23, 24, 25] fr H = evTale (some (27, [], [(26, (.op (.bin .neq (.t 0) (.t 1)) [(.op (.lenS .s (.t 0)) [(.t 4)]), (.op (.lenS .s (.t 0)) [(.t 5)])]))])) [21, 22, 23, 24, 25] fr H := tale_row (items := [.tt 4, .sub 0 [0] [], .tt 5, .sub 0 [1] [], .sub 0 [] [], .sub 0 [] []]) (by kernel_rfl) fr H
theorem s_gnomonlaw10_CfgUses_r7_x (call : CallF) (it : IterF) (base : Nat) (f : List V) (H : Heap) : evC call it base (.region s_gnomonlaw10_CfgUses_r7 [] [1, 3, 21, 22, 23, 24, 25, 26, 27, 28, 29, 30]) f H = segC call it base s_gnomonlaw10_CfgUses_r7t1 [1, 3, 21, 22, 23, 24, 25, 26, 27, 28, 29, 30] H (evTale (symAll s_gnomonlaw10_CfgUses_r7p0 [21, 22, 23, 24, 25] [26]) [21, 22, 23, 24, 25] f H) (origRow call it base s_gnomonlaw10_CfgUses_r7 [1, 3, 21, 22, 23, 24, 25, 26, 27, 28, 29, 30] f H) := row_seg call it base s_gnomonlaw10_CfgUses_r7p0 s_gnomonlaw10_CfgUses_r7t1 (by kernel_rfl) f H
theorem s_gnomonlaw10_CfgUses_r7t1_x (call : CallF) (it : IterF) (base : Nat) (f : List V) (H : Heap) : evC call it base (.region s_gnomonlaw10_CfgUses_r7t1 [] [1, 3, 21, 22, 23, 24, 25, 26, 27, 28, 29, 30]) f H = thenC call it base (.region s_gnomonlaw10_CfgUses_r7t2 [] [1, 3, 21, 22, 23, 24, 25, 26, 27, 28, 29, 30]) (opsC [] s_gnomonlaw10_CfgUses_r7p1 [3] (evOps call base [⟨some 27, (.load true 8 (.t 3)), some (26, false)⟩] f H)) := (row_op call it base s_gnomonlaw10_CfgUses_r7p1 s_gnomonlaw10_CfgUses_r7t2 (kc := [3]) (by kernel_rfl) f H).trans (by rw [row_ops]; rfl)
theorem s_gnomonlaw10_CfgUses_r7t2_x (call : CallF) (it : IterF) (base : Nat) (f : List V) (H : Heap) : evC call it base (.region s_gnomonlaw10_CfgUses_r7t2 [] [1, 3, 21, 22, 23, 24, 25, 26, 27, 28, 29, 30]) f H = thenC call it base (.region s_gnomonlaw10_CfgUses_r7t3 [] [1, 3, 21, 22, 23, 24, 25, 26, 27, 28, 29, 30]) (opsC [] s_gnomonlaw10_CfgUses_r7p2 [1] (evOps call base [⟨some 28, (.load true 8 (.t 1)), some (26, false)⟩] f H)) := (row_op call it base s_gnomonlaw10_CfgUses_r7p2 s_gnomonlaw10_CfgUses_r7t3 (kc := [1]) (by kernel_rfl) f H).trans (by rw [row_ops]; rfl)
theorem s_gnomonlaw10_CfgUses_r7t3_x (call : CallF) (it : IterF) (base : Nat) (f : List V) (H : Heap) : evC call it base (.region s_gnomonlaw10_CfgUses_r7t3 [] [1, 3, 21, 22, 23, 24, 25, 26, 27, 28, 29, 30]) f H = thenC call it base (.region s_gnomonlaw10_CfgUses_r7t4 [] [1, 3, 21, 22, 23, 24, 25, 26, 27, 28, 29, 30]) (opsC [] s_gnomonlaw10_CfgUses_r7p3 [27, 28] (evOps call base [⟨some 29, (.call (.c (.fn 10 [] [])) [(.t 27), (.t 28)]), some (26, false)⟩] f H)) := (row_op call it base s_gnomonlaw10_CfgUses_r7p3 s_gnomonlaw10_CfgUses_r7t4 (kc := [27, 28]) (by kernel_rfl) f H).trans (by rw [row_ops]; rfl)
theorem s_gnomonlaw10_CfgUses_r7t4_tale (fr : List V) (H : Heap) : evTale (symAll s_gnomonlaw10_CfgUses_r7t4 [1, 3, 21, 22, 23, 24, 25, 26, 27, 28, 29, 30] [31]) [1, 3, 21, 22, 23, 24, 25, 26, 27, 28, 29, 30] fr H = evTale (some (32, [], [(31, (.pick (.t 26) (.c (.s (.bool true))) (.op (.un .not (.t 0)) [(.t 29)])))])) [1, 3, 21, 22, 23, 24, 25, 26, 27, 28, 29, 30] fr H := tale_row (items := [.sub 0 [2] [26], .sub 0 [] []]) (by kernel_rfl) fr H
theorem s_gnomonlaw10_CfgUses_r7t4_x (call : CallF) (it : IterF) (base : Nat) (f : List V) (H : Heap) : evC call it base (.region s_gnomonlaw10_CfgUses_r7t4 [] [1, 3, 21, 22, 23, 24, 25, 26, 27, 28, 29, 30]) f H = segL H (evTale (symAll s_gnomonlaw10_CfgUses_r7t4 [1, 3, 21, 22, 23, 24, 25, 26, 27, 28, 29, 30] [31]) [1, 3, 21, 22, 23, 24, 25, 26, 27, 28, 29, 30] f H) (origRow call it base s_gnomonlaw10_CfgUses_r7t4 [1, 3, 21, 22, 23, 24, 25, 26, 27, 28, 29, 30] f H) := row_last call it base _ f H
def s_gnomonlaw10_CfgUses_r8 : List AOper := [
  ⟨some 2, (.move (.c (.s (.bool false)))), none⟩]
theorem s_gnomonlaw10_CfgUses_r8_tale (fr : List V) (H : Heap) : evTale (symAll s_gnomonlaw10_CfgUses_r8 [4, 5, 31] [2]) [4, 5, 31] fr H = evTale (some (3, [], [(2, (.c (.s (.bool false))))])) [4, 5, 31] fr H := tale_row (items := [.cc (.s (.bool false))]) (by kernel_rfl) fr H
def s_gnomonlaw10_CfgUses_r9 : List AOper := [
  ⟨some 6, (.move (.c (.s (.int .i64 0)))), none⟩]
theorem s_gnomonlaw10_CfgUses_r9_tale (fr : List V) (H : Heap) : evTale (symAll s_gnomonlaw10_CfgUses_r9 [31] [6]) [31] fr H = evTale (some (7, [], [(6, (.c (.s (.int .i64 0))))])) [31] fr H := tale_row (items := [.cc (.s (.int .i64 0))]) (by kernel_rfl) fr H
def s_gnomonlaw10_CfgUses_r10 : List AOper := [
  ⟨some 32, (.move (.t 6)), none⟩,
  ⟨some 33, (.move (.t 4)), none⟩,
  ⟨some 34, (.lenS .s (.t 33)), none⟩,
  ⟨some 35, (.bin .lss (.t 32) (.t 34)), none⟩]
theorem s_gnomonlaw10_CfgUses_r10_tale (fr : List V) (H : Heap) : evTale (symAll s_gnomonlaw10_CfgUses_r10 [32, 33, 34] [35]) [32, 33, 34] fr H = evTale (some (36, [], [(35, (.op (.bin .lss (.t 0) (.t 1)) [(.t 6), (.op (.lenS .s (.t 0)) [(.t 4)])]))])) [32, 33, 34] fr H := tale_row (items := [.tt 6, .tt 4, .sub 0 [1] [], .sub 0 [] []]) (by kernel_rfl) fr H
def s_gnomonlaw10_CfgUses_r11 : List AOper := [
  ⟨some 38, (.move (.t 4)), none⟩,
  ⟨some 39, (.move (.t 6)), none⟩,
  ⟨some 40, (.indexAddr 1 (.t 38) (.t 39)), none⟩,
  ⟨some 41, (.load false 1 (.t 40)), none⟩,
  ⟨some 42, (.move (.t 5)), none⟩,
  ⟨some 43, (.move (.t 6)), none⟩,
  ⟨some 44, (.indexAddr 1 (.t 42) (.t 43)), none⟩,
  ⟨some 45, (.load false 1 (.t 44)), none⟩,
  ⟨some 46, (.bin .neq (.t 41) (.t 45)), none⟩]
theorem s_gnomonlaw10_CfgUses_r11_tale (fr : List V) (H : Heap) : evTale (symAll s_gnomonlaw10_CfgUses_r11 [35, 38, 39, 40, 41, 42, 43, 44, 45] [46]) [35, 38, 39, 40, 41, 42, 43, 44, 45] fr H = evTale (some (47, [], [(46, (.op (.bin .neq (.t 0) (.t 1)) [(.op (.load false 1 (.t 0)) [(.op (.indexAddr 1 (.t 0) (.t 1)) [(.t 4), (.t 6)])]), (.op (.load false 1 (.t 0)) [(.op (.indexAddr 1 (.t 0) (.t 1)) [(.t 5), (.t 6)])])]))])) [35, 38, 39, 40, 41, 42, 43, 44, 45] fr H := tale_row (items := [.tt 4, .tt 6, .sub 0 [0, 0] [], .sub 0 [0] [], .tt 5, .tt 6, .sub 0 [1, 0] [], .sub 0 [1] [], .sub 0 [] []]) (by kernel_rfl) fr H
def s_gnomonlaw10_CfgUses_r12 : List AOper := [
  ⟨some 2, (.move (.c (.s (.bool false)))), none⟩]
theorem s_gnomonlaw10_CfgUses_r12_tale (fr : List V) (H : Heap) : evTale (symAll s_gnomonlaw10_CfgUses_r12 [4, 5, 6, 46] [2]) [4, 5, 6, 46] fr H = evTale (some (3, [], [(2, (.c (.s (.bool false))))])) [4, 5, 6, 46] fr H := tale_row (items := [.cc (.s (.bool false))]) (by kernel_rfl) fr H
def s_gnomonlaw10_CfgUses_r13 : List AOper := [
  ⟨some 36, (.move (.t 6)), none⟩,
  ⟨some 37, (.bin .add (.t 36) (.c (.s (.int .i64 1)))), none⟩,
  ⟨some 6, (.move (.t 37)), none⟩]
theorem s_gnomonlaw10_CfgUses_r13_tale (fr : List V) (H : Heap) : evTale (symAll s_gnomonlaw10_CfgUses_r13 [36, 37, 46] [6]) [36, 37, 46] fr H = evTale (some (38, [], [(6, (.op (.bin .add (.t 0) (.c (.s (.int .i64 1)))) [(.t 6), (.c (.s (.int .i64 1)))]))])) [36, 37, 46] fr H := tale_row (items := [.tt 6, .sub 0 [] [], .sub 0 [] []]) (by kernel_rfl) fr H
def s_gnomonlaw10_CfgUses_l0_b : ACode :=
  (.seq (.seq (.regionE s_gnomonlaw10_CfgUses_r10 [32, 33, 34] [35])
  (.cond (.t 35)
  .skip
  (.exit 0)))
  (.seq (.block 1
  (.seq (.regionE s_gnomonlaw10_CfgUses_r11 [35, 38, 39, 40, 41, 42, 43, 44, 45] [46])
  (.cond (.t 46)
  (.seq (.regionE s_gnomonlaw10_CfgUses_r12 [4, 5, 6, 46] [2])
  .ret)
  .skip)))
  (.regionE s_gnomonlaw10_CfgUses_r13 [36, 37, 46] [6])))
def s_gnomonlaw10_CfgUses_l0 : ACode := s_gnomonlaw10_CfgUses_l0_b
theorem s_gnomonlaw10_CfgUses_l0_ev (call : CallF) (it : IterF) (base : Nat) (fr : List V) (H : Heap) : evC call it base s_gnomonlaw10_CfgUses_l0 fr H = evC call it base s_gnomonlaw10_CfgUses_l0_b fr H := rfl
def s_gnomonlaw10_CfgUses_r14t1 : List AOper := [⟨some 2, (.move (.t 47)), none⟩]
def s_gnomonlaw10_CfgUses_r14p0 : List AOper := [⟨some 47, (.call (.c (.fn 11 [] [])) []), none⟩]
def s_gnomonlaw10_CfgUses_r14 : List AOper := s_gnomonlaw10_CfgUses_r14p0 ++ s_gnomonlaw10_CfgUses_r14t1
theorem s_gnomonlaw10_CfgUses_r14_x (call : CallF) (it : IterF) (base : Nat) (f : List V) (H : Heap) : evC call it base (.region s_gnomonlaw10_CfgUses_r14 [] [4, 5, 6, 35, 47]) f H = thenC call it base (.region s_gnomonlaw10_CfgUses_r14t1 [] [4, 5, 6, 35, 47]) (opsC [] s_gnomonlaw10_CfgUses_r14p0 [4, 5, 6, 35] (evOps call base [⟨some 47, (.call (.c (.fn 11 [] [])) []), none⟩] f H)) := (row_op call it base s_gnomonlaw10_CfgUses_r14p0 s_gnomonlaw10_CfgUses_r14t1 (kc := [4, 5, 6, 35]) (by kernel_rfl) f H).trans (by rw [row_ops]; rfl)
theorem s_gnomonlaw10_CfgUses_r14t1_tale (fr : List V) (H : Heap) : evTale (symAll s_gnomonlaw10_CfgUses_r14t1 [4, 5, 6, 35, 47] [2]) [4, 5, 6, 35, 47] fr H = evTale (some (3, [], [(2, (.t 47))])) [4, 5, 6, 35, 47] fr H := tale_row (items := [.tt 47]) (by kernel_rfl) fr H
theorem s_gnomonlaw10_CfgUses_r14t1_x (call : CallF) (it : IterF) (base : Nat) (f : List V) (H : Heap) : evC call it base (.region s_gnomonlaw10_CfgUses_r14t1 [] [4, 5, 6, 35, 47]) f H = segL H (evTale (symAll s_gnomonlaw10_CfgUses_r14t1 [4, 5, 6, 35, 47] [2]) [4, 5, 6, 35, 47] f H) (origRow call it base s_gnomonlaw10_CfgUses_r14t1 [4, 5, 6, 35, 47] f H) := row_last call it base _ f H
def s_gnomonlaw10_CfgUses : ACFun := { ntmps := 48, results := [(.tmp 2)], body :=
  (.seq (.region s_gnomonlaw10_CfgUses_r0 [] s_gnomonlaw10_CfgUses_r0_k)
  (.seq (.seq (.regionE s_gnomonlaw10_CfgUses_r1 [7, 8, 9] [10])
  (.cond (.t 10)
  (.seq (.regionE s_gnomonlaw10_CfgUses_r2 [1, 10] [2])
  .ret)
  .skip))
  (.seq (.region s_gnomonlaw10_CfgUses_r3 [] [10, 11])
  (.seq (.region s_gnomonlaw10_CfgUses_r4 [] [12, 13, 14, 15, 16])
  (.seq (.region s_gnomonlaw10_CfgUses_r5 [] [17, 18])
  (.seq (.region s_gnomonlaw10_CfgUses_r6 [] [19, 20])
  (.seq (.seq (.region s_gnomonlaw10_CfgUses_r7 [] [1, 3, 21, 22, 23, 24, 25, 26, 27, 28, 29, 30])
  (.cond (.t 31)
  (.seq (.regionE s_gnomonlaw10_CfgUses_r8 [4, 5, 31] [2])
  .ret)
  .skip))
  (.seq (.seq (.regionE s_gnomonlaw10_CfgUses_r9 [31] [6])
  (.block 0
  (.loop [] s_gnomonlaw10_CfgUses_l0)))
  (.seq (.region s_gnomonlaw10_CfgUses_r14 [] [4, 5, 6, 35, 47])
  .ret))))))))) }
theorem s_gnomonlaw10_CfgUses_first : firstOk (List.range' 1 (s_gnomonlaw10_CfgUses.ntmps - 1)) s_gnomonlaw10_CfgUses.body = true := by kernel_rfl
/- 8 gnomon/cfg.Uses -/
abbrev k_cfg_Uses : Nat := 8
def s_cfg_Uses_r0_k : List Nat := [0, 2, 3, 4, 5, 6, 7, 8, 9, 10, 11]
theorem s_cfg_Uses_r0_k_kA0 : s_cfg_Uses_r0_k.contains 0 = true := by kernel_rfl
theorem s_cfg_Uses_r0_k_kA1 : s_cfg_Uses_r0_k.contains 1 = false := by kernel_rfl
theorem s_cfg_Uses_r0_k_kA2 : s_cfg_Uses_r0_k.contains 2 = true := by kernel_rfl
def s_cfg_Uses_r0t1 : List AOper := [⟨some 2, (.move (.c (.s (.slice none 0 0)))), none⟩]
def s_cfg_Uses_r0p0 : List AOper := [⟨some 1, (.box (.t 0)), none⟩]
def s_cfg_Uses_r0 : List AOper := s_cfg_Uses_r0p0 ++ s_cfg_Uses_r0t1
theorem s_cfg_Uses_r0_x (call : CallF) (it : IterF) (base : Nat) (f : List V) (H : Heap) : evC call it base (.region s_cfg_Uses_r0 [] s_cfg_Uses_r0_k) f H = thenC call it base (.region s_cfg_Uses_r0t1 [] s_cfg_Uses_r0_k) (opsC [] s_cfg_Uses_r0p0 [0, 2, 3, 4, 5, 6, 7, 8, 9, 10, 11] (evOps call base [⟨some 1, (.box (.t 0)), none⟩] f H)) := (row_op call it base s_cfg_Uses_r0p0 s_cfg_Uses_r0t1 (kc := [0, 2, 3, 4, 5, 6, 7, 8, 9, 10, 11]) (by kernel_rfl) f H).trans (by rw [row_ops]; rfl)
theorem s_cfg_Uses_r0t1_tale (fr : List V) (H : Heap) : evTale (symAll s_cfg_Uses_r0t1 s_cfg_Uses_r0_k []) s_cfg_Uses_r0_k fr H = evTale (some (3, [], [])) s_cfg_Uses_r0_k fr H := tale_row (items := [.cc (.s (.slice none 0 0))]) (by kernel_rfl) fr H
theorem s_cfg_Uses_r0t1_x (call : CallF) (it : IterF) (base : Nat) (f : List V) (H : Heap) : evC call it base (.region s_cfg_Uses_r0t1 [] s_cfg_Uses_r0_k) f H = segL H (evTale (symAll s_cfg_Uses_r0t1 s_cfg_Uses_r0_k []) s_cfg_Uses_r0_k f H) (origRow call it base s_cfg_Uses_r0t1 s_cfg_Uses_r0_k f H) := row_last call it base _ f H
def s_cfg_Uses_r1t5 : List AOper := [⟨some 2, (.move (.t 11)), none⟩]
def s_cfg_Uses_r1p4 : List AOper := [⟨some 11, (.call (.c (.fn 19 [] [])) [(.t 10)]), none⟩]
def s_cfg_Uses_r1t4 : List AOper := s_cfg_Uses_r1p4 ++ s_cfg_Uses_r1t5
def s_cfg_Uses_r1p3 : List AOper := [⟨some 10, (.append 1 16 (.t 7) (.t 9)), none⟩]
def s_cfg_Uses_r1t3 : List AOper := s_cfg_Uses_r1p3 ++ s_cfg_Uses_r1t4
def s_cfg_Uses_r1p2 : List AOper := [⟨some 8, (.fieldAddr 6 (.t 1)), none⟩, ⟨some 9, (.load false 1 (.t 8)), none⟩]
def s_cfg_Uses_r1t2 : List AOper := s_cfg_Uses_r1p2 ++ s_cfg_Uses_r1t3
def s_cfg_Uses_r1p1 : List AOper := [⟨some 7, (.buildSl 1 2 [(.s (.string ⟨#[]⟩)), (.s (.string ⟨#[]⟩))] [(0, (.t 4)), (1, (.t 6))]), none⟩]
def s_cfg_Uses_r1t1 : List AOper := s_cfg_Uses_r1p1 ++ s_cfg_Uses_r1t2
def s_cfg_Uses_r1p0 : List AOper := [⟨some 3, (.fieldAddr 2 (.t 1)), none⟩, ⟨some 4, (.load false 1 (.t 3)), none⟩, ⟨some 5, (.fieldAddr 3 (.t 1)), none⟩, ⟨some 6, (.load false 1 (.t 5)), none⟩]
def s_cfg_Uses_r1 : List AOper := s_cfg_Uses_r1p0 ++ s_cfg_Uses_r1t1
theorem s_cfg_Uses_r1p0_tale (fr : List V) (H : Heap) : evTale (symAll s_cfg_Uses_r1p0 [3, 5] [4, 6]) [3, 5] fr H = evTale (some (7, [], [(4, (.op (.load false 1 (.t 0)) [(.op (.fieldAddr 2 (.t 0)) [(.t 1)])])), (6, (.op (.load false 1 (.t 0)) [(.op (.fieldAddr 3 (.t 0)) [(.t 1)])]))])) [3, 5] fr H := tale_row (items := [.sub 0 [0] [], .sub 0 [] [], .sub 1 [0] [], .sub 1 [] []]) (by kernel_rfl) fr H
theorem s_cfg_Uses_r1_x (call : CallF) (it : IterF) (base : Nat) (f : List V) (H : Heap) : evC call it base (.region s_cfg_Uses_r1 [] [1, 3, 4, 5, 6, 7, 8, 9, 10, 11]) f H = segC call it base s_cfg_Uses_r1t1 [1, 3, 4, 5, 6, 7, 8, 9, 10, 11] H (evTale (symAll s_cfg_Uses_r1p0 [3, 5] [4, 6]) [3, 5] f H) (origRow call it base s_cfg_Uses_r1 [1, 3, 4, 5, 6, 7, 8, 9, 10, 11] f H) := row_seg call it base s_cfg_Uses_r1p0 s_cfg_Uses_r1t1 (by kernel_rfl) f H
theorem s_cfg_Uses_r1t1_x (call : CallF) (it : IterF) (base : Nat) (f : List V) (H : Heap) : evC call it base (.region s_cfg_Uses_r1t1 [] [1, 3, 4, 5, 6, 7, 8, 9, 10, 11]) f H = thenC call it base (.region s_cfg_Uses_r1t2 [] [1, 3, 4, 5, 6, 7, 8, 9, 10, 11]) (opsC [] s_cfg_Uses_r1p1 [4, 6] (evOps call base [⟨some 7, (.buildSl 1 2 [(.s (.string ⟨#[]⟩)), (.s (.string ⟨#[]⟩))] [(0, (.t 4)), (1, (.t 6))]), none⟩] f H)) := (row_op call it base s_cfg_Uses_r1p1 s_cfg_Uses_r1t2 (kc := [4, 6]) (by kernel_rfl) f H).trans (by rw [row_ops]; rfl)
theorem s_cfg_Uses_r1p2_tale (fr : List V) (H : Heap) : evTale (symAll s_cfg_Uses_r1p2 [1, 8] [9]) [1, 8] fr H = evTale (some (10, [], [(9, (.op (.load false 1 (.t 0)) [(.op (.fieldAddr 6 (.t 0)) [(.t 1)])]))])) [1, 8] fr H := tale_row (items := [.sub 0 [0] [], .sub 0 [] []]) (by kernel_rfl) fr H
theorem s_cfg_Uses_r1t2_x (call : CallF) (it : IterF) (base : Nat) (f : List V) (H : Heap) : evC call it base (.region s_cfg_Uses_r1t2 [] [1, 3, 4, 5, 6, 7, 8, 9, 10, 11]) f H = segC call it base s_cfg_Uses_r1t3 [1, 3, 4, 5, 6, 7, 8, 9, 10, 11] H (evTale (symAll s_cfg_Uses_r1p2 [1, 8] [9]) [1, 8] f H) (origRow call it base s_cfg_Uses_r1t2 [1, 3, 4, 5, 6, 7, 8, 9, 10, 11] f H) := row_seg call it base s_cfg_Uses_r1p2 s_cfg_Uses_r1t3 (by kernel_rfl) f H
theorem s_cfg_Uses_r1t3_x (call : CallF) (it : IterF) (base : Nat) (f : List V) (H : Heap) : evC call it base (.region s_cfg_Uses_r1t3 [] [1, 3, 4, 5, 6, 7, 8, 9, 10, 11]) f H = thenC call it base (.region s_cfg_Uses_r1t4 [] [1, 3, 4, 5, 6, 7, 8, 9, 10, 11]) (opsC [] s_cfg_Uses_r1p3 [7, 9] (evOps call base [⟨some 10, (.append 1 16 (.t 7) (.t 9)), none⟩] f H)) := (row_op call it base s_cfg_Uses_r1p3 s_cfg_Uses_r1t4 (kc := [7, 9]) (by kernel_rfl) f H).trans (by rw [row_ops]; rfl)
theorem s_cfg_Uses_r1t4_x (call : CallF) (it : IterF) (base : Nat) (f : List V) (H : Heap) : evC call it base (.region s_cfg_Uses_r1t4 [] [1, 3, 4, 5, 6, 7, 8, 9, 10, 11]) f H = thenC call it base (.region s_cfg_Uses_r1t5 [] [1, 3, 4, 5, 6, 7, 8, 9, 10, 11]) (opsC [] s_cfg_Uses_r1p4 [10] (evOps call base [⟨some 11, (.call (.c (.fn 19 [] [])) [(.t 10)]), none⟩] f H)) := (row_op call it base s_cfg_Uses_r1p4 s_cfg_Uses_r1t5 (kc := [10]) (by kernel_rfl) f H).trans (by rw [row_ops]; rfl)
theorem s_cfg_Uses_r1t5_tale (fr : List V) (H : Heap) : evTale (symAll s_cfg_Uses_r1t5 [1, 3, 4, 5, 6, 7, 8, 9, 10, 11] [2]) [1, 3, 4, 5, 6, 7, 8, 9, 10, 11] fr H = evTale (some (3, [], [(2, (.t 11))])) [1, 3, 4, 5, 6, 7, 8, 9, 10, 11] fr H := tale_row (items := [.tt 11]) (by kernel_rfl) fr H
theorem s_cfg_Uses_r1t5_x (call : CallF) (it : IterF) (base : Nat) (f : List V) (H : Heap) : evC call it base (.region s_cfg_Uses_r1t5 [] [1, 3, 4, 5, 6, 7, 8, 9, 10, 11]) f H = segL H (evTale (symAll s_cfg_Uses_r1t5 [1, 3, 4, 5, 6, 7, 8, 9, 10, 11] [2]) [1, 3, 4, 5, 6, 7, 8, 9, 10, 11] f H) (origRow call it base s_cfg_Uses_r1t5 [1, 3, 4, 5, 6, 7, 8, 9, 10, 11] f H) := row_last call it base _ f H
def s_cfg_Uses : ACFun := { ntmps := 12, results := [(.tmp 2)], body :=
  (.seq (.region s_cfg_Uses_r0 [] s_cfg_Uses_r0_k)
  (.seq (.region s_cfg_Uses_r1 [] [1, 3, 4, 5, 6, 7, 8, 9, 10, 11])
  .ret)) }
theorem s_cfg_Uses_first : firstOk (List.range' 1 (s_cfg_Uses.ntmps - 1)) s_cfg_Uses.body = true := by kernel_rfl
/- 9 gnomon/gnomonref05.Uses -/
abbrev k_gnomonref05_Uses : Nat := 9
def s_gnomonref05_Uses_r0_k : List Nat := [0, 2, 3, 4, 5, 6, 7, 8, 9, 10, 11, 12, 13, 14, 15, 16, 17, 18, 19, 20, 21, 22, 23, 24, 25, 26, 27, 28, 29, 30, 31, 32, 33, 34, 35, 36, 37, 38, 39]
theorem s_gnomonref05_Uses_r0_k_kA0 : s_gnomonref05_Uses_r0_k.contains 0 = true := by kernel_rfl
theorem s_gnomonref05_Uses_r0_k_kA1 : s_gnomonref05_Uses_r0_k.contains 1 = false := by kernel_rfl
theorem s_gnomonref05_Uses_r0_k_kA2 : s_gnomonref05_Uses_r0_k.contains 2 = true := by kernel_rfl
def s_gnomonref05_Uses_r0t1 : List AOper := [⟨some 2, (.move (.c (.s (.slice none 0 0)))), none⟩]
def s_gnomonref05_Uses_r0p0 : List AOper := [⟨some 1, (.box (.t 0)), none⟩]
def s_gnomonref05_Uses_r0 : List AOper := s_gnomonref05_Uses_r0p0 ++ s_gnomonref05_Uses_r0t1
theorem s_gnomonref05_Uses_r0_x (call : CallF) (it : IterF) (base : Nat) (f : List V) (H : Heap) : evC call it base (.region s_gnomonref05_Uses_r0 [] s_gnomonref05_Uses_r0_k) f H = thenC call it base (.region s_gnomonref05_Uses_r0t1 [] s_gnomonref05_Uses_r0_k) (opsC [] s_gnomonref05_Uses_r0p0 [0, 2, 3, 4, 5, 6, 7, 8, 9, 10, 11, 12, 13, 14, 15, 16, 17, 18, 19, 20, 21, 22, 23, 24, 25, 26, 27, 28, 29, 30, 31, 32, 33, 34, 35, 36, 37, 38, 39] (evOps call base [⟨some 1, (.box (.t 0)), none⟩] f H)) := (row_op call it base s_gnomonref05_Uses_r0p0 s_gnomonref05_Uses_r0t1 (kc := [0, 2, 3, 4, 5, 6, 7, 8, 9, 10, 11, 12, 13, 14, 15, 16, 17, 18, 19, 20, 21, 22, 23, 24, 25, 26, 27, 28, 29, 30, 31, 32, 33, 34, 35, 36, 37, 38, 39]) (by kernel_rfl) f H).trans (by rw [row_ops]; rfl)
theorem s_gnomonref05_Uses_r0t1_tale (fr : List V) (H : Heap) : evTale (symAll s_gnomonref05_Uses_r0t1 s_gnomonref05_Uses_r0_k []) s_gnomonref05_Uses_r0_k fr H = evTale (some (3, [], [])) s_gnomonref05_Uses_r0_k fr H := tale_row (items := [.cc (.s (.slice none 0 0))]) (by kernel_rfl) fr H
theorem s_gnomonref05_Uses_r0t1_x (call : CallF) (it : IterF) (base : Nat) (f : List V) (H : Heap) : evC call it base (.region s_gnomonref05_Uses_r0t1 [] s_gnomonref05_Uses_r0_k) f H = segL H (evTale (symAll s_gnomonref05_Uses_r0t1 s_gnomonref05_Uses_r0_k []) s_gnomonref05_Uses_r0_k f H) (origRow call it base s_gnomonref05_Uses_r0t1 s_gnomonref05_Uses_r0_k f H) := row_last call it base _ f H
def s_gnomonref05_Uses_r1 : List AOper := [
  ⟨some 3, (.move (.c (.s (.slice none 0 0)))), none⟩]
theorem s_gnomonref05_Uses_r1_tale (fr : List V) (H : Heap) : evTale (symAll s_gnomonref05_Uses_r1 [] [3]) [] fr H = evTale (some (4, [], [(3, (.c (.s (.slice none 0 0))))])) [] fr H := tale_row (items := [.cc (.s (.slice none 0 0))]) (by kernel_rfl) fr H
def s_gnomonref05_Uses_r2t4 : List AOper := [⟨some 4, (.move (.t 13)), none⟩]
def s_gnomonref05_Uses_r2p3 : List AOper := [⟨some 13, (.append 1 16 (.t 10) (.t 12)), none⟩]
def s_gnomonref05_Uses_r2t3 : List AOper := s_gnomonref05_Uses_r2p3 ++ s_gnomonref05_Uses_r2t4
def s_gnomonref05_Uses_r2p2 : List AOper := [⟨some 11, (.fieldAddr 6 (.t 1)), none⟩, ⟨some 12, (.load false 1 (.t 11)), none⟩]
def s_gnomonref05_Uses_r2t2 : List AOper := s_gnomonref05_Uses_r2p2 ++ s_gnomonref05_Uses_r2t3
def s_gnomonref05_Uses_r2p1 : List AOper := [⟨some 10, (.buildSl 1 2 [(.s (.string ⟨#[]⟩)), (.s (.string ⟨#[]⟩))] [(0, (.t 7)), (1, (.t 9))]), none⟩]
def s_gnomonref05_Uses_r2t1 : List AOper := s_gnomonref05_Uses_r2p1 ++ s_gnomonref05_Uses_r2t2
def s_gnomonref05_Uses_r2p0 : List AOper := [⟨some 6, (.fieldAddr 2 (.t 1)), none⟩, ⟨some 7, (.load false 1 (.t 6)), none⟩, ⟨some 8, (.fieldAddr 3 (.t 1)), none⟩, ⟨some 9, (.load false 1 (.t 8)), none⟩]
def s_gnomonref05_Uses_r2 : List AOper := s_gnomonref05_Uses_r2p0 ++ s_gnomonref05_Uses_r2t1
theorem s_gnomonref05_Uses_r2p0_tale (fr : List V) (H : Heap) : evTale (symAll s_gnomonref05_Uses_r2p0 [6, 8] [7, 9]) [6, 8] fr H = evTale (some (10, [], [(7, (.op (.load false 1 (.t 0)) [(.op (.fieldAddr 2 (.t 0)) [(.t 1)])])), (9, (.op (.load false 1 (.t 0)) [(.op (.fieldAddr 3 (.t 0)) [(.t 1)])]))])) [6, 8] fr H := tale_row (items := [.sub 0 [0] [], .sub 0 [] [], .sub 1 [0] [], .sub 1 [] []]) (by kernel_rfl) fr H
theorem s_gnomonref05_Uses_r2_x (call : CallF) (it : IterF) (base : Nat) (f : List V) (H : Heap) : evC call it base (.region s_gnomonref05_Uses_r2 [] [1, 6, 7, 8, 9, 10, 11, 12, 13]) f H = segC call it base s_gnomonref05_Uses_r2t1 [1, 6, 7, 8, 9, 10, 11, 12, 13] H (evTale (symAll s_gnomonref05_Uses_r2p0 [6, 8] [7, 9]) [6, 8] f H) (origRow call it base s_gnomonref05_Uses_r2 [1, 6, 7, 8, 9, 10, 11, 12, 13] f H) := row_seg call it base s_gnomonref05_Uses_r2p0 s_gnomonref05_Uses_r2t1 (by kernel_rfl) f H
theorem s_gnomonref05_Uses_r2t1_x (call : CallF) (it : IterF) (base : Nat) (f : List V) (H : Heap) : evC call it base (.region s_gnomonref05_Uses_r2t1 [] [1, 6, 7, 8, 9, 10, 11, 12, 13]) f H = thenC call it base (.region s_gnomonref05_Uses_r2t2 [] [1, 6, 7, 8, 9, 10, 11, 12, 13]) (opsC [] s_gnomonref05_Uses_r2p1 [7, 9] (evOps call base [⟨some 10, (.buildSl 1 2 [(.s (.string ⟨#[]⟩)), (.s (.string ⟨#[]⟩))] [(0, (.t 7)), (1, (.t 9))]), none⟩] f H)) := (row_op call it base s_gnomonref05_Uses_r2p1 s_gnomonref05_Uses_r2t2 (kc := [7, 9]) (by kernel_rfl) f H).trans (by rw [row_ops]; rfl)
theorem s_gnomonref05_Uses_r2p2_tale (fr : List V) (H : Heap) : evTale (symAll s_gnomonref05_Uses_r2p2 [1, 11] [12]) [1, 11] fr H = evTale (some (13, [], [(12, (.op (.load false 1 (.t 0)) [(.op (.fieldAddr 6 (.t 0)) [(.t 1)])]))])) [1, 11] fr H := tale_row (items := [.sub 0 [0] [], .sub 0 [] []]) (by kernel_rfl) fr H
theorem s_gnomonref05_Uses_r2t2_x (call : CallF) (it : IterF) (base : Nat) (f : List V) (H : Heap) : evC call it base (.region s_gnomonref05_Uses_r2t2 [] [1, 6, 7, 8, 9, 10, 11, 12, 13]) f H = segC call it base s_gnomonref05_Uses_r2t3 [1, 6, 7, 8, 9, 10, 11, 12, 13] H (evTale (symAll s_gnomonref05_Uses_r2p2 [1, 11] [12]) [1, 11] f H) (origRow call it base s_gnomonref05_Uses_r2t2 [1, 6, 7, 8, 9, 10, 11, 12, 13] f H) := row_seg call it base s_gnomonref05_Uses_r2p2 s_gnomonref05_Uses_r2t3 (by kernel_rfl) f H
theorem s_gnomonref05_Uses_r2t3_x (call : CallF) (it : IterF) (base : Nat) (f : List V) (H : Heap) : evC call it base (.region s_gnomonref05_Uses_r2t3 [] [1, 6, 7, 8, 9, 10, 11, 12, 13]) f H = thenC call it base (.region s_gnomonref05_Uses_r2t4 [] [1, 6, 7, 8, 9, 10, 11, 12, 13]) (opsC [] s_gnomonref05_Uses_r2p3 [10, 12] (evOps call base [⟨some 13, (.append 1 16 (.t 10) (.t 12)), none⟩] f H)) := (row_op call it base s_gnomonref05_Uses_r2p3 s_gnomonref05_Uses_r2t4 (kc := [10, 12]) (by kernel_rfl) f H).trans (by rw [row_ops]; rfl)
theorem s_gnomonref05_Uses_r2t4_tale (fr : List V) (H : Heap) : evTale (symAll s_gnomonref05_Uses_r2t4 [1, 6, 7, 8, 9, 10, 11, 12, 13] [4]) [1, 6, 7, 8, 9, 10, 11, 12, 13] fr H = evTale (some (5, [], [(4, (.t 13))])) [1, 6, 7, 8, 9, 10, 11, 12, 13] fr H := tale_row (items := [.tt 13]) (by kernel_rfl) fr H
theorem s_gnomonref05_Uses_r2t4_x (call : CallF) (it : IterF) (base : Nat) (f : List V) (H : Heap) : evC call it base (.region s_gnomonref05_Uses_r2t4 [] [1, 6, 7, 8, 9, 10, 11, 12, 13]) f H = segL H (evTale (symAll s_gnomonref05_Uses_r2t4 [1, 6, 7, 8, 9, 10, 11, 12, 13] [4]) [1, 6, 7, 8, 9, 10, 11, 12, 13] f H) (origRow call it base s_gnomonref05_Uses_r2t4 [1, 6, 7, 8, 9, 10, 11, 12, 13] f H) := row_last call it base _ f H
def s_gnomonref05_Uses_r3 : List AOper := [
  ⟨some 5, (.move (.c (.s (.int .i64 0)))), none⟩]
theorem s_gnomonref05_Uses_r3_tale (fr : List V) (H : Heap) : evTale (symAll s_gnomonref05_Uses_r3 [] [5]) [] fr H = evTale (some (6, [], [(5, (.c (.s (.int .i64 0))))])) [] fr H := tale_row (items := [.cc (.s (.int .i64 0))]) (by kernel_rfl) fr H
def s_gnomonref05_Uses_r4 : List AOper := [
  ⟨some 14, (.move (.t 5)), none⟩,
  ⟨some 15, (.move (.t 4)), none⟩,
  ⟨some 16, (.lenS .s (.t 15)), none⟩,
  ⟨some 17, (.bin .lss (.t 14) (.t 16)), none⟩]
theorem s_gnomonref05_Uses_r4_tale (fr : List V) (H : Heap) : evTale (symAll s_gnomonref05_Uses_r4 [14, 15, 16] [17]) [14, 15, 16] fr H = evTale (some (18, [], [(17, (.op (.bin .lss (.t 0) (.t 1)) [(.t 5), (.op (.lenS .s (.t 0)) [(.t 4)])]))])) [14, 15, 16] fr H := tale_row (items := [.tt 5, .tt 4, .sub 0 [1] [], .sub 0 [] []]) (by kernel_rfl) fr H
def s_gnomonref05_Uses_r5 : List AOper := [
  ⟨some 20, (.move (.t 4)), none⟩,
  ⟨some 21, (.move (.t 5)), none⟩,
  ⟨some 22, (.indexAddr 1 (.t 20) (.t 21)), none⟩,
  ⟨some 23, (.load false 1 (.t 22)), none⟩,
  ⟨some 24, (.bin .neq (.t 23) (.c (.s (.string ⟨#[]⟩)))), none⟩,
  ⟨some 25, (.move (.t 24)), none⟩,
  ⟨some 26, (.move (.t 4)), some (25, true)⟩,
  ⟨some 27, (.move (.t 5)), some (25, true)⟩,
  ⟨some 28, (.indexAddr 1 (.t 26) (.t 27)), some (25, true)⟩,
  ⟨some 29, (.load false 1 (.t 28)), some (25, true)⟩,
  ⟨some 30, (.bin .neq (.t 29) (.c (.s (.string ⟨#[110, 117, 108, 108]⟩)))), some (25, true)⟩,
  ⟨some 31, (.pick (.t 25) (.t 30) (.c (.s (.bool false)))), none⟩]
theorem s_gnomonref05_Uses_r5_tale (fr : List V) (H : Heap) : evTale (symAll s_gnomonref05_Uses_r5 [17, 20, 21, 22, 23, 24, 25, 26, 27, 28, 29, 30] [31]) [17, 20, 21, 22, 23, 24, 25, 26, 27, 28, 29, 30] fr H = evTale (some (32, [], [(31, (.pick (.op (.bin .neq (.t 0) (.c (.s (.string ⟨#[]⟩)))) [(.op (.load false 1 (.t 0)) [(.op (.indexAddr 1 (.t 0) (.t 1)) [(.t 4), (.t 5)])]), (.c (.s (.string ⟨#[]⟩)))]) (.op (.bin .neq (.t 0) (.c (.s (.string ⟨#[110, 117, 108, 108]⟩)))) [(.op (.load false 1 (.t 0)) [(.op (.indexAddr 1 (.t 0) (.t 1)) [(.t 4), (.t 5)])]), (.c (.s (.string ⟨#[110, 117, 108, 108]⟩)))]) (.c (.s (.bool false)))))])) [17, 20, 21, 22, 23, 24, 25, 26, 27, 28, 29, 30] fr H := tale_row (items := [.tt 4, .tt 5, .sub 0 [0, 0, 0] [], .sub 0 [0, 0] [], .sub 0 [0] [], .sub 0 [0] [], .sub 0 [1, 0, 0, 0] [25], .sub 0 [1, 0, 0, 1] [25], .sub 0 [1, 0, 0] [25], .sub 0 [1, 0] [25], .sub 0 [1] [25], .sub 0 [] []]) (by kernel_rfl) fr H
def s_gnomonref05_Uses_r6t3 : List AOper := [⟨some 3, (.move (.t 38)), none⟩]
def s_gnomonref05_Uses_r6p2 : List AOper := [⟨some 38, (.append 1 16 (.t 32) (.t 37)), none⟩]
def s_gnomonref05_Uses_r6t2 : List AOper := s_gnomonref05_Uses_r6p2 ++ s_gnomonref05_Uses_r6t3
def s_gnomonref05_Uses_r6p1 : List AOper := [⟨some 37, (.buildSl 1 1 [(.s (.string ⟨#[]⟩))] [(0, (.t 36))]), none⟩]
def s_gnomonref05_Uses_r6t1 : List AOper := s_gnomonref05_Uses_r6p1 ++ s_gnomonref05_Uses_r6t2
def s_gnomonref05_Uses_r6p0 : List AOper := [⟨some 32, (.move (.t 3)), none⟩, ⟨some 33, (.move (.t 4)), none⟩, ⟨some 34, (.move (.t 5)), none⟩, ⟨some 35, (.indexAddr 1 (.t 33) (.t 34)), none⟩, ⟨some 36, (.load false 1 (.t 35)), none⟩]
def s_gnomonref05_Uses_r6 : List AOper := s_gnomonref05_Uses_r6p0 ++ s_gnomonref05_Uses_r6t1
theorem s_gnomonref05_Uses_r6p0_tale (fr : List V) (H : Heap) : evTale (symAll s_gnomonref05_Uses_r6p0 [3, 31, 33, 34, 35] [32, 36]) [3, 31, 33, 34, 35] fr H = evTale (some (37, [], [(32, (.t 3)), (36, (.op (.load false 1 (.t 0)) [(.op (.indexAddr 1 (.t 0) (.t 1)) [(.t 4), (.t 5)])]))])) [3, 31, 33, 34, 35] fr H := tale_row (items := [.tt 3, .tt 4, .tt 5, .sub 1 [0] [], .sub 1 [] []]) (by kernel_rfl) fr H
theorem s_gnomonref05_Uses_r6_x (call : CallF) (it : IterF) (base : Nat) (f : List V) (H : Heap) : evC call it base (.region s_gnomonref05_Uses_r6 [] [31, 32, 33, 34, 35, 36, 37, 38]) f H = segC call it base s_gnomonref05_Uses_r6t1 [31, 32, 33, 34, 35, 36, 37, 38] H (evTale (symAll s_gnomonref05_Uses_r6p0 [3, 31, 33, 34, 35] [32, 36]) [3, 31, 33, 34, 35] f H) (origRow call it base s_gnomonref05_Uses_r6 [31, 32, 33, 34, 35, 36, 37, 38] f H) := row_seg call it base s_gnomonref05_Uses_r6p0 s_gnomonref05_Uses_r6t1 (by kernel_rfl) f H
theorem s_gnomonref05_Uses_r6t1_x (call : CallF) (it : IterF) (base : Nat) (f : List V) (H : Heap) : evC call it base (.region s_gnomonref05_Uses_r6t1 [] [31, 32, 33, 34, 35, 36, 37, 38]) f H = thenC call it base (.region s_gnomonref05_Uses_r6t2 [] [31, 32, 33, 34, 35, 36, 37, 38]) (opsC [] s_gnomonref05_Uses_r6p1 [36] (evOps call base [⟨some 37, (.buildSl 1 1 [(.s (.string ⟨#[]⟩))] [(0, (.t 36))]), none⟩] f H)) := (row_op call it base s_gnomonref05_Uses_r6p1 s_gnomonref05_Uses_r6t2 (kc := [36]) (by kernel_rfl) f H).trans (by rw [row_ops]; rfl)
theorem s_gnomonref05_Uses_r6t2_x (call : CallF) (it : IterF) (base : Nat) (f : List V) (H : Heap) : evC call it base (.region s_gnomonref05_Uses_r6t2 [] [31, 32, 33, 34, 35, 36, 37, 38]) f H = thenC call it base (.region s_gnomonref05_Uses_r6t3 [] [31, 32, 33, 34, 35, 36, 37, 38]) (opsC [] s_gnomonref05_Uses_r6p2 [32, 37] (evOps call base [⟨some 38, (.append 1 16 (.t 32) (.t 37)), none⟩] f H)) := (row_op call it base s_gnomonref05_Uses_r6p2 s_gnomonref05_Uses_r6t3 (kc := [32, 37]) (by kernel_rfl) f H).trans (by rw [row_ops]; rfl)
theorem s_gnomonref05_Uses_r6t3_tale (fr : List V) (H : Heap) : evTale (symAll s_gnomonref05_Uses_r6t3 [31, 32, 33, 34, 35, 36, 37, 38] [3]) [31, 32, 33, 34, 35, 36, 37, 38] fr H = evTale (some (4, [], [(3, (.t 38))])) [31, 32, 33, 34, 35, 36, 37, 38] fr H := tale_row (items := [.tt 38]) (by kernel_rfl) fr H
theorem s_gnomonref05_Uses_r6t3_x (call : CallF) (it : IterF) (base : Nat) (f : List V) (H : Heap) : evC call it base (.region s_gnomonref05_Uses_r6t3 [] [31, 32, 33, 34, 35, 36, 37, 38]) f H = segL H (evTale (symAll s_gnomonref05_Uses_r6t3 [31, 32, 33, 34, 35, 36, 37, 38] [3]) [31, 32, 33, 34, 35, 36, 37, 38] f H) (origRow call it base s_gnomonref05_Uses_r6t3 [31, 32, 33, 34, 35, 36, 37, 38] f H) := row_last call it base _ f H
def s_gnomonref05_Uses_r7 : List AOper := [
  ⟨some 18, (.move (.t 5)), none⟩,
  ⟨some 19, (.bin .add (.t 18) (.c (.s (.int .i64 1)))), none⟩,
  ⟨some 5, (.move (.t 19)), none⟩]
theorem s_gnomonref05_Uses_r7_tale (fr : List V) (H : Heap) : evTale (symAll s_gnomonref05_Uses_r7 [18, 19, 31] [5]) [18, 19, 31] fr H = evTale (some (20, [], [(5, (.op (.bin .add (.t 0) (.c (.s (.int .i64 1)))) [(.t 5), (.c (.s (.int .i64 1)))]))])) [18, 19, 31] fr H := tale_row (items := [.tt 5, .sub 0 [] [], .sub 0 [] []]) (by kernel_rfl) fr H
def s_gnomonref05_Uses_l0_b : ACode :=
  (.seq (.seq (.regionE s_gnomonref05_Uses_r4 [14, 15, 16] [17])
  (.cond (.t 17)
  .skip
  (.exit 0)))
  (.seq (.block 1
  (.seq (.regionE s_gnomonref05_Uses_r5 [17, 20, 21, 22, 23, 24, 25, 26, 27, 28, 29, 30] [31])
  (.cond (.t 31)
  (.region s_gnomonref05_Uses_r6 [] [31, 32, 33, 34, 35, 36, 37, 38])
  .skip)))
  (.regionE s_gnomonref05_Uses_r7 [18, 19, 31] [5])))
def s_gnomonref05_Uses_l0 : ACode := s_gnomonref05_Uses_l0_b
theorem s_gnomonref05_Uses_l0_ev (call : CallF) (it : IterF) (base : Nat) (fr : List V) (H : Heap) : evC call it base s_gnomonref05_Uses_l0 fr H = evC call it base s_gnomonref05_Uses_l0_b fr H := rfl
def s_gnomonref05_Uses_r8 : List AOper := [
  ⟨some 39, (.move (.t 3)), none⟩,
  ⟨some 2, (.move (.t 39)), none⟩]
theorem s_gnomonref05_Uses_r8_tale (fr : List V) (H : Heap) : evTale (symAll s_gnomonref05_Uses_r8 [3, 4, 5, 17, 39] [2]) [3, 4, 5, 17, 39] fr H = evTale (some (40, [], [(2, (.t 3))])) [3, 4, 5, 17, 39] fr H := tale_row (items := [.tt 3, .tt 3]) (by kernel_rfl) fr H
def s_gnomonref05_Uses : ACFun := { ntmps := 40, results := [(.tmp 2)], body :=
  (.seq (.region s_gnomonref05_Uses_r0 [] s_gnomonref05_Uses_r0_k)
  (.seq (.regionE s_gnomonref05_Uses_r1 [] [3])
  (.seq (.region s_gnomonref05_Uses_r2 [] [1, 6, 7, 8, 9, 10, 11, 12, 13])
  (.seq (.seq (.regionE s_gnomonref05_Uses_r3 [] [5])
  (.block 0
  (.loop [] s_gnomonref05_Uses_l0)))
  (.seq (.regionE s_gnomonref05_Uses_r8 [3, 4, 5, 17, 39] [2])
  .ret))))) }
theorem s_gnomonref05_Uses_first : firstOk (List.range' 1 (s_gnomonref05_Uses.ntmps - 1)) s_gnomonref05_Uses.body = true := by kernel_rfl
/- 10 gnomon/gnomonref05.SameInstr -/
abbrev k_gnomonref05_SameInstr : Nat := 10
def s_gnomonref05_SameInstr_r0_k : List Nat := [0, 1, 4, 5, 6, 7, 8, 9, 10, 11, 12, 13, 14, 15, 16, 17, 18, 19, 20, 21, 22, 23, 24, 25, 26, 27, 28, 29, 30, 31, 32, 33, 34, 35, 36, 37, 38, 39, 40, 41, 42, 43, 44, 45, 46, 47, 48, 49, 50, 51, 52, 53, 54, 55, 56, 57, 58]
theorem s_gnomonref05_SameInstr_r0_k_kA0 : s_gnomonref05_SameInstr_r0_k.contains 0 = true := by kernel_rfl
theorem s_gnomonref05_SameInstr_r0_k_kA1 : s_gnomonref05_SameInstr_r0_k.contains 1 = true := by kernel_rfl
theorem s_gnomonref05_SameInstr_r0_k_kA2 : s_gnomonref05_SameInstr_r0_k.contains 2 = false := by kernel_rfl
theorem s_gnomonref05_SameInstr_r0_k_kA3 : s_gnomonref05_SameInstr_r0_k.contains 3 = false := by kernel_rfl
theorem s_gnomonref05_SameInstr_r0_k_kA4 : s_gnomonref05_SameInstr_r0_k.contains 4 = true := by kernel_rfl
def s_gnomonref05_SameInstr_r0t2 : List AOper := [⟨some 4, (.move (.c (.s (.bool false)))), none⟩]
def s_gnomonref05_SameInstr_r0p1 : List AOper := [⟨some 3, (.box (.t 1)), none⟩]
def s_gnomonref05_SameInstr_r0t1 : List AOper := s_gnomonref05_SameInstr_r0p1 ++ s_gnomonref05_SameInstr_r0t2
def s_gnomonref05_SameInstr_r0p0 : List AOper := [⟨some 2, (.box (.t 0)), none⟩]
def s_gnomonref05_SameInstr_r0 : List AOper := s_gnomonref05_SameInstr_r0p0 ++ s_gnomonref05_SameInstr_r0t1
def s_gnomonref05_SameInstr_r0p0_k : List Nat := [0, 3, 4, 5, 6, 7, 8, 9, 10, 11, 12, 13, 14, 15, 16, 17, 18, 19, 20, 21, 22, 23, 24, 25, 26, 27, 28, 29, 30, 31, 32, 33, 34, 35, 36, 37, 38, 39, 40, 41, 42, 43, 44, 45, 46, 47, 48, 49, 50, 51, 52, 53, 54, 55, 56, 57, 58]
theorem s_gnomonref05_SameInstr_r0p0_k_kA0 : s_gnomonref05_SameInstr_r0p0_k.contains 0 = true := by kernel_rfl
theorem s_gnomonref05_SameInstr_r0p0_k_kA1 : s_gnomonref05_SameInstr_r0p0_k.contains 1 = false := by kernel_rfl
theorem s_gnomonref05_SameInstr_r0p0_k_kA2 : s_gnomonref05_SameInstr_r0p0_k.contains 2 = false := by kernel_rfl
theorem s_gnomonref05_SameInstr_r0p0_k_kA3 : s_gnomonref05_SameInstr_r0p0_k.contains 3 = true := by kernel_rfl
theorem s_gnomonref05_SameInstr_r0p0_k_kA4 : s_gnomonref05_SameInstr_r0p0_k.contains 4 = true := by kernel_rfl
theorem s_gnomonref05_SameInstr_r0_x (call : CallF) (it : IterF) (base : Nat) (f : List V) (H : Heap) : evC call it base (.region s_gnomonref05_SameInstr_r0 [] s_gnomonref05_SameInstr_r0_k) f H = thenC call it base (.region s_gnomonref05_SameInstr_r0t1 [] s_gnomonref05_SameInstr_r0_k) (opsC [] s_gnomonref05_SameInstr_r0p0 s_gnomonref05_SameInstr_r0p0_k (evOps call base [⟨some 2, (.box (.t 0)), none⟩] f H)) := (row_op call it base s_gnomonref05_SameInstr_r0p0 s_gnomonref05_SameInstr_r0t1 (kc := s_gnomonref05_SameInstr_r0p0_k) (by kernel_rfl) f H).trans (by rw [row_ops]; rfl)
theorem s_gnomonref05_SameInstr_r0t1_x (call : CallF) (it : IterF) (base : Nat) (f : List V) (H : Heap) : evC call it base (.region s_gnomonref05_SameInstr_r0t1 [] s_gnomonref05_SameInstr_r0_k) f H = thenC call it base (.region s_gnomonref05_SameInstr_r0t2 [] s_gnomonref05_SameInstr_r0_k) (opsC [] s_gnomonref05_SameInstr_r0p1 [1] (evOps call base [⟨some 3, (.box (.t 1)), none⟩] f H)) := (row_op call it base s_gnomonref05_SameInstr_r0p1 s_gnomonref05_SameInstr_r0t2 (kc := [1]) (by kernel_rfl) f H).trans (by rw [row_ops]; rfl)
theorem s_gnomonref05_SameInstr_r0t2_tale (fr : List V) (H : Heap) : evTale (symAll s_gnomonref05_SameInstr_r0t2 s_gnomonref05_SameInstr_r0_k []) s_gnomonref05_SameInstr_r0_k fr H = evTale (some (5, [], [])) s_gnomonref05_SameInstr_r0_k fr H := tale_row (items := [.cc (.s (.bool false))]) (by kernel_rfl) fr H
theorem s_gnomonref05_SameInstr_r0t2_x (call : CallF) (it : IterF) (base : Nat) (f : List V) (H : Heap) : evC call it base (.region s_gnomonref05_SameInstr_r0t2 [] s_gnomonref05_SameInstr_r0_k) f H = segL H (evTale (symAll s_gnomonref05_SameInstr_r0t2 s_gnomonref05_SameInstr_r0_k []) s_gnomonref05_SameInstr_r0_k f H) (origRow call it base s_gnomonref05_SameInstr_r0t2 s_gnomonref05_SameInstr_r0_k f H) := row_last call it base _ f H
def s_gnomonref05_SameInstr_r1t12 : List AOper := [⟨some 58, (.pick (.t 52) (.t 57) (.c (.s (.bool false)))), none⟩, ⟨some 4, (.move (.t 58)), none⟩]
def s_gnomonref05_SameInstr_r1p11 : List AOper := [⟨some 57, (.call (.c (.fn 20 [] [])) [(.t 54), (.t 56)]), some (52, true)⟩]
def s_gnomonref05_SameInstr_r1t11 : List AOper := s_gnomonref05_SameInstr_r1p11 ++ s_gnomonref05_SameInstr_r1t12
def s_gnomonref05_SameInstr_r1p10 : List AOper := [⟨some 56, (.load false 1 (.t 55)), some (52, true)⟩]
def s_gnomonref05_SameInstr_r1t10 : List AOper := s_gnomonref05_SameInstr_r1p10 ++ s_gnomonref05_SameInstr_r1t11
def s_gnomonref05_SameInstr_r1p9 : List AOper := [⟨some 55, (.fieldAddr 7 (.t 3)), some (52, true)⟩]
def s_gnomonref05_SameInstr_r1t9 : List AOper := s_gnomonref05_SameInstr_r1p9 ++ s_gnomonref05_SameInstr_r1t10
def s_gnomonref05_SameInstr_r1p8 : List AOper := [⟨some 54, (.load false 1 (.t 53)), some (52, true)⟩]
def s_gnomonref05_SameInstr_r1t8 : List AOper := s_gnomonref05_SameInstr_r1p8 ++ s_gnomonref05_SameInstr_r1t9
def s_gnomonref05_SameInstr_r1p7 : List AOper := [⟨some 53, (.fieldAddr 7 (.t 2)), some (52, true)⟩]
def s_gnomonref05_SameInstr_r1t7 : List AOper := s_gnomonref05_SameInstr_r1p7 ++ s_gnomonref05_SameInstr_r1t8
def s_gnomonref05_SameInstr_r1p6 : List AOper := [⟨some 51, (.pick (.t 45) (.t 50) (.c (.s (.bool false)))), none⟩, ⟨some 52, (.move (.t 51)), none⟩]
def s_gnomonref05_SameInstr_r1t6 : List AOper := s_gnomonref05_SameInstr_r1p6 ++ s_gnomonref05_SameInstr_r1t7
def s_gnomonref05_SameInstr_r1p5 : List AOper := [⟨some 50, (.call (.c (.fn 20 [] [])) [(.t 47), (.t 49)]), some (45, true)⟩]
def s_gnomonref05_SameInstr_r1t5 : List AOper := s_gnomonref05_SameInstr_r1p5 ++ s_gnomonref05_SameInstr_r1t6
def s_gnomonref05_SameInstr_r1p4 : List AOper := [⟨some 49, (.load false 1 (.t 48)), some (45, true)⟩]
def s_gnomonref05_SameInstr_r1t4 : List AOper := s_gnomonref05_SameInstr_r1p4 ++ s_gnomonref05_SameInstr_r1t5
def s_gnomonref05_SameInstr_r1p3 : List AOper := [⟨some 48, (.fieldAddr 6 (.t 3)), some (45, true)⟩]
def s_gnomonref05_SameInstr_r1t3 : List AOper := s_gnomonref05_SameInstr_r1p3 ++ s_gnomonref05_SameInstr_r1t4
def s_gnomonref05_SameInstr_r1p2 : List AOper := [⟨some 47, (.load false 1 (.t 46)), some (45, true)⟩]
def s_gnomonref05_SameInstr_r1t2 : List AOper := s_gnomonref05_SameInstr_r1p2 ++ s_gnomonref05_SameInstr_r1t3
def s_gnomonref05_SameInstr_r1p1 : List AOper := [⟨some 46, (.fieldAddr 6 (.t 2)), some (45, true)⟩]
def s_gnomonref05_SameInstr_r1t1 : List AOper := s_gnomonref05_SameInstr_r1p1 ++ s_gnomonref05_SameInstr_r1t2
def s_gnomonref05_SameInstr_r1p0 : List AOper := [⟨some 5, (.fieldAddr 0 (.t 2)), none⟩, ⟨some 6, (.load false 1 (.t 5)), none⟩, ⟨some 7, (.fieldAddr 0 (.t 3)), none⟩, ⟨some 8, (.load false 1 (.t 7)), none⟩, ⟨some 9, (.bin .eql (.t 6) (.t 8)), none⟩, ⟨some 10, (.move (.t 9)), none⟩, ⟨some 11, (.fieldAddr 1 (.t 2)), some (10, true)⟩, ⟨some 12, (.load false 1 (.t 11)), some (10, true)⟩, ⟨some 13, (.fieldAddr 1 (.t 3)), some (10, true)⟩, ⟨some 14, (.load false 1 (.t 13)), some (10, true)⟩, ⟨some 15, (.bin .eql (.t 12) (.t 14)), some (10, true)⟩, ⟨some 16, (.pick (.t 10) (.t 15) (.c (.s (.bool false)))), none⟩, ⟨some 17, (.move (.t 16)), none⟩, ⟨some 18, (.fieldAddr 2 (.t 2)), some (17, true)⟩, ⟨some 19, (.load false 1 (.t 18)), some (17, true)⟩, ⟨some 20, (.fieldAddr 2 (.t 3)), some (17, true)⟩, ⟨some 21, (.load false 1 (.t 20)), some (17, true)⟩, ⟨some 22, (.bin .eql (.t 19) (.t 21)), some (17, true)⟩, ⟨some 23, (.pick (.t 17) (.t 22) (.c (.s (.bool false)))), none⟩, ⟨some 24, (.move (.t 23)), none⟩, ⟨some 25, (.fieldAddr 3 (.t 2)), some (24, true)⟩, ⟨some 26, (.load false 1 (.t 25)), some (24, true)⟩, ⟨some 27, (.fieldAddr 3 (.t 3)), some (24, true)⟩, ⟨some 28, (.load false 1 (.t 27)), some (24, true)⟩, ⟨some 29, (.bin .eql (.t 26) (.t 28)), some (24, true)⟩, ⟨some 30, (.pick (.t 24) (.t 29) (.c (.s (.bool false)))), none⟩, ⟨some 31, (.move (.t 30)), none⟩, ⟨some 32, (.fieldAddr 4 (.t 2)), some (31, true)⟩, ⟨some 33, (.load false 1 (.t 32)), some (31, true)⟩, ⟨some 34, (.fieldAddr 4 (.t 3)), some (31, true)⟩, ⟨some 35, (.load false 1 (.t 34)), some (31, true)⟩, ⟨some 36, (.bin .eql (.t 33) (.t 35)), some (31, true)⟩, ⟨some 37, (.pick (.t 31) (.t 36) (.c (.s (.bool false)))), none⟩, ⟨some 38, (.move (.t 37)), none⟩, ⟨some 39, (.fieldAddr 5 (.t 2)), some (38, true)⟩, ⟨some 40, (.load false 1 (.t 39)), some (38, true)⟩, ⟨some 41, (.fieldAddr 5 (.t 3)), some (38, true)⟩, ⟨some 42, (.load false 1 (.t 41)), some (38, true)⟩, ⟨some 43, (.bin .eql (.t 40) (.t 42)), some (38, true)⟩, ⟨some 44, (.pick (.t 38) (.t 43) (.c (.s (.bool false)))), none⟩, ⟨some 45, (.move (.t 44)), none⟩]
def s_gnomonref05_SameInstr_r1 : List AOper := s_gnomonref05_SameInstr_r1p0 ++ s_gnomonref05_SameInstr_r1t1
theorem s_gnomonref05_SameInstr_r1p0_tale (fr : List V) (H : Heap) : evTale (symAll s_gnomonref05_SameInstr_r1p0 [5, 6, 7, 8, 9, 10, 11, 12, 13, 14, 15, 16, 17, 18, 19, 20, 21, 22, 23, 24, 25, 26, 27, 28, 29, 30, 31, 32, 33, 34, 35, 36, 37, 38, 39, 40, 41, 42, 43, 44] [45]) [5, 6, 7, 8, 9, 10, 11, 12, 13, 14, 15, 16, 17, 18, 19, 20, 21, 22, 23, 24, 25, 26, 27, 28, 29, 30, 31, 32, 33, 34, 35, 36, 37, 38, 39, 40, 41, 42, 43, 44] fr H = evTale (some (46, [], [(45, (.pick (.pick (.pick (.pick (.pick (.op (.bin .eql (.t 0) (.t 1)) [(.op (.load false 1 (.t 0)) [(.op (.fieldAddr 0 (.t 0)) [(.t 2)])]), (.op (.load false 1 (.t 0)) [(.op (.fieldAddr 0 (.t 0)) [(.t 3)])])]) (.op (.bin .eql (.t 0) (.t 1)) [(.op (.load false 1 (.t 0)) [(.op (.fieldAddr 1 (.t 0)) [(.t 2)])]), (.op (.load false 1 (.t 0)) [(.op (.fieldAddr 1 (.t 0)) [(.t 3)])])]) (.c (.s (.bool false)))) (.op (.bin .eql (.t 0) (.t 1)) [(.op (.load false 1 (.t 0)) [(.op (.fieldAddr 2 (.t 0)) [(.t 2)])]), (.op (.load false 1 (.t 0)) [(.op (.fieldAddr 2 (.t 0)) [(.t 3)])])]) (.c (.s (.bool false)))) (.op (.bin .eql (.t 0) (.t 1)) [(.op (.load false 1 (.t 0)) [(.op (.fieldAddr 3 (.t 0)) [(.t 2)])]), (.op (.load false 1 (.t 0)) [(.op (.fieldAddr 3 (.t 0)) [(.t 3)])])]) (.c (.s (.bool false)))) (.op (.bin .eql (.t 0) (.t 1)) [(.op (.load false 1 (.t 0)) [(.op (.fieldAddr 4 (.t 0)) [(.t 2)])]), (.op (.load false 1 (.t 0)) [(.op (.fieldAddr 4 (.t 0)) [(.t 3)])])]) (.c (.s (.bool false)))) (.op (.bin .eql (.t 0) (.t 1)) [(.op (.load false 1 (.t 0)) [(.op (.fieldAddr 5 (.t 0)) [(.t 2)])]), (.op (.load false 1 (.t 0)) [(.op (.fieldAddr 5 (.t 0)) [(.t 3)])])]) (.c (.s (.bool false)))))])) [5, 6, 7, 8, 9, 10, 11, 12, 13, 14, 15, 16, 17, 18, 19, 20, 21, 22, 23, 24, 25, 26, 27, 28, 29, 30, 31, 32, 33, 34, 35, 36, 37, 38, 39, 40, 41, 42, 43, 44] fr H := tale_row (items := [.sub 0 [0, 0, 0, 0, 0, 0, 0] [], .sub 0 [0, 0, 0, 0, 0, 0] [], .sub 0 [0, 0, 0, 0, 0, 1, 0] [], .sub 0 [0, 0, 0, 0, 0, 1] [], .sub 0 [0, 0, 0, 0, 0] [], .sub 0 [0, 0, 0, 0, 0] [], .sub 0 [0, 0, 0, 0, 1, 0, 0] [10], .sub 0 [0, 0, 0, 0, 1, 0] [10], .sub 0 [0, 0, 0, 0, 1, 1, 0] [10], .sub 0 [0, 0, 0, 0, 1, 1] [10], .sub 0 [0, 0, 0, 0, 1] [10], .sub 0 [0, 0, 0, 0] [], .sub 0 [0, 0, 0, 0] [], .sub 0 [0, 0, 0, 1, 0, 0] [17], .sub 0 [0, 0, 0, 1, 0] [17], .sub 0 [0, 0, 0, 1, 1, 0] [17], .sub 0 [0, 0, 0, 1, 1] [17], .sub 0 [0, 0, 0, 1] [17], .sub 0 [0, 0, 0] [], .sub 0 [0, 0, 0] [], .sub 0 [0, 0, 1, 0, 0] [24], .sub 0 [0, 0, 1, 0] [24], .sub 0 [0, 0, 1, 1, 0] [24], .sub 0 [0, 0, 1, 1] [24], .sub 0 [0, 0, 1] [24], .sub 0 [0, 0] [], .sub 0 [0, 0] [], .sub 0 [0, 1, 0, 0] [31], .sub 0 [0, 1, 0] [31], .sub 0 [0, 1, 1, 0] [31], .sub 0 [0, 1, 1] [31], .sub 0 [0, 1] [31], .sub 0 [0] [], .sub 0 [0] [], .sub 0 [1, 0, 0] [38], .sub 0 [1, 0] [38], .sub 0 [1, 1, 0] [38], .sub 0 [1, 1] [38], .sub 0 [1] [38], .sub 0 [] [], .sub 0 [] []]) (by kernel_rfl) fr H
theorem s_gnomonref05_SameInstr_r1_x (call : CallF) (it : IterF) (base : Nat) (f : List V) (H : Heap) : evC call it base (.region s_gnomonref05_SameInstr_r1 [] [2, 3, 5, 6, 7, 8, 9, 10, 11, 12, 13, 14, 15, 16, 17, 18, 19, 20, 21, 22, 23, 24, 25, 26, 27, 28, 29, 30, 31, 32, 33, 34, 35, 36, 37, 38, 39, 40, 41, 42, 43, 44, 45, 46, 47, 48, 49, 50, 51, 52, 53, 54, 55, 56, 57, 58]) f H = segC call it base s_gnomonref05_SameInstr_r1t1 [2, 3, 5, 6, 7, 8, 9, 10, 11, 12, 13, 14, 15, 16, 17, 18, 19, 20, 21, 22, 23, 24, 25, 26, 27, 28, 29, 30, 31, 32, 33, 34, 35, 36, 37, 38, 39, 40, 41, 42, 43, 44, 45, 46, 47, 48, 49, 50, 51, 52, 53, 54, 55, 56, 57, 58] H (evTale (symAll s_gnomonref05_SameInstr_r1p0 [5, 6, 7, 8, 9, 10, 11, 12, 13, 14, 15, 16, 17, 18, 19, 20, 21, 22, 23, 24, 25, 26, 27, 28, 29, 30, 31, 32, 33, 34, 35, 36, 37, 38, 39, 40, 41, 42, 43, 44] [45]) [5, 6, 7, 8, 9, 10, 11, 12, 13, 14, 15, 16, 17, 18, 19, 20, 21, 22, 23, 24, 25, 26, 27, 28, 29, 30, 31, 32, 33, 34, 35, 36, 37, 38, 39, 40, 41, 42, 43, 44] f H) (origRow call it base s_gnomonref05_SameInstr_r1 [2, 3, 5, 6, 7, 8, 9, 10, 11, 12, 13, 14, 15, 16, 17, 18, 19, 20, 21, 22, 23, 24, 25, 26, 27, 28, 29, 30, 31, 32, 33, 34, 35, 36, 37, 38, 39, 40, 41, 42, 43, 44, 45, 46, 47, 48, 49, 50, 51, 52, 53, 54, 55, 56, 57, 58] f H) := row_seg call it base s_gnomonref05_SameInstr_r1p0 s_gnomonref05_SameInstr_r1t1 (by kernel_rfl) f H
theorem s_gnomonref05_SameInstr_r1t1_x (call : CallF) (it : IterF) (base : Nat) (f : List V) (H : Heap) : evC call it base (.region s_gnomonref05_SameInstr_r1t1 [] [2, 3, 5, 6, 7, 8, 9, 10, 11, 12, 13, 14, 15, 16, 17, 18, 19, 20, 21, 22, 23, 24, 25, 26, 27, 28, 29, 30, 31, 32, 33, 34, 35, 36, 37, 38, 39, 40, 41, 42, 43, 44, 45, 46, 47, 48, 49, 50, 51, 52, 53, 54, 55, 56, 57, 58]) f H = thenC call it base (.region s_gnomonref05_SameInstr_r1t2 [] [2, 3, 5, 6, 7, 8, 9, 10, 11, 12, 13, 14, 15, 16, 17, 18, 19, 20, 21, 22, 23, 24, 25, 26, 27, 28, 29, 30, 31, 32, 33, 34, 35, 36, 37, 38, 39, 40, 41, 42, 43, 44, 45, 46, 47, 48, 49, 50, 51, 52, 53, 54, 55, 56, 57, 58]) (opsC [] s_gnomonref05_SameInstr_r1p1 [] (evOps call base [⟨some 46, (.fieldAddr 6 (.t 2)), some (45, true)⟩] f H)) := (row_op call it base s_gnomonref05_SameInstr_r1p1 s_gnomonref05_SameInstr_r1t2 (kc := []) (by kernel_rfl) f H).trans (by rw [row_ops]; rfl)
theorem s_gnomonref05_SameInstr_r1t2_x (call : CallF) (it : IterF) (base : Nat) (f : List V) (H : Heap) : evC call it base (.region s_gnomonref05_SameInstr_r1t2 [] [2, 3, 5, 6, 7, 8, 9, 10, 11, 12, 13, 14, 15, 16, 17, 18, 19, 20, 21, 22, 23, 24, 25, 26, 27, 28, 29, 30, 31, 32, 33, 34, 35, 36, 37, 38, 39, 40, 41, 42, 43, 44, 45, 46, 47, 48, 49, 50, 51, 52, 53, 54, 55, 56, 57, 58]) f H = thenC call it base (.region s_gnomonref05_SameInstr_r1t3 [] [2, 3, 5, 6, 7, 8, 9, 10, 11, 12, 13, 14, 15, 16, 17, 18, 19, 20, 21, 22, 23, 24, 25, 26, 27, 28, 29, 30, 31, 32, 33, 34, 35, 36, 37, 38, 39, 40, 41, 42, 43, 44, 45, 46, 47, 48, 49, 50, 51, 52, 53, 54, 55, 56, 57, 58]) (opsC [] s_gnomonref05_SameInstr_r1p2 [46] (evOps call base [⟨some 47, (.load false 1 (.t 46)), some (45, true)⟩] f H)) := (row_op call it base s_gnomonref05_SameInstr_r1p2 s_gnomonref05_SameInstr_r1t3 (kc := [46]) (by kernel_rfl) f H).trans (by rw [row_ops]; rfl)
theorem s_gnomonref05_SameInstr_r1t3_x (call : CallF) (it : IterF) (base : Nat) (f : List V) (H : Heap) : evC call it base (.region s_gnomonref05_SameInstr_r1t3 [] [2, 3, 5, 6, 7, 8, 9, 10, 11, 12, 13, 14, 15, 16, 17, 18, 19, 20, 21, 22, 23, 24, 25, 26, 27, 28, 29, 30, 31, 32, 33, 34, 35, 36, 37, 38, 39, 40, 41, 42, 43, 44, 45, 46, 47, 48, 49, 50, 51, 52, 53, 54, 55, 56, 57, 58]) f H = thenC call it base (.region s_gnomonref05_SameInstr_r1t4 [] [2, 3, 5, 6, 7, 8, 9, 10, 11, 12, 13, 14, 15, 16, 17, 18, 19, 20, 21, 22, 23, 24, 25, 26, 27, 28, 29, 30, 31, 32, 33, 34, 35, 36, 37, 38, 39, 40, 41, 42, 43, 44, 45, 46, 47, 48, 49, 50, 51, 52, 53, 54, 55, 56, 57, 58]) (opsC [] s_gnomonref05_SameInstr_r1p3 [] (evOps call base [⟨some 48, (.fieldAddr 6 (.t 3)), some (45, true)⟩] f H)) := (row_op call it base s_gnomonref05_SameInstr_r1p3 s_gnomonref05_SameInstr_r1t4 (kc := []) (by kernel_rfl) f H).trans (by rw [row_ops]; rfl)
theorem s_gnomonref05_SameInstr_r1t4_x (call : CallF) (it : IterF) (base : Nat) (f : List V) (H : Heap) : evC call it base (.region s_gnomonref05_SameInstr_r1t4 [] [2, 3, 5, 6, 7, 8, 9, 10, 11, 12, 13, 14, 15, 16, 17, 18, 19, 20, 21, 22, 23, 24, 25, 26, 27, 28, 29, 30, 31, 32, 33, 34, 35, 36, 37, 38, 39, 40, 41, 42, 43, 44, 45, 46, 47, 48, 49, 50, 51, 52, 53, 54, 55, 56, 57, 58]) f H = thenC call it base (.region s_gnomonref05_SameInstr_r1t5 [] [2, 3, 5, 6, 7, 8, 9, 10, 11, 12, 13, 14, 15, 16, 17, 18, 19, 20, 21, 22, 23, 24, 25, 26, 27, 28, 29, 30, 31, 32, 33, 34, 35, 36, 37, 38, 39, 40, 41, 42, 43, 44, 45, 46, 47, 48, 49, 50, 51, 52, 53, 54, 55, 56, 57, 58]) (opsC [] s_gnomonref05_SameInstr_r1p4 [48] (evOps call base [⟨some 49, (.load false 1 (.t 48)), some (45, true)⟩] f H)) := (row_op call it base s_gnomonref05_SameInstr_r1p4 s_gnomonref05_SameInstr_r1t5 (kc := [48]) (by kernel_rfl) f H).trans (by rw [row_ops]; rfl)
theorem s_gnomonref05_SameInstr_r1t5_x (call : CallF) (it : IterF) (base : Nat) (f : List V) (H : Heap) : evC call it base (.region s_gnomonref05_SameInstr_r1t5 [] [2, 3, 5, 6, 7, 8, 9, 10, 11, 12, 13, 14, 15, 16, 17, 18, 19, 20, 21, 22, 23, 24, 25, 26, 27, 28, 29, 30, 31, 32, 33, 34, 35, 36, 37, 38, 39, 40, 41, 42, 43, 44, 45, 46, 47, 48, 49, 50, 51, 52, 53, 54, 55, 56, 57, 58]) f H = thenC call it base (.region s_gnomonref05_SameInstr_r1t6 [] [2, 3, 5, 6, 7, 8, 9, 10, 11, 12, 13, 14, 15, 16, 17, 18, 19, 20, 21, 22, 23, 24, 25, 26, 27, 28, 29, 30, 31, 32, 33, 34, 35, 36, 37, 38, 39, 40, 41, 42, 43, 44, 45, 46, 47, 48, 49, 50, 51, 52, 53, 54, 55, 56, 57, 58]) (opsC [] s_gnomonref05_SameInstr_r1p5 [47, 49] (evOps call base [⟨some 50, (.call (.c (.fn 20 [] [])) [(.t 47), (.t 49)]), some (45, true)⟩] f H)) := (row_op call it base s_gnomonref05_SameInstr_r1p5 s_gnomonref05_SameInstr_r1t6 (kc := [47, 49]) (by kernel_rfl) f H).trans (by rw [row_ops]; rfl)
theorem s_gnomonref05_SameInstr_r1p6_tale (fr : List V) (H : Heap) : evTale (symAll s_gnomonref05_SameInstr_r1p6 [45, 50, 51] [52]) [45, 50, 51] fr H = evTale (some (53, [], [(52, (.pick (.t 45) (.t 50) (.c (.s (.bool false)))))])) [45, 50, 51] fr H := tale_row (items := [.sub 0 [] [], .sub 0 [] []]) (by kernel_rfl) fr H
theorem s_gnomonref05_SameInstr_r1t6_x (call : CallF) (it : IterF) (base : Nat) (f : List V) (H : Heap) : evC call it base (.region s_gnomonref05_SameInstr_r1t6 [] [2, 3, 5, 6, 7, 8, 9, 10, 11, 12, 13, 14, 15, 16, 17, 18, 19, 20, 21, 22, 23, 24, 25, 26, 27, 28, 29, 30, 31, 32, 33, 34, 35, 36, 37, 38, 39, 40, 41, 42, 43, 44, 45, 46, 47, 48, 49, 50, 51, 52, 53, 54, 55, 56, 57, 58]) f H = segC call it base s_gnomonref05_SameInstr_r1t7 [2, 3, 5, 6, 7, 8, 9, 10, 11, 12, 13, 14, 15, 16, 17, 18, 19, 20, 21, 22, 23, 24, 25, 26, 27, 28, 29, 30, 31, 32, 33, 34, 35, 36, 37, 38, 39, 40, 41, 42, 43, 44, 45, 46, 47, 48, 49, 50, 51, 52, 53, 54, 55, 56, 57, 58] H (evTale (symAll s_gnomonref05_SameInstr_r1p6 [45, 50, 51] [52]) [45, 50, 51] f H) (origRow call it base s_gnomonref05_SameInstr_r1t6 [2, 3, 5, 6, 7, 8, 9, 10, 11, 12, 13, 14, 15, 16, 17, 18, 19, 20, 21, 22, 23, 24, 25, 26, 27, 28, 29, 30, 31, 32, 33, 34, 35, 36, 37, 38, 39, 40, 41, 42, 43, 44, 45, 46, 47, 48, 49, 50, 51, 52, 53, 54, 55, 56, 57, 58] f H) := row_seg call it base s_gnomonref05_SameInstr_r1p6 s_gnomonref05_SameInstr_r1t7 (by kernel_rfl) f H
theorem s_gnomonref05_SameInstr_r1t7_x (call : CallF) (it : IterF) (base : Nat) (f : List V) (H : Heap) : evC call it base (.region s_gnomonref05_SameInstr_r1t7 [] [2, 3, 5, 6, 7, 8, 9, 10, 11, 12, 13, 14, 15, 16, 17, 18, 19, 20, 21, 22, 23, 24, 25, 26, 27, 28, 29, 30, 31, 32, 33, 34, 35, 36, 37, 38, 39, 40, 41, 42, 43, 44, 45, 46, 47, 48, 49, 50, 51, 52, 53, 54, 55, 56, 57, 58]) f H = thenC call it base (.region s_gnomonref05_SameInstr_r1t8 [] [2, 3, 5, 6, 7, 8, 9, 10, 11, 12, 13, 14, 15, 16, 17, 18, 19, 20, 21, 22, 23, 24, 25, 26, 27, 28, 29, 30, 31, 32, 33, 34, 35, 36, 37, 38, 39, 40, 41, 42, 43, 44, 45, 46, 47, 48, 49, 50, 51, 52, 53, 54, 55, 56, 57, 58]) (opsC [] s_gnomonref05_SameInstr_r1p7 [2] (evOps call base [⟨some 53, (.fieldAddr 7 (.t 2)), some (52, true)⟩] f H)) := (row_op call it base s_gnomonref05_SameInstr_r1p7 s_gnomonref05_SameInstr_r1t8 (kc := [2]) (by kernel_rfl) f H).trans (by rw [row_ops]; rfl)
theorem s_gnomonref05_SameInstr_r1t8_x (call : CallF) (it : IterF) (base : Nat) (f : List V) (H : Heap) : evC call it base (.region s_gnomonref05_SameInstr_r1t8 [] [2, 3, 5, 6, 7, 8, 9, 10, 11, 12, 13, 14, 15, 16, 17, 18, 19, 20, 21, 22, 23, 24, 25, 26, 27, 28, 29, 30, 31, 32, 33, 34, 35, 36, 37, 38, 39, 40, 41, 42, 43, 44, 45, 46, 47, 48, 49, 50, 51, 52, 53, 54, 55, 56, 57, 58]) f H = thenC call it base (.region s_gnomonref05_SameInstr_r1t9 [] [2, 3, 5, 6, 7, 8, 9, 10, 11, 12, 13, 14, 15, 16, 17, 18, 19, 20, 21, 22, 23, 24, 25, 26, 27, 28, 29, 30, 31, 32, 33, 34, 35, 36, 37, 38, 39, 40, 41, 42, 43, 44, 45, 46, 47, 48, 49, 50, 51, 52, 53, 54, 55, 56, 57, 58]) (opsC [] s_gnomonref05_SameInstr_r1p8 [53] (evOps call base [⟨some 54, (.load false 1 (.t 53)), some (52, true)⟩] f H)) := (row_op call it base s_gnomonref05_SameInstr_r1p8 s_gnomonref05_SameInstr_r1t9 (kc := [53]) (by kernel_rfl) f H).trans (by rw [row_ops]; rfl)
theorem s_gnomonref05_SameInstr_r1t9_x (call : CallF) (it : IterF) (base : Nat) (f : List V) (H : Heap) : evC call it base (.region s_gnomonref05_SameInstr_r1t9 [] [2, 3, 5, 6, 7, 8, 9, 10, 11, 12, 13, 14, 15, 16, 17, 18, 19, 20, 21, 22, 23, 24, 25, 26, 27, 28, 29, 30, 31, 32, 33, 34, 35, 36, 37, 38, 39, 40, 41, 42, 43, 44, 45, 46, 47, 48, 49, 50, 51, 52, 53, 54, 55, 56, 57, 58]) f H = thenC call it base (.region s_gnomonref05_SameInstr_r1t10 [] [2, 3, 5, 6, 7, 8, 9, 10, 11, 12, 13, 14, 15, 16, 17, 18, 19, 20, 21, 22, 23, 24, 25, 26, 27, 28, 29, 30, 31, 32, 33, 34, 35, 36, 37, 38, 39, 40, 41, 42, 43, 44, 45, 46, 47, 48, 49, 50, 51, 52, 53, 54, 55, 56, 57, 58]) (opsC [] s_gnomonref05_SameInstr_r1p9 [3] (evOps call base [⟨some 55, (.fieldAddr 7 (.t 3)), some (52, true)⟩] f H)) := (row_op call it base s_gnomonref05_SameInstr_r1p9 s_gnomonref05_SameInstr_r1t10 (kc := [3]) (by kernel_rfl) f H).trans (by rw [row_ops]; rfl)
theorem s_gnomonref05_SameInstr_r1t10_x (call : CallF) (it : IterF) (base : Nat) (f : List V) (H : Heap) : evC call it base (.region s_gnomonref05_SameInstr_r1t10 [] [2, 3, 5, 6, 7, 8, 9, 10, 11, 12, 13, 14, 15, 16, 17, 18, 19, 20, 21, 22, 23, 24, 25, 26, 27, 28, 29, 30, 31, 32, 33, 34, 35, 36, 37, 38, 39, 40, 41, 42, 43, 44, 45, 46, 47, 48, 49, 50, 51, 52, 53, 54, 55, 56, 57, 58]) f H = thenC call it base (.region s_gnomonref05_SameInstr_r1t11 [] [2, 3, 5, 6, 7, 8, 9, 10, 11, 12, 13, 14, 15, 16, 17, 18, 19, 20, 21, 22, 23, 24, 25, 26, 27, 28, 29, 30, 31, 32, 33, 34, 35, 36, 37, 38, 39, 40, 41, 42, 43, 44, 45, 46, 47, 48, 49, 50, 51, 52, 53, 54, 55, 56, 57, 58]) (opsC [] s_gnomonref05_SameInstr_r1p10 [55] (evOps call base [⟨some 56, (.load false 1 (.t 55)), some (52, true)⟩] f H)) := (row_op call it base s_gnomonref05_SameInstr_r1p10 s_gnomonref05_SameInstr_r1t11 (kc := [55]) (by kernel_rfl) f H).trans (by rw [row_ops]; rfl)
theorem s_gnomonref05_SameInstr_r1t11_x (call : CallF) (it : IterF) (base : Nat) (f : List V) (H : Heap) : evC call it base (.region s_gnomonref05_SameInstr_r1t11 [] [2, 3, 5, 6, 7, 8, 9, 10, 11, 12, 13, 14, 15, 16, 17, 18, 19, 20, 21, 22, 23, 24, 25, 26, 27, 28, 29, 30, 31, 32, 33, 34, 35, 36, 37, 38, 39, 40, 41, 42, 43, 44, 45, 46, 47, 48, 49, 50, 51, 52, 53, 54, 55, 56, 57, 58]) f H = thenC call it base (.region s_gnomonref05_SameInstr_r1t12 [] [2, 3, 5, 6, 7, 8, 9, 10, 11, 12, 13, 14, 15, 16, 17, 18, 19, 20, 21, 22, 23, 24, 25, 26, 27, 28, 29, 30, 31, 32, 33, 34, 35, 36, 37, 38, 39, 40, 41, 42, 43, 44, 45, 46, 47, 48, 49, 50, 51, 52, 53, 54, 55, 56, 57, 58]) (opsC [] s_gnomonref05_SameInstr_r1p11 [54, 56] (evOps call base [⟨some 57, (.call (.c (.fn 20 [] [])) [(.t 54), (.t 56)]), some (52, true)⟩] f H)) := (row_op call it base s_gnomonref05_SameInstr_r1p11 s_gnomonref05_SameInstr_r1t12 (kc := [54, 56]) (by kernel_rfl) f H).trans (by rw [row_ops]; rfl)
theorem s_gnomonref05_SameInstr_r1t12_tale (fr : List V) (H : Heap) : evTale (symAll s_gnomonref05_SameInstr_r1t12 [2, 3, 5, 6, 7, 8, 9, 10, 11, 12, 13, 14, 15, 16, 17, 18, 19, 20, 21, 22, 23, 24, 25, 26, 27, 28, 29, 30, 31, 32, 33, 34, 35, 36, 37, 38, 39, 40, 41, 42, 43, 44, 45, 46, 47, 48, 49, 50, 51, 52, 53, 54, 55, 56, 57, 58] [4]) [2, 3, 5, 6, 7, 8, 9, 10, 11, 12, 13, 14, 15, 16, 17, 18, 19, 20, 21, 22, 23, 24, 25, 26, 27, 28, 29, 30, 31, 32, 33, 34, 35, 36, 37, 38, 39, 40, 41, 42, 43, 44, 45, 46, 47, 48, 49, 50, 51, 52, 53, 54, 55, 56, 57, 58] fr H = evTale (some (59, [], [(4, (.pick (.t 52) (.t 57) (.c (.s (.bool false)))))])) [2, 3, 5, 6, 7, 8, 9, 10, 11, 12, 13, 14, 15, 16, 17, 18, 19, 20, 21, 22, 23, 24, 25, 26, 27, 28, 29, 30, 31, 32, 33, 34, 35, 36, 37, 38, 39, 40, 41, 42, 43, 44, 45, 46, 47, 48, 49, 50, 51, 52, 53, 54, 55, 56, 57, 58] fr H := tale_row (items := [.sub 0 [] [], .sub 0 [] []]) (by kernel_rfl) fr H
theorem s_gnomonref05_SameInstr_r1t12_x (call : CallF) (it : IterF) (base : Nat) (f : List V) (H : Heap) : evC call it base (.region s_gnomonref05_SameInstr_r1t12 [] [2, 3, 5, 6, 7, 8, 9, 10, 11, 12, 13, 14, 15, 16, 17, 18, 19, 20, 21, 22, 23, 24, 25, 26, 27, 28, 29, 30, 31, 32, 33, 34, 35, 36, 37, 38, 39, 40, 41, 42, 43, 44, 45, 46, 47, 48, 49, 50, 51, 52, 53, 54, 55, 56, 57, 58]) f H = segL H (evTale (symAll s_gnomonref05_SameInstr_r1t12 [2, 3, 5, 6, 7, 8, 9, 10, 11, 12, 13, 14, 15, 16, 17, 18, 19, 20, 21, 22, 23, 24, 25, 26, 27, 28, 29, 30, 31, 32, 33, 34, 35, 36, 37, 38, 39, 40, 41, 42, 43, 44, 45, 46, 47, 48, 49, 50, 51, 52, 53, 54, 55, 56, 57, 58] [4]) [2, 3, 5, 6, 7, 8, 9, 10, 11, 12, 13, 14, 15, 16, 17, 18, 19, 20, 21, 22, 23, 24, 25, 26, 27, 28, 29, 30, 31, 32, 33, 34, 35, 36, 37, 38, 39, 40, 41, 42, 43, 44, 45, 46, 47, 48, 49, 50, 51, 52, 53, 54, 55, 56, 57, 58] f H) (origRow call it base s_gnomonref05_SameInstr_r1t12 [2, 3, 5, 6, 7, 8, 9, 10, 11, 12, 13, 14, 15, 16, 17, 18, 19, 20, 21, 22, 23, 24, 25, 26, 27, 28, 29, 30, 31, 32, 33, 34, 35, 36, 37, 38, 39, 40, 41, 42, 43, 44, 45, 46, 47, 48, 49, 50, 51, 52, 53, 54, 55, 56, 57, 58] f H) := row_last call it base _ f H
def s_gnomonref05_SameInstr : ACFun := { ntmps := 59, results := [(.tmp 4)], body :=
  (.seq (.region s_gnomonref05_SameInstr_r0 [] s_gnomonref05_SameInstr_r0_k)
  (.seq (.region s_gnomonref05_SameInstr_r1 [] [2, 3, 5, 6, 7, 8, 9, 10, 11, 12, 13, 14, 15, 16, 17, 18, 19, 20, 21, 22, 23, 24, 25, 26, 27, 28, 29, 30, 31, 32, 33, 34, 35, 36, 37, 38, 39, 40, 41, 42, 43, 44, 45, 46, 47, 48, 49, 50, 51, 52, 53, 54, 55, 56, 57, 58])
  .ret)) }
theorem s_gnomonref05_SameInstr_first : firstOk (List.range' 2 (s_gnomonref05_SameInstr.ntmps - 2)) s_gnomonref05_SameInstr.body = true := by kernel_rfl
/- 19 gnomon/cfg.some -/
abbrev k_cfg_some : Nat := 19
def s_cfg_some_r0_k : List Nat := [1, 2, 3, 4]
theorem s_cfg_some_r0_kT : killV s_cfg_some_r0_k (startV 5 [] 1) = [] := by kernel_rfl
theorem s_cfg_some_r0_kA0 : s_cfg_some_r0_k.contains 0 = false := by kernel_rfl
def s_cfg_some_r0 : List AOper := [
  ⟨some 2, (.move (.c (.s (.slice none 0 0)))), none⟩]
theorem s_cfg_some_r0_tale (fr : List V) (H : Heap) : evTale (symAll s_cfg_some_r0 s_cfg_some_r0_k []) s_cfg_some_r0_k fr H = evTale (some (3, [], [])) s_cfg_some_r0_k fr H := tale_row (items := [.cc (.s (.slice none 0 0))]) (by kernel_rfl) fr H
def s_cfg_some_r1t2 : List AOper := [⟨some 2, (.move (.t 4)), none⟩]
def s_cfg_some_r1p1 : List AOper := [⟨some 4, (.call (.c (.fn 26 [] [])) [(.t 3), (.c (.fn 27 [] []))]), none⟩]
def s_cfg_some_r1t1 : List AOper := s_cfg_some_r1p1 ++ s_cfg_some_r1t2
def s_cfg_some_r1p0 : List AOper := [⟨some 3, (.move (.t 0)), none⟩]
def s_cfg_some_r1 : List AOper := s_cfg_some_r1p0 ++ s_cfg_some_r1t1
theorem s_cfg_some_r1p0_tale (fr : List V) (H : Heap) : evTale (symAll s_cfg_some_r1p0 [0] [3]) [0] fr H = evTale (some (4, [], [(3, (.t 0))])) [0] fr H := tale_row (items := [.tt 0]) (by kernel_rfl) fr H
theorem s_cfg_some_r1_x (call : CallF) (it : IterF) (base : Nat) (f : List V) (H : Heap) : evC call it base (.region s_cfg_some_r1 [] [0, 3, 4]) f H = segC call it base s_cfg_some_r1t1 [0, 3, 4] H (evTale (symAll s_cfg_some_r1p0 [0] [3]) [0] f H) (origRow call it base s_cfg_some_r1 [0, 3, 4] f H) := row_seg call it base s_cfg_some_r1p0 s_cfg_some_r1t1 (by kernel_rfl) f H
theorem s_cfg_some_r1t1_x (call : CallF) (it : IterF) (base : Nat) (f : List V) (H : Heap) : evC call it base (.region s_cfg_some_r1t1 [] [0, 3, 4]) f H = thenC call it base (.region s_cfg_some_r1t2 [] [0, 3, 4]) (opsC [] s_cfg_some_r1p1 [3] (evOps call base [⟨some 4, (.call (.c (.fn 26 [] [])) [(.t 3), (.c (.fn 27 [] []))]), none⟩] f H)) := (row_op call it base s_cfg_some_r1p1 s_cfg_some_r1t2 (kc := [3]) (by kernel_rfl) f H).trans (by rw [row_ops]; rfl)
theorem s_cfg_some_r1t2_tale (fr : List V) (H : Heap) : evTale (symAll s_cfg_some_r1t2 [0, 3, 4] [2]) [0, 3, 4] fr H = evTale (some (3, [], [(2, (.t 4))])) [0, 3, 4] fr H := tale_row (items := [.tt 4]) (by kernel_rfl) fr H
theorem s_cfg_some_r1t2_x (call : CallF) (it : IterF) (base : Nat) (f : List V) (H : Heap) : evC call it base (.region s_cfg_some_r1t2 [] [0, 3, 4]) f H = segL H (evTale (symAll s_cfg_some_r1t2 [0, 3, 4] [2]) [0, 3, 4] f H) (origRow call it base s_cfg_some_r1t2 [0, 3, 4] f H) := row_last call it base _ f H
def s_cfg_some : ACFun := { ntmps := 5, results := [(.tmp 2)], body :=
  (.seq (.regionE s_cfg_some_r0 s_cfg_some_r0_k [])
  (.seq (.region s_cfg_some_r1 [] [0, 3, 4])
  .ret)) }
/- 20 gnomon/gnomonref05.sameTexts -/
abbrev k_gnomonref05_sameTexts : Nat := 20
def s_gnomonref05_sameTexts_r0_k : List Nat := [2, 3, 4, 5, 6, 7, 8, 9, 10, 11, 12, 13, 14, 15, 16, 17, 18, 19, 20, 21, 22, 23, 24, 25]
theorem s_gnomonref05_sameTexts_r0_kT : killV s_gnomonref05_sameTexts_r0_k (startV 26 [] 2) = [] := by kernel_rfl
theorem s_gnomonref05_sameTexts_r0_kA0 : s_gnomonref05_sameTexts_r0_k.contains 0 = false := by kernel_rfl
theorem s_gnomonref05_sameTexts_r0_kA1 : s_gnomonref05_sameTexts_r0_k.contains 1 = false := by kernel_rfl
def s_gnomonref05_sameTexts_r0 : List AOper := [
  ⟨some 4, (.move (.c (.s (.bool false)))), none⟩]
theorem s_gnomonref05_sameTexts_r0_tale (fr : List V) (H : Heap) : evTale (symAll s_gnomonref05_sameTexts_r0 s_gnomonref05_sameTexts_r0_k []) s_gnomonref05_sameTexts_r0_k fr H = evTale (some (5, [], [])) s_gnomonref05_sameTexts_r0_k fr H := tale_row (items := [.cc (.s (.bool false))]) (by kernel_rfl) fr H
def s_gnomonref05_sameTexts_r1 : List AOper := [
  ⟨some 6, (.move (.t 0)), none⟩,
  ⟨some 7, (.lenS .s (.t 6)), none⟩,
  ⟨some 8, (.move (.t 1)), none⟩,
  ⟨some 9, (.lenS .s (.t 8)), none⟩,
  ⟨some 10, (.bin .neq (.t 7) (.t 9)), none⟩]
theorem s_gnomonref05_sameTexts_r1_tale (fr : List V) (H : Heap) : evTale (symAll s_gnomonref05_sameTexts_r1 [6, 7, 8, 9] [10]) [6, 7, 8, 9] fr H = evTale (some (11, [], [(10, (.op (.bin .neq (.t 0) (.t 1)) [(.op (.lenS .s (.t 0)) [(.t 0)]), (.op (.lenS .s (.t 0)) [(.t 1)])]))])) [6, 7, 8, 9] fr H := tale_row (items := [.tt 0, .sub 0 [0] [], .tt 1, .sub 0 [1] [], .sub 0 [] []]) (by kernel_rfl) fr H
def s_gnomonref05_sameTexts_r2 : List AOper := [
  ⟨some 4, (.move (.c (.s (.bool false)))), none⟩]
theorem s_gnomonref05_sameTexts_r2_tale (fr : List V) (H : Heap) : evTale (symAll s_gnomonref05_sameTexts_r2 [0, 1, 10] [4]) [0, 1, 10] fr H = evTale (some (5, [], [(4, (.c (.s (.bool false))))])) [0, 1, 10] fr H := tale_row (items := [.cc (.s (.bool false))]) (by kernel_rfl) fr H
def s_gnomonref05_sameTexts_r3 : List AOper := [
  ⟨some 5, (.move (.c (.s (.int .i64 0)))), none⟩]
theorem s_gnomonref05_sameTexts_r3_tale (fr : List V) (H : Heap) : evTale (symAll s_gnomonref05_sameTexts_r3 [10] [5]) [10] fr H = evTale (some (6, [], [(5, (.c (.s (.int .i64 0))))])) [10] fr H := tale_row (items := [.cc (.s (.int .i64 0))]) (by kernel_rfl) fr H
def s_gnomonref05_sameTexts_r4 : List AOper := [
  ⟨some 11, (.move (.t 5)), none⟩,
  ⟨some 12, (.move (.t 0)), none⟩,
  ⟨some 13, (.lenS .s (.t 12)), none⟩,
  ⟨some 14, (.bin .lss (.t 11) (.t 13)), none⟩]
theorem s_gnomonref05_sameTexts_r4_tale (fr : List V) (H : Heap) : evTale (symAll s_gnomonref05_sameTexts_r4 [11, 12, 13] [14]) [11, 12, 13] fr H = evTale (some (15, [], [(14, (.op (.bin .lss (.t 0) (.t 1)) [(.t 5), (.op (.lenS .s (.t 0)) [(.t 0)])]))])) [11, 12, 13] fr H := tale_row (items := [.tt 5, .tt 0, .sub 0 [1] [], .sub 0 [] []]) (by kernel_rfl) fr H
def s_gnomonref05_sameTexts_r5 : List AOper := [
  ⟨some 17, (.move (.t 0)), none⟩,
  ⟨some 18, (.move (.t 5)), none⟩,
  ⟨some 19, (.indexAddr 1 (.t 17) (.t 18)), none⟩,
  ⟨some 20, (.load false 1 (.t 19)), none⟩,
  ⟨some 21, (.move (.t 1)), none⟩,
  ⟨some 22, (.move (.t 5)), none⟩,
  ⟨some 23, (.indexAddr 1 (.t 21) (.t 22)), none⟩,
  ⟨some 24, (.load false 1 (.t 23)), none⟩,
  ⟨some 25, (.bin .neq (.t 20) (.t 24)), none⟩]
theorem s_gnomonref05_sameTexts_r5_tale (fr : List V) (H : Heap) : evTale (symAll s_gnomonref05_sameTexts_r5 [14, 17, 18, 19, 20, 21, 22, 23, 24] [25]) [14, 17, 18, 19, 20, 21, 22, 23, 24] fr H = evTale (some (26, [], [(25, (.op (.bin .neq (.t 0) (.t 1)) [(.op (.load false 1 (.t 0)) [(.op (.indexAddr 1 (.t 0) (.t 1)) [(.t 0), (.t 5)])]), (.op (.load false 1 (.t 0)) [(.op (.indexAddr 1 (.t 0) (.t 1)) [(.t 1), (.t 5)])])]))])) [14, 17, 18, 19, 20, 21, 22, 23, 24] fr H := tale_row (items := [.tt 0, .tt 5, .sub 0 [0, 0] [], .sub 0 [0] [], .tt 1, .tt 5, .sub 0 [1, 0] [], .sub 0 [1] [], .sub 0 [] []]) (by kernel_rfl) fr H
def s_gnomonref05_sameTexts_r6 : List AOper := [
  ⟨some 4, (.move (.c (.s (.bool false)))), none⟩]
theorem s_gnomonref05_sameTexts_r6_tale (fr : List V) (H : Heap) : evTale (symAll s_gnomonref05_sameTexts_r6 [0, 1, 5, 25] [4]) [0, 1, 5, 25] fr H = evTale (some (5, [], [(4, (.c (.s (.bool false))))])) [0, 1, 5, 25] fr H := tale_row (items := [.cc (.s (.bool false))]) (by kernel_rfl) fr H
def s_gnomonref05_sameTexts_r7 : List AOper := [
  ⟨some 15, (.move (.t 5)), none⟩,
  ⟨some 16, (.bin .add (.t 15) (.c (.s (.int .i64 1)))), none⟩,
  ⟨some 5, (.move (.t 16)), none⟩]
theorem s_gnomonref05_sameTexts_r7_tale (fr : List V) (H : Heap) : evTale (symAll s_gnomonref05_sameTexts_r7 [15, 16, 25] [5]) [15, 16, 25] fr H = evTale (some (17, [], [(5, (.op (.bin .add (.t 0) (.c (.s (.int .i64 1)))) [(.t 5), (.c (.s (.int .i64 1)))]))])) [15, 16, 25] fr H := tale_row (items := [.tt 5, .sub 0 [] [], .sub 0 [] []]) (by kernel_rfl) fr H
def s_gnomonref05_sameTexts_l0_b : ACode :=
  (.seq (.seq (.regionE s_gnomonref05_sameTexts_r4 [11, 12, 13] [14])
  (.cond (.t 14)
  .skip
  (.exit 0)))
  (.seq (.block 1
  (.seq (.regionE s_gnomonref05_sameTexts_r5 [14, 17, 18, 19, 20, 21, 22, 23, 24] [25])
  (.cond (.t 25)
  (.seq (.regionE s_gnomonref05_sameTexts_r6 [0, 1, 5, 25] [4])
  .ret)
  .skip)))
  (.regionE s_gnomonref05_sameTexts_r7 [15, 16, 25] [5])))
def s_gnomonref05_sameTexts_l0 : ACode := s_gnomonref05_sameTexts_l0_b
theorem s_gnomonref05_sameTexts_l0_ev (call : CallF) (it : IterF) (base : Nat) (fr : List V) (H : Heap) : evC call it base s_gnomonref05_sameTexts_l0 fr H = evC call it base s_gnomonref05_sameTexts_l0_b fr H := rfl
def s_gnomonref05_sameTexts_r8 : List AOper := [
  ⟨some 4, (.move (.c (.s (.bool true)))), none⟩]
theorem s_gnomonref05_sameTexts_r8_tale (fr : List V) (H : Heap) : evTale (symAll s_gnomonref05_sameTexts_r8 [0, 1, 5, 14] [4]) [0, 1, 5, 14] fr H = evTale (some (5, [], [(4, (.c (.s (.bool true))))])) [0, 1, 5, 14] fr H := tale_row (items := [.cc (.s (.bool true))]) (by kernel_rfl) fr H
def s_gnomonref05_sameTexts : ACFun := { ntmps := 26, results := [(.tmp 4)], body :=
  (.seq (.regionE s_gnomonref05_sameTexts_r0 s_gnomonref05_sameTexts_r0_k [])
  (.seq (.seq (.regionE s_gnomonref05_sameTexts_r1 [6, 7, 8, 9] [10])
  (.cond (.t 10)
  (.seq (.regionE s_gnomonref05_sameTexts_r2 [0, 1, 10] [4])
  .ret)
  .skip))
  (.seq (.seq (.regionE s_gnomonref05_sameTexts_r3 [10] [5])
  (.block 0
  (.loop [] s_gnomonref05_sameTexts_l0)))
  (.seq (.regionE s_gnomonref05_sameTexts_r8 [0, 1, 5, 14] [4])
  .ret)))) }
/- 26 slices.DeleteFunc[[]string,string] -/
abbrev k_slices_DeleteFunc_string_string : Nat := 26
def s_slices_DeleteFunc_string_string_r0_k : List Nat := [2, 3, 4, 5, 6, 7, 8, 9, 10, 11, 12, 13, 14, 15, 16, 17, 18, 19, 20, 21, 22, 23, 24, 25, 26, 27, 28, 29, 30, 31, 32, 33, 34, 35, 36, 37, 38, 39, 40, 41]
theorem s_slices_DeleteFunc_string_string_r0_kT : killV s_slices_DeleteFunc_string_string_r0_k (startV 42 [] 2) = [] := by kernel_rfl
theorem s_slices_DeleteFunc_string_string_r0_kA0 : s_slices_DeleteFunc_string_string_r0_k.contains 0 = false := by kernel_rfl
theorem s_slices_DeleteFunc_string_string_r0_kA1 : s_slices_DeleteFunc_string_string_r0_k.contains 1 = false := by kernel_rfl
def s_slices_DeleteFunc_string_string_r0 : List AOper := [
  ⟨some 4, (.move (.c (.s (.slice none 0 0)))), none⟩]
theorem s_slices_DeleteFunc_string_string_r0_tale (fr : List V) (H : Heap) : evTale (symAll s_slices_DeleteFunc_string_string_r0 s_slices_DeleteFunc_string_string_r0_k []) s_slices_DeleteFunc_string_string_r0_k fr H = evTale (some (5, [], [])) s_slices_DeleteFunc_string_string_r0_k fr H := tale_row (items := [.cc (.s (.slice none 0 0))]) (by kernel_rfl) fr H
def s_slices_DeleteFunc_string_string_r1t2 : List AOper := [⟨some 5, (.move (.t 10)), none⟩]
def s_slices_DeleteFunc_string_string_r1p1 : List AOper := [⟨some 10, (.call (.c (.fn 35 [] [])) [(.t 8), (.t 9)]), none⟩]
def s_slices_DeleteFunc_string_string_r1t1 : List AOper := s_slices_DeleteFunc_string_string_r1p1 ++ s_slices_DeleteFunc_string_string_r1t2
def s_slices_DeleteFunc_string_string_r1p0 : List AOper := [⟨some 8, (.move (.t 0)), none⟩, ⟨some 9, (.move (.t 1)), none⟩]
def s_slices_DeleteFunc_string_string_r1 : List AOper := s_slices_DeleteFunc_string_string_r1p0 ++ s_slices_DeleteFunc_string_string_r1t1
theorem s_slices_DeleteFunc_string_string_r1p0_tale (fr : List V) (H : Heap) : evTale (symAll s_slices_DeleteFunc_string_string_r1p0 [] [8, 9]) [] fr H = evTale (some (10, [], [(8, (.t 0)), (9, (.t 1))])) [] fr H := tale_row (items := [.tt 0, .tt 1]) (by kernel_rfl) fr H
theorem s_slices_DeleteFunc_string_string_r1_x (call : CallF) (it : IterF) (base : Nat) (f : List V) (H : Heap) : evC call it base (.region s_slices_DeleteFunc_string_string_r1 [] [8, 9, 10]) f H = segC call it base s_slices_DeleteFunc_string_string_r1t1 [8, 9, 10] H (evTale (symAll s_slices_DeleteFunc_string_string_r1p0 [] [8, 9]) [] f H) (origRow call it base s_slices_DeleteFunc_string_string_r1 [8, 9, 10] f H) := row_seg call it base s_slices_DeleteFunc_string_string_r1p0 s_slices_DeleteFunc_string_string_r1t1 (by kernel_rfl) f H
theorem s_slices_DeleteFunc_string_string_r1t1_x (call : CallF) (it : IterF) (base : Nat) (f : List V) (H : Heap) : evC call it base (.region s_slices_DeleteFunc_string_string_r1t1 [] [8, 9, 10]) f H = thenC call it base (.region s_slices_DeleteFunc_string_string_r1t2 [] [8, 9, 10]) (opsC [] s_slices_DeleteFunc_string_string_r1p1 [8, 9] (evOps call base [⟨some 10, (.call (.c (.fn 35 [] [])) [(.t 8), (.t 9)]), none⟩] f H)) := (row_op call it base s_slices_DeleteFunc_string_string_r1p1 s_slices_DeleteFunc_string_string_r1t2 (kc := [8, 9]) (by kernel_rfl) f H).trans (by rw [row_ops]; rfl)
theorem s_slices_DeleteFunc_string_string_r1t2_tale (fr : List V) (H : Heap) : evTale (symAll s_slices_DeleteFunc_string_string_r1t2 [8, 9, 10] [5]) [8, 9, 10] fr H = evTale (some (6, [], [(5, (.t 10))])) [8, 9, 10] fr H := tale_row (items := [.tt 10]) (by kernel_rfl) fr H
theorem s_slices_DeleteFunc_string_string_r1t2_x (call : CallF) (it : IterF) (base : Nat) (f : List V) (H : Heap) : evC call it base (.region s_slices_DeleteFunc_string_string_r1t2 [] [8, 9, 10]) f H = segL H (evTale (symAll s_slices_DeleteFunc_string_string_r1t2 [8, 9, 10] [5]) [8, 9, 10] f H) (origRow call it base s_slices_DeleteFunc_string_string_r1t2 [8, 9, 10] f H) := row_last call it base _ f H
def s_slices_DeleteFunc_string_string_r2 : List AOper := [
  ⟨some 11, (.move (.t 5)), none⟩,
  ⟨some 12, (.bin .eql (.t 11) (.c (.s (.int .i64 (-1))))), none⟩]
theorem s_slices_DeleteFunc_string_string_r2_tale (fr : List V) (H : Heap) : evTale (symAll s_slices_DeleteFunc_string_string_r2 [11] [12]) [11] fr H = evTale (some (13, [], [(12, (.op (.bin .eql (.t 0) (.c (.s (.int .i64 (-1))))) [(.t 5), (.c (.s (.int .i64 (-1))))]))])) [11] fr H := tale_row (items := [.tt 5, .sub 0 [] []]) (by kernel_rfl) fr H
def s_slices_DeleteFunc_string_string_r3 : List AOper := [
  ⟨some 13, (.move (.t 0)), none⟩,
  ⟨some 4, (.move (.t 13)), none⟩]
theorem s_slices_DeleteFunc_string_string_r3_tale (fr : List V) (H : Heap) : evTale (symAll s_slices_DeleteFunc_string_string_r3 [0, 1, 5, 12, 13] [4]) [0, 1, 5, 12, 13] fr H = evTale (some (14, [], [(4, (.t 0))])) [0, 1, 5, 12, 13] fr H := tale_row (items := [.tt 0, .tt 0]) (by kernel_rfl) fr H
def s_slices_DeleteFunc_string_string_r4 : List AOper := [
  ⟨some 14, (.move (.t 5)), none⟩,
  ⟨some 15, (.bin .add (.t 14) (.c (.s (.int .i64 1)))), none⟩,
  ⟨some 6, (.move (.t 15)), none⟩]
theorem s_slices_DeleteFunc_string_string_r4_tale (fr : List V) (H : Heap) : evTale (symAll s_slices_DeleteFunc_string_string_r4 [12, 14, 15] [6]) [12, 14, 15] fr H = evTale (some (16, [], [(6, (.op (.bin .add (.t 0) (.c (.s (.int .i64 1)))) [(.t 5), (.c (.s (.int .i64 1)))]))])) [12, 14, 15] fr H := tale_row (items := [.tt 5, .sub 0 [] [], .sub 0 [] []]) (by kernel_rfl) fr H
def s_slices_DeleteFunc_string_string_r5 : List AOper := [
  ⟨some 16, (.move (.t 6)), none⟩,
  ⟨some 17, (.move (.t 0)), none⟩,
  ⟨some 18, (.lenS .s (.t 17)), none⟩,
  ⟨some 19, (.bin .lss (.t 16) (.t 18)), none⟩]
theorem s_slices_DeleteFunc_string_string_r5_tale (fr : List V) (H : Heap) : evTale (symAll s_slices_DeleteFunc_string_string_r5 [16, 17, 18] [19]) [16, 17, 18] fr H = evTale (some (20, [], [(19, (.op (.bin .lss (.t 0) (.t 1)) [(.t 6), (.op (.lenS .s (.t 0)) [(.t 0)])]))])) [16, 17, 18] fr H := tale_row (items := [.tt 6, .tt 0, .sub 0 [1] [], .sub 0 [] []]) (by kernel_rfl) fr H
def s_slices_DeleteFunc_string_string_r6 : List AOper := [
  ⟨some 22, (.move (.t 0)), none⟩,
  ⟨some 23, (.move (.t 6)), none⟩,
  ⟨some 24, (.indexAddr 1 (.t 22) (.t 23)), none⟩,
  ⟨some 25, (.load false 1 (.t 24)), none⟩,
  ⟨some 7, (.move (.t 25)), none⟩]
theorem s_slices_DeleteFunc_string_string_r6_tale (fr : List V) (H : Heap) : evTale (symAll s_slices_DeleteFunc_string_string_r6 [19, 22, 23, 24, 25] [7]) [19, 22, 23, 24, 25] fr H = evTale (some (26, [], [(7, (.op (.load false 1 (.t 0)) [(.op (.indexAddr 1 (.t 0) (.t 1)) [(.t 0), (.t 6)])]))])) [19, 22, 23, 24, 25] fr H := tale_row (items := [.tt 0, .tt 6, .sub 0 [0] [], .sub 0 [] [], .sub 0 [] []]) (by kernel_rfl) fr H
def s_slices_DeleteFunc_string_string_r7t2 : List AOper := [⟨some 29, (.un .not (.t 28)), none⟩]
def s_slices_DeleteFunc_string_string_r7p1 : List AOper := [⟨some 28, (.call (.t 26) [(.t 27)]), none⟩]
def s_slices_DeleteFunc_string_string_r7t1 : List AOper := s_slices_DeleteFunc_string_string_r7p1 ++ s_slices_DeleteFunc_string_string_r7t2
def s_slices_DeleteFunc_string_string_r7p0 : List AOper := [⟨some 26, (.move (.t 1)), none⟩, ⟨some 27, (.move (.t 7)), none⟩]
def s_slices_DeleteFunc_string_string_r7 : List AOper := s_slices_DeleteFunc_string_string_r7p0 ++ s_slices_DeleteFunc_string_string_r7t1
theorem s_slices_DeleteFunc_string_string_r7p0_tale (fr : List V) (H : Heap) : evTale (symAll s_slices_DeleteFunc_string_string_r7p0 [] [26, 27]) [] fr H = evTale (some (28, [], [(26, (.t 1)), (27, (.t 7))])) [] fr H := tale_row (items := [.tt 1, .tt 7]) (by kernel_rfl) fr H
theorem s_slices_DeleteFunc_string_string_r7_x (call : CallF) (it : IterF) (base : Nat) (f : List V) (H : Heap) : evC call it base (.region s_slices_DeleteFunc_string_string_r7 [] [26, 27, 28]) f H = segC call it base s_slices_DeleteFunc_string_string_r7t1 [26, 27, 28] H (evTale (symAll s_slices_DeleteFunc_string_string_r7p0 [] [26, 27]) [] f H) (origRow call it base s_slices_DeleteFunc_string_string_r7 [26, 27, 28] f H) := row_seg call it base s_slices_DeleteFunc_string_string_r7p0 s_slices_DeleteFunc_string_string_r7t1 (by kernel_rfl) f H
theorem s_slices_DeleteFunc_string_string_r7t1_x (call : CallF) (it : IterF) (base : Nat) (f : List V) (H : Heap) : evC call it base (.region s_slices_DeleteFunc_string_string_r7t1 [] [26, 27, 28]) f H = thenC call it base (.region s_slices_DeleteFunc_string_string_r7t2 [] [26, 27, 28]) (opsC [] s_slices_DeleteFunc_string_string_r7p1 [26, 27] (evOps call base [⟨some 28, (.call (.t 26) [(.t 27)]), none⟩] f H)) := (row_op call it base s_slices_DeleteFunc_string_string_r7p1 s_slices_DeleteFunc_string_string_r7t2 (kc := [26, 27]) (by kernel_rfl) f H).trans (by rw [row_ops]; rfl)
theorem s_slices_DeleteFunc_string_string_r7t2_tale (fr : List V) (H : Heap) : evTale (symAll s_slices_DeleteFunc_string_string_r7t2 [26, 27, 28] [29]) [26, 27, 28] fr H = evTale (some (30, [], [(29, (.op (.un .not (.t 0)) [(.t 28)]))])) [26, 27, 28] fr H := tale_row (items := [.sub 0 [] []]) (by kernel_rfl) fr H
theorem s_slices_DeleteFunc_string_string_r7t2_x (call : CallF) (it : IterF) (base : Nat) (f : List V) (H : Heap) : evC call it base (.region s_slices_DeleteFunc_string_string_r7t2 [] [26, 27, 28]) f H = segL H (evTale (symAll s_slices_DeleteFunc_string_string_r7t2 [26, 27, 28] [29]) [26, 27, 28] f H) (origRow call it base s_slices_DeleteFunc_string_string_r7t2 [26, 27, 28] f H) := row_last call it base _ f H
def s_slices_DeleteFunc_string_string_r8t1 : List AOper := [⟨none, (.store 1 (.t 33) (.t 32)), none⟩]
def s_slices_DeleteFunc_string_string_r8p0 : List AOper := [⟨some 30, (.move (.t 0)), none⟩, ⟨some 31, (.move (.t 5)), none⟩, ⟨some 32, (.move (.t 7)), none⟩, ⟨some 33, (.indexAddr 1 (.t 30) (.t 31)), none⟩]
def s_slices_DeleteFunc_string_string_r8 : List AOper := s_slices_DeleteFunc_string_string_r8p0 ++ s_slices_DeleteFunc_string_string_r8t1
theorem s_slices_DeleteFunc_string_string_r8p0_tale (fr : List V) (H : Heap) : evTale (symAll s_slices_DeleteFunc_string_string_r8p0 [7, 29, 30, 31] [32, 33]) [7, 29, 30, 31] fr H = evTale (some (34, [], [(32, (.t 7)), (33, (.op (.indexAddr 1 (.t 0) (.t 1)) [(.t 0), (.t 5)]))])) [7, 29, 30, 31] fr H := tale_row (items := [.tt 0, .tt 5, .tt 7, .sub 1 [] []]) (by kernel_rfl) fr H
theorem s_slices_DeleteFunc_string_string_r8_x (call : CallF) (it : IterF) (base : Nat) (f : List V) (H : Heap) : evC call it base (.region s_slices_DeleteFunc_string_string_r8 [] [7, 29, 30, 31, 32, 33]) f H = segC call it base s_slices_DeleteFunc_string_string_r8t1 [7, 29, 30, 31, 32, 33] H (evTale (symAll s_slices_DeleteFunc_string_string_r8p0 [7, 29, 30, 31] [32, 33]) [7, 29, 30, 31] f H) (origRow call it base s_slices_DeleteFunc_string_string_r8 [7, 29, 30, 31, 32, 33] f H) := row_seg call it base s_slices_DeleteFunc_string_string_r8p0 s_slices_DeleteFunc_string_string_r8t1 (by kernel_rfl) f H
theorem s_slices_DeleteFunc_string_string_r8t1_x (call : CallF) (it : IterF) (base : Nat) (f : List V) (H : Heap) : evC call it base (.region s_slices_DeleteFunc_string_string_r8t1 [] [7, 29, 30, 31, 32, 33]) f H = opsC [] s_slices_DeleteFunc_string_string_r8t1 [7, 29, 30, 31, 32, 33] (evOps call base [⟨none, (.store 1 (.t 33) (.t 32)), none⟩] f H) := row_ops call it base _ _ _ f H
def s_slices_DeleteFunc_string_string_r9 : List AOper := [
  ⟨some 34, (.move (.t 5)), none⟩,
  ⟨some 35, (.bin .add (.t 34) (.c (.s (.int .i64 1)))), none⟩,
  ⟨some 5, (.move (.t 35)), none⟩]
theorem s_slices_DeleteFunc_string_string_r9_tale (fr : List V) (H : Heap) : evTale (symAll s_slices_DeleteFunc_string_string_r9 [34, 35] [5]) [34, 35] fr H = evTale (some (36, [], [(5, (.op (.bin .add (.t 0) (.c (.s (.int .i64 1)))) [(.t 5), (.c (.s (.int .i64 1)))]))])) [34, 35] fr H := tale_row (items := [.tt 5, .sub 0 [] [], .sub 0 [] []]) (by kernel_rfl) fr H
def s_slices_DeleteFunc_string_string_r10 : List AOper := [
  ⟨some 20, (.move (.t 6)), none⟩,
  ⟨some 21, (.bin .add (.t 20) (.c (.s (.int .i64 1)))), none⟩,
  ⟨some 6, (.move (.t 21)), none⟩]
theorem s_slices_DeleteFunc_string_string_r10_tale (fr : List V) (H : Heap) : evTale (symAll s_slices_DeleteFunc_string_string_r10 [7, 20, 21, 29] [6]) [7, 20, 21, 29] fr H = evTale (some (22, [], [(6, (.op (.bin .add (.t 0) (.c (.s (.int .i64 1)))) [(.t 6), (.c (.s (.int .i64 1)))]))])) [7, 20, 21, 29] fr H := tale_row (items := [.tt 6, .sub 0 [] [], .sub 0 [] []]) (by kernel_rfl) fr H
def s_slices_DeleteFunc_string_string_l0_b : ACode :=
  (.seq (.seq (.regionE s_slices_DeleteFunc_string_string_r5 [16, 17, 18] [19])
  (.cond (.t 19)
  .skip
  (.exit 0)))
  (.seq (.block 1
  (.seq (.regionE s_slices_DeleteFunc_string_string_r6 [19, 22, 23, 24, 25] [7])
  (.seq (.region s_slices_DeleteFunc_string_string_r7 [] [26, 27, 28])
  (.cond (.t 29)
  (.seq (.region s_slices_DeleteFunc_string_string_r8 [] [7, 29, 30, 31, 32, 33])
  (.regionE s_slices_DeleteFunc_string_string_r9 [34, 35] [5]))
  .skip))))
  (.regionE s_slices_DeleteFunc_string_string_r10 [7, 20, 21, 29] [6])))
def s_slices_DeleteFunc_string_string_l0 : ACode := s_slices_DeleteFunc_string_string_l0_b
theorem s_slices_DeleteFunc_string_string_l0_ev (call : CallF) (it : IterF) (base : Nat) (fr : List V) (H : Heap) : evC call it base s_slices_DeleteFunc_string_string_l0 fr H = evC call it base s_slices_DeleteFunc_string_string_l0_b fr H := rfl
def s_slices_DeleteFunc_string_string_r11t1 : List AOper := [⟨none, (.clearSl 1 [(.s (.string ⟨#[]⟩))] (.t 38)), none⟩]
def s_slices_DeleteFunc_string_string_r11p0 : List AOper := [⟨some 36, (.move (.t 0)), none⟩, ⟨some 37, (.move (.t 5)), none⟩, ⟨some 38, (.subSl 1 (.t 36) (some (.t 37)) none none), none⟩]
def s_slices_DeleteFunc_string_string_r11 : List AOper := s_slices_DeleteFunc_string_string_r11p0 ++ s_slices_DeleteFunc_string_string_r11t1
theorem s_slices_DeleteFunc_string_string_r11p0_tale (fr : List V) (H : Heap) : evTale (symAll s_slices_DeleteFunc_string_string_r11p0 [1, 6, 19, 36, 37] [38]) [1, 6, 19, 36, 37] fr H = evTale (some (39, [], [(38, (.op (.subSl 1 (.t 0) (some (.t 1)) none none) [(.t 0), (.t 5)]))])) [1, 6, 19, 36, 37] fr H := tale_row (items := [.tt 0, .tt 5, .sub 0 [] []]) (by kernel_rfl) fr H
theorem s_slices_DeleteFunc_string_string_r11_x (call : CallF) (it : IterF) (base : Nat) (f : List V) (H : Heap) : evC call it base (.region s_slices_DeleteFunc_string_string_r11 [] [1, 6, 19, 36, 37, 38]) f H = segC call it base s_slices_DeleteFunc_string_string_r11t1 [1, 6, 19, 36, 37, 38] H (evTale (symAll s_slices_DeleteFunc_string_string_r11p0 [1, 6, 19, 36, 37] [38]) [1, 6, 19, 36, 37] f H) (origRow call it base s_slices_DeleteFunc_string_string_r11 [1, 6, 19, 36, 37, 38] f H) := row_seg call it base s_slices_DeleteFunc_string_string_r11p0 s_slices_DeleteFunc_string_string_r11t1 (by kernel_rfl) f H
theorem s_slices_DeleteFunc_string_string_r11t1_x (call : CallF) (it : IterF) (base : Nat) (f : List V) (H : Heap) : evC call it base (.region s_slices_DeleteFunc_string_string_r11t1 [] [1, 6, 19, 36, 37, 38]) f H = opsC [] s_slices_DeleteFunc_string_string_r11t1 [1, 6, 19, 36, 37, 38] (evOps call base [⟨none, (.clearSl 1 [(.s (.string ⟨#[]⟩))] (.t 38)), none⟩] f H) := row_ops call it base _ _ _ f H
def s_slices_DeleteFunc_string_string_r12 : List AOper := [
  ⟨some 39, (.move (.t 0)), none⟩,
  ⟨some 40, (.move (.t 5)), none⟩,
  ⟨some 41, (.subSl 1 (.t 39) none (some (.t 40)) none), none⟩,
  ⟨some 4, (.move (.t 41)), none⟩]
theorem s_slices_DeleteFunc_string_string_r12_tale (fr : List V) (H : Heap) : evTale (symAll s_slices_DeleteFunc_string_string_r12 [0, 5, 39, 40, 41] [4]) [0, 5, 39, 40, 41] fr H = evTale (some (42, [], [(4, (.op (.subSl 1 (.t 0) none (some (.t 1)) none) [(.t 0), (.t 5)]))])) [0, 5, 39, 40, 41] fr H := tale_row (items := [.tt 0, .tt 5, .sub 0 [] [], .sub 0 [] []]) (by kernel_rfl) fr H
def s_slices_DeleteFunc_string_string : ACFun := { ntmps := 42, results := [(.tmp 4)], body :=
  (.seq (.regionE s_slices_DeleteFunc_string_string_r0 s_slices_DeleteFunc_string_string_r0_k [])
  (.seq (.region s_slices_DeleteFunc_string_string_r1 [] [8, 9, 10])
  (.seq (.seq (.regionE s_slices_DeleteFunc_string_string_r2 [11] [12])
  (.cond (.t 12)
  (.seq (.regionE s_slices_DeleteFunc_string_string_r3 [0, 1, 5, 12, 13] [4])
  .ret)
  .skip))
  (.seq (.seq (.regionE s_slices_DeleteFunc_string_string_r4 [12, 14, 15] [6])
  (.block 0
  (.loop [] s_slices_DeleteFunc_string_string_l0)))
  (.seq (.region s_slices_DeleteFunc_string_string_r11 [] [1, 6, 19, 36, 37, 38])
  (.seq (.regionE s_slices_DeleteFunc_string_string_r12 [0, 5, 39, 40, 41] [4])
  .ret)))))) }
/- 27 gnomon/cfg.some$1 -/
abbrev k_cfg_some_1 : Nat := 27
def s_cfg_some_1_r0_k : List Nat := [1, 2, 3, 4, 5, 6, 7, 8]
theorem s_cfg_some_1_r0_kT : killV s_cfg_some_1_r0_k (startV 9 [] 1) = [] := by kernel_rfl
theorem s_cfg_some_1_r0_kA0 : s_cfg_some_1_r0_k.contains 0 = false := by kernel_rfl
def s_cfg_some_1_r0 : List AOper := [
  ⟨some 2, (.move (.c (.s (.bool false)))), none⟩]
theorem s_cfg_some_1_r0_tale (fr : List V) (H : Heap) : evTale (symAll s_cfg_some_1_r0 s_cfg_some_1_r0_k []) s_cfg_some_1_r0_k fr H = evTale (some (3, [], [])) s_cfg_some_1_r0_k fr H := tale_row (items := [.cc (.s (.bool false))]) (by kernel_rfl) fr H
def s_cfg_some_1_r1 : List AOper := [
  ⟨some 3, (.move (.t 0)), none⟩,
  ⟨some 4, (.bin .eql (.t 3) (.c (.s (.string ⟨#[]⟩)))), none⟩,
  ⟨some 5, (.move (.t 4)), none⟩,
  ⟨some 6, (.move (.t 0)), some (5, false)⟩,
  ⟨some 7, (.bin .eql (.t 6) (.c (.s (.string ⟨#[110, 117, 108, 108]⟩)))), some (5, false)⟩,
  ⟨some 8, (.pick (.t 5) (.c (.s (.bool true))) (.t 7)), none⟩,
  ⟨some 2, (.move (.t 8)), none⟩]
theorem s_cfg_some_1_r1_tale (fr : List V) (H : Heap) : evTale (symAll s_cfg_some_1_r1 [0, 3, 4, 5, 6, 7, 8] [2]) [0, 3, 4, 5, 6, 7, 8] fr H = evTale (some (9, [], [(2, (.pick (.op (.bin .eql (.t 0) (.c (.s (.string ⟨#[]⟩)))) [(.t 0), (.c (.s (.string ⟨#[]⟩)))]) (.c (.s (.bool true))) (.op (.bin .eql (.t 0) (.c (.s (.string ⟨#[110, 117, 108, 108]⟩)))) [(.t 0), (.c (.s (.string ⟨#[110, 117, 108, 108]⟩)))])))])) [0, 3, 4, 5, 6, 7, 8] fr H := tale_row (items := [.tt 0, .sub 0 [0] [], .sub 0 [0] [], .sub 0 [2, 0] [5], .sub 0 [2] [5], .sub 0 [] [], .sub 0 [] []]) (by kernel_rfl) fr H
def s_cfg_some_1 : ACFun := { ntmps := 9, results := [(.tmp 2)], body :=
  (.seq (.regionE s_cfg_some_1_r0 s_cfg_some_1_r0_k [])
  (.seq (.regionE s_cfg_some_1_r1 [0, 3, 4, 5, 6, 7, 8] [2])
  .ret)) }
/- 35 slices.IndexFunc[[]string,string] -/
abbrev k_slices_IndexFunc_string_string : Nat := 35
def s_slices_IndexFunc_string_string_r0_k : List Nat := [2, 3, 4, 5, 6, 7, 8, 9, 10, 11, 12, 13, 14, 15, 16, 17, 18]
theorem s_slices_IndexFunc_string_string_r0_kT : killV s_slices_IndexFunc_string_string_r0_k (startV 19 [] 2) = [] := by kernel_rfl
theorem s_slices_IndexFunc_string_string_r0_kA0 : s_slices_IndexFunc_string_string_r0_k.contains 0 = false := by kernel_rfl
theorem s_slices_IndexFunc_string_string_r0_kA1 : s_slices_IndexFunc_string_string_r0_k.contains 1 = false := by kernel_rfl
def s_slices_IndexFunc_string_string_r0 : List AOper := [
  ⟨some 4, (.move (.c (.s (.int .i64 0)))), none⟩]
theorem s_slices_IndexFunc_string_string_r0_tale (fr : List V) (H : Heap) : evTale (symAll s_slices_IndexFunc_string_string_r0 s_slices_IndexFunc_string_string_r0_k []) s_slices_IndexFunc_string_string_r0_k fr H = evTale (some (5, [], [])) s_slices_IndexFunc_string_string_r0_k fr H := tale_row (items := [.cc (.s (.int .i64 0))]) (by kernel_rfl) fr H
def s_slices_IndexFunc_string_string_r1 : List AOper := [
  ⟨some 6, (.move (.t 0)), none⟩,
  ⟨some 7, (.lenS .s (.t 6)), none⟩,
  ⟨some 8, (.move (.c (.s (.int .i64 0)))), none⟩]
theorem s_slices_IndexFunc_string_string_r1_tale (fr : List V) (H : Heap) : evTale (symAll s_slices_IndexFunc_string_string_r1 [6] [7, 8]) [6] fr H = evTale (some (9, [], [(7, (.op (.lenS .s (.t 0)) [(.t 0)])), (8, (.c (.s (.int .i64 0))))])) [6] fr H := tale_row (items := [.tt 0, .sub 0 [] [], .cc (.s (.int .i64 0))]) (by kernel_rfl) fr H
def s_slices_IndexFunc_string_string_r2 : List AOper := [
  ⟨some 9, (.bin .lss (.t 8) (.t 7)), none⟩]
theorem s_slices_IndexFunc_string_string_r2_tale (fr : List V) (H : Heap) : evTale (symAll s_slices_IndexFunc_string_string_r2 [] [9]) [] fr H = evTale (some (10, [], [(9, (.op (.bin .lss (.t 0) (.t 1)) [(.t 8), (.t 7)]))])) [] fr H := tale_row (items := [.sub 0 [] []]) (by kernel_rfl) fr H
def s_slices_IndexFunc_string_string_r3 : List AOper := [
  ⟨some 10, (.move (.t 8)), none⟩,
  ⟨some 5, (.move (.t 10)), none⟩]
theorem s_slices_IndexFunc_string_string_r3_tale (fr : List V) (H : Heap) : evTale (symAll s_slices_IndexFunc_string_string_r3 [9, 10] [5]) [9, 10] fr H = evTale (some (11, [], [(5, (.t 8))])) [9, 10] fr H := tale_row (items := [.tt 8, .tt 8]) (by kernel_rfl) fr H
def s_slices_IndexFunc_string_string_r4t1 : List AOper := [⟨some 16, (.call (.t 11) [(.t 15)]), none⟩]
def s_slices_IndexFunc_string_string_r4p0 : List AOper := [⟨some 11, (.move (.t 1)), none⟩, ⟨some 12, (.move (.t 0)), none⟩, ⟨some 13, (.move (.t 5)), none⟩, ⟨some 14, (.indexAddr 1 (.t 12) (.t 13)), none⟩, ⟨some 15, (.load false 1 (.t 14)), none⟩]
def s_slices_IndexFunc_string_string_r4 : List AOper := s_slices_IndexFunc_string_string_r4p0 ++ s_slices_IndexFunc_string_string_r4t1
theorem s_slices_IndexFunc_string_string_r4p0_tale (fr : List V) (H : Heap) : evTale (symAll s_slices_IndexFunc_string_string_r4p0 [12, 13, 14] [11, 15]) [12, 13, 14] fr H = evTale (some (16, [], [(11, (.t 1)), (15, (.op (.load false 1 (.t 0)) [(.op (.indexAddr 1 (.t 0) (.t 1)) [(.t 0), (.t 5)])]))])) [12, 13, 14] fr H := tale_row (items := [.tt 1, .tt 0, .tt 5, .sub 1 [0] [], .sub 1 [] []]) (by kernel_rfl) fr H
theorem s_slices_IndexFunc_string_string_r4_x (call : CallF) (it : IterF) (base : Nat) (f : List V) (H : Heap) : evC call it base (.region s_slices_IndexFunc_string_string_r4 [] [11, 12, 13, 14, 15]) f H = segC call it base s_slices_IndexFunc_string_string_r4t1 [11, 12, 13, 14, 15] H (evTale (symAll s_slices_IndexFunc_string_string_r4p0 [12, 13, 14] [11, 15]) [12, 13, 14] f H) (origRow call it base s_slices_IndexFunc_string_string_r4 [11, 12, 13, 14, 15] f H) := row_seg call it base s_slices_IndexFunc_string_string_r4p0 s_slices_IndexFunc_string_string_r4t1 (by kernel_rfl) f H
theorem s_slices_IndexFunc_string_string_r4t1_x (call : CallF) (it : IterF) (base : Nat) (f : List V) (H : Heap) : evC call it base (.region s_slices_IndexFunc_string_string_r4t1 [] [11, 12, 13, 14, 15]) f H = opsC [] s_slices_IndexFunc_string_string_r4t1 [11, 12, 13, 14, 15] (evOps call base [⟨some 16, (.call (.t 11) [(.t 15)]), none⟩] f H) := row_ops call it base _ _ _ f H
def s_slices_IndexFunc_string_string_r5 : List AOper := [
  ⟨some 17, (.move (.t 5)), none⟩,
  ⟨some 4, (.move (.t 17)), none⟩]
theorem s_slices_IndexFunc_string_string_r5_tale (fr : List V) (H : Heap) : evTale (symAll s_slices_IndexFunc_string_string_r5 [0, 1, 5, 7, 8, 16, 17] [4]) [0, 1, 5, 7, 8, 16, 17] fr H = evTale (some (18, [], [(4, (.t 5))])) [0, 1, 5, 7, 8, 16, 17] fr H := tale_row (items := [.tt 5, .tt 5]) (by kernel_rfl) fr H
def s_slices_IndexFunc_string_string_r6 : List AOper := [
  ⟨some 18, (.bin .add (.t 8) (.c (.s (.int .i64 1)))), none⟩,
  ⟨some 8, (.move (.t 18)), none⟩]
theorem s_slices_IndexFunc_string_string_r6_tale (fr : List V) (H : Heap) : evTale (symAll s_slices_IndexFunc_string_string_r6 [5, 16, 18] [8]) [5, 16, 18] fr H = evTale (some (19, [], [(8, (.op (.bin .add (.t 0) (.c (.s (.int .i64 1)))) [(.t 8), (.c (.s (.int .i64 1)))]))])) [5, 16, 18] fr H := tale_row (items := [.sub 0 [] [], .sub 0 [] []]) (by kernel_rfl) fr H
def s_slices_IndexFunc_string_string_l0_b : ACode :=
  (.seq (.regionE s_slices_IndexFunc_string_string_r2 [] [9])
  (.seq (.cond (.t 9)
  .skip
  (.exit 0))
  (.seq (.block 1
  (.seq (.regionE s_slices_IndexFunc_string_string_r3 [9, 10] [5])
  (.seq (.region s_slices_IndexFunc_string_string_r4 [] [11, 12, 13, 14, 15])
  (.cond (.t 16)
  (.seq (.regionE s_slices_IndexFunc_string_string_r5 [0, 1, 5, 7, 8, 16, 17] [4])
  .ret)
  .skip))))
  (.regionE s_slices_IndexFunc_string_string_r6 [5, 16, 18] [8]))))
def s_slices_IndexFunc_string_string_l0 : ACode := s_slices_IndexFunc_string_string_l0_b
theorem s_slices_IndexFunc_string_string_l0_ev (call : CallF) (it : IterF) (base : Nat) (fr : List V) (H : Heap) : evC call it base s_slices_IndexFunc_string_string_l0 fr H = evC call it base s_slices_IndexFunc_string_string_l0_b fr H := rfl
def s_slices_IndexFunc_string_string_r7 : List AOper := [
  ⟨some 4, (.move (.c (.s (.int .i64 (-1))))), none⟩]
theorem s_slices_IndexFunc_string_string_r7_tale (fr : List V) (H : Heap) : evTale (symAll s_slices_IndexFunc_string_string_r7 [0, 1, 7, 8, 9] [4]) [0, 1, 7, 8, 9] fr H = evTale (some (5, [], [(4, (.c (.s (.int .i64 (-1)))))])) [0, 1, 7, 8, 9] fr H := tale_row (items := [.cc (.s (.int .i64 (-1)))]) (by kernel_rfl) fr H
def s_slices_IndexFunc_string_string : ACFun := { ntmps := 19, results := [(.tmp 4)], body :=
  (.seq (.regionE s_slices_IndexFunc_string_string_r0 s_slices_IndexFunc_string_string_r0_k [])
  (.seq (.seq (.regionE s_slices_IndexFunc_string_string_r1 [6] [7, 8])
  (.block 0
  (.loop [] s_slices_IndexFunc_string_string_l0)))
  (.seq (.regionE s_slices_IndexFunc_string_string_r7 [0, 1, 7, 8, 9] [4])
  .ret))) }
abbrev k_gnomonlaw10_tells : Nat := 11
def CS0 : Nat → Option CFun
  | 3 => some (.code s_gnomonlaw10_CfgUses)
  | 8 => some (.code s_cfg_Uses)
  | 9 => some (.code s_gnomonref05_Uses)
  | 10 => some (.code s_gnomonref05_SameInstr)
  | 19 => some (.code s_cfg_some)
  | 20 => some (.code s_gnomonref05_sameTexts)
  | 26 => some (.code s_slices_DeleteFunc_string_string)
  | 27 => some (.code s_cfg_some_1)
  | 35 => some (.code s_slices_IndexFunc_string_string)
  | _ => none
theorem CS0_3 : compK Try.prog (fun _ => false) 3 = some (false, s_gnomonlaw10_CfgUses.ntmps, s_gnomonlaw10_CfgUses.results, s_gnomonlaw10_CfgUses.body.bare) := by kernel_rfl
theorem CS0_8 : compK Try.prog (fun _ => false) 8 = some (false, s_cfg_Uses.ntmps, s_cfg_Uses.results, s_cfg_Uses.body.bare) := by kernel_rfl
theorem CS0_9 : compK Try.prog (fun _ => false) 9 = some (false, s_gnomonref05_Uses.ntmps, s_gnomonref05_Uses.results, s_gnomonref05_Uses.body.bare) := by kernel_rfl
theorem CS0_10 : compK Try.prog (fun _ => false) 10 = some (false, s_gnomonref05_SameInstr.ntmps, s_gnomonref05_SameInstr.results, s_gnomonref05_SameInstr.body.bare) := by kernel_rfl
theorem CS0_19 : compK Try.prog (fun _ => false) 19 = some (false, s_cfg_some.ntmps, s_cfg_some.results, s_cfg_some.body.bare) := by kernel_rfl
theorem CS0_20 : compK Try.prog (fun _ => false) 20 = some (false, s_gnomonref05_sameTexts.ntmps, s_gnomonref05_sameTexts.results, s_gnomonref05_sameTexts.body.bare) := by kernel_rfl
theorem CS0_26 : compK Try.prog (fun _ => false) 26 = some (false, s_slices_DeleteFunc_string_string.ntmps, s_slices_DeleteFunc_string_string.results, s_slices_DeleteFunc_string_string.body.bare) := by kernel_rfl
theorem CS0_27 : compK Try.prog (fun _ => false) 27 = some (false, s_cfg_some_1.ntmps, s_cfg_some_1.results, s_cfg_some_1.body.bare) := by kernel_rfl
theorem CS0_35 : compK Try.prog (fun _ => false) 35 = some (false, s_slices_IndexFunc_string_string.ntmps, s_slices_IndexFunc_string_string.results, s_slices_IndexFunc_string_string.body.bare) := by kernel_rfl
theorem CS0_ok : ∀ k c, CS0 k = some c → FunOk Try.prog (fun _ => false) k c := by
  intro k c h
  unfold CS0 at h
  split at h
  · cases h; exact funOk_of CS0_3
  · cases h; exact funOk_of CS0_8
  · cases h; exact funOk_of CS0_9
  · cases h; exact funOk_of CS0_10
  · cases h; exact funOk_of CS0_19
  · cases h; exact funOk_of CS0_20
  · cases h; exact funOk_of CS0_26
  · cases h; exact funOk_of CS0_27
  · cases h; exact funOk_of CS0_35
  · cases h

end Go.Proofs.Ytgimjihhlhjejaa
