/- Texts of the proof: UpdDS4, UpdT1, UpdT2, UpdT3, UpdT4. -/
import Derived.Test.YtlclbbieacjmfaaDoorP0
import Derived.Test.YtlclbbieacjmfaaDoorP1
import Derived.Test.YtlclbbieacjmfaaDoorP2
import Derived.Test.YtlclbbieacjmfaaDoorP3
import Derived.Test.YtlclbbieacjmfaaDoorP4
import Derived.Test.YtlclbbieacjmfaaDoorP5
set_option linter.all false
set_option maxRecDepth 100000
namespace Go.Proofs.YtlclbbieacjmfaaDoor
open Go.AM
abbrev k_gnomonlaw25_UpdateTells : Nat := 3
def s_gnomonlaw25_UpdateTells_r0_k : List Nat := [6, 7, 8, 9, 10, 11, 12, 13, 14, 15, 16, 17, 18, 19, 20, 21, 22, 23, 24, 25, 26, 27, 28, 29, 30, 31, 32, 33, 34, 35, 36, 37, 38, 39, 40, 41, 42, 43, 44, 45, 46, 47, 48, 49, 50, 51, 52, 53, 54, 55, 56, 57, 58, 59, 60, 61, 62, 63, 64, 65, 66, 67, 68, 69, 70, 71, 72, 73, 74, 75, 76, 77, 78, 79, 80, 81, 82, 83, 84, 85, 86, 87, 88, 89, 90, 91, 92, 93, 94, 95, 96, 97, 98, 99, 100, 101, 102, 103, 104, 105, 106, 107, 108, 109, 110, 111, 112, 113, 114, 115, 116, 117, 118, 119, 120, 121, 122, 123, 124, 125, 126, 127, 128, 129, 130, 131, 132, 133, 134, 135, 136, 137, 138, 139, 140, 141, 142, 143, 144, 145, 146, 147, 148, 149, 150, 151, 152, 153, 154, 155]
theorem s_gnomonlaw25_UpdateTells_r0_kT : killV s_gnomonlaw25_UpdateTells_r0_k (startV 156 [] 6) = [] := by kernel_rfl
theorem s_gnomonlaw25_UpdateTells_r0_kA0 : s_gnomonlaw25_UpdateTells_r0_k.contains 0 = false := by kernel_rfl
theorem s_gnomonlaw25_UpdateTells_r0_kA1 : s_gnomonlaw25_UpdateTells_r0_k.contains 1 = false := by kernel_rfl
theorem s_gnomonlaw25_UpdateTells_r0_kA2 : s_gnomonlaw25_UpdateTells_r0_k.contains 2 = false := by kernel_rfl
theorem s_gnomonlaw25_UpdateTells_r0_kA3 : s_gnomonlaw25_UpdateTells_r0_k.contains 3 = false := by kernel_rfl
theorem s_gnomonlaw25_UpdateTells_r0_kA4 : s_gnomonlaw25_UpdateTells_r0_k.contains 4 = false := by kernel_rfl
theorem s_gnomonlaw25_UpdateTells_r0_kA5 : s_gnomonlaw25_UpdateTells_r0_k.contains 5 = false := by kernel_rfl
def s_gnomonlaw25_UpdateTells_r0 : List AOper := [
  ⟨some 12, (.move (.c (.s (.bool false)))), none⟩]
theorem s_gnomonlaw25_UpdateTells_r0_tale (fr : List V) (H : Heap) : evTale (symAll s_gnomonlaw25_UpdateTells_r0 s_gnomonlaw25_UpdateTells_r0_k []) s_gnomonlaw25_UpdateTells_r0_k fr H = evTale (some (13, [], [])) s_gnomonlaw25_UpdateTells_r0_k fr H := tale_row (items := [.cc (.s (.bool false))]) (by kernel_rfl) fr H
def s_gnomonlaw25_UpdateTells_r1t1 : List AOper := [⟨some 26, (.call (.c (.fn 4 [] [])) [(.t 22), (.t 23), (.t 24), (.t 25)]), none⟩]
def s_gnomonlaw25_UpdateTells_r1p0 : List AOper := [⟨some 22, (.move (.t 0)), none⟩, ⟨some 23, (.move (.t 1)), none⟩, ⟨some 24, (.move (.t 2)), none⟩, ⟨some 25, (.move (.t 5)), none⟩]
def s_gnomonlaw25_UpdateTells_r1 : List AOper := s_gnomonlaw25_UpdateTells_r1p0 ++ s_gnomonlaw25_UpdateTells_r1t1
theorem s_gnomonlaw25_UpdateTells_r1p0_tale (fr : List V) (H : Heap) : evTale (symAll s_gnomonlaw25_UpdateTells_r1p0 [] [22, 23, 24, 25]) [] fr H = evTale (some (26, [], [(22, (.t 0)), (23, (.t 1)), (24, (.t 2)), (25, (.t 5))])) [] fr H := tale_row (items := [.tt 0, .tt 1, .tt 2, .tt 5]) (by kernel_rfl) fr H
theorem s_gnomonlaw25_UpdateTells_r1_x (call : CallF) (it : IterF) (base : Nat) (f : List V) (H : Heap) : evC call it base (.region s_gnomonlaw25_UpdateTells_r1 [] [22, 23, 24, 25]) f H = segC call it base s_gnomonlaw25_UpdateTells_r1t1 [22, 23, 24, 25] H (evTale (symAll s_gnomonlaw25_UpdateTells_r1p0 [] [22, 23, 24, 25]) [] f H) (origRow call it base s_gnomonlaw25_UpdateTells_r1 [22, 23, 24, 25] f H) := row_seg call it base s_gnomonlaw25_UpdateTells_r1p0 s_gnomonlaw25_UpdateTells_r1t1 (by kernel_rfl) f H
theorem s_gnomonlaw25_UpdateTells_r1t1_x (call : CallF) (it : IterF) (base : Nat) (f : List V) (H : Heap) : evC call it base (.region s_gnomonlaw25_UpdateTells_r1t1 [] [22, 23, 24, 25]) f H = opsC [] s_gnomonlaw25_UpdateTells_r1t1 [22, 23, 24, 25] (evOps call base [⟨some 26, (.call (.c (.fn 4 [] [])) [(.t 22), (.t 23), (.t 24), (.t 25)]), none⟩] f H) := row_ops call it base _ _ f H
def s_gnomonlaw25_UpdateTells_r2t1 : List AOper := [⟨some 12, (.move (.t 27)), none⟩]
def s_gnomonlaw25_UpdateTells_r2p0 : List AOper := [⟨some 27, (.call (.c (.fn 5 [] [])) []), none⟩]
def s_gnomonlaw25_UpdateTells_r2 : List AOper := s_gnomonlaw25_UpdateTells_r2p0 ++ s_gnomonlaw25_UpdateTells_r2t1
theorem s_gnomonlaw25_UpdateTells_r2_x (call : CallF) (it : IterF) (base : Nat) (f : List V) (H : Heap) : evC call it base (.region s_gnomonlaw25_UpdateTells_r2 [] [0, 1, 2, 3, 4, 5, 26, 27]) f H = thenC call it base (.region s_gnomonlaw25_UpdateTells_r2t1 [] [0, 1, 2, 3, 4, 5, 26, 27]) (opsC [] s_gnomonlaw25_UpdateTells_r2p0 [0, 1, 2, 3, 4, 5, 26] (evOps call base [⟨some 27, (.call (.c (.fn 5 [] [])) []), none⟩] f H)) := (row_op call it base s_gnomonlaw25_UpdateTells_r2p0 s_gnomonlaw25_UpdateTells_r2t1 (kc := [0, 1, 2, 3, 4, 5, 26]) (by kernel_rfl) f H).trans (by rw [row_ops]; rfl)
theorem s_gnomonlaw25_UpdateTells_r2t1_tale (fr : List V) (H : Heap) : evTale (symAll s_gnomonlaw25_UpdateTells_r2t1 [0, 1, 2, 3, 4, 5, 26, 27] [12]) [0, 1, 2, 3, 4, 5, 26, 27] fr H = evTale (some (13, [], [(12, (.t 27))])) [0, 1, 2, 3, 4, 5, 26, 27] fr H := tale_row (items := [.tt 27]) (by kernel_rfl) fr H
theorem s_gnomonlaw25_UpdateTells_r2t1_x (call : CallF) (it : IterF) (base : Nat) (f : List V) (H : Heap) : evC call it base (.region s_gnomonlaw25_UpdateTells_r2t1 [] [0, 1, 2, 3, 4, 5, 26, 27]) f H = segL H (evTale (symAll s_gnomonlaw25_UpdateTells_r2t1 [0, 1, 2, 3, 4, 5, 26, 27] [12]) [0, 1, 2, 3, 4, 5, 26, 27] f H) (origRow call it base s_gnomonlaw25_UpdateTells_r2t1 [0, 1, 2, 3, 4, 5, 26, 27] f H) := row_last call it base _ f H
def s_gnomonlaw25_UpdateTells_r3t6 : List AOper := [⟨some 13, (.move (.t 29)), none⟩, ⟨some 14, (.move (.t 31)), none⟩, ⟨some 15, (.move (.t 33)), none⟩]
def s_gnomonlaw25_UpdateTells_r3p5 : List AOper := [⟨some 33, (.call (.c (.fn 6 [] [])) [(.t 32)]), none⟩]
def s_gnomonlaw25_UpdateTells_r3t5 : List AOper := s_gnomonlaw25_UpdateTells_r3p5 ++ s_gnomonlaw25_UpdateTells_r3t6
def s_gnomonlaw25_UpdateTells_r3p4 : List AOper := [⟨some 32, (.move (.t 2)), none⟩]
def s_gnomonlaw25_UpdateTells_r3t4 : List AOper := s_gnomonlaw25_UpdateTells_r3p4 ++ s_gnomonlaw25_UpdateTells_r3t5
def s_gnomonlaw25_UpdateTells_r3p3 : List AOper := [⟨some 31, (.call (.c (.fn 6 [] [])) [(.t 30)]), none⟩]
def s_gnomonlaw25_UpdateTells_r3t3 : List AOper := s_gnomonlaw25_UpdateTells_r3p3 ++ s_gnomonlaw25_UpdateTells_r3t4
def s_gnomonlaw25_UpdateTells_r3p2 : List AOper := [⟨some 30, (.move (.t 1)), none⟩]
def s_gnomonlaw25_UpdateTells_r3t2 : List AOper := s_gnomonlaw25_UpdateTells_r3p2 ++ s_gnomonlaw25_UpdateTells_r3t3
def s_gnomonlaw25_UpdateTells_r3p1 : List AOper := [⟨some 29, (.call (.c (.fn 6 [] [])) [(.t 28)]), none⟩]
def s_gnomonlaw25_UpdateTells_r3t1 : List AOper := s_gnomonlaw25_UpdateTells_r3p1 ++ s_gnomonlaw25_UpdateTells_r3t2
def s_gnomonlaw25_UpdateTells_r3p0 : List AOper := [⟨some 28, (.move (.t 0)), none⟩]
def s_gnomonlaw25_UpdateTells_r3 : List AOper := s_gnomonlaw25_UpdateTells_r3p0 ++ s_gnomonlaw25_UpdateTells_r3t1
theorem s_gnomonlaw25_UpdateTells_r3p0_tale (fr : List V) (H : Heap) : evTale (symAll s_gnomonlaw25_UpdateTells_r3p0 [26] [28]) [26] fr H = evTale (some (29, [], [(28, (.t 0))])) [26] fr H := tale_row (items := [.tt 0]) (by kernel_rfl) fr H
theorem s_gnomonlaw25_UpdateTells_r3_x (call : CallF) (it : IterF) (base : Nat) (f : List V) (H : Heap) : evC call it base (.region s_gnomonlaw25_UpdateTells_r3 [] [26, 28, 29, 30, 31, 32, 33]) f H = segC call it base s_gnomonlaw25_UpdateTells_r3t1 [26, 28, 29, 30, 31, 32, 33] H (evTale (symAll s_gnomonlaw25_UpdateTells_r3p0 [26] [28]) [26] f H) (origRow call it base s_gnomonlaw25_UpdateTells_r3 [26, 28, 29, 30, 31, 32, 33] f H) := row_seg call it base s_gnomonlaw25_UpdateTells_r3p0 s_gnomonlaw25_UpdateTells_r3t1 (by kernel_rfl) f H
theorem s_gnomonlaw25_UpdateTells_r3t1_x (call : CallF) (it : IterF) (base : Nat) (f : List V) (H : Heap) : evC call it base (.region s_gnomonlaw25_UpdateTells_r3t1 [] [26, 28, 29, 30, 31, 32, 33]) f H = thenC call it base (.region s_gnomonlaw25_UpdateTells_r3t2 [] [26, 28, 29, 30, 31, 32, 33]) (opsC [] s_gnomonlaw25_UpdateTells_r3p1 [28] (evOps call base [⟨some 29, (.call (.c (.fn 6 [] [])) [(.t 28)]), none⟩] f H)) := (row_op call it base s_gnomonlaw25_UpdateTells_r3p1 s_gnomonlaw25_UpdateTells_r3t2 (kc := [28]) (by kernel_rfl) f H).trans (by rw [row_ops]; rfl)
theorem s_gnomonlaw25_UpdateTells_r3p2_tale (fr : List V) (H : Heap) : evTale (symAll s_gnomonlaw25_UpdateTells_r3p2 [] [30]) [] fr H = evTale (some (31, [], [(30, (.t 1))])) [] fr H := tale_row (items := [.tt 1]) (by kernel_rfl) fr H
theorem s_gnomonlaw25_UpdateTells_r3t2_x (call : CallF) (it : IterF) (base : Nat) (f : List V) (H : Heap) : evC call it base (.region s_gnomonlaw25_UpdateTells_r3t2 [] [26, 28, 29, 30, 31, 32, 33]) f H = segC call it base s_gnomonlaw25_UpdateTells_r3t3 [26, 28, 29, 30, 31, 32, 33] H (evTale (symAll s_gnomonlaw25_UpdateTells_r3p2 [] [30]) [] f H) (origRow call it base s_gnomonlaw25_UpdateTells_r3t2 [26, 28, 29, 30, 31, 32, 33] f H) := row_seg call it base s_gnomonlaw25_UpdateTells_r3p2 s_gnomonlaw25_UpdateTells_r3t3 (by kernel_rfl) f H
theorem s_gnomonlaw25_UpdateTells_r3t3_x (call : CallF) (it : IterF) (base : Nat) (f : List V) (H : Heap) : evC call it base (.region s_gnomonlaw25_UpdateTells_r3t3 [] [26, 28, 29, 30, 31, 32, 33]) f H = thenC call it base (.region s_gnomonlaw25_UpdateTells_r3t4 [] [26, 28, 29, 30, 31, 32, 33]) (opsC [] s_gnomonlaw25_UpdateTells_r3p3 [30] (evOps call base [⟨some 31, (.call (.c (.fn 6 [] [])) [(.t 30)]), none⟩] f H)) := (row_op call it base s_gnomonlaw25_UpdateTells_r3p3 s_gnomonlaw25_UpdateTells_r3t4 (kc := [30]) (by kernel_rfl) f H).trans (by rw [row_ops]; rfl)
theorem s_gnomonlaw25_UpdateTells_r3p4_tale (fr : List V) (H : Heap) : evTale (symAll s_gnomonlaw25_UpdateTells_r3p4 [] [32]) [] fr H = evTale (some (33, [], [(32, (.t 2))])) [] fr H := tale_row (items := [.tt 2]) (by kernel_rfl) fr H
theorem s_gnomonlaw25_UpdateTells_r3t4_x (call : CallF) (it : IterF) (base : Nat) (f : List V) (H : Heap) : evC call it base (.region s_gnomonlaw25_UpdateTells_r3t4 [] [26, 28, 29, 30, 31, 32, 33]) f H = segC call it base s_gnomonlaw25_UpdateTells_r3t5 [26, 28, 29, 30, 31, 32, 33] H (evTale (symAll s_gnomonlaw25_UpdateTells_r3p4 [] [32]) [] f H) (origRow call it base s_gnomonlaw25_UpdateTells_r3t4 [26, 28, 29, 30, 31, 32, 33] f H) := row_seg call it base s_gnomonlaw25_UpdateTells_r3p4 s_gnomonlaw25_UpdateTells_r3t5 (by kernel_rfl) f H
theorem s_gnomonlaw25_UpdateTells_r3t5_x (call : CallF) (it : IterF) (base : Nat) (f : List V) (H : Heap) : evC call it base (.region s_gnomonlaw25_UpdateTells_r3t5 [] [26, 28, 29, 30, 31, 32, 33]) f H = thenC call it base (.region s_gnomonlaw25_UpdateTells_r3t6 [] [26, 28, 29, 30, 31, 32, 33]) (opsC [] s_gnomonlaw25_UpdateTells_r3p5 [32] (evOps call base [⟨some 33, (.call (.c (.fn 6 [] [])) [(.t 32)]), none⟩] f H)) := (row_op call it base s_gnomonlaw25_UpdateTells_r3p5 s_gnomonlaw25_UpdateTells_r3t6 (kc := [32]) (by kernel_rfl) f H).trans (by rw [row_ops]; rfl)
theorem s_gnomonlaw25_UpdateTells_r3t6_tale (fr : List V) (H : Heap) : evTale (symAll s_gnomonlaw25_UpdateTells_r3t6 [26, 28, 29, 30, 31, 32, 33] [13, 14, 15]) [26, 28, 29, 30, 31, 32, 33] fr H = evTale (some (16, [], [(13, (.t 29)), (14, (.t 31)), (15, (.t 33))])) [26, 28, 29, 30, 31, 32, 33] fr H := tale_row (items := [.tt 29, .tt 31, .tt 33]) (by kernel_rfl) fr H
theorem s_gnomonlaw25_UpdateTells_r3t6_x (call : CallF) (it : IterF) (base : Nat) (f : List V) (H : Heap) : evC call it base (.region s_gnomonlaw25_UpdateTells_r3t6 [] [26, 28, 29, 30, 31, 32, 33]) f H = segL H (evTale (symAll s_gnomonlaw25_UpdateTells_r3t6 [26, 28, 29, 30, 31, 32, 33] [13, 14, 15]) [26, 28, 29, 30, 31, 32, 33] f H) (origRow call it base s_gnomonlaw25_UpdateTells_r3t6 [26, 28, 29, 30, 31, 32, 33] f H) := row_last call it base _ f H
def s_gnomonlaw25_UpdateTells_r4t2 : List AOper := [⟨some 16, (.move (.t 39)), none⟩]
def s_gnomonlaw25_UpdateTells_r4p1 : List AOper := [⟨some 39, (.call (.c (.fn 7 [] [])) [(.t 34), (.t 35), (.t 36), (.t 37), (.t 38)]), none⟩]
def s_gnomonlaw25_UpdateTells_r4t1 : List AOper := s_gnomonlaw25_UpdateTells_r4p1 ++ s_gnomonlaw25_UpdateTells_r4t2
def s_gnomonlaw25_UpdateTells_r4p0 : List AOper := [⟨some 34, (.move (.t 13)), none⟩, ⟨some 35, (.move (.t 14)), none⟩, ⟨some 36, (.move (.t 15)), none⟩, ⟨some 37, (.move (.t 3)), none⟩, ⟨some 38, (.move (.t 4)), none⟩]
def s_gnomonlaw25_UpdateTells_r4 : List AOper := s_gnomonlaw25_UpdateTells_r4p0 ++ s_gnomonlaw25_UpdateTells_r4t1
theorem s_gnomonlaw25_UpdateTells_r4p0_tale (fr : List V) (H : Heap) : evTale (symAll s_gnomonlaw25_UpdateTells_r4p0 [] [34, 35, 36, 37, 38]) [] fr H = evTale (some (39, [], [(34, (.t 13)), (35, (.t 14)), (36, (.t 15)), (37, (.t 3)), (38, (.t 4))])) [] fr H := tale_row (items := [.tt 13, .tt 14, .tt 15, .tt 3, .tt 4]) (by kernel_rfl) fr H
theorem s_gnomonlaw25_UpdateTells_r4_x (call : CallF) (it : IterF) (base : Nat) (f : List V) (H : Heap) : evC call it base (.region s_gnomonlaw25_UpdateTells_r4 [] [34, 35, 36, 37, 38, 39]) f H = segC call it base s_gnomonlaw25_UpdateTells_r4t1 [34, 35, 36, 37, 38, 39] H (evTale (symAll s_gnomonlaw25_UpdateTells_r4p0 [] [34, 35, 36, 37, 38]) [] f H) (origRow call it base s_gnomonlaw25_UpdateTells_r4 [34, 35, 36, 37, 38, 39] f H) := row_seg call it base s_gnomonlaw25_UpdateTells_r4p0 s_gnomonlaw25_UpdateTells_r4t1 (by kernel_rfl) f H
theorem s_gnomonlaw25_UpdateTells_r4t1_x (call : CallF) (it : IterF) (base : Nat) (f : List V) (H : Heap) : evC call it base (.region s_gnomonlaw25_UpdateTells_r4t1 [] [34, 35, 36, 37, 38, 39]) f H = thenC call it base (.region s_gnomonlaw25_UpdateTells_r4t2 [] [34, 35, 36, 37, 38, 39]) (opsC [] s_gnomonlaw25_UpdateTells_r4p1 [34, 35, 36, 37, 38] (evOps call base [⟨some 39, (.call (.c (.fn 7 [] [])) [(.t 34), (.t 35), (.t 36), (.t 37), (.t 38)]), none⟩] f H)) := (row_op call it base s_gnomonlaw25_UpdateTells_r4p1 s_gnomonlaw25_UpdateTells_r4t2 (kc := [34, 35, 36, 37, 38]) (by kernel_rfl) f H).trans (by rw [row_ops]; rfl)
theorem s_gnomonlaw25_UpdateTells_r4t2_tale (fr : List V) (H : Heap) : evTale (symAll s_gnomonlaw25_UpdateTells_r4t2 [34, 35, 36, 37, 38, 39] [16]) [34, 35, 36, 37, 38, 39] fr H = evTale (some (17, [], [(16, (.t 39))])) [34, 35, 36, 37, 38, 39] fr H := tale_row (items := [.tt 39]) (by kernel_rfl) fr H
theorem s_gnomonlaw25_UpdateTells_r4t2_x (call : CallF) (it : IterF) (base : Nat) (f : List V) (H : Heap) : evC call it base (.region s_gnomonlaw25_UpdateTells_r4t2 [] [34, 35, 36, 37, 38, 39]) f H = segL H (evTale (symAll s_gnomonlaw25_UpdateTells_r4t2 [34, 35, 36, 37, 38, 39] [16]) [34, 35, 36, 37, 38, 39] f H) (origRow call it base s_gnomonlaw25_UpdateTells_r4t2 [34, 35, 36, 37, 38, 39] f H) := row_last call it base _ f H
def s_gnomonlaw25_UpdateTells_r5 : List AOper := [
  ⟨some 17, (.move (.c (.s (.slice none 0 0)))), none⟩]
theorem s_gnomonlaw25_UpdateTells_r5_tale (fr : List V) (H : Heap) : evTale (symAll s_gnomonlaw25_UpdateTells_r5 [] [17]) [] fr H = evTale (some (18, [], [(17, (.c (.s (.slice none 0 0))))])) [] fr H := tale_row (items := [.cc (.s (.slice none 0 0))]) (by kernel_rfl) fr H
def s_gnomonlaw25_UpdateTells_r6 : List AOper := [
  ⟨some 18, (.move (.c (.s (.int .i64 0)))), none⟩]
theorem s_gnomonlaw25_UpdateTells_r6_tale (fr : List V) (H : Heap) : evTale (symAll s_gnomonlaw25_UpdateTells_r6 [] [18]) [] fr H = evTale (some (19, [], [(18, (.c (.s (.int .i64 0))))])) [] fr H := tale_row (items := [.cc (.s (.int .i64 0))]) (by kernel_rfl) fr H
def s_gnomonlaw25_UpdateTells_r7 : List AOper := [
  ⟨some 40, (.move (.t 18)), none⟩,
  ⟨some 41, (.move (.t 5)), none⟩,
  ⟨some 42, (.lenS .s (.t 41)), none⟩,
  ⟨some 43, (.bin .lss (.t 40) (.t 42)), none⟩]
theorem s_gnomonlaw25_UpdateTells_r7_tale (fr : List V) (H : Heap) : evTale (symAll s_gnomonlaw25_UpdateTells_r7 [40, 41, 42] [43]) [40, 41, 42] fr H = evTale (some (44, [], [(43, (.op (.bin .lss (.t 0) (.t 1)) [(.t 18), (.op (.lenS .s (.t 0)) [(.t 5)])]))])) [40, 41, 42] fr H := tale_row (items := [.tt 18, .tt 5, .sub 0 [1] [], .sub 0 [] []]) (by kernel_rfl) fr H
def s_gnomonlaw25_UpdateTells_r8t5 : List AOper := [⟨some 17, (.move (.t 60)), none⟩]
def s_gnomonlaw25_UpdateTells_r8p4 : List AOper := [⟨some 60, (.append 2 32 (.t 46) (.t 59)), none⟩]
def s_gnomonlaw25_UpdateTells_r8t4 : List AOper := s_gnomonlaw25_UpdateTells_r8p4 ++ s_gnomonlaw25_UpdateTells_r8t5
def s_gnomonlaw25_UpdateTells_r8p3 : List AOper := [⟨some 59, (.buildSl 2 1 [(.s (.bool false)), (.s (.slice none 0 0))] [(0, (.t 58))]), none⟩]
def s_gnomonlaw25_UpdateTells_r8t3 : List AOper := s_gnomonlaw25_UpdateTells_r8p3 ++ s_gnomonlaw25_UpdateTells_r8t4
def s_gnomonlaw25_UpdateTells_r8p2 : List AOper := [⟨some 58, (.build [(.s (.bool false)), (.s (.slice none 0 0))] [(0, 1), (1, 1)] [(0, (.t 51)), (1, (.t 57))]), none⟩]
def s_gnomonlaw25_UpdateTells_r8t2 : List AOper := s_gnomonlaw25_UpdateTells_r8p2 ++ s_gnomonlaw25_UpdateTells_r8t3
def s_gnomonlaw25_UpdateTells_r8p1 : List AOper := [⟨some 57, (.callR (.c (.fn 8 [] [])) [(.t 56)]), none⟩]
def s_gnomonlaw25_UpdateTells_r8t1 : List AOper := s_gnomonlaw25_UpdateTells_r8p1 ++ s_gnomonlaw25_UpdateTells_r8t2
def s_gnomonlaw25_UpdateTells_r8p0 : List AOper := [⟨some 46, (.move (.t 17)), none⟩, ⟨some 47, (.move (.t 5)), none⟩, ⟨some 48, (.move (.t 18)), none⟩, ⟨some 49, (.indexAddr 2 (.t 47) (.t 48)), none⟩, ⟨some 50, (.fieldAddr 0 (.t 49)), none⟩, ⟨some 51, (.load false 1 (.t 50)), none⟩, ⟨some 52, (.move (.t 5)), none⟩, ⟨some 53, (.move (.t 18)), none⟩, ⟨some 54, (.indexAddr 2 (.t 52) (.t 53)), none⟩, ⟨some 55, (.fieldAddr 1 (.t 54)), none⟩, ⟨some 56, (.load false 1 (.t 55)), none⟩]
def s_gnomonlaw25_UpdateTells_r8 : List AOper := s_gnomonlaw25_UpdateTells_r8p0 ++ s_gnomonlaw25_UpdateTells_r8t1
theorem s_gnomonlaw25_UpdateTells_r8p0_tale (fr : List V) (H : Heap) : evTale (symAll s_gnomonlaw25_UpdateTells_r8p0 [17, 43, 47, 48, 49, 50, 52, 53, 54, 55] [46, 51, 56]) [17, 43, 47, 48, 49, 50, 52, 53, 54, 55] fr H = evTale (some (57, [], [(46, (.t 17)), (51, (.op (.load false 1 (.t 0)) [(.op (.fieldAddr 0 (.t 0)) [(.op (.indexAddr 2 (.t 0) (.t 1)) [(.t 5), (.t 18)])])])), (56, (.op (.load false 1 (.t 0)) [(.op (.fieldAddr 1 (.t 0)) [(.op (.indexAddr 2 (.t 0) (.t 1)) [(.t 5), (.t 18)])])]))])) [17, 43, 47, 48, 49, 50, 52, 53, 54, 55] fr H := tale_row (items := [.tt 17, .tt 5, .tt 18, .sub 1 [0, 0] [], .sub 1 [0] [], .sub 1 [] [], .tt 5, .tt 18, .sub 1 [0, 0] [], .sub 2 [0] [], .sub 2 [] []]) (by kernel_rfl) fr H
theorem s_gnomonlaw25_UpdateTells_r8_x (call : CallF) (it : IterF) (base : Nat) (f : List V) (H : Heap) : evC call it base (.region s_gnomonlaw25_UpdateTells_r8 [] [43, 46, 47, 48, 49, 50, 51, 52, 53, 54, 55, 56, 57, 58, 59, 60]) f H = segC call it base s_gnomonlaw25_UpdateTells_r8t1 [43, 46, 47, 48, 49, 50, 51, 52, 53, 54, 55, 56, 57, 58, 59, 60] H (evTale (symAll s_gnomonlaw25_UpdateTells_r8p0 [17, 43, 47, 48, 49, 50, 52, 53, 54, 55] [46, 51, 56]) [17, 43, 47, 48, 49, 50, 52, 53, 54, 55] f H) (origRow call it base s_gnomonlaw25_UpdateTells_r8 [43, 46, 47, 48, 49, 50, 51, 52, 53, 54, 55, 56, 57, 58, 59, 60] f H) := row_seg call it base s_gnomonlaw25_UpdateTells_r8p0 s_gnomonlaw25_UpdateTells_r8t1 (by kernel_rfl) f H
theorem s_gnomonlaw25_UpdateTells_r8t1_x (call : CallF) (it : IterF) (base : Nat) (f : List V) (H : Heap) : evC call it base (.region s_gnomonlaw25_UpdateTells_r8t1 [] [43, 46, 47, 48, 49, 50, 51, 52, 53, 54, 55, 56, 57, 58, 59, 60]) f H = thenC call it base (.region s_gnomonlaw25_UpdateTells_r8t2 [] [43, 46, 47, 48, 49, 50, 51, 52, 53, 54, 55, 56, 57, 58, 59, 60]) (opsC [] s_gnomonlaw25_UpdateTells_r8p1 [56] (evOps call base [⟨some 57, (.callR (.c (.fn 8 [] [])) [(.t 56)]), none⟩] f H)) := (row_op call it base s_gnomonlaw25_UpdateTells_r8p1 s_gnomonlaw25_UpdateTells_r8t2 (kc := [56]) (by kernel_rfl) f H).trans (by rw [row_ops]; rfl)
theorem s_gnomonlaw25_UpdateTells_r8p2_tale (fr : List V) (H : Heap) : evTale (symAll s_gnomonlaw25_UpdateTells_r8p2 [51, 57] [58]) [51, 57] fr H = evTale (some (59, [], [(58, (.op (.build [(.s (.bool false)), (.s (.slice none 0 0))] [(0, 1), (1, 1)] [(0, (.t 0)), (1, (.t 1))]) [(.t 51), (.t 57)]))])) [51, 57] fr H := tale_row (items := [.sub 0 [] []]) (by kernel_rfl) fr H
theorem s_gnomonlaw25_UpdateTells_r8t2_x (call : CallF) (it : IterF) (base : Nat) (f : List V) (H : Heap) : evC call it base (.region s_gnomonlaw25_UpdateTells_r8t2 [] [43, 46, 47, 48, 49, 50, 51, 52, 53, 54, 55, 56, 57, 58, 59, 60]) f H = segC call it base s_gnomonlaw25_UpdateTells_r8t3 [43, 46, 47, 48, 49, 50, 51, 52, 53, 54, 55, 56, 57, 58, 59, 60] H (evTale (symAll s_gnomonlaw25_UpdateTells_r8p2 [51, 57] [58]) [51, 57] f H) (origRow call it base s_gnomonlaw25_UpdateTells_r8t2 [43, 46, 47, 48, 49, 50, 51, 52, 53, 54, 55, 56, 57, 58, 59, 60] f H) := row_seg call it base s_gnomonlaw25_UpdateTells_r8p2 s_gnomonlaw25_UpdateTells_r8t3 (by kernel_rfl) f H
theorem s_gnomonlaw25_UpdateTells_r8t3_x (call : CallF) (it : IterF) (base : Nat) (f : List V) (H : Heap) : evC call it base (.region s_gnomonlaw25_UpdateTells_r8t3 [] [43, 46, 47, 48, 49, 50, 51, 52, 53, 54, 55, 56, 57, 58, 59, 60]) f H = thenC call it base (.region s_gnomonlaw25_UpdateTells_r8t4 [] [43, 46, 47, 48, 49, 50, 51, 52, 53, 54, 55, 56, 57, 58, 59, 60]) (opsC [] s_gnomonlaw25_UpdateTells_r8p3 [58] (evOps call base [⟨some 59, (.buildSl 2 1 [(.s (.bool false)), (.s (.slice none 0 0))] [(0, (.t 58))]), none⟩] f H)) := (row_op call it base s_gnomonlaw25_UpdateTells_r8p3 s_gnomonlaw25_UpdateTells_r8t4 (kc := [58]) (by kernel_rfl) f H).trans (by rw [row_ops]; rfl)
theorem s_gnomonlaw25_UpdateTells_r8t4_x (call : CallF) (it : IterF) (base : Nat) (f : List V) (H : Heap) : evC call it base (.region s_gnomonlaw25_UpdateTells_r8t4 [] [43, 46, 47, 48, 49, 50, 51, 52, 53, 54, 55, 56, 57, 58, 59, 60]) f H = thenC call it base (.region s_gnomonlaw25_UpdateTells_r8t5 [] [43, 46, 47, 48, 49, 50, 51, 52, 53, 54, 55, 56, 57, 58, 59, 60]) (opsC [] s_gnomonlaw25_UpdateTells_r8p4 [46, 59] (evOps call base [⟨some 60, (.append 2 32 (.t 46) (.t 59)), none⟩] f H)) := (row_op call it base s_gnomonlaw25_UpdateTells_r8p4 s_gnomonlaw25_UpdateTells_r8t5 (kc := [46, 59]) (by kernel_rfl) f H).trans (by rw [row_ops]; rfl)
theorem s_gnomonlaw25_UpdateTells_r8t5_tale (fr : List V) (H : Heap) : evTale (symAll s_gnomonlaw25_UpdateTells_r8t5 [43, 46, 47, 48, 49, 50, 51, 52, 53, 54, 55, 56, 57, 58, 59, 60] [17]) [43, 46, 47, 48, 49, 50, 51, 52, 53, 54, 55, 56, 57, 58, 59, 60] fr H = evTale (some (18, [], [(17, (.t 60))])) [43, 46, 47, 48, 49, 50, 51, 52, 53, 54, 55, 56, 57, 58, 59, 60] fr H := tale_row (items := [.tt 60]) (by kernel_rfl) fr H
theorem s_gnomonlaw25_UpdateTells_r8t5_x (call : CallF) (it : IterF) (base : Nat) (f : List V) (H : Heap) : evC call it base (.region s_gnomonlaw25_UpdateTells_r8t5 [] [43, 46, 47, 48, 49, 50, 51, 52, 53, 54, 55, 56, 57, 58, 59, 60]) f H = segL H (evTale (symAll s_gnomonlaw25_UpdateTells_r8t5 [43, 46, 47, 48, 49, 50, 51, 52, 53, 54, 55, 56, 57, 58, 59, 60] [17]) [43, 46, 47, 48, 49, 50, 51, 52, 53, 54, 55, 56, 57, 58, 59, 60] f H) (origRow call it base s_gnomonlaw25_UpdateTells_r8t5 [43, 46, 47, 48, 49, 50, 51, 52, 53, 54, 55, 56, 57, 58, 59, 60] f H) := row_last call it base _ f H
def s_gnomonlaw25_UpdateTells_r9 : List AOper := [
  ⟨some 44, (.move (.t 18)), none⟩,
  ⟨some 45, (.bin .add (.t 44) (.c (.s (.int .i64 1)))), none⟩,
  ⟨some 18, (.move (.t 45)), none⟩]
theorem s_gnomonlaw25_UpdateTells_r9_tale (fr : List V) (H : Heap) : evTale (symAll s_gnomonlaw25_UpdateTells_r9 [44, 45] [18]) [44, 45] fr H = evTale (some (46, [], [(18, (.op (.bin .add (.t 0) (.c (.s (.int .i64 1)))) [(.t 18), (.c (.s (.int .i64 1)))]))])) [44, 45] fr H := tale_row (items := [.tt 18, .sub 0 [] [], .sub 0 [] []]) (by kernel_rfl) fr H
def s_gnomonlaw25_UpdateTells_l0_b : ACode :=
  (.seq (.seq (.regionE s_gnomonlaw25_UpdateTells_r7 [40, 41, 42] [43])
  (.cond (.t 43)
  .skip
  (.exit 0)))
  (.seq (.block 1
  (.region s_gnomonlaw25_UpdateTells_r8 [] [43, 46, 47, 48, 49, 50, 51, 52, 53, 54, 55, 56, 57, 58, 59, 60]))
  (.regionE s_gnomonlaw25_UpdateTells_r9 [44, 45] [18])))
def s_gnomonlaw25_UpdateTells_l0 : ACode := s_gnomonlaw25_UpdateTells_l0_b
theorem s_gnomonlaw25_UpdateTells_l0_ev (call : CallF) (it : IterF) (base : Nat) (fr : List V) (H : Heap) : evC call it base s_gnomonlaw25_UpdateTells_l0 fr H = evC call it base s_gnomonlaw25_UpdateTells_l0_b fr H := rfl
def s_gnomonlaw25_UpdateTells_r10t2 : List AOper := [⟨some 19, (.move (.t 62)), none⟩]
def s_gnomonlaw25_UpdateTells_r10p1 : List AOper := [⟨some 62, (.call (.c (.fn 9 [] [])) [(.t 61)]), none⟩]
def s_gnomonlaw25_UpdateTells_r10t1 : List AOper := s_gnomonlaw25_UpdateTells_r10p1 ++ s_gnomonlaw25_UpdateTells_r10t2
def s_gnomonlaw25_UpdateTells_r10p0 : List AOper := [⟨some 61, (.move (.t 5)), none⟩]
def s_gnomonlaw25_UpdateTells_r10 : List AOper := s_gnomonlaw25_UpdateTells_r10p0 ++ s_gnomonlaw25_UpdateTells_r10t1
theorem s_gnomonlaw25_UpdateTells_r10p0_tale (fr : List V) (H : Heap) : evTale (symAll s_gnomonlaw25_UpdateTells_r10p0 [18, 43] [61]) [18, 43] fr H = evTale (some (62, [], [(61, (.t 5))])) [18, 43] fr H := tale_row (items := [.tt 5]) (by kernel_rfl) fr H
theorem s_gnomonlaw25_UpdateTells_r10_x (call : CallF) (it : IterF) (base : Nat) (f : List V) (H : Heap) : evC call it base (.region s_gnomonlaw25_UpdateTells_r10 [] [18, 43, 61, 62]) f H = segC call it base s_gnomonlaw25_UpdateTells_r10t1 [18, 43, 61, 62] H (evTale (symAll s_gnomonlaw25_UpdateTells_r10p0 [18, 43] [61]) [18, 43] f H) (origRow call it base s_gnomonlaw25_UpdateTells_r10 [18, 43, 61, 62] f H) := row_seg call it base s_gnomonlaw25_UpdateTells_r10p0 s_gnomonlaw25_UpdateTells_r10t1 (by kernel_rfl) f H
theorem s_gnomonlaw25_UpdateTells_r10t1_x (call : CallF) (it : IterF) (base : Nat) (f : List V) (H : Heap) : evC call it base (.region s_gnomonlaw25_UpdateTells_r10t1 [] [18, 43, 61, 62]) f H = thenC call it base (.region s_gnomonlaw25_UpdateTells_r10t2 [] [18, 43, 61, 62]) (opsC [] s_gnomonlaw25_UpdateTells_r10p1 [61] (evOps call base [⟨some 62, (.call (.c (.fn 9 [] [])) [(.t 61)]), none⟩] f H)) := (row_op call it base s_gnomonlaw25_UpdateTells_r10p1 s_gnomonlaw25_UpdateTells_r10t2 (kc := [61]) (by kernel_rfl) f H).trans (by rw [row_ops]; rfl)
theorem s_gnomonlaw25_UpdateTells_r10t2_tale (fr : List V) (H : Heap) : evTale (symAll s_gnomonlaw25_UpdateTells_r10t2 [18, 43, 61, 62] [19]) [18, 43, 61, 62] fr H = evTale (some (20, [], [(19, (.t 62))])) [18, 43, 61, 62] fr H := tale_row (items := [.tt 62]) (by kernel_rfl) fr H
theorem s_gnomonlaw25_UpdateTells_r10t2_x (call : CallF) (it : IterF) (base : Nat) (f : List V) (H : Heap) : evC call it base (.region s_gnomonlaw25_UpdateTells_r10t2 [] [18, 43, 61, 62]) f H = segL H (evTale (symAll s_gnomonlaw25_UpdateTells_r10t2 [18, 43, 61, 62] [19]) [18, 43, 61, 62] f H) (origRow call it base s_gnomonlaw25_UpdateTells_r10t2 [18, 43, 61, 62] f H) := row_last call it base _ f H
def s_gnomonlaw25_UpdateTells_r11t2 : List AOper := [⟨some 20, (.move (.t 65)), none⟩]
def s_gnomonlaw25_UpdateTells_r11p1 : List AOper := [⟨some 65, (.call (.c (.fn 10 [] [])) [(.t 63), (.t 64)]), none⟩]
def s_gnomonlaw25_UpdateTells_r11t1 : List AOper := s_gnomonlaw25_UpdateTells_r11p1 ++ s_gnomonlaw25_UpdateTells_r11t2
def s_gnomonlaw25_UpdateTells_r11p0 : List AOper := [⟨some 63, (.move (.t 13)), none⟩, ⟨some 64, (.move (.t 19)), none⟩]
def s_gnomonlaw25_UpdateTells_r11 : List AOper := s_gnomonlaw25_UpdateTells_r11p0 ++ s_gnomonlaw25_UpdateTells_r11t1
theorem s_gnomonlaw25_UpdateTells_r11p0_tale (fr : List V) (H : Heap) : evTale (symAll s_gnomonlaw25_UpdateTells_r11p0 [] [63, 64]) [] fr H = evTale (some (65, [], [(63, (.t 13)), (64, (.t 19))])) [] fr H := tale_row (items := [.tt 13, .tt 19]) (by kernel_rfl) fr H
theorem s_gnomonlaw25_UpdateTells_r11_x (call : CallF) (it : IterF) (base : Nat) (f : List V) (H : Heap) : evC call it base (.region s_gnomonlaw25_UpdateTells_r11 [] [63, 64, 65]) f H = segC call it base s_gnomonlaw25_UpdateTells_r11t1 [63, 64, 65] H (evTale (symAll s_gnomonlaw25_UpdateTells_r11p0 [] [63, 64]) [] f H) (origRow call it base s_gnomonlaw25_UpdateTells_r11 [63, 64, 65] f H) := row_seg call it base s_gnomonlaw25_UpdateTells_r11p0 s_gnomonlaw25_UpdateTells_r11t1 (by kernel_rfl) f H
theorem s_gnomonlaw25_UpdateTells_r11t1_x (call : CallF) (it : IterF) (base : Nat) (f : List V) (H : Heap) : evC call it base (.region s_gnomonlaw25_UpdateTells_r11t1 [] [63, 64, 65]) f H = thenC call it base (.region s_gnomonlaw25_UpdateTells_r11t2 [] [63, 64, 65]) (opsC [] s_gnomonlaw25_UpdateTells_r11p1 [63, 64] (evOps call base [⟨some 65, (.call (.c (.fn 10 [] [])) [(.t 63), (.t 64)]), none⟩] f H)) := (row_op call it base s_gnomonlaw25_UpdateTells_r11p1 s_gnomonlaw25_UpdateTells_r11t2 (kc := [63, 64]) (by kernel_rfl) f H).trans (by rw [row_ops]; rfl)
theorem s_gnomonlaw25_UpdateTells_r11t2_tale (fr : List V) (H : Heap) : evTale (symAll s_gnomonlaw25_UpdateTells_r11t2 [63, 64, 65] [20]) [63, 64, 65] fr H = evTale (some (21, [], [(20, (.t 65))])) [63, 64, 65] fr H := tale_row (items := [.tt 65]) (by kernel_rfl) fr H
theorem s_gnomonlaw25_UpdateTells_r11t2_x (call : CallF) (it : IterF) (base : Nat) (f : List V) (H : Heap) : evC call it base (.region s_gnomonlaw25_UpdateTells_r11t2 [] [63, 64, 65]) f H = segL H (evTale (symAll s_gnomonlaw25_UpdateTells_r11t2 [63, 64, 65] [20]) [63, 64, 65] f H) (origRow call it base s_gnomonlaw25_UpdateTells_r11t2 [63, 64, 65] f H) := row_last call it base _ f H
def s_gnomonlaw25_UpdateTells_r12t19 : List AOper := [⟨some 87, (.un .not (.t 86)), some (79, false)⟩, ⟨some 88, (.pick (.t 79) (.c (.s (.bool true))) (.t 87)), none⟩]
def s_gnomonlaw25_UpdateTells_r12p18 : List AOper := [⟨some 86, (.call (.c (.fn 11 [] [])) [(.t 81), (.t 85)]), some (79, false)⟩]
def s_gnomonlaw25_UpdateTells_r12t18 : List AOper := s_gnomonlaw25_UpdateTells_r12p18 ++ s_gnomonlaw25_UpdateTells_r12t19
def s_gnomonlaw25_UpdateTells_r12p17 : List AOper := [⟨some 85, (.call (.c (.fn 14 [] [])) [(.t 83), (.t 84)]), some (79, false)⟩]
def s_gnomonlaw25_UpdateTells_r12t17 : List AOper := s_gnomonlaw25_UpdateTells_r12p17 ++ s_gnomonlaw25_UpdateTells_r12t18
def s_gnomonlaw25_UpdateTells_r12p16 : List AOper := [⟨some 84, (.move (.t 17)), some (79, false)⟩]
def s_gnomonlaw25_UpdateTells_r12t16 : List AOper := s_gnomonlaw25_UpdateTells_r12p16 ++ s_gnomonlaw25_UpdateTells_r12t17
def s_gnomonlaw25_UpdateTells_r12p15 : List AOper := [⟨some 83, (.call (.c (.fn 8 [] [])) [(.t 82)]), some (79, false)⟩]
def s_gnomonlaw25_UpdateTells_r12t15 : List AOper := s_gnomonlaw25_UpdateTells_r12p15 ++ s_gnomonlaw25_UpdateTells_r12t16
def s_gnomonlaw25_UpdateTells_r12p14 : List AOper := [⟨some 82, (.move (.t 0)), some (79, false)⟩]
def s_gnomonlaw25_UpdateTells_r12t14 : List AOper := s_gnomonlaw25_UpdateTells_r12p14 ++ s_gnomonlaw25_UpdateTells_r12t15
def s_gnomonlaw25_UpdateTells_r12p13 : List AOper := [⟨some 81, (.call (.c (.fn 12 [] [])) [(.t 80)]), some (79, false)⟩]
def s_gnomonlaw25_UpdateTells_r12t13 : List AOper := s_gnomonlaw25_UpdateTells_r12p13 ++ s_gnomonlaw25_UpdateTells_r12t14
def s_gnomonlaw25_UpdateTells_r12p12 : List AOper := [⟨some 80, (.move (.t 20)), some (79, false)⟩]
def s_gnomonlaw25_UpdateTells_r12t12 : List AOper := s_gnomonlaw25_UpdateTells_r12p12 ++ s_gnomonlaw25_UpdateTells_r12t13
def s_gnomonlaw25_UpdateTells_r12p11 : List AOper := [⟨some 78, (.un .not (.t 77)), none⟩, ⟨some 79, (.move (.t 78)), none⟩]
def s_gnomonlaw25_UpdateTells_r12t11 : List AOper := s_gnomonlaw25_UpdateTells_r12p11 ++ s_gnomonlaw25_UpdateTells_r12t12
def s_gnomonlaw25_UpdateTells_r12p10 : List AOper := [⟨some 77, (.call (.c (.fn 11 [] [])) [(.t 67), (.t 76)]), none⟩]
def s_gnomonlaw25_UpdateTells_r12t10 : List AOper := s_gnomonlaw25_UpdateTells_r12p10 ++ s_gnomonlaw25_UpdateTells_r12t11
def s_gnomonlaw25_UpdateTells_r12p9 : List AOper := [⟨some 76, (.call (.c (.fn 13 [] [])) [(.t 69), (.t 71), (.t 73), (.t 74), (.t 75)]), none⟩]
def s_gnomonlaw25_UpdateTells_r12t9 : List AOper := s_gnomonlaw25_UpdateTells_r12p9 ++ s_gnomonlaw25_UpdateTells_r12t10
def s_gnomonlaw25_UpdateTells_r12p8 : List AOper := [⟨some 74, (.move (.t 3)), none⟩, ⟨some 75, (.move (.t 4)), none⟩]
def s_gnomonlaw25_UpdateTells_r12t8 : List AOper := s_gnomonlaw25_UpdateTells_r12p8 ++ s_gnomonlaw25_UpdateTells_r12t9
def s_gnomonlaw25_UpdateTells_r12p7 : List AOper := [⟨some 73, (.call (.c (.fn 8 [] [])) [(.t 72)]), none⟩]
def s_gnomonlaw25_UpdateTells_r12t7 : List AOper := s_gnomonlaw25_UpdateTells_r12p7 ++ s_gnomonlaw25_UpdateTells_r12t8
def s_gnomonlaw25_UpdateTells_r12p6 : List AOper := [⟨some 72, (.move (.t 2)), none⟩]
def s_gnomonlaw25_UpdateTells_r12t6 : List AOper := s_gnomonlaw25_UpdateTells_r12p6 ++ s_gnomonlaw25_UpdateTells_r12t7
def s_gnomonlaw25_UpdateTells_r12p5 : List AOper := [⟨some 71, (.call (.c (.fn 8 [] [])) [(.t 70)]), none⟩]
def s_gnomonlaw25_UpdateTells_r12t5 : List AOper := s_gnomonlaw25_UpdateTells_r12p5 ++ s_gnomonlaw25_UpdateTells_r12t6
def s_gnomonlaw25_UpdateTells_r12p4 : List AOper := [⟨some 70, (.move (.t 1)), none⟩]
def s_gnomonlaw25_UpdateTells_r12t4 : List AOper := s_gnomonlaw25_UpdateTells_r12p4 ++ s_gnomonlaw25_UpdateTells_r12t5
def s_gnomonlaw25_UpdateTells_r12p3 : List AOper := [⟨some 69, (.call (.c (.fn 8 [] [])) [(.t 68)]), none⟩]
def s_gnomonlaw25_UpdateTells_r12t3 : List AOper := s_gnomonlaw25_UpdateTells_r12p3 ++ s_gnomonlaw25_UpdateTells_r12t4
def s_gnomonlaw25_UpdateTells_r12p2 : List AOper := [⟨some 68, (.move (.t 0)), none⟩]
def s_gnomonlaw25_UpdateTells_r12t2 : List AOper := s_gnomonlaw25_UpdateTells_r12p2 ++ s_gnomonlaw25_UpdateTells_r12t3
def s_gnomonlaw25_UpdateTells_r12p1 : List AOper := [⟨some 67, (.call (.c (.fn 12 [] [])) [(.t 66)]), none⟩]
def s_gnomonlaw25_UpdateTells_r12t1 : List AOper := s_gnomonlaw25_UpdateTells_r12p1 ++ s_gnomonlaw25_UpdateTells_r12t2
def s_gnomonlaw25_UpdateTells_r12p0 : List AOper := [⟨some 66, (.move (.t 16)), none⟩]
def s_gnomonlaw25_UpdateTells_r12 : List AOper := s_gnomonlaw25_UpdateTells_r12p0 ++ s_gnomonlaw25_UpdateTells_r12t1
theorem s_gnomonlaw25_UpdateTells_r12p0_tale (fr : List V) (H : Heap) : evTale (symAll s_gnomonlaw25_UpdateTells_r12p0 [] [66]) [] fr H = evTale (some (67, [], [(66, (.t 16))])) [] fr H := tale_row (items := [.tt 16]) (by kernel_rfl) fr H
theorem s_gnomonlaw25_UpdateTells_r12_x (call : CallF) (it : IterF) (base : Nat) (f : List V) (H : Heap) : evC call it base (.region s_gnomonlaw25_UpdateTells_r12 [] [3, 4, 17, 66, 67, 68, 69, 70, 71, 72, 73, 74, 75, 76, 77, 78, 79, 80, 81, 82, 83, 84, 85, 86, 87]) f H = segC call it base s_gnomonlaw25_UpdateTells_r12t1 [3, 4, 17, 66, 67, 68, 69, 70, 71, 72, 73, 74, 75, 76, 77, 78, 79, 80, 81, 82, 83, 84, 85, 86, 87] H (evTale (symAll s_gnomonlaw25_UpdateTells_r12p0 [] [66]) [] f H) (origRow call it base s_gnomonlaw25_UpdateTells_r12 [3, 4, 17, 66, 67, 68, 69, 70, 71, 72, 73, 74, 75, 76, 77, 78, 79, 80, 81, 82, 83, 84, 85, 86, 87] f H) := row_seg call it base s_gnomonlaw25_UpdateTells_r12p0 s_gnomonlaw25_UpdateTells_r12t1 (by kernel_rfl) f H
theorem s_gnomonlaw25_UpdateTells_r12t1_x (call : CallF) (it : IterF) (base : Nat) (f : List V) (H : Heap) : evC call it base (.region s_gnomonlaw25_UpdateTells_r12t1 [] [3, 4, 17, 66, 67, 68, 69, 70, 71, 72, 73, 74, 75, 76, 77, 78, 79, 80, 81, 82, 83, 84, 85, 86, 87]) f H = thenC call it base (.region s_gnomonlaw25_UpdateTells_r12t2 [] [3, 4, 17, 66, 67, 68, 69, 70, 71, 72, 73, 74, 75, 76, 77, 78, 79, 80, 81, 82, 83, 84, 85, 86, 87]) (opsC [] s_gnomonlaw25_UpdateTells_r12p1 [66] (evOps call base [⟨some 67, (.call (.c (.fn 12 [] [])) [(.t 66)]), none⟩] f H)) := (row_op call it base s_gnomonlaw25_UpdateTells_r12p1 s_gnomonlaw25_UpdateTells_r12t2 (kc := [66]) (by kernel_rfl) f H).trans (by rw [row_ops]; rfl)
theorem s_gnomonlaw25_UpdateTells_r12p2_tale (fr : List V) (H : Heap) : evTale (symAll s_gnomonlaw25_UpdateTells_r12p2 [] [68]) [] fr H = evTale (some (69, [], [(68, (.t 0))])) [] fr H := tale_row (items := [.tt 0]) (by kernel_rfl) fr H
theorem s_gnomonlaw25_UpdateTells_r12t2_x (call : CallF) (it : IterF) (base : Nat) (f : List V) (H : Heap) : evC call it base (.region s_gnomonlaw25_UpdateTells_r12t2 [] [3, 4, 17, 66, 67, 68, 69, 70, 71, 72, 73, 74, 75, 76, 77, 78, 79, 80, 81, 82, 83, 84, 85, 86, 87]) f H = segC call it base s_gnomonlaw25_UpdateTells_r12t3 [3, 4, 17, 66, 67, 68, 69, 70, 71, 72, 73, 74, 75, 76, 77, 78, 79, 80, 81, 82, 83, 84, 85, 86, 87] H (evTale (symAll s_gnomonlaw25_UpdateTells_r12p2 [] [68]) [] f H) (origRow call it base s_gnomonlaw25_UpdateTells_r12t2 [3, 4, 17, 66, 67, 68, 69, 70, 71, 72, 73, 74, 75, 76, 77, 78, 79, 80, 81, 82, 83, 84, 85, 86, 87] f H) := row_seg call it base s_gnomonlaw25_UpdateTells_r12p2 s_gnomonlaw25_UpdateTells_r12t3 (by kernel_rfl) f H
theorem s_gnomonlaw25_UpdateTells_r12t3_x (call : CallF) (it : IterF) (base : Nat) (f : List V) (H : Heap) : evC call it base (.region s_gnomonlaw25_UpdateTells_r12t3 [] [3, 4, 17, 66, 67, 68, 69, 70, 71, 72, 73, 74, 75, 76, 77, 78, 79, 80, 81, 82, 83, 84, 85, 86, 87]) f H = thenC call it base (.region s_gnomonlaw25_UpdateTells_r12t4 [] [3, 4, 17, 66, 67, 68, 69, 70, 71, 72, 73, 74, 75, 76, 77, 78, 79, 80, 81, 82, 83, 84, 85, 86, 87]) (opsC [] s_gnomonlaw25_UpdateTells_r12p3 [68] (evOps call base [⟨some 69, (.call (.c (.fn 8 [] [])) [(.t 68)]), none⟩] f H)) := (row_op call it base s_gnomonlaw25_UpdateTells_r12p3 s_gnomonlaw25_UpdateTells_r12t4 (kc := [68]) (by kernel_rfl) f H).trans (by rw [row_ops]; rfl)
theorem s_gnomonlaw25_UpdateTells_r12p4_tale (fr : List V) (H : Heap) : evTale (symAll s_gnomonlaw25_UpdateTells_r12p4 [] [70]) [] fr H = evTale (some (71, [], [(70, (.t 1))])) [] fr H := tale_row (items := [.tt 1]) (by kernel_rfl) fr H
theorem s_gnomonlaw25_UpdateTells_r12t4_x (call : CallF) (it : IterF) (base : Nat) (f : List V) (H : Heap) : evC call it base (.region s_gnomonlaw25_UpdateTells_r12t4 [] [3, 4, 17, 66, 67, 68, 69, 70, 71, 72, 73, 74, 75, 76, 77, 78, 79, 80, 81, 82, 83, 84, 85, 86, 87]) f H = segC call it base s_gnomonlaw25_UpdateTells_r12t5 [3, 4, 17, 66, 67, 68, 69, 70, 71, 72, 73, 74, 75, 76, 77, 78, 79, 80, 81, 82, 83, 84, 85, 86, 87] H (evTale (symAll s_gnomonlaw25_UpdateTells_r12p4 [] [70]) [] f H) (origRow call it base s_gnomonlaw25_UpdateTells_r12t4 [3, 4, 17, 66, 67, 68, 69, 70, 71, 72, 73, 74, 75, 76, 77, 78, 79, 80, 81, 82, 83, 84, 85, 86, 87] f H) := row_seg call it base s_gnomonlaw25_UpdateTells_r12p4 s_gnomonlaw25_UpdateTells_r12t5 (by kernel_rfl) f H
theorem s_gnomonlaw25_UpdateTells_r12t5_x (call : CallF) (it : IterF) (base : Nat) (f : List V) (H : Heap) : evC call it base (.region s_gnomonlaw25_UpdateTells_r12t5 [] [3, 4, 17, 66, 67, 68, 69, 70, 71, 72, 73, 74, 75, 76, 77, 78, 79, 80, 81, 82, 83, 84, 85, 86, 87]) f H = thenC call it base (.region s_gnomonlaw25_UpdateTells_r12t6 [] [3, 4, 17, 66, 67, 68, 69, 70, 71, 72, 73, 74, 75, 76, 77, 78, 79, 80, 81, 82, 83, 84, 85, 86, 87]) (opsC [] s_gnomonlaw25_UpdateTells_r12p5 [70] (evOps call base [⟨some 71, (.call (.c (.fn 8 [] [])) [(.t 70)]), none⟩] f H)) := (row_op call it base s_gnomonlaw25_UpdateTells_r12p5 s_gnomonlaw25_UpdateTells_r12t6 (kc := [70]) (by kernel_rfl) f H).trans (by rw [row_ops]; rfl)
theorem s_gnomonlaw25_UpdateTells_r12p6_tale (fr : List V) (H : Heap) : evTale (symAll s_gnomonlaw25_UpdateTells_r12p6 [] [72]) [] fr H = evTale (some (73, [], [(72, (.t 2))])) [] fr H := tale_row (items := [.tt 2]) (by kernel_rfl) fr H
theorem s_gnomonlaw25_UpdateTells_r12t6_x (call : CallF) (it : IterF) (base : Nat) (f : List V) (H : Heap) : evC call it base (.region s_gnomonlaw25_UpdateTells_r12t6 [] [3, 4, 17, 66, 67, 68, 69, 70, 71, 72, 73, 74, 75, 76, 77, 78, 79, 80, 81, 82, 83, 84, 85, 86, 87]) f H = segC call it base s_gnomonlaw25_UpdateTells_r12t7 [3, 4, 17, 66, 67, 68, 69, 70, 71, 72, 73, 74, 75, 76, 77, 78, 79, 80, 81, 82, 83, 84, 85, 86, 87] H (evTale (symAll s_gnomonlaw25_UpdateTells_r12p6 [] [72]) [] f H) (origRow call it base s_gnomonlaw25_UpdateTells_r12t6 [3, 4, 17, 66, 67, 68, 69, 70, 71, 72, 73, 74, 75, 76, 77, 78, 79, 80, 81, 82, 83, 84, 85, 86, 87] f H) := row_seg call it base s_gnomonlaw25_UpdateTells_r12p6 s_gnomonlaw25_UpdateTells_r12t7 (by kernel_rfl) f H
theorem s_gnomonlaw25_UpdateTells_r12t7_x (call : CallF) (it : IterF) (base : Nat) (f : List V) (H : Heap) : evC call it base (.region s_gnomonlaw25_UpdateTells_r12t7 [] [3, 4, 17, 66, 67, 68, 69, 70, 71, 72, 73, 74, 75, 76, 77, 78, 79, 80, 81, 82, 83, 84, 85, 86, 87]) f H = thenC call it base (.region s_gnomonlaw25_UpdateTells_r12t8 [] [3, 4, 17, 66, 67, 68, 69, 70, 71, 72, 73, 74, 75, 76, 77, 78, 79, 80, 81, 82, 83, 84, 85, 86, 87]) (opsC [] s_gnomonlaw25_UpdateTells_r12p7 [72] (evOps call base [⟨some 73, (.call (.c (.fn 8 [] [])) [(.t 72)]), none⟩] f H)) := (row_op call it base s_gnomonlaw25_UpdateTells_r12p7 s_gnomonlaw25_UpdateTells_r12t8 (kc := [72]) (by kernel_rfl) f H).trans (by rw [row_ops]; rfl)
theorem s_gnomonlaw25_UpdateTells_r12p8_tale (fr : List V) (H : Heap) : evTale (symAll s_gnomonlaw25_UpdateTells_r12p8 [3, 4] [74, 75]) [3, 4] fr H = evTale (some (76, [], [(74, (.t 3)), (75, (.t 4))])) [3, 4] fr H := tale_row (items := [.tt 3, .tt 4]) (by kernel_rfl) fr H
theorem s_gnomonlaw25_UpdateTells_r12t8_x (call : CallF) (it : IterF) (base : Nat) (f : List V) (H : Heap) : evC call it base (.region s_gnomonlaw25_UpdateTells_r12t8 [] [3, 4, 17, 66, 67, 68, 69, 70, 71, 72, 73, 74, 75, 76, 77, 78, 79, 80, 81, 82, 83, 84, 85, 86, 87]) f H = segC call it base s_gnomonlaw25_UpdateTells_r12t9 [3, 4, 17, 66, 67, 68, 69, 70, 71, 72, 73, 74, 75, 76, 77, 78, 79, 80, 81, 82, 83, 84, 85, 86, 87] H (evTale (symAll s_gnomonlaw25_UpdateTells_r12p8 [3, 4] [74, 75]) [3, 4] f H) (origRow call it base s_gnomonlaw25_UpdateTells_r12t8 [3, 4, 17, 66, 67, 68, 69, 70, 71, 72, 73, 74, 75, 76, 77, 78, 79, 80, 81, 82, 83, 84, 85, 86, 87] f H) := row_seg call it base s_gnomonlaw25_UpdateTells_r12p8 s_gnomonlaw25_UpdateTells_r12t9 (by kernel_rfl) f H
theorem s_gnomonlaw25_UpdateTells_r12t9_x (call : CallF) (it : IterF) (base : Nat) (f : List V) (H : Heap) : evC call it base (.region s_gnomonlaw25_UpdateTells_r12t9 [] [3, 4, 17, 66, 67, 68, 69, 70, 71, 72, 73, 74, 75, 76, 77, 78, 79, 80, 81, 82, 83, 84, 85, 86, 87]) f H = thenC call it base (.region s_gnomonlaw25_UpdateTells_r12t10 [] [3, 4, 17, 66, 67, 68, 69, 70, 71, 72, 73, 74, 75, 76, 77, 78, 79, 80, 81, 82, 83, 84, 85, 86, 87]) (opsC [] s_gnomonlaw25_UpdateTells_r12p9 [69, 71, 73, 74, 75] (evOps call base [⟨some 76, (.call (.c (.fn 13 [] [])) [(.t 69), (.t 71), (.t 73), (.t 74), (.t 75)]), none⟩] f H)) := (row_op call it base s_gnomonlaw25_UpdateTells_r12p9 s_gnomonlaw25_UpdateTells_r12t10 (kc := [69, 71, 73, 74, 75]) (by kernel_rfl) f H).trans (by rw [row_ops]; rfl)
theorem s_gnomonlaw25_UpdateTells_r12t10_x (call : CallF) (it : IterF) (base : Nat) (f : List V) (H : Heap) : evC call it base (.region s_gnomonlaw25_UpdateTells_r12t10 [] [3, 4, 17, 66, 67, 68, 69, 70, 71, 72, 73, 74, 75, 76, 77, 78, 79, 80, 81, 82, 83, 84, 85, 86, 87]) f H = thenC call it base (.region s_gnomonlaw25_UpdateTells_r12t11 [] [3, 4, 17, 66, 67, 68, 69, 70, 71, 72, 73, 74, 75, 76, 77, 78, 79, 80, 81, 82, 83, 84, 85, 86, 87]) (opsC [] s_gnomonlaw25_UpdateTells_r12p10 [67, 76] (evOps call base [⟨some 77, (.call (.c (.fn 11 [] [])) [(.t 67), (.t 76)]), none⟩] f H)) := (row_op call it base s_gnomonlaw25_UpdateTells_r12p10 s_gnomonlaw25_UpdateTells_r12t11 (kc := [67, 76]) (by kernel_rfl) f H).trans (by rw [row_ops]; rfl)
theorem s_gnomonlaw25_UpdateTells_r12p11_tale (fr : List V) (H : Heap) : evTale (symAll s_gnomonlaw25_UpdateTells_r12p11 [77, 78] [79]) [77, 78] fr H = evTale (some (80, [], [(79, (.op (.un .not (.t 0)) [(.t 77)]))])) [77, 78] fr H := tale_row (items := [.sub 0 [] [], .sub 0 [] []]) (by kernel_rfl) fr H
theorem s_gnomonlaw25_UpdateTells_r12t11_x (call : CallF) (it : IterF) (base : Nat) (f : List V) (H : Heap) : evC call it base (.region s_gnomonlaw25_UpdateTells_r12t11 [] [3, 4, 17, 66, 67, 68, 69, 70, 71, 72, 73, 74, 75, 76, 77, 78, 79, 80, 81, 82, 83, 84, 85, 86, 87]) f H = segC call it base s_gnomonlaw25_UpdateTells_r12t12 [3, 4, 17, 66, 67, 68, 69, 70, 71, 72, 73, 74, 75, 76, 77, 78, 79, 80, 81, 82, 83, 84, 85, 86, 87] H (evTale (symAll s_gnomonlaw25_UpdateTells_r12p11 [77, 78] [79]) [77, 78] f H) (origRow call it base s_gnomonlaw25_UpdateTells_r12t11 [3, 4, 17, 66, 67, 68, 69, 70, 71, 72, 73, 74, 75, 76, 77, 78, 79, 80, 81, 82, 83, 84, 85, 86, 87] f H) := row_seg call it base s_gnomonlaw25_UpdateTells_r12p11 s_gnomonlaw25_UpdateTells_r12t12 (by kernel_rfl) f H
theorem s_gnomonlaw25_UpdateTells_r12t12_x (call : CallF) (it : IterF) (base : Nat) (f : List V) (H : Heap) : evC call it base (.region s_gnomonlaw25_UpdateTells_r12t12 [] [3, 4, 17, 66, 67, 68, 69, 70, 71, 72, 73, 74, 75, 76, 77, 78, 79, 80, 81, 82, 83, 84, 85, 86, 87]) f H = thenC call it base (.region s_gnomonlaw25_UpdateTells_r12t13 [] [3, 4, 17, 66, 67, 68, 69, 70, 71, 72, 73, 74, 75, 76, 77, 78, 79, 80, 81, 82, 83, 84, 85, 86, 87]) (opsC [] s_gnomonlaw25_UpdateTells_r12p12 [] (evOps call base [⟨some 80, (.move (.t 20)), some (79, false)⟩] f H)) := (row_op call it base s_gnomonlaw25_UpdateTells_r12p12 s_gnomonlaw25_UpdateTells_r12t13 (kc := []) (by kernel_rfl) f H).trans (by rw [row_ops]; rfl)
theorem s_gnomonlaw25_UpdateTells_r12t13_x (call : CallF) (it : IterF) (base : Nat) (f : List V) (H : Heap) : evC call it base (.region s_gnomonlaw25_UpdateTells_r12t13 [] [3, 4, 17, 66, 67, 68, 69, 70, 71, 72, 73, 74, 75, 76, 77, 78, 79, 80, 81, 82, 83, 84, 85, 86, 87]) f H = thenC call it base (.region s_gnomonlaw25_UpdateTells_r12t14 [] [3, 4, 17, 66, 67, 68, 69, 70, 71, 72, 73, 74, 75, 76, 77, 78, 79, 80, 81, 82, 83, 84, 85, 86, 87]) (opsC [] s_gnomonlaw25_UpdateTells_r12p13 [80] (evOps call base [⟨some 81, (.call (.c (.fn 12 [] [])) [(.t 80)]), some (79, false)⟩] f H)) := (row_op call it base s_gnomonlaw25_UpdateTells_r12p13 s_gnomonlaw25_UpdateTells_r12t14 (kc := [80]) (by kernel_rfl) f H).trans (by rw [row_ops]; rfl)
theorem s_gnomonlaw25_UpdateTells_r12t14_x (call : CallF) (it : IterF) (base : Nat) (f : List V) (H : Heap) : evC call it base (.region s_gnomonlaw25_UpdateTells_r12t14 [] [3, 4, 17, 66, 67, 68, 69, 70, 71, 72, 73, 74, 75, 76, 77, 78, 79, 80, 81, 82, 83, 84, 85, 86, 87]) f H = thenC call it base (.region s_gnomonlaw25_UpdateTells_r12t15 [] [3, 4, 17, 66, 67, 68, 69, 70, 71, 72, 73, 74, 75, 76, 77, 78, 79, 80, 81, 82, 83, 84, 85, 86, 87]) (opsC [] s_gnomonlaw25_UpdateTells_r12p14 [] (evOps call base [⟨some 82, (.move (.t 0)), some (79, false)⟩] f H)) := (row_op call it base s_gnomonlaw25_UpdateTells_r12p14 s_gnomonlaw25_UpdateTells_r12t15 (kc := []) (by kernel_rfl) f H).trans (by rw [row_ops]; rfl)
theorem s_gnomonlaw25_UpdateTells_r12t15_x (call : CallF) (it : IterF) (base : Nat) (f : List V) (H : Heap) : evC call it base (.region s_gnomonlaw25_UpdateTells_r12t15 [] [3, 4, 17, 66, 67, 68, 69, 70, 71, 72, 73, 74, 75, 76, 77, 78, 79, 80, 81, 82, 83, 84, 85, 86, 87]) f H = thenC call it base (.region s_gnomonlaw25_UpdateTells_r12t16 [] [3, 4, 17, 66, 67, 68, 69, 70, 71, 72, 73, 74, 75, 76, 77, 78, 79, 80, 81, 82, 83, 84, 85, 86, 87]) (opsC [] s_gnomonlaw25_UpdateTells_r12p15 [82] (evOps call base [⟨some 83, (.call (.c (.fn 8 [] [])) [(.t 82)]), some (79, false)⟩] f H)) := (row_op call it base s_gnomonlaw25_UpdateTells_r12p15 s_gnomonlaw25_UpdateTells_r12t16 (kc := [82]) (by kernel_rfl) f H).trans (by rw [row_ops]; rfl)
theorem s_gnomonlaw25_UpdateTells_r12t16_x (call : CallF) (it : IterF) (base : Nat) (f : List V) (H : Heap) : evC call it base (.region s_gnomonlaw25_UpdateTells_r12t16 [] [3, 4, 17, 66, 67, 68, 69, 70, 71, 72, 73, 74, 75, 76, 77, 78, 79, 80, 81, 82, 83, 84, 85, 86, 87]) f H = thenC call it base (.region s_gnomonlaw25_UpdateTells_r12t17 [] [3, 4, 17, 66, 67, 68, 69, 70, 71, 72, 73, 74, 75, 76, 77, 78, 79, 80, 81, 82, 83, 84, 85, 86, 87]) (opsC [] s_gnomonlaw25_UpdateTells_r12p16 [17] (evOps call base [⟨some 84, (.move (.t 17)), some (79, false)⟩] f H)) := (row_op call it base s_gnomonlaw25_UpdateTells_r12p16 s_gnomonlaw25_UpdateTells_r12t17 (kc := [17]) (by kernel_rfl) f H).trans (by rw [row_ops]; rfl)
theorem s_gnomonlaw25_UpdateTells_r12t17_x (call : CallF) (it : IterF) (base : Nat) (f : List V) (H : Heap) : evC call it base (.region s_gnomonlaw25_UpdateTells_r12t17 [] [3, 4, 17, 66, 67, 68, 69, 70, 71, 72, 73, 74, 75, 76, 77, 78, 79, 80, 81, 82, 83, 84, 85, 86, 87]) f H = thenC call it base (.region s_gnomonlaw25_UpdateTells_r12t18 [] [3, 4, 17, 66, 67, 68, 69, 70, 71, 72, 73, 74, 75, 76, 77, 78, 79, 80, 81, 82, 83, 84, 85, 86, 87]) (opsC [] s_gnomonlaw25_UpdateTells_r12p17 [83, 84] (evOps call base [⟨some 85, (.call (.c (.fn 14 [] [])) [(.t 83), (.t 84)]), some (79, false)⟩] f H)) := (row_op call it base s_gnomonlaw25_UpdateTells_r12p17 s_gnomonlaw25_UpdateTells_r12t18 (kc := [83, 84]) (by kernel_rfl) f H).trans (by rw [row_ops]; rfl)
theorem s_gnomonlaw25_UpdateTells_r12t18_x (call : CallF) (it : IterF) (base : Nat) (f : List V) (H : Heap) : evC call it base (.region s_gnomonlaw25_UpdateTells_r12t18 [] [3, 4, 17, 66, 67, 68, 69, 70, 71, 72, 73, 74, 75, 76, 77, 78, 79, 80, 81, 82, 83, 84, 85, 86, 87]) f H = thenC call it base (.region s_gnomonlaw25_UpdateTells_r12t19 [] [3, 4, 17, 66, 67, 68, 69, 70, 71, 72, 73, 74, 75, 76, 77, 78, 79, 80, 81, 82, 83, 84, 85, 86, 87]) (opsC [] s_gnomonlaw25_UpdateTells_r12p18 [81, 85] (evOps call base [⟨some 86, (.call (.c (.fn 11 [] [])) [(.t 81), (.t 85)]), some (79, false)⟩] f H)) := (row_op call it base s_gnomonlaw25_UpdateTells_r12p18 s_gnomonlaw25_UpdateTells_r12t19 (kc := [81, 85]) (by kernel_rfl) f H).trans (by rw [row_ops]; rfl)
theorem s_gnomonlaw25_UpdateTells_r12t19_tale (fr : List V) (H : Heap) : evTale (symAll s_gnomonlaw25_UpdateTells_r12t19 [3, 4, 17, 66, 67, 68, 69, 70, 71, 72, 73, 74, 75, 76, 77, 78, 79, 80, 81, 82, 83, 84, 85, 86, 87] [88]) [3, 4, 17, 66, 67, 68, 69, 70, 71, 72, 73, 74, 75, 76, 77, 78, 79, 80, 81, 82, 83, 84, 85, 86, 87] fr H = evTale (some (89, [], [(88, (.pick (.t 79) (.c (.s (.bool true))) (.op (.un .not (.t 0)) [(.t 86)])))])) [3, 4, 17, 66, 67, 68, 69, 70, 71, 72, 73, 74, 75, 76, 77, 78, 79, 80, 81, 82, 83, 84, 85, 86, 87] fr H := tale_row (items := [.sub 0 [2] [79], .sub 0 [] []]) (by kernel_rfl) fr H
theorem s_gnomonlaw25_UpdateTells_r12t19_x (call : CallF) (it : IterF) (base : Nat) (f : List V) (H : Heap) : evC call it base (.region s_gnomonlaw25_UpdateTells_r12t19 [] [3, 4, 17, 66, 67, 68, 69, 70, 71, 72, 73, 74, 75, 76, 77, 78, 79, 80, 81, 82, 83, 84, 85, 86, 87]) f H = segL H (evTale (symAll s_gnomonlaw25_UpdateTells_r12t19 [3, 4, 17, 66, 67, 68, 69, 70, 71, 72, 73, 74, 75, 76, 77, 78, 79, 80, 81, 82, 83, 84, 85, 86, 87] [88]) [3, 4, 17, 66, 67, 68, 69, 70, 71, 72, 73, 74, 75, 76, 77, 78, 79, 80, 81, 82, 83, 84, 85, 86, 87] f H) (origRow call it base s_gnomonlaw25_UpdateTells_r12t19 [3, 4, 17, 66, 67, 68, 69, 70, 71, 72, 73, 74, 75, 76, 77, 78, 79, 80, 81, 82, 83, 84, 85, 86, 87] f H) := row_last call it base _ f H
def s_gnomonlaw25_UpdateTells_r13 : List AOper := [
  ⟨some 12, (.move (.c (.s (.bool false)))), none⟩]
theorem s_gnomonlaw25_UpdateTells_r13_tale (fr : List V) (H : Heap) : evTale (symAll s_gnomonlaw25_UpdateTells_r13 [0, 1, 2, 5, 13, 14, 15, 16, 19, 20, 88] [12]) [0, 1, 2, 5, 13, 14, 15, 16, 19, 20, 88] fr H = evTale (some (13, [], [(12, (.c (.s (.bool false))))])) [0, 1, 2, 5, 13, 14, 15, 16, 19, 20, 88] fr H := tale_row (items := [.cc (.s (.bool false))]) (by kernel_rfl) fr H
def s_gnomonlaw25_UpdateTells_r14t12 : List AOper := [⟨some 109, (.pick (.t 105) (.c (.s (.bool true))) (.t 108)), none⟩]
def s_gnomonlaw25_UpdateTells_r14p11 : List AOper := [⟨some 108, (.eqP false (.t 106) (.t 107)), some (105, false)⟩]
def s_gnomonlaw25_UpdateTells_r14t11 : List AOper := s_gnomonlaw25_UpdateTells_r14p11 ++ s_gnomonlaw25_UpdateTells_r14t12
def s_gnomonlaw25_UpdateTells_r14p10 : List AOper := [⟨some 107, (.move (.t 13)), some (105, false)⟩]
def s_gnomonlaw25_UpdateTells_r14t10 : List AOper := s_gnomonlaw25_UpdateTells_r14p10 ++ s_gnomonlaw25_UpdateTells_r14t11
def s_gnomonlaw25_UpdateTells_r14p9 : List AOper := [⟨some 106, (.move (.t 20)), some (105, false)⟩]
def s_gnomonlaw25_UpdateTells_r14t9 : List AOper := s_gnomonlaw25_UpdateTells_r14p9 ++ s_gnomonlaw25_UpdateTells_r14t10
def s_gnomonlaw25_UpdateTells_r14p8 : List AOper := [⟨some 104, (.pick (.t 100) (.c (.s (.bool true))) (.t 103)), none⟩, ⟨some 105, (.move (.t 104)), none⟩]
def s_gnomonlaw25_UpdateTells_r14t8 : List AOper := s_gnomonlaw25_UpdateTells_r14p8 ++ s_gnomonlaw25_UpdateTells_r14t9
def s_gnomonlaw25_UpdateTells_r14p7 : List AOper := [⟨some 103, (.eqP false (.t 101) (.t 102)), some (100, false)⟩]
def s_gnomonlaw25_UpdateTells_r14t7 : List AOper := s_gnomonlaw25_UpdateTells_r14p7 ++ s_gnomonlaw25_UpdateTells_r14t8
def s_gnomonlaw25_UpdateTells_r14p6 : List AOper := [⟨some 102, (.move (.t 14)), some (100, false)⟩]
def s_gnomonlaw25_UpdateTells_r14t6 : List AOper := s_gnomonlaw25_UpdateTells_r14p6 ++ s_gnomonlaw25_UpdateTells_r14t7
def s_gnomonlaw25_UpdateTells_r14p5 : List AOper := [⟨some 101, (.move (.t 16)), some (100, false)⟩]
def s_gnomonlaw25_UpdateTells_r14t5 : List AOper := s_gnomonlaw25_UpdateTells_r14p5 ++ s_gnomonlaw25_UpdateTells_r14t6
def s_gnomonlaw25_UpdateTells_r14p4 : List AOper := [⟨some 99, (.pick (.t 95) (.c (.s (.bool true))) (.t 98)), none⟩, ⟨some 100, (.move (.t 99)), none⟩]
def s_gnomonlaw25_UpdateTells_r14t4 : List AOper := s_gnomonlaw25_UpdateTells_r14p4 ++ s_gnomonlaw25_UpdateTells_r14t5
def s_gnomonlaw25_UpdateTells_r14p3 : List AOper := [⟨some 98, (.eqP false (.t 96) (.t 97)), some (95, false)⟩]
def s_gnomonlaw25_UpdateTells_r14t3 : List AOper := s_gnomonlaw25_UpdateTells_r14p3 ++ s_gnomonlaw25_UpdateTells_r14t4
def s_gnomonlaw25_UpdateTells_r14p2 : List AOper := [⟨some 97, (.move (.t 13)), some (95, false)⟩]
def s_gnomonlaw25_UpdateTells_r14t2 : List AOper := s_gnomonlaw25_UpdateTells_r14p2 ++ s_gnomonlaw25_UpdateTells_r14t3
def s_gnomonlaw25_UpdateTells_r14p1 : List AOper := [⟨some 96, (.move (.t 16)), some (95, false)⟩]
def s_gnomonlaw25_UpdateTells_r14t1 : List AOper := s_gnomonlaw25_UpdateTells_r14p1 ++ s_gnomonlaw25_UpdateTells_r14t2
def s_gnomonlaw25_UpdateTells_r14p0 : List AOper := [⟨some 89, (.move (.t 16)), none⟩, ⟨some 90, (.eqNil .p false (.t 89)), none⟩, ⟨some 91, (.move (.t 90)), none⟩, ⟨some 92, (.move (.t 20)), some (91, false)⟩, ⟨some 93, (.eqNil .p false (.t 92)), some (91, false)⟩, ⟨some 94, (.pick (.t 91) (.c (.s (.bool true))) (.t 93)), none⟩, ⟨some 95, (.move (.t 94)), none⟩]
def s_gnomonlaw25_UpdateTells_r14 : List AOper := s_gnomonlaw25_UpdateTells_r14p0 ++ s_gnomonlaw25_UpdateTells_r14t1
theorem s_gnomonlaw25_UpdateTells_r14p0_tale (fr : List V) (H : Heap) : evTale (symAll s_gnomonlaw25_UpdateTells_r14p0 [88, 89, 90, 91, 92, 93, 94] [95]) [88, 89, 90, 91, 92, 93, 94] fr H = evTale (some (96, [], [(95, (.pick (.op (.eqNil .p false (.t 0)) [(.t 16)]) (.c (.s (.bool true))) (.op (.eqNil .p false (.t 0)) [(.t 20)])))])) [88, 89, 90, 91, 92, 93, 94] fr H := tale_row (items := [.tt 16, .sub 0 [0] [], .sub 0 [0] [], .sub 0 [2, 0] [91], .sub 0 [2] [91], .sub 0 [] [], .sub 0 [] []]) (by kernel_rfl) fr H
theorem s_gnomonlaw25_UpdateTells_r14_x (call : CallF) (it : IterF) (base : Nat) (f : List V) (H : Heap) : evC call it base (.region s_gnomonlaw25_UpdateTells_r14 [] [88, 89, 90, 91, 92, 93, 94, 95, 96, 97, 98, 99, 100, 101, 102, 103, 104, 105, 106, 107, 108]) f H = segC call it base s_gnomonlaw25_UpdateTells_r14t1 [88, 89, 90, 91, 92, 93, 94, 95, 96, 97, 98, 99, 100, 101, 102, 103, 104, 105, 106, 107, 108] H (evTale (symAll s_gnomonlaw25_UpdateTells_r14p0 [88, 89, 90, 91, 92, 93, 94] [95]) [88, 89, 90, 91, 92, 93, 94] f H) (origRow call it base s_gnomonlaw25_UpdateTells_r14 [88, 89, 90, 91, 92, 93, 94, 95, 96, 97, 98, 99, 100, 101, 102, 103, 104, 105, 106, 107, 108] f H) := row_seg call it base s_gnomonlaw25_UpdateTells_r14p0 s_gnomonlaw25_UpdateTells_r14t1 (by kernel_rfl) f H
theorem s_gnomonlaw25_UpdateTells_r14t1_x (call : CallF) (it : IterF) (base : Nat) (f : List V) (H : Heap) : evC call it base (.region s_gnomonlaw25_UpdateTells_r14t1 [] [88, 89, 90, 91, 92, 93, 94, 95, 96, 97, 98, 99, 100, 101, 102, 103, 104, 105, 106, 107, 108]) f H = thenC call it base (.region s_gnomonlaw25_UpdateTells_r14t2 [] [88, 89, 90, 91, 92, 93, 94, 95, 96, 97, 98, 99, 100, 101, 102, 103, 104, 105, 106, 107, 108]) (opsC [] s_gnomonlaw25_UpdateTells_r14p1 [] (evOps call base [⟨some 96, (.move (.t 16)), some (95, false)⟩] f H)) := (row_op call it base s_gnomonlaw25_UpdateTells_r14p1 s_gnomonlaw25_UpdateTells_r14t2 (kc := []) (by kernel_rfl) f H).trans (by rw [row_ops]; rfl)
theorem s_gnomonlaw25_UpdateTells_r14t2_x (call : CallF) (it : IterF) (base : Nat) (f : List V) (H : Heap) : evC call it base (.region s_gnomonlaw25_UpdateTells_r14t2 [] [88, 89, 90, 91, 92, 93, 94, 95, 96, 97, 98, 99, 100, 101, 102, 103, 104, 105, 106, 107, 108]) f H = thenC call it base (.region s_gnomonlaw25_UpdateTells_r14t3 [] [88, 89, 90, 91, 92, 93, 94, 95, 96, 97, 98, 99, 100, 101, 102, 103, 104, 105, 106, 107, 108]) (opsC [] s_gnomonlaw25_UpdateTells_r14p2 [] (evOps call base [⟨some 97, (.move (.t 13)), some (95, false)⟩] f H)) := (row_op call it base s_gnomonlaw25_UpdateTells_r14p2 s_gnomonlaw25_UpdateTells_r14t3 (kc := []) (by kernel_rfl) f H).trans (by rw [row_ops]; rfl)
theorem s_gnomonlaw25_UpdateTells_r14t3_x (call : CallF) (it : IterF) (base : Nat) (f : List V) (H : Heap) : evC call it base (.region s_gnomonlaw25_UpdateTells_r14t3 [] [88, 89, 90, 91, 92, 93, 94, 95, 96, 97, 98, 99, 100, 101, 102, 103, 104, 105, 106, 107, 108]) f H = thenC call it base (.region s_gnomonlaw25_UpdateTells_r14t4 [] [88, 89, 90, 91, 92, 93, 94, 95, 96, 97, 98, 99, 100, 101, 102, 103, 104, 105, 106, 107, 108]) (opsC [] s_gnomonlaw25_UpdateTells_r14p3 [96, 97] (evOps call base [⟨some 98, (.eqP false (.t 96) (.t 97)), some (95, false)⟩] f H)) := (row_op call it base s_gnomonlaw25_UpdateTells_r14p3 s_gnomonlaw25_UpdateTells_r14t4 (kc := [96, 97]) (by kernel_rfl) f H).trans (by rw [row_ops]; rfl)
theorem s_gnomonlaw25_UpdateTells_r14p4_tale (fr : List V) (H : Heap) : evTale (symAll s_gnomonlaw25_UpdateTells_r14p4 [95, 98, 99] [100]) [95, 98, 99] fr H = evTale (some (101, [], [(100, (.pick (.t 95) (.c (.s (.bool true))) (.t 98)))])) [95, 98, 99] fr H := tale_row (items := [.sub 0 [] [], .sub 0 [] []]) (by kernel_rfl) fr H
theorem s_gnomonlaw25_UpdateTells_r14t4_x (call : CallF) (it : IterF) (base : Nat) (f : List V) (H : Heap) : evC call it base (.region s_gnomonlaw25_UpdateTells_r14t4 [] [88, 89, 90, 91, 92, 93, 94, 95, 96, 97, 98, 99, 100, 101, 102, 103, 104, 105, 106, 107, 108]) f H = segC call it base s_gnomonlaw25_UpdateTells_r14t5 [88, 89, 90, 91, 92, 93, 94, 95, 96, 97, 98, 99, 100, 101, 102, 103, 104, 105, 106, 107, 108] H (evTale (symAll s_gnomonlaw25_UpdateTells_r14p4 [95, 98, 99] [100]) [95, 98, 99] f H) (origRow call it base s_gnomonlaw25_UpdateTells_r14t4 [88, 89, 90, 91, 92, 93, 94, 95, 96, 97, 98, 99, 100, 101, 102, 103, 104, 105, 106, 107, 108] f H) := row_seg call it base s_gnomonlaw25_UpdateTells_r14p4 s_gnomonlaw25_UpdateTells_r14t5 (by kernel_rfl) f H
theorem s_gnomonlaw25_UpdateTells_r14t5_x (call : CallF) (it : IterF) (base : Nat) (f : List V) (H : Heap) : evC call it base (.region s_gnomonlaw25_UpdateTells_r14t5 [] [88, 89, 90, 91, 92, 93, 94, 95, 96, 97, 98, 99, 100, 101, 102, 103, 104, 105, 106, 107, 108]) f H = thenC call it base (.region s_gnomonlaw25_UpdateTells_r14t6 [] [88, 89, 90, 91, 92, 93, 94, 95, 96, 97, 98, 99, 100, 101, 102, 103, 104, 105, 106, 107, 108]) (opsC [] s_gnomonlaw25_UpdateTells_r14p5 [] (evOps call base [⟨some 101, (.move (.t 16)), some (100, false)⟩] f H)) := (row_op call it base s_gnomonlaw25_UpdateTells_r14p5 s_gnomonlaw25_UpdateTells_r14t6 (kc := []) (by kernel_rfl) f H).trans (by rw [row_ops]; rfl)
theorem s_gnomonlaw25_UpdateTells_r14t6_x (call : CallF) (it : IterF) (base : Nat) (f : List V) (H : Heap) : evC call it base (.region s_gnomonlaw25_UpdateTells_r14t6 [] [88, 89, 90, 91, 92, 93, 94, 95, 96, 97, 98, 99, 100, 101, 102, 103, 104, 105, 106, 107, 108]) f H = thenC call it base (.region s_gnomonlaw25_UpdateTells_r14t7 [] [88, 89, 90, 91, 92, 93, 94, 95, 96, 97, 98, 99, 100, 101, 102, 103, 104, 105, 106, 107, 108]) (opsC [] s_gnomonlaw25_UpdateTells_r14p6 [] (evOps call base [⟨some 102, (.move (.t 14)), some (100, false)⟩] f H)) := (row_op call it base s_gnomonlaw25_UpdateTells_r14p6 s_gnomonlaw25_UpdateTells_r14t7 (kc := []) (by kernel_rfl) f H).trans (by rw [row_ops]; rfl)
theorem s_gnomonlaw25_UpdateTells_r14t7_x (call : CallF) (it : IterF) (base : Nat) (f : List V) (H : Heap) : evC call it base (.region s_gnomonlaw25_UpdateTells_r14t7 [] [88, 89, 90, 91, 92, 93, 94, 95, 96, 97, 98, 99, 100, 101, 102, 103, 104, 105, 106, 107, 108]) f H = thenC call it base (.region s_gnomonlaw25_UpdateTells_r14t8 [] [88, 89, 90, 91, 92, 93, 94, 95, 96, 97, 98, 99, 100, 101, 102, 103, 104, 105, 106, 107, 108]) (opsC [] s_gnomonlaw25_UpdateTells_r14p7 [101, 102] (evOps call base [⟨some 103, (.eqP false (.t 101) (.t 102)), some (100, false)⟩] f H)) := (row_op call it base s_gnomonlaw25_UpdateTells_r14p7 s_gnomonlaw25_UpdateTells_r14t8 (kc := [101, 102]) (by kernel_rfl) f H).trans (by rw [row_ops]; rfl)
theorem s_gnomonlaw25_UpdateTells_r14p8_tale (fr : List V) (H : Heap) : evTale (symAll s_gnomonlaw25_UpdateTells_r14p8 [100, 103, 104] [105]) [100, 103, 104] fr H = evTale (some (106, [], [(105, (.pick (.t 100) (.c (.s (.bool true))) (.t 103)))])) [100, 103, 104] fr H := tale_row (items := [.sub 0 [] [], .sub 0 [] []]) (by kernel_rfl) fr H
theorem s_gnomonlaw25_UpdateTells_r14t8_x (call : CallF) (it : IterF) (base : Nat) (f : List V) (H : Heap) : evC call it base (.region s_gnomonlaw25_UpdateTells_r14t8 [] [88, 89, 90, 91, 92, 93, 94, 95, 96, 97, 98, 99, 100, 101, 102, 103, 104, 105, 106, 107, 108]) f H = segC call it base s_gnomonlaw25_UpdateTells_r14t9 [88, 89, 90, 91, 92, 93, 94, 95, 96, 97, 98, 99, 100, 101, 102, 103, 104, 105, 106, 107, 108] H (evTale (symAll s_gnomonlaw25_UpdateTells_r14p8 [100, 103, 104] [105]) [100, 103, 104] f H) (origRow call it base s_gnomonlaw25_UpdateTells_r14t8 [88, 89, 90, 91, 92, 93, 94, 95, 96, 97, 98, 99, 100, 101, 102, 103, 104, 105, 106, 107, 108] f H) := row_seg call it base s_gnomonlaw25_UpdateTells_r14p8 s_gnomonlaw25_UpdateTells_r14t9 (by kernel_rfl) f H
theorem s_gnomonlaw25_UpdateTells_r14t9_x (call : CallF) (it : IterF) (base : Nat) (f : List V) (H : Heap) : evC call it base (.region s_gnomonlaw25_UpdateTells_r14t9 [] [88, 89, 90, 91, 92, 93, 94, 95, 96, 97, 98, 99, 100, 101, 102, 103, 104, 105, 106, 107, 108]) f H = thenC call it base (.region s_gnomonlaw25_UpdateTells_r14t10 [] [88, 89, 90, 91, 92, 93, 94, 95, 96, 97, 98, 99, 100, 101, 102, 103, 104, 105, 106, 107, 108]) (opsC [] s_gnomonlaw25_UpdateTells_r14p9 [] (evOps call base [⟨some 106, (.move (.t 20)), some (105, false)⟩] f H)) := (row_op call it base s_gnomonlaw25_UpdateTells_r14p9 s_gnomonlaw25_UpdateTells_r14t10 (kc := []) (by kernel_rfl) f H).trans (by rw [row_ops]; rfl)
theorem s_gnomonlaw25_UpdateTells_r14t10_x (call : CallF) (it : IterF) (base : Nat) (f : List V) (H : Heap) : evC call it base (.region s_gnomonlaw25_UpdateTells_r14t10 [] [88, 89, 90, 91, 92, 93, 94, 95, 96, 97, 98, 99, 100, 101, 102, 103, 104, 105, 106, 107, 108]) f H = thenC call it base (.region s_gnomonlaw25_UpdateTells_r14t11 [] [88, 89, 90, 91, 92, 93, 94, 95, 96, 97, 98, 99, 100, 101, 102, 103, 104, 105, 106, 107, 108]) (opsC [] s_gnomonlaw25_UpdateTells_r14p10 [] (evOps call base [⟨some 107, (.move (.t 13)), some (105, false)⟩] f H)) := (row_op call it base s_gnomonlaw25_UpdateTells_r14p10 s_gnomonlaw25_UpdateTells_r14t11 (kc := []) (by kernel_rfl) f H).trans (by rw [row_ops]; rfl)
theorem s_gnomonlaw25_UpdateTells_r14t11_x (call : CallF) (it : IterF) (base : Nat) (f : List V) (H : Heap) : evC call it base (.region s_gnomonlaw25_UpdateTells_r14t11 [] [88, 89, 90, 91, 92, 93, 94, 95, 96, 97, 98, 99, 100, 101, 102, 103, 104, 105, 106, 107, 108]) f H = thenC call it base (.region s_gnomonlaw25_UpdateTells_r14t12 [] [88, 89, 90, 91, 92, 93, 94, 95, 96, 97, 98, 99, 100, 101, 102, 103, 104, 105, 106, 107, 108]) (opsC [] s_gnomonlaw25_UpdateTells_r14p11 [106, 107] (evOps call base [⟨some 108, (.eqP false (.t 106) (.t 107)), some (105, false)⟩] f H)) := (row_op call it base s_gnomonlaw25_UpdateTells_r14p11 s_gnomonlaw25_UpdateTells_r14t12 (kc := [106, 107]) (by kernel_rfl) f H).trans (by rw [row_ops]; rfl)
theorem s_gnomonlaw25_UpdateTells_r14t12_tale (fr : List V) (H : Heap) : evTale (symAll s_gnomonlaw25_UpdateTells_r14t12 [88, 89, 90, 91, 92, 93, 94, 95, 96, 97, 98, 99, 100, 101, 102, 103, 104, 105, 106, 107, 108] [109]) [88, 89, 90, 91, 92, 93, 94, 95, 96, 97, 98, 99, 100, 101, 102, 103, 104, 105, 106, 107, 108] fr H = evTale (some (110, [], [(109, (.pick (.t 105) (.c (.s (.bool true))) (.t 108)))])) [88, 89, 90, 91, 92, 93, 94, 95, 96, 97, 98, 99, 100, 101, 102, 103, 104, 105, 106, 107, 108] fr H := tale_row (items := [.sub 0 [] []]) (by kernel_rfl) fr H
theorem s_gnomonlaw25_UpdateTells_r14t12_x (call : CallF) (it : IterF) (base : Nat) (f : List V) (H : Heap) : evC call it base (.region s_gnomonlaw25_UpdateTells_r14t12 [] [88, 89, 90, 91, 92, 93, 94, 95, 96, 97, 98, 99, 100, 101, 102, 103, 104, 105, 106, 107, 108]) f H = segL H (evTale (symAll s_gnomonlaw25_UpdateTells_r14t12 [88, 89, 90, 91, 92, 93, 94, 95, 96, 97, 98, 99, 100, 101, 102, 103, 104, 105, 106, 107, 108] [109]) [88, 89, 90, 91, 92, 93, 94, 95, 96, 97, 98, 99, 100, 101, 102, 103, 104, 105, 106, 107, 108] f H) (origRow call it base s_gnomonlaw25_UpdateTells_r14t12 [88, 89, 90, 91, 92, 93, 94, 95, 96, 97, 98, 99, 100, 101, 102, 103, 104, 105, 106, 107, 108] f H) := row_last call it base _ f H
def s_gnomonlaw25_UpdateTells_r15 : List AOper := [
  ⟨some 12, (.move (.c (.s (.bool false)))), none⟩]
theorem s_gnomonlaw25_UpdateTells_r15_tale (fr : List V) (H : Heap) : evTale (symAll s_gnomonlaw25_UpdateTells_r15 [0, 1, 2, 5, 13, 14, 15, 16, 19, 20, 109] [12]) [0, 1, 2, 5, 13, 14, 15, 16, 19, 20, 109] fr H = evTale (some (13, [], [(12, (.c (.s (.bool false))))])) [0, 1, 2, 5, 13, 14, 15, 16, 19, 20, 109] fr H := tale_row (items := [.cc (.s (.bool false))]) (by kernel_rfl) fr H
def s_gnomonlaw25_UpdateTells_r16t1 : List AOper := [⟨some 111, (.call (.c (.fn 15 [] [])) [(.t 110), (.c (.s (.int .i64 1125899906842624)))]), none⟩]
def s_gnomonlaw25_UpdateTells_r16p0 : List AOper := [⟨some 110, (.move (.t 16)), none⟩]
def s_gnomonlaw25_UpdateTells_r16 : List AOper := s_gnomonlaw25_UpdateTells_r16p0 ++ s_gnomonlaw25_UpdateTells_r16t1
theorem s_gnomonlaw25_UpdateTells_r16p0_tale (fr : List V) (H : Heap) : evTale (symAll s_gnomonlaw25_UpdateTells_r16p0 [16, 109] [110]) [16, 109] fr H = evTale (some (111, [], [(110, (.t 16))])) [16, 109] fr H := tale_row (items := [.tt 16]) (by kernel_rfl) fr H
theorem s_gnomonlaw25_UpdateTells_r16_x (call : CallF) (it : IterF) (base : Nat) (f : List V) (H : Heap) : evC call it base (.region s_gnomonlaw25_UpdateTells_r16 [] [16, 109, 110, 111]) f H = segC call it base s_gnomonlaw25_UpdateTells_r16t1 [16, 109, 110, 111] H (evTale (symAll s_gnomonlaw25_UpdateTells_r16p0 [16, 109] [110]) [16, 109] f H) (origRow call it base s_gnomonlaw25_UpdateTells_r16 [16, 109, 110, 111] f H) := row_seg call it base s_gnomonlaw25_UpdateTells_r16p0 s_gnomonlaw25_UpdateTells_r16t1 (by kernel_rfl) f H
theorem s_gnomonlaw25_UpdateTells_r16t1_x (call : CallF) (it : IterF) (base : Nat) (f : List V) (H : Heap) : evC call it base (.region s_gnomonlaw25_UpdateTells_r16t1 [] [16, 109, 110, 111]) f H = opsC [] s_gnomonlaw25_UpdateTells_r16t1 [16, 109, 110, 111] (evOps call base [⟨some 111, (.call (.c (.fn 15 [] [])) [(.t 110), (.c (.s (.int .i64 1125899906842624)))]), none⟩] f H) := row_ops call it base _ _ f H
def s_gnomonlaw25_UpdateTells_r17t1 : List AOper := [⟨some 113, (.call (.c (.fn 15 [] [])) [(.t 112), (.c (.s (.int .i64 2251799813685248)))]), none⟩]
def s_gnomonlaw25_UpdateTells_r17p0 : List AOper := [⟨some 112, (.move (.t 20)), none⟩]
def s_gnomonlaw25_UpdateTells_r17 : List AOper := s_gnomonlaw25_UpdateTells_r17p0 ++ s_gnomonlaw25_UpdateTells_r17t1
theorem s_gnomonlaw25_UpdateTells_r17p0_tale (fr : List V) (H : Heap) : evTale (symAll s_gnomonlaw25_UpdateTells_r17p0 [20] [112]) [20] fr H = evTale (some (113, [], [(112, (.t 20))])) [20] fr H := tale_row (items := [.tt 20]) (by kernel_rfl) fr H
theorem s_gnomonlaw25_UpdateTells_r17_x (call : CallF) (it : IterF) (base : Nat) (f : List V) (H : Heap) : evC call it base (.region s_gnomonlaw25_UpdateTells_r17 [] [20, 112, 113]) f H = segC call it base s_gnomonlaw25_UpdateTells_r17t1 [20, 112, 113] H (evTale (symAll s_gnomonlaw25_UpdateTells_r17p0 [20] [112]) [20] f H) (origRow call it base s_gnomonlaw25_UpdateTells_r17 [20, 112, 113] f H) := row_seg call it base s_gnomonlaw25_UpdateTells_r17p0 s_gnomonlaw25_UpdateTells_r17t1 (by kernel_rfl) f H
theorem s_gnomonlaw25_UpdateTells_r17t1_x (call : CallF) (it : IterF) (base : Nat) (f : List V) (H : Heap) : evC call it base (.region s_gnomonlaw25_UpdateTells_r17t1 [] [20, 112, 113]) f H = opsC [] s_gnomonlaw25_UpdateTells_r17t1 [20, 112, 113] (evOps call base [⟨some 113, (.call (.c (.fn 15 [] [])) [(.t 112), (.c (.s (.int .i64 2251799813685248)))]), none⟩] f H) := row_ops call it base _ _ f H
def s_gnomonlaw25_UpdateTells_r18 : List AOper := [
  ⟨some 21, (.move (.c (.s (.int .i64 0)))), none⟩]
theorem s_gnomonlaw25_UpdateTells_r18_tale (fr : List V) (H : Heap) : evTale (symAll s_gnomonlaw25_UpdateTells_r18 [] [21]) [] fr H = evTale (some (22, [], [(21, (.c (.s (.int .i64 0))))])) [] fr H := tale_row (items := [.cc (.s (.int .i64 0))]) (by kernel_rfl) fr H
def s_gnomonlaw25_UpdateTells_r19 : List AOper := [
  ⟨some 114, (.move (.t 21)), none⟩,
  ⟨some 115, (.move (.t 19)), none⟩,
  ⟨some 116, (.lenS .s (.t 115)), none⟩,
  ⟨some 117, (.bin .lss (.t 114) (.t 116)), none⟩]
theorem s_gnomonlaw25_UpdateTells_r19_tale (fr : List V) (H : Heap) : evTale (symAll s_gnomonlaw25_UpdateTells_r19 [114, 115, 116] [117]) [114, 115, 116] fr H = evTale (some (118, [], [(117, (.op (.bin .lss (.t 0) (.t 1)) [(.t 21), (.op (.lenS .s (.t 0)) [(.t 19)])]))])) [114, 115, 116] fr H := tale_row (items := [.tt 21, .tt 19, .sub 0 [1] [], .sub 0 [] []]) (by kernel_rfl) fr H
def s_gnomonlaw25_UpdateTells_r20t5 : List AOper := [⟨some 133, (.un .not (.t 132)), none⟩]
def s_gnomonlaw25_UpdateTells_r20p4 : List AOper := [⟨some 132, (.call (.c (.fn 11 [] [])) [(.t 125), (.t 131)]), none⟩]
def s_gnomonlaw25_UpdateTells_r20t4 : List AOper := s_gnomonlaw25_UpdateTells_r20p4 ++ s_gnomonlaw25_UpdateTells_r20t5
def s_gnomonlaw25_UpdateTells_r20p3 : List AOper := [⟨some 131, (.call (.c (.fn 8 [] [])) [(.t 130)]), none⟩]
def s_gnomonlaw25_UpdateTells_r20t3 : List AOper := s_gnomonlaw25_UpdateTells_r20p3 ++ s_gnomonlaw25_UpdateTells_r20t4
def s_gnomonlaw25_UpdateTells_r20p2 : List AOper := [⟨some 126, (.move (.t 5)), none⟩, ⟨some 127, (.move (.t 21)), none⟩, ⟨some 128, (.indexAddr 2 (.t 126) (.t 127)), none⟩, ⟨some 129, (.fieldAddr 1 (.t 128)), none⟩, ⟨some 130, (.load false 1 (.t 129)), none⟩]
def s_gnomonlaw25_UpdateTells_r20t2 : List AOper := s_gnomonlaw25_UpdateTells_r20p2 ++ s_gnomonlaw25_UpdateTells_r20t3
def s_gnomonlaw25_UpdateTells_r20p1 : List AOper := [⟨some 125, (.callR (.c (.fn 12 [] [])) [(.t 124)]), none⟩]
def s_gnomonlaw25_UpdateTells_r20t1 : List AOper := s_gnomonlaw25_UpdateTells_r20p1 ++ s_gnomonlaw25_UpdateTells_r20t2
def s_gnomonlaw25_UpdateTells_r20p0 : List AOper := [⟨some 120, (.move (.t 19)), none⟩, ⟨some 121, (.move (.t 21)), none⟩, ⟨some 122, (.indexAddr 2 (.t 120) (.t 121)), none⟩, ⟨some 123, (.fieldAddr 1 (.t 122)), none⟩, ⟨some 124, (.load false 1 (.t 123)), none⟩]
def s_gnomonlaw25_UpdateTells_r20 : List AOper := s_gnomonlaw25_UpdateTells_r20p0 ++ s_gnomonlaw25_UpdateTells_r20t1
theorem s_gnomonlaw25_UpdateTells_r20p0_tale (fr : List V) (H : Heap) : evTale (symAll s_gnomonlaw25_UpdateTells_r20p0 [117, 120, 121, 122, 123] [124]) [117, 120, 121, 122, 123] fr H = evTale (some (125, [], [(124, (.op (.load false 1 (.t 0)) [(.op (.fieldAddr 1 (.t 0)) [(.op (.indexAddr 2 (.t 0) (.t 1)) [(.t 19), (.t 21)])])]))])) [117, 120, 121, 122, 123] fr H := tale_row (items := [.tt 19, .tt 21, .sub 0 [0, 0] [], .sub 0 [0] [], .sub 0 [] []]) (by kernel_rfl) fr H
theorem s_gnomonlaw25_UpdateTells_r20_x (call : CallF) (it : IterF) (base : Nat) (f : List V) (H : Heap) : evC call it base (.region s_gnomonlaw25_UpdateTells_r20 [] [117, 120, 121, 122, 123, 124, 125, 126, 127, 128, 129, 130, 131, 132]) f H = segC call it base s_gnomonlaw25_UpdateTells_r20t1 [117, 120, 121, 122, 123, 124, 125, 126, 127, 128, 129, 130, 131, 132] H (evTale (symAll s_gnomonlaw25_UpdateTells_r20p0 [117, 120, 121, 122, 123] [124]) [117, 120, 121, 122, 123] f H) (origRow call it base s_gnomonlaw25_UpdateTells_r20 [117, 120, 121, 122, 123, 124, 125, 126, 127, 128, 129, 130, 131, 132] f H) := row_seg call it base s_gnomonlaw25_UpdateTells_r20p0 s_gnomonlaw25_UpdateTells_r20t1 (by kernel_rfl) f H
theorem s_gnomonlaw25_UpdateTells_r20t1_x (call : CallF) (it : IterF) (base : Nat) (f : List V) (H : Heap) : evC call it base (.region s_gnomonlaw25_UpdateTells_r20t1 [] [117, 120, 121, 122, 123, 124, 125, 126, 127, 128, 129, 130, 131, 132]) f H = thenC call it base (.region s_gnomonlaw25_UpdateTells_r20t2 [] [117, 120, 121, 122, 123, 124, 125, 126, 127, 128, 129, 130, 131, 132]) (opsC [] s_gnomonlaw25_UpdateTells_r20p1 [124] (evOps call base [⟨some 125, (.callR (.c (.fn 12 [] [])) [(.t 124)]), none⟩] f H)) := (row_op call it base s_gnomonlaw25_UpdateTells_r20p1 s_gnomonlaw25_UpdateTells_r20t2 (kc := [124]) (by kernel_rfl) f H).trans (by rw [row_ops]; rfl)
theorem s_gnomonlaw25_UpdateTells_r20p2_tale (fr : List V) (H : Heap) : evTale (symAll s_gnomonlaw25_UpdateTells_r20p2 [126, 127, 128, 129] [130]) [126, 127, 128, 129] fr H = evTale (some (131, [], [(130, (.op (.load false 1 (.t 0)) [(.op (.fieldAddr 1 (.t 0)) [(.op (.indexAddr 2 (.t 0) (.t 1)) [(.t 5), (.t 21)])])]))])) [126, 127, 128, 129] fr H := tale_row (items := [.tt 5, .tt 21, .sub 0 [0, 0] [], .sub 0 [0] [], .sub 0 [] []]) (by kernel_rfl) fr H
theorem s_gnomonlaw25_UpdateTells_r20t2_x (call : CallF) (it : IterF) (base : Nat) (f : List V) (H : Heap) : evC call it base (.region s_gnomonlaw25_UpdateTells_r20t2 [] [117, 120, 121, 122, 123, 124, 125, 126, 127, 128, 129, 130, 131, 132]) f H = segC call it base s_gnomonlaw25_UpdateTells_r20t3 [117, 120, 121, 122, 123, 124, 125, 126, 127, 128, 129, 130, 131, 132] H (evTale (symAll s_gnomonlaw25_UpdateTells_r20p2 [126, 127, 128, 129] [130]) [126, 127, 128, 129] f H) (origRow call it base s_gnomonlaw25_UpdateTells_r20t2 [117, 120, 121, 122, 123, 124, 125, 126, 127, 128, 129, 130, 131, 132] f H) := row_seg call it base s_gnomonlaw25_UpdateTells_r20p2 s_gnomonlaw25_UpdateTells_r20t3 (by kernel_rfl) f H
theorem s_gnomonlaw25_UpdateTells_r20t3_x (call : CallF) (it : IterF) (base : Nat) (f : List V) (H : Heap) : evC call it base (.region s_gnomonlaw25_UpdateTells_r20t3 [] [117, 120, 121, 122, 123, 124, 125, 126, 127, 128, 129, 130, 131, 132]) f H = thenC call it base (.region s_gnomonlaw25_UpdateTells_r20t4 [] [117, 120, 121, 122, 123, 124, 125, 126, 127, 128, 129, 130, 131, 132]) (opsC [] s_gnomonlaw25_UpdateTells_r20p3 [130] (evOps call base [⟨some 131, (.call (.c (.fn 8 [] [])) [(.t 130)]), none⟩] f H)) := (row_op call it base s_gnomonlaw25_UpdateTells_r20p3 s_gnomonlaw25_UpdateTells_r20t4 (kc := [130]) (by kernel_rfl) f H).trans (by rw [row_ops]; rfl)
theorem s_gnomonlaw25_UpdateTells_r20t4_x (call : CallF) (it : IterF) (base : Nat) (f : List V) (H : Heap) : evC call it base (.region s_gnomonlaw25_UpdateTells_r20t4 [] [117, 120, 121, 122, 123, 124, 125, 126, 127, 128, 129, 130, 131, 132]) f H = thenC call it base (.region s_gnomonlaw25_UpdateTells_r20t5 [] [117, 120, 121, 122, 123, 124, 125, 126, 127, 128, 129, 130, 131, 132]) (opsC [] s_gnomonlaw25_UpdateTells_r20p4 [125, 131] (evOps call base [⟨some 132, (.call (.c (.fn 11 [] [])) [(.t 125), (.t 131)]), none⟩] f H)) := (row_op call it base s_gnomonlaw25_UpdateTells_r20p4 s_gnomonlaw25_UpdateTells_r20t5 (kc := [125, 131]) (by kernel_rfl) f H).trans (by rw [row_ops]; rfl)
theorem s_gnomonlaw25_UpdateTells_r20t5_tale (fr : List V) (H : Heap) : evTale (symAll s_gnomonlaw25_UpdateTells_r20t5 [117, 120, 121, 122, 123, 124, 125, 126, 127, 128, 129, 130, 131, 132] [133]) [117, 120, 121, 122, 123, 124, 125, 126, 127, 128, 129, 130, 131, 132] fr H = evTale (some (134, [], [(133, (.op (.un .not (.t 0)) [(.t 132)]))])) [117, 120, 121, 122, 123, 124, 125, 126, 127, 128, 129, 130, 131, 132] fr H := tale_row (items := [.sub 0 [] []]) (by kernel_rfl) fr H
theorem s_gnomonlaw25_UpdateTells_r20t5_x (call : CallF) (it : IterF) (base : Nat) (f : List V) (H : Heap) : evC call it base (.region s_gnomonlaw25_UpdateTells_r20t5 [] [117, 120, 121, 122, 123, 124, 125, 126, 127, 128, 129, 130, 131, 132]) f H = segL H (evTale (symAll s_gnomonlaw25_UpdateTells_r20t5 [117, 120, 121, 122, 123, 124, 125, 126, 127, 128, 129, 130, 131, 132] [133]) [117, 120, 121, 122, 123, 124, 125, 126, 127, 128, 129, 130, 131, 132] f H) (origRow call it base s_gnomonlaw25_UpdateTells_r20t5 [117, 120, 121, 122, 123, 124, 125, 126, 127, 128, 129, 130, 131, 132] f H) := row_last call it base _ f H
def s_gnomonlaw25_UpdateTells_r21 : List AOper := [
  ⟨some 12, (.move (.c (.s (.bool false)))), none⟩]
theorem s_gnomonlaw25_UpdateTells_r21_tale (fr : List V) (H : Heap) : evTale (symAll s_gnomonlaw25_UpdateTells_r21 [0, 1, 2, 5, 13, 14, 15, 19, 21, 133] [12]) [0, 1, 2, 5, 13, 14, 15, 19, 21, 133] fr H = evTale (some (13, [], [(12, (.c (.s (.bool false))))])) [0, 1, 2, 5, 13, 14, 15, 19, 21, 133] fr H := tale_row (items := [.cc (.s (.bool false))]) (by kernel_rfl) fr H
def s_gnomonlaw25_UpdateTells_r22 : List AOper := [
  ⟨some 118, (.move (.t 21)), none⟩,
  ⟨some 119, (.bin .add (.t 118) (.c (.s (.int .i64 1)))), none⟩,
  ⟨some 21, (.move (.t 119)), none⟩]
theorem s_gnomonlaw25_UpdateTells_r22_tale (fr : List V) (H : Heap) : evTale (symAll s_gnomonlaw25_UpdateTells_r22 [118, 119, 133] [21]) [118, 119, 133] fr H = evTale (some (120, [], [(21, (.op (.bin .add (.t 0) (.c (.s (.int .i64 1)))) [(.t 21), (.c (.s (.int .i64 1)))]))])) [118, 119, 133] fr H := tale_row (items := [.tt 21, .sub 0 [] [], .sub 0 [] []]) (by kernel_rfl) fr H
def s_gnomonlaw25_UpdateTells_l1_b : ACode :=
  (.seq (.seq (.regionE s_gnomonlaw25_UpdateTells_r19 [114, 115, 116] [117])
  (.cond (.t 117)
  .skip
  (.exit 2)))
  (.seq (.block 3
  (.seq (.region s_gnomonlaw25_UpdateTells_r20 [] [117, 120, 121, 122, 123, 124, 125, 126, 127, 128, 129, 130, 131, 132])
  (.cond (.t 133)
  (.seq (.regionE s_gnomonlaw25_UpdateTells_r21 [0, 1, 2, 5, 13, 14, 15, 19, 21, 133] [12])
  .ret)
  .skip)))
  (.regionE s_gnomonlaw25_UpdateTells_r22 [118, 119, 133] [21])))
def s_gnomonlaw25_UpdateTells_l1 : ACode := s_gnomonlaw25_UpdateTells_l1_b
theorem s_gnomonlaw25_UpdateTells_l1_ev (call : CallF) (it : IterF) (base : Nat) (fr : List V) (H : Heap) : evC call it base s_gnomonlaw25_UpdateTells_l1 fr H = evC call it base s_gnomonlaw25_UpdateTells_l1_b fr H := rfl
def s_gnomonlaw25_UpdateTells_r23t19 : List AOper := [⟨some 155, (.pick (.t 153) (.t 154) (.c (.s (.bool false)))), none⟩, ⟨some 12, (.move (.t 155)), none⟩]
def s_gnomonlaw25_UpdateTells_r23p18 : List AOper := [⟨some 154, (.call (.c (.fn 5 [] [])) []), some (153, true)⟩]
def s_gnomonlaw25_UpdateTells_r23t18 : List AOper := s_gnomonlaw25_UpdateTells_r23p18 ++ s_gnomonlaw25_UpdateTells_r23t19
def s_gnomonlaw25_UpdateTells_r23p17 : List AOper := [⟨some 152, (.pick (.t 146) (.t 151) (.c (.s (.bool false)))), none⟩, ⟨some 153, (.move (.t 152)), none⟩]
def s_gnomonlaw25_UpdateTells_r23t17 : List AOper := s_gnomonlaw25_UpdateTells_r23p17 ++ s_gnomonlaw25_UpdateTells_r23t18
def s_gnomonlaw25_UpdateTells_r23p16 : List AOper := [⟨some 151, (.call (.c (.fn 11 [] [])) [(.t 148), (.t 150)]), some (146, true)⟩]
def s_gnomonlaw25_UpdateTells_r23t16 : List AOper := s_gnomonlaw25_UpdateTells_r23p16 ++ s_gnomonlaw25_UpdateTells_r23t17
def s_gnomonlaw25_UpdateTells_r23p15 : List AOper := [⟨some 150, (.call (.c (.fn 8 [] [])) [(.t 149)]), some (146, true)⟩]
def s_gnomonlaw25_UpdateTells_r23t15 : List AOper := s_gnomonlaw25_UpdateTells_r23p15 ++ s_gnomonlaw25_UpdateTells_r23t16
def s_gnomonlaw25_UpdateTells_r23p14 : List AOper := [⟨some 149, (.move (.t 2)), some (146, true)⟩]
def s_gnomonlaw25_UpdateTells_r23t14 : List AOper := s_gnomonlaw25_UpdateTells_r23p14 ++ s_gnomonlaw25_UpdateTells_r23t15
def s_gnomonlaw25_UpdateTells_r23p13 : List AOper := [⟨some 148, (.call (.c (.fn 12 [] [])) [(.t 147)]), some (146, true)⟩]
def s_gnomonlaw25_UpdateTells_r23t13 : List AOper := s_gnomonlaw25_UpdateTells_r23p13 ++ s_gnomonlaw25_UpdateTells_r23t14
def s_gnomonlaw25_UpdateTells_r23p12 : List AOper := [⟨some 147, (.move (.t 15)), some (146, true)⟩]
def s_gnomonlaw25_UpdateTells_r23t12 : List AOper := s_gnomonlaw25_UpdateTells_r23p12 ++ s_gnomonlaw25_UpdateTells_r23t13
def s_gnomonlaw25_UpdateTells_r23p11 : List AOper := [⟨some 145, (.pick (.t 139) (.t 144) (.c (.s (.bool false)))), none⟩, ⟨some 146, (.move (.t 145)), none⟩]
def s_gnomonlaw25_UpdateTells_r23t11 : List AOper := s_gnomonlaw25_UpdateTells_r23p11 ++ s_gnomonlaw25_UpdateTells_r23t12
def s_gnomonlaw25_UpdateTells_r23p10 : List AOper := [⟨some 144, (.call (.c (.fn 11 [] [])) [(.t 141), (.t 143)]), some (139, true)⟩]
def s_gnomonlaw25_UpdateTells_r23t10 : List AOper := s_gnomonlaw25_UpdateTells_r23p10 ++ s_gnomonlaw25_UpdateTells_r23t11
def s_gnomonlaw25_UpdateTells_r23p9 : List AOper := [⟨some 143, (.call (.c (.fn 8 [] [])) [(.t 142)]), some (139, true)⟩]
def s_gnomonlaw25_UpdateTells_r23t9 : List AOper := s_gnomonlaw25_UpdateTells_r23p9 ++ s_gnomonlaw25_UpdateTells_r23t10
def s_gnomonlaw25_UpdateTells_r23p8 : List AOper := [⟨some 142, (.move (.t 1)), some (139, true)⟩]
def s_gnomonlaw25_UpdateTells_r23t8 : List AOper := s_gnomonlaw25_UpdateTells_r23p8 ++ s_gnomonlaw25_UpdateTells_r23t9
def s_gnomonlaw25_UpdateTells_r23p7 : List AOper := [⟨some 141, (.call (.c (.fn 12 [] [])) [(.t 140)]), some (139, true)⟩]
def s_gnomonlaw25_UpdateTells_r23t7 : List AOper := s_gnomonlaw25_UpdateTells_r23p7 ++ s_gnomonlaw25_UpdateTells_r23t8
def s_gnomonlaw25_UpdateTells_r23p6 : List AOper := [⟨some 140, (.move (.t 14)), some (139, true)⟩]
def s_gnomonlaw25_UpdateTells_r23t6 : List AOper := s_gnomonlaw25_UpdateTells_r23p6 ++ s_gnomonlaw25_UpdateTells_r23t7
def s_gnomonlaw25_UpdateTells_r23p5 : List AOper := [⟨some 139, (.move (.t 138)), none⟩]
def s_gnomonlaw25_UpdateTells_r23t5 : List AOper := s_gnomonlaw25_UpdateTells_r23p5 ++ s_gnomonlaw25_UpdateTells_r23t6
def s_gnomonlaw25_UpdateTells_r23p4 : List AOper := [⟨some 138, (.call (.c (.fn 11 [] [])) [(.t 135), (.t 137)]), none⟩]
def s_gnomonlaw25_UpdateTells_r23t4 : List AOper := s_gnomonlaw25_UpdateTells_r23p4 ++ s_gnomonlaw25_UpdateTells_r23t5
def s_gnomonlaw25_UpdateTells_r23p3 : List AOper := [⟨some 137, (.call (.c (.fn 8 [] [])) [(.t 136)]), none⟩]
def s_gnomonlaw25_UpdateTells_r23t3 : List AOper := s_gnomonlaw25_UpdateTells_r23p3 ++ s_gnomonlaw25_UpdateTells_r23t4
def s_gnomonlaw25_UpdateTells_r23p2 : List AOper := [⟨some 136, (.move (.t 0)), none⟩]
def s_gnomonlaw25_UpdateTells_r23t2 : List AOper := s_gnomonlaw25_UpdateTells_r23p2 ++ s_gnomonlaw25_UpdateTells_r23t3
def s_gnomonlaw25_UpdateTells_r23p1 : List AOper := [⟨some 135, (.call (.c (.fn 12 [] [])) [(.t 134)]), none⟩]
def s_gnomonlaw25_UpdateTells_r23t1 : List AOper := s_gnomonlaw25_UpdateTells_r23p1 ++ s_gnomonlaw25_UpdateTells_r23t2
def s_gnomonlaw25_UpdateTells_r23p0 : List AOper := [⟨some 134, (.move (.t 13)), none⟩]
def s_gnomonlaw25_UpdateTells_r23 : List AOper := s_gnomonlaw25_UpdateTells_r23p0 ++ s_gnomonlaw25_UpdateTells_r23t1
theorem s_gnomonlaw25_UpdateTells_r23p0_tale (fr : List V) (H : Heap) : evTale (symAll s_gnomonlaw25_UpdateTells_r23p0 [5, 13, 19, 21, 117] [134]) [5, 13, 19, 21, 117] fr H = evTale (some (135, [], [(134, (.t 13))])) [5, 13, 19, 21, 117] fr H := tale_row (items := [.tt 13]) (by kernel_rfl) fr H
theorem s_gnomonlaw25_UpdateTells_r23_x (call : CallF) (it : IterF) (base : Nat) (f : List V) (H : Heap) : evC call it base (.region s_gnomonlaw25_UpdateTells_r23 [] [0, 1, 2, 5, 13, 14, 15, 19, 21, 117, 134, 135, 136, 137, 138, 139, 140, 141, 142, 143, 144, 145, 146, 147, 148, 149, 150, 151, 152, 153, 154, 155]) f H = segC call it base s_gnomonlaw25_UpdateTells_r23t1 [0, 1, 2, 5, 13, 14, 15, 19, 21, 117, 134, 135, 136, 137, 138, 139, 140, 141, 142, 143, 144, 145, 146, 147, 148, 149, 150, 151, 152, 153, 154, 155] H (evTale (symAll s_gnomonlaw25_UpdateTells_r23p0 [5, 13, 19, 21, 117] [134]) [5, 13, 19, 21, 117] f H) (origRow call it base s_gnomonlaw25_UpdateTells_r23 [0, 1, 2, 5, 13, 14, 15, 19, 21, 117, 134, 135, 136, 137, 138, 139, 140, 141, 142, 143, 144, 145, 146, 147, 148, 149, 150, 151, 152, 153, 154, 155] f H) := row_seg call it base s_gnomonlaw25_UpdateTells_r23p0 s_gnomonlaw25_UpdateTells_r23t1 (by kernel_rfl) f H
theorem s_gnomonlaw25_UpdateTells_r23t1_x (call : CallF) (it : IterF) (base : Nat) (f : List V) (H : Heap) : evC call it base (.region s_gnomonlaw25_UpdateTells_r23t1 [] [0, 1, 2, 5, 13, 14, 15, 19, 21, 117, 134, 135, 136, 137, 138, 139, 140, 141, 142, 143, 144, 145, 146, 147, 148, 149, 150, 151, 152, 153, 154, 155]) f H = thenC call it base (.region s_gnomonlaw25_UpdateTells_r23t2 [] [0, 1, 2, 5, 13, 14, 15, 19, 21, 117, 134, 135, 136, 137, 138, 139, 140, 141, 142, 143, 144, 145, 146, 147, 148, 149, 150, 151, 152, 153, 154, 155]) (opsC [] s_gnomonlaw25_UpdateTells_r23p1 [134] (evOps call base [⟨some 135, (.call (.c (.fn 12 [] [])) [(.t 134)]), none⟩] f H)) := (row_op call it base s_gnomonlaw25_UpdateTells_r23p1 s_gnomonlaw25_UpdateTells_r23t2 (kc := [134]) (by kernel_rfl) f H).trans (by rw [row_ops]; rfl)
theorem s_gnomonlaw25_UpdateTells_r23p2_tale (fr : List V) (H : Heap) : evTale (symAll s_gnomonlaw25_UpdateTells_r23p2 [0] [136]) [0] fr H = evTale (some (137, [], [(136, (.t 0))])) [0] fr H := tale_row (items := [.tt 0]) (by kernel_rfl) fr H
theorem s_gnomonlaw25_UpdateTells_r23t2_x (call : CallF) (it : IterF) (base : Nat) (f : List V) (H : Heap) : evC call it base (.region s_gnomonlaw25_UpdateTells_r23t2 [] [0, 1, 2, 5, 13, 14, 15, 19, 21, 117, 134, 135, 136, 137, 138, 139, 140, 141, 142, 143, 144, 145, 146, 147, 148, 149, 150, 151, 152, 153, 154, 155]) f H = segC call it base s_gnomonlaw25_UpdateTells_r23t3 [0, 1, 2, 5, 13, 14, 15, 19, 21, 117, 134, 135, 136, 137, 138, 139, 140, 141, 142, 143, 144, 145, 146, 147, 148, 149, 150, 151, 152, 153, 154, 155] H (evTale (symAll s_gnomonlaw25_UpdateTells_r23p2 [0] [136]) [0] f H) (origRow call it base s_gnomonlaw25_UpdateTells_r23t2 [0, 1, 2, 5, 13, 14, 15, 19, 21, 117, 134, 135, 136, 137, 138, 139, 140, 141, 142, 143, 144, 145, 146, 147, 148, 149, 150, 151, 152, 153, 154, 155] f H) := row_seg call it base s_gnomonlaw25_UpdateTells_r23p2 s_gnomonlaw25_UpdateTells_r23t3 (by kernel_rfl) f H
theorem s_gnomonlaw25_UpdateTells_r23t3_x (call : CallF) (it : IterF) (base : Nat) (f : List V) (H : Heap) : evC call it base (.region s_gnomonlaw25_UpdateTells_r23t3 [] [0, 1, 2, 5, 13, 14, 15, 19, 21, 117, 134, 135, 136, 137, 138, 139, 140, 141, 142, 143, 144, 145, 146, 147, 148, 149, 150, 151, 152, 153, 154, 155]) f H = thenC call it base (.region s_gnomonlaw25_UpdateTells_r23t4 [] [0, 1, 2, 5, 13, 14, 15, 19, 21, 117, 134, 135, 136, 137, 138, 139, 140, 141, 142, 143, 144, 145, 146, 147, 148, 149, 150, 151, 152, 153, 154, 155]) (opsC [] s_gnomonlaw25_UpdateTells_r23p3 [136] (evOps call base [⟨some 137, (.call (.c (.fn 8 [] [])) [(.t 136)]), none⟩] f H)) := (row_op call it base s_gnomonlaw25_UpdateTells_r23p3 s_gnomonlaw25_UpdateTells_r23t4 (kc := [136]) (by kernel_rfl) f H).trans (by rw [row_ops]; rfl)
theorem s_gnomonlaw25_UpdateTells_r23t4_x (call : CallF) (it : IterF) (base : Nat) (f : List V) (H : Heap) : evC call it base (.region s_gnomonlaw25_UpdateTells_r23t4 [] [0, 1, 2, 5, 13, 14, 15, 19, 21, 117, 134, 135, 136, 137, 138, 139, 140, 141, 142, 143, 144, 145, 146, 147, 148, 149, 150, 151, 152, 153, 154, 155]) f H = thenC call it base (.region s_gnomonlaw25_UpdateTells_r23t5 [] [0, 1, 2, 5, 13, 14, 15, 19, 21, 117, 134, 135, 136, 137, 138, 139, 140, 141, 142, 143, 144, 145, 146, 147, 148, 149, 150, 151, 152, 153, 154, 155]) (opsC [] s_gnomonlaw25_UpdateTells_r23p4 [135, 137] (evOps call base [⟨some 138, (.call (.c (.fn 11 [] [])) [(.t 135), (.t 137)]), none⟩] f H)) := (row_op call it base s_gnomonlaw25_UpdateTells_r23p4 s_gnomonlaw25_UpdateTells_r23t5 (kc := [135, 137]) (by kernel_rfl) f H).trans (by rw [row_ops]; rfl)
theorem s_gnomonlaw25_UpdateTells_r23p5_tale (fr : List V) (H : Heap) : evTale (symAll s_gnomonlaw25_UpdateTells_r23p5 [138] [139]) [138] fr H = evTale (some (140, [], [(139, (.t 138))])) [138] fr H := tale_row (items := [.tt 138]) (by kernel_rfl) fr H
theorem s_gnomonlaw25_UpdateTells_r23t5_x (call : CallF) (it : IterF) (base : Nat) (f : List V) (H : Heap) : evC call it base (.region s_gnomonlaw25_UpdateTells_r23t5 [] [0, 1, 2, 5, 13, 14, 15, 19, 21, 117, 134, 135, 136, 137, 138, 139, 140, 141, 142, 143, 144, 145, 146, 147, 148, 149, 150, 151, 152, 153, 154, 155]) f H = segC call it base s_gnomonlaw25_UpdateTells_r23t6 [0, 1, 2, 5, 13, 14, 15, 19, 21, 117, 134, 135, 136, 137, 138, 139, 140, 141, 142, 143, 144, 145, 146, 147, 148, 149, 150, 151, 152, 153, 154, 155] H (evTale (symAll s_gnomonlaw25_UpdateTells_r23p5 [138] [139]) [138] f H) (origRow call it base s_gnomonlaw25_UpdateTells_r23t5 [0, 1, 2, 5, 13, 14, 15, 19, 21, 117, 134, 135, 136, 137, 138, 139, 140, 141, 142, 143, 144, 145, 146, 147, 148, 149, 150, 151, 152, 153, 154, 155] f H) := row_seg call it base s_gnomonlaw25_UpdateTells_r23p5 s_gnomonlaw25_UpdateTells_r23t6 (by kernel_rfl) f H
theorem s_gnomonlaw25_UpdateTells_r23t6_x (call : CallF) (it : IterF) (base : Nat) (f : List V) (H : Heap) : evC call it base (.region s_gnomonlaw25_UpdateTells_r23t6 [] [0, 1, 2, 5, 13, 14, 15, 19, 21, 117, 134, 135, 136, 137, 138, 139, 140, 141, 142, 143, 144, 145, 146, 147, 148, 149, 150, 151, 152, 153, 154, 155]) f H = thenC call it base (.region s_gnomonlaw25_UpdateTells_r23t7 [] [0, 1, 2, 5, 13, 14, 15, 19, 21, 117, 134, 135, 136, 137, 138, 139, 140, 141, 142, 143, 144, 145, 146, 147, 148, 149, 150, 151, 152, 153, 154, 155]) (opsC [] s_gnomonlaw25_UpdateTells_r23p6 [14] (evOps call base [⟨some 140, (.move (.t 14)), some (139, true)⟩] f H)) := (row_op call it base s_gnomonlaw25_UpdateTells_r23p6 s_gnomonlaw25_UpdateTells_r23t7 (kc := [14]) (by kernel_rfl) f H).trans (by rw [row_ops]; rfl)
theorem s_gnomonlaw25_UpdateTells_r23t7_x (call : CallF) (it : IterF) (base : Nat) (f : List V) (H : Heap) : evC call it base (.region s_gnomonlaw25_UpdateTells_r23t7 [] [0, 1, 2, 5, 13, 14, 15, 19, 21, 117, 134, 135, 136, 137, 138, 139, 140, 141, 142, 143, 144, 145, 146, 147, 148, 149, 150, 151, 152, 153, 154, 155]) f H = thenC call it base (.region s_gnomonlaw25_UpdateTells_r23t8 [] [0, 1, 2, 5, 13, 14, 15, 19, 21, 117, 134, 135, 136, 137, 138, 139, 140, 141, 142, 143, 144, 145, 146, 147, 148, 149, 150, 151, 152, 153, 154, 155]) (opsC [] s_gnomonlaw25_UpdateTells_r23p7 [140] (evOps call base [⟨some 141, (.call (.c (.fn 12 [] [])) [(.t 140)]), some (139, true)⟩] f H)) := (row_op call it base s_gnomonlaw25_UpdateTells_r23p7 s_gnomonlaw25_UpdateTells_r23t8 (kc := [140]) (by kernel_rfl) f H).trans (by rw [row_ops]; rfl)
theorem s_gnomonlaw25_UpdateTells_r23t8_x (call : CallF) (it : IterF) (base : Nat) (f : List V) (H : Heap) : evC call it base (.region s_gnomonlaw25_UpdateTells_r23t8 [] [0, 1, 2, 5, 13, 14, 15, 19, 21, 117, 134, 135, 136, 137, 138, 139, 140, 141, 142, 143, 144, 145, 146, 147, 148, 149, 150, 151, 152, 153, 154, 155]) f H = thenC call it base (.region s_gnomonlaw25_UpdateTells_r23t9 [] [0, 1, 2, 5, 13, 14, 15, 19, 21, 117, 134, 135, 136, 137, 138, 139, 140, 141, 142, 143, 144, 145, 146, 147, 148, 149, 150, 151, 152, 153, 154, 155]) (opsC [] s_gnomonlaw25_UpdateTells_r23p8 [1] (evOps call base [⟨some 142, (.move (.t 1)), some (139, true)⟩] f H)) := (row_op call it base s_gnomonlaw25_UpdateTells_r23p8 s_gnomonlaw25_UpdateTells_r23t9 (kc := [1]) (by kernel_rfl) f H).trans (by rw [row_ops]; rfl)
theorem s_gnomonlaw25_UpdateTells_r23t9_x (call : CallF) (it : IterF) (base : Nat) (f : List V) (H : Heap) : evC call it base (.region s_gnomonlaw25_UpdateTells_r23t9 [] [0, 1, 2, 5, 13, 14, 15, 19, 21, 117, 134, 135, 136, 137, 138, 139, 140, 141, 142, 143, 144, 145, 146, 147, 148, 149, 150, 151, 152, 153, 154, 155]) f H = thenC call it base (.region s_gnomonlaw25_UpdateTells_r23t10 [] [0, 1, 2, 5, 13, 14, 15, 19, 21, 117, 134, 135, 136, 137, 138, 139, 140, 141, 142, 143, 144, 145, 146, 147, 148, 149, 150, 151, 152, 153, 154, 155]) (opsC [] s_gnomonlaw25_UpdateTells_r23p9 [142] (evOps call base [⟨some 143, (.call (.c (.fn 8 [] [])) [(.t 142)]), some (139, true)⟩] f H)) := (row_op call it base s_gnomonlaw25_UpdateTells_r23p9 s_gnomonlaw25_UpdateTells_r23t10 (kc := [142]) (by kernel_rfl) f H).trans (by rw [row_ops]; rfl)
theorem s_gnomonlaw25_UpdateTells_r23t10_x (call : CallF) (it : IterF) (base : Nat) (f : List V) (H : Heap) : evC call it base (.region s_gnomonlaw25_UpdateTells_r23t10 [] [0, 1, 2, 5, 13, 14, 15, 19, 21, 117, 134, 135, 136, 137, 138, 139, 140, 141, 142, 143, 144, 145, 146, 147, 148, 149, 150, 151, 152, 153, 154, 155]) f H = thenC call it base (.region s_gnomonlaw25_UpdateTells_r23t11 [] [0, 1, 2, 5, 13, 14, 15, 19, 21, 117, 134, 135, 136, 137, 138, 139, 140, 141, 142, 143, 144, 145, 146, 147, 148, 149, 150, 151, 152, 153, 154, 155]) (opsC [] s_gnomonlaw25_UpdateTells_r23p10 [141, 143] (evOps call base [⟨some 144, (.call (.c (.fn 11 [] [])) [(.t 141), (.t 143)]), some (139, true)⟩] f H)) := (row_op call it base s_gnomonlaw25_UpdateTells_r23p10 s_gnomonlaw25_UpdateTells_r23t11 (kc := [141, 143]) (by kernel_rfl) f H).trans (by rw [row_ops]; rfl)
theorem s_gnomonlaw25_UpdateTells_r23p11_tale (fr : List V) (H : Heap) : evTale (symAll s_gnomonlaw25_UpdateTells_r23p11 [139, 144, 145] [146]) [139, 144, 145] fr H = evTale (some (147, [], [(146, (.pick (.t 139) (.t 144) (.c (.s (.bool false)))))])) [139, 144, 145] fr H := tale_row (items := [.sub 0 [] [], .sub 0 [] []]) (by kernel_rfl) fr H
theorem s_gnomonlaw25_UpdateTells_r23t11_x (call : CallF) (it : IterF) (base : Nat) (f : List V) (H : Heap) : evC call it base (.region s_gnomonlaw25_UpdateTells_r23t11 [] [0, 1, 2, 5, 13, 14, 15, 19, 21, 117, 134, 135, 136, 137, 138, 139, 140, 141, 142, 143, 144, 145, 146, 147, 148, 149, 150, 151, 152, 153, 154, 155]) f H = segC call it base s_gnomonlaw25_UpdateTells_r23t12 [0, 1, 2, 5, 13, 14, 15, 19, 21, 117, 134, 135, 136, 137, 138, 139, 140, 141, 142, 143, 144, 145, 146, 147, 148, 149, 150, 151, 152, 153, 154, 155] H (evTale (symAll s_gnomonlaw25_UpdateTells_r23p11 [139, 144, 145] [146]) [139, 144, 145] f H) (origRow call it base s_gnomonlaw25_UpdateTells_r23t11 [0, 1, 2, 5, 13, 14, 15, 19, 21, 117, 134, 135, 136, 137, 138, 139, 140, 141, 142, 143, 144, 145, 146, 147, 148, 149, 150, 151, 152, 153, 154, 155] f H) := row_seg call it base s_gnomonlaw25_UpdateTells_r23p11 s_gnomonlaw25_UpdateTells_r23t12 (by kernel_rfl) f H
theorem s_gnomonlaw25_UpdateTells_r23t12_x (call : CallF) (it : IterF) (base : Nat) (f : List V) (H : Heap) : evC call it base (.region s_gnomonlaw25_UpdateTells_r23t12 [] [0, 1, 2, 5, 13, 14, 15, 19, 21, 117, 134, 135, 136, 137, 138, 139, 140, 141, 142, 143, 144, 145, 146, 147, 148, 149, 150, 151, 152, 153, 154, 155]) f H = thenC call it base (.region s_gnomonlaw25_UpdateTells_r23t13 [] [0, 1, 2, 5, 13, 14, 15, 19, 21, 117, 134, 135, 136, 137, 138, 139, 140, 141, 142, 143, 144, 145, 146, 147, 148, 149, 150, 151, 152, 153, 154, 155]) (opsC [] s_gnomonlaw25_UpdateTells_r23p12 [15] (evOps call base [⟨some 147, (.move (.t 15)), some (146, true)⟩] f H)) := (row_op call it base s_gnomonlaw25_UpdateTells_r23p12 s_gnomonlaw25_UpdateTells_r23t13 (kc := [15]) (by kernel_rfl) f H).trans (by rw [row_ops]; rfl)
theorem s_gnomonlaw25_UpdateTells_r23t13_x (call : CallF) (it : IterF) (base : Nat) (f : List V) (H : Heap) : evC call it base (.region s_gnomonlaw25_UpdateTells_r23t13 [] [0, 1, 2, 5, 13, 14, 15, 19, 21, 117, 134, 135, 136, 137, 138, 139, 140, 141, 142, 143, 144, 145, 146, 147, 148, 149, 150, 151, 152, 153, 154, 155]) f H = thenC call it base (.region s_gnomonlaw25_UpdateTells_r23t14 [] [0, 1, 2, 5, 13, 14, 15, 19, 21, 117, 134, 135, 136, 137, 138, 139, 140, 141, 142, 143, 144, 145, 146, 147, 148, 149, 150, 151, 152, 153, 154, 155]) (opsC [] s_gnomonlaw25_UpdateTells_r23p13 [147] (evOps call base [⟨some 148, (.call (.c (.fn 12 [] [])) [(.t 147)]), some (146, true)⟩] f H)) := (row_op call it base s_gnomonlaw25_UpdateTells_r23p13 s_gnomonlaw25_UpdateTells_r23t14 (kc := [147]) (by kernel_rfl) f H).trans (by rw [row_ops]; rfl)
theorem s_gnomonlaw25_UpdateTells_r23t14_x (call : CallF) (it : IterF) (base : Nat) (f : List V) (H : Heap) : evC call it base (.region s_gnomonlaw25_UpdateTells_r23t14 [] [0, 1, 2, 5, 13, 14, 15, 19, 21, 117, 134, 135, 136, 137, 138, 139, 140, 141, 142, 143, 144, 145, 146, 147, 148, 149, 150, 151, 152, 153, 154, 155]) f H = thenC call it base (.region s_gnomonlaw25_UpdateTells_r23t15 [] [0, 1, 2, 5, 13, 14, 15, 19, 21, 117, 134, 135, 136, 137, 138, 139, 140, 141, 142, 143, 144, 145, 146, 147, 148, 149, 150, 151, 152, 153, 154, 155]) (opsC [] s_gnomonlaw25_UpdateTells_r23p14 [2] (evOps call base [⟨some 149, (.move (.t 2)), some (146, true)⟩] f H)) := (row_op call it base s_gnomonlaw25_UpdateTells_r23p14 s_gnomonlaw25_UpdateTells_r23t15 (kc := [2]) (by kernel_rfl) f H).trans (by rw [row_ops]; rfl)
theorem s_gnomonlaw25_UpdateTells_r23t15_x (call : CallF) (it : IterF) (base : Nat) (f : List V) (H : Heap) : evC call it base (.region s_gnomonlaw25_UpdateTells_r23t15 [] [0, 1, 2, 5, 13, 14, 15, 19, 21, 117, 134, 135, 136, 137, 138, 139, 140, 141, 142, 143, 144, 145, 146, 147, 148, 149, 150, 151, 152, 153, 154, 155]) f H = thenC call it base (.region s_gnomonlaw25_UpdateTells_r23t16 [] [0, 1, 2, 5, 13, 14, 15, 19, 21, 117, 134, 135, 136, 137, 138, 139, 140, 141, 142, 143, 144, 145, 146, 147, 148, 149, 150, 151, 152, 153, 154, 155]) (opsC [] s_gnomonlaw25_UpdateTells_r23p15 [149] (evOps call base [⟨some 150, (.call (.c (.fn 8 [] [])) [(.t 149)]), some (146, true)⟩] f H)) := (row_op call it base s_gnomonlaw25_UpdateTells_r23p15 s_gnomonlaw25_UpdateTells_r23t16 (kc := [149]) (by kernel_rfl) f H).trans (by rw [row_ops]; rfl)
theorem s_gnomonlaw25_UpdateTells_r23t16_x (call : CallF) (it : IterF) (base : Nat) (f : List V) (H : Heap) : evC call it base (.region s_gnomonlaw25_UpdateTells_r23t16 [] [0, 1, 2, 5, 13, 14, 15, 19, 21, 117, 134, 135, 136, 137, 138, 139, 140, 141, 142, 143, 144, 145, 146, 147, 148, 149, 150, 151, 152, 153, 154, 155]) f H = thenC call it base (.region s_gnomonlaw25_UpdateTells_r23t17 [] [0, 1, 2, 5, 13, 14, 15, 19, 21, 117, 134, 135, 136, 137, 138, 139, 140, 141, 142, 143, 144, 145, 146, 147, 148, 149, 150, 151, 152, 153, 154, 155]) (opsC [] s_gnomonlaw25_UpdateTells_r23p16 [148, 150] (evOps call base [⟨some 151, (.call (.c (.fn 11 [] [])) [(.t 148), (.t 150)]), some (146, true)⟩] f H)) := (row_op call it base s_gnomonlaw25_UpdateTells_r23p16 s_gnomonlaw25_UpdateTells_r23t17 (kc := [148, 150]) (by kernel_rfl) f H).trans (by rw [row_ops]; rfl)
theorem s_gnomonlaw25_UpdateTells_r23p17_tale (fr : List V) (H : Heap) : evTale (symAll s_gnomonlaw25_UpdateTells_r23p17 [146, 151, 152] [153]) [146, 151, 152] fr H = evTale (some (154, [], [(153, (.pick (.t 146) (.t 151) (.c (.s (.bool false)))))])) [146, 151, 152] fr H := tale_row (items := [.sub 0 [] [], .sub 0 [] []]) (by kernel_rfl) fr H
theorem s_gnomonlaw25_UpdateTells_r23t17_x (call : CallF) (it : IterF) (base : Nat) (f : List V) (H : Heap) : evC call it base (.region s_gnomonlaw25_UpdateTells_r23t17 [] [0, 1, 2, 5, 13, 14, 15, 19, 21, 117, 134, 135, 136, 137, 138, 139, 140, 141, 142, 143, 144, 145, 146, 147, 148, 149, 150, 151, 152, 153, 154, 155]) f H = segC call it base s_gnomonlaw25_UpdateTells_r23t18 [0, 1, 2, 5, 13, 14, 15, 19, 21, 117, 134, 135, 136, 137, 138, 139, 140, 141, 142, 143, 144, 145, 146, 147, 148, 149, 150, 151, 152, 153, 154, 155] H (evTale (symAll s_gnomonlaw25_UpdateTells_r23p17 [146, 151, 152] [153]) [146, 151, 152] f H) (origRow call it base s_gnomonlaw25_UpdateTells_r23t17 [0, 1, 2, 5, 13, 14, 15, 19, 21, 117, 134, 135, 136, 137, 138, 139, 140, 141, 142, 143, 144, 145, 146, 147, 148, 149, 150, 151, 152, 153, 154, 155] f H) := row_seg call it base s_gnomonlaw25_UpdateTells_r23p17 s_gnomonlaw25_UpdateTells_r23t18 (by kernel_rfl) f H
theorem s_gnomonlaw25_UpdateTells_r23t18_x (call : CallF) (it : IterF) (base : Nat) (f : List V) (H : Heap) : evC call it base (.region s_gnomonlaw25_UpdateTells_r23t18 [] [0, 1, 2, 5, 13, 14, 15, 19, 21, 117, 134, 135, 136, 137, 138, 139, 140, 141, 142, 143, 144, 145, 146, 147, 148, 149, 150, 151, 152, 153, 154, 155]) f H = thenC call it base (.region s_gnomonlaw25_UpdateTells_r23t19 [] [0, 1, 2, 5, 13, 14, 15, 19, 21, 117, 134, 135, 136, 137, 138, 139, 140, 141, 142, 143, 144, 145, 146, 147, 148, 149, 150, 151, 152, 153, 154, 155]) (opsC [] s_gnomonlaw25_UpdateTells_r23p18 [] (evOps call base [⟨some 154, (.call (.c (.fn 5 [] [])) []), some (153, true)⟩] f H)) := (row_op call it base s_gnomonlaw25_UpdateTells_r23p18 s_gnomonlaw25_UpdateTells_r23t19 (kc := []) (by kernel_rfl) f H).trans (by rw [row_ops]; rfl)
theorem s_gnomonlaw25_UpdateTells_r23t19_tale (fr : List V) (H : Heap) : evTale (symAll s_gnomonlaw25_UpdateTells_r23t19 [0, 1, 2, 5, 13, 14, 15, 19, 21, 117, 134, 135, 136, 137, 138, 139, 140, 141, 142, 143, 144, 145, 146, 147, 148, 149, 150, 151, 152, 153, 154, 155] [12]) [0, 1, 2, 5, 13, 14, 15, 19, 21, 117, 134, 135, 136, 137, 138, 139, 140, 141, 142, 143, 144, 145, 146, 147, 148, 149, 150, 151, 152, 153, 154, 155] fr H = evTale (some (156, [], [(12, (.pick (.t 153) (.t 154) (.c (.s (.bool false)))))])) [0, 1, 2, 5, 13, 14, 15, 19, 21, 117, 134, 135, 136, 137, 138, 139, 140, 141, 142, 143, 144, 145, 146, 147, 148, 149, 150, 151, 152, 153, 154, 155] fr H := tale_row (items := [.sub 0 [] [], .sub 0 [] []]) (by kernel_rfl) fr H
theorem s_gnomonlaw25_UpdateTells_r23t19_x (call : CallF) (it : IterF) (base : Nat) (f : List V) (H : Heap) : evC call it base (.region s_gnomonlaw25_UpdateTells_r23t19 [] [0, 1, 2, 5, 13, 14, 15, 19, 21, 117, 134, 135, 136, 137, 138, 139, 140, 141, 142, 143, 144, 145, 146, 147, 148, 149, 150, 151, 152, 153, 154, 155]) f H = segL H (evTale (symAll s_gnomonlaw25_UpdateTells_r23t19 [0, 1, 2, 5, 13, 14, 15, 19, 21, 117, 134, 135, 136, 137, 138, 139, 140, 141, 142, 143, 144, 145, 146, 147, 148, 149, 150, 151, 152, 153, 154, 155] [12]) [0, 1, 2, 5, 13, 14, 15, 19, 21, 117, 134, 135, 136, 137, 138, 139, 140, 141, 142, 143, 144, 145, 146, 147, 148, 149, 150, 151, 152, 153, 154, 155] f H) (origRow call it base s_gnomonlaw25_UpdateTells_r23t19 [0, 1, 2, 5, 13, 14, 15, 19, 21, 117, 134, 135, 136, 137, 138, 139, 140, 141, 142, 143, 144, 145, 146, 147, 148, 149, 150, 151, 152, 153, 154, 155] f H) := row_last call it base _ f H
def s_gnomonlaw25_UpdateTells : ACFun := { ntmps := 156, results := [(.tmp 12)], body :=
  (.seq (.regionE s_gnomonlaw25_UpdateTells_r0 s_gnomonlaw25_UpdateTells_r0_k [])
  (.seq (.seq (.region s_gnomonlaw25_UpdateTells_r1 [] [22, 23, 24, 25])
  (.cond (.t 26)
  (.seq (.region s_gnomonlaw25_UpdateTells_r2 [] [0, 1, 2, 3, 4, 5, 26, 27])
  .ret)
  .skip))
  (.seq (.region s_gnomonlaw25_UpdateTells_r3 [] [26, 28, 29, 30, 31, 32, 33])
  (.seq (.region s_gnomonlaw25_UpdateTells_r4 [] [34, 35, 36, 37, 38, 39])
  (.seq (.regionE s_gnomonlaw25_UpdateTells_r5 [] [17])
  (.seq (.seq (.regionE s_gnomonlaw25_UpdateTells_r6 [] [18])
  (.block 0
  (.loop [] s_gnomonlaw25_UpdateTells_l0)))
  (.seq (.region s_gnomonlaw25_UpdateTells_r10 [] [18, 43, 61, 62])
  (.seq (.region s_gnomonlaw25_UpdateTells_r11 [] [63, 64, 65])
  (.seq (.seq (.region s_gnomonlaw25_UpdateTells_r12 [] [3, 4, 17, 66, 67, 68, 69, 70, 71, 72, 73, 74, 75, 76, 77, 78, 79, 80, 81, 82, 83, 84, 85, 86, 87])
  (.cond (.t 88)
  (.seq (.regionE s_gnomonlaw25_UpdateTells_r13 [0, 1, 2, 5, 13, 14, 15, 16, 19, 20, 88] [12])
  .ret)
  .skip))
  (.seq (.seq (.region s_gnomonlaw25_UpdateTells_r14 [] [88, 89, 90, 91, 92, 93, 94, 95, 96, 97, 98, 99, 100, 101, 102, 103, 104, 105, 106, 107, 108])
  (.cond (.t 109)
  (.seq (.regionE s_gnomonlaw25_UpdateTells_r15 [0, 1, 2, 5, 13, 14, 15, 16, 19, 20, 109] [12])
  .ret)
  .skip))
  (.seq (.region s_gnomonlaw25_UpdateTells_r16 [] [16, 109, 110, 111])
  (.seq (.region s_gnomonlaw25_UpdateTells_r17 [] [20, 112, 113])
  (.seq (.seq (.regionE s_gnomonlaw25_UpdateTells_r18 [] [21])
  (.block 2
  (.loop [] s_gnomonlaw25_UpdateTells_l1)))
  (.seq (.region s_gnomonlaw25_UpdateTells_r23 [] [0, 1, 2, 5, 13, 14, 15, 19, 21, 117, 134, 135, 136, 137, 138, 139, 140, 141, 142, 143, 144, 145, 146, 147, 148, 149, 150, 151, 152, 153, 154, 155])
  .ret)))))))))))))) }
def a_gnomonlaw25_UpdateTells := And.intro @s_gnomonlaw25_UpdateTells_r0_tale (And.intro @s_gnomonlaw25_UpdateTells_r0_kT (And.intro @s_gnomonlaw25_UpdateTells_r0_kA0 (And.intro @s_gnomonlaw25_UpdateTells_r0_kA1 (And.intro @s_gnomonlaw25_UpdateTells_r0_kA2 (And.intro @s_gnomonlaw25_UpdateTells_r0_kA3 (And.intro @s_gnomonlaw25_UpdateTells_r0_kA4 (And.intro @s_gnomonlaw25_UpdateTells_r0_kA5 (And.intro @s_gnomonlaw25_UpdateTells_r1p0_tale (And.intro @s_gnomonlaw25_UpdateTells_r1_x (And.intro @s_gnomonlaw25_UpdateTells_r1t1_x (And.intro @s_gnomonlaw25_UpdateTells_r2_x (And.intro @s_gnomonlaw25_UpdateTells_r2t1_tale (And.intro @s_gnomonlaw25_UpdateTells_r2t1_x (And.intro @s_gnomonlaw25_UpdateTells_r3p0_tale (And.intro @s_gnomonlaw25_UpdateTells_r3_x (And.intro @s_gnomonlaw25_UpdateTells_r3t1_x (And.intro @s_gnomonlaw25_UpdateTells_r3p2_tale (And.intro @s_gnomonlaw25_UpdateTells_r3t2_x (And.intro @s_gnomonlaw25_UpdateTells_r3t3_x (And.intro @s_gnomonlaw25_UpdateTells_r3p4_tale (And.intro @s_gnomonlaw25_UpdateTells_r3t4_x (And.intro @s_gnomonlaw25_UpdateTells_r3t5_x (And.intro @s_gnomonlaw25_UpdateTells_r3t6_tale (And.intro @s_gnomonlaw25_UpdateTells_r3t6_x (And.intro @s_gnomonlaw25_UpdateTells_r4p0_tale (And.intro @s_gnomonlaw25_UpdateTells_r4_x (And.intro @s_gnomonlaw25_UpdateTells_r4t1_x (And.intro @s_gnomonlaw25_UpdateTells_r4t2_tale (And.intro @s_gnomonlaw25_UpdateTells_r4t2_x (And.intro @s_gnomonlaw25_UpdateTells_r5_tale (And.intro @s_gnomonlaw25_UpdateTells_r6_tale (And.intro @s_gnomonlaw25_UpdateTells_r7_tale (And.intro @s_gnomonlaw25_UpdateTells_r8p0_tale (And.intro @s_gnomonlaw25_UpdateTells_r8_x (And.intro @s_gnomonlaw25_UpdateTells_r8t1_x (And.intro @s_gnomonlaw25_UpdateTells_r8p2_tale (And.intro @s_gnomonlaw25_UpdateTells_r8t2_x (And.intro @s_gnomonlaw25_UpdateTells_r8t3_x (And.intro @s_gnomonlaw25_UpdateTells_r8t4_x (And.intro @s_gnomonlaw25_UpdateTells_r8t5_tale (And.intro @s_gnomonlaw25_UpdateTells_r8t5_x (And.intro @s_gnomonlaw25_UpdateTells_r9_tale (And.intro @s_gnomonlaw25_UpdateTells_l0_ev (And.intro @s_gnomonlaw25_UpdateTells_r10p0_tale (And.intro @s_gnomonlaw25_UpdateTells_r10_x (And.intro @s_gnomonlaw25_UpdateTells_r10t1_x (And.intro @s_gnomonlaw25_UpdateTells_r10t2_tale (And.intro @s_gnomonlaw25_UpdateTells_r10t2_x (And.intro @s_gnomonlaw25_UpdateTells_r11p0_tale (And.intro @s_gnomonlaw25_UpdateTells_r11_x (And.intro @s_gnomonlaw25_UpdateTells_r11t1_x (And.intro @s_gnomonlaw25_UpdateTells_r11t2_tale (And.intro @s_gnomonlaw25_UpdateTells_r11t2_x (And.intro @s_gnomonlaw25_UpdateTells_r12p0_tale (And.intro @s_gnomonlaw25_UpdateTells_r12_x (And.intro @s_gnomonlaw25_UpdateTells_r12t1_x (And.intro @s_gnomonlaw25_UpdateTells_r12p2_tale (And.intro @s_gnomonlaw25_UpdateTells_r12t2_x (And.intro @s_gnomonlaw25_UpdateTells_r12t3_x (And.intro @s_gnomonlaw25_UpdateTells_r12p4_tale (And.intro @s_gnomonlaw25_UpdateTells_r12t4_x (And.intro @s_gnomonlaw25_UpdateTells_r12t5_x (And.intro @s_gnomonlaw25_UpdateTells_r12p6_tale (And.intro @s_gnomonlaw25_UpdateTells_r12t6_x (And.intro @s_gnomonlaw25_UpdateTells_r12t7_x (And.intro @s_gnomonlaw25_UpdateTells_r12p8_tale (And.intro @s_gnomonlaw25_UpdateTells_r12t8_x (And.intro @s_gnomonlaw25_UpdateTells_r12t9_x (And.intro @s_gnomonlaw25_UpdateTells_r12t10_x (And.intro @s_gnomonlaw25_UpdateTells_r12p11_tale (And.intro @s_gnomonlaw25_UpdateTells_r12t11_x (And.intro @s_gnomonlaw25_UpdateTells_r12t12_x (And.intro @s_gnomonlaw25_UpdateTells_r12t13_x (And.intro @s_gnomonlaw25_UpdateTells_r12t14_x (And.intro @s_gnomonlaw25_UpdateTells_r12t15_x (And.intro @s_gnomonlaw25_UpdateTells_r12t16_x (And.intro @s_gnomonlaw25_UpdateTells_r12t17_x (And.intro @s_gnomonlaw25_UpdateTells_r12t18_x (And.intro @s_gnomonlaw25_UpdateTells_r12t19_tale (And.intro @s_gnomonlaw25_UpdateTells_r12t19_x (And.intro @s_gnomonlaw25_UpdateTells_r13_tale (And.intro @s_gnomonlaw25_UpdateTells_r14p0_tale (And.intro @s_gnomonlaw25_UpdateTells_r14_x (And.intro @s_gnomonlaw25_UpdateTells_r14t1_x (And.intro @s_gnomonlaw25_UpdateTells_r14t2_x (And.intro @s_gnomonlaw25_UpdateTells_r14t3_x (And.intro @s_gnomonlaw25_UpdateTells_r14p4_tale (And.intro @s_gnomonlaw25_UpdateTells_r14t4_x (And.intro @s_gnomonlaw25_UpdateTells_r14t5_x (And.intro @s_gnomonlaw25_UpdateTells_r14t6_x (And.intro @s_gnomonlaw25_UpdateTells_r14t7_x (And.intro @s_gnomonlaw25_UpdateTells_r14p8_tale (And.intro @s_gnomonlaw25_UpdateTells_r14t8_x (And.intro @s_gnomonlaw25_UpdateTells_r14t9_x (And.intro @s_gnomonlaw25_UpdateTells_r14t10_x (And.intro @s_gnomonlaw25_UpdateTells_r14t11_x (And.intro @s_gnomonlaw25_UpdateTells_r14t12_tale (And.intro @s_gnomonlaw25_UpdateTells_r14t12_x (And.intro @s_gnomonlaw25_UpdateTells_r15_tale (And.intro @s_gnomonlaw25_UpdateTells_r16p0_tale (And.intro @s_gnomonlaw25_UpdateTells_r16_x (And.intro @s_gnomonlaw25_UpdateTells_r16t1_x (And.intro @s_gnomonlaw25_UpdateTells_r17p0_tale (And.intro @s_gnomonlaw25_UpdateTells_r17_x (And.intro @s_gnomonlaw25_UpdateTells_r17t1_x (And.intro @s_gnomonlaw25_UpdateTells_r18_tale (And.intro @s_gnomonlaw25_UpdateTells_r19_tale (And.intro @s_gnomonlaw25_UpdateTells_r20p0_tale (And.intro @s_gnomonlaw25_UpdateTells_r20_x (And.intro @s_gnomonlaw25_UpdateTells_r20t1_x (And.intro @s_gnomonlaw25_UpdateTells_r20p2_tale (And.intro @s_gnomonlaw25_UpdateTells_r20t2_x (And.intro @s_gnomonlaw25_UpdateTells_r20t3_x (And.intro @s_gnomonlaw25_UpdateTells_r20t4_x (And.intro @s_gnomonlaw25_UpdateTells_r20t5_tale (And.intro @s_gnomonlaw25_UpdateTells_r20t5_x (And.intro @s_gnomonlaw25_UpdateTells_r21_tale (And.intro @s_gnomonlaw25_UpdateTells_r22_tale (And.intro @s_gnomonlaw25_UpdateTells_l1_ev (And.intro @s_gnomonlaw25_UpdateTells_r23p0_tale (And.intro @s_gnomonlaw25_UpdateTells_r23_x (And.intro @s_gnomonlaw25_UpdateTells_r23t1_x (And.intro @s_gnomonlaw25_UpdateTells_r23p2_tale (And.intro @s_gnomonlaw25_UpdateTells_r23t2_x (And.intro @s_gnomonlaw25_UpdateTells_r23t3_x (And.intro @s_gnomonlaw25_UpdateTells_r23t4_x (And.intro @s_gnomonlaw25_UpdateTells_r23p5_tale (And.intro @s_gnomonlaw25_UpdateTells_r23t5_x (And.intro @s_gnomonlaw25_UpdateTells_r23t6_x (And.intro @s_gnomonlaw25_UpdateTells_r23t7_x (And.intro @s_gnomonlaw25_UpdateTells_r23t8_x (And.intro @s_gnomonlaw25_UpdateTells_r23t9_x (And.intro @s_gnomonlaw25_UpdateTells_r23t10_x (And.intro @s_gnomonlaw25_UpdateTells_r23p11_tale (And.intro @s_gnomonlaw25_UpdateTells_r23t11_x (And.intro @s_gnomonlaw25_UpdateTells_r23t12_x (And.intro @s_gnomonlaw25_UpdateTells_r23t13_x (And.intro @s_gnomonlaw25_UpdateTells_r23t14_x (And.intro @s_gnomonlaw25_UpdateTells_r23t15_x (And.intro @s_gnomonlaw25_UpdateTells_r23t16_x (And.intro @s_gnomonlaw25_UpdateTells_r23p17_tale (And.intro @s_gnomonlaw25_UpdateTells_r23t17_x (And.intro @s_gnomonlaw25_UpdateTells_r23t18_x (And.intro @s_gnomonlaw25_UpdateTells_r23t19_tale (@s_gnomonlaw25_UpdateTells_r23t19_x)))))))))))))))))))))))))))))))))))))))))))))))))))))))))))))))))))))))))))))))))))))))))))))))))))))))))))))))))))))))))))))))))))))))))))))))))
theorem CB4_3 : compK Tryd.prog PX0 3 = some (false, s_gnomonlaw25_UpdateTells.ntmps, s_gnomonlaw25_UpdateTells.results, s_gnomonlaw25_UpdateTells.body.bare) := by kernel_rfl
end Go.Proofs.YtlclbbieacjmfaaDoor
set_option maxRecDepth 100000
namespace Go.Proofs.YtlclbbieacjmfaaDoor
open Go.AM
def storeR (la lb lc : List Int) (o : Int) (single : Bool) : List Int := if lc.length = 0 then [] else if lc.contains o = false then la else if lc.length = 1 ∧ single = true then lb else lb.foldl addL la
structure RU (CT : Nat → Option CFun) : Prop where
  add : CT k_gnomonref01_Add = some (.code s_gnomonref01_Add)
  of : CT k_gnomonref01_Of = some (.code s_gnomonref01_Of)
  union : CT k_gnomonref01_Union = some (.code s_gnomonref01_Union)
  has : CT k_gnomonref01_Has = some (.code s_gnomonref01_Has)
  same : CT k_gnomonref01_Same = some (.code s_gnomonref01_Same)
  store : CT k_gnomonref25_Store = some (.code s_gnomonref25_Store)
  call : CT k_gnomonref25_Call = some (.code s_gnomonref25_Call)
theorem liS_len {m : Nat} {H : Heap} {v : V} {l : List Int} (h : LiS m H v l) (H' : Heap) : xLen H' .s v = some (.s (.int .i64 l.length)) := by
  rcases h with ⟨rfl, rfl⟩ | ⟨_, _, rfl, _⟩ <;> rfl
section
variable {CT : Nat → Option CFun}
theorem rstore_fun (r : RU CT) {H : Heap} {va vb vc : V} {la lb lc : List Int} (ha : LiS 0 H va la) (hb : LiS 0 H vb lb) (hc : LiS 0 H vc lc) (o : Int) (single : Bool) (hl : la.length + lb.length < 2 ^ 40) (hlc : lc.length < 2 ^ 40) :
    ∃ v' H', callW CT (.fn k_gnomonref25_Store [] []) [va, vb, vc, .s (.int .i64 o), .s (.bool single)] 0 H = some (v', H') ∧ LiS 0 H' v' (storeR la lb lc o single) ∧ KeepD H.length [] H H' := by
  have hlen := liS_len hc
  have hh := fun base => rhas_fun r.has base H vc lc o hc.rd hc.wide (by omega)
  by_cases h0 : lc.length = 0
  · refine ⟨nilS, H, ?_, by rw [storeR, if_pos h0]; exact LiS.nil _ _, KeepD.refl _ _⟩
    refine callW_fn (c := s_gnomonref25_Store) r.store (by simp [s_gnomonref25_Store]) ?_
    have z : (((lc.length : Nat) : Int) == 0) = true := by rw [h0]; rfl
    simp only [s_gnomonref25_Store, a_gnomonref25_Store, am0,am1,am2,am3,am4,am5,am6,am7,bl,i64,reduceIte,reduceCtorEq,Nat.reduceEqDiff,Nat.reduceLT,Nat.reduceLeDiff,Nat.reduceBEq,Nat.reduceAdd,fillA,splice,Nat.reduceMul,al0,al1,al2,al3,al4,al5,al6,al7,al8,al9,al10,al11,al12,al13,al14,al15,al16,al17,al18,al19,al20,al21,al22,al23,al24,al25,al26,al27,al28,al29,al30,al31,al32,al33,al34,amY,op_eqP, hlen, z]
    rfl
  have z : (((lc.length : Nat) : Int) == 0) = false := by simp; intro e; rw [e] at h0; exact h0 rfl
  by_cases h1 : lc.contains o = false
  · refine ⟨va, H, ?_, by rw [storeR, if_neg h0, if_pos h1]; exact ha, KeepD.refl _ _⟩
    refine callW_fn (c := s_gnomonref25_Store) r.store (by simp [s_gnomonref25_Store]) ?_
    simp only [s_gnomonref25_Store, a_gnomonref25_Store, am0,am1,am2,am3,am4,am5,am6,am7,bl,i64,reduceIte,reduceCtorEq,Nat.reduceEqDiff,Nat.reduceLT,Nat.reduceLeDiff,Nat.reduceBEq,Nat.reduceAdd,fillA,splice,Nat.reduceMul,al0,al1,al2,al3,al4,al5,al6,al7,al8,al9,al10,al11,al12,al13,al14,al15,al16,al17,al18,al19,al20,al21,al22,al23,al24,al25,al26,al27,al28,al29,al30,al31,al32,al33,al34,amY,op_eqP, hlen, z, hh, h1]
    done
  have h1' : lc.contains o = true := by simpa using h1
  by_cases h2 : lc.length = 1 ∧ single = true
  · refine ⟨vb, H, ?_, by rw [storeR, if_neg h0, if_neg h1, if_pos h2]; exact hb, KeepD.refl _ _⟩
    refine callW_fn (c := s_gnomonref25_Store) r.store (by simp [s_gnomonref25_Store]) ?_
    have z1 : (((lc.length : Nat) : Int) == 1) = true := by rw [h2.1]; rfl
    have h22 := h2.2
    subst h22
    simp only [s_gnomonref25_Store, a_gnomonref25_Store, am0,am1,am2,am3,am4,am5,am6,am7,bl,i64,reduceIte,reduceCtorEq,Nat.reduceEqDiff,Nat.reduceLT,Nat.reduceLeDiff,Nat.reduceBEq,Nat.reduceAdd,fillA,splice,Nat.reduceMul,al0,al1,al2,al3,al4,al5,al6,al7,al8,al9,al10,al11,al12,al13,al14,al15,al16,al17,al18,al19,al20,al21,al22,al23,al24,al25,al26,al27,al28,al29,al30,al31,al32,al33,al34,amY,op_eqP, hlen, z, hh, h1', z1]
    done
  obtain ⟨v', H', e, x, k⟩ := runi_fun r.union r.add r.has 0 ha hb.rd hb.wide hl (Nat.zero_le _)
  refine ⟨v', H', ?_, by rw [storeR, if_neg h0, if_neg h1, if_neg h2]; exact x, k⟩
  refine callW_fn (c := s_gnomonref25_Store) r.store (by simp [s_gnomonref25_Store]) ?_
  by_cases h3 : lc.length = 1
  · have z1 : (((lc.length : Nat) : Int) == 1) = true := by rw [h3]; rfl
    have hs : single = false := by cases single with | false => rfl | true => exact absurd ⟨h3, rfl⟩ h2
    subst hs
    simp only [s_gnomonref25_Store, a_gnomonref25_Store, am0,am1,am2,am3,am4,am5,am6,am7,bl,i64,reduceIte,reduceCtorEq,Nat.reduceEqDiff,Nat.reduceLT,Nat.reduceLeDiff,Nat.reduceBEq,Nat.reduceAdd,fillA,splice,Nat.reduceMul,al0,al1,al2,al3,al4,al5,al6,al7,al8,al9,al10,al11,al12,al13,al14,al15,al16,al17,al18,al19,al20,al21,al22,al23,al24,al25,al26,al27,al28,al29,al30,al31,al32,al33,al34,amY,op_eqP, hlen, z, hh, h1', z1, e]
    done
  · have z1 : (((lc.length : Nat) : Int) == 1) = false := by rw [beq_eq_false_iff_ne]; omega
    simp only [s_gnomonref25_Store, a_gnomonref25_Store, am0,am1,am2,am3,am4,am5,am6,am7,bl,i64,reduceIte,reduceCtorEq,Nat.reduceEqDiff,Nat.reduceLT,Nat.reduceLeDiff,Nat.reduceBEq,Nat.reduceAdd,fillA,splice,Nat.reduceMul,al0,al1,al2,al3,al4,al5,al6,al7,al8,al9,al10,al11,al12,al13,al14,al15,al16,al17,al18,al19,al20,al21,al22,al23,al24,al25,al26,al27,al28,al29,al30,al31,al32,al33,al34,amY,op_eqP, hlen, z, hh, h1', z1, e]
    done
def wR (L : List XIn) (us : List V) : List (List V) := List.zipWith (fun e u => [.s (.bool e.1), u]) L us
structure WS2 (m : Nat) (H : Heap) (v : V) (L : List XIn) (us : List V) : Prop where
  len : us.length = L.length
  acc : AccW m 2 H v (wR L us)
  li : ∀ (k : Nat) (e : XIn) (u : V), L[k]? = some e → us[k]? = some u → LiS 0 H u (e.2.2.foldl addL [])
  nl : L = [] → v = nilS
theorem wR_get {L : List XIn} {us : List V} {k : Nat} {e : XIn} {u : V} (h1 : L[k]? = some e) (h2 : us[k]? = some u) : (wR L us)[k]? = some [.s (.bool e.1), u] := by
  simp [wR, List.getElem?_zipWith, h1, h2]
theorem WS2.rlen {m : Nat} {H : Heap} {v : V} {L : List XIn} {us : List V} (h : WS2 m H v L us) : (wR L us).length = L.length := by simp [wR, h.len]
theorem WS2.start (m : Nat) (H : Heap) : WS2 m H nilS [] [] := ⟨rfl, AccW.start _ _ _, fun k e j h => by simp at h, fun _ => rfl⟩
theorem WS2.d {m : Nat} {H H' : Heap} {v : V} {L : List XIn} {us : List V} (h : WS2 m H v L us) (k : KeepD H.length [] H H') : WS2 m H' v L us :=
  ⟨h.len, h.acc.d k, fun i e j h1 h2 => (h.li i e j h1 h2).d k, h.nl⟩
theorem WS2.trim {m L0 : Nat} {H : Heap} {v : V} {L : List XIn} {us : List V} (h : WS2 m H v L us) (hL : L0 ≤ m) {fr : List V} (hv : v ∈ fr) : WS2 m (trim L0 fr H) v L us := by
  rcases h.acc.trim_or hL hv with ⟨e, rfl⟩ | e
  · have h1 := h.rlen
    rw [e] at h1
    have hl : L = [] := List.eq_nil_of_length_eq_zero h1.symm
    subst hl
    have hj : us = [] := List.eq_nil_of_length_eq_zero h.len
    subst hj
    exact WS2.start _ _
  · rw [e]; exact h
def callR (A : List Int) (L : List XIn) (out : List Int) : List Int := L.foldl (fun out e => (if e.1 then e.2.2.foldl addL [] else A).foldl addL out) out
theorem callR_snoc (A : List Int) (L : List XIn) (e : XIn) (out : List Int) : callR A (L ++ [e]) out = (if e.1 then e.2.2.foldl addL [] else A).foldl addL (callR A L out) := by simp [callR, List.foldl_append]
theorem foldl_addL_len : ∀ (r l : List Int), (r.foldl addL l).length ≤ l.length + r.length := by
  intro r
  induction r with
  | nil => intro l; simp
  | cons x r ih => intro l; have h1 := ih (addL l x); have h2 := addL_len l x; simp only [List.foldl_cons, List.length_cons]; omega
theorem callR_len (A : List Int) (hA : A.length ≤ 300) : ∀ (L : List XIn) (out : List Int), (∀ e ∈ L, e.2.2.length ≤ 300) → (callR A L out).length ≤ out.length + 300 * L.length := by
  intro L
  induction L with
  | nil => intro out _; simp [callR]
  | cons e L ih =>
    intro out h
    have h1 := ih ((if e.1 then e.2.2.foldl addL [] else A).foldl addL out) fun x hx => h x (List.mem_cons_of_mem _ hx)
    have h2 := foldl_addL_len (if e.1 then e.2.2.foldl addL [] else A) out
    have h3 := foldl_addL_len e.2.2 []
    have h4 := h e List.mem_cons_self
    have h5 : (if e.1 then e.2.2.foldl addL [] else A).length ≤ 300 := by
      split
      · simp at h3; omega
      · exact hA
    simp only [callR, List.foldl_cons, List.length_cons] at h1 ⊢
    omega
theorem mem_callR (A : List Int) (hA : ∀ x ∈ A, 0 ≤ x) : ∀ (L : List XIn) (out : List Int) (y : Int), y ∈ callR A L out ↔ y ∈ out ∨ ∃ e ∈ L, if e.1 then y ∈ e.2.2 ∧ 0 ≤ y else y ∈ A := by
  intro L
  induction L with
  | nil => intro out y; simp [callR]
  | cons e L ih =>
    intro out y
    show y ∈ callR A L _ ↔ _
    rw [ih, mem_foldL]
    simp only [List.mem_cons, exists_eq_or_imp]
    cases he : e.1 with
    | true =>
      simp only [if_true, mem_foldL, List.not_mem_nil, false_or]
      constructor
      · rintro ((h | h) | h)
        · exact .inl h
        · exact .inr (.inl h.1)
        · exact .inr (.inr h)
      · rintro (h | h | h)
        · exact .inl (.inl h)
        · exact .inl (.inr ⟨h, h.2⟩)
        · exact .inr h
    | false =>
      simp only [Bool.false_eq_true, if_false]
      constructor
      · rintro ((h | h) | h)
        · exact .inl h
        · exact .inr (.inl h.1)
        · exact .inr (.inr h)
      · rintro (h | h | h)
        · exact .inl (.inl h)
        · exact .inl (.inr ⟨h, hA y h⟩)
        · exact .inr h
theorem callR_lt (A : List Int) : ∀ (L : List XIn) (out : List Int), out.Pairwise (· < ·) → (callR A L out).Pairwise (· < ·) := by
  intro L
  induction L with
  | nil => intro out h; exact h
  | cons e L ih => intro out h; exact ih _ (foldL_lt h)
end
end Go.Proofs.YtlclbbieacjmfaaDoor
set_option maxRecDepth 100000
namespace Go.Proofs.YtlclbbieacjmfaaDoor
open Go.AM
section
variable {CT : Nat → Option CFun}
theorem rcall_loop (r : RU CT) {m : Nat} {va vw : V} {A : List Int} {L : List XIn} {us : List V} {mw : Nat} {H0 : Heap} (hm : m = H0.length) (hn : L.length ≤ 60) (hA : A.length ≤ 300) (hL : ∀ e ∈ L, e.2.2.length ≤ 300) (ha : LiS 0 H0 va A) (W : WS2 mw H0 vw L us) :
    ∀ (d k : Nat) (v : V) (H : Heap), k + d = L.length → LiS 0 H v (callR A (L.take k) []) → KeepD m [] H0 H →
    ∃ v' H2, itW (evC (callW CT) itW 0 s_gnomonref25_Call_l0) [] m (frOf 29 [(0, va), (1, vw), (5, v), (6, .s (.int .i64 k))]) H = some (.ext 0, frOf 29 [(0, va), (1, vw), (5, v'), (6, .s (.int .i64 L.length)), (10, .s (.bool false))], H2) ∧ LiS 0 H2 v' (callR A L []) ∧ KeepD m [] H0 H2 := by
  subst hm
  intro d
  induction d with
  | zero =>
    intro k v H hk hE hK
    have hk' : k = L.length := by omega
    subst hk'
    rw [List.take_length] at hE
    have hlen := (W.d hK).acc.rd.len
    rw [W.rlen] at hlen
    rw [itW_step]
    simp only [a_gnomonref25_Call,s_gnomonref25_Call_l0_b, am0,am1,am2,am3,am4,am5,am6,am7,bl,i64,reduceIte,reduceCtorEq,Nat.reduceEqDiff,Nat.reduceLT,Nat.reduceLeDiff,Nat.reduceBEq,Nat.reduceAdd,fillA,splice,Nat.reduceMul,al0,al1,al2,al3,al4,al5,al6,al7,al8,al9,al10,al11,al12,al13,al14,al15,al16,al17,al18,al19,al20,al21,al22,al23,al24,al25,al26,al27,al28,al29,al30,al31,al32,al33,al34,amY,op_eqP, hlen, Int.lt_irrefl]
    refine ⟨_, _, rfl, ?_, hK.trim (Nat.le_refl _) _⟩
    exact hE.trim_fr _ (frOf_mem (s := 5) (by decide) rfl)
  | succ d ih =>
    intro k v H hk hE hK
    have hkl : k < L.length := by omega
    have hlt : (k : Int) < (L.length : Int) := by omega
    have hwp := wrap_pos (n := k) (by omega)
    obtain ⟨e, hek⟩ : ∃ e, L[k]? = some e := ⟨L[k], List.getElem?_eq_getElem hkl⟩
    obtain ⟨u, huk⟩ : ∃ u, us[k]? = some u := ⟨us[k]'(by rw [W.len]; exact hkl), List.getElem?_eq_getElem (by rw [W.len]; exact hkl)⟩
    have heL := List.mem_of_getElem? hek
    have WH := W.d hK
    have hlen := WH.acc.rd.len
    rw [W.rlen] at hlen
    obtain ⟨a, ha1, ha2, ha3⟩ := WH.acc.rd.at' k _ (wR_get hek huk)
    obtain ⟨b0, hb0, hb0'⟩ := ha3 0 _ rfl
    obtain ⟨b1, hb1, hb1'⟩ := ha3 1 _ rfl
    have hb0' : xLoad H false 1 b0 = some (.s (.bool e.1)) := hb0'
    have hb1' : xLoad H false 1 b1 = some u := hb1'
    have hu := WH.li k e u hek huk
    have haH := ha.d hK
    have hl1 := callR_len A hA (L.take k) [] (fun x hx => hL x (List.mem_of_mem_take hx))
    have hl2 := foldl_addL_len e.2.2 []
    have hl3 := hL e heL
    simp only [List.length_nil, List.length_take] at hl1 hl2
    have hsn : callR A (L.take (k + 1)) [] = (if e.1 then e.2.2.foldl addL [] else A).foldl addL (callR A (L.take k) []) := by
      rw [List.take_add_one, hek]; exact callR_snoc ..
    have hgo : ∃ v1 H1, callW CT (.fn k_gnomonref01_Union [] []) [v, if e.1 then u else va] 0 H = some (v1, H1) ∧ LiS 0 H1 v1 (callR A (L.take (k + 1)) []) ∧ KeepD H.length [] H H1 := by
      rw [hsn]
      cases he : e.1 with
      | true => simp only [if_true]; exact runi_fun r.union r.add r.has 0 hE hu.rd hu.wide (by omega) (Nat.zero_le _)
      | false => simp only [Bool.false_eq_true, if_false]; exact runi_fun r.union r.add r.has 0 hE haH.rd haH.wide (by omega) (Nat.zero_le _)
    obtain ⟨v1, H1, e1, x1, k1⟩ := hgo
    obtain ⟨v2, H2, e2, x2, k2⟩ := ih (k + 1) v1 (trim H0.length (frOf 29 [(0, va), (1, vw), (5, v1), (6, .s (.int .i64 (k + 1 : Nat)))]) H1) (by omega) (x1.trim_fr _ (frOf_mem (s := 5) (by decide) rfl)) ((hK.trans k1 hK.1).trim (Nat.le_refl _) _)
    refine ⟨v2, H2, ?_, x2, k2⟩
    rw [itW_step]
    cases he : e.1 with
    | true =>
      rw [he] at hb0' e1
      simp only [if_true] at e1
      simp only [a_gnomonref25_Call,s_gnomonref25_Call_l0_b, am0,am1,am2,am3,am4,am5,am6,am7,bl,i64,reduceIte,reduceCtorEq,Nat.reduceEqDiff,Nat.reduceLT,Nat.reduceLeDiff,Nat.reduceBEq,Nat.reduceAdd,fillA,splice,Nat.reduceMul,al0,al1,al2,al3,al4,al5,al6,al7,al8,al9,al10,al11,al12,al13,al14,al15,al16,al17,al18,al19,al20,al21,al22,al23,al24,al25,al26,al27,al28,al29,al30,al31,al32,al33,al34,amY,op_eqP, hlen, hlt, ha1, hb0, hb0', hb1, hb1', e1, hwp, e2]
      done
    | false =>
      rw [he] at hb0' e1
      simp only [Bool.false_eq_true, if_false] at e1
      simp only [a_gnomonref25_Call,s_gnomonref25_Call_l0_b, am0,am1,am2,am3,am4,am5,am6,am7,bl,i64,reduceIte,reduceCtorEq,Nat.reduceEqDiff,Nat.reduceLT,Nat.reduceLeDiff,Nat.reduceBEq,Nat.reduceAdd,fillA,splice,Nat.reduceMul,al0,al1,al2,al3,al4,al5,al6,al7,al8,al9,al10,al11,al12,al13,al14,al15,al16,al17,al18,al19,al20,al21,al22,al23,al24,al25,al26,al27,al28,al29,al30,al31,al32,al33,al34,amY,op_eqP, hlen, hlt, ha1, hb0, hb0', hb1, hb1', e1, hwp, e2]
      done
theorem rcall_fun (r : RU CT) {va vw : V} {A : List Int} {L : List XIn} {us : List V} {mw : Nat} {H : Heap} (hn : L.length ≤ 60) (hA : A.length ≤ 300) (hL : ∀ e ∈ L, e.2.2.length ≤ 300) (ha : LiS 0 H va A) (W : WS2 mw H vw L us) :
    ∃ v' H', callW CT (.fn k_gnomonref25_Call [] []) [va, vw] 0 H = some (v', H') ∧ LiS 0 H' v' (callR A L []) ∧ KeepD H.length [] H H' := by
  obtain ⟨v', H', e, x, k⟩ := rcall_loop r (m := H.length) rfl hn hA hL ha W L.length 0 nilS H (by omega) (LiS.nil _ _) (KeepD.refl _ _)
  rw [cast0] at e
  simp only [nilS] at e
  refine ⟨v', H', callW_fn (c := s_gnomonref25_Call) r.call (by simp [s_gnomonref25_Call]) ?_, x, k⟩
  simp only [s_gnomonref25_Call, a_gnomonref25_Call,s_gnomonref25_Call_l0_b, am0,am1,am2,am3,am4,am5,am6,am7,bl,i64,reduceIte,reduceCtorEq,Nat.reduceEqDiff,Nat.reduceLT,Nat.reduceLeDiff,Nat.reduceBEq,Nat.reduceAdd,fillA,splice,Nat.reduceMul,al0,al1,al2,al3,al4,al5,al6,al7,al8,al9,al10,al11,al12,al13,al14,al15,al16,al17,al18,al19,al20,al21,al22,al23,al24,al25,al26,al27,al28,al29,al30,al31,al32,al33,al34,amY,op_eqP, e]
  done
theorem w_snoc {m : Nat} {H H1 H2 : Heap} {v v' : V} {L : List XIn} {us : List V} (h : WS2 m H v L us) {e : XIn} {u : V} (hm : m ≤ H.length) (k : KeepD H.length [] H H1) (hu : LiS 0 H1 u (e.2.2.foldl addL []))
    (ha : AccW m 2 H2 v' (wR L us ++ [[.s (.bool e.1), u]])) (hk : ∀ id, id < H1.length → (∀ g n, v ≠ .sl id g 0 n 2) → H2[id]? = H1[id]?) : WS2 m H2 v' (L ++ [e]) (us ++ [u]) := by
  have hd := h.d k
  have key : ∀ {M : Nat} {w : V} {l : List Int}, LiS M H1 w l → LiS M H2 w l := fun {M w l} hw => by
    refine hw.keep fun id g n e0 => ?_
    refine hk id (hw.lt id g n e0) fun g' n' e1 => ?_
    obtain ⟨_, ⟨_, e2⟩ | ⟨id', g2, e2, hc2, _⟩⟩ := hd.acc
    · rw [e2] at e1; cases e1
    · cases L with
      | nil => rw [h.nl rfl] at e1; cases e1
      | cons e3 L3 =>
        cases us with
        | nil => have := h.len; simp at this
        | cons u3 us3 =>
          rw [e2] at e1
          cases e1
          exact hw.apart hc2 (by intro n e; cases e) id g n e0 rfl
  refine ⟨by simp [h.len], ?_, ?_, fun e => by simp at e⟩
  · rw [wR, zip_snoc _ _ _ _ _ h.len.symm]; exact ha
  · intro i e' u' h1 h2
    by_cases hi : i < L.length
    · rw [List.getElem?_append_left hi] at h1
      rw [List.getElem?_append_left (by rw [h.len]; exact hi)] at h2
      exact key (hd.li i e' u' h1 h2)
    · have hi' : i = L.length := by
        have := (List.getElem?_eq_some_iff.1 h1).1
        simp at this; omega
      subst hi'
      rw [List.getElem?_append_right (Nat.le_refl _), Nat.sub_self] at h1
      rw [List.getElem?_append_right (by rw [h.len]; exact Nat.le_refl _), h.len, Nat.sub_self] at h2
      cases h1; cases h2
      exact key hu
theorem w_loop (r : RU CT) {m : Nat} {v0 v1 v2 v3 v4 vl v13 v14 v15 v16 : V} {L : List XIn} {H0 : Heap} (hm : m = H0.length) (hn : L.length ≤ 60) (hL : ∀ e ∈ L, XOk e) (hv : ∀ H, RdW 2 H vl (L.map inR)) :
    ∀ (d k : Nat) (v : V) (us : List V) (H : Heap), k + d = L.length → WS2 m H v (L.take k) us → KeepD m [] H0 H →
    ∃ v' us' H2, itW (evC (callW CT) itW 0 s_gnomonlaw25_UpdateTells_l0) [] m (frOf 156 [(0, v0), (1, v1), (2, v2), (3, v3), (4, v4), (5, vl), (13, v13), (14, v14), (15, v15), (16, v16), (17, v), (18, .s (.int .i64 k))]) H = some (.ext 0, frOf 156 [(0, v0), (1, v1), (2, v2), (3, v3), (4, v4), (5, vl), (13, v13), (14, v14), (15, v15), (16, v16), (17, v'), (18, .s (.int .i64 L.length)), (43, .s (.bool false))], H2) ∧ WS2 m H2 v' L us' ∧ KeepD m [] H0 H2 := by
  subst hm
  intro d
  induction d with
  | zero =>
    intro k v us H hk hE hK
    have hk' : k = L.length := by omega
    subst hk'
    rw [List.take_length] at hE
    have hlen := (hv H).len
    rw [List.length_map] at hlen
    rw [itW_step]
    simp only [a_gnomonlaw25_UpdateTells,s_gnomonlaw25_UpdateTells_l0_b,s_gnomonlaw25_UpdateTells_l1_b, am0,am1,am2,am3,am4,am5,am6,am7,bl,i64,reduceIte,reduceCtorEq,Nat.reduceEqDiff,Nat.reduceLT,Nat.reduceLeDiff,Nat.reduceBEq,Nat.reduceAdd,fillA,splice,Nat.reduceMul,al0,al1,al2,al3,al4,al5,al6,al7,al8,al9,al10,al11,al12,al13,al14,al15,al16,al17,al18,al19,al20,al21,al22,al23,al24,al25,al26,al27,al28,al29,al30,al31,al32,al33,al34,amY,op_eqP, hlen, Int.lt_irrefl]
    refine ⟨_, us, _, rfl, ?_, hK.trim (Nat.le_refl _) _⟩
    exact hE.trim (Nat.le_refl _) (frOf_mem (s := 17) (by decide) rfl)
  | succ d ih =>
    intro k v us H hk hE hK
    have hkl : k < L.length := by omega
    have hlt : (k : Int) < (L.length : Int) := by omega
    have hwp := wrap_pos (n := k) (by omega)
    obtain ⟨e, hek⟩ : ∃ e, L[k]? = some e := ⟨L[k], List.getElem?_eq_getElem hkl⟩
    have heL := List.mem_of_getElem? hek
    obtain ⟨hu, huw, hul, hux⟩ := hL e heL
    have hrow : (L.map inR)[k]? = some (inR e) := by simp [hek]
    have hlen := (hv H).len
    rw [List.length_map] at hlen
    obtain ⟨a, ha1, ha2, ha3⟩ := (hv H).at' k _ hrow
    obtain ⟨b0, hb0, hb0'⟩ := ha3 0 _ rfl
    obtain ⟨b1, hb1, hb1'⟩ := ha3 1 _ rfl
    obtain ⟨u, A, eA, xA, kA⟩ := rof_fun r.of r.add r.has H.length (H := H) (hu H) huw (by omega) (Nat.le_refl _)
    have hKl := hK.1
    obtain ⟨B, hB⟩ : ∃ B, A ++ [Ob.cells 0 [.s (.bool e.1), u]] = B := ⟨_, rfl⟩
    have kB : KeepD A.length [] A B := ⟨by rw [← hB]; simp, fun id h1 _ => by rw [← hB, List.getElem?_append_left h1]⟩
    have hx : elems B 2 (.sl A.length 0 0 1 2) = some ([[V.s (.bool e.1), u]].length, [[V.s (.bool e.1), u]].flatten) := by
      rw [← hB]; exact (RdW.sl (R := [[V.s (.bool e.1), u]]) (by simpa using getC_new A 0 [V.s (.bool e.1), u]) (by intro r hr; simp at hr; subst hr; rfl)).el
    have hAB := kA.trans kB kA.1
    have huo := xA.one
    obtain ⟨v', C, eC, aC, lC, kC⟩ := (hE.d hAB).acc.append (base := 0) (bytes := 32) (S := [[V.s (.bool e.1), u]]) (Nat.zero_le _) (by have := hAB.1; omega) (by intro r hr; simp at hr; subst hr; rfl) (by simp) hx (by show (V.one (.s (.bool e.1)) && (V.one u && true)) = true; rw [huo]; rfl) (by rw [(hE.d hAB).rlen]; simp; omega)
    have hS := w_snoc hE (e := e) (u := u) (H1 := B) (H2 := C) hKl hAB (xA.d kB) aC kC
    rw [show (L.take k) ++ [e] = L.take (k + 1) by rw [List.take_add_one, hek]; rfl] at hS
    have hBl := hAB.1
    have hKC : KeepD H0.length [] H0 C := ⟨by omega, fun id h1 _ => by
      rw [kC id (by omega) (fun g n ev => by
        obtain ⟨_, ⟨_, rfl⟩ | ⟨id', g', rfl, _, hid⟩⟩ := hE.acc
        · cases ev
        · cases ev; omega), hAB.2 id (by omega) (by simp), hK.2 id h1 (by simp)]⟩
    have htr := hS.acc.trim_eq (L := H0.length) (fr := frOf 156 [(0, v0), (1, v1), (2, v2), (3, v3), (4, v4), (5, vl), (13, v13), (14, v14), (15, v15), (16, v16), (17, v'), (18, .s (.int .i64 (k + 1 : Nat)))]) (fun e0 => by have := hS.rlen; rw [e0] at this; simp at this; omega) (Nat.le_refl _) (frOf_mem (s := 17) (by decide) rfl)
    obtain ⟨v2', us2, H2, e2, s2, k2⟩ := ih (k + 1) v' _ C (by omega) hS hKC
    refine ⟨v2', us2, H2, ?_, s2, k2⟩
    rw [itW_step]
    have hb0' : xLoad H false 1 b0 = some (.s (.bool e.1)) := hb0'
    have hb1' : xLoad H false 1 b1 = some e.2.1 := hb1'
    have huc : u.cells = [u] := by cases u <;> first | rfl | (simp [V.one] at huo)
    have hvmo : (u.cells.length = 1 ∧ u.cells.all V.one = true) = True := by rw [huc]; simp [huo]
    simp only [a_gnomonlaw25_UpdateTells,s_gnomonlaw25_UpdateTells_l0_b,s_gnomonlaw25_UpdateTells_l1_b, am0,am1,am2,am3,am4,am5,am6,am7,bl,i64,reduceIte,reduceCtorEq,Nat.reduceEqDiff,Nat.reduceLT,Nat.reduceLeDiff,Nat.reduceBEq,Nat.reduceAdd,fillA,splice,Nat.reduceMul,al0,al1,al2,al3,al4,al5,al6,al7,al8,al9,al10,al11,al12,al13,al14,al15,al16,al17,al18,al19,al20,al21,al22,al23,al24,al25,al26,al27,al28,al29,al30,al31,al32,al33,al34,amY,op_eqP, hlen, hlt, ha1, hb0, hb0', hb1, hb1', eA, huc, hvmo, huo, hB, eC, hwp, htr, e2]
    done
end
end Go.Proofs.YtlclbbieacjmfaaDoor
set_option maxRecDepth 100000
namespace Go.Proofs.YtlclbbieacjmfaaDoor
open Go.AM
theorem el_ofP {l : List Int} (hx : ∀ x ∈ l, x < 2 ^ 63) (hw : WdP (ofP l noP)) : el (ofP l noP) = l.foldl addL [] :=
  (rise_ext (foldL_lt List.Pairwise.nil) (el_lt hw) fun y => by rw [mem_foldL, mem_ofP _ _ hx noP_wd, noP_el]).symm
section
variable {CT : Nat → Option CFun}
theorem x_loop (h : TD CT) (r : RU CT) {m mx : Nat} {v0 v1 v2 vl v13 v14 v15 vx : V} {L : List XIn} {js : List Nat} {H0 : Heap} (hm : m = H0.length) (hn : L.length ≤ 60) (hL : ∀ e ∈ L, XOk e) (hv : ∀ H, RdW 2 H vl (L.map inR)) (X : ExS mx H0 vx (L.map outX) js) :
    ∀ (d k : Nat) (H : Heap), k + d = L.length → KeepD m [] H0 H →
    ∃ H2, itW (evC (callW CT) itW 0 s_gnomonlaw25_UpdateTells_l1) [] m (frOf 156 [(0, v0), (1, v1), (2, v2), (5, vl), (13, v13), (14, v14), (15, v15), (19, vx), (21, .s (.int .i64 k))]) H = some (.ext 2, frOf 156 [(0, v0), (1, v1), (2, v2), (5, vl), (13, v13), (14, v14), (15, v15), (19, vx), (21, .s (.int .i64 L.length)), (117, .s (.bool false))], H2) ∧ KeepD m [] H0 H2 := by
  subst hm
  intro d
  induction d with
  | zero =>
    intro k H hk hK
    have hk' : k = L.length := by omega
    subst hk'
    have XH := X.d hK
    have hlen := XH.acc.rd.len
    rw [XH.rlen, List.length_map] at hlen
    rw [itW_step]
    simp only [a_gnomonlaw25_UpdateTells,s_gnomonlaw25_UpdateTells_l0_b,s_gnomonlaw25_UpdateTells_l1_b, am0,am1,am2,am3,am4,am5,am6,am7,bl,i64,reduceIte,reduceCtorEq,Nat.reduceEqDiff,Nat.reduceLT,Nat.reduceLeDiff,Nat.reduceBEq,Nat.reduceAdd,fillA,splice,Nat.reduceMul,al0,al1,al2,al3,al4,al5,al6,al7,al8,al9,al10,al11,al12,al13,al14,al15,al16,al17,al18,al19,al20,al21,al22,al23,al24,al25,al26,al27,al28,al29,al30,al31,al32,al33,al34,amY,op_eqP, hlen, Int.lt_irrefl]
    exact ⟨_, rfl, hK.trim (Nat.le_refl _) _⟩
  | succ d ih =>
    intro k H hk hK
    have hkl : k < L.length := by omega
    have hlt : (k : Int) < (L.length : Int) := by omega
    have hwp := wrap_pos (n := k) (by omega)
    obtain ⟨e, hek⟩ : ∃ e, L[k]? = some e := ⟨L[k], List.getElem?_eq_getElem hkl⟩
    have heL := List.mem_of_getElem? hek
    obtain ⟨hu, huw, hul, hux⟩ := hL e heL
    have XH := X.d hK
    have hlen := XH.acc.rd.len
    rw [XH.rlen, List.length_map] at hlen
    have hjl : k < js.length := by rw [X.len, List.length_map]; exact hkl
    have hjk : js[k]? = some js[k] := List.getElem?_eq_getElem hjl
    have hok : (L.map outX)[k]? = some (outX e) := by simp [hek]
    have sj := XH.sets k _ _ hok hjk
    obtain ⟨a, ha1, ha2, ha3⟩ := XH.acc.rd.at' k _ (exR_get hok hjk)
    obtain ⟨b1, hb1, hb1'⟩ := ha3 1 _ rfl
    have hb1' : xLoad H false 1 b1 = some (.ref (js[k] + 1) 0 0) := hb1'
    have cj : cnt (outX e).2 ≤ 300 := Nat.le_trans (cnt_of hux) hul
    obtain ⟨w1, A1, e1, o1, k1⟩ := list_P h H.length sj (by omega) (Nat.le_refl _)
    have hrow : (L.map inR)[k]? = some (inR e) := by simp [hek]
    obtain ⟨a'', ha1'', _, ha3''⟩ := (hv A1).at' k _ hrow
    obtain ⟨b3, hb3, hb3'⟩ := ha3'' 1 _ rfl
    have hb3' : xLoad A1 false 1 b3 = some e.2.1 := hb3'
    obtain ⟨w2, A2, e2, x2, k2⟩ := rof_fun r.of r.add r.has 0 (H := A1) (hu A1) huw (by omega) (Nat.zero_le _)
    have o2 := k2.o o1
    have f3 := fun base => same_fun r.same base A2 w1 w2 _ _ o2.rd o2.wide x2.rd x2.wide (by rw [el_len]; omega)
    have hel : (el (outX e).2 == e.2.2.foldl addL []) = true := by
      rw [beq_iff_eq]; exact el_ofP hux sj.wd
    have hk12 := k1.trans k2 k1.1
    obtain ⟨H2, e4, k4⟩ := ih (k + 1) (trim H0.length (frOf 156 [(0, v0), (1, v1), (2, v2), (5, vl), (13, v13), (14, v14), (15, v15), (19, vx), (21, .s (.int .i64 (k + 1 : Nat)))]) A2) (by omega) ((hK.trans hk12 hK.1).trim (Nat.le_refl _) _)
    refine ⟨H2, ?_, k4⟩
    rw [itW_step]
    simp only [a_gnomonlaw25_UpdateTells,s_gnomonlaw25_UpdateTells_l0_b,s_gnomonlaw25_UpdateTells_l1_b, am0,am1,am2,am3,am4,am5,am6,am7,bl,i64,reduceIte,reduceCtorEq,Nat.reduceEqDiff,Nat.reduceLT,Nat.reduceLeDiff,Nat.reduceBEq,Nat.reduceAdd,fillA,splice,Nat.reduceMul,al0,al1,al2,al3,al4,al5,al6,al7,al8,al9,al10,al11,al12,al13,al14,al15,al16,al17,al18,al19,al20,al21,al22,al23,al24,al25,al26,al27,al28,al29,al30,al31,al32,al33,al34,amY,op_eqP, hlen, hlt, ha1, hb1, hb1', e1, ha1'', hb3, hb3', e2, f3, hel, hwp, e4]
    done
end
end Go.Proofs.YtlclbbieacjmfaaDoor
set_option maxRecDepth 100000
namespace Go.Proofs.YtlclbbieacjmfaaDoor
open Go.AM
theorem ExS.reg {m : Nat} {H H' : Heap} {v : V} {L : List (Bool × WS)} {js : List Nat} (h : ExS m H v L js) (hk : ∀ id, m ≤ id → id < H.length → H'[id]? = H[id]?) : ExS m H' v L js := by
  refine ⟨h.len, h.acc.keep fun id g n e => hk id ?_ (h.acc.lt id g n e), fun i e j h1 h2 => ?_, h.low, h.inc⟩
  · obtain ⟨_, ⟨_, rfl⟩ | ⟨id', g', rfl, _, hid⟩⟩ := h.acc
    · cases e
    · cases e; exact hid
  · have hs := h.sets i e j h1 h2
    have hl := h.low j (List.mem_of_getElem? h2)
    exact hs.keep (hk _ (by omega) (SetW.lt hs).1) (hk _ hl (SetW.lt hs).2)
theorem storeR_lt {la lb lc : List Int} {o : Int} {single : Bool} (ha : la.Pairwise (· < ·)) (hb : lb.Pairwise (· < ·)) : (storeR la lb lc o single).Pairwise (· < ·) := by
  unfold storeR
  split
  · exact List.Pairwise.nil
  · split
    · exact ha
    · split
      · exact hb
      · exact foldL_lt ha
theorem mem_storeR {la lb lc : List Int} {o : Int} {single : Bool} (hb : ∀ x ∈ lb, 0 ≤ x) (y : Int) : y ∈ storeR la lb lc o single ↔ storeL lc o single (y ∈ la) (y ∈ lb) := by
  unfold storeR storeL
  by_cases h0 : lc = []
  · rw [if_pos (by rw [h0]; rfl), if_pos h0]; simp
  have h0' : lc.length ≠ 0 := fun e => h0 (List.eq_nil_of_length_eq_zero e)
  rw [if_neg h0', if_neg h0]
  by_cases h1 : o ∈ lc
  · rw [if_neg (show ¬ lc.contains o = false by simp [h1]), if_neg (show ¬ o ∉ lc from fun hh => hh h1)]
    by_cases h2 : lc.length = 1 ∧ single = true
    · rw [if_pos h2, if_neg (by rintro (h | h); omega; rw [h2.2] at h; cases h)]
    · rw [if_neg h2, if_pos (by
        by_cases h3 : lc.length = 1
        · right; cases single with | false => rfl | true => exact absurd ⟨h3, rfl⟩ h2
        · left; omega), mem_foldL]
      exact ⟨fun h => h.imp id (·.1), fun h => h.imp id fun h => ⟨h, hb y h⟩⟩
  · rw [if_pos (show lc.contains o = false by simpa using h1), if_pos h1]
theorem pick_wd {pa : WS} (ha : WdP pa) {L : List (Bool × WS)} (hL : ∀ e ∈ L, WdP e.2) : ∀ q ∈ L.map (fun e => if e.1 then e.2 else pa), WdP q := fun q hq => by
  obtain ⟨e, he, rfl⟩ := List.mem_map.1 hq
  split
  · exact hL e he
  · exact ha
section
variable {CT : Nat → Option CFun}
set_option maxHeartbeats 3200000 in
theorem tells_law (h : TD CT) (r : RU CT) (hS : CT k_update_Store = some (.code s_update_Store)) (hC : CT k_update_Call = some (.code s_update_Call)) (hX : CT k_gnomonlaw25_exits = some (.code s_gnomonlaw25_exits)) (hG : CT k_gnomonlaw25_great = some (.code s_gnomonlaw25_great)) (hF : CT k_gnomonlaw25_UpdateTells = some (.code s_gnomonlaw25_UpdateTells)) (hwk : ∀ base H, callW CT (.fn k_gnomonlaw25_wakes [] []) [] base H = some (.s (.bool true), H))
    (va : V) (a : List Int) (hva : ∀ H, Rd H va (a.map iV)) (hwa : Wide1 va) (hxa : ∀ x ∈ a, x < 2 ^ 63) (vb : V) (b : List Int) (hvb : ∀ H, Rd H vb (b.map iV)) (hwb : Wide1 vb) (hxb : ∀ x ∈ b, x < 2 ^ 63) (vc : V) (c : List Int) (hvc : ∀ H, Rd H vc (c.map iV)) (hwc : Wide1 vc) (hxc : ∀ x ∈ c, x < 2 ^ 63) (o : Int) (ho : o < 2 ^ 63) (single : Bool)
    (vl : V) (L : List XIn) (hvl : ∀ H, RdW 2 H vl (L.map inR)) (hL : ∀ e ∈ L, (∀ H, Rd H e.2.1 (e.2.2.map iV)) ∧ Wide1 e.2.1 ∧ ∀ x ∈ e.2.2, x < 2 ^ 63) :
    ∃ H', callW CT (.fn k_gnomonlaw25_UpdateTells [] []) [va, vb, vc, .s (.int .i64 o), .s (.bool single), vl] 0 [] = some (.s (.bool true), H') := by
  suffices hall : ∀ A0 : Heap, ∃ H', callW CT (.fn k_gnomonlaw25_UpdateTells [] []) [va, vb, vc, .s (.int .i64 o), .s (.bool single), vl] 0 A0 = some (.s (.bool true), H') from hall []
  intro A0
  obtain ⟨bg, eG, hbg⟩ := great_P hG (H := A0) (va := va) (vb := vb) (vc := vc) (vl := vl) (L := L) (iV_len' (hva _)) (iV_len' (hvb _)) (iV_len' (hvc _)) (fun e he => (hL e he).1) (hvl A0)
  cases bg with
  | true =>
    refine ⟨A0, callW_fn (c := s_gnomonlaw25_UpdateTells) hF (by simp [s_gnomonlaw25_UpdateTells]) ?_⟩
    simp only [s_gnomonlaw25_UpdateTells, a_gnomonlaw25_UpdateTells,s_gnomonlaw25_UpdateTells_l0_b,s_gnomonlaw25_UpdateTells_l1_b, am0,am1,am2,am3,am4,am5,am6,am7,bl,i64,reduceIte,reduceCtorEq,Nat.reduceEqDiff,Nat.reduceLT,Nat.reduceLeDiff,Nat.reduceBEq,Nat.reduceAdd,fillA,splice,Nat.reduceMul,al0,al1,al2,al3,al4,al5,al6,al7,al8,al9,al10,al11,al12,al13,al14,al15,al16,al17,al18,al19,al20,al21,al22,al23,al24,al25,al26,al27,al28,al29,al30,al31,al32,al33,al34,amY,op_eqP, eG, hwk]
    done
  | false =>
  obtain ⟨g1, g2, g3, g4, g5⟩ := hbg rfl
  have hXL : ∀ e ∈ L, XOk e := fun e he => ⟨(hL e he).1, (hL e he).2.1, g5 e he, (hL e he).2.2⟩
  obtain ⟨A1, e1, sa, k1, l1⟩ := of_P h.toTB 0 (H := A0) (v := va) (l := a) (hva _) hwa (by omega) hxa (Nat.zero_le _)
  obtain ⟨A2, e2, sb, k2, l2⟩ := of_P h.toTB 0 (H := A1) (v := vb) (l := b) (hvb _) hwb (by omega) hxb (Nat.zero_le _)
  have k2 := k2.d []
  obtain ⟨A3, e3, sc, k3, l3⟩ := of_P h.toTB 0 (H := A2) (v := vc) (l := c) (hvc _) hwc (by omega) hxc (Nat.zero_le _)
  have k3 := k3.d []
  have ca := Nat.le_trans (cnt_of hxa) g1
  have cb := Nat.le_trans (cnt_of hxb) g2
  have cc := Nat.le_trans (cnt_of hxc) g3
  have sa := k3.s (k2.s sa)
  have sb := k3.s sb
  have da := SetW.lt sa
  have db := SetW.lt sb
  have dc := SetW.lt sc
  obtain ⟨is, js, ps, A4, e4, ss, k4, ds1, ds2, cs, hs⟩ := store_P h.toTC hS sa (by omega) sb (by omega) sc (by omega) o ho single
  have ds := SetW.lt ss
  obtain ⟨vw, us, A5, e5, W, k5⟩ := w_loop r (v0 := va) (v1 := vb) (v2 := vc) (v3 := .s (.int .i64 o)) (v4 := .s (.bool single)) (v13 := .ref (A0.length + 1) 0 0) (v14 := .ref (A1.length + 1) 0 0) (v15 := .ref (A2.length + 1) 0 0) (v16 := .ref is 0 0) (H0 := A4) rfl g4 hXL hvl L.length 0 nilS [] A4 (by omega) (WS2.start _ _) (KeepD.refl _ _)
  rw [cast0] at e5
  simp only [nilS] at e5
  obtain ⟨vx, jx, A6, e6, X, k6⟩ := exits_P h.toTC hX (H := A5) (va := vl) (L := L) (by omega) hXL (fun H _ => hvl H)
  have K46 := (k5.trans k6 k5.1)
  have K36 := k4.trans K46 k4.1
  have sa6 := K36.s sa
  have cl : ∀ e ∈ L.map outX, cnt e.2 ≤ 300 := fun e he => by
    obtain ⟨x, hx, rfl⟩ := List.mem_map.1 he
    obtain ⟨_, _, q1, q2⟩ := hXL x hx
    exact Nat.le_trans (cnt_of q2) q1
  have wl : ∀ e ∈ L.map outX, WdP e.2 := fun e he => by
    obtain ⟨x, hx, rfl⟩ := List.mem_map.1 he
    exact of_wd (hXL x hx).2.2.2
  have hZl : (zL (ofP a noP) (L.map outX) jx).length = L.length := by rw [← List.length_map (f := (·.1)), zL_map, X.rlen, List.length_map]
  obtain ⟨i7, j7, A7, e7, sd, k7, d71, d72, c7⟩ := call_Z h.toTC hC (H := A6) (v := vx) (zL (ofP a noP) (L.map outX) jx) (by omega) (fun H k => by rw [zL_map]; exact (X.acc.d k).rd) (zL_ok X sa6 (by omega) (fun e he => Nat.le_trans (cl e he) (by omega)))
  rw [zL_snd _ _ _ X.len] at sd c7
  obtain ⟨pd, hpd⟩ : ∃ pd, uniS ((L.map outX).map fun e => if e.1 then e.2 else ofP a noP) noP = pd := ⟨_, rfl⟩
  have hd : ∀ x, x ∈ el pd ↔ ∃ q ∈ (L.map outX).map (fun e => if e.1 then e.2 else ofP a noP), x ∈ el q := fun x => by
    rw [← hpd, mem_uniS _ _ (pick_wd sa.wd wl) noP_wd, noP_el]; simp
  rw [hpd] at sd c7
  have dd := SetW.lt sd
  have K47 := K46.trans k7 K46.1
  have K37 := k4.trans K47 k4.1
  have K57 := k6.trans k7 k6.1
  obtain ⟨w8, A8, e8, o8, k8⟩ := list_P h 0 (K47.s ss) (by omega) (Nat.zero_le _)
  obtain ⟨w9, A9, e9, x9, k9⟩ := rof_fun r.of r.add r.has 0 (H := A8) (hva _) hwa (by omega) (Nat.zero_le _)
  obtain ⟨w10, A10, e10, x10, k10⟩ := rof_fun r.of r.add r.has 0 (H := A9) (hvb _) hwb (by omega) (Nat.zero_le _)
  obtain ⟨w11, A11, e11, x11, k11⟩ := rof_fun r.of r.add r.has 0 (H := A10) (hvc _) hwc (by omega) (Nat.zero_le _)
  have la9 := foldl_addL_len a []
  have lb9 := foldl_addL_len b []
  have lc9 := foldl_addL_len c []
  simp only [List.length_nil] at la9 lb9 lc9
  obtain ⟨w12, A12, e12, x12, k12⟩ := rstore_fun r (H := A11) ((x9.d k10).d k11) (x10.d k11) x11 o single (by omega) (by omega)
  have K812 := ((k9.trans k10 k9.1).trans k11 (k9.trans k10 k9.1).1).trans k12 (((k9.trans k10 k9.1).trans k11 (k9.trans k10 k9.1).1)).1
  have o12 := K812.o o8
  have hel1 : (el ps == storeR (a.foldl addL []) (b.foldl addL []) (c.foldl addL []) o single) = true := by
    rw [beq_iff_eq]
    refine rise_ext (el_lt ss.wd) (storeR_lt (foldL_lt List.Pairwise.nil) (foldL_lt List.Pairwise.nil)) fun y => ?_
    rw [hs, mem_storeR (fun x hx => by rw [mem_foldL] at hx; rcases hx with h | h; cases h; exact h.2), el_ofP hxa sa.wd, el_ofP hxb sb.wd, el_ofP hxc sc.wd]
  have f12 := fun base => same_fun r.same base A12 w8 w12 _ _ o12.rd o12.wide x12.rd x12.wide (by rw [el_len]; omega)
  have K712 := k8.trans K812 k8.1
  obtain ⟨w13, A13, e13, o13, k13⟩ := list_P h 0 (K712.s sd) (by omega) (Nat.zero_le _)
  obtain ⟨w14, A14, e14, x14, k14⟩ := rof_fun r.of r.add r.has 0 (H := A13) (hva _) hwa (by omega) (Nat.zero_le _)
  have K514 := ((K57.trans K712 K57.1).trans k13 (K57.trans K712 K57.1).1).trans k14 ((K57.trans K712 K57.1).trans k13 (K57.trans K712 K57.1).1).1
  obtain ⟨w15, A15, e15, x15, k15⟩ := rcall_fun r g4 (by omega) g5 x14 (W.d K514)
  have o15 := k15.o (k14.o o13)
  have hel2 : (el pd == callR (a.foldl addL []) L []) = true := by
    rw [beq_iff_eq]
    refine rise_ext (el_lt sd.wd) (callR_lt _ _ _ List.Pairwise.nil) fun y => ?_
    rw [hd, mem_callR _ (fun x hx => by rw [mem_foldL] at hx; rcases hx with h | h; cases h; exact h.2)]
    simp only [List.mem_map, List.not_mem_nil, false_or]
    constructor
    · rintro ⟨q, ⟨e, ⟨e0, he0, rfl⟩, rfl⟩, hy⟩
      refine ⟨e0, he0, ?_⟩
      rw [show (outX e0).1 = e0.1 from rfl] at hy
      cases hb0 : e0.1 with
      | true =>
        rw [hb0] at hy
        simp only [if_true] at hy ⊢
        have := (mem_ofP _ _ (hL e0 he0).2.2 noP_wd y).1 hy
        rw [noP_el] at this
        rcases this with h | h
        · cases h
        · exact h
      | false =>
        rw [hb0] at hy
        simp only [Bool.false_eq_true, if_false] at hy ⊢
        rwa [el_ofP hxa sa.wd] at hy
    · rintro ⟨e0, he0, hy⟩
      refine ⟨_, ⟨_, ⟨e0, he0, rfl⟩, rfl⟩, ?_⟩
      rw [show (outX e0).1 = e0.1 from rfl]
      cases hb0 : e0.1 with
      | true =>
        rw [hb0] at hy
        simp only [if_true] at hy ⊢
        exact (mem_ofP _ _ (hL e0 he0).2.2 noP_wd y).2 (.inr hy)
      | false =>
        rw [hb0] at hy
        simp only [Bool.false_eq_true, if_false] at hy ⊢
        rwa [el_ofP hxa sa.wd]
  have cd : cnt pd ≤ 2 ^ 40 := Nat.le_trans c7 (by rw [hZl]; omega)
  have f15 := fun base => same_fun r.same base A15 w13 w15 _ _ o15.rd o15.wide x15.rd x15.wide (by rw [el_len]; omega)
  have K1215 := (k13.trans k14 k13.1).trans k15 (k13.trans k14 k13.1).1
  have K715 := K712.trans K1215 K712.1
  have K315 := K37.trans K715 K37.1
  have K415 := K47.trans K715 K47.1
  have k4l := k4.1
  have k5l := k5.1
  have k6l := k6.1
  have k7l := k7.1
  have k715l := K715.1
  have sa15 := K315.s sa
  have sb15 := K315.s sb
  have sc15 := K315.s sc
  have ss15 := K415.s ss
  have sd15 := K715.s sd
  have p1 : xEqP A15 false (.ref is 0 0) (.ref (A0.length + 1) 0 0) = some (bl false) := xEqP_ne false (by omega) (SetW.box ss15) (SetW.box sa15)
  have p2 : xEqP A15 false (.ref is 0 0) (.ref (A1.length + 1) 0 0) = some (bl false) := xEqP_ne false (by omega) (SetW.box ss15) (SetW.box sb15)
  have p3 : xEqP A15 false (.ref i7 0 0) (.ref (A0.length + 1) 0 0) = some (bl false) := xEqP_ne false (by omega) (SetW.box sd15) (SetW.box sa15)
  have e16 := add_P h.toTB 0 ss15 (Nat.zero_le _) (Nat.zero_le _) 1125899906842624 (by decide) (by omega)
  obtain ⟨A16, hA16⟩ : ∃ B, putPH A15 is js (addP ps 1125899906842624) = B := ⟨_, rfl⟩
  rw [hA16] at e16
  have q16 : ∀ id, id ≠ is → id ≠ js → A16[id]? = A15[id]? := fun id h1 h2 => by rw [← hA16]; exact putPH_other _ _ _ _ h1 h2
  have l16 : A16.length = A15.length := by rw [← hA16]; exact putPH_len _ _ _ _
  have sd16 : SetP A16 i7 j7 pd := sd15.keep (q16 _ (by omega) (by omega)) (q16 _ (by omega) (by omega))
  have e17 := add_P h.toTB 0 sd16 (Nat.zero_le _) (Nat.zero_le _) 2251799813685248 (by decide) (by omega)
  obtain ⟨A17, hA17⟩ : ∃ B, putPH A16 i7 j7 (addP pd 2251799813685248) = B := ⟨_, rfl⟩
  rw [hA17] at e17
  have q17 : ∀ id, id ≠ is → id ≠ js → id ≠ i7 → id ≠ j7 → A17[id]? = A15[id]? := fun id h1 h2 h3 h4 => by rw [← hA17, putPH_other _ _ _ _ h3 h4]; exact q16 id h1 h2
  have l17 : A17.length = A15.length := by rw [← hA17, putPH_len]; exact l16
  have sa17 : SetP A17 _ _ _ := sa15.keep (q17 _ (by omega) (by omega) (by omega) (by omega)) (q17 _ (by omega) (by omega) (by omega) (by omega))
  have sb17 : SetP A17 _ _ _ := sb15.keep (q17 _ (by omega) (by omega) (by omega) (by omega)) (q17 _ (by omega) (by omega) (by omega) (by omega))
  have sc17 : SetP A17 _ _ _ := sc15.keep (q17 _ (by omega) (by omega) (by omega) (by omega)) (q17 _ (by omega) (by omega) (by omega) (by omega))
  have K615 := k7.trans K715 k7.1
  have X17 : ExS A5.length A17 vx (L.map outX) jx := X.reg fun id h1 h2 => by rw [q17 id (by omega) (by omega) (by omega) (by omega), K615.2 id h2 (by simp)]
  obtain ⟨A18, e18, k18⟩ := x_loop h r (m := A17.length) (v0 := va) (v1 := vb) (v2 := vc) (v13 := .ref (A0.length + 1) 0 0) (v14 := .ref (A1.length + 1) 0 0) (v15 := .ref (A2.length + 1) 0 0) (H0 := A17) rfl g4 hXL hvl X17 L.length 0 A17 (by omega) (KeepD.refl _ _)
  rw [cast0] at e18
  obtain ⟨w19, A19, e19, o19, k19⟩ := list_P h 0 (k18.s sa17) (by omega) (Nat.zero_le _)
  obtain ⟨w20, A20, e20, x20, k20⟩ := rof_fun r.of r.add r.has 0 (H := A19) (hva _) hwa (by omega) (Nat.zero_le _)
  have o20 := k20.o o19
  have f20 := fun base => same_fun r.same base A20 w19 w20 _ _ o20.rd o20.wide x20.rd x20.wide (by rw [el_len]; omega)
  have K1720 := (k18.trans k19 k18.1).trans k20 (k18.trans k19 k18.1).1
  obtain ⟨w21, A21, e21, o21, k21⟩ := list_P h 0 (K1720.s sb17) (by omega) (Nat.zero_le _)
  obtain ⟨w22, A22, e22, x22, k22⟩ := rof_fun r.of r.add r.has 0 (H := A21) (hvb _) hwb (by omega) (Nat.zero_le _)
  have o22 := k22.o o21
  have f22 := fun base => same_fun r.same base A22 w21 w22 _ _ o22.rd o22.wide x22.rd x22.wide (by rw [el_len]; omega)
  have K1722 := (K1720.trans k21 K1720.1).trans k22 (K1720.trans k21 K1720.1).1
  obtain ⟨w23, A23, e23, o23, k23⟩ := list_P h 0 (K1722.s sc17) (by omega) (Nat.zero_le _)
  obtain ⟨w24, A24, e24, x24, k24⟩ := rof_fun r.of r.add r.has 0 (H := A23) (hvc _) hwc (by omega) (Nat.zero_le _)
  have o24 := k24.o o23
  have f24 := fun base => same_fun r.same base A24 w23 w24 _ _ o24.rd o24.wide x24.rd x24.wide (by rw [el_len]; omega)
  have z20 : (el (ofP a noP) == a.foldl addL []) = true := by rw [beq_iff_eq]; exact el_ofP hxa sa.wd
  have z22 : (el (ofP b noP) == b.foldl addL []) = true := by rw [beq_iff_eq]; exact el_ofP hxb sb.wd
  have z24 : (el (ofP c noP) == c.foldl addL []) = true := by rw [beq_iff_eq]; exact el_ofP hxc sc.wd
  refine ⟨A24, callW_fn (c := s_gnomonlaw25_UpdateTells) hF (by simp [s_gnomonlaw25_UpdateTells]) ?_⟩
  simp only [s_gnomonlaw25_UpdateTells, a_gnomonlaw25_UpdateTells,s_gnomonlaw25_UpdateTells_l0_b,s_gnomonlaw25_UpdateTells_l1_b, am0,am1,am2,am3,am4,am5,am6,am7,bl,i64,reduceIte,reduceCtorEq,Nat.reduceEqDiff,Nat.reduceLT,Nat.reduceLeDiff,Nat.reduceBEq,Nat.reduceAdd,fillA,splice,Nat.reduceMul,al0,al1,al2,al3,al4,al5,al6,al7,al8,al9,al10,al11,al12,al13,al14,al15,al16,al17,al18,al19,al20,al21,al22,al23,al24,al25,al26,al27,al28,al29,al30,al31,al32,al33,al34,amY,op_eqP, eG, e1, e2, e3, e4, e5, e6, e7, e8, e9, e10, e11, e12, f12, hel1, e13, e14, e15, f15, hel2, p1, p2, p3, bl, e16, e17, e18, e19, e20, f20, z20, e21, e22, f22, z22, e23, e24, f24, z24, hwk]
  done
end
end Go.Proofs.YtlclbbieacjmfaaDoor
