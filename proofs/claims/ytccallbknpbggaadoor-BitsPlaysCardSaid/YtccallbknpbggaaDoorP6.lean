/- Texts of the proof: BitsS7, BitsP1, BitsP2, BitsP3, BitsP4. -/
import Derived.Test.YtccallbknpbggaaDoorP0
import Derived.Test.YtccallbknpbggaaDoorP1
import Derived.Test.YtccallbknpbggaaDoorP2
import Derived.Test.YtccallbknpbggaaDoorP3
import Derived.Test.YtccallbknpbggaaDoorP4
import Derived.Test.YtccallbknpbggaaDoorP5
set_option linter.all false
set_option maxRecDepth 100000
namespace Go.Proofs.YtccallbknpbggaaDoor
open Go.AM
abbrev k_gnomonlaw01_BitsPlays : Nat := 8
def s_gnomonlaw01_BitsPlays_r0_k : List Nat := [1, 2, 3, 4, 5, 6, 7, 8, 9, 10, 11, 12, 13, 14, 15, 16, 17, 18, 19, 20, 21, 22, 23, 24, 25, 26, 27, 28, 29, 30, 31, 32, 33, 34, 35, 36, 37, 38, 39, 40, 41, 42, 43, 44, 45, 46, 47, 48, 49, 50, 51, 52, 53, 54, 55, 56, 57, 58, 59, 60, 61, 62, 63, 64, 65, 66, 67, 68, 69, 70, 71, 72, 73, 74, 75, 76, 77, 78, 79, 80, 81, 82, 83, 84, 85, 86, 87, 88, 89, 90, 91, 92, 93, 94, 95, 96, 97, 98, 99, 100, 101, 102, 103, 104, 105, 106, 107, 108, 109, 110, 111, 112, 113, 114, 115, 116, 117, 118, 119, 120, 121, 122, 123, 124, 125, 126, 127, 128, 129, 130, 131, 132, 133, 134, 135, 136, 137, 138, 139, 140, 141, 142, 143, 144, 145, 146, 147, 148, 149, 150, 151, 152, 153, 154, 155, 156, 157, 158, 159, 160, 161, 162, 163, 164, 165, 166, 167, 168, 169, 170, 171, 172, 173, 174, 175, 176, 177, 178, 179, 180, 181, 182, 183, 184, 185, 186, 187, 188, 189, 190, 191, 192, 193, 194, 195, 196, 197, 198, 199, 200, 201, 202, 203, 204, 205, 206, 207, 208, 209, 210, 211, 212, 213, 214, 215, 216, 217, 218, 219, 220, 221, 222, 223, 224, 225, 226, 227, 228, 229, 230, 231, 232, 233, 234, 235, 236, 237, 238, 239, 240, 241, 242, 243, 244, 245, 246, 247, 248, 249, 250, 251, 252, 253, 254, 255, 256, 257, 258, 259, 260, 261, 262, 263, 264, 265, 266, 267, 268, 269, 270, 271, 272, 273, 274, 275, 276, 277, 278, 279, 280, 281, 282, 283, 284, 285, 286, 287, 288, 289, 290]
theorem s_gnomonlaw01_BitsPlays_r0_kT : killV s_gnomonlaw01_BitsPlays_r0_k (startV 291 [] 1) = [] := by kernel_rfl
theorem s_gnomonlaw01_BitsPlays_r0_kA0 : s_gnomonlaw01_BitsPlays_r0_k.contains 0 = false := by kernel_rfl
def s_gnomonlaw01_BitsPlays_r0 : List AOper := [
  ⟨some 2, (.move (.c (.s (.bool false)))), none⟩]
theorem s_gnomonlaw01_BitsPlays_r0_tale (fr : List V) (H : Heap) : evTale (symAll s_gnomonlaw01_BitsPlays_r0 s_gnomonlaw01_BitsPlays_r0_k []) s_gnomonlaw01_BitsPlays_r0_k fr H = evTale (some (3, [], [])) s_gnomonlaw01_BitsPlays_r0_k fr H := tale_row (items := [.cc (.s (.bool false))]) (by kernel_rfl) fr H
def s_gnomonlaw01_BitsPlays_r1 : List AOper := [
  ⟨some 12, (.move (.t 0)), none⟩,
  ⟨some 13, (.lenS .s (.t 12)), none⟩,
  ⟨some 14, (.bin .gtr (.t 13) (.c (.s (.int .i64 150)))), none⟩]
theorem s_gnomonlaw01_BitsPlays_r1_tale (fr : List V) (H : Heap) : evTale (symAll s_gnomonlaw01_BitsPlays_r1 [12, 13] [14]) [12, 13] fr H = evTale (some (15, [], [(14, (.op (.bin .gtr (.t 0) (.c (.s (.int .i64 150)))) [(.op (.lenS .s (.t 0)) [(.t 0)]), (.c (.s (.int .i64 150)))]))])) [12, 13] fr H := tale_row (items := [.tt 0, .sub 0 [0] [], .sub 0 [] []]) (by kernel_rfl) fr H
def s_gnomonlaw01_BitsPlays_r2t1 : List AOper := [⟨some 2, (.move (.t 15)), none⟩]
def s_gnomonlaw01_BitsPlays_r2p0 : List AOper := [⟨some 15, (.call (.c (.fn 10 [] [])) []), none⟩]
def s_gnomonlaw01_BitsPlays_r2 : List AOper := s_gnomonlaw01_BitsPlays_r2p0 ++ s_gnomonlaw01_BitsPlays_r2t1
theorem s_gnomonlaw01_BitsPlays_r2_x (call : CallF) (it : IterF) (base : Nat) (f : List V) (H : Heap) : evC call it base (.region s_gnomonlaw01_BitsPlays_r2 [] [0, 14, 15]) f H = thenC call it base (.region s_gnomonlaw01_BitsPlays_r2t1 [] [0, 14, 15]) (opsC [] s_gnomonlaw01_BitsPlays_r2p0 [0, 14] (evOps call base [⟨some 15, (.call (.c (.fn 10 [] [])) []), none⟩] f H)) := (row_op call it base s_gnomonlaw01_BitsPlays_r2p0 s_gnomonlaw01_BitsPlays_r2t1 (kc := [0, 14]) (by kernel_rfl) f H).trans (by rw [row_ops]; rfl)
theorem s_gnomonlaw01_BitsPlays_r2t1_tale (fr : List V) (H : Heap) : evTale (symAll s_gnomonlaw01_BitsPlays_r2t1 [0, 14, 15] [2]) [0, 14, 15] fr H = evTale (some (3, [], [(2, (.t 15))])) [0, 14, 15] fr H := tale_row (items := [.tt 15]) (by kernel_rfl) fr H
theorem s_gnomonlaw01_BitsPlays_r2t1_x (call : CallF) (it : IterF) (base : Nat) (f : List V) (H : Heap) : evC call it base (.region s_gnomonlaw01_BitsPlays_r2t1 [] [0, 14, 15]) f H = segL H (evTale (symAll s_gnomonlaw01_BitsPlays_r2t1 [0, 14, 15] [2]) [0, 14, 15] f H) (origRow call it base s_gnomonlaw01_BitsPlays_r2t1 [0, 14, 15] f H) := row_last call it base _ f H
def s_gnomonlaw01_BitsPlays_r3t5 : List AOper := [⟨some 3, (.move (.t 20)), none⟩]
def s_gnomonlaw01_BitsPlays_r3p4 : List AOper := [⟨some 20, (.buildSl 1 4 [(.s (.pointer none)), (.s (.pointer none)), (.s (.pointer none)), (.s (.pointer none))] [(0, (.t 16)), (1, (.t 17)), (2, (.t 18)), (3, (.t 19))]), none⟩]
def s_gnomonlaw01_BitsPlays_r3t4 : List AOper := s_gnomonlaw01_BitsPlays_r3p4 ++ s_gnomonlaw01_BitsPlays_r3t5
def s_gnomonlaw01_BitsPlays_r3p3 : List AOper := [⟨some 19, (.call (.c (.fn 11 [] [])) [(.c (.s (.slice none 0 0)))]), none⟩]
def s_gnomonlaw01_BitsPlays_r3t3 : List AOper := s_gnomonlaw01_BitsPlays_r3p3 ++ s_gnomonlaw01_BitsPlays_r3t4
def s_gnomonlaw01_BitsPlays_r3p2 : List AOper := [⟨some 18, (.call (.c (.fn 11 [] [])) [(.c (.s (.slice none 0 0)))]), none⟩]
def s_gnomonlaw01_BitsPlays_r3t2 : List AOper := s_gnomonlaw01_BitsPlays_r3p2 ++ s_gnomonlaw01_BitsPlays_r3t3
def s_gnomonlaw01_BitsPlays_r3p1 : List AOper := [⟨some 17, (.call (.c (.fn 11 [] [])) [(.c (.s (.slice none 0 0)))]), none⟩]
def s_gnomonlaw01_BitsPlays_r3t1 : List AOper := s_gnomonlaw01_BitsPlays_r3p1 ++ s_gnomonlaw01_BitsPlays_r3t2
def s_gnomonlaw01_BitsPlays_r3p0 : List AOper := [⟨some 16, (.call (.c (.fn 11 [] [])) [(.c (.s (.slice none 0 0)))]), none⟩]
def s_gnomonlaw01_BitsPlays_r3 : List AOper := s_gnomonlaw01_BitsPlays_r3p0 ++ s_gnomonlaw01_BitsPlays_r3t1
theorem s_gnomonlaw01_BitsPlays_r3_x (call : CallF) (it : IterF) (base : Nat) (f : List V) (H : Heap) : evC call it base (.region s_gnomonlaw01_BitsPlays_r3 [] [14, 16, 17, 18, 19, 20]) f H = thenC call it base (.region s_gnomonlaw01_BitsPlays_r3t1 [] [14, 16, 17, 18, 19, 20]) (opsC [] s_gnomonlaw01_BitsPlays_r3p0 [14] (evOps call base [⟨some 16, (.call (.c (.fn 11 [] [])) [(.c (.s (.slice none 0 0)))]), none⟩] f H)) := (row_op call it base s_gnomonlaw01_BitsPlays_r3p0 s_gnomonlaw01_BitsPlays_r3t1 (kc := [14]) (by kernel_rfl) f H).trans (by rw [row_ops]; rfl)
theorem s_gnomonlaw01_BitsPlays_r3t1_x (call : CallF) (it : IterF) (base : Nat) (f : List V) (H : Heap) : evC call it base (.region s_gnomonlaw01_BitsPlays_r3t1 [] [14, 16, 17, 18, 19, 20]) f H = thenC call it base (.region s_gnomonlaw01_BitsPlays_r3t2 [] [14, 16, 17, 18, 19, 20]) (opsC [] s_gnomonlaw01_BitsPlays_r3p1 [] (evOps call base [⟨some 17, (.call (.c (.fn 11 [] [])) [(.c (.s (.slice none 0 0)))]), none⟩] f H)) := (row_op call it base s_gnomonlaw01_BitsPlays_r3p1 s_gnomonlaw01_BitsPlays_r3t2 (kc := []) (by kernel_rfl) f H).trans (by rw [row_ops]; rfl)
theorem s_gnomonlaw01_BitsPlays_r3t2_x (call : CallF) (it : IterF) (base : Nat) (f : List V) (H : Heap) : evC call it base (.region s_gnomonlaw01_BitsPlays_r3t2 [] [14, 16, 17, 18, 19, 20]) f H = thenC call it base (.region s_gnomonlaw01_BitsPlays_r3t3 [] [14, 16, 17, 18, 19, 20]) (opsC [] s_gnomonlaw01_BitsPlays_r3p2 [] (evOps call base [⟨some 18, (.call (.c (.fn 11 [] [])) [(.c (.s (.slice none 0 0)))]), none⟩] f H)) := (row_op call it base s_gnomonlaw01_BitsPlays_r3p2 s_gnomonlaw01_BitsPlays_r3t3 (kc := []) (by kernel_rfl) f H).trans (by rw [row_ops]; rfl)
theorem s_gnomonlaw01_BitsPlays_r3t3_x (call : CallF) (it : IterF) (base : Nat) (f : List V) (H : Heap) : evC call it base (.region s_gnomonlaw01_BitsPlays_r3t3 [] [14, 16, 17, 18, 19, 20]) f H = thenC call it base (.region s_gnomonlaw01_BitsPlays_r3t4 [] [14, 16, 17, 18, 19, 20]) (opsC [] s_gnomonlaw01_BitsPlays_r3p3 [] (evOps call base [⟨some 19, (.call (.c (.fn 11 [] [])) [(.c (.s (.slice none 0 0)))]), none⟩] f H)) := (row_op call it base s_gnomonlaw01_BitsPlays_r3p3 s_gnomonlaw01_BitsPlays_r3t4 (kc := []) (by kernel_rfl) f H).trans (by rw [row_ops]; rfl)
theorem s_gnomonlaw01_BitsPlays_r3t4_x (call : CallF) (it : IterF) (base : Nat) (f : List V) (H : Heap) : evC call it base (.region s_gnomonlaw01_BitsPlays_r3t4 [] [14, 16, 17, 18, 19, 20]) f H = thenC call it base (.region s_gnomonlaw01_BitsPlays_r3t5 [] [14, 16, 17, 18, 19, 20]) (opsC [] s_gnomonlaw01_BitsPlays_r3p4 [16, 17, 18, 19] (evOps call base [⟨some 20, (.buildSl 1 4 [(.s (.pointer none)), (.s (.pointer none)), (.s (.pointer none)), (.s (.pointer none))] [(0, (.t 16)), (1, (.t 17)), (2, (.t 18)), (3, (.t 19))]), none⟩] f H)) := (row_op call it base s_gnomonlaw01_BitsPlays_r3p4 s_gnomonlaw01_BitsPlays_r3t5 (kc := [16, 17, 18, 19]) (by kernel_rfl) f H).trans (by rw [row_ops]; rfl)
theorem s_gnomonlaw01_BitsPlays_r3t5_tale (fr : List V) (H : Heap) : evTale (symAll s_gnomonlaw01_BitsPlays_r3t5 [14, 16, 17, 18, 19, 20] [3]) [14, 16, 17, 18, 19, 20] fr H = evTale (some (4, [], [(3, (.t 20))])) [14, 16, 17, 18, 19, 20] fr H := tale_row (items := [.tt 20]) (by kernel_rfl) fr H
theorem s_gnomonlaw01_BitsPlays_r3t5_x (call : CallF) (it : IterF) (base : Nat) (f : List V) (H : Heap) : evC call it base (.region s_gnomonlaw01_BitsPlays_r3t5 [] [14, 16, 17, 18, 19, 20]) f H = segL H (evTale (symAll s_gnomonlaw01_BitsPlays_r3t5 [14, 16, 17, 18, 19, 20] [3]) [14, 16, 17, 18, 19, 20] f H) (origRow call it base s_gnomonlaw01_BitsPlays_r3t5 [14, 16, 17, 18, 19, 20] f H) := row_last call it base _ f H
def s_gnomonlaw01_BitsPlays_r4t1 : List AOper := [⟨some 4, (.move (.t 21)), none⟩]
def s_gnomonlaw01_BitsPlays_r4p0 : List AOper := [⟨some 21, (.mkSl [(.s (.slice none 0 0))] 1 24 (.c (.s (.int .i64 4))) (.c (.s (.int .i64 4)))), none⟩]
def s_gnomonlaw01_BitsPlays_r4 : List AOper := s_gnomonlaw01_BitsPlays_r4p0 ++ s_gnomonlaw01_BitsPlays_r4t1
theorem s_gnomonlaw01_BitsPlays_r4_x (call : CallF) (it : IterF) (base : Nat) (f : List V) (H : Heap) : evC call it base (.region s_gnomonlaw01_BitsPlays_r4 [] [21]) f H = thenC call it base (.region s_gnomonlaw01_BitsPlays_r4t1 [] [21]) (opsC [] s_gnomonlaw01_BitsPlays_r4p0 [] (evOps call base [⟨some 21, (.mkSl [(.s (.slice none 0 0))] 1 24 (.c (.s (.int .i64 4))) (.c (.s (.int .i64 4)))), none⟩] f H)) := (row_op call it base s_gnomonlaw01_BitsPlays_r4p0 s_gnomonlaw01_BitsPlays_r4t1 (kc := []) (by kernel_rfl) f H).trans (by rw [row_ops]; rfl)
theorem s_gnomonlaw01_BitsPlays_r4t1_tale (fr : List V) (H : Heap) : evTale (symAll s_gnomonlaw01_BitsPlays_r4t1 [21] [4]) [21] fr H = evTale (some (5, [], [(4, (.t 21))])) [21] fr H := tale_row (items := [.tt 21]) (by kernel_rfl) fr H
theorem s_gnomonlaw01_BitsPlays_r4t1_x (call : CallF) (it : IterF) (base : Nat) (f : List V) (H : Heap) : evC call it base (.region s_gnomonlaw01_BitsPlays_r4t1 [] [21]) f H = segL H (evTale (symAll s_gnomonlaw01_BitsPlays_r4t1 [21] [4]) [21] f H) (origRow call it base s_gnomonlaw01_BitsPlays_r4t1 [21] f H) := row_last call it base _ f H
def s_gnomonlaw01_BitsPlays_r5 : List AOper := [
  ⟨some 5, (.move (.c (.s (.int .i64 0)))), none⟩]
theorem s_gnomonlaw01_BitsPlays_r5_tale (fr : List V) (H : Heap) : evTale (symAll s_gnomonlaw01_BitsPlays_r5 [] [5]) [] fr H = evTale (some (6, [], [(5, (.c (.s (.int .i64 0))))])) [] fr H := tale_row (items := [.cc (.s (.int .i64 0))]) (by kernel_rfl) fr H
def s_gnomonlaw01_BitsPlays_r6 : List AOper := [
  ⟨some 22, (.move (.t 5)), none⟩,
  ⟨some 23, (.move (.t 0)), none⟩,
  ⟨some 24, (.lenS .s (.t 23)), none⟩,
  ⟨some 25, (.bin .lss (.t 22) (.t 24)), none⟩]
theorem s_gnomonlaw01_BitsPlays_r6_tale (fr : List V) (H : Heap) : evTale (symAll s_gnomonlaw01_BitsPlays_r6 [22, 23, 24] [25]) [22, 23, 24] fr H = evTale (some (26, [], [(25, (.op (.bin .lss (.t 0) (.t 1)) [(.t 5), (.op (.lenS .s (.t 0)) [(.t 0)])]))])) [22, 23, 24] fr H := tale_row (items := [.tt 5, .tt 0, .sub 0 [1] [], .sub 0 [] []]) (by kernel_rfl) fr H
def s_gnomonlaw01_BitsPlays_r7t2 : List AOper := [⟨none, (.store 4 (.t 6) (.t 31)), none⟩]
def s_gnomonlaw01_BitsPlays_r7p1 : List AOper := [⟨some 6, (.alloc [(.s (.int .i64 0)), (.s (.int .i64 0)), (.s (.int .i64 0)), (.s (.int .i64 0))]), none⟩]
def s_gnomonlaw01_BitsPlays_r7t1 : List AOper := s_gnomonlaw01_BitsPlays_r7p1 ++ s_gnomonlaw01_BitsPlays_r7t2
def s_gnomonlaw01_BitsPlays_r7p0 : List AOper := [⟨some 28, (.move (.t 0)), none⟩, ⟨some 29, (.move (.t 5)), none⟩, ⟨some 30, (.indexAddr 4 (.t 28) (.t 29)), none⟩, ⟨some 31, (.load true 4 (.t 30)), none⟩]
def s_gnomonlaw01_BitsPlays_r7 : List AOper := s_gnomonlaw01_BitsPlays_r7p0 ++ s_gnomonlaw01_BitsPlays_r7t1
theorem s_gnomonlaw01_BitsPlays_r7p0_tale (fr : List V) (H : Heap) : evTale (symAll s_gnomonlaw01_BitsPlays_r7p0 [25, 28, 29, 30] [31]) [25, 28, 29, 30] fr H = evTale (some (32, [], [(31, (.op (.load true 4 (.t 0)) [(.op (.indexAddr 4 (.t 0) (.t 1)) [(.t 0), (.t 5)])]))])) [25, 28, 29, 30] fr H := tale_row (items := [.tt 0, .tt 5, .sub 0 [0] [], .sub 0 [] []]) (by kernel_rfl) fr H
theorem s_gnomonlaw01_BitsPlays_r7_x (call : CallF) (it : IterF) (base : Nat) (f : List V) (H : Heap) : evC call it base (.region s_gnomonlaw01_BitsPlays_r7 [] [25, 28, 29, 30, 31]) f H = segC call it base s_gnomonlaw01_BitsPlays_r7t1 [25, 28, 29, 30, 31] H (evTale (symAll s_gnomonlaw01_BitsPlays_r7p0 [25, 28, 29, 30] [31]) [25, 28, 29, 30] f H) (origRow call it base s_gnomonlaw01_BitsPlays_r7 [25, 28, 29, 30, 31] f H) := row_seg call it base s_gnomonlaw01_BitsPlays_r7p0 s_gnomonlaw01_BitsPlays_r7t1 (by kernel_rfl) f H
theorem s_gnomonlaw01_BitsPlays_r7t1_x (call : CallF) (it : IterF) (base : Nat) (f : List V) (H : Heap) : evC call it base (.region s_gnomonlaw01_BitsPlays_r7t1 [] [25, 28, 29, 30, 31]) f H = thenC call it base (.region s_gnomonlaw01_BitsPlays_r7t2 [] [25, 28, 29, 30, 31]) (opsC [] s_gnomonlaw01_BitsPlays_r7p1 [] (evOps call base [⟨some 6, (.alloc [(.s (.int .i64 0)), (.s (.int .i64 0)), (.s (.int .i64 0)), (.s (.int .i64 0))]), none⟩] f H)) := (row_op call it base s_gnomonlaw01_BitsPlays_r7p1 s_gnomonlaw01_BitsPlays_r7t2 (kc := []) (by kernel_rfl) f H).trans (by rw [row_ops]; rfl)
theorem s_gnomonlaw01_BitsPlays_r7t2_x (call : CallF) (it : IterF) (base : Nat) (f : List V) (H : Heap) : evC call it base (.region s_gnomonlaw01_BitsPlays_r7t2 [] [25, 28, 29, 30, 31]) f H = opsC [] s_gnomonlaw01_BitsPlays_r7t2 [25, 28, 29, 30, 31] (evOps call base [⟨none, (.store 4 (.t 6) (.t 31)), none⟩] f H) := row_ops call it base _ _ f H
def s_gnomonlaw01_BitsPlays_r8t4 : List AOper := [⟨some 7, (.move (.t 34)), none⟩, ⟨some 8, (.move (.t 37)), none⟩]
def s_gnomonlaw01_BitsPlays_r8p3 : List AOper := [⟨some 37, (.call (.c (.fn 13 [] [])) [(.t 36), (.c (.s (.int .i64 4)))]), none⟩]
def s_gnomonlaw01_BitsPlays_r8t3 : List AOper := s_gnomonlaw01_BitsPlays_r8p3 ++ s_gnomonlaw01_BitsPlays_r8t4
def s_gnomonlaw01_BitsPlays_r8p2 : List AOper := [⟨some 35, (.fieldAddr 2 (.t 6)), none⟩, ⟨some 36, (.load false 1 (.t 35)), none⟩]
def s_gnomonlaw01_BitsPlays_r8t2 : List AOper := s_gnomonlaw01_BitsPlays_r8p2 ++ s_gnomonlaw01_BitsPlays_r8t3
def s_gnomonlaw01_BitsPlays_r8p1 : List AOper := [⟨some 34, (.callR (.c (.fn 13 [] [])) [(.t 33), (.c (.s (.int .i64 4)))]), none⟩]
def s_gnomonlaw01_BitsPlays_r8t1 : List AOper := s_gnomonlaw01_BitsPlays_r8p1 ++ s_gnomonlaw01_BitsPlays_r8t2
def s_gnomonlaw01_BitsPlays_r8p0 : List AOper := [⟨some 32, (.fieldAddr 1 (.t 6)), none⟩, ⟨some 33, (.load false 1 (.t 32)), none⟩]
def s_gnomonlaw01_BitsPlays_r8 : List AOper := s_gnomonlaw01_BitsPlays_r8p0 ++ s_gnomonlaw01_BitsPlays_r8t1
theorem s_gnomonlaw01_BitsPlays_r8p0_tale (fr : List V) (H : Heap) : evTale (symAll s_gnomonlaw01_BitsPlays_r8p0 [32] [33]) [32] fr H = evTale (some (34, [], [(33, (.op (.load false 1 (.t 0)) [(.op (.fieldAddr 1 (.t 0)) [(.t 6)])]))])) [32] fr H := tale_row (items := [.sub 0 [0] [], .sub 0 [] []]) (by kernel_rfl) fr H
theorem s_gnomonlaw01_BitsPlays_r8_x (call : CallF) (it : IterF) (base : Nat) (f : List V) (H : Heap) : evC call it base (.region s_gnomonlaw01_BitsPlays_r8 [] [32, 33, 34, 35, 36, 37]) f H = segC call it base s_gnomonlaw01_BitsPlays_r8t1 [32, 33, 34, 35, 36, 37] H (evTale (symAll s_gnomonlaw01_BitsPlays_r8p0 [32] [33]) [32] f H) (origRow call it base s_gnomonlaw01_BitsPlays_r8 [32, 33, 34, 35, 36, 37] f H) := row_seg call it base s_gnomonlaw01_BitsPlays_r8p0 s_gnomonlaw01_BitsPlays_r8t1 (by kernel_rfl) f H
theorem s_gnomonlaw01_BitsPlays_r8t1_x (call : CallF) (it : IterF) (base : Nat) (f : List V) (H : Heap) : evC call it base (.region s_gnomonlaw01_BitsPlays_r8t1 [] [32, 33, 34, 35, 36, 37]) f H = thenC call it base (.region s_gnomonlaw01_BitsPlays_r8t2 [] [32, 33, 34, 35, 36, 37]) (opsC [] s_gnomonlaw01_BitsPlays_r8p1 [33] (evOps call base [⟨some 34, (.callR (.c (.fn 13 [] [])) [(.t 33), (.c (.s (.int .i64 4)))]), none⟩] f H)) := (row_op call it base s_gnomonlaw01_BitsPlays_r8p1 s_gnomonlaw01_BitsPlays_r8t2 (kc := [33]) (by kernel_rfl) f H).trans (by rw [row_ops]; rfl)
theorem s_gnomonlaw01_BitsPlays_r8p2_tale (fr : List V) (H : Heap) : evTale (symAll s_gnomonlaw01_BitsPlays_r8p2 [35] [36]) [35] fr H = evTale (some (37, [], [(36, (.op (.load false 1 (.t 0)) [(.op (.fieldAddr 2 (.t 0)) [(.t 6)])]))])) [35] fr H := tale_row (items := [.sub 0 [0] [], .sub 0 [] []]) (by kernel_rfl) fr H
theorem s_gnomonlaw01_BitsPlays_r8t2_x (call : CallF) (it : IterF) (base : Nat) (f : List V) (H : Heap) : evC call it base (.region s_gnomonlaw01_BitsPlays_r8t2 [] [32, 33, 34, 35, 36, 37]) f H = segC call it base s_gnomonlaw01_BitsPlays_r8t3 [32, 33, 34, 35, 36, 37] H (evTale (symAll s_gnomonlaw01_BitsPlays_r8p2 [35] [36]) [35] f H) (origRow call it base s_gnomonlaw01_BitsPlays_r8t2 [32, 33, 34, 35, 36, 37] f H) := row_seg call it base s_gnomonlaw01_BitsPlays_r8p2 s_gnomonlaw01_BitsPlays_r8t3 (by kernel_rfl) f H
theorem s_gnomonlaw01_BitsPlays_r8t3_x (call : CallF) (it : IterF) (base : Nat) (f : List V) (H : Heap) : evC call it base (.region s_gnomonlaw01_BitsPlays_r8t3 [] [32, 33, 34, 35, 36, 37]) f H = thenC call it base (.region s_gnomonlaw01_BitsPlays_r8t4 [] [32, 33, 34, 35, 36, 37]) (opsC [] s_gnomonlaw01_BitsPlays_r8p3 [36] (evOps call base [⟨some 37, (.call (.c (.fn 13 [] [])) [(.t 36), (.c (.s (.int .i64 4)))]), none⟩] f H)) := (row_op call it base s_gnomonlaw01_BitsPlays_r8p3 s_gnomonlaw01_BitsPlays_r8t4 (kc := [36]) (by kernel_rfl) f H).trans (by rw [row_ops]; rfl)
theorem s_gnomonlaw01_BitsPlays_r8t4_tale (fr : List V) (H : Heap) : evTale (symAll s_gnomonlaw01_BitsPlays_r8t4 [32, 33, 34, 35, 36, 37] [7, 8]) [32, 33, 34, 35, 36, 37] fr H = evTale (some (9, [], [(7, (.t 34)), (8, (.t 37))])) [32, 33, 34, 35, 36, 37] fr H := tale_row (items := [.tt 34, .tt 37]) (by kernel_rfl) fr H
theorem s_gnomonlaw01_BitsPlays_r8t4_x (call : CallF) (it : IterF) (base : Nat) (f : List V) (H : Heap) : evC call it base (.region s_gnomonlaw01_BitsPlays_r8t4 [] [32, 33, 34, 35, 36, 37]) f H = segL H (evTale (symAll s_gnomonlaw01_BitsPlays_r8t4 [32, 33, 34, 35, 36, 37] [7, 8]) [32, 33, 34, 35, 36, 37] f H) (origRow call it base s_gnomonlaw01_BitsPlays_r8t4 [32, 33, 34, 35, 36, 37] f H) := row_last call it base _ f H
def s_gnomonlaw01_BitsPlays_r9 : List AOper := [
  ⟨some 38, (.move (.t 4)), none⟩,
  ⟨some 39, (.move (.t 7)), none⟩,
  ⟨some 40, (.indexAddr 1 (.t 38) (.t 39)), none⟩,
  ⟨some 41, (.load false 1 (.t 40)), none⟩,
  ⟨some 9, (.move (.t 41)), none⟩]
theorem s_gnomonlaw01_BitsPlays_r9_tale (fr : List V) (H : Heap) : evTale (symAll s_gnomonlaw01_BitsPlays_r9 [38, 39, 40, 41] [9]) [38, 39, 40, 41] fr H = evTale (some (42, [], [(9, (.op (.load false 1 (.t 0)) [(.op (.indexAddr 1 (.t 0) (.t 1)) [(.t 4), (.t 7)])]))])) [38, 39, 40, 41] fr H := tale_row (items := [.tt 4, .tt 7, .sub 0 [0] [], .sub 0 [] [], .sub 0 [] []]) (by kernel_rfl) fr H
def s_gnomonlaw01_BitsPlays_r10 : List AOper := [
  ⟨some 10, (.move (.c (.s (.bool true)))), none⟩]
theorem s_gnomonlaw01_BitsPlays_r10_tale (fr : List V) (H : Heap) : evTale (symAll s_gnomonlaw01_BitsPlays_r10 [] [10]) [] fr H = evTale (some (11, [], [(10, (.c (.s (.bool true))))])) [] fr H := tale_row (items := [.cc (.s (.bool true))]) (by kernel_rfl) fr H
def s_gnomonlaw01_BitsPlays_r11 : List AOper := [
  ⟨some 42, (.fieldAddr 0 (.t 6)), none⟩,
  ⟨some 43, (.load false 1 (.t 42)), none⟩]
theorem s_gnomonlaw01_BitsPlays_r11_tale (fr : List V) (H : Heap) : evTale (symAll s_gnomonlaw01_BitsPlays_r11 [42] [43]) [42] fr H = evTale (some (44, [], [(43, (.op (.load false 1 (.t 0)) [(.op (.fieldAddr 0 (.t 0)) [(.t 6)])]))])) [42] fr H := tale_row (items := [.sub 0 [0] [], .sub 0 [] []]) (by kernel_rfl) fr H
def s_gnomonlaw01_BitsPlays_r12 : List AOper := [
  ⟨some 73, (.bin .eql (.t 43) (.c (.s (.int .i64 0)))), none⟩,
  ⟨some 72, (.move (.t 73)), none⟩]
theorem s_gnomonlaw01_BitsPlays_r12_tale (fr : List V) (H : Heap) : evTale (symAll s_gnomonlaw01_BitsPlays_r12 [73] [72]) [73] fr H = evTale (some (74, [], [(72, (.op (.bin .eql (.t 0) (.c (.s (.int .i64 0)))) [(.t 43), (.c (.s (.int .i64 0)))]))])) [73] fr H := tale_row (items := [.sub 0 [] [], .sub 0 [] []]) (by kernel_rfl) fr H
def s_gnomonlaw01_BitsPlays_r13t3 : List AOper := [⟨none, (.store 1 (.t 83) (.t 82)), none⟩]
def s_gnomonlaw01_BitsPlays_r13p2 : List AOper := [⟨some 83, (.indexAddr 1 (.t 74) (.t 75)), none⟩]
def s_gnomonlaw01_BitsPlays_r13t2 : List AOper := s_gnomonlaw01_BitsPlays_r13p2 ++ s_gnomonlaw01_BitsPlays_r13t3
def s_gnomonlaw01_BitsPlays_r13p1 : List AOper := [⟨some 82, (.call (.c (.fn 26 [] [])) [(.t 79), (.t 81)]), none⟩]
def s_gnomonlaw01_BitsPlays_r13t1 : List AOper := s_gnomonlaw01_BitsPlays_r13p1 ++ s_gnomonlaw01_BitsPlays_r13t2
def s_gnomonlaw01_BitsPlays_r13p0 : List AOper := [⟨some 74, (.move (.t 4)), none⟩, ⟨some 75, (.move (.t 7)), none⟩, ⟨some 76, (.move (.t 4)), none⟩, ⟨some 77, (.move (.t 7)), none⟩, ⟨some 78, (.indexAddr 1 (.t 76) (.t 77)), none⟩, ⟨some 79, (.load false 1 (.t 78)), none⟩, ⟨some 80, (.fieldAddr 3 (.t 6)), none⟩, ⟨some 81, (.load false 1 (.t 80)), none⟩]
def s_gnomonlaw01_BitsPlays_r13 : List AOper := s_gnomonlaw01_BitsPlays_r13p0 ++ s_gnomonlaw01_BitsPlays_r13t1
theorem s_gnomonlaw01_BitsPlays_r13p0_tale (fr : List V) (H : Heap) : evTale (symAll s_gnomonlaw01_BitsPlays_r13p0 [10, 43, 72, 76, 77, 78, 80] [74, 75, 79, 81]) [10, 43, 72, 76, 77, 78, 80] fr H = evTale (some (82, [], [(74, (.t 4)), (75, (.t 7)), (79, (.op (.load false 1 (.t 0)) [(.op (.indexAddr 1 (.t 0) (.t 1)) [(.t 4), (.t 7)])])), (81, (.op (.load false 1 (.t 0)) [(.op (.fieldAddr 3 (.t 0)) [(.t 6)])]))])) [10, 43, 72, 76, 77, 78, 80] fr H := tale_row (items := [.tt 4, .tt 7, .tt 4, .tt 7, .sub 2 [0] [], .sub 2 [] [], .sub 3 [0] [], .sub 3 [] []]) (by kernel_rfl) fr H
theorem s_gnomonlaw01_BitsPlays_r13_x (call : CallF) (it : IterF) (base : Nat) (f : List V) (H : Heap) : evC call it base (.region s_gnomonlaw01_BitsPlays_r13 [] [10, 43, 72, 74, 75, 76, 77, 78, 79, 80, 81, 82, 83]) f H = segC call it base s_gnomonlaw01_BitsPlays_r13t1 [10, 43, 72, 74, 75, 76, 77, 78, 79, 80, 81, 82, 83] H (evTale (symAll s_gnomonlaw01_BitsPlays_r13p0 [10, 43, 72, 76, 77, 78, 80] [74, 75, 79, 81]) [10, 43, 72, 76, 77, 78, 80] f H) (origRow call it base s_gnomonlaw01_BitsPlays_r13 [10, 43, 72, 74, 75, 76, 77, 78, 79, 80, 81, 82, 83] f H) := row_seg call it base s_gnomonlaw01_BitsPlays_r13p0 s_gnomonlaw01_BitsPlays_r13t1 (by kernel_rfl) f H
theorem s_gnomonlaw01_BitsPlays_r13t1_x (call : CallF) (it : IterF) (base : Nat) (f : List V) (H : Heap) : evC call it base (.region s_gnomonlaw01_BitsPlays_r13t1 [] [10, 43, 72, 74, 75, 76, 77, 78, 79, 80, 81, 82, 83]) f H = thenC call it base (.region s_gnomonlaw01_BitsPlays_r13t2 [] [10, 43, 72, 74, 75, 76, 77, 78, 79, 80, 81, 82, 83]) (opsC [] s_gnomonlaw01_BitsPlays_r13p1 [79, 81] (evOps call base [⟨some 82, (.call (.c (.fn 26 [] [])) [(.t 79), (.t 81)]), none⟩] f H)) := (row_op call it base s_gnomonlaw01_BitsPlays_r13p1 s_gnomonlaw01_BitsPlays_r13t2 (kc := [79, 81]) (by kernel_rfl) f H).trans (by rw [row_ops]; rfl)
theorem s_gnomonlaw01_BitsPlays_r13p2_tale (fr : List V) (H : Heap) : evTale (symAll s_gnomonlaw01_BitsPlays_r13p2 [74, 75] [83]) [74, 75] fr H = evTale (some (84, [], [(83, (.op (.indexAddr 1 (.t 0) (.t 1)) [(.t 74), (.t 75)]))])) [74, 75] fr H := tale_row (items := [.sub 0 [] []]) (by kernel_rfl) fr H
theorem s_gnomonlaw01_BitsPlays_r13t2_x (call : CallF) (it : IterF) (base : Nat) (f : List V) (H : Heap) : evC call it base (.region s_gnomonlaw01_BitsPlays_r13t2 [] [10, 43, 72, 74, 75, 76, 77, 78, 79, 80, 81, 82, 83]) f H = segC call it base s_gnomonlaw01_BitsPlays_r13t3 [10, 43, 72, 74, 75, 76, 77, 78, 79, 80, 81, 82, 83] H (evTale (symAll s_gnomonlaw01_BitsPlays_r13p2 [74, 75] [83]) [74, 75] f H) (origRow call it base s_gnomonlaw01_BitsPlays_r13t2 [10, 43, 72, 74, 75, 76, 77, 78, 79, 80, 81, 82, 83] f H) := row_seg call it base s_gnomonlaw01_BitsPlays_r13p2 s_gnomonlaw01_BitsPlays_r13t3 (by kernel_rfl) f H
theorem s_gnomonlaw01_BitsPlays_r13t3_x (call : CallF) (it : IterF) (base : Nat) (f : List V) (H : Heap) : evC call it base (.region s_gnomonlaw01_BitsPlays_r13t3 [] [10, 43, 72, 74, 75, 76, 77, 78, 79, 80, 81, 82, 83]) f H = opsC [] s_gnomonlaw01_BitsPlays_r13t3 [10, 43, 72, 74, 75, 76, 77, 78, 79, 80, 81, 82, 83] (evOps call base [⟨none, (.store 1 (.t 83) (.t 82)), none⟩] f H) := row_ops call it base _ _ f H
def s_gnomonlaw01_BitsPlays_r14 : List AOper := [
  ⟨some 84, (.move (.t 3)), none⟩,
  ⟨some 85, (.move (.t 7)), none⟩,
  ⟨some 86, (.indexAddr 1 (.t 84) (.t 85)), none⟩,
  ⟨some 87, (.load false 1 (.t 86)), none⟩,
  ⟨some 88, (.fieldAddr 3 (.t 6)), none⟩,
  ⟨some 89, (.load false 1 (.t 88)), none⟩,
  ⟨some 90, (.call (.c (.fn 12 [] [])) [(.t 87), (.t 89)]), none⟩,
  ⟨some 91, (.move (.t 4)), none⟩,
  ⟨some 92, (.move (.t 7)), none⟩,
  ⟨some 93, (.indexAddr 1 (.t 91) (.t 92)), none⟩,
  ⟨some 94, (.load false 1 (.t 93)), none⟩,
  ⟨some 95, (.lenS .s (.t 94)), none⟩,
  ⟨some 96, (.move (.t 9)), none⟩,
  ⟨some 97, (.lenS .s (.t 96)), none⟩,
  ⟨some 98, (.bin .gtr (.t 95) (.t 97)), none⟩,
  ⟨some 99, (.eqB false (.t 90) (.t 98)), none⟩,
  ⟨some 10, (.move (.t 99)), none⟩]
def s_gnomonlaw01_BitsPlays_r15 : List AOper := [
  ⟨some 101, (.bin .eql (.t 43) (.c (.s (.int .i64 1)))), none⟩,
  ⟨some 100, (.move (.t 101)), none⟩]
theorem s_gnomonlaw01_BitsPlays_r15_tale (fr : List V) (H : Heap) : evTale (symAll s_gnomonlaw01_BitsPlays_r15 [72, 101] [100]) [72, 101] fr H = evTale (some (102, [], [(100, (.op (.bin .eql (.t 0) (.c (.s (.int .i64 1)))) [(.t 43), (.c (.s (.int .i64 1)))]))])) [72, 101] fr H := tale_row (items := [.sub 0 [] [], .sub 0 [] []]) (by kernel_rfl) fr H
def s_gnomonlaw01_BitsPlays_r16t4 : List AOper := [⟨none, (.store 1 (.t 112) (.t 111)), none⟩]
def s_gnomonlaw01_BitsPlays_r16p3 : List AOper := [⟨some 112, (.indexAddr 1 (.t 102) (.t 103)), none⟩]
def s_gnomonlaw01_BitsPlays_r16t3 : List AOper := s_gnomonlaw01_BitsPlays_r16p3 ++ s_gnomonlaw01_BitsPlays_r16t4
def s_gnomonlaw01_BitsPlays_r16p2 : List AOper := [⟨some 111, (.call (.c (.fn 27 [] [])) [(.t 107), (.t 110), (.c (.s (.bool false)))]), none⟩]
def s_gnomonlaw01_BitsPlays_r16t2 : List AOper := s_gnomonlaw01_BitsPlays_r16p2 ++ s_gnomonlaw01_BitsPlays_r16t3
def s_gnomonlaw01_BitsPlays_r16p1 : List AOper := [⟨some 110, (.buildSl 1 1 [(.s (.int .i64 0))] [(0, (.t 109))]), none⟩]
def s_gnomonlaw01_BitsPlays_r16t1 : List AOper := s_gnomonlaw01_BitsPlays_r16p1 ++ s_gnomonlaw01_BitsPlays_r16t2
def s_gnomonlaw01_BitsPlays_r16p0 : List AOper := [⟨some 102, (.move (.t 4)), none⟩, ⟨some 103, (.move (.t 7)), none⟩, ⟨some 104, (.move (.t 4)), none⟩, ⟨some 105, (.move (.t 7)), none⟩, ⟨some 106, (.indexAddr 1 (.t 104) (.t 105)), none⟩, ⟨some 107, (.load false 1 (.t 106)), none⟩, ⟨some 108, (.fieldAddr 3 (.t 6)), none⟩, ⟨some 109, (.load false 1 (.t 108)), none⟩]
def s_gnomonlaw01_BitsPlays_r16 : List AOper := s_gnomonlaw01_BitsPlays_r16p0 ++ s_gnomonlaw01_BitsPlays_r16t1
theorem s_gnomonlaw01_BitsPlays_r16p0_tale (fr : List V) (H : Heap) : evTale (symAll s_gnomonlaw01_BitsPlays_r16p0 [10, 43, 100, 104, 105, 106, 108] [102, 103, 107, 109]) [10, 43, 100, 104, 105, 106, 108] fr H = evTale (some (110, [], [(102, (.t 4)), (103, (.t 7)), (107, (.op (.load false 1 (.t 0)) [(.op (.indexAddr 1 (.t 0) (.t 1)) [(.t 4), (.t 7)])])), (109, (.op (.load false 1 (.t 0)) [(.op (.fieldAddr 3 (.t 0)) [(.t 6)])]))])) [10, 43, 100, 104, 105, 106, 108] fr H := tale_row (items := [.tt 4, .tt 7, .tt 4, .tt 7, .sub 2 [0] [], .sub 2 [] [], .sub 3 [0] [], .sub 3 [] []]) (by kernel_rfl) fr H
theorem s_gnomonlaw01_BitsPlays_r16_x (call : CallF) (it : IterF) (base : Nat) (f : List V) (H : Heap) : evC call it base (.region s_gnomonlaw01_BitsPlays_r16 [] [10, 43, 100, 102, 103, 104, 105, 106, 107, 108, 109, 110, 111, 112]) f H = segC call it base s_gnomonlaw01_BitsPlays_r16t1 [10, 43, 100, 102, 103, 104, 105, 106, 107, 108, 109, 110, 111, 112] H (evTale (symAll s_gnomonlaw01_BitsPlays_r16p0 [10, 43, 100, 104, 105, 106, 108] [102, 103, 107, 109]) [10, 43, 100, 104, 105, 106, 108] f H) (origRow call it base s_gnomonlaw01_BitsPlays_r16 [10, 43, 100, 102, 103, 104, 105, 106, 107, 108, 109, 110, 111, 112] f H) := row_seg call it base s_gnomonlaw01_BitsPlays_r16p0 s_gnomonlaw01_BitsPlays_r16t1 (by kernel_rfl) f H
theorem s_gnomonlaw01_BitsPlays_r16t1_x (call : CallF) (it : IterF) (base : Nat) (f : List V) (H : Heap) : evC call it base (.region s_gnomonlaw01_BitsPlays_r16t1 [] [10, 43, 100, 102, 103, 104, 105, 106, 107, 108, 109, 110, 111, 112]) f H = thenC call it base (.region s_gnomonlaw01_BitsPlays_r16t2 [] [10, 43, 100, 102, 103, 104, 105, 106, 107, 108, 109, 110, 111, 112]) (opsC [] s_gnomonlaw01_BitsPlays_r16p1 [109] (evOps call base [⟨some 110, (.buildSl 1 1 [(.s (.int .i64 0))] [(0, (.t 109))]), none⟩] f H)) := (row_op call it base s_gnomonlaw01_BitsPlays_r16p1 s_gnomonlaw01_BitsPlays_r16t2 (kc := [109]) (by kernel_rfl) f H).trans (by rw [row_ops]; rfl)
theorem s_gnomonlaw01_BitsPlays_r16t2_x (call : CallF) (it : IterF) (base : Nat) (f : List V) (H : Heap) : evC call it base (.region s_gnomonlaw01_BitsPlays_r16t2 [] [10, 43, 100, 102, 103, 104, 105, 106, 107, 108, 109, 110, 111, 112]) f H = thenC call it base (.region s_gnomonlaw01_BitsPlays_r16t3 [] [10, 43, 100, 102, 103, 104, 105, 106, 107, 108, 109, 110, 111, 112]) (opsC [] s_gnomonlaw01_BitsPlays_r16p2 [107, 110] (evOps call base [⟨some 111, (.call (.c (.fn 27 [] [])) [(.t 107), (.t 110), (.c (.s (.bool false)))]), none⟩] f H)) := (row_op call it base s_gnomonlaw01_BitsPlays_r16p2 s_gnomonlaw01_BitsPlays_r16t3 (kc := [107, 110]) (by kernel_rfl) f H).trans (by rw [row_ops]; rfl)
theorem s_gnomonlaw01_BitsPlays_r16p3_tale (fr : List V) (H : Heap) : evTale (symAll s_gnomonlaw01_BitsPlays_r16p3 [102, 103] [112]) [102, 103] fr H = evTale (some (113, [], [(112, (.op (.indexAddr 1 (.t 0) (.t 1)) [(.t 102), (.t 103)]))])) [102, 103] fr H := tale_row (items := [.sub 0 [] []]) (by kernel_rfl) fr H
theorem s_gnomonlaw01_BitsPlays_r16t3_x (call : CallF) (it : IterF) (base : Nat) (f : List V) (H : Heap) : evC call it base (.region s_gnomonlaw01_BitsPlays_r16t3 [] [10, 43, 100, 102, 103, 104, 105, 106, 107, 108, 109, 110, 111, 112]) f H = segC call it base s_gnomonlaw01_BitsPlays_r16t4 [10, 43, 100, 102, 103, 104, 105, 106, 107, 108, 109, 110, 111, 112] H (evTale (symAll s_gnomonlaw01_BitsPlays_r16p3 [102, 103] [112]) [102, 103] f H) (origRow call it base s_gnomonlaw01_BitsPlays_r16t3 [10, 43, 100, 102, 103, 104, 105, 106, 107, 108, 109, 110, 111, 112] f H) := row_seg call it base s_gnomonlaw01_BitsPlays_r16p3 s_gnomonlaw01_BitsPlays_r16t4 (by kernel_rfl) f H
theorem s_gnomonlaw01_BitsPlays_r16t4_x (call : CallF) (it : IterF) (base : Nat) (f : List V) (H : Heap) : evC call it base (.region s_gnomonlaw01_BitsPlays_r16t4 [] [10, 43, 100, 102, 103, 104, 105, 106, 107, 108, 109, 110, 111, 112]) f H = opsC [] s_gnomonlaw01_BitsPlays_r16t4 [10, 43, 100, 102, 103, 104, 105, 106, 107, 108, 109, 110, 111, 112] (evOps call base [⟨none, (.store 1 (.t 112) (.t 111)), none⟩] f H) := row_ops call it base _ _ f H
def s_gnomonlaw01_BitsPlays_r17 : List AOper := [
  ⟨some 113, (.move (.t 3)), none⟩,
  ⟨some 114, (.move (.t 7)), none⟩,
  ⟨some 115, (.indexAddr 1 (.t 113) (.t 114)), none⟩,
  ⟨some 116, (.load false 1 (.t 115)), none⟩,
  ⟨some 117, (.fieldAddr 3 (.t 6)), none⟩,
  ⟨some 118, (.load false 1 (.t 117)), none⟩,
  ⟨some 119, (.call (.c (.fn 18 [] [])) [(.t 116), (.t 118)]), none⟩,
  ⟨some 120, (.move (.t 4)), none⟩,
  ⟨some 121, (.move (.t 7)), none⟩,
  ⟨some 122, (.indexAddr 1 (.t 120) (.t 121)), none⟩,
  ⟨some 123, (.load false 1 (.t 122)), none⟩,
  ⟨some 124, (.lenS .s (.t 123)), none⟩,
  ⟨some 125, (.move (.t 9)), none⟩,
  ⟨some 126, (.lenS .s (.t 125)), none⟩,
  ⟨some 127, (.bin .lss (.t 124) (.t 126)), none⟩,
  ⟨some 128, (.eqB false (.t 119) (.t 127)), none⟩,
  ⟨some 10, (.move (.t 128)), none⟩]
def s_gnomonlaw01_BitsPlays_r18 : List AOper := [
  ⟨some 130, (.bin .eql (.t 43) (.c (.s (.int .i64 2)))), none⟩,
  ⟨some 129, (.move (.t 130)), none⟩]
theorem s_gnomonlaw01_BitsPlays_r18_tale (fr : List V) (H : Heap) : evTale (symAll s_gnomonlaw01_BitsPlays_r18 [100, 130] [129]) [100, 130] fr H = evTale (some (131, [], [(129, (.op (.bin .eql (.t 0) (.c (.s (.int .i64 2)))) [(.t 43), (.c (.s (.int .i64 2)))]))])) [100, 130] fr H := tale_row (items := [.sub 0 [] [], .sub 0 [] []]) (by kernel_rfl) fr H
def s_gnomonlaw01_BitsPlays_r19t3 : List AOper := [⟨none, (.store 1 (.t 142) (.t 141)), none⟩]
def s_gnomonlaw01_BitsPlays_r19p2 : List AOper := [⟨some 142, (.indexAddr 1 (.t 131) (.t 132)), none⟩]
def s_gnomonlaw01_BitsPlays_r19t2 : List AOper := s_gnomonlaw01_BitsPlays_r19p2 ++ s_gnomonlaw01_BitsPlays_r19t3
def s_gnomonlaw01_BitsPlays_r19p1 : List AOper := [⟨some 141, (.call (.c (.fn 28 [] [])) [(.t 136), (.t 140)]), none⟩]
def s_gnomonlaw01_BitsPlays_r19t1 : List AOper := s_gnomonlaw01_BitsPlays_r19p1 ++ s_gnomonlaw01_BitsPlays_r19t2
def s_gnomonlaw01_BitsPlays_r19p0 : List AOper := [⟨some 131, (.move (.t 4)), none⟩, ⟨some 132, (.move (.t 7)), none⟩, ⟨some 133, (.move (.t 4)), none⟩, ⟨some 134, (.move (.t 7)), none⟩, ⟨some 135, (.indexAddr 1 (.t 133) (.t 134)), none⟩, ⟨some 136, (.load false 1 (.t 135)), none⟩, ⟨some 137, (.move (.t 4)), none⟩, ⟨some 138, (.move (.t 8)), none⟩, ⟨some 139, (.indexAddr 1 (.t 137) (.t 138)), none⟩, ⟨some 140, (.load false 1 (.t 139)), none⟩]
def s_gnomonlaw01_BitsPlays_r19 : List AOper := s_gnomonlaw01_BitsPlays_r19p0 ++ s_gnomonlaw01_BitsPlays_r19t1
theorem s_gnomonlaw01_BitsPlays_r19p0_tale (fr : List V) (H : Heap) : evTale (symAll s_gnomonlaw01_BitsPlays_r19p0 [10, 43, 129, 133, 134, 135, 137, 138, 139] [131, 132, 136, 140]) [10, 43, 129, 133, 134, 135, 137, 138, 139] fr H = evTale (some (141, [], [(131, (.t 4)), (132, (.t 7)), (136, (.op (.load false 1 (.t 0)) [(.op (.indexAddr 1 (.t 0) (.t 1)) [(.t 4), (.t 7)])])), (140, (.op (.load false 1 (.t 0)) [(.op (.indexAddr 1 (.t 0) (.t 1)) [(.t 4), (.t 8)])]))])) [10, 43, 129, 133, 134, 135, 137, 138, 139] fr H := tale_row (items := [.tt 4, .tt 7, .tt 4, .tt 7, .sub 2 [0] [], .sub 2 [] [], .tt 4, .tt 8, .sub 3 [0] [], .sub 3 [] []]) (by kernel_rfl) fr H
theorem s_gnomonlaw01_BitsPlays_r19_x (call : CallF) (it : IterF) (base : Nat) (f : List V) (H : Heap) : evC call it base (.region s_gnomonlaw01_BitsPlays_r19 [] [10, 43, 129, 131, 132, 133, 134, 135, 136, 137, 138, 139, 140, 141, 142]) f H = segC call it base s_gnomonlaw01_BitsPlays_r19t1 [10, 43, 129, 131, 132, 133, 134, 135, 136, 137, 138, 139, 140, 141, 142] H (evTale (symAll s_gnomonlaw01_BitsPlays_r19p0 [10, 43, 129, 133, 134, 135, 137, 138, 139] [131, 132, 136, 140]) [10, 43, 129, 133, 134, 135, 137, 138, 139] f H) (origRow call it base s_gnomonlaw01_BitsPlays_r19 [10, 43, 129, 131, 132, 133, 134, 135, 136, 137, 138, 139, 140, 141, 142] f H) := row_seg call it base s_gnomonlaw01_BitsPlays_r19p0 s_gnomonlaw01_BitsPlays_r19t1 (by kernel_rfl) f H
theorem s_gnomonlaw01_BitsPlays_r19t1_x (call : CallF) (it : IterF) (base : Nat) (f : List V) (H : Heap) : evC call it base (.region s_gnomonlaw01_BitsPlays_r19t1 [] [10, 43, 129, 131, 132, 133, 134, 135, 136, 137, 138, 139, 140, 141, 142]) f H = thenC call it base (.region s_gnomonlaw01_BitsPlays_r19t2 [] [10, 43, 129, 131, 132, 133, 134, 135, 136, 137, 138, 139, 140, 141, 142]) (opsC [] s_gnomonlaw01_BitsPlays_r19p1 [136, 140] (evOps call base [⟨some 141, (.call (.c (.fn 28 [] [])) [(.t 136), (.t 140)]), none⟩] f H)) := (row_op call it base s_gnomonlaw01_BitsPlays_r19p1 s_gnomonlaw01_BitsPlays_r19t2 (kc := [136, 140]) (by kernel_rfl) f H).trans (by rw [row_ops]; rfl)
theorem s_gnomonlaw01_BitsPlays_r19p2_tale (fr : List V) (H : Heap) : evTale (symAll s_gnomonlaw01_BitsPlays_r19p2 [131, 132] [142]) [131, 132] fr H = evTale (some (143, [], [(142, (.op (.indexAddr 1 (.t 0) (.t 1)) [(.t 131), (.t 132)]))])) [131, 132] fr H := tale_row (items := [.sub 0 [] []]) (by kernel_rfl) fr H
theorem s_gnomonlaw01_BitsPlays_r19t2_x (call : CallF) (it : IterF) (base : Nat) (f : List V) (H : Heap) : evC call it base (.region s_gnomonlaw01_BitsPlays_r19t2 [] [10, 43, 129, 131, 132, 133, 134, 135, 136, 137, 138, 139, 140, 141, 142]) f H = segC call it base s_gnomonlaw01_BitsPlays_r19t3 [10, 43, 129, 131, 132, 133, 134, 135, 136, 137, 138, 139, 140, 141, 142] H (evTale (symAll s_gnomonlaw01_BitsPlays_r19p2 [131, 132] [142]) [131, 132] f H) (origRow call it base s_gnomonlaw01_BitsPlays_r19t2 [10, 43, 129, 131, 132, 133, 134, 135, 136, 137, 138, 139, 140, 141, 142] f H) := row_seg call it base s_gnomonlaw01_BitsPlays_r19p2 s_gnomonlaw01_BitsPlays_r19t3 (by kernel_rfl) f H
theorem s_gnomonlaw01_BitsPlays_r19t3_x (call : CallF) (it : IterF) (base : Nat) (f : List V) (H : Heap) : evC call it base (.region s_gnomonlaw01_BitsPlays_r19t3 [] [10, 43, 129, 131, 132, 133, 134, 135, 136, 137, 138, 139, 140, 141, 142]) f H = opsC [] s_gnomonlaw01_BitsPlays_r19t3 [10, 43, 129, 131, 132, 133, 134, 135, 136, 137, 138, 139, 140, 141, 142] (evOps call base [⟨none, (.store 1 (.t 142) (.t 141)), none⟩] f H) := row_ops call it base _ _ f H
def s_gnomonlaw01_BitsPlays_r20 : List AOper := [
  ⟨some 143, (.move (.t 3)), none⟩,
  ⟨some 144, (.move (.t 7)), none⟩,
  ⟨some 145, (.indexAddr 1 (.t 143) (.t 144)), none⟩,
  ⟨some 146, (.load false 1 (.t 145)), none⟩,
  ⟨some 147, (.move (.t 3)), none⟩,
  ⟨some 148, (.move (.t 8)), none⟩,
  ⟨some 149, (.indexAddr 1 (.t 147) (.t 148)), none⟩,
  ⟨some 150, (.load false 1 (.t 149)), none⟩,
  ⟨some 151, (.call (.c (.fn 24 [] [])) [(.t 146), (.t 150)]), none⟩,
  ⟨some 152, (.move (.t 4)), none⟩,
  ⟨some 153, (.move (.t 7)), none⟩,
  ⟨some 154, (.indexAddr 1 (.t 152) (.t 153)), none⟩,
  ⟨some 155, (.load false 1 (.t 154)), none⟩,
  ⟨some 156, (.lenS .s (.t 155)), none⟩,
  ⟨some 157, (.move (.t 9)), none⟩,
  ⟨some 158, (.lenS .s (.t 157)), none⟩,
  ⟨some 159, (.bin .gtr (.t 156) (.t 158)), none⟩,
  ⟨some 160, (.eqB false (.t 151) (.t 159)), none⟩,
  ⟨some 10, (.move (.t 160)), none⟩]
def s_gnomonlaw01_BitsPlays_r21 : List AOper := [
  ⟨some 162, (.bin .eql (.t 43) (.c (.s (.int .i64 3)))), none⟩,
  ⟨some 161, (.move (.t 162)), none⟩]
theorem s_gnomonlaw01_BitsPlays_r21_tale (fr : List V) (H : Heap) : evTale (symAll s_gnomonlaw01_BitsPlays_r21 [9, 129, 162] [161]) [9, 129, 162] fr H = evTale (some (163, [], [(161, (.op (.bin .eql (.t 0) (.c (.s (.int .i64 3)))) [(.t 43), (.c (.s (.int .i64 3)))]))])) [9, 129, 162] fr H := tale_row (items := [.sub 0 [] [], .sub 0 [] []]) (by kernel_rfl) fr H
def s_gnomonlaw01_BitsPlays_r22t3 : List AOper := [⟨none, (.store 1 (.t 174) (.t 173)), none⟩]
def s_gnomonlaw01_BitsPlays_r22p2 : List AOper := [⟨some 174, (.indexAddr 1 (.t 163) (.t 164)), none⟩]
def s_gnomonlaw01_BitsPlays_r22t2 : List AOper := s_gnomonlaw01_BitsPlays_r22p2 ++ s_gnomonlaw01_BitsPlays_r22t3
def s_gnomonlaw01_BitsPlays_r22p1 : List AOper := [⟨some 173, (.call (.c (.fn 27 [] [])) [(.t 168), (.t 172), (.c (.s (.bool false)))]), none⟩]
def s_gnomonlaw01_BitsPlays_r22t1 : List AOper := s_gnomonlaw01_BitsPlays_r22p1 ++ s_gnomonlaw01_BitsPlays_r22t2
def s_gnomonlaw01_BitsPlays_r22p0 : List AOper := [⟨some 163, (.move (.t 4)), none⟩, ⟨some 164, (.move (.t 7)), none⟩, ⟨some 165, (.move (.t 4)), none⟩, ⟨some 166, (.move (.t 7)), none⟩, ⟨some 167, (.indexAddr 1 (.t 165) (.t 166)), none⟩, ⟨some 168, (.load false 1 (.t 167)), none⟩, ⟨some 169, (.move (.t 4)), none⟩, ⟨some 170, (.move (.t 8)), none⟩, ⟨some 171, (.indexAddr 1 (.t 169) (.t 170)), none⟩, ⟨some 172, (.load false 1 (.t 171)), none⟩]
def s_gnomonlaw01_BitsPlays_r22 : List AOper := s_gnomonlaw01_BitsPlays_r22p0 ++ s_gnomonlaw01_BitsPlays_r22t1
theorem s_gnomonlaw01_BitsPlays_r22p0_tale (fr : List V) (H : Heap) : evTale (symAll s_gnomonlaw01_BitsPlays_r22p0 [43, 161, 165, 166, 167, 169, 170, 171] [163, 164, 168, 172]) [43, 161, 165, 166, 167, 169, 170, 171] fr H = evTale (some (173, [], [(163, (.t 4)), (164, (.t 7)), (168, (.op (.load false 1 (.t 0)) [(.op (.indexAddr 1 (.t 0) (.t 1)) [(.t 4), (.t 7)])])), (172, (.op (.load false 1 (.t 0)) [(.op (.indexAddr 1 (.t 0) (.t 1)) [(.t 4), (.t 8)])]))])) [43, 161, 165, 166, 167, 169, 170, 171] fr H := tale_row (items := [.tt 4, .tt 7, .tt 4, .tt 7, .sub 2 [0] [], .sub 2 [] [], .tt 4, .tt 8, .sub 3 [0] [], .sub 3 [] []]) (by kernel_rfl) fr H
theorem s_gnomonlaw01_BitsPlays_r22_x (call : CallF) (it : IterF) (base : Nat) (f : List V) (H : Heap) : evC call it base (.region s_gnomonlaw01_BitsPlays_r22 [] [43, 161, 163, 164, 165, 166, 167, 168, 169, 170, 171, 172, 173, 174]) f H = segC call it base s_gnomonlaw01_BitsPlays_r22t1 [43, 161, 163, 164, 165, 166, 167, 168, 169, 170, 171, 172, 173, 174] H (evTale (symAll s_gnomonlaw01_BitsPlays_r22p0 [43, 161, 165, 166, 167, 169, 170, 171] [163, 164, 168, 172]) [43, 161, 165, 166, 167, 169, 170, 171] f H) (origRow call it base s_gnomonlaw01_BitsPlays_r22 [43, 161, 163, 164, 165, 166, 167, 168, 169, 170, 171, 172, 173, 174] f H) := row_seg call it base s_gnomonlaw01_BitsPlays_r22p0 s_gnomonlaw01_BitsPlays_r22t1 (by kernel_rfl) f H
theorem s_gnomonlaw01_BitsPlays_r22t1_x (call : CallF) (it : IterF) (base : Nat) (f : List V) (H : Heap) : evC call it base (.region s_gnomonlaw01_BitsPlays_r22t1 [] [43, 161, 163, 164, 165, 166, 167, 168, 169, 170, 171, 172, 173, 174]) f H = thenC call it base (.region s_gnomonlaw01_BitsPlays_r22t2 [] [43, 161, 163, 164, 165, 166, 167, 168, 169, 170, 171, 172, 173, 174]) (opsC [] s_gnomonlaw01_BitsPlays_r22p1 [168, 172] (evOps call base [⟨some 173, (.call (.c (.fn 27 [] [])) [(.t 168), (.t 172), (.c (.s (.bool false)))]), none⟩] f H)) := (row_op call it base s_gnomonlaw01_BitsPlays_r22p1 s_gnomonlaw01_BitsPlays_r22t2 (kc := [168, 172]) (by kernel_rfl) f H).trans (by rw [row_ops]; rfl)
theorem s_gnomonlaw01_BitsPlays_r22p2_tale (fr : List V) (H : Heap) : evTale (symAll s_gnomonlaw01_BitsPlays_r22p2 [163, 164] [174]) [163, 164] fr H = evTale (some (175, [], [(174, (.op (.indexAddr 1 (.t 0) (.t 1)) [(.t 163), (.t 164)]))])) [163, 164] fr H := tale_row (items := [.sub 0 [] []]) (by kernel_rfl) fr H
theorem s_gnomonlaw01_BitsPlays_r22t2_x (call : CallF) (it : IterF) (base : Nat) (f : List V) (H : Heap) : evC call it base (.region s_gnomonlaw01_BitsPlays_r22t2 [] [43, 161, 163, 164, 165, 166, 167, 168, 169, 170, 171, 172, 173, 174]) f H = segC call it base s_gnomonlaw01_BitsPlays_r22t3 [43, 161, 163, 164, 165, 166, 167, 168, 169, 170, 171, 172, 173, 174] H (evTale (symAll s_gnomonlaw01_BitsPlays_r22p2 [163, 164] [174]) [163, 164] f H) (origRow call it base s_gnomonlaw01_BitsPlays_r22t2 [43, 161, 163, 164, 165, 166, 167, 168, 169, 170, 171, 172, 173, 174] f H) := row_seg call it base s_gnomonlaw01_BitsPlays_r22p2 s_gnomonlaw01_BitsPlays_r22t3 (by kernel_rfl) f H
theorem s_gnomonlaw01_BitsPlays_r22t3_x (call : CallF) (it : IterF) (base : Nat) (f : List V) (H : Heap) : evC call it base (.region s_gnomonlaw01_BitsPlays_r22t3 [] [43, 161, 163, 164, 165, 166, 167, 168, 169, 170, 171, 172, 173, 174]) f H = opsC [] s_gnomonlaw01_BitsPlays_r22t3 [43, 161, 163, 164, 165, 166, 167, 168, 169, 170, 171, 172, 173, 174] (evOps call base [⟨none, (.store 1 (.t 174) (.t 173)), none⟩] f H) := row_ops call it base _ _ f H
def s_gnomonlaw01_BitsPlays_r23t3 : List AOper := [⟨none, (.store 1 (.t 186) (.t 185)), none⟩]
def s_gnomonlaw01_BitsPlays_r23p2 : List AOper := [⟨some 186, (.indexAddr 1 (.t 175) (.t 176)), none⟩]
def s_gnomonlaw01_BitsPlays_r23t2 : List AOper := s_gnomonlaw01_BitsPlays_r23p2 ++ s_gnomonlaw01_BitsPlays_r23t3
def s_gnomonlaw01_BitsPlays_r23p1 : List AOper := [⟨some 185, (.call (.c (.fn 22 [] [])) [(.t 180), (.t 184)]), none⟩]
def s_gnomonlaw01_BitsPlays_r23t1 : List AOper := s_gnomonlaw01_BitsPlays_r23p1 ++ s_gnomonlaw01_BitsPlays_r23t2
def s_gnomonlaw01_BitsPlays_r23p0 : List AOper := [⟨some 175, (.move (.t 3)), none⟩, ⟨some 176, (.move (.t 7)), none⟩, ⟨some 177, (.move (.t 3)), none⟩, ⟨some 178, (.move (.t 7)), none⟩, ⟨some 179, (.indexAddr 1 (.t 177) (.t 178)), none⟩, ⟨some 180, (.load false 1 (.t 179)), none⟩, ⟨some 181, (.move (.t 3)), none⟩, ⟨some 182, (.move (.t 8)), none⟩, ⟨some 183, (.indexAddr 1 (.t 181) (.t 182)), none⟩, ⟨some 184, (.load false 1 (.t 183)), none⟩]
def s_gnomonlaw01_BitsPlays_r23 : List AOper := s_gnomonlaw01_BitsPlays_r23p0 ++ s_gnomonlaw01_BitsPlays_r23t1
theorem s_gnomonlaw01_BitsPlays_r23p0_tale (fr : List V) (H : Heap) : evTale (symAll s_gnomonlaw01_BitsPlays_r23p0 [177, 178, 179, 181, 182, 183] [175, 176, 180, 184]) [177, 178, 179, 181, 182, 183] fr H = evTale (some (185, [], [(175, (.t 3)), (176, (.t 7)), (180, (.op (.load false 1 (.t 0)) [(.op (.indexAddr 1 (.t 0) (.t 1)) [(.t 3), (.t 7)])])), (184, (.op (.load false 1 (.t 0)) [(.op (.indexAddr 1 (.t 0) (.t 1)) [(.t 3), (.t 8)])]))])) [177, 178, 179, 181, 182, 183] fr H := tale_row (items := [.tt 3, .tt 7, .tt 3, .tt 7, .sub 2 [0] [], .sub 2 [] [], .tt 3, .tt 8, .sub 3 [0] [], .sub 3 [] []]) (by kernel_rfl) fr H
theorem s_gnomonlaw01_BitsPlays_r23_x (call : CallF) (it : IterF) (base : Nat) (f : List V) (H : Heap) : evC call it base (.region s_gnomonlaw01_BitsPlays_r23 [] [175, 176, 177, 178, 179, 180, 181, 182, 183, 184, 185, 186]) f H = segC call it base s_gnomonlaw01_BitsPlays_r23t1 [175, 176, 177, 178, 179, 180, 181, 182, 183, 184, 185, 186] H (evTale (symAll s_gnomonlaw01_BitsPlays_r23p0 [177, 178, 179, 181, 182, 183] [175, 176, 180, 184]) [177, 178, 179, 181, 182, 183] f H) (origRow call it base s_gnomonlaw01_BitsPlays_r23 [175, 176, 177, 178, 179, 180, 181, 182, 183, 184, 185, 186] f H) := row_seg call it base s_gnomonlaw01_BitsPlays_r23p0 s_gnomonlaw01_BitsPlays_r23t1 (by kernel_rfl) f H
theorem s_gnomonlaw01_BitsPlays_r23t1_x (call : CallF) (it : IterF) (base : Nat) (f : List V) (H : Heap) : evC call it base (.region s_gnomonlaw01_BitsPlays_r23t1 [] [175, 176, 177, 178, 179, 180, 181, 182, 183, 184, 185, 186]) f H = thenC call it base (.region s_gnomonlaw01_BitsPlays_r23t2 [] [175, 176, 177, 178, 179, 180, 181, 182, 183, 184, 185, 186]) (opsC [] s_gnomonlaw01_BitsPlays_r23p1 [180, 184] (evOps call base [⟨some 185, (.call (.c (.fn 22 [] [])) [(.t 180), (.t 184)]), none⟩] f H)) := (row_op call it base s_gnomonlaw01_BitsPlays_r23p1 s_gnomonlaw01_BitsPlays_r23t2 (kc := [180, 184]) (by kernel_rfl) f H).trans (by rw [row_ops]; rfl)
theorem s_gnomonlaw01_BitsPlays_r23p2_tale (fr : List V) (H : Heap) : evTale (symAll s_gnomonlaw01_BitsPlays_r23p2 [175, 176] [186]) [175, 176] fr H = evTale (some (187, [], [(186, (.op (.indexAddr 1 (.t 0) (.t 1)) [(.t 175), (.t 176)]))])) [175, 176] fr H := tale_row (items := [.sub 0 [] []]) (by kernel_rfl) fr H
theorem s_gnomonlaw01_BitsPlays_r23t2_x (call : CallF) (it : IterF) (base : Nat) (f : List V) (H : Heap) : evC call it base (.region s_gnomonlaw01_BitsPlays_r23t2 [] [175, 176, 177, 178, 179, 180, 181, 182, 183, 184, 185, 186]) f H = segC call it base s_gnomonlaw01_BitsPlays_r23t3 [175, 176, 177, 178, 179, 180, 181, 182, 183, 184, 185, 186] H (evTale (symAll s_gnomonlaw01_BitsPlays_r23p2 [175, 176] [186]) [175, 176] f H) (origRow call it base s_gnomonlaw01_BitsPlays_r23t2 [175, 176, 177, 178, 179, 180, 181, 182, 183, 184, 185, 186] f H) := row_seg call it base s_gnomonlaw01_BitsPlays_r23p2 s_gnomonlaw01_BitsPlays_r23t3 (by kernel_rfl) f H
theorem s_gnomonlaw01_BitsPlays_r23t3_x (call : CallF) (it : IterF) (base : Nat) (f : List V) (H : Heap) : evC call it base (.region s_gnomonlaw01_BitsPlays_r23t3 [] [175, 176, 177, 178, 179, 180, 181, 182, 183, 184, 185, 186]) f H = opsC [] s_gnomonlaw01_BitsPlays_r23t3 [175, 176, 177, 178, 179, 180, 181, 182, 183, 184, 185, 186] (evOps call base [⟨none, (.store 1 (.t 186) (.t 185)), none⟩] f H) := row_ops call it base _ _ f H
def s_gnomonlaw01_BitsPlays_r24 : List AOper := [
  ⟨some 188, (.bin .eql (.t 43) (.c (.s (.int .i64 4)))), none⟩,
  ⟨some 187, (.move (.t 188)), none⟩]
theorem s_gnomonlaw01_BitsPlays_r24_tale (fr : List V) (H : Heap) : evTale (symAll s_gnomonlaw01_BitsPlays_r24 [161, 188] [187]) [161, 188] fr H = evTale (some (189, [], [(187, (.op (.bin .eql (.t 0) (.c (.s (.int .i64 4)))) [(.t 43), (.c (.s (.int .i64 4)))]))])) [161, 188] fr H := tale_row (items := [.sub 0 [] [], .sub 0 [] []]) (by kernel_rfl) fr H
def s_gnomonlaw01_BitsPlays_r25t3 : List AOper := [⟨none, (.store 1 (.t 200) (.t 199)), none⟩]
def s_gnomonlaw01_BitsPlays_r25p2 : List AOper := [⟨some 200, (.indexAddr 1 (.t 189) (.t 190)), none⟩]
def s_gnomonlaw01_BitsPlays_r25t2 : List AOper := s_gnomonlaw01_BitsPlays_r25p2 ++ s_gnomonlaw01_BitsPlays_r25t3
def s_gnomonlaw01_BitsPlays_r25p1 : List AOper := [⟨some 199, (.call (.c (.fn 27 [] [])) [(.t 194), (.t 198), (.c (.s (.bool true)))]), none⟩]
def s_gnomonlaw01_BitsPlays_r25t1 : List AOper := s_gnomonlaw01_BitsPlays_r25p1 ++ s_gnomonlaw01_BitsPlays_r25t2
def s_gnomonlaw01_BitsPlays_r25p0 : List AOper := [⟨some 189, (.move (.t 4)), none⟩, ⟨some 190, (.move (.t 7)), none⟩, ⟨some 191, (.move (.t 4)), none⟩, ⟨some 192, (.move (.t 7)), none⟩, ⟨some 193, (.indexAddr 1 (.t 191) (.t 192)), none⟩, ⟨some 194, (.load false 1 (.t 193)), none⟩, ⟨some 195, (.move (.t 4)), none⟩, ⟨some 196, (.move (.t 8)), none⟩, ⟨some 197, (.indexAddr 1 (.t 195) (.t 196)), none⟩, ⟨some 198, (.load false 1 (.t 197)), none⟩]
def s_gnomonlaw01_BitsPlays_r25 : List AOper := s_gnomonlaw01_BitsPlays_r25p0 ++ s_gnomonlaw01_BitsPlays_r25t1
theorem s_gnomonlaw01_BitsPlays_r25p0_tale (fr : List V) (H : Heap) : evTale (symAll s_gnomonlaw01_BitsPlays_r25p0 [43, 187, 191, 192, 193, 195, 196, 197] [189, 190, 194, 198]) [43, 187, 191, 192, 193, 195, 196, 197] fr H = evTale (some (199, [], [(189, (.t 4)), (190, (.t 7)), (194, (.op (.load false 1 (.t 0)) [(.op (.indexAddr 1 (.t 0) (.t 1)) [(.t 4), (.t 7)])])), (198, (.op (.load false 1 (.t 0)) [(.op (.indexAddr 1 (.t 0) (.t 1)) [(.t 4), (.t 8)])]))])) [43, 187, 191, 192, 193, 195, 196, 197] fr H := tale_row (items := [.tt 4, .tt 7, .tt 4, .tt 7, .sub 2 [0] [], .sub 2 [] [], .tt 4, .tt 8, .sub 3 [0] [], .sub 3 [] []]) (by kernel_rfl) fr H
theorem s_gnomonlaw01_BitsPlays_r25_x (call : CallF) (it : IterF) (base : Nat) (f : List V) (H : Heap) : evC call it base (.region s_gnomonlaw01_BitsPlays_r25 [] [43, 187, 189, 190, 191, 192, 193, 194, 195, 196, 197, 198, 199, 200]) f H = segC call it base s_gnomonlaw01_BitsPlays_r25t1 [43, 187, 189, 190, 191, 192, 193, 194, 195, 196, 197, 198, 199, 200] H (evTale (symAll s_gnomonlaw01_BitsPlays_r25p0 [43, 187, 191, 192, 193, 195, 196, 197] [189, 190, 194, 198]) [43, 187, 191, 192, 193, 195, 196, 197] f H) (origRow call it base s_gnomonlaw01_BitsPlays_r25 [43, 187, 189, 190, 191, 192, 193, 194, 195, 196, 197, 198, 199, 200] f H) := row_seg call it base s_gnomonlaw01_BitsPlays_r25p0 s_gnomonlaw01_BitsPlays_r25t1 (by kernel_rfl) f H
theorem s_gnomonlaw01_BitsPlays_r25t1_x (call : CallF) (it : IterF) (base : Nat) (f : List V) (H : Heap) : evC call it base (.region s_gnomonlaw01_BitsPlays_r25t1 [] [43, 187, 189, 190, 191, 192, 193, 194, 195, 196, 197, 198, 199, 200]) f H = thenC call it base (.region s_gnomonlaw01_BitsPlays_r25t2 [] [43, 187, 189, 190, 191, 192, 193, 194, 195, 196, 197, 198, 199, 200]) (opsC [] s_gnomonlaw01_BitsPlays_r25p1 [194, 198] (evOps call base [⟨some 199, (.call (.c (.fn 27 [] [])) [(.t 194), (.t 198), (.c (.s (.bool true)))]), none⟩] f H)) := (row_op call it base s_gnomonlaw01_BitsPlays_r25p1 s_gnomonlaw01_BitsPlays_r25t2 (kc := [194, 198]) (by kernel_rfl) f H).trans (by rw [row_ops]; rfl)
theorem s_gnomonlaw01_BitsPlays_r25p2_tale (fr : List V) (H : Heap) : evTale (symAll s_gnomonlaw01_BitsPlays_r25p2 [189, 190] [200]) [189, 190] fr H = evTale (some (201, [], [(200, (.op (.indexAddr 1 (.t 0) (.t 1)) [(.t 189), (.t 190)]))])) [189, 190] fr H := tale_row (items := [.sub 0 [] []]) (by kernel_rfl) fr H
theorem s_gnomonlaw01_BitsPlays_r25t2_x (call : CallF) (it : IterF) (base : Nat) (f : List V) (H : Heap) : evC call it base (.region s_gnomonlaw01_BitsPlays_r25t2 [] [43, 187, 189, 190, 191, 192, 193, 194, 195, 196, 197, 198, 199, 200]) f H = segC call it base s_gnomonlaw01_BitsPlays_r25t3 [43, 187, 189, 190, 191, 192, 193, 194, 195, 196, 197, 198, 199, 200] H (evTale (symAll s_gnomonlaw01_BitsPlays_r25p2 [189, 190] [200]) [189, 190] f H) (origRow call it base s_gnomonlaw01_BitsPlays_r25t2 [43, 187, 189, 190, 191, 192, 193, 194, 195, 196, 197, 198, 199, 200] f H) := row_seg call it base s_gnomonlaw01_BitsPlays_r25p2 s_gnomonlaw01_BitsPlays_r25t3 (by kernel_rfl) f H
theorem s_gnomonlaw01_BitsPlays_r25t3_x (call : CallF) (it : IterF) (base : Nat) (f : List V) (H : Heap) : evC call it base (.region s_gnomonlaw01_BitsPlays_r25t3 [] [43, 187, 189, 190, 191, 192, 193, 194, 195, 196, 197, 198, 199, 200]) f H = opsC [] s_gnomonlaw01_BitsPlays_r25t3 [43, 187, 189, 190, 191, 192, 193, 194, 195, 196, 197, 198, 199, 200] (evOps call base [⟨none, (.store 1 (.t 200) (.t 199)), none⟩] f H) := row_ops call it base _ _ f H
def s_gnomonlaw01_BitsPlays_r26t3 : List AOper := [⟨none, (.store 1 (.t 212) (.t 211)), none⟩]
def s_gnomonlaw01_BitsPlays_r26p2 : List AOper := [⟨some 212, (.indexAddr 1 (.t 201) (.t 202)), none⟩]
def s_gnomonlaw01_BitsPlays_r26t2 : List AOper := s_gnomonlaw01_BitsPlays_r26p2 ++ s_gnomonlaw01_BitsPlays_r26t3
def s_gnomonlaw01_BitsPlays_r26p1 : List AOper := [⟨some 211, (.call (.c (.fn 23 [] [])) [(.t 206), (.t 210)]), none⟩]
def s_gnomonlaw01_BitsPlays_r26t1 : List AOper := s_gnomonlaw01_BitsPlays_r26p1 ++ s_gnomonlaw01_BitsPlays_r26t2
def s_gnomonlaw01_BitsPlays_r26p0 : List AOper := [⟨some 201, (.move (.t 3)), none⟩, ⟨some 202, (.move (.t 7)), none⟩, ⟨some 203, (.move (.t 3)), none⟩, ⟨some 204, (.move (.t 7)), none⟩, ⟨some 205, (.indexAddr 1 (.t 203) (.t 204)), none⟩, ⟨some 206, (.load false 1 (.t 205)), none⟩, ⟨some 207, (.move (.t 3)), none⟩, ⟨some 208, (.move (.t 8)), none⟩, ⟨some 209, (.indexAddr 1 (.t 207) (.t 208)), none⟩, ⟨some 210, (.load false 1 (.t 209)), none⟩]
def s_gnomonlaw01_BitsPlays_r26 : List AOper := s_gnomonlaw01_BitsPlays_r26p0 ++ s_gnomonlaw01_BitsPlays_r26t1
theorem s_gnomonlaw01_BitsPlays_r26p0_tale (fr : List V) (H : Heap) : evTale (symAll s_gnomonlaw01_BitsPlays_r26p0 [203, 204, 205, 207, 208, 209] [201, 202, 206, 210]) [203, 204, 205, 207, 208, 209] fr H = evTale (some (211, [], [(201, (.t 3)), (202, (.t 7)), (206, (.op (.load false 1 (.t 0)) [(.op (.indexAddr 1 (.t 0) (.t 1)) [(.t 3), (.t 7)])])), (210, (.op (.load false 1 (.t 0)) [(.op (.indexAddr 1 (.t 0) (.t 1)) [(.t 3), (.t 8)])]))])) [203, 204, 205, 207, 208, 209] fr H := tale_row (items := [.tt 3, .tt 7, .tt 3, .tt 7, .sub 2 [0] [], .sub 2 [] [], .tt 3, .tt 8, .sub 3 [0] [], .sub 3 [] []]) (by kernel_rfl) fr H
theorem s_gnomonlaw01_BitsPlays_r26_x (call : CallF) (it : IterF) (base : Nat) (f : List V) (H : Heap) : evC call it base (.region s_gnomonlaw01_BitsPlays_r26 [] [201, 202, 203, 204, 205, 206, 207, 208, 209, 210, 211, 212]) f H = segC call it base s_gnomonlaw01_BitsPlays_r26t1 [201, 202, 203, 204, 205, 206, 207, 208, 209, 210, 211, 212] H (evTale (symAll s_gnomonlaw01_BitsPlays_r26p0 [203, 204, 205, 207, 208, 209] [201, 202, 206, 210]) [203, 204, 205, 207, 208, 209] f H) (origRow call it base s_gnomonlaw01_BitsPlays_r26 [201, 202, 203, 204, 205, 206, 207, 208, 209, 210, 211, 212] f H) := row_seg call it base s_gnomonlaw01_BitsPlays_r26p0 s_gnomonlaw01_BitsPlays_r26t1 (by kernel_rfl) f H
theorem s_gnomonlaw01_BitsPlays_r26t1_x (call : CallF) (it : IterF) (base : Nat) (f : List V) (H : Heap) : evC call it base (.region s_gnomonlaw01_BitsPlays_r26t1 [] [201, 202, 203, 204, 205, 206, 207, 208, 209, 210, 211, 212]) f H = thenC call it base (.region s_gnomonlaw01_BitsPlays_r26t2 [] [201, 202, 203, 204, 205, 206, 207, 208, 209, 210, 211, 212]) (opsC [] s_gnomonlaw01_BitsPlays_r26p1 [206, 210] (evOps call base [⟨some 211, (.call (.c (.fn 23 [] [])) [(.t 206), (.t 210)]), none⟩] f H)) := (row_op call it base s_gnomonlaw01_BitsPlays_r26p1 s_gnomonlaw01_BitsPlays_r26t2 (kc := [206, 210]) (by kernel_rfl) f H).trans (by rw [row_ops]; rfl)
theorem s_gnomonlaw01_BitsPlays_r26p2_tale (fr : List V) (H : Heap) : evTale (symAll s_gnomonlaw01_BitsPlays_r26p2 [201, 202] [212]) [201, 202] fr H = evTale (some (213, [], [(212, (.op (.indexAddr 1 (.t 0) (.t 1)) [(.t 201), (.t 202)]))])) [201, 202] fr H := tale_row (items := [.sub 0 [] []]) (by kernel_rfl) fr H
theorem s_gnomonlaw01_BitsPlays_r26t2_x (call : CallF) (it : IterF) (base : Nat) (f : List V) (H : Heap) : evC call it base (.region s_gnomonlaw01_BitsPlays_r26t2 [] [201, 202, 203, 204, 205, 206, 207, 208, 209, 210, 211, 212]) f H = segC call it base s_gnomonlaw01_BitsPlays_r26t3 [201, 202, 203, 204, 205, 206, 207, 208, 209, 210, 211, 212] H (evTale (symAll s_gnomonlaw01_BitsPlays_r26p2 [201, 202] [212]) [201, 202] f H) (origRow call it base s_gnomonlaw01_BitsPlays_r26t2 [201, 202, 203, 204, 205, 206, 207, 208, 209, 210, 211, 212] f H) := row_seg call it base s_gnomonlaw01_BitsPlays_r26p2 s_gnomonlaw01_BitsPlays_r26t3 (by kernel_rfl) f H
theorem s_gnomonlaw01_BitsPlays_r26t3_x (call : CallF) (it : IterF) (base : Nat) (f : List V) (H : Heap) : evC call it base (.region s_gnomonlaw01_BitsPlays_r26t3 [] [201, 202, 203, 204, 205, 206, 207, 208, 209, 210, 211, 212]) f H = opsC [] s_gnomonlaw01_BitsPlays_r26t3 [201, 202, 203, 204, 205, 206, 207, 208, 209, 210, 211, 212] (evOps call base [⟨none, (.store 1 (.t 212) (.t 211)), none⟩] f H) := row_ops call it base _ _ f H
def s_gnomonlaw01_BitsPlays_r27 : List AOper := [
  ⟨some 214, (.bin .eql (.t 43) (.c (.s (.int .i64 5)))), none⟩,
  ⟨some 213, (.move (.t 214)), none⟩]
theorem s_gnomonlaw01_BitsPlays_r27_tale (fr : List V) (H : Heap) : evTale (symAll s_gnomonlaw01_BitsPlays_r27 [43, 187, 214] [213]) [43, 187, 214] fr H = evTale (some (215, [], [(213, (.op (.bin .eql (.t 0) (.c (.s (.int .i64 5)))) [(.t 43), (.c (.s (.int .i64 5)))]))])) [43, 187, 214] fr H := tale_row (items := [.sub 0 [] [], .sub 0 [] []]) (by kernel_rfl) fr H
def s_gnomonlaw01_BitsPlays_r28t1 : List AOper := [⟨none, (.store 1 (.t 221) (.t 220)), none⟩]
def s_gnomonlaw01_BitsPlays_r28p0 : List AOper := [⟨some 215, (.move (.t 4)), none⟩, ⟨some 216, (.move (.t 7)), none⟩, ⟨some 217, (.move (.t 4)), none⟩, ⟨some 218, (.move (.t 8)), none⟩, ⟨some 219, (.indexAddr 1 (.t 217) (.t 218)), none⟩, ⟨some 220, (.load false 1 (.t 219)), none⟩, ⟨some 221, (.indexAddr 1 (.t 215) (.t 216)), none⟩]
def s_gnomonlaw01_BitsPlays_r28 : List AOper := s_gnomonlaw01_BitsPlays_r28p0 ++ s_gnomonlaw01_BitsPlays_r28t1
theorem s_gnomonlaw01_BitsPlays_r28p0_tale (fr : List V) (H : Heap) : evTale (symAll s_gnomonlaw01_BitsPlays_r28p0 [213, 215, 216, 217, 218, 219] [220, 221]) [213, 215, 216, 217, 218, 219] fr H = evTale (some (222, [], [(220, (.op (.load false 1 (.t 0)) [(.op (.indexAddr 1 (.t 0) (.t 1)) [(.t 4), (.t 8)])])), (221, (.op (.indexAddr 1 (.t 0) (.t 1)) [(.t 4), (.t 7)]))])) [213, 215, 216, 217, 218, 219] fr H := tale_row (items := [.tt 4, .tt 7, .tt 4, .tt 8, .sub 0 [0] [], .sub 0 [] [], .sub 1 [] []]) (by kernel_rfl) fr H
theorem s_gnomonlaw01_BitsPlays_r28_x (call : CallF) (it : IterF) (base : Nat) (f : List V) (H : Heap) : evC call it base (.region s_gnomonlaw01_BitsPlays_r28 [] [213, 215, 216, 217, 218, 219, 220, 221]) f H = segC call it base s_gnomonlaw01_BitsPlays_r28t1 [213, 215, 216, 217, 218, 219, 220, 221] H (evTale (symAll s_gnomonlaw01_BitsPlays_r28p0 [213, 215, 216, 217, 218, 219] [220, 221]) [213, 215, 216, 217, 218, 219] f H) (origRow call it base s_gnomonlaw01_BitsPlays_r28 [213, 215, 216, 217, 218, 219, 220, 221] f H) := row_seg call it base s_gnomonlaw01_BitsPlays_r28p0 s_gnomonlaw01_BitsPlays_r28t1 (by kernel_rfl) f H
theorem s_gnomonlaw01_BitsPlays_r28t1_x (call : CallF) (it : IterF) (base : Nat) (f : List V) (H : Heap) : evC call it base (.region s_gnomonlaw01_BitsPlays_r28t1 [] [213, 215, 216, 217, 218, 219, 220, 221]) f H = opsC [] s_gnomonlaw01_BitsPlays_r28t1 [213, 215, 216, 217, 218, 219, 220, 221] (evOps call base [⟨none, (.store 1 (.t 221) (.t 220)), none⟩] f H) := row_ops call it base _ _ f H
def s_gnomonlaw01_BitsPlays_r29t3 : List AOper := [⟨none, (.store 1 (.t 229) (.t 228)), none⟩]
def s_gnomonlaw01_BitsPlays_r29p2 : List AOper := [⟨some 229, (.indexAddr 1 (.t 222) (.t 223)), none⟩]
def s_gnomonlaw01_BitsPlays_r29t2 : List AOper := s_gnomonlaw01_BitsPlays_r29p2 ++ s_gnomonlaw01_BitsPlays_r29t3
def s_gnomonlaw01_BitsPlays_r29p1 : List AOper := [⟨some 228, (.call (.c (.fn 21 [] [])) [(.t 227)]), none⟩]
def s_gnomonlaw01_BitsPlays_r29t1 : List AOper := s_gnomonlaw01_BitsPlays_r29p1 ++ s_gnomonlaw01_BitsPlays_r29t2
def s_gnomonlaw01_BitsPlays_r29p0 : List AOper := [⟨some 222, (.move (.t 3)), none⟩, ⟨some 223, (.move (.t 7)), none⟩, ⟨some 224, (.move (.t 3)), none⟩, ⟨some 225, (.move (.t 8)), none⟩, ⟨some 226, (.indexAddr 1 (.t 224) (.t 225)), none⟩, ⟨some 227, (.load false 1 (.t 226)), none⟩]
def s_gnomonlaw01_BitsPlays_r29 : List AOper := s_gnomonlaw01_BitsPlays_r29p0 ++ s_gnomonlaw01_BitsPlays_r29t1
theorem s_gnomonlaw01_BitsPlays_r29p0_tale (fr : List V) (H : Heap) : evTale (symAll s_gnomonlaw01_BitsPlays_r29p0 [224, 225, 226] [222, 223, 227]) [224, 225, 226] fr H = evTale (some (228, [], [(222, (.t 3)), (223, (.t 7)), (227, (.op (.load false 1 (.t 0)) [(.op (.indexAddr 1 (.t 0) (.t 1)) [(.t 3), (.t 8)])]))])) [224, 225, 226] fr H := tale_row (items := [.tt 3, .tt 7, .tt 3, .tt 8, .sub 2 [0] [], .sub 2 [] []]) (by kernel_rfl) fr H
theorem s_gnomonlaw01_BitsPlays_r29_x (call : CallF) (it : IterF) (base : Nat) (f : List V) (H : Heap) : evC call it base (.region s_gnomonlaw01_BitsPlays_r29 [] [222, 223, 224, 225, 226, 227, 228, 229]) f H = segC call it base s_gnomonlaw01_BitsPlays_r29t1 [222, 223, 224, 225, 226, 227, 228, 229] H (evTale (symAll s_gnomonlaw01_BitsPlays_r29p0 [224, 225, 226] [222, 223, 227]) [224, 225, 226] f H) (origRow call it base s_gnomonlaw01_BitsPlays_r29 [222, 223, 224, 225, 226, 227, 228, 229] f H) := row_seg call it base s_gnomonlaw01_BitsPlays_r29p0 s_gnomonlaw01_BitsPlays_r29t1 (by kernel_rfl) f H
theorem s_gnomonlaw01_BitsPlays_r29t1_x (call : CallF) (it : IterF) (base : Nat) (f : List V) (H : Heap) : evC call it base (.region s_gnomonlaw01_BitsPlays_r29t1 [] [222, 223, 224, 225, 226, 227, 228, 229]) f H = thenC call it base (.region s_gnomonlaw01_BitsPlays_r29t2 [] [222, 223, 224, 225, 226, 227, 228, 229]) (opsC [] s_gnomonlaw01_BitsPlays_r29p1 [227] (evOps call base [⟨some 228, (.call (.c (.fn 21 [] [])) [(.t 227)]), none⟩] f H)) := (row_op call it base s_gnomonlaw01_BitsPlays_r29p1 s_gnomonlaw01_BitsPlays_r29t2 (kc := [227]) (by kernel_rfl) f H).trans (by rw [row_ops]; rfl)
theorem s_gnomonlaw01_BitsPlays_r29p2_tale (fr : List V) (H : Heap) : evTale (symAll s_gnomonlaw01_BitsPlays_r29p2 [222, 223] [229]) [222, 223] fr H = evTale (some (230, [], [(229, (.op (.indexAddr 1 (.t 0) (.t 1)) [(.t 222), (.t 223)]))])) [222, 223] fr H := tale_row (items := [.sub 0 [] []]) (by kernel_rfl) fr H
theorem s_gnomonlaw01_BitsPlays_r29t2_x (call : CallF) (it : IterF) (base : Nat) (f : List V) (H : Heap) : evC call it base (.region s_gnomonlaw01_BitsPlays_r29t2 [] [222, 223, 224, 225, 226, 227, 228, 229]) f H = segC call it base s_gnomonlaw01_BitsPlays_r29t3 [222, 223, 224, 225, 226, 227, 228, 229] H (evTale (symAll s_gnomonlaw01_BitsPlays_r29p2 [222, 223] [229]) [222, 223] f H) (origRow call it base s_gnomonlaw01_BitsPlays_r29t2 [222, 223, 224, 225, 226, 227, 228, 229] f H) := row_seg call it base s_gnomonlaw01_BitsPlays_r29p2 s_gnomonlaw01_BitsPlays_r29t3 (by kernel_rfl) f H
theorem s_gnomonlaw01_BitsPlays_r29t3_x (call : CallF) (it : IterF) (base : Nat) (f : List V) (H : Heap) : evC call it base (.region s_gnomonlaw01_BitsPlays_r29t3 [] [222, 223, 224, 225, 226, 227, 228, 229]) f H = opsC [] s_gnomonlaw01_BitsPlays_r29t3 [222, 223, 224, 225, 226, 227, 228, 229] (evOps call base [⟨none, (.store 1 (.t 229) (.t 228)), none⟩] f H) := row_ops call it base _ _ f H
def s_gnomonlaw01_BitsPlays_r30t4 : List AOper := [⟨none, (.store 1 (.t 57) (.t 56)), none⟩]
def s_gnomonlaw01_BitsPlays_r30p3 : List AOper := [⟨some 57, (.indexAddr 1 (.t 44) (.t 45)), none⟩]
def s_gnomonlaw01_BitsPlays_r30t3 : List AOper := s_gnomonlaw01_BitsPlays_r30p3 ++ s_gnomonlaw01_BitsPlays_r30t4
def s_gnomonlaw01_BitsPlays_r30p2 : List AOper := [⟨some 56, (.call (.c (.fn 29 [] [])) [(.t 55)]), none⟩]
def s_gnomonlaw01_BitsPlays_r30t2 : List AOper := s_gnomonlaw01_BitsPlays_r30p2 ++ s_gnomonlaw01_BitsPlays_r30t3
def s_gnomonlaw01_BitsPlays_r30p1 : List AOper := [⟨some 55, (.buildSl 1 4 [(.s (.int .i64 0)), (.s (.int .i64 0)), (.s (.int .i64 0)), (.s (.int .i64 0))] [(0, (.t 47)), (1, (.t 50)), (2, (.t 52)), (3, (.t 54))]), none⟩]
def s_gnomonlaw01_BitsPlays_r30t1 : List AOper := s_gnomonlaw01_BitsPlays_r30p1 ++ s_gnomonlaw01_BitsPlays_r30t2
def s_gnomonlaw01_BitsPlays_r30p0 : List AOper := [⟨some 44, (.move (.t 4)), none⟩, ⟨some 45, (.move (.t 7)), none⟩, ⟨some 46, (.fieldAddr 3 (.t 6)), none⟩, ⟨some 47, (.load false 1 (.t 46)), none⟩, ⟨some 48, (.fieldAddr 3 (.t 6)), none⟩, ⟨some 49, (.load false 1 (.t 48)), none⟩, ⟨some 50, (.bin .add (.t 49) (.c (.s (.int .i64 1)))), none⟩, ⟨some 51, (.fieldAddr 2 (.t 6)), none⟩, ⟨some 52, (.load false 1 (.t 51)), none⟩, ⟨some 53, (.fieldAddr 3 (.t 6)), none⟩, ⟨some 54, (.load false 1 (.t 53)), none⟩]
def s_gnomonlaw01_BitsPlays_r30 : List AOper := s_gnomonlaw01_BitsPlays_r30p0 ++ s_gnomonlaw01_BitsPlays_r30t1
theorem s_gnomonlaw01_BitsPlays_r30p0_tale (fr : List V) (H : Heap) : evTale (symAll s_gnomonlaw01_BitsPlays_r30p0 [46, 48, 49, 51, 53, 213] [44, 45, 47, 50, 52, 54]) [46, 48, 49, 51, 53, 213] fr H = evTale (some (55, [], [(44, (.t 4)), (45, (.t 7)), (47, (.op (.load false 1 (.t 0)) [(.op (.fieldAddr 3 (.t 0)) [(.t 6)])])), (50, (.op (.bin .add (.t 0) (.c (.s (.int .i64 1)))) [(.op (.load false 1 (.t 0)) [(.op (.fieldAddr 3 (.t 0)) [(.t 6)])]), (.c (.s (.int .i64 1)))])), (52, (.op (.load false 1 (.t 0)) [(.op (.fieldAddr 2 (.t 0)) [(.t 6)])])), (54, (.op (.load false 1 (.t 0)) [(.op (.fieldAddr 3 (.t 0)) [(.t 6)])]))])) [46, 48, 49, 51, 53, 213] fr H := tale_row (items := [.tt 4, .tt 7, .sub 2 [0] [], .sub 2 [] [], .sub 2 [0] [], .sub 2 [] [], .sub 3 [] [], .sub 4 [0] [], .sub 4 [] [], .sub 2 [0] [], .sub 2 [] []]) (by kernel_rfl) fr H
theorem s_gnomonlaw01_BitsPlays_r30_x (call : CallF) (it : IterF) (base : Nat) (f : List V) (H : Heap) : evC call it base (.region s_gnomonlaw01_BitsPlays_r30 [] [44, 45, 46, 47, 48, 49, 50, 51, 52, 53, 54, 55, 56, 57, 213]) f H = segC call it base s_gnomonlaw01_BitsPlays_r30t1 [44, 45, 46, 47, 48, 49, 50, 51, 52, 53, 54, 55, 56, 57, 213] H (evTale (symAll s_gnomonlaw01_BitsPlays_r30p0 [46, 48, 49, 51, 53, 213] [44, 45, 47, 50, 52, 54]) [46, 48, 49, 51, 53, 213] f H) (origRow call it base s_gnomonlaw01_BitsPlays_r30 [44, 45, 46, 47, 48, 49, 50, 51, 52, 53, 54, 55, 56, 57, 213] f H) := row_seg call it base s_gnomonlaw01_BitsPlays_r30p0 s_gnomonlaw01_BitsPlays_r30t1 (by kernel_rfl) f H
theorem s_gnomonlaw01_BitsPlays_r30t1_x (call : CallF) (it : IterF) (base : Nat) (f : List V) (H : Heap) : evC call it base (.region s_gnomonlaw01_BitsPlays_r30t1 [] [44, 45, 46, 47, 48, 49, 50, 51, 52, 53, 54, 55, 56, 57, 213]) f H = thenC call it base (.region s_gnomonlaw01_BitsPlays_r30t2 [] [44, 45, 46, 47, 48, 49, 50, 51, 52, 53, 54, 55, 56, 57, 213]) (opsC [] s_gnomonlaw01_BitsPlays_r30p1 [47, 50, 52, 54] (evOps call base [⟨some 55, (.buildSl 1 4 [(.s (.int .i64 0)), (.s (.int .i64 0)), (.s (.int .i64 0)), (.s (.int .i64 0))] [(0, (.t 47)), (1, (.t 50)), (2, (.t 52)), (3, (.t 54))]), none⟩] f H)) := (row_op call it base s_gnomonlaw01_BitsPlays_r30p1 s_gnomonlaw01_BitsPlays_r30t2 (kc := [47, 50, 52, 54]) (by kernel_rfl) f H).trans (by rw [row_ops]; rfl)
theorem s_gnomonlaw01_BitsPlays_r30t2_x (call : CallF) (it : IterF) (base : Nat) (f : List V) (H : Heap) : evC call it base (.region s_gnomonlaw01_BitsPlays_r30t2 [] [44, 45, 46, 47, 48, 49, 50, 51, 52, 53, 54, 55, 56, 57, 213]) f H = thenC call it base (.region s_gnomonlaw01_BitsPlays_r30t3 [] [44, 45, 46, 47, 48, 49, 50, 51, 52, 53, 54, 55, 56, 57, 213]) (opsC [] s_gnomonlaw01_BitsPlays_r30p2 [55] (evOps call base [⟨some 56, (.call (.c (.fn 29 [] [])) [(.t 55)]), none⟩] f H)) := (row_op call it base s_gnomonlaw01_BitsPlays_r30p2 s_gnomonlaw01_BitsPlays_r30t3 (kc := [55]) (by kernel_rfl) f H).trans (by rw [row_ops]; rfl)
theorem s_gnomonlaw01_BitsPlays_r30p3_tale (fr : List V) (H : Heap) : evTale (symAll s_gnomonlaw01_BitsPlays_r30p3 [44, 45] [57]) [44, 45] fr H = evTale (some (58, [], [(57, (.op (.indexAddr 1 (.t 0) (.t 1)) [(.t 44), (.t 45)]))])) [44, 45] fr H := tale_row (items := [.sub 0 [] []]) (by kernel_rfl) fr H
theorem s_gnomonlaw01_BitsPlays_r30t3_x (call : CallF) (it : IterF) (base : Nat) (f : List V) (H : Heap) : evC call it base (.region s_gnomonlaw01_BitsPlays_r30t3 [] [44, 45, 46, 47, 48, 49, 50, 51, 52, 53, 54, 55, 56, 57, 213]) f H = segC call it base s_gnomonlaw01_BitsPlays_r30t4 [44, 45, 46, 47, 48, 49, 50, 51, 52, 53, 54, 55, 56, 57, 213] H (evTale (symAll s_gnomonlaw01_BitsPlays_r30p3 [44, 45] [57]) [44, 45] f H) (origRow call it base s_gnomonlaw01_BitsPlays_r30t3 [44, 45, 46, 47, 48, 49, 50, 51, 52, 53, 54, 55, 56, 57, 213] f H) := row_seg call it base s_gnomonlaw01_BitsPlays_r30p3 s_gnomonlaw01_BitsPlays_r30t4 (by kernel_rfl) f H
theorem s_gnomonlaw01_BitsPlays_r30t4_x (call : CallF) (it : IterF) (base : Nat) (f : List V) (H : Heap) : evC call it base (.region s_gnomonlaw01_BitsPlays_r30t4 [] [44, 45, 46, 47, 48, 49, 50, 51, 52, 53, 54, 55, 56, 57, 213]) f H = opsC [] s_gnomonlaw01_BitsPlays_r30t4 [44, 45, 46, 47, 48, 49, 50, 51, 52, 53, 54, 55, 56, 57, 213] (evOps call base [⟨none, (.store 1 (.t 57) (.t 56)), none⟩] f H) := row_ops call it base _ _ f H
def s_gnomonlaw01_BitsPlays_r31t4 : List AOper := [⟨none, (.store 1 (.t 71) (.t 70)), none⟩]
def s_gnomonlaw01_BitsPlays_r31p3 : List AOper := [⟨some 71, (.indexAddr 1 (.t 58) (.t 59)), none⟩]
def s_gnomonlaw01_BitsPlays_r31t3 : List AOper := s_gnomonlaw01_BitsPlays_r31p3 ++ s_gnomonlaw01_BitsPlays_r31t4
def s_gnomonlaw01_BitsPlays_r31p2 : List AOper := [⟨some 70, (.call (.c (.fn 11 [] [])) [(.t 69)]), none⟩]
def s_gnomonlaw01_BitsPlays_r31t2 : List AOper := s_gnomonlaw01_BitsPlays_r31p2 ++ s_gnomonlaw01_BitsPlays_r31t3
def s_gnomonlaw01_BitsPlays_r31p1 : List AOper := [⟨some 69, (.buildSl 1 4 [(.s (.int .i64 0)), (.s (.int .i64 0)), (.s (.int .i64 0)), (.s (.int .i64 0))] [(0, (.t 61)), (1, (.t 64)), (2, (.t 66)), (3, (.t 68))]), none⟩]
def s_gnomonlaw01_BitsPlays_r31t1 : List AOper := s_gnomonlaw01_BitsPlays_r31p1 ++ s_gnomonlaw01_BitsPlays_r31t2
def s_gnomonlaw01_BitsPlays_r31p0 : List AOper := [⟨some 58, (.move (.t 3)), none⟩, ⟨some 59, (.move (.t 7)), none⟩, ⟨some 60, (.fieldAddr 3 (.t 6)), none⟩, ⟨some 61, (.load false 1 (.t 60)), none⟩, ⟨some 62, (.fieldAddr 3 (.t 6)), none⟩, ⟨some 63, (.load false 1 (.t 62)), none⟩, ⟨some 64, (.bin .add (.t 63) (.c (.s (.int .i64 1)))), none⟩, ⟨some 65, (.fieldAddr 2 (.t 6)), none⟩, ⟨some 66, (.load false 1 (.t 65)), none⟩, ⟨some 67, (.fieldAddr 3 (.t 6)), none⟩, ⟨some 68, (.load false 1 (.t 67)), none⟩]
def s_gnomonlaw01_BitsPlays_r31 : List AOper := s_gnomonlaw01_BitsPlays_r31p0 ++ s_gnomonlaw01_BitsPlays_r31t1
theorem s_gnomonlaw01_BitsPlays_r31p0_tale (fr : List V) (H : Heap) : evTale (symAll s_gnomonlaw01_BitsPlays_r31p0 [60, 62, 63, 65, 67] [58, 59, 61, 64, 66, 68]) [60, 62, 63, 65, 67] fr H = evTale (some (69, [], [(58, (.t 3)), (59, (.t 7)), (61, (.op (.load false 1 (.t 0)) [(.op (.fieldAddr 3 (.t 0)) [(.t 6)])])), (64, (.op (.bin .add (.t 0) (.c (.s (.int .i64 1)))) [(.op (.load false 1 (.t 0)) [(.op (.fieldAddr 3 (.t 0)) [(.t 6)])]), (.c (.s (.int .i64 1)))])), (66, (.op (.load false 1 (.t 0)) [(.op (.fieldAddr 2 (.t 0)) [(.t 6)])])), (68, (.op (.load false 1 (.t 0)) [(.op (.fieldAddr 3 (.t 0)) [(.t 6)])]))])) [60, 62, 63, 65, 67] fr H := tale_row (items := [.tt 3, .tt 7, .sub 2 [0] [], .sub 2 [] [], .sub 2 [0] [], .sub 2 [] [], .sub 3 [] [], .sub 4 [0] [], .sub 4 [] [], .sub 2 [0] [], .sub 2 [] []]) (by kernel_rfl) fr H
theorem s_gnomonlaw01_BitsPlays_r31_x (call : CallF) (it : IterF) (base : Nat) (f : List V) (H : Heap) : evC call it base (.region s_gnomonlaw01_BitsPlays_r31 [] [58, 59, 60, 61, 62, 63, 64, 65, 66, 67, 68, 69, 70, 71]) f H = segC call it base s_gnomonlaw01_BitsPlays_r31t1 [58, 59, 60, 61, 62, 63, 64, 65, 66, 67, 68, 69, 70, 71] H (evTale (symAll s_gnomonlaw01_BitsPlays_r31p0 [60, 62, 63, 65, 67] [58, 59, 61, 64, 66, 68]) [60, 62, 63, 65, 67] f H) (origRow call it base s_gnomonlaw01_BitsPlays_r31 [58, 59, 60, 61, 62, 63, 64, 65, 66, 67, 68, 69, 70, 71] f H) := row_seg call it base s_gnomonlaw01_BitsPlays_r31p0 s_gnomonlaw01_BitsPlays_r31t1 (by kernel_rfl) f H
theorem s_gnomonlaw01_BitsPlays_r31t1_x (call : CallF) (it : IterF) (base : Nat) (f : List V) (H : Heap) : evC call it base (.region s_gnomonlaw01_BitsPlays_r31t1 [] [58, 59, 60, 61, 62, 63, 64, 65, 66, 67, 68, 69, 70, 71]) f H = thenC call it base (.region s_gnomonlaw01_BitsPlays_r31t2 [] [58, 59, 60, 61, 62, 63, 64, 65, 66, 67, 68, 69, 70, 71]) (opsC [] s_gnomonlaw01_BitsPlays_r31p1 [61, 64, 66, 68] (evOps call base [⟨some 69, (.buildSl 1 4 [(.s (.int .i64 0)), (.s (.int .i64 0)), (.s (.int .i64 0)), (.s (.int .i64 0))] [(0, (.t 61)), (1, (.t 64)), (2, (.t 66)), (3, (.t 68))]), none⟩] f H)) := (row_op call it base s_gnomonlaw01_BitsPlays_r31p1 s_gnomonlaw01_BitsPlays_r31t2 (kc := [61, 64, 66, 68]) (by kernel_rfl) f H).trans (by rw [row_ops]; rfl)
theorem s_gnomonlaw01_BitsPlays_r31t2_x (call : CallF) (it : IterF) (base : Nat) (f : List V) (H : Heap) : evC call it base (.region s_gnomonlaw01_BitsPlays_r31t2 [] [58, 59, 60, 61, 62, 63, 64, 65, 66, 67, 68, 69, 70, 71]) f H = thenC call it base (.region s_gnomonlaw01_BitsPlays_r31t3 [] [58, 59, 60, 61, 62, 63, 64, 65, 66, 67, 68, 69, 70, 71]) (opsC [] s_gnomonlaw01_BitsPlays_r31p2 [69] (evOps call base [⟨some 70, (.call (.c (.fn 11 [] [])) [(.t 69)]), none⟩] f H)) := (row_op call it base s_gnomonlaw01_BitsPlays_r31p2 s_gnomonlaw01_BitsPlays_r31t3 (kc := [69]) (by kernel_rfl) f H).trans (by rw [row_ops]; rfl)
theorem s_gnomonlaw01_BitsPlays_r31p3_tale (fr : List V) (H : Heap) : evTale (symAll s_gnomonlaw01_BitsPlays_r31p3 [58, 59] [71]) [58, 59] fr H = evTale (some (72, [], [(71, (.op (.indexAddr 1 (.t 0) (.t 1)) [(.t 58), (.t 59)]))])) [58, 59] fr H := tale_row (items := [.sub 0 [] []]) (by kernel_rfl) fr H
theorem s_gnomonlaw01_BitsPlays_r31t3_x (call : CallF) (it : IterF) (base : Nat) (f : List V) (H : Heap) : evC call it base (.region s_gnomonlaw01_BitsPlays_r31t3 [] [58, 59, 60, 61, 62, 63, 64, 65, 66, 67, 68, 69, 70, 71]) f H = segC call it base s_gnomonlaw01_BitsPlays_r31t4 [58, 59, 60, 61, 62, 63, 64, 65, 66, 67, 68, 69, 70, 71] H (evTale (symAll s_gnomonlaw01_BitsPlays_r31p3 [58, 59] [71]) [58, 59] f H) (origRow call it base s_gnomonlaw01_BitsPlays_r31t3 [58, 59, 60, 61, 62, 63, 64, 65, 66, 67, 68, 69, 70, 71] f H) := row_seg call it base s_gnomonlaw01_BitsPlays_r31p3 s_gnomonlaw01_BitsPlays_r31t4 (by kernel_rfl) f H
theorem s_gnomonlaw01_BitsPlays_r31t4_x (call : CallF) (it : IterF) (base : Nat) (f : List V) (H : Heap) : evC call it base (.region s_gnomonlaw01_BitsPlays_r31t4 [] [58, 59, 60, 61, 62, 63, 64, 65, 66, 67, 68, 69, 70, 71]) f H = opsC [] s_gnomonlaw01_BitsPlays_r31t4 [58, 59, 60, 61, 62, 63, 64, 65, 66, 67, 68, 69, 70, 71] (evOps call base [⟨none, (.store 1 (.t 71) (.t 70)), none⟩] f H) := row_ops call it base _ _ f H
def s_gnomonlaw01_BitsPlays_r32 : List AOper := [
  ⟨some 230, (.move (.t 10)), none⟩,
  ⟨some 231, (.un .not (.t 230)), none⟩]
theorem s_gnomonlaw01_BitsPlays_r32_tale (fr : List V) (H : Heap) : evTale (symAll s_gnomonlaw01_BitsPlays_r32 [10, 230] [231]) [10, 230] fr H = evTale (some (232, [], [(231, (.op (.un .not (.t 0)) [(.t 10)]))])) [10, 230] fr H := tale_row (items := [.tt 10, .sub 0 [] []]) (by kernel_rfl) fr H
def s_gnomonlaw01_BitsPlays_r33 : List AOper := [
  ⟨some 2, (.move (.c (.s (.bool false)))), none⟩]
theorem s_gnomonlaw01_BitsPlays_r33_tale (fr : List V) (H : Heap) : evTale (symAll s_gnomonlaw01_BitsPlays_r33 [0, 3, 4, 5, 6, 7, 8, 231] [2]) [0, 3, 4, 5, 6, 7, 8, 231] fr H = evTale (some (3, [], [(2, (.c (.s (.bool false))))])) [0, 3, 4, 5, 6, 7, 8, 231] fr H := tale_row (items := [.cc (.s (.bool false))]) (by kernel_rfl) fr H
def s_gnomonlaw01_BitsPlays_r34 : List AOper := [
  ⟨some 11, (.move (.c (.s (.int .i64 0)))), none⟩]
theorem s_gnomonlaw01_BitsPlays_r34_tale (fr : List V) (H : Heap) : evTale (symAll s_gnomonlaw01_BitsPlays_r34 [231] [11]) [231] fr H = evTale (some (12, [], [(11, (.c (.s (.int .i64 0))))])) [231] fr H := tale_row (items := [.cc (.s (.int .i64 0))]) (by kernel_rfl) fr H
def s_gnomonlaw01_BitsPlays_r35 : List AOper := [
  ⟨some 232, (.move (.t 11)), none⟩,
  ⟨some 233, (.bin .lss (.t 232) (.c (.s (.int .i64 4)))), none⟩]
theorem s_gnomonlaw01_BitsPlays_r35_tale (fr : List V) (H : Heap) : evTale (symAll s_gnomonlaw01_BitsPlays_r35 [232] [233]) [232] fr H = evTale (some (234, [], [(233, (.op (.bin .lss (.t 0) (.c (.s (.int .i64 4)))) [(.t 11), (.c (.s (.int .i64 4)))]))])) [232] fr H := tale_row (items := [.tt 11, .sub 0 [] []]) (by kernel_rfl) fr H
def s_gnomonlaw01_BitsPlays_r36t2 : List AOper := [⟨some 247, (.un .not (.t 246)), none⟩]
def s_gnomonlaw01_BitsPlays_r36p1 : List AOper := [⟨some 246, (.call (.c (.fn 30 [] [])) [(.t 239), (.t 243), (.t 245)]), none⟩]
def s_gnomonlaw01_BitsPlays_r36t1 : List AOper := s_gnomonlaw01_BitsPlays_r36p1 ++ s_gnomonlaw01_BitsPlays_r36t2
def s_gnomonlaw01_BitsPlays_r36p0 : List AOper := [⟨some 236, (.move (.t 3)), none⟩, ⟨some 237, (.move (.t 11)), none⟩, ⟨some 238, (.indexAddr 1 (.t 236) (.t 237)), none⟩, ⟨some 239, (.load false 1 (.t 238)), none⟩, ⟨some 240, (.move (.t 4)), none⟩, ⟨some 241, (.move (.t 11)), none⟩, ⟨some 242, (.indexAddr 1 (.t 240) (.t 241)), none⟩, ⟨some 243, (.load false 1 (.t 242)), none⟩, ⟨some 244, (.fieldAddr 3 (.t 6)), none⟩, ⟨some 245, (.load false 1 (.t 244)), none⟩]
def s_gnomonlaw01_BitsPlays_r36 : List AOper := s_gnomonlaw01_BitsPlays_r36p0 ++ s_gnomonlaw01_BitsPlays_r36t1
theorem s_gnomonlaw01_BitsPlays_r36p0_tale (fr : List V) (H : Heap) : evTale (symAll s_gnomonlaw01_BitsPlays_r36p0 [233, 236, 237, 238, 240, 241, 242, 244] [239, 243, 245]) [233, 236, 237, 238, 240, 241, 242, 244] fr H = evTale (some (246, [], [(239, (.op (.load false 1 (.t 0)) [(.op (.indexAddr 1 (.t 0) (.t 1)) [(.t 3), (.t 11)])])), (243, (.op (.load false 1 (.t 0)) [(.op (.indexAddr 1 (.t 0) (.t 1)) [(.t 4), (.t 11)])])), (245, (.op (.load false 1 (.t 0)) [(.op (.fieldAddr 3 (.t 0)) [(.t 6)])]))])) [233, 236, 237, 238, 240, 241, 242, 244] fr H := tale_row (items := [.tt 3, .tt 11, .sub 0 [0] [], .sub 0 [] [], .tt 4, .tt 11, .sub 1 [0] [], .sub 1 [] [], .sub 2 [0] [], .sub 2 [] []]) (by kernel_rfl) fr H
theorem s_gnomonlaw01_BitsPlays_r36_x (call : CallF) (it : IterF) (base : Nat) (f : List V) (H : Heap) : evC call it base (.region s_gnomonlaw01_BitsPlays_r36 [] [233, 236, 237, 238, 239, 240, 241, 242, 243, 244, 245, 246]) f H = segC call it base s_gnomonlaw01_BitsPlays_r36t1 [233, 236, 237, 238, 239, 240, 241, 242, 243, 244, 245, 246] H (evTale (symAll s_gnomonlaw01_BitsPlays_r36p0 [233, 236, 237, 238, 240, 241, 242, 244] [239, 243, 245]) [233, 236, 237, 238, 240, 241, 242, 244] f H) (origRow call it base s_gnomonlaw01_BitsPlays_r36 [233, 236, 237, 238, 239, 240, 241, 242, 243, 244, 245, 246] f H) := row_seg call it base s_gnomonlaw01_BitsPlays_r36p0 s_gnomonlaw01_BitsPlays_r36t1 (by kernel_rfl) f H
theorem s_gnomonlaw01_BitsPlays_r36t1_x (call : CallF) (it : IterF) (base : Nat) (f : List V) (H : Heap) : evC call it base (.region s_gnomonlaw01_BitsPlays_r36t1 [] [233, 236, 237, 238, 239, 240, 241, 242, 243, 244, 245, 246]) f H = thenC call it base (.region s_gnomonlaw01_BitsPlays_r36t2 [] [233, 236, 237, 238, 239, 240, 241, 242, 243, 244, 245, 246]) (opsC [] s_gnomonlaw01_BitsPlays_r36p1 [239, 243, 245] (evOps call base [⟨some 246, (.call (.c (.fn 30 [] [])) [(.t 239), (.t 243), (.t 245)]), none⟩] f H)) := (row_op call it base s_gnomonlaw01_BitsPlays_r36p1 s_gnomonlaw01_BitsPlays_r36t2 (kc := [239, 243, 245]) (by kernel_rfl) f H).trans (by rw [row_ops]; rfl)
theorem s_gnomonlaw01_BitsPlays_r36t2_tale (fr : List V) (H : Heap) : evTale (symAll s_gnomonlaw01_BitsPlays_r36t2 [233, 236, 237, 238, 239, 240, 241, 242, 243, 244, 245, 246] [247]) [233, 236, 237, 238, 239, 240, 241, 242, 243, 244, 245, 246] fr H = evTale (some (248, [], [(247, (.op (.un .not (.t 0)) [(.t 246)]))])) [233, 236, 237, 238, 239, 240, 241, 242, 243, 244, 245, 246] fr H := tale_row (items := [.sub 0 [] []]) (by kernel_rfl) fr H
theorem s_gnomonlaw01_BitsPlays_r36t2_x (call : CallF) (it : IterF) (base : Nat) (f : List V) (H : Heap) : evC call it base (.region s_gnomonlaw01_BitsPlays_r36t2 [] [233, 236, 237, 238, 239, 240, 241, 242, 243, 244, 245, 246]) f H = segL H (evTale (symAll s_gnomonlaw01_BitsPlays_r36t2 [233, 236, 237, 238, 239, 240, 241, 242, 243, 244, 245, 246] [247]) [233, 236, 237, 238, 239, 240, 241, 242, 243, 244, 245, 246] f H) (origRow call it base s_gnomonlaw01_BitsPlays_r36t2 [233, 236, 237, 238, 239, 240, 241, 242, 243, 244, 245, 246] f H) := row_last call it base _ f H
def s_gnomonlaw01_BitsPlays_r37 : List AOper := [
  ⟨some 2, (.move (.c (.s (.bool false)))), none⟩]
theorem s_gnomonlaw01_BitsPlays_r37_tale (fr : List V) (H : Heap) : evTale (symAll s_gnomonlaw01_BitsPlays_r37 [0, 3, 4, 5, 6, 7, 8, 11, 247] [2]) [0, 3, 4, 5, 6, 7, 8, 11, 247] fr H = evTale (some (3, [], [(2, (.c (.s (.bool false))))])) [0, 3, 4, 5, 6, 7, 8, 11, 247] fr H := tale_row (items := [.cc (.s (.bool false))]) (by kernel_rfl) fr H
def s_gnomonlaw01_BitsPlays_r38 : List AOper := [
  ⟨some 234, (.move (.t 11)), none⟩,
  ⟨some 235, (.bin .add (.t 234) (.c (.s (.int .i64 1)))), none⟩,
  ⟨some 11, (.move (.t 235)), none⟩]
theorem s_gnomonlaw01_BitsPlays_r38_tale (fr : List V) (H : Heap) : evTale (symAll s_gnomonlaw01_BitsPlays_r38 [234, 235, 247] [11]) [234, 235, 247] fr H = evTale (some (236, [], [(11, (.op (.bin .add (.t 0) (.c (.s (.int .i64 1)))) [(.t 11), (.c (.s (.int .i64 1)))]))])) [234, 235, 247] fr H := tale_row (items := [.tt 11, .sub 0 [] [], .sub 0 [] []]) (by kernel_rfl) fr H
def s_gnomonlaw01_BitsPlays_l0_b : ACode :=
  (.seq (.seq (.regionE s_gnomonlaw01_BitsPlays_r35 [232] [233])
  (.cond (.t 233)
  .skip
  (.exit 3)))
  (.seq (.block 4
  (.seq (.region s_gnomonlaw01_BitsPlays_r36 [] [233, 236, 237, 238, 239, 240, 241, 242, 243, 244, 245, 246])
  (.cond (.t 247)
  (.seq (.regionE s_gnomonlaw01_BitsPlays_r37 [0, 3, 4, 5, 6, 7, 8, 11, 247] [2])
  .ret)
  .skip)))
  (.regionE s_gnomonlaw01_BitsPlays_r38 [234, 235, 247] [11])))
def s_gnomonlaw01_BitsPlays_l0 : ACode := s_gnomonlaw01_BitsPlays_l0_b
theorem s_gnomonlaw01_BitsPlays_l0_ev (call : CallF) (it : IterF) (base : Nat) (fr : List V) (H : Heap) : evC call it base s_gnomonlaw01_BitsPlays_l0 fr H = evC call it base s_gnomonlaw01_BitsPlays_l0_b fr H := rfl
def s_gnomonlaw01_BitsPlays_r39t23 : List AOper := [⟨some 286, (.lenS .s (.t 285)), some (267, false)⟩, ⟨some 287, (.bin .eql (.t 286) (.c (.s (.int .i64 0)))), some (267, false)⟩, ⟨some 288, (.eqB true (.t 276) (.t 287)), some (267, false)⟩, ⟨some 289, (.pick (.t 267) (.c (.s (.bool true))) (.t 288)), none⟩]
def s_gnomonlaw01_BitsPlays_r39p22 : List AOper := [⟨some 285, (.call (.c (.fn 27 [] [])) [(.t 280), (.t 284), (.c (.s (.bool false)))]), some (267, false)⟩]
def s_gnomonlaw01_BitsPlays_r39t22 : List AOper := s_gnomonlaw01_BitsPlays_r39p22 ++ s_gnomonlaw01_BitsPlays_r39t23
def s_gnomonlaw01_BitsPlays_r39p21 : List AOper := [⟨some 284, (.load false 1 (.t 283)), some (267, false)⟩]
def s_gnomonlaw01_BitsPlays_r39t21 : List AOper := s_gnomonlaw01_BitsPlays_r39p21 ++ s_gnomonlaw01_BitsPlays_r39t22
def s_gnomonlaw01_BitsPlays_r39p20 : List AOper := [⟨some 283, (.indexAddr 1 (.t 281) (.t 282)), some (267, false)⟩]
def s_gnomonlaw01_BitsPlays_r39t20 : List AOper := s_gnomonlaw01_BitsPlays_r39p20 ++ s_gnomonlaw01_BitsPlays_r39t21
def s_gnomonlaw01_BitsPlays_r39p19 : List AOper := [⟨some 282, (.move (.t 8)), some (267, false)⟩]
def s_gnomonlaw01_BitsPlays_r39t19 : List AOper := s_gnomonlaw01_BitsPlays_r39p19 ++ s_gnomonlaw01_BitsPlays_r39t20
def s_gnomonlaw01_BitsPlays_r39p18 : List AOper := [⟨some 281, (.move (.t 4)), some (267, false)⟩]
def s_gnomonlaw01_BitsPlays_r39t18 : List AOper := s_gnomonlaw01_BitsPlays_r39p18 ++ s_gnomonlaw01_BitsPlays_r39t19
def s_gnomonlaw01_BitsPlays_r39p17 : List AOper := [⟨some 280, (.load false 1 (.t 279)), some (267, false)⟩]
def s_gnomonlaw01_BitsPlays_r39t17 : List AOper := s_gnomonlaw01_BitsPlays_r39p17 ++ s_gnomonlaw01_BitsPlays_r39t18
def s_gnomonlaw01_BitsPlays_r39p16 : List AOper := [⟨some 279, (.indexAddr 1 (.t 277) (.t 278)), some (267, false)⟩]
def s_gnomonlaw01_BitsPlays_r39t16 : List AOper := s_gnomonlaw01_BitsPlays_r39p16 ++ s_gnomonlaw01_BitsPlays_r39t17
def s_gnomonlaw01_BitsPlays_r39p15 : List AOper := [⟨some 278, (.move (.t 7)), some (267, false)⟩]
def s_gnomonlaw01_BitsPlays_r39t15 : List AOper := s_gnomonlaw01_BitsPlays_r39p15 ++ s_gnomonlaw01_BitsPlays_r39t16
def s_gnomonlaw01_BitsPlays_r39p14 : List AOper := [⟨some 277, (.move (.t 4)), some (267, false)⟩]
def s_gnomonlaw01_BitsPlays_r39t14 : List AOper := s_gnomonlaw01_BitsPlays_r39p14 ++ s_gnomonlaw01_BitsPlays_r39t15
def s_gnomonlaw01_BitsPlays_r39p13 : List AOper := [⟨some 276, (.callR (.c (.fn 25 [] [])) [(.t 271), (.t 275)]), some (267, false)⟩]
def s_gnomonlaw01_BitsPlays_r39t13 : List AOper := s_gnomonlaw01_BitsPlays_r39p13 ++ s_gnomonlaw01_BitsPlays_r39t14
def s_gnomonlaw01_BitsPlays_r39p12 : List AOper := [⟨some 275, (.load false 1 (.t 274)), some (267, false)⟩]
def s_gnomonlaw01_BitsPlays_r39t12 : List AOper := s_gnomonlaw01_BitsPlays_r39p12 ++ s_gnomonlaw01_BitsPlays_r39t13
def s_gnomonlaw01_BitsPlays_r39p11 : List AOper := [⟨some 274, (.indexAddr 1 (.t 272) (.t 273)), some (267, false)⟩]
def s_gnomonlaw01_BitsPlays_r39t11 : List AOper := s_gnomonlaw01_BitsPlays_r39p11 ++ s_gnomonlaw01_BitsPlays_r39t12
def s_gnomonlaw01_BitsPlays_r39p10 : List AOper := [⟨some 273, (.move (.t 8)), some (267, false)⟩]
def s_gnomonlaw01_BitsPlays_r39t10 : List AOper := s_gnomonlaw01_BitsPlays_r39p10 ++ s_gnomonlaw01_BitsPlays_r39t11
def s_gnomonlaw01_BitsPlays_r39p9 : List AOper := [⟨some 272, (.move (.t 3)), some (267, false)⟩]
def s_gnomonlaw01_BitsPlays_r39t9 : List AOper := s_gnomonlaw01_BitsPlays_r39p9 ++ s_gnomonlaw01_BitsPlays_r39t10
def s_gnomonlaw01_BitsPlays_r39p8 : List AOper := [⟨some 271, (.load false 1 (.t 270)), some (267, false)⟩]
def s_gnomonlaw01_BitsPlays_r39t8 : List AOper := s_gnomonlaw01_BitsPlays_r39p8 ++ s_gnomonlaw01_BitsPlays_r39t9
def s_gnomonlaw01_BitsPlays_r39p7 : List AOper := [⟨some 270, (.indexAddr 1 (.t 268) (.t 269)), some (267, false)⟩]
def s_gnomonlaw01_BitsPlays_r39t7 : List AOper := s_gnomonlaw01_BitsPlays_r39p7 ++ s_gnomonlaw01_BitsPlays_r39t8
def s_gnomonlaw01_BitsPlays_r39p6 : List AOper := [⟨some 269, (.move (.t 7)), some (267, false)⟩]
def s_gnomonlaw01_BitsPlays_r39t6 : List AOper := s_gnomonlaw01_BitsPlays_r39p6 ++ s_gnomonlaw01_BitsPlays_r39t7
def s_gnomonlaw01_BitsPlays_r39p5 : List AOper := [⟨some 268, (.move (.t 3)), some (267, false)⟩]
def s_gnomonlaw01_BitsPlays_r39t5 : List AOper := s_gnomonlaw01_BitsPlays_r39p5 ++ s_gnomonlaw01_BitsPlays_r39t6
def s_gnomonlaw01_BitsPlays_r39p4 : List AOper := [⟨some 266, (.eqB true (.t 256) (.t 265)), none⟩, ⟨some 267, (.move (.t 266)), none⟩]
def s_gnomonlaw01_BitsPlays_r39t4 : List AOper := s_gnomonlaw01_BitsPlays_r39p4 ++ s_gnomonlaw01_BitsPlays_r39t5
def s_gnomonlaw01_BitsPlays_r39p3 : List AOper := [⟨some 265, (.call (.c (.fn 15 [] [])) [(.t 260), (.t 264)]), none⟩]
def s_gnomonlaw01_BitsPlays_r39t3 : List AOper := s_gnomonlaw01_BitsPlays_r39p3 ++ s_gnomonlaw01_BitsPlays_r39t4
def s_gnomonlaw01_BitsPlays_r39p2 : List AOper := [⟨some 257, (.move (.t 4)), none⟩, ⟨some 258, (.move (.t 7)), none⟩, ⟨some 259, (.indexAddr 1 (.t 257) (.t 258)), none⟩, ⟨some 260, (.load false 1 (.t 259)), none⟩, ⟨some 261, (.move (.t 4)), none⟩, ⟨some 262, (.move (.t 8)), none⟩, ⟨some 263, (.indexAddr 1 (.t 261) (.t 262)), none⟩, ⟨some 264, (.load false 1 (.t 263)), none⟩]
def s_gnomonlaw01_BitsPlays_r39t2 : List AOper := s_gnomonlaw01_BitsPlays_r39p2 ++ s_gnomonlaw01_BitsPlays_r39t3
def s_gnomonlaw01_BitsPlays_r39p1 : List AOper := [⟨some 256, (.callR (.c (.fn 14 [] [])) [(.t 251), (.t 255)]), none⟩]
def s_gnomonlaw01_BitsPlays_r39t1 : List AOper := s_gnomonlaw01_BitsPlays_r39p1 ++ s_gnomonlaw01_BitsPlays_r39t2
def s_gnomonlaw01_BitsPlays_r39p0 : List AOper := [⟨some 248, (.move (.t 3)), none⟩, ⟨some 249, (.move (.t 7)), none⟩, ⟨some 250, (.indexAddr 1 (.t 248) (.t 249)), none⟩, ⟨some 251, (.load false 1 (.t 250)), none⟩, ⟨some 252, (.move (.t 3)), none⟩, ⟨some 253, (.move (.t 8)), none⟩, ⟨some 254, (.indexAddr 1 (.t 252) (.t 253)), none⟩, ⟨some 255, (.load false 1 (.t 254)), none⟩]
def s_gnomonlaw01_BitsPlays_r39 : List AOper := s_gnomonlaw01_BitsPlays_r39p0 ++ s_gnomonlaw01_BitsPlays_r39t1
theorem s_gnomonlaw01_BitsPlays_r39p0_tale (fr : List V) (H : Heap) : evTale (symAll s_gnomonlaw01_BitsPlays_r39p0 [6, 11, 233, 248, 249, 250, 252, 253, 254] [251, 255]) [6, 11, 233, 248, 249, 250, 252, 253, 254] fr H = evTale (some (256, [], [(251, (.op (.load false 1 (.t 0)) [(.op (.indexAddr 1 (.t 0) (.t 1)) [(.t 3), (.t 7)])])), (255, (.op (.load false 1 (.t 0)) [(.op (.indexAddr 1 (.t 0) (.t 1)) [(.t 3), (.t 8)])]))])) [6, 11, 233, 248, 249, 250, 252, 253, 254] fr H := tale_row (items := [.tt 3, .tt 7, .sub 0 [0] [], .sub 0 [] [], .tt 3, .tt 8, .sub 1 [0] [], .sub 1 [] []]) (by kernel_rfl) fr H
theorem s_gnomonlaw01_BitsPlays_r39_x (call : CallF) (it : IterF) (base : Nat) (f : List V) (H : Heap) : evC call it base (.region s_gnomonlaw01_BitsPlays_r39 [] [6, 7, 8, 11, 233, 248, 249, 250, 251, 252, 253, 254, 255, 256, 257, 258, 259, 260, 261, 262, 263, 264, 265, 266, 267, 268, 269, 270, 271, 272, 273, 274, 275, 276, 277, 278, 279, 280, 281, 282, 283, 284, 285, 286, 287, 288]) f H = segC call it base s_gnomonlaw01_BitsPlays_r39t1 [6, 7, 8, 11, 233, 248, 249, 250, 251, 252, 253, 254, 255, 256, 257, 258, 259, 260, 261, 262, 263, 264, 265, 266, 267, 268, 269, 270, 271, 272, 273, 274, 275, 276, 277, 278, 279, 280, 281, 282, 283, 284, 285, 286, 287, 288] H (evTale (symAll s_gnomonlaw01_BitsPlays_r39p0 [6, 11, 233, 248, 249, 250, 252, 253, 254] [251, 255]) [6, 11, 233, 248, 249, 250, 252, 253, 254] f H) (origRow call it base s_gnomonlaw01_BitsPlays_r39 [6, 7, 8, 11, 233, 248, 249, 250, 251, 252, 253, 254, 255, 256, 257, 258, 259, 260, 261, 262, 263, 264, 265, 266, 267, 268, 269, 270, 271, 272, 273, 274, 275, 276, 277, 278, 279, 280, 281, 282, 283, 284, 285, 286, 287, 288] f H) := row_seg call it base s_gnomonlaw01_BitsPlays_r39p0 s_gnomonlaw01_BitsPlays_r39t1 (by kernel_rfl) f H
theorem s_gnomonlaw01_BitsPlays_r39t1_x (call : CallF) (it : IterF) (base : Nat) (f : List V) (H : Heap) : evC call it base (.region s_gnomonlaw01_BitsPlays_r39t1 [] [6, 7, 8, 11, 233, 248, 249, 250, 251, 252, 253, 254, 255, 256, 257, 258, 259, 260, 261, 262, 263, 264, 265, 266, 267, 268, 269, 270, 271, 272, 273, 274, 275, 276, 277, 278, 279, 280, 281, 282, 283, 284, 285, 286, 287, 288]) f H = thenC call it base (.region s_gnomonlaw01_BitsPlays_r39t2 [] [6, 7, 8, 11, 233, 248, 249, 250, 251, 252, 253, 254, 255, 256, 257, 258, 259, 260, 261, 262, 263, 264, 265, 266, 267, 268, 269, 270, 271, 272, 273, 274, 275, 276, 277, 278, 279, 280, 281, 282, 283, 284, 285, 286, 287, 288]) (opsC [] s_gnomonlaw01_BitsPlays_r39p1 [251, 255] (evOps call base [⟨some 256, (.callR (.c (.fn 14 [] [])) [(.t 251), (.t 255)]), none⟩] f H)) := (row_op call it base s_gnomonlaw01_BitsPlays_r39p1 s_gnomonlaw01_BitsPlays_r39t2 (kc := [251, 255]) (by kernel_rfl) f H).trans (by rw [row_ops]; rfl)
theorem s_gnomonlaw01_BitsPlays_r39p2_tale (fr : List V) (H : Heap) : evTale (symAll s_gnomonlaw01_BitsPlays_r39p2 [257, 258, 259, 261, 262, 263] [260, 264]) [257, 258, 259, 261, 262, 263] fr H = evTale (some (265, [], [(260, (.op (.load false 1 (.t 0)) [(.op (.indexAddr 1 (.t 0) (.t 1)) [(.t 4), (.t 7)])])), (264, (.op (.load false 1 (.t 0)) [(.op (.indexAddr 1 (.t 0) (.t 1)) [(.t 4), (.t 8)])]))])) [257, 258, 259, 261, 262, 263] fr H := tale_row (items := [.tt 4, .tt 7, .sub 0 [0] [], .sub 0 [] [], .tt 4, .tt 8, .sub 1 [0] [], .sub 1 [] []]) (by kernel_rfl) fr H
theorem s_gnomonlaw01_BitsPlays_r39t2_x (call : CallF) (it : IterF) (base : Nat) (f : List V) (H : Heap) : evC call it base (.region s_gnomonlaw01_BitsPlays_r39t2 [] [6, 7, 8, 11, 233, 248, 249, 250, 251, 252, 253, 254, 255, 256, 257, 258, 259, 260, 261, 262, 263, 264, 265, 266, 267, 268, 269, 270, 271, 272, 273, 274, 275, 276, 277, 278, 279, 280, 281, 282, 283, 284, 285, 286, 287, 288]) f H = segC call it base s_gnomonlaw01_BitsPlays_r39t3 [6, 7, 8, 11, 233, 248, 249, 250, 251, 252, 253, 254, 255, 256, 257, 258, 259, 260, 261, 262, 263, 264, 265, 266, 267, 268, 269, 270, 271, 272, 273, 274, 275, 276, 277, 278, 279, 280, 281, 282, 283, 284, 285, 286, 287, 288] H (evTale (symAll s_gnomonlaw01_BitsPlays_r39p2 [257, 258, 259, 261, 262, 263] [260, 264]) [257, 258, 259, 261, 262, 263] f H) (origRow call it base s_gnomonlaw01_BitsPlays_r39t2 [6, 7, 8, 11, 233, 248, 249, 250, 251, 252, 253, 254, 255, 256, 257, 258, 259, 260, 261, 262, 263, 264, 265, 266, 267, 268, 269, 270, 271, 272, 273, 274, 275, 276, 277, 278, 279, 280, 281, 282, 283, 284, 285, 286, 287, 288] f H) := row_seg call it base s_gnomonlaw01_BitsPlays_r39p2 s_gnomonlaw01_BitsPlays_r39t3 (by kernel_rfl) f H
theorem s_gnomonlaw01_BitsPlays_r39t3_x (call : CallF) (it : IterF) (base : Nat) (f : List V) (H : Heap) : evC call it base (.region s_gnomonlaw01_BitsPlays_r39t3 [] [6, 7, 8, 11, 233, 248, 249, 250, 251, 252, 253, 254, 255, 256, 257, 258, 259, 260, 261, 262, 263, 264, 265, 266, 267, 268, 269, 270, 271, 272, 273, 274, 275, 276, 277, 278, 279, 280, 281, 282, 283, 284, 285, 286, 287, 288]) f H = thenC call it base (.region s_gnomonlaw01_BitsPlays_r39t4 [] [6, 7, 8, 11, 233, 248, 249, 250, 251, 252, 253, 254, 255, 256, 257, 258, 259, 260, 261, 262, 263, 264, 265, 266, 267, 268, 269, 270, 271, 272, 273, 274, 275, 276, 277, 278, 279, 280, 281, 282, 283, 284, 285, 286, 287, 288]) (opsC [] s_gnomonlaw01_BitsPlays_r39p3 [260, 264] (evOps call base [⟨some 265, (.call (.c (.fn 15 [] [])) [(.t 260), (.t 264)]), none⟩] f H)) := (row_op call it base s_gnomonlaw01_BitsPlays_r39p3 s_gnomonlaw01_BitsPlays_r39t4 (kc := [260, 264]) (by kernel_rfl) f H).trans (by rw [row_ops]; rfl)
theorem s_gnomonlaw01_BitsPlays_r39p4_tale (fr : List V) (H : Heap) : evTale (symAll s_gnomonlaw01_BitsPlays_r39p4 [256, 265, 266] [267]) [256, 265, 266] fr H = evTale (some (268, [], [(267, (.op (.eqB true (.t 0) (.t 1)) [(.t 256), (.t 265)]))])) [256, 265, 266] fr H := tale_row (items := [.sub 0 [] [], .sub 0 [] []]) (by kernel_rfl) fr H
theorem s_gnomonlaw01_BitsPlays_r39t4_x (call : CallF) (it : IterF) (base : Nat) (f : List V) (H : Heap) : evC call it base (.region s_gnomonlaw01_BitsPlays_r39t4 [] [6, 7, 8, 11, 233, 248, 249, 250, 251, 252, 253, 254, 255, 256, 257, 258, 259, 260, 261, 262, 263, 264, 265, 266, 267, 268, 269, 270, 271, 272, 273, 274, 275, 276, 277, 278, 279, 280, 281, 282, 283, 284, 285, 286, 287, 288]) f H = segC call it base s_gnomonlaw01_BitsPlays_r39t5 [6, 7, 8, 11, 233, 248, 249, 250, 251, 252, 253, 254, 255, 256, 257, 258, 259, 260, 261, 262, 263, 264, 265, 266, 267, 268, 269, 270, 271, 272, 273, 274, 275, 276, 277, 278, 279, 280, 281, 282, 283, 284, 285, 286, 287, 288] H (evTale (symAll s_gnomonlaw01_BitsPlays_r39p4 [256, 265, 266] [267]) [256, 265, 266] f H) (origRow call it base s_gnomonlaw01_BitsPlays_r39t4 [6, 7, 8, 11, 233, 248, 249, 250, 251, 252, 253, 254, 255, 256, 257, 258, 259, 260, 261, 262, 263, 264, 265, 266, 267, 268, 269, 270, 271, 272, 273, 274, 275, 276, 277, 278, 279, 280, 281, 282, 283, 284, 285, 286, 287, 288] f H) := row_seg call it base s_gnomonlaw01_BitsPlays_r39p4 s_gnomonlaw01_BitsPlays_r39t5 (by kernel_rfl) f H
theorem s_gnomonlaw01_BitsPlays_r39t5_x (call : CallF) (it : IterF) (base : Nat) (f : List V) (H : Heap) : evC call it base (.region s_gnomonlaw01_BitsPlays_r39t5 [] [6, 7, 8, 11, 233, 248, 249, 250, 251, 252, 253, 254, 255, 256, 257, 258, 259, 260, 261, 262, 263, 264, 265, 266, 267, 268, 269, 270, 271, 272, 273, 274, 275, 276, 277, 278, 279, 280, 281, 282, 283, 284, 285, 286, 287, 288]) f H = thenC call it base (.region s_gnomonlaw01_BitsPlays_r39t6 [] [6, 7, 8, 11, 233, 248, 249, 250, 251, 252, 253, 254, 255, 256, 257, 258, 259, 260, 261, 262, 263, 264, 265, 266, 267, 268, 269, 270, 271, 272, 273, 274, 275, 276, 277, 278, 279, 280, 281, 282, 283, 284, 285, 286, 287, 288]) (opsC [] s_gnomonlaw01_BitsPlays_r39p5 [] (evOps call base [⟨some 268, (.move (.t 3)), some (267, false)⟩] f H)) := (row_op call it base s_gnomonlaw01_BitsPlays_r39p5 s_gnomonlaw01_BitsPlays_r39t6 (kc := []) (by kernel_rfl) f H).trans (by rw [row_ops]; rfl)
theorem s_gnomonlaw01_BitsPlays_r39t6_x (call : CallF) (it : IterF) (base : Nat) (f : List V) (H : Heap) : evC call it base (.region s_gnomonlaw01_BitsPlays_r39t6 [] [6, 7, 8, 11, 233, 248, 249, 250, 251, 252, 253, 254, 255, 256, 257, 258, 259, 260, 261, 262, 263, 264, 265, 266, 267, 268, 269, 270, 271, 272, 273, 274, 275, 276, 277, 278, 279, 280, 281, 282, 283, 284, 285, 286, 287, 288]) f H = thenC call it base (.region s_gnomonlaw01_BitsPlays_r39t7 [] [6, 7, 8, 11, 233, 248, 249, 250, 251, 252, 253, 254, 255, 256, 257, 258, 259, 260, 261, 262, 263, 264, 265, 266, 267, 268, 269, 270, 271, 272, 273, 274, 275, 276, 277, 278, 279, 280, 281, 282, 283, 284, 285, 286, 287, 288]) (opsC [] s_gnomonlaw01_BitsPlays_r39p6 [] (evOps call base [⟨some 269, (.move (.t 7)), some (267, false)⟩] f H)) := (row_op call it base s_gnomonlaw01_BitsPlays_r39p6 s_gnomonlaw01_BitsPlays_r39t7 (kc := []) (by kernel_rfl) f H).trans (by rw [row_ops]; rfl)
theorem s_gnomonlaw01_BitsPlays_r39t7_x (call : CallF) (it : IterF) (base : Nat) (f : List V) (H : Heap) : evC call it base (.region s_gnomonlaw01_BitsPlays_r39t7 [] [6, 7, 8, 11, 233, 248, 249, 250, 251, 252, 253, 254, 255, 256, 257, 258, 259, 260, 261, 262, 263, 264, 265, 266, 267, 268, 269, 270, 271, 272, 273, 274, 275, 276, 277, 278, 279, 280, 281, 282, 283, 284, 285, 286, 287, 288]) f H = thenC call it base (.region s_gnomonlaw01_BitsPlays_r39t8 [] [6, 7, 8, 11, 233, 248, 249, 250, 251, 252, 253, 254, 255, 256, 257, 258, 259, 260, 261, 262, 263, 264, 265, 266, 267, 268, 269, 270, 271, 272, 273, 274, 275, 276, 277, 278, 279, 280, 281, 282, 283, 284, 285, 286, 287, 288]) (opsC [] s_gnomonlaw01_BitsPlays_r39p7 [268, 269] (evOps call base [⟨some 270, (.indexAddr 1 (.t 268) (.t 269)), some (267, false)⟩] f H)) := (row_op call it base s_gnomonlaw01_BitsPlays_r39p7 s_gnomonlaw01_BitsPlays_r39t8 (kc := [268, 269]) (by kernel_rfl) f H).trans (by rw [row_ops]; rfl)
theorem s_gnomonlaw01_BitsPlays_r39t8_x (call : CallF) (it : IterF) (base : Nat) (f : List V) (H : Heap) : evC call it base (.region s_gnomonlaw01_BitsPlays_r39t8 [] [6, 7, 8, 11, 233, 248, 249, 250, 251, 252, 253, 254, 255, 256, 257, 258, 259, 260, 261, 262, 263, 264, 265, 266, 267, 268, 269, 270, 271, 272, 273, 274, 275, 276, 277, 278, 279, 280, 281, 282, 283, 284, 285, 286, 287, 288]) f H = thenC call it base (.region s_gnomonlaw01_BitsPlays_r39t9 [] [6, 7, 8, 11, 233, 248, 249, 250, 251, 252, 253, 254, 255, 256, 257, 258, 259, 260, 261, 262, 263, 264, 265, 266, 267, 268, 269, 270, 271, 272, 273, 274, 275, 276, 277, 278, 279, 280, 281, 282, 283, 284, 285, 286, 287, 288]) (opsC [] s_gnomonlaw01_BitsPlays_r39p8 [270] (evOps call base [⟨some 271, (.load false 1 (.t 270)), some (267, false)⟩] f H)) := (row_op call it base s_gnomonlaw01_BitsPlays_r39p8 s_gnomonlaw01_BitsPlays_r39t9 (kc := [270]) (by kernel_rfl) f H).trans (by rw [row_ops]; rfl)
theorem s_gnomonlaw01_BitsPlays_r39t9_x (call : CallF) (it : IterF) (base : Nat) (f : List V) (H : Heap) : evC call it base (.region s_gnomonlaw01_BitsPlays_r39t9 [] [6, 7, 8, 11, 233, 248, 249, 250, 251, 252, 253, 254, 255, 256, 257, 258, 259, 260, 261, 262, 263, 264, 265, 266, 267, 268, 269, 270, 271, 272, 273, 274, 275, 276, 277, 278, 279, 280, 281, 282, 283, 284, 285, 286, 287, 288]) f H = thenC call it base (.region s_gnomonlaw01_BitsPlays_r39t10 [] [6, 7, 8, 11, 233, 248, 249, 250, 251, 252, 253, 254, 255, 256, 257, 258, 259, 260, 261, 262, 263, 264, 265, 266, 267, 268, 269, 270, 271, 272, 273, 274, 275, 276, 277, 278, 279, 280, 281, 282, 283, 284, 285, 286, 287, 288]) (opsC [] s_gnomonlaw01_BitsPlays_r39p9 [] (evOps call base [⟨some 272, (.move (.t 3)), some (267, false)⟩] f H)) := (row_op call it base s_gnomonlaw01_BitsPlays_r39p9 s_gnomonlaw01_BitsPlays_r39t10 (kc := []) (by kernel_rfl) f H).trans (by rw [row_ops]; rfl)
theorem s_gnomonlaw01_BitsPlays_r39t10_x (call : CallF) (it : IterF) (base : Nat) (f : List V) (H : Heap) : evC call it base (.region s_gnomonlaw01_BitsPlays_r39t10 [] [6, 7, 8, 11, 233, 248, 249, 250, 251, 252, 253, 254, 255, 256, 257, 258, 259, 260, 261, 262, 263, 264, 265, 266, 267, 268, 269, 270, 271, 272, 273, 274, 275, 276, 277, 278, 279, 280, 281, 282, 283, 284, 285, 286, 287, 288]) f H = thenC call it base (.region s_gnomonlaw01_BitsPlays_r39t11 [] [6, 7, 8, 11, 233, 248, 249, 250, 251, 252, 253, 254, 255, 256, 257, 258, 259, 260, 261, 262, 263, 264, 265, 266, 267, 268, 269, 270, 271, 272, 273, 274, 275, 276, 277, 278, 279, 280, 281, 282, 283, 284, 285, 286, 287, 288]) (opsC [] s_gnomonlaw01_BitsPlays_r39p10 [] (evOps call base [⟨some 273, (.move (.t 8)), some (267, false)⟩] f H)) := (row_op call it base s_gnomonlaw01_BitsPlays_r39p10 s_gnomonlaw01_BitsPlays_r39t11 (kc := []) (by kernel_rfl) f H).trans (by rw [row_ops]; rfl)
theorem s_gnomonlaw01_BitsPlays_r39t11_x (call : CallF) (it : IterF) (base : Nat) (f : List V) (H : Heap) : evC call it base (.region s_gnomonlaw01_BitsPlays_r39t11 [] [6, 7, 8, 11, 233, 248, 249, 250, 251, 252, 253, 254, 255, 256, 257, 258, 259, 260, 261, 262, 263, 264, 265, 266, 267, 268, 269, 270, 271, 272, 273, 274, 275, 276, 277, 278, 279, 280, 281, 282, 283, 284, 285, 286, 287, 288]) f H = thenC call it base (.region s_gnomonlaw01_BitsPlays_r39t12 [] [6, 7, 8, 11, 233, 248, 249, 250, 251, 252, 253, 254, 255, 256, 257, 258, 259, 260, 261, 262, 263, 264, 265, 266, 267, 268, 269, 270, 271, 272, 273, 274, 275, 276, 277, 278, 279, 280, 281, 282, 283, 284, 285, 286, 287, 288]) (opsC [] s_gnomonlaw01_BitsPlays_r39p11 [272, 273] (evOps call base [⟨some 274, (.indexAddr 1 (.t 272) (.t 273)), some (267, false)⟩] f H)) := (row_op call it base s_gnomonlaw01_BitsPlays_r39p11 s_gnomonlaw01_BitsPlays_r39t12 (kc := [272, 273]) (by kernel_rfl) f H).trans (by rw [row_ops]; rfl)
theorem s_gnomonlaw01_BitsPlays_r39t12_x (call : CallF) (it : IterF) (base : Nat) (f : List V) (H : Heap) : evC call it base (.region s_gnomonlaw01_BitsPlays_r39t12 [] [6, 7, 8, 11, 233, 248, 249, 250, 251, 252, 253, 254, 255, 256, 257, 258, 259, 260, 261, 262, 263, 264, 265, 266, 267, 268, 269, 270, 271, 272, 273, 274, 275, 276, 277, 278, 279, 280, 281, 282, 283, 284, 285, 286, 287, 288]) f H = thenC call it base (.region s_gnomonlaw01_BitsPlays_r39t13 [] [6, 7, 8, 11, 233, 248, 249, 250, 251, 252, 253, 254, 255, 256, 257, 258, 259, 260, 261, 262, 263, 264, 265, 266, 267, 268, 269, 270, 271, 272, 273, 274, 275, 276, 277, 278, 279, 280, 281, 282, 283, 284, 285, 286, 287, 288]) (opsC [] s_gnomonlaw01_BitsPlays_r39p12 [274] (evOps call base [⟨some 275, (.load false 1 (.t 274)), some (267, false)⟩] f H)) := (row_op call it base s_gnomonlaw01_BitsPlays_r39p12 s_gnomonlaw01_BitsPlays_r39t13 (kc := [274]) (by kernel_rfl) f H).trans (by rw [row_ops]; rfl)
theorem s_gnomonlaw01_BitsPlays_r39t13_x (call : CallF) (it : IterF) (base : Nat) (f : List V) (H : Heap) : evC call it base (.region s_gnomonlaw01_BitsPlays_r39t13 [] [6, 7, 8, 11, 233, 248, 249, 250, 251, 252, 253, 254, 255, 256, 257, 258, 259, 260, 261, 262, 263, 264, 265, 266, 267, 268, 269, 270, 271, 272, 273, 274, 275, 276, 277, 278, 279, 280, 281, 282, 283, 284, 285, 286, 287, 288]) f H = thenC call it base (.region s_gnomonlaw01_BitsPlays_r39t14 [] [6, 7, 8, 11, 233, 248, 249, 250, 251, 252, 253, 254, 255, 256, 257, 258, 259, 260, 261, 262, 263, 264, 265, 266, 267, 268, 269, 270, 271, 272, 273, 274, 275, 276, 277, 278, 279, 280, 281, 282, 283, 284, 285, 286, 287, 288]) (opsC [] s_gnomonlaw01_BitsPlays_r39p13 [271, 275] (evOps call base [⟨some 276, (.callR (.c (.fn 25 [] [])) [(.t 271), (.t 275)]), some (267, false)⟩] f H)) := (row_op call it base s_gnomonlaw01_BitsPlays_r39p13 s_gnomonlaw01_BitsPlays_r39t14 (kc := [271, 275]) (by kernel_rfl) f H).trans (by rw [row_ops]; rfl)
theorem s_gnomonlaw01_BitsPlays_r39t14_x (call : CallF) (it : IterF) (base : Nat) (f : List V) (H : Heap) : evC call it base (.region s_gnomonlaw01_BitsPlays_r39t14 [] [6, 7, 8, 11, 233, 248, 249, 250, 251, 252, 253, 254, 255, 256, 257, 258, 259, 260, 261, 262, 263, 264, 265, 266, 267, 268, 269, 270, 271, 272, 273, 274, 275, 276, 277, 278, 279, 280, 281, 282, 283, 284, 285, 286, 287, 288]) f H = thenC call it base (.region s_gnomonlaw01_BitsPlays_r39t15 [] [6, 7, 8, 11, 233, 248, 249, 250, 251, 252, 253, 254, 255, 256, 257, 258, 259, 260, 261, 262, 263, 264, 265, 266, 267, 268, 269, 270, 271, 272, 273, 274, 275, 276, 277, 278, 279, 280, 281, 282, 283, 284, 285, 286, 287, 288]) (opsC [] s_gnomonlaw01_BitsPlays_r39p14 [] (evOps call base [⟨some 277, (.move (.t 4)), some (267, false)⟩] f H)) := (row_op call it base s_gnomonlaw01_BitsPlays_r39p14 s_gnomonlaw01_BitsPlays_r39t15 (kc := []) (by kernel_rfl) f H).trans (by rw [row_ops]; rfl)
theorem s_gnomonlaw01_BitsPlays_r39t15_x (call : CallF) (it : IterF) (base : Nat) (f : List V) (H : Heap) : evC call it base (.region s_gnomonlaw01_BitsPlays_r39t15 [] [6, 7, 8, 11, 233, 248, 249, 250, 251, 252, 253, 254, 255, 256, 257, 258, 259, 260, 261, 262, 263, 264, 265, 266, 267, 268, 269, 270, 271, 272, 273, 274, 275, 276, 277, 278, 279, 280, 281, 282, 283, 284, 285, 286, 287, 288]) f H = thenC call it base (.region s_gnomonlaw01_BitsPlays_r39t16 [] [6, 7, 8, 11, 233, 248, 249, 250, 251, 252, 253, 254, 255, 256, 257, 258, 259, 260, 261, 262, 263, 264, 265, 266, 267, 268, 269, 270, 271, 272, 273, 274, 275, 276, 277, 278, 279, 280, 281, 282, 283, 284, 285, 286, 287, 288]) (opsC [] s_gnomonlaw01_BitsPlays_r39p15 [7] (evOps call base [⟨some 278, (.move (.t 7)), some (267, false)⟩] f H)) := (row_op call it base s_gnomonlaw01_BitsPlays_r39p15 s_gnomonlaw01_BitsPlays_r39t16 (kc := [7]) (by kernel_rfl) f H).trans (by rw [row_ops]; rfl)
theorem s_gnomonlaw01_BitsPlays_r39t16_x (call : CallF) (it : IterF) (base : Nat) (f : List V) (H : Heap) : evC call it base (.region s_gnomonlaw01_BitsPlays_r39t16 [] [6, 7, 8, 11, 233, 248, 249, 250, 251, 252, 253, 254, 255, 256, 257, 258, 259, 260, 261, 262, 263, 264, 265, 266, 267, 268, 269, 270, 271, 272, 273, 274, 275, 276, 277, 278, 279, 280, 281, 282, 283, 284, 285, 286, 287, 288]) f H = thenC call it base (.region s_gnomonlaw01_BitsPlays_r39t17 [] [6, 7, 8, 11, 233, 248, 249, 250, 251, 252, 253, 254, 255, 256, 257, 258, 259, 260, 261, 262, 263, 264, 265, 266, 267, 268, 269, 270, 271, 272, 273, 274, 275, 276, 277, 278, 279, 280, 281, 282, 283, 284, 285, 286, 287, 288]) (opsC [] s_gnomonlaw01_BitsPlays_r39p16 [277, 278] (evOps call base [⟨some 279, (.indexAddr 1 (.t 277) (.t 278)), some (267, false)⟩] f H)) := (row_op call it base s_gnomonlaw01_BitsPlays_r39p16 s_gnomonlaw01_BitsPlays_r39t17 (kc := [277, 278]) (by kernel_rfl) f H).trans (by rw [row_ops]; rfl)
theorem s_gnomonlaw01_BitsPlays_r39t17_x (call : CallF) (it : IterF) (base : Nat) (f : List V) (H : Heap) : evC call it base (.region s_gnomonlaw01_BitsPlays_r39t17 [] [6, 7, 8, 11, 233, 248, 249, 250, 251, 252, 253, 254, 255, 256, 257, 258, 259, 260, 261, 262, 263, 264, 265, 266, 267, 268, 269, 270, 271, 272, 273, 274, 275, 276, 277, 278, 279, 280, 281, 282, 283, 284, 285, 286, 287, 288]) f H = thenC call it base (.region s_gnomonlaw01_BitsPlays_r39t18 [] [6, 7, 8, 11, 233, 248, 249, 250, 251, 252, 253, 254, 255, 256, 257, 258, 259, 260, 261, 262, 263, 264, 265, 266, 267, 268, 269, 270, 271, 272, 273, 274, 275, 276, 277, 278, 279, 280, 281, 282, 283, 284, 285, 286, 287, 288]) (opsC [] s_gnomonlaw01_BitsPlays_r39p17 [279] (evOps call base [⟨some 280, (.load false 1 (.t 279)), some (267, false)⟩] f H)) := (row_op call it base s_gnomonlaw01_BitsPlays_r39p17 s_gnomonlaw01_BitsPlays_r39t18 (kc := [279]) (by kernel_rfl) f H).trans (by rw [row_ops]; rfl)
theorem s_gnomonlaw01_BitsPlays_r39t18_x (call : CallF) (it : IterF) (base : Nat) (f : List V) (H : Heap) : evC call it base (.region s_gnomonlaw01_BitsPlays_r39t18 [] [6, 7, 8, 11, 233, 248, 249, 250, 251, 252, 253, 254, 255, 256, 257, 258, 259, 260, 261, 262, 263, 264, 265, 266, 267, 268, 269, 270, 271, 272, 273, 274, 275, 276, 277, 278, 279, 280, 281, 282, 283, 284, 285, 286, 287, 288]) f H = thenC call it base (.region s_gnomonlaw01_BitsPlays_r39t19 [] [6, 7, 8, 11, 233, 248, 249, 250, 251, 252, 253, 254, 255, 256, 257, 258, 259, 260, 261, 262, 263, 264, 265, 266, 267, 268, 269, 270, 271, 272, 273, 274, 275, 276, 277, 278, 279, 280, 281, 282, 283, 284, 285, 286, 287, 288]) (opsC [] s_gnomonlaw01_BitsPlays_r39p18 [] (evOps call base [⟨some 281, (.move (.t 4)), some (267, false)⟩] f H)) := (row_op call it base s_gnomonlaw01_BitsPlays_r39p18 s_gnomonlaw01_BitsPlays_r39t19 (kc := []) (by kernel_rfl) f H).trans (by rw [row_ops]; rfl)
theorem s_gnomonlaw01_BitsPlays_r39t19_x (call : CallF) (it : IterF) (base : Nat) (f : List V) (H : Heap) : evC call it base (.region s_gnomonlaw01_BitsPlays_r39t19 [] [6, 7, 8, 11, 233, 248, 249, 250, 251, 252, 253, 254, 255, 256, 257, 258, 259, 260, 261, 262, 263, 264, 265, 266, 267, 268, 269, 270, 271, 272, 273, 274, 275, 276, 277, 278, 279, 280, 281, 282, 283, 284, 285, 286, 287, 288]) f H = thenC call it base (.region s_gnomonlaw01_BitsPlays_r39t20 [] [6, 7, 8, 11, 233, 248, 249, 250, 251, 252, 253, 254, 255, 256, 257, 258, 259, 260, 261, 262, 263, 264, 265, 266, 267, 268, 269, 270, 271, 272, 273, 274, 275, 276, 277, 278, 279, 280, 281, 282, 283, 284, 285, 286, 287, 288]) (opsC [] s_gnomonlaw01_BitsPlays_r39p19 [8] (evOps call base [⟨some 282, (.move (.t 8)), some (267, false)⟩] f H)) := (row_op call it base s_gnomonlaw01_BitsPlays_r39p19 s_gnomonlaw01_BitsPlays_r39t20 (kc := [8]) (by kernel_rfl) f H).trans (by rw [row_ops]; rfl)
theorem s_gnomonlaw01_BitsPlays_r39t20_x (call : CallF) (it : IterF) (base : Nat) (f : List V) (H : Heap) : evC call it base (.region s_gnomonlaw01_BitsPlays_r39t20 [] [6, 7, 8, 11, 233, 248, 249, 250, 251, 252, 253, 254, 255, 256, 257, 258, 259, 260, 261, 262, 263, 264, 265, 266, 267, 268, 269, 270, 271, 272, 273, 274, 275, 276, 277, 278, 279, 280, 281, 282, 283, 284, 285, 286, 287, 288]) f H = thenC call it base (.region s_gnomonlaw01_BitsPlays_r39t21 [] [6, 7, 8, 11, 233, 248, 249, 250, 251, 252, 253, 254, 255, 256, 257, 258, 259, 260, 261, 262, 263, 264, 265, 266, 267, 268, 269, 270, 271, 272, 273, 274, 275, 276, 277, 278, 279, 280, 281, 282, 283, 284, 285, 286, 287, 288]) (opsC [] s_gnomonlaw01_BitsPlays_r39p20 [281, 282] (evOps call base [⟨some 283, (.indexAddr 1 (.t 281) (.t 282)), some (267, false)⟩] f H)) := (row_op call it base s_gnomonlaw01_BitsPlays_r39p20 s_gnomonlaw01_BitsPlays_r39t21 (kc := [281, 282]) (by kernel_rfl) f H).trans (by rw [row_ops]; rfl)
theorem s_gnomonlaw01_BitsPlays_r39t21_x (call : CallF) (it : IterF) (base : Nat) (f : List V) (H : Heap) : evC call it base (.region s_gnomonlaw01_BitsPlays_r39t21 [] [6, 7, 8, 11, 233, 248, 249, 250, 251, 252, 253, 254, 255, 256, 257, 258, 259, 260, 261, 262, 263, 264, 265, 266, 267, 268, 269, 270, 271, 272, 273, 274, 275, 276, 277, 278, 279, 280, 281, 282, 283, 284, 285, 286, 287, 288]) f H = thenC call it base (.region s_gnomonlaw01_BitsPlays_r39t22 [] [6, 7, 8, 11, 233, 248, 249, 250, 251, 252, 253, 254, 255, 256, 257, 258, 259, 260, 261, 262, 263, 264, 265, 266, 267, 268, 269, 270, 271, 272, 273, 274, 275, 276, 277, 278, 279, 280, 281, 282, 283, 284, 285, 286, 287, 288]) (opsC [] s_gnomonlaw01_BitsPlays_r39p21 [283] (evOps call base [⟨some 284, (.load false 1 (.t 283)), some (267, false)⟩] f H)) := (row_op call it base s_gnomonlaw01_BitsPlays_r39p21 s_gnomonlaw01_BitsPlays_r39t22 (kc := [283]) (by kernel_rfl) f H).trans (by rw [row_ops]; rfl)
theorem s_gnomonlaw01_BitsPlays_r39t22_x (call : CallF) (it : IterF) (base : Nat) (f : List V) (H : Heap) : evC call it base (.region s_gnomonlaw01_BitsPlays_r39t22 [] [6, 7, 8, 11, 233, 248, 249, 250, 251, 252, 253, 254, 255, 256, 257, 258, 259, 260, 261, 262, 263, 264, 265, 266, 267, 268, 269, 270, 271, 272, 273, 274, 275, 276, 277, 278, 279, 280, 281, 282, 283, 284, 285, 286, 287, 288]) f H = thenC call it base (.region s_gnomonlaw01_BitsPlays_r39t23 [] [6, 7, 8, 11, 233, 248, 249, 250, 251, 252, 253, 254, 255, 256, 257, 258, 259, 260, 261, 262, 263, 264, 265, 266, 267, 268, 269, 270, 271, 272, 273, 274, 275, 276, 277, 278, 279, 280, 281, 282, 283, 284, 285, 286, 287, 288]) (opsC [] s_gnomonlaw01_BitsPlays_r39p22 [280, 284] (evOps call base [⟨some 285, (.call (.c (.fn 27 [] [])) [(.t 280), (.t 284), (.c (.s (.bool false)))]), some (267, false)⟩] f H)) := (row_op call it base s_gnomonlaw01_BitsPlays_r39p22 s_gnomonlaw01_BitsPlays_r39t23 (kc := [280, 284]) (by kernel_rfl) f H).trans (by rw [row_ops]; rfl)
theorem s_gnomonlaw01_BitsPlays_r39t23_tale (fr : List V) (H : Heap) : evTale (symAll s_gnomonlaw01_BitsPlays_r39t23 [6, 7, 8, 11, 233, 248, 249, 250, 251, 252, 253, 254, 255, 256, 257, 258, 259, 260, 261, 262, 263, 264, 265, 266, 267, 268, 269, 270, 271, 272, 273, 274, 275, 276, 277, 278, 279, 280, 281, 282, 283, 284, 285, 286, 287, 288] [289]) [6, 7, 8, 11, 233, 248, 249, 250, 251, 252, 253, 254, 255, 256, 257, 258, 259, 260, 261, 262, 263, 264, 265, 266, 267, 268, 269, 270, 271, 272, 273, 274, 275, 276, 277, 278, 279, 280, 281, 282, 283, 284, 285, 286, 287, 288] fr H = evTale (some (290, [], [(289, (.pick (.t 267) (.c (.s (.bool true))) (.op (.eqB true (.t 0) (.t 1)) [(.t 276), (.op (.bin .eql (.t 0) (.c (.s (.int .i64 0)))) [(.op (.lenS .s (.t 0)) [(.t 285)]), (.c (.s (.int .i64 0)))])])))])) [6, 7, 8, 11, 233, 248, 249, 250, 251, 252, 253, 254, 255, 256, 257, 258, 259, 260, 261, 262, 263, 264, 265, 266, 267, 268, 269, 270, 271, 272, 273, 274, 275, 276, 277, 278, 279, 280, 281, 282, 283, 284, 285, 286, 287, 288] fr H := tale_row (items := [.sub 0 [2, 1, 0] [267], .sub 0 [2, 1] [267], .sub 0 [2] [267], .sub 0 [] []]) (by kernel_rfl) fr H
theorem s_gnomonlaw01_BitsPlays_r39t23_x (call : CallF) (it : IterF) (base : Nat) (f : List V) (H : Heap) : evC call it base (.region s_gnomonlaw01_BitsPlays_r39t23 [] [6, 7, 8, 11, 233, 248, 249, 250, 251, 252, 253, 254, 255, 256, 257, 258, 259, 260, 261, 262, 263, 264, 265, 266, 267, 268, 269, 270, 271, 272, 273, 274, 275, 276, 277, 278, 279, 280, 281, 282, 283, 284, 285, 286, 287, 288]) f H = segL H (evTale (symAll s_gnomonlaw01_BitsPlays_r39t23 [6, 7, 8, 11, 233, 248, 249, 250, 251, 252, 253, 254, 255, 256, 257, 258, 259, 260, 261, 262, 263, 264, 265, 266, 267, 268, 269, 270, 271, 272, 273, 274, 275, 276, 277, 278, 279, 280, 281, 282, 283, 284, 285, 286, 287, 288] [289]) [6, 7, 8, 11, 233, 248, 249, 250, 251, 252, 253, 254, 255, 256, 257, 258, 259, 260, 261, 262, 263, 264, 265, 266, 267, 268, 269, 270, 271, 272, 273, 274, 275, 276, 277, 278, 279, 280, 281, 282, 283, 284, 285, 286, 287, 288] f H) (origRow call it base s_gnomonlaw01_BitsPlays_r39t23 [6, 7, 8, 11, 233, 248, 249, 250, 251, 252, 253, 254, 255, 256, 257, 258, 259, 260, 261, 262, 263, 264, 265, 266, 267, 268, 269, 270, 271, 272, 273, 274, 275, 276, 277, 278, 279, 280, 281, 282, 283, 284, 285, 286, 287, 288] f H) := row_last call it base _ f H
def s_gnomonlaw01_BitsPlays_r40 : List AOper := [
  ⟨some 2, (.move (.c (.s (.bool false)))), none⟩]
theorem s_gnomonlaw01_BitsPlays_r40_tale (fr : List V) (H : Heap) : evTale (symAll s_gnomonlaw01_BitsPlays_r40 [0, 3, 4, 5, 289] [2]) [0, 3, 4, 5, 289] fr H = evTale (some (3, [], [(2, (.c (.s (.bool false))))])) [0, 3, 4, 5, 289] fr H := tale_row (items := [.cc (.s (.bool false))]) (by kernel_rfl) fr H
def s_gnomonlaw01_BitsPlays_r41 : List AOper := [
  ⟨some 26, (.move (.t 5)), none⟩,
  ⟨some 27, (.bin .add (.t 26) (.c (.s (.int .i64 1)))), none⟩,
  ⟨some 5, (.move (.t 27)), none⟩]
theorem s_gnomonlaw01_BitsPlays_r41_tale (fr : List V) (H : Heap) : evTale (symAll s_gnomonlaw01_BitsPlays_r41 [26, 27, 289] [5]) [26, 27, 289] fr H = evTale (some (28, [], [(5, (.op (.bin .add (.t 0) (.c (.s (.int .i64 1)))) [(.t 5), (.c (.s (.int .i64 1)))]))])) [26, 27, 289] fr H := tale_row (items := [.tt 5, .sub 0 [] [], .sub 0 [] []]) (by kernel_rfl) fr H
def s_gnomonlaw01_BitsPlays_l1_b : ACode :=
  (.seq (.seq (.regionE s_gnomonlaw01_BitsPlays_r6 [22, 23, 24] [25])
  (.cond (.t 25)
  .skip
  (.exit 0)))
  (.seq (.block 1
  (.seq (.region s_gnomonlaw01_BitsPlays_r7 [] [25, 28, 29, 30, 31])
  (.seq (.region s_gnomonlaw01_BitsPlays_r8 [] [32, 33, 34, 35, 36, 37])
  (.seq (.regionE s_gnomonlaw01_BitsPlays_r9 [38, 39, 40, 41] [9])
  (.seq (.regionE s_gnomonlaw01_BitsPlays_r10 [] [10])
  (.seq (.seq (.regionE s_gnomonlaw01_BitsPlays_r11 [42] [43])
  (.block 2
  (.seq (.regionE s_gnomonlaw01_BitsPlays_r12 [73] [72])
  (.cond (.t 72)
  (.seq (.region s_gnomonlaw01_BitsPlays_r13 [] [10, 43, 72, 74, 75, 76, 77, 78, 79, 80, 81, 82, 83])
  (.region s_gnomonlaw01_BitsPlays_r14 [(6, 10), (6, 11), (6, 13)] [9, 84, 85, 86, 87, 88, 89, 90, 91, 92, 93, 94, 95, 96, 97, 98, 99]))
  (.seq (.regionE s_gnomonlaw01_BitsPlays_r15 [72, 101] [100])
  (.cond (.t 100)
  (.seq (.region s_gnomonlaw01_BitsPlays_r16 [] [10, 43, 100, 102, 103, 104, 105, 106, 107, 108, 109, 110, 111, 112])
  (.region s_gnomonlaw01_BitsPlays_r17 [(6, 10), (6, 11), (6, 13)] [9, 113, 114, 115, 116, 117, 118, 119, 120, 121, 122, 123, 124, 125, 126, 127, 128]))
  (.seq (.regionE s_gnomonlaw01_BitsPlays_r18 [100, 130] [129])
  (.cond (.t 129)
  (.seq (.region s_gnomonlaw01_BitsPlays_r19 [] [10, 43, 129, 131, 132, 133, 134, 135, 136, 137, 138, 139, 140, 141, 142])
  (.region s_gnomonlaw01_BitsPlays_r20 [(8, 12), (8, 13), (8, 15)] [9, 143, 144, 145, 146, 147, 148, 149, 150, 151, 152, 153, 154, 155, 156, 157, 158, 159, 160]))
  (.seq (.regionE s_gnomonlaw01_BitsPlays_r21 [9, 129, 162] [161])
  (.cond (.t 161)
  (.seq (.region s_gnomonlaw01_BitsPlays_r22 [] [43, 161, 163, 164, 165, 166, 167, 168, 169, 170, 171, 172, 173, 174])
  (.region s_gnomonlaw01_BitsPlays_r23 [] [175, 176, 177, 178, 179, 180, 181, 182, 183, 184, 185, 186]))
  (.seq (.regionE s_gnomonlaw01_BitsPlays_r24 [161, 188] [187])
  (.cond (.t 187)
  (.seq (.region s_gnomonlaw01_BitsPlays_r25 [] [43, 187, 189, 190, 191, 192, 193, 194, 195, 196, 197, 198, 199, 200])
  (.region s_gnomonlaw01_BitsPlays_r26 [] [201, 202, 203, 204, 205, 206, 207, 208, 209, 210, 211, 212]))
  (.seq (.regionE s_gnomonlaw01_BitsPlays_r27 [43, 187, 214] [213])
  (.cond (.t 213)
  (.seq (.region s_gnomonlaw01_BitsPlays_r28 [] [213, 215, 216, 217, 218, 219, 220, 221])
  (.region s_gnomonlaw01_BitsPlays_r29 [] [222, 223, 224, 225, 226, 227, 228, 229]))
  (.seq (.region s_gnomonlaw01_BitsPlays_r30 [] [44, 45, 46, 47, 48, 49, 50, 51, 52, 53, 54, 55, 56, 57, 213])
  (.region s_gnomonlaw01_BitsPlays_r31 [] [58, 59, 60, 61, 62, 63, 64, 65, 66, 67, 68, 69, 70, 71]))))))))))))))))
  (.seq (.seq (.regionE s_gnomonlaw01_BitsPlays_r32 [10, 230] [231])
  (.cond (.t 231)
  (.seq (.regionE s_gnomonlaw01_BitsPlays_r33 [0, 3, 4, 5, 6, 7, 8, 231] [2])
  .ret)
  .skip))
  (.seq (.seq (.regionE s_gnomonlaw01_BitsPlays_r34 [231] [11])
  (.block 3
  (.loop [] s_gnomonlaw01_BitsPlays_l0)))
  (.seq (.region s_gnomonlaw01_BitsPlays_r39 [] [6, 7, 8, 11, 233, 248, 249, 250, 251, 252, 253, 254, 255, 256, 257, 258, 259, 260, 261, 262, 263, 264, 265, 266, 267, 268, 269, 270, 271, 272, 273, 274, 275, 276, 277, 278, 279, 280, 281, 282, 283, 284, 285, 286, 287, 288])
  (.cond (.t 289)
  (.seq (.regionE s_gnomonlaw01_BitsPlays_r40 [0, 3, 4, 5, 289] [2])
  .ret)
  .skip))))))))))
  (.regionE s_gnomonlaw01_BitsPlays_r41 [26, 27, 289] [5])))
def s_gnomonlaw01_BitsPlays_l1 : ACode := s_gnomonlaw01_BitsPlays_l1_b
theorem s_gnomonlaw01_BitsPlays_l1_ev (call : CallF) (it : IterF) (base : Nat) (fr : List V) (H : Heap) : evC call it base s_gnomonlaw01_BitsPlays_l1 fr H = evC call it base s_gnomonlaw01_BitsPlays_l1_b fr H := rfl
def s_gnomonlaw01_BitsPlays_r42t1 : List AOper := [⟨some 2, (.move (.t 290)), none⟩]
def s_gnomonlaw01_BitsPlays_r42p0 : List AOper := [⟨some 290, (.call (.c (.fn 10 [] [])) []), none⟩]
def s_gnomonlaw01_BitsPlays_r42 : List AOper := s_gnomonlaw01_BitsPlays_r42p0 ++ s_gnomonlaw01_BitsPlays_r42t1
theorem s_gnomonlaw01_BitsPlays_r42_x (call : CallF) (it : IterF) (base : Nat) (f : List V) (H : Heap) : evC call it base (.region s_gnomonlaw01_BitsPlays_r42 [] [0, 3, 4, 5, 25, 290]) f H = thenC call it base (.region s_gnomonlaw01_BitsPlays_r42t1 [] [0, 3, 4, 5, 25, 290]) (opsC [] s_gnomonlaw01_BitsPlays_r42p0 [0, 3, 4, 5, 25] (evOps call base [⟨some 290, (.call (.c (.fn 10 [] [])) []), none⟩] f H)) := (row_op call it base s_gnomonlaw01_BitsPlays_r42p0 s_gnomonlaw01_BitsPlays_r42t1 (kc := [0, 3, 4, 5, 25]) (by kernel_rfl) f H).trans (by rw [row_ops]; rfl)
theorem s_gnomonlaw01_BitsPlays_r42t1_tale (fr : List V) (H : Heap) : evTale (symAll s_gnomonlaw01_BitsPlays_r42t1 [0, 3, 4, 5, 25, 290] [2]) [0, 3, 4, 5, 25, 290] fr H = evTale (some (3, [], [(2, (.t 290))])) [0, 3, 4, 5, 25, 290] fr H := tale_row (items := [.tt 290]) (by kernel_rfl) fr H
theorem s_gnomonlaw01_BitsPlays_r42t1_x (call : CallF) (it : IterF) (base : Nat) (f : List V) (H : Heap) : evC call it base (.region s_gnomonlaw01_BitsPlays_r42t1 [] [0, 3, 4, 5, 25, 290]) f H = segL H (evTale (symAll s_gnomonlaw01_BitsPlays_r42t1 [0, 3, 4, 5, 25, 290] [2]) [0, 3, 4, 5, 25, 290] f H) (origRow call it base s_gnomonlaw01_BitsPlays_r42t1 [0, 3, 4, 5, 25, 290] f H) := row_last call it base _ f H
def s_gnomonlaw01_BitsPlays : ACFun := { ntmps := 291, results := [(.tmp 2)], body :=
  (.seq (.regionE s_gnomonlaw01_BitsPlays_r0 s_gnomonlaw01_BitsPlays_r0_k [])
  (.seq (.seq (.regionE s_gnomonlaw01_BitsPlays_r1 [12, 13] [14])
  (.cond (.t 14)
  (.seq (.region s_gnomonlaw01_BitsPlays_r2 [] [0, 14, 15])
  .ret)
  .skip))
  (.seq (.region s_gnomonlaw01_BitsPlays_r3 [] [14, 16, 17, 18, 19, 20])
  (.seq (.region s_gnomonlaw01_BitsPlays_r4 [] [21])
  (.seq (.seq (.regionE s_gnomonlaw01_BitsPlays_r5 [] [5])
  (.block 0
  (.loop [] s_gnomonlaw01_BitsPlays_l1)))
  (.seq (.region s_gnomonlaw01_BitsPlays_r42 [] [0, 3, 4, 5, 25, 290])
  .ret)))))) }
abbrev k_gnomonlaw01_tells : Nat := 30
def s_gnomonlaw01_tells_r0_k : List Nat := [3, 4, 5, 6, 7, 8, 9, 10, 11, 12, 13, 14, 15, 16, 17, 18, 19, 20, 21, 22, 23, 24, 25, 26, 27, 28, 29, 30, 31, 32, 33, 34, 35, 36, 37, 38, 39, 40, 41, 42, 43, 44, 45, 46, 47, 48, 49, 50, 51, 52, 53, 54, 55, 56, 57, 58, 59, 60, 61, 62, 63, 64, 65, 66, 67, 68, 69, 70, 71]
theorem s_gnomonlaw01_tells_r0_kT : killV s_gnomonlaw01_tells_r0_k (startV 72 [] 3) = [] := by kernel_rfl
theorem s_gnomonlaw01_tells_r0_kA0 : s_gnomonlaw01_tells_r0_k.contains 0 = false := by kernel_rfl
theorem s_gnomonlaw01_tells_r0_kA1 : s_gnomonlaw01_tells_r0_k.contains 1 = false := by kernel_rfl
theorem s_gnomonlaw01_tells_r0_kA2 : s_gnomonlaw01_tells_r0_k.contains 2 = false := by kernel_rfl
def s_gnomonlaw01_tells_r0 : List AOper := [
  ⟨some 6, (.move (.c (.s (.bool false)))), none⟩]
theorem s_gnomonlaw01_tells_r0_tale (fr : List V) (H : Heap) : evTale (symAll s_gnomonlaw01_tells_r0 s_gnomonlaw01_tells_r0_k []) s_gnomonlaw01_tells_r0_k fr H = evTale (some (7, [], [])) s_gnomonlaw01_tells_r0_k fr H := tale_row (items := [.cc (.s (.bool false))]) (by kernel_rfl) fr H
def s_gnomonlaw01_tells_r1t2 : List AOper := [⟨some 7, (.move (.t 12)), none⟩]
def s_gnomonlaw01_tells_r1p1 : List AOper := [⟨some 12, (.call (.c (.fn 16 [] [])) [(.t 11)]), none⟩]
def s_gnomonlaw01_tells_r1t1 : List AOper := s_gnomonlaw01_tells_r1p1 ++ s_gnomonlaw01_tells_r1t2
def s_gnomonlaw01_tells_r1p0 : List AOper := [⟨some 11, (.move (.t 0)), none⟩]
def s_gnomonlaw01_tells_r1 : List AOper := s_gnomonlaw01_tells_r1p0 ++ s_gnomonlaw01_tells_r1t1
theorem s_gnomonlaw01_tells_r1p0_tale (fr : List V) (H : Heap) : evTale (symAll s_gnomonlaw01_tells_r1p0 [] [11]) [] fr H = evTale (some (12, [], [(11, (.t 0))])) [] fr H := tale_row (items := [.tt 0]) (by kernel_rfl) fr H
theorem s_gnomonlaw01_tells_r1_x (call : CallF) (it : IterF) (base : Nat) (f : List V) (H : Heap) : evC call it base (.region s_gnomonlaw01_tells_r1 [] [11, 12]) f H = segC call it base s_gnomonlaw01_tells_r1t1 [11, 12] H (evTale (symAll s_gnomonlaw01_tells_r1p0 [] [11]) [] f H) (origRow call it base s_gnomonlaw01_tells_r1 [11, 12] f H) := row_seg call it base s_gnomonlaw01_tells_r1p0 s_gnomonlaw01_tells_r1t1 (by kernel_rfl) f H
theorem s_gnomonlaw01_tells_r1t1_x (call : CallF) (it : IterF) (base : Nat) (f : List V) (H : Heap) : evC call it base (.region s_gnomonlaw01_tells_r1t1 [] [11, 12]) f H = thenC call it base (.region s_gnomonlaw01_tells_r1t2 [] [11, 12]) (opsC [] s_gnomonlaw01_tells_r1p1 [11] (evOps call base [⟨some 12, (.call (.c (.fn 16 [] [])) [(.t 11)]), none⟩] f H)) := (row_op call it base s_gnomonlaw01_tells_r1p1 s_gnomonlaw01_tells_r1t2 (kc := [11]) (by kernel_rfl) f H).trans (by rw [row_ops]; rfl)
theorem s_gnomonlaw01_tells_r1t2_tale (fr : List V) (H : Heap) : evTale (symAll s_gnomonlaw01_tells_r1t2 [11, 12] [7]) [11, 12] fr H = evTale (some (8, [], [(7, (.t 12))])) [11, 12] fr H := tale_row (items := [.tt 12]) (by kernel_rfl) fr H
theorem s_gnomonlaw01_tells_r1t2_x (call : CallF) (it : IterF) (base : Nat) (f : List V) (H : Heap) : evC call it base (.region s_gnomonlaw01_tells_r1t2 [] [11, 12]) f H = segL H (evTale (symAll s_gnomonlaw01_tells_r1t2 [11, 12] [7]) [11, 12] f H) (origRow call it base s_gnomonlaw01_tells_r1t2 [11, 12] f H) := row_last call it base _ f H
def s_gnomonlaw01_tells_r2t2 : List AOper := [⟨some 13, (.move (.t 15)), none⟩, ⟨some 16, (.extract (.t 13) 0), none⟩, ⟨some 17, (.extract (.t 13) 1), none⟩, ⟨some 8, (.move (.t 16)), none⟩, ⟨some 9, (.move (.t 17)), none⟩]
def s_gnomonlaw01_tells_r2p1 : List AOper := [⟨some 15, (.call (.c (.fn 17 [] [])) [(.t 14)]), none⟩]
def s_gnomonlaw01_tells_r2t1 : List AOper := s_gnomonlaw01_tells_r2p1 ++ s_gnomonlaw01_tells_r2t2
def s_gnomonlaw01_tells_r2p0 : List AOper := [⟨some 14, (.move (.t 0)), none⟩]
def s_gnomonlaw01_tells_r2 : List AOper := s_gnomonlaw01_tells_r2p0 ++ s_gnomonlaw01_tells_r2t1
theorem s_gnomonlaw01_tells_r2p0_tale (fr : List V) (H : Heap) : evTale (symAll s_gnomonlaw01_tells_r2p0 [] [14]) [] fr H = evTale (some (15, [], [(14, (.t 0))])) [] fr H := tale_row (items := [.tt 0]) (by kernel_rfl) fr H
theorem s_gnomonlaw01_tells_r2_x (call : CallF) (it : IterF) (base : Nat) (f : List V) (H : Heap) : evC call it base (.region s_gnomonlaw01_tells_r2 [] [13, 14, 15, 16, 17]) f H = segC call it base s_gnomonlaw01_tells_r2t1 [13, 14, 15, 16, 17] H (evTale (symAll s_gnomonlaw01_tells_r2p0 [] [14]) [] f H) (origRow call it base s_gnomonlaw01_tells_r2 [13, 14, 15, 16, 17] f H) := row_seg call it base s_gnomonlaw01_tells_r2p0 s_gnomonlaw01_tells_r2t1 (by kernel_rfl) f H
theorem s_gnomonlaw01_tells_r2t1_x (call : CallF) (it : IterF) (base : Nat) (f : List V) (H : Heap) : evC call it base (.region s_gnomonlaw01_tells_r2t1 [] [13, 14, 15, 16, 17]) f H = thenC call it base (.region s_gnomonlaw01_tells_r2t2 [] [13, 14, 15, 16, 17]) (opsC [] s_gnomonlaw01_tells_r2p1 [14] (evOps call base [⟨some 15, (.call (.c (.fn 17 [] [])) [(.t 14)]), none⟩] f H)) := (row_op call it base s_gnomonlaw01_tells_r2p1 s_gnomonlaw01_tells_r2t2 (kc := [14]) (by kernel_rfl) f H).trans (by rw [row_ops]; rfl)
theorem s_gnomonlaw01_tells_r2t2_tale (fr : List V) (H : Heap) : evTale (symAll s_gnomonlaw01_tells_r2t2 [13, 14, 15, 16, 17] [8, 9]) [13, 14, 15, 16, 17] fr H = evTale (some (18, [], [(8, (.op (.extract (.t 0) 0) [(.t 15)])), (9, (.op (.extract (.t 0) 1) [(.t 15)]))])) [13, 14, 15, 16, 17] fr H := tale_row (items := [.tt 15, .sub 0 [] [], .sub 1 [] [], .sub 0 [] [], .sub 1 [] []]) (by kernel_rfl) fr H
theorem s_gnomonlaw01_tells_r2t2_x (call : CallF) (it : IterF) (base : Nat) (f : List V) (H : Heap) : evC call it base (.region s_gnomonlaw01_tells_r2t2 [] [13, 14, 15, 16, 17]) f H = segL H (evTale (symAll s_gnomonlaw01_tells_r2t2 [13, 14, 15, 16, 17] [8, 9]) [13, 14, 15, 16, 17] f H) (origRow call it base s_gnomonlaw01_tells_r2t2 [13, 14, 15, 16, 17] f H) := row_last call it base _ f H
def s_gnomonlaw01_tells_r3t13 : List AOper := [⟨some 36, (.eqB true (.t 32) (.t 35)), some (29, false)⟩, ⟨some 37, (.pick (.t 29) (.c (.s (.bool true))) (.t 36)), none⟩, ⟨some 38, (.move (.t 37)), none⟩, ⟨some 39, (.move (.t 9)), some (38, false)⟩, ⟨some 40, (.move (.t 1)), some (38, false)⟩, ⟨some 41, (.lenS .s (.t 40)), some (38, false)⟩, ⟨some 42, (.bin .gtr (.t 41) (.c (.s (.int .i64 0)))), some (38, false)⟩, ⟨some 43, (.eqB true (.t 39) (.t 42)), some (38, false)⟩, ⟨some 44, (.pick (.t 38) (.c (.s (.bool true))) (.t 43)), none⟩, ⟨some 45, (.move (.t 44)), none⟩, ⟨some 46, (.move (.t 9)), some (45, false)⟩, ⟨some 47, (.move (.t 46)), some (45, false)⟩, ⟨some 48, (.move (.t 8)), some (47, true)⟩, ⟨some 49, (.move (.t 1)), some (47, true)⟩, ⟨some 50, (.indexAddr 1 (.t 49) (.c (.s (.int .i64 0)))), some (47, true)⟩, ⟨some 51, (.load false 1 (.t 50)), some (47, true)⟩, ⟨some 52, (.bin .neq (.t 48) (.t 51)), some (47, true)⟩, ⟨some 53, (.pick (.t 47) (.t 52) (.c (.s (.bool false)))), some (45, false)⟩, ⟨some 54, (.pick (.t 45) (.c (.s (.bool true))) (.t 53)), none⟩, ⟨some 55, (.move (.t 54)), none⟩, ⟨some 56, (.move (.t 9)), some (55, false)⟩, ⟨some 57, (.un .not (.t 56)), some (55, false)⟩, ⟨some 58, (.move (.t 57)), some (55, false)⟩, ⟨some 59, (.move (.t 8)), some (58, true)⟩, ⟨some 60, (.bin .neq (.t 59) (.c (.s (.int .i64 0)))), some (58, true)⟩, ⟨some 61, (.pick (.t 58) (.t 60) (.c (.s (.bool false)))), some (55, false)⟩, ⟨some 62, (.pick (.t 55) (.c (.s (.bool true))) (.t 61)), none⟩]
def s_gnomonlaw01_tells_r3p12 : List AOper := [⟨some 35, (.call (.c (.fn 39 [] [])) [(.t 33), (.t 34)]), some (29, false)⟩]
def s_gnomonlaw01_tells_r3t12 : List AOper := s_gnomonlaw01_tells_r3p12 ++ s_gnomonlaw01_tells_r3t13
def s_gnomonlaw01_tells_r3p11 : List AOper := [⟨some 34, (.move (.t 2)), some (29, false)⟩]
def s_gnomonlaw01_tells_r3t11 : List AOper := s_gnomonlaw01_tells_r3p11 ++ s_gnomonlaw01_tells_r3t12
def s_gnomonlaw01_tells_r3p10 : List AOper := [⟨some 33, (.move (.t 1)), some (29, false)⟩]
def s_gnomonlaw01_tells_r3t10 : List AOper := s_gnomonlaw01_tells_r3p10 ++ s_gnomonlaw01_tells_r3t11
def s_gnomonlaw01_tells_r3p9 : List AOper := [⟨some 32, (.call (.c (.fn 19 [] [])) [(.t 30), (.t 31)]), some (29, false)⟩]
def s_gnomonlaw01_tells_r3t9 : List AOper := s_gnomonlaw01_tells_r3p9 ++ s_gnomonlaw01_tells_r3t10
def s_gnomonlaw01_tells_r3p8 : List AOper := [⟨some 31, (.move (.t 2)), some (29, false)⟩]
def s_gnomonlaw01_tells_r3t8 : List AOper := s_gnomonlaw01_tells_r3p8 ++ s_gnomonlaw01_tells_r3t9
def s_gnomonlaw01_tells_r3p7 : List AOper := [⟨some 30, (.move (.t 0)), some (29, false)⟩]
def s_gnomonlaw01_tells_r3t7 : List AOper := s_gnomonlaw01_tells_r3p7 ++ s_gnomonlaw01_tells_r3t8
def s_gnomonlaw01_tells_r3p6 : List AOper := [⟨some 27, (.un .not (.t 26)), some (23, false)⟩, ⟨some 28, (.pick (.t 23) (.c (.s (.bool true))) (.t 27)), none⟩, ⟨some 29, (.move (.t 28)), none⟩]
def s_gnomonlaw01_tells_r3t6 : List AOper := s_gnomonlaw01_tells_r3p6 ++ s_gnomonlaw01_tells_r3t7
def s_gnomonlaw01_tells_r3p5 : List AOper := [⟨some 26, (.call (.c (.fn 15 [] [])) [(.t 24), (.t 25)]), some (23, false)⟩]
def s_gnomonlaw01_tells_r3t5 : List AOper := s_gnomonlaw01_tells_r3p5 ++ s_gnomonlaw01_tells_r3t6
def s_gnomonlaw01_tells_r3p4 : List AOper := [⟨some 25, (.move (.t 1)), some (23, false)⟩]
def s_gnomonlaw01_tells_r3t4 : List AOper := s_gnomonlaw01_tells_r3p4 ++ s_gnomonlaw01_tells_r3t5
def s_gnomonlaw01_tells_r3p3 : List AOper := [⟨some 24, (.move (.t 7)), some (23, false)⟩]
def s_gnomonlaw01_tells_r3t3 : List AOper := s_gnomonlaw01_tells_r3p3 ++ s_gnomonlaw01_tells_r3t4
def s_gnomonlaw01_tells_r3p2 : List AOper := [⟨some 20, (.move (.t 1)), none⟩, ⟨some 21, (.lenS .s (.t 20)), none⟩, ⟨some 22, (.bin .neq (.t 19) (.t 21)), none⟩, ⟨some 23, (.move (.t 22)), none⟩]
def s_gnomonlaw01_tells_r3t2 : List AOper := s_gnomonlaw01_tells_r3p2 ++ s_gnomonlaw01_tells_r3t3
def s_gnomonlaw01_tells_r3p1 : List AOper := [⟨some 19, (.call (.c (.fn 20 [] [])) [(.t 18)]), none⟩]
def s_gnomonlaw01_tells_r3t1 : List AOper := s_gnomonlaw01_tells_r3p1 ++ s_gnomonlaw01_tells_r3t2
def s_gnomonlaw01_tells_r3p0 : List AOper := [⟨some 18, (.move (.t 0)), none⟩]
def s_gnomonlaw01_tells_r3 : List AOper := s_gnomonlaw01_tells_r3p0 ++ s_gnomonlaw01_tells_r3t1
theorem s_gnomonlaw01_tells_r3p0_tale (fr : List V) (H : Heap) : evTale (symAll s_gnomonlaw01_tells_r3p0 [] [18]) [] fr H = evTale (some (19, [], [(18, (.t 0))])) [] fr H := tale_row (items := [.tt 0]) (by kernel_rfl) fr H
theorem s_gnomonlaw01_tells_r3_x (call : CallF) (it : IterF) (base : Nat) (f : List V) (H : Heap) : evC call it base (.region s_gnomonlaw01_tells_r3 [] [0, 1, 2, 8, 9, 18, 19, 20, 21, 22, 23, 24, 25, 26, 27, 28, 29, 30, 31, 32, 33, 34, 35, 36, 37, 38, 39, 40, 41, 42, 43, 44, 45, 46, 47, 48, 49, 50, 51, 52, 53, 54, 55, 56, 57, 58, 59, 60, 61]) f H = segC call it base s_gnomonlaw01_tells_r3t1 [0, 1, 2, 8, 9, 18, 19, 20, 21, 22, 23, 24, 25, 26, 27, 28, 29, 30, 31, 32, 33, 34, 35, 36, 37, 38, 39, 40, 41, 42, 43, 44, 45, 46, 47, 48, 49, 50, 51, 52, 53, 54, 55, 56, 57, 58, 59, 60, 61] H (evTale (symAll s_gnomonlaw01_tells_r3p0 [] [18]) [] f H) (origRow call it base s_gnomonlaw01_tells_r3 [0, 1, 2, 8, 9, 18, 19, 20, 21, 22, 23, 24, 25, 26, 27, 28, 29, 30, 31, 32, 33, 34, 35, 36, 37, 38, 39, 40, 41, 42, 43, 44, 45, 46, 47, 48, 49, 50, 51, 52, 53, 54, 55, 56, 57, 58, 59, 60, 61] f H) := row_seg call it base s_gnomonlaw01_tells_r3p0 s_gnomonlaw01_tells_r3t1 (by kernel_rfl) f H
theorem s_gnomonlaw01_tells_r3t1_x (call : CallF) (it : IterF) (base : Nat) (f : List V) (H : Heap) : evC call it base (.region s_gnomonlaw01_tells_r3t1 [] [0, 1, 2, 8, 9, 18, 19, 20, 21, 22, 23, 24, 25, 26, 27, 28, 29, 30, 31, 32, 33, 34, 35, 36, 37, 38, 39, 40, 41, 42, 43, 44, 45, 46, 47, 48, 49, 50, 51, 52, 53, 54, 55, 56, 57, 58, 59, 60, 61]) f H = thenC call it base (.region s_gnomonlaw01_tells_r3t2 [] [0, 1, 2, 8, 9, 18, 19, 20, 21, 22, 23, 24, 25, 26, 27, 28, 29, 30, 31, 32, 33, 34, 35, 36, 37, 38, 39, 40, 41, 42, 43, 44, 45, 46, 47, 48, 49, 50, 51, 52, 53, 54, 55, 56, 57, 58, 59, 60, 61]) (opsC [] s_gnomonlaw01_tells_r3p1 [18] (evOps call base [⟨some 19, (.call (.c (.fn 20 [] [])) [(.t 18)]), none⟩] f H)) := (row_op call it base s_gnomonlaw01_tells_r3p1 s_gnomonlaw01_tells_r3t2 (kc := [18]) (by kernel_rfl) f H).trans (by rw [row_ops]; rfl)
theorem s_gnomonlaw01_tells_r3p2_tale (fr : List V) (H : Heap) : evTale (symAll s_gnomonlaw01_tells_r3p2 [19, 20, 21, 22] [23]) [19, 20, 21, 22] fr H = evTale (some (24, [], [(23, (.op (.bin .neq (.t 0) (.t 1)) [(.t 19), (.op (.lenS .s (.t 0)) [(.t 1)])]))])) [19, 20, 21, 22] fr H := tale_row (items := [.tt 1, .sub 0 [1] [], .sub 0 [] [], .sub 0 [] []]) (by kernel_rfl) fr H
theorem s_gnomonlaw01_tells_r3t2_x (call : CallF) (it : IterF) (base : Nat) (f : List V) (H : Heap) : evC call it base (.region s_gnomonlaw01_tells_r3t2 [] [0, 1, 2, 8, 9, 18, 19, 20, 21, 22, 23, 24, 25, 26, 27, 28, 29, 30, 31, 32, 33, 34, 35, 36, 37, 38, 39, 40, 41, 42, 43, 44, 45, 46, 47, 48, 49, 50, 51, 52, 53, 54, 55, 56, 57, 58, 59, 60, 61]) f H = segC call it base s_gnomonlaw01_tells_r3t3 [0, 1, 2, 8, 9, 18, 19, 20, 21, 22, 23, 24, 25, 26, 27, 28, 29, 30, 31, 32, 33, 34, 35, 36, 37, 38, 39, 40, 41, 42, 43, 44, 45, 46, 47, 48, 49, 50, 51, 52, 53, 54, 55, 56, 57, 58, 59, 60, 61] H (evTale (symAll s_gnomonlaw01_tells_r3p2 [19, 20, 21, 22] [23]) [19, 20, 21, 22] f H) (origRow call it base s_gnomonlaw01_tells_r3t2 [0, 1, 2, 8, 9, 18, 19, 20, 21, 22, 23, 24, 25, 26, 27, 28, 29, 30, 31, 32, 33, 34, 35, 36, 37, 38, 39, 40, 41, 42, 43, 44, 45, 46, 47, 48, 49, 50, 51, 52, 53, 54, 55, 56, 57, 58, 59, 60, 61] f H) := row_seg call it base s_gnomonlaw01_tells_r3p2 s_gnomonlaw01_tells_r3t3 (by kernel_rfl) f H
theorem s_gnomonlaw01_tells_r3t3_x (call : CallF) (it : IterF) (base : Nat) (f : List V) (H : Heap) : evC call it base (.region s_gnomonlaw01_tells_r3t3 [] [0, 1, 2, 8, 9, 18, 19, 20, 21, 22, 23, 24, 25, 26, 27, 28, 29, 30, 31, 32, 33, 34, 35, 36, 37, 38, 39, 40, 41, 42, 43, 44, 45, 46, 47, 48, 49, 50, 51, 52, 53, 54, 55, 56, 57, 58, 59, 60, 61]) f H = thenC call it base (.region s_gnomonlaw01_tells_r3t4 [] [0, 1, 2, 8, 9, 18, 19, 20, 21, 22, 23, 24, 25, 26, 27, 28, 29, 30, 31, 32, 33, 34, 35, 36, 37, 38, 39, 40, 41, 42, 43, 44, 45, 46, 47, 48, 49, 50, 51, 52, 53, 54, 55, 56, 57, 58, 59, 60, 61]) (opsC [] s_gnomonlaw01_tells_r3p3 [] (evOps call base [⟨some 24, (.move (.t 7)), some (23, false)⟩] f H)) := (row_op call it base s_gnomonlaw01_tells_r3p3 s_gnomonlaw01_tells_r3t4 (kc := []) (by kernel_rfl) f H).trans (by rw [row_ops]; rfl)
theorem s_gnomonlaw01_tells_r3t4_x (call : CallF) (it : IterF) (base : Nat) (f : List V) (H : Heap) : evC call it base (.region s_gnomonlaw01_tells_r3t4 [] [0, 1, 2, 8, 9, 18, 19, 20, 21, 22, 23, 24, 25, 26, 27, 28, 29, 30, 31, 32, 33, 34, 35, 36, 37, 38, 39, 40, 41, 42, 43, 44, 45, 46, 47, 48, 49, 50, 51, 52, 53, 54, 55, 56, 57, 58, 59, 60, 61]) f H = thenC call it base (.region s_gnomonlaw01_tells_r3t5 [] [0, 1, 2, 8, 9, 18, 19, 20, 21, 22, 23, 24, 25, 26, 27, 28, 29, 30, 31, 32, 33, 34, 35, 36, 37, 38, 39, 40, 41, 42, 43, 44, 45, 46, 47, 48, 49, 50, 51, 52, 53, 54, 55, 56, 57, 58, 59, 60, 61]) (opsC [] s_gnomonlaw01_tells_r3p4 [] (evOps call base [⟨some 25, (.move (.t 1)), some (23, false)⟩] f H)) := (row_op call it base s_gnomonlaw01_tells_r3p4 s_gnomonlaw01_tells_r3t5 (kc := []) (by kernel_rfl) f H).trans (by rw [row_ops]; rfl)
theorem s_gnomonlaw01_tells_r3t5_x (call : CallF) (it : IterF) (base : Nat) (f : List V) (H : Heap) : evC call it base (.region s_gnomonlaw01_tells_r3t5 [] [0, 1, 2, 8, 9, 18, 19, 20, 21, 22, 23, 24, 25, 26, 27, 28, 29, 30, 31, 32, 33, 34, 35, 36, 37, 38, 39, 40, 41, 42, 43, 44, 45, 46, 47, 48, 49, 50, 51, 52, 53, 54, 55, 56, 57, 58, 59, 60, 61]) f H = thenC call it base (.region s_gnomonlaw01_tells_r3t6 [] [0, 1, 2, 8, 9, 18, 19, 20, 21, 22, 23, 24, 25, 26, 27, 28, 29, 30, 31, 32, 33, 34, 35, 36, 37, 38, 39, 40, 41, 42, 43, 44, 45, 46, 47, 48, 49, 50, 51, 52, 53, 54, 55, 56, 57, 58, 59, 60, 61]) (opsC [] s_gnomonlaw01_tells_r3p5 [24, 25] (evOps call base [⟨some 26, (.call (.c (.fn 15 [] [])) [(.t 24), (.t 25)]), some (23, false)⟩] f H)) := (row_op call it base s_gnomonlaw01_tells_r3p5 s_gnomonlaw01_tells_r3t6 (kc := [24, 25]) (by kernel_rfl) f H).trans (by rw [row_ops]; rfl)
theorem s_gnomonlaw01_tells_r3p6_tale (fr : List V) (H : Heap) : evTale (symAll s_gnomonlaw01_tells_r3p6 [23, 26, 27, 28] [29]) [23, 26, 27, 28] fr H = evTale (some (30, [], [(29, (.pick (.t 23) (.c (.s (.bool true))) (.op (.un .not (.t 0)) [(.t 26)])))])) [23, 26, 27, 28] fr H := tale_row (items := [.sub 0 [2] [23], .sub 0 [] [], .sub 0 [] []]) (by kernel_rfl) fr H
theorem s_gnomonlaw01_tells_r3t6_x (call : CallF) (it : IterF) (base : Nat) (f : List V) (H : Heap) : evC call it base (.region s_gnomonlaw01_tells_r3t6 [] [0, 1, 2, 8, 9, 18, 19, 20, 21, 22, 23, 24, 25, 26, 27, 28, 29, 30, 31, 32, 33, 34, 35, 36, 37, 38, 39, 40, 41, 42, 43, 44, 45, 46, 47, 48, 49, 50, 51, 52, 53, 54, 55, 56, 57, 58, 59, 60, 61]) f H = segC call it base s_gnomonlaw01_tells_r3t7 [0, 1, 2, 8, 9, 18, 19, 20, 21, 22, 23, 24, 25, 26, 27, 28, 29, 30, 31, 32, 33, 34, 35, 36, 37, 38, 39, 40, 41, 42, 43, 44, 45, 46, 47, 48, 49, 50, 51, 52, 53, 54, 55, 56, 57, 58, 59, 60, 61] H (evTale (symAll s_gnomonlaw01_tells_r3p6 [23, 26, 27, 28] [29]) [23, 26, 27, 28] f H) (origRow call it base s_gnomonlaw01_tells_r3t6 [0, 1, 2, 8, 9, 18, 19, 20, 21, 22, 23, 24, 25, 26, 27, 28, 29, 30, 31, 32, 33, 34, 35, 36, 37, 38, 39, 40, 41, 42, 43, 44, 45, 46, 47, 48, 49, 50, 51, 52, 53, 54, 55, 56, 57, 58, 59, 60, 61] f H) := row_seg call it base s_gnomonlaw01_tells_r3p6 s_gnomonlaw01_tells_r3t7 (by kernel_rfl) f H
theorem s_gnomonlaw01_tells_r3t7_x (call : CallF) (it : IterF) (base : Nat) (f : List V) (H : Heap) : evC call it base (.region s_gnomonlaw01_tells_r3t7 [] [0, 1, 2, 8, 9, 18, 19, 20, 21, 22, 23, 24, 25, 26, 27, 28, 29, 30, 31, 32, 33, 34, 35, 36, 37, 38, 39, 40, 41, 42, 43, 44, 45, 46, 47, 48, 49, 50, 51, 52, 53, 54, 55, 56, 57, 58, 59, 60, 61]) f H = thenC call it base (.region s_gnomonlaw01_tells_r3t8 [] [0, 1, 2, 8, 9, 18, 19, 20, 21, 22, 23, 24, 25, 26, 27, 28, 29, 30, 31, 32, 33, 34, 35, 36, 37, 38, 39, 40, 41, 42, 43, 44, 45, 46, 47, 48, 49, 50, 51, 52, 53, 54, 55, 56, 57, 58, 59, 60, 61]) (opsC [] s_gnomonlaw01_tells_r3p7 [0] (evOps call base [⟨some 30, (.move (.t 0)), some (29, false)⟩] f H)) := (row_op call it base s_gnomonlaw01_tells_r3p7 s_gnomonlaw01_tells_r3t8 (kc := [0]) (by kernel_rfl) f H).trans (by rw [row_ops]; rfl)
theorem s_gnomonlaw01_tells_r3t8_x (call : CallF) (it : IterF) (base : Nat) (f : List V) (H : Heap) : evC call it base (.region s_gnomonlaw01_tells_r3t8 [] [0, 1, 2, 8, 9, 18, 19, 20, 21, 22, 23, 24, 25, 26, 27, 28, 29, 30, 31, 32, 33, 34, 35, 36, 37, 38, 39, 40, 41, 42, 43, 44, 45, 46, 47, 48, 49, 50, 51, 52, 53, 54, 55, 56, 57, 58, 59, 60, 61]) f H = thenC call it base (.region s_gnomonlaw01_tells_r3t9 [] [0, 1, 2, 8, 9, 18, 19, 20, 21, 22, 23, 24, 25, 26, 27, 28, 29, 30, 31, 32, 33, 34, 35, 36, 37, 38, 39, 40, 41, 42, 43, 44, 45, 46, 47, 48, 49, 50, 51, 52, 53, 54, 55, 56, 57, 58, 59, 60, 61]) (opsC [] s_gnomonlaw01_tells_r3p8 [] (evOps call base [⟨some 31, (.move (.t 2)), some (29, false)⟩] f H)) := (row_op call it base s_gnomonlaw01_tells_r3p8 s_gnomonlaw01_tells_r3t9 (kc := []) (by kernel_rfl) f H).trans (by rw [row_ops]; rfl)
theorem s_gnomonlaw01_tells_r3t9_x (call : CallF) (it : IterF) (base : Nat) (f : List V) (H : Heap) : evC call it base (.region s_gnomonlaw01_tells_r3t9 [] [0, 1, 2, 8, 9, 18, 19, 20, 21, 22, 23, 24, 25, 26, 27, 28, 29, 30, 31, 32, 33, 34, 35, 36, 37, 38, 39, 40, 41, 42, 43, 44, 45, 46, 47, 48, 49, 50, 51, 52, 53, 54, 55, 56, 57, 58, 59, 60, 61]) f H = thenC call it base (.region s_gnomonlaw01_tells_r3t10 [] [0, 1, 2, 8, 9, 18, 19, 20, 21, 22, 23, 24, 25, 26, 27, 28, 29, 30, 31, 32, 33, 34, 35, 36, 37, 38, 39, 40, 41, 42, 43, 44, 45, 46, 47, 48, 49, 50, 51, 52, 53, 54, 55, 56, 57, 58, 59, 60, 61]) (opsC [] s_gnomonlaw01_tells_r3p9 [30, 31] (evOps call base [⟨some 32, (.call (.c (.fn 19 [] [])) [(.t 30), (.t 31)]), some (29, false)⟩] f H)) := (row_op call it base s_gnomonlaw01_tells_r3p9 s_gnomonlaw01_tells_r3t10 (kc := [30, 31]) (by kernel_rfl) f H).trans (by rw [row_ops]; rfl)
theorem s_gnomonlaw01_tells_r3t10_x (call : CallF) (it : IterF) (base : Nat) (f : List V) (H : Heap) : evC call it base (.region s_gnomonlaw01_tells_r3t10 [] [0, 1, 2, 8, 9, 18, 19, 20, 21, 22, 23, 24, 25, 26, 27, 28, 29, 30, 31, 32, 33, 34, 35, 36, 37, 38, 39, 40, 41, 42, 43, 44, 45, 46, 47, 48, 49, 50, 51, 52, 53, 54, 55, 56, 57, 58, 59, 60, 61]) f H = thenC call it base (.region s_gnomonlaw01_tells_r3t11 [] [0, 1, 2, 8, 9, 18, 19, 20, 21, 22, 23, 24, 25, 26, 27, 28, 29, 30, 31, 32, 33, 34, 35, 36, 37, 38, 39, 40, 41, 42, 43, 44, 45, 46, 47, 48, 49, 50, 51, 52, 53, 54, 55, 56, 57, 58, 59, 60, 61]) (opsC [] s_gnomonlaw01_tells_r3p10 [] (evOps call base [⟨some 33, (.move (.t 1)), some (29, false)⟩] f H)) := (row_op call it base s_gnomonlaw01_tells_r3p10 s_gnomonlaw01_tells_r3t11 (kc := []) (by kernel_rfl) f H).trans (by rw [row_ops]; rfl)
theorem s_gnomonlaw01_tells_r3t11_x (call : CallF) (it : IterF) (base : Nat) (f : List V) (H : Heap) : evC call it base (.region s_gnomonlaw01_tells_r3t11 [] [0, 1, 2, 8, 9, 18, 19, 20, 21, 22, 23, 24, 25, 26, 27, 28, 29, 30, 31, 32, 33, 34, 35, 36, 37, 38, 39, 40, 41, 42, 43, 44, 45, 46, 47, 48, 49, 50, 51, 52, 53, 54, 55, 56, 57, 58, 59, 60, 61]) f H = thenC call it base (.region s_gnomonlaw01_tells_r3t12 [] [0, 1, 2, 8, 9, 18, 19, 20, 21, 22, 23, 24, 25, 26, 27, 28, 29, 30, 31, 32, 33, 34, 35, 36, 37, 38, 39, 40, 41, 42, 43, 44, 45, 46, 47, 48, 49, 50, 51, 52, 53, 54, 55, 56, 57, 58, 59, 60, 61]) (opsC [] s_gnomonlaw01_tells_r3p11 [2] (evOps call base [⟨some 34, (.move (.t 2)), some (29, false)⟩] f H)) := (row_op call it base s_gnomonlaw01_tells_r3p11 s_gnomonlaw01_tells_r3t12 (kc := [2]) (by kernel_rfl) f H).trans (by rw [row_ops]; rfl)
theorem s_gnomonlaw01_tells_r3t12_x (call : CallF) (it : IterF) (base : Nat) (f : List V) (H : Heap) : evC call it base (.region s_gnomonlaw01_tells_r3t12 [] [0, 1, 2, 8, 9, 18, 19, 20, 21, 22, 23, 24, 25, 26, 27, 28, 29, 30, 31, 32, 33, 34, 35, 36, 37, 38, 39, 40, 41, 42, 43, 44, 45, 46, 47, 48, 49, 50, 51, 52, 53, 54, 55, 56, 57, 58, 59, 60, 61]) f H = thenC call it base (.region s_gnomonlaw01_tells_r3t13 [] [0, 1, 2, 8, 9, 18, 19, 20, 21, 22, 23, 24, 25, 26, 27, 28, 29, 30, 31, 32, 33, 34, 35, 36, 37, 38, 39, 40, 41, 42, 43, 44, 45, 46, 47, 48, 49, 50, 51, 52, 53, 54, 55, 56, 57, 58, 59, 60, 61]) (opsC [] s_gnomonlaw01_tells_r3p12 [33, 34] (evOps call base [⟨some 35, (.call (.c (.fn 39 [] [])) [(.t 33), (.t 34)]), some (29, false)⟩] f H)) := (row_op call it base s_gnomonlaw01_tells_r3p12 s_gnomonlaw01_tells_r3t13 (kc := [33, 34]) (by kernel_rfl) f H).trans (by rw [row_ops]; rfl)
theorem s_gnomonlaw01_tells_r3t13_tale (fr : List V) (H : Heap) : evTale (symAll s_gnomonlaw01_tells_r3t13 [0, 1, 2, 8, 9, 18, 19, 20, 21, 22, 23, 24, 25, 26, 27, 28, 29, 30, 31, 32, 33, 34, 35, 36, 37, 38, 39, 40, 41, 42, 43, 44, 45, 46, 47, 48, 49, 50, 51, 52, 53, 54, 55, 56, 57, 58, 59, 60, 61] [62]) [0, 1, 2, 8, 9, 18, 19, 20, 21, 22, 23, 24, 25, 26, 27, 28, 29, 30, 31, 32, 33, 34, 35, 36, 37, 38, 39, 40, 41, 42, 43, 44, 45, 46, 47, 48, 49, 50, 51, 52, 53, 54, 55, 56, 57, 58, 59, 60, 61] fr H = evTale (some (63, [], [(62, (.pick (.pick (.pick (.pick (.t 29) (.c (.s (.bool true))) (.op (.eqB true (.t 0) (.t 1)) [(.t 32), (.t 35)])) (.c (.s (.bool true))) (.op (.eqB true (.t 0) (.t 1)) [(.t 9), (.op (.bin .gtr (.t 0) (.c (.s (.int .i64 0)))) [(.op (.lenS .s (.t 0)) [(.t 1)]), (.c (.s (.int .i64 0)))])])) (.c (.s (.bool true))) (.pick (.t 9) (.op (.bin .neq (.t 0) (.t 1)) [(.t 8), (.op (.load false 1 (.t 0)) [(.op (.indexAddr 1 (.t 0) (.c (.s (.int .i64 0)))) [(.t 1), (.c (.s (.int .i64 0)))])])]) (.c (.s (.bool false))))) (.c (.s (.bool true))) (.pick (.op (.un .not (.t 0)) [(.t 9)]) (.op (.bin .neq (.t 0) (.c (.s (.int .i64 0)))) [(.t 8), (.c (.s (.int .i64 0)))]) (.c (.s (.bool false))))))])) [0, 1, 2, 8, 9, 18, 19, 20, 21, 22, 23, 24, 25, 26, 27, 28, 29, 30, 31, 32, 33, 34, 35, 36, 37, 38, 39, 40, 41, 42, 43, 44, 45, 46, 47, 48, 49, 50, 51, 52, 53, 54, 55, 56, 57, 58, 59, 60, 61] fr H := tale_row (items := [.sub 0 [0, 0, 0, 2] [29], .sub 0 [0, 0, 0] [], .sub 0 [0, 0, 0] [], .sub 0 [0, 0, 2, 0] [38], .sub 0 [0, 0, 2, 1, 0, 0] [38], .sub 0 [0, 0, 2, 1, 0] [38], .sub 0 [0, 0, 2, 1] [38], .sub 0 [0, 0, 2] [38], .sub 0 [0, 0] [], .sub 0 [0, 0] [], .sub 0 [0, 2, 0] [45], .sub 0 [0, 2, 0] [45], .sub 0 [0, 2, 1, 0] [45, 47], .sub 0 [0, 2, 1, 1, 0, 0] [45, 47], .sub 0 [0, 2, 1, 1, 0] [45, 47], .sub 0 [0, 2, 1, 1] [45, 47], .sub 0 [0, 2, 1] [45, 47], .sub 0 [0, 2] [45], .sub 0 [0] [], .sub 0 [0] [], .sub 0 [2, 0, 0] [55], .sub 0 [2, 0] [55], .sub 0 [2, 0] [55], .sub 0 [2, 1, 0] [55, 58], .sub 0 [2, 1] [55, 58], .sub 0 [2] [55], .sub 0 [] []]) (by kernel_rfl) fr H
theorem s_gnomonlaw01_tells_r3t13_x (call : CallF) (it : IterF) (base : Nat) (f : List V) (H : Heap) : evC call it base (.region s_gnomonlaw01_tells_r3t13 [] [0, 1, 2, 8, 9, 18, 19, 20, 21, 22, 23, 24, 25, 26, 27, 28, 29, 30, 31, 32, 33, 34, 35, 36, 37, 38, 39, 40, 41, 42, 43, 44, 45, 46, 47, 48, 49, 50, 51, 52, 53, 54, 55, 56, 57, 58, 59, 60, 61]) f H = segL H (evTale (symAll s_gnomonlaw01_tells_r3t13 [0, 1, 2, 8, 9, 18, 19, 20, 21, 22, 23, 24, 25, 26, 27, 28, 29, 30, 31, 32, 33, 34, 35, 36, 37, 38, 39, 40, 41, 42, 43, 44, 45, 46, 47, 48, 49, 50, 51, 52, 53, 54, 55, 56, 57, 58, 59, 60, 61] [62]) [0, 1, 2, 8, 9, 18, 19, 20, 21, 22, 23, 24, 25, 26, 27, 28, 29, 30, 31, 32, 33, 34, 35, 36, 37, 38, 39, 40, 41, 42, 43, 44, 45, 46, 47, 48, 49, 50, 51, 52, 53, 54, 55, 56, 57, 58, 59, 60, 61] f H) (origRow call it base s_gnomonlaw01_tells_r3t13 [0, 1, 2, 8, 9, 18, 19, 20, 21, 22, 23, 24, 25, 26, 27, 28, 29, 30, 31, 32, 33, 34, 35, 36, 37, 38, 39, 40, 41, 42, 43, 44, 45, 46, 47, 48, 49, 50, 51, 52, 53, 54, 55, 56, 57, 58, 59, 60, 61] f H) := row_last call it base _ f H
def s_gnomonlaw01_tells_r4 : List AOper := [
  ⟨some 6, (.move (.c (.s (.bool false)))), none⟩]
theorem s_gnomonlaw01_tells_r4_tale (fr : List V) (H : Heap) : evTale (symAll s_gnomonlaw01_tells_r4 [7, 62] [6]) [7, 62] fr H = evTale (some (7, [], [(6, (.c (.s (.bool false))))])) [7, 62] fr H := tale_row (items := [.cc (.s (.bool false))]) (by kernel_rfl) fr H
def s_gnomonlaw01_tells_r5 : List AOper := [
  ⟨some 10, (.move (.c (.s (.int .i64 0)))), none⟩]
theorem s_gnomonlaw01_tells_r5_tale (fr : List V) (H : Heap) : evTale (symAll s_gnomonlaw01_tells_r5 [62] [10]) [62] fr H = evTale (some (11, [], [(10, (.c (.s (.int .i64 0))))])) [62] fr H := tale_row (items := [.cc (.s (.int .i64 0))]) (by kernel_rfl) fr H
def s_gnomonlaw01_tells_r6 : List AOper := [
  ⟨some 63, (.move (.t 10)), none⟩,
  ⟨some 64, (.move (.t 7)), none⟩,
  ⟨some 65, (.lenS .s (.t 64)), none⟩,
  ⟨some 66, (.bin .lss (.t 63) (.t 65)), none⟩]
theorem s_gnomonlaw01_tells_r6_tale (fr : List V) (H : Heap) : evTale (symAll s_gnomonlaw01_tells_r6 [63, 64, 65] [66]) [63, 64, 65] fr H = evTale (some (67, [], [(66, (.op (.bin .lss (.t 0) (.t 1)) [(.t 10), (.op (.lenS .s (.t 0)) [(.t 7)])]))])) [63, 64, 65] fr H := tale_row (items := [.tt 10, .tt 7, .sub 0 [1] [], .sub 0 [] []]) (by kernel_rfl) fr H
def s_gnomonlaw01_tells_r7t1 : List AOper := [⟨none, (.store 1 (.t 71) (.c (.s (.int .i64 (-7))))), none⟩]
def s_gnomonlaw01_tells_r7p0 : List AOper := [⟨some 69, (.move (.t 7)), none⟩, ⟨some 70, (.move (.t 10)), none⟩, ⟨some 71, (.indexAddr 1 (.t 69) (.t 70)), none⟩]
def s_gnomonlaw01_tells_r7 : List AOper := s_gnomonlaw01_tells_r7p0 ++ s_gnomonlaw01_tells_r7t1
theorem s_gnomonlaw01_tells_r7p0_tale (fr : List V) (H : Heap) : evTale (symAll s_gnomonlaw01_tells_r7p0 [66, 69, 70] [71]) [66, 69, 70] fr H = evTale (some (72, [], [(71, (.op (.indexAddr 1 (.t 0) (.t 1)) [(.t 7), (.t 10)]))])) [66, 69, 70] fr H := tale_row (items := [.tt 7, .tt 10, .sub 0 [] []]) (by kernel_rfl) fr H
theorem s_gnomonlaw01_tells_r7_x (call : CallF) (it : IterF) (base : Nat) (f : List V) (H : Heap) : evC call it base (.region s_gnomonlaw01_tells_r7 [] [66, 69, 70, 71]) f H = segC call it base s_gnomonlaw01_tells_r7t1 [66, 69, 70, 71] H (evTale (symAll s_gnomonlaw01_tells_r7p0 [66, 69, 70] [71]) [66, 69, 70] f H) (origRow call it base s_gnomonlaw01_tells_r7 [66, 69, 70, 71] f H) := row_seg call it base s_gnomonlaw01_tells_r7p0 s_gnomonlaw01_tells_r7t1 (by kernel_rfl) f H
theorem s_gnomonlaw01_tells_r7t1_x (call : CallF) (it : IterF) (base : Nat) (f : List V) (H : Heap) : evC call it base (.region s_gnomonlaw01_tells_r7t1 [] [66, 69, 70, 71]) f H = opsC [] s_gnomonlaw01_tells_r7t1 [66, 69, 70, 71] (evOps call base [⟨none, (.store 1 (.t 71) (.c (.s (.int .i64 (-7))))), none⟩] f H) := row_ops call it base _ _ f H
def s_gnomonlaw01_tells_r8 : List AOper := [
  ⟨some 67, (.move (.t 10)), none⟩,
  ⟨some 68, (.bin .add (.t 67) (.c (.s (.int .i64 1)))), none⟩,
  ⟨some 10, (.move (.t 68)), none⟩]
theorem s_gnomonlaw01_tells_r8_tale (fr : List V) (H : Heap) : evTale (symAll s_gnomonlaw01_tells_r8 [67, 68] [10]) [67, 68] fr H = evTale (some (69, [], [(10, (.op (.bin .add (.t 0) (.c (.s (.int .i64 1)))) [(.t 10), (.c (.s (.int .i64 1)))]))])) [67, 68] fr H := tale_row (items := [.tt 10, .sub 0 [] [], .sub 0 [] []]) (by kernel_rfl) fr H
def s_gnomonlaw01_tells_l0_b : ACode :=
  (.seq (.seq (.regionE s_gnomonlaw01_tells_r6 [63, 64, 65] [66])
  (.cond (.t 66)
  .skip
  (.exit 0)))
  (.seq (.block 1
  (.region s_gnomonlaw01_tells_r7 [] [66, 69, 70, 71]))
  (.regionE s_gnomonlaw01_tells_r8 [67, 68] [10])))
def s_gnomonlaw01_tells_l0 : ACode := s_gnomonlaw01_tells_l0_b
theorem s_gnomonlaw01_tells_l0_ev (call : CallF) (it : IterF) (base : Nat) (fr : List V) (H : Heap) : evC call it base s_gnomonlaw01_tells_l0 fr H = evC call it base s_gnomonlaw01_tells_l0_b fr H := rfl
def s_gnomonlaw01_tells_r9 : List AOper := [
  ⟨some 6, (.move (.c (.s (.bool true)))), none⟩]
theorem s_gnomonlaw01_tells_r9_tale (fr : List V) (H : Heap) : evTale (symAll s_gnomonlaw01_tells_r9 [7, 10, 66] [6]) [7, 10, 66] fr H = evTale (some (7, [], [(6, (.c (.s (.bool true))))])) [7, 10, 66] fr H := tale_row (items := [.cc (.s (.bool true))]) (by kernel_rfl) fr H
def s_gnomonlaw01_tells : ACFun := { ntmps := 72, results := [(.tmp 6)], body :=
  (.seq (.regionE s_gnomonlaw01_tells_r0 s_gnomonlaw01_tells_r0_k [])
  (.seq (.region s_gnomonlaw01_tells_r1 [] [11, 12])
  (.seq (.region s_gnomonlaw01_tells_r2 [] [13, 14, 15, 16, 17])
  (.seq (.seq (.region s_gnomonlaw01_tells_r3 [] [0, 1, 2, 8, 9, 18, 19, 20, 21, 22, 23, 24, 25, 26, 27, 28, 29, 30, 31, 32, 33, 34, 35, 36, 37, 38, 39, 40, 41, 42, 43, 44, 45, 46, 47, 48, 49, 50, 51, 52, 53, 54, 55, 56, 57, 58, 59, 60, 61])
  (.cond (.t 62)
  (.seq (.regionE s_gnomonlaw01_tells_r4 [7, 62] [6])
  .ret)
  .skip))
  (.seq (.seq (.regionE s_gnomonlaw01_tells_r5 [62] [10])
  (.block 0
  (.loop [] s_gnomonlaw01_tells_l0)))
  (.seq (.regionE s_gnomonlaw01_tells_r9 [7, 10, 66] [6])
  .ret)))))) }
def a_gnomonlaw01_BitsPlays := And.intro @s_gnomonlaw01_BitsPlays_r0_tale (And.intro @s_gnomonlaw01_BitsPlays_r0_kT (And.intro @s_gnomonlaw01_BitsPlays_r0_kA0 (And.intro @s_gnomonlaw01_BitsPlays_r1_tale (And.intro @s_gnomonlaw01_BitsPlays_r2_x (And.intro @s_gnomonlaw01_BitsPlays_r2t1_tale (And.intro @s_gnomonlaw01_BitsPlays_r2t1_x (And.intro @s_gnomonlaw01_BitsPlays_r3_x (And.intro @s_gnomonlaw01_BitsPlays_r3t1_x (And.intro @s_gnomonlaw01_BitsPlays_r3t2_x (And.intro @s_gnomonlaw01_BitsPlays_r3t3_x (And.intro @s_gnomonlaw01_BitsPlays_r3t4_x (And.intro @s_gnomonlaw01_BitsPlays_r3t5_tale (And.intro @s_gnomonlaw01_BitsPlays_r3t5_x (And.intro @s_gnomonlaw01_BitsPlays_r4_x (And.intro @s_gnomonlaw01_BitsPlays_r4t1_tale (And.intro @s_gnomonlaw01_BitsPlays_r4t1_x (And.intro @s_gnomonlaw01_BitsPlays_r5_tale (And.intro @s_gnomonlaw01_BitsPlays_r6_tale (And.intro @s_gnomonlaw01_BitsPlays_r7p0_tale (And.intro @s_gnomonlaw01_BitsPlays_r7_x (And.intro @s_gnomonlaw01_BitsPlays_r7t1_x (And.intro @s_gnomonlaw01_BitsPlays_r7t2_x (And.intro @s_gnomonlaw01_BitsPlays_r8p0_tale (And.intro @s_gnomonlaw01_BitsPlays_r8_x (And.intro @s_gnomonlaw01_BitsPlays_r8t1_x (And.intro @s_gnomonlaw01_BitsPlays_r8p2_tale (And.intro @s_gnomonlaw01_BitsPlays_r8t2_x (And.intro @s_gnomonlaw01_BitsPlays_r8t3_x (And.intro @s_gnomonlaw01_BitsPlays_r8t4_tale (And.intro @s_gnomonlaw01_BitsPlays_r8t4_x (And.intro @s_gnomonlaw01_BitsPlays_r9_tale (And.intro @s_gnomonlaw01_BitsPlays_r10_tale (And.intro @s_gnomonlaw01_BitsPlays_r11_tale (And.intro @s_gnomonlaw01_BitsPlays_r12_tale (And.intro @s_gnomonlaw01_BitsPlays_r13p0_tale (And.intro @s_gnomonlaw01_BitsPlays_r13_x (And.intro @s_gnomonlaw01_BitsPlays_r13t1_x (And.intro @s_gnomonlaw01_BitsPlays_r13p2_tale (And.intro @s_gnomonlaw01_BitsPlays_r13t2_x (And.intro @s_gnomonlaw01_BitsPlays_r13t3_x (And.intro @s_gnomonlaw01_BitsPlays_r15_tale (And.intro @s_gnomonlaw01_BitsPlays_r16p0_tale (And.intro @s_gnomonlaw01_BitsPlays_r16_x (And.intro @s_gnomonlaw01_BitsPlays_r16t1_x (And.intro @s_gnomonlaw01_BitsPlays_r16t2_x (And.intro @s_gnomonlaw01_BitsPlays_r16p3_tale (And.intro @s_gnomonlaw01_BitsPlays_r16t3_x (And.intro @s_gnomonlaw01_BitsPlays_r16t4_x (And.intro @s_gnomonlaw01_BitsPlays_r18_tale (And.intro @s_gnomonlaw01_BitsPlays_r19p0_tale (And.intro @s_gnomonlaw01_BitsPlays_r19_x (And.intro @s_gnomonlaw01_BitsPlays_r19t1_x (And.intro @s_gnomonlaw01_BitsPlays_r19p2_tale (And.intro @s_gnomonlaw01_BitsPlays_r19t2_x (And.intro @s_gnomonlaw01_BitsPlays_r19t3_x (And.intro @s_gnomonlaw01_BitsPlays_r21_tale (And.intro @s_gnomonlaw01_BitsPlays_r22p0_tale (And.intro @s_gnomonlaw01_BitsPlays_r22_x (And.intro @s_gnomonlaw01_BitsPlays_r22t1_x (And.intro @s_gnomonlaw01_BitsPlays_r22p2_tale (And.intro @s_gnomonlaw01_BitsPlays_r22t2_x (And.intro @s_gnomonlaw01_BitsPlays_r22t3_x (And.intro @s_gnomonlaw01_BitsPlays_r23p0_tale (And.intro @s_gnomonlaw01_BitsPlays_r23_x (And.intro @s_gnomonlaw01_BitsPlays_r23t1_x (And.intro @s_gnomonlaw01_BitsPlays_r23p2_tale (And.intro @s_gnomonlaw01_BitsPlays_r23t2_x (And.intro @s_gnomonlaw01_BitsPlays_r23t3_x (And.intro @s_gnomonlaw01_BitsPlays_r24_tale (And.intro @s_gnomonlaw01_BitsPlays_r25p0_tale (And.intro @s_gnomonlaw01_BitsPlays_r25_x (And.intro @s_gnomonlaw01_BitsPlays_r25t1_x (And.intro @s_gnomonlaw01_BitsPlays_r25p2_tale (And.intro @s_gnomonlaw01_BitsPlays_r25t2_x (And.intro @s_gnomonlaw01_BitsPlays_r25t3_x (And.intro @s_gnomonlaw01_BitsPlays_r26p0_tale (And.intro @s_gnomonlaw01_BitsPlays_r26_x (And.intro @s_gnomonlaw01_BitsPlays_r26t1_x (And.intro @s_gnomonlaw01_BitsPlays_r26p2_tale (And.intro @s_gnomonlaw01_BitsPlays_r26t2_x (And.intro @s_gnomonlaw01_BitsPlays_r26t3_x (And.intro @s_gnomonlaw01_BitsPlays_r27_tale (And.intro @s_gnomonlaw01_BitsPlays_r28p0_tale (And.intro @s_gnomonlaw01_BitsPlays_r28_x (And.intro @s_gnomonlaw01_BitsPlays_r28t1_x (And.intro @s_gnomonlaw01_BitsPlays_r29p0_tale (And.intro @s_gnomonlaw01_BitsPlays_r29_x (And.intro @s_gnomonlaw01_BitsPlays_r29t1_x (And.intro @s_gnomonlaw01_BitsPlays_r29p2_tale (And.intro @s_gnomonlaw01_BitsPlays_r29t2_x (And.intro @s_gnomonlaw01_BitsPlays_r29t3_x (And.intro @s_gnomonlaw01_BitsPlays_r30p0_tale (And.intro @s_gnomonlaw01_BitsPlays_r30_x (And.intro @s_gnomonlaw01_BitsPlays_r30t1_x (And.intro @s_gnomonlaw01_BitsPlays_r30t2_x (And.intro @s_gnomonlaw01_BitsPlays_r30p3_tale (And.intro @s_gnomonlaw01_BitsPlays_r30t3_x (And.intro @s_gnomonlaw01_BitsPlays_r30t4_x (And.intro @s_gnomonlaw01_BitsPlays_r31p0_tale (And.intro @s_gnomonlaw01_BitsPlays_r31_x (And.intro @s_gnomonlaw01_BitsPlays_r31t1_x (And.intro @s_gnomonlaw01_BitsPlays_r31t2_x (And.intro @s_gnomonlaw01_BitsPlays_r31p3_tale (And.intro @s_gnomonlaw01_BitsPlays_r31t3_x (And.intro @s_gnomonlaw01_BitsPlays_r31t4_x (And.intro @s_gnomonlaw01_BitsPlays_r32_tale (And.intro @s_gnomonlaw01_BitsPlays_r33_tale (And.intro @s_gnomonlaw01_BitsPlays_r34_tale (And.intro @s_gnomonlaw01_BitsPlays_r35_tale (And.intro @s_gnomonlaw01_BitsPlays_r36p0_tale (And.intro @s_gnomonlaw01_BitsPlays_r36_x (And.intro @s_gnomonlaw01_BitsPlays_r36t1_x (And.intro @s_gnomonlaw01_BitsPlays_r36t2_tale (And.intro @s_gnomonlaw01_BitsPlays_r36t2_x (And.intro @s_gnomonlaw01_BitsPlays_r37_tale (And.intro @s_gnomonlaw01_BitsPlays_r38_tale (And.intro @s_gnomonlaw01_BitsPlays_l0_ev (And.intro @s_gnomonlaw01_BitsPlays_r39p0_tale (And.intro @s_gnomonlaw01_BitsPlays_r39_x (And.intro @s_gnomonlaw01_BitsPlays_r39t1_x (And.intro @s_gnomonlaw01_BitsPlays_r39p2_tale (And.intro @s_gnomonlaw01_BitsPlays_r39t2_x (And.intro @s_gnomonlaw01_BitsPlays_r39t3_x (And.intro @s_gnomonlaw01_BitsPlays_r39p4_tale (And.intro @s_gnomonlaw01_BitsPlays_r39t4_x (And.intro @s_gnomonlaw01_BitsPlays_r39t5_x (And.intro @s_gnomonlaw01_BitsPlays_r39t6_x (And.intro @s_gnomonlaw01_BitsPlays_r39t7_x (And.intro @s_gnomonlaw01_BitsPlays_r39t8_x (And.intro @s_gnomonlaw01_BitsPlays_r39t9_x (And.intro @s_gnomonlaw01_BitsPlays_r39t10_x (And.intro @s_gnomonlaw01_BitsPlays_r39t11_x (And.intro @s_gnomonlaw01_BitsPlays_r39t12_x (And.intro @s_gnomonlaw01_BitsPlays_r39t13_x (And.intro @s_gnomonlaw01_BitsPlays_r39t14_x (And.intro @s_gnomonlaw01_BitsPlays_r39t15_x (And.intro @s_gnomonlaw01_BitsPlays_r39t16_x (And.intro @s_gnomonlaw01_BitsPlays_r39t17_x (And.intro @s_gnomonlaw01_BitsPlays_r39t18_x (And.intro @s_gnomonlaw01_BitsPlays_r39t19_x (And.intro @s_gnomonlaw01_BitsPlays_r39t20_x (And.intro @s_gnomonlaw01_BitsPlays_r39t21_x (And.intro @s_gnomonlaw01_BitsPlays_r39t22_x (And.intro @s_gnomonlaw01_BitsPlays_r39t23_tale (And.intro @s_gnomonlaw01_BitsPlays_r39t23_x (And.intro @s_gnomonlaw01_BitsPlays_r40_tale (And.intro @s_gnomonlaw01_BitsPlays_r41_tale (And.intro @s_gnomonlaw01_BitsPlays_l1_ev (And.intro @s_gnomonlaw01_BitsPlays_r42_x (And.intro @s_gnomonlaw01_BitsPlays_r42t1_tale (@s_gnomonlaw01_BitsPlays_r42t1_x)))))))))))))))))))))))))))))))))))))))))))))))))))))))))))))))))))))))))))))))))))))))))))))))))))))))))))))))))))))))))))))))))))))))))))))))))))))))
def a_gnomonlaw01_tells := And.intro @s_gnomonlaw01_tells_r0_tale (And.intro @s_gnomonlaw01_tells_r0_kT (And.intro @s_gnomonlaw01_tells_r0_kA0 (And.intro @s_gnomonlaw01_tells_r0_kA1 (And.intro @s_gnomonlaw01_tells_r0_kA2 (And.intro @s_gnomonlaw01_tells_r1p0_tale (And.intro @s_gnomonlaw01_tells_r1_x (And.intro @s_gnomonlaw01_tells_r1t1_x (And.intro @s_gnomonlaw01_tells_r1t2_tale (And.intro @s_gnomonlaw01_tells_r1t2_x (And.intro @s_gnomonlaw01_tells_r2p0_tale (And.intro @s_gnomonlaw01_tells_r2_x (And.intro @s_gnomonlaw01_tells_r2t1_x (And.intro @s_gnomonlaw01_tells_r2t2_tale (And.intro @s_gnomonlaw01_tells_r2t2_x (And.intro @s_gnomonlaw01_tells_r3p0_tale (And.intro @s_gnomonlaw01_tells_r3_x (And.intro @s_gnomonlaw01_tells_r3t1_x (And.intro @s_gnomonlaw01_tells_r3p2_tale (And.intro @s_gnomonlaw01_tells_r3t2_x (And.intro @s_gnomonlaw01_tells_r3t3_x (And.intro @s_gnomonlaw01_tells_r3t4_x (And.intro @s_gnomonlaw01_tells_r3t5_x (And.intro @s_gnomonlaw01_tells_r3p6_tale (And.intro @s_gnomonlaw01_tells_r3t6_x (And.intro @s_gnomonlaw01_tells_r3t7_x (And.intro @s_gnomonlaw01_tells_r3t8_x (And.intro @s_gnomonlaw01_tells_r3t9_x (And.intro @s_gnomonlaw01_tells_r3t10_x (And.intro @s_gnomonlaw01_tells_r3t11_x (And.intro @s_gnomonlaw01_tells_r3t12_x (And.intro @s_gnomonlaw01_tells_r3t13_tale (And.intro @s_gnomonlaw01_tells_r3t13_x (And.intro @s_gnomonlaw01_tells_r4_tale (And.intro @s_gnomonlaw01_tells_r5_tale (And.intro @s_gnomonlaw01_tells_r6_tale (And.intro @s_gnomonlaw01_tells_r7p0_tale (And.intro @s_gnomonlaw01_tells_r7_x (And.intro @s_gnomonlaw01_tells_r7t1_x (And.intro @s_gnomonlaw01_tells_r8_tale (And.intro @s_gnomonlaw01_tells_l0_ev (@s_gnomonlaw01_tells_r9_tale)))))))))))))))))))))))))))))))))))))))))
theorem CB7_8 : compKL [12, 18, 24] Tryd.prog PX0 8 = some (false, s_gnomonlaw01_BitsPlays.ntmps, s_gnomonlaw01_BitsPlays.results, s_gnomonlaw01_BitsPlays.body.bare) := by kernel_rfl
theorem CB7_30 : compK Tryd.prog PX0 30 = some (false, s_gnomonlaw01_tells.ntmps, s_gnomonlaw01_tells.results, s_gnomonlaw01_tells.body.bare) := by kernel_rfl
end Go.Proofs.YtccallbknpbggaaDoor
set_option maxRecDepth 100000
namespace Go.Proofs.YtccallbknpbggaaDoor
open Go.AM
def placeN (i : Int) : Nat := (Int.tmod i 4 + (if Int.tmod i 4 < 0 then 4 else 0)).toNat
theorem placeN_lt (i : Int) : placeN i < 4 := by
  unfold placeN
  have := Int.tmod_lt_of_pos i (b := 4) (by decide)
  split <;> omega
section
variable {CT : Nat → Option CFun}
theorem place_fun (hT : CT k_gnomonlaw01_place = some (.code s_gnomonlaw01_place)) (base : Nat) (H : Heap) (i : Int) : callW CT (.fn k_gnomonlaw01_place [] []) [.s (.int .i64 i), .s (.int .i64 4)] base H = some (.s (.int .i64 (placeN i : Nat)), H) := by
  refine callW_fn (c := s_gnomonlaw01_place) hT (by simp [s_gnomonlaw01_place]) ?_
  have h4 : ((4 : Int) = 0) = False := by simp
  have hlt := placeN_lt i
  unfold placeN
  by_cases hm : Int.tmod i 4 < 0
  · have hw : IntKind.i64.wrap (Int.tmod i 4 + 4) = ((Int.tmod i 4 + 4).toNat : Nat) := by
      have := Int.lt_tmod_of_pos i (b := 4) (by decide)
      rw [wrap_i64_id (by omega) (by omega)]; omega
    simp only [s_gnomonlaw01_place, a_gnomonlaw01_place, am0,am1,am2,am3,am4,am5,am6,am7,bl,i64,reduceIte,reduceCtorEq,Nat.reduceEqDiff,Nat.reduceLT,Nat.reduceLeDiff,Nat.reduceBEq,Nat.reduceAdd,fillA,splice,Nat.reduceMul,al0,al1,al2,al3,al4,al5,al6,al7,al8,al9,al10,al11,al12,al13,al14,al15,al16,al17,al18,al19,al20,al21,al22,al23,al24,al25,al26,al27,al28,al29,al30,al31,al32,al33,al34,amY,op_eqP, h4, hm, hw]
    done
  · have hw : Int.tmod i 4 = ((Int.tmod i 4 + 0).toNat : Nat) := by omega
    simp only [s_gnomonlaw01_place, a_gnomonlaw01_place, am0,am1,am2,am3,am4,am5,am6,am7,bl,i64,reduceIte,reduceCtorEq,Nat.reduceEqDiff,Nat.reduceLT,Nat.reduceLeDiff,Nat.reduceBEq,Nat.reduceAdd,fillA,splice,Nat.reduceMul,al0,al1,al2,al3,al4,al5,al6,al7,al8,al9,al10,al11,al12,al13,al14,al15,al16,al17,al18,al19,al20,al21,al22,al23,al24,al25,al26,al27,al28,al29,al30,al31,al32,al33,al34,amY,op_eqP, h4, hm]
    rw [← hw]
    done
theorem tells_loop (call : CallF) (base : Nat) {H0 : Heap} {m : Nat} (hm : m ≤ H0.length) {v : V} {n : Nat} (hn : n < 2 ^ 62) (hb : base ≤ m) : ∀ (d k : Nat) (H : Heap) (l : List V), k + d = n → l.length = n → KeepD m [] H0 H → OwnN m H v l →
    ∃ H', itW (evC call itW base s_gnomonlaw01_tells_l0) [] H0.length (frOf 72 [(7, v), (10, .s (.int .i64 k))]) H = some (.ext 0, frOf 72 [(7, v), (10, .s (.int .i64 n)), (66, .s (.bool false))], H') ∧ KeepD m [] H0 H' := by
  intro d
  induction d with
  | zero =>
    intro k H l hk hl hK ho
    have hk : k = n := by omega
    subst hk
    have hlen := ho.rd.len
    rw [hl] at hlen
    rw [itW_step]
    simp only [a_gnomonlaw01_tells,s_gnomonlaw01_tells_l0_b, am0,am1,am2,am3,am4,am5,am6,am7,bl,i64,reduceIte,reduceCtorEq,Nat.reduceEqDiff,Nat.reduceLT,Nat.reduceLeDiff,Nat.reduceBEq,Nat.reduceAdd,fillA,splice,Nat.reduceMul,al0,al1,al2,al3,al4,al5,al6,al7,al8,al9,al10,al11,al12,al13,al14,al15,al16,al17,al18,al19,al20,al21,al22,al23,al24,al25,al26,al27,al28,al29,al30,al31,al32,al33,al34,amY,op_eqP, hlen, Int.lt_irrefl]
    exact ⟨_, rfl, hK.trim hm _⟩
  | succ d ih =>
    intro k H l hk hl hK ho
    have hlen := ho.rd.len
    rw [hl] at hlen
    have hlt' : (k : Int) < (n : Int) := by omega
    have hwk := wrap_pos (n := k) (by omega)
    obtain ⟨a, H1, e1, e2, o1, l1, k1⟩ := ho.store (base := base) (k := k) hb (by omega) (x := .s (.int .i64 (-7))) rfl
    obtain ⟨H2, r1, r2⟩ := ih (k + 1) (trim H0.length (frOf 72 [(7, v), (10, .s (.int .i64 (k + 1 : Nat)))]) H1) (l.set k (.s (.int .i64 (-7)))) (by omega) (by rw [List.length_set]; exact hl) (KeepD.trim ⟨by have := hK.1; omega, fun id h1 h2 => by rw [k1 id h1, hK.2 id h1 h2]⟩ hm _) (o1.trim_fr (frOf_mem (s := 7) (by decide) rfl))
    refine ⟨H2, ?_, r2⟩
    rw [itW_step]
    simp only [a_gnomonlaw01_tells,s_gnomonlaw01_tells_l0_b, am0,am1,am2,am3,am4,am5,am6,am7,bl,i64,reduceIte,reduceCtorEq,Nat.reduceEqDiff,Nat.reduceLT,Nat.reduceLeDiff,Nat.reduceBEq,Nat.reduceAdd,fillA,splice,Nat.reduceMul,al0,al1,al2,al3,al4,al5,al6,al7,al8,al9,al10,al11,al12,al13,al14,al15,al16,al17,al18,al19,al20,al21,al22,al23,al24,al25,al26,al27,al28,al29,al30,al31,al32,al33,al34,amY,op_eqP, hlen, hlt', e1, e2, hwk]
    exact r1
theorem tells_P (h : TD CT) (hT : CT k_gnomonlaw01_tells = some (.code s_gnomonlaw01_tells)) (hS : CT k_gnomonref01_Same = some (.code s_gnomonref01_Same)) (hH : CT k_gnomonref01_Has = some (.code s_gnomonref01_Has)) (base : Nat) {H : Heap} {i j : Nat} {p : WS} {v : V} (sp : SetP H i j p) (hv : LiS 0 H v (el p)) (c : cnt p ≤ 2 ^ 40) (x : Int) (hx : x < 2 ^ 63) (hb : base ≤ H.length) :
    ∃ H', callW CT (.fn k_gnomonlaw01_tells [] []) [.ref i 0 0, v, .s (.int .i64 x)] base H = some (.s (.bool true), H') ∧ KeepD H.length [] H H' := by
  obtain ⟨v1, H1, e1, o1, k1⟩ := list_P h base sp (by omega) hb
  obtain ⟨H2, e2, k2⟩ := least_P h base (k1.s sp) (by omega) (Nat.le_trans hb k1.1)
  have o2 := k2.o o1
  have k02 := k1.trans k2 k1.1
  have s2 := k2.s (k1.s sp)
  have v2 := (hv.d k1).d k2
  have hl : (el p).length ≤ 2 ^ 40 := by rw [el_len]; exact c
  have f1 := fun base => len_fun h.len base s2
  have f2 := fun base => same_fun hS base H2 v1 v (el p) (el p) o2.rd o2.wide v2.rd v2.wide (by omega)
  have f3 := fun base => has_P h.toTB base s2 x hx
  have f4 := fun base => rhas_fun hH base H2 v (el p) x v2.rd v2.wide (by omega)
  have hlv := iV_len v2.rd
  have hl1 := iV_len o2.rd
  rw [el_len] at hlv hl1
  obtain ⟨H3, e3, k3⟩ := tells_loop (callW CT) base (H0 := H2) (m := H.length) k02.1 (v := v1) (n := cnt p) (by omega) hb (cnt p) 0 H2 ((el p).map iV) (by omega) (by rw [List.length_map, el_len]) ⟨k02.1, fun _ _ _ => rfl⟩ o2
  rw [cast0] at e3
  have hbeq : (el p == el p) = true := by simp
  have hq : hasF p.2 x = (el p).contains x := by rw [Bool.eq_iff_iff, ← mem_el s2.wd]; simp
  refine ⟨H3, ?_, k02.trans k3 (Nat.le_refl _)⟩
  refine callW_fn (c := s_gnomonlaw01_tells) hT (by simp [s_gnomonlaw01_tells]) ?_
  cases hel : el p with
  | nil =>
    have hc0 : cnt p = 0 := by rw [← el_len, hel]; rfl
    rw [hel] at e2 f2 f4 hq
    rw [hc0] at f1 hlv e3
    simp only [leastV] at e2
    simp only [s_gnomonlaw01_tells, a_gnomonlaw01_tells,s_gnomonlaw01_tells_l0_b, am0,am1,am2,am3,am4,am5,am6,am7,bl,i64,reduceIte,reduceCtorEq,Nat.reduceEqDiff,Nat.reduceLT,Nat.reduceLeDiff,Nat.reduceBEq,Nat.reduceAdd,fillA,splice,Nat.reduceMul,al0,al1,al2,al3,al4,al5,al6,al7,al8,al9,al10,al11,al12,al13,al14,al15,al16,al17,al18,al19,al20,al21,al22,al23,al24,al25,al26,al27,al28,al29,al30,al31,al32,al33,al34,amY,op_eqP, e1, e2, f1, f2, f3, f4, hlv, hbeq, hq, e3, show decide ((0 : Int) > 0) = false from rfl, show decide (((0 : Nat) : Int) > 0) = false from rfl]
    done
  | cons y r =>
    obtain ⟨a, a1, a2⟩ := iV_at (k := 0) (x := y) v2.rd v2.wide (by rw [hel]; rfl)
    rw [cast0] at a1
    have hc0 : decide ((cnt p : Int) > 0) = true := by rw [← el_len, hel]; simp
    rw [hel] at e2 f2 f4 hq
    simp only [leastV] at e2
    simp only [s_gnomonlaw01_tells, a_gnomonlaw01_tells,s_gnomonlaw01_tells_l0_b, am0,am1,am2,am3,am4,am5,am6,am7,bl,i64,reduceIte,reduceCtorEq,Nat.reduceEqDiff,Nat.reduceLT,Nat.reduceLeDiff,Nat.reduceBEq,Nat.reduceAdd,fillA,splice,Nat.reduceMul,al0,al1,al2,al3,al4,al5,al6,al7,al8,al9,al10,al11,al12,al13,al14,al15,al16,al17,al18,al19,al20,al21,al22,al23,al24,al25,al26,al27,al28,al29,al30,al31,al32,al33,al34,amY,op_eqP, e1, e2, f1, f2, f3, f4, hlv, hbeq, hq, hc0, a1, a2, e3]
    done
end
end Go.Proofs.YtccallbknpbggaaDoor
set_option maxRecDepth 100000
namespace Go.Proofs.YtccallbknpbggaaDoor
open Go.AM
def updN {α : Type} (f : Nat → α) (a : Nat) (v : α) : Nat → α := fun k => if k = a then v else f k
theorem updN_same {α : Type} (f : Nat → α) (a : Nat) (v : α) : updN f a v a = v := if_pos rfl
theorem updN_ne {α : Type} (f : Nat → α) {a k : Nat} (v : α) (h : k ≠ a) : updN f a v k = f k := if_neg h
def four {α : Type} (f : Nat → α) : List α := [f 0, f 1, f 2, f 3]
theorem four_get {α : Type} (f : Nat → α) {a : Nat} (h : a < 4) : (four f)[a]? = some (f a) := by
  match a, h with
  | 0, _ => rfl
  | 1, _ => rfl
  | 2, _ => rfl
  | 3, _ => rfl
theorem four_set {α : Type} (f : Nat → α) {a : Nat} (h : a < 4) (v : α) : (four f).set a v = four (updN f a v) := by
  match a, h with
  | 0, _ => rfl
  | 1, _ => rfl
  | 2, _ => rfl
  | 3, _ => rfl
theorem four_len {α : Type} (f : Nat → α) : (four f).length = 4 := rfl
theorem mem_four {α : Type} (f : Nat → α) {a : Nat} (h : a < 4) : f a ∈ four f := List.mem_of_getElem? (four_get f h)
theorem getC_ne {H : Heap} {o o2 g g2 : Nat} {x x2 : V} {c c2 : List V} (h : getC H o g = some (x :: c)) (h2 : getC H o2 g2 = some (x2 :: c2)) (hx : x ≠ x2) : o ≠ o2 := by
  rintro rfl
  unfold getC at h h2
  cases ho : H[o]? with
  | none => rw [ho] at h; cases h
  | some ob =>
    rw [ho] at h h2
    cases ob with
    | cells g3 c3 =>
      dsimp only at h h2
      split at h
      · split at h2
        · cases h
          simp only [Option.some.injEq, List.cons.injEq] at h2
          exact hx h2.1
        · cases h2
      · cases h
    | map _ => cases h
    | loop _ _ _ _ _ _ => cases h
    | dead => cases h
theorem getC_no_map {H : Heap} {o g j : Nat} {c : List V} {es : List (Value × V)} (h : getC H o g = some c) (h2 : H[j]? = some (.map es)) : j ≠ o := by
  rintro rfl
  unfold getC at h
  rw [h2] at h
  cases h
structure PL (H : Heap) (oS oW : Nat) (I J : Nat → Nat) (P : Nat → WS) (vs : Nat → V) (L : Nat → List Int) : Prop where
  S : getC H oS 0 = some (four fun k => V.ref (I k) 0 0)
  W : getC H oW 0 = some (four vs)
  set : ∀ k, k < 4 → SetP H (I k) (J k) (P k)
  li : ∀ k, k < 4 → LiS 0 H (vs k) (L k)
  dis : ∀ k k', k < 4 → k' < 4 → k ≠ k' → I k ≠ I k' ∧ J k ≠ J k'
variable {H : Heap} {oS oW : Nat} {I J : Nat → Nat} {P : Nat → WS} {vs : Nat → V} {L : Nat → List Int}
theorem liS_no_ref {m : Nat} {v : V} {l : List Int} (h : LiS m H v l) (i g o : Nat) : V.ref i g o ≠ v := by
  rcases h with ⟨_, rfl⟩ | ⟨_, _, rfl, _⟩ <;> (intro e; cases e)
theorem liS_no_mp {m : Nat} {v : V} {l : List Int} (h : LiS m H v l) (i : Nat) : V.mp i ≠ v := by
  rcases h with ⟨_, rfl⟩ | ⟨_, _, rfl, _⟩ <;> (intro e; cases e)
theorem liS_no_int {m : Nat} {v : V} {l : List Int} (h : LiS m H v l) (n : Int) : v ≠ iV n := by
  rcases h with ⟨_, rfl⟩ | ⟨_, _, rfl, _⟩ <;> (intro e; cases e)
theorem PL.sw (h : PL H oS oW I J P vs L) : oS ≠ oW := getC_ne h.S h.W (liS_no_ref (h.li 0 (by decide)) _ _ _)
theorem PL.setS (h : PL H oS oW I J P vs L) {i j : Nat} {p : WS} (hp : SetP H i j p) : i ≠ oS ∧ j ≠ oS := ⟨getC_ne (SetW.box hp) h.S (by intro e; cases e), getC_no_map h.S (SetW.map hp)⟩
theorem PL.setW (h : PL H oS oW I J P vs L) {i j : Nat} {p : WS} (hp : SetP H i j p) : i ≠ oW ∧ j ≠ oW := ⟨getC_ne (SetW.box hp) h.W (liS_no_mp (h.li 0 (by decide)) _), getC_no_map h.W (SetW.map hp)⟩
theorem PL.liS (h : PL H oS oW I J P vs L) {m : Nat} {v : V} {l : List Int} (hl : LiS m H v l) : ∀ id g n, v = .sl id g 0 n 1 → id ≠ oS := hl.apart h.S (by intro n e; cases e)
theorem PL.liW (h : PL H oS oW I J P vs L) {m : Nat} {v : V} {l : List Int} (hl : LiS m H v l) : ∀ id g n, v = .sl id g 0 n 1 → id ≠ oW := hl.apart h.W (liS_no_int (h.li 0 (by decide)))
theorem PL.d (h : PL H oS oW I J P vs L) {H' : Heap} (k : KeepD H.length [] H H') : PL H' oS oW I J P vs L :=
  ⟨k.getC h.S (getC_lt h.S) (by simp), k.getC h.W (getC_lt h.W) (by simp), fun a ha => k.s (h.set a ha), fun a ha => (h.li a ha).d k, h.dis⟩
theorem PL.storeW (h : PL H oS oW I J P vs L) {a : Nat} (ha : a < 4) {v : V} {l : List Int} (hv : LiS 0 H v l) :
    ∃ H', storeV H 0 1 v (.ref oW 0 a) = some H' ∧ PL H' oS oW I J P (updN vs a v) (updN L a l) ∧ H'.length = H.length ∧ ∀ id, id ≠ oW → H'[id]? = H[id]? := by
  have hne : ∀ id, id ≠ oW → (H.set oW (.cells 0 ((four vs).set a v)))[id]? = H[id]? := fun id hid => List.getElem?_set_ne (Ne.symm hid)
  refine ⟨_, storeV_at h.W (Nat.zero_le _) hv.one (by rw [four_len]; exact ha), ⟨?_, ?_, fun k hk => ?_, fun k hk => ?_, h.dis⟩, List.length_set, hne⟩
  · rw [getC_other h.sw]; exact h.S
  · rw [← four_set vs ha]; exact getC_put h.W
  · have := h.set k hk
    obtain ⟨h1, h2⟩ := h.setW this
    exact this.keep (hne _ h1) (hne _ h2)
  · by_cases hk' : k = a
    · subst hk'
      rw [updN_same, updN_same]
      exact hv.keep fun id g n e => hne id (h.liW hv id g n e)
    · rw [updN_ne _ _ hk', updN_ne _ _ hk']
      exact (h.li k hk).keep fun id g n e => hne id (h.liW (h.li k hk) id g n e)
theorem PL.storeS (h : PL H oS oW I J P vs L) {a : Nat} (ha : a < 4) {i j : Nat} {p : WS} (hp : SetP H i j p) (hf : ∀ k, k < 4 → i ≠ I k ∧ j ≠ J k) :
    ∃ H', storeV H 0 1 (.ref i 0 0) (.ref oS 0 a) = some H' ∧ PL H' oS oW (updN I a i) (updN J a j) (updN P a p) vs L ∧ H'.length = H.length ∧ ∀ id, id ≠ oS → H'[id]? = H[id]? := by
  have hne : ∀ id, id ≠ oS → (H.set oS (.cells 0 ((four fun k => V.ref (I k) 0 0).set a (.ref i 0 0))))[id]? = H[id]? := fun id hid => List.getElem?_set_ne (Ne.symm hid)
  refine ⟨_, storeV_at h.S (Nat.zero_le _) rfl (by rw [four_len]; exact ha), ⟨?_, ?_, fun k hk => ?_, fun k hk => ?_, fun k k' hk hk' hkk => ?_⟩, List.length_set, hne⟩
  · rw [show (four fun k => V.ref (updN I a i k) 0 0) = (four fun k => V.ref (I k) 0 0).set a (.ref i 0 0) from ?_]
    · exact getC_put h.S
    · rw [four_set _ ha]
      congr 1
      funext k
      unfold updN
      split <;> rfl
  · rw [getC_other (Ne.symm h.sw)]; exact h.W
  · by_cases hk' : k = a
    · subst hk'
      rw [updN_same, updN_same, updN_same]
      obtain ⟨h1, h2⟩ := h.setS hp
      exact hp.keep (hne _ h1) (hne _ h2)
    · rw [updN_ne _ _ hk', updN_ne _ _ hk', updN_ne _ _ hk']
      have := h.set k hk
      obtain ⟨h1, h2⟩ := h.setS this
      exact this.keep (hne _ h1) (hne _ h2)
  · exact (h.li k hk).keep fun id g n e => hne id (h.liS (h.li k hk) id g n e)
  · by_cases h1 : k = a
    · subst h1
      rw [updN_same, updN_same, updN_ne _ _ (Ne.symm hkk), updN_ne _ _ (Ne.symm hkk)]
      exact hf k' hk'
    · rw [updN_ne _ _ h1, updN_ne _ _ h1]
      by_cases h2 : k' = a
      · subst h2
        rw [updN_same, updN_same]
        have := hf k hk
        exact ⟨Ne.symm this.1, Ne.symm this.2⟩
      · rw [updN_ne _ _ h2, updN_ne _ _ h2]
        exact h.dis k k' hk hk' hkk
theorem PL.b (h : PL H oS oW I J P vs L) {a : Nat} (ha : a < 4) {H' : Heap} {p : WS} (hp : SetP H' (I a) (J a) p) (k : KeepB H.length (I a) (J a) H H') : PL H' oS oW I J (updN P a p) vs L := by
  have sa := h.set a ha
  obtain ⟨s1, s2⟩ := h.setS sa
  obtain ⟨w1, w2⟩ := h.setW sa
  refine ⟨getC_keep h.S (k.2 oS (getC_lt h.S) (Ne.symm s1) (Ne.symm s2)), getC_keep h.W (k.2 oW (getC_lt h.W) (Ne.symm w1) (Ne.symm w2)), fun c hc => ?_, fun c hc => ?_, h.dis⟩
  · by_cases hca : c = a
    · subst hca
      rw [updN_same]
      exact hp
    · rw [updN_ne _ _ hca]
      have sc := h.set c hc
      obtain ⟨d1, d2⟩ := h.dis c a hc ha hca
      exact k.s sc ⟨d1, Ne.symm (getC_no_map (SetW.box sc) (SetW.map sa)), getC_no_map (SetW.box sa) (SetW.map sc), d2⟩
  · have hl := h.li c hc
    exact hl.keep fun id g n e => k.2 id (hl.lt id g n e) (hl.apart_set sa id g n e).1 (hl.apart_set sa id g n e).2
theorem PL.trim (h : PL H oS oW I J P vs L) {m : Nat} (hS : oS < m) (hW : oW < m) (fr : List V) : PL (Go.AM.trim m fr H) oS oW I J P vs L := by
  rcases trim_cells m fr H with e | ⟨e, _, hu⟩
  · rw [e]; exact h
  · have hI : ∀ k, k < 4 → I k < m := fun k hk => by
      have := hu oS 0 _ hS h.S _ (mem_four (fun k => V.ref (I k) 0 0) hk)
      simpa [idsUnder] using this
    have hJ : ∀ k, k < 4 → J k < m := fun k hk => by
      have := hu (I k) 0 _ (hI k hk) (SetW.box (h.set k hk)) (.mp (J k)) (by simp)
      simpa [idsUnder] using this
    exact ⟨trim_get h.S hS, trim_get h.W hW, fun k hk => (h.set k hk).trim (hI k hk) (hJ k hk) fr, fun k hk => by
      rw [e]; exact (h.li k hk).under (hu oW 0 _ hW h.W _ (mem_four vs hk)), h.dis⟩
end Go.Proofs.YtccallbknpbggaaDoor
set_option maxRecDepth 100000
namespace Go.Proofs.YtccallbknpbggaaDoor
open Go.AM
def plays_b2 : ACode :=
    (.block 2
  (.seq (.regionE s_gnomonlaw01_BitsPlays_r12 [73] [72])
  (.cond (.t 72)
  (.seq (.region s_gnomonlaw01_BitsPlays_r13 [] [10, 43, 72, 74, 75, 76, 77, 78, 79, 80, 81, 82, 83])
  (.region s_gnomonlaw01_BitsPlays_r14 [(6, 10), (6, 11), (6, 13)] [9, 84, 85, 86, 87, 88, 89, 90, 91, 92, 93, 94, 95, 96, 97, 98, 99]))
  (.seq (.regionE s_gnomonlaw01_BitsPlays_r15 [72, 101] [100])
  (.cond (.t 100)
  (.seq (.region s_gnomonlaw01_BitsPlays_r16 [] [10, 43, 100, 102, 103, 104, 105, 106, 107, 108, 109, 110, 111, 112])
  (.region s_gnomonlaw01_BitsPlays_r17 [(6, 10), (6, 11), (6, 13)] [9, 113, 114, 115, 116, 117, 118, 119, 120, 121, 122, 123, 124, 125, 126, 127, 128]))
  (.seq (.regionE s_gnomonlaw01_BitsPlays_r18 [100, 130] [129])
  (.cond (.t 129)
  (.seq (.region s_gnomonlaw01_BitsPlays_r19 [] [10, 43, 129, 131, 132, 133, 134, 135, 136, 137, 138, 139, 140, 141, 142])
  (.region s_gnomonlaw01_BitsPlays_r20 [(8, 12), (8, 13), (8, 15)] [9, 143, 144, 145, 146, 147, 148, 149, 150, 151, 152, 153, 154, 155, 156, 157, 158, 159, 160]))
  (.seq (.regionE s_gnomonlaw01_BitsPlays_r21 [9, 129, 162] [161])
  (.cond (.t 161)
  (.seq (.region s_gnomonlaw01_BitsPlays_r22 [] [43, 161, 163, 164, 165, 166, 167, 168, 169, 170, 171, 172, 173, 174])
  (.region s_gnomonlaw01_BitsPlays_r23 [] [175, 176, 177, 178, 179, 180, 181, 182, 183, 184, 185, 186]))
  (.seq (.regionE s_gnomonlaw01_BitsPlays_r24 [161, 188] [187])
  (.cond (.t 187)
  (.seq (.region s_gnomonlaw01_BitsPlays_r25 [] [43, 187, 189, 190, 191, 192, 193, 194, 195, 196, 197, 198, 199, 200])
  (.region s_gnomonlaw01_BitsPlays_r26 [] [201, 202, 203, 204, 205, 206, 207, 208, 209, 210, 211, 212]))
  (.seq (.regionE s_gnomonlaw01_BitsPlays_r27 [43, 187, 214] [213])
  (.cond (.t 213)
  (.seq (.region s_gnomonlaw01_BitsPlays_r28 [] [213, 215, 216, 217, 218, 219, 220, 221])
  (.region s_gnomonlaw01_BitsPlays_r29 [] [222, 223, 224, 225, 226, 227, 228, 229]))
  (.seq (.region s_gnomonlaw01_BitsPlays_r30 [] [44, 45, 46, 47, 48, 49, 50, 51, 52, 53, 54, 55, 56, 57, 213])
  (.region s_gnomonlaw01_BitsPlays_r31 [] [58, 59, 60, 61, 62, 63, 64, 65, 66, 67, 68, 69, 70, 71])))))))))))))))
structure RF (CT : Nat → Option CFun) : Prop where
  add : CT k_gnomonref01_Add = some (.code s_gnomonref01_Add)
  of : CT k_gnomonref01_Of = some (.code s_gnomonref01_Of)
  union : CT k_gnomonref01_Union = some (.code s_gnomonref01_Union)
  pick : CT k_gnomonref01_Pick = some (.code s_gnomonref01_Pick)
  has : CT k_gnomonref01_Has = some (.code s_gnomonref01_Has)
  same : CT k_gnomonref01_Same = some (.code s_gnomonref01_Same)
theorem liS_len {m : Nat} {H : Heap} {v : V} {l : List Int} (h : LiS m H v l) (H' : Heap) : xLen H' .s v = some (.s (.int .i64 l.length)) := by
  rcases h with ⟨rfl, rfl⟩ | ⟨_, _, rfl, _⟩ <;> rfl
theorem pickI_shorter {N : Int} {l : List Int} : (pickI [N] false l).length < l.length ↔ l.contains N = true := by
  unfold pickI
  rw [List.contains_iff_mem]
  constructor
  · intro h
    apply Decidable.byContradiction
    intro hn
    rw [List.filter_eq_self.2] at h
    · omega
    · intro x hx
      have : x ≠ N := fun e => hn (e ▸ hx)
      simpa using this
  · intro h
    refine List.length_filter_lt_length_iff_exists.2 ⟨N, h, ?_⟩
    simp
theorem liS_obj {m : Nat} {H : Heap} {v : V} {l : List Int} (h : LiS m H v l) : v.obj? = some none := by
  rcases h with ⟨_, rfl⟩ | ⟨_, _, rfl, _⟩ <;> rfl
theorem load_at {H : Heap} {o k : Nat} {c : List V} {x : V} (h : getC H o 0 = some c) (hx : c[k]? = some x) : xLoad H false 1 (.ref o 0 k) = some x := (at_sl h (n := k + 1) (by omega) hx).2
theorem addr_sl (o : Nat) {a : Nat} (h : a < 4) : xIndexAddr 1 (.sl o 0 0 4 1) (.s (.int .i64 (a : Nat))) = some (.ref o 0 a) := by
  have h1 : (0 : Int) ≤ a ∧ (a : Int) < (4 : Nat) ∧ 1 = 1 := ⟨by omega, by omega, rfl⟩
  simp only [xi_sl, h1, and_self, if_true, Int.toNat_natCast, Nat.mul_one, Nat.zero_add]
def Rnd (CT : Nat → Option CFun) (H : Heap) (oS oW oX : Nat) (P : Nat → WS) (va old : V) (i : Int) (a b : Nat) (d A B N : Int) : Prop :=
  ∃ H' I' J' P' vs', evC (callW CT) itW 0 plays_b2 (frOf 291 [(0, va), (3, .sl oS 0 0 4 1), (4, .sl oW 0 0 4 1), (5, .s (.int .i64 i)), (6, .ref oX 0 0), (7, .s (.int .i64 (a : Nat))), (8, .s (.int .i64 (b : Nat))), (9, old), (10, .s (.bool true)), (43, .s (.int .i64 d))]) H = some (.nrm, frOf 291 [(0, va), (3, .sl oS 0 0 4 1), (4, .sl oW 0 0 4 1), (5, .s (.int .i64 i)), (6, .ref oX 0 0), (7, .s (.int .i64 (a : Nat))), (8, .s (.int .i64 (b : Nat))), (10, .s (.bool true))], H') ∧ PL H' oS oW I' J' P' vs' (fun k => el (P' k)) ∧ getC H' oX 0 = some [iV d, iV A, iV B, iV N] ∧ H.length ≤ H'.length ∧ ∀ k, k < 4 → ∀ y ∈ el (P' k), (∃ k', k' < 4 ∧ y ∈ el (P k')) ∨ y ∈ [N, IntKind.i64.wrap (N + 1), B]
theorem mem_rnd {P : Nat → WS} {a : Nat} {p : WS} {M : List Int} (h : ∀ y ∈ el p, (∃ k', k' < 4 ∧ y ∈ el (P k')) ∨ y ∈ M) : ∀ k, k < 4 → ∀ y ∈ el (updN P a p k), (∃ k', k' < 4 ∧ y ∈ el (P k')) ∨ y ∈ M := by
  intro k hk y hy
  by_cases hka : k = a
  · subst hka
    rw [updN_same] at hy
    exact h y hy
  · rw [updN_ne _ _ hka] at hy
    exact .inl ⟨k, hk, hy⟩
theorem upd_el {P : Nat → WS} {a : Nat} {p : WS} : updN (fun k => el (P k)) a (el p) = fun k => el (updN P a p k) := by
  funext k
  unfold updN
  split <;> rfl
section
variable {CT : Nat → Option CFun} {H : Heap} {oS oW oX : Nat} {I J : Nat → Nat} {P : Nat → WS} {vs : Nat → V} {va : V} {i : Int} {a b : Nat} {A B N : Int}
theorem rnd0 (h : TD CT) (r : RF CT) (hp : PL H oS oW I J P vs (fun k => el (P k))) (hc : ∀ k, k < 4 → cnt (P k) ≤ 1000) (ha : a < 4) (hb : b < 4) (hN : N < 2 ^ 63) (hB : B < 2 ^ 63) (hX : getC H oX 0 = some [iV 0, iV A, iV B, iV N]) : Rnd CT H oS oW oX P va (vs a) i a b 0 A B N := by
  have l3 := load_at (k := 3) hX rfl
  have la := hp.li a ha
  have lb := hp.li b hb
  have sa := hp.set a ha
  have sb := hp.set b hb
  have ca := hc a ha
  have cb := hc b hb
  have ad := fun o => addr_sl o ha
  have bd := fun o => addr_sl o hb
  have wa := load_at hp.W (four_get vs ha)
  have wb := load_at hp.W (four_get vs hb)
  have lno := liS_len la
  have xW : oX ≠ oW := getC_ne hX hp.W (fun e => liS_no_int (hp.li 0 (by decide)) _ e.symm)
  have xS : oX ≠ oS := getC_ne hX hp.S (by intro e; cases e)
  simp only [iV] at l3
  have ca0 : (el (P a)).length = cnt (P a) := el_len _
  obtain ⟨v1, H1, e1, x1, k1⟩ := radd_fun r.add r.has 0 N la (by omega) (Nat.zero_le _)
  have p1 := hp.d k1
  obtain ⟨H2, e2, p2, q2, q2'⟩ := p1.storeW ha x1
  have X2 : getC H2 oX 0 = some [iV 0, iV A, iV B, iV N] := getC_keep (k1.getC hX (getC_lt hX) (by simp)) (q2' oX xW)
  have sa2 := p2.set a ha
  have e3 := add_P h.toTB 0 sa2 (Nat.zero_le _) (Nat.zero_le _) N hN (by omega)
  have wd := sa2.wd.addP hN
  have n3 := sa2.putPH wd
  have k3 : KeepB H2.length (I a) (J a) H2 (putPH H2 (I a) (J a) (addP (P a) N)) := ⟨by rw [putPH_len]; exact Nat.le_refl _, fun id _ h1 h2 => putPH_other _ _ _ _ h1 h2⟩
  have p3 := p2.b ha n3 k3
  have hel : addL (el (P a)) N = el (addP (P a) N) := rise_ext (addL_lt (el_lt sa.wd) N) (el_lt wd) fun y => by rw [mem_addL, mem_addP sa.wd hN]
  have l3' := load_at (k := 3) X2 rfl
  have s2 := load_at p2.S (four_get _ ha)
  obtain ⟨H3, h3⟩ : ∃ H3, putPH H2 (I a) (J a) (addP (P a) N) = H3 := ⟨_, rfl⟩
  rw [h3] at p3 e3 k3
  have w3 := load_at p3.W (four_get _ ha)
  rw [updN_same] at w3
  have ln := liS_len (p3.li a ha)
  rw [updN_same, updN_same] at ln
  simp only [iV] at l3'
  have hok : ((decide (0 ≤ N) && !hasF (P a).2 N) == decide (((addL (el (P a)) N).length : Int) > ((el (P a)).length : Int))) = true := by
    have hh : (el (P a)).contains N = hasF (P a).2 N := by rw [Bool.eq_iff_iff, ← mem_el sa.wd]; simp
    have e := congrArg List.length (List.takeWhile_append_dropWhile (p := fun y => decide (y < N)) (l := el (P a)))
    rw [List.length_append] at e
    unfold addL
    by_cases h0 : N < 0
    · have : ¬ 0 ≤ N := by omega
      simp [h0, this]
    · have h1 : 0 ≤ N := by omega
      cases hq : hasF (P a).2 N with
      | true => rw [hq] at hh; rw [if_pos (.inr hh)]; simp [h1]
      | false =>
        rw [hq] at hh
        rw [if_neg (by rintro (h | h); exact h0 h; rw [hh] at h; cases h)]
        simp [h1]
        omega
  have X3 : getC H3 oX 0 = some [iV 0, iV A, iV B, iV N] := by
    rw [← h3]
    exact putPH_getC X2 (getC_ne X2 (SetW.box sa2) (by intro e; cases e)) (Ne.symm (getC_no_map X2 (SetW.map sa2)))
  rw [hel, upd_el] at p3
  have kW : H3[oW]? = H2[oW]? := by
    obtain ⟨d1, d2⟩ := p2.setW sa2
    exact k3.2 oW (getC_lt p2.W) (Ne.symm d1) (Ne.symm d2)
  have s2b : (0 : Nat) = 0 := rfl
  have lob := liS_obj (p3.li a ha)
  rw [updN_same] at lob
  have hrow : evC (callW CT) itW 0 (.region s_gnomonlaw01_BitsPlays_r14 [(6, 10), (6, 11), (6, 13)] [9, 84, 85, 86, 87, 88, 89, 90, 91, 92, 93, 94, 95, 96, 97, 98, 99]) (frOf 291 [(0, va), (3, .sl oS 0 0 4 1), (4, .sl oW 0 0 4 1), (5, .s (.int .i64 i)), (6, .ref oX 0 0), (7, .s (.int .i64 (a : Nat))), (8, .s (.int .i64 (b : Nat))), (9, vs a)]) H2 = some (.nrm, frOf 291 [(0, va), (3, .sl oS 0 0 4 1), (4, .sl oW 0 0 4 1), (5, .s (.int .i64 i)), (6, .ref oX 0 0), (7, .s (.int .i64 (a : Nat))), (8, .s (.int .i64 (b : Nat))), (10, .s (.bool true))], H3) := by
    refine (evC_late1 (A := [⟨some 84, (.move (.t 3)), none⟩, ⟨some 85, (.move (.t 7)), none⟩, ⟨some 86, (.indexAddr 1 (.t 84) (.t 85)), none⟩, ⟨some 87, (.load false 1 (.t 86)), none⟩, ⟨some 88, (.fieldAddr 3 (.t 6)), none⟩, ⟨some 89, (.load false 1 (.t 88)), none⟩]) (o := ⟨some 90, (.call (.c (.fn 12 [] [])) [(.t 87), (.t 89)]), none⟩) (B := [⟨some 91, (.move (.t 4)), none⟩, ⟨some 92, (.move (.t 7)), none⟩, ⟨some 93, (.indexAddr 1 (.t 91) (.t 92)), none⟩, ⟨some 94, (.load false 1 (.t 93)), none⟩, ⟨some 95, (.lenS .s (.t 94)), none⟩, ⟨some 96, (.move (.t 9)), none⟩, ⟨some 97, (.lenS .s (.t 96)), none⟩, ⟨some 98, (.bin .gtr (.t 95) (.t 97)), none⟩, ⟨some 99, (.eqB false (.t 90) (.t 98)), none⟩, ⟨some 10, (.move (.t 99)), none⟩]) (by simp only [am0,am1,am2,am3,am4,am5,am6,am7,bl,i64,reduceIte,reduceCtorEq,Nat.reduceEqDiff,Nat.reduceLT,Nat.reduceLeDiff,Nat.reduceBEq,Nat.reduceAdd,fillA,splice,Nat.reduceMul,al0,al1,al2,al3,al4,al5,al6,al7,al8,al9,al10,al11,al12,al13,al14,al15,al16,al17,al18,al19,al20,al21,al22,al23,al24,al25,al26,al27,al28,al29,al30,al31,al32,al33,al34,amY,op_eqP, ad, bd, s2, s2b, l3']; rfl) (by simp only [am0,am1,am2,am3,am4,am5,am6,am7,bl,i64,reduceIte,reduceCtorEq,Nat.reduceEqDiff,Nat.reduceLT,Nat.reduceLeDiff,Nat.reduceBEq,Nat.reduceAdd,fillA,splice,Nat.reduceMul,al0,al1,al2,al3,al4,al5,al6,al7,al8,al9,al10,al11,al12,al13,al14,al15,al16,al17,al18,al19,al20,al21,al22,al23,al24,al25,al26,al27,al28,al29,al30,al31,al32,al33,al34,amY,op_eqP, e3]; rfl) (by simp only [am0,am1,am2,am3,am4,am5,am6,am7,bl,i64,reduceIte,reduceCtorEq,Nat.reduceEqDiff,Nat.reduceLT,Nat.reduceLeDiff,Nat.reduceBEq,Nat.reduceAdd,fillA,splice,Nat.reduceMul,al0,al1,al2,al3,al4,al5,al6,al7,al8,al9,al10,al11,al12,al13,al14,al15,al16,al17,al18,al19,al20,al21,al22,al23,al24,al25,al26,al27,al28,al29,al30,al31,al32,al33,al34,amY,op_eqP, ad, w3, ln, lno, hok]; rfl) rfl ?_).trans (by simp only [am0,am1,am2,am3,am4,am5,am6,am7,bl,i64,reduceIte,reduceCtorEq,Nat.reduceEqDiff,Nat.reduceLT,Nat.reduceLeDiff,Nat.reduceBEq,Nat.reduceAdd,fillA,splice,Nat.reduceMul,al0,al1,al2,al3,al4,al5,al6,al7,al8,al9,al10,al11,al12,al13,al14,al15,al16,al17,al18,al19,al20,al21,al22,al23,al24,al25,al26,al27,al28,al29,al30,al31,al32,al33,al34,amY,op_eqP])
    intro p hp
    simp only [List.mem_cons, List.not_mem_nil, or_false] at hp
    rcases hp with rfl | rfl | rfl
    · exact ⟨rfl, some oW, rfl, fun id e => by cases e; exact kW⟩
    · exact ⟨rfl, none, lob, fun id e => by cases e⟩
    · exact ⟨rfl, none, liS_obj la, fun id e => by cases e⟩
  refine ⟨H3, I, J, updN P a (addP (P a) N), updN vs a v1, ?_, p3, X3, by have := k1.1; have := k3.1; omega, mem_rnd fun y hy => ?_⟩
  · simp only [plays_b2, ↓hrow, a_gnomonlaw01_BitsPlays,s_gnomonlaw01_BitsPlays_l0_b,s_gnomonlaw01_BitsPlays_l1_b, am0,am1,am2,am3,am4,am5,am6,am7,bl,i64,reduceIte,reduceCtorEq,Nat.reduceEqDiff,Nat.reduceLT,Nat.reduceLeDiff,Nat.reduceBEq,Nat.reduceAdd,fillA,splice,Nat.reduceMul,al0,al1,al2,al3,al4,al5,al6,al7,al8,al9,al10,al11,al12,al13,al14,al15,al16,al17,al18,al19,al20,al21,al22,al23,al24,al25,al26,al27,al28,al29,al30,al31,al32,al33,al34,amY,op_eqP, ad, wa, l3, e1, e2]
    done
  · rcases (mem_addP sa.wd hN).1 hy with hy | ⟨rfl, _⟩
    · exact .inl ⟨a, ha, hy⟩
    · exact .inr (by simp)
theorem rnd1 (h : TD CT) (r : RF CT) (hp : PL H oS oW I J P vs (fun k => el (P k))) (hc : ∀ k, k < 4 → cnt (P k) ≤ 1000) (ha : a < 4) (hb : b < 4) (hN : N < 2 ^ 63) (hB : B < 2 ^ 63) (hX : getC H oX 0 = some [iV 1, iV A, iV B, iV N]) : Rnd CT H oS oW oX P va (vs a) i a b 1 A B N := by
  have l3 := load_at (k := 3) hX rfl
  have la := hp.li a ha
  have lb := hp.li b hb
  have sa := hp.set a ha
  have sb := hp.set b hb
  have ca := hc a ha
  have cb := hc b hb
  have ad := fun o => addr_sl o ha
  have bd := fun o => addr_sl o hb
  have wa := load_at hp.W (four_get vs ha)
  have wb := load_at hp.W (four_get vs hb)
  have lno := liS_len la
  have xW : oX ≠ oW := getC_ne hX hp.W (fun e => liS_no_int (hp.li 0 (by decide)) _ e.symm)
  have xS : oX ≠ oS := getC_ne hX hp.S (by intro e; cases e)
  simp only [iV] at l3
  obtain ⟨B1, hB1⟩ : ∃ B1, H ++ [Ob.cells 0 ([iV N])] = B1 := ⟨_, rfl⟩
  have kB1 : KeepD H.length [] H B1 := ⟨by rw [← hB1]; simp, fun id h1 _ => by rw [← hB1, List.getElem?_append_left h1]⟩
  have rB1 : Rd B1 (.sl H.length 0 0 1 1) (([N] : List Int).map iV) := by rw [← hB1]; exact getC_sl (getC_new H 0 _)
  simp only [iV] at hB1
  have pB := hp.d kB1
  have laB := pB.li a ha
  obtain ⟨v1, H1, e1, x1, k1⟩ := rpick_fun r.pick r.has 0 false laB.rd laB.wide rB1 trivial (by have := el_len (P a); omega) (by simp) (Nat.zero_le _)
  have x1 := x1.mono (Nat.zero_le _)
  have p1 := pB.d k1
  have kX := kB1.trans k1 kB1.1
  obtain ⟨H2, e2, p2, q2, q2'⟩ := p1.storeW ha x1
  have X2 : getC H2 oX 0 = some [iV 1, iV A, iV B, iV N] := getC_keep (kX.getC hX (getC_lt hX) (by simp)) (q2' oX xW)
  have sa2 := p2.set a ha
  have sb2 := p2.set b hb
  have l3' := load_at (k := 3) X2 rfl
  have s2 := load_at p2.S (four_get _ ha)
  have s2b := load_at p2.S (four_get _ hb)
  simp only [iV] at l3'
  have e3 := drop_P h.toTC 0 sa2 (Nat.zero_le _) (Nat.zero_le _) N hN (by omega)
  have wd := sa2.wd.dropP hN
  have n3 := sa2.putPH wd
  have k3 : KeepB H2.length (I a) (J a) H2 (putPH H2 (I a) (J a) (dropP (P a) N)) := ⟨by rw [putPH_len]; exact Nat.le_refl _, fun id _ h1 h2 => putPH_other _ _ _ _ h1 h2⟩
  have p3 := p2.b ha n3 k3
  have hel : pickI [N] false (el (P a)) = el (dropP (P a) N) := rise_ext (pickI_lt (el_lt sa.wd)) (el_lt wd) fun y => by rw [mem_pickI, mem_dropP sa.wd hN]; simp
  obtain ⟨H3, h3⟩ : ∃ H3, putPH H2 (I a) (J a) (dropP (P a) N) = H3 := ⟨_, rfl⟩
  rw [h3] at p3 e3 k3
  have hok : (hasF (P a).2 N == decide (((pickI [N] false (el (P a))).length : Int) < ((el (P a)).length : Int))) = true := by
    have hh : (el (P a)).contains N = hasF (P a).2 N := by rw [Bool.eq_iff_iff, ← mem_el sa.wd]; simp
    rw [← hh, beq_iff_eq, Bool.eq_iff_iff, decide_eq_true_eq, Int.ofNat_lt]
    exact pickI_shorter.symm
  have w3 := load_at p3.W (four_get _ ha)
  rw [updN_same] at w3
  have ln := liS_len (p3.li a ha)
  rw [updN_same, updN_same] at ln
  have kW : H3[oW]? = H2[oW]? := by
    obtain ⟨d1, d2⟩ := p2.setW sa2
    exact k3.2 oW (getC_lt p2.W) (Ne.symm d1) (Ne.symm d2)
  have lob := liS_obj (p3.li a ha)
  rw [updN_same] at lob
  have X3 : getC H3 oX 0 = some [iV 1, iV A, iV B, iV N] := getC_keep X2 (k3.2 oX (getC_lt X2) (getC_ne X2 (SetW.box sa2) (by intro e; cases e)) (Ne.symm (getC_no_map X2 (SetW.map sa2))))
  rw [hel, upd_el] at p3
  have hrow : evC (callW CT) itW 0 (.region s_gnomonlaw01_BitsPlays_r17 [(6, 10), (6, 11), (6, 13)] [9, 113, 114, 115, 116, 117, 118, 119, 120, 121, 122, 123, 124, 125, 126, 127, 128]) (frOf 291 [(0, va), (3, .sl oS 0 0 4 1), (4, .sl oW 0 0 4 1), (5, .s (.int .i64 i)), (6, .ref oX 0 0), (7, .s (.int .i64 (a : Nat))), (8, .s (.int .i64 (b : Nat))), (9, vs a)]) H2 = some (.nrm, frOf 291 [(0, va), (3, .sl oS 0 0 4 1), (4, .sl oW 0 0 4 1), (5, .s (.int .i64 i)), (6, .ref oX 0 0), (7, .s (.int .i64 (a : Nat))), (8, .s (.int .i64 (b : Nat))), (10, .s (.bool true))], H3) := by
    refine (evC_late1 (A := [⟨some 113, (.move (.t 3)), none⟩, ⟨some 114, (.move (.t 7)), none⟩, ⟨some 115, (.indexAddr 1 (.t 113) (.t 114)), none⟩, ⟨some 116, (.load false 1 (.t 115)), none⟩, ⟨some 117, (.fieldAddr 3 (.t 6)), none⟩, ⟨some 118, (.load false 1 (.t 117)), none⟩]) (o := ⟨some 119, (.call (.c (.fn 18 [] [])) [(.t 116), (.t 118)]), none⟩) (B := [⟨some 120, (.move (.t 4)), none⟩, ⟨some 121, (.move (.t 7)), none⟩, ⟨some 122, (.indexAddr 1 (.t 120) (.t 121)), none⟩, ⟨some 123, (.load false 1 (.t 122)), none⟩, ⟨some 124, (.lenS .s (.t 123)), none⟩, ⟨some 125, (.move (.t 9)), none⟩, ⟨some 126, (.lenS .s (.t 125)), none⟩, ⟨some 127, (.bin .lss (.t 124) (.t 126)), none⟩, ⟨some 128, (.eqB false (.t 119) (.t 127)), none⟩, ⟨some 10, (.move (.t 128)), none⟩]) (by simp only [am0,am1,am2,am3,am4,am5,am6,am7,bl,i64,reduceIte,reduceCtorEq,Nat.reduceEqDiff,Nat.reduceLT,Nat.reduceLeDiff,Nat.reduceBEq,Nat.reduceAdd,fillA,splice,Nat.reduceMul,al0,al1,al2,al3,al4,al5,al6,al7,al8,al9,al10,al11,al12,al13,al14,al15,al16,al17,al18,al19,al20,al21,al22,al23,al24,al25,al26,al27,al28,al29,al30,al31,al32,al33,al34,amY,op_eqP, ad, bd, s2, s2b, l3']; rfl) (by simp only [am0,am1,am2,am3,am4,am5,am6,am7,bl,i64,reduceIte,reduceCtorEq,Nat.reduceEqDiff,Nat.reduceLT,Nat.reduceLeDiff,Nat.reduceBEq,Nat.reduceAdd,fillA,splice,Nat.reduceMul,al0,al1,al2,al3,al4,al5,al6,al7,al8,al9,al10,al11,al12,al13,al14,al15,al16,al17,al18,al19,al20,al21,al22,al23,al24,al25,al26,al27,al28,al29,al30,al31,al32,al33,al34,amY,op_eqP, e3]; rfl) (by simp only [am0,am1,am2,am3,am4,am5,am6,am7,bl,i64,reduceIte,reduceCtorEq,Nat.reduceEqDiff,Nat.reduceLT,Nat.reduceLeDiff,Nat.reduceBEq,Nat.reduceAdd,fillA,splice,Nat.reduceMul,al0,al1,al2,al3,al4,al5,al6,al7,al8,al9,al10,al11,al12,al13,al14,al15,al16,al17,al18,al19,al20,al21,al22,al23,al24,al25,al26,al27,al28,al29,al30,al31,al32,al33,al34,amY,op_eqP, ad, w3, ln, lno, hok]; rfl) rfl ?_).trans (by simp only [am0,am1,am2,am3,am4,am5,am6,am7,bl,i64,reduceIte,reduceCtorEq,Nat.reduceEqDiff,Nat.reduceLT,Nat.reduceLeDiff,Nat.reduceBEq,Nat.reduceAdd,fillA,splice,Nat.reduceMul,al0,al1,al2,al3,al4,al5,al6,al7,al8,al9,al10,al11,al12,al13,al14,al15,al16,al17,al18,al19,al20,al21,al22,al23,al24,al25,al26,al27,al28,al29,al30,al31,al32,al33,al34,amY,op_eqP])
    intro p hp
    simp only [List.mem_cons, List.not_mem_nil, or_false] at hp
    rcases hp with rfl | rfl | rfl
    · exact ⟨rfl, some oW, rfl, fun id e => by cases e; exact kW⟩
    · exact ⟨rfl, none, lob, fun id e => by cases e⟩
    · exact ⟨rfl, none, liS_obj la, fun id e => by cases e⟩
  refine ⟨H3, I, J, updN P a (dropP (P a) N), updN vs a v1, ?_, p3, X3, by have := kX.1; have := k3.1; omega, mem_rnd fun y hy => ?_⟩
  · simp only [plays_b2, show ((1 : Int) == 0) = false from rfl, show ((1 : Int) == 1) = true from rfl, ↓hrow, a_gnomonlaw01_BitsPlays,s_gnomonlaw01_BitsPlays_l0_b,s_gnomonlaw01_BitsPlays_l1_b, am0,am1,am2,am3,am4,am5,am6,am7,bl,i64,reduceIte,reduceCtorEq,Nat.reduceEqDiff,Nat.reduceLT,Nat.reduceLeDiff,Nat.reduceBEq,Nat.reduceAdd,fillA,splice,Nat.reduceMul,al0,al1,al2,al3,al4,al5,al6,al7,al8,al9,al10,al11,al12,al13,al14,al15,al16,al17,al18,al19,al20,al21,al22,al23,al24,al25,al26,al27,al28,al29,al30,al31,al32,al33,al34,amY,op_eqP, ad, wa, l3, hB1, e1, e2]
    done
  · exact .inl ⟨a, ha, ((mem_dropP sa.wd hN).1 hy).1⟩
theorem rnd2 (h : TD CT) (r : RF CT) (hp : PL H oS oW I J P vs (fun k => el (P k))) (hc : ∀ k, k < 4 → cnt (P k) ≤ 1000) (ha : a < 4) (hb : b < 4) (hN : N < 2 ^ 63) (hB : B < 2 ^ 63) (hX : getC H oX 0 = some [iV 2, iV A, iV B, iV N]) : Rnd CT H oS oW oX P va (vs a) i a b 2 A B N := by
  have l3 := load_at (k := 3) hX rfl
  have la := hp.li a ha
  have lb := hp.li b hb
  have sa := hp.set a ha
  have sb := hp.set b hb
  have ca := hc a ha
  have cb := hc b hb
  have ad := fun o => addr_sl o ha
  have bd := fun o => addr_sl o hb
  have wa := load_at hp.W (four_get vs ha)
  have wb := load_at hp.W (four_get vs hb)
  have lno := liS_len la
  have xW : oX ≠ oW := getC_ne hX hp.W (fun e => liS_no_int (hp.li 0 (by decide)) _ e.symm)
  have xS : oX ≠ oS := getC_ne hX hp.S (by intro e; cases e)
  simp only [iV] at l3
  obtain ⟨v1, H1, e1, x1, k1⟩ := runi_fun r.union r.add r.has 0 la lb.rd lb.wide (by have := el_len (P a); have := el_len (P b); omega) (Nat.zero_le _)
  have p1 := hp.d k1
  have kX := k1
  obtain ⟨H2, e2, p2, q2, q2'⟩ := p1.storeW ha x1
  have X2 : getC H2 oX 0 = some [iV 2, iV A, iV B, iV N] := getC_keep (kX.getC hX (getC_lt hX) (by simp)) (q2' oX xW)
  have sa2 := p2.set a ha
  have sb2 := p2.set b hb
  have l3' := load_at (k := 3) X2 rfl
  have s2 := load_at p2.S (four_get _ ha)
  have s2b := load_at p2.S (four_get _ hb)
  simp only [iV] at l3'
  have hd : (I b = I a ∧ J b = J a) ∨ (I b ≠ I a ∧ I b ≠ J a ∧ J b ≠ I a ∧ J b ≠ J a) := by
    by_cases hab : b = a
    · subst hab; exact .inl ⟨rfl, rfl⟩
    · obtain ⟨d1, d2⟩ := hp.dis b a hb ha hab
      exact .inr ⟨d1, Ne.symm (getC_no_map (SetW.box sb2) (SetW.map sa2)), getC_no_map (SetW.box sa2) (SetW.map sb2), d2⟩
  obtain ⟨H3, e3, n3, k3⟩ := union_P h.toTB 0 sa2 (Nat.zero_le _) (Nat.zero_le _) sb2 hd (by omega) h.union
  have wd := uniA_wd sa.wd sb.wd
  have p3 := p2.b ha n3 k3
  have hel : (el (P b)).foldl addL (el (P a)) = el (uniA (P a) (P b)) := rise_ext (foldL_lt (el_lt sa.wd)) (el_lt wd) fun y => by
    rw [mem_foldL, mem_uniA sa.wd sb.wd]
    exact ⟨fun h => h.imp id (fun h => h.1), fun h => h.imp id fun h => ⟨h, (el_nn sb.wd h).1⟩⟩
  have hok : (decide ((cnt (uniA (P a) (P b)) : Int) > (cnt (P a) : Int)) == decide ((((el (P b)).foldl addL (el (P a))).length : Int) > ((el (P a)).length : Int))) = true := by
    rw [hel, el_len, el_len]; simp
  have w3 := load_at p3.W (four_get _ ha)
  rw [updN_same] at w3
  have ln := liS_len (p3.li a ha)
  rw [updN_same, updN_same] at ln
  have kW : H3[oW]? = H2[oW]? := by
    obtain ⟨d1, d2⟩ := p2.setW sa2
    exact k3.2 oW (getC_lt p2.W) (Ne.symm d1) (Ne.symm d2)
  have lob := liS_obj (p3.li a ha)
  rw [updN_same] at lob
  have X3 : getC H3 oX 0 = some [iV 2, iV A, iV B, iV N] := getC_keep X2 (k3.2 oX (getC_lt X2) (getC_ne X2 (SetW.box sa2) (by intro e; cases e)) (Ne.symm (getC_no_map X2 (SetW.map sa2))))
  rw [hel, upd_el] at p3
  have hrow : evC (callW CT) itW 0 (.region s_gnomonlaw01_BitsPlays_r20 [(8, 12), (8, 13), (8, 15)] [9, 143, 144, 145, 146, 147, 148, 149, 150, 151, 152, 153, 154, 155, 156, 157, 158, 159, 160]) (frOf 291 [(0, va), (3, .sl oS 0 0 4 1), (4, .sl oW 0 0 4 1), (5, .s (.int .i64 i)), (6, .ref oX 0 0), (7, .s (.int .i64 (a : Nat))), (8, .s (.int .i64 (b : Nat))), (9, vs a)]) H2 = some (.nrm, frOf 291 [(0, va), (3, .sl oS 0 0 4 1), (4, .sl oW 0 0 4 1), (5, .s (.int .i64 i)), (6, .ref oX 0 0), (7, .s (.int .i64 (a : Nat))), (8, .s (.int .i64 (b : Nat))), (10, .s (.bool true))], H3) := by
    refine (evC_late1 (A := [⟨some 143, (.move (.t 3)), none⟩, ⟨some 144, (.move (.t 7)), none⟩, ⟨some 145, (.indexAddr 1 (.t 143) (.t 144)), none⟩, ⟨some 146, (.load false 1 (.t 145)), none⟩, ⟨some 147, (.move (.t 3)), none⟩, ⟨some 148, (.move (.t 8)), none⟩, ⟨some 149, (.indexAddr 1 (.t 147) (.t 148)), none⟩, ⟨some 150, (.load false 1 (.t 149)), none⟩]) (o := ⟨some 151, (.call (.c (.fn 24 [] [])) [(.t 146), (.t 150)]), none⟩) (B := [⟨some 152, (.move (.t 4)), none⟩, ⟨some 153, (.move (.t 7)), none⟩, ⟨some 154, (.indexAddr 1 (.t 152) (.t 153)), none⟩, ⟨some 155, (.load false 1 (.t 154)), none⟩, ⟨some 156, (.lenS .s (.t 155)), none⟩, ⟨some 157, (.move (.t 9)), none⟩, ⟨some 158, (.lenS .s (.t 157)), none⟩, ⟨some 159, (.bin .gtr (.t 156) (.t 158)), none⟩, ⟨some 160, (.eqB false (.t 151) (.t 159)), none⟩, ⟨some 10, (.move (.t 160)), none⟩]) (by simp only [am0,am1,am2,am3,am4,am5,am6,am7,bl,i64,reduceIte,reduceCtorEq,Nat.reduceEqDiff,Nat.reduceLT,Nat.reduceLeDiff,Nat.reduceBEq,Nat.reduceAdd,fillA,splice,Nat.reduceMul,al0,al1,al2,al3,al4,al5,al6,al7,al8,al9,al10,al11,al12,al13,al14,al15,al16,al17,al18,al19,al20,al21,al22,al23,al24,al25,al26,al27,al28,al29,al30,al31,al32,al33,al34,amY,op_eqP, ad, bd, s2, s2b, l3']; rfl) (by simp only [am0,am1,am2,am3,am4,am5,am6,am7,bl,i64,reduceIte,reduceCtorEq,Nat.reduceEqDiff,Nat.reduceLT,Nat.reduceLeDiff,Nat.reduceBEq,Nat.reduceAdd,fillA,splice,Nat.reduceMul,al0,al1,al2,al3,al4,al5,al6,al7,al8,al9,al10,al11,al12,al13,al14,al15,al16,al17,al18,al19,al20,al21,al22,al23,al24,al25,al26,al27,al28,al29,al30,al31,al32,al33,al34,amY,op_eqP, e3]; rfl) (by simp only [am0,am1,am2,am3,am4,am5,am6,am7,bl,i64,reduceIte,reduceCtorEq,Nat.reduceEqDiff,Nat.reduceLT,Nat.reduceLeDiff,Nat.reduceBEq,Nat.reduceAdd,fillA,splice,Nat.reduceMul,al0,al1,al2,al3,al4,al5,al6,al7,al8,al9,al10,al11,al12,al13,al14,al15,al16,al17,al18,al19,al20,al21,al22,al23,al24,al25,al26,al27,al28,al29,al30,al31,al32,al33,al34,amY,op_eqP, ad, w3, ln, lno, hok]; rfl) rfl ?_).trans (by simp only [am0,am1,am2,am3,am4,am5,am6,am7,bl,i64,reduceIte,reduceCtorEq,Nat.reduceEqDiff,Nat.reduceLT,Nat.reduceLeDiff,Nat.reduceBEq,Nat.reduceAdd,fillA,splice,Nat.reduceMul,al0,al1,al2,al3,al4,al5,al6,al7,al8,al9,al10,al11,al12,al13,al14,al15,al16,al17,al18,al19,al20,al21,al22,al23,al24,al25,al26,al27,al28,al29,al30,al31,al32,al33,al34,amY,op_eqP])
    intro p hp
    simp only [List.mem_cons, List.not_mem_nil, or_false] at hp
    rcases hp with rfl | rfl | rfl
    · exact ⟨rfl, some oW, rfl, fun id e => by cases e; exact kW⟩
    · exact ⟨rfl, none, lob, fun id e => by cases e⟩
    · exact ⟨rfl, none, liS_obj la, fun id e => by cases e⟩
  refine ⟨H3, I, J, updN P a (uniA (P a) (P b)), updN vs a v1, ?_, p3, X3, by have := kX.1; have := k3.1; omega, mem_rnd fun y hy => ?_⟩
  · simp only [plays_b2, show ((2 : Int) == 0) = false from rfl, show ((2 : Int) == 1) = false from rfl, show ((2 : Int) == 2) = true from rfl, ↓hrow, a_gnomonlaw01_BitsPlays,s_gnomonlaw01_BitsPlays_l0_b,s_gnomonlaw01_BitsPlays_l1_b, am0,am1,am2,am3,am4,am5,am6,am7,bl,i64,reduceIte,reduceCtorEq,Nat.reduceEqDiff,Nat.reduceLT,Nat.reduceLeDiff,Nat.reduceBEq,Nat.reduceAdd,fillA,splice,Nat.reduceMul,al0,al1,al2,al3,al4,al5,al6,al7,al8,al9,al10,al11,al12,al13,al14,al15,al16,al17,al18,al19,al20,al21,al22,al23,al24,al25,al26,al27,al28,al29,al30,al31,al32,al33,al34,amY,op_eqP, ad, bd, wa, wb, e1, e2]
    done
  · rcases (mem_uniA sa.wd sb.wd).1 hy with hy | hy
    · exact .inl ⟨a, ha, hy⟩
    · exact .inl ⟨b, hb, hy⟩
theorem rnd3 (h : TD CT) (r : RF CT) (hp : PL H oS oW I J P vs (fun k => el (P k))) (hc : ∀ k, k < 4 → cnt (P k) ≤ 1000) (ha : a < 4) (hb : b < 4) (hN : N < 2 ^ 63) (hB : B < 2 ^ 63) (hX : getC H oX 0 = some [iV 3, iV A, iV B, iV N]) : Rnd CT H oS oW oX P va (vs a) i a b 3 A B N := by
  have l3 := load_at (k := 3) hX rfl
  have la := hp.li a ha
  have lb := hp.li b hb
  have sa := hp.set a ha
  have sb := hp.set b hb
  have ca := hc a ha
  have cb := hc b hb
  have ad := fun o => addr_sl o ha
  have bd := fun o => addr_sl o hb
  have wa := load_at hp.W (four_get vs ha)
  have wb := load_at hp.W (four_get vs hb)
  have lno := liS_len la
  have xW : oX ≠ oW := getC_ne hX hp.W (fun e => liS_no_int (hp.li 0 (by decide)) _ e.symm)
  have xS : oX ≠ oS := getC_ne hX hp.S (by intro e; cases e)
  simp only [iV] at l3
  obtain ⟨v1, H1, e1, x1, k1⟩ := rpick_fun r.pick r.has 0 false la.rd la.wide lb.rd lb.wide (by have := el_len (P a); omega) (by have := el_len (P b); omega) (Nat.zero_le _)
  have x1 := x1.mono (Nat.zero_le _)
  have p1 := hp.d k1
  have kX := k1
  obtain ⟨H2, e2, p2, q2, q2'⟩ := p1.storeW ha x1
  have X2 : getC H2 oX 0 = some [iV 3, iV A, iV B, iV N] := getC_keep (kX.getC hX (getC_lt hX) (by simp)) (q2' oX xW)
  have sa2 := p2.set a ha
  have sb2 := p2.set b hb
  have l3' := load_at (k := 3) X2 rfl
  have s2 := load_at p2.S (four_get _ ha)
  have s2b := load_at p2.S (four_get _ hb)
  simp only [iV] at l3'
  obtain ⟨i3, j3, H3, e3, s3, k3, g3, g3'⟩ := minus_P h.toTC 0 sa2 (by omega) (AtV.set h.toTB sb2) (Nat.zero_le _)
  have hel : pickI (el (P b)) false (el (P a)) = el (pickP (P a) (P b).2 andNot) := rise_ext (pickI_lt (el_lt sa.wd)) (el_lt s3.wd) fun y => by
    rw [mem_pickI, mem_minus sa.wd sb.wd]; simp
  have k3l := k3.1
  have p3 := p2.d k3
  obtain ⟨H4, e4, p4, q4, q4'⟩ := p3.storeS ha s3 (fun k hk => by
    have := SetW.lt (p2.set k hk)
    omega)
  have X4 : getC H4 oX 0 = some [iV 3, iV A, iV B, iV N] := getC_keep (k3.getC X2 (getC_lt X2) (by simp)) (q4' oX xS)
  rw [hel, upd_el] at p4
  refine ⟨H4, updN I a i3, updN J a j3, updN P a (pickP (P a) (P b).2 andNot), updN vs a v1, ?_, p4, X4, by have := kX.1; omega, mem_rnd fun y hy => ?_⟩
  · simp only [plays_b2, show ((3 : Int) == 0) = false from rfl, show ((3 : Int) == 1) = false from rfl, show ((3 : Int) == 2) = false from rfl, show ((3 : Int) == 3) = true from rfl, a_gnomonlaw01_BitsPlays,s_gnomonlaw01_BitsPlays_l0_b,s_gnomonlaw01_BitsPlays_l1_b, am0,am1,am2,am3,am4,am5,am6,am7,bl,i64,reduceIte,reduceCtorEq,Nat.reduceEqDiff,Nat.reduceLT,Nat.reduceLeDiff,Nat.reduceBEq,Nat.reduceAdd,fillA,splice,Nat.reduceMul,al0,al1,al2,al3,al4,al5,al6,al7,al8,al9,al10,al11,al12,al13,al14,al15,al16,al17,al18,al19,al20,al21,al22,al23,al24,al25,al26,al27,al28,al29,al30,al31,al32,al33,al34,amY,op_eqP, ad, bd, wa, wb, e1, e2, s2, s2b, e3, e4]
    done
  · exact .inl ⟨a, ha, ((mem_minus sa.wd sb.wd).1 hy).1⟩
theorem rnd4 (h : TD CT) (r : RF CT) (hp : PL H oS oW I J P vs (fun k => el (P k))) (hc : ∀ k, k < 4 → cnt (P k) ≤ 1000) (ha : a < 4) (hb : b < 4) (hN : N < 2 ^ 63) (hB : B < 2 ^ 63) (hX : getC H oX 0 = some [iV 4, iV A, iV B, iV N]) : Rnd CT H oS oW oX P va (vs a) i a b 4 A B N := by
  have l3 := load_at (k := 3) hX rfl
  have la := hp.li a ha
  have lb := hp.li b hb
  have sa := hp.set a ha
  have sb := hp.set b hb
  have ca := hc a ha
  have cb := hc b hb
  have ad := fun o => addr_sl o ha
  have bd := fun o => addr_sl o hb
  have wa := load_at hp.W (four_get vs ha)
  have wb := load_at hp.W (four_get vs hb)
  have lno := liS_len la
  have xW : oX ≠ oW := getC_ne hX hp.W (fun e => liS_no_int (hp.li 0 (by decide)) _ e.symm)
  have xS : oX ≠ oS := getC_ne hX hp.S (by intro e; cases e)
  simp only [iV] at l3
  obtain ⟨v1, H1, e1, x1, k1⟩ := rpick_fun r.pick r.has 0 true la.rd la.wide lb.rd lb.wide (by have := el_len (P a); omega) (by have := el_len (P b); omega) (Nat.zero_le _)
  have x1 := x1.mono (Nat.zero_le _)
  have p1 := hp.d k1
  have kX := k1
  obtain ⟨H2, e2, p2, q2, q2'⟩ := p1.storeW ha x1
  have X2 : getC H2 oX 0 = some [iV 4, iV A, iV B, iV N] := getC_keep (kX.getC hX (getC_lt hX) (by simp)) (q2' oX xW)
  have sa2 := p2.set a ha
  have sb2 := p2.set b hb
  have l3' := load_at (k := 3) X2 rfl
  have s2 := load_at p2.S (four_get _ ha)
  have s2b := load_at p2.S (four_get _ hb)
  simp only [iV] at l3'
  obtain ⟨i3, j3, H3, e3, s3, k3, g3, g3'⟩ := both_P h.toTC 0 sa2 (by omega) (AtV.set h.toTB sb2) (Nat.zero_le _)
  have hel : pickI (el (P b)) true (el (P a)) = el (pickP (P a) (P b).2 (· &&& ·)) := rise_ext (pickI_lt (el_lt sa.wd)) (el_lt s3.wd) fun y => by
    rw [mem_pickI, mem_both sa.wd sb.wd]; simp
  have k3l := k3.1
  have p3 := p2.d k3
  obtain ⟨H4, e4, p4, q4, q4'⟩ := p3.storeS ha s3 (fun k hk => by
    have := SetW.lt (p2.set k hk)
    omega)
  have X4 : getC H4 oX 0 = some [iV 4, iV A, iV B, iV N] := getC_keep (k3.getC X2 (getC_lt X2) (by simp)) (q4' oX xS)
  rw [hel, upd_el] at p4
  refine ⟨H4, updN I a i3, updN J a j3, updN P a (pickP (P a) (P b).2 (· &&& ·)), updN vs a v1, ?_, p4, X4, by have := kX.1; omega, mem_rnd fun y hy => ?_⟩
  · simp only [plays_b2, show ((4 : Int) == 0) = false from rfl, show ((4 : Int) == 1) = false from rfl, show ((4 : Int) == 2) = false from rfl, show ((4 : Int) == 3) = false from rfl, show ((4 : Int) == 4) = true from rfl, a_gnomonlaw01_BitsPlays,s_gnomonlaw01_BitsPlays_l0_b,s_gnomonlaw01_BitsPlays_l1_b, am0,am1,am2,am3,am4,am5,am6,am7,bl,i64,reduceIte,reduceCtorEq,Nat.reduceEqDiff,Nat.reduceLT,Nat.reduceLeDiff,Nat.reduceBEq,Nat.reduceAdd,fillA,splice,Nat.reduceMul,al0,al1,al2,al3,al4,al5,al6,al7,al8,al9,al10,al11,al12,al13,al14,al15,al16,al17,al18,al19,al20,al21,al22,al23,al24,al25,al26,al27,al28,al29,al30,al31,al32,al33,al34,amY,op_eqP, ad, bd, wa, wb, e1, e2, s2, s2b, e3, e4]
    done
  · exact .inl ⟨a, ha, ((mem_both sa.wd sb.wd).1 hy).1⟩
theorem rnd5 (h : TD CT) (r : RF CT) (hp : PL H oS oW I J P vs (fun k => el (P k))) (hc : ∀ k, k < 4 → cnt (P k) ≤ 1000) (ha : a < 4) (hb : b < 4) (hN : N < 2 ^ 63) (hB : B < 2 ^ 63) (hX : getC H oX 0 = some [iV 5, iV A, iV B, iV N]) : Rnd CT H oS oW oX P va (vs a) i a b 5 A B N := by
  have l3 := load_at (k := 3) hX rfl
  have la := hp.li a ha
  have lb := hp.li b hb
  have sa := hp.set a ha
  have sb := hp.set b hb
  have ca := hc a ha
  have cb := hc b hb
  have ad := fun o => addr_sl o ha
  have bd := fun o => addr_sl o hb
  have wa := load_at hp.W (four_get vs ha)
  have wb := load_at hp.W (four_get vs hb)
  have lno := liS_len la
  have xW : oX ≠ oW := getC_ne hX hp.W (fun e => liS_no_int (hp.li 0 (by decide)) _ e.symm)
  have xS : oX ≠ oS := getC_ne hX hp.S (by intro e; cases e)
  simp only [iV] at l3
  have p1 := hp
  have x1 := lb
  have kX := KeepD.refl [] H
  obtain ⟨H2, e2, p2, q2, q2'⟩ := p1.storeW ha x1
  have X2 : getC H2 oX 0 = some [iV 5, iV A, iV B, iV N] := getC_keep (kX.getC hX (getC_lt hX) (by simp)) (q2' oX xW)
  have sa2 := p2.set a ha
  have sb2 := p2.set b hb
  have l3' := load_at (k := 3) X2 rfl
  have s2 := load_at p2.S (four_get _ ha)
  have s2b := load_at p2.S (four_get _ hb)
  simp only [iV] at l3'
  obtain ⟨H3, e3, s3, k3, _⟩ := copy_ex h.toTC 0 sb2
  have hel : el (P b) = el (P b) := rfl
  have k3l := k3.1
  have p3 := p2.d k3
  obtain ⟨H4, e4, p4, q4, q4'⟩ := p3.storeS ha s3 (fun k hk => by
    have := SetW.lt (p2.set k hk)
    omega)
  have X4 : getC H4 oX 0 = some [iV 5, iV A, iV B, iV N] := getC_keep (k3.getC X2 (getC_lt X2) (by simp)) (q4' oX xS)
  rw [hel, upd_el] at p4
  refine ⟨H4, updN I a (H2.length + 1), updN J a H2.length, updN P a (P b), updN vs a (vs b), ?_, p4, X4, by have := kX.1; omega, mem_rnd fun y hy => .inl ⟨b, hb, hy⟩⟩
  simp only [plays_b2, show ((5 : Int) == 0) = false from rfl, show ((5 : Int) == 1) = false from rfl, show ((5 : Int) == 2) = false from rfl, show ((5 : Int) == 3) = false from rfl, show ((5 : Int) == 4) = false from rfl, show ((5 : Int) == 5) = true from rfl, a_gnomonlaw01_BitsPlays,s_gnomonlaw01_BitsPlays_l0_b,s_gnomonlaw01_BitsPlays_l1_b, am0,am1,am2,am3,am4,am5,am6,am7,bl,i64,reduceIte,reduceCtorEq,Nat.reduceEqDiff,Nat.reduceLT,Nat.reduceLeDiff,Nat.reduceBEq,Nat.reduceAdd,fillA,splice,Nat.reduceMul,al0,al1,al2,al3,al4,al5,al6,al7,al8,al9,al10,al11,al12,al13,al14,al15,al16,al17,al18,al19,al20,al21,al22,al23,al24,al25,al26,al27,al28,al29,al30,al31,al32,al33,al34,amY,op_eqP, ad, bd, wa, wb, e2, s2, s2b, e3, e4]
  done
theorem rnd6 (h : TD CT) (r : RF CT) (hp : PL H oS oW I J P vs (fun k => el (P k))) (hc : ∀ k, k < 4 → cnt (P k) ≤ 1000) (ha : a < 4) (hb : b < 4) (hN : N < 2 ^ 63) (hB : B < 2 ^ 63) {d : Int} (hd : d ≠ 0 ∧ d ≠ 1 ∧ d ≠ 2 ∧ d ≠ 3 ∧ d ≠ 4 ∧ d ≠ 5) (hX : getC H oX 0 = some [iV d, iV A, iV B, iV N]) : Rnd CT H oS oW oX P va (vs a) i a b d A B N := by
  have l3 := load_at (k := 3) hX rfl
  have la := hp.li a ha
  have lb := hp.li b hb
  have sa := hp.set a ha
  have sb := hp.set b hb
  have ca := hc a ha
  have cb := hc b hb
  have ad := fun o => addr_sl o ha
  have bd := fun o => addr_sl o hb
  have wa := load_at hp.W (four_get vs ha)
  have wb := load_at hp.W (four_get vs hb)
  have lno := liS_len la
  have xW : oX ≠ oW := getC_ne hX hp.W (fun e => liS_no_int (hp.li 0 (by decide)) _ e.symm)
  have xS : oX ≠ oS := getC_ne hX hp.S (by intro e; cases e)
  simp only [iV] at l3
  have l2 := load_at (k := 2) hX rfl
  simp only [iV] at l2
  have hw : IntKind.i64.wrap (N + 1) < 2 ^ 63 := by rw [IntKind.wrap_i64]; omega
  have hall : ∀ x ∈ [N, IntKind.i64.wrap (N + 1), B, N], x < 2 ^ 63 := by
    intro x hx
    simp only [List.mem_cons, List.not_mem_nil, or_false] at hx
    rcases hx with rfl | rfl | rfl | rfl <;> assumption
  obtain ⟨B1, hB1⟩ : ∃ B1, H ++ [Ob.cells 0 ([iV N, iV (IntKind.i64.wrap (N + 1)), iV B, iV N])] = B1 := ⟨_, rfl⟩
  have kB1 : KeepD H.length [] H B1 := ⟨by rw [← hB1]; simp, fun id h1 _ => by rw [← hB1, List.getElem?_append_left h1]⟩
  have rB1 : Rd B1 (.sl H.length 0 0 4 1) (([N, IntKind.i64.wrap (N + 1), B, N] : List Int).map iV) := by rw [← hB1]; exact getC_sl (getC_new H 0 _)
  simp only [iV] at hB1
  have pB := hp.d kB1
  obtain ⟨v1, H1, e1, x1, k1⟩ := rof_fun r.of r.add r.has 0 rB1 trivial (by simp) (Nat.zero_le _)
  have p1 := pB.d k1
  have kX := kB1.trans k1 kB1.1
  obtain ⟨H2, e2, p2, q2, q2'⟩ := p1.storeW ha x1
  have X2 : getC H2 oX 0 = some [iV d, iV A, iV B, iV N] := getC_keep (kX.getC hX (getC_lt hX) (by simp)) (q2' oX xW)
  have sa2 := p2.set a ha
  have sb2 := p2.set b hb
  have l3' := load_at (k := 3) X2 rfl
  have s2 := load_at p2.S (four_get _ ha)
  have s2b := load_at p2.S (four_get _ hb)
  simp only [iV] at l3'
  have l2' := load_at (k := 2) X2 rfl
  simp only [iV] at l2'
  obtain ⟨B2, hB2⟩ : ∃ B2, H2 ++ [Ob.cells 0 ([iV N, iV (IntKind.i64.wrap (N + 1)), iV B, iV N])] = B2 := ⟨_, rfl⟩
  have kB2 : KeepD H2.length [] H2 B2 := ⟨by rw [← hB2]; simp, fun id h1 _ => by rw [← hB2, List.getElem?_append_left h1]⟩
  have rB2 : Rd B2 (.sl H2.length 0 0 4 1) (([N, IntKind.i64.wrap (N + 1), B, N] : List Int).map iV) := by rw [← hB2]; exact getC_sl (getC_new H2 0 _)
  simp only [iV] at hB2
  obtain ⟨H3, e3, s3, k3, _⟩ := of_P h.toTB 0 rB2 trivial (by simp) hall (Nat.zero_le _)
  have hB2l := kB2.1
  have k3 : KeepD H2.length [] H2 H3 := kB2.trans (k3.d []) kB2.1
  have hel : [N, IntKind.i64.wrap (N + 1), B, N].foldl addL [] = el (ofP [N, IntKind.i64.wrap (N + 1), B, N] noP) := rise_ext (foldL_lt List.Pairwise.nil) (el_lt s3.wd) fun y => by
    rw [mem_foldL, mem_ofP _ _ hall noP_wd, noP_el]
  have k3l := k3.1
  have p3 := p2.d k3
  obtain ⟨H4, e4, p4, q4, q4'⟩ := p3.storeS ha s3 (fun k hk => by
    have := SetW.lt (p2.set k hk)
    omega)
  have X4 : getC H4 oX 0 = some [iV d, iV A, iV B, iV N] := getC_keep (k3.getC X2 (getC_lt X2) (by simp)) (q4' oX xS)
  rw [hel, upd_el] at p4
  have d0 : (d == 0) = false := by simpa using hd.1
  have d1 : (d == 1) = false := by simpa using hd.2.1
  have d2 : (d == 2) = false := by simpa using hd.2.2.1
  have d3 : (d == 3) = false := by simpa using hd.2.2.2.1
  have d4 : (d == 4) = false := by simpa using hd.2.2.2.2.1
  have d5 : (d == 5) = false := by simpa using hd.2.2.2.2.2
  refine ⟨H4, updN I a (B2.length + 1), updN J a B2.length, updN P a (ofP [N, IntKind.i64.wrap (N + 1), B, N] noP), updN vs a v1, ?_, p4, X4, by have := kX.1; omega, mem_rnd fun y hy => .inr ?_⟩
  · simp only [plays_b2, a_gnomonlaw01_BitsPlays,s_gnomonlaw01_BitsPlays_l0_b,s_gnomonlaw01_BitsPlays_l1_b, am0,am1,am2,am3,am4,am5,am6,am7,bl,i64,reduceIte,reduceCtorEq,Nat.reduceEqDiff,Nat.reduceLT,Nat.reduceLeDiff,Nat.reduceBEq,Nat.reduceAdd,fillA,splice,Nat.reduceMul,al0,al1,al2,al3,al4,al5,al6,al7,al8,al9,al10,al11,al12,al13,al14,al15,al16,al17,al18,al19,al20,al21,al22,al23,al24,al25,al26,al27,al28,al29,al30,al31,al32,al33,al34,amY,op_eqP, d0, d1, d2, d3, d4, d5, ad, bd, l2, l3, l2', l3', hB1, hB2, e1, e2, s2, e3, e4]
    done
  · have := (mem_ofP _ _ hall noP_wd y).1 hy
    rw [noP_el] at this
    rcases this with h | ⟨h, _⟩
    · cases h
    · simp only [List.mem_cons, List.not_mem_nil, or_false] at h ⊢
      rcases h with h | h | h | h
      · exact .inl h
      · exact .inr (.inl h)
      · exact .inr (.inr h)
      · exact .inl h
end
end Go.Proofs.YtccallbknpbggaaDoor
set_option maxRecDepth 100000
namespace Go.Proofs.YtccallbknpbggaaDoor
open Go.AM
abbrev Act4 := Int × Int × Int × Int
def actR (x : Act4) : List V := [iV x.1, iV x.2.1, iV x.2.2.1, iV x.2.2.2]
theorem nodup_le' : ∀ (t t' : List Int), t.Nodup → (∀ x ∈ t, x ∈ t') → t.length ≤ t'.length := by
  intro t
  induction t with
  | nil => intro t' _ _; exact Nat.zero_le _
  | cons x t ih =>
    intro t' hn hs
    rw [List.nodup_cons] at hn
    have hx := hs x List.mem_cons_self
    have := ih (t'.erase x) hn.2 fun y hy => (List.mem_erase_of_ne (fun e => by subst e; exact hn.1 hy)).2 (hs y (List.mem_cons_of_mem _ hy))
    rw [List.length_erase_of_mem hx] at this
    have := List.length_pos_of_mem hx
    rw [List.length_cons]
    omega
theorem el_nodup' {p : WS} (h : WdP p) : (el p).Nodup := (el_lt h).imp fun h => by omega
section
variable {CT : Nat → Option CFun} {oS oW oX : Nat} {I J : Nat → Nat} {P : Nat → WS} {vs : Nat → V} {va : V} {i : Int} {a b : Nat} {D A B N : Int}
theorem plays_l0 (h : TD CT) (r : RF CT) (hT : CT k_gnomonlaw01_tells = some (.code s_gnomonlaw01_tells)) {m : Nat} (hN : N < 2 ^ 63) (hc : ∀ k, k < 4 → cnt (P k) ≤ 1000) (hS : oS < m) (hW : oW < m) (hX' : oX < m) :
    ∀ (d k : Nat) (H : Heap), k + d = 4 → PL H oS oW I J P vs (fun k => el (P k)) → getC H oX 0 = some [iV D, iV A, iV B, iV N] → m ≤ H.length →
    ∃ H', itW (evC (callW CT) itW 0 s_gnomonlaw01_BitsPlays_l0) [] m (frOf 291 [(0, va), (3, .sl oS 0 0 4 1), (4, .sl oW 0 0 4 1), (5, .s (.int .i64 i)), (6, .ref oX 0 0), (7, .s (.int .i64 (a : Nat))), (8, .s (.int .i64 (b : Nat))), (11, .s (.int .i64 (k : Nat)))]) H = some (.ext 3, frOf 291 [(0, va), (3, .sl oS 0 0 4 1), (4, .sl oW 0 0 4 1), (5, .s (.int .i64 i)), (6, .ref oX 0 0), (7, .s (.int .i64 (a : Nat))), (8, .s (.int .i64 (b : Nat))), (11, .s (.int .i64 (4 : Nat))), (233, .s (.bool false))], H') ∧ PL H' oS oW I J P vs (fun k => el (P k)) ∧ m ≤ H'.length := by
  intro d
  induction d with
  | zero =>
    intro k H hk hp hX hm
    have hk : k = 4 := by omega
    subst hk
    have h44 : decide (((4 : Nat) : Int) < 4) = false := by decide
    rw [itW_step]
    simp only [a_gnomonlaw01_BitsPlays,s_gnomonlaw01_BitsPlays_l0_b,s_gnomonlaw01_BitsPlays_l1_b, am0,am1,am2,am3,am4,am5,am6,am7,bl,i64,reduceIte,reduceCtorEq,Nat.reduceEqDiff,Nat.reduceLT,Nat.reduceLeDiff,Nat.reduceBEq,Nat.reduceAdd,fillA,splice,Nat.reduceMul,al0,al1,al2,al3,al4,al5,al6,al7,al8,al9,al10,al11,al12,al13,al14,al15,al16,al17,al18,al19,al20,al21,al22,al23,al24,al25,al26,al27,al28,al29,al30,al31,al32,al33,al34,amY,op_eqP, h44]
    exact ⟨_, rfl, hp.trim hS hW _, trim_le hm⟩
  | succ d ih =>
    intro k H hk hp hX hm
    have hk4 : k < 4 := by omega
    have hlt : ((k : Int) < 4) := by omega
    have hwk := wrap_pos (n := k) (by omega)
    have ad := fun o => addr_sl o hk4
    have w1 := load_at hp.W (four_get vs hk4)
    have s1 := load_at hp.S (four_get _ hk4)
    have l3 := load_at (k := 3) hX rfl
    simp only [iV] at l3
    obtain ⟨H1, e1, k1⟩ := tells_P h hT r.same r.has 0 (hp.set k hk4) (hp.li k hk4) (by have := hc k hk4; omega) N hN (Nat.zero_le _)
    have p1 := hp.d k1
    obtain ⟨H2, r1, r2, r3⟩ := ih (k + 1) (trim m (frOf 291 [(0, va), (3, .sl oS 0 0 4 1), (4, .sl oW 0 0 4 1), (5, .s (.int .i64 i)), (6, .ref oX 0 0), (7, .s (.int .i64 (a : Nat))), (8, .s (.int .i64 (b : Nat))), (11, .s (.int .i64 (k + 1 : Nat)))]) H1) (by omega) (p1.trim hS hW _) (trim_get (k1.getC hX (getC_lt hX) (by simp)) hX') (trim_le (by have := k1.1; omega))
    refine ⟨H2, ?_, r2, r3⟩
    rw [itW_step]
    simp only [a_gnomonlaw01_BitsPlays,s_gnomonlaw01_BitsPlays_l0_b,s_gnomonlaw01_BitsPlays_l1_b, am0,am1,am2,am3,am4,am5,am6,am7,bl,i64,reduceIte,reduceCtorEq,Nat.reduceEqDiff,Nat.reduceLT,Nat.reduceLeDiff,Nat.reduceBEq,Nat.reduceAdd,fillA,splice,Nat.reduceMul,al0,al1,al2,al3,al4,al5,al6,al7,al8,al9,al10,al11,al12,al13,al14,al15,al16,al17,al18,al19,al20,al21,al22,al23,al24,al25,al26,al27,al28,al29,al30,al31,al32,al33,al34,amY,op_eqP, hlt, ad, w1, s1, l3, e1, hwk]
    exact r1
theorem plays_rnd (h : TD CT) (r : RF CT) {H : Heap} (hp : PL H oS oW I J P vs (fun k => el (P k))) (hc : ∀ k, k < 4 → cnt (P k) ≤ 1000) (ha : a < 4) (hb : b < 4) (hN : N < 2 ^ 63) (hB : B < 2 ^ 63) (hX : getC H oX 0 = some [iV D, iV A, iV B, iV N]) : Rnd CT H oS oW oX P va (vs a) i a b D A B N := by
  by_cases d0 : D = 0
  · subst d0; exact rnd0 h r hp hc ha hb hN hB hX
  by_cases d1 : D = 1
  · subst d1; exact rnd1 h r hp hc ha hb hN hB hX
  by_cases d2 : D = 2
  · subst d2; exact rnd2 h r hp hc ha hb hN hB hX
  by_cases d3 : D = 3
  · subst d3; exact rnd3 h r hp hc ha hb hN hB hX
  by_cases d4 : D = 4
  · subst d4; exact rnd4 h r hp hc ha hb hN hB hX
  by_cases d5 : D = 5
  · subst d5; exact rnd5 h r hp hc ha hb hN hB hX
  exact rnd6 h r hp hc ha hb hN hB ⟨d0, d1, d2, d3, d4, d5⟩ hX
theorem plays_round (h : TD CT) (r : RF CT) (hT : CT k_gnomonlaw01_tells = some (.code s_gnomonlaw01_tells)) (hP : CT k_gnomonlaw01_place = some (.code s_gnomonlaw01_place)) {H : Heap} {l : List Act4} (hva : ∀ H, RdW 4 H va (l.map actR)) (hp : PL H oS oW I J P vs (fun k => el (P k))) {U : List Int} (hU : U.length ≤ 900) (hc : ∀ k, k < 4 → ∀ y ∈ el (P k), y ∈ U) {n : Nat} (hn : n < 200) {x : Act4} (hx : l[n]? = some x) (hN : x.2.2.2 < 2 ^ 63) (hB : x.2.2.1 < 2 ^ 63) :
    ∃ H' I' J' P' vs', evC (callW CT) itW 0 s_gnomonlaw01_BitsPlays_l1 (frOf 291 [(0, va), (3, .sl oS 0 0 4 1), (4, .sl oW 0 0 4 1), (5, .s (.int .i64 (n : Nat)))]) H = some (.nrm, frOf 291 [(0, va), (3, .sl oS 0 0 4 1), (4, .sl oW 0 0 4 1), (5, .s (.int .i64 (n + 1 : Nat)))], H') ∧ PL H' oS oW I' J' P' vs' (fun k => el (P' k)) ∧ H.length ≤ H'.length ∧ ∀ k, k < 4 → ∀ y ∈ el (P' k), y ∈ U ++ [x.2.2.2, IntKind.i64.wrap (x.2.2.2 + 1), x.2.2.1] := by
  obtain ⟨D, A, B, N⟩ := x
  have hcU : ∀ k, k < 4 → cnt (P k) ≤ 1000 := fun k hk => by
    have := nodup_le' (el (P k)) U (el_nodup' (hp.set k hk).wd) (hc k hk)
    rw [el_len] at this
    omega
  have hnl := (List.getElem?_eq_some_iff.1 hx).1
  have hlt : ((n : Int) < (l.length : Int)) := by omega
  have hlen := fun H => (hva H).len
  simp only [List.length_map] at hlen
  have hwk := wrap_pos (n := n) (by omega)
  obtain ⟨p0, q0, q1, _⟩ := (hva H).at' n (actR (D, A, B, N)) (by rw [List.getElem?_map, hx]; rfl)
  have est : storeV (H ++ [Ob.cells 0 [iV 0, iV 0, iV 0, iV 0]]) 0 4 (.agg (actR (D, A, B, N))) (.ref H.length 0 0) = some (H ++ [Ob.cells 0 [iV D, iV A, iV B, iV N]]) := by
    have hg := getC_new H 0 [iV 0, iV 0, iV 0, iV 0]
    simp only [storeV, hg, Nat.zero_le, if_true]
    rw [if_pos (by refine ⟨rfl, by decide, rfl⟩), List.set_append_right _ _ (Nat.le_refl _), Nat.sub_self]
    rfl
  obtain ⟨A1, hA1⟩ : ∃ A1, H ++ [Ob.cells 0 [iV D, iV A, iV B, iV N]] = A1 := ⟨_, rfl⟩
  rw [hA1] at est
  have kA : KeepD H.length [] H A1 := ⟨by rw [← hA1]; simp, fun id h1 _ => by rw [← hA1, List.getElem?_append_left h1]⟩
  have hX : getC A1 H.length 0 = some [iV D, iV A, iV B, iV N] := by rw [← hA1]; exact getC_new H 0 _
  have pA := hp.d kA
  have ha := placeN_lt A
  have hb := placeN_lt B
  have eA := fun base H => place_fun hP base H A
  have eB := fun base H => place_fun hP base H B
  have l0 := load_at (k := 0) hX rfl
  have l1 := load_at (k := 1) hX rfl
  have l2 := load_at (k := 2) hX rfl
  have ad := fun o => addr_sl o ha
  have bd := fun o => addr_sl o hb
  have w1 := load_at pA.W (four_get vs ha)
  obtain ⟨A3, I', J', P', vs', e3, p3, X3, g3, m3⟩ := plays_rnd (va := va) (i := (n : Nat)) h r pA hcU ha hb hN hB hX
  have hU' : ∀ k, k < 4 → ∀ y ∈ el (P' k), y ∈ U ++ [N, IntKind.i64.wrap (N + 1), B] := fun k hk y hy => by
    rcases m3 k hk y hy with ⟨k', hk', h1⟩ | h1
    · exact List.mem_append_left _ (hc k' hk' y h1)
    · exact List.mem_append_right _ h1
  have hc' : ∀ k, k < 4 → cnt (P' k) ≤ 1000 := fun k hk => by
    have := nodup_le' (el (P' k)) _ (el_nodup' (p3.set k hk).wd) (hU' k hk)
    rw [el_len] at this
    simp at this
    omega
  unfold plays_b2 at e3
  obtain ⟨A4, e4, p4, g4⟩ := plays_l0 (va := va) (i := (n : Nat)) (a := placeN A) (b := placeN B) (m := A3.length) h r hT hN hc' (getC_lt p3.S) (getC_lt p3.W) (getC_lt X3) 4 0 A3 rfl p3 X3 (Nat.le_refl _)
  rw [cast0] at e4
  have sa := p4.set _ ha
  have sb := p4.set _ hb
  have ca := hc' _ ha
  have cb := hc' _ hb
  have s4a := load_at p4.S (four_get _ ha)
  have s4b := load_at p4.S (four_get _ hb)
  obtain ⟨r5, A5, e5, z5, k5⟩ := same_P h.toTC A4.length sa (by omega) (AtV.set h.toTB sb) (LenV.set h.toTB sb) (Nat.le_refl _)
  have p5 := p4.d k5
  have w5a := load_at p5.W (four_get vs' ha)
  have w5b := load_at p5.W (four_get vs' hb)
  have s5a := load_at p5.S (four_get _ ha)
  have s5b := load_at p5.S (four_get _ hb)
  have la := p5.li _ ha
  have lb := p5.li _ hb
  have f6 := fun base => same_fun r.same base A5 (vs' (placeN A)) (vs' (placeN B)) _ _ la.rd la.wide lb.rd lb.wide (by have := el_len (P' (placeN A)); omega)
  have h267 : (r5 == (el (P' (placeN A)) == el (P' (placeN B)))) = true := by
    rw [beq_iff_eq, Bool.eq_iff_iff, z5, same_iff sa.wd sb.wd, beq_iff_eq]
  obtain ⟨r7, A7, e7, z7, k7⟩ := in_P h.toTC A5.length (p5.set _ ha) (by omega) (AtV.set h.toTB (p5.set _ hb)) (Nat.le_refl _)
  have p7 := p5.d k7
  have w7a := load_at p7.W (four_get vs' ha)
  have w7b := load_at p7.W (four_get vs' hb)
  have la7 := p7.li _ ha
  have lb7 := p7.li _ hb
  obtain ⟨v8, A8, e8, x8, k8⟩ := rpick_fun r.pick r.has 0 false la7.rd la7.wide lb7.rd lb7.wide (by have := el_len (P' (placeN A)); omega) (by have := el_len (P' (placeN B)); omega) (Nat.zero_le _)
  have p8 := p7.d k8
  have ln8 := liS_len x8
  have h289 : (r7 == (((pickI (el (P' (placeN B))) false (el (P' (placeN A)))).length : Int) == 0)) = true := by
    rw [beq_iff_eq, Bool.eq_iff_iff, z7, in_iff sa.wd sb.wd, beq_iff_eq]
    constructor
    · intro hh
      have : pickI (el (P' (placeN B))) false (el (P' (placeN A))) = [] := List.eq_nil_iff_forall_not_mem.2 fun y hy => by
        rw [mem_pickI] at hy
        have := hh y hy.1
        simp [this] at hy
      rw [this]; rfl
    · intro hh y hy
      have h0 : pickI (el (P' (placeN B))) false (el (P' (placeN A))) = [] := List.eq_nil_of_length_eq_zero (by omega)
      apply Decidable.byContradiction
      intro hn
      have : y ∈ pickI (el (P' (placeN B))) false (el (P' (placeN A))) := mem_pickI.2 ⟨hy, by simpa using hn⟩
      rw [h0] at this
      cases this
  refine ⟨A8, I', J', P', vs', ?_, p8, by have := kA.1; have := k5.1; have := k7.1; have := k8.1; omega, hU'⟩
  simp only [iV] at l0 l1 l2 est hA1
  simp only [a_gnomonlaw01_BitsPlays,s_gnomonlaw01_BitsPlays_l0_b,s_gnomonlaw01_BitsPlays_l1_b, ↓e3, am0,am1,am2,am3,am4,am5,am6,am7,bl,i64,reduceIte,reduceCtorEq,Nat.reduceEqDiff,Nat.reduceLT,Nat.reduceLeDiff,Nat.reduceBEq,Nat.reduceAdd,fillA,splice,Nat.reduceMul,al0,al1,al2,al3,al4,al5,al6,al7,al8,al9,al10,al11,al12,al13,al14,al15,al16,al17,al18,al19,al20,al21,al22,al23,al24,al25,al26,al27,al28,al29,al30,al31,al32,al33,al34,amY,op_eqP, hlen, hlt, q0, q1, est, l0, l1, l2, eA, eB, ad, bd, w1, e4, s4a, s4b, e5, w5a, w5b, f6, h267, s5a, s5b, e7, w7a, w7b, e8, ln8, h289, hwk]
  done
end
end Go.Proofs.YtccallbknpbggaaDoor
