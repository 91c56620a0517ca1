/- Texts of the proof: TokS4, TokS3. -/
import Derived.Test.YtfnkpedipicjnaaDoorP0
import Derived.Test.YtfnkpedipicjnaaDoorP1
import Derived.Test.YtfnkpedipicjnaaDoorP2
import Derived.Test.YtfnkpedipicjnaaDoorP3
import Derived.Test.YtfnkpedipicjnaaDoorP4
set_option linter.all false
set_option maxRecDepth 100000
namespace Go.Proofs.YtfnkpedipicjnaaDoor
open Go.AM
abbrev k_gnomonlaw03_TokenCovers : Nat := 4
def s_gnomonlaw03_TokenCovers_r0_k : List Nat := [1, 2, 3, 4, 5, 6, 7, 8, 9, 10, 11, 12, 13, 14, 15, 16, 17, 18, 19, 20, 21, 22, 23, 24, 25, 26, 27, 28, 29, 30, 31, 32, 33, 34, 35, 36, 37, 38, 39, 40, 41, 42, 43, 44, 45, 46, 47, 48, 49, 50, 51, 52, 53, 54, 55, 56, 57, 58, 59, 60, 61, 62, 63, 64, 65, 66, 67, 68, 69, 70, 71, 72, 73, 74, 75, 76, 77, 78, 79, 80, 81, 82, 83, 84, 85, 86, 87, 88, 89, 90, 91, 92, 93, 94, 95, 96, 97, 98, 99, 100, 101, 102, 103, 104, 105, 106, 107, 108, 109, 110, 111, 112, 113, 114, 115, 116, 117, 118, 119, 120, 121, 122, 123, 124, 125, 126, 127, 128, 129, 130, 131, 132, 133, 134, 135, 136, 137, 138, 139, 140, 141, 142, 143, 144, 145, 146, 147, 148, 149, 150, 151, 152, 153, 154, 155, 156, 157, 158, 159, 160, 161, 162, 163, 164, 165, 166, 167, 168, 169, 170, 171, 172, 173, 174, 175, 176, 177, 178, 179, 180, 181, 182, 183, 184, 185, 186, 187, 188, 189, 190, 191, 192, 193, 194, 195, 196, 197, 198, 199, 200, 201, 202, 203, 204, 205, 206, 207, 208, 209, 210, 211, 212, 213, 214, 215, 216, 217, 218, 219, 220, 221, 222, 223, 224, 225, 226, 227, 228, 229, 230, 231, 232, 233, 234]
theorem s_gnomonlaw03_TokenCovers_r0_kT : killV s_gnomonlaw03_TokenCovers_r0_k (startV 235 [] 1) = [] := by kernel_rfl
theorem s_gnomonlaw03_TokenCovers_r0_kA0 : s_gnomonlaw03_TokenCovers_r0_k.contains 0 = false := by kernel_rfl
def s_gnomonlaw03_TokenCovers_r0 : List AOper := [
  ⟨some 2, (.move (.c (.s (.bool false)))), none⟩]
theorem s_gnomonlaw03_TokenCovers_r0_tale (fr : List V) (H : Heap) : evTale (symAll s_gnomonlaw03_TokenCovers_r0 s_gnomonlaw03_TokenCovers_r0_k []) s_gnomonlaw03_TokenCovers_r0_k fr H = evTale (some (3, [], [])) s_gnomonlaw03_TokenCovers_r0_k fr H := tale_row (items := [.cc (.s (.bool false))]) (by kernel_rfl) fr H
def s_gnomonlaw03_TokenCovers_r1 : List AOper := [
  ⟨some 17, (.move (.t 0)), none⟩,
  ⟨some 18, (.lenS .p (.t 17)), none⟩,
  ⟨some 19, (.bin .gtr (.t 18) (.c (.s (.int .i64 5000)))), none⟩]
theorem s_gnomonlaw03_TokenCovers_r1_tale (fr : List V) (H : Heap) : evTale (symAll s_gnomonlaw03_TokenCovers_r1 [17, 18] [19]) [17, 18] fr H = evTale (some (20, [], [(19, (.op (.bin .gtr (.t 0) (.c (.s (.int .i64 5000)))) [(.op (.lenS .p (.t 0)) [(.t 0)]), (.c (.s (.int .i64 5000)))]))])) [17, 18] fr H := tale_row (items := [.tt 0, .sub 0 [0] [], .sub 0 [] []]) (by kernel_rfl) fr H
def s_gnomonlaw03_TokenCovers_r2 : List AOper := [
  ⟨some 2, (.move (.c (.s (.bool true)))), none⟩]
theorem s_gnomonlaw03_TokenCovers_r2_tale (fr : List V) (H : Heap) : evTale (symAll s_gnomonlaw03_TokenCovers_r2 [0, 19] [2]) [0, 19] fr H = evTale (some (3, [], [(2, (.c (.s (.bool true))))])) [0, 19] fr H := tale_row (items := [.cc (.s (.bool true))]) (by kernel_rfl) fr H
def s_gnomonlaw03_TokenCovers_r3t6 : List AOper := [⟨some 5, (.move (.t 25)), none⟩]
def s_gnomonlaw03_TokenCovers_r3p5 : List AOper := [⟨none, (.store 2 (.t 4) (.t 24)), none⟩]
def s_gnomonlaw03_TokenCovers_r3t5 : List AOper := s_gnomonlaw03_TokenCovers_r3p5 ++ s_gnomonlaw03_TokenCovers_r3t6
def s_gnomonlaw03_TokenCovers_r3p4 : List AOper := [⟨some 3, (.move (.t 23)), none⟩]
def s_gnomonlaw03_TokenCovers_r3t4 : List AOper := s_gnomonlaw03_TokenCovers_r3p4 ++ s_gnomonlaw03_TokenCovers_r3t5
def s_gnomonlaw03_TokenCovers_r3p3 : List AOper := [⟨some 4, (.alloc [(.s (.int .i64 0)), (.s (.int .i64 0))]), none⟩]
def s_gnomonlaw03_TokenCovers_r3t3 : List AOper := s_gnomonlaw03_TokenCovers_r3p3 ++ s_gnomonlaw03_TokenCovers_r3t4
def s_gnomonlaw03_TokenCovers_r3p2 : List AOper := [⟨some 20, (.move (.t 22)), none⟩, ⟨some 23, (.extract (.t 20) 0), none⟩, ⟨some 24, (.extract (.t 20) 1), none⟩, ⟨some 25, (.extract (.t 20) 2), none⟩]
def s_gnomonlaw03_TokenCovers_r3t2 : List AOper := s_gnomonlaw03_TokenCovers_r3p2 ++ s_gnomonlaw03_TokenCovers_r3t3
def s_gnomonlaw03_TokenCovers_r3p1 : List AOper := [⟨some 22, (.call (.c (.fn 8 [] [])) [(.t 21)]), none⟩]
def s_gnomonlaw03_TokenCovers_r3t1 : List AOper := s_gnomonlaw03_TokenCovers_r3p1 ++ s_gnomonlaw03_TokenCovers_r3t2
def s_gnomonlaw03_TokenCovers_r3p0 : List AOper := [⟨some 21, (.move (.t 0)), none⟩]
def s_gnomonlaw03_TokenCovers_r3 : List AOper := s_gnomonlaw03_TokenCovers_r3p0 ++ s_gnomonlaw03_TokenCovers_r3t1
theorem s_gnomonlaw03_TokenCovers_r3p0_tale (fr : List V) (H : Heap) : evTale (symAll s_gnomonlaw03_TokenCovers_r3p0 [19] [21]) [19] fr H = evTale (some (22, [], [(21, (.t 0))])) [19] fr H := tale_row (items := [.tt 0]) (by kernel_rfl) fr H
theorem s_gnomonlaw03_TokenCovers_r3_x (call : CallF) (it : IterF) (base : Nat) (f : List V) (H : Heap) : evC call it base (.region s_gnomonlaw03_TokenCovers_r3 [] [19, 20, 21, 22, 23, 24, 25]) f H = segC call it base s_gnomonlaw03_TokenCovers_r3t1 [19, 20, 21, 22, 23, 24, 25] H (evTale (symAll s_gnomonlaw03_TokenCovers_r3p0 [19] [21]) [19] f H) (origRow call it base s_gnomonlaw03_TokenCovers_r3 [19, 20, 21, 22, 23, 24, 25] f H) := row_seg call it base s_gnomonlaw03_TokenCovers_r3p0 s_gnomonlaw03_TokenCovers_r3t1 (by kernel_rfl) f H
theorem s_gnomonlaw03_TokenCovers_r3t1_x (call : CallF) (it : IterF) (base : Nat) (f : List V) (H : Heap) : evC call it base (.region s_gnomonlaw03_TokenCovers_r3t1 [] [19, 20, 21, 22, 23, 24, 25]) f H = thenC call it base (.region s_gnomonlaw03_TokenCovers_r3t2 [] [19, 20, 21, 22, 23, 24, 25]) (opsC [] s_gnomonlaw03_TokenCovers_r3p1 [21] (evOps call base [⟨some 22, (.call (.c (.fn 8 [] [])) [(.t 21)]), none⟩] f H)) := (row_op call it base s_gnomonlaw03_TokenCovers_r3p1 s_gnomonlaw03_TokenCovers_r3t2 (kc := [21]) (by kernel_rfl) f H).trans (by rw [row_ops]; rfl)
theorem s_gnomonlaw03_TokenCovers_r3p2_tale (fr : List V) (H : Heap) : evTale (symAll s_gnomonlaw03_TokenCovers_r3p2 [20, 22] [23, 24, 25]) [20, 22] fr H = evTale (some (26, [], [(23, (.op (.extract (.t 0) 0) [(.t 22)])), (24, (.op (.extract (.t 0) 1) [(.t 22)])), (25, (.op (.extract (.t 0) 2) [(.t 22)]))])) [20, 22] fr H := tale_row (items := [.tt 22, .sub 0 [] [], .sub 1 [] [], .sub 2 [] []]) (by kernel_rfl) fr H
theorem s_gnomonlaw03_TokenCovers_r3t2_x (call : CallF) (it : IterF) (base : Nat) (f : List V) (H : Heap) : evC call it base (.region s_gnomonlaw03_TokenCovers_r3t2 [] [19, 20, 21, 22, 23, 24, 25]) f H = segC call it base s_gnomonlaw03_TokenCovers_r3t3 [19, 20, 21, 22, 23, 24, 25] H (evTale (symAll s_gnomonlaw03_TokenCovers_r3p2 [20, 22] [23, 24, 25]) [20, 22] f H) (origRow call it base s_gnomonlaw03_TokenCovers_r3t2 [19, 20, 21, 22, 23, 24, 25] f H) := row_seg call it base s_gnomonlaw03_TokenCovers_r3p2 s_gnomonlaw03_TokenCovers_r3t3 (by kernel_rfl) f H
theorem s_gnomonlaw03_TokenCovers_r3t3_x (call : CallF) (it : IterF) (base : Nat) (f : List V) (H : Heap) : evC call it base (.region s_gnomonlaw03_TokenCovers_r3t3 [] [19, 20, 21, 22, 23, 24, 25]) f H = thenC call it base (.region s_gnomonlaw03_TokenCovers_r3t4 [] [19, 20, 21, 22, 23, 24, 25]) (opsC [] s_gnomonlaw03_TokenCovers_r3p3 [] (evOps call base [⟨some 4, (.alloc [(.s (.int .i64 0)), (.s (.int .i64 0))]), none⟩] f H)) := (row_op call it base s_gnomonlaw03_TokenCovers_r3p3 s_gnomonlaw03_TokenCovers_r3t4 (kc := []) (by kernel_rfl) f H).trans (by rw [row_ops]; rfl)
theorem s_gnomonlaw03_TokenCovers_r3p4_tale (fr : List V) (H : Heap) : evTale (symAll s_gnomonlaw03_TokenCovers_r3p4 [23] [3]) [23] fr H = evTale (some (4, [], [(3, (.t 23))])) [23] fr H := tale_row (items := [.tt 23]) (by kernel_rfl) fr H
theorem s_gnomonlaw03_TokenCovers_r3t4_x (call : CallF) (it : IterF) (base : Nat) (f : List V) (H : Heap) : evC call it base (.region s_gnomonlaw03_TokenCovers_r3t4 [] [19, 20, 21, 22, 23, 24, 25]) f H = segC call it base s_gnomonlaw03_TokenCovers_r3t5 [19, 20, 21, 22, 23, 24, 25] H (evTale (symAll s_gnomonlaw03_TokenCovers_r3p4 [23] [3]) [23] f H) (origRow call it base s_gnomonlaw03_TokenCovers_r3t4 [19, 20, 21, 22, 23, 24, 25] f H) := row_seg call it base s_gnomonlaw03_TokenCovers_r3p4 s_gnomonlaw03_TokenCovers_r3t5 (by kernel_rfl) f H
theorem s_gnomonlaw03_TokenCovers_r3t5_x (call : CallF) (it : IterF) (base : Nat) (f : List V) (H : Heap) : evC call it base (.region s_gnomonlaw03_TokenCovers_r3t5 [] [19, 20, 21, 22, 23, 24, 25]) f H = thenC call it base (.region s_gnomonlaw03_TokenCovers_r3t6 [] [19, 20, 21, 22, 23, 24, 25]) (opsC [] s_gnomonlaw03_TokenCovers_r3p5 [24] (evOps call base [⟨none, (.store 2 (.t 4) (.t 24)), none⟩] f H)) := (row_op call it base s_gnomonlaw03_TokenCovers_r3p5 s_gnomonlaw03_TokenCovers_r3t6 (kc := [24]) (by kernel_rfl) f H).trans (by rw [row_ops]; rfl)
theorem s_gnomonlaw03_TokenCovers_r3t6_tale (fr : List V) (H : Heap) : evTale (symAll s_gnomonlaw03_TokenCovers_r3t6 [19, 20, 21, 22, 23, 24, 25] [5]) [19, 20, 21, 22, 23, 24, 25] fr H = evTale (some (6, [], [(5, (.t 25))])) [19, 20, 21, 22, 23, 24, 25] fr H := tale_row (items := [.tt 25]) (by kernel_rfl) fr H
theorem s_gnomonlaw03_TokenCovers_r3t6_x (call : CallF) (it : IterF) (base : Nat) (f : List V) (H : Heap) : evC call it base (.region s_gnomonlaw03_TokenCovers_r3t6 [] [19, 20, 21, 22, 23, 24, 25]) f H = segL H (evTale (symAll s_gnomonlaw03_TokenCovers_r3t6 [19, 20, 21, 22, 23, 24, 25] [5]) [19, 20, 21, 22, 23, 24, 25] f H) (origRow call it base s_gnomonlaw03_TokenCovers_r3t6 [19, 20, 21, 22, 23, 24, 25] f H) := row_last call it base _ f H
def s_gnomonlaw03_TokenCovers_r4t2 : List AOper := [⟨some 6, (.move (.t 27)), none⟩]
def s_gnomonlaw03_TokenCovers_r4p1 : List AOper := [⟨some 27, (.call (.c (.fn 12 [] [])) [(.t 26)]), none⟩]
def s_gnomonlaw03_TokenCovers_r4t1 : List AOper := s_gnomonlaw03_TokenCovers_r4p1 ++ s_gnomonlaw03_TokenCovers_r4t2
def s_gnomonlaw03_TokenCovers_r4p0 : List AOper := [⟨some 26, (.move (.t 0)), none⟩]
def s_gnomonlaw03_TokenCovers_r4 : List AOper := s_gnomonlaw03_TokenCovers_r4p0 ++ s_gnomonlaw03_TokenCovers_r4t1
theorem s_gnomonlaw03_TokenCovers_r4p0_tale (fr : List V) (H : Heap) : evTale (symAll s_gnomonlaw03_TokenCovers_r4p0 [] [26]) [] fr H = evTale (some (27, [], [(26, (.t 0))])) [] fr H := tale_row (items := [.tt 0]) (by kernel_rfl) fr H
theorem s_gnomonlaw03_TokenCovers_r4_x (call : CallF) (it : IterF) (base : Nat) (f : List V) (H : Heap) : evC call it base (.region s_gnomonlaw03_TokenCovers_r4 [] [26, 27]) f H = segC call it base s_gnomonlaw03_TokenCovers_r4t1 [26, 27] H (evTale (symAll s_gnomonlaw03_TokenCovers_r4p0 [] [26]) [] f H) (origRow call it base s_gnomonlaw03_TokenCovers_r4 [26, 27] f H) := row_seg call it base s_gnomonlaw03_TokenCovers_r4p0 s_gnomonlaw03_TokenCovers_r4t1 (by kernel_rfl) f H
theorem s_gnomonlaw03_TokenCovers_r4t1_x (call : CallF) (it : IterF) (base : Nat) (f : List V) (H : Heap) : evC call it base (.region s_gnomonlaw03_TokenCovers_r4t1 [] [26, 27]) f H = thenC call it base (.region s_gnomonlaw03_TokenCovers_r4t2 [] [26, 27]) (opsC [] s_gnomonlaw03_TokenCovers_r4p1 [26] (evOps call base [⟨some 27, (.call (.c (.fn 12 [] [])) [(.t 26)]), none⟩] f H)) := (row_op call it base s_gnomonlaw03_TokenCovers_r4p1 s_gnomonlaw03_TokenCovers_r4t2 (kc := [26]) (by kernel_rfl) f H).trans (by rw [row_ops]; rfl)
theorem s_gnomonlaw03_TokenCovers_r4t2_tale (fr : List V) (H : Heap) : evTale (symAll s_gnomonlaw03_TokenCovers_r4t2 [26, 27] [6]) [26, 27] fr H = evTale (some (7, [], [(6, (.t 27))])) [26, 27] fr H := tale_row (items := [.tt 27]) (by kernel_rfl) fr H
theorem s_gnomonlaw03_TokenCovers_r4t2_x (call : CallF) (it : IterF) (base : Nat) (f : List V) (H : Heap) : evC call it base (.region s_gnomonlaw03_TokenCovers_r4t2 [] [26, 27]) f H = segL H (evTale (symAll s_gnomonlaw03_TokenCovers_r4t2 [26, 27] [6]) [26, 27] f H) (origRow call it base s_gnomonlaw03_TokenCovers_r4t2 [26, 27] f H) := row_last call it base _ f H
def s_gnomonlaw03_TokenCovers_r5 : List AOper := [
  ⟨some 28, (.move (.t 5)), none⟩,
  ⟨some 29, (.bin .neq (.t 28) (.c (.s (.int .i64 0)))), none⟩]
theorem s_gnomonlaw03_TokenCovers_r5_tale (fr : List V) (H : Heap) : evTale (symAll s_gnomonlaw03_TokenCovers_r5 [28] [29]) [28] fr H = evTale (some (30, [], [(29, (.op (.bin .neq (.t 0) (.c (.s (.int .i64 0)))) [(.t 5), (.c (.s (.int .i64 0)))]))])) [28] fr H := tale_row (items := [.tt 5, .sub 0 [] []]) (by kernel_rfl) fr H
def s_gnomonlaw03_TokenCovers_r6 : List AOper := [
  ⟨some 30, (.move (.t 3)), none⟩,
  ⟨some 31, (.lenS .s (.t 30)), none⟩,
  ⟨some 32, (.bin .neq (.t 31) (.c (.s (.int .i64 0)))), none⟩,
  ⟨some 33, (.move (.t 32)), none⟩,
  ⟨some 34, (.fieldAddr 0 (.t 4)), some (33, false)⟩,
  ⟨some 35, (.load false 1 (.t 34)), some (33, false)⟩,
  ⟨some 36, (.bin .lss (.t 35) (.c (.s (.int .i64 1)))), some (33, false)⟩,
  ⟨some 37, (.pick (.t 33) (.c (.s (.bool true))) (.t 36)), none⟩,
  ⟨some 38, (.move (.t 37)), none⟩,
  ⟨some 39, (.fieldAddr 0 (.t 4)), some (38, false)⟩,
  ⟨some 40, (.load false 1 (.t 39)), some (38, false)⟩,
  ⟨some 41, (.move (.t 6)), some (38, false)⟩,
  ⟨some 42, (.lenS .s (.t 41)), some (38, false)⟩,
  ⟨some 43, (.bin .gtr (.t 40) (.t 42)), some (38, false)⟩,
  ⟨some 44, (.pick (.t 38) (.c (.s (.bool true))) (.t 43)), none⟩,
  ⟨some 45, (.move (.t 44)), none⟩,
  ⟨some 46, (.fieldAddr 1 (.t 4)), some (45, false)⟩,
  ⟨some 47, (.load false 1 (.t 46)), some (45, false)⟩,
  ⟨some 48, (.bin .lss (.t 47) (.c (.s (.int .i64 1)))), some (45, false)⟩,
  ⟨some 49, (.pick (.t 45) (.c (.s (.bool true))) (.t 48)), none⟩,
  ⟨some 50, (.move (.t 49)), none⟩,
  ⟨some 51, (.move (.t 6)), some (50, false)⟩,
  ⟨some 52, (.fieldAddr 0 (.t 4)), some (50, false)⟩,
  ⟨some 53, (.load false 1 (.t 52)), some (50, false)⟩,
  ⟨some 54, (.bin .sub (.t 53) (.c (.s (.int .i64 1)))), some (50, false)⟩,
  ⟨some 55, (.indexAddr 1 (.t 51) (.t 54)), some (50, false)⟩,
  ⟨some 56, (.load false 1 (.t 55)), some (50, false)⟩,
  ⟨some 57, (.fieldAddr 1 (.t 4)), some (50, false)⟩,
  ⟨some 58, (.load false 1 (.t 57)), some (50, false)⟩,
  ⟨some 59, (.bin .add (.t 56) (.t 58)), some (50, false)⟩,
  ⟨some 60, (.bin .sub (.t 59) (.c (.s (.int .i64 1)))), some (50, false)⟩,
  ⟨some 61, (.move (.t 0)), some (50, false)⟩,
  ⟨some 62, (.lenS .p (.t 61)), some (50, false)⟩,
  ⟨some 63, (.bin .geq (.t 60) (.t 62)), some (50, false)⟩,
  ⟨some 64, (.pick (.t 50) (.c (.s (.bool true))) (.t 63)), none⟩,
  ⟨some 65, (.move (.t 64)), none⟩,
  ⟨some 66, (.move (.t 5)), some (65, false)⟩,
  ⟨some 67, (.bin .neq (.t 66) (.c (.s (.int .i64 30)))), some (65, false)⟩,
  ⟨some 68, (.move (.t 67)), some (65, false)⟩,
  ⟨some 69, (.move (.t 5)), some (68, true)⟩,
  ⟨some 70, (.bin .neq (.t 69) (.c (.s (.int .i64 31)))), some (68, true)⟩,
  ⟨some 71, (.pick (.t 68) (.t 70) (.c (.s (.bool false)))), some (65, false)⟩,
  ⟨some 72, (.pick (.t 65) (.c (.s (.bool true))) (.t 71)), none⟩]
theorem s_gnomonlaw03_TokenCovers_r6_tale (fr : List V) (H : Heap) : evTale (symAll s_gnomonlaw03_TokenCovers_r6 [3, 5, 29, 30, 31, 32, 33, 34, 35, 36, 37, 38, 39, 40, 41, 42, 43, 44, 45, 46, 47, 48, 49, 50, 51, 52, 53, 54, 55, 56, 57, 58, 59, 60, 61, 62, 63, 64, 65, 66, 67, 68, 69, 70, 71] [72]) [3, 5, 29, 30, 31, 32, 33, 34, 35, 36, 37, 38, 39, 40, 41, 42, 43, 44, 45, 46, 47, 48, 49, 50, 51, 52, 53, 54, 55, 56, 57, 58, 59, 60, 61, 62, 63, 64, 65, 66, 67, 68, 69, 70, 71] fr H = evTale (some (73, [], [(72, (.pick (.pick (.pick (.pick (.pick (.op (.bin .neq (.t 0) (.c (.s (.int .i64 0)))) [(.op (.lenS .s (.t 0)) [(.t 3)]), (.c (.s (.int .i64 0)))]) (.c (.s (.bool true))) (.op (.bin .lss (.t 0) (.c (.s (.int .i64 1)))) [(.op (.load false 1 (.t 0)) [(.op (.fieldAddr 0 (.t 0)) [(.t 4)])]), (.c (.s (.int .i64 1)))])) (.c (.s (.bool true))) (.op (.bin .gtr (.t 0) (.t 1)) [(.op (.load false 1 (.t 0)) [(.op (.fieldAddr 0 (.t 0)) [(.t 4)])]), (.op (.lenS .s (.t 0)) [(.t 6)])])) (.c (.s (.bool true))) (.op (.bin .lss (.t 0) (.c (.s (.int .i64 1)))) [(.op (.load false 1 (.t 0)) [(.op (.fieldAddr 1 (.t 0)) [(.t 4)])]), (.c (.s (.int .i64 1)))])) (.c (.s (.bool true))) (.op (.bin .geq (.t 0) (.t 1)) [(.op (.bin .sub (.t 0) (.c (.s (.int .i64 1)))) [(.op (.bin .add (.t 0) (.t 1)) [(.op (.load false 1 (.t 0)) [(.op (.indexAddr 1 (.t 0) (.t 1)) [(.t 6), (.op (.bin .sub (.t 0) (.c (.s (.int .i64 1)))) [(.op (.load false 1 (.t 0)) [(.op (.fieldAddr 0 (.t 0)) [(.t 4)])]), (.c (.s (.int .i64 1)))])])]), (.op (.load false 1 (.t 0)) [(.op (.fieldAddr 1 (.t 0)) [(.t 4)])])]), (.c (.s (.int .i64 1)))]), (.op (.lenS .p (.t 0)) [(.t 0)])])) (.c (.s (.bool true))) (.pick (.op (.bin .neq (.t 0) (.c (.s (.int .i64 30)))) [(.t 5), (.c (.s (.int .i64 30)))]) (.op (.bin .neq (.t 0) (.c (.s (.int .i64 31)))) [(.t 5), (.c (.s (.int .i64 31)))]) (.c (.s (.bool false))))))])) [3, 5, 29, 30, 31, 32, 33, 34, 35, 36, 37, 38, 39, 40, 41, 42, 43, 44, 45, 46, 47, 48, 49, 50, 51, 52, 53, 54, 55, 56, 57, 58, 59, 60, 61, 62, 63, 64, 65, 66, 67, 68, 69, 70, 71] fr H := tale_row (items := [.tt 3, .sub 0 [0, 0, 0, 0, 0, 0] [], .sub 0 [0, 0, 0, 0, 0] [], .sub 0 [0, 0, 0, 0, 0] [], .sub 0 [0, 0, 0, 0, 2, 0, 0] [33], .sub 0 [0, 0, 0, 0, 2, 0] [33], .sub 0 [0, 0, 0, 0, 2] [33], .sub 0 [0, 0, 0, 0] [], .sub 0 [0, 0, 0, 0] [], .sub 0 [0, 0, 0, 2, 0, 0] [38], .sub 0 [0, 0, 0, 2, 0] [38], .sub 0 [0, 0, 0, 2, 1, 0] [38], .sub 0 [0, 0, 0, 2, 1] [38], .sub 0 [0, 0, 0, 2] [38], .sub 0 [0, 0, 0] [], .sub 0 [0, 0, 0] [], .sub 0 [0, 0, 2, 0, 0] [45], .sub 0 [0, 0, 2, 0] [45], .sub 0 [0, 0, 2] [45], .sub 0 [0, 0] [], .sub 0 [0, 0] [], .sub 0 [0, 2, 0, 0, 0, 0, 0] [50], .sub 0 [0, 2, 0, 0, 0, 0, 1, 0, 0] [50], .sub 0 [0, 2, 0, 0, 0, 0, 1, 0] [50], .sub 0 [0, 2, 0, 0, 0, 0, 1] [50], .sub 0 [0, 2, 0, 0, 0, 0] [50], .sub 0 [0, 2, 0, 0, 0] [50], .sub 0 [0, 2, 0, 0, 1, 0] [50], .sub 0 [0, 2, 0, 0, 1] [50], .sub 0 [0, 2, 0, 0] [50], .sub 0 [0, 2, 0] [50], .sub 0 [0, 2, 1, 0] [50], .sub 0 [0, 2, 1] [50], .sub 0 [0, 2] [50], .sub 0 [0] [], .sub 0 [0] [], .sub 0 [2, 0, 0] [65], .sub 0 [2, 0] [65], .sub 0 [2, 0] [65], .sub 0 [2, 1, 0] [65, 68], .sub 0 [2, 1] [65, 68], .sub 0 [2] [65], .sub 0 [] []]) (by kernel_rfl) fr H
def s_gnomonlaw03_TokenCovers_r7 : List AOper := [
  ⟨some 2, (.move (.c (.s (.bool false)))), none⟩]
theorem s_gnomonlaw03_TokenCovers_r7_tale (fr : List V) (H : Heap) : evTale (symAll s_gnomonlaw03_TokenCovers_r7 [0, 4, 6, 72] [2]) [0, 4, 6, 72] fr H = evTale (some (3, [], [(2, (.c (.s (.bool false))))])) [0, 4, 6, 72] fr H := tale_row (items := [.cc (.s (.bool false))]) (by kernel_rfl) fr H
def s_gnomonlaw03_TokenCovers_r8t6 : List AOper := [⟨some 9, (.move (.t 89)), none⟩]
def s_gnomonlaw03_TokenCovers_r8p5 : List AOper := [⟨none, (.store 2 (.t 8) (.t 88)), none⟩]
def s_gnomonlaw03_TokenCovers_r8t5 : List AOper := s_gnomonlaw03_TokenCovers_r8p5 ++ s_gnomonlaw03_TokenCovers_r8t6
def s_gnomonlaw03_TokenCovers_r8p4 : List AOper := [⟨some 7, (.move (.t 87)), none⟩]
def s_gnomonlaw03_TokenCovers_r8t4 : List AOper := s_gnomonlaw03_TokenCovers_r8p4 ++ s_gnomonlaw03_TokenCovers_r8t5
def s_gnomonlaw03_TokenCovers_r8p3 : List AOper := [⟨some 8, (.alloc [(.s (.int .i64 0)), (.s (.int .i64 0))]), none⟩]
def s_gnomonlaw03_TokenCovers_r8t3 : List AOper := s_gnomonlaw03_TokenCovers_r8p3 ++ s_gnomonlaw03_TokenCovers_r8t4
def s_gnomonlaw03_TokenCovers_r8p2 : List AOper := [⟨some 73, (.move (.t 86)), none⟩, ⟨some 87, (.extract (.t 73) 0), none⟩, ⟨some 88, (.extract (.t 73) 1), none⟩, ⟨some 89, (.extract (.t 73) 2), none⟩]
def s_gnomonlaw03_TokenCovers_r8t2 : List AOper := s_gnomonlaw03_TokenCovers_r8p2 ++ s_gnomonlaw03_TokenCovers_r8t3
def s_gnomonlaw03_TokenCovers_r8p1 : List AOper := [⟨some 86, (.callR (.c (.fn 8 [] [])) [(.t 85)]), none⟩]
def s_gnomonlaw03_TokenCovers_r8t1 : List AOper := s_gnomonlaw03_TokenCovers_r8p1 ++ s_gnomonlaw03_TokenCovers_r8t2
def s_gnomonlaw03_TokenCovers_r8p0 : List AOper := [⟨some 74, (.move (.t 0)), none⟩, ⟨some 75, (.move (.t 6)), none⟩, ⟨some 76, (.fieldAddr 0 (.t 4)), none⟩, ⟨some 77, (.load false 1 (.t 76)), none⟩, ⟨some 78, (.bin .sub (.t 77) (.c (.s (.int .i64 1)))), none⟩, ⟨some 79, (.indexAddr 1 (.t 75) (.t 78)), none⟩, ⟨some 80, (.load false 1 (.t 79)), none⟩, ⟨some 81, (.fieldAddr 1 (.t 4)), none⟩, ⟨some 82, (.load false 1 (.t 81)), none⟩, ⟨some 83, (.bin .add (.t 80) (.t 82)), none⟩, ⟨some 84, (.bin .sub (.t 83) (.c (.s (.int .i64 1)))), none⟩, ⟨some 85, (.subStr (.t 74) none (some (.t 84))), none⟩]
def s_gnomonlaw03_TokenCovers_r8 : List AOper := s_gnomonlaw03_TokenCovers_r8p0 ++ s_gnomonlaw03_TokenCovers_r8t1
theorem s_gnomonlaw03_TokenCovers_r8p0_tale (fr : List V) (H : Heap) : evTale (symAll s_gnomonlaw03_TokenCovers_r8p0 [0, 4, 6, 72, 74, 75, 76, 77, 78, 79, 80, 81, 82, 83, 84] [85]) [0, 4, 6, 72, 74, 75, 76, 77, 78, 79, 80, 81, 82, 83, 84] fr H = evTale (some (86, [], [(85, (.op (.subStr (.t 0) none (some (.t 1))) [(.t 0), (.op (.bin .sub (.t 0) (.c (.s (.int .i64 1)))) [(.op (.bin .add (.t 0) (.t 1)) [(.op (.load false 1 (.t 0)) [(.op (.indexAddr 1 (.t 0) (.t 1)) [(.t 6), (.op (.bin .sub (.t 0) (.c (.s (.int .i64 1)))) [(.op (.load false 1 (.t 0)) [(.op (.fieldAddr 0 (.t 0)) [(.t 4)])]), (.c (.s (.int .i64 1)))])])]), (.op (.load false 1 (.t 0)) [(.op (.fieldAddr 1 (.t 0)) [(.t 4)])])]), (.c (.s (.int .i64 1)))])]))])) [0, 4, 6, 72, 74, 75, 76, 77, 78, 79, 80, 81, 82, 83, 84] fr H := tale_row (items := [.tt 0, .tt 6, .sub 0 [1, 0, 0, 0, 1, 0, 0] [], .sub 0 [1, 0, 0, 0, 1, 0] [], .sub 0 [1, 0, 0, 0, 1] [], .sub 0 [1, 0, 0, 0] [], .sub 0 [1, 0, 0] [], .sub 0 [1, 0, 1, 0] [], .sub 0 [1, 0, 1] [], .sub 0 [1, 0] [], .sub 0 [1] [], .sub 0 [] []]) (by kernel_rfl) fr H
theorem s_gnomonlaw03_TokenCovers_r8_x (call : CallF) (it : IterF) (base : Nat) (f : List V) (H : Heap) : evC call it base (.region s_gnomonlaw03_TokenCovers_r8 [] [0, 4, 6, 7, 8, 72, 73, 74, 75, 76, 77, 78, 79, 80, 81, 82, 83, 84, 85, 86, 87, 88, 89]) f H = segC call it base s_gnomonlaw03_TokenCovers_r8t1 [0, 4, 6, 7, 8, 72, 73, 74, 75, 76, 77, 78, 79, 80, 81, 82, 83, 84, 85, 86, 87, 88, 89] H (evTale (symAll s_gnomonlaw03_TokenCovers_r8p0 [0, 4, 6, 72, 74, 75, 76, 77, 78, 79, 80, 81, 82, 83, 84] [85]) [0, 4, 6, 72, 74, 75, 76, 77, 78, 79, 80, 81, 82, 83, 84] f H) (origRow call it base s_gnomonlaw03_TokenCovers_r8 [0, 4, 6, 7, 8, 72, 73, 74, 75, 76, 77, 78, 79, 80, 81, 82, 83, 84, 85, 86, 87, 88, 89] f H) := row_seg call it base s_gnomonlaw03_TokenCovers_r8p0 s_gnomonlaw03_TokenCovers_r8t1 (by kernel_rfl) f H
theorem s_gnomonlaw03_TokenCovers_r8t1_x (call : CallF) (it : IterF) (base : Nat) (f : List V) (H : Heap) : evC call it base (.region s_gnomonlaw03_TokenCovers_r8t1 [] [0, 4, 6, 7, 8, 72, 73, 74, 75, 76, 77, 78, 79, 80, 81, 82, 83, 84, 85, 86, 87, 88, 89]) f H = thenC call it base (.region s_gnomonlaw03_TokenCovers_r8t2 [] [0, 4, 6, 7, 8, 72, 73, 74, 75, 76, 77, 78, 79, 80, 81, 82, 83, 84, 85, 86, 87, 88, 89]) (opsC [] s_gnomonlaw03_TokenCovers_r8p1 [85] (evOps call base [⟨some 86, (.callR (.c (.fn 8 [] [])) [(.t 85)]), none⟩] f H)) := (row_op call it base s_gnomonlaw03_TokenCovers_r8p1 s_gnomonlaw03_TokenCovers_r8t2 (kc := [85]) (by kernel_rfl) f H).trans (by rw [row_ops]; rfl)
theorem s_gnomonlaw03_TokenCovers_r8p2_tale (fr : List V) (H : Heap) : evTale (symAll s_gnomonlaw03_TokenCovers_r8p2 [73, 86] [87, 88, 89]) [73, 86] fr H = evTale (some (90, [], [(87, (.op (.extract (.t 0) 0) [(.t 86)])), (88, (.op (.extract (.t 0) 1) [(.t 86)])), (89, (.op (.extract (.t 0) 2) [(.t 86)]))])) [73, 86] fr H := tale_row (items := [.tt 86, .sub 0 [] [], .sub 1 [] [], .sub 2 [] []]) (by kernel_rfl) fr H
theorem s_gnomonlaw03_TokenCovers_r8t2_x (call : CallF) (it : IterF) (base : Nat) (f : List V) (H : Heap) : evC call it base (.region s_gnomonlaw03_TokenCovers_r8t2 [] [0, 4, 6, 7, 8, 72, 73, 74, 75, 76, 77, 78, 79, 80, 81, 82, 83, 84, 85, 86, 87, 88, 89]) f H = segC call it base s_gnomonlaw03_TokenCovers_r8t3 [0, 4, 6, 7, 8, 72, 73, 74, 75, 76, 77, 78, 79, 80, 81, 82, 83, 84, 85, 86, 87, 88, 89] H (evTale (symAll s_gnomonlaw03_TokenCovers_r8p2 [73, 86] [87, 88, 89]) [73, 86] f H) (origRow call it base s_gnomonlaw03_TokenCovers_r8t2 [0, 4, 6, 7, 8, 72, 73, 74, 75, 76, 77, 78, 79, 80, 81, 82, 83, 84, 85, 86, 87, 88, 89] f H) := row_seg call it base s_gnomonlaw03_TokenCovers_r8p2 s_gnomonlaw03_TokenCovers_r8t3 (by kernel_rfl) f H
theorem s_gnomonlaw03_TokenCovers_r8t3_x (call : CallF) (it : IterF) (base : Nat) (f : List V) (H : Heap) : evC call it base (.region s_gnomonlaw03_TokenCovers_r8t3 [] [0, 4, 6, 7, 8, 72, 73, 74, 75, 76, 77, 78, 79, 80, 81, 82, 83, 84, 85, 86, 87, 88, 89]) f H = thenC call it base (.region s_gnomonlaw03_TokenCovers_r8t4 [] [0, 4, 6, 7, 8, 72, 73, 74, 75, 76, 77, 78, 79, 80, 81, 82, 83, 84, 85, 86, 87, 88, 89]) (opsC [] s_gnomonlaw03_TokenCovers_r8p3 [] (evOps call base [⟨some 8, (.alloc [(.s (.int .i64 0)), (.s (.int .i64 0))]), none⟩] f H)) := (row_op call it base s_gnomonlaw03_TokenCovers_r8p3 s_gnomonlaw03_TokenCovers_r8t4 (kc := []) (by kernel_rfl) f H).trans (by rw [row_ops]; rfl)
theorem s_gnomonlaw03_TokenCovers_r8p4_tale (fr : List V) (H : Heap) : evTale (symAll s_gnomonlaw03_TokenCovers_r8p4 [7, 87] []) [7, 87] fr H = evTale (some (8, [], [])) [7, 87] fr H := tale_row (items := [.tt 87]) (by kernel_rfl) fr H
theorem s_gnomonlaw03_TokenCovers_r8t4_x (call : CallF) (it : IterF) (base : Nat) (f : List V) (H : Heap) : evC call it base (.region s_gnomonlaw03_TokenCovers_r8t4 [] [0, 4, 6, 7, 8, 72, 73, 74, 75, 76, 77, 78, 79, 80, 81, 82, 83, 84, 85, 86, 87, 88, 89]) f H = segC call it base s_gnomonlaw03_TokenCovers_r8t5 [0, 4, 6, 7, 8, 72, 73, 74, 75, 76, 77, 78, 79, 80, 81, 82, 83, 84, 85, 86, 87, 88, 89] H (evTale (symAll s_gnomonlaw03_TokenCovers_r8p4 [7, 87] []) [7, 87] f H) (origRow call it base s_gnomonlaw03_TokenCovers_r8t4 [0, 4, 6, 7, 8, 72, 73, 74, 75, 76, 77, 78, 79, 80, 81, 82, 83, 84, 85, 86, 87, 88, 89] f H) := row_seg call it base s_gnomonlaw03_TokenCovers_r8p4 s_gnomonlaw03_TokenCovers_r8t5 (by kernel_rfl) f H
theorem s_gnomonlaw03_TokenCovers_r8t5_x (call : CallF) (it : IterF) (base : Nat) (f : List V) (H : Heap) : evC call it base (.region s_gnomonlaw03_TokenCovers_r8t5 [] [0, 4, 6, 7, 8, 72, 73, 74, 75, 76, 77, 78, 79, 80, 81, 82, 83, 84, 85, 86, 87, 88, 89]) f H = thenC call it base (.region s_gnomonlaw03_TokenCovers_r8t6 [] [0, 4, 6, 7, 8, 72, 73, 74, 75, 76, 77, 78, 79, 80, 81, 82, 83, 84, 85, 86, 87, 88, 89]) (opsC [] s_gnomonlaw03_TokenCovers_r8p5 [8, 88] (evOps call base [⟨none, (.store 2 (.t 8) (.t 88)), none⟩] f H)) := (row_op call it base s_gnomonlaw03_TokenCovers_r8p5 s_gnomonlaw03_TokenCovers_r8t6 (kc := [8, 88]) (by kernel_rfl) f H).trans (by rw [row_ops]; rfl)
theorem s_gnomonlaw03_TokenCovers_r8t6_tale (fr : List V) (H : Heap) : evTale (symAll s_gnomonlaw03_TokenCovers_r8t6 [0, 4, 6, 7, 8, 72, 73, 74, 75, 76, 77, 78, 79, 80, 81, 82, 83, 84, 85, 86, 87, 88, 89] [9]) [0, 4, 6, 7, 8, 72, 73, 74, 75, 76, 77, 78, 79, 80, 81, 82, 83, 84, 85, 86, 87, 88, 89] fr H = evTale (some (10, [], [(9, (.t 89))])) [0, 4, 6, 7, 8, 72, 73, 74, 75, 76, 77, 78, 79, 80, 81, 82, 83, 84, 85, 86, 87, 88, 89] fr H := tale_row (items := [.tt 89]) (by kernel_rfl) fr H
theorem s_gnomonlaw03_TokenCovers_r8t6_x (call : CallF) (it : IterF) (base : Nat) (f : List V) (H : Heap) : evC call it base (.region s_gnomonlaw03_TokenCovers_r8t6 [] [0, 4, 6, 7, 8, 72, 73, 74, 75, 76, 77, 78, 79, 80, 81, 82, 83, 84, 85, 86, 87, 88, 89]) f H = segL H (evTale (symAll s_gnomonlaw03_TokenCovers_r8t6 [0, 4, 6, 7, 8, 72, 73, 74, 75, 76, 77, 78, 79, 80, 81, 82, 83, 84, 85, 86, 87, 88, 89] [9]) [0, 4, 6, 7, 8, 72, 73, 74, 75, 76, 77, 78, 79, 80, 81, 82, 83, 84, 85, 86, 87, 88, 89] f H) (origRow call it base s_gnomonlaw03_TokenCovers_r8t6 [0, 4, 6, 7, 8, 72, 73, 74, 75, 76, 77, 78, 79, 80, 81, 82, 83, 84, 85, 86, 87, 88, 89] f H) := row_last call it base _ f H
def s_gnomonlaw03_TokenCovers_r9t2 : List AOper := [⟨some 94, (.pick (.t 92) (.t 93) (.c (.s (.bool false)))), none⟩, ⟨some 2, (.move (.t 94)), none⟩]
def s_gnomonlaw03_TokenCovers_r9p1 : List AOper := [⟨some 93, (.call (.c (.fn 11 [] [])) []), some (92, true)⟩]
def s_gnomonlaw03_TokenCovers_r9t1 : List AOper := s_gnomonlaw03_TokenCovers_r9p1 ++ s_gnomonlaw03_TokenCovers_r9t2
def s_gnomonlaw03_TokenCovers_r9p0 : List AOper := [⟨some 90, (.move (.t 9)), none⟩, ⟨some 91, (.bin .eql (.t 90) (.c (.s (.int .i64 0)))), none⟩, ⟨some 92, (.move (.t 91)), none⟩]
def s_gnomonlaw03_TokenCovers_r9 : List AOper := s_gnomonlaw03_TokenCovers_r9p0 ++ s_gnomonlaw03_TokenCovers_r9t1
theorem s_gnomonlaw03_TokenCovers_r9p0_tale (fr : List V) (H : Heap) : evTale (symAll s_gnomonlaw03_TokenCovers_r9p0 [9, 90, 91] [92]) [9, 90, 91] fr H = evTale (some (93, [], [(92, (.op (.bin .eql (.t 0) (.c (.s (.int .i64 0)))) [(.t 9), (.c (.s (.int .i64 0)))]))])) [9, 90, 91] fr H := tale_row (items := [.tt 9, .sub 0 [] [], .sub 0 [] []]) (by kernel_rfl) fr H
theorem s_gnomonlaw03_TokenCovers_r9_x (call : CallF) (it : IterF) (base : Nat) (f : List V) (H : Heap) : evC call it base (.region s_gnomonlaw03_TokenCovers_r9 [] [9, 90, 91, 92, 93, 94]) f H = segC call it base s_gnomonlaw03_TokenCovers_r9t1 [9, 90, 91, 92, 93, 94] H (evTale (symAll s_gnomonlaw03_TokenCovers_r9p0 [9, 90, 91] [92]) [9, 90, 91] f H) (origRow call it base s_gnomonlaw03_TokenCovers_r9 [9, 90, 91, 92, 93, 94] f H) := row_seg call it base s_gnomonlaw03_TokenCovers_r9p0 s_gnomonlaw03_TokenCovers_r9t1 (by kernel_rfl) f H
theorem s_gnomonlaw03_TokenCovers_r9t1_x (call : CallF) (it : IterF) (base : Nat) (f : List V) (H : Heap) : evC call it base (.region s_gnomonlaw03_TokenCovers_r9t1 [] [9, 90, 91, 92, 93, 94]) f H = thenC call it base (.region s_gnomonlaw03_TokenCovers_r9t2 [] [9, 90, 91, 92, 93, 94]) (opsC [] s_gnomonlaw03_TokenCovers_r9p1 [] (evOps call base [⟨some 93, (.call (.c (.fn 11 [] [])) []), some (92, true)⟩] f H)) := (row_op call it base s_gnomonlaw03_TokenCovers_r9p1 s_gnomonlaw03_TokenCovers_r9t2 (kc := []) (by kernel_rfl) f H).trans (by rw [row_ops]; rfl)
theorem s_gnomonlaw03_TokenCovers_r9t2_tale (fr : List V) (H : Heap) : evTale (symAll s_gnomonlaw03_TokenCovers_r9t2 [9, 90, 91, 92, 93, 94] [2]) [9, 90, 91, 92, 93, 94] fr H = evTale (some (95, [], [(2, (.pick (.t 92) (.t 93) (.c (.s (.bool false)))))])) [9, 90, 91, 92, 93, 94] fr H := tale_row (items := [.sub 0 [] [], .sub 0 [] []]) (by kernel_rfl) fr H
theorem s_gnomonlaw03_TokenCovers_r9t2_x (call : CallF) (it : IterF) (base : Nat) (f : List V) (H : Heap) : evC call it base (.region s_gnomonlaw03_TokenCovers_r9t2 [] [9, 90, 91, 92, 93, 94]) f H = segL H (evTale (symAll s_gnomonlaw03_TokenCovers_r9t2 [9, 90, 91, 92, 93, 94] [2]) [9, 90, 91, 92, 93, 94] f H) (origRow call it base s_gnomonlaw03_TokenCovers_r9t2 [9, 90, 91, 92, 93, 94] f H) := row_last call it base _ f H
def s_gnomonlaw03_TokenCovers_r10 : List AOper := [
  ⟨some 95, (.load true 2 (.t 4)), none⟩,
  ⟨some 96, (.build [(.s (.int .i64 0)), (.s (.int .i64 0))] [(0, 1), (1, 1)] []), none⟩,
  ⟨some 97, (.eqAgg true [(.int .i64), (.int .i64)] (.t 95) (.t 96)), none⟩,
  ⟨some 98, (.move (.t 97)), none⟩,
  ⟨some 99, (.move (.t 3)), some (98, false)⟩,
  ⟨some 100, (.lenS .s (.t 99)), some (98, false)⟩,
  ⟨some 101, (.bin .eql (.t 100) (.c (.s (.int .i64 0)))), some (98, false)⟩,
  ⟨some 102, (.pick (.t 98) (.c (.s (.bool true))) (.t 101)), none⟩]
theorem s_gnomonlaw03_TokenCovers_r10_tale (fr : List V) (H : Heap) : evTale (symAll s_gnomonlaw03_TokenCovers_r10 [4, 5, 29, 95, 96, 97, 98, 99, 100, 101] [102]) [4, 5, 29, 95, 96, 97, 98, 99, 100, 101] fr H = evTale (some (103, [], [(102, (.pick (.op (.eqAgg true [(.int .i64), (.int .i64)] (.t 0) (.t 1)) [(.op (.load true 2 (.t 0)) [(.t 4)]), (.op (.build [(.s (.int .i64 0)), (.s (.int .i64 0))] [(0, 1), (1, 1)] []) [])]) (.c (.s (.bool true))) (.op (.bin .eql (.t 0) (.c (.s (.int .i64 0)))) [(.op (.lenS .s (.t 0)) [(.t 3)]), (.c (.s (.int .i64 0)))])))])) [4, 5, 29, 95, 96, 97, 98, 99, 100, 101] fr H := tale_row (items := [.sub 0 [0, 0] [], .sub 0 [0, 1] [], .sub 0 [0] [], .sub 0 [0] [], .sub 0 [2, 0, 0] [98], .sub 0 [2, 0] [98], .sub 0 [2] [98], .sub 0 [] []]) (by kernel_rfl) fr H
def s_gnomonlaw03_TokenCovers_r11 : List AOper := [
  ⟨some 2, (.move (.c (.s (.bool false)))), none⟩]
theorem s_gnomonlaw03_TokenCovers_r11_tale (fr : List V) (H : Heap) : evTale (symAll s_gnomonlaw03_TokenCovers_r11 [0, 3, 6, 102] [2]) [0, 3, 6, 102] fr H = evTale (some (3, [], [(2, (.c (.s (.bool false))))])) [0, 3, 6, 102] fr H := tale_row (items := [.cc (.s (.bool false))]) (by kernel_rfl) fr H
def s_gnomonlaw03_TokenCovers_r12 : List AOper := [
  ⟨some 10, (.move (.c (.s (.int .i64 0)))), none⟩]
theorem s_gnomonlaw03_TokenCovers_r12_tale (fr : List V) (H : Heap) : evTale (symAll s_gnomonlaw03_TokenCovers_r12 [102] [10]) [102] fr H = evTale (some (11, [], [(10, (.c (.s (.int .i64 0))))])) [102] fr H := tale_row (items := [.cc (.s (.int .i64 0))]) (by kernel_rfl) fr H
def s_gnomonlaw03_TokenCovers_r13 : List AOper := [
  ⟨some 11, (.move (.c (.s (.int .i64 0)))), none⟩]
theorem s_gnomonlaw03_TokenCovers_r13_tale (fr : List V) (H : Heap) : evTale (symAll s_gnomonlaw03_TokenCovers_r13 [] [11]) [] fr H = evTale (some (12, [], [(11, (.c (.s (.int .i64 0))))])) [] fr H := tale_row (items := [.cc (.s (.int .i64 0))]) (by kernel_rfl) fr H
def s_gnomonlaw03_TokenCovers_r14 : List AOper := [
  ⟨some 103, (.move (.t 11)), none⟩,
  ⟨some 104, (.move (.t 3)), none⟩,
  ⟨some 105, (.lenS .s (.t 104)), none⟩,
  ⟨some 106, (.bin .lss (.t 103) (.t 105)), none⟩]
theorem s_gnomonlaw03_TokenCovers_r14_tale (fr : List V) (H : Heap) : evTale (symAll s_gnomonlaw03_TokenCovers_r14 [103, 104, 105] [106]) [103, 104, 105] fr H = evTale (some (107, [], [(106, (.op (.bin .lss (.t 0) (.t 1)) [(.t 11), (.op (.lenS .s (.t 0)) [(.t 3)])]))])) [103, 104, 105] fr H := tale_row (items := [.tt 11, .tt 3, .sub 0 [1] [], .sub 0 [] []]) (by kernel_rfl) fr H
def s_gnomonlaw03_TokenCovers_r15t2 : List AOper := [⟨none, (.store 5 (.t 12) (.t 112)), none⟩]
def s_gnomonlaw03_TokenCovers_r15p1 : List AOper := [⟨some 12, (.alloc [(.s (.int .u8 0)), (.s (.string ⟨#[]⟩)), (.s (.int .i64 0)), (.s (.int .i64 0)), (.s (.int .i64 0))]), none⟩]
def s_gnomonlaw03_TokenCovers_r15t1 : List AOper := s_gnomonlaw03_TokenCovers_r15p1 ++ s_gnomonlaw03_TokenCovers_r15t2
def s_gnomonlaw03_TokenCovers_r15p0 : List AOper := [⟨some 109, (.move (.t 3)), none⟩, ⟨some 110, (.move (.t 11)), none⟩, ⟨some 111, (.indexAddr 5 (.t 109) (.t 110)), none⟩, ⟨some 112, (.load true 5 (.t 111)), none⟩]
def s_gnomonlaw03_TokenCovers_r15 : List AOper := s_gnomonlaw03_TokenCovers_r15p0 ++ s_gnomonlaw03_TokenCovers_r15t1
theorem s_gnomonlaw03_TokenCovers_r15p0_tale (fr : List V) (H : Heap) : evTale (symAll s_gnomonlaw03_TokenCovers_r15p0 [106, 109, 110, 111] [112]) [106, 109, 110, 111] fr H = evTale (some (113, [], [(112, (.op (.load true 5 (.t 0)) [(.op (.indexAddr 5 (.t 0) (.t 1)) [(.t 3), (.t 11)])]))])) [106, 109, 110, 111] fr H := tale_row (items := [.tt 3, .tt 11, .sub 0 [0] [], .sub 0 [] []]) (by kernel_rfl) fr H
theorem s_gnomonlaw03_TokenCovers_r15_x (call : CallF) (it : IterF) (base : Nat) (f : List V) (H : Heap) : evC call it base (.region s_gnomonlaw03_TokenCovers_r15 [] [106, 109, 110, 111, 112]) f H = segC call it base s_gnomonlaw03_TokenCovers_r15t1 [106, 109, 110, 111, 112] H (evTale (symAll s_gnomonlaw03_TokenCovers_r15p0 [106, 109, 110, 111] [112]) [106, 109, 110, 111] f H) (origRow call it base s_gnomonlaw03_TokenCovers_r15 [106, 109, 110, 111, 112] f H) := row_seg call it base s_gnomonlaw03_TokenCovers_r15p0 s_gnomonlaw03_TokenCovers_r15t1 (by kernel_rfl) f H
theorem s_gnomonlaw03_TokenCovers_r15t1_x (call : CallF) (it : IterF) (base : Nat) (f : List V) (H : Heap) : evC call it base (.region s_gnomonlaw03_TokenCovers_r15t1 [] [106, 109, 110, 111, 112]) f H = thenC call it base (.region s_gnomonlaw03_TokenCovers_r15t2 [] [106, 109, 110, 111, 112]) (opsC [] s_gnomonlaw03_TokenCovers_r15p1 [] (evOps call base [⟨some 12, (.alloc [(.s (.int .u8 0)), (.s (.string ⟨#[]⟩)), (.s (.int .i64 0)), (.s (.int .i64 0)), (.s (.int .i64 0))]), none⟩] f H)) := (row_op call it base s_gnomonlaw03_TokenCovers_r15p1 s_gnomonlaw03_TokenCovers_r15t2 (kc := []) (by kernel_rfl) f H).trans (by rw [row_ops]; rfl)
theorem s_gnomonlaw03_TokenCovers_r15t2_x (call : CallF) (it : IterF) (base : Nat) (f : List V) (H : Heap) : evC call it base (.region s_gnomonlaw03_TokenCovers_r15t2 [] [106, 109, 110, 111, 112]) f H = opsC [] s_gnomonlaw03_TokenCovers_r15t2 [106, 109, 110, 111, 112] (evOps call base [⟨none, (.store 5 (.t 12) (.t 112)), none⟩] f H) := row_ops call it base _ _ f H
def s_gnomonlaw03_TokenCovers_r16 : List AOper := [
  ⟨some 113, (.fieldAddr 3 (.t 12)), none⟩,
  ⟨some 114, (.fieldAddr 0 (.t 113)), none⟩,
  ⟨some 115, (.load false 1 (.t 114)), none⟩,
  ⟨some 116, (.bin .lss (.t 115) (.c (.s (.int .i64 1)))), none⟩,
  ⟨some 117, (.move (.t 116)), none⟩,
  ⟨some 118, (.fieldAddr 3 (.t 12)), some (117, false)⟩,
  ⟨some 119, (.fieldAddr 0 (.t 118)), some (117, false)⟩,
  ⟨some 120, (.load false 1 (.t 119)), some (117, false)⟩,
  ⟨some 121, (.move (.t 6)), some (117, false)⟩,
  ⟨some 122, (.lenS .s (.t 121)), some (117, false)⟩,
  ⟨some 123, (.bin .gtr (.t 120) (.t 122)), some (117, false)⟩,
  ⟨some 124, (.pick (.t 117) (.c (.s (.bool true))) (.t 123)), none⟩,
  ⟨some 125, (.move (.t 124)), none⟩,
  ⟨some 126, (.fieldAddr 3 (.t 12)), some (125, false)⟩,
  ⟨some 127, (.fieldAddr 1 (.t 126)), some (125, false)⟩,
  ⟨some 128, (.load false 1 (.t 127)), some (125, false)⟩,
  ⟨some 129, (.bin .lss (.t 128) (.c (.s (.int .i64 1)))), some (125, false)⟩,
  ⟨some 130, (.pick (.t 125) (.c (.s (.bool true))) (.t 129)), none⟩]
theorem s_gnomonlaw03_TokenCovers_r16_tale (fr : List V) (H : Heap) : evTale (symAll s_gnomonlaw03_TokenCovers_r16 [113, 114, 115, 116, 117, 118, 119, 120, 121, 122, 123, 124, 125, 126, 127, 128, 129] [130]) [113, 114, 115, 116, 117, 118, 119, 120, 121, 122, 123, 124, 125, 126, 127, 128, 129] fr H = evTale (some (131, [], [(130, (.pick (.pick (.op (.bin .lss (.t 0) (.c (.s (.int .i64 1)))) [(.op (.load false 1 (.t 0)) [(.op (.fieldAddr 0 (.t 0)) [(.op (.fieldAddr 3 (.t 0)) [(.t 12)])])]), (.c (.s (.int .i64 1)))]) (.c (.s (.bool true))) (.op (.bin .gtr (.t 0) (.t 1)) [(.op (.load false 1 (.t 0)) [(.op (.fieldAddr 0 (.t 0)) [(.op (.fieldAddr 3 (.t 0)) [(.t 12)])])]), (.op (.lenS .s (.t 0)) [(.t 6)])])) (.c (.s (.bool true))) (.op (.bin .lss (.t 0) (.c (.s (.int .i64 1)))) [(.op (.load false 1 (.t 0)) [(.op (.fieldAddr 1 (.t 0)) [(.op (.fieldAddr 3 (.t 0)) [(.t 12)])])]), (.c (.s (.int .i64 1)))])))])) [113, 114, 115, 116, 117, 118, 119, 120, 121, 122, 123, 124, 125, 126, 127, 128, 129] fr H := tale_row (items := [.sub 0 [0, 0, 0, 0, 0] [], .sub 0 [0, 0, 0, 0] [], .sub 0 [0, 0, 0] [], .sub 0 [0, 0] [], .sub 0 [0, 0] [], .sub 0 [0, 2, 0, 0, 0] [117], .sub 0 [0, 2, 0, 0] [117], .sub 0 [0, 2, 0] [117], .sub 0 [0, 2, 1, 0] [117], .sub 0 [0, 2, 1] [117], .sub 0 [0, 2] [117], .sub 0 [0] [], .sub 0 [0] [], .sub 0 [2, 0, 0, 0] [125], .sub 0 [2, 0, 0] [125], .sub 0 [2, 0] [125], .sub 0 [2] [125], .sub 0 [] []]) (by kernel_rfl) fr H
def s_gnomonlaw03_TokenCovers_r17 : List AOper := [
  ⟨some 2, (.move (.c (.s (.bool false)))), none⟩]
theorem s_gnomonlaw03_TokenCovers_r17_tale (fr : List V) (H : Heap) : evTale (symAll s_gnomonlaw03_TokenCovers_r17 [0, 3, 6, 10, 11, 12, 130] [2]) [0, 3, 6, 10, 11, 12, 130] fr H = evTale (some (3, [], [(2, (.c (.s (.bool false))))])) [0, 3, 6, 10, 11, 12, 130] fr H := tale_row (items := [.cc (.s (.bool false))]) (by kernel_rfl) fr H
def s_gnomonlaw03_TokenCovers_r18 : List AOper := [
  ⟨some 131, (.move (.t 6)), none⟩,
  ⟨some 132, (.fieldAddr 3 (.t 12)), none⟩,
  ⟨some 133, (.fieldAddr 0 (.t 132)), none⟩,
  ⟨some 134, (.load false 1 (.t 133)), none⟩,
  ⟨some 135, (.bin .sub (.t 134) (.c (.s (.int .i64 1)))), none⟩,
  ⟨some 136, (.indexAddr 1 (.t 131) (.t 135)), none⟩,
  ⟨some 137, (.load false 1 (.t 136)), none⟩,
  ⟨some 138, (.fieldAddr 3 (.t 12)), none⟩,
  ⟨some 139, (.fieldAddr 1 (.t 138)), none⟩,
  ⟨some 140, (.load false 1 (.t 139)), none⟩,
  ⟨some 141, (.bin .add (.t 137) (.t 140)), none⟩,
  ⟨some 142, (.bin .sub (.t 141) (.c (.s (.int .i64 1)))), none⟩,
  ⟨some 13, (.move (.t 142)), none⟩]
theorem s_gnomonlaw03_TokenCovers_r18_tale (fr : List V) (H : Heap) : evTale (symAll s_gnomonlaw03_TokenCovers_r18 [130, 131, 132, 133, 134, 135, 136, 137, 138, 139, 140, 141, 142] [13]) [130, 131, 132, 133, 134, 135, 136, 137, 138, 139, 140, 141, 142] fr H = evTale (some (143, [], [(13, (.op (.bin .sub (.t 0) (.c (.s (.int .i64 1)))) [(.op (.bin .add (.t 0) (.t 1)) [(.op (.load false 1 (.t 0)) [(.op (.indexAddr 1 (.t 0) (.t 1)) [(.t 6), (.op (.bin .sub (.t 0) (.c (.s (.int .i64 1)))) [(.op (.load false 1 (.t 0)) [(.op (.fieldAddr 0 (.t 0)) [(.op (.fieldAddr 3 (.t 0)) [(.t 12)])])]), (.c (.s (.int .i64 1)))])])]), (.op (.load false 1 (.t 0)) [(.op (.fieldAddr 1 (.t 0)) [(.op (.fieldAddr 3 (.t 0)) [(.t 12)])])])]), (.c (.s (.int .i64 1)))]))])) [130, 131, 132, 133, 134, 135, 136, 137, 138, 139, 140, 141, 142] fr H := tale_row (items := [.tt 6, .sub 0 [0, 0, 0, 1, 0, 0, 0] [], .sub 0 [0, 0, 0, 1, 0, 0] [], .sub 0 [0, 0, 0, 1, 0] [], .sub 0 [0, 0, 0, 1] [], .sub 0 [0, 0, 0] [], .sub 0 [0, 0] [], .sub 0 [0, 0, 0, 1, 0, 0, 0] [], .sub 0 [0, 1, 0] [], .sub 0 [0, 1] [], .sub 0 [0] [], .sub 0 [] [], .sub 0 [] []]) (by kernel_rfl) fr H
def s_gnomonlaw03_TokenCovers_r19 : List AOper := [
  ⟨some 143, (.move (.t 13)), none⟩,
  ⟨some 144, (.move (.t 10)), none⟩,
  ⟨some 145, (.bin .lss (.t 143) (.t 144)), none⟩,
  ⟨some 146, (.move (.t 145)), none⟩,
  ⟨some 147, (.move (.t 13)), some (146, false)⟩,
  ⟨some 148, (.fieldAddr 1 (.t 12)), some (146, false)⟩,
  ⟨some 149, (.load false 1 (.t 148)), some (146, false)⟩,
  ⟨some 150, (.lenS .p (.t 149)), some (146, false)⟩,
  ⟨some 151, (.bin .add (.t 147) (.t 150)), some (146, false)⟩,
  ⟨some 152, (.move (.t 0)), some (146, false)⟩,
  ⟨some 153, (.lenS .p (.t 152)), some (146, false)⟩,
  ⟨some 154, (.bin .gtr (.t 151) (.t 153)), some (146, false)⟩,
  ⟨some 155, (.pick (.t 146) (.c (.s (.bool true))) (.t 154)), none⟩,
  ⟨some 156, (.move (.t 155)), none⟩,
  ⟨some 157, (.move (.t 0)), some (156, false)⟩,
  ⟨some 158, (.move (.t 13)), some (156, false)⟩,
  ⟨some 159, (.move (.t 13)), some (156, false)⟩,
  ⟨some 160, (.fieldAddr 1 (.t 12)), some (156, false)⟩,
  ⟨some 161, (.load false 1 (.t 160)), some (156, false)⟩,
  ⟨some 162, (.lenS .p (.t 161)), some (156, false)⟩,
  ⟨some 163, (.bin .add (.t 159) (.t 162)), some (156, false)⟩,
  ⟨some 164, (.subStr (.t 157) (some (.t 158)) (some (.t 163))), some (156, false)⟩,
  ⟨some 165, (.fieldAddr 1 (.t 12)), some (156, false)⟩,
  ⟨some 166, (.load false 1 (.t 165)), some (156, false)⟩,
  ⟨some 167, (.bin .neq (.t 164) (.t 166)), some (156, false)⟩,
  ⟨some 168, (.pick (.t 156) (.c (.s (.bool true))) (.t 167)), none⟩,
  ⟨some 169, (.move (.t 168)), none⟩,
  ⟨some 170, (.fieldAddr 0 (.t 12)), some (169, false)⟩,
  ⟨some 171, (.load false 1 (.t 170)), some (169, false)⟩,
  ⟨some 172, (.bin .eql (.t 171) (.c (.s (.int .u8 4)))), some (169, false)⟩,
  ⟨some 173, (.move (.t 11)), some (169, false)⟩,
  ⟨some 174, (.move (.t 3)), some (169, false)⟩,
  ⟨some 175, (.lenS .s (.t 174)), some (169, false)⟩,
  ⟨some 176, (.bin .sub (.t 175) (.c (.s (.int .i64 1)))), some (169, false)⟩,
  ⟨some 177, (.bin .eql (.t 173) (.t 176)), some (169, false)⟩,
  ⟨some 178, (.eqB true (.t 172) (.t 177)), some (169, false)⟩,
  ⟨some 179, (.pick (.t 169) (.c (.s (.bool true))) (.t 178)), none⟩,
  ⟨some 180, (.move (.t 179)), none⟩,
  ⟨some 181, (.fieldAddr 1 (.t 12)), some (180, false)⟩,
  ⟨some 182, (.load false 1 (.t 181)), some (180, false)⟩,
  ⟨some 183, (.lenS .p (.t 182)), some (180, false)⟩,
  ⟨some 184, (.bin .eql (.t 183) (.c (.s (.int .i64 0)))), some (180, false)⟩,
  ⟨some 185, (.move (.t 11)), some (180, false)⟩,
  ⟨some 186, (.move (.t 3)), some (180, false)⟩,
  ⟨some 187, (.lenS .s (.t 186)), some (180, false)⟩,
  ⟨some 188, (.bin .sub (.t 187) (.c (.s (.int .i64 1)))), some (180, false)⟩,
  ⟨some 189, (.bin .eql (.t 185) (.t 188)), some (180, false)⟩,
  ⟨some 190, (.eqB true (.t 184) (.t 189)), some (180, false)⟩,
  ⟨some 191, (.pick (.t 180) (.c (.s (.bool true))) (.t 190)), none⟩]
theorem s_gnomonlaw03_TokenCovers_r19_tale (fr : List V) (H : Heap) : evTale (symAll s_gnomonlaw03_TokenCovers_r19 [143, 144, 145, 146, 147, 148, 149, 150, 151, 152, 153, 154, 155, 156, 157, 158, 159, 160, 161, 162, 163, 164, 165, 166, 167, 168, 169, 170, 171, 172, 173, 174, 175, 176, 177, 178, 179, 180, 181, 182, 183, 184, 185, 186, 187, 188, 189, 190] [191]) [143, 144, 145, 146, 147, 148, 149, 150, 151, 152, 153, 154, 155, 156, 157, 158, 159, 160, 161, 162, 163, 164, 165, 166, 167, 168, 169, 170, 171, 172, 173, 174, 175, 176, 177, 178, 179, 180, 181, 182, 183, 184, 185, 186, 187, 188, 189, 190] fr H = evTale (some (192, [], [(191, (.pick (.pick (.pick (.pick (.op (.bin .lss (.t 0) (.t 1)) [(.t 13), (.t 10)]) (.c (.s (.bool true))) (.op (.bin .gtr (.t 0) (.t 1)) [(.op (.bin .add (.t 0) (.t 1)) [(.t 13), (.op (.lenS .p (.t 0)) [(.op (.load false 1 (.t 0)) [(.op (.fieldAddr 1 (.t 0)) [(.t 12)])])])]), (.op (.lenS .p (.t 0)) [(.t 0)])])) (.c (.s (.bool true))) (.op (.bin .neq (.t 0) (.t 1)) [(.op (.subStr (.t 0) (some (.t 1)) (some (.t 2))) [(.t 0), (.t 13), (.op (.bin .add (.t 0) (.t 1)) [(.t 13), (.op (.lenS .p (.t 0)) [(.op (.load false 1 (.t 0)) [(.op (.fieldAddr 1 (.t 0)) [(.t 12)])])])])]), (.op (.load false 1 (.t 0)) [(.op (.fieldAddr 1 (.t 0)) [(.t 12)])])])) (.c (.s (.bool true))) (.op (.eqB true (.t 0) (.t 1)) [(.op (.bin .eql (.t 0) (.c (.s (.int .u8 4)))) [(.op (.load false 1 (.t 0)) [(.op (.fieldAddr 0 (.t 0)) [(.t 12)])]), (.c (.s (.int .u8 4)))]), (.op (.bin .eql (.t 0) (.t 1)) [(.t 11), (.op (.bin .sub (.t 0) (.c (.s (.int .i64 1)))) [(.op (.lenS .s (.t 0)) [(.t 3)]), (.c (.s (.int .i64 1)))])])])) (.c (.s (.bool true))) (.op (.eqB true (.t 0) (.t 1)) [(.op (.bin .eql (.t 0) (.c (.s (.int .i64 0)))) [(.op (.lenS .p (.t 0)) [(.op (.load false 1 (.t 0)) [(.op (.fieldAddr 1 (.t 0)) [(.t 12)])])]), (.c (.s (.int .i64 0)))]), (.op (.bin .eql (.t 0) (.t 1)) [(.t 11), (.op (.bin .sub (.t 0) (.c (.s (.int .i64 1)))) [(.op (.lenS .s (.t 0)) [(.t 3)]), (.c (.s (.int .i64 1)))])])])))])) [143, 144, 145, 146, 147, 148, 149, 150, 151, 152, 153, 154, 155, 156, 157, 158, 159, 160, 161, 162, 163, 164, 165, 166, 167, 168, 169, 170, 171, 172, 173, 174, 175, 176, 177, 178, 179, 180, 181, 182, 183, 184, 185, 186, 187, 188, 189, 190] fr H := tale_row (items := [.tt 13, .tt 10, .sub 0 [0, 0, 0, 0] [], .sub 0 [0, 0, 0, 0] [], .sub 0 [0, 0, 0, 2, 0, 0] [146], .sub 0 [0, 0, 0, 2, 0, 1, 0, 0] [146], .sub 0 [0, 0, 0, 2, 0, 1, 0] [146], .sub 0 [0, 0, 0, 2, 0, 1] [146], .sub 0 [0, 0, 0, 2, 0] [146], .sub 0 [0, 0, 0, 2, 1, 0] [146], .sub 0 [0, 0, 0, 2, 1] [146], .sub 0 [0, 0, 0, 2] [146], .sub 0 [0, 0, 0] [], .sub 0 [0, 0, 0] [], .sub 0 [0, 0, 2, 0, 0] [156], .sub 0 [0, 0, 2, 0, 1] [156], .sub 0 [0, 0, 2, 0, 1] [156], .sub 0 [0, 0, 2, 0, 2, 1, 0, 0] [156], .sub 0 [0, 0, 2, 0, 2, 1, 0] [156], .sub 0 [0, 0, 2, 0, 2, 1] [156], .sub 0 [0, 0, 2, 0, 2] [156], .sub 0 [0, 0, 2, 0] [156], .sub 0 [0, 0, 2, 0, 2, 1, 0, 0] [156], .sub 0 [0, 0, 2, 0, 2, 1, 0] [156], .sub 0 [0, 0, 2] [156], .sub 0 [0, 0] [], .sub 0 [0, 0] [], .sub 0 [0, 2, 0, 0, 0] [169], .sub 0 [0, 2, 0, 0] [169], .sub 0 [0, 2, 0] [169], .sub 0 [0, 2, 1, 0] [169], .sub 0 [0, 2, 1, 1, 0, 0] [169], .sub 0 [0, 2, 1, 1, 0] [169], .sub 0 [0, 2, 1, 1] [169], .sub 0 [0, 2, 1] [169], .sub 0 [0, 2] [169], .sub 0 [0] [], .sub 0 [0] [], .sub 0 [2, 0, 0, 0, 0] [180], .sub 0 [2, 0, 0, 0] [180], .sub 0 [2, 0, 0] [180], .sub 0 [2, 0] [180], .sub 0 [2, 1, 0] [180], .sub 0 [2, 1, 1, 0, 0] [180], .sub 0 [2, 1, 1, 0] [180], .sub 0 [2, 1, 1] [180], .sub 0 [2, 1] [180], .sub 0 [2] [180], .sub 0 [] []]) (by kernel_rfl) fr H
def s_gnomonlaw03_TokenCovers_r20 : List AOper := [
  ⟨some 2, (.move (.c (.s (.bool false)))), none⟩]
theorem s_gnomonlaw03_TokenCovers_r20_tale (fr : List V) (H : Heap) : evTale (symAll s_gnomonlaw03_TokenCovers_r20 [0, 3, 6, 10, 11, 12, 13, 191] [2]) [0, 3, 6, 10, 11, 12, 13, 191] fr H = evTale (some (3, [], [(2, (.c (.s (.bool false))))])) [0, 3, 6, 10, 11, 12, 13, 191] fr H := tale_row (items := [.cc (.s (.bool false))]) (by kernel_rfl) fr H
def s_gnomonlaw03_TokenCovers_r21 : List AOper := [
  ⟨some 14, (.move (.c (.s (.bool false)))), none⟩]
theorem s_gnomonlaw03_TokenCovers_r21_tale (fr : List V) (H : Heap) : evTale (symAll s_gnomonlaw03_TokenCovers_r21 [191] [14]) [191] fr H = evTale (some (15, [], [(14, (.c (.s (.bool false))))])) [191] fr H := tale_row (items := [.cc (.s (.bool false))]) (by kernel_rfl) fr H
def s_gnomonlaw03_TokenCovers_r22 : List AOper := [
  ⟨some 192, (.move (.t 10)), none⟩,
  ⟨some 15, (.move (.t 192)), none⟩]
theorem s_gnomonlaw03_TokenCovers_r22_tale (fr : List V) (H : Heap) : evTale (symAll s_gnomonlaw03_TokenCovers_r22 [10, 192] [15]) [10, 192] fr H = evTale (some (193, [], [(15, (.t 10))])) [10, 192] fr H := tale_row (items := [.tt 10, .tt 10]) (by kernel_rfl) fr H
def s_gnomonlaw03_TokenCovers_r23 : List AOper := [
  ⟨some 193, (.move (.t 15)), none⟩,
  ⟨some 194, (.move (.t 13)), none⟩,
  ⟨some 195, (.bin .lss (.t 193) (.t 194)), none⟩]
theorem s_gnomonlaw03_TokenCovers_r23_tale (fr : List V) (H : Heap) : evTale (symAll s_gnomonlaw03_TokenCovers_r23 [193, 194] [195]) [193, 194] fr H = evTale (some (196, [], [(195, (.op (.bin .lss (.t 0) (.t 1)) [(.t 15), (.t 13)]))])) [193, 194] fr H := tale_row (items := [.tt 15, .tt 13, .sub 0 [] []]) (by kernel_rfl) fr H
def s_gnomonlaw03_TokenCovers_r24 : List AOper := [
  ⟨some 198, (.move (.t 0)), none⟩,
  ⟨some 199, (.move (.t 15)), none⟩,
  ⟨some 200, (.indexStr (.t 198) (.t 199)), none⟩,
  ⟨some 16, (.move (.t 200)), none⟩]
theorem s_gnomonlaw03_TokenCovers_r24_tale (fr : List V) (H : Heap) : evTale (symAll s_gnomonlaw03_TokenCovers_r24 [195, 198, 199, 200] [16]) [195, 198, 199, 200] fr H = evTale (some (201, [], [(16, (.op (.indexStr (.t 0) (.t 1)) [(.t 0), (.t 15)]))])) [195, 198, 199, 200] fr H := tale_row (items := [.tt 0, .tt 15, .sub 0 [] [], .sub 0 [] []]) (by kernel_rfl) fr H
def s_gnomonlaw03_TokenCovers_r25 : List AOper := [
  ⟨some 201, (.move (.t 16)), none⟩,
  ⟨some 202, (.bin .eql (.t 201) (.c (.s (.int .u8 59)))), none⟩]
theorem s_gnomonlaw03_TokenCovers_r25_tale (fr : List V) (H : Heap) : evTale (symAll s_gnomonlaw03_TokenCovers_r25 [201] [202]) [201] fr H = evTale (some (203, [], [(202, (.op (.bin .eql (.t 0) (.c (.s (.int .u8 59)))) [(.t 16), (.c (.s (.int .u8 59)))]))])) [201] fr H := tale_row (items := [.tt 16, .sub 0 [] []]) (by kernel_rfl) fr H
def s_gnomonlaw03_TokenCovers_r26 : List AOper := [
  ⟨some 14, (.move (.c (.s (.bool true)))), none⟩]
theorem s_gnomonlaw03_TokenCovers_r26_tale (fr : List V) (H : Heap) : evTale (symAll s_gnomonlaw03_TokenCovers_r26 [202] [14]) [202] fr H = evTale (some (15, [], [(14, (.c (.s (.bool true))))])) [202] fr H := tale_row (items := [.cc (.s (.bool true))]) (by kernel_rfl) fr H
def s_gnomonlaw03_TokenCovers_r27 : List AOper := [
  ⟨some 203, (.move (.t 16)), none⟩,
  ⟨some 204, (.bin .eql (.t 203) (.c (.s (.int .u8 10)))), none⟩]
theorem s_gnomonlaw03_TokenCovers_r27_tale (fr : List V) (H : Heap) : evTale (symAll s_gnomonlaw03_TokenCovers_r27 [202, 203] [204]) [202, 203] fr H = evTale (some (205, [], [(204, (.op (.bin .eql (.t 0) (.c (.s (.int .u8 10)))) [(.t 16), (.c (.s (.int .u8 10)))]))])) [202, 203] fr H := tale_row (items := [.tt 16, .sub 0 [] []]) (by kernel_rfl) fr H
def s_gnomonlaw03_TokenCovers_r28 : List AOper := [
  ⟨some 14, (.move (.c (.s (.bool false)))), none⟩]
theorem s_gnomonlaw03_TokenCovers_r28_tale (fr : List V) (H : Heap) : evTale (symAll s_gnomonlaw03_TokenCovers_r28 [204] [14]) [204] fr H = evTale (some (15, [], [(14, (.c (.s (.bool false))))])) [204] fr H := tale_row (items := [.cc (.s (.bool false))]) (by kernel_rfl) fr H
def s_gnomonlaw03_TokenCovers_r29 : List AOper := [
  ⟨some 205, (.move (.t 14)), none⟩,
  ⟨some 206, (.un .not (.t 205)), none⟩,
  ⟨some 207, (.move (.t 206)), none⟩,
  ⟨some 208, (.move (.t 16)), some (207, true)⟩,
  ⟨some 209, (.bin .neq (.t 208) (.c (.s (.int .u8 32)))), some (207, true)⟩,
  ⟨some 210, (.pick (.t 207) (.t 209) (.c (.s (.bool false)))), none⟩,
  ⟨some 211, (.move (.t 210)), none⟩,
  ⟨some 212, (.move (.t 16)), some (211, true)⟩,
  ⟨some 213, (.bin .neq (.t 212) (.c (.s (.int .u8 9)))), some (211, true)⟩,
  ⟨some 214, (.pick (.t 211) (.t 213) (.c (.s (.bool false)))), none⟩,
  ⟨some 215, (.move (.t 214)), none⟩,
  ⟨some 216, (.move (.t 16)), some (215, true)⟩,
  ⟨some 217, (.bin .neq (.t 216) (.c (.s (.int .u8 13)))), some (215, true)⟩,
  ⟨some 218, (.pick (.t 215) (.t 217) (.c (.s (.bool false)))), none⟩,
  ⟨some 219, (.move (.t 218)), none⟩,
  ⟨some 220, (.move (.t 16)), some (219, true)⟩,
  ⟨some 221, (.bin .neq (.t 220) (.c (.s (.int .u8 10)))), some (219, true)⟩,
  ⟨some 222, (.pick (.t 219) (.t 221) (.c (.s (.bool false)))), none⟩]
theorem s_gnomonlaw03_TokenCovers_r29_tale (fr : List V) (H : Heap) : evTale (symAll s_gnomonlaw03_TokenCovers_r29 [16, 204, 205, 206, 207, 208, 209, 210, 211, 212, 213, 214, 215, 216, 217, 218, 219, 220, 221] [222]) [16, 204, 205, 206, 207, 208, 209, 210, 211, 212, 213, 214, 215, 216, 217, 218, 219, 220, 221] fr H = evTale (some (223, [], [(222, (.pick (.pick (.pick (.pick (.op (.un .not (.t 0)) [(.t 14)]) (.op (.bin .neq (.t 0) (.c (.s (.int .u8 32)))) [(.t 16), (.c (.s (.int .u8 32)))]) (.c (.s (.bool false)))) (.op (.bin .neq (.t 0) (.c (.s (.int .u8 9)))) [(.t 16), (.c (.s (.int .u8 9)))]) (.c (.s (.bool false)))) (.op (.bin .neq (.t 0) (.c (.s (.int .u8 13)))) [(.t 16), (.c (.s (.int .u8 13)))]) (.c (.s (.bool false)))) (.op (.bin .neq (.t 0) (.c (.s (.int .u8 10)))) [(.t 16), (.c (.s (.int .u8 10)))]) (.c (.s (.bool false)))))])) [16, 204, 205, 206, 207, 208, 209, 210, 211, 212, 213, 214, 215, 216, 217, 218, 219, 220, 221] fr H := tale_row (items := [.tt 14, .sub 0 [0, 0, 0, 0] [], .sub 0 [0, 0, 0, 0] [], .sub 0 [0, 0, 0, 1, 0] [207], .sub 0 [0, 0, 0, 1] [207], .sub 0 [0, 0, 0] [], .sub 0 [0, 0, 0] [], .sub 0 [0, 0, 1, 0] [211], .sub 0 [0, 0, 1] [211], .sub 0 [0, 0] [], .sub 0 [0, 0] [], .sub 0 [0, 1, 0] [215], .sub 0 [0, 1] [215], .sub 0 [0] [], .sub 0 [0] [], .sub 0 [1, 0] [219], .sub 0 [1] [219], .sub 0 [] []]) (by kernel_rfl) fr H
def s_gnomonlaw03_TokenCovers_r30 : List AOper := [
  ⟨some 2, (.move (.c (.s (.bool false)))), none⟩]
theorem s_gnomonlaw03_TokenCovers_r30_tale (fr : List V) (H : Heap) : evTale (symAll s_gnomonlaw03_TokenCovers_r30 [0, 3, 6, 11, 12, 13, 14, 15, 222] [2]) [0, 3, 6, 11, 12, 13, 14, 15, 222] fr H = evTale (some (3, [], [(2, (.c (.s (.bool false))))])) [0, 3, 6, 11, 12, 13, 14, 15, 222] fr H := tale_row (items := [.cc (.s (.bool false))]) (by kernel_rfl) fr H
def s_gnomonlaw03_TokenCovers_r31 : List AOper := [
  ⟨some 196, (.move (.t 15)), none⟩,
  ⟨some 197, (.bin .add (.t 196) (.c (.s (.int .i64 1)))), none⟩,
  ⟨some 15, (.move (.t 197)), none⟩]
theorem s_gnomonlaw03_TokenCovers_r31_tale (fr : List V) (H : Heap) : evTale (symAll s_gnomonlaw03_TokenCovers_r31 [196, 197, 222] [15]) [196, 197, 222] fr H = evTale (some (198, [], [(15, (.op (.bin .add (.t 0) (.c (.s (.int .i64 1)))) [(.t 15), (.c (.s (.int .i64 1)))]))])) [196, 197, 222] fr H := tale_row (items := [.tt 15, .sub 0 [] [], .sub 0 [] []]) (by kernel_rfl) fr H
def s_gnomonlaw03_TokenCovers_l0_b : ACode :=
  (.seq (.seq (.regionE s_gnomonlaw03_TokenCovers_r23 [193, 194] [195])
  (.cond (.t 195)
  .skip
  (.exit 2)))
  (.seq (.block 3
  (.seq (.regionE s_gnomonlaw03_TokenCovers_r24 [195, 198, 199, 200] [16])
  (.seq (.seq (.regionE s_gnomonlaw03_TokenCovers_r25 [201] [202])
  (.cond (.t 202)
  (.regionE s_gnomonlaw03_TokenCovers_r26 [202] [14])
  .skip))
  (.seq (.seq (.regionE s_gnomonlaw03_TokenCovers_r27 [202, 203] [204])
  (.cond (.t 204)
  (.regionE s_gnomonlaw03_TokenCovers_r28 [204] [14])
  .skip))
  (.seq (.regionE s_gnomonlaw03_TokenCovers_r29 [16, 204, 205, 206, 207, 208, 209, 210, 211, 212, 213, 214, 215, 216, 217, 218, 219, 220, 221] [222])
  (.cond (.t 222)
  (.seq (.regionE s_gnomonlaw03_TokenCovers_r30 [0, 3, 6, 11, 12, 13, 14, 15, 222] [2])
  .ret)
  .skip))))))
  (.regionE s_gnomonlaw03_TokenCovers_r31 [196, 197, 222] [15])))
def s_gnomonlaw03_TokenCovers_l0 : ACode := s_gnomonlaw03_TokenCovers_l0_b
theorem s_gnomonlaw03_TokenCovers_l0_ev (call : CallF) (it : IterF) (base : Nat) (fr : List V) (H : Heap) : evC call it base s_gnomonlaw03_TokenCovers_l0 fr H = evC call it base s_gnomonlaw03_TokenCovers_l0_b fr H := rfl
def s_gnomonlaw03_TokenCovers_r32 : List AOper := [
  ⟨some 223, (.move (.t 13)), none⟩,
  ⟨some 224, (.fieldAddr 1 (.t 12)), none⟩,
  ⟨some 225, (.load false 1 (.t 224)), none⟩,
  ⟨some 226, (.lenS .p (.t 225)), none⟩,
  ⟨some 227, (.bin .add (.t 223) (.t 226)), none⟩,
  ⟨some 10, (.move (.t 227)), none⟩]
theorem s_gnomonlaw03_TokenCovers_r32_tale (fr : List V) (H : Heap) : evTale (symAll s_gnomonlaw03_TokenCovers_r32 [12, 13, 14, 15, 195, 223, 224, 225, 226, 227] [10]) [12, 13, 14, 15, 195, 223, 224, 225, 226, 227] fr H = evTale (some (228, [], [(10, (.op (.bin .add (.t 0) (.t 1)) [(.t 13), (.op (.lenS .p (.t 0)) [(.op (.load false 1 (.t 0)) [(.op (.fieldAddr 1 (.t 0)) [(.t 12)])])])]))])) [12, 13, 14, 15, 195, 223, 224, 225, 226, 227] fr H := tale_row (items := [.tt 13, .sub 0 [1, 0, 0] [], .sub 0 [1, 0] [], .sub 0 [1] [], .sub 0 [] [], .sub 0 [] []]) (by kernel_rfl) fr H
def s_gnomonlaw03_TokenCovers_r33 : List AOper := [
  ⟨some 107, (.move (.t 11)), none⟩,
  ⟨some 108, (.bin .add (.t 107) (.c (.s (.int .i64 1)))), none⟩,
  ⟨some 11, (.move (.t 108)), none⟩]
theorem s_gnomonlaw03_TokenCovers_r33_tale (fr : List V) (H : Heap) : evTale (symAll s_gnomonlaw03_TokenCovers_r33 [107, 108] [11]) [107, 108] fr H = evTale (some (109, [], [(11, (.op (.bin .add (.t 0) (.c (.s (.int .i64 1)))) [(.t 11), (.c (.s (.int .i64 1)))]))])) [107, 108] fr H := tale_row (items := [.tt 11, .sub 0 [] [], .sub 0 [] []]) (by kernel_rfl) fr H
def s_gnomonlaw03_TokenCovers_l1_b : ACode :=
  (.seq (.seq (.regionE s_gnomonlaw03_TokenCovers_r14 [103, 104, 105] [106])
  (.cond (.t 106)
  .skip
  (.exit 0)))
  (.seq (.block 1
  (.seq (.region s_gnomonlaw03_TokenCovers_r15 [] [106, 109, 110, 111, 112])
  (.seq (.seq (.regionE s_gnomonlaw03_TokenCovers_r16 [113, 114, 115, 116, 117, 118, 119, 120, 121, 122, 123, 124, 125, 126, 127, 128, 129] [130])
  (.cond (.t 130)
  (.seq (.regionE s_gnomonlaw03_TokenCovers_r17 [0, 3, 6, 10, 11, 12, 130] [2])
  .ret)
  .skip))
  (.seq (.regionE s_gnomonlaw03_TokenCovers_r18 [130, 131, 132, 133, 134, 135, 136, 137, 138, 139, 140, 141, 142] [13])
  (.seq (.seq (.regionE s_gnomonlaw03_TokenCovers_r19 [143, 144, 145, 146, 147, 148, 149, 150, 151, 152, 153, 154, 155, 156, 157, 158, 159, 160, 161, 162, 163, 164, 165, 166, 167, 168, 169, 170, 171, 172, 173, 174, 175, 176, 177, 178, 179, 180, 181, 182, 183, 184, 185, 186, 187, 188, 189, 190] [191])
  (.cond (.t 191)
  (.seq (.regionE s_gnomonlaw03_TokenCovers_r20 [0, 3, 6, 10, 11, 12, 13, 191] [2])
  .ret)
  .skip))
  (.seq (.regionE s_gnomonlaw03_TokenCovers_r21 [191] [14])
  (.seq (.seq (.regionE s_gnomonlaw03_TokenCovers_r22 [10, 192] [15])
  (.block 2
  (.loop [] s_gnomonlaw03_TokenCovers_l0)))
  (.regionE s_gnomonlaw03_TokenCovers_r32 [12, 13, 14, 15, 195, 223, 224, 225, 226, 227] [10]))))))))
  (.regionE s_gnomonlaw03_TokenCovers_r33 [107, 108] [11])))
def s_gnomonlaw03_TokenCovers_l1 : ACode := s_gnomonlaw03_TokenCovers_l1_b
theorem s_gnomonlaw03_TokenCovers_l1_ev (call : CallF) (it : IterF) (base : Nat) (fr : List V) (H : Heap) : evC call it base s_gnomonlaw03_TokenCovers_l1 fr H = evC call it base s_gnomonlaw03_TokenCovers_l1_b fr H := rfl
def s_gnomonlaw03_TokenCovers_r34t2 : List AOper := [⟨some 234, (.pick (.t 232) (.t 233) (.c (.s (.bool false)))), none⟩, ⟨some 2, (.move (.t 234)), none⟩]
def s_gnomonlaw03_TokenCovers_r34p1 : List AOper := [⟨some 233, (.call (.c (.fn 11 [] [])) []), some (232, true)⟩]
def s_gnomonlaw03_TokenCovers_r34t1 : List AOper := s_gnomonlaw03_TokenCovers_r34p1 ++ s_gnomonlaw03_TokenCovers_r34t2
def s_gnomonlaw03_TokenCovers_r34p0 : List AOper := [⟨some 228, (.move (.t 10)), none⟩, ⟨some 229, (.move (.t 0)), none⟩, ⟨some 230, (.lenS .p (.t 229)), none⟩, ⟨some 231, (.bin .eql (.t 228) (.t 230)), none⟩, ⟨some 232, (.move (.t 231)), none⟩]
def s_gnomonlaw03_TokenCovers_r34 : List AOper := s_gnomonlaw03_TokenCovers_r34p0 ++ s_gnomonlaw03_TokenCovers_r34t1
theorem s_gnomonlaw03_TokenCovers_r34p0_tale (fr : List V) (H : Heap) : evTale (symAll s_gnomonlaw03_TokenCovers_r34p0 [0, 3, 6, 10, 11, 106, 228, 229, 230, 231] [232]) [0, 3, 6, 10, 11, 106, 228, 229, 230, 231] fr H = evTale (some (233, [], [(232, (.op (.bin .eql (.t 0) (.t 1)) [(.t 10), (.op (.lenS .p (.t 0)) [(.t 0)])]))])) [0, 3, 6, 10, 11, 106, 228, 229, 230, 231] fr H := tale_row (items := [.tt 10, .tt 0, .sub 0 [1] [], .sub 0 [] [], .sub 0 [] []]) (by kernel_rfl) fr H
theorem s_gnomonlaw03_TokenCovers_r34_x (call : CallF) (it : IterF) (base : Nat) (f : List V) (H : Heap) : evC call it base (.region s_gnomonlaw03_TokenCovers_r34 [] [0, 3, 6, 10, 11, 106, 228, 229, 230, 231, 232, 233, 234]) f H = segC call it base s_gnomonlaw03_TokenCovers_r34t1 [0, 3, 6, 10, 11, 106, 228, 229, 230, 231, 232, 233, 234] H (evTale (symAll s_gnomonlaw03_TokenCovers_r34p0 [0, 3, 6, 10, 11, 106, 228, 229, 230, 231] [232]) [0, 3, 6, 10, 11, 106, 228, 229, 230, 231] f H) (origRow call it base s_gnomonlaw03_TokenCovers_r34 [0, 3, 6, 10, 11, 106, 228, 229, 230, 231, 232, 233, 234] f H) := row_seg call it base s_gnomonlaw03_TokenCovers_r34p0 s_gnomonlaw03_TokenCovers_r34t1 (by kernel_rfl) f H
theorem s_gnomonlaw03_TokenCovers_r34t1_x (call : CallF) (it : IterF) (base : Nat) (f : List V) (H : Heap) : evC call it base (.region s_gnomonlaw03_TokenCovers_r34t1 [] [0, 3, 6, 10, 11, 106, 228, 229, 230, 231, 232, 233, 234]) f H = thenC call it base (.region s_gnomonlaw03_TokenCovers_r34t2 [] [0, 3, 6, 10, 11, 106, 228, 229, 230, 231, 232, 233, 234]) (opsC [] s_gnomonlaw03_TokenCovers_r34p1 [] (evOps call base [⟨some 233, (.call (.c (.fn 11 [] [])) []), some (232, true)⟩] f H)) := (row_op call it base s_gnomonlaw03_TokenCovers_r34p1 s_gnomonlaw03_TokenCovers_r34t2 (kc := []) (by kernel_rfl) f H).trans (by rw [row_ops]; rfl)
theorem s_gnomonlaw03_TokenCovers_r34t2_tale (fr : List V) (H : Heap) : evTale (symAll s_gnomonlaw03_TokenCovers_r34t2 [0, 3, 6, 10, 11, 106, 228, 229, 230, 231, 232, 233, 234] [2]) [0, 3, 6, 10, 11, 106, 228, 229, 230, 231, 232, 233, 234] fr H = evTale (some (235, [], [(2, (.pick (.t 232) (.t 233) (.c (.s (.bool false)))))])) [0, 3, 6, 10, 11, 106, 228, 229, 230, 231, 232, 233, 234] fr H := tale_row (items := [.sub 0 [] [], .sub 0 [] []]) (by kernel_rfl) fr H
theorem s_gnomonlaw03_TokenCovers_r34t2_x (call : CallF) (it : IterF) (base : Nat) (f : List V) (H : Heap) : evC call it base (.region s_gnomonlaw03_TokenCovers_r34t2 [] [0, 3, 6, 10, 11, 106, 228, 229, 230, 231, 232, 233, 234]) f H = segL H (evTale (symAll s_gnomonlaw03_TokenCovers_r34t2 [0, 3, 6, 10, 11, 106, 228, 229, 230, 231, 232, 233, 234] [2]) [0, 3, 6, 10, 11, 106, 228, 229, 230, 231, 232, 233, 234] f H) (origRow call it base s_gnomonlaw03_TokenCovers_r34t2 [0, 3, 6, 10, 11, 106, 228, 229, 230, 231, 232, 233, 234] f H) := row_last call it base _ f H
def s_gnomonlaw03_TokenCovers : ACFun := { ntmps := 235, results := [(.tmp 2)], body :=
  (.seq (.regionE s_gnomonlaw03_TokenCovers_r0 s_gnomonlaw03_TokenCovers_r0_k [])
  (.seq (.seq (.regionE s_gnomonlaw03_TokenCovers_r1 [17, 18] [19])
  (.cond (.t 19)
  (.seq (.regionE s_gnomonlaw03_TokenCovers_r2 [0, 19] [2])
  .ret)
  .skip))
  (.seq (.region s_gnomonlaw03_TokenCovers_r3 [] [19, 20, 21, 22, 23, 24, 25])
  (.seq (.region s_gnomonlaw03_TokenCovers_r4 [] [26, 27])
  (.seq (.seq (.regionE s_gnomonlaw03_TokenCovers_r5 [28] [29])
  (.cond (.t 29)
  (.seq (.seq (.regionE s_gnomonlaw03_TokenCovers_r6 [3, 5, 29, 30, 31, 32, 33, 34, 35, 36, 37, 38, 39, 40, 41, 42, 43, 44, 45, 46, 47, 48, 49, 50, 51, 52, 53, 54, 55, 56, 57, 58, 59, 60, 61, 62, 63, 64, 65, 66, 67, 68, 69, 70, 71] [72])
  (.cond (.t 72)
  (.seq (.regionE s_gnomonlaw03_TokenCovers_r7 [0, 4, 6, 72] [2])
  .ret)
  .skip))
  (.seq (.region s_gnomonlaw03_TokenCovers_r8 [] [0, 4, 6, 7, 8, 72, 73, 74, 75, 76, 77, 78, 79, 80, 81, 82, 83, 84, 85, 86, 87, 88, 89])
  (.seq (.region s_gnomonlaw03_TokenCovers_r9 [] [9, 90, 91, 92, 93, 94])
  .ret)))
  .skip))
  (.seq (.seq (.regionE s_gnomonlaw03_TokenCovers_r10 [4, 5, 29, 95, 96, 97, 98, 99, 100, 101] [102])
  (.cond (.t 102)
  (.seq (.regionE s_gnomonlaw03_TokenCovers_r11 [0, 3, 6, 102] [2])
  .ret)
  .skip))
  (.seq (.regionE s_gnomonlaw03_TokenCovers_r12 [102] [10])
  (.seq (.seq (.regionE s_gnomonlaw03_TokenCovers_r13 [] [11])
  (.block 0
  (.loop [] s_gnomonlaw03_TokenCovers_l1)))
  (.seq (.region s_gnomonlaw03_TokenCovers_r34 [] [0, 3, 6, 10, 11, 106, 228, 229, 230, 231, 232, 233, 234])
  .ret))))))))) }
abbrev k_gnomonlaw03_lines : Nat := 12
def s_gnomonlaw03_lines_r0_k : List Nat := [1, 2, 3, 4, 5, 6, 7, 8, 9, 10, 11, 12, 13, 14, 15, 16, 17, 18, 19, 20, 21]
theorem s_gnomonlaw03_lines_r0_kT : killV s_gnomonlaw03_lines_r0_k (startV 22 [] 1) = [] := by kernel_rfl
theorem s_gnomonlaw03_lines_r0_kA0 : s_gnomonlaw03_lines_r0_k.contains 0 = false := by kernel_rfl
def s_gnomonlaw03_lines_r0 : List AOper := [
  ⟨some 2, (.move (.c (.s (.slice none 0 0)))), none⟩]
theorem s_gnomonlaw03_lines_r0_tale (fr : List V) (H : Heap) : evTale (symAll s_gnomonlaw03_lines_r0 s_gnomonlaw03_lines_r0_k []) s_gnomonlaw03_lines_r0_k fr H = evTale (some (3, [], [])) s_gnomonlaw03_lines_r0_k fr H := tale_row (items := [.cc (.s (.slice none 0 0))]) (by kernel_rfl) fr H
def s_gnomonlaw03_lines_r1t1 : List AOper := [⟨some 3, (.move (.t 5)), none⟩]
def s_gnomonlaw03_lines_r1p0 : List AOper := [⟨some 5, (.buildSl 1 1 [(.s (.int .i64 0))] [(0, (.c (.s (.int .i64 0))))]), none⟩]
def s_gnomonlaw03_lines_r1 : List AOper := s_gnomonlaw03_lines_r1p0 ++ s_gnomonlaw03_lines_r1t1
theorem s_gnomonlaw03_lines_r1_x (call : CallF) (it : IterF) (base : Nat) (f : List V) (H : Heap) : evC call it base (.region s_gnomonlaw03_lines_r1 [] [5]) f H = thenC call it base (.region s_gnomonlaw03_lines_r1t1 [] [5]) (opsC [] s_gnomonlaw03_lines_r1p0 [] (evOps call base [⟨some 5, (.buildSl 1 1 [(.s (.int .i64 0))] [(0, (.c (.s (.int .i64 0))))]), none⟩] f H)) := (row_op call it base s_gnomonlaw03_lines_r1p0 s_gnomonlaw03_lines_r1t1 (kc := []) (by kernel_rfl) f H).trans (by rw [row_ops]; rfl)
theorem s_gnomonlaw03_lines_r1t1_tale (fr : List V) (H : Heap) : evTale (symAll s_gnomonlaw03_lines_r1t1 [5] [3]) [5] fr H = evTale (some (4, [], [(3, (.t 5))])) [5] fr H := tale_row (items := [.tt 5]) (by kernel_rfl) fr H
theorem s_gnomonlaw03_lines_r1t1_x (call : CallF) (it : IterF) (base : Nat) (f : List V) (H : Heap) : evC call it base (.region s_gnomonlaw03_lines_r1t1 [] [5]) f H = segL H (evTale (symAll s_gnomonlaw03_lines_r1t1 [5] [3]) [5] f H) (origRow call it base s_gnomonlaw03_lines_r1t1 [5] f H) := row_last call it base _ f H
def s_gnomonlaw03_lines_r2 : List AOper := [
  ⟨some 4, (.move (.c (.s (.int .i64 0)))), none⟩]
theorem s_gnomonlaw03_lines_r2_tale (fr : List V) (H : Heap) : evTale (symAll s_gnomonlaw03_lines_r2 [] [4]) [] fr H = evTale (some (5, [], [(4, (.c (.s (.int .i64 0))))])) [] fr H := tale_row (items := [.cc (.s (.int .i64 0))]) (by kernel_rfl) fr H
def s_gnomonlaw03_lines_r3 : List AOper := [
  ⟨some 6, (.move (.t 4)), none⟩,
  ⟨some 7, (.move (.t 0)), none⟩,
  ⟨some 8, (.lenS .p (.t 7)), none⟩,
  ⟨some 9, (.bin .lss (.t 6) (.t 8)), none⟩]
theorem s_gnomonlaw03_lines_r3_tale (fr : List V) (H : Heap) : evTale (symAll s_gnomonlaw03_lines_r3 [6, 7, 8] [9]) [6, 7, 8] fr H = evTale (some (10, [], [(9, (.op (.bin .lss (.t 0) (.t 1)) [(.t 4), (.op (.lenS .p (.t 0)) [(.t 0)])]))])) [6, 7, 8] fr H := tale_row (items := [.tt 4, .tt 0, .sub 0 [1] [], .sub 0 [] []]) (by kernel_rfl) fr H
def s_gnomonlaw03_lines_r4 : List AOper := [
  ⟨some 12, (.move (.t 0)), none⟩,
  ⟨some 13, (.move (.t 4)), none⟩,
  ⟨some 14, (.indexStr (.t 12) (.t 13)), none⟩,
  ⟨some 15, (.bin .eql (.t 14) (.c (.s (.int .u8 10)))), none⟩]
theorem s_gnomonlaw03_lines_r4_tale (fr : List V) (H : Heap) : evTale (symAll s_gnomonlaw03_lines_r4 [9, 12, 13, 14] [15]) [9, 12, 13, 14] fr H = evTale (some (16, [], [(15, (.op (.bin .eql (.t 0) (.c (.s (.int .u8 10)))) [(.op (.indexStr (.t 0) (.t 1)) [(.t 0), (.t 4)]), (.c (.s (.int .u8 10)))]))])) [9, 12, 13, 14] fr H := tale_row (items := [.tt 0, .tt 4, .sub 0 [0] [], .sub 0 [] []]) (by kernel_rfl) fr H
def s_gnomonlaw03_lines_r5t3 : List AOper := [⟨some 3, (.move (.t 20)), none⟩]
def s_gnomonlaw03_lines_r5p2 : List AOper := [⟨some 20, (.append 1 8 (.t 16) (.t 19)), none⟩]
def s_gnomonlaw03_lines_r5t2 : List AOper := s_gnomonlaw03_lines_r5p2 ++ s_gnomonlaw03_lines_r5t3
def s_gnomonlaw03_lines_r5p1 : List AOper := [⟨some 19, (.buildSl 1 1 [(.s (.int .i64 0))] [(0, (.t 18))]), none⟩]
def s_gnomonlaw03_lines_r5t1 : List AOper := s_gnomonlaw03_lines_r5p1 ++ s_gnomonlaw03_lines_r5t2
def s_gnomonlaw03_lines_r5p0 : List AOper := [⟨some 16, (.move (.t 3)), none⟩, ⟨some 17, (.move (.t 4)), none⟩, ⟨some 18, (.bin .add (.t 17) (.c (.s (.int .i64 1)))), none⟩]
def s_gnomonlaw03_lines_r5 : List AOper := s_gnomonlaw03_lines_r5p0 ++ s_gnomonlaw03_lines_r5t1
theorem s_gnomonlaw03_lines_r5p0_tale (fr : List V) (H : Heap) : evTale (symAll s_gnomonlaw03_lines_r5p0 [3, 15, 17] [16, 18]) [3, 15, 17] fr H = evTale (some (19, [], [(16, (.t 3)), (18, (.op (.bin .add (.t 0) (.c (.s (.int .i64 1)))) [(.t 4), (.c (.s (.int .i64 1)))]))])) [3, 15, 17] fr H := tale_row (items := [.tt 3, .tt 4, .sub 1 [] []]) (by kernel_rfl) fr H
theorem s_gnomonlaw03_lines_r5_x (call : CallF) (it : IterF) (base : Nat) (f : List V) (H : Heap) : evC call it base (.region s_gnomonlaw03_lines_r5 [] [15, 16, 17, 18, 19, 20]) f H = segC call it base s_gnomonlaw03_lines_r5t1 [15, 16, 17, 18, 19, 20] H (evTale (symAll s_gnomonlaw03_lines_r5p0 [3, 15, 17] [16, 18]) [3, 15, 17] f H) (origRow call it base s_gnomonlaw03_lines_r5 [15, 16, 17, 18, 19, 20] f H) := row_seg call it base s_gnomonlaw03_lines_r5p0 s_gnomonlaw03_lines_r5t1 (by kernel_rfl) f H
theorem s_gnomonlaw03_lines_r5t1_x (call : CallF) (it : IterF) (base : Nat) (f : List V) (H : Heap) : evC call it base (.region s_gnomonlaw03_lines_r5t1 [] [15, 16, 17, 18, 19, 20]) f H = thenC call it base (.region s_gnomonlaw03_lines_r5t2 [] [15, 16, 17, 18, 19, 20]) (opsC [] s_gnomonlaw03_lines_r5p1 [18] (evOps call base [⟨some 19, (.buildSl 1 1 [(.s (.int .i64 0))] [(0, (.t 18))]), none⟩] f H)) := (row_op call it base s_gnomonlaw03_lines_r5p1 s_gnomonlaw03_lines_r5t2 (kc := [18]) (by kernel_rfl) f H).trans (by rw [row_ops]; rfl)
theorem s_gnomonlaw03_lines_r5t2_x (call : CallF) (it : IterF) (base : Nat) (f : List V) (H : Heap) : evC call it base (.region s_gnomonlaw03_lines_r5t2 [] [15, 16, 17, 18, 19, 20]) f H = thenC call it base (.region s_gnomonlaw03_lines_r5t3 [] [15, 16, 17, 18, 19, 20]) (opsC [] s_gnomonlaw03_lines_r5p2 [16, 19] (evOps call base [⟨some 20, (.append 1 8 (.t 16) (.t 19)), none⟩] f H)) := (row_op call it base s_gnomonlaw03_lines_r5p2 s_gnomonlaw03_lines_r5t3 (kc := [16, 19]) (by kernel_rfl) f H).trans (by rw [row_ops]; rfl)
theorem s_gnomonlaw03_lines_r5t3_tale (fr : List V) (H : Heap) : evTale (symAll s_gnomonlaw03_lines_r5t3 [15, 16, 17, 18, 19, 20] [3]) [15, 16, 17, 18, 19, 20] fr H = evTale (some (4, [], [(3, (.t 20))])) [15, 16, 17, 18, 19, 20] fr H := tale_row (items := [.tt 20]) (by kernel_rfl) fr H
theorem s_gnomonlaw03_lines_r5t3_x (call : CallF) (it : IterF) (base : Nat) (f : List V) (H : Heap) : evC call it base (.region s_gnomonlaw03_lines_r5t3 [] [15, 16, 17, 18, 19, 20]) f H = segL H (evTale (symAll s_gnomonlaw03_lines_r5t3 [15, 16, 17, 18, 19, 20] [3]) [15, 16, 17, 18, 19, 20] f H) (origRow call it base s_gnomonlaw03_lines_r5t3 [15, 16, 17, 18, 19, 20] f H) := row_last call it base _ f H
def s_gnomonlaw03_lines_r6 : List AOper := [
  ⟨some 10, (.move (.t 4)), none⟩,
  ⟨some 11, (.bin .add (.t 10) (.c (.s (.int .i64 1)))), none⟩,
  ⟨some 4, (.move (.t 11)), none⟩]
theorem s_gnomonlaw03_lines_r6_tale (fr : List V) (H : Heap) : evTale (symAll s_gnomonlaw03_lines_r6 [10, 11, 15] [4]) [10, 11, 15] fr H = evTale (some (12, [], [(4, (.op (.bin .add (.t 0) (.c (.s (.int .i64 1)))) [(.t 4), (.c (.s (.int .i64 1)))]))])) [10, 11, 15] fr H := tale_row (items := [.tt 4, .sub 0 [] [], .sub 0 [] []]) (by kernel_rfl) fr H
def s_gnomonlaw03_lines_l0_b : ACode :=
  (.seq (.seq (.regionE s_gnomonlaw03_lines_r3 [6, 7, 8] [9])
  (.cond (.t 9)
  .skip
  (.exit 0)))
  (.seq (.block 1
  (.seq (.regionE s_gnomonlaw03_lines_r4 [9, 12, 13, 14] [15])
  (.cond (.t 15)
  (.region s_gnomonlaw03_lines_r5 [] [15, 16, 17, 18, 19, 20])
  .skip)))
  (.regionE s_gnomonlaw03_lines_r6 [10, 11, 15] [4])))
def s_gnomonlaw03_lines_l0 : ACode := s_gnomonlaw03_lines_l0_b
theorem s_gnomonlaw03_lines_l0_ev (call : CallF) (it : IterF) (base : Nat) (fr : List V) (H : Heap) : evC call it base s_gnomonlaw03_lines_l0 fr H = evC call it base s_gnomonlaw03_lines_l0_b fr H := rfl
def s_gnomonlaw03_lines_r7 : List AOper := [
  ⟨some 21, (.move (.t 3)), none⟩,
  ⟨some 2, (.move (.t 21)), none⟩]
theorem s_gnomonlaw03_lines_r7_tale (fr : List V) (H : Heap) : evTale (symAll s_gnomonlaw03_lines_r7 [0, 3, 4, 9, 21] [2]) [0, 3, 4, 9, 21] fr H = evTale (some (22, [], [(2, (.t 3))])) [0, 3, 4, 9, 21] fr H := tale_row (items := [.tt 3, .tt 3]) (by kernel_rfl) fr H
def s_gnomonlaw03_lines : ACFun := { ntmps := 22, results := [(.tmp 2)], body :=
  (.seq (.regionE s_gnomonlaw03_lines_r0 s_gnomonlaw03_lines_r0_k [])
  (.seq (.region s_gnomonlaw03_lines_r1 [] [5])
  (.seq (.seq (.regionE s_gnomonlaw03_lines_r2 [] [4])
  (.block 0
  (.loop [] s_gnomonlaw03_lines_l0)))
  (.seq (.regionE s_gnomonlaw03_lines_r7 [0, 3, 4, 9, 21] [2])
  .ret)))) }
def a_gnomonlaw03_TokenCovers := And.intro @s_gnomonlaw03_TokenCovers_r0_tale (And.intro @s_gnomonlaw03_TokenCovers_r0_kT (And.intro @s_gnomonlaw03_TokenCovers_r0_kA0 (And.intro @s_gnomonlaw03_TokenCovers_r1_tale (And.intro @s_gnomonlaw03_TokenCovers_r2_tale (And.intro @s_gnomonlaw03_TokenCovers_r3p0_tale (And.intro @s_gnomonlaw03_TokenCovers_r3_x (And.intro @s_gnomonlaw03_TokenCovers_r3t1_x (And.intro @s_gnomonlaw03_TokenCovers_r3p2_tale (And.intro @s_gnomonlaw03_TokenCovers_r3t2_x (And.intro @s_gnomonlaw03_TokenCovers_r3t3_x (And.intro @s_gnomonlaw03_TokenCovers_r3p4_tale (And.intro @s_gnomonlaw03_TokenCovers_r3t4_x (And.intro @s_gnomonlaw03_TokenCovers_r3t5_x (And.intro @s_gnomonlaw03_TokenCovers_r3t6_tale (And.intro @s_gnomonlaw03_TokenCovers_r3t6_x (And.intro @s_gnomonlaw03_TokenCovers_r4p0_tale (And.intro @s_gnomonlaw03_TokenCovers_r4_x (And.intro @s_gnomonlaw03_TokenCovers_r4t1_x (And.intro @s_gnomonlaw03_TokenCovers_r4t2_tale (And.intro @s_gnomonlaw03_TokenCovers_r4t2_x (And.intro @s_gnomonlaw03_TokenCovers_r5_tale (And.intro @s_gnomonlaw03_TokenCovers_r6_tale (And.intro @s_gnomonlaw03_TokenCovers_r7_tale (And.intro @s_gnomonlaw03_TokenCovers_r8p0_tale (And.intro @s_gnomonlaw03_TokenCovers_r8_x (And.intro @s_gnomonlaw03_TokenCovers_r8t1_x (And.intro @s_gnomonlaw03_TokenCovers_r8p2_tale (And.intro @s_gnomonlaw03_TokenCovers_r8t2_x (And.intro @s_gnomonlaw03_TokenCovers_r8t3_x (And.intro @s_gnomonlaw03_TokenCovers_r8p4_tale (And.intro @s_gnomonlaw03_TokenCovers_r8t4_x (And.intro @s_gnomonlaw03_TokenCovers_r8t5_x (And.intro @s_gnomonlaw03_TokenCovers_r8t6_tale (And.intro @s_gnomonlaw03_TokenCovers_r8t6_x (And.intro @s_gnomonlaw03_TokenCovers_r9p0_tale (And.intro @s_gnomonlaw03_TokenCovers_r9_x (And.intro @s_gnomonlaw03_TokenCovers_r9t1_x (And.intro @s_gnomonlaw03_TokenCovers_r9t2_tale (And.intro @s_gnomonlaw03_TokenCovers_r9t2_x (And.intro @s_gnomonlaw03_TokenCovers_r10_tale (And.intro @s_gnomonlaw03_TokenCovers_r11_tale (And.intro @s_gnomonlaw03_TokenCovers_r12_tale (And.intro @s_gnomonlaw03_TokenCovers_r13_tale (And.intro @s_gnomonlaw03_TokenCovers_r14_tale (And.intro @s_gnomonlaw03_TokenCovers_r15p0_tale (And.intro @s_gnomonlaw03_TokenCovers_r15_x (And.intro @s_gnomonlaw03_TokenCovers_r15t1_x (And.intro @s_gnomonlaw03_TokenCovers_r15t2_x (And.intro @s_gnomonlaw03_TokenCovers_r16_tale (And.intro @s_gnomonlaw03_TokenCovers_r17_tale (And.intro @s_gnomonlaw03_TokenCovers_r18_tale (And.intro @s_gnomonlaw03_TokenCovers_r19_tale (And.intro @s_gnomonlaw03_TokenCovers_r20_tale (And.intro @s_gnomonlaw03_TokenCovers_r21_tale (And.intro @s_gnomonlaw03_TokenCovers_r22_tale (And.intro @s_gnomonlaw03_TokenCovers_r23_tale (And.intro @s_gnomonlaw03_TokenCovers_r24_tale (And.intro @s_gnomonlaw03_TokenCovers_r25_tale (And.intro @s_gnomonlaw03_TokenCovers_r26_tale (And.intro @s_gnomonlaw03_TokenCovers_r27_tale (And.intro @s_gnomonlaw03_TokenCovers_r28_tale (And.intro @s_gnomonlaw03_TokenCovers_r29_tale (And.intro @s_gnomonlaw03_TokenCovers_r30_tale (And.intro @s_gnomonlaw03_TokenCovers_r31_tale (And.intro @s_gnomonlaw03_TokenCovers_l0_ev (And.intro @s_gnomonlaw03_TokenCovers_r32_tale (And.intro @s_gnomonlaw03_TokenCovers_r33_tale (And.intro @s_gnomonlaw03_TokenCovers_l1_ev (And.intro @s_gnomonlaw03_TokenCovers_r34p0_tale (And.intro @s_gnomonlaw03_TokenCovers_r34_x (And.intro @s_gnomonlaw03_TokenCovers_r34t1_x (And.intro @s_gnomonlaw03_TokenCovers_r34t2_tale (@s_gnomonlaw03_TokenCovers_r34t2_x)))))))))))))))))))))))))))))))))))))))))))))))))))))))))))))))))))))))))
def a_gnomonlaw03_lines := And.intro @s_gnomonlaw03_lines_r0_tale (And.intro @s_gnomonlaw03_lines_r0_kT (And.intro @s_gnomonlaw03_lines_r0_kA0 (And.intro @s_gnomonlaw03_lines_r1_x (And.intro @s_gnomonlaw03_lines_r1t1_tale (And.intro @s_gnomonlaw03_lines_r1t1_x (And.intro @s_gnomonlaw03_lines_r2_tale (And.intro @s_gnomonlaw03_lines_r3_tale (And.intro @s_gnomonlaw03_lines_r4_tale (And.intro @s_gnomonlaw03_lines_r5p0_tale (And.intro @s_gnomonlaw03_lines_r5_x (And.intro @s_gnomonlaw03_lines_r5t1_x (And.intro @s_gnomonlaw03_lines_r5t2_x (And.intro @s_gnomonlaw03_lines_r5t3_tale (And.intro @s_gnomonlaw03_lines_r5t3_x (And.intro @s_gnomonlaw03_lines_r6_tale (And.intro @s_gnomonlaw03_lines_l0_ev (@s_gnomonlaw03_lines_r7_tale)))))))))))))))))
theorem TA4_4 : compK Tryd.prog PX0 4 = some (false, s_gnomonlaw03_TokenCovers.ntmps, s_gnomonlaw03_TokenCovers.results, s_gnomonlaw03_TokenCovers.body.bare) := by kernel_rfl
theorem TA4_12 : compK Tryd.prog PX0 12 = some (false, s_gnomonlaw03_lines.ntmps, s_gnomonlaw03_lines.results, s_gnomonlaw03_lines.body.bare) := by kernel_rfl
end Go.Proofs.YtfnkpedipicjnaaDoor
set_option maxRecDepth 100000
namespace Go.Proofs.YtfnkpedipicjnaaDoor
open Go.AM
abbrev k_gnomonlaw03_TokenJoins : Nat := 7
def s_gnomonlaw03_TokenJoins_r0_k : List Nat := [2, 3, 4, 5, 6, 7, 8, 9, 10, 11, 12, 13, 14, 15, 16, 17, 18, 19, 20, 21, 22, 23, 24, 25, 26, 27, 28, 29, 30, 31, 32, 33, 34, 35, 36, 37, 38, 39, 40, 41, 42, 43, 44, 45, 46, 47, 48, 49, 50, 51, 52, 53, 54, 55, 56, 57, 58, 59, 60, 61, 62, 63, 64, 65, 66, 67, 68, 69, 70, 71, 72, 73, 74, 75, 76, 77, 78, 79, 80, 81, 82, 83, 84, 85, 86, 87, 88, 89, 90, 91, 92, 93, 94, 95, 96, 97, 98, 99, 100, 101, 102, 103, 104, 105, 106, 107, 108, 109, 110, 111, 112, 113, 114, 115, 116, 117, 118, 119, 120, 121, 122, 123, 124, 125, 126, 127, 128, 129, 130, 131, 132, 133, 134, 135, 136, 137]
theorem s_gnomonlaw03_TokenJoins_r0_kT : killV s_gnomonlaw03_TokenJoins_r0_k (startV 138 [] 2) = [] := by kernel_rfl
theorem s_gnomonlaw03_TokenJoins_r0_kA0 : s_gnomonlaw03_TokenJoins_r0_k.contains 0 = false := by kernel_rfl
theorem s_gnomonlaw03_TokenJoins_r0_kA1 : s_gnomonlaw03_TokenJoins_r0_k.contains 1 = false := by kernel_rfl
def s_gnomonlaw03_TokenJoins_r0 : List AOper := [
  ⟨some 4, (.move (.c (.s (.bool false)))), none⟩]
theorem s_gnomonlaw03_TokenJoins_r0_tale (fr : List V) (H : Heap) : evTale (symAll s_gnomonlaw03_TokenJoins_r0 s_gnomonlaw03_TokenJoins_r0_k []) s_gnomonlaw03_TokenJoins_r0_k fr H = evTale (some (5, [], [])) s_gnomonlaw03_TokenJoins_r0_k fr H := tale_row (items := [.cc (.s (.bool false))]) (by kernel_rfl) fr H
def s_gnomonlaw03_TokenJoins_r1 : List AOper := [
  ⟨some 17, (.move (.t 0)), none⟩,
  ⟨some 18, (.lenS .p (.t 17)), none⟩,
  ⟨some 19, (.bin .gtr (.t 18) (.c (.s (.int .i64 2000)))), none⟩,
  ⟨some 20, (.move (.t 19)), none⟩,
  ⟨some 21, (.move (.t 1)), some (20, false)⟩,
  ⟨some 22, (.lenS .p (.t 21)), some (20, false)⟩,
  ⟨some 23, (.bin .gtr (.t 22) (.c (.s (.int .i64 2000)))), some (20, false)⟩,
  ⟨some 24, (.pick (.t 20) (.c (.s (.bool true))) (.t 23)), none⟩]
theorem s_gnomonlaw03_TokenJoins_r1_tale (fr : List V) (H : Heap) : evTale (symAll s_gnomonlaw03_TokenJoins_r1 [17, 18, 19, 20, 21, 22, 23] [24]) [17, 18, 19, 20, 21, 22, 23] fr H = evTale (some (25, [], [(24, (.pick (.op (.bin .gtr (.t 0) (.c (.s (.int .i64 2000)))) [(.op (.lenS .p (.t 0)) [(.t 0)]), (.c (.s (.int .i64 2000)))]) (.c (.s (.bool true))) (.op (.bin .gtr (.t 0) (.c (.s (.int .i64 2000)))) [(.op (.lenS .p (.t 0)) [(.t 1)]), (.c (.s (.int .i64 2000)))])))])) [17, 18, 19, 20, 21, 22, 23] fr H := tale_row (items := [.tt 0, .sub 0 [0, 0] [], .sub 0 [0] [], .sub 0 [0] [], .sub 0 [2, 0, 0] [20], .sub 0 [2, 0] [20], .sub 0 [2] [20], .sub 0 [] []]) (by kernel_rfl) fr H
def s_gnomonlaw03_TokenJoins_r2 : List AOper := [
  ⟨some 4, (.move (.c (.s (.bool true)))), none⟩]
theorem s_gnomonlaw03_TokenJoins_r2_tale (fr : List V) (H : Heap) : evTale (symAll s_gnomonlaw03_TokenJoins_r2 [0, 1, 24] [4]) [0, 1, 24] fr H = evTale (some (5, [], [(4, (.c (.s (.bool true))))])) [0, 1, 24] fr H := tale_row (items := [.cc (.s (.bool true))]) (by kernel_rfl) fr H
def s_gnomonlaw03_TokenJoins_r3t6 : List AOper := [⟨some 7, (.move (.t 30)), none⟩]
def s_gnomonlaw03_TokenJoins_r3p5 : List AOper := [⟨none, (.store 2 (.t 6) (.t 29)), none⟩]
def s_gnomonlaw03_TokenJoins_r3t5 : List AOper := s_gnomonlaw03_TokenJoins_r3p5 ++ s_gnomonlaw03_TokenJoins_r3t6
def s_gnomonlaw03_TokenJoins_r3p4 : List AOper := [⟨some 5, (.move (.t 28)), none⟩]
def s_gnomonlaw03_TokenJoins_r3t4 : List AOper := s_gnomonlaw03_TokenJoins_r3p4 ++ s_gnomonlaw03_TokenJoins_r3t5
def s_gnomonlaw03_TokenJoins_r3p3 : List AOper := [⟨some 6, (.alloc [(.s (.int .i64 0)), (.s (.int .i64 0))]), none⟩]
def s_gnomonlaw03_TokenJoins_r3t3 : List AOper := s_gnomonlaw03_TokenJoins_r3p3 ++ s_gnomonlaw03_TokenJoins_r3t4
def s_gnomonlaw03_TokenJoins_r3p2 : List AOper := [⟨some 25, (.move (.t 27)), none⟩, ⟨some 28, (.extract (.t 25) 0), none⟩, ⟨some 29, (.extract (.t 25) 1), none⟩, ⟨some 30, (.extract (.t 25) 2), none⟩]
def s_gnomonlaw03_TokenJoins_r3t2 : List AOper := s_gnomonlaw03_TokenJoins_r3p2 ++ s_gnomonlaw03_TokenJoins_r3t3
def s_gnomonlaw03_TokenJoins_r3p1 : List AOper := [⟨some 27, (.call (.c (.fn 8 [] [])) [(.t 26)]), none⟩]
def s_gnomonlaw03_TokenJoins_r3t1 : List AOper := s_gnomonlaw03_TokenJoins_r3p1 ++ s_gnomonlaw03_TokenJoins_r3t2
def s_gnomonlaw03_TokenJoins_r3p0 : List AOper := [⟨some 26, (.move (.t 0)), none⟩]
def s_gnomonlaw03_TokenJoins_r3 : List AOper := s_gnomonlaw03_TokenJoins_r3p0 ++ s_gnomonlaw03_TokenJoins_r3t1
theorem s_gnomonlaw03_TokenJoins_r3p0_tale (fr : List V) (H : Heap) : evTale (symAll s_gnomonlaw03_TokenJoins_r3p0 [24] [26]) [24] fr H = evTale (some (27, [], [(26, (.t 0))])) [24] fr H := tale_row (items := [.tt 0]) (by kernel_rfl) fr H
theorem s_gnomonlaw03_TokenJoins_r3_x (call : CallF) (it : IterF) (base : Nat) (f : List V) (H : Heap) : evC call it base (.region s_gnomonlaw03_TokenJoins_r3 [] [6, 24, 25, 26, 27, 28, 29, 30]) f H = segC call it base s_gnomonlaw03_TokenJoins_r3t1 [6, 24, 25, 26, 27, 28, 29, 30] H (evTale (symAll s_gnomonlaw03_TokenJoins_r3p0 [24] [26]) [24] f H) (origRow call it base s_gnomonlaw03_TokenJoins_r3 [6, 24, 25, 26, 27, 28, 29, 30] f H) := row_seg call it base s_gnomonlaw03_TokenJoins_r3p0 s_gnomonlaw03_TokenJoins_r3t1 (by kernel_rfl) f H
theorem s_gnomonlaw03_TokenJoins_r3t1_x (call : CallF) (it : IterF) (base : Nat) (f : List V) (H : Heap) : evC call it base (.region s_gnomonlaw03_TokenJoins_r3t1 [] [6, 24, 25, 26, 27, 28, 29, 30]) f H = thenC call it base (.region s_gnomonlaw03_TokenJoins_r3t2 [] [6, 24, 25, 26, 27, 28, 29, 30]) (opsC [] s_gnomonlaw03_TokenJoins_r3p1 [26] (evOps call base [⟨some 27, (.call (.c (.fn 8 [] [])) [(.t 26)]), none⟩] f H)) := (row_op call it base s_gnomonlaw03_TokenJoins_r3p1 s_gnomonlaw03_TokenJoins_r3t2 (kc := [26]) (by kernel_rfl) f H).trans (by rw [row_ops]; rfl)
theorem s_gnomonlaw03_TokenJoins_r3p2_tale (fr : List V) (H : Heap) : evTale (symAll s_gnomonlaw03_TokenJoins_r3p2 [25, 27] [28, 29, 30]) [25, 27] fr H = evTale (some (31, [], [(28, (.op (.extract (.t 0) 0) [(.t 27)])), (29, (.op (.extract (.t 0) 1) [(.t 27)])), (30, (.op (.extract (.t 0) 2) [(.t 27)]))])) [25, 27] fr H := tale_row (items := [.tt 27, .sub 0 [] [], .sub 1 [] [], .sub 2 [] []]) (by kernel_rfl) fr H
theorem s_gnomonlaw03_TokenJoins_r3t2_x (call : CallF) (it : IterF) (base : Nat) (f : List V) (H : Heap) : evC call it base (.region s_gnomonlaw03_TokenJoins_r3t2 [] [6, 24, 25, 26, 27, 28, 29, 30]) f H = segC call it base s_gnomonlaw03_TokenJoins_r3t3 [6, 24, 25, 26, 27, 28, 29, 30] H (evTale (symAll s_gnomonlaw03_TokenJoins_r3p2 [25, 27] [28, 29, 30]) [25, 27] f H) (origRow call it base s_gnomonlaw03_TokenJoins_r3t2 [6, 24, 25, 26, 27, 28, 29, 30] f H) := row_seg call it base s_gnomonlaw03_TokenJoins_r3p2 s_gnomonlaw03_TokenJoins_r3t3 (by kernel_rfl) f H
theorem s_gnomonlaw03_TokenJoins_r3t3_x (call : CallF) (it : IterF) (base : Nat) (f : List V) (H : Heap) : evC call it base (.region s_gnomonlaw03_TokenJoins_r3t3 [] [6, 24, 25, 26, 27, 28, 29, 30]) f H = thenC call it base (.region s_gnomonlaw03_TokenJoins_r3t4 [] [6, 24, 25, 26, 27, 28, 29, 30]) (opsC [] s_gnomonlaw03_TokenJoins_r3p3 [] (evOps call base [⟨some 6, (.alloc [(.s (.int .i64 0)), (.s (.int .i64 0))]), none⟩] f H)) := (row_op call it base s_gnomonlaw03_TokenJoins_r3p3 s_gnomonlaw03_TokenJoins_r3t4 (kc := []) (by kernel_rfl) f H).trans (by rw [row_ops]; rfl)
theorem s_gnomonlaw03_TokenJoins_r3p4_tale (fr : List V) (H : Heap) : evTale (symAll s_gnomonlaw03_TokenJoins_r3p4 [28] [5]) [28] fr H = evTale (some (6, [], [(5, (.t 28))])) [28] fr H := tale_row (items := [.tt 28]) (by kernel_rfl) fr H
theorem s_gnomonlaw03_TokenJoins_r3t4_x (call : CallF) (it : IterF) (base : Nat) (f : List V) (H : Heap) : evC call it base (.region s_gnomonlaw03_TokenJoins_r3t4 [] [6, 24, 25, 26, 27, 28, 29, 30]) f H = segC call it base s_gnomonlaw03_TokenJoins_r3t5 [6, 24, 25, 26, 27, 28, 29, 30] H (evTale (symAll s_gnomonlaw03_TokenJoins_r3p4 [28] [5]) [28] f H) (origRow call it base s_gnomonlaw03_TokenJoins_r3t4 [6, 24, 25, 26, 27, 28, 29, 30] f H) := row_seg call it base s_gnomonlaw03_TokenJoins_r3p4 s_gnomonlaw03_TokenJoins_r3t5 (by kernel_rfl) f H
theorem s_gnomonlaw03_TokenJoins_r3t5_x (call : CallF) (it : IterF) (base : Nat) (f : List V) (H : Heap) : evC call it base (.region s_gnomonlaw03_TokenJoins_r3t5 [] [6, 24, 25, 26, 27, 28, 29, 30]) f H = thenC call it base (.region s_gnomonlaw03_TokenJoins_r3t6 [] [6, 24, 25, 26, 27, 28, 29, 30]) (opsC [] s_gnomonlaw03_TokenJoins_r3p5 [6, 29] (evOps call base [⟨none, (.store 2 (.t 6) (.t 29)), none⟩] f H)) := (row_op call it base s_gnomonlaw03_TokenJoins_r3p5 s_gnomonlaw03_TokenJoins_r3t6 (kc := [6, 29]) (by kernel_rfl) f H).trans (by rw [row_ops]; rfl)
theorem s_gnomonlaw03_TokenJoins_r3t6_tale (fr : List V) (H : Heap) : evTale (symAll s_gnomonlaw03_TokenJoins_r3t6 [6, 24, 25, 26, 27, 28, 29, 30] [7]) [6, 24, 25, 26, 27, 28, 29, 30] fr H = evTale (some (8, [], [(7, (.t 30))])) [6, 24, 25, 26, 27, 28, 29, 30] fr H := tale_row (items := [.tt 30]) (by kernel_rfl) fr H
theorem s_gnomonlaw03_TokenJoins_r3t6_x (call : CallF) (it : IterF) (base : Nat) (f : List V) (H : Heap) : evC call it base (.region s_gnomonlaw03_TokenJoins_r3t6 [] [6, 24, 25, 26, 27, 28, 29, 30]) f H = segL H (evTale (symAll s_gnomonlaw03_TokenJoins_r3t6 [6, 24, 25, 26, 27, 28, 29, 30] [7]) [6, 24, 25, 26, 27, 28, 29, 30] f H) (origRow call it base s_gnomonlaw03_TokenJoins_r3t6 [6, 24, 25, 26, 27, 28, 29, 30] f H) := row_last call it base _ f H
def s_gnomonlaw03_TokenJoins_r4t6 : List AOper := [⟨some 10, (.move (.t 36)), none⟩]
def s_gnomonlaw03_TokenJoins_r4p5 : List AOper := [⟨none, (.store 2 (.t 9) (.t 35)), none⟩]
def s_gnomonlaw03_TokenJoins_r4t5 : List AOper := s_gnomonlaw03_TokenJoins_r4p5 ++ s_gnomonlaw03_TokenJoins_r4t6
def s_gnomonlaw03_TokenJoins_r4p4 : List AOper := [⟨some 8, (.move (.t 34)), none⟩]
def s_gnomonlaw03_TokenJoins_r4t4 : List AOper := s_gnomonlaw03_TokenJoins_r4p4 ++ s_gnomonlaw03_TokenJoins_r4t5
def s_gnomonlaw03_TokenJoins_r4p3 : List AOper := [⟨some 9, (.alloc [(.s (.int .i64 0)), (.s (.int .i64 0))]), none⟩]
def s_gnomonlaw03_TokenJoins_r4t3 : List AOper := s_gnomonlaw03_TokenJoins_r4p3 ++ s_gnomonlaw03_TokenJoins_r4t4
def s_gnomonlaw03_TokenJoins_r4p2 : List AOper := [⟨some 31, (.move (.t 33)), none⟩, ⟨some 34, (.extract (.t 31) 0), none⟩, ⟨some 35, (.extract (.t 31) 1), none⟩, ⟨some 36, (.extract (.t 31) 2), none⟩]
def s_gnomonlaw03_TokenJoins_r4t2 : List AOper := s_gnomonlaw03_TokenJoins_r4p2 ++ s_gnomonlaw03_TokenJoins_r4t3
def s_gnomonlaw03_TokenJoins_r4p1 : List AOper := [⟨some 33, (.call (.c (.fn 8 [] [])) [(.t 32)]), none⟩]
def s_gnomonlaw03_TokenJoins_r4t1 : List AOper := s_gnomonlaw03_TokenJoins_r4p1 ++ s_gnomonlaw03_TokenJoins_r4t2
def s_gnomonlaw03_TokenJoins_r4p0 : List AOper := [⟨some 32, (.move (.t 1)), none⟩]
def s_gnomonlaw03_TokenJoins_r4 : List AOper := s_gnomonlaw03_TokenJoins_r4p0 ++ s_gnomonlaw03_TokenJoins_r4t1
theorem s_gnomonlaw03_TokenJoins_r4p0_tale (fr : List V) (H : Heap) : evTale (symAll s_gnomonlaw03_TokenJoins_r4p0 [] [32]) [] fr H = evTale (some (33, [], [(32, (.t 1))])) [] fr H := tale_row (items := [.tt 1]) (by kernel_rfl) fr H
theorem s_gnomonlaw03_TokenJoins_r4_x (call : CallF) (it : IterF) (base : Nat) (f : List V) (H : Heap) : evC call it base (.region s_gnomonlaw03_TokenJoins_r4 [] [31, 32, 33, 34, 35, 36]) f H = segC call it base s_gnomonlaw03_TokenJoins_r4t1 [31, 32, 33, 34, 35, 36] H (evTale (symAll s_gnomonlaw03_TokenJoins_r4p0 [] [32]) [] f H) (origRow call it base s_gnomonlaw03_TokenJoins_r4 [31, 32, 33, 34, 35, 36] f H) := row_seg call it base s_gnomonlaw03_TokenJoins_r4p0 s_gnomonlaw03_TokenJoins_r4t1 (by kernel_rfl) f H
theorem s_gnomonlaw03_TokenJoins_r4t1_x (call : CallF) (it : IterF) (base : Nat) (f : List V) (H : Heap) : evC call it base (.region s_gnomonlaw03_TokenJoins_r4t1 [] [31, 32, 33, 34, 35, 36]) f H = thenC call it base (.region s_gnomonlaw03_TokenJoins_r4t2 [] [31, 32, 33, 34, 35, 36]) (opsC [] s_gnomonlaw03_TokenJoins_r4p1 [32] (evOps call base [⟨some 33, (.call (.c (.fn 8 [] [])) [(.t 32)]), none⟩] f H)) := (row_op call it base s_gnomonlaw03_TokenJoins_r4p1 s_gnomonlaw03_TokenJoins_r4t2 (kc := [32]) (by kernel_rfl) f H).trans (by rw [row_ops]; rfl)
theorem s_gnomonlaw03_TokenJoins_r4p2_tale (fr : List V) (H : Heap) : evTale (symAll s_gnomonlaw03_TokenJoins_r4p2 [31, 33] [34, 35, 36]) [31, 33] fr H = evTale (some (37, [], [(34, (.op (.extract (.t 0) 0) [(.t 33)])), (35, (.op (.extract (.t 0) 1) [(.t 33)])), (36, (.op (.extract (.t 0) 2) [(.t 33)]))])) [31, 33] fr H := tale_row (items := [.tt 33, .sub 0 [] [], .sub 1 [] [], .sub 2 [] []]) (by kernel_rfl) fr H
theorem s_gnomonlaw03_TokenJoins_r4t2_x (call : CallF) (it : IterF) (base : Nat) (f : List V) (H : Heap) : evC call it base (.region s_gnomonlaw03_TokenJoins_r4t2 [] [31, 32, 33, 34, 35, 36]) f H = segC call it base s_gnomonlaw03_TokenJoins_r4t3 [31, 32, 33, 34, 35, 36] H (evTale (symAll s_gnomonlaw03_TokenJoins_r4p2 [31, 33] [34, 35, 36]) [31, 33] f H) (origRow call it base s_gnomonlaw03_TokenJoins_r4t2 [31, 32, 33, 34, 35, 36] f H) := row_seg call it base s_gnomonlaw03_TokenJoins_r4p2 s_gnomonlaw03_TokenJoins_r4t3 (by kernel_rfl) f H
theorem s_gnomonlaw03_TokenJoins_r4t3_x (call : CallF) (it : IterF) (base : Nat) (f : List V) (H : Heap) : evC call it base (.region s_gnomonlaw03_TokenJoins_r4t3 [] [31, 32, 33, 34, 35, 36]) f H = thenC call it base (.region s_gnomonlaw03_TokenJoins_r4t4 [] [31, 32, 33, 34, 35, 36]) (opsC [] s_gnomonlaw03_TokenJoins_r4p3 [] (evOps call base [⟨some 9, (.alloc [(.s (.int .i64 0)), (.s (.int .i64 0))]), none⟩] f H)) := (row_op call it base s_gnomonlaw03_TokenJoins_r4p3 s_gnomonlaw03_TokenJoins_r4t4 (kc := []) (by kernel_rfl) f H).trans (by rw [row_ops]; rfl)
theorem s_gnomonlaw03_TokenJoins_r4p4_tale (fr : List V) (H : Heap) : evTale (symAll s_gnomonlaw03_TokenJoins_r4p4 [34] [8]) [34] fr H = evTale (some (9, [], [(8, (.t 34))])) [34] fr H := tale_row (items := [.tt 34]) (by kernel_rfl) fr H
theorem s_gnomonlaw03_TokenJoins_r4t4_x (call : CallF) (it : IterF) (base : Nat) (f : List V) (H : Heap) : evC call it base (.region s_gnomonlaw03_TokenJoins_r4t4 [] [31, 32, 33, 34, 35, 36]) f H = segC call it base s_gnomonlaw03_TokenJoins_r4t5 [31, 32, 33, 34, 35, 36] H (evTale (symAll s_gnomonlaw03_TokenJoins_r4p4 [34] [8]) [34] f H) (origRow call it base s_gnomonlaw03_TokenJoins_r4t4 [31, 32, 33, 34, 35, 36] f H) := row_seg call it base s_gnomonlaw03_TokenJoins_r4p4 s_gnomonlaw03_TokenJoins_r4t5 (by kernel_rfl) f H
theorem s_gnomonlaw03_TokenJoins_r4t5_x (call : CallF) (it : IterF) (base : Nat) (f : List V) (H : Heap) : evC call it base (.region s_gnomonlaw03_TokenJoins_r4t5 [] [31, 32, 33, 34, 35, 36]) f H = thenC call it base (.region s_gnomonlaw03_TokenJoins_r4t6 [] [31, 32, 33, 34, 35, 36]) (opsC [] s_gnomonlaw03_TokenJoins_r4p5 [35] (evOps call base [⟨none, (.store 2 (.t 9) (.t 35)), none⟩] f H)) := (row_op call it base s_gnomonlaw03_TokenJoins_r4p5 s_gnomonlaw03_TokenJoins_r4t6 (kc := [35]) (by kernel_rfl) f H).trans (by rw [row_ops]; rfl)
theorem s_gnomonlaw03_TokenJoins_r4t6_tale (fr : List V) (H : Heap) : evTale (symAll s_gnomonlaw03_TokenJoins_r4t6 [31, 32, 33, 34, 35, 36] [10]) [31, 32, 33, 34, 35, 36] fr H = evTale (some (11, [], [(10, (.t 36))])) [31, 32, 33, 34, 35, 36] fr H := tale_row (items := [.tt 36]) (by kernel_rfl) fr H
theorem s_gnomonlaw03_TokenJoins_r4t6_x (call : CallF) (it : IterF) (base : Nat) (f : List V) (H : Heap) : evC call it base (.region s_gnomonlaw03_TokenJoins_r4t6 [] [31, 32, 33, 34, 35, 36]) f H = segL H (evTale (symAll s_gnomonlaw03_TokenJoins_r4t6 [31, 32, 33, 34, 35, 36] [10]) [31, 32, 33, 34, 35, 36] f H) (origRow call it base s_gnomonlaw03_TokenJoins_r4t6 [31, 32, 33, 34, 35, 36] f H) := row_last call it base _ f H
def s_gnomonlaw03_TokenJoins_r5t6 : List AOper := [⟨some 13, (.move (.t 45)), none⟩]
def s_gnomonlaw03_TokenJoins_r5p5 : List AOper := [⟨none, (.store 2 (.t 12) (.t 44)), none⟩]
def s_gnomonlaw03_TokenJoins_r5t5 : List AOper := s_gnomonlaw03_TokenJoins_r5p5 ++ s_gnomonlaw03_TokenJoins_r5t6
def s_gnomonlaw03_TokenJoins_r5p4 : List AOper := [⟨some 11, (.move (.t 43)), none⟩]
def s_gnomonlaw03_TokenJoins_r5t4 : List AOper := s_gnomonlaw03_TokenJoins_r5p4 ++ s_gnomonlaw03_TokenJoins_r5t5
def s_gnomonlaw03_TokenJoins_r5p3 : List AOper := [⟨some 12, (.alloc [(.s (.int .i64 0)), (.s (.int .i64 0))]), none⟩]
def s_gnomonlaw03_TokenJoins_r5t3 : List AOper := s_gnomonlaw03_TokenJoins_r5p3 ++ s_gnomonlaw03_TokenJoins_r5t4
def s_gnomonlaw03_TokenJoins_r5p2 : List AOper := [⟨some 37, (.move (.t 42)), none⟩, ⟨some 43, (.extract (.t 37) 0), none⟩, ⟨some 44, (.extract (.t 37) 1), none⟩, ⟨some 45, (.extract (.t 37) 2), none⟩]
def s_gnomonlaw03_TokenJoins_r5t2 : List AOper := s_gnomonlaw03_TokenJoins_r5p2 ++ s_gnomonlaw03_TokenJoins_r5t3
def s_gnomonlaw03_TokenJoins_r5p1 : List AOper := [⟨some 42, (.call (.c (.fn 8 [] [])) [(.t 41)]), none⟩]
def s_gnomonlaw03_TokenJoins_r5t1 : List AOper := s_gnomonlaw03_TokenJoins_r5p1 ++ s_gnomonlaw03_TokenJoins_r5t2
def s_gnomonlaw03_TokenJoins_r5p0 : List AOper := [⟨some 38, (.move (.t 0)), none⟩, ⟨some 39, (.bin .add (.t 38) (.c (.s (.string ⟨#[10]⟩)))), none⟩, ⟨some 40, (.move (.t 1)), none⟩, ⟨some 41, (.bin .add (.t 39) (.t 40)), none⟩]
def s_gnomonlaw03_TokenJoins_r5 : List AOper := s_gnomonlaw03_TokenJoins_r5p0 ++ s_gnomonlaw03_TokenJoins_r5t1
theorem s_gnomonlaw03_TokenJoins_r5p0_tale (fr : List V) (H : Heap) : evTale (symAll s_gnomonlaw03_TokenJoins_r5p0 [0, 1, 38, 39, 40] [41]) [0, 1, 38, 39, 40] fr H = evTale (some (42, [], [(41, (.op (.bin .add (.t 0) (.t 1)) [(.op (.bin .add (.t 0) (.c (.s (.string ⟨#[10]⟩)))) [(.t 0), (.c (.s (.string ⟨#[10]⟩)))]), (.t 1)]))])) [0, 1, 38, 39, 40] fr H := tale_row (items := [.tt 0, .sub 0 [0] [], .tt 1, .sub 0 [] []]) (by kernel_rfl) fr H
theorem s_gnomonlaw03_TokenJoins_r5_x (call : CallF) (it : IterF) (base : Nat) (f : List V) (H : Heap) : evC call it base (.region s_gnomonlaw03_TokenJoins_r5 [] [0, 1, 37, 38, 39, 40, 41, 42, 43, 44, 45]) f H = segC call it base s_gnomonlaw03_TokenJoins_r5t1 [0, 1, 37, 38, 39, 40, 41, 42, 43, 44, 45] H (evTale (symAll s_gnomonlaw03_TokenJoins_r5p0 [0, 1, 38, 39, 40] [41]) [0, 1, 38, 39, 40] f H) (origRow call it base s_gnomonlaw03_TokenJoins_r5 [0, 1, 37, 38, 39, 40, 41, 42, 43, 44, 45] f H) := row_seg call it base s_gnomonlaw03_TokenJoins_r5p0 s_gnomonlaw03_TokenJoins_r5t1 (by kernel_rfl) f H
theorem s_gnomonlaw03_TokenJoins_r5t1_x (call : CallF) (it : IterF) (base : Nat) (f : List V) (H : Heap) : evC call it base (.region s_gnomonlaw03_TokenJoins_r5t1 [] [0, 1, 37, 38, 39, 40, 41, 42, 43, 44, 45]) f H = thenC call it base (.region s_gnomonlaw03_TokenJoins_r5t2 [] [0, 1, 37, 38, 39, 40, 41, 42, 43, 44, 45]) (opsC [] s_gnomonlaw03_TokenJoins_r5p1 [41] (evOps call base [⟨some 42, (.call (.c (.fn 8 [] [])) [(.t 41)]), none⟩] f H)) := (row_op call it base s_gnomonlaw03_TokenJoins_r5p1 s_gnomonlaw03_TokenJoins_r5t2 (kc := [41]) (by kernel_rfl) f H).trans (by rw [row_ops]; rfl)
theorem s_gnomonlaw03_TokenJoins_r5p2_tale (fr : List V) (H : Heap) : evTale (symAll s_gnomonlaw03_TokenJoins_r5p2 [37, 42] [43, 44, 45]) [37, 42] fr H = evTale (some (46, [], [(43, (.op (.extract (.t 0) 0) [(.t 42)])), (44, (.op (.extract (.t 0) 1) [(.t 42)])), (45, (.op (.extract (.t 0) 2) [(.t 42)]))])) [37, 42] fr H := tale_row (items := [.tt 42, .sub 0 [] [], .sub 1 [] [], .sub 2 [] []]) (by kernel_rfl) fr H
theorem s_gnomonlaw03_TokenJoins_r5t2_x (call : CallF) (it : IterF) (base : Nat) (f : List V) (H : Heap) : evC call it base (.region s_gnomonlaw03_TokenJoins_r5t2 [] [0, 1, 37, 38, 39, 40, 41, 42, 43, 44, 45]) f H = segC call it base s_gnomonlaw03_TokenJoins_r5t3 [0, 1, 37, 38, 39, 40, 41, 42, 43, 44, 45] H (evTale (symAll s_gnomonlaw03_TokenJoins_r5p2 [37, 42] [43, 44, 45]) [37, 42] f H) (origRow call it base s_gnomonlaw03_TokenJoins_r5t2 [0, 1, 37, 38, 39, 40, 41, 42, 43, 44, 45] f H) := row_seg call it base s_gnomonlaw03_TokenJoins_r5p2 s_gnomonlaw03_TokenJoins_r5t3 (by kernel_rfl) f H
theorem s_gnomonlaw03_TokenJoins_r5t3_x (call : CallF) (it : IterF) (base : Nat) (f : List V) (H : Heap) : evC call it base (.region s_gnomonlaw03_TokenJoins_r5t3 [] [0, 1, 37, 38, 39, 40, 41, 42, 43, 44, 45]) f H = thenC call it base (.region s_gnomonlaw03_TokenJoins_r5t4 [] [0, 1, 37, 38, 39, 40, 41, 42, 43, 44, 45]) (opsC [] s_gnomonlaw03_TokenJoins_r5p3 [] (evOps call base [⟨some 12, (.alloc [(.s (.int .i64 0)), (.s (.int .i64 0))]), none⟩] f H)) := (row_op call it base s_gnomonlaw03_TokenJoins_r5p3 s_gnomonlaw03_TokenJoins_r5t4 (kc := []) (by kernel_rfl) f H).trans (by rw [row_ops]; rfl)
theorem s_gnomonlaw03_TokenJoins_r5p4_tale (fr : List V) (H : Heap) : evTale (symAll s_gnomonlaw03_TokenJoins_r5p4 [43] [11]) [43] fr H = evTale (some (12, [], [(11, (.t 43))])) [43] fr H := tale_row (items := [.tt 43]) (by kernel_rfl) fr H
theorem s_gnomonlaw03_TokenJoins_r5t4_x (call : CallF) (it : IterF) (base : Nat) (f : List V) (H : Heap) : evC call it base (.region s_gnomonlaw03_TokenJoins_r5t4 [] [0, 1, 37, 38, 39, 40, 41, 42, 43, 44, 45]) f H = segC call it base s_gnomonlaw03_TokenJoins_r5t5 [0, 1, 37, 38, 39, 40, 41, 42, 43, 44, 45] H (evTale (symAll s_gnomonlaw03_TokenJoins_r5p4 [43] [11]) [43] f H) (origRow call it base s_gnomonlaw03_TokenJoins_r5t4 [0, 1, 37, 38, 39, 40, 41, 42, 43, 44, 45] f H) := row_seg call it base s_gnomonlaw03_TokenJoins_r5p4 s_gnomonlaw03_TokenJoins_r5t5 (by kernel_rfl) f H
theorem s_gnomonlaw03_TokenJoins_r5t5_x (call : CallF) (it : IterF) (base : Nat) (f : List V) (H : Heap) : evC call it base (.region s_gnomonlaw03_TokenJoins_r5t5 [] [0, 1, 37, 38, 39, 40, 41, 42, 43, 44, 45]) f H = thenC call it base (.region s_gnomonlaw03_TokenJoins_r5t6 [] [0, 1, 37, 38, 39, 40, 41, 42, 43, 44, 45]) (opsC [] s_gnomonlaw03_TokenJoins_r5p5 [44] (evOps call base [⟨none, (.store 2 (.t 12) (.t 44)), none⟩] f H)) := (row_op call it base s_gnomonlaw03_TokenJoins_r5p5 s_gnomonlaw03_TokenJoins_r5t6 (kc := [44]) (by kernel_rfl) f H).trans (by rw [row_ops]; rfl)
theorem s_gnomonlaw03_TokenJoins_r5t6_tale (fr : List V) (H : Heap) : evTale (symAll s_gnomonlaw03_TokenJoins_r5t6 [0, 1, 37, 38, 39, 40, 41, 42, 43, 44, 45] [13]) [0, 1, 37, 38, 39, 40, 41, 42, 43, 44, 45] fr H = evTale (some (14, [], [(13, (.t 45))])) [0, 1, 37, 38, 39, 40, 41, 42, 43, 44, 45] fr H := tale_row (items := [.tt 45]) (by kernel_rfl) fr H
theorem s_gnomonlaw03_TokenJoins_r5t6_x (call : CallF) (it : IterF) (base : Nat) (f : List V) (H : Heap) : evC call it base (.region s_gnomonlaw03_TokenJoins_r5t6 [] [0, 1, 37, 38, 39, 40, 41, 42, 43, 44, 45]) f H = segL H (evTale (symAll s_gnomonlaw03_TokenJoins_r5t6 [0, 1, 37, 38, 39, 40, 41, 42, 43, 44, 45] [13]) [0, 1, 37, 38, 39, 40, 41, 42, 43, 44, 45] f H) (origRow call it base s_gnomonlaw03_TokenJoins_r5t6 [0, 1, 37, 38, 39, 40, 41, 42, 43, 44, 45] f H) := row_last call it base _ f H
def s_gnomonlaw03_TokenJoins_r6 : List AOper := [
  ⟨some 46, (.move (.t 7)), none⟩,
  ⟨some 47, (.bin .neq (.t 46) (.c (.s (.int .i64 0)))), none⟩]
theorem s_gnomonlaw03_TokenJoins_r6_tale (fr : List V) (H : Heap) : evTale (symAll s_gnomonlaw03_TokenJoins_r6 [46] [47]) [46] fr H = evTale (some (48, [], [(47, (.op (.bin .neq (.t 0) (.c (.s (.int .i64 0)))) [(.t 7), (.c (.s (.int .i64 0)))]))])) [46] fr H := tale_row (items := [.tt 7, .sub 0 [] []]) (by kernel_rfl) fr H
def s_gnomonlaw03_TokenJoins_r7t2 : List AOper := [⟨some 53, (.pick (.t 51) (.t 52) (.c (.s (.bool false)))), none⟩, ⟨some 4, (.move (.t 53)), none⟩]
def s_gnomonlaw03_TokenJoins_r7p1 : List AOper := [⟨some 52, (.call (.c (.fn 11 [] [])) []), some (51, true)⟩]
def s_gnomonlaw03_TokenJoins_r7t1 : List AOper := s_gnomonlaw03_TokenJoins_r7p1 ++ s_gnomonlaw03_TokenJoins_r7t2
def s_gnomonlaw03_TokenJoins_r7p0 : List AOper := [⟨some 48, (.move (.t 13)), none⟩, ⟨some 49, (.move (.t 7)), none⟩, ⟨some 50, (.bin .eql (.t 48) (.t 49)), none⟩, ⟨some 51, (.move (.t 50)), none⟩]
def s_gnomonlaw03_TokenJoins_r7 : List AOper := s_gnomonlaw03_TokenJoins_r7p0 ++ s_gnomonlaw03_TokenJoins_r7t1
theorem s_gnomonlaw03_TokenJoins_r7p0_tale (fr : List V) (H : Heap) : evTale (symAll s_gnomonlaw03_TokenJoins_r7p0 [5, 7, 8, 9, 10, 11, 12, 13, 47, 48, 49, 50] [51]) [5, 7, 8, 9, 10, 11, 12, 13, 47, 48, 49, 50] fr H = evTale (some (52, [], [(51, (.op (.bin .eql (.t 0) (.t 1)) [(.t 13), (.t 7)]))])) [5, 7, 8, 9, 10, 11, 12, 13, 47, 48, 49, 50] fr H := tale_row (items := [.tt 13, .tt 7, .sub 0 [] [], .sub 0 [] []]) (by kernel_rfl) fr H
theorem s_gnomonlaw03_TokenJoins_r7_x (call : CallF) (it : IterF) (base : Nat) (f : List V) (H : Heap) : evC call it base (.region s_gnomonlaw03_TokenJoins_r7 [] [5, 7, 8, 9, 10, 11, 12, 13, 47, 48, 49, 50, 51, 52, 53]) f H = segC call it base s_gnomonlaw03_TokenJoins_r7t1 [5, 7, 8, 9, 10, 11, 12, 13, 47, 48, 49, 50, 51, 52, 53] H (evTale (symAll s_gnomonlaw03_TokenJoins_r7p0 [5, 7, 8, 9, 10, 11, 12, 13, 47, 48, 49, 50] [51]) [5, 7, 8, 9, 10, 11, 12, 13, 47, 48, 49, 50] f H) (origRow call it base s_gnomonlaw03_TokenJoins_r7 [5, 7, 8, 9, 10, 11, 12, 13, 47, 48, 49, 50, 51, 52, 53] f H) := row_seg call it base s_gnomonlaw03_TokenJoins_r7p0 s_gnomonlaw03_TokenJoins_r7t1 (by kernel_rfl) f H
theorem s_gnomonlaw03_TokenJoins_r7t1_x (call : CallF) (it : IterF) (base : Nat) (f : List V) (H : Heap) : evC call it base (.region s_gnomonlaw03_TokenJoins_r7t1 [] [5, 7, 8, 9, 10, 11, 12, 13, 47, 48, 49, 50, 51, 52, 53]) f H = thenC call it base (.region s_gnomonlaw03_TokenJoins_r7t2 [] [5, 7, 8, 9, 10, 11, 12, 13, 47, 48, 49, 50, 51, 52, 53]) (opsC [] s_gnomonlaw03_TokenJoins_r7p1 [] (evOps call base [⟨some 52, (.call (.c (.fn 11 [] [])) []), some (51, true)⟩] f H)) := (row_op call it base s_gnomonlaw03_TokenJoins_r7p1 s_gnomonlaw03_TokenJoins_r7t2 (kc := []) (by kernel_rfl) f H).trans (by rw [row_ops]; rfl)
theorem s_gnomonlaw03_TokenJoins_r7t2_tale (fr : List V) (H : Heap) : evTale (symAll s_gnomonlaw03_TokenJoins_r7t2 [5, 7, 8, 9, 10, 11, 12, 13, 47, 48, 49, 50, 51, 52, 53] [4]) [5, 7, 8, 9, 10, 11, 12, 13, 47, 48, 49, 50, 51, 52, 53] fr H = evTale (some (54, [], [(4, (.pick (.t 51) (.t 52) (.c (.s (.bool false)))))])) [5, 7, 8, 9, 10, 11, 12, 13, 47, 48, 49, 50, 51, 52, 53] fr H := tale_row (items := [.sub 0 [] [], .sub 0 [] []]) (by kernel_rfl) fr H
theorem s_gnomonlaw03_TokenJoins_r7t2_x (call : CallF) (it : IterF) (base : Nat) (f : List V) (H : Heap) : evC call it base (.region s_gnomonlaw03_TokenJoins_r7t2 [] [5, 7, 8, 9, 10, 11, 12, 13, 47, 48, 49, 50, 51, 52, 53]) f H = segL H (evTale (symAll s_gnomonlaw03_TokenJoins_r7t2 [5, 7, 8, 9, 10, 11, 12, 13, 47, 48, 49, 50, 51, 52, 53] [4]) [5, 7, 8, 9, 10, 11, 12, 13, 47, 48, 49, 50, 51, 52, 53] f H) (origRow call it base s_gnomonlaw03_TokenJoins_r7t2 [5, 7, 8, 9, 10, 11, 12, 13, 47, 48, 49, 50, 51, 52, 53] f H) := row_last call it base _ f H
def s_gnomonlaw03_TokenJoins_r8 : List AOper := [
  ⟨some 54, (.move (.t 5)), none⟩,
  ⟨some 55, (.lenS .s (.t 54)), none⟩,
  ⟨some 56, (.bin .eql (.t 55) (.c (.s (.int .i64 0)))), none⟩]
theorem s_gnomonlaw03_TokenJoins_r8_tale (fr : List V) (H : Heap) : evTale (symAll s_gnomonlaw03_TokenJoins_r8 [7, 47, 54, 55] [56]) [7, 47, 54, 55] fr H = evTale (some (57, [], [(56, (.op (.bin .eql (.t 0) (.c (.s (.int .i64 0)))) [(.op (.lenS .s (.t 0)) [(.t 5)]), (.c (.s (.int .i64 0)))]))])) [7, 47, 54, 55] fr H := tale_row (items := [.tt 5, .sub 0 [0] [], .sub 0 [] []]) (by kernel_rfl) fr H
def s_gnomonlaw03_TokenJoins_r9 : List AOper := [
  ⟨some 4, (.move (.c (.s (.bool false)))), none⟩]
theorem s_gnomonlaw03_TokenJoins_r9_tale (fr : List V) (H : Heap) : evTale (symAll s_gnomonlaw03_TokenJoins_r9 [5, 8, 9, 10, 11, 12, 13, 56] [4]) [5, 8, 9, 10, 11, 12, 13, 56] fr H = evTale (some (5, [], [(4, (.c (.s (.bool false))))])) [5, 8, 9, 10, 11, 12, 13, 56] fr H := tale_row (items := [.cc (.s (.bool false))]) (by kernel_rfl) fr H
def s_gnomonlaw03_TokenJoins_r10 : List AOper := [
  ⟨some 57, (.move (.t 5)), none⟩,
  ⟨some 58, (.move (.t 5)), none⟩,
  ⟨some 59, (.lenS .s (.t 58)), none⟩,
  ⟨some 60, (.bin .sub (.t 59) (.c (.s (.int .i64 1)))), none⟩,
  ⟨some 61, (.indexAddr 5 (.t 57) (.t 60)), none⟩,
  ⟨some 62, (.fieldAddr 3 (.t 61)), none⟩,
  ⟨some 63, (.fieldAddr 0 (.t 62)), none⟩,
  ⟨some 64, (.load false 1 (.t 63)), none⟩,
  ⟨some 14, (.move (.t 64)), none⟩]
theorem s_gnomonlaw03_TokenJoins_r10_tale (fr : List V) (H : Heap) : evTale (symAll s_gnomonlaw03_TokenJoins_r10 [56, 57, 58, 59, 60, 61, 62, 63, 64] [14]) [56, 57, 58, 59, 60, 61, 62, 63, 64] fr H = evTale (some (65, [], [(14, (.op (.load false 1 (.t 0)) [(.op (.fieldAddr 0 (.t 0)) [(.op (.fieldAddr 3 (.t 0)) [(.op (.indexAddr 5 (.t 0) (.t 1)) [(.t 5), (.op (.bin .sub (.t 0) (.c (.s (.int .i64 1)))) [(.op (.lenS .s (.t 0)) [(.t 5)]), (.c (.s (.int .i64 1)))])])])])]))])) [56, 57, 58, 59, 60, 61, 62, 63, 64] fr H := tale_row (items := [.tt 5, .tt 5, .sub 0 [0, 0, 0, 1, 0] [], .sub 0 [0, 0, 0, 1] [], .sub 0 [0, 0, 0] [], .sub 0 [0, 0] [], .sub 0 [0] [], .sub 0 [] [], .sub 0 [] []]) (by kernel_rfl) fr H
def s_gnomonlaw03_TokenJoins_r11 : List AOper := [
  ⟨some 65, (.move (.t 10)), none⟩,
  ⟨some 66, (.bin .neq (.t 65) (.c (.s (.int .i64 0)))), none⟩]
theorem s_gnomonlaw03_TokenJoins_r11_tale (fr : List V) (H : Heap) : evTale (symAll s_gnomonlaw03_TokenJoins_r11 [65] [66]) [65] fr H = evTale (some (67, [], [(66, (.op (.bin .neq (.t 0) (.c (.s (.int .i64 0)))) [(.t 10), (.c (.s (.int .i64 0)))]))])) [65] fr H := tale_row (items := [.tt 10, .sub 0 [] []]) (by kernel_rfl) fr H
def s_gnomonlaw03_TokenJoins_r12t2 : List AOper := [⟨some 83, (.pick (.t 81) (.t 82) (.c (.s (.bool false)))), none⟩, ⟨some 4, (.move (.t 83)), none⟩]
def s_gnomonlaw03_TokenJoins_r12p1 : List AOper := [⟨some 82, (.call (.c (.fn 11 [] [])) []), some (81, true)⟩]
def s_gnomonlaw03_TokenJoins_r12t1 : List AOper := s_gnomonlaw03_TokenJoins_r12p1 ++ s_gnomonlaw03_TokenJoins_r12t2
def s_gnomonlaw03_TokenJoins_r12p0 : List AOper := [⟨some 67, (.move (.t 13)), none⟩, ⟨some 68, (.move (.t 10)), none⟩, ⟨some 69, (.bin .eql (.t 67) (.t 68)), none⟩, ⟨some 70, (.move (.t 69)), none⟩, ⟨some 71, (.load true 2 (.t 12)), some (70, true)⟩, ⟨some 72, (.fieldAddr 0 (.t 9)), some (70, true)⟩, ⟨some 73, (.load false 1 (.t 72)), some (70, true)⟩, ⟨some 74, (.move (.t 14)), some (70, true)⟩, ⟨some 75, (.bin .add (.t 73) (.t 74)), some (70, true)⟩, ⟨some 76, (.fieldAddr 1 (.t 9)), some (70, true)⟩, ⟨some 77, (.load false 1 (.t 76)), some (70, true)⟩, ⟨some 78, (.build [(.s (.int .i64 0)), (.s (.int .i64 0))] [(0, 1), (1, 1)] [(0, (.t 75)), (1, (.t 77))]), some (70, true)⟩, ⟨some 79, (.eqAgg false [(.int .i64), (.int .i64)] (.t 71) (.t 78)), some (70, true)⟩, ⟨some 80, (.pick (.t 70) (.t 79) (.c (.s (.bool false)))), none⟩, ⟨some 81, (.move (.t 80)), none⟩]
def s_gnomonlaw03_TokenJoins_r12 : List AOper := s_gnomonlaw03_TokenJoins_r12p0 ++ s_gnomonlaw03_TokenJoins_r12t1
theorem s_gnomonlaw03_TokenJoins_r12p0_tale (fr : List V) (H : Heap) : evTale (symAll s_gnomonlaw03_TokenJoins_r12p0 [5, 8, 9, 10, 11, 12, 13, 14, 66, 67, 68, 69, 70, 71, 72, 73, 74, 75, 76, 77, 78, 79, 80] [81]) [5, 8, 9, 10, 11, 12, 13, 14, 66, 67, 68, 69, 70, 71, 72, 73, 74, 75, 76, 77, 78, 79, 80] fr H = evTale (some (82, [], [(81, (.pick (.op (.bin .eql (.t 0) (.t 1)) [(.t 13), (.t 10)]) (.op (.eqAgg false [(.int .i64), (.int .i64)] (.t 0) (.t 1)) [(.op (.load true 2 (.t 0)) [(.t 12)]), (.op (.build [(.s (.int .i64 0)), (.s (.int .i64 0))] [(0, 1), (1, 1)] [(0, (.t 0)), (1, (.t 1))]) [(.op (.bin .add (.t 0) (.t 1)) [(.op (.load false 1 (.t 0)) [(.op (.fieldAddr 0 (.t 0)) [(.t 9)])]), (.t 14)]), (.op (.load false 1 (.t 0)) [(.op (.fieldAddr 1 (.t 0)) [(.t 9)])])])]) (.c (.s (.bool false)))))])) [5, 8, 9, 10, 11, 12, 13, 14, 66, 67, 68, 69, 70, 71, 72, 73, 74, 75, 76, 77, 78, 79, 80] fr H := tale_row (items := [.tt 13, .tt 10, .sub 0 [0] [], .sub 0 [0] [], .sub 0 [1, 0] [70], .sub 0 [1, 1, 0, 0, 0] [70], .sub 0 [1, 1, 0, 0] [70], .sub 0 [1, 1, 0, 1] [70], .sub 0 [1, 1, 0] [70], .sub 0 [1, 1, 1, 0] [70], .sub 0 [1, 1, 1] [70], .sub 0 [1, 1] [70], .sub 0 [1] [70], .sub 0 [] [], .sub 0 [] []]) (by kernel_rfl) fr H
theorem s_gnomonlaw03_TokenJoins_r12_x (call : CallF) (it : IterF) (base : Nat) (f : List V) (H : Heap) : evC call it base (.region s_gnomonlaw03_TokenJoins_r12 [] [5, 8, 9, 10, 11, 12, 13, 14, 66, 67, 68, 69, 70, 71, 72, 73, 74, 75, 76, 77, 78, 79, 80, 81, 82, 83]) f H = segC call it base s_gnomonlaw03_TokenJoins_r12t1 [5, 8, 9, 10, 11, 12, 13, 14, 66, 67, 68, 69, 70, 71, 72, 73, 74, 75, 76, 77, 78, 79, 80, 81, 82, 83] H (evTale (symAll s_gnomonlaw03_TokenJoins_r12p0 [5, 8, 9, 10, 11, 12, 13, 14, 66, 67, 68, 69, 70, 71, 72, 73, 74, 75, 76, 77, 78, 79, 80] [81]) [5, 8, 9, 10, 11, 12, 13, 14, 66, 67, 68, 69, 70, 71, 72, 73, 74, 75, 76, 77, 78, 79, 80] f H) (origRow call it base s_gnomonlaw03_TokenJoins_r12 [5, 8, 9, 10, 11, 12, 13, 14, 66, 67, 68, 69, 70, 71, 72, 73, 74, 75, 76, 77, 78, 79, 80, 81, 82, 83] f H) := row_seg call it base s_gnomonlaw03_TokenJoins_r12p0 s_gnomonlaw03_TokenJoins_r12t1 (by kernel_rfl) f H
theorem s_gnomonlaw03_TokenJoins_r12t1_x (call : CallF) (it : IterF) (base : Nat) (f : List V) (H : Heap) : evC call it base (.region s_gnomonlaw03_TokenJoins_r12t1 [] [5, 8, 9, 10, 11, 12, 13, 14, 66, 67, 68, 69, 70, 71, 72, 73, 74, 75, 76, 77, 78, 79, 80, 81, 82, 83]) f H = thenC call it base (.region s_gnomonlaw03_TokenJoins_r12t2 [] [5, 8, 9, 10, 11, 12, 13, 14, 66, 67, 68, 69, 70, 71, 72, 73, 74, 75, 76, 77, 78, 79, 80, 81, 82, 83]) (opsC [] s_gnomonlaw03_TokenJoins_r12p1 [] (evOps call base [⟨some 82, (.call (.c (.fn 11 [] [])) []), some (81, true)⟩] f H)) := (row_op call it base s_gnomonlaw03_TokenJoins_r12p1 s_gnomonlaw03_TokenJoins_r12t2 (kc := []) (by kernel_rfl) f H).trans (by rw [row_ops]; rfl)
theorem s_gnomonlaw03_TokenJoins_r12t2_tale (fr : List V) (H : Heap) : evTale (symAll s_gnomonlaw03_TokenJoins_r12t2 [5, 8, 9, 10, 11, 12, 13, 14, 66, 67, 68, 69, 70, 71, 72, 73, 74, 75, 76, 77, 78, 79, 80, 81, 82, 83] [4]) [5, 8, 9, 10, 11, 12, 13, 14, 66, 67, 68, 69, 70, 71, 72, 73, 74, 75, 76, 77, 78, 79, 80, 81, 82, 83] fr H = evTale (some (84, [], [(4, (.pick (.t 81) (.t 82) (.c (.s (.bool false)))))])) [5, 8, 9, 10, 11, 12, 13, 14, 66, 67, 68, 69, 70, 71, 72, 73, 74, 75, 76, 77, 78, 79, 80, 81, 82, 83] fr H := tale_row (items := [.sub 0 [] [], .sub 0 [] []]) (by kernel_rfl) fr H
theorem s_gnomonlaw03_TokenJoins_r12t2_x (call : CallF) (it : IterF) (base : Nat) (f : List V) (H : Heap) : evC call it base (.region s_gnomonlaw03_TokenJoins_r12t2 [] [5, 8, 9, 10, 11, 12, 13, 14, 66, 67, 68, 69, 70, 71, 72, 73, 74, 75, 76, 77, 78, 79, 80, 81, 82, 83]) f H = segL H (evTale (symAll s_gnomonlaw03_TokenJoins_r12t2 [5, 8, 9, 10, 11, 12, 13, 14, 66, 67, 68, 69, 70, 71, 72, 73, 74, 75, 76, 77, 78, 79, 80, 81, 82, 83] [4]) [5, 8, 9, 10, 11, 12, 13, 14, 66, 67, 68, 69, 70, 71, 72, 73, 74, 75, 76, 77, 78, 79, 80, 81, 82, 83] f H) (origRow call it base s_gnomonlaw03_TokenJoins_r12t2 [5, 8, 9, 10, 11, 12, 13, 14, 66, 67, 68, 69, 70, 71, 72, 73, 74, 75, 76, 77, 78, 79, 80, 81, 82, 83] f H) := row_last call it base _ f H
def s_gnomonlaw03_TokenJoins_r13 : List AOper := [
  ⟨some 84, (.move (.t 13)), none⟩,
  ⟨some 85, (.bin .neq (.t 84) (.c (.s (.int .i64 0)))), none⟩,
  ⟨some 86, (.move (.t 85)), none⟩,
  ⟨some 87, (.move (.t 11)), some (86, false)⟩,
  ⟨some 88, (.lenS .s (.t 87)), some (86, false)⟩,
  ⟨some 89, (.move (.t 5)), some (86, false)⟩,
  ⟨some 90, (.lenS .s (.t 89)), some (86, false)⟩,
  ⟨some 91, (.move (.t 8)), some (86, false)⟩,
  ⟨some 92, (.lenS .s (.t 91)), some (86, false)⟩,
  ⟨some 93, (.bin .add (.t 90) (.t 92)), some (86, false)⟩,
  ⟨some 94, (.bin .sub (.t 93) (.c (.s (.int .i64 1)))), some (86, false)⟩,
  ⟨some 95, (.bin .neq (.t 88) (.t 94)), some (86, false)⟩,
  ⟨some 96, (.pick (.t 86) (.c (.s (.bool true))) (.t 95)), none⟩]
theorem s_gnomonlaw03_TokenJoins_r13_tale (fr : List V) (H : Heap) : evTale (symAll s_gnomonlaw03_TokenJoins_r13 [9, 10, 12, 13, 66, 84, 85, 86, 87, 88, 89, 90, 91, 92, 93, 94, 95] [96]) [9, 10, 12, 13, 66, 84, 85, 86, 87, 88, 89, 90, 91, 92, 93, 94, 95] fr H = evTale (some (97, [], [(96, (.pick (.op (.bin .neq (.t 0) (.c (.s (.int .i64 0)))) [(.t 13), (.c (.s (.int .i64 0)))]) (.c (.s (.bool true))) (.op (.bin .neq (.t 0) (.t 1)) [(.op (.lenS .s (.t 0)) [(.t 11)]), (.op (.bin .sub (.t 0) (.c (.s (.int .i64 1)))) [(.op (.bin .add (.t 0) (.t 1)) [(.op (.lenS .s (.t 0)) [(.t 5)]), (.op (.lenS .s (.t 0)) [(.t 8)])]), (.c (.s (.int .i64 1)))])])))])) [9, 10, 12, 13, 66, 84, 85, 86, 87, 88, 89, 90, 91, 92, 93, 94, 95] fr H := tale_row (items := [.tt 13, .sub 0 [0] [], .sub 0 [0] [], .sub 0 [2, 0, 0] [86], .sub 0 [2, 0] [86], .sub 0 [2, 1, 0, 0, 0] [86], .sub 0 [2, 1, 0, 0] [86], .sub 0 [2, 1, 0, 1, 0] [86], .sub 0 [2, 1, 0, 1] [86], .sub 0 [2, 1, 0] [86], .sub 0 [2, 1] [86], .sub 0 [2] [86], .sub 0 [] []]) (by kernel_rfl) fr H
def s_gnomonlaw03_TokenJoins_r14 : List AOper := [
  ⟨some 4, (.move (.c (.s (.bool false)))), none⟩]
theorem s_gnomonlaw03_TokenJoins_r14_tale (fr : List V) (H : Heap) : evTale (symAll s_gnomonlaw03_TokenJoins_r14 [5, 8, 11, 14, 96] [4]) [5, 8, 11, 14, 96] fr H = evTale (some (5, [], [(4, (.c (.s (.bool false))))])) [5, 8, 11, 14, 96] fr H := tale_row (items := [.cc (.s (.bool false))]) (by kernel_rfl) fr H
def s_gnomonlaw03_TokenJoins_r15 : List AOper := [
  ⟨some 15, (.move (.c (.s (.int .i64 0)))), none⟩]
theorem s_gnomonlaw03_TokenJoins_r15_tale (fr : List V) (H : Heap) : evTale (symAll s_gnomonlaw03_TokenJoins_r15 [96] [15]) [96] fr H = evTale (some (16, [], [(15, (.c (.s (.int .i64 0))))])) [96] fr H := tale_row (items := [.cc (.s (.int .i64 0))]) (by kernel_rfl) fr H
def s_gnomonlaw03_TokenJoins_r16 : List AOper := [
  ⟨some 97, (.move (.t 15)), none⟩,
  ⟨some 98, (.move (.t 11)), none⟩,
  ⟨some 99, (.lenS .s (.t 98)), none⟩,
  ⟨some 100, (.bin .lss (.t 97) (.t 99)), none⟩]
theorem s_gnomonlaw03_TokenJoins_r16_tale (fr : List V) (H : Heap) : evTale (symAll s_gnomonlaw03_TokenJoins_r16 [97, 98, 99] [100]) [97, 98, 99] fr H = evTale (some (101, [], [(100, (.op (.bin .lss (.t 0) (.t 1)) [(.t 15), (.op (.lenS .s (.t 0)) [(.t 11)])]))])) [97, 98, 99] fr H := tale_row (items := [.tt 15, .tt 11, .sub 0 [1] [], .sub 0 [] []]) (by kernel_rfl) fr H
def s_gnomonlaw03_TokenJoins_r17t2 : List AOper := [⟨none, (.store 5 (.t 16) (.t 106)), none⟩]
def s_gnomonlaw03_TokenJoins_r17p1 : List AOper := [⟨some 16, (.alloc [(.s (.int .u8 0)), (.s (.string ⟨#[]⟩)), (.s (.int .i64 0)), (.s (.int .i64 0)), (.s (.int .i64 0))]), none⟩]
def s_gnomonlaw03_TokenJoins_r17t1 : List AOper := s_gnomonlaw03_TokenJoins_r17p1 ++ s_gnomonlaw03_TokenJoins_r17t2
def s_gnomonlaw03_TokenJoins_r17p0 : List AOper := [⟨some 103, (.move (.t 11)), none⟩, ⟨some 104, (.move (.t 15)), none⟩, ⟨some 105, (.indexAddr 5 (.t 103) (.t 104)), none⟩, ⟨some 106, (.load true 5 (.t 105)), none⟩]
def s_gnomonlaw03_TokenJoins_r17 : List AOper := s_gnomonlaw03_TokenJoins_r17p0 ++ s_gnomonlaw03_TokenJoins_r17t1
theorem s_gnomonlaw03_TokenJoins_r17p0_tale (fr : List V) (H : Heap) : evTale (symAll s_gnomonlaw03_TokenJoins_r17p0 [100, 103, 104, 105] [106]) [100, 103, 104, 105] fr H = evTale (some (107, [], [(106, (.op (.load true 5 (.t 0)) [(.op (.indexAddr 5 (.t 0) (.t 1)) [(.t 11), (.t 15)])]))])) [100, 103, 104, 105] fr H := tale_row (items := [.tt 11, .tt 15, .sub 0 [0] [], .sub 0 [] []]) (by kernel_rfl) fr H
theorem s_gnomonlaw03_TokenJoins_r17_x (call : CallF) (it : IterF) (base : Nat) (f : List V) (H : Heap) : evC call it base (.region s_gnomonlaw03_TokenJoins_r17 [] [100, 103, 104, 105, 106]) f H = segC call it base s_gnomonlaw03_TokenJoins_r17t1 [100, 103, 104, 105, 106] H (evTale (symAll s_gnomonlaw03_TokenJoins_r17p0 [100, 103, 104, 105] [106]) [100, 103, 104, 105] f H) (origRow call it base s_gnomonlaw03_TokenJoins_r17 [100, 103, 104, 105, 106] f H) := row_seg call it base s_gnomonlaw03_TokenJoins_r17p0 s_gnomonlaw03_TokenJoins_r17t1 (by kernel_rfl) f H
theorem s_gnomonlaw03_TokenJoins_r17t1_x (call : CallF) (it : IterF) (base : Nat) (f : List V) (H : Heap) : evC call it base (.region s_gnomonlaw03_TokenJoins_r17t1 [] [100, 103, 104, 105, 106]) f H = thenC call it base (.region s_gnomonlaw03_TokenJoins_r17t2 [] [100, 103, 104, 105, 106]) (opsC [] s_gnomonlaw03_TokenJoins_r17p1 [] (evOps call base [⟨some 16, (.alloc [(.s (.int .u8 0)), (.s (.string ⟨#[]⟩)), (.s (.int .i64 0)), (.s (.int .i64 0)), (.s (.int .i64 0))]), none⟩] f H)) := (row_op call it base s_gnomonlaw03_TokenJoins_r17p1 s_gnomonlaw03_TokenJoins_r17t2 (kc := []) (by kernel_rfl) f H).trans (by rw [row_ops]; rfl)
theorem s_gnomonlaw03_TokenJoins_r17t2_x (call : CallF) (it : IterF) (base : Nat) (f : List V) (H : Heap) : evC call it base (.region s_gnomonlaw03_TokenJoins_r17t2 [] [100, 103, 104, 105, 106]) f H = opsC [] s_gnomonlaw03_TokenJoins_r17t2 [100, 103, 104, 105, 106] (evOps call base [⟨none, (.store 5 (.t 16) (.t 106)), none⟩] f H) := row_ops call it base _ _ f H
def s_gnomonlaw03_TokenJoins_r18 : List AOper := [
  ⟨some 107, (.move (.t 15)), none⟩,
  ⟨some 108, (.move (.t 5)), none⟩,
  ⟨some 109, (.lenS .s (.t 108)), none⟩,
  ⟨some 110, (.bin .sub (.t 109) (.c (.s (.int .i64 1)))), none⟩,
  ⟨some 111, (.bin .lss (.t 107) (.t 110)), none⟩]
theorem s_gnomonlaw03_TokenJoins_r18_tale (fr : List V) (H : Heap) : evTale (symAll s_gnomonlaw03_TokenJoins_r18 [107, 108, 109, 110] [111]) [107, 108, 109, 110] fr H = evTale (some (112, [], [(111, (.op (.bin .lss (.t 0) (.t 1)) [(.t 15), (.op (.bin .sub (.t 0) (.c (.s (.int .i64 1)))) [(.op (.lenS .s (.t 0)) [(.t 5)]), (.c (.s (.int .i64 1)))])]))])) [107, 108, 109, 110] fr H := tale_row (items := [.tt 15, .tt 5, .sub 0 [1, 0] [], .sub 0 [1] [], .sub 0 [] []]) (by kernel_rfl) fr H
def s_gnomonlaw03_TokenJoins_r19t1 : List AOper := [⟨none, (.store 5 (.t 16) (.t 115)), none⟩]
def s_gnomonlaw03_TokenJoins_r19p0 : List AOper := [⟨some 112, (.move (.t 5)), none⟩, ⟨some 113, (.move (.t 15)), none⟩, ⟨some 114, (.indexAddr 5 (.t 112) (.t 113)), none⟩, ⟨some 115, (.load true 5 (.t 114)), none⟩]
def s_gnomonlaw03_TokenJoins_r19 : List AOper := s_gnomonlaw03_TokenJoins_r19p0 ++ s_gnomonlaw03_TokenJoins_r19t1
theorem s_gnomonlaw03_TokenJoins_r19p0_tale (fr : List V) (H : Heap) : evTale (symAll s_gnomonlaw03_TokenJoins_r19p0 [111, 112, 113, 114] [115]) [111, 112, 113, 114] fr H = evTale (some (116, [], [(115, (.op (.load true 5 (.t 0)) [(.op (.indexAddr 5 (.t 0) (.t 1)) [(.t 5), (.t 15)])]))])) [111, 112, 113, 114] fr H := tale_row (items := [.tt 5, .tt 15, .sub 0 [0] [], .sub 0 [] []]) (by kernel_rfl) fr H
theorem s_gnomonlaw03_TokenJoins_r19_x (call : CallF) (it : IterF) (base : Nat) (f : List V) (H : Heap) : evC call it base (.region s_gnomonlaw03_TokenJoins_r19 [] [111, 112, 113, 114, 115]) f H = segC call it base s_gnomonlaw03_TokenJoins_r19t1 [111, 112, 113, 114, 115] H (evTale (symAll s_gnomonlaw03_TokenJoins_r19p0 [111, 112, 113, 114] [115]) [111, 112, 113, 114] f H) (origRow call it base s_gnomonlaw03_TokenJoins_r19 [111, 112, 113, 114, 115] f H) := row_seg call it base s_gnomonlaw03_TokenJoins_r19p0 s_gnomonlaw03_TokenJoins_r19t1 (by kernel_rfl) f H
theorem s_gnomonlaw03_TokenJoins_r19t1_x (call : CallF) (it : IterF) (base : Nat) (f : List V) (H : Heap) : evC call it base (.region s_gnomonlaw03_TokenJoins_r19t1 [] [111, 112, 113, 114, 115]) f H = opsC [] s_gnomonlaw03_TokenJoins_r19t1 [111, 112, 113, 114, 115] (evOps call base [⟨none, (.store 5 (.t 16) (.t 115)), none⟩] f H) := row_ops call it base _ _ f H
def s_gnomonlaw03_TokenJoins_r20t1 : List AOper := [⟨none, (.store 5 (.t 16) (.t 123)), none⟩]
def s_gnomonlaw03_TokenJoins_r20p0 : List AOper := [⟨some 116, (.move (.t 8)), none⟩, ⟨some 117, (.move (.t 15)), none⟩, ⟨some 118, (.move (.t 5)), none⟩, ⟨some 119, (.lenS .s (.t 118)), none⟩, ⟨some 120, (.bin .sub (.t 117) (.t 119)), none⟩, ⟨some 121, (.bin .add (.t 120) (.c (.s (.int .i64 1)))), none⟩, ⟨some 122, (.indexAddr 5 (.t 116) (.t 121)), none⟩, ⟨some 123, (.load true 5 (.t 122)), none⟩]
def s_gnomonlaw03_TokenJoins_r20 : List AOper := s_gnomonlaw03_TokenJoins_r20p0 ++ s_gnomonlaw03_TokenJoins_r20t1
theorem s_gnomonlaw03_TokenJoins_r20p0_tale (fr : List V) (H : Heap) : evTale (symAll s_gnomonlaw03_TokenJoins_r20p0 [111, 116, 117, 118, 119, 120, 121, 122] [123]) [111, 116, 117, 118, 119, 120, 121, 122] fr H = evTale (some (124, [], [(123, (.op (.load true 5 (.t 0)) [(.op (.indexAddr 5 (.t 0) (.t 1)) [(.t 8), (.op (.bin .add (.t 0) (.c (.s (.int .i64 1)))) [(.op (.bin .sub (.t 0) (.t 1)) [(.t 15), (.op (.lenS .s (.t 0)) [(.t 5)])]), (.c (.s (.int .i64 1)))])])]))])) [111, 116, 117, 118, 119, 120, 121, 122] fr H := tale_row (items := [.tt 8, .tt 15, .tt 5, .sub 0 [0, 1, 0, 1] [], .sub 0 [0, 1, 0] [], .sub 0 [0, 1] [], .sub 0 [0] [], .sub 0 [] []]) (by kernel_rfl) fr H
theorem s_gnomonlaw03_TokenJoins_r20_x (call : CallF) (it : IterF) (base : Nat) (f : List V) (H : Heap) : evC call it base (.region s_gnomonlaw03_TokenJoins_r20 [] [111, 116, 117, 118, 119, 120, 121, 122, 123]) f H = segC call it base s_gnomonlaw03_TokenJoins_r20t1 [111, 116, 117, 118, 119, 120, 121, 122, 123] H (evTale (symAll s_gnomonlaw03_TokenJoins_r20p0 [111, 116, 117, 118, 119, 120, 121, 122] [123]) [111, 116, 117, 118, 119, 120, 121, 122] f H) (origRow call it base s_gnomonlaw03_TokenJoins_r20 [111, 116, 117, 118, 119, 120, 121, 122, 123] f H) := row_seg call it base s_gnomonlaw03_TokenJoins_r20p0 s_gnomonlaw03_TokenJoins_r20t1 (by kernel_rfl) f H
theorem s_gnomonlaw03_TokenJoins_r20t1_x (call : CallF) (it : IterF) (base : Nat) (f : List V) (H : Heap) : evC call it base (.region s_gnomonlaw03_TokenJoins_r20t1 [] [111, 116, 117, 118, 119, 120, 121, 122, 123]) f H = opsC [] s_gnomonlaw03_TokenJoins_r20t1 [111, 116, 117, 118, 119, 120, 121, 122, 123] (evOps call base [⟨none, (.store 5 (.t 16) (.t 123)), none⟩] f H) := row_ops call it base _ _ f H
def s_gnomonlaw03_TokenJoins_r21t1 : List AOper := [⟨none, (.store 1 (.t 130) (.t 128)), none⟩]
def s_gnomonlaw03_TokenJoins_r21p0 : List AOper := [⟨some 124, (.fieldAddr 3 (.t 16)), none⟩, ⟨some 125, (.fieldAddr 0 (.t 124)), none⟩, ⟨some 126, (.load false 1 (.t 125)), none⟩, ⟨some 127, (.move (.t 14)), none⟩, ⟨some 128, (.bin .add (.t 126) (.t 127)), none⟩, ⟨some 129, (.fieldAddr 3 (.t 16)), none⟩, ⟨some 130, (.fieldAddr 0 (.t 129)), none⟩]
def s_gnomonlaw03_TokenJoins_r21 : List AOper := s_gnomonlaw03_TokenJoins_r21p0 ++ s_gnomonlaw03_TokenJoins_r21t1
theorem s_gnomonlaw03_TokenJoins_r21p0_tale (fr : List V) (H : Heap) : evTale (symAll s_gnomonlaw03_TokenJoins_r21p0 [124, 125, 126, 127, 129] [128, 130]) [124, 125, 126, 127, 129] fr H = evTale (some (131, [], [(128, (.op (.bin .add (.t 0) (.t 1)) [(.op (.load false 1 (.t 0)) [(.op (.fieldAddr 0 (.t 0)) [(.op (.fieldAddr 3 (.t 0)) [(.t 16)])])]), (.t 14)])), (130, (.op (.fieldAddr 0 (.t 0)) [(.op (.fieldAddr 3 (.t 0)) [(.t 16)])]))])) [124, 125, 126, 127, 129] fr H := tale_row (items := [.sub 0 [0, 0, 0] [], .sub 0 [0, 0] [], .sub 0 [0] [], .tt 14, .sub 0 [] [], .sub 0 [0, 0, 0] [], .sub 0 [0, 0] []]) (by kernel_rfl) fr H
theorem s_gnomonlaw03_TokenJoins_r21_x (call : CallF) (it : IterF) (base : Nat) (f : List V) (H : Heap) : evC call it base (.region s_gnomonlaw03_TokenJoins_r21 [] [124, 125, 126, 127, 128, 129, 130]) f H = segC call it base s_gnomonlaw03_TokenJoins_r21t1 [124, 125, 126, 127, 128, 129, 130] H (evTale (symAll s_gnomonlaw03_TokenJoins_r21p0 [124, 125, 126, 127, 129] [128, 130]) [124, 125, 126, 127, 129] f H) (origRow call it base s_gnomonlaw03_TokenJoins_r21 [124, 125, 126, 127, 128, 129, 130] f H) := row_seg call it base s_gnomonlaw03_TokenJoins_r21p0 s_gnomonlaw03_TokenJoins_r21t1 (by kernel_rfl) f H
theorem s_gnomonlaw03_TokenJoins_r21t1_x (call : CallF) (it : IterF) (base : Nat) (f : List V) (H : Heap) : evC call it base (.region s_gnomonlaw03_TokenJoins_r21t1 [] [124, 125, 126, 127, 128, 129, 130]) f H = opsC [] s_gnomonlaw03_TokenJoins_r21t1 [124, 125, 126, 127, 128, 129, 130] (evOps call base [⟨none, (.store 1 (.t 130) (.t 128)), none⟩] f H) := row_ops call it base _ _ f H
def s_gnomonlaw03_TokenJoins_r22 : List AOper := [
  ⟨some 131, (.move (.t 11)), none⟩,
  ⟨some 132, (.move (.t 15)), none⟩,
  ⟨some 133, (.indexAddr 5 (.t 131) (.t 132)), none⟩,
  ⟨some 134, (.load true 5 (.t 133)), none⟩,
  ⟨some 135, (.load true 5 (.t 16)), none⟩,
  ⟨some 136, (.eqAgg true [(.int .u8), .str, (.int .i64), (.int .i64), (.int .i64)] (.t 134) (.t 135)), none⟩]
theorem s_gnomonlaw03_TokenJoins_r22_tale (fr : List V) (H : Heap) : evTale (symAll s_gnomonlaw03_TokenJoins_r22 [16, 131, 132, 133, 134, 135] [136]) [16, 131, 132, 133, 134, 135] fr H = evTale (some (137, [], [(136, (.op (.eqAgg true [(.int .u8), .str, (.int .i64), (.int .i64), (.int .i64)] (.t 0) (.t 1)) [(.op (.load true 5 (.t 0)) [(.op (.indexAddr 5 (.t 0) (.t 1)) [(.t 11), (.t 15)])]), (.op (.load true 5 (.t 0)) [(.t 16)])]))])) [16, 131, 132, 133, 134, 135] fr H := tale_row (items := [.tt 11, .tt 15, .sub 0 [0, 0] [], .sub 0 [0] [], .sub 0 [1] [], .sub 0 [] []]) (by kernel_rfl) fr H
def s_gnomonlaw03_TokenJoins_r23 : List AOper := [
  ⟨some 4, (.move (.c (.s (.bool false)))), none⟩]
theorem s_gnomonlaw03_TokenJoins_r23_tale (fr : List V) (H : Heap) : evTale (symAll s_gnomonlaw03_TokenJoins_r23 [5, 8, 11, 14, 15, 136] [4]) [5, 8, 11, 14, 15, 136] fr H = evTale (some (5, [], [(4, (.c (.s (.bool false))))])) [5, 8, 11, 14, 15, 136] fr H := tale_row (items := [.cc (.s (.bool false))]) (by kernel_rfl) fr H
def s_gnomonlaw03_TokenJoins_r24 : List AOper := [
  ⟨some 101, (.move (.t 15)), none⟩,
  ⟨some 102, (.bin .add (.t 101) (.c (.s (.int .i64 1)))), none⟩,
  ⟨some 15, (.move (.t 102)), none⟩]
theorem s_gnomonlaw03_TokenJoins_r24_tale (fr : List V) (H : Heap) : evTale (symAll s_gnomonlaw03_TokenJoins_r24 [101, 102, 136] [15]) [101, 102, 136] fr H = evTale (some (103, [], [(15, (.op (.bin .add (.t 0) (.c (.s (.int .i64 1)))) [(.t 15), (.c (.s (.int .i64 1)))]))])) [101, 102, 136] fr H := tale_row (items := [.tt 15, .sub 0 [] [], .sub 0 [] []]) (by kernel_rfl) fr H
def s_gnomonlaw03_TokenJoins_l0_b : ACode :=
  (.seq (.seq (.regionE s_gnomonlaw03_TokenJoins_r16 [97, 98, 99] [100])
  (.cond (.t 100)
  .skip
  (.exit 0)))
  (.seq (.block 1
  (.seq (.region s_gnomonlaw03_TokenJoins_r17 [] [100, 103, 104, 105, 106])
  (.seq (.seq (.regionE s_gnomonlaw03_TokenJoins_r18 [107, 108, 109, 110] [111])
  (.cond (.t 111)
  (.region s_gnomonlaw03_TokenJoins_r19 [] [111, 112, 113, 114, 115])
  (.seq (.region s_gnomonlaw03_TokenJoins_r20 [] [111, 116, 117, 118, 119, 120, 121, 122, 123])
  (.region s_gnomonlaw03_TokenJoins_r21 [] [124, 125, 126, 127, 128, 129, 130]))))
  (.seq (.regionE s_gnomonlaw03_TokenJoins_r22 [16, 131, 132, 133, 134, 135] [136])
  (.cond (.t 136)
  (.seq (.regionE s_gnomonlaw03_TokenJoins_r23 [5, 8, 11, 14, 15, 136] [4])
  .ret)
  .skip)))))
  (.regionE s_gnomonlaw03_TokenJoins_r24 [101, 102, 136] [15])))
def s_gnomonlaw03_TokenJoins_l0 : ACode := s_gnomonlaw03_TokenJoins_l0_b
theorem s_gnomonlaw03_TokenJoins_l0_ev (call : CallF) (it : IterF) (base : Nat) (fr : List V) (H : Heap) : evC call it base s_gnomonlaw03_TokenJoins_l0 fr H = evC call it base s_gnomonlaw03_TokenJoins_l0_b fr H := rfl
def s_gnomonlaw03_TokenJoins_r25t1 : List AOper := [⟨some 4, (.move (.t 137)), none⟩]
def s_gnomonlaw03_TokenJoins_r25p0 : List AOper := [⟨some 137, (.call (.c (.fn 11 [] [])) []), none⟩]
def s_gnomonlaw03_TokenJoins_r25 : List AOper := s_gnomonlaw03_TokenJoins_r25p0 ++ s_gnomonlaw03_TokenJoins_r25t1
theorem s_gnomonlaw03_TokenJoins_r25_x (call : CallF) (it : IterF) (base : Nat) (f : List V) (H : Heap) : evC call it base (.region s_gnomonlaw03_TokenJoins_r25 [] [5, 8, 11, 14, 15, 100, 137]) f H = thenC call it base (.region s_gnomonlaw03_TokenJoins_r25t1 [] [5, 8, 11, 14, 15, 100, 137]) (opsC [] s_gnomonlaw03_TokenJoins_r25p0 [5, 8, 11, 14, 15, 100] (evOps call base [⟨some 137, (.call (.c (.fn 11 [] [])) []), none⟩] f H)) := (row_op call it base s_gnomonlaw03_TokenJoins_r25p0 s_gnomonlaw03_TokenJoins_r25t1 (kc := [5, 8, 11, 14, 15, 100]) (by kernel_rfl) f H).trans (by rw [row_ops]; rfl)
theorem s_gnomonlaw03_TokenJoins_r25t1_tale (fr : List V) (H : Heap) : evTale (symAll s_gnomonlaw03_TokenJoins_r25t1 [5, 8, 11, 14, 15, 100, 137] [4]) [5, 8, 11, 14, 15, 100, 137] fr H = evTale (some (5, [], [(4, (.t 137))])) [5, 8, 11, 14, 15, 100, 137] fr H := tale_row (items := [.tt 137]) (by kernel_rfl) fr H
theorem s_gnomonlaw03_TokenJoins_r25t1_x (call : CallF) (it : IterF) (base : Nat) (f : List V) (H : Heap) : evC call it base (.region s_gnomonlaw03_TokenJoins_r25t1 [] [5, 8, 11, 14, 15, 100, 137]) f H = segL H (evTale (symAll s_gnomonlaw03_TokenJoins_r25t1 [5, 8, 11, 14, 15, 100, 137] [4]) [5, 8, 11, 14, 15, 100, 137] f H) (origRow call it base s_gnomonlaw03_TokenJoins_r25t1 [5, 8, 11, 14, 15, 100, 137] f H) := row_last call it base _ f H
def s_gnomonlaw03_TokenJoins : ACFun := { ntmps := 138, results := [(.tmp 4)], body :=
  (.seq (.regionE s_gnomonlaw03_TokenJoins_r0 s_gnomonlaw03_TokenJoins_r0_k [])
  (.seq (.seq (.regionE s_gnomonlaw03_TokenJoins_r1 [17, 18, 19, 20, 21, 22, 23] [24])
  (.cond (.t 24)
  (.seq (.regionE s_gnomonlaw03_TokenJoins_r2 [0, 1, 24] [4])
  .ret)
  .skip))
  (.seq (.region s_gnomonlaw03_TokenJoins_r3 [] [6, 24, 25, 26, 27, 28, 29, 30])
  (.seq (.region s_gnomonlaw03_TokenJoins_r4 [] [31, 32, 33, 34, 35, 36])
  (.seq (.region s_gnomonlaw03_TokenJoins_r5 [] [0, 1, 37, 38, 39, 40, 41, 42, 43, 44, 45])
  (.seq (.seq (.regionE s_gnomonlaw03_TokenJoins_r6 [46] [47])
  (.cond (.t 47)
  (.seq (.region s_gnomonlaw03_TokenJoins_r7 [] [5, 7, 8, 9, 10, 11, 12, 13, 47, 48, 49, 50, 51, 52, 53])
  .ret)
  .skip))
  (.seq (.seq (.regionE s_gnomonlaw03_TokenJoins_r8 [7, 47, 54, 55] [56])
  (.cond (.t 56)
  (.seq (.regionE s_gnomonlaw03_TokenJoins_r9 [5, 8, 9, 10, 11, 12, 13, 56] [4])
  .ret)
  .skip))
  (.seq (.regionE s_gnomonlaw03_TokenJoins_r10 [56, 57, 58, 59, 60, 61, 62, 63, 64] [14])
  (.seq (.seq (.regionE s_gnomonlaw03_TokenJoins_r11 [65] [66])
  (.cond (.t 66)
  (.seq (.region s_gnomonlaw03_TokenJoins_r12 [] [5, 8, 9, 10, 11, 12, 13, 14, 66, 67, 68, 69, 70, 71, 72, 73, 74, 75, 76, 77, 78, 79, 80, 81, 82, 83])
  .ret)
  .skip))
  (.seq (.seq (.regionE s_gnomonlaw03_TokenJoins_r13 [9, 10, 12, 13, 66, 84, 85, 86, 87, 88, 89, 90, 91, 92, 93, 94, 95] [96])
  (.cond (.t 96)
  (.seq (.regionE s_gnomonlaw03_TokenJoins_r14 [5, 8, 11, 14, 96] [4])
  .ret)
  .skip))
  (.seq (.seq (.regionE s_gnomonlaw03_TokenJoins_r15 [96] [15])
  (.block 0
  (.loop [] s_gnomonlaw03_TokenJoins_l0)))
  (.seq (.region s_gnomonlaw03_TokenJoins_r25 [] [5, 8, 11, 14, 15, 100, 137])
  .ret)))))))))))) }
def a_gnomonlaw03_TokenJoins := And.intro @s_gnomonlaw03_TokenJoins_r0_tale (And.intro @s_gnomonlaw03_TokenJoins_r0_kT (And.intro @s_gnomonlaw03_TokenJoins_r0_kA0 (And.intro @s_gnomonlaw03_TokenJoins_r0_kA1 (And.intro @s_gnomonlaw03_TokenJoins_r1_tale (And.intro @s_gnomonlaw03_TokenJoins_r2_tale (And.intro @s_gnomonlaw03_TokenJoins_r3p0_tale (And.intro @s_gnomonlaw03_TokenJoins_r3_x (And.intro @s_gnomonlaw03_TokenJoins_r3t1_x (And.intro @s_gnomonlaw03_TokenJoins_r3p2_tale (And.intro @s_gnomonlaw03_TokenJoins_r3t2_x (And.intro @s_gnomonlaw03_TokenJoins_r3t3_x (And.intro @s_gnomonlaw03_TokenJoins_r3p4_tale (And.intro @s_gnomonlaw03_TokenJoins_r3t4_x (And.intro @s_gnomonlaw03_TokenJoins_r3t5_x (And.intro @s_gnomonlaw03_TokenJoins_r3t6_tale (And.intro @s_gnomonlaw03_TokenJoins_r3t6_x (And.intro @s_gnomonlaw03_TokenJoins_r4p0_tale (And.intro @s_gnomonlaw03_TokenJoins_r4_x (And.intro @s_gnomonlaw03_TokenJoins_r4t1_x (And.intro @s_gnomonlaw03_TokenJoins_r4p2_tale (And.intro @s_gnomonlaw03_TokenJoins_r4t2_x (And.intro @s_gnomonlaw03_TokenJoins_r4t3_x (And.intro @s_gnomonlaw03_TokenJoins_r4p4_tale (And.intro @s_gnomonlaw03_TokenJoins_r4t4_x (And.intro @s_gnomonlaw03_TokenJoins_r4t5_x (And.intro @s_gnomonlaw03_TokenJoins_r4t6_tale (And.intro @s_gnomonlaw03_TokenJoins_r4t6_x (And.intro @s_gnomonlaw03_TokenJoins_r5p0_tale (And.intro @s_gnomonlaw03_TokenJoins_r5_x (And.intro @s_gnomonlaw03_TokenJoins_r5t1_x (And.intro @s_gnomonlaw03_TokenJoins_r5p2_tale (And.intro @s_gnomonlaw03_TokenJoins_r5t2_x (And.intro @s_gnomonlaw03_TokenJoins_r5t3_x (And.intro @s_gnomonlaw03_TokenJoins_r5p4_tale (And.intro @s_gnomonlaw03_TokenJoins_r5t4_x (And.intro @s_gnomonlaw03_TokenJoins_r5t5_x (And.intro @s_gnomonlaw03_TokenJoins_r5t6_tale (And.intro @s_gnomonlaw03_TokenJoins_r5t6_x (And.intro @s_gnomonlaw03_TokenJoins_r6_tale (And.intro @s_gnomonlaw03_TokenJoins_r7p0_tale (And.intro @s_gnomonlaw03_TokenJoins_r7_x (And.intro @s_gnomonlaw03_TokenJoins_r7t1_x (And.intro @s_gnomonlaw03_TokenJoins_r7t2_tale (And.intro @s_gnomonlaw03_TokenJoins_r7t2_x (And.intro @s_gnomonlaw03_TokenJoins_r8_tale (And.intro @s_gnomonlaw03_TokenJoins_r9_tale (And.intro @s_gnomonlaw03_TokenJoins_r10_tale (And.intro @s_gnomonlaw03_TokenJoins_r11_tale (And.intro @s_gnomonlaw03_TokenJoins_r12p0_tale (And.intro @s_gnomonlaw03_TokenJoins_r12_x (And.intro @s_gnomonlaw03_TokenJoins_r12t1_x (And.intro @s_gnomonlaw03_TokenJoins_r12t2_tale (And.intro @s_gnomonlaw03_TokenJoins_r12t2_x (And.intro @s_gnomonlaw03_TokenJoins_r13_tale (And.intro @s_gnomonlaw03_TokenJoins_r14_tale (And.intro @s_gnomonlaw03_TokenJoins_r15_tale (And.intro @s_gnomonlaw03_TokenJoins_r16_tale (And.intro @s_gnomonlaw03_TokenJoins_r17p0_tale (And.intro @s_gnomonlaw03_TokenJoins_r17_x (And.intro @s_gnomonlaw03_TokenJoins_r17t1_x (And.intro @s_gnomonlaw03_TokenJoins_r17t2_x (And.intro @s_gnomonlaw03_TokenJoins_r18_tale (And.intro @s_gnomonlaw03_TokenJoins_r19p0_tale (And.intro @s_gnomonlaw03_TokenJoins_r19_x (And.intro @s_gnomonlaw03_TokenJoins_r19t1_x (And.intro @s_gnomonlaw03_TokenJoins_r20p0_tale (And.intro @s_gnomonlaw03_TokenJoins_r20_x (And.intro @s_gnomonlaw03_TokenJoins_r20t1_x (And.intro @s_gnomonlaw03_TokenJoins_r21p0_tale (And.intro @s_gnomonlaw03_TokenJoins_r21_x (And.intro @s_gnomonlaw03_TokenJoins_r21t1_x (And.intro @s_gnomonlaw03_TokenJoins_r22_tale (And.intro @s_gnomonlaw03_TokenJoins_r23_tale (And.intro @s_gnomonlaw03_TokenJoins_r24_tale (And.intro @s_gnomonlaw03_TokenJoins_l0_ev (And.intro @s_gnomonlaw03_TokenJoins_r25_x (And.intro @s_gnomonlaw03_TokenJoins_r25t1_tale (@s_gnomonlaw03_TokenJoins_r25t1_x))))))))))))))))))))))))))))))))))))))))))))))))))))))))))))))))))))))))))))))
theorem TA3_7 : compK Tryd.prog PX0 7 = some (false, s_gnomonlaw03_TokenJoins.ntmps, s_gnomonlaw03_TokenJoins.results, s_gnomonlaw03_TokenJoins.body.bare) := by kernel_rfl
end Go.Proofs.YtfnkpedipicjnaaDoor
