/- Texts of the proof: TokS5, TokS3, TokS2, TokR1, TokR2, TokR3, TokR4, TokL1, TokL2, TokP4, TokP5, TokL6, TokL7, TokL8, TokL9, TokL10, TokL11. -/
import Derived.Test.YtfnkpedipicjnaaDoorP0
import Derived.Test.YtfnkpedipicjnaaDoorP1
import Derived.Test.YtfnkpedipicjnaaDoorP2
import Derived.Test.YtfnkpedipicjnaaDoorP3
import Derived.Test.YtfnkpedipicjnaaDoorP4
set_option linter.all false
set_option maxRecDepth 100000
namespace Go.Proofs.YtfnkpedipicjnaaDoor
open Go.AM
abbrev k_gnomonlaw03_TokenLaid : Nat := 5
def s_gnomonlaw03_TokenLaid_r0_k : List Nat := [2, 3, 4, 5, 6, 7, 8, 9, 10, 11, 12, 13, 14, 15, 16, 17, 18, 19, 20, 21, 22, 23, 24, 25, 26, 27, 28, 29, 30, 31, 32, 33, 34, 35, 36, 37, 38, 39, 40, 41, 42, 43, 44, 45, 46, 47, 48, 49, 50, 51, 52, 53, 54, 55, 56, 57, 58, 59, 60, 61, 62, 63, 64, 65, 66, 67, 68, 69, 70, 71, 72, 73, 74, 75, 76, 77, 78, 79, 80, 81, 82, 83, 84, 85, 86, 87, 88, 89, 90, 91, 92, 93, 94, 95, 96, 97, 98, 99, 100, 101, 102, 103, 104, 105, 106, 107, 108, 109, 110, 111, 112, 113, 114, 115, 116, 117, 118, 119, 120, 121, 122, 123, 124, 125, 126, 127, 128, 129, 130, 131, 132, 133, 134, 135, 136, 137, 138, 139, 140, 141, 142, 143, 144, 145, 146, 147, 148, 149, 150, 151, 152, 153, 154, 155, 156, 157, 158, 159, 160, 161, 162, 163, 164, 165, 166, 167, 168, 169, 170, 171, 172, 173, 174, 175, 176, 177, 178, 179, 180, 181, 182, 183, 184, 185, 186, 187, 188, 189, 190, 191, 192, 193, 194, 195, 196, 197, 198, 199, 200, 201, 202, 203, 204, 205, 206, 207, 208, 209, 210, 211, 212, 213, 214, 215, 216, 217, 218, 219, 220, 221, 222, 223, 224, 225, 226, 227, 228, 229, 230, 231, 232, 233, 234, 235, 236, 237, 238, 239, 240, 241, 242, 243, 244, 245, 246, 247, 248, 249, 250, 251, 252, 253, 254, 255, 256, 257, 258, 259, 260, 261, 262, 263, 264, 265, 266, 267, 268, 269, 270, 271, 272, 273, 274, 275, 276, 277, 278, 279, 280, 281, 282]
theorem s_gnomonlaw03_TokenLaid_r0_kT : killV s_gnomonlaw03_TokenLaid_r0_k (startV 283 [] 2) = [] := by kernel_rfl
theorem s_gnomonlaw03_TokenLaid_r0_kA0 : s_gnomonlaw03_TokenLaid_r0_k.contains 0 = false := by kernel_rfl
theorem s_gnomonlaw03_TokenLaid_r0_kA1 : s_gnomonlaw03_TokenLaid_r0_k.contains 1 = false := by kernel_rfl
def s_gnomonlaw03_TokenLaid_r0 : List AOper := [
  ⟨some 4, (.move (.c (.s (.bool false)))), none⟩]
theorem s_gnomonlaw03_TokenLaid_r0_tale (fr : List V) (H : Heap) : evTale (symAll s_gnomonlaw03_TokenLaid_r0 s_gnomonlaw03_TokenLaid_r0_k []) s_gnomonlaw03_TokenLaid_r0_k fr H = evTale (some (5, [], [])) s_gnomonlaw03_TokenLaid_r0_k fr H := tale_row (items := [.cc (.s (.bool false))]) (by kernel_rfl) fr H
def s_gnomonlaw03_TokenLaid_r1 : List AOper := [
  ⟨some 25, (.move (.t 0)), none⟩,
  ⟨some 26, (.lenS .s (.t 25)), none⟩,
  ⟨some 27, (.bin .gtr (.t 26) (.c (.s (.int .i64 100)))), none⟩]
theorem s_gnomonlaw03_TokenLaid_r1_tale (fr : List V) (H : Heap) : evTale (symAll s_gnomonlaw03_TokenLaid_r1 [25, 26] [27]) [25, 26] fr H = evTale (some (28, [], [(27, (.op (.bin .gtr (.t 0) (.c (.s (.int .i64 100)))) [(.op (.lenS .s (.t 0)) [(.t 0)]), (.c (.s (.int .i64 100)))]))])) [25, 26] fr H := tale_row (items := [.tt 0, .sub 0 [0] [], .sub 0 [] []]) (by kernel_rfl) fr H
def s_gnomonlaw03_TokenLaid_r2 : List AOper := [
  ⟨some 4, (.move (.c (.s (.bool true)))), none⟩]
theorem s_gnomonlaw03_TokenLaid_r2_tale (fr : List V) (H : Heap) : evTale (symAll s_gnomonlaw03_TokenLaid_r2 [0, 1, 27] [4]) [0, 1, 27] fr H = evTale (some (5, [], [(4, (.c (.s (.bool true))))])) [0, 1, 27] fr H := tale_row (items := [.cc (.s (.bool true))]) (by kernel_rfl) fr H
def s_gnomonlaw03_TokenLaid_r3t1 : List AOper := [⟨some 5, (.move (.t 28)), none⟩]
def s_gnomonlaw03_TokenLaid_r3p0 : List AOper := [⟨some 28, (.buildSl 1 7 [(.s (.string ⟨#[]⟩)), (.s (.string ⟨#[]⟩)), (.s (.string ⟨#[]⟩)), (.s (.string ⟨#[]⟩)), (.s (.string ⟨#[]⟩)), (.s (.string ⟨#[]⟩)), (.s (.string ⟨#[]⟩))] [(0, (.c (.s (.string ⟨#[32]⟩)))), (1, (.c (.s (.string ⟨#[9]⟩)))), (2, (.c (.s (.string ⟨#[10]⟩)))), (3, (.c (.s (.string ⟨#[13, 10]⟩)))), (4, (.c (.s (.string ⟨#[32, 59, 32, 97, 32, 40, 49, 32, 45, 10]⟩)))), (5, (.c (.s (.string ⟨#[10, 10, 32]⟩)))), (6, (.c (.s (.string ⟨#[59, 10]⟩))))]), none⟩]
def s_gnomonlaw03_TokenLaid_r3 : List AOper := s_gnomonlaw03_TokenLaid_r3p0 ++ s_gnomonlaw03_TokenLaid_r3t1
theorem s_gnomonlaw03_TokenLaid_r3_x (call : CallF) (it : IterF) (base : Nat) (f : List V) (H : Heap) : evC call it base (.region s_gnomonlaw03_TokenLaid_r3 [] [27, 28]) f H = thenC call it base (.region s_gnomonlaw03_TokenLaid_r3t1 [] [27, 28]) (opsC [] s_gnomonlaw03_TokenLaid_r3p0 [27] (evOps call base [⟨some 28, (.buildSl 1 7 [(.s (.string ⟨#[]⟩)), (.s (.string ⟨#[]⟩)), (.s (.string ⟨#[]⟩)), (.s (.string ⟨#[]⟩)), (.s (.string ⟨#[]⟩)), (.s (.string ⟨#[]⟩)), (.s (.string ⟨#[]⟩))] [(0, (.c (.s (.string ⟨#[32]⟩)))), (1, (.c (.s (.string ⟨#[9]⟩)))), (2, (.c (.s (.string ⟨#[10]⟩)))), (3, (.c (.s (.string ⟨#[13, 10]⟩)))), (4, (.c (.s (.string ⟨#[32, 59, 32, 97, 32, 40, 49, 32, 45, 10]⟩)))), (5, (.c (.s (.string ⟨#[10, 10, 32]⟩)))), (6, (.c (.s (.string ⟨#[59, 10]⟩))))]), none⟩] f H)) := (row_op call it base s_gnomonlaw03_TokenLaid_r3p0 s_gnomonlaw03_TokenLaid_r3t1 (kc := [27]) (by kernel_rfl) f H).trans (by rw [row_ops]; rfl)
theorem s_gnomonlaw03_TokenLaid_r3t1_tale (fr : List V) (H : Heap) : evTale (symAll s_gnomonlaw03_TokenLaid_r3t1 [27, 28] [5]) [27, 28] fr H = evTale (some (6, [], [(5, (.t 28))])) [27, 28] fr H := tale_row (items := [.tt 28]) (by kernel_rfl) fr H
theorem s_gnomonlaw03_TokenLaid_r3t1_x (call : CallF) (it : IterF) (base : Nat) (f : List V) (H : Heap) : evC call it base (.region s_gnomonlaw03_TokenLaid_r3t1 [] [27, 28]) f H = segL H (evTale (symAll s_gnomonlaw03_TokenLaid_r3t1 [27, 28] [5]) [27, 28] f H) (origRow call it base s_gnomonlaw03_TokenLaid_r3t1 [27, 28] f H) := row_last call it base _ f H
def s_gnomonlaw03_TokenLaid_r4 : List AOper := [
  ⟨some 6, (.move (.c (.s (.string ⟨#[]⟩)))), none⟩]
theorem s_gnomonlaw03_TokenLaid_r4_tale (fr : List V) (H : Heap) : evTale (symAll s_gnomonlaw03_TokenLaid_r4 [] [6]) [] fr H = evTale (some (7, [], [(6, (.c (.s (.string ⟨#[]⟩))))])) [] fr H := tale_row (items := [.cc (.s (.string ⟨#[]⟩))]) (by kernel_rfl) fr H
def s_gnomonlaw03_TokenLaid_r5 : List AOper := [
  ⟨some 7, (.move (.c (.s (.slice none 0 0)))), none⟩]
theorem s_gnomonlaw03_TokenLaid_r5_tale (fr : List V) (H : Heap) : evTale (symAll s_gnomonlaw03_TokenLaid_r5 [] [7]) [] fr H = evTale (some (8, [], [(7, (.c (.s (.slice none 0 0))))])) [] fr H := tale_row (items := [.cc (.s (.slice none 0 0))]) (by kernel_rfl) fr H
def s_gnomonlaw03_TokenLaid_r6 : List AOper := [
  ⟨some 8, (.move (.c (.s (.int .i64 1)))), none⟩,
  ⟨some 9, (.move (.c (.s (.int .i64 1)))), none⟩]
theorem s_gnomonlaw03_TokenLaid_r6_tale (fr : List V) (H : Heap) : evTale (symAll s_gnomonlaw03_TokenLaid_r6 [] [8, 9]) [] fr H = evTale (some (10, [], [(8, (.c (.s (.int .i64 1)))), (9, (.c (.s (.int .i64 1))))])) [] fr H := tale_row (items := [.cc (.s (.int .i64 1)), .cc (.s (.int .i64 1))]) (by kernel_rfl) fr H
def s_gnomonlaw03_TokenLaid_r7 : List AOper := [
  ⟨some 10, (.move (.c (.s (.bool true)))), none⟩]
theorem s_gnomonlaw03_TokenLaid_r7_tale (fr : List V) (H : Heap) : evTale (symAll s_gnomonlaw03_TokenLaid_r7 [] [10]) [] fr H = evTale (some (11, [], [(10, (.c (.s (.bool true))))])) [] fr H := tale_row (items := [.cc (.s (.bool true))]) (by kernel_rfl) fr H
def s_gnomonlaw03_TokenLaid_r8 : List AOper := [
  ⟨some 11, (.move (.c (.s (.int .i64 0)))), none⟩]
theorem s_gnomonlaw03_TokenLaid_r8_tale (fr : List V) (H : Heap) : evTale (symAll s_gnomonlaw03_TokenLaid_r8 [] [11]) [] fr H = evTale (some (12, [], [(11, (.c (.s (.int .i64 0))))])) [] fr H := tale_row (items := [.cc (.s (.int .i64 0))]) (by kernel_rfl) fr H
def s_gnomonlaw03_TokenLaid_r9 : List AOper := [
  ⟨some 29, (.move (.t 11)), none⟩,
  ⟨some 30, (.move (.t 0)), none⟩,
  ⟨some 31, (.lenS .s (.t 30)), none⟩,
  ⟨some 32, (.bin .lss (.t 29) (.t 31)), none⟩]
theorem s_gnomonlaw03_TokenLaid_r9_tale (fr : List V) (H : Heap) : evTale (symAll s_gnomonlaw03_TokenLaid_r9 [29, 30, 31] [32]) [29, 30, 31] fr H = evTale (some (33, [], [(32, (.op (.bin .lss (.t 0) (.t 1)) [(.t 11), (.op (.lenS .s (.t 0)) [(.t 0)])]))])) [29, 30, 31] fr H := tale_row (items := [.tt 11, .tt 0, .sub 0 [1] [], .sub 0 [] []]) (by kernel_rfl) fr H
def s_gnomonlaw03_TokenLaid_r10 : List AOper := [
  ⟨some 12, (.move (.c (.s (.string ⟨#[]⟩)))), none⟩]
theorem s_gnomonlaw03_TokenLaid_r10_tale (fr : List V) (H : Heap) : evTale (symAll s_gnomonlaw03_TokenLaid_r10 [32] [12]) [32] fr H = evTale (some (13, [], [(12, (.c (.s (.string ⟨#[]⟩))))])) [32] fr H := tale_row (items := [.cc (.s (.string ⟨#[]⟩))]) (by kernel_rfl) fr H
def s_gnomonlaw03_TokenLaid_r11 : List AOper := [
  ⟨some 13, (.move (.c (.s (.int .i64 0)))), none⟩]
theorem s_gnomonlaw03_TokenLaid_r11_tale (fr : List V) (H : Heap) : evTale (symAll s_gnomonlaw03_TokenLaid_r11 [] [13]) [] fr H = evTale (some (14, [], [(13, (.c (.s (.int .i64 0))))])) [] fr H := tale_row (items := [.cc (.s (.int .i64 0))]) (by kernel_rfl) fr H
def s_gnomonlaw03_TokenLaid_r12 : List AOper := [
  ⟨some 35, (.move (.t 0)), none⟩,
  ⟨some 36, (.move (.t 11)), none⟩,
  ⟨some 37, (.indexAddr 3 (.t 35) (.t 36)), none⟩,
  ⟨some 38, (.fieldAddr 0 (.t 37)), none⟩,
  ⟨some 39, (.load false 1 (.t 38)), none⟩,
  ⟨some 40, (.bin .rem (.t 39) (.c (.s (.int .u8 3)))), none⟩,
  ⟨some 14, (.move (.t 40)), none⟩]
theorem s_gnomonlaw03_TokenLaid_r12_tale (fr : List V) (H : Heap) : evTale (symAll s_gnomonlaw03_TokenLaid_r12 [35, 36, 37, 38, 39, 40] [14]) [35, 36, 37, 38, 39, 40] fr H = evTale (some (41, [], [(14, (.op (.bin .rem (.t 0) (.c (.s (.int .u8 3)))) [(.op (.load false 1 (.t 0)) [(.op (.fieldAddr 0 (.t 0)) [(.op (.indexAddr 3 (.t 0) (.t 1)) [(.t 0), (.t 11)])])]), (.c (.s (.int .u8 3)))]))])) [35, 36, 37, 38, 39, 40] fr H := tale_row (items := [.tt 0, .tt 11, .sub 0 [0, 0, 0] [], .sub 0 [0, 0] [], .sub 0 [0] [], .sub 0 [] [], .sub 0 [] []]) (by kernel_rfl) fr H
def s_gnomonlaw03_TokenLaid_r13 : List AOper := [
  ⟨some 41, (.move (.t 14)), none⟩]
theorem s_gnomonlaw03_TokenLaid_r13_tale (fr : List V) (H : Heap) : evTale (symAll s_gnomonlaw03_TokenLaid_r13 [] [41]) [] fr H = evTale (some (42, [], [(41, (.t 14))])) [] fr H := tale_row (items := [.tt 14]) (by kernel_rfl) fr H
def s_gnomonlaw03_TokenLaid_r14 : List AOper := [
  ⟨some 59, (.bin .eql (.t 41) (.c (.s (.int .u8 0)))), none⟩,
  ⟨some 58, (.move (.t 59)), none⟩]
theorem s_gnomonlaw03_TokenLaid_r14_tale (fr : List V) (H : Heap) : evTale (symAll s_gnomonlaw03_TokenLaid_r14 [59] [58]) [59] fr H = evTale (some (60, [], [(58, (.op (.bin .eql (.t 0) (.c (.s (.int .u8 0)))) [(.t 41), (.c (.s (.int .u8 0)))]))])) [59] fr H := tale_row (items := [.sub 0 [] [], .sub 0 [] []]) (by kernel_rfl) fr H
def s_gnomonlaw03_TokenLaid_r15 : List AOper := [
  ⟨some 12, (.move (.c (.s (.string ⟨#[119]⟩)))), none⟩]
theorem s_gnomonlaw03_TokenLaid_r15_tale (fr : List V) (H : Heap) : evTale (symAll s_gnomonlaw03_TokenLaid_r15 [41, 58] [12]) [41, 58] fr H = evTale (some (13, [], [(12, (.c (.s (.string ⟨#[119]⟩))))])) [41, 58] fr H := tale_row (items := [.cc (.s (.string ⟨#[119]⟩))]) (by kernel_rfl) fr H
def s_gnomonlaw03_TokenLaid_r16 : List AOper := [
  ⟨some 15, (.move (.c (.s (.int .i64 0)))), none⟩]
theorem s_gnomonlaw03_TokenLaid_r16_tale (fr : List V) (H : Heap) : evTale (symAll s_gnomonlaw03_TokenLaid_r16 [] [15]) [] fr H = evTale (some (16, [], [(15, (.c (.s (.int .i64 0))))])) [] fr H := tale_row (items := [.cc (.s (.int .i64 0))]) (by kernel_rfl) fr H
def s_gnomonlaw03_TokenLaid_r17 : List AOper := [
  ⟨some 60, (.move (.t 15)), none⟩,
  ⟨some 61, (.move (.t 0)), none⟩,
  ⟨some 62, (.move (.t 11)), none⟩,
  ⟨some 63, (.indexAddr 3 (.t 61) (.t 62)), none⟩,
  ⟨some 64, (.fieldAddr 1 (.t 63)), none⟩,
  ⟨some 65, (.load false 1 (.t 64)), none⟩,
  ⟨some 66, (.lenS .p (.t 65)), none⟩,
  ⟨some 67, (.bin .lss (.t 60) (.t 66)), none⟩,
  ⟨some 68, (.move (.t 67)), none⟩,
  ⟨some 69, (.move (.t 15)), some (68, true)⟩,
  ⟨some 70, (.bin .lss (.t 69) (.c (.s (.int .i64 40)))), some (68, true)⟩,
  ⟨some 71, (.pick (.t 68) (.t 70) (.c (.s (.bool false)))), none⟩]
theorem s_gnomonlaw03_TokenLaid_r17_tale (fr : List V) (H : Heap) : evTale (symAll s_gnomonlaw03_TokenLaid_r17 [60, 61, 62, 63, 64, 65, 66, 67, 68, 69, 70] [71]) [60, 61, 62, 63, 64, 65, 66, 67, 68, 69, 70] fr H = evTale (some (72, [], [(71, (.pick (.op (.bin .lss (.t 0) (.t 1)) [(.t 15), (.op (.lenS .p (.t 0)) [(.op (.load false 1 (.t 0)) [(.op (.fieldAddr 1 (.t 0)) [(.op (.indexAddr 3 (.t 0) (.t 1)) [(.t 0), (.t 11)])])])])]) (.op (.bin .lss (.t 0) (.c (.s (.int .i64 40)))) [(.t 15), (.c (.s (.int .i64 40)))]) (.c (.s (.bool false)))))])) [60, 61, 62, 63, 64, 65, 66, 67, 68, 69, 70] fr H := tale_row (items := [.tt 15, .tt 0, .tt 11, .sub 0 [0, 1, 0, 0, 0] [], .sub 0 [0, 1, 0, 0] [], .sub 0 [0, 1, 0] [], .sub 0 [0, 1] [], .sub 0 [0] [], .sub 0 [0] [], .sub 0 [1, 0] [68], .sub 0 [1] [68], .sub 0 [] []]) (by kernel_rfl) fr H
def s_gnomonlaw03_TokenLaid_r18 : List AOper := [
  ⟨some 74, (.move (.t 0)), none⟩,
  ⟨some 75, (.move (.t 11)), none⟩,
  ⟨some 76, (.indexAddr 3 (.t 74) (.t 75)), none⟩,
  ⟨some 77, (.fieldAddr 1 (.t 76)), none⟩,
  ⟨some 78, (.load false 1 (.t 77)), none⟩,
  ⟨some 79, (.move (.t 15)), none⟩,
  ⟨some 80, (.indexStr (.t 78) (.t 79)), none⟩,
  ⟨some 16, (.move (.t 80)), none⟩]
theorem s_gnomonlaw03_TokenLaid_r18_tale (fr : List V) (H : Heap) : evTale (symAll s_gnomonlaw03_TokenLaid_r18 [71, 74, 75, 76, 77, 78, 79, 80] [16]) [71, 74, 75, 76, 77, 78, 79, 80] fr H = evTale (some (81, [], [(16, (.op (.indexStr (.t 0) (.t 1)) [(.op (.load false 1 (.t 0)) [(.op (.fieldAddr 1 (.t 0)) [(.op (.indexAddr 3 (.t 0) (.t 1)) [(.t 0), (.t 11)])])]), (.t 15)]))])) [71, 74, 75, 76, 77, 78, 79, 80] fr H := tale_row (items := [.tt 0, .tt 11, .sub 0 [0, 0, 0] [], .sub 0 [0, 0] [], .sub 0 [0] [], .tt 15, .sub 0 [] [], .sub 0 [] []]) (by kernel_rfl) fr H
def s_gnomonlaw03_TokenLaid_r19 : List AOper := [
  ⟨some 81, (.move (.t 16)), none⟩,
  ⟨some 82, (.bin .geq (.t 81) (.c (.s (.int .u8 97)))), none⟩,
  ⟨some 83, (.move (.t 82)), none⟩,
  ⟨some 84, (.move (.t 16)), some (83, true)⟩,
  ⟨some 85, (.bin .leq (.t 84) (.c (.s (.int .u8 122)))), some (83, true)⟩,
  ⟨some 86, (.pick (.t 83) (.t 85) (.c (.s (.bool false)))), none⟩,
  ⟨some 87, (.move (.t 86)), none⟩,
  ⟨some 88, (.move (.t 16)), some (87, false)⟩,
  ⟨some 89, (.bin .geq (.t 88) (.c (.s (.int .u8 48)))), some (87, false)⟩,
  ⟨some 90, (.move (.t 89)), some (87, false)⟩,
  ⟨some 91, (.move (.t 16)), some (90, true)⟩,
  ⟨some 92, (.bin .leq (.t 91) (.c (.s (.int .u8 57)))), some (90, true)⟩,
  ⟨some 93, (.pick (.t 90) (.t 92) (.c (.s (.bool false)))), some (87, false)⟩,
  ⟨some 94, (.pick (.t 87) (.c (.s (.bool true))) (.t 93)), none⟩,
  ⟨some 95, (.move (.t 94)), none⟩,
  ⟨some 96, (.move (.t 16)), some (95, false)⟩,
  ⟨some 97, (.bin .eql (.t 96) (.c (.s (.int .u8 46)))), some (95, false)⟩,
  ⟨some 98, (.pick (.t 95) (.c (.s (.bool true))) (.t 97)), none⟩,
  ⟨some 99, (.move (.t 98)), none⟩,
  ⟨some 100, (.move (.t 16)), some (99, false)⟩,
  ⟨some 101, (.bin .eql (.t 100) (.c (.s (.int .u8 95)))), some (99, false)⟩,
  ⟨some 102, (.pick (.t 99) (.c (.s (.bool true))) (.t 101)), none⟩]
theorem s_gnomonlaw03_TokenLaid_r19_tale (fr : List V) (H : Heap) : evTale (symAll s_gnomonlaw03_TokenLaid_r19 [16, 81, 82, 83, 84, 85, 86, 87, 88, 89, 90, 91, 92, 93, 94, 95, 96, 97, 98, 99, 100, 101] [102]) [16, 81, 82, 83, 84, 85, 86, 87, 88, 89, 90, 91, 92, 93, 94, 95, 96, 97, 98, 99, 100, 101] fr H = evTale (some (103, [], [(102, (.pick (.pick (.pick (.pick (.op (.bin .geq (.t 0) (.c (.s (.int .u8 97)))) [(.t 16), (.c (.s (.int .u8 97)))]) (.op (.bin .leq (.t 0) (.c (.s (.int .u8 122)))) [(.t 16), (.c (.s (.int .u8 122)))]) (.c (.s (.bool false)))) (.c (.s (.bool true))) (.pick (.op (.bin .geq (.t 0) (.c (.s (.int .u8 48)))) [(.t 16), (.c (.s (.int .u8 48)))]) (.op (.bin .leq (.t 0) (.c (.s (.int .u8 57)))) [(.t 16), (.c (.s (.int .u8 57)))]) (.c (.s (.bool false))))) (.c (.s (.bool true))) (.op (.bin .eql (.t 0) (.c (.s (.int .u8 46)))) [(.t 16), (.c (.s (.int .u8 46)))])) (.c (.s (.bool true))) (.op (.bin .eql (.t 0) (.c (.s (.int .u8 95)))) [(.t 16), (.c (.s (.int .u8 95)))])))])) [16, 81, 82, 83, 84, 85, 86, 87, 88, 89, 90, 91, 92, 93, 94, 95, 96, 97, 98, 99, 100, 101] fr H := tale_row (items := [.tt 16, .sub 0 [0, 0, 0, 0] [], .sub 0 [0, 0, 0, 0] [], .sub 0 [0, 0, 0, 1, 0] [83], .sub 0 [0, 0, 0, 1] [83], .sub 0 [0, 0, 0] [], .sub 0 [0, 0, 0] [], .sub 0 [0, 0, 2, 0, 0] [87], .sub 0 [0, 0, 2, 0] [87], .sub 0 [0, 0, 2, 0] [87], .sub 0 [0, 0, 2, 1, 0] [87, 90], .sub 0 [0, 0, 2, 1] [87, 90], .sub 0 [0, 0, 2] [87], .sub 0 [0, 0] [], .sub 0 [0, 0] [], .sub 0 [0, 2, 0] [95], .sub 0 [0, 2] [95], .sub 0 [0] [], .sub 0 [0] [], .sub 0 [2, 0] [99], .sub 0 [2] [99], .sub 0 [] []]) (by kernel_rfl) fr H
def s_gnomonlaw03_TokenLaid_r20 : List AOper := [
  ⟨some 103, (.move (.t 12)), none⟩,
  ⟨some 104, (.move (.t 0)), none⟩,
  ⟨some 105, (.move (.t 11)), none⟩,
  ⟨some 106, (.indexAddr 3 (.t 104) (.t 105)), none⟩,
  ⟨some 107, (.fieldAddr 1 (.t 106)), none⟩,
  ⟨some 108, (.load false 1 (.t 107)), none⟩,
  ⟨some 109, (.move (.t 15)), none⟩,
  ⟨some 110, (.move (.t 15)), none⟩,
  ⟨some 111, (.bin .add (.t 110) (.c (.s (.int .i64 1)))), none⟩,
  ⟨some 112, (.subStr (.t 108) (some (.t 109)) (some (.t 111))), none⟩,
  ⟨some 113, (.bin .add (.t 103) (.t 112)), none⟩,
  ⟨some 12, (.move (.t 113)), none⟩]
theorem s_gnomonlaw03_TokenLaid_r20_tale (fr : List V) (H : Heap) : evTale (symAll s_gnomonlaw03_TokenLaid_r20 [102, 103, 104, 105, 106, 107, 108, 109, 110, 111, 112, 113] [12]) [102, 103, 104, 105, 106, 107, 108, 109, 110, 111, 112, 113] fr H = evTale (some (114, [], [(12, (.op (.bin .add (.t 0) (.t 1)) [(.t 12), (.op (.subStr (.t 0) (some (.t 1)) (some (.t 2))) [(.op (.load false 1 (.t 0)) [(.op (.fieldAddr 1 (.t 0)) [(.op (.indexAddr 3 (.t 0) (.t 1)) [(.t 0), (.t 11)])])]), (.t 15), (.op (.bin .add (.t 0) (.c (.s (.int .i64 1)))) [(.t 15), (.c (.s (.int .i64 1)))])])]))])) [102, 103, 104, 105, 106, 107, 108, 109, 110, 111, 112, 113] fr H := tale_row (items := [.tt 12, .tt 0, .tt 11, .sub 0 [1, 0, 0, 0] [], .sub 0 [1, 0, 0] [], .sub 0 [1, 0] [], .tt 15, .tt 15, .sub 0 [1, 2] [], .sub 0 [1] [], .sub 0 [] [], .sub 0 [] []]) (by kernel_rfl) fr H
def s_gnomonlaw03_TokenLaid_r21 : List AOper := [
  ⟨some 72, (.move (.t 15)), none⟩,
  ⟨some 73, (.bin .add (.t 72) (.c (.s (.int .i64 1)))), none⟩,
  ⟨some 15, (.move (.t 73)), none⟩]
theorem s_gnomonlaw03_TokenLaid_r21_tale (fr : List V) (H : Heap) : evTale (symAll s_gnomonlaw03_TokenLaid_r21 [72, 73, 102] [15]) [72, 73, 102] fr H = evTale (some (74, [], [(15, (.op (.bin .add (.t 0) (.c (.s (.int .i64 1)))) [(.t 15), (.c (.s (.int .i64 1)))]))])) [72, 73, 102] fr H := tale_row (items := [.tt 15, .sub 0 [] [], .sub 0 [] []]) (by kernel_rfl) fr H
def s_gnomonlaw03_TokenLaid_l0_b : ACode :=
  (.seq (.seq (.regionE s_gnomonlaw03_TokenLaid_r17 [60, 61, 62, 63, 64, 65, 66, 67, 68, 69, 70] [71])
  (.cond (.t 71)
  .skip
  (.exit 3)))
  (.seq (.block 4
  (.seq (.regionE s_gnomonlaw03_TokenLaid_r18 [71, 74, 75, 76, 77, 78, 79, 80] [16])
  (.seq (.regionE s_gnomonlaw03_TokenLaid_r19 [16, 81, 82, 83, 84, 85, 86, 87, 88, 89, 90, 91, 92, 93, 94, 95, 96, 97, 98, 99, 100, 101] [102])
  (.cond (.t 102)
  (.regionE s_gnomonlaw03_TokenLaid_r20 [102, 103, 104, 105, 106, 107, 108, 109, 110, 111, 112, 113] [12])
  .skip))))
  (.regionE s_gnomonlaw03_TokenLaid_r21 [72, 73, 102] [15])))
def s_gnomonlaw03_TokenLaid_l0 : ACode := s_gnomonlaw03_TokenLaid_l0_b
theorem s_gnomonlaw03_TokenLaid_l0_ev (call : CallF) (it : IterF) (base : Nat) (fr : List V) (H : Heap) : evC call it base s_gnomonlaw03_TokenLaid_l0 fr H = evC call it base s_gnomonlaw03_TokenLaid_l0_b fr H := rfl
def s_gnomonlaw03_TokenLaid_r22 : List AOper := [
  ⟨some 115, (.bin .eql (.t 41) (.c (.s (.int .u8 1)))), none⟩,
  ⟨some 114, (.move (.t 115)), none⟩]
theorem s_gnomonlaw03_TokenLaid_r22_tale (fr : List V) (H : Heap) : evTale (symAll s_gnomonlaw03_TokenLaid_r22 [41, 58, 115] [114]) [41, 58, 115] fr H = evTale (some (116, [], [(114, (.op (.bin .eql (.t 0) (.c (.s (.int .u8 1)))) [(.t 41), (.c (.s (.int .u8 1)))]))])) [41, 58, 115] fr H := tale_row (items := [.sub 0 [] [], .sub 0 [] []]) (by kernel_rfl) fr H
def s_gnomonlaw03_TokenLaid_r23 : List AOper := [
  ⟨some 17, (.move (.c (.s (.int .i64 0)))), none⟩]
theorem s_gnomonlaw03_TokenLaid_r23_tale (fr : List V) (H : Heap) : evTale (symAll s_gnomonlaw03_TokenLaid_r23 [114] [17]) [114] fr H = evTale (some (18, [], [(17, (.c (.s (.int .i64 0))))])) [114] fr H := tale_row (items := [.cc (.s (.int .i64 0))]) (by kernel_rfl) fr H
def s_gnomonlaw03_TokenLaid_r24 : List AOper := [
  ⟨some 116, (.move (.t 17)), none⟩,
  ⟨some 117, (.move (.t 0)), none⟩,
  ⟨some 118, (.move (.t 11)), none⟩,
  ⟨some 119, (.indexAddr 3 (.t 117) (.t 118)), none⟩,
  ⟨some 120, (.fieldAddr 1 (.t 119)), none⟩,
  ⟨some 121, (.load false 1 (.t 120)), none⟩,
  ⟨some 122, (.lenS .p (.t 121)), none⟩,
  ⟨some 123, (.bin .lss (.t 116) (.t 122)), none⟩,
  ⟨some 124, (.move (.t 123)), none⟩,
  ⟨some 125, (.move (.t 12)), some (124, true)⟩,
  ⟨some 126, (.lenS .p (.t 125)), some (124, true)⟩,
  ⟨some 127, (.bin .lss (.t 126) (.c (.s (.int .i64 9)))), some (124, true)⟩,
  ⟨some 128, (.pick (.t 124) (.t 127) (.c (.s (.bool false)))), none⟩]
theorem s_gnomonlaw03_TokenLaid_r24_tale (fr : List V) (H : Heap) : evTale (symAll s_gnomonlaw03_TokenLaid_r24 [116, 117, 118, 119, 120, 121, 122, 123, 124, 125, 126, 127] [128]) [116, 117, 118, 119, 120, 121, 122, 123, 124, 125, 126, 127] fr H = evTale (some (129, [], [(128, (.pick (.op (.bin .lss (.t 0) (.t 1)) [(.t 17), (.op (.lenS .p (.t 0)) [(.op (.load false 1 (.t 0)) [(.op (.fieldAddr 1 (.t 0)) [(.op (.indexAddr 3 (.t 0) (.t 1)) [(.t 0), (.t 11)])])])])]) (.op (.bin .lss (.t 0) (.c (.s (.int .i64 9)))) [(.op (.lenS .p (.t 0)) [(.t 12)]), (.c (.s (.int .i64 9)))]) (.c (.s (.bool false)))))])) [116, 117, 118, 119, 120, 121, 122, 123, 124, 125, 126, 127] fr H := tale_row (items := [.tt 17, .tt 0, .tt 11, .sub 0 [0, 1, 0, 0, 0] [], .sub 0 [0, 1, 0, 0] [], .sub 0 [0, 1, 0] [], .sub 0 [0, 1] [], .sub 0 [0] [], .sub 0 [0] [], .sub 0 [1, 0, 0] [124], .sub 0 [1, 0] [124], .sub 0 [1] [124], .sub 0 [] []]) (by kernel_rfl) fr H
def s_gnomonlaw03_TokenLaid_r25 : List AOper := [
  ⟨some 131, (.move (.t 0)), none⟩,
  ⟨some 132, (.move (.t 11)), none⟩,
  ⟨some 133, (.indexAddr 3 (.t 131) (.t 132)), none⟩,
  ⟨some 134, (.fieldAddr 1 (.t 133)), none⟩,
  ⟨some 135, (.load false 1 (.t 134)), none⟩,
  ⟨some 136, (.move (.t 17)), none⟩,
  ⟨some 137, (.indexStr (.t 135) (.t 136)), none⟩,
  ⟨some 18, (.move (.t 137)), none⟩]
theorem s_gnomonlaw03_TokenLaid_r25_tale (fr : List V) (H : Heap) : evTale (symAll s_gnomonlaw03_TokenLaid_r25 [128, 131, 132, 133, 134, 135, 136, 137] [18]) [128, 131, 132, 133, 134, 135, 136, 137] fr H = evTale (some (138, [], [(18, (.op (.indexStr (.t 0) (.t 1)) [(.op (.load false 1 (.t 0)) [(.op (.fieldAddr 1 (.t 0)) [(.op (.indexAddr 3 (.t 0) (.t 1)) [(.t 0), (.t 11)])])]), (.t 17)]))])) [128, 131, 132, 133, 134, 135, 136, 137] fr H := tale_row (items := [.tt 0, .tt 11, .sub 0 [0, 0, 0] [], .sub 0 [0, 0] [], .sub 0 [0] [], .tt 17, .sub 0 [] [], .sub 0 [] []]) (by kernel_rfl) fr H
def s_gnomonlaw03_TokenLaid_r26 : List AOper := [
  ⟨some 138, (.move (.t 18)), none⟩,
  ⟨some 139, (.bin .geq (.t 138) (.c (.s (.int .u8 49)))), none⟩,
  ⟨some 140, (.move (.t 139)), none⟩,
  ⟨some 141, (.move (.t 18)), some (140, true)⟩,
  ⟨some 142, (.bin .leq (.t 141) (.c (.s (.int .u8 57)))), some (140, true)⟩,
  ⟨some 143, (.pick (.t 140) (.t 142) (.c (.s (.bool false)))), none⟩,
  ⟨some 144, (.move (.t 143)), none⟩,
  ⟨some 145, (.move (.t 18)), some (144, false)⟩,
  ⟨some 146, (.bin .eql (.t 145) (.c (.s (.int .u8 48)))), some (144, false)⟩,
  ⟨some 147, (.move (.t 146)), some (144, false)⟩,
  ⟨some 148, (.move (.t 12)), some (147, true)⟩,
  ⟨some 149, (.bin .neq (.t 148) (.c (.s (.string ⟨#[]⟩)))), some (147, true)⟩,
  ⟨some 150, (.pick (.t 147) (.t 149) (.c (.s (.bool false)))), some (144, false)⟩,
  ⟨some 151, (.pick (.t 144) (.c (.s (.bool true))) (.t 150)), none⟩]
theorem s_gnomonlaw03_TokenLaid_r26_tale (fr : List V) (H : Heap) : evTale (symAll s_gnomonlaw03_TokenLaid_r26 [138, 139, 140, 141, 142, 143, 144, 145, 146, 147, 148, 149, 150] [151]) [138, 139, 140, 141, 142, 143, 144, 145, 146, 147, 148, 149, 150] fr H = evTale (some (152, [], [(151, (.pick (.pick (.op (.bin .geq (.t 0) (.c (.s (.int .u8 49)))) [(.t 18), (.c (.s (.int .u8 49)))]) (.op (.bin .leq (.t 0) (.c (.s (.int .u8 57)))) [(.t 18), (.c (.s (.int .u8 57)))]) (.c (.s (.bool false)))) (.c (.s (.bool true))) (.pick (.op (.bin .eql (.t 0) (.c (.s (.int .u8 48)))) [(.t 18), (.c (.s (.int .u8 48)))]) (.op (.bin .neq (.t 0) (.c (.s (.string ⟨#[]⟩)))) [(.t 12), (.c (.s (.string ⟨#[]⟩)))]) (.c (.s (.bool false))))))])) [138, 139, 140, 141, 142, 143, 144, 145, 146, 147, 148, 149, 150] fr H := tale_row (items := [.tt 18, .sub 0 [0, 0] [], .sub 0 [0, 0] [], .sub 0 [0, 1, 0] [140], .sub 0 [0, 1] [140], .sub 0 [0] [], .sub 0 [0] [], .sub 0 [2, 0, 0] [144], .sub 0 [2, 0] [144], .sub 0 [2, 0] [144], .sub 0 [2, 1, 0] [144, 147], .sub 0 [2, 1] [144, 147], .sub 0 [2] [144], .sub 0 [] []]) (by kernel_rfl) fr H
def s_gnomonlaw03_TokenLaid_r27 : List AOper := [
  ⟨some 152, (.move (.t 12)), none⟩,
  ⟨some 153, (.move (.t 0)), none⟩,
  ⟨some 154, (.move (.t 11)), none⟩,
  ⟨some 155, (.indexAddr 3 (.t 153) (.t 154)), none⟩,
  ⟨some 156, (.fieldAddr 1 (.t 155)), none⟩,
  ⟨some 157, (.load false 1 (.t 156)), none⟩,
  ⟨some 158, (.move (.t 17)), none⟩,
  ⟨some 159, (.move (.t 17)), none⟩,
  ⟨some 160, (.bin .add (.t 159) (.c (.s (.int .i64 1)))), none⟩,
  ⟨some 161, (.subStr (.t 157) (some (.t 158)) (some (.t 160))), none⟩,
  ⟨some 162, (.bin .add (.t 152) (.t 161)), none⟩,
  ⟨some 12, (.move (.t 162)), none⟩]
theorem s_gnomonlaw03_TokenLaid_r27_tale (fr : List V) (H : Heap) : evTale (symAll s_gnomonlaw03_TokenLaid_r27 [151, 152, 153, 154, 155, 156, 157, 158, 159, 160, 161, 162] [12]) [151, 152, 153, 154, 155, 156, 157, 158, 159, 160, 161, 162] fr H = evTale (some (163, [], [(12, (.op (.bin .add (.t 0) (.t 1)) [(.t 12), (.op (.subStr (.t 0) (some (.t 1)) (some (.t 2))) [(.op (.load false 1 (.t 0)) [(.op (.fieldAddr 1 (.t 0)) [(.op (.indexAddr 3 (.t 0) (.t 1)) [(.t 0), (.t 11)])])]), (.t 17), (.op (.bin .add (.t 0) (.c (.s (.int .i64 1)))) [(.t 17), (.c (.s (.int .i64 1)))])])]))])) [151, 152, 153, 154, 155, 156, 157, 158, 159, 160, 161, 162] fr H := tale_row (items := [.tt 12, .tt 0, .tt 11, .sub 0 [1, 0, 0, 0] [], .sub 0 [1, 0, 0] [], .sub 0 [1, 0] [], .tt 17, .tt 17, .sub 0 [1, 2] [], .sub 0 [1] [], .sub 0 [] [], .sub 0 [] []]) (by kernel_rfl) fr H
def s_gnomonlaw03_TokenLaid_r28 : List AOper := [
  ⟨some 163, (.move (.t 13)), none⟩,
  ⟨some 164, (.bin .mul (.c (.s (.int .i64 10))) (.t 163)), none⟩,
  ⟨some 165, (.move (.t 18)), none⟩,
  ⟨some 166, (.bin .sub (.t 165) (.c (.s (.int .u8 48)))), none⟩,
  ⟨some 167, (.conv .i64 (.t 166)), none⟩,
  ⟨some 168, (.bin .add (.t 164) (.t 167)), none⟩,
  ⟨some 13, (.move (.t 168)), none⟩]
theorem s_gnomonlaw03_TokenLaid_r28_tale (fr : List V) (H : Heap) : evTale (symAll s_gnomonlaw03_TokenLaid_r28 [18, 163, 164, 165, 166, 167, 168] [13]) [18, 163, 164, 165, 166, 167, 168] fr H = evTale (some (169, [], [(13, (.op (.bin .add (.t 0) (.t 1)) [(.op (.bin .mul (.c (.s (.int .i64 10))) (.t 1)) [(.c (.s (.int .i64 10))), (.t 13)]), (.op (.conv .i64 (.t 0)) [(.op (.bin .sub (.t 0) (.c (.s (.int .u8 48)))) [(.t 18), (.c (.s (.int .u8 48)))])])]))])) [18, 163, 164, 165, 166, 167, 168] fr H := tale_row (items := [.tt 13, .sub 0 [0] [], .tt 18, .sub 0 [1, 0] [], .sub 0 [1] [], .sub 0 [] [], .sub 0 [] []]) (by kernel_rfl) fr H
def s_gnomonlaw03_TokenLaid_r29 : List AOper := [
  ⟨some 129, (.move (.t 17)), none⟩,
  ⟨some 130, (.bin .add (.t 129) (.c (.s (.int .i64 1)))), none⟩,
  ⟨some 17, (.move (.t 130)), none⟩]
theorem s_gnomonlaw03_TokenLaid_r29_tale (fr : List V) (H : Heap) : evTale (symAll s_gnomonlaw03_TokenLaid_r29 [18, 129, 130, 151] [17]) [18, 129, 130, 151] fr H = evTale (some (131, [], [(17, (.op (.bin .add (.t 0) (.c (.s (.int .i64 1)))) [(.t 17), (.c (.s (.int .i64 1)))]))])) [18, 129, 130, 151] fr H := tale_row (items := [.tt 17, .sub 0 [] [], .sub 0 [] []]) (by kernel_rfl) fr H
def s_gnomonlaw03_TokenLaid_l1_b : ACode :=
  (.seq (.seq (.regionE s_gnomonlaw03_TokenLaid_r24 [116, 117, 118, 119, 120, 121, 122, 123, 124, 125, 126, 127] [128])
  (.cond (.t 128)
  .skip
  (.exit 5)))
  (.seq (.block 6
  (.seq (.regionE s_gnomonlaw03_TokenLaid_r25 [128, 131, 132, 133, 134, 135, 136, 137] [18])
  (.seq (.regionE s_gnomonlaw03_TokenLaid_r26 [138, 139, 140, 141, 142, 143, 144, 145, 146, 147, 148, 149, 150] [151])
  (.cond (.t 151)
  (.seq (.regionE s_gnomonlaw03_TokenLaid_r27 [151, 152, 153, 154, 155, 156, 157, 158, 159, 160, 161, 162] [12])
  (.regionE s_gnomonlaw03_TokenLaid_r28 [18, 163, 164, 165, 166, 167, 168] [13]))
  .skip))))
  (.regionE s_gnomonlaw03_TokenLaid_r29 [18, 129, 130, 151] [17])))
def s_gnomonlaw03_TokenLaid_l1 : ACode := s_gnomonlaw03_TokenLaid_l1_b
theorem s_gnomonlaw03_TokenLaid_l1_ev (call : CallF) (it : IterF) (base : Nat) (fr : List V) (H : Heap) : evC call it base s_gnomonlaw03_TokenLaid_l1 fr H = evC call it base s_gnomonlaw03_TokenLaid_l1_b fr H := rfl
def s_gnomonlaw03_TokenLaid_r30 : List AOper := [
  ⟨some 169, (.move (.t 12)), none⟩,
  ⟨some 170, (.bin .eql (.t 169) (.c (.s (.string ⟨#[]⟩)))), none⟩]
theorem s_gnomonlaw03_TokenLaid_r30_tale (fr : List V) (H : Heap) : evTale (symAll s_gnomonlaw03_TokenLaid_r30 [17, 128, 169] [170]) [17, 128, 169] fr H = evTale (some (171, [], [(170, (.op (.bin .eql (.t 0) (.c (.s (.string ⟨#[]⟩)))) [(.t 12), (.c (.s (.string ⟨#[]⟩)))]))])) [17, 128, 169] fr H := tale_row (items := [.tt 12, .sub 0 [] []]) (by kernel_rfl) fr H
def s_gnomonlaw03_TokenLaid_r31 : List AOper := [
  ⟨some 12, (.move (.c (.s (.string ⟨#[48]⟩)))), none⟩]
theorem s_gnomonlaw03_TokenLaid_r31_tale (fr : List V) (H : Heap) : evTale (symAll s_gnomonlaw03_TokenLaid_r31 [170] [12]) [170] fr H = evTale (some (13, [], [(12, (.c (.s (.string ⟨#[48]⟩))))])) [170] fr H := tale_row (items := [.cc (.s (.string ⟨#[48]⟩))]) (by kernel_rfl) fr H
def s_gnomonlaw03_TokenLaid_r32 : List AOper := [
  ⟨some 42, (.move (.t 0)), none⟩,
  ⟨some 43, (.move (.t 11)), none⟩,
  ⟨some 44, (.indexAddr 3 (.t 42) (.t 43)), none⟩,
  ⟨some 45, (.fieldAddr 1 (.t 44)), none⟩,
  ⟨some 46, (.load false 1 (.t 45)), none⟩,
  ⟨some 47, (.lenS .p (.t 46)), none⟩,
  ⟨some 48, (.bin .rem (.t 47) (.c (.s (.int .i64 9)))), none⟩,
  ⟨some 49, (.move (.t 0)), none⟩,
  ⟨some 50, (.move (.t 11)), none⟩,
  ⟨some 51, (.indexAddr 3 (.t 49) (.t 50)), none⟩,
  ⟨some 52, (.fieldAddr 1 (.t 51)), none⟩,
  ⟨some 53, (.load false 1 (.t 52)), none⟩,
  ⟨some 54, (.lenS .p (.t 53)), none⟩,
  ⟨some 55, (.bin .rem (.t 54) (.c (.s (.int .i64 9)))), none⟩,
  ⟨some 56, (.bin .add (.t 55) (.c (.s (.int .i64 1)))), none⟩,
  ⟨some 57, (.subStr (.c (.s (.string ⟨#[61, 44, 58, 40, 41, 123, 125, 91, 93]⟩))) (some (.t 48)) (some (.t 56))), none⟩,
  ⟨some 12, (.move (.t 57)), none⟩]
theorem s_gnomonlaw03_TokenLaid_r32_tale (fr : List V) (H : Heap) : evTale (symAll s_gnomonlaw03_TokenLaid_r32 [42, 43, 44, 45, 46, 47, 48, 49, 50, 51, 52, 53, 54, 55, 56, 57, 114] [12]) [42, 43, 44, 45, 46, 47, 48, 49, 50, 51, 52, 53, 54, 55, 56, 57, 114] fr H = evTale (some (58, [], [(12, (.op (.subStr (.c (.s (.string ⟨#[61, 44, 58, 40, 41, 123, 125, 91, 93]⟩))) (some (.t 1)) (some (.t 2))) [(.c (.s (.string ⟨#[61, 44, 58, 40, 41, 123, 125, 91, 93]⟩))), (.op (.bin .rem (.t 0) (.c (.s (.int .i64 9)))) [(.op (.lenS .p (.t 0)) [(.op (.load false 1 (.t 0)) [(.op (.fieldAddr 1 (.t 0)) [(.op (.indexAddr 3 (.t 0) (.t 1)) [(.t 0), (.t 11)])])])]), (.c (.s (.int .i64 9)))]), (.op (.bin .add (.t 0) (.c (.s (.int .i64 1)))) [(.op (.bin .rem (.t 0) (.c (.s (.int .i64 9)))) [(.op (.lenS .p (.t 0)) [(.op (.load false 1 (.t 0)) [(.op (.fieldAddr 1 (.t 0)) [(.op (.indexAddr 3 (.t 0) (.t 1)) [(.t 0), (.t 11)])])])]), (.c (.s (.int .i64 9)))]), (.c (.s (.int .i64 1)))])]))])) [42, 43, 44, 45, 46, 47, 48, 49, 50, 51, 52, 53, 54, 55, 56, 57, 114] fr H := tale_row (items := [.tt 0, .tt 11, .sub 0 [1, 0, 0, 0, 0] [], .sub 0 [1, 0, 0, 0] [], .sub 0 [1, 0, 0] [], .sub 0 [1, 0] [], .sub 0 [1] [], .tt 0, .tt 11, .sub 0 [1, 0, 0, 0, 0] [], .sub 0 [1, 0, 0, 0] [], .sub 0 [1, 0, 0] [], .sub 0 [1, 0] [], .sub 0 [1] [], .sub 0 [2] [], .sub 0 [] [], .sub 0 [] []]) (by kernel_rfl) fr H
def s_gnomonlaw03_TokenLaid_r33 : List AOper := [
  ⟨some 19, (.move (.c (.s (.string ⟨#[]⟩)))), none⟩]
theorem s_gnomonlaw03_TokenLaid_r33_tale (fr : List V) (H : Heap) : evTale (symAll s_gnomonlaw03_TokenLaid_r33 [15, 71, 170] [19]) [15, 71, 170] fr H = evTale (some (20, [], [(19, (.c (.s (.string ⟨#[]⟩))))])) [15, 71, 170] fr H := tale_row (items := [.cc (.s (.string ⟨#[]⟩))]) (by kernel_rfl) fr H
def s_gnomonlaw03_TokenLaid_r34 : List AOper := [
  ⟨some 171, (.move (.t 10)), none⟩,
  ⟨some 172, (.un .not (.t 171)), none⟩,
  ⟨some 173, (.move (.t 172)), none⟩,
  ⟨some 174, (.move (.t 14)), some (173, true)⟩,
  ⟨some 175, (.bin .neq (.t 174) (.c (.s (.int .u8 2)))), some (173, true)⟩,
  ⟨some 176, (.pick (.t 173) (.t 175) (.c (.s (.bool false)))), none⟩,
  ⟨some 177, (.move (.t 176)), none⟩,
  ⟨some 178, (.move (.t 0)), some (177, false)⟩,
  ⟨some 179, (.move (.t 11)), some (177, false)⟩,
  ⟨some 180, (.indexAddr 3 (.t 178) (.t 179)), some (177, false)⟩,
  ⟨some 181, (.fieldAddr 2 (.t 180)), some (177, false)⟩,
  ⟨some 182, (.load false 1 (.t 181)), some (177, false)⟩,
  ⟨some 183, (.bin .rem (.t 182) (.c (.s (.int .u8 2)))), some (177, false)⟩,
  ⟨some 184, (.bin .eql (.t 183) (.c (.s (.int .u8 1)))), some (177, false)⟩,
  ⟨some 185, (.pick (.t 177) (.c (.s (.bool true))) (.t 184)), none⟩]
theorem s_gnomonlaw03_TokenLaid_r34_tale (fr : List V) (H : Heap) : evTale (symAll s_gnomonlaw03_TokenLaid_r34 [10, 171, 172, 173, 174, 175, 176, 177, 178, 179, 180, 181, 182, 183, 184] [185]) [10, 171, 172, 173, 174, 175, 176, 177, 178, 179, 180, 181, 182, 183, 184] fr H = evTale (some (186, [], [(185, (.pick (.pick (.op (.un .not (.t 0)) [(.t 10)]) (.op (.bin .neq (.t 0) (.c (.s (.int .u8 2)))) [(.t 14), (.c (.s (.int .u8 2)))]) (.c (.s (.bool false)))) (.c (.s (.bool true))) (.op (.bin .eql (.t 0) (.c (.s (.int .u8 1)))) [(.op (.bin .rem (.t 0) (.c (.s (.int .u8 2)))) [(.op (.load false 1 (.t 0)) [(.op (.fieldAddr 2 (.t 0)) [(.op (.indexAddr 3 (.t 0) (.t 1)) [(.t 0), (.t 11)])])]), (.c (.s (.int .u8 2)))]), (.c (.s (.int .u8 1)))])))])) [10, 171, 172, 173, 174, 175, 176, 177, 178, 179, 180, 181, 182, 183, 184] fr H := tale_row (items := [.tt 10, .sub 0 [0, 0] [], .sub 0 [0, 0] [], .sub 0 [0, 1, 0] [173], .sub 0 [0, 1] [173], .sub 0 [0] [], .sub 0 [0] [], .sub 0 [2, 0, 0, 0, 0, 0] [177], .sub 0 [2, 0, 0, 0, 0, 1] [177], .sub 0 [2, 0, 0, 0, 0] [177], .sub 0 [2, 0, 0, 0] [177], .sub 0 [2, 0, 0] [177], .sub 0 [2, 0] [177], .sub 0 [2] [177], .sub 0 [] []]) (by kernel_rfl) fr H
def s_gnomonlaw03_TokenLaid_r35 : List AOper := [
  ⟨some 186, (.move (.t 5)), none⟩,
  ⟨some 187, (.move (.t 0)), none⟩,
  ⟨some 188, (.move (.t 11)), none⟩,
  ⟨some 189, (.indexAddr 3 (.t 187) (.t 188)), none⟩,
  ⟨some 190, (.fieldAddr 2 (.t 189)), none⟩,
  ⟨some 191, (.load false 1 (.t 190)), none⟩,
  ⟨some 192, (.conv .i64 (.t 191)), none⟩,
  ⟨some 193, (.bin .quo (.t 192) (.c (.s (.int .i64 2)))), none⟩,
  ⟨some 194, (.bin .rem (.t 193) (.c (.s (.int .i64 7)))), none⟩,
  ⟨some 195, (.indexAddr 1 (.t 186) (.t 194)), none⟩,
  ⟨some 196, (.load false 1 (.t 195)), none⟩,
  ⟨some 19, (.move (.t 196)), none⟩]
theorem s_gnomonlaw03_TokenLaid_r35_tale (fr : List V) (H : Heap) : evTale (symAll s_gnomonlaw03_TokenLaid_r35 [185, 186, 187, 188, 189, 190, 191, 192, 193, 194, 195, 196] [19]) [185, 186, 187, 188, 189, 190, 191, 192, 193, 194, 195, 196] fr H = evTale (some (197, [], [(19, (.op (.load false 1 (.t 0)) [(.op (.indexAddr 1 (.t 0) (.t 1)) [(.t 5), (.op (.bin .rem (.t 0) (.c (.s (.int .i64 7)))) [(.op (.bin .quo (.t 0) (.c (.s (.int .i64 2)))) [(.op (.conv .i64 (.t 0)) [(.op (.load false 1 (.t 0)) [(.op (.fieldAddr 2 (.t 0)) [(.op (.indexAddr 3 (.t 0) (.t 1)) [(.t 0), (.t 11)])])])]), (.c (.s (.int .i64 2)))]), (.c (.s (.int .i64 7)))])])]))])) [185, 186, 187, 188, 189, 190, 191, 192, 193, 194, 195, 196] fr H := tale_row (items := [.tt 5, .tt 0, .tt 11, .sub 0 [0, 1, 0, 0, 0, 0, 0] [], .sub 0 [0, 1, 0, 0, 0, 0] [], .sub 0 [0, 1, 0, 0, 0] [], .sub 0 [0, 1, 0, 0] [], .sub 0 [0, 1, 0] [], .sub 0 [0, 1] [], .sub 0 [0] [], .sub 0 [] [], .sub 0 [] []]) (by kernel_rfl) fr H
def s_gnomonlaw03_TokenLaid_r36 : List AOper := [
  ⟨some 20, (.move (.c (.s (.int .i64 0)))), none⟩]
theorem s_gnomonlaw03_TokenLaid_r36_tale (fr : List V) (H : Heap) : evTale (symAll s_gnomonlaw03_TokenLaid_r36 [185] [20]) [185] fr H = evTale (some (21, [], [(20, (.c (.s (.int .i64 0))))])) [185] fr H := tale_row (items := [.cc (.s (.int .i64 0))]) (by kernel_rfl) fr H
def s_gnomonlaw03_TokenLaid_r37 : List AOper := [
  ⟨some 197, (.move (.t 20)), none⟩,
  ⟨some 198, (.move (.t 19)), none⟩,
  ⟨some 199, (.lenS .p (.t 198)), none⟩,
  ⟨some 200, (.bin .lss (.t 197) (.t 199)), none⟩]
theorem s_gnomonlaw03_TokenLaid_r37_tale (fr : List V) (H : Heap) : evTale (symAll s_gnomonlaw03_TokenLaid_r37 [197, 198, 199] [200]) [197, 198, 199] fr H = evTale (some (201, [], [(200, (.op (.bin .lss (.t 0) (.t 1)) [(.t 20), (.op (.lenS .p (.t 0)) [(.t 19)])]))])) [197, 198, 199] fr H := tale_row (items := [.tt 20, .tt 19, .sub 0 [1] [], .sub 0 [] []]) (by kernel_rfl) fr H
def s_gnomonlaw03_TokenLaid_r38 : List AOper := [
  ⟨some 203, (.move (.t 9)), none⟩,
  ⟨some 204, (.bin .add (.t 203) (.c (.s (.int .i64 1)))), none⟩,
  ⟨some 9, (.move (.t 204)), none⟩]
theorem s_gnomonlaw03_TokenLaid_r38_tale (fr : List V) (H : Heap) : evTale (symAll s_gnomonlaw03_TokenLaid_r38 [200, 203, 204] [9]) [200, 203, 204] fr H = evTale (some (205, [], [(9, (.op (.bin .add (.t 0) (.c (.s (.int .i64 1)))) [(.t 9), (.c (.s (.int .i64 1)))]))])) [200, 203, 204] fr H := tale_row (items := [.tt 9, .sub 0 [] [], .sub 0 [] []]) (by kernel_rfl) fr H
def s_gnomonlaw03_TokenLaid_r39 : List AOper := [
  ⟨some 205, (.move (.t 19)), none⟩,
  ⟨some 206, (.move (.t 20)), none⟩,
  ⟨some 207, (.indexStr (.t 205) (.t 206)), none⟩,
  ⟨some 208, (.bin .eql (.t 207) (.c (.s (.int .u8 10)))), none⟩]
theorem s_gnomonlaw03_TokenLaid_r39_tale (fr : List V) (H : Heap) : evTale (symAll s_gnomonlaw03_TokenLaid_r39 [205, 206, 207] [208]) [205, 206, 207] fr H = evTale (some (209, [], [(208, (.op (.bin .eql (.t 0) (.c (.s (.int .u8 10)))) [(.op (.indexStr (.t 0) (.t 1)) [(.t 19), (.t 20)]), (.c (.s (.int .u8 10)))]))])) [205, 206, 207] fr H := tale_row (items := [.tt 19, .tt 20, .sub 0 [0] [], .sub 0 [] []]) (by kernel_rfl) fr H
def s_gnomonlaw03_TokenLaid_r40 : List AOper := [
  ⟨some 209, (.move (.t 8)), none⟩,
  ⟨some 210, (.bin .add (.t 209) (.c (.s (.int .i64 1)))), none⟩,
  ⟨some 8, (.move (.t 210)), none⟩]
theorem s_gnomonlaw03_TokenLaid_r40_tale (fr : List V) (H : Heap) : evTale (symAll s_gnomonlaw03_TokenLaid_r40 [9, 208, 209, 210] [8]) [9, 208, 209, 210] fr H = evTale (some (211, [], [(8, (.op (.bin .add (.t 0) (.c (.s (.int .i64 1)))) [(.t 8), (.c (.s (.int .i64 1)))]))])) [9, 208, 209, 210] fr H := tale_row (items := [.tt 8, .sub 0 [] [], .sub 0 [] []]) (by kernel_rfl) fr H
def s_gnomonlaw03_TokenLaid_r41 : List AOper := [
  ⟨some 9, (.move (.c (.s (.int .i64 1)))), none⟩]
theorem s_gnomonlaw03_TokenLaid_r41_tale (fr : List V) (H : Heap) : evTale (symAll s_gnomonlaw03_TokenLaid_r41 [] [9]) [] fr H = evTale (some (10, [], [(9, (.c (.s (.int .i64 1))))])) [] fr H := tale_row (items := [.cc (.s (.int .i64 1))]) (by kernel_rfl) fr H
def s_gnomonlaw03_TokenLaid_r42 : List AOper := [
  ⟨some 201, (.move (.t 20)), none⟩,
  ⟨some 202, (.bin .add (.t 201) (.c (.s (.int .i64 1)))), none⟩,
  ⟨some 20, (.move (.t 202)), none⟩]
theorem s_gnomonlaw03_TokenLaid_r42_tale (fr : List V) (H : Heap) : evTale (symAll s_gnomonlaw03_TokenLaid_r42 [201, 202, 208] [20]) [201, 202, 208] fr H = evTale (some (203, [], [(20, (.op (.bin .add (.t 0) (.c (.s (.int .i64 1)))) [(.t 20), (.c (.s (.int .i64 1)))]))])) [201, 202, 208] fr H := tale_row (items := [.tt 20, .sub 0 [] [], .sub 0 [] []]) (by kernel_rfl) fr H
def s_gnomonlaw03_TokenLaid_l2_b : ACode :=
  (.seq (.seq (.regionE s_gnomonlaw03_TokenLaid_r37 [197, 198, 199] [200])
  (.cond (.t 200)
  .skip
  (.exit 7)))
  (.seq (.block 8
  (.seq (.regionE s_gnomonlaw03_TokenLaid_r38 [200, 203, 204] [9])
  (.seq (.regionE s_gnomonlaw03_TokenLaid_r39 [205, 206, 207] [208])
  (.cond (.t 208)
  (.seq (.regionE s_gnomonlaw03_TokenLaid_r40 [9, 208, 209, 210] [8])
  (.regionE s_gnomonlaw03_TokenLaid_r41 [] [9]))
  .skip))))
  (.regionE s_gnomonlaw03_TokenLaid_r42 [201, 202, 208] [20])))
def s_gnomonlaw03_TokenLaid_l2 : ACode := s_gnomonlaw03_TokenLaid_l2_b
theorem s_gnomonlaw03_TokenLaid_l2_ev (call : CallF) (it : IterF) (base : Nat) (fr : List V) (H : Heap) : evC call it base s_gnomonlaw03_TokenLaid_l2 fr H = evC call it base s_gnomonlaw03_TokenLaid_l2_b fr H := rfl
def s_gnomonlaw03_TokenLaid_r43 : List AOper := [
  ⟨some 211, (.move (.t 6)), none⟩,
  ⟨some 212, (.move (.t 19)), none⟩,
  ⟨some 213, (.bin .add (.t 211) (.t 212)), none⟩,
  ⟨some 214, (.move (.t 12)), none⟩,
  ⟨some 215, (.bin .add (.t 213) (.t 214)), none⟩,
  ⟨some 6, (.move (.t 215)), none⟩]
theorem s_gnomonlaw03_TokenLaid_r43_tale (fr : List V) (H : Heap) : evTale (symAll s_gnomonlaw03_TokenLaid_r43 [19, 20, 200, 211, 212, 213, 214, 215] [6]) [19, 20, 200, 211, 212, 213, 214, 215] fr H = evTale (some (216, [], [(6, (.op (.bin .add (.t 0) (.t 1)) [(.op (.bin .add (.t 0) (.t 1)) [(.t 6), (.t 19)]), (.t 12)]))])) [19, 20, 200, 211, 212, 213, 214, 215] fr H := tale_row (items := [.tt 6, .tt 19, .sub 0 [0] [], .tt 12, .sub 0 [] [], .sub 0 [] []]) (by kernel_rfl) fr H
def s_gnomonlaw03_TokenLaid_r44t3 : List AOper := [⟨some 7, (.move (.t 226)), none⟩]
def s_gnomonlaw03_TokenLaid_r44p2 : List AOper := [⟨some 226, (.append 5 48 (.t 216) (.t 225)), none⟩]
def s_gnomonlaw03_TokenLaid_r44t2 : List AOper := s_gnomonlaw03_TokenLaid_r44p2 ++ s_gnomonlaw03_TokenLaid_r44t3
def s_gnomonlaw03_TokenLaid_r44p1 : List AOper := [⟨some 225, (.buildSl 5 1 [(.s (.int .u8 0)), (.s (.string ⟨#[]⟩)), (.s (.int .i64 0)), (.s (.int .i64 0)), (.s (.int .i64 0))] [(0, (.t 224))]), none⟩]
def s_gnomonlaw03_TokenLaid_r44t1 : List AOper := s_gnomonlaw03_TokenLaid_r44p1 ++ s_gnomonlaw03_TokenLaid_r44t2
def s_gnomonlaw03_TokenLaid_r44p0 : List AOper := [⟨some 216, (.move (.t 7)), none⟩, ⟨some 217, (.move (.t 14)), none⟩, ⟨some 218, (.bin .add (.t 217) (.c (.s (.int .u8 1)))), none⟩, ⟨some 219, (.move (.t 12)), none⟩, ⟨some 220, (.move (.t 13)), none⟩, ⟨some 221, (.move (.t 8)), none⟩, ⟨some 222, (.move (.t 9)), none⟩, ⟨some 223, (.build [(.s (.int .i64 0)), (.s (.int .i64 0))] [(0, 1), (1, 1)] [(0, (.t 221)), (1, (.t 222))]), none⟩, ⟨some 224, (.build [(.s (.int .u8 0)), (.s (.string ⟨#[]⟩)), (.s (.int .i64 0)), (.s (.int .i64 0)), (.s (.int .i64 0))] [(0, 1), (1, 1), (2, 1), (3, 2)] [(0, (.t 218)), (1, (.t 219)), (2, (.t 220)), (3, (.t 223))]), none⟩]
def s_gnomonlaw03_TokenLaid_r44 : List AOper := s_gnomonlaw03_TokenLaid_r44p0 ++ s_gnomonlaw03_TokenLaid_r44t1
theorem s_gnomonlaw03_TokenLaid_r44p0_tale (fr : List V) (H : Heap) : evTale (symAll s_gnomonlaw03_TokenLaid_r44p0 [7, 13, 217, 218, 219, 220, 221, 222, 223] [216, 224]) [7, 13, 217, 218, 219, 220, 221, 222, 223] fr H = evTale (some (225, [], [(216, (.t 7)), (224, (.op (.build [(.s (.int .u8 0)), (.s (.string ⟨#[]⟩)), (.s (.int .i64 0)), (.s (.int .i64 0)), (.s (.int .i64 0))] [(0, 1), (1, 1), (2, 1), (3, 2)] [(0, (.t 0)), (1, (.t 1)), (2, (.t 2)), (3, (.t 3))]) [(.op (.bin .add (.t 0) (.c (.s (.int .u8 1)))) [(.t 14), (.c (.s (.int .u8 1)))]), (.t 12), (.t 13), (.op (.build [(.s (.int .i64 0)), (.s (.int .i64 0))] [(0, 1), (1, 1)] [(0, (.t 0)), (1, (.t 1))]) [(.t 8), (.t 9)])]))])) [7, 13, 217, 218, 219, 220, 221, 222, 223] fr H := tale_row (items := [.tt 7, .tt 14, .sub 1 [0] [], .tt 12, .tt 13, .tt 8, .tt 9, .sub 1 [3] [], .sub 1 [] []]) (by kernel_rfl) fr H
theorem s_gnomonlaw03_TokenLaid_r44_x (call : CallF) (it : IterF) (base : Nat) (f : List V) (H : Heap) : evC call it base (.region s_gnomonlaw03_TokenLaid_r44 [] [13, 216, 217, 218, 219, 220, 221, 222, 223, 224, 225, 226]) f H = segC call it base s_gnomonlaw03_TokenLaid_r44t1 [13, 216, 217, 218, 219, 220, 221, 222, 223, 224, 225, 226] H (evTale (symAll s_gnomonlaw03_TokenLaid_r44p0 [7, 13, 217, 218, 219, 220, 221, 222, 223] [216, 224]) [7, 13, 217, 218, 219, 220, 221, 222, 223] f H) (origRow call it base s_gnomonlaw03_TokenLaid_r44 [13, 216, 217, 218, 219, 220, 221, 222, 223, 224, 225, 226] f H) := row_seg call it base s_gnomonlaw03_TokenLaid_r44p0 s_gnomonlaw03_TokenLaid_r44t1 (by kernel_rfl) f H
theorem s_gnomonlaw03_TokenLaid_r44t1_x (call : CallF) (it : IterF) (base : Nat) (f : List V) (H : Heap) : evC call it base (.region s_gnomonlaw03_TokenLaid_r44t1 [] [13, 216, 217, 218, 219, 220, 221, 222, 223, 224, 225, 226]) f H = thenC call it base (.region s_gnomonlaw03_TokenLaid_r44t2 [] [13, 216, 217, 218, 219, 220, 221, 222, 223, 224, 225, 226]) (opsC [] s_gnomonlaw03_TokenLaid_r44p1 [224] (evOps call base [⟨some 225, (.buildSl 5 1 [(.s (.int .u8 0)), (.s (.string ⟨#[]⟩)), (.s (.int .i64 0)), (.s (.int .i64 0)), (.s (.int .i64 0))] [(0, (.t 224))]), none⟩] f H)) := (row_op call it base s_gnomonlaw03_TokenLaid_r44p1 s_gnomonlaw03_TokenLaid_r44t2 (kc := [224]) (by kernel_rfl) f H).trans (by rw [row_ops]; rfl)
theorem s_gnomonlaw03_TokenLaid_r44t2_x (call : CallF) (it : IterF) (base : Nat) (f : List V) (H : Heap) : evC call it base (.region s_gnomonlaw03_TokenLaid_r44t2 [] [13, 216, 217, 218, 219, 220, 221, 222, 223, 224, 225, 226]) f H = thenC call it base (.region s_gnomonlaw03_TokenLaid_r44t3 [] [13, 216, 217, 218, 219, 220, 221, 222, 223, 224, 225, 226]) (opsC [] s_gnomonlaw03_TokenLaid_r44p2 [216, 225] (evOps call base [⟨some 226, (.append 5 48 (.t 216) (.t 225)), none⟩] f H)) := (row_op call it base s_gnomonlaw03_TokenLaid_r44p2 s_gnomonlaw03_TokenLaid_r44t3 (kc := [216, 225]) (by kernel_rfl) f H).trans (by rw [row_ops]; rfl)
theorem s_gnomonlaw03_TokenLaid_r44t3_tale (fr : List V) (H : Heap) : evTale (symAll s_gnomonlaw03_TokenLaid_r44t3 [13, 216, 217, 218, 219, 220, 221, 222, 223, 224, 225, 226] [7]) [13, 216, 217, 218, 219, 220, 221, 222, 223, 224, 225, 226] fr H = evTale (some (8, [], [(7, (.t 226))])) [13, 216, 217, 218, 219, 220, 221, 222, 223, 224, 225, 226] fr H := tale_row (items := [.tt 226]) (by kernel_rfl) fr H
theorem s_gnomonlaw03_TokenLaid_r44t3_x (call : CallF) (it : IterF) (base : Nat) (f : List V) (H : Heap) : evC call it base (.region s_gnomonlaw03_TokenLaid_r44t3 [] [13, 216, 217, 218, 219, 220, 221, 222, 223, 224, 225, 226]) f H = segL H (evTale (symAll s_gnomonlaw03_TokenLaid_r44t3 [13, 216, 217, 218, 219, 220, 221, 222, 223, 224, 225, 226] [7]) [13, 216, 217, 218, 219, 220, 221, 222, 223, 224, 225, 226] f H) (origRow call it base s_gnomonlaw03_TokenLaid_r44t3 [13, 216, 217, 218, 219, 220, 221, 222, 223, 224, 225, 226] f H) := row_last call it base _ f H
def s_gnomonlaw03_TokenLaid_r45 : List AOper := [
  ⟨some 227, (.move (.t 9)), none⟩,
  ⟨some 228, (.move (.t 12)), none⟩,
  ⟨some 229, (.lenS .p (.t 228)), none⟩,
  ⟨some 230, (.bin .add (.t 227) (.t 229)), none⟩,
  ⟨some 9, (.move (.t 230)), none⟩]
theorem s_gnomonlaw03_TokenLaid_r45_tale (fr : List V) (H : Heap) : evTale (symAll s_gnomonlaw03_TokenLaid_r45 [12, 227, 228, 229, 230] [9]) [12, 227, 228, 229, 230] fr H = evTale (some (231, [], [(9, (.op (.bin .add (.t 0) (.t 1)) [(.t 9), (.op (.lenS .p (.t 0)) [(.t 12)])]))])) [12, 227, 228, 229, 230] fr H := tale_row (items := [.tt 9, .tt 12, .sub 0 [1] [], .sub 0 [] [], .sub 0 [] []]) (by kernel_rfl) fr H
def s_gnomonlaw03_TokenLaid_r46 : List AOper := [
  ⟨some 231, (.move (.t 14)), none⟩,
  ⟨some 232, (.bin .eql (.t 231) (.c (.s (.int .u8 2)))), none⟩,
  ⟨some 10, (.move (.t 232)), none⟩]
theorem s_gnomonlaw03_TokenLaid_r46_tale (fr : List V) (H : Heap) : evTale (symAll s_gnomonlaw03_TokenLaid_r46 [14, 231, 232] [10]) [14, 231, 232] fr H = evTale (some (233, [], [(10, (.op (.bin .eql (.t 0) (.c (.s (.int .u8 2)))) [(.t 14), (.c (.s (.int .u8 2)))]))])) [14, 231, 232] fr H := tale_row (items := [.tt 14, .sub 0 [] [], .sub 0 [] []]) (by kernel_rfl) fr H
def s_gnomonlaw03_TokenLaid_r47 : List AOper := [
  ⟨some 33, (.move (.t 11)), none⟩,
  ⟨some 34, (.bin .add (.t 33) (.c (.s (.int .i64 1)))), none⟩,
  ⟨some 11, (.move (.t 34)), none⟩]
theorem s_gnomonlaw03_TokenLaid_r47_tale (fr : List V) (H : Heap) : evTale (symAll s_gnomonlaw03_TokenLaid_r47 [33, 34] [11]) [33, 34] fr H = evTale (some (35, [], [(11, (.op (.bin .add (.t 0) (.c (.s (.int .i64 1)))) [(.t 11), (.c (.s (.int .i64 1)))]))])) [33, 34] fr H := tale_row (items := [.tt 11, .sub 0 [] [], .sub 0 [] []]) (by kernel_rfl) fr H
def s_gnomonlaw03_TokenLaid_l3_b : ACode :=
  (.seq (.seq (.regionE s_gnomonlaw03_TokenLaid_r9 [29, 30, 31] [32])
  (.cond (.t 32)
  .skip
  (.exit 0)))
  (.seq (.block 1
  (.seq (.regionE s_gnomonlaw03_TokenLaid_r10 [32] [12])
  (.seq (.regionE s_gnomonlaw03_TokenLaid_r11 [] [13])
  (.seq (.regionE s_gnomonlaw03_TokenLaid_r12 [35, 36, 37, 38, 39, 40] [14])
  (.seq (.seq (.regionE s_gnomonlaw03_TokenLaid_r13 [] [41])
  (.block 2
  (.seq (.regionE s_gnomonlaw03_TokenLaid_r14 [59] [58])
  (.cond (.t 58)
  (.seq (.regionE s_gnomonlaw03_TokenLaid_r15 [41, 58] [12])
  (.seq (.regionE s_gnomonlaw03_TokenLaid_r16 [] [15])
  (.block 3
  (.loop [] s_gnomonlaw03_TokenLaid_l0))))
  (.seq (.regionE s_gnomonlaw03_TokenLaid_r22 [41, 58, 115] [114])
  (.cond (.t 114)
  (.seq (.seq (.regionE s_gnomonlaw03_TokenLaid_r23 [114] [17])
  (.block 5
  (.loop [] s_gnomonlaw03_TokenLaid_l1)))
  (.seq (.regionE s_gnomonlaw03_TokenLaid_r30 [17, 128, 169] [170])
  (.cond (.t 170)
  (.regionE s_gnomonlaw03_TokenLaid_r31 [170] [12])
  .skip)))
  (.regionE s_gnomonlaw03_TokenLaid_r32 [42, 43, 44, 45, 46, 47, 48, 49, 50, 51, 52, 53, 54, 55, 56, 57, 114] [12])))))))
  (.seq (.regionE s_gnomonlaw03_TokenLaid_r33 [15, 71, 170] [19])
  (.seq (.seq (.regionE s_gnomonlaw03_TokenLaid_r34 [10, 171, 172, 173, 174, 175, 176, 177, 178, 179, 180, 181, 182, 183, 184] [185])
  (.cond (.t 185)
  (.regionE s_gnomonlaw03_TokenLaid_r35 [185, 186, 187, 188, 189, 190, 191, 192, 193, 194, 195, 196] [19])
  .skip))
  (.seq (.seq (.regionE s_gnomonlaw03_TokenLaid_r36 [185] [20])
  (.block 7
  (.loop [] s_gnomonlaw03_TokenLaid_l2)))
  (.seq (.regionE s_gnomonlaw03_TokenLaid_r43 [19, 20, 200, 211, 212, 213, 214, 215] [6])
  (.seq (.region s_gnomonlaw03_TokenLaid_r44 [] [13, 216, 217, 218, 219, 220, 221, 222, 223, 224, 225, 226])
  (.seq (.regionE s_gnomonlaw03_TokenLaid_r45 [12, 227, 228, 229, 230] [9])
  (.regionE s_gnomonlaw03_TokenLaid_r46 [14, 231, 232] [10]))))))))))))
  (.regionE s_gnomonlaw03_TokenLaid_r47 [33, 34] [11])))
def s_gnomonlaw03_TokenLaid_l3 : ACode := s_gnomonlaw03_TokenLaid_l3_b
theorem s_gnomonlaw03_TokenLaid_l3_ev (call : CallF) (it : IterF) (base : Nat) (fr : List V) (H : Heap) : evC call it base s_gnomonlaw03_TokenLaid_l3 fr H = evC call it base s_gnomonlaw03_TokenLaid_l3_b fr H := rfl
def s_gnomonlaw03_TokenLaid_r48 : List AOper := [
  ⟨some 233, (.move (.t 1)), none⟩,
  ⟨some 234, (.bin .rem (.t 233) (.c (.s (.int .u8 2)))), none⟩,
  ⟨some 235, (.bin .eql (.t 234) (.c (.s (.int .u8 1)))), none⟩]
theorem s_gnomonlaw03_TokenLaid_r48_tale (fr : List V) (H : Heap) : evTale (symAll s_gnomonlaw03_TokenLaid_r48 [0, 1, 5, 10, 11, 32, 233, 234] [235]) [0, 1, 5, 10, 11, 32, 233, 234] fr H = evTale (some (236, [], [(235, (.op (.bin .eql (.t 0) (.c (.s (.int .u8 1)))) [(.op (.bin .rem (.t 0) (.c (.s (.int .u8 2)))) [(.t 1), (.c (.s (.int .u8 2)))]), (.c (.s (.int .u8 1)))]))])) [0, 1, 5, 10, 11, 32, 233, 234] fr H := tale_row (items := [.tt 1, .sub 0 [0] [], .sub 0 [] []]) (by kernel_rfl) fr H
def s_gnomonlaw03_TokenLaid_r49 : List AOper := [
  ⟨some 236, (.move (.t 6)), none⟩,
  ⟨some 237, (.bin .add (.t 236) (.c (.s (.string ⟨#[59, 32, 120]⟩)))), none⟩,
  ⟨some 6, (.move (.t 237)), none⟩]
theorem s_gnomonlaw03_TokenLaid_r49_tale (fr : List V) (H : Heap) : evTale (symAll s_gnomonlaw03_TokenLaid_r49 [235, 236, 237] [6]) [235, 236, 237] fr H = evTale (some (238, [], [(6, (.op (.bin .add (.t 0) (.c (.s (.string ⟨#[59, 32, 120]⟩)))) [(.t 6), (.c (.s (.string ⟨#[59, 32, 120]⟩)))]))])) [235, 236, 237] fr H := tale_row (items := [.tt 6, .sub 0 [] [], .sub 0 [] []]) (by kernel_rfl) fr H
def s_gnomonlaw03_TokenLaid_r50 : List AOper := [
  ⟨some 238, (.move (.t 9)), none⟩,
  ⟨some 239, (.bin .add (.t 238) (.c (.s (.int .i64 3)))), none⟩,
  ⟨some 9, (.move (.t 239)), none⟩]
theorem s_gnomonlaw03_TokenLaid_r50_tale (fr : List V) (H : Heap) : evTale (symAll s_gnomonlaw03_TokenLaid_r50 [238, 239] [9]) [238, 239] fr H = evTale (some (240, [], [(9, (.op (.bin .add (.t 0) (.c (.s (.int .i64 3)))) [(.t 9), (.c (.s (.int .i64 3)))]))])) [238, 239] fr H := tale_row (items := [.tt 9, .sub 0 [] [], .sub 0 [] []]) (by kernel_rfl) fr H
def s_gnomonlaw03_TokenLaid_r51t3 : List AOper := [⟨some 7, (.move (.t 246)), none⟩]
def s_gnomonlaw03_TokenLaid_r51p2 : List AOper := [⟨some 246, (.append 5 48 (.t 240) (.t 245)), none⟩]
def s_gnomonlaw03_TokenLaid_r51t2 : List AOper := s_gnomonlaw03_TokenLaid_r51p2 ++ s_gnomonlaw03_TokenLaid_r51t3
def s_gnomonlaw03_TokenLaid_r51p1 : List AOper := [⟨some 245, (.buildSl 5 1 [(.s (.int .u8 0)), (.s (.string ⟨#[]⟩)), (.s (.int .i64 0)), (.s (.int .i64 0)), (.s (.int .i64 0))] [(0, (.t 244))]), none⟩]
def s_gnomonlaw03_TokenLaid_r51t1 : List AOper := s_gnomonlaw03_TokenLaid_r51p1 ++ s_gnomonlaw03_TokenLaid_r51t2
def s_gnomonlaw03_TokenLaid_r51p0 : List AOper := [⟨some 240, (.move (.t 7)), none⟩, ⟨some 241, (.move (.t 8)), none⟩, ⟨some 242, (.move (.t 9)), none⟩, ⟨some 243, (.build [(.s (.int .i64 0)), (.s (.int .i64 0))] [(0, 1), (1, 1)] [(0, (.t 241)), (1, (.t 242))]), none⟩, ⟨some 244, (.build [(.s (.int .u8 0)), (.s (.string ⟨#[]⟩)), (.s (.int .i64 0)), (.s (.int .i64 0)), (.s (.int .i64 0))] [(0, 1), (1, 1), (2, 1), (3, 2)] [(0, (.c (.s (.int .u8 4)))), (3, (.t 243))]), none⟩]
def s_gnomonlaw03_TokenLaid_r51 : List AOper := s_gnomonlaw03_TokenLaid_r51p0 ++ s_gnomonlaw03_TokenLaid_r51t1
theorem s_gnomonlaw03_TokenLaid_r51p0_tale (fr : List V) (H : Heap) : evTale (symAll s_gnomonlaw03_TokenLaid_r51p0 [7, 8, 9, 235, 241, 242, 243] [240, 244]) [7, 8, 9, 235, 241, 242, 243] fr H = evTale (some (245, [], [(240, (.t 7)), (244, (.op (.build [(.s (.int .u8 0)), (.s (.string ⟨#[]⟩)), (.s (.int .i64 0)), (.s (.int .i64 0)), (.s (.int .i64 0))] [(0, 1), (1, 1), (2, 1), (3, 2)] [(0, (.c (.s (.int .u8 4)))), (3, (.t 1))]) [(.c (.s (.int .u8 4))), (.op (.build [(.s (.int .i64 0)), (.s (.int .i64 0))] [(0, 1), (1, 1)] [(0, (.t 0)), (1, (.t 1))]) [(.t 8), (.t 9)])]))])) [7, 8, 9, 235, 241, 242, 243] fr H := tale_row (items := [.tt 7, .tt 8, .tt 9, .sub 1 [1] [], .sub 1 [] []]) (by kernel_rfl) fr H
theorem s_gnomonlaw03_TokenLaid_r51_x (call : CallF) (it : IterF) (base : Nat) (f : List V) (H : Heap) : evC call it base (.region s_gnomonlaw03_TokenLaid_r51 [] [8, 9, 235, 240, 241, 242, 243, 244, 245, 246]) f H = segC call it base s_gnomonlaw03_TokenLaid_r51t1 [8, 9, 235, 240, 241, 242, 243, 244, 245, 246] H (evTale (symAll s_gnomonlaw03_TokenLaid_r51p0 [7, 8, 9, 235, 241, 242, 243] [240, 244]) [7, 8, 9, 235, 241, 242, 243] f H) (origRow call it base s_gnomonlaw03_TokenLaid_r51 [8, 9, 235, 240, 241, 242, 243, 244, 245, 246] f H) := row_seg call it base s_gnomonlaw03_TokenLaid_r51p0 s_gnomonlaw03_TokenLaid_r51t1 (by kernel_rfl) f H
theorem s_gnomonlaw03_TokenLaid_r51t1_x (call : CallF) (it : IterF) (base : Nat) (f : List V) (H : Heap) : evC call it base (.region s_gnomonlaw03_TokenLaid_r51t1 [] [8, 9, 235, 240, 241, 242, 243, 244, 245, 246]) f H = thenC call it base (.region s_gnomonlaw03_TokenLaid_r51t2 [] [8, 9, 235, 240, 241, 242, 243, 244, 245, 246]) (opsC [] s_gnomonlaw03_TokenLaid_r51p1 [244] (evOps call base [⟨some 245, (.buildSl 5 1 [(.s (.int .u8 0)), (.s (.string ⟨#[]⟩)), (.s (.int .i64 0)), (.s (.int .i64 0)), (.s (.int .i64 0))] [(0, (.t 244))]), none⟩] f H)) := (row_op call it base s_gnomonlaw03_TokenLaid_r51p1 s_gnomonlaw03_TokenLaid_r51t2 (kc := [244]) (by kernel_rfl) f H).trans (by rw [row_ops]; rfl)
theorem s_gnomonlaw03_TokenLaid_r51t2_x (call : CallF) (it : IterF) (base : Nat) (f : List V) (H : Heap) : evC call it base (.region s_gnomonlaw03_TokenLaid_r51t2 [] [8, 9, 235, 240, 241, 242, 243, 244, 245, 246]) f H = thenC call it base (.region s_gnomonlaw03_TokenLaid_r51t3 [] [8, 9, 235, 240, 241, 242, 243, 244, 245, 246]) (opsC [] s_gnomonlaw03_TokenLaid_r51p2 [240, 245] (evOps call base [⟨some 246, (.append 5 48 (.t 240) (.t 245)), none⟩] f H)) := (row_op call it base s_gnomonlaw03_TokenLaid_r51p2 s_gnomonlaw03_TokenLaid_r51t3 (kc := [240, 245]) (by kernel_rfl) f H).trans (by rw [row_ops]; rfl)
theorem s_gnomonlaw03_TokenLaid_r51t3_tale (fr : List V) (H : Heap) : evTale (symAll s_gnomonlaw03_TokenLaid_r51t3 [8, 9, 235, 240, 241, 242, 243, 244, 245, 246] [7]) [8, 9, 235, 240, 241, 242, 243, 244, 245, 246] fr H = evTale (some (8, [], [(7, (.t 246))])) [8, 9, 235, 240, 241, 242, 243, 244, 245, 246] fr H := tale_row (items := [.tt 246]) (by kernel_rfl) fr H
theorem s_gnomonlaw03_TokenLaid_r51t3_x (call : CallF) (it : IterF) (base : Nat) (f : List V) (H : Heap) : evC call it base (.region s_gnomonlaw03_TokenLaid_r51t3 [] [8, 9, 235, 240, 241, 242, 243, 244, 245, 246]) f H = segL H (evTale (symAll s_gnomonlaw03_TokenLaid_r51t3 [8, 9, 235, 240, 241, 242, 243, 244, 245, 246] [7]) [8, 9, 235, 240, 241, 242, 243, 244, 245, 246] f H) (origRow call it base s_gnomonlaw03_TokenLaid_r51t3 [8, 9, 235, 240, 241, 242, 243, 244, 245, 246] f H) := row_last call it base _ f H
def s_gnomonlaw03_TokenLaid_r52t6 : List AOper := [⟨some 23, (.move (.t 252)), none⟩]
def s_gnomonlaw03_TokenLaid_r52p5 : List AOper := [⟨none, (.store 2 (.t 22) (.t 251)), none⟩]
def s_gnomonlaw03_TokenLaid_r52t5 : List AOper := s_gnomonlaw03_TokenLaid_r52p5 ++ s_gnomonlaw03_TokenLaid_r52t6
def s_gnomonlaw03_TokenLaid_r52p4 : List AOper := [⟨some 21, (.move (.t 250)), none⟩]
def s_gnomonlaw03_TokenLaid_r52t4 : List AOper := s_gnomonlaw03_TokenLaid_r52p4 ++ s_gnomonlaw03_TokenLaid_r52t5
def s_gnomonlaw03_TokenLaid_r52p3 : List AOper := [⟨some 22, (.alloc [(.s (.int .i64 0)), (.s (.int .i64 0))]), none⟩]
def s_gnomonlaw03_TokenLaid_r52t3 : List AOper := s_gnomonlaw03_TokenLaid_r52p3 ++ s_gnomonlaw03_TokenLaid_r52t4
def s_gnomonlaw03_TokenLaid_r52p2 : List AOper := [⟨some 247, (.move (.t 249)), none⟩, ⟨some 250, (.extract (.t 247) 0), none⟩, ⟨some 251, (.extract (.t 247) 1), none⟩, ⟨some 252, (.extract (.t 247) 2), none⟩]
def s_gnomonlaw03_TokenLaid_r52t2 : List AOper := s_gnomonlaw03_TokenLaid_r52p2 ++ s_gnomonlaw03_TokenLaid_r52t3
def s_gnomonlaw03_TokenLaid_r52p1 : List AOper := [⟨some 249, (.call (.c (.fn 8 [] [])) [(.t 248)]), none⟩]
def s_gnomonlaw03_TokenLaid_r52t1 : List AOper := s_gnomonlaw03_TokenLaid_r52p1 ++ s_gnomonlaw03_TokenLaid_r52t2
def s_gnomonlaw03_TokenLaid_r52p0 : List AOper := [⟨some 248, (.move (.t 6)), none⟩]
def s_gnomonlaw03_TokenLaid_r52 : List AOper := s_gnomonlaw03_TokenLaid_r52p0 ++ s_gnomonlaw03_TokenLaid_r52t1
theorem s_gnomonlaw03_TokenLaid_r52p0_tale (fr : List V) (H : Heap) : evTale (symAll s_gnomonlaw03_TokenLaid_r52p0 [6] [248]) [6] fr H = evTale (some (249, [], [(248, (.t 6))])) [6] fr H := tale_row (items := [.tt 6]) (by kernel_rfl) fr H
theorem s_gnomonlaw03_TokenLaid_r52_x (call : CallF) (it : IterF) (base : Nat) (f : List V) (H : Heap) : evC call it base (.region s_gnomonlaw03_TokenLaid_r52 [] [6, 247, 248, 249, 250, 251, 252]) f H = segC call it base s_gnomonlaw03_TokenLaid_r52t1 [6, 247, 248, 249, 250, 251, 252] H (evTale (symAll s_gnomonlaw03_TokenLaid_r52p0 [6] [248]) [6] f H) (origRow call it base s_gnomonlaw03_TokenLaid_r52 [6, 247, 248, 249, 250, 251, 252] f H) := row_seg call it base s_gnomonlaw03_TokenLaid_r52p0 s_gnomonlaw03_TokenLaid_r52t1 (by kernel_rfl) f H
theorem s_gnomonlaw03_TokenLaid_r52t1_x (call : CallF) (it : IterF) (base : Nat) (f : List V) (H : Heap) : evC call it base (.region s_gnomonlaw03_TokenLaid_r52t1 [] [6, 247, 248, 249, 250, 251, 252]) f H = thenC call it base (.region s_gnomonlaw03_TokenLaid_r52t2 [] [6, 247, 248, 249, 250, 251, 252]) (opsC [] s_gnomonlaw03_TokenLaid_r52p1 [248] (evOps call base [⟨some 249, (.call (.c (.fn 8 [] [])) [(.t 248)]), none⟩] f H)) := (row_op call it base s_gnomonlaw03_TokenLaid_r52p1 s_gnomonlaw03_TokenLaid_r52t2 (kc := [248]) (by kernel_rfl) f H).trans (by rw [row_ops]; rfl)
theorem s_gnomonlaw03_TokenLaid_r52p2_tale (fr : List V) (H : Heap) : evTale (symAll s_gnomonlaw03_TokenLaid_r52p2 [247, 249] [250, 251, 252]) [247, 249] fr H = evTale (some (253, [], [(250, (.op (.extract (.t 0) 0) [(.t 249)])), (251, (.op (.extract (.t 0) 1) [(.t 249)])), (252, (.op (.extract (.t 0) 2) [(.t 249)]))])) [247, 249] fr H := tale_row (items := [.tt 249, .sub 0 [] [], .sub 1 [] [], .sub 2 [] []]) (by kernel_rfl) fr H
theorem s_gnomonlaw03_TokenLaid_r52t2_x (call : CallF) (it : IterF) (base : Nat) (f : List V) (H : Heap) : evC call it base (.region s_gnomonlaw03_TokenLaid_r52t2 [] [6, 247, 248, 249, 250, 251, 252]) f H = segC call it base s_gnomonlaw03_TokenLaid_r52t3 [6, 247, 248, 249, 250, 251, 252] H (evTale (symAll s_gnomonlaw03_TokenLaid_r52p2 [247, 249] [250, 251, 252]) [247, 249] f H) (origRow call it base s_gnomonlaw03_TokenLaid_r52t2 [6, 247, 248, 249, 250, 251, 252] f H) := row_seg call it base s_gnomonlaw03_TokenLaid_r52p2 s_gnomonlaw03_TokenLaid_r52t3 (by kernel_rfl) f H
theorem s_gnomonlaw03_TokenLaid_r52t3_x (call : CallF) (it : IterF) (base : Nat) (f : List V) (H : Heap) : evC call it base (.region s_gnomonlaw03_TokenLaid_r52t3 [] [6, 247, 248, 249, 250, 251, 252]) f H = thenC call it base (.region s_gnomonlaw03_TokenLaid_r52t4 [] [6, 247, 248, 249, 250, 251, 252]) (opsC [] s_gnomonlaw03_TokenLaid_r52p3 [] (evOps call base [⟨some 22, (.alloc [(.s (.int .i64 0)), (.s (.int .i64 0))]), none⟩] f H)) := (row_op call it base s_gnomonlaw03_TokenLaid_r52p3 s_gnomonlaw03_TokenLaid_r52t4 (kc := []) (by kernel_rfl) f H).trans (by rw [row_ops]; rfl)
theorem s_gnomonlaw03_TokenLaid_r52p4_tale (fr : List V) (H : Heap) : evTale (symAll s_gnomonlaw03_TokenLaid_r52p4 [250] [21]) [250] fr H = evTale (some (22, [], [(21, (.t 250))])) [250] fr H := tale_row (items := [.tt 250]) (by kernel_rfl) fr H
theorem s_gnomonlaw03_TokenLaid_r52t4_x (call : CallF) (it : IterF) (base : Nat) (f : List V) (H : Heap) : evC call it base (.region s_gnomonlaw03_TokenLaid_r52t4 [] [6, 247, 248, 249, 250, 251, 252]) f H = segC call it base s_gnomonlaw03_TokenLaid_r52t5 [6, 247, 248, 249, 250, 251, 252] H (evTale (symAll s_gnomonlaw03_TokenLaid_r52p4 [250] [21]) [250] f H) (origRow call it base s_gnomonlaw03_TokenLaid_r52t4 [6, 247, 248, 249, 250, 251, 252] f H) := row_seg call it base s_gnomonlaw03_TokenLaid_r52p4 s_gnomonlaw03_TokenLaid_r52t5 (by kernel_rfl) f H
theorem s_gnomonlaw03_TokenLaid_r52t5_x (call : CallF) (it : IterF) (base : Nat) (f : List V) (H : Heap) : evC call it base (.region s_gnomonlaw03_TokenLaid_r52t5 [] [6, 247, 248, 249, 250, 251, 252]) f H = thenC call it base (.region s_gnomonlaw03_TokenLaid_r52t6 [] [6, 247, 248, 249, 250, 251, 252]) (opsC [] s_gnomonlaw03_TokenLaid_r52p5 [251] (evOps call base [⟨none, (.store 2 (.t 22) (.t 251)), none⟩] f H)) := (row_op call it base s_gnomonlaw03_TokenLaid_r52p5 s_gnomonlaw03_TokenLaid_r52t6 (kc := [251]) (by kernel_rfl) f H).trans (by rw [row_ops]; rfl)
theorem s_gnomonlaw03_TokenLaid_r52t6_tale (fr : List V) (H : Heap) : evTale (symAll s_gnomonlaw03_TokenLaid_r52t6 [6, 247, 248, 249, 250, 251, 252] [23]) [6, 247, 248, 249, 250, 251, 252] fr H = evTale (some (24, [], [(23, (.t 252))])) [6, 247, 248, 249, 250, 251, 252] fr H := tale_row (items := [.tt 252]) (by kernel_rfl) fr H
theorem s_gnomonlaw03_TokenLaid_r52t6_x (call : CallF) (it : IterF) (base : Nat) (f : List V) (H : Heap) : evC call it base (.region s_gnomonlaw03_TokenLaid_r52t6 [] [6, 247, 248, 249, 250, 251, 252]) f H = segL H (evTale (symAll s_gnomonlaw03_TokenLaid_r52t6 [6, 247, 248, 249, 250, 251, 252] [23]) [6, 247, 248, 249, 250, 251, 252] f H) (origRow call it base s_gnomonlaw03_TokenLaid_r52t6 [6, 247, 248, 249, 250, 251, 252] f H) := row_last call it base _ f H
def s_gnomonlaw03_TokenLaid_r53 : List AOper := [
  ⟨some 253, (.move (.t 23)), none⟩,
  ⟨some 254, (.bin .neq (.t 253) (.c (.s (.int .i64 0)))), none⟩,
  ⟨some 255, (.move (.t 254)), none⟩,
  ⟨some 256, (.load true 2 (.t 22)), some (255, false)⟩,
  ⟨some 257, (.build [(.s (.int .i64 0)), (.s (.int .i64 0))] [(0, 1), (1, 1)] []), some (255, false)⟩,
  ⟨some 258, (.eqAgg true [(.int .i64), (.int .i64)] (.t 256) (.t 257)), some (255, false)⟩,
  ⟨some 259, (.pick (.t 255) (.c (.s (.bool true))) (.t 258)), none⟩,
  ⟨some 260, (.move (.t 259)), none⟩,
  ⟨some 261, (.move (.t 21)), some (260, false)⟩,
  ⟨some 262, (.lenS .s (.t 261)), some (260, false)⟩,
  ⟨some 263, (.move (.t 7)), some (260, false)⟩,
  ⟨some 264, (.lenS .s (.t 263)), some (260, false)⟩,
  ⟨some 265, (.bin .neq (.t 262) (.t 264)), some (260, false)⟩,
  ⟨some 266, (.pick (.t 260) (.c (.s (.bool true))) (.t 265)), none⟩]
theorem s_gnomonlaw03_TokenLaid_r53_tale (fr : List V) (H : Heap) : evTale (symAll s_gnomonlaw03_TokenLaid_r53 [22, 23, 253, 254, 255, 256, 257, 258, 259, 260, 261, 262, 263, 264, 265] [266]) [22, 23, 253, 254, 255, 256, 257, 258, 259, 260, 261, 262, 263, 264, 265] fr H = evTale (some (267, [], [(266, (.pick (.pick (.op (.bin .neq (.t 0) (.c (.s (.int .i64 0)))) [(.t 23), (.c (.s (.int .i64 0)))]) (.c (.s (.bool true))) (.op (.eqAgg true [(.int .i64), (.int .i64)] (.t 0) (.t 1)) [(.op (.load true 2 (.t 0)) [(.t 22)]), (.op (.build [(.s (.int .i64 0)), (.s (.int .i64 0))] [(0, 1), (1, 1)] []) [])])) (.c (.s (.bool true))) (.op (.bin .neq (.t 0) (.t 1)) [(.op (.lenS .s (.t 0)) [(.t 21)]), (.op (.lenS .s (.t 0)) [(.t 7)])])))])) [22, 23, 253, 254, 255, 256, 257, 258, 259, 260, 261, 262, 263, 264, 265] fr H := tale_row (items := [.tt 23, .sub 0 [0, 0] [], .sub 0 [0, 0] [], .sub 0 [0, 2, 0] [255], .sub 0 [0, 2, 1] [255], .sub 0 [0, 2] [255], .sub 0 [0] [], .sub 0 [0] [], .sub 0 [2, 0, 0] [260], .sub 0 [2, 0] [260], .sub 0 [2, 1, 0] [260], .sub 0 [2, 1] [260], .sub 0 [2] [260], .sub 0 [] []]) (by kernel_rfl) fr H
def s_gnomonlaw03_TokenLaid_r54 : List AOper := [
  ⟨some 4, (.move (.c (.s (.bool false)))), none⟩]
theorem s_gnomonlaw03_TokenLaid_r54_tale (fr : List V) (H : Heap) : evTale (symAll s_gnomonlaw03_TokenLaid_r54 [7, 21, 266] [4]) [7, 21, 266] fr H = evTale (some (5, [], [(4, (.c (.s (.bool false))))])) [7, 21, 266] fr H := tale_row (items := [.cc (.s (.bool false))]) (by kernel_rfl) fr H
def s_gnomonlaw03_TokenLaid_r55 : List AOper := [
  ⟨some 24, (.move (.c (.s (.int .i64 0)))), none⟩]
theorem s_gnomonlaw03_TokenLaid_r55_tale (fr : List V) (H : Heap) : evTale (symAll s_gnomonlaw03_TokenLaid_r55 [266] [24]) [266] fr H = evTale (some (25, [], [(24, (.c (.s (.int .i64 0))))])) [266] fr H := tale_row (items := [.cc (.s (.int .i64 0))]) (by kernel_rfl) fr H
def s_gnomonlaw03_TokenLaid_r56 : List AOper := [
  ⟨some 267, (.move (.t 24)), none⟩,
  ⟨some 268, (.move (.t 21)), none⟩,
  ⟨some 269, (.lenS .s (.t 268)), none⟩,
  ⟨some 270, (.bin .lss (.t 267) (.t 269)), none⟩]
theorem s_gnomonlaw03_TokenLaid_r56_tale (fr : List V) (H : Heap) : evTale (symAll s_gnomonlaw03_TokenLaid_r56 [267, 268, 269] [270]) [267, 268, 269] fr H = evTale (some (271, [], [(270, (.op (.bin .lss (.t 0) (.t 1)) [(.t 24), (.op (.lenS .s (.t 0)) [(.t 21)])]))])) [267, 268, 269] fr H := tale_row (items := [.tt 24, .tt 21, .sub 0 [1] [], .sub 0 [] []]) (by kernel_rfl) fr H
def s_gnomonlaw03_TokenLaid_r57 : List AOper := [
  ⟨some 273, (.move (.t 21)), none⟩,
  ⟨some 274, (.move (.t 24)), none⟩,
  ⟨some 275, (.indexAddr 5 (.t 273) (.t 274)), none⟩,
  ⟨some 276, (.load true 5 (.t 275)), none⟩,
  ⟨some 277, (.move (.t 7)), none⟩,
  ⟨some 278, (.move (.t 24)), none⟩,
  ⟨some 279, (.indexAddr 5 (.t 277) (.t 278)), none⟩,
  ⟨some 280, (.load true 5 (.t 279)), none⟩,
  ⟨some 281, (.eqAgg true [(.int .u8), .str, (.int .i64), (.int .i64), (.int .i64)] (.t 276) (.t 280)), none⟩]
theorem s_gnomonlaw03_TokenLaid_r57_tale (fr : List V) (H : Heap) : evTale (symAll s_gnomonlaw03_TokenLaid_r57 [270, 273, 274, 275, 276, 277, 278, 279, 280] [281]) [270, 273, 274, 275, 276, 277, 278, 279, 280] fr H = evTale (some (282, [], [(281, (.op (.eqAgg true [(.int .u8), .str, (.int .i64), (.int .i64), (.int .i64)] (.t 0) (.t 1)) [(.op (.load true 5 (.t 0)) [(.op (.indexAddr 5 (.t 0) (.t 1)) [(.t 21), (.t 24)])]), (.op (.load true 5 (.t 0)) [(.op (.indexAddr 5 (.t 0) (.t 1)) [(.t 7), (.t 24)])])]))])) [270, 273, 274, 275, 276, 277, 278, 279, 280] fr H := tale_row (items := [.tt 21, .tt 24, .sub 0 [0, 0] [], .sub 0 [0] [], .tt 7, .tt 24, .sub 0 [1, 0] [], .sub 0 [1] [], .sub 0 [] []]) (by kernel_rfl) fr H
def s_gnomonlaw03_TokenLaid_r58 : List AOper := [
  ⟨some 4, (.move (.c (.s (.bool false)))), none⟩]
theorem s_gnomonlaw03_TokenLaid_r58_tale (fr : List V) (H : Heap) : evTale (symAll s_gnomonlaw03_TokenLaid_r58 [7, 21, 24, 281] [4]) [7, 21, 24, 281] fr H = evTale (some (5, [], [(4, (.c (.s (.bool false))))])) [7, 21, 24, 281] fr H := tale_row (items := [.cc (.s (.bool false))]) (by kernel_rfl) fr H
def s_gnomonlaw03_TokenLaid_r59 : List AOper := [
  ⟨some 271, (.move (.t 24)), none⟩,
  ⟨some 272, (.bin .add (.t 271) (.c (.s (.int .i64 1)))), none⟩,
  ⟨some 24, (.move (.t 272)), none⟩]
theorem s_gnomonlaw03_TokenLaid_r59_tale (fr : List V) (H : Heap) : evTale (symAll s_gnomonlaw03_TokenLaid_r59 [271, 272, 281] [24]) [271, 272, 281] fr H = evTale (some (273, [], [(24, (.op (.bin .add (.t 0) (.c (.s (.int .i64 1)))) [(.t 24), (.c (.s (.int .i64 1)))]))])) [271, 272, 281] fr H := tale_row (items := [.tt 24, .sub 0 [] [], .sub 0 [] []]) (by kernel_rfl) fr H
def s_gnomonlaw03_TokenLaid_l4_b : ACode :=
  (.seq (.seq (.regionE s_gnomonlaw03_TokenLaid_r56 [267, 268, 269] [270])
  (.cond (.t 270)
  .skip
  (.exit 9)))
  (.seq (.block 10
  (.seq (.regionE s_gnomonlaw03_TokenLaid_r57 [270, 273, 274, 275, 276, 277, 278, 279, 280] [281])
  (.cond (.t 281)
  (.seq (.regionE s_gnomonlaw03_TokenLaid_r58 [7, 21, 24, 281] [4])
  .ret)
  .skip)))
  (.regionE s_gnomonlaw03_TokenLaid_r59 [271, 272, 281] [24])))
def s_gnomonlaw03_TokenLaid_l4 : ACode := s_gnomonlaw03_TokenLaid_l4_b
theorem s_gnomonlaw03_TokenLaid_l4_ev (call : CallF) (it : IterF) (base : Nat) (fr : List V) (H : Heap) : evC call it base s_gnomonlaw03_TokenLaid_l4 fr H = evC call it base s_gnomonlaw03_TokenLaid_l4_b fr H := rfl
def s_gnomonlaw03_TokenLaid_r60t1 : List AOper := [⟨some 4, (.move (.t 282)), none⟩]
def s_gnomonlaw03_TokenLaid_r60p0 : List AOper := [⟨some 282, (.call (.c (.fn 11 [] [])) []), none⟩]
def s_gnomonlaw03_TokenLaid_r60 : List AOper := s_gnomonlaw03_TokenLaid_r60p0 ++ s_gnomonlaw03_TokenLaid_r60t1
theorem s_gnomonlaw03_TokenLaid_r60_x (call : CallF) (it : IterF) (base : Nat) (f : List V) (H : Heap) : evC call it base (.region s_gnomonlaw03_TokenLaid_r60 [] [7, 21, 24, 270, 282]) f H = thenC call it base (.region s_gnomonlaw03_TokenLaid_r60t1 [] [7, 21, 24, 270, 282]) (opsC [] s_gnomonlaw03_TokenLaid_r60p0 [7, 21, 24, 270] (evOps call base [⟨some 282, (.call (.c (.fn 11 [] [])) []), none⟩] f H)) := (row_op call it base s_gnomonlaw03_TokenLaid_r60p0 s_gnomonlaw03_TokenLaid_r60t1 (kc := [7, 21, 24, 270]) (by kernel_rfl) f H).trans (by rw [row_ops]; rfl)
theorem s_gnomonlaw03_TokenLaid_r60t1_tale (fr : List V) (H : Heap) : evTale (symAll s_gnomonlaw03_TokenLaid_r60t1 [7, 21, 24, 270, 282] [4]) [7, 21, 24, 270, 282] fr H = evTale (some (5, [], [(4, (.t 282))])) [7, 21, 24, 270, 282] fr H := tale_row (items := [.tt 282]) (by kernel_rfl) fr H
theorem s_gnomonlaw03_TokenLaid_r60t1_x (call : CallF) (it : IterF) (base : Nat) (f : List V) (H : Heap) : evC call it base (.region s_gnomonlaw03_TokenLaid_r60t1 [] [7, 21, 24, 270, 282]) f H = segL H (evTale (symAll s_gnomonlaw03_TokenLaid_r60t1 [7, 21, 24, 270, 282] [4]) [7, 21, 24, 270, 282] f H) (origRow call it base s_gnomonlaw03_TokenLaid_r60t1 [7, 21, 24, 270, 282] f H) := row_last call it base _ f H
def s_gnomonlaw03_TokenLaid : ACFun := { ntmps := 283, results := [(.tmp 4)], body :=
  (.seq (.regionE s_gnomonlaw03_TokenLaid_r0 s_gnomonlaw03_TokenLaid_r0_k [])
  (.seq (.seq (.regionE s_gnomonlaw03_TokenLaid_r1 [25, 26] [27])
  (.cond (.t 27)
  (.seq (.regionE s_gnomonlaw03_TokenLaid_r2 [0, 1, 27] [4])
  .ret)
  .skip))
  (.seq (.region s_gnomonlaw03_TokenLaid_r3 [] [27, 28])
  (.seq (.regionE s_gnomonlaw03_TokenLaid_r4 [] [6])
  (.seq (.regionE s_gnomonlaw03_TokenLaid_r5 [] [7])
  (.seq (.regionE s_gnomonlaw03_TokenLaid_r6 [] [8, 9])
  (.seq (.regionE s_gnomonlaw03_TokenLaid_r7 [] [10])
  (.seq (.seq (.regionE s_gnomonlaw03_TokenLaid_r8 [] [11])
  (.block 0
  (.loop [] s_gnomonlaw03_TokenLaid_l3)))
  (.seq (.seq (.regionE s_gnomonlaw03_TokenLaid_r48 [0, 1, 5, 10, 11, 32, 233, 234] [235])
  (.cond (.t 235)
  (.seq (.regionE s_gnomonlaw03_TokenLaid_r49 [235, 236, 237] [6])
  (.regionE s_gnomonlaw03_TokenLaid_r50 [238, 239] [9]))
  .skip))
  (.seq (.region s_gnomonlaw03_TokenLaid_r51 [] [8, 9, 235, 240, 241, 242, 243, 244, 245, 246])
  (.seq (.region s_gnomonlaw03_TokenLaid_r52 [] [6, 247, 248, 249, 250, 251, 252])
  (.seq (.seq (.regionE s_gnomonlaw03_TokenLaid_r53 [22, 23, 253, 254, 255, 256, 257, 258, 259, 260, 261, 262, 263, 264, 265] [266])
  (.cond (.t 266)
  (.seq (.regionE s_gnomonlaw03_TokenLaid_r54 [7, 21, 266] [4])
  .ret)
  .skip))
  (.seq (.seq (.regionE s_gnomonlaw03_TokenLaid_r55 [266] [24])
  (.block 9
  (.loop [] s_gnomonlaw03_TokenLaid_l4)))
  (.seq (.region s_gnomonlaw03_TokenLaid_r60 [] [7, 21, 24, 270, 282])
  .ret)))))))))))))) }
def a_gnomonlaw03_TokenLaid := And.intro @s_gnomonlaw03_TokenLaid_r0_tale (And.intro @s_gnomonlaw03_TokenLaid_r0_kT (And.intro @s_gnomonlaw03_TokenLaid_r0_kA0 (And.intro @s_gnomonlaw03_TokenLaid_r0_kA1 (And.intro @s_gnomonlaw03_TokenLaid_r1_tale (And.intro @s_gnomonlaw03_TokenLaid_r2_tale (And.intro @s_gnomonlaw03_TokenLaid_r3_x (And.intro @s_gnomonlaw03_TokenLaid_r3t1_tale (And.intro @s_gnomonlaw03_TokenLaid_r3t1_x (And.intro @s_gnomonlaw03_TokenLaid_r4_tale (And.intro @s_gnomonlaw03_TokenLaid_r5_tale (And.intro @s_gnomonlaw03_TokenLaid_r6_tale (And.intro @s_gnomonlaw03_TokenLaid_r7_tale (And.intro @s_gnomonlaw03_TokenLaid_r8_tale (And.intro @s_gnomonlaw03_TokenLaid_r9_tale (And.intro @s_gnomonlaw03_TokenLaid_r10_tale (And.intro @s_gnomonlaw03_TokenLaid_r11_tale (And.intro @s_gnomonlaw03_TokenLaid_r12_tale (And.intro @s_gnomonlaw03_TokenLaid_r13_tale (And.intro @s_gnomonlaw03_TokenLaid_r14_tale (And.intro @s_gnomonlaw03_TokenLaid_r15_tale (And.intro @s_gnomonlaw03_TokenLaid_r16_tale (And.intro @s_gnomonlaw03_TokenLaid_r17_tale (And.intro @s_gnomonlaw03_TokenLaid_r18_tale (And.intro @s_gnomonlaw03_TokenLaid_r19_tale (And.intro @s_gnomonlaw03_TokenLaid_r20_tale (And.intro @s_gnomonlaw03_TokenLaid_r21_tale (And.intro @s_gnomonlaw03_TokenLaid_l0_ev (And.intro @s_gnomonlaw03_TokenLaid_r22_tale (And.intro @s_gnomonlaw03_TokenLaid_r23_tale (And.intro @s_gnomonlaw03_TokenLaid_r24_tale (And.intro @s_gnomonlaw03_TokenLaid_r25_tale (And.intro @s_gnomonlaw03_TokenLaid_r26_tale (And.intro @s_gnomonlaw03_TokenLaid_r27_tale (And.intro @s_gnomonlaw03_TokenLaid_r28_tale (And.intro @s_gnomonlaw03_TokenLaid_r29_tale (And.intro @s_gnomonlaw03_TokenLaid_l1_ev (And.intro @s_gnomonlaw03_TokenLaid_r30_tale (And.intro @s_gnomonlaw03_TokenLaid_r31_tale (And.intro @s_gnomonlaw03_TokenLaid_r32_tale (And.intro @s_gnomonlaw03_TokenLaid_r33_tale (And.intro @s_gnomonlaw03_TokenLaid_r34_tale (And.intro @s_gnomonlaw03_TokenLaid_r35_tale (And.intro @s_gnomonlaw03_TokenLaid_r36_tale (And.intro @s_gnomonlaw03_TokenLaid_r37_tale (And.intro @s_gnomonlaw03_TokenLaid_r38_tale (And.intro @s_gnomonlaw03_TokenLaid_r39_tale (And.intro @s_gnomonlaw03_TokenLaid_r40_tale (And.intro @s_gnomonlaw03_TokenLaid_r41_tale (And.intro @s_gnomonlaw03_TokenLaid_r42_tale (And.intro @s_gnomonlaw03_TokenLaid_l2_ev (And.intro @s_gnomonlaw03_TokenLaid_r43_tale (And.intro @s_gnomonlaw03_TokenLaid_r44p0_tale (And.intro @s_gnomonlaw03_TokenLaid_r44_x (And.intro @s_gnomonlaw03_TokenLaid_r44t1_x (And.intro @s_gnomonlaw03_TokenLaid_r44t2_x (And.intro @s_gnomonlaw03_TokenLaid_r44t3_tale (And.intro @s_gnomonlaw03_TokenLaid_r44t3_x (And.intro @s_gnomonlaw03_TokenLaid_r45_tale (And.intro @s_gnomonlaw03_TokenLaid_r46_tale (And.intro @s_gnomonlaw03_TokenLaid_r47_tale (And.intro @s_gnomonlaw03_TokenLaid_l3_ev (And.intro @s_gnomonlaw03_TokenLaid_r48_tale (And.intro @s_gnomonlaw03_TokenLaid_r49_tale (And.intro @s_gnomonlaw03_TokenLaid_r50_tale (And.intro @s_gnomonlaw03_TokenLaid_r51p0_tale (And.intro @s_gnomonlaw03_TokenLaid_r51_x (And.intro @s_gnomonlaw03_TokenLaid_r51t1_x (And.intro @s_gnomonlaw03_TokenLaid_r51t2_x (And.intro @s_gnomonlaw03_TokenLaid_r51t3_tale (And.intro @s_gnomonlaw03_TokenLaid_r51t3_x (And.intro @s_gnomonlaw03_TokenLaid_r52p0_tale (And.intro @s_gnomonlaw03_TokenLaid_r52_x (And.intro @s_gnomonlaw03_TokenLaid_r52t1_x (And.intro @s_gnomonlaw03_TokenLaid_r52p2_tale (And.intro @s_gnomonlaw03_TokenLaid_r52t2_x (And.intro @s_gnomonlaw03_TokenLaid_r52t3_x (And.intro @s_gnomonlaw03_TokenLaid_r52p4_tale (And.intro @s_gnomonlaw03_TokenLaid_r52t4_x (And.intro @s_gnomonlaw03_TokenLaid_r52t5_x (And.intro @s_gnomonlaw03_TokenLaid_r52t6_tale (And.intro @s_gnomonlaw03_TokenLaid_r52t6_x (And.intro @s_gnomonlaw03_TokenLaid_r53_tale (And.intro @s_gnomonlaw03_TokenLaid_r54_tale (And.intro @s_gnomonlaw03_TokenLaid_r55_tale (And.intro @s_gnomonlaw03_TokenLaid_r56_tale (And.intro @s_gnomonlaw03_TokenLaid_r57_tale (And.intro @s_gnomonlaw03_TokenLaid_r58_tale (And.intro @s_gnomonlaw03_TokenLaid_r59_tale (And.intro @s_gnomonlaw03_TokenLaid_l4_ev (And.intro @s_gnomonlaw03_TokenLaid_r60_x (And.intro @s_gnomonlaw03_TokenLaid_r60t1_tale (@s_gnomonlaw03_TokenLaid_r60t1_x))))))))))))))))))))))))))))))))))))))))))))))))))))))))))))))))))))))))))))))))))))))))))))
theorem TA5_5 : compK Tryd.prog PX0 5 = some (false, s_gnomonlaw03_TokenLaid.ntmps, s_gnomonlaw03_TokenLaid.results, s_gnomonlaw03_TokenLaid.body.bare) := by kernel_rfl
end Go.Proofs.YtfnkpedipicjnaaDoor
set_option maxRecDepth 100000
namespace Go.Proofs.YtfnkpedipicjnaaDoor
open Go.AM
end Go.Proofs.YtfnkpedipicjnaaDoor
set_option maxRecDepth 100000
namespace Go.Proofs.YtfnkpedipicjnaaDoor
open Go.AM
abbrev k_gnomonref03_Letter : Nat := 22
def s_gnomonref03_Letter_r0_k : List Nat := [1, 2, 3, 4, 5, 6, 7, 8, 9, 10, 11, 12, 13, 14, 15, 16, 17, 18, 19, 20]
def s_gnomonref03_Letter_r0 : List AOper := [
  ⟨some 2, (.move (.c (.s (.bool false)))), none⟩]
def s_gnomonref03_Letter_r1 : List AOper := [
  ⟨some 3, (.move (.t 0)), none⟩,
  ⟨some 4, (.bin .geq (.t 3) (.c (.s (.int .u8 97)))), none⟩,
  ⟨some 5, (.move (.t 4)), none⟩,
  ⟨some 6, (.move (.t 0)), some (5, true)⟩,
  ⟨some 7, (.bin .leq (.t 6) (.c (.s (.int .u8 122)))), some (5, true)⟩,
  ⟨some 8, (.pick (.t 5) (.t 7) (.c (.s (.bool false)))), none⟩,
  ⟨some 9, (.move (.t 8)), none⟩,
  ⟨some 10, (.move (.t 0)), some (9, false)⟩,
  ⟨some 11, (.bin .geq (.t 10) (.c (.s (.int .u8 65)))), some (9, false)⟩,
  ⟨some 12, (.move (.t 11)), some (9, false)⟩,
  ⟨some 13, (.move (.t 0)), some (12, true)⟩,
  ⟨some 14, (.bin .leq (.t 13) (.c (.s (.int .u8 90)))), some (12, true)⟩,
  ⟨some 15, (.pick (.t 12) (.t 14) (.c (.s (.bool false)))), some (9, false)⟩,
  ⟨some 16, (.pick (.t 9) (.c (.s (.bool true))) (.t 15)), none⟩,
  ⟨some 17, (.move (.t 16)), none⟩,
  ⟨some 18, (.move (.t 0)), some (17, false)⟩,
  ⟨some 19, (.bin .eql (.t 18) (.c (.s (.int .u8 95)))), some (17, false)⟩,
  ⟨some 20, (.pick (.t 17) (.c (.s (.bool true))) (.t 19)), none⟩,
  ⟨some 2, (.move (.t 20)), none⟩]
def s_gnomonref03_Letter : ACFun := { ntmps := 21, results := [(.tmp 2)], body :=
  (.seq (.regionE s_gnomonref03_Letter_r0 s_gnomonref03_Letter_r0_k [])
  (.seq (.regionE s_gnomonref03_Letter_r1 [0, 3, 4, 5, 6, 7, 8, 9, 10, 11, 12, 13, 14, 15, 16, 17, 18, 19, 20] [2])
  .ret)) }
abbrev k_gnomonref03_Digit : Nat := 23
def s_gnomonref03_Digit_r0_k : List Nat := [1, 2, 3, 4, 5, 6, 7, 8]
def s_gnomonref03_Digit_r0 : List AOper := [
  ⟨some 2, (.move (.c (.s (.bool false)))), none⟩]
def s_gnomonref03_Digit_r1 : List AOper := [
  ⟨some 3, (.move (.t 0)), none⟩,
  ⟨some 4, (.bin .geq (.t 3) (.c (.s (.int .u8 48)))), none⟩,
  ⟨some 5, (.move (.t 4)), none⟩,
  ⟨some 6, (.move (.t 0)), some (5, true)⟩,
  ⟨some 7, (.bin .leq (.t 6) (.c (.s (.int .u8 57)))), some (5, true)⟩,
  ⟨some 8, (.pick (.t 5) (.t 7) (.c (.s (.bool false)))), none⟩,
  ⟨some 2, (.move (.t 8)), none⟩]
def s_gnomonref03_Digit : ACFun := { ntmps := 9, results := [(.tmp 2)], body :=
  (.seq (.regionE s_gnomonref03_Digit_r0 s_gnomonref03_Digit_r0_k [])
  (.seq (.regionE s_gnomonref03_Digit_r1 [0, 3, 4, 5, 6, 7, 8] [2])
  .ret)) }
abbrev k_gnomonref03_Spot : Nat := 24
def s_gnomonref03_Spot_r0_k : List Nat := [2, 3, 5, 6, 7, 8, 9, 10, 11, 12, 13, 14, 15, 16, 17, 18, 19, 20, 21, 22, 23]
def s_gnomonref03_Spot_r0 : List AOper := [⟨some 4, (.alloc [(.s (.int .i64 0)), (.s (.int .i64 0))]), none⟩]
def s_gnomonref03_Spot_r1 : List AOper := [
  ⟨some 5, (.move (.c (.s (.int .i64 1)))), none⟩,
  ⟨some 6, (.move (.c (.s (.int .i64 1)))), none⟩]
def s_gnomonref03_Spot_r2 : List AOper := [
  ⟨some 7, (.move (.c (.s (.int .i64 0)))), none⟩]
def s_gnomonref03_Spot_r3 : List AOper := [
  ⟨some 8, (.move (.t 7)), none⟩,
  ⟨some 9, (.move (.t 1)), none⟩,
  ⟨some 10, (.bin .lss (.t 8) (.t 9)), none⟩]
def s_gnomonref03_Spot_r4 : List AOper := [
  ⟨some 13, (.move (.t 6)), none⟩,
  ⟨some 14, (.bin .add (.t 13) (.c (.s (.int .i64 1)))), none⟩,
  ⟨some 6, (.move (.t 14)), none⟩]
def s_gnomonref03_Spot_r5 : List AOper := [
  ⟨some 15, (.move (.t 0)), none⟩,
  ⟨some 16, (.move (.t 7)), none⟩,
  ⟨some 17, (.indexStr (.t 15) (.t 16)), none⟩,
  ⟨some 18, (.bin .eql (.t 17) (.c (.s (.int .u8 10)))), none⟩]
def s_gnomonref03_Spot_r6 : List AOper := [
  ⟨some 19, (.move (.t 5)), none⟩,
  ⟨some 20, (.bin .add (.t 19) (.c (.s (.int .i64 1)))), none⟩,
  ⟨some 5, (.move (.t 20)), none⟩]
def s_gnomonref03_Spot_r7 : List AOper := [
  ⟨some 6, (.move (.c (.s (.int .i64 1)))), none⟩]
def s_gnomonref03_Spot_r8 : List AOper := [
  ⟨some 11, (.move (.t 7)), none⟩,
  ⟨some 12, (.bin .add (.t 11) (.c (.s (.int .i64 1)))), none⟩,
  ⟨some 7, (.move (.t 12)), none⟩]
def s_gnomonref03_Spot_l0_b : ACode :=
  (.seq (.seq (.regionE s_gnomonref03_Spot_r3 [8, 9] [10])
  (.cond (.t 10)
  .skip
  (.exit 0)))
  (.seq (.block 1
  (.seq (.regionE s_gnomonref03_Spot_r4 [10, 13, 14] [6])
  (.seq (.regionE s_gnomonref03_Spot_r5 [15, 16, 17] [18])
  (.cond (.t 18)
  (.seq (.regionE s_gnomonref03_Spot_r6 [6, 18, 19, 20] [5])
  (.regionE s_gnomonref03_Spot_r7 [] [6]))
  .skip))))
  (.regionE s_gnomonref03_Spot_r8 [11, 12, 18] [7])))
def s_gnomonref03_Spot_l0 : ACode := s_gnomonref03_Spot_l0_b
def s_gnomonref03_Spot_r9t1 : List AOper := [⟨none, (.store 2 (.t 4) (.t 23)), none⟩]
def s_gnomonref03_Spot_r9p0 : List AOper := [⟨some 21, (.move (.t 5)), none⟩, ⟨some 22, (.move (.t 6)), none⟩, ⟨some 23, (.build [(.s (.int .i64 0)), (.s (.int .i64 0))] [(0, 1), (1, 1)] [(0, (.t 21)), (1, (.t 22))]), none⟩]
def s_gnomonref03_Spot_r9 : List AOper := s_gnomonref03_Spot_r9p0 ++ s_gnomonref03_Spot_r9t1
def s_gnomonref03_Spot : ACFun := { ntmps := 24, results := [(.cell 4 true 2)], body :=
  (.seq (.region s_gnomonref03_Spot_r0 [] s_gnomonref03_Spot_r0_k)
  (.seq (.regionE s_gnomonref03_Spot_r1 [] [5, 6])
  (.seq (.seq (.regionE s_gnomonref03_Spot_r2 [] [7])
  (.block 0
  (.loop [] s_gnomonref03_Spot_l0)))
  (.seq (.region s_gnomonref03_Spot_r9 [] [0, 1, 5, 6, 7, 10, 21, 22, 23])
  .ret)))) }
abbrev k_gnomonref03_Sign : Nat := 25
def s_gnomonref03_Sign_r0_k : List Nat := [1, 2, 3, 4, 5, 6, 7, 8, 9, 10, 11, 12, 13, 14, 15]
def s_gnomonref03_Sign_r0 : List AOper := [
  ⟨some 2, (.move (.c (.s (.bool false)))), none⟩]
def s_gnomonref03_Sign_r1 : List AOper := [
  ⟨some 3, (.move (.c (.s (.string ⟨#[61, 44, 58, 40, 41, 123, 125, 91, 93]⟩)))), none⟩]
def s_gnomonref03_Sign_r2 : List AOper := [
  ⟨some 4, (.move (.c (.s (.int .i64 0)))), none⟩]
def s_gnomonref03_Sign_r3 : List AOper := [
  ⟨some 5, (.move (.t 4)), none⟩,
  ⟨some 6, (.move (.t 3)), none⟩,
  ⟨some 7, (.lenS .p (.t 6)), none⟩,
  ⟨some 8, (.bin .lss (.t 5) (.t 7)), none⟩]
def s_gnomonref03_Sign_r4 : List AOper := [
  ⟨some 11, (.move (.t 3)), none⟩,
  ⟨some 12, (.move (.t 4)), none⟩,
  ⟨some 13, (.indexStr (.t 11) (.t 12)), none⟩,
  ⟨some 14, (.move (.t 0)), none⟩,
  ⟨some 15, (.bin .eql (.t 13) (.t 14)), none⟩]
def s_gnomonref03_Sign_r5 : List AOper := [
  ⟨some 2, (.move (.c (.s (.bool true)))), none⟩]
def s_gnomonref03_Sign_r6 : List AOper := [
  ⟨some 9, (.move (.t 4)), none⟩,
  ⟨some 10, (.bin .add (.t 9) (.c (.s (.int .i64 1)))), none⟩,
  ⟨some 4, (.move (.t 10)), none⟩]
def s_gnomonref03_Sign_l0_b : ACode :=
  (.seq (.seq (.regionE s_gnomonref03_Sign_r3 [5, 6, 7] [8])
  (.cond (.t 8)
  .skip
  (.exit 0)))
  (.seq (.block 1
  (.seq (.regionE s_gnomonref03_Sign_r4 [8, 11, 12, 13, 14] [15])
  (.cond (.t 15)
  (.seq (.regionE s_gnomonref03_Sign_r5 [0, 3, 4, 15] [2])
  .ret)
  .skip)))
  (.regionE s_gnomonref03_Sign_r6 [9, 10, 15] [4])))
def s_gnomonref03_Sign_l0 : ACode := s_gnomonref03_Sign_l0_b
def s_gnomonref03_Sign_r7 : List AOper := [
  ⟨some 2, (.move (.c (.s (.bool false)))), none⟩]
def s_gnomonref03_Sign : ACFun := { ntmps := 16, results := [(.tmp 2)], body :=
  (.seq (.regionE s_gnomonref03_Sign_r0 s_gnomonref03_Sign_r0_k [])
  (.seq (.regionE s_gnomonref03_Sign_r1 [] [3])
  (.seq (.seq (.regionE s_gnomonref03_Sign_r2 [] [4])
  (.block 0
  (.loop [] s_gnomonref03_Sign_l0)))
  (.seq (.regionE s_gnomonref03_Sign_r7 [0, 3, 4, 8] [2])
  .ret)))) }
end Go.Proofs.YtfnkpedipicjnaaDoor
set_option maxRecDepth 100000
namespace Go.Proofs.YtfnkpedipicjnaaDoor
open Go.AM
section
variable {CT : Nat → Option CFun}
end
end Go.Proofs.YtfnkpedipicjnaaDoor
set_option maxRecDepth 100000
namespace Go.Proofs.YtfnkpedipicjnaaDoor
open Go.AM
section
variable {CT : Nat → Option CFun}
end
end Go.Proofs.YtfnkpedipicjnaaDoor
set_option maxRecDepth 100000
namespace Go.Proofs.YtfnkpedipicjnaaDoor
open Go.AM
structure TR (CT : Nat → Option CFun) : Prop where
  letter : CT k_gnomonref03_Letter = some (.code s_gnomonref03_Letter)
  digit : CT k_gnomonref03_Digit = some (.code s_gnomonref03_Digit)
  sign : CT k_gnomonref03_Sign = some (.code s_gnomonref03_Sign)
  spot : CT k_gnomonref03_Spot = some (.code s_gnomonref03_Spot)
structure RefSt (m : Nat) (H : Heap) (d : Nat) (v : V) (R : List (List V)) : Prop where
  res : ∃ x y, getC H d 0 = some [x, y]
  out : AccW m 5 H v R
  len : m ≤ H.length
  lt : d < m
def refE (b : ByteArray) (d : Nat) (v : V) (p : Nat) : Env := [(0, .s (.string b)), (3, .ref d 0 0), (5, v), (6, I p)]
theorem AccW.tr {m w : Nat} {H : Heap} {v : V} {R : List (List V)} (h : AccW m w H v R) {fr : List V} (hv : v ∈ fr) : AccW m w (Go.AM.trim m fr H) v R := by
  rcases AccW.trim_or h (Nat.le_refl _) hv with ⟨rfl, rfl⟩ | e
  · exact AccW.start _ _ _
  · rw [e]; exact h
theorem RefSt.tr {m : Nat} {H : Heap} {d : Nat} {v : V} {R : List (List V)} (h : RefSt m H d v R) {fr : List V} (hv : v ∈ fr) : RefSt m (Go.AM.trim m fr H) d v R := by
  obtain ⟨x, y, hd⟩ := h.res
  exact ⟨⟨x, y, trim_get hd h.lt⟩, AccW.tr h.out hv, trim_le h.len, h.lt⟩
theorem RefSt.app {m base : Nat} {H : Heap} {d : Nat} {v : V} {R : List (List V)} (h : RefSt m H d v R) (hbm : base ≤ m) (ob : Ob) {row : List V} (hrl : row.length = 5) (hr1 : row.all V.one = true) (hR : R.length ≤ 2 ^ 40) :
    ∃ v' C, appendV (H ++ [ob] ++ [Ob.cells 0 row]) base 5 48 v (.sl (H.length + 1) 0 0 1 5) = some (v', C) ∧ RefSt m C d v' (R ++ [row]) ∧ KeepD m [] H C := by
  have hmL := h.len
  obtain ⟨A, hA⟩ : ∃ A, H ++ [ob] = A := ⟨_, rfl⟩
  have lA : A.length = H.length + 1 := by rw [← hA]; simp
  have kA : ∀ id, id < H.length → A[id]? = H[id]? := fun id h1 => by rw [← hA, List.getElem?_append_left h1]
  rw [hA, ← lA]
  obtain ⟨B, hB⟩ : ∃ B, A ++ [Ob.cells 0 row] = B := ⟨_, rfl⟩
  have kB : ∀ id, id < H.length → B[id]? = H[id]? := fun id h1 => by rw [← hB, List.getElem?_append_left (by omega), kA id h1]
  have lB : B.length = H.length + 2 := by rw [← hB]; simp [lA]
  have hx : elems B 5 (.sl A.length 0 0 1 5) = some ([row].length, [row].flatten) := by
    rw [← hB]; exact (RdW.sl (R := [row]) (by simpa using getC_new A 0 row) (by intro r hr; simp at hr; subst hr; exact hrl)).el
  have hvB : AccW m 5 B v R := h.out.keep fun id g n e => kB id (h.out.lt id g n e)
  obtain ⟨v', C, eC, aC, lC, kC⟩ := hvB.append (base := base) (bytes := 48) (S := [row]) hbm (by omega) (by intro r hr; simp at hr; subst hr; exact hrl) (by simp) hx (by simpa using hr1) (by simp; omega)
  rw [hB]
  have kk : ∀ x, x < m → C[x]? = H[x]? := fun x hx => by
    rw [kC x (by omega) (fun g n e => ?_), kB x (by omega)]
    obtain ⟨_, ⟨_, rfl⟩ | ⟨id', g', rfl, _, hid'⟩⟩ := h.out
    · cases e
    · cases e; omega
  refine ⟨v', C, eC, ⟨?_, aC, by omega, h.lt⟩, by omega, fun x hx _ => kk x hx⟩
  obtain ⟨x, y, hd⟩ := h.res
  exact ⟨x, y, by unfold getC at hd ⊢; rw [kk d h.lt]; exact hd⟩
section
variable {CT : Nat → Option CFun}
end
end Go.Proofs.YtfnkpedipicjnaaDoor
set_option maxRecDepth 100000
namespace Go.Proofs.YtfnkpedipicjnaaDoor
open Go.AM
def RefRes (m d : Nat) (b : ByteArray) (R : List (List V)) (H : Heap) (out : Tok.Out) (X : Option St) : Prop :=
  (∃ ts ln cl v H', out = .done (ts ++ [⟨4, [], 0, ln, cl⟩]) ∧ X = some (.ext 0, frOf 197 (refE b d v b.size ++ [(18, bl false)]), H') ∧ RefSt m H' d v (R ++ ts.map tV) ∧ KeepD m [] H H' ∧ Tok.spotL (b.data.toList.take b.size) (1, 1) = (ln, cl) ∧ R.length + ts.length ≤ b.size) ∨
  (∃ e a q H', out = .bad e a q ∧ X = some (.ret, frOf 197 [(2, nilS), (3, .ref d 0 0), (4, .s (.int .i64 e))], H') ∧ getC H' d 0 = some [I a, I q] ∧ KeepD m [d] H H')
theorem RefRes.keep {m d : Nat} {b : ByteArray} {R : List (List V)} {H H2 : Heap} {out : Tok.Out} {X : Option St} (r : RefRes m d b R H2 out X) (k : KeepD m [] H H2) : RefRes m d b R H out X := by
  rcases r with ⟨ts, ln, cl, v, H', h1, h2, h3, h4, h5⟩ | ⟨e, a, q, H', h1, h2, h3, h4⟩
  · exact .inl ⟨ts, ln, cl, v, H', h1, h2, h3, k.trans h4 (Nat.le_refl _), h5⟩
  · exact .inr ⟨e, a, q, H', h1, h2, h3, (KeepD.mono k (Nat.le_refl _) (fun id _ hx => by simp at hx)).trans h4 (Nat.le_refl _)⟩
theorem RefRes.cons {m d : Nat} {b : ByteArray} {R : List (List V)} {H H2 : Heap} {out : Tok.Out} {X : Option St} {t : Tok.T} (r : RefRes m d b (R ++ [tV t]) H2 out X) (k : KeepD m [] H H2) : RefRes m d b R H (.cons t out) X := by
  rcases r.keep k with ⟨ts, ln, cl, v, H', rfl, h2, h3, h4, h5, h7⟩ | ⟨e, a, q, H', rfl, h2, h3, h4⟩
  · refine .inl ⟨t :: ts, ln, cl, v, H', rfl, h2, ?_, h4, h5, ?_⟩
    · rw [List.map_cons, ← List.singleton_append, ← List.append_assoc]; exact h3
    · rw [List.length_append, List.length_singleton] at h7
      rw [List.length_cons]; omega
  · exact .inr ⟨e, a, q, H', rfl, h2, h3, h4⟩
section
variable {CT : Nat → Option CFun}
end
end Go.Proofs.YtfnkpedipicjnaaDoor
set_option maxRecDepth 100000
namespace Go.Proofs.YtfnkpedipicjnaaDoor
open Go.AM
theorem tok_eq (t u : Tok.T) : eqLeaves [Leaf.int IntKind.u8, Leaf.str, Leaf.int IntKind.i64, Leaf.int IntKind.i64, Leaf.int IntKind.i64] (tV t) (tV u) = some (decide (t = u)) := by
  unfold tV I
  simp only [eqLeaves, eqLeaf, and_self, if_true, Bool.and_true]
  congr 1
  rw [Bool.eq_iff_iff, decide_eq_true_iff]
  cases t
  cases u
  simp only [Bool.and_eq_true, beq_iff_eq, Int.natCast_inj, Tok.T.mk.injEq]
theorem spot_eq (a b c d : Int) : eqLeaves [Leaf.int IntKind.i64, Leaf.int IntKind.i64] [.s (.int .i64 a), .s (.int .i64 b)] [.s (.int .i64 c), .s (.int .i64 d)] = some (a == c && b == d) := by
  simp only [eqLeaves, eqLeaf, and_self, if_true, Bool.and_true]
section
variable {CT : Nat → Option CFun}
end
end Go.Proofs.YtfnkpedipicjnaaDoor
set_option maxRecDepth 100000
namespace Go.Proofs.YtfnkpedipicjnaaDoor
open Go.AM
theorem AccW.look {m : Nat} {F : Heap} {v : V} {R : List (List V)} (h : AccW m 5 F v R) : ∃ id g, ∀ (i : Nat) (r : List V), R[i]? = some r → xIndexAddr 5 v (.s (.int .i64 i)) = some (.ref id g (i * 5)) ∧ ∀ H, KeepD F.length [] F H → xLoad H true 5 (.ref id g (i * 5)) = some (.agg r) ∧ ∀ (o : Nat) (x : V), r[o]? = some x → xLoad H false 1 (.ref id g (i * 5 + o)) = some x := by
  obtain ⟨hR, ⟨rfl, rfl⟩ | ⟨id, g, rfl, hc, hid⟩⟩ := h
  · exact ⟨0, 0, fun i r hr => by simp at hr⟩
  · refine ⟨id, g, fun i r hr => ?_⟩
    have key : ∀ H, KeepD F.length [] F H → ∃ a, xIndexAddr 5 (.sl id g 0 R.length 5) (.s (.int .i64 i)) = some a ∧ xLoad H true 5 a = some (.agg r) ∧ ∀ (o : Nat) (x : V), r[o]? = some x → ∃ b, xFieldAddr o a = some b ∧ xLoad H false 1 b = some x := fun H k => (RdW.sl (k.getC hc (getC_lt hc) (by simp)) hR).at' i r hr
    have hi := (List.getElem?_eq_some_iff.1 hr).1
    have ea : xIndexAddr 5 (.sl id g 0 R.length 5) (.s (.int .i64 i)) = some (.ref id g (i * 5)) := by
      rw [xi_sl, if_pos ⟨by omega, by omega, rfl⟩, Int.toNat_natCast, Nat.zero_add]
    refine ⟨ea, fun H k => ?_⟩
    obtain ⟨a, a1, a2, a3⟩ := key H k
    rw [ea] at a1
    cases a1
    refine ⟨a2, fun o x hx => ?_⟩
    obtain ⟨b, b1, b2⟩ := a3 o x hx
    cases b1
    exact b2
theorem lexR_small {l : List UInt8} (h : l.length ≤ 1048576) : lexR l = match Tok.lex l 1 1 with
    | .done ts => (ts, (0, 0), 0)
    | .bad e a q => ([], (a, q), e) := if_neg (by omega)
section
variable {CT : Nat → Option CFun}
end
end Go.Proofs.YtfnkpedipicjnaaDoor
namespace Go.AM.Tok
def Gap (g : List UInt8) : Prop := ∀ (l : List UInt8) (p : Nat × Nat), lex (g ++ l) p.1 p.2 = lex l (spotL g p).1 (spotL g p).2
theorem gap_nil : Gap [] := fun _ _ => rfl
theorem gap_app {a b : List UInt8} (ha : Gap a) (hb : Gap b) : Gap (a ++ b) := fun l p => by
  rw [List.append_assoc, ha, hb, spotL_app]
theorem gap_blank {c : UInt8} (h : blank c = true) : Gap [c] := fun l p => by
  rw [List.singleton_append, lex_cons, if_pos h]
  simp only [spotL]
  split <;> rfl
theorem gap_rem {a : List UInt8} (h : ∀ x ∈ a, x ≠ 10) : Gap (59 :: a ++ [10]) := fun l p => by
  have e : far other (a ++ 10 :: l) = a.length := by
    rw [far_all other a (10 :: l) (fun c hc => by have := h c hc; simp [other, this])]
    rfl
  have hb : blank 59 = false := by decide
  rw [List.append_assoc, List.cons_append, lex_cons, hb, if_neg (by simp), if_pos rfl]
  rw [show a ++ ([10] ++ l) = a ++ 10 :: l by simp, e, List.drop_left' rfl]
  have hsp : spotL (59 :: a ++ [10]) p = (p.1 + 1, 1) := by
    rw [spotL_app, spotL_flat (59 :: a) p (by intro x hx; rcases List.mem_cons.1 hx with rfl | hx; decide; exact h x hx)]
    rfl
  rw [hsp, lex_cons, if_pos (by decide), if_pos rfl]
def gaps : List (List UInt8) := [[32], [9], [10], [13, 10], [32, 59, 32, 97, 32, 40, 49, 32, 45, 10], [10, 10, 32], [59, 10]]
theorem gaps_ok : ∀ g ∈ gaps, Gap g := by
  have b32 := gap_blank (c := 32) (by decide)
  have b9 := gap_blank (c := 9) (by decide)
  have b10 := gap_blank (c := 10) (by decide)
  have b13 := gap_blank (c := 13) (by decide)
  intro g hg
  simp only [gaps, List.mem_cons, List.not_mem_nil, or_false] at hg
  rcases hg with rfl | rfl | rfl | rfl | rfl | rfl | rfl
  · exact b32
  · exact b9
  · exact b10
  · exact gap_app b13 b10
  · exact gap_app b32 (gap_rem (a := [32, 97, 32, 40, 49, 32, 45]) (by decide))
  · exact gap_app b10 (gap_app b10 b32)
  · exact gap_rem (a := []) (by simp)
def Stop (l : List UInt8) : Prop := ∀ c m, l = c :: m → within c = false
theorem far_whole {p : UInt8 → Bool} {w l : List UInt8} (hw : ∀ x ∈ w, p x = true) (hl : ∀ c m, l = c :: m → p c = false) : far p (w ++ l) = w.length := by
  rw [far_all p w l hw]
  cases l with
  | nil => rfl
  | cons c m => simp [far, hl c m rfl]
theorem digit_within {c : UInt8} (h : digit c = true) : within c = true := by
  unfold within
  rw [h]
  cases letter c <;> rfl
def WordOk (k : Nat) (w : List UInt8) (n : Nat) : Prop :=
  (k = 0 ∧ n = 0 ∧ ∃ r, w = 119 :: r ∧ ∀ x ∈ r, within x = true) ∨
  (k = 1 ∧ n = val w ∧ w ≠ [] ∧ (∀ x ∈ w, digit x = true) ∧ w.length ≤ 9 ∧ (1 < w.length → w.head? ≠ some 48)) ∨
  (k = 2 ∧ n = 0 ∧ ∃ c, w = [c] ∧ sign c = true)
theorem lex_word {k : Nat} {w : List UInt8} {n : Nat} (h : WordOk k w n) {l : List UInt8} (hl : k ≠ 2 → Stop l) (ln cl : Nat) :
    lex (w ++ l) ln cl = (lex l ln (cl + w.length)).cons ⟨k + 1, w, n, ln, cl⟩ := by
  rcases h with ⟨rfl, rfl, r, rfl, hr⟩ | ⟨rfl, rfl, h0, hd, h9, hz⟩ | ⟨rfl, rfl, c, rfl, hs⟩
  · have e := far_whole hr (hl (by decide))
    have hb : blank 119 = false := by decide
    rw [List.cons_append, lex_cons, hb, if_neg (by simp), if_neg (by decide), if_pos (by decide), e, List.drop_left' rfl, List.take_left' rfl]
    rfl
  · cases w with
    | nil => exact absurd rfl h0
    | cons c r =>
      have hc := hd c List.mem_cons_self
      have hr : ∀ x ∈ r, digit x = true := fun x hx => hd x (List.mem_cons_of_mem _ hx)
      have hst := hl (by decide)
      have e1 := far_whole (p := digit) hr (fun c m e => by
        have := hst c m e
        cases hx : digit c with
        | true => rw [digit_within hx] at this; cases this
        | false => rfl)
      have e2 := far_whole (p := within) (fun x hx => digit_within (hr x hx)) hst
      have hcb : 48 ≤ c.toNat ∧ c.toNat ≤ 57 := by unfold digit at hc; simpa using hc
      have hb : blank c = false := by
        unfold blank
        rw [← Bool.not_eq_true]
        simp only [Bool.or_eq_true, beq_iff_eq]
        rintro (((rfl | rfl) | rfl) | rfl) <;> simp at hcb
      have hlt : letter c = false := by
        unfold letter
        rw [← Bool.not_eq_true]
        simp only [Bool.or_eq_true, Bool.and_eq_true, decide_eq_true_eq, beq_iff_eq]
        rintro ((h | h) | rfl)
        · omega
        · omega
        · simp at hcb
      rw [List.cons_append, lex_cons, hb, if_neg (by simp), if_neg (by rintro rfl; simp at hcb), if_neg (by rw [hlt]; simp), if_pos hc, e1, e2, List.drop_left' rfl, List.take_left' rfl, if_neg]
      · rfl
      · rintro (h | ⟨h, rfl⟩ | h)
        · rw [List.length_cons] at h9; omega
        · exact hz (by rw [List.length_cons]; exact h) rfl
        · omega
  · have hb : blank c = false ∧ c ≠ 59 ∧ letter c = false ∧ digit c = false := by
      unfold sign at hs
      simp only [Bool.or_eq_true, beq_iff_eq] at hs
      rcases hs with (((((((rfl | rfl) | rfl) | rfl) | rfl) | rfl) | rfl) | rfl) | rfl <;> decide
    obtain ⟨h1, h2, h3, h4⟩ := hb
    rw [List.singleton_append, lex_cons, h1, if_neg (by simp), if_neg h2, h3, if_neg (by simp), h4, if_neg (by simp), if_pos hs]
    rfl
structure Lw where
  gap : List UInt8
  kind : Nat
  w : List UInt8
  n : Nat
def layL : List Lw → List UInt8
  | [] => []
  | x :: l => x.gap ++ (x.w ++ layL l)
def wantL : List Lw → Nat × Nat → List T
  | [], _ => []
  | x :: l, p => ⟨x.kind + 1, x.w, x.n, (spotL x.gap p).1, (spotL x.gap p).2⟩ :: wantL l (spotL (x.gap ++ x.w) p)
def LayOk : Bool → List Lw → Prop
  | _, [] => True
  | sg, x :: l => WordOk x.kind x.w x.n ∧ (x.gap = [] ∨ x.gap ∈ gaps) ∧ (sg = false → x.kind ≠ 2 → x.gap ≠ []) ∧ LayOk (x.kind == 2) l
theorem word_flat {k : Nat} {w : List UInt8} {n : Nat} (h : WordOk k w n) : ∀ x ∈ w, x ≠ 10 := by
  rcases h with ⟨_, _, r, rfl, hr⟩ | ⟨_, _, _, hd, _⟩ | ⟨_, _, c, rfl, hs⟩
  · intro x hx
    rcases List.mem_cons.1 hx with rfl | hx
    · decide
    · rintro rfl
      have := hr _ hx
      revert this; decide
  · intro x hx
    rintro rfl
    have := hd _ hx
    revert this; decide
  · intro x hx
    simp at hx
    subst hx
    exact not_ten (.inr (.inr hs))
def tails : List (List UInt8) := [[], [59, 32, 120]]
theorem stop_of {l : List Lw} {e : List UInt8} (he : e ∈ tails) (h : LayOk false l) : Stop (layL l ++ e) := by
  intro c m hc
  cases l with
  | nil =>
    simp only [tails, List.mem_cons, List.not_mem_nil, or_false] at he
    rcases he with rfl | rfl
    · simp [layL] at hc
    · simp only [layL, List.nil_append, List.cons.injEq] at hc
      rw [← hc.1]; decide
  | cons x l =>
    obtain ⟨hw, hg, hn, _⟩ := h
    simp only [layL] at hc
    cases hx : x.gap with
    | cons y g =>
      rw [hx] at hc hg
      simp only [List.cons_append, List.cons.injEq] at hc
      rw [← hc.1]
      rcases hg with hg | hg
      · cases hg
      · simp only [gaps, List.mem_cons, List.not_mem_nil, or_false, List.cons.injEq] at hg
        rcases hg with h | h | h | h | h | h | h <;> (rw [h.1]; decide)
    | nil =>
      have hk : x.kind = 2 := by
        by_cases hk : x.kind = 2
        · exact hk
        · exact absurd hx (hn rfl hk)
      rcases hw with ⟨h, _⟩ | ⟨h, _⟩ | ⟨_, _, s, hw, hs⟩
      · omega
      · omega
      · rw [hx, hw] at hc
        simp only [List.nil_append, List.singleton_append, List.cons_append, List.cons.injEq] at hc
        rw [← hc.1]
        unfold sign at hs
        simp only [Bool.or_eq_true, beq_iff_eq] at hs
        rcases hs with (((((((rfl | rfl) | rfl) | rfl) | rfl) | rfl) | rfl) | rfl) | rfl <;> decide
theorem lex_tail {e : List UInt8} (he : e ∈ tails) (ln cl : Nat) : lex e ln cl = .done [⟨4, [], 0, ln, cl + e.length⟩] := by
  simp only [tails, List.mem_cons, List.not_mem_nil, or_false] at he
  rcases he with rfl | rfl
  · rw [lex_nil]; rfl
  · rw [lex_cons, if_neg (by decide), if_pos rfl]
    have e : far other [32, 120] = 2 := by decide
    rw [e]
    simp only [List.drop_succ_cons, List.drop_nil, List.drop_zero]
    rw [lex_nil]; rfl
theorem lex_lay {e : List UInt8} (he : e ∈ tails) : ∀ (l : List Lw) (sg : Bool) (p : Nat × Nat), LayOk sg l → lex (layL l ++ e) p.1 p.2 = .done (wantL l p ++ [⟨4, [], 0, (spotL (layL l) p).1, (spotL (layL l) p).2 + e.length⟩])
  | [], sg, p, _ => lex_tail he _ _
  | x :: l, sg, p, h => by
    obtain ⟨hw, hg, _, hl⟩ := h
    have hG : Gap x.gap := by
      rcases hg with hg | hg
      · rw [hg]; exact gap_nil
      · exact gaps_ok _ hg
    have hst : x.kind ≠ 2 → Stop (layL l ++ e) := fun hk => stop_of he (by
      have : (x.kind == 2) = false := by simpa using hk
      rw [this] at hl; exact hl)
    simp only [layL, List.append_assoc]
    rw [hG, lex_word hw hst]
    have hfl := spotL_flat x.w (spotL x.gap p) (word_flat hw)
    have ih := lex_lay he l _ (spotL (x.gap ++ x.w) p) hl
    rw [spotL_app, hfl] at ih
    simp only at ih
    rw [ih]
    simp only [wantL, Out.cons, List.cons_append, spotL_app, hfl]
end Go.AM.Tok
namespace Go.AM.Tok
def nameB (c : UInt8) : Bool := decide (97 ≤ c.toNat) && decide (c.toNat ≤ 122) || decide (48 ≤ c.toNat) && decide (c.toNat ≤ 57) || c == 46 || c == 95
def digB (c : UInt8) (w : List UInt8) : Bool := decide (49 ≤ c.toNat) && decide (c.toNat ≤ 57) || c == 48 && !(w == [])
def numF : List UInt8 → Nat → List UInt8 → List UInt8 × Nat
  | w, n, [] => (w, n)
  | w, n, c :: l => if w.length < 9 then (if digB c w then numF (w ++ [c]) (10 * n + (c.toNat - 48)) l else numF w n l) else (w, n)
def signsL : List UInt8 := [61, 44, 58, 40, 41, 123, 125, 91, 93]
def numW (l : List UInt8) : List UInt8 × Nat := let r := numF [] 0 l; if r.1 = [] then ([48], r.2) else r
structure W where
  kind : Nat
  text : List UInt8
  ahead : Nat
def W.k (x : W) : Nat := x.kind % 3
def W.word (x : W) : List UInt8 × Nat :=
  if x.k = 0 then (119 :: (x.text.take 40).filter nameB, 0) else if x.k = 1 then numW x.text else ([signsL.getD (x.text.length % 9) 0], 0)
def W.gap (x : W) (sg : Bool) : List UInt8 := if (!sg && x.k != 2) || x.ahead % 2 == 1 then gaps.getD (x.ahead / 2 % 7) [] else []
def lays : Bool → List W → List Lw
  | _, [] => []
  | sg, x :: l => ⟨x.gap sg, x.k, x.word.1, x.word.2⟩ :: lays (x.k == 2) l
theorem nameB_within {c : UInt8} (h : nameB c = true) : within c = true := by
  unfold nameB at h
  unfold within letter digit
  simp only [Bool.or_eq_true, Bool.and_eq_true, decide_eq_true_eq] at h ⊢
  rcases h with ((h | h) | h) | h
  · exact .inl (.inl (.inl (.inl h)))
  · exact .inl (.inr h)
  · exact .inr h
  · exact .inl (.inl (.inr h))
theorem val_snoc (w : List UInt8) (c : UInt8) : val (w ++ [c]) = val w * 10 + (c.toNat - 48) := by simp [val, List.foldl_append]
def NumOk (w : List UInt8) (n : Nat) : Prop := n = val w ∧ (∀ x ∈ w, digit x = true) ∧ w.length ≤ 9 ∧ w.head? ≠ some 48
theorem numF_ok : ∀ (l w : List UInt8) (n : Nat), NumOk w n → NumOk (numF w n l).1 (numF w n l).2
  | [], w, n, h => h
  | c :: l, w, n, h => by
    unfold numF
    split
    · rename_i h9
      split
      · rename_i hc
        refine numF_ok l _ _ ?_
        obtain ⟨h1, h2, h3, h4⟩ := h
        unfold digB at hc
        simp only [Bool.or_eq_true, Bool.and_eq_true, decide_eq_true_eq, beq_iff_eq, Bool.not_eq_true', beq_eq_false_iff_ne, Ne] at hc
        refine ⟨by rw [val_snoc, h1, Nat.mul_comm], fun x hx => ?_, by simp; omega, ?_⟩
        · rcases List.mem_append.1 hx with hx | hx
          · exact h2 x hx
          · rw [List.mem_singleton] at hx
            subst hx
            unfold digit
            simp only [Bool.and_eq_true, decide_eq_true_eq]
            rcases hc with hc | ⟨rfl, _⟩
            · omega
            · decide
        · cases w with
          | nil =>
            rcases hc with hc | ⟨_, hc⟩
            · simp only [List.nil_append, List.head?_cons, Ne, Option.some.injEq]
              rintro rfl
              simp at hc
            · exact absurd rfl hc
          | cons y w => exact h4
      · exact numF_ok l _ _ h
    · exact h
theorem word_ok (x : W) : WordOk x.k x.word.1 x.word.2 := by
  have h3 : x.k < 3 := Nat.mod_lt _ (by decide)
  unfold W.word
  by_cases h0 : x.k = 0
  · rw [if_pos h0]
    refine .inl ⟨h0, rfl, _, rfl, fun y hy => ?_⟩
    rw [List.mem_filter] at hy
    exact nameB_within hy.2
  · rw [if_neg h0]
    by_cases h1 : x.k = 1
    · rw [if_pos h1]
      have ok := numF_ok x.text [] 0 ⟨rfl, by simp, by simp, by simp⟩
      obtain ⟨o1, o2, o3, o4⟩ := ok
      refine .inr (.inl ⟨h1, ?_⟩)
      unfold numW
      by_cases he : (numF [] 0 x.text).1 = []
      · simp only [he, if_true]
        rw [o1, he]
        exact ⟨by decide, by decide, by decide, by decide, by decide⟩
      · simp only [he, if_false]
        exact ⟨o1, he, o2, o3, fun _ => o4⟩
    · rw [if_neg h1]
      have h2 : x.k = 2 := by omega
      refine .inr (.inr ⟨h2, rfl, _, rfl, ?_⟩)
      have : x.text.length % 9 < 9 := Nat.mod_lt _ (by decide)
      have hall : ∀ i, i < 9 → sign (signsL.getD i 0) = true := by decide
      exact hall _ this
theorem gap_ok (x : W) (sg : Bool) : (x.gap sg = [] ∨ x.gap sg ∈ gaps) ∧ (sg = false → x.k ≠ 2 → x.gap sg ≠ []) := by
  have hi : x.ahead / 2 % 7 < 7 := Nat.mod_lt _ (by decide)
  have hall : ∀ i, i < 7 → gaps.getD i [] ∈ gaps ∧ gaps.getD i [] ≠ [] := by decide
  unfold W.gap
  split
  · exact ⟨.inr (hall _ hi).1, fun _ _ => (hall _ hi).2⟩
  · rename_i hc
    refine ⟨.inl rfl, fun h1 h2 => ?_⟩
    exfalso
    apply hc
    rw [h1]
    simp [h2]
theorem lays_ok : ∀ (l : List W) (sg : Bool), LayOk sg (lays sg l)
  | [], _ => trivial
  | x :: l, sg => ⟨word_ok x, (gap_ok x sg).1, (gap_ok x sg).2, lays_ok l _⟩
theorem gap_len (x : W) (sg : Bool) : (x.gap sg).length ≤ 10 := by
  rcases (gap_ok x sg).1 with h | h
  · rw [h]; simp
  · have : ∀ g ∈ gaps, g.length ≤ 10 := by decide
    exact this _ h
theorem word_len (x : W) : x.word.1.length ≤ 41 := by
  rcases word_ok x with ⟨h0, _⟩ | ⟨_, _, _, _, h9, _⟩ | ⟨_, _, c, hw, _⟩
  · unfold W.word
    rw [if_pos h0]
    have := List.length_filter_le nameB (x.text.take 40)
    rw [List.length_take] at this
    simp only [List.length_cons]
    omega
  · omega
  · rw [hw]; simp
theorem lay_len : ∀ (l : List W) (sg : Bool), (layL (lays sg l)).length ≤ 51 * l.length
  | [], _ => by simp [lays, layL]
  | x :: l, sg => by
    have h1 := gap_len x sg
    have h2 := word_len x
    have h3 := lay_len l (x.k == 2)
    simp only [lays, layL, List.length_append, List.length_cons]
    omega
end Go.AM.Tok
set_option maxRecDepth 100000
namespace Go.Proofs.YtfnkpedipicjnaaDoor
open Go.AM
theorem mk_app (a b : List UInt8) : (ByteArray.mk a.toArray) ++ (ByteArray.mk b.toArray) = ByteArray.mk (a ++ b).toArray := by
  apply ByteArray.ext
  simp [ByteArray.data_append]
theorem mk_size (a : List UInt8) : (ByteArray.mk a.toArray).size = a.length := List.size_toArray ..
theorem max_no {n : Nat} (h : n < 2 ^ 60) : ((n : Int) > IntKind.i64.max) = False := by
  rw [eq_iff_iff, iff_false, show IntKind.i64.max = 9223372036854775807 from rfl]; omega
def wR (x : Tok.W) : List V := [.s (.int .u8 x.kind), .s (.string ⟨x.text.toArray⟩), .s (.int .u8 x.ahead)]
structure Look3 (vl : V) (i : Nat) (x : Tok.W) (a b0 b1 b2 : V) : Prop where
  ix : xIndexAddr 3 vl (.s (.int .i64 i)) = some a
  f0 : xFieldAddr 0 a = some b0
  f1 : xFieldAddr 1 a = some b1
  f2 : xFieldAddr 2 a = some b2
  l0 : ∀ H, xLoad H false 1 b0 = some (.s (.int .u8 x.kind))
  l1 : ∀ H, xLoad H false 1 b1 = some (.s (.string ⟨x.text.toArray⟩))
  l2 : ∀ H, xLoad H false 1 b2 = some (.s (.int .u8 x.ahead))
theorem look3_of {vl : V} {L : List Tok.W} (hv : ∀ H, RdW 3 H vl (L.map wR)) {i : Nat} {x : Tok.W} (hx : L[i]? = some x) : ∃ a b0 b1 b2, Look3 vl i x a b0 b1 b2 := by
  have hr : (L.map wR)[i]? = some (wR x) := by rw [List.getElem?_map, hx]; rfl
  obtain ⟨a, a1, _, a3⟩ := (hv []).at' i _ hr
  obtain ⟨b0, c0, _⟩ := a3 0 _ rfl
  obtain ⟨b1, c1, _⟩ := a3 1 _ rfl
  obtain ⟨b2, c2, _⟩ := a3 2 _ rfl
  refine ⟨a, b0, b1, b2, a1, c0, c1, c2, fun H => ?_, fun H => ?_, fun H => ?_⟩
  · obtain ⟨a', e1, _, e3⟩ := (hv H).at' i _ hr
    rw [a1] at e1; cases e1
    obtain ⟨b', f1, f2⟩ := e3 0 _ rfl
    rw [c0] at f1; cases f1; exact f2
  · obtain ⟨a', e1, _, e3⟩ := (hv H).at' i _ hr
    rw [a1] at e1; cases e1
    obtain ⟨b', f1, f2⟩ := e3 1 _ rfl
    rw [c1] at f1; cases f1; exact f2
  · obtain ⟨a', e1, _, e3⟩ := (hv H).at' i _ hr
    rw [a1] at e1; cases e1
    obtain ⟨b', f1, f2⟩ := e3 2 _ rfl
    rw [c2] at f1; cases f1; exact f2
theorem nameB_m (c : UInt8) : (decide ((c.toNat : Int) ≥ 97) && decide ((c.toNat : Int) ≤ 122) || decide ((c.toNat : Int) ≥ 48) && decide ((c.toNat : Int) ≤ 57) || ((c.toNat : Int) == 46) || ((c.toNat : Int) == 95)) = Tok.nameB c := by
  unfold Tok.nameB
  rw [Bool.eq_iff_iff]
  simp only [Bool.or_eq_true, Bool.and_eq_true, decide_eq_true_eq, beq_iff_eq, byte_ne, show (UInt8.toNat 95) = 95 from rfl, show (UInt8.toNat 46) = 46 from rfl]
  omega
section
variable {CT : Nat → Option CFun}
theorem laid_name_loop (base : Nat) {vl v1 v5 v6 v7 v8 v9 v10 v13 v14 : V} {i : Nat} {x : Tok.W} {a b0 b1 b2 : V} (hl : Look3 vl i x a b0 b1 b2) (hxt : x.text.length < 2 ^ 63) {H : Heap} : ∀ (l : List UInt8) (j : Nat) (w : List UInt8), x.text.drop j = l → j ≤ x.text.length → j ≤ 40 → w.length ≤ j + 1 →
    ∃ j', itW (evC (callW CT) itW base s_gnomonlaw03_TokenLaid_l0) [] H.length (frOf 283 [(0, vl), (1, v1), (5, v5), (6, v6), (7, v7), (8, v8), (9, v9), (10, v10), (11, I i), (12, .s (.string ⟨w.toArray⟩)), (13, v13), (14, v14), (15, I j)]) H = some (.ext 3, frOf 283 [(0, vl), (1, v1), (5, v5), (6, v6), (7, v7), (8, v8), (9, v9), (10, v10), (11, I i), (12, .s (.string ⟨(w ++ (l.take (40 - j)).filter Tok.nameB).toArray⟩)), (13, v13), (14, v14), (15, j'), (71, bl false)], H) := by
  obtain ⟨hi1, hi2, hi3, hi4, hi5, hi6, hi7⟩ := hl
  intro l
  induction l with
  | nil =>
    intro j w hd hj h40 hw
    have hin : j = x.text.length := by
      have := congrArg List.length hd
      rw [List.length_drop] at this
      simp at this
      omega
    refine ⟨I j, ?_⟩
    rw [itW_step]
    have hz : decide ((j : Int) < (x.text.length : Int)) = false := by rw [decide_eq_false_iff_not]; omega
    simp only [a_gnomonlaw03_TokenLaid,s_gnomonlaw03_TokenLaid_l0_b,s_gnomonlaw03_TokenLaid_l1_b,s_gnomonlaw03_TokenLaid_l2_b,s_gnomonlaw03_TokenLaid_l3_b,s_gnomonlaw03_TokenLaid_l4_b, am0,am1,am2,am3,am4,am5,am6,am7,bl,i64,reduceIte,reduceCtorEq,Nat.reduceEqDiff,Nat.reduceLT,Nat.reduceLeDiff,Nat.reduceBEq,Nat.reduceAdd,fillA,splice,Nat.reduceMul,al0,al1,al2,al3,al4,al5,al6,al7,al8,al9,al10,al11,al12,al13,al14,al15,al16,al17,al18,al19,al20,al21,al22,al23,al24,al25,al26,al27,al28,al29,al30,al31,al32,al33,al34,amY,op_eqP, I, bl, hi1, hi3, hi6, mk_size, hz, List.take_nil, List.filter_nil, List.append_nil]
  | cons c l ih =>
    intro j w hd hj h40 hw
    have hx : x.text[j]? = some c := by have := congrArg (·[0]?) hd; simp only [List.getElem?_drop] at this; exact this
    have hlt : j < x.text.length := (List.getElem?_eq_some_iff.1 hx).1
    have hd' : x.text.drop (j + 1) = l := by
      have := congrArg (List.drop 1) hd
      simpa [List.drop_drop] using this
    have hlt' : ((j : Int) < (x.text.length : Int)) := by omega
    have w1 := wrap_pos (n := j) (by omega)
    rw [itW_step]
    by_cases h4 : j = 40
    · have hz : decide ((j : Int) < 40) = false := by rw [decide_eq_false_iff_not]; omega
      refine ⟨I j, ?_⟩
      simp only [a_gnomonlaw03_TokenLaid,s_gnomonlaw03_TokenLaid_l0_b,s_gnomonlaw03_TokenLaid_l1_b,s_gnomonlaw03_TokenLaid_l2_b,s_gnomonlaw03_TokenLaid_l3_b,s_gnomonlaw03_TokenLaid_l4_b, am0,am1,am2,am3,am4,am5,am6,am7,bl,i64,reduceIte,reduceCtorEq,Nat.reduceEqDiff,Nat.reduceLT,Nat.reduceLeDiff,Nat.reduceBEq,Nat.reduceAdd,fillA,splice,Nat.reduceMul,al0,al1,al2,al3,al4,al5,al6,al7,al8,al9,al10,al11,al12,al13,al14,al15,al16,al17,al18,al19,al20,al21,al22,al23,al24,al25,al26,al27,al28,al29,al30,al31,al32,al33,al34,amY,op_eqP, I, bl, hi1, hi3, hi6, mk_size, hlt', hz, show 40 - j = 0 by omega, List.take_zero, List.filter_nil, List.append_nil]
    · have hz : decide ((j : Int) < 40) = true := by rw [decide_eq_true_iff]; omega
      have nm := nameB_m c
      have hle : (0 ≤ (j : Int) ∧ (j : Int) ≤ ((j + 1 : Nat) : Int) ∧ ((j + 1 : Nat) : Int) ≤ (x.text.length : Int)) := by omega
      have hex := extract_eq ⟨x.text.toArray⟩ j 1
      rw [show (ByteArray.mk x.text.toArray).data.toList = x.text by simp, hd, List.take_succ_cons, List.take_zero] at hex
      have hmx := max_no (n := w.length + 1) (by omega)
      have htk : (c :: l).take (40 - j) = c :: l.take (40 - (j + 1)) := by rw [show 40 - j = (40 - (j + 1)) + 1 by omega, List.take_succ_cons]
      rw [htk, List.filter_cons]
      cases hn : Tok.nameB c with
      | true =>
        obtain ⟨j', e⟩ := ih (j + 1) (w ++ [c]) hd' (by omega) (by omega) (by simp; omega)
        refine ⟨j', ?_⟩
        rw [List.append_assoc, List.singleton_append] at e
        simp only [I, bl] at e
        simp only [a_gnomonlaw03_TokenLaid,s_gnomonlaw03_TokenLaid_l0_b,s_gnomonlaw03_TokenLaid_l1_b,s_gnomonlaw03_TokenLaid_l2_b,s_gnomonlaw03_TokenLaid_l3_b,s_gnomonlaw03_TokenLaid_l4_b, am0,am1,am2,am3,am4,am5,am6,am7,bl,i64,reduceIte,reduceCtorEq,Nat.reduceEqDiff,Nat.reduceLT,Nat.reduceLeDiff,Nat.reduceBEq,Nat.reduceAdd,fillA,splice,Nat.reduceMul,al0,al1,al2,al3,al4,al5,al6,al7,al8,al9,al10,al11,al12,al13,al14,al15,al16,al17,al18,al19,al20,al21,al22,al23,al24,al25,al26,al27,al28,al29,al30,al31,al32,al33,al34,amY,op_eqP, I, bl, hi1, hi3, hi6, mk_size, hlt', hz, hx, nm, hn, w1, xsub_str, hle, hex, mk_app, hmx, if_true]
        exact e
      | false =>
        obtain ⟨j', e⟩ := ih (j + 1) w hd' (by omega) (by omega) (by omega)
        refine ⟨j', ?_⟩
        simp only [I, bl] at e
        simp only [a_gnomonlaw03_TokenLaid,s_gnomonlaw03_TokenLaid_l0_b,s_gnomonlaw03_TokenLaid_l1_b,s_gnomonlaw03_TokenLaid_l2_b,s_gnomonlaw03_TokenLaid_l3_b,s_gnomonlaw03_TokenLaid_l4_b, am0,am1,am2,am3,am4,am5,am6,am7,bl,i64,reduceIte,reduceCtorEq,Nat.reduceEqDiff,Nat.reduceLT,Nat.reduceLeDiff,Nat.reduceBEq,Nat.reduceAdd,fillA,splice,Nat.reduceMul,al0,al1,al2,al3,al4,al5,al6,al7,al8,al9,al10,al11,al12,al13,al14,al15,al16,al17,al18,al19,al20,al21,al22,al23,al24,al25,al26,al27,al28,al29,al30,al31,al32,al33,al34,amY,op_eqP, I, bl, hi1, hi3, hi6, mk_size, hlt', hz, hx, nm, hn, w1, Bool.false_eq_true, if_false]
        exact e
end
end Go.Proofs.YtfnkpedipicjnaaDoor
set_option maxRecDepth 100000
namespace Go.Proofs.YtfnkpedipicjnaaDoor
open Go.AM
theorem digB_m (c : UInt8) (w : List UInt8) : (decide ((c.toNat : Int) ≥ 49) && decide ((c.toNat : Int) ≤ 57) || ((c.toNat : Int) == 48) && !(w == [])) = Tok.digB c w := by
  unfold Tok.digB
  have e : ((c.toNat : Int) == 48) = (c == 48) := by rw [Bool.eq_iff_iff, beq_iff_eq, beq_iff_eq, byte_ne]; rfl
  have e1 : decide ((c.toNat : Int) ≥ 49) = decide (49 ≤ c.toNat) := by rw [Bool.eq_iff_iff, decide_eq_true_iff, decide_eq_true_iff]; omega
  have e2 : decide ((c.toNat : Int) ≤ 57) = decide (c.toNat ≤ 57) := by rw [Bool.eq_iff_iff, decide_eq_true_iff, decide_eq_true_iff]; omega
  rw [e, e1, e2]
section
variable {CT : Nat → Option CFun}
theorem laid_num_loop (base : Nat) {vl v1 v5 v6 v7 v8 v9 v10 v14 : V} {i : Nat} {x : Tok.W} {a b0 b1 b2 : V} (hl : Look3 vl i x a b0 b1 b2) (hxt : x.text.length < 2 ^ 63) {H : Heap} : ∀ (l : List UInt8) (j : Nat) (w : List UInt8) (n : Nat), x.text.drop j = l → j ≤ x.text.length → w.length ≤ 9 → n < 10 ^ w.length →
    ∃ j', itW (evC (callW CT) itW base s_gnomonlaw03_TokenLaid_l1) [] H.length (frOf 283 [(0, vl), (1, v1), (5, v5), (6, v6), (7, v7), (8, v8), (9, v9), (10, v10), (11, I i), (12, .s (.string ⟨w.toArray⟩)), (13, I n), (14, v14), (17, I j)]) H = some (.ext 5, frOf 283 [(0, vl), (1, v1), (5, v5), (6, v6), (7, v7), (8, v8), (9, v9), (10, v10), (11, I i), (12, .s (.string ⟨(Tok.numF w n l).1.toArray⟩)), (13, I (Tok.numF w n l).2), (14, v14), (17, j'), (128, bl false)], H) := by
  obtain ⟨hi1, hi2, hi3, hi4, hi5, hi6, hi7⟩ := hl
  intro l
  induction l with
  | nil =>
    intro j w n hd hj hw hn
    have hin : j = x.text.length := by
      have := congrArg List.length hd
      rw [List.length_drop] at this
      simp at this
      omega
    refine ⟨I j, ?_⟩
    rw [itW_step]
    have hz : decide ((j : Int) < (x.text.length : Int)) = false := by rw [decide_eq_false_iff_not]; omega
    simp only [a_gnomonlaw03_TokenLaid,s_gnomonlaw03_TokenLaid_l0_b,s_gnomonlaw03_TokenLaid_l1_b,s_gnomonlaw03_TokenLaid_l2_b,s_gnomonlaw03_TokenLaid_l3_b,s_gnomonlaw03_TokenLaid_l4_b, am0,am1,am2,am3,am4,am5,am6,am7,bl,i64,reduceIte,reduceCtorEq,Nat.reduceEqDiff,Nat.reduceLT,Nat.reduceLeDiff,Nat.reduceBEq,Nat.reduceAdd,fillA,splice,Nat.reduceMul,al0,al1,al2,al3,al4,al5,al6,al7,al8,al9,al10,al11,al12,al13,al14,al15,al16,al17,al18,al19,al20,al21,al22,al23,al24,al25,al26,al27,al28,al29,al30,al31,al32,al33,al34,amY,op_eqP, I, bl, hi1, hi3, hi6, mk_size, hz, Tok.numF]
  | cons c l ih =>
    intro j w n hd hj hw hn
    have hx : x.text[j]? = some c := by have := congrArg (·[0]?) hd; simp only [List.getElem?_drop] at this; exact this
    have hlt : j < x.text.length := (List.getElem?_eq_some_iff.1 hx).1
    have hd' : x.text.drop (j + 1) = l := by
      have := congrArg (List.drop 1) hd
      simpa [List.drop_drop] using this
    have hlt' : ((j : Int) < (x.text.length : Int)) := by omega
    have w1 := wrap_pos (n := j) (by omega)
    rw [itW_step]
    by_cases h9 : w.length < 9
    · have hz : decide ((w.length : Int) < 9) = true := by rw [decide_eq_true_iff]; omega
      have nm := digB_m c w
      have hle : (0 ≤ (j : Int) ∧ (j : Int) ≤ ((j + 1 : Nat) : Int) ∧ ((j + 1 : Nat) : Int) ≤ (x.text.length : Int)) := by omega
      have hex := extract_eq ⟨x.text.toArray⟩ j 1
      rw [show (ByteArray.mk x.text.toArray).data.toList = x.text by simp, hd, List.take_succ_cons, List.take_zero] at hex
      have hmx := max_no (n := w.length + 1) (by omega)
      simp only [Tok.numF, if_pos h9]
      cases hc : Tok.digB c w with
      | true =>
        have hc2 := hc
        unfold Tok.digB at hc2
        simp only [Bool.or_eq_true, Bool.and_eq_true, decide_eq_true_eq, beq_iff_eq] at hc2
        have h48 : 48 ≤ c.toNat ∧ c.toNat ≤ 57 := by
          rcases hc2 with h | ⟨rfl, _⟩
          · omega
          · decide
        have hle9 : 10 ^ (w.length + 1) ≤ 10 ^ 9 := Nat.pow_le_pow_right (by decide) (by omega)
        have hn2 : 10 * n + (c.toNat - 48) < 10 ^ (w.length + 1) := by rw [Nat.pow_succ]; omega
        have w3 : IntKind.u8.wrap ((c.toNat : Int) - 48) = ((c.toNat - 48 : Nat) : Int) := by unfold IntKind.wrap; simp [IntKind.bits, IntKind.signed]; omega
        have w6 : IntKind.i64.wrap ((c.toNat - 48 : Nat) : Int) = ((c.toNat - 48 : Nat) : Int) := by rw [IntKind.wrap_i64]; omega
        have w4 : IntKind.i64.wrap (10 * (n : Int)) = ((10 * n : Nat) : Int) := by rw [IntKind.wrap_i64]; omega
        have w5 : IntKind.i64.wrap (((10 * n : Nat) : Int) + ((c.toNat - 48 : Nat) : Int)) = ((10 * n + (c.toNat - 48) : Nat) : Int) := by rw [IntKind.wrap_i64]; omega
        obtain ⟨j', e⟩ := ih (j + 1) (w ++ [c]) (10 * n + (c.toNat - 48)) hd' (by omega) (by simp; omega) (by simpa using hn2)
        refine ⟨j', ?_⟩
        simp only [I, bl] at e
        simp only [a_gnomonlaw03_TokenLaid,s_gnomonlaw03_TokenLaid_l0_b,s_gnomonlaw03_TokenLaid_l1_b,s_gnomonlaw03_TokenLaid_l2_b,s_gnomonlaw03_TokenLaid_l3_b,s_gnomonlaw03_TokenLaid_l4_b, am0,am1,am2,am3,am4,am5,am6,am7,bl,i64,reduceIte,reduceCtorEq,Nat.reduceEqDiff,Nat.reduceLT,Nat.reduceLeDiff,Nat.reduceBEq,Nat.reduceAdd,fillA,splice,Nat.reduceMul,al0,al1,al2,al3,al4,al5,al6,al7,al8,al9,al10,al11,al12,al13,al14,al15,al16,al17,al18,al19,al20,al21,al22,al23,al24,al25,al26,al27,al28,al29,al30,al31,al32,al33,al34,amY,op_eqP, I, bl, hi1, hi3, hi6, mk_size, hlt', hz, hx, nm, hc, w1, w3, w4, w6, w5, xsub_str, hle, hex, mk_app, hmx, if_true]
        exact e
      | false =>
        obtain ⟨j', e⟩ := ih (j + 1) w n hd' (by omega) hw hn
        refine ⟨j', ?_⟩
        simp only [I, bl] at e
        simp only [a_gnomonlaw03_TokenLaid,s_gnomonlaw03_TokenLaid_l0_b,s_gnomonlaw03_TokenLaid_l1_b,s_gnomonlaw03_TokenLaid_l2_b,s_gnomonlaw03_TokenLaid_l3_b,s_gnomonlaw03_TokenLaid_l4_b, am0,am1,am2,am3,am4,am5,am6,am7,bl,i64,reduceIte,reduceCtorEq,Nat.reduceEqDiff,Nat.reduceLT,Nat.reduceLeDiff,Nat.reduceBEq,Nat.reduceAdd,fillA,splice,Nat.reduceMul,al0,al1,al2,al3,al4,al5,al6,al7,al8,al9,al10,al11,al12,al13,al14,al15,al16,al17,al18,al19,al20,al21,al22,al23,al24,al25,al26,al27,al28,al29,al30,al31,al32,al33,al34,amY,op_eqP, I, bl, hi1, hi3, hi6, mk_size, hlt', hz, hx, nm, hc, w1, Bool.false_eq_true, if_false]
        exact e
    · have hz : decide ((w.length : Int) < 9) = false := by rw [decide_eq_false_iff_not]; omega
      refine ⟨I j, ?_⟩
      simp only [a_gnomonlaw03_TokenLaid,s_gnomonlaw03_TokenLaid_l0_b,s_gnomonlaw03_TokenLaid_l1_b,s_gnomonlaw03_TokenLaid_l2_b,s_gnomonlaw03_TokenLaid_l3_b,s_gnomonlaw03_TokenLaid_l4_b, am0,am1,am2,am3,am4,am5,am6,am7,bl,i64,reduceIte,reduceCtorEq,Nat.reduceEqDiff,Nat.reduceLT,Nat.reduceLeDiff,Nat.reduceBEq,Nat.reduceAdd,fillA,splice,Nat.reduceMul,al0,al1,al2,al3,al4,al5,al6,al7,al8,al9,al10,al11,al12,al13,al14,al15,al16,al17,al18,al19,al20,al21,al22,al23,al24,al25,al26,al27,al28,al29,al30,al31,al32,al33,al34,amY,op_eqP, I, bl, hi1, hi3, hi6, mk_size, hlt', hz, Tok.numF, if_neg h9]
theorem laid_spot_loop (base : Nat) {vl v1 v5 v6 v7 v11 v12 v13 v14 : V} {g : List UInt8} (hg : g.length < 2 ^ 50) {H : Heap} : ∀ (l : List UInt8) (j : Nat) (p : Nat × Nat), g.drop j = l → j ≤ g.length → p.1 < 2 ^ 50 + j → p.2 < 2 ^ 50 + j →
    itW (evC (callW CT) itW base s_gnomonlaw03_TokenLaid_l2) [] H.length (frOf 283 [(0, vl), (1, v1), (5, v5), (6, v6), (7, v7), (8, I p.1), (9, I p.2), (11, v11), (12, v12), (13, v13), (14, v14), (19, .s (.string ⟨g.toArray⟩)), (20, I j)]) H = some (.ext 7, frOf 283 [(0, vl), (1, v1), (5, v5), (6, v6), (7, v7), (8, I (Tok.spotL l p).1), (9, I (Tok.spotL l p).2), (11, v11), (12, v12), (13, v13), (14, v14), (19, .s (.string ⟨g.toArray⟩)), (20, I g.length), (200, bl false)], H) := by
  intro l
  induction l with
  | nil =>
    intro j p hd hj h1 h2
    have hin : j = g.length := by
      have := congrArg List.length hd
      rw [List.length_drop] at this
      simp at this
      omega
    subst hin
    rw [itW_step]
    simp only [a_gnomonlaw03_TokenLaid,s_gnomonlaw03_TokenLaid_l0_b,s_gnomonlaw03_TokenLaid_l1_b,s_gnomonlaw03_TokenLaid_l2_b,s_gnomonlaw03_TokenLaid_l3_b,s_gnomonlaw03_TokenLaid_l4_b, am0,am1,am2,am3,am4,am5,am6,am7,bl,i64,reduceIte,reduceCtorEq,Nat.reduceEqDiff,Nat.reduceLT,Nat.reduceLeDiff,Nat.reduceBEq,Nat.reduceAdd,fillA,splice,Nat.reduceMul,al0,al1,al2,al3,al4,al5,al6,al7,al8,al9,al10,al11,al12,al13,al14,al15,al16,al17,al18,al19,al20,al21,al22,al23,al24,al25,al26,al27,al28,al29,al30,al31,al32,al33,al34,amY,op_eqP, I, bl, mk_size, Int.lt_irrefl, Tok.spotL]
  | cons c l ih =>
    intro j p hd hj h1 h2
    have hx : g[j]? = some c := by have := congrArg (·[0]?) hd; simp only [List.getElem?_drop] at this; exact this
    have hlt : j < g.length := (List.getElem?_eq_some_iff.1 hx).1
    have hd' : g.drop (j + 1) = l := by
      have := congrArg (List.drop 1) hd
      simpa [List.drop_drop] using this
    have hlt' : ((j : Int) < (g.length : Int)) := by omega
    have w1 := w64_nat (n := j) (by omega)
    have w2 := w64_nat (n := p.2) (by omega)
    have w3 := w64_nat (n := p.1) (by omega)
    have ten := ten_m c
    rw [itW_step, Tok.spotL]
    by_cases h10 : c = 10
    · have e := ih (j + 1) (p.1 + 1, 1) hd' (by omega) (by simp only; omega) (by simp only; omega)
      rw [if_pos h10]
      rw [decide_eq_true h10] at ten
      simp only [I, bl] at e
      simp only [a_gnomonlaw03_TokenLaid,s_gnomonlaw03_TokenLaid_l0_b,s_gnomonlaw03_TokenLaid_l1_b,s_gnomonlaw03_TokenLaid_l2_b,s_gnomonlaw03_TokenLaid_l3_b,s_gnomonlaw03_TokenLaid_l4_b, am0,am1,am2,am3,am4,am5,am6,am7,bl,i64,reduceIte,reduceCtorEq,Nat.reduceEqDiff,Nat.reduceLT,Nat.reduceLeDiff,Nat.reduceBEq,Nat.reduceAdd,fillA,splice,Nat.reduceMul,al0,al1,al2,al3,al4,al5,al6,al7,al8,al9,al10,al11,al12,al13,al14,al15,al16,al17,al18,al19,al20,al21,al22,al23,al24,al25,al26,al27,al28,al29,al30,al31,al32,al33,al34,amY,op_eqP, I, bl, mk_size, hlt', hx, ten, w1, w2, w3]
      exact e
    · have e := ih (j + 1) (p.1, p.2 + 1) hd' (by omega) (by simp only; omega) (by simp only; omega)
      rw [if_neg h10]
      rw [decide_eq_false h10] at ten
      simp only [I, bl] at e
      simp only [a_gnomonlaw03_TokenLaid,s_gnomonlaw03_TokenLaid_l0_b,s_gnomonlaw03_TokenLaid_l1_b,s_gnomonlaw03_TokenLaid_l2_b,s_gnomonlaw03_TokenLaid_l3_b,s_gnomonlaw03_TokenLaid_l4_b, am0,am1,am2,am3,am4,am5,am6,am7,bl,i64,reduceIte,reduceCtorEq,Nat.reduceEqDiff,Nat.reduceLT,Nat.reduceLeDiff,Nat.reduceBEq,Nat.reduceAdd,fillA,splice,Nat.reduceMul,al0,al1,al2,al3,al4,al5,al6,al7,al8,al9,al10,al11,al12,al13,al14,al15,al16,al17,al18,al19,al20,al21,al22,al23,al24,al25,al26,al27,al28,al29,al30,al31,al32,al33,al34,amY,op_eqP, I, bl, mk_size, hlt', hx, ten, w1, w2, w3]
      exact e
end
end Go.Proofs.YtfnkpedipicjnaaDoor
set_option maxRecDepth 100000
namespace Go.Proofs.YtfnkpedipicjnaaDoor
open Go.AM
abbrev I8 (n : Nat) : V := .s (.int .u8 n)
theorem xsub_strC (H : Heap) (b : ByteArray) (y : V) (k k2 : IntKind) (l h : Int) : xSub H (.subStr (.c (.s (.string b))) (some (.t 1)) (some (.t 2))) (some [y, .s (.int k l), .s (.int k2 h)]) = if 0 ≤ l ∧ l ≤ h ∧ h ≤ b.size then some (.s (.string (b.extract l.toNat h.toNat))) else none := by
  show (if 0 ≤ l ∧ l ≤ h ∧ h ≤ (b.size : Int) then some (V.s (.string (b.extract l.toNat h.toNat)), H) else none).map (·.1) = _
  split <;> rfl
theorem AccW.app1 {m base : Nat} {H : Heap} {v : V} {R : List (List V)} (h : AccW m 5 H v R) (hbm : base ≤ m) (hmL : m ≤ H.length) {row : List V} (hrl : row.length = 5) (hr1 : row.all V.one = true) (hR : R.length ≤ 2 ^ 40) :
    ∃ v' C, appendV (H ++ [Ob.cells 0 row]) base 5 48 v (.sl H.length 0 0 1 5) = some (v', C) ∧ AccW m 5 C v' (R ++ [row]) ∧ KeepD m [] H C := by
  obtain ⟨B, hB⟩ : ∃ B, H ++ [Ob.cells 0 row] = B := ⟨_, rfl⟩
  have kB : ∀ id, id < H.length → B[id]? = H[id]? := fun id h1 => by rw [← hB, List.getElem?_append_left h1]
  have lB : B.length = H.length + 1 := by rw [← hB]; simp
  have hx : elems B 5 (.sl H.length 0 0 1 5) = some ([row].length, [row].flatten) := by
    rw [← hB]; exact (RdW.sl (R := [row]) (by simpa using getC_new H 0 row) (by intro r hr; simp at hr; subst hr; exact hrl)).el
  have hvB : AccW m 5 B v R := h.keep fun id g n e => kB id (h.lt id g n e)
  obtain ⟨v', C, eC, aC, lC, kC⟩ := hvB.append (base := base) (bytes := 48) (S := [row]) hbm (by omega) (by intro r hr; simp at hr; subst hr; exact hrl) (by simp) hx (by simpa using hr1) (by simp; omega)
  rw [hB]
  refine ⟨v', C, eC, aC, by omega, fun x hx _ => ?_⟩
  rw [kC x (by omega) (fun g n e => ?_), kB x (by omega)]
  obtain ⟨_, ⟨_, rfl⟩ | ⟨id', g', rfl, _, hid'⟩⟩ := h
  · cases e
  · cases e; omega
section
variable {CT : Nat → Option CFun}
theorem laid_round0 {base : Nat} {vl v1 v5 : V} {L : List Tok.W} (hv : ∀ H, RdW 3 H vl (L.map wR)) (hLl : L.length ≤ 100) (hu8 : ∀ x ∈ L, x.kind < 256 ∧ x.ahead < 256 ∧ x.text.length < 2 ^ 63) {F : Heap} (hbase : base ≤ F.length) (hg5 : ∀ H, KeepD F.length [] F H → Rd H v5 (Tok.gaps.map fun g => V.s (.string ⟨g.toArray⟩))) (hw5 : Wide1 v5)
    {i : Nat} {x : Tok.W} (hx : L[i]? = some x) {txt : List UInt8} {v7 : V} {R : List (List V)} {p : Nat × Nat} {sg : Bool} {H : Heap} (hk : KeepD F.length [] F H) (ha : AccW F.length 5 H v7 R) (htx : txt.length ≤ 51 * i) (hR : R.length = i) (hp1 : p.1 ≤ 1 + 51 * i) (hp2 : p.2 ≤ 1 + 51 * i) (hc : x.k = 0) :
    ∃ v' H', itW (evC (callW CT) itW base s_gnomonlaw03_TokenLaid_l3) [] F.length (frOf 283 [(0, vl), (1, v1), (5, v5), (6, .s (.string ⟨(txt).toArray⟩)), (7, v7), (8, I p.1), (9, I p.2), (10, bl sg), (11, I i)]) H = itW (evC (callW CT) itW base s_gnomonlaw03_TokenLaid_l3) [] F.length (frOf 283 [(0, vl), (1, v1), (5, v5), (6, .s (.string ⟨(txt ++ x.gap sg ++ x.word.1).toArray⟩)), (7, v'), (8, I (Tok.spotL (x.gap sg) p).1), (9, I ((Tok.spotL (x.gap sg) p).2 + x.word.1.length : Nat)), (10, bl (x.k == 2)), (11, I (i + 1 : Nat))]) H' ∧ KeepD F.length [] F H' ∧ AccW F.length 5 H' v' (R ++ [tV ⟨x.k + 1, x.word.1, x.word.2, (Tok.spotL (x.gap sg) p).1, (Tok.spotL (x.gap sg) p).2⟩]) := by
  obtain ⟨a, b0, b1, b2, lk⟩ := look3_of hv hx
  have lk' := lk
  obtain ⟨hi1, hi2, hi3, hi4, hi5, hi6, hi7⟩ := lk
  have hi : i < L.length := (List.getElem?_eq_some_iff.1 hx).1
  have hlt' : ((i : Int) < (L.length : Int)) := by omega
  have nl := fun H => (hv H).len
  simp only [List.length_map] at nl
  obtain ⟨hk8, ha8, ht8⟩ := hu8 x (List.mem_of_getElem? hx)
  have hHl := hk.1
  have z3 : ((3 : Int) = 0) = False := by decide
  have z9 : ((9 : Int) = 0) = False := by decide
  have z2 : ((2 : Int) = 0) = False := by decide
  have z7 : ((7 : Int) = 0) = False := by decide
  have tm3 : ((x.kind : Int)).tmod 3 = ((x.k : Nat) : Int) := rfl
  have tm9 : ((x.text.length : Int)).tmod 9 = ((x.text.length % 9 : Nat) : Int) := rfl
  have tm2 : ((x.ahead : Int)).tmod 2 = ((x.ahead % 2 : Nat) : Int) := rfl
  have td2 : ((x.ahead : Int)).tdiv 2 = ((x.ahead / 2 : Nat) : Int) := rfl
  have tm7 : (((x.ahead / 2 : Nat) : Int)).tmod 7 = ((x.ahead / 2 % 7 : Nat) : Int) := rfl
  have wa : IntKind.i64.wrap (x.ahead : Int) = (x.ahead : Int) := by rw [IntKind.wrap_i64]; omega
  have wa2 : IntKind.i64.wrap ((x.ahead / 2 : Nat) : Int) = ((x.ahead / 2 : Nat) : Int) := by rw [IntKind.wrap_i64]; omega
  have hk3 : x.k < 3 := Nat.mod_lt _ (by decide)
  have e0 : ((x.k : Int) == 0) = decide (x.k = 0) := by rw [Bool.eq_iff_iff, beq_iff_eq, decide_eq_true_iff]; omega
  have e1 : ((x.k : Int) == 1) = decide (x.k = 1) := by rw [Bool.eq_iff_iff, beq_iff_eq, decide_eq_true_iff]; omega
  have e2 : ((x.k : Int) == 2) = (x.k == 2) := by rw [Bool.eq_iff_iff, beq_iff_eq, beq_iff_eq]; omega
  have e2' : ((x.k : Int) != 2) = (x.k != 2) := by rw [bne, bne, e2]
  have eA : (((x.ahead % 2 : Nat) : Int) == 1) = (x.ahead % 2 == 1) := by rw [Bool.eq_iff_iff, beq_iff_eq, beq_iff_eq]; omega
  have wk : IntKind.u8.wrap ((x.k : Int) + 1) = ((x.k + 1 : Nat) : Int) := by unfold IntKind.wrap; simp [IntKind.bits, IntKind.signed]; omega
  have wi := w64_nat (n := i) (by omega)
  have hidx : x.ahead / 2 % 7 < 7 := Nat.mod_lt _ (by decide)
  have hgi : (Tok.gaps.map fun g => V.s (.string ⟨g.toArray⟩))[x.ahead / 2 % 7]? = some (.s (.string ⟨(Tok.gaps.getD (x.ahead / 2 % 7) []).toArray⟩)) := by
    rw [List.getElem?_map, List.getElem?_eq_getElem (show x.ahead / 2 % 7 < Tok.gaps.length from hidx), List.getD_eq_getElem?_getD, List.getElem?_eq_getElem (show x.ahead / 2 % 7 < Tok.gaps.length from hidx)]
    rfl
  obtain ⟨ga, ga1, ga2⟩ := (hg5 H hk).at' hw5 hgi
  have hgl := Tok.gap_len x sg
  have hwl := Tok.word_len x
  obtain ⟨g, hgg⟩ : ∃ g, x.gap sg = g := ⟨_, rfl⟩
  obtain ⟨wl, wn, hww⟩ : ∃ wl wn, x.word = (wl, wn) := ⟨_, _, rfl⟩
  rw [hgg] at hgl ⊢
  rw [hww] at hwl ⊢
  simp only at hwl ⊢
  have eS := laid_spot_loop (CT := CT) base (vl := vl) (v1 := v1) (v5 := v5) (v6 := .s (.string ⟨txt.toArray⟩)) (v7 := v7) (v11 := I i) (v12 := .s (.string ⟨wl.toArray⟩)) (v13 := I wn) (v14 := I8 x.k) (g := g) (by omega) (H := H) g 0 p rfl (Nat.zero_le _) (by omega) (by omega)
  have hsp := spotL_le g p
  obtain ⟨v', C, eC, aC, kC⟩ := AccW.app1 ha hbase hHl (row := tV ⟨x.k + 1, wl, wn, (Tok.spotL g p).1, (Tok.spotL g p).2⟩) rfl rfl (by omega)
  have hm1 := max_no (n := txt.length + g.length) (by omega)
  have hm2 := max_no (n := txt.length + (g.length + wl.length)) (by omega)
  have ww : IntKind.i64.wrap (((Tok.spotL g p).2 : Int) + (wl.length : Int)) = (((Tok.spotL g p).2 + wl.length : Nat) : Int) := by rw [IntKind.wrap_i64]; omega
  refine ⟨v', _, ?_, KeepD.tr (hk.trans kC (Nat.le_refl _)) (frOf 283 [(0, vl), (1, v1), (5, v5), (6, .s (.string ⟨(txt ++ g ++ wl).toArray⟩)), (7, v'), (8, I (Tok.spotL g p).1), (9, I ((Tok.spotL g p).2 + wl.length : Nat)), (10, bl (x.k == 2)), (11, I (i + 1 : Nat))]), AccW.tr aC (frOf_mem (s := 7) (by decide) rfl)⟩
  simp only [I, bl, I8, tV] at eS eC
  unfold Tok.W.word at hww
  unfold Tok.W.gap at hgg
  have h0 := hc
  · rw [decide_eq_true h0] at e0
    rw [if_pos h0] at hww
    obtain ⟨hw1, rfl⟩ := Prod.mk.inj hww
    obtain ⟨j', eN⟩ := laid_name_loop (CT := CT) base (v1 := v1) (v5 := v5) (v6 := .s (.string ⟨txt.toArray⟩)) (v7 := v7) (v8 := I p.1) (v9 := I p.2) (v10 := bl sg) (v13 := I 0) (v14 := I8 x.k) lk' ht8 (H := H) x.text 0 [119] rfl (Nat.zero_le _) (Nat.zero_le _) (by simp)
    simp only [I, bl, I8, show ((0 : Nat) : Int) = 0 from rfl, Nat.sub_zero, List.singleton_append, hw1] at eN eS eC
    cases hcg : (!sg && x.k != 2 || x.ahead % 2 == 1) with
    | true =>
      rw [hcg, if_pos rfl] at hgg
      rw [hgg] at ga2
      rw [itW_step]
      simp only [a_gnomonlaw03_TokenLaid,s_gnomonlaw03_TokenLaid_l0_b,s_gnomonlaw03_TokenLaid_l1_b,s_gnomonlaw03_TokenLaid_l2_b,s_gnomonlaw03_TokenLaid_l3_b,s_gnomonlaw03_TokenLaid_l4_b, am0,am1,am2,am3,am4,am5,am6,am7,bl,i64,reduceIte,reduceCtorEq,Nat.reduceEqDiff,Nat.reduceLT,Nat.reduceLeDiff,Nat.reduceBEq,Nat.reduceAdd,fillA,splice,Nat.reduceMul,al0,al1,al2,al3,al4,al5,al6,al7,al8,al9,al10,al11,al12,al13,al14,al15,al16,al17,al18,al19,al20,al21,al22,al23,al24,al25,al26,al27,al28,al29,al30,al31,al32,al33,al34,amY,op_eqP, I, bl, I8, nl, hlt', hi1, hi2, hi3, hi4, hi5, hi6, hi7, z3, z9, z2, z7, tm3, tm9, tm2, td2, tm7, wa, wa2, e0, e1, e2, e2', eA, wk, wi, ga1, ga2, mk_app, mk_size, hm1, hm2, ww, List.length_append, List.length_nil, List.append_nil, Nat.add_zero, hcg, eN, eS, eC]
    | false =>
      rw [hcg, if_neg (by simp)] at hgg
      subst hgg
      simp only [List.length_nil, Nat.add_zero, Nat.zero_add, show ((0 : Nat) : Int) = 0 from rfl] at eS hm1 hm2
      rw [itW_step]
      simp only [a_gnomonlaw03_TokenLaid,s_gnomonlaw03_TokenLaid_l0_b,s_gnomonlaw03_TokenLaid_l1_b,s_gnomonlaw03_TokenLaid_l2_b,s_gnomonlaw03_TokenLaid_l3_b,s_gnomonlaw03_TokenLaid_l4_b, am0,am1,am2,am3,am4,am5,am6,am7,bl,i64,reduceIte,reduceCtorEq,Nat.reduceEqDiff,Nat.reduceLT,Nat.reduceLeDiff,Nat.reduceBEq,Nat.reduceAdd,fillA,splice,Nat.reduceMul,al0,al1,al2,al3,al4,al5,al6,al7,al8,al9,al10,al11,al12,al13,al14,al15,al16,al17,al18,al19,al20,al21,al22,al23,al24,al25,al26,al27,al28,al29,al30,al31,al32,al33,al34,amY,op_eqP, I, bl, I8, nl, hlt', hi1, hi2, hi3, hi4, hi5, hi6, hi7, z3, z9, z2, z7, tm3, tm9, tm2, td2, tm7, wa, wa2, e0, e1, e2, e2', eA, wk, wi, ga1, ga2, mk_app, mk_size, hm1, hm2, ww, List.length_append, List.length_nil, List.append_nil, Nat.add_zero, hcg, eN, eS, eC]
theorem laid_round1 {base : Nat} {vl v1 v5 : V} {L : List Tok.W} (hv : ∀ H, RdW 3 H vl (L.map wR)) (hLl : L.length ≤ 100) (hu8 : ∀ x ∈ L, x.kind < 256 ∧ x.ahead < 256 ∧ x.text.length < 2 ^ 63) {F : Heap} (hbase : base ≤ F.length) (hg5 : ∀ H, KeepD F.length [] F H → Rd H v5 (Tok.gaps.map fun g => V.s (.string ⟨g.toArray⟩))) (hw5 : Wide1 v5)
    {i : Nat} {x : Tok.W} (hx : L[i]? = some x) {txt : List UInt8} {v7 : V} {R : List (List V)} {p : Nat × Nat} {sg : Bool} {H : Heap} (hk : KeepD F.length [] F H) (ha : AccW F.length 5 H v7 R) (htx : txt.length ≤ 51 * i) (hR : R.length = i) (hp1 : p.1 ≤ 1 + 51 * i) (hp2 : p.2 ≤ 1 + 51 * i) (hc : x.k = 1) :
    ∃ v' H', itW (evC (callW CT) itW base s_gnomonlaw03_TokenLaid_l3) [] F.length (frOf 283 [(0, vl), (1, v1), (5, v5), (6, .s (.string ⟨(txt).toArray⟩)), (7, v7), (8, I p.1), (9, I p.2), (10, bl sg), (11, I i)]) H = itW (evC (callW CT) itW base s_gnomonlaw03_TokenLaid_l3) [] F.length (frOf 283 [(0, vl), (1, v1), (5, v5), (6, .s (.string ⟨(txt ++ x.gap sg ++ x.word.1).toArray⟩)), (7, v'), (8, I (Tok.spotL (x.gap sg) p).1), (9, I ((Tok.spotL (x.gap sg) p).2 + x.word.1.length : Nat)), (10, bl (x.k == 2)), (11, I (i + 1 : Nat))]) H' ∧ KeepD F.length [] F H' ∧ AccW F.length 5 H' v' (R ++ [tV ⟨x.k + 1, x.word.1, x.word.2, (Tok.spotL (x.gap sg) p).1, (Tok.spotL (x.gap sg) p).2⟩]) := by
  obtain ⟨a, b0, b1, b2, lk⟩ := look3_of hv hx
  have lk' := lk
  obtain ⟨hi1, hi2, hi3, hi4, hi5, hi6, hi7⟩ := lk
  have hi : i < L.length := (List.getElem?_eq_some_iff.1 hx).1
  have hlt' : ((i : Int) < (L.length : Int)) := by omega
  have nl := fun H => (hv H).len
  simp only [List.length_map] at nl
  obtain ⟨hk8, ha8, ht8⟩ := hu8 x (List.mem_of_getElem? hx)
  have hHl := hk.1
  have z3 : ((3 : Int) = 0) = False := by decide
  have z9 : ((9 : Int) = 0) = False := by decide
  have z2 : ((2 : Int) = 0) = False := by decide
  have z7 : ((7 : Int) = 0) = False := by decide
  have tm3 : ((x.kind : Int)).tmod 3 = ((x.k : Nat) : Int) := rfl
  have tm9 : ((x.text.length : Int)).tmod 9 = ((x.text.length % 9 : Nat) : Int) := rfl
  have tm2 : ((x.ahead : Int)).tmod 2 = ((x.ahead % 2 : Nat) : Int) := rfl
  have td2 : ((x.ahead : Int)).tdiv 2 = ((x.ahead / 2 : Nat) : Int) := rfl
  have tm7 : (((x.ahead / 2 : Nat) : Int)).tmod 7 = ((x.ahead / 2 % 7 : Nat) : Int) := rfl
  have wa : IntKind.i64.wrap (x.ahead : Int) = (x.ahead : Int) := by rw [IntKind.wrap_i64]; omega
  have wa2 : IntKind.i64.wrap ((x.ahead / 2 : Nat) : Int) = ((x.ahead / 2 : Nat) : Int) := by rw [IntKind.wrap_i64]; omega
  have hk3 : x.k < 3 := Nat.mod_lt _ (by decide)
  have e0 : ((x.k : Int) == 0) = decide (x.k = 0) := by rw [Bool.eq_iff_iff, beq_iff_eq, decide_eq_true_iff]; omega
  have e1 : ((x.k : Int) == 1) = decide (x.k = 1) := by rw [Bool.eq_iff_iff, beq_iff_eq, decide_eq_true_iff]; omega
  have e2 : ((x.k : Int) == 2) = (x.k == 2) := by rw [Bool.eq_iff_iff, beq_iff_eq, beq_iff_eq]; omega
  have e2' : ((x.k : Int) != 2) = (x.k != 2) := by rw [bne, bne, e2]
  have eA : (((x.ahead % 2 : Nat) : Int) == 1) = (x.ahead % 2 == 1) := by rw [Bool.eq_iff_iff, beq_iff_eq, beq_iff_eq]; omega
  have wk : IntKind.u8.wrap ((x.k : Int) + 1) = ((x.k + 1 : Nat) : Int) := by unfold IntKind.wrap; simp [IntKind.bits, IntKind.signed]; omega
  have wi := w64_nat (n := i) (by omega)
  have hidx : x.ahead / 2 % 7 < 7 := Nat.mod_lt _ (by decide)
  have hgi : (Tok.gaps.map fun g => V.s (.string ⟨g.toArray⟩))[x.ahead / 2 % 7]? = some (.s (.string ⟨(Tok.gaps.getD (x.ahead / 2 % 7) []).toArray⟩)) := by
    rw [List.getElem?_map, List.getElem?_eq_getElem (show x.ahead / 2 % 7 < Tok.gaps.length from hidx), List.getD_eq_getElem?_getD, List.getElem?_eq_getElem (show x.ahead / 2 % 7 < Tok.gaps.length from hidx)]
    rfl
  obtain ⟨ga, ga1, ga2⟩ := (hg5 H hk).at' hw5 hgi
  have hgl := Tok.gap_len x sg
  have hwl := Tok.word_len x
  obtain ⟨g, hgg⟩ : ∃ g, x.gap sg = g := ⟨_, rfl⟩
  obtain ⟨wl, wn, hww⟩ : ∃ wl wn, x.word = (wl, wn) := ⟨_, _, rfl⟩
  rw [hgg] at hgl ⊢
  rw [hww] at hwl ⊢
  simp only at hwl ⊢
  have eS := laid_spot_loop (CT := CT) base (vl := vl) (v1 := v1) (v5 := v5) (v6 := .s (.string ⟨txt.toArray⟩)) (v7 := v7) (v11 := I i) (v12 := .s (.string ⟨wl.toArray⟩)) (v13 := I wn) (v14 := I8 x.k) (g := g) (by omega) (H := H) g 0 p rfl (Nat.zero_le _) (by omega) (by omega)
  have hsp := spotL_le g p
  obtain ⟨v', C, eC, aC, kC⟩ := AccW.app1 ha hbase hHl (row := tV ⟨x.k + 1, wl, wn, (Tok.spotL g p).1, (Tok.spotL g p).2⟩) rfl rfl (by omega)
  have hm1 := max_no (n := txt.length + g.length) (by omega)
  have hm2 := max_no (n := txt.length + (g.length + wl.length)) (by omega)
  have ww : IntKind.i64.wrap (((Tok.spotL g p).2 : Int) + (wl.length : Int)) = (((Tok.spotL g p).2 + wl.length : Nat) : Int) := by rw [IntKind.wrap_i64]; omega
  refine ⟨v', _, ?_, KeepD.tr (hk.trans kC (Nat.le_refl _)) (frOf 283 [(0, vl), (1, v1), (5, v5), (6, .s (.string ⟨(txt ++ g ++ wl).toArray⟩)), (7, v'), (8, I (Tok.spotL g p).1), (9, I ((Tok.spotL g p).2 + wl.length : Nat)), (10, bl (x.k == 2)), (11, I (i + 1 : Nat))]), AccW.tr aC (frOf_mem (s := 7) (by decide) rfl)⟩
  simp only [I, bl, I8, tV] at eS eC
  unfold Tok.W.word at hww
  unfold Tok.W.gap at hgg
  have h0 : ¬ x.k = 0 := by omega
  have h1 := hc
  rw [decide_eq_false h0] at e0
  rw [if_neg h0] at hww
  · · rw [decide_eq_true h1] at e1
      rw [if_pos h1] at hww
      unfold Tok.numW at hww
      obtain ⟨j', eN⟩ := laid_num_loop (CT := CT) base (v1 := v1) (v5 := v5) (v6 := .s (.string ⟨txt.toArray⟩)) (v7 := v7) (v8 := I p.1) (v9 := I p.2) (v10 := bl sg) (v14 := I8 x.k) lk' ht8 (H := H) x.text 0 [] 0 rfl (Nat.zero_le _) (by simp) (by simp)
      simp only [I, bl, I8, show ((0 : Nat) : Int) = 0 from rfl] at eN eS eC
      by_cases hne : (Tok.numF [] 0 x.text).1 = []
      · simp only [hne, if_true] at hww eN
        obtain ⟨hw1, hw2⟩ := Prod.mk.inj hww
        rw [hw2] at eN
        subst hw1
        simp only [List.length_singleton] at ww hm2
        cases hcg : (!sg && x.k != 2 || x.ahead % 2 == 1) with
        | true =>
          rw [hcg, if_pos rfl] at hgg
          rw [hgg] at ga2
          rw [itW_step]
          simp only [a_gnomonlaw03_TokenLaid,s_gnomonlaw03_TokenLaid_l0_b,s_gnomonlaw03_TokenLaid_l1_b,s_gnomonlaw03_TokenLaid_l2_b,s_gnomonlaw03_TokenLaid_l3_b,s_gnomonlaw03_TokenLaid_l4_b, am0,am1,am2,am3,am4,am5,am6,am7,bl,i64,reduceIte,reduceCtorEq,Nat.reduceEqDiff,Nat.reduceLT,Nat.reduceLeDiff,Nat.reduceBEq,Nat.reduceAdd,fillA,splice,Nat.reduceMul,al0,al1,al2,al3,al4,al5,al6,al7,al8,al9,al10,al11,al12,al13,al14,al15,al16,al17,al18,al19,al20,al21,al22,al23,al24,al25,al26,al27,al28,al29,al30,al31,al32,al33,al34,amY,op_eqP, I, bl, I8, nl, hlt', hi1, hi2, hi3, hi4, hi5, hi6, hi7, z3, z9, z2, z7, tm3, tm9, tm2, td2, tm7, wa, wa2, e0, e1, e2, e2', eA, wk, wi, ga1, ga2, mk_app, mk_size, hm1, hm2, ww, List.length_append, List.length_nil, List.append_nil, Nat.add_zero, hcg, eN, List.length_singleton, beq_self_eq_true, eS, eC]
        | false =>
          rw [hcg, if_neg (by simp)] at hgg
          subst hgg
          simp only [List.length_nil, Nat.add_zero, Nat.zero_add, show ((0 : Nat) : Int) = 0 from rfl] at eS hm1 hm2
          rw [itW_step]
          simp only [a_gnomonlaw03_TokenLaid,s_gnomonlaw03_TokenLaid_l0_b,s_gnomonlaw03_TokenLaid_l1_b,s_gnomonlaw03_TokenLaid_l2_b,s_gnomonlaw03_TokenLaid_l3_b,s_gnomonlaw03_TokenLaid_l4_b, am0,am1,am2,am3,am4,am5,am6,am7,bl,i64,reduceIte,reduceCtorEq,Nat.reduceEqDiff,Nat.reduceLT,Nat.reduceLeDiff,Nat.reduceBEq,Nat.reduceAdd,fillA,splice,Nat.reduceMul,al0,al1,al2,al3,al4,al5,al6,al7,al8,al9,al10,al11,al12,al13,al14,al15,al16,al17,al18,al19,al20,al21,al22,al23,al24,al25,al26,al27,al28,al29,al30,al31,al32,al33,al34,amY,op_eqP, I, bl, I8, nl, hlt', hi1, hi2, hi3, hi4, hi5, hi6, hi7, z3, z9, z2, z7, tm3, tm9, tm2, td2, tm7, wa, wa2, e0, e1, e2, e2', eA, wk, wi, ga1, ga2, mk_app, mk_size, hm1, hm2, ww, List.length_append, List.length_nil, List.append_nil, Nat.add_zero, hcg, eN, List.length_singleton, beq_self_eq_true, eS, eC]
      · simp only [hne, if_false] at hww
        have hw1 : (Tok.numF [] 0 x.text).1 = wl := by rw [hww]
        have hw2 : (Tok.numF [] 0 x.text).2 = wn := by rw [hww]
        rw [hw1] at hne
        have hne' : (wl == []) = false := by simpa using hne
        simp only [hw1, hw2] at eN
        cases hcg : (!sg && x.k != 2 || x.ahead % 2 == 1) with
        | true =>
          rw [hcg, if_pos rfl] at hgg
          rw [hgg] at ga2
          rw [itW_step]
          simp only [a_gnomonlaw03_TokenLaid,s_gnomonlaw03_TokenLaid_l0_b,s_gnomonlaw03_TokenLaid_l1_b,s_gnomonlaw03_TokenLaid_l2_b,s_gnomonlaw03_TokenLaid_l3_b,s_gnomonlaw03_TokenLaid_l4_b, am0,am1,am2,am3,am4,am5,am6,am7,bl,i64,reduceIte,reduceCtorEq,Nat.reduceEqDiff,Nat.reduceLT,Nat.reduceLeDiff,Nat.reduceBEq,Nat.reduceAdd,fillA,splice,Nat.reduceMul,al0,al1,al2,al3,al4,al5,al6,al7,al8,al9,al10,al11,al12,al13,al14,al15,al16,al17,al18,al19,al20,al21,al22,al23,al24,al25,al26,al27,al28,al29,al30,al31,al32,al33,al34,amY,op_eqP, I, bl, I8, nl, hlt', hi1, hi2, hi3, hi4, hi5, hi6, hi7, z3, z9, z2, z7, tm3, tm9, tm2, td2, tm7, wa, wa2, e0, e1, e2, e2', eA, wk, wi, ga1, ga2, mk_app, mk_size, hm1, hm2, ww, List.length_append, List.length_nil, List.append_nil, Nat.add_zero, hcg, eN, hne', eS, eC]
        | false =>
          rw [hcg, if_neg (by simp)] at hgg
          subst hgg
          simp only [List.length_nil, Nat.add_zero, Nat.zero_add, show ((0 : Nat) : Int) = 0 from rfl] at eS hm1 hm2
          rw [itW_step]
          simp only [a_gnomonlaw03_TokenLaid,s_gnomonlaw03_TokenLaid_l0_b,s_gnomonlaw03_TokenLaid_l1_b,s_gnomonlaw03_TokenLaid_l2_b,s_gnomonlaw03_TokenLaid_l3_b,s_gnomonlaw03_TokenLaid_l4_b, am0,am1,am2,am3,am4,am5,am6,am7,bl,i64,reduceIte,reduceCtorEq,Nat.reduceEqDiff,Nat.reduceLT,Nat.reduceLeDiff,Nat.reduceBEq,Nat.reduceAdd,fillA,splice,Nat.reduceMul,al0,al1,al2,al3,al4,al5,al6,al7,al8,al9,al10,al11,al12,al13,al14,al15,al16,al17,al18,al19,al20,al21,al22,al23,al24,al25,al26,al27,al28,al29,al30,al31,al32,al33,al34,amY,op_eqP, I, bl, I8, nl, hlt', hi1, hi2, hi3, hi4, hi5, hi6, hi7, z3, z9, z2, z7, tm3, tm9, tm2, td2, tm7, wa, wa2, e0, e1, e2, e2', eA, wk, wi, ga1, ga2, mk_app, mk_size, hm1, hm2, ww, List.length_append, List.length_nil, List.append_nil, Nat.add_zero, hcg, eN, hne', eS, eC]
theorem laid_round2 {base : Nat} {vl v1 v5 : V} {L : List Tok.W} (hv : ∀ H, RdW 3 H vl (L.map wR)) (hLl : L.length ≤ 100) (hu8 : ∀ x ∈ L, x.kind < 256 ∧ x.ahead < 256 ∧ x.text.length < 2 ^ 63) {F : Heap} (hbase : base ≤ F.length) (hg5 : ∀ H, KeepD F.length [] F H → Rd H v5 (Tok.gaps.map fun g => V.s (.string ⟨g.toArray⟩))) (hw5 : Wide1 v5)
    {i : Nat} {x : Tok.W} (hx : L[i]? = some x) {txt : List UInt8} {v7 : V} {R : List (List V)} {p : Nat × Nat} {sg : Bool} {H : Heap} (hk : KeepD F.length [] F H) (ha : AccW F.length 5 H v7 R) (htx : txt.length ≤ 51 * i) (hR : R.length = i) (hp1 : p.1 ≤ 1 + 51 * i) (hp2 : p.2 ≤ 1 + 51 * i) (hc : x.k = 2) :
    ∃ v' H', itW (evC (callW CT) itW base s_gnomonlaw03_TokenLaid_l3) [] F.length (frOf 283 [(0, vl), (1, v1), (5, v5), (6, .s (.string ⟨(txt).toArray⟩)), (7, v7), (8, I p.1), (9, I p.2), (10, bl sg), (11, I i)]) H = itW (evC (callW CT) itW base s_gnomonlaw03_TokenLaid_l3) [] F.length (frOf 283 [(0, vl), (1, v1), (5, v5), (6, .s (.string ⟨(txt ++ x.gap sg ++ x.word.1).toArray⟩)), (7, v'), (8, I (Tok.spotL (x.gap sg) p).1), (9, I ((Tok.spotL (x.gap sg) p).2 + x.word.1.length : Nat)), (10, bl (x.k == 2)), (11, I (i + 1 : Nat))]) H' ∧ KeepD F.length [] F H' ∧ AccW F.length 5 H' v' (R ++ [tV ⟨x.k + 1, x.word.1, x.word.2, (Tok.spotL (x.gap sg) p).1, (Tok.spotL (x.gap sg) p).2⟩]) := by
  obtain ⟨a, b0, b1, b2, lk⟩ := look3_of hv hx
  have lk' := lk
  obtain ⟨hi1, hi2, hi3, hi4, hi5, hi6, hi7⟩ := lk
  have hi : i < L.length := (List.getElem?_eq_some_iff.1 hx).1
  have hlt' : ((i : Int) < (L.length : Int)) := by omega
  have nl := fun H => (hv H).len
  simp only [List.length_map] at nl
  obtain ⟨hk8, ha8, ht8⟩ := hu8 x (List.mem_of_getElem? hx)
  have hHl := hk.1
  have z3 : ((3 : Int) = 0) = False := by decide
  have z9 : ((9 : Int) = 0) = False := by decide
  have z2 : ((2 : Int) = 0) = False := by decide
  have z7 : ((7 : Int) = 0) = False := by decide
  have tm3 : ((x.kind : Int)).tmod 3 = ((x.k : Nat) : Int) := rfl
  have tm9 : ((x.text.length : Int)).tmod 9 = ((x.text.length % 9 : Nat) : Int) := rfl
  have tm2 : ((x.ahead : Int)).tmod 2 = ((x.ahead % 2 : Nat) : Int) := rfl
  have td2 : ((x.ahead : Int)).tdiv 2 = ((x.ahead / 2 : Nat) : Int) := rfl
  have tm7 : (((x.ahead / 2 : Nat) : Int)).tmod 7 = ((x.ahead / 2 % 7 : Nat) : Int) := rfl
  have wa : IntKind.i64.wrap (x.ahead : Int) = (x.ahead : Int) := by rw [IntKind.wrap_i64]; omega
  have wa2 : IntKind.i64.wrap ((x.ahead / 2 : Nat) : Int) = ((x.ahead / 2 : Nat) : Int) := by rw [IntKind.wrap_i64]; omega
  have hk3 : x.k < 3 := Nat.mod_lt _ (by decide)
  have e0 : ((x.k : Int) == 0) = decide (x.k = 0) := by rw [Bool.eq_iff_iff, beq_iff_eq, decide_eq_true_iff]; omega
  have e1 : ((x.k : Int) == 1) = decide (x.k = 1) := by rw [Bool.eq_iff_iff, beq_iff_eq, decide_eq_true_iff]; omega
  have e2 : ((x.k : Int) == 2) = (x.k == 2) := by rw [Bool.eq_iff_iff, beq_iff_eq, beq_iff_eq]; omega
  have e2' : ((x.k : Int) != 2) = (x.k != 2) := by rw [bne, bne, e2]
  have eA : (((x.ahead % 2 : Nat) : Int) == 1) = (x.ahead % 2 == 1) := by rw [Bool.eq_iff_iff, beq_iff_eq, beq_iff_eq]; omega
  have wk : IntKind.u8.wrap ((x.k : Int) + 1) = ((x.k + 1 : Nat) : Int) := by unfold IntKind.wrap; simp [IntKind.bits, IntKind.signed]; omega
  have wi := w64_nat (n := i) (by omega)
  have hidx : x.ahead / 2 % 7 < 7 := Nat.mod_lt _ (by decide)
  have hgi : (Tok.gaps.map fun g => V.s (.string ⟨g.toArray⟩))[x.ahead / 2 % 7]? = some (.s (.string ⟨(Tok.gaps.getD (x.ahead / 2 % 7) []).toArray⟩)) := by
    rw [List.getElem?_map, List.getElem?_eq_getElem (show x.ahead / 2 % 7 < Tok.gaps.length from hidx), List.getD_eq_getElem?_getD, List.getElem?_eq_getElem (show x.ahead / 2 % 7 < Tok.gaps.length from hidx)]
    rfl
  obtain ⟨ga, ga1, ga2⟩ := (hg5 H hk).at' hw5 hgi
  have hgl := Tok.gap_len x sg
  have hwl := Tok.word_len x
  obtain ⟨g, hgg⟩ : ∃ g, x.gap sg = g := ⟨_, rfl⟩
  obtain ⟨wl, wn, hww⟩ : ∃ wl wn, x.word = (wl, wn) := ⟨_, _, rfl⟩
  rw [hgg] at hgl ⊢
  rw [hww] at hwl ⊢
  simp only at hwl ⊢
  have eS := laid_spot_loop (CT := CT) base (vl := vl) (v1 := v1) (v5 := v5) (v6 := .s (.string ⟨txt.toArray⟩)) (v7 := v7) (v11 := I i) (v12 := .s (.string ⟨wl.toArray⟩)) (v13 := I wn) (v14 := I8 x.k) (g := g) (by omega) (H := H) g 0 p rfl (Nat.zero_le _) (by omega) (by omega)
  have hsp := spotL_le g p
  obtain ⟨v', C, eC, aC, kC⟩ := AccW.app1 ha hbase hHl (row := tV ⟨x.k + 1, wl, wn, (Tok.spotL g p).1, (Tok.spotL g p).2⟩) rfl rfl (by omega)
  have hm1 := max_no (n := txt.length + g.length) (by omega)
  have hm2 := max_no (n := txt.length + (g.length + wl.length)) (by omega)
  have ww : IntKind.i64.wrap (((Tok.spotL g p).2 : Int) + (wl.length : Int)) = (((Tok.spotL g p).2 + wl.length : Nat) : Int) := by rw [IntKind.wrap_i64]; omega
  refine ⟨v', _, ?_, KeepD.tr (hk.trans kC (Nat.le_refl _)) (frOf 283 [(0, vl), (1, v1), (5, v5), (6, .s (.string ⟨(txt ++ g ++ wl).toArray⟩)), (7, v'), (8, I (Tok.spotL g p).1), (9, I ((Tok.spotL g p).2 + wl.length : Nat)), (10, bl (x.k == 2)), (11, I (i + 1 : Nat))]), AccW.tr aC (frOf_mem (s := 7) (by decide) rfl)⟩
  simp only [I, bl, I8, tV] at eS eC
  unfold Tok.W.word at hww
  unfold Tok.W.gap at hgg
  have h0 : ¬ x.k = 0 := by omega
  have h1 : ¬ x.k = 1 := by omega
  rw [decide_eq_false h0] at e0
  rw [if_neg h0] at hww
  · · rw [decide_eq_false h1] at e1
      rw [if_neg h1] at hww
      obtain ⟨hw1, rfl⟩ := Prod.mk.inj hww
      have h9 : x.text.length % 9 < 9 := Nat.mod_lt _ (by decide)
      have hall : ∀ k, k < 9 → (Tok.signsL.drop k).take 1 = [Tok.signsL.getD k 0] := by decide
      have hsx := hall _ h9
      rw [hw1] at hsx
      have w9 : IntKind.i64.wrap (((x.text.length % 9 : Nat) : Int) + 1) = ((x.text.length % 9 + 1 : Nat) : Int) := by rw [IntKind.wrap_i64]; omega
      have hle9 : (0 ≤ ((x.text.length % 9 : Nat) : Int) ∧ ((x.text.length % 9 : Nat) : Int) ≤ ((x.text.length % 9 + 1 : Nat) : Int) ∧ ((x.text.length % 9 + 1 : Nat) : Int) ≤ (((ByteArray.mk #[61, 44, 58, 40, 41, 123, 125, 91, 93]).size : Nat) : Int)) := by
        rw [show (ByteArray.mk #[61, 44, 58, 40, 41, 123, 125, 91, 93]).size = 9 from rfl]; omega
      have hle8 : (((x.text.length % 9 + 1 : Nat) : Int) ≤ ((9 : Nat) : Int)) := by omega
      have hex9 := extract_eq ⟨#[61, 44, 58, 40, 41, 123, 125, 91, 93]⟩ (x.text.length % 9) 1
      rw [show (ByteArray.mk #[61, 44, 58, 40, 41, 123, 125, 91, 93]).data.toList = Tok.signsL from rfl, hsx] at hex9
      simp only [show ((0 : Nat) : Int) = 0 from rfl] at eS eC
      cases hcg : (!sg && x.k != 2 || x.ahead % 2 == 1) with
      | true =>
        rw [hcg, if_pos rfl] at hgg
        rw [hgg] at ga2
        rw [itW_step]
        simp only [a_gnomonlaw03_TokenLaid,s_gnomonlaw03_TokenLaid_l0_b,s_gnomonlaw03_TokenLaid_l1_b,s_gnomonlaw03_TokenLaid_l2_b,s_gnomonlaw03_TokenLaid_l3_b,s_gnomonlaw03_TokenLaid_l4_b, am0,am1,am2,am3,am4,am5,am6,am7,bl,i64,reduceIte,reduceCtorEq,Nat.reduceEqDiff,Nat.reduceLT,Nat.reduceLeDiff,Nat.reduceBEq,Nat.reduceAdd,fillA,splice,Nat.reduceMul,al0,al1,al2,al3,al4,al5,al6,al7,al8,al9,al10,al11,al12,al13,al14,al15,al16,al17,al18,al19,al20,al21,al22,al23,al24,al25,al26,al27,al28,al29,al30,al31,al32,al33,al34,amY,op_eqP, I, bl, I8, nl, hlt', hi1, hi2, hi3, hi4, hi5, hi6, hi7, z3, z9, z2, z7, tm3, tm9, tm2, td2, tm7, wa, wa2, e0, e1, e2, e2', eA, wk, wi, ga1, ga2, mk_app, mk_size, hm1, hm2, ww, List.length_append, List.length_nil, List.append_nil, Nat.add_zero, hcg, w9, xsub_strC, hle9, hle8, hex9, eS, eC]
      | false =>
        rw [hcg, if_neg (by simp)] at hgg
        subst hgg
        simp only [List.length_nil, Nat.add_zero, Nat.zero_add, show ((0 : Nat) : Int) = 0 from rfl] at eS hm1 hm2
        rw [itW_step]
        simp only [a_gnomonlaw03_TokenLaid,s_gnomonlaw03_TokenLaid_l0_b,s_gnomonlaw03_TokenLaid_l1_b,s_gnomonlaw03_TokenLaid_l2_b,s_gnomonlaw03_TokenLaid_l3_b,s_gnomonlaw03_TokenLaid_l4_b, am0,am1,am2,am3,am4,am5,am6,am7,bl,i64,reduceIte,reduceCtorEq,Nat.reduceEqDiff,Nat.reduceLT,Nat.reduceLeDiff,Nat.reduceBEq,Nat.reduceAdd,fillA,splice,Nat.reduceMul,al0,al1,al2,al3,al4,al5,al6,al7,al8,al9,al10,al11,al12,al13,al14,al15,al16,al17,al18,al19,al20,al21,al22,al23,al24,al25,al26,al27,al28,al29,al30,al31,al32,al33,al34,amY,op_eqP, I, bl, I8, nl, hlt', hi1, hi2, hi3, hi4, hi5, hi6, hi7, z3, z9, z2, z7, tm3, tm9, tm2, td2, tm7, wa, wa2, e0, e1, e2, e2', eA, wk, wi, ga1, ga2, mk_app, mk_size, hm1, hm2, ww, List.length_append, List.length_nil, List.append_nil, Nat.add_zero, hcg, w9, xsub_strC, hle9, hle8, hex9, eS, eC]
end
end Go.Proofs.YtfnkpedipicjnaaDoor
set_option maxRecDepth 100000
namespace Go.Proofs.YtfnkpedipicjnaaDoor
open Go.AM
section
variable {CT : Nat → Option CFun}
theorem laid_loop {base : Nat} {vl v1 v5 : V} {L : List Tok.W} (hv : ∀ H, RdW 3 H vl (L.map wR)) (hLl : L.length ≤ 100) (hu8 : ∀ x ∈ L, x.kind < 256 ∧ x.ahead < 256 ∧ x.text.length < 2 ^ 63) {F : Heap} (hbase : base ≤ F.length) (hg5 : ∀ H, KeepD F.length [] F H → Rd H v5 (Tok.gaps.map fun g => V.s (.string ⟨g.toArray⟩))) (hw5 : Wide1 v5) :
    ∀ (rest : List Tok.W) (i : Nat) (txt : List UInt8) (v7 : V) (R : List (List V)) (p : Nat × Nat) (sg : Bool) (H : Heap), L.drop i = rest → i ≤ L.length → KeepD F.length [] F H → AccW F.length 5 H v7 R → txt.length ≤ 51 * i → R.length = i → p.1 ≤ 1 + 51 * i → p.2 ≤ 1 + 51 * i →
    ∃ v' sg' H', itW (evC (callW CT) itW base s_gnomonlaw03_TokenLaid_l3) [] F.length (frOf 283 [(0, vl), (1, v1), (5, v5), (6, .s (.string ⟨txt.toArray⟩)), (7, v7), (8, I p.1), (9, I p.2), (10, bl sg), (11, I i)]) H = some (.ext 0, frOf 283 [(0, vl), (1, v1), (5, v5), (6, .s (.string ⟨(txt ++ Tok.layL (Tok.lays sg rest)).toArray⟩)), (7, v'), (8, I (Tok.spotL (Tok.layL (Tok.lays sg rest)) p).1), (9, I (Tok.spotL (Tok.layL (Tok.lays sg rest)) p).2), (10, bl sg'), (11, I L.length), (32, bl false)], H') ∧ KeepD F.length [] F H' ∧ AccW F.length 5 H' v' (R ++ (Tok.wantL (Tok.lays sg rest) p).map tV) := by
  have nl := fun H => (hv H).len
  simp only [List.length_map] at nl
  intro rest
  induction rest with
  | nil =>
    intro i txt v7 R p sg H hd hi hk ha htx hR hp1 hp2
    have hin : i = L.length := by
      have := congrArg List.length hd
      rw [List.length_drop] at this
      simp at this
      omega
    subst hin
    refine ⟨v7, sg, _, ?_, KeepD.tr hk (frOf 283 [(0, vl), (1, v1), (5, v5), (6, .s (.string ⟨txt.toArray⟩)), (7, v7), (8, I p.1), (9, I p.2), (10, bl sg), (11, I L.length), (32, bl false)]), by simpa [Tok.lays, Tok.wantL] using AccW.tr ha (fr := frOf 283 [(0, vl), (1, v1), (5, v5), (6, .s (.string ⟨txt.toArray⟩)), (7, v7), (8, I p.1), (9, I p.2), (10, bl sg), (11, I L.length), (32, bl false)]) (frOf_mem (s := 7) (by decide) rfl)⟩
    rw [itW_step]
    simp only [a_gnomonlaw03_TokenLaid,s_gnomonlaw03_TokenLaid_l0_b,s_gnomonlaw03_TokenLaid_l1_b,s_gnomonlaw03_TokenLaid_l2_b,s_gnomonlaw03_TokenLaid_l3_b,s_gnomonlaw03_TokenLaid_l4_b, am0,am1,am2,am3,am4,am5,am6,am7,bl,i64,reduceIte,reduceCtorEq,Nat.reduceEqDiff,Nat.reduceLT,Nat.reduceLeDiff,Nat.reduceBEq,Nat.reduceAdd,fillA,splice,Nat.reduceMul,al0,al1,al2,al3,al4,al5,al6,al7,al8,al9,al10,al11,al12,al13,al14,al15,al16,al17,al18,al19,al20,al21,al22,al23,al24,al25,al26,al27,al28,al29,al30,al31,al32,al33,al34,amY,op_eqP, I, bl, nl, Int.lt_irrefl, Tok.lays, Tok.layL, Tok.spotL, List.append_nil]
  | cons x rest ih =>
    intro i txt v7 R p sg H hd hi hk ha htx hR hp1 hp2
    have hx : L[i]? = some x := by have := congrArg (·[0]?) hd; simp only [List.getElem?_drop] at this; exact this
    have hlt : i < L.length := (List.getElem?_eq_some_iff.1 hx).1
    have hd' : L.drop (i + 1) = rest := by
      have := congrArg (List.drop 1) hd
      simpa [List.drop_drop] using this
    have hk3 : x.k < 3 := Nat.mod_lt _ (by decide)
    have rd : ∃ v' H', itW (evC (callW CT) itW base s_gnomonlaw03_TokenLaid_l3) [] F.length (frOf 283 [(0, vl), (1, v1), (5, v5), (6, .s (.string ⟨txt.toArray⟩)), (7, v7), (8, I p.1), (9, I p.2), (10, bl sg), (11, I i)]) H = itW (evC (callW CT) itW base s_gnomonlaw03_TokenLaid_l3) [] F.length (frOf 283 [(0, vl), (1, v1), (5, v5), (6, .s (.string ⟨(txt ++ x.gap sg ++ x.word.1).toArray⟩)), (7, v'), (8, I (Tok.spotL (x.gap sg) p).1), (9, I ((Tok.spotL (x.gap sg) p).2 + x.word.1.length : Nat)), (10, bl (x.k == 2)), (11, I (i + 1 : Nat))]) H' ∧ KeepD F.length [] F H' ∧ AccW F.length 5 H' v' (R ++ [tV ⟨x.k + 1, x.word.1, x.word.2, (Tok.spotL (x.gap sg) p).1, (Tok.spotL (x.gap sg) p).2⟩]) := by
      rcases Nat.lt_or_ge x.k 1 with h | h
      · exact laid_round0 hv hLl hu8 hbase hg5 hw5 hx hk ha htx hR hp1 hp2 (by omega)
      · rcases Nat.lt_or_ge x.k 2 with h2 | h2
        · exact laid_round1 hv hLl hu8 hbase hg5 hw5 hx hk ha htx hR hp1 hp2 (by omega)
        · exact laid_round2 hv hLl hu8 hbase hg5 hw5 hx hk ha htx hR hp1 hp2 (by omega)
    obtain ⟨v', H1, e, k1, a1⟩ := rd
    have hgl := Tok.gap_len x sg
    have hwl := Tok.word_len x
    have hsp := spotL_le (x.gap sg) p
    have hfl := Tok.spotL_flat x.word.1 (Tok.spotL (x.gap sg) p) (Tok.word_flat (Tok.word_ok x))
    obtain ⟨v2, sg', H2, e2, k2, a2⟩ := ih (i + 1) (txt ++ x.gap sg ++ x.word.1) v' _ ((Tok.spotL (x.gap sg) p).1, (Tok.spotL (x.gap sg) p).2 + x.word.1.length) (x.k == 2) H1 hd' (by omega) k1 a1 (by simp; omega) (by simp [hR]) (by simp only; omega) (by simp only; omega)
    refine ⟨v2, sg', H2, ?_, k2, ?_⟩
    · rw [e, e2]
      simp only [Tok.lays, Tok.layL, Tok.spotL_app, hfl, List.append_assoc]
    · simp only [Tok.lays, Tok.wantL, List.map_cons, Tok.spotL_app, hfl]
      rw [List.append_assoc, List.singleton_append] at a2
      exact a2
theorem laid_same (base : Nat) {v1 v2 : V} {H : Heap} {ts : List Tok.T} (h1 : RdW 5 H v1 (ts.map tV)) (h2 : RdW 5 H v2 (ts.map tV)) (hn : ts.length < 2 ^ 60) : ∀ (n j : Nat), j + n = ts.length →
    itW (evC (callW CT) itW base s_gnomonlaw03_TokenLaid_l4) [] H.length (frOf 283 [(7, v2), (21, v1), (24, I j)]) H = some (.ext 9, frOf 283 [(7, v2), (21, v1), (24, I ts.length), (270, bl false)], H) := by
  have e1 := h1.len
  have e2 := h2.len
  rw [List.length_map] at e1 e2
  intro n
  induction n with
  | zero =>
    intro j hj
    obtain rfl : j = ts.length := by omega
    rw [itW_step]
    simp only [a_gnomonlaw03_TokenLaid,s_gnomonlaw03_TokenLaid_l0_b,s_gnomonlaw03_TokenLaid_l1_b,s_gnomonlaw03_TokenLaid_l2_b,s_gnomonlaw03_TokenLaid_l3_b,s_gnomonlaw03_TokenLaid_l4_b, am0,am1,am2,am3,am4,am5,am6,am7,bl,i64,reduceIte,reduceCtorEq,Nat.reduceEqDiff,Nat.reduceLT,Nat.reduceLeDiff,Nat.reduceBEq,Nat.reduceAdd,fillA,splice,Nat.reduceMul,al0,al1,al2,al3,al4,al5,al6,al7,al8,al9,al10,al11,al12,al13,al14,al15,al16,al17,al18,al19,al20,al21,al22,al23,al24,al25,al26,al27,al28,al29,al30,al31,al32,al33,al34,amY,op_eqP, I, e1, e2, Int.lt_irrefl]
  | succ n ih =>
    intro j hj
    have hlt : j < ts.length := by omega
    have hlt' : ((j : Int) < (ts.length : Int)) := by omega
    have w := w64_nat (n := j) (by omega)
    have hrow : (ts.map tV)[j]? = some (tV ts[j]) := by simp [hlt]
    obtain ⟨a, a1, a2, _⟩ := h1.at' j _ hrow
    obtain ⟨c, c1, c2, _⟩ := h2.at' j _ hrow
    have hen := ih (j + 1) (by omega)
    rw [itW_step]
    simp only [a_gnomonlaw03_TokenLaid,s_gnomonlaw03_TokenLaid_l0_b,s_gnomonlaw03_TokenLaid_l1_b,s_gnomonlaw03_TokenLaid_l2_b,s_gnomonlaw03_TokenLaid_l3_b,s_gnomonlaw03_TokenLaid_l4_b, am0,am1,am2,am3,am4,am5,am6,am7,bl,i64,reduceIte,reduceCtorEq,Nat.reduceEqDiff,Nat.reduceLT,Nat.reduceLeDiff,Nat.reduceBEq,Nat.reduceAdd,fillA,splice,Nat.reduceMul,al0,al1,al2,al3,al4,al5,al6,al7,al8,al9,al10,al11,al12,al13,al14,al15,al16,al17,al18,al19,al20,al21,al22,al23,al24,al25,al26,al27,al28,al29,al30,al31,al32,al33,al34,amY,op_eqP, I, e1, e2, hlt', w, a1, a2, c1, c2, tok_eq, decide_true]
    simp only [I] at hen
    exact hen
theorem lay_len2 : ∀ (l : List Tok.W) (sg : Bool) (p : Nat × Nat), (Tok.wantL (Tok.lays sg l) p).length = l.length
  | [], _, _ => rfl
  | x :: l, sg, p => by simp only [Tok.lays, Tok.wantL, List.length_cons, lay_len2 l]
end
end Go.Proofs.YtfnkpedipicjnaaDoor
set_option maxRecDepth 100000
namespace Go.Proofs.YtfnkpedipicjnaaDoor
open Go.AM
section
variable {CT : Nat → Option CFun}
theorem laid_law (hT : CT k_gnomonlaw03_TokenLaid = some (.code s_gnomonlaw03_TokenLaid)) (hL : CT k_token_Lex = some (.code s_token_Lex)) (T : TL CT) (hxx : ∀ base H, callW CT (.fn k_gnomonlaw03_lexes [] []) [] base H = some (bl true, H)) {vl : V} {L : List Tok.W} (hv : ∀ H, RdW 3 H vl (L.map wR)) (hu8 : ∀ x ∈ L, x.kind < 256 ∧ x.ahead < 256 ∧ x.text.length < 2 ^ 63) (c : Nat) :
    ∃ H', callW CT (.fn k_gnomonlaw03_TokenLaid [] []) [vl, .s (.int .u8 c)] 0 [] = some (bl true, H') := by
  have nl := fun H => (hv H).len
  simp only [List.length_map] at nl
  by_cases hl : 100 < L.length
  · have hg : decide ((L.length : Int) > 100) = true := by rw [decide_eq_true_iff]; omega
    refine ⟨[], ?_⟩
    refine callW_fn (c := s_gnomonlaw03_TokenLaid) hT (by simp [s_gnomonlaw03_TokenLaid]) ?_
    simp only [s_gnomonlaw03_TokenLaid, a_gnomonlaw03_TokenLaid,s_gnomonlaw03_TokenLaid_l0_b,s_gnomonlaw03_TokenLaid_l1_b,s_gnomonlaw03_TokenLaid_l2_b,s_gnomonlaw03_TokenLaid_l3_b,s_gnomonlaw03_TokenLaid_l4_b, am0,am1,am2,am3,am4,am5,am6,am7,bl,i64,reduceIte,reduceCtorEq,Nat.reduceEqDiff,Nat.reduceLT,Nat.reduceLeDiff,Nat.reduceBEq,Nat.reduceAdd,fillA,splice,Nat.reduceMul,al0,al1,al2,al3,al4,al5,al6,al7,al8,al9,al10,al11,al12,al13,al14,al15,al16,al17,al18,al19,al20,al21,al22,al23,al24,al25,al26,al27,al28,al29,al30,al31,al32,al33,al34,amY,op_eqP, nl, hg]
  · have hg : decide ((L.length : Int) > 100) = false := by rw [decide_eq_false_iff_not]; omega
    obtain ⟨F, hF⟩ : ∃ F, [Ob.cells 0 (Tok.gaps.map fun g => V.s (.string ⟨g.toArray⟩))] = F := ⟨_, rfl⟩
    have lF : F.length = 1 := by rw [← hF]; rfl
    have gF : getC F 0 0 = some (Tok.gaps.map fun g => V.s (.string ⟨g.toArray⟩)) := by rw [← hF]; rfl
    have hg5 : ∀ H, KeepD F.length [] F H → Rd H (.sl 0 0 0 7 1) (Tok.gaps.map fun g => V.s (.string ⟨g.toArray⟩)) := fun H k => by
      have := Rd.sl (k.getC gF (by omega) (by simp)) (off := 0) (n := 7) (by decide)
      rwa [List.drop_zero, List.take_of_length_le (by decide)] at this
    have hFx : [Ob.cells 0 [V.s (.string ⟨#[32]⟩), V.s (.string ⟨#[9]⟩), V.s (.string ⟨#[10]⟩), V.s (.string ⟨#[13, 10]⟩), V.s (.string ⟨#[32, 59, 32, 97, 32, 40, 49, 32, 45, 10]⟩), V.s (.string ⟨#[10, 10, 32]⟩), V.s (.string ⟨#[59, 10]⟩)]] = F := hF
    obtain ⟨v', sg', H1, eLp, k1, a1⟩ := laid_loop (CT := CT) (base := 0) (v1 := .s (.int .u8 c)) (v5 := .sl 0 0 0 7 1) hv (by omega) hu8 (Nat.zero_le _) hg5 trivial L 0 [] nilS [] (1, 1) true F rfl (Nat.zero_le _) (KeepD.refl [] F) (AccW.start _ _ _) (Nat.le_refl _) rfl (by simp) (by simp)
    obtain ⟨W, hW⟩ : ∃ W, Tok.wantL (Tok.lays true L) (1, 1) = W := ⟨_, rfl⟩
    have lW : W.length = L.length := by rw [← hW]; exact lay_len2 _ _ _
    obtain ⟨txt, htx⟩ : ∃ txt, Tok.layL (Tok.lays true L) = txt := ⟨_, rfl⟩
    have ltx : txt.length ≤ 51 * L.length := by rw [← htx]; exact Tok.lay_len L true
    obtain ⟨p, hp⟩ : ∃ p, Tok.spotL txt (1, 1) = p := ⟨_, rfl⟩
    have hpl := spotL_le txt (1, 1)
    rw [hp] at hpl
    simp only at hpl
    have hlay := fun {e : List UInt8} (he : e ∈ Tok.tails) => Tok.lex_lay he (Tok.lays true L) true (1, 1) (Tok.lays_ok L true)
    simp only [hW, htx, hp] at hlay eLp a1
    rw [List.nil_append] at a1 eLp
    have hHl := k1.1
    have z2 : ((2 : Int) = 0) = False := by decide
    have tm2 : ((c : Int)).tmod 2 = ((c % 2 : Nat) : Int) := rfl
    have eA : (((c % 2 : Nat) : Int) == 1) = (c % 2 == 1) := by rw [Bool.eq_iff_iff, beq_iff_eq, beq_iff_eq]; omega
    cases hb : c % 2 == 1 with
    | false =>
      have hlx := hlay (e := []) (by decide)
      obtain ⟨ts, hts⟩ : ∃ ts, W ++ [(⟨4, [], 0, p.1, p.2 + ([] : List UInt8).length⟩ : Tok.T)] = ts := ⟨_, rfl⟩
      rw [hts] at hlx
      have lts : ts.length = L.length + 1 := by rw [← hts]; simp [lW]
      obtain ⟨v2, C, eC, aC, kC⟩ := AccW.app1 a1 (Nat.zero_le _) hHl (base := 0) (row := tV ⟨4, [], 0, p.1, p.2 + ([] : List UInt8).length⟩) rfl rfl (by simp; omega)
      have hrows : W.map tV ++ [tV ⟨4, [], 0, p.1, p.2 + ([] : List UInt8).length⟩] = ts.map tV := by rw [← hts]; simp
      rw [hrows] at aC
      have eC' : appendV (H1 ++ [Ob.cells 0 [V.s (.int .u8 4), V.s (.string ⟨#[]⟩), V.s (.int .i64 0), V.s (.int .i64 p.1), V.s (.int .i64 p.2)]]) 0 5 48 v' (.sl H1.length 0 0 1 5) = some (v2, C) := eC
      have hq : lexR (txt ++ []) = (ts, (0, 0), 0) := by
        rw [lexR_small (by rw [List.length_append]; simp; omega), hlx]
      obtain ⟨q, hqq⟩ : ∃ q, lexR (txt ++ []) = q := ⟨_, rfl⟩
      obtain ⟨v3, D, eD, aD, kD⟩ := lex_fun hL T 0 C (Nat.zero_le _) ⟨(txt ++ []).toArray⟩ q hqq
      rw [hqq] at hq
      have q1 : q.1 = ts := by rw [hq]
      have z1 : (((q.2.2 : Nat) : Int) != 0) = false := by rw [hq]; rfl
      have s1 : ((q.2.1.1 : Int) == 0) = true := by rw [hq]; rfl
      have s2 : ((q.2.1.2 : Int) == 0) = true := by rw [hq]; rfl
      rw [q1] at aD
      obtain ⟨E, hE⟩ : ∃ E, D ++ [Ob.cells 0 [I q.2.1.1, I q.2.1.2]] = E := ⟨_, rfl⟩
      have lE : E.length = D.length + 1 := by rw [← hE]; simp
      have kDE : KeepD D.length [] D E := ⟨by omega, fun id h1 _ => by rw [← hE, List.getElem?_append_left h1]⟩
      have gE : getC E D.length 0 = some [I q.2.1.1, I q.2.1.2] := by rw [← hE]; exact getC_new D 0 _
      have r3 := (aD.d kDE).rd
      have r2 := ((aC.d kD).d kDE).rd
      have n3 := r3.len
      have n2 := r2.len
      rw [List.length_map] at n3 n2
      have hsm := laid_same (CT := CT) 0 r3 r2 (by omega) ts.length 0 (by omega)
      rw [List.append_nil] at eD
      simp only [I, show ((0 : Nat) : Int) = 0 from rfl] at eD hE gE hsm
      simp only [I, bl, nilS, show ((0 : Nat) : Int) = 0 from rfl, show ((1 : Nat) : Int) = 1 from rfl] at eLp
      refine ⟨_, callW_fn (c := s_gnomonlaw03_TokenLaid) hT (r := (bl true, E)) (by simp [s_gnomonlaw03_TokenLaid]) ?_⟩
      simp only [s_gnomonlaw03_TokenLaid, nilS, bl, I, a_gnomonlaw03_TokenLaid,s_gnomonlaw03_TokenLaid_l0_b,s_gnomonlaw03_TokenLaid_l1_b,s_gnomonlaw03_TokenLaid_l2_b,s_gnomonlaw03_TokenLaid_l3_b,s_gnomonlaw03_TokenLaid_l4_b, am0,am1,am2,am3,am4,am5,am6,am7,bl,i64,reduceIte,reduceCtorEq,Nat.reduceEqDiff,Nat.reduceLT,Nat.reduceLeDiff,Nat.reduceBEq,Nat.reduceAdd,fillA,splice,Nat.reduceMul,al0,al1,al2,al3,al4,al5,al6,al7,al8,al9,al10,al11,al12,al13,al14,al15,al16,al17,al18,al19,al20,al21,al22,al23,al24,al25,al26,al27,al28,al29,al30,al31,al32,al33,al34,amY,op_eqP, nl, hg, hFx, eLp, z2, tm2, eA, hb, Nat.zero_le, eC', eD, hE, z1, gE, spot_eq, s1, s2, n3, n2, bne_self_eq_false, hsm, hxx]
    | true =>
      have hlx := hlay (e := [59, 32, 120]) (by decide)
      obtain ⟨ts, hts⟩ : ∃ ts, W ++ [(⟨4, [], 0, p.1, p.2 + ([59, 32, 120] : List UInt8).length⟩ : Tok.T)] = ts := ⟨_, rfl⟩
      rw [hts] at hlx
      have lts : ts.length = L.length + 1 := by rw [← hts]; simp [lW]
      obtain ⟨v2, C, eC, aC, kC⟩ := AccW.app1 a1 (Nat.zero_le _) hHl (base := 0) (row := tV ⟨4, [], 0, p.1, p.2 + ([59, 32, 120] : List UInt8).length⟩) rfl rfl (by simp; omega)
      have hrows : W.map tV ++ [tV ⟨4, [], 0, p.1, p.2 + ([59, 32, 120] : List UInt8).length⟩] = ts.map tV := by rw [← hts]; simp
      rw [hrows] at aC
      have eC' : appendV (H1 ++ [Ob.cells 0 [V.s (.int .u8 4), V.s (.string ⟨#[]⟩), V.s (.int .i64 0), V.s (.int .i64 p.1), V.s (.int .i64 (p.2 + 3 : Nat))]]) 0 5 48 v' (.sl H1.length 0 0 1 5) = some (v2, C) := eC
      have hq : lexR (txt ++ [59, 32, 120]) = (ts, (0, 0), 0) := by
        rw [lexR_small (by rw [List.length_append]; simp; omega), hlx]
      obtain ⟨q, hqq⟩ : ∃ q, lexR (txt ++ [59, 32, 120]) = q := ⟨_, rfl⟩
      obtain ⟨v3, D, eD, aD, kD⟩ := lex_fun hL T 0 C (Nat.zero_le _) ⟨(txt ++ [59, 32, 120]).toArray⟩ q hqq
      rw [hqq] at hq
      have q1 : q.1 = ts := by rw [hq]
      have z1 : (((q.2.2 : Nat) : Int) != 0) = false := by rw [hq]; rfl
      have s1 : ((q.2.1.1 : Int) == 0) = true := by rw [hq]; rfl
      have s2 : ((q.2.1.2 : Int) == 0) = true := by rw [hq]; rfl
      rw [q1] at aD
      obtain ⟨E, hE⟩ : ∃ E, D ++ [Ob.cells 0 [I q.2.1.1, I q.2.1.2]] = E := ⟨_, rfl⟩
      have lE : E.length = D.length + 1 := by rw [← hE]; simp
      have kDE : KeepD D.length [] D E := ⟨by omega, fun id h1 _ => by rw [← hE, List.getElem?_append_left h1]⟩
      have gE : getC E D.length 0 = some [I q.2.1.1, I q.2.1.2] := by rw [← hE]; exact getC_new D 0 _
      have r3 := (aD.d kDE).rd
      have r2 := ((aC.d kD).d kDE).rd
      have n3 := r3.len
      have n2 := r2.len
      rw [List.length_map] at n3 n2
      have hsm := laid_same (CT := CT) 0 r3 r2 (by omega) ts.length 0 (by omega)
      simp only [I, show ((0 : Nat) : Int) = 0 from rfl] at eD hE gE hsm
      simp only [I, bl, nilS, show ((0 : Nat) : Int) = 0 from rfl, show ((1 : Nat) : Int) = 1 from rfl] at eLp
      refine ⟨_, callW_fn (c := s_gnomonlaw03_TokenLaid) hT (r := (bl true, E)) (by simp [s_gnomonlaw03_TokenLaid]) ?_⟩
      have hm1 := max_no (n := txt.length + 3) (by omega)
      have ww : IntKind.i64.wrap ((p.2 : Int) + 3) = ((p.2 + 3 : Nat) : Int) := by rw [IntKind.wrap_i64]; omega
      simp only [s_gnomonlaw03_TokenLaid, nilS, bl, I, a_gnomonlaw03_TokenLaid,s_gnomonlaw03_TokenLaid_l0_b,s_gnomonlaw03_TokenLaid_l1_b,s_gnomonlaw03_TokenLaid_l2_b,s_gnomonlaw03_TokenLaid_l3_b,s_gnomonlaw03_TokenLaid_l4_b, am0,am1,am2,am3,am4,am5,am6,am7,bl,i64,reduceIte,reduceCtorEq,Nat.reduceEqDiff,Nat.reduceLT,Nat.reduceLeDiff,Nat.reduceBEq,Nat.reduceAdd,fillA,splice,Nat.reduceMul,al0,al1,al2,al3,al4,al5,al6,al7,al8,al9,al10,al11,al12,al13,al14,al15,al16,al17,al18,al19,al20,al21,al22,al23,al24,al25,al26,al27,al28,al29,al30,al31,al32,al33,al34,amY,op_eqP, nl, hg, hFx, eLp, z2, tm2, eA, hb, Nat.zero_le, eC', eD, hE, z1, gE, spot_eq, s1, s2, n3, n2, bne_self_eq_false, hsm, hxx, mk_app, mk_size, List.length_cons, List.length_nil, Nat.zero_add, Nat.reduceAdd, hm1, ww]
end
end Go.Proofs.YtfnkpedipicjnaaDoor
set_option maxRecDepth 100000
namespace Go.Proofs.YtfnkpedipicjnaaDoor
open Go.AM
def WOk (v : V) : Prop := ∃ L : List Tok.W, (∀ H, RdW 3 H v (L.map wR)) ∧ ∀ x ∈ L, x.kind < 256 ∧ x.ahead < 256 ∧ x.text.length < 2 ^ 63
theorem word_of {r : List V} (h : IsV (.st [.int .u8, .str, .int .u8]) r) : ∃ x : Tok.W, r = wR x ∧ x.kind < 256 ∧ x.ahead < 256 ∧ x.text.length < 2 ^ 63 := by
  obtain ⟨_, _, rfl, ⟨k, rfl, hk1, hk2⟩, _, _, rfl, ⟨b, rfl, hb⟩, _, _, rfl, ⟨a, rfl, ha1, ha2⟩, rfl⟩ := h
  rw [show IntKind.u8.min = 0 from rfl] at hk1 ha1
  rw [show IntKind.u8.max = 255 from rfl] at hk2 ha2
  refine ⟨⟨k.toNat, b.data.toList, a.toNat⟩, ?_, by simp only; omega, by simp only; omega, ?_⟩
  · simp only [wR, Int.toNat_of_nonneg hk1, Int.toNat_of_nonneg ha1]
    rfl
  · simp only
    show b.size < 2 ^ 63
    simp only [maxLen] at hb
    omega
theorem words_of : ∀ es : List (List V), (∀ x ∈ es, IsV (.st [.int .u8, .str, .int .u8]) x) → ∃ L : List Tok.W, es = L.map wR ∧ ∀ x ∈ L, x.kind < 256 ∧ x.ahead < 256 ∧ x.text.length < 2 ^ 63 := by
  intro es
  induction es with
  | nil => intro _; exact ⟨[], rfl, fun e h => by cases h⟩
  | cons r es ih =>
    intro h
    obtain ⟨e, rfl, he⟩ := word_of (h r List.mem_cons_self)
    obtain ⟨L, rfl, hL⟩ := ih fun x hx => h x (List.mem_cons_of_mem _ hx)
    refine ⟨e :: L, rfl, fun x hx => ?_⟩
    rcases List.mem_cons.1 hx with rfl | hx
    · exact he
    · exact hL x hx
theorem words_arg {v : List V} (h : IsV (.sl (.st [.int .u8, .str, .int .u8])) v) : ∃ u, v = [u] ∧ WOk u := by
  rcases h with rfl | ⟨es, rfl, hl, he⟩
  · exact ⟨nilS, rfl, [], fun H => RdW.nil 3 H, fun e h => by cases h⟩
  · obtain ⟨L, rfl, hL⟩ := words_of es he
    exact ⟨_, rfl, L, fun H => RdW.psl H (fun r hr => by obtain ⟨e, _, rfl⟩ := List.mem_map.1 hr; rfl), hL⟩
theorem u8_arg {v : List V} (h : IsV (.int .u8) v) : ∃ u, v = [u] ∧ ∃ c : Nat, u = .s (.int .u8 c) := by
  obtain ⟨n, rfl, h1, _⟩ := h
  rw [show IntKind.u8.min = 0 from rfl] at h1
  exact ⟨_, rfl, n.toNat, by rw [Int.toNat_of_nonneg h1]⟩
end Go.Proofs.YtfnkpedipicjnaaDoor
