/- Texts of the proof: TokS6, TokS3, TokS2, TokR1, TokR2, TokR3, TokR4, TokL1, TokL2, TokP6, TokL12, TokL13. -/
import Derived.Test.YtfnkpedipicjnaaDoorP0
import Derived.Test.YtfnkpedipicjnaaDoorP1
import Derived.Test.YtfnkpedipicjnaaDoorP2
import Derived.Test.YtfnkpedipicjnaaDoorP3
import Derived.Test.YtfnkpedipicjnaaDoorP4
set_option linter.all false
set_option maxRecDepth 100000
namespace Go.Proofs.YtfnkpedipicjnaaDoor
open Go.AM
abbrev k_gnomonlaw03_TokenKnown : Nat := 6
def s_gnomonlaw03_TokenKnown_r0_k : List Nat := [0, 1, 2, 3, 4, 5, 6, 7, 8, 9, 10, 11, 12, 13, 14, 15, 16, 17, 18, 19, 20, 21, 22, 23, 24, 25, 26, 27, 28, 29, 30, 31, 32, 33, 34, 35, 36, 37, 38, 39, 40, 41, 42, 43, 44, 45, 46, 47, 48, 49, 50, 51, 52, 53, 54, 55, 56, 57, 58, 59, 60, 61, 62, 63, 64, 65, 66, 67, 68, 69, 70, 71, 72, 73, 74, 75, 76, 77, 78, 79, 80, 81, 82, 83, 84, 85, 86, 87, 88, 89, 90, 91, 92, 93, 94, 95, 96, 97, 98, 99, 100, 101, 102, 103, 104, 105, 106, 107, 108, 109, 110, 111, 112, 113, 114, 115, 116, 117, 118, 119, 120, 121, 122, 123, 124, 125, 126, 127, 128, 129, 130, 131, 132, 133, 134, 135, 136, 137, 138, 139, 140, 141, 142, 143, 144, 145, 146, 147, 148, 149, 150, 151, 152, 153, 154, 155, 156, 157, 158, 159, 160, 161, 162, 163, 164, 165, 166, 167, 168, 169, 170, 171, 172, 173, 174, 175, 176, 177, 178, 179, 180, 181, 182, 183, 184, 185, 186, 187, 188, 189, 190, 191, 192, 193, 194, 195, 196, 197, 198, 199, 200, 201, 202, 203, 204, 205, 206, 207, 208, 209, 210, 211, 212, 213, 214, 215, 216, 217, 218, 219, 220, 221, 222, 223, 224, 225, 226, 227, 228, 229, 230, 231, 232, 233, 234, 235, 236, 237, 238, 239, 240, 241, 242, 243, 244, 245, 246, 247, 248, 249, 250, 251]
theorem s_gnomonlaw03_TokenKnown_r0_kT : killV s_gnomonlaw03_TokenKnown_r0_k (startV 252 [] 0) = [] := by kernel_rfl
def s_gnomonlaw03_TokenKnown_r0 : List AOper := [
  ⟨some 0, (.move (.c (.s (.bool false)))), none⟩]
theorem s_gnomonlaw03_TokenKnown_r0_tale (fr : List V) (H : Heap) : evTale (symAll s_gnomonlaw03_TokenKnown_r0 s_gnomonlaw03_TokenKnown_r0_k []) s_gnomonlaw03_TokenKnown_r0_k fr H = evTale (some (1, [], [])) s_gnomonlaw03_TokenKnown_r0_k fr H := tale_row (items := [.cc (.s (.bool false))]) (by kernel_rfl) fr H
def s_gnomonlaw03_TokenKnown_r1t2 : List AOper := [⟨some 1, (.move (.t 34)), none⟩]
def s_gnomonlaw03_TokenKnown_r1p1 : List AOper := [⟨some 34, (.buildSl 4 11 [(.s (.string ⟨#[]⟩)), (.s (.int .i64 0)), (.s (.int .i64 0)), (.s (.int .i64 0)), (.s (.string ⟨#[]⟩)), (.s (.int .i64 0)), (.s (.int .i64 0)), (.s (.int .i64 0)), (.s (.string ⟨#[]⟩)), (.s (.int .i64 0)), (.s (.int .i64 0)), (.s (.int .i64 0)), (.s (.string ⟨#[]⟩)), (.s (.int .i64 0)), (.s (.int .i64 0)), (.s (.int .i64 0)), (.s (.string ⟨#[]⟩)), (.s (.int .i64 0)), (.s (.int .i64 0)), (.s (.int .i64 0)), (.s (.string ⟨#[]⟩)), (.s (.int .i64 0)), (.s (.int .i64 0)), (.s (.int .i64 0)), (.s (.string ⟨#[]⟩)), (.s (.int .i64 0)), (.s (.int .i64 0)), (.s (.int .i64 0)), (.s (.string ⟨#[]⟩)), (.s (.int .i64 0)), (.s (.int .i64 0)), (.s (.int .i64 0)), (.s (.string ⟨#[]⟩)), (.s (.int .i64 0)), (.s (.int .i64 0)), (.s (.int .i64 0)), (.s (.string ⟨#[]⟩)), (.s (.int .i64 0)), (.s (.int .i64 0)), (.s (.int .i64 0)), (.s (.string ⟨#[]⟩)), (.s (.int .i64 0)), (.s (.int .i64 0)), (.s (.int .i64 0))] [(0, (.t 23)), (1, (.t 24)), (2, (.t 25)), (3, (.t 26)), (4, (.t 27)), (5, (.t 28)), (6, (.t 29)), (7, (.t 30)), (8, (.t 31)), (9, (.t 32)), (10, (.t 33))]), none⟩]
def s_gnomonlaw03_TokenKnown_r1t1 : List AOper := s_gnomonlaw03_TokenKnown_r1p1 ++ s_gnomonlaw03_TokenKnown_r1t2
def s_gnomonlaw03_TokenKnown_r1p0 : List AOper := [⟨some 23, (.build [(.s (.string ⟨#[]⟩)), (.s (.int .i64 0)), (.s (.int .i64 0)), (.s (.int .i64 0))] [(0, 1), (1, 1), (2, 1), (3, 1)] [(0, (.c (.s (.string ⟨#[48, 48, 55]⟩)))), (1, (.c (.s (.int .i64 31)))), (2, (.c (.s (.int .i64 1)))), (3, (.c (.s (.int .i64 1))))]), none⟩, ⟨some 24, (.build [(.s (.string ⟨#[]⟩)), (.s (.int .i64 0)), (.s (.int .i64 0)), (.s (.int .i64 0))] [(0, 1), (1, 1), (2, 1), (3, 1)] [(0, (.c (.s (.string ⟨#[49, 50, 51, 52, 53, 54, 55, 56, 57, 48]⟩)))), (1, (.c (.s (.int .i64 31)))), (2, (.c (.s (.int .i64 1)))), (3, (.c (.s (.int .i64 1))))]), none⟩, ⟨some 25, (.build [(.s (.string ⟨#[]⟩)), (.s (.int .i64 0)), (.s (.int .i64 0)), (.s (.int .i64 0))] [(0, 1), (1, 1), (2, 1), (3, 1)] [(0, (.c (.s (.string ⟨#[49, 97]⟩)))), (1, (.c (.s (.int .i64 31)))), (2, (.c (.s (.int .i64 1)))), (3, (.c (.s (.int .i64 1))))]), none⟩, ⟨some 26, (.build [(.s (.string ⟨#[]⟩)), (.s (.int .i64 0)), (.s (.int .i64 0)), (.s (.int .i64 0))] [(0, 1), (1, 1), (2, 1), (3, 1)] [(0, (.c (.s (.string ⟨#[49, 46]⟩)))), (1, (.c (.s (.int .i64 31)))), (2, (.c (.s (.int .i64 1)))), (3, (.c (.s (.int .i64 1))))]), none⟩, ⟨some 27, (.build [(.s (.string ⟨#[]⟩)), (.s (.int .i64 0)), (.s (.int .i64 0)), (.s (.int .i64 0))] [(0, 1), (1, 1), (2, 1), (3, 1)] [(0, (.c (.s (.string ⟨#[97, 45, 98]⟩)))), (1, (.c (.s (.int .i64 30)))), (2, (.c (.s (.int .i64 1)))), (3, (.c (.s (.int .i64 2))))]), none⟩, ⟨some 28, (.build [(.s (.string ⟨#[]⟩)), (.s (.int .i64 0)), (.s (.int .i64 0)), (.s (.int .i64 0))] [(0, 1), (1, 1), (2, 1), (3, 1)] [(0, (.c (.s (.string ⟨#[46]⟩)))), (1, (.c (.s (.int .i64 30)))), (2, (.c (.s (.int .i64 1)))), (3, (.c (.s (.int .i64 1))))]), none⟩, ⟨some 29, (.build [(.s (.string ⟨#[]⟩)), (.s (.int .i64 0)), (.s (.int .i64 0)), (.s (.int .i64 0))] [(0, 1), (1, 1), (2, 1), (3, 1)] [(0, (.c (.s (.string ⟨#[97, 10, 32, 49, 95]⟩)))), (1, (.c (.s (.int .i64 31)))), (2, (.c (.s (.int .i64 2)))), (3, (.c (.s (.int .i64 2))))]), none⟩, ⟨some 30, (.build [(.s (.string ⟨#[]⟩)), (.s (.int .i64 0)), (.s (.int .i64 0)), (.s (.int .i64 0))] [(0, 1), (1, 1), (2, 1), (3, 1)] [(0, (.c (.s (.string ⟨#[59, 32, 45, 10, 9, 45]⟩)))), (1, (.c (.s (.int .i64 30)))), (2, (.c (.s (.int .i64 2)))), (3, (.c (.s (.int .i64 2))))]), none⟩, ⟨some 31, (.build [(.s (.string ⟨#[]⟩)), (.s (.int .i64 0)), (.s (.int .i64 0)), (.s (.int .i64 0))] [(0, 1), (1, 1), (2, 1), (3, 1)] [(0, (.c (.s (.string ⟨#[128]⟩)))), (1, (.c (.s (.int .i64 30)))), (2, (.c (.s (.int .i64 1)))), (3, (.c (.s (.int .i64 1))))]), none⟩, ⟨some 32, (.build [(.s (.string ⟨#[]⟩)), (.s (.int .i64 0)), (.s (.int .i64 0)), (.s (.int .i64 0))] [(0, 1), (1, 1), (2, 1), (3, 1)] [(0, (.c (.s (.string ⟨#[97, 0]⟩)))), (1, (.c (.s (.int .i64 30)))), (2, (.c (.s (.int .i64 1)))), (3, (.c (.s (.int .i64 2))))]), none⟩, ⟨some 33, (.build [(.s (.string ⟨#[]⟩)), (.s (.int .i64 0)), (.s (.int .i64 0)), (.s (.int .i64 0))] [(0, 1), (1, 1), (2, 1), (3, 1)] [(0, (.c (.s (.string ⟨#[48, 48]⟩)))), (1, (.c (.s (.int .i64 31)))), (2, (.c (.s (.int .i64 1)))), (3, (.c (.s (.int .i64 1))))]), none⟩]
def s_gnomonlaw03_TokenKnown_r1 : List AOper := s_gnomonlaw03_TokenKnown_r1p0 ++ s_gnomonlaw03_TokenKnown_r1t1
theorem s_gnomonlaw03_TokenKnown_r1p0_tale (fr : List V) (H : Heap) : evTale (symAll s_gnomonlaw03_TokenKnown_r1p0 [] [23, 24, 25, 26, 27, 28, 29, 30, 31, 32, 33]) [] fr H = evTale (some (34, [], [(23, (.op (.build [(.s (.string ⟨#[]⟩)), (.s (.int .i64 0)), (.s (.int .i64 0)), (.s (.int .i64 0))] [(0, 1), (1, 1), (2, 1), (3, 1)] [(0, (.c (.s (.string ⟨#[48, 48, 55]⟩)))), (1, (.c (.s (.int .i64 31)))), (2, (.c (.s (.int .i64 1)))), (3, (.c (.s (.int .i64 1))))]) [(.c (.s (.string ⟨#[48, 48, 55]⟩))), (.c (.s (.int .i64 31))), (.c (.s (.int .i64 1))), (.c (.s (.int .i64 1)))])), (24, (.op (.build [(.s (.string ⟨#[]⟩)), (.s (.int .i64 0)), (.s (.int .i64 0)), (.s (.int .i64 0))] [(0, 1), (1, 1), (2, 1), (3, 1)] [(0, (.c (.s (.string ⟨#[49, 50, 51, 52, 53, 54, 55, 56, 57, 48]⟩)))), (1, (.c (.s (.int .i64 31)))), (2, (.c (.s (.int .i64 1)))), (3, (.c (.s (.int .i64 1))))]) [(.c (.s (.string ⟨#[49, 50, 51, 52, 53, 54, 55, 56, 57, 48]⟩))), (.c (.s (.int .i64 31))), (.c (.s (.int .i64 1))), (.c (.s (.int .i64 1)))])), (25, (.op (.build [(.s (.string ⟨#[]⟩)), (.s (.int .i64 0)), (.s (.int .i64 0)), (.s (.int .i64 0))] [(0, 1), (1, 1), (2, 1), (3, 1)] [(0, (.c (.s (.string ⟨#[49, 97]⟩)))), (1, (.c (.s (.int .i64 31)))), (2, (.c (.s (.int .i64 1)))), (3, (.c (.s (.int .i64 1))))]) [(.c (.s (.string ⟨#[49, 97]⟩))), (.c (.s (.int .i64 31))), (.c (.s (.int .i64 1))), (.c (.s (.int .i64 1)))])), (26, (.op (.build [(.s (.string ⟨#[]⟩)), (.s (.int .i64 0)), (.s (.int .i64 0)), (.s (.int .i64 0))] [(0, 1), (1, 1), (2, 1), (3, 1)] [(0, (.c (.s (.string ⟨#[49, 46]⟩)))), (1, (.c (.s (.int .i64 31)))), (2, (.c (.s (.int .i64 1)))), (3, (.c (.s (.int .i64 1))))]) [(.c (.s (.string ⟨#[49, 46]⟩))), (.c (.s (.int .i64 31))), (.c (.s (.int .i64 1))), (.c (.s (.int .i64 1)))])), (27, (.op (.build [(.s (.string ⟨#[]⟩)), (.s (.int .i64 0)), (.s (.int .i64 0)), (.s (.int .i64 0))] [(0, 1), (1, 1), (2, 1), (3, 1)] [(0, (.c (.s (.string ⟨#[97, 45, 98]⟩)))), (1, (.c (.s (.int .i64 30)))), (2, (.c (.s (.int .i64 1)))), (3, (.c (.s (.int .i64 2))))]) [(.c (.s (.string ⟨#[97, 45, 98]⟩))), (.c (.s (.int .i64 30))), (.c (.s (.int .i64 1))), (.c (.s (.int .i64 2)))])), (28, (.op (.build [(.s (.string ⟨#[]⟩)), (.s (.int .i64 0)), (.s (.int .i64 0)), (.s (.int .i64 0))] [(0, 1), (1, 1), (2, 1), (3, 1)] [(0, (.c (.s (.string ⟨#[46]⟩)))), (1, (.c (.s (.int .i64 30)))), (2, (.c (.s (.int .i64 1)))), (3, (.c (.s (.int .i64 1))))]) [(.c (.s (.string ⟨#[46]⟩))), (.c (.s (.int .i64 30))), (.c (.s (.int .i64 1))), (.c (.s (.int .i64 1)))])), (29, (.op (.build [(.s (.string ⟨#[]⟩)), (.s (.int .i64 0)), (.s (.int .i64 0)), (.s (.int .i64 0))] [(0, 1), (1, 1), (2, 1), (3, 1)] [(0, (.c (.s (.string ⟨#[97, 10, 32, 49, 95]⟩)))), (1, (.c (.s (.int .i64 31)))), (2, (.c (.s (.int .i64 2)))), (3, (.c (.s (.int .i64 2))))]) [(.c (.s (.string ⟨#[97, 10, 32, 49, 95]⟩))), (.c (.s (.int .i64 31))), (.c (.s (.int .i64 2))), (.c (.s (.int .i64 2)))])), (30, (.op (.build [(.s (.string ⟨#[]⟩)), (.s (.int .i64 0)), (.s (.int .i64 0)), (.s (.int .i64 0))] [(0, 1), (1, 1), (2, 1), (3, 1)] [(0, (.c (.s (.string ⟨#[59, 32, 45, 10, 9, 45]⟩)))), (1, (.c (.s (.int .i64 30)))), (2, (.c (.s (.int .i64 2)))), (3, (.c (.s (.int .i64 2))))]) [(.c (.s (.string ⟨#[59, 32, 45, 10, 9, 45]⟩))), (.c (.s (.int .i64 30))), (.c (.s (.int .i64 2))), (.c (.s (.int .i64 2)))])), (31, (.op (.build [(.s (.string ⟨#[]⟩)), (.s (.int .i64 0)), (.s (.int .i64 0)), (.s (.int .i64 0))] [(0, 1), (1, 1), (2, 1), (3, 1)] [(0, (.c (.s (.string ⟨#[128]⟩)))), (1, (.c (.s (.int .i64 30)))), (2, (.c (.s (.int .i64 1)))), (3, (.c (.s (.int .i64 1))))]) [(.c (.s (.string ⟨#[128]⟩))), (.c (.s (.int .i64 30))), (.c (.s (.int .i64 1))), (.c (.s (.int .i64 1)))])), (32, (.op (.build [(.s (.string ⟨#[]⟩)), (.s (.int .i64 0)), (.s (.int .i64 0)), (.s (.int .i64 0))] [(0, 1), (1, 1), (2, 1), (3, 1)] [(0, (.c (.s (.string ⟨#[97, 0]⟩)))), (1, (.c (.s (.int .i64 30)))), (2, (.c (.s (.int .i64 1)))), (3, (.c (.s (.int .i64 2))))]) [(.c (.s (.string ⟨#[97, 0]⟩))), (.c (.s (.int .i64 30))), (.c (.s (.int .i64 1))), (.c (.s (.int .i64 2)))])), (33, (.op (.build [(.s (.string ⟨#[]⟩)), (.s (.int .i64 0)), (.s (.int .i64 0)), (.s (.int .i64 0))] [(0, 1), (1, 1), (2, 1), (3, 1)] [(0, (.c (.s (.string ⟨#[48, 48]⟩)))), (1, (.c (.s (.int .i64 31)))), (2, (.c (.s (.int .i64 1)))), (3, (.c (.s (.int .i64 1))))]) [(.c (.s (.string ⟨#[48, 48]⟩))), (.c (.s (.int .i64 31))), (.c (.s (.int .i64 1))), (.c (.s (.int .i64 1)))]))])) [] fr H := tale_row (items := [.sub 0 [] [], .sub 1 [] [], .sub 2 [] [], .sub 3 [] [], .sub 4 [] [], .sub 5 [] [], .sub 6 [] [], .sub 7 [] [], .sub 8 [] [], .sub 9 [] [], .sub 10 [] []]) (by kernel_rfl) fr H
theorem s_gnomonlaw03_TokenKnown_r1_x (call : CallF) (it : IterF) (base : Nat) (f : List V) (H : Heap) : evC call it base (.region s_gnomonlaw03_TokenKnown_r1 [] [23, 24, 25, 26, 27, 28, 29, 30, 31, 32, 33, 34]) f H = segC call it base s_gnomonlaw03_TokenKnown_r1t1 [23, 24, 25, 26, 27, 28, 29, 30, 31, 32, 33, 34] H (evTale (symAll s_gnomonlaw03_TokenKnown_r1p0 [] [23, 24, 25, 26, 27, 28, 29, 30, 31, 32, 33]) [] f H) (origRow call it base s_gnomonlaw03_TokenKnown_r1 [23, 24, 25, 26, 27, 28, 29, 30, 31, 32, 33, 34] f H) := row_seg call it base s_gnomonlaw03_TokenKnown_r1p0 s_gnomonlaw03_TokenKnown_r1t1 (by kernel_rfl) f H
theorem s_gnomonlaw03_TokenKnown_r1t1_x (call : CallF) (it : IterF) (base : Nat) (f : List V) (H : Heap) : evC call it base (.region s_gnomonlaw03_TokenKnown_r1t1 [] [23, 24, 25, 26, 27, 28, 29, 30, 31, 32, 33, 34]) f H = thenC call it base (.region s_gnomonlaw03_TokenKnown_r1t2 [] [23, 24, 25, 26, 27, 28, 29, 30, 31, 32, 33, 34]) (opsC [] s_gnomonlaw03_TokenKnown_r1p1 [23, 24, 25, 26, 27, 28, 29, 30, 31, 32, 33] (evOps call base [⟨some 34, (.buildSl 4 11 [(.s (.string ⟨#[]⟩)), (.s (.int .i64 0)), (.s (.int .i64 0)), (.s (.int .i64 0)), (.s (.string ⟨#[]⟩)), (.s (.int .i64 0)), (.s (.int .i64 0)), (.s (.int .i64 0)), (.s (.string ⟨#[]⟩)), (.s (.int .i64 0)), (.s (.int .i64 0)), (.s (.int .i64 0)), (.s (.string ⟨#[]⟩)), (.s (.int .i64 0)), (.s (.int .i64 0)), (.s (.int .i64 0)), (.s (.string ⟨#[]⟩)), (.s (.int .i64 0)), (.s (.int .i64 0)), (.s (.int .i64 0)), (.s (.string ⟨#[]⟩)), (.s (.int .i64 0)), (.s (.int .i64 0)), (.s (.int .i64 0)), (.s (.string ⟨#[]⟩)), (.s (.int .i64 0)), (.s (.int .i64 0)), (.s (.int .i64 0)), (.s (.string ⟨#[]⟩)), (.s (.int .i64 0)), (.s (.int .i64 0)), (.s (.int .i64 0)), (.s (.string ⟨#[]⟩)), (.s (.int .i64 0)), (.s (.int .i64 0)), (.s (.int .i64 0)), (.s (.string ⟨#[]⟩)), (.s (.int .i64 0)), (.s (.int .i64 0)), (.s (.int .i64 0)), (.s (.string ⟨#[]⟩)), (.s (.int .i64 0)), (.s (.int .i64 0)), (.s (.int .i64 0))] [(0, (.t 23)), (1, (.t 24)), (2, (.t 25)), (3, (.t 26)), (4, (.t 27)), (5, (.t 28)), (6, (.t 29)), (7, (.t 30)), (8, (.t 31)), (9, (.t 32)), (10, (.t 33))]), none⟩] f H)) := (row_op call it base s_gnomonlaw03_TokenKnown_r1p1 s_gnomonlaw03_TokenKnown_r1t2 (kc := [23, 24, 25, 26, 27, 28, 29, 30, 31, 32, 33]) (by kernel_rfl) f H).trans (by rw [row_ops]; rfl)
theorem s_gnomonlaw03_TokenKnown_r1t2_tale (fr : List V) (H : Heap) : evTale (symAll s_gnomonlaw03_TokenKnown_r1t2 [23, 24, 25, 26, 27, 28, 29, 30, 31, 32, 33, 34] [1]) [23, 24, 25, 26, 27, 28, 29, 30, 31, 32, 33, 34] fr H = evTale (some (2, [], [(1, (.t 34))])) [23, 24, 25, 26, 27, 28, 29, 30, 31, 32, 33, 34] fr H := tale_row (items := [.tt 34]) (by kernel_rfl) fr H
theorem s_gnomonlaw03_TokenKnown_r1t2_x (call : CallF) (it : IterF) (base : Nat) (f : List V) (H : Heap) : evC call it base (.region s_gnomonlaw03_TokenKnown_r1t2 [] [23, 24, 25, 26, 27, 28, 29, 30, 31, 32, 33, 34]) f H = segL H (evTale (symAll s_gnomonlaw03_TokenKnown_r1t2 [23, 24, 25, 26, 27, 28, 29, 30, 31, 32, 33, 34] [1]) [23, 24, 25, 26, 27, 28, 29, 30, 31, 32, 33, 34] f H) (origRow call it base s_gnomonlaw03_TokenKnown_r1t2 [23, 24, 25, 26, 27, 28, 29, 30, 31, 32, 33, 34] f H) := row_last call it base _ f H
def s_gnomonlaw03_TokenKnown_r2 : List AOper := [
  ⟨some 2, (.move (.c (.s (.int .i64 0)))), none⟩]
theorem s_gnomonlaw03_TokenKnown_r2_tale (fr : List V) (H : Heap) : evTale (symAll s_gnomonlaw03_TokenKnown_r2 [] [2]) [] fr H = evTale (some (3, [], [(2, (.c (.s (.int .i64 0))))])) [] fr H := tale_row (items := [.cc (.s (.int .i64 0))]) (by kernel_rfl) fr H
def s_gnomonlaw03_TokenKnown_r3 : List AOper := [
  ⟨some 35, (.move (.t 2)), none⟩,
  ⟨some 36, (.move (.t 1)), none⟩,
  ⟨some 37, (.lenS .s (.t 36)), none⟩,
  ⟨some 38, (.bin .lss (.t 35) (.t 37)), none⟩]
theorem s_gnomonlaw03_TokenKnown_r3_tale (fr : List V) (H : Heap) : evTale (symAll s_gnomonlaw03_TokenKnown_r3 [35, 36, 37] [38]) [35, 36, 37] fr H = evTale (some (39, [], [(38, (.op (.bin .lss (.t 0) (.t 1)) [(.t 2), (.op (.lenS .s (.t 0)) [(.t 1)])]))])) [35, 36, 37] fr H := tale_row (items := [.tt 2, .tt 1, .sub 0 [1] [], .sub 0 [] []]) (by kernel_rfl) fr H
def s_gnomonlaw03_TokenKnown_r4t6 : List AOper := [⟨some 5, (.move (.t 50)), none⟩]
def s_gnomonlaw03_TokenKnown_r4p5 : List AOper := [⟨none, (.store 2 (.t 4) (.t 49)), none⟩]
def s_gnomonlaw03_TokenKnown_r4t5 : List AOper := s_gnomonlaw03_TokenKnown_r4p5 ++ s_gnomonlaw03_TokenKnown_r4t6
def s_gnomonlaw03_TokenKnown_r4p4 : List AOper := [⟨some 3, (.move (.t 48)), none⟩]
def s_gnomonlaw03_TokenKnown_r4t4 : List AOper := s_gnomonlaw03_TokenKnown_r4p4 ++ s_gnomonlaw03_TokenKnown_r4t5
def s_gnomonlaw03_TokenKnown_r4p3 : List AOper := [⟨some 4, (.alloc [(.s (.int .i64 0)), (.s (.int .i64 0))]), none⟩]
def s_gnomonlaw03_TokenKnown_r4t3 : List AOper := s_gnomonlaw03_TokenKnown_r4p3 ++ s_gnomonlaw03_TokenKnown_r4t4
def s_gnomonlaw03_TokenKnown_r4p2 : List AOper := [⟨some 41, (.move (.t 47)), none⟩, ⟨some 48, (.extract (.t 41) 0), none⟩, ⟨some 49, (.extract (.t 41) 1), none⟩, ⟨some 50, (.extract (.t 41) 2), none⟩]
def s_gnomonlaw03_TokenKnown_r4t2 : List AOper := s_gnomonlaw03_TokenKnown_r4p2 ++ s_gnomonlaw03_TokenKnown_r4t3
def s_gnomonlaw03_TokenKnown_r4p1 : List AOper := [⟨some 47, (.call (.c (.fn 8 [] [])) [(.t 46)]), none⟩]
def s_gnomonlaw03_TokenKnown_r4t1 : List AOper := s_gnomonlaw03_TokenKnown_r4p1 ++ s_gnomonlaw03_TokenKnown_r4t2
def s_gnomonlaw03_TokenKnown_r4p0 : List AOper := [⟨some 42, (.move (.t 1)), none⟩, ⟨some 43, (.move (.t 2)), none⟩, ⟨some 44, (.indexAddr 4 (.t 42) (.t 43)), none⟩, ⟨some 45, (.fieldAddr 0 (.t 44)), none⟩, ⟨some 46, (.load false 1 (.t 45)), none⟩]
def s_gnomonlaw03_TokenKnown_r4 : List AOper := s_gnomonlaw03_TokenKnown_r4p0 ++ s_gnomonlaw03_TokenKnown_r4t1
theorem s_gnomonlaw03_TokenKnown_r4p0_tale (fr : List V) (H : Heap) : evTale (symAll s_gnomonlaw03_TokenKnown_r4p0 [38, 42, 43, 44, 45] [46]) [38, 42, 43, 44, 45] fr H = evTale (some (47, [], [(46, (.op (.load false 1 (.t 0)) [(.op (.fieldAddr 0 (.t 0)) [(.op (.indexAddr 4 (.t 0) (.t 1)) [(.t 1), (.t 2)])])]))])) [38, 42, 43, 44, 45] fr H := tale_row (items := [.tt 1, .tt 2, .sub 0 [0, 0] [], .sub 0 [0] [], .sub 0 [] []]) (by kernel_rfl) fr H
theorem s_gnomonlaw03_TokenKnown_r4_x (call : CallF) (it : IterF) (base : Nat) (f : List V) (H : Heap) : evC call it base (.region s_gnomonlaw03_TokenKnown_r4 [] [38, 41, 42, 43, 44, 45, 46, 47, 48, 49, 50]) f H = segC call it base s_gnomonlaw03_TokenKnown_r4t1 [38, 41, 42, 43, 44, 45, 46, 47, 48, 49, 50] H (evTale (symAll s_gnomonlaw03_TokenKnown_r4p0 [38, 42, 43, 44, 45] [46]) [38, 42, 43, 44, 45] f H) (origRow call it base s_gnomonlaw03_TokenKnown_r4 [38, 41, 42, 43, 44, 45, 46, 47, 48, 49, 50] f H) := row_seg call it base s_gnomonlaw03_TokenKnown_r4p0 s_gnomonlaw03_TokenKnown_r4t1 (by kernel_rfl) f H
theorem s_gnomonlaw03_TokenKnown_r4t1_x (call : CallF) (it : IterF) (base : Nat) (f : List V) (H : Heap) : evC call it base (.region s_gnomonlaw03_TokenKnown_r4t1 [] [38, 41, 42, 43, 44, 45, 46, 47, 48, 49, 50]) f H = thenC call it base (.region s_gnomonlaw03_TokenKnown_r4t2 [] [38, 41, 42, 43, 44, 45, 46, 47, 48, 49, 50]) (opsC [] s_gnomonlaw03_TokenKnown_r4p1 [46] (evOps call base [⟨some 47, (.call (.c (.fn 8 [] [])) [(.t 46)]), none⟩] f H)) := (row_op call it base s_gnomonlaw03_TokenKnown_r4p1 s_gnomonlaw03_TokenKnown_r4t2 (kc := [46]) (by kernel_rfl) f H).trans (by rw [row_ops]; rfl)
theorem s_gnomonlaw03_TokenKnown_r4p2_tale (fr : List V) (H : Heap) : evTale (symAll s_gnomonlaw03_TokenKnown_r4p2 [41, 47] [48, 49, 50]) [41, 47] fr H = evTale (some (51, [], [(48, (.op (.extract (.t 0) 0) [(.t 47)])), (49, (.op (.extract (.t 0) 1) [(.t 47)])), (50, (.op (.extract (.t 0) 2) [(.t 47)]))])) [41, 47] fr H := tale_row (items := [.tt 47, .sub 0 [] [], .sub 1 [] [], .sub 2 [] []]) (by kernel_rfl) fr H
theorem s_gnomonlaw03_TokenKnown_r4t2_x (call : CallF) (it : IterF) (base : Nat) (f : List V) (H : Heap) : evC call it base (.region s_gnomonlaw03_TokenKnown_r4t2 [] [38, 41, 42, 43, 44, 45, 46, 47, 48, 49, 50]) f H = segC call it base s_gnomonlaw03_TokenKnown_r4t3 [38, 41, 42, 43, 44, 45, 46, 47, 48, 49, 50] H (evTale (symAll s_gnomonlaw03_TokenKnown_r4p2 [41, 47] [48, 49, 50]) [41, 47] f H) (origRow call it base s_gnomonlaw03_TokenKnown_r4t2 [38, 41, 42, 43, 44, 45, 46, 47, 48, 49, 50] f H) := row_seg call it base s_gnomonlaw03_TokenKnown_r4p2 s_gnomonlaw03_TokenKnown_r4t3 (by kernel_rfl) f H
theorem s_gnomonlaw03_TokenKnown_r4t3_x (call : CallF) (it : IterF) (base : Nat) (f : List V) (H : Heap) : evC call it base (.region s_gnomonlaw03_TokenKnown_r4t3 [] [38, 41, 42, 43, 44, 45, 46, 47, 48, 49, 50]) f H = thenC call it base (.region s_gnomonlaw03_TokenKnown_r4t4 [] [38, 41, 42, 43, 44, 45, 46, 47, 48, 49, 50]) (opsC [] s_gnomonlaw03_TokenKnown_r4p3 [] (evOps call base [⟨some 4, (.alloc [(.s (.int .i64 0)), (.s (.int .i64 0))]), none⟩] f H)) := (row_op call it base s_gnomonlaw03_TokenKnown_r4p3 s_gnomonlaw03_TokenKnown_r4t4 (kc := []) (by kernel_rfl) f H).trans (by rw [row_ops]; rfl)
theorem s_gnomonlaw03_TokenKnown_r4p4_tale (fr : List V) (H : Heap) : evTale (symAll s_gnomonlaw03_TokenKnown_r4p4 [48] [3]) [48] fr H = evTale (some (4, [], [(3, (.t 48))])) [48] fr H := tale_row (items := [.tt 48]) (by kernel_rfl) fr H
theorem s_gnomonlaw03_TokenKnown_r4t4_x (call : CallF) (it : IterF) (base : Nat) (f : List V) (H : Heap) : evC call it base (.region s_gnomonlaw03_TokenKnown_r4t4 [] [38, 41, 42, 43, 44, 45, 46, 47, 48, 49, 50]) f H = segC call it base s_gnomonlaw03_TokenKnown_r4t5 [38, 41, 42, 43, 44, 45, 46, 47, 48, 49, 50] H (evTale (symAll s_gnomonlaw03_TokenKnown_r4p4 [48] [3]) [48] f H) (origRow call it base s_gnomonlaw03_TokenKnown_r4t4 [38, 41, 42, 43, 44, 45, 46, 47, 48, 49, 50] f H) := row_seg call it base s_gnomonlaw03_TokenKnown_r4p4 s_gnomonlaw03_TokenKnown_r4t5 (by kernel_rfl) f H
theorem s_gnomonlaw03_TokenKnown_r4t5_x (call : CallF) (it : IterF) (base : Nat) (f : List V) (H : Heap) : evC call it base (.region s_gnomonlaw03_TokenKnown_r4t5 [] [38, 41, 42, 43, 44, 45, 46, 47, 48, 49, 50]) f H = thenC call it base (.region s_gnomonlaw03_TokenKnown_r4t6 [] [38, 41, 42, 43, 44, 45, 46, 47, 48, 49, 50]) (opsC [] s_gnomonlaw03_TokenKnown_r4p5 [49] (evOps call base [⟨none, (.store 2 (.t 4) (.t 49)), none⟩] f H)) := (row_op call it base s_gnomonlaw03_TokenKnown_r4p5 s_gnomonlaw03_TokenKnown_r4t6 (kc := [49]) (by kernel_rfl) f H).trans (by rw [row_ops]; rfl)
theorem s_gnomonlaw03_TokenKnown_r4t6_tale (fr : List V) (H : Heap) : evTale (symAll s_gnomonlaw03_TokenKnown_r4t6 [38, 41, 42, 43, 44, 45, 46, 47, 48, 49, 50] [5]) [38, 41, 42, 43, 44, 45, 46, 47, 48, 49, 50] fr H = evTale (some (6, [], [(5, (.t 50))])) [38, 41, 42, 43, 44, 45, 46, 47, 48, 49, 50] fr H := tale_row (items := [.tt 50]) (by kernel_rfl) fr H
theorem s_gnomonlaw03_TokenKnown_r4t6_x (call : CallF) (it : IterF) (base : Nat) (f : List V) (H : Heap) : evC call it base (.region s_gnomonlaw03_TokenKnown_r4t6 [] [38, 41, 42, 43, 44, 45, 46, 47, 48, 49, 50]) f H = segL H (evTale (symAll s_gnomonlaw03_TokenKnown_r4t6 [38, 41, 42, 43, 44, 45, 46, 47, 48, 49, 50] [5]) [38, 41, 42, 43, 44, 45, 46, 47, 48, 49, 50] f H) (origRow call it base s_gnomonlaw03_TokenKnown_r4t6 [38, 41, 42, 43, 44, 45, 46, 47, 48, 49, 50] f H) := row_last call it base _ f H
def s_gnomonlaw03_TokenKnown_r5 : List AOper := [
  ⟨some 51, (.move (.t 3)), none⟩,
  ⟨some 52, (.lenS .s (.t 51)), none⟩,
  ⟨some 53, (.bin .neq (.t 52) (.c (.s (.int .i64 0)))), none⟩,
  ⟨some 54, (.move (.t 53)), none⟩,
  ⟨some 55, (.move (.t 5)), some (54, false)⟩,
  ⟨some 56, (.move (.t 1)), some (54, false)⟩,
  ⟨some 57, (.move (.t 2)), some (54, false)⟩,
  ⟨some 58, (.indexAddr 4 (.t 56) (.t 57)), some (54, false)⟩,
  ⟨some 59, (.fieldAddr 1 (.t 58)), some (54, false)⟩,
  ⟨some 60, (.load false 1 (.t 59)), some (54, false)⟩,
  ⟨some 61, (.bin .neq (.t 55) (.t 60)), some (54, false)⟩,
  ⟨some 62, (.pick (.t 54) (.c (.s (.bool true))) (.t 61)), none⟩,
  ⟨some 63, (.move (.t 62)), none⟩,
  ⟨some 64, (.fieldAddr 0 (.t 4)), some (63, false)⟩,
  ⟨some 65, (.load false 1 (.t 64)), some (63, false)⟩,
  ⟨some 66, (.move (.t 1)), some (63, false)⟩,
  ⟨some 67, (.move (.t 2)), some (63, false)⟩,
  ⟨some 68, (.indexAddr 4 (.t 66) (.t 67)), some (63, false)⟩,
  ⟨some 69, (.fieldAddr 2 (.t 68)), some (63, false)⟩,
  ⟨some 70, (.load false 1 (.t 69)), some (63, false)⟩,
  ⟨some 71, (.bin .neq (.t 65) (.t 70)), some (63, false)⟩,
  ⟨some 72, (.pick (.t 63) (.c (.s (.bool true))) (.t 71)), none⟩,
  ⟨some 73, (.move (.t 72)), none⟩,
  ⟨some 74, (.fieldAddr 1 (.t 4)), some (73, false)⟩,
  ⟨some 75, (.load false 1 (.t 74)), some (73, false)⟩,
  ⟨some 76, (.move (.t 1)), some (73, false)⟩,
  ⟨some 77, (.move (.t 2)), some (73, false)⟩,
  ⟨some 78, (.indexAddr 4 (.t 76) (.t 77)), some (73, false)⟩,
  ⟨some 79, (.fieldAddr 3 (.t 78)), some (73, false)⟩,
  ⟨some 80, (.load false 1 (.t 79)), some (73, false)⟩,
  ⟨some 81, (.bin .neq (.t 75) (.t 80)), some (73, false)⟩,
  ⟨some 82, (.pick (.t 73) (.c (.s (.bool true))) (.t 81)), none⟩]
theorem s_gnomonlaw03_TokenKnown_r5_tale (fr : List V) (H : Heap) : evTale (symAll s_gnomonlaw03_TokenKnown_r5 [3, 4, 5, 51, 52, 53, 54, 55, 56, 57, 58, 59, 60, 61, 62, 63, 64, 65, 66, 67, 68, 69, 70, 71, 72, 73, 74, 75, 76, 77, 78, 79, 80, 81] [82]) [3, 4, 5, 51, 52, 53, 54, 55, 56, 57, 58, 59, 60, 61, 62, 63, 64, 65, 66, 67, 68, 69, 70, 71, 72, 73, 74, 75, 76, 77, 78, 79, 80, 81] fr H = evTale (some (83, [], [(82, (.pick (.pick (.pick (.op (.bin .neq (.t 0) (.c (.s (.int .i64 0)))) [(.op (.lenS .s (.t 0)) [(.t 3)]), (.c (.s (.int .i64 0)))]) (.c (.s (.bool true))) (.op (.bin .neq (.t 0) (.t 1)) [(.t 5), (.op (.load false 1 (.t 0)) [(.op (.fieldAddr 1 (.t 0)) [(.op (.indexAddr 4 (.t 0) (.t 1)) [(.t 1), (.t 2)])])])])) (.c (.s (.bool true))) (.op (.bin .neq (.t 0) (.t 1)) [(.op (.load false 1 (.t 0)) [(.op (.fieldAddr 0 (.t 0)) [(.t 4)])]), (.op (.load false 1 (.t 0)) [(.op (.fieldAddr 2 (.t 0)) [(.op (.indexAddr 4 (.t 0) (.t 1)) [(.t 1), (.t 2)])])])])) (.c (.s (.bool true))) (.op (.bin .neq (.t 0) (.t 1)) [(.op (.load false 1 (.t 0)) [(.op (.fieldAddr 1 (.t 0)) [(.t 4)])]), (.op (.load false 1 (.t 0)) [(.op (.fieldAddr 3 (.t 0)) [(.op (.indexAddr 4 (.t 0) (.t 1)) [(.t 1), (.t 2)])])])])))])) [3, 4, 5, 51, 52, 53, 54, 55, 56, 57, 58, 59, 60, 61, 62, 63, 64, 65, 66, 67, 68, 69, 70, 71, 72, 73, 74, 75, 76, 77, 78, 79, 80, 81] fr H := tale_row (items := [.tt 3, .sub 0 [0, 0, 0, 0] [], .sub 0 [0, 0, 0] [], .sub 0 [0, 0, 0] [], .sub 0 [0, 0, 2, 0] [54], .sub 0 [0, 0, 2, 1, 0, 0, 0] [54], .sub 0 [0, 0, 2, 1, 0, 0, 1] [54], .sub 0 [0, 0, 2, 1, 0, 0] [54], .sub 0 [0, 0, 2, 1, 0] [54], .sub 0 [0, 0, 2, 1] [54], .sub 0 [0, 0, 2] [54], .sub 0 [0, 0] [], .sub 0 [0, 0] [], .sub 0 [0, 2, 0, 0] [63], .sub 0 [0, 2, 0] [63], .sub 0 [0, 2, 1, 0, 0, 0] [63], .sub 0 [0, 2, 1, 0, 0, 1] [63], .sub 0 [0, 2, 1, 0, 0] [63], .sub 0 [0, 2, 1, 0] [63], .sub 0 [0, 2, 1] [63], .sub 0 [0, 2] [63], .sub 0 [0] [], .sub 0 [0] [], .sub 0 [2, 0, 0] [73], .sub 0 [2, 0] [73], .sub 0 [2, 1, 0, 0, 0] [73], .sub 0 [2, 1, 0, 0, 1] [73], .sub 0 [2, 1, 0, 0] [73], .sub 0 [2, 1, 0] [73], .sub 0 [2, 1] [73], .sub 0 [2] [73], .sub 0 [] []]) (by kernel_rfl) fr H
def s_gnomonlaw03_TokenKnown_r6 : List AOper := [
  ⟨some 0, (.move (.c (.s (.bool false)))), none⟩]
theorem s_gnomonlaw03_TokenKnown_r6_tale (fr : List V) (H : Heap) : evTale (symAll s_gnomonlaw03_TokenKnown_r6 [1, 2, 82] [0]) [1, 2, 82] fr H = evTale (some (1, [], [(0, (.c (.s (.bool false))))])) [1, 2, 82] fr H := tale_row (items := [.cc (.s (.bool false))]) (by kernel_rfl) fr H
def s_gnomonlaw03_TokenKnown_r7 : List AOper := [
  ⟨some 39, (.move (.t 2)), none⟩,
  ⟨some 40, (.bin .add (.t 39) (.c (.s (.int .i64 1)))), none⟩,
  ⟨some 2, (.move (.t 40)), none⟩]
theorem s_gnomonlaw03_TokenKnown_r7_tale (fr : List V) (H : Heap) : evTale (symAll s_gnomonlaw03_TokenKnown_r7 [39, 40, 82] [2]) [39, 40, 82] fr H = evTale (some (41, [], [(2, (.op (.bin .add (.t 0) (.c (.s (.int .i64 1)))) [(.t 2), (.c (.s (.int .i64 1)))]))])) [39, 40, 82] fr H := tale_row (items := [.tt 2, .sub 0 [] [], .sub 0 [] []]) (by kernel_rfl) fr H
def s_gnomonlaw03_TokenKnown_l0_b : ACode :=
  (.seq (.seq (.regionE s_gnomonlaw03_TokenKnown_r3 [35, 36, 37] [38])
  (.cond (.t 38)
  .skip
  (.exit 0)))
  (.seq (.block 1
  (.seq (.region s_gnomonlaw03_TokenKnown_r4 [] [38, 41, 42, 43, 44, 45, 46, 47, 48, 49, 50])
  (.seq (.regionE s_gnomonlaw03_TokenKnown_r5 [3, 4, 5, 51, 52, 53, 54, 55, 56, 57, 58, 59, 60, 61, 62, 63, 64, 65, 66, 67, 68, 69, 70, 71, 72, 73, 74, 75, 76, 77, 78, 79, 80, 81] [82])
  (.cond (.t 82)
  (.seq (.regionE s_gnomonlaw03_TokenKnown_r6 [1, 2, 82] [0])
  .ret)
  .skip))))
  (.regionE s_gnomonlaw03_TokenKnown_r7 [39, 40, 82] [2])))
def s_gnomonlaw03_TokenKnown_l0 : ACode := s_gnomonlaw03_TokenKnown_l0_b
theorem s_gnomonlaw03_TokenKnown_l0_ev (call : CallF) (it : IterF) (base : Nat) (fr : List V) (H : Heap) : evC call it base s_gnomonlaw03_TokenKnown_l0 fr H = evC call it base s_gnomonlaw03_TokenKnown_l0_b fr H := rfl
def s_gnomonlaw03_TokenKnown_r8t5 : List AOper := [⟨some 8, (.move (.t 87)), none⟩]
def s_gnomonlaw03_TokenKnown_r8p4 : List AOper := [⟨none, (.store 2 (.t 7) (.t 86)), none⟩]
def s_gnomonlaw03_TokenKnown_r8t4 : List AOper := s_gnomonlaw03_TokenKnown_r8p4 ++ s_gnomonlaw03_TokenKnown_r8t5
def s_gnomonlaw03_TokenKnown_r8p3 : List AOper := [⟨some 6, (.move (.t 85)), none⟩]
def s_gnomonlaw03_TokenKnown_r8t3 : List AOper := s_gnomonlaw03_TokenKnown_r8p3 ++ s_gnomonlaw03_TokenKnown_r8t4
def s_gnomonlaw03_TokenKnown_r8p2 : List AOper := [⟨some 7, (.alloc [(.s (.int .i64 0)), (.s (.int .i64 0))]), none⟩]
def s_gnomonlaw03_TokenKnown_r8t2 : List AOper := s_gnomonlaw03_TokenKnown_r8p2 ++ s_gnomonlaw03_TokenKnown_r8t3
def s_gnomonlaw03_TokenKnown_r8p1 : List AOper := [⟨some 83, (.move (.t 84)), none⟩, ⟨some 85, (.extract (.t 83) 0), none⟩, ⟨some 86, (.extract (.t 83) 1), none⟩, ⟨some 87, (.extract (.t 83) 2), none⟩]
def s_gnomonlaw03_TokenKnown_r8t1 : List AOper := s_gnomonlaw03_TokenKnown_r8p1 ++ s_gnomonlaw03_TokenKnown_r8t2
def s_gnomonlaw03_TokenKnown_r8p0 : List AOper := [⟨some 84, (.call (.c (.fn 8 [] [])) [(.c (.s (.string ⟨#[97, 46, 49, 61, 99, 111, 112, 121, 32, 98, 59, 120]⟩)))]), none⟩]
def s_gnomonlaw03_TokenKnown_r8 : List AOper := s_gnomonlaw03_TokenKnown_r8p0 ++ s_gnomonlaw03_TokenKnown_r8t1
theorem s_gnomonlaw03_TokenKnown_r8_x (call : CallF) (it : IterF) (base : Nat) (f : List V) (H : Heap) : evC call it base (.region s_gnomonlaw03_TokenKnown_r8 [] [1, 2, 7, 38, 83, 84, 85, 86, 87]) f H = thenC call it base (.region s_gnomonlaw03_TokenKnown_r8t1 [] [1, 2, 7, 38, 83, 84, 85, 86, 87]) (opsC [] s_gnomonlaw03_TokenKnown_r8p0 [1, 2, 38] (evOps call base [⟨some 84, (.call (.c (.fn 8 [] [])) [(.c (.s (.string ⟨#[97, 46, 49, 61, 99, 111, 112, 121, 32, 98, 59, 120]⟩)))]), none⟩] f H)) := (row_op call it base s_gnomonlaw03_TokenKnown_r8p0 s_gnomonlaw03_TokenKnown_r8t1 (kc := [1, 2, 38]) (by kernel_rfl) f H).trans (by rw [row_ops]; rfl)
theorem s_gnomonlaw03_TokenKnown_r8p1_tale (fr : List V) (H : Heap) : evTale (symAll s_gnomonlaw03_TokenKnown_r8p1 [83, 84] [85, 86, 87]) [83, 84] fr H = evTale (some (88, [], [(85, (.op (.extract (.t 0) 0) [(.t 84)])), (86, (.op (.extract (.t 0) 1) [(.t 84)])), (87, (.op (.extract (.t 0) 2) [(.t 84)]))])) [83, 84] fr H := tale_row (items := [.tt 84, .sub 0 [] [], .sub 1 [] [], .sub 2 [] []]) (by kernel_rfl) fr H
theorem s_gnomonlaw03_TokenKnown_r8t1_x (call : CallF) (it : IterF) (base : Nat) (f : List V) (H : Heap) : evC call it base (.region s_gnomonlaw03_TokenKnown_r8t1 [] [1, 2, 7, 38, 83, 84, 85, 86, 87]) f H = segC call it base s_gnomonlaw03_TokenKnown_r8t2 [1, 2, 7, 38, 83, 84, 85, 86, 87] H (evTale (symAll s_gnomonlaw03_TokenKnown_r8p1 [83, 84] [85, 86, 87]) [83, 84] f H) (origRow call it base s_gnomonlaw03_TokenKnown_r8t1 [1, 2, 7, 38, 83, 84, 85, 86, 87] f H) := row_seg call it base s_gnomonlaw03_TokenKnown_r8p1 s_gnomonlaw03_TokenKnown_r8t2 (by kernel_rfl) f H
theorem s_gnomonlaw03_TokenKnown_r8t2_x (call : CallF) (it : IterF) (base : Nat) (f : List V) (H : Heap) : evC call it base (.region s_gnomonlaw03_TokenKnown_r8t2 [] [1, 2, 7, 38, 83, 84, 85, 86, 87]) f H = thenC call it base (.region s_gnomonlaw03_TokenKnown_r8t3 [] [1, 2, 7, 38, 83, 84, 85, 86, 87]) (opsC [] s_gnomonlaw03_TokenKnown_r8p2 [] (evOps call base [⟨some 7, (.alloc [(.s (.int .i64 0)), (.s (.int .i64 0))]), none⟩] f H)) := (row_op call it base s_gnomonlaw03_TokenKnown_r8p2 s_gnomonlaw03_TokenKnown_r8t3 (kc := []) (by kernel_rfl) f H).trans (by rw [row_ops]; rfl)
theorem s_gnomonlaw03_TokenKnown_r8p3_tale (fr : List V) (H : Heap) : evTale (symAll s_gnomonlaw03_TokenKnown_r8p3 [85] [6]) [85] fr H = evTale (some (7, [], [(6, (.t 85))])) [85] fr H := tale_row (items := [.tt 85]) (by kernel_rfl) fr H
theorem s_gnomonlaw03_TokenKnown_r8t3_x (call : CallF) (it : IterF) (base : Nat) (f : List V) (H : Heap) : evC call it base (.region s_gnomonlaw03_TokenKnown_r8t3 [] [1, 2, 7, 38, 83, 84, 85, 86, 87]) f H = segC call it base s_gnomonlaw03_TokenKnown_r8t4 [1, 2, 7, 38, 83, 84, 85, 86, 87] H (evTale (symAll s_gnomonlaw03_TokenKnown_r8p3 [85] [6]) [85] f H) (origRow call it base s_gnomonlaw03_TokenKnown_r8t3 [1, 2, 7, 38, 83, 84, 85, 86, 87] f H) := row_seg call it base s_gnomonlaw03_TokenKnown_r8p3 s_gnomonlaw03_TokenKnown_r8t4 (by kernel_rfl) f H
theorem s_gnomonlaw03_TokenKnown_r8t4_x (call : CallF) (it : IterF) (base : Nat) (f : List V) (H : Heap) : evC call it base (.region s_gnomonlaw03_TokenKnown_r8t4 [] [1, 2, 7, 38, 83, 84, 85, 86, 87]) f H = thenC call it base (.region s_gnomonlaw03_TokenKnown_r8t5 [] [1, 2, 7, 38, 83, 84, 85, 86, 87]) (opsC [] s_gnomonlaw03_TokenKnown_r8p4 [7, 86] (evOps call base [⟨none, (.store 2 (.t 7) (.t 86)), none⟩] f H)) := (row_op call it base s_gnomonlaw03_TokenKnown_r8p4 s_gnomonlaw03_TokenKnown_r8t5 (kc := [7, 86]) (by kernel_rfl) f H).trans (by rw [row_ops]; rfl)
theorem s_gnomonlaw03_TokenKnown_r8t5_tale (fr : List V) (H : Heap) : evTale (symAll s_gnomonlaw03_TokenKnown_r8t5 [1, 2, 7, 38, 83, 84, 85, 86, 87] [8]) [1, 2, 7, 38, 83, 84, 85, 86, 87] fr H = evTale (some (9, [], [(8, (.t 87))])) [1, 2, 7, 38, 83, 84, 85, 86, 87] fr H := tale_row (items := [.tt 87]) (by kernel_rfl) fr H
theorem s_gnomonlaw03_TokenKnown_r8t5_x (call : CallF) (it : IterF) (base : Nat) (f : List V) (H : Heap) : evC call it base (.region s_gnomonlaw03_TokenKnown_r8t5 [] [1, 2, 7, 38, 83, 84, 85, 86, 87]) f H = segL H (evTale (symAll s_gnomonlaw03_TokenKnown_r8t5 [1, 2, 7, 38, 83, 84, 85, 86, 87] [8]) [1, 2, 7, 38, 83, 84, 85, 86, 87] f H) (origRow call it base s_gnomonlaw03_TokenKnown_r8t5 [1, 2, 7, 38, 83, 84, 85, 86, 87] f H) := row_last call it base _ f H
def s_gnomonlaw03_TokenKnown_r9 : List AOper := [
  ⟨some 88, (.move (.t 8)), none⟩,
  ⟨some 89, (.bin .neq (.t 88) (.c (.s (.int .i64 0)))), none⟩,
  ⟨some 90, (.move (.t 89)), none⟩,
  ⟨some 91, (.move (.t 6)), some (90, false)⟩,
  ⟨some 92, (.lenS .s (.t 91)), some (90, false)⟩,
  ⟨some 93, (.bin .neq (.t 92) (.c (.s (.int .i64 5)))), some (90, false)⟩,
  ⟨some 94, (.pick (.t 90) (.c (.s (.bool true))) (.t 93)), none⟩,
  ⟨some 95, (.move (.t 94)), none⟩,
  ⟨some 96, (.move (.t 6)), some (95, false)⟩,
  ⟨some 97, (.indexAddr 5 (.t 96) (.c (.s (.int .i64 0)))), some (95, false)⟩,
  ⟨some 98, (.fieldAddr 1 (.t 97)), some (95, false)⟩,
  ⟨some 99, (.load false 1 (.t 98)), some (95, false)⟩,
  ⟨some 100, (.bin .neq (.t 99) (.c (.s (.string ⟨#[97, 46, 49]⟩)))), some (95, false)⟩,
  ⟨some 101, (.pick (.t 95) (.c (.s (.bool true))) (.t 100)), none⟩,
  ⟨some 102, (.move (.t 101)), none⟩,
  ⟨some 103, (.move (.t 6)), some (102, false)⟩,
  ⟨some 104, (.indexAddr 5 (.t 103) (.c (.s (.int .i64 1)))), some (102, false)⟩,
  ⟨some 105, (.load true 5 (.t 104)), some (102, false)⟩,
  ⟨some 106, (.build [(.s (.int .i64 0)), (.s (.int .i64 0))] [(0, 1), (1, 1)] [(0, (.c (.s (.int .i64 1)))), (1, (.c (.s (.int .i64 4))))]), some (102, false)⟩,
  ⟨some 107, (.build [(.s (.int .u8 0)), (.s (.string ⟨#[]⟩)), (.s (.int .i64 0)), (.s (.int .i64 0)), (.s (.int .i64 0))] [(0, 1), (1, 1), (2, 1), (3, 2)] [(0, (.c (.s (.int .u8 3)))), (1, (.c (.s (.string ⟨#[61]⟩)))), (3, (.t 106))]), some (102, false)⟩,
  ⟨some 108, (.eqAgg true [(.int .u8), .str, (.int .i64), (.int .i64), (.int .i64)] (.t 105) (.t 107)), some (102, false)⟩,
  ⟨some 109, (.pick (.t 102) (.c (.s (.bool true))) (.t 108)), none⟩,
  ⟨some 110, (.move (.t 109)), none⟩,
  ⟨some 111, (.move (.t 6)), some (110, false)⟩,
  ⟨some 112, (.indexAddr 5 (.t 111) (.c (.s (.int .i64 3)))), some (110, false)⟩,
  ⟨some 113, (.fieldAddr 1 (.t 112)), some (110, false)⟩,
  ⟨some 114, (.load false 1 (.t 113)), some (110, false)⟩,
  ⟨some 115, (.bin .neq (.t 114) (.c (.s (.string ⟨#[98]⟩)))), some (110, false)⟩,
  ⟨some 116, (.pick (.t 110) (.c (.s (.bool true))) (.t 115)), none⟩,
  ⟨some 117, (.move (.t 116)), none⟩,
  ⟨some 118, (.move (.t 6)), some (117, false)⟩,
  ⟨some 119, (.indexAddr 5 (.t 118) (.c (.s (.int .i64 4)))), some (117, false)⟩,
  ⟨some 120, (.fieldAddr 3 (.t 119)), some (117, false)⟩,
  ⟨some 121, (.load true 2 (.t 120)), some (117, false)⟩,
  ⟨some 122, (.build [(.s (.int .i64 0)), (.s (.int .i64 0))] [(0, 1), (1, 1)] [(0, (.c (.s (.int .i64 1)))), (1, (.c (.s (.int .i64 13))))]), some (117, false)⟩,
  ⟨some 123, (.eqAgg true [(.int .i64), (.int .i64)] (.t 121) (.t 122)), some (117, false)⟩,
  ⟨some 124, (.pick (.t 117) (.c (.s (.bool true))) (.t 123)), none⟩]
theorem s_gnomonlaw03_TokenKnown_r9_tale (fr : List V) (H : Heap) : evTale (symAll s_gnomonlaw03_TokenKnown_r9 [6, 8, 88, 89, 90, 91, 92, 93, 94, 95, 96, 97, 98, 99, 100, 101, 102, 103, 104, 105, 106, 107, 108, 109, 110, 111, 112, 113, 114, 115, 116, 117, 118, 119, 120, 121, 122, 123] [124]) [6, 8, 88, 89, 90, 91, 92, 93, 94, 95, 96, 97, 98, 99, 100, 101, 102, 103, 104, 105, 106, 107, 108, 109, 110, 111, 112, 113, 114, 115, 116, 117, 118, 119, 120, 121, 122, 123] fr H = evTale (some (125, [], [(124, (.pick (.pick (.pick (.pick (.pick (.op (.bin .neq (.t 0) (.c (.s (.int .i64 0)))) [(.t 8), (.c (.s (.int .i64 0)))]) (.c (.s (.bool true))) (.op (.bin .neq (.t 0) (.c (.s (.int .i64 5)))) [(.op (.lenS .s (.t 0)) [(.t 6)]), (.c (.s (.int .i64 5)))])) (.c (.s (.bool true))) (.op (.bin .neq (.t 0) (.c (.s (.string ⟨#[97, 46, 49]⟩)))) [(.op (.load false 1 (.t 0)) [(.op (.fieldAddr 1 (.t 0)) [(.op (.indexAddr 5 (.t 0) (.c (.s (.int .i64 0)))) [(.t 6), (.c (.s (.int .i64 0)))])])]), (.c (.s (.string ⟨#[97, 46, 49]⟩)))])) (.c (.s (.bool true))) (.op (.eqAgg true [(.int .u8), .str, (.int .i64), (.int .i64), (.int .i64)] (.t 0) (.t 1)) [(.op (.load true 5 (.t 0)) [(.op (.indexAddr 5 (.t 0) (.c (.s (.int .i64 1)))) [(.t 6), (.c (.s (.int .i64 1)))])]), (.op (.build [(.s (.int .u8 0)), (.s (.string ⟨#[]⟩)), (.s (.int .i64 0)), (.s (.int .i64 0)), (.s (.int .i64 0))] [(0, 1), (1, 1), (2, 1), (3, 2)] [(0, (.c (.s (.int .u8 3)))), (1, (.c (.s (.string ⟨#[61]⟩)))), (3, (.t 2))]) [(.c (.s (.int .u8 3))), (.c (.s (.string ⟨#[61]⟩))), (.op (.build [(.s (.int .i64 0)), (.s (.int .i64 0))] [(0, 1), (1, 1)] [(0, (.c (.s (.int .i64 1)))), (1, (.c (.s (.int .i64 4))))]) [(.c (.s (.int .i64 1))), (.c (.s (.int .i64 4)))])])])) (.c (.s (.bool true))) (.op (.bin .neq (.t 0) (.c (.s (.string ⟨#[98]⟩)))) [(.op (.load false 1 (.t 0)) [(.op (.fieldAddr 1 (.t 0)) [(.op (.indexAddr 5 (.t 0) (.c (.s (.int .i64 3)))) [(.t 6), (.c (.s (.int .i64 3)))])])]), (.c (.s (.string ⟨#[98]⟩)))])) (.c (.s (.bool true))) (.op (.eqAgg true [(.int .i64), (.int .i64)] (.t 0) (.t 1)) [(.op (.load true 2 (.t 0)) [(.op (.fieldAddr 3 (.t 0)) [(.op (.indexAddr 5 (.t 0) (.c (.s (.int .i64 4)))) [(.t 6), (.c (.s (.int .i64 4)))])])]), (.op (.build [(.s (.int .i64 0)), (.s (.int .i64 0))] [(0, 1), (1, 1)] [(0, (.c (.s (.int .i64 1)))), (1, (.c (.s (.int .i64 13))))]) [(.c (.s (.int .i64 1))), (.c (.s (.int .i64 13)))])])))])) [6, 8, 88, 89, 90, 91, 92, 93, 94, 95, 96, 97, 98, 99, 100, 101, 102, 103, 104, 105, 106, 107, 108, 109, 110, 111, 112, 113, 114, 115, 116, 117, 118, 119, 120, 121, 122, 123] fr H := tale_row (items := [.tt 8, .sub 0 [0, 0, 0, 0, 0] [], .sub 0 [0, 0, 0, 0, 0] [], .sub 0 [0, 0, 0, 0, 2, 0, 0] [90], .sub 0 [0, 0, 0, 0, 2, 0] [90], .sub 0 [0, 0, 0, 0, 2] [90], .sub 0 [0, 0, 0, 0] [], .sub 0 [0, 0, 0, 0] [], .sub 0 [0, 0, 0, 2, 0, 0, 0, 0] [95], .sub 0 [0, 0, 0, 2, 0, 0, 0] [95], .sub 0 [0, 0, 0, 2, 0, 0] [95], .sub 0 [0, 0, 0, 2, 0] [95], .sub 0 [0, 0, 0, 2] [95], .sub 0 [0, 0, 0] [], .sub 0 [0, 0, 0] [], .sub 0 [0, 0, 2, 0, 0, 0] [102], .sub 0 [0, 0, 2, 0, 0] [102], .sub 0 [0, 0, 2, 0] [102], .sub 0 [0, 0, 2, 1, 2] [102], .sub 0 [0, 0, 2, 1] [102], .sub 0 [0, 0, 2] [102], .sub 0 [0, 0] [], .sub 0 [0, 0] [], .sub 0 [0, 2, 0, 0, 0, 0] [110], .sub 0 [0, 2, 0, 0, 0] [110], .sub 0 [0, 2, 0, 0] [110], .sub 0 [0, 2, 0] [110], .sub 0 [0, 2] [110], .sub 0 [0] [], .sub 0 [0] [], .sub 0 [2, 0, 0, 0, 0] [117], .sub 0 [2, 0, 0, 0] [117], .sub 0 [2, 0, 0] [117], .sub 0 [2, 0] [117], .sub 0 [2, 1] [117], .sub 0 [2] [117], .sub 0 [] []]) (by kernel_rfl) fr H
def s_gnomonlaw03_TokenKnown_r10 : List AOper := [
  ⟨some 0, (.move (.c (.s (.bool false)))), none⟩]
theorem s_gnomonlaw03_TokenKnown_r10_tale (fr : List V) (H : Heap) : evTale (symAll s_gnomonlaw03_TokenKnown_r10 [124] [0]) [124] fr H = evTale (some (1, [], [(0, (.c (.s (.bool false))))])) [124] fr H := tale_row (items := [.cc (.s (.bool false))]) (by kernel_rfl) fr H
def s_gnomonlaw03_TokenKnown_r11t5 : List AOper := [⟨some 11, (.move (.t 129)), none⟩]
def s_gnomonlaw03_TokenKnown_r11p4 : List AOper := [⟨none, (.store 2 (.t 10) (.t 128)), none⟩]
def s_gnomonlaw03_TokenKnown_r11t4 : List AOper := s_gnomonlaw03_TokenKnown_r11p4 ++ s_gnomonlaw03_TokenKnown_r11t5
def s_gnomonlaw03_TokenKnown_r11p3 : List AOper := [⟨some 9, (.move (.t 127)), none⟩]
def s_gnomonlaw03_TokenKnown_r11t3 : List AOper := s_gnomonlaw03_TokenKnown_r11p3 ++ s_gnomonlaw03_TokenKnown_r11t4
def s_gnomonlaw03_TokenKnown_r11p2 : List AOper := [⟨some 10, (.alloc [(.s (.int .i64 0)), (.s (.int .i64 0))]), none⟩]
def s_gnomonlaw03_TokenKnown_r11t2 : List AOper := s_gnomonlaw03_TokenKnown_r11p2 ++ s_gnomonlaw03_TokenKnown_r11t3
def s_gnomonlaw03_TokenKnown_r11p1 : List AOper := [⟨some 125, (.move (.t 126)), none⟩, ⟨some 127, (.extract (.t 125) 0), none⟩, ⟨some 128, (.extract (.t 125) 1), none⟩, ⟨some 129, (.extract (.t 125) 2), none⟩]
def s_gnomonlaw03_TokenKnown_r11t1 : List AOper := s_gnomonlaw03_TokenKnown_r11p1 ++ s_gnomonlaw03_TokenKnown_r11t2
def s_gnomonlaw03_TokenKnown_r11p0 : List AOper := [⟨some 126, (.call (.c (.fn 8 [] [])) [(.c (.s (.string ⟨#[49, 50, 51, 52, 53, 54, 55, 56, 57, 32, 48, 40, 95, 65, 57, 13, 10, 41]⟩)))]), none⟩]
def s_gnomonlaw03_TokenKnown_r11 : List AOper := s_gnomonlaw03_TokenKnown_r11p0 ++ s_gnomonlaw03_TokenKnown_r11t1
theorem s_gnomonlaw03_TokenKnown_r11_x (call : CallF) (it : IterF) (base : Nat) (f : List V) (H : Heap) : evC call it base (.region s_gnomonlaw03_TokenKnown_r11 [] [10, 124, 125, 126, 127, 128, 129]) f H = thenC call it base (.region s_gnomonlaw03_TokenKnown_r11t1 [] [10, 124, 125, 126, 127, 128, 129]) (opsC [] s_gnomonlaw03_TokenKnown_r11p0 [124] (evOps call base [⟨some 126, (.call (.c (.fn 8 [] [])) [(.c (.s (.string ⟨#[49, 50, 51, 52, 53, 54, 55, 56, 57, 32, 48, 40, 95, 65, 57, 13, 10, 41]⟩)))]), none⟩] f H)) := (row_op call it base s_gnomonlaw03_TokenKnown_r11p0 s_gnomonlaw03_TokenKnown_r11t1 (kc := [124]) (by kernel_rfl) f H).trans (by rw [row_ops]; rfl)
theorem s_gnomonlaw03_TokenKnown_r11p1_tale (fr : List V) (H : Heap) : evTale (symAll s_gnomonlaw03_TokenKnown_r11p1 [125, 126] [127, 128, 129]) [125, 126] fr H = evTale (some (130, [], [(127, (.op (.extract (.t 0) 0) [(.t 126)])), (128, (.op (.extract (.t 0) 1) [(.t 126)])), (129, (.op (.extract (.t 0) 2) [(.t 126)]))])) [125, 126] fr H := tale_row (items := [.tt 126, .sub 0 [] [], .sub 1 [] [], .sub 2 [] []]) (by kernel_rfl) fr H
theorem s_gnomonlaw03_TokenKnown_r11t1_x (call : CallF) (it : IterF) (base : Nat) (f : List V) (H : Heap) : evC call it base (.region s_gnomonlaw03_TokenKnown_r11t1 [] [10, 124, 125, 126, 127, 128, 129]) f H = segC call it base s_gnomonlaw03_TokenKnown_r11t2 [10, 124, 125, 126, 127, 128, 129] H (evTale (symAll s_gnomonlaw03_TokenKnown_r11p1 [125, 126] [127, 128, 129]) [125, 126] f H) (origRow call it base s_gnomonlaw03_TokenKnown_r11t1 [10, 124, 125, 126, 127, 128, 129] f H) := row_seg call it base s_gnomonlaw03_TokenKnown_r11p1 s_gnomonlaw03_TokenKnown_r11t2 (by kernel_rfl) f H
theorem s_gnomonlaw03_TokenKnown_r11t2_x (call : CallF) (it : IterF) (base : Nat) (f : List V) (H : Heap) : evC call it base (.region s_gnomonlaw03_TokenKnown_r11t2 [] [10, 124, 125, 126, 127, 128, 129]) f H = thenC call it base (.region s_gnomonlaw03_TokenKnown_r11t3 [] [10, 124, 125, 126, 127, 128, 129]) (opsC [] s_gnomonlaw03_TokenKnown_r11p2 [] (evOps call base [⟨some 10, (.alloc [(.s (.int .i64 0)), (.s (.int .i64 0))]), none⟩] f H)) := (row_op call it base s_gnomonlaw03_TokenKnown_r11p2 s_gnomonlaw03_TokenKnown_r11t3 (kc := []) (by kernel_rfl) f H).trans (by rw [row_ops]; rfl)
theorem s_gnomonlaw03_TokenKnown_r11p3_tale (fr : List V) (H : Heap) : evTale (symAll s_gnomonlaw03_TokenKnown_r11p3 [127] [9]) [127] fr H = evTale (some (10, [], [(9, (.t 127))])) [127] fr H := tale_row (items := [.tt 127]) (by kernel_rfl) fr H
theorem s_gnomonlaw03_TokenKnown_r11t3_x (call : CallF) (it : IterF) (base : Nat) (f : List V) (H : Heap) : evC call it base (.region s_gnomonlaw03_TokenKnown_r11t3 [] [10, 124, 125, 126, 127, 128, 129]) f H = segC call it base s_gnomonlaw03_TokenKnown_r11t4 [10, 124, 125, 126, 127, 128, 129] H (evTale (symAll s_gnomonlaw03_TokenKnown_r11p3 [127] [9]) [127] f H) (origRow call it base s_gnomonlaw03_TokenKnown_r11t3 [10, 124, 125, 126, 127, 128, 129] f H) := row_seg call it base s_gnomonlaw03_TokenKnown_r11p3 s_gnomonlaw03_TokenKnown_r11t4 (by kernel_rfl) f H
theorem s_gnomonlaw03_TokenKnown_r11t4_x (call : CallF) (it : IterF) (base : Nat) (f : List V) (H : Heap) : evC call it base (.region s_gnomonlaw03_TokenKnown_r11t4 [] [10, 124, 125, 126, 127, 128, 129]) f H = thenC call it base (.region s_gnomonlaw03_TokenKnown_r11t5 [] [10, 124, 125, 126, 127, 128, 129]) (opsC [] s_gnomonlaw03_TokenKnown_r11p4 [10, 128] (evOps call base [⟨none, (.store 2 (.t 10) (.t 128)), none⟩] f H)) := (row_op call it base s_gnomonlaw03_TokenKnown_r11p4 s_gnomonlaw03_TokenKnown_r11t5 (kc := [10, 128]) (by kernel_rfl) f H).trans (by rw [row_ops]; rfl)
theorem s_gnomonlaw03_TokenKnown_r11t5_tale (fr : List V) (H : Heap) : evTale (symAll s_gnomonlaw03_TokenKnown_r11t5 [10, 124, 125, 126, 127, 128, 129] [11]) [10, 124, 125, 126, 127, 128, 129] fr H = evTale (some (12, [], [(11, (.t 129))])) [10, 124, 125, 126, 127, 128, 129] fr H := tale_row (items := [.tt 129]) (by kernel_rfl) fr H
theorem s_gnomonlaw03_TokenKnown_r11t5_x (call : CallF) (it : IterF) (base : Nat) (f : List V) (H : Heap) : evC call it base (.region s_gnomonlaw03_TokenKnown_r11t5 [] [10, 124, 125, 126, 127, 128, 129]) f H = segL H (evTale (symAll s_gnomonlaw03_TokenKnown_r11t5 [10, 124, 125, 126, 127, 128, 129] [11]) [10, 124, 125, 126, 127, 128, 129] f H) (origRow call it base s_gnomonlaw03_TokenKnown_r11t5 [10, 124, 125, 126, 127, 128, 129] f H) := row_last call it base _ f H
def s_gnomonlaw03_TokenKnown_r12 : List AOper := [
  ⟨some 130, (.move (.t 11)), none⟩,
  ⟨some 131, (.bin .neq (.t 130) (.c (.s (.int .i64 0)))), none⟩,
  ⟨some 132, (.move (.t 131)), none⟩,
  ⟨some 133, (.move (.t 9)), some (132, false)⟩,
  ⟨some 134, (.lenS .s (.t 133)), some (132, false)⟩,
  ⟨some 135, (.bin .neq (.t 134) (.c (.s (.int .i64 6)))), some (132, false)⟩,
  ⟨some 136, (.pick (.t 132) (.c (.s (.bool true))) (.t 135)), none⟩,
  ⟨some 137, (.move (.t 136)), none⟩,
  ⟨some 138, (.move (.t 9)), some (137, false)⟩,
  ⟨some 139, (.indexAddr 5 (.t 138) (.c (.s (.int .i64 0)))), some (137, false)⟩,
  ⟨some 140, (.fieldAddr 2 (.t 139)), some (137, false)⟩,
  ⟨some 141, (.load false 1 (.t 140)), some (137, false)⟩,
  ⟨some 142, (.bin .neq (.t 141) (.c (.s (.int .i64 123456789)))), some (137, false)⟩,
  ⟨some 143, (.pick (.t 137) (.c (.s (.bool true))) (.t 142)), none⟩,
  ⟨some 144, (.move (.t 143)), none⟩,
  ⟨some 145, (.move (.t 9)), some (144, false)⟩,
  ⟨some 146, (.indexAddr 5 (.t 145) (.c (.s (.int .i64 1)))), some (144, false)⟩,
  ⟨some 147, (.fieldAddr 2 (.t 146)), some (144, false)⟩,
  ⟨some 148, (.load false 1 (.t 147)), some (144, false)⟩,
  ⟨some 149, (.bin .neq (.t 148) (.c (.s (.int .i64 0)))), some (144, false)⟩,
  ⟨some 150, (.pick (.t 144) (.c (.s (.bool true))) (.t 149)), none⟩,
  ⟨some 151, (.move (.t 150)), none⟩,
  ⟨some 152, (.move (.t 9)), some (151, false)⟩,
  ⟨some 153, (.indexAddr 5 (.t 152) (.c (.s (.int .i64 1)))), some (151, false)⟩,
  ⟨some 154, (.fieldAddr 1 (.t 153)), some (151, false)⟩,
  ⟨some 155, (.load false 1 (.t 154)), some (151, false)⟩,
  ⟨some 156, (.bin .neq (.t 155) (.c (.s (.string ⟨#[48]⟩)))), some (151, false)⟩,
  ⟨some 157, (.pick (.t 151) (.c (.s (.bool true))) (.t 156)), none⟩,
  ⟨some 158, (.move (.t 157)), none⟩,
  ⟨some 159, (.move (.t 9)), some (158, false)⟩,
  ⟨some 160, (.indexAddr 5 (.t 159) (.c (.s (.int .i64 3)))), some (158, false)⟩,
  ⟨some 161, (.fieldAddr 1 (.t 160)), some (158, false)⟩,
  ⟨some 162, (.load false 1 (.t 161)), some (158, false)⟩,
  ⟨some 163, (.bin .neq (.t 162) (.c (.s (.string ⟨#[95, 65, 57]⟩)))), some (158, false)⟩,
  ⟨some 164, (.pick (.t 158) (.c (.s (.bool true))) (.t 163)), none⟩,
  ⟨some 165, (.move (.t 164)), none⟩,
  ⟨some 166, (.move (.t 9)), some (165, false)⟩,
  ⟨some 167, (.indexAddr 5 (.t 166) (.c (.s (.int .i64 4)))), some (165, false)⟩,
  ⟨some 168, (.fieldAddr 3 (.t 167)), some (165, false)⟩,
  ⟨some 169, (.load true 2 (.t 168)), some (165, false)⟩,
  ⟨some 170, (.build [(.s (.int .i64 0)), (.s (.int .i64 0))] [(0, 1), (1, 1)] [(0, (.c (.s (.int .i64 2)))), (1, (.c (.s (.int .i64 1))))]), some (165, false)⟩,
  ⟨some 171, (.eqAgg true [(.int .i64), (.int .i64)] (.t 169) (.t 170)), some (165, false)⟩,
  ⟨some 172, (.pick (.t 165) (.c (.s (.bool true))) (.t 171)), none⟩]
theorem s_gnomonlaw03_TokenKnown_r12_tale (fr : List V) (H : Heap) : evTale (symAll s_gnomonlaw03_TokenKnown_r12 [9, 11, 130, 131, 132, 133, 134, 135, 136, 137, 138, 139, 140, 141, 142, 143, 144, 145, 146, 147, 148, 149, 150, 151, 152, 153, 154, 155, 156, 157, 158, 159, 160, 161, 162, 163, 164, 165, 166, 167, 168, 169, 170, 171] [172]) [9, 11, 130, 131, 132, 133, 134, 135, 136, 137, 138, 139, 140, 141, 142, 143, 144, 145, 146, 147, 148, 149, 150, 151, 152, 153, 154, 155, 156, 157, 158, 159, 160, 161, 162, 163, 164, 165, 166, 167, 168, 169, 170, 171] fr H = evTale (some (173, [], [(172, (.pick (.pick (.pick (.pick (.pick (.pick (.op (.bin .neq (.t 0) (.c (.s (.int .i64 0)))) [(.t 11), (.c (.s (.int .i64 0)))]) (.c (.s (.bool true))) (.op (.bin .neq (.t 0) (.c (.s (.int .i64 6)))) [(.op (.lenS .s (.t 0)) [(.t 9)]), (.c (.s (.int .i64 6)))])) (.c (.s (.bool true))) (.op (.bin .neq (.t 0) (.c (.s (.int .i64 123456789)))) [(.op (.load false 1 (.t 0)) [(.op (.fieldAddr 2 (.t 0)) [(.op (.indexAddr 5 (.t 0) (.c (.s (.int .i64 0)))) [(.t 9), (.c (.s (.int .i64 0)))])])]), (.c (.s (.int .i64 123456789)))])) (.c (.s (.bool true))) (.op (.bin .neq (.t 0) (.c (.s (.int .i64 0)))) [(.op (.load false 1 (.t 0)) [(.op (.fieldAddr 2 (.t 0)) [(.op (.indexAddr 5 (.t 0) (.c (.s (.int .i64 1)))) [(.t 9), (.c (.s (.int .i64 1)))])])]), (.c (.s (.int .i64 0)))])) (.c (.s (.bool true))) (.op (.bin .neq (.t 0) (.c (.s (.string ⟨#[48]⟩)))) [(.op (.load false 1 (.t 0)) [(.op (.fieldAddr 1 (.t 0)) [(.op (.indexAddr 5 (.t 0) (.c (.s (.int .i64 1)))) [(.t 9), (.c (.s (.int .i64 1)))])])]), (.c (.s (.string ⟨#[48]⟩)))])) (.c (.s (.bool true))) (.op (.bin .neq (.t 0) (.c (.s (.string ⟨#[95, 65, 57]⟩)))) [(.op (.load false 1 (.t 0)) [(.op (.fieldAddr 1 (.t 0)) [(.op (.indexAddr 5 (.t 0) (.c (.s (.int .i64 3)))) [(.t 9), (.c (.s (.int .i64 3)))])])]), (.c (.s (.string ⟨#[95, 65, 57]⟩)))])) (.c (.s (.bool true))) (.op (.eqAgg true [(.int .i64), (.int .i64)] (.t 0) (.t 1)) [(.op (.load true 2 (.t 0)) [(.op (.fieldAddr 3 (.t 0)) [(.op (.indexAddr 5 (.t 0) (.c (.s (.int .i64 4)))) [(.t 9), (.c (.s (.int .i64 4)))])])]), (.op (.build [(.s (.int .i64 0)), (.s (.int .i64 0))] [(0, 1), (1, 1)] [(0, (.c (.s (.int .i64 2)))), (1, (.c (.s (.int .i64 1))))]) [(.c (.s (.int .i64 2))), (.c (.s (.int .i64 1)))])])))])) [9, 11, 130, 131, 132, 133, 134, 135, 136, 137, 138, 139, 140, 141, 142, 143, 144, 145, 146, 147, 148, 149, 150, 151, 152, 153, 154, 155, 156, 157, 158, 159, 160, 161, 162, 163, 164, 165, 166, 167, 168, 169, 170, 171] fr H := tale_row (items := [.tt 11, .sub 0 [0, 0, 0, 0, 0, 0] [], .sub 0 [0, 0, 0, 0, 0, 0] [], .sub 0 [0, 0, 0, 0, 0, 2, 0, 0] [132], .sub 0 [0, 0, 0, 0, 0, 2, 0] [132], .sub 0 [0, 0, 0, 0, 0, 2] [132], .sub 0 [0, 0, 0, 0, 0] [], .sub 0 [0, 0, 0, 0, 0] [], .sub 0 [0, 0, 0, 0, 2, 0, 0, 0, 0] [137], .sub 0 [0, 0, 0, 0, 2, 0, 0, 0] [137], .sub 0 [0, 0, 0, 0, 2, 0, 0] [137], .sub 0 [0, 0, 0, 0, 2, 0] [137], .sub 0 [0, 0, 0, 0, 2] [137], .sub 0 [0, 0, 0, 0] [], .sub 0 [0, 0, 0, 0] [], .sub 0 [0, 0, 0, 2, 0, 0, 0, 0] [144], .sub 0 [0, 0, 0, 2, 0, 0, 0] [144], .sub 0 [0, 0, 0, 2, 0, 0] [144], .sub 0 [0, 0, 0, 2, 0] [144], .sub 0 [0, 0, 0, 2] [144], .sub 0 [0, 0, 0] [], .sub 0 [0, 0, 0] [], .sub 0 [0, 0, 2, 0, 0, 0, 0] [151], .sub 0 [0, 0, 2, 0, 0, 0] [151], .sub 0 [0, 0, 2, 0, 0] [151], .sub 0 [0, 0, 2, 0] [151], .sub 0 [0, 0, 2] [151], .sub 0 [0, 0] [], .sub 0 [0, 0] [], .sub 0 [0, 2, 0, 0, 0, 0] [158], .sub 0 [0, 2, 0, 0, 0] [158], .sub 0 [0, 2, 0, 0] [158], .sub 0 [0, 2, 0] [158], .sub 0 [0, 2] [158], .sub 0 [0] [], .sub 0 [0] [], .sub 0 [2, 0, 0, 0, 0] [165], .sub 0 [2, 0, 0, 0] [165], .sub 0 [2, 0, 0] [165], .sub 0 [2, 0] [165], .sub 0 [2, 1] [165], .sub 0 [2] [165], .sub 0 [] []]) (by kernel_rfl) fr H
def s_gnomonlaw03_TokenKnown_r13 : List AOper := [
  ⟨some 0, (.move (.c (.s (.bool false)))), none⟩]
theorem s_gnomonlaw03_TokenKnown_r13_tale (fr : List V) (H : Heap) : evTale (symAll s_gnomonlaw03_TokenKnown_r13 [172] [0]) [172] fr H = evTale (some (1, [], [(0, (.c (.s (.bool false))))])) [172] fr H := tale_row (items := [.cc (.s (.bool false))]) (by kernel_rfl) fr H
def s_gnomonlaw03_TokenKnown_r14t1 : List AOper := [⟨some 12, (.move (.t 173)), none⟩]
def s_gnomonlaw03_TokenKnown_r14p0 : List AOper := [⟨some 173, (.mkSl [(.s (.int .u8 0))] 1 1 (.c (.s (.int .i64 1048577))) (.c (.s (.int .i64 1048577)))), none⟩]
def s_gnomonlaw03_TokenKnown_r14 : List AOper := s_gnomonlaw03_TokenKnown_r14p0 ++ s_gnomonlaw03_TokenKnown_r14t1
theorem s_gnomonlaw03_TokenKnown_r14_x (call : CallF) (it : IterF) (base : Nat) (f : List V) (H : Heap) : evC call it base (.region s_gnomonlaw03_TokenKnown_r14 [] [172, 173]) f H = thenC call it base (.region s_gnomonlaw03_TokenKnown_r14t1 [] [172, 173]) (opsC [] s_gnomonlaw03_TokenKnown_r14p0 [172] (evOps call base [⟨some 173, (.mkSl [(.s (.int .u8 0))] 1 1 (.c (.s (.int .i64 1048577))) (.c (.s (.int .i64 1048577)))), none⟩] f H)) := (row_op call it base s_gnomonlaw03_TokenKnown_r14p0 s_gnomonlaw03_TokenKnown_r14t1 (kc := [172]) (by kernel_rfl) f H).trans (by rw [row_ops]; rfl)
theorem s_gnomonlaw03_TokenKnown_r14t1_tale (fr : List V) (H : Heap) : evTale (symAll s_gnomonlaw03_TokenKnown_r14t1 [172, 173] [12]) [172, 173] fr H = evTale (some (13, [], [(12, (.t 173))])) [172, 173] fr H := tale_row (items := [.tt 173]) (by kernel_rfl) fr H
theorem s_gnomonlaw03_TokenKnown_r14t1_x (call : CallF) (it : IterF) (base : Nat) (f : List V) (H : Heap) : evC call it base (.region s_gnomonlaw03_TokenKnown_r14t1 [] [172, 173]) f H = segL H (evTale (symAll s_gnomonlaw03_TokenKnown_r14t1 [172, 173] [12]) [172, 173] f H) (origRow call it base s_gnomonlaw03_TokenKnown_r14t1 [172, 173] f H) := row_last call it base _ f H
def s_gnomonlaw03_TokenKnown_r15 : List AOper := [
  ⟨some 13, (.move (.c (.s (.int .i64 0)))), none⟩]
theorem s_gnomonlaw03_TokenKnown_r15_tale (fr : List V) (H : Heap) : evTale (symAll s_gnomonlaw03_TokenKnown_r15 [] [13]) [] fr H = evTale (some (14, [], [(13, (.c (.s (.int .i64 0))))])) [] fr H := tale_row (items := [.cc (.s (.int .i64 0))]) (by kernel_rfl) fr H
def s_gnomonlaw03_TokenKnown_r16 : List AOper := [
  ⟨some 174, (.move (.t 13)), none⟩,
  ⟨some 175, (.move (.t 12)), none⟩,
  ⟨some 176, (.lenS .s (.t 175)), none⟩,
  ⟨some 177, (.bin .lss (.t 174) (.t 176)), none⟩]
theorem s_gnomonlaw03_TokenKnown_r16_tale (fr : List V) (H : Heap) : evTale (symAll s_gnomonlaw03_TokenKnown_r16 [174, 175, 176] [177]) [174, 175, 176] fr H = evTale (some (178, [], [(177, (.op (.bin .lss (.t 0) (.t 1)) [(.t 13), (.op (.lenS .s (.t 0)) [(.t 12)])]))])) [174, 175, 176] fr H := tale_row (items := [.tt 13, .tt 12, .sub 0 [1] [], .sub 0 [] []]) (by kernel_rfl) fr H
def s_gnomonlaw03_TokenKnown_r17t1 : List AOper := [⟨none, (.store 1 (.t 182) (.c (.s (.int .u8 59)))), none⟩]
def s_gnomonlaw03_TokenKnown_r17p0 : List AOper := [⟨some 180, (.move (.t 12)), none⟩, ⟨some 181, (.move (.t 13)), none⟩, ⟨some 182, (.indexAddr 1 (.t 180) (.t 181)), none⟩]
def s_gnomonlaw03_TokenKnown_r17 : List AOper := s_gnomonlaw03_TokenKnown_r17p0 ++ s_gnomonlaw03_TokenKnown_r17t1
theorem s_gnomonlaw03_TokenKnown_r17p0_tale (fr : List V) (H : Heap) : evTale (symAll s_gnomonlaw03_TokenKnown_r17p0 [177, 180, 181] [182]) [177, 180, 181] fr H = evTale (some (183, [], [(182, (.op (.indexAddr 1 (.t 0) (.t 1)) [(.t 12), (.t 13)]))])) [177, 180, 181] fr H := tale_row (items := [.tt 12, .tt 13, .sub 0 [] []]) (by kernel_rfl) fr H
theorem s_gnomonlaw03_TokenKnown_r17_x (call : CallF) (it : IterF) (base : Nat) (f : List V) (H : Heap) : evC call it base (.region s_gnomonlaw03_TokenKnown_r17 [] [177, 180, 181, 182]) f H = segC call it base s_gnomonlaw03_TokenKnown_r17t1 [177, 180, 181, 182] H (evTale (symAll s_gnomonlaw03_TokenKnown_r17p0 [177, 180, 181] [182]) [177, 180, 181] f H) (origRow call it base s_gnomonlaw03_TokenKnown_r17 [177, 180, 181, 182] f H) := row_seg call it base s_gnomonlaw03_TokenKnown_r17p0 s_gnomonlaw03_TokenKnown_r17t1 (by kernel_rfl) f H
theorem s_gnomonlaw03_TokenKnown_r17t1_x (call : CallF) (it : IterF) (base : Nat) (f : List V) (H : Heap) : evC call it base (.region s_gnomonlaw03_TokenKnown_r17t1 [] [177, 180, 181, 182]) f H = opsC [] s_gnomonlaw03_TokenKnown_r17t1 [177, 180, 181, 182] (evOps call base [⟨none, (.store 1 (.t 182) (.c (.s (.int .u8 59)))), none⟩] f H) := row_ops call it base _ _ f H
def s_gnomonlaw03_TokenKnown_r18 : List AOper := [
  ⟨some 178, (.move (.t 13)), none⟩,
  ⟨some 179, (.bin .add (.t 178) (.c (.s (.int .i64 1)))), none⟩,
  ⟨some 13, (.move (.t 179)), none⟩]
theorem s_gnomonlaw03_TokenKnown_r18_tale (fr : List V) (H : Heap) : evTale (symAll s_gnomonlaw03_TokenKnown_r18 [178, 179] [13]) [178, 179] fr H = evTale (some (180, [], [(13, (.op (.bin .add (.t 0) (.c (.s (.int .i64 1)))) [(.t 13), (.c (.s (.int .i64 1)))]))])) [178, 179] fr H := tale_row (items := [.tt 13, .sub 0 [] [], .sub 0 [] []]) (by kernel_rfl) fr H
def s_gnomonlaw03_TokenKnown_l1_b : ACode :=
  (.seq (.seq (.regionE s_gnomonlaw03_TokenKnown_r16 [174, 175, 176] [177])
  (.cond (.t 177)
  .skip
  (.exit 2)))
  (.seq (.block 3
  (.region s_gnomonlaw03_TokenKnown_r17 [] [177, 180, 181, 182]))
  (.regionE s_gnomonlaw03_TokenKnown_r18 [178, 179] [13])))
def s_gnomonlaw03_TokenKnown_l1 : ACode := s_gnomonlaw03_TokenKnown_l1_b
theorem s_gnomonlaw03_TokenKnown_l1_ev (call : CallF) (it : IterF) (base : Nat) (fr : List V) (H : Heap) : evC call it base s_gnomonlaw03_TokenKnown_l1 fr H = evC call it base s_gnomonlaw03_TokenKnown_l1_b fr H := rfl
def s_gnomonlaw03_TokenKnown_r19t7 : List AOper := [⟨some 16, (.move (.t 189)), none⟩]
def s_gnomonlaw03_TokenKnown_r19p6 : List AOper := [⟨none, (.store 2 (.t 15) (.t 188)), none⟩]
def s_gnomonlaw03_TokenKnown_r19t6 : List AOper := s_gnomonlaw03_TokenKnown_r19p6 ++ s_gnomonlaw03_TokenKnown_r19t7
def s_gnomonlaw03_TokenKnown_r19p5 : List AOper := [⟨some 14, (.move (.t 187)), none⟩]
def s_gnomonlaw03_TokenKnown_r19t5 : List AOper := s_gnomonlaw03_TokenKnown_r19p5 ++ s_gnomonlaw03_TokenKnown_r19t6
def s_gnomonlaw03_TokenKnown_r19p4 : List AOper := [⟨some 15, (.alloc [(.s (.int .i64 0)), (.s (.int .i64 0))]), none⟩]
def s_gnomonlaw03_TokenKnown_r19t4 : List AOper := s_gnomonlaw03_TokenKnown_r19p4 ++ s_gnomonlaw03_TokenKnown_r19t5
def s_gnomonlaw03_TokenKnown_r19p3 : List AOper := [⟨some 183, (.move (.t 186)), none⟩, ⟨some 187, (.extract (.t 183) 0), none⟩, ⟨some 188, (.extract (.t 183) 1), none⟩, ⟨some 189, (.extract (.t 183) 2), none⟩]
def s_gnomonlaw03_TokenKnown_r19t3 : List AOper := s_gnomonlaw03_TokenKnown_r19p3 ++ s_gnomonlaw03_TokenKnown_r19t4
def s_gnomonlaw03_TokenKnown_r19p2 : List AOper := [⟨some 186, (.call (.c (.fn 8 [] [])) [(.t 185)]), none⟩]
def s_gnomonlaw03_TokenKnown_r19t2 : List AOper := s_gnomonlaw03_TokenKnown_r19p2 ++ s_gnomonlaw03_TokenKnown_r19t3
def s_gnomonlaw03_TokenKnown_r19p1 : List AOper := [⟨some 185, (.bstr (.t 184)), none⟩]
def s_gnomonlaw03_TokenKnown_r19t1 : List AOper := s_gnomonlaw03_TokenKnown_r19p1 ++ s_gnomonlaw03_TokenKnown_r19t2
def s_gnomonlaw03_TokenKnown_r19p0 : List AOper := [⟨some 184, (.move (.t 12)), none⟩]
def s_gnomonlaw03_TokenKnown_r19 : List AOper := s_gnomonlaw03_TokenKnown_r19p0 ++ s_gnomonlaw03_TokenKnown_r19t1
theorem s_gnomonlaw03_TokenKnown_r19p0_tale (fr : List V) (H : Heap) : evTale (symAll s_gnomonlaw03_TokenKnown_r19p0 [13, 177] [184]) [13, 177] fr H = evTale (some (185, [], [(184, (.t 12))])) [13, 177] fr H := tale_row (items := [.tt 12]) (by kernel_rfl) fr H
theorem s_gnomonlaw03_TokenKnown_r19_x (call : CallF) (it : IterF) (base : Nat) (f : List V) (H : Heap) : evC call it base (.region s_gnomonlaw03_TokenKnown_r19 [] [13, 177, 183, 184, 185, 186, 187, 188, 189]) f H = segC call it base s_gnomonlaw03_TokenKnown_r19t1 [13, 177, 183, 184, 185, 186, 187, 188, 189] H (evTale (symAll s_gnomonlaw03_TokenKnown_r19p0 [13, 177] [184]) [13, 177] f H) (origRow call it base s_gnomonlaw03_TokenKnown_r19 [13, 177, 183, 184, 185, 186, 187, 188, 189] f H) := row_seg call it base s_gnomonlaw03_TokenKnown_r19p0 s_gnomonlaw03_TokenKnown_r19t1 (by kernel_rfl) f H
theorem s_gnomonlaw03_TokenKnown_r19t1_x (call : CallF) (it : IterF) (base : Nat) (f : List V) (H : Heap) : evC call it base (.region s_gnomonlaw03_TokenKnown_r19t1 [] [13, 177, 183, 184, 185, 186, 187, 188, 189]) f H = thenC call it base (.region s_gnomonlaw03_TokenKnown_r19t2 [] [13, 177, 183, 184, 185, 186, 187, 188, 189]) (opsC [] s_gnomonlaw03_TokenKnown_r19p1 [184] (evOps call base [⟨some 185, (.bstr (.t 184)), none⟩] f H)) := (row_op call it base s_gnomonlaw03_TokenKnown_r19p1 s_gnomonlaw03_TokenKnown_r19t2 (kc := [184]) (by kernel_rfl) f H).trans (by rw [row_ops]; rfl)
theorem s_gnomonlaw03_TokenKnown_r19t2_x (call : CallF) (it : IterF) (base : Nat) (f : List V) (H : Heap) : evC call it base (.region s_gnomonlaw03_TokenKnown_r19t2 [] [13, 177, 183, 184, 185, 186, 187, 188, 189]) f H = thenC call it base (.region s_gnomonlaw03_TokenKnown_r19t3 [] [13, 177, 183, 184, 185, 186, 187, 188, 189]) (opsC [] s_gnomonlaw03_TokenKnown_r19p2 [185] (evOps call base [⟨some 186, (.call (.c (.fn 8 [] [])) [(.t 185)]), none⟩] f H)) := (row_op call it base s_gnomonlaw03_TokenKnown_r19p2 s_gnomonlaw03_TokenKnown_r19t3 (kc := [185]) (by kernel_rfl) f H).trans (by rw [row_ops]; rfl)
theorem s_gnomonlaw03_TokenKnown_r19p3_tale (fr : List V) (H : Heap) : evTale (symAll s_gnomonlaw03_TokenKnown_r19p3 [183, 186] [187, 188, 189]) [183, 186] fr H = evTale (some (190, [], [(187, (.op (.extract (.t 0) 0) [(.t 186)])), (188, (.op (.extract (.t 0) 1) [(.t 186)])), (189, (.op (.extract (.t 0) 2) [(.t 186)]))])) [183, 186] fr H := tale_row (items := [.tt 186, .sub 0 [] [], .sub 1 [] [], .sub 2 [] []]) (by kernel_rfl) fr H
theorem s_gnomonlaw03_TokenKnown_r19t3_x (call : CallF) (it : IterF) (base : Nat) (f : List V) (H : Heap) : evC call it base (.region s_gnomonlaw03_TokenKnown_r19t3 [] [13, 177, 183, 184, 185, 186, 187, 188, 189]) f H = segC call it base s_gnomonlaw03_TokenKnown_r19t4 [13, 177, 183, 184, 185, 186, 187, 188, 189] H (evTale (symAll s_gnomonlaw03_TokenKnown_r19p3 [183, 186] [187, 188, 189]) [183, 186] f H) (origRow call it base s_gnomonlaw03_TokenKnown_r19t3 [13, 177, 183, 184, 185, 186, 187, 188, 189] f H) := row_seg call it base s_gnomonlaw03_TokenKnown_r19p3 s_gnomonlaw03_TokenKnown_r19t4 (by kernel_rfl) f H
theorem s_gnomonlaw03_TokenKnown_r19t4_x (call : CallF) (it : IterF) (base : Nat) (f : List V) (H : Heap) : evC call it base (.region s_gnomonlaw03_TokenKnown_r19t4 [] [13, 177, 183, 184, 185, 186, 187, 188, 189]) f H = thenC call it base (.region s_gnomonlaw03_TokenKnown_r19t5 [] [13, 177, 183, 184, 185, 186, 187, 188, 189]) (opsC [] s_gnomonlaw03_TokenKnown_r19p4 [] (evOps call base [⟨some 15, (.alloc [(.s (.int .i64 0)), (.s (.int .i64 0))]), none⟩] f H)) := (row_op call it base s_gnomonlaw03_TokenKnown_r19p4 s_gnomonlaw03_TokenKnown_r19t5 (kc := []) (by kernel_rfl) f H).trans (by rw [row_ops]; rfl)
theorem s_gnomonlaw03_TokenKnown_r19p5_tale (fr : List V) (H : Heap) : evTale (symAll s_gnomonlaw03_TokenKnown_r19p5 [187] [14]) [187] fr H = evTale (some (15, [], [(14, (.t 187))])) [187] fr H := tale_row (items := [.tt 187]) (by kernel_rfl) fr H
theorem s_gnomonlaw03_TokenKnown_r19t5_x (call : CallF) (it : IterF) (base : Nat) (f : List V) (H : Heap) : evC call it base (.region s_gnomonlaw03_TokenKnown_r19t5 [] [13, 177, 183, 184, 185, 186, 187, 188, 189]) f H = segC call it base s_gnomonlaw03_TokenKnown_r19t6 [13, 177, 183, 184, 185, 186, 187, 188, 189] H (evTale (symAll s_gnomonlaw03_TokenKnown_r19p5 [187] [14]) [187] f H) (origRow call it base s_gnomonlaw03_TokenKnown_r19t5 [13, 177, 183, 184, 185, 186, 187, 188, 189] f H) := row_seg call it base s_gnomonlaw03_TokenKnown_r19p5 s_gnomonlaw03_TokenKnown_r19t6 (by kernel_rfl) f H
theorem s_gnomonlaw03_TokenKnown_r19t6_x (call : CallF) (it : IterF) (base : Nat) (f : List V) (H : Heap) : evC call it base (.region s_gnomonlaw03_TokenKnown_r19t6 [] [13, 177, 183, 184, 185, 186, 187, 188, 189]) f H = thenC call it base (.region s_gnomonlaw03_TokenKnown_r19t7 [] [13, 177, 183, 184, 185, 186, 187, 188, 189]) (opsC [] s_gnomonlaw03_TokenKnown_r19p6 [188] (evOps call base [⟨none, (.store 2 (.t 15) (.t 188)), none⟩] f H)) := (row_op call it base s_gnomonlaw03_TokenKnown_r19p6 s_gnomonlaw03_TokenKnown_r19t7 (kc := [188]) (by kernel_rfl) f H).trans (by rw [row_ops]; rfl)
theorem s_gnomonlaw03_TokenKnown_r19t7_tale (fr : List V) (H : Heap) : evTale (symAll s_gnomonlaw03_TokenKnown_r19t7 [13, 177, 183, 184, 185, 186, 187, 188, 189] [16]) [13, 177, 183, 184, 185, 186, 187, 188, 189] fr H = evTale (some (17, [], [(16, (.t 189))])) [13, 177, 183, 184, 185, 186, 187, 188, 189] fr H := tale_row (items := [.tt 189]) (by kernel_rfl) fr H
theorem s_gnomonlaw03_TokenKnown_r19t7_x (call : CallF) (it : IterF) (base : Nat) (f : List V) (H : Heap) : evC call it base (.region s_gnomonlaw03_TokenKnown_r19t7 [] [13, 177, 183, 184, 185, 186, 187, 188, 189]) f H = segL H (evTale (symAll s_gnomonlaw03_TokenKnown_r19t7 [13, 177, 183, 184, 185, 186, 187, 188, 189] [16]) [13, 177, 183, 184, 185, 186, 187, 188, 189] f H) (origRow call it base s_gnomonlaw03_TokenKnown_r19t7 [13, 177, 183, 184, 185, 186, 187, 188, 189] f H) := row_last call it base _ f H
def s_gnomonlaw03_TokenKnown_r20t7 : List AOper := [⟨some 19, (.move (.t 197)), none⟩]
def s_gnomonlaw03_TokenKnown_r20p6 : List AOper := [⟨none, (.store 2 (.t 18) (.t 196)), none⟩]
def s_gnomonlaw03_TokenKnown_r20t6 : List AOper := s_gnomonlaw03_TokenKnown_r20p6 ++ s_gnomonlaw03_TokenKnown_r20t7
def s_gnomonlaw03_TokenKnown_r20p5 : List AOper := [⟨some 17, (.move (.t 195)), none⟩]
def s_gnomonlaw03_TokenKnown_r20t5 : List AOper := s_gnomonlaw03_TokenKnown_r20p5 ++ s_gnomonlaw03_TokenKnown_r20t6
def s_gnomonlaw03_TokenKnown_r20p4 : List AOper := [⟨some 18, (.alloc [(.s (.int .i64 0)), (.s (.int .i64 0))]), none⟩]
def s_gnomonlaw03_TokenKnown_r20t4 : List AOper := s_gnomonlaw03_TokenKnown_r20p4 ++ s_gnomonlaw03_TokenKnown_r20t5
def s_gnomonlaw03_TokenKnown_r20p3 : List AOper := [⟨some 190, (.move (.t 194)), none⟩, ⟨some 195, (.extract (.t 190) 0), none⟩, ⟨some 196, (.extract (.t 190) 1), none⟩, ⟨some 197, (.extract (.t 190) 2), none⟩]
def s_gnomonlaw03_TokenKnown_r20t3 : List AOper := s_gnomonlaw03_TokenKnown_r20p3 ++ s_gnomonlaw03_TokenKnown_r20t4
def s_gnomonlaw03_TokenKnown_r20p2 : List AOper := [⟨some 194, (.call (.c (.fn 8 [] [])) [(.t 193)]), none⟩]
def s_gnomonlaw03_TokenKnown_r20t2 : List AOper := s_gnomonlaw03_TokenKnown_r20p2 ++ s_gnomonlaw03_TokenKnown_r20t3
def s_gnomonlaw03_TokenKnown_r20p1 : List AOper := [⟨some 193, (.bstr (.t 192)), none⟩]
def s_gnomonlaw03_TokenKnown_r20t1 : List AOper := s_gnomonlaw03_TokenKnown_r20p1 ++ s_gnomonlaw03_TokenKnown_r20t2
def s_gnomonlaw03_TokenKnown_r20p0 : List AOper := [⟨some 191, (.move (.t 12)), none⟩, ⟨some 192, (.subSl 1 (.t 191) (some (.c (.s (.int .i64 1)))) none none), none⟩]
def s_gnomonlaw03_TokenKnown_r20 : List AOper := s_gnomonlaw03_TokenKnown_r20p0 ++ s_gnomonlaw03_TokenKnown_r20t1
theorem s_gnomonlaw03_TokenKnown_r20p0_tale (fr : List V) (H : Heap) : evTale (symAll s_gnomonlaw03_TokenKnown_r20p0 [12, 191] [192]) [12, 191] fr H = evTale (some (193, [], [(192, (.op (.subSl 1 (.t 0) (some (.c (.s (.int .i64 1)))) none none) [(.t 12), (.c (.s (.int .i64 1)))]))])) [12, 191] fr H := tale_row (items := [.tt 12, .sub 0 [] []]) (by kernel_rfl) fr H
theorem s_gnomonlaw03_TokenKnown_r20_x (call : CallF) (it : IterF) (base : Nat) (f : List V) (H : Heap) : evC call it base (.region s_gnomonlaw03_TokenKnown_r20 [] [12, 18, 190, 191, 192, 193, 194, 195, 196, 197]) f H = segC call it base s_gnomonlaw03_TokenKnown_r20t1 [12, 18, 190, 191, 192, 193, 194, 195, 196, 197] H (evTale (symAll s_gnomonlaw03_TokenKnown_r20p0 [12, 191] [192]) [12, 191] f H) (origRow call it base s_gnomonlaw03_TokenKnown_r20 [12, 18, 190, 191, 192, 193, 194, 195, 196, 197] f H) := row_seg call it base s_gnomonlaw03_TokenKnown_r20p0 s_gnomonlaw03_TokenKnown_r20t1 (by kernel_rfl) f H
theorem s_gnomonlaw03_TokenKnown_r20t1_x (call : CallF) (it : IterF) (base : Nat) (f : List V) (H : Heap) : evC call it base (.region s_gnomonlaw03_TokenKnown_r20t1 [] [12, 18, 190, 191, 192, 193, 194, 195, 196, 197]) f H = thenC call it base (.region s_gnomonlaw03_TokenKnown_r20t2 [] [12, 18, 190, 191, 192, 193, 194, 195, 196, 197]) (opsC [] s_gnomonlaw03_TokenKnown_r20p1 [192] (evOps call base [⟨some 193, (.bstr (.t 192)), none⟩] f H)) := (row_op call it base s_gnomonlaw03_TokenKnown_r20p1 s_gnomonlaw03_TokenKnown_r20t2 (kc := [192]) (by kernel_rfl) f H).trans (by rw [row_ops]; rfl)
theorem s_gnomonlaw03_TokenKnown_r20t2_x (call : CallF) (it : IterF) (base : Nat) (f : List V) (H : Heap) : evC call it base (.region s_gnomonlaw03_TokenKnown_r20t2 [] [12, 18, 190, 191, 192, 193, 194, 195, 196, 197]) f H = thenC call it base (.region s_gnomonlaw03_TokenKnown_r20t3 [] [12, 18, 190, 191, 192, 193, 194, 195, 196, 197]) (opsC [] s_gnomonlaw03_TokenKnown_r20p2 [193] (evOps call base [⟨some 194, (.call (.c (.fn 8 [] [])) [(.t 193)]), none⟩] f H)) := (row_op call it base s_gnomonlaw03_TokenKnown_r20p2 s_gnomonlaw03_TokenKnown_r20t3 (kc := [193]) (by kernel_rfl) f H).trans (by rw [row_ops]; rfl)
theorem s_gnomonlaw03_TokenKnown_r20p3_tale (fr : List V) (H : Heap) : evTale (symAll s_gnomonlaw03_TokenKnown_r20p3 [190, 194] [195, 196, 197]) [190, 194] fr H = evTale (some (198, [], [(195, (.op (.extract (.t 0) 0) [(.t 194)])), (196, (.op (.extract (.t 0) 1) [(.t 194)])), (197, (.op (.extract (.t 0) 2) [(.t 194)]))])) [190, 194] fr H := tale_row (items := [.tt 194, .sub 0 [] [], .sub 1 [] [], .sub 2 [] []]) (by kernel_rfl) fr H
theorem s_gnomonlaw03_TokenKnown_r20t3_x (call : CallF) (it : IterF) (base : Nat) (f : List V) (H : Heap) : evC call it base (.region s_gnomonlaw03_TokenKnown_r20t3 [] [12, 18, 190, 191, 192, 193, 194, 195, 196, 197]) f H = segC call it base s_gnomonlaw03_TokenKnown_r20t4 [12, 18, 190, 191, 192, 193, 194, 195, 196, 197] H (evTale (symAll s_gnomonlaw03_TokenKnown_r20p3 [190, 194] [195, 196, 197]) [190, 194] f H) (origRow call it base s_gnomonlaw03_TokenKnown_r20t3 [12, 18, 190, 191, 192, 193, 194, 195, 196, 197] f H) := row_seg call it base s_gnomonlaw03_TokenKnown_r20p3 s_gnomonlaw03_TokenKnown_r20t4 (by kernel_rfl) f H
theorem s_gnomonlaw03_TokenKnown_r20t4_x (call : CallF) (it : IterF) (base : Nat) (f : List V) (H : Heap) : evC call it base (.region s_gnomonlaw03_TokenKnown_r20t4 [] [12, 18, 190, 191, 192, 193, 194, 195, 196, 197]) f H = thenC call it base (.region s_gnomonlaw03_TokenKnown_r20t5 [] [12, 18, 190, 191, 192, 193, 194, 195, 196, 197]) (opsC [] s_gnomonlaw03_TokenKnown_r20p4 [] (evOps call base [⟨some 18, (.alloc [(.s (.int .i64 0)), (.s (.int .i64 0))]), none⟩] f H)) := (row_op call it base s_gnomonlaw03_TokenKnown_r20p4 s_gnomonlaw03_TokenKnown_r20t5 (kc := []) (by kernel_rfl) f H).trans (by rw [row_ops]; rfl)
theorem s_gnomonlaw03_TokenKnown_r20p5_tale (fr : List V) (H : Heap) : evTale (symAll s_gnomonlaw03_TokenKnown_r20p5 [195] [17]) [195] fr H = evTale (some (18, [], [(17, (.t 195))])) [195] fr H := tale_row (items := [.tt 195]) (by kernel_rfl) fr H
theorem s_gnomonlaw03_TokenKnown_r20t5_x (call : CallF) (it : IterF) (base : Nat) (f : List V) (H : Heap) : evC call it base (.region s_gnomonlaw03_TokenKnown_r20t5 [] [12, 18, 190, 191, 192, 193, 194, 195, 196, 197]) f H = segC call it base s_gnomonlaw03_TokenKnown_r20t6 [12, 18, 190, 191, 192, 193, 194, 195, 196, 197] H (evTale (symAll s_gnomonlaw03_TokenKnown_r20p5 [195] [17]) [195] f H) (origRow call it base s_gnomonlaw03_TokenKnown_r20t5 [12, 18, 190, 191, 192, 193, 194, 195, 196, 197] f H) := row_seg call it base s_gnomonlaw03_TokenKnown_r20p5 s_gnomonlaw03_TokenKnown_r20t6 (by kernel_rfl) f H
theorem s_gnomonlaw03_TokenKnown_r20t6_x (call : CallF) (it : IterF) (base : Nat) (f : List V) (H : Heap) : evC call it base (.region s_gnomonlaw03_TokenKnown_r20t6 [] [12, 18, 190, 191, 192, 193, 194, 195, 196, 197]) f H = thenC call it base (.region s_gnomonlaw03_TokenKnown_r20t7 [] [12, 18, 190, 191, 192, 193, 194, 195, 196, 197]) (opsC [] s_gnomonlaw03_TokenKnown_r20p6 [18, 196] (evOps call base [⟨none, (.store 2 (.t 18) (.t 196)), none⟩] f H)) := (row_op call it base s_gnomonlaw03_TokenKnown_r20p6 s_gnomonlaw03_TokenKnown_r20t7 (kc := [18, 196]) (by kernel_rfl) f H).trans (by rw [row_ops]; rfl)
theorem s_gnomonlaw03_TokenKnown_r20t7_tale (fr : List V) (H : Heap) : evTale (symAll s_gnomonlaw03_TokenKnown_r20t7 [12, 18, 190, 191, 192, 193, 194, 195, 196, 197] [19]) [12, 18, 190, 191, 192, 193, 194, 195, 196, 197] fr H = evTale (some (20, [], [(19, (.t 197))])) [12, 18, 190, 191, 192, 193, 194, 195, 196, 197] fr H := tale_row (items := [.tt 197]) (by kernel_rfl) fr H
theorem s_gnomonlaw03_TokenKnown_r20t7_x (call : CallF) (it : IterF) (base : Nat) (f : List V) (H : Heap) : evC call it base (.region s_gnomonlaw03_TokenKnown_r20t7 [] [12, 18, 190, 191, 192, 193, 194, 195, 196, 197]) f H = segL H (evTale (symAll s_gnomonlaw03_TokenKnown_r20t7 [12, 18, 190, 191, 192, 193, 194, 195, 196, 197] [19]) [12, 18, 190, 191, 192, 193, 194, 195, 196, 197] f H) (origRow call it base s_gnomonlaw03_TokenKnown_r20t7 [12, 18, 190, 191, 192, 193, 194, 195, 196, 197] f H) := row_last call it base _ f H
def s_gnomonlaw03_TokenKnown_r21t5 : List AOper := [⟨some 22, (.move (.t 202)), none⟩]
def s_gnomonlaw03_TokenKnown_r21p4 : List AOper := [⟨none, (.store 2 (.t 21) (.t 201)), none⟩]
def s_gnomonlaw03_TokenKnown_r21t4 : List AOper := s_gnomonlaw03_TokenKnown_r21p4 ++ s_gnomonlaw03_TokenKnown_r21t5
def s_gnomonlaw03_TokenKnown_r21p3 : List AOper := [⟨some 20, (.move (.t 200)), none⟩]
def s_gnomonlaw03_TokenKnown_r21t3 : List AOper := s_gnomonlaw03_TokenKnown_r21p3 ++ s_gnomonlaw03_TokenKnown_r21t4
def s_gnomonlaw03_TokenKnown_r21p2 : List AOper := [⟨some 21, (.alloc [(.s (.int .i64 0)), (.s (.int .i64 0))]), none⟩]
def s_gnomonlaw03_TokenKnown_r21t2 : List AOper := s_gnomonlaw03_TokenKnown_r21p2 ++ s_gnomonlaw03_TokenKnown_r21t3
def s_gnomonlaw03_TokenKnown_r21p1 : List AOper := [⟨some 198, (.move (.t 199)), none⟩, ⟨some 200, (.extract (.t 198) 0), none⟩, ⟨some 201, (.extract (.t 198) 1), none⟩, ⟨some 202, (.extract (.t 198) 2), none⟩]
def s_gnomonlaw03_TokenKnown_r21t1 : List AOper := s_gnomonlaw03_TokenKnown_r21p1 ++ s_gnomonlaw03_TokenKnown_r21t2
def s_gnomonlaw03_TokenKnown_r21p0 : List AOper := [⟨some 199, (.call (.c (.fn 8 [] [])) [(.c (.s (.string ⟨#[]⟩)))]), none⟩]
def s_gnomonlaw03_TokenKnown_r21 : List AOper := s_gnomonlaw03_TokenKnown_r21p0 ++ s_gnomonlaw03_TokenKnown_r21t1
theorem s_gnomonlaw03_TokenKnown_r21_x (call : CallF) (it : IterF) (base : Nat) (f : List V) (H : Heap) : evC call it base (.region s_gnomonlaw03_TokenKnown_r21 [] [21, 198, 199, 200, 201, 202]) f H = thenC call it base (.region s_gnomonlaw03_TokenKnown_r21t1 [] [21, 198, 199, 200, 201, 202]) (opsC [] s_gnomonlaw03_TokenKnown_r21p0 [] (evOps call base [⟨some 199, (.call (.c (.fn 8 [] [])) [(.c (.s (.string ⟨#[]⟩)))]), none⟩] f H)) := (row_op call it base s_gnomonlaw03_TokenKnown_r21p0 s_gnomonlaw03_TokenKnown_r21t1 (kc := []) (by kernel_rfl) f H).trans (by rw [row_ops]; rfl)
theorem s_gnomonlaw03_TokenKnown_r21p1_tale (fr : List V) (H : Heap) : evTale (symAll s_gnomonlaw03_TokenKnown_r21p1 [198, 199] [200, 201, 202]) [198, 199] fr H = evTale (some (203, [], [(200, (.op (.extract (.t 0) 0) [(.t 199)])), (201, (.op (.extract (.t 0) 1) [(.t 199)])), (202, (.op (.extract (.t 0) 2) [(.t 199)]))])) [198, 199] fr H := tale_row (items := [.tt 199, .sub 0 [] [], .sub 1 [] [], .sub 2 [] []]) (by kernel_rfl) fr H
theorem s_gnomonlaw03_TokenKnown_r21t1_x (call : CallF) (it : IterF) (base : Nat) (f : List V) (H : Heap) : evC call it base (.region s_gnomonlaw03_TokenKnown_r21t1 [] [21, 198, 199, 200, 201, 202]) f H = segC call it base s_gnomonlaw03_TokenKnown_r21t2 [21, 198, 199, 200, 201, 202] H (evTale (symAll s_gnomonlaw03_TokenKnown_r21p1 [198, 199] [200, 201, 202]) [198, 199] f H) (origRow call it base s_gnomonlaw03_TokenKnown_r21t1 [21, 198, 199, 200, 201, 202] f H) := row_seg call it base s_gnomonlaw03_TokenKnown_r21p1 s_gnomonlaw03_TokenKnown_r21t2 (by kernel_rfl) f H
theorem s_gnomonlaw03_TokenKnown_r21t2_x (call : CallF) (it : IterF) (base : Nat) (f : List V) (H : Heap) : evC call it base (.region s_gnomonlaw03_TokenKnown_r21t2 [] [21, 198, 199, 200, 201, 202]) f H = thenC call it base (.region s_gnomonlaw03_TokenKnown_r21t3 [] [21, 198, 199, 200, 201, 202]) (opsC [] s_gnomonlaw03_TokenKnown_r21p2 [] (evOps call base [⟨some 21, (.alloc [(.s (.int .i64 0)), (.s (.int .i64 0))]), none⟩] f H)) := (row_op call it base s_gnomonlaw03_TokenKnown_r21p2 s_gnomonlaw03_TokenKnown_r21t3 (kc := []) (by kernel_rfl) f H).trans (by rw [row_ops]; rfl)
theorem s_gnomonlaw03_TokenKnown_r21p3_tale (fr : List V) (H : Heap) : evTale (symAll s_gnomonlaw03_TokenKnown_r21p3 [200] [20]) [200] fr H = evTale (some (21, [], [(20, (.t 200))])) [200] fr H := tale_row (items := [.tt 200]) (by kernel_rfl) fr H
theorem s_gnomonlaw03_TokenKnown_r21t3_x (call : CallF) (it : IterF) (base : Nat) (f : List V) (H : Heap) : evC call it base (.region s_gnomonlaw03_TokenKnown_r21t3 [] [21, 198, 199, 200, 201, 202]) f H = segC call it base s_gnomonlaw03_TokenKnown_r21t4 [21, 198, 199, 200, 201, 202] H (evTale (symAll s_gnomonlaw03_TokenKnown_r21p3 [200] [20]) [200] f H) (origRow call it base s_gnomonlaw03_TokenKnown_r21t3 [21, 198, 199, 200, 201, 202] f H) := row_seg call it base s_gnomonlaw03_TokenKnown_r21p3 s_gnomonlaw03_TokenKnown_r21t4 (by kernel_rfl) f H
theorem s_gnomonlaw03_TokenKnown_r21t4_x (call : CallF) (it : IterF) (base : Nat) (f : List V) (H : Heap) : evC call it base (.region s_gnomonlaw03_TokenKnown_r21t4 [] [21, 198, 199, 200, 201, 202]) f H = thenC call it base (.region s_gnomonlaw03_TokenKnown_r21t5 [] [21, 198, 199, 200, 201, 202]) (opsC [] s_gnomonlaw03_TokenKnown_r21p4 [21, 201] (evOps call base [⟨none, (.store 2 (.t 21) (.t 201)), none⟩] f H)) := (row_op call it base s_gnomonlaw03_TokenKnown_r21p4 s_gnomonlaw03_TokenKnown_r21t5 (kc := [21, 201]) (by kernel_rfl) f H).trans (by rw [row_ops]; rfl)
theorem s_gnomonlaw03_TokenKnown_r21t5_tale (fr : List V) (H : Heap) : evTale (symAll s_gnomonlaw03_TokenKnown_r21t5 [21, 198, 199, 200, 201, 202] [22]) [21, 198, 199, 200, 201, 202] fr H = evTale (some (23, [], [(22, (.t 202))])) [21, 198, 199, 200, 201, 202] fr H := tale_row (items := [.tt 202]) (by kernel_rfl) fr H
theorem s_gnomonlaw03_TokenKnown_r21t5_x (call : CallF) (it : IterF) (base : Nat) (f : List V) (H : Heap) : evC call it base (.region s_gnomonlaw03_TokenKnown_r21t5 [] [21, 198, 199, 200, 201, 202]) f H = segL H (evTale (symAll s_gnomonlaw03_TokenKnown_r21t5 [21, 198, 199, 200, 201, 202] [22]) [21, 198, 199, 200, 201, 202] f H) (origRow call it base s_gnomonlaw03_TokenKnown_r21t5 [21, 198, 199, 200, 201, 202] f H) := row_last call it base _ f H
def s_gnomonlaw03_TokenKnown_r22t2 : List AOper := [⟨some 251, (.pick (.t 249) (.t 250) (.c (.s (.bool false)))), none⟩, ⟨some 0, (.move (.t 251)), none⟩]
def s_gnomonlaw03_TokenKnown_r22p1 : List AOper := [⟨some 250, (.call (.c (.fn 11 [] [])) []), some (249, true)⟩]
def s_gnomonlaw03_TokenKnown_r22t1 : List AOper := s_gnomonlaw03_TokenKnown_r22p1 ++ s_gnomonlaw03_TokenKnown_r22t2
def s_gnomonlaw03_TokenKnown_r22p0 : List AOper := [⟨some 203, (.move (.t 14)), none⟩, ⟨some 204, (.lenS .s (.t 203)), none⟩, ⟨some 205, (.bin .eql (.t 204) (.c (.s (.int .i64 0)))), none⟩, ⟨some 206, (.move (.t 205)), none⟩, ⟨some 207, (.load true 2 (.t 15)), some (206, true)⟩, ⟨some 208, (.build [(.s (.int .i64 0)), (.s (.int .i64 0))] [(0, 1), (1, 1)] []), some (206, true)⟩, ⟨some 209, (.eqAgg false [(.int .i64), (.int .i64)] (.t 207) (.t 208)), some (206, true)⟩, ⟨some 210, (.pick (.t 206) (.t 209) (.c (.s (.bool false)))), none⟩, ⟨some 211, (.move (.t 210)), none⟩, ⟨some 212, (.move (.t 16)), some (211, true)⟩, ⟨some 213, (.bin .eql (.t 212) (.c (.s (.int .i64 2)))), some (211, true)⟩, ⟨some 214, (.pick (.t 211) (.t 213) (.c (.s (.bool false)))), none⟩, ⟨some 215, (.move (.t 214)), none⟩, ⟨some 216, (.move (.t 17)), some (215, true)⟩, ⟨some 217, (.lenS .s (.t 216)), some (215, true)⟩, ⟨some 218, (.bin .eql (.t 217) (.c (.s (.int .i64 1)))), some (215, true)⟩, ⟨some 219, (.pick (.t 215) (.t 218) (.c (.s (.bool false)))), none⟩, ⟨some 220, (.move (.t 219)), none⟩, ⟨some 221, (.move (.t 19)), some (220, true)⟩, ⟨some 222, (.bin .eql (.t 221) (.c (.s (.int .i64 0)))), some (220, true)⟩, ⟨some 223, (.pick (.t 220) (.t 222) (.c (.s (.bool false)))), none⟩, ⟨some 224, (.move (.t 223)), none⟩, ⟨some 225, (.move (.t 17)), some (224, true)⟩, ⟨some 226, (.indexAddr 5 (.t 225) (.c (.s (.int .i64 0)))), some (224, true)⟩, ⟨some 227, (.fieldAddr 3 (.t 226)), some (224, true)⟩, ⟨some 228, (.fieldAddr 1 (.t 227)), some (224, true)⟩, ⟨some 229, (.load false 1 (.t 228)), some (224, true)⟩, ⟨some 230, (.bin .eql (.t 229) (.c (.s (.int .i64 1048577)))), some (224, true)⟩, ⟨some 231, (.pick (.t 224) (.t 230) (.c (.s (.bool false)))), none⟩, ⟨some 232, (.move (.t 231)), none⟩, ⟨some 233, (.move (.t 22)), some (232, true)⟩, ⟨some 234, (.bin .eql (.t 233) (.c (.s (.int .i64 0)))), some (232, true)⟩, ⟨some 235, (.pick (.t 232) (.t 234) (.c (.s (.bool false)))), none⟩, ⟨some 236, (.move (.t 235)), none⟩, ⟨some 237, (.move (.t 20)), some (236, true)⟩, ⟨some 238, (.lenS .s (.t 237)), some (236, true)⟩, ⟨some 239, (.bin .eql (.t 238) (.c (.s (.int .i64 1)))), some (236, true)⟩, ⟨some 240, (.pick (.t 236) (.t 239) (.c (.s (.bool false)))), none⟩, ⟨some 241, (.move (.t 240)), none⟩, ⟨some 242, (.move (.t 20)), some (241, true)⟩, ⟨some 243, (.indexAddr 5 (.t 242) (.c (.s (.int .i64 0)))), some (241, true)⟩, ⟨some 244, (.load true 5 (.t 243)), some (241, true)⟩, ⟨some 245, (.build [(.s (.int .i64 0)), (.s (.int .i64 0))] [(0, 1), (1, 1)] [(0, (.c (.s (.int .i64 1)))), (1, (.c (.s (.int .i64 1))))]), some (241, true)⟩, ⟨some 246, (.build [(.s (.int .u8 0)), (.s (.string ⟨#[]⟩)), (.s (.int .i64 0)), (.s (.int .i64 0)), (.s (.int .i64 0))] [(0, 1), (1, 1), (2, 1), (3, 2)] [(0, (.c (.s (.int .u8 4)))), (3, (.t 245))]), some (241, true)⟩, ⟨some 247, (.eqAgg false [(.int .u8), .str, (.int .i64), (.int .i64), (.int .i64)] (.t 244) (.t 246)), some (241, true)⟩, ⟨some 248, (.pick (.t 241) (.t 247) (.c (.s (.bool false)))), none⟩, ⟨some 249, (.move (.t 248)), none⟩]
def s_gnomonlaw03_TokenKnown_r22 : List AOper := s_gnomonlaw03_TokenKnown_r22p0 ++ s_gnomonlaw03_TokenKnown_r22t1
def s_gnomonlaw03_TokenKnown_r22p0_k : List Nat := [14, 15, 16, 17, 19, 20, 22, 203, 204, 205, 206, 207, 208, 209, 210, 211, 212, 213, 214, 215, 216, 217, 218, 219, 220, 221, 222, 223, 224, 225, 226, 227, 228, 229, 230, 231, 232, 233, 234, 235, 236, 237, 238, 239, 240, 241, 242, 243, 244, 245, 246, 247, 248]
theorem s_gnomonlaw03_TokenKnown_r22p0_k_kA203 : s_gnomonlaw03_TokenKnown_r22p0_k.contains 203 = true := by kernel_rfl
theorem s_gnomonlaw03_TokenKnown_r22p0_k_kA204 : s_gnomonlaw03_TokenKnown_r22p0_k.contains 204 = true := by kernel_rfl
theorem s_gnomonlaw03_TokenKnown_r22p0_k_kA205 : s_gnomonlaw03_TokenKnown_r22p0_k.contains 205 = true := by kernel_rfl
theorem s_gnomonlaw03_TokenKnown_r22p0_k_kA206 : s_gnomonlaw03_TokenKnown_r22p0_k.contains 206 = true := by kernel_rfl
theorem s_gnomonlaw03_TokenKnown_r22p0_k_kA207 : s_gnomonlaw03_TokenKnown_r22p0_k.contains 207 = true := by kernel_rfl
theorem s_gnomonlaw03_TokenKnown_r22p0_k_kA208 : s_gnomonlaw03_TokenKnown_r22p0_k.contains 208 = true := by kernel_rfl
theorem s_gnomonlaw03_TokenKnown_r22p0_k_kA209 : s_gnomonlaw03_TokenKnown_r22p0_k.contains 209 = true := by kernel_rfl
theorem s_gnomonlaw03_TokenKnown_r22p0_k_kA210 : s_gnomonlaw03_TokenKnown_r22p0_k.contains 210 = true := by kernel_rfl
theorem s_gnomonlaw03_TokenKnown_r22p0_k_kA211 : s_gnomonlaw03_TokenKnown_r22p0_k.contains 211 = true := by kernel_rfl
theorem s_gnomonlaw03_TokenKnown_r22p0_k_kA212 : s_gnomonlaw03_TokenKnown_r22p0_k.contains 212 = true := by kernel_rfl
theorem s_gnomonlaw03_TokenKnown_r22p0_k_kA213 : s_gnomonlaw03_TokenKnown_r22p0_k.contains 213 = true := by kernel_rfl
theorem s_gnomonlaw03_TokenKnown_r22p0_k_kA214 : s_gnomonlaw03_TokenKnown_r22p0_k.contains 214 = true := by kernel_rfl
theorem s_gnomonlaw03_TokenKnown_r22p0_k_kA215 : s_gnomonlaw03_TokenKnown_r22p0_k.contains 215 = true := by kernel_rfl
theorem s_gnomonlaw03_TokenKnown_r22p0_k_kA216 : s_gnomonlaw03_TokenKnown_r22p0_k.contains 216 = true := by kernel_rfl
theorem s_gnomonlaw03_TokenKnown_r22p0_k_kA217 : s_gnomonlaw03_TokenKnown_r22p0_k.contains 217 = true := by kernel_rfl
theorem s_gnomonlaw03_TokenKnown_r22p0_k_kA218 : s_gnomonlaw03_TokenKnown_r22p0_k.contains 218 = true := by kernel_rfl
theorem s_gnomonlaw03_TokenKnown_r22p0_k_kA219 : s_gnomonlaw03_TokenKnown_r22p0_k.contains 219 = true := by kernel_rfl
theorem s_gnomonlaw03_TokenKnown_r22p0_k_kA220 : s_gnomonlaw03_TokenKnown_r22p0_k.contains 220 = true := by kernel_rfl
theorem s_gnomonlaw03_TokenKnown_r22p0_k_kA221 : s_gnomonlaw03_TokenKnown_r22p0_k.contains 221 = true := by kernel_rfl
theorem s_gnomonlaw03_TokenKnown_r22p0_k_kA222 : s_gnomonlaw03_TokenKnown_r22p0_k.contains 222 = true := by kernel_rfl
theorem s_gnomonlaw03_TokenKnown_r22p0_k_kA223 : s_gnomonlaw03_TokenKnown_r22p0_k.contains 223 = true := by kernel_rfl
theorem s_gnomonlaw03_TokenKnown_r22p0_k_kA224 : s_gnomonlaw03_TokenKnown_r22p0_k.contains 224 = true := by kernel_rfl
theorem s_gnomonlaw03_TokenKnown_r22p0_k_kA225 : s_gnomonlaw03_TokenKnown_r22p0_k.contains 225 = true := by kernel_rfl
theorem s_gnomonlaw03_TokenKnown_r22p0_k_kA226 : s_gnomonlaw03_TokenKnown_r22p0_k.contains 226 = true := by kernel_rfl
theorem s_gnomonlaw03_TokenKnown_r22p0_k_kA227 : s_gnomonlaw03_TokenKnown_r22p0_k.contains 227 = true := by kernel_rfl
theorem s_gnomonlaw03_TokenKnown_r22p0_k_kA228 : s_gnomonlaw03_TokenKnown_r22p0_k.contains 228 = true := by kernel_rfl
theorem s_gnomonlaw03_TokenKnown_r22p0_k_kA229 : s_gnomonlaw03_TokenKnown_r22p0_k.contains 229 = true := by kernel_rfl
theorem s_gnomonlaw03_TokenKnown_r22p0_k_kA230 : s_gnomonlaw03_TokenKnown_r22p0_k.contains 230 = true := by kernel_rfl
theorem s_gnomonlaw03_TokenKnown_r22p0_k_kA231 : s_gnomonlaw03_TokenKnown_r22p0_k.contains 231 = true := by kernel_rfl
theorem s_gnomonlaw03_TokenKnown_r22p0_k_kA232 : s_gnomonlaw03_TokenKnown_r22p0_k.contains 232 = true := by kernel_rfl
theorem s_gnomonlaw03_TokenKnown_r22p0_k_kA233 : s_gnomonlaw03_TokenKnown_r22p0_k.contains 233 = true := by kernel_rfl
theorem s_gnomonlaw03_TokenKnown_r22p0_k_kA234 : s_gnomonlaw03_TokenKnown_r22p0_k.contains 234 = true := by kernel_rfl
theorem s_gnomonlaw03_TokenKnown_r22p0_k_kA235 : s_gnomonlaw03_TokenKnown_r22p0_k.contains 235 = true := by kernel_rfl
theorem s_gnomonlaw03_TokenKnown_r22p0_k_kA236 : s_gnomonlaw03_TokenKnown_r22p0_k.contains 236 = true := by kernel_rfl
theorem s_gnomonlaw03_TokenKnown_r22p0_k_kA237 : s_gnomonlaw03_TokenKnown_r22p0_k.contains 237 = true := by kernel_rfl
theorem s_gnomonlaw03_TokenKnown_r22p0_k_kA238 : s_gnomonlaw03_TokenKnown_r22p0_k.contains 238 = true := by kernel_rfl
theorem s_gnomonlaw03_TokenKnown_r22p0_k_kA239 : s_gnomonlaw03_TokenKnown_r22p0_k.contains 239 = true := by kernel_rfl
theorem s_gnomonlaw03_TokenKnown_r22p0_k_kA240 : s_gnomonlaw03_TokenKnown_r22p0_k.contains 240 = true := by kernel_rfl
theorem s_gnomonlaw03_TokenKnown_r22p0_k_kA241 : s_gnomonlaw03_TokenKnown_r22p0_k.contains 241 = true := by kernel_rfl
theorem s_gnomonlaw03_TokenKnown_r22p0_k_kA242 : s_gnomonlaw03_TokenKnown_r22p0_k.contains 242 = true := by kernel_rfl
theorem s_gnomonlaw03_TokenKnown_r22p0_k_kA243 : s_gnomonlaw03_TokenKnown_r22p0_k.contains 243 = true := by kernel_rfl
theorem s_gnomonlaw03_TokenKnown_r22p0_k_kA244 : s_gnomonlaw03_TokenKnown_r22p0_k.contains 244 = true := by kernel_rfl
theorem s_gnomonlaw03_TokenKnown_r22p0_k_kA245 : s_gnomonlaw03_TokenKnown_r22p0_k.contains 245 = true := by kernel_rfl
theorem s_gnomonlaw03_TokenKnown_r22p0_k_kA246 : s_gnomonlaw03_TokenKnown_r22p0_k.contains 246 = true := by kernel_rfl
theorem s_gnomonlaw03_TokenKnown_r22p0_k_kA247 : s_gnomonlaw03_TokenKnown_r22p0_k.contains 247 = true := by kernel_rfl
theorem s_gnomonlaw03_TokenKnown_r22p0_k_kA248 : s_gnomonlaw03_TokenKnown_r22p0_k.contains 248 = true := by kernel_rfl
theorem s_gnomonlaw03_TokenKnown_r22p0_k_kA249 : s_gnomonlaw03_TokenKnown_r22p0_k.contains 249 = false := by kernel_rfl
theorem s_gnomonlaw03_TokenKnown_r22p0_k_kA250 : s_gnomonlaw03_TokenKnown_r22p0_k.contains 250 = false := by kernel_rfl
theorem s_gnomonlaw03_TokenKnown_r22p0_k_kA251 : s_gnomonlaw03_TokenKnown_r22p0_k.contains 251 = false := by kernel_rfl
theorem s_gnomonlaw03_TokenKnown_r22p0_k_kA0 : s_gnomonlaw03_TokenKnown_r22p0_k.contains 0 = false := by kernel_rfl
theorem s_gnomonlaw03_TokenKnown_r22p0_tale (fr : List V) (H : Heap) : evTale (symAll s_gnomonlaw03_TokenKnown_r22p0 s_gnomonlaw03_TokenKnown_r22p0_k [249]) s_gnomonlaw03_TokenKnown_r22p0_k fr H = evTale (some (250, [], [(249, (.pick (.pick (.pick (.pick (.pick (.pick (.pick (.pick (.op (.bin .eql (.t 0) (.c (.s (.int .i64 0)))) [(.op (.lenS .s (.t 0)) [(.t 14)]), (.c (.s (.int .i64 0)))]) (.op (.eqAgg false [(.int .i64), (.int .i64)] (.t 0) (.t 1)) [(.op (.load true 2 (.t 0)) [(.t 15)]), (.op (.build [(.s (.int .i64 0)), (.s (.int .i64 0))] [(0, 1), (1, 1)] []) [])]) (.c (.s (.bool false)))) (.op (.bin .eql (.t 0) (.c (.s (.int .i64 2)))) [(.t 16), (.c (.s (.int .i64 2)))]) (.c (.s (.bool false)))) (.op (.bin .eql (.t 0) (.c (.s (.int .i64 1)))) [(.op (.lenS .s (.t 0)) [(.t 17)]), (.c (.s (.int .i64 1)))]) (.c (.s (.bool false)))) (.op (.bin .eql (.t 0) (.c (.s (.int .i64 0)))) [(.t 19), (.c (.s (.int .i64 0)))]) (.c (.s (.bool false)))) (.op (.bin .eql (.t 0) (.c (.s (.int .i64 1048577)))) [(.op (.load false 1 (.t 0)) [(.op (.fieldAddr 1 (.t 0)) [(.op (.fieldAddr 3 (.t 0)) [(.op (.indexAddr 5 (.t 0) (.c (.s (.int .i64 0)))) [(.t 17), (.c (.s (.int .i64 0)))])])])]), (.c (.s (.int .i64 1048577)))]) (.c (.s (.bool false)))) (.op (.bin .eql (.t 0) (.c (.s (.int .i64 0)))) [(.t 22), (.c (.s (.int .i64 0)))]) (.c (.s (.bool false)))) (.op (.bin .eql (.t 0) (.c (.s (.int .i64 1)))) [(.op (.lenS .s (.t 0)) [(.t 20)]), (.c (.s (.int .i64 1)))]) (.c (.s (.bool false)))) (.op (.eqAgg false [(.int .u8), .str, (.int .i64), (.int .i64), (.int .i64)] (.t 0) (.t 1)) [(.op (.load true 5 (.t 0)) [(.op (.indexAddr 5 (.t 0) (.c (.s (.int .i64 0)))) [(.t 20), (.c (.s (.int .i64 0)))])]), (.op (.build [(.s (.int .u8 0)), (.s (.string ⟨#[]⟩)), (.s (.int .i64 0)), (.s (.int .i64 0)), (.s (.int .i64 0))] [(0, 1), (1, 1), (2, 1), (3, 2)] [(0, (.c (.s (.int .u8 4)))), (3, (.t 1))]) [(.c (.s (.int .u8 4))), (.op (.build [(.s (.int .i64 0)), (.s (.int .i64 0))] [(0, 1), (1, 1)] [(0, (.c (.s (.int .i64 1)))), (1, (.c (.s (.int .i64 1))))]) [(.c (.s (.int .i64 1))), (.c (.s (.int .i64 1)))])])]) (.c (.s (.bool false)))))])) s_gnomonlaw03_TokenKnown_r22p0_k fr H := tale_row (items := [.tt 14, .sub 0 [0, 0, 0, 0, 0, 0, 0, 0, 0] [], .sub 0 [0, 0, 0, 0, 0, 0, 0, 0] [], .sub 0 [0, 0, 0, 0, 0, 0, 0, 0] [], .sub 0 [0, 0, 0, 0, 0, 0, 0, 1, 0] [206], .sub 0 [0, 0, 0, 0, 0, 0, 0, 1, 1] [206], .sub 0 [0, 0, 0, 0, 0, 0, 0, 1] [206], .sub 0 [0, 0, 0, 0, 0, 0, 0] [], .sub 0 [0, 0, 0, 0, 0, 0, 0] [], .sub 0 [0, 0, 0, 0, 0, 0, 1, 0] [211], .sub 0 [0, 0, 0, 0, 0, 0, 1] [211], .sub 0 [0, 0, 0, 0, 0, 0] [], .sub 0 [0, 0, 0, 0, 0, 0] [], .sub 0 [0, 0, 0, 0, 0, 1, 0, 0] [215], .sub 0 [0, 0, 0, 0, 0, 1, 0] [215], .sub 0 [0, 0, 0, 0, 0, 1] [215], .sub 0 [0, 0, 0, 0, 0] [], .sub 0 [0, 0, 0, 0, 0] [], .sub 0 [0, 0, 0, 0, 1, 0] [220], .sub 0 [0, 0, 0, 0, 1] [220], .sub 0 [0, 0, 0, 0] [], .sub 0 [0, 0, 0, 0] [], .sub 0 [0, 0, 0, 1, 0, 0, 0, 0, 0] [224], .sub 0 [0, 0, 0, 1, 0, 0, 0, 0] [224], .sub 0 [0, 0, 0, 1, 0, 0, 0] [224], .sub 0 [0, 0, 0, 1, 0, 0] [224], .sub 0 [0, 0, 0, 1, 0] [224], .sub 0 [0, 0, 0, 1] [224], .sub 0 [0, 0, 0] [], .sub 0 [0, 0, 0] [], .sub 0 [0, 0, 1, 0] [232], .sub 0 [0, 0, 1] [232], .sub 0 [0, 0] [], .sub 0 [0, 0] [], .sub 0 [0, 1, 0, 0] [236], .sub 0 [0, 1, 0] [236], .sub 0 [0, 1] [236], .sub 0 [0] [], .sub 0 [0] [], .sub 0 [1, 0, 0, 0] [241], .sub 0 [1, 0, 0] [241], .sub 0 [1, 0] [241], .sub 0 [1, 1, 1] [241], .sub 0 [1, 1] [241], .sub 0 [1] [241], .sub 0 [] [], .sub 0 [] []]) (by kernel_rfl) fr H
theorem s_gnomonlaw03_TokenKnown_r22_x (call : CallF) (it : IterF) (base : Nat) (f : List V) (H : Heap) : evC call it base (.region s_gnomonlaw03_TokenKnown_r22 [] [14, 15, 16, 17, 19, 20, 22, 203, 204, 205, 206, 207, 208, 209, 210, 211, 212, 213, 214, 215, 216, 217, 218, 219, 220, 221, 222, 223, 224, 225, 226, 227, 228, 229, 230, 231, 232, 233, 234, 235, 236, 237, 238, 239, 240, 241, 242, 243, 244, 245, 246, 247, 248, 249, 250, 251]) f H = segC call it base s_gnomonlaw03_TokenKnown_r22t1 [14, 15, 16, 17, 19, 20, 22, 203, 204, 205, 206, 207, 208, 209, 210, 211, 212, 213, 214, 215, 216, 217, 218, 219, 220, 221, 222, 223, 224, 225, 226, 227, 228, 229, 230, 231, 232, 233, 234, 235, 236, 237, 238, 239, 240, 241, 242, 243, 244, 245, 246, 247, 248, 249, 250, 251] H (evTale (symAll s_gnomonlaw03_TokenKnown_r22p0 s_gnomonlaw03_TokenKnown_r22p0_k [249]) s_gnomonlaw03_TokenKnown_r22p0_k f H) (origRow call it base s_gnomonlaw03_TokenKnown_r22 [14, 15, 16, 17, 19, 20, 22, 203, 204, 205, 206, 207, 208, 209, 210, 211, 212, 213, 214, 215, 216, 217, 218, 219, 220, 221, 222, 223, 224, 225, 226, 227, 228, 229, 230, 231, 232, 233, 234, 235, 236, 237, 238, 239, 240, 241, 242, 243, 244, 245, 246, 247, 248, 249, 250, 251] f H) := row_seg call it base s_gnomonlaw03_TokenKnown_r22p0 s_gnomonlaw03_TokenKnown_r22t1 (by kernel_rfl) f H
theorem s_gnomonlaw03_TokenKnown_r22t1_x (call : CallF) (it : IterF) (base : Nat) (f : List V) (H : Heap) : evC call it base (.region s_gnomonlaw03_TokenKnown_r22t1 [] [14, 15, 16, 17, 19, 20, 22, 203, 204, 205, 206, 207, 208, 209, 210, 211, 212, 213, 214, 215, 216, 217, 218, 219, 220, 221, 222, 223, 224, 225, 226, 227, 228, 229, 230, 231, 232, 233, 234, 235, 236, 237, 238, 239, 240, 241, 242, 243, 244, 245, 246, 247, 248, 249, 250, 251]) f H = thenC call it base (.region s_gnomonlaw03_TokenKnown_r22t2 [] [14, 15, 16, 17, 19, 20, 22, 203, 204, 205, 206, 207, 208, 209, 210, 211, 212, 213, 214, 215, 216, 217, 218, 219, 220, 221, 222, 223, 224, 225, 226, 227, 228, 229, 230, 231, 232, 233, 234, 235, 236, 237, 238, 239, 240, 241, 242, 243, 244, 245, 246, 247, 248, 249, 250, 251]) (opsC [] s_gnomonlaw03_TokenKnown_r22p1 [] (evOps call base [⟨some 250, (.call (.c (.fn 11 [] [])) []), some (249, true)⟩] f H)) := (row_op call it base s_gnomonlaw03_TokenKnown_r22p1 s_gnomonlaw03_TokenKnown_r22t2 (kc := []) (by kernel_rfl) f H).trans (by rw [row_ops]; rfl)
theorem s_gnomonlaw03_TokenKnown_r22t2_tale (fr : List V) (H : Heap) : evTale (symAll s_gnomonlaw03_TokenKnown_r22t2 [14, 15, 16, 17, 19, 20, 22, 203, 204, 205, 206, 207, 208, 209, 210, 211, 212, 213, 214, 215, 216, 217, 218, 219, 220, 221, 222, 223, 224, 225, 226, 227, 228, 229, 230, 231, 232, 233, 234, 235, 236, 237, 238, 239, 240, 241, 242, 243, 244, 245, 246, 247, 248, 249, 250, 251] [0]) [14, 15, 16, 17, 19, 20, 22, 203, 204, 205, 206, 207, 208, 209, 210, 211, 212, 213, 214, 215, 216, 217, 218, 219, 220, 221, 222, 223, 224, 225, 226, 227, 228, 229, 230, 231, 232, 233, 234, 235, 236, 237, 238, 239, 240, 241, 242, 243, 244, 245, 246, 247, 248, 249, 250, 251] fr H = evTale (some (252, [], [(0, (.pick (.t 249) (.t 250) (.c (.s (.bool false)))))])) [14, 15, 16, 17, 19, 20, 22, 203, 204, 205, 206, 207, 208, 209, 210, 211, 212, 213, 214, 215, 216, 217, 218, 219, 220, 221, 222, 223, 224, 225, 226, 227, 228, 229, 230, 231, 232, 233, 234, 235, 236, 237, 238, 239, 240, 241, 242, 243, 244, 245, 246, 247, 248, 249, 250, 251] fr H := tale_row (items := [.sub 0 [] [], .sub 0 [] []]) (by kernel_rfl) fr H
theorem s_gnomonlaw03_TokenKnown_r22t2_x (call : CallF) (it : IterF) (base : Nat) (f : List V) (H : Heap) : evC call it base (.region s_gnomonlaw03_TokenKnown_r22t2 [] [14, 15, 16, 17, 19, 20, 22, 203, 204, 205, 206, 207, 208, 209, 210, 211, 212, 213, 214, 215, 216, 217, 218, 219, 220, 221, 222, 223, 224, 225, 226, 227, 228, 229, 230, 231, 232, 233, 234, 235, 236, 237, 238, 239, 240, 241, 242, 243, 244, 245, 246, 247, 248, 249, 250, 251]) f H = segL H (evTale (symAll s_gnomonlaw03_TokenKnown_r22t2 [14, 15, 16, 17, 19, 20, 22, 203, 204, 205, 206, 207, 208, 209, 210, 211, 212, 213, 214, 215, 216, 217, 218, 219, 220, 221, 222, 223, 224, 225, 226, 227, 228, 229, 230, 231, 232, 233, 234, 235, 236, 237, 238, 239, 240, 241, 242, 243, 244, 245, 246, 247, 248, 249, 250, 251] [0]) [14, 15, 16, 17, 19, 20, 22, 203, 204, 205, 206, 207, 208, 209, 210, 211, 212, 213, 214, 215, 216, 217, 218, 219, 220, 221, 222, 223, 224, 225, 226, 227, 228, 229, 230, 231, 232, 233, 234, 235, 236, 237, 238, 239, 240, 241, 242, 243, 244, 245, 246, 247, 248, 249, 250, 251] f H) (origRow call it base s_gnomonlaw03_TokenKnown_r22t2 [14, 15, 16, 17, 19, 20, 22, 203, 204, 205, 206, 207, 208, 209, 210, 211, 212, 213, 214, 215, 216, 217, 218, 219, 220, 221, 222, 223, 224, 225, 226, 227, 228, 229, 230, 231, 232, 233, 234, 235, 236, 237, 238, 239, 240, 241, 242, 243, 244, 245, 246, 247, 248, 249, 250, 251] f H) := row_last call it base _ f H
def s_gnomonlaw03_TokenKnown : ACFun := { ntmps := 252, results := [(.tmp 0)], body :=
  (.seq (.regionE s_gnomonlaw03_TokenKnown_r0 s_gnomonlaw03_TokenKnown_r0_k [])
  (.seq (.region s_gnomonlaw03_TokenKnown_r1 [] [23, 24, 25, 26, 27, 28, 29, 30, 31, 32, 33, 34])
  (.seq (.seq (.regionE s_gnomonlaw03_TokenKnown_r2 [] [2])
  (.block 0
  (.loop [] s_gnomonlaw03_TokenKnown_l0)))
  (.seq (.region s_gnomonlaw03_TokenKnown_r8 [] [1, 2, 7, 38, 83, 84, 85, 86, 87])
  (.seq (.seq (.regionE s_gnomonlaw03_TokenKnown_r9 [6, 8, 88, 89, 90, 91, 92, 93, 94, 95, 96, 97, 98, 99, 100, 101, 102, 103, 104, 105, 106, 107, 108, 109, 110, 111, 112, 113, 114, 115, 116, 117, 118, 119, 120, 121, 122, 123] [124])
  (.cond (.t 124)
  (.seq (.regionE s_gnomonlaw03_TokenKnown_r10 [124] [0])
  .ret)
  .skip))
  (.seq (.region s_gnomonlaw03_TokenKnown_r11 [] [10, 124, 125, 126, 127, 128, 129])
  (.seq (.seq (.regionE s_gnomonlaw03_TokenKnown_r12 [9, 11, 130, 131, 132, 133, 134, 135, 136, 137, 138, 139, 140, 141, 142, 143, 144, 145, 146, 147, 148, 149, 150, 151, 152, 153, 154, 155, 156, 157, 158, 159, 160, 161, 162, 163, 164, 165, 166, 167, 168, 169, 170, 171] [172])
  (.cond (.t 172)
  (.seq (.regionE s_gnomonlaw03_TokenKnown_r13 [172] [0])
  .ret)
  .skip))
  (.seq (.region s_gnomonlaw03_TokenKnown_r14 [] [172, 173])
  (.seq (.seq (.regionE s_gnomonlaw03_TokenKnown_r15 [] [13])
  (.block 2
  (.loop [] s_gnomonlaw03_TokenKnown_l1)))
  (.seq (.region s_gnomonlaw03_TokenKnown_r19 [] [13, 177, 183, 184, 185, 186, 187, 188, 189])
  (.seq (.region s_gnomonlaw03_TokenKnown_r20 [] [12, 18, 190, 191, 192, 193, 194, 195, 196, 197])
  (.seq (.region s_gnomonlaw03_TokenKnown_r21 [] [21, 198, 199, 200, 201, 202])
  (.seq (.region s_gnomonlaw03_TokenKnown_r22 [] [14, 15, 16, 17, 19, 20, 22, 203, 204, 205, 206, 207, 208, 209, 210, 211, 212, 213, 214, 215, 216, 217, 218, 219, 220, 221, 222, 223, 224, 225, 226, 227, 228, 229, 230, 231, 232, 233, 234, 235, 236, 237, 238, 239, 240, 241, 242, 243, 244, 245, 246, 247, 248, 249, 250, 251])
  .ret))))))))))))) }
def a_gnomonlaw03_TokenKnown := And.intro @s_gnomonlaw03_TokenKnown_r0_tale (And.intro @s_gnomonlaw03_TokenKnown_r0_kT (And.intro @s_gnomonlaw03_TokenKnown_r1p0_tale (And.intro @s_gnomonlaw03_TokenKnown_r1_x (And.intro @s_gnomonlaw03_TokenKnown_r1t1_x (And.intro @s_gnomonlaw03_TokenKnown_r1t2_tale (And.intro @s_gnomonlaw03_TokenKnown_r1t2_x (And.intro @s_gnomonlaw03_TokenKnown_r2_tale (And.intro @s_gnomonlaw03_TokenKnown_r3_tale (And.intro @s_gnomonlaw03_TokenKnown_r4p0_tale (And.intro @s_gnomonlaw03_TokenKnown_r4_x (And.intro @s_gnomonlaw03_TokenKnown_r4t1_x (And.intro @s_gnomonlaw03_TokenKnown_r4p2_tale (And.intro @s_gnomonlaw03_TokenKnown_r4t2_x (And.intro @s_gnomonlaw03_TokenKnown_r4t3_x (And.intro @s_gnomonlaw03_TokenKnown_r4p4_tale (And.intro @s_gnomonlaw03_TokenKnown_r4t4_x (And.intro @s_gnomonlaw03_TokenKnown_r4t5_x (And.intro @s_gnomonlaw03_TokenKnown_r4t6_tale (And.intro @s_gnomonlaw03_TokenKnown_r4t6_x (And.intro @s_gnomonlaw03_TokenKnown_r5_tale (And.intro @s_gnomonlaw03_TokenKnown_r6_tale (And.intro @s_gnomonlaw03_TokenKnown_r7_tale (And.intro @s_gnomonlaw03_TokenKnown_l0_ev (And.intro @s_gnomonlaw03_TokenKnown_r8_x (And.intro @s_gnomonlaw03_TokenKnown_r8p1_tale (And.intro @s_gnomonlaw03_TokenKnown_r8t1_x (And.intro @s_gnomonlaw03_TokenKnown_r8t2_x (And.intro @s_gnomonlaw03_TokenKnown_r8p3_tale (And.intro @s_gnomonlaw03_TokenKnown_r8t3_x (And.intro @s_gnomonlaw03_TokenKnown_r8t4_x (And.intro @s_gnomonlaw03_TokenKnown_r8t5_tale (And.intro @s_gnomonlaw03_TokenKnown_r8t5_x (And.intro @s_gnomonlaw03_TokenKnown_r9_tale (And.intro @s_gnomonlaw03_TokenKnown_r10_tale (And.intro @s_gnomonlaw03_TokenKnown_r11_x (And.intro @s_gnomonlaw03_TokenKnown_r11p1_tale (And.intro @s_gnomonlaw03_TokenKnown_r11t1_x (And.intro @s_gnomonlaw03_TokenKnown_r11t2_x (And.intro @s_gnomonlaw03_TokenKnown_r11p3_tale (And.intro @s_gnomonlaw03_TokenKnown_r11t3_x (And.intro @s_gnomonlaw03_TokenKnown_r11t4_x (And.intro @s_gnomonlaw03_TokenKnown_r11t5_tale (And.intro @s_gnomonlaw03_TokenKnown_r11t5_x (And.intro @s_gnomonlaw03_TokenKnown_r12_tale (And.intro @s_gnomonlaw03_TokenKnown_r13_tale (And.intro @s_gnomonlaw03_TokenKnown_r14_x (And.intro @s_gnomonlaw03_TokenKnown_r14t1_tale (And.intro @s_gnomonlaw03_TokenKnown_r14t1_x (And.intro @s_gnomonlaw03_TokenKnown_r15_tale (And.intro @s_gnomonlaw03_TokenKnown_r16_tale (And.intro @s_gnomonlaw03_TokenKnown_r17p0_tale (And.intro @s_gnomonlaw03_TokenKnown_r17_x (And.intro @s_gnomonlaw03_TokenKnown_r17t1_x (And.intro @s_gnomonlaw03_TokenKnown_r18_tale (And.intro @s_gnomonlaw03_TokenKnown_l1_ev (And.intro @s_gnomonlaw03_TokenKnown_r19p0_tale (And.intro @s_gnomonlaw03_TokenKnown_r19_x (And.intro @s_gnomonlaw03_TokenKnown_r19t1_x (And.intro @s_gnomonlaw03_TokenKnown_r19t2_x (And.intro @s_gnomonlaw03_TokenKnown_r19p3_tale (And.intro @s_gnomonlaw03_TokenKnown_r19t3_x (And.intro @s_gnomonlaw03_TokenKnown_r19t4_x (And.intro @s_gnomonlaw03_TokenKnown_r19p5_tale (And.intro @s_gnomonlaw03_TokenKnown_r19t5_x (And.intro @s_gnomonlaw03_TokenKnown_r19t6_x (And.intro @s_gnomonlaw03_TokenKnown_r19t7_tale (And.intro @s_gnomonlaw03_TokenKnown_r19t7_x (And.intro @s_gnomonlaw03_TokenKnown_r20p0_tale (And.intro @s_gnomonlaw03_TokenKnown_r20_x (And.intro @s_gnomonlaw03_TokenKnown_r20t1_x (And.intro @s_gnomonlaw03_TokenKnown_r20t2_x (And.intro @s_gnomonlaw03_TokenKnown_r20p3_tale (And.intro @s_gnomonlaw03_TokenKnown_r20t3_x (And.intro @s_gnomonlaw03_TokenKnown_r20t4_x (And.intro @s_gnomonlaw03_TokenKnown_r20p5_tale (And.intro @s_gnomonlaw03_TokenKnown_r20t5_x (And.intro @s_gnomonlaw03_TokenKnown_r20t6_x (And.intro @s_gnomonlaw03_TokenKnown_r20t7_tale (And.intro @s_gnomonlaw03_TokenKnown_r20t7_x (And.intro @s_gnomonlaw03_TokenKnown_r21_x (And.intro @s_gnomonlaw03_TokenKnown_r21p1_tale (And.intro @s_gnomonlaw03_TokenKnown_r21t1_x (And.intro @s_gnomonlaw03_TokenKnown_r21t2_x (And.intro @s_gnomonlaw03_TokenKnown_r21p3_tale (And.intro @s_gnomonlaw03_TokenKnown_r21t3_x (And.intro @s_gnomonlaw03_TokenKnown_r21t4_x (And.intro @s_gnomonlaw03_TokenKnown_r21t5_tale (And.intro @s_gnomonlaw03_TokenKnown_r21t5_x (And.intro @s_gnomonlaw03_TokenKnown_r22p0_k_kA203 (And.intro @s_gnomonlaw03_TokenKnown_r22p0_k_kA204 (And.intro @s_gnomonlaw03_TokenKnown_r22p0_k_kA205 (And.intro @s_gnomonlaw03_TokenKnown_r22p0_k_kA206 (And.intro @s_gnomonlaw03_TokenKnown_r22p0_k_kA207 (And.intro @s_gnomonlaw03_TokenKnown_r22p0_k_kA208 (And.intro @s_gnomonlaw03_TokenKnown_r22p0_k_kA209 (And.intro @s_gnomonlaw03_TokenKnown_r22p0_k_kA210 (And.intro @s_gnomonlaw03_TokenKnown_r22p0_k_kA211 (And.intro @s_gnomonlaw03_TokenKnown_r22p0_k_kA212 (And.intro @s_gnomonlaw03_TokenKnown_r22p0_k_kA213 (And.intro @s_gnomonlaw03_TokenKnown_r22p0_k_kA214 (And.intro @s_gnomonlaw03_TokenKnown_r22p0_k_kA215 (And.intro @s_gnomonlaw03_TokenKnown_r22p0_k_kA216 (And.intro @s_gnomonlaw03_TokenKnown_r22p0_k_kA217 (And.intro @s_gnomonlaw03_TokenKnown_r22p0_k_kA218 (And.intro @s_gnomonlaw03_TokenKnown_r22p0_k_kA219 (And.intro @s_gnomonlaw03_TokenKnown_r22p0_k_kA220 (And.intro @s_gnomonlaw03_TokenKnown_r22p0_k_kA221 (And.intro @s_gnomonlaw03_TokenKnown_r22p0_k_kA222 (And.intro @s_gnomonlaw03_TokenKnown_r22p0_k_kA223 (And.intro @s_gnomonlaw03_TokenKnown_r22p0_k_kA224 (And.intro @s_gnomonlaw03_TokenKnown_r22p0_k_kA225 (And.intro @s_gnomonlaw03_TokenKnown_r22p0_k_kA226 (And.intro @s_gnomonlaw03_TokenKnown_r22p0_k_kA227 (And.intro @s_gnomonlaw03_TokenKnown_r22p0_k_kA228 (And.intro @s_gnomonlaw03_TokenKnown_r22p0_k_kA229 (And.intro @s_gnomonlaw03_TokenKnown_r22p0_k_kA230 (And.intro @s_gnomonlaw03_TokenKnown_r22p0_k_kA231 (And.intro @s_gnomonlaw03_TokenKnown_r22p0_k_kA232 (And.intro @s_gnomonlaw03_TokenKnown_r22p0_k_kA233 (And.intro @s_gnomonlaw03_TokenKnown_r22p0_k_kA234 (And.intro @s_gnomonlaw03_TokenKnown_r22p0_k_kA235 (And.intro @s_gnomonlaw03_TokenKnown_r22p0_k_kA236 (And.intro @s_gnomonlaw03_TokenKnown_r22p0_k_kA237 (And.intro @s_gnomonlaw03_TokenKnown_r22p0_k_kA238 (And.intro @s_gnomonlaw03_TokenKnown_r22p0_k_kA239 (And.intro @s_gnomonlaw03_TokenKnown_r22p0_k_kA240 (And.intro @s_gnomonlaw03_TokenKnown_r22p0_k_kA241 (And.intro @s_gnomonlaw03_TokenKnown_r22p0_k_kA242 (And.intro @s_gnomonlaw03_TokenKnown_r22p0_k_kA243 (And.intro @s_gnomonlaw03_TokenKnown_r22p0_k_kA244 (And.intro @s_gnomonlaw03_TokenKnown_r22p0_k_kA245 (And.intro @s_gnomonlaw03_TokenKnown_r22p0_k_kA246 (And.intro @s_gnomonlaw03_TokenKnown_r22p0_k_kA247 (And.intro @s_gnomonlaw03_TokenKnown_r22p0_k_kA248 (And.intro @s_gnomonlaw03_TokenKnown_r22p0_k_kA249 (And.intro @s_gnomonlaw03_TokenKnown_r22p0_k_kA250 (And.intro @s_gnomonlaw03_TokenKnown_r22p0_k_kA251 (And.intro @s_gnomonlaw03_TokenKnown_r22p0_k_kA0 (And.intro @s_gnomonlaw03_TokenKnown_r22p0_tale (And.intro @s_gnomonlaw03_TokenKnown_r22_x (And.intro @s_gnomonlaw03_TokenKnown_r22t1_x (And.intro @s_gnomonlaw03_TokenKnown_r22t2_tale (@s_gnomonlaw03_TokenKnown_r22t2_x)))))))))))))))))))))))))))))))))))))))))))))))))))))))))))))))))))))))))))))))))))))))))))))))))))))))))))))))))))))))))))))))))))))))))))))))
theorem TA6_6 : compK Tryd.prog PX0 6 = some (false, s_gnomonlaw03_TokenKnown.ntmps, s_gnomonlaw03_TokenKnown.results, s_gnomonlaw03_TokenKnown.body.bare) := by kernel_rfl
end Go.Proofs.YtfnkpedipicjnaaDoor
set_option maxRecDepth 100000
namespace Go.Proofs.YtfnkpedipicjnaaDoor
open Go.AM
end Go.Proofs.YtfnkpedipicjnaaDoor
set_option maxRecDepth 100000
namespace Go.Proofs.YtfnkpedipicjnaaDoor
open Go.AM
abbrev k_gnomonref03_Letter : Nat := 22
def s_gnomonref03_Letter_r0_k : List Nat := [1, 2, 3, 4, 5, 6, 7, 8, 9, 10, 11, 12, 13, 14, 15, 16, 17, 18, 19, 20]
def s_gnomonref03_Letter_r0 : List AOper := [
  ⟨some 2, (.move (.c (.s (.bool false)))), none⟩]
def s_gnomonref03_Letter_r1 : List AOper := [
  ⟨some 3, (.move (.t 0)), none⟩,
  ⟨some 4, (.bin .geq (.t 3) (.c (.s (.int .u8 97)))), none⟩,
  ⟨some 5, (.move (.t 4)), none⟩,
  ⟨some 6, (.move (.t 0)), some (5, true)⟩,
  ⟨some 7, (.bin .leq (.t 6) (.c (.s (.int .u8 122)))), some (5, true)⟩,
  ⟨some 8, (.pick (.t 5) (.t 7) (.c (.s (.bool false)))), none⟩,
  ⟨some 9, (.move (.t 8)), none⟩,
  ⟨some 10, (.move (.t 0)), some (9, false)⟩,
  ⟨some 11, (.bin .geq (.t 10) (.c (.s (.int .u8 65)))), some (9, false)⟩,
  ⟨some 12, (.move (.t 11)), some (9, false)⟩,
  ⟨some 13, (.move (.t 0)), some (12, true)⟩,
  ⟨some 14, (.bin .leq (.t 13) (.c (.s (.int .u8 90)))), some (12, true)⟩,
  ⟨some 15, (.pick (.t 12) (.t 14) (.c (.s (.bool false)))), some (9, false)⟩,
  ⟨some 16, (.pick (.t 9) (.c (.s (.bool true))) (.t 15)), none⟩,
  ⟨some 17, (.move (.t 16)), none⟩,
  ⟨some 18, (.move (.t 0)), some (17, false)⟩,
  ⟨some 19, (.bin .eql (.t 18) (.c (.s (.int .u8 95)))), some (17, false)⟩,
  ⟨some 20, (.pick (.t 17) (.c (.s (.bool true))) (.t 19)), none⟩,
  ⟨some 2, (.move (.t 20)), none⟩]
def s_gnomonref03_Letter : ACFun := { ntmps := 21, results := [(.tmp 2)], body :=
  (.seq (.regionE s_gnomonref03_Letter_r0 s_gnomonref03_Letter_r0_k [])
  (.seq (.regionE s_gnomonref03_Letter_r1 [0, 3, 4, 5, 6, 7, 8, 9, 10, 11, 12, 13, 14, 15, 16, 17, 18, 19, 20] [2])
  .ret)) }
abbrev k_gnomonref03_Digit : Nat := 23
def s_gnomonref03_Digit_r0_k : List Nat := [1, 2, 3, 4, 5, 6, 7, 8]
def s_gnomonref03_Digit_r0 : List AOper := [
  ⟨some 2, (.move (.c (.s (.bool false)))), none⟩]
def s_gnomonref03_Digit_r1 : List AOper := [
  ⟨some 3, (.move (.t 0)), none⟩,
  ⟨some 4, (.bin .geq (.t 3) (.c (.s (.int .u8 48)))), none⟩,
  ⟨some 5, (.move (.t 4)), none⟩,
  ⟨some 6, (.move (.t 0)), some (5, true)⟩,
  ⟨some 7, (.bin .leq (.t 6) (.c (.s (.int .u8 57)))), some (5, true)⟩,
  ⟨some 8, (.pick (.t 5) (.t 7) (.c (.s (.bool false)))), none⟩,
  ⟨some 2, (.move (.t 8)), none⟩]
def s_gnomonref03_Digit : ACFun := { ntmps := 9, results := [(.tmp 2)], body :=
  (.seq (.regionE s_gnomonref03_Digit_r0 s_gnomonref03_Digit_r0_k [])
  (.seq (.regionE s_gnomonref03_Digit_r1 [0, 3, 4, 5, 6, 7, 8] [2])
  .ret)) }
abbrev k_gnomonref03_Spot : Nat := 24
def s_gnomonref03_Spot_r0_k : List Nat := [2, 3, 5, 6, 7, 8, 9, 10, 11, 12, 13, 14, 15, 16, 17, 18, 19, 20, 21, 22, 23]
def s_gnomonref03_Spot_r0 : List AOper := [⟨some 4, (.alloc [(.s (.int .i64 0)), (.s (.int .i64 0))]), none⟩]
def s_gnomonref03_Spot_r1 : List AOper := [
  ⟨some 5, (.move (.c (.s (.int .i64 1)))), none⟩,
  ⟨some 6, (.move (.c (.s (.int .i64 1)))), none⟩]
def s_gnomonref03_Spot_r2 : List AOper := [
  ⟨some 7, (.move (.c (.s (.int .i64 0)))), none⟩]
def s_gnomonref03_Spot_r3 : List AOper := [
  ⟨some 8, (.move (.t 7)), none⟩,
  ⟨some 9, (.move (.t 1)), none⟩,
  ⟨some 10, (.bin .lss (.t 8) (.t 9)), none⟩]
def s_gnomonref03_Spot_r4 : List AOper := [
  ⟨some 13, (.move (.t 6)), none⟩,
  ⟨some 14, (.bin .add (.t 13) (.c (.s (.int .i64 1)))), none⟩,
  ⟨some 6, (.move (.t 14)), none⟩]
def s_gnomonref03_Spot_r5 : List AOper := [
  ⟨some 15, (.move (.t 0)), none⟩,
  ⟨some 16, (.move (.t 7)), none⟩,
  ⟨some 17, (.indexStr (.t 15) (.t 16)), none⟩,
  ⟨some 18, (.bin .eql (.t 17) (.c (.s (.int .u8 10)))), none⟩]
def s_gnomonref03_Spot_r6 : List AOper := [
  ⟨some 19, (.move (.t 5)), none⟩,
  ⟨some 20, (.bin .add (.t 19) (.c (.s (.int .i64 1)))), none⟩,
  ⟨some 5, (.move (.t 20)), none⟩]
def s_gnomonref03_Spot_r7 : List AOper := [
  ⟨some 6, (.move (.c (.s (.int .i64 1)))), none⟩]
def s_gnomonref03_Spot_r8 : List AOper := [
  ⟨some 11, (.move (.t 7)), none⟩,
  ⟨some 12, (.bin .add (.t 11) (.c (.s (.int .i64 1)))), none⟩,
  ⟨some 7, (.move (.t 12)), none⟩]
def s_gnomonref03_Spot_l0_b : ACode :=
  (.seq (.seq (.regionE s_gnomonref03_Spot_r3 [8, 9] [10])
  (.cond (.t 10)
  .skip
  (.exit 0)))
  (.seq (.block 1
  (.seq (.regionE s_gnomonref03_Spot_r4 [10, 13, 14] [6])
  (.seq (.regionE s_gnomonref03_Spot_r5 [15, 16, 17] [18])
  (.cond (.t 18)
  (.seq (.regionE s_gnomonref03_Spot_r6 [6, 18, 19, 20] [5])
  (.regionE s_gnomonref03_Spot_r7 [] [6]))
  .skip))))
  (.regionE s_gnomonref03_Spot_r8 [11, 12, 18] [7])))
def s_gnomonref03_Spot_l0 : ACode := s_gnomonref03_Spot_l0_b
def s_gnomonref03_Spot_r9t1 : List AOper := [⟨none, (.store 2 (.t 4) (.t 23)), none⟩]
def s_gnomonref03_Spot_r9p0 : List AOper := [⟨some 21, (.move (.t 5)), none⟩, ⟨some 22, (.move (.t 6)), none⟩, ⟨some 23, (.build [(.s (.int .i64 0)), (.s (.int .i64 0))] [(0, 1), (1, 1)] [(0, (.t 21)), (1, (.t 22))]), none⟩]
def s_gnomonref03_Spot_r9 : List AOper := s_gnomonref03_Spot_r9p0 ++ s_gnomonref03_Spot_r9t1
def s_gnomonref03_Spot : ACFun := { ntmps := 24, results := [(.cell 4 true 2)], body :=
  (.seq (.region s_gnomonref03_Spot_r0 [] s_gnomonref03_Spot_r0_k)
  (.seq (.regionE s_gnomonref03_Spot_r1 [] [5, 6])
  (.seq (.seq (.regionE s_gnomonref03_Spot_r2 [] [7])
  (.block 0
  (.loop [] s_gnomonref03_Spot_l0)))
  (.seq (.region s_gnomonref03_Spot_r9 [] [0, 1, 5, 6, 7, 10, 21, 22, 23])
  .ret)))) }
abbrev k_gnomonref03_Sign : Nat := 25
def s_gnomonref03_Sign_r0_k : List Nat := [1, 2, 3, 4, 5, 6, 7, 8, 9, 10, 11, 12, 13, 14, 15]
def s_gnomonref03_Sign_r0 : List AOper := [
  ⟨some 2, (.move (.c (.s (.bool false)))), none⟩]
def s_gnomonref03_Sign_r1 : List AOper := [
  ⟨some 3, (.move (.c (.s (.string ⟨#[61, 44, 58, 40, 41, 123, 125, 91, 93]⟩)))), none⟩]
def s_gnomonref03_Sign_r2 : List AOper := [
  ⟨some 4, (.move (.c (.s (.int .i64 0)))), none⟩]
def s_gnomonref03_Sign_r3 : List AOper := [
  ⟨some 5, (.move (.t 4)), none⟩,
  ⟨some 6, (.move (.t 3)), none⟩,
  ⟨some 7, (.lenS .p (.t 6)), none⟩,
  ⟨some 8, (.bin .lss (.t 5) (.t 7)), none⟩]
def s_gnomonref03_Sign_r4 : List AOper := [
  ⟨some 11, (.move (.t 3)), none⟩,
  ⟨some 12, (.move (.t 4)), none⟩,
  ⟨some 13, (.indexStr (.t 11) (.t 12)), none⟩,
  ⟨some 14, (.move (.t 0)), none⟩,
  ⟨some 15, (.bin .eql (.t 13) (.t 14)), none⟩]
def s_gnomonref03_Sign_r5 : List AOper := [
  ⟨some 2, (.move (.c (.s (.bool true)))), none⟩]
def s_gnomonref03_Sign_r6 : List AOper := [
  ⟨some 9, (.move (.t 4)), none⟩,
  ⟨some 10, (.bin .add (.t 9) (.c (.s (.int .i64 1)))), none⟩,
  ⟨some 4, (.move (.t 10)), none⟩]
def s_gnomonref03_Sign_l0_b : ACode :=
  (.seq (.seq (.regionE s_gnomonref03_Sign_r3 [5, 6, 7] [8])
  (.cond (.t 8)
  .skip
  (.exit 0)))
  (.seq (.block 1
  (.seq (.regionE s_gnomonref03_Sign_r4 [8, 11, 12, 13, 14] [15])
  (.cond (.t 15)
  (.seq (.regionE s_gnomonref03_Sign_r5 [0, 3, 4, 15] [2])
  .ret)
  .skip)))
  (.regionE s_gnomonref03_Sign_r6 [9, 10, 15] [4])))
def s_gnomonref03_Sign_l0 : ACode := s_gnomonref03_Sign_l0_b
def s_gnomonref03_Sign_r7 : List AOper := [
  ⟨some 2, (.move (.c (.s (.bool false)))), none⟩]
def s_gnomonref03_Sign : ACFun := { ntmps := 16, results := [(.tmp 2)], body :=
  (.seq (.regionE s_gnomonref03_Sign_r0 s_gnomonref03_Sign_r0_k [])
  (.seq (.regionE s_gnomonref03_Sign_r1 [] [3])
  (.seq (.seq (.regionE s_gnomonref03_Sign_r2 [] [4])
  (.block 0
  (.loop [] s_gnomonref03_Sign_l0)))
  (.seq (.regionE s_gnomonref03_Sign_r7 [0, 3, 4, 8] [2])
  .ret)))) }
end Go.Proofs.YtfnkpedipicjnaaDoor
set_option maxRecDepth 100000
namespace Go.Proofs.YtfnkpedipicjnaaDoor
open Go.AM
section
variable {CT : Nat → Option CFun}
end
end Go.Proofs.YtfnkpedipicjnaaDoor
set_option maxRecDepth 100000
namespace Go.Proofs.YtfnkpedipicjnaaDoor
open Go.AM
section
variable {CT : Nat → Option CFun}
end
end Go.Proofs.YtfnkpedipicjnaaDoor
set_option maxRecDepth 100000
namespace Go.Proofs.YtfnkpedipicjnaaDoor
open Go.AM
structure TR (CT : Nat → Option CFun) : Prop where
  letter : CT k_gnomonref03_Letter = some (.code s_gnomonref03_Letter)
  digit : CT k_gnomonref03_Digit = some (.code s_gnomonref03_Digit)
  sign : CT k_gnomonref03_Sign = some (.code s_gnomonref03_Sign)
  spot : CT k_gnomonref03_Spot = some (.code s_gnomonref03_Spot)
structure RefSt (m : Nat) (H : Heap) (d : Nat) (v : V) (R : List (List V)) : Prop where
  res : ∃ x y, getC H d 0 = some [x, y]
  out : AccW m 5 H v R
  len : m ≤ H.length
  lt : d < m
def refE (b : ByteArray) (d : Nat) (v : V) (p : Nat) : Env := [(0, .s (.string b)), (3, .ref d 0 0), (5, v), (6, I p)]
theorem AccW.tr {m w : Nat} {H : Heap} {v : V} {R : List (List V)} (h : AccW m w H v R) {fr : List V} (hv : v ∈ fr) : AccW m w (Go.AM.trim m fr H) v R := by
  rcases AccW.trim_or h (Nat.le_refl _) hv with ⟨rfl, rfl⟩ | e
  · exact AccW.start _ _ _
  · rw [e]; exact h
theorem RefSt.tr {m : Nat} {H : Heap} {d : Nat} {v : V} {R : List (List V)} (h : RefSt m H d v R) {fr : List V} (hv : v ∈ fr) : RefSt m (Go.AM.trim m fr H) d v R := by
  obtain ⟨x, y, hd⟩ := h.res
  exact ⟨⟨x, y, trim_get hd h.lt⟩, AccW.tr h.out hv, trim_le h.len, h.lt⟩
theorem RefSt.app {m base : Nat} {H : Heap} {d : Nat} {v : V} {R : List (List V)} (h : RefSt m H d v R) (hbm : base ≤ m) (ob : Ob) {row : List V} (hrl : row.length = 5) (hr1 : row.all V.one = true) (hR : R.length ≤ 2 ^ 40) :
    ∃ v' C, appendV (H ++ [ob] ++ [Ob.cells 0 row]) base 5 48 v (.sl (H.length + 1) 0 0 1 5) = some (v', C) ∧ RefSt m C d v' (R ++ [row]) ∧ KeepD m [] H C := by
  have hmL := h.len
  obtain ⟨A, hA⟩ : ∃ A, H ++ [ob] = A := ⟨_, rfl⟩
  have lA : A.length = H.length + 1 := by rw [← hA]; simp
  have kA : ∀ id, id < H.length → A[id]? = H[id]? := fun id h1 => by rw [← hA, List.getElem?_append_left h1]
  rw [hA, ← lA]
  obtain ⟨B, hB⟩ : ∃ B, A ++ [Ob.cells 0 row] = B := ⟨_, rfl⟩
  have kB : ∀ id, id < H.length → B[id]? = H[id]? := fun id h1 => by rw [← hB, List.getElem?_append_left (by omega), kA id h1]
  have lB : B.length = H.length + 2 := by rw [← hB]; simp [lA]
  have hx : elems B 5 (.sl A.length 0 0 1 5) = some ([row].length, [row].flatten) := by
    rw [← hB]; exact (RdW.sl (R := [row]) (by simpa using getC_new A 0 row) (by intro r hr; simp at hr; subst hr; exact hrl)).el
  have hvB : AccW m 5 B v R := h.out.keep fun id g n e => kB id (h.out.lt id g n e)
  obtain ⟨v', C, eC, aC, lC, kC⟩ := hvB.append (base := base) (bytes := 48) (S := [row]) hbm (by omega) (by intro r hr; simp at hr; subst hr; exact hrl) (by simp) hx (by simpa using hr1) (by simp; omega)
  rw [hB]
  have kk : ∀ x, x < m → C[x]? = H[x]? := fun x hx => by
    rw [kC x (by omega) (fun g n e => ?_), kB x (by omega)]
    obtain ⟨_, ⟨_, rfl⟩ | ⟨id', g', rfl, _, hid'⟩⟩ := h.out
    · cases e
    · cases e; omega
  refine ⟨v', C, eC, ⟨?_, aC, by omega, h.lt⟩, by omega, fun x hx _ => kk x hx⟩
  obtain ⟨x, y, hd⟩ := h.res
  exact ⟨x, y, by unfold getC at hd ⊢; rw [kk d h.lt]; exact hd⟩
section
variable {CT : Nat → Option CFun}
end
end Go.Proofs.YtfnkpedipicjnaaDoor
set_option maxRecDepth 100000
namespace Go.Proofs.YtfnkpedipicjnaaDoor
open Go.AM
def RefRes (m d : Nat) (b : ByteArray) (R : List (List V)) (H : Heap) (out : Tok.Out) (X : Option St) : Prop :=
  (∃ ts ln cl v H', out = .done (ts ++ [⟨4, [], 0, ln, cl⟩]) ∧ X = some (.ext 0, frOf 197 (refE b d v b.size ++ [(18, bl false)]), H') ∧ RefSt m H' d v (R ++ ts.map tV) ∧ KeepD m [] H H' ∧ Tok.spotL (b.data.toList.take b.size) (1, 1) = (ln, cl) ∧ R.length + ts.length ≤ b.size) ∨
  (∃ e a q H', out = .bad e a q ∧ X = some (.ret, frOf 197 [(2, nilS), (3, .ref d 0 0), (4, .s (.int .i64 e))], H') ∧ getC H' d 0 = some [I a, I q] ∧ KeepD m [d] H H')
theorem RefRes.keep {m d : Nat} {b : ByteArray} {R : List (List V)} {H H2 : Heap} {out : Tok.Out} {X : Option St} (r : RefRes m d b R H2 out X) (k : KeepD m [] H H2) : RefRes m d b R H out X := by
  rcases r with ⟨ts, ln, cl, v, H', h1, h2, h3, h4, h5⟩ | ⟨e, a, q, H', h1, h2, h3, h4⟩
  · exact .inl ⟨ts, ln, cl, v, H', h1, h2, h3, k.trans h4 (Nat.le_refl _), h5⟩
  · exact .inr ⟨e, a, q, H', h1, h2, h3, (KeepD.mono k (Nat.le_refl _) (fun id _ hx => by simp at hx)).trans h4 (Nat.le_refl _)⟩
theorem RefRes.cons {m d : Nat} {b : ByteArray} {R : List (List V)} {H H2 : Heap} {out : Tok.Out} {X : Option St} {t : Tok.T} (r : RefRes m d b (R ++ [tV t]) H2 out X) (k : KeepD m [] H H2) : RefRes m d b R H (.cons t out) X := by
  rcases r.keep k with ⟨ts, ln, cl, v, H', rfl, h2, h3, h4, h5, h7⟩ | ⟨e, a, q, H', rfl, h2, h3, h4⟩
  · refine .inl ⟨t :: ts, ln, cl, v, H', rfl, h2, ?_, h4, h5, ?_⟩
    · rw [List.map_cons, ← List.singleton_append, ← List.append_assoc]; exact h3
    · rw [List.length_append, List.length_singleton] at h7
      rw [List.length_cons]; omega
  · exact .inr ⟨e, a, q, H', rfl, h2, h3, h4⟩
section
variable {CT : Nat → Option CFun}
end
end Go.Proofs.YtfnkpedipicjnaaDoor
set_option maxRecDepth 100000
namespace Go.Proofs.YtfnkpedipicjnaaDoor
open Go.AM
theorem spot_eq (a b c d : Int) : eqLeaves [Leaf.int IntKind.i64, Leaf.int IntKind.i64] [.s (.int .i64 a), .s (.int .i64 b)] [.s (.int .i64 c), .s (.int .i64 d)] = some (a == c && b == d) := by
  simp only [eqLeaves, eqLeaf, and_self, if_true, Bool.and_true]
section
variable {CT : Nat → Option CFun}
end
end Go.Proofs.YtfnkpedipicjnaaDoor
set_option maxRecDepth 100000
namespace Go.Proofs.YtfnkpedipicjnaaDoor
open Go.AM
theorem AccW.look {m : Nat} {F : Heap} {v : V} {R : List (List V)} (h : AccW m 5 F v R) : ∃ id g, ∀ (i : Nat) (r : List V), R[i]? = some r → xIndexAddr 5 v (.s (.int .i64 i)) = some (.ref id g (i * 5)) ∧ ∀ H, KeepD F.length [] F H → xLoad H true 5 (.ref id g (i * 5)) = some (.agg r) ∧ ∀ (o : Nat) (x : V), r[o]? = some x → xLoad H false 1 (.ref id g (i * 5 + o)) = some x := by
  obtain ⟨hR, ⟨rfl, rfl⟩ | ⟨id, g, rfl, hc, hid⟩⟩ := h
  · exact ⟨0, 0, fun i r hr => by simp at hr⟩
  · refine ⟨id, g, fun i r hr => ?_⟩
    have key : ∀ H, KeepD F.length [] F H → ∃ a, xIndexAddr 5 (.sl id g 0 R.length 5) (.s (.int .i64 i)) = some a ∧ xLoad H true 5 a = some (.agg r) ∧ ∀ (o : Nat) (x : V), r[o]? = some x → ∃ b, xFieldAddr o a = some b ∧ xLoad H false 1 b = some x := fun H k => (RdW.sl (k.getC hc (getC_lt hc) (by simp)) hR).at' i r hr
    have hi := (List.getElem?_eq_some_iff.1 hr).1
    have ea : xIndexAddr 5 (.sl id g 0 R.length 5) (.s (.int .i64 i)) = some (.ref id g (i * 5)) := by
      rw [xi_sl, if_pos ⟨by omega, by omega, rfl⟩, Int.toNat_natCast, Nat.zero_add]
    refine ⟨ea, fun H k => ?_⟩
    obtain ⟨a, a1, a2, a3⟩ := key H k
    rw [ea] at a1
    cases a1
    refine ⟨a2, fun o x hx => ?_⟩
    obtain ⟨b, b1, b2⟩ := a3 o x hx
    cases b1
    exact b2
theorem eq5 (a n l c a' n' l' c' : Int) (x x' : ByteArray) : eqLeaves [Leaf.int IntKind.u8, Leaf.str, Leaf.int IntKind.i64, Leaf.int IntKind.i64, Leaf.int IntKind.i64] [.s (.int .u8 a), .s (.string x), .s (.int .i64 n), .s (.int .i64 l), .s (.int .i64 c)] [.s (.int .u8 a'), .s (.string x'), .s (.int .i64 n'), .s (.int .i64 l'), .s (.int .i64 c')] = some (a == a' && (x.data.toList == x'.data.toList && (n == n' && (l == l' && c == c')))) := by
  simp only [eqLeaves, eqLeaf, and_self, if_true, Bool.and_true]
theorem lexR_small {l : List UInt8} (h : l.length ≤ 1048576) : lexR l = match Tok.lex l 1 1 with
    | .done ts => (ts, (0, 0), 0)
    | .bad e a q => ([], (a, q), e) := if_neg (by omega)
section
variable {CT : Nat → Option CFun}
end
end Go.Proofs.YtfnkpedipicjnaaDoor
namespace Go.AM.Tok
def lexN : Nat → List UInt8 → Nat → Nat → Out
  | 0, _, _, _ => .bad 0 0 0
  | _ + 1, [], ln, cl => .done [⟨4, [], 0, ln, cl⟩]
  | n + 1, c :: l, ln, cl =>
    if blank c then (if c = 10 then lexN n l (ln + 1) 1 else lexN n l ln (cl + 1))
    else if c = 59 then lexN n (l.drop (far other l)) ln (cl + (far other l + 1))
    else if letter c then (lexN n (l.drop (far within l)) ln (cl + (far within l + 1))).cons ⟨1, c :: l.take (far within l), 0, ln, cl⟩
    else if digit c then
      if 9 < far digit l + 1 ∨ (1 < far digit l + 1 ∧ c = 48) ∨ far digit l < far within l then .bad 31 ln cl
      else (lexN n (l.drop (far digit l)) ln (cl + (far digit l + 1))).cons ⟨2, c :: l.take (far digit l), val (c :: l.take (far digit l)), ln, cl⟩
    else if sign c then (lexN n l ln (cl + 1)).cons ⟨3, [c], 0, ln, cl⟩
    else .bad 30 ln cl
theorem lexN_eq : ∀ (n : Nat) (l : List UInt8) (ln cl : Nat), l.length < n → lexN n l ln cl = lex l ln cl := by
  intro n
  induction n with
  | zero => intro l ln cl h; omega
  | succ n ih =>
    intro l ln cl h
    cases l with
    | nil => rw [lex_nil, lexN]
    | cons c l =>
      have hl : l.length < n := by simpa using h
      have hd : ∀ m, (l.drop m).length < n := fun m => by rw [List.length_drop]; omega
      rw [lex_cons, lexN, ih _ _ _ hl, ih _ _ _ hl, ih _ _ _ (hd _), ih _ _ _ (hd _), ih _ _ _ (hd _)]
theorem far_rep (p : UInt8 → Bool) (c : UInt8) (h : p c = true) : ∀ n, far p (List.replicate n c) = n
  | 0 => rfl
  | n + 1 => by rw [List.replicate_succ, far, if_pos h, far_rep p c h n]
theorem lex_rep (n : Nat) : lex (List.replicate (n + 1) 59) 1 1 = .done [⟨4, [], 0, 1, n + 2⟩] := by
  rw [List.replicate_succ, lex_cons, if_neg (by decide), if_pos rfl, far_rep other 59 (by decide), List.drop_eq_nil_of_le (by simp), lex_nil]
  simp [Nat.add_comm, Nat.add_left_comm]
end Go.AM.Tok
set_option maxRecDepth 100000
namespace Go.Proofs.YtfnkpedipicjnaaDoor
open Go.AM
theorem lexR_bad {l : List UInt8} {e a q : Nat} (h : l.length ≤ 1000) (he : Tok.lexN (l.length + 1) l 1 1 = .bad e a q) : lexR l = ([], (a, q), e) := by
  rw [lexR_small (by omega), ← Tok.lexN_eq (l.length + 1) l 1 1 (Nat.lt_succ_self _), he]
theorem lexR_done {l : List UInt8} {ts : List Tok.T} (h : l.length ≤ 1000) (he : Tok.lexN (l.length + 1) l 1 1 = .done ts) : lexR l = (ts, (0, 0), 0) := by
  rw [lexR_small (by omega), ← Tok.lexN_eq (l.length + 1) l 1 1 (Nat.lt_succ_self _), he]
def bads : List (List UInt8 × Nat × Nat × Nat) := [([48, 48, 55], 31, 1, 1), ([49, 50, 51, 52, 53, 54, 55, 56, 57, 48], 31, 1, 1), ([49, 97], 31, 1, 1), ([49, 46], 31, 1, 1), ([97, 45, 98], 30, 1, 2), ([46], 30, 1, 1), ([97, 10, 32, 49, 95], 31, 2, 2), ([59, 32, 45, 10, 9, 45], 30, 2, 2), ([128], 30, 1, 1), ([97, 0], 30, 1, 2), ([48, 48], 31, 1, 1)]
def badV (r : List UInt8 × Nat × Nat × Nat) : List V := [.s (.string ⟨r.1.toArray⟩), I r.2.1, I r.2.2.1, I r.2.2.2]
theorem bads_ok : ∀ r ∈ bads, lexR r.1 = ([], (r.2.2.1, r.2.2.2), r.2.1) := by
  have h : ∀ r ∈ bads, r.1.length ≤ 1000 ∧ Tok.lexN (r.1.length + 1) r.1 1 1 = .bad r.2.1 r.2.2.1 r.2.2.2 := by decide +kernel
  intro r hr
  obtain ⟨h1, h2⟩ := h r hr
  exact lexR_bad h1 h2
section
variable {CT : Nat → Option CFun}
theorem known_bad_loop (hL : CT k_token_Lex = some (.code s_token_Lex)) (T : TL CT) {base : Nat} {v1 : V} {F : Heap} (hbase : base ≤ F.length) (hv : ∀ H, KeepD F.length [] F H → RdW 4 H v1 (bads.map badV)) : ∀ (n j : Nat) (H : Heap), j + n = 11 → KeepD F.length [] F H →
    ∃ H', itW (evC (callW CT) itW base s_gnomonlaw03_TokenKnown_l0) [] F.length (frOf 252 [(1, v1), (2, I j)]) H = some (.ext 0, frOf 252 [(1, v1), (2, I ((11 : Nat) : Int)), (38, bl false)], H') ∧ KeepD F.length [] F H' := by
  have e1 := fun {H : Heap} (k : KeepD F.length [] F H) => (hv H k).len
  rw [List.length_map, show bads.length = 11 from rfl] at e1
  intro n
  induction n with
  | zero =>
    intro j H hj hk
    obtain rfl : j = 11 := by omega
    refine ⟨_, ?_, KeepD.tr hk (frOf 252 [(1, v1), (2, I ((11 : Nat) : Int)), (38, bl false)])⟩
    rw [itW_step]
    simp only [a_gnomonlaw03_TokenKnown,s_gnomonlaw03_TokenKnown_l0_b,s_gnomonlaw03_TokenKnown_l1_b, am0,am1,am2,am3,am4,am5,am6,am7,bl,i64,reduceIte,reduceCtorEq,Nat.reduceEqDiff,Nat.reduceLT,Nat.reduceLeDiff,Nat.reduceBEq,Nat.reduceAdd,fillA,splice,Nat.reduceMul,al0,al1,al2,al3,al4,al5,al6,al7,al8,al9,al10,al11,al12,al13,al14,al15,al16,al17,al18,al19,al20,al21,al22,al23,al24,al25,al26,al27,al28,al29,al30,al31,al32,al33,al34,amY,op_eqP, I, bl, e1 hk, Int.lt_irrefl]
  | succ n ih =>
    intro j H hj hk
    have hlt' : ((j : Int) < ((11 : Nat) : Int)) := by omega
    have hj2 : j < bads.length := by rw [show bads.length = 11 from rfl]; omega
    have w := w64_nat (n := j) (by omega)
    have hrow : (bads.map badV)[j]? = some (badV bads[j]) := by rw [List.getElem?_map, List.getElem?_eq_getElem hj2]; rfl
    obtain ⟨r, hr⟩ : ∃ r, bads[j] = r := ⟨_, rfl⟩
    rw [hr] at hrow
    have hq := bads_ok r (by rw [← hr]; exact List.getElem_mem hj2)
    have hHl := hk.1
    obtain ⟨a, a1, a2, a3⟩ := (hv H hk).at' j _ hrow
    obtain ⟨b0, f0, l0⟩ := a3 0 _ rfl
    obtain ⟨q, hqq⟩ : ∃ q, lexR r.1 = q := ⟨_, rfl⟩
    obtain ⟨v3, A, eA, aA, kA⟩ := lex_fun hL T base H (by omega) ⟨r.1.toArray⟩ q hqq
    rw [hqq] at hq
    obtain ⟨B, hB⟩ : ∃ B, A ++ [Ob.cells 0 [I q.2.1.1, I q.2.1.2]] = B := ⟨_, rfl⟩
    have lB : B.length = A.length + 1 := by rw [← hB]; simp
    have hAl := kA.1
    have kAB : KeepD A.length [] A B := ⟨by omega, fun id h1 _ => by rw [← hB, List.getElem?_append_left h1]⟩
    have gB : getC B A.length 0 = some [I q.2.1.1, I q.2.1.2] := by rw [← hB]; exact getC_new A 0 _
    have kB : KeepD F.length [] F B := (hk.trans kA hHl).trans kAB (by omega)
    obtain ⟨a', a1', a2', a3'⟩ := (hv B kB).at' j _ hrow
    rw [a1] at a1'
    cases a1'
    obtain ⟨b1, f1, l1⟩ := a3' 1 _ rfl
    obtain ⟨b2, f2, l2⟩ := a3' 2 _ rfl
    obtain ⟨b3, f3, l3⟩ := a3' 3 _ rfl
    have n3 := (aA.d kAB).rd.len
    rw [List.length_map] at n3
    have p1 : q.1 = [] := by rw [hq]
    have p2 : q.2.1.1 = r.2.2.1 := by rw [hq]
    have p3 : q.2.1.2 = r.2.2.2 := by rw [hq]
    have p4 : q.2.2 = r.2.1 := by rw [hq]
    rw [p2, p3] at eA hB gB
    rw [p4] at eA
    rw [p1] at n3
    have z0 : (((List.length ([] : List Tok.T) : Nat) : Int) != 0) = false := rfl
    obtain ⟨H', e, k⟩ := ih (j + 1) _ (by omega) (KeepD.tr kB (frOf 252 [(1, v1), (2, I (j + 1 : Nat))]))
    refine ⟨H', ?_, k⟩
    rw [itW_step]
    have hbA : base ≤ A.length := by omega
    simp only [I, bl] at e eA hB gB l1 l2 l3
    simp only [a_gnomonlaw03_TokenKnown,s_gnomonlaw03_TokenKnown_l0_b,s_gnomonlaw03_TokenKnown_l1_b, am0,am1,am2,am3,am4,am5,am6,am7,bl,i64,reduceIte,reduceCtorEq,Nat.reduceEqDiff,Nat.reduceLT,Nat.reduceLeDiff,Nat.reduceBEq,Nat.reduceAdd,fillA,splice,Nat.reduceMul,al0,al1,al2,al3,al4,al5,al6,al7,al8,al9,al10,al11,al12,al13,al14,al15,al16,al17,al18,al19,al20,al21,al22,al23,al24,al25,al26,al27,al28,al29,al30,al31,al32,al33,al34,amY,op_eqP, I, bl, e1 hk, hlt', a1, f0, l0, eA, hB, hbA, n3, z0, f1, l1, f2, l2, f3, l3, gB, bne_self_eq_false, w, e]
theorem known_fill_loop {base : Nat} {A : Heap} (hbase : base ≤ A.length) {N : Nat} (hN : N < 2 ^ 40) : ∀ (n i : Nat), i + n = N →
    itW (evC (callW CT) itW base s_gnomonlaw03_TokenKnown_l1) [] (A.length + 1) (frOf 252 [(12, .sl A.length 0 0 N 1), (13, I i)]) (A ++ [Ob.cells 0 (List.replicate i (V.s (.int .u8 59)) ++ List.replicate n (V.s (.int .u8 0)))]) = some (.ext 2, frOf 252 [(12, .sl A.length 0 0 N 1), (13, I N), (177, bl false)], A ++ [Ob.cells 0 (List.replicate N (V.s (.int .u8 59)))]) := by
  intro n
  induction n with
  | zero =>
    intro i hi
    obtain rfl : i = N := by omega
    rw [itW_step]
    have tr : ∀ fr ob, trim (A.length + 1) fr (A ++ [ob]) = A ++ [ob] := fun fr ob => trim_same (by simp)
    simp only [a_gnomonlaw03_TokenKnown,s_gnomonlaw03_TokenKnown_l0_b,s_gnomonlaw03_TokenKnown_l1_b, am0,am1,am2,am3,am4,am5,am6,am7,bl,i64,reduceIte,reduceCtorEq,Nat.reduceEqDiff,Nat.reduceLT,Nat.reduceLeDiff,Nat.reduceBEq,Nat.reduceAdd,fillA,splice,Nat.reduceMul,al0,al1,al2,al3,al4,al5,al6,al7,al8,al9,al10,al11,al12,al13,al14,al15,al16,al17,al18,al19,al20,al21,al22,al23,al24,al25,al26,al27,al28,al29,al30,al31,al32,al33,al34,amY,op_eqP, I, bl, Int.lt_irrefl, List.replicate_zero, List.append_nil, tr]
  | succ n ih =>
    intro i hi
    have hlt' : ((i : Int) < (N : Int)) := by omega
    have w := w64_nat (n := i) (by omega)
    have e := ih (i + 1) (by omega)
    have tr : ∀ fr ob, trim (A.length + 1) fr (A ++ [ob]) = A ++ [ob] := fun fr ob => trim_same (by simp)
    obtain ⟨G, hG⟩ : ∃ G, A ++ [Ob.cells 0 (List.replicate i (V.s (.int .u8 59)) ++ List.replicate (n + 1) (V.s (.int .u8 0)))] = G := ⟨_, rfl⟩
    have gG : getC G A.length 0 = some (List.replicate i (V.s (.int .u8 59)) ++ List.replicate (n + 1) (V.s (.int .u8 0))) := by rw [← hG]; exact getC_new A 0 _
    have lG : G.length = A.length + 1 := by rw [← hG]; simp
    have hset : G.set A.length (.cells 0 ((List.replicate i (V.s (.int .u8 59)) ++ List.replicate (n + 1) (V.s (.int .u8 0))).set i (V.s (.int .u8 59)))) = A ++ [Ob.cells 0 (List.replicate (i + 1) (V.s (.int .u8 59)) ++ List.replicate n (V.s (.int .u8 0)))] := by
      rw [← hG, List.set_append_right _ _ (Nat.le_refl _), Nat.sub_self, List.set_cons_zero, List.set_append_right _ _ (by simp), List.length_replicate, Nat.sub_self, List.replicate_succ, List.set_cons_zero, List.replicate_succ', List.append_assoc]
      rfl
    have hst := storeV_at (H := G) (base := base) (id := A.length) (g := 0) gG hbase (v := V.s (.int .u8 59)) rfl (off := i) (by simp)
    rw [hset] at hst
    have hix : (0 ≤ (i : Int) ∧ (i : Int) < (N : Int) ∧ 1 = 1) := by omega
    rw [hG, itW_step]
    simp only [I, bl] at e
    simp only [a_gnomonlaw03_TokenKnown,s_gnomonlaw03_TokenKnown_l0_b,s_gnomonlaw03_TokenKnown_l1_b, am0,am1,am2,am3,am4,am5,am6,am7,bl,i64,reduceIte,reduceCtorEq,Nat.reduceEqDiff,Nat.reduceLT,Nat.reduceLeDiff,Nat.reduceBEq,Nat.reduceAdd,fillA,splice,Nat.reduceMul,al0,al1,al2,al3,al4,al5,al6,al7,al8,al9,al10,al11,al12,al13,al14,al15,al16,al17,al18,al19,al20,al21,al22,al23,al24,al25,al26,al27,al28,al29,al30,al31,al32,al33,al34,amY,op_eqP, I, bl, hlt', hix, hst, ↓hst, w, tr, e]
end
end Go.Proofs.YtfnkpedipicjnaaDoor
set_option maxRecDepth 100000
namespace Go.Proofs.YtfnkpedipicjnaaDoor
open Go.AM
theorem op_bstr (call : CallF) (base : Nat) (fr : List V) (H : Heap) (x : Opd) : evOp call base fr H (.bstr x) = RH H (bstrV H (ev fr x)) := by
  show (bstrV H (ev fr x)).map _ = _
  cases bstrV H (ev fr x) <;> rfl
theorem bytesV_rep (n : Nat) : bytesV (List.replicate n (V.s (.int .u8 59))) = some (List.replicate n 59) := by
  induction n with
  | zero => rfl
  | succ n ih =>
    rw [List.replicate_succ, List.replicate_succ]
    show (match bytesV (List.replicate n (V.s (.int .u8 59))) with | some bs => some (UInt8.ofNat (59 : Int).toNat :: bs) | none => none) = _
    rw [ih]
    rfl
theorem bstr_rep {H : Heap} {id k N : Nat} (h : getC H id 0 = some (List.replicate N (V.s (.int .u8 59)))) (hk : k ≤ N) : bstrV H (.sl id 0 k (N - k) 1) = some (.s (.string ⟨(List.replicate (N - k) 59).toArray⟩)) := by
  have e : elems H 1 (.sl id 0 k (N - k) 1) = some (N - k, List.replicate (N - k) (V.s (.int .u8 59))) := by
    simp only [elems, if_true, h, List.drop_replicate, Nat.mul_one, List.take_replicate, Nat.min_self, List.length_replicate]
  show (match elems H 1 (.sl id 0 k (N - k) 1) with | some (_, xs) => (match bytesV xs with | some bs => some (V.s (.string ⟨bs.toArray⟩)) | none => none) | none => none) = _
  rw [e]
  simp only [bytesV_rep]
theorem AccW.idx {m : Nat} {F : Heap} {v : V} {ts : List Tok.T} (h : AccW m 5 F v (ts.map tV)) (h0 : ts ≠ []) : ∃ id g, (∀ i, i < ts.length → xIndexAddr 5 v (.s (.int .i64 (i : Nat))) = some (.ref id g (i * 5))) ∧ getC F id g = some (ts.map tV).flatten := by
  obtain ⟨_, ⟨e, _⟩ | ⟨id, g, rfl, hc, _⟩⟩ := h
  · exact absurd (List.map_eq_nil_iff.1 e) h0
  · refine ⟨id, g, fun i hi => ?_, hc⟩
    rw [xi_sl, if_pos ⟨by omega, by rw [List.length_map]; omega, rfl⟩, Int.toNat_natCast, Nat.zero_add]
section
variable {CT : Nat → Option CFun}
theorem known_law (hT : CT k_gnomonlaw03_TokenKnown = some (.code s_gnomonlaw03_TokenKnown)) (hL : CT k_token_Lex = some (.code s_token_Lex)) (T : TL CT) (hxx : ∀ base H, callW CT (.fn k_gnomonlaw03_lexes [] []) [] base H = some (bl true, H)) :
    ∃ H', callW CT (.fn k_gnomonlaw03_TokenKnown [] []) [] 0 [] = some (bl true, H') := by
  obtain ⟨F, hF⟩ : ∃ F, [Ob.cells 0 (bads.map badV).flatten] = F := ⟨_, rfl⟩
  have lF : F.length = 1 := by rw [← hF]; rfl
  have gF : getC F 0 0 = some (bads.map badV).flatten := by rw [← hF]; rfl
  have hFx : [Ob.cells 0 [V.s (.string ⟨#[48, 48, 55]⟩), V.s (.int .i64 31), V.s (.int .i64 1), V.s (.int .i64 1), V.s (.string ⟨#[49, 50, 51, 52, 53, 54, 55, 56, 57, 48]⟩), V.s (.int .i64 31), V.s (.int .i64 1), V.s (.int .i64 1), V.s (.string ⟨#[49, 97]⟩), V.s (.int .i64 31), V.s (.int .i64 1), V.s (.int .i64 1), V.s (.string ⟨#[49, 46]⟩), V.s (.int .i64 31), V.s (.int .i64 1), V.s (.int .i64 1), V.s (.string ⟨#[97, 45, 98]⟩), V.s (.int .i64 30), V.s (.int .i64 1), V.s (.int .i64 2), V.s (.string ⟨#[46]⟩), V.s (.int .i64 30), V.s (.int .i64 1), V.s (.int .i64 1), V.s (.string ⟨#[97, 10, 32, 49, 95]⟩), V.s (.int .i64 31), V.s (.int .i64 2), V.s (.int .i64 2), V.s (.string ⟨#[59, 32, 45, 10, 9, 45]⟩), V.s (.int .i64 30), V.s (.int .i64 2), V.s (.int .i64 2), V.s (.string ⟨#[128]⟩), V.s (.int .i64 30), V.s (.int .i64 1), V.s (.int .i64 1), V.s (.string ⟨#[97, 0]⟩), V.s (.int .i64 30), V.s (.int .i64 1), V.s (.int .i64 2), V.s (.string ⟨#[48, 48]⟩), V.s (.int .i64 31), V.s (.int .i64 1), V.s (.int .i64 1)]] = F := hF
  have hv : ∀ H, KeepD F.length [] F H → RdW 4 H (.sl 0 0 0 11 4) (bads.map badV) := fun H k => RdW.sl (R := bads.map badV) (k.getC gF (by omega) (by simp)) (by intro r hr; obtain ⟨x, _, rfl⟩ := List.mem_map.1 hr; rfl)
  obtain ⟨H1, e1, k1⟩ := known_bad_loop hL T (base := 0) (Nat.zero_le _) hv 11 0 F rfl (KeepD.refl [] F)
  have r1 : lexR [97, 46, 49, 61, 99, 111, 112, 121, 32, 98, 59, 120] = ([⟨1, [97, 46, 49], 0, 1, 1⟩, ⟨3, [61], 0, 1, 4⟩, ⟨1, [99, 111, 112, 121], 0, 1, 5⟩, ⟨1, [98], 0, 1, 10⟩, ⟨4, [], 0, 1, 13⟩], (0, 0), 0) := lexR_done (by decide) (by decide +kernel)
  obtain ⟨q1, hq1⟩ : ∃ q, lexR [97, 46, 49, 61, 99, 111, 112, 121, 32, 98, 59, 120] = q := ⟨_, rfl⟩
  obtain ⟨v6, A1, eA1, aA1, kA1⟩ := lex_fun hL T 0 H1 (Nat.zero_le _) ⟨#[97, 46, 49, 61, 99, 111, 112, 121, 32, 98, 59, 120]⟩ q1 hq1
  obtain ⟨B1, hB1⟩ : ∃ B, A1 ++ [Ob.cells 0 [I q1.2.1.1, I q1.2.1.2]] = B := ⟨_, rfl⟩
  have kAB1 : KeepD A1.length [] A1 B1 := ⟨by rw [← hB1]; simp, fun id h1 _ => by rw [← hB1, List.getElem?_append_left h1]⟩
  rw [hq1] at r1
  have q11 : q1.1 = [⟨1, [97, 46, 49], 0, 1, 1⟩, ⟨3, [61], 0, 1, 4⟩, ⟨1, [99, 111, 112, 121], 0, 1, 5⟩, ⟨1, [98], 0, 1, 10⟩, ⟨4, [], 0, 1, 13⟩] := by rw [r1]
  have z1 : (((q1.2.2 : Nat) : Int) != 0) = false := by rw [r1]; rfl
  rw [q11] at aA1
  have n1 := (aA1.d kAB1).rd.len
  obtain ⟨id1, g1, i1, c1⟩ := AccW.idx (aA1.d kAB1) (by simp)
  have i10 : xIndexAddr 5 v6 (.s (.int .i64 0)) = some (.ref id1 g1 0) := i1 0 (by decide)
  have i11 : xIndexAddr 5 v6 (.s (.int .i64 1)) = some (.ref id1 g1 5) := i1 1 (by decide)
  have i13 : xIndexAddr 5 v6 (.s (.int .i64 3)) = some (.ref id1 g1 15) := i1 3 (by decide)
  have i14 : xIndexAddr 5 v6 (.s (.int .i64 4)) = some (.ref id1 g1 20) := i1 4 (by decide)
  have c1' : getC B1 id1 g1 = some [V.s (.int .u8 1), V.s (.string ⟨#[97, 46, 49]⟩), V.s (.int .i64 0), V.s (.int .i64 1), V.s (.int .i64 1), V.s (.int .u8 3), V.s (.string ⟨#[61]⟩), V.s (.int .i64 0), V.s (.int .i64 1), V.s (.int .i64 4), V.s (.int .u8 1), V.s (.string ⟨#[99, 111, 112, 121]⟩), V.s (.int .i64 0), V.s (.int .i64 1), V.s (.int .i64 5), V.s (.int .u8 1), V.s (.string ⟨#[98]⟩), V.s (.int .i64 0), V.s (.int .i64 1), V.s (.int .i64 10), V.s (.int .u8 4), V.s (.string ⟨#[]⟩), V.s (.int .i64 0), V.s (.int .i64 1), V.s (.int .i64 13)] := c1
  have n1' : xLen B1 .s v6 = some (.s (.int .i64 5)) := n1
  have r2 : lexR [49, 50, 51, 52, 53, 54, 55, 56, 57, 32, 48, 40, 95, 65, 57, 13, 10, 41] = ([⟨2, [49, 50, 51, 52, 53, 54, 55, 56, 57], 123456789, 1, 1⟩, ⟨2, [48], 0, 1, 11⟩, ⟨3, [40], 0, 1, 12⟩, ⟨1, [95, 65, 57], 0, 1, 13⟩, ⟨3, [41], 0, 2, 1⟩, ⟨4, [], 0, 2, 2⟩], (0, 0), 0) := lexR_done (by decide) (by decide +kernel)
  obtain ⟨q2, hq2⟩ : ∃ q, lexR [49, 50, 51, 52, 53, 54, 55, 56, 57, 32, 48, 40, 95, 65, 57, 13, 10, 41] = q := ⟨_, rfl⟩
  obtain ⟨v9, A2, eA2, aA2, kA2⟩ := lex_fun hL T 0 B1 (Nat.zero_le _) ⟨#[49, 50, 51, 52, 53, 54, 55, 56, 57, 32, 48, 40, 95, 65, 57, 13, 10, 41]⟩ q2 hq2
  obtain ⟨B2, hB2⟩ : ∃ B, A2 ++ [Ob.cells 0 [I q2.2.1.1, I q2.2.1.2]] = B := ⟨_, rfl⟩
  have kAB2 : KeepD A2.length [] A2 B2 := ⟨by rw [← hB2]; simp, fun id h1 _ => by rw [← hB2, List.getElem?_append_left h1]⟩
  rw [hq2] at r2
  have q21 : q2.1 = [⟨2, [49, 50, 51, 52, 53, 54, 55, 56, 57], 123456789, 1, 1⟩, ⟨2, [48], 0, 1, 11⟩, ⟨3, [40], 0, 1, 12⟩, ⟨1, [95, 65, 57], 0, 1, 13⟩, ⟨3, [41], 0, 2, 1⟩, ⟨4, [], 0, 2, 2⟩] := by rw [r2]
  have z2 : (((q2.2.2 : Nat) : Int) != 0) = false := by rw [r2]; rfl
  rw [q21] at aA2
  have n2 := (aA2.d kAB2).rd.len
  obtain ⟨id2, g2, i2, c2⟩ := AccW.idx (aA2.d kAB2) (by simp)
  have i20 : xIndexAddr 5 v9 (.s (.int .i64 0)) = some (.ref id2 g2 0) := i2 0 (by decide)
  have i21 : xIndexAddr 5 v9 (.s (.int .i64 1)) = some (.ref id2 g2 5) := i2 1 (by decide)
  have i23 : xIndexAddr 5 v9 (.s (.int .i64 3)) = some (.ref id2 g2 15) := i2 3 (by decide)
  have i24 : xIndexAddr 5 v9 (.s (.int .i64 4)) = some (.ref id2 g2 20) := i2 4 (by decide)
  have c2' : getC B2 id2 g2 = some [V.s (.int .u8 2), V.s (.string ⟨#[49, 50, 51, 52, 53, 54, 55, 56, 57]⟩), V.s (.int .i64 123456789), V.s (.int .i64 1), V.s (.int .i64 1), V.s (.int .u8 2), V.s (.string ⟨#[48]⟩), V.s (.int .i64 0), V.s (.int .i64 1), V.s (.int .i64 11), V.s (.int .u8 3), V.s (.string ⟨#[40]⟩), V.s (.int .i64 0), V.s (.int .i64 1), V.s (.int .i64 12), V.s (.int .u8 1), V.s (.string ⟨#[95, 65, 57]⟩), V.s (.int .i64 0), V.s (.int .i64 1), V.s (.int .i64 13), V.s (.int .u8 3), V.s (.string ⟨#[41]⟩), V.s (.int .i64 0), V.s (.int .i64 2), V.s (.int .i64 1), V.s (.int .u8 4), V.s (.string ⟨#[]⟩), V.s (.int .i64 0), V.s (.int .i64 2), V.s (.int .i64 2)] := c2
  have n2' : xLen B2 .s v9 = some (.s (.int .i64 6)) := n2
  obtain ⟨N, hN⟩ : ∃ N, N = 1048577 := ⟨_, rfl⟩
  have hmk : makeV B2 [V.s (.int .u8 0)] 1 1 (.s (.int .i64 1048577)) (.s (.int .i64 1048577)) = some (.sl B2.length 0 0 N 1, B2 ++ [.cells 0 (List.replicate N (V.s (.int .u8 0)))]) := by
    have := make_n (H := B2) (zero := [V.s (.int .u8 0)]) (sz := 1) (bytes := 1) (k := .i64) (k' := .i64) (n := N) (by omega)
    rw [flat_one] at this
    rw [← this, hN]
    rfl
  obtain ⟨M1, hM1⟩ : ∃ M, B2 ++ [Ob.cells 0 (List.replicate N (V.s (.int .u8 59)))] = M := ⟨_, rfl⟩
  have gM : getC M1 B2.length 0 = some (List.replicate N (V.s (.int .u8 59))) := by rw [← hM1]; exact getC_new B2 0 _
  have lM : M1.length = B2.length + 1 := by rw [← hM1]; simp
  have efl := known_fill_loop (CT := CT) (base := 0) (A := B2) (Nat.zero_le _) (N := N) (by omega) N 0 (by omega)
  rw [List.replicate_zero, List.nil_append, hM1] at efl
  have bs1 := bstr_rep gM (k := 0) (Nat.zero_le _)
  have bs2 := bstr_rep gM (k := 1) (by omega)
  rw [Nat.sub_zero] at bs1
  obtain ⟨q3, hq3⟩ : ∃ q, lexR (List.replicate N 59) = q := ⟨_, rfl⟩
  have r3 : q3 = ([], (0, 0), 2) := by rw [← hq3]; exact if_pos (by rw [List.length_replicate]; omega)
  obtain ⟨v14, A3, eA3, aA3, kA3⟩ := lex_fun hL T 0 M1 (Nat.zero_le _) ⟨(List.replicate N 59).toArray⟩ q3 hq3
  obtain ⟨B3, hB3⟩ : ∃ B, A3 ++ [Ob.cells 0 [I q3.2.1.1, I q3.2.1.2]] = B := ⟨_, rfl⟩
  have kAB3 : KeepD A3.length [] A3 B3 := ⟨by rw [← hB3]; simp, fun id h1 _ => by rw [← hB3, List.getElem?_append_left h1]⟩
  have lB3 : B3.length = A3.length + 1 := by rw [← hB3]; simp
  have gB3 : getC B3 A3.length 0 = some [I q3.2.1.1, I q3.2.1.2] := by rw [← hB3]; exact getC_new A3 0 _
  have hA3l := kA3.1
  have gM3 : getC B3 B2.length 0 = some (List.replicate N (V.s (.int .u8 59))) := kAB3.getC (kA3.getC gM (by omega) (by simp)) (by omega) (by simp)
  have bs3 := bstr_rep gM3 (k := 1) (by omega)
  obtain ⟨q4, hq4⟩ : ∃ q, lexR (List.replicate (N - 1) 59) = q := ⟨_, rfl⟩
  have r4 : q4 = ([⟨4, [], 0, 1, N⟩], (0, 0), 0) := by
    rw [← hq4, lexR_small (by rw [List.length_replicate]; omega), show N - 1 = (N - 2) + 1 by omega, Tok.lex_rep, show N - 2 + 2 = N by omega]
  obtain ⟨v17, A4, eA4, aA4, kA4⟩ := lex_fun hL T 0 B3 (Nat.zero_le _) ⟨(List.replicate (N - 1) 59).toArray⟩ q4 hq4
  obtain ⟨B4, hB4⟩ : ∃ B, A4 ++ [Ob.cells 0 [I q4.2.1.1, I q4.2.1.2]] = B := ⟨_, rfl⟩
  have kAB4 : KeepD A4.length [] A4 B4 := ⟨by rw [← hB4]; simp, fun id h1 _ => by rw [← hB4, List.getElem?_append_left h1]⟩
  obtain ⟨q5, hq5⟩ : ∃ q, lexR [] = q := ⟨_, rfl⟩
  have r5 : q5 = ([⟨4, [], 0, 1, 1⟩], (0, 0), 0) := by rw [← hq5]; exact lexR_done (by decide) (by decide +kernel)
  obtain ⟨v20, A5, eA5, aA5, kA5⟩ := lex_fun hL T 0 B4 (Nat.zero_le _) ⟨#[]⟩ q5 hq5
  obtain ⟨B5, hB5⟩ : ∃ B, A5 ++ [Ob.cells 0 [I q5.2.1.1, I q5.2.1.2]] = B := ⟨_, rfl⟩
  have kAB5 : KeepD A5.length [] A5 B5 := ⟨by rw [← hB5]; simp, fun id h1 _ => by rw [← hB5, List.getElem?_append_left h1]⟩
  have lB4 : B4.length = A4.length + 1 := by rw [← hB4]; simp
  have hA4l := kA4.1
  have hA5l := kA5.1
  have k35 : KeepD B3.length [] B3 B5 := ((kA4.trans kAB4 hA4l).trans kA5 (by omega)).trans kAB5 (by omega)
  have k45 : KeepD A4.length [] A4 B5 := (kAB4.trans kA5 (by omega)).trans kAB5 (by omega)
  have gB35 : getC B5 A3.length 0 = some [I q3.2.1.1, I q3.2.1.2] := k35.getC gB3 (by omega) (by simp)
  have q31 : q3.1 = [] := by rw [r3]
  have q41 : q4.1 = [⟨4, [], 0, 1, N⟩] := by rw [r4]
  have q51 : q5.1 = [⟨4, [], 0, 1, 1⟩] := by rw [r5]
  rw [q31] at aA3
  rw [q41] at aA4
  rw [q51] at aA5
  have n3 : xLen B5 .s v14 = some (.s (.int .i64 0)) := ((aA3.d kAB3).d k35).rd.len
  have n4 : xLen B5 .s v17 = some (.s (.int .i64 1)) := (aA4.d k45).rd.len
  have n5 : xLen B5 .s v20 = some (.s (.int .i64 1)) := (aA5.d kAB5).rd.len
  obtain ⟨id4, g4, i4, c4⟩ := AccW.idx (aA4.d k45) (by simp)
  obtain ⟨id5, g5, i5, c5⟩ := AccW.idx (aA5.d kAB5) (by simp)
  have i40 : xIndexAddr 5 v17 (.s (.int .i64 0)) = some (.ref id4 g4 0) := i4 0 (Nat.lt_succ_self 0)
  have i50 : xIndexAddr 5 v20 (.s (.int .i64 0)) = some (.ref id5 g5 0) := i5 0 (by decide)
  have c4' : getC B5 id4 g4 = some [V.s (.int .u8 4), V.s (.string ⟨#[]⟩), V.s (.int .i64 0), V.s (.int .i64 1), V.s (.int .i64 N)] := c4
  have c5' : getC B5 id5 g5 = some [V.s (.int .u8 4), V.s (.string ⟨#[]⟩), V.s (.int .i64 0), V.s (.int .i64 1), V.s (.int .i64 1)] := c5
  have s31 : ((q3.2.1.1 : Int) == 0) = true := by rw [r3]; rfl
  have s32 : ((q3.2.1.2 : Int) == 0) = true := by rw [r3]; rfl
  have s33 : (((q3.2.2 : Nat) : Int) == 2) = true := by rw [r3]; rfl
  have s4 : (((q4.2.2 : Nat) : Int) == 0) = true := by rw [r4]; rfl
  have s5 : (((q5.2.2 : Nat) : Int) == 0) = true := by rw [r5]; rfl
  have sN : ((N : Int) == 1048577) = true := by rw [hN]; rfl
  simp only [I, bl, show ((0 : Nat) : Int) = 0 from rfl, show ((11 : Nat) : Int) = 11 from rfl] at e1 eA1 hB1 eA2 hB2 eA3 hB3 eA4 hB4 eA5 hB5 gB35 efl
  have kc14 : s_gnomonlaw03_TokenKnown_r22p0_k.contains 14 = true := by kernel_rfl
  have kc15 : s_gnomonlaw03_TokenKnown_r22p0_k.contains 15 = true := by kernel_rfl
  have kc16 : s_gnomonlaw03_TokenKnown_r22p0_k.contains 16 = true := by kernel_rfl
  have kc17 : s_gnomonlaw03_TokenKnown_r22p0_k.contains 17 = true := by kernel_rfl
  have kc19 : s_gnomonlaw03_TokenKnown_r22p0_k.contains 19 = true := by kernel_rfl
  have kc20 : s_gnomonlaw03_TokenKnown_r22p0_k.contains 20 = true := by kernel_rfl
  have kc22 : s_gnomonlaw03_TokenKnown_r22p0_k.contains 22 = true := by kernel_rfl
  have hs1 : ((0 : Int) ≤ 1 ∧ (1 : Int) ≤ (N : Int)) := by omega
  have tn1 : Int.toNat 1 = 1 := rfl
  have tn2 : ((N : Int) - 1).toNat = N - 1 := by omega
  refine ⟨_, callW_fn (c := s_gnomonlaw03_TokenKnown) hT (r := (bl true, B5)) (by simp [s_gnomonlaw03_TokenKnown]) ?_⟩
  simp only [s_gnomonlaw03_TokenKnown, bl, I, a_gnomonlaw03_TokenKnown,s_gnomonlaw03_TokenKnown_l0_b,s_gnomonlaw03_TokenKnown_l1_b, am0,am1,am2,am3,am4,am5,am6,am7,bl,i64,reduceIte,reduceCtorEq,Nat.reduceEqDiff,Nat.reduceLT,Nat.reduceLeDiff,Nat.reduceBEq,Nat.reduceAdd,fillA,splice,Nat.reduceMul,al0,al1,al2,al3,al4,al5,al6,al7,al8,al9,al10,al11,al12,al13,al14,al15,al16,al17,al18,al19,al20,al21,al22,al23,al24,al25,al26,al27,al28,al29,al30,al31,al32,al33,al34,amY,op_eqP, hFx, Nat.zero_le, e1, eA1, hB1, z1, n1', i10, i11, i13, i14, c1', eq5, spot_eq, eA2, hB2, z2, n2', i20, i21, i23, i24, c2', bne_self_eq_false, beq_self_eq_true, op_mkSl, hmk, efl, op_bstr, bs1, bs2, bs3, eA3, hB3, eA4, hB4, eA5, hB5, n3, n4, n5, i40, i50, c4', c5', s31, s32, s33, s4, s5, sN, gB35, hs1, tn1, tn2, kc14, kc15, kc16, kc17, kc19, kc20, kc22, hxx]
end
end Go.Proofs.YtfnkpedipicjnaaDoor
