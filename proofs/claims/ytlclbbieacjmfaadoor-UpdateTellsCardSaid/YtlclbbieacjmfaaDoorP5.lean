/- Texts of the proof: UpdDS3, UpdDU1, AmZ, UpdDU3, UpdDU4, UpdDX, UpdDU5, UpdDU6, AmI, UpdDR2, UpdDR3. -/
import Derived.Test.YtlclbbieacjmfaaDoorP0
import Derived.Test.YtlclbbieacjmfaaDoorP1
import Derived.Test.YtlclbbieacjmfaaDoorP2
import Derived.Test.YtlclbbieacjmfaaDoorP3
import Derived.Test.YtlclbbieacjmfaaDoorP4
set_option linter.all false
set_option maxRecDepth 100000
namespace Go.Proofs.YtlclbbieacjmfaaDoor
open Go.AM
abbrev k_gnomonlaw25_great : Nat := 4
def s_gnomonlaw25_great_r0_k : List Nat := [4, 5, 6, 7, 8, 9, 10, 11, 12, 13, 14, 15, 16, 17, 18, 19, 20, 21, 22, 23, 24, 25, 26, 27, 28, 29, 30, 31, 32, 33, 34, 35, 36, 37, 38, 39, 40]
theorem s_gnomonlaw25_great_r0_kT : killV s_gnomonlaw25_great_r0_k (startV 41 [] 4) = [] := by kernel_rfl
theorem s_gnomonlaw25_great_r0_kA0 : s_gnomonlaw25_great_r0_k.contains 0 = false := by kernel_rfl
theorem s_gnomonlaw25_great_r0_kA1 : s_gnomonlaw25_great_r0_k.contains 1 = false := by kernel_rfl
theorem s_gnomonlaw25_great_r0_kA2 : s_gnomonlaw25_great_r0_k.contains 2 = false := by kernel_rfl
theorem s_gnomonlaw25_great_r0_kA3 : s_gnomonlaw25_great_r0_k.contains 3 = false := by kernel_rfl
def s_gnomonlaw25_great_r0 : List AOper := [
  ⟨some 8, (.move (.c (.s (.bool false)))), none⟩]
theorem s_gnomonlaw25_great_r0_tale (fr : List V) (H : Heap) : evTale (symAll s_gnomonlaw25_great_r0 s_gnomonlaw25_great_r0_k []) s_gnomonlaw25_great_r0_k fr H = evTale (some (9, [], [])) s_gnomonlaw25_great_r0_k fr H := tale_row (items := [.cc (.s (.bool false))]) (by kernel_rfl) fr H
def s_gnomonlaw25_great_r1 : List AOper := [
  ⟨some 10, (.move (.t 0)), none⟩,
  ⟨some 11, (.lenS .s (.t 10)), none⟩,
  ⟨some 12, (.bin .gtr (.t 11) (.c (.s (.int .i64 300)))), none⟩,
  ⟨some 13, (.move (.t 12)), none⟩,
  ⟨some 14, (.move (.t 1)), some (13, false)⟩,
  ⟨some 15, (.lenS .s (.t 14)), some (13, false)⟩,
  ⟨some 16, (.bin .gtr (.t 15) (.c (.s (.int .i64 300)))), some (13, false)⟩,
  ⟨some 17, (.pick (.t 13) (.c (.s (.bool true))) (.t 16)), none⟩,
  ⟨some 18, (.move (.t 17)), none⟩,
  ⟨some 19, (.move (.t 2)), some (18, false)⟩,
  ⟨some 20, (.lenS .s (.t 19)), some (18, false)⟩,
  ⟨some 21, (.bin .gtr (.t 20) (.c (.s (.int .i64 300)))), some (18, false)⟩,
  ⟨some 22, (.pick (.t 18) (.c (.s (.bool true))) (.t 21)), none⟩,
  ⟨some 23, (.move (.t 22)), none⟩,
  ⟨some 24, (.move (.t 3)), some (23, false)⟩,
  ⟨some 25, (.lenS .s (.t 24)), some (23, false)⟩,
  ⟨some 26, (.bin .gtr (.t 25) (.c (.s (.int .i64 60)))), some (23, false)⟩,
  ⟨some 27, (.pick (.t 23) (.c (.s (.bool true))) (.t 26)), none⟩]
theorem s_gnomonlaw25_great_r1_tale (fr : List V) (H : Heap) : evTale (symAll s_gnomonlaw25_great_r1 [0, 1, 2, 10, 11, 12, 13, 14, 15, 16, 17, 18, 19, 20, 21, 22, 23, 24, 25, 26] [27]) [0, 1, 2, 10, 11, 12, 13, 14, 15, 16, 17, 18, 19, 20, 21, 22, 23, 24, 25, 26] fr H = evTale (some (28, [], [(27, (.pick (.pick (.pick (.op (.bin .gtr (.t 0) (.c (.s (.int .i64 300)))) [(.op (.lenS .s (.t 0)) [(.t 0)]), (.c (.s (.int .i64 300)))]) (.c (.s (.bool true))) (.op (.bin .gtr (.t 0) (.c (.s (.int .i64 300)))) [(.op (.lenS .s (.t 0)) [(.t 1)]), (.c (.s (.int .i64 300)))])) (.c (.s (.bool true))) (.op (.bin .gtr (.t 0) (.c (.s (.int .i64 300)))) [(.op (.lenS .s (.t 0)) [(.t 2)]), (.c (.s (.int .i64 300)))])) (.c (.s (.bool true))) (.op (.bin .gtr (.t 0) (.c (.s (.int .i64 60)))) [(.op (.lenS .s (.t 0)) [(.t 3)]), (.c (.s (.int .i64 60)))])))])) [0, 1, 2, 10, 11, 12, 13, 14, 15, 16, 17, 18, 19, 20, 21, 22, 23, 24, 25, 26] fr H := tale_row (items := [.tt 0, .sub 0 [0, 0, 0, 0] [], .sub 0 [0, 0, 0] [], .sub 0 [0, 0, 0] [], .sub 0 [0, 0, 2, 0, 0] [13], .sub 0 [0, 0, 2, 0] [13], .sub 0 [0, 0, 2] [13], .sub 0 [0, 0] [], .sub 0 [0, 0] [], .sub 0 [0, 2, 0, 0] [18], .sub 0 [0, 2, 0] [18], .sub 0 [0, 2] [18], .sub 0 [0] [], .sub 0 [0] [], .sub 0 [2, 0, 0] [23], .sub 0 [2, 0] [23], .sub 0 [2] [23], .sub 0 [] []]) (by kernel_rfl) fr H
def s_gnomonlaw25_great_r2 : List AOper := [
  ⟨some 8, (.move (.c (.s (.bool true)))), none⟩]
theorem s_gnomonlaw25_great_r2_tale (fr : List V) (H : Heap) : evTale (symAll s_gnomonlaw25_great_r2 [3, 27] [8]) [3, 27] fr H = evTale (some (9, [], [(8, (.c (.s (.bool true))))])) [3, 27] fr H := tale_row (items := [.cc (.s (.bool true))]) (by kernel_rfl) fr H
def s_gnomonlaw25_great_r3 : List AOper := [
  ⟨some 9, (.move (.c (.s (.int .i64 0)))), none⟩]
theorem s_gnomonlaw25_great_r3_tale (fr : List V) (H : Heap) : evTale (symAll s_gnomonlaw25_great_r3 [27] [9]) [27] fr H = evTale (some (10, [], [(9, (.c (.s (.int .i64 0))))])) [27] fr H := tale_row (items := [.cc (.s (.int .i64 0))]) (by kernel_rfl) fr H
def s_gnomonlaw25_great_r4 : List AOper := [
  ⟨some 28, (.move (.t 9)), none⟩,
  ⟨some 29, (.move (.t 3)), none⟩,
  ⟨some 30, (.lenS .s (.t 29)), none⟩,
  ⟨some 31, (.bin .lss (.t 28) (.t 30)), none⟩]
theorem s_gnomonlaw25_great_r4_tale (fr : List V) (H : Heap) : evTale (symAll s_gnomonlaw25_great_r4 [28, 29, 30] [31]) [28, 29, 30] fr H = evTale (some (32, [], [(31, (.op (.bin .lss (.t 0) (.t 1)) [(.t 9), (.op (.lenS .s (.t 0)) [(.t 3)])]))])) [28, 29, 30] fr H := tale_row (items := [.tt 9, .tt 3, .sub 0 [1] [], .sub 0 [] []]) (by kernel_rfl) fr H
def s_gnomonlaw25_great_r5 : List AOper := [
  ⟨some 34, (.move (.t 3)), none⟩,
  ⟨some 35, (.move (.t 9)), none⟩,
  ⟨some 36, (.indexAddr 2 (.t 34) (.t 35)), none⟩,
  ⟨some 37, (.fieldAddr 1 (.t 36)), none⟩,
  ⟨some 38, (.load false 1 (.t 37)), none⟩,
  ⟨some 39, (.lenS .s (.t 38)), none⟩,
  ⟨some 40, (.bin .gtr (.t 39) (.c (.s (.int .i64 300)))), none⟩]
theorem s_gnomonlaw25_great_r5_tale (fr : List V) (H : Heap) : evTale (symAll s_gnomonlaw25_great_r5 [31, 34, 35, 36, 37, 38, 39] [40]) [31, 34, 35, 36, 37, 38, 39] fr H = evTale (some (41, [], [(40, (.op (.bin .gtr (.t 0) (.c (.s (.int .i64 300)))) [(.op (.lenS .s (.t 0)) [(.op (.load false 1 (.t 0)) [(.op (.fieldAddr 1 (.t 0)) [(.op (.indexAddr 2 (.t 0) (.t 1)) [(.t 3), (.t 9)])])])]), (.c (.s (.int .i64 300)))]))])) [31, 34, 35, 36, 37, 38, 39] fr H := tale_row (items := [.tt 3, .tt 9, .sub 0 [0, 0, 0, 0] [], .sub 0 [0, 0, 0] [], .sub 0 [0, 0] [], .sub 0 [0] [], .sub 0 [] []]) (by kernel_rfl) fr H
def s_gnomonlaw25_great_r6 : List AOper := [
  ⟨some 8, (.move (.c (.s (.bool true)))), none⟩]
theorem s_gnomonlaw25_great_r6_tale (fr : List V) (H : Heap) : evTale (symAll s_gnomonlaw25_great_r6 [3, 9, 40] [8]) [3, 9, 40] fr H = evTale (some (9, [], [(8, (.c (.s (.bool true))))])) [3, 9, 40] fr H := tale_row (items := [.cc (.s (.bool true))]) (by kernel_rfl) fr H
def s_gnomonlaw25_great_r7 : List AOper := [
  ⟨some 32, (.move (.t 9)), none⟩,
  ⟨some 33, (.bin .add (.t 32) (.c (.s (.int .i64 1)))), none⟩,
  ⟨some 9, (.move (.t 33)), none⟩]
theorem s_gnomonlaw25_great_r7_tale (fr : List V) (H : Heap) : evTale (symAll s_gnomonlaw25_great_r7 [32, 33, 40] [9]) [32, 33, 40] fr H = evTale (some (34, [], [(9, (.op (.bin .add (.t 0) (.c (.s (.int .i64 1)))) [(.t 9), (.c (.s (.int .i64 1)))]))])) [32, 33, 40] fr H := tale_row (items := [.tt 9, .sub 0 [] [], .sub 0 [] []]) (by kernel_rfl) fr H
def s_gnomonlaw25_great_l0_b : ACode :=
  (.seq (.seq (.regionE s_gnomonlaw25_great_r4 [28, 29, 30] [31])
  (.cond (.t 31)
  .skip
  (.exit 0)))
  (.seq (.block 1
  (.seq (.regionE s_gnomonlaw25_great_r5 [31, 34, 35, 36, 37, 38, 39] [40])
  (.cond (.t 40)
  (.seq (.regionE s_gnomonlaw25_great_r6 [3, 9, 40] [8])
  .ret)
  .skip)))
  (.regionE s_gnomonlaw25_great_r7 [32, 33, 40] [9])))
def s_gnomonlaw25_great_l0 : ACode := s_gnomonlaw25_great_l0_b
theorem s_gnomonlaw25_great_l0_ev (call : CallF) (it : IterF) (base : Nat) (fr : List V) (H : Heap) : evC call it base s_gnomonlaw25_great_l0 fr H = evC call it base s_gnomonlaw25_great_l0_b fr H := rfl
def s_gnomonlaw25_great_r8 : List AOper := [
  ⟨some 8, (.move (.c (.s (.bool false)))), none⟩]
theorem s_gnomonlaw25_great_r8_tale (fr : List V) (H : Heap) : evTale (symAll s_gnomonlaw25_great_r8 [3, 9, 31] [8]) [3, 9, 31] fr H = evTale (some (9, [], [(8, (.c (.s (.bool false))))])) [3, 9, 31] fr H := tale_row (items := [.cc (.s (.bool false))]) (by kernel_rfl) fr H
def s_gnomonlaw25_great : ACFun := { ntmps := 41, results := [(.tmp 8)], body :=
  (.seq (.regionE s_gnomonlaw25_great_r0 s_gnomonlaw25_great_r0_k [])
  (.seq (.seq (.regionE s_gnomonlaw25_great_r1 [0, 1, 2, 10, 11, 12, 13, 14, 15, 16, 17, 18, 19, 20, 21, 22, 23, 24, 25, 26] [27])
  (.cond (.t 27)
  (.seq (.regionE s_gnomonlaw25_great_r2 [3, 27] [8])
  .ret)
  .skip))
  (.seq (.seq (.regionE s_gnomonlaw25_great_r3 [27] [9])
  (.block 0
  (.loop [] s_gnomonlaw25_great_l0)))
  (.seq (.regionE s_gnomonlaw25_great_r8 [3, 9, 31] [8])
  .ret)))) }
abbrev k_update_Store : Nat := 7
def s_update_Store_r0_k : List Nat := [5, 6, 7, 8, 9, 10, 11, 12, 13, 14, 15, 16, 17, 18, 19, 20, 21, 22, 23, 24, 25, 26, 27, 28, 29, 30, 31, 32, 33, 34, 35, 36, 37, 38, 39]
theorem s_update_Store_r0_kT : killV s_update_Store_r0_k (startV 40 [] 5) = [] := by kernel_rfl
theorem s_update_Store_r0_kA0 : s_update_Store_r0_k.contains 0 = false := by kernel_rfl
theorem s_update_Store_r0_kA1 : s_update_Store_r0_k.contains 1 = false := by kernel_rfl
theorem s_update_Store_r0_kA2 : s_update_Store_r0_k.contains 2 = false := by kernel_rfl
theorem s_update_Store_r0_kA3 : s_update_Store_r0_k.contains 3 = false := by kernel_rfl
theorem s_update_Store_r0_kA4 : s_update_Store_r0_k.contains 4 = false := by kernel_rfl
def s_update_Store_r0 : List AOper := [
  ⟨some 10, (.move (.c (.s (.pointer none)))), none⟩]
theorem s_update_Store_r0_tale (fr : List V) (H : Heap) : evTale (symAll s_update_Store_r0 s_update_Store_r0_k []) s_update_Store_r0_k fr H = evTale (some (11, [], [])) s_update_Store_r0_k fr H := tale_row (items := [.cc (.s (.pointer none))]) (by kernel_rfl) fr H
def s_update_Store_r1t1 : List AOper := [⟨some 11, (.move (.t 12)), none⟩]
def s_update_Store_r1p0 : List AOper := [⟨some 12, (.call (.c (.fn 6 [] [])) [(.c (.s (.slice none 0 0)))]), none⟩]
def s_update_Store_r1 : List AOper := s_update_Store_r1p0 ++ s_update_Store_r1t1
theorem s_update_Store_r1_x (call : CallF) (it : IterF) (base : Nat) (f : List V) (H : Heap) : evC call it base (.region s_update_Store_r1 [] [12]) f H = thenC call it base (.region s_update_Store_r1t1 [] [12]) (opsC [] s_update_Store_r1p0 [] (evOps call base [⟨some 12, (.call (.c (.fn 6 [] [])) [(.c (.s (.slice none 0 0)))]), none⟩] f H)) := (row_op call it base s_update_Store_r1p0 s_update_Store_r1t1 (kc := []) (by kernel_rfl) f H).trans (by rw [row_ops]; rfl)
theorem s_update_Store_r1t1_tale (fr : List V) (H : Heap) : evTale (symAll s_update_Store_r1t1 [12] [11]) [12] fr H = evTale (some (12, [], [(11, (.t 12))])) [12] fr H := tale_row (items := [.tt 12]) (by kernel_rfl) fr H
theorem s_update_Store_r1t1_x (call : CallF) (it : IterF) (base : Nat) (f : List V) (H : Heap) : evC call it base (.region s_update_Store_r1t1 [] [12]) f H = segL H (evTale (symAll s_update_Store_r1t1 [12] [11]) [12] f H) (origRow call it base s_update_Store_r1t1 [12] f H) := row_last call it base _ f H
def s_update_Store_r2t2 : List AOper := [⟨some 16, (.bin .eql (.t 15) (.c (.s (.int .i64 0)))), none⟩, ⟨some 13, (.move (.t 16)), none⟩]
def s_update_Store_r2p1 : List AOper := [⟨some 15, (.call (.c (.fn 16 [] [])) [(.t 14)]), none⟩]
def s_update_Store_r2t1 : List AOper := s_update_Store_r2p1 ++ s_update_Store_r2t2
def s_update_Store_r2p0 : List AOper := [⟨some 14, (.move (.t 2)), none⟩]
def s_update_Store_r2 : List AOper := s_update_Store_r2p0 ++ s_update_Store_r2t1
theorem s_update_Store_r2p0_tale (fr : List V) (H : Heap) : evTale (symAll s_update_Store_r2p0 [] [14]) [] fr H = evTale (some (15, [], [(14, (.t 2))])) [] fr H := tale_row (items := [.tt 2]) (by kernel_rfl) fr H
theorem s_update_Store_r2_x (call : CallF) (it : IterF) (base : Nat) (f : List V) (H : Heap) : evC call it base (.region s_update_Store_r2 [] [14, 15, 16]) f H = segC call it base s_update_Store_r2t1 [14, 15, 16] H (evTale (symAll s_update_Store_r2p0 [] [14]) [] f H) (origRow call it base s_update_Store_r2 [14, 15, 16] f H) := row_seg call it base s_update_Store_r2p0 s_update_Store_r2t1 (by kernel_rfl) f H
theorem s_update_Store_r2t1_x (call : CallF) (it : IterF) (base : Nat) (f : List V) (H : Heap) : evC call it base (.region s_update_Store_r2t1 [] [14, 15, 16]) f H = thenC call it base (.region s_update_Store_r2t2 [] [14, 15, 16]) (opsC [] s_update_Store_r2p1 [14] (evOps call base [⟨some 15, (.call (.c (.fn 16 [] [])) [(.t 14)]), none⟩] f H)) := (row_op call it base s_update_Store_r2p1 s_update_Store_r2t2 (kc := [14]) (by kernel_rfl) f H).trans (by rw [row_ops]; rfl)
theorem s_update_Store_r2t2_tale (fr : List V) (H : Heap) : evTale (symAll s_update_Store_r2t2 [14, 15, 16] [13]) [14, 15, 16] fr H = evTale (some (17, [], [(13, (.op (.bin .eql (.t 0) (.c (.s (.int .i64 0)))) [(.t 15), (.c (.s (.int .i64 0)))]))])) [14, 15, 16] fr H := tale_row (items := [.sub 0 [] [], .sub 0 [] []]) (by kernel_rfl) fr H
theorem s_update_Store_r2t2_x (call : CallF) (it : IterF) (base : Nat) (f : List V) (H : Heap) : evC call it base (.region s_update_Store_r2t2 [] [14, 15, 16]) f H = segL H (evTale (symAll s_update_Store_r2t2 [14, 15, 16] [13]) [14, 15, 16] f H) (origRow call it base s_update_Store_r2t2 [14, 15, 16] f H) := row_last call it base _ f H
def s_update_Store_r3t2 : List AOper := [⟨some 21, (.un .not (.t 20)), none⟩, ⟨some 17, (.move (.t 21)), none⟩]
def s_update_Store_r3p1 : List AOper := [⟨some 20, (.call (.c (.fn 18 [] [])) [(.t 18), (.t 19)]), none⟩]
def s_update_Store_r3t1 : List AOper := s_update_Store_r3p1 ++ s_update_Store_r3t2
def s_update_Store_r3p0 : List AOper := [⟨some 18, (.move (.t 2)), none⟩, ⟨some 19, (.move (.t 3)), none⟩]
def s_update_Store_r3 : List AOper := s_update_Store_r3p0 ++ s_update_Store_r3t1
theorem s_update_Store_r3p0_tale (fr : List V) (H : Heap) : evTale (symAll s_update_Store_r3p0 [3, 13] [18, 19]) [3, 13] fr H = evTale (some (20, [], [(18, (.t 2)), (19, (.t 3))])) [3, 13] fr H := tale_row (items := [.tt 2, .tt 3]) (by kernel_rfl) fr H
theorem s_update_Store_r3_x (call : CallF) (it : IterF) (base : Nat) (f : List V) (H : Heap) : evC call it base (.region s_update_Store_r3 [] [3, 13, 18, 19, 20, 21]) f H = segC call it base s_update_Store_r3t1 [3, 13, 18, 19, 20, 21] H (evTale (symAll s_update_Store_r3p0 [3, 13] [18, 19]) [3, 13] f H) (origRow call it base s_update_Store_r3 [3, 13, 18, 19, 20, 21] f H) := row_seg call it base s_update_Store_r3p0 s_update_Store_r3t1 (by kernel_rfl) f H
theorem s_update_Store_r3t1_x (call : CallF) (it : IterF) (base : Nat) (f : List V) (H : Heap) : evC call it base (.region s_update_Store_r3t1 [] [3, 13, 18, 19, 20, 21]) f H = thenC call it base (.region s_update_Store_r3t2 [] [3, 13, 18, 19, 20, 21]) (opsC [] s_update_Store_r3p1 [18, 19] (evOps call base [⟨some 20, (.call (.c (.fn 18 [] [])) [(.t 18), (.t 19)]), none⟩] f H)) := (row_op call it base s_update_Store_r3p1 s_update_Store_r3t2 (kc := [18, 19]) (by kernel_rfl) f H).trans (by rw [row_ops]; rfl)
theorem s_update_Store_r3t2_tale (fr : List V) (H : Heap) : evTale (symAll s_update_Store_r3t2 [3, 13, 18, 19, 20, 21] [17]) [3, 13, 18, 19, 20, 21] fr H = evTale (some (22, [], [(17, (.op (.un .not (.t 0)) [(.t 20)]))])) [3, 13, 18, 19, 20, 21] fr H := tale_row (items := [.sub 0 [] [], .sub 0 [] []]) (by kernel_rfl) fr H
theorem s_update_Store_r3t2_x (call : CallF) (it : IterF) (base : Nat) (f : List V) (H : Heap) : evC call it base (.region s_update_Store_r3t2 [] [3, 13, 18, 19, 20, 21]) f H = segL H (evTale (symAll s_update_Store_r3t2 [3, 13, 18, 19, 20, 21] [17]) [3, 13, 18, 19, 20, 21] f H) (origRow call it base s_update_Store_r3t2 [3, 13, 18, 19, 20, 21] f H) := row_last call it base _ f H
def s_update_Store_r4t2 : List AOper := [⟨some 25, (.bin .gtr (.t 24) (.c (.s (.int .i64 1)))), none⟩, ⟨some 26, (.move (.t 25)), none⟩, ⟨some 27, (.move (.t 4)), some (26, false)⟩, ⟨some 28, (.un .not (.t 27)), some (26, false)⟩, ⟨some 29, (.pick (.t 26) (.c (.s (.bool true))) (.t 28)), none⟩, ⟨some 22, (.move (.t 29)), none⟩]
def s_update_Store_r4p1 : List AOper := [⟨some 24, (.call (.c (.fn 16 [] [])) [(.t 23)]), none⟩]
def s_update_Store_r4t1 : List AOper := s_update_Store_r4p1 ++ s_update_Store_r4t2
def s_update_Store_r4p0 : List AOper := [⟨some 23, (.move (.t 2)), none⟩]
def s_update_Store_r4 : List AOper := s_update_Store_r4p0 ++ s_update_Store_r4t1
theorem s_update_Store_r4p0_tale (fr : List V) (H : Heap) : evTale (symAll s_update_Store_r4p0 [2, 17] [23]) [2, 17] fr H = evTale (some (24, [], [(23, (.t 2))])) [2, 17] fr H := tale_row (items := [.tt 2]) (by kernel_rfl) fr H
theorem s_update_Store_r4_x (call : CallF) (it : IterF) (base : Nat) (f : List V) (H : Heap) : evC call it base (.region s_update_Store_r4 [] [2, 4, 17, 23, 24, 25, 26, 27, 28, 29]) f H = segC call it base s_update_Store_r4t1 [2, 4, 17, 23, 24, 25, 26, 27, 28, 29] H (evTale (symAll s_update_Store_r4p0 [2, 17] [23]) [2, 17] f H) (origRow call it base s_update_Store_r4 [2, 4, 17, 23, 24, 25, 26, 27, 28, 29] f H) := row_seg call it base s_update_Store_r4p0 s_update_Store_r4t1 (by kernel_rfl) f H
theorem s_update_Store_r4t1_x (call : CallF) (it : IterF) (base : Nat) (f : List V) (H : Heap) : evC call it base (.region s_update_Store_r4t1 [] [2, 4, 17, 23, 24, 25, 26, 27, 28, 29]) f H = thenC call it base (.region s_update_Store_r4t2 [] [2, 4, 17, 23, 24, 25, 26, 27, 28, 29]) (opsC [] s_update_Store_r4p1 [23] (evOps call base [⟨some 24, (.call (.c (.fn 16 [] [])) [(.t 23)]), none⟩] f H)) := (row_op call it base s_update_Store_r4p1 s_update_Store_r4t2 (kc := [23]) (by kernel_rfl) f H).trans (by rw [row_ops]; rfl)
theorem s_update_Store_r4t2_tale (fr : List V) (H : Heap) : evTale (symAll s_update_Store_r4t2 [2, 4, 17, 23, 24, 25, 26, 27, 28, 29] [22]) [2, 4, 17, 23, 24, 25, 26, 27, 28, 29] fr H = evTale (some (30, [], [(22, (.pick (.op (.bin .gtr (.t 0) (.c (.s (.int .i64 1)))) [(.t 24), (.c (.s (.int .i64 1)))]) (.c (.s (.bool true))) (.op (.un .not (.t 0)) [(.t 4)])))])) [2, 4, 17, 23, 24, 25, 26, 27, 28, 29] fr H := tale_row (items := [.sub 0 [0] [], .sub 0 [0] [], .sub 0 [2, 0] [26], .sub 0 [2] [26], .sub 0 [] [], .sub 0 [] []]) (by kernel_rfl) fr H
theorem s_update_Store_r4t2_x (call : CallF) (it : IterF) (base : Nat) (f : List V) (H : Heap) : evC call it base (.region s_update_Store_r4t2 [] [2, 4, 17, 23, 24, 25, 26, 27, 28, 29]) f H = segL H (evTale (symAll s_update_Store_r4t2 [2, 4, 17, 23, 24, 25, 26, 27, 28, 29] [22]) [2, 4, 17, 23, 24, 25, 26, 27, 28, 29] f H) (origRow call it base s_update_Store_r4t2 [2, 4, 17, 23, 24, 25, 26, 27, 28, 29] f H) := row_last call it base _ f H
def s_update_Store_r5t1 : List AOper := [⟨some 32, (.call (.c (.fn 19 [] [])) [(.t 30), (.t 31)]), none⟩]
def s_update_Store_r5p0 : List AOper := [⟨some 30, (.move (.t 11)), none⟩, ⟨some 31, (.move (.t 0)), none⟩]
def s_update_Store_r5 : List AOper := s_update_Store_r5p0 ++ s_update_Store_r5t1
theorem s_update_Store_r5p0_tale (fr : List V) (H : Heap) : evTale (symAll s_update_Store_r5p0 [0, 1, 2, 4, 17] [30, 31]) [0, 1, 2, 4, 17] fr H = evTale (some (32, [], [(30, (.t 11)), (31, (.t 0))])) [0, 1, 2, 4, 17] fr H := tale_row (items := [.tt 11, .tt 0]) (by kernel_rfl) fr H
theorem s_update_Store_r5_x (call : CallF) (it : IterF) (base : Nat) (f : List V) (H : Heap) : evC call it base (.region s_update_Store_r5 [] [0, 1, 2, 4, 17, 30, 31, 32]) f H = segC call it base s_update_Store_r5t1 [0, 1, 2, 4, 17, 30, 31, 32] H (evTale (symAll s_update_Store_r5p0 [0, 1, 2, 4, 17] [30, 31]) [0, 1, 2, 4, 17] f H) (origRow call it base s_update_Store_r5 [0, 1, 2, 4, 17, 30, 31, 32] f H) := row_seg call it base s_update_Store_r5p0 s_update_Store_r5t1 (by kernel_rfl) f H
theorem s_update_Store_r5t1_x (call : CallF) (it : IterF) (base : Nat) (f : List V) (H : Heap) : evC call it base (.region s_update_Store_r5t1 [] [0, 1, 2, 4, 17, 30, 31, 32]) f H = opsC [] s_update_Store_r5t1 [0, 1, 2, 4, 17, 30, 31, 32] (evOps call base [⟨some 32, (.call (.c (.fn 19 [] [])) [(.t 30), (.t 31)]), none⟩] f H) := row_ops call it base _ _ f H
def s_update_Store_r6t1 : List AOper := [⟨some 35, (.call (.c (.fn 19 [] [])) [(.t 33), (.t 34)]), none⟩]
def s_update_Store_r6p0 : List AOper := [⟨some 33, (.move (.t 11)), none⟩, ⟨some 34, (.move (.t 0)), none⟩]
def s_update_Store_r6 : List AOper := s_update_Store_r6p0 ++ s_update_Store_r6t1
theorem s_update_Store_r6p0_tale (fr : List V) (H : Heap) : evTale (symAll s_update_Store_r6p0 [0, 22] [33, 34]) [0, 22] fr H = evTale (some (35, [], [(33, (.t 11)), (34, (.t 0))])) [0, 22] fr H := tale_row (items := [.tt 11, .tt 0]) (by kernel_rfl) fr H
theorem s_update_Store_r6_x (call : CallF) (it : IterF) (base : Nat) (f : List V) (H : Heap) : evC call it base (.region s_update_Store_r6 [] [0, 22, 33, 34, 35]) f H = segC call it base s_update_Store_r6t1 [0, 22, 33, 34, 35] H (evTale (symAll s_update_Store_r6p0 [0, 22] [33, 34]) [0, 22] f H) (origRow call it base s_update_Store_r6 [0, 22, 33, 34, 35] f H) := row_seg call it base s_update_Store_r6p0 s_update_Store_r6t1 (by kernel_rfl) f H
theorem s_update_Store_r6t1_x (call : CallF) (it : IterF) (base : Nat) (f : List V) (H : Heap) : evC call it base (.region s_update_Store_r6t1 [] [0, 22, 33, 34, 35]) f H = opsC [] s_update_Store_r6t1 [0, 22, 33, 34, 35] (evOps call base [⟨some 35, (.call (.c (.fn 19 [] [])) [(.t 33), (.t 34)]), none⟩] f H) := row_ops call it base _ _ f H
def s_update_Store_r7t1 : List AOper := [⟨some 38, (.call (.c (.fn 19 [] [])) [(.t 36), (.t 37)]), none⟩]
def s_update_Store_r7p0 : List AOper := [⟨some 36, (.move (.t 11)), none⟩, ⟨some 37, (.move (.t 1)), none⟩]
def s_update_Store_r7 : List AOper := s_update_Store_r7p0 ++ s_update_Store_r7t1
theorem s_update_Store_r7p0_tale (fr : List V) (H : Heap) : evTale (symAll s_update_Store_r7p0 [0, 1, 22] [36, 37]) [0, 1, 22] fr H = evTale (some (38, [], [(36, (.t 11)), (37, (.t 1))])) [0, 1, 22] fr H := tale_row (items := [.tt 11, .tt 1]) (by kernel_rfl) fr H
theorem s_update_Store_r7_x (call : CallF) (it : IterF) (base : Nat) (f : List V) (H : Heap) : evC call it base (.region s_update_Store_r7 [] [0, 1, 22, 36, 37, 38]) f H = segC call it base s_update_Store_r7t1 [0, 1, 22, 36, 37, 38] H (evTale (symAll s_update_Store_r7p0 [0, 1, 22] [36, 37]) [0, 1, 22] f H) (origRow call it base s_update_Store_r7 [0, 1, 22, 36, 37, 38] f H) := row_seg call it base s_update_Store_r7p0 s_update_Store_r7t1 (by kernel_rfl) f H
theorem s_update_Store_r7t1_x (call : CallF) (it : IterF) (base : Nat) (f : List V) (H : Heap) : evC call it base (.region s_update_Store_r7t1 [] [0, 1, 22, 36, 37, 38]) f H = opsC [] s_update_Store_r7t1 [0, 1, 22, 36, 37, 38] (evOps call base [⟨some 38, (.call (.c (.fn 19 [] [])) [(.t 36), (.t 37)]), none⟩] f H) := row_ops call it base _ _ f H
def s_update_Store_r8 : List AOper := [
  ⟨some 39, (.move (.t 11)), none⟩,
  ⟨some 10, (.move (.t 39)), none⟩]
theorem s_update_Store_r8_tale (fr : List V) (H : Heap) : evTale (symAll s_update_Store_r8 [0, 1, 2, 3, 4, 11, 13, 39] [10]) [0, 1, 2, 3, 4, 11, 13, 39] fr H = evTale (some (40, [], [(10, (.t 11))])) [0, 1, 2, 3, 4, 11, 13, 39] fr H := tale_row (items := [.tt 11, .tt 11]) (by kernel_rfl) fr H
def s_update_Store : ACFun := { ntmps := 40, results := [(.tmp 10)], body :=
  (.seq (.regionE s_update_Store_r0 s_update_Store_r0_k [])
  (.seq (.region s_update_Store_r1 [] [12])
  (.seq (.block 0
  (.seq (.block 4
  (.seq (.block 3
  (.seq (.block 2
  (.seq (.block 1
  (.seq (.seq (.seq (.region s_update_Store_r2 [] [14, 15, 16])
  (.cond (.t 13)
  (.exit 1)
  .skip))
  (.seq (.seq (.region s_update_Store_r3 [] [3, 13, 18, 19, 20, 21])
  (.cond (.t 17)
  (.exit 2)
  .skip))
  (.seq (.region s_update_Store_r4 [] [2, 4, 17, 23, 24, 25, 26, 27, 28, 29])
  (.cond (.t 22)
  (.exit 3)
  .skip))))
  (.exit 4)))
  (.exit 0)))
  (.seq (.region s_update_Store_r5 [] [0, 1, 2, 4, 17, 30, 31, 32])
  (.exit 0))))
  (.region s_update_Store_r6 [] [0, 22, 33, 34, 35])))
  (.seq (.region s_update_Store_r7 [] [0, 1, 22, 36, 37, 38])
  (.exit 0))))
  (.seq (.regionE s_update_Store_r8 [0, 1, 2, 3, 4, 11, 13, 39] [10])
  .ret)))) }
abbrev k_gnomonlaw25_exits : Nat := 9
def s_gnomonlaw25_exits_r0_k : List Nat := [1, 2, 3, 4, 5, 6, 7, 8, 9, 10, 11, 12, 13, 14, 15, 16, 17, 18, 19, 20, 21, 22, 23, 24, 25, 26]
theorem s_gnomonlaw25_exits_r0_kT : killV s_gnomonlaw25_exits_r0_k (startV 27 [] 1) = [] := by kernel_rfl
theorem s_gnomonlaw25_exits_r0_kA0 : s_gnomonlaw25_exits_r0_k.contains 0 = false := by kernel_rfl
def s_gnomonlaw25_exits_r0 : List AOper := [
  ⟨some 2, (.move (.c (.s (.slice none 0 0)))), none⟩]
theorem s_gnomonlaw25_exits_r0_tale (fr : List V) (H : Heap) : evTale (symAll s_gnomonlaw25_exits_r0 s_gnomonlaw25_exits_r0_k []) s_gnomonlaw25_exits_r0_k fr H = evTale (some (3, [], [])) s_gnomonlaw25_exits_r0_k fr H := tale_row (items := [.cc (.s (.slice none 0 0))]) (by kernel_rfl) fr H
def s_gnomonlaw25_exits_r1 : List AOper := [
  ⟨some 3, (.move (.c (.s (.slice none 0 0)))), none⟩]
theorem s_gnomonlaw25_exits_r1_tale (fr : List V) (H : Heap) : evTale (symAll s_gnomonlaw25_exits_r1 [] [3]) [] fr H = evTale (some (4, [], [(3, (.c (.s (.slice none 0 0))))])) [] fr H := tale_row (items := [.cc (.s (.slice none 0 0))]) (by kernel_rfl) fr H
def s_gnomonlaw25_exits_r2 : List AOper := [
  ⟨some 4, (.move (.c (.s (.int .i64 0)))), none⟩]
theorem s_gnomonlaw25_exits_r2_tale (fr : List V) (H : Heap) : evTale (symAll s_gnomonlaw25_exits_r2 [] [4]) [] fr H = evTale (some (5, [], [(4, (.c (.s (.int .i64 0))))])) [] fr H := tale_row (items := [.cc (.s (.int .i64 0))]) (by kernel_rfl) fr H
def s_gnomonlaw25_exits_r3 : List AOper := [
  ⟨some 5, (.move (.t 4)), none⟩,
  ⟨some 6, (.move (.t 0)), none⟩,
  ⟨some 7, (.lenS .s (.t 6)), none⟩,
  ⟨some 8, (.bin .lss (.t 5) (.t 7)), none⟩]
theorem s_gnomonlaw25_exits_r3_tale (fr : List V) (H : Heap) : evTale (symAll s_gnomonlaw25_exits_r3 [5, 6, 7] [8]) [5, 6, 7] fr H = evTale (some (9, [], [(8, (.op (.bin .lss (.t 0) (.t 1)) [(.t 4), (.op (.lenS .s (.t 0)) [(.t 0)])]))])) [5, 6, 7] fr H := tale_row (items := [.tt 4, .tt 0, .sub 0 [1] [], .sub 0 [] []]) (by kernel_rfl) fr H
def s_gnomonlaw25_exits_r4t5 : List AOper := [⟨some 3, (.move (.t 25)), none⟩]
def s_gnomonlaw25_exits_r4p4 : List AOper := [⟨some 25, (.append 2 16 (.t 11) (.t 24)), none⟩]
def s_gnomonlaw25_exits_r4t4 : List AOper := s_gnomonlaw25_exits_r4p4 ++ s_gnomonlaw25_exits_r4t5
def s_gnomonlaw25_exits_r4p3 : List AOper := [⟨some 24, (.buildSl 2 1 [(.s (.bool false)), (.s (.pointer none))] [(0, (.t 23))]), none⟩]
def s_gnomonlaw25_exits_r4t3 : List AOper := s_gnomonlaw25_exits_r4p3 ++ s_gnomonlaw25_exits_r4t4
def s_gnomonlaw25_exits_r4p2 : List AOper := [⟨some 23, (.build [(.s (.bool false)), (.s (.pointer none))] [(0, 1), (1, 1)] [(0, (.t 16)), (1, (.t 22))]), none⟩]
def s_gnomonlaw25_exits_r4t2 : List AOper := s_gnomonlaw25_exits_r4p2 ++ s_gnomonlaw25_exits_r4t3
def s_gnomonlaw25_exits_r4p1 : List AOper := [⟨some 22, (.callR (.c (.fn 6 [] [])) [(.t 21)]), none⟩]
def s_gnomonlaw25_exits_r4t1 : List AOper := s_gnomonlaw25_exits_r4p1 ++ s_gnomonlaw25_exits_r4t2
def s_gnomonlaw25_exits_r4p0 : List AOper := [⟨some 11, (.move (.t 3)), none⟩, ⟨some 12, (.move (.t 0)), none⟩, ⟨some 13, (.move (.t 4)), none⟩, ⟨some 14, (.indexAddr 2 (.t 12) (.t 13)), none⟩, ⟨some 15, (.fieldAddr 0 (.t 14)), none⟩, ⟨some 16, (.load false 1 (.t 15)), none⟩, ⟨some 17, (.move (.t 0)), none⟩, ⟨some 18, (.move (.t 4)), none⟩, ⟨some 19, (.indexAddr 2 (.t 17) (.t 18)), none⟩, ⟨some 20, (.fieldAddr 1 (.t 19)), none⟩, ⟨some 21, (.load false 1 (.t 20)), none⟩]
def s_gnomonlaw25_exits_r4 : List AOper := s_gnomonlaw25_exits_r4p0 ++ s_gnomonlaw25_exits_r4t1
theorem s_gnomonlaw25_exits_r4p0_tale (fr : List V) (H : Heap) : evTale (symAll s_gnomonlaw25_exits_r4p0 [3, 8, 12, 13, 14, 15, 17, 18, 19, 20] [11, 16, 21]) [3, 8, 12, 13, 14, 15, 17, 18, 19, 20] fr H = evTale (some (22, [], [(11, (.t 3)), (16, (.op (.load false 1 (.t 0)) [(.op (.fieldAddr 0 (.t 0)) [(.op (.indexAddr 2 (.t 0) (.t 1)) [(.t 0), (.t 4)])])])), (21, (.op (.load false 1 (.t 0)) [(.op (.fieldAddr 1 (.t 0)) [(.op (.indexAddr 2 (.t 0) (.t 1)) [(.t 0), (.t 4)])])]))])) [3, 8, 12, 13, 14, 15, 17, 18, 19, 20] fr H := tale_row (items := [.tt 3, .tt 0, .tt 4, .sub 1 [0, 0] [], .sub 1 [0] [], .sub 1 [] [], .tt 0, .tt 4, .sub 1 [0, 0] [], .sub 2 [0] [], .sub 2 [] []]) (by kernel_rfl) fr H
theorem s_gnomonlaw25_exits_r4_x (call : CallF) (it : IterF) (base : Nat) (f : List V) (H : Heap) : evC call it base (.region s_gnomonlaw25_exits_r4 [] [8, 11, 12, 13, 14, 15, 16, 17, 18, 19, 20, 21, 22, 23, 24, 25]) f H = segC call it base s_gnomonlaw25_exits_r4t1 [8, 11, 12, 13, 14, 15, 16, 17, 18, 19, 20, 21, 22, 23, 24, 25] H (evTale (symAll s_gnomonlaw25_exits_r4p0 [3, 8, 12, 13, 14, 15, 17, 18, 19, 20] [11, 16, 21]) [3, 8, 12, 13, 14, 15, 17, 18, 19, 20] f H) (origRow call it base s_gnomonlaw25_exits_r4 [8, 11, 12, 13, 14, 15, 16, 17, 18, 19, 20, 21, 22, 23, 24, 25] f H) := row_seg call it base s_gnomonlaw25_exits_r4p0 s_gnomonlaw25_exits_r4t1 (by kernel_rfl) f H
theorem s_gnomonlaw25_exits_r4t1_x (call : CallF) (it : IterF) (base : Nat) (f : List V) (H : Heap) : evC call it base (.region s_gnomonlaw25_exits_r4t1 [] [8, 11, 12, 13, 14, 15, 16, 17, 18, 19, 20, 21, 22, 23, 24, 25]) f H = thenC call it base (.region s_gnomonlaw25_exits_r4t2 [] [8, 11, 12, 13, 14, 15, 16, 17, 18, 19, 20, 21, 22, 23, 24, 25]) (opsC [] s_gnomonlaw25_exits_r4p1 [21] (evOps call base [⟨some 22, (.callR (.c (.fn 6 [] [])) [(.t 21)]), none⟩] f H)) := (row_op call it base s_gnomonlaw25_exits_r4p1 s_gnomonlaw25_exits_r4t2 (kc := [21]) (by kernel_rfl) f H).trans (by rw [row_ops]; rfl)
theorem s_gnomonlaw25_exits_r4p2_tale (fr : List V) (H : Heap) : evTale (symAll s_gnomonlaw25_exits_r4p2 [16, 22] [23]) [16, 22] fr H = evTale (some (24, [], [(23, (.op (.build [(.s (.bool false)), (.s (.pointer none))] [(0, 1), (1, 1)] [(0, (.t 0)), (1, (.t 1))]) [(.t 16), (.t 22)]))])) [16, 22] fr H := tale_row (items := [.sub 0 [] []]) (by kernel_rfl) fr H
theorem s_gnomonlaw25_exits_r4t2_x (call : CallF) (it : IterF) (base : Nat) (f : List V) (H : Heap) : evC call it base (.region s_gnomonlaw25_exits_r4t2 [] [8, 11, 12, 13, 14, 15, 16, 17, 18, 19, 20, 21, 22, 23, 24, 25]) f H = segC call it base s_gnomonlaw25_exits_r4t3 [8, 11, 12, 13, 14, 15, 16, 17, 18, 19, 20, 21, 22, 23, 24, 25] H (evTale (symAll s_gnomonlaw25_exits_r4p2 [16, 22] [23]) [16, 22] f H) (origRow call it base s_gnomonlaw25_exits_r4t2 [8, 11, 12, 13, 14, 15, 16, 17, 18, 19, 20, 21, 22, 23, 24, 25] f H) := row_seg call it base s_gnomonlaw25_exits_r4p2 s_gnomonlaw25_exits_r4t3 (by kernel_rfl) f H
theorem s_gnomonlaw25_exits_r4t3_x (call : CallF) (it : IterF) (base : Nat) (f : List V) (H : Heap) : evC call it base (.region s_gnomonlaw25_exits_r4t3 [] [8, 11, 12, 13, 14, 15, 16, 17, 18, 19, 20, 21, 22, 23, 24, 25]) f H = thenC call it base (.region s_gnomonlaw25_exits_r4t4 [] [8, 11, 12, 13, 14, 15, 16, 17, 18, 19, 20, 21, 22, 23, 24, 25]) (opsC [] s_gnomonlaw25_exits_r4p3 [23] (evOps call base [⟨some 24, (.buildSl 2 1 [(.s (.bool false)), (.s (.pointer none))] [(0, (.t 23))]), none⟩] f H)) := (row_op call it base s_gnomonlaw25_exits_r4p3 s_gnomonlaw25_exits_r4t4 (kc := [23]) (by kernel_rfl) f H).trans (by rw [row_ops]; rfl)
theorem s_gnomonlaw25_exits_r4t4_x (call : CallF) (it : IterF) (base : Nat) (f : List V) (H : Heap) : evC call it base (.region s_gnomonlaw25_exits_r4t4 [] [8, 11, 12, 13, 14, 15, 16, 17, 18, 19, 20, 21, 22, 23, 24, 25]) f H = thenC call it base (.region s_gnomonlaw25_exits_r4t5 [] [8, 11, 12, 13, 14, 15, 16, 17, 18, 19, 20, 21, 22, 23, 24, 25]) (opsC [] s_gnomonlaw25_exits_r4p4 [11, 24] (evOps call base [⟨some 25, (.append 2 16 (.t 11) (.t 24)), none⟩] f H)) := (row_op call it base s_gnomonlaw25_exits_r4p4 s_gnomonlaw25_exits_r4t5 (kc := [11, 24]) (by kernel_rfl) f H).trans (by rw [row_ops]; rfl)
theorem s_gnomonlaw25_exits_r4t5_tale (fr : List V) (H : Heap) : evTale (symAll s_gnomonlaw25_exits_r4t5 [8, 11, 12, 13, 14, 15, 16, 17, 18, 19, 20, 21, 22, 23, 24, 25] [3]) [8, 11, 12, 13, 14, 15, 16, 17, 18, 19, 20, 21, 22, 23, 24, 25] fr H = evTale (some (4, [], [(3, (.t 25))])) [8, 11, 12, 13, 14, 15, 16, 17, 18, 19, 20, 21, 22, 23, 24, 25] fr H := tale_row (items := [.tt 25]) (by kernel_rfl) fr H
theorem s_gnomonlaw25_exits_r4t5_x (call : CallF) (it : IterF) (base : Nat) (f : List V) (H : Heap) : evC call it base (.region s_gnomonlaw25_exits_r4t5 [] [8, 11, 12, 13, 14, 15, 16, 17, 18, 19, 20, 21, 22, 23, 24, 25]) f H = segL H (evTale (symAll s_gnomonlaw25_exits_r4t5 [8, 11, 12, 13, 14, 15, 16, 17, 18, 19, 20, 21, 22, 23, 24, 25] [3]) [8, 11, 12, 13, 14, 15, 16, 17, 18, 19, 20, 21, 22, 23, 24, 25] f H) (origRow call it base s_gnomonlaw25_exits_r4t5 [8, 11, 12, 13, 14, 15, 16, 17, 18, 19, 20, 21, 22, 23, 24, 25] f H) := row_last call it base _ f H
def s_gnomonlaw25_exits_r5 : List AOper := [
  ⟨some 9, (.move (.t 4)), none⟩,
  ⟨some 10, (.bin .add (.t 9) (.c (.s (.int .i64 1)))), none⟩,
  ⟨some 4, (.move (.t 10)), none⟩]
theorem s_gnomonlaw25_exits_r5_tale (fr : List V) (H : Heap) : evTale (symAll s_gnomonlaw25_exits_r5 [9, 10] [4]) [9, 10] fr H = evTale (some (11, [], [(4, (.op (.bin .add (.t 0) (.c (.s (.int .i64 1)))) [(.t 4), (.c (.s (.int .i64 1)))]))])) [9, 10] fr H := tale_row (items := [.tt 4, .sub 0 [] [], .sub 0 [] []]) (by kernel_rfl) fr H
def s_gnomonlaw25_exits_l0_b : ACode :=
  (.seq (.seq (.regionE s_gnomonlaw25_exits_r3 [5, 6, 7] [8])
  (.cond (.t 8)
  .skip
  (.exit 0)))
  (.seq (.block 1
  (.region s_gnomonlaw25_exits_r4 [] [8, 11, 12, 13, 14, 15, 16, 17, 18, 19, 20, 21, 22, 23, 24, 25]))
  (.regionE s_gnomonlaw25_exits_r5 [9, 10] [4])))
def s_gnomonlaw25_exits_l0 : ACode := s_gnomonlaw25_exits_l0_b
theorem s_gnomonlaw25_exits_l0_ev (call : CallF) (it : IterF) (base : Nat) (fr : List V) (H : Heap) : evC call it base s_gnomonlaw25_exits_l0 fr H = evC call it base s_gnomonlaw25_exits_l0_b fr H := rfl
def s_gnomonlaw25_exits_r6 : List AOper := [
  ⟨some 26, (.move (.t 3)), none⟩,
  ⟨some 2, (.move (.t 26)), none⟩]
theorem s_gnomonlaw25_exits_r6_tale (fr : List V) (H : Heap) : evTale (symAll s_gnomonlaw25_exits_r6 [0, 3, 4, 8, 26] [2]) [0, 3, 4, 8, 26] fr H = evTale (some (27, [], [(2, (.t 3))])) [0, 3, 4, 8, 26] fr H := tale_row (items := [.tt 3, .tt 3]) (by kernel_rfl) fr H
def s_gnomonlaw25_exits : ACFun := { ntmps := 27, results := [(.tmp 2)], body :=
  (.seq (.regionE s_gnomonlaw25_exits_r0 s_gnomonlaw25_exits_r0_k [])
  (.seq (.regionE s_gnomonlaw25_exits_r1 [] [3])
  (.seq (.seq (.regionE s_gnomonlaw25_exits_r2 [] [4])
  (.block 0
  (.loop [] s_gnomonlaw25_exits_l0)))
  (.seq (.regionE s_gnomonlaw25_exits_r6 [0, 3, 4, 8, 26] [2])
  .ret)))) }
abbrev k_update_Call : Nat := 10
def s_update_Call_r0_k : List Nat := [2, 3, 4, 5, 6, 7, 8, 9, 10, 11, 12, 13, 14, 15, 16, 17, 18, 19, 20, 21, 22, 23, 24, 25]
theorem s_update_Call_r0_kT : killV s_update_Call_r0_k (startV 26 [] 2) = [] := by kernel_rfl
theorem s_update_Call_r0_kA0 : s_update_Call_r0_k.contains 0 = false := by kernel_rfl
theorem s_update_Call_r0_kA1 : s_update_Call_r0_k.contains 1 = false := by kernel_rfl
def s_update_Call_r0 : List AOper := [
  ⟨some 4, (.move (.c (.s (.pointer none)))), none⟩]
theorem s_update_Call_r0_tale (fr : List V) (H : Heap) : evTale (symAll s_update_Call_r0 s_update_Call_r0_k []) s_update_Call_r0_k fr H = evTale (some (5, [], [])) s_update_Call_r0_k fr H := tale_row (items := [.cc (.s (.pointer none))]) (by kernel_rfl) fr H
def s_update_Call_r1t1 : List AOper := [⟨some 5, (.move (.t 9)), none⟩]
def s_update_Call_r1p0 : List AOper := [⟨some 9, (.call (.c (.fn 6 [] [])) [(.c (.s (.slice none 0 0)))]), none⟩]
def s_update_Call_r1 : List AOper := s_update_Call_r1p0 ++ s_update_Call_r1t1
theorem s_update_Call_r1_x (call : CallF) (it : IterF) (base : Nat) (f : List V) (H : Heap) : evC call it base (.region s_update_Call_r1 [] [9]) f H = thenC call it base (.region s_update_Call_r1t1 [] [9]) (opsC [] s_update_Call_r1p0 [] (evOps call base [⟨some 9, (.call (.c (.fn 6 [] [])) [(.c (.s (.slice none 0 0)))]), none⟩] f H)) := (row_op call it base s_update_Call_r1p0 s_update_Call_r1t1 (kc := []) (by kernel_rfl) f H).trans (by rw [row_ops]; rfl)
theorem s_update_Call_r1t1_tale (fr : List V) (H : Heap) : evTale (symAll s_update_Call_r1t1 [9] [5]) [9] fr H = evTale (some (6, [], [(5, (.t 9))])) [9] fr H := tale_row (items := [.tt 9]) (by kernel_rfl) fr H
theorem s_update_Call_r1t1_x (call : CallF) (it : IterF) (base : Nat) (f : List V) (H : Heap) : evC call it base (.region s_update_Call_r1t1 [] [9]) f H = segL H (evTale (symAll s_update_Call_r1t1 [9] [5]) [9] f H) (origRow call it base s_update_Call_r1t1 [9] f H) := row_last call it base _ f H
def s_update_Call_r2 : List AOper := [
  ⟨some 10, (.move (.t 1)), none⟩,
  ⟨some 11, (.lenS .s (.t 10)), none⟩,
  ⟨some 12, (.move (.c (.s (.int .i64 0)))), none⟩]
theorem s_update_Call_r2_tale (fr : List V) (H : Heap) : evTale (symAll s_update_Call_r2 [1] [10, 11, 12]) [1] fr H = evTale (some (13, [], [(10, (.t 1)), (11, (.op (.lenS .s (.t 0)) [(.t 1)])), (12, (.c (.s (.int .i64 0))))])) [1] fr H := tale_row (items := [.tt 1, .sub 1 [] [], .cc (.s (.int .i64 0))]) (by kernel_rfl) fr H
def s_update_Call_r3 : List AOper := [
  ⟨some 13, (.bin .lss (.t 12) (.t 11)), none⟩]
theorem s_update_Call_r3_tale (fr : List V) (H : Heap) : evTale (symAll s_update_Call_r3 [] [13]) [] fr H = evTale (some (14, [], [(13, (.op (.bin .lss (.t 0) (.t 1)) [(.t 12), (.t 11)]))])) [] fr H := tale_row (items := [.sub 0 [] []]) (by kernel_rfl) fr H
def s_update_Call_r4t2 : List AOper := [⟨none, (.store 2 (.t 7) (.t 15)), none⟩]
def s_update_Call_r4p1 : List AOper := [⟨some 7, (.alloc [(.s (.bool false)), (.s (.pointer none))]), none⟩]
def s_update_Call_r4t1 : List AOper := s_update_Call_r4p1 ++ s_update_Call_r4t2
def s_update_Call_r4p0 : List AOper := [⟨some 14, (.indexAddr 2 (.t 10) (.t 12)), none⟩, ⟨some 15, (.load true 2 (.t 14)), none⟩]
def s_update_Call_r4 : List AOper := s_update_Call_r4p0 ++ s_update_Call_r4t1
theorem s_update_Call_r4p0_tale (fr : List V) (H : Heap) : evTale (symAll s_update_Call_r4p0 [13, 14] [15]) [13, 14] fr H = evTale (some (16, [], [(15, (.op (.load true 2 (.t 0)) [(.op (.indexAddr 2 (.t 0) (.t 1)) [(.t 10), (.t 12)])]))])) [13, 14] fr H := tale_row (items := [.sub 0 [0] [], .sub 0 [] []]) (by kernel_rfl) fr H
theorem s_update_Call_r4_x (call : CallF) (it : IterF) (base : Nat) (f : List V) (H : Heap) : evC call it base (.region s_update_Call_r4 [] [13, 14, 15]) f H = segC call it base s_update_Call_r4t1 [13, 14, 15] H (evTale (symAll s_update_Call_r4p0 [13, 14] [15]) [13, 14] f H) (origRow call it base s_update_Call_r4 [13, 14, 15] f H) := row_seg call it base s_update_Call_r4p0 s_update_Call_r4t1 (by kernel_rfl) f H
theorem s_update_Call_r4t1_x (call : CallF) (it : IterF) (base : Nat) (f : List V) (H : Heap) : evC call it base (.region s_update_Call_r4t1 [] [13, 14, 15]) f H = thenC call it base (.region s_update_Call_r4t2 [] [13, 14, 15]) (opsC [] s_update_Call_r4p1 [] (evOps call base [⟨some 7, (.alloc [(.s (.bool false)), (.s (.pointer none))]), none⟩] f H)) := (row_op call it base s_update_Call_r4p1 s_update_Call_r4t2 (kc := []) (by kernel_rfl) f H).trans (by rw [row_ops]; rfl)
theorem s_update_Call_r4t2_x (call : CallF) (it : IterF) (base : Nat) (f : List V) (H : Heap) : evC call it base (.region s_update_Call_r4t2 [] [13, 14, 15]) f H = opsC [] s_update_Call_r4t2 [13, 14, 15] (evOps call base [⟨none, (.store 2 (.t 7) (.t 15)), none⟩] f H) := row_ops call it base _ _ f H
def s_update_Call_r5 : List AOper := [
  ⟨some 16, (.move (.t 0)), none⟩,
  ⟨some 8, (.move (.t 16)), none⟩]
theorem s_update_Call_r5_tale (fr : List V) (H : Heap) : evTale (symAll s_update_Call_r5 [16] [8]) [16] fr H = evTale (some (17, [], [(8, (.t 0))])) [16] fr H := tale_row (items := [.tt 0, .tt 0]) (by kernel_rfl) fr H
def s_update_Call_r6 : List AOper := [
  ⟨some 17, (.fieldAddr 0 (.t 7)), none⟩,
  ⟨some 18, (.load false 1 (.t 17)), none⟩]
theorem s_update_Call_r6_tale (fr : List V) (H : Heap) : evTale (symAll s_update_Call_r6 [17] [18]) [17] fr H = evTale (some (19, [], [(18, (.op (.load false 1 (.t 0)) [(.op (.fieldAddr 0 (.t 0)) [(.t 7)])]))])) [17] fr H := tale_row (items := [.sub 0 [0] [], .sub 0 [] []]) (by kernel_rfl) fr H
def s_update_Call_r7 : List AOper := [
  ⟨some 19, (.fieldAddr 1 (.t 7)), none⟩,
  ⟨some 20, (.load false 1 (.t 19)), none⟩,
  ⟨some 8, (.move (.t 20)), none⟩]
theorem s_update_Call_r7_tale (fr : List V) (H : Heap) : evTale (symAll s_update_Call_r7 [7, 18, 19, 20] [8]) [7, 18, 19, 20] fr H = evTale (some (21, [], [(8, (.op (.load false 1 (.t 0)) [(.op (.fieldAddr 1 (.t 0)) [(.t 7)])]))])) [7, 18, 19, 20] fr H := tale_row (items := [.sub 0 [0] [], .sub 0 [] [], .sub 0 [] []]) (by kernel_rfl) fr H
def s_update_Call_r8t1 : List AOper := [⟨some 23, (.call (.c (.fn 19 [] [])) [(.t 21), (.t 22)]), none⟩]
def s_update_Call_r8p0 : List AOper := [⟨some 21, (.move (.t 5)), none⟩, ⟨some 22, (.move (.t 8)), none⟩]
def s_update_Call_r8 : List AOper := s_update_Call_r8p0 ++ s_update_Call_r8t1
theorem s_update_Call_r8p0_tale (fr : List V) (H : Heap) : evTale (symAll s_update_Call_r8p0 [7, 8, 18] [21, 22]) [7, 8, 18] fr H = evTale (some (23, [], [(21, (.t 5)), (22, (.t 8))])) [7, 8, 18] fr H := tale_row (items := [.tt 5, .tt 8]) (by kernel_rfl) fr H
theorem s_update_Call_r8_x (call : CallF) (it : IterF) (base : Nat) (f : List V) (H : Heap) : evC call it base (.region s_update_Call_r8 [] [7, 8, 18, 21, 22, 23]) f H = segC call it base s_update_Call_r8t1 [7, 8, 18, 21, 22, 23] H (evTale (symAll s_update_Call_r8p0 [7, 8, 18] [21, 22]) [7, 8, 18] f H) (origRow call it base s_update_Call_r8 [7, 8, 18, 21, 22, 23] f H) := row_seg call it base s_update_Call_r8p0 s_update_Call_r8t1 (by kernel_rfl) f H
theorem s_update_Call_r8t1_x (call : CallF) (it : IterF) (base : Nat) (f : List V) (H : Heap) : evC call it base (.region s_update_Call_r8t1 [] [7, 8, 18, 21, 22, 23]) f H = opsC [] s_update_Call_r8t1 [7, 8, 18, 21, 22, 23] (evOps call base [⟨some 23, (.call (.c (.fn 19 [] [])) [(.t 21), (.t 22)]), none⟩] f H) := row_ops call it base _ _ f H
def s_update_Call_r9 : List AOper := [
  ⟨some 24, (.bin .add (.t 12) (.c (.s (.int .i64 1)))), none⟩,
  ⟨some 12, (.move (.t 24)), none⟩]
theorem s_update_Call_r9_tale (fr : List V) (H : Heap) : evTale (symAll s_update_Call_r9 [24] [12]) [24] fr H = evTale (some (25, [], [(12, (.op (.bin .add (.t 0) (.c (.s (.int .i64 1)))) [(.t 12), (.c (.s (.int .i64 1)))]))])) [24] fr H := tale_row (items := [.sub 0 [] [], .sub 0 [] []]) (by kernel_rfl) fr H
def s_update_Call_l0_b : ACode :=
  (.seq (.regionE s_update_Call_r3 [] [13])
  (.seq (.cond (.t 13)
  .skip
  (.exit 0))
  (.seq (.block 1
  (.seq (.region s_update_Call_r4 [] [13, 14, 15])
  (.seq (.regionE s_update_Call_r5 [16] [8])
  (.seq (.seq (.regionE s_update_Call_r6 [17] [18])
  (.cond (.t 18)
  (.regionE s_update_Call_r7 [7, 18, 19, 20] [8])
  .skip))
  (.region s_update_Call_r8 [] [7, 8, 18, 21, 22, 23])))))
  (.regionE s_update_Call_r9 [24] [12]))))
def s_update_Call_l0 : ACode := s_update_Call_l0_b
theorem s_update_Call_l0_ev (call : CallF) (it : IterF) (base : Nat) (fr : List V) (H : Heap) : evC call it base s_update_Call_l0 fr H = evC call it base s_update_Call_l0_b fr H := rfl
def s_update_Call_r10 : List AOper := [
  ⟨some 25, (.move (.t 5)), none⟩,
  ⟨some 4, (.move (.t 25)), none⟩]
theorem s_update_Call_r10_tale (fr : List V) (H : Heap) : evTale (symAll s_update_Call_r10 [0, 5, 10, 11, 12, 13, 25] [4]) [0, 5, 10, 11, 12, 13, 25] fr H = evTale (some (26, [], [(4, (.t 5))])) [0, 5, 10, 11, 12, 13, 25] fr H := tale_row (items := [.tt 5, .tt 5]) (by kernel_rfl) fr H
def s_update_Call : ACFun := { ntmps := 26, results := [(.tmp 4)], body :=
  (.seq (.regionE s_update_Call_r0 s_update_Call_r0_k [])
  (.seq (.region s_update_Call_r1 [] [9])
  (.seq (.seq (.regionE s_update_Call_r2 [1] [10, 11, 12])
  (.block 0
  (.loop [] s_update_Call_l0)))
  (.seq (.regionE s_update_Call_r10 [0, 5, 10, 11, 12, 13, 25] [4])
  .ret)))) }
def a_gnomonlaw25_great := And.intro @s_gnomonlaw25_great_r0_tale (And.intro @s_gnomonlaw25_great_r0_kT (And.intro @s_gnomonlaw25_great_r0_kA0 (And.intro @s_gnomonlaw25_great_r0_kA1 (And.intro @s_gnomonlaw25_great_r0_kA2 (And.intro @s_gnomonlaw25_great_r0_kA3 (And.intro @s_gnomonlaw25_great_r1_tale (And.intro @s_gnomonlaw25_great_r2_tale (And.intro @s_gnomonlaw25_great_r3_tale (And.intro @s_gnomonlaw25_great_r4_tale (And.intro @s_gnomonlaw25_great_r5_tale (And.intro @s_gnomonlaw25_great_r6_tale (And.intro @s_gnomonlaw25_great_r7_tale (And.intro @s_gnomonlaw25_great_l0_ev (@s_gnomonlaw25_great_r8_tale))))))))))))))
def a_update_Store := And.intro @s_update_Store_r0_tale (And.intro @s_update_Store_r0_kT (And.intro @s_update_Store_r0_kA0 (And.intro @s_update_Store_r0_kA1 (And.intro @s_update_Store_r0_kA2 (And.intro @s_update_Store_r0_kA3 (And.intro @s_update_Store_r0_kA4 (And.intro @s_update_Store_r1_x (And.intro @s_update_Store_r1t1_tale (And.intro @s_update_Store_r1t1_x (And.intro @s_update_Store_r2p0_tale (And.intro @s_update_Store_r2_x (And.intro @s_update_Store_r2t1_x (And.intro @s_update_Store_r2t2_tale (And.intro @s_update_Store_r2t2_x (And.intro @s_update_Store_r3p0_tale (And.intro @s_update_Store_r3_x (And.intro @s_update_Store_r3t1_x (And.intro @s_update_Store_r3t2_tale (And.intro @s_update_Store_r3t2_x (And.intro @s_update_Store_r4p0_tale (And.intro @s_update_Store_r4_x (And.intro @s_update_Store_r4t1_x (And.intro @s_update_Store_r4t2_tale (And.intro @s_update_Store_r4t2_x (And.intro @s_update_Store_r5p0_tale (And.intro @s_update_Store_r5_x (And.intro @s_update_Store_r5t1_x (And.intro @s_update_Store_r6p0_tale (And.intro @s_update_Store_r6_x (And.intro @s_update_Store_r6t1_x (And.intro @s_update_Store_r7p0_tale (And.intro @s_update_Store_r7_x (And.intro @s_update_Store_r7t1_x (@s_update_Store_r8_tale))))))))))))))))))))))))))))))))))
def a_gnomonlaw25_exits := And.intro @s_gnomonlaw25_exits_r0_tale (And.intro @s_gnomonlaw25_exits_r0_kT (And.intro @s_gnomonlaw25_exits_r0_kA0 (And.intro @s_gnomonlaw25_exits_r1_tale (And.intro @s_gnomonlaw25_exits_r2_tale (And.intro @s_gnomonlaw25_exits_r3_tale (And.intro @s_gnomonlaw25_exits_r4p0_tale (And.intro @s_gnomonlaw25_exits_r4_x (And.intro @s_gnomonlaw25_exits_r4t1_x (And.intro @s_gnomonlaw25_exits_r4p2_tale (And.intro @s_gnomonlaw25_exits_r4t2_x (And.intro @s_gnomonlaw25_exits_r4t3_x (And.intro @s_gnomonlaw25_exits_r4t4_x (And.intro @s_gnomonlaw25_exits_r4t5_tale (And.intro @s_gnomonlaw25_exits_r4t5_x (And.intro @s_gnomonlaw25_exits_r5_tale (And.intro @s_gnomonlaw25_exits_l0_ev (@s_gnomonlaw25_exits_r6_tale)))))))))))))))))
def a_update_Call := And.intro @s_update_Call_r0_tale (And.intro @s_update_Call_r0_kT (And.intro @s_update_Call_r0_kA0 (And.intro @s_update_Call_r0_kA1 (And.intro @s_update_Call_r1_x (And.intro @s_update_Call_r1t1_tale (And.intro @s_update_Call_r1t1_x (And.intro @s_update_Call_r2_tale (And.intro @s_update_Call_r3_tale (And.intro @s_update_Call_r4p0_tale (And.intro @s_update_Call_r4_x (And.intro @s_update_Call_r4t1_x (And.intro @s_update_Call_r4t2_x (And.intro @s_update_Call_r5_tale (And.intro @s_update_Call_r6_tale (And.intro @s_update_Call_r7_tale (And.intro @s_update_Call_r8p0_tale (And.intro @s_update_Call_r8_x (And.intro @s_update_Call_r8t1_x (And.intro @s_update_Call_r9_tale (And.intro @s_update_Call_l0_ev (@s_update_Call_r10_tale)))))))))))))))))))))
theorem CB3_4 : compK Tryd.prog PX0 4 = some (false, s_gnomonlaw25_great.ntmps, s_gnomonlaw25_great.results, s_gnomonlaw25_great.body.bare) := by kernel_rfl
theorem CB3_7 : compK Tryd.prog PX0 7 = some (false, s_update_Store.ntmps, s_update_Store.results, s_update_Store.body.bare) := by kernel_rfl
theorem CB3_9 : compK Tryd.prog PX0 9 = some (false, s_gnomonlaw25_exits.ntmps, s_gnomonlaw25_exits.results, s_gnomonlaw25_exits.body.bare) := by kernel_rfl
theorem CB3_10 : compK Tryd.prog PX0 10 = some (false, s_update_Call.ntmps, s_update_Call.results, s_update_Call.body.bare) := by kernel_rfl
end Go.Proofs.YtlclbbieacjmfaaDoor
set_option maxRecDepth 100000
namespace Go.Proofs.YtlclbbieacjmfaaDoor
open Go.AM
def storeL (t : List Int) (o : Int) (single : Bool) (P R : Prop) : Prop := if t = [] then False else if o ∉ t then P else if t.length > 1 ∨ single = false then P ∨ R else R
section
variable {CT : Nat → Option CFun}
theorem of_nil (h : TB CT) (H : Heap) : ∃ H', callW CT (.fn k_bits_Of [] []) [.s (.slice none 0 0)] 0 H = some (.ref (H.length + 1) 0 0, H') ∧ SetP H' (H.length + 1) H.length noP ∧ KeepD H.length [] H H' ∧ H'.length = H.length + 2 := by
  obtain ⟨H', h1, h2, h3, h4⟩ := of_P h 0 (H := H) (v := nilS) (l := []) (Rd.nil _) trivial (by decide) (fun x hx => by cases hx) (Nat.zero_le _)
  exact ⟨H', h1, h2, h3.d [], h4⟩
theorem store_P (h : TC CT) (hS : CT k_update_Store = some (.code s_update_Store)) {H : Heap} {i j : Nat} {p : WS} (sp : SetP H i j p) (cp : cnt p ≤ 2 ^ 40) {i2 j2 : Nat} {r : WS} (sr : SetP H i2 j2 r) (cr : cnt r ≤ 2 ^ 40) {i3 j3 : Nat} {t : WS} (st : SetP H i3 j3 t) (ct : cnt t ≤ 2 ^ 40) (o : Int) (ho : o < 2 ^ 63) (single : Bool) :
    ∃ i' j' q H', callW CT (.fn k_update_Store [] []) [.ref i 0 0, .ref i2 0 0, .ref i3 0 0, .s (.int .i64 o), .s (.bool single)] 0 H = some (.ref i' 0 0, H') ∧ SetP H' i' j' q ∧ KeepD H.length [] H H' ∧ H.length ≤ i' ∧ H.length ≤ j' ∧ cnt q ≤ cnt p + cnt r ∧ ∀ x, x ∈ el q ↔ storeL (el t) o single (x ∈ el p) (x ∈ el r) := by
  have dp := SetW.lt sp
  have dr := SetW.lt sr
  have dt := SetW.lt st
  obtain ⟨A1, e1, sq, k1, l1⟩ := of_nil h.toTB H
  have cq : cnt noP ≤ 0 := Nat.le_refl _
  have sp := k1.s sp
  have sr := k1.s sr
  have st := k1.s st
  have hlen := fun base => len_fun h.len base st
  have hhas := fun base => has_P h.toTB base st o ho
  have hel : (el t).length = cnt t := el_len t
  by_cases h0 : cnt t = 0
  · have hz : ((cnt t : Int) == 0) = true := by rw [h0]; rfl
    have ht : el t = [] := List.eq_nil_of_length_eq_zero (by omega)
    refine ⟨_, _, _, A1, callW_fn (c := s_update_Store) hS (by simp [s_update_Store]) ?_, sq, k1, by omega, by omega, by omega, fun x => ?_⟩
    · simp only [s_update_Store, a_update_Store, am0,am1,am2,am3,am4,am5,am6,am7,bl,i64,reduceIte,reduceCtorEq,Nat.reduceEqDiff,Nat.reduceLT,Nat.reduceLeDiff,Nat.reduceBEq,Nat.reduceAdd,fillA,splice,Nat.reduceMul,al0,al1,al2,al3,al4,al5,al6,al7,al8,al9,al10,al11,al12,al13,al14,al15,al16,al17,al18,al19,al20,al21,al22,al23,al24,al25,al26,al27,al28,al29,al30,al31,al32,al33,al34,amY,op_eqP, e1, hlen, hz]
      done
    · rw [noP_el, storeL, if_pos ht]; simp
  have hz : ((cnt t : Int) == 0) = false := by
    have : ¬ (cnt t : Int) = 0 := by omega
    simpa using this
  have ht : ¬ el t = [] := by intro e; rw [e] at hel; simp at hel; omega
  cases hq : hasF t.2 o with
  | false =>
    have hm : o ∉ el t := fun hm => by rw [(mem_el st.wd).1 hm] at hq; cases hq
    rw [hq] at hhas
    have mA2 := cnt_uniA sq.wd sp.wd
    obtain ⟨A2, eA2, nq, kA2⟩ := union_P h.toTB 0 sq (Nat.zero_le _) (Nat.zero_le _) sp (.inr ⟨by omega, by omega, by omega, by omega⟩) (by omega) h.union
    have sp := kA2.s sp ⟨by omega, by omega, by omega, by omega⟩
    have sr := kA2.s sr ⟨by omega, by omega, by omega, by omega⟩
    have st := kA2.s st ⟨by omega, by omega, by omega, by omega⟩
    have sq := nq
    clear nq
    have cq := mA2
    have lA2 := kA2.1
    refine ⟨_, _, _, A2, callW_fn (c := s_update_Store) hS (by simp [s_update_Store]) ?_, sq, ⟨by omega, fun id h1 _ => by rw [kA2.2 id (by omega) (by omega) (by omega), k1.2 id h1 (by simp)]⟩, by omega, by omega, by omega, fun x => ?_⟩
    · simp only [s_update_Store, a_update_Store, am0,am1,am2,am3,am4,am5,am6,am7,bl,i64,reduceIte,reduceCtorEq,Nat.reduceEqDiff,Nat.reduceLT,Nat.reduceLeDiff,Nat.reduceBEq,Nat.reduceAdd,fillA,splice,Nat.reduceMul,al0,al1,al2,al3,al4,al5,al6,al7,al8,al9,al10,al11,al12,al13,al14,al15,al16,al17,al18,al19,al20,al21,al22,al23,al24,al25,al26,al27,al28,al29,al30,al31,al32,al33,al34,amY,op_eqP, e1, hlen, hhas, hz, eA2]
      done
    · rw [mem_uniA noP_wd sp.wd, noP_el, storeL, if_neg ht, if_pos hm]; simp
  | true =>
    have hm : ¬ o ∉ el t := fun hm => hm ((mem_el st.wd).2 hq)
    rw [hq] at hhas
    by_cases h1 : cnt t > 1 ∨ single = false
    · have h1' : (bif decide ((cnt t : Int) > 1) then true else !single) = true := by
        rcases h1 with h1 | h1
        · have : decide ((cnt t : Int) > 1) = true := by simp; omega
          rw [this]; rfl
        · rw [h1]; simp
      have mA2 := cnt_uniA sq.wd sp.wd
      obtain ⟨A2, eA2, nq, kA2⟩ := union_P h.toTB 0 sq (Nat.zero_le _) (Nat.zero_le _) sp (.inr ⟨by omega, by omega, by omega, by omega⟩) (by omega) h.union
      have sp := kA2.s sp ⟨by omega, by omega, by omega, by omega⟩
      have sr := kA2.s sr ⟨by omega, by omega, by omega, by omega⟩
      have st := kA2.s st ⟨by omega, by omega, by omega, by omega⟩
      have sq := nq
      clear nq
      have cq := mA2
      have lA2 := kA2.1
      have mA3 := cnt_uniA sq.wd sr.wd
      obtain ⟨A3, eA3, nq, kA3⟩ := union_P h.toTB 0 sq (Nat.zero_le _) (Nat.zero_le _) sr (.inr ⟨by omega, by omega, by omega, by omega⟩) (by omega) h.union
      have sp := kA3.s sp ⟨by omega, by omega, by omega, by omega⟩
      have sr := kA3.s sr ⟨by omega, by omega, by omega, by omega⟩
      have st := kA3.s st ⟨by omega, by omega, by omega, by omega⟩
      have sq := nq
      clear nq
      have cq := mA3
      have lA3 := kA3.1
      refine ⟨_, _, _, A3, callW_fn (c := s_update_Store) hS (by simp [s_update_Store]) ?_, sq, ⟨by omega, fun id h1 _ => by rw [kA3.2 id (by omega) (by omega) (by omega), kA2.2 id (by omega) (by omega) (by omega), k1.2 id h1 (by simp)]⟩, by omega, by omega, by omega, fun x => ?_⟩
      · rcases h1 with h1 | h1
        · have hg : decide ((cnt t : Int) > 1) = true := by simp; omega
          simp only [s_update_Store, a_update_Store, am0,am1,am2,am3,am4,am5,am6,am7,bl,i64,reduceIte,reduceCtorEq,Nat.reduceEqDiff,Nat.reduceLT,Nat.reduceLeDiff,Nat.reduceBEq,Nat.reduceAdd,fillA,splice,Nat.reduceMul,al0,al1,al2,al3,al4,al5,al6,al7,al8,al9,al10,al11,al12,al13,al14,al15,al16,al17,al18,al19,al20,al21,al22,al23,al24,al25,al26,al27,al28,al29,al30,al31,al32,al33,al34,amY,op_eqP, e1, hlen, hhas, hz, hg, eA2, eA3]
          done
        · subst h1
          cases hg : decide ((cnt t : Int) > 1) <;> simp only [s_update_Store, a_update_Store, am0,am1,am2,am3,am4,am5,am6,am7,bl,i64,reduceIte,reduceCtorEq,Nat.reduceEqDiff,Nat.reduceLT,Nat.reduceLeDiff,Nat.reduceBEq,Nat.reduceAdd,fillA,splice,Nat.reduceMul,al0,al1,al2,al3,al4,al5,al6,al7,al8,al9,al10,al11,al12,al13,al14,al15,al16,al17,al18,al19,al20,al21,al22,al23,al24,al25,al26,al27,al28,al29,al30,al31,al32,al33,al34,amY,op_eqP, e1, hlen, hhas, hz, hg, eA2, eA3]
      · rw [mem_uniA (uniA_wd noP_wd sp.wd) sr.wd, mem_uniA noP_wd sp.wd, noP_el, storeL, if_neg ht, if_neg hm, if_pos (by rw [hel]; exact h1)]; simp
    · have hg : decide ((cnt t : Int) > 1) = false := by simp; omega
      have hs : single = true := by cases single <;> simp_all
      subst hs
      have mA2 := cnt_uniA sq.wd sr.wd
      obtain ⟨A2, eA2, nq, kA2⟩ := union_P h.toTB 0 sq (Nat.zero_le _) (Nat.zero_le _) sr (.inr ⟨by omega, by omega, by omega, by omega⟩) (by omega) h.union
      have sp := kA2.s sp ⟨by omega, by omega, by omega, by omega⟩
      have sr := kA2.s sr ⟨by omega, by omega, by omega, by omega⟩
      have st := kA2.s st ⟨by omega, by omega, by omega, by omega⟩
      have sq := nq
      clear nq
      have cq := mA2
      have lA2 := kA2.1
      refine ⟨_, _, _, A2, callW_fn (c := s_update_Store) hS (by simp [s_update_Store]) ?_, sq, ⟨by omega, fun id h1 _ => by rw [kA2.2 id (by omega) (by omega) (by omega), k1.2 id h1 (by simp)]⟩, by omega, by omega, by omega, fun x => ?_⟩
      · simp only [s_update_Store, a_update_Store, am0,am1,am2,am3,am4,am5,am6,am7,bl,i64,reduceIte,reduceCtorEq,Nat.reduceEqDiff,Nat.reduceLT,Nat.reduceLeDiff,Nat.reduceBEq,Nat.reduceAdd,fillA,splice,Nat.reduceMul,al0,al1,al2,al3,al4,al5,al6,al7,al8,al9,al10,al11,al12,al13,al14,al15,al16,al17,al18,al19,al20,al21,al22,al23,al24,al25,al26,al27,al28,al29,al30,al31,al32,al33,al34,amY,op_eqP, e1, hlen, hhas, hz, hg, eA2]
        done
      · rw [mem_uniA noP_wd sr.wd, noP_el, storeL, if_neg ht, if_neg hm, if_neg (by rw [hel]; exact h1)]; simp
end
end Go.Proofs.YtlclbbieacjmfaaDoor
namespace Go.AM
theorem flat_len {w : Nat} : ∀ (R : List (List V)), (∀ r ∈ R, r.length = w) → R.flatten.length = R.length * w := by
  intro R
  induction R with
  | nil => intro _; simp
  | cons r R ih =>
    intro h
    rw [List.flatten_cons, List.length_append, ih (fun x hx => h x (List.mem_cons_of_mem _ hx)), h r List.mem_cons_self, List.length_cons, Nat.add_mul]
    omega
theorem rows_get {w : Nat} : ∀ (R : List (List V)), (∀ r ∈ R, r.length = w) → ∀ (i : Nat) (r : List V), R[i]? = some r → (R.flatten.drop (i * w)).take w = r := by
  intro R
  induction R with
  | nil => intro _ i r h; simp at h
  | cons s R ih =>
    intro h i r hr
    have hs := h s List.mem_cons_self
    cases i with
    | zero =>
      simp only [List.getElem?_cons_zero, Option.some.injEq] at hr
      subst hr
      rw [Nat.zero_mul, List.drop_zero, List.flatten_cons, ← hs, List.take_left]
    | succ i =>
      simp only [List.getElem?_cons_succ] at hr
      rw [List.flatten_cons, show (i + 1) * w = s.length + i * w by rw [hs, Nat.add_mul]; omega, List.drop_append, List.drop_eq_nil_of_le (by omega), List.nil_append, Nat.add_sub_cancel_left]
      exact ih (fun x hx => h x (List.mem_cons_of_mem _ hx)) i r hr
structure RdW (w : Nat) (H : Heap) (v : V) (R : List (List V)) : Prop where
  el : elems H w v = some (R.length, R.flatten)
  len : xLen H .s v = some (.s (.int .i64 R.length))
  one : v.one = true
  at' : ∀ (i : Nat) (r : List V), R[i]? = some r → ∃ a, xIndexAddr w v (.s (.int .i64 i)) = some a ∧ xLoad H true w a = some (.agg r) ∧ ∀ (o : Nat) (x : V), r[o]? = some x → ∃ b, xFieldAddr o a = some b ∧ xLoad H false 1 b = some x
theorem RdW.nil (w : Nat) (H : Heap) : RdW w H nilS [] := ⟨rfl, rfl, rfl, fun i r h => by simp at h⟩
theorem take_one {r : List V} {o : Nat} {x : V} (h : r[o]? = some x) : (r.drop o).take 1 = [x] := by
  obtain ⟨ho, rfl⟩ := List.getElem?_eq_some_iff.1 h
  rw [List.drop_eq_getElem_cons ho]
  rfl
theorem RdW.psl {w : Nat} (H : Heap) {R : List (List V)} (hR : ∀ r ∈ R, r.length = w) : RdW w H (.psl R w) R := by
  refine ⟨by simp [elems], rfl, rfl, fun i r h => ⟨.pref r, ?_, ?_, fun o x hx => ⟨.pref (r.drop o), ?_, ?_⟩⟩⟩
  · rw [xi_psl, if_pos ⟨by omega, rfl⟩, Int.toNat_natCast, h]
    rfl
  · have := hR r (List.mem_of_getElem? h)
    rw [xo_pref, List.take_of_length_le (by omega), if_pos this, shut_agg]
  · rw [xa_pref, if_pos (by have := (List.getElem?_eq_some_iff.1 hx).1; omega)]
  · rw [xo_pref, take_one hx, if_pos (by rfl), shut_one]
theorem RdW.sl {w : Nat} {H : Heap} {id g : Nat} {R : List (List V)} (hc : getC H id g = some R.flatten) (hR : ∀ r ∈ R, r.length = w) : RdW w H (.sl id g 0 R.length w) R := by
  have hl := flat_len R hR
  refine ⟨?_, rfl, rfl, fun i r h => ?_⟩
  · simp only [elems, if_true, hc, List.drop_zero, ← hl, List.take_length]
  · have hr := hR r (List.mem_of_getElem? h)
    have hi := (List.getElem?_eq_some_iff.1 h).1
    have hg := rows_get R hR i r h
    refine ⟨.ref id g (0 + i * w), ?_, ?_, fun o x hx => ⟨.ref id g (0 + i * w + o), rfl, ?_⟩⟩
    · rw [xi_sl, if_pos ⟨by omega, by omega, rfl⟩, Int.toNat_natCast]
    · rw [xo_ref, hc, Nat.zero_add]
      simp only [hg, hr, if_true, shut_agg]
    · have ho := (List.getElem?_eq_some_iff.1 hx).1
      have e : (R.flatten.drop (0 + i * w + o)).take 1 = [x] := by
        have h2 := take_one hx
        rw [← hg, List.drop_take, List.drop_drop, List.take_take, Nat.min_eq_left (by omega)] at h2
        rw [Nat.zero_add]
        exact h2
      rw [xo_ref, hc]
      simp only [e, List.length_singleton, if_true, shut_one]
def AccW (m w : Nat) (H : Heap) (v : V) (R : List (List V)) : Prop := (∀ r ∈ R, r.length = w) ∧ ((R = [] ∧ v = nilS) ∨ ∃ id g, v = .sl id g 0 R.length w ∧ getC H id g = some R.flatten ∧ m ≤ id)
theorem AccW.start (m w : Nat) (H : Heap) : AccW m w H nilS [] := ⟨fun r h => by simp at h, .inl ⟨rfl, rfl⟩⟩
theorem AccW.rd {m w : Nat} {H : Heap} {v : V} {R : List (List V)} (h : AccW m w H v R) : RdW w H v R := by
  obtain ⟨hR, ⟨rfl, rfl⟩ | ⟨id, g, rfl, hc, _⟩⟩ := h
  · exact RdW.nil w H
  · exact RdW.sl hc hR
theorem AccW.keep {m w : Nat} {H H' : Heap} {v : V} {R : List (List V)} (h : AccW m w H v R) (hk : ∀ id g n, v = .sl id g 0 n w → H'[id]? = H[id]?) : AccW m w H' v R := by
  obtain ⟨hR, h | ⟨id, g, rfl, hc, hm⟩⟩ := h
  · exact ⟨hR, .inl h⟩
  · refine ⟨hR, .inr ⟨id, g, rfl, ?_, hm⟩⟩
    unfold getC at hc ⊢
    rw [hk id g _ rfl]
    exact hc
theorem AccW.lt {m w : Nat} {H : Heap} {v : V} {R : List (List V)} (h : AccW m w H v R) : ∀ id g n, v = .sl id g 0 n w → id < H.length := by
  obtain ⟨_, ⟨_, rfl⟩ | ⟨id, g, rfl, hc, hm⟩⟩ := h
  · intro id g n e; cases e
  · intro id' g' n e
    cases e
    exact getC_lt hc
theorem AccW.d {m w : Nat} {H H' : Heap} {v : V} {R : List (List V)} (h : AccW m w H v R) (k : KeepD H.length [] H H') : AccW m w H' v R := h.keep fun id g n e => k.2 id (h.lt id g n e) (by simp)
def Plain1 (R : List (List V)) : Prop := ∀ r ∈ R, ∃ x xs, r = .s x :: xs
theorem AccW.apart {m w : Nat} {H : Heap} {v : V} {R : List (List V)} (h : AccW m w H v R) (hp : Plain1 R) {i j : Nat} {p : WS} (hs : SetP H i j p) : ∀ id g n, v = .sl id g 0 n w → id ≠ i ∧ id ≠ j := by
  obtain ⟨hR, ⟨_, rfl⟩ | ⟨id, g, rfl, hc, hm⟩⟩ := h
  · intro id g n e; cases e
  · intro id' g' n e
    cases e
    refine ⟨fun e => ?_, fun e => ?_⟩
    · subst e
      have hb := SetW.box hs
      unfold getC at hc hb
      cases ho : H[id]? with
      | none => rw [ho] at hb; cases hb
      | some o =>
        rw [ho] at hb hc
        cases o with
        | cells g2 c =>
          dsimp only at hb hc
          split at hb
          · split at hc
            · cases hb
              cases R with
              | nil => simp at hc
              | cons r R =>
                obtain ⟨x, xs, rfl⟩ := hp r List.mem_cons_self
                simp at hc
            · cases hc
          · cases hb
        | map _ => cases hb
        | loop _ _ _ _ _ _ => cases hb
        | dead => cases hb
    · subst e
      have hb := SetW.map hs
      unfold getC at hc
      rw [hb] at hc
      cases hc
theorem AccW.append {m w : Nat} {H : Heap} {v : V} {R : List (List V)} (h : AccW m w H v R) {base bytes : Nat} (hb : base ≤ m) (hm : m ≤ H.length) {S : List (List V)} (hS : ∀ r ∈ S, r.length = w) (h0 : S ≠ []) {x : V} (hx : elems H w x = some (S.length, S.flatten)) (ho : S.flatten.all V.one = true) (hs : (R.length + S.length) * bytes ≤ 2 ^ 47) :
    ∃ v' H', appendV H base w bytes v x = some (v', H') ∧ AccW m w H' v' (R ++ S) ∧ H.length ≤ H'.length ∧ (∀ id, id < H.length → (∀ g n, v ≠ .sl id g 0 n w) → H'[id]? = H[id]?) := by
  have hn : ¬ S.length = 0 := fun e => h0 (List.eq_nil_of_length_eq_zero e)
  have hRS : ∀ r ∈ R ++ S, r.length = w → r.length = w := fun _ _ e => e
  obtain ⟨hR, ⟨rfl, rfl⟩ | ⟨id, g, rfl, hc, hid⟩⟩ := h
  · have hs' : S.length * bytes ≤ 2 ^ 47 := by simpa using hs
    refine ⟨.sl H.length 0 0 S.length w, H ++ [.cells 0 S.flatten], ?_, ⟨?_, .inr ⟨H.length, 0, by simp, ?_, hm⟩⟩, by simp, fun id hid _ => List.getElem?_append_left hid⟩
    · simp only [appendV, hx, ho, if_true, nilS, hn, if_false, hs']
    · simpa using hS
    · rw [List.nil_append]; exact getC_new H 0 _
  · have hlt := getC_lt hc
    have hbi : base ≤ id := by omega
    have hl := flat_len R hR
    refine ⟨.sl id (g + 1) 0 (R.length + S.length) w, H.set id (.cells (g + 1) (R.flatten ++ S.flatten)), ?_, ⟨?_, .inr ⟨id, g + 1, by simp, ?_, hid⟩⟩, by simp, fun id' hid' hne => ?_⟩
    · have h2 : 0 + R.length * w ≤ R.flatten.length := by omega
      simp only [appendV, hx, ho, if_true, true_and, hbi, hc, h2, hn, if_false, hs, List.drop_zero]
      rw [List.take_of_length_le (by omega)]
    · intro r hr
      rcases List.mem_append.1 hr with hr | hr
      · exact hR r hr
      · exact hS r hr
    · rw [List.flatten_append]
      exact getC_set hc _
    · rw [List.getElem?_set_ne]
      rintro rfl
      exact hne g _ rfl
theorem AccW.trim_eq {m w L : Nat} {H : Heap} {v : V} {R : List (List V)} (h : AccW m w H v R) (h0 : R ≠ []) (hL : L ≤ m) {fr : List V} (hv : v ∈ fr) : trim L fr H = H := by
  obtain ⟨_, ⟨rfl, _⟩ | ⟨id, g, rfl, hc, hid⟩⟩ := h
  · exact absurd rfl h0
  · rcases trim_or L fr H with e | ⟨_, hu⟩
    · exact e
    · have := hu _ hv
      simp only [idsUnder, decide_eq_true_eq] at this
      omega
theorem AccW.trim_or {m w L : Nat} {H : Heap} {v : V} {R : List (List V)} (h : AccW m w H v R) (hL : L ≤ m) {fr : List V} (hv : v ∈ fr) : R = [] ∧ v = nilS ∨ trim L fr H = H := by
  obtain ⟨_, h | ⟨id, g, rfl, hc, hid⟩⟩ := h
  · exact .inl h
  · rcases Go.AM.trim_or L fr H with e | ⟨_, hu⟩
    · exact .inr e
    · have := hu _ hv
      simp only [idsUnder, decide_eq_true_eq] at this
      omega
theorem AccW.append0 {m w : Nat} {H : Heap} {v : V} {R : List (List V)} (h : AccW m w H v R) {base bytes : Nat} (hb : base ≤ m) (hm : m ≤ H.length) {S : List (List V)} (hS : ∀ r ∈ S, r.length = w) {x : V} (hx : elems H w x = some (S.length, S.flatten)) (ho : S.flatten.all V.one = true) (hs : (R.length + S.length) * bytes ≤ 2 ^ 47) :
    ∃ v' H', appendV H base w bytes v x = some (v', H') ∧ AccW m w H' v' (R ++ S) ∧ H.length ≤ H'.length ∧ (∀ id, id < H.length → (∀ g n, v ≠ .sl id g 0 n w) → H'[id]? = H[id]?) := by
  by_cases h0 : S = []
  · subst h0
    refine ⟨v, H, ?_, by rw [List.append_nil]; exact h, Nat.le_refl _, fun _ _ _ => rfl⟩
    obtain ⟨hR, ⟨rfl, rfl⟩ | ⟨id, g, rfl, hc, hid⟩⟩ := h
    · simp only [appendV, hx, ho, if_true, nilS, List.length_nil]
    · have hl := flat_len R hR
      have h2 : 0 + R.length * w ≤ R.flatten.length := by omega
      have hbi : base ≤ id := by omega
      simp only [appendV, hx, ho, if_true, true_and, hbi, hc, h2, List.length_nil]
  · exact h.append hb hm hS h0 hx ho hs
theorem RdW.ext {w : Nat} {H H' : Heap} {v : V} {R : List (List V)} (h : RdW w H v R) (k : Ext H H') (hv : (∃ es, v = .psl es w) ∨ v = nilS ∨ ∃ m, AccW m w H v R) : RdW w H' v R := by
  rcases hv with ⟨es, rfl⟩ | rfl | ⟨m, hv⟩
  · refine ⟨?_, h.len, rfl, fun i r hr => ?_⟩
    · exact h.el
    · obtain ⟨a, h1, h2, h3⟩ := h.at' i r hr
      rw [xi_psl] at h1
      split at h1
      · cases he : es[(i : Int).toNat]? with
        | none => rw [he] at h1; cases h1
        | some c =>
          rw [he] at h1
          cases h1
          exact ⟨.pref c, by rw [xi_psl, if_pos (by assumption), he]; rfl, h2, fun o x hx => by
            obtain ⟨b, e1, e2⟩ := h3 o x hx
            refine ⟨b, e1, ?_⟩
            rw [xa_pref] at e1
            split at e1
            · cases e1; exact e2
            · cases e1⟩
      · cases h1
  · exact ⟨h.el, h.len, rfl, fun i r hr => by
      obtain ⟨a, h1, _⟩ := h.at' i r hr
      cases h1⟩
  · exact (hv.d (k.d [])).rd
end Go.AM
set_option maxRecDepth 100000
namespace Go.Proofs.YtlclbbieacjmfaaDoor
open Go.AM
def uniS (qs : List WS) (p : WS) : WS := qs.foldl uniA p
theorem mem_uniS : ∀ (qs : List WS) (p : WS), (∀ q ∈ qs, WdP q) → WdP p → ∀ x, x ∈ el (uniS qs p) ↔ x ∈ el p ∨ ∃ q ∈ qs, x ∈ el q := by
  intro qs
  induction qs with
  | nil => intro p _ h x; simp [uniS]
  | cons q qs ih =>
    intro p hq h x
    have := ih (uniA p q) (fun x hx => hq x (List.mem_cons_of_mem _ hx)) (uniA_wd h (hq q List.mem_cons_self)) x
    rw [show uniS (q :: qs) p = uniS qs (uniA p q) from rfl, this, mem_uniA h (hq q List.mem_cons_self)]
    simp [or_assoc]
theorem cnt_uniS : ∀ (qs : List WS) (p : WS), (∀ q ∈ qs, WdP q ∧ cnt q ≤ 2 ^ 20) → WdP p → cnt (uniS qs p) ≤ cnt p + qs.length * 2 ^ 20 := by
  intro qs
  induction qs with
  | nil => intro p _ _; simp [uniS]
  | cons q qs ih =>
    intro p hq h
    have h1 := ih (uniA p q) (fun x hx => hq x (List.mem_cons_of_mem _ hx)) (uniA_wd h (hq q List.mem_cons_self).1)
    have h2 := cnt_uniA h (hq q List.mem_cons_self).1
    have h3 := (hq q List.mem_cons_self).2
    rw [show uniS (q :: qs) p = uniS qs (uniA p q) from rfl, List.length_cons, Nat.add_mul]
    omega
theorem uniS_snoc (qs : List WS) (q p : WS) : uniS (qs ++ [q]) p = uniA (uniS qs p) q := by simp [uniS, List.foldl_append]
theorem set_snoc (H : Heap) (a b : Ob) : (H ++ [a]).set H.length b = H ++ [b] := by simp
section
variable {CT : Nat → Option CFun}
theorem call_loop (h : TC CT) {io jo m ia : Nat} {v : V} {H0 : Heap} {R : List (List V)} {qs : List WS} (hm : H0.length = m) (hio : io < m) (hjo : jo < m) (hqs : qs.length = R.length) (hn : R.length ≤ 2 ^ 20)
    (hq : ∀ q ∈ qs, WdP q ∧ cnt q ≤ 2 ^ 20)
    (hv : ∀ H, KeepB m io jo H0 H → RdW 2 H v R)
    (hr : ∀ (k : Nat) (r : List V) (q : WS), R[k]? = some r → qs[k]? = some q → ∃ (b : Bool) (u : V) (i j : Nat), r = [.s (.bool b), u] ∧ u.one = true ∧ (if b then u else V.ref ia 0 0) = .ref i 0 0 ∧ SetP H0 i j q ∧ i ≠ io ∧ i ≠ jo ∧ j ≠ io ∧ j ≠ jo) :
    ∀ (d k : Nat) (H : Heap), k + d = R.length → SetP H io jo (uniS (qs.take k) noP) → KeepB m io jo H0 H →
    ∃ H2, itW (evC (callW CT) itW 0 s_update_Call_l0) [] m (frOf 26 [(0, .ref ia 0 0), (5, .ref io 0 0), (10, v), (11, .s (.int .i64 R.length)), (12, .s (.int .i64 k))]) H = some (.ext 0, frOf 26 [(0, .ref ia 0 0), (5, .ref io 0 0), (10, v), (11, .s (.int .i64 R.length)), (12, .s (.int .i64 R.length)), (13, .s (.bool false))], H2) ∧ SetP H2 io jo (uniS qs noP) ∧ KeepB m io jo H0 H2 := by
  intro d
  induction d with
  | zero =>
    intro k H hk hP hK
    have hk' : k = R.length := by omega
    subst hk'
    rw [← hqs, List.take_length] at hP
    rw [itW_step]
    simp only [a_update_Call,s_update_Call_l0_b, am0,am1,am2,am3,am4,am5,am6,am7,bl,i64,reduceIte,reduceCtorEq,Nat.reduceEqDiff,Nat.reduceLT,Nat.reduceLeDiff,Nat.reduceBEq,Nat.reduceAdd,fillA,splice,Nat.reduceMul,al0,al1,al2,al3,al4,al5,al6,al7,al8,al9,al10,al11,al12,al13,al14,al15,al16,al17,al18,al19,al20,al21,al22,al23,al24,al25,al26,al27,al28,al29,al30,al31,al32,al33,al34,amY,op_eqP, Int.lt_irrefl]
    exact ⟨_, rfl, hP.trim hio hjo _, hK.trim (Nat.le_refl _) _⟩
  | succ d ih =>
    intro k H hk hP hK
    have hkl : k < R.length := by omega
    have hlt : (k : Int) < (R.length : Int) := by omega
    have hwp := wrap_pos (n := k) (by omega)
    obtain ⟨q, hqk⟩ : ∃ q, qs[k]? = some q := ⟨qs[k]'(by omega), List.getElem?_eq_getElem _⟩
    obtain ⟨r, hrk⟩ : ∃ r, R[k]? = some r := ⟨R[k]'(by omega), List.getElem?_eq_getElem _⟩
    obtain ⟨b, u, i, j, rfl, hu1, hsel, hS, n1, n2, n3, n4⟩ := hr k r q hrk hqk
    obtain ⟨a, ha1, ha2, _⟩ := (hv H hK).at' k _ hrk
    have hqm := List.mem_of_getElem? hqk
    have hqw := hq q hqm
    have hdS := SetW.lt hS
    have hSH : SetP H i j q := hS.keep (hK.2 i (by omega) n1 n2) (hK.2 j (by omega) n3 n4)
    have hsub : ∀ x ∈ qs.take k, WdP x ∧ cnt x ≤ 2 ^ 20 := fun x hx => hq x (List.mem_of_mem_take hx)
    have hc := cnt_uniS (qs.take k) noP hsub noP_wd
    rw [noP_cnt, List.length_take] at hc
    have hmin : min k qs.length ≤ 2 ^ 20 := by omega
    have hc2 : cnt (uniS (qs.take k) noP) ≤ 2 ^ 40 := Nat.le_trans hc (by omega)
    have hKl := hK.1
    obtain ⟨B, eB, nB, kB⟩ := union_P h.toTB 0 (hP.app [Ob.cells 0 [.s (.bool b), u]]) (Nat.zero_le _) (Nat.zero_le _) (hSH.app [Ob.cells 0 [.s (.bool b), u]]) (.inr ⟨n1, n2, n3, n4⟩) (by omega) h.union
    have kB' : KeepB m io jo H0 B := ⟨by have := kB.1; simp at this; omega, fun id h1 h2 h3 => by
      rw [kB.2 id (by simp; omega) h2 h3, List.getElem?_append_left (by omega), hK.2 id h1 h2 h3]⟩
    have hnx : uniS (qs.take (k + 1)) noP = uniA (uniS (qs.take k) noP) q := by
      rw [List.take_add_one, hqk, Option.toList_some, uniS_snoc]
    rw [← hnx] at nB
    obtain ⟨H2, e2, s2, k2⟩ := ih (k + 1) (trim m (frOf 26 [(0, .ref ia 0 0), (5, .ref io 0 0), (10, v), (11, .s (.int .i64 R.length)), (12, .s (.int .i64 (k + 1 : Nat)))]) B) (by omega) (nB.trim hio hjo _) (kB'.trim (Nat.le_refl _) _)
    refine ⟨H2, ?_, s2, k2⟩
    rw [itW_step]
    have hsn := set_snoc H (Ob.cells 0 [.s (.bool false), .s (.pointer none)]) (Ob.cells 0 [.s (.bool b), u])
    cases b with
    | true =>
      rw [if_pos rfl] at hsel
      subst hsel
      simp only [a_update_Call,s_update_Call_l0_b, am0,am1,am2,am3,am4,am5,am6,am7,bl,i64,reduceIte,reduceCtorEq,Nat.reduceEqDiff,Nat.reduceLT,Nat.reduceLeDiff,Nat.reduceBEq,Nat.reduceAdd,fillA,splice,Nat.reduceMul,al0,al1,al2,al3,al4,al5,al6,al7,al8,al9,al10,al11,al12,al13,al14,al15,al16,al17,al18,al19,al20,al21,al22,al23,al24,al25,al26,al27,al28,al29,al30,al31,al32,al33,al34,amY,op_eqP, hlt, ha1, ha2, hwp, hsn, Nat.zero_le, eB, e2]
      done
    | false =>
      rw [if_neg (by decide)] at hsel
      cases hsel
      simp only [a_update_Call,s_update_Call_l0_b, am0,am1,am2,am3,am4,am5,am6,am7,bl,i64,reduceIte,reduceCtorEq,Nat.reduceEqDiff,Nat.reduceLT,Nat.reduceLeDiff,Nat.reduceBEq,Nat.reduceAdd,fillA,splice,Nat.reduceMul,al0,al1,al2,al3,al4,al5,al6,al7,al8,al9,al10,al11,al12,al13,al14,al15,al16,al17,al18,al19,al20,al21,al22,al23,al24,al25,al26,al27,al28,al29,al30,al31,al32,al33,al34,amY,op_eqP, hlt, ha1, ha2, hwp, hsn, Nat.zero_le, eB, e2, hu1]
      done
theorem call_P (h : TC CT) (hC : CT k_update_Call = some (.code s_update_Call)) {ia : Nat} {H : Heap} {v : V} {R : List (List V)} {qs : List WS} (hqs : qs.length = R.length) (hn : R.length ≤ 2 ^ 20) (hq : ∀ q ∈ qs, WdP q ∧ cnt q ≤ 2 ^ 20) (hv : ∀ H', KeepD H.length [] H H' → RdW 2 H' v R)
    (hr : ∀ (k : Nat) (r : List V) (q : WS), R[k]? = some r → qs[k]? = some q → ∃ (b : Bool) (u : V) (i j : Nat), r = [.s (.bool b), u] ∧ u.one = true ∧ (if b then u else V.ref ia 0 0) = .ref i 0 0 ∧ SetP H i j q) :
    ∃ i j H', callW CT (.fn k_update_Call [] []) [.ref ia 0 0, v] 0 H = some (.ref i 0 0, H') ∧ SetP H' i j (uniS qs noP) ∧ KeepD H.length [] H H' ∧ H.length ≤ i ∧ H.length ≤ j := by
  obtain ⟨A1, e1, s1, k1, l1⟩ := of_nil h.toTB H
  obtain ⟨A2, e2, s2, k2⟩ := call_loop h (io := H.length + 1) (jo := H.length) (m := A1.length) (ia := ia) (v := v) (H0 := A1) (R := R) (qs := qs) rfl (by omega) (by omega) hqs hn hq
    (fun H' hK => hv H' ⟨by have := hK.1; omega, fun id h1 _ => by rw [hK.2 id (by omega) (by omega) (by omega), k1.2 id h1 (by simp)]⟩)
    (fun k r q hk1 hk2 => by
      obtain ⟨b, u, i, j, hr1, hr2, hr3, hr4⟩ := hr k r q hk1 hk2
      have := SetW.lt hr4
      exact ⟨b, u, i, j, hr1, hr2, hr3, k1.s hr4, by omega, by omega, by omega, by omega⟩)
    R.length 0 A1 (by omega) (by simpa [uniS] using s1) ⟨Nat.le_refl _, fun _ _ _ _ => rfl⟩
  have hl2 := k2.1
  have hlen := (hv A1 k1).len
  rw [show (((0 : Nat) : Nat) : Int) = 0 from rfl] at e2
  refine ⟨H.length + 1, H.length, A2, ?_, s2, ⟨by omega, fun id h1 _ => by rw [k2.2 id (by omega) (by omega) (by omega), k1.2 id h1 (by simp)]⟩, by omega, by omega⟩
  refine callW_fn (c := s_update_Call) hC (by simp [s_update_Call]) ?_
  simp only [s_update_Call, a_update_Call,s_update_Call_l0_b, am0,am1,am2,am3,am4,am5,am6,am7,bl,i64,reduceIte,reduceCtorEq,Nat.reduceEqDiff,Nat.reduceLT,Nat.reduceLeDiff,Nat.reduceBEq,Nat.reduceAdd,fillA,splice,Nat.reduceMul,al0,al1,al2,al3,al4,al5,al6,al7,al8,al9,al10,al11,al12,al13,al14,al15,al16,al17,al18,al19,al20,al21,al22,al23,al24,al25,al26,al27,al28,al29,al30,al31,al32,al33,al34,amY,op_eqP, e1, hlen, e2]
  done
end
end Go.Proofs.YtlclbbieacjmfaaDoor
set_option maxRecDepth 100000
namespace Go.Proofs.YtlclbbieacjmfaaDoor
open Go.AM
def exV (e : Bool × WS) (j : Nat) : List V := [.s (.bool e.1), .ref (j + 1) 0 0]
def exR (L : List (Bool × WS)) (js : List Nat) : List (List V) := List.zipWith exV L js
theorem exR_get {L : List (Bool × WS)} {js : List Nat} {k : Nat} {e : Bool × WS} {j : Nat} (h1 : L[k]? = some e) (h2 : js[k]? = some j) : (exR L js)[k]? = some (exV e j) := by
  simp [exR, List.getElem?_zipWith, h1, h2]
theorem exR_plain (L : List (Bool × WS)) (js : List Nat) : Plain1 (exR L js) := by
  intro r hr
  obtain ⟨k, hk⟩ := List.getElem?_of_mem hr
  simp only [exR, List.getElem?_zipWith] at hk
  split at hk
  · cases hk; exact ⟨_, _, rfl⟩
  · cases hk
structure ExS (m : Nat) (H : Heap) (v : V) (L : List (Bool × WS)) (js : List Nat) : Prop where
  len : js.length = L.length
  acc : AccW m 2 H v (exR L js)
  sets : ∀ (k : Nat) (e : Bool × WS) (j : Nat), L[k]? = some e → js[k]? = some j → SetP H (j + 1) j e.2
  low : ∀ j ∈ js, m ≤ j
  inc : js.Pairwise (fun a b => a + 2 ≤ b)
theorem ExS.start (m : Nat) (H : Heap) : ExS m H nilS [] [] := ⟨rfl, AccW.start _ _ _, fun k e j h => by simp at h, fun j h => by simp at h, List.Pairwise.nil⟩
theorem ExS.rlen {m : Nat} {H : Heap} {v : V} {L : List (Bool × WS)} {js : List Nat} (h : ExS m H v L js) : (exR L js).length = L.length := by simp [exR, h.len]
theorem ExS.d {m : Nat} {H H' : Heap} {v : V} {L : List (Bool × WS)} {js : List Nat} (h : ExS m H v L js) (k : KeepD H.length [] H H') : ExS m H' v L js :=
  ⟨h.len, h.acc.d k, fun i e j h1 h2 => k.s (h.sets i e j h1 h2), h.low, h.inc⟩
theorem ExS.trim {m L0 : Nat} {H : Heap} {v : V} {L : List (Bool × WS)} {js : List Nat} (h : ExS m H v L js) (hL : L0 ≤ m) {fr : List V} (hv : v ∈ fr) : ExS m (trim L0 fr H) v L js := by
  rcases h.acc.trim_or hL hv with ⟨e, rfl⟩ | e
  · have h1 := h.rlen
    rw [e] at h1
    have hl : L = [] := List.eq_nil_of_length_eq_zero h1.symm
    subst hl
    have hj : js = [] := List.eq_nil_of_length_eq_zero h.len
    subst hj
    exact ExS.start _ _
  · rw [e]; exact h
theorem zip_snoc {α β γ : Type} (f : α → β → γ) : ∀ (a : List α) (b : List β) (x : α) (y : β), a.length = b.length → List.zipWith f (a ++ [x]) (b ++ [y]) = List.zipWith f a b ++ [f x y] := by
  intro a
  induction a with
  | nil => intro b x y h; cases b with | nil => rfl | cons _ _ => simp at h
  | cons p a ih => intro b x y h; cases b with | nil => simp at h | cons q b => simp only [List.cons_append, List.zipWith_cons_cons, List.cons.injEq, true_and]; exact ih b x y (by simpa using h)
theorem ExS.snoc {m : Nat} {H H1 H2 : Heap} {v v' : V} {L : List (Bool × WS)} {js : List Nat} (h : ExS m H v L js) {e : Bool × WS} {j : Nat} (hj : H.length ≤ j) (hm : m ≤ H.length) (k : KeepD H.length [] H H1) (hs : SetP H1 (j + 1) j e.2)
    (ha : AccW m 2 H2 v' (exR L js ++ [exV e j])) (hk : ∀ id, id < H1.length → (∀ g n, v ≠ .sl id g 0 n 2) → H2[id]? = H1[id]?) : ExS m H2 v' (L ++ [e]) (js ++ [j]) := by
  have hd := h.d k
  refine ⟨by simp [h.len], ?_, ?_, ?_, ?_⟩
  · rw [exR, zip_snoc _ _ _ _ _ h.len.symm]; exact ha
  · intro i e' j' h1 h2
    have key : ∀ {a b : Nat} {q : WS}, SetP H1 a b q → SetP H2 a b q := fun {a b q} hq => by
      have hl := SetW.lt hq
      have hap := hd.acc.apart (exR_plain L js) hq
      exact hq.keep (hk a hl.1 fun g n e => (hap a g n e).1 rfl) (hk b hl.2 fun g n e => (hap b g n e).2 rfl)
    rcases Nat.lt_trichotomy i L.length with hi | hi | hi
    · rw [List.getElem?_append_left hi] at h1
      rw [List.getElem?_append_left (by rw [h.len]; exact hi)] at h2
      exact key (hd.sets i e' j' h1 h2)
    · subst hi
      rw [List.getElem?_append_right (Nat.le_refl _), Nat.sub_self] at h1
      rw [List.getElem?_append_right (by rw [h.len]; exact Nat.le_refl _), h.len, Nat.sub_self] at h2
      simp at h1 h2
      subst h1 h2
      exact key hs
    · rw [List.getElem?_eq_none (by simp; omega)] at h1
      cases h1
  · intro x hx
    rcases List.mem_append.1 hx with hx | hx
    · exact h.low x hx
    · simp at hx; omega
  · refine List.pairwise_append.2 ⟨h.inc, List.pairwise_singleton _ _, fun a ha b hb => ?_⟩
    simp at hb
    obtain ⟨i, hi⟩ := List.getElem?_of_mem ha
    have hil := (List.getElem?_eq_some_iff.1 hi).1
    have := (SetW.lt (h.sets i (L[i]'(by rw [← h.len]; exact hil)) a (List.getElem?_eq_getElem _) hi)).1
    omega
section
variable {CT : Nat → Option CFun}
abbrev XIn := Bool × V × List Int
def inR (e : XIn) : List V := [.s (.bool e.1), e.2.1]
def XOk (e : XIn) : Prop := (∀ H, Rd H e.2.1 (e.2.2.map iV)) ∧ Wide1 e.2.1 ∧ e.2.2.length ≤ 300 ∧ ∀ x ∈ e.2.2, x < 2 ^ 63
def outX (e : XIn) : Bool × WS := (e.1, ofP e.2.2 noP)
theorem exits_loop (h : TC CT) {m : Nat} {va : V} {L : List XIn} {H0 : Heap} (hm : m = H0.length) (hn : L.length ≤ 100) (hL : ∀ e ∈ L, XOk e) (hv : ∀ H, KeepD m [] H0 H → RdW 2 H va (L.map inR)) :
    ∀ (d k : Nat) (v : V) (js : List Nat) (H : Heap), k + d = L.length → ExS m H v ((L.take k).map outX) js → KeepD m [] H0 H →
    ∃ v' js' H2, itW (evC (callW CT) itW 0 s_gnomonlaw25_exits_l0) [] m (frOf 27 [(0, va), (3, v), (4, .s (.int .i64 k))]) H = some (.ext 0, frOf 27 [(0, va), (3, v'), (4, .s (.int .i64 L.length)), (8, .s (.bool false))], H2) ∧ ExS m H2 v' (L.map outX) js' ∧ KeepD m [] H0 H2 := by
  intro d
  induction d with
  | zero =>
    intro k v js H hk hE hK
    have hk' : k = L.length := by omega
    subst hk'
    rw [List.take_length] at hE
    have hlen := (hv H hK).len
    rw [List.length_map] at hlen
    rw [itW_step]
    simp only [a_gnomonlaw25_exits,s_gnomonlaw25_exits_l0_b, am0,am1,am2,am3,am4,am5,am6,am7,bl,i64,reduceIte,reduceCtorEq,Nat.reduceEqDiff,Nat.reduceLT,Nat.reduceLeDiff,Nat.reduceBEq,Nat.reduceAdd,fillA,splice,Nat.reduceMul,al0,al1,al2,al3,al4,al5,al6,al7,al8,al9,al10,al11,al12,al13,al14,al15,al16,al17,al18,al19,al20,al21,al22,al23,al24,al25,al26,al27,al28,al29,al30,al31,al32,al33,al34,amY,op_eqP, hlen, Int.lt_irrefl]
    refine ⟨_, js, _, rfl, ?_, hK.trim (Nat.le_refl _) _⟩
    exact hE.trim (Nat.le_refl _) (frOf_mem (s := 3) (by decide) rfl)
  | succ d ih =>
    intro k v js H hk hE hK
    have hkl : k < L.length := by omega
    have hlt : (k : Int) < (L.length : Int) := by omega
    have hwp := wrap_pos (n := k) (by omega)
    obtain ⟨e, hek⟩ : ∃ e, L[k]? = some e := ⟨L[k], List.getElem?_eq_getElem hkl⟩
    have heL := List.mem_of_getElem? hek
    obtain ⟨hu, huw, hul, hux⟩ := hL e heL
    have hrow : (L.map inR)[k]? = some (inR e) := by simp [hek]
    have hlen := (hv H hK).len
    rw [List.length_map] at hlen
    obtain ⟨a, ha1, ha2, ha3⟩ := (hv H hK).at' k _ hrow
    obtain ⟨b0, hb0, hb0'⟩ := ha3 0 _ rfl
    obtain ⟨b1, hb1, hb1'⟩ := ha3 1 _ rfl
    obtain ⟨A, eA, sA, kA, lA⟩ := of_P h.toTB H.length (H := H) (v := e.2.1) (l := e.2.2) (hu _) huw (by omega) hux (Nat.le_refl _)
    have kA := kA.d []
    have hKl := hK.1
    obtain ⟨B, hB⟩ : ∃ B, A ++ [Ob.cells 0 (exV (outX e) H.length)] = B := ⟨_, rfl⟩
    have kB : KeepD A.length [] A B := ⟨by rw [← hB]; simp, fun id h1 _ => by rw [← hB, List.getElem?_append_left h1]⟩
    have hx : elems B 2 (.sl A.length 0 0 1 2) = some ([exV (outX e) H.length].length, [exV (outX e) H.length].flatten) := by
      rw [← hB]; exact (RdW.sl (R := [exV (outX e) H.length]) (by simpa using getC_new A 0 (exV (outX e) H.length)) (by intro r hr; simp at hr; subst hr; rfl)).el
    have hAB := kA.trans kB kA.1
    obtain ⟨v', C, eC, aC, lC, kC⟩ := (hE.d hAB).acc.append (base := 0) (bytes := 16) (S := [exV (outX e) H.length]) (Nat.zero_le _) (by have := hAB.1; omega) (by intro r hr; simp at hr; subst hr; rfl) (by simp) hx (by rfl) (by rw [(hE.d hAB).rlen]; simp; omega)
    have hS := hE.snoc (e := outX e) (j := H.length) (H1 := B) (H2 := C) (Nat.le_refl _) hKl hAB (kB.s sA) aC kC
    rw [show ((L.take k).map outX) ++ [outX e] = (L.take (k + 1)).map outX by rw [List.take_add_one, hek, List.map_append]; rfl] at hS
    have hBl := hAB.1
    have hKC : KeepD m [] H0 C := ⟨by omega, fun id h1 _ => by
      rw [kC id (by omega) (fun g n ev => by
        obtain ⟨_, ⟨_, rfl⟩ | ⟨id', g', rfl, _, hid⟩⟩ := hE.acc
        · cases ev
        · cases ev; omega), hAB.2 id (by omega) (by simp), hK.2 id h1 (by simp)]⟩
    have htr := hS.acc.trim_eq (L := m) (fr := frOf 27 [(0, va), (3, v'), (4, .s (.int .i64 (k + 1 : Nat)))]) (fun e0 => by have := hS.rlen; rw [e0] at this; simp at this; omega) (Nat.le_refl _) (frOf_mem (s := 3) (by decide) rfl)
    obtain ⟨v2, js2, H2, e2, s2, k2⟩ := ih (k + 1) v' _ C (by omega) hS hKC
    refine ⟨v2, js2, H2, ?_, s2, k2⟩
    rw [itW_step]
    rw [show exV (outX e) H.length = [.s (.bool e.1), .ref (H.length + 1) 0 0] from rfl] at hB
    have hb0' : xLoad H false 1 b0 = some (.s (.bool e.1)) := hb0'
    have hb1' : xLoad H false 1 b1 = some e.2.1 := hb1'
    simp only [a_gnomonlaw25_exits,s_gnomonlaw25_exits_l0_b, am0,am1,am2,am3,am4,am5,am6,am7,bl,i64,reduceIte,reduceCtorEq,Nat.reduceEqDiff,Nat.reduceLT,Nat.reduceLeDiff,Nat.reduceBEq,Nat.reduceAdd,fillA,splice,Nat.reduceMul,al0,al1,al2,al3,al4,al5,al6,al7,al8,al9,al10,al11,al12,al13,al14,al15,al16,al17,al18,al19,al20,al21,al22,al23,al24,al25,al26,al27,al28,al29,al30,al31,al32,al33,al34,amY,op_eqP, hlen, hlt, ha1, hb0, hb0', hb1, hb1', eA, hB, eC, hwp, htr, e2]
    done
end
end Go.Proofs.YtlclbbieacjmfaaDoor
set_option maxRecDepth 100000
namespace Go.Proofs.YtlclbbieacjmfaaDoor
open Go.AM
def LOk (u : V) : Prop := ∃ L : List XIn, (∀ H, RdW 2 H u (L.map inR)) ∧ ∀ e ∈ L, (∀ H, Rd H e.2.1 (e.2.2.map iV)) ∧ Wide1 e.2.1 ∧ ∀ x ∈ e.2.2, x < 2 ^ 63
theorem exit_of {r : List V} (h : IsV (.st [.bool, .sl (.int .i64)]) r) : ∃ e : XIn, r = inR e ∧ (∀ H, Rd H e.2.1 (e.2.2.map iV)) ∧ Wide1 e.2.1 ∧ ∀ x ∈ e.2.2, x < 2 ^ 63 := by
  obtain ⟨a, b, rfl, ⟨z, rfl⟩, c, d, rfl, h2, h3⟩ := h
  obtain ⟨u, rfl, l, h4, h5, _, h6⟩ := ints_arg h2
  have hd : d = [] := h3
  subst hd
  exact ⟨(z, u, l), rfl, h4, h5, h6⟩
theorem exits_of : ∀ es : List (List V), (∀ x ∈ es, IsV (.st [.bool, .sl (.int .i64)]) x) → ∃ L : List XIn, es = L.map inR ∧ ∀ e ∈ L, (∀ H, Rd H e.2.1 (e.2.2.map iV)) ∧ Wide1 e.2.1 ∧ ∀ x ∈ e.2.2, x < 2 ^ 63 := by
  intro es
  induction es with
  | nil => intro _; exact ⟨[], rfl, fun e h => by cases h⟩
  | cons r es ih =>
    intro h
    obtain ⟨e, rfl, he⟩ := exit_of (h r List.mem_cons_self)
    obtain ⟨L, rfl, hL⟩ := ih fun x hx => h x (List.mem_cons_of_mem _ hx)
    refine ⟨e :: L, rfl, fun x hx => ?_⟩
    rcases List.mem_cons.1 hx with rfl | hx
    · exact he
    · exact hL x hx
theorem exits_arg {v : List V} (h : IsV (.sl (.st [.bool, .sl (.int .i64)])) v) : ∃ u, v = [u] ∧ LOk u := by
  rcases h with rfl | ⟨es, rfl, hl, he⟩
  · exact ⟨nilS, rfl, [], fun H => RdW.nil 2 H, fun e h => by cases h⟩
  · obtain ⟨L, rfl, hL⟩ := exits_of es he
    exact ⟨_, rfl, L, fun H => RdW.psl H (fun r hr => by obtain ⟨e, _, rfl⟩ := List.mem_map.1 hr; rfl), hL⟩
end Go.Proofs.YtlclbbieacjmfaaDoor
set_option maxRecDepth 100000
namespace Go.Proofs.YtlclbbieacjmfaaDoor
open Go.AM
section
variable {CT : Nat → Option CFun}
theorem exits_P (h : TC CT) (hX : CT k_gnomonlaw25_exits = some (.code s_gnomonlaw25_exits)) {H : Heap} {va : V} {L : List XIn} (hn : L.length ≤ 100) (hL : ∀ e ∈ L, XOk e) (hv : ∀ H', KeepD H.length [] H H' → RdW 2 H' va (L.map inR)) :
    ∃ v js H', callW CT (.fn k_gnomonlaw25_exits [] []) [va] 0 H = some (v, H') ∧ ExS H.length H' v (L.map outX) js ∧ KeepD H.length [] H H' := by
  obtain ⟨v, js, H2, e2, s2, k2⟩ := exits_loop h (m := H.length) (va := va) (L := L) (H0 := H) rfl hn hL hv L.length 0 nilS [] H (by omega) (ExS.start _ _) (KeepD.refl [] H)
  rw [show (((0 : Nat) : Nat) : Int) = 0 from rfl] at e2
  simp only [nilS] at e2
  have ht : trim H.length [v] H2 = H2 ∨ (L = []) := by
    rcases s2.acc.trim_or (Nat.le_refl _) (fr := [v]) (by simp) with ⟨e, _⟩ | e
    · right
      have := s2.rlen
      rw [e] at this
      simp at this
      exact List.eq_nil_of_length_eq_zero this.symm
    · exact .inl e
  refine ⟨v, js, H2, ?_, s2, k2⟩
  refine callW_fn (c := s_gnomonlaw25_exits) hX (by simp [s_gnomonlaw25_exits]) ?_
  simp only [s_gnomonlaw25_exits, a_gnomonlaw25_exits,s_gnomonlaw25_exits_l0_b, am0,am1,am2,am3,am4,am5,am6,am7,bl,i64,reduceIte,reduceCtorEq,Nat.reduceEqDiff,Nat.reduceLT,Nat.reduceLeDiff,Nat.reduceBEq,Nat.reduceAdd,fillA,splice,Nat.reduceMul,al0,al1,al2,al3,al4,al5,al6,al7,al8,al9,al10,al11,al12,al13,al14,al15,al16,al17,al18,al19,al20,al21,al22,al23,al24,al25,al26,al27,al28,al29,al30,al31,al32,al33,al34,amY,op_eqP, e2]
  done
theorem great_loop {m : Nat} {vl : V} {L : List XIn} {H : Heap} (hm : m = H.length) (hn : L.length ≤ 100) (hL : ∀ e ∈ L, (∀ H, Rd H e.2.1 (e.2.2.map iV))) (hv : RdW 2 H vl (L.map inR)) :
    ∀ (d k : Nat), k + d = L.length →
    (itW (evC (callW CT) itW 0 s_gnomonlaw25_great_l0) [] m (frOf 41 [(3, vl), (9, .s (.int .i64 k))]) H = some (.ext 0, frOf 41 [(3, vl), (9, .s (.int .i64 L.length)), (31, .s (.bool false))], H) ∧ ∀ e ∈ L.drop k, e.2.2.length ≤ 300) ∨
    itW (evC (callW CT) itW 0 s_gnomonlaw25_great_l0) [] m (frOf 41 [(3, vl), (9, .s (.int .i64 k))]) H = some (.ret, frOf 41 [(8, .s (.bool true))], H) := by
  intro d
  have hlen := hv.len
  rw [List.length_map] at hlen
  induction d with
  | zero =>
    intro k hk
    have hk' : k = L.length := by omega
    subst hk'
    left
    refine ⟨?_, fun e he => by rw [List.drop_length] at he; cases he⟩
    rw [itW_step]
    simp only [a_gnomonlaw25_great,s_gnomonlaw25_great_l0_b, am0,am1,am2,am3,am4,am5,am6,am7,bl,i64,reduceIte,reduceCtorEq,Nat.reduceEqDiff,Nat.reduceLT,Nat.reduceLeDiff,Nat.reduceBEq,Nat.reduceAdd,fillA,splice,Nat.reduceMul,al0,al1,al2,al3,al4,al5,al6,al7,al8,al9,al10,al11,al12,al13,al14,al15,al16,al17,al18,al19,al20,al21,al22,al23,al24,al25,al26,al27,al28,al29,al30,al31,al32,al33,al34,amY,op_eqP, hlen, Int.lt_irrefl, trim_same hm.symm]
    done
  | succ d ih =>
    intro k hk
    have hkl : k < L.length := by omega
    have hlt : (k : Int) < (L.length : Int) := by omega
    have hwp := wrap_pos (n := k) (by omega)
    obtain ⟨e, hek⟩ : ∃ e, L[k]? = some e := ⟨L[k], List.getElem?_eq_getElem hkl⟩
    have heL := List.mem_of_getElem? hek
    have hul := iV_len' (hL e heL H)
    have hrow : (L.map inR)[k]? = some (inR e) := by simp [hek]
    obtain ⟨a, ha1, ha2, ha3⟩ := hv.at' k _ hrow
    obtain ⟨b1, hb1, hb1'⟩ := ha3 1 _ rfl
    have hb1' : xLoad H false 1 b1 = some e.2.1 := hb1'
    by_cases hg : e.2.2.length > 300
    · right
      have hgd : decide ((e.2.2.length : Int) > 300) = true := by simp; omega
      rw [itW_step]
      simp only [a_gnomonlaw25_great,s_gnomonlaw25_great_l0_b, am0,am1,am2,am3,am4,am5,am6,am7,bl,i64,reduceIte,reduceCtorEq,Nat.reduceEqDiff,Nat.reduceLT,Nat.reduceLeDiff,Nat.reduceBEq,Nat.reduceAdd,fillA,splice,Nat.reduceMul,al0,al1,al2,al3,al4,al5,al6,al7,al8,al9,al10,al11,al12,al13,al14,al15,al16,al17,al18,al19,al20,al21,al22,al23,al24,al25,al26,al27,al28,al29,al30,al31,al32,al33,al34,amY,op_eqP, hlen, hlt, ha1, hb1, hb1', hul, hgd, trim_same hm.symm]
      done
    · have hgd : decide ((e.2.2.length : Int) > 300) = false := by simp; omega
      have hi := ih (k + 1) (by omega)
      rw [List.drop_eq_getElem_cons hkl]
      have heq : L[k] = e := by rw [List.getElem?_eq_getElem hkl] at hek; exact Option.some.inj hek
      rw [heq]
      have hst : itW (evC (callW CT) itW 0 s_gnomonlaw25_great_l0) [] m (frOf 41 [(3, vl), (9, .s (.int .i64 k))]) H = itW (evC (callW CT) itW 0 s_gnomonlaw25_great_l0) [] m (frOf 41 [(3, vl), (9, .s (.int .i64 (k + 1 : Nat)))]) H := by
        rw [itW_step]
        simp only [a_gnomonlaw25_great,s_gnomonlaw25_great_l0_b, am0,am1,am2,am3,am4,am5,am6,am7,bl,i64,reduceIte,reduceCtorEq,Nat.reduceEqDiff,Nat.reduceLT,Nat.reduceLeDiff,Nat.reduceBEq,Nat.reduceAdd,fillA,splice,Nat.reduceMul,al0,al1,al2,al3,al4,al5,al6,al7,al8,al9,al10,al11,al12,al13,al14,al15,al16,al17,al18,al19,al20,al21,al22,al23,al24,al25,al26,al27,al28,al29,al30,al31,al32,al33,al34,amY,op_eqP, hlen, hlt, ha1, hb1, hb1', hul, hgd, hwp, trim_same hm.symm]
        done
      rw [hst]
      rcases hi with ⟨h1, h2⟩ | h1
      · exact .inl ⟨h1, fun x hx => by
          rcases List.mem_cons.1 hx with rfl | hx
          · omega
          · exact h2 x hx⟩
      · exact .inr h1
theorem great_P (hG : CT k_gnomonlaw25_great = some (.code s_gnomonlaw25_great)) {H : Heap} {va vb vc vl : V} {na nb nc : Nat} {L : List XIn} (ha : xLen H .s va = some (.s (.int .i64 na))) (hb : xLen H .s vb = some (.s (.int .i64 nb))) (hc : xLen H .s vc = some (.s (.int .i64 nc))) (hL : ∀ e ∈ L, (∀ H, Rd H e.2.1 (e.2.2.map iV))) (hv : RdW 2 H vl (L.map inR)) :
    ∃ b, callW CT (.fn k_gnomonlaw25_great [] []) [va, vb, vc, vl] 0 H = some (.s (.bool b), H) ∧ (b = false → na ≤ 300 ∧ nb ≤ 300 ∧ nc ≤ 300 ∧ L.length ≤ 60 ∧ ∀ e ∈ L, e.2.2.length ≤ 300) := by
  have hlen := hv.len
  rw [List.length_map] at hlen
  by_cases g : na > 300 ∨ nb > 300 ∨ nc > 300 ∨ L.length > 60
  · refine ⟨true, ?_, fun e => by cases e⟩
    refine callW_fn (c := s_gnomonlaw25_great) hG (by simp [s_gnomonlaw25_great]) ?_
    by_cases h1 : na > 300
    · have g1 : decide ((na : Int) > 300) = true := by simp; omega
      simp only [s_gnomonlaw25_great, a_gnomonlaw25_great,s_gnomonlaw25_great_l0_b, am0,am1,am2,am3,am4,am5,am6,am7,bl,i64,reduceIte,reduceCtorEq,Nat.reduceEqDiff,Nat.reduceLT,Nat.reduceLeDiff,Nat.reduceBEq,Nat.reduceAdd,fillA,splice,Nat.reduceMul,al0,al1,al2,al3,al4,al5,al6,al7,al8,al9,al10,al11,al12,al13,al14,al15,al16,al17,al18,al19,al20,al21,al22,al23,al24,al25,al26,al27,al28,al29,al30,al31,al32,al33,al34,amY,op_eqP, ha, hb, hc, hlen, g1]
      done
    have g1 : decide ((na : Int) > 300) = false := by simp; omega
    by_cases h2 : nb > 300
    · have g2 : decide ((nb : Int) > 300) = true := by simp; omega
      simp only [s_gnomonlaw25_great, a_gnomonlaw25_great,s_gnomonlaw25_great_l0_b, am0,am1,am2,am3,am4,am5,am6,am7,bl,i64,reduceIte,reduceCtorEq,Nat.reduceEqDiff,Nat.reduceLT,Nat.reduceLeDiff,Nat.reduceBEq,Nat.reduceAdd,fillA,splice,Nat.reduceMul,al0,al1,al2,al3,al4,al5,al6,al7,al8,al9,al10,al11,al12,al13,al14,al15,al16,al17,al18,al19,al20,al21,al22,al23,al24,al25,al26,al27,al28,al29,al30,al31,al32,al33,al34,amY,op_eqP, ha, hb, hc, hlen, g1, g2]
      done
    have g2 : decide ((nb : Int) > 300) = false := by simp; omega
    by_cases h3 : nc > 300
    · have g3 : decide ((nc : Int) > 300) = true := by simp; omega
      simp only [s_gnomonlaw25_great, a_gnomonlaw25_great,s_gnomonlaw25_great_l0_b, am0,am1,am2,am3,am4,am5,am6,am7,bl,i64,reduceIte,reduceCtorEq,Nat.reduceEqDiff,Nat.reduceLT,Nat.reduceLeDiff,Nat.reduceBEq,Nat.reduceAdd,fillA,splice,Nat.reduceMul,al0,al1,al2,al3,al4,al5,al6,al7,al8,al9,al10,al11,al12,al13,al14,al15,al16,al17,al18,al19,al20,al21,al22,al23,al24,al25,al26,al27,al28,al29,al30,al31,al32,al33,al34,amY,op_eqP, ha, hb, hc, hlen, g1, g2, g3]
      done
    have g3 : decide ((nc : Int) > 300) = false := by simp; omega
    have g4 : decide ((L.length : Int) > 60) = true := by simp; omega
    simp only [s_gnomonlaw25_great, a_gnomonlaw25_great,s_gnomonlaw25_great_l0_b, am0,am1,am2,am3,am4,am5,am6,am7,bl,i64,reduceIte,reduceCtorEq,Nat.reduceEqDiff,Nat.reduceLT,Nat.reduceLeDiff,Nat.reduceBEq,Nat.reduceAdd,fillA,splice,Nat.reduceMul,al0,al1,al2,al3,al4,al5,al6,al7,al8,al9,al10,al11,al12,al13,al14,al15,al16,al17,al18,al19,al20,al21,al22,al23,al24,al25,al26,al27,al28,al29,al30,al31,al32,al33,al34,amY,op_eqP, ha, hb, hc, hlen, g1, g2, g3, g4]
    done
  · have g1 : decide ((na : Int) > 300) = false := by simp; omega
    have g2 : decide ((nb : Int) > 300) = false := by simp; omega
    have g3 : decide ((nc : Int) > 300) = false := by simp; omega
    have g4 : decide ((L.length : Int) > 60) = false := by simp; omega
    rcases great_loop (CT := CT) rfl (by omega) hL hv L.length 0 (by omega) with ⟨e1, e2⟩ | e1
    · rw [show (((0 : Nat) : Nat) : Int) = 0 from rfl] at e1
      refine ⟨false, ?_, fun _ => ⟨by omega, by omega, by omega, by omega, by simpa using e2⟩⟩
      refine callW_fn (c := s_gnomonlaw25_great) hG (by simp [s_gnomonlaw25_great]) ?_
      simp only [s_gnomonlaw25_great, a_gnomonlaw25_great,s_gnomonlaw25_great_l0_b, am0,am1,am2,am3,am4,am5,am6,am7,bl,i64,reduceIte,reduceCtorEq,Nat.reduceEqDiff,Nat.reduceLT,Nat.reduceLeDiff,Nat.reduceBEq,Nat.reduceAdd,fillA,splice,Nat.reduceMul,al0,al1,al2,al3,al4,al5,al6,al7,al8,al9,al10,al11,al12,al13,al14,al15,al16,al17,al18,al19,al20,al21,al22,al23,al24,al25,al26,al27,al28,al29,al30,al31,al32,al33,al34,amY,op_eqP, ha, hb, hc, hlen, g1, g2, g3, g4, e1]
      done
    · rw [show (((0 : Nat) : Nat) : Int) = 0 from rfl] at e1
      refine ⟨true, ?_, fun e => by cases e⟩
      refine callW_fn (c := s_gnomonlaw25_great) hG (by simp [s_gnomonlaw25_great]) ?_
      simp only [s_gnomonlaw25_great, a_gnomonlaw25_great,s_gnomonlaw25_great_l0_b, am0,am1,am2,am3,am4,am5,am6,am7,bl,i64,reduceIte,reduceCtorEq,Nat.reduceEqDiff,Nat.reduceLT,Nat.reduceLeDiff,Nat.reduceBEq,Nat.reduceAdd,fillA,splice,Nat.reduceMul,al0,al1,al2,al3,al4,al5,al6,al7,al8,al9,al10,al11,al12,al13,al14,al15,al16,al17,al18,al19,al20,al21,al22,al23,al24,al25,al26,al27,al28,al29,al30,al31,al32,al33,al34,amY,op_eqP, ha, hb, hc, hlen, g1, g2, g3, g4, e1]
      done
end
end Go.Proofs.YtlclbbieacjmfaaDoor
set_option maxRecDepth 100000
namespace Go.Proofs.YtlclbbieacjmfaaDoor
open Go.AM
theorem KeepD.s2 {m : Nat} {A B : Heap} (k : KeepD m [] A B) {i j : Nat} {p : WS} (h : SetP A i j p) (hi : i < m) (hj : j < m) : SetP B i j p := k.setP h ⟨hi, hj⟩ ⟨by simp, by simp⟩
def ZOk (H : Heap) (ia : Nat) (z : List V × WS) : Prop := ∃ (b : Bool) (u : V) (i j : Nat), z.1 = [.s (.bool b), u] ∧ u.one = true ∧ (if b then u else V.ref ia 0 0) = .ref i 0 0 ∧ SetP H i j z.2 ∧ cnt z.2 ≤ 2 ^ 20
theorem ZOk.d {H H' : Heap} {ia : Nat} {z : List V × WS} (h : ZOk H ia z) (k : KeepD H.length [] H H') : ZOk H' ia z := by
  obtain ⟨b, u, i, j, h1, h2, h3, h4, h5⟩ := h
  exact ⟨b, u, i, j, h1, h2, h3, k.s h4, h5⟩
def zOf (pa : WS) (e : Bool × WS) (j : Nat) : List V × WS := (exV e j, if e.1 then e.2 else pa)
def zL (pa : WS) (L : List (Bool × WS)) (js : List Nat) : List (List V × WS) := List.zipWith (zOf pa) L js
theorem zL_map (pa : WS) : ∀ (L : List (Bool × WS)) (js : List Nat), (zL pa L js).map (·.1) = exR L js := by
  intro L
  induction L with
  | nil => intro js; simp [zL, exR]
  | cons e L ih => intro js; cases js with | nil => simp [zL, exR] | cons j js => simp only [zL, exR, List.zipWith_cons_cons, List.map_cons] at ih ⊢; rw [ih]; rfl
theorem zL_mem {pa : WS} {L : List (Bool × WS)} {js : List Nat} {z : List V × WS} (h : z ∈ zL pa L js) : ∃ (k : Nat) (e : Bool × WS) (j : Nat), L[k]? = some e ∧ js[k]? = some j ∧ z = zOf pa e j := by
  obtain ⟨k, hk⟩ := List.getElem?_of_mem h
  simp only [zL, List.getElem?_zipWith] at hk
  split at hk
  · rename_i e j h1 h2
    exact ⟨k, e, j, h1, h2, (Option.some.inj hk).symm⟩
  · cases hk
theorem zL_snd (pa : WS) : ∀ (L : List (Bool × WS)) (js : List Nat), js.length = L.length → (zL pa L js).map (·.2) = L.map fun e => if e.1 then e.2 else pa := by
  intro L
  induction L with
  | nil => intro js _; simp [zL]
  | cons e L ih => intro js h; cases js with | nil => simp at h | cons j js => simp only [zL, List.zipWith_cons_cons, List.map_cons] at ih ⊢; rw [ih js (by simpa using h)]; rfl
theorem zL_ok {m ia ja : Nat} {H : Heap} {v : V} {L : List (Bool × WS)} {js : List Nat} {pa : WS} (h : ExS m H v L js) (sa : SetP H ia ja pa) (ca : cnt pa ≤ 2 ^ 20) (cl : ∀ e ∈ L, cnt e.2 ≤ 2 ^ 20) : ∀ z ∈ zL pa L js, ZOk H ia z := by
  intro z hz
  obtain ⟨k, ⟨b, q⟩, j, h1, h2, rfl⟩ := zL_mem hz
  have hs := h.sets k _ j h1 h2
  cases b with
  | true => exact ⟨true, .ref (j + 1) 0 0, j + 1, j, rfl, rfl, rfl, hs, cl _ (List.mem_of_getElem? h1)⟩
  | false => exact ⟨false, .ref (j + 1) 0 0, ia, ja, rfl, rfl, rfl, sa, ca⟩
section
variable {CT : Nat → Option CFun}
theorem call_Z (h : TC CT) (hC : CT k_update_Call = some (.code s_update_Call)) {ia : Nat} {H : Heap} {v : V} (Z : List (List V × WS)) (hn : Z.length ≤ 2 ^ 20) (hv : ∀ H', KeepD H.length [] H H' → RdW 2 H' v (Z.map (·.1))) (hz : ∀ z ∈ Z, ZOk H ia z) :
    ∃ i j H', callW CT (.fn k_update_Call [] []) [.ref ia 0 0, v] 0 H = some (.ref i 0 0, H') ∧ SetP H' i j (uniS (Z.map (·.2)) noP) ∧ KeepD H.length [] H H' ∧ H.length ≤ i ∧ H.length ≤ j ∧ cnt (uniS (Z.map (·.2)) noP) ≤ Z.length * 2 ^ 20 := by
  have hq : ∀ q ∈ Z.map (·.2), WdP q ∧ cnt q ≤ 2 ^ 20 := fun q hq => by
    obtain ⟨z, hz', rfl⟩ := List.mem_map.1 hq
    obtain ⟨b, u, i, j, h1, h2, h3, h4, h5⟩ := hz z hz'
    exact ⟨h4.wd, h5⟩
  obtain ⟨i, j, H', e1, s1, k1, l1, l2⟩ := call_P h hC (ia := ia) (H := H) (v := v) (R := Z.map (·.1)) (qs := Z.map (·.2)) (by simp) (by simpa using hn) hq hv (fun k r q h1 h2 => by
    rw [List.getElem?_map] at h1 h2
    cases hk : Z[k]? with
    | none => rw [hk] at h1; cases h1
    | some z =>
      rw [hk] at h1 h2
      cases h1
      cases h2
      obtain ⟨b, u, i, j, h1, h2, h3, h4, h5⟩ := hz z (List.mem_of_getElem? hk)
      exact ⟨b, u, i, j, h1, h2, h3, h4⟩)
  have hc := cnt_uniS (Z.map (·.2)) noP hq noP_wd
  rw [noP_cnt, List.length_map, Nat.zero_add] at hc
  exact ⟨i, j, H', e1, s1, k1, l1, l2, hc⟩
end
end Go.Proofs.YtlclbbieacjmfaaDoor
namespace Go.AM
def LiS (m : Nat) (H : Heap) (v : V) (l : List Int) : Prop := (l = [] ∧ v = nilS) ∨ ∃ id g, v = .sl id g 0 l.length 1 ∧ getC H id g = some (l.map iV) ∧ m ≤ id
theorem LiS.nil (m : Nat) (H : Heap) : LiS m H nilS [] := .inl ⟨rfl, rfl⟩
theorem LiS.rd {m : Nat} {H : Heap} {v : V} {l : List Int} (h : LiS m H v l) : Rd H v (l.map iV) := by
  rcases h with ⟨rfl, rfl⟩ | ⟨id, g, rfl, hc, _⟩
  · exact Rd.nil H
  · have := getC_sl hc
    rwa [List.length_map] at this
theorem LiS.wide {m : Nat} {H : Heap} {v : V} {l : List Int} (h : LiS m H v l) : Wide1 v := by
  rcases h with ⟨_, rfl⟩ | ⟨_, _, rfl, _⟩ <;> trivial
theorem LiS.one {m : Nat} {H : Heap} {v : V} {l : List Int} (h : LiS m H v l) : v.one = true := h.rd.one
theorem LiS.mono {m k : Nat} {H : Heap} {v : V} {l : List Int} (h : LiS m H v l) (hk : k ≤ m) : LiS k H v l := by
  rcases h with h | ⟨id, g, h1, h2, h3⟩
  · exact .inl h
  · exact .inr ⟨id, g, h1, h2, by omega⟩
theorem LiS.keep {m : Nat} {H H' : Heap} {v : V} {l : List Int} (h : LiS m H v l) (hk : ∀ id g n, v = .sl id g 0 n 1 → H'[id]? = H[id]?) : LiS m H' v l := by
  rcases h with h | ⟨id, g, rfl, hc, hm⟩
  · exact .inl h
  · refine .inr ⟨id, g, rfl, ?_, hm⟩
    unfold getC at hc ⊢
    rw [hk id g _ rfl]
    exact hc
theorem LiS.lt {m : Nat} {H : Heap} {v : V} {l : List Int} (h : LiS m H v l) : ∀ id g n, v = .sl id g 0 n 1 → id < H.length := by
  rcases h with ⟨_, rfl⟩ | ⟨id, g, rfl, hc, hm⟩
  · intro id g n e; cases e
  · intro id' g' n e
    cases e
    exact getC_lt hc
theorem LiS.d {m : Nat} {H H' : Heap} {v : V} {l : List Int} (h : LiS m H v l) (k : KeepD H.length [] H H') : LiS m H' v l := h.keep fun id g n e => k.2 id (h.lt id g n e) (by simp)
theorem LiS.under {m M : Nat} {H : Heap} {v : V} {l : List Int} (h : LiS m H v l) (hv : idsUnder M 8 v = true) : LiS m (H.take M) v l := by
  rcases h with h | ⟨id, g, rfl, hc, hm⟩
  · exact .inl h
  · simp only [idsUnder, decide_eq_true_eq] at hv
    refine .inr ⟨id, g, rfl, ?_, hm⟩
    unfold getC at hc ⊢
    rw [List.getElem?_take_of_lt hv]
    exact hc
theorem LiS.trim_fr {m : Nat} {H : Heap} {v : V} {l : List Int} (h : LiS m H v l) (L : Nat) {fr : List V} (hv : v ∈ fr) : LiS m (trim L fr H) v l := by
  rcases trim_or L fr H with e | ⟨e, hu⟩
  · rw [e]; exact h
  · rw [e]; exact h.under (hu v hv)
theorem LiS.apart {m : Nat} {H : Heap} {v : V} {l : List Int} (h : LiS m H v l) {o g : Nat} {x : V} {c : List V} (hc : getC H o g = some (x :: c)) (hx : ∀ n, x ≠ iV n) : ∀ id g n, v = .sl id g 0 n 1 → id ≠ o := by
  rcases h with ⟨_, rfl⟩ | ⟨id, g', rfl, hc', _⟩
  · intro id g n e; cases e
  · intro id' g2 n e e2
    cases e
    subst e2
    unfold getC at hc hc'
    cases ho : H[id]? with
    | none => rw [ho] at hc; cases hc
    | some ob =>
      rw [ho] at hc hc'
      cases ob with
      | cells g3 c3 =>
        dsimp only at hc hc'
        split at hc
        · split at hc'
          · cases hc
            cases l with
            | nil => simp at hc'
            | cons y l =>
              simp only [List.map_cons, Option.some.injEq, List.cons.injEq] at hc'
              exact hx y hc'.1
          · cases hc'
        · cases hc
      | map _ => cases hc
      | loop _ _ _ _ _ _ => cases hc
      | dead => cases hc
theorem rowI_flat (l : List Int) : (l.map fun x => [iV x]).flatten = l.map iV := by
  induction l with
  | nil => rfl
  | cons x l ih => simp [ih]
theorem all_one_iV (l : List Int) : (l.map iV).all V.one = true := by simp [List.all_eq_true, iV, V.one]
theorem LiS.append {m : Nat} {H : Heap} {v : V} {l : List Int} (h : LiS m H v l) {base bytes : Nat} (hb : base ≤ m) (hm : m ≤ H.length) {x : V} {l2 : List Int} (hx : Rd H x (l2.map iV)) (hs : (l.length + l2.length) * bytes ≤ 2 ^ 47) :
    ∃ v' H', appendV H base 1 bytes v x = some (v', H') ∧ LiS m H' v' (l ++ l2) ∧ H.length ≤ H'.length ∧ (∀ id, id < H.length → (∀ g n, v ≠ .sl id g 0 n 1) → H'[id]? = H[id]?) := by
  have ha : AccW m 1 H v (l.map fun x => [iV x]) := by
    refine ⟨fun r hr => ?_, ?_⟩
    · obtain ⟨_, _, rfl⟩ := List.mem_map.1 hr; rfl
    · rcases h with ⟨rfl, rfl⟩ | ⟨id, g, rfl, hc, hm⟩
      · exact .inl ⟨rfl, rfl⟩
      · exact .inr ⟨id, g, by rw [List.length_map], by rw [rowI_flat]; exact hc, hm⟩
  obtain ⟨v', H', e1, e2, e3, e4⟩ := ha.append0 (base := base) (bytes := bytes) hb hm (S := l2.map fun x => [iV x]) (fun r hr => by obtain ⟨_, _, rfl⟩ := List.mem_map.1 hr; rfl) (x := x)
    (by rw [rowI_flat, List.length_map]; have := hx.2; rwa [List.length_map] at this) (by rw [rowI_flat]; exact all_one_iV l2) (by simpa using hs)
  refine ⟨v', H', e1, ?_, e3, e4⟩
  rw [← List.map_append] at e2
  obtain ⟨_, ⟨h1, h2⟩ | ⟨id, g, h1, h2, h3⟩⟩ := e2
  · exact .inl ⟨by simpa using h1, h2⟩
  · exact .inr ⟨id, g, by rw [List.length_map] at h1; exact h1, by rw [rowI_flat] at h2; exact h2, h3⟩
theorem OwnN.store {m : Nat} {H : Heap} {v : V} {l : List V} (h : OwnN m H v l) {base k : Nat} (hb : base ≤ m) (hk : k < l.length) {x : V} (hx : x.one = true) :
    ∃ a H', xIndexAddr 1 v (.s (.int .i64 k)) = some a ∧ storeV H base 1 x a = some H' ∧ OwnN m H' v (l.set k x) ∧ H'.length = H.length ∧ ∀ id, id < m → H'[id]? = H[id]? := by
  rcases h with ⟨rfl, _⟩ | ⟨id, g, c, rfl, hc, hl, ht, hm⟩
  · cases hk
  · have hcl : k < c.length := by omega
    have hx2 : c[k]? = some c[k] := List.getElem?_eq_getElem hcl
    refine ⟨.ref id g k, H.set id (.cells g (c.set k x)), (at_sl hc hk hx2).1, storeV_at hc (by omega) hx hcl, .inr ⟨id, g, c.set k x, by rw [List.length_set], getC_put hc, by rw [List.length_set, List.length_set]; exact hl, ?_, hm⟩, List.length_set, fun id' hid => ?_⟩
    · rw [List.length_set, List.take_set, ht]
    · rw [List.getElem?_set_ne (by omega)]
end Go.AM
set_option maxRecDepth 100000
namespace Go.Proofs.YtlclbbieacjmfaaDoor
open Go.AM
def addL (l : List Int) (x : Int) : List Int := if x < 0 ∨ l.contains x = true then l else l.takeWhile (fun y => decide (y < x)) ++ [x] ++ l.dropWhile (fun y => decide (y < x))
theorem take_while (p : Int → Bool) (l : List Int) : l.take (l.takeWhile p).length = l.takeWhile p ∧ l.drop (l.takeWhile p).length = l.dropWhile p := by
  have h := List.takeWhile_append_dropWhile (p := p) (l := l)
  constructor
  · conv => lhs; rw [← h]
    rw [List.take_append_of_le_length (by rw [h]; exact Nat.le_refl _)] <;> simp
  · have h2 := List.drop_left (l₁ := l.takeWhile p) (l₂ := l.dropWhile p)
    rwa [h] at h2
theorem radd_loop (call : CallF) (base : Nat) (H : Heap) (v : V) (l : List Int) (x : Int) (hv : Rd H v (l.map iV)) (hw : Wide1 v) (hn : l.length < 2 ^ 62) : ∀ (r : List Int) (k : Nat), l.drop k = r → k ≤ l.length →
    itW (evC call itW base s_gnomonref01_Add_l0) [] H.length (frOf 42 [(0, v), (1, .s (.int .i64 x)), (5, .s (.int .i64 k))]) H = some (.ext 0, frOf 42 [(0, v), (1, .s (.int .i64 x)), (5, .s (.int .i64 (k + (r.takeWhile (fun y => decide (y < x))).length : Nat))), (26, .s (.bool false))], H) := by
  intro r
  induction r with
  | nil =>
    intro k hd hk
    obtain rfl := drop_nil hd hk
    rw [itW_step]
    simp only [a_gnomonref01_Add,s_gnomonref01_Add_l0_b, am0,am1,am2,am3,am4,am5,am6,am7,bl,i64,reduceIte,reduceCtorEq,Nat.reduceEqDiff,Nat.reduceLT,Nat.reduceLeDiff,Nat.reduceBEq,Nat.reduceAdd,fillA,splice,Nat.reduceMul,al0,al1,al2,al3,al4,al5,al6,al7,al8,al9,al10,al11,al12,al13,al14,al15,al16,al17,al18,al19,al20,al21,al22,al23,al24,al25,al26,al27,al28,al29,al30,al31,al32,al33,al34,amY,op_eqP, iV_len hv, Int.lt_irrefl, trim_same rfl, List.takeWhile_nil, List.length_nil, Nat.add_zero]
    done
  | cons y r ih =>
    intro k hd hk
    obtain ⟨hx, hlt, hd'⟩ := drop_cons hd
    obtain ⟨a, ha1, ha2⟩ := iV_at hv hw hx
    have hlt' : (k : Int) < (l.length : Int) := by omega
    have hwk := wrap_pos (n := k) (by omega)
    rw [itW_step]
    cases hxy : decide (y < x) with
    | true =>
      have e := ih (k + 1) hd' (by omega)
      have hl : (y :: r).takeWhile (fun y => decide (y < x)) = y :: r.takeWhile (fun y => decide (y < x)) := by rw [List.takeWhile_cons, if_pos hxy]
      simp only [a_gnomonref01_Add,s_gnomonref01_Add_l0_b, am0,am1,am2,am3,am4,am5,am6,am7,bl,i64,reduceIte,reduceCtorEq,Nat.reduceEqDiff,Nat.reduceLT,Nat.reduceLeDiff,Nat.reduceBEq,Nat.reduceAdd,fillA,splice,Nat.reduceMul,al0,al1,al2,al3,al4,al5,al6,al7,al8,al9,al10,al11,al12,al13,al14,al15,al16,al17,al18,al19,al20,al21,al22,al23,al24,al25,al26,al27,al28,al29,al30,al31,al32,al33,al34,amY,op_eqP, iV_len hv, hlt', ha1, ha2, hxy, hwk, trim_same rfl]
      rw [e, hl, List.length_cons, show k + 1 + (r.takeWhile (fun y => decide (y < x))).length = k + ((r.takeWhile (fun y => decide (y < x))).length + 1) by omega]
    | false =>
      have hl : (y :: r).takeWhile (fun y => decide (y < x)) = [] := by rw [List.takeWhile_cons, hxy]; rfl
      simp only [a_gnomonref01_Add,s_gnomonref01_Add_l0_b, am0,am1,am2,am3,am4,am5,am6,am7,bl,i64,reduceIte,reduceCtorEq,Nat.reduceEqDiff,Nat.reduceLT,Nat.reduceLeDiff,Nat.reduceBEq,Nat.reduceAdd,fillA,splice,Nat.reduceMul,al0,al1,al2,al3,al4,al5,al6,al7,al8,al9,al10,al11,al12,al13,al14,al15,al16,al17,al18,al19,al20,al21,al22,al23,al24,al25,al26,al27,al28,al29,al30,al31,al32,al33,al34,amY,op_eqP, iV_len hv, hlt', ha1, ha2, hxy, trim_same rfl, hl, List.length_nil, Nat.add_zero]
      done
theorem radd_fun {CT : Nat → Option CFun} (hT : CT k_gnomonref01_Add = some (.code s_gnomonref01_Add)) (hH : CT k_gnomonref01_Has = some (.code s_gnomonref01_Has)) (base : Nat) {H : Heap} {v : V} {l : List Int} (x : Int) (hv : LiS 0 H v l) (hn : l.length < 2 ^ 40) (hb : base ≤ H.length) :
    ∃ v' H', callW CT (.fn k_gnomonref01_Add [] []) [v, .s (.int .i64 x)] base H = some (v', H') ∧ LiS 0 H' v' (addL l x) ∧ KeepD H.length [] H H' := by
  have hw := hv.wide
  have hrd := hv.rd
  have hh := fun base => rhas_fun hH base H v l x hrd hw (by omega)
  by_cases h0 : x < 0
  · refine ⟨v, H, ?_, by rw [addL, if_pos (.inl h0)]; exact hv, KeepD.refl _ _⟩
    refine callW_fn (c := s_gnomonref01_Add) hT (by simp [s_gnomonref01_Add]) ?_
    simp only [s_gnomonref01_Add, a_gnomonref01_Add,s_gnomonref01_Add_l0_b, am0,am1,am2,am3,am4,am5,am6,am7,bl,i64,reduceIte,reduceCtorEq,Nat.reduceEqDiff,Nat.reduceLT,Nat.reduceLeDiff,Nat.reduceBEq,Nat.reduceAdd,fillA,splice,Nat.reduceMul,al0,al1,al2,al3,al4,al5,al6,al7,al8,al9,al10,al11,al12,al13,al14,al15,al16,al17,al18,al19,al20,al21,al22,al23,al24,al25,al26,al27,al28,al29,al30,al31,al32,al33,al34,amY,op_eqP, h0]
    done
  by_cases h1 : l.contains x = true
  · refine ⟨v, H, ?_, by rw [addL, if_pos (.inr h1)]; exact hv, KeepD.refl _ _⟩
    refine callW_fn (c := s_gnomonref01_Add) hT (by simp [s_gnomonref01_Add]) ?_
    simp only [s_gnomonref01_Add, a_gnomonref01_Add,s_gnomonref01_Add_l0_b, am0,am1,am2,am3,am4,am5,am6,am7,bl,i64,reduceIte,reduceCtorEq,Nat.reduceEqDiff,Nat.reduceLT,Nat.reduceLeDiff,Nat.reduceBEq,Nat.reduceAdd,fillA,splice,Nat.reduceMul,al0,al1,al2,al3,al4,al5,al6,al7,al8,al9,al10,al11,al12,al13,al14,al15,al16,al17,al18,al19,al20,al21,al22,al23,al24,al25,al26,al27,al28,al29,al30,al31,al32,al33,al34,amY,op_eqP, h0, hh, h1]
    done
  have h1' : l.contains x = false := by simpa using h1
  obtain ⟨t1, t2⟩ := take_while (fun y => decide (y < x)) l
  have hle : (l.takeWhile (fun y => decide (y < x))).length ≤ l.length := (List.takeWhile_prefix _).length_le
  have hloop := radd_loop (callW CT) base H v l x hrd hw (by omega) l 0 rfl (Nat.zero_le _)
  rw [cast0, Nat.zero_add] at hloop
  obtain ⟨n, hn'⟩ : ∃ n, (l.takeWhile (fun y => decide (y < x))).length = n := ⟨_, rfl⟩
  rw [hn'] at t1 t2 hle hloop
  have hm : (l.map iV).length = l.length := List.length_map ..
  obtain ⟨w1, q1, q2, q3⟩ := hrd.slice hw (lo := none) (hi := some (.s (.int .i64 n))) (a := 0) (b := n) rfl rfl (Nat.zero_le _) (by omega)
  have q2 : Rd H w1 ((l.take n).map iV) := by simpa using q2
  obtain ⟨v1, H1, e1, x1, k1, k1'⟩ := (LiS.nil H.length H).append (base := base) (bytes := 8) hb (Nat.le_refl _) (l2 := l.take n) q2 (by simp; omega)
  rw [List.nil_append] at x1
  simp only [nilS] at e1
  obtain ⟨B, hB⟩ : ∃ B, H1 ++ [Ob.cells 0 [iV x]] = B := ⟨_, rfl⟩
  have kB : KeepD H1.length [] H1 B := ⟨by rw [← hB]; simp, fun id h1 _ => by rw [← hB, List.getElem?_append_left h1]⟩
  have rB : Rd B (.sl H1.length 0 0 1 1) ([x].map iV) := by
    rw [← hB]; exact getC_sl (getC_new H1 0 [iV x])
  have xB := x1.d kB
  obtain ⟨v2, H2, e2, x2, k2, k2'⟩ := xB.append (base := base) (bytes := 8) hb (Nat.le_trans k1 kB.1) rB (by simp; omega)
  have a1 := x1.lt
  have hK : KeepD H.length [] H H2 := ⟨by have := kB.1; omega, fun id hid _ => by
    have hne : ∀ g n, v1 ≠ .sl id g 0 n 1 := fun g n e => by
      rcases x1 with ⟨_, rfl⟩ | ⟨id', g', rfl, _, h⟩
      · cases e
      · cases e; omega
    rw [k2' id (by have := kB.1; omega) hne, kB.2 id (by omega) (by simp), k1' id hid (fun g n e => by cases e)]⟩
  obtain ⟨w3, q4, q5, q6⟩ := (hrd.ext hK.ext).slice hw (lo := some (.s (.int .i64 n))) (hi := none) (a := n) (b := l.length) rfl (by rw [hm]; rfl) hle (by omega)
  have q5 : Rd H2 w3 ((l.drop n).map iV) := by
    rw [List.take_of_length_le (by simp)] at q5
    simpa using q5
  obtain ⟨v3, H3, e3, x3, k3, k3'⟩ := x2.append (base := base) (bytes := 8) hb hK.1 q5 (by simp; omega)
  simp only [iV] at hB
  refine ⟨v3, H3, ?_, ?_, ?_⟩
  · refine callW_fn (c := s_gnomonref01_Add) hT (by simp [s_gnomonref01_Add]) ?_
    simp only [s_gnomonref01_Add, a_gnomonref01_Add,s_gnomonref01_Add_l0_b, am0,am1,am2,am3,am4,am5,am6,am7,bl,i64,reduceIte,reduceCtorEq,Nat.reduceEqDiff,Nat.reduceLT,Nat.reduceLeDiff,Nat.reduceBEq,Nat.reduceAdd,fillA,splice,Nat.reduceMul,al0,al1,al2,al3,al4,al5,al6,al7,al8,al9,al10,al11,al12,al13,al14,al15,al16,al17,al18,al19,al20,al21,al22,al23,al24,al25,al26,al27,al28,al29,al30,al31,al32,al33,al34,amY,op_eqP, h0, hh, h1', hloop, q1, e1, hB, e2, q4, e3]
    done
  · have := x3.mono (Nat.zero_le _)
    rw [addL, if_neg (by rintro (h | h) <;> contradiction), ← t1, ← t2]
    exact this
  · refine ⟨by have := hK.1; omega, fun id hid _ => ?_⟩
    have hne : ∀ g n, v2 ≠ .sl id g 0 n 1 := fun g n e => by
      rcases x2 with ⟨_, rfl⟩ | ⟨id', g', rfl, _, h⟩
      · cases e
      · cases e; omega
    rw [k3' id (by have := hK.1; omega) hne, hK.2 id hid (by simp)]
end Go.Proofs.YtlclbbieacjmfaaDoor
set_option maxRecDepth 100000
namespace Go.Proofs.YtlclbbieacjmfaaDoor
open Go.AM
theorem addL_len (l : List Int) (x : Int) : (addL l x).length ≤ l.length + 1 := by
  unfold addL
  split
  · omega
  · have h := congrArg List.length (List.takeWhile_append_dropWhile (p := fun y => decide (y < x)) (l := l))
    rw [List.length_append] at h
    simp only [List.length_append, List.length_singleton]
    omega
theorem rof_loop {CT : Nat → Option CFun} (hA : CT k_gnomonref01_Add = some (.code s_gnomonref01_Add)) (hH : CT k_gnomonref01_Has = some (.code s_gnomonref01_Has)) (base : Nat) {H0 : Heap} {v : V} {l : List Int} (hv : ∀ H, KeepD H0.length [] H0 H → Rd H v (l.map iV)) (hw : Wide1 v) (hb : base ≤ H0.length) (hl : l.length < 2 ^ 40) :
    ∀ (r : List Int) (k : Nat) (H : Heap) (w : V) (out : List Int), l.drop k = r → k ≤ l.length → KeepD H0.length [] H0 H → LiS 0 H w out → out.length + r.length < 2 ^ 40 →
    ∃ w' H', itW (evC (callW CT) itW base s_gnomonref01_Of_l0) [] H0.length (frOf 18 [(0, v), (3, w), (4, .s (.int .i64 k))]) H = some (.ext 0, frOf 18 [(0, v), (3, w'), (4, .s (.int .i64 l.length)), (8, .s (.bool false))], H') ∧ LiS 0 H' w' (r.foldl addL out) ∧ KeepD H0.length [] H0 H' := by
  intro r
  induction r with
  | nil =>
    intro k H w out hd hk hK hwl hs
    obtain rfl := drop_nil hd hk
    rw [itW_step]
    simp only [a_gnomonref01_Of,s_gnomonref01_Of_l0_b, am0,am1,am2,am3,am4,am5,am6,am7,bl,i64,reduceIte,reduceCtorEq,Nat.reduceEqDiff,Nat.reduceLT,Nat.reduceLeDiff,Nat.reduceBEq,Nat.reduceAdd,fillA,splice,Nat.reduceMul,al0,al1,al2,al3,al4,al5,al6,al7,al8,al9,al10,al11,al12,al13,al14,al15,al16,al17,al18,al19,al20,al21,al22,al23,al24,al25,al26,al27,al28,al29,al30,al31,al32,al33,al34,amY,op_eqP, iV_len (hv H hK), Int.lt_irrefl]
    exact ⟨w, _, rfl, hwl.trim_fr _ (frOf_mem (s := 3) (by decide) rfl), hK.trim (Nat.le_refl _) _⟩
  | cons y r ih =>
    intro k H w out hd hk hK hwl hs
    obtain ⟨hx, hlt, hd'⟩ := drop_cons hd
    obtain ⟨a, ha1, ha2⟩ := iV_at (hv H hK) hw hx
    have hlt' : (k : Int) < (l.length : Int) := by omega
    have hwk := wrap_pos (n := k) (by omega)
    have hHl := hK.1
    rw [List.length_cons] at hs
    obtain ⟨w1, H1, e1, x1, k1⟩ := radd_fun hA hH base y hwl (by omega) (by omega)
    have hK1 := hK.trans k1 hHl
    obtain ⟨w2, H2, e2, x2, k2⟩ := ih (k + 1) (trim H0.length (frOf 18 [(0, v), (3, w1), (4, .s (.int .i64 (k + 1 : Nat)))]) H1) w1 (addL out y) hd' (by omega) (hK1.trim (Nat.le_refl _) _) (x1.trim_fr _ (frOf_mem (s := 3) (by decide) rfl)) (by have := addL_len out y; omega)
    refine ⟨w2, H2, ?_, x2, k2⟩
    rw [itW_step]
    simp only [a_gnomonref01_Of,s_gnomonref01_Of_l0_b, am0,am1,am2,am3,am4,am5,am6,am7,bl,i64,reduceIte,reduceCtorEq,Nat.reduceEqDiff,Nat.reduceLT,Nat.reduceLeDiff,Nat.reduceBEq,Nat.reduceAdd,fillA,splice,Nat.reduceMul,al0,al1,al2,al3,al4,al5,al6,al7,al8,al9,al10,al11,al12,al13,al14,al15,al16,al17,al18,al19,al20,al21,al22,al23,al24,al25,al26,al27,al28,al29,al30,al31,al32,al33,al34,amY,op_eqP, iV_len (hv H hK), hlt', ha1, ha2, hwk, e1]
    exact e2
theorem rof_fun {CT : Nat → Option CFun} (hT : CT k_gnomonref01_Of = some (.code s_gnomonref01_Of)) (hA : CT k_gnomonref01_Add = some (.code s_gnomonref01_Add)) (hH : CT k_gnomonref01_Has = some (.code s_gnomonref01_Has)) (base : Nat) {H : Heap} {v : V} {l : List Int} (hv : Rd H v (l.map iV)) (hw : Wide1 v) (hl : l.length < 2 ^ 40) (hb : base ≤ H.length) :
    ∃ v' H', callW CT (.fn k_gnomonref01_Of [] []) [v] base H = some (v', H') ∧ LiS 0 H' v' (l.foldl addL []) ∧ KeepD H.length [] H H' := by
  obtain ⟨w', H', e, x, k⟩ := rof_loop hA hH base (H0 := H) (fun H' hk => hv.ext hk.ext) hw hb hl l 0 H nilS [] rfl (Nat.zero_le _) (KeepD.refl _ _) (LiS.nil _ _) (by simpa using hl)
  rw [cast0] at e
  simp only [nilS] at e
  refine ⟨w', H', ?_, x, k⟩
  refine callW_fn (c := s_gnomonref01_Of) hT (by simp [s_gnomonref01_Of]) ?_
  simp only [s_gnomonref01_Of, a_gnomonref01_Of,s_gnomonref01_Of_l0_b, am0,am1,am2,am3,am4,am5,am6,am7,bl,i64,reduceIte,reduceCtorEq,Nat.reduceEqDiff,Nat.reduceLT,Nat.reduceLeDiff,Nat.reduceBEq,Nat.reduceAdd,fillA,splice,Nat.reduceMul,al0,al1,al2,al3,al4,al5,al6,al7,al8,al9,al10,al11,al12,al13,al14,al15,al16,al17,al18,al19,al20,al21,al22,al23,al24,al25,al26,al27,al28,al29,al30,al31,al32,al33,al34,amY,op_eqP, e]
  done
theorem runi_loop {CT : Nat → Option CFun} (hA : CT k_gnomonref01_Add = some (.code s_gnomonref01_Add)) (hH : CT k_gnomonref01_Has = some (.code s_gnomonref01_Has)) (base : Nat) {H0 : Heap} {v : V} {l : List Int} (hv : ∀ H, KeepD H0.length [] H0 H → Rd H v (l.map iV)) (hw : Wide1 v) (hb : base ≤ H0.length) (hl : l.length < 2 ^ 40) :
    ∀ (r : List Int) (k : Nat) (H : Heap) (w : V) (out : List Int), l.drop k = r → k ≤ l.length → KeepD H0.length [] H0 H → LiS 0 H w out → out.length + r.length < 2 ^ 40 →
    ∃ w' H', itW (evC (callW CT) itW base s_gnomonref01_Union_l0) [] H0.length (frOf 19 [(0, w), (1, v), (5, .s (.int .i64 k))]) H = some (.ext 0, frOf 19 [(0, w'), (1, v), (5, .s (.int .i64 l.length)), (9, .s (.bool false))], H') ∧ LiS 0 H' w' (r.foldl addL out) ∧ KeepD H0.length [] H0 H' := by
  intro r
  induction r with
  | nil =>
    intro k H w out hd hk hK hwl hs
    obtain rfl := drop_nil hd hk
    rw [itW_step]
    simp only [a_gnomonref01_Union,s_gnomonref01_Union_l0_b, am0,am1,am2,am3,am4,am5,am6,am7,bl,i64,reduceIte,reduceCtorEq,Nat.reduceEqDiff,Nat.reduceLT,Nat.reduceLeDiff,Nat.reduceBEq,Nat.reduceAdd,fillA,splice,Nat.reduceMul,al0,al1,al2,al3,al4,al5,al6,al7,al8,al9,al10,al11,al12,al13,al14,al15,al16,al17,al18,al19,al20,al21,al22,al23,al24,al25,al26,al27,al28,al29,al30,al31,al32,al33,al34,amY,op_eqP, iV_len (hv H hK), Int.lt_irrefl]
    exact ⟨w, _, rfl, hwl.trim_fr _ (frOf_mem (s := 0) (by decide) rfl), hK.trim (Nat.le_refl _) _⟩
  | cons y r ih =>
    intro k H w out hd hk hK hwl hs
    obtain ⟨hx, hlt, hd'⟩ := drop_cons hd
    obtain ⟨a, ha1, ha2⟩ := iV_at (hv H hK) hw hx
    have hlt' : (k : Int) < (l.length : Int) := by omega
    have hwk := wrap_pos (n := k) (by omega)
    have hHl := hK.1
    rw [List.length_cons] at hs
    obtain ⟨w1, H1, e1, x1, k1⟩ := radd_fun hA hH base y hwl (by omega) (by omega)
    have hK1 := hK.trans k1 hHl
    obtain ⟨w2, H2, e2, x2, k2⟩ := ih (k + 1) (trim H0.length (frOf 19 [(0, w1), (1, v), (5, .s (.int .i64 (k + 1 : Nat)))]) H1) w1 (addL out y) hd' (by omega) (hK1.trim (Nat.le_refl _) _) (x1.trim_fr _ (frOf_mem (s := 0) (by decide) rfl)) (by have := addL_len out y; omega)
    refine ⟨w2, H2, ?_, x2, k2⟩
    rw [itW_step]
    simp only [a_gnomonref01_Union,s_gnomonref01_Union_l0_b, am0,am1,am2,am3,am4,am5,am6,am7,bl,i64,reduceIte,reduceCtorEq,Nat.reduceEqDiff,Nat.reduceLT,Nat.reduceLeDiff,Nat.reduceBEq,Nat.reduceAdd,fillA,splice,Nat.reduceMul,al0,al1,al2,al3,al4,al5,al6,al7,al8,al9,al10,al11,al12,al13,al14,al15,al16,al17,al18,al19,al20,al21,al22,al23,al24,al25,al26,al27,al28,al29,al30,al31,al32,al33,al34,amY,op_eqP, iV_len (hv H hK), hlt', ha1, ha2, hwk, e1]
    exact e2
theorem runi_fun {CT : Nat → Option CFun} (hT : CT k_gnomonref01_Union = some (.code s_gnomonref01_Union)) (hA : CT k_gnomonref01_Add = some (.code s_gnomonref01_Add)) (hH : CT k_gnomonref01_Has = some (.code s_gnomonref01_Has)) (base : Nat) {H : Heap} {a v : V} {la l : List Int} (ha : LiS 0 H a la) (hv : Rd H v (l.map iV)) (hw : Wide1 v) (hl : la.length + l.length < 2 ^ 40) (hb : base ≤ H.length) :
    ∃ v' H', callW CT (.fn k_gnomonref01_Union [] []) [a, v] base H = some (v', H') ∧ LiS 0 H' v' (l.foldl addL la) ∧ KeepD H.length [] H H' := by
  obtain ⟨w', H', e, x, k⟩ := runi_loop hA hH base (H0 := H) (fun H' hk => hv.ext hk.ext) hw hb (by omega) l 0 H a la rfl (Nat.zero_le _) (KeepD.refl _ _) ha hl
  rw [cast0] at e
  refine ⟨w', H', ?_, x, k⟩
  refine callW_fn (c := s_gnomonref01_Union) hT (by simp [s_gnomonref01_Union]) ?_
  simp only [s_gnomonref01_Union, a_gnomonref01_Union,s_gnomonref01_Union_l0_b, am0,am1,am2,am3,am4,am5,am6,am7,bl,i64,reduceIte,reduceCtorEq,Nat.reduceEqDiff,Nat.reduceLT,Nat.reduceLeDiff,Nat.reduceBEq,Nat.reduceAdd,fillA,splice,Nat.reduceMul,al0,al1,al2,al3,al4,al5,al6,al7,al8,al9,al10,al11,al12,al13,al14,al15,al16,al17,al18,al19,al20,al21,al22,al23,al24,al25,al26,al27,al28,al29,al30,al31,al32,al33,al34,amY,op_eqP, e]
  done
theorem mem_addL {l : List Int} {x y : Int} : y ∈ addL l x ↔ y ∈ l ∨ (y = x ∧ 0 ≤ x) := by
  unfold addL
  split
  · rename_i h
    constructor
    · exact .inl
    · rintro (h1 | ⟨rfl, h1⟩)
      · exact h1
      · rcases h with h | h
        · omega
        · simpa using h
  · rename_i h
    have h0 : 0 ≤ x := by omega
    have e := List.takeWhile_append_dropWhile (p := fun y => decide (y < x)) (l := l)
    simp only [List.mem_append, List.mem_singleton]
    constructor
    · rintro ((h1 | h1) | h1)
      · left; rw [← e]; exact List.mem_append_left _ h1
      · exact .inr ⟨h1, h0⟩
      · left; rw [← e]; exact List.mem_append_right _ h1
    · rintro (h1 | ⟨h1, _⟩)
      · rw [← e, List.mem_append] at h1
        rcases h1 with h1 | h1
        · exact .inl (.inl h1)
        · exact .inr h1
      · exact .inl (.inr h1)
theorem dropWhile_ge {x : Int} : ∀ {l : List Int}, l.Pairwise (· < ·) → ∀ y ∈ l.dropWhile (fun y => decide (y < x)), x ≤ y := by
  intro l
  induction l with
  | nil => intro _ y h; simp at h
  | cons z l ih =>
    intro hp y h
    rw [List.pairwise_cons] at hp
    rw [List.dropWhile_cons] at h
    split at h
    · exact ih hp.2 y h
    · rename_i hz
      simp only [decide_eq_true_eq] at hz
      rcases List.mem_cons.1 h with rfl | h
      · omega
      · have := hp.1 y h; omega
theorem mem_takeWhile_lt {x : Int} : ∀ {l : List Int}, ∀ y ∈ l.takeWhile (fun y => decide (y < x)), y < x := by
  intro l
  induction l with
  | nil => intro y h; simp at h
  | cons z l ih =>
    intro y h
    rw [List.takeWhile_cons] at h
    split at h
    · rename_i hz
      rcases List.mem_cons.1 h with rfl | h
      · simpa using hz
      · exact ih y h
    · cases h
theorem addL_lt {l : List Int} (h : l.Pairwise (· < ·)) (x : Int) : (addL l x).Pairwise (· < ·) := by
  unfold addL
  split
  · exact h
  · rename_i hx
    have hx' : x ∉ l := fun hm => hx (.inr (by simpa using hm))
    have e := List.takeWhile_append_dropWhile (p := fun y => decide (y < x)) (l := l)
    have h2 := h
    rw [← e, List.pairwise_append] at h2
    have hd : ∀ y ∈ l.dropWhile (fun y => decide (y < x)), x < y := fun y hy => by
      have h3 := dropWhile_ge h y hy
      have h4 : y ∈ l := by rw [← e]; exact List.mem_append_right _ hy
      have : y ≠ x := fun e => hx' (e ▸ h4)
      omega
    rw [List.append_assoc, List.pairwise_append]
    refine ⟨h2.1, ?_, ?_⟩
    · rw [List.singleton_append, List.pairwise_cons]
      exact ⟨hd, h2.2.1⟩
    · intro a ha b hb
      rw [List.singleton_append, List.mem_cons] at hb
      have := mem_takeWhile_lt a ha
      rcases hb with rfl | hb
      · exact this
      · have := hd b hb; omega
theorem foldL_lt : ∀ {r : List Int} {l : List Int}, l.Pairwise (· < ·) → (r.foldl addL l).Pairwise (· < ·) := by
  intro r
  induction r with
  | nil => intro l h; exact h
  | cons x r ih => intro l h; exact ih (addL_lt h x)
theorem mem_foldL : ∀ {r : List Int} {l : List Int} {y : Int}, y ∈ r.foldl addL l ↔ y ∈ l ∨ (y ∈ r ∧ 0 ≤ y) := by
  intro r
  induction r with
  | nil => intro l y; simp
  | cons x r ih =>
    intro l y
    rw [List.foldl_cons, ih, mem_addL, List.mem_cons]
    constructor
    · rintro ((h | ⟨rfl, h⟩) | ⟨h, h'⟩)
      · exact .inl h
      · exact .inr ⟨.inl rfl, h⟩
      · exact .inr ⟨.inr h, h'⟩
    · rintro (h | ⟨rfl | h, h'⟩)
      · exact .inl (.inl h)
      · exact .inl (.inr ⟨rfl, h'⟩)
      · exact .inr ⟨h, h'⟩
end Go.Proofs.YtlclbbieacjmfaaDoor
