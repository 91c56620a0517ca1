/- Texts of the proof: BitsS1, AmX, BitsF1, BitsF2, BitsF3, BitsF4, BitsF5, BitsF6, BitsF7, BitsF8. -/
import Derived.Test.YtccallbknpbggaaDoorP0
import Derived.Test.YtccallbknpbggaaDoorP1
import Derived.Test.YtccallbknpbggaaDoorP2
import Derived.KernelRfl
import Derived.Test.YtccallbknpbggaaDoorProg
import Derived.Laws.Bits64b
set_option linter.all false
set_option maxRecDepth 100000
namespace Go.Proofs.YtccallbknpbggaaDoor
open Go.AM
abbrev k_bits_Of : Nat := 11
def s_bits_Of_r0_k : List Nat := [1, 2, 3, 4, 5, 6, 7, 8, 9, 10, 11, 12, 13, 14, 15, 16, 17, 18, 19]
theorem s_bits_Of_r0_kT : killV s_bits_Of_r0_k (startV 20 [] 1) = [] := by kernel_rfl
theorem s_bits_Of_r0_kA0 : s_bits_Of_r0_k.contains 0 = false := by kernel_rfl
def s_bits_Of_r0 : List AOper := [
  ⟨some 2, (.move (.c (.s (.pointer none)))), none⟩]
theorem s_bits_Of_r0_tale (fr : List V) (H : Heap) : evTale (symAll s_bits_Of_r0 s_bits_Of_r0_k []) s_bits_Of_r0_k fr H = evTale (some (3, [], [])) s_bits_Of_r0_k fr H := tale_row (items := [.cc (.s (.pointer none))]) (by kernel_rfl) fr H
def s_bits_Of_r1t3 : List AOper := [⟨some 3, (.move (.t 8)), none⟩]
def s_bits_Of_r1p2 : List AOper := [⟨some 8, (.box (.t 7)), none⟩]
def s_bits_Of_r1t2 : List AOper := s_bits_Of_r1p2 ++ s_bits_Of_r1t3
def s_bits_Of_r1p1 : List AOper := [⟨some 7, (.build [(.s (.map none)), (.s (.int .i64 0))] [(0, 1), (1, 1)] [(0, (.t 6))]), none⟩]
def s_bits_Of_r1t1 : List AOper := s_bits_Of_r1p1 ++ s_bits_Of_r1t2
def s_bits_Of_r1p0 : List AOper := [⟨some 6, .mapNew, none⟩]
def s_bits_Of_r1 : List AOper := s_bits_Of_r1p0 ++ s_bits_Of_r1t1
theorem s_bits_Of_r1_x (call : CallF) (it : IterF) (base : Nat) (f : List V) (H : Heap) : evC call it base (.region s_bits_Of_r1 [] [6, 7, 8]) f H = thenC call it base (.region s_bits_Of_r1t1 [] [6, 7, 8]) (opsC [] s_bits_Of_r1p0 [] (evOps call base [⟨some 6, .mapNew, none⟩] f H)) := (row_op call it base s_bits_Of_r1p0 s_bits_Of_r1t1 (kc := []) (by kernel_rfl) f H).trans (by rw [row_ops]; rfl)
theorem s_bits_Of_r1p1_tale (fr : List V) (H : Heap) : evTale (symAll s_bits_Of_r1p1 [6] [7]) [6] fr H = evTale (some (8, [], [(7, (.op (.build [(.s (.map none)), (.s (.int .i64 0))] [(0, 1), (1, 1)] [(0, (.t 0))]) [(.t 6)]))])) [6] fr H := tale_row (items := [.sub 0 [] []]) (by kernel_rfl) fr H
theorem s_bits_Of_r1t1_x (call : CallF) (it : IterF) (base : Nat) (f : List V) (H : Heap) : evC call it base (.region s_bits_Of_r1t1 [] [6, 7, 8]) f H = segC call it base s_bits_Of_r1t2 [6, 7, 8] H (evTale (symAll s_bits_Of_r1p1 [6] [7]) [6] f H) (origRow call it base s_bits_Of_r1t1 [6, 7, 8] f H) := row_seg call it base s_bits_Of_r1p1 s_bits_Of_r1t2 (by kernel_rfl) f H
theorem s_bits_Of_r1t2_x (call : CallF) (it : IterF) (base : Nat) (f : List V) (H : Heap) : evC call it base (.region s_bits_Of_r1t2 [] [6, 7, 8]) f H = thenC call it base (.region s_bits_Of_r1t3 [] [6, 7, 8]) (opsC [] s_bits_Of_r1p2 [7] (evOps call base [⟨some 8, (.box (.t 7)), none⟩] f H)) := (row_op call it base s_bits_Of_r1p2 s_bits_Of_r1t3 (kc := [7]) (by kernel_rfl) f H).trans (by rw [row_ops]; rfl)
theorem s_bits_Of_r1t3_tale (fr : List V) (H : Heap) : evTale (symAll s_bits_Of_r1t3 [6, 7, 8] [3]) [6, 7, 8] fr H = evTale (some (4, [], [(3, (.t 8))])) [6, 7, 8] fr H := tale_row (items := [.tt 8]) (by kernel_rfl) fr H
theorem s_bits_Of_r1t3_x (call : CallF) (it : IterF) (base : Nat) (f : List V) (H : Heap) : evC call it base (.region s_bits_Of_r1t3 [] [6, 7, 8]) f H = segL H (evTale (symAll s_bits_Of_r1t3 [6, 7, 8] [3]) [6, 7, 8] f H) (origRow call it base s_bits_Of_r1t3 [6, 7, 8] f H) := row_last call it base _ f H
def s_bits_Of_r2 : List AOper := [
  ⟨some 9, (.move (.t 0)), none⟩,
  ⟨some 10, (.lenS .s (.t 9)), none⟩,
  ⟨some 11, (.move (.c (.s (.int .i64 0)))), none⟩]
theorem s_bits_Of_r2_tale (fr : List V) (H : Heap) : evTale (symAll s_bits_Of_r2 [0] [9, 10, 11]) [0] fr H = evTale (some (12, [], [(9, (.t 0)), (10, (.op (.lenS .s (.t 0)) [(.t 0)])), (11, (.c (.s (.int .i64 0))))])) [0] fr H := tale_row (items := [.tt 0, .sub 1 [] [], .cc (.s (.int .i64 0))]) (by kernel_rfl) fr H
def s_bits_Of_r3 : List AOper := [
  ⟨some 12, (.bin .lss (.t 11) (.t 10)), none⟩]
theorem s_bits_Of_r3_tale (fr : List V) (H : Heap) : evTale (symAll s_bits_Of_r3 [] [12]) [] fr H = evTale (some (13, [], [(12, (.op (.bin .lss (.t 0) (.t 1)) [(.t 11), (.t 10)]))])) [] fr H := tale_row (items := [.sub 0 [] []]) (by kernel_rfl) fr H
def s_bits_Of_r4 : List AOper := [
  ⟨some 13, (.indexAddr 1 (.t 9) (.t 11)), none⟩,
  ⟨some 14, (.load false 1 (.t 13)), none⟩,
  ⟨some 5, (.move (.t 14)), none⟩]
theorem s_bits_Of_r4_tale (fr : List V) (H : Heap) : evTale (symAll s_bits_Of_r4 [12, 13, 14] [5]) [12, 13, 14] fr H = evTale (some (15, [], [(5, (.op (.load false 1 (.t 0)) [(.op (.indexAddr 1 (.t 0) (.t 1)) [(.t 9), (.t 11)])]))])) [12, 13, 14] fr H := tale_row (items := [.sub 0 [0] [], .sub 0 [] [], .sub 0 [] []]) (by kernel_rfl) fr H
def s_bits_Of_r5t1 : List AOper := [⟨some 17, (.call (.c (.fn 12 [] [])) [(.t 15), (.t 16)]), none⟩]
def s_bits_Of_r5p0 : List AOper := [⟨some 15, (.move (.t 3)), none⟩, ⟨some 16, (.move (.t 5)), none⟩]
def s_bits_Of_r5 : List AOper := s_bits_Of_r5p0 ++ s_bits_Of_r5t1
theorem s_bits_Of_r5p0_tale (fr : List V) (H : Heap) : evTale (symAll s_bits_Of_r5p0 [5] [15, 16]) [5] fr H = evTale (some (17, [], [(15, (.t 3)), (16, (.t 5))])) [5] fr H := tale_row (items := [.tt 3, .tt 5]) (by kernel_rfl) fr H
theorem s_bits_Of_r5_x (call : CallF) (it : IterF) (base : Nat) (f : List V) (H : Heap) : evC call it base (.region s_bits_Of_r5 [] [5, 15, 16, 17]) f H = segC call it base s_bits_Of_r5t1 [5, 15, 16, 17] H (evTale (symAll s_bits_Of_r5p0 [5] [15, 16]) [5] f H) (origRow call it base s_bits_Of_r5 [5, 15, 16, 17] f H) := row_seg call it base s_bits_Of_r5p0 s_bits_Of_r5t1 (by kernel_rfl) f H
theorem s_bits_Of_r5t1_x (call : CallF) (it : IterF) (base : Nat) (f : List V) (H : Heap) : evC call it base (.region s_bits_Of_r5t1 [] [5, 15, 16, 17]) f H = opsC [] s_bits_Of_r5t1 [5, 15, 16, 17] (evOps call base [⟨some 17, (.call (.c (.fn 12 [] [])) [(.t 15), (.t 16)]), none⟩] f H) := row_ops call it base _ _ f H
def s_bits_Of_r6 : List AOper := [
  ⟨some 18, (.bin .add (.t 11) (.c (.s (.int .i64 1)))), none⟩,
  ⟨some 11, (.move (.t 18)), none⟩]
theorem s_bits_Of_r6_tale (fr : List V) (H : Heap) : evTale (symAll s_bits_Of_r6 [18] [11]) [18] fr H = evTale (some (19, [], [(11, (.op (.bin .add (.t 0) (.c (.s (.int .i64 1)))) [(.t 11), (.c (.s (.int .i64 1)))]))])) [18] fr H := tale_row (items := [.sub 0 [] [], .sub 0 [] []]) (by kernel_rfl) fr H
def s_bits_Of_l0_b : ACode :=
  (.seq (.regionE s_bits_Of_r3 [] [12])
  (.seq (.cond (.t 12)
  .skip
  (.exit 0))
  (.seq (.block 1
  (.seq (.regionE s_bits_Of_r4 [12, 13, 14] [5])
  (.region s_bits_Of_r5 [] [5, 15, 16, 17])))
  (.regionE s_bits_Of_r6 [18] [11]))))
def s_bits_Of_l0 : ACode := s_bits_Of_l0_b
theorem s_bits_Of_l0_ev (call : CallF) (it : IterF) (base : Nat) (fr : List V) (H : Heap) : evC call it base s_bits_Of_l0 fr H = evC call it base s_bits_Of_l0_b fr H := rfl
def s_bits_Of_r7 : List AOper := [
  ⟨some 19, (.move (.t 3)), none⟩,
  ⟨some 2, (.move (.t 19)), none⟩]
theorem s_bits_Of_r7_tale (fr : List V) (H : Heap) : evTale (symAll s_bits_Of_r7 [3, 9, 10, 11, 12, 19] [2]) [3, 9, 10, 11, 12, 19] fr H = evTale (some (20, [], [(2, (.t 3))])) [3, 9, 10, 11, 12, 19] fr H := tale_row (items := [.tt 3, .tt 3]) (by kernel_rfl) fr H
def s_bits_Of : ACFun := { ntmps := 20, results := [(.tmp 2)], body :=
  (.seq (.regionE s_bits_Of_r0 s_bits_Of_r0_k [])
  (.seq (.region s_bits_Of_r1 [] [6, 7, 8])
  (.seq (.seq (.regionE s_bits_Of_r2 [0] [9, 10, 11])
  (.block 0
  (.loop [] s_bits_Of_l0)))
  (.seq (.regionE s_bits_Of_r7 [3, 9, 10, 11, 12, 19] [2])
  .ret)))) }
abbrev k_bits_Set_Add : Nat := 12
def s_bits_Set_Add_r0_k : List Nat := [2, 3, 4, 5, 6, 7, 8, 9, 10, 11, 12, 13, 14, 15, 16, 17, 18, 19, 20, 21, 22, 23, 24, 25, 26, 27]
theorem s_bits_Set_Add_r0_kT : killV s_bits_Set_Add_r0_k (startV 28 [] 2) = [] := by kernel_rfl
theorem s_bits_Set_Add_r0_kA0 : s_bits_Set_Add_r0_k.contains 0 = false := by kernel_rfl
theorem s_bits_Set_Add_r0_kA1 : s_bits_Set_Add_r0_k.contains 1 = false := by kernel_rfl
def s_bits_Set_Add_r0 : List AOper := [
  ⟨some 4, (.move (.c (.s (.bool false)))), none⟩]
theorem s_bits_Set_Add_r0_tale (fr : List V) (H : Heap) : evTale (symAll s_bits_Set_Add_r0 s_bits_Set_Add_r0_k []) s_bits_Set_Add_r0_k fr H = evTale (some (5, [], [])) s_bits_Set_Add_r0_k fr H := tale_row (items := [.cc (.s (.bool false))]) (by kernel_rfl) fr H
def s_bits_Set_Add_r1t4 : List AOper := [⟨some 15, (.pick (.t 11) (.c (.s (.bool true))) (.t 14)), none⟩]
def s_bits_Set_Add_r1p3 : List AOper := [⟨some 14, (.call (.c (.fn 19 [] [])) [(.t 12), (.t 13)]), some (11, false)⟩]
def s_bits_Set_Add_r1t3 : List AOper := s_bits_Set_Add_r1p3 ++ s_bits_Set_Add_r1t4
def s_bits_Set_Add_r1p2 : List AOper := [⟨some 13, (.move (.t 1)), some (11, false)⟩]
def s_bits_Set_Add_r1t2 : List AOper := s_bits_Set_Add_r1p2 ++ s_bits_Set_Add_r1t3
def s_bits_Set_Add_r1p1 : List AOper := [⟨some 12, (.move (.t 0)), some (11, false)⟩]
def s_bits_Set_Add_r1t1 : List AOper := s_bits_Set_Add_r1p1 ++ s_bits_Set_Add_r1t2
def s_bits_Set_Add_r1p0 : List AOper := [⟨some 5, (.move (.t 0)), none⟩, ⟨some 6, (.eqNil .p false (.t 5)), none⟩, ⟨some 7, (.move (.t 6)), none⟩, ⟨some 8, (.move (.t 1)), some (7, false)⟩, ⟨some 9, (.bin .lss (.t 8) (.c (.s (.int .i64 0)))), some (7, false)⟩, ⟨some 10, (.pick (.t 7) (.c (.s (.bool true))) (.t 9)), none⟩, ⟨some 11, (.move (.t 10)), none⟩]
def s_bits_Set_Add_r1 : List AOper := s_bits_Set_Add_r1p0 ++ s_bits_Set_Add_r1t1
theorem s_bits_Set_Add_r1p0_tale (fr : List V) (H : Heap) : evTale (symAll s_bits_Set_Add_r1p0 [5, 6, 7, 8, 9, 10] [11]) [5, 6, 7, 8, 9, 10] fr H = evTale (some (12, [], [(11, (.pick (.op (.eqNil .p false (.t 0)) [(.t 0)]) (.c (.s (.bool true))) (.op (.bin .lss (.t 0) (.c (.s (.int .i64 0)))) [(.t 1), (.c (.s (.int .i64 0)))])))])) [5, 6, 7, 8, 9, 10] fr H := tale_row (items := [.tt 0, .sub 0 [0] [], .sub 0 [0] [], .sub 0 [2, 0] [7], .sub 0 [2] [7], .sub 0 [] [], .sub 0 [] []]) (by kernel_rfl) fr H
theorem s_bits_Set_Add_r1_x (call : CallF) (it : IterF) (base : Nat) (f : List V) (H : Heap) : evC call it base (.region s_bits_Set_Add_r1 [] [5, 6, 7, 8, 9, 10, 11, 12, 13, 14]) f H = segC call it base s_bits_Set_Add_r1t1 [5, 6, 7, 8, 9, 10, 11, 12, 13, 14] H (evTale (symAll s_bits_Set_Add_r1p0 [5, 6, 7, 8, 9, 10] [11]) [5, 6, 7, 8, 9, 10] f H) (origRow call it base s_bits_Set_Add_r1 [5, 6, 7, 8, 9, 10, 11, 12, 13, 14] f H) := row_seg call it base s_bits_Set_Add_r1p0 s_bits_Set_Add_r1t1 (by kernel_rfl) f H
theorem s_bits_Set_Add_r1t1_x (call : CallF) (it : IterF) (base : Nat) (f : List V) (H : Heap) : evC call it base (.region s_bits_Set_Add_r1t1 [] [5, 6, 7, 8, 9, 10, 11, 12, 13, 14]) f H = thenC call it base (.region s_bits_Set_Add_r1t2 [] [5, 6, 7, 8, 9, 10, 11, 12, 13, 14]) (opsC [] s_bits_Set_Add_r1p1 [] (evOps call base [⟨some 12, (.move (.t 0)), some (11, false)⟩] f H)) := (row_op call it base s_bits_Set_Add_r1p1 s_bits_Set_Add_r1t2 (kc := []) (by kernel_rfl) f H).trans (by rw [row_ops]; rfl)
theorem s_bits_Set_Add_r1t2_x (call : CallF) (it : IterF) (base : Nat) (f : List V) (H : Heap) : evC call it base (.region s_bits_Set_Add_r1t2 [] [5, 6, 7, 8, 9, 10, 11, 12, 13, 14]) f H = thenC call it base (.region s_bits_Set_Add_r1t3 [] [5, 6, 7, 8, 9, 10, 11, 12, 13, 14]) (opsC [] s_bits_Set_Add_r1p2 [] (evOps call base [⟨some 13, (.move (.t 1)), some (11, false)⟩] f H)) := (row_op call it base s_bits_Set_Add_r1p2 s_bits_Set_Add_r1t3 (kc := []) (by kernel_rfl) f H).trans (by rw [row_ops]; rfl)
theorem s_bits_Set_Add_r1t3_x (call : CallF) (it : IterF) (base : Nat) (f : List V) (H : Heap) : evC call it base (.region s_bits_Set_Add_r1t3 [] [5, 6, 7, 8, 9, 10, 11, 12, 13, 14]) f H = thenC call it base (.region s_bits_Set_Add_r1t4 [] [5, 6, 7, 8, 9, 10, 11, 12, 13, 14]) (opsC [] s_bits_Set_Add_r1p3 [12, 13] (evOps call base [⟨some 14, (.call (.c (.fn 19 [] [])) [(.t 12), (.t 13)]), some (11, false)⟩] f H)) := (row_op call it base s_bits_Set_Add_r1p3 s_bits_Set_Add_r1t4 (kc := [12, 13]) (by kernel_rfl) f H).trans (by rw [row_ops]; rfl)
theorem s_bits_Set_Add_r1t4_tale (fr : List V) (H : Heap) : evTale (symAll s_bits_Set_Add_r1t4 [5, 6, 7, 8, 9, 10, 11, 12, 13, 14] [15]) [5, 6, 7, 8, 9, 10, 11, 12, 13, 14] fr H = evTale (some (16, [], [(15, (.pick (.t 11) (.c (.s (.bool true))) (.t 14)))])) [5, 6, 7, 8, 9, 10, 11, 12, 13, 14] fr H := tale_row (items := [.sub 0 [] []]) (by kernel_rfl) fr H
theorem s_bits_Set_Add_r1t4_x (call : CallF) (it : IterF) (base : Nat) (f : List V) (H : Heap) : evC call it base (.region s_bits_Set_Add_r1t4 [] [5, 6, 7, 8, 9, 10, 11, 12, 13, 14]) f H = segL H (evTale (symAll s_bits_Set_Add_r1t4 [5, 6, 7, 8, 9, 10, 11, 12, 13, 14] [15]) [5, 6, 7, 8, 9, 10, 11, 12, 13, 14] f H) (origRow call it base s_bits_Set_Add_r1t4 [5, 6, 7, 8, 9, 10, 11, 12, 13, 14] f H) := row_last call it base _ f H
def s_bits_Set_Add_r2 : List AOper := [
  ⟨some 4, (.move (.c (.s (.bool false)))), none⟩]
theorem s_bits_Set_Add_r2_tale (fr : List V) (H : Heap) : evTale (symAll s_bits_Set_Add_r2 [0, 1, 15] [4]) [0, 1, 15] fr H = evTale (some (5, [], [(4, (.c (.s (.bool false))))])) [0, 1, 15] fr H := tale_row (items := [.cc (.s (.bool false))]) (by kernel_rfl) fr H
def s_bits_Set_Add_r3t3 : List AOper := [⟨some 27, (.call (.c (.fn 31 [] [])) [(.t 16), (.t 18), (.t 26)]), none⟩]
def s_bits_Set_Add_r3p2 : List AOper := [⟨some 23, (.move (.t 1)), none⟩, ⟨some 24, (.bin .and (.t 23) (.c (.s (.int .i64 63)))), none⟩, ⟨some 25, (.bin .shl (.c (.s (.int .u64 1))) (.t 24)), none⟩, ⟨some 26, (.bin .or (.t 22) (.t 25)), none⟩]
def s_bits_Set_Add_r3t2 : List AOper := s_bits_Set_Add_r3p2 ++ s_bits_Set_Add_r3t3
def s_bits_Set_Add_r3p1 : List AOper := [⟨some 22, (.call (.c (.fn 32 [] [])) [(.t 19), (.t 21)]), none⟩]
def s_bits_Set_Add_r3t1 : List AOper := s_bits_Set_Add_r3p1 ++ s_bits_Set_Add_r3t2
def s_bits_Set_Add_r3p0 : List AOper := [⟨some 16, (.move (.t 0)), none⟩, ⟨some 17, (.move (.t 1)), none⟩, ⟨some 18, (.bin .shr (.t 17) (.c (.s (.int .u64 6)))), none⟩, ⟨some 19, (.move (.t 0)), none⟩, ⟨some 20, (.move (.t 1)), none⟩, ⟨some 21, (.bin .shr (.t 20) (.c (.s (.int .u64 6)))), none⟩]
def s_bits_Set_Add_r3 : List AOper := s_bits_Set_Add_r3p0 ++ s_bits_Set_Add_r3t1
theorem s_bits_Set_Add_r3p0_tale (fr : List V) (H : Heap) : evTale (symAll s_bits_Set_Add_r3p0 [0, 15, 17, 20] [16, 18, 19, 21]) [0, 15, 17, 20] fr H = evTale (some (22, [], [(16, (.t 0)), (18, (.op (.bin .shr (.t 0) (.c (.s (.int .u64 6)))) [(.t 1), (.c (.s (.int .u64 6)))])), (19, (.t 0)), (21, (.op (.bin .shr (.t 0) (.c (.s (.int .u64 6)))) [(.t 1), (.c (.s (.int .u64 6)))]))])) [0, 15, 17, 20] fr H := tale_row (items := [.tt 0, .tt 1, .sub 1 [] [], .tt 0, .tt 1, .sub 1 [] []]) (by kernel_rfl) fr H
theorem s_bits_Set_Add_r3_x (call : CallF) (it : IterF) (base : Nat) (f : List V) (H : Heap) : evC call it base (.region s_bits_Set_Add_r3 [] [0, 1, 15, 16, 17, 18, 19, 20, 21, 22, 23, 24, 25, 26, 27]) f H = segC call it base s_bits_Set_Add_r3t1 [0, 1, 15, 16, 17, 18, 19, 20, 21, 22, 23, 24, 25, 26, 27] H (evTale (symAll s_bits_Set_Add_r3p0 [0, 15, 17, 20] [16, 18, 19, 21]) [0, 15, 17, 20] f H) (origRow call it base s_bits_Set_Add_r3 [0, 1, 15, 16, 17, 18, 19, 20, 21, 22, 23, 24, 25, 26, 27] f H) := row_seg call it base s_bits_Set_Add_r3p0 s_bits_Set_Add_r3t1 (by kernel_rfl) f H
theorem s_bits_Set_Add_r3t1_x (call : CallF) (it : IterF) (base : Nat) (f : List V) (H : Heap) : evC call it base (.region s_bits_Set_Add_r3t1 [] [0, 1, 15, 16, 17, 18, 19, 20, 21, 22, 23, 24, 25, 26, 27]) f H = thenC call it base (.region s_bits_Set_Add_r3t2 [] [0, 1, 15, 16, 17, 18, 19, 20, 21, 22, 23, 24, 25, 26, 27]) (opsC [] s_bits_Set_Add_r3p1 [19, 21] (evOps call base [⟨some 22, (.call (.c (.fn 32 [] [])) [(.t 19), (.t 21)]), none⟩] f H)) := (row_op call it base s_bits_Set_Add_r3p1 s_bits_Set_Add_r3t2 (kc := [19, 21]) (by kernel_rfl) f H).trans (by rw [row_ops]; rfl)
theorem s_bits_Set_Add_r3p2_tale (fr : List V) (H : Heap) : evTale (symAll s_bits_Set_Add_r3p2 [1, 22, 23, 24, 25] [26]) [1, 22, 23, 24, 25] fr H = evTale (some (27, [], [(26, (.op (.bin .or (.t 0) (.t 1)) [(.t 22), (.op (.bin .shl (.c (.s (.int .u64 1))) (.t 1)) [(.c (.s (.int .u64 1))), (.op (.bin .and (.t 0) (.c (.s (.int .i64 63)))) [(.t 1), (.c (.s (.int .i64 63)))])])]))])) [1, 22, 23, 24, 25] fr H := tale_row (items := [.tt 1, .sub 0 [1, 1] [], .sub 0 [1] [], .sub 0 [] []]) (by kernel_rfl) fr H
theorem s_bits_Set_Add_r3t2_x (call : CallF) (it : IterF) (base : Nat) (f : List V) (H : Heap) : evC call it base (.region s_bits_Set_Add_r3t2 [] [0, 1, 15, 16, 17, 18, 19, 20, 21, 22, 23, 24, 25, 26, 27]) f H = segC call it base s_bits_Set_Add_r3t3 [0, 1, 15, 16, 17, 18, 19, 20, 21, 22, 23, 24, 25, 26, 27] H (evTale (symAll s_bits_Set_Add_r3p2 [1, 22, 23, 24, 25] [26]) [1, 22, 23, 24, 25] f H) (origRow call it base s_bits_Set_Add_r3t2 [0, 1, 15, 16, 17, 18, 19, 20, 21, 22, 23, 24, 25, 26, 27] f H) := row_seg call it base s_bits_Set_Add_r3p2 s_bits_Set_Add_r3t3 (by kernel_rfl) f H
theorem s_bits_Set_Add_r3t3_x (call : CallF) (it : IterF) (base : Nat) (f : List V) (H : Heap) : evC call it base (.region s_bits_Set_Add_r3t3 [] [0, 1, 15, 16, 17, 18, 19, 20, 21, 22, 23, 24, 25, 26, 27]) f H = opsC [] s_bits_Set_Add_r3t3 [0, 1, 15, 16, 17, 18, 19, 20, 21, 22, 23, 24, 25, 26, 27] (evOps call base [⟨some 27, (.call (.c (.fn 31 [] [])) [(.t 16), (.t 18), (.t 26)]), none⟩] f H) := row_ops call it base _ _ f H
def s_bits_Set_Add_r4 : List AOper := [
  ⟨some 4, (.move (.c (.s (.bool true)))), none⟩]
theorem s_bits_Set_Add_r4_tale (fr : List V) (H : Heap) : evTale (symAll s_bits_Set_Add_r4 [] [4]) [] fr H = evTale (some (5, [], [(4, (.c (.s (.bool true))))])) [] fr H := tale_row (items := [.cc (.s (.bool true))]) (by kernel_rfl) fr H
def s_bits_Set_Add : ACFun := { ntmps := 28, results := [(.tmp 4)], body :=
  (.seq (.regionE s_bits_Set_Add_r0 s_bits_Set_Add_r0_k [])
  (.seq (.seq (.region s_bits_Set_Add_r1 [] [5, 6, 7, 8, 9, 10, 11, 12, 13, 14])
  (.cond (.t 15)
  (.seq (.regionE s_bits_Set_Add_r2 [0, 1, 15] [4])
  .ret)
  .skip))
  (.seq (.region s_bits_Set_Add_r3 [] [0, 1, 15, 16, 17, 18, 19, 20, 21, 22, 23, 24, 25, 26, 27])
  (.seq (.regionE s_bits_Set_Add_r4 [] [4])
  .ret)))) }
abbrev k_bits_Set_Same : Nat := 14
def s_bits_Set_Same_r0_k : List Nat := [2, 3, 4, 5, 6, 7, 8, 9, 10, 11, 12, 13, 14]
theorem s_bits_Set_Same_r0_kT : killV s_bits_Set_Same_r0_k (startV 15 [] 2) = [] := by kernel_rfl
theorem s_bits_Set_Same_r0_kA0 : s_bits_Set_Same_r0_k.contains 0 = false := by kernel_rfl
theorem s_bits_Set_Same_r0_kA1 : s_bits_Set_Same_r0_k.contains 1 = false := by kernel_rfl
def s_bits_Set_Same_r0 : List AOper := [
  ⟨some 4, (.move (.c (.s (.bool false)))), none⟩]
theorem s_bits_Set_Same_r0_tale (fr : List V) (H : Heap) : evTale (symAll s_bits_Set_Same_r0 s_bits_Set_Same_r0_k []) s_bits_Set_Same_r0_k fr H = evTale (some (5, [], [])) s_bits_Set_Same_r0_k fr H := tale_row (items := [.cc (.s (.bool false))]) (by kernel_rfl) fr H
def s_bits_Set_Same_r1t8 : List AOper := [⟨some 14, (.pick (.t 10) (.t 13) (.c (.s (.bool false)))), none⟩, ⟨some 4, (.move (.t 14)), none⟩]
def s_bits_Set_Same_r1p7 : List AOper := [⟨some 13, (.call (.c (.fn 25 [] [])) [(.t 11), (.t 12)]), some (10, true)⟩]
def s_bits_Set_Same_r1t7 : List AOper := s_bits_Set_Same_r1p7 ++ s_bits_Set_Same_r1t8
def s_bits_Set_Same_r1p6 : List AOper := [⟨some 12, (.move (.t 1)), some (10, true)⟩]
def s_bits_Set_Same_r1t6 : List AOper := s_bits_Set_Same_r1p6 ++ s_bits_Set_Same_r1t7
def s_bits_Set_Same_r1p5 : List AOper := [⟨some 11, (.move (.t 0)), some (10, true)⟩]
def s_bits_Set_Same_r1t5 : List AOper := s_bits_Set_Same_r1p5 ++ s_bits_Set_Same_r1t6
def s_bits_Set_Same_r1p4 : List AOper := [⟨some 9, (.bin .eql (.t 6) (.t 8)), none⟩, ⟨some 10, (.move (.t 9)), none⟩]
def s_bits_Set_Same_r1t4 : List AOper := s_bits_Set_Same_r1p4 ++ s_bits_Set_Same_r1t5
def s_bits_Set_Same_r1p3 : List AOper := [⟨some 8, (.call (.c (.fn 20 [] [])) [(.t 7)]), none⟩]
def s_bits_Set_Same_r1t3 : List AOper := s_bits_Set_Same_r1p3 ++ s_bits_Set_Same_r1t4
def s_bits_Set_Same_r1p2 : List AOper := [⟨some 7, (.move (.t 1)), none⟩]
def s_bits_Set_Same_r1t2 : List AOper := s_bits_Set_Same_r1p2 ++ s_bits_Set_Same_r1t3
def s_bits_Set_Same_r1p1 : List AOper := [⟨some 6, (.call (.c (.fn 20 [] [])) [(.t 5)]), none⟩]
def s_bits_Set_Same_r1t1 : List AOper := s_bits_Set_Same_r1p1 ++ s_bits_Set_Same_r1t2
def s_bits_Set_Same_r1p0 : List AOper := [⟨some 5, (.move (.t 0)), none⟩]
def s_bits_Set_Same_r1 : List AOper := s_bits_Set_Same_r1p0 ++ s_bits_Set_Same_r1t1
theorem s_bits_Set_Same_r1p0_tale (fr : List V) (H : Heap) : evTale (symAll s_bits_Set_Same_r1p0 [] [5]) [] fr H = evTale (some (6, [], [(5, (.t 0))])) [] fr H := tale_row (items := [.tt 0]) (by kernel_rfl) fr H
theorem s_bits_Set_Same_r1_x (call : CallF) (it : IterF) (base : Nat) (f : List V) (H : Heap) : evC call it base (.region s_bits_Set_Same_r1 [] [0, 1, 5, 6, 7, 8, 9, 10, 11, 12, 13, 14]) f H = segC call it base s_bits_Set_Same_r1t1 [0, 1, 5, 6, 7, 8, 9, 10, 11, 12, 13, 14] H (evTale (symAll s_bits_Set_Same_r1p0 [] [5]) [] f H) (origRow call it base s_bits_Set_Same_r1 [0, 1, 5, 6, 7, 8, 9, 10, 11, 12, 13, 14] f H) := row_seg call it base s_bits_Set_Same_r1p0 s_bits_Set_Same_r1t1 (by kernel_rfl) f H
theorem s_bits_Set_Same_r1t1_x (call : CallF) (it : IterF) (base : Nat) (f : List V) (H : Heap) : evC call it base (.region s_bits_Set_Same_r1t1 [] [0, 1, 5, 6, 7, 8, 9, 10, 11, 12, 13, 14]) f H = thenC call it base (.region s_bits_Set_Same_r1t2 [] [0, 1, 5, 6, 7, 8, 9, 10, 11, 12, 13, 14]) (opsC [] s_bits_Set_Same_r1p1 [5] (evOps call base [⟨some 6, (.call (.c (.fn 20 [] [])) [(.t 5)]), none⟩] f H)) := (row_op call it base s_bits_Set_Same_r1p1 s_bits_Set_Same_r1t2 (kc := [5]) (by kernel_rfl) f H).trans (by rw [row_ops]; rfl)
theorem s_bits_Set_Same_r1p2_tale (fr : List V) (H : Heap) : evTale (symAll s_bits_Set_Same_r1p2 [] [7]) [] fr H = evTale (some (8, [], [(7, (.t 1))])) [] fr H := tale_row (items := [.tt 1]) (by kernel_rfl) fr H
theorem s_bits_Set_Same_r1t2_x (call : CallF) (it : IterF) (base : Nat) (f : List V) (H : Heap) : evC call it base (.region s_bits_Set_Same_r1t2 [] [0, 1, 5, 6, 7, 8, 9, 10, 11, 12, 13, 14]) f H = segC call it base s_bits_Set_Same_r1t3 [0, 1, 5, 6, 7, 8, 9, 10, 11, 12, 13, 14] H (evTale (symAll s_bits_Set_Same_r1p2 [] [7]) [] f H) (origRow call it base s_bits_Set_Same_r1t2 [0, 1, 5, 6, 7, 8, 9, 10, 11, 12, 13, 14] f H) := row_seg call it base s_bits_Set_Same_r1p2 s_bits_Set_Same_r1t3 (by kernel_rfl) f H
theorem s_bits_Set_Same_r1t3_x (call : CallF) (it : IterF) (base : Nat) (f : List V) (H : Heap) : evC call it base (.region s_bits_Set_Same_r1t3 [] [0, 1, 5, 6, 7, 8, 9, 10, 11, 12, 13, 14]) f H = thenC call it base (.region s_bits_Set_Same_r1t4 [] [0, 1, 5, 6, 7, 8, 9, 10, 11, 12, 13, 14]) (opsC [] s_bits_Set_Same_r1p3 [7] (evOps call base [⟨some 8, (.call (.c (.fn 20 [] [])) [(.t 7)]), none⟩] f H)) := (row_op call it base s_bits_Set_Same_r1p3 s_bits_Set_Same_r1t4 (kc := [7]) (by kernel_rfl) f H).trans (by rw [row_ops]; rfl)
theorem s_bits_Set_Same_r1p4_tale (fr : List V) (H : Heap) : evTale (symAll s_bits_Set_Same_r1p4 [6, 8, 9] [10]) [6, 8, 9] fr H = evTale (some (11, [], [(10, (.op (.bin .eql (.t 0) (.t 1)) [(.t 6), (.t 8)]))])) [6, 8, 9] fr H := tale_row (items := [.sub 0 [] [], .sub 0 [] []]) (by kernel_rfl) fr H
theorem s_bits_Set_Same_r1t4_x (call : CallF) (it : IterF) (base : Nat) (f : List V) (H : Heap) : evC call it base (.region s_bits_Set_Same_r1t4 [] [0, 1, 5, 6, 7, 8, 9, 10, 11, 12, 13, 14]) f H = segC call it base s_bits_Set_Same_r1t5 [0, 1, 5, 6, 7, 8, 9, 10, 11, 12, 13, 14] H (evTale (symAll s_bits_Set_Same_r1p4 [6, 8, 9] [10]) [6, 8, 9] f H) (origRow call it base s_bits_Set_Same_r1t4 [0, 1, 5, 6, 7, 8, 9, 10, 11, 12, 13, 14] f H) := row_seg call it base s_bits_Set_Same_r1p4 s_bits_Set_Same_r1t5 (by kernel_rfl) f H
theorem s_bits_Set_Same_r1t5_x (call : CallF) (it : IterF) (base : Nat) (f : List V) (H : Heap) : evC call it base (.region s_bits_Set_Same_r1t5 [] [0, 1, 5, 6, 7, 8, 9, 10, 11, 12, 13, 14]) f H = thenC call it base (.region s_bits_Set_Same_r1t6 [] [0, 1, 5, 6, 7, 8, 9, 10, 11, 12, 13, 14]) (opsC [] s_bits_Set_Same_r1p5 [0] (evOps call base [⟨some 11, (.move (.t 0)), some (10, true)⟩] f H)) := (row_op call it base s_bits_Set_Same_r1p5 s_bits_Set_Same_r1t6 (kc := [0]) (by kernel_rfl) f H).trans (by rw [row_ops]; rfl)
theorem s_bits_Set_Same_r1t6_x (call : CallF) (it : IterF) (base : Nat) (f : List V) (H : Heap) : evC call it base (.region s_bits_Set_Same_r1t6 [] [0, 1, 5, 6, 7, 8, 9, 10, 11, 12, 13, 14]) f H = thenC call it base (.region s_bits_Set_Same_r1t7 [] [0, 1, 5, 6, 7, 8, 9, 10, 11, 12, 13, 14]) (opsC [] s_bits_Set_Same_r1p6 [1] (evOps call base [⟨some 12, (.move (.t 1)), some (10, true)⟩] f H)) := (row_op call it base s_bits_Set_Same_r1p6 s_bits_Set_Same_r1t7 (kc := [1]) (by kernel_rfl) f H).trans (by rw [row_ops]; rfl)
theorem s_bits_Set_Same_r1t7_x (call : CallF) (it : IterF) (base : Nat) (f : List V) (H : Heap) : evC call it base (.region s_bits_Set_Same_r1t7 [] [0, 1, 5, 6, 7, 8, 9, 10, 11, 12, 13, 14]) f H = thenC call it base (.region s_bits_Set_Same_r1t8 [] [0, 1, 5, 6, 7, 8, 9, 10, 11, 12, 13, 14]) (opsC [] s_bits_Set_Same_r1p7 [11, 12] (evOps call base [⟨some 13, (.call (.c (.fn 25 [] [])) [(.t 11), (.t 12)]), some (10, true)⟩] f H)) := (row_op call it base s_bits_Set_Same_r1p7 s_bits_Set_Same_r1t8 (kc := [11, 12]) (by kernel_rfl) f H).trans (by rw [row_ops]; rfl)
theorem s_bits_Set_Same_r1t8_tale (fr : List V) (H : Heap) : evTale (symAll s_bits_Set_Same_r1t8 [0, 1, 5, 6, 7, 8, 9, 10, 11, 12, 13, 14] [4]) [0, 1, 5, 6, 7, 8, 9, 10, 11, 12, 13, 14] fr H = evTale (some (15, [], [(4, (.pick (.t 10) (.t 13) (.c (.s (.bool false)))))])) [0, 1, 5, 6, 7, 8, 9, 10, 11, 12, 13, 14] fr H := tale_row (items := [.sub 0 [] [], .sub 0 [] []]) (by kernel_rfl) fr H
theorem s_bits_Set_Same_r1t8_x (call : CallF) (it : IterF) (base : Nat) (f : List V) (H : Heap) : evC call it base (.region s_bits_Set_Same_r1t8 [] [0, 1, 5, 6, 7, 8, 9, 10, 11, 12, 13, 14]) f H = segL H (evTale (symAll s_bits_Set_Same_r1t8 [0, 1, 5, 6, 7, 8, 9, 10, 11, 12, 13, 14] [4]) [0, 1, 5, 6, 7, 8, 9, 10, 11, 12, 13, 14] f H) (origRow call it base s_bits_Set_Same_r1t8 [0, 1, 5, 6, 7, 8, 9, 10, 11, 12, 13, 14] f H) := row_last call it base _ f H
def s_bits_Set_Same : ACFun := { ntmps := 15, results := [(.tmp 4)], body :=
  (.seq (.regionE s_bits_Set_Same_r0 s_bits_Set_Same_r0_k [])
  (.seq (.region s_bits_Set_Same_r1 [] [0, 1, 5, 6, 7, 8, 9, 10, 11, 12, 13, 14])
  .ret)) }
abbrev k_bits_Set_List : Nat := 16
def s_bits_Set_List_r0_k : List Nat := [1, 2, 3, 4, 5, 6, 7, 8, 9, 10, 11, 12, 13, 14, 15, 16, 17, 18, 19, 20, 21, 22, 23, 24]
theorem s_bits_Set_List_r0_kT : killV s_bits_Set_List_r0_k (startV 25 [] 1) = [] := by kernel_rfl
theorem s_bits_Set_List_r0_kA0 : s_bits_Set_List_r0_k.contains 0 = false := by kernel_rfl
def s_bits_Set_List_r0 : List AOper := [
  ⟨some 2, (.move (.c (.s (.slice none 0 0)))), none⟩]
theorem s_bits_Set_List_r0_tale (fr : List V) (H : Heap) : evTale (symAll s_bits_Set_List_r0 s_bits_Set_List_r0_k []) s_bits_Set_List_r0_k fr H = evTale (some (3, [], [])) s_bits_Set_List_r0_k fr H := tale_row (items := [.cc (.s (.slice none 0 0))]) (by kernel_rfl) fr H
def s_bits_Set_List_r1 : List AOper := [⟨some 3, (.alloc [(.s (.slice none 0 0))]), none⟩]
theorem s_bits_Set_List_r1_x (call : CallF) (it : IterF) (base : Nat) (f : List V) (H : Heap) : evC call it base (.region s_bits_Set_List_r1 [] []) f H = opsC [] s_bits_Set_List_r1 [] (evOps call base [⟨some 3, (.alloc [(.s (.slice none 0 0))]), none⟩] f H) := row_ops call it base _ _ f H
def s_bits_Set_List_r2t1 : List AOper := [⟨some 7, (.call (.c (.fn 33 [] [])) [(.t 6)]), none⟩]
def s_bits_Set_List_r2p0 : List AOper := [⟨some 6, (.move (.t 0)), none⟩]
def s_bits_Set_List_r2 : List AOper := s_bits_Set_List_r2p0 ++ s_bits_Set_List_r2t1
theorem s_bits_Set_List_r2p0_tale (fr : List V) (H : Heap) : evTale (symAll s_bits_Set_List_r2p0 [0] [6]) [0] fr H = evTale (some (7, [], [(6, (.t 0))])) [0] fr H := tale_row (items := [.tt 0]) (by kernel_rfl) fr H
theorem s_bits_Set_List_r2_x (call : CallF) (it : IterF) (base : Nat) (f : List V) (H : Heap) : evC call it base (.region s_bits_Set_List_r2 [] [0, 6]) f H = segC call it base s_bits_Set_List_r2t1 [0, 6] H (evTale (symAll s_bits_Set_List_r2p0 [0] [6]) [0] f H) (origRow call it base s_bits_Set_List_r2 [0, 6] f H) := row_seg call it base s_bits_Set_List_r2p0 s_bits_Set_List_r2t1 (by kernel_rfl) f H
theorem s_bits_Set_List_r2t1_x (call : CallF) (it : IterF) (base : Nat) (f : List V) (H : Heap) : evC call it base (.region s_bits_Set_List_r2t1 [] [0, 6]) f H = opsC [] s_bits_Set_List_r2t1 [0, 6] (evOps call base [⟨some 7, (.call (.c (.fn 33 [] [])) [(.t 6)]), none⟩] f H) := row_ops call it base _ _ f H
def s_bits_Set_List_r3 : List AOper := [
  ⟨some 4, (.move (.t 8)), none⟩]
theorem s_bits_Set_List_r3_tale (fr : List V) (H : Heap) : evTale (symAll s_bits_Set_List_r3 [7, 8] [4]) [7, 8] fr H = evTale (some (5, [], [(4, (.t 8))])) [7, 8] fr H := tale_row (items := [.tt 8]) (by kernel_rfl) fr H
def s_bits_Set_List_r4 : List AOper := [
  ⟨some 5, (.move (.t 9)), none⟩]
theorem s_bits_Set_List_r4_tale (fr : List V) (H : Heap) : evTale (symAll s_bits_Set_List_r4 [9] [5]) [9] fr H = evTale (some (6, [], [(5, (.t 9))])) [9] fr H := tale_row (items := [.tt 9]) (by kernel_rfl) fr H
def s_bits_Set_List_r5 : List AOper := [
  ⟨some 10, (.move (.t 5)), none⟩,
  ⟨some 11, (.bin .neq (.t 10) (.c (.s (.int .u64 0)))), none⟩]
theorem s_bits_Set_List_r5_tale (fr : List V) (H : Heap) : evTale (symAll s_bits_Set_List_r5 [10] [11]) [10] fr H = evTale (some (12, [], [(11, (.op (.bin .neq (.t 0) (.c (.s (.int .u64 0)))) [(.t 5), (.c (.s (.int .u64 0)))]))])) [10] fr H := tale_row (items := [.tt 5, .sub 0 [] []]) (by kernel_rfl) fr H
def s_bits_Set_List_r6t5 : List AOper := [⟨none, (.store 1 (.t 3) (.t 23)), none⟩]
def s_bits_Set_List_r6p4 : List AOper := [⟨some 23, (.append 1 8 (.t 16) (.t 22)), none⟩]
def s_bits_Set_List_r6t4 : List AOper := s_bits_Set_List_r6p4 ++ s_bits_Set_List_r6t5
def s_bits_Set_List_r6p3 : List AOper := [⟨some 22, (.buildSl 1 1 [(.s (.int .i64 0))] [(0, (.t 21))]), none⟩]
def s_bits_Set_List_r6t3 : List AOper := s_bits_Set_List_r6p3 ++ s_bits_Set_List_r6t4
def s_bits_Set_List_r6p2 : List AOper := [⟨some 21, (.bin .or (.t 18) (.t 20)), none⟩]
def s_bits_Set_List_r6t2 : List AOper := s_bits_Set_List_r6p2 ++ s_bits_Set_List_r6t3
def s_bits_Set_List_r6p1 : List AOper := [⟨some 20, (.callR (.c (.fn 34 [] [])) [(.t 19)]), none⟩]
def s_bits_Set_List_r6t1 : List AOper := s_bits_Set_List_r6p1 ++ s_bits_Set_List_r6t2
def s_bits_Set_List_r6p0 : List AOper := [⟨some 16, (.load false 1 (.t 3)), none⟩, ⟨some 17, (.move (.t 4)), none⟩, ⟨some 18, (.bin .shl (.t 17) (.c (.s (.int .u64 6)))), none⟩, ⟨some 19, (.move (.t 5)), none⟩]
def s_bits_Set_List_r6 : List AOper := s_bits_Set_List_r6p0 ++ s_bits_Set_List_r6t1
theorem s_bits_Set_List_r6p0_tale (fr : List V) (H : Heap) : evTale (symAll s_bits_Set_List_r6p0 [11, 17] [16, 18, 19]) [11, 17] fr H = evTale (some (20, [], [(16, (.op (.load false 1 (.t 0)) [(.t 3)])), (18, (.op (.bin .shl (.t 0) (.c (.s (.int .u64 6)))) [(.t 4), (.c (.s (.int .u64 6)))])), (19, (.t 5))])) [11, 17] fr H := tale_row (items := [.sub 0 [] [], .tt 4, .sub 1 [] [], .tt 5]) (by kernel_rfl) fr H
theorem s_bits_Set_List_r6_x (call : CallF) (it : IterF) (base : Nat) (f : List V) (H : Heap) : evC call it base (.region s_bits_Set_List_r6 [] [11, 16, 17, 18, 19, 20, 21, 22, 23]) f H = segC call it base s_bits_Set_List_r6t1 [11, 16, 17, 18, 19, 20, 21, 22, 23] H (evTale (symAll s_bits_Set_List_r6p0 [11, 17] [16, 18, 19]) [11, 17] f H) (origRow call it base s_bits_Set_List_r6 [11, 16, 17, 18, 19, 20, 21, 22, 23] f H) := row_seg call it base s_bits_Set_List_r6p0 s_bits_Set_List_r6t1 (by kernel_rfl) f H
theorem s_bits_Set_List_r6t1_x (call : CallF) (it : IterF) (base : Nat) (f : List V) (H : Heap) : evC call it base (.region s_bits_Set_List_r6t1 [] [11, 16, 17, 18, 19, 20, 21, 22, 23]) f H = thenC call it base (.region s_bits_Set_List_r6t2 [] [11, 16, 17, 18, 19, 20, 21, 22, 23]) (opsC [] s_bits_Set_List_r6p1 [19] (evOps call base [⟨some 20, (.callR (.c (.fn 34 [] [])) [(.t 19)]), none⟩] f H)) := (row_op call it base s_bits_Set_List_r6p1 s_bits_Set_List_r6t2 (kc := [19]) (by kernel_rfl) f H).trans (by rw [row_ops]; rfl)
theorem s_bits_Set_List_r6p2_tale (fr : List V) (H : Heap) : evTale (symAll s_bits_Set_List_r6p2 [18, 20] [21]) [18, 20] fr H = evTale (some (22, [], [(21, (.op (.bin .or (.t 0) (.t 1)) [(.t 18), (.t 20)]))])) [18, 20] fr H := tale_row (items := [.sub 0 [] []]) (by kernel_rfl) fr H
theorem s_bits_Set_List_r6t2_x (call : CallF) (it : IterF) (base : Nat) (f : List V) (H : Heap) : evC call it base (.region s_bits_Set_List_r6t2 [] [11, 16, 17, 18, 19, 20, 21, 22, 23]) f H = segC call it base s_bits_Set_List_r6t3 [11, 16, 17, 18, 19, 20, 21, 22, 23] H (evTale (symAll s_bits_Set_List_r6p2 [18, 20] [21]) [18, 20] f H) (origRow call it base s_bits_Set_List_r6t2 [11, 16, 17, 18, 19, 20, 21, 22, 23] f H) := row_seg call it base s_bits_Set_List_r6p2 s_bits_Set_List_r6t3 (by kernel_rfl) f H
theorem s_bits_Set_List_r6t3_x (call : CallF) (it : IterF) (base : Nat) (f : List V) (H : Heap) : evC call it base (.region s_bits_Set_List_r6t3 [] [11, 16, 17, 18, 19, 20, 21, 22, 23]) f H = thenC call it base (.region s_bits_Set_List_r6t4 [] [11, 16, 17, 18, 19, 20, 21, 22, 23]) (opsC [] s_bits_Set_List_r6p3 [21] (evOps call base [⟨some 22, (.buildSl 1 1 [(.s (.int .i64 0))] [(0, (.t 21))]), none⟩] f H)) := (row_op call it base s_bits_Set_List_r6p3 s_bits_Set_List_r6t4 (kc := [21]) (by kernel_rfl) f H).trans (by rw [row_ops]; rfl)
theorem s_bits_Set_List_r6t4_x (call : CallF) (it : IterF) (base : Nat) (f : List V) (H : Heap) : evC call it base (.region s_bits_Set_List_r6t4 [] [11, 16, 17, 18, 19, 20, 21, 22, 23]) f H = thenC call it base (.region s_bits_Set_List_r6t5 [] [11, 16, 17, 18, 19, 20, 21, 22, 23]) (opsC [] s_bits_Set_List_r6p4 [16, 22] (evOps call base [⟨some 23, (.append 1 8 (.t 16) (.t 22)), none⟩] f H)) := (row_op call it base s_bits_Set_List_r6p4 s_bits_Set_List_r6t5 (kc := [16, 22]) (by kernel_rfl) f H).trans (by rw [row_ops]; rfl)
theorem s_bits_Set_List_r6t5_x (call : CallF) (it : IterF) (base : Nat) (f : List V) (H : Heap) : evC call it base (.region s_bits_Set_List_r6t5 [] [11, 16, 17, 18, 19, 20, 21, 22, 23]) f H = opsC [] s_bits_Set_List_r6t5 [11, 16, 17, 18, 19, 20, 21, 22, 23] (evOps call base [⟨none, (.store 1 (.t 3) (.t 23)), none⟩] f H) := row_ops call it base _ _ f H
def s_bits_Set_List_r7 : List AOper := [
  ⟨some 12, (.move (.t 5)), none⟩,
  ⟨some 13, (.move (.t 5)), none⟩,
  ⟨some 14, (.bin .sub (.t 13) (.c (.s (.int .u64 1)))), none⟩,
  ⟨some 15, (.bin .and (.t 12) (.t 14)), none⟩,
  ⟨some 5, (.move (.t 15)), none⟩]
theorem s_bits_Set_List_r7_tale (fr : List V) (H : Heap) : evTale (symAll s_bits_Set_List_r7 [12, 13, 14, 15] [5]) [12, 13, 14, 15] fr H = evTale (some (16, [], [(5, (.op (.bin .and (.t 0) (.t 1)) [(.t 5), (.op (.bin .sub (.t 0) (.c (.s (.int .u64 1)))) [(.t 5), (.c (.s (.int .u64 1)))])]))])) [12, 13, 14, 15] fr H := tale_row (items := [.tt 5, .tt 5, .sub 0 [1] [], .sub 0 [] [], .sub 0 [] []]) (by kernel_rfl) fr H
def s_bits_Set_List_l0_b : ACode :=
  (.seq (.seq (.regionE s_bits_Set_List_r5 [10] [11])
  (.cond (.t 11)
  .skip
  (.exit 2)))
  (.seq (.block 3
  (.region s_bits_Set_List_r6 [] [11, 16, 17, 18, 19, 20, 21, 22, 23]))
  (.regionE s_bits_Set_List_r7 [12, 13, 14, 15] [5])))
def s_bits_Set_List_l0 : ACode := s_bits_Set_List_l0_b
theorem s_bits_Set_List_l0_ev (call : CallF) (it : IterF) (base : Nat) (fr : List V) (H : Heap) : evC call it base s_bits_Set_List_l0 fr H = evC call it base s_bits_Set_List_l0_b fr H := rfl
def s_bits_Set_List_a1 : ACode :=
  (.seq (.regionE s_bits_Set_List_r3 [7, 8] [4])
  (.regionE s_bits_Set_List_r4 [9] [5]))
def s_bits_Set_List_b1 : ACode :=
  (.block 1
  (.block 2
  (.loop [] s_bits_Set_List_l0)))
def s_bits_Set_List_r8 : List AOper := [
  ⟨some 24, (.load false 1 (.t 3)), none⟩,
  ⟨some 2, (.move (.t 24)), none⟩]
theorem s_bits_Set_List_r8_tale (fr : List V) (H : Heap) : evTale (symAll s_bits_Set_List_r8 [3, 7, 24] [2]) [3, 7, 24] fr H = evTale (some (25, [], [(2, (.op (.load false 1 (.t 0)) [(.t 3)]))])) [3, 7, 24] fr H := tale_row (items := [.sub 0 [] [], .sub 0 [] []]) (by kernel_rfl) fr H
def s_bits_Set_List : ACFun := { ntmps := 25, results := [(.tmp 2)], body :=
  (.seq (.regionE s_bits_Set_List_r0 s_bits_Set_List_r0_k [])
  (.seq (.region s_bits_Set_List_r1 [] [])
  (.seq (.seq (.region s_bits_Set_List_r2 [] [0, 6])
  (.block 0
  (.rangeFunc (.t 7) [8, 9] s_bits_Set_List_a1 s_bits_Set_List_b1)))
  (.seq (.regionE s_bits_Set_List_r8 [3, 7, 24] [2])
  .ret)))) }
abbrev k_bits_Set_Least : Nat := 17
def s_bits_Set_Least_r0_k : List Nat := [1, 4, 5, 6, 7, 8, 9, 10, 11, 12, 13, 14]
theorem s_bits_Set_Least_r0_k_kA0 : s_bits_Set_Least_r0_k.contains 0 = false := by kernel_rfl
theorem s_bits_Set_Least_r0_k_kA2 : s_bits_Set_Least_r0_k.contains 2 = false := by kernel_rfl
theorem s_bits_Set_Least_r0_k_kA3 : s_bits_Set_Least_r0_k.contains 3 = false := by kernel_rfl
def s_bits_Set_Least_r0t1 : List AOper := [⟨some 3, (.alloc [(.s (.bool false))]), none⟩]
def s_bits_Set_Least_r0p0 : List AOper := [⟨some 2, (.alloc [(.s (.int .i64 0))]), none⟩]
def s_bits_Set_Least_r0 : List AOper := s_bits_Set_Least_r0p0 ++ s_bits_Set_Least_r0t1
theorem s_bits_Set_Least_r0_x (call : CallF) (it : IterF) (base : Nat) (f : List V) (H : Heap) : evC call it base (.region s_bits_Set_Least_r0 [] s_bits_Set_Least_r0_k) f H = thenC call it base (.region s_bits_Set_Least_r0t1 [] s_bits_Set_Least_r0_k) (opsC [] s_bits_Set_Least_r0p0 [1, 3, 4, 5, 6, 7, 8, 9, 10, 11, 12, 13, 14] (evOps call base [⟨some 2, (.alloc [(.s (.int .i64 0))]), none⟩] f H)) := (row_op call it base s_bits_Set_Least_r0p0 s_bits_Set_Least_r0t1 (kc := [1, 3, 4, 5, 6, 7, 8, 9, 10, 11, 12, 13, 14]) (by kernel_rfl) f H).trans (by rw [row_ops]; rfl)
theorem s_bits_Set_Least_r0t1_x (call : CallF) (it : IterF) (base : Nat) (f : List V) (H : Heap) : evC call it base (.region s_bits_Set_Least_r0t1 [] s_bits_Set_Least_r0_k) f H = opsC [] s_bits_Set_Least_r0t1 s_bits_Set_Least_r0_k (evOps call base [⟨some 3, (.alloc [(.s (.bool false))]), none⟩] f H) := row_ops call it base _ _ f H
def s_bits_Set_Least_r1t1 : List AOper := [⟨some 7, (.call (.c (.fn 33 [] [])) [(.t 6)]), none⟩]
def s_bits_Set_Least_r1p0 : List AOper := [⟨some 6, (.move (.t 0)), none⟩]
def s_bits_Set_Least_r1 : List AOper := s_bits_Set_Least_r1p0 ++ s_bits_Set_Least_r1t1
theorem s_bits_Set_Least_r1p0_tale (fr : List V) (H : Heap) : evTale (symAll s_bits_Set_Least_r1p0 [0] [6]) [0] fr H = evTale (some (7, [], [(6, (.t 0))])) [0] fr H := tale_row (items := [.tt 0]) (by kernel_rfl) fr H
theorem s_bits_Set_Least_r1_x (call : CallF) (it : IterF) (base : Nat) (f : List V) (H : Heap) : evC call it base (.region s_bits_Set_Least_r1 [] [0, 6]) f H = segC call it base s_bits_Set_Least_r1t1 [0, 6] H (evTale (symAll s_bits_Set_Least_r1p0 [0] [6]) [0] f H) (origRow call it base s_bits_Set_Least_r1 [0, 6] f H) := row_seg call it base s_bits_Set_Least_r1p0 s_bits_Set_Least_r1t1 (by kernel_rfl) f H
theorem s_bits_Set_Least_r1t1_x (call : CallF) (it : IterF) (base : Nat) (f : List V) (H : Heap) : evC call it base (.region s_bits_Set_Least_r1t1 [] [0, 6]) f H = opsC [] s_bits_Set_Least_r1t1 [0, 6] (evOps call base [⟨some 7, (.call (.c (.fn 33 [] [])) [(.t 6)]), none⟩] f H) := row_ops call it base _ _ f H
def s_bits_Set_Least_r2 : List AOper := [
  ⟨some 4, (.move (.t 8)), none⟩]
theorem s_bits_Set_Least_r2_tale (fr : List V) (H : Heap) : evTale (symAll s_bits_Set_Least_r2 [7, 8] [4]) [7, 8] fr H = evTale (some (5, [], [(4, (.t 8))])) [7, 8] fr H := tale_row (items := [.tt 8]) (by kernel_rfl) fr H
def s_bits_Set_Least_r3 : List AOper := [
  ⟨some 5, (.move (.t 9)), none⟩]
theorem s_bits_Set_Least_r3_tale (fr : List V) (H : Heap) : evTale (symAll s_bits_Set_Least_r3 [9] [5]) [9] fr H = evTale (some (6, [], [(5, (.t 9))])) [9] fr H := tale_row (items := [.tt 9]) (by kernel_rfl) fr H
def s_bits_Set_Least_r4t4 : List AOper := [⟨none, (.store 1 (.t 3) (.c (.s (.bool true)))), none⟩]
def s_bits_Set_Least_r4p3 : List AOper := [⟨none, (.store 1 (.t 2) (.t 14)), none⟩]
def s_bits_Set_Least_r4t3 : List AOper := s_bits_Set_Least_r4p3 ++ s_bits_Set_Least_r4t4
def s_bits_Set_Least_r4p2 : List AOper := [⟨some 14, (.bin .or (.t 11) (.t 13)), none⟩]
def s_bits_Set_Least_r4t2 : List AOper := s_bits_Set_Least_r4p2 ++ s_bits_Set_Least_r4t3
def s_bits_Set_Least_r4p1 : List AOper := [⟨some 13, (.call (.c (.fn 34 [] [])) [(.t 12)]), none⟩]
def s_bits_Set_Least_r4t1 : List AOper := s_bits_Set_Least_r4p1 ++ s_bits_Set_Least_r4t2
def s_bits_Set_Least_r4p0 : List AOper := [⟨some 10, (.move (.t 4)), none⟩, ⟨some 11, (.bin .shl (.t 10) (.c (.s (.int .u64 6)))), none⟩, ⟨some 12, (.move (.t 5)), none⟩]
def s_bits_Set_Least_r4 : List AOper := s_bits_Set_Least_r4p0 ++ s_bits_Set_Least_r4t1
theorem s_bits_Set_Least_r4p0_tale (fr : List V) (H : Heap) : evTale (symAll s_bits_Set_Least_r4p0 [4, 5, 10] [11, 12]) [4, 5, 10] fr H = evTale (some (13, [], [(11, (.op (.bin .shl (.t 0) (.c (.s (.int .u64 6)))) [(.t 4), (.c (.s (.int .u64 6)))])), (12, (.t 5))])) [4, 5, 10] fr H := tale_row (items := [.tt 4, .sub 0 [] [], .tt 5]) (by kernel_rfl) fr H
theorem s_bits_Set_Least_r4_x (call : CallF) (it : IterF) (base : Nat) (f : List V) (H : Heap) : evC call it base (.region s_bits_Set_Least_r4 [] [2, 3, 4, 5, 10, 11, 12, 13, 14]) f H = segC call it base s_bits_Set_Least_r4t1 [2, 3, 4, 5, 10, 11, 12, 13, 14] H (evTale (symAll s_bits_Set_Least_r4p0 [4, 5, 10] [11, 12]) [4, 5, 10] f H) (origRow call it base s_bits_Set_Least_r4 [2, 3, 4, 5, 10, 11, 12, 13, 14] f H) := row_seg call it base s_bits_Set_Least_r4p0 s_bits_Set_Least_r4t1 (by kernel_rfl) f H
theorem s_bits_Set_Least_r4t1_x (call : CallF) (it : IterF) (base : Nat) (f : List V) (H : Heap) : evC call it base (.region s_bits_Set_Least_r4t1 [] [2, 3, 4, 5, 10, 11, 12, 13, 14]) f H = thenC call it base (.region s_bits_Set_Least_r4t2 [] [2, 3, 4, 5, 10, 11, 12, 13, 14]) (opsC [] s_bits_Set_Least_r4p1 [12] (evOps call base [⟨some 13, (.call (.c (.fn 34 [] [])) [(.t 12)]), none⟩] f H)) := (row_op call it base s_bits_Set_Least_r4p1 s_bits_Set_Least_r4t2 (kc := [12]) (by kernel_rfl) f H).trans (by rw [row_ops]; rfl)
theorem s_bits_Set_Least_r4p2_tale (fr : List V) (H : Heap) : evTale (symAll s_bits_Set_Least_r4p2 [11, 13] [14]) [11, 13] fr H = evTale (some (15, [], [(14, (.op (.bin .or (.t 0) (.t 1)) [(.t 11), (.t 13)]))])) [11, 13] fr H := tale_row (items := [.sub 0 [] []]) (by kernel_rfl) fr H
theorem s_bits_Set_Least_r4t2_x (call : CallF) (it : IterF) (base : Nat) (f : List V) (H : Heap) : evC call it base (.region s_bits_Set_Least_r4t2 [] [2, 3, 4, 5, 10, 11, 12, 13, 14]) f H = segC call it base s_bits_Set_Least_r4t3 [2, 3, 4, 5, 10, 11, 12, 13, 14] H (evTale (symAll s_bits_Set_Least_r4p2 [11, 13] [14]) [11, 13] f H) (origRow call it base s_bits_Set_Least_r4t2 [2, 3, 4, 5, 10, 11, 12, 13, 14] f H) := row_seg call it base s_bits_Set_Least_r4p2 s_bits_Set_Least_r4t3 (by kernel_rfl) f H
theorem s_bits_Set_Least_r4t3_x (call : CallF) (it : IterF) (base : Nat) (f : List V) (H : Heap) : evC call it base (.region s_bits_Set_Least_r4t3 [] [2, 3, 4, 5, 10, 11, 12, 13, 14]) f H = thenC call it base (.region s_bits_Set_Least_r4t4 [] [2, 3, 4, 5, 10, 11, 12, 13, 14]) (opsC [] s_bits_Set_Least_r4p3 [2, 14] (evOps call base [⟨none, (.store 1 (.t 2) (.t 14)), none⟩] f H)) := (row_op call it base s_bits_Set_Least_r4p3 s_bits_Set_Least_r4t4 (kc := [2, 14]) (by kernel_rfl) f H).trans (by rw [row_ops]; rfl)
theorem s_bits_Set_Least_r4t4_x (call : CallF) (it : IterF) (base : Nat) (f : List V) (H : Heap) : evC call it base (.region s_bits_Set_Least_r4t4 [] [2, 3, 4, 5, 10, 11, 12, 13, 14]) f H = opsC [] s_bits_Set_Least_r4t4 [2, 3, 4, 5, 10, 11, 12, 13, 14] (evOps call base [⟨none, (.store 1 (.t 3) (.c (.s (.bool true)))), none⟩] f H) := row_ops call it base _ _ f H
def s_bits_Set_Least_a0 : ACode :=
  (.seq (.regionE s_bits_Set_Least_r2 [7, 8] [4])
  (.regionE s_bits_Set_Least_r3 [9] [5]))
def s_bits_Set_Least_b0 : ACode :=
  (.block 1
  (.seq (.region s_bits_Set_Least_r4 [] [2, 3, 4, 5, 10, 11, 12, 13, 14])
  .ret))
def s_bits_Set_Least_r5t1 : List AOper := [⟨none, (.store 1 (.t 3) (.c (.s (.bool false)))), none⟩]
def s_bits_Set_Least_r5p0 : List AOper := [⟨none, (.store 1 (.t 2) (.c (.s (.int .i64 0)))), none⟩]
def s_bits_Set_Least_r5 : List AOper := s_bits_Set_Least_r5p0 ++ s_bits_Set_Least_r5t1
theorem s_bits_Set_Least_r5_x (call : CallF) (it : IterF) (base : Nat) (f : List V) (H : Heap) : evC call it base (.region s_bits_Set_Least_r5 [] [7]) f H = thenC call it base (.region s_bits_Set_Least_r5t1 [] [7]) (opsC [] s_bits_Set_Least_r5p0 [7] (evOps call base [⟨none, (.store 1 (.t 2) (.c (.s (.int .i64 0)))), none⟩] f H)) := (row_op call it base s_bits_Set_Least_r5p0 s_bits_Set_Least_r5t1 (kc := [7]) (by kernel_rfl) f H).trans (by rw [row_ops]; rfl)
theorem s_bits_Set_Least_r5t1_x (call : CallF) (it : IterF) (base : Nat) (f : List V) (H : Heap) : evC call it base (.region s_bits_Set_Least_r5t1 [] [7]) f H = opsC [] s_bits_Set_Least_r5t1 [7] (evOps call base [⟨none, (.store 1 (.t 3) (.c (.s (.bool false)))), none⟩] f H) := row_ops call it base _ _ f H
def s_bits_Set_Least : ACFun := { ntmps := 15, results := [(.cell 2 false 1), (.cell 3 false 1)], body :=
  (.seq (.region s_bits_Set_Least_r0 [] s_bits_Set_Least_r0_k)
  (.seq (.seq (.region s_bits_Set_Least_r1 [] [0, 6])
  (.block 0
  (.rangeFunc (.t 7) [8, 9] s_bits_Set_Least_a0 s_bits_Set_Least_b0)))
  (.seq (.region s_bits_Set_Least_r5 [] [7])
  .ret))) }
theorem s_bits_Set_Least_first : firstOk (List.range' 1 (s_bits_Set_Least.ntmps - 1)) s_bits_Set_Least.body = true := by kernel_rfl
abbrev k_bits_Set_Drop : Nat := 18
def s_bits_Set_Drop_r0_k : List Nat := [2, 3, 4, 5, 6, 7, 8, 9, 10, 11, 12, 13, 14, 15, 16, 17, 18, 19, 20]
theorem s_bits_Set_Drop_r0_kT : killV s_bits_Set_Drop_r0_k (startV 21 [] 2) = [] := by kernel_rfl
theorem s_bits_Set_Drop_r0_kA0 : s_bits_Set_Drop_r0_k.contains 0 = false := by kernel_rfl
theorem s_bits_Set_Drop_r0_kA1 : s_bits_Set_Drop_r0_k.contains 1 = false := by kernel_rfl
def s_bits_Set_Drop_r0 : List AOper := [
  ⟨some 4, (.move (.c (.s (.bool false)))), none⟩]
theorem s_bits_Set_Drop_r0_tale (fr : List V) (H : Heap) : evTale (symAll s_bits_Set_Drop_r0 s_bits_Set_Drop_r0_k []) s_bits_Set_Drop_r0_k fr H = evTale (some (5, [], [])) s_bits_Set_Drop_r0_k fr H := tale_row (items := [.cc (.s (.bool false))]) (by kernel_rfl) fr H
def s_bits_Set_Drop_r1t2 : List AOper := [⟨some 8, (.un .not (.t 7)), none⟩]
def s_bits_Set_Drop_r1p1 : List AOper := [⟨some 7, (.call (.c (.fn 19 [] [])) [(.t 5), (.t 6)]), none⟩]
def s_bits_Set_Drop_r1t1 : List AOper := s_bits_Set_Drop_r1p1 ++ s_bits_Set_Drop_r1t2
def s_bits_Set_Drop_r1p0 : List AOper := [⟨some 5, (.move (.t 0)), none⟩, ⟨some 6, (.move (.t 1)), none⟩]
def s_bits_Set_Drop_r1 : List AOper := s_bits_Set_Drop_r1p0 ++ s_bits_Set_Drop_r1t1
theorem s_bits_Set_Drop_r1p0_tale (fr : List V) (H : Heap) : evTale (symAll s_bits_Set_Drop_r1p0 [] [5, 6]) [] fr H = evTale (some (7, [], [(5, (.t 0)), (6, (.t 1))])) [] fr H := tale_row (items := [.tt 0, .tt 1]) (by kernel_rfl) fr H
theorem s_bits_Set_Drop_r1_x (call : CallF) (it : IterF) (base : Nat) (f : List V) (H : Heap) : evC call it base (.region s_bits_Set_Drop_r1 [] [5, 6, 7]) f H = segC call it base s_bits_Set_Drop_r1t1 [5, 6, 7] H (evTale (symAll s_bits_Set_Drop_r1p0 [] [5, 6]) [] f H) (origRow call it base s_bits_Set_Drop_r1 [5, 6, 7] f H) := row_seg call it base s_bits_Set_Drop_r1p0 s_bits_Set_Drop_r1t1 (by kernel_rfl) f H
theorem s_bits_Set_Drop_r1t1_x (call : CallF) (it : IterF) (base : Nat) (f : List V) (H : Heap) : evC call it base (.region s_bits_Set_Drop_r1t1 [] [5, 6, 7]) f H = thenC call it base (.region s_bits_Set_Drop_r1t2 [] [5, 6, 7]) (opsC [] s_bits_Set_Drop_r1p1 [5, 6] (evOps call base [⟨some 7, (.call (.c (.fn 19 [] [])) [(.t 5), (.t 6)]), none⟩] f H)) := (row_op call it base s_bits_Set_Drop_r1p1 s_bits_Set_Drop_r1t2 (kc := [5, 6]) (by kernel_rfl) f H).trans (by rw [row_ops]; rfl)
theorem s_bits_Set_Drop_r1t2_tale (fr : List V) (H : Heap) : evTale (symAll s_bits_Set_Drop_r1t2 [5, 6, 7] [8]) [5, 6, 7] fr H = evTale (some (9, [], [(8, (.op (.un .not (.t 0)) [(.t 7)]))])) [5, 6, 7] fr H := tale_row (items := [.sub 0 [] []]) (by kernel_rfl) fr H
theorem s_bits_Set_Drop_r1t2_x (call : CallF) (it : IterF) (base : Nat) (f : List V) (H : Heap) : evC call it base (.region s_bits_Set_Drop_r1t2 [] [5, 6, 7]) f H = segL H (evTale (symAll s_bits_Set_Drop_r1t2 [5, 6, 7] [8]) [5, 6, 7] f H) (origRow call it base s_bits_Set_Drop_r1t2 [5, 6, 7] f H) := row_last call it base _ f H
def s_bits_Set_Drop_r2 : List AOper := [
  ⟨some 4, (.move (.c (.s (.bool false)))), none⟩]
theorem s_bits_Set_Drop_r2_tale (fr : List V) (H : Heap) : evTale (symAll s_bits_Set_Drop_r2 [0, 1, 8] [4]) [0, 1, 8] fr H = evTale (some (5, [], [(4, (.c (.s (.bool false))))])) [0, 1, 8] fr H := tale_row (items := [.cc (.s (.bool false))]) (by kernel_rfl) fr H
def s_bits_Set_Drop_r3t3 : List AOper := [⟨some 20, (.call (.c (.fn 31 [] [])) [(.t 9), (.t 11), (.t 19)]), none⟩]
def s_bits_Set_Drop_r3p2 : List AOper := [⟨some 16, (.move (.t 1)), none⟩, ⟨some 17, (.bin .and (.t 16) (.c (.s (.int .i64 63)))), none⟩, ⟨some 18, (.bin .shl (.c (.s (.int .u64 1))) (.t 17)), none⟩, ⟨some 19, (.bin .andNot (.t 15) (.t 18)), none⟩]
def s_bits_Set_Drop_r3t2 : List AOper := s_bits_Set_Drop_r3p2 ++ s_bits_Set_Drop_r3t3
def s_bits_Set_Drop_r3p1 : List AOper := [⟨some 15, (.call (.c (.fn 32 [] [])) [(.t 12), (.t 14)]), none⟩]
def s_bits_Set_Drop_r3t1 : List AOper := s_bits_Set_Drop_r3p1 ++ s_bits_Set_Drop_r3t2
def s_bits_Set_Drop_r3p0 : List AOper := [⟨some 9, (.move (.t 0)), none⟩, ⟨some 10, (.move (.t 1)), none⟩, ⟨some 11, (.bin .shr (.t 10) (.c (.s (.int .u64 6)))), none⟩, ⟨some 12, (.move (.t 0)), none⟩, ⟨some 13, (.move (.t 1)), none⟩, ⟨some 14, (.bin .shr (.t 13) (.c (.s (.int .u64 6)))), none⟩]
def s_bits_Set_Drop_r3 : List AOper := s_bits_Set_Drop_r3p0 ++ s_bits_Set_Drop_r3t1
theorem s_bits_Set_Drop_r3p0_tale (fr : List V) (H : Heap) : evTale (symAll s_bits_Set_Drop_r3p0 [0, 8, 10, 13] [9, 11, 12, 14]) [0, 8, 10, 13] fr H = evTale (some (15, [], [(9, (.t 0)), (11, (.op (.bin .shr (.t 0) (.c (.s (.int .u64 6)))) [(.t 1), (.c (.s (.int .u64 6)))])), (12, (.t 0)), (14, (.op (.bin .shr (.t 0) (.c (.s (.int .u64 6)))) [(.t 1), (.c (.s (.int .u64 6)))]))])) [0, 8, 10, 13] fr H := tale_row (items := [.tt 0, .tt 1, .sub 1 [] [], .tt 0, .tt 1, .sub 1 [] []]) (by kernel_rfl) fr H
theorem s_bits_Set_Drop_r3_x (call : CallF) (it : IterF) (base : Nat) (f : List V) (H : Heap) : evC call it base (.region s_bits_Set_Drop_r3 [] [0, 1, 8, 9, 10, 11, 12, 13, 14, 15, 16, 17, 18, 19, 20]) f H = segC call it base s_bits_Set_Drop_r3t1 [0, 1, 8, 9, 10, 11, 12, 13, 14, 15, 16, 17, 18, 19, 20] H (evTale (symAll s_bits_Set_Drop_r3p0 [0, 8, 10, 13] [9, 11, 12, 14]) [0, 8, 10, 13] f H) (origRow call it base s_bits_Set_Drop_r3 [0, 1, 8, 9, 10, 11, 12, 13, 14, 15, 16, 17, 18, 19, 20] f H) := row_seg call it base s_bits_Set_Drop_r3p0 s_bits_Set_Drop_r3t1 (by kernel_rfl) f H
theorem s_bits_Set_Drop_r3t1_x (call : CallF) (it : IterF) (base : Nat) (f : List V) (H : Heap) : evC call it base (.region s_bits_Set_Drop_r3t1 [] [0, 1, 8, 9, 10, 11, 12, 13, 14, 15, 16, 17, 18, 19, 20]) f H = thenC call it base (.region s_bits_Set_Drop_r3t2 [] [0, 1, 8, 9, 10, 11, 12, 13, 14, 15, 16, 17, 18, 19, 20]) (opsC [] s_bits_Set_Drop_r3p1 [12, 14] (evOps call base [⟨some 15, (.call (.c (.fn 32 [] [])) [(.t 12), (.t 14)]), none⟩] f H)) := (row_op call it base s_bits_Set_Drop_r3p1 s_bits_Set_Drop_r3t2 (kc := [12, 14]) (by kernel_rfl) f H).trans (by rw [row_ops]; rfl)
theorem s_bits_Set_Drop_r3p2_tale (fr : List V) (H : Heap) : evTale (symAll s_bits_Set_Drop_r3p2 [1, 15, 16, 17, 18] [19]) [1, 15, 16, 17, 18] fr H = evTale (some (20, [], [(19, (.op (.bin .andNot (.t 0) (.t 1)) [(.t 15), (.op (.bin .shl (.c (.s (.int .u64 1))) (.t 1)) [(.c (.s (.int .u64 1))), (.op (.bin .and (.t 0) (.c (.s (.int .i64 63)))) [(.t 1), (.c (.s (.int .i64 63)))])])]))])) [1, 15, 16, 17, 18] fr H := tale_row (items := [.tt 1, .sub 0 [1, 1] [], .sub 0 [1] [], .sub 0 [] []]) (by kernel_rfl) fr H
theorem s_bits_Set_Drop_r3t2_x (call : CallF) (it : IterF) (base : Nat) (f : List V) (H : Heap) : evC call it base (.region s_bits_Set_Drop_r3t2 [] [0, 1, 8, 9, 10, 11, 12, 13, 14, 15, 16, 17, 18, 19, 20]) f H = segC call it base s_bits_Set_Drop_r3t3 [0, 1, 8, 9, 10, 11, 12, 13, 14, 15, 16, 17, 18, 19, 20] H (evTale (symAll s_bits_Set_Drop_r3p2 [1, 15, 16, 17, 18] [19]) [1, 15, 16, 17, 18] f H) (origRow call it base s_bits_Set_Drop_r3t2 [0, 1, 8, 9, 10, 11, 12, 13, 14, 15, 16, 17, 18, 19, 20] f H) := row_seg call it base s_bits_Set_Drop_r3p2 s_bits_Set_Drop_r3t3 (by kernel_rfl) f H
theorem s_bits_Set_Drop_r3t3_x (call : CallF) (it : IterF) (base : Nat) (f : List V) (H : Heap) : evC call it base (.region s_bits_Set_Drop_r3t3 [] [0, 1, 8, 9, 10, 11, 12, 13, 14, 15, 16, 17, 18, 19, 20]) f H = opsC [] s_bits_Set_Drop_r3t3 [0, 1, 8, 9, 10, 11, 12, 13, 14, 15, 16, 17, 18, 19, 20] (evOps call base [⟨some 20, (.call (.c (.fn 31 [] [])) [(.t 9), (.t 11), (.t 19)]), none⟩] f H) := row_ops call it base _ _ f H
def s_bits_Set_Drop_r4 : List AOper := [
  ⟨some 4, (.move (.c (.s (.bool true)))), none⟩]
theorem s_bits_Set_Drop_r4_tale (fr : List V) (H : Heap) : evTale (symAll s_bits_Set_Drop_r4 [] [4]) [] fr H = evTale (some (5, [], [(4, (.c (.s (.bool true))))])) [] fr H := tale_row (items := [.cc (.s (.bool true))]) (by kernel_rfl) fr H
def s_bits_Set_Drop : ACFun := { ntmps := 21, results := [(.tmp 4)], body :=
  (.seq (.regionE s_bits_Set_Drop_r0 s_bits_Set_Drop_r0_k [])
  (.seq (.seq (.region s_bits_Set_Drop_r1 [] [5, 6, 7])
  (.cond (.t 8)
  (.seq (.regionE s_bits_Set_Drop_r2 [0, 1, 8] [4])
  .ret)
  .skip))
  (.seq (.region s_bits_Set_Drop_r3 [] [0, 1, 8, 9, 10, 11, 12, 13, 14, 15, 16, 17, 18, 19, 20])
  (.seq (.regionE s_bits_Set_Drop_r4 [] [4])
  .ret)))) }
abbrev k_bits_Set_Has : Nat := 19
def s_bits_Set_Has_r0_k : List Nat := [2, 3, 4, 5, 6, 7, 8, 9, 10, 11, 12, 13, 14, 15, 16, 17]
theorem s_bits_Set_Has_r0_kT : killV s_bits_Set_Has_r0_k (startV 18 [] 2) = [] := by kernel_rfl
theorem s_bits_Set_Has_r0_kA0 : s_bits_Set_Has_r0_k.contains 0 = false := by kernel_rfl
theorem s_bits_Set_Has_r0_kA1 : s_bits_Set_Has_r0_k.contains 1 = false := by kernel_rfl
def s_bits_Set_Has_r0 : List AOper := [
  ⟨some 4, (.move (.c (.s (.bool false)))), none⟩]
theorem s_bits_Set_Has_r0_tale (fr : List V) (H : Heap) : evTale (symAll s_bits_Set_Has_r0 s_bits_Set_Has_r0_k []) s_bits_Set_Has_r0_k fr H = evTale (some (5, [], [])) s_bits_Set_Has_r0_k fr H := tale_row (items := [.cc (.s (.bool false))]) (by kernel_rfl) fr H
def s_bits_Set_Has_r1t5 : List AOper := [⟨some 12, (.move (.t 1)), some (7, true)⟩, ⟨some 13, (.bin .and (.t 12) (.c (.s (.int .i64 63)))), some (7, true)⟩, ⟨some 14, (.bin .shr (.t 11) (.t 13)), some (7, true)⟩, ⟨some 15, (.bin .and (.t 14) (.c (.s (.int .u64 1)))), some (7, true)⟩, ⟨some 16, (.bin .eql (.t 15) (.c (.s (.int .u64 1)))), some (7, true)⟩, ⟨some 17, (.pick (.t 7) (.t 16) (.c (.s (.bool false)))), none⟩, ⟨some 4, (.move (.t 17)), none⟩]
def s_bits_Set_Has_r1p4 : List AOper := [⟨some 11, (.call (.c (.fn 32 [] [])) [(.t 8), (.t 10)]), some (7, true)⟩]
def s_bits_Set_Has_r1t4 : List AOper := s_bits_Set_Has_r1p4 ++ s_bits_Set_Has_r1t5
def s_bits_Set_Has_r1p3 : List AOper := [⟨some 10, (.bin .shr (.t 9) (.c (.s (.int .u64 6)))), some (7, true)⟩]
def s_bits_Set_Has_r1t3 : List AOper := s_bits_Set_Has_r1p3 ++ s_bits_Set_Has_r1t4
def s_bits_Set_Has_r1p2 : List AOper := [⟨some 9, (.move (.t 1)), some (7, true)⟩]
def s_bits_Set_Has_r1t2 : List AOper := s_bits_Set_Has_r1p2 ++ s_bits_Set_Has_r1t3
def s_bits_Set_Has_r1p1 : List AOper := [⟨some 8, (.move (.t 0)), some (7, true)⟩]
def s_bits_Set_Has_r1t1 : List AOper := s_bits_Set_Has_r1p1 ++ s_bits_Set_Has_r1t2
def s_bits_Set_Has_r1p0 : List AOper := [⟨some 5, (.move (.t 1)), none⟩, ⟨some 6, (.bin .geq (.t 5) (.c (.s (.int .i64 0)))), none⟩, ⟨some 7, (.move (.t 6)), none⟩]
def s_bits_Set_Has_r1 : List AOper := s_bits_Set_Has_r1p0 ++ s_bits_Set_Has_r1t1
theorem s_bits_Set_Has_r1p0_tale (fr : List V) (H : Heap) : evTale (symAll s_bits_Set_Has_r1p0 [5, 6] [7]) [5, 6] fr H = evTale (some (8, [], [(7, (.op (.bin .geq (.t 0) (.c (.s (.int .i64 0)))) [(.t 1), (.c (.s (.int .i64 0)))]))])) [5, 6] fr H := tale_row (items := [.tt 1, .sub 0 [] [], .sub 0 [] []]) (by kernel_rfl) fr H
theorem s_bits_Set_Has_r1_x (call : CallF) (it : IterF) (base : Nat) (f : List V) (H : Heap) : evC call it base (.region s_bits_Set_Has_r1 [] [0, 1, 5, 6, 7, 8, 9, 10, 11, 12, 13, 14, 15, 16, 17]) f H = segC call it base s_bits_Set_Has_r1t1 [0, 1, 5, 6, 7, 8, 9, 10, 11, 12, 13, 14, 15, 16, 17] H (evTale (symAll s_bits_Set_Has_r1p0 [5, 6] [7]) [5, 6] f H) (origRow call it base s_bits_Set_Has_r1 [0, 1, 5, 6, 7, 8, 9, 10, 11, 12, 13, 14, 15, 16, 17] f H) := row_seg call it base s_bits_Set_Has_r1p0 s_bits_Set_Has_r1t1 (by kernel_rfl) f H
theorem s_bits_Set_Has_r1t1_x (call : CallF) (it : IterF) (base : Nat) (f : List V) (H : Heap) : evC call it base (.region s_bits_Set_Has_r1t1 [] [0, 1, 5, 6, 7, 8, 9, 10, 11, 12, 13, 14, 15, 16, 17]) f H = thenC call it base (.region s_bits_Set_Has_r1t2 [] [0, 1, 5, 6, 7, 8, 9, 10, 11, 12, 13, 14, 15, 16, 17]) (opsC [] s_bits_Set_Has_r1p1 [0] (evOps call base [⟨some 8, (.move (.t 0)), some (7, true)⟩] f H)) := (row_op call it base s_bits_Set_Has_r1p1 s_bits_Set_Has_r1t2 (kc := [0]) (by kernel_rfl) f H).trans (by rw [row_ops]; rfl)
theorem s_bits_Set_Has_r1t2_x (call : CallF) (it : IterF) (base : Nat) (f : List V) (H : Heap) : evC call it base (.region s_bits_Set_Has_r1t2 [] [0, 1, 5, 6, 7, 8, 9, 10, 11, 12, 13, 14, 15, 16, 17]) f H = thenC call it base (.region s_bits_Set_Has_r1t3 [] [0, 1, 5, 6, 7, 8, 9, 10, 11, 12, 13, 14, 15, 16, 17]) (opsC [] s_bits_Set_Has_r1p2 [] (evOps call base [⟨some 9, (.move (.t 1)), some (7, true)⟩] f H)) := (row_op call it base s_bits_Set_Has_r1p2 s_bits_Set_Has_r1t3 (kc := []) (by kernel_rfl) f H).trans (by rw [row_ops]; rfl)
theorem s_bits_Set_Has_r1t3_x (call : CallF) (it : IterF) (base : Nat) (f : List V) (H : Heap) : evC call it base (.region s_bits_Set_Has_r1t3 [] [0, 1, 5, 6, 7, 8, 9, 10, 11, 12, 13, 14, 15, 16, 17]) f H = thenC call it base (.region s_bits_Set_Has_r1t4 [] [0, 1, 5, 6, 7, 8, 9, 10, 11, 12, 13, 14, 15, 16, 17]) (opsC [] s_bits_Set_Has_r1p3 [9] (evOps call base [⟨some 10, (.bin .shr (.t 9) (.c (.s (.int .u64 6)))), some (7, true)⟩] f H)) := (row_op call it base s_bits_Set_Has_r1p3 s_bits_Set_Has_r1t4 (kc := [9]) (by kernel_rfl) f H).trans (by rw [row_ops]; rfl)
theorem s_bits_Set_Has_r1t4_x (call : CallF) (it : IterF) (base : Nat) (f : List V) (H : Heap) : evC call it base (.region s_bits_Set_Has_r1t4 [] [0, 1, 5, 6, 7, 8, 9, 10, 11, 12, 13, 14, 15, 16, 17]) f H = thenC call it base (.region s_bits_Set_Has_r1t5 [] [0, 1, 5, 6, 7, 8, 9, 10, 11, 12, 13, 14, 15, 16, 17]) (opsC [] s_bits_Set_Has_r1p4 [8, 10] (evOps call base [⟨some 11, (.call (.c (.fn 32 [] [])) [(.t 8), (.t 10)]), some (7, true)⟩] f H)) := (row_op call it base s_bits_Set_Has_r1p4 s_bits_Set_Has_r1t5 (kc := [8, 10]) (by kernel_rfl) f H).trans (by rw [row_ops]; rfl)
theorem s_bits_Set_Has_r1t5_tale (fr : List V) (H : Heap) : evTale (symAll s_bits_Set_Has_r1t5 [0, 1, 5, 6, 7, 8, 9, 10, 11, 12, 13, 14, 15, 16, 17] [4]) [0, 1, 5, 6, 7, 8, 9, 10, 11, 12, 13, 14, 15, 16, 17] fr H = evTale (some (18, [], [(4, (.pick (.t 7) (.op (.bin .eql (.t 0) (.c (.s (.int .u64 1)))) [(.op (.bin .and (.t 0) (.c (.s (.int .u64 1)))) [(.op (.bin .shr (.t 0) (.t 1)) [(.t 11), (.op (.bin .and (.t 0) (.c (.s (.int .i64 63)))) [(.t 1), (.c (.s (.int .i64 63)))])]), (.c (.s (.int .u64 1)))]), (.c (.s (.int .u64 1)))]) (.c (.s (.bool false)))))])) [0, 1, 5, 6, 7, 8, 9, 10, 11, 12, 13, 14, 15, 16, 17] fr H := tale_row (items := [.sub 0 [1, 0, 0, 1, 0] [7], .sub 0 [1, 0, 0, 1] [7], .sub 0 [1, 0, 0] [7], .sub 0 [1, 0] [7], .sub 0 [1] [7], .sub 0 [] [], .sub 0 [] []]) (by kernel_rfl) fr H
theorem s_bits_Set_Has_r1t5_x (call : CallF) (it : IterF) (base : Nat) (f : List V) (H : Heap) : evC call it base (.region s_bits_Set_Has_r1t5 [] [0, 1, 5, 6, 7, 8, 9, 10, 11, 12, 13, 14, 15, 16, 17]) f H = segL H (evTale (symAll s_bits_Set_Has_r1t5 [0, 1, 5, 6, 7, 8, 9, 10, 11, 12, 13, 14, 15, 16, 17] [4]) [0, 1, 5, 6, 7, 8, 9, 10, 11, 12, 13, 14, 15, 16, 17] f H) (origRow call it base s_bits_Set_Has_r1t5 [0, 1, 5, 6, 7, 8, 9, 10, 11, 12, 13, 14, 15, 16, 17] f H) := row_last call it base _ f H
def s_bits_Set_Has : ACFun := { ntmps := 18, results := [(.tmp 4)], body :=
  (.seq (.regionE s_bits_Set_Has_r0 s_bits_Set_Has_r0_k [])
  (.seq (.region s_bits_Set_Has_r1 [] [0, 1, 5, 6, 7, 8, 9, 10, 11, 12, 13, 14, 15, 16, 17])
  .ret)) }
abbrev k_bits_Set_Len : Nat := 20
def s_bits_Set_Len_r0_k : List Nat := [1, 2, 3, 4, 5, 6, 7, 8]
theorem s_bits_Set_Len_r0_kT : killV s_bits_Set_Len_r0_k (startV 9 [] 1) = [] := by kernel_rfl
theorem s_bits_Set_Len_r0_kA0 : s_bits_Set_Len_r0_k.contains 0 = false := by kernel_rfl
def s_bits_Set_Len_r0 : List AOper := [
  ⟨some 2, (.move (.c (.s (.int .i64 0)))), none⟩]
theorem s_bits_Set_Len_r0_tale (fr : List V) (H : Heap) : evTale (symAll s_bits_Set_Len_r0 s_bits_Set_Len_r0_k []) s_bits_Set_Len_r0_k fr H = evTale (some (3, [], [])) s_bits_Set_Len_r0_k fr H := tale_row (items := [.cc (.s (.int .i64 0))]) (by kernel_rfl) fr H
def s_bits_Set_Len_r1 : List AOper := [
  ⟨some 3, (.move (.t 0)), none⟩,
  ⟨some 4, (.eqNil .p false (.t 3)), none⟩]
theorem s_bits_Set_Len_r1_tale (fr : List V) (H : Heap) : evTale (symAll s_bits_Set_Len_r1 [3] [4]) [3] fr H = evTale (some (5, [], [(4, (.op (.eqNil .p false (.t 0)) [(.t 0)]))])) [3] fr H := tale_row (items := [.tt 0, .sub 0 [] []]) (by kernel_rfl) fr H
def s_bits_Set_Len_r2 : List AOper := [
  ⟨some 2, (.move (.c (.s (.int .i64 0)))), none⟩]
theorem s_bits_Set_Len_r2_tale (fr : List V) (H : Heap) : evTale (symAll s_bits_Set_Len_r2 [0, 4] [2]) [0, 4] fr H = evTale (some (3, [], [(2, (.c (.s (.int .i64 0))))])) [0, 4] fr H := tale_row (items := [.cc (.s (.int .i64 0))]) (by kernel_rfl) fr H
def s_bits_Set_Len_r3 : List AOper := [
  ⟨some 5, (.move (.t 0)), none⟩,
  ⟨some 6, (.nilCheck (.t 5)), none⟩,
  ⟨some 7, (.fieldAddr 1 (.t 6)), none⟩,
  ⟨some 8, (.load false 1 (.t 7)), none⟩,
  ⟨some 2, (.move (.t 8)), none⟩]
theorem s_bits_Set_Len_r3_tale (fr : List V) (H : Heap) : evTale (symAll s_bits_Set_Len_r3 [0, 4, 5, 6, 7, 8] [2]) [0, 4, 5, 6, 7, 8] fr H = evTale (some (9, [], [(2, (.op (.load false 1 (.t 0)) [(.op (.fieldAddr 1 (.t 0)) [(.op (.nilCheck (.t 0)) [(.t 0)])])]))])) [0, 4, 5, 6, 7, 8] fr H := tale_row (items := [.tt 0, .sub 0 [0, 0] [], .sub 0 [0] [], .sub 0 [] [], .sub 0 [] []]) (by kernel_rfl) fr H
def s_bits_Set_Len : ACFun := { ntmps := 9, results := [(.tmp 2)], body :=
  (.seq (.regionE s_bits_Set_Len_r0 s_bits_Set_Len_r0_k [])
  (.seq (.seq (.regionE s_bits_Set_Len_r1 [3] [4])
  (.cond (.t 4)
  (.seq (.regionE s_bits_Set_Len_r2 [0, 4] [2])
  .ret)
  .skip))
  (.seq (.regionE s_bits_Set_Len_r3 [0, 4, 5, 6, 7, 8] [2])
  .ret))) }
abbrev k_bits_Set_Copy : Nat := 21
def s_bits_Set_Copy_r0_k : List Nat := [1, 2, 3, 4, 5, 6, 7, 8, 9, 10, 11, 12, 13, 14, 15]
theorem s_bits_Set_Copy_r0_kT : killV s_bits_Set_Copy_r0_k (startV 16 [] 1) = [] := by kernel_rfl
theorem s_bits_Set_Copy_r0_kA0 : s_bits_Set_Copy_r0_k.contains 0 = false := by kernel_rfl
def s_bits_Set_Copy_r0 : List AOper := [
  ⟨some 2, (.move (.c (.s (.pointer none)))), none⟩]
theorem s_bits_Set_Copy_r0_tale (fr : List V) (H : Heap) : evTale (symAll s_bits_Set_Copy_r0 s_bits_Set_Copy_r0_k []) s_bits_Set_Copy_r0_k fr H = evTale (some (3, [], [])) s_bits_Set_Copy_r0_k fr H := tale_row (items := [.cc (.s (.pointer none))]) (by kernel_rfl) fr H
def s_bits_Set_Copy_r1 : List AOper := [
  ⟨some 3, (.move (.t 0)), none⟩,
  ⟨some 4, (.eqNil .p false (.t 3)), none⟩]
theorem s_bits_Set_Copy_r1_tale (fr : List V) (H : Heap) : evTale (symAll s_bits_Set_Copy_r1 [3] [4]) [3] fr H = evTale (some (5, [], [(4, (.op (.eqNil .p false (.t 0)) [(.t 0)]))])) [3] fr H := tale_row (items := [.tt 0, .sub 0 [] []]) (by kernel_rfl) fr H
def s_bits_Set_Copy_r2 : List AOper := [
  ⟨some 2, (.move (.c (.s (.pointer none)))), none⟩]
theorem s_bits_Set_Copy_r2_tale (fr : List V) (H : Heap) : evTale (symAll s_bits_Set_Copy_r2 [0, 4] [2]) [0, 4] fr H = evTale (some (3, [], [(2, (.c (.s (.pointer none))))])) [0, 4] fr H := tale_row (items := [.cc (.s (.pointer none))]) (by kernel_rfl) fr H
def s_bits_Set_Copy_r3t4 : List AOper := [⟨some 2, (.move (.t 15)), none⟩]
def s_bits_Set_Copy_r3p3 : List AOper := [⟨some 15, (.box (.t 14)), none⟩]
def s_bits_Set_Copy_r3t3 : List AOper := s_bits_Set_Copy_r3p3 ++ s_bits_Set_Copy_r3t4
def s_bits_Set_Copy_r3p2 : List AOper := [⟨some 10, (.move (.t 0)), none⟩, ⟨some 11, (.nilCheck (.t 10)), none⟩, ⟨some 12, (.fieldAddr 1 (.t 11)), none⟩, ⟨some 13, (.load false 1 (.t 12)), none⟩, ⟨some 14, (.build [(.s (.map none)), (.s (.int .i64 0))] [(0, 1), (1, 1)] [(0, (.t 9)), (1, (.t 13))]), none⟩]
def s_bits_Set_Copy_r3t2 : List AOper := s_bits_Set_Copy_r3p2 ++ s_bits_Set_Copy_r3t3
def s_bits_Set_Copy_r3p1 : List AOper := [⟨some 9, (.callR (.c (.fn 35 [] [])) [(.t 8)]), none⟩]
def s_bits_Set_Copy_r3t1 : List AOper := s_bits_Set_Copy_r3p1 ++ s_bits_Set_Copy_r3t2
def s_bits_Set_Copy_r3p0 : List AOper := [⟨some 5, (.move (.t 0)), none⟩, ⟨some 6, (.nilCheck (.t 5)), none⟩, ⟨some 7, (.fieldAddr 0 (.t 6)), none⟩, ⟨some 8, (.load false 1 (.t 7)), none⟩]
def s_bits_Set_Copy_r3 : List AOper := s_bits_Set_Copy_r3p0 ++ s_bits_Set_Copy_r3t1
theorem s_bits_Set_Copy_r3p0_tale (fr : List V) (H : Heap) : evTale (symAll s_bits_Set_Copy_r3p0 [4, 5, 6, 7] [8]) [4, 5, 6, 7] fr H = evTale (some (9, [], [(8, (.op (.load false 1 (.t 0)) [(.op (.fieldAddr 0 (.t 0)) [(.op (.nilCheck (.t 0)) [(.t 0)])])]))])) [4, 5, 6, 7] fr H := tale_row (items := [.tt 0, .sub 0 [0, 0] [], .sub 0 [0] [], .sub 0 [] []]) (by kernel_rfl) fr H
theorem s_bits_Set_Copy_r3_x (call : CallF) (it : IterF) (base : Nat) (f : List V) (H : Heap) : evC call it base (.region s_bits_Set_Copy_r3 [] [0, 4, 5, 6, 7, 8, 9, 10, 11, 12, 13, 14, 15]) f H = segC call it base s_bits_Set_Copy_r3t1 [0, 4, 5, 6, 7, 8, 9, 10, 11, 12, 13, 14, 15] H (evTale (symAll s_bits_Set_Copy_r3p0 [4, 5, 6, 7] [8]) [4, 5, 6, 7] f H) (origRow call it base s_bits_Set_Copy_r3 [0, 4, 5, 6, 7, 8, 9, 10, 11, 12, 13, 14, 15] f H) := row_seg call it base s_bits_Set_Copy_r3p0 s_bits_Set_Copy_r3t1 (by kernel_rfl) f H
theorem s_bits_Set_Copy_r3t1_x (call : CallF) (it : IterF) (base : Nat) (f : List V) (H : Heap) : evC call it base (.region s_bits_Set_Copy_r3t1 [] [0, 4, 5, 6, 7, 8, 9, 10, 11, 12, 13, 14, 15]) f H = thenC call it base (.region s_bits_Set_Copy_r3t2 [] [0, 4, 5, 6, 7, 8, 9, 10, 11, 12, 13, 14, 15]) (opsC [] s_bits_Set_Copy_r3p1 [8] (evOps call base [⟨some 9, (.callR (.c (.fn 35 [] [])) [(.t 8)]), none⟩] f H)) := (row_op call it base s_bits_Set_Copy_r3p1 s_bits_Set_Copy_r3t2 (kc := [8]) (by kernel_rfl) f H).trans (by rw [row_ops]; rfl)
theorem s_bits_Set_Copy_r3p2_tale (fr : List V) (H : Heap) : evTale (symAll s_bits_Set_Copy_r3p2 [0, 9, 10, 11, 12, 13] [14]) [0, 9, 10, 11, 12, 13] fr H = evTale (some (15, [], [(14, (.op (.build [(.s (.map none)), (.s (.int .i64 0))] [(0, 1), (1, 1)] [(0, (.t 0)), (1, (.t 1))]) [(.t 9), (.op (.load false 1 (.t 0)) [(.op (.fieldAddr 1 (.t 0)) [(.op (.nilCheck (.t 0)) [(.t 0)])])])]))])) [0, 9, 10, 11, 12, 13] fr H := tale_row (items := [.tt 0, .sub 0 [1, 0, 0] [], .sub 0 [1, 0] [], .sub 0 [1] [], .sub 0 [] []]) (by kernel_rfl) fr H
theorem s_bits_Set_Copy_r3t2_x (call : CallF) (it : IterF) (base : Nat) (f : List V) (H : Heap) : evC call it base (.region s_bits_Set_Copy_r3t2 [] [0, 4, 5, 6, 7, 8, 9, 10, 11, 12, 13, 14, 15]) f H = segC call it base s_bits_Set_Copy_r3t3 [0, 4, 5, 6, 7, 8, 9, 10, 11, 12, 13, 14, 15] H (evTale (symAll s_bits_Set_Copy_r3p2 [0, 9, 10, 11, 12, 13] [14]) [0, 9, 10, 11, 12, 13] f H) (origRow call it base s_bits_Set_Copy_r3t2 [0, 4, 5, 6, 7, 8, 9, 10, 11, 12, 13, 14, 15] f H) := row_seg call it base s_bits_Set_Copy_r3p2 s_bits_Set_Copy_r3t3 (by kernel_rfl) f H
theorem s_bits_Set_Copy_r3t3_x (call : CallF) (it : IterF) (base : Nat) (f : List V) (H : Heap) : evC call it base (.region s_bits_Set_Copy_r3t3 [] [0, 4, 5, 6, 7, 8, 9, 10, 11, 12, 13, 14, 15]) f H = thenC call it base (.region s_bits_Set_Copy_r3t4 [] [0, 4, 5, 6, 7, 8, 9, 10, 11, 12, 13, 14, 15]) (opsC [] s_bits_Set_Copy_r3p3 [14] (evOps call base [⟨some 15, (.box (.t 14)), none⟩] f H)) := (row_op call it base s_bits_Set_Copy_r3p3 s_bits_Set_Copy_r3t4 (kc := [14]) (by kernel_rfl) f H).trans (by rw [row_ops]; rfl)
theorem s_bits_Set_Copy_r3t4_tale (fr : List V) (H : Heap) : evTale (symAll s_bits_Set_Copy_r3t4 [0, 4, 5, 6, 7, 8, 9, 10, 11, 12, 13, 14, 15] [2]) [0, 4, 5, 6, 7, 8, 9, 10, 11, 12, 13, 14, 15] fr H = evTale (some (3, [], [(2, (.t 15))])) [0, 4, 5, 6, 7, 8, 9, 10, 11, 12, 13, 14, 15] fr H := tale_row (items := [.tt 15]) (by kernel_rfl) fr H
theorem s_bits_Set_Copy_r3t4_x (call : CallF) (it : IterF) (base : Nat) (f : List V) (H : Heap) : evC call it base (.region s_bits_Set_Copy_r3t4 [] [0, 4, 5, 6, 7, 8, 9, 10, 11, 12, 13, 14, 15]) f H = segL H (evTale (symAll s_bits_Set_Copy_r3t4 [0, 4, 5, 6, 7, 8, 9, 10, 11, 12, 13, 14, 15] [2]) [0, 4, 5, 6, 7, 8, 9, 10, 11, 12, 13, 14, 15] f H) (origRow call it base s_bits_Set_Copy_r3t4 [0, 4, 5, 6, 7, 8, 9, 10, 11, 12, 13, 14, 15] f H) := row_last call it base _ f H
def s_bits_Set_Copy : ACFun := { ntmps := 16, results := [(.tmp 2)], body :=
  (.seq (.regionE s_bits_Set_Copy_r0 s_bits_Set_Copy_r0_k [])
  (.seq (.seq (.regionE s_bits_Set_Copy_r1 [3] [4])
  (.cond (.t 4)
  (.seq (.regionE s_bits_Set_Copy_r2 [0, 4] [2])
  .ret)
  .skip))
  (.seq (.region s_bits_Set_Copy_r3 [] [0, 4, 5, 6, 7, 8, 9, 10, 11, 12, 13, 14, 15])
  .ret))) }
abbrev k_bits_Set_Minus : Nat := 22
def s_bits_Set_Minus_r0_k : List Nat := [2, 3, 4, 5, 6, 7]
theorem s_bits_Set_Minus_r0_kT : killV s_bits_Set_Minus_r0_k (startV 8 [] 2) = [] := by kernel_rfl
theorem s_bits_Set_Minus_r0_kA0 : s_bits_Set_Minus_r0_k.contains 0 = false := by kernel_rfl
theorem s_bits_Set_Minus_r0_kA1 : s_bits_Set_Minus_r0_k.contains 1 = false := by kernel_rfl
def s_bits_Set_Minus_r0 : List AOper := [
  ⟨some 4, (.move (.c (.s (.pointer none)))), none⟩]
theorem s_bits_Set_Minus_r0_tale (fr : List V) (H : Heap) : evTale (symAll s_bits_Set_Minus_r0 s_bits_Set_Minus_r0_k []) s_bits_Set_Minus_r0_k fr H = evTale (some (5, [], [])) s_bits_Set_Minus_r0_k fr H := tale_row (items := [.cc (.s (.pointer none))]) (by kernel_rfl) fr H
def s_bits_Set_Minus_r1t2 : List AOper := [⟨some 4, (.move (.t 7)), none⟩]
def s_bits_Set_Minus_r1p1 : List AOper := [⟨some 7, (.call (.c (.fn 36 [] [])) [(.t 5), (.t 6), (.c (.fn 37 [] []))]), none⟩]
def s_bits_Set_Minus_r1t1 : List AOper := s_bits_Set_Minus_r1p1 ++ s_bits_Set_Minus_r1t2
def s_bits_Set_Minus_r1p0 : List AOper := [⟨some 5, (.move (.t 0)), none⟩, ⟨some 6, (.move (.t 1)), none⟩]
def s_bits_Set_Minus_r1 : List AOper := s_bits_Set_Minus_r1p0 ++ s_bits_Set_Minus_r1t1
theorem s_bits_Set_Minus_r1p0_tale (fr : List V) (H : Heap) : evTale (symAll s_bits_Set_Minus_r1p0 [0, 1] [5, 6]) [0, 1] fr H = evTale (some (7, [], [(5, (.t 0)), (6, (.t 1))])) [0, 1] fr H := tale_row (items := [.tt 0, .tt 1]) (by kernel_rfl) fr H
theorem s_bits_Set_Minus_r1_x (call : CallF) (it : IterF) (base : Nat) (f : List V) (H : Heap) : evC call it base (.region s_bits_Set_Minus_r1 [] [0, 1, 5, 6, 7]) f H = segC call it base s_bits_Set_Minus_r1t1 [0, 1, 5, 6, 7] H (evTale (symAll s_bits_Set_Minus_r1p0 [0, 1] [5, 6]) [0, 1] f H) (origRow call it base s_bits_Set_Minus_r1 [0, 1, 5, 6, 7] f H) := row_seg call it base s_bits_Set_Minus_r1p0 s_bits_Set_Minus_r1t1 (by kernel_rfl) f H
theorem s_bits_Set_Minus_r1t1_x (call : CallF) (it : IterF) (base : Nat) (f : List V) (H : Heap) : evC call it base (.region s_bits_Set_Minus_r1t1 [] [0, 1, 5, 6, 7]) f H = thenC call it base (.region s_bits_Set_Minus_r1t2 [] [0, 1, 5, 6, 7]) (opsC [] s_bits_Set_Minus_r1p1 [5, 6] (evOps call base [⟨some 7, (.call (.c (.fn 36 [] [])) [(.t 5), (.t 6), (.c (.fn 37 [] []))]), none⟩] f H)) := (row_op call it base s_bits_Set_Minus_r1p1 s_bits_Set_Minus_r1t2 (kc := [5, 6]) (by kernel_rfl) f H).trans (by rw [row_ops]; rfl)
theorem s_bits_Set_Minus_r1t2_tale (fr : List V) (H : Heap) : evTale (symAll s_bits_Set_Minus_r1t2 [0, 1, 5, 6, 7] [4]) [0, 1, 5, 6, 7] fr H = evTale (some (5, [], [(4, (.t 7))])) [0, 1, 5, 6, 7] fr H := tale_row (items := [.tt 7]) (by kernel_rfl) fr H
theorem s_bits_Set_Minus_r1t2_x (call : CallF) (it : IterF) (base : Nat) (f : List V) (H : Heap) : evC call it base (.region s_bits_Set_Minus_r1t2 [] [0, 1, 5, 6, 7]) f H = segL H (evTale (symAll s_bits_Set_Minus_r1t2 [0, 1, 5, 6, 7] [4]) [0, 1, 5, 6, 7] f H) (origRow call it base s_bits_Set_Minus_r1t2 [0, 1, 5, 6, 7] f H) := row_last call it base _ f H
def s_bits_Set_Minus : ACFun := { ntmps := 8, results := [(.tmp 4)], body :=
  (.seq (.regionE s_bits_Set_Minus_r0 s_bits_Set_Minus_r0_k [])
  (.seq (.region s_bits_Set_Minus_r1 [] [0, 1, 5, 6, 7])
  .ret)) }
abbrev k_bits_Set_Both : Nat := 23
def s_bits_Set_Both_r0_k : List Nat := [2, 3, 4, 5, 6, 7]
theorem s_bits_Set_Both_r0_kT : killV s_bits_Set_Both_r0_k (startV 8 [] 2) = [] := by kernel_rfl
theorem s_bits_Set_Both_r0_kA0 : s_bits_Set_Both_r0_k.contains 0 = false := by kernel_rfl
theorem s_bits_Set_Both_r0_kA1 : s_bits_Set_Both_r0_k.contains 1 = false := by kernel_rfl
def s_bits_Set_Both_r0 : List AOper := [
  ⟨some 4, (.move (.c (.s (.pointer none)))), none⟩]
theorem s_bits_Set_Both_r0_tale (fr : List V) (H : Heap) : evTale (symAll s_bits_Set_Both_r0 s_bits_Set_Both_r0_k []) s_bits_Set_Both_r0_k fr H = evTale (some (5, [], [])) s_bits_Set_Both_r0_k fr H := tale_row (items := [.cc (.s (.pointer none))]) (by kernel_rfl) fr H
def s_bits_Set_Both_r1t2 : List AOper := [⟨some 4, (.move (.t 7)), none⟩]
def s_bits_Set_Both_r1p1 : List AOper := [⟨some 7, (.call (.c (.fn 36 [] [])) [(.t 5), (.t 6), (.c (.fn 38 [] []))]), none⟩]
def s_bits_Set_Both_r1t1 : List AOper := s_bits_Set_Both_r1p1 ++ s_bits_Set_Both_r1t2
def s_bits_Set_Both_r1p0 : List AOper := [⟨some 5, (.move (.t 0)), none⟩, ⟨some 6, (.move (.t 1)), none⟩]
def s_bits_Set_Both_r1 : List AOper := s_bits_Set_Both_r1p0 ++ s_bits_Set_Both_r1t1
theorem s_bits_Set_Both_r1p0_tale (fr : List V) (H : Heap) : evTale (symAll s_bits_Set_Both_r1p0 [0, 1] [5, 6]) [0, 1] fr H = evTale (some (7, [], [(5, (.t 0)), (6, (.t 1))])) [0, 1] fr H := tale_row (items := [.tt 0, .tt 1]) (by kernel_rfl) fr H
theorem s_bits_Set_Both_r1_x (call : CallF) (it : IterF) (base : Nat) (f : List V) (H : Heap) : evC call it base (.region s_bits_Set_Both_r1 [] [0, 1, 5, 6, 7]) f H = segC call it base s_bits_Set_Both_r1t1 [0, 1, 5, 6, 7] H (evTale (symAll s_bits_Set_Both_r1p0 [0, 1] [5, 6]) [0, 1] f H) (origRow call it base s_bits_Set_Both_r1 [0, 1, 5, 6, 7] f H) := row_seg call it base s_bits_Set_Both_r1p0 s_bits_Set_Both_r1t1 (by kernel_rfl) f H
theorem s_bits_Set_Both_r1t1_x (call : CallF) (it : IterF) (base : Nat) (f : List V) (H : Heap) : evC call it base (.region s_bits_Set_Both_r1t1 [] [0, 1, 5, 6, 7]) f H = thenC call it base (.region s_bits_Set_Both_r1t2 [] [0, 1, 5, 6, 7]) (opsC [] s_bits_Set_Both_r1p1 [5, 6] (evOps call base [⟨some 7, (.call (.c (.fn 36 [] [])) [(.t 5), (.t 6), (.c (.fn 38 [] []))]), none⟩] f H)) := (row_op call it base s_bits_Set_Both_r1p1 s_bits_Set_Both_r1t2 (kc := [5, 6]) (by kernel_rfl) f H).trans (by rw [row_ops]; rfl)
theorem s_bits_Set_Both_r1t2_tale (fr : List V) (H : Heap) : evTale (symAll s_bits_Set_Both_r1t2 [0, 1, 5, 6, 7] [4]) [0, 1, 5, 6, 7] fr H = evTale (some (5, [], [(4, (.t 7))])) [0, 1, 5, 6, 7] fr H := tale_row (items := [.tt 7]) (by kernel_rfl) fr H
theorem s_bits_Set_Both_r1t2_x (call : CallF) (it : IterF) (base : Nat) (f : List V) (H : Heap) : evC call it base (.region s_bits_Set_Both_r1t2 [] [0, 1, 5, 6, 7]) f H = segL H (evTale (symAll s_bits_Set_Both_r1t2 [0, 1, 5, 6, 7] [4]) [0, 1, 5, 6, 7] f H) (origRow call it base s_bits_Set_Both_r1t2 [0, 1, 5, 6, 7] f H) := row_last call it base _ f H
def s_bits_Set_Both : ACFun := { ntmps := 8, results := [(.tmp 4)], body :=
  (.seq (.regionE s_bits_Set_Both_r0 s_bits_Set_Both_r0_k [])
  (.seq (.region s_bits_Set_Both_r1 [] [0, 1, 5, 6, 7])
  .ret)) }
abbrev k_bits_Set_Union : Nat := 24
def s_bits_Set_Union_r0_k : List Nat := [0, 3, 4, 5, 6, 7, 8, 9, 10, 11, 12, 13, 14, 15, 16, 17, 18, 19, 20, 21, 22, 23, 24, 25, 26, 27, 28, 29, 30, 31]
theorem s_bits_Set_Union_r0_k_kA0 : s_bits_Set_Union_r0_k.contains 0 = true := by kernel_rfl
theorem s_bits_Set_Union_r0_k_kA1 : s_bits_Set_Union_r0_k.contains 1 = false := by kernel_rfl
theorem s_bits_Set_Union_r0_k_kA2 : s_bits_Set_Union_r0_k.contains 2 = false := by kernel_rfl
theorem s_bits_Set_Union_r0_k_kA4 : s_bits_Set_Union_r0_k.contains 4 = true := by kernel_rfl
def s_bits_Set_Union_r0t1 : List AOper := [⟨some 4, (.move (.c (.s (.bool false)))), none⟩]
def s_bits_Set_Union_r0p0 : List AOper := [⟨some 2, (.box (.t 0)), none⟩]
def s_bits_Set_Union_r0 : List AOper := s_bits_Set_Union_r0p0 ++ s_bits_Set_Union_r0t1
theorem s_bits_Set_Union_r0_x (call : CallF) (it : IterF) (base : Nat) (f : List V) (H : Heap) : evC call it base (.region s_bits_Set_Union_r0 [] s_bits_Set_Union_r0_k) f H = thenC call it base (.region s_bits_Set_Union_r0t1 [] s_bits_Set_Union_r0_k) (opsC [] s_bits_Set_Union_r0p0 [0, 3, 4, 5, 6, 7, 8, 9, 10, 11, 12, 13, 14, 15, 16, 17, 18, 19, 20, 21, 22, 23, 24, 25, 26, 27, 28, 29, 30, 31] (evOps call base [⟨some 2, (.box (.t 0)), none⟩] f H)) := (row_op call it base s_bits_Set_Union_r0p0 s_bits_Set_Union_r0t1 (kc := [0, 3, 4, 5, 6, 7, 8, 9, 10, 11, 12, 13, 14, 15, 16, 17, 18, 19, 20, 21, 22, 23, 24, 25, 26, 27, 28, 29, 30, 31]) (by kernel_rfl) f H).trans (by rw [row_ops]; rfl)
theorem s_bits_Set_Union_r0t1_tale (fr : List V) (H : Heap) : evTale (symAll s_bits_Set_Union_r0t1 s_bits_Set_Union_r0_k []) s_bits_Set_Union_r0_k fr H = evTale (some (5, [], [])) s_bits_Set_Union_r0_k fr H := tale_row (items := [.cc (.s (.bool false))]) (by kernel_rfl) fr H
theorem s_bits_Set_Union_r0t1_x (call : CallF) (it : IterF) (base : Nat) (f : List V) (H : Heap) : evC call it base (.region s_bits_Set_Union_r0t1 [] s_bits_Set_Union_r0_k) f H = segL H (evTale (symAll s_bits_Set_Union_r0t1 s_bits_Set_Union_r0_k []) s_bits_Set_Union_r0_k f H) (origRow call it base s_bits_Set_Union_r0t1 s_bits_Set_Union_r0_k f H) := row_last call it base _ f H
def s_bits_Set_Union_r1 : List AOper := [
  ⟨some 8, (.load false 1 (.t 2)), none⟩,
  ⟨some 9, (.eqNil .p false (.t 8)), none⟩]
theorem s_bits_Set_Union_r1_tale (fr : List V) (H : Heap) : evTale (symAll s_bits_Set_Union_r1 [8] [9]) [8] fr H = evTale (some (10, [], [(9, (.op (.eqNil .p false (.t 0)) [(.op (.load false 1 (.t 0)) [(.t 2)])]))])) [8] fr H := tale_row (items := [.sub 0 [0] [], .sub 0 [] []]) (by kernel_rfl) fr H
def s_bits_Set_Union_r2 : List AOper := [
  ⟨some 4, (.move (.c (.s (.bool false)))), none⟩]
theorem s_bits_Set_Union_r2_tale (fr : List V) (H : Heap) : evTale (symAll s_bits_Set_Union_r2 [1, 2, 9] [4]) [1, 2, 9] fr H = evTale (some (5, [], [(4, (.c (.s (.bool false))))])) [1, 2, 9] fr H := tale_row (items := [.cc (.s (.bool false))]) (by kernel_rfl) fr H
def s_bits_Set_Union_r3 : List AOper := [
  ⟨some 10, (.load false 1 (.t 2)), none⟩,
  ⟨some 11, (.nilCheck (.t 10)), none⟩,
  ⟨some 12, (.fieldAddr 1 (.t 11)), none⟩,
  ⟨some 13, (.load false 1 (.t 12)), none⟩,
  ⟨some 5, (.move (.t 13)), none⟩]
theorem s_bits_Set_Union_r3_tale (fr : List V) (H : Heap) : evTale (symAll s_bits_Set_Union_r3 [9, 10, 11, 12, 13] [5]) [9, 10, 11, 12, 13] fr H = evTale (some (14, [], [(5, (.op (.load false 1 (.t 0)) [(.op (.fieldAddr 1 (.t 0)) [(.op (.nilCheck (.t 0)) [(.op (.load false 1 (.t 0)) [(.t 2)])])])]))])) [9, 10, 11, 12, 13] fr H := tale_row (items := [.sub 0 [0, 0, 0] [], .sub 0 [0, 0] [], .sub 0 [0] [], .sub 0 [] [], .sub 0 [] []]) (by kernel_rfl) fr H
def s_bits_Set_Union_r4t1 : List AOper := [⟨some 15, (.call (.c (.fn 33 [] [])) [(.t 14)]), none⟩]
def s_bits_Set_Union_r4p0 : List AOper := [⟨some 14, (.move (.t 1)), none⟩]
def s_bits_Set_Union_r4 : List AOper := s_bits_Set_Union_r4p0 ++ s_bits_Set_Union_r4t1
theorem s_bits_Set_Union_r4p0_tale (fr : List V) (H : Heap) : evTale (symAll s_bits_Set_Union_r4p0 [1] [14]) [1] fr H = evTale (some (15, [], [(14, (.t 1))])) [1] fr H := tale_row (items := [.tt 1]) (by kernel_rfl) fr H
theorem s_bits_Set_Union_r4_x (call : CallF) (it : IterF) (base : Nat) (f : List V) (H : Heap) : evC call it base (.region s_bits_Set_Union_r4 [] [1, 14]) f H = segC call it base s_bits_Set_Union_r4t1 [1, 14] H (evTale (symAll s_bits_Set_Union_r4p0 [1] [14]) [1] f H) (origRow call it base s_bits_Set_Union_r4 [1, 14] f H) := row_seg call it base s_bits_Set_Union_r4p0 s_bits_Set_Union_r4t1 (by kernel_rfl) f H
theorem s_bits_Set_Union_r4t1_x (call : CallF) (it : IterF) (base : Nat) (f : List V) (H : Heap) : evC call it base (.region s_bits_Set_Union_r4t1 [] [1, 14]) f H = opsC [] s_bits_Set_Union_r4t1 [1, 14] (evOps call base [⟨some 15, (.call (.c (.fn 33 [] [])) [(.t 14)]), none⟩] f H) := row_ops call it base _ _ f H
def s_bits_Set_Union_r5 : List AOper := [
  ⟨some 6, (.move (.t 16)), none⟩]
theorem s_bits_Set_Union_r5_tale (fr : List V) (H : Heap) : evTale (symAll s_bits_Set_Union_r5 [5, 15, 16] [6]) [5, 15, 16] fr H = evTale (some (7, [], [(6, (.t 16))])) [5, 15, 16] fr H := tale_row (items := [.tt 16]) (by kernel_rfl) fr H
def s_bits_Set_Union_r6 : List AOper := [
  ⟨some 7, (.move (.t 17)), none⟩]
theorem s_bits_Set_Union_r6_tale (fr : List V) (H : Heap) : evTale (symAll s_bits_Set_Union_r6 [17] [7]) [17] fr H = evTale (some (8, [], [(7, (.t 17))])) [17] fr H := tale_row (items := [.tt 17]) (by kernel_rfl) fr H
def s_bits_Set_Union_r7t3 : List AOper := [⟨some 25, (.call (.c (.fn 31 [] [])) [(.t 18), (.t 19), (.t 24)]), none⟩]
def s_bits_Set_Union_r7p2 : List AOper := [⟨some 23, (.move (.t 7)), none⟩, ⟨some 24, (.bin .or (.t 22) (.t 23)), none⟩]
def s_bits_Set_Union_r7t2 : List AOper := s_bits_Set_Union_r7p2 ++ s_bits_Set_Union_r7t3
def s_bits_Set_Union_r7p1 : List AOper := [⟨some 22, (.callR (.c (.fn 32 [] [])) [(.t 20), (.t 21)]), none⟩]
def s_bits_Set_Union_r7t1 : List AOper := s_bits_Set_Union_r7p1 ++ s_bits_Set_Union_r7t2
def s_bits_Set_Union_r7p0 : List AOper := [⟨some 18, (.load false 1 (.t 2)), none⟩, ⟨some 19, (.move (.t 6)), none⟩, ⟨some 20, (.load false 1 (.t 2)), none⟩, ⟨some 21, (.move (.t 6)), none⟩]
def s_bits_Set_Union_r7 : List AOper := s_bits_Set_Union_r7p0 ++ s_bits_Set_Union_r7t1
theorem s_bits_Set_Union_r7p0_tale (fr : List V) (H : Heap) : evTale (symAll s_bits_Set_Union_r7p0 [2, 6] [18, 19, 20, 21]) [2, 6] fr H = evTale (some (22, [], [(18, (.op (.load false 1 (.t 0)) [(.t 2)])), (19, (.t 6)), (20, (.op (.load false 1 (.t 0)) [(.t 2)])), (21, (.t 6))])) [2, 6] fr H := tale_row (items := [.sub 0 [] [], .tt 6, .sub 0 [] [], .tt 6]) (by kernel_rfl) fr H
theorem s_bits_Set_Union_r7_x (call : CallF) (it : IterF) (base : Nat) (f : List V) (H : Heap) : evC call it base (.region s_bits_Set_Union_r7 [] [2, 6, 7, 18, 19, 20, 21, 22, 23, 24, 25]) f H = segC call it base s_bits_Set_Union_r7t1 [2, 6, 7, 18, 19, 20, 21, 22, 23, 24, 25] H (evTale (symAll s_bits_Set_Union_r7p0 [2, 6] [18, 19, 20, 21]) [2, 6] f H) (origRow call it base s_bits_Set_Union_r7 [2, 6, 7, 18, 19, 20, 21, 22, 23, 24, 25] f H) := row_seg call it base s_bits_Set_Union_r7p0 s_bits_Set_Union_r7t1 (by kernel_rfl) f H
theorem s_bits_Set_Union_r7t1_x (call : CallF) (it : IterF) (base : Nat) (f : List V) (H : Heap) : evC call it base (.region s_bits_Set_Union_r7t1 [] [2, 6, 7, 18, 19, 20, 21, 22, 23, 24, 25]) f H = thenC call it base (.region s_bits_Set_Union_r7t2 [] [2, 6, 7, 18, 19, 20, 21, 22, 23, 24, 25]) (opsC [] s_bits_Set_Union_r7p1 [20, 21] (evOps call base [⟨some 22, (.callR (.c (.fn 32 [] [])) [(.t 20), (.t 21)]), none⟩] f H)) := (row_op call it base s_bits_Set_Union_r7p1 s_bits_Set_Union_r7t2 (kc := [20, 21]) (by kernel_rfl) f H).trans (by rw [row_ops]; rfl)
theorem s_bits_Set_Union_r7p2_tale (fr : List V) (H : Heap) : evTale (symAll s_bits_Set_Union_r7p2 [7, 22, 23] [24]) [7, 22, 23] fr H = evTale (some (25, [], [(24, (.op (.bin .or (.t 0) (.t 1)) [(.t 22), (.t 7)]))])) [7, 22, 23] fr H := tale_row (items := [.tt 7, .sub 0 [] []]) (by kernel_rfl) fr H
theorem s_bits_Set_Union_r7t2_x (call : CallF) (it : IterF) (base : Nat) (f : List V) (H : Heap) : evC call it base (.region s_bits_Set_Union_r7t2 [] [2, 6, 7, 18, 19, 20, 21, 22, 23, 24, 25]) f H = segC call it base s_bits_Set_Union_r7t3 [2, 6, 7, 18, 19, 20, 21, 22, 23, 24, 25] H (evTale (symAll s_bits_Set_Union_r7p2 [7, 22, 23] [24]) [7, 22, 23] f H) (origRow call it base s_bits_Set_Union_r7t2 [2, 6, 7, 18, 19, 20, 21, 22, 23, 24, 25] f H) := row_seg call it base s_bits_Set_Union_r7p2 s_bits_Set_Union_r7t3 (by kernel_rfl) f H
theorem s_bits_Set_Union_r7t3_x (call : CallF) (it : IterF) (base : Nat) (f : List V) (H : Heap) : evC call it base (.region s_bits_Set_Union_r7t3 [] [2, 6, 7, 18, 19, 20, 21, 22, 23, 24, 25]) f H = opsC [] s_bits_Set_Union_r7t3 [2, 6, 7, 18, 19, 20, 21, 22, 23, 24, 25] (evOps call base [⟨some 25, (.call (.c (.fn 31 [] [])) [(.t 18), (.t 19), (.t 24)]), none⟩] f H) := row_ops call it base _ _ f H
def s_bits_Set_Union_a0 : ACode :=
  (.seq (.regionE s_bits_Set_Union_r5 [5, 15, 16] [6])
  (.regionE s_bits_Set_Union_r6 [17] [7]))
def s_bits_Set_Union_b0 : ACode :=
  (.block 1
  (.region s_bits_Set_Union_r7 [] [2, 6, 7, 18, 19, 20, 21, 22, 23, 24, 25]))
def s_bits_Set_Union_r8 : List AOper := [
  ⟨some 26, (.load false 1 (.t 2)), none⟩,
  ⟨some 27, (.nilCheck (.t 26)), none⟩,
  ⟨some 28, (.fieldAddr 1 (.t 27)), none⟩,
  ⟨some 29, (.load false 1 (.t 28)), none⟩,
  ⟨some 30, (.move (.t 5)), none⟩,
  ⟨some 31, (.bin .gtr (.t 29) (.t 30)), none⟩,
  ⟨some 4, (.move (.t 31)), none⟩]
theorem s_bits_Set_Union_r8_tale (fr : List V) (H : Heap) : evTale (symAll s_bits_Set_Union_r8 [2, 5, 15, 26, 27, 28, 29, 30, 31] [4]) [2, 5, 15, 26, 27, 28, 29, 30, 31] fr H = evTale (some (32, [], [(4, (.op (.bin .gtr (.t 0) (.t 1)) [(.op (.load false 1 (.t 0)) [(.op (.fieldAddr 1 (.t 0)) [(.op (.nilCheck (.t 0)) [(.op (.load false 1 (.t 0)) [(.t 2)])])])]), (.t 5)]))])) [2, 5, 15, 26, 27, 28, 29, 30, 31] fr H := tale_row (items := [.sub 0 [0, 0, 0, 0] [], .sub 0 [0, 0, 0] [], .sub 0 [0, 0] [], .sub 0 [0] [], .tt 5, .sub 0 [] [], .sub 0 [] []]) (by kernel_rfl) fr H
def s_bits_Set_Union : ACFun := { ntmps := 32, results := [(.tmp 4)], body :=
  (.seq (.region s_bits_Set_Union_r0 [] s_bits_Set_Union_r0_k)
  (.seq (.seq (.regionE s_bits_Set_Union_r1 [8] [9])
  (.cond (.t 9)
  (.seq (.regionE s_bits_Set_Union_r2 [1, 2, 9] [4])
  .ret)
  .skip))
  (.seq (.regionE s_bits_Set_Union_r3 [9, 10, 11, 12, 13] [5])
  (.seq (.seq (.region s_bits_Set_Union_r4 [] [1, 14])
  (.block 0
  (.rangeFunc (.t 15) [16, 17] s_bits_Set_Union_a0 s_bits_Set_Union_b0)))
  (.seq (.regionE s_bits_Set_Union_r8 [2, 5, 15, 26, 27, 28, 29, 30, 31] [4])
  .ret))))) }
theorem s_bits_Set_Union_first : firstOk (List.range' 2 (s_bits_Set_Union.ntmps - 2)) s_bits_Set_Union.body = true := by kernel_rfl
abbrev k_bits_Set_In : Nat := 25
def s_bits_Set_In_r0_k : List Nat := [1, 2, 5, 6, 7, 8, 9, 10, 11, 12, 13, 14, 15, 16]
theorem s_bits_Set_In_r0_k_kA0 : s_bits_Set_In_r0_k.contains 0 = false := by kernel_rfl
theorem s_bits_Set_In_r0_k_kA1 : s_bits_Set_In_r0_k.contains 1 = true := by kernel_rfl
theorem s_bits_Set_In_r0_k_kA3 : s_bits_Set_In_r0_k.contains 3 = false := by kernel_rfl
theorem s_bits_Set_In_r0_k_kA4 : s_bits_Set_In_r0_k.contains 4 = false := by kernel_rfl
def s_bits_Set_In_r0t1 : List AOper := [⟨some 4, (.alloc [(.s (.bool false))]), none⟩]
def s_bits_Set_In_r0p0 : List AOper := [⟨some 3, (.box (.t 1)), none⟩]
def s_bits_Set_In_r0 : List AOper := s_bits_Set_In_r0p0 ++ s_bits_Set_In_r0t1
theorem s_bits_Set_In_r0_x (call : CallF) (it : IterF) (base : Nat) (f : List V) (H : Heap) : evC call it base (.region s_bits_Set_In_r0 [] s_bits_Set_In_r0_k) f H = thenC call it base (.region s_bits_Set_In_r0t1 [] s_bits_Set_In_r0_k) (opsC [] s_bits_Set_In_r0p0 [1, 2, 4, 5, 6, 7, 8, 9, 10, 11, 12, 13, 14, 15, 16] (evOps call base [⟨some 3, (.box (.t 1)), none⟩] f H)) := (row_op call it base s_bits_Set_In_r0p0 s_bits_Set_In_r0t1 (kc := [1, 2, 4, 5, 6, 7, 8, 9, 10, 11, 12, 13, 14, 15, 16]) (by kernel_rfl) f H).trans (by rw [row_ops]; rfl)
theorem s_bits_Set_In_r0t1_x (call : CallF) (it : IterF) (base : Nat) (f : List V) (H : Heap) : evC call it base (.region s_bits_Set_In_r0t1 [] s_bits_Set_In_r0_k) f H = opsC [] s_bits_Set_In_r0t1 s_bits_Set_In_r0_k (evOps call base [⟨some 4, (.alloc [(.s (.bool false))]), none⟩] f H) := row_ops call it base _ _ f H
def s_bits_Set_In_r1t1 : List AOper := [⟨some 8, (.call (.c (.fn 33 [] [])) [(.t 7)]), none⟩]
def s_bits_Set_In_r1p0 : List AOper := [⟨some 7, (.move (.t 0)), none⟩]
def s_bits_Set_In_r1 : List AOper := s_bits_Set_In_r1p0 ++ s_bits_Set_In_r1t1
theorem s_bits_Set_In_r1p0_tale (fr : List V) (H : Heap) : evTale (symAll s_bits_Set_In_r1p0 [0] [7]) [0] fr H = evTale (some (8, [], [(7, (.t 0))])) [0] fr H := tale_row (items := [.tt 0]) (by kernel_rfl) fr H
theorem s_bits_Set_In_r1_x (call : CallF) (it : IterF) (base : Nat) (f : List V) (H : Heap) : evC call it base (.region s_bits_Set_In_r1 [] [0, 7]) f H = segC call it base s_bits_Set_In_r1t1 [0, 7] H (evTale (symAll s_bits_Set_In_r1p0 [0] [7]) [0] f H) (origRow call it base s_bits_Set_In_r1 [0, 7] f H) := row_seg call it base s_bits_Set_In_r1p0 s_bits_Set_In_r1t1 (by kernel_rfl) f H
theorem s_bits_Set_In_r1t1_x (call : CallF) (it : IterF) (base : Nat) (f : List V) (H : Heap) : evC call it base (.region s_bits_Set_In_r1t1 [] [0, 7]) f H = opsC [] s_bits_Set_In_r1t1 [0, 7] (evOps call base [⟨some 8, (.call (.c (.fn 33 [] [])) [(.t 7)]), none⟩] f H) := row_ops call it base _ _ f H
def s_bits_Set_In_r2 : List AOper := [
  ⟨some 5, (.move (.t 9)), none⟩]
theorem s_bits_Set_In_r2_tale (fr : List V) (H : Heap) : evTale (symAll s_bits_Set_In_r2 [8, 9] [5]) [8, 9] fr H = evTale (some (6, [], [(5, (.t 9))])) [8, 9] fr H := tale_row (items := [.tt 9]) (by kernel_rfl) fr H
def s_bits_Set_In_r3 : List AOper := [
  ⟨some 6, (.move (.t 10)), none⟩]
theorem s_bits_Set_In_r3_tale (fr : List V) (H : Heap) : evTale (symAll s_bits_Set_In_r3 [10] [6]) [10] fr H = evTale (some (7, [], [(6, (.t 10))])) [10] fr H := tale_row (items := [.tt 10]) (by kernel_rfl) fr H
def s_bits_Set_In_r4t2 : List AOper := [⟨some 15, (.bin .andNot (.t 11) (.t 14)), none⟩, ⟨some 16, (.bin .neq (.t 15) (.c (.s (.int .u64 0)))), none⟩]
def s_bits_Set_In_r4p1 : List AOper := [⟨some 14, (.call (.c (.fn 32 [] [])) [(.t 12), (.t 13)]), none⟩]
def s_bits_Set_In_r4t1 : List AOper := s_bits_Set_In_r4p1 ++ s_bits_Set_In_r4t2
def s_bits_Set_In_r4p0 : List AOper := [⟨some 11, (.move (.t 6)), none⟩, ⟨some 12, (.load false 1 (.t 3)), none⟩, ⟨some 13, (.move (.t 5)), none⟩]
def s_bits_Set_In_r4 : List AOper := s_bits_Set_In_r4p0 ++ s_bits_Set_In_r4t1
theorem s_bits_Set_In_r4p0_tale (fr : List V) (H : Heap) : evTale (symAll s_bits_Set_In_r4p0 [3, 5, 6] [11, 12, 13]) [3, 5, 6] fr H = evTale (some (14, [], [(11, (.t 6)), (12, (.op (.load false 1 (.t 0)) [(.t 3)])), (13, (.t 5))])) [3, 5, 6] fr H := tale_row (items := [.tt 6, .sub 1 [] [], .tt 5]) (by kernel_rfl) fr H
theorem s_bits_Set_In_r4_x (call : CallF) (it : IterF) (base : Nat) (f : List V) (H : Heap) : evC call it base (.region s_bits_Set_In_r4 [] [3, 5, 6, 11, 12, 13, 14, 15]) f H = segC call it base s_bits_Set_In_r4t1 [3, 5, 6, 11, 12, 13, 14, 15] H (evTale (symAll s_bits_Set_In_r4p0 [3, 5, 6] [11, 12, 13]) [3, 5, 6] f H) (origRow call it base s_bits_Set_In_r4 [3, 5, 6, 11, 12, 13, 14, 15] f H) := row_seg call it base s_bits_Set_In_r4p0 s_bits_Set_In_r4t1 (by kernel_rfl) f H
theorem s_bits_Set_In_r4t1_x (call : CallF) (it : IterF) (base : Nat) (f : List V) (H : Heap) : evC call it base (.region s_bits_Set_In_r4t1 [] [3, 5, 6, 11, 12, 13, 14, 15]) f H = thenC call it base (.region s_bits_Set_In_r4t2 [] [3, 5, 6, 11, 12, 13, 14, 15]) (opsC [] s_bits_Set_In_r4p1 [12, 13] (evOps call base [⟨some 14, (.call (.c (.fn 32 [] [])) [(.t 12), (.t 13)]), none⟩] f H)) := (row_op call it base s_bits_Set_In_r4p1 s_bits_Set_In_r4t2 (kc := [12, 13]) (by kernel_rfl) f H).trans (by rw [row_ops]; rfl)
theorem s_bits_Set_In_r4t2_tale (fr : List V) (H : Heap) : evTale (symAll s_bits_Set_In_r4t2 [3, 5, 6, 11, 12, 13, 14, 15] [16]) [3, 5, 6, 11, 12, 13, 14, 15] fr H = evTale (some (17, [], [(16, (.op (.bin .neq (.t 0) (.c (.s (.int .u64 0)))) [(.op (.bin .andNot (.t 0) (.t 1)) [(.t 11), (.t 14)]), (.c (.s (.int .u64 0)))]))])) [3, 5, 6, 11, 12, 13, 14, 15] fr H := tale_row (items := [.sub 0 [0] [], .sub 0 [] []]) (by kernel_rfl) fr H
theorem s_bits_Set_In_r4t2_x (call : CallF) (it : IterF) (base : Nat) (f : List V) (H : Heap) : evC call it base (.region s_bits_Set_In_r4t2 [] [3, 5, 6, 11, 12, 13, 14, 15]) f H = segL H (evTale (symAll s_bits_Set_In_r4t2 [3, 5, 6, 11, 12, 13, 14, 15] [16]) [3, 5, 6, 11, 12, 13, 14, 15] f H) (origRow call it base s_bits_Set_In_r4t2 [3, 5, 6, 11, 12, 13, 14, 15] f H) := row_last call it base _ f H
def s_bits_Set_In_r5 : List AOper := [⟨none, (.store 1 (.t 4) (.c (.s (.bool false)))), none⟩]
theorem s_bits_Set_In_r5_x (call : CallF) (it : IterF) (base : Nat) (f : List V) (H : Heap) : evC call it base (.region s_bits_Set_In_r5 [] [4, 16]) f H = opsC [] s_bits_Set_In_r5 [4, 16] (evOps call base [⟨none, (.store 1 (.t 4) (.c (.s (.bool false)))), none⟩] f H) := row_ops call it base _ _ f H
def s_bits_Set_In_a0 : ACode :=
  (.seq (.regionE s_bits_Set_In_r2 [8, 9] [5])
  (.regionE s_bits_Set_In_r3 [10] [6]))
def s_bits_Set_In_b0 : ACode :=
  (.block 1
  (.seq (.region s_bits_Set_In_r4 [] [3, 5, 6, 11, 12, 13, 14, 15])
  (.cond (.t 16)
  (.seq (.region s_bits_Set_In_r5 [] [4, 16])
  .ret)
  .skip)))
def s_bits_Set_In_r6 : List AOper := [⟨none, (.store 1 (.t 4) (.c (.s (.bool true)))), none⟩]
theorem s_bits_Set_In_r6_x (call : CallF) (it : IterF) (base : Nat) (f : List V) (H : Heap) : evC call it base (.region s_bits_Set_In_r6 [] [3, 8]) f H = opsC [] s_bits_Set_In_r6 [3, 8] (evOps call base [⟨none, (.store 1 (.t 4) (.c (.s (.bool true)))), none⟩] f H) := row_ops call it base _ _ f H
def s_bits_Set_In : ACFun := { ntmps := 17, results := [(.cell 4 false 1)], body :=
  (.seq (.region s_bits_Set_In_r0 [] s_bits_Set_In_r0_k)
  (.seq (.seq (.region s_bits_Set_In_r1 [] [0, 7])
  (.block 0
  (.rangeFunc (.t 8) [9, 10] s_bits_Set_In_a0 s_bits_Set_In_b0)))
  (.seq (.region s_bits_Set_In_r6 [] [3, 8])
  .ret))) }
theorem s_bits_Set_In_first : firstOk (List.range' 2 (s_bits_Set_In.ntmps - 2)) s_bits_Set_In.body = true := by kernel_rfl
abbrev k_bits_Set_put : Nat := 31
def s_bits_Set_put_r0_k : List Nat := [3, 4, 5, 6, 7, 8, 9, 10, 11, 12, 13, 14, 15, 16, 17, 18, 19, 20, 21, 22, 23, 24, 25, 26, 27, 28, 29, 30, 31, 32, 33, 34, 35]
theorem s_bits_Set_put_r0_k_kA0 : s_bits_Set_put_r0_k.contains 0 = false := by kernel_rfl
theorem s_bits_Set_put_r0_k_kA1 : s_bits_Set_put_r0_k.contains 1 = false := by kernel_rfl
theorem s_bits_Set_put_r0_k_kA2 : s_bits_Set_put_r0_k.contains 2 = false := by kernel_rfl
theorem s_bits_Set_put_r0_k_kA6 : s_bits_Set_put_r0_k.contains 6 = true := by kernel_rfl
theorem s_bits_Set_put_r0_k_kA7 : s_bits_Set_put_r0_k.contains 7 = true := by kernel_rfl
theorem s_bits_Set_put_r0_k_kA8 : s_bits_Set_put_r0_k.contains 8 = true := by kernel_rfl
theorem s_bits_Set_put_r0_k_kA9 : s_bits_Set_put_r0_k.contains 9 = true := by kernel_rfl
theorem s_bits_Set_put_r0_k_kA10 : s_bits_Set_put_r0_k.contains 10 = true := by kernel_rfl
theorem s_bits_Set_put_r0_k_kA11 : s_bits_Set_put_r0_k.contains 11 = true := by kernel_rfl
theorem s_bits_Set_put_r0_k_kA12 : s_bits_Set_put_r0_k.contains 12 = true := by kernel_rfl
theorem s_bits_Set_put_r0_k_kA13 : s_bits_Set_put_r0_k.contains 13 = true := by kernel_rfl
theorem s_bits_Set_put_r0_k_kA14 : s_bits_Set_put_r0_k.contains 14 = true := by kernel_rfl
theorem s_bits_Set_put_r0_k_kA15 : s_bits_Set_put_r0_k.contains 15 = true := by kernel_rfl
theorem s_bits_Set_put_r0_k_kA16 : s_bits_Set_put_r0_k.contains 16 = true := by kernel_rfl
theorem s_bits_Set_put_r0_k_kA17 : s_bits_Set_put_r0_k.contains 17 = true := by kernel_rfl
theorem s_bits_Set_put_r0_k_kA18 : s_bits_Set_put_r0_k.contains 18 = true := by kernel_rfl
theorem s_bits_Set_put_r0_k_kA19 : s_bits_Set_put_r0_k.contains 19 = true := by kernel_rfl
theorem s_bits_Set_put_r0_k_kA20 : s_bits_Set_put_r0_k.contains 20 = true := by kernel_rfl
theorem s_bits_Set_put_r0_k_kA21 : s_bits_Set_put_r0_k.contains 21 = true := by kernel_rfl
theorem s_bits_Set_put_r0_k_kA22 : s_bits_Set_put_r0_k.contains 22 = true := by kernel_rfl
def s_bits_Set_put_r0t5 : List AOper := [⟨none, (.store 1 (.t 22) (.t 20)), none⟩]
def s_bits_Set_put_r0p4 : List AOper := [⟨some 19, (.bin .sub (.t 11) (.t 18)), none⟩, ⟨some 20, (.bin .add (.t 9) (.t 19)), none⟩, ⟨some 21, (.nilCheck (.t 6)), none⟩, ⟨some 22, (.fieldAddr 1 (.t 21)), none⟩]
def s_bits_Set_put_r0t4 : List AOper := s_bits_Set_put_r0p4 ++ s_bits_Set_put_r0t5
def s_bits_Set_put_r0p3 : List AOper := [⟨some 18, (.callR (.c (.fn 40 [] [])) [(.t 17)]), none⟩]
def s_bits_Set_put_r0t3 : List AOper := s_bits_Set_put_r0p3 ++ s_bits_Set_put_r0t4
def s_bits_Set_put_r0p2 : List AOper := [⟨some 12, (.move (.t 0)), none⟩, ⟨some 13, (.nilCheck (.t 12)), none⟩, ⟨some 14, (.fieldAddr 0 (.t 13)), none⟩, ⟨some 15, (.load false 1 (.t 14)), none⟩, ⟨some 16, (.move (.t 1)), none⟩, ⟨some 17, (.mapGet (.int .i64) (.s (.int .u64 0)) (.t 15) (.t 16) false), none⟩]
def s_bits_Set_put_r0t2 : List AOper := s_bits_Set_put_r0p2 ++ s_bits_Set_put_r0t3
def s_bits_Set_put_r0p1 : List AOper := [⟨some 11, (.callR (.c (.fn 40 [] [])) [(.t 10)]), none⟩]
def s_bits_Set_put_r0t1 : List AOper := s_bits_Set_put_r0p1 ++ s_bits_Set_put_r0t2
def s_bits_Set_put_r0p0 : List AOper := [⟨some 6, (.move (.t 0)), none⟩, ⟨some 7, (.nilCheck (.t 6)), none⟩, ⟨some 8, (.fieldAddr 1 (.t 7)), none⟩, ⟨some 9, (.load false 1 (.t 8)), none⟩, ⟨some 10, (.move (.t 2)), none⟩]
def s_bits_Set_put_r0 : List AOper := s_bits_Set_put_r0p0 ++ s_bits_Set_put_r0t1
theorem s_bits_Set_put_r0p0_tale (fr : List V) (H : Heap) : evTale (symAll s_bits_Set_put_r0p0 [3, 4, 5, 7, 8, 11, 12, 13, 14, 15, 16, 17, 18, 19, 20, 21, 22, 23, 24, 25, 26, 27, 28, 29, 30, 31, 32, 33, 34, 35] [6, 9, 10]) [3, 4, 5, 7, 8, 11, 12, 13, 14, 15, 16, 17, 18, 19, 20, 21, 22, 23, 24, 25, 26, 27, 28, 29, 30, 31, 32, 33, 34, 35] fr H = evTale (some (11, [], [(6, (.t 0)), (9, (.op (.load false 1 (.t 0)) [(.op (.fieldAddr 1 (.t 0)) [(.op (.nilCheck (.t 0)) [(.t 0)])])])), (10, (.t 2))])) [3, 4, 5, 7, 8, 11, 12, 13, 14, 15, 16, 17, 18, 19, 20, 21, 22, 23, 24, 25, 26, 27, 28, 29, 30, 31, 32, 33, 34, 35] fr H := tale_row (items := [.tt 0, .sub 1 [0, 0] [], .sub 1 [0] [], .sub 1 [] [], .tt 2]) (by kernel_rfl) fr H
theorem s_bits_Set_put_r0_x (call : CallF) (it : IterF) (base : Nat) (f : List V) (H : Heap) : evC call it base (.region s_bits_Set_put_r0 [] s_bits_Set_put_r0_k) f H = segC call it base s_bits_Set_put_r0t1 s_bits_Set_put_r0_k H (evTale (symAll s_bits_Set_put_r0p0 [3, 4, 5, 7, 8, 11, 12, 13, 14, 15, 16, 17, 18, 19, 20, 21, 22, 23, 24, 25, 26, 27, 28, 29, 30, 31, 32, 33, 34, 35] [6, 9, 10]) [3, 4, 5, 7, 8, 11, 12, 13, 14, 15, 16, 17, 18, 19, 20, 21, 22, 23, 24, 25, 26, 27, 28, 29, 30, 31, 32, 33, 34, 35] f H) (origRow call it base s_bits_Set_put_r0 s_bits_Set_put_r0_k f H) := row_seg call it base s_bits_Set_put_r0p0 s_bits_Set_put_r0t1 (by kernel_rfl) f H
theorem s_bits_Set_put_r0t1_x (call : CallF) (it : IterF) (base : Nat) (f : List V) (H : Heap) : evC call it base (.region s_bits_Set_put_r0t1 [] s_bits_Set_put_r0_k) f H = thenC call it base (.region s_bits_Set_put_r0t2 [] s_bits_Set_put_r0_k) (opsC [] s_bits_Set_put_r0p1 [10] (evOps call base [⟨some 11, (.callR (.c (.fn 40 [] [])) [(.t 10)]), none⟩] f H)) := (row_op call it base s_bits_Set_put_r0p1 s_bits_Set_put_r0t2 (kc := [10]) (by kernel_rfl) f H).trans (by rw [row_ops]; rfl)
theorem s_bits_Set_put_r0p2_tale (fr : List V) (H : Heap) : evTale (symAll s_bits_Set_put_r0p2 [12, 13, 14, 15, 16] [17]) [12, 13, 14, 15, 16] fr H = evTale (some (18, [], [(17, (.op (.mapGet (.int .i64) (.s (.int .u64 0)) (.t 0) (.t 1) false) [(.op (.load false 1 (.t 0)) [(.op (.fieldAddr 0 (.t 0)) [(.op (.nilCheck (.t 0)) [(.t 0)])])]), (.t 1)]))])) [12, 13, 14, 15, 16] fr H := tale_row (items := [.tt 0, .sub 0 [0, 0, 0] [], .sub 0 [0, 0] [], .sub 0 [0] [], .tt 1, .sub 0 [] []]) (by kernel_rfl) fr H
theorem s_bits_Set_put_r0t2_x (call : CallF) (it : IterF) (base : Nat) (f : List V) (H : Heap) : evC call it base (.region s_bits_Set_put_r0t2 [] s_bits_Set_put_r0_k) f H = segC call it base s_bits_Set_put_r0t3 s_bits_Set_put_r0_k H (evTale (symAll s_bits_Set_put_r0p2 [12, 13, 14, 15, 16] [17]) [12, 13, 14, 15, 16] f H) (origRow call it base s_bits_Set_put_r0t2 s_bits_Set_put_r0_k f H) := row_seg call it base s_bits_Set_put_r0p2 s_bits_Set_put_r0t3 (by kernel_rfl) f H
theorem s_bits_Set_put_r0t3_x (call : CallF) (it : IterF) (base : Nat) (f : List V) (H : Heap) : evC call it base (.region s_bits_Set_put_r0t3 [] s_bits_Set_put_r0_k) f H = thenC call it base (.region s_bits_Set_put_r0t4 [] s_bits_Set_put_r0_k) (opsC [] s_bits_Set_put_r0p3 [17] (evOps call base [⟨some 18, (.callR (.c (.fn 40 [] [])) [(.t 17)]), none⟩] f H)) := (row_op call it base s_bits_Set_put_r0p3 s_bits_Set_put_r0t4 (kc := [17]) (by kernel_rfl) f H).trans (by rw [row_ops]; rfl)
theorem s_bits_Set_put_r0p4_tale (fr : List V) (H : Heap) : evTale (symAll s_bits_Set_put_r0p4 [6, 9, 11, 18, 19, 21] [20, 22]) [6, 9, 11, 18, 19, 21] fr H = evTale (some (23, [], [(20, (.op (.bin .add (.t 0) (.t 1)) [(.t 9), (.op (.bin .sub (.t 0) (.t 1)) [(.t 11), (.t 18)])])), (22, (.op (.fieldAddr 1 (.t 0)) [(.op (.nilCheck (.t 0)) [(.t 6)])]))])) [6, 9, 11, 18, 19, 21] fr H := tale_row (items := [.sub 0 [1] [], .sub 0 [] [], .sub 1 [0] [], .sub 1 [] []]) (by kernel_rfl) fr H
theorem s_bits_Set_put_r0t4_x (call : CallF) (it : IterF) (base : Nat) (f : List V) (H : Heap) : evC call it base (.region s_bits_Set_put_r0t4 [] s_bits_Set_put_r0_k) f H = segC call it base s_bits_Set_put_r0t5 s_bits_Set_put_r0_k H (evTale (symAll s_bits_Set_put_r0p4 [6, 9, 11, 18, 19, 21] [20, 22]) [6, 9, 11, 18, 19, 21] f H) (origRow call it base s_bits_Set_put_r0t4 s_bits_Set_put_r0_k f H) := row_seg call it base s_bits_Set_put_r0p4 s_bits_Set_put_r0t5 (by kernel_rfl) f H
theorem s_bits_Set_put_r0t5_x (call : CallF) (it : IterF) (base : Nat) (f : List V) (H : Heap) : evC call it base (.region s_bits_Set_put_r0t5 [] s_bits_Set_put_r0_k) f H = opsC [] s_bits_Set_put_r0t5 s_bits_Set_put_r0_k (evOps call base [⟨none, (.store 1 (.t 22) (.t 20)), none⟩] f H) := row_ops call it base _ _ f H
def s_bits_Set_put_r1 : List AOper := [
  ⟨some 23, (.move (.t 2)), none⟩,
  ⟨some 24, (.bin .eql (.t 23) (.c (.s (.int .u64 0)))), none⟩]
theorem s_bits_Set_put_r1_tale (fr : List V) (H : Heap) : evTale (symAll s_bits_Set_put_r1 [23] [24]) [23] fr H = evTale (some (25, [], [(24, (.op (.bin .eql (.t 0) (.c (.s (.int .u64 0)))) [(.t 2), (.c (.s (.int .u64 0)))]))])) [23] fr H := tale_row (items := [.tt 2, .sub 0 [] []]) (by kernel_rfl) fr H
def s_bits_Set_put_r2t1 : List AOper := [⟨none, (.delete (.int .i64) (.t 28) (.t 29)), none⟩]
def s_bits_Set_put_r2p0 : List AOper := [⟨some 25, (.move (.t 0)), none⟩, ⟨some 26, (.nilCheck (.t 25)), none⟩, ⟨some 27, (.fieldAddr 0 (.t 26)), none⟩, ⟨some 28, (.load false 1 (.t 27)), none⟩, ⟨some 29, (.move (.t 1)), none⟩]
def s_bits_Set_put_r2 : List AOper := s_bits_Set_put_r2p0 ++ s_bits_Set_put_r2t1
theorem s_bits_Set_put_r2p0_tale (fr : List V) (H : Heap) : evTale (symAll s_bits_Set_put_r2p0 [0, 1, 2, 24, 25, 26, 27] [28, 29]) [0, 1, 2, 24, 25, 26, 27] fr H = evTale (some (30, [], [(28, (.op (.load false 1 (.t 0)) [(.op (.fieldAddr 0 (.t 0)) [(.op (.nilCheck (.t 0)) [(.t 0)])])])), (29, (.t 1))])) [0, 1, 2, 24, 25, 26, 27] fr H := tale_row (items := [.tt 0, .sub 0 [0, 0] [], .sub 0 [0] [], .sub 0 [] [], .tt 1]) (by kernel_rfl) fr H
theorem s_bits_Set_put_r2_x (call : CallF) (it : IterF) (base : Nat) (f : List V) (H : Heap) : evC call it base (.region s_bits_Set_put_r2 [] [0, 1, 2, 24, 25, 26, 27, 28, 29]) f H = segC call it base s_bits_Set_put_r2t1 [0, 1, 2, 24, 25, 26, 27, 28, 29] H (evTale (symAll s_bits_Set_put_r2p0 [0, 1, 2, 24, 25, 26, 27] [28, 29]) [0, 1, 2, 24, 25, 26, 27] f H) (origRow call it base s_bits_Set_put_r2 [0, 1, 2, 24, 25, 26, 27, 28, 29] f H) := row_seg call it base s_bits_Set_put_r2p0 s_bits_Set_put_r2t1 (by kernel_rfl) f H
theorem s_bits_Set_put_r2t1_x (call : CallF) (it : IterF) (base : Nat) (f : List V) (H : Heap) : evC call it base (.region s_bits_Set_put_r2t1 [] [0, 1, 2, 24, 25, 26, 27, 28, 29]) f H = opsC [] s_bits_Set_put_r2t1 [0, 1, 2, 24, 25, 26, 27, 28, 29] (evOps call base [⟨none, (.delete (.int .i64) (.t 28) (.t 29)), none⟩] f H) := row_ops call it base _ _ f H
def s_bits_Set_put_r3t1 : List AOper := [⟨none, (.mapUpd (.int .i64) (.t 33) (.t 34) (.t 35)), none⟩]
def s_bits_Set_put_r3p0 : List AOper := [⟨some 30, (.move (.t 0)), none⟩, ⟨some 31, (.nilCheck (.t 30)), none⟩, ⟨some 32, (.fieldAddr 0 (.t 31)), none⟩, ⟨some 33, (.load false 1 (.t 32)), none⟩, ⟨some 34, (.move (.t 1)), none⟩, ⟨some 35, (.move (.t 2)), none⟩]
def s_bits_Set_put_r3 : List AOper := s_bits_Set_put_r3p0 ++ s_bits_Set_put_r3t1
theorem s_bits_Set_put_r3p0_tale (fr : List V) (H : Heap) : evTale (symAll s_bits_Set_put_r3p0 [0, 1, 2, 24, 30, 31, 32] [33, 34, 35]) [0, 1, 2, 24, 30, 31, 32] fr H = evTale (some (36, [], [(33, (.op (.load false 1 (.t 0)) [(.op (.fieldAddr 0 (.t 0)) [(.op (.nilCheck (.t 0)) [(.t 0)])])])), (34, (.t 1)), (35, (.t 2))])) [0, 1, 2, 24, 30, 31, 32] fr H := tale_row (items := [.tt 0, .sub 0 [0, 0] [], .sub 0 [0] [], .sub 0 [] [], .tt 1, .tt 2]) (by kernel_rfl) fr H
theorem s_bits_Set_put_r3_x (call : CallF) (it : IterF) (base : Nat) (f : List V) (H : Heap) : evC call it base (.region s_bits_Set_put_r3 [] [0, 1, 2, 24, 30, 31, 32, 33, 34, 35]) f H = segC call it base s_bits_Set_put_r3t1 [0, 1, 2, 24, 30, 31, 32, 33, 34, 35] H (evTale (symAll s_bits_Set_put_r3p0 [0, 1, 2, 24, 30, 31, 32] [33, 34, 35]) [0, 1, 2, 24, 30, 31, 32] f H) (origRow call it base s_bits_Set_put_r3 [0, 1, 2, 24, 30, 31, 32, 33, 34, 35] f H) := row_seg call it base s_bits_Set_put_r3p0 s_bits_Set_put_r3t1 (by kernel_rfl) f H
theorem s_bits_Set_put_r3t1_x (call : CallF) (it : IterF) (base : Nat) (f : List V) (H : Heap) : evC call it base (.region s_bits_Set_put_r3t1 [] [0, 1, 2, 24, 30, 31, 32, 33, 34, 35]) f H = opsC [] s_bits_Set_put_r3t1 [0, 1, 2, 24, 30, 31, 32, 33, 34, 35] (evOps call base [⟨none, (.mapUpd (.int .i64) (.t 33) (.t 34) (.t 35)), none⟩] f H) := row_ops call it base _ _ f H
def s_bits_Set_put : ACFun := { ntmps := 36, results := [], body :=
  (.seq (.region s_bits_Set_put_r0 [] s_bits_Set_put_r0_k)
  (.seq (.regionE s_bits_Set_put_r1 [23] [24])
  (.cond (.t 24)
  (.region s_bits_Set_put_r2 [] [0, 1, 2, 24, 25, 26, 27, 28, 29])
  (.region s_bits_Set_put_r3 [] [0, 1, 2, 24, 30, 31, 32, 33, 34, 35])))) }
theorem s_bits_Set_put_first : firstOk (List.range' 3 (s_bits_Set_put.ntmps - 3)) s_bits_Set_put.body = true := by kernel_rfl
abbrev k_bits_Set_at : Nat := 32
def s_bits_Set_at_r0_k : List Nat := [2, 3, 4, 5, 6, 7, 8, 9, 10, 11, 12]
theorem s_bits_Set_at_r0_kT : killV s_bits_Set_at_r0_k (startV 13 [] 2) = [] := by kernel_rfl
theorem s_bits_Set_at_r0_kA0 : s_bits_Set_at_r0_k.contains 0 = false := by kernel_rfl
theorem s_bits_Set_at_r0_kA1 : s_bits_Set_at_r0_k.contains 1 = false := by kernel_rfl
def s_bits_Set_at_r0 : List AOper := [
  ⟨some 4, (.move (.c (.s (.int .u64 0)))), none⟩]
theorem s_bits_Set_at_r0_tale (fr : List V) (H : Heap) : evTale (symAll s_bits_Set_at_r0 s_bits_Set_at_r0_k []) s_bits_Set_at_r0_k fr H = evTale (some (5, [], [])) s_bits_Set_at_r0_k fr H := tale_row (items := [.cc (.s (.int .u64 0))]) (by kernel_rfl) fr H
def s_bits_Set_at_r1 : List AOper := [
  ⟨some 5, (.move (.t 0)), none⟩,
  ⟨some 6, (.eqNil .p false (.t 5)), none⟩]
theorem s_bits_Set_at_r1_tale (fr : List V) (H : Heap) : evTale (symAll s_bits_Set_at_r1 [5] [6]) [5] fr H = evTale (some (7, [], [(6, (.op (.eqNil .p false (.t 0)) [(.t 0)]))])) [5] fr H := tale_row (items := [.tt 0, .sub 0 [] []]) (by kernel_rfl) fr H
def s_bits_Set_at_r2 : List AOper := [
  ⟨some 4, (.move (.c (.s (.int .u64 0)))), none⟩]
theorem s_bits_Set_at_r2_tale (fr : List V) (H : Heap) : evTale (symAll s_bits_Set_at_r2 [0, 1, 6] [4]) [0, 1, 6] fr H = evTale (some (5, [], [(4, (.c (.s (.int .u64 0))))])) [0, 1, 6] fr H := tale_row (items := [.cc (.s (.int .u64 0))]) (by kernel_rfl) fr H
def s_bits_Set_at_r3 : List AOper := [
  ⟨some 7, (.move (.t 0)), none⟩,
  ⟨some 8, (.nilCheck (.t 7)), none⟩,
  ⟨some 9, (.fieldAddr 0 (.t 8)), none⟩,
  ⟨some 10, (.load false 1 (.t 9)), none⟩,
  ⟨some 11, (.move (.t 1)), none⟩,
  ⟨some 12, (.mapGet (.int .i64) (.s (.int .u64 0)) (.t 10) (.t 11) false), none⟩,
  ⟨some 4, (.move (.t 12)), none⟩]
theorem s_bits_Set_at_r3_tale (fr : List V) (H : Heap) : evTale (symAll s_bits_Set_at_r3 [0, 1, 6, 7, 8, 9, 10, 11, 12] [4]) [0, 1, 6, 7, 8, 9, 10, 11, 12] fr H = evTale (some (13, [], [(4, (.op (.mapGet (.int .i64) (.s (.int .u64 0)) (.t 0) (.t 1) false) [(.op (.load false 1 (.t 0)) [(.op (.fieldAddr 0 (.t 0)) [(.op (.nilCheck (.t 0)) [(.t 0)])])]), (.t 1)]))])) [0, 1, 6, 7, 8, 9, 10, 11, 12] fr H := tale_row (items := [.tt 0, .sub 0 [0, 0, 0] [], .sub 0 [0, 0] [], .sub 0 [0] [], .tt 1, .sub 0 [] [], .sub 0 [] []]) (by kernel_rfl) fr H
def s_bits_Set_at : ACFun := { ntmps := 13, results := [(.tmp 4)], body :=
  (.seq (.regionE s_bits_Set_at_r0 s_bits_Set_at_r0_k [])
  (.seq (.seq (.regionE s_bits_Set_at_r1 [5] [6])
  (.cond (.t 6)
  (.seq (.regionE s_bits_Set_at_r2 [0, 1, 6] [4])
  .ret)
  .skip))
  (.seq (.regionE s_bits_Set_at_r3 [0, 1, 6, 7, 8, 9, 10, 11, 12] [4])
  .ret))) }
abbrev k_bits_Set_all : Nat := 33
def s_bits_Set_all_r0_k : List Nat := [0, 2, 3]
theorem s_bits_Set_all_r0_k_kA0 : s_bits_Set_all_r0_k.contains 0 = true := by kernel_rfl
theorem s_bits_Set_all_r0_k_kA1 : s_bits_Set_all_r0_k.contains 1 = false := by kernel_rfl
theorem s_bits_Set_all_r0_k_kA2 : s_bits_Set_all_r0_k.contains 2 = true := by kernel_rfl
def s_bits_Set_all_r0t1 : List AOper := [⟨some 2, (.move (.c (.s .nilFunc))), none⟩]
def s_bits_Set_all_r0p0 : List AOper := [⟨some 1, (.box (.t 0)), none⟩]
def s_bits_Set_all_r0 : List AOper := s_bits_Set_all_r0p0 ++ s_bits_Set_all_r0t1
theorem s_bits_Set_all_r0_x (call : CallF) (it : IterF) (base : Nat) (f : List V) (H : Heap) : evC call it base (.region s_bits_Set_all_r0 [] s_bits_Set_all_r0_k) f H = thenC call it base (.region s_bits_Set_all_r0t1 [] s_bits_Set_all_r0_k) (opsC [] s_bits_Set_all_r0p0 [0, 2, 3] (evOps call base [⟨some 1, (.box (.t 0)), none⟩] f H)) := (row_op call it base s_bits_Set_all_r0p0 s_bits_Set_all_r0t1 (kc := [0, 2, 3]) (by kernel_rfl) f H).trans (by rw [row_ops]; rfl)
theorem s_bits_Set_all_r0t1_tale (fr : List V) (H : Heap) : evTale (symAll s_bits_Set_all_r0t1 s_bits_Set_all_r0_k []) s_bits_Set_all_r0_k fr H = evTale (some (3, [], [])) s_bits_Set_all_r0_k fr H := tale_row (items := [.cc (.s .nilFunc)]) (by kernel_rfl) fr H
theorem s_bits_Set_all_r0t1_x (call : CallF) (it : IterF) (base : Nat) (f : List V) (H : Heap) : evC call it base (.region s_bits_Set_all_r0t1 [] s_bits_Set_all_r0_k) f H = segL H (evTale (symAll s_bits_Set_all_r0t1 s_bits_Set_all_r0_k []) s_bits_Set_all_r0_k f H) (origRow call it base s_bits_Set_all_r0t1 s_bits_Set_all_r0_k f H) := row_last call it base _ f H
def s_bits_Set_all_r1 : List AOper := [
  ⟨some 3, (.mkFn 41 [] [(.t 1)]), none⟩,
  ⟨some 2, (.move (.t 3)), none⟩]
theorem s_bits_Set_all_r1_tale (fr : List V) (H : Heap) : evTale (symAll s_bits_Set_all_r1 [1, 3] [2]) [1, 3] fr H = evTale (some (4, [], [(2, (.op (.mkFn 41 [] [(.t 0)]) [(.t 1)]))])) [1, 3] fr H := tale_row (items := [.sub 0 [] [], .sub 0 [] []]) (by kernel_rfl) fr H
def s_bits_Set_all : ACFun := { ntmps := 4, results := [(.tmp 2)], body :=
  (.seq (.region s_bits_Set_all_r0 [] s_bits_Set_all_r0_k)
  (.seq (.regionE s_bits_Set_all_r1 [1, 3] [2])
  .ret)) }
theorem s_bits_Set_all_first : firstOk (List.range' 1 (s_bits_Set_all.ntmps - 1)) s_bits_Set_all.body = true := by kernel_rfl
abbrev k_bits_Set_pick : Nat := 36
def s_bits_Set_pick_r0_k : List Nat := [1, 2, 3, 6, 7, 8, 9, 10, 11, 12, 13, 14, 15, 16, 17, 18, 19, 20, 21, 22, 23, 24]
theorem s_bits_Set_pick_r0_k_kA0 : s_bits_Set_pick_r0_k.contains 0 = false := by kernel_rfl
theorem s_bits_Set_pick_r0_k_kA1 : s_bits_Set_pick_r0_k.contains 1 = true := by kernel_rfl
theorem s_bits_Set_pick_r0_k_kA2 : s_bits_Set_pick_r0_k.contains 2 = true := by kernel_rfl
theorem s_bits_Set_pick_r0_k_kA4 : s_bits_Set_pick_r0_k.contains 4 = false := by kernel_rfl
theorem s_bits_Set_pick_r0_k_kA5 : s_bits_Set_pick_r0_k.contains 5 = false := by kernel_rfl
theorem s_bits_Set_pick_r0_k_kA6 : s_bits_Set_pick_r0_k.contains 6 = true := by kernel_rfl
def s_bits_Set_pick_r0t2 : List AOper := [⟨some 6, (.move (.c (.s (.pointer none)))), none⟩]
def s_bits_Set_pick_r0p1 : List AOper := [⟨some 5, (.box (.t 2)), none⟩]
def s_bits_Set_pick_r0t1 : List AOper := s_bits_Set_pick_r0p1 ++ s_bits_Set_pick_r0t2
def s_bits_Set_pick_r0p0 : List AOper := [⟨some 4, (.box (.t 1)), none⟩]
def s_bits_Set_pick_r0 : List AOper := s_bits_Set_pick_r0p0 ++ s_bits_Set_pick_r0t1
theorem s_bits_Set_pick_r0_x (call : CallF) (it : IterF) (base : Nat) (f : List V) (H : Heap) : evC call it base (.region s_bits_Set_pick_r0 [] s_bits_Set_pick_r0_k) f H = thenC call it base (.region s_bits_Set_pick_r0t1 [] s_bits_Set_pick_r0_k) (opsC [] s_bits_Set_pick_r0p0 [1, 3, 5, 6, 7, 8, 9, 10, 11, 12, 13, 14, 15, 16, 17, 18, 19, 20, 21, 22, 23, 24] (evOps call base [⟨some 4, (.box (.t 1)), none⟩] f H)) := (row_op call it base s_bits_Set_pick_r0p0 s_bits_Set_pick_r0t1 (kc := [1, 3, 5, 6, 7, 8, 9, 10, 11, 12, 13, 14, 15, 16, 17, 18, 19, 20, 21, 22, 23, 24]) (by kernel_rfl) f H).trans (by rw [row_ops]; rfl)
theorem s_bits_Set_pick_r0t1_x (call : CallF) (it : IterF) (base : Nat) (f : List V) (H : Heap) : evC call it base (.region s_bits_Set_pick_r0t1 [] s_bits_Set_pick_r0_k) f H = thenC call it base (.region s_bits_Set_pick_r0t2 [] s_bits_Set_pick_r0_k) (opsC [] s_bits_Set_pick_r0p1 [2] (evOps call base [⟨some 5, (.box (.t 2)), none⟩] f H)) := (row_op call it base s_bits_Set_pick_r0p1 s_bits_Set_pick_r0t2 (kc := [2]) (by kernel_rfl) f H).trans (by rw [row_ops]; rfl)
theorem s_bits_Set_pick_r0t2_tale (fr : List V) (H : Heap) : evTale (symAll s_bits_Set_pick_r0t2 s_bits_Set_pick_r0_k []) s_bits_Set_pick_r0_k fr H = evTale (some (7, [], [])) s_bits_Set_pick_r0_k fr H := tale_row (items := [.cc (.s (.pointer none))]) (by kernel_rfl) fr H
theorem s_bits_Set_pick_r0t2_x (call : CallF) (it : IterF) (base : Nat) (f : List V) (H : Heap) : evC call it base (.region s_bits_Set_pick_r0t2 [] s_bits_Set_pick_r0_k) f H = segL H (evTale (symAll s_bits_Set_pick_r0t2 s_bits_Set_pick_r0_k []) s_bits_Set_pick_r0_k f H) (origRow call it base s_bits_Set_pick_r0t2 s_bits_Set_pick_r0_k f H) := row_last call it base _ f H
def s_bits_Set_pick_r1t2 : List AOper := [⟨none, (.store 1 (.t 7) (.t 10)), none⟩]
def s_bits_Set_pick_r1p1 : List AOper := [⟨some 7, (.alloc [(.s (.pointer none))]), none⟩]
def s_bits_Set_pick_r1t1 : List AOper := s_bits_Set_pick_r1p1 ++ s_bits_Set_pick_r1t2
def s_bits_Set_pick_r1p0 : List AOper := [⟨some 10, (.call (.c (.fn 11 [] [])) [(.c (.s (.slice none 0 0)))]), none⟩]
def s_bits_Set_pick_r1 : List AOper := s_bits_Set_pick_r1p0 ++ s_bits_Set_pick_r1t1
theorem s_bits_Set_pick_r1_x (call : CallF) (it : IterF) (base : Nat) (f : List V) (H : Heap) : evC call it base (.region s_bits_Set_pick_r1 [] [10]) f H = thenC call it base (.region s_bits_Set_pick_r1t1 [] [10]) (opsC [] s_bits_Set_pick_r1p0 [] (evOps call base [⟨some 10, (.call (.c (.fn 11 [] [])) [(.c (.s (.slice none 0 0)))]), none⟩] f H)) := (row_op call it base s_bits_Set_pick_r1p0 s_bits_Set_pick_r1t1 (kc := []) (by kernel_rfl) f H).trans (by rw [row_ops]; rfl)
theorem s_bits_Set_pick_r1t1_x (call : CallF) (it : IterF) (base : Nat) (f : List V) (H : Heap) : evC call it base (.region s_bits_Set_pick_r1t1 [] [10]) f H = thenC call it base (.region s_bits_Set_pick_r1t2 [] [10]) (opsC [] s_bits_Set_pick_r1p1 [] (evOps call base [⟨some 7, (.alloc [(.s (.pointer none))]), none⟩] f H)) := (row_op call it base s_bits_Set_pick_r1p1 s_bits_Set_pick_r1t2 (kc := []) (by kernel_rfl) f H).trans (by rw [row_ops]; rfl)
theorem s_bits_Set_pick_r1t2_x (call : CallF) (it : IterF) (base : Nat) (f : List V) (H : Heap) : evC call it base (.region s_bits_Set_pick_r1t2 [] [10]) f H = opsC [] s_bits_Set_pick_r1t2 [10] (evOps call base [⟨none, (.store 1 (.t 7) (.t 10)), none⟩] f H) := row_ops call it base _ _ f H
def s_bits_Set_pick_r2t1 : List AOper := [⟨some 12, (.call (.c (.fn 33 [] [])) [(.t 11)]), none⟩]
def s_bits_Set_pick_r2p0 : List AOper := [⟨some 11, (.move (.t 0)), none⟩]
def s_bits_Set_pick_r2 : List AOper := s_bits_Set_pick_r2p0 ++ s_bits_Set_pick_r2t1
theorem s_bits_Set_pick_r2p0_tale (fr : List V) (H : Heap) : evTale (symAll s_bits_Set_pick_r2p0 [0] [11]) [0] fr H = evTale (some (12, [], [(11, (.t 0))])) [0] fr H := tale_row (items := [.tt 0]) (by kernel_rfl) fr H
theorem s_bits_Set_pick_r2_x (call : CallF) (it : IterF) (base : Nat) (f : List V) (H : Heap) : evC call it base (.region s_bits_Set_pick_r2 [] [0, 11]) f H = segC call it base s_bits_Set_pick_r2t1 [0, 11] H (evTale (symAll s_bits_Set_pick_r2p0 [0] [11]) [0] f H) (origRow call it base s_bits_Set_pick_r2 [0, 11] f H) := row_seg call it base s_bits_Set_pick_r2p0 s_bits_Set_pick_r2t1 (by kernel_rfl) f H
theorem s_bits_Set_pick_r2t1_x (call : CallF) (it : IterF) (base : Nat) (f : List V) (H : Heap) : evC call it base (.region s_bits_Set_pick_r2t1 [] [0, 11]) f H = opsC [] s_bits_Set_pick_r2t1 [0, 11] (evOps call base [⟨some 12, (.call (.c (.fn 33 [] [])) [(.t 11)]), none⟩] f H) := row_ops call it base _ _ f H
def s_bits_Set_pick_r3 : List AOper := [
  ⟨some 8, (.move (.t 13)), none⟩]
theorem s_bits_Set_pick_r3_tale (fr : List V) (H : Heap) : evTale (symAll s_bits_Set_pick_r3 [12, 13] [8]) [12, 13] fr H = evTale (some (9, [], [(8, (.t 13))])) [12, 13] fr H := tale_row (items := [.tt 13]) (by kernel_rfl) fr H
def s_bits_Set_pick_r4 : List AOper := [
  ⟨some 9, (.move (.t 14)), none⟩]
theorem s_bits_Set_pick_r4_tale (fr : List V) (H : Heap) : evTale (symAll s_bits_Set_pick_r4 [14] [9]) [14] fr H = evTale (some (10, [], [(9, (.t 14))])) [14] fr H := tale_row (items := [.tt 14]) (by kernel_rfl) fr H
def s_bits_Set_pick_r5t3 : List AOper := [⟨some 23, (.call (.c (.fn 31 [] [])) [(.t 15), (.t 16), (.t 22)]), none⟩]
def s_bits_Set_pick_r5p2 : List AOper := [⟨some 22, (.callR (.t 17) [(.t 18), (.t 21)]), none⟩]
def s_bits_Set_pick_r5t2 : List AOper := s_bits_Set_pick_r5p2 ++ s_bits_Set_pick_r5t3
def s_bits_Set_pick_r5p1 : List AOper := [⟨some 21, (.callR (.c (.fn 32 [] [])) [(.t 19), (.t 20)]), none⟩]
def s_bits_Set_pick_r5t1 : List AOper := s_bits_Set_pick_r5p1 ++ s_bits_Set_pick_r5t2
def s_bits_Set_pick_r5p0 : List AOper := [⟨some 15, (.load false 1 (.t 7)), none⟩, ⟨some 16, (.move (.t 8)), none⟩, ⟨some 17, (.load false 1 (.t 5)), none⟩, ⟨some 18, (.move (.t 9)), none⟩, ⟨some 19, (.load false 1 (.t 4)), none⟩, ⟨some 20, (.move (.t 8)), none⟩]
def s_bits_Set_pick_r5 : List AOper := s_bits_Set_pick_r5p0 ++ s_bits_Set_pick_r5t1
theorem s_bits_Set_pick_r5p0_tale (fr : List V) (H : Heap) : evTale (symAll s_bits_Set_pick_r5p0 [4, 5, 7, 8, 9] [15, 16, 17, 18, 19, 20]) [4, 5, 7, 8, 9] fr H = evTale (some (21, [], [(15, (.op (.load false 1 (.t 0)) [(.t 7)])), (16, (.t 8)), (17, (.op (.load false 1 (.t 0)) [(.t 5)])), (18, (.t 9)), (19, (.op (.load false 1 (.t 0)) [(.t 4)])), (20, (.t 8))])) [4, 5, 7, 8, 9] fr H := tale_row (items := [.sub 0 [] [], .tt 8, .sub 2 [] [], .tt 9, .sub 4 [] [], .tt 8]) (by kernel_rfl) fr H
theorem s_bits_Set_pick_r5_x (call : CallF) (it : IterF) (base : Nat) (f : List V) (H : Heap) : evC call it base (.region s_bits_Set_pick_r5 [] [4, 5, 7, 8, 9, 15, 16, 17, 18, 19, 20, 21, 22, 23]) f H = segC call it base s_bits_Set_pick_r5t1 [4, 5, 7, 8, 9, 15, 16, 17, 18, 19, 20, 21, 22, 23] H (evTale (symAll s_bits_Set_pick_r5p0 [4, 5, 7, 8, 9] [15, 16, 17, 18, 19, 20]) [4, 5, 7, 8, 9] f H) (origRow call it base s_bits_Set_pick_r5 [4, 5, 7, 8, 9, 15, 16, 17, 18, 19, 20, 21, 22, 23] f H) := row_seg call it base s_bits_Set_pick_r5p0 s_bits_Set_pick_r5t1 (by kernel_rfl) f H
theorem s_bits_Set_pick_r5t1_x (call : CallF) (it : IterF) (base : Nat) (f : List V) (H : Heap) : evC call it base (.region s_bits_Set_pick_r5t1 [] [4, 5, 7, 8, 9, 15, 16, 17, 18, 19, 20, 21, 22, 23]) f H = thenC call it base (.region s_bits_Set_pick_r5t2 [] [4, 5, 7, 8, 9, 15, 16, 17, 18, 19, 20, 21, 22, 23]) (opsC [] s_bits_Set_pick_r5p1 [19, 20] (evOps call base [⟨some 21, (.callR (.c (.fn 32 [] [])) [(.t 19), (.t 20)]), none⟩] f H)) := (row_op call it base s_bits_Set_pick_r5p1 s_bits_Set_pick_r5t2 (kc := [19, 20]) (by kernel_rfl) f H).trans (by rw [row_ops]; rfl)
theorem s_bits_Set_pick_r5t2_x (call : CallF) (it : IterF) (base : Nat) (f : List V) (H : Heap) : evC call it base (.region s_bits_Set_pick_r5t2 [] [4, 5, 7, 8, 9, 15, 16, 17, 18, 19, 20, 21, 22, 23]) f H = thenC call it base (.region s_bits_Set_pick_r5t3 [] [4, 5, 7, 8, 9, 15, 16, 17, 18, 19, 20, 21, 22, 23]) (opsC [] s_bits_Set_pick_r5p2 [17, 18, 21] (evOps call base [⟨some 22, (.callR (.t 17) [(.t 18), (.t 21)]), none⟩] f H)) := (row_op call it base s_bits_Set_pick_r5p2 s_bits_Set_pick_r5t3 (kc := [17, 18, 21]) (by kernel_rfl) f H).trans (by rw [row_ops]; rfl)
theorem s_bits_Set_pick_r5t3_x (call : CallF) (it : IterF) (base : Nat) (f : List V) (H : Heap) : evC call it base (.region s_bits_Set_pick_r5t3 [] [4, 5, 7, 8, 9, 15, 16, 17, 18, 19, 20, 21, 22, 23]) f H = opsC [] s_bits_Set_pick_r5t3 [4, 5, 7, 8, 9, 15, 16, 17, 18, 19, 20, 21, 22, 23] (evOps call base [⟨some 23, (.call (.c (.fn 31 [] [])) [(.t 15), (.t 16), (.t 22)]), none⟩] f H) := row_ops call it base _ _ f H
def s_bits_Set_pick_a0 : ACode :=
  (.seq (.regionE s_bits_Set_pick_r3 [12, 13] [8])
  (.regionE s_bits_Set_pick_r4 [14] [9]))
def s_bits_Set_pick_b0 : ACode :=
  (.block 1
  (.region s_bits_Set_pick_r5 [] [4, 5, 7, 8, 9, 15, 16, 17, 18, 19, 20, 21, 22, 23]))
def s_bits_Set_pick_r6 : List AOper := [
  ⟨some 24, (.load false 1 (.t 7)), none⟩,
  ⟨some 6, (.move (.t 24)), none⟩]
theorem s_bits_Set_pick_r6_tale (fr : List V) (H : Heap) : evTale (symAll s_bits_Set_pick_r6 [4, 5, 7, 12, 24] [6]) [4, 5, 7, 12, 24] fr H = evTale (some (25, [], [(6, (.op (.load false 1 (.t 0)) [(.t 7)]))])) [4, 5, 7, 12, 24] fr H := tale_row (items := [.sub 0 [] [], .sub 0 [] []]) (by kernel_rfl) fr H
def s_bits_Set_pick : ACFun := { ntmps := 25, results := [(.tmp 6)], body :=
  (.seq (.region s_bits_Set_pick_r0 [] s_bits_Set_pick_r0_k)
  (.seq (.region s_bits_Set_pick_r1 [] [10])
  (.seq (.seq (.region s_bits_Set_pick_r2 [] [0, 11])
  (.block 0
  (.rangeFunc (.t 12) [13, 14] s_bits_Set_pick_a0 s_bits_Set_pick_b0)))
  (.seq (.regionE s_bits_Set_pick_r6 [4, 5, 7, 12, 24] [6])
  .ret)))) }
theorem s_bits_Set_pick_first : firstOk (List.range' 3 (s_bits_Set_pick.ntmps - 3)) s_bits_Set_pick.body = true := by kernel_rfl
abbrev k_bits_Set_Minus_1 : Nat := 37
def s_bits_Set_Minus_1_r0_k : List Nat := [2, 3, 4, 5, 6, 7]
theorem s_bits_Set_Minus_1_r0_kT : killV s_bits_Set_Minus_1_r0_k (startV 8 [] 2) = [] := by kernel_rfl
theorem s_bits_Set_Minus_1_r0_kA0 : s_bits_Set_Minus_1_r0_k.contains 0 = false := by kernel_rfl
theorem s_bits_Set_Minus_1_r0_kA1 : s_bits_Set_Minus_1_r0_k.contains 1 = false := by kernel_rfl
def s_bits_Set_Minus_1_r0 : List AOper := [
  ⟨some 4, (.move (.c (.s (.int .u64 0)))), none⟩]
theorem s_bits_Set_Minus_1_r0_tale (fr : List V) (H : Heap) : evTale (symAll s_bits_Set_Minus_1_r0 s_bits_Set_Minus_1_r0_k []) s_bits_Set_Minus_1_r0_k fr H = evTale (some (5, [], [])) s_bits_Set_Minus_1_r0_k fr H := tale_row (items := [.cc (.s (.int .u64 0))]) (by kernel_rfl) fr H
def s_bits_Set_Minus_1_r1 : List AOper := [
  ⟨some 5, (.move (.t 0)), none⟩,
  ⟨some 6, (.move (.t 1)), none⟩,
  ⟨some 7, (.bin .andNot (.t 5) (.t 6)), none⟩,
  ⟨some 4, (.move (.t 7)), none⟩]
theorem s_bits_Set_Minus_1_r1_tale (fr : List V) (H : Heap) : evTale (symAll s_bits_Set_Minus_1_r1 [0, 1, 5, 6, 7] [4]) [0, 1, 5, 6, 7] fr H = evTale (some (8, [], [(4, (.op (.bin .andNot (.t 0) (.t 1)) [(.t 0), (.t 1)]))])) [0, 1, 5, 6, 7] fr H := tale_row (items := [.tt 0, .tt 1, .sub 0 [] [], .sub 0 [] []]) (by kernel_rfl) fr H
def s_bits_Set_Minus_1 : ACFun := { ntmps := 8, results := [(.tmp 4)], body :=
  (.seq (.regionE s_bits_Set_Minus_1_r0 s_bits_Set_Minus_1_r0_k [])
  (.seq (.regionE s_bits_Set_Minus_1_r1 [0, 1, 5, 6, 7] [4])
  .ret)) }
abbrev k_bits_Set_Both_1 : Nat := 38
def s_bits_Set_Both_1_r0_k : List Nat := [2, 3, 4, 5, 6, 7]
theorem s_bits_Set_Both_1_r0_kT : killV s_bits_Set_Both_1_r0_k (startV 8 [] 2) = [] := by kernel_rfl
theorem s_bits_Set_Both_1_r0_kA0 : s_bits_Set_Both_1_r0_k.contains 0 = false := by kernel_rfl
theorem s_bits_Set_Both_1_r0_kA1 : s_bits_Set_Both_1_r0_k.contains 1 = false := by kernel_rfl
def s_bits_Set_Both_1_r0 : List AOper := [
  ⟨some 4, (.move (.c (.s (.int .u64 0)))), none⟩]
theorem s_bits_Set_Both_1_r0_tale (fr : List V) (H : Heap) : evTale (symAll s_bits_Set_Both_1_r0 s_bits_Set_Both_1_r0_k []) s_bits_Set_Both_1_r0_k fr H = evTale (some (5, [], [])) s_bits_Set_Both_1_r0_k fr H := tale_row (items := [.cc (.s (.int .u64 0))]) (by kernel_rfl) fr H
def s_bits_Set_Both_1_r1 : List AOper := [
  ⟨some 5, (.move (.t 0)), none⟩,
  ⟨some 6, (.move (.t 1)), none⟩,
  ⟨some 7, (.bin .and (.t 5) (.t 6)), none⟩,
  ⟨some 4, (.move (.t 7)), none⟩]
theorem s_bits_Set_Both_1_r1_tale (fr : List V) (H : Heap) : evTale (symAll s_bits_Set_Both_1_r1 [0, 1, 5, 6, 7] [4]) [0, 1, 5, 6, 7] fr H = evTale (some (8, [], [(4, (.op (.bin .and (.t 0) (.t 1)) [(.t 0), (.t 1)]))])) [0, 1, 5, 6, 7] fr H := tale_row (items := [.tt 0, .tt 1, .sub 0 [] [], .sub 0 [] []]) (by kernel_rfl) fr H
def s_bits_Set_Both_1 : ACFun := { ntmps := 8, results := [(.tmp 4)], body :=
  (.seq (.regionE s_bits_Set_Both_1_r0 s_bits_Set_Both_1_r0_k [])
  (.seq (.regionE s_bits_Set_Both_1_r1 [0, 1, 5, 6, 7] [4])
  .ret)) }
abbrev k_math_bits_OnesCount64 : Nat := 40
def s_math_bits_OnesCount64_r0_k : List Nat := [1, 2, 3, 4, 5, 6, 7, 8, 9, 10, 11, 12, 13, 14, 15, 16, 17, 18, 19, 20, 21, 22, 23, 24, 25, 26, 27, 28, 29, 30, 31, 32, 33, 34]
theorem s_math_bits_OnesCount64_r0_kT : killV s_math_bits_OnesCount64_r0_k (startV 35 [] 1) = [] := by kernel_rfl
theorem s_math_bits_OnesCount64_r0_kA0 : s_math_bits_OnesCount64_r0_k.contains 0 = false := by kernel_rfl
def s_math_bits_OnesCount64_r0 : List AOper := [
  ⟨some 2, (.move (.c (.s (.int .i64 0)))), none⟩]
theorem s_math_bits_OnesCount64_r0_tale (fr : List V) (H : Heap) : evTale (symAll s_math_bits_OnesCount64_r0 s_math_bits_OnesCount64_r0_k []) s_math_bits_OnesCount64_r0_k fr H = evTale (some (3, [], [])) s_math_bits_OnesCount64_r0_k fr H := tale_row (items := [.cc (.s (.int .i64 0))]) (by kernel_rfl) fr H
def s_math_bits_OnesCount64_r1 : List AOper := [
  ⟨some 3, (.move (.t 0)), none⟩,
  ⟨some 4, (.bin .shr (.t 3) (.c (.s (.int .u64 1)))), none⟩,
  ⟨some 5, (.bin .and (.t 4) (.c (.s (.int .u64 6148914691236517205)))), none⟩,
  ⟨some 6, (.move (.t 0)), none⟩,
  ⟨some 7, (.bin .and (.t 6) (.c (.s (.int .u64 6148914691236517205)))), none⟩,
  ⟨some 8, (.bin .add (.t 5) (.t 7)), none⟩,
  ⟨some 0, (.move (.t 8)), none⟩]
theorem s_math_bits_OnesCount64_r1_tale (fr : List V) (H : Heap) : evTale (symAll s_math_bits_OnesCount64_r1 [3, 4, 5, 6, 7, 8] [0]) [3, 4, 5, 6, 7, 8] fr H = evTale (some (9, [], [(0, (.op (.bin .add (.t 0) (.t 1)) [(.op (.bin .and (.t 0) (.c (.s (.int .u64 6148914691236517205)))) [(.op (.bin .shr (.t 0) (.c (.s (.int .u64 1)))) [(.t 0), (.c (.s (.int .u64 1)))]), (.c (.s (.int .u64 6148914691236517205)))]), (.op (.bin .and (.t 0) (.c (.s (.int .u64 6148914691236517205)))) [(.t 0), (.c (.s (.int .u64 6148914691236517205)))])]))])) [3, 4, 5, 6, 7, 8] fr H := tale_row (items := [.tt 0, .sub 0 [0, 0] [], .sub 0 [0] [], .tt 0, .sub 0 [1] [], .sub 0 [] [], .sub 0 [] []]) (by kernel_rfl) fr H
def s_math_bits_OnesCount64_r2 : List AOper := [
  ⟨some 9, (.move (.t 0)), none⟩,
  ⟨some 10, (.bin .shr (.t 9) (.c (.s (.int .u64 2)))), none⟩,
  ⟨some 11, (.bin .and (.t 10) (.c (.s (.int .u64 3689348814741910323)))), none⟩,
  ⟨some 12, (.move (.t 0)), none⟩,
  ⟨some 13, (.bin .and (.t 12) (.c (.s (.int .u64 3689348814741910323)))), none⟩,
  ⟨some 14, (.bin .add (.t 11) (.t 13)), none⟩,
  ⟨some 0, (.move (.t 14)), none⟩]
theorem s_math_bits_OnesCount64_r2_tale (fr : List V) (H : Heap) : evTale (symAll s_math_bits_OnesCount64_r2 [9, 10, 11, 12, 13, 14] [0]) [9, 10, 11, 12, 13, 14] fr H = evTale (some (15, [], [(0, (.op (.bin .add (.t 0) (.t 1)) [(.op (.bin .and (.t 0) (.c (.s (.int .u64 3689348814741910323)))) [(.op (.bin .shr (.t 0) (.c (.s (.int .u64 2)))) [(.t 0), (.c (.s (.int .u64 2)))]), (.c (.s (.int .u64 3689348814741910323)))]), (.op (.bin .and (.t 0) (.c (.s (.int .u64 3689348814741910323)))) [(.t 0), (.c (.s (.int .u64 3689348814741910323)))])]))])) [9, 10, 11, 12, 13, 14] fr H := tale_row (items := [.tt 0, .sub 0 [0, 0] [], .sub 0 [0] [], .tt 0, .sub 0 [1] [], .sub 0 [] [], .sub 0 [] []]) (by kernel_rfl) fr H
def s_math_bits_OnesCount64_r3 : List AOper := [
  ⟨some 15, (.move (.t 0)), none⟩,
  ⟨some 16, (.bin .shr (.t 15) (.c (.s (.int .u64 4)))), none⟩,
  ⟨some 17, (.move (.t 0)), none⟩,
  ⟨some 18, (.bin .add (.t 16) (.t 17)), none⟩,
  ⟨some 19, (.bin .and (.t 18) (.c (.s (.int .u64 1085102592571150095)))), none⟩,
  ⟨some 0, (.move (.t 19)), none⟩]
theorem s_math_bits_OnesCount64_r3_tale (fr : List V) (H : Heap) : evTale (symAll s_math_bits_OnesCount64_r3 [15, 16, 17, 18, 19] [0]) [15, 16, 17, 18, 19] fr H = evTale (some (20, [], [(0, (.op (.bin .and (.t 0) (.c (.s (.int .u64 1085102592571150095)))) [(.op (.bin .add (.t 0) (.t 1)) [(.op (.bin .shr (.t 0) (.c (.s (.int .u64 4)))) [(.t 0), (.c (.s (.int .u64 4)))]), (.t 0)]), (.c (.s (.int .u64 1085102592571150095)))]))])) [15, 16, 17, 18, 19] fr H := tale_row (items := [.tt 0, .sub 0 [0, 0] [], .tt 0, .sub 0 [0] [], .sub 0 [] [], .sub 0 [] []]) (by kernel_rfl) fr H
def s_math_bits_OnesCount64_r4 : List AOper := [
  ⟨some 20, (.move (.t 0)), none⟩,
  ⟨some 21, (.move (.t 0)), none⟩,
  ⟨some 22, (.bin .shr (.t 21) (.c (.s (.int .u64 8)))), none⟩,
  ⟨some 23, (.bin .add (.t 20) (.t 22)), none⟩,
  ⟨some 0, (.move (.t 23)), none⟩]
theorem s_math_bits_OnesCount64_r4_tale (fr : List V) (H : Heap) : evTale (symAll s_math_bits_OnesCount64_r4 [20, 21, 22, 23] [0]) [20, 21, 22, 23] fr H = evTale (some (24, [], [(0, (.op (.bin .add (.t 0) (.t 1)) [(.t 0), (.op (.bin .shr (.t 0) (.c (.s (.int .u64 8)))) [(.t 0), (.c (.s (.int .u64 8)))])]))])) [20, 21, 22, 23] fr H := tale_row (items := [.tt 0, .tt 0, .sub 0 [1] [], .sub 0 [] [], .sub 0 [] []]) (by kernel_rfl) fr H
def s_math_bits_OnesCount64_r5 : List AOper := [
  ⟨some 24, (.move (.t 0)), none⟩,
  ⟨some 25, (.move (.t 0)), none⟩,
  ⟨some 26, (.bin .shr (.t 25) (.c (.s (.int .u64 16)))), none⟩,
  ⟨some 27, (.bin .add (.t 24) (.t 26)), none⟩,
  ⟨some 0, (.move (.t 27)), none⟩]
theorem s_math_bits_OnesCount64_r5_tale (fr : List V) (H : Heap) : evTale (symAll s_math_bits_OnesCount64_r5 [24, 25, 26, 27] [0]) [24, 25, 26, 27] fr H = evTale (some (28, [], [(0, (.op (.bin .add (.t 0) (.t 1)) [(.t 0), (.op (.bin .shr (.t 0) (.c (.s (.int .u64 16)))) [(.t 0), (.c (.s (.int .u64 16)))])]))])) [24, 25, 26, 27] fr H := tale_row (items := [.tt 0, .tt 0, .sub 0 [1] [], .sub 0 [] [], .sub 0 [] []]) (by kernel_rfl) fr H
def s_math_bits_OnesCount64_r6 : List AOper := [
  ⟨some 28, (.move (.t 0)), none⟩,
  ⟨some 29, (.move (.t 0)), none⟩,
  ⟨some 30, (.bin .shr (.t 29) (.c (.s (.int .u64 32)))), none⟩,
  ⟨some 31, (.bin .add (.t 28) (.t 30)), none⟩,
  ⟨some 0, (.move (.t 31)), none⟩]
theorem s_math_bits_OnesCount64_r6_tale (fr : List V) (H : Heap) : evTale (symAll s_math_bits_OnesCount64_r6 [28, 29, 30, 31] [0]) [28, 29, 30, 31] fr H = evTale (some (32, [], [(0, (.op (.bin .add (.t 0) (.t 1)) [(.t 0), (.op (.bin .shr (.t 0) (.c (.s (.int .u64 32)))) [(.t 0), (.c (.s (.int .u64 32)))])]))])) [28, 29, 30, 31] fr H := tale_row (items := [.tt 0, .tt 0, .sub 0 [1] [], .sub 0 [] [], .sub 0 [] []]) (by kernel_rfl) fr H
def s_math_bits_OnesCount64_r7 : List AOper := [
  ⟨some 32, (.move (.t 0)), none⟩,
  ⟨some 33, (.conv .i64 (.t 32)), none⟩,
  ⟨some 34, (.bin .and (.t 33) (.c (.s (.int .i64 127)))), none⟩,
  ⟨some 2, (.move (.t 34)), none⟩]
theorem s_math_bits_OnesCount64_r7_tale (fr : List V) (H : Heap) : evTale (symAll s_math_bits_OnesCount64_r7 [0, 32, 33, 34] [2]) [0, 32, 33, 34] fr H = evTale (some (35, [], [(2, (.op (.bin .and (.t 0) (.c (.s (.int .i64 127)))) [(.op (.conv .i64 (.t 0)) [(.t 0)]), (.c (.s (.int .i64 127)))]))])) [0, 32, 33, 34] fr H := tale_row (items := [.tt 0, .sub 0 [0] [], .sub 0 [] [], .sub 0 [] []]) (by kernel_rfl) fr H
def s_math_bits_OnesCount64 : ACFun := { ntmps := 35, results := [(.tmp 2)], body :=
  (.seq (.regionE s_math_bits_OnesCount64_r0 s_math_bits_OnesCount64_r0_k [])
  (.seq (.regionE s_math_bits_OnesCount64_r1 [3, 4, 5, 6, 7, 8] [0])
  (.seq (.regionE s_math_bits_OnesCount64_r2 [9, 10, 11, 12, 13, 14] [0])
  (.seq (.regionE s_math_bits_OnesCount64_r3 [15, 16, 17, 18, 19] [0])
  (.seq (.regionE s_math_bits_OnesCount64_r4 [20, 21, 22, 23] [0])
  (.seq (.regionE s_math_bits_OnesCount64_r5 [24, 25, 26, 27] [0])
  (.seq (.regionE s_math_bits_OnesCount64_r6 [28, 29, 30, 31] [0])
  (.seq (.regionE s_math_bits_OnesCount64_r7 [0, 32, 33, 34] [2])
  .ret)))))))) }
abbrev k_bits_Set_all_1 : Nat := 41
def s_bits_Set_all_1_r0_k : List Nat := [2, 3, 4, 5, 7, 8, 9, 10, 11, 12, 13, 14, 15, 16, 17, 18, 19, 20, 21, 22, 23, 24, 25, 26, 27, 28]
theorem s_bits_Set_all_1_r0_kT : killV s_bits_Set_all_1_r0_k (startV 29 [] 2) = [(6, und)] := by kernel_rfl
theorem s_bits_Set_all_1_r0_kA0 : s_bits_Set_all_1_r0_k.contains 0 = false := by kernel_rfl
theorem s_bits_Set_all_1_r0_kA1 : s_bits_Set_all_1_r0_k.contains 1 = false := by kernel_rfl
def s_bits_Set_all_1_r0 : List AOper := [
  ⟨some 5, (.load false 1 (.t 1)), none⟩,
  ⟨some 6, (.eqNil .p false (.t 5)), none⟩]
theorem s_bits_Set_all_1_r0_tale (fr : List V) (H : Heap) : evTale (symAll s_bits_Set_all_1_r0 s_bits_Set_all_1_r0_k [6]) s_bits_Set_all_1_r0_k fr H = evTale (some (7, [], [(6, (.op (.eqNil .p false (.t 0)) [(.op (.load false 1 (.t 0)) [(.t 1)])]))])) s_bits_Set_all_1_r0_k fr H := tale_row (items := [.sub 0 [0] [], .sub 0 [] []]) (by kernel_rfl) fr H
def s_bits_Set_all_1_r1t3 : List AOper := [⟨some 13, (.lenS .s (.t 12)), none⟩, ⟨some 14, (.move (.c (.s (.int .i64 0)))), none⟩]
def s_bits_Set_all_1_r1p2 : List AOper := [⟨some 12, (.call (.c (.fn 42 [] [])) [(.t 11)]), none⟩]
def s_bits_Set_all_1_r1t2 : List AOper := s_bits_Set_all_1_r1p2 ++ s_bits_Set_all_1_r1t3
def s_bits_Set_all_1_r1p1 : List AOper := [⟨some 11, (.call (.c (.fn 43 [] [])) [(.t 10)]), none⟩]
def s_bits_Set_all_1_r1t1 : List AOper := s_bits_Set_all_1_r1p1 ++ s_bits_Set_all_1_r1t2
def s_bits_Set_all_1_r1p0 : List AOper := [⟨some 7, (.load false 1 (.t 1)), none⟩, ⟨some 8, (.nilCheck (.t 7)), none⟩, ⟨some 9, (.fieldAddr 0 (.t 8)), none⟩, ⟨some 10, (.load false 1 (.t 9)), none⟩]
def s_bits_Set_all_1_r1 : List AOper := s_bits_Set_all_1_r1p0 ++ s_bits_Set_all_1_r1t1
theorem s_bits_Set_all_1_r1p0_tale (fr : List V) (H : Heap) : evTale (symAll s_bits_Set_all_1_r1p0 [6, 7, 8, 9] [10]) [6, 7, 8, 9] fr H = evTale (some (11, [], [(10, (.op (.load false 1 (.t 0)) [(.op (.fieldAddr 0 (.t 0)) [(.op (.nilCheck (.t 0)) [(.op (.load false 1 (.t 0)) [(.t 1)])])])]))])) [6, 7, 8, 9] fr H := tale_row (items := [.sub 0 [0, 0, 0] [], .sub 0 [0, 0] [], .sub 0 [0] [], .sub 0 [] []]) (by kernel_rfl) fr H
theorem s_bits_Set_all_1_r1_x (call : CallF) (it : IterF) (base : Nat) (f : List V) (H : Heap) : evC call it base (.region s_bits_Set_all_1_r1 [] [6, 7, 8, 9, 10, 11]) f H = segC call it base s_bits_Set_all_1_r1t1 [6, 7, 8, 9, 10, 11] H (evTale (symAll s_bits_Set_all_1_r1p0 [6, 7, 8, 9] [10]) [6, 7, 8, 9] f H) (origRow call it base s_bits_Set_all_1_r1 [6, 7, 8, 9, 10, 11] f H) := row_seg call it base s_bits_Set_all_1_r1p0 s_bits_Set_all_1_r1t1 (by kernel_rfl) f H
theorem s_bits_Set_all_1_r1t1_x (call : CallF) (it : IterF) (base : Nat) (f : List V) (H : Heap) : evC call it base (.region s_bits_Set_all_1_r1t1 [] [6, 7, 8, 9, 10, 11]) f H = thenC call it base (.region s_bits_Set_all_1_r1t2 [] [6, 7, 8, 9, 10, 11]) (opsC [] s_bits_Set_all_1_r1p1 [10] (evOps call base [⟨some 11, (.call (.c (.fn 43 [] [])) [(.t 10)]), none⟩] f H)) := (row_op call it base s_bits_Set_all_1_r1p1 s_bits_Set_all_1_r1t2 (kc := [10]) (by kernel_rfl) f H).trans (by rw [row_ops]; rfl)
theorem s_bits_Set_all_1_r1t2_x (call : CallF) (it : IterF) (base : Nat) (f : List V) (H : Heap) : evC call it base (.region s_bits_Set_all_1_r1t2 [] [6, 7, 8, 9, 10, 11]) f H = thenC call it base (.region s_bits_Set_all_1_r1t3 [] [6, 7, 8, 9, 10, 11]) (opsC [] s_bits_Set_all_1_r1p2 [11] (evOps call base [⟨some 12, (.call (.c (.fn 42 [] [])) [(.t 11)]), none⟩] f H)) := (row_op call it base s_bits_Set_all_1_r1p2 s_bits_Set_all_1_r1t3 (kc := [11]) (by kernel_rfl) f H).trans (by rw [row_ops]; rfl)
theorem s_bits_Set_all_1_r1t3_tale (fr : List V) (H : Heap) : evTale (symAll s_bits_Set_all_1_r1t3 [6, 7, 8, 9, 10, 11] [13, 14]) [6, 7, 8, 9, 10, 11] fr H = evTale (some (15, [], [(13, (.op (.lenS .s (.t 0)) [(.t 12)])), (14, (.c (.s (.int .i64 0))))])) [6, 7, 8, 9, 10, 11] fr H := tale_row (items := [.sub 0 [] [], .cc (.s (.int .i64 0))]) (by kernel_rfl) fr H
theorem s_bits_Set_all_1_r1t3_x (call : CallF) (it : IterF) (base : Nat) (f : List V) (H : Heap) : evC call it base (.region s_bits_Set_all_1_r1t3 [] [6, 7, 8, 9, 10, 11]) f H = segL H (evTale (symAll s_bits_Set_all_1_r1t3 [6, 7, 8, 9, 10, 11] [13, 14]) [6, 7, 8, 9, 10, 11] f H) (origRow call it base s_bits_Set_all_1_r1t3 [6, 7, 8, 9, 10, 11] f H) := row_last call it base _ f H
def s_bits_Set_all_1_r2 : List AOper := [
  ⟨some 15, (.bin .lss (.t 14) (.t 13)), none⟩]
theorem s_bits_Set_all_1_r2_tale (fr : List V) (H : Heap) : evTale (symAll s_bits_Set_all_1_r2 [] [15]) [] fr H = evTale (some (16, [], [(15, (.op (.bin .lss (.t 0) (.t 1)) [(.t 14), (.t 13)]))])) [] fr H := tale_row (items := [.sub 0 [] []]) (by kernel_rfl) fr H
def s_bits_Set_all_1_r3 : List AOper := [
  ⟨some 16, (.indexAddr 1 (.t 12) (.t 14)), none⟩,
  ⟨some 17, (.load false 1 (.t 16)), none⟩,
  ⟨some 4, (.move (.t 17)), none⟩]
theorem s_bits_Set_all_1_r3_tale (fr : List V) (H : Heap) : evTale (symAll s_bits_Set_all_1_r3 [15, 16, 17] [4]) [15, 16, 17] fr H = evTale (some (18, [], [(4, (.op (.load false 1 (.t 0)) [(.op (.indexAddr 1 (.t 0) (.t 1)) [(.t 12), (.t 14)])]))])) [15, 16, 17] fr H := tale_row (items := [.sub 0 [0] [], .sub 0 [] [], .sub 0 [] []]) (by kernel_rfl) fr H
def s_bits_Set_all_1_r4t2 : List AOper := [⟨some 27, (.un .not (.t 26)), none⟩]
def s_bits_Set_all_1_r4p1 : List AOper := [⟨some 26, (.call (.t 18) [(.t 19), (.t 25)]), none⟩]
def s_bits_Set_all_1_r4t1 : List AOper := s_bits_Set_all_1_r4p1 ++ s_bits_Set_all_1_r4t2
def s_bits_Set_all_1_r4p0 : List AOper := [⟨some 18, (.move (.t 0)), none⟩, ⟨some 19, (.move (.t 4)), none⟩, ⟨some 20, (.load false 1 (.t 1)), none⟩, ⟨some 21, (.nilCheck (.t 20)), none⟩, ⟨some 22, (.fieldAddr 0 (.t 21)), none⟩, ⟨some 23, (.load false 1 (.t 22)), none⟩, ⟨some 24, (.move (.t 4)), none⟩, ⟨some 25, (.mapGet (.int .i64) (.s (.int .u64 0)) (.t 23) (.t 24) false), none⟩]
def s_bits_Set_all_1_r4 : List AOper := s_bits_Set_all_1_r4p0 ++ s_bits_Set_all_1_r4t1
theorem s_bits_Set_all_1_r4p0_tale (fr : List V) (H : Heap) : evTale (symAll s_bits_Set_all_1_r4p0 [4, 20, 21, 22, 23, 24] [18, 19, 25]) [4, 20, 21, 22, 23, 24] fr H = evTale (some (26, [], [(18, (.t 0)), (19, (.t 4)), (25, (.op (.mapGet (.int .i64) (.s (.int .u64 0)) (.t 0) (.t 1) false) [(.op (.load false 1 (.t 0)) [(.op (.fieldAddr 0 (.t 0)) [(.op (.nilCheck (.t 0)) [(.op (.load false 1 (.t 0)) [(.t 1)])])])]), (.t 4)]))])) [4, 20, 21, 22, 23, 24] fr H := tale_row (items := [.tt 0, .tt 4, .sub 2 [0, 0, 0, 0] [], .sub 2 [0, 0, 0] [], .sub 2 [0, 0] [], .sub 2 [0] [], .tt 4, .sub 2 [] []]) (by kernel_rfl) fr H
theorem s_bits_Set_all_1_r4_x (call : CallF) (it : IterF) (base : Nat) (f : List V) (H : Heap) : evC call it base (.region s_bits_Set_all_1_r4 [] [4, 18, 19, 20, 21, 22, 23, 24, 25, 26]) f H = segC call it base s_bits_Set_all_1_r4t1 [4, 18, 19, 20, 21, 22, 23, 24, 25, 26] H (evTale (symAll s_bits_Set_all_1_r4p0 [4, 20, 21, 22, 23, 24] [18, 19, 25]) [4, 20, 21, 22, 23, 24] f H) (origRow call it base s_bits_Set_all_1_r4 [4, 18, 19, 20, 21, 22, 23, 24, 25, 26] f H) := row_seg call it base s_bits_Set_all_1_r4p0 s_bits_Set_all_1_r4t1 (by kernel_rfl) f H
theorem s_bits_Set_all_1_r4t1_x (call : CallF) (it : IterF) (base : Nat) (f : List V) (H : Heap) : evC call it base (.region s_bits_Set_all_1_r4t1 [] [4, 18, 19, 20, 21, 22, 23, 24, 25, 26]) f H = thenC call it base (.region s_bits_Set_all_1_r4t2 [] [4, 18, 19, 20, 21, 22, 23, 24, 25, 26]) (opsC [] s_bits_Set_all_1_r4p1 [18, 19, 25] (evOps call base [⟨some 26, (.call (.t 18) [(.t 19), (.t 25)]), none⟩] f H)) := (row_op call it base s_bits_Set_all_1_r4p1 s_bits_Set_all_1_r4t2 (kc := [18, 19, 25]) (by kernel_rfl) f H).trans (by rw [row_ops]; rfl)
theorem s_bits_Set_all_1_r4t2_tale (fr : List V) (H : Heap) : evTale (symAll s_bits_Set_all_1_r4t2 [4, 18, 19, 20, 21, 22, 23, 24, 25, 26] [27]) [4, 18, 19, 20, 21, 22, 23, 24, 25, 26] fr H = evTale (some (28, [], [(27, (.op (.un .not (.t 0)) [(.t 26)]))])) [4, 18, 19, 20, 21, 22, 23, 24, 25, 26] fr H := tale_row (items := [.sub 0 [] []]) (by kernel_rfl) fr H
theorem s_bits_Set_all_1_r4t2_x (call : CallF) (it : IterF) (base : Nat) (f : List V) (H : Heap) : evC call it base (.region s_bits_Set_all_1_r4t2 [] [4, 18, 19, 20, 21, 22, 23, 24, 25, 26]) f H = segL H (evTale (symAll s_bits_Set_all_1_r4t2 [4, 18, 19, 20, 21, 22, 23, 24, 25, 26] [27]) [4, 18, 19, 20, 21, 22, 23, 24, 25, 26] f H) (origRow call it base s_bits_Set_all_1_r4t2 [4, 18, 19, 20, 21, 22, 23, 24, 25, 26] f H) := row_last call it base _ f H
def s_bits_Set_all_1_r5 : List AOper := [
  ⟨some 28, (.bin .add (.t 14) (.c (.s (.int .i64 1)))), none⟩,
  ⟨some 14, (.move (.t 28)), none⟩]
theorem s_bits_Set_all_1_r5_tale (fr : List V) (H : Heap) : evTale (symAll s_bits_Set_all_1_r5 [27, 28] [14]) [27, 28] fr H = evTale (some (29, [], [(14, (.op (.bin .add (.t 0) (.c (.s (.int .i64 1)))) [(.t 14), (.c (.s (.int .i64 1)))]))])) [27, 28] fr H := tale_row (items := [.sub 0 [] [], .sub 0 [] []]) (by kernel_rfl) fr H
def s_bits_Set_all_1_l0_b : ACode :=
  (.seq (.regionE s_bits_Set_all_1_r2 [] [15])
  (.seq (.cond (.t 15)
  .skip
  (.exit 0))
  (.seq (.block 1
  (.seq (.regionE s_bits_Set_all_1_r3 [15, 16, 17] [4])
  (.seq (.region s_bits_Set_all_1_r4 [] [4, 18, 19, 20, 21, 22, 23, 24, 25, 26])
  (.cond (.t 27)
  .ret
  .skip))))
  (.regionE s_bits_Set_all_1_r5 [27, 28] [14]))))
def s_bits_Set_all_1_l0 : ACode := s_bits_Set_all_1_l0_b
theorem s_bits_Set_all_1_l0_ev (call : CallF) (it : IterF) (base : Nat) (fr : List V) (H : Heap) : evC call it base s_bits_Set_all_1_l0 fr H = evC call it base s_bits_Set_all_1_l0_b fr H := rfl
def s_bits_Set_all_1 : ACFun := { ntmps := 29, results := [], body :=
  (.seq (.seq (.regionE s_bits_Set_all_1_r0 s_bits_Set_all_1_r0_k [6])
  (.cond (.t 6)
  .ret
  .skip))
  (.seq (.region s_bits_Set_all_1_r1 [] [6, 7, 8, 9, 10, 11])
  (.block 0
  (.loop [] s_bits_Set_all_1_l0)))) }
abbrev k_maps_Keys_map_int_uint64_int_uint64 : Nat := 43
def s_maps_Keys_map_int_uint64_int_uint64_r0_k : List Nat := [0, 2, 3]
theorem s_maps_Keys_map_int_uint64_int_uint64_r0_k_kA0 : s_maps_Keys_map_int_uint64_int_uint64_r0_k.contains 0 = true := by kernel_rfl
theorem s_maps_Keys_map_int_uint64_int_uint64_r0_k_kA1 : s_maps_Keys_map_int_uint64_int_uint64_r0_k.contains 1 = false := by kernel_rfl
theorem s_maps_Keys_map_int_uint64_int_uint64_r0_k_kA2 : s_maps_Keys_map_int_uint64_int_uint64_r0_k.contains 2 = true := by kernel_rfl
def s_maps_Keys_map_int_uint64_int_uint64_r0t1 : List AOper := [⟨some 2, (.move (.c (.s .nilFunc))), none⟩]
def s_maps_Keys_map_int_uint64_int_uint64_r0p0 : List AOper := [⟨some 1, (.box (.t 0)), none⟩]
def s_maps_Keys_map_int_uint64_int_uint64_r0 : List AOper := s_maps_Keys_map_int_uint64_int_uint64_r0p0 ++ s_maps_Keys_map_int_uint64_int_uint64_r0t1
theorem s_maps_Keys_map_int_uint64_int_uint64_r0_x (call : CallF) (it : IterF) (base : Nat) (f : List V) (H : Heap) : evC call it base (.region s_maps_Keys_map_int_uint64_int_uint64_r0 [] s_maps_Keys_map_int_uint64_int_uint64_r0_k) f H = thenC call it base (.region s_maps_Keys_map_int_uint64_int_uint64_r0t1 [] s_maps_Keys_map_int_uint64_int_uint64_r0_k) (opsC [] s_maps_Keys_map_int_uint64_int_uint64_r0p0 [0, 2, 3] (evOps call base [⟨some 1, (.box (.t 0)), none⟩] f H)) := (row_op call it base s_maps_Keys_map_int_uint64_int_uint64_r0p0 s_maps_Keys_map_int_uint64_int_uint64_r0t1 (kc := [0, 2, 3]) (by kernel_rfl) f H).trans (by rw [row_ops]; rfl)
theorem s_maps_Keys_map_int_uint64_int_uint64_r0t1_tale (fr : List V) (H : Heap) : evTale (symAll s_maps_Keys_map_int_uint64_int_uint64_r0t1 s_maps_Keys_map_int_uint64_int_uint64_r0_k []) s_maps_Keys_map_int_uint64_int_uint64_r0_k fr H = evTale (some (3, [], [])) s_maps_Keys_map_int_uint64_int_uint64_r0_k fr H := tale_row (items := [.cc (.s .nilFunc)]) (by kernel_rfl) fr H
theorem s_maps_Keys_map_int_uint64_int_uint64_r0t1_x (call : CallF) (it : IterF) (base : Nat) (f : List V) (H : Heap) : evC call it base (.region s_maps_Keys_map_int_uint64_int_uint64_r0t1 [] s_maps_Keys_map_int_uint64_int_uint64_r0_k) f H = segL H (evTale (symAll s_maps_Keys_map_int_uint64_int_uint64_r0t1 s_maps_Keys_map_int_uint64_int_uint64_r0_k []) s_maps_Keys_map_int_uint64_int_uint64_r0_k f H) (origRow call it base s_maps_Keys_map_int_uint64_int_uint64_r0t1 s_maps_Keys_map_int_uint64_int_uint64_r0_k f H) := row_last call it base _ f H
def s_maps_Keys_map_int_uint64_int_uint64_r1 : List AOper := [
  ⟨some 3, (.mkFn 47 [] [(.t 1)]), none⟩,
  ⟨some 2, (.move (.t 3)), none⟩]
theorem s_maps_Keys_map_int_uint64_int_uint64_r1_tale (fr : List V) (H : Heap) : evTale (symAll s_maps_Keys_map_int_uint64_int_uint64_r1 [1, 3] [2]) [1, 3] fr H = evTale (some (4, [], [(2, (.op (.mkFn 47 [] [(.t 0)]) [(.t 1)]))])) [1, 3] fr H := tale_row (items := [.sub 0 [] [], .sub 0 [] []]) (by kernel_rfl) fr H
def s_maps_Keys_map_int_uint64_int_uint64 : ACFun := { ntmps := 4, results := [(.tmp 2)], body :=
  (.seq (.region s_maps_Keys_map_int_uint64_int_uint64_r0 [] s_maps_Keys_map_int_uint64_int_uint64_r0_k)
  (.seq (.regionE s_maps_Keys_map_int_uint64_int_uint64_r1 [1, 3] [2])
  .ret)) }
theorem s_maps_Keys_map_int_uint64_int_uint64_first : firstOk (List.range' 1 (s_maps_Keys_map_int_uint64_int_uint64.ntmps - 1)) s_maps_Keys_map_int_uint64_int_uint64.body = true := by kernel_rfl
abbrev k_slices_Sorted_int : Nat := 42
abbrev k_gnomonlaw01_wakes : Nat := 10
abbrev k_maps_Clone : Nat := 35
abbrev k_math_bits_TrailingZeros64 : Nat := 34
abbrev k_maps_Keys_1 : Nat := 47
def a_bits_Of := And.intro @s_bits_Of_r0_tale (And.intro @s_bits_Of_r0_kT (And.intro @s_bits_Of_r0_kA0 (And.intro @s_bits_Of_r1_x (And.intro @s_bits_Of_r1p1_tale (And.intro @s_bits_Of_r1t1_x (And.intro @s_bits_Of_r1t2_x (And.intro @s_bits_Of_r1t3_tale (And.intro @s_bits_Of_r1t3_x (And.intro @s_bits_Of_r2_tale (And.intro @s_bits_Of_r3_tale (And.intro @s_bits_Of_r4_tale (And.intro @s_bits_Of_r5p0_tale (And.intro @s_bits_Of_r5_x (And.intro @s_bits_Of_r5t1_x (And.intro @s_bits_Of_r6_tale (And.intro @s_bits_Of_l0_ev (@s_bits_Of_r7_tale)))))))))))))))))
def a_bits_Set_Add := And.intro @s_bits_Set_Add_r0_tale (And.intro @s_bits_Set_Add_r0_kT (And.intro @s_bits_Set_Add_r0_kA0 (And.intro @s_bits_Set_Add_r0_kA1 (And.intro @s_bits_Set_Add_r1p0_tale (And.intro @s_bits_Set_Add_r1_x (And.intro @s_bits_Set_Add_r1t1_x (And.intro @s_bits_Set_Add_r1t2_x (And.intro @s_bits_Set_Add_r1t3_x (And.intro @s_bits_Set_Add_r1t4_tale (And.intro @s_bits_Set_Add_r1t4_x (And.intro @s_bits_Set_Add_r2_tale (And.intro @s_bits_Set_Add_r3p0_tale (And.intro @s_bits_Set_Add_r3_x (And.intro @s_bits_Set_Add_r3t1_x (And.intro @s_bits_Set_Add_r3p2_tale (And.intro @s_bits_Set_Add_r3t2_x (And.intro @s_bits_Set_Add_r3t3_x (@s_bits_Set_Add_r4_tale))))))))))))))))))
def a_bits_Set_Same := And.intro @s_bits_Set_Same_r0_tale (And.intro @s_bits_Set_Same_r0_kT (And.intro @s_bits_Set_Same_r0_kA0 (And.intro @s_bits_Set_Same_r0_kA1 (And.intro @s_bits_Set_Same_r1p0_tale (And.intro @s_bits_Set_Same_r1_x (And.intro @s_bits_Set_Same_r1t1_x (And.intro @s_bits_Set_Same_r1p2_tale (And.intro @s_bits_Set_Same_r1t2_x (And.intro @s_bits_Set_Same_r1t3_x (And.intro @s_bits_Set_Same_r1p4_tale (And.intro @s_bits_Set_Same_r1t4_x (And.intro @s_bits_Set_Same_r1t5_x (And.intro @s_bits_Set_Same_r1t6_x (And.intro @s_bits_Set_Same_r1t7_x (And.intro @s_bits_Set_Same_r1t8_tale (@s_bits_Set_Same_r1t8_x))))))))))))))))
def a_bits_Set_List := And.intro @s_bits_Set_List_r0_tale (And.intro @s_bits_Set_List_r0_kT (And.intro @s_bits_Set_List_r0_kA0 (And.intro @s_bits_Set_List_r1_x (And.intro @s_bits_Set_List_r2p0_tale (And.intro @s_bits_Set_List_r2_x (And.intro @s_bits_Set_List_r2t1_x (And.intro @s_bits_Set_List_r3_tale (And.intro @s_bits_Set_List_r4_tale (And.intro @s_bits_Set_List_r5_tale (And.intro @s_bits_Set_List_r6p0_tale (And.intro @s_bits_Set_List_r6_x (And.intro @s_bits_Set_List_r6t1_x (And.intro @s_bits_Set_List_r6p2_tale (And.intro @s_bits_Set_List_r6t2_x (And.intro @s_bits_Set_List_r6t3_x (And.intro @s_bits_Set_List_r6t4_x (And.intro @s_bits_Set_List_r6t5_x (And.intro @s_bits_Set_List_r7_tale (And.intro @s_bits_Set_List_l0_ev (@s_bits_Set_List_r8_tale))))))))))))))))))))
def a_bits_Set_Least := And.intro @s_bits_Set_Least_r0_x (And.intro @s_bits_Set_Least_r0t1_x (And.intro @s_bits_Set_Least_r0_k_kA0 (And.intro @s_bits_Set_Least_r0_k_kA2 (And.intro @s_bits_Set_Least_r0_k_kA3 (And.intro @s_bits_Set_Least_r1p0_tale (And.intro @s_bits_Set_Least_r1_x (And.intro @s_bits_Set_Least_r1t1_x (And.intro @s_bits_Set_Least_r2_tale (And.intro @s_bits_Set_Least_r3_tale (And.intro @s_bits_Set_Least_r4p0_tale (And.intro @s_bits_Set_Least_r4_x (And.intro @s_bits_Set_Least_r4t1_x (And.intro @s_bits_Set_Least_r4p2_tale (And.intro @s_bits_Set_Least_r4t2_x (And.intro @s_bits_Set_Least_r4t3_x (And.intro @s_bits_Set_Least_r4t4_x (And.intro @s_bits_Set_Least_r5_x (@s_bits_Set_Least_r5t1_x))))))))))))))))))
def a_bits_Set_Drop := And.intro @s_bits_Set_Drop_r0_tale (And.intro @s_bits_Set_Drop_r0_kT (And.intro @s_bits_Set_Drop_r0_kA0 (And.intro @s_bits_Set_Drop_r0_kA1 (And.intro @s_bits_Set_Drop_r1p0_tale (And.intro @s_bits_Set_Drop_r1_x (And.intro @s_bits_Set_Drop_r1t1_x (And.intro @s_bits_Set_Drop_r1t2_tale (And.intro @s_bits_Set_Drop_r1t2_x (And.intro @s_bits_Set_Drop_r2_tale (And.intro @s_bits_Set_Drop_r3p0_tale (And.intro @s_bits_Set_Drop_r3_x (And.intro @s_bits_Set_Drop_r3t1_x (And.intro @s_bits_Set_Drop_r3p2_tale (And.intro @s_bits_Set_Drop_r3t2_x (And.intro @s_bits_Set_Drop_r3t3_x (@s_bits_Set_Drop_r4_tale))))))))))))))))
def a_bits_Set_Has := And.intro @s_bits_Set_Has_r0_tale (And.intro @s_bits_Set_Has_r0_kT (And.intro @s_bits_Set_Has_r0_kA0 (And.intro @s_bits_Set_Has_r0_kA1 (And.intro @s_bits_Set_Has_r1p0_tale (And.intro @s_bits_Set_Has_r1_x (And.intro @s_bits_Set_Has_r1t1_x (And.intro @s_bits_Set_Has_r1t2_x (And.intro @s_bits_Set_Has_r1t3_x (And.intro @s_bits_Set_Has_r1t4_x (And.intro @s_bits_Set_Has_r1t5_tale (@s_bits_Set_Has_r1t5_x)))))))))))
def a_bits_Set_Len := And.intro @s_bits_Set_Len_r0_tale (And.intro @s_bits_Set_Len_r0_kT (And.intro @s_bits_Set_Len_r0_kA0 (And.intro @s_bits_Set_Len_r1_tale (And.intro @s_bits_Set_Len_r2_tale (@s_bits_Set_Len_r3_tale)))))
def a_bits_Set_Copy := And.intro @s_bits_Set_Copy_r0_tale (And.intro @s_bits_Set_Copy_r0_kT (And.intro @s_bits_Set_Copy_r0_kA0 (And.intro @s_bits_Set_Copy_r1_tale (And.intro @s_bits_Set_Copy_r2_tale (And.intro @s_bits_Set_Copy_r3p0_tale (And.intro @s_bits_Set_Copy_r3_x (And.intro @s_bits_Set_Copy_r3t1_x (And.intro @s_bits_Set_Copy_r3p2_tale (And.intro @s_bits_Set_Copy_r3t2_x (And.intro @s_bits_Set_Copy_r3t3_x (And.intro @s_bits_Set_Copy_r3t4_tale (@s_bits_Set_Copy_r3t4_x))))))))))))
def a_bits_Set_Minus := And.intro @s_bits_Set_Minus_r0_tale (And.intro @s_bits_Set_Minus_r0_kT (And.intro @s_bits_Set_Minus_r0_kA0 (And.intro @s_bits_Set_Minus_r0_kA1 (And.intro @s_bits_Set_Minus_r1p0_tale (And.intro @s_bits_Set_Minus_r1_x (And.intro @s_bits_Set_Minus_r1t1_x (And.intro @s_bits_Set_Minus_r1t2_tale (@s_bits_Set_Minus_r1t2_x))))))))
def a_bits_Set_Both := And.intro @s_bits_Set_Both_r0_tale (And.intro @s_bits_Set_Both_r0_kT (And.intro @s_bits_Set_Both_r0_kA0 (And.intro @s_bits_Set_Both_r0_kA1 (And.intro @s_bits_Set_Both_r1p0_tale (And.intro @s_bits_Set_Both_r1_x (And.intro @s_bits_Set_Both_r1t1_x (And.intro @s_bits_Set_Both_r1t2_tale (@s_bits_Set_Both_r1t2_x))))))))
def a_bits_Set_Union := And.intro @s_bits_Set_Union_r0_x (And.intro @s_bits_Set_Union_r0t1_tale (And.intro @s_bits_Set_Union_r0t1_x (And.intro @s_bits_Set_Union_r0_k_kA0 (And.intro @s_bits_Set_Union_r0_k_kA1 (And.intro @s_bits_Set_Union_r0_k_kA2 (And.intro @s_bits_Set_Union_r0_k_kA4 (And.intro @s_bits_Set_Union_r1_tale (And.intro @s_bits_Set_Union_r2_tale (And.intro @s_bits_Set_Union_r3_tale (And.intro @s_bits_Set_Union_r4p0_tale (And.intro @s_bits_Set_Union_r4_x (And.intro @s_bits_Set_Union_r4t1_x (And.intro @s_bits_Set_Union_r5_tale (And.intro @s_bits_Set_Union_r6_tale (And.intro @s_bits_Set_Union_r7p0_tale (And.intro @s_bits_Set_Union_r7_x (And.intro @s_bits_Set_Union_r7t1_x (And.intro @s_bits_Set_Union_r7p2_tale (And.intro @s_bits_Set_Union_r7t2_x (And.intro @s_bits_Set_Union_r7t3_x (@s_bits_Set_Union_r8_tale)))))))))))))))))))))
def a_bits_Set_In := And.intro @s_bits_Set_In_r0_x (And.intro @s_bits_Set_In_r0t1_x (And.intro @s_bits_Set_In_r0_k_kA0 (And.intro @s_bits_Set_In_r0_k_kA1 (And.intro @s_bits_Set_In_r0_k_kA3 (And.intro @s_bits_Set_In_r0_k_kA4 (And.intro @s_bits_Set_In_r1p0_tale (And.intro @s_bits_Set_In_r1_x (And.intro @s_bits_Set_In_r1t1_x (And.intro @s_bits_Set_In_r2_tale (And.intro @s_bits_Set_In_r3_tale (And.intro @s_bits_Set_In_r4p0_tale (And.intro @s_bits_Set_In_r4_x (And.intro @s_bits_Set_In_r4t1_x (And.intro @s_bits_Set_In_r4t2_tale (And.intro @s_bits_Set_In_r4t2_x (And.intro @s_bits_Set_In_r5_x (@s_bits_Set_In_r6_x)))))))))))))))))
def a_bits_Set_put := And.intro @s_bits_Set_put_r0p0_tale (And.intro @s_bits_Set_put_r0_x (And.intro @s_bits_Set_put_r0t1_x (And.intro @s_bits_Set_put_r0p2_tale (And.intro @s_bits_Set_put_r0t2_x (And.intro @s_bits_Set_put_r0t3_x (And.intro @s_bits_Set_put_r0p4_tale (And.intro @s_bits_Set_put_r0t4_x (And.intro @s_bits_Set_put_r0t5_x (And.intro @s_bits_Set_put_r0_k_kA0 (And.intro @s_bits_Set_put_r0_k_kA1 (And.intro @s_bits_Set_put_r0_k_kA2 (And.intro @s_bits_Set_put_r0_k_kA6 (And.intro @s_bits_Set_put_r0_k_kA7 (And.intro @s_bits_Set_put_r0_k_kA8 (And.intro @s_bits_Set_put_r0_k_kA9 (And.intro @s_bits_Set_put_r0_k_kA10 (And.intro @s_bits_Set_put_r0_k_kA11 (And.intro @s_bits_Set_put_r0_k_kA12 (And.intro @s_bits_Set_put_r0_k_kA13 (And.intro @s_bits_Set_put_r0_k_kA14 (And.intro @s_bits_Set_put_r0_k_kA15 (And.intro @s_bits_Set_put_r0_k_kA16 (And.intro @s_bits_Set_put_r0_k_kA17 (And.intro @s_bits_Set_put_r0_k_kA18 (And.intro @s_bits_Set_put_r0_k_kA19 (And.intro @s_bits_Set_put_r0_k_kA20 (And.intro @s_bits_Set_put_r0_k_kA21 (And.intro @s_bits_Set_put_r0_k_kA22 (And.intro @s_bits_Set_put_r1_tale (And.intro @s_bits_Set_put_r2p0_tale (And.intro @s_bits_Set_put_r2_x (And.intro @s_bits_Set_put_r2t1_x (And.intro @s_bits_Set_put_r3p0_tale (And.intro @s_bits_Set_put_r3_x (@s_bits_Set_put_r3t1_x)))))))))))))))))))))))))))))))))))
def a_bits_Set_at := And.intro @s_bits_Set_at_r0_tale (And.intro @s_bits_Set_at_r0_kT (And.intro @s_bits_Set_at_r0_kA0 (And.intro @s_bits_Set_at_r0_kA1 (And.intro @s_bits_Set_at_r1_tale (And.intro @s_bits_Set_at_r2_tale (@s_bits_Set_at_r3_tale))))))
def a_bits_Set_all := And.intro @s_bits_Set_all_r0_x (And.intro @s_bits_Set_all_r0t1_tale (And.intro @s_bits_Set_all_r0t1_x (And.intro @s_bits_Set_all_r0_k_kA0 (And.intro @s_bits_Set_all_r0_k_kA1 (And.intro @s_bits_Set_all_r0_k_kA2 (@s_bits_Set_all_r1_tale))))))
def a_bits_Set_pick := And.intro @s_bits_Set_pick_r0_x (And.intro @s_bits_Set_pick_r0t1_x (And.intro @s_bits_Set_pick_r0t2_tale (And.intro @s_bits_Set_pick_r0t2_x (And.intro @s_bits_Set_pick_r0_k_kA0 (And.intro @s_bits_Set_pick_r0_k_kA1 (And.intro @s_bits_Set_pick_r0_k_kA2 (And.intro @s_bits_Set_pick_r0_k_kA4 (And.intro @s_bits_Set_pick_r0_k_kA5 (And.intro @s_bits_Set_pick_r0_k_kA6 (And.intro @s_bits_Set_pick_r1_x (And.intro @s_bits_Set_pick_r1t1_x (And.intro @s_bits_Set_pick_r1t2_x (And.intro @s_bits_Set_pick_r2p0_tale (And.intro @s_bits_Set_pick_r2_x (And.intro @s_bits_Set_pick_r2t1_x (And.intro @s_bits_Set_pick_r3_tale (And.intro @s_bits_Set_pick_r4_tale (And.intro @s_bits_Set_pick_r5p0_tale (And.intro @s_bits_Set_pick_r5_x (And.intro @s_bits_Set_pick_r5t1_x (And.intro @s_bits_Set_pick_r5t2_x (And.intro @s_bits_Set_pick_r5t3_x (@s_bits_Set_pick_r6_tale)))))))))))))))))))))))
def a_bits_Set_Minus_1 := And.intro @s_bits_Set_Minus_1_r0_tale (And.intro @s_bits_Set_Minus_1_r0_kT (And.intro @s_bits_Set_Minus_1_r0_kA0 (And.intro @s_bits_Set_Minus_1_r0_kA1 (@s_bits_Set_Minus_1_r1_tale))))
def a_bits_Set_Both_1 := And.intro @s_bits_Set_Both_1_r0_tale (And.intro @s_bits_Set_Both_1_r0_kT (And.intro @s_bits_Set_Both_1_r0_kA0 (And.intro @s_bits_Set_Both_1_r0_kA1 (@s_bits_Set_Both_1_r1_tale))))
def a_math_bits_OnesCount64 := And.intro @s_math_bits_OnesCount64_r0_tale (And.intro @s_math_bits_OnesCount64_r0_kT (And.intro @s_math_bits_OnesCount64_r0_kA0 (And.intro @s_math_bits_OnesCount64_r1_tale (And.intro @s_math_bits_OnesCount64_r2_tale (And.intro @s_math_bits_OnesCount64_r3_tale (And.intro @s_math_bits_OnesCount64_r4_tale (And.intro @s_math_bits_OnesCount64_r5_tale (And.intro @s_math_bits_OnesCount64_r6_tale (@s_math_bits_OnesCount64_r7_tale)))))))))
def a_bits_Set_all_1 := And.intro @s_bits_Set_all_1_r0_tale (And.intro @s_bits_Set_all_1_r0_kT (And.intro @s_bits_Set_all_1_r0_kA0 (And.intro @s_bits_Set_all_1_r0_kA1 (And.intro @s_bits_Set_all_1_r1p0_tale (And.intro @s_bits_Set_all_1_r1_x (And.intro @s_bits_Set_all_1_r1t1_x (And.intro @s_bits_Set_all_1_r1t2_x (And.intro @s_bits_Set_all_1_r1t3_tale (And.intro @s_bits_Set_all_1_r1t3_x (And.intro @s_bits_Set_all_1_r2_tale (And.intro @s_bits_Set_all_1_r3_tale (And.intro @s_bits_Set_all_1_r4p0_tale (And.intro @s_bits_Set_all_1_r4_x (And.intro @s_bits_Set_all_1_r4t1_x (And.intro @s_bits_Set_all_1_r4t2_tale (And.intro @s_bits_Set_all_1_r4t2_x (And.intro @s_bits_Set_all_1_r5_tale (@s_bits_Set_all_1_l0_ev))))))))))))))))))
def a_maps_Keys_map_int_uint64_int_uint64 := And.intro @s_maps_Keys_map_int_uint64_int_uint64_r0_x (And.intro @s_maps_Keys_map_int_uint64_int_uint64_r0t1_tale (And.intro @s_maps_Keys_map_int_uint64_int_uint64_r0t1_x (And.intro @s_maps_Keys_map_int_uint64_int_uint64_r0_k_kA0 (And.intro @s_maps_Keys_map_int_uint64_int_uint64_r0_k_kA1 (And.intro @s_maps_Keys_map_int_uint64_int_uint64_r0_k_kA2 (@s_maps_Keys_map_int_uint64_int_uint64_r1_tale))))))
theorem CB1_11 : compK Tryd.prog PX0 11 = some (false, s_bits_Of.ntmps, s_bits_Of.results, s_bits_Of.body.bare) := by kernel_rfl
theorem CB1_12 : compK Tryd.prog PX0 12 = some (false, s_bits_Set_Add.ntmps, s_bits_Set_Add.results, s_bits_Set_Add.body.bare) := by kernel_rfl
theorem CB1_14 : compK Tryd.prog PX0 14 = some (false, s_bits_Set_Same.ntmps, s_bits_Set_Same.results, s_bits_Set_Same.body.bare) := by kernel_rfl
theorem CB1_16 : compK Tryd.prog PX0 16 = some (false, s_bits_Set_List.ntmps, s_bits_Set_List.results, s_bits_Set_List.body.bare) := by kernel_rfl
theorem CB1_17 : compK Tryd.prog PX0 17 = some (false, s_bits_Set_Least.ntmps, s_bits_Set_Least.results, s_bits_Set_Least.body.bare) := by kernel_rfl
theorem CB1_18 : compK Tryd.prog PX0 18 = some (false, s_bits_Set_Drop.ntmps, s_bits_Set_Drop.results, s_bits_Set_Drop.body.bare) := by kernel_rfl
theorem CB1_19 : compK Tryd.prog PX0 19 = some (false, s_bits_Set_Has.ntmps, s_bits_Set_Has.results, s_bits_Set_Has.body.bare) := by kernel_rfl
theorem CB1_20 : compK Tryd.prog PX0 20 = some (false, s_bits_Set_Len.ntmps, s_bits_Set_Len.results, s_bits_Set_Len.body.bare) := by kernel_rfl
theorem CB1_21 : compK Tryd.prog PX0 21 = some (false, s_bits_Set_Copy.ntmps, s_bits_Set_Copy.results, s_bits_Set_Copy.body.bare) := by kernel_rfl
theorem CB1_22 : compK Tryd.prog PX0 22 = some (false, s_bits_Set_Minus.ntmps, s_bits_Set_Minus.results, s_bits_Set_Minus.body.bare) := by kernel_rfl
theorem CB1_23 : compK Tryd.prog PX0 23 = some (false, s_bits_Set_Both.ntmps, s_bits_Set_Both.results, s_bits_Set_Both.body.bare) := by kernel_rfl
theorem CB1_24 : compK Tryd.prog PX0 24 = some (false, s_bits_Set_Union.ntmps, s_bits_Set_Union.results, s_bits_Set_Union.body.bare) := by kernel_rfl
theorem CB1_25 : compK Tryd.prog PX0 25 = some (false, s_bits_Set_In.ntmps, s_bits_Set_In.results, s_bits_Set_In.body.bare) := by kernel_rfl
theorem CB1_31 : compK Tryd.prog PX0 31 = some (false, s_bits_Set_put.ntmps, s_bits_Set_put.results, s_bits_Set_put.body.bare) := by kernel_rfl
theorem CB1_32 : compK Tryd.prog PX0 32 = some (false, s_bits_Set_at.ntmps, s_bits_Set_at.results, s_bits_Set_at.body.bare) := by kernel_rfl
theorem CB1_33 : compK Tryd.prog PX0 33 = some (false, s_bits_Set_all.ntmps, s_bits_Set_all.results, s_bits_Set_all.body.bare) := by kernel_rfl
theorem CB1_36 : compK Tryd.prog PX0 36 = some (false, s_bits_Set_pick.ntmps, s_bits_Set_pick.results, s_bits_Set_pick.body.bare) := by kernel_rfl
theorem CB1_37 : compK Tryd.prog PX0 37 = some (false, s_bits_Set_Minus_1.ntmps, s_bits_Set_Minus_1.results, s_bits_Set_Minus_1.body.bare) := by kernel_rfl
theorem CB1_38 : compK Tryd.prog PX0 38 = some (false, s_bits_Set_Both_1.ntmps, s_bits_Set_Both_1.results, s_bits_Set_Both_1.body.bare) := by kernel_rfl
theorem CB1_40 : compK Tryd.prog PX0 40 = some (false, s_math_bits_OnesCount64.ntmps, s_math_bits_OnesCount64.results, s_math_bits_OnesCount64.body.bare) := by kernel_rfl
theorem CB1_41 : compK Tryd.prog PX0 41 = some (false, s_bits_Set_all_1.ntmps, s_bits_Set_all_1.results, s_bits_Set_all_1.body.bare) := by kernel_rfl
theorem CB1_43 : compK Tryd.prog PX0 43 = some (false, s_maps_Keys_map_int_uint64_int_uint64.ntmps, s_maps_Keys_map_int_uint64_int_uint64.results, s_maps_Keys_map_int_uint64_int_uint64.body.bare) := by kernel_rfl
end Go.Proofs.YtccallbknpbggaaDoor
namespace Go.AM
theorem w64_and (a b : Nat) (ha : a < 2 ^ 64) (hb : b < 2 ^ 64) : xBin .and (.s (.int .u64 (a : Int))) (.s (.int .u64 (b : Int))) = some (.s (.int .u64 ((a &&& b : Nat) : Int))) := by
  rw [xb_and]
  have hx : a &&& b < 2 ^ 64 := Nat.and_lt_two_pow _ hb
  have h1 : (BitVec.ofInt 64 (a : Int)).toNat = a := by rw [BitVec.ofInt_natCast, BitVec.toNat_ofNat]; exact Nat.mod_eq_of_lt ha
  have h2 : (BitVec.ofInt 64 (b : Int)).toNat = b := by rw [BitVec.ofInt_natCast, BitVec.toNat_ofNat]; exact Nat.mod_eq_of_lt hb
  have : IntKind.u64.wrap ((BitVec.ofInt IntKind.u64.bits (a : Int) &&& BitVec.ofInt IntKind.u64.bits (b : Int)).toNat : Int) = ((a &&& b : Nat) : Int) := by
    show IntKind.u64.wrap ((BitVec.ofInt 64 (a : Int) &&& BitVec.ofInt 64 (b : Int)).toNat : Int) = _
    rw [BitVec.toNat_and, h1, h2, IntKind.wrap_u64]
    omega
  rw [this]
theorem w64_or (a b : Nat) (ha : a < 2 ^ 64) (hb : b < 2 ^ 64) : xBin .or (.s (.int .u64 (a : Int))) (.s (.int .u64 (b : Int))) = some (.s (.int .u64 ((a ||| b : Nat) : Int))) := by
  rw [xb_or]
  have hx : a ||| b < 2 ^ 64 := Nat.or_lt_two_pow ha hb
  have h1 : (BitVec.ofInt 64 (a : Int)).toNat = a := by rw [BitVec.ofInt_natCast, BitVec.toNat_ofNat]; exact Nat.mod_eq_of_lt ha
  have h2 : (BitVec.ofInt 64 (b : Int)).toNat = b := by rw [BitVec.ofInt_natCast, BitVec.toNat_ofNat]; exact Nat.mod_eq_of_lt hb
  have : IntKind.u64.wrap ((BitVec.ofInt IntKind.u64.bits (a : Int) ||| BitVec.ofInt IntKind.u64.bits (b : Int)).toNat : Int) = ((a ||| b : Nat) : Int) := by
    show IntKind.u64.wrap ((BitVec.ofInt 64 (a : Int) ||| BitVec.ofInt 64 (b : Int)).toNat : Int) = _
    rw [BitVec.toNat_or, h1, h2, IntKind.wrap_u64]
    omega
  rw [this]
theorem w64_andNot (a b : Nat) (ha : a < 2 ^ 64) (hb : b < 2 ^ 64) : xBin .andNot (.s (.int .u64 (a : Int))) (.s (.int .u64 (b : Int))) = some (.s (.int .u64 ((andNot a b : Nat) : Int))) := by
  rw [xb_andNot]
  have hx : andNot a b < 2 ^ 64 := Nat.lt_of_le_of_lt Nat.and_le_left ha
  have h1 : (BitVec.ofInt 64 (a : Int)).toNat = a := by rw [BitVec.ofInt_natCast, BitVec.toNat_ofNat]; exact Nat.mod_eq_of_lt ha
  have h2 : (~~~ (BitVec.ofInt 64 (b : Int))).toNat = 2 ^ 64 - 1 - b := by rw [BitVec.ofInt_natCast, BitVec.toNat_not, BitVec.toNat_ofNat, Nat.mod_eq_of_lt hb]
  have : IntKind.u64.wrap ((BitVec.ofInt IntKind.u64.bits (a : Int) &&& ~~~ (BitVec.ofInt IntKind.u64.bits (b : Int))).toNat : Int) = ((andNot a b : Nat) : Int) := by
    show IntKind.u64.wrap ((BitVec.ofInt 64 (a : Int) &&& ~~~ (BitVec.ofInt 64 (b : Int))).toNat : Int) = _
    rw [BitVec.toNat_and, h1, h2, IntKind.wrap_u64]
    unfold andNot at *
    omega
  rw [this]
theorem w64_shr (a b : Nat) (j : IntKind) (hb : b < 64) : xBin .shr (.s (.int .u64 (a : Int))) (.s (.int j (b : Int))) = some (.s (.int .u64 ((a / 2 ^ b : Nat) : Int))) := by
  rw [xb_shr, if_neg (by omega)]
  have h1 : min (Int.toNat (b : Int)) IntKind.u64.bits = b := by
    show min (Int.toNat (b : Int)) 64 = b
    simp only [Int.toNat_natCast]; omega
  rw [h1]
  congr 3
  show (a : Int).fdiv _ = _
  rw [Int.fdiv_eq_ediv_of_nonneg _ (by exact_mod_cast Nat.zero_le _)]
  simp
theorem w64_shl (a b : Nat) (j : IntKind) (hb : b < 64) (h : a * 2 ^ b < 2 ^ 64) : xBin .shl (.s (.int .u64 (a : Int))) (.s (.int j (b : Int))) = some (.s (.int .u64 ((a * 2 ^ b : Nat) : Int))) := by
  rw [xb_shl, if_neg (by omega)]
  have h1 : min (Int.toNat (b : Int)) IntKind.u64.bits = b := by
    show min (Int.toNat (b : Int)) 64 = b
    simp only [Int.toNat_natCast]; omega
  rw [h1, IntKind.wrap_u64]
  congr 3
  have e : (a : Int) * 2 ^ b = ((a * 2 ^ b : Nat) : Int) := by simp
  rw [e]
  omega
theorem w64_add (a b : Nat) (h : a + b < 2 ^ 64) : xBin .add (.s (.int .u64 (a : Int))) (.s (.int .u64 (b : Int))) = some (.s (.int .u64 ((a + b : Nat) : Int))) := by
  rw [xb_add, IntKind.wrap_u64]
  congr 3
  omega
theorem wrap_i64_id {z : Int} (h1 : -(2 ^ 63) ≤ z) (h2 : z < 2 ^ 63) : IntKind.i64.wrap z = z := by rw [IntKind.wrap_i64]; omega
theorem i64_shr6 (x : Int) (j : IntKind) : xBin .shr (.s (.int .i64 x)) (.s (.int j 6)) = some (.s (.int .i64 (x / 64))) := by
  rw [xb_shr, if_neg (by omega)]
  have h1 : min (Int.toNat 6) IntKind.i64.bits = 6 := by decide
  rw [h1]
  congr 3
  rw [Int.fdiv_eq_ediv_of_nonneg _ (by decide)]
  rfl
theorem land63 (n : Nat) : n &&& 63 = n % 64 := by
  have := Nat.and_two_pow_sub_one_eq_mod n 6
  simpa using this
theorem i64_and63 (x : Int) (hx : 0 ≤ x ∧ x < 2 ^ 63) : xBin .and (.s (.int .i64 x)) (.s (.int .i64 63)) = some (.s (.int .i64 (((x % 64).toNat : Nat) : Int))) := by
  rw [xb_and]
  obtain ⟨n, rfl⟩ := Int.eq_ofNat_of_zero_le hx.1
  have hn : n < 2 ^ 63 := by omega
  have h1 : (BitVec.ofInt 64 (n : Int)).toNat = n := by rw [BitVec.ofInt_natCast, BitVec.toNat_ofNat]; exact Nat.mod_eq_of_lt (by omega)
  have h2 : (BitVec.ofInt 64 (63 : Int)).toNat = 63 := by decide
  have : IntKind.i64.wrap ((BitVec.ofInt IntKind.i64.bits (n : Int) &&& BitVec.ofInt IntKind.i64.bits (63 : Int)).toNat : Int) = (((n : Int) % 64).toNat : Int) := by
    show IntKind.i64.wrap ((BitVec.ofInt 64 (n : Int) &&& BitVec.ofInt 64 (63 : Int)).toNat : Int) = _
    rw [BitVec.toNat_and, h1, h2, land63, IntKind.wrap_i64]
    omega
  rw [this]
theorem bit_shr (w b : Nat) : (w / 2 ^ b) &&& 1 = (if w.testBit b then 1 else 0) := by
  rw [Nat.testBit_eq_decide_div_mod_eq, Nat.and_one_is_mod]
  by_cases h : w / 2 ^ b % 2 = 1
  · simp [h]
  · have : w / 2 ^ b % 2 = 0 := by omega
    simp [this]
def oA (w : Nat) : Nat := (w / 2 &&& 6148914691236517205) + (w &&& 6148914691236517205)
def oB (w : Nat) : Nat := (w / 4 &&& 3689348814741910323) + (w &&& 3689348814741910323)
def oC (w : Nat) : Nat := (w / 16 + w) &&& 1085102592571150095
def oD (w : Nat) : Nat := w + w / 256
def oE (w : Nat) : Nat := w + w / 65536
def oF (w : Nat) : Nat := w + w / 4294967296
theorem ones_eq (w : Nat) : oF (oE (oD (oC (oB (oA w))))) &&& 127 = pop w := by
  have h := ones64 w
  have r1 : rep 0x55 8 = 6148914691236517205 := by decide
  have r2 : rep 0x33 8 = 3689348814741910323 := by decide
  have r3 : rep 0x0f 8 = 1085102592571150095 := by decide
  have e1 : oA w = st1 8 w := by unfold oA st1; rw [r1]
  have e2 : ∀ x, oB x = st2 8 x := fun x => by unfold oB st2; rw [r2]
  have e3 : ∀ x, oC x = st3 8 x := fun x => by unfold oC st3; rw [r3]
  rw [e1, e2, e3]
  unfold pop
  rw [← h]
  have m7 : ∀ n : Nat, n &&& 127 = n % 128 := fun n => by
    have := Nat.and_two_pow_sub_one_eq_mod n 7
    simpa using this
  rw [m7]
  rfl
theorem oA_le (w : Nat) : oA w ≤ 12297829382473034410 := by
  unfold oA
  have h1 : w / 2 &&& 6148914691236517205 ≤ 6148914691236517205 := Nat.and_le_right
  have h2 : w &&& 6148914691236517205 ≤ 6148914691236517205 := Nat.and_le_right
  omega
theorem oB_le (w : Nat) : oB w ≤ 7378697629483820646 := by
  unfold oB
  have h1 : w / 4 &&& 3689348814741910323 ≤ 3689348814741910323 := Nat.and_le_right
  have h2 : w &&& 3689348814741910323 ≤ 3689348814741910323 := Nat.and_le_right
  omega
theorem oC_le (w : Nat) : oC w ≤ 1085102592571150095 := Nat.and_le_right
theorem oD_le (w : Nat) (h : w ≤ 1085102592571150095) : oD w ≤ 1100000000000000000 := by unfold oD; omega
theorem oE_le (w : Nat) (h : w ≤ 1100000000000000000) : oE w ≤ 1200000000000000000 := by unfold oE; omega
theorem oF_le (w : Nat) (h : w ≤ 1200000000000000000) : oF w ≤ 1300000000000000000 := by unfold oF; omega
theorem i64_shl6 (k : Int) (j : IntKind) (hk : 0 ≤ k ∧ k < 2 ^ 57) : xBin .shl (.s (.int .i64 k)) (.s (.int j 6)) = some (.s (.int .i64 (k * 64))) := by
  rw [xb_shl, if_neg (by omega)]
  have h1 : min (Int.toNat 6) IntKind.i64.bits = 6 := by decide
  rw [h1, show k * 2 ^ 6 = k * 64 from rfl, wrap_i64_id (by omega) (by omega)]
theorem i64_or (k : Int) (c : Nat) (hk : 0 ≤ k ∧ k < 2 ^ 57) (hc : c < 64) : xBin .or (.s (.int .i64 (k * 64))) (.s (.int .i64 (c : Int))) = some (.s (.int .i64 (k * 64 + c))) := by
  rw [xb_or]
  obtain ⟨n, rfl⟩ := Int.eq_ofNat_of_zero_le hk.1
  have hn : n < 2 ^ 57 := by omega
  have e : ((n : Int) * 64) = ((n * 64 : Nat) : Int) := by omega
  have h1 : (BitVec.ofInt 64 ((n * 64 : Nat) : Int)).toNat = n * 64 := by rw [BitVec.ofInt_natCast, BitVec.toNat_ofNat]; exact Nat.mod_eq_of_lt (by omega)
  have h2 : (BitVec.ofInt 64 (c : Int)).toNat = c := by rw [BitVec.ofInt_natCast, BitVec.toNat_ofNat]; exact Nat.mod_eq_of_lt (by omega)
  have h3 : n * 64 ||| c = n * 64 + c := by
    have := Nat.two_pow_add_eq_or_of_lt (i := 6) (b := c) (by omega) n
    rw [show 2 ^ 6 * n = n * 64 by omega] at this
    exact this.symm
  rw [e]
  have : IntKind.i64.wrap ((BitVec.ofInt IntKind.i64.bits ((n * 64 : Nat) : Int) ||| BitVec.ofInt IntKind.i64.bits (c : Int)).toNat : Int) = ((n * 64 : Nat) : Int) + c := by
    show IntKind.i64.wrap ((BitVec.ofInt 64 ((n * 64 : Nat) : Int) ||| BitVec.ofInt 64 (c : Int)).toNat : Int) = _
    rw [BitVec.toNat_or, h1, h2, h3, IntKind.wrap_i64]
    omega
  rw [this]
theorem w64_sub1 (w : Nat) (h0 : w ≠ 0) (hw : w < 2 ^ 64) : xBin .sub (.s (.int .u64 (w : Int))) (.s (.int .u64 1)) = some (.s (.int .u64 ((w - 1 : Nat) : Int))) := by
  rw [xb_sub, IntKind.wrap_u64]
  congr 3
  omega
end Go.AM
set_option maxRecDepth 100000
namespace Go.Proofs.YtccallbknpbggaaDoor
open Go.AM
theorem ones_fun {CT : Nat → Option CFun} (hT : CT k_math_bits_OnesCount64 = some (.code s_math_bits_OnesCount64)) (base : Nat) (H : Heap) (w : Nat) (hw : w < 2 ^ 64) :
    callW CT (.fn k_math_bits_OnesCount64 [] []) [.s (.int .u64 w)] base H = some (.s (.int .i64 (pop w)), H) := by
  have m1 : (6148914691236517205 : Int) = ((6148914691236517205 : Nat) : Int) := rfl
  have m2 : (3689348814741910323 : Int) = ((3689348814741910323 : Nat) : Int) := rfl
  have m3 : (1085102592571150095 : Int) = ((1085102592571150095 : Nat) : Int) := rfl
  have sh : ∀ (x n : Nat) (i : Int) (j : IntKind), i = (n : Int) → n < 64 → xBin .shr (.s (.int .u64 (x : Int))) (.s (.int j i)) = some (.s (.int .u64 ((x / 2 ^ n : Nat) : Int))) := fun x n i j e hn => by rw [e]; exact w64_shr x n j hn
  have q1 := fun (x : Nat) (j : IntKind) => sh x 1 1 j rfl (by decide)
  have q2 := fun (x : Nat) (j : IntKind) => sh x 2 2 j rfl (by decide)
  have q4 := fun (x : Nat) (j : IntKind) => sh x 4 4 j rfl (by decide)
  have q8 := fun (x : Nat) (j : IntKind) => sh x 8 8 j rfl (by decide)
  have q16 := fun (x : Nat) (j : IntKind) => sh x 16 16 j rfl (by decide)
  have q32 := fun (x : Nat) (j : IntKind) => sh x 32 32 j rfl (by decide)
  simp only [Nat.reducePow] at q1 q2 q4 q8 q16 q32
  have hA := oA_le w
  have hB := oB_le (oA w)
  have hC := oC_le (oB (oA w))
  have a1 := w64_and (w / 2) 6148914691236517205 (by omega) (by decide)
  have a1' := w64_and w 6148914691236517205 (by omega) (by decide)
  have s1 : xBin .add (.s (.int .u64 ((w / 2 &&& 6148914691236517205 : Nat) : Int))) (.s (.int .u64 ((w &&& 6148914691236517205 : Nat) : Int))) = some (.s (.int .u64 (oA w : Nat))) := w64_add _ _ (by unfold oA at hA; omega)
  have a2 := w64_and (oA w / 4) 3689348814741910323 (by omega) (by decide)
  have a2' := w64_and (oA w) 3689348814741910323 (by omega) (by decide)
  have s2 : xBin .add (.s (.int .u64 ((oA w / 4 &&& 3689348814741910323 : Nat) : Int))) (.s (.int .u64 ((oA w &&& 3689348814741910323 : Nat) : Int))) = some (.s (.int .u64 (oB (oA w) : Nat))) := w64_add _ _ (by unfold oB at hB; omega)
  have s3 : xBin .add (.s (.int .u64 ((oB (oA w) / 16 : Nat) : Int))) (.s (.int .u64 ((oB (oA w) : Nat) : Int))) = some (.s (.int .u64 ((oB (oA w) / 16 + oB (oA w) : Nat) : Int))) := w64_add _ _ (by omega)
  have a3 : xBin .and (.s (.int .u64 ((oB (oA w) / 16 + oB (oA w) : Nat) : Int))) (.s (.int .u64 ((1085102592571150095 : Nat) : Int))) = some (.s (.int .u64 (oC (oB (oA w)) : Nat))) := w64_and _ _ (by omega) (by decide)
  have s4 : xBin .add (.s (.int .u64 ((oC (oB (oA w)) : Nat) : Int))) (.s (.int .u64 ((oC (oB (oA w)) / 256 : Nat) : Int))) = some (.s (.int .u64 (oD (oC (oB (oA w))) : Nat))) := w64_add _ _ (by omega)
  have hD : oD (oC (oB (oA w))) ≤ 1100000000000000000 := oD_le _ hC
  have s5 : xBin .add (.s (.int .u64 ((oD (oC (oB (oA w))) : Nat) : Int))) (.s (.int .u64 ((oD (oC (oB (oA w))) / 65536 : Nat) : Int))) = some (.s (.int .u64 (oE (oD (oC (oB (oA w)))) : Nat))) := w64_add _ _ (by omega)
  have hE : oE (oD (oC (oB (oA w)))) ≤ 1200000000000000000 := oE_le _ hD
  have s6 : xBin .add (.s (.int .u64 ((oE (oD (oC (oB (oA w)))) : Nat) : Int))) (.s (.int .u64 ((oE (oD (oC (oB (oA w)))) / 4294967296 : Nat) : Int))) = some (.s (.int .u64 (oF (oE (oD (oC (oB (oA w))))) : Nat))) := w64_add _ _ (by omega)
  have hF : oF (oE (oD (oC (oB (oA w))))) ≤ 1300000000000000000 := oF_le _ hE
  have c7 : xConv .i64 (.s (.int .u64 (oF (oE (oD (oC (oB (oA w))))) : Nat))) = some (.s (.int .i64 (oF (oE (oD (oC (oB (oA w))))) : Nat))) := by
    generalize oF (oE (oD (oC (oB (oA w))))) = z at hF
    have : IntKind.i64.wrap (z : Int) = z := by rw [IntKind.wrap_i64]; omega
    rw [xc_int, this]
  have a7 : xBin .and (.s (.int .i64 (oF (oE (oD (oC (oB (oA w))))) : Nat))) (.s (.int .i64 127)) = some (.s (.int .i64 (pop w : Nat))) := by
    rw [xb_and, ← ones_eq]
    generalize oF (oE (oD (oC (oB (oA w))))) = z at hF
    have h1 : (BitVec.ofInt 64 (z : Int)).toNat = z := by rw [BitVec.ofInt_natCast, BitVec.toNat_ofNat]; exact Nat.mod_eq_of_lt (by omega)
    have h2 : (BitVec.ofInt 64 (127 : Int)).toNat = 127 := by decide
    have hx : z &&& 127 ≤ 127 := Nat.and_le_right
    have : IntKind.i64.wrap ((BitVec.ofInt IntKind.i64.bits (z : Int) &&& BitVec.ofInt IntKind.i64.bits (127 : Int)).toNat : Int) = ((z &&& 127 : Nat) : Int) := by
      show IntKind.i64.wrap ((BitVec.ofInt 64 (z : Int) &&& BitVec.ofInt 64 (127 : Int)).toNat : Int) = _
      rw [BitVec.toNat_and, h1, h2, IntKind.wrap_i64]
      omega
    rw [this]
  rw [← m1] at a1 a1'
  rw [← m2] at a2 a2'
  rw [← m3] at a3
  refine callW_fn (c := s_math_bits_OnesCount64) hT (by simp [s_math_bits_OnesCount64]) ?_
  simp only [s_math_bits_OnesCount64, a_math_bits_OnesCount64, am0,am1,am2,am3,am4,am5,am6,am7,bl,i64,reduceIte,reduceCtorEq,Nat.reduceEqDiff,Nat.reduceLT,Nat.reduceLeDiff,Nat.reduceBEq,Nat.reduceAdd,fillA,splice,Nat.reduceMul,al0,al1,al2,al3,al4,al5,al6,al7,al8,al9,al10,al11,al12,al13,al14,al15,al16,al17,al18,al19,al20,al21,al22,al23,al24,al25,al26,al27,al28,al29,al30,al31,al32,al33,al34,amY,op_eqP, ↓q1, ↓q2, ↓q4, ↓q8, ↓q16, ↓q32, ↓a1, ↓a1', ↓a2, ↓a2', ↓a3, ↓s1, ↓s2, ↓s3, ↓s4, ↓s5, ↓s6, ↓c7, ↓a7]
end Go.Proofs.YtccallbknpbggaaDoor
set_option maxRecDepth 100000
namespace Go.Proofs.YtccallbknpbggaaDoor
open Go.AM
section
variable {CT : Nat → Option CFun}
theorem at_fun (hT : CT k_bits_Set_at = some (.code s_bits_Set_at)) (base : Nat) {H : Heap} {i j : Nat} {ks : List Int} {f : Int → Nat} {n : Nat} (h : SetW H i j ks f n) (k : Int) :
    callW CT (.fn k_bits_Set_at [] []) [.ref i 0 0, .s (.int .i64 k)] base H = some (.s (.int .u64 (f k)), H) := by
  refine callW_fn (c := s_bits_Set_at) hT (by simp [s_bits_Set_at]) ?_
  have hg := get_es h.wd h.map k
  simp only [s_bits_Set_at, a_bits_Set_at, am0,am1,am2,am3,am4,am5,am6,am7,bl,i64,reduceIte,reduceCtorEq,Nat.reduceEqDiff,Nat.reduceLT,Nat.reduceLeDiff,Nat.reduceBEq,Nat.reduceAdd,fillA,splice,Nat.reduceMul,al0,al1,al2,al3,al4,al5,al6,al7,al8,al9,al10,al11,al12,al13,al14,al15,al16,al17,al18,al19,al20,al21,al22,al23,al24,al25,al26,al27,al28,al29,al30,al31,al32,al33,al34,amY,op_eqP, h.box, hg]
theorem at_nil (hT : CT k_bits_Set_at = some (.code s_bits_Set_at)) (base : Nat) (H : Heap) (k : Int) :
    callW CT (.fn k_bits_Set_at [] []) [.s (.pointer none), .s (.int .i64 k)] base H = some (.s (.int .u64 (0 : Nat)), H) := by
  refine callW_fn (c := s_bits_Set_at) hT (by simp [s_bits_Set_at]) ?_
  simp only [s_bits_Set_at, a_bits_Set_at, am0,am1,am2,am3,am4,am5,am6,am7,bl,i64,reduceIte,reduceCtorEq,Nat.reduceEqDiff,Nat.reduceLT,Nat.reduceLeDiff,Nat.reduceBEq,Nat.reduceAdd,fillA,splice,Nat.reduceMul,al0,al1,al2,al3,al4,al5,al6,al7,al8,al9,al10,al11,al12,al13,al14,al15,al16,al17,al18,al19,al20,al21,al22,al23,al24,al25,al26,al27,al28,al29,al30,al31,al32,al33,al34,amY,op_eqP]
  done
theorem put_fun (hT : CT k_bits_Set_put = some (.code s_bits_Set_put)) (hO : CT k_math_bits_OnesCount64 = some (.code s_math_bits_OnesCount64)) (base : Nat) {H : Heap} {i j : Nat} {ks : List Int} {f : Int → Nat} {n : Nat} (h : SetW H i j ks f n) (hi : base ≤ i) (hj : base ≤ j) {k : Int} (hk : 0 ≤ k ∧ k < 2 ^ 57) {w : Nat} (hw : w < 2 ^ 64) {n' : Nat} (hn : n' + pop (f k) = n + pop w) (hl : n < 2 ^ 62) (hl' : n' < 2 ^ 62) :
    callW CT (.fn k_bits_Set_put [] []) [.ref i 0 0, .s (.int .i64 k), .s (.int .u64 w)] base H = some (.tup [], putH H i j (ksPut ks k w) (updF f k w) n') := by
  refine callW_fnA (c := s_bits_Set_put) (k := 3) hT rfl (by decide) s_bits_Set_put_first ?_
  have hg := get_es h.wd h.map k
  have h1 := fun H => ones_fun hO H.length H w hw
  have h2 := fun H => ones_fun hO H.length H (f k) (h.wd.lt k)
  have hp1 : pop w ≤ 64 := pops_le 64 w
  have hp2 : pop (f k) ≤ 64 := pops_le 64 (f k)
  have hsum : IntKind.i64.wrap ((n : Int) + IntKind.i64.wrap ((pop w : Int) - (pop (f k) : Int))) = (n' : Int) := by
    rw [IntKind.wrap_i64, IntKind.wrap_i64]; omega
  have hbox := h.box
  have hlt := h.lt
  have hne := h.ne
  have hst : storeV H base 1 (.s (.int .i64 n')) (.ref i 0 1) = some (H.set i (.cells 0 [.mp j, iV n'])) := storeV_at hbox hi (one_int _ _) (by simp)
  have hb1 : getC (H.set i (.cells 0 [.mp j, iV n'])) i 0 = some [.mp j, iV n'] := getC_set hbox 0
  have hm1 : (H.set i (.cells 0 [.mp j, iV n']))[j]? = some (.map (esF ks f)) := by rw [List.getElem?_set_ne hne]; exact h.map
  simp only [iV] at hbox hst hb1 hm1
  simp only [s_bits_Set_put, a_bits_Set_put, hst, am0,am1,am2,am3,am4,am5,am6,am7,bl,i64,reduceIte,reduceCtorEq,Nat.reduceEqDiff,Nat.reduceLT,Nat.reduceLeDiff,Nat.reduceBEq,Nat.reduceAdd,fillA,splice,Nat.reduceMul,al0,al1,al2,al3,al4,al5,al6,al7,al8,al9,al10,al11,al12,al13,al14,al15,al16,al17,al18,al19,al20,al21,al22,al23,al24,al25,al26,al27,al28,al29,al30,al31,al32,al33,al34,amY,op_eqP, hbox, hg, h1, h2, hsum, hb1]
  by_cases h0 : w = 0
  · subst h0
    have hd := del_es hj h.wd hm1 k
    simp only [s_bits_Set_put, a_bits_Set_put, am0,am1,am2,am3,am4,am5,am6,am7,bl,i64,reduceIte,reduceCtorEq,Nat.reduceEqDiff,Nat.reduceLT,Nat.reduceLeDiff,Nat.reduceBEq,Nat.reduceAdd,fillA,splice,Nat.reduceMul,al0,al1,al2,al3,al4,al5,al6,al7,al8,al9,al10,al11,al12,al13,al14,al15,al16,al17,al18,al19,al20,al21,al22,al23,al24,al25,al26,al27,al28,al29,al30,al31,al32,al33,al34,amY,op_eqP, hd, hb1]
    rfl
  · have hu := upd_es hj h.wd hm1 k h0
    have hz : ((w : Int) == 0) = false := by simpa using h0
    simp only [hz, a_bits_Set_put, am0,am1,am2,am3,am4,am5,am6,am7,bl,i64,reduceIte,reduceCtorEq,Nat.reduceEqDiff,Nat.reduceLT,Nat.reduceLeDiff,Nat.reduceBEq,Nat.reduceAdd,fillA,splice,Nat.reduceMul,al0,al1,al2,al3,al4,al5,al6,al7,al8,al9,al10,al11,al12,al13,al14,al15,al16,al17,al18,al19,al20,al21,al22,al23,al24,al25,al26,al27,al28,al29,al30,al31,al32,al33,al34,amY,op_eqP, hu, hb1]
    rfl
theorem has_fun (hT : CT k_bits_Set_Has = some (.code s_bits_Set_Has)) (hA : CT k_bits_Set_at = some (.code s_bits_Set_at)) (base : Nat) {H : Heap} {v : V} {f : Int → Nat} (hf : ∀ k, f k < 2 ^ 64) (h : ∀ (base : Nat) (k : Int), callW CT (.fn k_bits_Set_at [] []) [v, .s (.int .i64 k)] base H = some (.s (.int .u64 (f k)), H)) (x : Int) (hx : x < 2 ^ 63) :
    callW CT (.fn k_bits_Set_Has [] []) [v, .s (.int .i64 x)] base H = some (.s (.bool (hasF f x)), H) := by
  refine callW_fn (c := s_bits_Set_Has) hT (by simp [s_bits_Set_Has]) ?_
  by_cases h0 : 0 ≤ x
  · have hg : decide (x ≥ 0) = true := by simpa using h0
    have s6 := fun j => i64_shr6 x j
    have a6 := i64_and63 x ⟨h0, hx⟩
    have hs := w64_shr (f (x / 64)) (x % 64).toNat .i64 (by omega)
    have ha := w64_and (f (x / 64) / 2 ^ (x % 64).toNat) 1 (Nat.lt_of_le_of_lt (Nat.div_le_self _ _) (hf _)) (by decide)
    rw [bit_shr, show ((1 : Nat) : Int) = 1 from rfl] at ha
    have hq : ((((if (f (x / 64)).testBit (x % 64).toNat then 1 else 0 : Nat)) : Int) == 1) = (f (x / 64)).testBit (x % 64).toNat := by
      cases (f (x / 64)).testBit (x % 64).toNat <;> rfl
    have h' := fun base => h base (x / 64)
    simp only [s_bits_Set_Has, a_bits_Set_Has, am0,am1,am2,am3,am4,am5,am6,am7,bl,i64,reduceIte,reduceCtorEq,Nat.reduceEqDiff,Nat.reduceLT,Nat.reduceLeDiff,Nat.reduceBEq,Nat.reduceAdd,fillA,splice,Nat.reduceMul,al0,al1,al2,al3,al4,al5,al6,al7,al8,al9,al10,al11,al12,al13,al14,al15,al16,al17,al18,al19,al20,al21,al22,al23,al24,al25,al26,al27,al28,al29,al30,al31,al32,al33,al34,amY,op_eqP, hg, ↓s6, ↓a6, ↓hs, ↓ha, s6, a6, hs, ha, h', hq, hasF, h0]
    done
  · have hg : decide (x ≥ 0) = false := by simpa using h0
    simp only [s_bits_Set_Has, a_bits_Set_Has, am0,am1,am2,am3,am4,am5,am6,am7,bl,i64,reduceIte,reduceCtorEq,Nat.reduceEqDiff,Nat.reduceLT,Nat.reduceLeDiff,Nat.reduceBEq,Nat.reduceAdd,fillA,splice,Nat.reduceMul,al0,al1,al2,al3,al4,al5,al6,al7,al8,al9,al10,al11,al12,al13,al14,al15,al16,al17,al18,al19,al20,al21,al22,al23,al24,al25,al26,al27,al28,al29,al30,al31,al32,al33,al34,amY,op_eqP, hg, hasF, h0]
theorem len_fun (hT : CT k_bits_Set_Len = some (.code s_bits_Set_Len)) (base : Nat) {H : Heap} {i j : Nat} {ks : List Int} {f : Int → Nat} {n : Nat} (h : SetW H i j ks f n) :
    callW CT (.fn k_bits_Set_Len [] []) [.ref i 0 0] base H = some (.s (.int .i64 n), H) := by
  refine callW_fn (c := s_bits_Set_Len) hT (by simp [s_bits_Set_Len]) ?_
  have hb := h.box
  simp only [iV] at hb
  simp only [s_bits_Set_Len, a_bits_Set_Len, am0,am1,am2,am3,am4,am5,am6,am7,bl,i64,reduceIte,reduceCtorEq,Nat.reduceEqDiff,Nat.reduceLT,Nat.reduceLeDiff,Nat.reduceBEq,Nat.reduceAdd,fillA,splice,Nat.reduceMul,al0,al1,al2,al3,al4,al5,al6,al7,al8,al9,al10,al11,al12,al13,al14,al15,al16,al17,al18,al19,al20,al21,al22,al23,al24,al25,al26,al27,al28,al29,al30,al31,al32,al33,al34,amY,op_eqP, hb]
theorem len_nil (hT : CT k_bits_Set_Len = some (.code s_bits_Set_Len)) (base : Nat) (H : Heap) :
    callW CT (.fn k_bits_Set_Len [] []) [.s (.pointer none)] base H = some (.s (.int .i64 (0 : Nat)), H) := by
  refine callW_fn (c := s_bits_Set_Len) hT (by simp [s_bits_Set_Len]) ?_
  simp only [s_bits_Set_Len, a_bits_Set_Len, am0,am1,am2,am3,am4,am5,am6,am7,bl,i64,reduceIte,reduceCtorEq,Nat.reduceEqDiff,Nat.reduceLT,Nat.reduceLeDiff,Nat.reduceBEq,Nat.reduceAdd,fillA,splice,Nat.reduceMul,al0,al1,al2,al3,al4,al5,al6,al7,al8,al9,al10,al11,al12,al13,al14,al15,al16,al17,al18,al19,al20,al21,al22,al23,al24,al25,al26,al27,al28,al29,al30,al31,al32,al33,al34,amY,op_eqP]
end
end Go.Proofs.YtccallbknpbggaaDoor
set_option maxRecDepth 100000
namespace Go.Proofs.YtccallbknpbggaaDoor
open Go.AM
structure TB (CT : Nat → Option CFun) : Prop where
  of : CT k_bits_Of = some (.code s_bits_Of)
  add : CT k_bits_Set_Add = some (.code s_bits_Set_Add)
  has : CT k_bits_Set_Has = some (.code s_bits_Set_Has)
  len : CT k_bits_Set_Len = some (.code s_bits_Set_Len)
  at' : CT k_bits_Set_at = some (.code s_bits_Set_at)
  put : CT k_bits_Set_put = some (.code s_bits_Set_put)
  ones : CT k_math_bits_OnesCount64 = some (.code s_math_bits_OnesCount64)
  all : CT k_bits_Set_all = some (.code s_bits_Set_all)
  all1 : CT k_bits_Set_all_1 = some (.code s_bits_Set_all_1)
  keys : CT k_maps_Keys_map_int_uint64_int_uint64 = some (.code s_maps_Keys_map_int_uint64_int_uint64)
  sorted : CT k_slices_Sorted_int = some (.prim (sortedG k_maps_Keys_1))
section
variable {CT : Nat → Option CFun}
theorem put_P (h : TB CT) (base : Nat) {H : Heap} {i j : Nat} {p : WS} (hp : SetP H i j p) (hi : base ≤ i) (hj : base ≤ j) {k : Int} (hk : 0 ≤ k ∧ k < 2 ^ 57) {w : Nat} (hw : w < 2 ^ 64) (hl : cnt p < 2 ^ 61) :
    callW CT (.fn k_bits_Set_put [] []) [.ref i 0 0, .s (.int .i64 k), .s (.int .u64 w)] base H = some (.tup [], putPH H i j (putP p k w)) := by
  have hc := cnt_put hp.wd k w
  have h1 : pop w ≤ 64 := pops_le 64 w
  exact put_fun h.put h.ones base hp hi hj hk hw hc (by omega) (by omega)
theorem has_P (h : TB CT) (base : Nat) {H : Heap} {i j : Nat} {p : WS} (hp : SetP H i j p) (x : Int) (hx : x < 2 ^ 63) :
    callW CT (.fn k_bits_Set_Has [] []) [.ref i 0 0, .s (.int .i64 x)] base H = some (.s (.bool (hasF p.2 x)), H) :=
  has_fun h.has h.at' base (fun k => hp.wd.lt k) (fun base k => at_fun h.at' base hp k) x hx
theorem add_P (h : TB CT) (base : Nat) {H : Heap} {i j : Nat} {p : WS} (hp : SetP H i j p) (hi : base ≤ i) (hj : base ≤ j) (x : Int) (hx : x < 2 ^ 63) (hl : cnt p < 2 ^ 61) :
    callW CT (.fn k_bits_Set_Add [] []) [.ref i 0 0, .s (.int .i64 x)] base H = some (.s (.bool (decide (0 ≤ x) && !hasF p.2 x)), putPH H i j (addP p x)) := by
  have hh := fun base => has_P h base hp x hx
  refine callW_fn (c := s_bits_Set_Add) h.add (by simp [s_bits_Set_Add]) ?_
  by_cases h0 : 0 ≤ x
  · have hg : decide (x < 0) = false := by simpa using h0
    cases hq : hasF p.2 x with
    | true =>
      have he : addP p x = p := by unfold addP; rw [if_neg]; rw [hq]; simp
      simp only [s_bits_Set_Add, a_bits_Set_Add, am0,am1,am2,am3,am4,am5,am6,am7,bl,i64,reduceIte,reduceCtorEq,Nat.reduceEqDiff,Nat.reduceLT,Nat.reduceLeDiff,Nat.reduceBEq,Nat.reduceAdd,fillA,splice,Nat.reduceMul,al0,al1,al2,al3,al4,al5,al6,al7,al8,al9,al10,al11,al12,al13,al14,al15,al16,al17,al18,al19,al20,al21,al22,al23,al24,al25,al26,al27,al28,al29,al30,al31,al32,al33,al34,amY,op_eqP, hg, hh, hq, he, putPH_same hp]
      done
    | false =>
      have he : addP p x = putP p (x / 64) (p.2 (x / 64) ||| 2 ^ (x % 64).toNat) := by unfold addP; rw [if_pos ⟨h0, hq⟩]
      have s6 := fun j => i64_shr6 x j
      have a6 := i64_and63 x ⟨h0, hx⟩
      have hs := w64_shl 1 (x % 64).toNat .i64 (by omega) (by rw [Nat.one_mul]; exact bit_lt64 x)
      rw [Nat.one_mul, show ((1 : Nat) : Int) = 1 from rfl] at hs
      have ho := w64_or (p.2 (x / 64)) (2 ^ (x % 64).toNat) (hp.wd.lt _) (bit_lt64 x)
      have ha := fun base => at_fun h.at' base hp (x / 64)
      have hP := put_P h base hp hi hj (key_ok ⟨h0, hx⟩) (addW_lt hp.wd x) hl
      simp only [s_bits_Set_Add, a_bits_Set_Add, am0,am1,am2,am3,am4,am5,am6,am7,bl,i64,reduceIte,reduceCtorEq,Nat.reduceEqDiff,Nat.reduceLT,Nat.reduceLeDiff,Nat.reduceBEq,Nat.reduceAdd,fillA,splice,Nat.reduceMul,al0,al1,al2,al3,al4,al5,al6,al7,al8,al9,al10,al11,al12,al13,al14,al15,al16,al17,al18,al19,al20,al21,al22,al23,al24,al25,al26,al27,al28,al29,al30,al31,al32,al33,al34,amY,op_eqP, hg, hh, hq, s6, ↓s6, a6, ↓a6, hs, ↓hs, ho, ↓ho, ha, hP, he, h0]
      done
  · have hg : decide (x < 0) = true := by simpa using h0
    have he : addP p x = p := by unfold addP; rw [if_neg]; exact fun h => h0 h.1
    simp only [s_bits_Set_Add, a_bits_Set_Add, am0,am1,am2,am3,am4,am5,am6,am7,bl,i64,reduceIte,reduceCtorEq,Nat.reduceEqDiff,Nat.reduceLT,Nat.reduceLeDiff,Nat.reduceBEq,Nat.reduceAdd,fillA,splice,Nat.reduceMul,al0,al1,al2,al3,al4,al5,al6,al7,al8,al9,al10,al11,al12,al13,al14,al15,al16,al17,al18,al19,al20,al21,al22,al23,al24,al25,al26,al27,al28,al29,al30,al31,al32,al33,al34,amY,op_eqP, hg, he, putPH_same hp, h0]
    done
end
end Go.Proofs.YtccallbknpbggaaDoor
set_option maxRecDepth 100000
namespace Go.Proofs.YtccallbknpbggaaDoor
open Go.AM
section
variable {CT : Nat → Option CFun}
theorem all_fun (h : TB CT) (base : Nat) (H : Heap) {v : V} (hv : v.one = true) : callW CT (.fn k_bits_Set_all [] []) [v] base H = some (.fn k_bits_Set_all_1 [] [.ref H.length 0 0], H ++ [.cells 0 [v]]) := by
  refine callW_fnA (c := s_bits_Set_all) (k := 1) h.all rfl (by decide) s_bits_Set_all_first ?_
  have hc : V.cells v = [v] := cells_of_one hv
  have ha : ([v].all V.one) = true := by simp [hv]
  simp only [s_bits_Set_all, a_bits_Set_all, am0,am1,am2,am3,am4,am5,am6,am7,bl,i64,reduceIte,reduceCtorEq,Nat.reduceEqDiff,Nat.reduceLT,Nat.reduceLeDiff,Nat.reduceBEq,Nat.reduceAdd,fillA,splice,Nat.reduceMul,al0,al1,al2,al3,al4,al5,al6,al7,al8,al9,al10,al11,al12,al13,al14,al15,al16,al17,al18,al19,al20,al21,al22,al23,al24,al25,al26,al27,al28,al29,al30,al31,al32,al33,al34,amY,op_eqP, hc, ha, hv, xsub_mkFn]
  done
theorem keys_fun (h : TB CT) (base : Nat) (H : Heap) (j : Nat) : callW CT (.fn k_maps_Keys_map_int_uint64_int_uint64 [] []) [.mp j] base H = some (.fn k_maps_Keys_1 [] [.ref H.length 0 0], H ++ [.cells 0 [.mp j]]) := by
  refine callW_fnA (c := s_maps_Keys_map_int_uint64_int_uint64) (k := 1) h.keys rfl (by decide) s_maps_Keys_map_int_uint64_int_uint64_first ?_
  have hc : V.cells (.mp j) = [.mp j] := rfl
  have ha : ([V.mp j].all V.one) = true := rfl
  simp only [s_maps_Keys_map_int_uint64_int_uint64, a_maps_Keys_map_int_uint64_int_uint64, am0,am1,am2,am3,am4,am5,am6,am7,bl,i64,reduceIte,reduceCtorEq,Nat.reduceEqDiff,Nat.reduceLT,Nat.reduceLeDiff,Nat.reduceBEq,Nat.reduceAdd,fillA,splice,Nat.reduceMul,al0,al1,al2,al3,al4,al5,al6,al7,al8,al9,al10,al11,al12,al13,al14,al15,al16,al17,al18,al19,al20,al21,al22,al23,al24,al25,al26,al27,al28,al29,al30,al31,al32,al33,al34,amY,op_eqP, hc, ha, xsub_mkFn]
  done
theorem sorted_fun (h : TB CT) (base : Nat) {H : Heap} {bx j : Nat} {p : WS} (hb : getC H bx 0 = some [.mp j]) (hj : H[j]? = some (.map (esF p.1 p.2))) (hp : WdP p) (hl : cnt p ≤ 2 ^ 43) :
    callW CT (.fn k_slices_Sorted_int [] []) [.fn k_maps_Keys_1 [] [.ref bx 0 0]] base H = if p.1.length = 0 then some (nilS, H) else some (.sl H.length 0 0 p.1.length 1, H ++ [.cells 0 ((sortI p.1).map iV)]) := by
  have hk := keysZ_es hp
  have hle : p.1.length ≤ cnt p := cnt_ge hp
  have hb8 : p.1.length * 8 ≤ 140737488355328 := by omega
  have e : evCall CT (callW CT) itW (.fn k_slices_Sorted_int [] []) [.fn k_maps_Keys_1 [] [.ref bx 0 0]] base H = if p.1.length = 0 then some (nilS, H) else some (.sl H.length 0 0 p.1.length 1, H ++ [.cells 0 ((sortI p.1).map iV)]) := by
    simp only [evCall, h.sorted, List.nil_append, List.append_nil, sortedG, if_true, hb, hj, hk, hb8]
  split at e <;> rename_i h0
  · rw [if_pos h0]; exact callW_eq e
  · rw [if_neg h0]; exact callW_eq e
structure It (CT : Nat → Option CFun) (base L m0 i bx : Nat) (p : WS) (P : List Int → Heap → Prop) (Q : Heap → Prop) : Prop where
  box : ∀ pre H, P pre H → getC H bx 0 = some [.ref i 0 0]
  read : ∀ pre k post H, sortI p.1 = pre ++ k :: post → P pre H → ∃ j q, SetP H i j q ∧ q.2 k = p.2 k
  trim : ∀ pre m fr H, P pre H → m0 ≤ m → P pre (trim m fr H)
  trimQ : ∀ m fr H, Q H → m0 ≤ m → Q (Go.AM.trim m fr H)
  step : ∀ pre k post H, sortI p.1 = pre ++ k :: post → P pre H → m0 + 2 ≤ H.length →
    (∃ H2, callW CT (.yld L) [.s (.int .i64 k), .s (.int .u64 (p.2 k))] base H = some (.s (.bool true), H2) ∧ P (pre ++ [k]) H2 ∧ m0 + 2 ≤ H2.length ∧ ∀ id, m0 ≤ id → id < m0 + 2 → H2[id]? = H[id]?) ∨
    ∃ H2, callW CT (.yld L) [.s (.int .i64 k), .s (.int .u64 (p.2 k))] base H = some (.s (.bool false), H2) ∧ Q H2
theorem getC_keep {H H' : Heap} {id g : Nat} {c : List V} (h : getC H id g = some c) (e : H'[id]? = H[id]?) : getC H' id g = some c := by
  unfold getC at h ⊢
  rw [e]; exact h
theorem all_loop {base L m0 i bx m id0 : Nat} {p : WS} {P : List Int → Heap → Prop} {Q : Heap → Prop} (hI : It CT base L m0 i bx p P Q) (hm : m = m0 + 2) (hid : m0 ≤ id0) (hidm : id0 < m) (hn : p.1.length < 2 ^ 61) :
    ∀ (post pre : List Int) (H : Heap), sortI p.1 = pre ++ post → P pre H → m ≤ H.length → getC H id0 0 = some ((sortI p.1).map iV) →
    ∃ e fr H2, itW (evC (callW CT) itW base s_bits_Set_all_1_l0) [] m (frOf 29 [(0, .yld L), (1, .ref bx 0 0), (12, .sl id0 0 0 p.1.length 1), (13, .s (.int .i64 p.1.length)), (14, .s (.int .i64 pre.length))]) H = some (e, fr, H2) ∧ (e = .ext 0 ∧ P (sortI p.1) H2 ∨ e = .ret ∧ Q H2) := by
  intro post
  induction post with
  | nil =>
    intro pre H hs hP hH hc
    rw [List.append_nil] at hs
    have hl : pre.length = p.1.length := by rw [← hs]; exact (sortI_perm p.1).length_eq
    rw [itW_step, hl]
    simp only [a_bits_Set_all_1,s_bits_Set_all_1_l0_b, am0,am1,am2,am3,am4,am5,am6,am7,bl,i64,reduceIte,reduceCtorEq,Nat.reduceEqDiff,Nat.reduceLT,Nat.reduceLeDiff,Nat.reduceBEq,Nat.reduceAdd,fillA,splice,Nat.reduceMul,al0,al1,al2,al3,al4,al5,al6,al7,al8,al9,al10,al11,al12,al13,al14,al15,al16,al17,al18,al19,al20,al21,al22,al23,al24,al25,al26,al27,al28,al29,al30,al31,al32,al33,al34,amY,op_eqP, Int.lt_irrefl]
    exact ⟨_, _, _, rfl, .inl ⟨rfl, by rw [hs]; exact hI.trim _ _ _ _ hP (by omega)⟩⟩
  | cons k post ih =>
    intro pre H hs hP hH hc
    have hl : pre.length + (post.length + 1) = p.1.length := by
      have := (sortI_perm p.1).length_eq
      rw [hs] at this
      simpa using this
    have hlt : ((pre.length : Int) < (p.1.length : Int)) := by omega
    have hck : ((sortI p.1).map iV)[pre.length]? = some (iV k) := by rw [hs]; simp
    obtain ⟨ha, hb⟩ := at_sl hc (n := p.1.length) (j := pre.length) (by omega) hck
    simp only [iV] at hb
    have hbox := hI.box _ _ hP
    obtain ⟨j, q, hq, hqk⟩ := hI.read _ _ _ _ hs hP
    have hqb := hq.box
    simp only [iV] at hqb
    have hg := get_es hq.wd hq.map k
    rw [hqk] at hg
    rw [itW_step]
    rcases hI.step _ _ _ _ hs hP (by omega) with ⟨H2, hy, hP2, hlen, hkeep⟩ | ⟨H2, hy, hQ⟩
    · simp only [a_bits_Set_all_1,s_bits_Set_all_1_l0_b, am0,am1,am2,am3,am4,am5,am6,am7,bl,i64,reduceIte,reduceCtorEq,Nat.reduceEqDiff,Nat.reduceLT,Nat.reduceLeDiff,Nat.reduceBEq,Nat.reduceAdd,fillA,splice,Nat.reduceMul,al0,al1,al2,al3,al4,al5,al6,al7,al8,al9,al10,al11,al12,al13,al14,al15,al16,al17,al18,al19,al20,al21,al22,al23,al24,al25,al26,al27,al28,al29,al30,al31,al32,al33,al34,amY,op_eqP, hlt, ha, hb, hbox, hqb, hg, hy, wrap_pos (n := pre.length) (by omega)]
      have hc2 := getC_keep hc (hkeep id0 hid (by omega))
      have := ih (pre ++ [k]) (trim m (frOf 29 [(0, .yld L), (1, .ref bx 0 0), (12, .sl id0 0 0 p.1.length 1), (13, .s (.int .i64 p.1.length)), (14, .s (.int .i64 ((pre.length + 1 : Nat) : Int)))]) H2) (by rw [hs]; simp) (hI.trim _ _ _ _ hP2 (by omega)) (trim_le (by omega)) (trim_get hc2 hidm)
      rw [List.length_append, List.length_singleton] at this
      exact this
    · simp only [a_bits_Set_all_1,s_bits_Set_all_1_l0_b, am0,am1,am2,am3,am4,am5,am6,am7,bl,i64,reduceIte,reduceCtorEq,Nat.reduceEqDiff,Nat.reduceLT,Nat.reduceLeDiff,Nat.reduceBEq,Nat.reduceAdd,fillA,splice,Nat.reduceMul,al0,al1,al2,al3,al4,al5,al6,al7,al8,al9,al10,al11,al12,al13,al14,al15,al16,al17,al18,al19,al20,al21,al22,al23,al24,al25,al26,al27,al28,al29,al30,al31,al32,al33,al34,amY,op_eqP, hlt, ha, hb, hbox, hqb, hg, hy]
      exact ⟨_, _, _, rfl, .inr ⟨rfl, hI.trimQ _ _ _ hQ (by omega)⟩⟩
theorem all_iter (h : TB CT) {base L i bx : Nat} {H : Heap} {p : WS} {P : List Int → Heap → Prop} {Q : Heap → Prop} (hI : It CT base L H.length i bx p P Q) {j : Nat} (hp : SetP H i j p) (hbx : getC H bx 0 = some [.ref i 0 0]) (hl : cnt p ≤ 2 ^ 43) (h0 : ∀ G, P [] (H ++ G)) :
    ∃ H2, callW CT (.fn k_bits_Set_all_1 [] [.ref bx 0 0]) [.yld L] base H = some (.tup [], H2) ∧ (P (sortI p.1) H2 ∨ Q H2) := by
  have hle : p.1.length ≤ cnt p := cnt_ge hp.wd
  have hb := hp.box
  simp only [iV] at hb
  have hk := keys_fun h base H j
  have hA : getC (H ++ [Ob.cells 0 [V.mp j]]) H.length 0 = some [.mp j] := by simpa using getC_new H 0 [V.mp j]
  have hj : (H ++ [Ob.cells 0 [V.mp j]])[j]? = some (.map (esF p.1 p.2)) := by rw [List.getElem?_append_left (SetW.lt hp).2]; exact hp.map
  have hs := sorted_fun h base hA hj hp.wd hl
  by_cases hz : p.1.length = 0
  · rw [if_pos hz] at hs
    have hnil : sortI p.1 = [] := by rw [List.eq_nil_of_length_eq_zero hz]; rfl
    refine ⟨trim (H.length + 1) (frOf 29 [(0, V.yld L), (1, V.ref bx 0 0), (12, nilS), (13, V.s (.int .i64 0)), (14, V.s (.int .i64 0)), (15, V.s (.bool false))]) (H ++ [Ob.cells 0 [V.mp j]]), ?_, .inl (by rw [hnil]; exact hI.trim _ _ _ _ (h0 _) (Nat.le_succ _))⟩
    refine callW_fn (c := s_bits_Set_all_1) h.all1 (by simp [s_bits_Set_all_1]) ?_
    simp only [s_bits_Set_all_1, a_bits_Set_all_1,s_bits_Set_all_1_l0_b, am0,am1,am2,am3,am4,am5,am6,am7,bl,i64,reduceIte,reduceCtorEq,Nat.reduceEqDiff,Nat.reduceLT,Nat.reduceLeDiff,Nat.reduceBEq,Nat.reduceAdd,fillA,splice,Nat.reduceMul,al0,al1,al2,al3,al4,al5,al6,al7,al8,al9,al10,al11,al12,al13,al14,al15,al16,al17,al18,al19,al20,al21,al22,al23,al24,al25,al26,al27,al28,al29,al30,al31,al32,al33,al34,amY,op_eqP, hbx, hb, hk, hs, nilS, itW_step, Int.lt_irrefl]
    rfl
  · rw [if_neg hz] at hs
    obtain ⟨e, fr, H2, hr, hPQ⟩ := all_loop hI (m := H.length + 2) (id0 := H.length + 1) (by omega) (by omega) (by omega) (by omega) (sortI p.1) [] (H ++ [Ob.cells 0 [V.mp j]] ++ [Ob.cells 0 ((sortI p.1).map iV)]) rfl (by rw [List.append_assoc]; exact h0 _) (by simp) (by
      have := getC_new (H ++ [Ob.cells 0 [V.mp j]]) 0 ((sortI p.1).map iV)
      simpa using this)
    refine ⟨H2, ?_, hPQ.imp And.right And.right⟩
    refine callW_fn (c := s_bits_Set_all_1) h.all1 (by simp [s_bits_Set_all_1]) ?_
    rw [show ((([] : List Int).length : Nat) : Int) = 0 from rfl] at hr
    simp only [s_bits_Set_all_1, a_bits_Set_all_1,s_bits_Set_all_1_l0_b, am0,am1,am2,am3,am4,am5,am6,am7,bl,i64,reduceIte,reduceCtorEq,Nat.reduceEqDiff,Nat.reduceLT,Nat.reduceLeDiff,Nat.reduceBEq,Nat.reduceAdd,fillA,splice,Nat.reduceMul,al0,al1,al2,al3,al4,al5,al6,al7,al8,al9,al10,al11,al12,al13,al14,al15,al16,al17,al18,al19,al20,al21,al22,al23,al24,al25,al26,al27,al28,al29,al30,al31,al32,al33,al34,amY,op_eqP, hbx, hb, hk, hs, hr]
    rcases hPQ with ⟨rfl, _⟩ | ⟨rfl, _⟩ <;> simp only [am0,am1,am2,am3,am4,am5,am6,am7,bl,i64,reduceIte,reduceCtorEq,Nat.reduceEqDiff,Nat.reduceLT,Nat.reduceLeDiff,Nat.reduceBEq,Nat.reduceAdd,fillA,splice,Nat.reduceMul,al0,al1,al2,al3,al4,al5,al6,al7,al8,al9,al10,al11,al12,al13,al14,al15,al16,al17,al18,al19,al20,al21,al22,al23,al24,al25,al26,al27,al28,al29,al30,al31,al32,al33,al34,amY,op_eqP] <;> rfl
end
end Go.Proofs.YtccallbknpbggaaDoor
set_option maxRecDepth 100000
namespace Go.Proofs.YtccallbknpbggaaDoor
open Go.AM
section
variable {CT : Nat → Option CFun}
theorem yld_round {base L : Nat} {H : Heap} {args t fr fr1 fr2 : List V} {p : List Nat} {a b : ACode} {e : Ex} {H2 : Heap} (hb : base ≤ L) (hH : H[L]? = some (.loop .ready none t p a b)) (hs : setPs p args t = some fr)
    (ha : evC (callW CT) itW base a fr H = some (.nrm, fr1, H)) (hbody : evC (callW CT) itW base b fr1 (H.set L (.loop .busy none t p a b)) = some (e, fr2, H2)) (hL : H2[L]? = some (.loop .busy none t p a b)) :
    callW CT (.yld L) args base H = some (bl (e = .nrm), H2.set L (.loop (if e = .nrm then .ready else .done) (pendOf e) t p a b)) :=
  callW_yld hb hH hs ha (by rw [hbody, yldE_some hL])
theorem union_body (h : TB CT) {base i b2 : Nat} {H : Heap} {j : Nat} {q : WS} (hi : base ≤ i) (hj : base ≤ j) (hq : SetP H i j q) (hbx : getC H b2 0 = some [.ref i 0 0])
    {k : Int} (hk : 0 ≤ k ∧ k < 2 ^ 57) {w : Nat} (hw : w < 2 ^ 64) (hl : cnt q < 2 ^ 61) :
    evC (callW CT) itW base s_bits_Set_Union_b0 (frOf 32 [(2, .ref b2 0 0), (6, .s (.int .i64 k)), (7, .s (.int .u64 w))]) H = some (.nrm, frOf 32 [], putPH H i j (putP q k (q.2 k ||| w))) := by
  have ha := fun base => at_fun h.at' base hq k
  have ho := w64_or (q.2 k) w (hq.wd.lt k) hw
  have hP := put_P h base hq hi hj hk (w := q.2 k ||| w) (Nat.or_lt_two_pow (hq.wd.lt k) hw) hl
  simp only [s_bits_Set_Union_b0, a_bits_Set_Union, am0,am1,am2,am3,am4,am5,am6,am7,bl,i64,reduceIte,reduceCtorEq,Nat.reduceEqDiff,Nat.reduceLT,Nat.reduceLeDiff,Nat.reduceBEq,Nat.reduceAdd,fillA,splice,Nat.reduceMul,al0,al1,al2,al3,al4,al5,al6,al7,al8,al9,al10,al11,al12,al13,al14,al15,al16,al17,al18,al19,al20,al21,al22,al23,al24,al25,al26,al27,al28,al29,al30,al31,al32,al33,al34,amY,op_eqP, hbx, ha, ho, ↓ho, hP]
  done
theorem putPH_getC {H : Heap} {i j : Nat} {p : WS} {id g : Nat} {c : List V} (h : getC H id g = some c) (h1 : id ≠ i) (h2 : id ≠ j) : getC (putPH H i j p) id g = some c := getC_keep h (putPH_other H i j p h1 h2)
theorem union_P (h : TB CT) (base : Nat) {H : Heap} {i j : Nat} {p : WS} (hp : SetP H i j p) (hi : base ≤ i) (hj : base ≤ j) {i2 j2 : Nat} {r : WS} (hr : SetP H i2 j2 r) (hd : (i2 = i ∧ j2 = j) ∨ (i2 ≠ i ∧ i2 ≠ j ∧ j2 ≠ i ∧ j2 ≠ j)) (hl : cnt p + cnt r ≤ 2 ^ 43) (hU : CT k_bits_Set_Union = some (.code s_bits_Set_Union)) :
    ∃ H', callW CT (.fn k_bits_Set_Union [] []) [.ref i 0 0, .ref i2 0 0] base H = some (.s (.bool (decide ((cnt (uniA p r) : Int) > cnt p))), H') ∧ SetP H' i j (uniA p r) ∧ KeepB H.length i j H H' := by
  have hil := SetW.lt hp
  have hrl := SetW.lt hr
  have hbl : base ≤ H.length := by omega
  have hcl := fun b H => all_fun h b H (v := .ref i2 0 0) rfl
  have hbp := hp.box
  simp only [iV] at hbp
  have hpb0 := hp.app [Ob.cells 0 [V.ref i 0 0], Ob.cells 0 [V.ref i2 0 0]]
  have hsame : i2 = i → j2 = j → r = p := fun e1 e2 => by subst e1 e2; exact hr.uniq hp
  let ob := Ob.loop .ready none (frOf 32 [(2, V.ref H.length 0 0), (5, V.s (.int .i64 (cnt p : Nat))), (15, V.fn k_bits_Set_all_1 [] [.ref (H.length + 1) 0 0])]) [16, 17] s_bits_Set_Union_a0 s_bits_Set_Union_b0
  let H3 := H ++ [Ob.cells 0 [V.ref i 0 0]] ++ [Ob.cells 0 [V.ref i2 0 0]] ++ [ob]
  have hH3l : H3.length = H.length + 3 := by simp [H3]
  have hH3o : ∀ id, id < H.length → H3[id]? = H[id]? := fun id hid => by
    simp only [H3, List.append_assoc]; rw [List.getElem?_append_left hid]
  have hH3a : H3[H.length]? = some (Ob.cells 0 [V.ref i 0 0]) := by simp [H3]
  have hH3b : H3[H.length + 1]? = some (Ob.cells 0 [V.ref i2 0 0]) := by simp [H3]
  have hH3c : H3[H.length + 2]? = some ob := by simp [H3]
  have hp3 : SetP H3 i j p := hp.keep (hH3o _ hil.1) (hH3o _ hil.2)
  have hr3 : SetP H3 i2 j2 r := hr.keep (hH3o _ hrl.1) (hH3o _ hrl.2)
  let P : List Int → Heap → Prop := fun pre H' => (∀ k ∈ pre, k ∈ r.1) ∧ SetP H' i j (uniL r pre p) ∧ KeepB H3.length i j H3 H'
  have hI : It CT base (H.length + 2) H3.length i2 (H.length + 1) r P (fun _ => False) := by
    refine ⟨fun pre H' hP => ?_, fun pre k post H' hs hP => ?_, fun pre m fr H' hP hm => ?_, fun _ _ _ hQ _ => hQ, fun pre k post H' hs hP hlen => ?_⟩
    · have e := hP.2.2.2 (H.length + 1) (by omega) (by omega) (by omega)
      exact getC_keep (c := [V.ref i2 0 0]) (by unfold getC; rw [hH3b]; rfl) e
    · rcases hd with ⟨rfl, rfl⟩ | ⟨d1, d2, d3, d4⟩
      · refine ⟨j2, _, hP.2.1, ?_⟩
        rw [uniL_fun, hsame rfl rfl]
        split
        · rw [Nat.or_self]
        · rfl
      · refine ⟨j2, r, hr3.keep (hP.2.2.2 i2 (by omega) d1 d2) (hP.2.2.2 j2 (by omega) d3 d4), rfl⟩
    · refine ⟨hP.1, hP.2.1.trim (by omega) (by omega) fr, hP.2.2.trim hm fr⟩
    · left
      have hkr : k ∈ r.1 := mem_sortI.1 (by rw [hs]; simp)
      have hL : H'[H.length + 2]? = some ob := (hP.2.2.2 (H.length + 2) (by omega) (by omega) (by omega)).trans hH3c
      have hlt : H.length + 2 < H'.length := (List.getElem?_eq_some_iff.1 hL).1
      have hcq : cnt (uniL r pre p) < 2 ^ 61 := by
        have h1 := uniL_cnt hr.wd pre p hP.1 hp.wd
        have h2 : pre.length ≤ r.1.length := by
          have := (sortI_perm r.1).length_eq
          rw [hs] at this
          simp at this
          omega
        have h3 : r.1.length ≤ cnt r := cnt_ge hr.wd
        omega
      have hq : SetP (H'.set (H.length + 2) (.loop .busy none (frOf 32 [(2, V.ref H.length 0 0), (5, V.s (.int .i64 (cnt p : Nat))), (15, V.fn k_bits_Set_all_1 [] [.ref (H.length + 1) 0 0])]) [16, 17] s_bits_Set_Union_a0 s_bits_Set_Union_b0)) i j (uniL r pre p) :=
        hP.2.1.keep (List.getElem?_set_ne (by omega)) (List.getElem?_set_ne (by omega))
      have hbx : getC (H'.set (H.length + 2) (.loop .busy none (frOf 32 [(2, V.ref H.length 0 0), (5, V.s (.int .i64 (cnt p : Nat))), (15, V.fn k_bits_Set_all_1 [] [.ref (H.length + 1) 0 0])]) [16, 17] s_bits_Set_Union_a0 s_bits_Set_Union_b0)) H.length 0 = some [.ref i 0 0] := by
        rw [getC_other (by omega)]
        exact getC_keep (c := [V.ref i 0 0]) (by unfold getC; rw [hH3a]; rfl) (hP.2.2.2 H.length (by omega) (by omega) (by omega))
      have hb := union_body h hi hj hq hbx (hr.wd.nn k hkr) (hr.wd.lt k) hcq
      have hy := yld_round (CT := CT) (base := base) (args := [.s (.int .i64 k), .s (.int .u64 (r.2 k))]) (by omega) hL (fr := frOf 32 [(2, V.ref H.length 0 0), (5, V.s (.int .i64 (cnt p : Nat))), (15, V.fn k_bits_Set_all_1 [] [.ref (H.length + 1) 0 0]), (16, .s (.int .i64 k)), (17, .s (.int .u64 (r.2 k)))]) (by simp only [am0,am1,am2,am3,am4,am5,am6,am7,bl,i64,reduceIte,reduceCtorEq,Nat.reduceEqDiff,Nat.reduceLT,Nat.reduceLeDiff,Nat.reduceBEq,Nat.reduceAdd,fillA,splice,Nat.reduceMul,al0,al1,al2,al3,al4,al5,al6,al7,al8,al9,al10,al11,al12,al13,al14,al15,al16,al17,al18,al19,al20,al21,al22,al23,al24,al25,al26,al27,al28,al29,al30,al31,al32,al33,al34,amY,op_eqP]; done)
        (fr1 := frOf 32 [(2, V.ref H.length 0 0), (6, .s (.int .i64 k)), (7, .s (.int .u64 (r.2 k)))]) (by simp only [s_bits_Set_Union_a0, a_bits_Set_Union, am0,am1,am2,am3,am4,am5,am6,am7,bl,i64,reduceIte,reduceCtorEq,Nat.reduceEqDiff,Nat.reduceLT,Nat.reduceLeDiff,Nat.reduceBEq,Nat.reduceAdd,fillA,splice,Nat.reduceMul,al0,al1,al2,al3,al4,al5,al6,al7,al8,al9,al10,al11,al12,al13,al14,al15,al16,al17,al18,al19,al20,al21,al22,al23,al24,al25,al26,al27,al28,al29,al30,al31,al32,al33,al34,amY,op_eqP]; done) hb (by rw [putPH_other _ _ _ _ (by omega) (by omega), List.getElem?_set_self hlt])
      refine ⟨_, hy, ⟨fun x hx => ?_, ?_, ?_⟩, ?_, fun id h1 h2 => ?_⟩
      · rcases List.mem_append.1 hx with hx | hx
        · exact hP.1 x hx
        · simp at hx; subst hx; exact hkr
      · rw [uniL_snoc]
        exact (hq.putPH (hq.wd.putP (hr.wd.nn k hkr) (Nat.or_lt_two_pow (hq.wd.lt k) (hr.wd.lt k)))).keep (List.getElem?_set_ne (by omega)) (List.getElem?_set_ne (by omega))
      · refine ⟨by rw [List.length_set, putPH_len, List.length_set]; exact hP.2.2.1, fun id h1 h2 h3 => ?_⟩
        by_cases hid : H.length + 2 = id
        · subst hid
          rw [List.getElem?_set_self (by rw [putPH_len, List.length_set]; exact hlt), hH3c]
          rfl
        · rw [List.getElem?_set_ne hid, putPH_other _ _ _ _ h2 h3, List.getElem?_set_ne hid]
          exact hP.2.2.2 id h1 h2 h3
      · rw [List.length_set, putPH_len, List.length_set]; exact hlen
      · rw [List.getElem?_set_ne (by omega), putPH_other _ _ _ _ (by omega) (by omega), List.getElem?_set_ne (by omega)]
  obtain ⟨H2, hc, hPQ⟩ := all_iter h hI hr3 (by unfold getC; rw [hH3b]; rfl) (by omega) (fun G => ⟨(fun k hk => by cases hk), hp3.app G, by rw [show (H3 ++ G).length = H3.length + G.length from List.length_append]; omega, fun id h1 _ _ => by rw [List.getElem?_append_left h1]⟩)
  have hP2 : P (sortI r.1) H2 := hPQ.resolve_right id
  have hL2 : H2[H.length + 2]? = some ob := (hP2.2.2.2 (H.length + 2) (by omega) (by omega) (by omega)).trans hH3c
  have hset : SetP (H2.set (H.length + 2) .dead) i j (uniA p r) := hP2.2.1.keep (List.getElem?_set_ne (by omega)) (List.getElem?_set_ne (by omega))
  have hu : ∀ fr, SetP (trim (H.length + 2) fr (H2.set (H.length + 2) .dead)) i j (uniA p r) := fun fr => hset.trim (by omega) (by omega) fr
  have hub := fun fr => (hu fr).box
  simp only [iV] at hub
  have hbx : ∀ fr, getC (trim (H.length + 2) fr (H2.set (H.length + 2) .dead)) H.length 0 = some [.ref i 0 0] := fun fr => by
    refine trim_get ?_ (by omega)
    rw [getC_other (by omega)]
    exact getC_keep (c := [V.ref i 0 0]) (by unfold getC; rw [hH3a]; rfl) (hP2.2.2.2 H.length (by omega) (by omega) (by omega))
  have hkeep : ∀ fr, KeepB H.length i j H (trim (H.length + 2) fr (H2.set (H.length + 2) .dead)) := fun fr => by
    have : KeepB H.length i j H (H2.set (H.length + 2) .dead) := ⟨by rw [List.length_set]; have := hP2.2.2.1; omega, fun id h1 h2 h3 => by
      rw [List.getElem?_set_ne (by omega), hP2.2.2.2 id (by omega) h2 h3, hH3o id h1]⟩
    exact this.trim (by omega) fr
  refine ⟨trim (H.length + 2) (frOf 32 [(2, V.ref H.length 0 0), (5, V.s (.int .i64 (cnt p : Nat))), (15, V.fn k_bits_Set_all_1 [] [.ref (H.length + 1) 0 0])]) (H2.set (H.length + 2) .dead), ?_, hu _, hkeep _⟩
  have hbase : getC (H ++ [Ob.cells 0 [V.ref i 0 0]]) i 0 = some [.mp j, .s (.int .i64 (cnt p : Nat))] := getC_app hbp
  have hc1 : V.cells (V.ref i 0 0) = [V.ref i 0 0] := rfl
  refine callW_fnA (c := s_bits_Set_Union) (k := 2) hU rfl (by decide) s_bits_Set_Union_first ?_
  have hc' : callW CT (.fn k_bits_Set_all_1 [] [.ref (H.length + 1) 0 0]) [.yld (H.length + 2)] base (H ++ [Ob.cells 0 [V.ref i 0 0]] ++ [Ob.cells 0 [V.ref i2 0 0]] ++ [Ob.loop .ready none (frOf 32 [(2, V.ref H.length 0 0), (5, V.s (.int .i64 (cnt p : Nat))), (15, V.fn k_bits_Set_all_1 [] [.ref (H.length + 1) 0 0])]) [16, 17] s_bits_Set_Union_a0 s_bits_Set_Union_b0]) = some (.tup [], H2) := hc
  have hif : (i = H.length) = False := by simp; omega
  have hr2 := fun fr v => rngC_nrm (fr := fr) (v := v) hL2
  simp only [s_bits_Set_Union, a_bits_Set_Union, am0,am1,am2,am3,am4,am5,am6,am7,bl,i64,reduceIte,reduceCtorEq,Nat.reduceEqDiff,Nat.reduceLT,Nat.reduceLeDiff,Nat.reduceBEq,Nat.reduceAdd,fillA,splice,Nat.reduceMul,al0,al1,al2,al3,al4,al5,al6,al7,al8,al9,al10,al11,al12,al13,al14,al15,al16,al17,al18,al19,al20,al21,al22,al23,al24,al25,al26,al27,al28,al29,al30,al31,al32,al33,al34,amY,op_eqP, hbp, hcl, hc1, hif, hc', hr2, hbx, hub]
  done
end
end Go.Proofs.YtccallbknpbggaaDoor
set_option maxRecDepth 100000
namespace Go.Proofs.YtccallbknpbggaaDoor
open Go.AM
section
variable {CT : Nat → Option CFun}
theorem of_loop (h : TB CT) {base i j m : Nat} {v : V} {l : List Int} {H0 : Heap} (hv : ∀ H, H.length = m → KeepB m i j H0 H → Rd H v (l.map iV)) (hw : Wide1 v) (hl : l.length < 2 ^ 50) (hlx : ∀ x ∈ l, x < 2 ^ 63) (hi : base ≤ i) (hj : base ≤ j) :
    ∀ (rest pre : List Int) (H : Heap), l = pre ++ rest → SetP H i j (ofP pre noP) → H.length = m → KeepB m i j H0 H →
    ∃ H2, itW (evC (callW CT) itW base s_bits_Of_l0) [] m (frOf 20 [(3, .ref i 0 0), (9, v), (10, .s (.int .i64 l.length)), (11, .s (.int .i64 pre.length))]) H = some (.ext 0, frOf 20 [(3, .ref i 0 0), (9, v), (10, .s (.int .i64 l.length)), (11, .s (.int .i64 l.length)), (12, .s (.bool false))], H2) ∧ SetP H2 i j (ofP l noP) ∧ KeepB m i j H0 H2 ∧ H2.length = m := by
  intro rest
  induction rest with
  | nil =>
    intro pre H hs hP hH hK
    rw [List.append_nil] at hs
    subst hs
    rw [itW_step]
    simp only [a_bits_Of,s_bits_Of_l0_b, am0,am1,am2,am3,am4,am5,am6,am7,bl,i64,reduceIte,reduceCtorEq,Nat.reduceEqDiff,Nat.reduceLT,Nat.reduceLeDiff,Nat.reduceBEq,Nat.reduceAdd,fillA,splice,Nat.reduceMul,al0,al1,al2,al3,al4,al5,al6,al7,al8,al9,al10,al11,al12,al13,al14,al15,al16,al17,al18,al19,al20,al21,al22,al23,al24,al25,al26,al27,al28,al29,al30,al31,al32,al33,al34,amY,op_eqP, Int.lt_irrefl, trim_same hH]
    exact ⟨_, rfl, hP, hK, hH⟩
  | cons x rest ih =>
    intro pre H hs hP hH hK
    have hx : x < 2 ^ 63 := hlx x (by rw [hs]; simp)
    have hpre : ∀ y ∈ pre, y < 2 ^ 63 := fun y hy => hlx y (by rw [hs]; simp [hy])
    have hlen : pre.length + (rest.length + 1) = l.length := by rw [hs]; simp
    have hlt : ((pre.length : Int) < (l.length : Int)) := by omega
    have hcx : (l.map iV)[pre.length]? = some (iV x) := by rw [hs]; simp
    obtain ⟨a, ha1, ha2⟩ := (hv H hH hK).at' hw hcx
    simp only [iV] at ha2
    have hc := cnt_ofP pre noP hpre noP_wd
    rw [noP_cnt] at hc
    have hadd := add_P h base hP hi hj x hx (by omega)
    have hlen2 : (putPH H i j (addP (ofP pre noP) x)).length = m := by rw [putPH_len]; exact hH
    rw [itW_step]
    simp only [a_bits_Of,s_bits_Of_l0_b, am0,am1,am2,am3,am4,am5,am6,am7,bl,i64,reduceIte,reduceCtorEq,Nat.reduceEqDiff,Nat.reduceLT,Nat.reduceLeDiff,Nat.reduceBEq,Nat.reduceAdd,fillA,splice,Nat.reduceMul,al0,al1,al2,al3,al4,al5,al6,al7,al8,al9,al10,al11,al12,al13,al14,al15,al16,al17,al18,al19,al20,al21,al22,al23,al24,al25,al26,al27,al28,al29,al30,al31,al32,al33,al34,amY,op_eqP, hlt, ha1, ha2, hadd, wrap_pos (n := pre.length) (by omega), trim_same hlen2]
    have e : ofP (pre ++ [x]) noP = addP (ofP pre noP) x := by simp [ofP, List.foldl_append]
    have := ih (pre ++ [x]) (putPH H i j (addP (ofP pre noP) x)) (by rw [hs]; simp) (by rw [e]; exact hP.putPH (hP.wd.addP hx)) hlen2 ⟨by omega, fun id h1 h2 h3 => by rw [putPH_other _ _ _ _ h2 h3]; exact hK.2 id h1 h2 h3⟩
    rw [List.length_append, List.length_singleton] at this
    exact this
theorem of_P (h : TB CT) (base : Nat) {H : Heap} {v : V} {l : List Int} (hv : Rd H v (l.map iV)) (hw : Wide1 v) (hl : l.length < 2 ^ 50) (hlx : ∀ x ∈ l, x < 2 ^ 63) (hb : base ≤ H.length) :
    ∃ H', callW CT (.fn k_bits_Of [] []) [v] base H = some (.ref (H.length + 1) 0 0, H') ∧ SetP H' (H.length + 1) H.length (ofP l noP) ∧ Ext H H' ∧ H'.length = H.length + 2 := by
  have h0 : SetP (H ++ [.map []] ++ [.cells 0 [.mp H.length, iV (0 : Nat)]]) (H.length + 1) H.length noP := by
    refine ⟨?_, ?_, noP_wd⟩
    · have := getC_new (H ++ [.map []]) 0 [.mp H.length, iV (0 : Nat)]
      rw [noP_cnt]
      simpa using this
    · show _ = some (Ob.map [])
      simp
  have hr : ∀ G, Rd (H ++ G) v (l.map iV) := fun G => hv.app G
  obtain ⟨H2, hr2, hP2, hK2, hl2⟩ := of_loop h (base := base) (i := H.length + 1) (j := H.length) (m := H.length + 2) (v := v) (l := l) (H0 := H ++ [.map []] ++ [.cells 0 [.mp H.length, iV (0 : Nat)]]) (fun H' hl' hK => hv.ext (Ext.of_get (by omega) fun id hid => by
      rw [hK.2 id (by omega) (by omega) (by omega), List.append_assoc, List.getElem?_append_left hid])) hw hl hlx (by omega) (by omega) l [] _ rfl h0 (by simp) ⟨by simp, fun _ _ _ _ => rfl⟩
  refine ⟨H2, ?_, hP2, Ext.of_get (by omega) fun id hid => by rw [hK2.2 id (by omega) (by omega) (by omega), List.append_assoc, List.getElem?_append_left hid], hl2⟩
  refine callW_fn (c := s_bits_Of) h.of (by simp [s_bits_Of]) ?_
  rw [show ((([] : List Int).length : Nat) : Int) = 0 from rfl] at hr2
  have hlen := fun a b => ((hv.app a).app b).len
  simp only [List.length_map] at hlen
  simp only [iV] at hr2
  rw [show (((0 : Nat)) : Int) = 0 from rfl] at hr2
  simp only [s_bits_Of, a_bits_Of,s_bits_Of_l0_b, am0,am1,am2,am3,am4,am5,am6,am7,bl,i64,reduceIte,reduceCtorEq,Nat.reduceEqDiff,Nat.reduceLT,Nat.reduceLeDiff,Nat.reduceBEq,Nat.reduceAdd,fillA,splice,Nat.reduceMul,al0,al1,al2,al3,al4,al5,al6,al7,al8,al9,al10,al11,al12,al13,al14,al15,al16,al17,al18,al19,al20,al21,al22,al23,al24,al25,al26,al27,al28,al29,al30,al31,al32,al33,al34,amY,op_eqP, hlen, hr2]
  done
end
end Go.Proofs.YtccallbknpbggaaDoor
set_option maxRecDepth 100000
namespace Go.Proofs.YtccallbknpbggaaDoor
open Go.AM
section
variable {CT : Nat → Option CFun}
theorem rng_all (h : TB CT) {base i j bx : Nat} {H : Heap} {p : WS} {fr : List V} {ps : List Nat} {a b : ACode} {D : List Nat} {Inv : List Int → Heap → Prop} {Q : Heap → Prop} {ex : Ex} {frA frB : Int → Nat → List V}
    (hp : SetP H i j p) (hbx : getC H bx 0 = some [.ref i 0 0]) (hbD : bx ∉ D) (hbase : base ≤ H.length) (hl : cnt p ≤ 2 ^ 43) (hDl : ∀ id ∈ D, id < H.length)
    (hps : ∀ (k : Int) (w : Nat), setPs ps [.s (.int .i64 k), .s (.int .u64 w)] fr = some (frA k w))
    (ha : ∀ (k : Int) (w : Nat) (H : Heap), evC (callW CT) itW base a (frA k w) H = some (.nrm, frB k w, H))
    (h0 : ∀ G, Inv [] (H ++ G)) (htrim : ∀ pre H' m fr, Inv pre H' → H.length ≤ m → Inv pre (trim m fr H')) (hset : ∀ pre H' ob, Inv pre H' → Inv pre (H'.set H.length ob))
    (htrimQ : ∀ H' m fr, Q H' → H.length ≤ m → Q (trim m fr H')) (hsetQ : ∀ H' ob, Q H' → Q (H'.set H.length ob))
    (hread : ∀ pre k post H', sortI p.1 = pre ++ k :: post → Inv pre H' → KeepD H.length D H H' → ∃ j q, SetP H' i j q ∧ q.2 k = p.2 k)
    (hbody : ∀ pre k post H', sortI p.1 = pre ++ k :: post → Inv pre H' → KeepD H.length D H H' → H.length + 3 ≤ H'.length →
      ∃ e fr2 H2, evC (callW CT) itW base b (frB k (p.2 k)) H' = some (e, fr2, H2) ∧ KeepD (H.length + 3) D H' H2 ∧ (e = .nrm ∧ Inv (pre ++ [k]) H2 ∨ e = ex ∧ ex ≠ .nrm ∧ Q H2)) :
    ∃ e H2, rngC H.length fr (callW CT (.fn k_bits_Set_all_1 [] [.ref bx 0 0]) [.yld H.length] base (H ++ [.loop .ready none fr ps a b])) = some (e, fr, H2) ∧ KeepD H.length D H H2 ∧ (e = .nrm ∧ Inv (sortI p.1) H2 ∨ e = ex ∧ ex ≠ .nrm ∧ Q H2) := by
  have hil := SetW.lt hp
  have hbl := getC_lt hbx
  have hnD : H.length ∉ D := fun hm => absurd (hDl _ hm) (Nat.lt_irrefl _)
  have hp1 : SetP (H ++ [.loop .ready none fr ps a b]) i j p := hp.app _
  have hbx1 : getC (H ++ [.loop .ready none fr ps a b]) bx 0 = some [.ref i 0 0] := getC_app hbx
  have hlen1 : (H ++ [Ob.loop .ready none fr ps a b]).length = H.length + 1 := by simp
  have hLo : (H ++ [Ob.loop .ready none fr ps a b])[H.length]? = some (.loop .ready none fr ps a b) := by simp
  have hkeep1 : KeepD H.length D H (H ++ [Ob.loop .ready none fr ps a b]) := ⟨by omega, fun id h1 _ => List.getElem?_append_left h1⟩
  let P : List Int → Heap → Prop := fun pre H' => Inv pre H' ∧ KeepD (H.length + 1) D (H ++ [.loop .ready none fr ps a b]) H'
  let Q' : Heap → Prop := fun H' => Q H' ∧ ex ≠ .nrm ∧ H'[H.length]? = some (.loop .done (pendOf ex) fr ps a b) ∧ KeepD H.length D H H'
  have hI : It CT base H.length (H ++ [Ob.loop .ready none fr ps a b]).length i bx p P Q' := by
    rw [hlen1]
    refine ⟨fun pre H' hP => ?_, fun pre k post H' hs hP => ?_, fun pre m fr H' hP hm => ?_, fun m fr H' hQ hm => ?_, fun pre k post H' hs hP hlen => ?_⟩
    · exact hP.2.getC hbx1 (by omega) hbD
    · exact hread pre k post H' hs hP.1 (hkeep1.trans hP.2 (by omega))
    · exact ⟨htrim _ _ _ _ hP.1 (by omega), hP.2.trim hm fr⟩
    · refine ⟨htrimQ _ _ _ hQ.1 (by omega), hQ.2.1, ?_, hQ.2.2.2.trim (by omega) fr⟩
      rcases trim_or' m fr H' with e | ⟨e, _⟩ <;> rw [e]
      · exact hQ.2.2.1
      · rw [List.getElem?_take_of_lt (by omega)]; exact hQ.2.2.1
    · have hL : H'[H.length]? = some (.loop .ready none fr ps a b) := (hP.2.2 _ (by omega) hnD).trans hLo
      have hlt : H.length < H'.length := by omega
      have hk1 : KeepD H.length D H (H'.set H.length (.loop .busy none fr ps a b)) := ⟨by rw [List.length_set]; omega, fun id h1 h2 => by
        rw [List.getElem?_set_ne (by omega), hP.2.2 id (by omega) h2, List.getElem?_append_left h1]⟩
      obtain ⟨e, fr2, H2, hb, hk2, hr⟩ := hbody pre k post _ hs (hset _ _ _ hP.1) hk1 (by rw [List.length_set]; omega)
      have hL2 : H2[H.length]? = some (.loop .busy none fr ps a b) := by rw [hk2.2 _ (by omega) hnD, List.getElem?_set_self hlt]
      have hy := yld_round (CT := CT) (base := base) hbase hL (hps k (p.2 k)) (ha k (p.2 k) H') hb hL2
      have hlt2 : H.length < H2.length := (List.getElem?_eq_some_iff.1 hL2).1
      rcases hr with ⟨rfl, hr⟩ | ⟨rfl, hne, hr⟩
      · left
        refine ⟨_, hy, ⟨hset _ _ _ hr, ⟨by rw [List.length_set]; omega, fun id h1 h2 => ?_⟩⟩, ?_, fun id h1 h2 => ?_⟩
        · by_cases hid : H.length = id
          · subst hid
            rw [List.getElem?_set_self hlt2, hLo]; rfl
          · rw [List.getElem?_set_ne hid, hk2.2 id (by omega) h2, List.getElem?_set_ne hid]
            exact hP.2.2 id h1 h2
        · rw [List.length_set]; have := hk2.1; omega
        · have hd : id ∉ D := fun hm => absurd (hDl _ hm) (by omega)
          rw [List.getElem?_set_ne (by omega), hk2.2 id (by omega) hd, List.getElem?_set_ne (by omega)]
      · right
        have he : decide (e = Ex.nrm) = false := decide_eq_false hne
        simp only [he, hne, if_false] at hy
        refine ⟨_, hy, hsetQ _ _ hr, hne, List.getElem?_set_self hlt2, ⟨by rw [List.length_set]; omega, fun id h1 h2 => ?_⟩⟩
        rw [List.getElem?_set_ne (by omega), hk2.2 id (by omega) h2]
        exact hk1.2 id h1 h2
  obtain ⟨H2, hc, hPQ⟩ := all_iter h hI hp1 hbx1 hl (fun G => ⟨by rw [List.append_assoc]; exact h0 _, ⟨by rw [List.length_append]; omega, fun id h1 _ => List.getElem?_append_left (by omega)⟩⟩)
  rw [hc]
  rcases hPQ with hP2 | hQ2
  · have hL2 : H2[H.length]? = some (.loop .ready none fr ps a b) := (hP2.2.2 _ (by omega) hnD).trans hLo
    rw [rngC_nrm hL2]
    have hk : KeepD H.length D H (H2.set H.length .dead) := ⟨by rw [List.length_set]; have := hP2.2.1; omega, fun id h1 h2 => by
      rw [List.getElem?_set_ne (by omega), hP2.2.2 id (by omega) h2, List.getElem?_append_left h1]⟩
    exact ⟨_, _, rfl, hk.trim (Nat.le_refl _) fr, .inl ⟨rfl, htrim _ _ _ _ (hset _ _ _ hP2.1) (Nat.le_refl _)⟩⟩
  · obtain ⟨hQ2, hne, hL2, hk2⟩ := hQ2
    have hpe : pendOf ex = some ex := by cases ex <;> first | rfl | exact absurd rfl hne
    rw [hpe] at hL2
    rw [rngC_done hL2]
    have hk : KeepD H.length D H (H2.set H.length .dead) := ⟨by rw [List.length_set]; exact hk2.1, fun id h1 h2 => by
      rw [List.getElem?_set_ne (by omega)]; exact hk2.2 id h1 h2⟩
    exact ⟨_, _, rfl, hk.trim (Nat.le_refl _) fr, .inr ⟨rfl, hne, htrimQ _ _ _ (hsetQ _ _ hQ2) (Nat.le_refl _)⟩⟩
end
end Go.Proofs.YtccallbknpbggaaDoor
set_option maxRecDepth 100000
namespace Go.Proofs.YtccallbknpbggaaDoor
open Go.AM
section
variable {CT : Nat → Option CFun}
theorem pick_body (h : TB CT) {base i j t7 t5 t4 : Nat} {H : Heap} {q : WS} {ov hv : V} (hi : base ≤ i) (hj : base ≤ j) (hq : SetP H i j q) (h7 : getC H t7 0 = some [.ref i 0 0]) (h5 : getC H t5 0 = some [hv]) (h4 : getC H t4 0 = some [ov])
    {k : Int} (hk : 0 ≤ k ∧ k < 2 ^ 57) {w u x : Nat} (hx : x < 2 ^ 64) (hat : ∀ base, callW CT (.fn k_bits_Set_at [] []) [ov, .s (.int .i64 k)] base H = some (.s (.int .u64 u), H)) (hhow : ∀ base, callW CT hv [.s (.int .u64 w), .s (.int .u64 u)] base H = some (.s (.int .u64 x), H)) (hl : cnt q < 2 ^ 61) :
    evC (callW CT) itW base s_bits_Set_pick_b0 (frOf 25 [(4, .ref t4 0 0), (5, .ref t5 0 0), (7, .ref t7 0 0), (8, .s (.int .i64 k)), (9, .s (.int .u64 w))]) H = some (.nrm, frOf 25 [], putPH H i j (putP q k x)) := by
  have hP := put_P h base hq hi hj hk hx hl
  simp only [s_bits_Set_pick_b0, a_bits_Set_pick, am0,am1,am2,am3,am4,am5,am6,am7,bl,i64,reduceIte,reduceCtorEq,Nat.reduceEqDiff,Nat.reduceLT,Nat.reduceLeDiff,Nat.reduceBEq,Nat.reduceAdd,fillA,splice,Nat.reduceMul,al0,al1,al2,al3,al4,al5,al6,al7,al8,al9,al10,al11,al12,al13,al14,al15,al16,al17,al18,al19,al20,al21,al22,al23,al24,al25,al26,al27,al28,al29,al30,al31,al32,al33,al34,amY,op_eqP, h7, h5, h4, hat, hhow, hP]
  done
theorem pick_P (h : TB CT) (hpick : CT k_bits_Set_pick = some (.code s_bits_Set_pick)) (base : Nat) {H : Heap} {i j : Nat} {p : WS} (hp : SetP H i j p) (hl : cnt p ≤ 2 ^ 43) {ov hv : V} (hov : ov.one = true) (hhv : hv.one = true) (hb : base ≤ H.length) {g : Int → Nat} {how : Nat → Nat → Nat}
    (hat : ∀ H', KeepD H.length [] H H' → ∀ base k, callW CT (.fn k_bits_Set_at [] []) [ov, .s (.int .i64 k)] base H' = some (.s (.int .u64 (g k)), H')) (hhow : ∀ (a b : Nat) base H, a < 2 ^ 64 → b < 2 ^ 64 → callW CT hv [.s (.int .u64 a), .s (.int .u64 b)] base H = some (.s (.int .u64 (how a b)), H)) (hg : ∀ k, g k < 2 ^ 64) (hh : ∀ k, how (p.2 k) (g k) < 2 ^ 64) :
    ∃ i' j' H', callW CT (.fn k_bits_Set_pick [] []) [.ref i 0 0, ov, hv] base H = some (.ref i' 0 0, H') ∧ SetP H' i' j' (pickP p g how) ∧ KeepD H.length [] H H' ∧ H.length ≤ i' ∧ H.length ≤ j' := by
  obtain ⟨H1, h1, h2, h3, h4⟩ := of_P h base (H := H ++ [.cells 0 [ov]] ++ [.cells 0 [hv]]) (v := nilS) (l := []) (Rd.nil _) trivial (by decide) (fun x hx => by cases hx) (by simp; omega)
  simp only [nilS] at h1
  have hlen0 : (H ++ [Ob.cells 0 [ov]] ++ [Ob.cells 0 [hv]]).length = H.length + 2 := by simp
  rw [hlen0] at h2 h4
  have c1 := cells_of_one hov
  have c2 := cells_of_one hhv
  have a1 : [ov].all V.one = true := by simp [hov]
  have a2 : [hv].all V.one = true := by simp [hhv]
  have hal := fun b H => all_fun h b H (v := .ref i 0 0) rfl
  have hil := SetW.lt hp
  have hE : KeepD H.length [] H H1 := ⟨by omega, fun id hid _ => by rw [h3.get (by omega), List.append_assoc, List.getElem?_append_left hid]⟩
  have g4 : getC H1 H.length 0 = some [ov] := by
    have : getC (H ++ [Ob.cells 0 [ov]] ++ [Ob.cells 0 [hv]]) H.length 0 = some [ov] := getC_app (getC_new H 0 [ov])
    exact getC_ext this h3
  have g5 : getC H1 (H.length + 1) 0 = some [hv] := by
    have : getC (H ++ [Ob.cells 0 [ov]] ++ [Ob.cells 0 [hv]]) (H.length + 1) 0 = some [hv] := by
      have := getC_new (H ++ [Ob.cells 0 [ov]]) 0 [hv]
      simpa using this
    exact getC_ext this h3
  obtain ⟨Hr, hHr⟩ : ∃ Hr, H1 ++ [Ob.cells 0 [V.ref (H.length + 3) 0 0]] ++ [Ob.cells 0 [V.ref i 0 0]] = Hr := ⟨_, rfl⟩
  have hrl : Hr.length = H1.length + 2 := by rw [← hHr]; simp
  have k1 : KeepD H1.length [] H1 Hr := ⟨by omega, fun id hid _ => by rw [← hHr, List.append_assoc, List.getElem?_append_left hid]⟩
  have hEr : KeepD H.length [] H Hr := hE.trans k1 (by omega)
  have r4 : getC Hr H.length 0 = some [ov] := k1.getC g4 (by omega) (by simp)
  have r5 : getC Hr (H.length + 1) 0 = some [hv] := k1.getC g5 (by omega) (by simp)
  have r7 : getC Hr H1.length 0 = some [.ref (H.length + 3) 0 0] := by rw [← hHr]; exact getC_app (getC_new H1 0 _)
  have rbx : getC Hr (H1.length + 1) 0 = some [.ref i 0 0] := by
    rw [← hHr]
    have := getC_new (H1 ++ [Ob.cells 0 [V.ref (H.length + 3) 0 0]]) 0 [V.ref i 0 0]
    simpa using this
  have rout : SetP Hr (H.length + 3) (H.length + 2) noP := k1.setP h2 ⟨by omega, by omega⟩ ⟨by simp, by simp⟩
  have rp : SetP Hr i j p := hEr.setP hp hil ⟨by simp, by simp⟩
  have hdist : i ∉ [H.length + 3, H.length + 2] ∧ j ∉ [H.length + 3, H.length + 2] := by simp; omega
  obtain ⟨e, H2, hr1, hr2, hr3⟩ := rng_all (CT := CT) h (base := base) (H := Hr) (bx := H1.length + 1) (fr := frOf 25 [(4, .ref H.length 0 0), (5, .ref (H.length + 1) 0 0), (7, .ref H1.length 0 0), (12, .fn k_bits_Set_all_1 [] [.ref (H1.length + 1) 0 0])]) (ps := [13, 14]) (a := s_bits_Set_pick_a0) (b := s_bits_Set_pick_b0) (D := [H.length + 3, H.length + 2])
    (Inv := fun pre H' => (∀ k ∈ pre, k ∈ p.1) ∧ SetP H' (H.length + 3) (H.length + 2) (pickL p g how pre)) (Q := fun _ => False) (ex := .nrm)
    (frA := fun k w => frOf 25 [(4, .ref H.length 0 0), (5, .ref (H.length + 1) 0 0), (7, .ref H1.length 0 0), (12, .fn k_bits_Set_all_1 [] [.ref (H1.length + 1) 0 0]), (13, .s (.int .i64 k)), (14, .s (.int .u64 w))])
    (frB := fun k w => frOf 25 [(4, .ref H.length 0 0), (5, .ref (H.length + 1) 0 0), (7, .ref H1.length 0 0), (8, .s (.int .i64 k)), (9, .s (.int .u64 w))])
    rp rbx (by simp; omega) (by omega) hl (by simp; omega) (fun k w => by simp only [am0,am1,am2,am3,am4,am5,am6,am7,bl,i64,reduceIte,reduceCtorEq,Nat.reduceEqDiff,Nat.reduceLT,Nat.reduceLeDiff,Nat.reduceBEq,Nat.reduceAdd,fillA,splice,Nat.reduceMul,al0,al1,al2,al3,al4,al5,al6,al7,al8,al9,al10,al11,al12,al13,al14,al15,al16,al17,al18,al19,al20,al21,al22,al23,al24,al25,al26,al27,al28,al29,al30,al31,al32,al33,al34,amY,op_eqP]) (fun k w H => by simp only [s_bits_Set_pick_a0, a_bits_Set_pick, am0,am1,am2,am3,am4,am5,am6,am7,bl,i64,reduceIte,reduceCtorEq,Nat.reduceEqDiff,Nat.reduceLT,Nat.reduceLeDiff,Nat.reduceBEq,Nat.reduceAdd,fillA,splice,Nat.reduceMul,al0,al1,al2,al3,al4,al5,al6,al7,al8,al9,al10,al11,al12,al13,al14,al15,al16,al17,al18,al19,al20,al21,al22,al23,al24,al25,al26,al27,al28,al29,al30,al31,al32,al33,al34,amY,op_eqP])
    (fun G => ⟨(fun k hk => by cases hk), rout.app G⟩) (fun pre H' m fr hI hm => ⟨hI.1, hI.2.trim (by omega) (by omega) fr⟩) (fun pre H' ob hI => ⟨hI.1, hI.2.keep (List.getElem?_set_ne (by omega)) (List.getElem?_set_ne (by omega))⟩)
    (fun _ _ _ hQ _ => hQ) (fun _ _ hQ => hQ) (fun pre k post H' hs hI hK => ⟨j, p, hK.setP rp ⟨by omega, by omega⟩ hdist, rfl⟩)
    (fun pre k post H' hs hI hK hlt => by
      have hkr : k ∈ p.1 := mem_sortI.1 (by rw [hs]; simp)
      have hcq : cnt (pickL p g how pre) < 2 ^ 61 := by
        have h1 := pickL_cnt hp.wd hh pre noP hI.1 noP_wd
        rw [noP_cnt] at h1
        have h2 : pre.length ≤ p.1.length := by
          have := (sortI_perm p.1).length_eq
          rw [hs] at this
          simp at this
          omega
        have h3 : p.1.length ≤ cnt p := cnt_ge hp.wd
        unfold pickL
        omega
      have hb := pick_body h (base := base) (i := H.length + 3) (j := H.length + 2) (by omega) (by omega) hI.2 (hK.getC r7 (by omega) (by simp; omega)) (hK.getC r5 (by omega) (by simp)) (hK.getC r4 (by omega) (by simp)) (hp.wd.nn k hkr) (w := p.2 k) (u := g k) (hh k)
        (fun base => hat H' ⟨by omega, fun id h1 _ => by rw [hK.2 id (by omega) (by simp; omega), hEr.2 id h1 (by simp)]⟩ base k) (fun base => hhow _ _ base H' (hp.wd.lt k) (hg k)) hcq
      refine ⟨_, _, _, hb, ⟨by rw [putPH_len]; exact hlt, fun id _ h2 => putPH_other _ _ _ _ (by simp at h2; omega) (by simp at h2; omega)⟩, .inl ⟨rfl, fun x hx => ?_, ?_⟩⟩
      · rcases List.mem_append.1 hx with hx | hx
        · exact hI.1 x hx
        · simp at hx; subst hx; exact hkr
      · rw [pickL_snoc]
        exact hI.2.putPH (hI.2.wd.putP (hp.wd.nn k hkr) (hh k)))
  have hr4 : e = .nrm ∧ SetP H2 (H.length + 3) (H.length + 2) (pickP p g how) := by
    rcases hr3 with ⟨a, b⟩ | ⟨_, _, c⟩
    · exact ⟨a, b.2⟩
    · exact c.elim
  obtain ⟨rfl, hset⟩ := hr4
  have hfin : KeepD H.length [] H H2 := ⟨by have := hr2.1; omega, fun id h1 _ => by rw [hr2.2 id (by omega) (by simp; omega), hEr.2 id h1 (by simp)]⟩
  refine ⟨H.length + 3, H.length + 2, H2, ?_, hset, hfin, by omega, by omega⟩
  have g7 : getC H2 H1.length 0 = some [.ref (H.length + 3) 0 0] := hr2.getC r7 (by omega) (by simp; omega)
  have hbb : (base ≤ H1.length) = True := by simp; omega
  refine callW_fnA (c := s_bits_Set_pick) (k := 3) hpick rfl (by decide) s_bits_Set_pick_first ?_
  simp only [s_bits_Set_pick, a_bits_Set_pick, am0,am1,am2,am3,am4,am5,am6,am7,bl,i64,reduceIte,reduceCtorEq,Nat.reduceEqDiff,Nat.reduceLT,Nat.reduceLeDiff,Nat.reduceBEq,Nat.reduceAdd,fillA,splice,Nat.reduceMul,al0,al1,al2,al3,al4,al5,al6,al7,al8,al9,al10,al11,al12,al13,al14,al15,al16,al17,al18,al19,al20,al21,al22,al23,al24,al25,al26,al27,al28,al29,al30,al31,al32,al33,al34,amY,op_eqP, c1, c2, a1, a2, hov, hhv, h1, hal, hbb, hHr, hr1, g7]
  done
end
end Go.Proofs.YtccallbknpbggaaDoor
