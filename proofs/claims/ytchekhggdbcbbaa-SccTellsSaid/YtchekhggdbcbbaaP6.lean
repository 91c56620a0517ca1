/- Texts of the proof: SccS5, SccR2, SccR3, SccR4, SccP, SccR5, SccS7, SccL1. -/
import Derived.Test.YtchekhggdbcbbaaP0
import Derived.Test.YtchekhggdbcbbaaP1
import Derived.Test.YtchekhggdbcbbaaP2
import Derived.Test.YtchekhggdbcbbaaP3
import Derived.Test.YtchekhggdbcbbaaP4
import Derived.Test.YtchekhggdbcbbaaP5
set_option linter.all false
set_option maxRecDepth 100000
namespace Go.Proofs.Ytchekhggdbcbbaa
open Go.AM
abbrev k_f12:Nat:=12
def s_f12_r0_k:List Nat:=[1,2,3,4,5,6,7,8,9,10,11,12,13,14,15,16,17,18,19,20,21,22,23,24,25,26,27,28,29,30,31,32,33,34,35,36,37,38,39,40,41,42,43,44,45,46,47,48,49,50,51,52,53,54,55,56,57,58,59,60,61,62,63,64,65,66,67,68,69,70,71,72,73,74,75,76,77,78,79,80]
theorem s_f12_r0_kT:killV s_f12_r0_k (startV 81 [] 1)=[]:=by kernel_rfl
theorem s_f12_r0_kA0:s_f12_r0_k.contains 0=false:=by kernel_rfl
def s_f12_r0:List AOper:=[
 ⟨some 2,(.move (.c (.s (.slice none 0 0)))),none⟩]
def s_f12_r0_tale:=hT s_f12_r0 s_f12_r0_k [] 3 [] [] [.cc (.s (.slice none 0 0))] (by kernel_rfl) (by kernel_rfl)
def s_f12_r1t2:List AOper:=[⟨some 3,(.move (.t 11)),none⟩]
def s_f12_r1p1:List AOper:=[⟨some 11,(.mkSl [(.s (.int .i64 0))] 1 8 (.t 10) (.t 10)),none⟩]
def s_f12_r1t1:List AOper:=s_f12_r1p1 ++ s_f12_r1t2
def s_f12_r1p0:List AOper:=[⟨some 9,(.move (.t 0)),none⟩,⟨some 10,(.lenS .s (.t 9)),none⟩]
def s_f12_r1:List AOper:=s_f12_r1p0 ++ s_f12_r1t1
def s_f12_r1p0_tale:=hT s_f12_r1p0 [9] [10] 11 [] [(10,(.op (.lenS .s (.t 0)) [(.t 0)]))] [.tt 0,.sub 0 [] []] (by kernel_rfl) (by kernel_rfl)
def s_f12_r1_x:=hS s_f12_r1 s_f12_r1p0 s_f12_r1t1 [9] [10] [9,10,11] rfl (by kernel_rfl)
def s_f12_r1t1_x:=hO s_f12_r1t1 s_f12_r1p1 s_f12_r1t2 [10] [9,10,11] [⟨some 11,(.mkSl [(.s (.int .i64 0))] 1 8 (.t 10) (.t 10)),none⟩] rfl rfl (by kernel_rfl)
def s_f12_r1t2_tale:=hT s_f12_r1t2 [9,10,11] [3] 4 [] [(3,(.t 11))] [.tt 11] (by kernel_rfl) (by kernel_rfl)
def s_f12_r1t2_x:=hL s_f12_r1t2 [9,10,11] [3]
def s_f12_r2:List AOper:=[
 ⟨some 4,(.move (.c (.s (.slice none 0 0)))),none⟩]
def s_f12_r2_tale:=hT s_f12_r2 [] [4] 5 [] [(4,(.c (.s (.slice none 0 0))))] [.cc (.s (.slice none 0 0))] (by kernel_rfl) (by kernel_rfl)
def s_f12_r3:List AOper:=[
 ⟨some 5,(.move (.c (.s (.int .i64 0)))),none⟩]
def s_f12_r3_tale:=hT s_f12_r3 [] [5] 6 [] [(5,(.c (.s (.int .i64 0))))] [.cc (.s (.int .i64 0))] (by kernel_rfl) (by kernel_rfl)
def s_f12_r4:List AOper:=[
 ⟨some 12,(.move (.t 5)),none⟩,
 ⟨some 13,(.move (.t 0)),none⟩,
 ⟨some 14,(.lenS .s (.t 13)),none⟩,
 ⟨some 15,(.bin .lss (.t 12) (.t 14)),none⟩]
def s_f12_r4_tale:=hT s_f12_r4 [12,13,14] [15] 16 [] [(15,(.op (.bin .lss (.t 0) (.t 1)) [(.t 5),(.op (.lenS .s (.t 0)) [(.t 0)])]))] [.tt 5,.tt 0,.sub 0 [1] [],.sub 0 [] []] (by kernel_rfl) (by kernel_rfl)
def s_f12_r5t5:List AOper:=[⟨some 4,(.move (.t 24)),none⟩]
def s_f12_r5p4:List AOper:=[⟨some 24,(.append 1 24 (.t 18) (.t 23)),none⟩]
def s_f12_r5t4:List AOper:=s_f12_r5p4 ++ s_f12_r5t5
def s_f12_r5p3:List AOper:=[⟨some 23,(.buildSl 1 1 [(.s (.slice none 0 0))] [(0,(.t 22))]),none⟩]
def s_f12_r5t3:List AOper:=s_f12_r5p3 ++ s_f12_r5t4
def s_f12_r5p2:List AOper:=[⟨some 22,(.call (.c (.fn 28 [] [])) [(.t 19),(.t 21)]),none⟩]
def s_f12_r5t2:List AOper:=s_f12_r5p2 ++ s_f12_r5t3
def s_f12_r5p1:List AOper:=[⟨some 21,(.buildSl 1 1 [(.s (.int .i64 0))] [(0,(.t 20))]),none⟩]
def s_f12_r5t1:List AOper:=s_f12_r5p1 ++ s_f12_r5t2
def s_f12_r5p0:List AOper:=[⟨some 18,(.move (.t 4)),none⟩,⟨some 19,(.move (.t 0)),none⟩,⟨some 20,(.move (.t 5)),none⟩]
def s_f12_r5:List AOper:=s_f12_r5p0 ++ s_f12_r5t1
def s_f12_r5p0_tale:=hT s_f12_r5p0 [4,15] [18,19,20] 21 [] [(18,(.t 4)),(19,(.t 0)),(20,(.t 5))] [.tt 4,.tt 0,.tt 5] (by kernel_rfl) (by kernel_rfl)
def s_f12_r5_x:=hS s_f12_r5 s_f12_r5p0 s_f12_r5t1 [4,15] [18,19,20] [15,18,19,20,21,22,23,24] rfl (by kernel_rfl)
def s_f12_r5t1_x:=hO s_f12_r5t1 s_f12_r5p1 s_f12_r5t2 [20] [15,18,19,20,21,22,23,24] [⟨some 21,(.buildSl 1 1 [(.s (.int .i64 0))] [(0,(.t 20))]),none⟩] rfl rfl (by kernel_rfl)
def s_f12_r5t2_x:=hO s_f12_r5t2 s_f12_r5p2 s_f12_r5t3 [19,21] [15,18,19,20,21,22,23,24] [⟨some 22,(.call (.c (.fn 28 [] [])) [(.t 19),(.t 21)]),none⟩] rfl rfl (by kernel_rfl)
def s_f12_r5t3_x:=hO s_f12_r5t3 s_f12_r5p3 s_f12_r5t4 [22] [15,18,19,20,21,22,23,24] [⟨some 23,(.buildSl 1 1 [(.s (.slice none 0 0))] [(0,(.t 22))]),none⟩] rfl rfl (by kernel_rfl)
def s_f12_r5t4_x:=hO s_f12_r5t4 s_f12_r5p4 s_f12_r5t5 [18,23] [15,18,19,20,21,22,23,24] [⟨some 24,(.append 1 24 (.t 18) (.t 23)),none⟩] rfl rfl (by kernel_rfl)
def s_f12_r5t5_tale:=hT s_f12_r5t5 [15,18,19,20,21,22,23,24] [4] 5 [] [(4,(.t 24))] [.tt 24] (by kernel_rfl) (by kernel_rfl)
def s_f12_r5t5_x:=hL s_f12_r5t5 [15,18,19,20,21,22,23,24] [4]
def s_f12_r6:List AOper:=[
 ⟨some 16,(.move (.t 5)),none⟩,
 ⟨some 17,(.bin .add (.t 16) (.c (.s (.int .i64 1)))),none⟩,
 ⟨some 5,(.move (.t 17)),none⟩]
def s_f12_r6_tale:=hT s_f12_r6 [16,17] [5] 18 [] [(5,(.op (.bin .add (.t 0) (.c (.s (.int .i64 1)))) [(.t 5),(.c (.s (.int .i64 1)))]))] [.tt 5,.sub 0 [] [],.sub 0 [] []] (by kernel_rfl) (by kernel_rfl)
def s_f12_l0_b:ACode:=
 (.seq (.seq (.regionE s_f12_r4 [12,13,14] [15])
 (.cond (.t 15)
 .skip
 (.exit 0)))
 (.seq (.block 1
 (.region s_f12_r5 [] [15,18,19,20,21,22,23,24]))
 (.regionE s_f12_r6 [16,17] [5])))
def s_f12_l0:ACode:=s_f12_l0_b
def s_f12_l0_ev:=hE s_f12_l0 s_f12_l0_b rfl
def s_f12_r7:List AOper:=[
 ⟨some 6,(.move (.c (.s (.int .i64 0)))),none⟩]
def s_f12_r7_tale:=hT s_f12_r7 [5,15] [6] 7 [] [(6,(.c (.s (.int .i64 0))))] [.cc (.s (.int .i64 0))] (by kernel_rfl) (by kernel_rfl)
def s_f12_r8:List AOper:=[
 ⟨some 7,(.move (.c (.s (.int .i64 0)))),none⟩]
def s_f12_r8_tale:=hT s_f12_r8 [] [7] 8 [] [(7,(.c (.s (.int .i64 0))))] [.cc (.s (.int .i64 0))] (by kernel_rfl) (by kernel_rfl)
def s_f12_r9:List AOper:=[
 ⟨some 25,(.move (.t 7)),none⟩,
 ⟨some 26,(.move (.t 0)),none⟩,
 ⟨some 27,(.lenS .s (.t 26)),none⟩,
 ⟨some 28,(.bin .lss (.t 25) (.t 27)),none⟩]
def s_f12_r9_tale:=hT s_f12_r9 [25,26,27] [28] 29 [] [(28,(.op (.bin .lss (.t 0) (.t 1)) [(.t 7),(.op (.lenS .s (.t 0)) [(.t 0)])]))] [.tt 7,.tt 0,.sub 0 [1] [],.sub 0 [] []] (by kernel_rfl) (by kernel_rfl)
def s_f12_r10t1:List AOper:=[⟨none,(.store 1 (.t 33) (.c (.s (.int .i64 (-1))))),none⟩]
def s_f12_r10p0:List AOper:=[⟨some 31,(.move (.t 3)),none⟩,⟨some 32,(.move (.t 7)),none⟩,⟨some 33,(.indexAddr 1 (.t 31) (.t 32)),none⟩]
def s_f12_r10:List AOper:=s_f12_r10p0 ++ s_f12_r10t1
def s_f12_r10p0_tale:=hT s_f12_r10p0 [28,31,32] [33] 34 [] [(33,(.op (.indexAddr 1 (.t 0) (.t 1)) [(.t 3),(.t 7)]))] [.tt 3,.tt 7,.sub 0 [] []] (by kernel_rfl) (by kernel_rfl)
def s_f12_r10_x:=hS s_f12_r10 s_f12_r10p0 s_f12_r10t1 [28,31,32] [33] [28,31,32,33] rfl (by kernel_rfl)
def s_f12_r10t1_x:=hX s_f12_r10t1 [28,31,32,33] [⟨none,(.store 1 (.t 33) (.c (.s (.int .i64 (-1))))),none⟩] rfl
def s_f12_r11:List AOper:=[
 ⟨some 8,(.move (.c (.s (.int .i64 0)))),none⟩]
def s_f12_r11_tale:=hT s_f12_r11 [] [8] 9 [] [(8,(.c (.s (.int .i64 0))))] [.cc (.s (.int .i64 0))] (by kernel_rfl) (by kernel_rfl)
def s_f12_r12:List AOper:=[
 ⟨some 34,(.move (.t 8)),none⟩,
 ⟨some 35,(.move (.t 7)),none⟩,
 ⟨some 36,(.bin .lss (.t 34) (.t 35)),none⟩,
 ⟨some 37,(.move (.t 36)),none⟩,
 ⟨some 38,(.move (.t 3)),some (37,true)⟩,
 ⟨some 39,(.move (.t 7)),some (37,true)⟩,
 ⟨some 40,(.indexAddr 1 (.t 38) (.t 39)),some (37,true)⟩,
 ⟨some 41,(.load false 1 (.t 40)),some (37,true)⟩,
 ⟨some 42,(.bin .lss (.t 41) (.c (.s (.int .i64 0)))),some (37,true)⟩,
 ⟨some 43,(.pick (.t 37) (.t 42) (.c (.s (.bool false)))),none⟩]
def s_f12_r12_tale:=hT s_f12_r12 [34,35,36,37,38,39,40,41,42] [43] 44 [] [(43,(.pick (.op (.bin .lss (.t 0) (.t 1)) [(.t 8),(.t 7)]) (.op (.bin .lss (.t 0) (.c (.s (.int .i64 0)))) [(.op (.load false 1 (.t 0)) [(.op (.indexAddr 1 (.t 0) (.t 1)) [(.t 3),(.t 7)])]),(.c (.s (.int .i64 0)))]) (.c (.s (.bool false)))))] [.tt 8,.tt 7,.sub 0 [0] [],.sub 0 [0] [],.sub 0 [1,0,0,0] [37],.sub 0 [1,0,0,1] [37],.sub 0 [1,0,0] [37],.sub 0 [1,0] [37],.sub 0 [1] [37],.sub 0 [] []] (by kernel_rfl) (by kernel_rfl)
def s_f12_r13:List AOper:=[
 ⟨some 46,(.move (.t 4)),none⟩,
 ⟨some 47,(.move (.t 7)),none⟩,
 ⟨some 48,(.indexAddr 1 (.t 46) (.t 47)),none⟩,
 ⟨some 49,(.load false 1 (.t 48)),none⟩,
 ⟨some 50,(.move (.t 8)),none⟩,
 ⟨some 51,(.indexAddr 1 (.t 49) (.t 50)),none⟩,
 ⟨some 52,(.load false 1 (.t 51)),none⟩,
 ⟨some 53,(.move (.t 52)),none⟩,
 ⟨some 54,(.move (.t 4)),some (53,true)⟩,
 ⟨some 55,(.move (.t 8)),some (53,true)⟩,
 ⟨some 56,(.indexAddr 1 (.t 54) (.t 55)),some (53,true)⟩,
 ⟨some 57,(.load false 1 (.t 56)),some (53,true)⟩,
 ⟨some 58,(.move (.t 7)),some (53,true)⟩,
 ⟨some 59,(.indexAddr 1 (.t 57) (.t 58)),some (53,true)⟩,
 ⟨some 60,(.load false 1 (.t 59)),some (53,true)⟩,
 ⟨some 61,(.pick (.t 53) (.t 60) (.c (.s (.bool false)))),none⟩]
def s_f12_r13_tale:=hT s_f12_r13 [43,46,47,48,49,50,51,52,53,54,55,56,57,58,59,60] [61] 62 [] [(61,(.pick (.op (.load false 1 (.t 0)) [(.op (.indexAddr 1 (.t 0) (.t 1)) [(.op (.load false 1 (.t 0)) [(.op (.indexAddr 1 (.t 0) (.t 1)) [(.t 4),(.t 7)])]),(.t 8)])]) (.op (.load false 1 (.t 0)) [(.op (.indexAddr 1 (.t 0) (.t 1)) [(.op (.load false 1 (.t 0)) [(.op (.indexAddr 1 (.t 0) (.t 1)) [(.t 4),(.t 8)])]),(.t 7)])]) (.c (.s (.bool false)))))] [.tt 4,.tt 7,.sub 0 [0,0,0,0] [],.sub 0 [0,0,0] [],.tt 8,.sub 0 [0,0] [],.sub 0 [0] [],.sub 0 [0] [],.sub 0 [1,0,0,0,0] [53],.sub 0 [1,0,0,0,1] [53],.sub 0 [1,0,0,0] [53],.sub 0 [1,0,0] [53],.sub 0 [1,0,1] [53],.sub 0 [1,0] [53],.sub 0 [1] [53],.sub 0 [] []] (by kernel_rfl) (by kernel_rfl)
def s_f12_r14t1:List AOper:=[⟨none,(.store 1 (.t 68) (.t 67)),none⟩]
def s_f12_r14p0:List AOper:=[⟨some 62,(.move (.t 3)),none⟩,⟨some 63,(.move (.t 7)),none⟩,⟨some 64,(.move (.t 3)),none⟩,⟨some 65,(.move (.t 8)),none⟩,⟨some 66,(.indexAddr 1 (.t 64) (.t 65)),none⟩,⟨some 67,(.load false 1 (.t 66)),none⟩,⟨some 68,(.indexAddr 1 (.t 62) (.t 63)),none⟩]
def s_f12_r14:List AOper:=s_f12_r14p0 ++ s_f12_r14t1
def s_f12_r14p0_tale:=hT s_f12_r14p0 [61,62,63,64,65,66] [67,68] 69 [] [(67,(.op (.load false 1 (.t 0)) [(.op (.indexAddr 1 (.t 0) (.t 1)) [(.t 3),(.t 8)])])),(68,(.op (.indexAddr 1 (.t 0) (.t 1)) [(.t 3),(.t 7)]))] [.tt 3,.tt 7,.tt 3,.tt 8,.sub 0 [0] [],.sub 0 [] [],.sub 1 [] []] (by kernel_rfl) (by kernel_rfl)
def s_f12_r14_x:=hS s_f12_r14 s_f12_r14p0 s_f12_r14t1 [61,62,63,64,65,66] [67,68] [61,62,63,64,65,66,67,68] rfl (by kernel_rfl)
def s_f12_r14t1_x:=hX s_f12_r14t1 [61,62,63,64,65,66,67,68] [⟨none,(.store 1 (.t 68) (.t 67)),none⟩] rfl
def s_f12_r15:List AOper:=[
 ⟨some 44,(.move (.t 8)),none⟩,
 ⟨some 45,(.bin .add (.t 44) (.c (.s (.int .i64 1)))),none⟩,
 ⟨some 8,(.move (.t 45)),none⟩]
def s_f12_r15_tale:=hT s_f12_r15 [44,45,61] [8] 46 [] [(8,(.op (.bin .add (.t 0) (.c (.s (.int .i64 1)))) [(.t 8),(.c (.s (.int .i64 1)))]))] [.tt 8,.sub 0 [] [],.sub 0 [] []] (by kernel_rfl) (by kernel_rfl)
def s_f12_l1_b:ACode:=
 (.seq (.seq (.regionE s_f12_r12 [34,35,36,37,38,39,40,41,42] [43])
 (.cond (.t 43)
 .skip
 (.exit 4)))
 (.seq (.block 5
 (.seq (.regionE s_f12_r13 [43,46,47,48,49,50,51,52,53,54,55,56,57,58,59,60] [61])
 (.cond (.t 61)
 (.region s_f12_r14 [] [61,62,63,64,65,66,67,68])
 .skip)))
 (.regionE s_f12_r15 [44,45,61] [8])))
def s_f12_l1:ACode:=s_f12_l1_b
def s_f12_l1_ev:=hE s_f12_l1 s_f12_l1_b rfl
def s_f12_r16:List AOper:=[
 ⟨some 69,(.move (.t 3)),none⟩,
 ⟨some 70,(.move (.t 7)),none⟩,
 ⟨some 71,(.indexAddr 1 (.t 69) (.t 70)),none⟩,
 ⟨some 72,(.load false 1 (.t 71)),none⟩,
 ⟨some 73,(.bin .lss (.t 72) (.c (.s (.int .i64 0)))),none⟩]
def s_f12_r16_tale:=hT s_f12_r16 [8,43,69,70,71,72] [73] 74 [] [(73,(.op (.bin .lss (.t 0) (.c (.s (.int .i64 0)))) [(.op (.load false 1 (.t 0)) [(.op (.indexAddr 1 (.t 0) (.t 1)) [(.t 3),(.t 7)])]),(.c (.s (.int .i64 0)))]))] [.tt 3,.tt 7,.sub 0 [0,0] [],.sub 0 [0] [],.sub 0 [] []] (by kernel_rfl) (by kernel_rfl)
def s_f12_r17t1:List AOper:=[⟨none,(.store 1 (.t 77) (.t 76)),none⟩]
def s_f12_r17p0:List AOper:=[⟨some 74,(.move (.t 3)),none⟩,⟨some 75,(.move (.t 7)),none⟩,⟨some 76,(.move (.t 6)),none⟩,⟨some 77,(.indexAddr 1 (.t 74) (.t 75)),none⟩]
def s_f12_r17:List AOper:=s_f12_r17p0 ++ s_f12_r17t1
def s_f12_r17p0_tale:=hT s_f12_r17p0 [73,74,75] [76,77] 78 [] [(76,(.t 6)),(77,(.op (.indexAddr 1 (.t 0) (.t 1)) [(.t 3),(.t 7)]))] [.tt 3,.tt 7,.tt 6,.sub 1 [] []] (by kernel_rfl) (by kernel_rfl)
def s_f12_r17_x:=hS s_f12_r17 s_f12_r17p0 s_f12_r17t1 [73,74,75] [76,77] [73,74,75,76,77] rfl (by kernel_rfl)
def s_f12_r17t1_x:=hX s_f12_r17t1 [73,74,75,76,77] [⟨none,(.store 1 (.t 77) (.t 76)),none⟩] rfl
def s_f12_r18:List AOper:=[
 ⟨some 78,(.move (.t 6)),none⟩,
 ⟨some 79,(.bin .add (.t 78) (.c (.s (.int .i64 1)))),none⟩,
 ⟨some 6,(.move (.t 79)),none⟩]
def s_f12_r18_tale:=hT s_f12_r18 [78,79] [6] 80 [] [(6,(.op (.bin .add (.t 0) (.c (.s (.int .i64 1)))) [(.t 6),(.c (.s (.int .i64 1)))]))] [.tt 6,.sub 0 [] [],.sub 0 [] []] (by kernel_rfl) (by kernel_rfl)
def s_f12_r19:List AOper:=[
 ⟨some 29,(.move (.t 7)),none⟩,
 ⟨some 30,(.bin .add (.t 29) (.c (.s (.int .i64 1)))),none⟩,
 ⟨some 7,(.move (.t 30)),none⟩]
def s_f12_r19_tale:=hT s_f12_r19 [29,30,73] [7] 31 [] [(7,(.op (.bin .add (.t 0) (.c (.s (.int .i64 1)))) [(.t 7),(.c (.s (.int .i64 1)))]))] [.tt 7,.sub 0 [] [],.sub 0 [] []] (by kernel_rfl) (by kernel_rfl)
def s_f12_l2_b:ACode:=
 (.seq (.seq (.regionE s_f12_r9 [25,26,27] [28])
 (.cond (.t 28)
 .skip
 (.exit 2)))
 (.seq (.block 3
 (.seq (.region s_f12_r10 [] [28,31,32,33])
 (.seq (.seq (.regionE s_f12_r11 [] [8])
 (.block 4
 (.loop [] s_f12_l1)))
 (.seq (.regionE s_f12_r16 [8,43,69,70,71,72] [73])
 (.cond (.t 73)
 (.seq (.region s_f12_r17 [] [73,74,75,76,77])
 (.regionE s_f12_r18 [78,79] [6]))
 .skip)))))
 (.regionE s_f12_r19 [29,30,73] [7])))
def s_f12_l2:ACode:=s_f12_l2_b
def s_f12_l2_ev:=hE s_f12_l2 s_f12_l2_b rfl
def s_f12_r20:List AOper:=[
 ⟨some 80,(.move (.t 3)),none⟩,
 ⟨some 2,(.move (.t 80)),none⟩]
def s_f12_r20_tale:=hT s_f12_r20 [0,3,4,6,7,28,80] [2] 81 [] [(2,(.t 3))] [.tt 3,.tt 3] (by kernel_rfl) (by kernel_rfl)
def s_f12:ACFun:={ ntmps:=81,results:=[(.tmp 2)],body:=
 (.seq (.regionE s_f12_r0 s_f12_r0_k [])
 (.seq (.region s_f12_r1 [] [9,10,11])
 (.seq (.regionE s_f12_r2 [] [4])
 (.seq (.seq (.regionE s_f12_r3 [] [5])
 (.block 0
 (.loop [] s_f12_l0)))
 (.seq (.regionE s_f12_r7 [5,15] [6])
 (.seq (.seq (.regionE s_f12_r8 [] [7])
 (.block 2
 (.loop [] s_f12_l2)))
 (.seq (.regionE s_f12_r20 [0,3,4,6,7,28,80] [2])
 .ret))))))) }
abbrev k_f15:Nat:=15
def s_f15_r0_k:List Nat:=[1,2,3,4,5,6,7,8,9,10,11,12,13,14,15,16,17,18,19,20,21,22,23,24,25,26,27,28,29,30,31,32,33,34,35,36,37,38,39,40,41,42,43,44,45,46]
theorem s_f15_r0_kT:killV s_f15_r0_k (startV 47 [] 1)=[]:=by kernel_rfl
theorem s_f15_r0_kA0:s_f15_r0_k.contains 0=false:=by kernel_rfl
def s_f15_r0:List AOper:=[
 ⟨some 2,(.move (.c (.s (.slice none 0 0)))),none⟩]
def s_f15_r0_tale:=hT s_f15_r0 s_f15_r0_k [] 3 [] [] [.cc (.s (.slice none 0 0))] (by kernel_rfl) (by kernel_rfl)
def s_f15_r1t2:List AOper:=[⟨some 3,(.move (.t 8)),none⟩]
def s_f15_r1p1:List AOper:=[⟨some 8,(.call (.c (.fn 31 [] [])) [(.t 7)]),none⟩]
def s_f15_r1t1:List AOper:=s_f15_r1p1 ++ s_f15_r1t2
def s_f15_r1p0:List AOper:=[⟨some 7,(.move (.t 0)),none⟩]
def s_f15_r1:List AOper:=s_f15_r1p0 ++ s_f15_r1t1
def s_f15_r1p0_tale:=hT s_f15_r1p0 [] [7] 8 [] [(7,(.t 0))] [.tt 0] (by kernel_rfl) (by kernel_rfl)
def s_f15_r1_x:=hS s_f15_r1 s_f15_r1p0 s_f15_r1t1 [] [7] [7,8] rfl (by kernel_rfl)
def s_f15_r1t1_x:=hO s_f15_r1t1 s_f15_r1p1 s_f15_r1t2 [7] [7,8] [⟨some 8,(.call (.c (.fn 31 [] [])) [(.t 7)]),none⟩] rfl rfl (by kernel_rfl)
def s_f15_r1t2_tale:=hT s_f15_r1t2 [7,8] [3] 4 [] [(3,(.t 8))] [.tt 8] (by kernel_rfl) (by kernel_rfl)
def s_f15_r1t2_x:=hL s_f15_r1t2 [7,8] [3]
def s_f15_r2t2:List AOper:=[⟨some 4,(.move (.t 11)),none⟩]
def s_f15_r2p1:List AOper:=[⟨some 11,(.mkSl [(.s (.bool false))] 1 1 (.t 10) (.t 10)),none⟩]
def s_f15_r2t1:List AOper:=s_f15_r2p1 ++ s_f15_r2t2
def s_f15_r2p0:List AOper:=[⟨some 9,(.move (.t 0)),none⟩,⟨some 10,(.lenS .s (.t 9)),none⟩]
def s_f15_r2:List AOper:=s_f15_r2p0 ++ s_f15_r2t1
def s_f15_r2p0_tale:=hT s_f15_r2p0 [9] [10] 11 [] [(10,(.op (.lenS .s (.t 0)) [(.t 0)]))] [.tt 0,.sub 0 [] []] (by kernel_rfl) (by kernel_rfl)
def s_f15_r2_x:=hS s_f15_r2 s_f15_r2p0 s_f15_r2t1 [9] [10] [9,10,11] rfl (by kernel_rfl)
def s_f15_r2t1_x:=hO s_f15_r2t1 s_f15_r2p1 s_f15_r2t2 [10] [9,10,11] [⟨some 11,(.mkSl [(.s (.bool false))] 1 1 (.t 10) (.t 10)),none⟩] rfl rfl (by kernel_rfl)
def s_f15_r2t2_tale:=hT s_f15_r2t2 [9,10,11] [4] 5 [] [(4,(.t 11))] [.tt 11] (by kernel_rfl) (by kernel_rfl)
def s_f15_r2t2_x:=hL s_f15_r2t2 [9,10,11] [4]
def s_f15_r3:List AOper:=[
 ⟨some 5,(.move (.c (.s (.int .i64 0)))),none⟩]
def s_f15_r3_tale:=hT s_f15_r3 [] [5] 6 [] [(5,(.c (.s (.int .i64 0))))] [.cc (.s (.int .i64 0))] (by kernel_rfl) (by kernel_rfl)
def s_f15_r4:List AOper:=[
 ⟨some 12,(.move (.t 5)),none⟩,
 ⟨some 13,(.move (.t 0)),none⟩,
 ⟨some 14,(.lenS .s (.t 13)),none⟩,
 ⟨some 15,(.bin .lss (.t 12) (.t 14)),none⟩]
def s_f15_r4_tale:=hT s_f15_r4 [12,13,14] [15] 16 [] [(15,(.op (.bin .lss (.t 0) (.t 1)) [(.t 5),(.op (.lenS .s (.t 0)) [(.t 0)])]))] [.tt 5,.tt 0,.sub 0 [1] [],.sub 0 [] []] (by kernel_rfl) (by kernel_rfl)
def s_f15_r5:List AOper:=[
 ⟨some 6,(.move (.c (.s (.int .i64 0)))),none⟩]
def s_f15_r5_tale:=hT s_f15_r5 [15] [6] 7 [] [(6,(.c (.s (.int .i64 0))))] [.cc (.s (.int .i64 0))] (by kernel_rfl) (by kernel_rfl)
def s_f15_r6:List AOper:=[
 ⟨some 18,(.move (.t 6)),none⟩,
 ⟨some 19,(.move (.t 3)),none⟩,
 ⟨some 20,(.move (.t 5)),none⟩,
 ⟨some 21,(.indexAddr 1 (.t 19) (.t 20)),none⟩,
 ⟨some 22,(.load false 1 (.t 21)),none⟩,
 ⟨some 23,(.lenS .s (.t 22)),none⟩,
 ⟨some 24,(.bin .lss (.t 18) (.t 23)),none⟩]
def s_f15_r6_tale:=hT s_f15_r6 [18,19,20,21,22,23] [24] 25 [] [(24,(.op (.bin .lss (.t 0) (.t 1)) [(.t 6),(.op (.lenS .s (.t 0)) [(.op (.load false 1 (.t 0)) [(.op (.indexAddr 1 (.t 0) (.t 1)) [(.t 3),(.t 5)])])])]))] [.tt 6,.tt 3,.tt 5,.sub 0 [1,0,0] [],.sub 0 [1,0] [],.sub 0 [1] [],.sub 0 [] []] (by kernel_rfl) (by kernel_rfl)
def s_f15_r7t12:List AOper:=[⟨none,(.store 1 (.t 45) (.t 44)),none⟩]
def s_f15_r7p11:List AOper:=[⟨some 44,(.pick (.t 33) (.c (.s (.bool true))) (.t 43)),none⟩,⟨some 45,(.indexAddr 1 (.t 27) (.t 28)),none⟩]
def s_f15_r7t11:List AOper:=s_f15_r7p11 ++ s_f15_r7t12
def s_f15_r7p10:List AOper:=[⟨some 43,(.call (.c (.fn 32 [] [])) [(.t 34),(.t 41),(.t 42)]),some (33,false)⟩]
def s_f15_r7t10:List AOper:=s_f15_r7p10 ++ s_f15_r7t11
def s_f15_r7p9:List AOper:=[⟨some 42,(.move (.t 5)),some (33,false)⟩]
def s_f15_r7t9:List AOper:=s_f15_r7p9 ++ s_f15_r7t10
def s_f15_r7p8:List AOper:=[⟨some 41,(.load false 1 (.t 40)),some (33,false)⟩]
def s_f15_r7t8:List AOper:=s_f15_r7p8 ++ s_f15_r7t9
def s_f15_r7p7:List AOper:=[⟨some 40,(.indexAddr 1 (.t 38) (.t 39)),some (33,false)⟩]
def s_f15_r7t7:List AOper:=s_f15_r7p7 ++ s_f15_r7t8
def s_f15_r7p6:List AOper:=[⟨some 39,(.move (.t 6)),some (33,false)⟩]
def s_f15_r7t6:List AOper:=s_f15_r7p6 ++ s_f15_r7t7
def s_f15_r7p5:List AOper:=[⟨some 38,(.load false 1 (.t 37)),some (33,false)⟩]
def s_f15_r7t5:List AOper:=s_f15_r7p5 ++ s_f15_r7t6
def s_f15_r7p4:List AOper:=[⟨some 37,(.indexAddr 1 (.t 35) (.t 36)),some (33,false)⟩]
def s_f15_r7t4:List AOper:=s_f15_r7p4 ++ s_f15_r7t5
def s_f15_r7p3:List AOper:=[⟨some 36,(.move (.t 5)),some (33,false)⟩]
def s_f15_r7t3:List AOper:=s_f15_r7p3 ++ s_f15_r7t4
def s_f15_r7p2:List AOper:=[⟨some 35,(.move (.t 3)),some (33,false)⟩]
def s_f15_r7t2:List AOper:=s_f15_r7p2 ++ s_f15_r7t3
def s_f15_r7p1:List AOper:=[⟨some 34,(.move (.t 0)),some (33,false)⟩]
def s_f15_r7t1:List AOper:=s_f15_r7p1 ++ s_f15_r7t2
def s_f15_r7p0:List AOper:=[⟨some 27,(.move (.t 4)),none⟩,⟨some 28,(.move (.t 5)),none⟩,⟨some 29,(.move (.t 4)),none⟩,⟨some 30,(.move (.t 5)),none⟩,⟨some 31,(.indexAddr 1 (.t 29) (.t 30)),none⟩,⟨some 32,(.load false 1 (.t 31)),none⟩,⟨some 33,(.move (.t 32)),none⟩]
def s_f15_r7:List AOper:=s_f15_r7p0 ++ s_f15_r7t1
def s_f15_r7p0_tale:=hT s_f15_r7p0 [24,29,30,31,32] [27,28,33] 34 [] [(27,(.t 4)),(28,(.t 5)),(33,(.op (.load false 1 (.t 0)) [(.op (.indexAddr 1 (.t 0) (.t 1)) [(.t 4),(.t 5)])]))] [.tt 4,.tt 5,.tt 4,.tt 5,.sub 2 [0] [],.sub 2 [] [],.sub 2 [] []] (by kernel_rfl) (by kernel_rfl)
def s_f15_r7_x:=hS s_f15_r7 s_f15_r7p0 s_f15_r7t1 [24,29,30,31,32] [27,28,33] [24,27,28,29,30,31,32,33,34,35,36,37,38,39,40,41,42,43,44,45] rfl (by kernel_rfl)
def s_f15_r7t1_x:=hO s_f15_r7t1 s_f15_r7p1 s_f15_r7t2 [] [24,27,28,29,30,31,32,33,34,35,36,37,38,39,40,41,42,43,44,45] [⟨some 34,(.move (.t 0)),some (33,false)⟩] rfl rfl (by kernel_rfl)
def s_f15_r7t2_x:=hO s_f15_r7t2 s_f15_r7p2 s_f15_r7t3 [] [24,27,28,29,30,31,32,33,34,35,36,37,38,39,40,41,42,43,44,45] [⟨some 35,(.move (.t 3)),some (33,false)⟩] rfl rfl (by kernel_rfl)
def s_f15_r7t3_x:=hO s_f15_r7t3 s_f15_r7p3 s_f15_r7t4 [] [24,27,28,29,30,31,32,33,34,35,36,37,38,39,40,41,42,43,44,45] [⟨some 36,(.move (.t 5)),some (33,false)⟩] rfl rfl (by kernel_rfl)
def s_f15_r7t4_x:=hO s_f15_r7t4 s_f15_r7p4 s_f15_r7t5 [35,36] [24,27,28,29,30,31,32,33,34,35,36,37,38,39,40,41,42,43,44,45] [⟨some 37,(.indexAddr 1 (.t 35) (.t 36)),some (33,false)⟩] rfl rfl (by kernel_rfl)
def s_f15_r7t5_x:=hO s_f15_r7t5 s_f15_r7p5 s_f15_r7t6 [37] [24,27,28,29,30,31,32,33,34,35,36,37,38,39,40,41,42,43,44,45] [⟨some 38,(.load false 1 (.t 37)),some (33,false)⟩] rfl rfl (by kernel_rfl)
def s_f15_r7t6_x:=hO s_f15_r7t6 s_f15_r7p6 s_f15_r7t7 [] [24,27,28,29,30,31,32,33,34,35,36,37,38,39,40,41,42,43,44,45] [⟨some 39,(.move (.t 6)),some (33,false)⟩] rfl rfl (by kernel_rfl)
def s_f15_r7t7_x:=hO s_f15_r7t7 s_f15_r7p7 s_f15_r7t8 [38,39] [24,27,28,29,30,31,32,33,34,35,36,37,38,39,40,41,42,43,44,45] [⟨some 40,(.indexAddr 1 (.t 38) (.t 39)),some (33,false)⟩] rfl rfl (by kernel_rfl)
def s_f15_r7t8_x:=hO s_f15_r7t8 s_f15_r7p8 s_f15_r7t9 [40] [24,27,28,29,30,31,32,33,34,35,36,37,38,39,40,41,42,43,44,45] [⟨some 41,(.load false 1 (.t 40)),some (33,false)⟩] rfl rfl (by kernel_rfl)
def s_f15_r7t9_x:=hO s_f15_r7t9 s_f15_r7p9 s_f15_r7t10 [] [24,27,28,29,30,31,32,33,34,35,36,37,38,39,40,41,42,43,44,45] [⟨some 42,(.move (.t 5)),some (33,false)⟩] rfl rfl (by kernel_rfl)
def s_f15_r7t10_x:=hO s_f15_r7t10 s_f15_r7p10 s_f15_r7t11 [34,41,42] [24,27,28,29,30,31,32,33,34,35,36,37,38,39,40,41,42,43,44,45] [⟨some 43,(.call (.c (.fn 32 [] [])) [(.t 34),(.t 41),(.t 42)]),some (33,false)⟩] rfl rfl (by kernel_rfl)
def s_f15_r7p11_tale:=hT s_f15_r7p11 [27,28,33,43] [44,45] 46 [] [(44,(.pick (.t 33) (.c (.s (.bool true))) (.t 43))),(45,(.op (.indexAddr 1 (.t 0) (.t 1)) [(.t 27),(.t 28)]))] [.sub 0 [] [],.sub 1 [] []] (by kernel_rfl) (by kernel_rfl)
def s_f15_r7t11_x:=hS s_f15_r7t11 s_f15_r7p11 s_f15_r7t12 [27,28,33,43] [44,45] [24,27,28,29,30,31,32,33,34,35,36,37,38,39,40,41,42,43,44,45] rfl (by kernel_rfl)
def s_f15_r7t12_x:=hX s_f15_r7t12 [24,27,28,29,30,31,32,33,34,35,36,37,38,39,40,41,42,43,44,45] [⟨none,(.store 1 (.t 45) (.t 44)),none⟩] rfl
def s_f15_r8:List AOper:=[
 ⟨some 25,(.move (.t 6)),none⟩,
 ⟨some 26,(.bin .add (.t 25) (.c (.s (.int .i64 1)))),none⟩,
 ⟨some 6,(.move (.t 26)),none⟩]
def s_f15_r8_tale:=hT s_f15_r8 [25,26] [6] 27 [] [(6,(.op (.bin .add (.t 0) (.c (.s (.int .i64 1)))) [(.t 6),(.c (.s (.int .i64 1)))]))] [.tt 6,.sub 0 [] [],.sub 0 [] []] (by kernel_rfl) (by kernel_rfl)
def s_f15_l0_b:ACode:=
 (.seq (.seq (.regionE s_f15_r6 [18,19,20,21,22,23] [24])
 (.cond (.t 24)
 .skip
 (.exit 2)))
 (.seq (.block 3
 (.region s_f15_r7 [] [24,27,28,29,30,31,32,33,34,35,36,37,38,39,40,41,42,43,44,45]))
 (.regionE s_f15_r8 [25,26] [6])))
def s_f15_l0:ACode:=s_f15_l0_b
def s_f15_l0_ev:=hE s_f15_l0 s_f15_l0_b rfl
def s_f15_r9:List AOper:=[
 ⟨some 16,(.move (.t 5)),none⟩,
 ⟨some 17,(.bin .add (.t 16) (.c (.s (.int .i64 1)))),none⟩,
 ⟨some 5,(.move (.t 17)),none⟩]
def s_f15_r9_tale:=hT s_f15_r9 [6,16,17,24] [5] 18 [] [(5,(.op (.bin .add (.t 0) (.c (.s (.int .i64 1)))) [(.t 5),(.c (.s (.int .i64 1)))]))] [.tt 5,.sub 0 [] [],.sub 0 [] []] (by kernel_rfl) (by kernel_rfl)
def s_f15_l1_b:ACode:=
 (.seq (.seq (.regionE s_f15_r4 [12,13,14] [15])
 (.cond (.t 15)
 .skip
 (.exit 0)))
 (.seq (.block 1
 (.seq (.regionE s_f15_r5 [15] [6])
 (.block 2
 (.loop [] s_f15_l0))))
 (.regionE s_f15_r9 [6,16,17,24] [5])))
def s_f15_l1:ACode:=s_f15_l1_b
def s_f15_l1_ev:=hE s_f15_l1 s_f15_l1_b rfl
def s_f15_r10:List AOper:=[
 ⟨some 46,(.move (.t 4)),none⟩,
 ⟨some 2,(.move (.t 46)),none⟩]
def s_f15_r10_tale:=hT s_f15_r10 [0,3,4,5,15,46] [2] 47 [] [(2,(.t 4))] [.tt 4,.tt 4] (by kernel_rfl) (by kernel_rfl)
def s_f15:ACFun:={ ntmps:=47,results:=[(.tmp 2)],body:=
 (.seq (.regionE s_f15_r0 s_f15_r0_k [])
 (.seq (.region s_f15_r1 [] [7,8])
 (.seq (.region s_f15_r2 [] [9,10,11])
 (.seq (.seq (.regionE s_f15_r3 [] [5])
 (.block 0
 (.loop [] s_f15_l1)))
 (.seq (.regionE s_f15_r10 [0,3,4,5,15,46] [2])
 .ret))))) }
abbrev k_f18:Nat:=18
def s_f18_r0_k:List Nat:=[1,2,3,4,5,6,7,8,9,10,11,12,13,14,15,16,17,18,19,20,21,22,23,24,25,26,27,28,29,30,31,32,33,34,35,36,37,38,39,40,41,42,43,44,45,46,47,48,49,50,51,52,53,54,55,56,57,58,59,60,61,62,63,64,65,66,67,68,69,70,71,72,73,74,75,76,77,78,79,80,81,82,83]
theorem s_f18_r0_kT:killV s_f18_r0_k (startV 84 [] 1)=[]:=by kernel_rfl
theorem s_f18_r0_kA0:s_f18_r0_k.contains 0=false:=by kernel_rfl
def s_f18_r0:List AOper:=[
 ⟨some 2,(.move (.c (.s (.slice none 0 0)))),none⟩]
def s_f18_r0_tale:=hT s_f18_r0 s_f18_r0_k [] 3 [] [] [.cc (.s (.slice none 0 0))] (by kernel_rfl) (by kernel_rfl)
def s_f18_r1t2:List AOper:=[⟨some 3,(.move (.t 11)),none⟩]
def s_f18_r1p1:List AOper:=[⟨some 11,(.call (.c (.fn 12 [] [])) [(.t 10)]),none⟩]
def s_f18_r1t1:List AOper:=s_f18_r1p1 ++ s_f18_r1t2
def s_f18_r1p0:List AOper:=[⟨some 10,(.move (.t 0)),none⟩]
def s_f18_r1:List AOper:=s_f18_r1p0 ++ s_f18_r1t1
def s_f18_r1p0_tale:=hT s_f18_r1p0 [] [10] 11 [] [(10,(.t 0))] [.tt 0] (by kernel_rfl) (by kernel_rfl)
def s_f18_r1_x:=hS s_f18_r1 s_f18_r1p0 s_f18_r1t1 [] [10] [10,11] rfl (by kernel_rfl)
def s_f18_r1t1_x:=hO s_f18_r1t1 s_f18_r1p1 s_f18_r1t2 [10] [10,11] [⟨some 11,(.call (.c (.fn 12 [] [])) [(.t 10)]),none⟩] rfl rfl (by kernel_rfl)
def s_f18_r1t2_tale:=hT s_f18_r1t2 [10,11] [3] 4 [] [(3,(.t 11))] [.tt 11] (by kernel_rfl) (by kernel_rfl)
def s_f18_r1t2_x:=hL s_f18_r1t2 [10,11] [3]
def s_f18_r2t2:List AOper:=[⟨some 4,(.move (.t 13)),none⟩]
def s_f18_r2p1:List AOper:=[⟨some 13,(.call (.c (.fn 31 [] [])) [(.t 12)]),none⟩]
def s_f18_r2t1:List AOper:=s_f18_r2p1 ++ s_f18_r2t2
def s_f18_r2p0:List AOper:=[⟨some 12,(.move (.t 0)),none⟩]
def s_f18_r2:List AOper:=s_f18_r2p0 ++ s_f18_r2t1
def s_f18_r2p0_tale:=hT s_f18_r2p0 [0] [12] 13 [] [(12,(.t 0))] [.tt 0] (by kernel_rfl) (by kernel_rfl)
def s_f18_r2_x:=hS s_f18_r2 s_f18_r2p0 s_f18_r2t1 [0] [12] [0,12,13] rfl (by kernel_rfl)
def s_f18_r2t1_x:=hO s_f18_r2t1 s_f18_r2p1 s_f18_r2t2 [12] [0,12,13] [⟨some 13,(.call (.c (.fn 31 [] [])) [(.t 12)]),none⟩] rfl rfl (by kernel_rfl)
def s_f18_r2t2_tale:=hT s_f18_r2t2 [0,12,13] [4] 5 [] [(4,(.t 13))] [.tt 13] (by kernel_rfl) (by kernel_rfl)
def s_f18_r2t2_x:=hL s_f18_r2t2 [0,12,13] [4]
def s_f18_r3:List AOper:=[
 ⟨some 5,(.move (.c (.s (.int .i64 0)))),none⟩]
def s_f18_r3_tale:=hT s_f18_r3 [] [5] 6 [] [(5,(.c (.s (.int .i64 0))))] [.cc (.s (.int .i64 0))] (by kernel_rfl) (by kernel_rfl)
def s_f18_r4:List AOper:=[
 ⟨some 6,(.move (.c (.s (.int .i64 0)))),none⟩]
def s_f18_r4_tale:=hT s_f18_r4 [] [6] 7 [] [(6,(.c (.s (.int .i64 0))))] [.cc (.s (.int .i64 0))] (by kernel_rfl) (by kernel_rfl)
def s_f18_r5:List AOper:=[
 ⟨some 14,(.move (.t 6)),none⟩,
 ⟨some 15,(.move (.t 3)),none⟩,
 ⟨some 16,(.lenS .s (.t 15)),none⟩,
 ⟨some 17,(.bin .lss (.t 14) (.t 16)),none⟩]
def s_f18_r5_tale:=hT s_f18_r5 [14,15,16] [17] 18 [] [(17,(.op (.bin .lss (.t 0) (.t 1)) [(.t 6),(.op (.lenS .s (.t 0)) [(.t 3)])]))] [.tt 6,.tt 3,.sub 0 [1] [],.sub 0 [] []] (by kernel_rfl) (by kernel_rfl)
def s_f18_r6:List AOper:=[
 ⟨some 20,(.move (.t 5)),none⟩,
 ⟨some 21,(.move (.t 3)),none⟩,
 ⟨some 22,(.move (.t 6)),none⟩,
 ⟨some 23,(.indexAddr 1 (.t 21) (.t 22)),none⟩,
 ⟨some 24,(.load false 1 (.t 23)),none⟩,
 ⟨some 25,(.bin .add (.t 24) (.c (.s (.int .i64 1)))),none⟩,
 ⟨some 26,(.minmax true (.t 20) (.t 25)),none⟩,
 ⟨some 5,(.move (.t 26)),none⟩]
def s_f18_r6_tale:=hT s_f18_r6 [17,20,21,22,23,24,25,26] [5] 27 [] [(5,(.op (.minmax true (.t 0) (.t 1)) [(.t 5),(.op (.bin .add (.t 0) (.c (.s (.int .i64 1)))) [(.op (.load false 1 (.t 0)) [(.op (.indexAddr 1 (.t 0) (.t 1)) [(.t 3),(.t 6)])]),(.c (.s (.int .i64 1)))])]))] [.tt 5,.tt 3,.tt 6,.sub 0 [1,0,0] [],.sub 0 [1,0] [],.sub 0 [1] [],.sub 0 [] [],.sub 0 [] []] (by kernel_rfl) (by kernel_rfl)
def s_f18_r7:List AOper:=[
 ⟨some 18,(.move (.t 6)),none⟩,
 ⟨some 19,(.bin .add (.t 18) (.c (.s (.int .i64 1)))),none⟩,
 ⟨some 6,(.move (.t 19)),none⟩]
def s_f18_r7_tale:=hT s_f18_r7 [18,19] [6] 20 [] [(6,(.op (.bin .add (.t 0) (.c (.s (.int .i64 1)))) [(.t 6),(.c (.s (.int .i64 1)))]))] [.tt 6,.sub 0 [] [],.sub 0 [] []] (by kernel_rfl) (by kernel_rfl)
def s_f18_l0_b:ACode:=
 (.seq (.seq (.regionE s_f18_r5 [14,15,16] [17])
 (.cond (.t 17)
 .skip
 (.exit 0)))
 (.seq (.block 1
 (.regionE s_f18_r6 [17,20,21,22,23,24,25,26] [5]))
 (.regionE s_f18_r7 [18,19] [6])))
def s_f18_l0:ACode:=s_f18_l0_b
def s_f18_l0_ev:=hE s_f18_l0 s_f18_l0_b rfl
def s_f18_r8t2:List AOper:=[⟨some 7,(.move (.t 28)),none⟩]
def s_f18_r8p1:List AOper:=[⟨some 28,(.mkSl [(.s (.slice none 0 0))] 1 24 (.t 27) (.t 27)),none⟩]
def s_f18_r8t1:List AOper:=s_f18_r8p1 ++ s_f18_r8t2
def s_f18_r8p0:List AOper:=[⟨some 27,(.move (.t 5)),none⟩]
def s_f18_r8:List AOper:=s_f18_r8p0 ++ s_f18_r8t1
def s_f18_r8p0_tale:=hT s_f18_r8p0 [5,6,17] [27] 28 [] [(27,(.t 5))] [.tt 5] (by kernel_rfl) (by kernel_rfl)
def s_f18_r8_x:=hS s_f18_r8 s_f18_r8p0 s_f18_r8t1 [5,6,17] [27] [5,6,17,27,28] rfl (by kernel_rfl)
def s_f18_r8t1_x:=hO s_f18_r8t1 s_f18_r8p1 s_f18_r8t2 [27] [5,6,17,27,28] [⟨some 28,(.mkSl [(.s (.slice none 0 0))] 1 24 (.t 27) (.t 27)),none⟩] rfl rfl (by kernel_rfl)
def s_f18_r8t2_tale:=hT s_f18_r8t2 [5,6,17,27,28] [7] 8 [] [(7,(.t 28))] [.tt 28] (by kernel_rfl) (by kernel_rfl)
def s_f18_r8t2_x:=hL s_f18_r8t2 [5,6,17,27,28] [7]
def s_f18_r9:List AOper:=[
 ⟨some 8,(.move (.c (.s (.int .i64 0)))),none⟩]
def s_f18_r9_tale:=hT s_f18_r9 [] [8] 9 [] [(8,(.c (.s (.int .i64 0))))] [.cc (.s (.int .i64 0))] (by kernel_rfl) (by kernel_rfl)
def s_f18_r10:List AOper:=[
 ⟨some 29,(.move (.t 8)),none⟩,
 ⟨some 30,(.move (.t 4)),none⟩,
 ⟨some 31,(.lenS .s (.t 30)),none⟩,
 ⟨some 32,(.bin .lss (.t 29) (.t 31)),none⟩]
def s_f18_r10_tale:=hT s_f18_r10 [29,30,31] [32] 33 [] [(32,(.op (.bin .lss (.t 0) (.t 1)) [(.t 8),(.op (.lenS .s (.t 0)) [(.t 4)])]))] [.tt 8,.tt 4,.sub 0 [1] [],.sub 0 [] []] (by kernel_rfl) (by kernel_rfl)
def s_f18_r11:List AOper:=[
 ⟨some 9,(.move (.c (.s (.int .i64 0)))),none⟩]
def s_f18_r11_tale:=hT s_f18_r11 [32] [9] 10 [] [(9,(.c (.s (.int .i64 0))))] [.cc (.s (.int .i64 0))] (by kernel_rfl) (by kernel_rfl)
def s_f18_r12:List AOper:=[
 ⟨some 35,(.move (.t 9)),none⟩,
 ⟨some 36,(.move (.t 4)),none⟩,
 ⟨some 37,(.move (.t 8)),none⟩,
 ⟨some 38,(.indexAddr 1 (.t 36) (.t 37)),none⟩,
 ⟨some 39,(.load false 1 (.t 38)),none⟩,
 ⟨some 40,(.lenS .s (.t 39)),none⟩,
 ⟨some 41,(.bin .lss (.t 35) (.t 40)),none⟩]
def s_f18_r12_tale:=hT s_f18_r12 [35,36,37,38,39,40] [41] 42 [] [(41,(.op (.bin .lss (.t 0) (.t 1)) [(.t 9),(.op (.lenS .s (.t 0)) [(.op (.load false 1 (.t 0)) [(.op (.indexAddr 1 (.t 0) (.t 1)) [(.t 4),(.t 8)])])])]))] [.tt 9,.tt 4,.tt 8,.sub 0 [1,0,0] [],.sub 0 [1,0] [],.sub 0 [1] [],.sub 0 [] []] (by kernel_rfl) (by kernel_rfl)
def s_f18_r13:List AOper:=[
 ⟨some 44,(.move (.t 3)),none⟩,
 ⟨some 45,(.move (.t 8)),none⟩,
 ⟨some 46,(.indexAddr 1 (.t 44) (.t 45)),none⟩,
 ⟨some 47,(.load false 1 (.t 46)),none⟩,
 ⟨some 48,(.move (.t 3)),none⟩,
 ⟨some 49,(.move (.t 4)),none⟩,
 ⟨some 50,(.move (.t 8)),none⟩,
 ⟨some 51,(.indexAddr 1 (.t 49) (.t 50)),none⟩,
 ⟨some 52,(.load false 1 (.t 51)),none⟩,
 ⟨some 53,(.move (.t 9)),none⟩,
 ⟨some 54,(.indexAddr 1 (.t 52) (.t 53)),none⟩,
 ⟨some 55,(.load false 1 (.t 54)),none⟩,
 ⟨some 56,(.indexAddr 1 (.t 48) (.t 55)),none⟩,
 ⟨some 57,(.load false 1 (.t 56)),none⟩,
 ⟨some 58,(.bin .neq (.t 47) (.t 57)),none⟩]
def s_f18_r13_tale:=hT s_f18_r13 [41,44,45,46,47,48,49,50,51,52,53,54,55,56,57] [58] 59 [] [(58,(.op (.bin .neq (.t 0) (.t 1)) [(.op (.load false 1 (.t 0)) [(.op (.indexAddr 1 (.t 0) (.t 1)) [(.t 3),(.t 8)])]),(.op (.load false 1 (.t 0)) [(.op (.indexAddr 1 (.t 0) (.t 1)) [(.t 3),(.op (.load false 1 (.t 0)) [(.op (.indexAddr 1 (.t 0) (.t 1)) [(.op (.load false 1 (.t 0)) [(.op (.indexAddr 1 (.t 0) (.t 1)) [(.t 4),(.t 8)])]),(.t 9)])])])])]))] [.tt 3,.tt 8,.sub 0 [0,0] [],.sub 0 [0] [],.tt 3,.tt 4,.tt 8,.sub 0 [1,0,1,0,0,0] [],.sub 0 [1,0,1,0,0] [],.tt 9,.sub 0 [1,0,1,0] [],.sub 0 [1,0,1] [],.sub 0 [1,0] [],.sub 0 [1] [],.sub 0 [] []] (by kernel_rfl) (by kernel_rfl)
def s_f18_r14t3:List AOper:=[⟨none,(.store 1 (.t 82) (.t 81)),none⟩]
def s_f18_r14p2:List AOper:=[⟨some 82,(.indexAddr 1 (.t 59) (.t 63)),none⟩]
def s_f18_r14t2:List AOper:=s_f18_r14p2 ++ s_f18_r14t3
def s_f18_r14p1:List AOper:=[⟨some 81,(.callR (.c (.fn 33 [] [])) [(.t 70),(.t 80)]),none⟩]
def s_f18_r14t1:List AOper:=s_f18_r14p1 ++ s_f18_r14t2
def s_f18_r14p0:List AOper:=[⟨some 59,(.move (.t 7)),none⟩,⟨some 60,(.move (.t 3)),none⟩,⟨some 61,(.move (.t 8)),none⟩,⟨some 62,(.indexAddr 1 (.t 60) (.t 61)),none⟩,⟨some 63,(.load false 1 (.t 62)),none⟩,⟨some 64,(.move (.t 7)),none⟩,⟨some 65,(.move (.t 3)),none⟩,⟨some 66,(.move (.t 8)),none⟩,⟨some 67,(.indexAddr 1 (.t 65) (.t 66)),none⟩,⟨some 68,(.load false 1 (.t 67)),none⟩,⟨some 69,(.indexAddr 1 (.t 64) (.t 68)),none⟩,⟨some 70,(.load false 1 (.t 69)),none⟩,⟨some 71,(.move (.t 3)),none⟩,⟨some 72,(.move (.t 4)),none⟩,⟨some 73,(.move (.t 8)),none⟩,⟨some 74,(.indexAddr 1 (.t 72) (.t 73)),none⟩,⟨some 75,(.load false 1 (.t 74)),none⟩,⟨some 76,(.move (.t 9)),none⟩,⟨some 77,(.indexAddr 1 (.t 75) (.t 76)),none⟩,⟨some 78,(.load false 1 (.t 77)),none⟩,⟨some 79,(.indexAddr 1 (.t 71) (.t 78)),none⟩,⟨some 80,(.load false 1 (.t 79)),none⟩]
def s_f18_r14:List AOper:=s_f18_r14p0 ++ s_f18_r14t1
def s_f18_r14p0_tale:=hT s_f18_r14p0 [58,60,61,62,64,65,66,67,68,69,71,72,73,74,75,76,77,78,79] [59,63,70,80] 81 [] [(59,(.t 7)),(63,(.op (.load false 1 (.t 0)) [(.op (.indexAddr 1 (.t 0) (.t 1)) [(.t 3),(.t 8)])])),(70,(.op (.load false 1 (.t 0)) [(.op (.indexAddr 1 (.t 0) (.t 1)) [(.t 7),(.op (.load false 1 (.t 0)) [(.op (.indexAddr 1 (.t 0) (.t 1)) [(.t 3),(.t 8)])])])])),(80,(.op (.load false 1 (.t 0)) [(.op (.indexAddr 1 (.t 0) (.t 1)) [(.t 3),(.op (.load false 1 (.t 0)) [(.op (.indexAddr 1 (.t 0) (.t 1)) [(.op (.load false 1 (.t 0)) [(.op (.indexAddr 1 (.t 0) (.t 1)) [(.t 4),(.t 8)])]),(.t 9)])])])]))] [.tt 7,.tt 3,.tt 8,.sub 1 [0] [],.sub 1 [] [],.tt 7,.tt 3,.tt 8,.sub 1 [0] [],.sub 1 [] [],.sub 2 [0] [],.sub 2 [] [],.tt 3,.tt 4,.tt 8,.sub 3 [0,1,0,0,0] [],.sub 3 [0,1,0,0] [],.tt 9,.sub 3 [0,1,0] [],.sub 3 [0,1] [],.sub 3 [0] [],.sub 3 [] []] (by kernel_rfl) (by kernel_rfl)
def s_f18_r14_x:=hS s_f18_r14 s_f18_r14p0 s_f18_r14t1 [58,60,61,62,64,65,66,67,68,69,71,72,73,74,75,76,77,78,79] [59,63,70,80] [58,59,60,61,62,63,64,65,66,67,68,69,70,71,72,73,74,75,76,77,78,79,80,81,82] rfl (by kernel_rfl)
def s_f18_r14t1_x:=hO s_f18_r14t1 s_f18_r14p1 s_f18_r14t2 [70,80] [58,59,60,61,62,63,64,65,66,67,68,69,70,71,72,73,74,75,76,77,78,79,80,81,82] [⟨some 81,(.callR (.c (.fn 33 [] [])) [(.t 70),(.t 80)]),none⟩] rfl rfl (by kernel_rfl)
def s_f18_r14p2_tale:=hT s_f18_r14p2 [59,63] [82] 83 [] [(82,(.op (.indexAddr 1 (.t 0) (.t 1)) [(.t 59),(.t 63)]))] [.sub 0 [] []] (by kernel_rfl) (by kernel_rfl)
def s_f18_r14t2_x:=hS s_f18_r14t2 s_f18_r14p2 s_f18_r14t3 [59,63] [82] [58,59,60,61,62,63,64,65,66,67,68,69,70,71,72,73,74,75,76,77,78,79,80,81,82] rfl (by kernel_rfl)
def s_f18_r14t3_x:=hX s_f18_r14t3 [58,59,60,61,62,63,64,65,66,67,68,69,70,71,72,73,74,75,76,77,78,79,80,81,82] [⟨none,(.store 1 (.t 82) (.t 81)),none⟩] rfl
def s_f18_r15:List AOper:=[
 ⟨some 42,(.move (.t 9)),none⟩,
 ⟨some 43,(.bin .add (.t 42) (.c (.s (.int .i64 1)))),none⟩,
 ⟨some 9,(.move (.t 43)),none⟩]
def s_f18_r15_tale:=hT s_f18_r15 [42,43,58] [9] 44 [] [(9,(.op (.bin .add (.t 0) (.c (.s (.int .i64 1)))) [(.t 9),(.c (.s (.int .i64 1)))]))] [.tt 9,.sub 0 [] [],.sub 0 [] []] (by kernel_rfl) (by kernel_rfl)
def s_f18_l1_b:ACode:=
 (.seq (.seq (.regionE s_f18_r12 [35,36,37,38,39,40] [41])
 (.cond (.t 41)
 .skip
 (.exit 4)))
 (.seq (.block 5
 (.seq (.regionE s_f18_r13 [41,44,45,46,47,48,49,50,51,52,53,54,55,56,57] [58])
 (.cond (.t 58)
 (.region s_f18_r14 [] [58,59,60,61,62,63,64,65,66,67,68,69,70,71,72,73,74,75,76,77,78,79,80,81,82])
 .skip)))
 (.regionE s_f18_r15 [42,43,58] [9])))
def s_f18_l1:ACode:=s_f18_l1_b
def s_f18_l1_ev:=hE s_f18_l1 s_f18_l1_b rfl
def s_f18_r16:List AOper:=[
 ⟨some 33,(.move (.t 8)),none⟩,
 ⟨some 34,(.bin .add (.t 33) (.c (.s (.int .i64 1)))),none⟩,
 ⟨some 8,(.move (.t 34)),none⟩]
def s_f18_r16_tale:=hT s_f18_r16 [9,33,34,41] [8] 35 [] [(8,(.op (.bin .add (.t 0) (.c (.s (.int .i64 1)))) [(.t 8),(.c (.s (.int .i64 1)))]))] [.tt 8,.sub 0 [] [],.sub 0 [] []] (by kernel_rfl) (by kernel_rfl)
def s_f18_l2_b:ACode:=
 (.seq (.seq (.regionE s_f18_r10 [29,30,31] [32])
 (.cond (.t 32)
 .skip
 (.exit 2)))
 (.seq (.block 3
 (.seq (.regionE s_f18_r11 [32] [9])
 (.block 4
 (.loop [] s_f18_l1))))
 (.regionE s_f18_r16 [9,33,34,41] [8])))
def s_f18_l2:ACode:=s_f18_l2_b
def s_f18_l2_ev:=hE s_f18_l2 s_f18_l2_b rfl
def s_f18_r17:List AOper:=[
 ⟨some 83,(.move (.t 7)),none⟩,
 ⟨some 2,(.move (.t 83)),none⟩]
def s_f18_r17_tale:=hT s_f18_r17 [3,4,7,8,32,83] [2] 84 [] [(2,(.t 7))] [.tt 7,.tt 7] (by kernel_rfl) (by kernel_rfl)
def s_f18:ACFun:={ ntmps:=84,results:=[(.tmp 2)],body:=
 (.seq (.regionE s_f18_r0 s_f18_r0_k [])
 (.seq (.region s_f18_r1 [] [10,11])
 (.seq (.region s_f18_r2 [] [0,12,13])
 (.seq (.regionE s_f18_r3 [] [5])
 (.seq (.seq (.regionE s_f18_r4 [] [6])
 (.block 0
 (.loop [] s_f18_l0)))
 (.seq (.region s_f18_r8 [] [5,6,17,27,28])
 (.seq (.seq (.regionE s_f18_r9 [] [8])
 (.block 2
 (.loop [] s_f18_l2)))
 (.seq (.regionE s_f18_r17 [3,4,7,8,32,83] [2])
 .ret)))))))) }
abbrev k_f20:Nat:=20
def s_f20_r0_k:List Nat:=[1,2,3,4,5,6,7,8,9,10,11,12,13,14,15,16,17,18,19,20,21,22,23,24,25,26,27,28,29,30,31,32,33,34,35,36,37,38,39,40,41,42,43,44,45,46,47,48,49,50]
theorem s_f20_r0_kT:killV s_f20_r0_k (startV 51 [] 1)=[]:=by kernel_rfl
theorem s_f20_r0_kA0:s_f20_r0_k.contains 0=false:=by kernel_rfl
def s_f20_r0:List AOper:=[
 ⟨some 2,(.move (.c (.s (.slice none 0 0)))),none⟩]
def s_f20_r0_tale:=hT s_f20_r0 s_f20_r0_k [] 3 [] [] [.cc (.s (.slice none 0 0))] (by kernel_rfl) (by kernel_rfl)
def s_f20_r1t2:List AOper:=[⟨some 3,(.move (.t 9)),none⟩]
def s_f20_r1p1:List AOper:=[⟨some 9,(.call (.c (.fn 18 [] [])) [(.t 8)]),none⟩]
def s_f20_r1t1:List AOper:=s_f20_r1p1 ++ s_f20_r1t2
def s_f20_r1p0:List AOper:=[⟨some 8,(.move (.t 0)),none⟩]
def s_f20_r1:List AOper:=s_f20_r1p0 ++ s_f20_r1t1
def s_f20_r1p0_tale:=hT s_f20_r1p0 [0] [8] 9 [] [(8,(.t 0))] [.tt 0] (by kernel_rfl) (by kernel_rfl)
def s_f20_r1_x:=hS s_f20_r1 s_f20_r1p0 s_f20_r1t1 [0] [8] [0,8,9] rfl (by kernel_rfl)
def s_f20_r1t1_x:=hO s_f20_r1t1 s_f20_r1p1 s_f20_r1t2 [8] [0,8,9] [⟨some 9,(.call (.c (.fn 18 [] [])) [(.t 8)]),none⟩] rfl rfl (by kernel_rfl)
def s_f20_r1t2_tale:=hT s_f20_r1t2 [0,8,9] [3] 4 [] [(3,(.t 9))] [.tt 9] (by kernel_rfl) (by kernel_rfl)
def s_f20_r1t2_x:=hL s_f20_r1t2 [0,8,9] [3]
def s_f20_r2:List AOper:=[
 ⟨some 4,(.move (.c (.s (.slice none 0 0)))),none⟩]
def s_f20_r2_tale:=hT s_f20_r2 [] [4] 5 [] [(4,(.c (.s (.slice none 0 0))))] [.cc (.s (.slice none 0 0))] (by kernel_rfl) (by kernel_rfl)
def s_f20_r3:List AOper:=[
 ⟨some 10,(.move (.t 4)),none⟩,
 ⟨some 11,(.lenS .s (.t 10)),none⟩,
 ⟨some 12,(.move (.t 3)),none⟩,
 ⟨some 13,(.lenS .s (.t 12)),none⟩,
 ⟨some 14,(.bin .lss (.t 11) (.t 13)),none⟩]
def s_f20_r3_tale:=hT s_f20_r3 [10,11,12,13] [14] 15 [] [(14,(.op (.bin .lss (.t 0) (.t 1)) [(.op (.lenS .s (.t 0)) [(.t 4)]),(.op (.lenS .s (.t 0)) [(.t 3)])]))] [.tt 4,.sub 0 [0] [],.tt 3,.sub 0 [1] [],.sub 0 [] []] (by kernel_rfl) (by kernel_rfl)
def s_f20_r4:List AOper:=[
 ⟨some 5,(.move (.c (.s (.int .i64 0)))),none⟩]
def s_f20_r4_tale:=hT s_f20_r4 [14] [5] 6 [] [(5,(.c (.s (.int .i64 0))))] [.cc (.s (.int .i64 0))] (by kernel_rfl) (by kernel_rfl)
def s_f20_r5:List AOper:=[
 ⟨some 15,(.move (.t 5)),none⟩,
 ⟨some 16,(.move (.t 3)),none⟩,
 ⟨some 17,(.lenS .s (.t 16)),none⟩,
 ⟨some 18,(.bin .lss (.t 15) (.t 17)),none⟩]
def s_f20_r5_tale:=hT s_f20_r5 [15,16,17] [18] 19 [] [(18,(.op (.bin .lss (.t 0) (.t 1)) [(.t 5),(.op (.lenS .s (.t 0)) [(.t 3)])]))] [.tt 5,.tt 3,.sub 0 [1] [],.sub 0 [] []] (by kernel_rfl) (by kernel_rfl)
def s_f20_r6t1:List AOper:=[⟨some 23,(.call (.c (.fn 36 [] [])) [(.t 21),(.t 22)]),none⟩]
def s_f20_r6p0:List AOper:=[⟨some 21,(.move (.t 4)),none⟩,⟨some 22,(.move (.t 5)),none⟩]
def s_f20_r6:List AOper:=s_f20_r6p0 ++ s_f20_r6t1
def s_f20_r6p0_tale:=hT s_f20_r6p0 [18] [21,22] 23 [] [(21,(.t 4)),(22,(.t 5))] [.tt 4,.tt 5] (by kernel_rfl) (by kernel_rfl)
def s_f20_r6_x:=hS s_f20_r6 s_f20_r6p0 s_f20_r6t1 [18] [21,22] [18,21,22] rfl (by kernel_rfl)
def s_f20_r6t1_x:=hX s_f20_r6t1 [18,21,22] [⟨some 23,(.call (.c (.fn 36 [] [])) [(.t 21),(.t 22)]),none⟩] rfl
def s_f20_r7:List AOper:=[
 ⟨some 6,(.move (.c (.s (.bool true)))),none⟩]
def s_f20_r7_tale:=hT s_f20_r7 [23] [6] 7 [] [(6,(.c (.s (.bool true))))] [.cc (.s (.bool true))] (by kernel_rfl) (by kernel_rfl)
def s_f20_r8:List AOper:=[
 ⟨some 7,(.move (.c (.s (.int .i64 0)))),none⟩]
def s_f20_r8_tale:=hT s_f20_r8 [] [7] 8 [] [(7,(.c (.s (.int .i64 0))))] [.cc (.s (.int .i64 0))] (by kernel_rfl) (by kernel_rfl)
def s_f20_r9:List AOper:=[
 ⟨some 24,(.move (.t 7)),none⟩,
 ⟨some 25,(.move (.t 3)),none⟩,
 ⟨some 26,(.lenS .s (.t 25)),none⟩,
 ⟨some 27,(.bin .lss (.t 24) (.t 26)),none⟩]
def s_f20_r9_tale:=hT s_f20_r9 [24,25,26] [27] 28 [] [(27,(.op (.bin .lss (.t 0) (.t 1)) [(.t 7),(.op (.lenS .s (.t 0)) [(.t 3)])]))] [.tt 7,.tt 3,.sub 0 [1] [],.sub 0 [] []] (by kernel_rfl) (by kernel_rfl)
def s_f20_r10t12:List AOper:=[⟨some 43,(.pick (.t 39) (.c (.s (.bool true))) (.t 42)),some (31,true)⟩,⟨some 44,(.pick (.t 31) (.t 43) (.c (.s (.bool false)))),none⟩,⟨some 6,(.move (.t 44)),none⟩]
def s_f20_r10p11:List AOper:=[⟨some 42,(.call (.c (.fn 36 [] [])) [(.t 40),(.t 41)]),some (39,false)⟩]
def s_f20_r10t11:List AOper:=s_f20_r10p11 ++ s_f20_r10t12
def s_f20_r10p10:List AOper:=[⟨some 41,(.move (.t 7)),some (39,false)⟩]
def s_f20_r10t10:List AOper:=s_f20_r10p10 ++ s_f20_r10t11
def s_f20_r10p9:List AOper:=[⟨some 40,(.move (.t 4)),some (39,false)⟩]
def s_f20_r10t9:List AOper:=s_f20_r10p9 ++ s_f20_r10t10
def s_f20_r10p8:List AOper:=[⟨some 39,(.move (.t 38)),some (31,true)⟩]
def s_f20_r10t8:List AOper:=s_f20_r10p8 ++ s_f20_r10t9
def s_f20_r10p7:List AOper:=[⟨some 38,(.un .not (.t 37)),some (31,true)⟩]
def s_f20_r10t7:List AOper:=s_f20_r10p7 ++ s_f20_r10t8
def s_f20_r10p6:List AOper:=[⟨some 37,(.call (.c (.fn 36 [] [])) [(.t 35),(.t 36)]),some (31,true)⟩]
def s_f20_r10t6:List AOper:=s_f20_r10p6 ++ s_f20_r10t7
def s_f20_r10p5:List AOper:=[⟨some 36,(.move (.t 5)),some (31,true)⟩]
def s_f20_r10t5:List AOper:=s_f20_r10p5 ++ s_f20_r10t6
def s_f20_r10p4:List AOper:=[⟨some 35,(.load false 1 (.t 34)),some (31,true)⟩]
def s_f20_r10t4:List AOper:=s_f20_r10p4 ++ s_f20_r10t5
def s_f20_r10p3:List AOper:=[⟨some 34,(.indexAddr 1 (.t 32) (.t 33)),some (31,true)⟩]
def s_f20_r10t3:List AOper:=s_f20_r10p3 ++ s_f20_r10t4
def s_f20_r10p2:List AOper:=[⟨some 33,(.move (.t 7)),some (31,true)⟩]
def s_f20_r10t2:List AOper:=s_f20_r10p2 ++ s_f20_r10t3
def s_f20_r10p1:List AOper:=[⟨some 32,(.move (.t 3)),some (31,true)⟩]
def s_f20_r10t1:List AOper:=s_f20_r10p1 ++ s_f20_r10t2
def s_f20_r10p0:List AOper:=[⟨some 30,(.move (.t 6)),none⟩,⟨some 31,(.move (.t 30)),none⟩]
def s_f20_r10:List AOper:=s_f20_r10p0 ++ s_f20_r10t1
def s_f20_r10p0_tale:=hT s_f20_r10p0 [6,27,30] [31] 32 [] [(31,(.t 6))] [.tt 6,.tt 6] (by kernel_rfl) (by kernel_rfl)
def s_f20_r10_x:=hS s_f20_r10 s_f20_r10p0 s_f20_r10t1 [6,27,30] [31] [27,30,31,32,33,34,35,36,37,38,39,40,41,42,43,44] rfl (by kernel_rfl)
def s_f20_r10t1_x:=hO s_f20_r10t1 s_f20_r10p1 s_f20_r10t2 [] [27,30,31,32,33,34,35,36,37,38,39,40,41,42,43,44] [⟨some 32,(.move (.t 3)),some (31,true)⟩] rfl rfl (by kernel_rfl)
def s_f20_r10t2_x:=hO s_f20_r10t2 s_f20_r10p2 s_f20_r10t3 [] [27,30,31,32,33,34,35,36,37,38,39,40,41,42,43,44] [⟨some 33,(.move (.t 7)),some (31,true)⟩] rfl rfl (by kernel_rfl)
def s_f20_r10t3_x:=hO s_f20_r10t3 s_f20_r10p3 s_f20_r10t4 [32,33] [27,30,31,32,33,34,35,36,37,38,39,40,41,42,43,44] [⟨some 34,(.indexAddr 1 (.t 32) (.t 33)),some (31,true)⟩] rfl rfl (by kernel_rfl)
def s_f20_r10t4_x:=hO s_f20_r10t4 s_f20_r10p4 s_f20_r10t5 [34] [27,30,31,32,33,34,35,36,37,38,39,40,41,42,43,44] [⟨some 35,(.load false 1 (.t 34)),some (31,true)⟩] rfl rfl (by kernel_rfl)
def s_f20_r10t5_x:=hO s_f20_r10t5 s_f20_r10p5 s_f20_r10t6 [] [27,30,31,32,33,34,35,36,37,38,39,40,41,42,43,44] [⟨some 36,(.move (.t 5)),some (31,true)⟩] rfl rfl (by kernel_rfl)
def s_f20_r10t6_x:=hO s_f20_r10t6 s_f20_r10p6 s_f20_r10t7 [35,36] [27,30,31,32,33,34,35,36,37,38,39,40,41,42,43,44] [⟨some 37,(.call (.c (.fn 36 [] [])) [(.t 35),(.t 36)]),some (31,true)⟩] rfl rfl (by kernel_rfl)
def s_f20_r10t7_x:=hO s_f20_r10t7 s_f20_r10p7 s_f20_r10t8 [37] [27,30,31,32,33,34,35,36,37,38,39,40,41,42,43,44] [⟨some 38,(.un .not (.t 37)),some (31,true)⟩] rfl rfl (by kernel_rfl)
def s_f20_r10t8_x:=hO s_f20_r10t8 s_f20_r10p8 s_f20_r10t9 [38] [27,30,31,32,33,34,35,36,37,38,39,40,41,42,43,44] [⟨some 39,(.move (.t 38)),some (31,true)⟩] rfl rfl (by kernel_rfl)
def s_f20_r10t9_x:=hO s_f20_r10t9 s_f20_r10p9 s_f20_r10t10 [] [27,30,31,32,33,34,35,36,37,38,39,40,41,42,43,44] [⟨some 40,(.move (.t 4)),some (39,false)⟩] rfl rfl (by kernel_rfl)
def s_f20_r10t10_x:=hO s_f20_r10t10 s_f20_r10p10 s_f20_r10t11 [] [27,30,31,32,33,34,35,36,37,38,39,40,41,42,43,44] [⟨some 41,(.move (.t 7)),some (39,false)⟩] rfl rfl (by kernel_rfl)
def s_f20_r10t11_x:=hO s_f20_r10t11 s_f20_r10p11 s_f20_r10t12 [40,41] [27,30,31,32,33,34,35,36,37,38,39,40,41,42,43,44] [⟨some 42,(.call (.c (.fn 36 [] [])) [(.t 40),(.t 41)]),some (39,false)⟩] rfl rfl (by kernel_rfl)
def s_f20_r10t12_tale:=hT s_f20_r10t12 [27,30,31,32,33,34,35,36,37,38,39,40,41,42,43,44] [6] 45 [] [(6,(.pick (.t 31) (.pick (.t 39) (.c (.s (.bool true))) (.t 42)) (.c (.s (.bool false)))))] [.sub 0 [1] [31],.sub 0 [] [],.sub 0 [] []] (by kernel_rfl) (by kernel_rfl)
def s_f20_r10t12_x:=hL s_f20_r10t12 [27,30,31,32,33,34,35,36,37,38,39,40,41,42,43,44] [6]
def s_f20_r11:List AOper:=[
 ⟨some 28,(.move (.t 7)),none⟩,
 ⟨some 29,(.bin .add (.t 28) (.c (.s (.int .i64 1)))),none⟩,
 ⟨some 7,(.move (.t 29)),none⟩]
def s_f20_r11_tale:=hT s_f20_r11 [28,29] [7] 30 [] [(7,(.op (.bin .add (.t 0) (.c (.s (.int .i64 1)))) [(.t 7),(.c (.s (.int .i64 1)))]))] [.tt 7,.sub 0 [] [],.sub 0 [] []] (by kernel_rfl) (by kernel_rfl)
def s_f20_l0_b:ACode:=
 (.seq (.seq (.regionE s_f20_r9 [24,25,26] [27])
 (.cond (.t 27)
 .skip
 (.exit 4)))
 (.seq (.block 5
 (.region s_f20_r10 [] [27,30,31,32,33,34,35,36,37,38,39,40,41,42,43,44]))
 (.regionE s_f20_r11 [28,29] [7])))
def s_f20_l0:ACode:=s_f20_l0_b
def s_f20_l0_ev:=hE s_f20_l0 s_f20_l0_b rfl
def s_f20_r12:List AOper:=[
 ⟨some 45,(.move (.t 6)),none⟩]
def s_f20_r12_tale:=hT s_f20_r12 [6,7,27] [45] 46 [] [(45,(.t 6))] [.tt 6] (by kernel_rfl) (by kernel_rfl)
def s_f20_r13t3:List AOper:=[⟨some 4,(.move (.t 49)),none⟩]
def s_f20_r13p2:List AOper:=[⟨some 49,(.append 1 8 (.t 46) (.t 48)),none⟩]
def s_f20_r13t2:List AOper:=s_f20_r13p2 ++ s_f20_r13t3
def s_f20_r13p1:List AOper:=[⟨some 48,(.buildSl 1 1 [(.s (.int .i64 0))] [(0,(.t 47))]),none⟩]
def s_f20_r13t1:List AOper:=s_f20_r13p1 ++ s_f20_r13t2
def s_f20_r13p0:List AOper:=[⟨some 46,(.move (.t 4)),none⟩,⟨some 47,(.move (.t 5)),none⟩]
def s_f20_r13:List AOper:=s_f20_r13p0 ++ s_f20_r13t1
def s_f20_r13p0_tale:=hT s_f20_r13p0 [4,5,45] [46,47] 48 [] [(46,(.t 4)),(47,(.t 5))] [.tt 4,.tt 5] (by kernel_rfl) (by kernel_rfl)
def s_f20_r13_x:=hS s_f20_r13 s_f20_r13p0 s_f20_r13t1 [4,5,45] [46,47] [5,45,46,47,48,49] rfl (by kernel_rfl)
def s_f20_r13t1_x:=hO s_f20_r13t1 s_f20_r13p1 s_f20_r13t2 [47] [5,45,46,47,48,49] [⟨some 48,(.buildSl 1 1 [(.s (.int .i64 0))] [(0,(.t 47))]),none⟩] rfl rfl (by kernel_rfl)
def s_f20_r13t2_x:=hO s_f20_r13t2 s_f20_r13p2 s_f20_r13t3 [46,48] [5,45,46,47,48,49] [⟨some 49,(.append 1 8 (.t 46) (.t 48)),none⟩] rfl rfl (by kernel_rfl)
def s_f20_r13t3_tale:=hT s_f20_r13t3 [5,45,46,47,48,49] [4] 5 [] [(4,(.t 49))] [.tt 49] (by kernel_rfl) (by kernel_rfl)
def s_f20_r13t3_x:=hL s_f20_r13t3 [5,45,46,47,48,49] [4]
def s_f20_r14:List AOper:=[
 ⟨some 19,(.move (.t 5)),none⟩,
 ⟨some 20,(.bin .add (.t 19) (.c (.s (.int .i64 1)))),none⟩,
 ⟨some 5,(.move (.t 20)),none⟩]
def s_f20_r14_tale:=hT s_f20_r14 [19,20,23,45] [5] 21 [] [(5,(.op (.bin .add (.t 0) (.c (.s (.int .i64 1)))) [(.t 5),(.c (.s (.int .i64 1)))]))] [.tt 5,.sub 0 [] [],.sub 0 [] []] (by kernel_rfl) (by kernel_rfl)
def s_f20_l1_b:ACode:=
 (.seq (.seq (.regionE s_f20_r5 [15,16,17] [18])
 (.cond (.t 18)
 .skip
 (.exit 2)))
 (.seq (.block 3
 (.seq (.seq (.region s_f20_r6 [] [18,21,22])
 (.cond (.t 23)
 (.exit 3)
 .skip))
 (.seq (.regionE s_f20_r7 [23] [6])
 (.seq (.seq (.regionE s_f20_r8 [] [7])
 (.block 4
 (.loop [] s_f20_l0)))
 (.seq (.regionE s_f20_r12 [6,7,27] [45])
 (.cond (.t 45)
 (.seq (.region s_f20_r13 [] [5,45,46,47,48,49])
 (.exit 2))
 .skip))))))
 (.regionE s_f20_r14 [19,20,23,45] [5])))
def s_f20_l1:ACode:=s_f20_l1_b
def s_f20_l1_ev:=hE s_f20_l1 s_f20_l1_b rfl
def s_f20_l2_b:ACode:=
 (.seq (.seq (.regionE s_f20_r3 [10,11,12,13] [14])
 (.cond (.t 14)
 .skip
 (.exit 0)))
 (.block 1
 (.seq (.regionE s_f20_r4 [14] [5])
 (.block 2
 (.loop [] s_f20_l1)))))
def s_f20_l2:ACode:=s_f20_l2_b
def s_f20_l2_ev:=hE s_f20_l2 s_f20_l2_b rfl
def s_f20_r15:List AOper:=[
 ⟨some 50,(.move (.t 4)),none⟩,
 ⟨some 2,(.move (.t 50)),none⟩]
def s_f20_r15_tale:=hT s_f20_r15 [3,4,14,50] [2] 51 [] [(2,(.t 4))] [.tt 4,.tt 4] (by kernel_rfl) (by kernel_rfl)
def s_f20:ACFun:={ ntmps:=51,results:=[(.tmp 2)],body:=
 (.seq (.regionE s_f20_r0 s_f20_r0_k [])
 (.seq (.region s_f20_r1 [] [0,8,9])
 (.seq (.regionE s_f20_r2 [] [4])
 (.seq (.block 0
 (.loop [5,18] s_f20_l2))
 (.seq (.regionE s_f20_r15 [3,4,14,50] [2])
 .ret))))) }
def a_f12:=ai @s_f12_r0_tale (ai @s_f12_r0_kT (ai @s_f12_r0_kA0 (ai @s_f12_r1p0_tale (ai @s_f12_r1_x (ai @s_f12_r1t1_x (ai @s_f12_r1t2_tale (ai @s_f12_r1t2_x (ai @s_f12_r2_tale (ai @s_f12_r3_tale (ai @s_f12_r4_tale (ai @s_f12_r5p0_tale (ai @s_f12_r5_x (ai @s_f12_r5t1_x (ai @s_f12_r5t2_x (ai @s_f12_r5t3_x (ai @s_f12_r5t4_x (ai @s_f12_r5t5_tale (ai @s_f12_r5t5_x (ai @s_f12_r6_tale (ai @s_f12_l0_ev (ai @s_f12_r7_tale (ai @s_f12_r8_tale (ai @s_f12_r9_tale (ai @s_f12_r10p0_tale (ai @s_f12_r10_x (ai @s_f12_r10t1_x (ai @s_f12_r11_tale (ai @s_f12_r12_tale (ai @s_f12_r13_tale (ai @s_f12_r14p0_tale (ai @s_f12_r14_x (ai @s_f12_r14t1_x (ai @s_f12_r15_tale (ai @s_f12_l1_ev (ai @s_f12_r16_tale (ai @s_f12_r17p0_tale (ai @s_f12_r17_x (ai @s_f12_r17t1_x (ai @s_f12_r18_tale (ai @s_f12_r19_tale (ai @s_f12_l2_ev (@s_f12_r20_tale))))))))))))))))))))))))))))))))))))))))))
def a_f15:=ai @s_f15_r0_tale (ai @s_f15_r0_kT (ai @s_f15_r0_kA0 (ai @s_f15_r1p0_tale (ai @s_f15_r1_x (ai @s_f15_r1t1_x (ai @s_f15_r1t2_tale (ai @s_f15_r1t2_x (ai @s_f15_r2p0_tale (ai @s_f15_r2_x (ai @s_f15_r2t1_x (ai @s_f15_r2t2_tale (ai @s_f15_r2t2_x (ai @s_f15_r3_tale (ai @s_f15_r4_tale (ai @s_f15_r5_tale (ai @s_f15_r6_tale (ai @s_f15_r7p0_tale (ai @s_f15_r7_x (ai @s_f15_r7t1_x (ai @s_f15_r7t2_x (ai @s_f15_r7t3_x (ai @s_f15_r7t4_x (ai @s_f15_r7t5_x (ai @s_f15_r7t6_x (ai @s_f15_r7t7_x (ai @s_f15_r7t8_x (ai @s_f15_r7t9_x (ai @s_f15_r7t10_x (ai @s_f15_r7p11_tale (ai @s_f15_r7t11_x (ai @s_f15_r7t12_x (ai @s_f15_r8_tale (ai @s_f15_l0_ev (ai @s_f15_r9_tale (ai @s_f15_l1_ev (@s_f15_r10_tale))))))))))))))))))))))))))))))))))))
def a_f18:=ai @s_f18_r0_tale (ai @s_f18_r0_kT (ai @s_f18_r0_kA0 (ai @s_f18_r1p0_tale (ai @s_f18_r1_x (ai @s_f18_r1t1_x (ai @s_f18_r1t2_tale (ai @s_f18_r1t2_x (ai @s_f18_r2p0_tale (ai @s_f18_r2_x (ai @s_f18_r2t1_x (ai @s_f18_r2t2_tale (ai @s_f18_r2t2_x (ai @s_f18_r3_tale (ai @s_f18_r4_tale (ai @s_f18_r5_tale (ai @s_f18_r6_tale (ai @s_f18_r7_tale (ai @s_f18_l0_ev (ai @s_f18_r8p0_tale (ai @s_f18_r8_x (ai @s_f18_r8t1_x (ai @s_f18_r8t2_tale (ai @s_f18_r8t2_x (ai @s_f18_r9_tale (ai @s_f18_r10_tale (ai @s_f18_r11_tale (ai @s_f18_r12_tale (ai @s_f18_r13_tale (ai @s_f18_r14p0_tale (ai @s_f18_r14_x (ai @s_f18_r14t1_x (ai @s_f18_r14p2_tale (ai @s_f18_r14t2_x (ai @s_f18_r14t3_x (ai @s_f18_r15_tale (ai @s_f18_l1_ev (ai @s_f18_r16_tale (ai @s_f18_l2_ev (@s_f18_r17_tale)))))))))))))))))))))))))))))))))))))))
def a_f20:=ai @s_f20_r0_tale (ai @s_f20_r0_kT (ai @s_f20_r0_kA0 (ai @s_f20_r1p0_tale (ai @s_f20_r1_x (ai @s_f20_r1t1_x (ai @s_f20_r1t2_tale (ai @s_f20_r1t2_x (ai @s_f20_r2_tale (ai @s_f20_r3_tale (ai @s_f20_r4_tale (ai @s_f20_r5_tale (ai @s_f20_r6p0_tale (ai @s_f20_r6_x (ai @s_f20_r6t1_x (ai @s_f20_r7_tale (ai @s_f20_r8_tale (ai @s_f20_r9_tale (ai @s_f20_r10p0_tale (ai @s_f20_r10_x (ai @s_f20_r10t1_x (ai @s_f20_r10t2_x (ai @s_f20_r10t3_x (ai @s_f20_r10t4_x (ai @s_f20_r10t5_x (ai @s_f20_r10t6_x (ai @s_f20_r10t7_x (ai @s_f20_r10t8_x (ai @s_f20_r10t9_x (ai @s_f20_r10t10_x (ai @s_f20_r10t11_x (ai @s_f20_r10t12_tale (ai @s_f20_r10t12_x (ai @s_f20_r11_tale (ai @s_f20_l0_ev (ai @s_f20_r12_tale (ai @s_f20_r13p0_tale (ai @s_f20_r13_x (ai @s_f20_r13t1_x (ai @s_f20_r13t2_x (ai @s_f20_r13t3_tale (ai @s_f20_r13t3_x (ai @s_f20_r14_tale (ai @s_f20_l1_ev (ai @s_f20_l2_ev (@s_f20_r15_tale)))))))))))))))))))))))))))))))))))))))))))))
theorem SA5_12:compK Try.prog PX0 12=some (false,s_f12.ntmps,s_f12.results,s_f12.body.bare):=by kernel_rfl
theorem SA5_15:compK Try.prog PX0 15=some (false,s_f15.ntmps,s_f15.results,s_f15.body.bare):=by kernel_rfl
theorem SA5_18:compK Try.prog PX0 18=some (false,s_f18.ntmps,s_f18.results,s_f18.body.bare):=by kernel_rfl
theorem SA5_20:compK Try.prog PX0 20=some (false,s_f20.ntmps,s_f20.results,s_f20.body.bare):=by kernel_rfl
end Go.Proofs.Ytchekhggdbcbbaa
set_option maxRecDepth 100000
namespace Go.Proofs.Ytchekhggdbcbbaa
open Go.AM
theorem AccR.rows_set {H0 H:Heap} {v:V} {R:List (List V)} (h:AccR H0 H v R) {o:Nat} (ho:o < H0.length) (ob:Ob):RdRows (H.set o ob) v R:=by
 obtain ⟨vs,⟨_,h1⟩,h2,h3⟩:=h
 refine ⟨vs,?_,?_,h2,fun i r hr=>?_⟩
 ·rcases h1 with ⟨rfl,rfl⟩ | ⟨id,g,rfl,hc,hid⟩
  ·exact Rd.nil _
  ·exact getC_sl (by rw [getC_set_ne _ (by omega)];exact hc)
 ·rcases h1 with ⟨_,rfl⟩ | ⟨id,g,rfl,_,_⟩ <;> trivial
 ·obtain ⟨x,q1,q2,_⟩:=h3 i r hr
  exact ⟨x,q1,(q2.set ho ob).rd,q2.wide⟩
noncomputable def thereB (G:List (List Int)) (i:Nat):List Bool:=(List.range G.length).map fun (k:Nat)=>leadsB G (i:Int) (k:Int)
theorem thereB_len (G:List (List Int)) (i:Nat):(thereB G i).length=G.length:=by simp [thereB]
theorem thereB_get (G:List (List Int)) (i:Nat) {k:Nat} (hk:k < G.length):(thereB G i).getD k false=leadsB G i k:=by simp [thereB,hk]
theorem thereB_of {G:List (List Int)} {i:Nat} {B:List Bool} (h1:B.length=G.length) (h2:∀ k:Nat,B[k]?=some true↔Rch G [(i:Int)] k):B=thereB G i:=by
 apply List.ext_getElem?
 intro k
 by_cases hk:k < G.length
 ·have:=reach_get h2 k
  rw [some_getD (by omega) false,this,some_getD (l:=thereB G i) (by rw [thereB_len];exact hk) false,thereB_get G i hk]
 ·rw [List.getElem?_eq_none (by omega),List.getElem?_eq_none (by rw [thereB_len];omega)]
section
variable {CT:Nat→Option CFun}
structure CQ8 (CT:Nat→Option CFun):Prop where
 r:CR CT
 comps:CT k_f12=some (.code s_f12)
 cyc:CT k_f15=some (.code s_f15)
 fold:CT k_f18=some (.code s_f18)
 order:CT k_f20=some (.code s_f20)
theorem rcomps_l0 (h:CR CT) (base:Nat) {A:Heap} {v outv:V} {G:List (List Int)} (hb:base≤A.length) (hv:RdRows A v (rowsV G)) (hn:G.length < 2 ^ 30) (hr:∀ r∈G,r.length < 2 ^ 39):
 ∃ tv B,itW (evC (callW CT) itW base s_f12_l0) [] A.length (frOf 81 [(0,v),(3,outv),(4,nilS),(5,.s (.int .i64 0))]) A=some (.ext 0,frOf 81 [(0,v),(3,outv),(4,tv),(5,.s (.int .i64 G.length)),(15,bl false)],B)∧AccR A B tv ((List.range G.length).map fun i=>(thereB G i).map bV):=by
 have hvl:=rows_lenV hv
 obtain ⟨⟨tv,B⟩,e1,a1⟩:=it_rel G.length (fun j (x:V × Heap)=>AccR A x.2 x.1 ((List.range j).map fun i=>(thereB G i).map bV)) (fun j x=>itW (evC (callW CT) itW base s_f12_l0) [] A.length (frOf 81 [(0,v),(3,outv),(4,x.1),(5,.s (.int .i64 j))]) x.2) (by
  rintro j ⟨tv,B⟩ hj ha
  simp only at ha ⊢
  have hlt':((j:Int) < (G.length:Int)):=by omega
  have hwk:=w64 (n:=j) (by omega)
  have hAB:=ha.ext0
  have hle:=hAB.le
  obtain ⟨w,C,X,q1,q2,q3,q4,q5,q6,q7⟩:=rreach_f h base (B ++ [.cells 0 [iV j]]) v (.sl B.length 0 0 1 1) G [(j:Int)] (by simp;omega) ((hv.ext hAB).ext (Ext.app _ _)) (one_rd B (iV j)) trivial (by simp) (by omega) hr
  rw [thereB_of q5 q6] at q7
  have hBC:Ext B C:=(Ext.app _ _).trans q2
  have q8:=q7.mono (k:=A.length) (by simp;omega)
  obtain ⟨tv',D,p1,p2,p3⟩:=(ha.ext hBC).append (base:=base) (bytes:=24) hb q8 (q7.apart fun id g n e=>by have:=ha.lt e;simp;omega) (by simp;omega)
  have hone:=q7.one
  refine ⟨(tv',Go.AM.trim A.length (frOf 81 [(0,v),(3,outv),(4,tv'),(5,.s (.int .i64 (j+1:Nat)))]) D),?_,?_⟩
  ·rw [itW_step]
   simp only [iV] at q1
   simp only [a_f12,s_f12_l0_b,s_f12_l1_b,s_f12_l2_b,aa,bl,i64,reduceIte,reduceCtorEq,Nat.reduceEqDiff,Nat.reduceLT,Nat.reduceLeDiff,Nat.reduceBEq,Nat.reduceAdd,fillA,splice,Nat.reduceMul,amY,op_eqP,hvl,hlt',q1,hone,cells_of_one hone,p1,hwk]
  ·rw [List.range_succ,List.map_append]
   exact p2.trim (Nat.le_refl _) (frOf_mem (s:=4) (by omega) rfl)) 0 (nilS,A) (Nat.zero_le _) (AccR.start A)
 simp only at e1 a1
 refine ⟨tv,_,e1.trans ?_,a1.trim (Nat.le_refl _) (fr:=frOf 81 [(0,v),(3,outv),(4,tv),(5,.s (.int .i64 G.length)),(15,bl false)]) (frOf_mem (s:=4) (by omega) rfl)⟩
 rw [itW_step]
 simp only [bl,a_f12,s_f12_l0_b,s_f12_l1_b,s_f12_l2_b,aa,bl,i64,reduceIte,reduceCtorEq,Nat.reduceEqDiff,Nat.reduceLT,Nat.reduceLeDiff,Nat.reduceBEq,Nat.reduceAdd,fillA,splice,Nat.reduceMul,amY,op_eqP,hvl,Int.lt_irrefl]
noncomputable def pickE (G:List (List Int)) (l:List Int) (i:Nat):Int:=match (List.range i).find? (fun k=>eqG G i k) with
 | some k=>l.getD k 0
 | none=>-1
theorem rcomps_l1 (base:Nat) {B:Heap} {v tv:V} {G:List (List Int)} {o i c:Nat} {L:List Int} (hb:base≤o) (ht:∀ ob,RdRows (B.set o ob) tv ((List.range G.length).map fun i=>(thereB G i).map bV)) (hn:G.length < 2 ^ 30) (hi:i < G.length) (hL:L.length=G.length) (hg:getC B o 0=some ((L.set i (-1)).map iV)) (hpos:∀ k,k < i→0≤L.getD k 0):
 ∃ kk:Nat,itW (evC (callW CT) itW base s_f12_l1) [] B.length (frOf 81 [(0,v),(3,.sl o 0 0 G.length 1),(4,tv),(6,.s (.int .i64 c)),(7,.s (.int .i64 i)),(8,.s (.int .i64 0))]) B=some (.ext 4,frOf 81 [(0,v),(3,.sl o 0 0 G.length 1),(4,tv),(6,.s (.int .i64 c)),(7,.s (.int .i64 i)),(8,.s (.int .i64 kk)),(43,bl false)],B.set o (.cells 0 ((L.set i (pickE G L i)).map iV))):=by
 have hBB:B.set o (.cells 0 ((L.set i (-1)).map iV))=B:=set_same_ob (getC_ob' hg)
 have htB:=ht (.cells 0 ((L.set i (-1)).map iV))
 rw [hBB] at htB
 have hiL:i < (L.set i (-1)).length:=by rw [List.length_set];omega
 have hLi:(L.set i (-1)).getD i 0=-1:=by rw [List.getD,List.getElem?_set_self (by omega)];rfl
 obtain ⟨a1,a2⟩:=at_sl (n:=G.length) hg hi (w:=iV (-1)) (by rw [List.getElem?_map,some_getD hiL 0,hLi];rfl)
 have hneg:decide ((-1:Int) < 0)=true:=by decide
 have hrow:∀ k,k < G.length→((List.range G.length).map fun i=>(thereB G i).map bV)[k]?=some ((thereB G k).map bV):=fun k hk=>by simp [hk]
 have step:∀ k,k < i→eqG G i k=false→itW (evC (callW CT) itW base s_f12_l1) [] B.length (frOf 81 [(0,v),(3,.sl o 0 0 G.length 1),(4,tv),(6,.s (.int .i64 c)),(7,.s (.int .i64 i)),(8,.s (.int .i64 k))]) B=itW (evC (callW CT) itW base s_f12_l1) [] B.length (frOf 81 [(0,v),(3,.sl o 0 0 G.length 1),(4,tv),(6,.s (.int .i64 c)),(7,.s (.int .i64 i)),(8,.s (.int .i64 (k+1:Nat)))]) B:=by
  intro k hk he
  have hlt':((k:Int) < (i:Int)):=by omega
  have hwk:=w64 (n:=k) (by omega)
  obtain ⟨b,x,b1,b2,b3,b4⟩:=htB.at (hrow i hi)
  obtain ⟨d,y,d1,d2,d3,d4⟩:=htB.at (hrow k (by omega))
  obtain ⟨x1,x2,x3⟩:=bV_at b3 b4 (k:=k) (by rw [thereB_len];omega)
  obtain ⟨y1,y2,y3⟩:=bV_at d3 d4 (k:=i) (by rw [thereB_len];omega)
  rw [thereB_get G i (by omega)] at x3
  rw [thereB_get G k hi] at y3
  unfold eqG at he
  rw [itW_step]
  simp only [iV] at a2
  cases hx:leadsB G i k with
  | false=>
    rw [hx] at x3
    simp only [a_f12,s_f12_l0_b,s_f12_l1_b,s_f12_l2_b,aa,bl,i64,reduceIte,reduceCtorEq,Nat.reduceEqDiff,Nat.reduceLT,Nat.reduceLeDiff,Nat.reduceBEq,Nat.reduceAdd,fillA,splice,Nat.reduceMul,amY,op_eqP,hlt',a1,a2,hneg,b1,b2,d1,d2,x2,x3,y2,y3,hwk,trim_same rfl]
  | true=>
    rw [hx] at x3 he
    rw [Bool.true_and] at he
    rw [he] at y3
    simp only [a_f12,s_f12_l0_b,s_f12_l1_b,s_f12_l2_b,aa,bl,i64,reduceIte,reduceCtorEq,Nat.reduceEqDiff,Nat.reduceLT,Nat.reduceLeDiff,Nat.reduceBEq,Nat.reduceAdd,fillA,splice,Nat.reduceMul,amY,op_eqP,hlt',a1,a2,hneg,b1,b2,d1,d2,x2,x3,y2,y3,hwk,trim_same rfl]
 rcases it_find i (eqG G i) (fun k=>itW (evC (callW CT) itW base s_f12_l1) [] B.length (frOf 81 [(0,v),(3,.sl o 0 0 G.length 1),(4,tv),(6,.s (.int .i64 c)),(7,.s (.int .i64 i)),(8,.s (.int .i64 k))]) B) step with ⟨h1,h2⟩ | ⟨k,hk,h1,h2,h3⟩
 ·have hp:pickE G L i=-1:=by
   unfold pickE
   rw [range_none h1]
  refine ⟨i,?_⟩
  rw [hp,hBB]
  simp only [cast0] at h2
  refine h2.trans ?_
  rw [itW_step]
  simp only [bl,a_f12,s_f12_l0_b,s_f12_l1_b,s_f12_l2_b,aa,bl,i64,reduceIte,reduceCtorEq,Nat.reduceEqDiff,Nat.reduceLT,Nat.reduceLeDiff,Nat.reduceBEq,Nat.reduceAdd,fillA,splice,Nat.reduceMul,amY,op_eqP,Int.lt_irrefl,trim_same rfl]
 ·have hp:pickE G L i=L.getD k 0:=by
   unfold pickE
   have:(List.range i).find? (fun k=>eqG G i k)=some k:=range_find hk h1 h2
   rw [this]
  refine ⟨k+1,?_⟩
  simp only [cast0] at h3
  refine h3.trans ?_
  have hlt':((k:Int) < (i:Int)):=by omega
  have hwk:=w64 (n:=k) (by omega)
  obtain ⟨b,x,b1,b2,b3,b4⟩:=htB.at (hrow i hi)
  obtain ⟨d,y,d1,d2,d3,d4⟩:=htB.at (hrow k (by omega))
  obtain ⟨x1,x2,x3⟩:=bV_at b3 b4 (k:=k) (by rw [thereB_len];omega)
  obtain ⟨y1,y2,y3⟩:=bV_at d3 d4 (k:=i) (by rw [thereB_len];omega)
  rw [thereB_get G i (by omega)] at x3
  rw [thereB_get G k hi] at y3
  unfold eqG at h1
  rw [Bool.and_eq_true] at h1
  rw [h1.1] at x3
  rw [h1.2] at y3
  have hLk:(L.set i (-1)).getD k 0=L.getD k 0:=by rw [List.getD,List.getD,List.getElem?_set_ne (by omega)]
  obtain ⟨c1,c2⟩:=at_sl (n:=G.length) hg (j:=k) (by omega) (w:=iV (L.getD k 0)) (by rw [List.getElem?_map,some_getD (by rw [List.length_set];omega) 0,hLk];rfl)
  have st:=storeV_at (v:=iV (L.getD k 0)) (base:=base) hg hb rfl (off:=i) (by rw [List.length_map];exact hiL)
  rw [← List.map_set,List.set_set] at st
  have hpk:=hpos k hk
  have g2:getC (B.set o (.cells 0 ((L.set i (L.getD k 0)).map iV))) o 0=some ((L.set i (L.getD k 0)).map iV):=getC_set hg 0
  obtain ⟨e1,e2⟩:=at_sl (n:=G.length) g2 hi (w:=iV (L.getD k 0)) (by rw [List.getElem?_map,List.getElem?_set_self (by omega)];rfl)
  have hnn:decide (L.getD k 0 < 0)=false:=by rw [decide_eq_false_iff_not];omega
  have ts:∀ (fr:List V) (ob:Ob),Go.AM.trim B.length fr (B.set o ob)=B.set o ob:=fun fr ob=>trim_same (by simp)
  rw [hp,itW_step]
  simp only [iV] at a2 c2 st e2
  by_cases hki:k+1 < i
  ·have hlt2:(((k+1:Nat):Int) < (i:Int)):=by omega
   simp only [bl,a_f12,s_f12_l0_b,s_f12_l1_b,s_f12_l2_b,aa,bl,i64,reduceIte,reduceCtorEq,Nat.reduceEqDiff,Nat.reduceLT,Nat.reduceLeDiff,Nat.reduceBEq,Nat.reduceAdd,fillA,splice,Nat.reduceMul,amY,op_eqP,hlt',a1,a2,hneg,b1,b2,d1,d2,x2,x3,y2,y3,c1,c2,st,hwk,ts]
   rw [itW_step]
   simp only [bl,a_f12,s_f12_l0_b,s_f12_l1_b,s_f12_l2_b,aa,bl,i64,reduceIte,reduceCtorEq,Nat.reduceEqDiff,Nat.reduceLT,Nat.reduceLeDiff,Nat.reduceBEq,Nat.reduceAdd,fillA,splice,Nat.reduceMul,amY,op_eqP,hlt2,e1,e2,hnn,ts]
  ·have hlt2:¬ (((k+1:Nat):Int) < (i:Int)):=by omega
   simp only [bl,a_f12,s_f12_l0_b,s_f12_l1_b,s_f12_l2_b,aa,bl,i64,reduceIte,reduceCtorEq,Nat.reduceEqDiff,Nat.reduceLT,Nat.reduceLeDiff,Nat.reduceBEq,Nat.reduceAdd,fillA,splice,Nat.reduceMul,amY,op_eqP,hlt',a1,a2,hneg,b1,b2,d1,d2,x2,x3,y2,y3,c1,c2,st,hwk,ts]
   rw [itW_step]
   simp only [bl,a_f12,s_f12_l0_b,s_f12_l1_b,s_f12_l2_b,aa,bl,i64,reduceIte,reduceCtorEq,Nat.reduceEqDiff,Nat.reduceLT,Nat.reduceLeDiff,Nat.reduceBEq,Nat.reduceAdd,fillA,splice,Nat.reduceMul,amY,op_eqP,hlt2,ts]
theorem fillZ_getD {n:Nat} {l:List Int} {k:Nat} (h:k < l.length):(fillZ n l).getD k 0=l.getD k 0:=by
 unfold fillZ
 rw [List.getD,List.getD,List.getElem?_append_left h]
theorem rcomps_l2 (base:Nat) {B:Heap} {v tv:V} {G:List (List Int)} {o:Nat} (hb:base≤o) (ht:∀ ob,RdRows (B.set o ob) tv ((List.range G.length).map fun i=>(thereB G i).map bV)) (hv:∀ H',xLen H' .s v=some (.s (.int .i64 G.length))) (hn:G.length < 2 ^ 30) (ho:o < B.length) (hg0:∃ c,getC B o 0=some c):
 itW (evC (callW CT) itW base s_f12_l2) [] B.length (frOf 81 [(0,v),(3,.sl o 0 0 G.length 1),(4,tv),(6,.s (.int .i64 0)),(7,.s (.int .i64 0))]) (B.set o (.cells 0 ((fillZ G.length []).map iV)))=some (.ext 2,frOf 81 [(0,v),(3,.sl o 0 0 G.length 1),(4,tv),(6,.s (.int .i64 (cntG G:Nat))),(7,.s (.int .i64 G.length)),(28,bl false)],B.set o (.cells 0 ((compsG G).map iV))):=by
 have ts:∀ (fr:List V) (ob:Ob),Go.AM.trim B.length fr (B.set o ob)=B.set o ob:=fun fr ob=>trim_same (by simp)
 obtain ⟨c0,hg0⟩:=hg0
 have hg:∀ c,getC (B.set o (.cells 0 c)) o 0=some c:=fun c=>getC_set hg0 0
 have hst:∀ i,i < G.length→itW (evC (callW CT) itW base s_f12_l2) [] B.length (frOf 81 [(0,v),(3,.sl o 0 0 G.length 1),(4,tv),(6,.s (.int .i64 ((numE (eqG G) i).2:Nat))),(7,.s (.int .i64 i))]) (B.set o (.cells 0 ((fillZ G.length (numE (eqG G) i).1).map iV)))=itW (evC (callW CT) itW base s_f12_l2) [] B.length (frOf 81 [(0,v),(3,.sl o 0 0 G.length 1),(4,tv),(6,.s (.int .i64 ((numE (eqG G) (i+1)).2:Nat))),(7,.s (.int .i64 (i+1:Nat)))]) (B.set o (.cells 0 ((fillZ G.length (numE (eqG G) (i+1)).1).map iV))):=by
  intro i hi
  have ok:=numE_ok (eqG_on G) i (by omega)
  have hcl:=numE_le (eqG G) i
  obtain ⟨l,hl⟩:∃ l,(numE (eqG G) i).1=l:=⟨_,rfl⟩
  obtain ⟨c,hc⟩:∃ c,(numE (eqG G) i).2=c:=⟨_,rfl⟩
  rw [hl,hc] at ok
  rw [hc] at hcl
  have hll:=ok.len
  have hlt':((i:Int) < (G.length:Int)):=by omega
  have hwk:=w64 (n:=i) (by omega)
  have hwc:=w64 (n:=c) (by omega)
  have hfl:(fillZ G.length l).length=G.length:=fillZ_len (by omega)
  have hixi:(0≤(i:Int)∧(i:Int) < (G.length:Int)∧1=1):=by omega
  have st1:=storeV_at (v:=iV (-1)) (base:=base) (hg ((fillZ G.length l).map iV)) hb rfl (off:=i) (by rw [List.length_map];omega)
  rw [List.set_set,← List.map_set] at st1
  obtain ⟨kk,hl1⟩:=rcomps_l1 (CT:=CT) base (B:=B.set o (.cells 0 (((fillZ G.length l).set i (-1)).map iV))) (v:=v) (tv:=tv) (G:=G) (o:=o) (i:=i) (c:=c) (L:=fillZ G.length l) hb (fun ob=>by rw [List.set_set];exact ht ob) hn hi hfl (hg _) (fun k hk=>by rw [fillZ_getD (by omega)];exact (ok.lt k hk).1)
  rw [List.length_set,List.set_set] at hl1
  obtain ⟨pk,hpk⟩:∃ pk,pickE G (fillZ G.length l) i=pk:=⟨_,rfl⟩
  rw [hpk] at hl1
  obtain ⟨e1,e2⟩:=at_sl (n:=G.length) (hg (((fillZ G.length l).set i pk).map iV)) hi (w:=iV pk) (by rw [List.getElem?_map,List.getElem?_set_self (by omega)];rfl)
  have hfs:=fillZ_set (n:=G.length) (l:=l) (by omega)
  rw [hll] at hfs
  rw [hl,hc,itW_step]
  simp only [iV] at st1 e2
  simp only [bl] at hl1
  cases hf:(List.range i).find? (fun k=>eqG G i k) with
  | some k=>
    have hki:k < i:=List.mem_range.1 (List.mem_of_find?_eq_some hf)
    have hp:pk=l.getD k 0:=by rw [← hpk];unfold pickE;rw [hf];exact fillZ_getD (by omega)
    have hnn:decide (pk < 0)=false:=by rw [decide_eq_false_iff_not,hp];have:=(ok.lt k hki).1;omega
    rw [numE_some hf,hl,hc]
    dsimp only
    rw [← hfs,← hp]
    simp only [bl,a_f12,s_f12_l0_b,s_f12_l1_b,s_f12_l2_b,aa,bl,i64,reduceIte,reduceCtorEq,Nat.reduceEqDiff,Nat.reduceLT,Nat.reduceLeDiff,Nat.reduceBEq,Nat.reduceAdd,fillA,splice,Nat.reduceMul,amY,op_eqP,hv,hlt',hixi,List.length_set,st1,hl1,e1,e2,hnn,hwk,ts]
  | none=>
    have hp:pk=-1:=by rw [← hpk];unfold pickE;rw [hf]
    have hnn:decide (pk < 0)=true:=by rw [hp];decide
    have st2:=storeV_at (v:=iV (c:Int)) (base:=base) (hg (((fillZ G.length l).set i pk).map iV)) hb rfl (off:=i) (by rw [List.length_map,List.length_set];omega)
    rw [List.set_set,← List.map_set,List.set_set,hfs (c:Int)] at st2
    simp only [iV] at st2
    rw [numE_none hf,hl,hc]
    simp only [bl,a_f12,s_f12_l0_b,s_f12_l1_b,s_f12_l2_b,aa,bl,i64,reduceIte,reduceCtorEq,Nat.reduceEqDiff,Nat.reduceLT,Nat.reduceLeDiff,Nat.reduceBEq,Nat.reduceAdd,fillA,splice,Nat.reduceMul,amY,op_eqP,hv,hlt',hixi,List.length_set,st1,hl1,e1,e2,hnn,st2,hwk,hwc,ts]
 have h2:=it_fun G.length (fun i=>itW (evC (callW CT) itW base s_f12_l2) [] B.length (frOf 81 [(0,v),(3,.sl o 0 0 G.length 1),(4,tv),(6,.s (.int .i64 ((numE (eqG G) i).2:Nat))),(7,.s (.int .i64 i))]) (B.set o (.cells 0 ((fillZ G.length (numE (eqG G) i).1).map iV)))) hst 0 (Nat.zero_le _)
 simp only [numE,cast0] at h2
 refine h2.trans ?_
 rw [itW_step,fillZ_full (numE_len _ _)]
 simp only [bl,a_f12,s_f12_l0_b,s_f12_l1_b,s_f12_l2_b,aa,bl,i64,reduceIte,reduceCtorEq,Nat.reduceEqDiff,Nat.reduceLT,Nat.reduceLeDiff,Nat.reduceBEq,Nat.reduceAdd,fillA,splice,Nat.reduceMul,amY,op_eqP,hv,Int.lt_irrefl,ts,compsG,cntG]
theorem rcomps_f (h:CQ8 CT) (base:Nat) (H:Heap) (v:V) (G:List (List Int)) (hv:RdRows H v (rowsV G)) (hb:base≤H.length) (hn:G.length < 2 ^ 30) (hr:∀ r∈G,r.length < 2 ^ 39):
 ∃ v' H',callW CT (.fn k_f12 [] []) [v] base H=some (v',H')∧Ext H H'∧OwnN H.length H' v' ((compsG G).map iV):=by
 have hvl:=rows_lenV hv
 have hmk:=fun H=>make_n (H:=H) (zero:=[.s (.int .i64 0)]) (sz:=1) (bytes:=8) (k:=.i64) (k':=.i64) (n:=G.length) (by omega)
 simp only [flat_one] at hmk
 have hz:(fillZ G.length []).map iV=List.replicate G.length (.s (.int .i64 0)):=by rw [fillZ_nil,List.map_replicate];rfl
 have e1:∀ ob:Ob,(H ++ [ob]).length=H.length+1:=fun ob=>by simp
 obtain ⟨tv,B,p1,p2⟩:=rcomps_l0 h.r base (A:=H ++ [.cells 0 (List.replicate G.length (.s (.int .i64 0)))]) (v:=v) (outv:=.sl H.length 0 0 G.length 1) (G:=G) (by rw [e1];omega) (hv.ext (Ext.app _ _)) hn hr
 have hAB:=p2.ext0
 have hle:=hAB.le
 rw [e1] at hle p1
 have hg0:getC B H.length 0=some (List.replicate G.length (.s (.int .i64 0))):=getC_ext (getC_new _ _ _) hAB
 have hl2:=rcomps_l2 (CT:=CT) base (B:=B) (v:=v) (tv:=tv) (G:=G) (o:=H.length) hb (fun ob=>AccR.rows_set p2 (by rw [e1];omega) ob) hvl hn (by omega) ⟨_,hg0⟩
 have hBB:B.set H.length (.cells 0 ((fillZ G.length []).map iV))=B:=by rw [hz];exact set_same_ob (getC_ob' hg0)
 rw [hBB] at hl2
 refine ⟨.sl H.length 0 0 G.length 1,B.set H.length (.cells 0 ((compsG G).map iV)),callW_fn (c:=s_f12) h.comps (by simp [s_f12]) ?_,(((Ext.app _ _).trans hAB)).set (Nat.le_refl _) _,?_⟩
 ·simp only [nilS] at p1
  simp only [bl] at p1 hl2
  simp only [s_f12,a_f12,s_f12_l0_b,s_f12_l1_b,s_f12_l2_b,aa,bl,i64,reduceIte,reduceCtorEq,Nat.reduceEqDiff,Nat.reduceLT,Nat.reduceLeDiff,Nat.reduceBEq,Nat.reduceAdd,fillA,splice,Nat.reduceMul,amY,op_eqP,hvl,op_mkSl,hmk,e1,p1,hl2]
 ·have hll:=compsG_len G
  refine .inr ⟨H.length,0,(compsG G).map iV,by rw [List.length_map,hll],getC_set hg0 0,Nat.le_refl _,List.take_length,Nat.le_refl _⟩
end
end Go.Proofs.Ytchekhggdbcbbaa
set_option maxRecDepth 100000
namespace Go.Proofs.Ytchekhggdbcbbaa
open Go.AM
structure ArrS (N C:Heap) (c:List V):Prop where
 ext:Ext N C
 arr:getC C N.length 0=some c
 le:N.length+1≤C.length
theorem ArrS.trim {N C:Heap} {c:List V} (h:ArrS N C c) {L:Nat} (hL:N.length+1≤L) (hLC:L≤C.length) (fr:List V):ArrS N (Go.AM.trim L fr C) c:=
 ⟨h.ext.trim (by omega) fr,trim_get h.arr (by omega),Nat.le_trans hL (trim_le hLC)⟩
theorem ArrS.set {N C:Heap} {c:List V} (h:ArrS N C c) (c':List V):ArrS N (C.set N.length (.cells 0 c')) c':=
 ⟨h.ext.set (Nat.le_refl _) _,getC_set h.arr 0,by rw [List.length_set];exact h.le⟩
theorem ArrS.ext' {N C D:Heap} {c:List V} (h:ArrS N C c) (k:Ext C D):ArrS N D c:=⟨h.ext.trans k,getC_ext h.arr k,Nat.le_trans h.le k.le⟩
theorem cycG_any (G:List (List Int)) (i:Nat):cycG G i=((normG G).getD i []).any fun k=>leadsB G k i:=by
 rw [Bool.eq_iff_iff]
 unfold cycG
 rw [decide_eq_true_iff,List.any_eq_true]
section
variable {CT:Nat→Option CFun}
theorem rcyc_l0 (h:CR CT) (base:Nat) {N:Heap} {v nv:V} {G:List (List Int)} {i L:Nat} {X:List Bool} (hb:base≤N.length) (hv:RdRows N v (rowsV G)) (hnv:RdRows N nv (rowsV (normG G))) (hn:G.length < 2 ^ 30) (hr:∀ r∈G,r.length < 2 ^ 39) (hi:i < G.length) (hX:X.length=G.length) (hL:N.length+1≤L):
 ∀ C,L≤C.length→ArrS N C ((X.set i false).map bV)→
 ∃ C',itW (evC (callW CT) itW base s_f15_l0) [] L (frOf 47 [(0,v),(3,nv),(4,.sl N.length 0 0 G.length 1),(5,.s (.int .i64 i)),(6,.s (.int .i64 0))]) C=some (.ext 2,frOf 47 [(0,v),(3,nv),(4,.sl N.length 0 0 G.length 1),(5,.s (.int .i64 i)),(6,.s (.int .i64 ((normG G).getD i []).length)),(24,bl false)],C')∧ArrS N C' ((X.set i (cycG G i)).map bV)∧L≤C'.length:=by
 intro C hLC ha
 have hlN:=normG_len G
 have hgi:=some_getD (l:=normG G) (k:=i) (by omega) []
 obtain ⟨row,hrow⟩:∃ row,(normG G).getD i []=row:=⟨_,rfl⟩
 rw [hrow] at hgi
 have hrl:=normG_small hr _ (List.mem_of_getElem? hgi)
 obtain ⟨ra,rx,r1,q3,q4,r5⟩:=rows_ext hnv (rowsV_get hgi)
 obtain ⟨C1,e1,a1,l1⟩:=it_rel row.length (fun k (C:Heap)=>ArrS N C ((X.set i ((row.take k).any fun k=>leadsB G k i)).map bV)∧L≤C.length) (fun k C=>itW (evC (callW CT) itW base s_f15_l0) [] L (frOf 47 [(0,v),(3,nv),(4,.sl N.length 0 0 G.length 1),(5,.s (.int .i64 i)),(6,.s (.int .i64 k))]) C) (by
  rintro k C hk ⟨ha,hLC⟩
  obtain ⟨b,hbb⟩:∃ b,((row.take k).any fun k=>leadsB G k i)=b:=⟨_,rfl⟩
  rw [hbb] at ha
  have hxk:=some_getD hk (0:Int)
  have hsn:((row.take (k+1)).any fun k=>leadsB G k i)=(b || leadsB G (row.getD k 0) i):=by
   rw [List.take_add_one,hxk,List.any_append,hbb];simp
  have hlt':((k:Int) < (row.length:Int)):=by omega
  have hwk:=w64 (n:=k) (by omega)
  have hrlen:=iV_len (q3.ext ha.ext)
  have r2:=r5 _ ha.ext
  obtain ⟨c1,c2⟩:=at_sl (n:=G.length) ha.arr hi (w:=bV b) (by rw [List.getElem?_map,List.getElem?_set_self (by omega)];rfl)
  have hixi:(0≤(i:Int)∧(i:Int) < (G.length:Int)∧1=1):=by omega
  rw [hsn]
  cases b with
  | true=>
    have st:=storeV_at (v:=bV true) (base:=base) ha.arr hb rfl (off:=i) (by rw [List.length_map,List.length_set];omega)
    rw [← List.map_set,List.set_set] at st
    refine ⟨Go.AM.trim L (frOf 47 [(0,v),(3,nv),(4,.sl N.length 0 0 G.length 1),(5,.s (.int .i64 i)),(6,.s (.int .i64 (k+1:Nat)))]) (C.set N.length (.cells 0 ((X.set i true).map bV))),?_,?_,trim_le (by rw [List.length_set];exact hLC)⟩
    ·rw [itW_step]
     simp only [bV] at c2 st
     simp only [a_f15,s_f15_l0_b,s_f15_l1_b,aa,bl,i64,reduceIte,reduceCtorEq,Nat.reduceEqDiff,Nat.reduceLT,Nat.reduceLeDiff,Nat.reduceBEq,Nat.reduceAdd,fillA,splice,Nat.reduceMul,amY,op_eqP,r1,r2,hrlen,hlt',c1,c2,hixi,st,hwk]
    ·rw [Bool.true_or]
     exact (ha.set _).trim hL (by rw [List.length_set];exact hLC) _
  | false=>
    obtain ⟨x1,x2,x3⟩:=iV_at (q3.ext ha.ext) q4 hxk
    obtain ⟨D,p1,p2⟩:=rleads_fun h base C v G (row.getD k 0) (i:Int) (by have:=ha.le;omega) (hv.ext ha.ext) (by omega) hr
    have hD:=ha.ext' p2
    have st:=storeV_at (v:=bV (leadsB G (row.getD k 0) i)) (base:=base) hD.arr hb rfl (off:=i) (by rw [List.length_map,List.length_set];omega)
    rw [← List.map_set,List.set_set] at st
    have hDl:=p2.le
    refine ⟨Go.AM.trim L (frOf 47 [(0,v),(3,nv),(4,.sl N.length 0 0 G.length 1),(5,.s (.int .i64 i)),(6,.s (.int .i64 (k+1:Nat)))]) (D.set N.length (.cells 0 ((X.set i (leadsB G (row.getD k 0) i)).map bV))),?_,?_,trim_le (by rw [List.length_set];omega)⟩
    ·rw [itW_step]
     simp only [bV] at c2 st
     simp only [a_f15,s_f15_l0_b,s_f15_l1_b,aa,bl,i64,reduceIte,reduceCtorEq,Nat.reduceEqDiff,Nat.reduceLT,Nat.reduceLeDiff,Nat.reduceBEq,Nat.reduceAdd,fillA,splice,Nat.reduceMul,amY,op_eqP,r1,r2,hrlen,hlt',c1,c2,hixi,x2,x3,p1,st,hwk]
    ·rw [Bool.false_or]
     exact (hD.set _).trim hL (by rw [List.length_set];omega) _) 0 C (Nat.zero_le _) ⟨by simpa using ha,hLC⟩
 rw [hrow,cycG_any,hrow]
 rw [List.take_length] at a1
 have hrlen:=iV_len (q3.ext a1.ext)
 have r2:=r5 _ a1.ext
 refine ⟨_,e1.trans ?_,a1.trim hL l1 (frOf 47 [(0,v),(3,nv),(4,.sl N.length 0 0 G.length 1),(5,.s (.int .i64 i)),(6,.s (.int .i64 row.length)),(24,bl false)]),trim_le l1⟩
 rw [itW_step]
 simp only [bl,a_f15,s_f15_l0_b,s_f15_l1_b,aa,bl,i64,reduceIte,reduceCtorEq,Nat.reduceEqDiff,Nat.reduceLT,Nat.reduceLeDiff,Nat.reduceBEq,Nat.reduceAdd,fillA,splice,Nat.reduceMul,amY,op_eqP,r1,r2,hrlen,Int.lt_irrefl]
theorem rcyclic_f (h:CQ8 CT) (base:Nat) (H:Heap) (v:V) (G:List (List Int)) (hv:RdRows H v (rowsV G)) (hb:base≤H.length) (hn:G.length < 2 ^ 30) (hr:∀ r∈G,r.length < 2 ^ 39):
 ∃ v' H',callW CT (.fn k_f15 [] []) [v] base H=some (v',H')∧Ext H H'∧OwnN H.length H' v' ((cycL G).map bV):=by
 have hvl:=rows_lenV hv
 obtain ⟨nv,N,n1,n2,n3⟩:=rnorm_f h.r base H v G hv hb (by omega) hr
 have hle:=n2.le
 have hmk:=fun H=>make_n (H:=H) (zero:=[.s (.bool false)]) (sz:=1) (bytes:=1) (k:=.i64) (k':=.i64) (n:=G.length) (by omega)
 simp only [flat_one] at hmk
 have e1:∀ ob:Ob,(N ++ [ob]).length=N.length+1:=fun ob=>by simp
 obtain ⟨C,f1,f2,f3⟩:=it_rel G.length (fun i (C:Heap)=>ArrS N C ((((List.range i).map (cycG G)) ++ List.replicate (G.length - i) false).map bV)∧N.length+1≤C.length) (fun i C=>itW (evC (callW CT) itW base s_f15_l1) [] (N.length+1) (frOf 47 [(0,v),(3,nv),(4,.sl N.length 0 0 G.length 1),(5,.s (.int .i64 i))]) C) (by
  rintro i C hi ⟨ha,hLC⟩
  have hlt':((i:Int) < (G.length:Int)):=by omega
  have hwk:=w64 (n:=i) (by omega)
  obtain ⟨X,hX⟩:∃ X,((List.range i).map (cycG G)) ++ List.replicate (G.length - i) false=X:=⟨_,rfl⟩
  have hXl:X.length=G.length:=by rw [← hX];simp;omega
  have hset:∀ b,X.set i b=((List.range i).map (cycG G)) ++ b :: List.replicate (G.length - (i+1)) false:=fun b=>by
   rw [← hX,List.set_append_right _ _ (by simp)]
   obtain ⟨m,hm⟩:∃ m,G.length - i=m+1:=⟨G.length - i - 1,by omega⟩
   rw [hm,show G.length - (i+1)=m by omega]
   simp [List.replicate_succ]
  have hX0:X.set i false=X:=by
   rw [hset,← hX]
   obtain ⟨m,hm⟩:∃ m,G.length - i=m+1:=⟨G.length - i - 1,by omega⟩
   rw [hm,show G.length - (i+1)=m by omega,List.replicate_succ]
  rw [hX] at ha
  obtain ⟨C1,p1,p2,p3⟩:=rcyc_l0 h.r base (X:=X) (by omega) (hv.ext n2) n3 hn hr hi hXl (L:=C.length) hLC C (Nat.le_refl _) (by rw [hX0];exact ha)
  refine ⟨Go.AM.trim (N.length+1) (frOf 47 [(0,v),(3,nv),(4,.sl N.length 0 0 G.length 1),(5,.s (.int .i64 (i+1:Nat)))]) C1,?_,?_,trim_le (by omega)⟩
  ·rw [itW_step]
   simp only [bl,cast0] at p1
   simp only [a_f15,s_f15_l0_b,s_f15_l1_b,aa,bl,i64,reduceIte,reduceCtorEq,Nat.reduceEqDiff,Nat.reduceLT,Nat.reduceLeDiff,Nat.reduceBEq,Nat.reduceAdd,fillA,splice,Nat.reduceMul,amY,op_eqP,hvl,hlt',p1,hwk]
  ·have:=p2.trim (L:=N.length+1) (Nat.le_refl _) (by omega) (frOf 47 [(0,v),(3,nv),(4,.sl N.length 0 0 G.length 1),(5,.s (.int .i64 (i+1:Nat)))])
   rw [hset] at this
   have hrs:(List.range (i+1)).map (cycG G) ++ List.replicate (G.length - (i+1)) false=(List.range i).map (cycG G) ++ cycG G i :: List.replicate (G.length - (i+1)) false:=by rw [List.range_succ,List.map_append];simp
   rw [hrs]
   exact this) 0 (N ++ [.cells 0 (List.replicate G.length (.s (.bool false)))]) (Nat.zero_le _) ⟨⟨Ext.app _ _,by
  rw [getC_new]
  simp [bV],by rw [e1];exact Nat.le_refl _⟩,by rw [e1];exact Nat.le_refl _⟩
 simp only [Nat.sub_self,List.replicate_zero,List.append_nil] at f2
 have fin:itW (evC (callW CT) itW base s_f15_l1) [] (N.length+1) (frOf 47 [(0,v),(3,nv),(4,.sl N.length 0 0 G.length 1),(5,.s (.int .i64 G.length))]) C=some (.ext 0,frOf 47 [(0,v),(3,nv),(4,.sl N.length 0 0 G.length 1),(5,.s (.int .i64 G.length)),(15,bl false)],Go.AM.trim (N.length+1) (frOf 47 [(0,v),(3,nv),(4,.sl N.length 0 0 G.length 1),(5,.s (.int .i64 G.length)),(15,bl false)]) C):=by
  rw [itW_step]
  simp only [bl,a_f15,s_f15_l0_b,s_f15_l1_b,aa,bl,i64,reduceIte,reduceCtorEq,Nat.reduceEqDiff,Nat.reduceLT,Nat.reduceLeDiff,Nat.reduceBEq,Nat.reduceAdd,fillA,splice,Nat.reduceMul,amY,op_eqP,hvl,Int.lt_irrefl]
 have f4:=f2.trim (L:=N.length+1) (Nat.le_refl _) f3 (frOf 47 [(0,v),(3,nv),(4,.sl N.length 0 0 G.length 1),(5,.s (.int .i64 G.length)),(15,bl false)])
 have hf:=f1.trans fin
 refine ⟨.sl N.length 0 0 G.length 1,_,callW_fn (c:=s_f15) h.cyc (by simp [s_f15]) ?_,n2.trans f4.ext,.inr ⟨N.length,0,(cycL G).map bV,by simp [cycL],f4.arr,Nat.le_refl _,List.take_length,hle⟩⟩
 simp only [bl,cast0] at hf
 simp only [s_f15,a_f15,s_f15_l0_b,s_f15_l1_b,aa,bl,i64,reduceIte,reduceCtorEq,Nat.reduceEqDiff,Nat.reduceLT,Nat.reduceLeDiff,Nat.reduceBEq,Nat.reduceAdd,fillA,splice,Nat.reduceMul,amY,op_eqP,hvl,n1,op_mkSl,hmk,e1,hf,bl]
end
end Go.Proofs.Ytchekhggdbcbbaa
set_option maxRecDepth 100000
namespace Go.Proofs.Ytchekhggdbcbbaa
open Go.AM
structure RB (N C:Heap) (R:List (List Int)):Prop where
 ext:Ext N C
 arr:∃ vs,getC C N.length 0=some vs∧vs.length=R.length∧∀ (j:Nat) (r:List Int),R[j]?=some r→∃ x,vs[j]?=some x∧OwnN (N.length+1) C x (r.map iV)
 le:N.length+1≤C.length
theorem RB.trim {N C:Heap} {R:List (List Int)} (h:RB N C R) {L:Nat} (hL:N.length+1≤L) (hLC:L≤C.length) (fr:List V):RB N (Go.AM.trim L fr C) R:=by
 obtain ⟨vs,h1,h2,h3⟩:=h.arr
 refine ⟨h.ext.trim (by omega) fr,⟨vs,trim_get h1 (by omega),h2,fun j r hr=>?_⟩,Nat.le_trans hL (trim_le hLC)⟩
 obtain ⟨x,x1,x2⟩:=h3 j r hr
 exact ⟨x,x1,x2.trim h1 (by omega) (List.mem_of_getElem? x1) fr⟩
theorem RB.rows {N C:Heap} {R:List (List Int)} (h:RB N C R):RdRows C (.sl N.length 0 0 R.length 1) (rowsV R):=by
 obtain ⟨vs,h1,h2,h3⟩:=h.arr
 refine ⟨vs,by rw [← h2];exact getC_sl h1,trivial,by rw [rowsV_len,h2],fun i r hr=>?_⟩
 rw [rowsV,List.getElem?_map] at hr
 cases hq:R[i]? with
 | none=>rw [hq] at hr;cases hr
 | some q=>
   rw [hq] at hr
   cases hr
   obtain ⟨x,x1,x2⟩:=h3 i q hq
   exact ⟨x,x1,x2.rd,x2.wide⟩
theorem RB.put {N C D:Heap} {R:List (List Int)} (h:RB N C R) (k:Ext C D) {a:Nat} (ha:a < R.length) {w:V} {l:List Int} (hw:OwnN (N.length+1) D w (l.map iV)):∃ vs,getC D N.length 0=some vs∧vs.length=R.length∧RB N (D.set N.length (.cells 0 (vs.set a w))) (R.set a l):=by
 obtain ⟨vs,h1,h2,h3⟩:=h.arr
 have h1':=getC_ext h1 k
 refine ⟨vs,h1',h2,(h.ext.trans k).set (Nat.le_refl _) _,⟨vs.set a w,getC_set h1' 0,by rw [List.length_set,List.length_set,h2],fun j r hr=>?_⟩,by rw [List.length_set];exact Nat.le_trans h.le k.le⟩
 by_cases e:a=j
 ·subst e
  rw [List.getElem?_set_self ha] at hr
  cases hr
  exact ⟨w,List.getElem?_set_self (by omega),hw.set (by omega) _⟩
 ·rw [List.getElem?_set_ne e] at hr
  obtain ⟨x,x1,x2⟩:=h3 j r hr
  exact ⟨x,by rw [List.getElem?_set_ne e];exact x1,(x2.ext k).set (by omega) _⟩
theorem refR_snoc (q:Nat) (r:List Int) {b:Int} (hb:0≤b∧b < (q:Int)):refR q [] (r ++ [b])=addZ (refR q [] r) b:=by
 unfold refR
 rw [List.foldl_append]
 have h1:decide (b ≥ 0)=true:=by rw [decide_eq_true_iff];exact hb.1
 have h2:decide (b < (q:Int))=true:=by rw [decide_eq_true_iff];exact hb.2
 simp [h1,h2]
section
variable {CT:Nat→Option CFun}
theorem rfold_l0 (base:Nat) {H:Heap} {cv nv:V} {l:List Int} (hr:Rd H cv (l.map iV)) (hw:Wide1 cv) (hn:l.length < 2 ^ 60) (hl:∀ x∈l,0≤x∧x < 2 ^ 40):
 itW (evC (callW CT) itW base s_f18_l0) [] H.length (frOf 84 [(3,cv),(4,nv),(5,.s (.int .i64 0)),(6,.s (.int .i64 0))]) H=some (.ext 0,frOf 84 [(3,cv),(4,nv),(5,.s (.int .i64 (cntZ l))),(6,.s (.int .i64 l.length)),(17,bl false)],H):=by
 have e1:=iV_len hr
 have key:∀ i,i < l.length→itW (evC (callW CT) itW base s_f18_l0) [] H.length (frOf 84 [(3,cv),(4,nv),(5,.s (.int .i64 (cntZ (l.take i)))),(6,.s (.int .i64 i))]) H=itW (evC (callW CT) itW base s_f18_l0) [] H.length (frOf 84 [(3,cv),(4,nv),(5,.s (.int .i64 (cntZ (l.take (i+1))))),(6,.s (.int .i64 (i+1:Nat)))]) H:=by
  intro i hi
  have hlt':((i:Int) < (l.length:Int)):=by omega
  obtain ⟨a,a1,a2⟩:=iV_get hr hw hi
  have w:=w64 (n:=i) (by omega)
  have hx:=hl (l.getD i 0) (List.mem_of_getElem? (some_getD hi 0))
  have w2:IntKind.i64.wrap (l.getD i 0+1)=l.getD i 0+1:=by rw [IntKind.wrap_i64];omega
  have ht:cntZ (l.take (i+1))=(if cntZ (l.take i) < l.getD i 0+1 then l.getD i 0+1 else cntZ (l.take i)):=by
   rw [List.take_add_one,some_getD hi 0]
   simp [cntZ,List.foldl_append]
  rw [ht,itW_step]
  simp only [a_f18,s_f18_l0_b,s_f18_l1_b,s_f18_l2_b,aa,bl,i64,reduceIte,reduceCtorEq,Nat.reduceEqDiff,Nat.reduceLT,Nat.reduceLeDiff,Nat.reduceBEq,Nat.reduceAdd,fillA,splice,Nat.reduceMul,amY,op_eqP,e1,hlt',a1,a2,w,w2,trim_same rfl]
 have h2:=it_fun l.length (fun i=>itW (evC (callW CT) itW base s_f18_l0) [] H.length (frOf 84 [(3,cv),(4,nv),(5,.s (.int .i64 (cntZ (l.take i)))),(6,.s (.int .i64 i))]) H) key 0 (Nat.zero_le _)
 simp only [List.take_zero,show cntZ []=0 from rfl,cast0] at h2
 refine h2.trans ?_
 rw [itW_step,List.take_length]
 simp only [a_f18,s_f18_l0_b,s_f18_l1_b,s_f18_l2_b,aa,bl,i64,reduceIte,reduceCtorEq,Nat.reduceEqDiff,Nat.reduceLT,Nat.reduceLeDiff,Nat.reduceBEq,Nat.reduceAdd,fillA,splice,Nat.reduceMul,amY,op_eqP,e1,Int.lt_irrefl,trim_same rfl,bl]
theorem rfold_l1 (h:CR CT) (base:Nat) {N:Heap} {cv nv:V} {G:List (List Int)} {i q L:Nat} {c:List Int} {R0:List (List Int)} (hb:base≤N.length) (hc:Rd N cv (c.map iV)) (hcw:Wide1 cv) (hnv:RdRows N nv (rowsV (normG G))) (hn:G.length < 2 ^ 20) (hr:∀ r∈G,r.length < 2 ^ 20) (hi:i < G.length) (hcl:c.length=G.length) (hcb:∀ x∈c,0≤x∧x < (q:Int)) (hL:N.length+1≤L) (hR0:R0.length=q) (hRb:∀ r∈R0,r.length+((normG G).getD i []).length≤2 ^ 39):
 ∀ C,L≤C.length→RB N C (R0.map (refR q []))→
 ∃ C',itW (evC (callW CT) itW base s_f18_l1) [] L (frOf 84 [(3,cv),(4,nv),(7,.sl N.length 0 0 q 1),(8,.s (.int .i64 i)),(9,.s (.int .i64 0))]) C=some (.ext 4,frOf 84 [(3,cv),(4,nv),(7,.sl N.length 0 0 q 1),(8,.s (.int .i64 i)),(9,.s (.int .i64 ((normG G).getD i []).length)),(41,bl false)],C')∧RB N C' ((fRow c i ((normG G).getD i []) R0).map (refR q []))∧L≤C'.length:=by
 intro C hLC ha
 have hlN:=normG_len G
 have hgi:=some_getD (l:=normG G) (k:=i) (by omega) []
 obtain ⟨row,hrow⟩:∃ row,(normG G).getD i []=row:=⟨_,rfl⟩
 rw [hrow] at hgi hRb
 have hmem:=List.mem_of_getElem? hgi
 have hrl:=normG_small hr _ hmem
 obtain ⟨ra,rx,r1,q3,q4,r5⟩:=rows_ext hnv (rowsV_get hgi)
 have hci:=hcb _ (List.mem_of_getElem? (some_getD (show i < c.length by omega) (0:Int)))
 obtain ⟨ci,hcI⟩:=Int.eq_ofNat_of_zero_le hci.1
 have hciq:ci < q:=by omega
 obtain ⟨C1,e1,a1,l1⟩:=it_rel row.length (fun k (C:Heap)=>RB N C ((fRow c i (row.take k) R0).map (refR q []))∧L≤C.length) (fun k C=>itW (evC (callW CT) itW base s_f18_l1) [] L (frOf 84 [(3,cv),(4,nv),(7,.sl N.length 0 0 q 1),(8,.s (.int .i64 i)),(9,.s (.int .i64 k))]) C) (by
  rintro k C hk ⟨ha,hLC⟩
  have hxk:=some_getD hk (0:Int)
  have hx:=normG_in hmem (List.mem_of_getElem? hxk)
  obtain ⟨y,hy⟩:=Int.eq_ofNat_of_zero_le hx.1
  rw [hy] at hx hxk
  have hyn:y < c.length:=by omega
  have hcy:=hcb _ (List.mem_of_getElem? (some_getD hyn (0:Int)))
  have hlt':((k:Int) < (row.length:Int)):=by omega
  have hwk:=w64 (n:=k) (by omega)
  have hrlen:=iV_len (q3.ext ha.ext)
  have r2:=r5 _ ha.ext
  obtain ⟨x1,x2,x3⟩:=iV_at (q3.ext ha.ext) q4 hxk
  obtain ⟨b1,b2,b3⟩:=iV_get (hc.ext ha.ext) hcw (k:=i) (by omega)
  obtain ⟨d1,d2,d3⟩:=iV_get (hc.ext ha.ext) hcw (k:=y) hyn
  rw [hcI] at b3
  obtain ⟨R,hR⟩:∃ R,fRow c i (row.take k) R0=R:=⟨_,rfl⟩
  have hRl:R.length=q:=by rw [← hR,fRow_len,hR0]
  have hsn:fRow c i (row.take (k+1)) R0=fStep c i R y:=by
   rw [List.take_add_one,hxk,← hR]
   unfold fRow
   rw [List.foldl_append]
   rfl
  rw [hR] at ha
  rw [hsn]
  cases hne:(c.getD i 0 == c.getD y 0) with
  | true=>
    have hs:fStep c i R y=R:=by unfold fStep;rw [Int.toNat_natCast,hne];rfl
    have hcc:(((ci:Nat):Int) != c.getD y 0)=false:=by rw [← hcI,bne,hne];rfl
    refine ⟨Go.AM.trim L (frOf 84 [(3,cv),(4,nv),(7,.sl N.length 0 0 q 1),(8,.s (.int .i64 i)),(9,.s (.int .i64 (k+1:Nat)))]) C,?_,by rw [hs];exact ha.trim hL hLC _,trim_le hLC⟩
    rw [itW_step]
    simp only [a_f18,s_f18_l0_b,s_f18_l1_b,s_f18_l2_b,aa,bl,i64,reduceIte,reduceCtorEq,Nat.reduceEqDiff,Nat.reduceLT,Nat.reduceLeDiff,Nat.reduceBEq,Nat.reduceAdd,fillA,splice,Nat.reduceMul,amY,op_eqP,r1,r2,hrlen,hlt',x2,x3,b2,b3,d2,d3,hcc,hwk]
  | false=>
    have hs:fStep c i R y=R.set ci (R.getD ci [] ++ [c.getD y 0]):=by unfold fStep;rw [Int.toNat_natCast,hne,hcI];unfold bump;rw [Int.toNat_natCast];rfl
    have hcc:(((ci:Nat):Int) != c.getD y 0)=true:=by rw [← hcI,bne,hne];rfl
    have hgr:(R.map (refR q []))[ci]?=some (refR q [] (R.getD ci [])):=by rw [List.getElem?_map,some_getD (by omega) []];rfl
    have hRb2:(R.getD ci []).length≤2 ^ 39:=by
     have:=fRow_le c i (row.take k) R0 (2 ^ 39) (by rw [hcI,Int.toNat_natCast];omega) (fun r hr'=>by have:=hRb r hr';rw [List.length_take];omega) (R.getD ci []) (by rw [hR];exact List.mem_of_getElem? (some_getD (by omega) []))
     exact this
    have hrr:=refR_len q (R.getD ci []) []
    simp only [List.length_nil,Nat.zero_add] at hrr
    obtain ⟨vs0,v1,v2,v3⟩:=ha.arr
    obtain ⟨xo,z1,z2⟩:=v3 ci _ hgr
    obtain ⟨u1,u2⟩:=at_sl (n:=q) v1 hciq z1
    obtain ⟨w,D,p1,p2,p3⟩:=add_fun h.add h.has C.length C xo (refR q [] (R.getD ci [])) (c.getD y 0) z2.rd z2.wide (Nat.le_refl _) (by omega)
    have hwn:OwnN (N.length+1) D w ((addZ (refR q [] (R.getD ci [])) (c.getD y 0)).map iV):=by
     rcases p3 with ⟨e1,e2⟩ | e1
     ·rw [e1,e2];exact z2.ext p2
     ·exact e1.mono ha.le
    obtain ⟨vs,g1,g2,g3⟩:=ha.put p2 (a:=ci) (by rw [List.length_map];omega) hwn
    rw [List.length_map] at g2
    have st:=storeV_at (v:=w) (base:=base) g1 hb hwn.one (off:=ci) (by omega)
    have hDl:=p2.le
    have hixi:(0≤(ci:Int)∧(ci:Int) < (q:Int)∧1=1):=by omega
    have hms:(R.map (refR q [])).set ci (addZ (refR q [] (R.getD ci [])) (c.getD y 0))=(R.set ci (R.getD ci [] ++ [c.getD y 0])).map (refR q []):=by
     rw [List.map_set,refR_snoc q _ hcy]
    rw [hms] at g3
    refine ⟨Go.AM.trim L (frOf 84 [(3,cv),(4,nv),(7,.sl N.length 0 0 q 1),(8,.s (.int .i64 i)),(9,.s (.int .i64 (k+1:Nat)))]) (D.set N.length (.cells 0 (vs.set ci w))),?_,by rw [hs];exact g3.trim hL (by rw [List.length_set];omega) _,trim_le (by rw [List.length_set];omega)⟩
    rw [itW_step]
    simp only [a_f18,s_f18_l0_b,s_f18_l1_b,s_f18_l2_b,aa,bl,i64,reduceIte,reduceCtorEq,Nat.reduceEqDiff,Nat.reduceLT,Nat.reduceLeDiff,Nat.reduceBEq,Nat.reduceAdd,fillA,splice,Nat.reduceMul,amY,op_eqP,r1,r2,hrlen,hlt',x2,x3,b2,b3,d2,d3,hcc,hwk,u1,u2,hixi,p1,st]) 0 C (Nat.zero_le _) ⟨by simpa [fRow] using ha,hLC⟩
 rw [hrow]
 rw [List.take_length] at a1
 have hrlen:=iV_len (q3.ext a1.ext)
 have r2:=r5 _ a1.ext
 refine ⟨_,e1.trans ?_,a1.trim hL l1 (frOf 84 [(3,cv),(4,nv),(7,.sl N.length 0 0 q 1),(8,.s (.int .i64 i)),(9,.s (.int .i64 row.length)),(41,bl false)]),trim_le l1⟩
 rw [itW_step]
 simp only [bl,a_f18,s_f18_l0_b,s_f18_l1_b,s_f18_l2_b,aa,bl,i64,reduceIte,reduceCtorEq,Nat.reduceEqDiff,Nat.reduceLT,Nat.reduceLeDiff,Nat.reduceBEq,Nat.reduceAdd,fillA,splice,Nat.reduceMul,amY,op_eqP,r1,r2,hrlen,Int.lt_irrefl]
theorem fFrom_snoc (c:List Int) (r:List Int):∀ (N:List (List Int)) (j:Nat) (R:List (List Int)),fFrom c j (N ++ [r]) R=fRow c (j+N.length) r (fFrom c j N R):=by
 intro N
 induction N with
 | nil=>intro j R;rfl
 | cons x N ih=>intro j R;rw [List.cons_append,fFrom,ih,fFrom,List.length_cons,show j+1+N.length=j+(N.length+1) by omega]
theorem sumLen_take:∀ (N:List (List Int)) (i:Nat),sumLen (N.take i)≤sumLen N:=by
 intro N
 induction N with
 | nil=>intro i;simp
 | cons r N ih=>
   intro i
   cases i with
   | zero=>simp [sumLen]
   | succ i=>have:=ih i;simp only [List.take_succ_cons,sumLen];omega
theorem foldG_ref (G:List (List Int)):(rawG G).map (refR (cntG G) [])=foldG G:=by
 rw [foldG,normG_ref,refN,rawG_len]
theorem rfold_f (h:CQ8 CT) (base:Nat) (H:Heap) (v:V) (G:List (List Int)) (hv:RdRows H v (rowsV G)) (hb:base≤H.length) (hn:G.length < 2 ^ 18) (hr:∀ r∈G,r.length < 2 ^ 18):
 ∃ v' H',callW CT (.fn k_f18 [] []) [v] base H=some (v',H')∧Ext H H'∧RdRows H' v' (rowsV (foldG G)):=by
 have hr39:∀ r∈G,r.length < 2 ^ 39:=fun r h=>by have:=hr r h;omega
 have hr20:∀ r∈G,r.length < 2 ^ 20:=fun r h=>by have:=hr r h;omega
 obtain ⟨cv,A,p1,p2,p3⟩:=rcomps_f h base H v G hv hb (by omega) hr39
 have hle:=p2.le
 obtain ⟨nv,N,n1,n2,n3⟩:=rnorm_f h.r base A v G (hv.ext p2) (by omega) (by omega) hr39
 have hle2:=n2.le
 have hlc:=compsG_len G
 have hbd:=comps_bound G
 have hcl:=cntG_le G
 have hN:=normG_len G
 have hc:=p3.rd.ext n2
 have hl0:=rfold_l0 (CT:=CT) base (H:=N) (cv:=cv) (nv:=nv) hc p3.wide (by omega) (fun x hx=>by have:=hbd x hx;omega)
 rw [comps_cnt] at hl0
 have hmk:=fun H=>make_n (H:=H) (zero:=[nilS]) (sz:=1) (bytes:=24) (k:=.i64) (k':=.i64) (n:=cntG G) (by omega)
 simp only [flat_one] at hmk
 have e1:∀ ob:Ob,(N ++ [ob]).length=N.length+1:=fun ob=>by simp
 have hsl:=sumLen_le (b:=2 ^ 18) (normG G) (fun r hr'=>Nat.le_of_lt (normG_small hr r hr'))
 rw [hN] at hsl
 have hsl2:sumLen (normG G)≤2 ^ 36:=Nat.le_trans hsl (Nat.le_trans (Nat.mul_le_mul_right _ (Nat.le_of_lt hn)) (by decide))
 have hnl:=rows_lenV n3
 rw [hN] at hnl
 obtain ⟨C,f1,f2,f3⟩:=it_rel G.length (fun i (C:Heap)=>RB N C ((fFrom (compsG G) 0 ((normG G).take i) (List.replicate (cntG G) [])).map (refR (cntG G) []))∧N.length+1≤C.length) (fun i C=>itW (evC (callW CT) itW base s_f18_l2) [] (N.length+1) (frOf 84 [(3,cv),(4,nv),(7,.sl N.length 0 0 (cntG G) 1),(8,.s (.int .i64 i))]) C) (by
  rintro i C hi ⟨ha,hLC⟩
  have hlt':((i:Int) < (G.length:Int)):=by omega
  have hwk:=w64 (n:=i) (by omega)
  have hgi:=some_getD (l:=normG G) (k:=i) (by omega) []
  have hsn:fFrom (compsG G) 0 ((normG G).take (i+1)) (List.replicate (cntG G) [])=fRow (compsG G) i ((normG G).getD i []) (fFrom (compsG G) 0 ((normG G).take i) (List.replicate (cntG G) [])):=by
   rw [take_snoc hgi,fFrom_snoc,List.length_take,Nat.min_eq_left (by omega),Nat.zero_add]
  have hrl:=normG_small hr _ (List.mem_of_getElem? hgi)
  obtain ⟨C1,q1,q2,q3⟩:=rfold_l1 h.r base (q:=cntG G) (L:=C.length) (i:=i) (R0:=fFrom (compsG G) 0 ((normG G).take i) (List.replicate (cntG G) [])) (by omega) hc p3.wide n3 (by omega) hr20 hi hlc hbd hLC (by rw [fFrom_len,List.length_replicate]) (fun r hr'=>by
   have:=fFrom_le (compsG G) (cntG G) hbd ((normG G).take i) 0 (List.replicate (cntG G) []) (2 ^ 36) (by rw [List.length_take];omega) (by simp) (fun q hq=>by
    rw [(List.mem_replicate.1 hq).2]
    have:=sumLen_take (normG G) i
    simp only [List.length_nil]
    omega) r hr'
   omega) C (Nat.le_refl _) ha
  refine ⟨Go.AM.trim (N.length+1) (frOf 84 [(3,cv),(4,nv),(7,.sl N.length 0 0 (cntG G) 1),(8,.s (.int .i64 (i+1:Nat)))]) C1,?_,by rw [hsn];exact q2.trim (Nat.le_refl _) (by omega) _,trim_le (by omega)⟩
  rw [itW_step]
  simp only [bl,cast0] at q1
  simp only [a_f18,s_f18_l0_b,s_f18_l1_b,s_f18_l2_b,aa,bl,i64,reduceIte,reduceCtorEq,Nat.reduceEqDiff,Nat.reduceLT,Nat.reduceLeDiff,Nat.reduceBEq,Nat.reduceAdd,fillA,splice,Nat.reduceMul,amY,op_eqP,hnl,hlt',q1,hwk]) 0 (N ++ [.cells 0 (List.replicate (cntG G) nilS)]) (Nat.zero_le _) ⟨⟨Ext.app _ _,⟨_,getC_new _ _ _,by simp [fFrom],fun j r hr'=>⟨nilS,by
   have hj:j < cntG G:=by have:=(List.getElem?_eq_some_iff.1 hr').1;simpa [fFrom] using this
   simp [hj],by
   have hj:j < cntG G:=by have:=(List.getElem?_eq_some_iff.1 hr').1;simpa [fFrom] using this
   have:r=[]:=by simp [fFrom,hj,refR] at hr';first | exact hr' | exact hr'.symm
   rw [this]
   exact .inl ⟨rfl,.inl rfl⟩⟩⟩,by rw [e1];exact Nat.le_refl _⟩,by rw [e1];exact Nat.le_refl _⟩
 rw [← hN,List.take_length,show fFrom (compsG G) 0 (normG G) (List.replicate (cntG G) [])=rawG G from rfl,foldG_ref] at f2
 have fin:itW (evC (callW CT) itW base s_f18_l2) [] (N.length+1) (frOf 84 [(3,cv),(4,nv),(7,.sl N.length 0 0 (cntG G) 1),(8,.s (.int .i64 G.length))]) C=some (.ext 2,frOf 84 [(3,cv),(4,nv),(7,.sl N.length 0 0 (cntG G) 1),(8,.s (.int .i64 G.length)),(32,bl false)],Go.AM.trim (N.length+1) (frOf 84 [(3,cv),(4,nv),(7,.sl N.length 0 0 (cntG G) 1),(8,.s (.int .i64 G.length)),(32,bl false)]) C):=by
  rw [itW_step]
  simp only [bl,a_f18,s_f18_l0_b,s_f18_l1_b,s_f18_l2_b,aa,bl,i64,reduceIte,reduceCtorEq,Nat.reduceEqDiff,Nat.reduceLT,Nat.reduceLeDiff,Nat.reduceBEq,Nat.reduceAdd,fillA,splice,Nat.reduceMul,amY,op_eqP,hnl,Int.lt_irrefl]
 have f4:=f2.trim (L:=N.length+1) (Nat.le_refl _) f3 (frOf 84 [(3,cv),(4,nv),(7,.sl N.length 0 0 (cntG G) 1),(8,.s (.int .i64 G.length)),(32,bl false)])
 have hf:=f1.trans fin
 have hrows:=f4.rows
 rw [foldG_len] at hrows
 refine ⟨.sl N.length 0 0 (cntG G) 1,_,callW_fn (c:=s_f18) h.fold (by simp [s_f18]) ?_,(p2.trans n2).trans f4.ext,hrows⟩
 simp only [bl,cast0] at hf hl0
 simp only [nilS] at hmk hf
 simp only [s_f18,a_f18,s_f18_l0_b,s_f18_l1_b,s_f18_l2_b,aa,bl,i64,reduceIte,reduceCtorEq,Nat.reduceEqDiff,Nat.reduceLT,Nat.reduceLeDiff,Nat.reduceBEq,Nat.reduceAdd,fillA,splice,Nat.reduceMul,amY,op_eqP,p1,n1,hl0,op_mkSl,hmk,e1,hf,bl]
end
end Go.Proofs.Ytchekhggdbcbbaa
set_option maxRecDepth 100000
namespace Go.Proofs.Ytchekhggdbcbbaa
open Go.AM
theorem getD_set {R:List (List Int)} {a b:Nat} {l:List Int} (ha:a < R.length):(R.set a l).getD b []=if a=b then l else R.getD b []:=by
 rw [List.getD,List.getD,List.getElem?_set]
 by_cases e:a=b
 ·subst e;simp [ha]
 ·simp [e]
theorem fStep_mem {c:List Int} {i:Nat} {R:List (List Int)} {k:Int} (hi:0≤c.getD i 0∧c.getD i 0 < (R.length:Int)) (a:Nat) (x:Int):x∈(fStep c i R k).getD a []↔x∈R.getD a []∨(c.getD i 0=(a:Int)∧c.getD k.toNat 0=x∧c.getD i 0≠c.getD k.toNat 0):=by
 unfold fStep
 cases h:(c.getD i 0 == c.getD k.toNat 0) with
 | true=>
   have:=eq_of_beq h
   exact ⟨fun h1=>.inl h1,fun h1=>h1.elim id fun h2=>absurd this h2.2.2⟩
 | false=>
   have hne:c.getD i 0≠c.getD k.toNat 0:=fun e=>by rw [e,beq_self_eq_true] at h;cases h
   rw [cond_false]
   unfold bump
   rw [getD_set (by omega)]
   by_cases e:(c.getD i 0).toNat=a
   ·rw [if_pos e,e,List.mem_append,List.mem_singleton]
    have:c.getD i 0=(a:Int):=by omega
    exact ⟨fun h1=>h1.elim .inl fun h2=>.inr ⟨this,h2.symm,hne⟩,fun h1=>h1.elim .inl fun h2=>.inr h2.2.1.symm⟩
   ·rw [if_neg e]
    exact ⟨.inl,fun h1=>h1.elim id fun h2=>absurd (by omega) e⟩
theorem fRow_mem {c:List Int} {i:Nat} (a:Nat) (x:Int):∀ (r:List Int) (R:List (List Int)),0≤c.getD i 0∧c.getD i 0 < (R.length:Int)→(x∈(fRow c i r R).getD a []↔x∈R.getD a []∨∃ k∈r,c.getD i 0=(a:Int)∧c.getD k.toNat 0=x∧c.getD i 0≠c.getD k.toNat 0):=by
 intro r
 induction r with
 | nil=>intro R _;simp [fRow]
 | cons k r ih=>
   intro R hi
   show x∈(fRow c i r (fStep c i R k)).getD a []↔_
   rw [ih _ (by rw [fStep_len];exact hi),fStep_mem hi,or_assoc]
   refine or_congr_right ?_
   simp only [List.mem_cons,exists_eq_or_imp]
theorem fFrom_mem {c:List Int} (a:Nat) (x:Int):∀ (N:List (List Int)) (j:Nat) (R:List (List Int)),(∀ i,i < N.length→0≤c.getD (j+i) 0∧c.getD (j+i) 0 < (R.length:Int))→(x∈(fFrom c j N R).getD a []↔x∈R.getD a []∨∃ i,i < N.length∧∃ k∈N.getD i [],c.getD (j+i) 0=(a:Int)∧c.getD k.toNat 0=x∧c.getD (j+i) 0≠c.getD k.toNat 0):=by
 intro N
 induction N with
 | nil=>intro j R _;simp [fFrom]
 | cons r N ih=>
   intro j R hi
   rw [fFrom,ih _ _ (fun i h=>by rw [fRow_len];have:=hi (i+1) (by simp;omega);rwa [show j+(i+1)=j+1+i by omega] at this),fRow_mem (i:=j) a x r R (hi 0 (by simp)),or_assoc]
   refine or_congr_right ?_
   constructor
   ·rintro (⟨k,h1,h2⟩ | ⟨i,h1,k,h2,h3⟩)
    ·exact ⟨0,by simp,k,h1,h2⟩
    ·exact ⟨i+1,by simp;omega,k,h2,by rw [show j+(i+1)=j+1+i by omega];exact h3⟩
   ·rintro ⟨i,h1,k,h2,h3⟩
    cases i with
    | zero=>exact .inl ⟨k,h2,h3⟩
    | succ i=>
      rw [show j+(i+1)=j+1+i by omega] at h3
      exact .inr ⟨i,by simp at h1;omega,k,h2,h3⟩
theorem foldG_mem (G:List (List Int)) (a b:Nat):(b:Int)∈(foldG G).getD a []↔∃ i k:Nat,i < G.length∧k < G.length∧(k:Int)∈G.getD i []∧(compsG G).getD i 0=(a:Int)∧(compsG G).getD k 0=(b:Int)∧a≠b:=by
 have hl:=compsG_len G
 have hN:=normG_len G
 have hb:∀ i,i < G.length→0≤(compsG G).getD i 0∧(compsG G).getD i 0 < (cntG G:Int):=fun i hi=>(compsG_ok G).lt i hi
 unfold foldG
 rw [normG_get,rawG_len,rawG,fFrom_mem a b _ _ _ (fun i hi=>by rw [Nat.zero_add,List.length_replicate];exact hb i (by omega))]
 have hrep:¬ (b:Int)∈(List.replicate (cntG G) ([]:List Int)).getD a []:=by
  rw [List.getD,List.getElem?_replicate]
  split <;> simp
 constructor
 ·rintro ⟨h1 | ⟨i,h1,k,h2,h3,h4,h5⟩,_,_⟩
  ·exact absurd h1 hrep
  ·rw [Nat.zero_add] at h3 h5
   obtain ⟨g1,g2,g3⟩:=(normG_get G i k).1 h2
   obtain ⟨y,rfl⟩:=Int.eq_ofNat_of_zero_le g2
   rw [Int.toNat_natCast] at h4 h5
   exact ⟨i,y,by omega,by omega,g1,h3,h4,fun e=>h5 (by rw [h3,h4,e])⟩
 ·rintro ⟨i,k,h1,h2,h3,h4,h5,h6⟩
  have:=hb k h2
  refine ⟨.inr ⟨i,by omega,(k:Int),(normG_get G i k).2 ⟨h3,by omega,by omega⟩,by rw [Nat.zero_add];exact h4,by rw [Int.toNat_natCast];exact h5,?_⟩,by omega,by omega⟩
  rw [Nat.zero_add,Int.toNat_natCast,h4,h5]
  omega
theorem comps_same (G:List (List Int)) {i k:Nat} (hi:i < G.length) (hk:k < G.length):(compsG G).getD i 0=(compsG G).getD k 0↔Tar.Rc (gN G) i k∧Tar.Rc (gN G) k i:=by
 rw [(compsG_ok G).same i k hi hk,eqG_rc G hi hk]
theorem cntN_le:∀ {n:Nat} {f g:Nat→Nat},(∀ v,v < n→f v≤g v)→Tar.cntN n f≤Tar.cntN n g:=by
 intro n
 induction n with
 | zero=>intro f g _;exact Nat.le_refl _
 | succ n ih=>intro f g h;rw [Tar.cntN_succ,Tar.cntN_succ];have:=ih fun v hv=>h v (by omega);have:=h n (by omega);omega
theorem cntN_lt:∀ {n k:Nat} {f g:Nat→Nat},(∀ v,v < n→f v≤g v)→k < n→f k < g k→Tar.cntN n f < Tar.cntN n g:=by
 intro n
 induction n with
 | zero=>intro k f g _ hk;omega
 | succ n ih=>
   intro k f g h hk hlt
   rw [Tar.cntN_succ,Tar.cntN_succ]
   by_cases e:k=n
   ·subst e
    have:=cntN_le (n:=k) fun v hv=>h v (by omega)
    omega
   ·have:=ih (fun v hv=>h v (by omega)) (show k < n by omega) hlt
    have:=h n (by omega)
    omega
noncomputable def upN (G:List (List Int)) (i:Nat):Nat:=Tar.cntN G.length fun j=>if leadsB G j i=true then 1 else 0
theorem upN_lt {G:List (List Int)} {i k:Nat} (hi:i < G.length) (hk:k < G.length) (h1:Tar.Rc (gN G) i k) (h2:¬ Tar.Rc (gN G) k i):upN G i < upN G k:=by
 unfold upN
 refine cntN_lt (fun v hv=>?_) hk ?_
 ·by_cases hl:leadsB G v i=true
  ·have:leadsB G v k=true:=by
    rw [leadsB_nat,← rc_rch G v hv] at hl ⊢
    exact hl.trans h1
   rw [if_pos hl,if_pos this]
   exact Nat.le_refl _
  ·rw [if_neg hl];exact Nat.zero_le _
 ·have a1:¬ leadsB G k i=true:=by rw [leadsB_nat,← rc_rch G k hk];exact h2
  have a2:leadsB G k k=true:=by rw [leadsB_nat,← rc_rch G k hk];exact .refl _
  rw [if_neg a1,if_pos a2]
  exact Nat.zero_lt_one
theorem fold_free (G:List (List Int)) (S:List Int):∀ (m i:Nat),upN G i≤m→i < G.length→(compsG G).getD i 0 ∉ S→∃ c,c < (foldG G).length∧freeF (foldG G) S c=true:=by
 intro m
 have hfl:=foldG_len G
 have step:∀ i,i < G.length→(compsG G).getD i 0 ∉ S→(∃ c,c < (foldG G).length∧freeF (foldG G) S c=true)∨∃ j,j < G.length∧(compsG G).getD j 0 ∉ S∧upN G j < upN G i:=by
  intro i hi hs
  have hb:=(compsG_ok G).lt i hi
  obtain ⟨c,hc⟩:=Int.eq_ofNat_of_zero_le hb.1
  rw [hc] at hs hb
  cases hf:freeF (foldG G) S c with
  | true=>exact .inl ⟨c,by omega,hf⟩
  | false=>
    right
    have hnot:¬ ((c:Int) ∉ S∧∀ i,i < (foldG G).length→(c:Int)∈(foldG G).getD i []→(i:Int)∈S):=fun h=>by rw [(freeF_iff _ _ _).2 h] at hf;cases hf
    have:∃ p,p < (foldG G).length∧(c:Int)∈(foldG G).getD p []∧(p:Int) ∉ S:=by
     refine Classical.byContradiction fun hno=>hnot ⟨hs,fun p hp hm=>Classical.byContradiction fun hps=>hno ⟨p,hp,hm,hps⟩⟩
    obtain ⟨p,hp,hm,hps⟩:=this
    obtain ⟨x,y,h1,h2,h3,h4,h5,h6⟩:=(foldG_mem G p c).1 hm
    refine ⟨x,h1,by rw [h4];exact hps,?_⟩
    have hyi:(compsG G).getD y 0=(compsG G).getD i 0:=h5.trans hc.symm
    have hyi2:=(comps_same G h2 hi).1 hyi
    have hxy:Tar.Rc (gN G) x y:=.one ((gN_mem G x y).2 ⟨h3,h2⟩)
    refine upN_lt h1 hi (hxy.trans hyi2.1) fun hix=>?_
    have:=(comps_same G h1 hi).2 ⟨hxy.trans hyi2.1,hix⟩
    rw [h4,hc] at this
    have:(p:Int)=(c:Int):=this
    omega
 induction m with
 | zero=>
   intro i hm hi hs
   rcases step i hi hs with h | ⟨j,_,_,h⟩
   ·exact h
   ·omega
 | succ m ih=>
   intro i hm hi hs
   rcases step i hi hs with h | ⟨j,h1,h2,h⟩
   ·exact h
   ·exact ih j (by omega) h1 h2
theorem nodup_sub:∀ {l S:List Int},l.Nodup→(∀ x∈l,x∈S)→l.length≤S.length:=by
 intro l
 induction l with
 | nil=>intro S _ _;exact Nat.zero_le _
 | cons x l ih=>
   intro S hd h
   obtain ⟨h1,h2⟩:=List.nodup_cons.1 hd
   have hx:=h x List.mem_cons_self
   have:=ih (S:=S.erase x) h2 fun y hy=>(List.mem_erase_of_ne (fun (e:y=x)=>h1 (by rw [← e];exact hy))).2 (h y (List.mem_cons_of_mem _ hy))
   have hl:=List.length_erase_of_mem hx
   have hp:=List.length_pos_of_mem hx
   simp only [List.length_cons]
   omega
theorem fold_next (G:List (List Int)) {S:List Int} (hS:OrdOk (foldG G) S) (hl:S.length < (foldG G).length):∃ c,nxtF (foldG G) S=some c:=by
 have hfl:=foldG_len G
 cases hn:nxtF (foldG G) S with
 | some c=>exact ⟨c,rfl⟩
 | none=>
   exfalso
   have hno:=nxtF_none hn
   have hall:∀ c,c < cntG G→(c:Int)∈S:=by
    intro c hc
    refine Classical.byContradiction fun hs=>?_
    obtain ⟨i,hi,e⟩:=(compsG_ok G).onto c hc
    obtain ⟨d,hd,hf⟩:=fold_free G S _ i (Nat.le_refl _) hi (by rw [e];exact hs)
    rw [hno d hd] at hf
    cases hf
   have:=nodup_sub (l:=(List.range (cntG G)).map fun (c:Nat)=>(c:Int)) (S:=S) (by
    rw [List.Nodup,List.pairwise_map]
    exact List.nodup_range.imp fun {a b} hab e=>hab (by omega)) (fun x hx=>by
    obtain ⟨c,hc,rfl⟩:=List.mem_map.1 hx
    exact hall c (List.mem_range.1 hc))
   simp at this
   omega
structure SeqF (F:List (List Int)) (S:List Int):Prop where
 ok:OrdOk F S
 ahead:∀ (j b:Nat),S[j]?=some (b:Int)→∀ a,a < F.length→(b:Int)∈F.getD a []→(a:Int)∈S.take j
theorem seq_snoc {F:List (List Int)} {S:List Int} {c:Nat} (h:SeqF F S) (h1:c < F.length) (h2:freeF F S c=true):SeqF F (S ++ [(c:Int)]):=by
 refine ⟨ordOk_snoc h.ok h1 h2,fun j b hj a ha hm=>?_⟩
 rcases Nat.lt_trichotomy j S.length with hlt | rfl | hlt
 ·rw [List.getElem?_append_left hlt] at hj
  rw [List.take_append_of_le_length (by omega)]
  exact h.ahead j b hj a ha hm
 ·rw [List.getElem?_append_right (Nat.le_refl _)] at hj
  simp only [Nat.sub_self,List.getElem?_cons_zero,Option.some.injEq] at hj
  rw [← hj] at hm
  rw [List.take_append_of_le_length (Nat.le_refl _),List.take_length]
  exact ((freeF_iff F S c).1 h2).2 a ha hm
 ·rw [List.getElem?_eq_none (by simp;omega)] at hj
  cases hj
theorem ordN_len {F:List (List Int)} (hF:∀ S,OrdOk F S→S.length < F.length→∃ c,nxtF F S=some c):∀ (m:Nat) (S:List Int),SeqF F S→F.length≤S.length+m→(ordN F m S).length=F.length:=by
 intro m
 induction m with
 | zero=>intro S h hl;have:=ordOk_len h.ok;show S.length=_;omega
 | succ m ih=>
   intro S h hl
   rw [ordN]
   by_cases hS:S.length < F.length
   ·obtain ⟨c,hc⟩:=hF S h.ok hS
    obtain ⟨h1,h2,_⟩:=nxtF_some hc
    rw [hc]
    exact ih _ (seq_snoc h h1 h2) (by simp;omega)
   ·rw [ordOk_full h.ok (by omega)]
    have:=ordOk_len h.ok
    show S.length=_
    omega
theorem ordG_len (G:List (List Int)):(ordG (foldG G)).length=cntG G:=by
 rw [ordG,ordN_len (fun S h1 h2=>fold_next G h1 h2) _ _ ⟨ordOk_nil _,fun j b h=>by simp at h⟩ (by simp),foldG_len]
end Go.Proofs.Ytchekhggdbcbbaa
set_option maxRecDepth 100000
namespace Go.Proofs.Ytchekhggdbcbbaa
open Go.AM
section
variable {CT:Nat→Option CFun}
theorem rord_l0 (h:CR CT) (base:Nat) {C:Heap} {fv ov:V} {F:List (List Int)} {S:List Int} {c:Nat} (hf:RdRows C fv (rowsV F)) (hn:F.length < 2 ^ 20) (hr:∀ r∈F,r.length < 2 ^ 60) (ho:Rd C ov (S.map iV)) (how:Wide1 ov) (hS:S.length < 2 ^ 60):
 itW (evC (callW CT) itW base s_f20_l0) [] C.length (frOf 51 [(3,fv),(4,ov),(5,.s (.int .i64 c)),(6,.s (.bool true)),(7,.s (.int .i64 0))]) C=some (.ext 4,frOf 51 [(3,fv),(4,ov),(5,.s (.int .i64 c)),(6,.s (.bool ((List.range F.length).all fun i=>!((F.getD i []).contains (c:Int)) || S.contains (i:Int)))),(7,.s (.int .i64 F.length)),(27,bl false)],C):=by
 have hfl:=rows_lenV hf
 have hst:∀ i,i < F.length→itW (evC (callW CT) itW base s_f20_l0) [] C.length (frOf 51 [(3,fv),(4,ov),(5,.s (.int .i64 c)),(6,.s (.bool ((List.range i).all fun i=>!((F.getD i []).contains (c:Int)) || S.contains (i:Int)))),(7,.s (.int .i64 i))]) C=itW (evC (callW CT) itW base s_f20_l0) [] C.length (frOf 51 [(3,fv),(4,ov),(5,.s (.int .i64 c)),(6,.s (.bool ((List.range (i+1)).all fun i=>!((F.getD i []).contains (c:Int)) || S.contains (i:Int)))),(7,.s (.int .i64 (i+1:Nat)))]) C:=by
  intro i hi
  have hlt':((i:Int) < (F.length:Int)):=by omega
  have hwk:=w64 (n:=i) (by omega)
  have hgi:=some_getD hi ([]:List Int)
  obtain ⟨ra,rx,r1,r2,r3,r4⟩:=rows_at hf hgi
  have h1:=has_fun h.has base C rx (F.getD i []) (c:Int) r3 r4 (by have:=hr _ (List.mem_of_getElem? hgi);omega)
  have h2:=has_fun h.has base C ov S (i:Int) ho how (by omega)
  rw [List.range_succ,List.all_append]
  simp only [List.all_cons,List.all_nil,Bool.and_true]
  obtain ⟨b,hb⟩:∃ b,((List.range i).all fun i=>!((F.getD i []).contains (c:Int)) || S.contains (i:Int))=b:=⟨_,rfl⟩
  obtain ⟨x,hx⟩:∃ x,(F.getD i []).contains (c:Int)=x:=⟨_,rfl⟩
  obtain ⟨y,hy⟩:∃ y,S.contains (i:Int)=y:=⟨_,rfl⟩
  rw [hx] at h1
  rw [hy] at h2
  rw [hb,hx,hy,itW_step]
  cases b with
  | false=>simp only [a_f20,s_f20_l0_b,s_f20_l1_b,s_f20_l2_b,aa,bl,i64,reduceIte,reduceCtorEq,Nat.reduceEqDiff,Nat.reduceLT,Nat.reduceLeDiff,Nat.reduceBEq,Nat.reduceAdd,fillA,splice,Nat.reduceMul,amY,op_eqP,hfl,hlt',hwk,trim_same rfl,Bool.false_and]
  | true=>
    cases x with
    | false=>simp only [a_f20,s_f20_l0_b,s_f20_l1_b,s_f20_l2_b,aa,bl,i64,reduceIte,reduceCtorEq,Nat.reduceEqDiff,Nat.reduceLT,Nat.reduceLeDiff,Nat.reduceBEq,Nat.reduceAdd,fillA,splice,Nat.reduceMul,amY,op_eqP,hfl,hlt',r1,r2,h1,hwk,trim_same rfl,Bool.true_and,Bool.not_false,Bool.true_or]
    | true=>simp only [a_f20,s_f20_l0_b,s_f20_l1_b,s_f20_l2_b,aa,bl,i64,reduceIte,reduceCtorEq,Nat.reduceEqDiff,Nat.reduceLT,Nat.reduceLeDiff,Nat.reduceBEq,Nat.reduceAdd,fillA,splice,Nat.reduceMul,amY,op_eqP,hfl,hlt',r1,r2,h1,h2,hwk,trim_same rfl,Bool.true_and,Bool.not_true,Bool.false_or]
 have h2:=it_fun F.length (fun i=>itW (evC (callW CT) itW base s_f20_l0) [] C.length (frOf 51 [(3,fv),(4,ov),(5,.s (.int .i64 c)),(6,.s (.bool ((List.range i).all fun i=>!((F.getD i []).contains (c:Int)) || S.contains (i:Int)))),(7,.s (.int .i64 i))]) C) hst 0 (Nat.zero_le _)
 simp only [cast0,List.range_zero,List.all_nil] at h2
 refine h2.trans ?_
 rw [itW_step]
 simp only [bl,a_f20,s_f20_l0_b,s_f20_l1_b,s_f20_l2_b,aa,bl,i64,reduceIte,reduceCtorEq,Nat.reduceEqDiff,Nat.reduceLT,Nat.reduceLeDiff,Nat.reduceBEq,Nat.reduceAdd,fillA,splice,Nat.reduceMul,amY,op_eqP,hfl,Int.lt_irrefl,trim_same rfl]
theorem rord_l1 (h:CR CT) (base:Nat) {A C:Heap} {fv ov:V} {F:List (List Int)} {S:List Int} {c:Nat} (hb:base≤A.length) (hf:RdRows C fv (rowsV F)) (hn:F.length < 2 ^ 20) (hr:∀ r∈F,r.length < 2 ^ 60) (ho:OwnN A.length C ov (S.map iV)) (hAC:Ext A C) (hS:S.length < 2 ^ 20) (hc:nxtF F S=some c):
 ∃ ov' C',itW (evC (callW CT) itW base s_f20_l1) [] C.length (frOf 51 [(3,fv),(4,ov),(5,.s (.int .i64 0))]) C=some (.ext 2,frOf 51 [(3,fv),(4,ov')],C')∧OwnN A.length C' ov' ((S ++ [(c:Int)]).map iV)∧Ext A C':=by
 have hfl:=rows_lenV hf
 obtain ⟨hcl,hcf,hcm⟩:=nxtF_some hc
 have step:∀ k,k < F.length→freeF F S k=false→itW (evC (callW CT) itW base s_f20_l1) [] C.length (frOf 51 [(3,fv),(4,ov),(5,.s (.int .i64 k))]) C=itW (evC (callW CT) itW base s_f20_l1) [] C.length (frOf 51 [(3,fv),(4,ov),(5,.s (.int .i64 (k+1:Nat)))]) C:=by
  intro k hk hfk
  have hlt':((k:Int) < (F.length:Int)):=by omega
  have hwk:=w64 (n:=k) (by omega)
  have h1:=has_fun h.has base C ov S (k:Int) ho.rd ho.wide (by omega)
  have hl0:=rord_l0 h base (c:=k) hf hn hr ho.rd ho.wide (by omega)
  unfold freeF at hfk
  cases hx:S.contains (k:Int) with
  | true=>
    rw [hx] at h1
    rw [itW_step]
    simp only [a_f20,s_f20_l0_b,s_f20_l1_b,s_f20_l2_b,aa,bl,i64,reduceIte,reduceCtorEq,Nat.reduceEqDiff,Nat.reduceLT,Nat.reduceLeDiff,Nat.reduceBEq,Nat.reduceAdd,fillA,splice,Nat.reduceMul,amY,op_eqP,hfl,hlt',h1,hwk,trim_same rfl]
  | false=>
    rw [hx] at h1 hfk
    rw [Bool.not_false,Bool.true_and] at hfk
    rw [hfk] at hl0
    rw [itW_step]
    simp only [bl] at hl0
    simp only [a_f20,s_f20_l0_b,s_f20_l1_b,s_f20_l2_b,aa,bl,i64,reduceIte,reduceCtorEq,Nat.reduceEqDiff,Nat.reduceLT,Nat.reduceLeDiff,Nat.reduceBEq,Nat.reduceAdd,fillA,splice,Nat.reduceMul,amY,op_eqP,hfl,hlt',h1,hl0,hwk,trim_same rfl]
 rcases it_find F.length (freeF F S) (fun k=>itW (evC (callW CT) itW base s_f20_l1) [] C.length (frOf 51 [(3,fv),(4,ov),(5,.s (.int .i64 k))]) C) step with ⟨h1,h2⟩ | ⟨k,hk,h1,h2,h3⟩
 ·rw [h1 c hcl] at hcf;cases hcf
 ·obtain rfl:k=c:=by
   rcases Nat.lt_trichotomy k c with hlt | rfl | hlt
   ·rw [hcm k hlt] at h1;cases h1
   ·rfl
   ·rw [h2 c hlt] at hcf;cases hcf
  have hlt':((k:Int) < (F.length:Int)):=by omega
  have hle:=hAC.le
  obtain ⟨ov2,C2,ap,o2,l2,k2⟩:=ho.append (base:=base) (bytes:=8) (x:=iV (k:Int)) hb rfl hle (by rw [List.length_map];omega)
  have hh:=has_fun h.has base C ov S (k:Int) ho.rd ho.wide (by omega)
  have hl0:=rord_l0 h base (c:=k) hf hn hr ho.rd ho.wide (by omega)
  have hcf':=hcf
  unfold freeF at hcf'
  rw [Bool.and_eq_true,Bool.not_eq_true'] at hcf'
  rw [hcf'.1] at hh
  rw [hcf'.2] at hl0
  refine ⟨ov2,Go.AM.trim C.length (frOf 51 [(3,fv),(4,ov2)]) C2,h3.trans ?_,?_,?_⟩
  ·rw [itW_step]
   simp only [bl,iV] at hl0 ap
   simp only [bl,a_f20,s_f20_l0_b,s_f20_l1_b,s_f20_l2_b,aa,bl,i64,reduceIte,reduceCtorEq,Nat.reduceEqDiff,Nat.reduceLT,Nat.reduceLeDiff,Nat.reduceBEq,Nat.reduceAdd,fillA,splice,Nat.reduceMul,amY,op_eqP,hfl,hlt',hh,hl0,ap]
  ·have:=o2.trim_fr (L:=C.length) (fr:=frOf 51 [(3,fv),(4,ov2)]) (frOf_mem (s:=4) (by omega) rfl)
   rw [List.map_append]
   exact this
  ·exact (Ext.of_get (by omega) fun id hid=>by rw [k2 id hid];exact hAC.get hid).trim hle _
theorem rord_l2 (h:CR CT) (base:Nat) {A:Heap} {fv:V} {F:List (List Int)} (hb:base≤A.length) (hf:RdRows A fv (rowsV F)) (hn:F.length < 2 ^ 19) (hr:∀ r∈F,r.length < 2 ^ 60) (hF:∀ S,OrdOk F S→S.length < F.length→∃ c,nxtF F S=some c):
 ∀ (m:Nat) (C:Heap) (S:List Int) (ov:V),F.length≤S.length+m→SeqF F S→OwnN A.length C ov (S.map iV)→Ext A C→
 ∃ ov' C',itW (evC (callW CT) itW base s_f20_l2) [5,18] A.length (frOf 51 [(3,fv),(4,ov)]) C=some (.ext 0,frOf 51 [(3,fv),(4,ov'),(14,bl false)],C')∧OwnN A.length C' ov' ((ordN F m S).map iV)∧Ext A C':=by
 have hfl:=rows_lenV hf
 have stop:∀ (C:Heap) (S:List Int) (ov:V),S.length=F.length→OwnN A.length C ov (S.map iV)→Ext A C→∃ ov' C',itW (evC (callW CT) itW base s_f20_l2) [5,18] A.length (frOf 51 [(3,fv),(4,ov)]) C=some (.ext 0,frOf 51 [(3,fv),(4,ov'),(14,bl false)],C')∧OwnN A.length C' ov' (S.map iV)∧Ext A C':=by
  intro C S ov hl ho hA
  have hol:=iV_len ho.rd
  rw [hl] at hol
  refine ⟨ov,Go.AM.trim A.length (frOf 51 [(3,fv),(4,ov),(14,bl false)]) C,?_,ho.trim_fr (frOf_mem (s:=4) (by omega) rfl),hA.trim (Nat.le_refl _) _⟩
  rw [itW_step]
  simp only [bl,a_f20,s_f20_l0_b,s_f20_l1_b,s_f20_l2_b,aa,bl,i64,reduceIte,reduceCtorEq,Nat.reduceEqDiff,Nat.reduceLT,Nat.reduceLeDiff,Nat.reduceBEq,Nat.reduceAdd,fillA,splice,Nat.reduceMul,amY,op_eqP,hfl,hol,Int.lt_irrefl]
 intro m
 induction m with
 | zero=>
   intro C S ov hm hs ho hA
   have:=ordOk_len hs.ok
   exact stop C S ov (by omega) ho hA
 | succ m ih=>
   intro C S ov hm hs ho hA
   have hSl:=ordOk_len hs.ok
   by_cases hlt:S.length < F.length
   ·obtain ⟨c,hc⟩:=hF S hs.ok hlt
    obtain ⟨c1,c2,_⟩:=nxtF_some hc
    have hol:=iV_len ho.rd
    have hlt':((S.length:Int) < (F.length:Int)):=by omega
    obtain ⟨ov1,C1,p1,p2,p3⟩:=rord_l1 h base (A:=A) (C:=C) (fv:=fv) hb (hf.ext hA) (by omega) hr ho hA (by omega) hc
    obtain ⟨ov',C',q1,q2,q3⟩:=ih (Go.AM.trim A.length (frOf 51 [(3,fv),(4,ov1)]) C1) (S ++ [(c:Int)]) ov1 (by simp;omega) (seq_snoc hs c1 c2) (p2.trim_fr (frOf_mem (s:=4) (by omega) rfl)) (p3.trim (Nat.le_refl _) _)
    have hord:ordN F (m+1) S=ordN F m (S ++ [(c:Int)]):=by rw [ordN,hc]
    refine ⟨ov',C',?_,by rw [hord];exact q2,q3⟩
    rw [itW_step]
    simp only [bl] at q1
    simp only [bl,a_f20,s_f20_l0_b,s_f20_l1_b,s_f20_l2_b,aa,bl,i64,reduceIte,reduceCtorEq,Nat.reduceEqDiff,Nat.reduceLT,Nat.reduceLeDiff,Nat.reduceBEq,Nat.reduceAdd,fillA,splice,Nat.reduceMul,amY,op_eqP,hfl,hol,hlt',p1]
    exact q1
   ·have hord:ordN F (m+1) S=S:=by rw [ordN,ordOk_full hs.ok (by omega)]
    rw [hord]
    exact stop C S ov (by omega) ho hA
theorem rorder_f (h:CQ8 CT) (base:Nat) (H:Heap) (v:V) (G:List (List Int)) (hv:RdRows H v (rowsV G)) (hb:base≤H.length) (hn:G.length < 2 ^ 18) (hr:∀ r∈G,r.length < 2 ^ 18):
 ∃ v' H',callW CT (.fn k_f20 [] []) [v] base H=some (v',H')∧Ext H H'∧OwnN H.length H' v' ((ordG (foldG G)).map iV):=by
 obtain ⟨fv,A,p1,p2,p3⟩:=rfold_f h base H v G hv hb hn hr
 have hle:=p2.le
 have hcl:=cntG_le G
 have hfl:=foldG_len G
 have hrow:=foldG_row G
 obtain ⟨ov,C,q1,q2,q3⟩:=rord_l2 h.r base (A:=A) (fv:=fv) (by omega) p3 (by omega) (fun r hr'=>by have:=(hrow r hr').2;omega) (fun S h1 h2=>fold_next G h1 h2) (foldG G).length A [] nilS (by simp) ⟨ordOk_nil _,fun j b h=>by simp at h⟩ (.inl ⟨rfl,.inl rfl⟩) (Ext.refl A)
 refine ⟨ov,C,callW_fn (c:=s_f20) h.order (by simp [s_f20]) ?_,p2.trans q3,q2.mono hle⟩
 simp only [nilS,bl] at q1
 simp only [s_f20,a_f20,s_f20_l0_b,s_f20_l1_b,s_f20_l2_b,aa,bl,i64,reduceIte,reduceCtorEq,Nat.reduceEqDiff,Nat.reduceLT,Nat.reduceLeDiff,Nat.reduceBEq,Nat.reduceAdd,fillA,splice,Nat.reduceMul,amY,op_eqP,p1,q1]
end
end Go.Proofs.Ytchekhggdbcbbaa
set_option maxRecDepth 100000
namespace Go.Proofs.Ytchekhggdbcbbaa
open Go.AM
abbrev k_f3:Nat:=3
def s_f3_r0_k:List Nat:=[1,2,3,4,5,6,7,8,9,10,11,12,13,14,15,16,17,18,19,20,21,22,23,24,25,26,27,28,29,30,31,32,33,34]
theorem s_f3_r0_kT:killV s_f3_r0_k (startV 35 [] 1)=[]:=by kernel_rfl
theorem s_f3_r0_kA0:s_f3_r0_k.contains 0=false:=by kernel_rfl
def s_f3_r0:List AOper:=[
 ⟨some 2,(.move (.c (.s (.bool false)))),none⟩]
def s_f3_r0_tale:=hT s_f3_r0 s_f3_r0_k [] 3 [] [] [.cc (.s (.bool false))] (by kernel_rfl) (by kernel_rfl)
def s_f3_r1t1:List AOper:=[⟨some 4,(.call (.c (.fn 8 [] [])) [(.t 3)]),none⟩]
def s_f3_r1p0:List AOper:=[⟨some 3,(.move (.t 0)),none⟩]
def s_f3_r1:List AOper:=s_f3_r1p0 ++ s_f3_r1t1
def s_f3_r1p0_tale:=hT s_f3_r1p0 [] [3] 4 [] [(3,(.t 0))] [.tt 0] (by kernel_rfl) (by kernel_rfl)
def s_f3_r1_x:=hS s_f3_r1 s_f3_r1p0 s_f3_r1t1 [] [3] [3] rfl (by kernel_rfl)
def s_f3_r1t1_x:=hX s_f3_r1t1 [3] [⟨some 4,(.call (.c (.fn 8 [] [])) [(.t 3)]),none⟩] rfl
def s_f3_r2t1:List AOper:=[⟨some 2,(.move (.t 5)),none⟩]
def s_f3_r2p0:List AOper:=[⟨some 5,(.call (.c (.fn 9 [] [])) []),none⟩]
def s_f3_r2:List AOper:=s_f3_r2p0 ++ s_f3_r2t1
def s_f3_r2_x:=hO s_f3_r2 s_f3_r2p0 s_f3_r2t1 [0,4] [0,4,5] [⟨some 5,(.call (.c (.fn 9 [] [])) []),none⟩] rfl rfl (by kernel_rfl)
def s_f3_r2t1_tale:=hT s_f3_r2t1 [0,4,5] [2] 3 [] [(2,(.t 5))] [.tt 5] (by kernel_rfl) (by kernel_rfl)
def s_f3_r2t1_x:=hL s_f3_r2t1 [0,4,5] [2]
def s_f3_r3t25:List AOper:=[⟨some 34,(.pick (.t 32) (.t 33) (.c (.s (.bool false)))),none⟩,⟨some 2,(.move (.t 34)),none⟩]
def s_f3_r3p24:List AOper:=[⟨some 33,(.call (.c (.fn 9 [] [])) []),some (32,true)⟩]
def s_f3_r3t24:List AOper:=s_f3_r3p24 ++ s_f3_r3t25
def s_f3_r3p23:List AOper:=[⟨some 31,(.pick (.t 25) (.t 30) (.c (.s (.bool false)))),none⟩,⟨some 32,(.move (.t 31)),none⟩]
def s_f3_r3t23:List AOper:=s_f3_r3p23 ++ s_f3_r3t24
def s_f3_r3p22:List AOper:=[⟨some 30,(.call (.c (.fn 10 [] [])) [(.t 27),(.t 29)]),some (25,true)⟩]
def s_f3_r3t22:List AOper:=s_f3_r3p22 ++ s_f3_r3t23
def s_f3_r3p21:List AOper:=[⟨some 29,(.call (.c (.fn 20 [] [])) [(.t 28)]),some (25,true)⟩]
def s_f3_r3t21:List AOper:=s_f3_r3p21 ++ s_f3_r3t22
def s_f3_r3p20:List AOper:=[⟨some 28,(.move (.t 0)),some (25,true)⟩]
def s_f3_r3t20:List AOper:=s_f3_r3p20 ++ s_f3_r3t21
def s_f3_r3p19:List AOper:=[⟨some 27,(.call (.c (.fn 19 [] [])) [(.t 26)]),some (25,true)⟩]
def s_f3_r3t19:List AOper:=s_f3_r3p19 ++ s_f3_r3t20
def s_f3_r3p18:List AOper:=[⟨some 26,(.move (.t 0)),some (25,true)⟩]
def s_f3_r3t18:List AOper:=s_f3_r3p18 ++ s_f3_r3t19
def s_f3_r3p17:List AOper:=[⟨some 24,(.pick (.t 18) (.t 23) (.c (.s (.bool false)))),none⟩,⟨some 25,(.move (.t 24)),none⟩]
def s_f3_r3t17:List AOper:=s_f3_r3p17 ++ s_f3_r3t18
def s_f3_r3p16:List AOper:=[⟨some 23,(.call (.c (.fn 16 [] [])) [(.t 20),(.t 22)]),some (18,true)⟩]
def s_f3_r3t16:List AOper:=s_f3_r3p16 ++ s_f3_r3t17
def s_f3_r3p15:List AOper:=[⟨some 22,(.call (.c (.fn 18 [] [])) [(.t 21)]),some (18,true)⟩]
def s_f3_r3t15:List AOper:=s_f3_r3p15 ++ s_f3_r3t16
def s_f3_r3p14:List AOper:=[⟨some 21,(.move (.t 0)),some (18,true)⟩]
def s_f3_r3t14:List AOper:=s_f3_r3p14 ++ s_f3_r3t15
def s_f3_r3p13:List AOper:=[⟨some 20,(.call (.c (.fn 17 [] [])) [(.t 19)]),some (18,true)⟩]
def s_f3_r3t13:List AOper:=s_f3_r3p13 ++ s_f3_r3t14
def s_f3_r3p12:List AOper:=[⟨some 19,(.move (.t 0)),some (18,true)⟩]
def s_f3_r3t12:List AOper:=s_f3_r3p12 ++ s_f3_r3t13
def s_f3_r3p11:List AOper:=[⟨some 17,(.pick (.t 11) (.t 16) (.c (.s (.bool false)))),none⟩,⟨some 18,(.move (.t 17)),none⟩]
def s_f3_r3t11:List AOper:=s_f3_r3p11 ++ s_f3_r3t12
def s_f3_r3p10:List AOper:=[⟨some 16,(.call (.c (.fn 13 [] [])) [(.t 13),(.t 15)]),some (11,true)⟩]
def s_f3_r3t10:List AOper:=s_f3_r3p10 ++ s_f3_r3t11
def s_f3_r3p9:List AOper:=[⟨some 15,(.call (.c (.fn 15 [] [])) [(.t 14)]),some (11,true)⟩]
def s_f3_r3t9:List AOper:=s_f3_r3p9 ++ s_f3_r3t10
def s_f3_r3p8:List AOper:=[⟨some 14,(.move (.t 0)),some (11,true)⟩]
def s_f3_r3t8:List AOper:=s_f3_r3p8 ++ s_f3_r3t9
def s_f3_r3p7:List AOper:=[⟨some 13,(.call (.c (.fn 14 [] [])) [(.t 12)]),some (11,true)⟩]
def s_f3_r3t7:List AOper:=s_f3_r3p7 ++ s_f3_r3t8
def s_f3_r3p6:List AOper:=[⟨some 12,(.move (.t 0)),some (11,true)⟩]
def s_f3_r3t6:List AOper:=s_f3_r3p6 ++ s_f3_r3t7
def s_f3_r3p5:List AOper:=[⟨some 11,(.move (.t 10)),none⟩]
def s_f3_r3t5:List AOper:=s_f3_r3p5 ++ s_f3_r3t6
def s_f3_r3p4:List AOper:=[⟨some 10,(.call (.c (.fn 10 [] [])) [(.t 7),(.t 9)]),none⟩]
def s_f3_r3t4:List AOper:=s_f3_r3p4 ++ s_f3_r3t5
def s_f3_r3p3:List AOper:=[⟨some 9,(.call (.c (.fn 12 [] [])) [(.t 8)]),none⟩]
def s_f3_r3t3:List AOper:=s_f3_r3p3 ++ s_f3_r3t4
def s_f3_r3p2:List AOper:=[⟨some 8,(.move (.t 0)),none⟩]
def s_f3_r3t2:List AOper:=s_f3_r3p2 ++ s_f3_r3t3
def s_f3_r3p1:List AOper:=[⟨some 7,(.call (.c (.fn 11 [] [])) [(.t 6)]),none⟩]
def s_f3_r3t1:List AOper:=s_f3_r3p1 ++ s_f3_r3t2
def s_f3_r3p0:List AOper:=[⟨some 6,(.move (.t 0)),none⟩]
def s_f3_r3:List AOper:=s_f3_r3p0 ++ s_f3_r3t1
def s_f3_r3p0_tale:=hT s_f3_r3p0 [4] [6] 7 [] [(6,(.t 0))] [.tt 0] (by kernel_rfl) (by kernel_rfl)
def s_f3_r3_x:=hS s_f3_r3 s_f3_r3p0 s_f3_r3t1 [4] [6] [0,4,6,7,8,9,10,11,12,13,14,15,16,17,18,19,20,21,22,23,24,25,26,27,28,29,30,31,32,33,34] rfl (by kernel_rfl)
def s_f3_r3t1_x:=hO s_f3_r3t1 s_f3_r3p1 s_f3_r3t2 [6] [0,4,6,7,8,9,10,11,12,13,14,15,16,17,18,19,20,21,22,23,24,25,26,27,28,29,30,31,32,33,34] [⟨some 7,(.call (.c (.fn 11 [] [])) [(.t 6)]),none⟩] rfl rfl (by kernel_rfl)
def s_f3_r3p2_tale:=hT s_f3_r3p2 [] [8] 9 [] [(8,(.t 0))] [.tt 0] (by kernel_rfl) (by kernel_rfl)
def s_f3_r3t2_x:=hS s_f3_r3t2 s_f3_r3p2 s_f3_r3t3 [] [8] [0,4,6,7,8,9,10,11,12,13,14,15,16,17,18,19,20,21,22,23,24,25,26,27,28,29,30,31,32,33,34] rfl (by kernel_rfl)
def s_f3_r3t3_x:=hO s_f3_r3t3 s_f3_r3p3 s_f3_r3t4 [8] [0,4,6,7,8,9,10,11,12,13,14,15,16,17,18,19,20,21,22,23,24,25,26,27,28,29,30,31,32,33,34] [⟨some 9,(.call (.c (.fn 12 [] [])) [(.t 8)]),none⟩] rfl rfl (by kernel_rfl)
def s_f3_r3t4_x:=hO s_f3_r3t4 s_f3_r3p4 s_f3_r3t5 [7,9] [0,4,6,7,8,9,10,11,12,13,14,15,16,17,18,19,20,21,22,23,24,25,26,27,28,29,30,31,32,33,34] [⟨some 10,(.call (.c (.fn 10 [] [])) [(.t 7),(.t 9)]),none⟩] rfl rfl (by kernel_rfl)
def s_f3_r3p5_tale:=hT s_f3_r3p5 [10] [11] 12 [] [(11,(.t 10))] [.tt 10] (by kernel_rfl) (by kernel_rfl)
def s_f3_r3t5_x:=hS s_f3_r3t5 s_f3_r3p5 s_f3_r3t6 [10] [11] [0,4,6,7,8,9,10,11,12,13,14,15,16,17,18,19,20,21,22,23,24,25,26,27,28,29,30,31,32,33,34] rfl (by kernel_rfl)
def s_f3_r3t6_x:=hO s_f3_r3t6 s_f3_r3p6 s_f3_r3t7 [] [0,4,6,7,8,9,10,11,12,13,14,15,16,17,18,19,20,21,22,23,24,25,26,27,28,29,30,31,32,33,34] [⟨some 12,(.move (.t 0)),some (11,true)⟩] rfl rfl (by kernel_rfl)
def s_f3_r3t7_x:=hO s_f3_r3t7 s_f3_r3p7 s_f3_r3t8 [12] [0,4,6,7,8,9,10,11,12,13,14,15,16,17,18,19,20,21,22,23,24,25,26,27,28,29,30,31,32,33,34] [⟨some 13,(.call (.c (.fn 14 [] [])) [(.t 12)]),some (11,true)⟩] rfl rfl (by kernel_rfl)
def s_f3_r3t8_x:=hO s_f3_r3t8 s_f3_r3p8 s_f3_r3t9 [] [0,4,6,7,8,9,10,11,12,13,14,15,16,17,18,19,20,21,22,23,24,25,26,27,28,29,30,31,32,33,34] [⟨some 14,(.move (.t 0)),some (11,true)⟩] rfl rfl (by kernel_rfl)
def s_f3_r3t9_x:=hO s_f3_r3t9 s_f3_r3p9 s_f3_r3t10 [14] [0,4,6,7,8,9,10,11,12,13,14,15,16,17,18,19,20,21,22,23,24,25,26,27,28,29,30,31,32,33,34] [⟨some 15,(.call (.c (.fn 15 [] [])) [(.t 14)]),some (11,true)⟩] rfl rfl (by kernel_rfl)
def s_f3_r3t10_x:=hO s_f3_r3t10 s_f3_r3p10 s_f3_r3t11 [13,15] [0,4,6,7,8,9,10,11,12,13,14,15,16,17,18,19,20,21,22,23,24,25,26,27,28,29,30,31,32,33,34] [⟨some 16,(.call (.c (.fn 13 [] [])) [(.t 13),(.t 15)]),some (11,true)⟩] rfl rfl (by kernel_rfl)
def s_f3_r3p11_tale:=hT s_f3_r3p11 [11,16,17] [18] 19 [] [(18,(.pick (.t 11) (.t 16) (.c (.s (.bool false)))))] [.sub 0 [] [],.sub 0 [] []] (by kernel_rfl) (by kernel_rfl)
def s_f3_r3t11_x:=hS s_f3_r3t11 s_f3_r3p11 s_f3_r3t12 [11,16,17] [18] [0,4,6,7,8,9,10,11,12,13,14,15,16,17,18,19,20,21,22,23,24,25,26,27,28,29,30,31,32,33,34] rfl (by kernel_rfl)
def s_f3_r3t12_x:=hO s_f3_r3t12 s_f3_r3p12 s_f3_r3t13 [] [0,4,6,7,8,9,10,11,12,13,14,15,16,17,18,19,20,21,22,23,24,25,26,27,28,29,30,31,32,33,34] [⟨some 19,(.move (.t 0)),some (18,true)⟩] rfl rfl (by kernel_rfl)
def s_f3_r3t13_x:=hO s_f3_r3t13 s_f3_r3p13 s_f3_r3t14 [19] [0,4,6,7,8,9,10,11,12,13,14,15,16,17,18,19,20,21,22,23,24,25,26,27,28,29,30,31,32,33,34] [⟨some 20,(.call (.c (.fn 17 [] [])) [(.t 19)]),some (18,true)⟩] rfl rfl (by kernel_rfl)
def s_f3_r3t14_x:=hO s_f3_r3t14 s_f3_r3p14 s_f3_r3t15 [] [0,4,6,7,8,9,10,11,12,13,14,15,16,17,18,19,20,21,22,23,24,25,26,27,28,29,30,31,32,33,34] [⟨some 21,(.move (.t 0)),some (18,true)⟩] rfl rfl (by kernel_rfl)
def s_f3_r3t15_x:=hO s_f3_r3t15 s_f3_r3p15 s_f3_r3t16 [21] [0,4,6,7,8,9,10,11,12,13,14,15,16,17,18,19,20,21,22,23,24,25,26,27,28,29,30,31,32,33,34] [⟨some 22,(.call (.c (.fn 18 [] [])) [(.t 21)]),some (18,true)⟩] rfl rfl (by kernel_rfl)
def s_f3_r3t16_x:=hO s_f3_r3t16 s_f3_r3p16 s_f3_r3t17 [20,22] [0,4,6,7,8,9,10,11,12,13,14,15,16,17,18,19,20,21,22,23,24,25,26,27,28,29,30,31,32,33,34] [⟨some 23,(.call (.c (.fn 16 [] [])) [(.t 20),(.t 22)]),some (18,true)⟩] rfl rfl (by kernel_rfl)
def s_f3_r3p17_tale:=hT s_f3_r3p17 [18,23,24] [25] 26 [] [(25,(.pick (.t 18) (.t 23) (.c (.s (.bool false)))))] [.sub 0 [] [],.sub 0 [] []] (by kernel_rfl) (by kernel_rfl)
def s_f3_r3t17_x:=hS s_f3_r3t17 s_f3_r3p17 s_f3_r3t18 [18,23,24] [25] [0,4,6,7,8,9,10,11,12,13,14,15,16,17,18,19,20,21,22,23,24,25,26,27,28,29,30,31,32,33,34] rfl (by kernel_rfl)
def s_f3_r3t18_x:=hO s_f3_r3t18 s_f3_r3p18 s_f3_r3t19 [] [0,4,6,7,8,9,10,11,12,13,14,15,16,17,18,19,20,21,22,23,24,25,26,27,28,29,30,31,32,33,34] [⟨some 26,(.move (.t 0)),some (25,true)⟩] rfl rfl (by kernel_rfl)
def s_f3_r3t19_x:=hO s_f3_r3t19 s_f3_r3p19 s_f3_r3t20 [26] [0,4,6,7,8,9,10,11,12,13,14,15,16,17,18,19,20,21,22,23,24,25,26,27,28,29,30,31,32,33,34] [⟨some 27,(.call (.c (.fn 19 [] [])) [(.t 26)]),some (25,true)⟩] rfl rfl (by kernel_rfl)
def s_f3_r3t20_x:=hO s_f3_r3t20 s_f3_r3p20 s_f3_r3t21 [0] [0,4,6,7,8,9,10,11,12,13,14,15,16,17,18,19,20,21,22,23,24,25,26,27,28,29,30,31,32,33,34] [⟨some 28,(.move (.t 0)),some (25,true)⟩] rfl rfl (by kernel_rfl)
def s_f3_r3t21_x:=hO s_f3_r3t21 s_f3_r3p21 s_f3_r3t22 [28] [0,4,6,7,8,9,10,11,12,13,14,15,16,17,18,19,20,21,22,23,24,25,26,27,28,29,30,31,32,33,34] [⟨some 29,(.call (.c (.fn 20 [] [])) [(.t 28)]),some (25,true)⟩] rfl rfl (by kernel_rfl)
def s_f3_r3t22_x:=hO s_f3_r3t22 s_f3_r3p22 s_f3_r3t23 [27,29] [0,4,6,7,8,9,10,11,12,13,14,15,16,17,18,19,20,21,22,23,24,25,26,27,28,29,30,31,32,33,34] [⟨some 30,(.call (.c (.fn 10 [] [])) [(.t 27),(.t 29)]),some (25,true)⟩] rfl rfl (by kernel_rfl)
def s_f3_r3p23_tale:=hT s_f3_r3p23 [25,30,31] [32] 33 [] [(32,(.pick (.t 25) (.t 30) (.c (.s (.bool false)))))] [.sub 0 [] [],.sub 0 [] []] (by kernel_rfl) (by kernel_rfl)
def s_f3_r3t23_x:=hS s_f3_r3t23 s_f3_r3p23 s_f3_r3t24 [25,30,31] [32] [0,4,6,7,8,9,10,11,12,13,14,15,16,17,18,19,20,21,22,23,24,25,26,27,28,29,30,31,32,33,34] rfl (by kernel_rfl)
def s_f3_r3t24_x:=hO s_f3_r3t24 s_f3_r3p24 s_f3_r3t25 [] [0,4,6,7,8,9,10,11,12,13,14,15,16,17,18,19,20,21,22,23,24,25,26,27,28,29,30,31,32,33,34] [⟨some 33,(.call (.c (.fn 9 [] [])) []),some (32,true)⟩] rfl rfl (by kernel_rfl)
def s_f3_r3t25_tale:=hT s_f3_r3t25 [0,4,6,7,8,9,10,11,12,13,14,15,16,17,18,19,20,21,22,23,24,25,26,27,28,29,30,31,32,33,34] [2] 35 [] [(2,(.pick (.t 32) (.t 33) (.c (.s (.bool false)))))] [.sub 0 [] [],.sub 0 [] []] (by kernel_rfl) (by kernel_rfl)
def s_f3_r3t25_x:=hL s_f3_r3t25 [0,4,6,7,8,9,10,11,12,13,14,15,16,17,18,19,20,21,22,23,24,25,26,27,28,29,30,31,32,33,34] [2]
def s_f3:ACFun:={ ntmps:=35,results:=[(.tmp 2)],body:=
 (.seq (.regionE s_f3_r0 s_f3_r0_k [])
 (.seq (.seq (.region s_f3_r1 [] [3])
 (.cond (.t 4)
 (.seq (.region s_f3_r2 [] [0,4,5])
 .ret)
 .skip))
 (.seq (.region s_f3_r3 [] [0,4,6,7,8,9,10,11,12,13,14,15,16,17,18,19,20,21,22,23,24,25,26,27,28,29,30,31,32,33,34])
 .ret))) }
def a_f3:=ai @s_f3_r0_tale (ai @s_f3_r0_kT (ai @s_f3_r0_kA0 (ai @s_f3_r1p0_tale (ai @s_f3_r1_x (ai @s_f3_r1t1_x (ai @s_f3_r2_x (ai @s_f3_r2t1_tale (ai @s_f3_r2t1_x (ai @s_f3_r3p0_tale (ai @s_f3_r3_x (ai @s_f3_r3t1_x (ai @s_f3_r3p2_tale (ai @s_f3_r3t2_x (ai @s_f3_r3t3_x (ai @s_f3_r3t4_x (ai @s_f3_r3p5_tale (ai @s_f3_r3t5_x (ai @s_f3_r3t6_x (ai @s_f3_r3t7_x (ai @s_f3_r3t8_x (ai @s_f3_r3t9_x (ai @s_f3_r3t10_x (ai @s_f3_r3p11_tale (ai @s_f3_r3t11_x (ai @s_f3_r3t12_x (ai @s_f3_r3t13_x (ai @s_f3_r3t14_x (ai @s_f3_r3t15_x (ai @s_f3_r3t16_x (ai @s_f3_r3p17_tale (ai @s_f3_r3t17_x (ai @s_f3_r3t18_x (ai @s_f3_r3t19_x (ai @s_f3_r3t20_x (ai @s_f3_r3t21_x (ai @s_f3_r3t22_x (ai @s_f3_r3p23_tale (ai @s_f3_r3t23_x (ai @s_f3_r3t24_x (ai @s_f3_r3t25_tale (@s_f3_r3t25_x)))))))))))))))))))))))))))))))))))))))))
theorem SA7_3:compK Try.prog PX0 3=some (false,s_f3.ntmps,s_f3.results,s_f3.body.bare):=by kernel_rfl
end Go.Proofs.Ytchekhggdbcbbaa
set_option maxRecDepth 100000
namespace Go.Proofs.Ytchekhggdbcbbaa
open Go.AM
def great8 (G:List (List Int)):Bool:=decide (G.length > 60) || G.any fun r=>decide (r.length > 60)
theorem great8_small {G:List (List Int)} (h:great8 G=false):G.length≤60∧∀ r∈G,r.length≤60:=by
 unfold great8 at h
 rw [Bool.or_eq_false_iff] at h
 refine ⟨by have:=of_decide_eq_false h.1;omega,fun r hr=>?_⟩
 have:=h.2
 rw [List.any_eq_false] at this
 have:=this r hr
 simp at this
 exact this
section
variable {CT:Nat→Option CFun}
theorem great8_fun (hT:CT k_f8=some (.code s_f8)) (base:Nat) (H:Heap) (v:V) (G:List (List Int)) (hv:RdRows H v (rowsV G)):
 callW CT (.fn k_f8 [] []) [v] base H=some (.s (.bool (great8 G)),H):=by
 have hvl:=rows_lenV hv
 refine callW_fn (c:=s_f8) hT (by simp [s_f8]) ?_
 by_cases hn:G.length > 60
 ·have h0:decide ((G.length:Int) > 60)=true:=by rw [decide_eq_true_iff];omega
  have h1:great8 G=true:=by unfold great8;rw [decide_eq_true hn,Bool.true_or]
  simp only [s_f8,a_f8,s_f8_l0_b,aa,bl,i64,reduceIte,reduceCtorEq,Nat.reduceEqDiff,Nat.reduceLT,Nat.reduceLeDiff,Nat.reduceBEq,Nat.reduceAdd,fillA,splice,Nat.reduceMul,amY,op_eqP,hvl,h0,h1]
 ·have h0:decide ((G.length:Int) > 60)=false:=by rw [decide_eq_false_iff_not];omega
  have step:∀ i,i < G.length→decide ((G.getD i []).length > 60)=false→itW (evC (callW CT) itW base s_f8_l0) [] H.length (frOf 19 [(0,v),(3,.s (.int .i64 i))]) H=itW (evC (callW CT) itW base s_f8_l0) [] H.length (frOf 19 [(0,v),(3,.s (.int .i64 (i+1:Nat)))]) H:=by
   intro i hi hs
   have hlt':((i:Int) < (G.length:Int)):=by omega
   have hwk:=w64 (n:=i) (by omega)
   obtain ⟨ra,rx,r1,r2,r3,r4⟩:=rows_at hv (some_getD hi [])
   have hl:=iV_len r3
   have hs':decide (((G.getD i []).length:Int) > 60)=false:=by have:=of_decide_eq_false hs;rw [decide_eq_false_iff_not];omega
   rw [itW_step]
   simp only [a_f8,s_f8_l0_b,aa,bl,i64,reduceIte,reduceCtorEq,Nat.reduceEqDiff,Nat.reduceLT,Nat.reduceLeDiff,Nat.reduceBEq,Nat.reduceAdd,fillA,splice,Nat.reduceMul,amY,op_eqP,hvl,hlt',r1,r2,hl,hs',hwk,trim_same rfl]
  rcases it_find G.length (fun i=>decide ((G.getD i []).length > 60)) (fun i=>itW (evC (callW CT) itW base s_f8_l0) [] H.length (frOf 19 [(0,v),(3,.s (.int .i64 i))]) H) step with ⟨h1,h2⟩ | ⟨i,hi,h1,_,h3⟩
  ·have hg:great8 G=false:=by
    unfold great8
    rw [decide_eq_false hn,Bool.false_or,List.any_eq_false]
    intro r hr
    obtain ⟨i,hi⟩:=List.mem_iff_getElem?.1 hr
    have:=h1 i (List.getElem?_eq_some_iff.1 hi).1
    rw [getD_some hi []] at this
    rw [this];simp
   have hend:itW (evC (callW CT) itW base s_f8_l0) [] H.length (frOf 19 [(0,v),(3,.s (.int .i64 G.length))]) H=some (.ext 0,frOf 19 [(0,v),(3,.s (.int .i64 G.length)),(10,bl false)],H):=by
    rw [itW_step]
    simp only [bl,a_f8,s_f8_l0_b,aa,bl,i64,reduceIte,reduceCtorEq,Nat.reduceEqDiff,Nat.reduceLT,Nat.reduceLeDiff,Nat.reduceBEq,Nat.reduceAdd,fillA,splice,Nat.reduceMul,amY,op_eqP,hvl,Int.lt_irrefl,trim_same rfl]
   have h4:=h2.trans hend
   simp only [bl,cast0] at h4
   simp only [s_f8,a_f8,s_f8_l0_b,aa,bl,i64,reduceIte,reduceCtorEq,Nat.reduceEqDiff,Nat.reduceLT,Nat.reduceLeDiff,Nat.reduceBEq,Nat.reduceAdd,fillA,splice,Nat.reduceMul,amY,op_eqP,hvl,h0,h4,hg]
  ·have hg:great8 G=true:=by
    unfold great8
    rw [Bool.or_eq_true,List.any_eq_true]
    exact .inr ⟨_,List.mem_of_getElem? (some_getD hi []),h1⟩
   have hlt':((i:Int) < (G.length:Int)):=by omega
   obtain ⟨ra,rx,r1,r2,r3,r4⟩:=rows_at hv (some_getD hi [])
   have hl:=iV_len r3
   have hs':decide (((G.getD i []).length:Int) > 60)=true:=by have:=of_decide_eq_true h1;rw [decide_eq_true_iff];omega
   have hend:itW (evC (callW CT) itW base s_f8_l0) [] H.length (frOf 19 [(0,v),(3,.s (.int .i64 i))]) H=some (.ret,frOf 19 [(2,bl true)],H):=by
    rw [itW_step]
    simp only [bl,a_f8,s_f8_l0_b,aa,bl,i64,reduceIte,reduceCtorEq,Nat.reduceEqDiff,Nat.reduceLT,Nat.reduceLeDiff,Nat.reduceBEq,Nat.reduceAdd,fillA,splice,Nat.reduceMul,amY,op_eqP,hvl,hlt',r1,r2,hl,hs']
   have h4:=h3.trans hend
   simp only [bl,cast0] at h4
   simp only [s_f8,a_f8,s_f8_l0_b,aa,bl,i64,reduceIte,reduceCtorEq,Nat.reduceEqDiff,Nat.reduceLT,Nat.reduceLeDiff,Nat.reduceBEq,Nat.reduceAdd,fillA,splice,Nat.reduceMul,amY,op_eqP,hvl,h0,h4,hg]
structure CL (CT:Nat→Option CFun):Prop where
 f:CF CT
 great:CT k_f8=some (.code s_f8)
 wakes:∀ base H,callW CT (.fn k_f9 [] []) [] base H=some (.s (.bool true),H)
 same1:CT k_f10=some (.code s_f10)
theorem tells_law (h:CL CT) (hq:CQ8 CT) (hB:CT k_f13=some (.code s_f13)) (hS:CT k_f16=some (.code s_f16)) (hL:CT k_f3=some (.code s_f3)) (base:Nat) (H:Heap) (hb:base≤H.length) (v:V) (G:List (List Int)) (hv:RdRows H v (rowsV G)):
 ∃ H',callW CT (.fn k_f3 [] []) [v] base H=some (.s (.bool true),H'):=by
 have hg:=great8_fun h.great base H v G hv
 cases hgr:great8 G with
 | true=>
   rw [hgr] at hg
   have hw:=h.wakes base H
   refine ⟨H,callW_fn (c:=s_f3) hL (by simp [s_f3]) ?_⟩
   simp only [s_f3,a_f3,aa,bl,i64,reduceIte,reduceCtorEq,Nat.reduceEqDiff,Nat.reduceLT,Nat.reduceLeDiff,Nat.reduceBEq,Nat.reduceAdd,fillA,splice,Nat.reduceMul,amY,op_eqP,hg,hw]
 | false=>
   rw [hgr] at hg
   obtain ⟨hn,hr⟩:=great8_small hgr
   have hr18:∀ r∈G,r.length < 2 ^ 18:=fun r h=>by have:=hr r h;omega
   have hr40:∀ r∈G,r.length < 2 ^ 40:=fun r h=>by have:=hr r h;omega
   have hr39:∀ r∈G,r.length < 2 ^ 39:=fun r h=>by have:=hr r h;omega
   have hlc:=compsG_len G
   have hcl:=cntG_le G
   obtain ⟨v1,H1,a1,a2,a3⟩:=comps_f h.f.o.y.c base H v G hv hb (by omega) hr40
   obtain ⟨v2,H2,b1,b2,b3⟩:=rcomps_f hq base H1 v G (hv.ext a2) (by have:=a2.le;omega) (by omega) hr39
   have s1:=same_fun h.same1 base H2 v1 v2 _ _ (a3.rd.ext b2) a3.wide b3.rd b3.wide (by omega)
   have e2:=a2.trans b2
   obtain ⟨v3,H3,c1,c2,c3⟩:=cyclic_f h.f.o.y base H2 v G (hv.ext e2) (by have:=e2.le;omega) (by omega) hr40
   have e3:=e2.trans c2
   obtain ⟨v4,H4,d1,d2,d3⟩:=rcyclic_f hq base H3 v G (hv.ext e3) (by have:=e3.le;omega) (by omega) hr39
   have s2:=bools_fun hB base H4 v3 v4 G.length (cycL G) (c3.rd.ext d2) c3.wide d3.rd d3.wide (by simp [cycL]) (by omega)
   have e4:=e3.trans d2
   obtain ⟨v5,H5,f1,f2,f3⟩:=fold_f h.f.o base H4 v G (hv.ext e4) (by have:=e4.le;omega) (by omega) hr18
   have e5:=e4.trans f2
   obtain ⟨v6,H6,g1,g2,g3⟩:=rfold_f hq base H5 v G (hv.ext e5) (by have:=e5.le;omega) (by omega) hr18
   have s3:=sameG_fun hS h.same1 base H6 v5 v6 _ _ (f3.rd.ext g2) g3 (by rw [foldG_len];omega) (fun r hr'=>by have:=(foldG_row G r hr').2;omega)
   have e6:=e5.trans g2
   obtain ⟨v7,H7,m1,m2,m3⟩:=order_f h.f base H6 v G (hv.ext e6) (by have:=e6.le;omega) (by omega) hr18
   have e7:=e6.trans m2
   obtain ⟨v8,H8,n1,n2,n3⟩:=rorder_f hq base H7 v G (hv.ext e7) (by have:=e7.le;omega) (by omega) hr18
   have s4:=same_fun h.same1 base H8 v7 v8 _ _ (m3.rd.ext n2) m3.wide n3.rd n3.wide (by rw [ordG_len];omega)
   have hw:=h.wakes base H8
   refine ⟨H8,callW_fn (c:=s_f3) hL (by simp [s_f3]) ?_⟩
   simp only [s_f3,a_f3,aa,bl,i64,reduceIte,reduceCtorEq,Nat.reduceEqDiff,Nat.reduceLT,Nat.reduceLeDiff,Nat.reduceBEq,Nat.reduceAdd,fillA,splice,Nat.reduceMul,amY,op_eqP,hg,hw,a1,b1,s1,c1,d1,s2,f1,g1,s3,m1,n1,s4]
   trace_state
end
end Go.Proofs.Ytchekhggdbcbbaa
