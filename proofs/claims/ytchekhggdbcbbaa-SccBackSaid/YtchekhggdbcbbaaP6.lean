/- Texts of the proof: SccS5, SccR2, SccR3, SccR4, SccP, SccR5, SccS7, SccL1, SccP2, SccL3. -/
import Derived.Test.YtchekhggdbcbbaaP0
import Derived.Test.YtchekhggdbcbbaaP1
import Derived.Test.YtchekhggdbcbbaaP2
import Derived.Test.YtchekhggdbcbbaaP3
import Derived.Test.YtchekhggdbcbbaaP4
import Derived.Test.YtchekhggdbcbbaaP5
set_option linter.all false
set_option maxRecDepth 100000
namespace Go.Proofs.Ytchekhggdbcbbaa
open Go.AM
abbrev k_f12:Nat:=12
def s_f12_r0_k:List Nat:=[1,2,3,4,5,6,7,8,9,10,11,12,13,14,15,16,17,18,19,20,21,22,23,24,25,26,27,28,29,30,31,32,33,34,35,36,37,38,39,40,41,42,43,44,45,46,47,48,49,50,51,52,53,54,55,56,57,58,59,60,61,62,63,64,65,66,67,68,69,70,71,72,73,74,75,76,77,78,79,80]
def s_f12_r0:List AOper:=[
 ⟨some 2,(.move (.c (.s (.slice none 0 0)))),none⟩]
def s_f12_r1t2:List AOper:=[⟨some 3,(.move (.t 11)),none⟩]
def s_f12_r1p1:List AOper:=[⟨some 11,(.mkSl [(.s (.int .i64 0))] 1 8 (.t 10) (.t 10)),none⟩]
def s_f12_r1t1:List AOper:=s_f12_r1p1 ++ s_f12_r1t2
def s_f12_r1p0:List AOper:=[⟨some 9,(.move (.t 0)),none⟩,⟨some 10,(.lenS .s (.t 9)),none⟩]
def s_f12_r1:List AOper:=s_f12_r1p0 ++ s_f12_r1t1
def s_f12_r2:List AOper:=[
 ⟨some 4,(.move (.c (.s (.slice none 0 0)))),none⟩]
def s_f12_r3:List AOper:=[
 ⟨some 5,(.move (.c (.s (.int .i64 0)))),none⟩]
def s_f12_r4:List AOper:=[
 ⟨some 12,(.move (.t 5)),none⟩,
 ⟨some 13,(.move (.t 0)),none⟩,
 ⟨some 14,(.lenS .s (.t 13)),none⟩,
 ⟨some 15,(.bin .lss (.t 12) (.t 14)),none⟩]
def s_f12_r5t5:List AOper:=[⟨some 4,(.move (.t 24)),none⟩]
def s_f12_r5p4:List AOper:=[⟨some 24,(.append 1 24 (.t 18) (.t 23)),none⟩]
def s_f12_r5t4:List AOper:=s_f12_r5p4 ++ s_f12_r5t5
def s_f12_r5p3:List AOper:=[⟨some 23,(.buildSl 1 1 [(.s (.slice none 0 0))] [(0,(.t 22))]),none⟩]
def s_f12_r5t3:List AOper:=s_f12_r5p3 ++ s_f12_r5t4
def s_f12_r5p2:List AOper:=[⟨some 22,(.call (.c (.fn 28 [] [])) [(.t 19),(.t 21)]),none⟩]
def s_f12_r5t2:List AOper:=s_f12_r5p2 ++ s_f12_r5t3
def s_f12_r5p1:List AOper:=[⟨some 21,(.buildSl 1 1 [(.s (.int .i64 0))] [(0,(.t 20))]),none⟩]
def s_f12_r5t1:List AOper:=s_f12_r5p1 ++ s_f12_r5t2
def s_f12_r5p0:List AOper:=[⟨some 18,(.move (.t 4)),none⟩,⟨some 19,(.move (.t 0)),none⟩,⟨some 20,(.move (.t 5)),none⟩]
def s_f12_r5:List AOper:=s_f12_r5p0 ++ s_f12_r5t1
def s_f12_r6:List AOper:=[
 ⟨some 16,(.move (.t 5)),none⟩,
 ⟨some 17,(.bin .add (.t 16) (.c (.s (.int .i64 1)))),none⟩,
 ⟨some 5,(.move (.t 17)),none⟩]
def s_f12_l0_b:ACode:=
 (.seq (.seq (.regionE s_f12_r4 [12,13,14] [15])
 (.cond (.t 15)
 .skip
 (.exit 0)))
 (.seq (.block 1
 (.region s_f12_r5 [] [15,18,19,20,21,22,23,24]))
 (.regionE s_f12_r6 [16,17] [5])))
def s_f12_l0:ACode:=s_f12_l0_b
def s_f12_r7:List AOper:=[
 ⟨some 6,(.move (.c (.s (.int .i64 0)))),none⟩]
def s_f12_r8:List AOper:=[
 ⟨some 7,(.move (.c (.s (.int .i64 0)))),none⟩]
def s_f12_r9:List AOper:=[
 ⟨some 25,(.move (.t 7)),none⟩,
 ⟨some 26,(.move (.t 0)),none⟩,
 ⟨some 27,(.lenS .s (.t 26)),none⟩,
 ⟨some 28,(.bin .lss (.t 25) (.t 27)),none⟩]
def s_f12_r10t1:List AOper:=[⟨none,(.store 1 (.t 33) (.c (.s (.int .i64 (-1))))),none⟩]
def s_f12_r10p0:List AOper:=[⟨some 31,(.move (.t 3)),none⟩,⟨some 32,(.move (.t 7)),none⟩,⟨some 33,(.indexAddr 1 (.t 31) (.t 32)),none⟩]
def s_f12_r10:List AOper:=s_f12_r10p0 ++ s_f12_r10t1
def s_f12_r11:List AOper:=[
 ⟨some 8,(.move (.c (.s (.int .i64 0)))),none⟩]
def s_f12_r12:List AOper:=[
 ⟨some 34,(.move (.t 8)),none⟩,
 ⟨some 35,(.move (.t 7)),none⟩,
 ⟨some 36,(.bin .lss (.t 34) (.t 35)),none⟩,
 ⟨some 37,(.move (.t 36)),none⟩,
 ⟨some 38,(.move (.t 3)),some (37,true)⟩,
 ⟨some 39,(.move (.t 7)),some (37,true)⟩,
 ⟨some 40,(.indexAddr 1 (.t 38) (.t 39)),some (37,true)⟩,
 ⟨some 41,(.load false 1 (.t 40)),some (37,true)⟩,
 ⟨some 42,(.bin .lss (.t 41) (.c (.s (.int .i64 0)))),some (37,true)⟩,
 ⟨some 43,(.pick (.t 37) (.t 42) (.c (.s (.bool false)))),none⟩]
def s_f12_r13:List AOper:=[
 ⟨some 46,(.move (.t 4)),none⟩,
 ⟨some 47,(.move (.t 7)),none⟩,
 ⟨some 48,(.indexAddr 1 (.t 46) (.t 47)),none⟩,
 ⟨some 49,(.load false 1 (.t 48)),none⟩,
 ⟨some 50,(.move (.t 8)),none⟩,
 ⟨some 51,(.indexAddr 1 (.t 49) (.t 50)),none⟩,
 ⟨some 52,(.load false 1 (.t 51)),none⟩,
 ⟨some 53,(.move (.t 52)),none⟩,
 ⟨some 54,(.move (.t 4)),some (53,true)⟩,
 ⟨some 55,(.move (.t 8)),some (53,true)⟩,
 ⟨some 56,(.indexAddr 1 (.t 54) (.t 55)),some (53,true)⟩,
 ⟨some 57,(.load false 1 (.t 56)),some (53,true)⟩,
 ⟨some 58,(.move (.t 7)),some (53,true)⟩,
 ⟨some 59,(.indexAddr 1 (.t 57) (.t 58)),some (53,true)⟩,
 ⟨some 60,(.load false 1 (.t 59)),some (53,true)⟩,
 ⟨some 61,(.pick (.t 53) (.t 60) (.c (.s (.bool false)))),none⟩]
def s_f12_r14t1:List AOper:=[⟨none,(.store 1 (.t 68) (.t 67)),none⟩]
def s_f12_r14p0:List AOper:=[⟨some 62,(.move (.t 3)),none⟩,⟨some 63,(.move (.t 7)),none⟩,⟨some 64,(.move (.t 3)),none⟩,⟨some 65,(.move (.t 8)),none⟩,⟨some 66,(.indexAddr 1 (.t 64) (.t 65)),none⟩,⟨some 67,(.load false 1 (.t 66)),none⟩,⟨some 68,(.indexAddr 1 (.t 62) (.t 63)),none⟩]
def s_f12_r14:List AOper:=s_f12_r14p0 ++ s_f12_r14t1
def s_f12_r15:List AOper:=[
 ⟨some 44,(.move (.t 8)),none⟩,
 ⟨some 45,(.bin .add (.t 44) (.c (.s (.int .i64 1)))),none⟩,
 ⟨some 8,(.move (.t 45)),none⟩]
def s_f12_l1_b:ACode:=
 (.seq (.seq (.regionE s_f12_r12 [34,35,36,37,38,39,40,41,42] [43])
 (.cond (.t 43)
 .skip
 (.exit 4)))
 (.seq (.block 5
 (.seq (.regionE s_f12_r13 [43,46,47,48,49,50,51,52,53,54,55,56,57,58,59,60] [61])
 (.cond (.t 61)
 (.region s_f12_r14 [] [61,62,63,64,65,66,67,68])
 .skip)))
 (.regionE s_f12_r15 [44,45,61] [8])))
def s_f12_l1:ACode:=s_f12_l1_b
def s_f12_r16:List AOper:=[
 ⟨some 69,(.move (.t 3)),none⟩,
 ⟨some 70,(.move (.t 7)),none⟩,
 ⟨some 71,(.indexAddr 1 (.t 69) (.t 70)),none⟩,
 ⟨some 72,(.load false 1 (.t 71)),none⟩,
 ⟨some 73,(.bin .lss (.t 72) (.c (.s (.int .i64 0)))),none⟩]
def s_f12_r17t1:List AOper:=[⟨none,(.store 1 (.t 77) (.t 76)),none⟩]
def s_f12_r17p0:List AOper:=[⟨some 74,(.move (.t 3)),none⟩,⟨some 75,(.move (.t 7)),none⟩,⟨some 76,(.move (.t 6)),none⟩,⟨some 77,(.indexAddr 1 (.t 74) (.t 75)),none⟩]
def s_f12_r17:List AOper:=s_f12_r17p0 ++ s_f12_r17t1
def s_f12_r18:List AOper:=[
 ⟨some 78,(.move (.t 6)),none⟩,
 ⟨some 79,(.bin .add (.t 78) (.c (.s (.int .i64 1)))),none⟩,
 ⟨some 6,(.move (.t 79)),none⟩]
def s_f12_r19:List AOper:=[
 ⟨some 29,(.move (.t 7)),none⟩,
 ⟨some 30,(.bin .add (.t 29) (.c (.s (.int .i64 1)))),none⟩,
 ⟨some 7,(.move (.t 30)),none⟩]
def s_f12_l2_b:ACode:=
 (.seq (.seq (.regionE s_f12_r9 [25,26,27] [28])
 (.cond (.t 28)
 .skip
 (.exit 2)))
 (.seq (.block 3
 (.seq (.region s_f12_r10 [] [28,31,32,33])
 (.seq (.seq (.regionE s_f12_r11 [] [8])
 (.block 4
 (.loop [] s_f12_l1)))
 (.seq (.regionE s_f12_r16 [8,43,69,70,71,72] [73])
 (.cond (.t 73)
 (.seq (.region s_f12_r17 [] [73,74,75,76,77])
 (.regionE s_f12_r18 [78,79] [6]))
 .skip)))))
 (.regionE s_f12_r19 [29,30,73] [7])))
def s_f12_l2:ACode:=s_f12_l2_b
def s_f12_r20:List AOper:=[
 ⟨some 80,(.move (.t 3)),none⟩,
 ⟨some 2,(.move (.t 80)),none⟩]
def s_f12:ACFun:={ ntmps:=81,results:=[(.tmp 2)],body:=
 (.seq (.regionE s_f12_r0 s_f12_r0_k [])
 (.seq (.region s_f12_r1 [] [9,10,11])
 (.seq (.regionE s_f12_r2 [] [4])
 (.seq (.seq (.regionE s_f12_r3 [] [5])
 (.block 0
 (.loop [] s_f12_l0)))
 (.seq (.regionE s_f12_r7 [5,15] [6])
 (.seq (.seq (.regionE s_f12_r8 [] [7])
 (.block 2
 (.loop [] s_f12_l2)))
 (.seq (.regionE s_f12_r20 [0,3,4,6,7,28,80] [2])
 .ret))))))) }
abbrev k_f15:Nat:=15
def s_f15_r0_k:List Nat:=[1,2,3,4,5,6,7,8,9,10,11,12,13,14,15,16,17,18,19,20,21,22,23,24,25,26,27,28,29,30,31,32,33,34,35,36,37,38,39,40,41,42,43,44,45,46]
def s_f15_r0:List AOper:=[
 ⟨some 2,(.move (.c (.s (.slice none 0 0)))),none⟩]
def s_f15_r1t2:List AOper:=[⟨some 3,(.move (.t 8)),none⟩]
def s_f15_r1p1:List AOper:=[⟨some 8,(.call (.c (.fn 31 [] [])) [(.t 7)]),none⟩]
def s_f15_r1t1:List AOper:=s_f15_r1p1 ++ s_f15_r1t2
def s_f15_r1p0:List AOper:=[⟨some 7,(.move (.t 0)),none⟩]
def s_f15_r1:List AOper:=s_f15_r1p0 ++ s_f15_r1t1
def s_f15_r2t2:List AOper:=[⟨some 4,(.move (.t 11)),none⟩]
def s_f15_r2p1:List AOper:=[⟨some 11,(.mkSl [(.s (.bool false))] 1 1 (.t 10) (.t 10)),none⟩]
def s_f15_r2t1:List AOper:=s_f15_r2p1 ++ s_f15_r2t2
def s_f15_r2p0:List AOper:=[⟨some 9,(.move (.t 0)),none⟩,⟨some 10,(.lenS .s (.t 9)),none⟩]
def s_f15_r2:List AOper:=s_f15_r2p0 ++ s_f15_r2t1
def s_f15_r3:List AOper:=[
 ⟨some 5,(.move (.c (.s (.int .i64 0)))),none⟩]
def s_f15_r4:List AOper:=[
 ⟨some 12,(.move (.t 5)),none⟩,
 ⟨some 13,(.move (.t 0)),none⟩,
 ⟨some 14,(.lenS .s (.t 13)),none⟩,
 ⟨some 15,(.bin .lss (.t 12) (.t 14)),none⟩]
def s_f15_r5:List AOper:=[
 ⟨some 6,(.move (.c (.s (.int .i64 0)))),none⟩]
def s_f15_r6:List AOper:=[
 ⟨some 18,(.move (.t 6)),none⟩,
 ⟨some 19,(.move (.t 3)),none⟩,
 ⟨some 20,(.move (.t 5)),none⟩,
 ⟨some 21,(.indexAddr 1 (.t 19) (.t 20)),none⟩,
 ⟨some 22,(.load false 1 (.t 21)),none⟩,
 ⟨some 23,(.lenS .s (.t 22)),none⟩,
 ⟨some 24,(.bin .lss (.t 18) (.t 23)),none⟩]
def s_f15_r7t12:List AOper:=[⟨none,(.store 1 (.t 45) (.t 44)),none⟩]
def s_f15_r7p11:List AOper:=[⟨some 44,(.pick (.t 33) (.c (.s (.bool true))) (.t 43)),none⟩,⟨some 45,(.indexAddr 1 (.t 27) (.t 28)),none⟩]
def s_f15_r7t11:List AOper:=s_f15_r7p11 ++ s_f15_r7t12
def s_f15_r7p10:List AOper:=[⟨some 43,(.call (.c (.fn 32 [] [])) [(.t 34),(.t 41),(.t 42)]),some (33,false)⟩]
def s_f15_r7t10:List AOper:=s_f15_r7p10 ++ s_f15_r7t11
def s_f15_r7p9:List AOper:=[⟨some 42,(.move (.t 5)),some (33,false)⟩]
def s_f15_r7t9:List AOper:=s_f15_r7p9 ++ s_f15_r7t10
def s_f15_r7p8:List AOper:=[⟨some 41,(.load false 1 (.t 40)),some (33,false)⟩]
def s_f15_r7t8:List AOper:=s_f15_r7p8 ++ s_f15_r7t9
def s_f15_r7p7:List AOper:=[⟨some 40,(.indexAddr 1 (.t 38) (.t 39)),some (33,false)⟩]
def s_f15_r7t7:List AOper:=s_f15_r7p7 ++ s_f15_r7t8
def s_f15_r7p6:List AOper:=[⟨some 39,(.move (.t 6)),some (33,false)⟩]
def s_f15_r7t6:List AOper:=s_f15_r7p6 ++ s_f15_r7t7
def s_f15_r7p5:List AOper:=[⟨some 38,(.load false 1 (.t 37)),some (33,false)⟩]
def s_f15_r7t5:List AOper:=s_f15_r7p5 ++ s_f15_r7t6
def s_f15_r7p4:List AOper:=[⟨some 37,(.indexAddr 1 (.t 35) (.t 36)),some (33,false)⟩]
def s_f15_r7t4:List AOper:=s_f15_r7p4 ++ s_f15_r7t5
def s_f15_r7p3:List AOper:=[⟨some 36,(.move (.t 5)),some (33,false)⟩]
def s_f15_r7t3:List AOper:=s_f15_r7p3 ++ s_f15_r7t4
def s_f15_r7p2:List AOper:=[⟨some 35,(.move (.t 3)),some (33,false)⟩]
def s_f15_r7t2:List AOper:=s_f15_r7p2 ++ s_f15_r7t3
def s_f15_r7p1:List AOper:=[⟨some 34,(.move (.t 0)),some (33,false)⟩]
def s_f15_r7t1:List AOper:=s_f15_r7p1 ++ s_f15_r7t2
def s_f15_r7p0:List AOper:=[⟨some 27,(.move (.t 4)),none⟩,⟨some 28,(.move (.t 5)),none⟩,⟨some 29,(.move (.t 4)),none⟩,⟨some 30,(.move (.t 5)),none⟩,⟨some 31,(.indexAddr 1 (.t 29) (.t 30)),none⟩,⟨some 32,(.load false 1 (.t 31)),none⟩,⟨some 33,(.move (.t 32)),none⟩]
def s_f15_r7:List AOper:=s_f15_r7p0 ++ s_f15_r7t1
def s_f15_r8:List AOper:=[
 ⟨some 25,(.move (.t 6)),none⟩,
 ⟨some 26,(.bin .add (.t 25) (.c (.s (.int .i64 1)))),none⟩,
 ⟨some 6,(.move (.t 26)),none⟩]
def s_f15_l0_b:ACode:=
 (.seq (.seq (.regionE s_f15_r6 [18,19,20,21,22,23] [24])
 (.cond (.t 24)
 .skip
 (.exit 2)))
 (.seq (.block 3
 (.region s_f15_r7 [] [24,27,28,29,30,31,32,33,34,35,36,37,38,39,40,41,42,43,44,45]))
 (.regionE s_f15_r8 [25,26] [6])))
def s_f15_l0:ACode:=s_f15_l0_b
def s_f15_r9:List AOper:=[
 ⟨some 16,(.move (.t 5)),none⟩,
 ⟨some 17,(.bin .add (.t 16) (.c (.s (.int .i64 1)))),none⟩,
 ⟨some 5,(.move (.t 17)),none⟩]
def s_f15_l1_b:ACode:=
 (.seq (.seq (.regionE s_f15_r4 [12,13,14] [15])
 (.cond (.t 15)
 .skip
 (.exit 0)))
 (.seq (.block 1
 (.seq (.regionE s_f15_r5 [15] [6])
 (.block 2
 (.loop [] s_f15_l0))))
 (.regionE s_f15_r9 [6,16,17,24] [5])))
def s_f15_l1:ACode:=s_f15_l1_b
def s_f15_r10:List AOper:=[
 ⟨some 46,(.move (.t 4)),none⟩,
 ⟨some 2,(.move (.t 46)),none⟩]
def s_f15:ACFun:={ ntmps:=47,results:=[(.tmp 2)],body:=
 (.seq (.regionE s_f15_r0 s_f15_r0_k [])
 (.seq (.region s_f15_r1 [] [7,8])
 (.seq (.region s_f15_r2 [] [9,10,11])
 (.seq (.seq (.regionE s_f15_r3 [] [5])
 (.block 0
 (.loop [] s_f15_l1)))
 (.seq (.regionE s_f15_r10 [0,3,4,5,15,46] [2])
 .ret))))) }
abbrev k_f18:Nat:=18
def s_f18_r0_k:List Nat:=[1,2,3,4,5,6,7,8,9,10,11,12,13,14,15,16,17,18,19,20,21,22,23,24,25,26,27,28,29,30,31,32,33,34,35,36,37,38,39,40,41,42,43,44,45,46,47,48,49,50,51,52,53,54,55,56,57,58,59,60,61,62,63,64,65,66,67,68,69,70,71,72,73,74,75,76,77,78,79,80,81,82,83]
def s_f18_r0:List AOper:=[
 ⟨some 2,(.move (.c (.s (.slice none 0 0)))),none⟩]
def s_f18_r1t2:List AOper:=[⟨some 3,(.move (.t 11)),none⟩]
def s_f18_r1p1:List AOper:=[⟨some 11,(.call (.c (.fn 12 [] [])) [(.t 10)]),none⟩]
def s_f18_r1t1:List AOper:=s_f18_r1p1 ++ s_f18_r1t2
def s_f18_r1p0:List AOper:=[⟨some 10,(.move (.t 0)),none⟩]
def s_f18_r1:List AOper:=s_f18_r1p0 ++ s_f18_r1t1
def s_f18_r2t2:List AOper:=[⟨some 4,(.move (.t 13)),none⟩]
def s_f18_r2p1:List AOper:=[⟨some 13,(.call (.c (.fn 31 [] [])) [(.t 12)]),none⟩]
def s_f18_r2t1:List AOper:=s_f18_r2p1 ++ s_f18_r2t2
def s_f18_r2p0:List AOper:=[⟨some 12,(.move (.t 0)),none⟩]
def s_f18_r2:List AOper:=s_f18_r2p0 ++ s_f18_r2t1
def s_f18_r3:List AOper:=[
 ⟨some 5,(.move (.c (.s (.int .i64 0)))),none⟩]
def s_f18_r4:List AOper:=[
 ⟨some 6,(.move (.c (.s (.int .i64 0)))),none⟩]
def s_f18_r5:List AOper:=[
 ⟨some 14,(.move (.t 6)),none⟩,
 ⟨some 15,(.move (.t 3)),none⟩,
 ⟨some 16,(.lenS .s (.t 15)),none⟩,
 ⟨some 17,(.bin .lss (.t 14) (.t 16)),none⟩]
def s_f18_r6:List AOper:=[
 ⟨some 20,(.move (.t 5)),none⟩,
 ⟨some 21,(.move (.t 3)),none⟩,
 ⟨some 22,(.move (.t 6)),none⟩,
 ⟨some 23,(.indexAddr 1 (.t 21) (.t 22)),none⟩,
 ⟨some 24,(.load false 1 (.t 23)),none⟩,
 ⟨some 25,(.bin .add (.t 24) (.c (.s (.int .i64 1)))),none⟩,
 ⟨some 26,(.minmax true (.t 20) (.t 25)),none⟩,
 ⟨some 5,(.move (.t 26)),none⟩]
def s_f18_r7:List AOper:=[
 ⟨some 18,(.move (.t 6)),none⟩,
 ⟨some 19,(.bin .add (.t 18) (.c (.s (.int .i64 1)))),none⟩,
 ⟨some 6,(.move (.t 19)),none⟩]
def s_f18_l0_b:ACode:=
 (.seq (.seq (.regionE s_f18_r5 [14,15,16] [17])
 (.cond (.t 17)
 .skip
 (.exit 0)))
 (.seq (.block 1
 (.regionE s_f18_r6 [17,20,21,22,23,24,25,26] [5]))
 (.regionE s_f18_r7 [18,19] [6])))
def s_f18_l0:ACode:=s_f18_l0_b
def s_f18_r8t2:List AOper:=[⟨some 7,(.move (.t 28)),none⟩]
def s_f18_r8p1:List AOper:=[⟨some 28,(.mkSl [(.s (.slice none 0 0))] 1 24 (.t 27) (.t 27)),none⟩]
def s_f18_r8t1:List AOper:=s_f18_r8p1 ++ s_f18_r8t2
def s_f18_r8p0:List AOper:=[⟨some 27,(.move (.t 5)),none⟩]
def s_f18_r8:List AOper:=s_f18_r8p0 ++ s_f18_r8t1
def s_f18_r9:List AOper:=[
 ⟨some 8,(.move (.c (.s (.int .i64 0)))),none⟩]
def s_f18_r10:List AOper:=[
 ⟨some 29,(.move (.t 8)),none⟩,
 ⟨some 30,(.move (.t 4)),none⟩,
 ⟨some 31,(.lenS .s (.t 30)),none⟩,
 ⟨some 32,(.bin .lss (.t 29) (.t 31)),none⟩]
def s_f18_r11:List AOper:=[
 ⟨some 9,(.move (.c (.s (.int .i64 0)))),none⟩]
def s_f18_r12:List AOper:=[
 ⟨some 35,(.move (.t 9)),none⟩,
 ⟨some 36,(.move (.t 4)),none⟩,
 ⟨some 37,(.move (.t 8)),none⟩,
 ⟨some 38,(.indexAddr 1 (.t 36) (.t 37)),none⟩,
 ⟨some 39,(.load false 1 (.t 38)),none⟩,
 ⟨some 40,(.lenS .s (.t 39)),none⟩,
 ⟨some 41,(.bin .lss (.t 35) (.t 40)),none⟩]
def s_f18_r13:List AOper:=[
 ⟨some 44,(.move (.t 3)),none⟩,
 ⟨some 45,(.move (.t 8)),none⟩,
 ⟨some 46,(.indexAddr 1 (.t 44) (.t 45)),none⟩,
 ⟨some 47,(.load false 1 (.t 46)),none⟩,
 ⟨some 48,(.move (.t 3)),none⟩,
 ⟨some 49,(.move (.t 4)),none⟩,
 ⟨some 50,(.move (.t 8)),none⟩,
 ⟨some 51,(.indexAddr 1 (.t 49) (.t 50)),none⟩,
 ⟨some 52,(.load false 1 (.t 51)),none⟩,
 ⟨some 53,(.move (.t 9)),none⟩,
 ⟨some 54,(.indexAddr 1 (.t 52) (.t 53)),none⟩,
 ⟨some 55,(.load false 1 (.t 54)),none⟩,
 ⟨some 56,(.indexAddr 1 (.t 48) (.t 55)),none⟩,
 ⟨some 57,(.load false 1 (.t 56)),none⟩,
 ⟨some 58,(.bin .neq (.t 47) (.t 57)),none⟩]
def s_f18_r14t3:List AOper:=[⟨none,(.store 1 (.t 82) (.t 81)),none⟩]
def s_f18_r14p2:List AOper:=[⟨some 82,(.indexAddr 1 (.t 59) (.t 63)),none⟩]
def s_f18_r14t2:List AOper:=s_f18_r14p2 ++ s_f18_r14t3
def s_f18_r14p1:List AOper:=[⟨some 81,(.callR (.c (.fn 33 [] [])) [(.t 70),(.t 80)]),none⟩]
def s_f18_r14t1:List AOper:=s_f18_r14p1 ++ s_f18_r14t2
def s_f18_r14p0:List AOper:=[⟨some 59,(.move (.t 7)),none⟩,⟨some 60,(.move (.t 3)),none⟩,⟨some 61,(.move (.t 8)),none⟩,⟨some 62,(.indexAddr 1 (.t 60) (.t 61)),none⟩,⟨some 63,(.load false 1 (.t 62)),none⟩,⟨some 64,(.move (.t 7)),none⟩,⟨some 65,(.move (.t 3)),none⟩,⟨some 66,(.move (.t 8)),none⟩,⟨some 67,(.indexAddr 1 (.t 65) (.t 66)),none⟩,⟨some 68,(.load false 1 (.t 67)),none⟩,⟨some 69,(.indexAddr 1 (.t 64) (.t 68)),none⟩,⟨some 70,(.load false 1 (.t 69)),none⟩,⟨some 71,(.move (.t 3)),none⟩,⟨some 72,(.move (.t 4)),none⟩,⟨some 73,(.move (.t 8)),none⟩,⟨some 74,(.indexAddr 1 (.t 72) (.t 73)),none⟩,⟨some 75,(.load false 1 (.t 74)),none⟩,⟨some 76,(.move (.t 9)),none⟩,⟨some 77,(.indexAddr 1 (.t 75) (.t 76)),none⟩,⟨some 78,(.load false 1 (.t 77)),none⟩,⟨some 79,(.indexAddr 1 (.t 71) (.t 78)),none⟩,⟨some 80,(.load false 1 (.t 79)),none⟩]
def s_f18_r14:List AOper:=s_f18_r14p0 ++ s_f18_r14t1
def s_f18_r15:List AOper:=[
 ⟨some 42,(.move (.t 9)),none⟩,
 ⟨some 43,(.bin .add (.t 42) (.c (.s (.int .i64 1)))),none⟩,
 ⟨some 9,(.move (.t 43)),none⟩]
def s_f18_l1_b:ACode:=
 (.seq (.seq (.regionE s_f18_r12 [35,36,37,38,39,40] [41])
 (.cond (.t 41)
 .skip
 (.exit 4)))
 (.seq (.block 5
 (.seq (.regionE s_f18_r13 [41,44,45,46,47,48,49,50,51,52,53,54,55,56,57] [58])
 (.cond (.t 58)
 (.region s_f18_r14 [] [58,59,60,61,62,63,64,65,66,67,68,69,70,71,72,73,74,75,76,77,78,79,80,81,82])
 .skip)))
 (.regionE s_f18_r15 [42,43,58] [9])))
def s_f18_l1:ACode:=s_f18_l1_b
def s_f18_r16:List AOper:=[
 ⟨some 33,(.move (.t 8)),none⟩,
 ⟨some 34,(.bin .add (.t 33) (.c (.s (.int .i64 1)))),none⟩,
 ⟨some 8,(.move (.t 34)),none⟩]
def s_f18_l2_b:ACode:=
 (.seq (.seq (.regionE s_f18_r10 [29,30,31] [32])
 (.cond (.t 32)
 .skip
 (.exit 2)))
 (.seq (.block 3
 (.seq (.regionE s_f18_r11 [32] [9])
 (.block 4
 (.loop [] s_f18_l1))))
 (.regionE s_f18_r16 [9,33,34,41] [8])))
def s_f18_l2:ACode:=s_f18_l2_b
def s_f18_r17:List AOper:=[
 ⟨some 83,(.move (.t 7)),none⟩,
 ⟨some 2,(.move (.t 83)),none⟩]
def s_f18:ACFun:={ ntmps:=84,results:=[(.tmp 2)],body:=
 (.seq (.regionE s_f18_r0 s_f18_r0_k [])
 (.seq (.region s_f18_r1 [] [10,11])
 (.seq (.region s_f18_r2 [] [0,12,13])
 (.seq (.regionE s_f18_r3 [] [5])
 (.seq (.seq (.regionE s_f18_r4 [] [6])
 (.block 0
 (.loop [] s_f18_l0)))
 (.seq (.region s_f18_r8 [] [5,6,17,27,28])
 (.seq (.seq (.regionE s_f18_r9 [] [8])
 (.block 2
 (.loop [] s_f18_l2)))
 (.seq (.regionE s_f18_r17 [3,4,7,8,32,83] [2])
 .ret)))))))) }
abbrev k_f20:Nat:=20
def s_f20_r0_k:List Nat:=[1,2,3,4,5,6,7,8,9,10,11,12,13,14,15,16,17,18,19,20,21,22,23,24,25,26,27,28,29,30,31,32,33,34,35,36,37,38,39,40,41,42,43,44,45,46,47,48,49,50]
def s_f20_r0:List AOper:=[
 ⟨some 2,(.move (.c (.s (.slice none 0 0)))),none⟩]
def s_f20_r1t2:List AOper:=[⟨some 3,(.move (.t 9)),none⟩]
def s_f20_r1p1:List AOper:=[⟨some 9,(.call (.c (.fn 18 [] [])) [(.t 8)]),none⟩]
def s_f20_r1t1:List AOper:=s_f20_r1p1 ++ s_f20_r1t2
def s_f20_r1p0:List AOper:=[⟨some 8,(.move (.t 0)),none⟩]
def s_f20_r1:List AOper:=s_f20_r1p0 ++ s_f20_r1t1
def s_f20_r2:List AOper:=[
 ⟨some 4,(.move (.c (.s (.slice none 0 0)))),none⟩]
def s_f20_r3:List AOper:=[
 ⟨some 10,(.move (.t 4)),none⟩,
 ⟨some 11,(.lenS .s (.t 10)),none⟩,
 ⟨some 12,(.move (.t 3)),none⟩,
 ⟨some 13,(.lenS .s (.t 12)),none⟩,
 ⟨some 14,(.bin .lss (.t 11) (.t 13)),none⟩]
def s_f20_r4:List AOper:=[
 ⟨some 5,(.move (.c (.s (.int .i64 0)))),none⟩]
def s_f20_r5:List AOper:=[
 ⟨some 15,(.move (.t 5)),none⟩,
 ⟨some 16,(.move (.t 3)),none⟩,
 ⟨some 17,(.lenS .s (.t 16)),none⟩,
 ⟨some 18,(.bin .lss (.t 15) (.t 17)),none⟩]
def s_f20_r6t1:List AOper:=[⟨some 23,(.call (.c (.fn 36 [] [])) [(.t 21),(.t 22)]),none⟩]
def s_f20_r6p0:List AOper:=[⟨some 21,(.move (.t 4)),none⟩,⟨some 22,(.move (.t 5)),none⟩]
def s_f20_r6:List AOper:=s_f20_r6p0 ++ s_f20_r6t1
def s_f20_r7:List AOper:=[
 ⟨some 6,(.move (.c (.s (.bool true)))),none⟩]
def s_f20_r8:List AOper:=[
 ⟨some 7,(.move (.c (.s (.int .i64 0)))),none⟩]
def s_f20_r9:List AOper:=[
 ⟨some 24,(.move (.t 7)),none⟩,
 ⟨some 25,(.move (.t 3)),none⟩,
 ⟨some 26,(.lenS .s (.t 25)),none⟩,
 ⟨some 27,(.bin .lss (.t 24) (.t 26)),none⟩]
def s_f20_r10t12:List AOper:=[⟨some 43,(.pick (.t 39) (.c (.s (.bool true))) (.t 42)),some (31,true)⟩,⟨some 44,(.pick (.t 31) (.t 43) (.c (.s (.bool false)))),none⟩,⟨some 6,(.move (.t 44)),none⟩]
def s_f20_r10p11:List AOper:=[⟨some 42,(.call (.c (.fn 36 [] [])) [(.t 40),(.t 41)]),some (39,false)⟩]
def s_f20_r10t11:List AOper:=s_f20_r10p11 ++ s_f20_r10t12
def s_f20_r10p10:List AOper:=[⟨some 41,(.move (.t 7)),some (39,false)⟩]
def s_f20_r10t10:List AOper:=s_f20_r10p10 ++ s_f20_r10t11
def s_f20_r10p9:List AOper:=[⟨some 40,(.move (.t 4)),some (39,false)⟩]
def s_f20_r10t9:List AOper:=s_f20_r10p9 ++ s_f20_r10t10
def s_f20_r10p8:List AOper:=[⟨some 39,(.move (.t 38)),some (31,true)⟩]
def s_f20_r10t8:List AOper:=s_f20_r10p8 ++ s_f20_r10t9
def s_f20_r10p7:List AOper:=[⟨some 38,(.un .not (.t 37)),some (31,true)⟩]
def s_f20_r10t7:List AOper:=s_f20_r10p7 ++ s_f20_r10t8
def s_f20_r10p6:List AOper:=[⟨some 37,(.call (.c (.fn 36 [] [])) [(.t 35),(.t 36)]),some (31,true)⟩]
def s_f20_r10t6:List AOper:=s_f20_r10p6 ++ s_f20_r10t7
def s_f20_r10p5:List AOper:=[⟨some 36,(.move (.t 5)),some (31,true)⟩]
def s_f20_r10t5:List AOper:=s_f20_r10p5 ++ s_f20_r10t6
def s_f20_r10p4:List AOper:=[⟨some 35,(.load false 1 (.t 34)),some (31,true)⟩]
def s_f20_r10t4:List AOper:=s_f20_r10p4 ++ s_f20_r10t5
def s_f20_r10p3:List AOper:=[⟨some 34,(.indexAddr 1 (.t 32) (.t 33)),some (31,true)⟩]
def s_f20_r10t3:List AOper:=s_f20_r10p3 ++ s_f20_r10t4
def s_f20_r10p2:List AOper:=[⟨some 33,(.move (.t 7)),some (31,true)⟩]
def s_f20_r10t2:List AOper:=s_f20_r10p2 ++ s_f20_r10t3
def s_f20_r10p1:List AOper:=[⟨some 32,(.move (.t 3)),some (31,true)⟩]
def s_f20_r10t1:List AOper:=s_f20_r10p1 ++ s_f20_r10t2
def s_f20_r10p0:List AOper:=[⟨some 30,(.move (.t 6)),none⟩,⟨some 31,(.move (.t 30)),none⟩]
def s_f20_r10:List AOper:=s_f20_r10p0 ++ s_f20_r10t1
def s_f20_r11:List AOper:=[
 ⟨some 28,(.move (.t 7)),none⟩,
 ⟨some 29,(.bin .add (.t 28) (.c (.s (.int .i64 1)))),none⟩,
 ⟨some 7,(.move (.t 29)),none⟩]
def s_f20_l0_b:ACode:=
 (.seq (.seq (.regionE s_f20_r9 [24,25,26] [27])
 (.cond (.t 27)
 .skip
 (.exit 4)))
 (.seq (.block 5
 (.region s_f20_r10 [] [27,30,31,32,33,34,35,36,37,38,39,40,41,42,43,44]))
 (.regionE s_f20_r11 [28,29] [7])))
def s_f20_l0:ACode:=s_f20_l0_b
def s_f20_r12:List AOper:=[
 ⟨some 45,(.move (.t 6)),none⟩]
def s_f20_r13t3:List AOper:=[⟨some 4,(.move (.t 49)),none⟩]
def s_f20_r13p2:List AOper:=[⟨some 49,(.append 1 8 (.t 46) (.t 48)),none⟩]
def s_f20_r13t2:List AOper:=s_f20_r13p2 ++ s_f20_r13t3
def s_f20_r13p1:List AOper:=[⟨some 48,(.buildSl 1 1 [(.s (.int .i64 0))] [(0,(.t 47))]),none⟩]
def s_f20_r13t1:List AOper:=s_f20_r13p1 ++ s_f20_r13t2
def s_f20_r13p0:List AOper:=[⟨some 46,(.move (.t 4)),none⟩,⟨some 47,(.move (.t 5)),none⟩]
def s_f20_r13:List AOper:=s_f20_r13p0 ++ s_f20_r13t1
def s_f20_r14:List AOper:=[
 ⟨some 19,(.move (.t 5)),none⟩,
 ⟨some 20,(.bin .add (.t 19) (.c (.s (.int .i64 1)))),none⟩,
 ⟨some 5,(.move (.t 20)),none⟩]
def s_f20_l1_b:ACode:=
 (.seq (.seq (.regionE s_f20_r5 [15,16,17] [18])
 (.cond (.t 18)
 .skip
 (.exit 2)))
 (.seq (.block 3
 (.seq (.seq (.region s_f20_r6 [] [18,21,22])
 (.cond (.t 23)
 (.exit 3)
 .skip))
 (.seq (.regionE s_f20_r7 [23] [6])
 (.seq (.seq (.regionE s_f20_r8 [] [7])
 (.block 4
 (.loop [] s_f20_l0)))
 (.seq (.regionE s_f20_r12 [6,7,27] [45])
 (.cond (.t 45)
 (.seq (.region s_f20_r13 [] [5,45,46,47,48,49])
 (.exit 2))
 .skip))))))
 (.regionE s_f20_r14 [19,20,23,45] [5])))
def s_f20_l1:ACode:=s_f20_l1_b
def s_f20_l2_b:ACode:=
 (.seq (.seq (.regionE s_f20_r3 [10,11,12,13] [14])
 (.cond (.t 14)
 .skip
 (.exit 0)))
 (.block 1
 (.seq (.regionE s_f20_r4 [14] [5])
 (.block 2
 (.loop [] s_f20_l1)))))
def s_f20_l2:ACode:=s_f20_l2_b
def s_f20_r15:List AOper:=[
 ⟨some 50,(.move (.t 4)),none⟩,
 ⟨some 2,(.move (.t 50)),none⟩]
def s_f20:ACFun:={ ntmps:=51,results:=[(.tmp 2)],body:=
 (.seq (.regionE s_f20_r0 s_f20_r0_k [])
 (.seq (.region s_f20_r1 [] [0,8,9])
 (.seq (.regionE s_f20_r2 [] [4])
 (.seq (.block 0
 (.loop [5,18] s_f20_l2))
 (.seq (.regionE s_f20_r15 [3,4,14,50] [2])
 .ret))))) }
theorem SA5_12:compK Try.prog PX0 12=some (false,s_f12.ntmps,s_f12.results,s_f12.body.bare):=by kernel_rfl
theorem SA5_15:compK Try.prog PX0 15=some (false,s_f15.ntmps,s_f15.results,s_f15.body.bare):=by kernel_rfl
theorem SA5_18:compK Try.prog PX0 18=some (false,s_f18.ntmps,s_f18.results,s_f18.body.bare):=by kernel_rfl
theorem SA5_20:compK Try.prog PX0 20=some (false,s_f20.ntmps,s_f20.results,s_f20.body.bare):=by kernel_rfl
end Go.Proofs.Ytchekhggdbcbbaa
set_option maxRecDepth 100000
namespace Go.Proofs.Ytchekhggdbcbbaa
open Go.AM
section
variable {CT:Nat→Option CFun}
structure CQ8 (CT:Nat→Option CFun):Prop where
 r:CR CT
 comps:CT k_f12=some (.code s_f12)
 cyc:CT k_f15=some (.code s_f15)
 fold:CT k_f18=some (.code s_f18)
 order:CT k_f20=some (.code s_f20)
end
end Go.Proofs.Ytchekhggdbcbbaa
set_option maxRecDepth 100000
namespace Go.Proofs.Ytchekhggdbcbbaa
open Go.AM
structure ArrS (N C:Heap) (c:List V):Prop where
 ext:Ext N C
 arr:getC C N.length 0=some c
 le:N.length+1≤C.length
theorem ArrS.trim {N C:Heap} {c:List V} (h:ArrS N C c) {L:Nat} (hL:N.length+1≤L) (hLC:L≤C.length) (fr:List V):ArrS N (Go.AM.trim L fr C) c:=
 ⟨h.ext.trim (by omega) fr,trim_get h.arr (by omega),Nat.le_trans hL (trim_le hLC)⟩
theorem ArrS.set {N C:Heap} {c:List V} (h:ArrS N C c) (c':List V):ArrS N (C.set N.length (.cells 0 c')) c':=
 ⟨h.ext.set (Nat.le_refl _) _,getC_set h.arr 0,by rw [List.length_set];exact h.le⟩
theorem ArrS.ext' {N C D:Heap} {c:List V} (h:ArrS N C c) (k:Ext C D):ArrS N D c:=⟨h.ext.trans k,getC_ext h.arr k,Nat.le_trans h.le k.le⟩
section
variable {CT:Nat→Option CFun}
end
end Go.Proofs.Ytchekhggdbcbbaa
set_option maxRecDepth 100000
namespace Go.Proofs.Ytchekhggdbcbbaa
open Go.AM
structure RB (N C:Heap) (R:List (List Int)):Prop where
 ext:Ext N C
 arr:∃ vs,getC C N.length 0=some vs∧vs.length=R.length∧∀ (j:Nat) (r:List Int),R[j]?=some r→∃ x,vs[j]?=some x∧OwnN (N.length+1) C x (r.map iV)
 le:N.length+1≤C.length
theorem RB.trim {N C:Heap} {R:List (List Int)} (h:RB N C R) {L:Nat} (hL:N.length+1≤L) (hLC:L≤C.length) (fr:List V):RB N (Go.AM.trim L fr C) R:=by
 obtain ⟨vs,h1,h2,h3⟩:=h.arr
 refine ⟨h.ext.trim (by omega) fr,⟨vs,trim_get h1 (by omega),h2,fun j r hr=>?_⟩,Nat.le_trans hL (trim_le hLC)⟩
 obtain ⟨x,x1,x2⟩:=h3 j r hr
 exact ⟨x,x1,x2.trim h1 (by omega) (List.mem_of_getElem? x1) fr⟩
theorem RB.rows {N C:Heap} {R:List (List Int)} (h:RB N C R):RdRows C (.sl N.length 0 0 R.length 1) (rowsV R):=by
 obtain ⟨vs,h1,h2,h3⟩:=h.arr
 refine ⟨vs,by rw [← h2];exact getC_sl h1,trivial,by rw [rowsV_len,h2],fun i r hr=>?_⟩
 rw [rowsV,List.getElem?_map] at hr
 cases hq:R[i]? with
 | none=>rw [hq] at hr;cases hr
 | some q=>
   rw [hq] at hr
   cases hr
   obtain ⟨x,x1,x2⟩:=h3 i q hq
   exact ⟨x,x1,x2.rd,x2.wide⟩
theorem RB.put {N C D:Heap} {R:List (List Int)} (h:RB N C R) (k:Ext C D) {a:Nat} (ha:a < R.length) {w:V} {l:List Int} (hw:OwnN (N.length+1) D w (l.map iV)):∃ vs,getC D N.length 0=some vs∧vs.length=R.length∧RB N (D.set N.length (.cells 0 (vs.set a w))) (R.set a l):=by
 obtain ⟨vs,h1,h2,h3⟩:=h.arr
 have h1':=getC_ext h1 k
 refine ⟨vs,h1',h2,(h.ext.trans k).set (Nat.le_refl _) _,⟨vs.set a w,getC_set h1' 0,by rw [List.length_set,List.length_set,h2],fun j r hr=>?_⟩,by rw [List.length_set];exact Nat.le_trans h.le k.le⟩
 by_cases e:a=j
 ·subst e
  rw [List.getElem?_set_self ha] at hr
  cases hr
  exact ⟨w,List.getElem?_set_self (by omega),hw.set (by omega) _⟩
 ·rw [List.getElem?_set_ne e] at hr
  obtain ⟨x,x1,x2⟩:=h3 j r hr
  exact ⟨x,by rw [List.getElem?_set_ne e];exact x1,(x2.ext k).set (by omega) _⟩
section
variable {CT:Nat→Option CFun}
end
end Go.Proofs.Ytchekhggdbcbbaa
set_option maxRecDepth 100000
namespace Go.Proofs.Ytchekhggdbcbbaa
open Go.AM
theorem getD_set {R:List (List Int)} {a b:Nat} {l:List Int} (ha:a < R.length):(R.set a l).getD b []=if a=b then l else R.getD b []:=by
 rw [List.getD,List.getD,List.getElem?_set]
 by_cases e:a=b
 ·subst e;simp [ha]
 ·simp [e]
theorem fStep_mem {c:List Int} {i:Nat} {R:List (List Int)} {k:Int} (hi:0≤c.getD i 0∧c.getD i 0 < (R.length:Int)) (a:Nat) (x:Int):x∈(fStep c i R k).getD a []↔x∈R.getD a []∨(c.getD i 0=(a:Int)∧c.getD k.toNat 0=x∧c.getD i 0≠c.getD k.toNat 0):=by
 unfold fStep
 cases h:(c.getD i 0 == c.getD k.toNat 0) with
 | true=>
   have:=eq_of_beq h
   exact ⟨fun h1=>.inl h1,fun h1=>h1.elim id fun h2=>absurd this h2.2.2⟩
 | false=>
   have hne:c.getD i 0≠c.getD k.toNat 0:=fun e=>by rw [e,beq_self_eq_true] at h;cases h
   rw [cond_false]
   unfold bump
   rw [getD_set (by omega)]
   by_cases e:(c.getD i 0).toNat=a
   ·rw [if_pos e,e,List.mem_append,List.mem_singleton]
    have:c.getD i 0=(a:Int):=by omega
    exact ⟨fun h1=>h1.elim .inl fun h2=>.inr ⟨this,h2.symm,hne⟩,fun h1=>h1.elim .inl fun h2=>.inr h2.2.1.symm⟩
   ·rw [if_neg e]
    exact ⟨.inl,fun h1=>h1.elim id fun h2=>absurd (by omega) e⟩
theorem fRow_mem {c:List Int} {i:Nat} (a:Nat) (x:Int):∀ (r:List Int) (R:List (List Int)),0≤c.getD i 0∧c.getD i 0 < (R.length:Int)→(x∈(fRow c i r R).getD a []↔x∈R.getD a []∨∃ k∈r,c.getD i 0=(a:Int)∧c.getD k.toNat 0=x∧c.getD i 0≠c.getD k.toNat 0):=by
 intro r
 induction r with
 | nil=>intro R _;simp [fRow]
 | cons k r ih=>
   intro R hi
   show x∈(fRow c i r (fStep c i R k)).getD a []↔_
   rw [ih _ (by rw [fStep_len];exact hi),fStep_mem hi,or_assoc]
   refine or_congr_right ?_
   simp only [List.mem_cons,exists_eq_or_imp]
theorem fFrom_mem {c:List Int} (a:Nat) (x:Int):∀ (N:List (List Int)) (j:Nat) (R:List (List Int)),(∀ i,i < N.length→0≤c.getD (j+i) 0∧c.getD (j+i) 0 < (R.length:Int))→(x∈(fFrom c j N R).getD a []↔x∈R.getD a []∨∃ i,i < N.length∧∃ k∈N.getD i [],c.getD (j+i) 0=(a:Int)∧c.getD k.toNat 0=x∧c.getD (j+i) 0≠c.getD k.toNat 0):=by
 intro N
 induction N with
 | nil=>intro j R _;simp [fFrom]
 | cons r N ih=>
   intro j R hi
   rw [fFrom,ih _ _ (fun i h=>by rw [fRow_len];have:=hi (i+1) (by simp;omega);rwa [show j+(i+1)=j+1+i by omega] at this),fRow_mem (i:=j) a x r R (hi 0 (by simp)),or_assoc]
   refine or_congr_right ?_
   constructor
   ·rintro (⟨k,h1,h2⟩ | ⟨i,h1,k,h2,h3⟩)
    ·exact ⟨0,by simp,k,h1,h2⟩
    ·exact ⟨i+1,by simp;omega,k,h2,by rw [show j+(i+1)=j+1+i by omega];exact h3⟩
   ·rintro ⟨i,h1,k,h2,h3⟩
    cases i with
    | zero=>exact .inl ⟨k,h2,h3⟩
    | succ i=>
      rw [show j+(i+1)=j+1+i by omega] at h3
      exact .inr ⟨i,by simp at h1;omega,k,h2,h3⟩
theorem foldG_mem (G:List (List Int)) (a b:Nat):(b:Int)∈(foldG G).getD a []↔∃ i k:Nat,i < G.length∧k < G.length∧(k:Int)∈G.getD i []∧(compsG G).getD i 0=(a:Int)∧(compsG G).getD k 0=(b:Int)∧a≠b:=by
 have hl:=compsG_len G
 have hN:=normG_len G
 have hb:∀ i,i < G.length→0≤(compsG G).getD i 0∧(compsG G).getD i 0 < (cntG G:Int):=fun i hi=>(compsG_ok G).lt i hi
 unfold foldG
 rw [normG_get,rawG_len,rawG,fFrom_mem a b _ _ _ (fun i hi=>by rw [Nat.zero_add,List.length_replicate];exact hb i (by omega))]
 have hrep:¬ (b:Int)∈(List.replicate (cntG G) ([]:List Int)).getD a []:=by
  rw [List.getD,List.getElem?_replicate]
  split <;> simp
 constructor
 ·rintro ⟨h1 | ⟨i,h1,k,h2,h3,h4,h5⟩,_,_⟩
  ·exact absurd h1 hrep
  ·rw [Nat.zero_add] at h3 h5
   obtain ⟨g1,g2,g3⟩:=(normG_get G i k).1 h2
   obtain ⟨y,rfl⟩:=Int.eq_ofNat_of_zero_le g2
   rw [Int.toNat_natCast] at h4 h5
   exact ⟨i,y,by omega,by omega,g1,h3,h4,fun e=>h5 (by rw [h3,h4,e])⟩
 ·rintro ⟨i,k,h1,h2,h3,h4,h5,h6⟩
  have:=hb k h2
  refine ⟨.inr ⟨i,by omega,(k:Int),(normG_get G i k).2 ⟨h3,by omega,by omega⟩,by rw [Nat.zero_add];exact h4,by rw [Int.toNat_natCast];exact h5,?_⟩,by omega,by omega⟩
  rw [Nat.zero_add,Int.toNat_natCast,h4,h5]
  omega
theorem comps_same (G:List (List Int)) {i k:Nat} (hi:i < G.length) (hk:k < G.length):(compsG G).getD i 0=(compsG G).getD k 0↔Tar.Rc (gN G) i k∧Tar.Rc (gN G) k i:=by
 rw [(compsG_ok G).same i k hi hk,eqG_rc G hi hk]
theorem cntN_le:∀ {n:Nat} {f g:Nat→Nat},(∀ v,v < n→f v≤g v)→Tar.cntN n f≤Tar.cntN n g:=by
 intro n
 induction n with
 | zero=>intro f g _;exact Nat.le_refl _
 | succ n ih=>intro f g h;rw [Tar.cntN_succ,Tar.cntN_succ];have:=ih fun v hv=>h v (by omega);have:=h n (by omega);omega
theorem cntN_lt:∀ {n k:Nat} {f g:Nat→Nat},(∀ v,v < n→f v≤g v)→k < n→f k < g k→Tar.cntN n f < Tar.cntN n g:=by
 intro n
 induction n with
 | zero=>intro k f g _ hk;omega
 | succ n ih=>
   intro k f g h hk hlt
   rw [Tar.cntN_succ,Tar.cntN_succ]
   by_cases e:k=n
   ·subst e
    have:=cntN_le (n:=k) fun v hv=>h v (by omega)
    omega
   ·have:=ih (fun v hv=>h v (by omega)) (show k < n by omega) hlt
    have:=h n (by omega)
    omega
noncomputable def upN (G:List (List Int)) (i:Nat):Nat:=Tar.cntN G.length fun j=>if leadsB G j i=true then 1 else 0
theorem upN_lt {G:List (List Int)} {i k:Nat} (hi:i < G.length) (hk:k < G.length) (h1:Tar.Rc (gN G) i k) (h2:¬ Tar.Rc (gN G) k i):upN G i < upN G k:=by
 unfold upN
 refine cntN_lt (fun v hv=>?_) hk ?_
 ·by_cases hl:leadsB G v i=true
  ·have:leadsB G v k=true:=by
    rw [leadsB_nat,← rc_rch G v hv] at hl ⊢
    exact hl.trans h1
   rw [if_pos hl,if_pos this]
   exact Nat.le_refl _
  ·rw [if_neg hl];exact Nat.zero_le _
 ·have a1:¬ leadsB G k i=true:=by rw [leadsB_nat,← rc_rch G k hk];exact h2
  have a2:leadsB G k k=true:=by rw [leadsB_nat,← rc_rch G k hk];exact .refl _
  rw [if_neg a1,if_pos a2]
  exact Nat.zero_lt_one
theorem fold_free (G:List (List Int)) (S:List Int):∀ (m i:Nat),upN G i≤m→i < G.length→(compsG G).getD i 0 ∉ S→∃ c,c < (foldG G).length∧freeF (foldG G) S c=true:=by
 intro m
 have hfl:=foldG_len G
 have step:∀ i,i < G.length→(compsG G).getD i 0 ∉ S→(∃ c,c < (foldG G).length∧freeF (foldG G) S c=true)∨∃ j,j < G.length∧(compsG G).getD j 0 ∉ S∧upN G j < upN G i:=by
  intro i hi hs
  have hb:=(compsG_ok G).lt i hi
  obtain ⟨c,hc⟩:=Int.eq_ofNat_of_zero_le hb.1
  rw [hc] at hs hb
  cases hf:freeF (foldG G) S c with
  | true=>exact .inl ⟨c,by omega,hf⟩
  | false=>
    right
    have hnot:¬ ((c:Int) ∉ S∧∀ i,i < (foldG G).length→(c:Int)∈(foldG G).getD i []→(i:Int)∈S):=fun h=>by rw [(freeF_iff _ _ _).2 h] at hf;cases hf
    have:∃ p,p < (foldG G).length∧(c:Int)∈(foldG G).getD p []∧(p:Int) ∉ S:=by
     refine Classical.byContradiction fun hno=>hnot ⟨hs,fun p hp hm=>Classical.byContradiction fun hps=>hno ⟨p,hp,hm,hps⟩⟩
    obtain ⟨p,hp,hm,hps⟩:=this
    obtain ⟨x,y,h1,h2,h3,h4,h5,h6⟩:=(foldG_mem G p c).1 hm
    refine ⟨x,h1,by rw [h4];exact hps,?_⟩
    have hyi:(compsG G).getD y 0=(compsG G).getD i 0:=h5.trans hc.symm
    have hyi2:=(comps_same G h2 hi).1 hyi
    have hxy:Tar.Rc (gN G) x y:=.one ((gN_mem G x y).2 ⟨h3,h2⟩)
    refine upN_lt h1 hi (hxy.trans hyi2.1) fun hix=>?_
    have:=(comps_same G h1 hi).2 ⟨hxy.trans hyi2.1,hix⟩
    rw [h4,hc] at this
    have:(p:Int)=(c:Int):=this
    omega
 induction m with
 | zero=>
   intro i hm hi hs
   rcases step i hi hs with h | ⟨j,_,_,h⟩
   ·exact h
   ·omega
 | succ m ih=>
   intro i hm hi hs
   rcases step i hi hs with h | ⟨j,h1,h2,h⟩
   ·exact h
   ·exact ih j (by omega) h1 h2
theorem nodup_sub:∀ {l S:List Int},l.Nodup→(∀ x∈l,x∈S)→l.length≤S.length:=by
 intro l
 induction l with
 | nil=>intro S _ _;exact Nat.zero_le _
 | cons x l ih=>
   intro S hd h
   obtain ⟨h1,h2⟩:=List.nodup_cons.1 hd
   have hx:=h x List.mem_cons_self
   have:=ih (S:=S.erase x) h2 fun y hy=>(List.mem_erase_of_ne (fun (e:y=x)=>h1 (by rw [← e];exact hy))).2 (h y (List.mem_cons_of_mem _ hy))
   have hl:=List.length_erase_of_mem hx
   have hp:=List.length_pos_of_mem hx
   simp only [List.length_cons]
   omega
theorem fold_next (G:List (List Int)) {S:List Int} (hS:OrdOk (foldG G) S) (hl:S.length < (foldG G).length):∃ c,nxtF (foldG G) S=some c:=by
 have hfl:=foldG_len G
 cases hn:nxtF (foldG G) S with
 | some c=>exact ⟨c,rfl⟩
 | none=>
   exfalso
   have hno:=nxtF_none hn
   have hall:∀ c,c < cntG G→(c:Int)∈S:=by
    intro c hc
    refine Classical.byContradiction fun hs=>?_
    obtain ⟨i,hi,e⟩:=(compsG_ok G).onto c hc
    obtain ⟨d,hd,hf⟩:=fold_free G S _ i (Nat.le_refl _) hi (by rw [e];exact hs)
    rw [hno d hd] at hf
    cases hf
   have:=nodup_sub (l:=(List.range (cntG G)).map fun (c:Nat)=>(c:Int)) (S:=S) (by
    rw [List.Nodup,List.pairwise_map]
    exact List.nodup_range.imp fun {a b} hab e=>hab (by omega)) (fun x hx=>by
    obtain ⟨c,hc,rfl⟩:=List.mem_map.1 hx
    exact hall c (List.mem_range.1 hc))
   simp at this
   omega
structure SeqF (F:List (List Int)) (S:List Int):Prop where
 ok:OrdOk F S
 ahead:∀ (j b:Nat),S[j]?=some (b:Int)→∀ a,a < F.length→(b:Int)∈F.getD a []→(a:Int)∈S.take j
theorem seq_snoc {F:List (List Int)} {S:List Int} {c:Nat} (h:SeqF F S) (h1:c < F.length) (h2:freeF F S c=true):SeqF F (S ++ [(c:Int)]):=by
 refine ⟨ordOk_snoc h.ok h1 h2,fun j b hj a ha hm=>?_⟩
 rcases Nat.lt_trichotomy j S.length with hlt | rfl | hlt
 ·rw [List.getElem?_append_left hlt] at hj
  rw [List.take_append_of_le_length (by omega)]
  exact h.ahead j b hj a ha hm
 ·rw [List.getElem?_append_right (Nat.le_refl _)] at hj
  simp only [Nat.sub_self,List.getElem?_cons_zero,Option.some.injEq] at hj
  rw [← hj] at hm
  rw [List.take_append_of_le_length (Nat.le_refl _),List.take_length]
  exact ((freeF_iff F S c).1 h2).2 a ha hm
 ·rw [List.getElem?_eq_none (by simp;omega)] at hj
  cases hj
theorem ordN_seq {F:List (List Int)}:∀ (m:Nat) (S:List Int),SeqF F S→SeqF F (ordN F m S):=by
 intro m
 induction m with
 | zero=>intro S h;exact h
 | succ m ih=>
   intro S h
   rw [ordN]
   cases hn:nxtF F S with
   | none=>exact h
   | some c=>
     obtain ⟨h1,h2,_⟩:=nxtF_some hn
     exact ih _ (seq_snoc h h1 h2)
theorem ordN_len {F:List (List Int)} (hF:∀ S,OrdOk F S→S.length < F.length→∃ c,nxtF F S=some c):∀ (m:Nat) (S:List Int),SeqF F S→F.length≤S.length+m→(ordN F m S).length=F.length:=by
 intro m
 induction m with
 | zero=>intro S h hl;have:=ordOk_len h.ok;show S.length=_;omega
 | succ m ih=>
   intro S h hl
   rw [ordN]
   by_cases hS:S.length < F.length
   ·obtain ⟨c,hc⟩:=hF S h.ok hS
    obtain ⟨h1,h2,_⟩:=nxtF_some hc
    rw [hc]
    exact ih _ (seq_snoc h h1 h2) (by simp;omega)
   ·rw [ordOk_full h.ok (by omega)]
    have:=ordOk_len h.ok
    show S.length=_
    omega
theorem ordG_seq (F:List (List Int)):SeqF F (ordG F):=ordN_seq _ _ ⟨ordOk_nil F,fun j b h=>by simp at h⟩
theorem ordG_len (G:List (List Int)):(ordG (foldG G)).length=cntG G:=by
 rw [ordG,ordN_len (fun S h1 h2=>fold_next G h1 h2) _ _ ⟨ordOk_nil _,fun j b h=>by simp at h⟩ (by simp),foldG_len]
end Go.Proofs.Ytchekhggdbcbbaa
set_option maxRecDepth 100000
namespace Go.Proofs.Ytchekhggdbcbbaa
open Go.AM
section
variable {CT:Nat→Option CFun}
end
end Go.Proofs.Ytchekhggdbcbbaa
set_option maxRecDepth 100000
namespace Go.Proofs.Ytchekhggdbcbbaa
open Go.AM
abbrev k_f4:Nat:=4
def s_f4_r0_k:List Nat:=[1,2,3,4,5,6,7,8,9,10,11,12,13,14,15,16,17,18,19,20,21,22,23,24,25,26,27,28,29,30,31,32,33,34,35,36,37,38,39,40,41,42,43,44,45,46,47,48,49,50,51,52,53,54,55,56,57,58,59,60,61,62,63,64,65,66,67,68,69,70,71,72,73,74,75,76,77,78,79,80,81,82,83,84,85,86,87,88,89,90,91,92,93,94,95,96,97,98,99,100,101,102,103,104,105,106,107,108,109,110,111,112,113,114,115,116,117,118,119,120,121,122,123,124,125,126,127,128,129,130,131,132,133,134,135,136,137,138,139,140,141,142,143,144,145,146,147]
theorem s_f4_r0_kT:killV s_f4_r0_k (startV 148 [] 1)=[]:=by kernel_rfl
theorem s_f4_r0_kA0:s_f4_r0_k.contains 0=false:=by kernel_rfl
def s_f4_r0:List AOper:=[
 ⟨some 2,(.move (.c (.s (.bool false)))),none⟩]
def s_f4_r0_tale:=hT s_f4_r0 s_f4_r0_k [] 3 [] [] [.cc (.s (.bool false))] (by kernel_rfl) (by kernel_rfl)
def s_f4_r1t1:List AOper:=[⟨some 16,(.call (.c (.fn 8 [] [])) [(.t 15)]),none⟩]
def s_f4_r1p0:List AOper:=[⟨some 15,(.move (.t 0)),none⟩]
def s_f4_r1:List AOper:=s_f4_r1p0 ++ s_f4_r1t1
def s_f4_r1p0_tale:=hT s_f4_r1p0 [] [15] 16 [] [(15,(.t 0))] [.tt 0] (by kernel_rfl) (by kernel_rfl)
def s_f4_r1_x:=hS s_f4_r1 s_f4_r1p0 s_f4_r1t1 [] [15] [15] rfl (by kernel_rfl)
def s_f4_r1t1_x:=hX s_f4_r1t1 [15] [⟨some 16,(.call (.c (.fn 8 [] [])) [(.t 15)]),none⟩] rfl
def s_f4_r2t1:List AOper:=[⟨some 2,(.move (.t 17)),none⟩]
def s_f4_r2p0:List AOper:=[⟨some 17,(.call (.c (.fn 9 [] [])) []),none⟩]
def s_f4_r2:List AOper:=s_f4_r2p0 ++ s_f4_r2t1
def s_f4_r2_x:=hO s_f4_r2 s_f4_r2p0 s_f4_r2t1 [0,16] [0,16,17] [⟨some 17,(.call (.c (.fn 9 [] [])) []),none⟩] rfl rfl (by kernel_rfl)
def s_f4_r2t1_tale:=hT s_f4_r2t1 [0,16,17] [2] 3 [] [(2,(.t 17))] [.tt 17] (by kernel_rfl) (by kernel_rfl)
def s_f4_r2t1_x:=hL s_f4_r2t1 [0,16,17] [2]
def s_f4_r3t2:List AOper:=[⟨some 3,(.move (.t 19)),none⟩]
def s_f4_r3p1:List AOper:=[⟨some 19,(.call (.c (.fn 17 [] [])) [(.t 18)]),none⟩]
def s_f4_r3t1:List AOper:=s_f4_r3p1 ++ s_f4_r3t2
def s_f4_r3p0:List AOper:=[⟨some 18,(.move (.t 0)),none⟩]
def s_f4_r3:List AOper:=s_f4_r3p0 ++ s_f4_r3t1
def s_f4_r3p0_tale:=hT s_f4_r3p0 [16] [18] 19 [] [(18,(.t 0))] [.tt 0] (by kernel_rfl) (by kernel_rfl)
def s_f4_r3_x:=hS s_f4_r3 s_f4_r3p0 s_f4_r3t1 [16] [18] [16,18,19] rfl (by kernel_rfl)
def s_f4_r3t1_x:=hO s_f4_r3t1 s_f4_r3p1 s_f4_r3t2 [18] [16,18,19] [⟨some 19,(.call (.c (.fn 17 [] [])) [(.t 18)]),none⟩] rfl rfl (by kernel_rfl)
def s_f4_r3t2_tale:=hT s_f4_r3t2 [16,18,19] [3] 4 [] [(3,(.t 19))] [.tt 19] (by kernel_rfl) (by kernel_rfl)
def s_f4_r3t2_x:=hL s_f4_r3t2 [16,18,19] [3]
def s_f4_r4t2:List AOper:=[⟨some 4,(.move (.t 21)),none⟩]
def s_f4_r4p1:List AOper:=[⟨some 21,(.call (.c (.fn 19 [] [])) [(.t 20)]),none⟩]
def s_f4_r4t1:List AOper:=s_f4_r4p1 ++ s_f4_r4t2
def s_f4_r4p0:List AOper:=[⟨some 20,(.move (.t 0)),none⟩]
def s_f4_r4:List AOper:=s_f4_r4p0 ++ s_f4_r4t1
def s_f4_r4p0_tale:=hT s_f4_r4p0 [] [20] 21 [] [(20,(.t 0))] [.tt 0] (by kernel_rfl) (by kernel_rfl)
def s_f4_r4_x:=hS s_f4_r4 s_f4_r4p0 s_f4_r4t1 [] [20] [20,21] rfl (by kernel_rfl)
def s_f4_r4t1_x:=hO s_f4_r4t1 s_f4_r4p1 s_f4_r4t2 [20] [20,21] [⟨some 21,(.call (.c (.fn 19 [] [])) [(.t 20)]),none⟩] rfl rfl (by kernel_rfl)
def s_f4_r4t2_tale:=hT s_f4_r4t2 [20,21] [4] 5 [] [(4,(.t 21))] [.tt 21] (by kernel_rfl) (by kernel_rfl)
def s_f4_r4t2_x:=hL s_f4_r4t2 [20,21] [4]
def s_f4_r5t2:List AOper:=[⟨some 5,(.move (.t 23)),none⟩]
def s_f4_r5p1:List AOper:=[⟨some 23,(.call (.c (.fn 11 [] [])) [(.t 22)]),none⟩]
def s_f4_r5t1:List AOper:=s_f4_r5p1 ++ s_f4_r5t2
def s_f4_r5p0:List AOper:=[⟨some 22,(.move (.t 0)),none⟩]
def s_f4_r5:List AOper:=s_f4_r5p0 ++ s_f4_r5t1
def s_f4_r5p0_tale:=hT s_f4_r5p0 [] [22] 23 [] [(22,(.t 0))] [.tt 0] (by kernel_rfl) (by kernel_rfl)
def s_f4_r5_x:=hS s_f4_r5 s_f4_r5p0 s_f4_r5t1 [] [22] [22,23] rfl (by kernel_rfl)
def s_f4_r5t1_x:=hO s_f4_r5t1 s_f4_r5p1 s_f4_r5t2 [22] [22,23] [⟨some 23,(.call (.c (.fn 11 [] [])) [(.t 22)]),none⟩] rfl rfl (by kernel_rfl)
def s_f4_r5t2_tale:=hT s_f4_r5t2 [22,23] [5] 6 [] [(5,(.t 23))] [.tt 23] (by kernel_rfl) (by kernel_rfl)
def s_f4_r5t2_x:=hL s_f4_r5t2 [22,23] [5]
def s_f4_r6:List AOper:=[
 ⟨some 24,(.move (.t 4)),none⟩,
 ⟨some 25,(.lenS .s (.t 24)),none⟩,
 ⟨some 26,(.move (.t 3)),none⟩,
 ⟨some 27,(.lenS .s (.t 26)),none⟩,
 ⟨some 28,(.bin .neq (.t 25) (.t 27)),none⟩]
def s_f4_r6_tale:=hT s_f4_r6 [24,25,26,27] [28] 29 [] [(28,(.op (.bin .neq (.t 0) (.t 1)) [(.op (.lenS .s (.t 0)) [(.t 4)]),(.op (.lenS .s (.t 0)) [(.t 3)])]))] [.tt 4,.sub 0 [0] [],.tt 3,.sub 0 [1] [],.sub 0 [] []] (by kernel_rfl) (by kernel_rfl)
def s_f4_r7:List AOper:=[
 ⟨some 2,(.move (.c (.s (.bool false)))),none⟩]
def s_f4_r7_tale:=hT s_f4_r7 [0,3,4,5,28] [2] 3 [] [(2,(.c (.s (.bool false))))] [.cc (.s (.bool false))] (by kernel_rfl) (by kernel_rfl)
def s_f4_r8t2:List AOper:=[⟨some 6,(.move (.t 31)),none⟩]
def s_f4_r8p1:List AOper:=[⟨some 31,(.mkSl [(.s (.int .i64 0))] 1 8 (.t 30) (.t 30)),none⟩]
def s_f4_r8t1:List AOper:=s_f4_r8p1 ++ s_f4_r8t2
def s_f4_r8p0:List AOper:=[⟨some 29,(.move (.t 3)),none⟩,⟨some 30,(.lenS .s (.t 29)),none⟩]
def s_f4_r8:List AOper:=s_f4_r8p0 ++ s_f4_r8t1
def s_f4_r8p0_tale:=hT s_f4_r8p0 [28,29] [30] 31 [] [(30,(.op (.lenS .s (.t 0)) [(.t 3)]))] [.tt 3,.sub 0 [] []] (by kernel_rfl) (by kernel_rfl)
def s_f4_r8_x:=hS s_f4_r8 s_f4_r8p0 s_f4_r8t1 [28,29] [30] [28,29,30,31] rfl (by kernel_rfl)
def s_f4_r8t1_x:=hO s_f4_r8t1 s_f4_r8p1 s_f4_r8t2 [30] [28,29,30,31] [⟨some 31,(.mkSl [(.s (.int .i64 0))] 1 8 (.t 30) (.t 30)),none⟩] rfl rfl (by kernel_rfl)
def s_f4_r8t2_tale:=hT s_f4_r8t2 [28,29,30,31] [6] 7 [] [(6,(.t 31))] [.tt 31] (by kernel_rfl) (by kernel_rfl)
def s_f4_r8t2_x:=hL s_f4_r8t2 [28,29,30,31] [6]
def s_f4_r9:List AOper:=[
 ⟨some 7,(.move (.c (.s (.int .i64 0)))),none⟩]
def s_f4_r9_tale:=hT s_f4_r9 [] [7] 8 [] [(7,(.c (.s (.int .i64 0))))] [.cc (.s (.int .i64 0))] (by kernel_rfl) (by kernel_rfl)
def s_f4_r10:List AOper:=[
 ⟨some 32,(.move (.t 7)),none⟩,
 ⟨some 33,(.move (.t 4)),none⟩,
 ⟨some 34,(.lenS .s (.t 33)),none⟩,
 ⟨some 35,(.bin .lss (.t 32) (.t 34)),none⟩]
def s_f4_r10_tale:=hT s_f4_r10 [32,33,34] [35] 36 [] [(35,(.op (.bin .lss (.t 0) (.t 1)) [(.t 7),(.op (.lenS .s (.t 0)) [(.t 4)])]))] [.tt 7,.tt 4,.sub 0 [1] [],.sub 0 [] []] (by kernel_rfl) (by kernel_rfl)
def s_f4_r11:List AOper:=[
 ⟨some 38,(.move (.t 4)),none⟩,
 ⟨some 39,(.move (.t 7)),none⟩,
 ⟨some 40,(.indexAddr 1 (.t 38) (.t 39)),none⟩,
 ⟨some 41,(.load false 1 (.t 40)),none⟩,
 ⟨some 42,(.bin .lss (.t 41) (.c (.s (.int .i64 0)))),none⟩,
 ⟨some 43,(.move (.t 42)),none⟩,
 ⟨some 44,(.move (.t 4)),some (43,false)⟩,
 ⟨some 45,(.move (.t 7)),some (43,false)⟩,
 ⟨some 46,(.indexAddr 1 (.t 44) (.t 45)),some (43,false)⟩,
 ⟨some 47,(.load false 1 (.t 46)),some (43,false)⟩,
 ⟨some 48,(.move (.t 3)),some (43,false)⟩,
 ⟨some 49,(.lenS .s (.t 48)),some (43,false)⟩,
 ⟨some 50,(.bin .geq (.t 47) (.t 49)),some (43,false)⟩,
 ⟨some 51,(.pick (.t 43) (.c (.s (.bool true))) (.t 50)),none⟩,
 ⟨some 52,(.move (.t 51)),none⟩,
 ⟨some 53,(.move (.t 6)),some (52,false)⟩,
 ⟨some 54,(.move (.t 4)),some (52,false)⟩,
 ⟨some 55,(.move (.t 7)),some (52,false)⟩,
 ⟨some 56,(.indexAddr 1 (.t 54) (.t 55)),some (52,false)⟩,
 ⟨some 57,(.load false 1 (.t 56)),some (52,false)⟩,
 ⟨some 58,(.indexAddr 1 (.t 53) (.t 57)),some (52,false)⟩,
 ⟨some 59,(.load false 1 (.t 58)),some (52,false)⟩,
 ⟨some 60,(.bin .neq (.t 59) (.c (.s (.int .i64 0)))),some (52,false)⟩,
 ⟨some 61,(.pick (.t 52) (.c (.s (.bool true))) (.t 60)),none⟩]
def s_f4_r11_tale:=hT s_f4_r11 [35,38,39,40,41,42,43,44,45,46,47,48,49,50,51,52,53,54,55,56,57,58,59,60] [61] 62 [] [(61,(.pick (.pick (.op (.bin .lss (.t 0) (.c (.s (.int .i64 0)))) [(.op (.load false 1 (.t 0)) [(.op (.indexAddr 1 (.t 0) (.t 1)) [(.t 4),(.t 7)])]),(.c (.s (.int .i64 0)))]) (.c (.s (.bool true))) (.op (.bin .geq (.t 0) (.t 1)) [(.op (.load false 1 (.t 0)) [(.op (.indexAddr 1 (.t 0) (.t 1)) [(.t 4),(.t 7)])]),(.op (.lenS .s (.t 0)) [(.t 3)])])) (.c (.s (.bool true))) (.op (.bin .neq (.t 0) (.c (.s (.int .i64 0)))) [(.op (.load false 1 (.t 0)) [(.op (.indexAddr 1 (.t 0) (.t 1)) [(.t 6),(.op (.load false 1 (.t 0)) [(.op (.indexAddr 1 (.t 0) (.t 1)) [(.t 4),(.t 7)])])])]),(.c (.s (.int .i64 0)))])))] [.tt 4,.tt 7,.sub 0 [0,0,0,0] [],.sub 0 [0,0,0] [],.sub 0 [0,0] [],.sub 0 [0,0] [],.sub 0 [0,2,0,0,0] [43],.sub 0 [0,2,0,0,1] [43],.sub 0 [0,2,0,0] [43],.sub 0 [0,2,0] [43],.sub 0 [0,2,1,0] [43],.sub 0 [0,2,1] [43],.sub 0 [0,2] [43],.sub 0 [0] [],.sub 0 [0] [],.sub 0 [2,0,0,0] [52],.sub 0 [2,0,0,1,0,0] [52],.sub 0 [2,0,0,1,0,1] [52],.sub 0 [2,0,0,1,0] [52],.sub 0 [2,0,0,1] [52],.sub 0 [2,0,0] [52],.sub 0 [2,0] [52],.sub 0 [2] [52],.sub 0 [] []] (by kernel_rfl) (by kernel_rfl)
def s_f4_r12:List AOper:=[
 ⟨some 2,(.move (.c (.s (.bool false)))),none⟩]
def s_f4_r12_tale:=hT s_f4_r12 [0,3,4,5,6,7,61] [2] 3 [] [(2,(.c (.s (.bool false))))] [.cc (.s (.bool false))] (by kernel_rfl) (by kernel_rfl)
def s_f4_r13t1:List AOper:=[⟨none,(.store 1 (.t 69) (.t 68)),none⟩]
def s_f4_r13p0:List AOper:=[⟨some 62,(.move (.t 6)),none⟩,⟨some 63,(.move (.t 4)),none⟩,⟨some 64,(.move (.t 7)),none⟩,⟨some 65,(.indexAddr 1 (.t 63) (.t 64)),none⟩,⟨some 66,(.load false 1 (.t 65)),none⟩,⟨some 67,(.move (.t 7)),none⟩,⟨some 68,(.bin .add (.t 67) (.c (.s (.int .i64 1)))),none⟩,⟨some 69,(.indexAddr 1 (.t 62) (.t 66)),none⟩]
def s_f4_r13:List AOper:=s_f4_r13p0 ++ s_f4_r13t1
def s_f4_r13p0_tale:=hT s_f4_r13p0 [61,62,63,64,65,66,67] [68,69] 70 [] [(68,(.op (.bin .add (.t 0) (.c (.s (.int .i64 1)))) [(.t 7),(.c (.s (.int .i64 1)))])),(69,(.op (.indexAddr 1 (.t 0) (.t 1)) [(.t 6),(.op (.load false 1 (.t 0)) [(.op (.indexAddr 1 (.t 0) (.t 1)) [(.t 4),(.t 7)])])]))] [.tt 6,.tt 4,.tt 7,.sub 1 [1,0] [],.sub 1 [1] [],.tt 7,.sub 0 [] [],.sub 1 [] []] (by kernel_rfl) (by kernel_rfl)
def s_f4_r13_x:=hS s_f4_r13 s_f4_r13p0 s_f4_r13t1 [61,62,63,64,65,66,67] [68,69] [61,62,63,64,65,66,67,68,69] rfl (by kernel_rfl)
def s_f4_r13t1_x:=hX s_f4_r13t1 [61,62,63,64,65,66,67,68,69] [⟨none,(.store 1 (.t 69) (.t 68)),none⟩] rfl
def s_f4_r14:List AOper:=[
 ⟨some 36,(.move (.t 7)),none⟩,
 ⟨some 37,(.bin .add (.t 36) (.c (.s (.int .i64 1)))),none⟩,
 ⟨some 7,(.move (.t 37)),none⟩]
def s_f4_r14_tale:=hT s_f4_r14 [36,37] [7] 38 [] [(7,(.op (.bin .add (.t 0) (.c (.s (.int .i64 1)))) [(.t 7),(.c (.s (.int .i64 1)))]))] [.tt 7,.sub 0 [] [],.sub 0 [] []] (by kernel_rfl) (by kernel_rfl)
def s_f4_l0_b:ACode:=
 (.seq (.seq (.regionE s_f4_r10 [32,33,34] [35])
 (.cond (.t 35)
 .skip
 (.exit 0)))
 (.seq (.block 1
 (.seq (.seq (.regionE s_f4_r11 [35,38,39,40,41,42,43,44,45,46,47,48,49,50,51,52,53,54,55,56,57,58,59,60] [61])
 (.cond (.t 61)
 (.seq (.regionE s_f4_r12 [0,3,4,5,6,7,61] [2])
 .ret)
 .skip))
 (.region s_f4_r13 [] [61,62,63,64,65,66,67,68,69])))
 (.regionE s_f4_r14 [36,37] [7])))
def s_f4_l0:ACode:=s_f4_l0_b
def s_f4_l0_ev:=hE s_f4_l0 s_f4_l0_b rfl
def s_f4_r15t2:List AOper:=[⟨some 8,(.move (.t 71)),none⟩]
def s_f4_r15p1:List AOper:=[⟨some 71,(.call (.c (.fn 21 [] [])) [(.t 70)]),none⟩]
def s_f4_r15t1:List AOper:=s_f4_r15p1 ++ s_f4_r15t2
def s_f4_r15p0:List AOper:=[⟨some 70,(.move (.t 0)),none⟩]
def s_f4_r15:List AOper:=s_f4_r15p0 ++ s_f4_r15t1
def s_f4_r15p0_tale:=hT s_f4_r15p0 [0,4,7,35] [70] 71 [] [(70,(.t 0))] [.tt 0] (by kernel_rfl) (by kernel_rfl)
def s_f4_r15_x:=hS s_f4_r15 s_f4_r15p0 s_f4_r15t1 [0,4,7,35] [70] [0,4,7,35,70,71] rfl (by kernel_rfl)
def s_f4_r15t1_x:=hO s_f4_r15t1 s_f4_r15p1 s_f4_r15t2 [70] [0,4,7,35,70,71] [⟨some 71,(.call (.c (.fn 21 [] [])) [(.t 70)]),none⟩] rfl rfl (by kernel_rfl)
def s_f4_r15t2_tale:=hT s_f4_r15t2 [0,4,7,35,70,71] [8] 9 [] [(8,(.t 71))] [.tt 71] (by kernel_rfl) (by kernel_rfl)
def s_f4_r15t2_x:=hL s_f4_r15t2 [0,4,7,35,70,71] [8]
def s_f4_r16:List AOper:=[
 ⟨some 9,(.move (.c (.s (.int .i64 0)))),none⟩]
def s_f4_r16_tale:=hT s_f4_r16 [] [9] 10 [] [(9,(.c (.s (.int .i64 0))))] [.cc (.s (.int .i64 0))] (by kernel_rfl) (by kernel_rfl)
def s_f4_r17:List AOper:=[
 ⟨some 72,(.move (.t 9)),none⟩,
 ⟨some 73,(.move (.t 8)),none⟩,
 ⟨some 74,(.lenS .s (.t 73)),none⟩,
 ⟨some 75,(.bin .lss (.t 72) (.t 74)),none⟩]
def s_f4_r17_tale:=hT s_f4_r17 [72,73,74] [75] 76 [] [(75,(.op (.bin .lss (.t 0) (.t 1)) [(.t 9),(.op (.lenS .s (.t 0)) [(.t 8)])]))] [.tt 9,.tt 8,.sub 0 [1] [],.sub 0 [] []] (by kernel_rfl) (by kernel_rfl)
def s_f4_r18:List AOper:=[
 ⟨some 10,(.move (.c (.s (.int .i64 0)))),none⟩]
def s_f4_r18_tale:=hT s_f4_r18 [75] [10] 11 [] [(10,(.c (.s (.int .i64 0))))] [.cc (.s (.int .i64 0))] (by kernel_rfl) (by kernel_rfl)
def s_f4_r19:List AOper:=[
 ⟨some 78,(.move (.t 10)),none⟩,
 ⟨some 79,(.move (.t 8)),none⟩,
 ⟨some 80,(.move (.t 9)),none⟩,
 ⟨some 81,(.indexAddr 1 (.t 79) (.t 80)),none⟩,
 ⟨some 82,(.load false 1 (.t 81)),none⟩,
 ⟨some 83,(.lenS .s (.t 82)),none⟩,
 ⟨some 84,(.bin .lss (.t 78) (.t 83)),none⟩]
def s_f4_r19_tale:=hT s_f4_r19 [78,79,80,81,82,83] [84] 85 [] [(84,(.op (.bin .lss (.t 0) (.t 1)) [(.t 10),(.op (.lenS .s (.t 0)) [(.op (.load false 1 (.t 0)) [(.op (.indexAddr 1 (.t 0) (.t 1)) [(.t 8),(.t 9)])])])]))] [.tt 10,.tt 8,.tt 9,.sub 0 [1,0,0] [],.sub 0 [1,0] [],.sub 0 [1] [],.sub 0 [] []] (by kernel_rfl) (by kernel_rfl)
def s_f4_r20:List AOper:=[
 ⟨some 87,(.move (.t 5)),none⟩,
 ⟨some 88,(.move (.t 9)),none⟩,
 ⟨some 89,(.indexAddr 1 (.t 87) (.t 88)),none⟩,
 ⟨some 90,(.load false 1 (.t 89)),none⟩,
 ⟨some 91,(.move (.t 5)),none⟩,
 ⟨some 92,(.move (.t 8)),none⟩,
 ⟨some 93,(.move (.t 9)),none⟩,
 ⟨some 94,(.indexAddr 1 (.t 92) (.t 93)),none⟩,
 ⟨some 95,(.load false 1 (.t 94)),none⟩,
 ⟨some 96,(.move (.t 10)),none⟩,
 ⟨some 97,(.indexAddr 1 (.t 95) (.t 96)),none⟩,
 ⟨some 98,(.load false 1 (.t 97)),none⟩,
 ⟨some 99,(.indexAddr 1 (.t 91) (.t 98)),none⟩,
 ⟨some 100,(.load false 1 (.t 99)),none⟩,
 ⟨some 11,(.move (.t 90)),none⟩,
 ⟨some 12,(.move (.t 100)),none⟩]
def s_f4_r20_tale:=hT s_f4_r20 [84,87,88,89,90,91,92,93,94,95,96,97,98,99,100] [11,12] 101 [] [(11,(.op (.load false 1 (.t 0)) [(.op (.indexAddr 1 (.t 0) (.t 1)) [(.t 5),(.t 9)])])),(12,(.op (.load false 1 (.t 0)) [(.op (.indexAddr 1 (.t 0) (.t 1)) [(.t 5),(.op (.load false 1 (.t 0)) [(.op (.indexAddr 1 (.t 0) (.t 1)) [(.op (.load false 1 (.t 0)) [(.op (.indexAddr 1 (.t 0) (.t 1)) [(.t 8),(.t 9)])]),(.t 10)])])])]))] [.tt 5,.tt 9,.sub 0 [0] [],.sub 0 [] [],.tt 5,.tt 8,.tt 9,.sub 1 [0,1,0,0,0] [],.sub 1 [0,1,0,0] [],.tt 10,.sub 1 [0,1,0] [],.sub 1 [0,1] [],.sub 1 [0] [],.sub 1 [] [],.sub 0 [] [],.sub 1 [] []] (by kernel_rfl) (by kernel_rfl)
def s_f4_r21:List AOper:=[
 ⟨some 101,(.move (.t 11)),none⟩,
 ⟨some 102,(.bin .lss (.t 101) (.c (.s (.int .i64 0)))),none⟩,
 ⟨some 103,(.move (.t 102)),none⟩,
 ⟨some 104,(.move (.t 12)),some (103,false)⟩,
 ⟨some 105,(.bin .lss (.t 104) (.c (.s (.int .i64 0)))),some (103,false)⟩,
 ⟨some 106,(.pick (.t 103) (.c (.s (.bool true))) (.t 105)),none⟩,
 ⟨some 107,(.move (.t 106)),none⟩,
 ⟨some 108,(.move (.t 11)),some (107,false)⟩,
 ⟨some 109,(.move (.t 3)),some (107,false)⟩,
 ⟨some 110,(.lenS .s (.t 109)),some (107,false)⟩,
 ⟨some 111,(.bin .geq (.t 108) (.t 110)),some (107,false)⟩,
 ⟨some 112,(.pick (.t 107) (.c (.s (.bool true))) (.t 111)),none⟩,
 ⟨some 113,(.move (.t 112)),none⟩,
 ⟨some 114,(.move (.t 12)),some (113,false)⟩,
 ⟨some 115,(.move (.t 3)),some (113,false)⟩,
 ⟨some 116,(.lenS .s (.t 115)),some (113,false)⟩,
 ⟨some 117,(.bin .geq (.t 114) (.t 116)),some (113,false)⟩,
 ⟨some 118,(.pick (.t 113) (.c (.s (.bool true))) (.t 117)),none⟩,
 ⟨some 119,(.move (.t 118)),none⟩,
 ⟨some 120,(.move (.t 11)),some (119,false)⟩,
 ⟨some 121,(.move (.t 12)),some (119,false)⟩,
 ⟨some 122,(.bin .neq (.t 120) (.t 121)),some (119,false)⟩,
 ⟨some 123,(.move (.t 122)),some (119,false)⟩,
 ⟨some 124,(.move (.t 6)),some (123,true)⟩,
 ⟨some 125,(.move (.t 11)),some (123,true)⟩,
 ⟨some 126,(.indexAddr 1 (.t 124) (.t 125)),some (123,true)⟩,
 ⟨some 127,(.load false 1 (.t 126)),some (123,true)⟩,
 ⟨some 128,(.move (.t 6)),some (123,true)⟩,
 ⟨some 129,(.move (.t 12)),some (123,true)⟩,
 ⟨some 130,(.indexAddr 1 (.t 128) (.t 129)),some (123,true)⟩,
 ⟨some 131,(.load false 1 (.t 130)),some (123,true)⟩,
 ⟨some 132,(.bin .geq (.t 127) (.t 131)),some (123,true)⟩,
 ⟨some 133,(.pick (.t 123) (.t 132) (.c (.s (.bool false)))),some (119,false)⟩,
 ⟨some 134,(.pick (.t 119) (.c (.s (.bool true))) (.t 133)),none⟩]
def s_f4_r21_tale:=hT s_f4_r21 [11,12,101,102,103,104,105,106,107,108,109,110,111,112,113,114,115,116,117,118,119,120,121,122,123,124,125,126,127,128,129,130,131,132,133] [134] 135 [] [(134,(.pick (.pick (.pick (.pick (.op (.bin .lss (.t 0) (.c (.s (.int .i64 0)))) [(.t 11),(.c (.s (.int .i64 0)))]) (.c (.s (.bool true))) (.op (.bin .lss (.t 0) (.c (.s (.int .i64 0)))) [(.t 12),(.c (.s (.int .i64 0)))])) (.c (.s (.bool true))) (.op (.bin .geq (.t 0) (.t 1)) [(.t 11),(.op (.lenS .s (.t 0)) [(.t 3)])])) (.c (.s (.bool true))) (.op (.bin .geq (.t 0) (.t 1)) [(.t 12),(.op (.lenS .s (.t 0)) [(.t 3)])])) (.c (.s (.bool true))) (.pick (.op (.bin .neq (.t 0) (.t 1)) [(.t 11),(.t 12)]) (.op (.bin .geq (.t 0) (.t 1)) [(.op (.load false 1 (.t 0)) [(.op (.indexAddr 1 (.t 0) (.t 1)) [(.t 6),(.t 11)])]),(.op (.load false 1 (.t 0)) [(.op (.indexAddr 1 (.t 0) (.t 1)) [(.t 6),(.t 12)])])]) (.c (.s (.bool false))))))] [.tt 11,.sub 0 [0,0,0,0] [],.sub 0 [0,0,0,0] [],.sub 0 [0,0,0,2,0] [103],.sub 0 [0,0,0,2] [103],.sub 0 [0,0,0] [],.sub 0 [0,0,0] [],.sub 0 [0,0,2,0] [107],.sub 0 [0,0,2,1,0] [107],.sub 0 [0,0,2,1] [107],.sub 0 [0,0,2] [107],.sub 0 [0,0] [],.sub 0 [0,0] [],.sub 0 [0,2,0] [113],.sub 0 [0,2,1,0] [113],.sub 0 [0,2,1] [113],.sub 0 [0,2] [113],.sub 0 [0] [],.sub 0 [0] [],.sub 0 [2,0,0] [119],.sub 0 [2,0,1] [119],.sub 0 [2,0] [119],.sub 0 [2,0] [119],.sub 0 [2,1,0,0,0] [119,123],.sub 0 [2,1,0,0,1] [119,123],.sub 0 [2,1,0,0] [119,123],.sub 0 [2,1,0] [119,123],.sub 0 [2,1,0,0,0] [119,123],.sub 0 [2,1,1,0,1] [119,123],.sub 0 [2,1,1,0] [119,123],.sub 0 [2,1,1] [119,123],.sub 0 [2,1] [119,123],.sub 0 [2] [119],.sub 0 [] []] (by kernel_rfl) (by kernel_rfl)
def s_f4_r22:List AOper:=[
 ⟨some 2,(.move (.c (.s (.bool false)))),none⟩]
def s_f4_r22_tale:=hT s_f4_r22 [3,5,6,8,9,10,134] [2] 3 [] [(2,(.c (.s (.bool false))))] [.cc (.s (.bool false))] (by kernel_rfl) (by kernel_rfl)
def s_f4_r23:List AOper:=[
 ⟨some 85,(.move (.t 10)),none⟩,
 ⟨some 86,(.bin .add (.t 85) (.c (.s (.int .i64 1)))),none⟩,
 ⟨some 10,(.move (.t 86)),none⟩]
def s_f4_r23_tale:=hT s_f4_r23 [85,86,134] [10] 87 [] [(10,(.op (.bin .add (.t 0) (.c (.s (.int .i64 1)))) [(.t 10),(.c (.s (.int .i64 1)))]))] [.tt 10,.sub 0 [] [],.sub 0 [] []] (by kernel_rfl) (by kernel_rfl)
def s_f4_l1_b:ACode:=
 (.seq (.seq (.regionE s_f4_r19 [78,79,80,81,82,83] [84])
 (.cond (.t 84)
 .skip
 (.exit 4)))
 (.seq (.block 5
 (.seq (.regionE s_f4_r20 [84,87,88,89,90,91,92,93,94,95,96,97,98,99,100] [11,12])
 (.seq (.regionE s_f4_r21 [11,12,101,102,103,104,105,106,107,108,109,110,111,112,113,114,115,116,117,118,119,120,121,122,123,124,125,126,127,128,129,130,131,132,133] [134])
 (.cond (.t 134)
 (.seq (.regionE s_f4_r22 [3,5,6,8,9,10,134] [2])
 .ret)
 .skip))))
 (.regionE s_f4_r23 [85,86,134] [10])))
def s_f4_l1:ACode:=s_f4_l1_b
def s_f4_l1_ev:=hE s_f4_l1 s_f4_l1_b rfl
def s_f4_r24:List AOper:=[
 ⟨some 76,(.move (.t 9)),none⟩,
 ⟨some 77,(.bin .add (.t 76) (.c (.s (.int .i64 1)))),none⟩,
 ⟨some 9,(.move (.t 77)),none⟩]
def s_f4_r24_tale:=hT s_f4_r24 [10,76,77,84] [9] 78 [] [(9,(.op (.bin .add (.t 0) (.c (.s (.int .i64 1)))) [(.t 9),(.c (.s (.int .i64 1)))]))] [.tt 9,.sub 0 [] [],.sub 0 [] []] (by kernel_rfl) (by kernel_rfl)
def s_f4_l2_b:ACode:=
 (.seq (.seq (.regionE s_f4_r17 [72,73,74] [75])
 (.cond (.t 75)
 .skip
 (.exit 2)))
 (.seq (.block 3
 (.seq (.regionE s_f4_r18 [75] [10])
 (.block 4
 (.loop [] s_f4_l1))))
 (.regionE s_f4_r24 [10,76,77,84] [9])))
def s_f4_l2:ACode:=s_f4_l2_b
def s_f4_l2_ev:=hE s_f4_l2 s_f4_l2_b rfl
def s_f4_r25t2:List AOper:=[⟨some 13,(.move (.t 136)),none⟩]
def s_f4_r25p1:List AOper:=[⟨some 136,(.call (.c (.fn 14 [] [])) [(.t 135)]),none⟩]
def s_f4_r25t1:List AOper:=s_f4_r25p1 ++ s_f4_r25t2
def s_f4_r25p0:List AOper:=[⟨some 135,(.move (.t 3)),none⟩]
def s_f4_r25:List AOper:=s_f4_r25p0 ++ s_f4_r25t1
def s_f4_r25p0_tale:=hT s_f4_r25p0 [3,5,6,8,9,75] [135] 136 [] [(135,(.t 3))] [.tt 3] (by kernel_rfl) (by kernel_rfl)
def s_f4_r25_x:=hS s_f4_r25 s_f4_r25p0 s_f4_r25t1 [3,5,6,8,9,75] [135] [3,5,6,8,9,75,135,136] rfl (by kernel_rfl)
def s_f4_r25t1_x:=hO s_f4_r25t1 s_f4_r25p1 s_f4_r25t2 [135] [3,5,6,8,9,75,135,136] [⟨some 136,(.call (.c (.fn 14 [] [])) [(.t 135)]),none⟩] rfl rfl (by kernel_rfl)
def s_f4_r25t2_tale:=hT s_f4_r25t2 [3,5,6,8,9,75,135,136] [13] 14 [] [(13,(.t 136))] [.tt 136] (by kernel_rfl) (by kernel_rfl)
def s_f4_r25t2_x:=hL s_f4_r25t2 [3,5,6,8,9,75,135,136] [13]
def s_f4_r26:List AOper:=[
 ⟨some 14,(.move (.c (.s (.int .i64 0)))),none⟩]
def s_f4_r26_tale:=hT s_f4_r26 [] [14] 15 [] [(14,(.c (.s (.int .i64 0))))] [.cc (.s (.int .i64 0))] (by kernel_rfl) (by kernel_rfl)
def s_f4_r27:List AOper:=[
 ⟨some 137,(.move (.t 14)),none⟩,
 ⟨some 138,(.move (.t 13)),none⟩,
 ⟨some 139,(.lenS .s (.t 138)),none⟩,
 ⟨some 140,(.bin .lss (.t 137) (.t 139)),none⟩]
def s_f4_r27_tale:=hT s_f4_r27 [137,138,139] [140] 141 [] [(140,(.op (.bin .lss (.t 0) (.t 1)) [(.t 14),(.op (.lenS .s (.t 0)) [(.t 13)])]))] [.tt 14,.tt 13,.sub 0 [1] [],.sub 0 [] []] (by kernel_rfl) (by kernel_rfl)
def s_f4_r28:List AOper:=[
 ⟨some 143,(.move (.t 13)),none⟩,
 ⟨some 144,(.move (.t 14)),none⟩,
 ⟨some 145,(.indexAddr 1 (.t 143) (.t 144)),none⟩,
 ⟨some 146,(.load false 1 (.t 145)),none⟩]
def s_f4_r28_tale:=hT s_f4_r28 [140,143,144,145] [146] 147 [] [(146,(.op (.load false 1 (.t 0)) [(.op (.indexAddr 1 (.t 0) (.t 1)) [(.t 13),(.t 14)])]))] [.tt 13,.tt 14,.sub 0 [0] [],.sub 0 [] []] (by kernel_rfl) (by kernel_rfl)
def s_f4_r29:List AOper:=[
 ⟨some 2,(.move (.c (.s (.bool false)))),none⟩]
def s_f4_r29_tale:=hT s_f4_r29 [13,14,146] [2] 3 [] [(2,(.c (.s (.bool false))))] [.cc (.s (.bool false))] (by kernel_rfl) (by kernel_rfl)
def s_f4_r30:List AOper:=[
 ⟨some 141,(.move (.t 14)),none⟩,
 ⟨some 142,(.bin .add (.t 141) (.c (.s (.int .i64 1)))),none⟩,
 ⟨some 14,(.move (.t 142)),none⟩]
def s_f4_r30_tale:=hT s_f4_r30 [141,142,146] [14] 143 [] [(14,(.op (.bin .add (.t 0) (.c (.s (.int .i64 1)))) [(.t 14),(.c (.s (.int .i64 1)))]))] [.tt 14,.sub 0 [] [],.sub 0 [] []] (by kernel_rfl) (by kernel_rfl)
def s_f4_l3_b:ACode:=
 (.seq (.seq (.regionE s_f4_r27 [137,138,139] [140])
 (.cond (.t 140)
 .skip
 (.exit 6)))
 (.seq (.block 7
 (.seq (.regionE s_f4_r28 [140,143,144,145] [146])
 (.cond (.t 146)
 (.seq (.regionE s_f4_r29 [13,14,146] [2])
 .ret)
 .skip)))
 (.regionE s_f4_r30 [141,142,146] [14])))
def s_f4_l3:ACode:=s_f4_l3_b
def s_f4_l3_ev:=hE s_f4_l3 s_f4_l3_b rfl
def s_f4_r31t1:List AOper:=[⟨some 2,(.move (.t 147)),none⟩]
def s_f4_r31p0:List AOper:=[⟨some 147,(.call (.c (.fn 9 [] [])) []),none⟩]
def s_f4_r31:List AOper:=s_f4_r31p0 ++ s_f4_r31t1
def s_f4_r31_x:=hO s_f4_r31 s_f4_r31p0 s_f4_r31t1 [13,14,140] [13,14,140,147] [⟨some 147,(.call (.c (.fn 9 [] [])) []),none⟩] rfl rfl (by kernel_rfl)
def s_f4_r31t1_tale:=hT s_f4_r31t1 [13,14,140,147] [2] 3 [] [(2,(.t 147))] [.tt 147] (by kernel_rfl) (by kernel_rfl)
def s_f4_r31t1_x:=hL s_f4_r31t1 [13,14,140,147] [2]
def s_f4:ACFun:={ ntmps:=148,results:=[(.tmp 2)],body:=
 (.seq (.regionE s_f4_r0 s_f4_r0_k [])
 (.seq (.seq (.region s_f4_r1 [] [15])
 (.cond (.t 16)
 (.seq (.region s_f4_r2 [] [0,16,17])
 .ret)
 .skip))
 (.seq (.region s_f4_r3 [] [16,18,19])
 (.seq (.region s_f4_r4 [] [20,21])
 (.seq (.region s_f4_r5 [] [22,23])
 (.seq (.seq (.regionE s_f4_r6 [24,25,26,27] [28])
 (.cond (.t 28)
 (.seq (.regionE s_f4_r7 [0,3,4,5,28] [2])
 .ret)
 .skip))
 (.seq (.region s_f4_r8 [] [28,29,30,31])
 (.seq (.seq (.regionE s_f4_r9 [] [7])
 (.block 0
 (.loop [] s_f4_l0)))
 (.seq (.region s_f4_r15 [] [0,4,7,35,70,71])
 (.seq (.seq (.regionE s_f4_r16 [] [9])
 (.block 2
 (.loop [] s_f4_l2)))
 (.seq (.region s_f4_r25 [] [3,5,6,8,9,75,135,136])
 (.seq (.seq (.regionE s_f4_r26 [] [14])
 (.block 6
 (.loop [] s_f4_l3)))
 (.seq (.region s_f4_r31 [] [13,14,140,147])
 .ret))))))))))))) }
abbrev k_f5:Nat:=5
def s_f5_r0_k:List Nat:=[1,2,3,4,5,6,7,8,9,10,11,12,13,14,15,16,17,18,19,20,21,22,23,24,25,26,27,28,29,30,31,32,33,34,35,36,37,38,39,40,41,42,43,44,45,46,47,48,49,50,51,52,53,54,55,56,57,58,59,60]
theorem s_f5_r0_kT:killV s_f5_r0_k (startV 61 [] 1)=[]:=by kernel_rfl
theorem s_f5_r0_kA0:s_f5_r0_k.contains 0=false:=by kernel_rfl
def s_f5_r0:List AOper:=[
 ⟨some 2,(.move (.c (.s (.bool false)))),none⟩]
def s_f5_r0_tale:=hT s_f5_r0 s_f5_r0_k [] 3 [] [] [.cc (.s (.bool false))] (by kernel_rfl) (by kernel_rfl)
def s_f5_r1t1:List AOper:=[⟨some 8,(.call (.c (.fn 8 [] [])) [(.t 7)]),none⟩]
def s_f5_r1p0:List AOper:=[⟨some 7,(.move (.t 0)),none⟩]
def s_f5_r1:List AOper:=s_f5_r1p0 ++ s_f5_r1t1
def s_f5_r1p0_tale:=hT s_f5_r1p0 [] [7] 8 [] [(7,(.t 0))] [.tt 0] (by kernel_rfl) (by kernel_rfl)
def s_f5_r1_x:=hS s_f5_r1 s_f5_r1p0 s_f5_r1t1 [] [7] [7] rfl (by kernel_rfl)
def s_f5_r1t1_x:=hX s_f5_r1t1 [7] [⟨some 8,(.call (.c (.fn 8 [] [])) [(.t 7)]),none⟩] rfl
def s_f5_r2t1:List AOper:=[⟨some 2,(.move (.t 9)),none⟩]
def s_f5_r2p0:List AOper:=[⟨some 9,(.call (.c (.fn 9 [] [])) []),none⟩]
def s_f5_r2:List AOper:=s_f5_r2p0 ++ s_f5_r2t1
def s_f5_r2_x:=hO s_f5_r2 s_f5_r2p0 s_f5_r2t1 [0,8] [0,8,9] [⟨some 9,(.call (.c (.fn 9 [] [])) []),none⟩] rfl rfl (by kernel_rfl)
def s_f5_r2t1_tale:=hT s_f5_r2t1 [0,8,9] [2] 3 [] [(2,(.t 9))] [.tt 9] (by kernel_rfl) (by kernel_rfl)
def s_f5_r2t1_x:=hL s_f5_r2t1 [0,8,9] [2]
def s_f5_r3t2:List AOper:=[⟨some 3,(.move (.t 11)),none⟩]
def s_f5_r3p1:List AOper:=[⟨some 11,(.call (.c (.fn 17 [] [])) [(.t 10)]),none⟩]
def s_f5_r3t1:List AOper:=s_f5_r3p1 ++ s_f5_r3t2
def s_f5_r3p0:List AOper:=[⟨some 10,(.move (.t 0)),none⟩]
def s_f5_r3:List AOper:=s_f5_r3p0 ++ s_f5_r3t1
def s_f5_r3p0_tale:=hT s_f5_r3p0 [8] [10] 11 [] [(10,(.t 0))] [.tt 0] (by kernel_rfl) (by kernel_rfl)
def s_f5_r3_x:=hS s_f5_r3 s_f5_r3p0 s_f5_r3t1 [8] [10] [8,10,11] rfl (by kernel_rfl)
def s_f5_r3t1_x:=hO s_f5_r3t1 s_f5_r3p1 s_f5_r3t2 [10] [8,10,11] [⟨some 11,(.call (.c (.fn 17 [] [])) [(.t 10)]),none⟩] rfl rfl (by kernel_rfl)
def s_f5_r3t2_tale:=hT s_f5_r3t2 [8,10,11] [3] 4 [] [(3,(.t 11))] [.tt 11] (by kernel_rfl) (by kernel_rfl)
def s_f5_r3t2_x:=hL s_f5_r3t2 [8,10,11] [3]
def s_f5_r4t2:List AOper:=[⟨some 4,(.move (.t 13)),none⟩]
def s_f5_r4p1:List AOper:=[⟨some 13,(.call (.c (.fn 11 [] [])) [(.t 12)]),none⟩]
def s_f5_r4t1:List AOper:=s_f5_r4p1 ++ s_f5_r4t2
def s_f5_r4p0:List AOper:=[⟨some 12,(.move (.t 3)),none⟩]
def s_f5_r4:List AOper:=s_f5_r4p0 ++ s_f5_r4t1
def s_f5_r4p0_tale:=hT s_f5_r4p0 [] [12] 13 [] [(12,(.t 3))] [.tt 3] (by kernel_rfl) (by kernel_rfl)
def s_f5_r4_x:=hS s_f5_r4 s_f5_r4p0 s_f5_r4t1 [] [12] [12,13] rfl (by kernel_rfl)
def s_f5_r4t1_x:=hO s_f5_r4t1 s_f5_r4p1 s_f5_r4t2 [12] [12,13] [⟨some 13,(.call (.c (.fn 11 [] [])) [(.t 12)]),none⟩] rfl rfl (by kernel_rfl)
def s_f5_r4t2_tale:=hT s_f5_r4t2 [12,13] [4] 5 [] [(4,(.t 13))] [.tt 13] (by kernel_rfl) (by kernel_rfl)
def s_f5_r4t2_x:=hL s_f5_r4t2 [12,13] [4]
def s_f5_r5t2:List AOper:=[⟨some 5,(.move (.t 15)),none⟩]
def s_f5_r5p1:List AOper:=[⟨some 15,(.call (.c (.fn 17 [] [])) [(.t 14)]),none⟩]
def s_f5_r5t1:List AOper:=s_f5_r5p1 ++ s_f5_r5t2
def s_f5_r5p0:List AOper:=[⟨some 14,(.move (.t 3)),none⟩]
def s_f5_r5:List AOper:=s_f5_r5p0 ++ s_f5_r5t1
def s_f5_r5p0_tale:=hT s_f5_r5p0 [] [14] 15 [] [(14,(.t 3))] [.tt 3] (by kernel_rfl) (by kernel_rfl)
def s_f5_r5_x:=hS s_f5_r5 s_f5_r5p0 s_f5_r5t1 [] [14] [14,15] rfl (by kernel_rfl)
def s_f5_r5t1_x:=hO s_f5_r5t1 s_f5_r5p1 s_f5_r5t2 [14] [14,15] [⟨some 15,(.call (.c (.fn 17 [] [])) [(.t 14)]),none⟩] rfl rfl (by kernel_rfl)
def s_f5_r5t2_tale:=hT s_f5_r5t2 [14,15] [5] 6 [] [(5,(.t 15))] [.tt 15] (by kernel_rfl) (by kernel_rfl)
def s_f5_r5t2_x:=hL s_f5_r5t2 [14,15] [5]
def s_f5_r6t6:List AOper:=[⟨some 34,(.un .not (.t 33)),some (28,false)⟩,⟨some 35,(.pick (.t 28) (.c (.s (.bool true))) (.t 34)),none⟩]
def s_f5_r6p5:List AOper:=[⟨some 33,(.call (.c (.fn 10 [] [])) [(.t 30),(.t 32)]),some (28,false)⟩]
def s_f5_r6t5:List AOper:=s_f5_r6p5 ++ s_f5_r6t6
def s_f5_r6p4:List AOper:=[⟨some 32,(.call (.c (.fn 19 [] [])) [(.t 31)]),some (28,false)⟩]
def s_f5_r6t4:List AOper:=s_f5_r6p4 ++ s_f5_r6t5
def s_f5_r6p3:List AOper:=[⟨some 31,(.move (.t 0)),some (28,false)⟩]
def s_f5_r6t3:List AOper:=s_f5_r6p3 ++ s_f5_r6t4
def s_f5_r6p2:List AOper:=[⟨some 30,(.call (.c (.fn 19 [] [])) [(.t 29)]),some (28,false)⟩]
def s_f5_r6t2:List AOper:=s_f5_r6p2 ++ s_f5_r6t3
def s_f5_r6p1:List AOper:=[⟨some 29,(.move (.t 3)),some (28,false)⟩]
def s_f5_r6t1:List AOper:=s_f5_r6p1 ++ s_f5_r6t2
def s_f5_r6p0:List AOper:=[⟨some 16,(.move (.t 4)),none⟩,⟨some 17,(.lenS .s (.t 16)),none⟩,⟨some 18,(.move (.t 3)),none⟩,⟨some 19,(.lenS .s (.t 18)),none⟩,⟨some 20,(.bin .neq (.t 17) (.t 19)),none⟩,⟨some 21,(.move (.t 20)),none⟩,⟨some 22,(.move (.t 5)),some (21,false)⟩,⟨some 23,(.lenS .s (.t 22)),some (21,false)⟩,⟨some 24,(.move (.t 3)),some (21,false)⟩,⟨some 25,(.lenS .s (.t 24)),some (21,false)⟩,⟨some 26,(.bin .neq (.t 23) (.t 25)),some (21,false)⟩,⟨some 27,(.pick (.t 21) (.c (.s (.bool true))) (.t 26)),none⟩,⟨some 28,(.move (.t 27)),none⟩]
def s_f5_r6:List AOper:=s_f5_r6p0 ++ s_f5_r6t1
def s_f5_r6p0_tale:=hT s_f5_r6p0 [16,17,18,19,20,21,22,23,24,25,26,27] [28] 29 [] [(28,(.pick (.op (.bin .neq (.t 0) (.t 1)) [(.op (.lenS .s (.t 0)) [(.t 4)]),(.op (.lenS .s (.t 0)) [(.t 3)])]) (.c (.s (.bool true))) (.op (.bin .neq (.t 0) (.t 1)) [(.op (.lenS .s (.t 0)) [(.t 5)]),(.op (.lenS .s (.t 0)) [(.t 3)])])))] [.tt 4,.sub 0 [0,0] [],.tt 3,.sub 0 [0,1] [],.sub 0 [0] [],.sub 0 [0] [],.sub 0 [2,0,0] [21],.sub 0 [2,0] [21],.sub 0 [2,1,0] [21],.sub 0 [2,1] [21],.sub 0 [2] [21],.sub 0 [] [],.sub 0 [] []] (by kernel_rfl) (by kernel_rfl)
def s_f5_r6_x:=hS s_f5_r6 s_f5_r6p0 s_f5_r6t1 [16,17,18,19,20,21,22,23,24,25,26,27] [28] [0,16,17,18,19,20,21,22,23,24,25,26,27,28,29,30,31,32,33,34] rfl (by kernel_rfl)
def s_f5_r6t1_x:=hO s_f5_r6t1 s_f5_r6p1 s_f5_r6t2 [] [0,16,17,18,19,20,21,22,23,24,25,26,27,28,29,30,31,32,33,34] [⟨some 29,(.move (.t 3)),some (28,false)⟩] rfl rfl (by kernel_rfl)
def s_f5_r6t2_x:=hO s_f5_r6t2 s_f5_r6p2 s_f5_r6t3 [29] [0,16,17,18,19,20,21,22,23,24,25,26,27,28,29,30,31,32,33,34] [⟨some 30,(.call (.c (.fn 19 [] [])) [(.t 29)]),some (28,false)⟩] rfl rfl (by kernel_rfl)
def s_f5_r6t3_x:=hO s_f5_r6t3 s_f5_r6p3 s_f5_r6t4 [0] [0,16,17,18,19,20,21,22,23,24,25,26,27,28,29,30,31,32,33,34] [⟨some 31,(.move (.t 0)),some (28,false)⟩] rfl rfl (by kernel_rfl)
def s_f5_r6t4_x:=hO s_f5_r6t4 s_f5_r6p4 s_f5_r6t5 [31] [0,16,17,18,19,20,21,22,23,24,25,26,27,28,29,30,31,32,33,34] [⟨some 32,(.call (.c (.fn 19 [] [])) [(.t 31)]),some (28,false)⟩] rfl rfl (by kernel_rfl)
def s_f5_r6t5_x:=hO s_f5_r6t5 s_f5_r6p5 s_f5_r6t6 [30,32] [0,16,17,18,19,20,21,22,23,24,25,26,27,28,29,30,31,32,33,34] [⟨some 33,(.call (.c (.fn 10 [] [])) [(.t 30),(.t 32)]),some (28,false)⟩] rfl rfl (by kernel_rfl)
def s_f5_r6t6_tale:=hT s_f5_r6t6 [0,16,17,18,19,20,21,22,23,24,25,26,27,28,29,30,31,32,33,34] [35] 36 [] [(35,(.pick (.t 28) (.c (.s (.bool true))) (.op (.un .not (.t 0)) [(.t 33)])))] [.sub 0 [2] [28],.sub 0 [] []] (by kernel_rfl) (by kernel_rfl)
def s_f5_r6t6_x:=hL s_f5_r6t6 [0,16,17,18,19,20,21,22,23,24,25,26,27,28,29,30,31,32,33,34] [35]
def s_f5_r7:List AOper:=[
 ⟨some 2,(.move (.c (.s (.bool false)))),none⟩]
def s_f5_r7_tale:=hT s_f5_r7 [3,4,5,35] [2] 3 [] [(2,(.c (.s (.bool false))))] [.cc (.s (.bool false))] (by kernel_rfl) (by kernel_rfl)
def s_f5_r8:List AOper:=[
 ⟨some 6,(.move (.c (.s (.int .i64 0)))),none⟩]
def s_f5_r8_tale:=hT s_f5_r8 [35] [6] 7 [] [(6,(.c (.s (.int .i64 0))))] [.cc (.s (.int .i64 0))] (by kernel_rfl) (by kernel_rfl)
def s_f5_r9:List AOper:=[
 ⟨some 36,(.move (.t 6)),none⟩,
 ⟨some 37,(.move (.t 3)),none⟩,
 ⟨some 38,(.lenS .s (.t 37)),none⟩,
 ⟨some 39,(.bin .lss (.t 36) (.t 38)),none⟩]
def s_f5_r9_tale:=hT s_f5_r9 [36,37,38] [39] 40 [] [(39,(.op (.bin .lss (.t 0) (.t 1)) [(.t 6),(.op (.lenS .s (.t 0)) [(.t 3)])]))] [.tt 6,.tt 3,.sub 0 [1] [],.sub 0 [] []] (by kernel_rfl) (by kernel_rfl)
def s_f5_r10t10:List AOper:=[⟨some 58,(.un .not (.t 57)),some (48,false)⟩,⟨some 59,(.pick (.t 48) (.c (.s (.bool true))) (.t 58)),none⟩]
def s_f5_r10p9:List AOper:=[⟨some 57,(.call (.c (.fn 10 [] [])) [(.t 52),(.t 56)]),some (48,false)⟩]
def s_f5_r10t9:List AOper:=s_f5_r10p9 ++ s_f5_r10t10
def s_f5_r10p8:List AOper:=[⟨some 56,(.load false 1 (.t 55)),some (48,false)⟩]
def s_f5_r10t8:List AOper:=s_f5_r10p8 ++ s_f5_r10t9
def s_f5_r10p7:List AOper:=[⟨some 55,(.indexAddr 1 (.t 53) (.t 54)),some (48,false)⟩]
def s_f5_r10t7:List AOper:=s_f5_r10p7 ++ s_f5_r10t8
def s_f5_r10p6:List AOper:=[⟨some 54,(.move (.t 6)),some (48,false)⟩]
def s_f5_r10t6:List AOper:=s_f5_r10p6 ++ s_f5_r10t7
def s_f5_r10p5:List AOper:=[⟨some 53,(.move (.t 5)),some (48,false)⟩]
def s_f5_r10t5:List AOper:=s_f5_r10p5 ++ s_f5_r10t6
def s_f5_r10p4:List AOper:=[⟨some 52,(.load false 1 (.t 51)),some (48,false)⟩]
def s_f5_r10t4:List AOper:=s_f5_r10p4 ++ s_f5_r10t5
def s_f5_r10p3:List AOper:=[⟨some 51,(.indexAddr 1 (.t 49) (.t 50)),some (48,false)⟩]
def s_f5_r10t3:List AOper:=s_f5_r10p3 ++ s_f5_r10t4
def s_f5_r10p2:List AOper:=[⟨some 50,(.move (.t 6)),some (48,false)⟩]
def s_f5_r10t2:List AOper:=s_f5_r10p2 ++ s_f5_r10t3
def s_f5_r10p1:List AOper:=[⟨some 49,(.move (.t 3)),some (48,false)⟩]
def s_f5_r10t1:List AOper:=s_f5_r10p1 ++ s_f5_r10t2
def s_f5_r10p0:List AOper:=[⟨some 42,(.move (.t 4)),none⟩,⟨some 43,(.move (.t 6)),none⟩,⟨some 44,(.indexAddr 1 (.t 42) (.t 43)),none⟩,⟨some 45,(.load false 1 (.t 44)),none⟩,⟨some 46,(.move (.t 6)),none⟩,⟨some 47,(.bin .neq (.t 45) (.t 46)),none⟩,⟨some 48,(.move (.t 47)),none⟩]
def s_f5_r10:List AOper:=s_f5_r10p0 ++ s_f5_r10t1
def s_f5_r10p0_tale:=hT s_f5_r10p0 [39,42,43,44,45,46,47] [48] 49 [] [(48,(.op (.bin .neq (.t 0) (.t 1)) [(.op (.load false 1 (.t 0)) [(.op (.indexAddr 1 (.t 0) (.t 1)) [(.t 4),(.t 6)])]),(.t 6)]))] [.tt 4,.tt 6,.sub 0 [0,0] [],.sub 0 [0] [],.tt 6,.sub 0 [] [],.sub 0 [] []] (by kernel_rfl) (by kernel_rfl)
def s_f5_r10_x:=hS s_f5_r10 s_f5_r10p0 s_f5_r10t1 [39,42,43,44,45,46,47] [48] [39,42,43,44,45,46,47,48,49,50,51,52,53,54,55,56,57,58] rfl (by kernel_rfl)
def s_f5_r10t1_x:=hO s_f5_r10t1 s_f5_r10p1 s_f5_r10t2 [] [39,42,43,44,45,46,47,48,49,50,51,52,53,54,55,56,57,58] [⟨some 49,(.move (.t 3)),some (48,false)⟩] rfl rfl (by kernel_rfl)
def s_f5_r10t2_x:=hO s_f5_r10t2 s_f5_r10p2 s_f5_r10t3 [] [39,42,43,44,45,46,47,48,49,50,51,52,53,54,55,56,57,58] [⟨some 50,(.move (.t 6)),some (48,false)⟩] rfl rfl (by kernel_rfl)
def s_f5_r10t3_x:=hO s_f5_r10t3 s_f5_r10p3 s_f5_r10t4 [49,50] [39,42,43,44,45,46,47,48,49,50,51,52,53,54,55,56,57,58] [⟨some 51,(.indexAddr 1 (.t 49) (.t 50)),some (48,false)⟩] rfl rfl (by kernel_rfl)
def s_f5_r10t4_x:=hO s_f5_r10t4 s_f5_r10p4 s_f5_r10t5 [51] [39,42,43,44,45,46,47,48,49,50,51,52,53,54,55,56,57,58] [⟨some 52,(.load false 1 (.t 51)),some (48,false)⟩] rfl rfl (by kernel_rfl)
def s_f5_r10t5_x:=hO s_f5_r10t5 s_f5_r10p5 s_f5_r10t6 [] [39,42,43,44,45,46,47,48,49,50,51,52,53,54,55,56,57,58] [⟨some 53,(.move (.t 5)),some (48,false)⟩] rfl rfl (by kernel_rfl)
def s_f5_r10t6_x:=hO s_f5_r10t6 s_f5_r10p6 s_f5_r10t7 [] [39,42,43,44,45,46,47,48,49,50,51,52,53,54,55,56,57,58] [⟨some 54,(.move (.t 6)),some (48,false)⟩] rfl rfl (by kernel_rfl)
def s_f5_r10t7_x:=hO s_f5_r10t7 s_f5_r10p7 s_f5_r10t8 [53,54] [39,42,43,44,45,46,47,48,49,50,51,52,53,54,55,56,57,58] [⟨some 55,(.indexAddr 1 (.t 53) (.t 54)),some (48,false)⟩] rfl rfl (by kernel_rfl)
def s_f5_r10t8_x:=hO s_f5_r10t8 s_f5_r10p8 s_f5_r10t9 [55] [39,42,43,44,45,46,47,48,49,50,51,52,53,54,55,56,57,58] [⟨some 56,(.load false 1 (.t 55)),some (48,false)⟩] rfl rfl (by kernel_rfl)
def s_f5_r10t9_x:=hO s_f5_r10t9 s_f5_r10p9 s_f5_r10t10 [52,56] [39,42,43,44,45,46,47,48,49,50,51,52,53,54,55,56,57,58] [⟨some 57,(.call (.c (.fn 10 [] [])) [(.t 52),(.t 56)]),some (48,false)⟩] rfl rfl (by kernel_rfl)
def s_f5_r10t10_tale:=hT s_f5_r10t10 [39,42,43,44,45,46,47,48,49,50,51,52,53,54,55,56,57,58] [59] 60 [] [(59,(.pick (.t 48) (.c (.s (.bool true))) (.op (.un .not (.t 0)) [(.t 57)])))] [.sub 0 [2] [48],.sub 0 [] []] (by kernel_rfl) (by kernel_rfl)
def s_f5_r10t10_x:=hL s_f5_r10t10 [39,42,43,44,45,46,47,48,49,50,51,52,53,54,55,56,57,58] [59]
def s_f5_r11:List AOper:=[
 ⟨some 2,(.move (.c (.s (.bool false)))),none⟩]
def s_f5_r11_tale:=hT s_f5_r11 [3,4,5,6,59] [2] 3 [] [(2,(.c (.s (.bool false))))] [.cc (.s (.bool false))] (by kernel_rfl) (by kernel_rfl)
def s_f5_r12:List AOper:=[
 ⟨some 40,(.move (.t 6)),none⟩,
 ⟨some 41,(.bin .add (.t 40) (.c (.s (.int .i64 1)))),none⟩,
 ⟨some 6,(.move (.t 41)),none⟩]
def s_f5_r12_tale:=hT s_f5_r12 [40,41,59] [6] 42 [] [(6,(.op (.bin .add (.t 0) (.c (.s (.int .i64 1)))) [(.t 6),(.c (.s (.int .i64 1)))]))] [.tt 6,.sub 0 [] [],.sub 0 [] []] (by kernel_rfl) (by kernel_rfl)
def s_f5_l0_b:ACode:=
 (.seq (.seq (.regionE s_f5_r9 [36,37,38] [39])
 (.cond (.t 39)
 .skip
 (.exit 0)))
 (.seq (.block 1
 (.seq (.region s_f5_r10 [] [39,42,43,44,45,46,47,48,49,50,51,52,53,54,55,56,57,58])
 (.cond (.t 59)
 (.seq (.regionE s_f5_r11 [3,4,5,6,59] [2])
 .ret)
 .skip)))
 (.regionE s_f5_r12 [40,41,59] [6])))
def s_f5_l0:ACode:=s_f5_l0_b
def s_f5_l0_ev:=hE s_f5_l0 s_f5_l0_b rfl
def s_f5_r13t1:List AOper:=[⟨some 2,(.move (.t 60)),none⟩]
def s_f5_r13p0:List AOper:=[⟨some 60,(.call (.c (.fn 9 [] [])) []),none⟩]
def s_f5_r13:List AOper:=s_f5_r13p0 ++ s_f5_r13t1
def s_f5_r13_x:=hO s_f5_r13 s_f5_r13p0 s_f5_r13t1 [3,4,5,6,39] [3,4,5,6,39,60] [⟨some 60,(.call (.c (.fn 9 [] [])) []),none⟩] rfl rfl (by kernel_rfl)
def s_f5_r13t1_tale:=hT s_f5_r13t1 [3,4,5,6,39,60] [2] 3 [] [(2,(.t 60))] [.tt 60] (by kernel_rfl) (by kernel_rfl)
def s_f5_r13t1_x:=hL s_f5_r13t1 [3,4,5,6,39,60] [2]
def s_f5:ACFun:={ ntmps:=61,results:=[(.tmp 2)],body:=
 (.seq (.regionE s_f5_r0 s_f5_r0_k [])
 (.seq (.seq (.region s_f5_r1 [] [7])
 (.cond (.t 8)
 (.seq (.region s_f5_r2 [] [0,8,9])
 .ret)
 .skip))
 (.seq (.region s_f5_r3 [] [8,10,11])
 (.seq (.region s_f5_r4 [] [12,13])
 (.seq (.region s_f5_r5 [] [14,15])
 (.seq (.seq (.region s_f5_r6 [] [0,16,17,18,19,20,21,22,23,24,25,26,27,28,29,30,31,32,33,34])
 (.cond (.t 35)
 (.seq (.regionE s_f5_r7 [3,4,5,35] [2])
 .ret)
 .skip))
 (.seq (.seq (.regionE s_f5_r8 [35] [6])
 (.block 0
 (.loop [] s_f5_l0)))
 (.seq (.region s_f5_r13 [] [3,4,5,6,39,60])
 .ret)))))))) }
abbrev k_f6:Nat:=6
def s_f6_r0_k:List Nat:=[1,2,3,4,5,6,7,8,9,10,11,12,13,14,15,16,17,18,19,20,21,22,23,24,25,26,27,28,29,30,31,32,33,34,35,36,37,38,39,40,41,42,43,44,45,46,47,48,49,50,51,52,53,54,55,56,57,58,59,60,61,62,63,64,65,66,67,68,69,70,71,72,73]
theorem s_f6_r0_kT:killV s_f6_r0_k (startV 74 [] 1)=[]:=by kernel_rfl
theorem s_f6_r0_kA0:s_f6_r0_k.contains 0=false:=by kernel_rfl
def s_f6_r0:List AOper:=[
 ⟨some 2,(.move (.c (.s (.bool false)))),none⟩]
def s_f6_r0_tale:=hT s_f6_r0 s_f6_r0_k [] 3 [] [] [.cc (.s (.bool false))] (by kernel_rfl) (by kernel_rfl)
def s_f6_r1t1:List AOper:=[⟨some 11,(.call (.c (.fn 8 [] [])) [(.t 10)]),none⟩]
def s_f6_r1p0:List AOper:=[⟨some 10,(.move (.t 0)),none⟩]
def s_f6_r1:List AOper:=s_f6_r1p0 ++ s_f6_r1t1
def s_f6_r1p0_tale:=hT s_f6_r1p0 [] [10] 11 [] [(10,(.t 0))] [.tt 0] (by kernel_rfl) (by kernel_rfl)
def s_f6_r1_x:=hS s_f6_r1 s_f6_r1p0 s_f6_r1t1 [] [10] [10] rfl (by kernel_rfl)
def s_f6_r1t1_x:=hX s_f6_r1t1 [10] [⟨some 11,(.call (.c (.fn 8 [] [])) [(.t 10)]),none⟩] rfl
def s_f6_r2t1:List AOper:=[⟨some 2,(.move (.t 12)),none⟩]
def s_f6_r2p0:List AOper:=[⟨some 12,(.call (.c (.fn 9 [] [])) []),none⟩]
def s_f6_r2:List AOper:=s_f6_r2p0 ++ s_f6_r2t1
def s_f6_r2_x:=hO s_f6_r2 s_f6_r2p0 s_f6_r2t1 [0,11] [0,11,12] [⟨some 12,(.call (.c (.fn 9 [] [])) []),none⟩] rfl rfl (by kernel_rfl)
def s_f6_r2t1_tale:=hT s_f6_r2t1 [0,11,12] [2] 3 [] [(2,(.t 12))] [.tt 12] (by kernel_rfl) (by kernel_rfl)
def s_f6_r2t1_x:=hL s_f6_r2t1 [0,11,12] [2]
def s_f6_r3t2:List AOper:=[⟨some 3,(.move (.t 14)),none⟩]
def s_f6_r3p1:List AOper:=[⟨some 14,(.call (.c (.fn 22 [] [])) [(.t 13)]),none⟩]
def s_f6_r3t1:List AOper:=s_f6_r3p1 ++ s_f6_r3t2
def s_f6_r3p0:List AOper:=[⟨some 13,(.move (.t 0)),none⟩]
def s_f6_r3:List AOper:=s_f6_r3p0 ++ s_f6_r3t1
def s_f6_r3p0_tale:=hT s_f6_r3p0 [11] [13] 14 [] [(13,(.t 0))] [.tt 0] (by kernel_rfl) (by kernel_rfl)
def s_f6_r3_x:=hS s_f6_r3 s_f6_r3p0 s_f6_r3t1 [11] [13] [11,13,14] rfl (by kernel_rfl)
def s_f6_r3t1_x:=hO s_f6_r3t1 s_f6_r3p1 s_f6_r3t2 [13] [11,13,14] [⟨some 14,(.call (.c (.fn 22 [] [])) [(.t 13)]),none⟩] rfl rfl (by kernel_rfl)
def s_f6_r3t2_tale:=hT s_f6_r3t2 [11,13,14] [3] 4 [] [(3,(.t 14))] [.tt 14] (by kernel_rfl) (by kernel_rfl)
def s_f6_r3t2_x:=hL s_f6_r3t2 [11,13,14] [3]
def s_f6_r4t4:List AOper:=[⟨some 4,(.move (.t 16)),none⟩,⟨some 5,(.move (.t 18)),none⟩]
def s_f6_r4p3:List AOper:=[⟨some 18,(.call (.c (.fn 14 [] [])) [(.t 17)]),none⟩]
def s_f6_r4t3:List AOper:=s_f6_r4p3 ++ s_f6_r4t4
def s_f6_r4p2:List AOper:=[⟨some 17,(.move (.t 3)),none⟩]
def s_f6_r4t2:List AOper:=s_f6_r4p2 ++ s_f6_r4t3
def s_f6_r4p1:List AOper:=[⟨some 16,(.call (.c (.fn 14 [] [])) [(.t 15)]),none⟩]
def s_f6_r4t1:List AOper:=s_f6_r4p1 ++ s_f6_r4t2
def s_f6_r4p0:List AOper:=[⟨some 15,(.move (.t 0)),none⟩]
def s_f6_r4:List AOper:=s_f6_r4p0 ++ s_f6_r4t1
def s_f6_r4p0_tale:=hT s_f6_r4p0 [] [15] 16 [] [(15,(.t 0))] [.tt 0] (by kernel_rfl) (by kernel_rfl)
def s_f6_r4_x:=hS s_f6_r4 s_f6_r4p0 s_f6_r4t1 [] [15] [15,16,17,18] rfl (by kernel_rfl)
def s_f6_r4t1_x:=hO s_f6_r4t1 s_f6_r4p1 s_f6_r4t2 [15] [15,16,17,18] [⟨some 16,(.call (.c (.fn 14 [] [])) [(.t 15)]),none⟩] rfl rfl (by kernel_rfl)
def s_f6_r4p2_tale:=hT s_f6_r4p2 [] [17] 18 [] [(17,(.t 3))] [.tt 3] (by kernel_rfl) (by kernel_rfl)
def s_f6_r4t2_x:=hS s_f6_r4t2 s_f6_r4p2 s_f6_r4t3 [] [17] [15,16,17,18] rfl (by kernel_rfl)
def s_f6_r4t3_x:=hO s_f6_r4t3 s_f6_r4p3 s_f6_r4t4 [17] [15,16,17,18] [⟨some 18,(.call (.c (.fn 14 [] [])) [(.t 17)]),none⟩] rfl rfl (by kernel_rfl)
def s_f6_r4t4_tale:=hT s_f6_r4t4 [15,16,17,18] [4,5] 6 [] [(4,(.t 16)),(5,(.t 18))] [.tt 16,.tt 18] (by kernel_rfl) (by kernel_rfl)
def s_f6_r4t4_x:=hL s_f6_r4t4 [15,16,17,18] [4,5]
def s_f6_r5t5:List AOper:=[⟨some 24,(.un .not (.t 23)),none⟩,⟨some 25,(.move (.t 24)),none⟩,⟨some 26,(.move (.t 4)),some (25,false)⟩,⟨some 27,(.lenS .s (.t 26)),some (25,false)⟩,⟨some 28,(.move (.t 5)),some (25,false)⟩,⟨some 29,(.lenS .s (.t 28)),some (25,false)⟩,⟨some 30,(.bin .neq (.t 27) (.t 29)),some (25,false)⟩,⟨some 31,(.pick (.t 25) (.c (.s (.bool true))) (.t 30)),none⟩]
def s_f6_r5p4:List AOper:=[⟨some 23,(.call (.c (.fn 10 [] [])) [(.t 20),(.t 22)]),none⟩]
def s_f6_r5t4:List AOper:=s_f6_r5p4 ++ s_f6_r5t5
def s_f6_r5p3:List AOper:=[⟨some 22,(.call (.c (.fn 11 [] [])) [(.t 21)]),none⟩]
def s_f6_r5t3:List AOper:=s_f6_r5p3 ++ s_f6_r5t4
def s_f6_r5p2:List AOper:=[⟨some 21,(.move (.t 3)),none⟩]
def s_f6_r5t2:List AOper:=s_f6_r5p2 ++ s_f6_r5t3
def s_f6_r5p1:List AOper:=[⟨some 20,(.call (.c (.fn 11 [] [])) [(.t 19)]),none⟩]
def s_f6_r5t1:List AOper:=s_f6_r5p1 ++ s_f6_r5t2
def s_f6_r5p0:List AOper:=[⟨some 19,(.move (.t 0)),none⟩]
def s_f6_r5:List AOper:=s_f6_r5p0 ++ s_f6_r5t1
def s_f6_r5p0_tale:=hT s_f6_r5p0 [] [19] 20 [] [(19,(.t 0))] [.tt 0] (by kernel_rfl) (by kernel_rfl)
def s_f6_r5_x:=hS s_f6_r5 s_f6_r5p0 s_f6_r5t1 [] [19] [19,20,21,22,23,24,25,26,27,28,29,30] rfl (by kernel_rfl)
def s_f6_r5t1_x:=hO s_f6_r5t1 s_f6_r5p1 s_f6_r5t2 [19] [19,20,21,22,23,24,25,26,27,28,29,30] [⟨some 20,(.call (.c (.fn 11 [] [])) [(.t 19)]),none⟩] rfl rfl (by kernel_rfl)
def s_f6_r5p2_tale:=hT s_f6_r5p2 [] [21] 22 [] [(21,(.t 3))] [.tt 3] (by kernel_rfl) (by kernel_rfl)
def s_f6_r5t2_x:=hS s_f6_r5t2 s_f6_r5p2 s_f6_r5t3 [] [21] [19,20,21,22,23,24,25,26,27,28,29,30] rfl (by kernel_rfl)
def s_f6_r5t3_x:=hO s_f6_r5t3 s_f6_r5p3 s_f6_r5t4 [21] [19,20,21,22,23,24,25,26,27,28,29,30] [⟨some 22,(.call (.c (.fn 11 [] [])) [(.t 21)]),none⟩] rfl rfl (by kernel_rfl)
def s_f6_r5t4_x:=hO s_f6_r5t4 s_f6_r5p4 s_f6_r5t5 [20,22] [19,20,21,22,23,24,25,26,27,28,29,30] [⟨some 23,(.call (.c (.fn 10 [] [])) [(.t 20),(.t 22)]),none⟩] rfl rfl (by kernel_rfl)
def s_f6_r5t5_tale:=hT s_f6_r5t5 [19,20,21,22,23,24,25,26,27,28,29,30] [31] 32 [] [(31,(.pick (.op (.un .not (.t 0)) [(.t 23)]) (.c (.s (.bool true))) (.op (.bin .neq (.t 0) (.t 1)) [(.op (.lenS .s (.t 0)) [(.t 4)]),(.op (.lenS .s (.t 0)) [(.t 5)])])))] [.sub 0 [0] [],.sub 0 [0] [],.sub 0 [2,0,0] [25],.sub 0 [2,0] [25],.sub 0 [2,1,0] [25],.sub 0 [2,1] [25],.sub 0 [2] [25],.sub 0 [] []] (by kernel_rfl) (by kernel_rfl)
def s_f6_r5t5_x:=hL s_f6_r5t5 [19,20,21,22,23,24,25,26,27,28,29,30] [31]
def s_f6_r6:List AOper:=[
 ⟨some 2,(.move (.c (.s (.bool false)))),none⟩]
def s_f6_r6_tale:=hT s_f6_r6 [0,3,4,5,31] [2] 3 [] [(2,(.c (.s (.bool false))))] [.cc (.s (.bool false))] (by kernel_rfl) (by kernel_rfl)
def s_f6_r7:List AOper:=[
 ⟨some 6,(.move (.c (.s (.int .i64 0)))),none⟩]
def s_f6_r7_tale:=hT s_f6_r7 [31] [6] 7 [] [(6,(.c (.s (.int .i64 0))))] [.cc (.s (.int .i64 0))] (by kernel_rfl) (by kernel_rfl)
def s_f6_r8:List AOper:=[
 ⟨some 32,(.move (.t 6)),none⟩,
 ⟨some 33,(.move (.t 4)),none⟩,
 ⟨some 34,(.lenS .s (.t 33)),none⟩,
 ⟨some 35,(.bin .lss (.t 32) (.t 34)),none⟩]
def s_f6_r8_tale:=hT s_f6_r8 [32,33,34] [35] 36 [] [(35,(.op (.bin .lss (.t 0) (.t 1)) [(.t 6),(.op (.lenS .s (.t 0)) [(.t 4)])]))] [.tt 6,.tt 4,.sub 0 [1] [],.sub 0 [] []] (by kernel_rfl) (by kernel_rfl)
def s_f6_r9:List AOper:=[
 ⟨some 38,(.move (.t 4)),none⟩,
 ⟨some 39,(.move (.t 6)),none⟩,
 ⟨some 40,(.indexAddr 1 (.t 38) (.t 39)),none⟩,
 ⟨some 41,(.load false 1 (.t 40)),none⟩,
 ⟨some 42,(.move (.t 5)),none⟩,
 ⟨some 43,(.move (.t 6)),none⟩,
 ⟨some 44,(.indexAddr 1 (.t 42) (.t 43)),none⟩,
 ⟨some 45,(.load false 1 (.t 44)),none⟩,
 ⟨some 46,(.eqB true (.t 41) (.t 45)),none⟩]
def s_f6_r9_tale:=hT s_f6_r9 [35,38,39,40,41,42,43,44,45] [46] 47 [] [(46,(.op (.eqB true (.t 0) (.t 1)) [(.op (.load false 1 (.t 0)) [(.op (.indexAddr 1 (.t 0) (.t 1)) [(.t 4),(.t 6)])]),(.op (.load false 1 (.t 0)) [(.op (.indexAddr 1 (.t 0) (.t 1)) [(.t 5),(.t 6)])])]))] [.tt 4,.tt 6,.sub 0 [0,0] [],.sub 0 [0] [],.tt 5,.tt 6,.sub 0 [1,0] [],.sub 0 [1] [],.sub 0 [] []] (by kernel_rfl) (by kernel_rfl)
def s_f6_r10:List AOper:=[
 ⟨some 2,(.move (.c (.s (.bool false)))),none⟩]
def s_f6_r10_tale:=hT s_f6_r10 [0,3,4,5,6,46] [2] 3 [] [(2,(.c (.s (.bool false))))] [.cc (.s (.bool false))] (by kernel_rfl) (by kernel_rfl)
def s_f6_r11:List AOper:=[
 ⟨some 36,(.move (.t 6)),none⟩,
 ⟨some 37,(.bin .add (.t 36) (.c (.s (.int .i64 1)))),none⟩,
 ⟨some 6,(.move (.t 37)),none⟩]
def s_f6_r11_tale:=hT s_f6_r11 [36,37,46] [6] 38 [] [(6,(.op (.bin .add (.t 0) (.c (.s (.int .i64 1)))) [(.t 6),(.c (.s (.int .i64 1)))]))] [.tt 6,.sub 0 [] [],.sub 0 [] []] (by kernel_rfl) (by kernel_rfl)
def s_f6_l0_b:ACode:=
 (.seq (.seq (.regionE s_f6_r8 [32,33,34] [35])
 (.cond (.t 35)
 .skip
 (.exit 0)))
 (.seq (.block 1
 (.seq (.regionE s_f6_r9 [35,38,39,40,41,42,43,44,45] [46])
 (.cond (.t 46)
 (.seq (.regionE s_f6_r10 [0,3,4,5,6,46] [2])
 .ret)
 .skip)))
 (.regionE s_f6_r11 [36,37,46] [6])))
def s_f6_l0:ACode:=s_f6_l0_b
def s_f6_l0_ev:=hE s_f6_l0 s_f6_l0_b rfl
def s_f6_r12t5:List AOper:=[⟨some 7,(.move (.t 48)),none⟩,⟨some 8,(.move (.t 51)),none⟩]
def s_f6_r12p4:List AOper:=[⟨some 51,(.call (.c (.fn 22 [] [])) [(.t 50)]),none⟩]
def s_f6_r12t4:List AOper:=s_f6_r12p4 ++ s_f6_r12t5
def s_f6_r12p3:List AOper:=[⟨some 50,(.call (.c (.fn 17 [] [])) [(.t 49)]),none⟩]
def s_f6_r12t3:List AOper:=s_f6_r12p3 ++ s_f6_r12t4
def s_f6_r12p2:List AOper:=[⟨some 49,(.move (.t 0)),none⟩]
def s_f6_r12t2:List AOper:=s_f6_r12p2 ++ s_f6_r12t3
def s_f6_r12p1:List AOper:=[⟨some 48,(.call (.c (.fn 17 [] [])) [(.t 47)]),none⟩]
def s_f6_r12t1:List AOper:=s_f6_r12p1 ++ s_f6_r12t2
def s_f6_r12p0:List AOper:=[⟨some 47,(.move (.t 3)),none⟩]
def s_f6_r12:List AOper:=s_f6_r12p0 ++ s_f6_r12t1
def s_f6_r12p0_tale:=hT s_f6_r12p0 [3,4,5,6,35] [47] 48 [] [(47,(.t 3))] [.tt 3] (by kernel_rfl) (by kernel_rfl)
def s_f6_r12_x:=hS s_f6_r12 s_f6_r12p0 s_f6_r12t1 [3,4,5,6,35] [47] [0,3,4,5,6,35,47,48,49,50,51] rfl (by kernel_rfl)
def s_f6_r12t1_x:=hO s_f6_r12t1 s_f6_r12p1 s_f6_r12t2 [47] [0,3,4,5,6,35,47,48,49,50,51] [⟨some 48,(.call (.c (.fn 17 [] [])) [(.t 47)]),none⟩] rfl rfl (by kernel_rfl)
def s_f6_r12p2_tale:=hT s_f6_r12p2 [0] [49] 50 [] [(49,(.t 0))] [.tt 0] (by kernel_rfl) (by kernel_rfl)
def s_f6_r12t2_x:=hS s_f6_r12t2 s_f6_r12p2 s_f6_r12t3 [0] [49] [0,3,4,5,6,35,47,48,49,50,51] rfl (by kernel_rfl)
def s_f6_r12t3_x:=hO s_f6_r12t3 s_f6_r12p3 s_f6_r12t4 [49] [0,3,4,5,6,35,47,48,49,50,51] [⟨some 50,(.call (.c (.fn 17 [] [])) [(.t 49)]),none⟩] rfl rfl (by kernel_rfl)
def s_f6_r12t4_x:=hO s_f6_r12t4 s_f6_r12p4 s_f6_r12t5 [50] [0,3,4,5,6,35,47,48,49,50,51] [⟨some 51,(.call (.c (.fn 22 [] [])) [(.t 50)]),none⟩] rfl rfl (by kernel_rfl)
def s_f6_r12t5_tale:=hT s_f6_r12t5 [0,3,4,5,6,35,47,48,49,50,51] [7,8] 9 [] [(7,(.t 48)),(8,(.t 51))] [.tt 48,.tt 51] (by kernel_rfl) (by kernel_rfl)
def s_f6_r12t5_x:=hL s_f6_r12t5 [0,3,4,5,6,35,47,48,49,50,51] [7,8]
def s_f6_r13:List AOper:=[
 ⟨some 52,(.move (.t 7)),none⟩,
 ⟨some 53,(.lenS .s (.t 52)),none⟩,
 ⟨some 54,(.move (.t 8)),none⟩,
 ⟨some 55,(.lenS .s (.t 54)),none⟩,
 ⟨some 56,(.bin .neq (.t 53) (.t 55)),none⟩]
def s_f6_r13_tale:=hT s_f6_r13 [52,53,54,55] [56] 57 [] [(56,(.op (.bin .neq (.t 0) (.t 1)) [(.op (.lenS .s (.t 0)) [(.t 7)]),(.op (.lenS .s (.t 0)) [(.t 8)])]))] [.tt 7,.sub 0 [0] [],.tt 8,.sub 0 [1] [],.sub 0 [] []] (by kernel_rfl) (by kernel_rfl)
def s_f6_r14:List AOper:=[
 ⟨some 2,(.move (.c (.s (.bool false)))),none⟩]
def s_f6_r14_tale:=hT s_f6_r14 [7,8,56] [2] 3 [] [(2,(.c (.s (.bool false))))] [.cc (.s (.bool false))] (by kernel_rfl) (by kernel_rfl)
def s_f6_r15:List AOper:=[
 ⟨some 9,(.move (.c (.s (.int .i64 0)))),none⟩]
def s_f6_r15_tale:=hT s_f6_r15 [56] [9] 10 [] [(9,(.c (.s (.int .i64 0))))] [.cc (.s (.int .i64 0))] (by kernel_rfl) (by kernel_rfl)
def s_f6_r16:List AOper:=[
 ⟨some 57,(.move (.t 9)),none⟩,
 ⟨some 58,(.move (.t 7)),none⟩,
 ⟨some 59,(.lenS .s (.t 58)),none⟩,
 ⟨some 60,(.bin .lss (.t 57) (.t 59)),none⟩]
def s_f6_r16_tale:=hT s_f6_r16 [57,58,59] [60] 61 [] [(60,(.op (.bin .lss (.t 0) (.t 1)) [(.t 9),(.op (.lenS .s (.t 0)) [(.t 7)])]))] [.tt 9,.tt 7,.sub 0 [1] [],.sub 0 [] []] (by kernel_rfl) (by kernel_rfl)
def s_f6_r17t2:List AOper:=[⟨some 72,(.un .not (.t 71)),none⟩]
def s_f6_r17p1:List AOper:=[⟨some 71,(.call (.c (.fn 10 [] [])) [(.t 66),(.t 70)]),none⟩]
def s_f6_r17t1:List AOper:=s_f6_r17p1 ++ s_f6_r17t2
def s_f6_r17p0:List AOper:=[⟨some 63,(.move (.t 7)),none⟩,⟨some 64,(.move (.t 9)),none⟩,⟨some 65,(.indexAddr 1 (.t 63) (.t 64)),none⟩,⟨some 66,(.load false 1 (.t 65)),none⟩,⟨some 67,(.move (.t 8)),none⟩,⟨some 68,(.move (.t 9)),none⟩,⟨some 69,(.indexAddr 1 (.t 67) (.t 68)),none⟩,⟨some 70,(.load false 1 (.t 69)),none⟩]
def s_f6_r17:List AOper:=s_f6_r17p0 ++ s_f6_r17t1
def s_f6_r17p0_tale:=hT s_f6_r17p0 [60,63,64,65,67,68,69] [66,70] 71 [] [(66,(.op (.load false 1 (.t 0)) [(.op (.indexAddr 1 (.t 0) (.t 1)) [(.t 7),(.t 9)])])),(70,(.op (.load false 1 (.t 0)) [(.op (.indexAddr 1 (.t 0) (.t 1)) [(.t 8),(.t 9)])]))] [.tt 7,.tt 9,.sub 0 [0] [],.sub 0 [] [],.tt 8,.tt 9,.sub 1 [0] [],.sub 1 [] []] (by kernel_rfl) (by kernel_rfl)
def s_f6_r17_x:=hS s_f6_r17 s_f6_r17p0 s_f6_r17t1 [60,63,64,65,67,68,69] [66,70] [60,63,64,65,66,67,68,69,70,71] rfl (by kernel_rfl)
def s_f6_r17t1_x:=hO s_f6_r17t1 s_f6_r17p1 s_f6_r17t2 [66,70] [60,63,64,65,66,67,68,69,70,71] [⟨some 71,(.call (.c (.fn 10 [] [])) [(.t 66),(.t 70)]),none⟩] rfl rfl (by kernel_rfl)
def s_f6_r17t2_tale:=hT s_f6_r17t2 [60,63,64,65,66,67,68,69,70,71] [72] 73 [] [(72,(.op (.un .not (.t 0)) [(.t 71)]))] [.sub 0 [] []] (by kernel_rfl) (by kernel_rfl)
def s_f6_r17t2_x:=hL s_f6_r17t2 [60,63,64,65,66,67,68,69,70,71] [72]
def s_f6_r18:List AOper:=[
 ⟨some 2,(.move (.c (.s (.bool false)))),none⟩]
def s_f6_r18_tale:=hT s_f6_r18 [7,8,9,72] [2] 3 [] [(2,(.c (.s (.bool false))))] [.cc (.s (.bool false))] (by kernel_rfl) (by kernel_rfl)
def s_f6_r19:List AOper:=[
 ⟨some 61,(.move (.t 9)),none⟩,
 ⟨some 62,(.bin .add (.t 61) (.c (.s (.int .i64 1)))),none⟩,
 ⟨some 9,(.move (.t 62)),none⟩]
def s_f6_r19_tale:=hT s_f6_r19 [61,62,72] [9] 63 [] [(9,(.op (.bin .add (.t 0) (.c (.s (.int .i64 1)))) [(.t 9),(.c (.s (.int .i64 1)))]))] [.tt 9,.sub 0 [] [],.sub 0 [] []] (by kernel_rfl) (by kernel_rfl)
def s_f6_l1_b:ACode:=
 (.seq (.seq (.regionE s_f6_r16 [57,58,59] [60])
 (.cond (.t 60)
 .skip
 (.exit 2)))
 (.seq (.block 3
 (.seq (.region s_f6_r17 [] [60,63,64,65,66,67,68,69,70,71])
 (.cond (.t 72)
 (.seq (.regionE s_f6_r18 [7,8,9,72] [2])
 .ret)
 .skip)))
 (.regionE s_f6_r19 [61,62,72] [9])))
def s_f6_l1:ACode:=s_f6_l1_b
def s_f6_l1_ev:=hE s_f6_l1 s_f6_l1_b rfl
def s_f6_r20t1:List AOper:=[⟨some 2,(.move (.t 73)),none⟩]
def s_f6_r20p0:List AOper:=[⟨some 73,(.call (.c (.fn 9 [] [])) []),none⟩]
def s_f6_r20:List AOper:=s_f6_r20p0 ++ s_f6_r20t1
def s_f6_r20_x:=hO s_f6_r20 s_f6_r20p0 s_f6_r20t1 [7,8,9,60] [7,8,9,60,73] [⟨some 73,(.call (.c (.fn 9 [] [])) []),none⟩] rfl rfl (by kernel_rfl)
def s_f6_r20t1_tale:=hT s_f6_r20t1 [7,8,9,60,73] [2] 3 [] [(2,(.t 73))] [.tt 73] (by kernel_rfl) (by kernel_rfl)
def s_f6_r20t1_x:=hL s_f6_r20t1 [7,8,9,60,73] [2]
def s_f6:ACFun:={ ntmps:=74,results:=[(.tmp 2)],body:=
 (.seq (.regionE s_f6_r0 s_f6_r0_k [])
 (.seq (.seq (.region s_f6_r1 [] [10])
 (.cond (.t 11)
 (.seq (.region s_f6_r2 [] [0,11,12])
 .ret)
 .skip))
 (.seq (.region s_f6_r3 [] [11,13,14])
 (.seq (.region s_f6_r4 [] [15,16,17,18])
 (.seq (.seq (.region s_f6_r5 [] [19,20,21,22,23,24,25,26,27,28,29,30])
 (.cond (.t 31)
 (.seq (.regionE s_f6_r6 [0,3,4,5,31] [2])
 .ret)
 .skip))
 (.seq (.seq (.regionE s_f6_r7 [31] [6])
 (.block 0
 (.loop [] s_f6_l0)))
 (.seq (.region s_f6_r12 [] [0,3,4,5,6,35,47,48,49,50,51])
 (.seq (.seq (.regionE s_f6_r13 [52,53,54,55] [56])
 (.cond (.t 56)
 (.seq (.regionE s_f6_r14 [7,8,56] [2])
 .ret)
 .skip))
 (.seq (.seq (.regionE s_f6_r15 [56] [9])
 (.block 2
 (.loop [] s_f6_l1)))
 (.seq (.region s_f6_r20 [] [7,8,9,60,73])
 .ret)))))))))) }
def a_f4:=ai @s_f4_r0_tale (ai @s_f4_r0_kT (ai @s_f4_r0_kA0 (ai @s_f4_r1p0_tale (ai @s_f4_r1_x (ai @s_f4_r1t1_x (ai @s_f4_r2_x (ai @s_f4_r2t1_tale (ai @s_f4_r2t1_x (ai @s_f4_r3p0_tale (ai @s_f4_r3_x (ai @s_f4_r3t1_x (ai @s_f4_r3t2_tale (ai @s_f4_r3t2_x (ai @s_f4_r4p0_tale (ai @s_f4_r4_x (ai @s_f4_r4t1_x (ai @s_f4_r4t2_tale (ai @s_f4_r4t2_x (ai @s_f4_r5p0_tale (ai @s_f4_r5_x (ai @s_f4_r5t1_x (ai @s_f4_r5t2_tale (ai @s_f4_r5t2_x (ai @s_f4_r6_tale (ai @s_f4_r7_tale (ai @s_f4_r8p0_tale (ai @s_f4_r8_x (ai @s_f4_r8t1_x (ai @s_f4_r8t2_tale (ai @s_f4_r8t2_x (ai @s_f4_r9_tale (ai @s_f4_r10_tale (ai @s_f4_r11_tale (ai @s_f4_r12_tale (ai @s_f4_r13p0_tale (ai @s_f4_r13_x (ai @s_f4_r13t1_x (ai @s_f4_r14_tale (ai @s_f4_l0_ev (ai @s_f4_r15p0_tale (ai @s_f4_r15_x (ai @s_f4_r15t1_x (ai @s_f4_r15t2_tale (ai @s_f4_r15t2_x (ai @s_f4_r16_tale (ai @s_f4_r17_tale (ai @s_f4_r18_tale (ai @s_f4_r19_tale (ai @s_f4_r20_tale (ai @s_f4_r21_tale (ai @s_f4_r22_tale (ai @s_f4_r23_tale (ai @s_f4_l1_ev (ai @s_f4_r24_tale (ai @s_f4_l2_ev (ai @s_f4_r25p0_tale (ai @s_f4_r25_x (ai @s_f4_r25t1_x (ai @s_f4_r25t2_tale (ai @s_f4_r25t2_x (ai @s_f4_r26_tale (ai @s_f4_r27_tale (ai @s_f4_r28_tale (ai @s_f4_r29_tale (ai @s_f4_r30_tale (ai @s_f4_l3_ev (ai @s_f4_r31_x (ai @s_f4_r31t1_tale (@s_f4_r31t1_x)))))))))))))))))))))))))))))))))))))))))))))))))))))))))))))))))))))
def a_f5:=ai @s_f5_r0_tale (ai @s_f5_r0_kT (ai @s_f5_r0_kA0 (ai @s_f5_r1p0_tale (ai @s_f5_r1_x (ai @s_f5_r1t1_x (ai @s_f5_r2_x (ai @s_f5_r2t1_tale (ai @s_f5_r2t1_x (ai @s_f5_r3p0_tale (ai @s_f5_r3_x (ai @s_f5_r3t1_x (ai @s_f5_r3t2_tale (ai @s_f5_r3t2_x (ai @s_f5_r4p0_tale (ai @s_f5_r4_x (ai @s_f5_r4t1_x (ai @s_f5_r4t2_tale (ai @s_f5_r4t2_x (ai @s_f5_r5p0_tale (ai @s_f5_r5_x (ai @s_f5_r5t1_x (ai @s_f5_r5t2_tale (ai @s_f5_r5t2_x (ai @s_f5_r6p0_tale (ai @s_f5_r6_x (ai @s_f5_r6t1_x (ai @s_f5_r6t2_x (ai @s_f5_r6t3_x (ai @s_f5_r6t4_x (ai @s_f5_r6t5_x (ai @s_f5_r6t6_tale (ai @s_f5_r6t6_x (ai @s_f5_r7_tale (ai @s_f5_r8_tale (ai @s_f5_r9_tale (ai @s_f5_r10p0_tale (ai @s_f5_r10_x (ai @s_f5_r10t1_x (ai @s_f5_r10t2_x (ai @s_f5_r10t3_x (ai @s_f5_r10t4_x (ai @s_f5_r10t5_x (ai @s_f5_r10t6_x (ai @s_f5_r10t7_x (ai @s_f5_r10t8_x (ai @s_f5_r10t9_x (ai @s_f5_r10t10_tale (ai @s_f5_r10t10_x (ai @s_f5_r11_tale (ai @s_f5_r12_tale (ai @s_f5_l0_ev (ai @s_f5_r13_x (ai @s_f5_r13t1_tale (@s_f5_r13t1_x))))))))))))))))))))))))))))))))))))))))))))))))))))))
def a_f6:=ai @s_f6_r0_tale (ai @s_f6_r0_kT (ai @s_f6_r0_kA0 (ai @s_f6_r1p0_tale (ai @s_f6_r1_x (ai @s_f6_r1t1_x (ai @s_f6_r2_x (ai @s_f6_r2t1_tale (ai @s_f6_r2t1_x (ai @s_f6_r3p0_tale (ai @s_f6_r3_x (ai @s_f6_r3t1_x (ai @s_f6_r3t2_tale (ai @s_f6_r3t2_x (ai @s_f6_r4p0_tale (ai @s_f6_r4_x (ai @s_f6_r4t1_x (ai @s_f6_r4p2_tale (ai @s_f6_r4t2_x (ai @s_f6_r4t3_x (ai @s_f6_r4t4_tale (ai @s_f6_r4t4_x (ai @s_f6_r5p0_tale (ai @s_f6_r5_x (ai @s_f6_r5t1_x (ai @s_f6_r5p2_tale (ai @s_f6_r5t2_x (ai @s_f6_r5t3_x (ai @s_f6_r5t4_x (ai @s_f6_r5t5_tale (ai @s_f6_r5t5_x (ai @s_f6_r6_tale (ai @s_f6_r7_tale (ai @s_f6_r8_tale (ai @s_f6_r9_tale (ai @s_f6_r10_tale (ai @s_f6_r11_tale (ai @s_f6_l0_ev (ai @s_f6_r12p0_tale (ai @s_f6_r12_x (ai @s_f6_r12t1_x (ai @s_f6_r12p2_tale (ai @s_f6_r12t2_x (ai @s_f6_r12t3_x (ai @s_f6_r12t4_x (ai @s_f6_r12t5_tale (ai @s_f6_r12t5_x (ai @s_f6_r13_tale (ai @s_f6_r14_tale (ai @s_f6_r15_tale (ai @s_f6_r16_tale (ai @s_f6_r17p0_tale (ai @s_f6_r17_x (ai @s_f6_r17t1_x (ai @s_f6_r17t2_tale (ai @s_f6_r17t2_x (ai @s_f6_r18_tale (ai @s_f6_r19_tale (ai @s_f6_l1_ev (ai @s_f6_r20_x (ai @s_f6_r20t1_tale (@s_f6_r20t1_x)))))))))))))))))))))))))))))))))))))))))))))))))))))))))))))
theorem SA7_4:compK Try.prog PX0 4=some (false,s_f4.ntmps,s_f4.results,s_f4.body.bare):=by kernel_rfl
theorem SA7_5:compK Try.prog PX0 5=some (false,s_f5.ntmps,s_f5.results,s_f5.body.bare):=by kernel_rfl
theorem SA7_6:compK Try.prog PX0 6=some (false,s_f6.ntmps,s_f6.results,s_f6.body.bare):=by kernel_rfl
end Go.Proofs.Ytchekhggdbcbbaa
set_option maxRecDepth 100000
namespace Go.Proofs.Ytchekhggdbcbbaa
open Go.AM
def great8 (G:List (List Int)):Bool:=decide (G.length > 60) || G.any fun r=>decide (r.length > 60)
theorem great8_small {G:List (List Int)} (h:great8 G=false):G.length≤60∧∀ r∈G,r.length≤60:=by
 unfold great8 at h
 rw [Bool.or_eq_false_iff] at h
 refine ⟨by have:=of_decide_eq_false h.1;omega,fun r hr=>?_⟩
 have:=h.2
 rw [List.any_eq_false] at this
 have:=this r hr
 simp at this
 exact this
section
variable {CT:Nat→Option CFun}
theorem great8_fun (hT:CT k_f8=some (.code s_f8)) (base:Nat) (H:Heap) (v:V) (G:List (List Int)) (hv:RdRows H v (rowsV G)):
 callW CT (.fn k_f8 [] []) [v] base H=some (.s (.bool (great8 G)),H):=by
 have hvl:=rows_lenV hv
 refine callW_fn (c:=s_f8) hT (by simp [s_f8]) ?_
 by_cases hn:G.length > 60
 ·have h0:decide ((G.length:Int) > 60)=true:=by rw [decide_eq_true_iff];omega
  have h1:great8 G=true:=by unfold great8;rw [decide_eq_true hn,Bool.true_or]
  simp only [s_f8,a_f8,s_f8_l0_b,aa,bl,i64,reduceIte,reduceCtorEq,Nat.reduceEqDiff,Nat.reduceLT,Nat.reduceLeDiff,Nat.reduceBEq,Nat.reduceAdd,fillA,splice,Nat.reduceMul,amY,op_eqP,hvl,h0,h1]
 ·have h0:decide ((G.length:Int) > 60)=false:=by rw [decide_eq_false_iff_not];omega
  have step:∀ i,i < G.length→decide ((G.getD i []).length > 60)=false→itW (evC (callW CT) itW base s_f8_l0) [] H.length (frOf 19 [(0,v),(3,.s (.int .i64 i))]) H=itW (evC (callW CT) itW base s_f8_l0) [] H.length (frOf 19 [(0,v),(3,.s (.int .i64 (i+1:Nat)))]) H:=by
   intro i hi hs
   have hlt':((i:Int) < (G.length:Int)):=by omega
   have hwk:=w64 (n:=i) (by omega)
   obtain ⟨ra,rx,r1,r2,r3,r4⟩:=rows_at hv (some_getD hi [])
   have hl:=iV_len r3
   have hs':decide (((G.getD i []).length:Int) > 60)=false:=by have:=of_decide_eq_false hs;rw [decide_eq_false_iff_not];omega
   rw [itW_step]
   simp only [a_f8,s_f8_l0_b,aa,bl,i64,reduceIte,reduceCtorEq,Nat.reduceEqDiff,Nat.reduceLT,Nat.reduceLeDiff,Nat.reduceBEq,Nat.reduceAdd,fillA,splice,Nat.reduceMul,amY,op_eqP,hvl,hlt',r1,r2,hl,hs',hwk,trim_same rfl]
  rcases it_find G.length (fun i=>decide ((G.getD i []).length > 60)) (fun i=>itW (evC (callW CT) itW base s_f8_l0) [] H.length (frOf 19 [(0,v),(3,.s (.int .i64 i))]) H) step with ⟨h1,h2⟩ | ⟨i,hi,h1,_,h3⟩
  ·have hg:great8 G=false:=by
    unfold great8
    rw [decide_eq_false hn,Bool.false_or,List.any_eq_false]
    intro r hr
    obtain ⟨i,hi⟩:=List.mem_iff_getElem?.1 hr
    have:=h1 i (List.getElem?_eq_some_iff.1 hi).1
    rw [getD_some hi []] at this
    rw [this];simp
   have hend:itW (evC (callW CT) itW base s_f8_l0) [] H.length (frOf 19 [(0,v),(3,.s (.int .i64 G.length))]) H=some (.ext 0,frOf 19 [(0,v),(3,.s (.int .i64 G.length)),(10,bl false)],H):=by
    rw [itW_step]
    simp only [bl,a_f8,s_f8_l0_b,aa,bl,i64,reduceIte,reduceCtorEq,Nat.reduceEqDiff,Nat.reduceLT,Nat.reduceLeDiff,Nat.reduceBEq,Nat.reduceAdd,fillA,splice,Nat.reduceMul,amY,op_eqP,hvl,Int.lt_irrefl,trim_same rfl]
   have h4:=h2.trans hend
   simp only [bl,cast0] at h4
   simp only [s_f8,a_f8,s_f8_l0_b,aa,bl,i64,reduceIte,reduceCtorEq,Nat.reduceEqDiff,Nat.reduceLT,Nat.reduceLeDiff,Nat.reduceBEq,Nat.reduceAdd,fillA,splice,Nat.reduceMul,amY,op_eqP,hvl,h0,h4,hg]
  ·have hg:great8 G=true:=by
    unfold great8
    rw [Bool.or_eq_true,List.any_eq_true]
    exact .inr ⟨_,List.mem_of_getElem? (some_getD hi []),h1⟩
   have hlt':((i:Int) < (G.length:Int)):=by omega
   obtain ⟨ra,rx,r1,r2,r3,r4⟩:=rows_at hv (some_getD hi [])
   have hl:=iV_len r3
   have hs':decide (((G.getD i []).length:Int) > 60)=true:=by have:=of_decide_eq_true h1;rw [decide_eq_true_iff];omega
   have hend:itW (evC (callW CT) itW base s_f8_l0) [] H.length (frOf 19 [(0,v),(3,.s (.int .i64 i))]) H=some (.ret,frOf 19 [(2,bl true)],H):=by
    rw [itW_step]
    simp only [bl,a_f8,s_f8_l0_b,aa,bl,i64,reduceIte,reduceCtorEq,Nat.reduceEqDiff,Nat.reduceLT,Nat.reduceLeDiff,Nat.reduceBEq,Nat.reduceAdd,fillA,splice,Nat.reduceMul,amY,op_eqP,hvl,hlt',r1,r2,hl,hs']
   have h4:=h3.trans hend
   simp only [bl,cast0] at h4
   simp only [s_f8,a_f8,s_f8_l0_b,aa,bl,i64,reduceIte,reduceCtorEq,Nat.reduceEqDiff,Nat.reduceLT,Nat.reduceLeDiff,Nat.reduceBEq,Nat.reduceAdd,fillA,splice,Nat.reduceMul,amY,op_eqP,hvl,h0,h4,hg]
structure CL (CT:Nat→Option CFun):Prop where
 f:CF CT
 great:CT k_f8=some (.code s_f8)
 wakes:∀ base H,callW CT (.fn k_f9 [] []) [] base H=some (.s (.bool true),H)
 same1:CT k_f10=some (.code s_f10)
end
end Go.Proofs.Ytchekhggdbcbbaa
set_option maxRecDepth 100000
namespace Go.Proofs.Ytchekhggdbcbbaa
open Go.AM
theorem fold_rc (G:List (List Int)) {a b:Nat} (h:Tar.Rc (gN (foldG G)) a b):∀ i k,i < G.length→k < G.length→(compsG G).getD i 0=(a:Int)→(compsG G).getD k 0=(b:Int)→Tar.Rc (gN G) i k:=by
 induction h with
 | refl=>intro i k hi hk h1 h2;exact ((comps_same G hi hk).1 (h1.trans h2.symm)).1
 | tail _ e ih=>
   rename_i x c _
   intro i k hi hk h1 h2
   obtain ⟨p,q,g1,g2,g3,g4,g5,_⟩:=(foldG_mem G x c).1 ((gN_mem (foldG G) x c).1 e).1
   have r1:=ih i p hi g1 h1 g4
   have r2:Tar.Rc (gN G) p q:=.one ((gN_mem G p q).2 ⟨g3,g2⟩)
   have r3:=((comps_same G g2 hk).1 (g5.trans h2.symm)).1
   exact (r1.trans r2).trans r3
theorem fold_one (G:List (List Int)) {a b:Nat} (ha:a < cntG G) (hb:b < cntG G) (h1:Tar.Rc (gN (foldG G)) a b) (h2:Tar.Rc (gN (foldG G)) b a):a=b:=by
 obtain ⟨i,hi,ei⟩:=(compsG_ok G).onto a ha
 obtain ⟨k,hk,ek⟩:=(compsG_ok G).onto b hb
 have:=(comps_same G hi hk).2 ⟨fold_rc G h1 i k hi hk ei ek,fold_rc G h2 k i hk hi ek ei⟩
 rw [ei,ek] at this
 omega
theorem numE_id {E:Nat→Nat→Bool} {n:Nat} (h:∀ a b,a < n→b < n→E a b=true→a=b):∀ i,i≤n→numE E i=((List.range i).map fun (k:Nat)=>(k:Int),i):=by
 intro i
 induction i with
 | zero=>intro _;rfl
 | succ i ih=>
   intro hi
   have hf:(List.range i).find? (fun k=>E i k)=none:=range_none fun k hk=>by
    cases he:E i k with
    | false=>rfl
    | true=>have:=h i k (by omega) (by omega) he;omega
   rw [numE_none hf,ih (by omega),List.range_succ,List.map_append]
   rfl
theorem fold_num (G:List (List Int)):numE (eqG (foldG G)) (cntG G)=((List.range (cntG G)).map fun (k:Nat)=>(k:Int),cntG G):=by
 have hl:=foldG_len G
 refine numE_id (n:=cntG G) (fun a b ha hb he=>?_) _ (Nat.le_refl _)
 have:=(eqG_rc (foldG G) (by omega) (by omega)).1 he
 exact fold_one G ha hb this.1 this.2
theorem fold_comps (G:List (List Int)):compsG (foldG G)=(List.range (cntG G)).map fun (k:Nat)=>(k:Int):=by
 unfold compsG
 rw [foldG_len,fold_num]
theorem fold_cnt (G:List (List Int)):cntG (foldG G)=cntG G:=by
 rw [cntG,foldG_len,fold_num]
theorem rows_eq {F K:List (List Int)} (h1:F.length=K.length) (h2:∀ r∈F,Up r) (h3:∀ r∈K,Up r) (h4:∀ a,a < F.length→∀ x,x∈F.getD a []↔x∈K.getD a []):F=K:=by
 apply List.ext_getElem?
 intro a
 by_cases ha:a < F.length
 ·have e1:=some_getD ha ([]:List Int)
  have e2:=some_getD (show a < K.length by omega) ([]:List Int)
  rw [e1,e2]
  exact congrArg some (up_eq _ _ (h2 _ (List.mem_of_getElem? e1)) (h3 _ (List.mem_of_getElem? e2)) (h4 a ha))
 ·rw [List.getElem?_eq_none (by omega),List.getElem?_eq_none (by omega)]
theorem fold_fold (G:List (List Int)):foldG (foldG G)=foldG G:=by
 have hl:=foldG_len G
 refine rows_eq (by rw [foldG_len,foldG_len,fold_cnt]) (fun r hr=>(foldG_row _ r hr).1) (fun r hr=>(foldG_row _ r hr).1) fun a ha x=>?_
 rw [foldG_len,fold_cnt] at ha
 constructor
 ·intro hx
  have hin:=foldG_in (foldG G) _ (List.mem_of_getElem? (some_getD (show a < (foldG (foldG G)).length by rw [foldG_len,fold_cnt];exact ha) [])) x hx
  obtain ⟨b,rfl⟩:=Int.eq_ofNat_of_zero_le hin.1
  obtain ⟨i,k,g1,g2,g3,g4,g5,_⟩:=(foldG_mem (foldG G) a b).1 hx
  rw [fold_comps] at g4 g5
  rw [hl] at g1 g2
  simp [g1] at g4
  simp [g2] at g5
  rw [← show i=a by omega,← show (k:Int)=(b:Int) by omega]
  exact g3
 ·intro hx
  have hin:=foldG_in G _ (List.mem_of_getElem? (some_getD (show a < (foldG G).length by omega) [])) x hx
  obtain ⟨b,rfl⟩:=Int.eq_ofNat_of_zero_le hin.1
  obtain ⟨_,_,_,_,_,_,_,hne⟩:=(foldG_mem G a b).1 hx
  have hb:b < cntG G:=by omega
  refine (foldG_mem (foldG G) a b).2 ⟨a,b,by omega,by omega,hx,?_,?_,hne⟩
  ·rw [fold_comps];simp [ha]
  ·rw [fold_comps];simp [hb]
theorem fold_cyc (G:List (List Int)):cycL (foldG G)=List.replicate (cntG G) false:=by
 have hl:=foldG_len G
 unfold cycL
 apply List.ext_getElem?
 intro a
 rw [List.getElem?_map,List.getElem?_replicate,hl]
 by_cases ha:a < cntG G
 ·rw [List.getElem?_range ha,if_pos ha]
  simp only [Option.map_some,Option.some.injEq]
  unfold cycG
  rw [decide_eq_false_iff_not]
  rintro ⟨k,hk,hr⟩
  obtain ⟨h1,h2,h3⟩:=(normG_get (foldG G) a k).1 hk
  obtain ⟨b,rfl⟩:=Int.eq_ofNat_of_zero_le h2
  have hb:b < cntG G:=by omega
  rw [leadsB_nat,← rc_rch (foldG G) b (by omega)] at hr
  have:=fold_one G ha hb (.one ((gN_mem (foldG G) a b).2 ⟨h1,by omega⟩)) hr
  obtain ⟨_,_,_,_,_,_,_,hne⟩:=(foldG_mem G a b).1 h1
  exact hne this
 ·rw [if_neg ha,List.getElem?_eq_none (by simp;omega)]
  rfl
theorem back_eq (G:List (List Int)) (a b:Nat) (ha:a < G.length) (hb:b < G.length):eqG (backG G) a b=eqG G a b:=by
 unfold eqG
 rw [leadsB_back G b a hb ha,leadsB_back G a b ha hb,Bool.and_comm]
theorem numE_congr {E K:Nat→Nat→Bool} {n:Nat} (h:∀ a b,a < n→b < n→E a b=K a b):∀ i,i≤n→numE E i=numE K i:=by
 intro i
 induction i with
 | zero=>intro _;rfl
 | succ i ih=>
   intro hi
   have hf:(List.range i).find? (fun k=>E i k)=(List.range i).find? (fun k=>K i k):=by
    cases hc:(List.range i).find? (fun k=>K i k) with
    | some k=>
      have f1:=List.find?_some hc
      obtain ⟨hk,f2⟩:=range_first hc
      exact range_find hk (by rw [h i k (by omega) (by omega)];exact f1) (fun j hj=>by rw [h i j (by omega) (by omega)];exact f2 j hj)
    | none=>
      refine range_none fun j hj=>?_
      have:=List.find?_eq_none.1 hc j (List.mem_range.2 hj)
      rw [h i j (by omega) (by omega)]
      simpa using this
   cases hc:(List.range i).find? (fun k=>K i k) with
   | some k=>rw [numE_some (hf.trans hc),numE_some hc,ih (by omega)]
   | none=>rw [numE_none (hf.trans hc),numE_none hc,ih (by omega)]
theorem back_comps (G:List (List Int)):compsG (backG G)=compsG G∧cntG (backG G)=cntG G:=by
 have hl:=backG_len G
 have:=numE_congr (E:=eqG (backG G)) (K:=eqG G) (n:=G.length) (fun a b ha hb=>back_eq G a b ha hb) G.length (Nat.le_refl _)
 unfold compsG cntG
 rw [hl,this]
 exact ⟨rfl,rfl⟩
theorem back_cyc (G:List (List Int)):cycL (backG G)=cycL G:=by
 have hl:=backG_len G
 unfold cycL
 rw [hl]
 apply List.map_congr_left
 intro i hi
 have hi:=List.mem_range.1 hi
 rw [← cycA_eq (backG G) (by omega),← cycA_eq G hi]
 unfold cycA
 rw [(back_comps G).1]
 have:((i:Int)∈(backG G).getD i [])↔(i:Int)∈G.getD i []:=backG_mem G i i hi
 simp only [this]
theorem back_fold (G:List (List Int)):foldG (backG G)=backG (foldG G):=by
 have hl:=backG_len G
 have hb:=back_comps G
 refine rows_eq (by rw [foldG_len,backG_len,foldG_len,hb.2]) (fun r hr=>(foldG_row _ r hr).1) (fun r hr=>(backG_rows _ r hr).1) fun a ha x=>?_
 rw [foldG_len,hb.2] at ha
 have haF:a < (foldG G).length:=by rw [foldG_len];exact ha
 have key:∀ b:Nat,(b:Int)∈(foldG (backG G)).getD a []↔(b:Int)∈(backG (foldG G)).getD a []:=by
  intro b
  rw [backG_mem (foldG G) b a haF,foldG_mem,foldG_mem,hb.1,hl]
  constructor
  ·rintro ⟨i,k,h1,h2,h3,h4,h5,h6⟩
   exact ⟨k,i,h2,h1,(backG_mem G k i h1).1 h3,h5,h4,fun e=>h6 e.symm⟩
  ·rintro ⟨i,k,h1,h2,h3,h4,h5,h6⟩
   exact ⟨k,i,h2,h1,(backG_mem G i k h2).2 h3,h5,h4,fun e=>h6 e.symm⟩
 constructor
 ·intro hx
  have hin:=foldG_in (backG G) _ (List.mem_of_getElem? (some_getD (show a < (foldG (backG G)).length by rw [foldG_len,hb.2];exact ha) [])) x hx
  obtain ⟨b,rfl⟩:=Int.eq_ofNat_of_zero_le hin.1
  exact (key b).1 hx
 ·intro hx
  have hin:=(backG_rows (foldG G) _ (List.mem_of_getElem? (some_getD (show a < (backG (foldG G)).length by rw [backG_len];exact haF) []))).2 x hx
  obtain ⟨b,rfl⟩:=Int.eq_ofNat_of_zero_le hin.1
  exact (key b).2 hx
end Go.Proofs.Ytchekhggdbcbbaa
set_option maxRecDepth 100000
namespace Go.Proofs.Ytchekhggdbcbbaa
open Go.AM
theorem backG_small (G:List (List Int)):∀ r∈backG G,r.length≤G.length:=by
 intro r hr
 obtain ⟨h1,h2⟩:=backG_rows G r hr
 rw [backG_len] at h2
 exact up_len h1 h2
section
variable {CT:Nat→Option CFun}
theorem back8_l0 (base:Nat) {H:Heap} {v bv xv yv:V} {X:List Bool} {n:Nat} (hX:X.length=n) (hx:Rd H xv (X.map bV)) (hxw:Wide1 xv) (hy:Rd H yv (X.map bV)) (hyw:Wide1 yv) (hn:n < 2 ^ 40):
 itW (evC (callW CT) itW base s_f6_l0) [] H.length (frOf 74 [(0,v),(3,bv),(4,xv),(5,yv),(6,.s (.int .i64 0))]) H=some (.ext 0,frOf 74 [(0,v),(3,bv),(4,xv),(5,yv),(6,.s (.int .i64 n)),(35,bl false)],H):=by
 have hxl:xLen H .s xv=some (.s (.int .i64 n)):=by have:=hx.len;rwa [List.length_map,hX] at this
 have hst:∀ i,i < n→itW (evC (callW CT) itW base s_f6_l0) [] H.length (frOf 74 [(0,v),(3,bv),(4,xv),(5,yv),(6,.s (.int .i64 i))]) H=itW (evC (callW CT) itW base s_f6_l0) [] H.length (frOf 74 [(0,v),(3,bv),(4,xv),(5,yv),(6,.s (.int .i64 (i+1:Nat)))]) H:=by
  intro i hi
  have hlt':((i:Int) < (n:Int)):=by omega
  have hwk:=w64 (n:=i) (by omega)
  obtain ⟨a,a1,a2⟩:=bV_at hx hxw (k:=i) (by omega)
  obtain ⟨b,b1,b2⟩:=bV_at hy hyw (k:=i) (by omega)
  rw [itW_step]
  cases hb:X.getD i false with
  | true=>
    rw [hb] at a2 b2
    simp only [a_f6,s_f6_l0_b,s_f6_l1_b,aa,bl,i64,reduceIte,reduceCtorEq,Nat.reduceEqDiff,Nat.reduceLT,Nat.reduceLeDiff,Nat.reduceBEq,Nat.reduceAdd,fillA,splice,Nat.reduceMul,amY,op_eqP,hxl,hlt',a1,a2,b1,b2,hwk,trim_same rfl]
  | false=>
    rw [hb] at a2 b2
    simp only [a_f6,s_f6_l0_b,s_f6_l1_b,aa,bl,i64,reduceIte,reduceCtorEq,Nat.reduceEqDiff,Nat.reduceLT,Nat.reduceLeDiff,Nat.reduceBEq,Nat.reduceAdd,fillA,splice,Nat.reduceMul,amY,op_eqP,hxl,hlt',a1,a2,b1,b2,hwk,trim_same rfl]
 have h2:=it_fun n (fun i=>itW (evC (callW CT) itW base s_f6_l0) [] H.length (frOf 74 [(0,v),(3,bv),(4,xv),(5,yv),(6,.s (.int .i64 i))]) H) hst 0 (Nat.zero_le _)
 refine h2.trans ?_
 rw [itW_step]
 simp only [bl,a_f6,s_f6_l0_b,s_f6_l1_b,aa,bl,i64,reduceIte,reduceCtorEq,Nat.reduceEqDiff,Nat.reduceLT,Nat.reduceLeDiff,Nat.reduceBEq,Nat.reduceAdd,fillA,splice,Nat.reduceMul,amY,op_eqP,hxl,Int.lt_irrefl,trim_same rfl]
theorem back8_l1 (hS:CT k_f10=some (.code s_f10)) (base:Nat) {H:Heap} {fv tv:V} {F:List (List Int)} (hf:RdRows H fv (rowsV F)) (ht:RdRows H tv (rowsV F)) (hn:F.length < 2 ^ 40) (hr:∀ r∈F,r.length < 2 ^ 60):
 itW (evC (callW CT) itW base s_f6_l1) [] H.length (frOf 74 [(7,fv),(8,tv),(9,.s (.int .i64 0))]) H=some (.ext 2,frOf 74 [(7,fv),(8,tv),(9,.s (.int .i64 F.length)),(60,bl false)],H):=by
 have hfl:=rows_lenV hf
 have hst:∀ i,i < F.length→itW (evC (callW CT) itW base s_f6_l1) [] H.length (frOf 74 [(7,fv),(8,tv),(9,.s (.int .i64 i))]) H=itW (evC (callW CT) itW base s_f6_l1) [] H.length (frOf 74 [(7,fv),(8,tv),(9,.s (.int .i64 (i+1:Nat)))]) H:=by
  intro i hi
  have hlt':((i:Int) < (F.length:Int)):=by omega
  have hwk:=w64 (n:=i) (by omega)
  have hgi:=some_getD hi ([]:List Int)
  obtain ⟨ra,rx,r1,r2,r3,r4⟩:=rows_at hf hgi
  obtain ⟨sa,sx,s1,s2,s3,s4⟩:=rows_at ht hgi
  have hs:=same_fun hS base H rx sx _ _ r3 r4 s3 s4 (by have:=hr _ (List.mem_of_getElem? hgi);omega)
  rw [beq_self_eq_true] at hs
  rw [itW_step]
  simp only [a_f6,s_f6_l0_b,s_f6_l1_b,aa,bl,i64,reduceIte,reduceCtorEq,Nat.reduceEqDiff,Nat.reduceLT,Nat.reduceLeDiff,Nat.reduceBEq,Nat.reduceAdd,fillA,splice,Nat.reduceMul,amY,op_eqP,hfl,hlt',r1,r2,s1,s2,hs,hwk,trim_same rfl]
 have h2:=it_fun F.length (fun i=>itW (evC (callW CT) itW base s_f6_l1) [] H.length (frOf 74 [(7,fv),(8,tv),(9,.s (.int .i64 i))]) H) hst 0 (Nat.zero_le _)
 refine h2.trans ?_
 rw [itW_step]
 simp only [bl,a_f6,s_f6_l0_b,s_f6_l1_b,aa,bl,i64,reduceIte,reduceCtorEq,Nat.reduceEqDiff,Nat.reduceLT,Nat.reduceLeDiff,Nat.reduceBEq,Nat.reduceAdd,fillA,splice,Nat.reduceMul,amY,op_eqP,hfl,Int.lt_irrefl,trim_same rfl]
theorem back_law (h:CL CT) (hL:CT k_f6=some (.code s_f6)) (base:Nat) (H:Heap) (hb:base≤H.length) (v:V) (G:List (List Int)) (hv:RdRows H v (rowsV G)):
 ∃ H',callW CT (.fn k_f6 [] []) [v] base H=some (.s (.bool true),H'):=by
 have hg:=great8_fun h.great base H v G hv
 cases hgr:great8 G with
 | true=>
   rw [hgr] at hg
   have hw:=h.wakes base H
   refine ⟨H,callW_fn (c:=s_f6) hL (by simp [s_f6]) ?_⟩
   simp only [s_f6,a_f6,s_f6_l0_b,s_f6_l1_b,aa,bl,i64,reduceIte,reduceCtorEq,Nat.reduceEqDiff,Nat.reduceLT,Nat.reduceLeDiff,Nat.reduceBEq,Nat.reduceAdd,fillA,splice,Nat.reduceMul,amY,op_eqP,hg,hw]
 | false=>
   rw [hgr] at hg
   obtain ⟨hn,hr⟩:=great8_small hgr
   have hr18:∀ r∈G,r.length < 2 ^ 18:=fun r h=>by have:=hr r h;omega
   have hr40:∀ r∈G,r.length < 2 ^ 40:=fun r h=>by have:=hr r h;omega
   have hlc:=compsG_len G
   have hcl:=cntG_le G
   have hfl:=foldG_len G
   have hbl:=backG_len G
   have hbs:=backG_small G
   have hrow:=foldG_row G
   obtain ⟨bv,H1,a1,a2,a3⟩:=back_f h.f.o.y.c.g base H v G hv hb (by omega) (fun r h=>by have:=hr r h;omega)
   have e1:=a2
   obtain ⟨xv,H2,b1,b2,b3⟩:=cyclic_f h.f.o.y base H1 v G (hv.ext e1) (by have:=e1.le;omega) (by omega) hr40
   have e2:=e1.trans b2
   obtain ⟨yv,H3,c1,c2,c3⟩:=cyclic_f h.f.o.y base H2 bv (backG G) (a3.ext b2) (by have:=e2.le;omega) (by omega) (fun r h=>by have:=hbs r h;omega)
   rw [back_cyc] at c3
   have e3:=e2.trans c2
   obtain ⟨pv,H4,d1,d2,d3⟩:=comps_f h.f.o.y.c base H3 v G (hv.ext e3) (by have:=e3.le;omega) (by omega) hr40
   have e4:=e3.trans d2
   obtain ⟨qv,H5,f1,f2,f3⟩:=comps_f h.f.o.y.c base H4 bv (backG G) (a3.ext ((b2.trans c2).trans d2)) (by have:=e4.le;omega) (by omega) (fun r h=>by have:=hbs r h;omega)
   rw [(back_comps G).1] at f3
   have e5:=e4.trans f2
   have hs:=same_fun h.same1 base H5 pv qv _ _ (d3.rd.ext f2) d3.wide f3.rd f3.wide (by omega)
   rw [beq_self_eq_true] at hs
   have hcl2:(cycL G).length=G.length:=by simp [cycL]
   have hxl:=(b3.rd.ext ((c2.trans d2).trans f2)).len
   have hyl:=(c3.rd.ext (d2.trans f2)).len
   rw [List.length_map,hcl2] at hxl hyl
   have hne:(((G.length:Nat):Int) != ((G.length:Nat):Int))=false:=bne_self_eq_false _
   have l0:=back8_l0 (CT:=CT) base (H:=H5) (v:=v) (bv:=bv) (xv:=xv) (yv:=yv) hcl2 (b3.rd.ext ((c2.trans d2).trans f2)) b3.wide (c3.rd.ext (d2.trans f2)) c3.wide (by omega)
   obtain ⟨fv,H6,g1,g2,g3⟩:=fold_f h.f.o base H5 bv (backG G) (a3.ext (((b2.trans c2).trans d2).trans f2)) (by have:=e5.le;omega) (by omega) (fun r h=>by have:=hbs r h;omega)
   rw [back_fold] at g3
   have e6:=e5.trans g2
   obtain ⟨uv,H7,m1,m2,m3⟩:=fold_f h.f.o base H6 v G (hv.ext e6) (by have:=e6.le;omega) (by omega) hr18
   have e7:=e6.trans m2
   obtain ⟨tv,H8,n1,n2,n3⟩:=back_f h.f.o.y.c.g base H7 uv (foldG G) m3.rd (by have:=e7.le;omega) (by omega) (fun r h=>by have:=(hrow r h).2;omega)
   have hfv:=rows_lenV g3.rd
   have htv:=rows_lenV n3
   have hbf:(backG (foldG G)).length=cntG G:=by rw [backG_len,hfl]
   have l1:=back8_l1 h.same1 base (H:=H8) (fv:=fv) (tv:=tv) (F:=backG (foldG G)) (g3.rd.ext (m2.trans n2)) n3 (by omega) (fun r h=>by have:=backG_small (foldG G) r h;omega)
   rw [hbf] at hfv htv l1
   have hne2:(((cntG G:Nat):Int) != ((cntG G:Nat):Int))=false:=bne_self_eq_false _
   have hw:=h.wakes base H8
   refine ⟨H8,callW_fn (c:=s_f6) hL (by simp [s_f6]) ?_⟩
   simp only [bl] at l0 l1
   simp only [s_f6,a_f6,s_f6_l0_b,s_f6_l1_b,aa,bl,i64,reduceIte,reduceCtorEq,Nat.reduceEqDiff,Nat.reduceLT,Nat.reduceLeDiff,Nat.reduceBEq,Nat.reduceAdd,fillA,splice,Nat.reduceMul,amY,op_eqP,hg,a1,b1,c1,d1,f1,hs,hxl,hyl,hne,l0,g1,m1,n1,hfv,htv,hne2,l1,hw]
   trace_state
end
end Go.Proofs.Ytchekhggdbcbbaa
