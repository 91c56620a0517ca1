/- Texts of the proof: CgS1, CgS2, CgC, CgF1, CgF2, CgF3, CgF4, CgF5, CgF6, CgF7, CgF8, CgF9, CgF10, CgF11, CgF12, CgF13, CgF14, CgF15, CgF16, CgF17, CgF18, CgF19, CgF20, CgP1, CgB1, CgP2, CgW3, CgW4, CgW5, CgR, CgD, CgD2, CgD3, CgQ, CgDomF1, AmI, AmU, CgDomF2, AmU2, AmH, CfgA1, CfgA2, CfgA3. -/
import Derived.Test.YtgimjihhlhjejaaP0
import Derived.Test.YtgimjihhlhjejaaP1
import Derived.Test.YtgimjihhlhjejaaP2
import Derived.KernelRfl
import Derived.Test.YtgimjihhlhjejaaProg
set_option linter.all false
set_option maxRecDepth 100000
namespace Go.Proofs.Ytgimjihhlhjejaa
open Go.AM
abbrev k_f23:Nat:=23
def s_f23_r0_k:List Nat:=[1,2,3,4,5,6,7,8,9,10,11,12,13,14,15,16,17,18,19,20,21,22,23,24,25,26,27,28,29,30,31,32,33,34,35,36,37,38,39,40,41,42,43,44,45,46,47,48,49,50,51,52,53,54,55,56,57,58,59,60]
theorem s_f23_r0_kT:killV s_f23_r0_k (startV 61 [] 1)=[]:=by kernel_rfl
theorem s_f23_r0_kA0:s_f23_r0_k.contains 0=false:=by kernel_rfl
def s_f23_r0:List AOper:=[
 ⟨some 2,(.move (.c (.s (.slice none 0 0)))),none⟩]
def s_f23_r0_tale:=hT s_f23_r0 s_f23_r0_k [] 3 [] [] [.cc (.s (.slice none 0 0))] (by kernel_rfl) (by kernel_rfl)
def s_f23_r1:List AOper:=[
 ⟨some 6,(.move (.t 0)),none⟩,
 ⟨some 7,(.lenS .s (.t 6)),none⟩,
 ⟨some 8,(.bin .lss (.t 7) (.c (.s (.int .i64 2)))),none⟩]
def s_f23_r1_tale:=hT s_f23_r1 [6,7] [8] 9 [] [(8,(.op (.bin .lss (.t 0) (.c (.s (.int .i64 2)))) [(.op (.lenS .s (.t 0)) [(.t 0)]),(.c (.s (.int .i64 2)))]))] [.tt 0,.sub 0 [0] [],.sub 0 [] []] (by kernel_rfl) (by kernel_rfl)
def s_f23_r2:List AOper:=[
 ⟨some 9,(.move (.t 0)),none⟩,
 ⟨some 2,(.move (.t 9)),none⟩]
def s_f23_r2_tale:=hT s_f23_r2 [0,8,9] [2] 10 [] [(2,(.t 0))] [.tt 0,.tt 0] (by kernel_rfl) (by kernel_rfl)
def s_f23_r3:List AOper:=[
 ⟨some 3,(.move (.c (.s (.int .i64 1)))),none⟩]
def s_f23_r3_tale:=hT s_f23_r3 [8] [3] 4 [] [(3,(.c (.s (.int .i64 1))))] [.cc (.s (.int .i64 1))] (by kernel_rfl) (by kernel_rfl)
def s_f23_r4:List AOper:=[
 ⟨some 10,(.move (.t 3)),none⟩,
 ⟨some 11,(.move (.t 0)),none⟩,
 ⟨some 12,(.lenS .s (.t 11)),none⟩,
 ⟨some 13,(.bin .lss (.t 10) (.t 12)),none⟩]
def s_f23_r4_tale:=hT s_f23_r4 [10,11,12] [13] 14 [] [(13,(.op (.bin .lss (.t 0) (.t 1)) [(.t 3),(.op (.lenS .s (.t 0)) [(.t 0)])]))] [.tt 3,.tt 0,.sub 0 [1] [],.sub 0 [] []] (by kernel_rfl) (by kernel_rfl)
def s_f23_r5:List AOper:=[
 ⟨some 16,(.move (.t 0)),none⟩,
 ⟨some 17,(.move (.t 3)),none⟩,
 ⟨some 18,(.indexAddr 1 (.t 16) (.t 17)),none⟩,
 ⟨some 19,(.load false 1 (.t 18)),none⟩,
 ⟨some 20,(.move (.t 0)),none⟩,
 ⟨some 21,(.move (.t 3)),none⟩,
 ⟨some 22,(.bin .sub (.t 21) (.c (.s (.int .i64 1)))),none⟩,
 ⟨some 23,(.indexAddr 1 (.t 20) (.t 22)),none⟩,
 ⟨some 24,(.load false 1 (.t 23)),none⟩,
 ⟨some 25,(.bin .eql (.t 19) (.t 24)),none⟩]
def s_f23_r5_tale:=hT s_f23_r5 [13,16,17,18,19,20,21,22,23,24] [25] 26 [] [(25,(.op (.bin .eql (.t 0) (.t 1)) [(.op (.load false 1 (.t 0)) [(.op (.indexAddr 1 (.t 0) (.t 1)) [(.t 0),(.t 3)])]),(.op (.load false 1 (.t 0)) [(.op (.indexAddr 1 (.t 0) (.t 1)) [(.t 0),(.op (.bin .sub (.t 0) (.c (.s (.int .i64 1)))) [(.t 3),(.c (.s (.int .i64 1)))])])])]))] [.tt 0,.tt 3,.sub 0 [0,0] [],.sub 0 [0] [],.tt 0,.tt 3,.sub 0 [1,0,1] [],.sub 0 [1,0] [],.sub 0 [1] [],.sub 0 [] []] (by kernel_rfl) (by kernel_rfl)
def s_f23_r6:List AOper:=[
 ⟨some 26,(.move (.t 0)),none⟩,
 ⟨some 27,(.move (.t 3)),none⟩,
 ⟨some 28,(.subSl 1 (.t 26) (some (.t 27)) none none),none⟩,
 ⟨some 4,(.move (.t 28)),none⟩]
def s_f23_r6_tale:=hT s_f23_r6 [25,26,27,28] [4] 29 [] [(4,(.op (.subSl 1 (.t 0) (some (.t 1)) none none) [(.t 0),(.t 3)]))] [.tt 0,.tt 3,.sub 0 [] [],.sub 0 [] []] (by kernel_rfl) (by kernel_rfl)
def s_f23_r7:List AOper:=[
 ⟨some 5,(.move (.c (.s (.int .i64 1)))),none⟩]
def s_f23_r7_tale:=hT s_f23_r7 [] [5] 6 [] [(5,(.c (.s (.int .i64 1))))] [.cc (.s (.int .i64 1))] (by kernel_rfl) (by kernel_rfl)
def s_f23_r8:List AOper:=[
 ⟨some 29,(.move (.t 5)),none⟩,
 ⟨some 30,(.move (.t 4)),none⟩,
 ⟨some 31,(.lenS .s (.t 30)),none⟩,
 ⟨some 32,(.bin .lss (.t 29) (.t 31)),none⟩]
def s_f23_r8_tale:=hT s_f23_r8 [29,30,31] [32] 33 [] [(32,(.op (.bin .lss (.t 0) (.t 1)) [(.t 5),(.op (.lenS .s (.t 0)) [(.t 4)])]))] [.tt 5,.tt 4,.sub 0 [1] [],.sub 0 [] []] (by kernel_rfl) (by kernel_rfl)
def s_f23_r9:List AOper:=[
 ⟨some 35,(.move (.t 4)),none⟩,
 ⟨some 36,(.move (.t 5)),none⟩,
 ⟨some 37,(.indexAddr 1 (.t 35) (.t 36)),none⟩,
 ⟨some 38,(.load false 1 (.t 37)),none⟩,
 ⟨some 39,(.move (.t 4)),none⟩,
 ⟨some 40,(.move (.t 5)),none⟩,
 ⟨some 41,(.bin .sub (.t 40) (.c (.s (.int .i64 1)))),none⟩,
 ⟨some 42,(.indexAddr 1 (.t 39) (.t 41)),none⟩,
 ⟨some 43,(.load false 1 (.t 42)),none⟩,
 ⟨some 44,(.bin .neq (.t 38) (.t 43)),none⟩]
def s_f23_r9_tale:=hT s_f23_r9 [32,35,36,37,38,39,40,41,42,43] [44] 45 [] [(44,(.op (.bin .neq (.t 0) (.t 1)) [(.op (.load false 1 (.t 0)) [(.op (.indexAddr 1 (.t 0) (.t 1)) [(.t 4),(.t 5)])]),(.op (.load false 1 (.t 0)) [(.op (.indexAddr 1 (.t 0) (.t 1)) [(.t 4),(.op (.bin .sub (.t 0) (.c (.s (.int .i64 1)))) [(.t 5),(.c (.s (.int .i64 1)))])])])]))] [.tt 4,.tt 5,.sub 0 [0,0] [],.sub 0 [0] [],.tt 4,.tt 5,.sub 0 [1,0,1] [],.sub 0 [1,0] [],.sub 0 [1] [],.sub 0 [] []] (by kernel_rfl) (by kernel_rfl)
def s_f23_r10t1:List AOper:=[⟨none,(.store 1 (.t 51) (.t 50)),none⟩]
def s_f23_r10p0:List AOper:=[⟨some 45,(.move (.t 0)),none⟩,⟨some 46,(.move (.t 3)),none⟩,⟨some 47,(.move (.t 4)),none⟩,⟨some 48,(.move (.t 5)),none⟩,⟨some 49,(.indexAddr 1 (.t 47) (.t 48)),none⟩,⟨some 50,(.load false 1 (.t 49)),none⟩,⟨some 51,(.indexAddr 1 (.t 45) (.t 46)),none⟩]
def s_f23_r10:List AOper:=s_f23_r10p0 ++ s_f23_r10t1
def s_f23_r10p0_tale:=hT s_f23_r10p0 [44,45,46,47,48,49] [50,51] 52 [] [(50,(.op (.load false 1 (.t 0)) [(.op (.indexAddr 1 (.t 0) (.t 1)) [(.t 4),(.t 5)])])),(51,(.op (.indexAddr 1 (.t 0) (.t 1)) [(.t 0),(.t 3)]))] [.tt 0,.tt 3,.tt 4,.tt 5,.sub 0 [0] [],.sub 0 [] [],.sub 1 [] []] (by kernel_rfl) (by kernel_rfl)
def s_f23_r10_x:=hS s_f23_r10 s_f23_r10p0 s_f23_r10t1 [44,45,46,47,48,49] [50,51] [44,45,46,47,48,49,50,51] rfl (by kernel_rfl)
def s_f23_r10t1_x:=hX s_f23_r10t1 [44,45,46,47,48,49,50,51] [⟨none,(.store 1 (.t 51) (.t 50)),none⟩] rfl
def s_f23_r11:List AOper:=[
 ⟨some 52,(.move (.t 3)),none⟩,
 ⟨some 53,(.bin .add (.t 52) (.c (.s (.int .i64 1)))),none⟩,
 ⟨some 3,(.move (.t 53)),none⟩]
def s_f23_r11_tale:=hT s_f23_r11 [52,53] [3] 54 [] [(3,(.op (.bin .add (.t 0) (.c (.s (.int .i64 1)))) [(.t 3),(.c (.s (.int .i64 1)))]))] [.tt 3,.sub 0 [] [],.sub 0 [] []] (by kernel_rfl) (by kernel_rfl)
def s_f23_r12:List AOper:=[
 ⟨some 33,(.move (.t 5)),none⟩,
 ⟨some 34,(.bin .add (.t 33) (.c (.s (.int .i64 1)))),none⟩,
 ⟨some 5,(.move (.t 34)),none⟩]
def s_f23_r12_tale:=hT s_f23_r12 [33,34,44] [5] 35 [] [(5,(.op (.bin .add (.t 0) (.c (.s (.int .i64 1)))) [(.t 5),(.c (.s (.int .i64 1)))]))] [.tt 5,.sub 0 [] [],.sub 0 [] []] (by kernel_rfl) (by kernel_rfl)
def s_f23_l0_b:ACode:=
 (.seq (.seq (.regionE s_f23_r8 [29,30,31] [32])
 (.cond (.t 32)
 .skip
 (.exit 2)))
 (.seq (.block 3
 (.seq (.regionE s_f23_r9 [32,35,36,37,38,39,40,41,42,43] [44])
 (.cond (.t 44)
 (.seq (.region s_f23_r10 [] [44,45,46,47,48,49,50,51])
 (.regionE s_f23_r11 [52,53] [3]))
 .skip)))
 (.regionE s_f23_r12 [33,34,44] [5])))
def s_f23_l0:ACode:=s_f23_l0_b
def s_f23_l0_ev:=hE s_f23_l0 s_f23_l0_b rfl
def s_f23_r13t1:List AOper:=[⟨none,(.clearSl 1 [(.s (.int .i64 0))] (.t 56)),none⟩]
def s_f23_r13p0:List AOper:=[⟨some 54,(.move (.t 0)),none⟩,⟨some 55,(.move (.t 3)),none⟩,⟨some 56,(.subSl 1 (.t 54) (some (.t 55)) none none),none⟩]
def s_f23_r13:List AOper:=s_f23_r13p0 ++ s_f23_r13t1
def s_f23_r13p0_tale:=hT s_f23_r13p0 [4,5,32,54,55] [56] 57 [] [(56,(.op (.subSl 1 (.t 0) (some (.t 1)) none none) [(.t 0),(.t 3)]))] [.tt 0,.tt 3,.sub 0 [] []] (by kernel_rfl) (by kernel_rfl)
def s_f23_r13_x:=hS s_f23_r13 s_f23_r13p0 s_f23_r13t1 [4,5,32,54,55] [56] [4,5,32,54,55,56] rfl (by kernel_rfl)
def s_f23_r13t1_x:=hX s_f23_r13t1 [4,5,32,54,55,56] [⟨none,(.clearSl 1 [(.s (.int .i64 0))] (.t 56)),none⟩] rfl
def s_f23_r14:List AOper:=[
 ⟨some 57,(.move (.t 0)),none⟩,
 ⟨some 58,(.move (.t 3)),none⟩,
 ⟨some 59,(.subSl 1 (.t 57) none (some (.t 58)) none),none⟩,
 ⟨some 2,(.move (.t 59)),none⟩]
def s_f23_r14_tale:=hT s_f23_r14 [0,3,57,58,59] [2] 60 [] [(2,(.op (.subSl 1 (.t 0) none (some (.t 1)) none) [(.t 0),(.t 3)]))] [.tt 0,.tt 3,.sub 0 [] [],.sub 0 [] []] (by kernel_rfl) (by kernel_rfl)
def s_f23_r15:List AOper:=[
 ⟨some 14,(.move (.t 3)),none⟩,
 ⟨some 15,(.bin .add (.t 14) (.c (.s (.int .i64 1)))),none⟩,
 ⟨some 3,(.move (.t 15)),none⟩]
def s_f23_r15_tale:=hT s_f23_r15 [14,15,25] [3] 16 [] [(3,(.op (.bin .add (.t 0) (.c (.s (.int .i64 1)))) [(.t 3),(.c (.s (.int .i64 1)))]))] [.tt 3,.sub 0 [] [],.sub 0 [] []] (by kernel_rfl) (by kernel_rfl)
def s_f23_l1_b:ACode:=
 (.seq (.seq (.regionE s_f23_r4 [10,11,12] [13])
 (.cond (.t 13)
 .skip
 (.exit 0)))
 (.seq (.block 1
 (.seq (.regionE s_f23_r5 [13,16,17,18,19,20,21,22,23,24] [25])
 (.cond (.t 25)
 (.seq (.regionE s_f23_r6 [25,26,27,28] [4])
 (.seq (.seq (.regionE s_f23_r7 [] [5])
 (.block 2
 (.loop [] s_f23_l0)))
 (.seq (.region s_f23_r13 [] [4,5,32,54,55,56])
 (.seq (.regionE s_f23_r14 [0,3,57,58,59] [2])
 .ret))))
 .skip)))
 (.regionE s_f23_r15 [14,15,25] [3])))
def s_f23_l1:ACode:=s_f23_l1_b
def s_f23_l1_ev:=hE s_f23_l1 s_f23_l1_b rfl
def s_f23_r16:List AOper:=[
 ⟨some 60,(.move (.t 0)),none⟩,
 ⟨some 2,(.move (.t 60)),none⟩]
def s_f23_r16_tale:=hT s_f23_r16 [0,3,13,60] [2] 61 [] [(2,(.t 0))] [.tt 0,.tt 0] (by kernel_rfl) (by kernel_rfl)
def s_f23:ACFun:={ ntmps:=61,results:=[(.tmp 2)],body:=
 (.seq (.regionE s_f23_r0 s_f23_r0_k [])
 (.seq (.seq (.regionE s_f23_r1 [6,7] [8])
 (.cond (.t 8)
 (.seq (.regionE s_f23_r2 [0,8,9] [2])
 .ret)
 .skip))
 (.seq (.seq (.regionE s_f23_r3 [8] [3])
 (.block 0
 (.loop [] s_f23_l1)))
 (.seq (.regionE s_f23_r16 [0,3,13,60] [2])
 .ret)))) }
abbrev k_f24:Nat:=24
def s_f24_r0_k:List Nat:=[1,2,3,4,5,6,7,8,9,10,11,12,13,14,15,16,17,18,19,20,21,22,23,24,25,26,27,28,29,30,31,32,33,34,35,36,37]
theorem s_f24_r0_kT:killV s_f24_r0_k (startV 38 [] 1)=[]:=by kernel_rfl
theorem s_f24_r0_kA0:s_f24_r0_k.contains 0=false:=by kernel_rfl
def s_f24_r0:List AOper:=[
 ⟨some 2,(.move (.c (.s (.slice none 0 0)))),none⟩]
def s_f24_r0_tale:=hT s_f24_r0 s_f24_r0_k [] 3 [] [] [.cc (.s (.slice none 0 0))] (by kernel_rfl) (by kernel_rfl)
def s_f24_r1t2:List AOper:=[⟨some 3,(.move (.t 10)),none⟩]
def s_f24_r1p1:List AOper:=[⟨some 10,(.mkSl [(.s (.slice none 0 0))] 1 24 (.t 9) (.t 9)),none⟩]
def s_f24_r1t1:List AOper:=s_f24_r1p1 ++ s_f24_r1t2
def s_f24_r1p0:List AOper:=[⟨some 8,(.move (.t 0)),none⟩,⟨some 9,(.lenS .s (.t 8)),none⟩]
def s_f24_r1:List AOper:=s_f24_r1p0 ++ s_f24_r1t1
def s_f24_r1p0_tale:=hT s_f24_r1p0 [8] [9] 10 [] [(9,(.op (.lenS .s (.t 0)) [(.t 0)]))] [.tt 0,.sub 0 [] []] (by kernel_rfl) (by kernel_rfl)
def s_f24_r1_x:=hS s_f24_r1 s_f24_r1p0 s_f24_r1t1 [8] [9] [8,9,10] rfl (by kernel_rfl)
def s_f24_r1t1_x:=hO s_f24_r1t1 s_f24_r1p1 s_f24_r1t2 [9] [8,9,10] [⟨some 10,(.mkSl [(.s (.slice none 0 0))] 1 24 (.t 9) (.t 9)),none⟩] rfl rfl (by kernel_rfl)
def s_f24_r1t2_tale:=hT s_f24_r1t2 [8,9,10] [3] 4 [] [(3,(.t 10))] [.tt 10] (by kernel_rfl) (by kernel_rfl)
def s_f24_r1t2_x:=hL s_f24_r1t2 [8,9,10] [3]
def s_f24_r2t2:List AOper:=[⟨some 13,(.lenS .s (.t 12)),none⟩,⟨some 14,(.move (.c (.s (.int .i64 0)))),none⟩]
def s_f24_r2p1:List AOper:=[⟨some 12,(.call (.c (.fn 31 [] [])) [(.t 11)]),none⟩]
def s_f24_r2t1:List AOper:=s_f24_r2p1 ++ s_f24_r2t2
def s_f24_r2p0:List AOper:=[⟨some 11,(.move (.t 0)),none⟩]
def s_f24_r2:List AOper:=s_f24_r2p0 ++ s_f24_r2t1
def s_f24_r2p0_tale:=hT s_f24_r2p0 [0] [11] 12 [] [(11,(.t 0))] [.tt 0] (by kernel_rfl) (by kernel_rfl)
def s_f24_r2_x:=hS s_f24_r2 s_f24_r2p0 s_f24_r2t1 [0] [11] [0,11] rfl (by kernel_rfl)
def s_f24_r2t1_x:=hO s_f24_r2t1 s_f24_r2p1 s_f24_r2t2 [11] [0,11] [⟨some 12,(.call (.c (.fn 31 [] [])) [(.t 11)]),none⟩] rfl rfl (by kernel_rfl)
def s_f24_r2t2_tale:=hT s_f24_r2t2 [0,11] [13,14] 15 [] [(13,(.op (.lenS .s (.t 0)) [(.t 12)])),(14,(.c (.s (.int .i64 0))))] [.sub 0 [] [],.cc (.s (.int .i64 0))] (by kernel_rfl) (by kernel_rfl)
def s_f24_r2t2_x:=hL s_f24_r2t2 [0,11] [13,14]
def s_f24_r3:List AOper:=[
 ⟨some 15,(.bin .lss (.t 14) (.t 13)),none⟩]
def s_f24_r3_tale:=hT s_f24_r3 [] [15] 16 [] [(15,(.op (.bin .lss (.t 0) (.t 1)) [(.t 14),(.t 13)]))] [.sub 0 [] []] (by kernel_rfl) (by kernel_rfl)
def s_f24_r4:List AOper:=[
 ⟨some 16,(.move (.t 14)),none⟩,
 ⟨some 17,(.indexAddr 1 (.t 12) (.t 14)),none⟩,
 ⟨some 18,(.load false 1 (.t 17)),none⟩,
 ⟨some 4,(.move (.t 16)),none⟩,
 ⟨some 5,(.move (.t 18)),none⟩]
def s_f24_r4_tale:=hT s_f24_r4 [15,16,17,18] [4,5] 19 [] [(4,(.t 14)),(5,(.op (.load false 1 (.t 0)) [(.op (.indexAddr 1 (.t 0) (.t 1)) [(.t 12),(.t 14)])]))] [.tt 14,.sub 1 [0] [],.sub 1 [] [],.tt 14,.sub 1 [] []] (by kernel_rfl) (by kernel_rfl)
def s_f24_r5:List AOper:=[
 ⟨some 19,(.move (.t 5)),none⟩,
 ⟨some 20,(.lenS .s (.t 19)),none⟩,
 ⟨some 21,(.move (.c (.s (.int .i64 0)))),none⟩]
def s_f24_r5_tale:=hT s_f24_r5 [5] [19,20,21] 22 [] [(19,(.t 5)),(20,(.op (.lenS .s (.t 0)) [(.t 5)])),(21,(.c (.s (.int .i64 0))))] [.tt 5,.sub 1 [] [],.cc (.s (.int .i64 0))] (by kernel_rfl) (by kernel_rfl)
def s_f24_r6:List AOper:=[
 ⟨some 22,(.bin .lss (.t 21) (.t 20)),none⟩]
def s_f24_r6_tale:=hT s_f24_r6 [] [22] 23 [] [(22,(.op (.bin .lss (.t 0) (.t 1)) [(.t 21),(.t 20)]))] [.sub 0 [] []] (by kernel_rfl) (by kernel_rfl)
def s_f24_r7:List AOper:=[
 ⟨some 23,(.indexAddr 1 (.t 19) (.t 21)),none⟩,
 ⟨some 24,(.load false 1 (.t 23)),none⟩,
 ⟨some 7,(.move (.t 24)),none⟩]
def s_f24_r7_tale:=hT s_f24_r7 [22,23,24] [7] 25 [] [(7,(.op (.load false 1 (.t 0)) [(.op (.indexAddr 1 (.t 0) (.t 1)) [(.t 19),(.t 21)])]))] [.sub 0 [0] [],.sub 0 [] [],.sub 0 [] []] (by kernel_rfl) (by kernel_rfl)
def s_f24_r8t4:List AOper:=[⟨none,(.store 1 (.t 34) (.t 33)),none⟩]
def s_f24_r8p3:List AOper:=[⟨some 34,(.indexAddr 1 (.t 25) (.t 26)),none⟩]
def s_f24_r8t3:List AOper:=s_f24_r8p3 ++ s_f24_r8t4
def s_f24_r8p2:List AOper:=[⟨some 33,(.append 1 8 (.t 30) (.t 32)),none⟩]
def s_f24_r8t2:List AOper:=s_f24_r8p2 ++ s_f24_r8t3
def s_f24_r8p1:List AOper:=[⟨some 32,(.buildSl 1 1 [(.s (.int .i64 0))] [(0,(.t 31))]),none⟩]
def s_f24_r8t1:List AOper:=s_f24_r8p1 ++ s_f24_r8t2
def s_f24_r8p0:List AOper:=[⟨some 25,(.move (.t 3)),none⟩,⟨some 26,(.move (.t 7)),none⟩,⟨some 27,(.move (.t 3)),none⟩,⟨some 28,(.move (.t 7)),none⟩,⟨some 29,(.indexAddr 1 (.t 27) (.t 28)),none⟩,⟨some 30,(.load false 1 (.t 29)),none⟩,⟨some 31,(.move (.t 4)),none⟩]
def s_f24_r8:List AOper:=s_f24_r8p0 ++ s_f24_r8t1
def s_f24_r8p0_tale:=hT s_f24_r8p0 [7,27,28,29] [25,26,30,31] 32 [] [(25,(.t 3)),(26,(.t 7)),(30,(.op (.load false 1 (.t 0)) [(.op (.indexAddr 1 (.t 0) (.t 1)) [(.t 3),(.t 7)])])),(31,(.t 4))] [.tt 3,.tt 7,.tt 3,.tt 7,.sub 2 [0] [],.sub 2 [] [],.tt 4] (by kernel_rfl) (by kernel_rfl)
def s_f24_r8_x:=hS s_f24_r8 s_f24_r8p0 s_f24_r8t1 [7,27,28,29] [25,26,30,31] [7,25,26,27,28,29,30,31,32,33,34] rfl (by kernel_rfl)
def s_f24_r8t1_x:=hO s_f24_r8t1 s_f24_r8p1 s_f24_r8t2 [31] [7,25,26,27,28,29,30,31,32,33,34] [⟨some 32,(.buildSl 1 1 [(.s (.int .i64 0))] [(0,(.t 31))]),none⟩] rfl rfl (by kernel_rfl)
def s_f24_r8t2_x:=hO s_f24_r8t2 s_f24_r8p2 s_f24_r8t3 [30,32] [7,25,26,27,28,29,30,31,32,33,34] [⟨some 33,(.append 1 8 (.t 30) (.t 32)),none⟩] rfl rfl (by kernel_rfl)
def s_f24_r8p3_tale:=hT s_f24_r8p3 [25,26] [34] 35 [] [(34,(.op (.indexAddr 1 (.t 0) (.t 1)) [(.t 25),(.t 26)]))] [.sub 0 [] []] (by kernel_rfl) (by kernel_rfl)
def s_f24_r8t3_x:=hS s_f24_r8t3 s_f24_r8p3 s_f24_r8t4 [25,26] [34] [7,25,26,27,28,29,30,31,32,33,34] rfl (by kernel_rfl)
def s_f24_r8t4_x:=hX s_f24_r8t4 [7,25,26,27,28,29,30,31,32,33,34] [⟨none,(.store 1 (.t 34) (.t 33)),none⟩] rfl
def s_f24_r9:List AOper:=[
 ⟨some 35,(.bin .add (.t 21) (.c (.s (.int .i64 1)))),none⟩,
 ⟨some 21,(.move (.t 35)),none⟩]
def s_f24_r9_tale:=hT s_f24_r9 [35] [21] 36 [] [(21,(.op (.bin .add (.t 0) (.c (.s (.int .i64 1)))) [(.t 21),(.c (.s (.int .i64 1)))]))] [.sub 0 [] [],.sub 0 [] []] (by kernel_rfl) (by kernel_rfl)
def s_f24_l0_b:ACode:=
 (.seq (.regionE s_f24_r6 [] [22])
 (.seq (.cond (.t 22)
 .skip
 (.exit 2))
 (.seq (.block 3
 (.seq (.regionE s_f24_r7 [22,23,24] [7])
 (.region s_f24_r8 [] [7,25,26,27,28,29,30,31,32,33,34])))
 (.regionE s_f24_r9 [35] [21]))))
def s_f24_l0:ACode:=s_f24_l0_b
def s_f24_l0_ev:=hE s_f24_l0 s_f24_l0_b rfl
def s_f24_r10:List AOper:=[
 ⟨some 36,(.bin .add (.t 14) (.c (.s (.int .i64 1)))),none⟩,
 ⟨some 14,(.move (.t 36)),none⟩]
def s_f24_r10_tale:=hT s_f24_r10 [4,19,20,21,22,36] [14] 37 [] [(14,(.op (.bin .add (.t 0) (.c (.s (.int .i64 1)))) [(.t 14),(.c (.s (.int .i64 1)))]))] [.sub 0 [] [],.sub 0 [] []] (by kernel_rfl) (by kernel_rfl)
def s_f24_l1_b:ACode:=
 (.seq (.regionE s_f24_r3 [] [15])
 (.seq (.cond (.t 15)
 .skip
 (.exit 0))
 (.seq (.block 1
 (.seq (.regionE s_f24_r4 [15,16,17,18] [4,5])
 (.seq (.regionE s_f24_r5 [5] [19,20,21])
 (.block 2
 (.loop [] s_f24_l0)))))
 (.regionE s_f24_r10 [4,19,20,21,22,36] [14]))))
def s_f24_l1:ACode:=s_f24_l1_b
def s_f24_l1_ev:=hE s_f24_l1 s_f24_l1_b rfl
def s_f24_r11:List AOper:=[
 ⟨some 37,(.move (.t 3)),none⟩,
 ⟨some 2,(.move (.t 37)),none⟩]
def s_f24_r11_tale:=hT s_f24_r11 [3,12,13,14,15,37] [2] 38 [] [(2,(.t 3))] [.tt 3,.tt 3] (by kernel_rfl) (by kernel_rfl)
def s_f24:ACFun:={ ntmps:=38,results:=[(.tmp 2)],body:=
 (.seq (.regionE s_f24_r0 s_f24_r0_k [])
 (.seq (.region s_f24_r1 [] [8,9,10])
 (.seq (.seq (.region s_f24_r2 [] [0,11])
 (.block 0
 (.loop [] s_f24_l1)))
 (.seq (.regionE s_f24_r11 [3,12,13,14,15,37] [2])
 .ret)))) }
abbrev k_f31:Nat:=31
def s_f31_r0_k:List Nat:=[0,2,3,4,5,6,7,8,9,10,11,12,13,14,15,16,17,18,19,20,21,22,23,24,25,26,27,28,29]
theorem s_f31_r0_k_kA0:s_f31_r0_k.contains 0=true:=by kernel_rfl
theorem s_f31_r0_k_kA1:s_f31_r0_k.contains 1=false:=by kernel_rfl
theorem s_f31_r0_k_kA2:s_f31_r0_k.contains 2=true:=by kernel_rfl
def s_f31_r0t1:List AOper:=[⟨some 2,(.move (.c (.s (.slice none 0 0)))),none⟩]
def s_f31_r0p0:List AOper:=[⟨some 1,(.box (.t 0)),none⟩]
def s_f31_r0:List AOper:=s_f31_r0p0 ++ s_f31_r0t1
def s_f31_r0_x:=hO s_f31_r0 s_f31_r0p0 s_f31_r0t1 [0,2,3,4,5,6,7,8,9,10,11,12,13,14,15,16,17,18,19,20,21,22,23,24,25,26,27,28,29] s_f31_r0_k [⟨some 1,(.box (.t 0)),none⟩] rfl rfl (by kernel_rfl)
def s_f31_r0t1_tale:=hT s_f31_r0t1 s_f31_r0_k [] 3 [] [] [.cc (.s (.slice none 0 0))] (by kernel_rfl) (by kernel_rfl)
def s_f31_r0t1_x:=hL s_f31_r0t1 s_f31_r0_k []
def s_f31_r1t2:List AOper:=[⟨some 3,(.move (.t 9)),none⟩]
def s_f31_r1p1:List AOper:=[⟨some 9,(.mkSl [(.s (.slice none 0 0))] 1 24 (.t 8) (.t 8)),none⟩]
def s_f31_r1t1:List AOper:=s_f31_r1p1 ++ s_f31_r1t2
def s_f31_r1p0:List AOper:=[⟨some 7,(.load false 1 (.t 1)),none⟩,⟨some 8,(.lenS .s (.t 7)),none⟩]
def s_f31_r1:List AOper:=s_f31_r1p0 ++ s_f31_r1t1
def s_f31_r1p0_tale:=hT s_f31_r1p0 [7] [8] 9 [] [(8,(.op (.lenS .s (.t 0)) [(.op (.load false 1 (.t 0)) [(.t 1)])]))] [.sub 0 [0] [],.sub 0 [] []] (by kernel_rfl) (by kernel_rfl)
def s_f31_r1_x:=hS s_f31_r1 s_f31_r1p0 s_f31_r1t1 [7] [8] [7,8,9] rfl (by kernel_rfl)
def s_f31_r1t1_x:=hO s_f31_r1t1 s_f31_r1p1 s_f31_r1t2 [8] [7,8,9] [⟨some 9,(.mkSl [(.s (.slice none 0 0))] 1 24 (.t 8) (.t 8)),none⟩] rfl rfl (by kernel_rfl)
def s_f31_r1t2_tale:=hT s_f31_r1t2 [7,8,9] [3] 4 [] [(3,(.t 9))] [.tt 9] (by kernel_rfl) (by kernel_rfl)
def s_f31_r1t2_x:=hL s_f31_r1t2 [7,8,9] [3]
def s_f31_r2:List AOper:=[
 ⟨some 10,(.load false 1 (.t 1)),none⟩,
 ⟨some 11,(.lenS .s (.t 10)),none⟩,
 ⟨some 12,(.move (.c (.s (.int .i64 0)))),none⟩]
def s_f31_r2_tale:=hT s_f31_r2 [] [10,11,12] 13 [] [(10,(.op (.load false 1 (.t 0)) [(.t 1)])),(11,(.op (.lenS .s (.t 0)) [(.op (.load false 1 (.t 0)) [(.t 1)])])),(12,(.c (.s (.int .i64 0))))] [.sub 0 [] [],.sub 1 [] [],.cc (.s (.int .i64 0))] (by kernel_rfl) (by kernel_rfl)
def s_f31_r3:List AOper:=[
 ⟨some 13,(.bin .lss (.t 12) (.t 11)),none⟩]
def s_f31_r3_tale:=hT s_f31_r3 [] [13] 14 [] [(13,(.op (.bin .lss (.t 0) (.t 1)) [(.t 12),(.t 11)]))] [.sub 0 [] []] (by kernel_rfl) (by kernel_rfl)
def s_f31_r4:List AOper:=[
 ⟨some 14,(.move (.t 12)),none⟩,
 ⟨some 15,(.indexAddr 1 (.t 10) (.t 12)),none⟩,
 ⟨some 16,(.load false 1 (.t 15)),none⟩,
 ⟨some 4,(.move (.t 14)),none⟩,
 ⟨some 5,(.move (.t 16)),none⟩]
def s_f31_r4_tale:=hT s_f31_r4 [13,14,15,16] [4,5] 17 [] [(4,(.t 12)),(5,(.op (.load false 1 (.t 0)) [(.op (.indexAddr 1 (.t 0) (.t 1)) [(.t 10),(.t 12)])]))] [.tt 12,.sub 1 [0] [],.sub 1 [] [],.tt 12,.sub 1 [] []] (by kernel_rfl) (by kernel_rfl)
def s_f31_r5t4:List AOper:=[⟨some 6,(.move (.t 20)),none⟩]
def s_f31_r5p3:List AOper:=[⟨some 20,(.call (.c (.fn 47 [] [])) [(.t 18),(.t 19)]),none⟩]
def s_f31_r5t3:List AOper:=s_f31_r5p3 ++ s_f31_r5t4
def s_f31_r5p2:List AOper:=[⟨some 19,(.mkFn 49 [] [(.t 1)]),none⟩]
def s_f31_r5t2:List AOper:=s_f31_r5p2 ++ s_f31_r5t3
def s_f31_r5p1:List AOper:=[⟨some 18,(.call (.c (.fn 48 [] [])) [(.t 17)]),none⟩]
def s_f31_r5t1:List AOper:=s_f31_r5p1 ++ s_f31_r5t2
def s_f31_r5p0:List AOper:=[⟨some 17,(.move (.t 5)),none⟩]
def s_f31_r5:List AOper:=s_f31_r5p0 ++ s_f31_r5t1
def s_f31_r5p0_tale:=hT s_f31_r5p0 [5] [17] 18 [] [(17,(.t 5))] [.tt 5] (by kernel_rfl) (by kernel_rfl)
def s_f31_r5_x:=hS s_f31_r5 s_f31_r5p0 s_f31_r5t1 [5] [17] [5,17,18,19,20] rfl (by kernel_rfl)
def s_f31_r5t1_x:=hO s_f31_r5t1 s_f31_r5p1 s_f31_r5t2 [17] [5,17,18,19,20] [⟨some 18,(.call (.c (.fn 48 [] [])) [(.t 17)]),none⟩] rfl rfl (by kernel_rfl)
def s_f31_r5p2_tale:=hT s_f31_r5p2 [] [19] 20 [] [(19,(.op (.mkFn 49 [] [(.t 0)]) [(.t 1)]))] [.sub 0 [] []] (by kernel_rfl) (by kernel_rfl)
def s_f31_r5t2_x:=hS s_f31_r5t2 s_f31_r5p2 s_f31_r5t3 [] [19] [5,17,18,19,20] rfl (by kernel_rfl)
def s_f31_r5t3_x:=hO s_f31_r5t3 s_f31_r5p3 s_f31_r5t4 [18,19] [5,17,18,19,20] [⟨some 20,(.call (.c (.fn 47 [] [])) [(.t 18),(.t 19)]),none⟩] rfl rfl (by kernel_rfl)
def s_f31_r5t4_tale:=hT s_f31_r5t4 [5,17,18,19,20] [6] 7 [] [(6,(.t 20))] [.tt 20] (by kernel_rfl) (by kernel_rfl)
def s_f31_r5t4_x:=hL s_f31_r5t4 [5,17,18,19,20] [6]
def s_f31_r6t1:List AOper:=[⟨some 22,(.call (.c (.fn 22 [] [])) [(.t 21)]),none⟩]
def s_f31_r6p0:List AOper:=[⟨some 21,(.move (.t 6)),none⟩]
def s_f31_r6:List AOper:=s_f31_r6p0 ++ s_f31_r6t1
def s_f31_r6p0_tale:=hT s_f31_r6p0 [] [21] 22 [] [(21,(.t 6))] [.tt 6] (by kernel_rfl) (by kernel_rfl)
def s_f31_r6_x:=hS s_f31_r6 s_f31_r6p0 s_f31_r6t1 [] [21] [21,22] rfl (by kernel_rfl)
def s_f31_r6t1_x:=hX s_f31_r6t1 [21,22] [⟨some 22,(.call (.c (.fn 22 [] [])) [(.t 21)]),none⟩] rfl
def s_f31_r7t3:List AOper:=[⟨none,(.store 1 (.t 27) (.t 26)),none⟩]
def s_f31_r7p2:List AOper:=[⟨some 27,(.indexAddr 1 (.t 23) (.t 24)),none⟩]
def s_f31_r7t2:List AOper:=s_f31_r7p2 ++ s_f31_r7t3
def s_f31_r7p1:List AOper:=[⟨some 26,(.call (.c (.fn 23 [] [])) [(.t 25)]),none⟩]
def s_f31_r7t1:List AOper:=s_f31_r7p1 ++ s_f31_r7t2
def s_f31_r7p0:List AOper:=[⟨some 23,(.move (.t 3)),none⟩,⟨some 24,(.move (.t 4)),none⟩,⟨some 25,(.move (.t 6)),none⟩]
def s_f31_r7:List AOper:=s_f31_r7p0 ++ s_f31_r7t1
def s_f31_r7p0_tale:=hT s_f31_r7p0 [4,6] [23,24,25] 26 [] [(23,(.t 3)),(24,(.t 4)),(25,(.t 6))] [.tt 3,.tt 4,.tt 6] (by kernel_rfl) (by kernel_rfl)
def s_f31_r7_x:=hS s_f31_r7 s_f31_r7p0 s_f31_r7t1 [4,6] [23,24,25] [4,6,23,24,25,26,27] rfl (by kernel_rfl)
def s_f31_r7t1_x:=hO s_f31_r7t1 s_f31_r7p1 s_f31_r7t2 [25] [4,6,23,24,25,26,27] [⟨some 26,(.call (.c (.fn 23 [] [])) [(.t 25)]),none⟩] rfl rfl (by kernel_rfl)
def s_f31_r7p2_tale:=hT s_f31_r7p2 [23,24] [27] 28 [] [(27,(.op (.indexAddr 1 (.t 0) (.t 1)) [(.t 23),(.t 24)]))] [.sub 0 [] []] (by kernel_rfl) (by kernel_rfl)
def s_f31_r7t2_x:=hS s_f31_r7t2 s_f31_r7p2 s_f31_r7t3 [23,24] [27] [4,6,23,24,25,26,27] rfl (by kernel_rfl)
def s_f31_r7t3_x:=hX s_f31_r7t3 [4,6,23,24,25,26,27] [⟨none,(.store 1 (.t 27) (.t 26)),none⟩] rfl
def s_f31_r8:List AOper:=[
 ⟨some 28,(.bin .add (.t 12) (.c (.s (.int .i64 1)))),none⟩,
 ⟨some 12,(.move (.t 28)),none⟩]
def s_f31_r8_tale:=hT s_f31_r8 [28] [12] 29 [] [(12,(.op (.bin .add (.t 0) (.c (.s (.int .i64 1)))) [(.t 12),(.c (.s (.int .i64 1)))]))] [.sub 0 [] [],.sub 0 [] []] (by kernel_rfl) (by kernel_rfl)
def s_f31_l0_b:ACode:=
 (.seq (.regionE s_f31_r3 [] [13])
 (.seq (.cond (.t 13)
 .skip
 (.exit 0))
 (.seq (.block 1
 (.seq (.regionE s_f31_r4 [13,14,15,16] [4,5])
 (.seq (.region s_f31_r5 [] [5,17,18,19,20])
 (.seq (.region s_f31_r6 [] [21,22])
 (.region s_f31_r7 [] [4,6,23,24,25,26,27])))))
 (.regionE s_f31_r8 [28] [12]))))
def s_f31_l0:ACode:=s_f31_l0_b
def s_f31_l0_ev:=hE s_f31_l0 s_f31_l0_b rfl
def s_f31_r9:List AOper:=[
 ⟨some 29,(.move (.t 3)),none⟩,
 ⟨some 2,(.move (.t 29)),none⟩]
def s_f31_r9_tale:=hT s_f31_r9 [1,3,10,11,12,13,29] [2] 30 [] [(2,(.t 3))] [.tt 3,.tt 3] (by kernel_rfl) (by kernel_rfl)
def s_f31:ACFun:={ ntmps:=30,results:=[(.tmp 2)],body:=
 (.seq (.region s_f31_r0 [] s_f31_r0_k)
 (.seq (.region s_f31_r1 [] [7,8,9])
 (.seq (.seq (.regionE s_f31_r2 [] [10,11,12])
 (.block 0
 (.loop [] s_f31_l0)))
 (.seq (.regionE s_f31_r9 [1,3,10,11,12,13,29] [2])
 .ret)))) }
theorem s_f31_first:firstOk (List.range' 1 (s_f31.ntmps - 1)) s_f31.body=true:=by kernel_rfl
abbrev k_f47:Nat:=47
def s_f47_r0_k:List Nat:=[2,3,4,5,6,7,8,9,10,11,12,13,14,15,16,17,18,19,20,21,22,23,24,25,26,27,28,29,30,31,32,33,34,35,36,37,38,39,40,41]
theorem s_f47_r0_kT:killV s_f47_r0_k (startV 42 [] 2)=[]:=by kernel_rfl
theorem s_f47_r0_kA0:s_f47_r0_k.contains 0=false:=by kernel_rfl
theorem s_f47_r0_kA1:s_f47_r0_k.contains 1=false:=by kernel_rfl
def s_f47_r0:List AOper:=[
 ⟨some 4,(.move (.c (.s (.slice none 0 0)))),none⟩]
def s_f47_r0_tale:=hT s_f47_r0 s_f47_r0_k [] 5 [] [] [.cc (.s (.slice none 0 0))] (by kernel_rfl) (by kernel_rfl)
def s_f47_r1t2:List AOper:=[⟨some 5,(.move (.t 10)),none⟩]
def s_f47_r1p1:List AOper:=[⟨some 10,(.call (.c (.fn 60 [] [])) [(.t 8),(.t 9)]),none⟩]
def s_f47_r1t1:List AOper:=s_f47_r1p1 ++ s_f47_r1t2
def s_f47_r1p0:List AOper:=[⟨some 8,(.move (.t 0)),none⟩,⟨some 9,(.move (.t 1)),none⟩]
def s_f47_r1:List AOper:=s_f47_r1p0 ++ s_f47_r1t1
def s_f47_r1p0_tale:=hT s_f47_r1p0 [] [8,9] 10 [] [(8,(.t 0)),(9,(.t 1))] [.tt 0,.tt 1] (by kernel_rfl) (by kernel_rfl)
def s_f47_r1_x:=hS s_f47_r1 s_f47_r1p0 s_f47_r1t1 [] [8,9] [8,9,10] rfl (by kernel_rfl)
def s_f47_r1t1_x:=hO s_f47_r1t1 s_f47_r1p1 s_f47_r1t2 [8,9] [8,9,10] [⟨some 10,(.call (.c (.fn 60 [] [])) [(.t 8),(.t 9)]),none⟩] rfl rfl (by kernel_rfl)
def s_f47_r1t2_tale:=hT s_f47_r1t2 [8,9,10] [5] 6 [] [(5,(.t 10))] [.tt 10] (by kernel_rfl) (by kernel_rfl)
def s_f47_r1t2_x:=hL s_f47_r1t2 [8,9,10] [5]
def s_f47_r2:List AOper:=[
 ⟨some 11,(.move (.t 5)),none⟩,
 ⟨some 12,(.bin .eql (.t 11) (.c (.s (.int .i64 (-1))))),none⟩]
def s_f47_r2_tale:=hT s_f47_r2 [11] [12] 13 [] [(12,(.op (.bin .eql (.t 0) (.c (.s (.int .i64 (-1))))) [(.t 5),(.c (.s (.int .i64 (-1))))]))] [.tt 5,.sub 0 [] []] (by kernel_rfl) (by kernel_rfl)
def s_f47_r3:List AOper:=[
 ⟨some 13,(.move (.t 0)),none⟩,
 ⟨some 4,(.move (.t 13)),none⟩]
def s_f47_r3_tale:=hT s_f47_r3 [0,1,5,12,13] [4] 14 [] [(4,(.t 0))] [.tt 0,.tt 0] (by kernel_rfl) (by kernel_rfl)
def s_f47_r4:List AOper:=[
 ⟨some 14,(.move (.t 5)),none⟩,
 ⟨some 15,(.bin .add (.t 14) (.c (.s (.int .i64 1)))),none⟩,
 ⟨some 6,(.move (.t 15)),none⟩]
def s_f47_r4_tale:=hT s_f47_r4 [12,14,15] [6] 16 [] [(6,(.op (.bin .add (.t 0) (.c (.s (.int .i64 1)))) [(.t 5),(.c (.s (.int .i64 1)))]))] [.tt 5,.sub 0 [] [],.sub 0 [] []] (by kernel_rfl) (by kernel_rfl)
def s_f47_r5:List AOper:=[
 ⟨some 16,(.move (.t 6)),none⟩,
 ⟨some 17,(.move (.t 0)),none⟩,
 ⟨some 18,(.lenS .s (.t 17)),none⟩,
 ⟨some 19,(.bin .lss (.t 16) (.t 18)),none⟩]
def s_f47_r5_tale:=hT s_f47_r5 [16,17,18] [19] 20 [] [(19,(.op (.bin .lss (.t 0) (.t 1)) [(.t 6),(.op (.lenS .s (.t 0)) [(.t 0)])]))] [.tt 6,.tt 0,.sub 0 [1] [],.sub 0 [] []] (by kernel_rfl) (by kernel_rfl)
def s_f47_r6:List AOper:=[
 ⟨some 22,(.move (.t 0)),none⟩,
 ⟨some 23,(.move (.t 6)),none⟩,
 ⟨some 24,(.indexAddr 1 (.t 22) (.t 23)),none⟩,
 ⟨some 25,(.load false 1 (.t 24)),none⟩,
 ⟨some 7,(.move (.t 25)),none⟩]
def s_f47_r6_tale:=hT s_f47_r6 [19,22,23,24,25] [7] 26 [] [(7,(.op (.load false 1 (.t 0)) [(.op (.indexAddr 1 (.t 0) (.t 1)) [(.t 0),(.t 6)])]))] [.tt 0,.tt 6,.sub 0 [0] [],.sub 0 [] [],.sub 0 [] []] (by kernel_rfl) (by kernel_rfl)
def s_f47_r7t2:List AOper:=[⟨some 29,(.un .not (.t 28)),none⟩]
def s_f47_r7p1:List AOper:=[⟨some 28,(.call (.t 26) [(.t 27)]),none⟩]
def s_f47_r7t1:List AOper:=s_f47_r7p1 ++ s_f47_r7t2
def s_f47_r7p0:List AOper:=[⟨some 26,(.move (.t 1)),none⟩,⟨some 27,(.move (.t 7)),none⟩]
def s_f47_r7:List AOper:=s_f47_r7p0 ++ s_f47_r7t1
def s_f47_r7p0_tale:=hT s_f47_r7p0 [] [26,27] 28 [] [(26,(.t 1)),(27,(.t 7))] [.tt 1,.tt 7] (by kernel_rfl) (by kernel_rfl)
def s_f47_r7_x:=hS s_f47_r7 s_f47_r7p0 s_f47_r7t1 [] [26,27] [26,27,28] rfl (by kernel_rfl)
def s_f47_r7t1_x:=hO s_f47_r7t1 s_f47_r7p1 s_f47_r7t2 [26,27] [26,27,28] [⟨some 28,(.call (.t 26) [(.t 27)]),none⟩] rfl rfl (by kernel_rfl)
def s_f47_r7t2_tale:=hT s_f47_r7t2 [26,27,28] [29] 30 [] [(29,(.op (.un .not (.t 0)) [(.t 28)]))] [.sub 0 [] []] (by kernel_rfl) (by kernel_rfl)
def s_f47_r7t2_x:=hL s_f47_r7t2 [26,27,28] [29]
def s_f47_r8t1:List AOper:=[⟨none,(.store 1 (.t 33) (.t 32)),none⟩]
def s_f47_r8p0:List AOper:=[⟨some 30,(.move (.t 0)),none⟩,⟨some 31,(.move (.t 5)),none⟩,⟨some 32,(.move (.t 7)),none⟩,⟨some 33,(.indexAddr 1 (.t 30) (.t 31)),none⟩]
def s_f47_r8:List AOper:=s_f47_r8p0 ++ s_f47_r8t1
def s_f47_r8p0_tale:=hT s_f47_r8p0 [7,29,30,31] [32,33] 34 [] [(32,(.t 7)),(33,(.op (.indexAddr 1 (.t 0) (.t 1)) [(.t 0),(.t 5)]))] [.tt 0,.tt 5,.tt 7,.sub 1 [] []] (by kernel_rfl) (by kernel_rfl)
def s_f47_r8_x:=hS s_f47_r8 s_f47_r8p0 s_f47_r8t1 [7,29,30,31] [32,33] [7,29,30,31,32,33] rfl (by kernel_rfl)
def s_f47_r8t1_x:=hX s_f47_r8t1 [7,29,30,31,32,33] [⟨none,(.store 1 (.t 33) (.t 32)),none⟩] rfl
def s_f47_r9:List AOper:=[
 ⟨some 34,(.move (.t 5)),none⟩,
 ⟨some 35,(.bin .add (.t 34) (.c (.s (.int .i64 1)))),none⟩,
 ⟨some 5,(.move (.t 35)),none⟩]
def s_f47_r9_tale:=hT s_f47_r9 [34,35] [5] 36 [] [(5,(.op (.bin .add (.t 0) (.c (.s (.int .i64 1)))) [(.t 5),(.c (.s (.int .i64 1)))]))] [.tt 5,.sub 0 [] [],.sub 0 [] []] (by kernel_rfl) (by kernel_rfl)
def s_f47_r10:List AOper:=[
 ⟨some 20,(.move (.t 6)),none⟩,
 ⟨some 21,(.bin .add (.t 20) (.c (.s (.int .i64 1)))),none⟩,
 ⟨some 6,(.move (.t 21)),none⟩]
def s_f47_r10_tale:=hT s_f47_r10 [7,20,21,29] [6] 22 [] [(6,(.op (.bin .add (.t 0) (.c (.s (.int .i64 1)))) [(.t 6),(.c (.s (.int .i64 1)))]))] [.tt 6,.sub 0 [] [],.sub 0 [] []] (by kernel_rfl) (by kernel_rfl)
def s_f47_l0_b:ACode:=
 (.seq (.seq (.regionE s_f47_r5 [16,17,18] [19])
 (.cond (.t 19)
 .skip
 (.exit 0)))
 (.seq (.block 1
 (.seq (.regionE s_f47_r6 [19,22,23,24,25] [7])
 (.seq (.region s_f47_r7 [] [26,27,28])
 (.cond (.t 29)
 (.seq (.region s_f47_r8 [] [7,29,30,31,32,33])
 (.regionE s_f47_r9 [34,35] [5]))
 .skip))))
 (.regionE s_f47_r10 [7,20,21,29] [6])))
def s_f47_l0:ACode:=s_f47_l0_b
def s_f47_l0_ev:=hE s_f47_l0 s_f47_l0_b rfl
def s_f47_r11t1:List AOper:=[⟨none,(.clearSl 1 [(.s (.int .i64 0))] (.t 38)),none⟩]
def s_f47_r11p0:List AOper:=[⟨some 36,(.move (.t 0)),none⟩,⟨some 37,(.move (.t 5)),none⟩,⟨some 38,(.subSl 1 (.t 36) (some (.t 37)) none none),none⟩]
def s_f47_r11:List AOper:=s_f47_r11p0 ++ s_f47_r11t1
def s_f47_r11p0_tale:=hT s_f47_r11p0 [1,6,19,36,37] [38] 39 [] [(38,(.op (.subSl 1 (.t 0) (some (.t 1)) none none) [(.t 0),(.t 5)]))] [.tt 0,.tt 5,.sub 0 [] []] (by kernel_rfl) (by kernel_rfl)
def s_f47_r11_x:=hS s_f47_r11 s_f47_r11p0 s_f47_r11t1 [1,6,19,36,37] [38] [1,6,19,36,37,38] rfl (by kernel_rfl)
def s_f47_r11t1_x:=hX s_f47_r11t1 [1,6,19,36,37,38] [⟨none,(.clearSl 1 [(.s (.int .i64 0))] (.t 38)),none⟩] rfl
def s_f47_r12:List AOper:=[
 ⟨some 39,(.move (.t 0)),none⟩,
 ⟨some 40,(.move (.t 5)),none⟩,
 ⟨some 41,(.subSl 1 (.t 39) none (some (.t 40)) none),none⟩,
 ⟨some 4,(.move (.t 41)),none⟩]
def s_f47_r12_tale:=hT s_f47_r12 [0,5,39,40,41] [4] 42 [] [(4,(.op (.subSl 1 (.t 0) none (some (.t 1)) none) [(.t 0),(.t 5)]))] [.tt 0,.tt 5,.sub 0 [] [],.sub 0 [] []] (by kernel_rfl) (by kernel_rfl)
def s_f47:ACFun:={ ntmps:=42,results:=[(.tmp 4)],body:=
 (.seq (.regionE s_f47_r0 s_f47_r0_k [])
 (.seq (.region s_f47_r1 [] [8,9,10])
 (.seq (.seq (.regionE s_f47_r2 [11] [12])
 (.cond (.t 12)
 (.seq (.regionE s_f47_r3 [0,1,5,12,13] [4])
 .ret)
 .skip))
 (.seq (.seq (.regionE s_f47_r4 [12,14,15] [6])
 (.block 0
 (.loop [] s_f47_l0)))
 (.seq (.region s_f47_r11 [] [1,6,19,36,37,38])
 (.seq (.regionE s_f47_r12 [0,5,39,40,41] [4])
 .ret)))))) }
abbrev k_f48:Nat:=48
def s_f48_r0_k:List Nat:=[1,2,3,4,5,6,7]
theorem s_f48_r0_kT:killV s_f48_r0_k (startV 8 [] 1)=[]:=by kernel_rfl
theorem s_f48_r0_kA0:s_f48_r0_k.contains 0=false:=by kernel_rfl
def s_f48_r0:List AOper:=[
 ⟨some 2,(.move (.c (.s (.slice none 0 0)))),none⟩]
def s_f48_r0_tale:=hT s_f48_r0 s_f48_r0_k [] 3 [] [] [.cc (.s (.slice none 0 0))] (by kernel_rfl) (by kernel_rfl)
def s_f48_r1:List AOper:=[
 ⟨some 3,(.move (.t 0)),none⟩,
 ⟨some 4,(.eqNil .s false (.t 3)),none⟩]
def s_f48_r1_tale:=hT s_f48_r1 [3] [4] 5 [] [(4,(.op (.eqNil .s false (.t 0)) [(.t 0)]))] [.tt 0,.sub 0 [] []] (by kernel_rfl) (by kernel_rfl)
def s_f48_r2:List AOper:=[
 ⟨some 2,(.move (.c (.s (.slice none 0 0)))),none⟩]
def s_f48_r2_tale:=hT s_f48_r2 [0,4] [2] 3 [] [(2,(.c (.s (.slice none 0 0))))] [.cc (.s (.slice none 0 0))] (by kernel_rfl) (by kernel_rfl)
def s_f48_r3t3:List AOper:=[⟨some 2,(.move (.t 7)),none⟩]
def s_f48_r3p2:List AOper:=[⟨some 7,(.append 1 8 (.t 5) (.t 6)),none⟩]
def s_f48_r3t2:List AOper:=s_f48_r3p2 ++ s_f48_r3t3
def s_f48_r3p1:List AOper:=[⟨some 6,(.move (.t 0)),none⟩]
def s_f48_r3t1:List AOper:=s_f48_r3p1 ++ s_f48_r3t2
def s_f48_r3p0:List AOper:=[⟨some 5,(.buildSl 1 0 [] []),none⟩]
def s_f48_r3:List AOper:=s_f48_r3p0 ++ s_f48_r3t1
def s_f48_r3_x:=hO s_f48_r3 s_f48_r3p0 s_f48_r3t1 [4] [0,4,5,6,7] [⟨some 5,(.buildSl 1 0 [] []),none⟩] rfl rfl (by kernel_rfl)
def s_f48_r3p1_tale:=hT s_f48_r3p1 [0] [6] 7 [] [(6,(.t 0))] [.tt 0] (by kernel_rfl) (by kernel_rfl)
def s_f48_r3t1_x:=hS s_f48_r3t1 s_f48_r3p1 s_f48_r3t2 [0] [6] [0,4,5,6,7] rfl (by kernel_rfl)
def s_f48_r3t2_x:=hO s_f48_r3t2 s_f48_r3p2 s_f48_r3t3 [5,6] [0,4,5,6,7] [⟨some 7,(.append 1 8 (.t 5) (.t 6)),none⟩] rfl rfl (by kernel_rfl)
def s_f48_r3t3_tale:=hT s_f48_r3t3 [0,4,5,6,7] [2] 3 [] [(2,(.t 7))] [.tt 7] (by kernel_rfl) (by kernel_rfl)
def s_f48_r3t3_x:=hL s_f48_r3t3 [0,4,5,6,7] [2]
def s_f48:ACFun:={ ntmps:=8,results:=[(.tmp 2)],body:=
 (.seq (.regionE s_f48_r0 s_f48_r0_k [])
 (.seq (.seq (.regionE s_f48_r1 [3] [4])
 (.cond (.t 4)
 (.seq (.regionE s_f48_r2 [0,4] [2])
 .ret)
 .skip))
 (.seq (.region s_f48_r3 [] [0,4,5,6,7])
 .ret))) }
abbrev k_f49:Nat:=49
def s_f49_r0_k:List Nat:=[2,3,4,5,6,7,8,9,10,11]
theorem s_f49_r0_kT:killV s_f49_r0_k (startV 12 [] 2)=[]:=by kernel_rfl
theorem s_f49_r0_kA0:s_f49_r0_k.contains 0=false:=by kernel_rfl
theorem s_f49_r0_kA1:s_f49_r0_k.contains 1=false:=by kernel_rfl
def s_f49_r0:List AOper:=[
 ⟨some 3,(.move (.c (.s (.bool false)))),none⟩]
def s_f49_r0_tale:=hT s_f49_r0 s_f49_r0_k [] 4 [] [] [.cc (.s (.bool false))] (by kernel_rfl) (by kernel_rfl)
def s_f49_r1:List AOper:=[
 ⟨some 4,(.move (.t 0)),none⟩,
 ⟨some 5,(.bin .lss (.t 4) (.c (.s (.int .i64 0)))),none⟩,
 ⟨some 6,(.move (.t 5)),none⟩,
 ⟨some 7,(.move (.t 0)),some (6,false)⟩,
 ⟨some 8,(.load false 1 (.t 1)),some (6,false)⟩,
 ⟨some 9,(.lenS .s (.t 8)),some (6,false)⟩,
 ⟨some 10,(.bin .geq (.t 7) (.t 9)),some (6,false)⟩,
 ⟨some 11,(.pick (.t 6) (.c (.s (.bool true))) (.t 10)),none⟩,
 ⟨some 3,(.move (.t 11)),none⟩]
def s_f49_r1_tale:=hT s_f49_r1 [0,1,4,5,6,7,8,9,10,11] [3] 12 [] [(3,(.pick (.op (.bin .lss (.t 0) (.c (.s (.int .i64 0)))) [(.t 0),(.c (.s (.int .i64 0)))]) (.c (.s (.bool true))) (.op (.bin .geq (.t 0) (.t 1)) [(.t 0),(.op (.lenS .s (.t 0)) [(.op (.load false 1 (.t 0)) [(.t 1)])])])))] [.tt 0,.sub 0 [0] [],.sub 0 [0] [],.sub 0 [2,0] [6],.sub 0 [2,1,0] [6],.sub 0 [2,1] [6],.sub 0 [2] [6],.sub 0 [] [],.sub 0 [] []] (by kernel_rfl) (by kernel_rfl)
def s_f49:ACFun:={ ntmps:=12,results:=[(.tmp 3)],body:=
 (.seq (.regionE s_f49_r0 s_f49_r0_k [])
 (.seq (.regionE s_f49_r1 [0,1,4,5,6,7,8,9,10,11] [3])
 .ret)) }
abbrev k_f60:Nat:=60
def s_f60_r0_k:List Nat:=[2,3,4,5,6,7,8,9,10,11,12,13,14,15,16,17,18]
theorem s_f60_r0_kT:killV s_f60_r0_k (startV 19 [] 2)=[]:=by kernel_rfl
theorem s_f60_r0_kA0:s_f60_r0_k.contains 0=false:=by kernel_rfl
theorem s_f60_r0_kA1:s_f60_r0_k.contains 1=false:=by kernel_rfl
def s_f60_r0:List AOper:=[
 ⟨some 4,(.move (.c (.s (.int .i64 0)))),none⟩]
def s_f60_r0_tale:=hT s_f60_r0 s_f60_r0_k [] 5 [] [] [.cc (.s (.int .i64 0))] (by kernel_rfl) (by kernel_rfl)
def s_f60_r1:List AOper:=[
 ⟨some 6,(.move (.t 0)),none⟩,
 ⟨some 7,(.lenS .s (.t 6)),none⟩,
 ⟨some 8,(.move (.c (.s (.int .i64 0)))),none⟩]
def s_f60_r1_tale:=hT s_f60_r1 [6] [7,8] 9 [] [(7,(.op (.lenS .s (.t 0)) [(.t 0)])),(8,(.c (.s (.int .i64 0))))] [.tt 0,.sub 0 [] [],.cc (.s (.int .i64 0))] (by kernel_rfl) (by kernel_rfl)
def s_f60_r2:List AOper:=[
 ⟨some 9,(.bin .lss (.t 8) (.t 7)),none⟩]
def s_f60_r2_tale:=hT s_f60_r2 [] [9] 10 [] [(9,(.op (.bin .lss (.t 0) (.t 1)) [(.t 8),(.t 7)]))] [.sub 0 [] []] (by kernel_rfl) (by kernel_rfl)
def s_f60_r3:List AOper:=[
 ⟨some 10,(.move (.t 8)),none⟩,
 ⟨some 5,(.move (.t 10)),none⟩]
def s_f60_r3_tale:=hT s_f60_r3 [9,10] [5] 11 [] [(5,(.t 8))] [.tt 8,.tt 8] (by kernel_rfl) (by kernel_rfl)
def s_f60_r4t1:List AOper:=[⟨some 16,(.call (.t 11) [(.t 15)]),none⟩]
def s_f60_r4p0:List AOper:=[⟨some 11,(.move (.t 1)),none⟩,⟨some 12,(.move (.t 0)),none⟩,⟨some 13,(.move (.t 5)),none⟩,⟨some 14,(.indexAddr 1 (.t 12) (.t 13)),none⟩,⟨some 15,(.load false 1 (.t 14)),none⟩]
def s_f60_r4:List AOper:=s_f60_r4p0 ++ s_f60_r4t1
def s_f60_r4p0_tale:=hT s_f60_r4p0 [12,13,14] [11,15] 16 [] [(11,(.t 1)),(15,(.op (.load false 1 (.t 0)) [(.op (.indexAddr 1 (.t 0) (.t 1)) [(.t 0),(.t 5)])]))] [.tt 1,.tt 0,.tt 5,.sub 1 [0] [],.sub 1 [] []] (by kernel_rfl) (by kernel_rfl)
def s_f60_r4_x:=hS s_f60_r4 s_f60_r4p0 s_f60_r4t1 [12,13,14] [11,15] [11,12,13,14,15] rfl (by kernel_rfl)
def s_f60_r4t1_x:=hX s_f60_r4t1 [11,12,13,14,15] [⟨some 16,(.call (.t 11) [(.t 15)]),none⟩] rfl
def s_f60_r5:List AOper:=[
 ⟨some 17,(.move (.t 5)),none⟩,
 ⟨some 4,(.move (.t 17)),none⟩]
def s_f60_r5_tale:=hT s_f60_r5 [0,1,5,7,8,16,17] [4] 18 [] [(4,(.t 5))] [.tt 5,.tt 5] (by kernel_rfl) (by kernel_rfl)
def s_f60_r6:List AOper:=[
 ⟨some 18,(.bin .add (.t 8) (.c (.s (.int .i64 1)))),none⟩,
 ⟨some 8,(.move (.t 18)),none⟩]
def s_f60_r6_tale:=hT s_f60_r6 [5,16,18] [8] 19 [] [(8,(.op (.bin .add (.t 0) (.c (.s (.int .i64 1)))) [(.t 8),(.c (.s (.int .i64 1)))]))] [.sub 0 [] [],.sub 0 [] []] (by kernel_rfl) (by kernel_rfl)
def s_f60_l0_b:ACode:=
 (.seq (.regionE s_f60_r2 [] [9])
 (.seq (.cond (.t 9)
 .skip
 (.exit 0))
 (.seq (.block 1
 (.seq (.regionE s_f60_r3 [9,10] [5])
 (.seq (.region s_f60_r4 [] [11,12,13,14,15])
 (.cond (.t 16)
 (.seq (.regionE s_f60_r5 [0,1,5,7,8,16,17] [4])
 .ret)
 .skip))))
 (.regionE s_f60_r6 [5,16,18] [8]))))
def s_f60_l0:ACode:=s_f60_l0_b
def s_f60_l0_ev:=hE s_f60_l0 s_f60_l0_b rfl
def s_f60_r7:List AOper:=[
 ⟨some 4,(.move (.c (.s (.int .i64 (-1))))),none⟩]
def s_f60_r7_tale:=hT s_f60_r7 [0,1,7,8,9] [4] 5 [] [(4,(.c (.s (.int .i64 (-1)))))] [.cc (.s (.int .i64 (-1)))] (by kernel_rfl) (by kernel_rfl)
def s_f60:ACFun:={ ntmps:=19,results:=[(.tmp 4)],body:=
 (.seq (.regionE s_f60_r0 s_f60_r0_k [])
 (.seq (.seq (.regionE s_f60_r1 [6] [7,8])
 (.block 0
 (.loop [] s_f60_l0)))
 (.seq (.regionE s_f60_r7 [0,1,7,8,9] [4])
 .ret))) }
abbrev k_f22:Nat:=22
def a_f23:=ai @s_f23_r0_tale (ai @s_f23_r0_kT (ai @s_f23_r0_kA0 (ai @s_f23_r1_tale (ai @s_f23_r2_tale (ai @s_f23_r3_tale (ai @s_f23_r4_tale (ai @s_f23_r5_tale (ai @s_f23_r6_tale (ai @s_f23_r7_tale (ai @s_f23_r8_tale (ai @s_f23_r9_tale (ai @s_f23_r10p0_tale (ai @s_f23_r10_x (ai @s_f23_r10t1_x (ai @s_f23_r11_tale (ai @s_f23_r12_tale (ai @s_f23_l0_ev (ai @s_f23_r13p0_tale (ai @s_f23_r13_x (ai @s_f23_r13t1_x (ai @s_f23_r14_tale (ai @s_f23_r15_tale (ai @s_f23_l1_ev (@s_f23_r16_tale))))))))))))))))))))))))
def a_f24:=ai @s_f24_r0_tale (ai @s_f24_r0_kT (ai @s_f24_r0_kA0 (ai @s_f24_r1p0_tale (ai @s_f24_r1_x (ai @s_f24_r1t1_x (ai @s_f24_r1t2_tale (ai @s_f24_r1t2_x (ai @s_f24_r2p0_tale (ai @s_f24_r2_x (ai @s_f24_r2t1_x (ai @s_f24_r2t2_tale (ai @s_f24_r2t2_x (ai @s_f24_r3_tale (ai @s_f24_r4_tale (ai @s_f24_r5_tale (ai @s_f24_r6_tale (ai @s_f24_r7_tale (ai @s_f24_r8p0_tale (ai @s_f24_r8_x (ai @s_f24_r8t1_x (ai @s_f24_r8t2_x (ai @s_f24_r8p3_tale (ai @s_f24_r8t3_x (ai @s_f24_r8t4_x (ai @s_f24_r9_tale (ai @s_f24_l0_ev (ai @s_f24_r10_tale (ai @s_f24_l1_ev (@s_f24_r11_tale)))))))))))))))))))))))))))))
def a_f31:=ai @s_f31_r0_x (ai @s_f31_r0t1_tale (ai @s_f31_r0t1_x (ai @s_f31_r0_k_kA0 (ai @s_f31_r0_k_kA1 (ai @s_f31_r0_k_kA2 (ai @s_f31_r1p0_tale (ai @s_f31_r1_x (ai @s_f31_r1t1_x (ai @s_f31_r1t2_tale (ai @s_f31_r1t2_x (ai @s_f31_r2_tale (ai @s_f31_r3_tale (ai @s_f31_r4_tale (ai @s_f31_r5p0_tale (ai @s_f31_r5_x (ai @s_f31_r5t1_x (ai @s_f31_r5p2_tale (ai @s_f31_r5t2_x (ai @s_f31_r5t3_x (ai @s_f31_r5t4_tale (ai @s_f31_r5t4_x (ai @s_f31_r6p0_tale (ai @s_f31_r6_x (ai @s_f31_r6t1_x (ai @s_f31_r7p0_tale (ai @s_f31_r7_x (ai @s_f31_r7t1_x (ai @s_f31_r7p2_tale (ai @s_f31_r7t2_x (ai @s_f31_r7t3_x (ai @s_f31_r8_tale (ai @s_f31_l0_ev (@s_f31_r9_tale)))))))))))))))))))))))))))))))))
def a_f47:=ai @s_f47_r0_tale (ai @s_f47_r0_kT (ai @s_f47_r0_kA0 (ai @s_f47_r0_kA1 (ai @s_f47_r1p0_tale (ai @s_f47_r1_x (ai @s_f47_r1t1_x (ai @s_f47_r1t2_tale (ai @s_f47_r1t2_x (ai @s_f47_r2_tale (ai @s_f47_r3_tale (ai @s_f47_r4_tale (ai @s_f47_r5_tale (ai @s_f47_r6_tale (ai @s_f47_r7p0_tale (ai @s_f47_r7_x (ai @s_f47_r7t1_x (ai @s_f47_r7t2_tale (ai @s_f47_r7t2_x (ai @s_f47_r8p0_tale (ai @s_f47_r8_x (ai @s_f47_r8t1_x (ai @s_f47_r9_tale (ai @s_f47_r10_tale (ai @s_f47_l0_ev (ai @s_f47_r11p0_tale (ai @s_f47_r11_x (ai @s_f47_r11t1_x (@s_f47_r12_tale))))))))))))))))))))))))))))
def a_f48:=ai @s_f48_r0_tale (ai @s_f48_r0_kT (ai @s_f48_r0_kA0 (ai @s_f48_r1_tale (ai @s_f48_r2_tale (ai @s_f48_r3_x (ai @s_f48_r3p1_tale (ai @s_f48_r3t1_x (ai @s_f48_r3t2_x (ai @s_f48_r3t3_tale (@s_f48_r3t3_x))))))))))
def a_f49:=ai @s_f49_r0_tale (ai @s_f49_r0_kT (ai @s_f49_r0_kA0 (ai @s_f49_r0_kA1 (@s_f49_r1_tale))))
def a_f60:=ai @s_f60_r0_tale (ai @s_f60_r0_kT (ai @s_f60_r0_kA0 (ai @s_f60_r0_kA1 (ai @s_f60_r1_tale (ai @s_f60_r2_tale (ai @s_f60_r3_tale (ai @s_f60_r4p0_tale (ai @s_f60_r4_x (ai @s_f60_r4t1_x (ai @s_f60_r5_tale (ai @s_f60_r6_tale (ai @s_f60_l0_ev (@s_f60_r7_tale)))))))))))))
theorem GA1_23:compK Try.prog PX0 23=some (false,s_f23.ntmps,s_f23.results,s_f23.body.bare):=by kernel_rfl
theorem GA1_24:compK Try.prog PX0 24=some (false,s_f24.ntmps,s_f24.results,s_f24.body.bare):=by kernel_rfl
theorem GA1_31:compK Try.prog PX0 31=some (false,s_f31.ntmps,s_f31.results,s_f31.body.bare):=by kernel_rfl
theorem GA1_47:compK Try.prog PX0 47=some (false,s_f47.ntmps,s_f47.results,s_f47.body.bare):=by kernel_rfl
theorem GA1_48:compK Try.prog PX0 48=some (false,s_f48.ntmps,s_f48.results,s_f48.body.bare):=by kernel_rfl
theorem GA1_49:compK Try.prog PX0 49=some (false,s_f49.ntmps,s_f49.results,s_f49.body.bare):=by kernel_rfl
theorem GA1_60:compK Try.prog PX0 60=some (false,s_f60.ntmps,s_f60.results,s_f60.body.bare):=by kernel_rfl
end Go.Proofs.Ytgimjihhlhjejaa
set_option maxRecDepth 100000
namespace Go.Proofs.Ytgimjihhlhjejaa
open Go.AM
abbrev k_f13:Nat:=13
def s_f13_r0_k:List Nat:=[0,3,4,5,6,7,8,9,10,11,12,13,14,15,16,17,18,19,20,21,22,23,24,25,26,27,28,29,30,31,32,33,34,35,36,37,38,39,40,41,42,43,44,45,46,47,48,49,50,51,52,53,54,55,56,57,58,59,60,61,62,63,64,65,66,67,68,69,70,71,72,73,74,75,76,77,78,79,80,81,82,83,84,85,86,87,88,89,90,91,92,93,94,95,96,97,98,99,100,101,102]
theorem s_f13_r0_k_kA0:s_f13_r0_k.contains 0=true:=by kernel_rfl
theorem s_f13_r0_k_kA1:s_f13_r0_k.contains 1=false:=by kernel_rfl
theorem s_f13_r0_k_kA2:s_f13_r0_k.contains 2=false:=by kernel_rfl
theorem s_f13_r0_k_kA3:s_f13_r0_k.contains 3=true:=by kernel_rfl
def s_f13_r0t2:List AOper:=[⟨some 3,(.move (.c (.s (.int .i64 0)))),none⟩]
def s_f13_r0p1:List AOper:=[⟨some 2,(.alloc [(.s (.slice none 0 0)),(.s (.slice none 0 0))]),none⟩]
def s_f13_r0t1:List AOper:=s_f13_r0p1 ++ s_f13_r0t2
def s_f13_r0p0:List AOper:=[⟨some 1,(.box (.t 0)),none⟩]
def s_f13_r0:List AOper:=s_f13_r0p0 ++ s_f13_r0t1
def s_f13_r0p0_k:List Nat:=[0,2,3,4,5,6,7,8,9,10,11,12,13,14,15,16,17,18,19,20,21,22,23,24,25,26,27,28,29,30,31,32,33,34,35,36,37,38,39,40,41,42,43,44,45,46,47,48,49,50,51,52,53,54,55,56,57,58,59,60,61,62,63,64,65,66,67,68,69,70,71,72,73,74,75,76,77,78,79,80,81,82,83,84,85,86,87,88,89,90,91,92,93,94,95,96,97,98,99,100,101,102]
theorem s_f13_r0p0_k_kA0:s_f13_r0p0_k.contains 0=true:=by kernel_rfl
theorem s_f13_r0p0_k_kA1:s_f13_r0p0_k.contains 1=false:=by kernel_rfl
theorem s_f13_r0p0_k_kA2:s_f13_r0p0_k.contains 2=true:=by kernel_rfl
theorem s_f13_r0p0_k_kA3:s_f13_r0p0_k.contains 3=true:=by kernel_rfl
theorem s_f13_r0_x (call:CallF) (it:IterF) (base:Nat) (f:List V) (H:Heap):evC call it base (.region s_f13_r0 [] s_f13_r0_k) f H=thenC call it base (.region s_f13_r0t1 [] s_f13_r0_k) (opsC [] s_f13_r0p0 s_f13_r0p0_k (evOps call base [⟨some 1,(.box (.t 0)),none⟩] f H)):=(row_op call it base s_f13_r0p0 s_f13_r0t1 (kc:=s_f13_r0p0_k) (by kernel_rfl) f H).trans (by rw [row_ops];rfl)
def s_f13_r0t1_x:=hO s_f13_r0t1 s_f13_r0p1 s_f13_r0t2 [] s_f13_r0_k [⟨some 2,(.alloc [(.s (.slice none 0 0)),(.s (.slice none 0 0))]),none⟩] rfl rfl (by kernel_rfl)
def s_f13_r0t2_tale:=hT s_f13_r0t2 s_f13_r0_k [] 4 [] [] [.cc (.s (.int .i64 0))] (by kernel_rfl) (by kernel_rfl)
def s_f13_r0t2_x:=hL s_f13_r0t2 s_f13_r0_k []
def s_f13_r1t2:List AOper:=[⟨none,(.store 1 (.t 4) (.t 15)),none⟩]
def s_f13_r1p1:List AOper:=[⟨some 4,(.alloc [(.s (.map none))]),none⟩]
def s_f13_r1t1:List AOper:=s_f13_r1p1 ++ s_f13_r1t2
def s_f13_r1p0:List AOper:=[⟨some 15,.mapNew,none⟩]
def s_f13_r1:List AOper:=s_f13_r1p0 ++ s_f13_r1t1
def s_f13_r1_x:=hO s_f13_r1 s_f13_r1p0 s_f13_r1t1 [] [15] [⟨some 15,.mapNew,none⟩] rfl rfl (by kernel_rfl)
def s_f13_r1t1_x:=hO s_f13_r1t1 s_f13_r1p1 s_f13_r1t2 [] [15] [⟨some 4,(.alloc [(.s (.map none))]),none⟩] rfl rfl (by kernel_rfl)
def s_f13_r1t2_x:=hX s_f13_r1t2 [15] [⟨none,(.store 1 (.t 4) (.t 15)),none⟩] rfl
def s_f13_r2t1:List AOper:=[⟨some 18,(.call (.c (.fn 21 [] [])) [(.t 17)]),none⟩]
def s_f13_r2p0:List AOper:=[⟨some 16,(.fieldAddr 2 (.t 1)),none⟩,⟨some 17,(.load false 1 (.t 16)),none⟩]
def s_f13_r2:List AOper:=s_f13_r2p0 ++ s_f13_r2t1
def s_f13_r2p0_tale:=hT s_f13_r2p0 [16] [17] 18 [] [(17,(.op (.load false 1 (.t 0)) [(.op (.fieldAddr 2 (.t 0)) [(.t 1)])]))] [.sub 0 [0] [],.sub 0 [] []] (by kernel_rfl) (by kernel_rfl)
def s_f13_r2_x:=hS s_f13_r2 s_f13_r2p0 s_f13_r2t1 [16] [17] [16,17] rfl (by kernel_rfl)
def s_f13_r2t1_x:=hX s_f13_r2t1 [16,17] [⟨some 18,(.call (.c (.fn 21 [] [])) [(.t 17)]),none⟩] rfl
def s_f13_r3:List AOper:=[
 ⟨some 5,(.move (.t 19)),none⟩]
def s_f13_r3_tale:=hT s_f13_r3 [1,2,18,19] [5] 6 [] [(5,(.t 19))] [.tt 19] (by kernel_rfl) (by kernel_rfl)
def s_f13_r4t1:List AOper:=[⟨none,(.store 2 (.t 6) (.t 20)),none⟩]
def s_f13_r4p0:List AOper:=[⟨some 6,(.alloc [(.s (.string ⟨#[]⟩)),(.s (.slice none 0 0))]),none⟩]
def s_f13_r4:List AOper:=s_f13_r4p0 ++ s_f13_r4t1
def s_f13_r4_x:=hO s_f13_r4 s_f13_r4p0 s_f13_r4t1 [] [20] [⟨some 6,(.alloc [(.s (.string ⟨#[]⟩)),(.s (.slice none 0 0))]),none⟩] rfl rfl (by kernel_rfl)
def s_f13_r4t1_x:=hX s_f13_r4t1 [20] [⟨none,(.store 2 (.t 6) (.t 20)),none⟩] rfl
def s_f13_r5t1:List AOper:=[⟨none,(.mapUpd .string (.t 21) (.t 23) (.t 24)),none⟩]
def s_f13_r5p0:List AOper:=[⟨some 21,(.load false 1 (.t 4)),none⟩,⟨some 22,(.fieldAddr 0 (.t 6)),none⟩,⟨some 23,(.load false 1 (.t 22)),none⟩,⟨some 24,(.move (.t 5)),none⟩]
def s_f13_r5:List AOper:=s_f13_r5p0 ++ s_f13_r5t1
def s_f13_r5p0_tale:=hT s_f13_r5p0 [4,5,6,22] [21,23,24] 25 [] [(21,(.op (.load false 1 (.t 0)) [(.t 4)])),(23,(.op (.load false 1 (.t 0)) [(.op (.fieldAddr 0 (.t 0)) [(.t 6)])])),(24,(.t 5))] [.sub 0 [] [],.sub 1 [0] [],.sub 1 [] [],.tt 5] (by kernel_rfl) (by kernel_rfl)
def s_f13_r5_x:=hS s_f13_r5 s_f13_r5p0 s_f13_r5t1 [4,5,6,22] [21,23,24] [4,5,6,21,22,23,24] rfl (by kernel_rfl)
def s_f13_r5t1_x:=hX s_f13_r5t1 [4,5,6,21,22,23,24] [⟨none,(.mapUpd .string (.t 21) (.t 23) (.t 24)),none⟩] rfl
def s_cfg_Of_a0:ACode:=
 (.seq (.regionE s_f13_r3 [1,2,18,19] [5])
 (.region s_f13_r4 [] [20]))
def s_f13_b0:ACode:=
 (.block 1
 (.region s_f13_r5 [] [4,5,6,21,22,23,24]))
def s_f13_r6t2:List AOper:=[⟨some 7,(.move (.t 28)),none⟩]
def s_f13_r6p1:List AOper:=[⟨some 28,(.mkSl [(.s (.slice none 0 0))] 1 24 (.t 27) (.t 27)),none⟩]
def s_f13_r6t1:List AOper:=s_f13_r6p1 ++ s_f13_r6t2
def s_f13_r6p0:List AOper:=[⟨some 25,(.fieldAddr 2 (.t 1)),none⟩,⟨some 26,(.load false 1 (.t 25)),none⟩,⟨some 27,(.lenS .s (.t 26)),none⟩]
def s_f13_r6:List AOper:=s_f13_r6p0 ++ s_f13_r6t1
def s_f13_r6p0_tale:=hT s_f13_r6p0 [18,25,26] [27] 28 [] [(27,(.op (.lenS .s (.t 0)) [(.op (.load false 1 (.t 0)) [(.op (.fieldAddr 2 (.t 0)) [(.t 1)])])]))] [.sub 0 [0,0] [],.sub 0 [0] [],.sub 0 [] []] (by kernel_rfl) (by kernel_rfl)
def s_f13_r6_x:=hS s_f13_r6 s_f13_r6p0 s_f13_r6t1 [18,25,26] [27] [18,25,26,27,28] rfl (by kernel_rfl)
def s_f13_r6t1_x:=hO s_f13_r6t1 s_f13_r6p1 s_f13_r6t2 [27] [18,25,26,27,28] [⟨some 28,(.mkSl [(.s (.slice none 0 0))] 1 24 (.t 27) (.t 27)),none⟩] rfl rfl (by kernel_rfl)
def s_f13_r6t2_tale:=hT s_f13_r6t2 [18,25,26,27,28] [7] 8 [] [(7,(.t 28))] [.tt 28] (by kernel_rfl) (by kernel_rfl)
def s_f13_r6t2_x:=hL s_f13_r6t2 [18,25,26,27,28] [7]
def s_f13_r7:List AOper:=[
 ⟨some 29,(.fieldAddr 2 (.t 1)),none⟩,
 ⟨some 30,(.load false 1 (.t 29)),none⟩,
 ⟨some 31,(.lenS .s (.t 30)),none⟩,
 ⟨some 32,(.move (.c (.s (.int .i64 0)))),none⟩]
def s_f13_r7_tale:=hT s_f13_r7 [1,29] [30,31,32] 33 [] [(30,(.op (.load false 1 (.t 0)) [(.op (.fieldAddr 2 (.t 0)) [(.t 1)])])),(31,(.op (.lenS .s (.t 0)) [(.op (.load false 1 (.t 0)) [(.op (.fieldAddr 2 (.t 0)) [(.t 1)])])])),(32,(.c (.s (.int .i64 0))))] [.sub 0 [0] [],.sub 0 [] [],.sub 1 [] [],.cc (.s (.int .i64 0))] (by kernel_rfl) (by kernel_rfl)
def s_f13_r8:List AOper:=[
 ⟨some 33,(.bin .lss (.t 32) (.t 31)),none⟩]
def s_f13_r8_tale:=hT s_f13_r8 [] [33] 34 [] [(33,(.op (.bin .lss (.t 0) (.t 1)) [(.t 32),(.t 31)]))] [.sub 0 [] []] (by kernel_rfl) (by kernel_rfl)
def s_f13_r9t3:List AOper:=[⟨none,(.store 2 (.t 9) (.t 36)),none⟩]
def s_f13_r9p2:List AOper:=[⟨some 8,(.move (.t 34)),none⟩]
def s_f13_r9t2:List AOper:=s_f13_r9p2 ++ s_f13_r9t3
def s_f13_r9p1:List AOper:=[⟨some 9,(.alloc [(.s (.string ⟨#[]⟩)),(.s (.slice none 0 0))]),none⟩]
def s_f13_r9t1:List AOper:=s_f13_r9p1 ++ s_f13_r9t2
def s_f13_r9p0:List AOper:=[⟨some 34,(.move (.t 32)),none⟩,⟨some 35,(.indexAddr 2 (.t 30) (.t 32)),none⟩,⟨some 36,(.load true 2 (.t 35)),none⟩]
def s_f13_r9:List AOper:=s_f13_r9p0 ++ s_f13_r9t1
def s_f13_r9p0_tale:=hT s_f13_r9p0 [33,35] [34,36] 37 [] [(34,(.t 32)),(36,(.op (.load true 2 (.t 0)) [(.op (.indexAddr 2 (.t 0) (.t 1)) [(.t 30),(.t 32)])]))] [.tt 32,.sub 1 [0] [],.sub 1 [] []] (by kernel_rfl) (by kernel_rfl)
def s_f13_r9_x:=hS s_f13_r9 s_f13_r9p0 s_f13_r9t1 [33,35] [34,36] [33,34,35,36] rfl (by kernel_rfl)
def s_f13_r9t1_x:=hO s_f13_r9t1 s_f13_r9p1 s_f13_r9t2 [] [33,34,35,36] [⟨some 9,(.alloc [(.s (.string ⟨#[]⟩)),(.s (.slice none 0 0))]),none⟩] rfl rfl (by kernel_rfl)
def s_f13_r9p2_tale:=hT s_f13_r9p2 [34] [8] 9 [] [(8,(.t 34))] [.tt 34] (by kernel_rfl) (by kernel_rfl)
def s_f13_r9t2_x:=hS s_f13_r9t2 s_f13_r9p2 s_f13_r9t3 [34] [8] [33,34,35,36] rfl (by kernel_rfl)
def s_f13_r9t3_x:=hX s_f13_r9t3 [33,34,35,36] [⟨none,(.store 2 (.t 9) (.t 36)),none⟩] rfl
def s_f13_r10:List AOper:=[
 ⟨some 37,(.fieldAddr 1 (.t 9)),none⟩,
 ⟨some 38,(.load false 1 (.t 37)),none⟩,
 ⟨some 39,(.lenS .s (.t 38)),none⟩,
 ⟨some 40,(.bin .eql (.t 39) (.c (.s (.int .i64 0)))),none⟩]
def s_f13_r10_tale:=hT s_f13_r10 [37,38,39] [40] 41 [] [(40,(.op (.bin .eql (.t 0) (.c (.s (.int .i64 0)))) [(.op (.lenS .s (.t 0)) [(.op (.load false 1 (.t 0)) [(.op (.fieldAddr 1 (.t 0)) [(.t 9)])])]),(.c (.s (.int .i64 0)))]))] [.sub 0 [0,0,0] [],.sub 0 [0,0] [],.sub 0 [0] [],.sub 0 [] []] (by kernel_rfl) (by kernel_rfl)
def s_f13_r11t2:List AOper:=[⟨some 3,(.move (.c (.s (.int .i64 4)))),none⟩]
def s_f13_r11p1:List AOper:=[⟨none,(.store 2 (.t 2) (.t 41)),none⟩]
def s_f13_r11t1:List AOper:=s_f13_r11p1 ++ s_f13_r11t2
def s_f13_r11p0:List AOper:=[⟨some 41,(.build [(.s (.slice none 0 0)),(.s (.slice none 0 0))] [(0,1),(1,1)] []),none⟩]
def s_f13_r11:List AOper:=s_f13_r11p0 ++ s_f13_r11t1
def s_f13_r11p0_tale:=hT s_f13_r11p0 [4,7,8,9,30,31,32,40] [41] 42 [] [(41,(.op (.build [(.s (.slice none 0 0)),(.s (.slice none 0 0))] [(0,1),(1,1)] []) []))] [.sub 0 [] []] (by kernel_rfl) (by kernel_rfl)
def s_f13_r11_x:=hS s_f13_r11 s_f13_r11p0 s_f13_r11t1 [4,7,8,9,30,31,32,40] [41] [4,7,8,9,30,31,32,40,41] rfl (by kernel_rfl)
def s_f13_r11t1_x:=hO s_f13_r11t1 s_f13_r11p1 s_f13_r11t2 [41] [4,7,8,9,30,31,32,40,41] [⟨none,(.store 2 (.t 2) (.t 41)),none⟩] rfl rfl (by kernel_rfl)
def s_f13_r11t2_tale:=hT s_f13_r11t2 [4,7,8,9,30,31,32,40,41] [3] 4 [] [(3,(.c (.s (.int .i64 4))))] [.cc (.s (.int .i64 4))] (by kernel_rfl) (by kernel_rfl)
def s_f13_r11t2_x:=hL s_f13_r11t2 [4,7,8,9,30,31,32,40,41] [3]
def s_f13_r12t2:List AOper:=[⟨none,(.store 8 (.t 10) (.t 49)),none⟩]
def s_f13_r12p1:List AOper:=[⟨some 10,(.alloc [(.s (.int .u8 0)),(.s (.string ⟨#[]⟩)),(.s (.string ⟨#[]⟩)),(.s (.string ⟨#[]⟩)),(.s (.int .i64 0)),(.s (.string ⟨#[]⟩)),(.s (.slice none 0 0)),(.s (.slice none 0 0))]),none⟩]
def s_f13_r12t1:List AOper:=s_f13_r12p1 ++ s_f13_r12t2
def s_f13_r12p0:List AOper:=[⟨some 42,(.fieldAddr 1 (.t 9)),none⟩,⟨some 43,(.load false 1 (.t 42)),none⟩,⟨some 44,(.fieldAddr 1 (.t 9)),none⟩,⟨some 45,(.load false 1 (.t 44)),none⟩,⟨some 46,(.lenS .s (.t 45)),none⟩,⟨some 47,(.bin .sub (.t 46) (.c (.s (.int .i64 1)))),none⟩,⟨some 48,(.indexAddr 8 (.t 43) (.t 47)),none⟩,⟨some 49,(.load true 8 (.t 48)),none⟩]
def s_f13_r12:List AOper:=s_f13_r12p0 ++ s_f13_r12t1
def s_f13_r12p0_tale:=hT s_f13_r12p0 [9,40,42,43,44,45,46,47,48] [49] 50 [] [(49,(.op (.load true 8 (.t 0)) [(.op (.indexAddr 8 (.t 0) (.t 1)) [(.op (.load false 1 (.t 0)) [(.op (.fieldAddr 1 (.t 0)) [(.t 9)])]),(.op (.bin .sub (.t 0) (.c (.s (.int .i64 1)))) [(.op (.lenS .s (.t 0)) [(.op (.load false 1 (.t 0)) [(.op (.fieldAddr 1 (.t 0)) [(.t 9)])])]),(.c (.s (.int .i64 1)))])])]))] [.sub 0 [0,0,0] [],.sub 0 [0,0] [],.sub 0 [0,0,0] [],.sub 0 [0,0] [],.sub 0 [0,1,0] [],.sub 0 [0,1] [],.sub 0 [0] [],.sub 0 [] []] (by kernel_rfl) (by kernel_rfl)
def s_f13_r12_x:=hS s_f13_r12 s_f13_r12p0 s_f13_r12t1 [9,40,42,43,44,45,46,47,48] [49] [9,40,42,43,44,45,46,47,48,49] rfl (by kernel_rfl)
def s_f13_r12t1_x:=hO s_f13_r12t1 s_f13_r12p1 s_f13_r12t2 [] [9,40,42,43,44,45,46,47,48,49] [⟨some 10,(.alloc [(.s (.int .u8 0)),(.s (.string ⟨#[]⟩)),(.s (.string ⟨#[]⟩)),(.s (.string ⟨#[]⟩)),(.s (.int .i64 0)),(.s (.string ⟨#[]⟩)),(.s (.slice none 0 0)),(.s (.slice none 0 0))]),none⟩] rfl rfl (by kernel_rfl)
def s_f13_r12t2_x:=hX s_f13_r12t2 [9,40,42,43,44,45,46,47,48,49] [⟨none,(.store 8 (.t 10) (.t 49)),none⟩] rfl
def s_f13_r13:List AOper:=[
 ⟨some 50,(.fieldAddr 0 (.t 10)),none⟩,
 ⟨some 51,(.load false 1 (.t 50)),none⟩]
def s_f13_r13_tale:=hT s_f13_r13 [50] [51] 52 [] [(51,(.op (.load false 1 (.t 0)) [(.op (.fieldAddr 0 (.t 0)) [(.t 10)])]))] [.sub 0 [0] [],.sub 0 [] []] (by kernel_rfl) (by kernel_rfl)
def s_f13_r14:List AOper:=[
 ⟨some 54,(.bin .eql (.t 51) (.c (.s (.int .u8 12)))),none⟩,
 ⟨some 53,(.move (.t 54)),none⟩]
def s_f13_r14_tale:=hT s_f13_r14 [54] [53] 55 [] [(53,(.op (.bin .eql (.t 0) (.c (.s (.int .u8 12)))) [(.t 51),(.c (.s (.int .u8 12)))]))] [.sub 0 [] [],.sub 0 [] []] (by kernel_rfl) (by kernel_rfl)
def s_f13_r15:List AOper:=[
 ⟨some 55,(.bin .eql (.t 51) (.c (.s (.int .u8 13)))),none⟩,
 ⟨some 53,(.move (.t 55)),none⟩]
def s_f13_r15_tale:=hT s_f13_r15 [55] [53] 56 [] [(53,(.op (.bin .eql (.t 0) (.c (.s (.int .u8 13)))) [(.t 51),(.c (.s (.int .u8 13)))]))] [.sub 0 [] [],.sub 0 [] []] (by kernel_rfl) (by kernel_rfl)
def s_f13_r16:List AOper:=[
 ⟨some 56,(.fieldAddr 7 (.t 10)),none⟩,
 ⟨some 57,(.load false 1 (.t 56)),none⟩,
 ⟨some 58,(.lenS .s (.t 57)),none⟩,
 ⟨some 59,(.move (.c (.s (.int .i64 0)))),none⟩]
def s_f13_r16_tale:=hT s_f13_r16 [10,51,53,56] [57,58,59] 60 [] [(57,(.op (.load false 1 (.t 0)) [(.op (.fieldAddr 7 (.t 0)) [(.t 10)])])),(58,(.op (.lenS .s (.t 0)) [(.op (.load false 1 (.t 0)) [(.op (.fieldAddr 7 (.t 0)) [(.t 10)])])])),(59,(.c (.s (.int .i64 0))))] [.sub 0 [0] [],.sub 0 [] [],.sub 1 [] [],.cc (.s (.int .i64 0))] (by kernel_rfl) (by kernel_rfl)
def s_f13_r17:List AOper:=[
 ⟨some 60,(.bin .lss (.t 59) (.t 58)),none⟩]
def s_f13_r17_tale:=hT s_f13_r17 [] [60] 61 [] [(60,(.op (.bin .lss (.t 0) (.t 1)) [(.t 59),(.t 58)]))] [.sub 0 [] []] (by kernel_rfl) (by kernel_rfl)
def s_f13_r18:List AOper:=[
 ⟨some 61,(.indexAddr 1 (.t 57) (.t 59)),none⟩,
 ⟨some 62,(.load false 1 (.t 61)),none⟩,
 ⟨some 12,(.move (.t 62)),none⟩]
def s_f13_r18_tale:=hT s_f13_r18 [60,61,62] [12] 63 [] [(12,(.op (.load false 1 (.t 0)) [(.op (.indexAddr 1 (.t 0) (.t 1)) [(.t 57),(.t 59)])]))] [.sub 0 [0] [],.sub 0 [] [],.sub 0 [] []] (by kernel_rfl) (by kernel_rfl)
def s_f13_r19:List AOper:=[
 ⟨some 64,(.load false 1 (.t 4)),none⟩,
 ⟨some 65,(.move (.t 12)),none⟩,
 ⟨some 66,(.mapGet .string (.s (.int .i64 0)) (.t 64) (.t 65) true),none⟩,
 ⟨some 63,(.move (.t 66)),none⟩,
 ⟨some 67,(.extract (.t 63) 0),none⟩,
 ⟨some 68,(.extract (.t 63) 1),none⟩,
 ⟨some 13,(.move (.t 67)),none⟩,
 ⟨some 14,(.move (.t 68)),none⟩]
def s_f13_r19_tale:=hT s_f13_r19 [12,63,64,65,66,67,68] [13,14] 69 [] [(13,(.op (.extract (.t 0) 0) [(.op (.mapGet .string (.s (.int .i64 0)) (.t 0) (.t 1) true) [(.op (.load false 1 (.t 0)) [(.t 4)]),(.t 12)])])),(14,(.op (.extract (.t 0) 1) [(.op (.mapGet .string (.s (.int .i64 0)) (.t 0) (.t 1) true) [(.op (.load false 1 (.t 0)) [(.t 4)]),(.t 12)])]))] [.sub 0 [0,0] [],.tt 12,.sub 0 [0] [],.sub 0 [0] [],.sub 0 [] [],.sub 1 [] [],.sub 0 [] [],.sub 1 [] []] (by kernel_rfl) (by kernel_rfl)
def s_f13_r20:List AOper:=[
 ⟨some 69,(.move (.t 14)),none⟩,
 ⟨some 70,(.un .not (.t 69)),none⟩]
def s_f13_r20_tale:=hT s_f13_r20 [14,69] [70] 71 [] [(70,(.op (.un .not (.t 0)) [(.t 14)]))] [.tt 14,.sub 0 [] []] (by kernel_rfl) (by kernel_rfl)
def s_f13_r21t2:List AOper:=[⟨some 3,(.move (.c (.s (.int .i64 4)))),none⟩]
def s_f13_r21p1:List AOper:=[⟨none,(.store 2 (.t 2) (.t 71)),none⟩]
def s_f13_r21t1:List AOper:=s_f13_r21p1 ++ s_f13_r21t2
def s_f13_r21p0:List AOper:=[⟨some 71,(.build [(.s (.slice none 0 0)),(.s (.slice none 0 0))] [(0,1),(1,1)] []),none⟩]
def s_f13_r21:List AOper:=s_f13_r21p0 ++ s_f13_r21t1
def s_f13_r21p0_tale:=hT s_f13_r21p0 [4,7,8,13,30,31,32,57,58,59,70] [71] 72 [] [(71,(.op (.build [(.s (.slice none 0 0)),(.s (.slice none 0 0))] [(0,1),(1,1)] []) []))] [.sub 0 [] []] (by kernel_rfl) (by kernel_rfl)
def s_f13_r21_x:=hS s_f13_r21 s_f13_r21p0 s_f13_r21t1 [4,7,8,13,30,31,32,57,58,59,70] [71] [4,7,8,13,30,31,32,57,58,59,70,71] rfl (by kernel_rfl)
def s_f13_r21t1_x:=hO s_f13_r21t1 s_f13_r21p1 s_f13_r21t2 [71] [4,7,8,13,30,31,32,57,58,59,70,71] [⟨none,(.store 2 (.t 2) (.t 71)),none⟩] rfl rfl (by kernel_rfl)
def s_f13_r21t2_tale:=hT s_f13_r21t2 [4,7,8,13,30,31,32,57,58,59,70,71] [3] 4 [] [(3,(.c (.s (.int .i64 4))))] [.cc (.s (.int .i64 4))] (by kernel_rfl) (by kernel_rfl)
def s_f13_r21t2_x:=hL s_f13_r21t2 [4,7,8,13,30,31,32,57,58,59,70,71] [3]
def s_f13_r22t4:List AOper:=[⟨none,(.store 1 (.t 81) (.t 80)),none⟩]
def s_f13_r22p3:List AOper:=[⟨some 81,(.indexAddr 1 (.t 72) (.t 73)),none⟩]
def s_f13_r22t3:List AOper:=s_f13_r22p3 ++ s_f13_r22t4
def s_f13_r22p2:List AOper:=[⟨some 80,(.append 1 8 (.t 77) (.t 79)),none⟩]
def s_f13_r22t2:List AOper:=s_f13_r22p2 ++ s_f13_r22t3
def s_f13_r22p1:List AOper:=[⟨some 79,(.buildSl 1 1 [(.s (.int .i64 0))] [(0,(.t 78))]),none⟩]
def s_f13_r22t1:List AOper:=s_f13_r22p1 ++ s_f13_r22t2
def s_f13_r22p0:List AOper:=[⟨some 72,(.move (.t 7)),none⟩,⟨some 73,(.move (.t 8)),none⟩,⟨some 74,(.move (.t 7)),none⟩,⟨some 75,(.move (.t 8)),none⟩,⟨some 76,(.indexAddr 1 (.t 74) (.t 75)),none⟩,⟨some 77,(.load false 1 (.t 76)),none⟩,⟨some 78,(.move (.t 13)),none⟩]
def s_f13_r22:List AOper:=s_f13_r22p0 ++ s_f13_r22t1
def s_f13_r22p0_tale:=hT s_f13_r22p0 [13,70,74,75,76] [72,73,77,78] 79 [] [(72,(.t 7)),(73,(.t 8)),(77,(.op (.load false 1 (.t 0)) [(.op (.indexAddr 1 (.t 0) (.t 1)) [(.t 7),(.t 8)])])),(78,(.t 13))] [.tt 7,.tt 8,.tt 7,.tt 8,.sub 2 [0] [],.sub 2 [] [],.tt 13] (by kernel_rfl) (by kernel_rfl)
def s_f13_r22_x:=hS s_f13_r22 s_f13_r22p0 s_f13_r22t1 [13,70,74,75,76] [72,73,77,78] [13,70,72,73,74,75,76,77,78,79,80,81] rfl (by kernel_rfl)
def s_f13_r22t1_x:=hO s_f13_r22t1 s_f13_r22p1 s_f13_r22t2 [78] [13,70,72,73,74,75,76,77,78,79,80,81] [⟨some 79,(.buildSl 1 1 [(.s (.int .i64 0))] [(0,(.t 78))]),none⟩] rfl rfl (by kernel_rfl)
def s_f13_r22t2_x:=hO s_f13_r22t2 s_f13_r22p2 s_f13_r22t3 [77,79] [13,70,72,73,74,75,76,77,78,79,80,81] [⟨some 80,(.append 1 8 (.t 77) (.t 79)),none⟩] rfl rfl (by kernel_rfl)
def s_f13_r22p3_tale:=hT s_f13_r22p3 [72,73] [81] 82 [] [(81,(.op (.indexAddr 1 (.t 0) (.t 1)) [(.t 72),(.t 73)]))] [.sub 0 [] []] (by kernel_rfl) (by kernel_rfl)
def s_f13_r22t3_x:=hS s_f13_r22t3 s_f13_r22p3 s_f13_r22t4 [72,73] [81] [13,70,72,73,74,75,76,77,78,79,80,81] rfl (by kernel_rfl)
def s_f13_r22t4_x:=hX s_f13_r22t4 [13,70,72,73,74,75,76,77,78,79,80,81] [⟨none,(.store 1 (.t 81) (.t 80)),none⟩] rfl
def s_f13_r23:List AOper:=[
 ⟨some 82,(.bin .add (.t 59) (.c (.s (.int .i64 1)))),none⟩,
 ⟨some 59,(.move (.t 82)),none⟩]
def s_f13_r23_tale:=hT s_f13_r23 [82] [59] 83 [] [(59,(.op (.bin .add (.t 0) (.c (.s (.int .i64 1)))) [(.t 59),(.c (.s (.int .i64 1)))]))] [.sub 0 [] [],.sub 0 [] []] (by kernel_rfl) (by kernel_rfl)
def s_f13_l1_b:ACode:=
 (.seq (.regionE s_f13_r17 [] [60])
 (.seq (.cond (.t 60)
 .skip
 (.exit 5))
 (.seq (.block 6
 (.seq (.regionE s_f13_r18 [60,61,62] [12])
 (.seq (.regionE s_f13_r19 [12,63,64,65,66,67,68] [13,14])
 (.seq (.seq (.regionE s_f13_r20 [14,69] [70])
 (.cond (.t 70)
 (.seq (.region s_f13_r21 [] [4,7,8,13,30,31,32,57,58,59,70,71])
 .ret)
 .skip))
 (.region s_f13_r22 [] [13,70,72,73,74,75,76,77,78,79,80,81])))))
 (.regionE s_f13_r23 [82] [59]))))
def s_f13_l1:ACode:=s_f13_l1_b
def s_f13_l1_ev:=hE s_f13_l1 s_f13_l1_b rfl
def s_f13_r24:List AOper:=[
 ⟨some 84,(.bin .eql (.t 51) (.c (.s (.int .u8 14)))),none⟩,
 ⟨some 83,(.move (.t 84)),none⟩]
def s_f13_r24_tale:=hT s_f13_r24 [10,51,53,84] [83] 85 [] [(83,(.op (.bin .eql (.t 0) (.c (.s (.int .u8 14)))) [(.t 51),(.c (.s (.int .u8 14)))]))] [.sub 0 [] [],.sub 0 [] []] (by kernel_rfl) (by kernel_rfl)
def s_f13_r25t2:List AOper:=[⟨some 3,(.move (.c (.s (.int .i64 4)))),none⟩]
def s_f13_r25p1:List AOper:=[⟨none,(.store 2 (.t 2) (.t 52)),none⟩]
def s_f13_r25t1:List AOper:=s_f13_r25p1 ++ s_f13_r25t2
def s_f13_r25p0:List AOper:=[⟨some 52,(.build [(.s (.slice none 0 0)),(.s (.slice none 0 0))] [(0,1),(1,1)] []),none⟩]
def s_f13_r25:List AOper:=s_f13_r25p0 ++ s_f13_r25t1
def s_f13_r25p0_tale:=hT s_f13_r25p0 [4,7,8,30,31,32,83] [52] 53 [] [(52,(.op (.build [(.s (.slice none 0 0)),(.s (.slice none 0 0))] [(0,1),(1,1)] []) []))] [.sub 0 [] []] (by kernel_rfl) (by kernel_rfl)
def s_f13_r25_x:=hS s_f13_r25 s_f13_r25p0 s_f13_r25t1 [4,7,8,30,31,32,83] [52] [4,7,8,30,31,32,52,83] rfl (by kernel_rfl)
def s_f13_r25t1_x:=hO s_f13_r25t1 s_f13_r25p1 s_f13_r25t2 [52] [4,7,8,30,31,32,52,83] [⟨none,(.store 2 (.t 2) (.t 52)),none⟩] rfl rfl (by kernel_rfl)
def s_f13_r25t2_tale:=hT s_f13_r25t2 [4,7,8,30,31,32,52,83] [3] 4 [] [(3,(.c (.s (.int .i64 4))))] [.cc (.s (.int .i64 4))] (by kernel_rfl) (by kernel_rfl)
def s_f13_r25t2_x:=hL s_f13_r25t2 [4,7,8,30,31,32,52,83] [3]
def s_f13_r26t1:List AOper:=[⟨some 89,(.call (.c (.fn 22 [] [])) [(.t 88)]),none⟩]
def s_f13_r26p0:List AOper:=[⟨some 85,(.move (.t 7)),none⟩,⟨some 86,(.move (.t 8)),none⟩,⟨some 87,(.indexAddr 1 (.t 85) (.t 86)),none⟩,⟨some 88,(.load false 1 (.t 87)),none⟩]
def s_f13_r26:List AOper:=s_f13_r26p0 ++ s_f13_r26t1
def s_f13_r26p0_tale:=hT s_f13_r26p0 [57,58,59,60,83,85,86,87] [88] 89 [] [(88,(.op (.load false 1 (.t 0)) [(.op (.indexAddr 1 (.t 0) (.t 1)) [(.t 7),(.t 8)])]))] [.tt 7,.tt 8,.sub 0 [0] [],.sub 0 [] []] (by kernel_rfl) (by kernel_rfl)
def s_f13_r26_x:=hS s_f13_r26 s_f13_r26p0 s_f13_r26t1 [57,58,59,60,83,85,86,87] [88] [57,58,59,60,83,85,86,87,88,89] rfl (by kernel_rfl)
def s_f13_r26t1_x:=hX s_f13_r26t1 [57,58,59,60,83,85,86,87,88,89] [⟨some 89,(.call (.c (.fn 22 [] [])) [(.t 88)]),none⟩] rfl
def s_f13_r27t3:List AOper:=[⟨none,(.store 1 (.t 97) (.t 96)),none⟩]
def s_f13_r27p2:List AOper:=[⟨some 97,(.indexAddr 1 (.t 90) (.t 91)),none⟩]
def s_f13_r27t2:List AOper:=s_f13_r27p2 ++ s_f13_r27t3
def s_f13_r27p1:List AOper:=[⟨some 96,(.call (.c (.fn 23 [] [])) [(.t 95)]),none⟩]
def s_f13_r27t1:List AOper:=s_f13_r27p1 ++ s_f13_r27t2
def s_f13_r27p0:List AOper:=[⟨some 90,(.move (.t 7)),none⟩,⟨some 91,(.move (.t 8)),none⟩,⟨some 92,(.move (.t 7)),none⟩,⟨some 93,(.move (.t 8)),none⟩,⟨some 94,(.indexAddr 1 (.t 92) (.t 93)),none⟩,⟨some 95,(.load false 1 (.t 94)),none⟩]
def s_f13_r27:List AOper:=s_f13_r27p0 ++ s_f13_r27t1
def s_f13_r27p0_tale:=hT s_f13_r27p0 [8,92,93,94] [90,91,95] 96 [] [(90,(.t 7)),(91,(.t 8)),(95,(.op (.load false 1 (.t 0)) [(.op (.indexAddr 1 (.t 0) (.t 1)) [(.t 7),(.t 8)])]))] [.tt 7,.tt 8,.tt 7,.tt 8,.sub 2 [0] [],.sub 2 [] []] (by kernel_rfl) (by kernel_rfl)
def s_f13_r27_x:=hS s_f13_r27 s_f13_r27p0 s_f13_r27t1 [8,92,93,94] [90,91,95] [8,90,91,92,93,94,95,96,97] rfl (by kernel_rfl)
def s_f13_r27t1_x:=hO s_f13_r27t1 s_f13_r27p1 s_f13_r27t2 [95] [8,90,91,92,93,94,95,96,97] [⟨some 96,(.call (.c (.fn 23 [] [])) [(.t 95)]),none⟩] rfl rfl (by kernel_rfl)
def s_f13_r27p2_tale:=hT s_f13_r27p2 [90,91] [97] 98 [] [(97,(.op (.indexAddr 1 (.t 0) (.t 1)) [(.t 90),(.t 91)]))] [.sub 0 [] []] (by kernel_rfl) (by kernel_rfl)
def s_f13_r27t2_x:=hS s_f13_r27t2 s_f13_r27p2 s_f13_r27t3 [90,91] [97] [8,90,91,92,93,94,95,96,97] rfl (by kernel_rfl)
def s_f13_r27t3_x:=hX s_f13_r27t3 [8,90,91,92,93,94,95,96,97] [⟨none,(.store 1 (.t 97) (.t 96)),none⟩] rfl
def s_f13_r28:List AOper:=[
 ⟨some 98,(.bin .add (.t 32) (.c (.s (.int .i64 1)))),none⟩,
 ⟨some 32,(.move (.t 98)),none⟩]
def s_f13_r28_tale:=hT s_f13_r28 [98] [32] 99 [] [(32,(.op (.bin .add (.t 0) (.c (.s (.int .i64 1)))) [(.t 32),(.c (.s (.int .i64 1)))]))] [.sub 0 [] [],.sub 0 [] []] (by kernel_rfl) (by kernel_rfl)
def s_f13_l2_b:ACode:=
 (.seq (.regionE s_f13_r8 [] [33])
 (.seq (.cond (.t 33)
 .skip
 (.exit 2))
 (.seq (.block 3
 (.seq (.region s_f13_r9 [] [33,34,35,36])
 (.seq (.seq (.regionE s_f13_r10 [37,38,39] [40])
 (.cond (.t 40)
 (.seq (.region s_f13_r11 [] [4,7,8,9,30,31,32,40,41])
 .ret)
 .skip))
 (.seq (.seq (.region s_f13_r12 [] [9,40,42,43,44,45,46,47,48,49])
 (.seq (.regionE s_f13_r13 [50] [51])
 (.block 4
 (.seq (.seq (.regionE s_f13_r14 [54] [53])
 (.cond (.t 53)
 .skip
 (.regionE s_f13_r15 [55] [53])))
 (.cond (.t 53)
 (.seq (.regionE s_f13_r16 [10,51,53,56] [57,58,59])
 (.block 5
 (.loop [] s_f13_l1)))
 (.seq (.regionE s_f13_r24 [10,51,53,84] [83])
 (.cond (.t 83)
 .skip
 (.seq (.region s_f13_r25 [] [4,7,8,30,31,32,52,83])
 .ret))))))))
 (.seq (.region s_f13_r26 [] [57,58,59,60,83,85,86,87,88,89])
 (.region s_f13_r27 [] [8,90,91,92,93,94,95,96,97]))))))
 (.regionE s_f13_r28 [98] [32]))))
def s_f13_l2:ACode:=s_f13_l2_b
def s_f13_l2_ev:=hE s_f13_l2 s_f13_l2_b rfl
def s_f13_r29t4:List AOper:=[⟨some 3,(.move (.c (.s (.int .i64 0)))),none⟩]
def s_f13_r29p3:List AOper:=[⟨none,(.store 2 (.t 2) (.t 102)),none⟩]
def s_f13_r29t3:List AOper:=s_f13_r29p3 ++ s_f13_r29t4
def s_f13_r29p2:List AOper:=[⟨some 102,(.build [(.s (.slice none 0 0)),(.s (.slice none 0 0))] [(0,1),(1,1)] [(0,(.t 99)),(1,(.t 101))]),none⟩]
def s_f13_r29t2:List AOper:=s_f13_r29p2 ++ s_f13_r29t3
def s_f13_r29p1:List AOper:=[⟨some 101,(.call (.c (.fn 24 [] [])) [(.t 100)]),none⟩]
def s_f13_r29t1:List AOper:=s_f13_r29p1 ++ s_f13_r29t2
def s_f13_r29p0:List AOper:=[⟨some 99,(.move (.t 7)),none⟩,⟨some 100,(.move (.t 7)),none⟩]
def s_f13_r29:List AOper:=s_f13_r29p0 ++ s_f13_r29t1
def s_f13_r29p0_tale:=hT s_f13_r29p0 [4,7,30,31,32,33] [99,100] 101 [] [(99,(.t 7)),(100,(.t 7))] [.tt 7,.tt 7] (by kernel_rfl) (by kernel_rfl)
def s_f13_r29_x:=hS s_f13_r29 s_f13_r29p0 s_f13_r29t1 [4,7,30,31,32,33] [99,100] [4,7,30,31,32,33,99,100,101,102] rfl (by kernel_rfl)
def s_f13_r29t1_x:=hO s_f13_r29t1 s_f13_r29p1 s_f13_r29t2 [100] [4,7,30,31,32,33,99,100,101,102] [⟨some 101,(.call (.c (.fn 24 [] [])) [(.t 100)]),none⟩] rfl rfl (by kernel_rfl)
def s_f13_r29p2_tale:=hT s_f13_r29p2 [99,101] [102] 103 [] [(102,(.op (.build [(.s (.slice none 0 0)),(.s (.slice none 0 0))] [(0,1),(1,1)] [(0,(.t 0)),(1,(.t 1))]) [(.t 99),(.t 101)]))] [.sub 0 [] []] (by kernel_rfl) (by kernel_rfl)
def s_f13_r29t2_x:=hS s_f13_r29t2 s_f13_r29p2 s_f13_r29t3 [99,101] [102] [4,7,30,31,32,33,99,100,101,102] rfl (by kernel_rfl)
def s_f13_r29t3_x:=hO s_f13_r29t3 s_f13_r29p3 s_f13_r29t4 [102] [4,7,30,31,32,33,99,100,101,102] [⟨none,(.store 2 (.t 2) (.t 102)),none⟩] rfl rfl (by kernel_rfl)
def s_f13_r29t4_tale:=hT s_f13_r29t4 [4,7,30,31,32,33,99,100,101,102] [3] 4 [] [(3,(.c (.s (.int .i64 0))))] [.cc (.s (.int .i64 0))] (by kernel_rfl) (by kernel_rfl)
def s_f13_r29t4_x:=hL s_f13_r29t4 [4,7,30,31,32,33,99,100,101,102] [3]
def s_f13:ACFun:={ ntmps:=103,results:=[(.cell 2 true 2),(.tmp 3)],body:=
 (.seq (.region s_f13_r0 [] s_f13_r0_k)
 (.seq (.region s_f13_r1 [] [15])
 (.seq (.seq (.region s_f13_r2 [] [16,17])
 (.block 0
 (.rangeFunc (.t 18) [19,20] s_cfg_Of_a0 s_f13_b0)))
 (.seq (.region s_f13_r6 [] [18,25,26,27,28])
 (.seq (.seq (.regionE s_f13_r7 [1,29] [30,31,32])
 (.block 2
 (.loop [] s_f13_l2)))
 (.seq (.region s_f13_r29 [] [4,7,30,31,32,33,99,100,101,102])
 .ret)))))) }
theorem s_f13_first:firstOk (List.range' 1 (s_f13.ntmps - 1)) s_f13.body=true:=by kernel_rfl
def s_f14_r0_k:List Nat:=[2,3,4,5,6,7,8,9,10,11,12,13,14,15,16,17,18,19,20,21,22,23,24,25,26,27,28,29,30,31,32,33,34,35,36,37,38,39,40,41,42,43,44,45,46,47,48,49,50,51,52]
def s_f14_r0:List AOper:=[
 ⟨some 4,(.move (.c (.s (.bool false)))),none⟩]
def s_f14_r1:List AOper:=[
 ⟨some 7,(.move (.t 0)),none⟩,
 ⟨some 8,(.lenS .s (.t 7)),none⟩,
 ⟨some 9,(.move (.t 1)),none⟩,
 ⟨some 10,(.lenS .s (.t 9)),none⟩,
 ⟨some 11,(.bin .neq (.t 8) (.t 10)),none⟩]
def s_f14_r2:List AOper:=[
 ⟨some 4,(.move (.c (.s (.bool false)))),none⟩]
def s_f14_r3:List AOper:=[
 ⟨some 5,(.move (.c (.s (.int .i64 0)))),none⟩]
def s_f14_r4:List AOper:=[
 ⟨some 12,(.move (.t 5)),none⟩,
 ⟨some 13,(.move (.t 0)),none⟩,
 ⟨some 14,(.lenS .s (.t 13)),none⟩,
 ⟨some 15,(.bin .lss (.t 12) (.t 14)),none⟩]
def s_f14_r5:List AOper:=[
 ⟨some 18,(.move (.t 0)),none⟩,
 ⟨some 19,(.move (.t 5)),none⟩,
 ⟨some 20,(.indexAddr 1 (.t 18) (.t 19)),none⟩,
 ⟨some 21,(.load false 1 (.t 20)),none⟩,
 ⟨some 22,(.lenS .s (.t 21)),none⟩,
 ⟨some 23,(.move (.t 1)),none⟩,
 ⟨some 24,(.move (.t 5)),none⟩,
 ⟨some 25,(.indexAddr 1 (.t 23) (.t 24)),none⟩,
 ⟨some 26,(.load false 1 (.t 25)),none⟩,
 ⟨some 27,(.lenS .s (.t 26)),none⟩,
 ⟨some 28,(.bin .neq (.t 22) (.t 27)),none⟩]
def s_f14_r6:List AOper:=[
 ⟨some 4,(.move (.c (.s (.bool false)))),none⟩]
def s_f14_r7:List AOper:=[
 ⟨some 6,(.move (.c (.s (.int .i64 0)))),none⟩]
def s_f14_r8:List AOper:=[
 ⟨some 29,(.move (.t 6)),none⟩,
 ⟨some 30,(.move (.t 0)),none⟩,
 ⟨some 31,(.move (.t 5)),none⟩,
 ⟨some 32,(.indexAddr 1 (.t 30) (.t 31)),none⟩,
 ⟨some 33,(.load false 1 (.t 32)),none⟩,
 ⟨some 34,(.lenS .s (.t 33)),none⟩,
 ⟨some 35,(.bin .lss (.t 29) (.t 34)),none⟩]
def s_f14_r9:List AOper:=[
 ⟨some 38,(.move (.t 0)),none⟩,
 ⟨some 39,(.move (.t 5)),none⟩,
 ⟨some 40,(.indexAddr 1 (.t 38) (.t 39)),none⟩,
 ⟨some 41,(.load false 1 (.t 40)),none⟩,
 ⟨some 42,(.move (.t 6)),none⟩,
 ⟨some 43,(.indexAddr 1 (.t 41) (.t 42)),none⟩,
 ⟨some 44,(.load false 1 (.t 43)),none⟩,
 ⟨some 45,(.move (.t 1)),none⟩,
 ⟨some 46,(.move (.t 5)),none⟩,
 ⟨some 47,(.indexAddr 1 (.t 45) (.t 46)),none⟩,
 ⟨some 48,(.load false 1 (.t 47)),none⟩,
 ⟨some 49,(.move (.t 6)),none⟩,
 ⟨some 50,(.indexAddr 1 (.t 48) (.t 49)),none⟩,
 ⟨some 51,(.load false 1 (.t 50)),none⟩,
 ⟨some 52,(.bin .neq (.t 44) (.t 51)),none⟩]
def s_f14_r10:List AOper:=[
 ⟨some 4,(.move (.c (.s (.bool false)))),none⟩]
def s_f14_r11:List AOper:=[
 ⟨some 36,(.move (.t 6)),none⟩,
 ⟨some 37,(.bin .add (.t 36) (.c (.s (.int .i64 1)))),none⟩,
 ⟨some 6,(.move (.t 37)),none⟩]
def s_f14_l0_b:ACode:=
 (.seq (.seq (.regionE s_f14_r8 [29,30,31,32,33,34] [35])
 (.cond (.t 35)
 .skip
 (.exit 2)))
 (.seq (.block 3
 (.seq (.regionE s_f14_r9 [35,38,39,40,41,42,43,44,45,46,47,48,49,50,51] [52])
 (.cond (.t 52)
 (.seq (.regionE s_f14_r10 [0,1,5,6,52] [4])
 .ret)
 .skip)))
 (.regionE s_f14_r11 [36,37,52] [6])))
def s_f14_l0:ACode:=s_f14_l0_b
def s_f14_r12:List AOper:=[
 ⟨some 16,(.move (.t 5)),none⟩,
 ⟨some 17,(.bin .add (.t 16) (.c (.s (.int .i64 1)))),none⟩,
 ⟨some 5,(.move (.t 17)),none⟩]
def s_f14_l1_b:ACode:=
 (.seq (.seq (.regionE s_f14_r4 [12,13,14] [15])
 (.cond (.t 15)
 .skip
 (.exit 0)))
 (.seq (.block 1
 (.seq (.seq (.regionE s_f14_r5 [15,18,19,20,21,22,23,24,25,26,27] [28])
 (.cond (.t 28)
 (.seq (.regionE s_f14_r6 [0,1,5,28] [4])
 .ret)
 .skip))
 (.seq (.regionE s_f14_r7 [28] [6])
 (.block 2
 (.loop [] s_f14_l0)))))
 (.regionE s_f14_r12 [6,16,17,35] [5])))
def s_f14_l1:ACode:=s_f14_l1_b
def s_f14_r13:List AOper:=[
 ⟨some 4,(.move (.c (.s (.bool true)))),none⟩]
def s_f14:ACFun:={ ntmps:=53,results:=[(.tmp 4)],body:=
 (.seq (.regionE s_f14_r0 s_f14_r0_k [])
 (.seq (.seq (.regionE s_f14_r1 [7,8,9,10] [11])
 (.cond (.t 11)
 (.seq (.regionE s_f14_r2 [0,1,11] [4])
 .ret)
 .skip))
 (.seq (.seq (.regionE s_f14_r3 [11] [5])
 (.block 0
 (.loop [] s_f14_l1)))
 (.seq (.regionE s_f14_r13 [0,1,5,15] [4])
 .ret)))) }
abbrev k_f21:Nat:=21
def s_f21_r0_k:List Nat:=[0,2,3]
theorem s_f21_r0_k_kA0:s_f21_r0_k.contains 0=true:=by kernel_rfl
theorem s_f21_r0_k_kA1:s_f21_r0_k.contains 1=false:=by kernel_rfl
theorem s_f21_r0_k_kA2:s_f21_r0_k.contains 2=true:=by kernel_rfl
def s_f21_r0t1:List AOper:=[⟨some 2,(.move (.c (.s .nilFunc))),none⟩]
def s_f21_r0p0:List AOper:=[⟨some 1,(.box (.t 0)),none⟩]
def s_f21_r0:List AOper:=s_f21_r0p0 ++ s_f21_r0t1
def s_f21_r0_x:=hO s_f21_r0 s_f21_r0p0 s_f21_r0t1 [0,2,3] s_f21_r0_k [⟨some 1,(.box (.t 0)),none⟩] rfl rfl (by kernel_rfl)
def s_f21_r0t1_tale:=hT s_f21_r0t1 s_f21_r0_k [] 3 [] [] [.cc (.s .nilFunc)] (by kernel_rfl) (by kernel_rfl)
def s_f21_r0t1_x:=hL s_f21_r0t1 s_f21_r0_k []
def s_f21_r1:List AOper:=[
 ⟨some 3,(.mkFn 28 [] [(.t 1)]),none⟩,
 ⟨some 2,(.move (.t 3)),none⟩]
def s_f21_r1_tale:=hT s_f21_r1 [1,3] [2] 4 [] [(2,(.op (.mkFn 28 [] [(.t 0)]) [(.t 1)]))] [.sub 0 [] [],.sub 0 [] []] (by kernel_rfl) (by kernel_rfl)
def s_f21:ACFun:={ ntmps:=4,results:=[(.tmp 2)],body:=
 (.seq (.region s_f21_r0 [] s_f21_r0_k)
 (.seq (.regionE s_f21_r1 [1,3] [2])
 .ret)) }
theorem s_f21_first:firstOk (List.range' 1 (s_f21.ntmps - 1)) s_f21.body=true:=by kernel_rfl
abbrev k_f28:Nat:=28
def s_f28_r0_k:List Nat:=[2,4,5,6,7,8,9,10,11,12,13,14,15,16,17,18]
theorem s_f28_r0_kT:killV s_f28_r0_k (startV 19 [] 2)=[(3,und)]:=by kernel_rfl
theorem s_f28_r0_kA0:s_f28_r0_k.contains 0=false:=by kernel_rfl
theorem s_f28_r0_kA1:s_f28_r0_k.contains 1=false:=by kernel_rfl
def s_f28_r0:List AOper:=[
 ⟨some 4,(.load false 1 (.t 1)),none⟩,
 ⟨some 5,(.lenS .s (.t 4)),none⟩,
 ⟨some 6,(.bin .sub (.t 5) (.c (.s (.int .i64 1)))),none⟩,
 ⟨some 3,(.move (.t 6)),none⟩]
def s_f28_r0_tale:=hT s_f28_r0 s_f28_r0_k [3] 7 [] [(3,(.op (.bin .sub (.t 0) (.c (.s (.int .i64 1)))) [(.op (.lenS .s (.t 0)) [(.op (.load false 1 (.t 0)) [(.t 1)])]),(.c (.s (.int .i64 1)))]))] [.sub 0 [0,0] [],.sub 0 [0] [],.sub 0 [] [],.sub 0 [] []] (by kernel_rfl) (by kernel_rfl)
def s_f28_r1:List AOper:=[
 ⟨some 7,(.move (.t 3)),none⟩,
 ⟨some 8,(.bin .geq (.t 7) (.c (.s (.int .i64 0)))),none⟩]
def s_f28_r1_tale:=hT s_f28_r1 [7] [8] 9 [] [(8,(.op (.bin .geq (.t 0) (.c (.s (.int .i64 0)))) [(.t 3),(.c (.s (.int .i64 0)))]))] [.tt 3,.sub 0 [] []] (by kernel_rfl) (by kernel_rfl)
def s_f28_r2t2:List AOper:=[⟨some 18,(.un .not (.t 17)),none⟩]
def s_f28_r2p1:List AOper:=[⟨some 17,(.call (.t 11) [(.t 12),(.t 16)]),none⟩]
def s_f28_r2t1:List AOper:=s_f28_r2p1 ++ s_f28_r2t2
def s_f28_r2p0:List AOper:=[⟨some 11,(.move (.t 0)),none⟩,⟨some 12,(.move (.t 3)),none⟩,⟨some 13,(.load false 1 (.t 1)),none⟩,⟨some 14,(.move (.t 3)),none⟩,⟨some 15,(.indexAddr 2 (.t 13) (.t 14)),none⟩,⟨some 16,(.load true 2 (.t 15)),none⟩]
def s_f28_r2:List AOper:=s_f28_r2p0 ++ s_f28_r2t1
def s_f28_r2p0_tale:=hT s_f28_r2p0 [8,13,14,15] [11,12,16] 17 [] [(11,(.t 0)),(12,(.t 3)),(16,(.op (.load true 2 (.t 0)) [(.op (.indexAddr 2 (.t 0) (.t 1)) [(.op (.load false 1 (.t 0)) [(.t 1)]),(.t 3)])]))] [.tt 0,.tt 3,.sub 2 [0,0] [],.tt 3,.sub 2 [0] [],.sub 2 [] []] (by kernel_rfl) (by kernel_rfl)
def s_f28_r2_x:=hS s_f28_r2 s_f28_r2p0 s_f28_r2t1 [8,13,14,15] [11,12,16] [8,11,12,13,14,15,16,17] rfl (by kernel_rfl)
def s_f28_r2t1_x:=hO s_f28_r2t1 s_f28_r2p1 s_f28_r2t2 [11,12,16] [8,11,12,13,14,15,16,17] [⟨some 17,(.call (.t 11) [(.t 12),(.t 16)]),none⟩] rfl rfl (by kernel_rfl)
def s_f28_r2t2_tale:=hT s_f28_r2t2 [8,11,12,13,14,15,16,17] [18] 19 [] [(18,(.op (.un .not (.t 0)) [(.t 17)]))] [.sub 0 [] []] (by kernel_rfl) (by kernel_rfl)
def s_f28_r2t2_x:=hL s_f28_r2t2 [8,11,12,13,14,15,16,17] [18]
def s_f28_r3:List AOper:=[
 ⟨some 9,(.move (.t 3)),none⟩,
 ⟨some 10,(.bin .sub (.t 9) (.c (.s (.int .i64 1)))),none⟩,
 ⟨some 3,(.move (.t 10)),none⟩]
def s_f28_r3_tale:=hT s_f28_r3 [9,10,18] [3] 11 [] [(3,(.op (.bin .sub (.t 0) (.c (.s (.int .i64 1)))) [(.t 3),(.c (.s (.int .i64 1)))]))] [.tt 3,.sub 0 [] [],.sub 0 [] []] (by kernel_rfl) (by kernel_rfl)
def s_f28_l0_b:ACode:=
 (.seq (.seq (.regionE s_f28_r1 [7] [8])
 (.cond (.t 8)
 .skip
 (.exit 0)))
 (.seq (.block 1
 (.seq (.region s_f28_r2 [] [8,11,12,13,14,15,16,17])
 (.cond (.t 18)
 .ret
 .skip)))
 (.regionE s_f28_r3 [9,10,18] [3])))
def s_f28_l0:ACode:=s_f28_l0_b
def s_f28_l0_ev:=hE s_f28_l0 s_f28_l0_b rfl
def s_f28:ACFun:={ ntmps:=19,results:=[],body:=
 (.seq (.regionE s_f28_r0 s_f28_r0_k [3])
 (.block 0
 (.loop [] s_f28_l0))) }
abbrev k_f11:Nat:=11
def a_f13:=ai @s_f13_r0p0_k_kA0 (ai @s_f13_r0p0_k_kA1 (ai @s_f13_r0p0_k_kA2 (ai @s_f13_r0p0_k_kA3 (ai @s_f13_r0_x (ai @s_f13_r0t1_x (ai @s_f13_r0t2_tale (ai @s_f13_r0t2_x (ai @s_f13_r0_k_kA0 (ai @s_f13_r0_k_kA1 (ai @s_f13_r0_k_kA2 (ai @s_f13_r0_k_kA3 (ai @s_f13_r1_x (ai @s_f13_r1t1_x (ai @s_f13_r1t2_x (ai @s_f13_r2p0_tale (ai @s_f13_r2_x (ai @s_f13_r2t1_x (ai @s_f13_r3_tale (ai @s_f13_r4_x (ai @s_f13_r4t1_x (ai @s_f13_r5p0_tale (ai @s_f13_r5_x (ai @s_f13_r5t1_x (ai @s_f13_r6p0_tale (ai @s_f13_r6_x (ai @s_f13_r6t1_x (ai @s_f13_r6t2_tale (ai @s_f13_r6t2_x (ai @s_f13_r7_tale (ai @s_f13_r8_tale (ai @s_f13_r9p0_tale (ai @s_f13_r9_x (ai @s_f13_r9t1_x (ai @s_f13_r9p2_tale (ai @s_f13_r9t2_x (ai @s_f13_r9t3_x (ai @s_f13_r10_tale (ai @s_f13_r11p0_tale (ai @s_f13_r11_x (ai @s_f13_r11t1_x (ai @s_f13_r11t2_tale (ai @s_f13_r11t2_x (ai @s_f13_r12p0_tale (ai @s_f13_r12_x (ai @s_f13_r12t1_x (ai @s_f13_r12t2_x (ai @s_f13_r13_tale (ai @s_f13_r14_tale (ai @s_f13_r15_tale (ai @s_f13_r16_tale (ai @s_f13_r17_tale (ai @s_f13_r18_tale (ai @s_f13_r19_tale (ai @s_f13_r20_tale (ai @s_f13_r21p0_tale (ai @s_f13_r21_x (ai @s_f13_r21t1_x (ai @s_f13_r21t2_tale (ai @s_f13_r21t2_x (ai @s_f13_r22p0_tale (ai @s_f13_r22_x (ai @s_f13_r22t1_x (ai @s_f13_r22t2_x (ai @s_f13_r22p3_tale (ai @s_f13_r22t3_x (ai @s_f13_r22t4_x (ai @s_f13_r23_tale (ai @s_f13_l1_ev (ai @s_f13_r24_tale (ai @s_f13_r25p0_tale (ai @s_f13_r25_x (ai @s_f13_r25t1_x (ai @s_f13_r25t2_tale (ai @s_f13_r25t2_x (ai @s_f13_r26p0_tale (ai @s_f13_r26_x (ai @s_f13_r26t1_x (ai @s_f13_r27p0_tale (ai @s_f13_r27_x (ai @s_f13_r27t1_x (ai @s_f13_r27p2_tale (ai @s_f13_r27t2_x (ai @s_f13_r27t3_x (ai @s_f13_r28_tale (ai @s_f13_l2_ev (ai @s_f13_r29p0_tale (ai @s_f13_r29_x (ai @s_f13_r29t1_x (ai @s_f13_r29p2_tale (ai @s_f13_r29t2_x (ai @s_f13_r29t3_x (ai @s_f13_r29t4_tale (@s_f13_r29t4_x)))))))))))))))))))))))))))))))))))))))))))))))))))))))))))))))))))))))))))))))))))))))))))))
def a_f21:=ai @s_f21_r0_x (ai @s_f21_r0t1_tale (ai @s_f21_r0t1_x (ai @s_f21_r0_k_kA0 (ai @s_f21_r0_k_kA1 (ai @s_f21_r0_k_kA2 (@s_f21_r1_tale))))))
def a_f28:=ai @s_f28_r0_tale (ai @s_f28_r0_kT (ai @s_f28_r0_kA0 (ai @s_f28_r0_kA1 (ai @s_f28_r1_tale (ai @s_f28_r2p0_tale (ai @s_f28_r2_x (ai @s_f28_r2t1_x (ai @s_f28_r2t2_tale (ai @s_f28_r2t2_x (ai @s_f28_r3_tale (@s_f28_l0_ev)))))))))))
theorem GA2_13:compK Try.prog PX0 13=some (false,s_f13.ntmps,s_f13.results,s_f13.body.bare):=by kernel_rfl
theorem GA2_21:compK Try.prog PX0 21=some (false,s_f21.ntmps,s_f21.results,s_f21.body.bare):=by kernel_rfl
theorem GA2_28:compK Try.prog PX0 28=some (false,s_f28.ntmps,s_f28.results,s_f28.body.bare):=by kernel_rfl
theorem GA2_14:compK Try.prog PX0 14=some (false,s_f14.ntmps,s_f14.results,s_f14.body.bare):=by kernel_rfl
end Go.Proofs.Ytgimjihhlhjejaa
set_option maxRecDepth 100000
namespace Go.Proofs.Ytgimjihhlhjejaa
open Go.AM
def c_f11:ACFun:={ ntmps:=35,results:=[(.tmp 0)],body:=
 (.seq (.region [
  ⟨some 0,(.move (.c (.s (.bool false)))),none⟩] [] [])
 (.seq (.region [
  ⟨some 4,(.buildSl 1 2 [(.s (.string ⟨#[]⟩)),(.s (.string ⟨#[]⟩))] [(0,(.c (.s (.string ⟨#[98]⟩)))),(1,(.c (.s (.string ⟨#[98]⟩))))]),none⟩,
  ⟨some 5,(.build [(.s (.int .u8 0)),(.s (.string ⟨#[]⟩)),(.s (.string ⟨#[]⟩)),(.s (.string ⟨#[]⟩)),(.s (.int .i64 0)),(.s (.string ⟨#[]⟩)),(.s (.slice none 0 0)),(.s (.slice none 0 0))] [(0,1),(1,1),(2,1),(3,1),(4,1),(5,1),(6,1),(7,1)] [(0,(.c (.s (.int .u8 12)))),(7,(.t 4))]),none⟩,
  ⟨some 6,(.buildSl 8 1 [(.s (.int .u8 0)),(.s (.string ⟨#[]⟩)),(.s (.string ⟨#[]⟩)),(.s (.string ⟨#[]⟩)),(.s (.int .i64 0)),(.s (.string ⟨#[]⟩)),(.s (.slice none 0 0)),(.s (.slice none 0 0))] [(0,(.t 5))]),none⟩,
  ⟨some 7,(.build [(.s (.string ⟨#[]⟩)),(.s (.slice none 0 0))] [(0,1),(1,1)] [(0,(.c (.s (.string ⟨#[97]⟩)))),(1,(.t 6))]),none⟩,
  ⟨some 8,(.buildSl 1 1 [(.s (.string ⟨#[]⟩))] [(0,(.c (.s (.string ⟨#[97]⟩))))]),none⟩,
  ⟨some 9,(.build [(.s (.int .u8 0)),(.s (.string ⟨#[]⟩)),(.s (.string ⟨#[]⟩)),(.s (.string ⟨#[]⟩)),(.s (.int .i64 0)),(.s (.string ⟨#[]⟩)),(.s (.slice none 0 0)),(.s (.slice none 0 0))] [(0,1),(1,1),(2,1),(3,1),(4,1),(5,1),(6,1),(7,1)] [(0,(.c (.s (.int .u8 13)))),(7,(.t 8))]),none⟩,
  ⟨some 10,(.buildSl 8 1 [(.s (.int .u8 0)),(.s (.string ⟨#[]⟩)),(.s (.string ⟨#[]⟩)),(.s (.string ⟨#[]⟩)),(.s (.int .i64 0)),(.s (.string ⟨#[]⟩)),(.s (.slice none 0 0)),(.s (.slice none 0 0))] [(0,(.t 9))]),none⟩,
  ⟨some 11,(.build [(.s (.string ⟨#[]⟩)),(.s (.slice none 0 0))] [(0,1),(1,1)] [(0,(.c (.s (.string ⟨#[98]⟩)))),(1,(.t 10))]),none⟩,
  ⟨some 12,(.buildSl 2 2 [(.s (.string ⟨#[]⟩)),(.s (.slice none 0 0)),(.s (.string ⟨#[]⟩)),(.s (.slice none 0 0))] [(0,(.t 7)),(1,(.t 11))]),none⟩,
  ⟨some 13,(.build [(.s (.string ⟨#[]⟩)),(.s (.slice none 0 0)),(.s (.slice none 0 0))] [(0,1),(1,1),(2,1)] [(2,(.t 12))]),none⟩,
  ⟨some 14,(.call (.c (.fn 13 [] [])) [(.t 13)]),none⟩,
  ⟨some 3,(.move (.t 14)),none⟩,
  ⟨some 15,(.extract (.t 3) 0),none⟩,
  ⟨some 16,(.extract (.t 3) 1),none⟩,
  ⟨some 1,(.alloc [(.s (.slice none 0 0)),(.s (.slice none 0 0))]),none⟩,
  ⟨none,(.store 2 (.t 1) (.t 15)),none⟩,
  ⟨some 2,(.move (.t 16)),none⟩] [] [])
 (.seq (.region [
  ⟨some 17,(.move (.t 2)),none⟩,
  ⟨some 18,(.bin .eql (.t 17) (.c (.s (.int .i64 0)))),none⟩,
  ⟨some 19,(.move (.t 18)),none⟩,
  ⟨some 20,(.fieldAddr 0 (.t 1)),some (19,true)⟩,
  ⟨some 21,(.load false 1 (.t 20)),some (19,true)⟩,
  ⟨some 22,(.buildSl 1 1 [(.s (.int .i64 0))] [(0,(.c (.s (.int .i64 1))))]),some (19,true)⟩,
  ⟨some 23,(.buildSl 1 1 [(.s (.int .i64 0))] [(0,(.c (.s (.int .i64 0))))]),some (19,true)⟩,
  ⟨some 24,(.buildSl 1 2 [(.s (.slice none 0 0)),(.s (.slice none 0 0))] [(0,(.t 22)),(1,(.t 23))]),some (19,true)⟩,
  ⟨some 25,(.call (.c (.fn 14 [] [])) [(.t 21),(.t 24)]),some (19,true)⟩,
  ⟨some 26,(.pick (.t 19) (.t 25) (.c (.s (.bool false)))),none⟩,
  ⟨some 27,(.move (.t 26)),none⟩,
  ⟨some 28,(.fieldAddr 1 (.t 1)),some (27,true)⟩,
  ⟨some 29,(.load false 1 (.t 28)),some (27,true)⟩,
  ⟨some 30,(.buildSl 1 1 [(.s (.int .i64 0))] [(0,(.c (.s (.int .i64 1))))]),some (27,true)⟩,
  ⟨some 31,(.buildSl 1 1 [(.s (.int .i64 0))] [(0,(.c (.s (.int .i64 0))))]),some (27,true)⟩,
  ⟨some 32,(.buildSl 1 2 [(.s (.slice none 0 0)),(.s (.slice none 0 0))] [(0,(.t 30)),(1,(.t 31))]),some (27,true)⟩,
  ⟨some 33,(.call (.c (.fn 14 [] [])) [(.t 29),(.t 32)]),some (27,true)⟩,
  ⟨some 34,(.pick (.t 27) (.t 33) (.c (.s (.bool false)))),none⟩,
  ⟨some 0,(.move (.t 34)),none⟩] [] [])
 .ret))) }
def c_f22:ACFun:={ ntmps:=11,results:=[],body:=
 (.seq (.region [
  ⟨some 3,(.move (.t 0)),none⟩,
  ⟨some 4,(.lenS .s (.t 3)),none⟩,
  ⟨some 2,(.move (.t 4)),none⟩] [] [])
 (.region [
  ⟨some 5,(.move (.t 0)),none⟩,
  ⟨some 6,(.move (.t 2)),none⟩,
  ⟨some 7,(.move (.t 2)),none⟩,
  ⟨some 8,(.conv .u64 (.t 7)),none⟩,
  ⟨some 9,(.call (.c (.fn 30 [] [])) [(.t 8)]),none⟩,
  ⟨some 10,(.call (.c (.fn 29 [] [])) [(.t 5),(.c (.s (.int .i64 0))),(.t 6),(.t 9)]),none⟩] [] [])) }
def c_f29_l0:ACode:=
 (.block 1
  (.seq (.region [
   ⟨some 19,(.move (.t 2)),none⟩,
   ⟨some 20,(.move (.t 1)),none⟩,
   ⟨some 21,(.bin .sub (.t 19) (.t 20)),none⟩,
   ⟨some 10,(.move (.t 21)),none⟩] [] [])
  (.seq (.seq (.region [
   ⟨some 22,(.move (.t 10)),none⟩,
   ⟨some 23,(.bin .leq (.t 22) (.c (.s (.int .i64 12)))),none⟩] [] [])
  (.cond (.t 23)
   (.seq (.region [
    ⟨some 24,(.move (.t 0)),none⟩,
    ⟨some 25,(.move (.t 1)),none⟩,
    ⟨some 26,(.move (.t 2)),none⟩,
    ⟨some 27,(.call (.c (.fn 36 [] [])) [(.t 24),(.t 25),(.t 26)]),none⟩] [] [])
   .ret)
   .skip))
  (.seq (.seq (.region [
   ⟨some 28,(.move (.t 3)),none⟩,
   ⟨some 29,(.bin .eql (.t 28) (.c (.s (.int .i64 0)))),none⟩] [] [])
  (.cond (.t 29)
   (.seq (.region [
    ⟨some 30,(.move (.t 0)),none⟩,
    ⟨some 31,(.move (.t 1)),none⟩,
    ⟨some 32,(.move (.t 2)),none⟩,
    ⟨some 33,(.call (.c (.fn 37 [] [])) [(.t 30),(.t 31),(.t 32)]),none⟩] [] [])
   .ret)
   .skip))
  (.seq (.seq (.region [
   ⟨some 34,(.move (.t 8)),none⟩,
   ⟨some 35,(.un .not (.t 34)),none⟩] [] [])
  (.cond (.t 35)
   (.seq (.region [
    ⟨some 36,(.move (.t 0)),none⟩,
    ⟨some 37,(.move (.t 1)),none⟩,
    ⟨some 38,(.move (.t 2)),none⟩,
    ⟨some 39,(.call (.c (.fn 38 [] [])) [(.t 36),(.t 37),(.t 38)]),none⟩] [] [])
   (.region [
    ⟨some 40,(.move (.t 3)),none⟩,
    ⟨some 41,(.bin .sub (.t 40) (.c (.s (.int .i64 1)))),none⟩,
    ⟨some 3,(.move (.t 41)),none⟩] [] []))
   .skip))
  (.seq (.region [
   ⟨some 43,(.move (.t 0)),none⟩,
   ⟨some 44,(.move (.t 1)),none⟩,
   ⟨some 45,(.move (.t 2)),none⟩,
   ⟨some 46,(.call (.c (.fn 39 [] [])) [(.t 43),(.t 44),(.t 45)]),none⟩,
   ⟨some 42,(.move (.t 46)),none⟩,
   ⟨some 47,(.extract (.t 42) 0),none⟩,
   ⟨some 48,(.extract (.t 42) 1),none⟩,
   ⟨some 11,(.move (.t 47)),none⟩,
   ⟨some 12,(.move (.t 48)),none⟩] [] [])
  (.seq (.seq (.region [
   ⟨some 49,(.move (.t 12)),none⟩,
   ⟨some 50,(.bin .eql (.t 49) (.c (.s (.int .i64 2)))),none⟩] [] [])
  (.cond (.t 50)
   (.seq (.region [
    ⟨some 51,(.move (.t 0)),none⟩,
    ⟨some 52,(.move (.t 1)),none⟩,
    ⟨some 53,(.move (.t 2)),none⟩,
    ⟨some 54,(.call (.c (.fn 40 [] [])) [(.t 51),(.t 52),(.t 53)]),none⟩] [] [])
   (.seq (.region [
    ⟨some 55,(.move (.t 2)),none⟩,
    ⟨some 56,(.bin .sub (.t 55) (.c (.s (.int .i64 1)))),none⟩,
    ⟨some 57,(.move (.t 11)),none⟩,
    ⟨some 58,(.move (.t 1)),none⟩,
    ⟨some 59,(.bin .sub (.t 57) (.t 58)),none⟩,
    ⟨some 60,(.bin .sub (.t 56) (.t 59)),none⟩,
    ⟨some 11,(.move (.t 60)),none⟩] [] [])
   (.region [
    ⟨some 12,(.move (.c (.s (.int .i64 1)))),none⟩] [] [])))
   .skip))
  (.seq (.seq (.region [
   ⟨some 61,(.move (.t 8)),none⟩,
   ⟨some 62,(.move (.t 61)),none⟩,
   ⟨some 63,(.move (.t 9)),some (62,true)⟩,
   ⟨some 64,(.pick (.t 62) (.t 63) (.c (.s (.bool false)))),none⟩,
   ⟨some 65,(.move (.t 64)),none⟩,
   ⟨some 66,(.move (.t 12)),some (65,true)⟩,
   ⟨some 67,(.bin .eql (.t 66) (.c (.s (.int .i64 1)))),some (65,true)⟩,
   ⟨some 68,(.pick (.t 65) (.t 67) (.c (.s (.bool false)))),none⟩] [] [])
  (.cond (.t 68)
   (.seq (.region [
    ⟨some 69,(.move (.t 0)),none⟩,
    ⟨some 70,(.move (.t 1)),none⟩,
    ⟨some 71,(.move (.t 2)),none⟩,
    ⟨some 72,(.call (.c (.fn 41 [] [])) [(.t 69),(.t 70),(.t 71)]),none⟩] [] [])
   (.cond (.t 72)
    .ret
    .skip))
   .skip))
  (.seq (.seq (.region [
   ⟨some 73,(.move (.t 1)),none⟩,
   ⟨some 74,(.bin .gtr (.t 73) (.c (.s (.int .i64 0)))),none⟩,
   ⟨some 75,(.move (.t 74)),none⟩,
   ⟨some 76,(.move (.t 0)),some (75,true)⟩,
   ⟨some 77,(.move (.t 1)),some (75,true)⟩,
   ⟨some 78,(.bin .sub (.t 77) (.c (.s (.int .i64 1)))),some (75,true)⟩,
   ⟨some 79,(.indexAddr 1 (.t 76) (.t 78)),some (75,true)⟩,
   ⟨some 80,(.load false 1 (.t 79)),some (75,true)⟩,
   ⟨some 81,(.move (.t 0)),some (75,true)⟩,
   ⟨some 82,(.move (.t 11)),some (75,true)⟩,
   ⟨some 83,(.indexAddr 1 (.t 81) (.t 82)),some (75,true)⟩,
   ⟨some 84,(.load false 1 (.t 83)),some (75,true)⟩,
   ⟨some 85,(.call (.c (.fn 42 [] [])) [(.t 80),(.t 84)]),some (75,true)⟩,
   ⟨some 86,(.un .not (.t 85)),some (75,true)⟩,
   ⟨some 87,(.pick (.t 75) (.t 86) (.c (.s (.bool false)))),none⟩] [] [])
  (.cond (.t 87)
   (.seq (.region [
    ⟨some 88,(.move (.t 0)),none⟩,
    ⟨some 89,(.move (.t 1)),none⟩,
    ⟨some 90,(.move (.t 2)),none⟩,
    ⟨some 91,(.move (.t 11)),none⟩,
    ⟨some 92,(.call (.c (.fn 43 [] [])) [(.t 88),(.t 89),(.t 90),(.t 91)]),none⟩,
    ⟨some 13,(.move (.t 92)),none⟩] [] [])
   (.seq (.region [
    ⟨some 93,(.move (.t 13)),none⟩,
    ⟨some 1,(.move (.t 93)),none⟩] [] [])
   (.exit 1)))
   .skip))
  (.seq (.region [
   ⟨some 95,(.move (.t 0)),none⟩,
   ⟨some 96,(.move (.t 1)),none⟩,
   ⟨some 97,(.move (.t 2)),none⟩,
   ⟨some 98,(.move (.t 11)),none⟩,
   ⟨some 99,(.call (.c (.fn 44 [] [])) [(.t 95),(.t 96),(.t 97),(.t 98)]),none⟩,
   ⟨some 94,(.move (.t 99)),none⟩,
   ⟨some 100,(.extract (.t 94) 0),none⟩,
   ⟨some 101,(.extract (.t 94) 1),none⟩,
   ⟨some 14,(.move (.t 100)),none⟩,
   ⟨some 15,(.move (.t 101)),none⟩] [] [])
  (.seq (.region [
   ⟨some 102,(.move (.t 15)),none⟩,
   ⟨some 9,(.move (.t 102)),none⟩] [] [])
  (.seq (.region [
   ⟨some 103,(.move (.t 14)),none⟩,
   ⟨some 104,(.move (.t 1)),none⟩,
   ⟨some 105,(.bin .sub (.t 103) (.t 104)),none⟩,
   ⟨some 106,(.move (.t 2)),none⟩,
   ⟨some 107,(.move (.t 14)),none⟩,
   ⟨some 108,(.bin .sub (.t 106) (.t 107)),none⟩,
   ⟨some 16,(.move (.t 105)),none⟩,
   ⟨some 17,(.move (.t 108)),none⟩] [] [])
  (.seq (.region [
   ⟨some 109,(.move (.t 10)),none⟩,
   ⟨some 110,(.bin .quo (.t 109) (.c (.s (.int .i64 8)))),none⟩,
   ⟨some 18,(.move (.t 110)),none⟩] [] [])
  (.seq (.region [
   ⟨some 111,(.move (.t 16)),none⟩,
   ⟨some 112,(.move (.t 17)),none⟩,
   ⟨some 113,(.bin .lss (.t 111) (.t 112)),none⟩] [] [])
  (.cond (.t 113)
   (.seq (.region [
    ⟨some 114,(.move (.t 16)),none⟩,
    ⟨some 115,(.move (.t 18)),none⟩,
    ⟨some 116,(.bin .geq (.t 114) (.t 115)),none⟩,
    ⟨some 8,(.move (.t 116)),none⟩] [] [])
   (.seq (.region [
    ⟨some 117,(.move (.t 0)),none⟩,
    ⟨some 118,(.move (.t 1)),none⟩,
    ⟨some 119,(.move (.t 14)),none⟩,
    ⟨some 120,(.move (.t 3)),none⟩,
    ⟨some 121,(.call (.c (.fn 29 [] [])) [(.t 117),(.t 118),(.t 119),(.t 120)]),none⟩] [] [])
   (.region [
    ⟨some 122,(.move (.t 14)),none⟩,
    ⟨some 123,(.bin .add (.t 122) (.c (.s (.int .i64 1)))),none⟩,
    ⟨some 1,(.move (.t 123)),none⟩] [] [])))
   (.seq (.region [
    ⟨some 124,(.move (.t 17)),none⟩,
    ⟨some 125,(.move (.t 18)),none⟩,
    ⟨some 126,(.bin .geq (.t 124) (.t 125)),none⟩,
    ⟨some 8,(.move (.t 126)),none⟩] [] [])
   (.seq (.region [
    ⟨some 127,(.move (.t 0)),none⟩,
    ⟨some 128,(.move (.t 14)),none⟩,
    ⟨some 129,(.bin .add (.t 128) (.c (.s (.int .i64 1)))),none⟩,
    ⟨some 130,(.move (.t 2)),none⟩,
    ⟨some 131,(.move (.t 3)),none⟩,
    ⟨some 132,(.call (.c (.fn 29 [] [])) [(.t 127),(.t 129),(.t 130),(.t 131)]),none⟩] [] [])
   (.region [
    ⟨some 133,(.move (.t 14)),none⟩,
    ⟨some 2,(.move (.t 133)),none⟩] [] []))))))))))))))))))
def c_f29_k0:List Nat:=[19,20,21,10,22,23,24,25,26,27,28,29,30,31,32,33,34,35,36,37,38,39,40,41,43,44,45,46,42,47,48,11,12,49,50,51,52,53,54,55,56,57,58,59,60,61,62,63,64,65,66,67,68,69,70,71,72,73,74,75,76,77,78,79,80,81,82,83,84,85,86,87,88,89,90,91,92,13,93,95,96,97,98,99,94,100,101,14,15,102,103,104,105,106,107,108,16,17,109,110,18,111,112,113,114,115,116,117,118,119,120,121,122,123,124,125,126,127,128,129,130,131,132,133]
def c_f29:ACFun:={ ntmps:=134,results:=[],body:=
 (.seq (.region [
  ⟨some 8,(.move (.c (.s (.bool true)))),none⟩] [] [])
 (.seq (.region [
  ⟨some 9,(.move (.c (.s (.bool true)))),none⟩] [] [])
 (.block 0
  (.loop c_f29_k0 c_f29_l0)))) }
def c_f30:ACFun:={ ntmps:=8,results:=[(.tmp 2)],body:=
 (.seq (.region [
  ⟨some 2,(.move (.c (.s (.int .i64 0)))),none⟩] [] [])
 (.seq (.cond (.c (.s (.bool false)))
  (.seq (.region [
   ⟨some 3,(.move (.t 0)),none⟩,
   ⟨some 4,(.conv .u32 (.t 3)),none⟩,
   ⟨some 5,(.call (.c (.fn 45 [] [])) [(.t 4)]),none⟩,
   ⟨some 2,(.move (.t 5)),none⟩] [] [])
  .ret)
  .skip)
 (.seq (.region [
  ⟨some 6,(.move (.t 0)),none⟩,
  ⟨some 7,(.call (.c (.fn 46 [] [])) [(.t 6)]),none⟩,
  ⟨some 2,(.move (.t 7)),none⟩] [] [])
 .ret))) }
def c_f36_l0:ACode:=
 (.seq (.seq (.region [
  ⟨some 16,(.move (.t 7)),none⟩,
  ⟨some 17,(.move (.t 1)),none⟩,
  ⟨some 18,(.bin .gtr (.t 16) (.t 17)),none⟩,
  ⟨some 19,(.move (.t 18)),none⟩,
  ⟨some 20,(.move (.t 0)),some (19,true)⟩,
  ⟨some 21,(.move (.t 7)),some (19,true)⟩,
  ⟨some 22,(.indexAddr 1 (.t 20) (.t 21)),some (19,true)⟩,
  ⟨some 23,(.load false 1 (.t 22)),some (19,true)⟩,
  ⟨some 24,(.move (.t 0)),some (19,true)⟩,
  ⟨some 25,(.move (.t 7)),some (19,true)⟩,
  ⟨some 26,(.bin .sub (.t 25) (.c (.s (.int .i64 1)))),some (19,true)⟩,
  ⟨some 27,(.indexAddr 1 (.t 24) (.t 26)),some (19,true)⟩,
  ⟨some 28,(.load false 1 (.t 27)),some (19,true)⟩,
  ⟨some 29,(.call (.c (.fn 42 [] [])) [(.t 23),(.t 28)]),some (19,true)⟩,
  ⟨some 30,(.pick (.t 19) (.t 29) (.c (.s (.bool false)))),none⟩] [] [])
 (.cond (.t 30)
  .skip
  (.exit 2)))
 (.seq (.block 3
  (.region [
   ⟨some 33,(.move (.t 0)),none⟩,
   ⟨some 34,(.move (.t 7)),none⟩,
   ⟨some 35,(.move (.t 0)),none⟩,
   ⟨some 36,(.move (.t 7)),none⟩,
   ⟨some 37,(.bin .sub (.t 36) (.c (.s (.int .i64 1)))),none⟩,
   ⟨some 38,(.move (.t 0)),none⟩,
   ⟨some 39,(.move (.t 7)),none⟩,
   ⟨some 40,(.bin .sub (.t 39) (.c (.s (.int .i64 1)))),none⟩,
   ⟨some 41,(.indexAddr 1 (.t 38) (.t 40)),none⟩,
   ⟨some 42,(.load false 1 (.t 41)),none⟩,
   ⟨some 43,(.move (.t 0)),none⟩,
   ⟨some 44,(.move (.t 7)),none⟩,
   ⟨some 45,(.indexAddr 1 (.t 43) (.t 44)),none⟩,
   ⟨some 46,(.load false 1 (.t 45)),none⟩,
   ⟨some 47,(.indexAddr 1 (.t 33) (.t 34)),none⟩,
   ⟨none,(.store 1 (.t 47) (.t 42)),none⟩,
   ⟨some 48,(.indexAddr 1 (.t 35) (.t 37)),none⟩,
   ⟨none,(.store 1 (.t 48) (.t 46)),none⟩] [] []))
 (.region [
  ⟨some 31,(.move (.t 7)),none⟩,
  ⟨some 32,(.bin .sub (.t 31) (.c (.s (.int .i64 1)))),none⟩,
  ⟨some 7,(.move (.t 32)),none⟩] [] [])))
def c_f36_k0:List Nat:=[16,17,18,19,20,21,22,23,24,25,26,27,28,29,30,33,34,35,36,37,38,39,40,41,42,43,44,45,46,47,48,31,32]
def c_f36_l1:ACode:=
 (.seq (.seq (.region [
  ⟨some 10,(.move (.t 6)),none⟩,
  ⟨some 11,(.move (.t 2)),none⟩,
  ⟨some 12,(.bin .lss (.t 10) (.t 11)),none⟩] [] [])
 (.cond (.t 12)
  .skip
  (.exit 0)))
 (.seq (.block 1
  (.seq (.region [
   ⟨some 15,(.move (.t 6)),none⟩,
   ⟨some 7,(.move (.t 15)),none⟩] [] [])
  (.block 2
   (.loop c_f36_k0 c_f36_l0))))
 (.region [
  ⟨some 13,(.move (.t 6)),none⟩,
  ⟨some 14,(.bin .add (.t 13) (.c (.s (.int .i64 1)))),none⟩,
  ⟨some 6,(.move (.t 14)),none⟩] [] [])))
def c_f36_k1:List Nat:=[10,11,12,15,7,16,17,18,19,20,21,22,23,24,25,26,27,28,29,30,33,34,35,36,37,38,39,40,41,42,43,44,45,46,47,48,31,32,13,14]
def c_f36:ACFun:={ ntmps:=49,results:=[],body:=
 (.seq (.region [
  ⟨some 8,(.move (.t 1)),none⟩,
  ⟨some 9,(.bin .add (.t 8) (.c (.s (.int .i64 1)))),none⟩,
  ⟨some 6,(.move (.t 9)),none⟩] [] [])
 (.block 0
  (.loop c_f36_k1 c_f36_l1))) }
def c_f42:ACFun:={ ntmps:=17,results:=[(.tmp 4)],body:=
 (.seq (.region [
  ⟨some 4,(.move (.c (.s (.bool false)))),none⟩] [] [])
 (.seq (.region [
  ⟨some 5,(.move (.t 0)),none⟩,
  ⟨some 6,(.call (.c (.fn 59 [] [])) [(.t 5)]),none⟩,
  ⟨some 7,(.move (.t 6)),none⟩,
  ⟨some 8,(.move (.t 1)),some (7,true)⟩,
  ⟨some 9,(.call (.c (.fn 59 [] [])) [(.t 8)]),some (7,true)⟩,
  ⟨some 10,(.un .not (.t 9)),some (7,true)⟩,
  ⟨some 11,(.pick (.t 7) (.t 10) (.c (.s (.bool false)))),none⟩,
  ⟨some 12,(.move (.t 11)),none⟩,
  ⟨some 13,(.move (.t 0)),some (12,false)⟩,
  ⟨some 14,(.move (.t 1)),some (12,false)⟩,
  ⟨some 15,(.bin .lss (.t 13) (.t 14)),some (12,false)⟩,
  ⟨some 16,(.pick (.t 12) (.c (.s (.bool true))) (.t 15)),none⟩,
  ⟨some 4,(.move (.t 16)),none⟩] [] [])
 .ret)) }
def c_f45:ACFun:={ ntmps:=19,results:=[(.tmp 2)],body:=
 (.seq (.region [
  ⟨some 2,(.move (.c (.s (.int .i64 0)))),none⟩] [] [])
 (.seq (.seq (.region [
  ⟨some 3,(.move (.t 0)),none⟩,
  ⟨some 4,(.bin .geq (.t 3) (.c (.s (.int .u32 65536)))),none⟩] [] [])
 (.cond (.t 4)
  (.seq (.region [
   ⟨some 5,(.move (.t 0)),none⟩,
   ⟨some 6,(.bin .shr (.t 5) (.c (.s (.int .u64 16)))),none⟩,
   ⟨some 0,(.move (.t 6)),none⟩] [] [])
  (.region [
   ⟨some 2,(.move (.c (.s (.int .i64 16)))),none⟩] [] []))
  .skip))
 (.seq (.seq (.region [
  ⟨some 7,(.move (.t 0)),none⟩,
  ⟨some 8,(.bin .geq (.t 7) (.c (.s (.int .u32 256)))),none⟩] [] [])
 (.cond (.t 8)
  (.seq (.region [
   ⟨some 9,(.move (.t 0)),none⟩,
   ⟨some 10,(.bin .shr (.t 9) (.c (.s (.int .u64 8)))),none⟩,
   ⟨some 0,(.move (.t 10)),none⟩] [] [])
  (.region [
   ⟨some 11,(.move (.t 2)),none⟩,
   ⟨some 12,(.bin .add (.t 11) (.c (.s (.int .i64 8)))),none⟩,
   ⟨some 2,(.move (.t 12)),none⟩] [] []))
  .skip))
 (.seq (.region [
  ⟨some 13,(.move (.t 2)),none⟩,
  ⟨some 14,(.move (.t 0)),none⟩,
  ⟨some 15,(.conv .u8 (.t 14)),none⟩,
  ⟨some 16,(.indexStr (.c (.s (.string ⟨#[0,1,2,2,3,3,3,3,4,4,4,4,4,4,4,4,5,5,5,5,5,5,5,5,5,5,5,5,5,5,5,5,6,6,6,6,6,6,6,6,6,6,6,6,6,6,6,6,6,6,6,6,6,6,6,6,6,6,6,6,6,6,6,6,7,7,7,7,7,7,7,7,7,7,7,7,7,7,7,7,7,7,7,7,7,7,7,7,7,7,7,7,7,7,7,7,7,7,7,7,7,7,7,7,7,7,7,7,7,7,7,7,7,7,7,7,7,7,7,7,7,7,7,7,7,7,7,7,8,8,8,8,8,8,8,8,8,8,8,8,8,8,8,8,8,8,8,8,8,8,8,8,8,8,8,8,8,8,8,8,8,8,8,8,8,8,8,8,8,8,8,8,8,8,8,8,8,8,8,8,8,8,8,8,8,8,8,8,8,8,8,8,8,8,8,8,8,8,8,8,8,8,8,8,8,8,8,8,8,8,8,8,8,8,8,8,8,8,8,8,8,8,8,8,8,8,8,8,8,8,8,8,8,8,8,8,8,8,8,8,8,8,8,8,8,8,8,8,8,8,8,8,8,8,8,8]⟩))) (.t 15)),none⟩,
  ⟨some 17,(.conv .i64 (.t 16)),none⟩,
  ⟨some 18,(.bin .add (.t 13) (.t 17)),none⟩,
  ⟨some 2,(.move (.t 18)),none⟩] [] [])
 .ret)))) }
def c_f46:ACFun:={ ntmps:=25,results:=[(.tmp 2)],body:=
 (.seq (.region [
  ⟨some 2,(.move (.c (.s (.int .i64 0)))),none⟩] [] [])
 (.seq (.seq (.region [
  ⟨some 3,(.move (.t 0)),none⟩,
  ⟨some 4,(.bin .geq (.t 3) (.c (.s (.int .u64 4294967296)))),none⟩] [] [])
 (.cond (.t 4)
  (.seq (.region [
   ⟨some 5,(.move (.t 0)),none⟩,
   ⟨some 6,(.bin .shr (.t 5) (.c (.s (.int .u64 32)))),none⟩,
   ⟨some 0,(.move (.t 6)),none⟩] [] [])
  (.region [
   ⟨some 2,(.move (.c (.s (.int .i64 32)))),none⟩] [] []))
  .skip))
 (.seq (.seq (.region [
  ⟨some 7,(.move (.t 0)),none⟩,
  ⟨some 8,(.bin .geq (.t 7) (.c (.s (.int .u64 65536)))),none⟩] [] [])
 (.cond (.t 8)
  (.seq (.region [
   ⟨some 9,(.move (.t 0)),none⟩,
   ⟨some 10,(.bin .shr (.t 9) (.c (.s (.int .u64 16)))),none⟩,
   ⟨some 0,(.move (.t 10)),none⟩] [] [])
  (.region [
   ⟨some 11,(.move (.t 2)),none⟩,
   ⟨some 12,(.bin .add (.t 11) (.c (.s (.int .i64 16)))),none⟩,
   ⟨some 2,(.move (.t 12)),none⟩] [] []))
  .skip))
 (.seq (.seq (.region [
  ⟨some 13,(.move (.t 0)),none⟩,
  ⟨some 14,(.bin .geq (.t 13) (.c (.s (.int .u64 256)))),none⟩] [] [])
 (.cond (.t 14)
  (.seq (.region [
   ⟨some 15,(.move (.t 0)),none⟩,
   ⟨some 16,(.bin .shr (.t 15) (.c (.s (.int .u64 8)))),none⟩,
   ⟨some 0,(.move (.t 16)),none⟩] [] [])
  (.region [
   ⟨some 17,(.move (.t 2)),none⟩,
   ⟨some 18,(.bin .add (.t 17) (.c (.s (.int .i64 8)))),none⟩,
   ⟨some 2,(.move (.t 18)),none⟩] [] []))
  .skip))
 (.seq (.region [
  ⟨some 19,(.move (.t 2)),none⟩,
  ⟨some 20,(.move (.t 0)),none⟩,
  ⟨some 21,(.conv .u8 (.t 20)),none⟩,
  ⟨some 22,(.indexStr (.c (.s (.string ⟨#[0,1,2,2,3,3,3,3,4,4,4,4,4,4,4,4,5,5,5,5,5,5,5,5,5,5,5,5,5,5,5,5,6,6,6,6,6,6,6,6,6,6,6,6,6,6,6,6,6,6,6,6,6,6,6,6,6,6,6,6,6,6,6,6,7,7,7,7,7,7,7,7,7,7,7,7,7,7,7,7,7,7,7,7,7,7,7,7,7,7,7,7,7,7,7,7,7,7,7,7,7,7,7,7,7,7,7,7,7,7,7,7,7,7,7,7,7,7,7,7,7,7,7,7,7,7,7,7,8,8,8,8,8,8,8,8,8,8,8,8,8,8,8,8,8,8,8,8,8,8,8,8,8,8,8,8,8,8,8,8,8,8,8,8,8,8,8,8,8,8,8,8,8,8,8,8,8,8,8,8,8,8,8,8,8,8,8,8,8,8,8,8,8,8,8,8,8,8,8,8,8,8,8,8,8,8,8,8,8,8,8,8,8,8,8,8,8,8,8,8,8,8,8,8,8,8,8,8,8,8,8,8,8,8,8,8,8,8,8,8,8,8,8,8,8,8,8,8,8,8,8,8,8,8,8,8]⟩))) (.t 21)),none⟩,
  ⟨some 23,(.conv .i64 (.t 22)),none⟩,
  ⟨some 24,(.bin .add (.t 19) (.t 23)),none⟩,
  ⟨some 2,(.move (.t 24)),none⟩] [] [])
 .ret))))) }
def c_f59:ACFun:={ ntmps:=6,results:=[(.tmp 2)],body:=
 (.seq (.region [
  ⟨some 2,(.move (.c (.s (.bool false)))),none⟩] [] [])
 (.seq (.region [
  ⟨some 3,(.move (.t 0)),none⟩,
  ⟨some 4,(.move (.t 0)),none⟩,
  ⟨some 5,(.bin .neq (.t 3) (.t 4)),none⟩,
  ⟨some 2,(.move (.t 5)),none⟩] [] [])
 .ret)) }
def CQ:Nat→Option CFun
 | 11=>some (.code c_f11)
 | 22=>some (.code c_f22)
 | 29=>some (.code c_f29)
 | 30=>some (.code c_f30)
 | 36=>some (.code c_f36)
 | 42=>some (.code c_f42)
 | 45=>some (.code c_f45)
 | 46=>some (.code c_f46)
 | 59=>some (.code c_f59)
 | _=>none
theorem CQ_11:compK Try.prog PX0 11=some (false,c_f11.ntmps,c_f11.results,c_f11.body.bare):=by kernel_rfl
theorem CQ_22:compK Try.prog PX0 22=some (false,c_f22.ntmps,c_f22.results,c_f22.body.bare):=by kernel_rfl
theorem CQ_29:compK Try.prog PX0 29=some (false,c_f29.ntmps,c_f29.results,c_f29.body.bare):=by kernel_rfl
theorem CQ_30:compK Try.prog PX0 30=some (false,c_f30.ntmps,c_f30.results,c_f30.body.bare):=by kernel_rfl
theorem CQ_36:compK Try.prog PX0 36=some (false,c_f36.ntmps,c_f36.results,c_f36.body.bare):=by kernel_rfl
theorem CQ_42:compK Try.prog PX0 42=some (false,c_f42.ntmps,c_f42.results,c_f42.body.bare):=by kernel_rfl
theorem CQ_45:compK Try.prog PX0 45=some (false,c_f45.ntmps,c_f45.results,c_f45.body.bare):=by kernel_rfl
theorem CQ_46:compK Try.prog PX0 46=some (false,c_f46.ntmps,c_f46.results,c_f46.body.bare):=by kernel_rfl
theorem CQ_59:compK Try.prog PX0 59=some (false,c_f59.ntmps,c_f59.results,c_f59.body.bare):=by kernel_rfl
theorem CQ_ok (fx:Nat→Option (Array Value × TypeId × Nat × Nat)):∀ k c,CQ k=some c→FunOk Try.prog (PXf fx) k c:=by
 intro k c h
 unfold CQ at h
 split at h
 ·cases h;exact funOk_f fx CQ_11
 ·cases h;exact funOk_f fx CQ_22
 ·cases h;exact funOk_f fx CQ_29
 ·cases h;exact funOk_f fx CQ_30
 ·cases h;exact funOk_f fx CQ_36
 ·cases h;exact funOk_f fx CQ_42
 ·cases h;exact funOk_f fx CQ_45
 ·cases h;exact funOk_f fx CQ_46
 ·cases h;exact funOk_f fx CQ_59
 ·cases h
def bareF (c:ACFun):ACFun:={ c with body:=c.body.bare }
theorem bare_ok {P:Program} {lt:List Nat} {k:Nat} {c:ACFun} (h:compKL lt P PX0 k=some (false,c.ntmps,c.results,c.body.bare)) (hb:c.body.bare.bare=c.body.bare):FunOk P PX0 k (.code (bareF c)):=
 funOk_f (fun _=>none) (c:=bareF c) (h.trans (by show some (false,c.ntmps,c.results,c.body.bare)=some (false,c.ntmps,c.results,c.body.bare.bare);rw [hb]))
def CQs:Nat→Option CFun
 | 13=>some (.code (bareF s_f13))
 | 14=>some (.code (bareF s_f14))
 | 21=>some (.code (bareF s_f21))
 | 23=>some (.code (bareF s_f23))
 | 24=>some (.code (bareF s_f24))
 | 28=>some (.code (bareF s_f28))
 | 31=>some (.code (bareF s_f31))
 | 47=>some (.code (bareF s_f47))
 | 48=>some (.code (bareF s_f48))
 | 49=>some (.code (bareF s_f49))
 | 60=>some (.code (bareF s_f60))
 | k=>CQ k
theorem CQs_ok:∀ k c,CQs k=some c→FunOk Try.prog PX0 k c:=by
 intro k c h
 unfold CQs at h
 split at h
 ·cases h;exact bare_ok GA2_13 (by kernel_rfl)
 ·cases h;exact bare_ok GA2_14 (by kernel_rfl)
 ·cases h;exact bare_ok GA2_21 (by kernel_rfl)
 ·cases h;exact bare_ok GA1_23 (by kernel_rfl)
 ·cases h;exact bare_ok GA1_24 (by kernel_rfl)
 ·cases h;exact bare_ok GA2_28 (by kernel_rfl)
 ·cases h;exact bare_ok GA1_31 (by kernel_rfl)
 ·cases h;exact bare_ok GA1_47 (by kernel_rfl)
 ·cases h;exact bare_ok GA1_48 (by kernel_rfl)
 ·cases h;exact bare_ok GA1_49 (by kernel_rfl)
 ·cases h;exact bare_ok GA1_60 (by kernel_rfl)
 ·exact CQ_ok (fun _=>none) _ c h
theorem tells_true:givesE CQs 400 11=some (bl true):=by kernel_rfl
end Go.Proofs.Ytgimjihhlhjejaa
set_option maxRecDepth 100000
namespace Go.Proofs.Ytgimjihhlhjejaa
open Go.AM
def idx (p:V→Bool):List V→Nat→Option Nat
 | [],_=>none
 | x :: l,i=>if p x then some i else idx p l (i+1)
def idxV:Option Nat→V
 | some i=>.s (.int .i64 i)
 | none=>.s (.int .i64 (-1))
theorem index_loop (call:CallF) (base:Nat) (H:Heap) (v f:V) (cs:List V) (hv:Rd H v cs) (hw:Wide1 v) (hn:cs.length < 2 ^ 62) (p:V→Bool) (hp:∀ x∈cs,call f [x] base H=some (.s (.bool (p x)),H)):
 ∀ (l:List V) (i:Nat),cs.drop i=l→i≤cs.length→
 itW (evC call itW base s_f60_l0) [] H.length (frOf 19 [(0,v),(1,f),(7,.s (.int .i64 cs.length)),(8,.s (.int .i64 i))]) H=
 match idx p l i with
 | some j=>some (.ret,frOf 19 [(4,.s (.int .i64 j))],H)
 | none=>some (.ext 0,frOf 19 [(0,v),(1,f),(7,.s (.int .i64 cs.length)),(8,.s (.int .i64 cs.length)),(9,.s (.bool false))],H):=by
 intro l
 induction l with
 | nil=>
   intro i hd hi
   have hin:i=cs.length:=by
    have:=congrArg List.length hd
    rw [List.length_drop] at this
    simp at this
    omega
   subst hin
   rw [itW_step]
   simp only [a_f60,s_f60_l0_b,aa,bl,i64,reduceIte,reduceCtorEq,Nat.reduceEqDiff,Nat.reduceLT,Nat.reduceLeDiff,Nat.reduceBEq,Nat.reduceAdd,fillA,splice,Nat.reduceMul,amY,op_eqP,Int.lt_irrefl,idx]
 | cons x l ih=>
   intro i hd hi
   have hc:cs[i]?=some x:=by have:=congrArg (·[0]?) hd;simp only [List.getElem?_drop] at this;exact this
   have hlt:i < cs.length:=(List.getElem?_eq_some_iff.1 hc).1
   have hi':((i:Int) < (cs.length:Int)):=by omega
   have hd':cs.drop (i+1)=l:=by
    have:=congrArg (List.drop 1) hd
    simpa [List.drop_drop,Nat.add_comm] using this
   obtain ⟨a,ha1,ha2⟩:=hv.at' hw hc
   have hcall:=hp x (List.mem_of_getElem? hc)
   rw [itW_step]
   cases hx:p x with
   | true=>simp only [a_f60,s_f60_l0_b,aa,bl,i64,reduceIte,reduceCtorEq,Nat.reduceEqDiff,Nat.reduceLT,Nat.reduceLeDiff,Nat.reduceBEq,Nat.reduceAdd,fillA,splice,Nat.reduceMul,amY,op_eqP,hi',ha1,ha2,hcall,hx,idx]
   | false=>
     simp only [a_f60,s_f60_l0_b,aa,bl,i64,reduceIte,reduceCtorEq,Nat.reduceEqDiff,Nat.reduceLT,Nat.reduceLeDiff,Nat.reduceBEq,Nat.reduceAdd,fillA,splice,Nat.reduceMul,amY,op_eqP,hi',ha1,ha2,hcall,hx,idx,wrap_pos (n:=i) (by omega)]
     exact ih (i+1) hd' hlt
theorem index_fun {CT:Nat→Option CFun} (hT:CT k_f60=some (.code s_f60)) (base:Nat) (H:Heap) (v f:V) (cs:List V) (hv:Rd H v cs) (hw:Wide1 v) (hn:cs.length < 2 ^ 62) (p:V→Bool) (hp:∀ x∈cs,callW CT f [x] base H=some (.s (.bool (p x)),H)):
 callW CT (.fn k_f60 [] []) [v,f] base H=some (idxV (idx p cs 0),H):=by
 refine callW_fn (c:=s_f60) hT (by simp [s_f60]) ?_
 have hl:=index_loop (callW CT) base H v f cs hv hw hn p hp cs 0 rfl (Nat.zero_le _)
 rw [show ((0:Nat):Int)=0 from rfl] at hl
 simp only [s_f60,a_f60,s_f60_l0_b,aa,bl,i64,reduceIte,reduceCtorEq,Nat.reduceEqDiff,Nat.reduceLT,Nat.reduceLeDiff,Nat.reduceBEq,Nat.reduceAdd,fillA,splice,Nat.reduceMul,amY,op_eqP,hv.len,hl]
 cases idx p cs 0 <;> simp only [a_f60,s_f60_l0_b,aa,bl,i64,reduceIte,reduceCtorEq,Nat.reduceEqDiff,Nat.reduceLT,Nat.reduceLeDiff,Nat.reduceBEq,Nat.reduceAdd,fillA,splice,Nat.reduceMul,amY,op_eqP,idxV]
def keepAt (p:V→Bool):List V→(i:Nat)→List V→List V × Nat
 | [],i,c=>(c,i)
 | x :: l,i,c=>if p x then keepAt p l i c else keepAt p l (i+1) (c.set i x)
theorem delete_loop (call:CallF) (base:Nat) (f:V) (id g n:Nat) (hb:base≤id) (hn:n < 2 ^ 62) (p:V→Bool) (Q:V→Prop) (hQ:∀ x,Q x→x.one=true) (H:Heap) (hp:∀ x,Q x→∀ c,c.length=n→call f [x] base (H.set id (.cells g c))=some (.s (.bool (p x)),H.set id (.cells g c))) (hid:id < H.length):
 ∀ (l:List V) (j i:Nat) (c:List V),c.length=n→c.drop j=l→(∀ x∈c,Q x)→i < j→j≤n→
 itW (evC call itW base s_f47_l0) [] H.length (frOf 42 [(0,.sl id g 0 n 1),(1,f),(5,.s (.int .i64 i)),(6,.s (.int .i64 j))]) (H.set id (.cells g c))=
 some (.ext 0,frOf 42 [(0,.sl id g 0 n 1),(1,f),(5,.s (.int .i64 (keepAt p l i c).2)),(6,.s (.int .i64 n)),(19,.s (.bool false))],H.set id (.cells g (keepAt p l i c).1)):=by
 intro l
 induction l with
 | nil=>
   intro j i c hc hd ho hij hj
   have hin:j=n:=by
    have:=congrArg List.length hd
    rw [List.length_drop] at this
    simp at this
    omega
   subst hin
   rw [itW_step]
   have hL:(H.set id (.cells g c)).length=H.length:=List.length_set
   simp only [a_f47,s_f47_l0_b,aa,bl,i64,reduceIte,reduceCtorEq,Nat.reduceEqDiff,Nat.reduceLT,Nat.reduceLeDiff,Nat.reduceBEq,Nat.reduceAdd,fillA,splice,Nat.reduceMul,amY,op_eqP,Int.lt_irrefl,keepAt,trim_same hL]
 | cons x l ih=>
   intro j i c hc hd ho hij hj
   have hcx:c[j]?=some x:=by have:=congrArg (·[0]?) hd;simp only [List.getElem?_drop] at this;exact this
   have hlt:j < n:=by have:=(List.getElem?_eq_some_iff.1 hcx).1;omega
   have hd':c.drop (j+1)=l:=by
    have:=congrArg (List.drop 1) hd
    simpa [List.drop_drop,Nat.add_comm] using this
   have hxQ:Q x:=ho x (List.mem_of_getElem? hcx)
   have hx1:x.one=true:=hQ x hxQ
   have hg:getC (H.set id (.cells g c)) id g=some c:=by simp [getC,hid]
   have hrd:Rd (H.set id (.cells g c)) (.sl id g 0 n 1) c:=by
    have:=Rd.sl hg (off:=0) (n:=n) (by omega)
    rwa [List.drop_zero,List.take_of_length_le (by omega)] at this
   obtain ⟨a,ha1,ha2⟩:=hrd.at' trivial hcx
   have hcall:=hp x hxQ c hc
   have hi':((j:Int) < (n:Int)):=by omega
   have hL:∀ c,(H.set id (.cells g c)).length=H.length:=fun c=>List.length_set
   rw [itW_step]
   have hii:(i:Int) < (n:Int):=by omega
   have hst:=storeV_at (v:=x) hg hb hx1 (off:=i) (by omega)
   cases hpx:p x with
   | true=>
     simp only [a_f47,s_f47_l0_b,aa,bl,i64,reduceIte,reduceCtorEq,Nat.reduceEqDiff,Nat.reduceLT,Nat.reduceLeDiff,Nat.reduceBEq,Nat.reduceAdd,fillA,splice,Nat.reduceMul,amY,op_eqP,hi',ha1,ha2,hcall,hpx,keepAt,wrap_pos (n:=j) (by omega),trim_same (hL _)]
     exact ih (j+1) i c hc hd' ho (by omega) (by omega)
   | false=>
     simp only [a_f47,s_f47_l0_b,aa,bl,i64,reduceIte,reduceCtorEq,Nat.reduceEqDiff,Nat.reduceLT,Nat.reduceLeDiff,Nat.reduceBEq,Nat.reduceAdd,fillA,splice,Nat.reduceMul,amY,op_eqP,hi',ha1,ha2,hcall,hpx,keepAt,wrap_pos (n:=j) (by omega),wrap_pos (n:=i) (by omega),trim_same (hL _),hii,hst]
     have hd2:(c.set i x).drop (j+1)=l:=by rw [List.drop_set_of_lt (by omega),hd']
     exact ih (j+1) (i+1) (c.set i x) (by rw [List.length_set];exact hc) hd2 (fun y hy=>by
      rcases List.mem_or_eq_of_mem_set hy with h | h
      ·exact ho y h
      ·rw [h];exact hxQ) (by omega) (by omega)
theorem keepAt_spec (p:V→Bool):∀ (l:List V) (i:Nat) (c:List V),i+l.length≤c.length→(keepAt p l i c).2=i+(l.filter fun x=>!p x).length∧(keepAt p l i c).1.length=c.length∧(keepAt p l i c).1.take (keepAt p l i c).2=c.take i ++ l.filter fun x=>!p x:=by
 intro l
 induction l with
 | nil=>intro i c _;simp [keepAt]
 | cons x l ih=>
   intro i c h
   simp only [List.length_cons] at h
   simp only [keepAt,List.filter_cons]
   cases hp:p x with
   | true=>simpa using ih i c (by omega)
   | false=>
     obtain ⟨h1,h2,h3⟩:=ih (i+1) (c.set i x) (by rw [List.length_set];omega)
     rw [List.length_set] at h2
     refine ⟨by simp [h1];omega,by simpa using h2,?_⟩
     have:(c.set i x).take (i+1)=c.take i ++ [x]:=by
      rw [List.take_succ_eq_append_getElem (by rw [List.length_set];omega),List.take_set_of_le (Nat.le_refl _)]
      simp
     simp only [Bool.false_eq_true,if_false,Bool.not_false,if_true]
     rw [h3,this,List.append_assoc]
     rfl
theorem idx_none {p:V→Bool}:∀ {l:List V} {i:Nat},idx p l i=none→l.filter (fun x=>!p x)=l:=by
 intro l
 induction l with
 | nil=>intro i _;rfl
 | cons x l ih=>
   intro i h
   simp only [idx] at h
   cases hp:p x with
   | true=>simp [hp] at h
   | false=>
     rw [hp] at h
     simp [hp,ih (by simpa using h)]
theorem idx_some {p:V→Bool}:∀ {l:List V} {i j:Nat},idx p l i=some j→∃ k,j=i+k∧k < l.length∧(l.take k).filter (fun x=>!p x)=l.take k∧(l.drop k).filter (fun x=>!p x)=(l.drop (k+1)).filter (fun x=>!p x):=by
 intro l
 induction l with
 | nil=>intro i j h;cases h
 | cons x l ih=>
   intro i j h
   simp only [idx] at h
   cases hp:p x with
   | true=>
     rw [hp] at h
     simp at h
     exact ⟨0,by omega,by simp,rfl,by simp [hp]⟩
   | false=>
     rw [hp] at h
     obtain ⟨k,h1,h2,h3,h4⟩:=ih (i:=i+1) (by simpa using h)
     exact ⟨k+1,by omega,by simpa using h2,by simp [hp,h3],by simpa using h4⟩
theorem delete_fun {CT:Nat→Option CFun} (hT:CT k_f47=some (.code s_f47)) (hT2:CT k_f60=some (.code s_f60))
 (base:Nat) (H:Heap) (f:V) (id g n:Nat) (c:List V) (hc:getC H id g=some c) (hl:c.length=n) (Q:V→Prop) (hQ:∀ x,Q x→x.one=true) (ho:∀ x∈c,Q x) (hb:base≤id) (hn:n < 2 ^ 62) (p:V→Bool)
 (hp:∀ x,Q x→∀ c,c.length=n→callW CT f [x] base (H.set id (.cells g c))=some (.s (.bool (p x)),H.set id (.cells g c))):
 ∃ c',callW CT (.fn k_f47 [] []) [.sl id g 0 n 1,f] base H=some (.sl id g 0 (c.filter fun x=>!p x).length 1,H.set id (.cells g c'))∧c'.length=n∧c'.take (c.filter fun x=>!p x).length=c.filter fun x=>!p x:=by
 have hid:id < H.length:=by
  unfold getC at hc
  split at hc
  ·rename_i hh;exact (List.getElem?_eq_some_iff.1 hh).1
  ·cases hc
 have hrd:Rd H (.sl id g 0 n 1) c:=by
  have:=Rd.sl hc (off:=0) (n:=n) (by omega)
  rwa [List.drop_zero,List.take_of_length_le (by omega)] at this
 have hix:=index_fun hT2 base H (.sl id g 0 n 1) f c hrd trivial (by omega) p (fun x hx=>by have:=hp x (ho x hx) c hl;rwa [getC_same hc] at this)
 cases hi:idx p c 0 with
 | none=>
   have hfl:=idx_none hi
   refine ⟨c,?_,hl,by rw [hfl,List.take_length]⟩
   rw [getC_same hc,hfl,hl]
   refine callW_fn (c:=s_f47) hT (by simp [s_f47]) ?_
   rw [hi] at hix
   simp only [s_f47,a_f47,s_f47_l0_b,aa,bl,i64,reduceIte,reduceCtorEq,Nat.reduceEqDiff,Nat.reduceLT,Nat.reduceLeDiff,Nat.reduceBEq,Nat.reduceAdd,fillA,splice,Nat.reduceMul,amY,op_eqP,hix,idxV]
 | some j=>
   rw [hi] at hix
   obtain ⟨k,hjk,hk,h3,h4⟩:=idx_some hi
   obtain rfl:j=k:=by omega
   have hlp:=delete_loop (callW CT) base f id g n hb hn p Q hQ H hp hid (c.drop (j+1)) (j+1) j c hl rfl ho (by omega) (by omega)
   obtain ⟨q1,q2,q3⟩:=keepAt_spec p (c.drop (j+1)) j c (by simp;omega)
   have hft:c.filter (fun x=>!p x)=c.take j ++ (c.drop (j+1)).filter fun x=>!p x:=by
    rw [← h3,← h4,← List.filter_append,List.take_append_drop]
   have hk2:(keepAt p (c.drop (j+1)) j c).2=(c.filter fun x=>!p x).length:=by rw [q1,hft,List.length_append,List.length_take];omega
   rw [hk2] at q3 hlp
   have hkn:(c.filter fun x=>!p x).length≤n:=by rw [← hl];exact List.length_filter_le _ _
   generalize hK:(c.filter fun x=>!p x).length=K at *
   generalize hC:(keepAt p (c.drop (j+1)) j c).1=C at *
   refine ⟨C.take K ++ (List.replicate (n - K) [V.s (.int .i64 0)]).flatten ++ C.drop (K+(n - K)),?_,?_,?_⟩
   ·refine callW_fn (c:=s_f47) hT (by simp [s_f47]) ?_
    have hg':getC (H.set id (.cells g C)) id g=some C:=by simp [getC,hid]
    have hcl:=clear_at (zero:=[.s (.int .i64 0)]) (off:=K) (len:=n - K) hg' hb rfl rfl (by rw [q2];omega)
    rw [getC_same hc] at hlp
    have hjw:=wrap_pos (n:=j) (by omega)
    have hj0:((j:Int) == -1)=false:=by rw [beq_eq_false_iff_ne];omega
    have hk1:(K:Int)≤(n:Int):=by omega
    have hk2:((n:Int) - (K:Int)).toNat=n - K:=by omega
    simp only [s_f47,a_f47,s_f47_l0_b,aa,bl,i64,reduceIte,reduceCtorEq,Nat.reduceEqDiff,Nat.reduceLT,Nat.reduceLeDiff,Nat.reduceBEq,Nat.reduceAdd,fillA,splice,Nat.reduceMul,amY,op_eqP,hix,idxV,hjw,hlp,hj0,hk1,hk2,hcl]
   ·simp [q2];omega
   ·rw [hft,← q3,List.append_assoc,List.take_append_of_le_length (by rw [List.length_take];omega),List.take_take,Nat.min_self]
end Go.Proofs.Ytgimjihhlhjejaa
set_option maxRecDepth 100000
namespace Go.Proofs.Ytgimjihhlhjejaa
open Go.AM
def Own (H0 H:Heap) (v:V) (l:List Int):Prop:=
 Ext H0 H∧((l=[]∧(v=nilS∨v=.esl))∨∃ id g c,v=.sl id g 0 l.length 1∧getC H id g=some c∧l.length≤c.length∧c.take l.length=l.map iV∧H0.length≤id)
theorem Own.rd {H0 H:Heap} {v:V} {l:List Int} (h:Own H0 H v l):Rd H v (l.map iV):=by
 rcases h.2 with ⟨rfl,rfl | rfl⟩ | ⟨id,g,c,rfl,hc,hl,ht,_⟩
 ·exact Rd.nil H
 ·exact Rd.esl H
 ·have:=Rd.sl hc (off:=0) (n:=l.length) (by omega)
  rwa [List.drop_zero,ht] at this
theorem Own.wide {H0 H:Heap} {v:V} {l:List Int} (h:Own H0 H v l):Wide1 v:=by
 rcases h.2 with ⟨_,rfl | rfl⟩ | ⟨_,_,_,rfl,_⟩ <;> trivial
theorem ones (l:List Int):(l.map iV).all V.one=true:=by
 rw [List.all_eq_true]
 intro x hx
 obtain ⟨n,_,rfl⟩:=List.mem_map.1 hx
 rfl
def nilV:V→Bool
 | .s (.slice none 0 0)=>true
 | _=>false
theorem rd_isNil {H:Heap} {v:V} {l:List V} (h:Rd H v l):xEqNil .s false v=some (.s (.bool (nilV v))):=by
 rcases h.cases with ⟨_,rfl | rfl⟩ | ⟨es,rfl,_⟩ | ⟨id,g,off,n,c,rfl,_⟩ <;> rfl
theorem clone_fun {CT:Nat→Option CFun} (hT:CT k_f48=some (.code s_f48)) (base:Nat) (H:Heap) (v:V) (l:List Int) (hv:Rd H v (l.map iV)) (hn:l.length * 8≤2 ^ 47):
 ∃ r H',callW CT (.fn k_f48 [] []) [v] base H=some (r,H')∧Ext H H'∧((l=[]∧(r=nilS∨r=.esl))∨∃ id,r=.sl id 0 0 l.length 1∧getC H' id 0=some (l.map iV)∧H.length≤id):=by
 have hnil:=rd_isNil hv
 cases hz:nilV v with
 | true=>
   have hvn:v=nilS:=by
    unfold nilV at hz
    split at hz
    ·rfl
    ·cases hz
   subst hvn
   have hl:l=[]:=by
    have:=hv.2
    simp only [nilS,elems] at this
    cases l with
    | nil=>rfl
    | cons a l=>simp at this
   refine ⟨nilS,H,callW_fn (c:=s_f48) hT (by simp [s_f48]) ?_,Ext.refl H,.inl ⟨hl,.inl rfl⟩⟩
   simp only [s_f48,a_f48,aa,bl,i64,reduceIte,reduceCtorEq,Nat.reduceEqDiff,Nat.reduceLT,Nat.reduceLeDiff,Nat.reduceBEq,Nat.reduceAdd,fillA,splice,Nat.reduceMul,amY,op_eqP,nilS]
 | false=>
   rw [hz] at hnil
   have hap:=appendV_esl (base:=base) (bytes:=8) (hv.app [Ob.cells 0 []]) (ones l) (by rw [List.length_map];exact hn)
   by_cases hl:l.length=0
   ·have hl':l=[]:=List.eq_nil_of_length_eq_zero hl
    rw [List.length_map,if_pos hl] at hap
    refine ⟨.esl,H ++ [.cells 0 []],callW_fn (c:=s_f48) hT (by simp [s_f48]) ?_,Ext.app _ _,.inl ⟨hl',.inr rfl⟩⟩
    simp only [s_f48,a_f48,aa,bl,i64,reduceIte,reduceCtorEq,Nat.reduceEqDiff,Nat.reduceLT,Nat.reduceLeDiff,Nat.reduceBEq,Nat.reduceAdd,fillA,splice,Nat.reduceMul,amY,op_eqP,hnil,hap]
   ·rw [List.length_map,if_neg hl,len_snoc] at hap
    refine ⟨.sl (H.length+1) 0 0 l.length 1,H ++ [.cells 0 []] ++ [.cells 0 (l.map iV)],callW_fn (c:=s_f48) hT (by simp [s_f48]) ?_,(Ext.app _ _).trans (Ext.app _ _),.inr ⟨H.length+1,rfl,?_,by omega⟩⟩
    ·simp only [s_f48,a_f48,aa,bl,i64,reduceIte,reduceCtorEq,Nat.reduceEqDiff,Nat.reduceLT,Nat.reduceLeDiff,Nat.reduceBEq,Nat.reduceAdd,fillA,splice,Nat.reduceMul,amY,op_eqP,hnil,hap]
    ·simp only [aa,bl,i64,reduceIte,reduceCtorEq,Nat.reduceEqDiff,Nat.reduceLT,Nat.reduceLeDiff,Nat.reduceBEq,Nat.reduceAdd,fillA,splice,Nat.reduceMul,amY,op_eqP]
theorem norm1_fun {CT:Nat→Option CFun} (hT:CT k_f49=some (.code s_f49)) (base:Nat) (H:Heap) (id:Nat) (v:V) (hc:getC H id 0=some [v]) (n:Nat) (hv:xLen H .s v=some (.s (.int .i64 n))) (k:Int):
 callW CT (.fn k_f49 [] [.ref id 0 0]) [iV k] base H=some (.s (.bool (decide (k < 0) || decide (k ≥ n))),H):=by
 refine callW_fn (c:=s_f49) hT (by simp [s_f49]) ?_
 simp only [s_f49,a_f49,aa,bl,i64,reduceIte,reduceCtorEq,Nat.reduceEqDiff,Nat.reduceLT,Nat.reduceLeDiff,Nat.reduceBEq,Nat.reduceAdd,fillA,splice,Nat.reduceMul,amY,op_eqP,iV,hc,hv]
end Go.Proofs.Ytgimjihhlhjejaa
set_option maxRecDepth 100000
namespace Go.Proofs.Ytgimjihhlhjejaa
open Go.AM
theorem wrap_pred {n:Nat} (h1:1≤n) (h:n < 2 ^ 63):IntKind.i64.wrap ((n:Int) - 1)=((n - 1:Nat):Int):=by rw [IntKind.wrap_i64];omega
def chg:Int→List Int→List Int
 | _,[]=>[]
 | p,x :: r=>if x == p then chg x r else x :: chg x r
def compactZ:List Int→List Int
 | []=>[]
 | x :: r=>x :: chg x r
theorem chg_len:∀ (r:List Int) (p:Int),(chg p r).length≤r.length:=by
 intro r
 induction r with
 | nil=>intro p;simp [chg]
 | cons x r ih=>intro p;simp only [chg];split <;> simp <;> have:=ih x <;> omega
theorem compact_inner (call:CallF) (base:Nat) (id g n k0:Nat) (l:List Int) (hl:l.length=n) (hb:base≤id) (hn:n < 2 ^ 62) (H:Heap) (hid:id < H.length) (hk0:k0 < n):
 ∀ (r:List Int) (k2 k:Nat) (c:List V),l.drop (k0+k2)=r→1≤k2→k0+k2≤n→k0≤k→k < k0+k2→n≤c.length→(∀ j,k0+k2 - 1≤j→j < n→c[j]?=some (iV (l.getD j 0)))→
 ∃ c',itW (evC call itW base s_f23_l0) [] H.length (frOf 61 [(0,.sl id g 0 n 1),(3,.s (.int .i64 k)),(4,.sl id g k0 (n - k0) 1),(5,.s (.int .i64 k2))]) (H.set id (.cells g c))=
   some (.ext 2,frOf 61 [(0,.sl id g 0 n 1),(3,.s (.int .i64 (k+(chg (l.getD (k0+k2 - 1) 0) r).length:Nat))),(4,.sl id g k0 (n - k0) 1),(5,.s (.int .i64 (n - k0:Nat))),(32,.s (.bool false))],H.set id (.cells g c'))∧
   c'.length=c.length∧c'.take (k+(chg (l.getD (k0+k2 - 1) 0) r).length)=c.take k ++ (chg (l.getD (k0+k2 - 1) 0) r).map iV:=by
 intro r
 have hL:∀ c,(H.set id (.cells g c)).length=H.length:=fun c=>List.length_set
 induction r with
 | nil=>
   intro k2 k c hd h1 h2 h3 h4 hc hr
   have hk:k2=n - k0:=by
    have:=congrArg List.length hd
    simp at this
    omega
   subst hk
   refine ⟨c,?_,rfl,by simp [chg]⟩
   rw [itW_step]
   simp only [a_f23,s_f23_l0_b,s_f23_l1_b,aa,bl,i64,reduceIte,reduceCtorEq,Nat.reduceEqDiff,Nat.reduceLT,Nat.reduceLeDiff,Nat.reduceBEq,Nat.reduceAdd,fillA,splice,Nat.reduceMul,amY,op_eqP,Int.lt_irrefl,trim_same (hL _),chg]
 | cons x r ih=>
   intro k2 k c hd h1 h2 h3 h4 hc hr
   have hx:l[k0+k2]?=some x:=by have:=congrArg (·[0]?) hd;simp only [List.getElem?_drop] at this;exact this
   have hlt:k0+k2 < n:=by have:=(List.getElem?_eq_some_iff.1 hx).1;omega
   have hd':l.drop (k0+(k2+1))=r:=by
    rw [← Nat.add_assoc,← List.drop_drop,hd];rfl
   have hxD:l.getD (k0+k2) 0=x:=by simp [List.getD,hx]
   have hg:getC (H.set id (.cells g c)) id g=some c:=by simp [getC,hid]
   have hrd:Rd (H.set id (.cells g c)) (.sl id g k0 (n - k0) 1) ((c.drop k0).take (n - k0)):=Rd.sl hg (by omega)
   have e1:((c.drop k0).take (n - k0))[k2]?=some (iV x):=by
    rw [List.getElem?_take_of_lt (by omega),List.getElem?_drop,hr _ (by omega) hlt,hxD]
   have e2:((c.drop k0).take (n - k0))[k2 - 1]?=some (iV (l.getD (k0+k2 - 1) 0)):=by
    rw [List.getElem?_take_of_lt (by omega),List.getElem?_drop,← hr _ (by omega) (by omega)]
    congr 1;omega
   obtain ⟨a,ha1,ha2⟩:=hrd.at' trivial e1
   obtain ⟨b,hb1,hb2⟩:=hrd.at' trivial e2
   have hwp:=wrap_pred (n:=k2) h1 (by omega)
   have hw2:=wrap_pos (n:=k2) (by omega)
   have hw3:=wrap_pos (n:=k) (by omega)
   have hlt':(k2:Int) < ((n - k0:Nat):Int):=by omega
   have hkn:(k:Int) < (n:Int):=by omega
   have hst:=storeV_at (v:=iV x) hg hb rfl (off:=k) (by omega)
   unfold iV at ha2 hb2 hst
   rw [itW_step]
   cases heq:x == l.getD (k0+k2 - 1) 0 with
   | true=>
     have hne:(x != l.getD (k0+k2 - 1) 0)=false:=by rw [bne,heq];rfl
     have hpx:l.getD (k0+(k2+1) - 1) 0=x:=by rw [← hxD];congr 1
     obtain ⟨c',q1,q2,q3⟩:=ih (k2+1) k c hd' (by omega) (by omega) h3 (by omega) hc (fun j hj1 hj2=>hr j (by omega) hj2)
     rw [hpx] at q1 q3
     refine ⟨c',?_,q2,by simpa only [chg,heq,if_true] using q3⟩
     simp only [a_f23,s_f23_l0_b,s_f23_l1_b,aa,bl,i64,reduceIte,reduceCtorEq,Nat.reduceEqDiff,Nat.reduceLT,Nat.reduceLeDiff,Nat.reduceBEq,Nat.reduceAdd,fillA,splice,Nat.reduceMul,amY,op_eqP,hlt',ha1,ha2,hwp,hb1,hb2,hne,hw2,trim_same (hL _),chg,heq]
     exact q1
   | false=>
     have hne:(x != l.getD (k0+k2 - 1) 0)=true:=by rw [bne,heq];rfl
     have hpx:l.getD (k0+(k2+1) - 1) 0=x:=by rw [← hxD];congr 1
     obtain ⟨c',q1,q2,q3⟩:=ih (k2+1) (k+1) (c.set k (iV x)) hd' (by omega) (by omega) (by omega) (by omega) (by rw [List.length_set];exact hc) (fun j hj1 hj2=>by rw [List.getElem?_set_ne (by omega)];exact hr j (by omega) hj2)
     rw [hpx] at q1 q3
     have hkk:k+1+(chg x r).length=k+((chg x r).length+1):=by omega
     rw [hkk] at q1 q3
     refine ⟨c',?_,by rw [q2,List.length_set],?_⟩
     ·unfold iV at q1
      simp only [a_f23,s_f23_l0_b,s_f23_l1_b,aa,bl,i64,reduceIte,reduceCtorEq,Nat.reduceEqDiff,Nat.reduceLT,Nat.reduceLeDiff,Nat.reduceBEq,Nat.reduceAdd,fillA,splice,Nat.reduceMul,amY,op_eqP,hlt',ha1,ha2,hwp,hb1,hb2,hne,hw2,hw3,hkn,hst,trim_same (hL _),chg,heq]
      exact q1
     ·simp only [chg,heq,Bool.false_eq_true,if_false,List.length_cons,List.map_cons]
      rw [q3,List.take_succ_eq_append_getElem (by rw [List.length_set];omega),List.take_set_of_le (Nat.le_refl _)]
      simp
theorem compact_outer (call:CallF) (base:Nat) (id g n:Nat) (l:List Int) (hl:l.length=n) (hb:base≤id) (hn:n < 2 ^ 62) (H:Heap) (hid:id < H.length) (c:List V) (hc:n≤c.length) (hg:getC H id g=some c) (hr:∀ j,j < n→c[j]?=some (iV (l.getD j 0))):
 ∀ (r:List Int) (k:Nat),l.drop k=r→1≤k→k≤n→
 (itW (evC call itW base s_f23_l1) [] H.length (frOf 61 [(0,.sl id g 0 n 1),(3,.s (.int .i64 k))]) H=some (.ext 0,frOf 61 [(0,.sl id g 0 n 1),(3,.s (.int .i64 n)),(13,.s (.bool false))],H)∧chg (l.getD (k - 1) 0) r=r)∨
 ∃ c',itW (evC call itW base s_f23_l1) [] H.length (frOf 61 [(0,.sl id g 0 n 1),(3,.s (.int .i64 k))]) H=some (.ret,frOf 61 [(2,.sl id g 0 (k+(chg (l.getD (k - 1) 0) r).length) 1)],H.set id (.cells g c'))∧
   c'.length=c.length∧c'.take (k+(chg (l.getD (k - 1) 0) r).length)=(l.take k ++ chg (l.getD (k - 1) 0) r).map iV:=by
 intro r
 induction r with
 | nil=>
   intro k hd h1 h2
   have hk:k=n:=by
    have:=congrArg List.length hd
    simp at this
    omega
   subst hk
   refine .inl ⟨?_,rfl⟩
   rw [itW_step]
   simp only [a_f23,s_f23_l0_b,s_f23_l1_b,aa,bl,i64,reduceIte,reduceCtorEq,Nat.reduceEqDiff,Nat.reduceLT,Nat.reduceLeDiff,Nat.reduceBEq,Nat.reduceAdd,fillA,splice,Nat.reduceMul,amY,op_eqP,Int.lt_irrefl,trim_same rfl]
 | cons x r ih=>
   intro k hd h1 h2
   have hx:l[k]?=some x:=by have:=congrArg (·[0]?) hd;simp only [List.getElem?_drop] at this;exact this
   have hlt:k < n:=by have:=(List.getElem?_eq_some_iff.1 hx).1;omega
   have hd':l.drop (k+1)=r:=by
    rw [← List.drop_drop,hd];rfl
   have hxD:l.getD k 0=x:=by simp [List.getD,hx]
   have hrd:Rd H (.sl id g 0 n 1) ((c.drop 0).take n):=Rd.sl hg (by omega)
   have e1:((c.drop 0).take n)[k]?=some (iV x):=by
    rw [List.getElem?_take_of_lt (by omega),List.getElem?_drop,Nat.zero_add,hr _ (by omega),hxD]
   have e2:((c.drop 0).take n)[k - 1]?=some (iV (l.getD (k - 1) 0)):=by
    rw [List.getElem?_take_of_lt (by omega),List.getElem?_drop,Nat.zero_add,← hr _ (by omega)]
   obtain ⟨a,ha1,ha2⟩:=hrd.at' trivial e1
   obtain ⟨b,hb1,hb2⟩:=hrd.at' trivial e2
   have hwp:=wrap_pred (n:=k) h1 (by omega)
   have hw2:=wrap_pos (n:=k) (by omega)
   have hlt':(k:Int) < (n:Int):=by omega
   unfold iV at ha2 hb2
   cases heq:x == l.getD (k - 1) 0 with
   | true=>
     obtain ⟨c',q1,q2,q3⟩:=compact_inner call base id g n k l hl hb hn H hid hlt r 1 k c hd' (Nat.le_refl _) (by omega) (Nat.le_refl _) (by omega) hc (fun j _ hj2=>hr j hj2)
     have hkk:k+1 - 1=k:=by omega
     rw [hkk,hxD] at q1 q3
     rw [getC_same hg] at q1
     have c1:((1:Nat):Int)=1:=rfl
     rw [c1] at q1
     have hm:k+(chg x r).length≤n:=by
      have h1:=chg_len r x
      have h2:=congrArg List.length hd
      simp at h2
      omega
     have hmi:((k+(chg x r).length:Nat):Int)≤(n:Int):=by omega
     have hg':getC (H.set id (.cells g c')) id g=some c':=by simp [getC,hid]
     have hcl:=clear_at (zero:=[.s (.int .i64 0)]) (off:=k+(chg x r).length) (len:=n - (k+(chg x r).length)) hg' hb rfl rfl (by omega)
     have hchg:chg (l.getD (k - 1) 0) (x :: r)=chg x r:=by simp only [chg,heq,if_true]
     rw [hchg]
     refine .inr ⟨c'.take (k+(chg x r).length) ++ (List.replicate (n - (k+(chg x r).length)) [V.s (.int .i64 0)]).flatten ++ c'.drop (k+(chg x r).length+(n - (k+(chg x r).length))),?_,?_,?_⟩
     ·have hmn:((n:Int) - (k+(chg x r).length:Nat)).toNat=n - (k+(chg x r).length):=by omega
      have hmi':(k:Int)+((chg x r).length:Int)≤n:=by omega
      have hkn:(k:Int)≤n:=by omega
      have hnk:((n:Int) - (k:Int)).toNat=n - k:=by omega
      have hmz:((k+(chg x r).length:Nat):Int) - 0=(k+(chg x r).length:Nat):=by omega
      rw [itW_step]
      simp only [a_f23,s_f23_l0_b,s_f23_l1_b,aa,bl,i64,reduceIte,reduceCtorEq,Nat.reduceEqDiff,Nat.reduceLT,Nat.reduceLeDiff,Nat.reduceBEq,Nat.reduceAdd,fillA,splice,Nat.reduceMul,amY,op_eqP,hlt',ha1,ha2,hwp,hb1,hb2,heq,trim_same rfl,hkn,hnk,q1,hmi,hmn,hcl,hmz,Int.toNat_natCast,Nat.mul_one,Nat.zero_add,List.set_set,Int.natCast_nonneg]
      rw [trim_same (List.length_set)]
     ·simp
      omega
     ·rw [List.append_assoc,List.take_append_of_le_length (by simp;omega),List.take_take,Nat.min_self,q3,List.map_append]
      congr 1
      refine List.ext_getElem? fun j=>?_
      by_cases hj:j < k
      ·rw [List.getElem?_take_of_lt hj,hr j (by omega),List.getElem?_map,List.getElem?_take_of_lt hj,List.getElem?_eq_getElem (by omega)]
       simp [List.getD,List.getElem?_eq_getElem (show j < l.length by omega)]
      ·rw [List.getElem?_eq_none (by simp;omega),List.getElem?_eq_none (by simp;omega)]
   | false=>
     have hchg:chg (l.getD (k - 1) 0) (x :: r)=x :: chg x r:=by simp only [chg,heq,Bool.false_eq_true,if_false]
     have hkk:k+1 - 1=k:=by omega
     rw [hchg]
     have hI:=ih (k+1) hd' (by omega) (by omega)
     rw [hkk,hxD] at hI
     rcases hI with ⟨q,q2⟩ | ⟨c',q1,q2,q3⟩
     ·refine .inl ⟨?_,by rw [q2]⟩
      rw [itW_step]
      simp only [a_f23,s_f23_l0_b,s_f23_l1_b,aa,bl,i64,reduceIte,reduceCtorEq,Nat.reduceEqDiff,Nat.reduceLT,Nat.reduceLeDiff,Nat.reduceBEq,Nat.reduceAdd,fillA,splice,Nat.reduceMul,amY,op_eqP,hlt',ha1,ha2,hwp,hb1,hb2,heq,hw2,trim_same rfl]
      exact q
     ·have hl2:k+1+(chg x r).length=k+(x :: chg x r).length:=by simp;omega
      have hl3:l.take (k+1) ++ chg x r=l.take k ++ x :: chg x r:=by
       rw [List.take_succ_eq_append_getElem (by omega),List.append_assoc]
       have:l[k]=x:=by have:=List.getElem?_eq_getElem (l:=l) (i:=k) (by omega);rw [hx] at this;injection this with h;exact h.symm
       rw [this];rfl
      rw [hl2] at q1 q3
      rw [hl3] at q3
      refine .inr ⟨c',?_,q2,q3⟩
      rw [itW_step]
      simp only [a_f23,s_f23_l0_b,s_f23_l1_b,aa,bl,i64,reduceIte,reduceCtorEq,Nat.reduceEqDiff,Nat.reduceLT,Nat.reduceLeDiff,Nat.reduceBEq,Nat.reduceAdd,fillA,splice,Nat.reduceMul,amY,op_eqP,hlt',ha1,ha2,hwp,hb1,hb2,heq,hw2,trim_same rfl]
      exact q1
end Go.Proofs.Ytgimjihhlhjejaa
set_option maxRecDepth 100000
namespace Go.Proofs.Ytgimjihhlhjejaa
open Go.AM
theorem map_get {l:List Int} {j:Nat} (hj:j < l.length):(l.map iV)[j]?=some (iV (l.getD j 0)):=by
 rw [List.getElem?_map,List.getElem?_eq_getElem hj]
 simp [List.getD,List.getElem?_eq_getElem hj]
theorem compact_own {CT:Nat→Option CFun} (hT:CT k_f23=some (.code s_f23)) (base m:Nat) (H:Heap) (v:V) (l:List Int) (hv:OwnN m H v (l.map iV)) (hb:base≤m) (hn:l.length < 2 ^ 62):
 ∃ v' H',callW CT (.fn k_f23 [] []) [v] base H=some (v',H')∧OwnN m H' v' ((compactZ l).map iV)∧∀ H0,H0.length≤m→Ext H0 H→Ext H0 H':=by
 by_cases h2:l.length < 2
 ·refine ⟨v,H,?_,?_,fun _ _ h=>h⟩
  ·refine callW_fn (c:=s_f23) hT (by simp [s_f23]) ?_
   have h2':((l.length:Nat):Int) < 2:=by omega
   simp only [s_f23,a_f23,s_f23_l0_b,s_f23_l1_b,aa,bl,i64,reduceIte,reduceCtorEq,Nat.reduceEqDiff,Nat.reduceLT,Nat.reduceLeDiff,Nat.reduceBEq,Nat.reduceAdd,fillA,splice,Nat.reduceMul,amY,op_eqP,hv.rd.len,List.length_map,h2']
  ·match l,h2 with
   | [],_=>exact hv
   | [x],_=>exact hv
 ·rcases hv with ⟨h,_⟩ | ⟨id,g,c,rfl,hc,hl,ht,hid⟩
  ·have:=congrArg List.length h
   simp at this
   subst this
   simp at h2
  ·rw [List.length_map] at hl ht ⊢
   have hr:∀ j,j < l.length→c[j]?=some (iV (l.getD j 0)):=fun j hj=>by
    rw [← map_get hj,← ht,List.getElem?_take_of_lt hj]
   have hlt:=getC_lt hc
   match l,h2,hr,hl,ht,hn with
   | [],h2,_,_,_,_=>simp at h2
   | x :: r,h2,hr,hl,ht,hn=>
     have ho:=compact_outer (callW CT) base id g (x :: r).length (x :: r) rfl (by omega) hn H hlt c hl hc hr r 1 rfl (Nat.le_refl _) (by simp)
     have e0:(x :: r).getD (1 - 1) 0=x:=rfl
     rw [e0] at ho
     have c1:((1:Nat):Int)=1:=rfl
     rw [c1,List.length_cons] at ho
     have h2':¬ ((r.length+1:Nat):Int) < 2:=by simp at h2;omega
     rcases ho with ⟨q,hq⟩ | ⟨c',q,q2,q3⟩
     ·refine ⟨.sl id g 0 (x :: r).length 1,H,?_,?_,fun _ _ h=>h⟩
      ·refine callW_fn (c:=s_f23) hT (by simp [s_f23]) ?_
       simp only [s_f23,a_f23,s_f23_l0_b,s_f23_l1_b,aa,bl,i64,reduceIte,reduceCtorEq,Nat.reduceEqDiff,Nat.reduceLT,Nat.reduceLeDiff,Nat.reduceBEq,Nat.reduceAdd,fillA,splice,Nat.reduceMul,amY,op_eqP,h2',q]
      ·rw [show compactZ (x :: r)=x :: r by simp only [compactZ,hq]]
       exact .inr ⟨id,g,c,by rw [List.length_map],hc,by rw [List.length_map];exact hl,by rw [List.length_map];exact ht,hid⟩
     ·refine ⟨.sl id g 0 (1+(chg x r).length) 1,H.set id (.cells g c'),?_,?_,fun H0 h0 h=>h.set (by omega) _⟩
      ·refine callW_fn (c:=s_f23) hT (by simp [s_f23]) ?_
       simp only [s_f23,a_f23,s_f23_l0_b,s_f23_l1_b,aa,bl,i64,reduceIte,reduceCtorEq,Nat.reduceEqDiff,Nat.reduceLT,Nat.reduceLeDiff,Nat.reduceBEq,Nat.reduceAdd,fillA,splice,Nat.reduceMul,amY,op_eqP,h2',q]
      ·have hcl:=chg_len r x
       refine .inr ⟨id,g,c',?_,getC_put hc,?_,?_,hid⟩
       ·simp [compactZ];omega
       ·simp [compactZ] at hl ⊢;omega
       ·have:((compactZ (x :: r)).map iV).length=1+(chg x r).length:=by simp [compactZ];omega
        rw [this,q3];rfl
theorem sort_own {CT:Nat→Option CFun} (hT:CT k_f22=some (.prim sortG)) (base m:Nat) (H:Heap) (v:V) (l:List Int) (hv:OwnN m H v (l.map iV)) (hb:base≤m) (hn:l.length < 2 ^ 62):
 ∃ H',callW CT (.fn k_f22 [] []) [v] base H=some (und,H')∧OwnN m H' v ((sortZ l).map iV)∧∀ H0,H0.length≤m→Ext H0 H→Ext H0 H':=by
 have hp:∀ r,sortG [v] base H=some r→callW CT (.fn k_f22 [] []) [v] base H=some r:=fun r hr=>callW_eq (by simp only [evCall,hT,List.nil_append,List.append_nil];exact hr)
 have hsl:(sortZ l).length=l.length:=by rw [sortZ,List.length_mergeSort]
 have hnil:l=[]→sortZ l=[]:=fun h=>by subst h;simp [sortZ]
 rcases hv with ⟨h,hv⟩ | ⟨id,g,c,rfl,hc,hl,ht,hid⟩
 ·have h':l=[]:=by simpa using h
  refine ⟨H,hp _ ?_,.inl ⟨by rw [hnil h'];rfl,hv⟩,fun _ _ h=>h⟩
  rcases hv with rfl | rfl <;> rfl
 ·rw [List.length_map] at hl ht
  by_cases h0:l.length=0
  ·have h':l=[]:=List.eq_nil_of_length_eq_zero h0
   refine ⟨H,hp _ ?_,.inr ⟨id,g,c,by simp [hsl],hc,by simp [hsl];exact hl,by simp [hnil h'],hid⟩,fun _ _ h=>h⟩
   simp only [sortG,List.length_map,h0,if_true]
  ·refine ⟨H.set id (.cells g (splice c 0 ((sortZ l).map iV))),hp _ ?_,.inr ⟨id,g,_,by simp [hsl],getC_put hc,?_,?_,hid⟩,fun H0 h0 h=>h.set (by omega) _⟩
   ·have h1:base≤id∧1=1∧l.length < 4611686018427387904:=⟨by omega,rfl,hn⟩
    have h3:0+l.length≤c.length:=by omega
    simp only [sortG,List.length_map,h0,if_false,h1,and_self,if_true,hc,List.drop_zero,ht,intsOf_map,h3]
   ·simp [splice,hsl]
   ·simp [splice,hsl]
end Go.Proofs.Ytgimjihhlhjejaa
set_option maxRecDepth 100000
namespace Go.Proofs.Ytgimjihhlhjejaa
open Go.AM
def New (m:Nat) (H:Heap) (v:V) (l:List Int):Prop:=(l=[]∧(v=nilS∨v=.esl))∨∃ id,v=.sl id 0 0 l.length 1∧getC H id 0=some (l.map iV)∧m≤id
def pV (p:Int→Bool):V→Bool
 | .s (.int _ k)=>p k
 | _=>false
theorem filter_iV (p:Int→Bool) (l:List Int):(l.map iV).filter (fun x=>!pV p x)=(l.filter fun k=>!p k).map iV:=by
 rw [List.filter_map];rfl
theorem delete_own {CT:Nat→Option CFun} (hT:CT k_f47=some (.code s_f47)) (hT2:CT k_f60=some (.code s_f60))
 (base m:Nat) (H:Heap) (f v:V) (l:List Int) (hv:New m H v l) (hb:base≤m) (hn:l.length < 2 ^ 62) (p:Int→Bool)
 (hp:∀ H' k,(∀ i,i < m→H'[i]?=H[i]?)→callW CT f [iV k] base H'=some (.s (.bool (p k)),H')):
 ∃ v' H',callW CT (.fn k_f47 [] []) [v,f] base H=some (v',H')∧OwnN m H' v' ((l.filter fun k=>!p k).map iV)∧∀ H0,H0.length≤m→Ext H0 H→Ext H0 H':=by
 rcases hv with ⟨rfl,hv⟩ | ⟨id,rfl,hc,hid⟩
 ·have hrd:Rd H v []:=by rcases hv with rfl | rfl <;> first | exact Rd.nil H | exact Rd.esl H
  have hw:Wide1 v:=by rcases hv with rfl | rfl <;> trivial
  have hix:=index_fun hT2 base H v f [] hrd hw (by simp) (fun _=>false) (fun x hx=>absurd hx List.not_mem_nil)
  refine ⟨v,H,?_,.inl ⟨rfl,hv⟩,fun _ _ h=>h⟩
  refine callW_fn (c:=s_f47) hT (by simp [s_f47]) ?_
  simp only [idx] at hix
  simp only [s_f47,a_f47,s_f47_l0_b,aa,bl,i64,reduceIte,reduceCtorEq,Nat.reduceEqDiff,Nat.reduceLT,Nat.reduceLeDiff,Nat.reduceBEq,Nat.reduceAdd,fillA,splice,Nat.reduceMul,amY,op_eqP,hix,idxV]
 ·obtain ⟨c',q1,q2,q3⟩:=delete_fun hT hT2 base H f id 0 l.length (l.map iV) hc (by simp) (fun x=>∃ k,x=iV k) (by rintro _ ⟨k,rfl⟩;rfl) (by intro x hx;obtain ⟨k,_,rfl⟩:=List.mem_map.1 hx;exact ⟨k,rfl⟩) (by omega) hn (pV p)
   (by
    rintro _ ⟨k,rfl⟩ c _
    exact hp _ k fun i hi=>by rw [List.getElem?_set_ne (by omega)])
  rw [filter_iV] at q1 q3
  have hfl:=List.length_filter_le (fun k=>!p k) l
  exact ⟨_,_,q1,.inr ⟨id,0,c',rfl,getC_put hc,by rw [List.length_map];omega,q3,hid⟩,fun H0 h0 h=>h.set (by omega) _⟩
def outR (n:Int) (k:Int):Bool:=decide (k < 0) || decide (k ≥ n)
def normR (n:Int) (r:List Int):List Int:=compactZ (sortZ (r.filter fun k=>!outR n k))
def normG (G:List (List Int)):List (List Int):=G.map (normR G.length)
def rowsV (G:List (List Int)):List (List V):=G.map (·.map iV)
theorem rowsV_get {G:List (List Int)} {i:Nat} {r:List Int} (h:G[i]?=some r):(rowsV G)[i]?=some (r.map iV):=by rw [rowsV,List.getElem?_map,h];rfl
theorem rowsV_len (G:List (List Int)):(rowsV G).length=G.length:=by simp [rowsV]
theorem norm_loop {CT:Nat→Option CFun} (hC:CT k_f48=some (.code s_f48)) (hD:CT k_f47=some (.code s_f47)) (hI:CT k_f60=some (.code s_f60)) (hS:CT k_f22=some (.prim sortG)) (hK:CT k_f23=some (.code s_f23)) (hN:CT k_f49=some (.code s_f49))
 (base:Nat) (v:V) (G:List (List Int)) (bx id L:Nat) (H0:Heap) (hv:RdRows H0 v (rowsV G)) (hb:base≤H0.length) (hn:G.length < 2 ^ 40) (hr:∀ r∈G,r.length < 2 ^ 40) (h1:H0.length≤bx) (h2:bx < id) (h3:id < L):
 ∀ (k i:Nat) (H:Heap) (vs:List V),i+k=G.length→Ext H0 H→L≤H.length→getC H bx 0=some [v]→getC H id 0=some vs→vs.length=G.length→(∀ (j:Nat) (r:List Int),j < i→G[j]?=some r→∃ x,vs[j]?=some x∧OwnN (id+1) H x ((normR G.length r).map iV))→
 ∃ H' vs',itW (evC (callW CT) itW base s_f31_l0) [] L (frOf 30 [(1,.ref bx 0 0),(3,.sl id 0 0 G.length 1),(10,v),(11,.s (.int .i64 G.length)),(12,.s (.int .i64 i))]) H=
   some (.ext 0,frOf 30 [(1,.ref bx 0 0),(3,.sl id 0 0 G.length 1),(10,v),(11,.s (.int .i64 G.length)),(12,.s (.int .i64 G.length)),(13,.s (.bool false))],H')∧
   Ext H0 H'∧getC H' id 0=some vs'∧vs'.length=G.length∧(∀ (j:Nat) (r:List Int),G[j]?=some r→∃ x,vs'[j]?=some x∧OwnN (id+1) H' x ((normR G.length r).map iV)):=by
 intro k
 induction k with
 | zero=>
   intro i H vs hi he hL hbx hid hlen hrows
   obtain rfl:i=G.length:=by omega
   refine ⟨trim L (frOf 30 [(1,.ref bx 0 0),(3,.sl id 0 0 G.length 1),(10,v),(11,.s (.int .i64 G.length)),(12,.s (.int .i64 G.length)),(13,.s (.bool false))]) H,vs,?_,he.trim (by omega) _,trim_get hid h3,hlen,fun j r hj=>?_⟩
   ·rw [itW_step]
    simp only [a_f31,s_f31_l0_b,aa,bl,i64,reduceIte,reduceCtorEq,Nat.reduceEqDiff,Nat.reduceLT,Nat.reduceLeDiff,Nat.reduceBEq,Nat.reduceAdd,fillA,splice,Nat.reduceMul,amY,op_eqP,Int.lt_irrefl]
   ·obtain ⟨x,q1,q2⟩:=hrows j r (List.getElem?_eq_some_iff.1 hj).1 hj
    exact ⟨x,q1,q2.trim hid h3 (List.mem_of_getElem? q1) _⟩
 | succ k ih=>
   intro i H vs hi he hL hbx hid hlen hrows
   have hig:G[i]?=some G[i]:=List.getElem?_eq_getElem (by omega)
   have hrl:=hr _ (List.getElem_mem (by omega:i < G.length))
   have hH0:=he.le
   obtain ⟨a,x,ha1,ha2,hx,hxw⟩:=(hv.ext he).at (rowsV_get hig)
   obtain ⟨r1,H1,q1,e1,o1⟩:=clone_fun hC base H x G[i] hx (by omega)
   have hnew:New H.length H1 r1 G[i]:=o1
   have hiH:id < H.length:=getC_lt hid
   obtain ⟨v2,H2,q2,o2,e2⟩:=delete_own hD hI base H.length H1 (.fn k_f49 [] [.ref bx 0 0]) r1 G[i] hnew (by omega) (by omega) (outR G.length) (by
    intro H' k hk
    have hk':∀ i,i < H.length→H'[i]?=H[i]?:=fun i hi=>by rw [hk i hi,e1.get hi]
    have hbx':getC H' bx 0=some [v]:=by rw [← hbx];simp only [getC,hk' bx (by omega)]
    have heH:Ext H0 H':=Ext.of_get (by
     refine Nat.le_of_not_lt fun hlt=>?_
     have h1:=hk' H'.length (by omega)
     rw [List.getElem?_eq_none (Nat.le_refl _),List.getElem?_eq_getElem (by omega)] at h1
     cases h1) (fun i hi=>by rw [hk' i (by omega),he.get hi])
    exact norm1_fun hN base H' bx v hbx' G.length (by rw [← rowsV_len G];exact (hv.ext heH).len) k)
   have e2':=e2 H (Nat.le_refl _) e1
   have hfl:=List.length_filter_le (fun k=>!outR G.length k) G[i]
   obtain ⟨H3,q3,o3,e3⟩:=sort_own hS base H.length H2 v2 _ o2 (by omega) (by omega)
   have e3':=e3 H (Nat.le_refl _) e2'
   have hsl:(sortZ (G[i].filter fun k=>!outR G.length k)).length=(G[i].filter fun k=>!outR G.length k).length:=by rw [sortZ,List.length_mergeSort]
   obtain ⟨v4,H4,q4,o4,e4⟩:=compact_own hK base H.length H3 v2 _ o3 (by omega) (by omega)
   have e4':=e4 H (Nat.le_refl _) e3'
   have hid4:=getC_ext hid e4'
   have hst:=storeV_at (v:=v4) hid4 (by omega) o4.one (off:=i) (base:=base) (by omega)
   have hw:=wrap_pos (n:=i) (by omega)
   have hlt':(i:Int) < (G.length:Int):=by omega
   have hid5:=getC_put (c':=vs.set i v4) hid4
   obtain ⟨H',vs',p1,p2,p3,p4,p5⟩:=ih (i+1) (trim L (frOf 30 [(1,.ref bx 0 0),(3,.sl id 0 0 G.length 1),(10,v),(11,.s (.int .i64 G.length)),(12,.s (.int .i64 ((i+1:Nat):Int)))]) (H4.set id (.cells 0 (vs.set i v4)))) (vs.set i v4) (by omega) (((he.trans e4').set (by omega) _).trim (by omega) _) (trim_le (by rw [List.length_set];have:=e4'.le;omega)) (trim_get (by rw [getC_other (by omega)];exact getC_ext hbx e4') (by omega)) (trim_get hid5 h3) (by rw [List.length_set];exact hlen) (by
    intro j r hj hr
    by_cases hji:j=i
    ·subst hji
     rw [hig] at hr
     cases hr
     have hg:(vs.set j v4)[j]?=some v4:=by rw [List.getElem?_set_self (by omega)]
     exact ⟨v4,hg,((o4.mono (by omega:id+1≤H.length)).set (by omega) _).trim hid5 h3 (List.mem_of_getElem? hg) _⟩
    ·obtain ⟨x,q1,q2⟩:=hrows j r (by omega) hr
     have hg:(vs.set i v4)[j]?=some x:=by rw [List.getElem?_set_ne (by omega)];exact q1
     exact ⟨x,hg,((q2.ext e4').set (by omega) _).trim hid5 h3 (List.mem_of_getElem? hg) _⟩)
   refine ⟨H',vs',?_,p2,p3,p4,p5⟩
   rw [itW_step]
   simp only [a_f31,s_f31_l0_b,aa,bl,i64,reduceIte,reduceCtorEq,Nat.reduceEqDiff,Nat.reduceLT,Nat.reduceLeDiff,Nat.reduceBEq,Nat.reduceAdd,fillA,splice,Nat.reduceMul,amY,op_eqP,hlt',ha1,ha2,q1,q2,q3,q4,hst,hw,xsub_mkFn]
   exact p1
theorem norm_fun {CT:Nat→Option CFun} (hT:CT k_f31=some (.code s_f31)) (hC:CT k_f48=some (.code s_f48)) (hD:CT k_f47=some (.code s_f47)) (hI:CT k_f60=some (.code s_f60)) (hS:CT k_f22=some (.prim sortG)) (hK:CT k_f23=some (.code s_f23)) (hN:CT k_f49=some (.code s_f49))
 (base:Nat) (H:Heap) (v:V) (G:List (List Int)) (hv:RdRows H v (rowsV G)) (hb:base≤H.length) (hn:G.length < 2 ^ 40) (hr:∀ r∈G,r.length < 2 ^ 40):
 ∃ v' H',callW CT (.fn k_f31 [] []) [v] base H=some (v',H')∧Ext H H'∧OwnRows H.length H' v' (rowsV (normG G)):=by
 have hone:v.one=true:=by obtain ⟨vs,h,_⟩:=hv;exact h.one
 have hlen:xLen (H ++ [.cells 0 [v]]) .s v=some (.s (.int .i64 G.length)):=by rw [← rowsV_len G];exact (hv.ext (Ext.app _ _)).len
 have hlen2:xLen (H ++ [.cells 0 [v]] ++ [.cells 0 (List.replicate G.length [nilS]).flatten]) .s v=some (.s (.int .i64 G.length)):=by rw [← rowsV_len G];exact ((hv.ext (Ext.app _ _)).ext (Ext.app _ _)).len
 have hmk:=make_n (H:=H ++ [.cells 0 [v]]) (zero:=[nilS]) (sz:=1) (bytes:=24) (k:=.i64) (k':=.i64) (n:=G.length) (by omega)
 obtain ⟨H',vs,p1,p2,p3,p4,p5⟩:=norm_loop hC hD hI hS hK hN base v G H.length (H.length+1) (H.length+2) H hv hb hn hr (Nat.le_refl _) (by omega) (by omega) G.length 0 (H ++ [.cells 0 [v]] ++ [.cells 0 (List.replicate G.length [nilS]).flatten]) (List.replicate G.length nilS) (by omega) ⟨[.cells 0 [v],.cells 0 (List.replicate G.length [nilS]).flatten],by simp⟩ (by simp) (by simp [getC]) (by rw [flat_one];simp [getC]) (by simp) (fun j r hj=>by omega)
 rw [cast0] at p1
 simp only [nilS] at hmk p1 hlen2
 refine ⟨.sl (H.length+1) 0 0 G.length 1,H',callW_fnA (c:=s_f31) (k:=1) hT rfl (by decide) s_f31_first ?_,p2,H.length+1,0,vs,by rw [rowsV_len];simp [normG],p3,by omega,by rw [rowsV_len];simp [normG,p4],?_⟩
 ·simp only [s_f31,a_f31,s_f31_l0_b,aa,bl,i64,reduceIte,reduceCtorEq,Nat.reduceEqDiff,Nat.reduceLT,Nat.reduceLeDiff,Nat.reduceBEq,Nat.reduceAdd,fillA,splice,Nat.reduceMul,amY,op_eqP,cells_of_one hone,hone,hlen,hlen2,op_mkSl,hmk,p1]
 ·intro j r hj
  rw [rowsV,normG,List.map_map,List.getElem?_map,Option.map_eq_some_iff] at hj
  obtain ⟨g,hg,rfl⟩:=hj
  exact p5 j g hg
end Go.Proofs.Ytgimjihhlhjejaa
set_option maxRecDepth 100000
namespace Go.Proofs.Ytgimjihhlhjejaa
open Go.AM
def bump (i:Int) (R:List (List Int)) (k:Int):List (List Int):=R.set k.toNat (R.getD k.toNat [] ++ [i])
theorem bump_len (i:Int) (R:List (List Int)) (k:Int):(bump i R k).length=R.length:=by simp [bump]
theorem bumps_len (i:Int) (r:List Int):∀ R:List (List Int),(r.foldl (bump i) R).length=R.length:=by
 induction r with
 | nil=>intro R;rfl
 | cons x r ih=>intro R;rw [List.foldl_cons,ih,bump_len]
theorem bump_le {i:Int} {R:List (List Int)} {k:Int} {B:Nat} (h:∀ q∈R,q.length+1≤B) (hk:k.toNat < R.length):∀ q∈bump i R k,q.length≤B:=by
 intro q hq
 rcases List.mem_or_eq_of_mem_set hq with h1 | rfl
 ·have:=h q h1;omega
 ·have:R.getD k.toNat []∈R:=by rw [List.getD,List.getElem?_eq_getElem hk];exact List.getElem_mem hk
  have:=h _ this
  simp only [List.length_append,List.length_singleton];omega
theorem rowsV_set (R:List (List Int)) (k:Nat) (r:List Int) (i:Int):rowsV (R.set k (r ++ [i]))=(rowsV R).set k (r.map iV ++ [iV i]):=by
 simp [rowsV,List.map_set]
theorem back_inner (call:CallF) (base i n o m L:Nat) (nv row:V) (r:List Int) (A:Heap) (hA:A.length=m) (ho:o < m) (hb:base≤o) (hL:m≤L) (hrow:∀ ob,Rd (A.set o ob) row (r.map iV)) (hw:Wide1 row) (hin:∀ x∈r,0≤x∧x < n) (hr:r.length < 2 ^ 40) (hn:n < 2 ^ 40):
 ∀ (rest:List Int) (k:Nat) (H:Heap) (vs:List V) (R:List (List Int)),r.drop k=rest→k≤r.length→L≤H.length→Ext (A.set o (.cells 0 vs)) H→getC H o 0=some vs→Bag m H vs (rowsV R)→R.length=n→(∀ q∈R,q.length+rest.length≤2 ^ 43)→
 ∃ H' vs',itW (evC call itW base s_f24_l0) [] L (frOf 38 [(3,.sl o 0 0 n 1),(4,.s (.int .i64 i)),(12,nv),(13,.s (.int .i64 n)),(14,.s (.int .i64 i)),(19,row),(20,.s (.int .i64 r.length)),(21,.s (.int .i64 k))]) H=
   some (.ext 2,frOf 38 [(3,.sl o 0 0 n 1),(4,.s (.int .i64 i)),(12,nv),(13,.s (.int .i64 n)),(14,.s (.int .i64 i)),(19,row),(20,.s (.int .i64 r.length)),(21,.s (.int .i64 r.length)),(22,.s (.bool false))],H')∧
   L≤H'.length∧Ext (A.set o (.cells 0 vs')) H'∧getC H' o 0=some vs'∧Bag m H' vs' (rowsV (rest.foldl (bump i) R)):=by
 intro rest
 induction rest with
 | nil=>
   intro k H vs R hd hk hLH he hc hB hR hq
   have hkr:k=r.length:=by
    have:=congrArg List.length hd
    simp at this
    omega
   subst hkr
   refine ⟨trim L (frOf 38 [(3,.sl o 0 0 n 1),(4,.s (.int .i64 i)),(12,nv),(13,.s (.int .i64 n)),(14,.s (.int .i64 i)),(19,row),(20,.s (.int .i64 r.length)),(21,.s (.int .i64 r.length)),(22,.s (.bool false))]) H,vs,?_,trim_le hLH,he.trim (by rw [List.length_set];omega) _,trim_get hc (by omega),hB.trim hc (by omega) _⟩
   rw [itW_step]
   simp only [a_f24,s_f24_l0_b,s_f24_l1_b,aa,bl,i64,reduceIte,reduceCtorEq,Nat.reduceEqDiff,Nat.reduceLT,Nat.reduceLeDiff,Nat.reduceBEq,Nat.reduceAdd,fillA,splice,Nat.reduceMul,amY,op_eqP,Int.lt_irrefl]
 | cons x rest ih=>
   intro k H vs R hd hk hLH he hc hB hR hq
   have hx:r[k]?=some x:=by have:=congrArg (·[0]?) hd;simp only [List.getElem?_drop] at this;exact this
   have hlt:k < r.length:=(List.getElem?_eq_some_iff.1 hx).1
   have hd':r.drop (k+1)=rest:=by rw [← List.drop_drop,hd];rfl
   obtain ⟨hx0,hxn⟩:=hin x (List.mem_of_getElem? hx)
   obtain ⟨j,rfl⟩:=Int.eq_ofNat_of_zero_le hx0
   have hjn:j < n:=by omega
   have hRj:R[j]?=some (R.getD j []):=by rw [List.getD,List.getElem?_eq_getElem (by omega)];rfl
   obtain ⟨a,ha1,ha2⟩:=((hrow _).ext he).at' hw (i:=k) (x:=iV j) (by rw [List.getElem?_map,hx];rfl)
   have hmem:R.getD j []∈R:=List.mem_of_getElem? hRj
   have hqj:=hq _ hmem
   rw [List.length_cons] at hqj
   have hAH:=he.le
   rw [List.length_set] at hAH
   obtain ⟨w,v',H1,hw1,happ,hv1,hc1,hm1,hB1,hE1⟩:=hB.append (base:=base) (bytes:=8) (x:=iV i) hc ho (by omega) (by omega) (rowsV_get hRj) rfl (by rw [List.length_map];omega)
   obtain ⟨hb1,hb2⟩:=at_sl hc hjn hw1
   have hst:=storeV_at (v:=v') (base:=base) hc1 hb hv1 (off:=j) (by rw [hB.1,rowsV_len];omega)
   have hwk:=wrap_pos (n:=k) (by omega)
   have hlt':(k:Int) < (r.length:Int):=by omega
   have hjn':(j:Int) < (n:Int):=by omega
   have he1:=hE1 _ (by rw [List.length_set];omega) he
   have he2:=he1.set_both (o:=o) (by rw [List.length_set];omega) (.cells 0 (vs.set j v'))
   rw [List.set_set] at he2
   have hc2:=getC_put (c':=vs.set j v') hc1
   rw [← rowsV_set] at hB1
   obtain ⟨H',vs',p1,p2,p3,p4,p5⟩:=ih (k+1) (trim L (frOf 38 [(3,.sl o 0 0 n 1),(4,.s (.int .i64 i)),(12,nv),(13,.s (.int .i64 n)),(14,.s (.int .i64 i)),(19,row),(20,.s (.int .i64 r.length)),(21,.s (.int .i64 ((k+1:Nat):Int)))]) (H1.set o (.cells 0 (vs.set j v')))) (vs.set j v') (bump i R j) hd' (by omega) (trim_le (by rw [List.length_set];omega)) (he2.trim (by rw [List.length_set];omega) _) (trim_get hc2 (by omega)) (hB1.trim hc2 (by omega) _) (by rw [bump_len];exact hR) (by
    intro q hqm
    have:=bump_le (i:=i) (R:=R) (k:=j) (B:=2 ^ 43 - rest.length) (fun q hq1=>by have:=hq q hq1;rw [List.length_cons] at this;omega) (by rw [Int.toNat_natCast];omega) q hqm
    omega)
   refine ⟨H',vs',?_,p2,p3,p4,p5⟩
   unfold iV at ha2 happ
   rw [itW_step]
   simp only [a_f24,s_f24_l0_b,s_f24_l1_b,aa,bl,i64,reduceIte,reduceCtorEq,Nat.reduceEqDiff,Nat.reduceLT,Nat.reduceLeDiff,Nat.reduceBEq,Nat.reduceAdd,fillA,splice,Nat.reduceMul,amY,op_eqP,hlt',hwk,ha1,ha2,hb1,hb2,hjn',happ,hst]
   exact p1
def backFrom:Nat→List (List Int)→List (List Int)→List (List Int)
 | _,[],R=>R
 | i,r :: N,R=>backFrom (i+1) N (r.foldl (bump i) R)
def sumLen:List (List Int)→Nat
 | []=>0
 | r :: N=>r.length+sumLen N
theorem bumps_le (i:Int):∀ (r:List Int) (R:List (List Int)) (B:Nat),(∀ x∈r,0≤x∧x < R.length)→(∀ q∈R,q.length+r.length≤B)→∀ q∈r.foldl (bump i) R,q.length≤B:=by
 intro r
 induction r with
 | nil=>intro R B _ h q hq;exact h q hq
 | cons x r ih=>
   intro R B hx h q hq
   rw [List.foldl_cons] at hq
   have h0:=hx x List.mem_cons_self
   by_cases hB:r.length≤B
   ·refine ih (bump i R x) B (fun y hy=>by rw [bump_len];exact hx y (List.mem_cons_of_mem _ hy)) (fun q hq=>?_) q hq
    have:=bump_le (i:=i) (R:=R) (k:=x) (B:=B - r.length) (fun q hq=>by have:=h q hq;rw [List.length_cons] at this;omega) (by omega) q hq
    omega
   ·have:R.getD x.toNat []∈R:=by rw [List.getD,List.getElem?_eq_getElem (by omega)];exact List.getElem_mem (by omega)
    have:=h _ this
    rw [List.length_cons] at this
    omega
theorem back_outer (call:CallF) (base n o m L:Nat) (nv:V) (N:List (List Int)) (A:Heap) (hA:A.length=m) (ho:o < m) (hb:base≤o) (hL:m≤L) (hnv:OwnRows (o+1) A nv (rowsV N)) (hN:N.length=n) (hin:∀ r∈N,∀ x∈r,0≤x∧x < n) (hr:∀ r∈N,r.length < 2 ^ 40) (hn:n < 2 ^ 40):
 ∀ (rest:List (List Int)) (i:Nat) (H:Heap) (vs:List V) (R:List (List Int)),N.drop i=rest→i≤n→L≤H.length→Ext (A.set o (.cells 0 vs)) H→getC H o 0=some vs→Bag m H vs (rowsV R)→R.length=n→(∀ q∈R,q.length+sumLen rest≤2 ^ 43)→
 ∃ H' vs',itW (evC call itW base s_f24_l1) [] L (frOf 38 [(3,.sl o 0 0 n 1),(12,nv),(13,.s (.int .i64 n)),(14,.s (.int .i64 i))]) H=
   some (.ext 0,frOf 38 [(3,.sl o 0 0 n 1),(12,nv),(13,.s (.int .i64 n)),(14,.s (.int .i64 n)),(15,.s (.bool false))],H')∧
   L≤H'.length∧Ext (A.set o (.cells 0 vs')) H'∧getC H' o 0=some vs'∧Bag m H' vs' (rowsV (backFrom i rest R)):=by
 intro rest
 induction rest with
 | nil=>
   intro i H vs R hd hi hLH he hc hB hR hq
   have hin:i=n:=by
    have:=congrArg List.length hd
    simp at this
    omega
   subst hin
   refine ⟨trim L (frOf 38 [(3,.sl o 0 0 i 1),(12,nv),(13,.s (.int .i64 i)),(14,.s (.int .i64 i)),(15,.s (.bool false))]) H,vs,?_,trim_le hLH,he.trim (by rw [List.length_set];omega) _,trim_get hc (by omega),hB.trim hc (by omega) _⟩
   rw [itW_step]
   simp only [a_f24,s_f24_l0_b,s_f24_l1_b,aa,bl,i64,reduceIte,reduceCtorEq,Nat.reduceEqDiff,Nat.reduceLT,Nat.reduceLeDiff,Nat.reduceBEq,Nat.reduceAdd,fillA,splice,Nat.reduceMul,amY,op_eqP,Int.lt_irrefl]
 | cons r rest ih=>
   intro i H vs R hd hi hLH he hc hB hR hq
   have hx:N[i]?=some r:=by have:=congrArg (·[0]?) hd;simp only [List.getElem?_drop] at this;exact this
   have hlt:i < n:=by have:=(List.getElem?_eq_some_iff.1 hx).1;omega
   have hd':N.drop (i+1)=rest:=by rw [← List.drop_drop,hd];rfl
   have hmem:r∈N:=List.mem_of_getElem? hx
   obtain ⟨nid,ng,nvs,rfl,hnc,hnm,hnl,hnr⟩:=hnv
   obtain ⟨x,hx1,hx2⟩:=hnr i _ (rowsV_get hx)
   have hni:nid≠o:=by omega
   have hAH:=he.le
   rw [List.length_set] at hAH
   have hnc':getC H nid ng=some nvs:=getC_ext (by rw [getC_other hni];exact hnc) he
   obtain ⟨ha1,ha2⟩:=at_sl hnc' (n:=N.length) (by omega) hx1
   rw [hN] at ha1
   have hxl:xLen H .s x=some (.s (.int .i64 r.length)):=by
    have:=((hx2.set (by omega) (.cells 0 vs)).ext he).rd.len
    rwa [List.length_map] at this
   have hs:sumLen (r :: rest)=r.length+sumLen rest:=rfl
   obtain ⟨H1,vs1,p1,p2,p3,p4,p5⟩:=back_inner call base i n o m H.length (.sl nid ng 0 n 1) x r A hA ho hb (by omega) (fun ob=>(hx2.set (by omega) ob).rd) hx2.wide (hin r hmem) (hr r hmem) hn r 0 H vs R rfl (Nat.zero_le _) (Nat.le_refl _) he hc hB hR (fun q hqm=>by have:=hq q hqm;omega)
   rw [cast0] at p1
   have hw:=wrap_pos (n:=i) (by omega)
   have hlt':(i:Int) < (n:Int):=by omega
   obtain ⟨H',vs',q1,q2,q3,q4,q5⟩:=ih (i+1) (trim L (frOf 38 [(3,.sl o 0 0 n 1),(12,.sl nid ng 0 n 1),(13,.s (.int .i64 n)),(14,.s (.int .i64 ((i+1:Nat):Int)))]) H1) vs1 (r.foldl (bump i) R) hd' (by omega) (trim_le (by omega)) (p3.trim (by rw [List.length_set];omega) _) (trim_get p4 (by omega)) (p5.trim p4 (by omega) _) (by rw [bumps_len];exact hR) (fun q hqm=>by
    have:=bumps_le i r R (2 ^ 43 - sumLen rest) (fun x hx=>by rw [hR];exact hin r hmem x hx) (fun q hq1=>by have:=hq q hq1;omega) q hqm
    have h0:sumLen rest≤2 ^ 43:=by
     match R,hR with
     | [],h=>simp at h;omega
     | q0 :: _,_=>have:=hq q0 List.mem_cons_self;omega
    omega)
   refine ⟨H',vs',?_,q2,q3,q4,q5⟩
   rw [rowsV_len,hN] at *
   rw [itW_step]
   simp only [a_f24,s_f24_l0_b,s_f24_l1_b,aa,bl,i64,reduceIte,reduceCtorEq,Nat.reduceEqDiff,Nat.reduceLT,Nat.reduceLeDiff,Nat.reduceBEq,Nat.reduceAdd,fillA,splice,Nat.reduceMul,amY,op_eqP,hlt',hw,ha1,ha2,hxl,p1]
   exact q1
end Go.Proofs.Ytgimjihhlhjejaa
set_option maxRecDepth 100000
namespace Go.Proofs.Ytgimjihhlhjejaa
open Go.AM
structure CG (CT:Nat→Option CFun):Prop where
 norm:CT k_f31=some (.code s_f31)
 norm1:CT k_f49=some (.code s_f49)
 clone:CT k_f48=some (.code s_f48)
 del:CT k_f47=some (.code s_f47)
 idx:CT k_f60=some (.code s_f60)
 sort:CT k_f22=some (.prim sortG)
 comp:CT k_f23=some (.code s_f23)
 back:CT k_f24=some (.code s_f24)
theorem chg_mem:∀ (r:List Int) (p x:Int),x∈chg p r→x∈r:=by
 intro r
 induction r with
 | nil=>intro p x h;exact h
 | cons y r ih=>
   intro p x h
   simp only [chg] at h
   split at h
   ·exact List.mem_cons_of_mem _ (ih _ _ h)
   ·rcases List.mem_cons.1 h with rfl | h
    ·exact List.mem_cons_self
    ·exact List.mem_cons_of_mem _ (ih _ _ h)
theorem compactZ_mem {r:List Int} {x:Int} (h:x∈compactZ r):x∈r:=by
 cases r with
 | nil=>exact h
 | cons y r=>
   rcases List.mem_cons.1 h with rfl | h
   ·exact List.mem_cons_self
   ·exact List.mem_cons_of_mem _ (chg_mem _ _ _ h)
theorem compactZ_len (r:List Int):(compactZ r).length≤r.length:=by
 cases r with
 | nil=>exact Nat.le_refl _
 | cons y r=>have:=chg_len r y;simp only [compactZ,List.length_cons];omega
theorem normR_in {n:Nat} {r:List Int} {x:Int} (h:x∈normR n r):0≤x∧x < n:=by
 have:=compactZ_mem h
 rw [sortZ,List.mem_mergeSort,List.mem_filter] at this
 have:=this.2
 simp only [outR,ge_iff_le,Bool.not_or,Bool.and_eq_true,Bool.not_eq_true',decide_eq_false_iff_not,Int.not_lt,Int.not_le] at this
 exact this
theorem normR_len (n:Int) (r:List Int):(normR n r).length≤r.length:=by
 refine Nat.le_trans (compactZ_len _) ?_
 rw [sortZ,List.length_mergeSort]
 exact List.length_filter_le _ _
theorem normG_len (G:List (List Int)):(normG G).length=G.length:=by simp [normG]
theorem normG_in {G:List (List Int)} {r:List Int} (h:r∈normG G) {x:Int} (hx:x∈r):0≤x∧x < G.length:=by
 obtain ⟨g,_,rfl⟩:=List.mem_map.1 h
 exact normR_in hx
theorem normG_small {G:List (List Int)} {b:Nat} (hG:∀ r∈G,r.length < b):∀ r∈normG G,r.length < b:=by
 intro r hr
 obtain ⟨g,hg,rfl⟩:=List.mem_map.1 hr
 exact Nat.lt_of_le_of_lt (normR_len _ _) (hG g hg)
theorem sumLen_le {b:Nat}:∀ (N:List (List Int)),(∀ r∈N,r.length≤b)→sumLen N≤N.length * b:=by
 intro N
 induction N with
 | nil=>intro _;simp [sumLen]
 | cons r N ih=>
   intro h
   have h1:=h r List.mem_cons_self
   have h2:=ih fun r hr=>h r (List.mem_cons_of_mem _ hr)
   have:(N.length+1) * b=N.length * b+b:=Nat.succ_mul _ _
   simp only [sumLen,List.length_cons]
   omega
def backG (G:List (List Int)):List (List Int):=backFrom 0 (normG G) (List.replicate G.length [])
theorem backFrom_len:∀ (N:List (List Int)) (i:Nat) (R:List (List Int)),(backFrom i N R).length=R.length:=by
 intro N
 induction N with
 | nil=>intro i R;rfl
 | cons r N ih=>intro i R;rw [backFrom,ih,bumps_len]
theorem backG_len (G:List (List Int)):(backG G).length=G.length:=by rw [backG,backFrom_len,List.length_replicate]
theorem norm_f {CT:Nat→Option CFun} (h:CG CT) (base:Nat) (H:Heap) (v:V) (G:List (List Int)) (hv:RdRows H v (rowsV G)) (hb:base≤H.length) (hn:G.length < 2 ^ 40) (hr:∀ r∈G,r.length < 2 ^ 40):
 ∃ v' H',callW CT (.fn k_f31 [] []) [v] base H=some (v',H')∧Ext H H'∧OwnRows H.length H' v' (rowsV (normG G)):=norm_fun h.norm h.clone h.del h.idx h.sort h.comp h.norm1 base H v G hv hb hn hr
theorem back_f {CT:Nat→Option CFun} (h:CG CT) (base:Nat) (H:Heap) (v:V) (G:List (List Int)) (hv:RdRows H v (rowsV G)) (hb:base≤H.length) (hn:G.length < 2 ^ 20) (hr:∀ r∈G,r.length < 2 ^ 20):
 ∃ v' H',callW CT (.fn k_f24 [] []) [v] base H=some (v',H')∧Ext H H'∧RdRows H' v' (rowsV (backG G))∧∃ vs m,H.length < m∧m≤H'.length∧v'=.sl H.length 0 0 G.length 1∧getC H' H.length 0=some vs∧Bag m H' vs (rowsV (backG G)):=by
 have hlen:xLen H .s v=some (.s (.int .i64 G.length)):=by rw [← rowsV_len G];exact hv.len
 have hmk:=make_n (H:=H) (zero:=[nilS]) (sz:=1) (bytes:=24) (k:=.i64) (k':=.i64) (n:=G.length) (by omega)
 rw [flat_one] at hmk
 obtain ⟨nv,A,p1,p2,p3⟩:=norm_f h base (H ++ [.cells 0 (List.replicate G.length nilS)]) v G (hv.ext (Ext.app _ _)) (by simp;omega) (by omega) (fun r hr'=>by have:=hr r hr';omega)
 have hAl:=p2.le
 rw [len_snoc] at p3 hAl
 have hc:getC A H.length 0=some (List.replicate G.length nilS):=getC_ext (getC_new H 0 _) p2
 have hN:=normG_len G
 obtain ⟨H',vs',q1,q2,q3,q4,q5⟩:=back_outer (callW CT) base G.length H.length A.length A.length nv (normG G) A rfl (by omega) hb (Nat.le_refl _) p3 hN (fun r hr' x hx=>normG_in hr' hx) (fun r hr'=>Nat.lt_of_lt_of_le (normG_small hr r hr') (by omega)) (by omega) (normG G) 0 A (List.replicate G.length nilS) (List.replicate G.length []) rfl (Nat.zero_le _) (Nat.le_refl _) (by rw [getC_same hc];exact Ext.refl A) hc (by have:=Bag.start A.length A G.length;rwa [show rowsV (List.replicate G.length [])=List.replicate G.length [] by simp [rowsV]]) (by simp) (fun q hq=>by
  rw [List.mem_replicate] at hq
  rw [hq.2]
  have:=sumLen_le (b:=2 ^ 20) (normG G) (fun r hr'=>Nat.le_of_lt (normG_small hr r hr'))
  rw [hN] at this
  have:G.length * 2 ^ 20≤2 ^ 20 * 2 ^ 20:=Nat.mul_le_mul_right _ (by omega)
  simp only [List.length_nil]
  omega)
 rw [cast0] at q1
 have hnl:xLen A .s nv=some (.s (.int .i64 G.length)):=by have:=p3.rd.len;rwa [rowsV_len,hN] at this
 refine ⟨.sl H.length 0 0 G.length 1,H',callW_fn (c:=s_f24) h.back (by simp [s_f24]) ?_,?_,?_,⟨vs',A.length,by omega,q2,rfl,q4,q5⟩⟩
 ·simp only [nilS] at hmk p1
  simp only [s_f24,a_f24,s_f24_l0_b,s_f24_l1_b,aa,bl,i64,reduceIte,reduceCtorEq,Nat.reduceEqDiff,Nat.reduceLT,Nat.reduceLeDiff,Nat.reduceBEq,Nat.reduceAdd,fillA,splice,Nat.reduceMul,amY,op_eqP,hlen,op_mkSl,hmk,p1,hnl,q1]
 ·have e0:Ext H (A.set H.length (.cells 0 vs')):=((Ext.app _ _).trans p2).set (Nat.le_refl _) _
  exact e0.trans q3
 ·have:=q5.rows q4
  rwa [rowsV_len,show (backFrom 0 (normG G) (List.replicate G.length [])).length=G.length from backG_len G] at this
end Go.Proofs.Ytgimjihhlhjejaa
set_option maxRecDepth 100000
namespace Go.Proofs.Ytgimjihhlhjejaa
open Go.AM
theorem drop_cons {α:Type} {l r:List α} {x:α} {k:Nat} (h:l.drop k=x :: r):l[k]?=some x∧k < l.length∧l.drop (k+1)=r:=by
 have hx:l[k]?=some x:=by have:=congrArg (·[0]?) h;simp only [List.getElem?_drop] at this;exact this
 exact ⟨hx,(List.getElem?_eq_some_iff.1 hx).1,by rw [← List.drop_drop,h];rfl⟩
theorem drop_nil {α:Type} {l:List α} {k:Nat} (h:l.drop k=[]) (hk:k≤l.length):k=l.length:=by
 have:=congrArg List.length h
 simp at this
 omega
theorem iV_len {H:Heap} {v:V} {l:List Int} (h:Rd H v (l.map iV)):xLen H .s v=some (.s (.int .i64 l.length)):=by have:=h.len;rwa [List.length_map] at this
end Go.Proofs.Ytgimjihhlhjejaa
set_option maxRecDepth 100000
namespace Go.Proofs.Ytgimjihhlhjejaa
open Go.AM
theorem rows_at {H:Heap} {v:V} {G:List (List Int)} (h:RdRows H v (rowsV G)) {k:Nat} {r:List Int} (hr:G[k]?=some r):∃ a x,xIndexAddr 1 v (.s (.int .i64 k))=some a∧xLoad H false 1 a=some x∧Rd H x (r.map iV)∧Wide1 x:=h.at (rowsV_get hr)
theorem rows_len {H:Heap} {v:V} {G:List (List Int)} (h:RdRows H v (rowsV G)):xLen H .s v=some (.s (.int .i64 G.length)):=by have:=h.len;rwa [rowsV_len] at this
end Go.Proofs.Ytgimjihhlhjejaa
set_option maxRecDepth 100000
namespace Go.Proofs.Ytgimjihhlhjejaa
open Go.AM
end Go.Proofs.Ytgimjihhlhjejaa
set_option maxRecDepth 100000
namespace Go.Proofs.Ytgimjihhlhjejaa
open Go.AM
end Go.Proofs.Ytgimjihhlhjejaa
set_option maxRecDepth 100000
namespace Go.Proofs.Ytgimjihhlhjejaa
open Go.AM
end Go.Proofs.Ytgimjihhlhjejaa
set_option maxRecDepth 100000
namespace Go.Proofs.Ytgimjihhlhjejaa
open Go.AM
def Up:List Int→Prop
 | []=>True
 | x :: r=>(∀ y∈r,x < y)∧Up r
theorem chg_up:∀ (r:List Int) (p:Int),(p :: r).Pairwise (·≤·)→Up (p :: chg p r)∧∀ x,x∈(p :: chg p r)↔x∈(p :: r):=by
 intro r
 induction r with
 | nil=>intro p _;exact ⟨⟨(fun y h=>absurd h List.not_mem_nil),trivial⟩,fun _=>Iff.rfl⟩
 | cons y r ih=>
   intro p h
   rw [List.pairwise_cons] at h
   obtain ⟨q1,q2⟩:=ih y h.2
   simp only [chg]
   split
   ·rename_i e
    have:y=p:=beq_iff_eq.1 e
    subst this
    refine ⟨q1,fun x=>?_⟩
    rw [q2 x]
    simp
   ·rename_i e
    have hne:y≠p:=by intro e2;exact e (beq_iff_eq.2 e2)
    have hlt:p < y:=by have:=h.1 y List.mem_cons_self;omega
    refine ⟨⟨fun z hz=>?_,q1⟩,fun x=>?_⟩
    ·rcases List.mem_cons.1 hz with rfl | hz
     ·exact hlt
     ·have:=q1.1 z hz;omega
    ·rw [List.mem_cons,q2 x,← List.mem_cons]
theorem normR_up (n:Int) (r:List Int):Up (normR n r)∧∀ x,x∈normR n r↔x∈r∧outR n x=false:=by
 have hs:(sortZ (r.filter fun k=>!outR n k)).Pairwise (·≤·):=by
  have:=List.pairwise_mergeSort (le:=fun x y:Int=>decide (x≤y)) (by intro a b c;simp only [decide_eq_true_eq];omega) (by intro a b;simp only [Bool.or_eq_true,decide_eq_true_eq];omega) (r.filter fun k=>!outR n k)
  simp only [decide_eq_true_eq] at this
  exact this
 have hm:∀ x,x∈sortZ (r.filter fun k=>!outR n k)↔x∈r∧outR n x=false:=fun x=>by
  rw [sortZ,List.mem_mergeSort,List.mem_filter];simp
 simp only [normR]
 cases hz:sortZ (r.filter fun k=>!outR n k) with
 | nil=>rw [hz] at hm;exact ⟨trivial,hm⟩
 | cons p l=>
   rw [hz] at hm hs
   obtain ⟨q1,q2⟩:=chg_up l p hs
   exact ⟨q1,fun x=>by rw [← hm x];exact q2 x⟩
end Go.Proofs.Ytgimjihhlhjejaa
set_option maxRecDepth 100000
namespace Go.Proofs.Ytgimjihhlhjejaa
open Go.AM
def Shape (m:Nat) (H:Heap) (v:V) (lens:List Nat):Prop:=∃ id g vs,v=.sl id g 0 lens.length 1∧getC H id g=some vs∧m≤id∧vs.length=lens.length∧
 ∀ (i len:Nat),lens[i]?=some len→∃ x,vs[i]?=some x∧((len=0∧(x=nilS∨x=.esl))∨∃ id' g' c,x=.sl id' g' 0 len 1∧getC H id' g'=some c∧len≤c.length∧id+1≤id')
theorem OwnRows.shape {m:Nat} {H:Heap} {v:V} {G:List (List Int)} (h:OwnRows m H v (rowsV G)):Shape m H v (G.map List.length):=by
 obtain ⟨id,g,vs,h1,h2,h3,h4,h5⟩:=h
 rw [rowsV_len] at h1 h4
 refine ⟨id,g,vs,by rw [List.length_map];exact h1,h2,h3,by rw [List.length_map];exact h4,fun i len hl=>?_⟩
 rw [List.getElem?_map,Option.map_eq_some_iff] at hl
 obtain ⟨r,hr,rfl⟩:=hl
 obtain ⟨x,q1,q2⟩:=h5 i _ (rowsV_get hr)
 refine ⟨x,q1,?_⟩
 rcases q2 with ⟨a,b⟩ | ⟨id',g',c,a,b,d,_,e⟩
 ·have:r=[]:=by simpa using a
  exact .inl ⟨by rw [this];rfl,b⟩
 ·rw [List.length_map] at a d
  exact .inr ⟨id',g',c,a,b,d,e⟩
theorem Shape.trim {m L:Nat} {H:Heap} {v:V} {lens:List Nat} (h:Shape m H v lens) {fr:List V} (hv:v∈fr):Shape m (trim L fr H) v lens:=by
 obtain ⟨id,g,vs,rfl,h2,h3,h4,h5⟩:=h
 rcases trim_or L fr H with e | ⟨e,hu⟩
 ·rw [e];exact ⟨id,g,vs,rfl,h2,h3,h4,h5⟩
 ·have hid:=hu _ hv
  simp only [idsUnder,decide_eq_true_eq] at hid
  refine ⟨id,g,vs,rfl,trim_get h2 hid,h3,h4,fun i len hl=>?_⟩
  obtain ⟨x,q1,q2⟩:=h5 i len hl
  refine ⟨x,q1,?_⟩
  rcases q2 with q2 | ⟨id',g',c,rfl,b,d,f⟩
  ·exact .inl q2
  ·refine .inr ⟨id',g',c,rfl,?_,d,f⟩
   rcases trim_or' L fr H with e | ⟨_,_,hu⟩
   ·rw [e];exact b
   ·exact trim_get b (hu _ _ _ hid h2 _ _ _ _ _ (List.mem_of_getElem? q1))
theorem Shape.row {m:Nat} {H:Heap} {v:V} {lens:List Nat} (h:Shape m H v lens) {i len:Nat} (hi:lens[i]?=some len):∃ a x,xIndexAddr 1 v (.s (.int .i64 i))=some a∧xLoad H false 1 a=some x∧xLen H .s x=some (.s (.int .i64 len))∧
 ∀ (k base:Nat) (y:V),k < len→base≤m→y.one=true→∃ b H',xIndexAddr 1 x (.s (.int .i64 k))=some b∧storeV H base 1 y b=some H'∧Shape m H' v lens∧H'.length=H.length∧∀ H0,H0.length≤m→Ext H0 H→Ext H0 H':=by
 obtain ⟨id,g,vs,rfl,h2,h3,h4,h5⟩:=h
 obtain ⟨x,q1,q2⟩:=h5 i len hi
 have hil:=(List.getElem?_eq_some_iff.1 hi).1
 obtain ⟨e1,e2⟩:=at_sl h2 hil q1
 refine ⟨_,x,e1,e2,?_,?_⟩
 ·rcases q2 with ⟨rfl,rfl | rfl⟩ | ⟨id',g',c,rfl,_⟩ <;> rfl
 ·intro k base y hk hb hy
  rcases q2 with ⟨rfl,_⟩ | ⟨id',g',c,rfl,b,d,f⟩
  ·omega
  ·obtain ⟨f1,_⟩:=at_sl (w:=c[k]'(by omega)) b hk (List.getElem?_eq_getElem (by omega))
   refine ⟨_,_,f1,storeV_at b (by omega) hy (by omega),⟨id,g,vs,rfl,by rw [getC_other (by omega)];exact h2,h3,h4,fun j len' hj=>?_⟩,List.length_set,fun H0 h0 he=>he.set (by omega) _⟩
   obtain ⟨z,z1,z2⟩:=h5 j len' hj
   refine ⟨z,z1,?_⟩
   rcases z2 with z2 | ⟨i2,g2,c2,rfl,b2,d2,f2⟩
   ·exact .inl z2
   ·by_cases hs:i2=id'
    ·subst hs
     have hg:g2=g':=by
      unfold getC at b b2
      split at b <;> rename_i hh
      ·split at b <;> rename_i h6
       ·rw [hh] at b2
        simp only at b2
        split at b2 <;> rename_i h7
        ·omega
        ·cases b2
       ·cases b
      ·cases b
     subst hg
     rw [b] at b2
     cases b2
     exact .inr ⟨i2,g2,_,rfl,getC_put b,by rw [List.length_set];exact d2,f2⟩
    ·exact .inr ⟨i2,g2,c2,rfl,by rw [getC_other hs];exact b2,d2,f2⟩
end Go.Proofs.Ytgimjihhlhjejaa
set_option maxRecDepth 100000
namespace Go.Proofs.Ytgimjihhlhjejaa
open Go.AM
def RS (h:Nat) (v:V) (n:Nat) (H0 H:Heap) (B:List Bool) (S:List Int):Prop:=
 H0.length=h∧Ext H0 H∧getC H h 0=some [v]∧getC H (h+1) 0=some (B.map bV)∧getC H (h+2) 0=some [.sl (h+1) 0 0 n 1]∧B.length=n∧
 ∃ nv,getC H (h+3) 0=some [nv]∧OwnN (h+4) H nv (S.map iV)
theorem RS.trim {h L n:Nat} {v:V} {H0 H:Heap} {B:List Bool} {S:List Int} (k:RS h v n H0 H B S) (hL:h+4≤L) (fr:List V):RS h v n H0 (trim L fr H) B S:=by
 obtain ⟨a1,a2,a3,a4,a5,a6,nv,a7,a8⟩:=k
 exact ⟨a1,a2.trim (by omega) _,trim_get a3 (by omega),trim_get a4 (by omega),trim_get a5 (by omega),a6,nv,trim_get a7 (by omega),a8.trim a7 (by omega) List.mem_cons_self _⟩
theorem getC_load {H:Heap} {id g:Nat} {w:V} (h:getC H id g=some [w]):xLoad H false 1 (.ref id g 0)=some w:=by
 simp only [xo_ref,h,List.drop_zero,List.take_succ_cons,List.take_zero,List.length_singleton,if_true,shut_one]
theorem res_nil (fr:List V) (H:Heap):resultV [] fr H=some (.tup []):=by simp [resultV]
def cntF:List Bool→Nat
 | []=>0
 | b :: l=>(if b then 0 else 1)+cntF l
end Go.Proofs.Ytgimjihhlhjejaa
set_option maxRecDepth 100000
namespace Go.Proofs.Ytgimjihhlhjejaa
open Go.AM
end Go.Proofs.Ytgimjihhlhjejaa
set_option maxRecDepth 100000
namespace Go.Proofs.Ytgimjihhlhjejaa
open Go.AM
end Go.Proofs.Ytgimjihhlhjejaa
set_option maxRecDepth 100000
namespace Go.Proofs.Ytgimjihhlhjejaa
open Go.AM
inductive Rch (G:List (List Int)) (l:List Int):Nat→Prop
 | base (k:Nat):(k:Int)∈l→k < G.length→Rch G l k
 | step (i k:Nat):Rch G l i→(k:Int)∈G.getD i []→k < G.length→Rch G l k
structure Ent (n:Nat) (r:List Int) (s t:List Bool × List Int):Prop where
 len:t.1.length=n
 mono:∀ k:Nat,s.1[k]?=some true→t.1[k]?=some true
 only:∀ k:Nat,t.1[k]?=some true→s.1[k]?=some true∨((k:Int)∈r∧k < n∧(k:Int)∈t.2)
 all:∀ k:Nat,(k:Int)∈r→k < n→t.1[k]?=some true
 sub:∀ x,x∈s.2→x∈t.2
 new:∀ x,x∈t.2→x∈s.2∨∃ k:Nat,x=k∧k < n∧t.1[k]?=some true
end Go.Proofs.Ytgimjihhlhjejaa
set_option maxRecDepth 100000
namespace Go.Proofs.Ytgimjihhlhjejaa
open Go.AM
structure Inv (G:List (List Int)) (l:List Int) (s:List Bool × List Int):Prop where
 len:s.1.length=G.length
 stk:∀ x,x∈s.2→∃ k:Nat,x=k∧k < G.length∧s.1[k]?=some true
 snd:∀ k:Nat,s.1[k]?=some true→Rch G l k
 bas:∀ k:Nat,(k:Int)∈l→k < G.length→s.1[k]?=some true
 cls:∀ i k:Nat,s.1[i]?=some true→(i:Int) ∉ s.2→(k:Int)∈G.getD i []→k < G.length→s.1[k]?=some true
end Go.Proofs.Ytgimjihhlhjejaa
set_option maxRecDepth 100000
namespace Go.Proofs.Ytgimjihhlhjejaa
open Go.AM
theorem rch_mono {G:List (List Int)} {a b:List Int} (h:∀ x,x∈a→x∈b) {k:Nat} (hk:Rch G a k):Rch G b k:=by
 induction hk with
 | base k h1 h2=>exact .base k (h _ h1) h2
 | step i k _ h1 h2 ih=>exact .step i k ih h1 h2
theorem rch_lt {G:List (List Int)} {a:List Int} {k:Nat} (h:Rch G a k):k < G.length:=by cases h <;> assumption
end Go.Proofs.Ytgimjihhlhjejaa
set_option maxRecDepth 100000
namespace Go.Proofs.Ytgimjihhlhjejaa
open Go.AM
theorem normG_get (G:List (List Int)) (k:Nat) (x:Int):x∈(normG G).getD k []↔x∈G.getD k []∧0≤x∧x < G.length:=by
 unfold normG
 simp only [List.getD,List.getElem?_map]
 cases G[k]? with
 | none=>simp
 | some r=>
   simp only [Option.map_some,Option.getD_some]
   rw [(normR_up _ _).2 x]
   simp only [outR,Bool.or_eq_false_iff,decide_eq_false_iff_not]
   constructor
   ·rintro ⟨a,b,c⟩;exact ⟨a,by omega,by omega⟩
   ·rintro ⟨a,b,c⟩;exact ⟨a,by omega,by omega⟩
open Classical in
noncomputable def leadsB (G:List (List Int)) (a b:Int):Bool:=decide (∃ k:Nat,b=k∧Rch G [a] k)
theorem leadsB_nat (G:List (List Int)) (a:Int) (k:Nat):leadsB G a k=true↔Rch G [a] k:=by
 simp only [leadsB,decide_eq_true_eq]
 constructor
 ·rintro ⟨j,e,h⟩
  have:k=j:=by omega
  subst this;exact h
 ·exact fun h=>⟨k,rfl,h⟩
end Go.Proofs.Ytgimjihhlhjejaa
set_option maxRecDepth 100000
namespace Go.Proofs.Ytgimjihhlhjejaa
open Go.AM
theorem rows_lenV {H:Heap} {v:V} {G:List (List Int)} (hv:RdRows H v (rowsV G)):∀ H',xLen H' .s v=some (.s (.int .i64 G.length)):=by
 intro H'
 rw [← rows_len hv]
 obtain ⟨vs,h,_⟩:=hv
 rcases h.cases with ⟨_,rfl | rfl⟩ | ⟨es,rfl,_⟩ | ⟨id,g,off,n,c,rfl,_⟩ <;> rfl
theorem one_rd (H:Heap) (x:V):Rd (H ++ [Ob.cells 0 [x]]) (.sl H.length 0 0 1 1) [x]:=⟨fun _ h=>(by cases h),elems_new⟩
end Go.Proofs.Ytgimjihhlhjejaa
set_option maxRecDepth 100000
namespace Go.Proofs.Ytgimjihhlhjejaa
open Go.AM
inductive Dfs (N:List (List Int)):List Int→List Bool→List Int→List Bool→List Int→Prop
 | nil (s:List Bool) (l:List Int):Dfs N [] s l s l
 | skip (k:Nat) (r:List Int) (s:List Bool) (l:List Int) (s':List Bool) (l':List Int):s[k]?=some true→Dfs N r s l s' l'→Dfs N ((k:Int) :: r) s l s' l'
 | go (k:Nat) (r:List Int) (s:List Bool) (l:List Int) (s1:List Bool) (l1:List Int) (s':List Bool) (l':List Int):s[k]?=some false→Dfs N (N.getD k []) (s.set k true) l s1 l1→Dfs N r s1 ((k:Int) :: l1) s' l'→Dfs N ((k:Int) :: r) s l s' l'
structure DfsK (s:List Bool) (l:List Int) (s':List Bool) (l':List Int):Prop where
 len:s'.length=s.length
 mono:∀ k:Nat,s[k]?=some true→s'[k]?=some true
 cnt:cntF s'≤cntF s
 new:∃ p:List Int,l'=p ++ l∧p.Nodup∧(∀ x∈p,∃ k:Nat,x=k∧s[k]?=some false∧s'[k]?=some true)∧∀ k:Nat,s'[k]?=some true→s[k]?=some true∨(k:Int)∈p
end Go.Proofs.Ytgimjihhlhjejaa
set_option maxRecDepth 100000
namespace Go.Proofs.Ytgimjihhlhjejaa
open Go.AM
structure PassK (G:List (List Int)) (l:List Int) (E:Nat→Int→Prop) (s s':List Bool × Bool):Prop where
 len:s'.1.length=s.1.length
 mono:∀ k:Nat,s.1[k]?=some true→s'.1[k]?=some true
 sound:(∀ k:Nat,s.1[k]?=some true→Rch G l k)→∀ k:Nat,s'.1[k]?=some true→Rch G l k
 quiet:s'.2=false→s.2=false∧s'.1=s.1∧∀ i w,E i w→s.1[i]?=some true→s.1[w.toNat]?=some true
 cnt:cntF s'.1≤cntF s.1∧(s.2=false→s'.2=true→cntF s'.1 < cntF s.1)
theorem PassK.trans {G:List (List Int)} {l:List Int} {E F:Nat→Int→Prop} {s t u:List Bool × Bool} (h:PassK G l E s t) (k:PassK G l F t u):PassK G l (fun i w=>E i w∨F i w) s u:=by
 refine ⟨k.len.trans h.len,fun j hj=>k.mono j (h.mono j hj),fun hs=>k.sound (h.sound hs),fun hq=>?_,?_,fun h1 h2=>?_⟩
 ·obtain ⟨a1,a2,a3⟩:=k.quiet hq
  obtain ⟨b1,b2,b3⟩:=h.quiet a1
  refine ⟨b1,a2.trans b2,fun i w hE hi=>?_⟩
  rcases hE with hE | hE
  ·exact b3 i w hE hi
  ·rw [b2] at a3;exact a3 i w hE hi
 ·have:=h.cnt.1;have:=k.cnt.1;omega
 ·cases ht:t.2 with
  | true=>have:=h.cnt.2 h1 ht;have:=k.cnt.1;omega
  | false=>have:=h.cnt.1;have:=k.cnt.2 ht h2;omega
theorem PassK.refl (G:List (List Int)) (l:List Int) (s:List Bool × Bool):PassK G l (fun _ _=>False) s s:=
 ⟨rfl,fun _ h=>h,fun h=>h,fun h=>⟨h,rfl,fun _ _ h=>h.elim⟩,Nat.le_refl _,fun h1 h2=>by rw [h1] at h2;cases h2⟩
end Go.Proofs.Ytgimjihhlhjejaa
set_option maxRecDepth 100000
namespace Go.Proofs.Ytgimjihhlhjejaa
open Go.AM
end Go.Proofs.Ytgimjihhlhjejaa
set_option maxRecDepth 100000
namespace Go.Proofs.Ytgimjihhlhjejaa
open Go.AM
end Go.Proofs.Ytgimjihhlhjejaa
set_option maxRecDepth 100000
namespace Go.Proofs.Ytgimjihhlhjejaa
open Go.AM
end Go.Proofs.Ytgimjihhlhjejaa
set_option maxRecDepth 100000
namespace Go.AM
theorem OwnN.keep {m:Nat} {H H':Heap} {v:V} {l:List V} (h:OwnN m H v l) (hk:∀ i g n,v=.sl i g 0 n 1→i < H.length→H'[i]?=H[i]?):OwnN m H' v l:=by
 rcases h with h | ⟨id,g,c,rfl,hc,h2,h3,h4⟩
 ·exact .inl h
 ·refine .inr ⟨id,g,c,rfl,?_,h2,h3,h4⟩
  simp only [getC] at hc ⊢
  rw [hk id g _ rfl (getC_lt hc)];exact hc
theorem getC_keep {H H':Heap} {i g:Nat} (h:H'[i]?=H[i]?):getC H' i g=getC H i g:=by simp only [getC,h]
theorem OwnN.ge {m:Nat} {H:Heap} {v:V} {l:List V} (h:OwnN m H v l):∀ i g n,v=.sl i g 0 n 1→m≤i:=by
 intro i g n e
 rcases h with ⟨_,h | h⟩ | ⟨id,g,c,e2,_,_,_,h4⟩
 ·rw [h] at e;cases e
 ·rw [h] at e;cases e
 ·rw [e2] at e;cases e;exact h4
theorem OwnN.lt {m:Nat} {H:Heap} {v:V} {l:List V} (h:OwnN m H v l):∀ i g n,v=.sl i g 0 n 1→i < H.length:=by
 intro i g n e
 rcases h with ⟨_,h | h⟩ | ⟨id,g,c,e2,hc,_,_,_⟩
 ·rw [h] at e;cases e
 ·rw [h] at e;cases e
 ·rw [e2] at e;cases e;exact getC_lt hc
end Go.AM
namespace Go.Proofs.Ytgimjihhlhjejaa
open Go.AM
structure PS (h n:Nat) (H0 H:Heap) (B:List Bool) (W Lf:List Int) (wv lv:V):Prop where
 h0:H0.length=h
 ext:Ext H0 H
 seen:getC H h 0=some (B.map bV)
 box:getC H (h+1) 0=some [.sl h 0 0 n 1]
 len:B.length=n
 way:OwnN (h+2) H wv (W.map iV)
 left:OwnN (h+2) H lv (Lf.map iV)
 apart:∀ id g k id' g' k',wv=.sl id g 0 k 1→lv=.sl id' g' 0 k' 1→id≠id'
 o1:∀ id g k c,wv=.sl id g 0 k 1→getC H id g=some c→∀ x∈c,x.one=true
 o2:∀ id g k c,lv=.sl id g 0 k 1→getC H id g=some c→∀ x∈c,x.one=true
theorem PS.trim {h n L:Nat} {H0 H:Heap} {B:List Bool} {W Lf:List Int} {wv lv:V} (k:PS h n H0 H B W Lf wv lv) (hL:h+2≤L) {fr:List V} (h1:wv∈fr) (h2:lv∈fr):PS h n H0 (trim L fr H) B W Lf wv lv:=by
 refine ⟨k.h0,k.ext.trim (by have:=k.h0;omega) _,trim_get k.seen (by omega),trim_get k.box (by omega),k.len,k.way.trim_fr h1,k.left.trim_fr h2,k.apart,?_,?_⟩
 ·intro id g q c e hc
  rcases trim_or L fr H with e2 | ⟨e2,_⟩
  ·rw [e2] at hc;exact k.o1 id g q c e hc
  ·rw [e2] at hc
   refine k.o1 id g q c e ?_
   simp only [getC] at hc ⊢
   by_cases hlt:id < L
   ·rw [List.getElem?_take_of_lt hlt] at hc;exact hc
   ·rw [List.getElem?_eq_none (by rw [List.length_take];omega)] at hc;cases hc
 ·intro id g q c e hc
  rcases trim_or L fr H with e2 | ⟨e2,_⟩
  ·rw [e2] at hc;exact k.o2 id g q c e hc
  ·rw [e2] at hc
   refine k.o2 id g q c e ?_
   simp only [getC] at hc ⊢
   by_cases hlt:id < L
   ·rw [List.getElem?_take_of_lt hlt] at hc;exact hc
   ·rw [List.getElem?_eq_none (by rw [List.length_take];omega)] at hc;cases hc
theorem PS.mark {h n:Nat} {H0 H:Heap} {B:List Bool} {W Lf:List Int} {wv lv:V} (k:PS h n H0 H B W Lf wv lv) (j:Nat):PS h n H0 (H.set h (.cells 0 ((B.map bV).set j (bV true)))) (B.set j true) W Lf wv lv:=by
 have hk:∀ i,i≠h→(H.set h (.cells 0 ((B.map bV).set j (bV true))))[i]?=H[i]?:=fun i hi=>List.getElem?_set_ne (Ne.symm hi)
 refine ⟨k.h0,k.ext.set (by rw [k.h0];exact Nat.le_refl _) _,?_,?_,by rw [List.length_set];exact k.len,k.way.keep fun i g q e _=>hk i (by have:=k.way.ge _ _ _ e;omega),k.left.keep fun i g q e _=>hk i (by have:=k.left.ge _ _ _ e;omega),k.apart,?_,?_⟩
 ·rw [getC_put k.seen,List.map_set]
 ·rw [getC_keep (hk (h+1) (by omega))];exact k.box
 ·intro id g q c e hc
  rw [getC_keep (hk id (by have:=k.way.ge _ _ _ e;omega))] at hc
  exact k.o1 _ _ _ _ e hc
 ·intro id g q c e hc
  rw [getC_keep (hk id (by have:=k.left.ge _ _ _ e;omega))] at hc
  exact k.o2 _ _ _ _ e hc
theorem PS.pop {h n:Nat} {H0 H:Heap} {B:List Bool} {W Lf:List Int} {wv lv:V} (k:PS h n H0 H B W Lf wv lv) {q:Nat} (hq:q≤W.length):∃ wv',xSlice 1 wv none (some (.s (.int .i64 q)))=some wv'∧PS h n H0 H B (W.take q) Lf wv' lv:=by
 have same:∀ wv',xSlice 1 wv none (some (.s (.int .i64 q)))=some wv'→OwnN (h+2) H wv' (W.map iV |>.take q)→(∀ id g m,wv'=.sl id g 0 m 1→∃ m',wv=.sl id g 0 m' 1)→PS h n H0 H B (W.take q) Lf wv' lv:=by
  intro wv' _ ho hs
  refine ⟨k.h0,k.ext,k.seen,k.box,k.len,by rw [List.map_take];exact ho,k.left,?_,?_,k.o2⟩
  ·intro id g a id' g' a' e e'
   obtain ⟨m',e2⟩:=hs _ _ _ e
   exact k.apart _ _ _ _ _ _ e2 e'
  ·intro id g a c e hc
   obtain ⟨m',e2⟩:=hs _ _ _ e
   exact k.o1 _ _ _ _ e2 hc
 rcases k.way with ⟨e,hv⟩ | ⟨id,g,c,e,hc,hl,ht,hid⟩
 ·have hW:W=[]:=by simpa using e
  subst hW
  have hq0:q=0:=by simpa using hq
  subst hq0
  have hx:xSlice 1 wv none (some (.s (.int .i64 (0:Nat))))=some wv:=by
   rcases hv with rfl | rfl
   ·simp only [xslice_nil,bndV_none,bndV_int,cutNil_some,cast0,and_self,if_true]
   ·simp only [xslice_esl,bndV_none,bndV_int,cutNil_some,cast0,and_self,if_true]
  refine ⟨wv,hx,same wv hx (.inl ⟨rfl,hv⟩) fun id g m e=>⟨m,e⟩⟩
 ·rw [List.length_map] at e hl ht
  have i4:(0:Int)≤(0:Int)∧(0:Int)≤q∧(q:Int)≤W.length∧1=1:=⟨by omega,by omega,by omega,rfl⟩
  have i5:((q:Int) - 0).toNat=q:=by omega
  have hx:xSlice 1 wv none (some (.s (.int .i64 q)))=some (.sl id g 0 q 1):=by
   rw [e]
   simp only [xslice_sl,bndV_none,bndV_int,cutSl_some,cast0,i4,i5,and_self,if_true,Int.toNat_zero,Nat.zero_mul,Nat.add_zero]
  refine ⟨_,hx,same _ hx (.inr ⟨id,g,c,by simp;omega,hc,by simp;omega,?_,hid⟩) fun id' g' m e'=>?_⟩
  ·rw [List.length_take,List.length_map,Nat.min_eq_left hq,← ht,List.take_take,Nat.min_eq_left hq]
  ·cases e';exact ⟨_,e⟩
end Go.Proofs.Ytgimjihhlhjejaa
set_option maxRecDepth 100000
namespace Go.Proofs.Ytgimjihhlhjejaa
open Go.AM
end Go.Proofs.Ytgimjihhlhjejaa
set_option maxRecDepth 100000
namespace Go.Proofs.Ytgimjihhlhjejaa
open Go.AM
end Go.Proofs.Ytgimjihhlhjejaa
set_option maxRecDepth 100000
namespace Go.Proofs.Ytgimjihhlhjejaa
open Go.AM
structure Walked (G:List (List Int)) (q:Nat) (P:List Int):Prop where
 head:P[0]?=some (q:Int)
 nodup:P.Nodup
 rch:∀ k:Nat,(k:Int)∈P↔Rch G [(q:Int)] k
 nat:∀ x∈P,∃ k:Nat,x=k∧k < G.length
 order:∀ (i j a b:Nat),P[a]?=some (i:Int)→P[b]?=some (j:Int)→(j:Int)∈(normG G).getD i []→b≤a→leadsB G j i=true
end Go.Proofs.Ytgimjihhlhjejaa
set_option maxRecDepth 100000
namespace Go.Proofs.Ytgimjihhlhjejaa
open Go.AM
def Touch (v v':V) (H H':Heap):Prop:=(H'=H∧v'=v)∨∃ id g n n' ob,v=.sl id g 0 n 1∧v'=.sl id g 0 n' 1∧H'=H.set id ob
theorem Touch.same (v:V) (H:Heap):Touch v v H H:=.inl ⟨rfl,rfl⟩
theorem Touch.put (id g n n':Nat) (ob:Ob) (H:Heap):Touch (.sl id g 0 n 1) (.sl id g 0 n' 1) H (H.set id ob):=.inr ⟨id,g,n,n',ob,rfl,rfl,rfl⟩
theorem Touch.trans {v v' v2:V} {H H' H2:Heap} (h:Touch v v' H H') (k:Touch v' v2 H' H2):Touch v v2 H H2:=by
 rcases h with ⟨rfl,rfl⟩ | ⟨id,g,n,n',ob,rfl,rfl,rfl⟩
 ·exact k
 ·rcases k with ⟨rfl,rfl⟩ | ⟨id',g',m,m',ob',e,rfl,rfl⟩
  ·exact .inr ⟨id,g,n,n',ob,rfl,rfl,rfl⟩
  ·cases e
   exact .inr ⟨id,g,n,m',ob',rfl,rfl,by rw [List.set_set]⟩
theorem compact_own2 {CT:Nat→Option CFun} (hT:CT k_f23=some (.code s_f23)) (base m:Nat) (H:Heap) (v:V) (l:List Int) (hv:OwnN m H v (l.map iV)) (hb:base≤m) (hn:l.length < 2 ^ 62):
 ∃ v' H',callW CT (.fn k_f23 [] []) [v] base H=some (v',H')∧OwnN m H' v' ((compactZ l).map iV)∧Touch v v' H H':=by
 by_cases h2:l.length < 2
 ·refine ⟨v,H,?_,?_,Touch.same _ _⟩
  ·refine callW_fn (c:=s_f23) hT (by simp [s_f23]) ?_
   have h2':((l.length:Nat):Int) < 2:=by omega
   simp only [s_f23,a_f23,s_f23_l0_b,s_f23_l1_b,aa,bl,i64,reduceIte,reduceCtorEq,Nat.reduceEqDiff,Nat.reduceLT,Nat.reduceLeDiff,Nat.reduceBEq,Nat.reduceAdd,fillA,splice,Nat.reduceMul,amY,op_eqP,hv.rd.len,List.length_map,h2']
  ·match l,h2 with
   | [],_=>exact hv
   | [x],_=>exact hv
 ·rcases hv with ⟨h,_⟩ | ⟨id,g,c,rfl,hc,hl,ht,hid⟩
  ·have:=congrArg List.length h
   simp at this
   subst this
   simp at h2
  ·rw [List.length_map] at hl ht ⊢
   have hr:∀ j,j < l.length→c[j]?=some (iV (l.getD j 0)):=fun j hj=>by
    rw [← map_get hj,← ht,List.getElem?_take_of_lt hj]
   have hlt:=getC_lt hc
   match l,h2,hr,hl,ht,hn with
   | [],h2,_,_,_,_=>simp at h2
   | x :: r,h2,hr,hl,ht,hn=>
     have ho:=compact_outer (callW CT) base id g (x :: r).length (x :: r) rfl (by omega) hn H hlt c hl hc hr r 1 rfl (Nat.le_refl _) (by simp)
     have e0:(x :: r).getD (1 - 1) 0=x:=rfl
     rw [e0] at ho
     have c1:((1:Nat):Int)=1:=rfl
     rw [c1,List.length_cons] at ho
     have h2':¬ ((r.length+1:Nat):Int) < 2:=by simp at h2;omega
     rcases ho with ⟨q,hq⟩ | ⟨c',q,q2,q3⟩
     ·refine ⟨.sl id g 0 (x :: r).length 1,H,?_,?_,Touch.same _ _⟩
      ·refine callW_fn (c:=s_f23) hT (by simp [s_f23]) ?_
       simp only [s_f23,a_f23,s_f23_l0_b,s_f23_l1_b,aa,bl,i64,reduceIte,reduceCtorEq,Nat.reduceEqDiff,Nat.reduceLT,Nat.reduceLeDiff,Nat.reduceBEq,Nat.reduceAdd,fillA,splice,Nat.reduceMul,amY,op_eqP,h2',q]
      ·rw [show compactZ (x :: r)=x :: r by simp only [compactZ,hq]]
       exact .inr ⟨id,g,c,by rw [List.length_map],hc,by rw [List.length_map];exact hl,by rw [List.length_map];exact ht,hid⟩
     ·refine ⟨.sl id g 0 (1+(chg x r).length) 1,H.set id (.cells g c'),?_,?_,Touch.put _ _ _ _ _ _⟩
      ·refine callW_fn (c:=s_f23) hT (by simp [s_f23]) ?_
       simp only [s_f23,a_f23,s_f23_l0_b,s_f23_l1_b,aa,bl,i64,reduceIte,reduceCtorEq,Nat.reduceEqDiff,Nat.reduceLT,Nat.reduceLeDiff,Nat.reduceBEq,Nat.reduceAdd,fillA,splice,Nat.reduceMul,amY,op_eqP,h2',q]
      ·have hcl:=chg_len r x
       refine .inr ⟨id,g,c',?_,getC_put hc,?_,?_,hid⟩
       ·simp [compactZ];omega
       ·simp [compactZ] at hl ⊢;omega
       ·have:((compactZ (x :: r)).map iV).length=1+(chg x r).length:=by simp [compactZ];omega
        rw [this,q3];rfl
theorem sort_own2 {CT:Nat→Option CFun} (hT:CT k_f22=some (.prim sortG)) (base m:Nat) (H:Heap) (v:V) (l:List Int) (hv:OwnN m H v (l.map iV)) (hb:base≤m) (hn:l.length < 2 ^ 62):
 ∃ H',callW CT (.fn k_f22 [] []) [v] base H=some (und,H')∧OwnN m H' v ((sortZ l).map iV)∧Touch v v H H':=by
 have hp:∀ r,sortG [v] base H=some r→callW CT (.fn k_f22 [] []) [v] base H=some r:=fun r hr=>callW_eq (by simp only [evCall,hT,List.nil_append,List.append_nil];exact hr)
 have hsl:(sortZ l).length=l.length:=by rw [sortZ,List.length_mergeSort]
 have hnil:l=[]→sortZ l=[]:=fun h=>by subst h;simp [sortZ]
 rcases hv with ⟨h,hv⟩ | ⟨id,g,c,rfl,hc,hl,ht,hid⟩
 ·have h':l=[]:=by simpa using h
  refine ⟨H,hp _ ?_,.inl ⟨by rw [hnil h'];rfl,hv⟩,Touch.same _ _⟩
  rcases hv with rfl | rfl <;> rfl
 ·rw [List.length_map] at hl ht
  by_cases h0:l.length=0
  ·have h':l=[]:=List.eq_nil_of_length_eq_zero h0
   refine ⟨H,hp _ ?_,.inr ⟨id,g,c,by simp [hsl],hc,by simp [hsl];exact hl,by simp [hnil h'],hid⟩,Touch.same _ _⟩
   simp only [sortG,List.length_map,h0,if_true]
  ·refine ⟨H.set id (.cells g (splice c 0 ((sortZ l).map iV))),hp _ ?_,.inr ⟨id,g,_,by simp [hsl],getC_put hc,?_,?_,hid⟩,Touch.put _ _ _ _ _ _⟩
   ·have h1:base≤id∧1=1∧l.length < 4611686018427387904:=⟨by omega,rfl,hn⟩
    have h3:0+l.length≤c.length:=by omega
    simp only [sortG,List.length_map,h0,if_false,h1,and_self,if_true,hc,List.drop_zero,ht,intsOf_map,h3]
   ·simp [splice,hsl]
   ·simp [splice,hsl]
def BagO (m:Nat) (H:Heap) (vs:List V) (R:List (List V)):Prop:=
 vs.length=R.length∧(∀ (j:Nat) (r:List V),R[j]?=some r→∃ x,vs[j]?=some x∧OwnN m H x r)∧
 ∀ (j k id g n id' g' n':Nat),j≠k→vs[j]?=some (.sl id g 0 n 1)→vs[k]?=some (.sl id' g' 0 n' 1)→id≠id'
theorem bag_own {m:Nat} {H:Heap} {vs:List V} {R:List (List V)} (h:Bag m H vs R):BagO m H vs R:=by
 refine ⟨h.1,fun j r hr=>?_,h.2.2⟩
 obtain ⟨x,h1,h2⟩:=h.2.1 j r hr
 refine ⟨x,h1,?_⟩
 rcases h2 with ⟨rfl,rfl⟩ | ⟨id,g,rfl,hc,hm⟩
 ·exact .inl ⟨rfl,.inl rfl⟩
 ·exact .inr ⟨id,g,r,rfl,hc,Nat.le_refl _,by simp,hm⟩
theorem BagO.trim {m L o:Nat} {H:Heap} {vs:List V} {R:List (List V)} (h:BagO m H vs R) (hc:getC H o 0=some vs) (ho:o < L) (fr:List V):BagO m (trim L fr H) vs R:=
 ⟨h.1,fun j r hr=>by obtain ⟨x,h1,h2⟩:=h.2.1 j r hr;exact ⟨x,h1,h2.trim hc ho (List.mem_of_getElem? h1) fr⟩,h.2.2⟩
theorem BagO.rows {m o:Nat} {H:Heap} {vs:List V} {R:List (List V)} (h:BagO m H vs R) (hc:getC H o 0=some vs):RdRows H (.sl o 0 0 R.length 1) R:=
 ⟨vs,by rw [← h.1];exact getC_sl hc,trivial,h.1,fun i r hr=>by obtain ⟨x,h1,h2⟩:=h.2.1 i r hr;exact ⟨x,h1,h2.rd,h2.wide⟩⟩
theorem BagO.touch {m o i:Nat} {H H':Heap} {vs:List V} {R:List (List V)} {x x':V} {r':List V} (h:BagO m H vs R) (ho:o < m) (hc:getC H o 0=some vs) (hx:vs[i]?=some x) (ht:Touch x x' H H') (hid:∀ id g n,x=.sl id g 0 n 1→m≤id) (hx':OwnN m H' x' r'):
 getC H' o 0=some vs∧BagO m (H'.set o (.cells 0 (vs.set i x'))) (vs.set i x') (R.set i r')∧(∀ H0,H0.length≤m→Ext H0 H→Ext H0 H'):=by
 have hi:=(List.getElem?_eq_some_iff.1 hx).1
 rcases ht with ⟨rfl,rfl⟩ | ⟨id,g,n,n',ob,rfl,rfl,rfl⟩
 ·have hs:vs.set i x'=vs:=by
   apply List.ext_getElem?
   intro j
   by_cases e:i=j
   ·subst e;rw [List.getElem?_set_self hi,hx]
   ·rw [List.getElem?_set_ne e]
  rw [hs]
  refine ⟨hc,⟨by rw [List.length_set];exact h.1,fun j r hr=>?_,h.2.2⟩,fun _ _ k=>k⟩
  by_cases e:i=j
  ·subst e
   rw [List.getElem?_set_self (by rw [← h.1];exact hi)] at hr
   obtain rfl:=Option.some.inj hr
   exact ⟨x',hx,hx'.set ho _⟩
  ·rw [List.getElem?_set_ne e] at hr
   obtain ⟨y,h1,h2⟩:=h.2.1 j r hr
   exact ⟨y,h1,h2.set ho _⟩
 ·have hidm:=hid id g n rfl
  refine ⟨by rw [getC_set_ne _ (by omega)];exact hc,⟨by rw [List.length_set,List.length_set];exact h.1,fun j r hr=>?_,fun j k a b c a' b' c' hjk hj hk=>?_⟩,fun H0 h0 k=>k.set (by omega) _⟩
  ·by_cases e:i=j
   ·subst e
    rw [List.getElem?_set_self (by rw [← h.1];exact hi)] at hr
    obtain rfl:=Option.some.inj hr
    exact ⟨_,List.getElem?_set_self hi,hx'.set ho _⟩
   ·rw [List.getElem?_set_ne e] at hr
    obtain ⟨y,h1,h2⟩:=h.2.1 j r hr
    refine ⟨y,by rw [List.getElem?_set_ne e];exact h1,OwnN.set ?_ ho _⟩
    rcases h2 with h2 | ⟨id2,g2,c2,rfl,k1,k2,k3,k4⟩
    ·exact .inl h2
    ·have hne:=h.2.2 i j _ _ _ _ _ _ e hx h1
     exact .inr ⟨id2,g2,c2,rfl,by rw [getC_set_ne _ (Ne.symm hne)];exact k1,k2,k3,k4⟩
  ·by_cases e:i=j
   ·subst e
    rw [List.getElem?_set_self hi] at hj
    rw [List.getElem?_set_ne hjk] at hk
    cases hj
    exact h.2.2 i k _ _ _ _ _ _ hjk hx hk
   ·rw [List.getElem?_set_ne e] at hj
    by_cases e2:i=k
    ·subst e2
     rw [List.getElem?_set_self hi] at hk
     cases hk
     exact h.2.2 j i _ _ _ _ _ _ hjk hj hx
    ·rw [List.getElem?_set_ne e2] at hk
     exact h.2.2 j k _ _ _ _ _ _ hjk hj hk
end Go.Proofs.Ytgimjihhlhjejaa
namespace Go.AM
theorem trim_cells (m:Nat) (fr:List V) (H:Heap):trim m fr H=H∨(trim m fr H=H.take m∧(∀ v∈fr,idsUnder m 8 v=true)∧∀ id g c,id < m→getC H id g=some c→∀ v∈c,idsUnder m 8 v=true):=by
 unfold trim
 split
 ·rename_i h
  rw [Bool.and_eq_true,List.all_eq_true,List.all_eq_true] at h
  refine .inr ⟨rfl,h.1,fun id g c hid hc v hv=>?_⟩
  unfold getC at hc
  cases ho:H[id]? with
  | none=>rw [ho] at hc;cases hc
  | some o=>
    rw [ho] at hc
    have hm:o∈H.take m:=List.mem_of_getElem? (i:=id) (by rw [List.getElem?_take_of_lt hid];exact ho)
    have:=h.2 o hm
    cases o with
    | cells g2 c2=>
      dsimp only at hc
      split at hc
      ·cases hc
       simp only [Ob.under,List.all_eq_true] at this
       exact this v hv
      ·cases hc
    | map _=>cases hc
    | loop _ _ _ _ _ _=>cases hc
    | dead=>cases hc
 ·exact .inl rfl
def LiS (m:Nat) (H:Heap) (v:V) (l:List Int):Prop:=(l=[]∧v=nilS)∨∃ id g,v=.sl id g 0 l.length 1∧getC H id g=some (l.map iV)∧m≤id
theorem LiS.nil (m:Nat) (H:Heap):LiS m H nilS []:=.inl ⟨rfl,rfl⟩
theorem LiS.rd {m:Nat} {H:Heap} {v:V} {l:List Int} (h:LiS m H v l):Rd H v (l.map iV):=by
 rcases h with ⟨rfl,rfl⟩ | ⟨id,g,rfl,hc,_⟩
 ·exact Rd.nil H
 ·have:=getC_sl hc
  rwa [List.length_map] at this
theorem LiS.wide {m:Nat} {H:Heap} {v:V} {l:List Int} (h:LiS m H v l):Wide1 v:=by
 rcases h with ⟨_,rfl⟩ | ⟨_,_,rfl,_⟩ <;> trivial
theorem LiS.one {m:Nat} {H:Heap} {v:V} {l:List Int} (h:LiS m H v l):v.one=true:=h.rd.one
theorem LiS.mono {m k:Nat} {H:Heap} {v:V} {l:List Int} (h:LiS m H v l) (hk:k≤m):LiS k H v l:=by
 rcases h with h | ⟨id,g,h1,h2,h3⟩
 ·exact .inl h
 ·exact .inr ⟨id,g,h1,h2,by omega⟩
theorem LiS.keep {m:Nat} {H H':Heap} {v:V} {l:List Int} (h:LiS m H v l) (hk:∀ id g n,v=.sl id g 0 n 1→H'[id]?=H[id]?):LiS m H' v l:=by
 rcases h with h | ⟨id,g,rfl,hc,hm⟩
 ·exact .inl h
 ·refine .inr ⟨id,g,rfl,?_,hm⟩
  unfold getC at hc ⊢
  rw [hk id g _ rfl]
  exact hc
theorem LiS.lt {m:Nat} {H:Heap} {v:V} {l:List Int} (h:LiS m H v l):∀ id g n,v=.sl id g 0 n 1→id < H.length:=by
 rcases h with ⟨_,rfl⟩ | ⟨id,g,rfl,hc,hm⟩
 ·intro id g n e;cases e
 ·intro id' g' n e
  cases e
  exact getC_lt hc
theorem LiS.d {m:Nat} {H H':Heap} {v:V} {l:List Int} (h:LiS m H v l) (k:KeepD H.length [] H H'):LiS m H' v l:=h.keep fun id g n e=>k.2 id (h.lt id g n e) (by simp)
theorem LiS.under {m M:Nat} {H:Heap} {v:V} {l:List Int} (h:LiS m H v l) (hv:idsUnder M 8 v=true):LiS m (H.take M) v l:=by
 rcases h with h | ⟨id,g,rfl,hc,hm⟩
 ·exact .inl h
 ·simp only [idsUnder,decide_eq_true_eq] at hv
  refine .inr ⟨id,g,rfl,?_,hm⟩
  unfold getC at hc ⊢
  rw [List.getElem?_take_of_lt hv]
  exact hc
theorem LiS.trim_fr {m:Nat} {H:Heap} {v:V} {l:List Int} (h:LiS m H v l) (L:Nat) {fr:List V} (hv:v∈fr):LiS m (trim L fr H) v l:=by
 rcases trim_or L fr H with e | ⟨e,hu⟩
 ·rw [e];exact h
 ·rw [e];exact h.under (hu v hv)
theorem LiS.apart {m:Nat} {H:Heap} {v:V} {l:List Int} (h:LiS m H v l) {o g:Nat} {x:V} {c:List V} (hc:getC H o g=some (x :: c)) (hx:∀ n,x≠iV n):∀ id g n,v=.sl id g 0 n 1→id≠o:=by
 rcases h with ⟨_,rfl⟩ | ⟨id,g',rfl,hc',_⟩
 ·intro id g n e;cases e
 ·intro id' g2 n e e2
  cases e
  subst e2
  unfold getC at hc hc'
  cases ho:H[id]? with
  | none=>rw [ho] at hc;cases hc
  | some ob=>
    rw [ho] at hc hc'
    cases ob with
    | cells g3 c3=>
      dsimp only at hc hc'
      split at hc
      ·split at hc'
       ·cases hc
        cases l with
        | nil=>simp at hc'
        | cons y l=>
          simp only [List.map_cons,Option.some.injEq,List.cons.injEq] at hc'
          exact hx y hc'.1
       ·cases hc'
      ·cases hc
    | map _=>cases hc
    | loop _ _ _ _ _ _=>cases hc
    | dead=>cases hc
theorem rowI_flat (l:List Int):(l.map fun x=>[iV x]).flatten=l.map iV:=by
 induction l with
 | nil=>rfl
 | cons x l ih=>simp [ih]
theorem all_one_iV (l:List Int):(l.map iV).all V.one=true:=by simp [List.all_eq_true,iV,V.one]
theorem LiS.append {m:Nat} {H:Heap} {v:V} {l:List Int} (h:LiS m H v l) {base bytes:Nat} (hb:base≤m) (hm:m≤H.length) {x:V} {l2:List Int} (hx:Rd H x (l2.map iV)) (hs:(l.length+l2.length) * bytes≤2 ^ 47):
 ∃ v' H',appendV H base 1 bytes v x=some (v',H')∧LiS m H' v' (l ++ l2)∧H.length≤H'.length∧(∀ id,id < H.length→(∀ g n,v≠.sl id g 0 n 1)→H'[id]?=H[id]?):=by
 have ha:AccW m 1 H v (l.map fun x=>[iV x]):=by
  refine ⟨fun r hr=>?_,?_⟩
  ·obtain ⟨_,_,rfl⟩:=List.mem_map.1 hr;rfl
  ·rcases h with ⟨rfl,rfl⟩ | ⟨id,g,rfl,hc,hm⟩
   ·exact .inl ⟨rfl,rfl⟩
   ·exact .inr ⟨id,g,by rw [List.length_map],by rw [rowI_flat];exact hc,hm⟩
 obtain ⟨v',H',e1,e2,e3,e4⟩:=ha.append0 (base:=base) (bytes:=bytes) hb hm (S:=l2.map fun x=>[iV x]) (fun r hr=>by obtain ⟨_,_,rfl⟩:=List.mem_map.1 hr;rfl) (x:=x)
  (by rw [rowI_flat,List.length_map];have:=hx.2;rwa [List.length_map] at this) (by rw [rowI_flat];exact all_one_iV l2) (by simpa using hs)
 refine ⟨v',H',e1,?_,e3,e4⟩
 rw [← List.map_append] at e2
 obtain ⟨_,⟨h1,h2⟩ | ⟨id,g,h1,h2,h3⟩⟩:=e2
 ·exact .inl ⟨by simpa using h1,h2⟩
 ·exact .inr ⟨id,g,by rw [List.length_map] at h1;exact h1,by rw [rowI_flat] at h2;exact h2,h3⟩
theorem OwnN.store {m:Nat} {H:Heap} {v:V} {l:List V} (h:OwnN m H v l) {base k:Nat} (hb:base≤m) (hk:k < l.length) {x:V} (hx:x.one=true):
 ∃ a H',xIndexAddr 1 v (.s (.int .i64 k))=some a∧storeV H base 1 x a=some H'∧OwnN m H' v (l.set k x)∧H'.length=H.length∧∀ id,id < m→H'[id]?=H[id]?:=by
 rcases h with ⟨rfl,_⟩ | ⟨id,g,c,rfl,hc,hl,ht,hm⟩
 ·cases hk
 ·have hcl:k < c.length:=by omega
  have hx2:c[k]?=some c[k]:=List.getElem?_eq_getElem hcl
  refine ⟨.ref id g k,H.set id (.cells g (c.set k x)),(at_sl hc hk hx2).1,storeV_at hc (by omega) hx hcl,.inr ⟨id,g,c.set k x,by rw [List.length_set],getC_put hc,by rw [List.length_set,List.length_set];exact hl,?_,hm⟩,List.length_set,fun id' hid=>?_⟩
  ·rw [List.length_set,List.take_set,ht]
  ·rw [List.getElem?_set_ne (by omega)]
end Go.AM
namespace Go.AM
theorem it_rel {S T:Type} (n:Nat) (P:Nat→S→Prop) (X:Nat→S→T) (step:∀ i s,i < n→P i s→∃ s',X i s=X (i+1) s'∧P (i+1) s'):∀ i s,i≤n→P i s→∃ s',X i s=X n s'∧P n s':=by
 have key:∀ d i s,i+d=n→P i s→∃ s',X i s=X n s'∧P n s':=by
  intro d
  induction d with
  | zero=>
    intro i s hi hp
    obtain rfl:i=n:=by omega
    exact ⟨s,rfl,hp⟩
  | succ d ih=>
    intro i s hi hp
    obtain ⟨s1,h1,h2⟩:=step i s (by omega) hp
    obtain ⟨s2,h3,h4⟩:=ih (i+1) s1 (by omega) h2
    exact ⟨s2,h1.trans h3,h4⟩
 exact fun i s hi hp=>key (n - i) i s (by omega) hp
theorem it_fun {T:Type} (n:Nat) (X:Nat→T) (step:∀ i,i < n→X i=X (i+1)):∀ i,i≤n→X i=X n:=by
 intro i hi
 obtain ⟨_,h,_⟩:=it_rel (S:=Unit) n (fun _ _=>True) (fun i _=>X i) (fun i s h _=>⟨(),step i h,trivial⟩) i () hi trivial
 exact h
theorem it_find {T:Type} (n:Nat) (p:Nat→Bool) (X:Nat→T) (step:∀ i,i < n→p i=false→X i=X (i+1)):(∀ i,i < n→p i=false)∧X 0=X n∨∃ i,i < n∧p i=true∧(∀ j,j < i→p j=false)∧X 0=X i:=by
 have key:∀ d i,i+d=n→(∀ j,j < i→p j=false)→X 0=X i→(∀ i,i < n→p i=false)∧X 0=X n∨∃ i,i < n∧p i=true∧(∀ j,j < i→p j=false)∧X 0=X i:=by
  intro d
  induction d with
  | zero=>
    intro i hi hp hx
    obtain rfl:i=n:=by omega
    exact .inl ⟨hp,hx⟩
  | succ d ih=>
    intro i hi hp hx
    cases hpi:p i with
    | true=>exact .inr ⟨i,by omega,hpi,hp,hx⟩
    | false=>
      refine ih (i+1) (by omega) (fun j hj=>?_) (hx.trans (step i (by omega) hpi))
      by_cases e:j=i
      ·rw [e];exact hpi
      ·exact hp j (by omega)
 exact key n 0 (by omega) (fun j hj=>by omega) rfl
theorem op_copy (call:CallF) (base:Nat) (fr:List V) (H:Heap) (sz:Nat) (d s:Opd):evOp call base fr H (.copy sz d s)=copyV H base sz (ev fr d) (ev fr s):=rfl
theorem iV_get {H:Heap} {v:V} {l:List Int} (h:Rd H v (l.map iV)) (hw:Wide1 v) {k:Nat} (hk:k < l.length):∃ a,xIndexAddr 1 v (.s (.int .i64 k))=some a∧xLoad H false 1 a=some (.s (.int .i64 (l.getD k 0))):=h.at' hw (by rw [List.getElem?_map,List.getElem?_eq_getElem hk,List.getD,List.getElem?_eq_getElem hk];rfl)
theorem getD_some {α:Type} {l:List α} {k:Nat} {x:α} (h:l[k]?=some x) (d:α):l.getD k d=x:=by rw [List.getD,h];rfl
theorem some_getD {α:Type} {l:List α} {k:Nat} (h:k < l.length) (d:α):l[k]?=some (l.getD k d):=by rw [List.getD,List.getElem?_eq_getElem h];rfl
theorem copyV_of {H:Heap} {base sz m id g off len:Nat} {s:V} {xs c:List V} (hs:∀ b,s≠.s (.string b)) (he:elems H sz s=some (m,xs)) (ho:xs.all V.one=true) (hb:base≤id) (hc:getC H id g=some c) (hl:off+len * sz≤c.length):copyV H base sz (.sl id g off len sz) s=some (.s (.int .i64 (min m len:Nat)),H.set id (.cells g (splice c off (xs.take (min m len * sz))))):=by
 unfold copyV
 split
 ·rename_i b;exact absurd rfl (hs b)
 ·rw [he]
  simp only [ho,if_true,true_and,hb,hc,hl,i64]
end Go.AM
set_option maxRecDepth 100000
namespace Go.Proofs.Ytgimjihhlhjejaa
open Go.AM
def fin (r:List Int):List Int:=compactZ (sortZ r)
theorem rowsV_put (R:List (List Int)) (k:Nat) (r:List Int):rowsV (R.set k r)=(rowsV R).set k (r.map iV):=by
 simp [rowsV,List.map_set]
theorem own_at {m:Nat} {H:Heap} {v:V} {l:List V} (h:OwnN m H v l):∀ id g n,v=.sl id g 0 n 1→m≤id:=by
 intro id g n e
 rcases h with ⟨_,rfl | rfl⟩ | ⟨_,_,_,rfl,_,_,_,k⟩
 ·cases e
 ·cases e
 ·cases e;exact k
theorem Touch.get {x x':V} {H H':Heap} (h:Touch x x' H H') {m o:Nat} (ho:o < m) (hid:∀ id g n,x=.sl id g 0 n 1→m≤id) (g:Nat):getC H' o g=getC H o g:=by
 rcases h with ⟨rfl,rfl⟩ | ⟨id,g',n,n',ob,rfl,rfl,rfl⟩
 ·rfl
 ·have:=hid id g' n rfl
  exact getC_set_ne _ (by omega)
theorem Touch.len {x x':V} {H H':Heap} (h:Touch x x' H H'):H'.length=H.length:=by
 rcases h with ⟨rfl,rfl⟩ | ⟨id,g',n,n',ob,rfl,rfl,rfl⟩
 ·rfl
 ·exact List.length_set ..
section
variable {CT:Nat→Option CFun}
end
end Go.Proofs.Ytgimjihhlhjejaa
namespace Go.AM
section
variable {κ:Type} [DecidableEq κ]
def esG (enc:κ→Value) (ks:List κ) (f:κ→V):List (Value × V):=ks.map fun k=>(enc k,f k)
theorem findA_g {kd:TypeDesc} {enc:κ→Value} (hs:∀ a b,Instr.sameNow kd (enc a) (enc b)=some (decide (a=b))) (f:κ→V) (k:κ):∀ (ks:List κ) (i:Nat),findA kd (enc k) (esG enc ks f) i=some (if k∈ks then some (i+ks.idxOf k,f k) else none):=by
 intro ks
 induction ks with
 | nil=>intro i;rfl
 | cons x ks ih=>
   intro i
   have e:esG enc (x :: ks) f=(enc x,f x) :: esG enc ks f:=rfl
   rw [e]
   simp only [findA,hs]
   by_cases h:k=x
   ·subst h
    simp
   ·have h2:(x == k)=false:=by simpa using Ne.symm h
    rw [decide_eq_false h]
    simp only [ih]
    by_cases hk:k∈ks
    ·rw [if_pos hk,if_pos (List.mem_cons_of_mem _ hk),List.idxOf_cons,h2]
     simp only [cond_false]
     congr 3
     omega
    ·rw [if_neg hk,if_neg (by simp [h,hk])]
theorem get_g {H:Heap} {j:Nat} {kd:TypeDesc} {enc:κ→Value} (hs:∀ a b,Instr.sameNow kd (enc a) (enc b)=some (decide (a=b))) (hko:∀ a,keyOk kd (enc a)=true) {ks:List κ} {f:κ→V} (hH:H[j]?=some (.map (esG enc ks f))) (z:V) (ok:Bool) (k:κ):
 xMapGet H kd z ok (.mp j) (.s (enc k))=some (if ok then .tup [if k∈ks then f k else z,bl (decide (k∈ks))] else if k∈ks then f k else z):=by
 have hf:=findA_g hs f k ks 0
 simp only [xMapGet,evOp,ev,List.getD_cons_zero,List.getD_cons_succ,hko,if_true,hH,hf]
 by_cases hk:k∈ks
 ·simp only [if_pos hk,decide_eq_true hk,Option.map_some]
 ·simp only [if_neg hk,decide_eq_false hk,Option.map_some]
theorem upd_g {H:Heap} {base j:Nat} {kd:TypeDesc} {enc:κ→Value} (hs:∀ a b,Instr.sameNow kd (enc a) (enc b)=some (decide (a=b))) (hko:∀ a,keyOk kd (enc a)=true) (hb:base≤j) {ks:List κ} {f:κ→V} (hH:H[j]?=some (.map (esG enc ks f))) (k:κ) (v:V):
 updMV H base kd (.mp j) (.s (enc k)) v=some (und,H.set j (.map (if k∈ks then (esG enc ks f).set (ks.idxOf k) (enc k,v) else esG enc ks f ++ [(enc k,v)]))):=by
 have hf:=findA_g hs f k ks 0
 simp only [updMV,hb,hko,and_self,if_true,hH,hf]
 by_cases hk:k∈ks
 ·simp only [if_pos hk,Nat.zero_add]
 ·simp only [if_neg hk]
theorem len_g {H:Heap} {j:Nat} {enc:κ→Value} {ks:List κ} {f:κ→V} (hH:H[j]?=some (.map (esG enc ks f))):xLen H .m (.mp j)=some (.s (.int .i64 ks.length)):=by
 simp only [xLen,hH,esG,List.length_map,i64]
theorem esG_new {enc:κ→Value} {ks:List κ} {f g:κ→V} {k:κ} (hfg:∀ x∈ks,g x=f x):esG enc ks f ++ [(enc k,g k)]=esG enc (ks ++ [k]) g:=by
 have:ks.map (fun x=>(enc x,f x))=ks.map (fun x=>(enc x,g x)):=List.map_congr_left fun x hx=>by rw [hfg x hx]
 rw [esG,esG,List.map_append,this]
 rfl
end
theorem same_i64 (a b:Int):Instr.sameNow (.int .i64) (.int .i64 a) (.int .i64 b)=some (decide (a=b)):=by rw [sameNow_int];rfl
theorem key_i64 (a:Int):keyOk (.int .i64) (.int .i64 a)=true:=by simp [keyOk]
end Go.AM
namespace Go.AM
theorem w64 {n:Nat} (h:n < 2 ^ 62):IntKind.i64.wrap ((n:Int)+1)=((n+1:Nat):Int):=by rw [IntKind.wrap_i64];omega
theorem same_str (a b:ByteArray):Instr.sameNow .string (.string a) (.string b)=some (decide (a=b)):=by
 have h:(a == b)=decide (a=b):=by
  by_cases e:a=b
  ·subst e
   rw [decide_eq_true rfl,beq_toListBytes]
   simp
  ·rw [decide_eq_false e,beq_toListBytes]
   rw [beq_eq_false_iff_ne]
   exact fun h=>e (toList_inj h)
 simp only [Instr.sameNow,h]
theorem key_str (a:ByteArray):keyOk .string (.string a)=true:=rfl
theorem callW_yld2 {CP:Nat→Option CFun} {id base:Nat} {H H1:Heap} {args t fr fr1:List V} {p:List Nat} {a b:ACode} {r:V × Heap} (hb:base≤id) (hH:H[id]?=some (.loop .ready none t p a b)) (hs:setPs p args t=some fr)
 (ha:evC (callW CP) itW base a fr H=some (.nrm,fr1,H1)) (hH1:H1[id]?=some (.loop .ready none t p a b)) (h:yldE H1 id (evC (callW CP) itW base b fr1 (H1.set id (.loop .busy none t p a b)))=some r):callW CP (.yld id) args base H=some r:=by
 refine callW_eq ?_
 simp only [evCall,if_pos hb,hH,hs,ha,hH1]
 unfold yldE at h
 cases he:evC (callW CP) itW base b fr1 (H1.set id (.loop .busy none t p a b)) with
 | none=>rw [he] at h;cases h
 | some s=>
   obtain ⟨e,f2,H2⟩:=s
   rw [he] at h
   simp only at h ⊢
   cases hx:H2[id]? with
   | none=>rw [hx] at h;cases h
   | some ob=>
     rw [hx] at h
     cases ob with
     | loop st pe t p a b=>
       cases st <;> cases pe <;> first | (simp only at h;exact h) | (simp only at h;cases h)
     | _=>simp only at h;cases h
theorem xLoad_ext {H H':Heap} (k:Ext H H') {b:V} {g:Bool} {n:Nat} {x:V} (hx:xLoad H g n b=some x):xLoad H' g n b=some x:=by
 cases b with
 | ref i j o=>
   rw [xo_ref] at hx ⊢
   cases hc:getC H i j with
   | none=>rw [hc] at hx;cases hx
   | some c=>rw [hc] at hx;rw [getC_ext hc k];exact hx
 | _=>exact hx
theorem RdW.ext2 {w:Nat} {H H':Heap} {v:V} {R:List (List V)} (h:RdW w H v R) (k:Ext H H'):RdW w H' v R:=by
 refine ⟨?_,?_,h.one,?_⟩
 ·have he:=h.el
  unfold elems at he ⊢
  split <;> simp only at he ⊢
  all_goals first | exact he | skip
  all_goals
   split at he
   ·rename_i e
    rw [if_pos e]
    cases hc:getC H _ _ with
    | none=>rw [hc] at he;cases he
    | some c=>rw [hc] at he;rw [getC_ext hc k];exact he
   ·cases he
 ·have hl:=h.len
  have he:=h.el
  unfold elems at he
  split at he <;> simp only [xLen] at hl ⊢ <;> first | exact hl | cases he
 ·intro i r hr
  obtain ⟨a,h1,h2,h3⟩:=h.at' i r hr
  have ld:∀ (b:V) (g:Bool) (n:Nat) (x:V),xLoad H g n b=some x→xLoad H' g n b=some x:=by
   intro b g n x hx
   cases b with
   | ref i j o=>
     rw [xo_ref] at hx ⊢
     cases hc:getC H i j with
     | none=>rw [hc] at hx;cases hx
     | some c=>rw [hc] at hx;rw [getC_ext hc k];exact hx
   | _=>exact hx
  exact ⟨a,h1,ld _ _ _ _ h2,fun o x hx=>by obtain ⟨b,b1,b2⟩:=h3 o x hx;exact ⟨b,b1,ld _ _ _ _ b2⟩⟩
section
variable {κ:Type} [DecidableEq κ]
def fidx (l:List κ) (k:κ):Nat:=l.idxOf k
def memD (l:List κ) (k:κ):Bool:=decide (k∈l)
theorem memD_iff {l:List κ} {k:κ}:memD l k=true↔k∈l:=decide_eq_true_iff
theorem fidx_lt {l:List κ} {k:κ} (h:k∈l):fidx l k < l.length:=List.idxOf_lt_length_iff.2 h
theorem fidx_get {l:List κ} {k:κ} (h:k∈l):l[fidx l k]?=some k:=by
 rw [List.getElem?_eq_getElem (fidx_lt h)]
 exact congrArg some (List.getElem_idxOf (fidx_lt h))
theorem fidx_self (k:κ) (l:List κ):fidx (k :: l) k=0:=by simp [fidx]
theorem fidx_ne {k x:κ} (h:x≠k) (l:List κ):fidx (k :: l) x=fidx l x+1:=by
 have h2:(k == x)=false:=by simpa using Ne.symm h
 simp [fidx,List.idxOf_cons,h2]
theorem esG_upd {enc:κ→Value} {ks:List κ} (hn:ks.Nodup) (f:κ→V) (k:κ) (hk:k∈ks) (v:V):(esG enc ks f).set (ks.idxOf k) (enc k,v)=esG enc ks (fun x=>if x=k then v else f x):=by
 apply List.ext_getElem?
 intro i
 unfold esG
 by_cases e:ks.idxOf k=i
 ·subst e
  have hlt:=List.idxOf_lt_length_iff.2 hk
  have hg:ks[ks.idxOf k]?=some k:=fidx_get hk
  rw [List.getElem?_set_self (by rw [List.length_map];exact hlt),List.getElem?_map,hg]
  simp
 ·rw [List.getElem?_set_ne e,List.getElem?_map,List.getElem?_map]
  cases hi:ks[i]? with
  | none=>rfl
  | some x=>
    have hne:x≠k:=fun h=>by
     subst h
     obtain ⟨hl,rfl⟩:=List.getElem?_eq_some_iff.1 hi
     exact e (hn.idxOf_getElem i hl)
    simp [hne]
def FirstAt (enc:κ→Value) (labs:List κ) (i:Nat) (M:Ob):Prop:=∃ ks f,M=.map (esG enc ks f)∧ks.Nodup∧(∀ l,l∈ks↔l∈labs.drop i)∧∀ l,l∈ks→f l=.s (.int .i64 ((i+fidx (labs.drop i) l:Nat):Int))
theorem firstAt_start (enc:κ→Value) (labs:List κ):FirstAt enc labs labs.length (.map []):=⟨[],fun _=>und,rfl,List.nodup_nil,fun l=>by simp,fun l h=>by cases h⟩
theorem firstAt_step {kd:TypeDesc} {enc:κ→Value} (hs:∀ a b,Instr.sameNow kd (enc a) (enc b)=some (decide (a=b))) (hko:∀ a,keyOk kd (enc a)=true) {labs:List κ} {i:Nat} {M:Ob} (h:FirstAt enc labs (i+1) M) {k:κ} (hk:labs[i]?=some k) {H:Heap} {base j:Nat} (hb:base≤j) (hH:H[j]?=some M):
 ∃ M',updMV H base kd (.mp j) (.s (enc k)) (.s (.int .i64 i))=some (und,H.set j M')∧FirstAt enc labs i M':=by
 obtain ⟨ks,f,rfl,hn,hm,hf⟩:=h
 obtain ⟨hi,he⟩:=List.getElem?_eq_some_iff.1 hk
 have hd:labs.drop i=k :: labs.drop (i+1):=by rw [List.drop_eq_getElem_cons hi,he]
 refine ⟨_,upd_g hs hko hb hH k (.s (.int .i64 i)),?_⟩
 have hidx:∀ l,l≠k→((i+1+fidx (labs.drop (i+1)) l:Nat):Int)=((i+fidx (labs.drop i) l:Nat):Int):=fun l hne=>by
  rw [hd,fidx_ne hne]
  omega
 have hval:∀ l,l∈ks∨l=k→(fun x=>if x=k then V.s (.int .i64 (i:Int)) else f x) l=.s (.int .i64 ((i+fidx (labs.drop i) l:Nat):Int)):=fun l hl=>by
  show (if l=k then _ else f l)=_
  by_cases e:l=k
  ·rw [if_pos e,e,hd,fidx_self];rfl
  ·rw [if_neg e,hf l (hl.resolve_right e),hidx l e]
 by_cases hkk:k∈ks
 ·rw [if_pos hkk,esG_upd hn f k hkk]
  refine ⟨ks,_,rfl,hn,fun l=>?_,fun l hl=>hval l (.inl hl)⟩
  rw [hm l,hd,List.mem_cons]
  refine ⟨.inr,fun e=>?_⟩
  rcases e with e | e
  ·rw [e];exact (hm k).1 hkk
  ·exact e
 ·rw [if_neg hkk]
  have hfg:∀ x∈ks,(fun x=>if x=k then V.s (.int .i64 (i:Int)) else f x) x=f x:=fun x hx=>if_neg (show ¬ x=k from fun e=>hkk (by rw [← e];exact hx))
  have hnew:=esG_new (enc:=enc) (k:=k) hfg
  simp only [if_true] at hnew
  rw [hnew]
  refine ⟨ks ++ [k],_,rfl,?_,fun l=>?_,fun l hl=>hval l ?_⟩
  ·rw [List.nodup_append]
   exact ⟨hn,by simp,fun a ha b hb e=>by rw [List.mem_singleton] at hb;exact hkk (by rw [← hb,← e];exact ha)⟩
  ·rw [List.mem_append,List.mem_singleton,hm l,hd,List.mem_cons,or_comm]
  ·rcases List.mem_append.1 hl with h | h
   ·exact .inl h
   ·exact .inr (List.mem_singleton.1 h)
theorem firstAt_get {kd:TypeDesc} {enc:κ→Value} (hs:∀ a b,Instr.sameNow kd (enc a) (enc b)=some (decide (a=b))) (hko:∀ a,keyOk kd (enc a)=true) {labs:List κ} {M:Ob} (h:FirstAt enc labs 0 M) {H:Heap} {j:Nat} (hH:H[j]?=some M) (z:V) (l:κ):
 xMapGet H kd z true (.mp j) (.s (enc l))=some (.tup [if memD labs l then .s (.int .i64 (fidx labs l:Nat)) else z,bl (memD labs l)]):=by
 obtain ⟨ks,f,rfl,hn,hm,hf⟩:=h
 rw [get_g hs hko hH z true l,if_pos rfl]
 rw [List.drop_zero] at hm hf
 have e:memD labs l=decide (l∈ks):=by
  rw [memD,Bool.eq_iff_iff,decide_eq_true_iff,decide_eq_true_iff,hm l]
 rw [e]
 by_cases hl:l∈ks
 ·have:=hf l hl
  rw [if_pos hl,this,decide_eq_true hl,if_pos rfl,Nat.zero_add]
 ·rw [if_neg hl,decide_eq_false hl,if_neg Bool.false_ne_true]
end
end Go.AM
set_option maxRecDepth 100000
namespace Go.Proofs.Ytgimjihhlhjejaa
open Go.AM
abbrev Sb (b:ByteArray):V:=.s (.string b)
structure BlkD where
 label:ByteArray
 n:Nat
 op:Int
 labs:List ByteArray
structure InsC where
 op:Int
 d:ByteArray
 a:ByteArray
 b:ByteArray
 k:Int
 f:ByteArray
 av:V
 lv:V
def InsC.cells (x:InsC):List V:=[.s (.int .u8 x.op),Sb x.d,Sb x.a,Sb x.b,.s (.int .i64 x.k),Sb x.f,x.av,x.lv]
structure RdBlk (H:Heap) (r:List V) (b:BlkD):Prop where
 ex:∃ (cv:V) (R:List (List V)),r=[Sb b.label,cv]∧RdW 8 H cv R∧R.length=b.n∧(0 < b.n→∃ x:InsC,R[b.n - 1]?=some x.cells∧x.op=b.op∧x.av.one=true∧Rd H x.lv (b.labs.map Sb)∧Wide1 x.lv)
 bn:b.n < 2 ^ 63
 bl:b.labs.length < 2 ^ 63
theorem RdBlk.ext {H H':Heap} {r:List V} {b:BlkD} (h:RdBlk H r b) (k:Ext H H'):RdBlk H' r b:=by
 obtain ⟨⟨cv,R,h1,h2,h3,h4⟩,h5,h6⟩:=h
 refine ⟨⟨cv,R,h1,h2.ext2 k,h3,fun h=>?_⟩,h5,h6⟩
 obtain ⟨x,x1,x2,x3,x4,x5⟩:=h4 h
 exact ⟨x,x1,x2,x3,x4.ext k,x5⟩
structure RdBlks (H:Heap) (bv:V) (bs:List BlkD):Prop where
 ex:∃ R:List (List V),RdW 2 H bv R∧R.length=bs.length∧∀ (i:Nat) (b:BlkD),bs[i]?=some b→∃ r:List V,R[i]?=some r∧RdBlk H r b
 bn:bs.length < 2 ^ 63
theorem RdBlks.ext {H H':Heap} {bv:V} {bs:List BlkD} (h:RdBlks H bv bs) (k:Ext H H'):RdBlks H' bv bs:=by
 obtain ⟨⟨R,h1,h2,h3⟩,h4⟩:=h
 exact ⟨⟨R,h1.ext2 k,h2,fun i b hb=>by obtain ⟨r,r1,r2⟩:=h3 i b hb;exact ⟨r,r1,r2.ext k⟩⟩,h4⟩
theorem RdBlks.len {H:Heap} {bv:V} {bs:List BlkD} (h:RdBlks H bv bs):xLen H .s bv=some (.s (.int .i64 bs.length)):=by
 obtain ⟨⟨R,h1,h2,_⟩,_⟩:=h
 rw [h1.len,h2]
theorem RdBlks.one {H:Heap} {bv:V} {bs:List BlkD} (h:RdBlks H bv bs):bv.one=true:=by
 obtain ⟨⟨R,h1,_⟩,_⟩:=h
 exact h1.one
theorem RdBlks.at' {H:Heap} {bv:V} {bs:List BlkD} (h:RdBlks H bv bs) {i:Nat} {b:BlkD} (hb:bs[i]?=some b):∃ (a la ca cv:V),xIndexAddr 2 bv (.s (.int .i64 i))=some a∧xLoad H true 2 a=some (.agg [Sb b.label,cv])∧xFieldAddr 0 a=some la∧xLoad H false 1 la=some (Sb b.label)∧xFieldAddr 1 a=some ca∧xLoad H false 1 ca=some cv∧cv.one=true∧xLen H .s cv=some (.s (.int .i64 b.n))∧(0 < b.n→∃ (x:InsC) (e oa va:V),xIndexAddr 8 cv (.s (.int .i64 (b.n - 1:Nat)))=some e∧xLoad H true 8 e=some (.agg x.cells)∧x.op=b.op∧x.av.one=true∧Rd H x.lv (b.labs.map Sb)∧Wide1 x.lv∧xFieldAddr 0 e=some oa∧xLoad H false 1 oa=some (.s (.int .u8 b.op))∧xFieldAddr 7 e=some va∧xLoad H false 1 va=some x.lv):=by
 obtain ⟨⟨R,h1,h2,h3⟩,h4⟩:=h
 obtain ⟨r,r1,r2⟩:=h3 i b hb
 obtain ⟨⟨cv,Q,q1,q2,q3,q4⟩,q5,q6⟩:=r2
 subst q1
 obtain ⟨a,a1,a2,a3⟩:=h1.at' i _ r1
 obtain ⟨la,l1,l2⟩:=a3 0 (Sb b.label) rfl
 obtain ⟨ca,c1,c2⟩:=a3 1 cv rfl
 refine ⟨a,la,ca,cv,a1,a2,l1,l2,c1,c2,q2.one,by rw [q2.len,q3],fun hn=>?_⟩
 obtain ⟨x,x1,x2,x3,x4,x5⟩:=q4 hn
 obtain ⟨e,e1,e2,e3⟩:=q2.at' _ _ x1
 obtain ⟨oa,o1,o2⟩:=e3 0 (.s (.int .u8 x.op)) rfl
 obtain ⟨va,v1,v2⟩:=e3 7 x.lv rfl
 exact ⟨x,e,oa,va,e1,e2,x2,x3,x4,x5,o1,by rw [← x2];exact o2,v1,v2⟩
def fnC (nm:ByteArray) (pv bv:V):List V:=[Sb nm,pv,bv]
theorem Sb_len {H:Heap} {v:V} {l:List ByteArray} (h:Rd H v (l.map Sb)):xLen H .s v=some (.s (.int .i64 l.length)):=by
 have:=h.len
 rwa [List.length_map] at this
section
variable {CT:Nat→Option CFun}
def blk0:BlkD:=⟨⟨#[]⟩,0,0,[]⟩
theorem box_at {H C:Heap} {nm:ByteArray} {pv bv:V} (h:Ext (H ++ [Ob.cells 0 (fnC nm pv bv)]) C):xLoad C false 1 (.ref H.length 0 2)=some bv∧(pv.one=true→bv.one=true→xLoad C true 3 (.ref H.length 0 0)=some (.agg (fnC nm pv bv))):=by
 have hg:getC C H.length 0=some (fnC nm pv bv):=getC_ext (getC_new H 0 _) h
 refine ⟨?_,fun h1 h2=>?_⟩
 ·rw [xo_ref,hg];rfl
 ·rw [xo_ref,hg];rfl
end
end Go.Proofs.Ytgimjihhlhjejaa
set_option maxRecDepth 100000
namespace Go.Proofs.Ytgimjihhlhjejaa
open Go.AM
theorem own_append2 {m base bytes:Nat} {H:Heap} {v x:V} {l:List V} (h:OwnN m H v l) (hb:base≤m) (hx:x.one=true) (hs:(l.length+1) * bytes≤2 ^ 47) (hm:m≤H.length):
 ∃ v' H',appendV (H ++ [.cells 0 [x]]) base 1 bytes v (.sl H.length 0 0 1 1)=some (v',H')∧OwnN m H' v' (l ++ [x])∧H.length≤H'.length∧(∀ i,i < H.length→(∀ g n,v≠.sl i g 0 n 1)→H'[i]?=H[i]?)∧(∀ id g n,v'=.sl id g 0 n 1→H.length≤id∨∃ g n,v=.sl id g 0 n 1):=by
 have hx':[x].all V.one=true:=by simp [hx]
 have hnew:1 * bytes≤2 ^ 47:=by
  refine Nat.le_trans (Nat.mul_le_mul_right _ ?_) hs
  omega
 have hfresh:OwnN m (H ++ [.cells 0 [x]] ++ [.cells 0 [x]]) (.sl (H.length+1) 0 0 1 1) [x]:=by
  refine .inr ⟨H.length+1,0,[x],rfl,?_,Nat.le_refl _,rfl,by omega⟩
  have:=getC_new (H ++ [Ob.cells 0 [x]]) 0 [x]
  simpa using this
 have hsame:∀ i,i < H.length→(H ++ [Ob.cells 0 [x]] ++ [Ob.cells 0 [x]])[i]?=H[i]?:=fun i hi=>by
  rw [List.getElem?_append_left (by simp;omega),List.getElem?_append_left (by omega)]
 rcases h with ⟨rfl,rfl | rfl⟩ | ⟨id,g,c,rfl,hc,hl,ht,hid⟩
 ·refine ⟨.sl (H.length+1) 0 0 1 1,H ++ [.cells 0 [x]] ++ [.cells 0 [x]],?_,hfresh,by simp,fun i hi _=>hsame i hi,fun id g n e=>.inl (by cases e;omega)⟩
  simp only [appendV,elems_new,hx',if_true,nilS,Nat.one_ne_zero,if_false,hnew,List.length_append,List.length_cons,List.length_nil]
 ·refine ⟨.sl (H.length+1) 0 0 1 1,H ++ [.cells 0 [x]] ++ [.cells 0 [x]],?_,hfresh,by simp,fun i hi _=>hsame i hi,fun id g n e=>.inl (by cases e;omega)⟩
  simp only [appendV,elems_new,hx',if_true,Nat.one_ne_zero,if_false,hnew,List.length_append,List.length_cons,List.length_nil]
 ·have hc':=getC_app hc (G:=[Ob.cells 0 [x]])
  have hbi:base≤id:=by omega
  have h2:0+l.length≤c.length:=by omega
  refine ⟨.sl id (g+1) 0 (l.length+1) 1,(H ++ [Ob.cells 0 [x]]).set id (.cells (g+1) (l ++ [x])),?_,.inr ⟨id,g+1,l ++ [x],by simp,getC_set hc' _,Nat.le_refl _,List.take_length,hid⟩,by simp,fun i hi hne=>?_,fun id2 g2 n2 e=>.inr (by cases e;exact ⟨_,_,rfl⟩)⟩
  ·simp only [appendV,elems_new,hx',if_true,true_and,hbi,hc',h2,Nat.one_ne_zero,if_false,hs,List.drop_zero,Nat.mul_one,ht]
  ·have hne':id≠i:=fun e=>by subst e;exact hne _ _ rfl
   rw [List.getElem?_set_ne hne',List.getElem?_append_left hi]
theorem BagO.swap {m o k:Nat} {H H':Heap} {vs:List V} {R:List (List V)} {w v':V} {r r':List V} (h:BagO m H vs R) (ho:o < m) (hw:vs[k]?=some w) (hr:R[k]?=some r) (hv:OwnN m H' v' r') (hk:∀ i,i < H.length→(∀ g n,w≠.sl i g 0 n 1)→H'[i]?=H[i]?) (hf:∀ id g n,v'=.sl id g 0 n 1→H.length≤id∨∃ g n,w=.sl id g 0 n 1):
 BagO m (H'.set o (.cells 0 (vs.set k v'))) (vs.set k v') (R.set k r'):=by
 have hkl:k < vs.length:=(List.getElem?_eq_some_iff.1 hw).1
 have hkeep:∀ (j:Nat) (y:V) (q:List V),j≠k→vs[j]?=some y→OwnN m H y q→OwnN m H' y q:=by
  intro j y q hj hy hq
  rcases hq with hq | ⟨id,g,c,rfl,k1,k2,k3,k4⟩
  ·exact .inl hq
  ·refine .inr ⟨id,g,c,rfl,?_,k2,k3,k4⟩
   have hlt:=getC_lt k1
   simp only [getC] at k1 ⊢
   rw [hk id hlt (fun g' n' e=>by subst e;exact h.2.2 j k _ _ _ _ _ _ hj hy hw rfl)]
   exact k1
 have hold:∀ (j:Nat) (id g n:Nat),j≠k→vs[j]?=some (.sl id g 0 n 1)→(∃ q,R[j]?=some q)→∀ g' n',v'≠.sl id g' 0 n' 1:=by
  intro j id g n hj hy ⟨q,hq⟩ g' n' e
  obtain ⟨y,h1,h2⟩:=h.2.1 j q hq
  rw [hy] at h1
  obtain rfl:=Option.some.inj h1
  have hlt:=own_lt h2 id g n rfl
  rcases hf id g' n' e with e2 | ⟨a,b,e2⟩
  ·omega
  ·subst e2;exact h.2.2 j k _ _ _ _ _ _ hj hy hw rfl
 have hex:∀ j,j < vs.length→∃ q,R[j]?=some q:=fun j hj=>⟨_,List.getElem?_eq_getElem (by rw [← h.1];exact hj)⟩
 refine ⟨by rw [List.length_set,List.length_set];exact h.1,fun j q hq=>?_,fun i j a b c a' b' c' hij hi hj=>?_⟩
 ·by_cases e:k=j
  ·subst e
   rw [List.getElem?_set_self (by rw [← h.1];exact hkl)] at hq
   obtain rfl:=Option.some.inj hq
   exact ⟨v',List.getElem?_set_self hkl,hv.set ho _⟩
  ·rw [List.getElem?_set_ne e] at hq
   obtain ⟨y,h1,h2⟩:=h.2.1 j q hq
   exact ⟨y,by rw [List.getElem?_set_ne e];exact h1,(hkeep j y q (Ne.symm e) h1 h2).set ho _⟩
 ·by_cases e:k=i
  ·subst e
   rw [List.getElem?_set_self hkl] at hi
   rw [List.getElem?_set_ne hij] at hj
   have hi:=Option.some.inj hi
   intro e2
   subst e2
   exact hold j a b' c' (Ne.symm hij) hj (hex j (List.getElem?_eq_some_iff.1 hj).1) _ _ hi
  ·rw [List.getElem?_set_ne e] at hi
   by_cases e3:k=j
   ·subst e3
    rw [List.getElem?_set_self hkl] at hj
    have hj:=Option.some.inj hj
    intro e2
    subst e2
    exact hold i a b c hij hi (hex i (List.getElem?_eq_some_iff.1 hi).1) _ _ hj
   ·rw [List.getElem?_set_ne e3] at hj
    exact h.2.2 i j _ _ _ _ _ _ hij hi hj
theorem BagO.append {m o base bytes k:Nat} {H:Heap} {vs:List V} {R:List (List V)} {r:List V} {x:V} (h:BagO m H vs R) (hc:getC H o 0=some vs) (ho:o < m) (hb:base≤m) (hm:m≤H.length) (hr:R[k]?=some r) (hx:x.one=true) (hs:(r.length+1) * bytes≤2 ^ 47):
 ∃ w v' H',vs[k]?=some w∧appendV (H ++ [.cells 0 [x]]) base 1 bytes w (.sl H.length 0 0 1 1)=some (v',H')∧v'.one=true∧getC H' o 0=some vs∧H.length≤H'.length∧
   BagO m (H'.set o (.cells 0 (vs.set k v'))) (vs.set k v') (R.set k (r ++ [x]))∧∀ H0,H0.length≤m→Ext H0 H→Ext H0 H':=by
 obtain ⟨w,hw,hwr⟩:=h.2.1 k r hr
 obtain ⟨v',H',q1,q2,q3,q4,q5⟩:=own_append2 (x:=x) (base:=base) (bytes:=bytes) hwr hb hx hs hm
 have hne:∀ i,i < m→∀ g n,w≠.sl i g 0 n 1:=fun i hi g n e=>by have:=own_at hwr i g n e;omega
 have hol:=getC_lt hc
 refine ⟨w,v',H',hw,q1,q2.one,?_,q3,h.swap ho hw hr q2 q4 q5,fun H0 h0 he=>Ext.of_get (by have:=he.le;omega) fun i hi=>?_⟩
 ·simp only [getC] at hc ⊢
  rw [q4 o hol (hne o ho)];exact hc
 ·rw [q4 i (by have:=he.le;omega) (hne i (by omega)),he.get hi]
end Go.Proofs.Ytgimjihhlhjejaa
set_option maxRecDepth 100000
namespace Go.Proofs.Ytgimjihhlhjejaa
open Go.AM
def eS:ByteArray→Value:=.string
abbrev Iz (n:Int):V:=.s (.int .i64 n)
def lpO (h:Nat):Ob:=.loop .ready none (frOf 103 [(1,V.ref h 0 0),(2,V.ref (h+1) 0 0),(4,V.ref (h+3) 0 0),(18,V.fn k_f28 [] [V.ref (h+4) 0 0])]) [19,20] s_cfg_Of_a0 s_f13_b0
def hC (H:Heap) (o1 o2 M:Ob) (bv:V):Heap:=H ++ [o1] ++ [o2] ++ [M] ++ [.cells 0 [V.mp (H.length+2)]] ++ [.cells 0 [bv]] ++ [lpO H.length]
theorem hC_len (H:Heap) (o1 o2 M:Ob) (bv:V):(hC H o1 o2 M bv).length=H.length+6:=by simp [hC]
theorem hC_lp (H:Heap) (o1 o2 M:Ob) (bv:V) (G:Heap):(hC H o1 o2 M bv ++ G)[H.length+5]?=some (lpO H.length):=by simp [hC]
theorem hC_b (H:Heap) (o1 o2 M:Ob) (bv:V) (G:Heap):getC (hC H o1 o2 M bv ++ G) (H.length+4) 0=some [bv]:=by simp [hC,getC]
section
variable {CT:Nat→Option CFun}
theorem of_yld (base:Nat) (H G:Heap) (hb:base≤H.length) (o1 o2 M:Ob) (bv:V) {labs:List ByteArray} {i:Nat} {l:ByteArray} {cv:V} (hcv:cv.one=true) (hM:FirstAt eS labs (i+1) M) (hl:labs[i]?=some l):
 ∃ M',callW CT (.yld (H.length+5)) [Iz i,.agg [Sb l,cv]] base (hC H o1 o2 M bv ++ G)=some (bl true,hC H o1 o2 M' bv ++ (G ++ [.cells 0 [Sb l,cv]]))∧FirstAt eS labs i M':=by
 obtain ⟨lp,hlp⟩:∃ lp,Ob.loop .busy none (frOf 103 [(1,V.ref H.length 0 0),(2,V.ref (H.length+1) 0 0),(4,V.ref (H.length+3) 0 0),(18,V.fn k_f28 [] [V.ref (H.length+4) 0 0])]) [19,20] s_cfg_Of_a0 s_f13_b0=lp:=⟨_,rfl⟩
 obtain ⟨HB,hHB⟩:∃ HB,(hC H o1 o2 M bv ++ G ++ [Ob.cells 0 [Sb l,cv]]).set (H.length+5) lp=HB:=⟨_,rfl⟩
 have e6:hC H o1 o2 M bv ++ G ++ [Ob.cells 0 [Sb l,cv]]=hC H o1 o2 M bv ++ (G ++ [Ob.cells 0 [Sb l,cv]]):=List.append_assoc ..
 have hlen:(hC H o1 o2 M bv ++ G).length=H.length+(6+G.length):=by rw [List.length_append,hC_len];omega
 have hHB2:HB=H ++ [o1] ++ [o2] ++ [M] ++ [Ob.cells 0 [V.mp (H.length+2)]] ++ [Ob.cells 0 [bv]] ++ [lp] ++ (G ++ [Ob.cells 0 [Sb l,cv]]):=by rw [← hHB];simp [hC]
 have hM2:HB[H.length+2]?=some M:=by rw [hHB2];simp
 obtain ⟨M',u1,u2⟩:=firstAt_step same_str key_str hM hl (H:=HB) (base:=base) (j:=H.length+2) (by omega) hM2
 refine ⟨M',?_,u2⟩
 have h0:=hC_lp H o1 o2 M bv G
 refine callW_yld2 (by omega) h0 (fr:=frOf 103 [(1,V.ref H.length 0 0),(2,V.ref (H.length+1) 0 0),(4,V.ref (H.length+3) 0 0),(18,V.fn k_f28 [] [V.ref (H.length+4) 0 0]),(19,Iz i),(20,.agg [Sb l,cv])]) (fr1:=frOf 103 [(4,V.ref (H.length+3) 0 0),(5,Iz i),(6,V.ref (H.length+(6+G.length)) 0 0)]) (H1:=hC H o1 o2 M bv ++ G ++ [.cells 0 [Sb l,cv]]) ?_ ?_ (by rw [e6];exact hC_lp H o1 o2 M bv _) ?_
 ·simp only [aa,bl,i64,reduceIte,reduceCtorEq,Nat.reduceEqDiff,Nat.reduceLT,Nat.reduceLeDiff,Nat.reduceBEq,Nat.reduceAdd,fillA,splice,Nat.reduceMul,amY,op_eqP]
 ·have h6:base≤H.length+(6+G.length):=by omega
  have hs:∀ a b,(hC H o1 o2 M bv ++ G ++ [a]).set (H.length+(6+G.length)) b=hC H o1 o2 M bv ++ G ++ [b]:=fun a b=>by
   have:=set_snoc (hC H o1 o2 M bv ++ G) a b
   rwa [hlen] at this
  have hg:∀ c,getC (hC H o1 o2 M bv ++ G ++ [Ob.cells 0 c]) (H.length+(6+G.length)) 0=some c:=fun c=>by
   have:=getC_new (hC H o1 o2 M bv ++ G) 0 c
   rwa [hlen] at this
  simp only [s_cfg_Of_a0,a_f13,s_f13_l1_b,s_f13_l2_b,aa,bl,i64,reduceIte,reduceCtorEq,Nat.reduceEqDiff,Nat.reduceLT,Nat.reduceLeDiff,Nat.reduceBEq,Nat.reduceAdd,fillA,splice,Nat.reduceMul,amY,op_eqP,hlen,h6,hg,hs,hcv,Bool.and_self]
 ·rw [hlp,hHB]
  have g1:getC HB (H.length+3) 0=some [V.mp (H.length+2)]:=by rw [hHB2];simp [getC]
  have g2:getC HB (H.length+(6+G.length)) 0=some [Sb l,cv]:=by
   rw [← hHB,getC_set_ne _ (by omega)]
   have:=getC_new (hC H o1 o2 M bv ++ G) 0 [Sb l,cv]
   rwa [hlen] at this
  have g3:(HB.set (H.length+2) M')[H.length+5]?=some lp:=by rw [hHB2];simp
  have g4:(HB.set (H.length+2) M').set (H.length+5) (lpO H.length)=hC H o1 o2 M' bv ++ (G ++ [.cells 0 [Sb l,cv]]):=by rw [hHB2];simp [hC]
  have hb1:evC (callW CT) itW base s_f13_b0 (frOf 103 [(4,V.ref (H.length+3) 0 0),(5,Iz i),(6,V.ref (H.length+(6+G.length)) 0 0)]) HB=some (.nrm,frOf 103 [],HB.set (H.length+2) M'):=by
   simp only [s_f13_b0,a_f13,s_f13_l1_b,s_f13_l2_b,aa,bl,i64,reduceIte,reduceCtorEq,Nat.reduceEqDiff,Nat.reduceLT,Nat.reduceLeDiff,Nat.reduceBEq,Nat.reduceAdd,fillA,splice,Nat.reduceMul,amY,op_eqP,op_mapUpd,g1,g2,u1]
  rw [← hlp] at g3
  rw [hb1,yldE_some g3]
  exact congrArg some (Prod.ext rfl g4)
theorem backward_fun (hB:CT k_f21=some (.code s_f21)) (base:Nat) (H:Heap) {bv:V} (hx:bv.one=true):
 callW CT (.fn k_f21 [] []) [bv] base H=some (.fn k_f28 [] [.ref H.length 0 0],H ++ [.cells 0 [bv]]):=by
 have hcl:=cells_of_one hx
 refine callW_fnA (c:=s_f21) (k:=1) hB rfl (by decide) s_f21_first ?_
 simp only [s_f21,a_f21,aa,bl,i64,reduceIte,reduceCtorEq,Nat.reduceEqDiff,Nat.reduceLT,Nat.reduceLeDiff,Nat.reduceBEq,Nat.reduceAdd,fillA,splice,Nat.reduceMul,amY,op_eqP,hcl,hx,List.all_cons,List.all_nil,Bool.and_self,xsub_mkFn]
theorem trim_app {C:Heap} {m:Nat} (h:C.length=m) (fr:List V) (G:Heap):∃ G',trim m fr (C ++ G)=C ++ G':=by
 rcases trim_or m fr (C ++ G) with e | ⟨e,_⟩
 ·exact ⟨G,e⟩
 ·exact ⟨[],by rw [e,← h,List.take_left,List.append_nil]⟩
theorem of_range (hB1:CT k_f28=some (.code s_f28)) (base:Nat) (H:Heap) (hb:base≤H.length) (o1 o2:Ob) {bv:V} {bs:List BlkD} (hv:RdBlks H bv bs) (hn:bs.length < 2 ^ 40):
 ∃ M' G',callW CT (.fn k_f28 [] [.ref (H.length+4) 0 0]) [.yld (H.length+5)] base (hC H o1 o2 (.map []) bv)=some (.tup [],hC H o1 o2 M' bv ++ G')∧FirstAt eS (bs.map (·.label)) 0 M':=by
 have hE:∀ M G,Ext H (hC H o1 o2 M bv ++ G):=fun M G=>⟨[o1] ++ [o2] ++ [M] ++ [.cells 0 [V.mp (H.length+2)]] ++ [.cells 0 [bv]] ++ [lpO H.length] ++ G,by simp [hC]⟩
 have hg:∀ M G,xLoad (hC H o1 o2 M bv ++ G) false 1 (.ref (H.length+4) 0 0)=some bv:=fun M G=>getC_load (hC_b H o1 o2 M bv G)
 have hlab:(bs.map (·.label)).length=bs.length:=List.length_map _
 obtain ⟨⟨M',G'⟩,e1,e2⟩:=it_rel (S:=Ob × Heap) bs.length (fun k s=>FirstAt eS (bs.map (·.label)) (bs.length - k) s.1) (fun k s=>itW (evC (callW CT) itW base s_f28_l0) [] (H.length+6) (frOf 19 [(0,.yld (H.length+5)),(1,.ref (H.length+4) 0 0),(3,Iz ((bs.length:Int) - 1 - k))]) (hC H o1 o2 s.1 bv ++ s.2)) (by
  intro k ⟨M,G⟩ hk hM
  obtain ⟨i,hi⟩:∃ i,bs.length - k=i+1:=⟨bs.length - k - 1,by omega⟩
  have hi2:bs.length - (k+1)=i:=by omega
  have hib:i < bs.length:=by omega
  have e0:((bs.length:Int) - 1 - (k:Int))=(i:Int):=by omega
  have e1:((bs.length:Int) - 1 - ((k+1:Nat):Int))=(i:Int) - 1:=by omega
  have hwk:IntKind.i64.wrap ((i:Int) - 1)=(i:Int) - 1:=by rw [IntKind.wrap_i64];omega
  have hge:(0:Int)≤(i:Int):=by omega
  rw [hi] at hM
  rw [hi2]
  have hbi:=some_getD hib blk0
  obtain ⟨a,la,ca,cv,a1,a2,l1,l2,c1,c2,co,cl,hq⟩:=(hv.ext (hE M G)).at' hbi
  obtain ⟨M',y1,y2⟩:=of_yld (CT:=CT) base H G hb o1 o2 M bv (i:=i) (l:=(bs.getD i blk0).label) co hM (by rw [List.getElem?_map,hbi];rfl)
  obtain ⟨G',hG'⟩:=trim_app (hC_len H o1 o2 M' bv) (frOf 19 [(0,.yld (H.length+5)),(1,.ref (H.length+4) 0 0),(3,Iz ((i:Int) - 1))]) (G ++ [.cells 0 [Sb (bs.getD i blk0).label,cv]])
  refine ⟨(M',G'),?_,y2⟩
  rw [e0,e1,itW_step]
  simp only [bl] at y1
  simp only [a_f28,s_f28_l0_b,aa,bl,i64,reduceIte,reduceCtorEq,Nat.reduceEqDiff,Nat.reduceLT,Nat.reduceLeDiff,Nat.reduceBEq,Nat.reduceAdd,fillA,splice,Nat.reduceMul,amY,op_eqP,ge_iff_le,hge,hg,a1,a2,y1,hwk,hG']) 0 (.map [],[]) (Nat.zero_le _) (by have:=firstAt_start eS (bs.map (·.label));rwa [hlab] at this)
 rw [Nat.sub_self] at e2
 obtain ⟨G2,hG2⟩:=trim_app (hC_len H o1 o2 M' bv) (frOf 19 [(0,.yld (H.length+5)),(1,.ref (H.length+4) 0 0),(3,Iz (-1)),(8,bl false)]) G'
 refine ⟨M',G2,callW_fn (c:=s_f28) hB1 (by simp [s_f28]) ?_,e2⟩
 have hlast:itW (evC (callW CT) itW base s_f28_l0) [] (H.length+6) (frOf 19 [(0,.yld (H.length+5)),(1,.ref (H.length+4) 0 0),(3,Iz (-1))]) (hC H o1 o2 M' bv ++ G')=some (.ext 0,frOf 19 [(0,.yld (H.length+5)),(1,.ref (H.length+4) 0 0),(3,Iz (-1)),(8,bl false)],hC H o1 o2 M' bv ++ G2):=by
  have hge:¬ ((0:Int)≤-1):=by omega
  rw [itW_step]
  simp only [bl] at hG2
  simp only [bl,a_f28,s_f28_l0_b,aa,bl,i64,reduceIte,reduceCtorEq,Nat.reduceEqDiff,Nat.reduceLT,Nat.reduceLeDiff,Nat.reduceBEq,Nat.reduceAdd,fillA,splice,Nat.reduceMul,amY,op_eqP,ge_iff_le,hge,hG2]
 have e3:((bs.length:Int) - 1 - (bs.length:Int))=-1:=by omega
 have e4:((bs.length:Int) - 1 - ((0:Nat):Int))=(bs.length:Int) - 1:=by omega
 rw [e3,e4,List.append_nil,hlast] at e1
 have hl0:=hg (.map []) []
 rw [List.append_nil] at hl0
 have hbl:=(hv.ext (by have:=hE (.map []) [];rwa [List.append_nil] at this)).len (H:=hC H o1 o2 (.map []) bv)
 have hwk:IntKind.i64.wrap ((bs.length:Int) - 1)=(bs.length:Int) - 1:=by rw [IntKind.wrap_i64];omega
 simp only [bl] at e1
 simp only [s_f28,a_f28,s_f28_l0_b,aa,bl,i64,reduceIte,reduceCtorEq,Nat.reduceEqDiff,Nat.reduceLT,Nat.reduceLeDiff,Nat.reduceBEq,Nat.reduceAdd,fillA,splice,Nat.reduceMul,amY,op_eqP,hl0,hbl,hwk,hC_len,e1,res_nil]
end
end Go.Proofs.Ytgimjihhlhjejaa
