/- Texts of the proof: SccS1, SccS3, SccS4, SccS2. -/
import Derived.Test.YtchekhggdbcbbaaP0
import Derived.Test.YtchekhggdbcbbaaP1
import Derived.Test.YtchekhggdbcbbaaP2
import Derived.KernelRfl
import Derived.Test.YtchekhggdbcbbaaProg
set_option linter.all false
set_option maxRecDepth 100000
namespace Go.Proofs.Ytchekhggdbcbbaa
open Go.AM
abbrev k_f11:Nat:=11
def s_f11_r0_k:List Nat:=[1,2,3,4,5,6,7,8,9,10,11,12,13,14,15,16,17,18,19,20,21,22,23,24,25,26,27,28,29,30,31,32,33,34,35,36,37,38,39,40,41,42,43,44,45,46,47,48,49,50,51,52,53,54,55,56,57,58,59,60,61,62,63,64,65,66,67,68,69,70,71,72,73,74,75,76,77,78,79,80,81,82,83,84]
theorem s_f11_r0_kT:killV s_f11_r0_k (startV 85 [] 1)=[]:=by kernel_rfl
theorem s_f11_r0_kA0:s_f11_r0_k.contains 0=false:=by kernel_rfl
def s_f11_r0:List AOper:=[
 ⟨some 2,(.move (.c (.s (.slice none 0 0)))),none⟩]
def s_f11_r0_tale:=hT s_f11_r0 s_f11_r0_k [] 3 [] [] [.cc (.s (.slice none 0 0))] (by kernel_rfl) (by kernel_rfl)
def s_f11_r1t4:List AOper:=[⟨some 3,(.move (.t 15)),none⟩]
def s_f11_r1p3:List AOper:=[⟨some 15,(.box (.t 14)),none⟩]
def s_f11_r1t3:List AOper:=s_f11_r1p3 ++ s_f11_r1t4
def s_f11_r1p2:List AOper:=[⟨some 14,(.build [(.s (.slice none 0 0)),(.s (.slice none 0 0)),(.s (.slice none 0 0)),(.s (.slice none 0 0)),(.s (.slice none 0 0)),(.s (.int .i64 0))] [(0,1),(1,1),(2,1),(3,1),(4,1),(5,1)] [(0,(.t 13))]),none⟩]
def s_f11_r1t2:List AOper:=s_f11_r1p2 ++ s_f11_r1t3
def s_f11_r1p1:List AOper:=[⟨some 13,(.call (.c (.fn 21 [] [])) [(.t 12)]),none⟩]
def s_f11_r1t1:List AOper:=s_f11_r1p1 ++ s_f11_r1t2
def s_f11_r1p0:List AOper:=[⟨some 12,(.move (.t 0)),none⟩]
def s_f11_r1:List AOper:=s_f11_r1p0 ++ s_f11_r1t1
def s_f11_r1p0_tale:=hT s_f11_r1p0 [0] [12] 13 [] [(12,(.t 0))] [.tt 0] (by kernel_rfl) (by kernel_rfl)
def s_f11_r1_x:=hS s_f11_r1 s_f11_r1p0 s_f11_r1t1 [0] [12] [0,12,13,14,15] rfl (by kernel_rfl)
def s_f11_r1t1_x:=hO s_f11_r1t1 s_f11_r1p1 s_f11_r1t2 [12] [0,12,13,14,15] [⟨some 13,(.call (.c (.fn 21 [] [])) [(.t 12)]),none⟩] rfl rfl (by kernel_rfl)
def s_f11_r1p2_tale:=hT s_f11_r1p2 [13] [14] 15 [] [(14,(.op (.build [(.s (.slice none 0 0)),(.s (.slice none 0 0)),(.s (.slice none 0 0)),(.s (.slice none 0 0)),(.s (.slice none 0 0)),(.s (.int .i64 0))] [(0,1),(1,1),(2,1),(3,1),(4,1),(5,1)] [(0,(.t 0))]) [(.t 13)]))] [.sub 0 [] []] (by kernel_rfl) (by kernel_rfl)
def s_f11_r1t2_x:=hS s_f11_r1t2 s_f11_r1p2 s_f11_r1t3 [13] [14] [0,12,13,14,15] rfl (by kernel_rfl)
def s_f11_r1t3_x:=hO s_f11_r1t3 s_f11_r1p3 s_f11_r1t4 [14] [0,12,13,14,15] [⟨some 15,(.box (.t 14)),none⟩] rfl rfl (by kernel_rfl)
def s_f11_r1t4_tale:=hT s_f11_r1t4 [0,12,13,14,15] [3] 4 [] [(3,(.t 15))] [.tt 15] (by kernel_rfl) (by kernel_rfl)
def s_f11_r1t4_x:=hL s_f11_r1t4 [0,12,13,14,15] [3]
def s_f11_r2t2:List AOper:=[⟨some 4,(.move (.t 20)),none⟩]
def s_f11_r2p1:List AOper:=[⟨some 20,(.call (.c (.fn 25 [] [])) [(.t 19)]),none⟩]
def s_f11_r2t1:List AOper:=s_f11_r2p1 ++ s_f11_r2t2
def s_f11_r2p0:List AOper:=[⟨some 16,(.move (.t 3)),none⟩,⟨some 17,(.nilCheck (.t 16)),none⟩,⟨some 18,(.fieldAddr 0 (.t 17)),none⟩,⟨some 19,(.load false 1 (.t 18)),none⟩]
def s_f11_r2:List AOper:=s_f11_r2p0 ++ s_f11_r2t1
def s_f11_r2p0_tale:=hT s_f11_r2p0 [16,17,18] [19] 20 [] [(19,(.op (.load false 1 (.t 0)) [(.op (.fieldAddr 0 (.t 0)) [(.op (.nilCheck (.t 0)) [(.t 3)])])]))] [.tt 3,.sub 0 [0,0] [],.sub 0 [0] [],.sub 0 [] []] (by kernel_rfl) (by kernel_rfl)
def s_f11_r2_x:=hS s_f11_r2 s_f11_r2p0 s_f11_r2t1 [16,17,18] [19] [16,17,18,19,20] rfl (by kernel_rfl)
def s_f11_r2t1_x:=hO s_f11_r2t1 s_f11_r2p1 s_f11_r2t2 [19] [16,17,18,19,20] [⟨some 20,(.call (.c (.fn 25 [] [])) [(.t 19)]),none⟩] rfl rfl (by kernel_rfl)
def s_f11_r2t2_tale:=hT s_f11_r2t2 [16,17,18,19,20] [4] 5 [] [(4,(.t 20))] [.tt 20] (by kernel_rfl) (by kernel_rfl)
def s_f11_r2t2_x:=hL s_f11_r2t2 [16,17,18,19,20] [4]
def s_f11_r3t12:List AOper:=[⟨none,(.store 1 (.t 36) (.t 30)),none⟩]
def s_f11_r3p11:List AOper:=[⟨some 35,(.nilCheck (.t 23)),none⟩,⟨some 36,(.fieldAddr 4 (.t 35)),none⟩]
def s_f11_r3t11:List AOper:=s_f11_r3p11 ++ s_f11_r3t12
def s_f11_r3p10:List AOper:=[⟨none,(.store 1 (.t 34) (.t 27)),none⟩]
def s_f11_r3t10:List AOper:=s_f11_r3p10 ++ s_f11_r3t11
def s_f11_r3p9:List AOper:=[⟨some 33,(.nilCheck (.t 22)),none⟩,⟨some 34,(.fieldAddr 2 (.t 33)),none⟩]
def s_f11_r3t9:List AOper:=s_f11_r3p9 ++ s_f11_r3t10
def s_f11_r3p8:List AOper:=[⟨none,(.store 1 (.t 32) (.t 25)),none⟩]
def s_f11_r3t8:List AOper:=s_f11_r3p8 ++ s_f11_r3t9
def s_f11_r3p7:List AOper:=[⟨some 31,(.nilCheck (.t 21)),none⟩,⟨some 32,(.fieldAddr 1 (.t 31)),none⟩]
def s_f11_r3t7:List AOper:=s_f11_r3p7 ++ s_f11_r3t8
def s_f11_r3p6:List AOper:=[⟨some 30,(.callR (.c (.fn 26 [] [])) [(.t 28),(.t 29)]),none⟩]
def s_f11_r3t6:List AOper:=s_f11_r3p6 ++ s_f11_r3t7
def s_f11_r3p5:List AOper:=[⟨some 29,(.move (.t 4)),none⟩]
def s_f11_r3t5:List AOper:=s_f11_r3p5 ++ s_f11_r3t6
def s_f11_r3p4:List AOper:=[⟨some 28,(.buildSl 1 1 [(.s (.int .i64 0))] [(0,(.c (.s (.int .i64 (-1)))))]),none⟩]
def s_f11_r3t4:List AOper:=s_f11_r3p4 ++ s_f11_r3t5
def s_f11_r3p3:List AOper:=[⟨some 27,(.mkSl [(.s (.int .i64 0))] 1 8 (.t 26) (.t 26)),none⟩]
def s_f11_r3t3:List AOper:=s_f11_r3p3 ++ s_f11_r3t4
def s_f11_r3p2:List AOper:=[⟨some 26,(.move (.t 4)),none⟩]
def s_f11_r3t2:List AOper:=s_f11_r3p2 ++ s_f11_r3t3
def s_f11_r3p1:List AOper:=[⟨some 25,(.mkSl [(.s (.int .i64 0))] 1 8 (.t 24) (.t 24)),none⟩]
def s_f11_r3t1:List AOper:=s_f11_r3p1 ++ s_f11_r3t2
def s_f11_r3p0:List AOper:=[⟨some 21,(.move (.t 3)),none⟩,⟨some 22,(.move (.t 3)),none⟩,⟨some 23,(.move (.t 3)),none⟩,⟨some 24,(.move (.t 4)),none⟩]
def s_f11_r3:List AOper:=s_f11_r3p0 ++ s_f11_r3t1
def s_f11_r3p0_tale:=hT s_f11_r3p0 [] [21,22,23,24] 25 [] [(21,(.t 3)),(22,(.t 3)),(23,(.t 3)),(24,(.t 4))] [.tt 3,.tt 3,.tt 3,.tt 4] (by kernel_rfl) (by kernel_rfl)
def s_f11_r3_x:=hS s_f11_r3 s_f11_r3p0 s_f11_r3t1 [] [21,22,23,24] [21,22,23,24,25,26,27,28,29,30,31,32,33,34,35,36] rfl (by kernel_rfl)
def s_f11_r3t1_x:=hO s_f11_r3t1 s_f11_r3p1 s_f11_r3t2 [24] [21,22,23,24,25,26,27,28,29,30,31,32,33,34,35,36] [⟨some 25,(.mkSl [(.s (.int .i64 0))] 1 8 (.t 24) (.t 24)),none⟩] rfl rfl (by kernel_rfl)
def s_f11_r3p2_tale:=hT s_f11_r3p2 [] [26] 27 [] [(26,(.t 4))] [.tt 4] (by kernel_rfl) (by kernel_rfl)
def s_f11_r3t2_x:=hS s_f11_r3t2 s_f11_r3p2 s_f11_r3t3 [] [26] [21,22,23,24,25,26,27,28,29,30,31,32,33,34,35,36] rfl (by kernel_rfl)
def s_f11_r3t3_x:=hO s_f11_r3t3 s_f11_r3p3 s_f11_r3t4 [26] [21,22,23,24,25,26,27,28,29,30,31,32,33,34,35,36] [⟨some 27,(.mkSl [(.s (.int .i64 0))] 1 8 (.t 26) (.t 26)),none⟩] rfl rfl (by kernel_rfl)
def s_f11_r3t4_x:=hO s_f11_r3t4 s_f11_r3p4 s_f11_r3t5 [] [21,22,23,24,25,26,27,28,29,30,31,32,33,34,35,36] [⟨some 28,(.buildSl 1 1 [(.s (.int .i64 0))] [(0,(.c (.s (.int .i64 (-1)))))]),none⟩] rfl rfl (by kernel_rfl)
def s_f11_r3p5_tale:=hT s_f11_r3p5 [] [29] 30 [] [(29,(.t 4))] [.tt 4] (by kernel_rfl) (by kernel_rfl)
def s_f11_r3t5_x:=hS s_f11_r3t5 s_f11_r3p5 s_f11_r3t6 [] [29] [21,22,23,24,25,26,27,28,29,30,31,32,33,34,35,36] rfl (by kernel_rfl)
def s_f11_r3t6_x:=hO s_f11_r3t6 s_f11_r3p6 s_f11_r3t7 [28,29] [21,22,23,24,25,26,27,28,29,30,31,32,33,34,35,36] [⟨some 30,(.callR (.c (.fn 26 [] [])) [(.t 28),(.t 29)]),none⟩] rfl rfl (by kernel_rfl)
def s_f11_r3p7_tale:=hT s_f11_r3p7 [21,31] [32] 33 [] [(32,(.op (.fieldAddr 1 (.t 0)) [(.op (.nilCheck (.t 0)) [(.t 21)])]))] [.sub 0 [0] [],.sub 0 [] []] (by kernel_rfl) (by kernel_rfl)
def s_f11_r3t7_x:=hS s_f11_r3t7 s_f11_r3p7 s_f11_r3t8 [21,31] [32] [21,22,23,24,25,26,27,28,29,30,31,32,33,34,35,36] rfl (by kernel_rfl)
def s_f11_r3t8_x:=hO s_f11_r3t8 s_f11_r3p8 s_f11_r3t9 [25,32] [21,22,23,24,25,26,27,28,29,30,31,32,33,34,35,36] [⟨none,(.store 1 (.t 32) (.t 25)),none⟩] rfl rfl (by kernel_rfl)
def s_f11_r3p9_tale:=hT s_f11_r3p9 [22,33] [34] 35 [] [(34,(.op (.fieldAddr 2 (.t 0)) [(.op (.nilCheck (.t 0)) [(.t 22)])]))] [.sub 0 [0] [],.sub 0 [] []] (by kernel_rfl) (by kernel_rfl)
def s_f11_r3t9_x:=hS s_f11_r3t9 s_f11_r3p9 s_f11_r3t10 [22,33] [34] [21,22,23,24,25,26,27,28,29,30,31,32,33,34,35,36] rfl (by kernel_rfl)
def s_f11_r3t10_x:=hO s_f11_r3t10 s_f11_r3p10 s_f11_r3t11 [27,34] [21,22,23,24,25,26,27,28,29,30,31,32,33,34,35,36] [⟨none,(.store 1 (.t 34) (.t 27)),none⟩] rfl rfl (by kernel_rfl)
def s_f11_r3p11_tale:=hT s_f11_r3p11 [23,35] [36] 37 [] [(36,(.op (.fieldAddr 4 (.t 0)) [(.op (.nilCheck (.t 0)) [(.t 23)])]))] [.sub 0 [0] [],.sub 0 [] []] (by kernel_rfl) (by kernel_rfl)
def s_f11_r3t11_x:=hS s_f11_r3t11 s_f11_r3p11 s_f11_r3t12 [23,35] [36] [21,22,23,24,25,26,27,28,29,30,31,32,33,34,35,36] rfl (by kernel_rfl)
def s_f11_r3t12_x:=hX s_f11_r3t12 [21,22,23,24,25,26,27,28,29,30,31,32,33,34,35,36] [⟨none,(.store 1 (.t 36) (.t 30)),none⟩] rfl
def s_f11_r4:List AOper:=[
 ⟨some 37,(.move (.t 4)),none⟩,
 ⟨some 38,(.move (.c (.s (.int .i64 0)))),none⟩]
def s_f11_r4_tale:=hT s_f11_r4 [] [37,38] 39 [] [(37,(.t 4)),(38,(.c (.s (.int .i64 0))))] [.tt 4,.cc (.s (.int .i64 0))] (by kernel_rfl) (by kernel_rfl)
def s_f11_r5:List AOper:=[
 ⟨some 39,(.bin .lss (.t 38) (.t 37)),none⟩]
def s_f11_r5_tale:=hT s_f11_r5 [] [39] 40 [] [(39,(.op (.bin .lss (.t 0) (.t 1)) [(.t 38),(.t 37)]))] [.sub 0 [] []] (by kernel_rfl) (by kernel_rfl)
def s_f11_r6:List AOper:=[
 ⟨some 40,(.move (.t 38)),none⟩,
 ⟨some 5,(.move (.t 40)),none⟩]
def s_f11_r6_tale:=hT s_f11_r6 [39,40] [5] 41 [] [(5,(.t 38))] [.tt 38,.tt 38] (by kernel_rfl) (by kernel_rfl)
def s_f11_r7:List AOper:=[
 ⟨some 41,(.move (.t 3)),none⟩,
 ⟨some 42,(.nilCheck (.t 41)),none⟩,
 ⟨some 43,(.fieldAddr 1 (.t 42)),none⟩,
 ⟨some 44,(.load false 1 (.t 43)),none⟩,
 ⟨some 45,(.move (.t 5)),none⟩,
 ⟨some 46,(.indexAddr 1 (.t 44) (.t 45)),none⟩,
 ⟨some 47,(.load false 1 (.t 46)),none⟩,
 ⟨some 48,(.bin .eql (.t 47) (.c (.s (.int .i64 0)))),none⟩]
def s_f11_r7_tale:=hT s_f11_r7 [41,42,43,44,45,46,47] [48] 49 [] [(48,(.op (.bin .eql (.t 0) (.c (.s (.int .i64 0)))) [(.op (.load false 1 (.t 0)) [(.op (.indexAddr 1 (.t 0) (.t 1)) [(.op (.load false 1 (.t 0)) [(.op (.fieldAddr 1 (.t 0)) [(.op (.nilCheck (.t 0)) [(.t 3)])])]),(.t 5)])]),(.c (.s (.int .i64 0)))]))] [.tt 3,.sub 0 [0,0,0,0,0] [],.sub 0 [0,0,0,0] [],.sub 0 [0,0,0] [],.tt 5,.sub 0 [0,0] [],.sub 0 [0] [],.sub 0 [] []] (by kernel_rfl) (by kernel_rfl)
def s_f11_r8t1:List AOper:=[⟨some 51,(.call (.c (.fn 27 [] [])) [(.t 49),(.t 50)]),none⟩]
def s_f11_r8p0:List AOper:=[⟨some 49,(.move (.t 3)),none⟩,⟨some 50,(.move (.t 5)),none⟩]
def s_f11_r8:List AOper:=s_f11_r8p0 ++ s_f11_r8t1
def s_f11_r8p0_tale:=hT s_f11_r8p0 [5,48] [49,50] 51 [] [(49,(.t 3)),(50,(.t 5))] [.tt 3,.tt 5] (by kernel_rfl) (by kernel_rfl)
def s_f11_r8_x:=hS s_f11_r8 s_f11_r8p0 s_f11_r8t1 [5,48] [49,50] [5,48,49,50,51] rfl (by kernel_rfl)
def s_f11_r8t1_x:=hX s_f11_r8t1 [5,48,49,50,51] [⟨some 51,(.call (.c (.fn 27 [] [])) [(.t 49),(.t 50)]),none⟩] rfl
def s_f11_r9:List AOper:=[
 ⟨some 52,(.bin .add (.t 38) (.c (.s (.int .i64 1)))),none⟩,
 ⟨some 38,(.move (.t 52)),none⟩]
def s_f11_r9_tale:=hT s_f11_r9 [5,48,52] [38] 53 [] [(38,(.op (.bin .add (.t 0) (.c (.s (.int .i64 1)))) [(.t 38),(.c (.s (.int .i64 1)))]))] [.sub 0 [] [],.sub 0 [] []] (by kernel_rfl) (by kernel_rfl)
def s_f11_l0_b:ACode:=
 (.seq (.regionE s_f11_r5 [] [39])
 (.seq (.cond (.t 39)
 .skip
 (.exit 0))
 (.seq (.block 1
 (.seq (.regionE s_f11_r6 [39,40] [5])
 (.seq (.regionE s_f11_r7 [41,42,43,44,45,46,47] [48])
 (.cond (.t 48)
 (.region s_f11_r8 [] [5,48,49,50,51])
 .skip))))
 (.regionE s_f11_r9 [5,48,52] [38]))))
def s_f11_l0:ACode:=s_f11_l0_b
def s_f11_l0_ev:=hE s_f11_l0 s_f11_l0_b rfl
def s_f11_r10t1:List AOper:=[⟨some 6,(.move (.t 53)),none⟩]
def s_f11_r10p0:List AOper:=[⟨some 53,.mapNew,none⟩]
def s_f11_r10:List AOper:=s_f11_r10p0 ++ s_f11_r10t1
def s_f11_r10_x:=hO s_f11_r10 s_f11_r10p0 s_f11_r10t1 [37,38,39] [37,38,39,53] [⟨some 53,.mapNew,none⟩] rfl rfl (by kernel_rfl)
def s_f11_r10t1_tale:=hT s_f11_r10t1 [37,38,39,53] [6] 7 [] [(6,(.t 53))] [.tt 53] (by kernel_rfl) (by kernel_rfl)
def s_f11_r10t1_x:=hL s_f11_r10t1 [37,38,39,53] [6]
def s_f11_r11t2:List AOper:=[⟨some 7,(.move (.t 55)),none⟩]
def s_f11_r11p1:List AOper:=[⟨some 55,(.mkSl [(.s (.int .i64 0))] 1 8 (.t 54) (.t 54)),none⟩]
def s_f11_r11t1:List AOper:=s_f11_r11p1 ++ s_f11_r11t2
def s_f11_r11p0:List AOper:=[⟨some 54,(.move (.t 4)),none⟩]
def s_f11_r11:List AOper:=s_f11_r11p0 ++ s_f11_r11t1
def s_f11_r11p0_tale:=hT s_f11_r11p0 [4] [54] 55 [] [(54,(.t 4))] [.tt 4] (by kernel_rfl) (by kernel_rfl)
def s_f11_r11_x:=hS s_f11_r11 s_f11_r11p0 s_f11_r11t1 [4] [54] [4,54,55] rfl (by kernel_rfl)
def s_f11_r11t1_x:=hO s_f11_r11t1 s_f11_r11p1 s_f11_r11t2 [54] [4,54,55] [⟨some 55,(.mkSl [(.s (.int .i64 0))] 1 8 (.t 54) (.t 54)),none⟩] rfl rfl (by kernel_rfl)
def s_f11_r11t2_tale:=hT s_f11_r11t2 [4,54,55] [7] 8 [] [(7,(.t 55))] [.tt 55] (by kernel_rfl) (by kernel_rfl)
def s_f11_r11t2_x:=hL s_f11_r11t2 [4,54,55] [7]
def s_f11_r12:List AOper:=[
 ⟨some 56,(.move (.t 3)),none⟩,
 ⟨some 57,(.nilCheck (.t 56)),none⟩,
 ⟨some 58,(.fieldAddr 4 (.t 57)),none⟩,
 ⟨some 59,(.load false 1 (.t 58)),none⟩,
 ⟨some 60,(.lenS .s (.t 59)),none⟩,
 ⟨some 61,(.move (.c (.s (.int .i64 0)))),none⟩]
def s_f11_r12_tale:=hT s_f11_r12 [3,56,57,58] [59,60,61] 62 [] [(59,(.op (.load false 1 (.t 0)) [(.op (.fieldAddr 4 (.t 0)) [(.op (.nilCheck (.t 0)) [(.t 3)])])])),(60,(.op (.lenS .s (.t 0)) [(.op (.load false 1 (.t 0)) [(.op (.fieldAddr 4 (.t 0)) [(.op (.nilCheck (.t 0)) [(.t 3)])])])])),(61,(.c (.s (.int .i64 0))))] [.tt 3,.sub 0 [0,0] [],.sub 0 [0] [],.sub 0 [] [],.sub 1 [] [],.cc (.s (.int .i64 0))] (by kernel_rfl) (by kernel_rfl)
def s_f11_r13:List AOper:=[
 ⟨some 62,(.bin .lss (.t 61) (.t 60)),none⟩]
def s_f11_r13_tale:=hT s_f11_r13 [] [62] 63 [] [(62,(.op (.bin .lss (.t 0) (.t 1)) [(.t 61),(.t 60)]))] [.sub 0 [] []] (by kernel_rfl) (by kernel_rfl)
def s_f11_r14:List AOper:=[
 ⟨some 63,(.move (.t 61)),none⟩,
 ⟨some 64,(.indexAddr 1 (.t 59) (.t 61)),none⟩,
 ⟨some 65,(.load false 1 (.t 64)),none⟩,
 ⟨some 8,(.move (.t 63)),none⟩,
 ⟨some 9,(.move (.t 65)),none⟩]
def s_f11_r14_tale:=hT s_f11_r14 [62,63,64,65] [8,9] 66 [] [(8,(.t 61)),(9,(.op (.load false 1 (.t 0)) [(.op (.indexAddr 1 (.t 0) (.t 1)) [(.t 59),(.t 61)])]))] [.tt 61,.sub 1 [0] [],.sub 1 [] [],.tt 61,.sub 1 [] []] (by kernel_rfl) (by kernel_rfl)
def s_f11_r15:List AOper:=[
 ⟨some 67,(.move (.t 6)),none⟩,
 ⟨some 68,(.move (.t 9)),none⟩,
 ⟨some 69,(.mapGet (.int .i64) (.s (.int .i64 0)) (.t 67) (.t 68) true),none⟩,
 ⟨some 66,(.move (.t 69)),none⟩,
 ⟨some 70,(.extract (.t 66) 0),none⟩,
 ⟨some 71,(.extract (.t 66) 1),none⟩,
 ⟨some 10,(.move (.t 70)),none⟩,
 ⟨some 11,(.move (.t 71)),none⟩]
def s_f11_r15_tale:=hT s_f11_r15 [66,67,68,69,70,71] [10,11] 72 [] [(10,(.op (.extract (.t 0) 0) [(.op (.mapGet (.int .i64) (.s (.int .i64 0)) (.t 0) (.t 1) true) [(.t 6),(.t 9)])])),(11,(.op (.extract (.t 0) 1) [(.op (.mapGet (.int .i64) (.s (.int .i64 0)) (.t 0) (.t 1) true) [(.t 6),(.t 9)])]))] [.tt 6,.tt 9,.sub 0 [0] [],.sub 0 [0] [],.sub 0 [] [],.sub 1 [] [],.sub 0 [] [],.sub 1 [] []] (by kernel_rfl) (by kernel_rfl)
def s_f11_r16:List AOper:=[
 ⟨some 72,(.move (.t 11)),none⟩,
 ⟨some 73,(.un .not (.t 72)),none⟩]
def s_f11_r16_tale:=hT s_f11_r16 [11,72] [73] 74 [] [(73,(.op (.un .not (.t 0)) [(.t 11)]))] [.tt 11,.sub 0 [] []] (by kernel_rfl) (by kernel_rfl)
def s_f11_r17:List AOper:=[
 ⟨some 74,(.move (.t 6)),none⟩,
 ⟨some 75,(.lenS .m (.t 74)),none⟩,
 ⟨some 10,(.move (.t 75)),none⟩]
def s_f11_r17_tale:=hT s_f11_r17 [73,74,75] [10] 76 [] [(10,(.op (.lenS .m (.t 0)) [(.t 6)]))] [.tt 6,.sub 0 [] [],.sub 0 [] []] (by kernel_rfl) (by kernel_rfl)
def s_f11_r18t1:List AOper:=[⟨none,(.mapUpd (.int .i64) (.t 76) (.t 77) (.t 78)),none⟩]
def s_f11_r18p0:List AOper:=[⟨some 76,(.move (.t 6)),none⟩,⟨some 77,(.move (.t 9)),none⟩,⟨some 78,(.move (.t 10)),none⟩]
def s_f11_r18:List AOper:=s_f11_r18p0 ++ s_f11_r18t1
def s_f11_r18p0_tale:=hT s_f11_r18p0 [9] [76,77,78] 79 [] [(76,(.t 6)),(77,(.t 9)),(78,(.t 10))] [.tt 6,.tt 9,.tt 10] (by kernel_rfl) (by kernel_rfl)
def s_f11_r18_x:=hS s_f11_r18 s_f11_r18p0 s_f11_r18t1 [9] [76,77,78] [9,76,77,78] rfl (by kernel_rfl)
def s_f11_r18t1_x:=hX s_f11_r18t1 [9,76,77,78] [⟨none,(.mapUpd (.int .i64) (.t 76) (.t 77) (.t 78)),none⟩] rfl
def s_f11_r19t1:List AOper:=[⟨none,(.store 1 (.t 82) (.t 81)),none⟩]
def s_f11_r19p0:List AOper:=[⟨some 79,(.move (.t 7)),none⟩,⟨some 80,(.move (.t 8)),none⟩,⟨some 81,(.move (.t 10)),none⟩,⟨some 82,(.indexAddr 1 (.t 79) (.t 80)),none⟩]
def s_f11_r19:List AOper:=s_f11_r19p0 ++ s_f11_r19t1
def s_f11_r19p0_tale:=hT s_f11_r19p0 [8,9,10,73,79,80] [81,82] 83 [] [(81,(.t 10)),(82,(.op (.indexAddr 1 (.t 0) (.t 1)) [(.t 7),(.t 8)]))] [.tt 7,.tt 8,.tt 10,.sub 1 [] []] (by kernel_rfl) (by kernel_rfl)
def s_f11_r19_x:=hS s_f11_r19 s_f11_r19p0 s_f11_r19t1 [8,9,10,73,79,80] [81,82] [8,9,10,73,79,80,81,82] rfl (by kernel_rfl)
def s_f11_r19t1_x:=hX s_f11_r19t1 [8,9,10,73,79,80,81,82] [⟨none,(.store 1 (.t 82) (.t 81)),none⟩] rfl
def s_f11_r20:List AOper:=[
 ⟨some 83,(.bin .add (.t 61) (.c (.s (.int .i64 1)))),none⟩,
 ⟨some 61,(.move (.t 83)),none⟩]
def s_f11_r20_tale:=hT s_f11_r20 [83] [61] 84 [] [(61,(.op (.bin .add (.t 0) (.c (.s (.int .i64 1)))) [(.t 61),(.c (.s (.int .i64 1)))]))] [.sub 0 [] [],.sub 0 [] []] (by kernel_rfl) (by kernel_rfl)
def s_f11_l1_b:ACode:=
 (.seq (.regionE s_f11_r13 [] [62])
 (.seq (.cond (.t 62)
 .skip
 (.exit 2))
 (.seq (.block 3
 (.seq (.regionE s_f11_r14 [62,63,64,65] [8,9])
 (.seq (.regionE s_f11_r15 [66,67,68,69,70,71] [10,11])
 (.seq (.seq (.regionE s_f11_r16 [11,72] [73])
 (.cond (.t 73)
 (.seq (.regionE s_f11_r17 [73,74,75] [10])
 (.region s_f11_r18 [] [9,76,77,78]))
 .skip))
 (.region s_f11_r19 [] [8,9,10,73,79,80,81,82])))))
 (.regionE s_f11_r20 [83] [61]))))
def s_f11_l1:ACode:=s_f11_l1_b
def s_f11_l1_ev:=hE s_f11_l1 s_f11_l1_b rfl
def s_f11_r21:List AOper:=[
 ⟨some 84,(.move (.t 7)),none⟩,
 ⟨some 2,(.move (.t 84)),none⟩]
def s_f11_r21_tale:=hT s_f11_r21 [6,7,59,60,61,62,84] [2] 85 [] [(2,(.t 7))] [.tt 7,.tt 7] (by kernel_rfl) (by kernel_rfl)
def s_f11:ACFun:={ ntmps:=85,results:=[(.tmp 2)],body:=
 (.seq (.regionE s_f11_r0 s_f11_r0_k [])
 (.seq (.region s_f11_r1 [] [0,12,13,14,15])
 (.seq (.region s_f11_r2 [] [16,17,18,19,20])
 (.seq (.region s_f11_r3 [] [21,22,23,24,25,26,27,28,29,30,31,32,33,34,35,36])
 (.seq (.seq (.regionE s_f11_r4 [] [37,38])
 (.block 0
 (.loop [] s_f11_l0)))
 (.seq (.region s_f11_r10 [] [37,38,39,53])
 (.seq (.region s_f11_r11 [] [4,54,55])
 (.seq (.seq (.regionE s_f11_r12 [3,56,57,58] [59,60,61])
 (.block 2
 (.loop [] s_f11_l1)))
 (.seq (.regionE s_f11_r21 [6,7,59,60,61,62,84] [2])
 .ret))))))))) }
abbrev k_f25:Nat:=25
def s_f25_r0_k:List Nat:=[1,2,3,4]
theorem s_f25_r0_kT:killV s_f25_r0_k (startV 5 [] 1)=[]:=by kernel_rfl
theorem s_f25_r0_kA0:s_f25_r0_k.contains 0=false:=by kernel_rfl
def s_f25_r0:List AOper:=[
 ⟨some 2,(.move (.c (.s (.int .i64 0)))),none⟩]
def s_f25_r0_tale:=hT s_f25_r0 s_f25_r0_k [] 3 [] [] [.cc (.s (.int .i64 0))] (by kernel_rfl) (by kernel_rfl)
def s_f25_r1:List AOper:=[
 ⟨some 3,(.move (.t 0)),none⟩,
 ⟨some 4,(.lenS .s (.t 3)),none⟩,
 ⟨some 2,(.move (.t 4)),none⟩]
def s_f25_r1_tale:=hT s_f25_r1 [0,3,4] [2] 5 [] [(2,(.op (.lenS .s (.t 0)) [(.t 0)]))] [.tt 0,.sub 0 [] [],.sub 0 [] []] (by kernel_rfl) (by kernel_rfl)
def s_f25:ACFun:={ ntmps:=5,results:=[(.tmp 2)],body:=
 (.seq (.regionE s_f25_r0 s_f25_r0_k [])
 (.seq (.regionE s_f25_r1 [0,3,4] [2])
 .ret)) }
abbrev k_f26:Nat:=26
def s_f26_r0_k:List Nat:=[2,3,4,5,6,7,8,9,10,11,12,13,14,15,16,17,18,19,20,21,22,23,24,25,26,27,28,29,30,31,32,33,34,35,36,37,38,39,40,41,42,43,44,45,46,47]
theorem s_f26_r0_kT:killV s_f26_r0_k (startV 48 [] 2)=[]:=by kernel_rfl
theorem s_f26_r0_kA0:s_f26_r0_k.contains 0=false:=by kernel_rfl
theorem s_f26_r0_kA1:s_f26_r0_k.contains 1=false:=by kernel_rfl
def s_f26_r0:List AOper:=[
 ⟨some 4,(.move (.c (.s (.slice none 0 0)))),none⟩]
def s_f26_r0_tale:=hT s_f26_r0 s_f26_r0_k [] 5 [] [] [.cc (.s (.slice none 0 0))] (by kernel_rfl) (by kernel_rfl)
def s_f26_r1:List AOper:=[
 ⟨some 9,(.move (.t 1)),none⟩,
 ⟨some 10,(.bin .lss (.t 9) (.c (.s (.int .i64 0)))),none⟩]
def s_f26_r1_tale:=hT s_f26_r1 [9] [10] 11 [] [(10,(.op (.bin .lss (.t 0) (.c (.s (.int .i64 0)))) [(.t 1),(.c (.s (.int .i64 0)))]))] [.tt 1,.sub 0 [] []] (by kernel_rfl) (by kernel_rfl)
def s_f26_r2t1:List AOper:=[⟨none,.stuck,none⟩]
def s_f26_r2p0:List AOper:=[⟨some 11,.stuck,none⟩]
def s_f26_r2:List AOper:=s_f26_r2p0 ++ s_f26_r2t1
def s_f26_r2_x:=hO s_f26_r2 s_f26_r2p0 s_f26_r2t1 [10,11] [10,11] [⟨some 11,.stuck,none⟩] rfl rfl (by kernel_rfl)
def s_f26_r2t1_x:=hX s_f26_r2t1 [10,11] [⟨none,.stuck,none⟩] rfl
def s_f26_r3t2:List AOper:=[⟨some 12,(.move (.t 18)),none⟩,⟨some 19,(.extract (.t 12) 0),none⟩,⟨some 20,(.extract (.t 12) 1),none⟩,⟨some 5,(.move (.t 19)),none⟩,⟨some 6,(.move (.t 20)),none⟩]
def s_f26_r3p1:List AOper:=[⟨some 18,(.call (.c (.fn 43 [] [])) [(.t 15),(.t 17)]),none⟩]
def s_f26_r3t1:List AOper:=s_f26_r3p1 ++ s_f26_r3t2
def s_f26_r3p0:List AOper:=[⟨some 13,(.move (.t 0)),none⟩,⟨some 14,(.lenS .s (.t 13)),none⟩,⟨some 15,(.conv .u64 (.t 14)),none⟩,⟨some 16,(.move (.t 1)),none⟩,⟨some 17,(.conv .u64 (.t 16)),none⟩]
def s_f26_r3:List AOper:=s_f26_r3p0 ++ s_f26_r3t1
def s_f26_r3p0_tale:=hT s_f26_r3p0 [1,10,13,14,16] [15,17] 18 [] [(15,(.op (.conv .u64 (.t 0)) [(.op (.lenS .s (.t 0)) [(.t 0)])])),(17,(.op (.conv .u64 (.t 0)) [(.t 1)]))] [.tt 0,.sub 0 [0] [],.sub 0 [] [],.tt 1,.sub 1 [] []] (by kernel_rfl) (by kernel_rfl)
def s_f26_r3_x:=hS s_f26_r3 s_f26_r3p0 s_f26_r3t1 [1,10,13,14,16] [15,17] [1,10,12,13,14,15,16,17,18,19,20] rfl (by kernel_rfl)
def s_f26_r3t1_x:=hO s_f26_r3t1 s_f26_r3p1 s_f26_r3t2 [15,17] [1,10,12,13,14,15,16,17,18,19,20] [⟨some 18,(.call (.c (.fn 43 [] [])) [(.t 15),(.t 17)]),none⟩] rfl rfl (by kernel_rfl)
def s_f26_r3t2_tale:=hT s_f26_r3t2 [1,10,12,13,14,15,16,17,18,19,20] [5,6] 21 [] [(5,(.op (.extract (.t 0) 0) [(.t 18)])),(6,(.op (.extract (.t 0) 1) [(.t 18)]))] [.tt 18,.sub 0 [] [],.sub 1 [] [],.sub 0 [] [],.sub 1 [] []] (by kernel_rfl) (by kernel_rfl)
def s_f26_r3t2_x:=hL s_f26_r3t2 [1,10,12,13,14,15,16,17,18,19,20] [5,6]
def s_f26_r4:List AOper:=[
 ⟨some 21,(.move (.t 5)),none⟩,
 ⟨some 22,(.bin .gtr (.t 21) (.c (.s (.int .u64 0)))),none⟩,
 ⟨some 23,(.move (.t 22)),none⟩,
 ⟨some 24,(.move (.t 6)),some (23,false)⟩,
 ⟨some 25,(.bin .gtr (.t 24) (.c (.s (.int .u64 9223372036854775807)))),some (23,false)⟩,
 ⟨some 26,(.pick (.t 23) (.c (.s (.bool true))) (.t 25)),none⟩]
def s_f26_r4_tale:=hT s_f26_r4 [5,21,22,23,24,25] [26] 27 [] [(26,(.pick (.op (.bin .gtr (.t 0) (.c (.s (.int .u64 0)))) [(.t 5),(.c (.s (.int .u64 0)))]) (.c (.s (.bool true))) (.op (.bin .gtr (.t 0) (.c (.s (.int .u64 9223372036854775807)))) [(.t 6),(.c (.s (.int .u64 9223372036854775807)))])))] [.tt 5,.sub 0 [0] [],.sub 0 [0] [],.sub 0 [2,0] [23],.sub 0 [2] [23],.sub 0 [] []] (by kernel_rfl) (by kernel_rfl)
def s_f26_r5t1:List AOper:=[⟨none,.stuck,none⟩]
def s_f26_r5p0:List AOper:=[⟨some 27,.stuck,none⟩]
def s_f26_r5:List AOper:=s_f26_r5p0 ++ s_f26_r5t1
def s_f26_r5_x:=hO s_f26_r5 s_f26_r5p0 s_f26_r5t1 [26,27] [26,27] [⟨some 27,.stuck,none⟩] rfl rfl (by kernel_rfl)
def s_f26_r5t1_x:=hX s_f26_r5t1 [26,27] [⟨none,.stuck,none⟩] rfl
def s_f26_r6t2:List AOper:=[⟨some 7,(.move (.t 30)),none⟩]
def s_f26_r6p1:List AOper:=[⟨some 30,(.mkSl [(.s (.int .i64 0))] 1 8 (.t 29) (.t 29)),none⟩]
def s_f26_r6t1:List AOper:=s_f26_r6p1 ++ s_f26_r6t2
def s_f26_r6p0:List AOper:=[⟨some 28,(.move (.t 6)),none⟩,⟨some 29,(.conv .i64 (.t 28)),none⟩]
def s_f26_r6:List AOper:=s_f26_r6p0 ++ s_f26_r6t1
def s_f26_r6p0_tale:=hT s_f26_r6p0 [6,26,28] [29] 30 [] [(29,(.op (.conv .i64 (.t 0)) [(.t 6)]))] [.tt 6,.sub 0 [] []] (by kernel_rfl) (by kernel_rfl)
def s_f26_r6_x:=hS s_f26_r6 s_f26_r6p0 s_f26_r6t1 [6,26,28] [29] [6,26,28,29,30] rfl (by kernel_rfl)
def s_f26_r6t1_x:=hO s_f26_r6t1 s_f26_r6p1 s_f26_r6t2 [29] [6,26,28,29,30] [⟨some 30,(.mkSl [(.s (.int .i64 0))] 1 8 (.t 29) (.t 29)),none⟩] rfl rfl (by kernel_rfl)
def s_f26_r6t2_tale:=hT s_f26_r6t2 [6,26,28,29,30] [7] 8 [] [(7,(.t 30))] [.tt 30] (by kernel_rfl) (by kernel_rfl)
def s_f26_r6t2_x:=hL s_f26_r6t2 [6,26,28,29,30] [7]
def s_f26_r7t2:List AOper:=[⟨some 8,(.move (.t 33)),none⟩]
def s_f26_r7p1:List AOper:=[⟨some 33,(.copy 1 (.t 31) (.t 32)),none⟩]
def s_f26_r7t1:List AOper:=s_f26_r7p1 ++ s_f26_r7t2
def s_f26_r7p0:List AOper:=[⟨some 31,(.move (.t 7)),none⟩,⟨some 32,(.move (.t 0)),none⟩]
def s_f26_r7:List AOper:=s_f26_r7p0 ++ s_f26_r7t1
def s_f26_r7p0_tale:=hT s_f26_r7p0 [0] [31,32] 33 [] [(31,(.t 7)),(32,(.t 0))] [.tt 7,.tt 0] (by kernel_rfl) (by kernel_rfl)
def s_f26_r7_x:=hS s_f26_r7 s_f26_r7p0 s_f26_r7t1 [0] [31,32] [0,31,32,33] rfl (by kernel_rfl)
def s_f26_r7t1_x:=hO s_f26_r7t1 s_f26_r7p1 s_f26_r7t2 [31,32] [0,31,32,33] [⟨some 33,(.copy 1 (.t 31) (.t 32)),none⟩] rfl rfl (by kernel_rfl)
def s_f26_r7t2_tale:=hT s_f26_r7t2 [0,31,32,33] [8] 9 [] [(8,(.t 33))] [.tt 33] (by kernel_rfl) (by kernel_rfl)
def s_f26_r7t2_x:=hL s_f26_r7t2 [0,31,32,33] [8]
def s_f26_r8:List AOper:=[
 ⟨some 34,(.move (.t 8)),none⟩,
 ⟨some 35,(.move (.t 7)),none⟩,
 ⟨some 36,(.lenS .s (.t 35)),none⟩,
 ⟨some 37,(.bin .lss (.t 34) (.t 36)),none⟩]
def s_f26_r8_tale:=hT s_f26_r8 [34,35,36] [37] 38 [] [(37,(.op (.bin .lss (.t 0) (.t 1)) [(.t 8),(.op (.lenS .s (.t 0)) [(.t 7)])]))] [.tt 8,.tt 7,.sub 0 [1] [],.sub 0 [] []] (by kernel_rfl) (by kernel_rfl)
def s_f26_r9t2:List AOper:=[⟨some 46,(.bin .add (.t 38) (.t 45)),none⟩,⟨some 8,(.move (.t 46)),none⟩]
def s_f26_r9p1:List AOper:=[⟨some 45,(.copy 1 (.t 41) (.t 44)),none⟩]
def s_f26_r9t1:List AOper:=s_f26_r9p1 ++ s_f26_r9t2
def s_f26_r9p0:List AOper:=[⟨some 38,(.move (.t 8)),none⟩,⟨some 39,(.move (.t 7)),none⟩,⟨some 40,(.move (.t 8)),none⟩,⟨some 41,(.subSl 1 (.t 39) (some (.t 40)) none none),none⟩,⟨some 42,(.move (.t 7)),none⟩,⟨some 43,(.move (.t 8)),none⟩,⟨some 44,(.subSl 1 (.t 42) none (some (.t 43)) none),none⟩]
def s_f26_r9:List AOper:=s_f26_r9p0 ++ s_f26_r9t1
def s_f26_r9p0_tale:=hT s_f26_r9p0 [8,37,39,40,42,43] [38,41,44] 45 [] [(38,(.t 8)),(41,(.op (.subSl 1 (.t 0) (some (.t 1)) none none) [(.t 7),(.t 8)])),(44,(.op (.subSl 1 (.t 0) none (some (.t 1)) none) [(.t 7),(.t 8)]))] [.tt 8,.tt 7,.tt 8,.sub 1 [] [],.tt 7,.tt 8,.sub 2 [] []] (by kernel_rfl) (by kernel_rfl)
def s_f26_r9_x:=hS s_f26_r9 s_f26_r9p0 s_f26_r9t1 [8,37,39,40,42,43] [38,41,44] [37,38,39,40,41,42,43,44,45,46] rfl (by kernel_rfl)
def s_f26_r9t1_x:=hO s_f26_r9t1 s_f26_r9p1 s_f26_r9t2 [41,44] [37,38,39,40,41,42,43,44,45,46] [⟨some 45,(.copy 1 (.t 41) (.t 44)),none⟩] rfl rfl (by kernel_rfl)
def s_f26_r9t2_tale:=hT s_f26_r9t2 [37,38,39,40,41,42,43,44,45,46] [8] 47 [] [(8,(.op (.bin .add (.t 0) (.t 1)) [(.t 38),(.t 45)]))] [.sub 0 [] [],.sub 0 [] []] (by kernel_rfl) (by kernel_rfl)
def s_f26_r9t2_x:=hL s_f26_r9t2 [37,38,39,40,41,42,43,44,45,46] [8]
def s_f26_l0_b:ACode:=
 (.seq (.seq (.regionE s_f26_r8 [34,35,36] [37])
 (.cond (.t 37)
 .skip
 (.exit 0)))
 (.block 1
 (.region s_f26_r9 [] [37,38,39,40,41,42,43,44,45,46])))
def s_f26_l0:ACode:=s_f26_l0_b
def s_f26_l0_ev:=hE s_f26_l0 s_f26_l0_b rfl
def s_f26_r10:List AOper:=[
 ⟨some 47,(.move (.t 7)),none⟩,
 ⟨some 4,(.move (.t 47)),none⟩]
def s_f26_r10_tale:=hT s_f26_r10 [7,8,37,47] [4] 48 [] [(4,(.t 7))] [.tt 7,.tt 7] (by kernel_rfl) (by kernel_rfl)
def s_f26:ACFun:={ ntmps:=48,results:=[(.tmp 4)],body:=
 (.seq (.regionE s_f26_r0 s_f26_r0_k [])
 (.seq (.seq (.regionE s_f26_r1 [9] [10])
 (.cond (.t 10)
 (.region s_f26_r2 [] [10,11])
 .skip))
 (.seq (.region s_f26_r3 [] [1,10,12,13,14,15,16,17,18,19,20])
 (.seq (.seq (.regionE s_f26_r4 [5,21,22,23,24,25] [26])
 (.cond (.t 26)
 (.region s_f26_r5 [] [26,27])
 .skip))
 (.seq (.region s_f26_r6 [] [6,26,28,29,30])
 (.seq (.region s_f26_r7 [] [0,31,32,33])
 (.seq (.block 0
 (.loop [] s_f26_l0))
 (.seq (.regionE s_f26_r10 [7,8,37,47] [4])
 .ret)))))))) }
abbrev k_f27:Nat:=27
def s_f27_r0_k:List Nat:=[0,3,4,5,6,7,8,9,10,11,12,13,14,15,16,17,18,19,20,21,22,23,24,25,26,27,28,29,30,31,32,33,34,35,36,37,38,39,40,41,42,43,44,45,46,47,48,49,50,51,52,53,54,55,56,57,58,59,60,61,62,63,64,65,66,67,68,69,70,71,72,73,74,75,76,77,78,79,80,81,82,83,84,85,86,87,88,89,90,91,92,93,94,95,96,97,98,99,100,101,102,103,104,105,106,107,108,109,110,111,112,113,114,115,116,117,118,119,120,121,122,123,124,125,126,127,128,129,130,131,132,133,134,135,136,137,138,139,140,141,142,143,144,145,146,147,148,149,150,151,152,153,154,155,156,157,158,159,160,161,162,163,164,165,166,167,168,169,170,171,172,173,174,175,176,177,178,179,180,181,182,183,184,185,186,187]
theorem s_f27_r0_k_kA0:s_f27_r0_k.contains 0=true:=by kernel_rfl
theorem s_f27_r0_k_kA1:s_f27_r0_k.contains 1=false:=by kernel_rfl
theorem s_f27_r0_k_kA2:s_f27_r0_k.contains 2=false:=by kernel_rfl
def s_f27_r0:List AOper:=[⟨some 2,(.box (.t 0)),none⟩]
def s_f27_r0_x:=hX s_f27_r0 s_f27_r0_k [⟨some 2,(.box (.t 0)),none⟩] rfl
def s_f27_r1t2:List AOper:=[⟨none,(.store 1 (.t 4) (.t 13)),none⟩]
def s_f27_r1p1:List AOper:=[⟨some 4,(.alloc [(.s (.slice none 0 0))]),none⟩]
def s_f27_r1t1:List AOper:=s_f27_r1p1 ++ s_f27_r1t2
def s_f27_r1p0:List AOper:=[⟨some 13,(.buildSl 2 0 [] []),none⟩]
def s_f27_r1:List AOper:=s_f27_r1p0 ++ s_f27_r1t1
def s_f27_r1_x:=hO s_f27_r1 s_f27_r1p0 s_f27_r1t1 [] [13] [⟨some 13,(.buildSl 2 0 [] []),none⟩] rfl rfl (by kernel_rfl)
def s_f27_r1t1_x:=hO s_f27_r1t1 s_f27_r1p1 s_f27_r1t2 [] [13] [⟨some 4,(.alloc [(.s (.slice none 0 0))]),none⟩] rfl rfl (by kernel_rfl)
def s_f27_r1t2_x:=hX s_f27_r1t2 [13] [⟨none,(.store 1 (.t 4) (.t 13)),none⟩] rfl
def s_f27_r2:List AOper:=[
 ⟨some 14,(.mkFn 44 [] [(.t 2),(.t 4)]),none⟩,
 ⟨some 5,(.move (.t 14)),none⟩]
def s_f27_r2_tale:=hT s_f27_r2 [14] [5] 15 [] [(5,(.op (.mkFn 44 [] [(.t 0),(.t 1)]) [(.t 2),(.t 4)]))] [.sub 0 [] [],.sub 0 [] []] (by kernel_rfl) (by kernel_rfl)
def s_f27_r3t1:List AOper:=[⟨some 17,(.call (.t 15) [(.t 16)]),none⟩]
def s_f27_r3p0:List AOper:=[⟨some 15,(.move (.t 5)),none⟩,⟨some 16,(.move (.t 1)),none⟩]
def s_f27_r3:List AOper:=s_f27_r3p0 ++ s_f27_r3t1
def s_f27_r3p0_tale:=hT s_f27_r3p0 [1] [15,16] 17 [] [(15,(.t 5)),(16,(.t 1))] [.tt 5,.tt 1] (by kernel_rfl) (by kernel_rfl)
def s_f27_r3_x:=hS s_f27_r3 s_f27_r3p0 s_f27_r3t1 [1] [15,16] [1,15,16,17] rfl (by kernel_rfl)
def s_f27_r3t1_x:=hX s_f27_r3t1 [1,15,16,17] [⟨some 17,(.call (.t 15) [(.t 16)]),none⟩] rfl
def s_f27_r4:List AOper:=[
 ⟨some 18,(.load false 1 (.t 4)),none⟩,
 ⟨some 19,(.lenS .s (.t 18)),none⟩,
 ⟨some 20,(.bin .gtr (.t 19) (.c (.s (.int .i64 0)))),none⟩]
def s_f27_r4_tale:=hT s_f27_r4 [18,19] [20] 21 [] [(20,(.op (.bin .gtr (.t 0) (.c (.s (.int .i64 0)))) [(.op (.lenS .s (.t 0)) [(.op (.load false 1 (.t 0)) [(.t 4)])]),(.c (.s (.int .i64 0)))]))] [.sub 0 [0,0] [],.sub 0 [0] [],.sub 0 [] []] (by kernel_rfl) (by kernel_rfl)
def s_f27_r5:List AOper:=[
 ⟨some 21,(.load false 1 (.t 4)),none⟩,
 ⟨some 22,(.load false 1 (.t 4)),none⟩,
 ⟨some 23,(.lenS .s (.t 22)),none⟩,
 ⟨some 24,(.bin .sub (.t 23) (.c (.s (.int .i64 1)))),none⟩,
 ⟨some 25,(.indexAddr 2 (.t 21) (.t 24)),none⟩,
 ⟨some 6,(.move (.t 25)),none⟩]
def s_f27_r5_tale:=hT s_f27_r5 [20,21,22,23,24,25] [6] 26 [] [(6,(.op (.indexAddr 2 (.t 0) (.t 1)) [(.op (.load false 1 (.t 0)) [(.t 4)]),(.op (.bin .sub (.t 0) (.c (.s (.int .i64 1)))) [(.op (.lenS .s (.t 0)) [(.op (.load false 1 (.t 0)) [(.t 4)])]),(.c (.s (.int .i64 1)))])]))] [.sub 0 [0] [],.sub 0 [0] [],.sub 0 [1,0] [],.sub 0 [1] [],.sub 0 [] [],.sub 0 [] []] (by kernel_rfl) (by kernel_rfl)
def s_f27_r6:List AOper:=[
 ⟨some 26,(.move (.t 6)),none⟩,
 ⟨some 27,(.nilCheck (.t 26)),none⟩,
 ⟨some 28,(.fieldAddr 0 (.t 27)),none⟩,
 ⟨some 29,(.load false 1 (.t 28)),none⟩,
 ⟨some 7,(.move (.t 29)),none⟩]
def s_f27_r6_tale:=hT s_f27_r6 [26,27,28,29] [7] 30 [] [(7,(.op (.load false 1 (.t 0)) [(.op (.fieldAddr 0 (.t 0)) [(.op (.nilCheck (.t 0)) [(.t 6)])])]))] [.tt 6,.sub 0 [0,0] [],.sub 0 [0] [],.sub 0 [] [],.sub 0 [] []] (by kernel_rfl) (by kernel_rfl)
def s_f27_r7:List AOper:=[
 ⟨some 30,(.move (.t 6)),none⟩,
 ⟨some 31,(.nilCheck (.t 30)),none⟩,
 ⟨some 32,(.fieldAddr 1 (.t 31)),none⟩,
 ⟨some 33,(.load false 1 (.t 32)),none⟩,
 ⟨some 34,(.load false 1 (.t 2)),none⟩,
 ⟨some 35,(.nilCheck (.t 34)),none⟩,
 ⟨some 36,(.fieldAddr 0 (.t 35)),none⟩,
 ⟨some 37,(.load false 1 (.t 36)),none⟩,
 ⟨some 38,(.move (.t 7)),none⟩,
 ⟨some 39,(.indexAddr 1 (.t 37) (.t 38)),none⟩,
 ⟨some 40,(.load false 1 (.t 39)),none⟩,
 ⟨some 41,(.lenS .s (.t 40)),none⟩,
 ⟨some 42,(.bin .lss (.t 33) (.t 41)),none⟩]
def s_f27_r7_tale:=hT s_f27_r7 [30,31,32,33,34,35,36,37,38,39,40,41] [42] 43 [] [(42,(.op (.bin .lss (.t 0) (.t 1)) [(.op (.load false 1 (.t 0)) [(.op (.fieldAddr 1 (.t 0)) [(.op (.nilCheck (.t 0)) [(.t 6)])])]),(.op (.lenS .s (.t 0)) [(.op (.load false 1 (.t 0)) [(.op (.indexAddr 1 (.t 0) (.t 1)) [(.op (.load false 1 (.t 0)) [(.op (.fieldAddr 0 (.t 0)) [(.op (.nilCheck (.t 0)) [(.op (.load false 1 (.t 0)) [(.t 2)])])])]),(.t 7)])])])]))] [.tt 6,.sub 0 [0,0,0] [],.sub 0 [0,0] [],.sub 0 [0] [],.sub 0 [1,0,0,0,0,0,0] [],.sub 0 [1,0,0,0,0,0] [],.sub 0 [1,0,0,0,0] [],.sub 0 [1,0,0,0] [],.tt 7,.sub 0 [1,0,0] [],.sub 0 [1,0] [],.sub 0 [1] [],.sub 0 [] []] (by kernel_rfl) (by kernel_rfl)
def s_f27_r8:List AOper:=[
 ⟨some 43,(.load false 1 (.t 2)),none⟩,
 ⟨some 44,(.nilCheck (.t 43)),none⟩,
 ⟨some 45,(.fieldAddr 0 (.t 44)),none⟩,
 ⟨some 46,(.load false 1 (.t 45)),none⟩,
 ⟨some 47,(.move (.t 7)),none⟩,
 ⟨some 48,(.indexAddr 1 (.t 46) (.t 47)),none⟩,
 ⟨some 49,(.load false 1 (.t 48)),none⟩,
 ⟨some 50,(.move (.t 6)),none⟩,
 ⟨some 51,(.nilCheck (.t 50)),none⟩,
 ⟨some 52,(.fieldAddr 1 (.t 51)),none⟩,
 ⟨some 53,(.load false 1 (.t 52)),none⟩,
 ⟨some 54,(.indexAddr 1 (.t 49) (.t 53)),none⟩,
 ⟨some 55,(.load false 1 (.t 54)),none⟩,
 ⟨some 8,(.move (.t 55)),none⟩]
def s_f27_r8_tale:=hT s_f27_r8 [42,43,44,45,46,47,48,49,50,51,52,53,54,55] [8] 56 [] [(8,(.op (.load false 1 (.t 0)) [(.op (.indexAddr 1 (.t 0) (.t 1)) [(.op (.load false 1 (.t 0)) [(.op (.indexAddr 1 (.t 0) (.t 1)) [(.op (.load false 1 (.t 0)) [(.op (.fieldAddr 0 (.t 0)) [(.op (.nilCheck (.t 0)) [(.op (.load false 1 (.t 0)) [(.t 2)])])])]),(.t 7)])]),(.op (.load false 1 (.t 0)) [(.op (.fieldAddr 1 (.t 0)) [(.op (.nilCheck (.t 0)) [(.t 6)])])])])]))] [.sub 0 [0,0,0,0,0,0,0] [],.sub 0 [0,0,0,0,0,0] [],.sub 0 [0,0,0,0,0] [],.sub 0 [0,0,0,0] [],.tt 7,.sub 0 [0,0,0] [],.sub 0 [0,0] [],.tt 6,.sub 0 [0,1,0,0] [],.sub 0 [0,1,0] [],.sub 0 [0,1] [],.sub 0 [0] [],.sub 0 [] [],.sub 0 [] []] (by kernel_rfl) (by kernel_rfl)
def s_f27_r9t1:List AOper:=[⟨none,(.store 1 (.t 62) (.t 60)),none⟩]
def s_f27_r9p0:List AOper:=[⟨some 56,(.move (.t 6)),none⟩,⟨some 57,(.nilCheck (.t 56)),none⟩,⟨some 58,(.fieldAddr 1 (.t 57)),none⟩,⟨some 59,(.load false 1 (.t 58)),none⟩,⟨some 60,(.bin .add (.t 59) (.c (.s (.int .i64 1)))),none⟩,⟨some 61,(.nilCheck (.t 56)),none⟩,⟨some 62,(.fieldAddr 1 (.t 61)),none⟩]
def s_f27_r9:List AOper:=s_f27_r9p0 ++ s_f27_r9t1
def s_f27_r9p0_tale:=hT s_f27_r9p0 [6,56,57,58,59,61] [60,62] 63 [] [(60,(.op (.bin .add (.t 0) (.c (.s (.int .i64 1)))) [(.op (.load false 1 (.t 0)) [(.op (.fieldAddr 1 (.t 0)) [(.op (.nilCheck (.t 0)) [(.t 6)])])]),(.c (.s (.int .i64 1)))])),(62,(.op (.fieldAddr 1 (.t 0)) [(.op (.nilCheck (.t 0)) [(.t 6)])]))] [.tt 6,.sub 0 [0,0,0] [],.sub 0 [0,0] [],.sub 0 [0] [],.sub 0 [] [],.sub 0 [0,0,0] [],.sub 0 [0,0] []] (by kernel_rfl) (by kernel_rfl)
def s_f27_r9_x:=hS s_f27_r9 s_f27_r9p0 s_f27_r9t1 [6,56,57,58,59,61] [60,62] [6,56,57,58,59,60,61,62] rfl (by kernel_rfl)
def s_f27_r9t1_x:=hX s_f27_r9t1 [6,56,57,58,59,60,61,62] [⟨none,(.store 1 (.t 62) (.t 60)),none⟩] rfl
def s_f27_r10:List AOper:=[
 ⟨some 63,(.load false 1 (.t 2)),none⟩,
 ⟨some 64,(.nilCheck (.t 63)),none⟩,
 ⟨some 65,(.fieldAddr 1 (.t 64)),none⟩,
 ⟨some 66,(.load false 1 (.t 65)),none⟩,
 ⟨some 67,(.move (.t 8)),none⟩,
 ⟨some 68,(.indexAddr 1 (.t 66) (.t 67)),none⟩,
 ⟨some 69,(.load false 1 (.t 68)),none⟩,
 ⟨some 70,(.bin .eql (.t 69) (.c (.s (.int .i64 0)))),none⟩]
def s_f27_r10_tale:=hT s_f27_r10 [63,64,65,66,67,68,69] [70] 71 [] [(70,(.op (.bin .eql (.t 0) (.c (.s (.int .i64 0)))) [(.op (.load false 1 (.t 0)) [(.op (.indexAddr 1 (.t 0) (.t 1)) [(.op (.load false 1 (.t 0)) [(.op (.fieldAddr 1 (.t 0)) [(.op (.nilCheck (.t 0)) [(.op (.load false 1 (.t 0)) [(.t 2)])])])]),(.t 8)])]),(.c (.s (.int .i64 0)))]))] [.sub 0 [0,0,0,0,0,0] [],.sub 0 [0,0,0,0,0] [],.sub 0 [0,0,0,0] [],.sub 0 [0,0,0] [],.tt 8,.sub 0 [0,0] [],.sub 0 [0] [],.sub 0 [] []] (by kernel_rfl) (by kernel_rfl)
def s_f27_r11t1:List AOper:=[⟨some 73,(.call (.t 71) [(.t 72)]),none⟩]
def s_f27_r11p0:List AOper:=[⟨some 71,(.move (.t 5)),none⟩,⟨some 72,(.move (.t 8)),none⟩]
def s_f27_r11:List AOper:=s_f27_r11p0 ++ s_f27_r11t1
def s_f27_r11p0_tale:=hT s_f27_r11p0 [7,8,70] [71,72] 73 [] [(71,(.t 5)),(72,(.t 8))] [.tt 5,.tt 8] (by kernel_rfl) (by kernel_rfl)
def s_f27_r11_x:=hS s_f27_r11 s_f27_r11p0 s_f27_r11t1 [7,8,70] [71,72] [7,8,70,71,72,73] rfl (by kernel_rfl)
def s_f27_r11t1_x:=hX s_f27_r11t1 [7,8,70,71,72,73] [⟨some 73,(.call (.t 71) [(.t 72)]),none⟩] rfl
def s_f27_r12:List AOper:=[
 ⟨some 74,(.load false 1 (.t 2)),none⟩,
 ⟨some 75,(.nilCheck (.t 74)),none⟩,
 ⟨some 76,(.fieldAddr 4 (.t 75)),none⟩,
 ⟨some 77,(.load false 1 (.t 76)),none⟩,
 ⟨some 78,(.move (.t 8)),none⟩,
 ⟨some 79,(.indexAddr 1 (.t 77) (.t 78)),none⟩,
 ⟨some 80,(.load false 1 (.t 79)),none⟩,
 ⟨some 81,(.bin .lss (.t 80) (.c (.s (.int .i64 0)))),none⟩]
def s_f27_r12_tale:=hT s_f27_r12 [70,74,75,76,77,78,79,80] [81] 82 [] [(81,(.op (.bin .lss (.t 0) (.c (.s (.int .i64 0)))) [(.op (.load false 1 (.t 0)) [(.op (.indexAddr 1 (.t 0) (.t 1)) [(.op (.load false 1 (.t 0)) [(.op (.fieldAddr 4 (.t 0)) [(.op (.nilCheck (.t 0)) [(.op (.load false 1 (.t 0)) [(.t 2)])])])]),(.t 8)])]),(.c (.s (.int .i64 0)))]))] [.sub 0 [0,0,0,0,0,0] [],.sub 0 [0,0,0,0,0] [],.sub 0 [0,0,0,0] [],.sub 0 [0,0,0] [],.tt 8,.sub 0 [0,0] [],.sub 0 [0] [],.sub 0 [] []] (by kernel_rfl) (by kernel_rfl)
def s_f27_r13t1:List AOper:=[⟨none,(.store 1 (.t 102) (.t 101)),none⟩]
def s_f27_r13p0:List AOper:=[⟨some 82,(.load false 1 (.t 2)),none⟩,⟨some 83,(.nilCheck (.t 82)),none⟩,⟨some 84,(.fieldAddr 2 (.t 83)),none⟩,⟨some 85,(.load false 1 (.t 84)),none⟩,⟨some 86,(.move (.t 7)),none⟩,⟨some 87,(.load false 1 (.t 2)),none⟩,⟨some 88,(.nilCheck (.t 87)),none⟩,⟨some 89,(.fieldAddr 2 (.t 88)),none⟩,⟨some 90,(.load false 1 (.t 89)),none⟩,⟨some 91,(.move (.t 7)),none⟩,⟨some 92,(.indexAddr 1 (.t 90) (.t 91)),none⟩,⟨some 93,(.load false 1 (.t 92)),none⟩,⟨some 94,(.load false 1 (.t 2)),none⟩,⟨some 95,(.nilCheck (.t 94)),none⟩,⟨some 96,(.fieldAddr 1 (.t 95)),none⟩,⟨some 97,(.load false 1 (.t 96)),none⟩,⟨some 98,(.move (.t 8)),none⟩,⟨some 99,(.indexAddr 1 (.t 97) (.t 98)),none⟩,⟨some 100,(.load false 1 (.t 99)),none⟩,⟨some 101,(.minmax false (.t 93) (.t 100)),none⟩,⟨some 102,(.indexAddr 1 (.t 85) (.t 86)),none⟩]
def s_f27_r13:List AOper:=s_f27_r13p0 ++ s_f27_r13t1
def s_f27_r13p0_tale:=hT s_f27_r13p0 [7,8,81,82,83,84,85,86,87,88,89,90,91,92,93,94,95,96,97,98,99,100] [101,102] 103 [] [(101,(.op (.minmax false (.t 0) (.t 1)) [(.op (.load false 1 (.t 0)) [(.op (.indexAddr 1 (.t 0) (.t 1)) [(.op (.load false 1 (.t 0)) [(.op (.fieldAddr 2 (.t 0)) [(.op (.nilCheck (.t 0)) [(.op (.load false 1 (.t 0)) [(.t 2)])])])]),(.t 7)])]),(.op (.load false 1 (.t 0)) [(.op (.indexAddr 1 (.t 0) (.t 1)) [(.op (.load false 1 (.t 0)) [(.op (.fieldAddr 1 (.t 0)) [(.op (.nilCheck (.t 0)) [(.op (.load false 1 (.t 0)) [(.t 2)])])])]),(.t 8)])])])),(102,(.op (.indexAddr 1 (.t 0) (.t 1)) [(.op (.load false 1 (.t 0)) [(.op (.fieldAddr 2 (.t 0)) [(.op (.nilCheck (.t 0)) [(.op (.load false 1 (.t 0)) [(.t 2)])])])]),(.t 7)]))] [.sub 0 [0,0,0,0,0,0] [],.sub 0 [0,0,0,0,0] [],.sub 0 [0,0,0,0] [],.sub 0 [0,0,0] [],.tt 7,.sub 0 [0,0,0,0,0,0] [],.sub 0 [0,0,0,0,0] [],.sub 0 [0,0,0,0] [],.sub 0 [0,0,0] [],.tt 7,.sub 0 [0,0] [],.sub 0 [0] [],.sub 0 [0,0,0,0,0,0] [],.sub 0 [0,0,0,0,0] [],.sub 0 [1,0,0,0] [],.sub 0 [1,0,0] [],.tt 8,.sub 0 [1,0] [],.sub 0 [1] [],.sub 0 [] [],.sub 0 [0,0] []] (by kernel_rfl) (by kernel_rfl)
def s_f27_r13_x:=hS s_f27_r13 s_f27_r13p0 s_f27_r13t1 [7,8,81,82,83,84,85,86,87,88,89,90,91,92,93,94,95,96,97,98,99,100] [101,102] [7,8,81,82,83,84,85,86,87,88,89,90,91,92,93,94,95,96,97,98,99,100,101,102] rfl (by kernel_rfl)
def s_f27_r13t1_x:=hX s_f27_r13t1 [7,8,81,82,83,84,85,86,87,88,89,90,91,92,93,94,95,96,97,98,99,100,101,102] [⟨none,(.store 1 (.t 102) (.t 101)),none⟩] rfl
def s_f27_r14t1:List AOper:=[⟨none,(.store 1 (.t 4) (.t 107)),none⟩]
def s_f27_r14p0:List AOper:=[⟨some 103,(.load false 1 (.t 4)),none⟩,⟨some 104,(.load false 1 (.t 4)),none⟩,⟨some 105,(.lenS .s (.t 104)),none⟩,⟨some 106,(.bin .sub (.t 105) (.c (.s (.int .i64 1)))),none⟩,⟨some 107,(.subSl 2 (.t 103) none (some (.t 106)) none),none⟩]
def s_f27_r14:List AOper:=s_f27_r14p0 ++ s_f27_r14t1
def s_f27_r14p0_tale:=hT s_f27_r14p0 [6,42,103,104,105,106] [107] 108 [] [(107,(.op (.subSl 2 (.t 0) none (some (.t 1)) none) [(.op (.load false 1 (.t 0)) [(.t 4)]),(.op (.bin .sub (.t 0) (.c (.s (.int .i64 1)))) [(.op (.lenS .s (.t 0)) [(.op (.load false 1 (.t 0)) [(.t 4)])]),(.c (.s (.int .i64 1)))])]))] [.sub 0 [0] [],.sub 0 [0] [],.sub 0 [1,0] [],.sub 0 [1] [],.sub 0 [] []] (by kernel_rfl) (by kernel_rfl)
def s_f27_r14_x:=hS s_f27_r14 s_f27_r14p0 s_f27_r14t1 [6,42,103,104,105,106] [107] [6,42,103,104,105,106,107] rfl (by kernel_rfl)
def s_f27_r14t1_x:=hX s_f27_r14t1 [6,42,103,104,105,106,107] [⟨none,(.store 1 (.t 4) (.t 107)),none⟩] rfl
def s_f27_r15:List AOper:=[
 ⟨some 108,(.load false 1 (.t 4)),none⟩,
 ⟨some 109,(.lenS .s (.t 108)),none⟩,
 ⟨some 110,(.bin .gtr (.t 109) (.c (.s (.int .i64 0)))),none⟩]
def s_f27_r15_tale:=hT s_f27_r15 [108,109] [110] 111 [] [(110,(.op (.bin .gtr (.t 0) (.c (.s (.int .i64 0)))) [(.op (.lenS .s (.t 0)) [(.op (.load false 1 (.t 0)) [(.t 4)])]),(.c (.s (.int .i64 0)))]))] [.sub 0 [0,0] [],.sub 0 [0] [],.sub 0 [] []] (by kernel_rfl) (by kernel_rfl)
def s_f27_r16:List AOper:=[
 ⟨some 111,(.load false 1 (.t 4)),none⟩,
 ⟨some 112,(.load false 1 (.t 4)),none⟩,
 ⟨some 113,(.lenS .s (.t 112)),none⟩,
 ⟨some 114,(.bin .sub (.t 113) (.c (.s (.int .i64 1)))),none⟩,
 ⟨some 115,(.indexAddr 2 (.t 111) (.t 114)),none⟩,
 ⟨some 116,(.fieldAddr 0 (.t 115)),none⟩,
 ⟨some 117,(.load false 1 (.t 116)),none⟩,
 ⟨some 9,(.move (.t 117)),none⟩]
def s_f27_r16_tale:=hT s_f27_r16 [110,111,112,113,114,115,116,117] [9] 118 [] [(9,(.op (.load false 1 (.t 0)) [(.op (.fieldAddr 0 (.t 0)) [(.op (.indexAddr 2 (.t 0) (.t 1)) [(.op (.load false 1 (.t 0)) [(.t 4)]),(.op (.bin .sub (.t 0) (.c (.s (.int .i64 1)))) [(.op (.lenS .s (.t 0)) [(.op (.load false 1 (.t 0)) [(.t 4)])]),(.c (.s (.int .i64 1)))])])])]))] [.sub 0 [0,0,0] [],.sub 0 [0,0,0] [],.sub 0 [0,0,1,0] [],.sub 0 [0,0,1] [],.sub 0 [0,0] [],.sub 0 [0] [],.sub 0 [] [],.sub 0 [] []] (by kernel_rfl) (by kernel_rfl)
def s_f27_r17t1:List AOper:=[⟨none,(.store 1 (.t 138) (.t 137)),none⟩]
def s_f27_r17p0:List AOper:=[⟨some 118,(.load false 1 (.t 2)),none⟩,⟨some 119,(.nilCheck (.t 118)),none⟩,⟨some 120,(.fieldAddr 2 (.t 119)),none⟩,⟨some 121,(.load false 1 (.t 120)),none⟩,⟨some 122,(.move (.t 9)),none⟩,⟨some 123,(.load false 1 (.t 2)),none⟩,⟨some 124,(.nilCheck (.t 123)),none⟩,⟨some 125,(.fieldAddr 2 (.t 124)),none⟩,⟨some 126,(.load false 1 (.t 125)),none⟩,⟨some 127,(.move (.t 9)),none⟩,⟨some 128,(.indexAddr 1 (.t 126) (.t 127)),none⟩,⟨some 129,(.load false 1 (.t 128)),none⟩,⟨some 130,(.load false 1 (.t 2)),none⟩,⟨some 131,(.nilCheck (.t 130)),none⟩,⟨some 132,(.fieldAddr 2 (.t 131)),none⟩,⟨some 133,(.load false 1 (.t 132)),none⟩,⟨some 134,(.move (.t 7)),none⟩,⟨some 135,(.indexAddr 1 (.t 133) (.t 134)),none⟩,⟨some 136,(.load false 1 (.t 135)),none⟩,⟨some 137,(.minmax false (.t 129) (.t 136)),none⟩,⟨some 138,(.indexAddr 1 (.t 121) (.t 122)),none⟩]
def s_f27_r17:List AOper:=s_f27_r17p0 ++ s_f27_r17t1
def s_f27_r17p0_tale:=hT s_f27_r17p0 [9,118,119,120,121,122,123,124,125,126,127,128,129,130,131,132,133,134,135,136] [137,138] 139 [] [(137,(.op (.minmax false (.t 0) (.t 1)) [(.op (.load false 1 (.t 0)) [(.op (.indexAddr 1 (.t 0) (.t 1)) [(.op (.load false 1 (.t 0)) [(.op (.fieldAddr 2 (.t 0)) [(.op (.nilCheck (.t 0)) [(.op (.load false 1 (.t 0)) [(.t 2)])])])]),(.t 9)])]),(.op (.load false 1 (.t 0)) [(.op (.indexAddr 1 (.t 0) (.t 1)) [(.op (.load false 1 (.t 0)) [(.op (.fieldAddr 2 (.t 0)) [(.op (.nilCheck (.t 0)) [(.op (.load false 1 (.t 0)) [(.t 2)])])])]),(.t 7)])])])),(138,(.op (.indexAddr 1 (.t 0) (.t 1)) [(.op (.load false 1 (.t 0)) [(.op (.fieldAddr 2 (.t 0)) [(.op (.nilCheck (.t 0)) [(.op (.load false 1 (.t 0)) [(.t 2)])])])]),(.t 9)]))] [.sub 0 [0,0,0,0,0,0] [],.sub 0 [0,0,0,0,0] [],.sub 0 [0,0,0,0] [],.sub 0 [0,0,0] [],.tt 9,.sub 0 [0,0,0,0,0,0] [],.sub 0 [0,0,0,0,0] [],.sub 0 [0,0,0,0] [],.sub 0 [0,0,0] [],.tt 9,.sub 0 [0,0] [],.sub 0 [0] [],.sub 0 [0,0,0,0,0,0] [],.sub 0 [0,0,0,0,0] [],.sub 0 [0,0,0,0] [],.sub 0 [0,0,0] [],.tt 7,.sub 0 [1,0] [],.sub 0 [1] [],.sub 0 [] [],.sub 0 [0,0] []] (by kernel_rfl) (by kernel_rfl)
def s_f27_r17_x:=hS s_f27_r17 s_f27_r17p0 s_f27_r17t1 [9,118,119,120,121,122,123,124,125,126,127,128,129,130,131,132,133,134,135,136] [137,138] [9,118,119,120,121,122,123,124,125,126,127,128,129,130,131,132,133,134,135,136,137,138] rfl (by kernel_rfl)
def s_f27_r17t1_x:=hX s_f27_r17t1 [9,118,119,120,121,122,123,124,125,126,127,128,129,130,131,132,133,134,135,136,137,138] [⟨none,(.store 1 (.t 138) (.t 137)),none⟩] rfl
def s_f27_r18:List AOper:=[
 ⟨some 139,(.load false 1 (.t 2)),none⟩,
 ⟨some 140,(.nilCheck (.t 139)),none⟩,
 ⟨some 141,(.fieldAddr 2 (.t 140)),none⟩,
 ⟨some 142,(.load false 1 (.t 141)),none⟩,
 ⟨some 143,(.move (.t 7)),none⟩,
 ⟨some 144,(.indexAddr 1 (.t 142) (.t 143)),none⟩,
 ⟨some 145,(.load false 1 (.t 144)),none⟩,
 ⟨some 146,(.load false 1 (.t 2)),none⟩,
 ⟨some 147,(.nilCheck (.t 146)),none⟩,
 ⟨some 148,(.fieldAddr 1 (.t 147)),none⟩,
 ⟨some 149,(.load false 1 (.t 148)),none⟩,
 ⟨some 150,(.move (.t 7)),none⟩,
 ⟨some 151,(.indexAddr 1 (.t 149) (.t 150)),none⟩,
 ⟨some 152,(.load false 1 (.t 151)),none⟩,
 ⟨some 153,(.bin .eql (.t 145) (.t 152)),none⟩]
def s_f27_r18_tale:=hT s_f27_r18 [110,139,140,141,142,143,144,145,146,147,148,149,150,151,152] [153] 154 [] [(153,(.op (.bin .eql (.t 0) (.t 1)) [(.op (.load false 1 (.t 0)) [(.op (.indexAddr 1 (.t 0) (.t 1)) [(.op (.load false 1 (.t 0)) [(.op (.fieldAddr 2 (.t 0)) [(.op (.nilCheck (.t 0)) [(.op (.load false 1 (.t 0)) [(.t 2)])])])]),(.t 7)])]),(.op (.load false 1 (.t 0)) [(.op (.indexAddr 1 (.t 0) (.t 1)) [(.op (.load false 1 (.t 0)) [(.op (.fieldAddr 1 (.t 0)) [(.op (.nilCheck (.t 0)) [(.op (.load false 1 (.t 0)) [(.t 2)])])])]),(.t 7)])])]))] [.sub 0 [0,0,0,0,0,0] [],.sub 0 [0,0,0,0,0] [],.sub 0 [0,0,0,0] [],.sub 0 [0,0,0] [],.tt 7,.sub 0 [0,0] [],.sub 0 [0] [],.sub 0 [0,0,0,0,0,0] [],.sub 0 [0,0,0,0,0] [],.sub 0 [1,0,0,0] [],.sub 0 [1,0,0] [],.tt 7,.sub 0 [1,0] [],.sub 0 [1] [],.sub 0 [] []] (by kernel_rfl) (by kernel_rfl)
def s_f27_r19t2:List AOper:=[⟨some 10,(.move (.t 159)),none⟩]
def s_f27_r19p1:List AOper:=[⟨some 159,(.call (.c (.fn 35 [] [])) [(.t 157),(.t 158)]),none⟩]
def s_f27_r19t1:List AOper:=s_f27_r19p1 ++ s_f27_r19t2
def s_f27_r19p0:List AOper:=[⟨some 154,(.load false 1 (.t 2)),none⟩,⟨some 155,(.nilCheck (.t 154)),none⟩,⟨some 156,(.fieldAddr 3 (.t 155)),none⟩,⟨some 157,(.load false 1 (.t 156)),none⟩,⟨some 158,(.move (.t 7)),none⟩]
def s_f27_r19:List AOper:=s_f27_r19p0 ++ s_f27_r19t1
def s_f27_r19p0_tale:=hT s_f27_r19p0 [153,154,155,156] [157,158] 159 [] [(157,(.op (.load false 1 (.t 0)) [(.op (.fieldAddr 3 (.t 0)) [(.op (.nilCheck (.t 0)) [(.op (.load false 1 (.t 0)) [(.t 2)])])])])),(158,(.t 7))] [.sub 0 [0,0,0] [],.sub 0 [0,0] [],.sub 0 [0] [],.sub 0 [] [],.tt 7] (by kernel_rfl) (by kernel_rfl)
def s_f27_r19_x:=hS s_f27_r19 s_f27_r19p0 s_f27_r19t1 [153,154,155,156] [157,158] [153,154,155,156,157,158,159] rfl (by kernel_rfl)
def s_f27_r19t1_x:=hO s_f27_r19t1 s_f27_r19p1 s_f27_r19t2 [157,158] [153,154,155,156,157,158,159] [⟨some 159,(.call (.c (.fn 35 [] [])) [(.t 157),(.t 158)]),none⟩] rfl rfl (by kernel_rfl)
def s_f27_r19t2_tale:=hT s_f27_r19t2 [153,154,155,156,157,158,159] [10] 11 [] [(10,(.t 159))] [.tt 159] (by kernel_rfl) (by kernel_rfl)
def s_f27_r19t2_x:=hL s_f27_r19t2 [153,154,155,156,157,158,159] [10]
def s_f27_r20:List AOper:=[
 ⟨some 160,(.load false 1 (.t 2)),none⟩,
 ⟨some 161,(.nilCheck (.t 160)),none⟩,
 ⟨some 162,(.fieldAddr 3 (.t 161)),none⟩,
 ⟨some 163,(.load false 1 (.t 162)),none⟩,
 ⟨some 164,(.move (.t 10)),none⟩,
 ⟨some 165,(.subSl 1 (.t 163) (some (.t 164)) none none),none⟩,
 ⟨some 166,(.lenS .s (.t 165)),none⟩,
 ⟨some 167,(.move (.c (.s (.int .i64 0)))),none⟩]
def s_f27_r20_tale:=hT s_f27_r20 [160,161,162,163,164] [165,166,167] 168 [] [(165,(.op (.subSl 1 (.t 0) (some (.t 1)) none none) [(.op (.load false 1 (.t 0)) [(.op (.fieldAddr 3 (.t 0)) [(.op (.nilCheck (.t 0)) [(.op (.load false 1 (.t 0)) [(.t 2)])])])]),(.t 10)])),(166,(.op (.lenS .s (.t 0)) [(.op (.subSl 1 (.t 0) (some (.t 1)) none none) [(.op (.load false 1 (.t 0)) [(.op (.fieldAddr 3 (.t 0)) [(.op (.nilCheck (.t 0)) [(.op (.load false 1 (.t 0)) [(.t 2)])])])]),(.t 10)])])),(167,(.c (.s (.int .i64 0))))] [.sub 0 [0,0,0,0] [],.sub 0 [0,0,0] [],.sub 0 [0,0] [],.sub 0 [0] [],.tt 10,.sub 0 [] [],.sub 1 [] [],.cc (.s (.int .i64 0))] (by kernel_rfl) (by kernel_rfl)
def s_f27_r21:List AOper:=[
 ⟨some 168,(.bin .lss (.t 167) (.t 166)),none⟩]
def s_f27_r21_tale:=hT s_f27_r21 [] [168] 169 [] [(168,(.op (.bin .lss (.t 0) (.t 1)) [(.t 167),(.t 166)]))] [.sub 0 [] []] (by kernel_rfl) (by kernel_rfl)
def s_f27_r22:List AOper:=[
 ⟨some 169,(.indexAddr 1 (.t 165) (.t 167)),none⟩,
 ⟨some 170,(.load false 1 (.t 169)),none⟩,
 ⟨some 12,(.move (.t 170)),none⟩]
def s_f27_r22_tale:=hT s_f27_r22 [168,169,170] [12] 171 [] [(12,(.op (.load false 1 (.t 0)) [(.op (.indexAddr 1 (.t 0) (.t 1)) [(.t 165),(.t 167)])]))] [.sub 0 [0] [],.sub 0 [] [],.sub 0 [] []] (by kernel_rfl) (by kernel_rfl)
def s_f27_r23t1:List AOper:=[⟨none,(.store 1 (.t 177) (.t 176)),none⟩]
def s_f27_r23p0:List AOper:=[⟨some 171,(.load false 1 (.t 2)),none⟩,⟨some 172,(.nilCheck (.t 171)),none⟩,⟨some 173,(.fieldAddr 4 (.t 172)),none⟩,⟨some 174,(.load false 1 (.t 173)),none⟩,⟨some 175,(.move (.t 12)),none⟩,⟨some 176,(.move (.t 7)),none⟩,⟨some 177,(.indexAddr 1 (.t 174) (.t 175)),none⟩]
def s_f27_r23:List AOper:=s_f27_r23p0 ++ s_f27_r23t1
def s_f27_r23p0_tale:=hT s_f27_r23p0 [12,171,172,173,174,175] [176,177] 178 [] [(176,(.t 7)),(177,(.op (.indexAddr 1 (.t 0) (.t 1)) [(.op (.load false 1 (.t 0)) [(.op (.fieldAddr 4 (.t 0)) [(.op (.nilCheck (.t 0)) [(.op (.load false 1 (.t 0)) [(.t 2)])])])]),(.t 12)]))] [.sub 1 [0,0,0,0] [],.sub 1 [0,0,0] [],.sub 1 [0,0] [],.sub 1 [0] [],.tt 12,.tt 7,.sub 1 [] []] (by kernel_rfl) (by kernel_rfl)
def s_f27_r23_x:=hS s_f27_r23 s_f27_r23p0 s_f27_r23t1 [12,171,172,173,174,175] [176,177] [12,171,172,173,174,175,176,177] rfl (by kernel_rfl)
def s_f27_r23t1_x:=hX s_f27_r23t1 [12,171,172,173,174,175,176,177] [⟨none,(.store 1 (.t 177) (.t 176)),none⟩] rfl
def s_f27_r24:List AOper:=[
 ⟨some 178,(.bin .add (.t 167) (.c (.s (.int .i64 1)))),none⟩,
 ⟨some 167,(.move (.t 178)),none⟩]
def s_f27_r24_tale:=hT s_f27_r24 [178] [167] 179 [] [(167,(.op (.bin .add (.t 0) (.c (.s (.int .i64 1)))) [(.t 167),(.c (.s (.int .i64 1)))]))] [.sub 0 [] [],.sub 0 [] []] (by kernel_rfl) (by kernel_rfl)
def s_f27_l0_b:ACode:=
 (.seq (.regionE s_f27_r21 [] [168])
 (.seq (.cond (.t 168)
 .skip
 (.exit 2))
 (.seq (.block 3
 (.seq (.regionE s_f27_r22 [168,169,170] [12])
 (.region s_f27_r23 [] [12,171,172,173,174,175,176,177])))
 (.regionE s_f27_r24 [178] [167]))))
def s_f27_l0:ACode:=s_f27_l0_b
def s_f27_l0_ev:=hE s_f27_l0 s_f27_l0_b rfl
def s_f27_r25t1:List AOper:=[⟨none,(.store 1 (.t 187) (.t 185)),none⟩]
def s_f27_r25p0:List AOper:=[⟨some 179,(.load false 1 (.t 2)),none⟩,⟨some 180,(.load false 1 (.t 2)),none⟩,⟨some 181,(.nilCheck (.t 180)),none⟩,⟨some 182,(.fieldAddr 3 (.t 181)),none⟩,⟨some 183,(.load false 1 (.t 182)),none⟩,⟨some 184,(.move (.t 10)),none⟩,⟨some 185,(.subSl 1 (.t 183) none (some (.t 184)) none),none⟩,⟨some 186,(.nilCheck (.t 179)),none⟩,⟨some 187,(.fieldAddr 3 (.t 186)),none⟩]
def s_f27_r25:List AOper:=s_f27_r25p0 ++ s_f27_r25t1
def s_f27_r25p0_tale:=hT s_f27_r25p0 [7,10,165,166,167,168,179,180,181,182,183,184,186] [185,187] 188 [] [(185,(.op (.subSl 1 (.t 0) none (some (.t 1)) none) [(.op (.load false 1 (.t 0)) [(.op (.fieldAddr 3 (.t 0)) [(.op (.nilCheck (.t 0)) [(.op (.load false 1 (.t 0)) [(.t 2)])])])]),(.t 10)])),(187,(.op (.fieldAddr 3 (.t 0)) [(.op (.nilCheck (.t 0)) [(.op (.load false 1 (.t 0)) [(.t 2)])])]))] [.sub 0 [0,0,0,0] [],.sub 0 [0,0,0,0] [],.sub 0 [0,0,0] [],.sub 0 [0,0] [],.sub 0 [0] [],.tt 10,.sub 0 [] [],.sub 0 [0,0,0] [],.sub 0 [0,0] []] (by kernel_rfl) (by kernel_rfl)
def s_f27_r25_x:=hS s_f27_r25 s_f27_r25p0 s_f27_r25t1 [7,10,165,166,167,168,179,180,181,182,183,184,186] [185,187] [7,10,165,166,167,168,179,180,181,182,183,184,185,186,187] rfl (by kernel_rfl)
def s_f27_r25t1_x:=hX s_f27_r25t1 [7,10,165,166,167,168,179,180,181,182,183,184,185,186,187] [⟨none,(.store 1 (.t 187) (.t 185)),none⟩] rfl
def s_f27_l1_b:ACode:=
 (.seq (.seq (.regionE s_f27_r4 [18,19] [20])
 (.cond (.t 20)
 .skip
 (.exit 0)))
 (.block 1
 (.seq (.regionE s_f27_r5 [20,21,22,23,24,25] [6])
 (.seq (.regionE s_f27_r6 [26,27,28,29] [7])
 (.seq (.seq (.regionE s_f27_r7 [30,31,32,33,34,35,36,37,38,39,40,41] [42])
 (.cond (.t 42)
 (.seq (.regionE s_f27_r8 [42,43,44,45,46,47,48,49,50,51,52,53,54,55] [8])
 (.seq (.region s_f27_r9 [] [6,56,57,58,59,60,61,62])
 (.seq (.seq (.regionE s_f27_r10 [63,64,65,66,67,68,69] [70])
 (.cond (.t 70)
 (.region s_f27_r11 [] [7,8,70,71,72,73])
 (.seq (.regionE s_f27_r12 [70,74,75,76,77,78,79,80] [81])
 (.cond (.t 81)
 (.region s_f27_r13 [] [7,8,81,82,83,84,85,86,87,88,89,90,91,92,93,94,95,96,97,98,99,100,101,102])
 .skip))))
 (.exit 1))))
 .skip))
 (.seq (.region s_f27_r14 [] [6,42,103,104,105,106,107])
 (.seq (.seq (.regionE s_f27_r15 [108,109] [110])
 (.cond (.t 110)
 (.seq (.regionE s_f27_r16 [110,111,112,113,114,115,116,117] [9])
 (.region s_f27_r17 [] [9,118,119,120,121,122,123,124,125,126,127,128,129,130,131,132,133,134,135,136,137,138]))
 .skip))
 (.seq (.regionE s_f27_r18 [110,139,140,141,142,143,144,145,146,147,148,149,150,151,152] [153])
 (.cond (.t 153)
 (.seq (.region s_f27_r19 [] [153,154,155,156,157,158,159])
 (.seq (.seq (.regionE s_f27_r20 [160,161,162,163,164] [165,166,167])
 (.block 2
 (.loop [] s_f27_l0)))
 (.region s_f27_r25 [] [7,10,165,166,167,168,179,180,181,182,183,184,185,186,187])))
 .skip)))))))))
def s_f27_l1:ACode:=s_f27_l1_b
def s_f27_l1_ev:=hE s_f27_l1 s_f27_l1_b rfl
def s_f27:ACFun:={ ntmps:=188,results:=[],body:=
 (.seq (.region s_f27_r0 [] s_f27_r0_k)
 (.seq (.region s_f27_r1 [] [13])
 (.seq (.regionE s_f27_r2 [14] [5])
 (.seq (.region s_f27_r3 [] [1,15,16,17])
 (.block 0
 (.loop [7,8,81,153] s_f27_l1)))))) }
theorem s_f27_first:firstOk (List.range' 2 (s_f27.ntmps - 2)) s_f27.body=true:=by kernel_rfl
abbrev k_f35:Nat:=35
def s_f35_r0_k:List Nat:=[2,3,4,5,6,7,8,9,10,11,12,13,14,15,16,17,18]
theorem s_f35_r0_kT:killV s_f35_r0_k (startV 19 [] 2)=[]:=by kernel_rfl
theorem s_f35_r0_kA0:s_f35_r0_k.contains 0=false:=by kernel_rfl
theorem s_f35_r0_kA1:s_f35_r0_k.contains 1=false:=by kernel_rfl
def s_f35_r0:List AOper:=[
 ⟨some 4,(.move (.c (.s (.int .i64 0)))),none⟩]
def s_f35_r0_tale:=hT s_f35_r0 s_f35_r0_k [] 5 [] [] [.cc (.s (.int .i64 0))] (by kernel_rfl) (by kernel_rfl)
def s_f35_r1:List AOper:=[
 ⟨some 6,(.move (.t 0)),none⟩,
 ⟨some 7,(.lenS .s (.t 6)),none⟩,
 ⟨some 8,(.move (.c (.s (.int .i64 0)))),none⟩]
def s_f35_r1_tale:=hT s_f35_r1 [6] [7,8] 9 [] [(7,(.op (.lenS .s (.t 0)) [(.t 0)])),(8,(.c (.s (.int .i64 0))))] [.tt 0,.sub 0 [] [],.cc (.s (.int .i64 0))] (by kernel_rfl) (by kernel_rfl)
def s_f35_r2:List AOper:=[
 ⟨some 9,(.bin .lss (.t 8) (.t 7)),none⟩]
def s_f35_r2_tale:=hT s_f35_r2 [] [9] 10 [] [(9,(.op (.bin .lss (.t 0) (.t 1)) [(.t 8),(.t 7)]))] [.sub 0 [] []] (by kernel_rfl) (by kernel_rfl)
def s_f35_r3:List AOper:=[
 ⟨some 10,(.move (.t 8)),none⟩,
 ⟨some 5,(.move (.t 10)),none⟩]
def s_f35_r3_tale:=hT s_f35_r3 [9,10] [5] 11 [] [(5,(.t 8))] [.tt 8,.tt 8] (by kernel_rfl) (by kernel_rfl)
def s_f35_r4:List AOper:=[
 ⟨some 11,(.move (.t 1)),none⟩,
 ⟨some 12,(.move (.t 0)),none⟩,
 ⟨some 13,(.move (.t 5)),none⟩,
 ⟨some 14,(.indexAddr 1 (.t 12) (.t 13)),none⟩,
 ⟨some 15,(.load false 1 (.t 14)),none⟩,
 ⟨some 16,(.bin .eql (.t 11) (.t 15)),none⟩]
def s_f35_r4_tale:=hT s_f35_r4 [11,12,13,14,15] [16] 17 [] [(16,(.op (.bin .eql (.t 0) (.t 1)) [(.t 1),(.op (.load false 1 (.t 0)) [(.op (.indexAddr 1 (.t 0) (.t 1)) [(.t 0),(.t 5)])])]))] [.tt 1,.tt 0,.tt 5,.sub 0 [1,0] [],.sub 0 [1] [],.sub 0 [] []] (by kernel_rfl) (by kernel_rfl)
def s_f35_r5:List AOper:=[
 ⟨some 17,(.move (.t 5)),none⟩,
 ⟨some 4,(.move (.t 17)),none⟩]
def s_f35_r5_tale:=hT s_f35_r5 [0,1,5,7,8,16,17] [4] 18 [] [(4,(.t 5))] [.tt 5,.tt 5] (by kernel_rfl) (by kernel_rfl)
def s_f35_r6:List AOper:=[
 ⟨some 18,(.bin .add (.t 8) (.c (.s (.int .i64 1)))),none⟩,
 ⟨some 8,(.move (.t 18)),none⟩]
def s_f35_r6_tale:=hT s_f35_r6 [5,16,18] [8] 19 [] [(8,(.op (.bin .add (.t 0) (.c (.s (.int .i64 1)))) [(.t 8),(.c (.s (.int .i64 1)))]))] [.sub 0 [] [],.sub 0 [] []] (by kernel_rfl) (by kernel_rfl)
def s_f35_l0_b:ACode:=
 (.seq (.regionE s_f35_r2 [] [9])
 (.seq (.cond (.t 9)
 .skip
 (.exit 0))
 (.seq (.block 1
 (.seq (.regionE s_f35_r3 [9,10] [5])
 (.seq (.regionE s_f35_r4 [11,12,13,14,15] [16])
 (.cond (.t 16)
 (.seq (.regionE s_f35_r5 [0,1,5,7,8,16,17] [4])
 .ret)
 .skip))))
 (.regionE s_f35_r6 [5,16,18] [8]))))
def s_f35_l0:ACode:=s_f35_l0_b
def s_f35_l0_ev:=hE s_f35_l0 s_f35_l0_b rfl
def s_f35_r7:List AOper:=[
 ⟨some 4,(.move (.c (.s (.int .i64 (-1))))),none⟩]
def s_f35_r7_tale:=hT s_f35_r7 [0,1,7,8,9] [4] 5 [] [(4,(.c (.s (.int .i64 (-1)))))] [.cc (.s (.int .i64 (-1)))] (by kernel_rfl) (by kernel_rfl)
def s_f35:ACFun:={ ntmps:=19,results:=[(.tmp 4)],body:=
 (.seq (.regionE s_f35_r0 s_f35_r0_k [])
 (.seq (.seq (.regionE s_f35_r1 [6] [7,8])
 (.block 0
 (.loop [] s_f35_l0)))
 (.seq (.regionE s_f35_r7 [0,1,7,8,9] [4])
 .ret))) }
abbrev k_f43:Nat:=43
def s_f43_r0_k:List Nat:=[2,3,4,5,6,7,8,9,10,11,12,13,14,15,16,17,18,19,20,21,22,23,24,25,26,27,28,29]
theorem s_f43_r0_kT:killV s_f43_r0_k (startV 30 [] 2)=[]:=by kernel_rfl
theorem s_f43_r0_kA0:s_f43_r0_k.contains 0=false:=by kernel_rfl
theorem s_f43_r0_kA1:s_f43_r0_k.contains 1=false:=by kernel_rfl
def s_f43_r0:List AOper:=[
 ⟨some 4,(.move (.c (.s (.int .u64 0)))),none⟩,
 ⟨some 5,(.move (.c (.s (.int .u64 0)))),none⟩]
def s_f43_r0_tale:=hT s_f43_r0 s_f43_r0_k [] 6 [] [] [.cc (.s (.int .u64 0)),.cc (.s (.int .u64 0))] (by kernel_rfl) (by kernel_rfl)
def s_f43_r1t2:List AOper:=[⟨some 10,(.move (.t 15)),none⟩,⟨some 16,(.extract (.t 10) 0),none⟩,⟨some 17,(.extract (.t 10) 1),none⟩,⟨some 6,(.move (.t 16)),none⟩,⟨some 7,(.move (.t 17)),none⟩]
def s_f43_r1p1:List AOper:=[⟨some 15,(.call (.c (.fn 49 [] [])) [(.t 12),(.t 14)]),none⟩]
def s_f43_r1t1:List AOper:=s_f43_r1p1 ++ s_f43_r1t2
def s_f43_r1p0:List AOper:=[⟨some 11,(.move (.t 0)),none⟩,⟨some 12,(.conv .u32 (.t 11)),none⟩,⟨some 13,(.move (.t 1)),none⟩,⟨some 14,(.conv .u32 (.t 13)),none⟩]
def s_f43_r1:List AOper:=s_f43_r1p0 ++ s_f43_r1t1
def s_f43_r1p0_tale:=hT s_f43_r1p0 [0,1,11,13] [12,14] 15 [] [(12,(.op (.conv .u32 (.t 0)) [(.t 0)])),(14,(.op (.conv .u32 (.t 0)) [(.t 1)]))] [.tt 0,.sub 0 [] [],.tt 1,.sub 1 [] []] (by kernel_rfl) (by kernel_rfl)
def s_f43_r1_x:=hS s_f43_r1 s_f43_r1p0 s_f43_r1t1 [0,1,11,13] [12,14] [0,1,10,11,12,13,14,15,16,17] rfl (by kernel_rfl)
def s_f43_r1t1_x:=hO s_f43_r1t1 s_f43_r1p1 s_f43_r1t2 [12,14] [0,1,10,11,12,13,14,15,16,17] [⟨some 15,(.call (.c (.fn 49 [] [])) [(.t 12),(.t 14)]),none⟩] rfl rfl (by kernel_rfl)
def s_f43_r1t2_tale:=hT s_f43_r1t2 [0,1,10,11,12,13,14,15,16,17] [6,7] 18 [] [(6,(.op (.extract (.t 0) 0) [(.t 15)])),(7,(.op (.extract (.t 0) 1) [(.t 15)]))] [.tt 15,.sub 0 [] [],.sub 1 [] [],.sub 0 [] [],.sub 1 [] []] (by kernel_rfl) (by kernel_rfl)
def s_f43_r1t2_x:=hL s_f43_r1t2 [0,1,10,11,12,13,14,15,16,17] [6,7]
def s_f43_r2:List AOper:=[
 ⟨some 18,(.move (.t 6)),none⟩,
 ⟨some 19,(.conv .u64 (.t 18)),none⟩,
 ⟨some 20,(.move (.t 7)),none⟩,
 ⟨some 21,(.conv .u64 (.t 20)),none⟩,
 ⟨some 4,(.move (.t 19)),none⟩,
 ⟨some 5,(.move (.t 21)),none⟩]
def s_f43_r2_tale:=hT s_f43_r2 [6,7,18,19,20,21] [4,5] 22 [] [(4,(.op (.conv .u64 (.t 0)) [(.t 6)])),(5,(.op (.conv .u64 (.t 0)) [(.t 7)]))] [.tt 6,.sub 0 [] [],.tt 7,.sub 1 [] [],.sub 0 [] [],.sub 1 [] []] (by kernel_rfl) (by kernel_rfl)
def s_f43_r3t2:List AOper:=[⟨some 22,(.move (.t 25)),none⟩,⟨some 26,(.extract (.t 22) 0),none⟩,⟨some 27,(.extract (.t 22) 1),none⟩,⟨some 8,(.move (.t 26)),none⟩,⟨some 9,(.move (.t 27)),none⟩]
def s_f43_r3p1:List AOper:=[⟨some 25,(.call (.c (.fn 50 [] [])) [(.t 23),(.t 24)]),none⟩]
def s_f43_r3t1:List AOper:=s_f43_r3p1 ++ s_f43_r3t2
def s_f43_r3p0:List AOper:=[⟨some 23,(.move (.t 0)),none⟩,⟨some 24,(.move (.t 1)),none⟩]
def s_f43_r3:List AOper:=s_f43_r3p0 ++ s_f43_r3t1
def s_f43_r3p0_tale:=hT s_f43_r3p0 [0,1] [23,24] 25 [] [(23,(.t 0)),(24,(.t 1))] [.tt 0,.tt 1] (by kernel_rfl) (by kernel_rfl)
def s_f43_r3_x:=hS s_f43_r3 s_f43_r3p0 s_f43_r3t1 [0,1] [23,24] [0,1,22,23,24,25,26,27] rfl (by kernel_rfl)
def s_f43_r3t1_x:=hO s_f43_r3t1 s_f43_r3p1 s_f43_r3t2 [23,24] [0,1,22,23,24,25,26,27] [⟨some 25,(.call (.c (.fn 50 [] [])) [(.t 23),(.t 24)]),none⟩] rfl rfl (by kernel_rfl)
def s_f43_r3t2_tale:=hT s_f43_r3t2 [0,1,22,23,24,25,26,27] [8,9] 28 [] [(8,(.op (.extract (.t 0) 0) [(.t 25)])),(9,(.op (.extract (.t 0) 1) [(.t 25)]))] [.tt 25,.sub 0 [] [],.sub 1 [] [],.sub 0 [] [],.sub 1 [] []] (by kernel_rfl) (by kernel_rfl)
def s_f43_r3t2_x:=hL s_f43_r3t2 [0,1,22,23,24,25,26,27] [8,9]
def s_f43_r4:List AOper:=[
 ⟨some 28,(.move (.t 8)),none⟩,
 ⟨some 29,(.move (.t 9)),none⟩,
 ⟨some 4,(.move (.t 28)),none⟩,
 ⟨some 5,(.move (.t 29)),none⟩]
def s_f43_r4_tale:=hT s_f43_r4 [8,9,28,29] [4,5] 30 [] [(4,(.t 8)),(5,(.t 9))] [.tt 8,.tt 9,.tt 8,.tt 9] (by kernel_rfl) (by kernel_rfl)
def s_f43:ACFun:={ ntmps:=30,results:=[(.tmp 4),(.tmp 5)],body:=
 (.seq (.regionE s_f43_r0 s_f43_r0_k [])
 (.seq (.cond (.c (.s (.bool false)))
 (.seq (.region s_f43_r1 [] [0,1,10,11,12,13,14,15,16,17])
 (.seq (.regionE s_f43_r2 [6,7,18,19,20,21] [4,5])
 .ret))
 .skip)
 (.seq (.region s_f43_r3 [] [0,1,22,23,24,25,26,27])
 (.seq (.regionE s_f43_r4 [8,9,28,29] [4,5])
 .ret)))) }
abbrev k_f44:Nat:=44
def s_f44_r0_k:List Nat:=[3,4,5,6,7,8,9,10,11,12,13,14,15,16,17,18,19,20,21,22,23,24,25,26,27,28,29,30,31,32,33,34,35,36,37,38,39,40,41,42,43,44,45]
theorem s_f44_r0_k_kA0:s_f44_r0_k.contains 0=false:=by kernel_rfl
theorem s_f44_r0_k_kA1:s_f44_r0_k.contains 1=false:=by kernel_rfl
theorem s_f44_r0_k_kA2:s_f44_r0_k.contains 2=false:=by kernel_rfl
theorem s_f44_r0_k_kA4:s_f44_r0_k.contains 4=true:=by kernel_rfl
theorem s_f44_r0_k_kA5:s_f44_r0_k.contains 5=true:=by kernel_rfl
theorem s_f44_r0_k_kA6:s_f44_r0_k.contains 6=true:=by kernel_rfl
theorem s_f44_r0_k_kA7:s_f44_r0_k.contains 7=true:=by kernel_rfl
theorem s_f44_r0_k_kA8:s_f44_r0_k.contains 8=true:=by kernel_rfl
theorem s_f44_r0_k_kA9:s_f44_r0_k.contains 9=true:=by kernel_rfl
theorem s_f44_r0_k_kA10:s_f44_r0_k.contains 10=true:=by kernel_rfl
def s_f44_r0t1:List AOper:=[⟨none,(.store 1 (.t 10) (.t 8)),none⟩]
def s_f44_r0p0:List AOper:=[⟨some 4,(.load false 1 (.t 1)),none⟩,⟨some 5,(.nilCheck (.t 4)),none⟩,⟨some 6,(.fieldAddr 5 (.t 5)),none⟩,⟨some 7,(.load false 1 (.t 6)),none⟩,⟨some 8,(.bin .add (.t 7) (.c (.s (.int .i64 1)))),none⟩,⟨some 9,(.nilCheck (.t 4)),none⟩,⟨some 10,(.fieldAddr 5 (.t 9)),none⟩]
def s_f44_r0:List AOper:=s_f44_r0p0 ++ s_f44_r0t1
def s_f44_r0p0_k:List Nat:=[3,4,5,6,7,9,11,12,13,14,15,16,17,18,19,20,21,22,23,24,25,26,27,28,29,30,31,32,33,34,35,36,37,38,39,40,41,42,43,44,45]
theorem s_f44_r0p0_k_kA0:s_f44_r0p0_k.contains 0=false:=by kernel_rfl
theorem s_f44_r0p0_k_kA1:s_f44_r0p0_k.contains 1=false:=by kernel_rfl
theorem s_f44_r0p0_k_kA2:s_f44_r0p0_k.contains 2=false:=by kernel_rfl
theorem s_f44_r0p0_k_kA4:s_f44_r0p0_k.contains 4=true:=by kernel_rfl
theorem s_f44_r0p0_k_kA5:s_f44_r0p0_k.contains 5=true:=by kernel_rfl
theorem s_f44_r0p0_k_kA6:s_f44_r0p0_k.contains 6=true:=by kernel_rfl
theorem s_f44_r0p0_k_kA7:s_f44_r0p0_k.contains 7=true:=by kernel_rfl
theorem s_f44_r0p0_k_kA8:s_f44_r0p0_k.contains 8=false:=by kernel_rfl
theorem s_f44_r0p0_k_kA9:s_f44_r0p0_k.contains 9=true:=by kernel_rfl
theorem s_f44_r0p0_k_kA10:s_f44_r0p0_k.contains 10=false:=by kernel_rfl
def s_f44_r0p0_tale:=hT s_f44_r0p0 s_f44_r0p0_k [8,10] 11 [] [(8,(.op (.bin .add (.t 0) (.c (.s (.int .i64 1)))) [(.op (.load false 1 (.t 0)) [(.op (.fieldAddr 5 (.t 0)) [(.op (.nilCheck (.t 0)) [(.op (.load false 1 (.t 0)) [(.t 1)])])])]),(.c (.s (.int .i64 1)))])),(10,(.op (.fieldAddr 5 (.t 0)) [(.op (.nilCheck (.t 0)) [(.op (.load false 1 (.t 0)) [(.t 1)])])]))] [.sub 0 [0,0,0,0] [],.sub 0 [0,0,0] [],.sub 0 [0,0] [],.sub 0 [0] [],.sub 0 [] [],.sub 0 [0,0,0] [],.sub 0 [0,0] []] (by kernel_rfl) (by kernel_rfl)
theorem s_f44_r0_x (call:CallF) (it:IterF) (base:Nat) (f:List V) (H:Heap):evC call it base (.region s_f44_r0 [] s_f44_r0_k) f H=segC call it base s_f44_r0t1 s_f44_r0_k H (evTale (symAll s_f44_r0p0 s_f44_r0p0_k [8,10]) s_f44_r0p0_k f H) (origRow call it base s_f44_r0 s_f44_r0_k f H):=row_seg call it base s_f44_r0p0 s_f44_r0t1 (by kernel_rfl) f H
def s_f44_r0t1_x:=hX s_f44_r0t1 s_f44_r0_k [⟨none,(.store 1 (.t 10) (.t 8)),none⟩] rfl
def s_f44_r1t3:List AOper:=[⟨none,(.store 1 (.t 30) (.t 28)),none⟩]
def s_f44_r1p2:List AOper:=[⟨some 30,(.indexAddr 1 (.t 19) (.t 20)),none⟩]
def s_f44_r1t2:List AOper:=s_f44_r1p2 ++ s_f44_r1t3
def s_f44_r1p1:List AOper:=[⟨none,(.store 1 (.t 29) (.t 24)),none⟩]
def s_f44_r1t1:List AOper:=s_f44_r1p1 ++ s_f44_r1t2
def s_f44_r1p0:List AOper:=[⟨some 11,(.load false 1 (.t 1)),none⟩,⟨some 12,(.nilCheck (.t 11)),none⟩,⟨some 13,(.fieldAddr 1 (.t 12)),none⟩,⟨some 14,(.load false 1 (.t 13)),none⟩,⟨some 15,(.move (.t 0)),none⟩,⟨some 16,(.load false 1 (.t 1)),none⟩,⟨some 17,(.nilCheck (.t 16)),none⟩,⟨some 18,(.fieldAddr 2 (.t 17)),none⟩,⟨some 19,(.load false 1 (.t 18)),none⟩,⟨some 20,(.move (.t 0)),none⟩,⟨some 21,(.load false 1 (.t 1)),none⟩,⟨some 22,(.nilCheck (.t 21)),none⟩,⟨some 23,(.fieldAddr 5 (.t 22)),none⟩,⟨some 24,(.load false 1 (.t 23)),none⟩,⟨some 25,(.load false 1 (.t 1)),none⟩,⟨some 26,(.nilCheck (.t 25)),none⟩,⟨some 27,(.fieldAddr 5 (.t 26)),none⟩,⟨some 28,(.load false 1 (.t 27)),none⟩,⟨some 29,(.indexAddr 1 (.t 14) (.t 15)),none⟩]
def s_f44_r1:List AOper:=s_f44_r1p0 ++ s_f44_r1t1
def s_f44_r1p0_tale:=hT s_f44_r1p0 [11,12,13,14,15,16,17,18,21,22,23,25,26,27] [19,20,24,28,29] 30 [] [(19,(.op (.load false 1 (.t 0)) [(.op (.fieldAddr 2 (.t 0)) [(.op (.nilCheck (.t 0)) [(.op (.load false 1 (.t 0)) [(.t 1)])])])])),(20,(.t 0)),(24,(.op (.load false 1 (.t 0)) [(.op (.fieldAddr 5 (.t 0)) [(.op (.nilCheck (.t 0)) [(.op (.load false 1 (.t 0)) [(.t 1)])])])])),(28,(.op (.load false 1 (.t 0)) [(.op (.fieldAddr 5 (.t 0)) [(.op (.nilCheck (.t 0)) [(.op (.load false 1 (.t 0)) [(.t 1)])])])])),(29,(.op (.indexAddr 1 (.t 0) (.t 1)) [(.op (.load false 1 (.t 0)) [(.op (.fieldAddr 1 (.t 0)) [(.op (.nilCheck (.t 0)) [(.op (.load false 1 (.t 0)) [(.t 1)])])])]),(.t 0)]))] [.sub 0 [0,0,0] [],.sub 0 [0,0] [],.sub 4 [0,0] [],.sub 4 [0] [],.tt 0,.sub 0 [0,0,0] [],.sub 0 [0,0] [],.sub 0 [0] [],.sub 0 [] [],.tt 0,.sub 0 [0,0,0] [],.sub 0 [0,0] [],.sub 2 [0] [],.sub 2 [] [],.sub 0 [0,0,0] [],.sub 0 [0,0] [],.sub 2 [0] [],.sub 2 [] [],.sub 4 [] []] (by kernel_rfl) (by kernel_rfl)
def s_f44_r1_x:=hS s_f44_r1 s_f44_r1p0 s_f44_r1t1 [11,12,13,14,15,16,17,18,21,22,23,25,26,27] [19,20,24,28,29] [11,12,13,14,15,16,17,18,19,20,21,22,23,24,25,26,27,28,29,30] rfl (by kernel_rfl)
def s_f44_r1t1_x:=hO s_f44_r1t1 s_f44_r1p1 s_f44_r1t2 [24,29] [11,12,13,14,15,16,17,18,19,20,21,22,23,24,25,26,27,28,29,30] [⟨none,(.store 1 (.t 29) (.t 24)),none⟩] rfl rfl (by kernel_rfl)
def s_f44_r1p2_tale:=hT s_f44_r1p2 [19,20] [30] 31 [] [(30,(.op (.indexAddr 1 (.t 0) (.t 1)) [(.t 19),(.t 20)]))] [.sub 0 [] []] (by kernel_rfl) (by kernel_rfl)
def s_f44_r1t2_x:=hS s_f44_r1t2 s_f44_r1p2 s_f44_r1t3 [19,20] [30] [11,12,13,14,15,16,17,18,19,20,21,22,23,24,25,26,27,28,29,30] rfl (by kernel_rfl)
def s_f44_r1t3_x:=hX s_f44_r1t3 [11,12,13,14,15,16,17,18,19,20,21,22,23,24,25,26,27,28,29,30] [⟨none,(.store 1 (.t 30) (.t 28)),none⟩] rfl
def s_f44_r2:List AOper:=[
 ⟨some 31,(.load false 1 (.t 1)),none⟩,
 ⟨some 32,(.load false 1 (.t 1)),none⟩,
 ⟨some 33,(.nilCheck (.t 32)),none⟩,
 ⟨some 34,(.fieldAddr 3 (.t 33)),none⟩,
 ⟨some 35,(.load false 1 (.t 34)),none⟩,
 ⟨some 36,(.move (.t 0)),none⟩,
 ⟨some 37,(.buildSl 1 1 [(.s (.int .i64 0))] [(0,(.t 36))]),none⟩,
 ⟨some 38,(.append 1 8 (.t 35) (.t 37)),none⟩,
 ⟨some 39,(.nilCheck (.t 31)),none⟩,
 ⟨some 40,(.fieldAddr 3 (.t 39)),none⟩,
 ⟨none,(.store 1 (.t 40) (.t 38)),none⟩]
theorem s_f44_r2_x (call:CallF) (it:IterF) (base:Nat) (f:List V) (H:Heap):evC call it base (.region s_f44_r2 [(0,7)] [1,31,32,33,34,35,36,37,38,39,40]) f H=opsK [1,31,32,33,34,35,36,37,38,39,40] (fun f'=>List.all [(0,7)] (lateOk call base s_f44_r2 f H f')) (evOps call base [⟨some 31,(.load false 1 (.t 1)),none⟩,⟨some 32,(.load false 1 (.t 1)),none⟩,⟨some 33,(.nilCheck (.t 32)),none⟩,⟨some 34,(.fieldAddr 3 (.t 33)),none⟩,⟨some 35,(.load false 1 (.t 34)),none⟩,⟨some 36,(.move (.t 0)),none⟩,⟨some 37,(.buildSl 1 1 [(.s (.int .i64 0))] [(0,(.t 36))]),none⟩,⟨some 38,(.append 1 8 (.t 35) (.t 37)),none⟩,⟨some 39,(.nilCheck (.t 31)),none⟩,⟨some 40,(.fieldAddr 3 (.t 39)),none⟩,⟨none,(.store 1 (.t 40) (.t 38)),none⟩] f H):=row_late call it base _ _ _ f H
def s_f44_r3t3:List AOper:=[⟨none,(.store 1 (.t 2) (.t 45)),none⟩]
def s_f44_r3p2:List AOper:=[⟨some 45,(.append 2 16 (.t 41) (.t 44)),none⟩]
def s_f44_r3t2:List AOper:=s_f44_r3p2 ++ s_f44_r3t3
def s_f44_r3p1:List AOper:=[⟨some 44,(.buildSl 2 1 [(.s (.int .i64 0)),(.s (.int .i64 0))] [(0,(.t 43))]),none⟩]
def s_f44_r3t1:List AOper:=s_f44_r3p1 ++ s_f44_r3t2
def s_f44_r3p0:List AOper:=[⟨some 41,(.load false 1 (.t 2)),none⟩,⟨some 42,(.move (.t 0)),none⟩,⟨some 43,(.build [(.s (.int .i64 0)),(.s (.int .i64 0))] [(0,1),(1,1)] [(0,(.t 42))]),none⟩]
def s_f44_r3:List AOper:=s_f44_r3p0 ++ s_f44_r3t1
def s_f44_r3p0_tale:=hT s_f44_r3p0 [0,42] [41,43] 44 [] [(41,(.op (.load false 1 (.t 0)) [(.t 2)])),(43,(.op (.build [(.s (.int .i64 0)),(.s (.int .i64 0))] [(0,1),(1,1)] [(0,(.t 0))]) [(.t 0)]))] [.sub 0 [] [],.tt 0,.sub 1 [] []] (by kernel_rfl) (by kernel_rfl)
def s_f44_r3_x:=hS s_f44_r3 s_f44_r3p0 s_f44_r3t1 [0,42] [41,43] [0,2,41,42,43,44,45] rfl (by kernel_rfl)
def s_f44_r3t1_x:=hO s_f44_r3t1 s_f44_r3p1 s_f44_r3t2 [43] [0,2,41,42,43,44,45] [⟨some 44,(.buildSl 2 1 [(.s (.int .i64 0)),(.s (.int .i64 0))] [(0,(.t 43))]),none⟩] rfl rfl (by kernel_rfl)
def s_f44_r3t2_x:=hO s_f44_r3t2 s_f44_r3p2 s_f44_r3t3 [41,44] [0,2,41,42,43,44,45] [⟨some 45,(.append 2 16 (.t 41) (.t 44)),none⟩] rfl rfl (by kernel_rfl)
def s_f44_r3t3_x:=hX s_f44_r3t3 [0,2,41,42,43,44,45] [⟨none,(.store 1 (.t 2) (.t 45)),none⟩] rfl
def s_f44:ACFun:={ ntmps:=46,results:=[],body:=
 (.seq (.region s_f44_r0 [] s_f44_r0_k)
 (.seq (.region s_f44_r1 [] [11,12,13,14,15,16,17,18,19,20,21,22,23,24,25,26,27,28,29,30])
 (.seq (.region s_f44_r2 [(0,7)] [1,31,32,33,34,35,36,37,38,39,40])
 (.region s_f44_r3 [] [0,2,41,42,43,44,45])))) }
theorem s_f44_first:firstOk (List.range' 3 (s_f44.ntmps - 3)) s_f44.body=true:=by kernel_rfl
abbrev k_f50:Nat:=50
def s_f50_r0_k:List Nat:=[2,3,4,5,6,7,8,9,10,11,12,13,14,15,16,17,18,19,20,21,22,23,24,25,26,27,28,29,30,31,32,33,34,35,36,37,38,39,40,41,42,43,44,45,46,47,48,49,50]
theorem s_f50_r0_kT:killV s_f50_r0_k (startV 51 [] 2)=[]:=by kernel_rfl
theorem s_f50_r0_kA0:s_f50_r0_k.contains 0=false:=by kernel_rfl
theorem s_f50_r0_kA1:s_f50_r0_k.contains 1=false:=by kernel_rfl
def s_f50_r0:List AOper:=[
 ⟨some 4,(.move (.c (.s (.int .u64 0)))),none⟩,
 ⟨some 5,(.move (.c (.s (.int .u64 0)))),none⟩]
def s_f50_r0_tale:=hT s_f50_r0 s_f50_r0_k [] 6 [] [] [.cc (.s (.int .u64 0)),.cc (.s (.int .u64 0))] (by kernel_rfl) (by kernel_rfl)
def s_f50_r1:List AOper:=[
 ⟨some 14,(.move (.t 0)),none⟩,
 ⟨some 15,(.bin .and (.t 14) (.c (.s (.int .u64 4294967295)))),none⟩,
 ⟨some 6,(.move (.t 15)),none⟩]
def s_f50_r1_tale:=hT s_f50_r1 [14,15] [6] 16 [] [(6,(.op (.bin .and (.t 0) (.c (.s (.int .u64 4294967295)))) [(.t 0),(.c (.s (.int .u64 4294967295)))]))] [.tt 0,.sub 0 [] [],.sub 0 [] []] (by kernel_rfl) (by kernel_rfl)
def s_f50_r2:List AOper:=[
 ⟨some 16,(.move (.t 0)),none⟩,
 ⟨some 17,(.bin .shr (.t 16) (.c (.s (.int .u64 32)))),none⟩,
 ⟨some 7,(.move (.t 17)),none⟩]
def s_f50_r2_tale:=hT s_f50_r2 [16,17] [7] 18 [] [(7,(.op (.bin .shr (.t 0) (.c (.s (.int .u64 32)))) [(.t 0),(.c (.s (.int .u64 32)))]))] [.tt 0,.sub 0 [] [],.sub 0 [] []] (by kernel_rfl) (by kernel_rfl)
def s_f50_r3:List AOper:=[
 ⟨some 18,(.move (.t 1)),none⟩,
 ⟨some 19,(.bin .and (.t 18) (.c (.s (.int .u64 4294967295)))),none⟩,
 ⟨some 8,(.move (.t 19)),none⟩]
def s_f50_r3_tale:=hT s_f50_r3 [18,19] [8] 20 [] [(8,(.op (.bin .and (.t 0) (.c (.s (.int .u64 4294967295)))) [(.t 1),(.c (.s (.int .u64 4294967295)))]))] [.tt 1,.sub 0 [] [],.sub 0 [] []] (by kernel_rfl) (by kernel_rfl)
def s_f50_r4:List AOper:=[
 ⟨some 20,(.move (.t 1)),none⟩,
 ⟨some 21,(.bin .shr (.t 20) (.c (.s (.int .u64 32)))),none⟩,
 ⟨some 9,(.move (.t 21)),none⟩]
def s_f50_r4_tale:=hT s_f50_r4 [20,21] [9] 22 [] [(9,(.op (.bin .shr (.t 0) (.c (.s (.int .u64 32)))) [(.t 1),(.c (.s (.int .u64 32)))]))] [.tt 1,.sub 0 [] [],.sub 0 [] []] (by kernel_rfl) (by kernel_rfl)
def s_f50_r5:List AOper:=[
 ⟨some 22,(.move (.t 6)),none⟩,
 ⟨some 23,(.move (.t 8)),none⟩,
 ⟨some 24,(.bin .mul (.t 22) (.t 23)),none⟩,
 ⟨some 10,(.move (.t 24)),none⟩]
def s_f50_r5_tale:=hT s_f50_r5 [22,23,24] [10] 25 [] [(10,(.op (.bin .mul (.t 0) (.t 1)) [(.t 6),(.t 8)]))] [.tt 6,.tt 8,.sub 0 [] [],.sub 0 [] []] (by kernel_rfl) (by kernel_rfl)
def s_f50_r6:List AOper:=[
 ⟨some 25,(.move (.t 7)),none⟩,
 ⟨some 26,(.move (.t 8)),none⟩,
 ⟨some 27,(.bin .mul (.t 25) (.t 26)),none⟩,
 ⟨some 28,(.move (.t 10)),none⟩,
 ⟨some 29,(.bin .shr (.t 28) (.c (.s (.int .u64 32)))),none⟩,
 ⟨some 30,(.bin .add (.t 27) (.t 29)),none⟩,
 ⟨some 11,(.move (.t 30)),none⟩]
def s_f50_r6_tale:=hT s_f50_r6 [8,10,25,26,27,28,29,30] [11] 31 [] [(11,(.op (.bin .add (.t 0) (.t 1)) [(.op (.bin .mul (.t 0) (.t 1)) [(.t 7),(.t 8)]),(.op (.bin .shr (.t 0) (.c (.s (.int .u64 32)))) [(.t 10),(.c (.s (.int .u64 32)))])]))] [.tt 7,.tt 8,.sub 0 [0] [],.tt 10,.sub 0 [1] [],.sub 0 [] [],.sub 0 [] []] (by kernel_rfl) (by kernel_rfl)
def s_f50_r7:List AOper:=[
 ⟨some 31,(.move (.t 11)),none⟩,
 ⟨some 32,(.bin .and (.t 31) (.c (.s (.int .u64 4294967295)))),none⟩,
 ⟨some 12,(.move (.t 32)),none⟩]
def s_f50_r7_tale:=hT s_f50_r7 [31,32] [12] 33 [] [(12,(.op (.bin .and (.t 0) (.c (.s (.int .u64 4294967295)))) [(.t 11),(.c (.s (.int .u64 4294967295)))]))] [.tt 11,.sub 0 [] [],.sub 0 [] []] (by kernel_rfl) (by kernel_rfl)
def s_f50_r8:List AOper:=[
 ⟨some 33,(.move (.t 11)),none⟩,
 ⟨some 34,(.bin .shr (.t 33) (.c (.s (.int .u64 32)))),none⟩,
 ⟨some 13,(.move (.t 34)),none⟩]
def s_f50_r8_tale:=hT s_f50_r8 [11,33,34] [13] 35 [] [(13,(.op (.bin .shr (.t 0) (.c (.s (.int .u64 32)))) [(.t 11),(.c (.s (.int .u64 32)))]))] [.tt 11,.sub 0 [] [],.sub 0 [] []] (by kernel_rfl) (by kernel_rfl)
def s_f50_r9:List AOper:=[
 ⟨some 35,(.move (.t 12)),none⟩,
 ⟨some 36,(.move (.t 6)),none⟩,
 ⟨some 37,(.move (.t 9)),none⟩,
 ⟨some 38,(.bin .mul (.t 36) (.t 37)),none⟩,
 ⟨some 39,(.bin .add (.t 35) (.t 38)),none⟩,
 ⟨some 12,(.move (.t 39)),none⟩]
def s_f50_r9_tale:=hT s_f50_r9 [6,35,36,37,38,39] [12] 40 [] [(12,(.op (.bin .add (.t 0) (.t 1)) [(.t 12),(.op (.bin .mul (.t 0) (.t 1)) [(.t 6),(.t 9)])]))] [.tt 12,.tt 6,.tt 9,.sub 0 [1] [],.sub 0 [] [],.sub 0 [] []] (by kernel_rfl) (by kernel_rfl)
def s_f50_r10:List AOper:=[
 ⟨some 40,(.move (.t 7)),none⟩,
 ⟨some 41,(.move (.t 9)),none⟩,
 ⟨some 42,(.bin .mul (.t 40) (.t 41)),none⟩,
 ⟨some 43,(.move (.t 13)),none⟩,
 ⟨some 44,(.bin .add (.t 42) (.t 43)),none⟩,
 ⟨some 45,(.move (.t 12)),none⟩,
 ⟨some 46,(.bin .shr (.t 45) (.c (.s (.int .u64 32)))),none⟩,
 ⟨some 47,(.bin .add (.t 44) (.t 46)),none⟩,
 ⟨some 4,(.move (.t 47)),none⟩]
def s_f50_r10_tale:=hT s_f50_r10 [7,9,12,13,40,41,42,43,44,45,46,47] [4] 48 [] [(4,(.op (.bin .add (.t 0) (.t 1)) [(.op (.bin .add (.t 0) (.t 1)) [(.op (.bin .mul (.t 0) (.t 1)) [(.t 7),(.t 9)]),(.t 13)]),(.op (.bin .shr (.t 0) (.c (.s (.int .u64 32)))) [(.t 12),(.c (.s (.int .u64 32)))])]))] [.tt 7,.tt 9,.sub 0 [0,0] [],.tt 13,.sub 0 [0] [],.tt 12,.sub 0 [1] [],.sub 0 [] [],.sub 0 [] []] (by kernel_rfl) (by kernel_rfl)
def s_f50_r11:List AOper:=[
 ⟨some 48,(.move (.t 0)),none⟩,
 ⟨some 49,(.move (.t 1)),none⟩,
 ⟨some 50,(.bin .mul (.t 48) (.t 49)),none⟩,
 ⟨some 5,(.move (.t 50)),none⟩]
def s_f50_r11_tale:=hT s_f50_r11 [0,1,48,49,50] [5] 51 [] [(5,(.op (.bin .mul (.t 0) (.t 1)) [(.t 0),(.t 1)]))] [.tt 0,.tt 1,.sub 0 [] [],.sub 0 [] []] (by kernel_rfl) (by kernel_rfl)
def s_f50:ACFun:={ ntmps:=51,results:=[(.tmp 4),(.tmp 5)],body:=
 (.seq (.regionE s_f50_r0 s_f50_r0_k [])
 (.seq (.regionE s_f50_r1 [14,15] [6])
 (.seq (.regionE s_f50_r2 [16,17] [7])
 (.seq (.regionE s_f50_r3 [18,19] [8])
 (.seq (.regionE s_f50_r4 [20,21] [9])
 (.seq (.regionE s_f50_r5 [22,23,24] [10])
 (.seq (.regionE s_f50_r6 [8,10,25,26,27,28,29,30] [11])
 (.seq (.regionE s_f50_r7 [31,32] [12])
 (.seq (.regionE s_f50_r8 [11,33,34] [13])
 (.seq (.regionE s_f50_r9 [6,35,36,37,38,39] [12])
 (.seq (.regionE s_f50_r10 [7,9,12,13,40,41,42,43,44,45,46,47] [4])
 (.seq (.regionE s_f50_r11 [0,1,48,49,50] [5])
 .ret)))))))))))) }
abbrev k_f40:Nat:=40
def a_f11:=ai @s_f11_r0_tale (ai @s_f11_r0_kT (ai @s_f11_r0_kA0 (ai @s_f11_r1p0_tale (ai @s_f11_r1_x (ai @s_f11_r1t1_x (ai @s_f11_r1p2_tale (ai @s_f11_r1t2_x (ai @s_f11_r1t3_x (ai @s_f11_r1t4_tale (ai @s_f11_r1t4_x (ai @s_f11_r2p0_tale (ai @s_f11_r2_x (ai @s_f11_r2t1_x (ai @s_f11_r2t2_tale (ai @s_f11_r2t2_x (ai @s_f11_r3p0_tale (ai @s_f11_r3_x (ai @s_f11_r3t1_x (ai @s_f11_r3p2_tale (ai @s_f11_r3t2_x (ai @s_f11_r3t3_x (ai @s_f11_r3t4_x (ai @s_f11_r3p5_tale (ai @s_f11_r3t5_x (ai @s_f11_r3t6_x (ai @s_f11_r3p7_tale (ai @s_f11_r3t7_x (ai @s_f11_r3t8_x (ai @s_f11_r3p9_tale (ai @s_f11_r3t9_x (ai @s_f11_r3t10_x (ai @s_f11_r3p11_tale (ai @s_f11_r3t11_x (ai @s_f11_r3t12_x (ai @s_f11_r4_tale (ai @s_f11_r5_tale (ai @s_f11_r6_tale (ai @s_f11_r7_tale (ai @s_f11_r8p0_tale (ai @s_f11_r8_x (ai @s_f11_r8t1_x (ai @s_f11_r9_tale (ai @s_f11_l0_ev (ai @s_f11_r10_x (ai @s_f11_r10t1_tale (ai @s_f11_r10t1_x (ai @s_f11_r11p0_tale (ai @s_f11_r11_x (ai @s_f11_r11t1_x (ai @s_f11_r11t2_tale (ai @s_f11_r11t2_x (ai @s_f11_r12_tale (ai @s_f11_r13_tale (ai @s_f11_r14_tale (ai @s_f11_r15_tale (ai @s_f11_r16_tale (ai @s_f11_r17_tale (ai @s_f11_r18p0_tale (ai @s_f11_r18_x (ai @s_f11_r18t1_x (ai @s_f11_r19p0_tale (ai @s_f11_r19_x (ai @s_f11_r19t1_x (ai @s_f11_r20_tale (ai @s_f11_l1_ev (@s_f11_r21_tale))))))))))))))))))))))))))))))))))))))))))))))))))))))))))))))))))
def a_f25:=ai @s_f25_r0_tale (ai @s_f25_r0_kT (ai @s_f25_r0_kA0 (@s_f25_r1_tale)))
def a_f26:=ai @s_f26_r0_tale (ai @s_f26_r0_kT (ai @s_f26_r0_kA0 (ai @s_f26_r0_kA1 (ai @s_f26_r1_tale (ai @s_f26_r2_x (ai @s_f26_r2t1_x (ai @s_f26_r3p0_tale (ai @s_f26_r3_x (ai @s_f26_r3t1_x (ai @s_f26_r3t2_tale (ai @s_f26_r3t2_x (ai @s_f26_r4_tale (ai @s_f26_r5_x (ai @s_f26_r5t1_x (ai @s_f26_r6p0_tale (ai @s_f26_r6_x (ai @s_f26_r6t1_x (ai @s_f26_r6t2_tale (ai @s_f26_r6t2_x (ai @s_f26_r7p0_tale (ai @s_f26_r7_x (ai @s_f26_r7t1_x (ai @s_f26_r7t2_tale (ai @s_f26_r7t2_x (ai @s_f26_r8_tale (ai @s_f26_r9p0_tale (ai @s_f26_r9_x (ai @s_f26_r9t1_x (ai @s_f26_r9t2_tale (ai @s_f26_r9t2_x (ai @s_f26_l0_ev (@s_f26_r10_tale))))))))))))))))))))))))))))))))
def a_f27:=ai @s_f27_r0_x (ai @s_f27_r0_k_kA0 (ai @s_f27_r0_k_kA1 (ai @s_f27_r0_k_kA2 (ai @s_f27_r1_x (ai @s_f27_r1t1_x (ai @s_f27_r1t2_x (ai @s_f27_r2_tale (ai @s_f27_r3p0_tale (ai @s_f27_r3_x (ai @s_f27_r3t1_x (ai @s_f27_r4_tale (ai @s_f27_r5_tale (ai @s_f27_r6_tale (ai @s_f27_r7_tale (ai @s_f27_r8_tale (ai @s_f27_r9p0_tale (ai @s_f27_r9_x (ai @s_f27_r9t1_x (ai @s_f27_r10_tale (ai @s_f27_r11p0_tale (ai @s_f27_r11_x (ai @s_f27_r11t1_x (ai @s_f27_r12_tale (ai @s_f27_r13p0_tale (ai @s_f27_r13_x (ai @s_f27_r13t1_x (ai @s_f27_r14p0_tale (ai @s_f27_r14_x (ai @s_f27_r14t1_x (ai @s_f27_r15_tale (ai @s_f27_r16_tale (ai @s_f27_r17p0_tale (ai @s_f27_r17_x (ai @s_f27_r17t1_x (ai @s_f27_r18_tale (ai @s_f27_r19p0_tale (ai @s_f27_r19_x (ai @s_f27_r19t1_x (ai @s_f27_r19t2_tale (ai @s_f27_r19t2_x (ai @s_f27_r20_tale (ai @s_f27_r21_tale (ai @s_f27_r22_tale (ai @s_f27_r23p0_tale (ai @s_f27_r23_x (ai @s_f27_r23t1_x (ai @s_f27_r24_tale (ai @s_f27_l0_ev (ai @s_f27_r25p0_tale (ai @s_f27_r25_x (ai @s_f27_r25t1_x (@s_f27_l1_ev))))))))))))))))))))))))))))))))))))))))))))))))))))
def a_f35:=ai @s_f35_r0_tale (ai @s_f35_r0_kT (ai @s_f35_r0_kA0 (ai @s_f35_r0_kA1 (ai @s_f35_r1_tale (ai @s_f35_r2_tale (ai @s_f35_r3_tale (ai @s_f35_r4_tale (ai @s_f35_r5_tale (ai @s_f35_r6_tale (ai @s_f35_l0_ev (@s_f35_r7_tale)))))))))))
def a_f43:=ai @s_f43_r0_tale (ai @s_f43_r0_kT (ai @s_f43_r0_kA0 (ai @s_f43_r0_kA1 (ai @s_f43_r1p0_tale (ai @s_f43_r1_x (ai @s_f43_r1t1_x (ai @s_f43_r1t2_tale (ai @s_f43_r1t2_x (ai @s_f43_r2_tale (ai @s_f43_r3p0_tale (ai @s_f43_r3_x (ai @s_f43_r3t1_x (ai @s_f43_r3t2_tale (ai @s_f43_r3t2_x (@s_f43_r4_tale)))))))))))))))
def a_f44:=ai @s_f44_r0p0_k_kA0 (ai @s_f44_r0p0_k_kA1 (ai @s_f44_r0p0_k_kA2 (ai @s_f44_r0p0_k_kA4 (ai @s_f44_r0p0_k_kA5 (ai @s_f44_r0p0_k_kA6 (ai @s_f44_r0p0_k_kA7 (ai @s_f44_r0p0_k_kA8 (ai @s_f44_r0p0_k_kA9 (ai @s_f44_r0p0_k_kA10 (ai @s_f44_r0p0_tale (ai @s_f44_r0_x (ai @s_f44_r0t1_x (ai @s_f44_r0_k_kA0 (ai @s_f44_r0_k_kA1 (ai @s_f44_r0_k_kA2 (ai @s_f44_r0_k_kA4 (ai @s_f44_r0_k_kA5 (ai @s_f44_r0_k_kA6 (ai @s_f44_r0_k_kA7 (ai @s_f44_r0_k_kA8 (ai @s_f44_r0_k_kA9 (ai @s_f44_r0_k_kA10 (ai @s_f44_r1p0_tale (ai @s_f44_r1_x (ai @s_f44_r1t1_x (ai @s_f44_r1p2_tale (ai @s_f44_r1t2_x (ai @s_f44_r1t3_x (ai @s_f44_r3p0_tale (ai @s_f44_r3_x (ai @s_f44_r3t1_x (ai @s_f44_r3t2_x (@s_f44_r3t3_x)))))))))))))))))))))))))))))))))
def a_f50:=ai @s_f50_r0_tale (ai @s_f50_r0_kT (ai @s_f50_r0_kA0 (ai @s_f50_r0_kA1 (ai @s_f50_r1_tale (ai @s_f50_r2_tale (ai @s_f50_r3_tale (ai @s_f50_r4_tale (ai @s_f50_r5_tale (ai @s_f50_r6_tale (ai @s_f50_r7_tale (ai @s_f50_r8_tale (ai @s_f50_r9_tale (ai @s_f50_r10_tale (@s_f50_r11_tale))))))))))))))
theorem SA1_11:compK Try.prog PX0 11=some (false,s_f11.ntmps,s_f11.results,s_f11.body.bare):=by kernel_rfl
theorem SA1_25:compK Try.prog PX0 25=some (false,s_f25.ntmps,s_f25.results,s_f25.body.bare):=by kernel_rfl
theorem SA1_26:compK Try.prog PX0 26=some (false,s_f26.ntmps,s_f26.results,s_f26.body.bare):=by kernel_rfl
theorem SA1_27:compK Try.prog PX0 27=some (false,s_f27.ntmps,s_f27.results,s_f27.body.bare):=by kernel_rfl
theorem SA1_35:compK Try.prog PX0 35=some (false,s_f35.ntmps,s_f35.results,s_f35.body.bare):=by kernel_rfl
theorem SA1_43:compK Try.prog PX0 43=some (false,s_f43.ntmps,s_f43.results,s_f43.body.bare):=by kernel_rfl
theorem SA1_44:compK Try.prog PX0 44=some (false,s_f44.ntmps,s_f44.results,s_f44.body.bare):=by kernel_rfl
theorem SA1_50:compK Try.prog PX0 50=some (false,s_f50.ntmps,s_f50.results,s_f50.body.bare):=by kernel_rfl
end Go.Proofs.Ytchekhggdbcbbaa
set_option maxRecDepth 100000
namespace Go.Proofs.Ytchekhggdbcbbaa
open Go.AM
abbrev k_f21:Nat:=21
def s_f21_r0_k:List Nat:=[0,2,3,4,5,6,7,8,9,10,11,12,13,14,15,16,17,18,19,20,21,22,23,24,25,26,27,28,29]
theorem s_f21_r0_k_kA0:s_f21_r0_k.contains 0=true:=by kernel_rfl
theorem s_f21_r0_k_kA1:s_f21_r0_k.contains 1=false:=by kernel_rfl
theorem s_f21_r0_k_kA2:s_f21_r0_k.contains 2=true:=by kernel_rfl
def s_f21_r0t1:List AOper:=[⟨some 2,(.move (.c (.s (.slice none 0 0)))),none⟩]
def s_f21_r0p0:List AOper:=[⟨some 1,(.box (.t 0)),none⟩]
def s_f21_r0:List AOper:=s_f21_r0p0 ++ s_f21_r0t1
def s_f21_r0_x:=hO s_f21_r0 s_f21_r0p0 s_f21_r0t1 [0,2,3,4,5,6,7,8,9,10,11,12,13,14,15,16,17,18,19,20,21,22,23,24,25,26,27,28,29] s_f21_r0_k [⟨some 1,(.box (.t 0)),none⟩] rfl rfl (by kernel_rfl)
def s_f21_r0t1_tale:=hT s_f21_r0t1 s_f21_r0_k [] 3 [] [] [.cc (.s (.slice none 0 0))] (by kernel_rfl) (by kernel_rfl)
def s_f21_r0t1_x:=hL s_f21_r0t1 s_f21_r0_k []
def s_f21_r1t2:List AOper:=[⟨some 3,(.move (.t 9)),none⟩]
def s_f21_r1p1:List AOper:=[⟨some 9,(.mkSl [(.s (.slice none 0 0))] 1 24 (.t 8) (.t 8)),none⟩]
def s_f21_r1t1:List AOper:=s_f21_r1p1 ++ s_f21_r1t2
def s_f21_r1p0:List AOper:=[⟨some 7,(.load false 1 (.t 1)),none⟩,⟨some 8,(.lenS .s (.t 7)),none⟩]
def s_f21_r1:List AOper:=s_f21_r1p0 ++ s_f21_r1t1
def s_f21_r1p0_tale:=hT s_f21_r1p0 [7] [8] 9 [] [(8,(.op (.lenS .s (.t 0)) [(.op (.load false 1 (.t 0)) [(.t 1)])]))] [.sub 0 [0] [],.sub 0 [] []] (by kernel_rfl) (by kernel_rfl)
def s_f21_r1_x:=hS s_f21_r1 s_f21_r1p0 s_f21_r1t1 [7] [8] [7,8,9] rfl (by kernel_rfl)
def s_f21_r1t1_x:=hO s_f21_r1t1 s_f21_r1p1 s_f21_r1t2 [8] [7,8,9] [⟨some 9,(.mkSl [(.s (.slice none 0 0))] 1 24 (.t 8) (.t 8)),none⟩] rfl rfl (by kernel_rfl)
def s_f21_r1t2_tale:=hT s_f21_r1t2 [7,8,9] [3] 4 [] [(3,(.t 9))] [.tt 9] (by kernel_rfl) (by kernel_rfl)
def s_f21_r1t2_x:=hL s_f21_r1t2 [7,8,9] [3]
def s_f21_r2:List AOper:=[
 ⟨some 10,(.load false 1 (.t 1)),none⟩,
 ⟨some 11,(.lenS .s (.t 10)),none⟩,
 ⟨some 12,(.move (.c (.s (.int .i64 0)))),none⟩]
def s_f21_r2_tale:=hT s_f21_r2 [] [10,11,12] 13 [] [(10,(.op (.load false 1 (.t 0)) [(.t 1)])),(11,(.op (.lenS .s (.t 0)) [(.op (.load false 1 (.t 0)) [(.t 1)])])),(12,(.c (.s (.int .i64 0))))] [.sub 0 [] [],.sub 1 [] [],.cc (.s (.int .i64 0))] (by kernel_rfl) (by kernel_rfl)
def s_f21_r3:List AOper:=[
 ⟨some 13,(.bin .lss (.t 12) (.t 11)),none⟩]
def s_f21_r3_tale:=hT s_f21_r3 [] [13] 14 [] [(13,(.op (.bin .lss (.t 0) (.t 1)) [(.t 12),(.t 11)]))] [.sub 0 [] []] (by kernel_rfl) (by kernel_rfl)
def s_f21_r4:List AOper:=[
 ⟨some 14,(.move (.t 12)),none⟩,
 ⟨some 15,(.indexAddr 1 (.t 10) (.t 12)),none⟩,
 ⟨some 16,(.load false 1 (.t 15)),none⟩,
 ⟨some 4,(.move (.t 14)),none⟩,
 ⟨some 5,(.move (.t 16)),none⟩]
def s_f21_r4_tale:=hT s_f21_r4 [13,14,15,16] [4,5] 17 [] [(4,(.t 12)),(5,(.op (.load false 1 (.t 0)) [(.op (.indexAddr 1 (.t 0) (.t 1)) [(.t 10),(.t 12)])]))] [.tt 12,.sub 1 [0] [],.sub 1 [] [],.tt 12,.sub 1 [] []] (by kernel_rfl) (by kernel_rfl)
def s_f21_r5t4:List AOper:=[⟨some 6,(.move (.t 20)),none⟩]
def s_f21_r5p3:List AOper:=[⟨some 20,(.call (.c (.fn 37 [] [])) [(.t 18),(.t 19)]),none⟩]
def s_f21_r5t3:List AOper:=s_f21_r5p3 ++ s_f21_r5t4
def s_f21_r5p2:List AOper:=[⟨some 19,(.mkFn 39 [] [(.t 1)]),none⟩]
def s_f21_r5t2:List AOper:=s_f21_r5p2 ++ s_f21_r5t3
def s_f21_r5p1:List AOper:=[⟨some 18,(.call (.c (.fn 38 [] [])) [(.t 17)]),none⟩]
def s_f21_r5t1:List AOper:=s_f21_r5p1 ++ s_f21_r5t2
def s_f21_r5p0:List AOper:=[⟨some 17,(.move (.t 5)),none⟩]
def s_f21_r5:List AOper:=s_f21_r5p0 ++ s_f21_r5t1
def s_f21_r5p0_tale:=hT s_f21_r5p0 [5] [17] 18 [] [(17,(.t 5))] [.tt 5] (by kernel_rfl) (by kernel_rfl)
def s_f21_r5_x:=hS s_f21_r5 s_f21_r5p0 s_f21_r5t1 [5] [17] [5,17,18,19,20] rfl (by kernel_rfl)
def s_f21_r5t1_x:=hO s_f21_r5t1 s_f21_r5p1 s_f21_r5t2 [17] [5,17,18,19,20] [⟨some 18,(.call (.c (.fn 38 [] [])) [(.t 17)]),none⟩] rfl rfl (by kernel_rfl)
def s_f21_r5p2_tale:=hT s_f21_r5p2 [] [19] 20 [] [(19,(.op (.mkFn 39 [] [(.t 0)]) [(.t 1)]))] [.sub 0 [] []] (by kernel_rfl) (by kernel_rfl)
def s_f21_r5t2_x:=hS s_f21_r5t2 s_f21_r5p2 s_f21_r5t3 [] [19] [5,17,18,19,20] rfl (by kernel_rfl)
def s_f21_r5t3_x:=hO s_f21_r5t3 s_f21_r5p3 s_f21_r5t4 [18,19] [5,17,18,19,20] [⟨some 20,(.call (.c (.fn 37 [] [])) [(.t 18),(.t 19)]),none⟩] rfl rfl (by kernel_rfl)
def s_f21_r5t4_tale:=hT s_f21_r5t4 [5,17,18,19,20] [6] 7 [] [(6,(.t 20))] [.tt 20] (by kernel_rfl) (by kernel_rfl)
def s_f21_r5t4_x:=hL s_f21_r5t4 [5,17,18,19,20] [6]
def s_f21_r6t1:List AOper:=[⟨some 22,(.call (.c (.fn 40 [] [])) [(.t 21)]),none⟩]
def s_f21_r6p0:List AOper:=[⟨some 21,(.move (.t 6)),none⟩]
def s_f21_r6:List AOper:=s_f21_r6p0 ++ s_f21_r6t1
def s_f21_r6p0_tale:=hT s_f21_r6p0 [] [21] 22 [] [(21,(.t 6))] [.tt 6] (by kernel_rfl) (by kernel_rfl)
def s_f21_r6_x:=hS s_f21_r6 s_f21_r6p0 s_f21_r6t1 [] [21] [21,22] rfl (by kernel_rfl)
def s_f21_r6t1_x:=hX s_f21_r6t1 [21,22] [⟨some 22,(.call (.c (.fn 40 [] [])) [(.t 21)]),none⟩] rfl
def s_f21_r7t3:List AOper:=[⟨none,(.store 1 (.t 27) (.t 26)),none⟩]
def s_f21_r7p2:List AOper:=[⟨some 27,(.indexAddr 1 (.t 23) (.t 24)),none⟩]
def s_f21_r7t2:List AOper:=s_f21_r7p2 ++ s_f21_r7t3
def s_f21_r7p1:List AOper:=[⟨some 26,(.call (.c (.fn 41 [] [])) [(.t 25)]),none⟩]
def s_f21_r7t1:List AOper:=s_f21_r7p1 ++ s_f21_r7t2
def s_f21_r7p0:List AOper:=[⟨some 23,(.move (.t 3)),none⟩,⟨some 24,(.move (.t 4)),none⟩,⟨some 25,(.move (.t 6)),none⟩]
def s_f21_r7:List AOper:=s_f21_r7p0 ++ s_f21_r7t1
def s_f21_r7p0_tale:=hT s_f21_r7p0 [4,6] [23,24,25] 26 [] [(23,(.t 3)),(24,(.t 4)),(25,(.t 6))] [.tt 3,.tt 4,.tt 6] (by kernel_rfl) (by kernel_rfl)
def s_f21_r7_x:=hS s_f21_r7 s_f21_r7p0 s_f21_r7t1 [4,6] [23,24,25] [4,6,23,24,25,26,27] rfl (by kernel_rfl)
def s_f21_r7t1_x:=hO s_f21_r7t1 s_f21_r7p1 s_f21_r7t2 [25] [4,6,23,24,25,26,27] [⟨some 26,(.call (.c (.fn 41 [] [])) [(.t 25)]),none⟩] rfl rfl (by kernel_rfl)
def s_f21_r7p2_tale:=hT s_f21_r7p2 [23,24] [27] 28 [] [(27,(.op (.indexAddr 1 (.t 0) (.t 1)) [(.t 23),(.t 24)]))] [.sub 0 [] []] (by kernel_rfl) (by kernel_rfl)
def s_f21_r7t2_x:=hS s_f21_r7t2 s_f21_r7p2 s_f21_r7t3 [23,24] [27] [4,6,23,24,25,26,27] rfl (by kernel_rfl)
def s_f21_r7t3_x:=hX s_f21_r7t3 [4,6,23,24,25,26,27] [⟨none,(.store 1 (.t 27) (.t 26)),none⟩] rfl
def s_f21_r8:List AOper:=[
 ⟨some 28,(.bin .add (.t 12) (.c (.s (.int .i64 1)))),none⟩,
 ⟨some 12,(.move (.t 28)),none⟩]
def s_f21_r8_tale:=hT s_f21_r8 [28] [12] 29 [] [(12,(.op (.bin .add (.t 0) (.c (.s (.int .i64 1)))) [(.t 12),(.c (.s (.int .i64 1)))]))] [.sub 0 [] [],.sub 0 [] []] (by kernel_rfl) (by kernel_rfl)
def s_f21_l0_b:ACode:=
 (.seq (.regionE s_f21_r3 [] [13])
 (.seq (.cond (.t 13)
 .skip
 (.exit 0))
 (.seq (.block 1
 (.seq (.regionE s_f21_r4 [13,14,15,16] [4,5])
 (.seq (.region s_f21_r5 [] [5,17,18,19,20])
 (.seq (.region s_f21_r6 [] [21,22])
 (.region s_f21_r7 [] [4,6,23,24,25,26,27])))))
 (.regionE s_f21_r8 [28] [12]))))
def s_f21_l0:ACode:=s_f21_l0_b
def s_f21_l0_ev:=hE s_f21_l0 s_f21_l0_b rfl
def s_f21_r9:List AOper:=[
 ⟨some 29,(.move (.t 3)),none⟩,
 ⟨some 2,(.move (.t 29)),none⟩]
def s_f21_r9_tale:=hT s_f21_r9 [1,3,10,11,12,13,29] [2] 30 [] [(2,(.t 3))] [.tt 3,.tt 3] (by kernel_rfl) (by kernel_rfl)
def s_f21:ACFun:={ ntmps:=30,results:=[(.tmp 2)],body:=
 (.seq (.region s_f21_r0 [] s_f21_r0_k)
 (.seq (.region s_f21_r1 [] [7,8,9])
 (.seq (.seq (.regionE s_f21_r2 [] [10,11,12])
 (.block 0
 (.loop [] s_f21_l0)))
 (.seq (.regionE s_f21_r9 [1,3,10,11,12,13,29] [2])
 .ret)))) }
theorem s_f21_first:firstOk (List.range' 1 (s_f21.ntmps - 1)) s_f21.body=true:=by kernel_rfl
abbrev k_f22:Nat:=22
def s_f22_r0_k:List Nat:=[1,2,3,4,5,6,7,8,9,10,11,12,13,14,15,16,17,18,19,20,21,22,23,24,25,26,27,28,29,30,31,32,33,34,35,36,37]
theorem s_f22_r0_kT:killV s_f22_r0_k (startV 38 [] 1)=[]:=by kernel_rfl
theorem s_f22_r0_kA0:s_f22_r0_k.contains 0=false:=by kernel_rfl
def s_f22_r0:List AOper:=[
 ⟨some 2,(.move (.c (.s (.slice none 0 0)))),none⟩]
def s_f22_r0_tale:=hT s_f22_r0 s_f22_r0_k [] 3 [] [] [.cc (.s (.slice none 0 0))] (by kernel_rfl) (by kernel_rfl)
def s_f22_r1t2:List AOper:=[⟨some 3,(.move (.t 10)),none⟩]
def s_f22_r1p1:List AOper:=[⟨some 10,(.mkSl [(.s (.slice none 0 0))] 1 24 (.t 9) (.t 9)),none⟩]
def s_f22_r1t1:List AOper:=s_f22_r1p1 ++ s_f22_r1t2
def s_f22_r1p0:List AOper:=[⟨some 8,(.move (.t 0)),none⟩,⟨some 9,(.lenS .s (.t 8)),none⟩]
def s_f22_r1:List AOper:=s_f22_r1p0 ++ s_f22_r1t1
def s_f22_r1p0_tale:=hT s_f22_r1p0 [8] [9] 10 [] [(9,(.op (.lenS .s (.t 0)) [(.t 0)]))] [.tt 0,.sub 0 [] []] (by kernel_rfl) (by kernel_rfl)
def s_f22_r1_x:=hS s_f22_r1 s_f22_r1p0 s_f22_r1t1 [8] [9] [8,9,10] rfl (by kernel_rfl)
def s_f22_r1t1_x:=hO s_f22_r1t1 s_f22_r1p1 s_f22_r1t2 [9] [8,9,10] [⟨some 10,(.mkSl [(.s (.slice none 0 0))] 1 24 (.t 9) (.t 9)),none⟩] rfl rfl (by kernel_rfl)
def s_f22_r1t2_tale:=hT s_f22_r1t2 [8,9,10] [3] 4 [] [(3,(.t 10))] [.tt 10] (by kernel_rfl) (by kernel_rfl)
def s_f22_r1t2_x:=hL s_f22_r1t2 [8,9,10] [3]
def s_f22_r2t2:List AOper:=[⟨some 13,(.lenS .s (.t 12)),none⟩,⟨some 14,(.move (.c (.s (.int .i64 0)))),none⟩]
def s_f22_r2p1:List AOper:=[⟨some 12,(.call (.c (.fn 21 [] [])) [(.t 11)]),none⟩]
def s_f22_r2t1:List AOper:=s_f22_r2p1 ++ s_f22_r2t2
def s_f22_r2p0:List AOper:=[⟨some 11,(.move (.t 0)),none⟩]
def s_f22_r2:List AOper:=s_f22_r2p0 ++ s_f22_r2t1
def s_f22_r2p0_tale:=hT s_f22_r2p0 [0] [11] 12 [] [(11,(.t 0))] [.tt 0] (by kernel_rfl) (by kernel_rfl)
def s_f22_r2_x:=hS s_f22_r2 s_f22_r2p0 s_f22_r2t1 [0] [11] [0,11] rfl (by kernel_rfl)
def s_f22_r2t1_x:=hO s_f22_r2t1 s_f22_r2p1 s_f22_r2t2 [11] [0,11] [⟨some 12,(.call (.c (.fn 21 [] [])) [(.t 11)]),none⟩] rfl rfl (by kernel_rfl)
def s_f22_r2t2_tale:=hT s_f22_r2t2 [0,11] [13,14] 15 [] [(13,(.op (.lenS .s (.t 0)) [(.t 12)])),(14,(.c (.s (.int .i64 0))))] [.sub 0 [] [],.cc (.s (.int .i64 0))] (by kernel_rfl) (by kernel_rfl)
def s_f22_r2t2_x:=hL s_f22_r2t2 [0,11] [13,14]
def s_f22_r3:List AOper:=[
 ⟨some 15,(.bin .lss (.t 14) (.t 13)),none⟩]
def s_f22_r3_tale:=hT s_f22_r3 [] [15] 16 [] [(15,(.op (.bin .lss (.t 0) (.t 1)) [(.t 14),(.t 13)]))] [.sub 0 [] []] (by kernel_rfl) (by kernel_rfl)
def s_f22_r4:List AOper:=[
 ⟨some 16,(.move (.t 14)),none⟩,
 ⟨some 17,(.indexAddr 1 (.t 12) (.t 14)),none⟩,
 ⟨some 18,(.load false 1 (.t 17)),none⟩,
 ⟨some 4,(.move (.t 16)),none⟩,
 ⟨some 5,(.move (.t 18)),none⟩]
def s_f22_r4_tale:=hT s_f22_r4 [15,16,17,18] [4,5] 19 [] [(4,(.t 14)),(5,(.op (.load false 1 (.t 0)) [(.op (.indexAddr 1 (.t 0) (.t 1)) [(.t 12),(.t 14)])]))] [.tt 14,.sub 1 [0] [],.sub 1 [] [],.tt 14,.sub 1 [] []] (by kernel_rfl) (by kernel_rfl)
def s_f22_r5:List AOper:=[
 ⟨some 19,(.move (.t 5)),none⟩,
 ⟨some 20,(.lenS .s (.t 19)),none⟩,
 ⟨some 21,(.move (.c (.s (.int .i64 0)))),none⟩]
def s_f22_r5_tale:=hT s_f22_r5 [5] [19,20,21] 22 [] [(19,(.t 5)),(20,(.op (.lenS .s (.t 0)) [(.t 5)])),(21,(.c (.s (.int .i64 0))))] [.tt 5,.sub 1 [] [],.cc (.s (.int .i64 0))] (by kernel_rfl) (by kernel_rfl)
def s_f22_r6:List AOper:=[
 ⟨some 22,(.bin .lss (.t 21) (.t 20)),none⟩]
def s_f22_r6_tale:=hT s_f22_r6 [] [22] 23 [] [(22,(.op (.bin .lss (.t 0) (.t 1)) [(.t 21),(.t 20)]))] [.sub 0 [] []] (by kernel_rfl) (by kernel_rfl)
def s_f22_r7:List AOper:=[
 ⟨some 23,(.indexAddr 1 (.t 19) (.t 21)),none⟩,
 ⟨some 24,(.load false 1 (.t 23)),none⟩,
 ⟨some 7,(.move (.t 24)),none⟩]
def s_f22_r7_tale:=hT s_f22_r7 [22,23,24] [7] 25 [] [(7,(.op (.load false 1 (.t 0)) [(.op (.indexAddr 1 (.t 0) (.t 1)) [(.t 19),(.t 21)])]))] [.sub 0 [0] [],.sub 0 [] [],.sub 0 [] []] (by kernel_rfl) (by kernel_rfl)
def s_f22_r8t4:List AOper:=[⟨none,(.store 1 (.t 34) (.t 33)),none⟩]
def s_f22_r8p3:List AOper:=[⟨some 34,(.indexAddr 1 (.t 25) (.t 26)),none⟩]
def s_f22_r8t3:List AOper:=s_f22_r8p3 ++ s_f22_r8t4
def s_f22_r8p2:List AOper:=[⟨some 33,(.append 1 8 (.t 30) (.t 32)),none⟩]
def s_f22_r8t2:List AOper:=s_f22_r8p2 ++ s_f22_r8t3
def s_f22_r8p1:List AOper:=[⟨some 32,(.buildSl 1 1 [(.s (.int .i64 0))] [(0,(.t 31))]),none⟩]
def s_f22_r8t1:List AOper:=s_f22_r8p1 ++ s_f22_r8t2
def s_f22_r8p0:List AOper:=[⟨some 25,(.move (.t 3)),none⟩,⟨some 26,(.move (.t 7)),none⟩,⟨some 27,(.move (.t 3)),none⟩,⟨some 28,(.move (.t 7)),none⟩,⟨some 29,(.indexAddr 1 (.t 27) (.t 28)),none⟩,⟨some 30,(.load false 1 (.t 29)),none⟩,⟨some 31,(.move (.t 4)),none⟩]
def s_f22_r8:List AOper:=s_f22_r8p0 ++ s_f22_r8t1
def s_f22_r8p0_tale:=hT s_f22_r8p0 [7,27,28,29] [25,26,30,31] 32 [] [(25,(.t 3)),(26,(.t 7)),(30,(.op (.load false 1 (.t 0)) [(.op (.indexAddr 1 (.t 0) (.t 1)) [(.t 3),(.t 7)])])),(31,(.t 4))] [.tt 3,.tt 7,.tt 3,.tt 7,.sub 2 [0] [],.sub 2 [] [],.tt 4] (by kernel_rfl) (by kernel_rfl)
def s_f22_r8_x:=hS s_f22_r8 s_f22_r8p0 s_f22_r8t1 [7,27,28,29] [25,26,30,31] [7,25,26,27,28,29,30,31,32,33,34] rfl (by kernel_rfl)
def s_f22_r8t1_x:=hO s_f22_r8t1 s_f22_r8p1 s_f22_r8t2 [31] [7,25,26,27,28,29,30,31,32,33,34] [⟨some 32,(.buildSl 1 1 [(.s (.int .i64 0))] [(0,(.t 31))]),none⟩] rfl rfl (by kernel_rfl)
def s_f22_r8t2_x:=hO s_f22_r8t2 s_f22_r8p2 s_f22_r8t3 [30,32] [7,25,26,27,28,29,30,31,32,33,34] [⟨some 33,(.append 1 8 (.t 30) (.t 32)),none⟩] rfl rfl (by kernel_rfl)
def s_f22_r8p3_tale:=hT s_f22_r8p3 [25,26] [34] 35 [] [(34,(.op (.indexAddr 1 (.t 0) (.t 1)) [(.t 25),(.t 26)]))] [.sub 0 [] []] (by kernel_rfl) (by kernel_rfl)
def s_f22_r8t3_x:=hS s_f22_r8t3 s_f22_r8p3 s_f22_r8t4 [25,26] [34] [7,25,26,27,28,29,30,31,32,33,34] rfl (by kernel_rfl)
def s_f22_r8t4_x:=hX s_f22_r8t4 [7,25,26,27,28,29,30,31,32,33,34] [⟨none,(.store 1 (.t 34) (.t 33)),none⟩] rfl
def s_f22_r9:List AOper:=[
 ⟨some 35,(.bin .add (.t 21) (.c (.s (.int .i64 1)))),none⟩,
 ⟨some 21,(.move (.t 35)),none⟩]
def s_f22_r9_tale:=hT s_f22_r9 [35] [21] 36 [] [(21,(.op (.bin .add (.t 0) (.c (.s (.int .i64 1)))) [(.t 21),(.c (.s (.int .i64 1)))]))] [.sub 0 [] [],.sub 0 [] []] (by kernel_rfl) (by kernel_rfl)
def s_f22_l0_b:ACode:=
 (.seq (.regionE s_f22_r6 [] [22])
 (.seq (.cond (.t 22)
 .skip
 (.exit 2))
 (.seq (.block 3
 (.seq (.regionE s_f22_r7 [22,23,24] [7])
 (.region s_f22_r8 [] [7,25,26,27,28,29,30,31,32,33,34])))
 (.regionE s_f22_r9 [35] [21]))))
def s_f22_l0:ACode:=s_f22_l0_b
def s_f22_l0_ev:=hE s_f22_l0 s_f22_l0_b rfl
def s_f22_r10:List AOper:=[
 ⟨some 36,(.bin .add (.t 14) (.c (.s (.int .i64 1)))),none⟩,
 ⟨some 14,(.move (.t 36)),none⟩]
def s_f22_r10_tale:=hT s_f22_r10 [4,19,20,21,22,36] [14] 37 [] [(14,(.op (.bin .add (.t 0) (.c (.s (.int .i64 1)))) [(.t 14),(.c (.s (.int .i64 1)))]))] [.sub 0 [] [],.sub 0 [] []] (by kernel_rfl) (by kernel_rfl)
def s_f22_l1_b:ACode:=
 (.seq (.regionE s_f22_r3 [] [15])
 (.seq (.cond (.t 15)
 .skip
 (.exit 0))
 (.seq (.block 1
 (.seq (.regionE s_f22_r4 [15,16,17,18] [4,5])
 (.seq (.regionE s_f22_r5 [5] [19,20,21])
 (.block 2
 (.loop [] s_f22_l0)))))
 (.regionE s_f22_r10 [4,19,20,21,22,36] [14]))))
def s_f22_l1:ACode:=s_f22_l1_b
def s_f22_l1_ev:=hE s_f22_l1 s_f22_l1_b rfl
def s_f22_r11:List AOper:=[
 ⟨some 37,(.move (.t 3)),none⟩,
 ⟨some 2,(.move (.t 37)),none⟩]
def s_f22_r11_tale:=hT s_f22_r11 [3,12,13,14,15,37] [2] 38 [] [(2,(.t 3))] [.tt 3,.tt 3] (by kernel_rfl) (by kernel_rfl)
def s_f22:ACFun:={ ntmps:=38,results:=[(.tmp 2)],body:=
 (.seq (.regionE s_f22_r0 s_f22_r0_k [])
 (.seq (.region s_f22_r1 [] [8,9,10])
 (.seq (.seq (.region s_f22_r2 [] [0,11])
 (.block 0
 (.loop [] s_f22_l1)))
 (.seq (.regionE s_f22_r11 [3,12,13,14,15,37] [2])
 .ret)))) }
abbrev k_f23:Nat:=23
def s_f23_r0_k:List Nat:=[3,4,5,6,7,8,9,10,11,12,13,14,15,16,17,18,19,20,21,22,23]
theorem s_f23_r0_kT:killV s_f23_r0_k (startV 24 [] 3)=[]:=by kernel_rfl
theorem s_f23_r0_kA0:s_f23_r0_k.contains 0=false:=by kernel_rfl
theorem s_f23_r0_kA1:s_f23_r0_k.contains 1=false:=by kernel_rfl
theorem s_f23_r0_kA2:s_f23_r0_k.contains 2=false:=by kernel_rfl
def s_f23_r0:List AOper:=[
 ⟨some 6,(.move (.c (.s (.bool false)))),none⟩]
def s_f23_r0_tale:=hT s_f23_r0 s_f23_r0_k [] 7 [] [] [.cc (.s (.bool false))] (by kernel_rfl) (by kernel_rfl)
def s_f23_r1t5:List AOper:=[⟨some 20,(.move (.t 2)),some (15,true)⟩,⟨some 21,(.indexAddr 1 (.t 19) (.t 20)),some (15,true)⟩,⟨some 22,(.load false 1 (.t 21)),some (15,true)⟩,⟨some 23,(.pick (.t 15) (.t 22) (.c (.s (.bool false)))),none⟩,⟨some 6,(.move (.t 23)),none⟩]
def s_f23_r1p4:List AOper:=[⟨some 19,(.call (.c (.fn 42 [] [])) [(.t 16),(.t 18)]),some (15,true)⟩]
def s_f23_r1t4:List AOper:=s_f23_r1p4 ++ s_f23_r1t5
def s_f23_r1p3:List AOper:=[⟨some 18,(.buildSl 1 1 [(.s (.int .i64 0))] [(0,(.t 17))]),some (15,true)⟩]
def s_f23_r1t3:List AOper:=s_f23_r1p3 ++ s_f23_r1t4
def s_f23_r1p2:List AOper:=[⟨some 17,(.move (.t 1)),some (15,true)⟩]
def s_f23_r1t2:List AOper:=s_f23_r1p2 ++ s_f23_r1t3
def s_f23_r1p1:List AOper:=[⟨some 16,(.move (.t 0)),some (15,true)⟩]
def s_f23_r1t1:List AOper:=s_f23_r1p1 ++ s_f23_r1t2
def s_f23_r1p0:List AOper:=[⟨some 7,(.move (.t 2)),none⟩,⟨some 8,(.bin .geq (.t 7) (.c (.s (.int .i64 0)))),none⟩,⟨some 9,(.move (.t 8)),none⟩,⟨some 10,(.move (.t 2)),some (9,true)⟩,⟨some 11,(.move (.t 0)),some (9,true)⟩,⟨some 12,(.lenS .s (.t 11)),some (9,true)⟩,⟨some 13,(.bin .lss (.t 10) (.t 12)),some (9,true)⟩,⟨some 14,(.pick (.t 9) (.t 13) (.c (.s (.bool false)))),none⟩,⟨some 15,(.move (.t 14)),none⟩]
def s_f23_r1:List AOper:=s_f23_r1p0 ++ s_f23_r1t1
def s_f23_r1p0_tale:=hT s_f23_r1p0 [7,8,9,10,11,12,13,14] [15] 16 [] [(15,(.pick (.op (.bin .geq (.t 0) (.c (.s (.int .i64 0)))) [(.t 2),(.c (.s (.int .i64 0)))]) (.op (.bin .lss (.t 0) (.t 1)) [(.t 2),(.op (.lenS .s (.t 0)) [(.t 0)])]) (.c (.s (.bool false)))))] [.tt 2,.sub 0 [0] [],.sub 0 [0] [],.sub 0 [1,0] [9],.sub 0 [1,1,0] [9],.sub 0 [1,1] [9],.sub 0 [1] [9],.sub 0 [] [],.sub 0 [] []] (by kernel_rfl) (by kernel_rfl)
def s_f23_r1_x:=hS s_f23_r1 s_f23_r1p0 s_f23_r1t1 [7,8,9,10,11,12,13,14] [15] [0,1,2,7,8,9,10,11,12,13,14,15,16,17,18,19,20,21,22,23] rfl (by kernel_rfl)
def s_f23_r1t1_x:=hO s_f23_r1t1 s_f23_r1p1 s_f23_r1t2 [0] [0,1,2,7,8,9,10,11,12,13,14,15,16,17,18,19,20,21,22,23] [⟨some 16,(.move (.t 0)),some (15,true)⟩] rfl rfl (by kernel_rfl)
def s_f23_r1t2_x:=hO s_f23_r1t2 s_f23_r1p2 s_f23_r1t3 [1] [0,1,2,7,8,9,10,11,12,13,14,15,16,17,18,19,20,21,22,23] [⟨some 17,(.move (.t 1)),some (15,true)⟩] rfl rfl (by kernel_rfl)
def s_f23_r1t3_x:=hO s_f23_r1t3 s_f23_r1p3 s_f23_r1t4 [17] [0,1,2,7,8,9,10,11,12,13,14,15,16,17,18,19,20,21,22,23] [⟨some 18,(.buildSl 1 1 [(.s (.int .i64 0))] [(0,(.t 17))]),some (15,true)⟩] rfl rfl (by kernel_rfl)
def s_f23_r1t4_x:=hO s_f23_r1t4 s_f23_r1p4 s_f23_r1t5 [16,18] [0,1,2,7,8,9,10,11,12,13,14,15,16,17,18,19,20,21,22,23] [⟨some 19,(.call (.c (.fn 42 [] [])) [(.t 16),(.t 18)]),some (15,true)⟩] rfl rfl (by kernel_rfl)
def s_f23_r1t5_tale:=hT s_f23_r1t5 [0,1,2,7,8,9,10,11,12,13,14,15,16,17,18,19,20,21,22,23] [6] 24 [] [(6,(.pick (.t 15) (.op (.load false 1 (.t 0)) [(.op (.indexAddr 1 (.t 0) (.t 1)) [(.t 19),(.t 2)])]) (.c (.s (.bool false)))))] [.sub 0 [1,0,1] [15],.sub 0 [1,0] [15],.sub 0 [1] [15],.sub 0 [] [],.sub 0 [] []] (by kernel_rfl) (by kernel_rfl)
def s_f23_r1t5_x:=hL s_f23_r1t5 [0,1,2,7,8,9,10,11,12,13,14,15,16,17,18,19,20,21,22,23] [6]
def s_f23:ACFun:={ ntmps:=24,results:=[(.tmp 6)],body:=
 (.seq (.regionE s_f23_r0 s_f23_r0_k [])
 (.seq (.region s_f23_r1 [] [0,1,2,7,8,9,10,11,12,13,14,15,16,17,18,19,20,21,22,23])
 .ret)) }
abbrev k_f37:Nat:=37
def s_f37_r0_k:List Nat:=[2,3,4,5,6,7,8,9,10,11,12,13,14,15,16,17,18,19,20,21,22,23,24,25,26,27,28,29,30,31,32,33,34,35,36,37,38,39,40,41]
theorem s_f37_r0_kT:killV s_f37_r0_k (startV 42 [] 2)=[]:=by kernel_rfl
theorem s_f37_r0_kA0:s_f37_r0_k.contains 0=false:=by kernel_rfl
theorem s_f37_r0_kA1:s_f37_r0_k.contains 1=false:=by kernel_rfl
def s_f37_r0:List AOper:=[
 ⟨some 4,(.move (.c (.s (.slice none 0 0)))),none⟩]
def s_f37_r0_tale:=hT s_f37_r0 s_f37_r0_k [] 5 [] [] [.cc (.s (.slice none 0 0))] (by kernel_rfl) (by kernel_rfl)
def s_f37_r1t2:List AOper:=[⟨some 5,(.move (.t 10)),none⟩]
def s_f37_r1p1:List AOper:=[⟨some 10,(.call (.c (.fn 45 [] [])) [(.t 8),(.t 9)]),none⟩]
def s_f37_r1t1:List AOper:=s_f37_r1p1 ++ s_f37_r1t2
def s_f37_r1p0:List AOper:=[⟨some 8,(.move (.t 0)),none⟩,⟨some 9,(.move (.t 1)),none⟩]
def s_f37_r1:List AOper:=s_f37_r1p0 ++ s_f37_r1t1
def s_f37_r1p0_tale:=hT s_f37_r1p0 [] [8,9] 10 [] [(8,(.t 0)),(9,(.t 1))] [.tt 0,.tt 1] (by kernel_rfl) (by kernel_rfl)
def s_f37_r1_x:=hS s_f37_r1 s_f37_r1p0 s_f37_r1t1 [] [8,9] [8,9,10] rfl (by kernel_rfl)
def s_f37_r1t1_x:=hO s_f37_r1t1 s_f37_r1p1 s_f37_r1t2 [8,9] [8,9,10] [⟨some 10,(.call (.c (.fn 45 [] [])) [(.t 8),(.t 9)]),none⟩] rfl rfl (by kernel_rfl)
def s_f37_r1t2_tale:=hT s_f37_r1t2 [8,9,10] [5] 6 [] [(5,(.t 10))] [.tt 10] (by kernel_rfl) (by kernel_rfl)
def s_f37_r1t2_x:=hL s_f37_r1t2 [8,9,10] [5]
def s_f37_r2:List AOper:=[
 ⟨some 11,(.move (.t 5)),none⟩,
 ⟨some 12,(.bin .eql (.t 11) (.c (.s (.int .i64 (-1))))),none⟩]
def s_f37_r2_tale:=hT s_f37_r2 [11] [12] 13 [] [(12,(.op (.bin .eql (.t 0) (.c (.s (.int .i64 (-1))))) [(.t 5),(.c (.s (.int .i64 (-1))))]))] [.tt 5,.sub 0 [] []] (by kernel_rfl) (by kernel_rfl)
def s_f37_r3:List AOper:=[
 ⟨some 13,(.move (.t 0)),none⟩,
 ⟨some 4,(.move (.t 13)),none⟩]
def s_f37_r3_tale:=hT s_f37_r3 [0,1,5,12,13] [4] 14 [] [(4,(.t 0))] [.tt 0,.tt 0] (by kernel_rfl) (by kernel_rfl)
def s_f37_r4:List AOper:=[
 ⟨some 14,(.move (.t 5)),none⟩,
 ⟨some 15,(.bin .add (.t 14) (.c (.s (.int .i64 1)))),none⟩,
 ⟨some 6,(.move (.t 15)),none⟩]
def s_f37_r4_tale:=hT s_f37_r4 [12,14,15] [6] 16 [] [(6,(.op (.bin .add (.t 0) (.c (.s (.int .i64 1)))) [(.t 5),(.c (.s (.int .i64 1)))]))] [.tt 5,.sub 0 [] [],.sub 0 [] []] (by kernel_rfl) (by kernel_rfl)
def s_f37_r5:List AOper:=[
 ⟨some 16,(.move (.t 6)),none⟩,
 ⟨some 17,(.move (.t 0)),none⟩,
 ⟨some 18,(.lenS .s (.t 17)),none⟩,
 ⟨some 19,(.bin .lss (.t 16) (.t 18)),none⟩]
def s_f37_r5_tale:=hT s_f37_r5 [16,17,18] [19] 20 [] [(19,(.op (.bin .lss (.t 0) (.t 1)) [(.t 6),(.op (.lenS .s (.t 0)) [(.t 0)])]))] [.tt 6,.tt 0,.sub 0 [1] [],.sub 0 [] []] (by kernel_rfl) (by kernel_rfl)
def s_f37_r6:List AOper:=[
 ⟨some 22,(.move (.t 0)),none⟩,
 ⟨some 23,(.move (.t 6)),none⟩,
 ⟨some 24,(.indexAddr 1 (.t 22) (.t 23)),none⟩,
 ⟨some 25,(.load false 1 (.t 24)),none⟩,
 ⟨some 7,(.move (.t 25)),none⟩]
def s_f37_r6_tale:=hT s_f37_r6 [19,22,23,24,25] [7] 26 [] [(7,(.op (.load false 1 (.t 0)) [(.op (.indexAddr 1 (.t 0) (.t 1)) [(.t 0),(.t 6)])]))] [.tt 0,.tt 6,.sub 0 [0] [],.sub 0 [] [],.sub 0 [] []] (by kernel_rfl) (by kernel_rfl)
def s_f37_r7t2:List AOper:=[⟨some 29,(.un .not (.t 28)),none⟩]
def s_f37_r7p1:List AOper:=[⟨some 28,(.call (.t 26) [(.t 27)]),none⟩]
def s_f37_r7t1:List AOper:=s_f37_r7p1 ++ s_f37_r7t2
def s_f37_r7p0:List AOper:=[⟨some 26,(.move (.t 1)),none⟩,⟨some 27,(.move (.t 7)),none⟩]
def s_f37_r7:List AOper:=s_f37_r7p0 ++ s_f37_r7t1
def s_f37_r7p0_tale:=hT s_f37_r7p0 [] [26,27] 28 [] [(26,(.t 1)),(27,(.t 7))] [.tt 1,.tt 7] (by kernel_rfl) (by kernel_rfl)
def s_f37_r7_x:=hS s_f37_r7 s_f37_r7p0 s_f37_r7t1 [] [26,27] [26,27,28] rfl (by kernel_rfl)
def s_f37_r7t1_x:=hO s_f37_r7t1 s_f37_r7p1 s_f37_r7t2 [26,27] [26,27,28] [⟨some 28,(.call (.t 26) [(.t 27)]),none⟩] rfl rfl (by kernel_rfl)
def s_f37_r7t2_tale:=hT s_f37_r7t2 [26,27,28] [29] 30 [] [(29,(.op (.un .not (.t 0)) [(.t 28)]))] [.sub 0 [] []] (by kernel_rfl) (by kernel_rfl)
def s_f37_r7t2_x:=hL s_f37_r7t2 [26,27,28] [29]
def s_f37_r8t1:List AOper:=[⟨none,(.store 1 (.t 33) (.t 32)),none⟩]
def s_f37_r8p0:List AOper:=[⟨some 30,(.move (.t 0)),none⟩,⟨some 31,(.move (.t 5)),none⟩,⟨some 32,(.move (.t 7)),none⟩,⟨some 33,(.indexAddr 1 (.t 30) (.t 31)),none⟩]
def s_f37_r8:List AOper:=s_f37_r8p0 ++ s_f37_r8t1
def s_f37_r8p0_tale:=hT s_f37_r8p0 [7,29,30,31] [32,33] 34 [] [(32,(.t 7)),(33,(.op (.indexAddr 1 (.t 0) (.t 1)) [(.t 0),(.t 5)]))] [.tt 0,.tt 5,.tt 7,.sub 1 [] []] (by kernel_rfl) (by kernel_rfl)
def s_f37_r8_x:=hS s_f37_r8 s_f37_r8p0 s_f37_r8t1 [7,29,30,31] [32,33] [7,29,30,31,32,33] rfl (by kernel_rfl)
def s_f37_r8t1_x:=hX s_f37_r8t1 [7,29,30,31,32,33] [⟨none,(.store 1 (.t 33) (.t 32)),none⟩] rfl
def s_f37_r9:List AOper:=[
 ⟨some 34,(.move (.t 5)),none⟩,
 ⟨some 35,(.bin .add (.t 34) (.c (.s (.int .i64 1)))),none⟩,
 ⟨some 5,(.move (.t 35)),none⟩]
def s_f37_r9_tale:=hT s_f37_r9 [34,35] [5] 36 [] [(5,(.op (.bin .add (.t 0) (.c (.s (.int .i64 1)))) [(.t 5),(.c (.s (.int .i64 1)))]))] [.tt 5,.sub 0 [] [],.sub 0 [] []] (by kernel_rfl) (by kernel_rfl)
def s_f37_r10:List AOper:=[
 ⟨some 20,(.move (.t 6)),none⟩,
 ⟨some 21,(.bin .add (.t 20) (.c (.s (.int .i64 1)))),none⟩,
 ⟨some 6,(.move (.t 21)),none⟩]
def s_f37_r10_tale:=hT s_f37_r10 [7,20,21,29] [6] 22 [] [(6,(.op (.bin .add (.t 0) (.c (.s (.int .i64 1)))) [(.t 6),(.c (.s (.int .i64 1)))]))] [.tt 6,.sub 0 [] [],.sub 0 [] []] (by kernel_rfl) (by kernel_rfl)
def s_f37_l0_b:ACode:=
 (.seq (.seq (.regionE s_f37_r5 [16,17,18] [19])
 (.cond (.t 19)
 .skip
 (.exit 0)))
 (.seq (.block 1
 (.seq (.regionE s_f37_r6 [19,22,23,24,25] [7])
 (.seq (.region s_f37_r7 [] [26,27,28])
 (.cond (.t 29)
 (.seq (.region s_f37_r8 [] [7,29,30,31,32,33])
 (.regionE s_f37_r9 [34,35] [5]))
 .skip))))
 (.regionE s_f37_r10 [7,20,21,29] [6])))
def s_f37_l0:ACode:=s_f37_l0_b
def s_f37_l0_ev:=hE s_f37_l0 s_f37_l0_b rfl
def s_f37_r11t1:List AOper:=[⟨none,(.clearSl 1 [(.s (.int .i64 0))] (.t 38)),none⟩]
def s_f37_r11p0:List AOper:=[⟨some 36,(.move (.t 0)),none⟩,⟨some 37,(.move (.t 5)),none⟩,⟨some 38,(.subSl 1 (.t 36) (some (.t 37)) none none),none⟩]
def s_f37_r11:List AOper:=s_f37_r11p0 ++ s_f37_r11t1
def s_f37_r11p0_tale:=hT s_f37_r11p0 [1,6,19,36,37] [38] 39 [] [(38,(.op (.subSl 1 (.t 0) (some (.t 1)) none none) [(.t 0),(.t 5)]))] [.tt 0,.tt 5,.sub 0 [] []] (by kernel_rfl) (by kernel_rfl)
def s_f37_r11_x:=hS s_f37_r11 s_f37_r11p0 s_f37_r11t1 [1,6,19,36,37] [38] [1,6,19,36,37,38] rfl (by kernel_rfl)
def s_f37_r11t1_x:=hX s_f37_r11t1 [1,6,19,36,37,38] [⟨none,(.clearSl 1 [(.s (.int .i64 0))] (.t 38)),none⟩] rfl
def s_f37_r12:List AOper:=[
 ⟨some 39,(.move (.t 0)),none⟩,
 ⟨some 40,(.move (.t 5)),none⟩,
 ⟨some 41,(.subSl 1 (.t 39) none (some (.t 40)) none),none⟩,
 ⟨some 4,(.move (.t 41)),none⟩]
def s_f37_r12_tale:=hT s_f37_r12 [0,5,39,40,41] [4] 42 [] [(4,(.op (.subSl 1 (.t 0) none (some (.t 1)) none) [(.t 0),(.t 5)]))] [.tt 0,.tt 5,.sub 0 [] [],.sub 0 [] []] (by kernel_rfl) (by kernel_rfl)
def s_f37:ACFun:={ ntmps:=42,results:=[(.tmp 4)],body:=
 (.seq (.regionE s_f37_r0 s_f37_r0_k [])
 (.seq (.region s_f37_r1 [] [8,9,10])
 (.seq (.seq (.regionE s_f37_r2 [11] [12])
 (.cond (.t 12)
 (.seq (.regionE s_f37_r3 [0,1,5,12,13] [4])
 .ret)
 .skip))
 (.seq (.seq (.regionE s_f37_r4 [12,14,15] [6])
 (.block 0
 (.loop [] s_f37_l0)))
 (.seq (.region s_f37_r11 [] [1,6,19,36,37,38])
 (.seq (.regionE s_f37_r12 [0,5,39,40,41] [4])
 .ret)))))) }
abbrev k_f38:Nat:=38
def s_f38_r0_k:List Nat:=[1,2,3,4,5,6,7]
theorem s_f38_r0_kT:killV s_f38_r0_k (startV 8 [] 1)=[]:=by kernel_rfl
theorem s_f38_r0_kA0:s_f38_r0_k.contains 0=false:=by kernel_rfl
def s_f38_r0:List AOper:=[
 ⟨some 2,(.move (.c (.s (.slice none 0 0)))),none⟩]
def s_f38_r0_tale:=hT s_f38_r0 s_f38_r0_k [] 3 [] [] [.cc (.s (.slice none 0 0))] (by kernel_rfl) (by kernel_rfl)
def s_f38_r1:List AOper:=[
 ⟨some 3,(.move (.t 0)),none⟩,
 ⟨some 4,(.eqNil .s false (.t 3)),none⟩]
def s_f38_r1_tale:=hT s_f38_r1 [3] [4] 5 [] [(4,(.op (.eqNil .s false (.t 0)) [(.t 0)]))] [.tt 0,.sub 0 [] []] (by kernel_rfl) (by kernel_rfl)
def s_f38_r2:List AOper:=[
 ⟨some 2,(.move (.c (.s (.slice none 0 0)))),none⟩]
def s_f38_r2_tale:=hT s_f38_r2 [0,4] [2] 3 [] [(2,(.c (.s (.slice none 0 0))))] [.cc (.s (.slice none 0 0))] (by kernel_rfl) (by kernel_rfl)
def s_f38_r3t3:List AOper:=[⟨some 2,(.move (.t 7)),none⟩]
def s_f38_r3p2:List AOper:=[⟨some 7,(.append 1 8 (.t 5) (.t 6)),none⟩]
def s_f38_r3t2:List AOper:=s_f38_r3p2 ++ s_f38_r3t3
def s_f38_r3p1:List AOper:=[⟨some 6,(.move (.t 0)),none⟩]
def s_f38_r3t1:List AOper:=s_f38_r3p1 ++ s_f38_r3t2
def s_f38_r3p0:List AOper:=[⟨some 5,(.buildSl 1 0 [] []),none⟩]
def s_f38_r3:List AOper:=s_f38_r3p0 ++ s_f38_r3t1
def s_f38_r3_x:=hO s_f38_r3 s_f38_r3p0 s_f38_r3t1 [4] [0,4,5,6,7] [⟨some 5,(.buildSl 1 0 [] []),none⟩] rfl rfl (by kernel_rfl)
def s_f38_r3p1_tale:=hT s_f38_r3p1 [0] [6] 7 [] [(6,(.t 0))] [.tt 0] (by kernel_rfl) (by kernel_rfl)
def s_f38_r3t1_x:=hS s_f38_r3t1 s_f38_r3p1 s_f38_r3t2 [0] [6] [0,4,5,6,7] rfl (by kernel_rfl)
def s_f38_r3t2_x:=hO s_f38_r3t2 s_f38_r3p2 s_f38_r3t3 [5,6] [0,4,5,6,7] [⟨some 7,(.append 1 8 (.t 5) (.t 6)),none⟩] rfl rfl (by kernel_rfl)
def s_f38_r3t3_tale:=hT s_f38_r3t3 [0,4,5,6,7] [2] 3 [] [(2,(.t 7))] [.tt 7] (by kernel_rfl) (by kernel_rfl)
def s_f38_r3t3_x:=hL s_f38_r3t3 [0,4,5,6,7] [2]
def s_f38:ACFun:={ ntmps:=8,results:=[(.tmp 2)],body:=
 (.seq (.regionE s_f38_r0 s_f38_r0_k [])
 (.seq (.seq (.regionE s_f38_r1 [3] [4])
 (.cond (.t 4)
 (.seq (.regionE s_f38_r2 [0,4] [2])
 .ret)
 .skip))
 (.seq (.region s_f38_r3 [] [0,4,5,6,7])
 .ret))) }
abbrev k_f39:Nat:=39
def s_f39_r0_k:List Nat:=[2,3,4,5,6,7,8,9,10,11]
theorem s_f39_r0_kT:killV s_f39_r0_k (startV 12 [] 2)=[]:=by kernel_rfl
theorem s_f39_r0_kA0:s_f39_r0_k.contains 0=false:=by kernel_rfl
theorem s_f39_r0_kA1:s_f39_r0_k.contains 1=false:=by kernel_rfl
def s_f39_r0:List AOper:=[
 ⟨some 3,(.move (.c (.s (.bool false)))),none⟩]
def s_f39_r0_tale:=hT s_f39_r0 s_f39_r0_k [] 4 [] [] [.cc (.s (.bool false))] (by kernel_rfl) (by kernel_rfl)
def s_f39_r1:List AOper:=[
 ⟨some 4,(.move (.t 0)),none⟩,
 ⟨some 5,(.bin .lss (.t 4) (.c (.s (.int .i64 0)))),none⟩,
 ⟨some 6,(.move (.t 5)),none⟩,
 ⟨some 7,(.move (.t 0)),some (6,false)⟩,
 ⟨some 8,(.load false 1 (.t 1)),some (6,false)⟩,
 ⟨some 9,(.lenS .s (.t 8)),some (6,false)⟩,
 ⟨some 10,(.bin .geq (.t 7) (.t 9)),some (6,false)⟩,
 ⟨some 11,(.pick (.t 6) (.c (.s (.bool true))) (.t 10)),none⟩,
 ⟨some 3,(.move (.t 11)),none⟩]
def s_f39_r1_tale:=hT s_f39_r1 [0,1,4,5,6,7,8,9,10,11] [3] 12 [] [(3,(.pick (.op (.bin .lss (.t 0) (.c (.s (.int .i64 0)))) [(.t 0),(.c (.s (.int .i64 0)))]) (.c (.s (.bool true))) (.op (.bin .geq (.t 0) (.t 1)) [(.t 0),(.op (.lenS .s (.t 0)) [(.op (.load false 1 (.t 0)) [(.t 1)])])])))] [.tt 0,.sub 0 [0] [],.sub 0 [0] [],.sub 0 [2,0] [6],.sub 0 [2,1,0] [6],.sub 0 [2,1] [6],.sub 0 [2] [6],.sub 0 [] [],.sub 0 [] []] (by kernel_rfl) (by kernel_rfl)
def s_f39:ACFun:={ ntmps:=12,results:=[(.tmp 3)],body:=
 (.seq (.regionE s_f39_r0 s_f39_r0_k [])
 (.seq (.regionE s_f39_r1 [0,1,4,5,6,7,8,9,10,11] [3])
 .ret)) }
abbrev k_f41:Nat:=41
def s_f41_r0_k:List Nat:=[1,2,3,4,5,6,7,8,9,10,11,12,13,14,15,16,17,18,19,20,21,22,23,24,25,26,27,28,29,30,31,32,33,34,35,36,37,38,39,40,41,42,43,44,45,46,47,48,49,50,51,52,53,54,55,56,57,58,59,60]
theorem s_f41_r0_kT:killV s_f41_r0_k (startV 61 [] 1)=[]:=by kernel_rfl
theorem s_f41_r0_kA0:s_f41_r0_k.contains 0=false:=by kernel_rfl
def s_f41_r0:List AOper:=[
 ⟨some 2,(.move (.c (.s (.slice none 0 0)))),none⟩]
def s_f41_r0_tale:=hT s_f41_r0 s_f41_r0_k [] 3 [] [] [.cc (.s (.slice none 0 0))] (by kernel_rfl) (by kernel_rfl)
def s_f41_r1:List AOper:=[
 ⟨some 6,(.move (.t 0)),none⟩,
 ⟨some 7,(.lenS .s (.t 6)),none⟩,
 ⟨some 8,(.bin .lss (.t 7) (.c (.s (.int .i64 2)))),none⟩]
def s_f41_r1_tale:=hT s_f41_r1 [6,7] [8] 9 [] [(8,(.op (.bin .lss (.t 0) (.c (.s (.int .i64 2)))) [(.op (.lenS .s (.t 0)) [(.t 0)]),(.c (.s (.int .i64 2)))]))] [.tt 0,.sub 0 [0] [],.sub 0 [] []] (by kernel_rfl) (by kernel_rfl)
def s_f41_r2:List AOper:=[
 ⟨some 9,(.move (.t 0)),none⟩,
 ⟨some 2,(.move (.t 9)),none⟩]
def s_f41_r2_tale:=hT s_f41_r2 [0,8,9] [2] 10 [] [(2,(.t 0))] [.tt 0,.tt 0] (by kernel_rfl) (by kernel_rfl)
def s_f41_r3:List AOper:=[
 ⟨some 3,(.move (.c (.s (.int .i64 1)))),none⟩]
def s_f41_r3_tale:=hT s_f41_r3 [8] [3] 4 [] [(3,(.c (.s (.int .i64 1))))] [.cc (.s (.int .i64 1))] (by kernel_rfl) (by kernel_rfl)
def s_f41_r4:List AOper:=[
 ⟨some 10,(.move (.t 3)),none⟩,
 ⟨some 11,(.move (.t 0)),none⟩,
 ⟨some 12,(.lenS .s (.t 11)),none⟩,
 ⟨some 13,(.bin .lss (.t 10) (.t 12)),none⟩]
def s_f41_r4_tale:=hT s_f41_r4 [10,11,12] [13] 14 [] [(13,(.op (.bin .lss (.t 0) (.t 1)) [(.t 3),(.op (.lenS .s (.t 0)) [(.t 0)])]))] [.tt 3,.tt 0,.sub 0 [1] [],.sub 0 [] []] (by kernel_rfl) (by kernel_rfl)
def s_f41_r5:List AOper:=[
 ⟨some 16,(.move (.t 0)),none⟩,
 ⟨some 17,(.move (.t 3)),none⟩,
 ⟨some 18,(.indexAddr 1 (.t 16) (.t 17)),none⟩,
 ⟨some 19,(.load false 1 (.t 18)),none⟩,
 ⟨some 20,(.move (.t 0)),none⟩,
 ⟨some 21,(.move (.t 3)),none⟩,
 ⟨some 22,(.bin .sub (.t 21) (.c (.s (.int .i64 1)))),none⟩,
 ⟨some 23,(.indexAddr 1 (.t 20) (.t 22)),none⟩,
 ⟨some 24,(.load false 1 (.t 23)),none⟩,
 ⟨some 25,(.bin .eql (.t 19) (.t 24)),none⟩]
def s_f41_r5_tale:=hT s_f41_r5 [13,16,17,18,19,20,21,22,23,24] [25] 26 [] [(25,(.op (.bin .eql (.t 0) (.t 1)) [(.op (.load false 1 (.t 0)) [(.op (.indexAddr 1 (.t 0) (.t 1)) [(.t 0),(.t 3)])]),(.op (.load false 1 (.t 0)) [(.op (.indexAddr 1 (.t 0) (.t 1)) [(.t 0),(.op (.bin .sub (.t 0) (.c (.s (.int .i64 1)))) [(.t 3),(.c (.s (.int .i64 1)))])])])]))] [.tt 0,.tt 3,.sub 0 [0,0] [],.sub 0 [0] [],.tt 0,.tt 3,.sub 0 [1,0,1] [],.sub 0 [1,0] [],.sub 0 [1] [],.sub 0 [] []] (by kernel_rfl) (by kernel_rfl)
def s_f41_r6:List AOper:=[
 ⟨some 26,(.move (.t 0)),none⟩,
 ⟨some 27,(.move (.t 3)),none⟩,
 ⟨some 28,(.subSl 1 (.t 26) (some (.t 27)) none none),none⟩,
 ⟨some 4,(.move (.t 28)),none⟩]
def s_f41_r6_tale:=hT s_f41_r6 [25,26,27,28] [4] 29 [] [(4,(.op (.subSl 1 (.t 0) (some (.t 1)) none none) [(.t 0),(.t 3)]))] [.tt 0,.tt 3,.sub 0 [] [],.sub 0 [] []] (by kernel_rfl) (by kernel_rfl)
def s_f41_r7:List AOper:=[
 ⟨some 5,(.move (.c (.s (.int .i64 1)))),none⟩]
def s_f41_r7_tale:=hT s_f41_r7 [] [5] 6 [] [(5,(.c (.s (.int .i64 1))))] [.cc (.s (.int .i64 1))] (by kernel_rfl) (by kernel_rfl)
def s_f41_r8:List AOper:=[
 ⟨some 29,(.move (.t 5)),none⟩,
 ⟨some 30,(.move (.t 4)),none⟩,
 ⟨some 31,(.lenS .s (.t 30)),none⟩,
 ⟨some 32,(.bin .lss (.t 29) (.t 31)),none⟩]
def s_f41_r8_tale:=hT s_f41_r8 [29,30,31] [32] 33 [] [(32,(.op (.bin .lss (.t 0) (.t 1)) [(.t 5),(.op (.lenS .s (.t 0)) [(.t 4)])]))] [.tt 5,.tt 4,.sub 0 [1] [],.sub 0 [] []] (by kernel_rfl) (by kernel_rfl)
def s_f41_r9:List AOper:=[
 ⟨some 35,(.move (.t 4)),none⟩,
 ⟨some 36,(.move (.t 5)),none⟩,
 ⟨some 37,(.indexAddr 1 (.t 35) (.t 36)),none⟩,
 ⟨some 38,(.load false 1 (.t 37)),none⟩,
 ⟨some 39,(.move (.t 4)),none⟩,
 ⟨some 40,(.move (.t 5)),none⟩,
 ⟨some 41,(.bin .sub (.t 40) (.c (.s (.int .i64 1)))),none⟩,
 ⟨some 42,(.indexAddr 1 (.t 39) (.t 41)),none⟩,
 ⟨some 43,(.load false 1 (.t 42)),none⟩,
 ⟨some 44,(.bin .neq (.t 38) (.t 43)),none⟩]
def s_f41_r9_tale:=hT s_f41_r9 [32,35,36,37,38,39,40,41,42,43] [44] 45 [] [(44,(.op (.bin .neq (.t 0) (.t 1)) [(.op (.load false 1 (.t 0)) [(.op (.indexAddr 1 (.t 0) (.t 1)) [(.t 4),(.t 5)])]),(.op (.load false 1 (.t 0)) [(.op (.indexAddr 1 (.t 0) (.t 1)) [(.t 4),(.op (.bin .sub (.t 0) (.c (.s (.int .i64 1)))) [(.t 5),(.c (.s (.int .i64 1)))])])])]))] [.tt 4,.tt 5,.sub 0 [0,0] [],.sub 0 [0] [],.tt 4,.tt 5,.sub 0 [1,0,1] [],.sub 0 [1,0] [],.sub 0 [1] [],.sub 0 [] []] (by kernel_rfl) (by kernel_rfl)
def s_f41_r10t1:List AOper:=[⟨none,(.store 1 (.t 51) (.t 50)),none⟩]
def s_f41_r10p0:List AOper:=[⟨some 45,(.move (.t 0)),none⟩,⟨some 46,(.move (.t 3)),none⟩,⟨some 47,(.move (.t 4)),none⟩,⟨some 48,(.move (.t 5)),none⟩,⟨some 49,(.indexAddr 1 (.t 47) (.t 48)),none⟩,⟨some 50,(.load false 1 (.t 49)),none⟩,⟨some 51,(.indexAddr 1 (.t 45) (.t 46)),none⟩]
def s_f41_r10:List AOper:=s_f41_r10p0 ++ s_f41_r10t1
def s_f41_r10p0_tale:=hT s_f41_r10p0 [44,45,46,47,48,49] [50,51] 52 [] [(50,(.op (.load false 1 (.t 0)) [(.op (.indexAddr 1 (.t 0) (.t 1)) [(.t 4),(.t 5)])])),(51,(.op (.indexAddr 1 (.t 0) (.t 1)) [(.t 0),(.t 3)]))] [.tt 0,.tt 3,.tt 4,.tt 5,.sub 0 [0] [],.sub 0 [] [],.sub 1 [] []] (by kernel_rfl) (by kernel_rfl)
def s_f41_r10_x:=hS s_f41_r10 s_f41_r10p0 s_f41_r10t1 [44,45,46,47,48,49] [50,51] [44,45,46,47,48,49,50,51] rfl (by kernel_rfl)
def s_f41_r10t1_x:=hX s_f41_r10t1 [44,45,46,47,48,49,50,51] [⟨none,(.store 1 (.t 51) (.t 50)),none⟩] rfl
def s_f41_r11:List AOper:=[
 ⟨some 52,(.move (.t 3)),none⟩,
 ⟨some 53,(.bin .add (.t 52) (.c (.s (.int .i64 1)))),none⟩,
 ⟨some 3,(.move (.t 53)),none⟩]
def s_f41_r11_tale:=hT s_f41_r11 [52,53] [3] 54 [] [(3,(.op (.bin .add (.t 0) (.c (.s (.int .i64 1)))) [(.t 3),(.c (.s (.int .i64 1)))]))] [.tt 3,.sub 0 [] [],.sub 0 [] []] (by kernel_rfl) (by kernel_rfl)
def s_f41_r12:List AOper:=[
 ⟨some 33,(.move (.t 5)),none⟩,
 ⟨some 34,(.bin .add (.t 33) (.c (.s (.int .i64 1)))),none⟩,
 ⟨some 5,(.move (.t 34)),none⟩]
def s_f41_r12_tale:=hT s_f41_r12 [33,34,44] [5] 35 [] [(5,(.op (.bin .add (.t 0) (.c (.s (.int .i64 1)))) [(.t 5),(.c (.s (.int .i64 1)))]))] [.tt 5,.sub 0 [] [],.sub 0 [] []] (by kernel_rfl) (by kernel_rfl)
def s_f41_l0_b:ACode:=
 (.seq (.seq (.regionE s_f41_r8 [29,30,31] [32])
 (.cond (.t 32)
 .skip
 (.exit 2)))
 (.seq (.block 3
 (.seq (.regionE s_f41_r9 [32,35,36,37,38,39,40,41,42,43] [44])
 (.cond (.t 44)
 (.seq (.region s_f41_r10 [] [44,45,46,47,48,49,50,51])
 (.regionE s_f41_r11 [52,53] [3]))
 .skip)))
 (.regionE s_f41_r12 [33,34,44] [5])))
def s_f41_l0:ACode:=s_f41_l0_b
def s_f41_l0_ev:=hE s_f41_l0 s_f41_l0_b rfl
def s_f41_r13t1:List AOper:=[⟨none,(.clearSl 1 [(.s (.int .i64 0))] (.t 56)),none⟩]
def s_f41_r13p0:List AOper:=[⟨some 54,(.move (.t 0)),none⟩,⟨some 55,(.move (.t 3)),none⟩,⟨some 56,(.subSl 1 (.t 54) (some (.t 55)) none none),none⟩]
def s_f41_r13:List AOper:=s_f41_r13p0 ++ s_f41_r13t1
def s_f41_r13p0_tale:=hT s_f41_r13p0 [4,5,32,54,55] [56] 57 [] [(56,(.op (.subSl 1 (.t 0) (some (.t 1)) none none) [(.t 0),(.t 3)]))] [.tt 0,.tt 3,.sub 0 [] []] (by kernel_rfl) (by kernel_rfl)
def s_f41_r13_x:=hS s_f41_r13 s_f41_r13p0 s_f41_r13t1 [4,5,32,54,55] [56] [4,5,32,54,55,56] rfl (by kernel_rfl)
def s_f41_r13t1_x:=hX s_f41_r13t1 [4,5,32,54,55,56] [⟨none,(.clearSl 1 [(.s (.int .i64 0))] (.t 56)),none⟩] rfl
def s_f41_r14:List AOper:=[
 ⟨some 57,(.move (.t 0)),none⟩,
 ⟨some 58,(.move (.t 3)),none⟩,
 ⟨some 59,(.subSl 1 (.t 57) none (some (.t 58)) none),none⟩,
 ⟨some 2,(.move (.t 59)),none⟩]
def s_f41_r14_tale:=hT s_f41_r14 [0,3,57,58,59] [2] 60 [] [(2,(.op (.subSl 1 (.t 0) none (some (.t 1)) none) [(.t 0),(.t 3)]))] [.tt 0,.tt 3,.sub 0 [] [],.sub 0 [] []] (by kernel_rfl) (by kernel_rfl)
def s_f41_r15:List AOper:=[
 ⟨some 14,(.move (.t 3)),none⟩,
 ⟨some 15,(.bin .add (.t 14) (.c (.s (.int .i64 1)))),none⟩,
 ⟨some 3,(.move (.t 15)),none⟩]
def s_f41_r15_tale:=hT s_f41_r15 [14,15,25] [3] 16 [] [(3,(.op (.bin .add (.t 0) (.c (.s (.int .i64 1)))) [(.t 3),(.c (.s (.int .i64 1)))]))] [.tt 3,.sub 0 [] [],.sub 0 [] []] (by kernel_rfl) (by kernel_rfl)
def s_f41_l1_b:ACode:=
 (.seq (.seq (.regionE s_f41_r4 [10,11,12] [13])
 (.cond (.t 13)
 .skip
 (.exit 0)))
 (.seq (.block 1
 (.seq (.regionE s_f41_r5 [13,16,17,18,19,20,21,22,23,24] [25])
 (.cond (.t 25)
 (.seq (.regionE s_f41_r6 [25,26,27,28] [4])
 (.seq (.seq (.regionE s_f41_r7 [] [5])
 (.block 2
 (.loop [] s_f41_l0)))
 (.seq (.region s_f41_r13 [] [4,5,32,54,55,56])
 (.seq (.regionE s_f41_r14 [0,3,57,58,59] [2])
 .ret))))
 .skip)))
 (.regionE s_f41_r15 [14,15,25] [3])))
def s_f41_l1:ACode:=s_f41_l1_b
def s_f41_l1_ev:=hE s_f41_l1 s_f41_l1_b rfl
def s_f41_r16:List AOper:=[
 ⟨some 60,(.move (.t 0)),none⟩,
 ⟨some 2,(.move (.t 60)),none⟩]
def s_f41_r16_tale:=hT s_f41_r16 [0,3,13,60] [2] 61 [] [(2,(.t 0))] [.tt 0,.tt 0] (by kernel_rfl) (by kernel_rfl)
def s_f41:ACFun:={ ntmps:=61,results:=[(.tmp 2)],body:=
 (.seq (.regionE s_f41_r0 s_f41_r0_k [])
 (.seq (.seq (.regionE s_f41_r1 [6,7] [8])
 (.cond (.t 8)
 (.seq (.regionE s_f41_r2 [0,8,9] [2])
 .ret)
 .skip))
 (.seq (.seq (.regionE s_f41_r3 [8] [3])
 (.block 0
 (.loop [] s_f41_l1)))
 (.seq (.regionE s_f41_r16 [0,3,13,60] [2])
 .ret)))) }
abbrev k_f42:Nat:=42
def s_f42_r0_k:List Nat:=[0,3,4,5,6,7,8,9,10,11,12,13,14,15,16,17,18,19,20,21,22,23,24,25,26,27,28,29,30,31,32,33,34,35,36,37,38,39,40,41,42,43,44,45,46,47,48,49,50,51,52,53,54]
theorem s_f42_r0_k_kA0:s_f42_r0_k.contains 0=true:=by kernel_rfl
theorem s_f42_r0_k_kA1:s_f42_r0_k.contains 1=false:=by kernel_rfl
theorem s_f42_r0_k_kA2:s_f42_r0_k.contains 2=false:=by kernel_rfl
theorem s_f42_r0_k_kA4:s_f42_r0_k.contains 4=true:=by kernel_rfl
def s_f42_r0t1:List AOper:=[⟨some 4,(.move (.c (.s (.slice none 0 0)))),none⟩]
def s_f42_r0p0:List AOper:=[⟨some 2,(.box (.t 0)),none⟩]
def s_f42_r0:List AOper:=s_f42_r0p0 ++ s_f42_r0t1
def s_f42_r0p0_k:List Nat:=[0,3,4,5,6,7,8,9,10,11,12,13,14,15,16,17,18,19,20,21,22,23,24,25,26,27,28,29,30,31,32,33,34,35,36,37,38,39,40,41,42,43,44,45,46,47,48,49,50,51,52,53,54]
theorem s_f42_r0p0_k_kA0:s_f42_r0p0_k.contains 0=true:=by kernel_rfl
theorem s_f42_r0p0_k_kA1:s_f42_r0p0_k.contains 1=false:=by kernel_rfl
theorem s_f42_r0p0_k_kA2:s_f42_r0p0_k.contains 2=false:=by kernel_rfl
theorem s_f42_r0p0_k_kA4:s_f42_r0p0_k.contains 4=true:=by kernel_rfl
theorem s_f42_r0_x (call:CallF) (it:IterF) (base:Nat) (f:List V) (H:Heap):evC call it base (.region s_f42_r0 [] s_f42_r0_k) f H=thenC call it base (.region s_f42_r0t1 [] s_f42_r0_k) (opsC [] s_f42_r0p0 s_f42_r0p0_k (evOps call base [⟨some 2,(.box (.t 0)),none⟩] f H)):=(row_op call it base s_f42_r0p0 s_f42_r0t1 (kc:=s_f42_r0p0_k) (by kernel_rfl) f H).trans (by rw [row_ops];rfl)
def s_f42_r0t1_tale:=hT s_f42_r0t1 s_f42_r0_k [] 5 [] [] [.cc (.s (.slice none 0 0))] (by kernel_rfl) (by kernel_rfl)
def s_f42_r0t1_x:=hL s_f42_r0t1 s_f42_r0_k []
def s_f42_r1t3:List AOper:=[⟨none,(.store 1 (.t 5) (.t 15)),none⟩]
def s_f42_r1p2:List AOper:=[⟨some 5,(.alloc [(.s (.slice none 0 0))]),none⟩]
def s_f42_r1t2:List AOper:=s_f42_r1p2 ++ s_f42_r1t3
def s_f42_r1p1:List AOper:=[⟨some 15,(.mkSl [(.s (.bool false))] 1 1 (.t 14) (.t 14)),none⟩]
def s_f42_r1t1:List AOper:=s_f42_r1p1 ++ s_f42_r1t2
def s_f42_r1p0:List AOper:=[⟨some 13,(.load false 1 (.t 2)),none⟩,⟨some 14,(.lenS .s (.t 13)),none⟩]
def s_f42_r1:List AOper:=s_f42_r1p0 ++ s_f42_r1t1
def s_f42_r1p0_tale:=hT s_f42_r1p0 [13] [14] 15 [] [(14,(.op (.lenS .s (.t 0)) [(.op (.load false 1 (.t 0)) [(.t 2)])]))] [.sub 0 [0] [],.sub 0 [] []] (by kernel_rfl) (by kernel_rfl)
def s_f42_r1_x:=hS s_f42_r1 s_f42_r1p0 s_f42_r1t1 [13] [14] [13,14,15] rfl (by kernel_rfl)
def s_f42_r1t1_x:=hO s_f42_r1t1 s_f42_r1p1 s_f42_r1t2 [14] [13,14,15] [⟨some 15,(.mkSl [(.s (.bool false))] 1 1 (.t 14) (.t 14)),none⟩] rfl rfl (by kernel_rfl)
def s_f42_r1t2_x:=hO s_f42_r1t2 s_f42_r1p2 s_f42_r1t3 [] [13,14,15] [⟨some 5,(.alloc [(.s (.slice none 0 0))]),none⟩] rfl rfl (by kernel_rfl)
def s_f42_r1t3_x:=hX s_f42_r1t3 [13,14,15] [⟨none,(.store 1 (.t 5) (.t 15)),none⟩] rfl
def s_f42_r2:List AOper:=[⟨some 6,(.alloc [(.s (.slice none 0 0))]),none⟩]
def s_f42_r2_x:=hX s_f42_r2 [] [⟨some 6,(.alloc [(.s (.slice none 0 0))]),none⟩] rfl
def s_f42_r3:List AOper:=[
 ⟨some 16,(.mkFn 48 [] [(.t 2),(.t 5),(.t 6)]),none⟩,
 ⟨some 7,(.move (.t 16)),none⟩]
def s_f42_r3_tale:=hT s_f42_r3 [16] [7] 17 [] [(7,(.op (.mkFn 48 [] [(.t 0),(.t 1),(.t 2)]) [(.t 2),(.t 5),(.t 6)]))] [.sub 0 [] [],.sub 0 [] []] (by kernel_rfl) (by kernel_rfl)
def s_f42_r4:List AOper:=[
 ⟨some 17,(.move (.t 1)),none⟩,
 ⟨some 18,(.lenS .s (.t 17)),none⟩,
 ⟨some 19,(.move (.c (.s (.int .i64 0)))),none⟩]
def s_f42_r4_tale:=hT s_f42_r4 [1] [17,18,19] 20 [] [(17,(.t 1)),(18,(.op (.lenS .s (.t 0)) [(.t 1)])),(19,(.c (.s (.int .i64 0))))] [.tt 1,.sub 1 [] [],.cc (.s (.int .i64 0))] (by kernel_rfl) (by kernel_rfl)
def s_f42_r5:List AOper:=[
 ⟨some 20,(.bin .lss (.t 19) (.t 18)),none⟩]
def s_f42_r5_tale:=hT s_f42_r5 [] [20] 21 [] [(20,(.op (.bin .lss (.t 0) (.t 1)) [(.t 19),(.t 18)]))] [.sub 0 [] []] (by kernel_rfl) (by kernel_rfl)
def s_f42_r6:List AOper:=[
 ⟨some 21,(.indexAddr 1 (.t 17) (.t 19)),none⟩,
 ⟨some 22,(.load false 1 (.t 21)),none⟩,
 ⟨some 9,(.move (.t 22)),none⟩]
def s_f42_r6_tale:=hT s_f42_r6 [20,21,22] [9] 23 [] [(9,(.op (.load false 1 (.t 0)) [(.op (.indexAddr 1 (.t 0) (.t 1)) [(.t 17),(.t 19)])]))] [.sub 0 [0] [],.sub 0 [] [],.sub 0 [] []] (by kernel_rfl) (by kernel_rfl)
def s_f42_r7t1:List AOper:=[⟨some 25,(.call (.t 23) [(.t 24)]),none⟩]
def s_f42_r7p0:List AOper:=[⟨some 23,(.move (.t 7)),none⟩,⟨some 24,(.move (.t 9)),none⟩]
def s_f42_r7:List AOper:=s_f42_r7p0 ++ s_f42_r7t1
def s_f42_r7p0_tale:=hT s_f42_r7p0 [9] [23,24] 25 [] [(23,(.t 7)),(24,(.t 9))] [.tt 7,.tt 9] (by kernel_rfl) (by kernel_rfl)
def s_f42_r7_x:=hS s_f42_r7 s_f42_r7p0 s_f42_r7t1 [9] [23,24] [9,23,24,25] rfl (by kernel_rfl)
def s_f42_r7t1_x:=hX s_f42_r7t1 [9,23,24,25] [⟨some 25,(.call (.t 23) [(.t 24)]),none⟩] rfl
def s_f42_r8:List AOper:=[
 ⟨some 26,(.bin .add (.t 19) (.c (.s (.int .i64 1)))),none⟩,
 ⟨some 19,(.move (.t 26)),none⟩]
def s_f42_r8_tale:=hT s_f42_r8 [26] [19] 27 [] [(19,(.op (.bin .add (.t 0) (.c (.s (.int .i64 1)))) [(.t 19),(.c (.s (.int .i64 1)))]))] [.sub 0 [] [],.sub 0 [] []] (by kernel_rfl) (by kernel_rfl)
def s_f42_l0_b:ACode:=
 (.seq (.regionE s_f42_r5 [] [20])
 (.seq (.cond (.t 20)
 .skip
 (.exit 0))
 (.seq (.block 1
 (.seq (.regionE s_f42_r6 [20,21,22] [9])
 (.region s_f42_r7 [] [9,23,24,25])))
 (.regionE s_f42_r8 [26] [19]))))
def s_f42_l0:ACode:=s_f42_l0_b
def s_f42_l0_ev:=hE s_f42_l0 s_f42_l0_b rfl
def s_f42_r9:List AOper:=[
 ⟨some 27,(.load false 1 (.t 6)),none⟩,
 ⟨some 28,(.lenS .s (.t 27)),none⟩,
 ⟨some 29,(.bin .gtr (.t 28) (.c (.s (.int .i64 0)))),none⟩]
def s_f42_r9_tale:=hT s_f42_r9 [27,28] [29] 30 [] [(29,(.op (.bin .gtr (.t 0) (.c (.s (.int .i64 0)))) [(.op (.lenS .s (.t 0)) [(.op (.load false 1 (.t 0)) [(.t 6)])]),(.c (.s (.int .i64 0)))]))] [.sub 0 [0,0] [],.sub 0 [0] [],.sub 0 [] []] (by kernel_rfl) (by kernel_rfl)
def s_f42_r10:List AOper:=[
 ⟨some 30,(.load false 1 (.t 6)),none⟩,
 ⟨some 31,(.load false 1 (.t 6)),none⟩,
 ⟨some 32,(.lenS .s (.t 31)),none⟩,
 ⟨some 33,(.bin .sub (.t 32) (.c (.s (.int .i64 1)))),none⟩,
 ⟨some 34,(.indexAddr 1 (.t 30) (.t 33)),none⟩,
 ⟨some 35,(.load false 1 (.t 34)),none⟩,
 ⟨some 10,(.move (.t 35)),none⟩]
def s_f42_r10_tale:=hT s_f42_r10 [29,30,31,32,33,34,35] [10] 36 [] [(10,(.op (.load false 1 (.t 0)) [(.op (.indexAddr 1 (.t 0) (.t 1)) [(.op (.load false 1 (.t 0)) [(.t 6)]),(.op (.bin .sub (.t 0) (.c (.s (.int .i64 1)))) [(.op (.lenS .s (.t 0)) [(.op (.load false 1 (.t 0)) [(.t 6)])]),(.c (.s (.int .i64 1)))])])]))] [.sub 0 [0,0] [],.sub 0 [0,0] [],.sub 0 [0,1,0] [],.sub 0 [0,1] [],.sub 0 [0] [],.sub 0 [] [],.sub 0 [] []] (by kernel_rfl) (by kernel_rfl)
def s_f42_r11t1:List AOper:=[⟨none,(.store 1 (.t 6) (.t 40)),none⟩]
def s_f42_r11p0:List AOper:=[⟨some 36,(.load false 1 (.t 6)),none⟩,⟨some 37,(.load false 1 (.t 6)),none⟩,⟨some 38,(.lenS .s (.t 37)),none⟩,⟨some 39,(.bin .sub (.t 38) (.c (.s (.int .i64 1)))),none⟩,⟨some 40,(.subSl 1 (.t 36) none (some (.t 39)) none),none⟩]
def s_f42_r11:List AOper:=s_f42_r11p0 ++ s_f42_r11t1
def s_f42_r11p0_tale:=hT s_f42_r11p0 [36,37,38,39] [40] 41 [] [(40,(.op (.subSl 1 (.t 0) none (some (.t 1)) none) [(.op (.load false 1 (.t 0)) [(.t 6)]),(.op (.bin .sub (.t 0) (.c (.s (.int .i64 1)))) [(.op (.lenS .s (.t 0)) [(.op (.load false 1 (.t 0)) [(.t 6)])]),(.c (.s (.int .i64 1)))])]))] [.sub 0 [0] [],.sub 0 [0] [],.sub 0 [1,0] [],.sub 0 [1] [],.sub 0 [] []] (by kernel_rfl) (by kernel_rfl)
def s_f42_r11_x:=hS s_f42_r11 s_f42_r11p0 s_f42_r11t1 [36,37,38,39] [40] [36,37,38,39,40] rfl (by kernel_rfl)
def s_f42_r11t1_x:=hX s_f42_r11t1 [36,37,38,39,40] [⟨none,(.store 1 (.t 6) (.t 40)),none⟩] rfl
def s_f42_r12:List AOper:=[
 ⟨some 41,(.load false 1 (.t 2)),none⟩,
 ⟨some 42,(.move (.t 10)),none⟩,
 ⟨some 43,(.indexAddr 1 (.t 41) (.t 42)),none⟩,
 ⟨some 44,(.load false 1 (.t 43)),none⟩,
 ⟨some 45,(.lenS .s (.t 44)),none⟩,
 ⟨some 46,(.move (.c (.s (.int .i64 0)))),none⟩]
def s_f42_r12_tale:=hT s_f42_r12 [10,41,42,43] [44,45,46] 47 [] [(44,(.op (.load false 1 (.t 0)) [(.op (.indexAddr 1 (.t 0) (.t 1)) [(.op (.load false 1 (.t 0)) [(.t 2)]),(.t 10)])])),(45,(.op (.lenS .s (.t 0)) [(.op (.load false 1 (.t 0)) [(.op (.indexAddr 1 (.t 0) (.t 1)) [(.op (.load false 1 (.t 0)) [(.t 2)]),(.t 10)])])])),(46,(.c (.s (.int .i64 0))))] [.sub 0 [0,0] [],.tt 10,.sub 0 [0] [],.sub 0 [] [],.sub 1 [] [],.cc (.s (.int .i64 0))] (by kernel_rfl) (by kernel_rfl)
def s_f42_r13:List AOper:=[
 ⟨some 47,(.bin .lss (.t 46) (.t 45)),none⟩]
def s_f42_r13_tale:=hT s_f42_r13 [] [47] 48 [] [(47,(.op (.bin .lss (.t 0) (.t 1)) [(.t 46),(.t 45)]))] [.sub 0 [] []] (by kernel_rfl) (by kernel_rfl)
def s_f42_r14:List AOper:=[
 ⟨some 48,(.indexAddr 1 (.t 44) (.t 46)),none⟩,
 ⟨some 49,(.load false 1 (.t 48)),none⟩,
 ⟨some 12,(.move (.t 49)),none⟩]
def s_f42_r14_tale:=hT s_f42_r14 [47,48,49] [12] 50 [] [(12,(.op (.load false 1 (.t 0)) [(.op (.indexAddr 1 (.t 0) (.t 1)) [(.t 44),(.t 46)])]))] [.sub 0 [0] [],.sub 0 [] [],.sub 0 [] []] (by kernel_rfl) (by kernel_rfl)
def s_f42_r15t1:List AOper:=[⟨some 52,(.call (.t 50) [(.t 51)]),none⟩]
def s_f42_r15p0:List AOper:=[⟨some 50,(.move (.t 7)),none⟩,⟨some 51,(.move (.t 12)),none⟩]
def s_f42_r15:List AOper:=s_f42_r15p0 ++ s_f42_r15t1
def s_f42_r15p0_tale:=hT s_f42_r15p0 [12] [50,51] 52 [] [(50,(.t 7)),(51,(.t 12))] [.tt 7,.tt 12] (by kernel_rfl) (by kernel_rfl)
def s_f42_r15_x:=hS s_f42_r15 s_f42_r15p0 s_f42_r15t1 [12] [50,51] [12,50,51,52] rfl (by kernel_rfl)
def s_f42_r15t1_x:=hX s_f42_r15t1 [12,50,51,52] [⟨some 52,(.call (.t 50) [(.t 51)]),none⟩] rfl
def s_f42_r16:List AOper:=[
 ⟨some 53,(.bin .add (.t 46) (.c (.s (.int .i64 1)))),none⟩,
 ⟨some 46,(.move (.t 53)),none⟩]
def s_f42_r16_tale:=hT s_f42_r16 [53] [46] 54 [] [(46,(.op (.bin .add (.t 0) (.c (.s (.int .i64 1)))) [(.t 46),(.c (.s (.int .i64 1)))]))] [.sub 0 [] [],.sub 0 [] []] (by kernel_rfl) (by kernel_rfl)
def s_f42_l1_b:ACode:=
 (.seq (.regionE s_f42_r13 [] [47])
 (.seq (.cond (.t 47)
 .skip
 (.exit 4))
 (.seq (.block 5
 (.seq (.regionE s_f42_r14 [47,48,49] [12])
 (.region s_f42_r15 [] [12,50,51,52])))
 (.regionE s_f42_r16 [53] [46]))))
def s_f42_l1:ACode:=s_f42_l1_b
def s_f42_l1_ev:=hE s_f42_l1 s_f42_l1_b rfl
def s_f42_l2_b:ACode:=
 (.seq (.seq (.regionE s_f42_r9 [27,28] [29])
 (.cond (.t 29)
 .skip
 (.exit 2)))
 (.block 3
 (.seq (.regionE s_f42_r10 [29,30,31,32,33,34,35] [10])
 (.seq (.region s_f42_r11 [] [36,37,38,39,40])
 (.seq (.regionE s_f42_r12 [10,41,42,43] [44,45,46])
 (.block 4
 (.loop [] s_f42_l1)))))))
def s_f42_l2:ACode:=s_f42_l2_b
def s_f42_l2_ev:=hE s_f42_l2 s_f42_l2_b rfl
def s_f42_r17:List AOper:=[
 ⟨some 54,(.load false 1 (.t 5)),none⟩,
 ⟨some 4,(.move (.t 54)),none⟩]
def s_f42_r17_tale:=hT s_f42_r17 [2,5,6,7,29,54] [4] 55 [] [(4,(.op (.load false 1 (.t 0)) [(.t 5)]))] [.sub 0 [] [],.sub 0 [] []] (by kernel_rfl) (by kernel_rfl)
def s_f42:ACFun:={ ntmps:=55,results:=[(.tmp 4)],body:=
 (.seq (.region s_f42_r0 [] s_f42_r0_k)
 (.seq (.region s_f42_r1 [] [13,14,15])
 (.seq (.region s_f42_r2 [] [])
 (.seq (.regionE s_f42_r3 [16] [7])
 (.seq (.seq (.regionE s_f42_r4 [1] [17,18,19])
 (.block 0
 (.loop [] s_f42_l0)))
 (.seq (.block 2
 (.loop [17,18,19,20,44,45,46,47] s_f42_l2))
 (.seq (.regionE s_f42_r17 [2,5,6,7,29,54] [4])
 .ret))))))) }
theorem s_f42_first:firstOk (List.range' 2 (s_f42.ntmps - 2)) s_f42.body=true:=by kernel_rfl
abbrev k_f45:Nat:=45
def s_f45_r0_k:List Nat:=[2,3,4,5,6,7,8,9,10,11,12,13,14,15,16,17,18]
theorem s_f45_r0_kT:killV s_f45_r0_k (startV 19 [] 2)=[]:=by kernel_rfl
theorem s_f45_r0_kA0:s_f45_r0_k.contains 0=false:=by kernel_rfl
theorem s_f45_r0_kA1:s_f45_r0_k.contains 1=false:=by kernel_rfl
def s_f45_r0:List AOper:=[
 ⟨some 4,(.move (.c (.s (.int .i64 0)))),none⟩]
def s_f45_r0_tale:=hT s_f45_r0 s_f45_r0_k [] 5 [] [] [.cc (.s (.int .i64 0))] (by kernel_rfl) (by kernel_rfl)
def s_f45_r1:List AOper:=[
 ⟨some 6,(.move (.t 0)),none⟩,
 ⟨some 7,(.lenS .s (.t 6)),none⟩,
 ⟨some 8,(.move (.c (.s (.int .i64 0)))),none⟩]
def s_f45_r1_tale:=hT s_f45_r1 [6] [7,8] 9 [] [(7,(.op (.lenS .s (.t 0)) [(.t 0)])),(8,(.c (.s (.int .i64 0))))] [.tt 0,.sub 0 [] [],.cc (.s (.int .i64 0))] (by kernel_rfl) (by kernel_rfl)
def s_f45_r2:List AOper:=[
 ⟨some 9,(.bin .lss (.t 8) (.t 7)),none⟩]
def s_f45_r2_tale:=hT s_f45_r2 [] [9] 10 [] [(9,(.op (.bin .lss (.t 0) (.t 1)) [(.t 8),(.t 7)]))] [.sub 0 [] []] (by kernel_rfl) (by kernel_rfl)
def s_f45_r3:List AOper:=[
 ⟨some 10,(.move (.t 8)),none⟩,
 ⟨some 5,(.move (.t 10)),none⟩]
def s_f45_r3_tale:=hT s_f45_r3 [9,10] [5] 11 [] [(5,(.t 8))] [.tt 8,.tt 8] (by kernel_rfl) (by kernel_rfl)
def s_f45_r4t1:List AOper:=[⟨some 16,(.call (.t 11) [(.t 15)]),none⟩]
def s_f45_r4p0:List AOper:=[⟨some 11,(.move (.t 1)),none⟩,⟨some 12,(.move (.t 0)),none⟩,⟨some 13,(.move (.t 5)),none⟩,⟨some 14,(.indexAddr 1 (.t 12) (.t 13)),none⟩,⟨some 15,(.load false 1 (.t 14)),none⟩]
def s_f45_r4:List AOper:=s_f45_r4p0 ++ s_f45_r4t1
def s_f45_r4p0_tale:=hT s_f45_r4p0 [12,13,14] [11,15] 16 [] [(11,(.t 1)),(15,(.op (.load false 1 (.t 0)) [(.op (.indexAddr 1 (.t 0) (.t 1)) [(.t 0),(.t 5)])]))] [.tt 1,.tt 0,.tt 5,.sub 1 [0] [],.sub 1 [] []] (by kernel_rfl) (by kernel_rfl)
def s_f45_r4_x:=hS s_f45_r4 s_f45_r4p0 s_f45_r4t1 [12,13,14] [11,15] [11,12,13,14,15] rfl (by kernel_rfl)
def s_f45_r4t1_x:=hX s_f45_r4t1 [11,12,13,14,15] [⟨some 16,(.call (.t 11) [(.t 15)]),none⟩] rfl
def s_f45_r5:List AOper:=[
 ⟨some 17,(.move (.t 5)),none⟩,
 ⟨some 4,(.move (.t 17)),none⟩]
def s_f45_r5_tale:=hT s_f45_r5 [0,1,5,7,8,16,17] [4] 18 [] [(4,(.t 5))] [.tt 5,.tt 5] (by kernel_rfl) (by kernel_rfl)
def s_f45_r6:List AOper:=[
 ⟨some 18,(.bin .add (.t 8) (.c (.s (.int .i64 1)))),none⟩,
 ⟨some 8,(.move (.t 18)),none⟩]
def s_f45_r6_tale:=hT s_f45_r6 [5,16,18] [8] 19 [] [(8,(.op (.bin .add (.t 0) (.c (.s (.int .i64 1)))) [(.t 8),(.c (.s (.int .i64 1)))]))] [.sub 0 [] [],.sub 0 [] []] (by kernel_rfl) (by kernel_rfl)
def s_f45_l0_b:ACode:=
 (.seq (.regionE s_f45_r2 [] [9])
 (.seq (.cond (.t 9)
 .skip
 (.exit 0))
 (.seq (.block 1
 (.seq (.regionE s_f45_r3 [9,10] [5])
 (.seq (.region s_f45_r4 [] [11,12,13,14,15])
 (.cond (.t 16)
 (.seq (.regionE s_f45_r5 [0,1,5,7,8,16,17] [4])
 .ret)
 .skip))))
 (.regionE s_f45_r6 [5,16,18] [8]))))
def s_f45_l0:ACode:=s_f45_l0_b
def s_f45_l0_ev:=hE s_f45_l0 s_f45_l0_b rfl
def s_f45_r7:List AOper:=[
 ⟨some 4,(.move (.c (.s (.int .i64 (-1))))),none⟩]
def s_f45_r7_tale:=hT s_f45_r7 [0,1,7,8,9] [4] 5 [] [(4,(.c (.s (.int .i64 (-1)))))] [.cc (.s (.int .i64 (-1)))] (by kernel_rfl) (by kernel_rfl)
def s_f45:ACFun:={ ntmps:=19,results:=[(.tmp 4)],body:=
 (.seq (.regionE s_f45_r0 s_f45_r0_k [])
 (.seq (.seq (.regionE s_f45_r1 [6] [7,8])
 (.block 0
 (.loop [] s_f45_l0)))
 (.seq (.regionE s_f45_r7 [0,1,7,8,9] [4])
 .ret))) }
abbrev k_f48:Nat:=48
def s_f48_r0_k:List Nat:=[1,4,5,6,7,8,9,10,11,12,13,14,15,16,17,18,20,21,22,23,24,25,26]
theorem s_f48_r0_kT:killV s_f48_r0_k (startV 27 [] 4)=[(19,und)]:=by kernel_rfl
theorem s_f48_r0_kA0:s_f48_r0_k.contains 0=false:=by kernel_rfl
theorem s_f48_r0_kA1:s_f48_r0_k.contains 1=true:=by kernel_rfl
theorem s_f48_r0_kA2:s_f48_r0_k.contains 2=false:=by kernel_rfl
theorem s_f48_r0_kA3:s_f48_r0_k.contains 3=false:=by kernel_rfl
def s_f48_r0:List AOper:=[
 ⟨some 5,(.move (.t 0)),none⟩,
 ⟨some 6,(.bin .geq (.t 5) (.c (.s (.int .i64 0)))),none⟩,
 ⟨some 7,(.move (.t 6)),none⟩,
 ⟨some 8,(.move (.t 0)),some (7,true)⟩,
 ⟨some 9,(.load false 1 (.t 1)),some (7,true)⟩,
 ⟨some 10,(.lenS .s (.t 9)),some (7,true)⟩,
 ⟨some 11,(.bin .lss (.t 8) (.t 10)),some (7,true)⟩,
 ⟨some 12,(.pick (.t 7) (.t 11) (.c (.s (.bool false)))),none⟩,
 ⟨some 13,(.move (.t 12)),none⟩,
 ⟨some 14,(.load false 1 (.t 2)),some (13,true)⟩,
 ⟨some 15,(.move (.t 0)),some (13,true)⟩,
 ⟨some 16,(.indexAddr 1 (.t 14) (.t 15)),some (13,true)⟩,
 ⟨some 17,(.load false 1 (.t 16)),some (13,true)⟩,
 ⟨some 18,(.un .not (.t 17)),some (13,true)⟩,
 ⟨some 19,(.pick (.t 13) (.t 18) (.c (.s (.bool false)))),none⟩]
def s_f48_r0_tale:=hT s_f48_r0 s_f48_r0_k [19] 20 [] [(19,(.pick (.pick (.op (.bin .geq (.t 0) (.c (.s (.int .i64 0)))) [(.t 0),(.c (.s (.int .i64 0)))]) (.op (.bin .lss (.t 0) (.t 1)) [(.t 0),(.op (.lenS .s (.t 0)) [(.op (.load false 1 (.t 0)) [(.t 1)])])]) (.c (.s (.bool false)))) (.op (.un .not (.t 0)) [(.op (.load false 1 (.t 0)) [(.op (.indexAddr 1 (.t 0) (.t 1)) [(.op (.load false 1 (.t 0)) [(.t 2)]),(.t 0)])])]) (.c (.s (.bool false)))))] [.tt 0,.sub 0 [0,0] [],.sub 0 [0,0] [],.sub 0 [0,1,0] [7],.sub 0 [0,1,1,0] [7],.sub 0 [0,1,1] [7],.sub 0 [0,1] [7],.sub 0 [0] [],.sub 0 [0] [],.sub 0 [1,0,0,0] [13],.sub 0 [1,0,0,1] [13],.sub 0 [1,0,0] [13],.sub 0 [1,0] [13],.sub 0 [1] [13],.sub 0 [] []] (by kernel_rfl) (by kernel_rfl)
def s_f48_r1t1:List AOper:=[⟨none,(.store 1 (.t 22) (.c (.s (.bool true)))),none⟩]
def s_f48_r1p0:List AOper:=[⟨some 20,(.load false 1 (.t 2)),none⟩,⟨some 21,(.move (.t 0)),none⟩,⟨some 22,(.indexAddr 1 (.t 20) (.t 21)),none⟩]
def s_f48_r1:List AOper:=s_f48_r1p0 ++ s_f48_r1t1
def s_f48_r1p0_tale:=hT s_f48_r1p0 [2,19,20,21] [22] 23 [] [(22,(.op (.indexAddr 1 (.t 0) (.t 1)) [(.op (.load false 1 (.t 0)) [(.t 2)]),(.t 0)]))] [.sub 0 [0] [],.tt 0,.sub 0 [] []] (by kernel_rfl) (by kernel_rfl)
def s_f48_r1_x:=hS s_f48_r1 s_f48_r1p0 s_f48_r1t1 [2,19,20,21] [22] [2,19,20,21,22] rfl (by kernel_rfl)
def s_f48_r1t1_x:=hX s_f48_r1t1 [2,19,20,21,22] [⟨none,(.store 1 (.t 22) (.c (.s (.bool true)))),none⟩] rfl
def s_f48_r2t3:List AOper:=[⟨none,(.store 1 (.t 3) (.t 26)),none⟩]
def s_f48_r2p2:List AOper:=[⟨some 26,(.append 1 8 (.t 23) (.t 25)),none⟩]
def s_f48_r2t2:List AOper:=s_f48_r2p2 ++ s_f48_r2t3
def s_f48_r2p1:List AOper:=[⟨some 25,(.buildSl 1 1 [(.s (.int .i64 0))] [(0,(.t 24))]),none⟩]
def s_f48_r2t1:List AOper:=s_f48_r2p1 ++ s_f48_r2t2
def s_f48_r2p0:List AOper:=[⟨some 23,(.load false 1 (.t 3)),none⟩,⟨some 24,(.move (.t 0)),none⟩]
def s_f48_r2:List AOper:=s_f48_r2p0 ++ s_f48_r2t1
def s_f48_r2p0_tale:=hT s_f48_r2p0 [0] [23,24] 25 [] [(23,(.op (.load false 1 (.t 0)) [(.t 3)])),(24,(.t 0))] [.sub 0 [] [],.tt 0] (by kernel_rfl) (by kernel_rfl)
def s_f48_r2_x:=hS s_f48_r2 s_f48_r2p0 s_f48_r2t1 [0] [23,24] [0,3,23,24,25,26] rfl (by kernel_rfl)
def s_f48_r2t1_x:=hO s_f48_r2t1 s_f48_r2p1 s_f48_r2t2 [24] [0,3,23,24,25,26] [⟨some 25,(.buildSl 1 1 [(.s (.int .i64 0))] [(0,(.t 24))]),none⟩] rfl rfl (by kernel_rfl)
def s_f48_r2t2_x:=hO s_f48_r2t2 s_f48_r2p2 s_f48_r2t3 [23,25] [0,3,23,24,25,26] [⟨some 26,(.append 1 8 (.t 23) (.t 25)),none⟩] rfl rfl (by kernel_rfl)
def s_f48_r2t3_x:=hX s_f48_r2t3 [0,3,23,24,25,26] [⟨none,(.store 1 (.t 3) (.t 26)),none⟩] rfl
def s_f48:ACFun:={ ntmps:=27,results:=[],body:=
 (.seq (.regionE s_f48_r0 s_f48_r0_k [19])
 (.cond (.t 19)
 (.seq (.region s_f48_r1 [] [2,19,20,21,22])
 (.region s_f48_r2 [] [0,3,23,24,25,26]))
 .skip)) }
def a_f21:=ai @s_f21_r0_x (ai @s_f21_r0t1_tale (ai @s_f21_r0t1_x (ai @s_f21_r0_k_kA0 (ai @s_f21_r0_k_kA1 (ai @s_f21_r0_k_kA2 (ai @s_f21_r1p0_tale (ai @s_f21_r1_x (ai @s_f21_r1t1_x (ai @s_f21_r1t2_tale (ai @s_f21_r1t2_x (ai @s_f21_r2_tale (ai @s_f21_r3_tale (ai @s_f21_r4_tale (ai @s_f21_r5p0_tale (ai @s_f21_r5_x (ai @s_f21_r5t1_x (ai @s_f21_r5p2_tale (ai @s_f21_r5t2_x (ai @s_f21_r5t3_x (ai @s_f21_r5t4_tale (ai @s_f21_r5t4_x (ai @s_f21_r6p0_tale (ai @s_f21_r6_x (ai @s_f21_r6t1_x (ai @s_f21_r7p0_tale (ai @s_f21_r7_x (ai @s_f21_r7t1_x (ai @s_f21_r7p2_tale (ai @s_f21_r7t2_x (ai @s_f21_r7t3_x (ai @s_f21_r8_tale (ai @s_f21_l0_ev (@s_f21_r9_tale)))))))))))))))))))))))))))))))))
def a_f22:=ai @s_f22_r0_tale (ai @s_f22_r0_kT (ai @s_f22_r0_kA0 (ai @s_f22_r1p0_tale (ai @s_f22_r1_x (ai @s_f22_r1t1_x (ai @s_f22_r1t2_tale (ai @s_f22_r1t2_x (ai @s_f22_r2p0_tale (ai @s_f22_r2_x (ai @s_f22_r2t1_x (ai @s_f22_r2t2_tale (ai @s_f22_r2t2_x (ai @s_f22_r3_tale (ai @s_f22_r4_tale (ai @s_f22_r5_tale (ai @s_f22_r6_tale (ai @s_f22_r7_tale (ai @s_f22_r8p0_tale (ai @s_f22_r8_x (ai @s_f22_r8t1_x (ai @s_f22_r8t2_x (ai @s_f22_r8p3_tale (ai @s_f22_r8t3_x (ai @s_f22_r8t4_x (ai @s_f22_r9_tale (ai @s_f22_l0_ev (ai @s_f22_r10_tale (ai @s_f22_l1_ev (@s_f22_r11_tale)))))))))))))))))))))))))))))
def a_f23:=ai @s_f23_r0_tale (ai @s_f23_r0_kT (ai @s_f23_r0_kA0 (ai @s_f23_r0_kA1 (ai @s_f23_r0_kA2 (ai @s_f23_r1p0_tale (ai @s_f23_r1_x (ai @s_f23_r1t1_x (ai @s_f23_r1t2_x (ai @s_f23_r1t3_x (ai @s_f23_r1t4_x (ai @s_f23_r1t5_tale (@s_f23_r1t5_x))))))))))))
def a_f37:=ai @s_f37_r0_tale (ai @s_f37_r0_kT (ai @s_f37_r0_kA0 (ai @s_f37_r0_kA1 (ai @s_f37_r1p0_tale (ai @s_f37_r1_x (ai @s_f37_r1t1_x (ai @s_f37_r1t2_tale (ai @s_f37_r1t2_x (ai @s_f37_r2_tale (ai @s_f37_r3_tale (ai @s_f37_r4_tale (ai @s_f37_r5_tale (ai @s_f37_r6_tale (ai @s_f37_r7p0_tale (ai @s_f37_r7_x (ai @s_f37_r7t1_x (ai @s_f37_r7t2_tale (ai @s_f37_r7t2_x (ai @s_f37_r8p0_tale (ai @s_f37_r8_x (ai @s_f37_r8t1_x (ai @s_f37_r9_tale (ai @s_f37_r10_tale (ai @s_f37_l0_ev (ai @s_f37_r11p0_tale (ai @s_f37_r11_x (ai @s_f37_r11t1_x (@s_f37_r12_tale))))))))))))))))))))))))))))
def a_f38:=ai @s_f38_r0_tale (ai @s_f38_r0_kT (ai @s_f38_r0_kA0 (ai @s_f38_r1_tale (ai @s_f38_r2_tale (ai @s_f38_r3_x (ai @s_f38_r3p1_tale (ai @s_f38_r3t1_x (ai @s_f38_r3t2_x (ai @s_f38_r3t3_tale (@s_f38_r3t3_x))))))))))
def a_f39:=ai @s_f39_r0_tale (ai @s_f39_r0_kT (ai @s_f39_r0_kA0 (ai @s_f39_r0_kA1 (@s_f39_r1_tale))))
def a_f41:=ai @s_f41_r0_tale (ai @s_f41_r0_kT (ai @s_f41_r0_kA0 (ai @s_f41_r1_tale (ai @s_f41_r2_tale (ai @s_f41_r3_tale (ai @s_f41_r4_tale (ai @s_f41_r5_tale (ai @s_f41_r6_tale (ai @s_f41_r7_tale (ai @s_f41_r8_tale (ai @s_f41_r9_tale (ai @s_f41_r10p0_tale (ai @s_f41_r10_x (ai @s_f41_r10t1_x (ai @s_f41_r11_tale (ai @s_f41_r12_tale (ai @s_f41_l0_ev (ai @s_f41_r13p0_tale (ai @s_f41_r13_x (ai @s_f41_r13t1_x (ai @s_f41_r14_tale (ai @s_f41_r15_tale (ai @s_f41_l1_ev (@s_f41_r16_tale))))))))))))))))))))))))
def a_f42:=ai @s_f42_r0p0_k_kA0 (ai @s_f42_r0p0_k_kA1 (ai @s_f42_r0p0_k_kA2 (ai @s_f42_r0p0_k_kA4 (ai @s_f42_r0_x (ai @s_f42_r0t1_tale (ai @s_f42_r0t1_x (ai @s_f42_r0_k_kA0 (ai @s_f42_r0_k_kA1 (ai @s_f42_r0_k_kA2 (ai @s_f42_r0_k_kA4 (ai @s_f42_r1p0_tale (ai @s_f42_r1_x (ai @s_f42_r1t1_x (ai @s_f42_r1t2_x (ai @s_f42_r1t3_x (ai @s_f42_r2_x (ai @s_f42_r3_tale (ai @s_f42_r4_tale (ai @s_f42_r5_tale (ai @s_f42_r6_tale (ai @s_f42_r7p0_tale (ai @s_f42_r7_x (ai @s_f42_r7t1_x (ai @s_f42_r8_tale (ai @s_f42_l0_ev (ai @s_f42_r9_tale (ai @s_f42_r10_tale (ai @s_f42_r11p0_tale (ai @s_f42_r11_x (ai @s_f42_r11t1_x (ai @s_f42_r12_tale (ai @s_f42_r13_tale (ai @s_f42_r14_tale (ai @s_f42_r15p0_tale (ai @s_f42_r15_x (ai @s_f42_r15t1_x (ai @s_f42_r16_tale (ai @s_f42_l1_ev (ai @s_f42_l2_ev (@s_f42_r17_tale))))))))))))))))))))))))))))))))))))))))
def a_f45:=ai @s_f45_r0_tale (ai @s_f45_r0_kT (ai @s_f45_r0_kA0 (ai @s_f45_r0_kA1 (ai @s_f45_r1_tale (ai @s_f45_r2_tale (ai @s_f45_r3_tale (ai @s_f45_r4p0_tale (ai @s_f45_r4_x (ai @s_f45_r4t1_x (ai @s_f45_r5_tale (ai @s_f45_r6_tale (ai @s_f45_l0_ev (@s_f45_r7_tale)))))))))))))
def a_f48:=ai @s_f48_r0_tale (ai @s_f48_r0_kT (ai @s_f48_r0_kA0 (ai @s_f48_r0_kA1 (ai @s_f48_r0_kA2 (ai @s_f48_r0_kA3 (ai @s_f48_r1p0_tale (ai @s_f48_r1_x (ai @s_f48_r1t1_x (ai @s_f48_r2p0_tale (ai @s_f48_r2_x (ai @s_f48_r2t1_x (ai @s_f48_r2t2_x (@s_f48_r2t3_x)))))))))))))
theorem SA3_21:compK Try.prog PX0 21=some (false,s_f21.ntmps,s_f21.results,s_f21.body.bare):=by kernel_rfl
theorem SA3_22:compK Try.prog PX0 22=some (false,s_f22.ntmps,s_f22.results,s_f22.body.bare):=by kernel_rfl
theorem SA3_23:compK Try.prog PX0 23=some (false,s_f23.ntmps,s_f23.results,s_f23.body.bare):=by kernel_rfl
theorem SA3_37:compK Try.prog PX0 37=some (false,s_f37.ntmps,s_f37.results,s_f37.body.bare):=by kernel_rfl
theorem SA3_38:compK Try.prog PX0 38=some (false,s_f38.ntmps,s_f38.results,s_f38.body.bare):=by kernel_rfl
theorem SA3_39:compK Try.prog PX0 39=some (false,s_f39.ntmps,s_f39.results,s_f39.body.bare):=by kernel_rfl
theorem SA3_41:compK Try.prog PX0 41=some (false,s_f41.ntmps,s_f41.results,s_f41.body.bare):=by kernel_rfl
theorem SA3_42:compK Try.prog PX0 42=some (false,s_f42.ntmps,s_f42.results,s_f42.body.bare):=by kernel_rfl
theorem SA3_45:compK Try.prog PX0 45=some (false,s_f45.ntmps,s_f45.results,s_f45.body.bare):=by kernel_rfl
theorem SA3_48:compK Try.prog PX0 48=some (false,s_f48.ntmps,s_f48.results,s_f48.body.bare):=by kernel_rfl
end Go.Proofs.Ytchekhggdbcbbaa
set_option maxRecDepth 100000
namespace Go.Proofs.Ytchekhggdbcbbaa
open Go.AM
abbrev k_f10:Nat:=10
def s_f10_r0_k:List Nat:=[2,3,4,5,6,7,8,9,10,11,12,13,14,15,16,17,18,19,20,21,22,23,24,25]
theorem s_f10_r0_kT:killV s_f10_r0_k (startV 26 [] 2)=[]:=by kernel_rfl
theorem s_f10_r0_kA0:s_f10_r0_k.contains 0=false:=by kernel_rfl
theorem s_f10_r0_kA1:s_f10_r0_k.contains 1=false:=by kernel_rfl
def s_f10_r0:List AOper:=[
 ⟨some 4,(.move (.c (.s (.bool false)))),none⟩]
def s_f10_r0_tale:=hT s_f10_r0 s_f10_r0_k [] 5 [] [] [.cc (.s (.bool false))] (by kernel_rfl) (by kernel_rfl)
def s_f10_r1:List AOper:=[
 ⟨some 6,(.move (.t 0)),none⟩,
 ⟨some 7,(.lenS .s (.t 6)),none⟩,
 ⟨some 8,(.move (.t 1)),none⟩,
 ⟨some 9,(.lenS .s (.t 8)),none⟩,
 ⟨some 10,(.bin .neq (.t 7) (.t 9)),none⟩]
def s_f10_r1_tale:=hT s_f10_r1 [6,7,8,9] [10] 11 [] [(10,(.op (.bin .neq (.t 0) (.t 1)) [(.op (.lenS .s (.t 0)) [(.t 0)]),(.op (.lenS .s (.t 0)) [(.t 1)])]))] [.tt 0,.sub 0 [0] [],.tt 1,.sub 0 [1] [],.sub 0 [] []] (by kernel_rfl) (by kernel_rfl)
def s_f10_r2:List AOper:=[
 ⟨some 4,(.move (.c (.s (.bool false)))),none⟩]
def s_f10_r2_tale:=hT s_f10_r2 [0,1,10] [4] 5 [] [(4,(.c (.s (.bool false))))] [.cc (.s (.bool false))] (by kernel_rfl) (by kernel_rfl)
def s_f10_r3:List AOper:=[
 ⟨some 5,(.move (.c (.s (.int .i64 0)))),none⟩]
def s_f10_r3_tale:=hT s_f10_r3 [10] [5] 6 [] [(5,(.c (.s (.int .i64 0))))] [.cc (.s (.int .i64 0))] (by kernel_rfl) (by kernel_rfl)
def s_f10_r4:List AOper:=[
 ⟨some 11,(.move (.t 5)),none⟩,
 ⟨some 12,(.move (.t 0)),none⟩,
 ⟨some 13,(.lenS .s (.t 12)),none⟩,
 ⟨some 14,(.bin .lss (.t 11) (.t 13)),none⟩]
def s_f10_r4_tale:=hT s_f10_r4 [11,12,13] [14] 15 [] [(14,(.op (.bin .lss (.t 0) (.t 1)) [(.t 5),(.op (.lenS .s (.t 0)) [(.t 0)])]))] [.tt 5,.tt 0,.sub 0 [1] [],.sub 0 [] []] (by kernel_rfl) (by kernel_rfl)
def s_f10_r5:List AOper:=[
 ⟨some 17,(.move (.t 0)),none⟩,
 ⟨some 18,(.move (.t 5)),none⟩,
 ⟨some 19,(.indexAddr 1 (.t 17) (.t 18)),none⟩,
 ⟨some 20,(.load false 1 (.t 19)),none⟩,
 ⟨some 21,(.move (.t 1)),none⟩,
 ⟨some 22,(.move (.t 5)),none⟩,
 ⟨some 23,(.indexAddr 1 (.t 21) (.t 22)),none⟩,
 ⟨some 24,(.load false 1 (.t 23)),none⟩,
 ⟨some 25,(.bin .neq (.t 20) (.t 24)),none⟩]
def s_f10_r5_tale:=hT s_f10_r5 [14,17,18,19,20,21,22,23,24] [25] 26 [] [(25,(.op (.bin .neq (.t 0) (.t 1)) [(.op (.load false 1 (.t 0)) [(.op (.indexAddr 1 (.t 0) (.t 1)) [(.t 0),(.t 5)])]),(.op (.load false 1 (.t 0)) [(.op (.indexAddr 1 (.t 0) (.t 1)) [(.t 1),(.t 5)])])]))] [.tt 0,.tt 5,.sub 0 [0,0] [],.sub 0 [0] [],.tt 1,.tt 5,.sub 0 [1,0] [],.sub 0 [1] [],.sub 0 [] []] (by kernel_rfl) (by kernel_rfl)
def s_f10_r6:List AOper:=[
 ⟨some 4,(.move (.c (.s (.bool false)))),none⟩]
def s_f10_r6_tale:=hT s_f10_r6 [0,1,5,25] [4] 5 [] [(4,(.c (.s (.bool false))))] [.cc (.s (.bool false))] (by kernel_rfl) (by kernel_rfl)
def s_f10_r7:List AOper:=[
 ⟨some 15,(.move (.t 5)),none⟩,
 ⟨some 16,(.bin .add (.t 15) (.c (.s (.int .i64 1)))),none⟩,
 ⟨some 5,(.move (.t 16)),none⟩]
def s_f10_r7_tale:=hT s_f10_r7 [15,16,25] [5] 17 [] [(5,(.op (.bin .add (.t 0) (.c (.s (.int .i64 1)))) [(.t 5),(.c (.s (.int .i64 1)))]))] [.tt 5,.sub 0 [] [],.sub 0 [] []] (by kernel_rfl) (by kernel_rfl)
def s_f10_l0_b:ACode:=
 (.seq (.seq (.regionE s_f10_r4 [11,12,13] [14])
 (.cond (.t 14)
 .skip
 (.exit 0)))
 (.seq (.block 1
 (.seq (.regionE s_f10_r5 [14,17,18,19,20,21,22,23,24] [25])
 (.cond (.t 25)
 (.seq (.regionE s_f10_r6 [0,1,5,25] [4])
 .ret)
 .skip)))
 (.regionE s_f10_r7 [15,16,25] [5])))
def s_f10_l0:ACode:=s_f10_l0_b
def s_f10_l0_ev:=hE s_f10_l0 s_f10_l0_b rfl
def s_f10_r8:List AOper:=[
 ⟨some 4,(.move (.c (.s (.bool true)))),none⟩]
def s_f10_r8_tale:=hT s_f10_r8 [0,1,5,14] [4] 5 [] [(4,(.c (.s (.bool true))))] [.cc (.s (.bool true))] (by kernel_rfl) (by kernel_rfl)
def s_f10:ACFun:={ ntmps:=26,results:=[(.tmp 4)],body:=
 (.seq (.regionE s_f10_r0 s_f10_r0_k [])
 (.seq (.seq (.regionE s_f10_r1 [6,7,8,9] [10])
 (.cond (.t 10)
 (.seq (.regionE s_f10_r2 [0,1,10] [4])
 .ret)
 .skip))
 (.seq (.seq (.regionE s_f10_r3 [10] [5])
 (.block 0
 (.loop [] s_f10_l0)))
 (.seq (.regionE s_f10_r8 [0,1,5,14] [4])
 .ret)))) }
def s_f13_r0_k:List Nat:=[2,3,4,5,6,7,8,9,10,11,12,13,14,15,16,17,18,19,20,21,22,23,24,25]
def s_f13_r0:List AOper:=[
 ⟨some 4,(.move (.c (.s (.bool false)))),none⟩]
def s_f13_r1:List AOper:=[
 ⟨some 6,(.move (.t 0)),none⟩,
 ⟨some 7,(.lenS .s (.t 6)),none⟩,
 ⟨some 8,(.move (.t 1)),none⟩,
 ⟨some 9,(.lenS .s (.t 8)),none⟩,
 ⟨some 10,(.bin .neq (.t 7) (.t 9)),none⟩]
def s_f13_r2:List AOper:=[
 ⟨some 4,(.move (.c (.s (.bool false)))),none⟩]
def s_f13_r3:List AOper:=[
 ⟨some 5,(.move (.c (.s (.int .i64 0)))),none⟩]
def s_f13_r4:List AOper:=[
 ⟨some 11,(.move (.t 5)),none⟩,
 ⟨some 12,(.move (.t 0)),none⟩,
 ⟨some 13,(.lenS .s (.t 12)),none⟩,
 ⟨some 14,(.bin .lss (.t 11) (.t 13)),none⟩]
def s_f13_r5:List AOper:=[
 ⟨some 17,(.move (.t 0)),none⟩,
 ⟨some 18,(.move (.t 5)),none⟩,
 ⟨some 19,(.indexAddr 1 (.t 17) (.t 18)),none⟩,
 ⟨some 20,(.load false 1 (.t 19)),none⟩,
 ⟨some 21,(.move (.t 1)),none⟩,
 ⟨some 22,(.move (.t 5)),none⟩,
 ⟨some 23,(.indexAddr 1 (.t 21) (.t 22)),none⟩,
 ⟨some 24,(.load false 1 (.t 23)),none⟩,
 ⟨some 25,(.eqB true (.t 20) (.t 24)),none⟩]
def s_f13_r6:List AOper:=[
 ⟨some 4,(.move (.c (.s (.bool false)))),none⟩]
def s_f13_r7:List AOper:=[
 ⟨some 15,(.move (.t 5)),none⟩,
 ⟨some 16,(.bin .add (.t 15) (.c (.s (.int .i64 1)))),none⟩,
 ⟨some 5,(.move (.t 16)),none⟩]
def s_f13_l0_b:ACode:=
 (.seq (.seq (.regionE s_f13_r4 [11,12,13] [14])
 (.cond (.t 14)
 .skip
 (.exit 0)))
 (.seq (.block 1
 (.seq (.regionE s_f13_r5 [14,17,18,19,20,21,22,23,24] [25])
 (.cond (.t 25)
 (.seq (.regionE s_f13_r6 [0,1,5,25] [4])
 .ret)
 .skip)))
 (.regionE s_f13_r7 [15,16,25] [5])))
def s_f13_l0:ACode:=s_f13_l0_b
def s_f13_r8:List AOper:=[
 ⟨some 4,(.move (.c (.s (.bool true)))),none⟩]
def s_f13:ACFun:={ ntmps:=26,results:=[(.tmp 4)],body:=
 (.seq (.regionE s_f13_r0 s_f13_r0_k [])
 (.seq (.seq (.regionE s_f13_r1 [6,7,8,9] [10])
 (.cond (.t 10)
 (.seq (.regionE s_f13_r2 [0,1,10] [4])
 .ret)
 .skip))
 (.seq (.seq (.regionE s_f13_r3 [10] [5])
 (.block 0
 (.loop [] s_f13_l0)))
 (.seq (.regionE s_f13_r8 [0,1,5,14] [4])
 .ret)))) }
def s_f16_r0_k:List Nat:=[2,3,4,5,6,7,8,9,10,11,12,13,14,15,16,17,18,19,20,21,22,23,24,25,26]
def s_f16_r0:List AOper:=[
 ⟨some 4,(.move (.c (.s (.bool false)))),none⟩]
def s_f16_r1:List AOper:=[
 ⟨some 6,(.move (.t 0)),none⟩,
 ⟨some 7,(.lenS .s (.t 6)),none⟩,
 ⟨some 8,(.move (.t 1)),none⟩,
 ⟨some 9,(.lenS .s (.t 8)),none⟩,
 ⟨some 10,(.bin .neq (.t 7) (.t 9)),none⟩]
def s_f16_r2:List AOper:=[
 ⟨some 4,(.move (.c (.s (.bool false)))),none⟩]
def s_f16_r3:List AOper:=[
 ⟨some 5,(.move (.c (.s (.int .i64 0)))),none⟩]
def s_f16_r4:List AOper:=[
 ⟨some 11,(.move (.t 5)),none⟩,
 ⟨some 12,(.move (.t 0)),none⟩,
 ⟨some 13,(.lenS .s (.t 12)),none⟩,
 ⟨some 14,(.bin .lss (.t 11) (.t 13)),none⟩]
def s_f16_r5t2:List AOper:=[⟨some 26,(.un .not (.t 25)),none⟩]
def s_f16_r5p1:List AOper:=[⟨some 25,(.call (.c (.fn 10 [] [])) [(.t 20),(.t 24)]),none⟩]
def s_f16_r5t1:List AOper:=s_f16_r5p1 ++ s_f16_r5t2
def s_f16_r5p0:List AOper:=[⟨some 17,(.move (.t 0)),none⟩,⟨some 18,(.move (.t 5)),none⟩,⟨some 19,(.indexAddr 1 (.t 17) (.t 18)),none⟩,⟨some 20,(.load false 1 (.t 19)),none⟩,⟨some 21,(.move (.t 1)),none⟩,⟨some 22,(.move (.t 5)),none⟩,⟨some 23,(.indexAddr 1 (.t 21) (.t 22)),none⟩,⟨some 24,(.load false 1 (.t 23)),none⟩]
def s_f16_r5:List AOper:=s_f16_r5p0 ++ s_f16_r5t1
def s_f16_r6:List AOper:=[
 ⟨some 4,(.move (.c (.s (.bool false)))),none⟩]
def s_f16_r7:List AOper:=[
 ⟨some 15,(.move (.t 5)),none⟩,
 ⟨some 16,(.bin .add (.t 15) (.c (.s (.int .i64 1)))),none⟩,
 ⟨some 5,(.move (.t 16)),none⟩]
def s_f16_l0_b:ACode:=
 (.seq (.seq (.regionE s_f16_r4 [11,12,13] [14])
 (.cond (.t 14)
 .skip
 (.exit 0)))
 (.seq (.block 1
 (.seq (.region s_f16_r5 [] [14,17,18,19,20,21,22,23,24,25])
 (.cond (.t 26)
 (.seq (.regionE s_f16_r6 [0,1,5,26] [4])
 .ret)
 .skip)))
 (.regionE s_f16_r7 [15,16,26] [5])))
def s_f16_l0:ACode:=s_f16_l0_b
def s_f16_r8:List AOper:=[
 ⟨some 4,(.move (.c (.s (.bool true)))),none⟩]
def s_f16:ACFun:={ ntmps:=27,results:=[(.tmp 4)],body:=
 (.seq (.regionE s_f16_r0 s_f16_r0_k [])
 (.seq (.seq (.regionE s_f16_r1 [6,7,8,9] [10])
 (.cond (.t 10)
 (.seq (.regionE s_f16_r2 [0,1,10] [4])
 .ret)
 .skip))
 (.seq (.seq (.regionE s_f16_r3 [10] [5])
 (.block 0
 (.loop [] s_f16_l0)))
 (.seq (.regionE s_f16_r8 [0,1,5,14] [4])
 .ret)))) }
abbrev k_f28:Nat:=28
def s_f28_r0_k:List Nat:=[2,3,4,5,6,7,8,9,10,11,12,13,14,15,16,17,18,19,20,21,22,23,24,25,26,27,28,29,30,31,32,33,34,35,36,37,38,39,40,41,42,43,44,45,46,47,48,49,50,51,52,53,54,55,56,57,58,59,60,61,62,63,64,65,66,67,68,69,70,71,72,73,74,75,76,77,78,79,80,81,82,83]
def s_f28_r0:List AOper:=[
 ⟨some 4,(.move (.c (.s (.slice none 0 0)))),none⟩]
def s_f28_r1t2:List AOper:=[⟨some 0,(.move (.t 11)),none⟩]
def s_f28_r1p1:List AOper:=[⟨some 11,(.call (.c (.fn 31 [] [])) [(.t 10)]),none⟩]
def s_f28_r1t1:List AOper:=s_f28_r1p1 ++ s_f28_r1t2
def s_f28_r1p0:List AOper:=[⟨some 10,(.move (.t 0)),none⟩]
def s_f28_r1:List AOper:=s_f28_r1p0 ++ s_f28_r1t1
def s_f28_r2t2:List AOper:=[⟨some 5,(.move (.t 14)),none⟩]
def s_f28_r2p1:List AOper:=[⟨some 14,(.mkSl [(.s (.bool false))] 1 1 (.t 13) (.t 13)),none⟩]
def s_f28_r2t1:List AOper:=s_f28_r2p1 ++ s_f28_r2t2
def s_f28_r2p0:List AOper:=[⟨some 12,(.move (.t 0)),none⟩,⟨some 13,(.lenS .s (.t 12)),none⟩]
def s_f28_r2:List AOper:=s_f28_r2p0 ++ s_f28_r2t1
def s_f28_r3:List AOper:=[
 ⟨some 6,(.move (.c (.s (.int .i64 0)))),none⟩]
def s_f28_r4:List AOper:=[
 ⟨some 15,(.move (.t 6)),none⟩,
 ⟨some 16,(.move (.t 1)),none⟩,
 ⟨some 17,(.lenS .s (.t 16)),none⟩,
 ⟨some 18,(.bin .lss (.t 15) (.t 17)),none⟩]
def s_f28_r5:List AOper:=[
 ⟨some 21,(.move (.t 1)),none⟩,
 ⟨some 22,(.move (.t 6)),none⟩,
 ⟨some 23,(.indexAddr 1 (.t 21) (.t 22)),none⟩,
 ⟨some 24,(.load false 1 (.t 23)),none⟩,
 ⟨some 25,(.bin .geq (.t 24) (.c (.s (.int .i64 0)))),none⟩,
 ⟨some 26,(.move (.t 25)),none⟩,
 ⟨some 27,(.move (.t 1)),some (26,true)⟩,
 ⟨some 28,(.move (.t 6)),some (26,true)⟩,
 ⟨some 29,(.indexAddr 1 (.t 27) (.t 28)),some (26,true)⟩,
 ⟨some 30,(.load false 1 (.t 29)),some (26,true)⟩,
 ⟨some 31,(.move (.t 0)),some (26,true)⟩,
 ⟨some 32,(.lenS .s (.t 31)),some (26,true)⟩,
 ⟨some 33,(.bin .lss (.t 30) (.t 32)),some (26,true)⟩,
 ⟨some 34,(.pick (.t 26) (.t 33) (.c (.s (.bool false)))),none⟩]
def s_f28_r6t1:List AOper:=[⟨none,(.store 1 (.t 40) (.c (.s (.bool true)))),none⟩]
def s_f28_r6p0:List AOper:=[⟨some 35,(.move (.t 5)),none⟩,⟨some 36,(.move (.t 1)),none⟩,⟨some 37,(.move (.t 6)),none⟩,⟨some 38,(.indexAddr 1 (.t 36) (.t 37)),none⟩,⟨some 39,(.load false 1 (.t 38)),none⟩,⟨some 40,(.indexAddr 1 (.t 35) (.t 39)),none⟩]
def s_f28_r6:List AOper:=s_f28_r6p0 ++ s_f28_r6t1
def s_f28_r7:List AOper:=[
 ⟨some 19,(.move (.t 6)),none⟩,
 ⟨some 20,(.bin .add (.t 19) (.c (.s (.int .i64 1)))),none⟩,
 ⟨some 6,(.move (.t 20)),none⟩]
def s_f28_l0_b:ACode:=
 (.seq (.seq (.regionE s_f28_r4 [15,16,17] [18])
 (.cond (.t 18)
 .skip
 (.exit 0)))
 (.seq (.block 1
 (.seq (.regionE s_f28_r5 [18,21,22,23,24,25,26,27,28,29,30,31,32,33] [34])
 (.cond (.t 34)
 (.region s_f28_r6 [] [34,35,36,37,38,39,40])
 .skip)))
 (.regionE s_f28_r7 [19,20,34] [6])))
def s_f28_l0:ACode:=s_f28_l0_b
def s_f28_r8:List AOper:=[
 ⟨some 7,(.move (.c (.s (.bool true)))),none⟩]
def s_f28_r9:List AOper:=[
 ⟨some 41,(.move (.t 7)),none⟩]
def s_f28_r10:List AOper:=[
 ⟨some 7,(.move (.c (.s (.bool false)))),none⟩]
def s_f28_r11:List AOper:=[
 ⟨some 8,(.move (.c (.s (.int .i64 0)))),none⟩]
def s_f28_r12:List AOper:=[
 ⟨some 42,(.move (.t 8)),none⟩,
 ⟨some 43,(.move (.t 0)),none⟩,
 ⟨some 44,(.lenS .s (.t 43)),none⟩,
 ⟨some 45,(.bin .lss (.t 42) (.t 44)),none⟩]
def s_f28_r13:List AOper:=[
 ⟨some 9,(.move (.c (.s (.int .i64 0)))),none⟩]
def s_f28_r14:List AOper:=[
 ⟨some 48,(.move (.t 9)),none⟩,
 ⟨some 49,(.move (.t 0)),none⟩,
 ⟨some 50,(.move (.t 8)),none⟩,
 ⟨some 51,(.indexAddr 1 (.t 49) (.t 50)),none⟩,
 ⟨some 52,(.load false 1 (.t 51)),none⟩,
 ⟨some 53,(.lenS .s (.t 52)),none⟩,
 ⟨some 54,(.bin .lss (.t 48) (.t 53)),none⟩]
def s_f28_r15:List AOper:=[
 ⟨some 57,(.move (.t 5)),none⟩,
 ⟨some 58,(.move (.t 8)),none⟩,
 ⟨some 59,(.indexAddr 1 (.t 57) (.t 58)),none⟩,
 ⟨some 60,(.load false 1 (.t 59)),none⟩,
 ⟨some 61,(.move (.t 60)),none⟩,
 ⟨some 62,(.move (.t 5)),some (61,true)⟩,
 ⟨some 63,(.move (.t 0)),some (61,true)⟩,
 ⟨some 64,(.move (.t 8)),some (61,true)⟩,
 ⟨some 65,(.indexAddr 1 (.t 63) (.t 64)),some (61,true)⟩,
 ⟨some 66,(.load false 1 (.t 65)),some (61,true)⟩,
 ⟨some 67,(.move (.t 9)),some (61,true)⟩,
 ⟨some 68,(.indexAddr 1 (.t 66) (.t 67)),some (61,true)⟩,
 ⟨some 69,(.load false 1 (.t 68)),some (61,true)⟩,
 ⟨some 70,(.indexAddr 1 (.t 62) (.t 69)),some (61,true)⟩,
 ⟨some 71,(.load false 1 (.t 70)),some (61,true)⟩,
 ⟨some 72,(.un .not (.t 71)),some (61,true)⟩,
 ⟨some 73,(.pick (.t 61) (.t 72) (.c (.s (.bool false)))),none⟩]
def s_f28_r16t1:List AOper:=[⟨none,(.store 1 (.t 82) (.c (.s (.bool true)))),none⟩]
def s_f28_r16p0:List AOper:=[⟨some 74,(.move (.t 5)),none⟩,⟨some 75,(.move (.t 0)),none⟩,⟨some 76,(.move (.t 8)),none⟩,⟨some 77,(.indexAddr 1 (.t 75) (.t 76)),none⟩,⟨some 78,(.load false 1 (.t 77)),none⟩,⟨some 79,(.move (.t 9)),none⟩,⟨some 80,(.indexAddr 1 (.t 78) (.t 79)),none⟩,⟨some 81,(.load false 1 (.t 80)),none⟩,⟨some 82,(.indexAddr 1 (.t 74) (.t 81)),none⟩]
def s_f28_r16:List AOper:=s_f28_r16p0 ++ s_f28_r16t1
def s_f28_r17:List AOper:=[
 ⟨some 7,(.move (.c (.s (.bool true)))),none⟩]
def s_f28_r18:List AOper:=[
 ⟨some 55,(.move (.t 9)),none⟩,
 ⟨some 56,(.bin .add (.t 55) (.c (.s (.int .i64 1)))),none⟩,
 ⟨some 9,(.move (.t 56)),none⟩]
def s_f28_l1_b:ACode:=
 (.seq (.seq (.regionE s_f28_r14 [48,49,50,51,52,53] [54])
 (.cond (.t 54)
 .skip
 (.exit 6)))
 (.seq (.block 7
 (.seq (.regionE s_f28_r15 [54,57,58,59,60,61,62,63,64,65,66,67,68,69,70,71,72] [73])
 (.cond (.t 73)
 (.seq (.region s_f28_r16 [] [7,73,74,75,76,77,78,79,80,81,82])
 (.regionE s_f28_r17 [] [7]))
 .skip)))
 (.regionE s_f28_r18 [55,56,73] [9])))
def s_f28_l1:ACode:=s_f28_l1_b
def s_f28_r19:List AOper:=[
 ⟨some 46,(.move (.t 8)),none⟩,
 ⟨some 47,(.bin .add (.t 46) (.c (.s (.int .i64 1)))),none⟩,
 ⟨some 8,(.move (.t 47)),none⟩]
def s_f28_l2_b:ACode:=
 (.seq (.seq (.regionE s_f28_r12 [42,43,44] [45])
 (.cond (.t 45)
 .skip
 (.exit 4)))
 (.seq (.block 5
 (.seq (.regionE s_f28_r13 [45] [9])
 (.block 6
 (.loop [] s_f28_l1))))
 (.regionE s_f28_r19 [9,46,47,54] [8])))
def s_f28_l2:ACode:=s_f28_l2_b
def s_f28_l3_b:ACode:=
 (.seq (.seq (.regionE s_f28_r9 [7] [41])
 (.cond (.t 41)
 .skip
 (.exit 2)))
 (.block 3
 (.seq (.regionE s_f28_r10 [41] [7])
 (.seq (.regionE s_f28_r11 [] [8])
 (.block 4
 (.loop [] s_f28_l2))))))
def s_f28_l3:ACode:=s_f28_l3_b
def s_f28_r20:List AOper:=[
 ⟨some 83,(.move (.t 5)),none⟩,
 ⟨some 4,(.move (.t 83)),none⟩]
def s_f28:ACFun:={ ntmps:=84,results:=[(.tmp 4)],body:=
 (.seq (.regionE s_f28_r0 s_f28_r0_k [])
 (.seq (.region s_f28_r1 [] [10,11])
 (.seq (.region s_f28_r2 [] [12,13,14])
 (.seq (.seq (.regionE s_f28_r3 [] [6])
 (.block 0
 (.loop [] s_f28_l0)))
 (.seq (.seq (.regionE s_f28_r8 [1,6,18] [7])
 (.block 2
 (.loop [8,45] s_f28_l3)))
 (.seq (.regionE s_f28_r20 [0,5,41,83] [4])
 .ret)))))) }
abbrev k_f31:Nat:=31
def s_f31_r0_k:List Nat:=[1,2,3,4,5,6,7,8,9,10,11,12,13,14,15,16,17,18,19,20,21,22,23,24,25,26,27,28,29,30,31,32,33,34,35,36,37,38,39,40,41,42,43,44,45,46,47,48,49,50,51,52,53,54,55]
def s_f31_r0:List AOper:=[
 ⟨some 2,(.move (.c (.s (.slice none 0 0)))),none⟩]
def s_f31_r1:List AOper:=[
 ⟨some 3,(.move (.c (.s (.slice none 0 0)))),none⟩]
def s_f31_r2:List AOper:=[
 ⟨some 4,(.move (.c (.s (.int .i64 0)))),none⟩]
def s_f31_r3:List AOper:=[
 ⟨some 7,(.move (.t 4)),none⟩,
 ⟨some 8,(.move (.t 0)),none⟩,
 ⟨some 9,(.lenS .s (.t 8)),none⟩,
 ⟨some 10,(.bin .lss (.t 7) (.t 9)),none⟩]
def s_f31_r4:List AOper:=[
 ⟨some 5,(.move (.c (.s (.slice none 0 0)))),none⟩]
def s_f31_r5:List AOper:=[
 ⟨some 6,(.move (.c (.s (.int .i64 0)))),none⟩]
def s_f31_r6:List AOper:=[
 ⟨some 13,(.move (.t 6)),none⟩,
 ⟨some 14,(.move (.t 0)),none⟩,
 ⟨some 15,(.move (.t 4)),none⟩,
 ⟨some 16,(.indexAddr 1 (.t 14) (.t 15)),none⟩,
 ⟨some 17,(.load false 1 (.t 16)),none⟩,
 ⟨some 18,(.lenS .s (.t 17)),none⟩,
 ⟨some 19,(.bin .lss (.t 13) (.t 18)),none⟩]
def s_f31_r7:List AOper:=[
 ⟨some 22,(.move (.t 0)),none⟩,
 ⟨some 23,(.move (.t 4)),none⟩,
 ⟨some 24,(.indexAddr 1 (.t 22) (.t 23)),none⟩,
 ⟨some 25,(.load false 1 (.t 24)),none⟩,
 ⟨some 26,(.move (.t 6)),none⟩,
 ⟨some 27,(.indexAddr 1 (.t 25) (.t 26)),none⟩,
 ⟨some 28,(.load false 1 (.t 27)),none⟩,
 ⟨some 29,(.bin .geq (.t 28) (.c (.s (.int .i64 0)))),none⟩,
 ⟨some 30,(.move (.t 29)),none⟩,
 ⟨some 31,(.move (.t 0)),some (30,true)⟩,
 ⟨some 32,(.move (.t 4)),some (30,true)⟩,
 ⟨some 33,(.indexAddr 1 (.t 31) (.t 32)),some (30,true)⟩,
 ⟨some 34,(.load false 1 (.t 33)),some (30,true)⟩,
 ⟨some 35,(.move (.t 6)),some (30,true)⟩,
 ⟨some 36,(.indexAddr 1 (.t 34) (.t 35)),some (30,true)⟩,
 ⟨some 37,(.load false 1 (.t 36)),some (30,true)⟩,
 ⟨some 38,(.move (.t 0)),some (30,true)⟩,
 ⟨some 39,(.lenS .s (.t 38)),some (30,true)⟩,
 ⟨some 40,(.bin .lss (.t 37) (.t 39)),some (30,true)⟩,
 ⟨some 41,(.pick (.t 30) (.t 40) (.c (.s (.bool false)))),none⟩]
def s_f31_r8t2:List AOper:=[⟨some 5,(.move (.t 50)),none⟩]
def s_f31_r8p1:List AOper:=[⟨some 50,(.call (.c (.fn 33 [] [])) [(.t 42),(.t 49)]),none⟩]
def s_f31_r8t1:List AOper:=s_f31_r8p1 ++ s_f31_r8t2
def s_f31_r8p0:List AOper:=[⟨some 42,(.move (.t 5)),none⟩,⟨some 43,(.move (.t 0)),none⟩,⟨some 44,(.move (.t 4)),none⟩,⟨some 45,(.indexAddr 1 (.t 43) (.t 44)),none⟩,⟨some 46,(.load false 1 (.t 45)),none⟩,⟨some 47,(.move (.t 6)),none⟩,⟨some 48,(.indexAddr 1 (.t 46) (.t 47)),none⟩,⟨some 49,(.load false 1 (.t 48)),none⟩]
def s_f31_r8:List AOper:=s_f31_r8p0 ++ s_f31_r8t1
def s_f31_r9:List AOper:=[
 ⟨some 20,(.move (.t 6)),none⟩,
 ⟨some 21,(.bin .add (.t 20) (.c (.s (.int .i64 1)))),none⟩,
 ⟨some 6,(.move (.t 21)),none⟩]
def s_f31_l0_b:ACode:=
 (.seq (.seq (.regionE s_f31_r6 [13,14,15,16,17,18] [19])
 (.cond (.t 19)
 .skip
 (.exit 2)))
 (.seq (.block 3
 (.seq (.regionE s_f31_r7 [19,22,23,24,25,26,27,28,29,30,31,32,33,34,35,36,37,38,39,40] [41])
 (.cond (.t 41)
 (.region s_f31_r8 [] [41,42,43,44,45,46,47,48,49,50])
 .skip)))
 (.regionE s_f31_r9 [20,21,41] [6])))
def s_f31_l0:ACode:=s_f31_l0_b
def s_f31_r10t3:List AOper:=[⟨some 3,(.move (.t 54)),none⟩]
def s_f31_r10p2:List AOper:=[⟨some 54,(.append 1 24 (.t 51) (.t 53)),none⟩]
def s_f31_r10t2:List AOper:=s_f31_r10p2 ++ s_f31_r10t3
def s_f31_r10p1:List AOper:=[⟨some 53,(.buildSl 1 1 [(.s (.slice none 0 0))] [(0,(.t 52))]),none⟩]
def s_f31_r10t1:List AOper:=s_f31_r10p1 ++ s_f31_r10t2
def s_f31_r10p0:List AOper:=[⟨some 51,(.move (.t 3)),none⟩,⟨some 52,(.move (.t 5)),none⟩]
def s_f31_r10:List AOper:=s_f31_r10p0 ++ s_f31_r10t1
def s_f31_r11:List AOper:=[
 ⟨some 11,(.move (.t 4)),none⟩,
 ⟨some 12,(.bin .add (.t 11) (.c (.s (.int .i64 1)))),none⟩,
 ⟨some 4,(.move (.t 12)),none⟩]
def s_f31_l1_b:ACode:=
 (.seq (.seq (.regionE s_f31_r3 [7,8,9] [10])
 (.cond (.t 10)
 .skip
 (.exit 0)))
 (.seq (.block 1
 (.seq (.regionE s_f31_r4 [10] [5])
 (.seq (.seq (.regionE s_f31_r5 [] [6])
 (.block 2
 (.loop [] s_f31_l0)))
 (.region s_f31_r10 [] [5,6,19,51,52,53,54]))))
 (.regionE s_f31_r11 [11,12] [4])))
def s_f31_l1:ACode:=s_f31_l1_b
def s_f31_r12:List AOper:=[
 ⟨some 55,(.move (.t 3)),none⟩,
 ⟨some 2,(.move (.t 55)),none⟩]
def s_f31:ACFun:={ ntmps:=56,results:=[(.tmp 2)],body:=
 (.seq (.regionE s_f31_r0 s_f31_r0_k [])
 (.seq (.regionE s_f31_r1 [] [3])
 (.seq (.seq (.regionE s_f31_r2 [] [4])
 (.block 0
 (.loop [] s_f31_l1)))
 (.seq (.regionE s_f31_r12 [0,3,4,10,55] [2])
 .ret)))) }
abbrev k_f32:Nat:=32
def s_f32_r0_k:List Nat:=[3,4,5,6,7,8,9,10,11,12,13,14,15,16,17,18,19,20,21,22,23]
def s_f32_r0:List AOper:=[
 ⟨some 6,(.move (.c (.s (.bool false)))),none⟩]
def s_f32_r1t5:List AOper:=[⟨some 20,(.move (.t 2)),some (15,true)⟩,⟨some 21,(.indexAddr 1 (.t 19) (.t 20)),some (15,true)⟩,⟨some 22,(.load false 1 (.t 21)),some (15,true)⟩,⟨some 23,(.pick (.t 15) (.t 22) (.c (.s (.bool false)))),none⟩,⟨some 6,(.move (.t 23)),none⟩]
def s_f32_r1p4:List AOper:=[⟨some 19,(.call (.c (.fn 28 [] [])) [(.t 16),(.t 18)]),some (15,true)⟩]
def s_f32_r1t4:List AOper:=s_f32_r1p4 ++ s_f32_r1t5
def s_f32_r1p3:List AOper:=[⟨some 18,(.buildSl 1 1 [(.s (.int .i64 0))] [(0,(.t 17))]),some (15,true)⟩]
def s_f32_r1t3:List AOper:=s_f32_r1p3 ++ s_f32_r1t4
def s_f32_r1p2:List AOper:=[⟨some 17,(.move (.t 1)),some (15,true)⟩]
def s_f32_r1t2:List AOper:=s_f32_r1p2 ++ s_f32_r1t3
def s_f32_r1p1:List AOper:=[⟨some 16,(.move (.t 0)),some (15,true)⟩]
def s_f32_r1t1:List AOper:=s_f32_r1p1 ++ s_f32_r1t2
def s_f32_r1p0:List AOper:=[⟨some 7,(.move (.t 2)),none⟩,⟨some 8,(.bin .geq (.t 7) (.c (.s (.int .i64 0)))),none⟩,⟨some 9,(.move (.t 8)),none⟩,⟨some 10,(.move (.t 2)),some (9,true)⟩,⟨some 11,(.move (.t 0)),some (9,true)⟩,⟨some 12,(.lenS .s (.t 11)),some (9,true)⟩,⟨some 13,(.bin .lss (.t 10) (.t 12)),some (9,true)⟩,⟨some 14,(.pick (.t 9) (.t 13) (.c (.s (.bool false)))),none⟩,⟨some 15,(.move (.t 14)),none⟩]
def s_f32_r1:List AOper:=s_f32_r1p0 ++ s_f32_r1t1
def s_f32:ACFun:={ ntmps:=24,results:=[(.tmp 6)],body:=
 (.seq (.regionE s_f32_r0 s_f32_r0_k [])
 (.seq (.region s_f32_r1 [] [0,1,2,7,8,9,10,11,12,13,14,15,16,17,18,19,20,21,22,23])
 .ret)) }
abbrev k_f33:Nat:=33
def s_f33_r0_k:List Nat:=[2,3,4,5,6,7,8,9,10,11,12,13,14,15,16,17,18,19,20,21,22,23,24,25,26,27,28,29,30,31,32,33,34,35,36,37,38,39,40,41]
def s_f33_r0:List AOper:=[
 ⟨some 4,(.move (.c (.s (.slice none 0 0)))),none⟩]
def s_f33_r1t4:List AOper:=[⟨some 13,(.pick (.t 9) (.c (.s (.bool true))) (.t 12)),none⟩]
def s_f33_r1p3:List AOper:=[⟨some 12,(.call (.c (.fn 36 [] [])) [(.t 10),(.t 11)]),some (9,false)⟩]
def s_f33_r1t3:List AOper:=s_f33_r1p3 ++ s_f33_r1t4
def s_f33_r1p2:List AOper:=[⟨some 11,(.move (.t 1)),some (9,false)⟩]
def s_f33_r1t2:List AOper:=s_f33_r1p2 ++ s_f33_r1t3
def s_f33_r1p1:List AOper:=[⟨some 10,(.move (.t 0)),some (9,false)⟩]
def s_f33_r1t1:List AOper:=s_f33_r1p1 ++ s_f33_r1t2
def s_f33_r1p0:List AOper:=[⟨some 7,(.move (.t 1)),none⟩,⟨some 8,(.bin .lss (.t 7) (.c (.s (.int .i64 0)))),none⟩,⟨some 9,(.move (.t 8)),none⟩]
def s_f33_r1:List AOper:=s_f33_r1p0 ++ s_f33_r1t1
def s_f33_r2:List AOper:=[
 ⟨some 14,(.move (.t 0)),none⟩,
 ⟨some 4,(.move (.t 14)),none⟩]
def s_f33_r3:List AOper:=[
 ⟨some 5,(.move (.c (.s (.int .i64 0)))),none⟩]
def s_f33_r4:List AOper:=[
 ⟨some 15,(.move (.t 5)),none⟩,
 ⟨some 16,(.move (.t 0)),none⟩,
 ⟨some 17,(.lenS .s (.t 16)),none⟩,
 ⟨some 18,(.bin .lss (.t 15) (.t 17)),none⟩,
 ⟨some 19,(.move (.t 18)),none⟩,
 ⟨some 20,(.move (.t 0)),some (19,true)⟩,
 ⟨some 21,(.move (.t 5)),some (19,true)⟩,
 ⟨some 22,(.indexAddr 1 (.t 20) (.t 21)),some (19,true)⟩,
 ⟨some 23,(.load false 1 (.t 22)),some (19,true)⟩,
 ⟨some 24,(.move (.t 1)),some (19,true)⟩,
 ⟨some 25,(.bin .lss (.t 23) (.t 24)),some (19,true)⟩,
 ⟨some 26,(.pick (.t 19) (.t 25) (.c (.s (.bool false)))),none⟩]
def s_f33_r5:List AOper:=[
 ⟨some 27,(.move (.t 5)),none⟩,
 ⟨some 28,(.bin .add (.t 27) (.c (.s (.int .i64 1)))),none⟩,
 ⟨some 5,(.move (.t 28)),none⟩]
def s_f33_l0_b:ACode:=
 (.seq (.seq (.regionE s_f33_r4 [15,16,17,18,19,20,21,22,23,24,25] [26])
 (.cond (.t 26)
 .skip
 (.exit 0)))
 (.block 1
 (.regionE s_f33_r5 [26,27,28] [5])))
def s_f33_l0:ACode:=s_f33_l0_b
def s_f33_r6t2:List AOper:=[⟨some 6,(.move (.t 32)),none⟩]
def s_f33_r6p1:List AOper:=[⟨some 32,(.append 1 8 (.c (.s (.slice none 0 0))) (.t 31)),none⟩]
def s_f33_r6t1:List AOper:=s_f33_r6p1 ++ s_f33_r6t2
def s_f33_r6p0:List AOper:=[⟨some 29,(.move (.t 0)),none⟩,⟨some 30,(.move (.t 5)),none⟩,⟨some 31,(.subSl 1 (.t 29) none (some (.t 30)) none),none⟩]
def s_f33_r6:List AOper:=s_f33_r6p0 ++ s_f33_r6t1
def s_f33_r7t3:List AOper:=[⟨some 6,(.move (.t 36)),none⟩]
def s_f33_r7p2:List AOper:=[⟨some 36,(.append 1 8 (.t 33) (.t 35)),none⟩]
def s_f33_r7t2:List AOper:=s_f33_r7p2 ++ s_f33_r7t3
def s_f33_r7p1:List AOper:=[⟨some 35,(.buildSl 1 1 [(.s (.int .i64 0))] [(0,(.t 34))]),none⟩]
def s_f33_r7t1:List AOper:=s_f33_r7p1 ++ s_f33_r7t2
def s_f33_r7p0:List AOper:=[⟨some 33,(.move (.t 6)),none⟩,⟨some 34,(.move (.t 1)),none⟩]
def s_f33_r7:List AOper:=s_f33_r7p0 ++ s_f33_r7t1
def s_f33_r8t2:List AOper:=[⟨some 4,(.move (.t 41)),none⟩]
def s_f33_r8p1:List AOper:=[⟨some 41,(.append 1 8 (.t 37) (.t 40)),none⟩]
def s_f33_r8t1:List AOper:=s_f33_r8p1 ++ s_f33_r8t2
def s_f33_r8p0:List AOper:=[⟨some 37,(.move (.t 6)),none⟩,⟨some 38,(.move (.t 0)),none⟩,⟨some 39,(.move (.t 5)),none⟩,⟨some 40,(.subSl 1 (.t 38) (some (.t 39)) none none),none⟩]
def s_f33_r8:List AOper:=s_f33_r8p0 ++ s_f33_r8t1
def s_f33:ACFun:={ ntmps:=42,results:=[(.tmp 4)],body:=
 (.seq (.regionE s_f33_r0 s_f33_r0_k [])
 (.seq (.seq (.region s_f33_r1 [] [7,8,9,10,11,12])
 (.cond (.t 13)
 (.seq (.regionE s_f33_r2 [0,1,13,14] [4])
 .ret)
 .skip))
 (.seq (.regionE s_f33_r3 [13] [5])
 (.seq (.block 0
 (.loop [] s_f33_l0))
 (.seq (.region s_f33_r6 [] [26,29,30,31,32])
 (.seq (.region s_f33_r7 [] [1,33,34,35,36])
 (.seq (.region s_f33_r8 [] [0,5,6,37,38,39,40,41])
 .ret))))))) }
abbrev k_f36:Nat:=36
def s_f36_r0_k:List Nat:=[2,3,4,5,6,7,8,9,10,11,12,13,14,15,16,17]
def s_f36_r0:List AOper:=[
 ⟨some 4,(.move (.c (.s (.bool false)))),none⟩]
def s_f36_r1:List AOper:=[
 ⟨some 5,(.move (.c (.s (.int .i64 0)))),none⟩]
def s_f36_r2:List AOper:=[
 ⟨some 6,(.move (.t 5)),none⟩,
 ⟨some 7,(.move (.t 0)),none⟩,
 ⟨some 8,(.lenS .s (.t 7)),none⟩,
 ⟨some 9,(.bin .lss (.t 6) (.t 8)),none⟩]
def s_f36_r3:List AOper:=[
 ⟨some 12,(.move (.t 0)),none⟩,
 ⟨some 13,(.move (.t 5)),none⟩,
 ⟨some 14,(.indexAddr 1 (.t 12) (.t 13)),none⟩,
 ⟨some 15,(.load false 1 (.t 14)),none⟩,
 ⟨some 16,(.move (.t 1)),none⟩,
 ⟨some 17,(.bin .eql (.t 15) (.t 16)),none⟩]
def s_f36_r4:List AOper:=[
 ⟨some 4,(.move (.c (.s (.bool true)))),none⟩]
def s_f36_r5:List AOper:=[
 ⟨some 10,(.move (.t 5)),none⟩,
 ⟨some 11,(.bin .add (.t 10) (.c (.s (.int .i64 1)))),none⟩,
 ⟨some 5,(.move (.t 11)),none⟩]
def s_f36_l0_b:ACode:=
 (.seq (.seq (.regionE s_f36_r2 [6,7,8] [9])
 (.cond (.t 9)
 .skip
 (.exit 0)))
 (.seq (.block 1
 (.seq (.regionE s_f36_r3 [9,12,13,14,15,16] [17])
 (.cond (.t 17)
 (.seq (.regionE s_f36_r4 [0,1,5,17] [4])
 .ret)
 .skip)))
 (.regionE s_f36_r5 [10,11,17] [5])))
def s_f36_l0:ACode:=s_f36_l0_b
def s_f36_r6:List AOper:=[
 ⟨some 4,(.move (.c (.s (.bool false)))),none⟩]
def s_f36:ACFun:={ ntmps:=18,results:=[(.tmp 4)],body:=
 (.seq (.regionE s_f36_r0 s_f36_r0_k [])
 (.seq (.seq (.regionE s_f36_r1 [] [5])
 (.block 0
 (.loop [] s_f36_l0)))
 (.seq (.regionE s_f36_r6 [0,1,5,9] [4])
 .ret))) }
def a_f10:=ai @s_f10_r0_tale (ai @s_f10_r0_kT (ai @s_f10_r0_kA0 (ai @s_f10_r0_kA1 (ai @s_f10_r1_tale (ai @s_f10_r2_tale (ai @s_f10_r3_tale (ai @s_f10_r4_tale (ai @s_f10_r5_tale (ai @s_f10_r6_tale (ai @s_f10_r7_tale (ai @s_f10_l0_ev (@s_f10_r8_tale))))))))))))
theorem SA4_10:compK Try.prog PX0 10=some (false,s_f10.ntmps,s_f10.results,s_f10.body.bare):=by kernel_rfl
theorem SA4_13:compK Try.prog PX0 13=some (false,s_f13.ntmps,s_f13.results,s_f13.body.bare):=by kernel_rfl
theorem SA4_16:compK Try.prog PX0 16=some (false,s_f16.ntmps,s_f16.results,s_f16.body.bare):=by kernel_rfl
theorem SA4_33:compK Try.prog PX0 33=some (false,s_f33.ntmps,s_f33.results,s_f33.body.bare):=by kernel_rfl
theorem SA4_36:compK Try.prog PX0 36=some (false,s_f36.ntmps,s_f36.results,s_f36.body.bare):=by kernel_rfl
theorem SA4_31:compK Try.prog PX0 31=some (false,s_f31.ntmps,s_f31.results,s_f31.body.bare):=by kernel_rfl
theorem SA4_28:compK Try.prog PX0 28=some (false,s_f28.ntmps,s_f28.results,s_f28.body.bare):=by kernel_rfl
theorem SA4_32:compK Try.prog PX0 32=some (false,s_f32.ntmps,s_f32.results,s_f32.body.bare):=by kernel_rfl
end Go.Proofs.Ytchekhggdbcbbaa
set_option maxRecDepth 100000
namespace Go.Proofs.Ytchekhggdbcbbaa
open Go.AM
abbrev k_f7:Nat:=7
def s_f7_r0_k:List Nat:=[1,2,3,4,5,6,7,8,9,10,11,12,13,14,15,16,17,18,19,20,21,22,23,24,25,26,27,28,29,30,31,32,33,34,35,36,37,38,39,40,41,42,43,44,45,46,47,48,49,50,51,52,53,54,55,56,57,58,59,60,61,62,63,64,65,66,67,68,69,70,71,72,73,74,75,76,77,78,79,80,81,82,83,84,85,86,87,88,89,90,91,92,93,94,95,96,97,98,99,100,101,102,103,104,105,106,107,108,109,110,111,112,113,114,115,116,117,118,119,120,121,122,123,124,125,126,127,128]
theorem s_f7_r0_kT:killV s_f7_r0_k (startV 129 [] 1)=[]:=by kernel_rfl
theorem s_f7_r0_kA0:s_f7_r0_k.contains 0=false:=by kernel_rfl
def s_f7_r0:List AOper:=[
 ⟨some 2,(.move (.c (.s (.bool false)))),none⟩]
def s_f7_r0_tale:=hT s_f7_r0 s_f7_r0_k [] 3 [] [] [.cc (.s (.bool false))] (by kernel_rfl) (by kernel_rfl)
def s_f7_r1t2:List AOper:=[⟨some 14,(.move (.t 13)),none⟩,⟨some 15,(.move (.t 0)),some (14,false)⟩,⟨some 16,(.lenS .s (.t 15)),some (14,false)⟩,⟨some 17,(.bin .gtr (.t 16) (.c (.s (.int .i64 40)))),some (14,false)⟩,⟨some 18,(.pick (.t 14) (.c (.s (.bool true))) (.t 17)),none⟩]
def s_f7_r1p1:List AOper:=[⟨some 13,(.call (.c (.fn 8 [] [])) [(.t 12)]),none⟩]
def s_f7_r1t1:List AOper:=s_f7_r1p1 ++ s_f7_r1t2
def s_f7_r1p0:List AOper:=[⟨some 12,(.move (.t 0)),none⟩]
def s_f7_r1:List AOper:=s_f7_r1p0 ++ s_f7_r1t1
def s_f7_r1p0_tale:=hT s_f7_r1p0 [] [12] 13 [] [(12,(.t 0))] [.tt 0] (by kernel_rfl) (by kernel_rfl)
def s_f7_r1_x:=hS s_f7_r1 s_f7_r1p0 s_f7_r1t1 [] [12] [12,13,14,15,16,17] rfl (by kernel_rfl)
def s_f7_r1t1_x:=hO s_f7_r1t1 s_f7_r1p1 s_f7_r1t2 [12] [12,13,14,15,16,17] [⟨some 13,(.call (.c (.fn 8 [] [])) [(.t 12)]),none⟩] rfl rfl (by kernel_rfl)
def s_f7_r1t2_tale:=hT s_f7_r1t2 [12,13,14,15,16,17] [18] 19 [] [(18,(.pick (.t 13) (.c (.s (.bool true))) (.op (.bin .gtr (.t 0) (.c (.s (.int .i64 40)))) [(.op (.lenS .s (.t 0)) [(.t 0)]),(.c (.s (.int .i64 40)))])))] [.tt 13,.sub 0 [2,0,0] [14],.sub 0 [2,0] [14],.sub 0 [2] [14],.sub 0 [] []] (by kernel_rfl) (by kernel_rfl)
def s_f7_r1t2_x:=hL s_f7_r1t2 [12,13,14,15,16,17] [18]
def s_f7_r2t1:List AOper:=[⟨some 2,(.move (.t 19)),none⟩]
def s_f7_r2p0:List AOper:=[⟨some 19,(.call (.c (.fn 9 [] [])) []),none⟩]
def s_f7_r2:List AOper:=s_f7_r2p0 ++ s_f7_r2t1
def s_f7_r2_x:=hO s_f7_r2 s_f7_r2p0 s_f7_r2t1 [0,18] [0,18,19] [⟨some 19,(.call (.c (.fn 9 [] [])) []),none⟩] rfl rfl (by kernel_rfl)
def s_f7_r2t1_tale:=hT s_f7_r2t1 [0,18,19] [2] 3 [] [(2,(.t 19))] [.tt 19] (by kernel_rfl) (by kernel_rfl)
def s_f7_r2t1_x:=hL s_f7_r2t1 [0,18,19] [2]
def s_f7_r3t2:List AOper:=[⟨some 3,(.move (.t 21)),none⟩]
def s_f7_r3p1:List AOper:=[⟨some 21,(.call (.c (.fn 11 [] [])) [(.t 20)]),none⟩]
def s_f7_r3t1:List AOper:=s_f7_r3p1 ++ s_f7_r3t2
def s_f7_r3p0:List AOper:=[⟨some 20,(.move (.t 0)),none⟩]
def s_f7_r3:List AOper:=s_f7_r3p0 ++ s_f7_r3t1
def s_f7_r3p0_tale:=hT s_f7_r3p0 [18] [20] 21 [] [(20,(.t 0))] [.tt 0] (by kernel_rfl) (by kernel_rfl)
def s_f7_r3_x:=hS s_f7_r3 s_f7_r3p0 s_f7_r3t1 [18] [20] [18,20,21] rfl (by kernel_rfl)
def s_f7_r3t1_x:=hO s_f7_r3t1 s_f7_r3p1 s_f7_r3t2 [20] [18,20,21] [⟨some 21,(.call (.c (.fn 11 [] [])) [(.t 20)]),none⟩] rfl rfl (by kernel_rfl)
def s_f7_r3t2_tale:=hT s_f7_r3t2 [18,20,21] [3] 4 [] [(3,(.t 21))] [.tt 21] (by kernel_rfl) (by kernel_rfl)
def s_f7_r3t2_x:=hL s_f7_r3t2 [18,20,21] [3]
def s_f7_r4t2:List AOper:=[⟨some 4,(.move (.t 23)),none⟩]
def s_f7_r4p1:List AOper:=[⟨some 23,(.call (.c (.fn 14 [] [])) [(.t 22)]),none⟩]
def s_f7_r4t1:List AOper:=s_f7_r4p1 ++ s_f7_r4t2
def s_f7_r4p0:List AOper:=[⟨some 22,(.move (.t 0)),none⟩]
def s_f7_r4:List AOper:=s_f7_r4p0 ++ s_f7_r4t1
def s_f7_r4p0_tale:=hT s_f7_r4p0 [] [22] 23 [] [(22,(.t 0))] [.tt 0] (by kernel_rfl) (by kernel_rfl)
def s_f7_r4_x:=hS s_f7_r4 s_f7_r4p0 s_f7_r4t1 [] [22] [22,23] rfl (by kernel_rfl)
def s_f7_r4t1_x:=hO s_f7_r4t1 s_f7_r4p1 s_f7_r4t2 [22] [22,23] [⟨some 23,(.call (.c (.fn 14 [] [])) [(.t 22)]),none⟩] rfl rfl (by kernel_rfl)
def s_f7_r4t2_tale:=hT s_f7_r4t2 [22,23] [4] 5 [] [(4,(.t 23))] [.tt 23] (by kernel_rfl) (by kernel_rfl)
def s_f7_r4t2_x:=hL s_f7_r4t2 [22,23] [4]
def s_f7_r5:List AOper:=[
 ⟨some 24,(.move (.t 3)),none⟩,
 ⟨some 25,(.lenS .s (.t 24)),none⟩,
 ⟨some 26,(.move (.t 0)),none⟩,
 ⟨some 27,(.lenS .s (.t 26)),none⟩,
 ⟨some 28,(.bin .neq (.t 25) (.t 27)),none⟩,
 ⟨some 29,(.move (.t 28)),none⟩,
 ⟨some 30,(.move (.t 4)),some (29,false)⟩,
 ⟨some 31,(.lenS .s (.t 30)),some (29,false)⟩,
 ⟨some 32,(.move (.t 0)),some (29,false)⟩,
 ⟨some 33,(.lenS .s (.t 32)),some (29,false)⟩,
 ⟨some 34,(.bin .neq (.t 31) (.t 33)),some (29,false)⟩,
 ⟨some 35,(.pick (.t 29) (.c (.s (.bool true))) (.t 34)),none⟩]
def s_f7_r5_tale:=hT s_f7_r5 [24,25,26,27,28,29,30,31,32,33,34] [35] 36 [] [(35,(.pick (.op (.bin .neq (.t 0) (.t 1)) [(.op (.lenS .s (.t 0)) [(.t 3)]),(.op (.lenS .s (.t 0)) [(.t 0)])]) (.c (.s (.bool true))) (.op (.bin .neq (.t 0) (.t 1)) [(.op (.lenS .s (.t 0)) [(.t 4)]),(.op (.lenS .s (.t 0)) [(.t 0)])])))] [.tt 3,.sub 0 [0,0] [],.tt 0,.sub 0 [0,1] [],.sub 0 [0] [],.sub 0 [0] [],.sub 0 [2,0,0] [29],.sub 0 [2,0] [29],.sub 0 [2,1,0] [29],.sub 0 [2,1] [29],.sub 0 [2] [29],.sub 0 [] []] (by kernel_rfl) (by kernel_rfl)
def s_f7_r6:List AOper:=[
 ⟨some 2,(.move (.c (.s (.bool false)))),none⟩]
def s_f7_r6_tale:=hT s_f7_r6 [0,3,4,35] [2] 3 [] [(2,(.c (.s (.bool false))))] [.cc (.s (.bool false))] (by kernel_rfl) (by kernel_rfl)
def s_f7_r7t2:List AOper:=[⟨some 5,(.move (.t 37)),none⟩]
def s_f7_r7p1:List AOper:=[⟨some 37,(.call (.c (.fn 21 [] [])) [(.t 36)]),none⟩]
def s_f7_r7t1:List AOper:=s_f7_r7p1 ++ s_f7_r7t2
def s_f7_r7p0:List AOper:=[⟨some 36,(.move (.t 0)),none⟩]
def s_f7_r7:List AOper:=s_f7_r7p0 ++ s_f7_r7t1
def s_f7_r7p0_tale:=hT s_f7_r7p0 [35] [36] 37 [] [(36,(.t 0))] [.tt 0] (by kernel_rfl) (by kernel_rfl)
def s_f7_r7_x:=hS s_f7_r7 s_f7_r7p0 s_f7_r7t1 [35] [36] [35,36,37] rfl (by kernel_rfl)
def s_f7_r7t1_x:=hO s_f7_r7t1 s_f7_r7p1 s_f7_r7t2 [36] [35,36,37] [⟨some 37,(.call (.c (.fn 21 [] [])) [(.t 36)]),none⟩] rfl rfl (by kernel_rfl)
def s_f7_r7t2_tale:=hT s_f7_r7t2 [35,36,37] [5] 6 [] [(5,(.t 37))] [.tt 37] (by kernel_rfl) (by kernel_rfl)
def s_f7_r7t2_x:=hL s_f7_r7t2 [35,36,37] [5]
def s_f7_r8:List AOper:=[
 ⟨some 6,(.move (.c (.s (.int .i64 0)))),none⟩]
def s_f7_r8_tale:=hT s_f7_r8 [] [6] 7 [] [(6,(.c (.s (.int .i64 0))))] [.cc (.s (.int .i64 0))] (by kernel_rfl) (by kernel_rfl)
def s_f7_r9:List AOper:=[
 ⟨some 7,(.move (.c (.s (.int .i64 0)))),none⟩]
def s_f7_r9_tale:=hT s_f7_r9 [] [7] 8 [] [(7,(.c (.s (.int .i64 0))))] [.cc (.s (.int .i64 0))] (by kernel_rfl) (by kernel_rfl)
def s_f7_r10:List AOper:=[
 ⟨some 38,(.move (.t 7)),none⟩,
 ⟨some 39,(.move (.t 0)),none⟩,
 ⟨some 40,(.lenS .s (.t 39)),none⟩,
 ⟨some 41,(.bin .lss (.t 38) (.t 40)),none⟩]
def s_f7_r10_tale:=hT s_f7_r10 [38,39,40] [41] 42 [] [(41,(.op (.bin .lss (.t 0) (.t 1)) [(.t 7),(.op (.lenS .s (.t 0)) [(.t 0)])]))] [.tt 7,.tt 0,.sub 0 [1] [],.sub 0 [] []] (by kernel_rfl) (by kernel_rfl)
def s_f7_r11:List AOper:=[
 ⟨some 44,(.move (.t 3)),none⟩,
 ⟨some 45,(.move (.t 7)),none⟩,
 ⟨some 46,(.indexAddr 1 (.t 44) (.t 45)),none⟩,
 ⟨some 47,(.load false 1 (.t 46)),none⟩,
 ⟨some 48,(.move (.t 6)),none⟩,
 ⟨some 49,(.bin .gtr (.t 47) (.t 48)),none⟩,
 ⟨some 50,(.move (.t 49)),none⟩,
 ⟨some 51,(.move (.t 3)),some (50,false)⟩,
 ⟨some 52,(.move (.t 7)),some (50,false)⟩,
 ⟨some 53,(.indexAddr 1 (.t 51) (.t 52)),some (50,false)⟩,
 ⟨some 54,(.load false 1 (.t 53)),some (50,false)⟩,
 ⟨some 55,(.bin .lss (.t 54) (.c (.s (.int .i64 0)))),some (50,false)⟩,
 ⟨some 56,(.pick (.t 50) (.c (.s (.bool true))) (.t 55)),none⟩]
def s_f7_r11_tale:=hT s_f7_r11 [41,44,45,46,47,48,49,50,51,52,53,54,55] [56] 57 [] [(56,(.pick (.op (.bin .gtr (.t 0) (.t 1)) [(.op (.load false 1 (.t 0)) [(.op (.indexAddr 1 (.t 0) (.t 1)) [(.t 3),(.t 7)])]),(.t 6)]) (.c (.s (.bool true))) (.op (.bin .lss (.t 0) (.c (.s (.int .i64 0)))) [(.op (.load false 1 (.t 0)) [(.op (.indexAddr 1 (.t 0) (.t 1)) [(.t 3),(.t 7)])]),(.c (.s (.int .i64 0)))])))] [.tt 3,.tt 7,.sub 0 [0,0,0] [],.sub 0 [0,0] [],.tt 6,.sub 0 [0] [],.sub 0 [0] [],.sub 0 [2,0,0,0] [50],.sub 0 [2,0,0,1] [50],.sub 0 [2,0,0] [50],.sub 0 [2,0] [50],.sub 0 [2] [50],.sub 0 [] []] (by kernel_rfl) (by kernel_rfl)
def s_f7_r12:List AOper:=[
 ⟨some 2,(.move (.c (.s (.bool false)))),none⟩]
def s_f7_r12_tale:=hT s_f7_r12 [0,3,4,5,6,7,56] [2] 3 [] [(2,(.c (.s (.bool false))))] [.cc (.s (.bool false))] (by kernel_rfl) (by kernel_rfl)
def s_f7_r13:List AOper:=[
 ⟨some 57,(.move (.t 3)),none⟩,
 ⟨some 58,(.move (.t 7)),none⟩,
 ⟨some 59,(.indexAddr 1 (.t 57) (.t 58)),none⟩,
 ⟨some 60,(.load false 1 (.t 59)),none⟩,
 ⟨some 61,(.move (.t 6)),none⟩,
 ⟨some 62,(.bin .eql (.t 60) (.t 61)),none⟩]
def s_f7_r13_tale:=hT s_f7_r13 [56,57,58,59,60,61] [62] 63 [] [(62,(.op (.bin .eql (.t 0) (.t 1)) [(.op (.load false 1 (.t 0)) [(.op (.indexAddr 1 (.t 0) (.t 1)) [(.t 3),(.t 7)])]),(.t 6)]))] [.tt 3,.tt 7,.sub 0 [0,0] [],.sub 0 [0] [],.tt 6,.sub 0 [] []] (by kernel_rfl) (by kernel_rfl)
def s_f7_r14:List AOper:=[
 ⟨some 63,(.move (.t 6)),none⟩,
 ⟨some 64,(.bin .add (.t 63) (.c (.s (.int .i64 1)))),none⟩,
 ⟨some 6,(.move (.t 64)),none⟩]
def s_f7_r14_tale:=hT s_f7_r14 [62,63,64] [6] 65 [] [(6,(.op (.bin .add (.t 0) (.c (.s (.int .i64 1)))) [(.t 6),(.c (.s (.int .i64 1)))]))] [.tt 6,.sub 0 [] [],.sub 0 [] []] (by kernel_rfl) (by kernel_rfl)
def s_f7_r15:List AOper:=[
 ⟨some 8,(.move (.c (.s (.bool false)))),none⟩]
def s_f7_r15_tale:=hT s_f7_r15 [62] [8] 9 [] [(8,(.c (.s (.bool false))))] [.cc (.s (.bool false))] (by kernel_rfl) (by kernel_rfl)
def s_f7_r16:List AOper:=[
 ⟨some 9,(.move (.c (.s (.int .i64 0)))),none⟩]
def s_f7_r16_tale:=hT s_f7_r16 [] [9] 10 [] [(9,(.c (.s (.int .i64 0))))] [.cc (.s (.int .i64 0))] (by kernel_rfl) (by kernel_rfl)
def s_f7_r17:List AOper:=[
 ⟨some 65,(.move (.t 9)),none⟩,
 ⟨some 66,(.move (.t 0)),none⟩,
 ⟨some 67,(.lenS .s (.t 66)),none⟩,
 ⟨some 68,(.bin .lss (.t 65) (.t 67)),none⟩]
def s_f7_r17_tale:=hT s_f7_r17 [65,66,67] [68] 69 [] [(68,(.op (.bin .lss (.t 0) (.t 1)) [(.t 9),(.op (.lenS .s (.t 0)) [(.t 0)])]))] [.tt 9,.tt 0,.sub 0 [1] [],.sub 0 [] []] (by kernel_rfl) (by kernel_rfl)
def s_f7_r18t7:List AOper:=[⟨some 80,(.pick (.t 75) (.t 79) (.c (.s (.bool false)))),none⟩,⟨some 10,(.move (.t 80)),none⟩]
def s_f7_r18p6:List AOper:=[⟨some 79,(.call (.c (.fn 23 [] [])) [(.t 76),(.t 77),(.t 78)]),some (75,true)⟩]
def s_f7_r18t6:List AOper:=s_f7_r18p6 ++ s_f7_r18t7
def s_f7_r18p5:List AOper:=[⟨some 78,(.move (.t 7)),some (75,true)⟩]
def s_f7_r18t5:List AOper:=s_f7_r18p5 ++ s_f7_r18t6
def s_f7_r18p4:List AOper:=[⟨some 77,(.move (.t 9)),some (75,true)⟩]
def s_f7_r18t4:List AOper:=s_f7_r18p4 ++ s_f7_r18t5
def s_f7_r18p3:List AOper:=[⟨some 76,(.move (.t 0)),some (75,true)⟩]
def s_f7_r18t3:List AOper:=s_f7_r18p3 ++ s_f7_r18t4
def s_f7_r18p2:List AOper:=[⟨some 75,(.move (.t 74)),none⟩]
def s_f7_r18t2:List AOper:=s_f7_r18p2 ++ s_f7_r18t3
def s_f7_r18p1:List AOper:=[⟨some 74,(.call (.c (.fn 23 [] [])) [(.t 71),(.t 72),(.t 73)]),none⟩]
def s_f7_r18t1:List AOper:=s_f7_r18p1 ++ s_f7_r18t2
def s_f7_r18p0:List AOper:=[⟨some 71,(.move (.t 0)),none⟩,⟨some 72,(.move (.t 7)),none⟩,⟨some 73,(.move (.t 9)),none⟩]
def s_f7_r18:List AOper:=s_f7_r18p0 ++ s_f7_r18t1
def s_f7_r18p0_tale:=hT s_f7_r18p0 [68] [71,72,73] 74 [] [(71,(.t 0)),(72,(.t 7)),(73,(.t 9))] [.tt 0,.tt 7,.tt 9] (by kernel_rfl) (by kernel_rfl)
def s_f7_r18_x:=hS s_f7_r18 s_f7_r18p0 s_f7_r18t1 [68] [71,72,73] [68,71,72,73,74,75,76,77,78,79,80] rfl (by kernel_rfl)
def s_f7_r18t1_x:=hO s_f7_r18t1 s_f7_r18p1 s_f7_r18t2 [71,72,73] [68,71,72,73,74,75,76,77,78,79,80] [⟨some 74,(.call (.c (.fn 23 [] [])) [(.t 71),(.t 72),(.t 73)]),none⟩] rfl rfl (by kernel_rfl)
def s_f7_r18p2_tale:=hT s_f7_r18p2 [74] [75] 76 [] [(75,(.t 74))] [.tt 74] (by kernel_rfl) (by kernel_rfl)
def s_f7_r18t2_x:=hS s_f7_r18t2 s_f7_r18p2 s_f7_r18t3 [74] [75] [68,71,72,73,74,75,76,77,78,79,80] rfl (by kernel_rfl)
def s_f7_r18t3_x:=hO s_f7_r18t3 s_f7_r18p3 s_f7_r18t4 [] [68,71,72,73,74,75,76,77,78,79,80] [⟨some 76,(.move (.t 0)),some (75,true)⟩] rfl rfl (by kernel_rfl)
def s_f7_r18t4_x:=hO s_f7_r18t4 s_f7_r18p4 s_f7_r18t5 [] [68,71,72,73,74,75,76,77,78,79,80] [⟨some 77,(.move (.t 9)),some (75,true)⟩] rfl rfl (by kernel_rfl)
def s_f7_r18t5_x:=hO s_f7_r18t5 s_f7_r18p5 s_f7_r18t6 [] [68,71,72,73,74,75,76,77,78,79,80] [⟨some 78,(.move (.t 7)),some (75,true)⟩] rfl rfl (by kernel_rfl)
def s_f7_r18t6_x:=hO s_f7_r18t6 s_f7_r18p6 s_f7_r18t7 [76,77,78] [68,71,72,73,74,75,76,77,78,79,80] [⟨some 79,(.call (.c (.fn 23 [] [])) [(.t 76),(.t 77),(.t 78)]),some (75,true)⟩] rfl rfl (by kernel_rfl)
def s_f7_r18t7_tale:=hT s_f7_r18t7 [68,71,72,73,74,75,76,77,78,79,80] [10] 81 [] [(10,(.pick (.t 75) (.t 79) (.c (.s (.bool false)))))] [.sub 0 [] [],.sub 0 [] []] (by kernel_rfl) (by kernel_rfl)
def s_f7_r18t7_x:=hL s_f7_r18t7 [68,71,72,73,74,75,76,77,78,79,80] [10]
def s_f7_r19:List AOper:=[
 ⟨some 81,(.move (.t 3)),none⟩,
 ⟨some 82,(.move (.t 7)),none⟩,
 ⟨some 83,(.indexAddr 1 (.t 81) (.t 82)),none⟩,
 ⟨some 84,(.load false 1 (.t 83)),none⟩,
 ⟨some 85,(.move (.t 3)),none⟩,
 ⟨some 86,(.move (.t 9)),none⟩,
 ⟨some 87,(.indexAddr 1 (.t 85) (.t 86)),none⟩,
 ⟨some 88,(.load false 1 (.t 87)),none⟩,
 ⟨some 89,(.bin .eql (.t 84) (.t 88)),none⟩,
 ⟨some 90,(.move (.t 10)),none⟩,
 ⟨some 91,(.eqB true (.t 89) (.t 90)),none⟩]
def s_f7_r19_tale:=hT s_f7_r19 [81,82,83,84,85,86,87,88,89,90] [91] 92 [] [(91,(.op (.eqB true (.t 0) (.t 1)) [(.op (.bin .eql (.t 0) (.t 1)) [(.op (.load false 1 (.t 0)) [(.op (.indexAddr 1 (.t 0) (.t 1)) [(.t 3),(.t 7)])]),(.op (.load false 1 (.t 0)) [(.op (.indexAddr 1 (.t 0) (.t 1)) [(.t 3),(.t 9)])])]),(.t 10)]))] [.tt 3,.tt 7,.sub 0 [0,0,0] [],.sub 0 [0,0] [],.tt 3,.tt 9,.sub 0 [0,1,0] [],.sub 0 [0,1] [],.sub 0 [0] [],.tt 10,.sub 0 [] []] (by kernel_rfl) (by kernel_rfl)
def s_f7_r20:List AOper:=[
 ⟨some 2,(.move (.c (.s (.bool false)))),none⟩]
def s_f7_r20_tale:=hT s_f7_r20 [0,3,4,5,6,7,8,9,10,91] [2] 3 [] [(2,(.c (.s (.bool false))))] [.cc (.s (.bool false))] (by kernel_rfl) (by kernel_rfl)
def s_f7_r21:List AOper:=[
 ⟨some 92,(.move (.t 8)),none⟩,
 ⟨some 93,(.move (.t 92)),none⟩,
 ⟨some 94,(.move (.t 10)),some (93,false)⟩,
 ⟨some 95,(.move (.t 94)),some (93,false)⟩,
 ⟨some 96,(.move (.t 9)),some (95,true)⟩,
 ⟨some 97,(.move (.t 7)),some (95,true)⟩,
 ⟨some 98,(.bin .neq (.t 96) (.t 97)),some (95,true)⟩,
 ⟨some 99,(.pick (.t 95) (.t 98) (.c (.s (.bool false)))),some (93,false)⟩,
 ⟨some 100,(.pick (.t 93) (.c (.s (.bool true))) (.t 99)),none⟩,
 ⟨some 8,(.move (.t 100)),none⟩]
def s_f7_r21_tale:=hT s_f7_r21 [10,91,92,93,94,95,96,97,98,99,100] [8] 101 [] [(8,(.pick (.t 8) (.c (.s (.bool true))) (.pick (.t 10) (.op (.bin .neq (.t 0) (.t 1)) [(.t 9),(.t 7)]) (.c (.s (.bool false))))))] [.tt 8,.tt 8,.sub 0 [2,0] [93],.sub 0 [2,0] [93],.sub 0 [2,1,0] [93,95],.sub 0 [2,1,1] [93,95],.sub 0 [2,1] [93,95],.sub 0 [2] [93],.sub 0 [] [],.sub 0 [] []] (by kernel_rfl) (by kernel_rfl)
def s_f7_r22:List AOper:=[
 ⟨some 69,(.move (.t 9)),none⟩,
 ⟨some 70,(.bin .add (.t 69) (.c (.s (.int .i64 1)))),none⟩,
 ⟨some 9,(.move (.t 70)),none⟩]
def s_f7_r22_tale:=hT s_f7_r22 [69,70] [9] 71 [] [(9,(.op (.bin .add (.t 0) (.c (.s (.int .i64 1)))) [(.t 9),(.c (.s (.int .i64 1)))]))] [.tt 9,.sub 0 [] [],.sub 0 [] []] (by kernel_rfl) (by kernel_rfl)
def s_f7_l0_b:ACode:=
 (.seq (.seq (.regionE s_f7_r17 [65,66,67] [68])
 (.cond (.t 68)
 .skip
 (.exit 2)))
 (.seq (.block 3
 (.seq (.region s_f7_r18 [] [68,71,72,73,74,75,76,77,78,79,80])
 (.seq (.seq (.regionE s_f7_r19 [81,82,83,84,85,86,87,88,89,90] [91])
 (.cond (.t 91)
 (.seq (.regionE s_f7_r20 [0,3,4,5,6,7,8,9,10,91] [2])
 .ret)
 .skip))
 (.regionE s_f7_r21 [10,91,92,93,94,95,96,97,98,99,100] [8]))))
 (.regionE s_f7_r22 [69,70] [9])))
def s_f7_l0:ACode:=s_f7_l0_b
def s_f7_l0_ev:=hE s_f7_l0 s_f7_l0_b rfl
def s_f7_r23:List AOper:=[
 ⟨some 11,(.move (.c (.s (.int .i64 0)))),none⟩]
def s_f7_r23_tale:=hT s_f7_r23 [9,68] [11] 12 [] [(11,(.c (.s (.int .i64 0))))] [.cc (.s (.int .i64 0))] (by kernel_rfl) (by kernel_rfl)
def s_f7_r24:List AOper:=[
 ⟨some 101,(.move (.t 11)),none⟩,
 ⟨some 102,(.move (.t 5)),none⟩,
 ⟨some 103,(.move (.t 7)),none⟩,
 ⟨some 104,(.indexAddr 1 (.t 102) (.t 103)),none⟩,
 ⟨some 105,(.load false 1 (.t 104)),none⟩,
 ⟨some 106,(.lenS .s (.t 105)),none⟩,
 ⟨some 107,(.bin .lss (.t 101) (.t 106)),none⟩]
def s_f7_r24_tale:=hT s_f7_r24 [101,102,103,104,105,106] [107] 108 [] [(107,(.op (.bin .lss (.t 0) (.t 1)) [(.t 11),(.op (.lenS .s (.t 0)) [(.op (.load false 1 (.t 0)) [(.op (.indexAddr 1 (.t 0) (.t 1)) [(.t 5),(.t 7)])])])]))] [.tt 11,.tt 5,.tt 7,.sub 0 [1,0,0] [],.sub 0 [1,0] [],.sub 0 [1] [],.sub 0 [] []] (by kernel_rfl) (by kernel_rfl)
def s_f7_r25:List AOper:=[
 ⟨some 110,(.move (.t 8)),none⟩,
 ⟨some 111,(.move (.t 110)),none⟩,
 ⟨some 112,(.move (.t 5)),some (111,false)⟩,
 ⟨some 113,(.move (.t 7)),some (111,false)⟩,
 ⟨some 114,(.indexAddr 1 (.t 112) (.t 113)),some (111,false)⟩,
 ⟨some 115,(.load false 1 (.t 114)),some (111,false)⟩,
 ⟨some 116,(.move (.t 11)),some (111,false)⟩,
 ⟨some 117,(.indexAddr 1 (.t 115) (.t 116)),some (111,false)⟩,
 ⟨some 118,(.load false 1 (.t 117)),some (111,false)⟩,
 ⟨some 119,(.move (.t 7)),some (111,false)⟩,
 ⟨some 120,(.bin .eql (.t 118) (.t 119)),some (111,false)⟩,
 ⟨some 121,(.pick (.t 111) (.c (.s (.bool true))) (.t 120)),none⟩,
 ⟨some 8,(.move (.t 121)),none⟩]
def s_f7_r25_tale:=hT s_f7_r25 [107,110,111,112,113,114,115,116,117,118,119,120,121] [8] 122 [] [(8,(.pick (.t 8) (.c (.s (.bool true))) (.op (.bin .eql (.t 0) (.t 1)) [(.op (.load false 1 (.t 0)) [(.op (.indexAddr 1 (.t 0) (.t 1)) [(.op (.load false 1 (.t 0)) [(.op (.indexAddr 1 (.t 0) (.t 1)) [(.t 5),(.t 7)])]),(.t 11)])]),(.t 7)])))] [.tt 8,.tt 8,.sub 0 [2,0,0,0,0,0] [111],.sub 0 [2,0,0,0,0,1] [111],.sub 0 [2,0,0,0,0] [111],.sub 0 [2,0,0,0] [111],.sub 0 [2,0,0,1] [111],.sub 0 [2,0,0] [111],.sub 0 [2,0] [111],.sub 0 [2,0,0,0,0,1] [111],.sub 0 [2] [111],.sub 0 [] [],.sub 0 [] []] (by kernel_rfl) (by kernel_rfl)
def s_f7_r26:List AOper:=[
 ⟨some 108,(.move (.t 11)),none⟩,
 ⟨some 109,(.bin .add (.t 108) (.c (.s (.int .i64 1)))),none⟩,
 ⟨some 11,(.move (.t 109)),none⟩]
def s_f7_r26_tale:=hT s_f7_r26 [108,109] [11] 110 [] [(11,(.op (.bin .add (.t 0) (.c (.s (.int .i64 1)))) [(.t 11),(.c (.s (.int .i64 1)))]))] [.tt 11,.sub 0 [] [],.sub 0 [] []] (by kernel_rfl) (by kernel_rfl)
def s_f7_l1_b:ACode:=
 (.seq (.seq (.regionE s_f7_r24 [101,102,103,104,105,106] [107])
 (.cond (.t 107)
 .skip
 (.exit 4)))
 (.seq (.block 5
 (.regionE s_f7_r25 [107,110,111,112,113,114,115,116,117,118,119,120,121] [8]))
 (.regionE s_f7_r26 [108,109] [11])))
def s_f7_l1:ACode:=s_f7_l1_b
def s_f7_l1_ev:=hE s_f7_l1 s_f7_l1_b rfl
def s_f7_r27:List AOper:=[
 ⟨some 122,(.move (.t 4)),none⟩,
 ⟨some 123,(.move (.t 7)),none⟩,
 ⟨some 124,(.indexAddr 1 (.t 122) (.t 123)),none⟩,
 ⟨some 125,(.load false 1 (.t 124)),none⟩,
 ⟨some 126,(.move (.t 8)),none⟩,
 ⟨some 127,(.eqB true (.t 125) (.t 126)),none⟩]
def s_f7_r27_tale:=hT s_f7_r27 [8,11,107,122,123,124,125,126] [127] 128 [] [(127,(.op (.eqB true (.t 0) (.t 1)) [(.op (.load false 1 (.t 0)) [(.op (.indexAddr 1 (.t 0) (.t 1)) [(.t 4),(.t 7)])]),(.t 8)]))] [.tt 4,.tt 7,.sub 0 [0,0] [],.sub 0 [0] [],.tt 8,.sub 0 [] []] (by kernel_rfl) (by kernel_rfl)
def s_f7_r28:List AOper:=[
 ⟨some 2,(.move (.c (.s (.bool false)))),none⟩]
def s_f7_r28_tale:=hT s_f7_r28 [0,3,4,5,6,7,127] [2] 3 [] [(2,(.c (.s (.bool false))))] [.cc (.s (.bool false))] (by kernel_rfl) (by kernel_rfl)
def s_f7_r29:List AOper:=[
 ⟨some 42,(.move (.t 7)),none⟩,
 ⟨some 43,(.bin .add (.t 42) (.c (.s (.int .i64 1)))),none⟩,
 ⟨some 7,(.move (.t 43)),none⟩]
def s_f7_r29_tale:=hT s_f7_r29 [42,43,127] [7] 44 [] [(7,(.op (.bin .add (.t 0) (.c (.s (.int .i64 1)))) [(.t 7),(.c (.s (.int .i64 1)))]))] [.tt 7,.sub 0 [] [],.sub 0 [] []] (by kernel_rfl) (by kernel_rfl)
def s_f7_l2_b:ACode:=
 (.seq (.seq (.regionE s_f7_r10 [38,39,40] [41])
 (.cond (.t 41)
 .skip
 (.exit 0)))
 (.seq (.block 1
 (.seq (.seq (.regionE s_f7_r11 [41,44,45,46,47,48,49,50,51,52,53,54,55] [56])
 (.cond (.t 56)
 (.seq (.regionE s_f7_r12 [0,3,4,5,6,7,56] [2])
 .ret)
 .skip))
 (.seq (.seq (.regionE s_f7_r13 [56,57,58,59,60,61] [62])
 (.cond (.t 62)
 (.regionE s_f7_r14 [62,63,64] [6])
 .skip))
 (.seq (.regionE s_f7_r15 [62] [8])
 (.seq (.seq (.regionE s_f7_r16 [] [9])
 (.block 2
 (.loop [] s_f7_l0)))
 (.seq (.seq (.regionE s_f7_r23 [9,68] [11])
 (.block 4
 (.loop [] s_f7_l1)))
 (.seq (.regionE s_f7_r27 [8,11,107,122,123,124,125,126] [127])
 (.cond (.t 127)
 (.seq (.regionE s_f7_r28 [0,3,4,5,6,7,127] [2])
 .ret)
 .skip))))))))
 (.regionE s_f7_r29 [42,43,127] [7])))
def s_f7_l2:ACode:=s_f7_l2_b
def s_f7_l2_ev:=hE s_f7_l2 s_f7_l2_b rfl
def s_f7_r30t1:List AOper:=[⟨some 2,(.move (.t 128)),none⟩]
def s_f7_r30p0:List AOper:=[⟨some 128,(.call (.c (.fn 9 [] [])) []),none⟩]
def s_f7_r30:List AOper:=s_f7_r30p0 ++ s_f7_r30t1
def s_f7_r30_x:=hO s_f7_r30 s_f7_r30p0 s_f7_r30t1 [0,3,4,5,6,7,41] [0,3,4,5,6,7,41,128] [⟨some 128,(.call (.c (.fn 9 [] [])) []),none⟩] rfl rfl (by kernel_rfl)
def s_f7_r30t1_tale:=hT s_f7_r30t1 [0,3,4,5,6,7,41,128] [2] 3 [] [(2,(.t 128))] [.tt 128] (by kernel_rfl) (by kernel_rfl)
def s_f7_r30t1_x:=hL s_f7_r30t1 [0,3,4,5,6,7,41,128] [2]
def s_f7:ACFun:={ ntmps:=129,results:=[(.tmp 2)],body:=
 (.seq (.regionE s_f7_r0 s_f7_r0_k [])
 (.seq (.seq (.region s_f7_r1 [] [12,13,14,15,16,17])
 (.cond (.t 18)
 (.seq (.region s_f7_r2 [] [0,18,19])
 .ret)
 .skip))
 (.seq (.region s_f7_r3 [] [18,20,21])
 (.seq (.region s_f7_r4 [] [22,23])
 (.seq (.seq (.regionE s_f7_r5 [24,25,26,27,28,29,30,31,32,33,34] [35])
 (.cond (.t 35)
 (.seq (.regionE s_f7_r6 [0,3,4,35] [2])
 .ret)
 .skip))
 (.seq (.region s_f7_r7 [] [35,36,37])
 (.seq (.regionE s_f7_r8 [] [6])
 (.seq (.seq (.regionE s_f7_r9 [] [7])
 (.block 0
 (.loop [] s_f7_l2)))
 (.seq (.region s_f7_r30 [] [0,3,4,5,6,7,41,128])
 .ret))))))))) }
abbrev k_f8:Nat:=8
def s_f8_r0_k:List Nat:=[1,2,3,4,5,6,7,8,9,10,11,12,13,14,15,16,17,18]
theorem s_f8_r0_kT:killV s_f8_r0_k (startV 19 [] 1)=[]:=by kernel_rfl
theorem s_f8_r0_kA0:s_f8_r0_k.contains 0=false:=by kernel_rfl
def s_f8_r0:List AOper:=[
 ⟨some 2,(.move (.c (.s (.bool false)))),none⟩]
def s_f8_r0_tale:=hT s_f8_r0 s_f8_r0_k [] 3 [] [] [.cc (.s (.bool false))] (by kernel_rfl) (by kernel_rfl)
def s_f8_r1:List AOper:=[
 ⟨some 4,(.move (.t 0)),none⟩,
 ⟨some 5,(.lenS .s (.t 4)),none⟩,
 ⟨some 6,(.bin .gtr (.t 5) (.c (.s (.int .i64 60)))),none⟩]
def s_f8_r1_tale:=hT s_f8_r1 [4,5] [6] 7 [] [(6,(.op (.bin .gtr (.t 0) (.c (.s (.int .i64 60)))) [(.op (.lenS .s (.t 0)) [(.t 0)]),(.c (.s (.int .i64 60)))]))] [.tt 0,.sub 0 [0] [],.sub 0 [] []] (by kernel_rfl) (by kernel_rfl)
def s_f8_r2:List AOper:=[
 ⟨some 2,(.move (.c (.s (.bool true)))),none⟩]
def s_f8_r2_tale:=hT s_f8_r2 [0,6] [2] 3 [] [(2,(.c (.s (.bool true))))] [.cc (.s (.bool true))] (by kernel_rfl) (by kernel_rfl)
def s_f8_r3:List AOper:=[
 ⟨some 3,(.move (.c (.s (.int .i64 0)))),none⟩]
def s_f8_r3_tale:=hT s_f8_r3 [6] [3] 4 [] [(3,(.c (.s (.int .i64 0))))] [.cc (.s (.int .i64 0))] (by kernel_rfl) (by kernel_rfl)
def s_f8_r4:List AOper:=[
 ⟨some 7,(.move (.t 3)),none⟩,
 ⟨some 8,(.move (.t 0)),none⟩,
 ⟨some 9,(.lenS .s (.t 8)),none⟩,
 ⟨some 10,(.bin .lss (.t 7) (.t 9)),none⟩]
def s_f8_r4_tale:=hT s_f8_r4 [7,8,9] [10] 11 [] [(10,(.op (.bin .lss (.t 0) (.t 1)) [(.t 3),(.op (.lenS .s (.t 0)) [(.t 0)])]))] [.tt 3,.tt 0,.sub 0 [1] [],.sub 0 [] []] (by kernel_rfl) (by kernel_rfl)
def s_f8_r5:List AOper:=[
 ⟨some 13,(.move (.t 0)),none⟩,
 ⟨some 14,(.move (.t 3)),none⟩,
 ⟨some 15,(.indexAddr 1 (.t 13) (.t 14)),none⟩,
 ⟨some 16,(.load false 1 (.t 15)),none⟩,
 ⟨some 17,(.lenS .s (.t 16)),none⟩,
 ⟨some 18,(.bin .gtr (.t 17) (.c (.s (.int .i64 60)))),none⟩]
def s_f8_r5_tale:=hT s_f8_r5 [10,13,14,15,16,17] [18] 19 [] [(18,(.op (.bin .gtr (.t 0) (.c (.s (.int .i64 60)))) [(.op (.lenS .s (.t 0)) [(.op (.load false 1 (.t 0)) [(.op (.indexAddr 1 (.t 0) (.t 1)) [(.t 0),(.t 3)])])]),(.c (.s (.int .i64 60)))]))] [.tt 0,.tt 3,.sub 0 [0,0,0] [],.sub 0 [0,0] [],.sub 0 [0] [],.sub 0 [] []] (by kernel_rfl) (by kernel_rfl)
def s_f8_r6:List AOper:=[
 ⟨some 2,(.move (.c (.s (.bool true)))),none⟩]
def s_f8_r6_tale:=hT s_f8_r6 [0,3,18] [2] 3 [] [(2,(.c (.s (.bool true))))] [.cc (.s (.bool true))] (by kernel_rfl) (by kernel_rfl)
def s_f8_r7:List AOper:=[
 ⟨some 11,(.move (.t 3)),none⟩,
 ⟨some 12,(.bin .add (.t 11) (.c (.s (.int .i64 1)))),none⟩,
 ⟨some 3,(.move (.t 12)),none⟩]
def s_f8_r7_tale:=hT s_f8_r7 [11,12,18] [3] 13 [] [(3,(.op (.bin .add (.t 0) (.c (.s (.int .i64 1)))) [(.t 3),(.c (.s (.int .i64 1)))]))] [.tt 3,.sub 0 [] [],.sub 0 [] []] (by kernel_rfl) (by kernel_rfl)
def s_f8_l0_b:ACode:=
 (.seq (.seq (.regionE s_f8_r4 [7,8,9] [10])
 (.cond (.t 10)
 .skip
 (.exit 0)))
 (.seq (.block 1
 (.seq (.regionE s_f8_r5 [10,13,14,15,16,17] [18])
 (.cond (.t 18)
 (.seq (.regionE s_f8_r6 [0,3,18] [2])
 .ret)
 .skip)))
 (.regionE s_f8_r7 [11,12,18] [3])))
def s_f8_l0:ACode:=s_f8_l0_b
def s_f8_l0_ev:=hE s_f8_l0 s_f8_l0_b rfl
def s_f8_r8:List AOper:=[
 ⟨some 2,(.move (.c (.s (.bool false)))),none⟩]
def s_f8_r8_tale:=hT s_f8_r8 [0,3,10] [2] 3 [] [(2,(.c (.s (.bool false))))] [.cc (.s (.bool false))] (by kernel_rfl) (by kernel_rfl)
def s_f8:ACFun:={ ntmps:=19,results:=[(.tmp 2)],body:=
 (.seq (.regionE s_f8_r0 s_f8_r0_k [])
 (.seq (.seq (.regionE s_f8_r1 [4,5] [6])
 (.cond (.t 6)
 (.seq (.regionE s_f8_r2 [0,6] [2])
 .ret)
 .skip))
 (.seq (.seq (.regionE s_f8_r3 [6] [3])
 (.block 0
 (.loop [] s_f8_l0)))
 (.seq (.regionE s_f8_r8 [0,3,10] [2])
 .ret)))) }
abbrev k_f14:Nat:=14
def s_f14_r0_k:List Nat:=[1,2,3,4,5,6,7,8,9,10,11,12,13,14,15,16,17,18,19,20,21,22,23,24,25,26,27,28,29,30,31,32,33,34,35,36,37,38,39,40,41,42,43,44,45,46,47,48,49,50,51,52,53,54,55]
theorem s_f14_r0_kT:killV s_f14_r0_k (startV 56 [] 1)=[]:=by kernel_rfl
theorem s_f14_r0_kA0:s_f14_r0_k.contains 0=false:=by kernel_rfl
def s_f14_r0:List AOper:=[
 ⟨some 2,(.move (.c (.s (.slice none 0 0)))),none⟩]
def s_f14_r0_tale:=hT s_f14_r0 s_f14_r0_k [] 3 [] [] [.cc (.s (.slice none 0 0))] (by kernel_rfl) (by kernel_rfl)
def s_f14_r1t2:List AOper:=[⟨some 3,(.move (.t 11)),none⟩]
def s_f14_r1p1:List AOper:=[⟨some 11,(.call (.c (.fn 11 [] [])) [(.t 10)]),none⟩]
def s_f14_r1t1:List AOper:=s_f14_r1p1 ++ s_f14_r1t2
def s_f14_r1p0:List AOper:=[⟨some 10,(.move (.t 0)),none⟩]
def s_f14_r1:List AOper:=s_f14_r1p0 ++ s_f14_r1t1
def s_f14_r1p0_tale:=hT s_f14_r1p0 [] [10] 11 [] [(10,(.t 0))] [.tt 0] (by kernel_rfl) (by kernel_rfl)
def s_f14_r1_x:=hS s_f14_r1 s_f14_r1p0 s_f14_r1t1 [] [10] [10,11] rfl (by kernel_rfl)
def s_f14_r1t1_x:=hO s_f14_r1t1 s_f14_r1p1 s_f14_r1t2 [10] [10,11] [⟨some 11,(.call (.c (.fn 11 [] [])) [(.t 10)]),none⟩] rfl rfl (by kernel_rfl)
def s_f14_r1t2_tale:=hT s_f14_r1t2 [10,11] [3] 4 [] [(3,(.t 11))] [.tt 11] (by kernel_rfl) (by kernel_rfl)
def s_f14_r1t2_x:=hL s_f14_r1t2 [10,11] [3]
def s_f14_r2t3:List AOper:=[⟨some 4,(.move (.t 14)),none⟩]
def s_f14_r2p2:List AOper:=[⟨some 14,(.mkSl [(.s (.int .i64 0))] 1 8 (.t 13) (.t 13)),none⟩]
def s_f14_r2t2:List AOper:=s_f14_r2p2 ++ s_f14_r2t3
def s_f14_r2p1:List AOper:=[⟨some 13,(.call (.c (.fn 29 [] [])) [(.t 12)]),none⟩]
def s_f14_r2t1:List AOper:=s_f14_r2p1 ++ s_f14_r2t2
def s_f14_r2p0:List AOper:=[⟨some 12,(.move (.t 3)),none⟩]
def s_f14_r2:List AOper:=s_f14_r2p0 ++ s_f14_r2t1
def s_f14_r2p0_tale:=hT s_f14_r2p0 [] [12] 13 [] [(12,(.t 3))] [.tt 3] (by kernel_rfl) (by kernel_rfl)
def s_f14_r2_x:=hS s_f14_r2 s_f14_r2p0 s_f14_r2t1 [] [12] [12,13,14] rfl (by kernel_rfl)
def s_f14_r2t1_x:=hO s_f14_r2t1 s_f14_r2p1 s_f14_r2t2 [12] [12,13,14] [⟨some 13,(.call (.c (.fn 29 [] [])) [(.t 12)]),none⟩] rfl rfl (by kernel_rfl)
def s_f14_r2t2_x:=hO s_f14_r2t2 s_f14_r2p2 s_f14_r2t3 [13] [12,13,14] [⟨some 14,(.mkSl [(.s (.int .i64 0))] 1 8 (.t 13) (.t 13)),none⟩] rfl rfl (by kernel_rfl)
def s_f14_r2t3_tale:=hT s_f14_r2t3 [12,13,14] [4] 5 [] [(4,(.t 14))] [.tt 14] (by kernel_rfl) (by kernel_rfl)
def s_f14_r2t3_x:=hL s_f14_r2t3 [12,13,14] [4]
def s_f14_r3:List AOper:=[
 ⟨some 15,(.move (.t 3)),none⟩,
 ⟨some 16,(.lenS .s (.t 15)),none⟩,
 ⟨some 17,(.move (.c (.s (.int .i64 0)))),none⟩]
def s_f14_r3_tale:=hT s_f14_r3 [] [15,16,17] 18 [] [(15,(.t 3)),(16,(.op (.lenS .s (.t 0)) [(.t 3)])),(17,(.c (.s (.int .i64 0))))] [.tt 3,.sub 1 [] [],.cc (.s (.int .i64 0))] (by kernel_rfl) (by kernel_rfl)
def s_f14_r4:List AOper:=[
 ⟨some 18,(.bin .lss (.t 17) (.t 16)),none⟩]
def s_f14_r4_tale:=hT s_f14_r4 [] [18] 19 [] [(18,(.op (.bin .lss (.t 0) (.t 1)) [(.t 17),(.t 16)]))] [.sub 0 [] []] (by kernel_rfl) (by kernel_rfl)
def s_f14_r5:List AOper:=[
 ⟨some 19,(.indexAddr 1 (.t 15) (.t 17)),none⟩,
 ⟨some 20,(.load false 1 (.t 19)),none⟩,
 ⟨some 6,(.move (.t 20)),none⟩]
def s_f14_r5_tale:=hT s_f14_r5 [18,19,20] [6] 21 [] [(6,(.op (.load false 1 (.t 0)) [(.op (.indexAddr 1 (.t 0) (.t 1)) [(.t 15),(.t 17)])]))] [.sub 0 [0] [],.sub 0 [] [],.sub 0 [] []] (by kernel_rfl) (by kernel_rfl)
def s_f14_r6t1:List AOper:=[⟨none,(.store 1 (.t 26) (.t 25)),none⟩]
def s_f14_r6p0:List AOper:=[⟨some 21,(.move (.t 4)),none⟩,⟨some 22,(.move (.t 6)),none⟩,⟨some 23,(.indexAddr 1 (.t 21) (.t 22)),none⟩,⟨some 24,(.load false 1 (.t 23)),none⟩,⟨some 25,(.bin .add (.t 24) (.c (.s (.int .i64 1)))),none⟩,⟨some 26,(.indexAddr 1 (.t 21) (.t 22)),none⟩]
def s_f14_r6:List AOper:=s_f14_r6p0 ++ s_f14_r6t1
def s_f14_r6p0_tale:=hT s_f14_r6p0 [6,21,22,23,24] [25,26] 27 [] [(25,(.op (.bin .add (.t 0) (.c (.s (.int .i64 1)))) [(.op (.load false 1 (.t 0)) [(.op (.indexAddr 1 (.t 0) (.t 1)) [(.t 4),(.t 6)])]),(.c (.s (.int .i64 1)))])),(26,(.op (.indexAddr 1 (.t 0) (.t 1)) [(.t 4),(.t 6)]))] [.tt 4,.tt 6,.sub 0 [0,0] [],.sub 0 [0] [],.sub 0 [] [],.sub 0 [0,0] []] (by kernel_rfl) (by kernel_rfl)
def s_f14_r6_x:=hS s_f14_r6 s_f14_r6p0 s_f14_r6t1 [6,21,22,23,24] [25,26] [6,21,22,23,24,25,26] rfl (by kernel_rfl)
def s_f14_r6t1_x:=hX s_f14_r6t1 [6,21,22,23,24,25,26] [⟨none,(.store 1 (.t 26) (.t 25)),none⟩] rfl
def s_f14_r7:List AOper:=[
 ⟨some 27,(.bin .add (.t 17) (.c (.s (.int .i64 1)))),none⟩,
 ⟨some 17,(.move (.t 27)),none⟩]
def s_f14_r7_tale:=hT s_f14_r7 [27] [17] 28 [] [(17,(.op (.bin .add (.t 0) (.c (.s (.int .i64 1)))) [(.t 17),(.c (.s (.int .i64 1)))]))] [.sub 0 [] [],.sub 0 [] []] (by kernel_rfl) (by kernel_rfl)
def s_f14_l0_b:ACode:=
 (.seq (.regionE s_f14_r4 [] [18])
 (.seq (.cond (.t 18)
 .skip
 (.exit 0))
 (.seq (.block 1
 (.seq (.regionE s_f14_r5 [18,19,20] [6])
 (.region s_f14_r6 [] [6,21,22,23,24,25,26])))
 (.regionE s_f14_r7 [27] [17]))))
def s_f14_l0:ACode:=s_f14_l0_b
def s_f14_l0_ev:=hE s_f14_l0 s_f14_l0_b rfl
def s_f14_r8t2:List AOper:=[⟨some 7,(.move (.t 30)),none⟩]
def s_f14_r8p1:List AOper:=[⟨some 30,(.mkSl [(.s (.bool false))] 1 1 (.t 29) (.t 29)),none⟩]
def s_f14_r8t1:List AOper:=s_f14_r8p1 ++ s_f14_r8t2
def s_f14_r8p0:List AOper:=[⟨some 28,(.move (.t 0)),none⟩,⟨some 29,(.lenS .s (.t 28)),none⟩]
def s_f14_r8:List AOper:=s_f14_r8p0 ++ s_f14_r8t1
def s_f14_r8p0_tale:=hT s_f14_r8p0 [15,16,17,18,28] [29] 30 [] [(29,(.op (.lenS .s (.t 0)) [(.t 0)]))] [.tt 0,.sub 0 [] []] (by kernel_rfl) (by kernel_rfl)
def s_f14_r8_x:=hS s_f14_r8 s_f14_r8p0 s_f14_r8t1 [15,16,17,18,28] [29] [15,16,17,18,28,29,30] rfl (by kernel_rfl)
def s_f14_r8t1_x:=hO s_f14_r8t1 s_f14_r8p1 s_f14_r8t2 [29] [15,16,17,18,28,29,30] [⟨some 30,(.mkSl [(.s (.bool false))] 1 1 (.t 29) (.t 29)),none⟩] rfl rfl (by kernel_rfl)
def s_f14_r8t2_tale:=hT s_f14_r8t2 [15,16,17,18,28,29,30] [7] 8 [] [(7,(.t 30))] [.tt 30] (by kernel_rfl) (by kernel_rfl)
def s_f14_r8t2_x:=hL s_f14_r8t2 [15,16,17,18,28,29,30] [7]
def s_f14_r9:List AOper:=[
 ⟨some 31,(.move (.t 3)),none⟩,
 ⟨some 32,(.lenS .s (.t 31)),none⟩,
 ⟨some 33,(.move (.c (.s (.int .i64 0)))),none⟩]
def s_f14_r9_tale:=hT s_f14_r9 [3] [31,32,33] 34 [] [(31,(.t 3)),(32,(.op (.lenS .s (.t 0)) [(.t 3)])),(33,(.c (.s (.int .i64 0))))] [.tt 3,.sub 1 [] [],.cc (.s (.int .i64 0))] (by kernel_rfl) (by kernel_rfl)
def s_f14_r10:List AOper:=[
 ⟨some 34,(.bin .lss (.t 33) (.t 32)),none⟩]
def s_f14_r10_tale:=hT s_f14_r10 [] [34] 35 [] [(34,(.op (.bin .lss (.t 0) (.t 1)) [(.t 33),(.t 32)]))] [.sub 0 [] []] (by kernel_rfl) (by kernel_rfl)
def s_f14_r11:List AOper:=[
 ⟨some 35,(.move (.t 33)),none⟩,
 ⟨some 36,(.indexAddr 1 (.t 31) (.t 33)),none⟩,
 ⟨some 37,(.load false 1 (.t 36)),none⟩,
 ⟨some 8,(.move (.t 35)),none⟩,
 ⟨some 9,(.move (.t 37)),none⟩]
def s_f14_r11_tale:=hT s_f14_r11 [34,35,36,37] [8,9] 38 [] [(8,(.t 33)),(9,(.op (.load false 1 (.t 0)) [(.op (.indexAddr 1 (.t 0) (.t 1)) [(.t 31),(.t 33)])]))] [.tt 33,.sub 1 [0] [],.sub 1 [] [],.tt 33,.sub 1 [] []] (by kernel_rfl) (by kernel_rfl)
def s_f14_r12t8:List AOper:=[⟨none,(.store 1 (.t 53) (.t 52)),none⟩]
def s_f14_r12p7:List AOper:=[⟨some 52,(.pick (.t 45) (.c (.s (.bool true))) (.t 51)),none⟩,⟨some 53,(.indexAddr 1 (.t 38) (.t 39)),none⟩]
def s_f14_r12t7:List AOper:=s_f14_r12p7 ++ s_f14_r12t8
def s_f14_r12p6:List AOper:=[⟨some 51,(.call (.c (.fn 30 [] [])) [(.t 49),(.t 50)]),some (45,false)⟩]
def s_f14_r12t6:List AOper:=s_f14_r12p6 ++ s_f14_r12t7
def s_f14_r12p5:List AOper:=[⟨some 50,(.move (.t 8)),some (45,false)⟩]
def s_f14_r12t5:List AOper:=s_f14_r12p5 ++ s_f14_r12t6
def s_f14_r12p4:List AOper:=[⟨some 49,(.load false 1 (.t 48)),some (45,false)⟩]
def s_f14_r12t4:List AOper:=s_f14_r12p4 ++ s_f14_r12t5
def s_f14_r12p3:List AOper:=[⟨some 48,(.indexAddr 1 (.t 46) (.t 47)),some (45,false)⟩]
def s_f14_r12t3:List AOper:=s_f14_r12p3 ++ s_f14_r12t4
def s_f14_r12p2:List AOper:=[⟨some 47,(.move (.t 8)),some (45,false)⟩]
def s_f14_r12t2:List AOper:=s_f14_r12p2 ++ s_f14_r12t3
def s_f14_r12p1:List AOper:=[⟨some 46,(.move (.t 0)),some (45,false)⟩]
def s_f14_r12t1:List AOper:=s_f14_r12p1 ++ s_f14_r12t2
def s_f14_r12p0:List AOper:=[⟨some 38,(.move (.t 7)),none⟩,⟨some 39,(.move (.t 8)),none⟩,⟨some 40,(.move (.t 4)),none⟩,⟨some 41,(.move (.t 9)),none⟩,⟨some 42,(.indexAddr 1 (.t 40) (.t 41)),none⟩,⟨some 43,(.load false 1 (.t 42)),none⟩,⟨some 44,(.bin .gtr (.t 43) (.c (.s (.int .i64 1)))),none⟩,⟨some 45,(.move (.t 44)),none⟩]
def s_f14_r12:List AOper:=s_f14_r12p0 ++ s_f14_r12t1
def s_f14_r12p0_tale:=hT s_f14_r12p0 [9,40,41,42,43,44] [38,39,45] 46 [] [(38,(.t 7)),(39,(.t 8)),(45,(.op (.bin .gtr (.t 0) (.c (.s (.int .i64 1)))) [(.op (.load false 1 (.t 0)) [(.op (.indexAddr 1 (.t 0) (.t 1)) [(.t 4),(.t 9)])]),(.c (.s (.int .i64 1)))]))] [.tt 7,.tt 8,.tt 4,.tt 9,.sub 2 [0,0] [],.sub 2 [0] [],.sub 2 [] [],.sub 2 [] []] (by kernel_rfl) (by kernel_rfl)
def s_f14_r12_x:=hS s_f14_r12 s_f14_r12p0 s_f14_r12t1 [9,40,41,42,43,44] [38,39,45] [8,9,38,39,40,41,42,43,44,45,46,47,48,49,50,51,52,53] rfl (by kernel_rfl)
def s_f14_r12t1_x:=hO s_f14_r12t1 s_f14_r12p1 s_f14_r12t2 [] [8,9,38,39,40,41,42,43,44,45,46,47,48,49,50,51,52,53] [⟨some 46,(.move (.t 0)),some (45,false)⟩] rfl rfl (by kernel_rfl)
def s_f14_r12t2_x:=hO s_f14_r12t2 s_f14_r12p2 s_f14_r12t3 [] [8,9,38,39,40,41,42,43,44,45,46,47,48,49,50,51,52,53] [⟨some 47,(.move (.t 8)),some (45,false)⟩] rfl rfl (by kernel_rfl)
def s_f14_r12t3_x:=hO s_f14_r12t3 s_f14_r12p3 s_f14_r12t4 [46,47] [8,9,38,39,40,41,42,43,44,45,46,47,48,49,50,51,52,53] [⟨some 48,(.indexAddr 1 (.t 46) (.t 47)),some (45,false)⟩] rfl rfl (by kernel_rfl)
def s_f14_r12t4_x:=hO s_f14_r12t4 s_f14_r12p4 s_f14_r12t5 [48] [8,9,38,39,40,41,42,43,44,45,46,47,48,49,50,51,52,53] [⟨some 49,(.load false 1 (.t 48)),some (45,false)⟩] rfl rfl (by kernel_rfl)
def s_f14_r12t5_x:=hO s_f14_r12t5 s_f14_r12p5 s_f14_r12t6 [8] [8,9,38,39,40,41,42,43,44,45,46,47,48,49,50,51,52,53] [⟨some 50,(.move (.t 8)),some (45,false)⟩] rfl rfl (by kernel_rfl)
def s_f14_r12t6_x:=hO s_f14_r12t6 s_f14_r12p6 s_f14_r12t7 [49,50] [8,9,38,39,40,41,42,43,44,45,46,47,48,49,50,51,52,53] [⟨some 51,(.call (.c (.fn 30 [] [])) [(.t 49),(.t 50)]),some (45,false)⟩] rfl rfl (by kernel_rfl)
def s_f14_r12p7_tale:=hT s_f14_r12p7 [38,39,45,51] [52,53] 54 [] [(52,(.pick (.t 45) (.c (.s (.bool true))) (.t 51))),(53,(.op (.indexAddr 1 (.t 0) (.t 1)) [(.t 38),(.t 39)]))] [.sub 0 [] [],.sub 1 [] []] (by kernel_rfl) (by kernel_rfl)
def s_f14_r12t7_x:=hS s_f14_r12t7 s_f14_r12p7 s_f14_r12t8 [38,39,45,51] [52,53] [8,9,38,39,40,41,42,43,44,45,46,47,48,49,50,51,52,53] rfl (by kernel_rfl)
def s_f14_r12t8_x:=hX s_f14_r12t8 [8,9,38,39,40,41,42,43,44,45,46,47,48,49,50,51,52,53] [⟨none,(.store 1 (.t 53) (.t 52)),none⟩] rfl
def s_f14_r13:List AOper:=[
 ⟨some 54,(.bin .add (.t 33) (.c (.s (.int .i64 1)))),none⟩,
 ⟨some 33,(.move (.t 54)),none⟩]
def s_f14_r13_tale:=hT s_f14_r13 [54] [33] 55 [] [(33,(.op (.bin .add (.t 0) (.c (.s (.int .i64 1)))) [(.t 33),(.c (.s (.int .i64 1)))]))] [.sub 0 [] [],.sub 0 [] []] (by kernel_rfl) (by kernel_rfl)
def s_f14_l1_b:ACode:=
 (.seq (.regionE s_f14_r10 [] [34])
 (.seq (.cond (.t 34)
 .skip
 (.exit 2))
 (.seq (.block 3
 (.seq (.regionE s_f14_r11 [34,35,36,37] [8,9])
 (.region s_f14_r12 [] [8,9,38,39,40,41,42,43,44,45,46,47,48,49,50,51,52,53])))
 (.regionE s_f14_r13 [54] [33]))))
def s_f14_l1:ACode:=s_f14_l1_b
def s_f14_l1_ev:=hE s_f14_l1 s_f14_l1_b rfl
def s_f14_r14:List AOper:=[
 ⟨some 55,(.move (.t 7)),none⟩,
 ⟨some 2,(.move (.t 55)),none⟩]
def s_f14_r14_tale:=hT s_f14_r14 [0,4,7,31,32,33,34,55] [2] 56 [] [(2,(.t 7))] [.tt 7,.tt 7] (by kernel_rfl) (by kernel_rfl)
def s_f14:ACFun:={ ntmps:=56,results:=[(.tmp 2)],body:=
 (.seq (.regionE s_f14_r0 s_f14_r0_k [])
 (.seq (.region s_f14_r1 [] [10,11])
 (.seq (.region s_f14_r2 [] [12,13,14])
 (.seq (.seq (.regionE s_f14_r3 [] [15,16,17])
 (.block 0
 (.loop [] s_f14_l0)))
 (.seq (.region s_f14_r8 [] [15,16,17,18,28,29,30])
 (.seq (.seq (.regionE s_f14_r9 [3] [31,32,33])
 (.block 2
 (.loop [] s_f14_l1)))
 (.seq (.regionE s_f14_r14 [0,4,7,31,32,33,34,55] [2])
 .ret))))))) }
abbrev k_f29:Nat:=29
def s_f29_r0_k:List Nat:=[1,2,3,4,5,6,7,8,9,10,11,12,13,14,15,16,17]
theorem s_f29_r0_kT:killV s_f29_r0_k (startV 18 [] 1)=[]:=by kernel_rfl
theorem s_f29_r0_kA0:s_f29_r0_k.contains 0=false:=by kernel_rfl
def s_f29_r0:List AOper:=[
 ⟨some 2,(.move (.c (.s (.int .i64 0)))),none⟩]
def s_f29_r0_tale:=hT s_f29_r0 s_f29_r0_k [] 3 [] [] [.cc (.s (.int .i64 0))] (by kernel_rfl) (by kernel_rfl)
def s_f29_r1:List AOper:=[
 ⟨some 3,(.move (.c (.s (.int .i64 0)))),none⟩]
def s_f29_r1_tale:=hT s_f29_r1 [] [3] 4 [] [(3,(.c (.s (.int .i64 0))))] [.cc (.s (.int .i64 0))] (by kernel_rfl) (by kernel_rfl)
def s_f29_r2:List AOper:=[
 ⟨some 6,(.move (.t 0)),none⟩,
 ⟨some 7,(.lenS .s (.t 6)),none⟩,
 ⟨some 8,(.move (.c (.s (.int .i64 0)))),none⟩]
def s_f29_r2_tale:=hT s_f29_r2 [0] [6,7,8] 9 [] [(6,(.t 0)),(7,(.op (.lenS .s (.t 0)) [(.t 0)])),(8,(.c (.s (.int .i64 0))))] [.tt 0,.sub 1 [] [],.cc (.s (.int .i64 0))] (by kernel_rfl) (by kernel_rfl)
def s_f29_r3:List AOper:=[
 ⟨some 9,(.bin .lss (.t 8) (.t 7)),none⟩]
def s_f29_r3_tale:=hT s_f29_r3 [] [9] 10 [] [(9,(.op (.bin .lss (.t 0) (.t 1)) [(.t 8),(.t 7)]))] [.sub 0 [] []] (by kernel_rfl) (by kernel_rfl)
def s_f29_r4:List AOper:=[
 ⟨some 10,(.indexAddr 1 (.t 6) (.t 8)),none⟩,
 ⟨some 11,(.load false 1 (.t 10)),none⟩,
 ⟨some 5,(.move (.t 11)),none⟩]
def s_f29_r4_tale:=hT s_f29_r4 [9,10,11] [5] 12 [] [(5,(.op (.load false 1 (.t 0)) [(.op (.indexAddr 1 (.t 0) (.t 1)) [(.t 6),(.t 8)])]))] [.sub 0 [0] [],.sub 0 [] [],.sub 0 [] []] (by kernel_rfl) (by kernel_rfl)
def s_f29_r5:List AOper:=[
 ⟨some 12,(.move (.t 3)),none⟩,
 ⟨some 13,(.move (.t 5)),none⟩,
 ⟨some 14,(.bin .add (.t 13) (.c (.s (.int .i64 1)))),none⟩,
 ⟨some 15,(.minmax true (.t 12) (.t 14)),none⟩,
 ⟨some 3,(.move (.t 15)),none⟩]
def s_f29_r5_tale:=hT s_f29_r5 [5,12,13,14,15] [3] 16 [] [(3,(.op (.minmax true (.t 0) (.t 1)) [(.t 3),(.op (.bin .add (.t 0) (.c (.s (.int .i64 1)))) [(.t 5),(.c (.s (.int .i64 1)))])]))] [.tt 3,.tt 5,.sub 0 [1] [],.sub 0 [] [],.sub 0 [] []] (by kernel_rfl) (by kernel_rfl)
def s_f29_r6:List AOper:=[
 ⟨some 16,(.bin .add (.t 8) (.c (.s (.int .i64 1)))),none⟩,
 ⟨some 8,(.move (.t 16)),none⟩]
def s_f29_r6_tale:=hT s_f29_r6 [16] [8] 17 [] [(8,(.op (.bin .add (.t 0) (.c (.s (.int .i64 1)))) [(.t 8),(.c (.s (.int .i64 1)))]))] [.sub 0 [] [],.sub 0 [] []] (by kernel_rfl) (by kernel_rfl)
def s_f29_l0_b:ACode:=
 (.seq (.regionE s_f29_r3 [] [9])
 (.seq (.cond (.t 9)
 .skip
 (.exit 0))
 (.seq (.block 1
 (.seq (.regionE s_f29_r4 [9,10,11] [5])
 (.regionE s_f29_r5 [5,12,13,14,15] [3])))
 (.regionE s_f29_r6 [16] [8]))))
def s_f29_l0:ACode:=s_f29_l0_b
def s_f29_l0_ev:=hE s_f29_l0 s_f29_l0_b rfl
def s_f29_r7:List AOper:=[
 ⟨some 17,(.move (.t 3)),none⟩,
 ⟨some 2,(.move (.t 17)),none⟩]
def s_f29_r7_tale:=hT s_f29_r7 [3,6,7,8,9,17] [2] 18 [] [(2,(.t 3))] [.tt 3,.tt 3] (by kernel_rfl) (by kernel_rfl)
def s_f29:ACFun:={ ntmps:=18,results:=[(.tmp 2)],body:=
 (.seq (.regionE s_f29_r0 s_f29_r0_k [])
 (.seq (.regionE s_f29_r1 [] [3])
 (.seq (.seq (.regionE s_f29_r2 [0] [6,7,8])
 (.block 0
 (.loop [] s_f29_l0)))
 (.seq (.regionE s_f29_r7 [3,6,7,8,9,17] [2])
 .ret)))) }
abbrev k_f30:Nat:=30
def s_f30_r0_k:List Nat:=[2,3,4,5,6,7,8]
theorem s_f30_r0_kT:killV s_f30_r0_k (startV 9 [] 2)=[]:=by kernel_rfl
theorem s_f30_r0_kA0:s_f30_r0_k.contains 0=false:=by kernel_rfl
theorem s_f30_r0_kA1:s_f30_r0_k.contains 1=false:=by kernel_rfl
def s_f30_r0:List AOper:=[
 ⟨some 4,(.move (.c (.s (.bool false)))),none⟩]
def s_f30_r0_tale:=hT s_f30_r0 s_f30_r0_k [] 5 [] [] [.cc (.s (.bool false))] (by kernel_rfl) (by kernel_rfl)
def s_f30_r1t2:List AOper:=[⟨some 8,(.bin .geq (.t 7) (.c (.s (.int .i64 0)))),none⟩,⟨some 4,(.move (.t 8)),none⟩]
def s_f30_r1p1:List AOper:=[⟨some 7,(.call (.c (.fn 35 [] [])) [(.t 5),(.t 6)]),none⟩]
def s_f30_r1t1:List AOper:=s_f30_r1p1 ++ s_f30_r1t2
def s_f30_r1p0:List AOper:=[⟨some 5,(.move (.t 0)),none⟩,⟨some 6,(.move (.t 1)),none⟩]
def s_f30_r1:List AOper:=s_f30_r1p0 ++ s_f30_r1t1
def s_f30_r1p0_tale:=hT s_f30_r1p0 [0,1] [5,6] 7 [] [(5,(.t 0)),(6,(.t 1))] [.tt 0,.tt 1] (by kernel_rfl) (by kernel_rfl)
def s_f30_r1_x:=hS s_f30_r1 s_f30_r1p0 s_f30_r1t1 [0,1] [5,6] [0,1,5,6,7,8] rfl (by kernel_rfl)
def s_f30_r1t1_x:=hO s_f30_r1t1 s_f30_r1p1 s_f30_r1t2 [5,6] [0,1,5,6,7,8] [⟨some 7,(.call (.c (.fn 35 [] [])) [(.t 5),(.t 6)]),none⟩] rfl rfl (by kernel_rfl)
def s_f30_r1t2_tale:=hT s_f30_r1t2 [0,1,5,6,7,8] [4] 9 [] [(4,(.op (.bin .geq (.t 0) (.c (.s (.int .i64 0)))) [(.t 7),(.c (.s (.int .i64 0)))]))] [.sub 0 [] [],.sub 0 [] []] (by kernel_rfl) (by kernel_rfl)
def s_f30_r1t2_x:=hL s_f30_r1t2 [0,1,5,6,7,8] [4]
def s_f30:ACFun:={ ntmps:=9,results:=[(.tmp 4)],body:=
 (.seq (.regionE s_f30_r0 s_f30_r0_k [])
 (.seq (.region s_f30_r1 [] [0,1,5,6,7,8])
 .ret)) }
abbrev k_f9:Nat:=9
def a_f7:=ai @s_f7_r0_tale (ai @s_f7_r0_kT (ai @s_f7_r0_kA0 (ai @s_f7_r1p0_tale (ai @s_f7_r1_x (ai @s_f7_r1t1_x (ai @s_f7_r1t2_tale (ai @s_f7_r1t2_x (ai @s_f7_r2_x (ai @s_f7_r2t1_tale (ai @s_f7_r2t1_x (ai @s_f7_r3p0_tale (ai @s_f7_r3_x (ai @s_f7_r3t1_x (ai @s_f7_r3t2_tale (ai @s_f7_r3t2_x (ai @s_f7_r4p0_tale (ai @s_f7_r4_x (ai @s_f7_r4t1_x (ai @s_f7_r4t2_tale (ai @s_f7_r4t2_x (ai @s_f7_r5_tale (ai @s_f7_r6_tale (ai @s_f7_r7p0_tale (ai @s_f7_r7_x (ai @s_f7_r7t1_x (ai @s_f7_r7t2_tale (ai @s_f7_r7t2_x (ai @s_f7_r8_tale (ai @s_f7_r9_tale (ai @s_f7_r10_tale (ai @s_f7_r11_tale (ai @s_f7_r12_tale (ai @s_f7_r13_tale (ai @s_f7_r14_tale (ai @s_f7_r15_tale (ai @s_f7_r16_tale (ai @s_f7_r17_tale (ai @s_f7_r18p0_tale (ai @s_f7_r18_x (ai @s_f7_r18t1_x (ai @s_f7_r18p2_tale (ai @s_f7_r18t2_x (ai @s_f7_r18t3_x (ai @s_f7_r18t4_x (ai @s_f7_r18t5_x (ai @s_f7_r18t6_x (ai @s_f7_r18t7_tale (ai @s_f7_r18t7_x (ai @s_f7_r19_tale (ai @s_f7_r20_tale (ai @s_f7_r21_tale (ai @s_f7_r22_tale (ai @s_f7_l0_ev (ai @s_f7_r23_tale (ai @s_f7_r24_tale (ai @s_f7_r25_tale (ai @s_f7_r26_tale (ai @s_f7_l1_ev (ai @s_f7_r27_tale (ai @s_f7_r28_tale (ai @s_f7_r29_tale (ai @s_f7_l2_ev (ai @s_f7_r30_x (ai @s_f7_r30t1_tale (@s_f7_r30t1_x)))))))))))))))))))))))))))))))))))))))))))))))))))))))))))))))))
def a_f8:=ai @s_f8_r0_tale (ai @s_f8_r0_kT (ai @s_f8_r0_kA0 (ai @s_f8_r1_tale (ai @s_f8_r2_tale (ai @s_f8_r3_tale (ai @s_f8_r4_tale (ai @s_f8_r5_tale (ai @s_f8_r6_tale (ai @s_f8_r7_tale (ai @s_f8_l0_ev (@s_f8_r8_tale)))))))))))
def a_f14:=ai @s_f14_r0_tale (ai @s_f14_r0_kT (ai @s_f14_r0_kA0 (ai @s_f14_r1p0_tale (ai @s_f14_r1_x (ai @s_f14_r1t1_x (ai @s_f14_r1t2_tale (ai @s_f14_r1t2_x (ai @s_f14_r2p0_tale (ai @s_f14_r2_x (ai @s_f14_r2t1_x (ai @s_f14_r2t2_x (ai @s_f14_r2t3_tale (ai @s_f14_r2t3_x (ai @s_f14_r3_tale (ai @s_f14_r4_tale (ai @s_f14_r5_tale (ai @s_f14_r6p0_tale (ai @s_f14_r6_x (ai @s_f14_r6t1_x (ai @s_f14_r7_tale (ai @s_f14_l0_ev (ai @s_f14_r8p0_tale (ai @s_f14_r8_x (ai @s_f14_r8t1_x (ai @s_f14_r8t2_tale (ai @s_f14_r8t2_x (ai @s_f14_r9_tale (ai @s_f14_r10_tale (ai @s_f14_r11_tale (ai @s_f14_r12p0_tale (ai @s_f14_r12_x (ai @s_f14_r12t1_x (ai @s_f14_r12t2_x (ai @s_f14_r12t3_x (ai @s_f14_r12t4_x (ai @s_f14_r12t5_x (ai @s_f14_r12t6_x (ai @s_f14_r12p7_tale (ai @s_f14_r12t7_x (ai @s_f14_r12t8_x (ai @s_f14_r13_tale (ai @s_f14_l1_ev (@s_f14_r14_tale)))))))))))))))))))))))))))))))))))))))))))
def a_f29:=ai @s_f29_r0_tale (ai @s_f29_r0_kT (ai @s_f29_r0_kA0 (ai @s_f29_r1_tale (ai @s_f29_r2_tale (ai @s_f29_r3_tale (ai @s_f29_r4_tale (ai @s_f29_r5_tale (ai @s_f29_r6_tale (ai @s_f29_l0_ev (@s_f29_r7_tale))))))))))
def a_f30:=ai @s_f30_r0_tale (ai @s_f30_r0_kT (ai @s_f30_r0_kA0 (ai @s_f30_r0_kA1 (ai @s_f30_r1p0_tale (ai @s_f30_r1_x (ai @s_f30_r1t1_x (ai @s_f30_r1t2_tale (@s_f30_r1t2_x))))))))
theorem SA2_14:compK Try.prog PX0 14=some (false,s_f14.ntmps,s_f14.results,s_f14.body.bare):=by kernel_rfl
theorem SA2_29:compK Try.prog PX0 29=some (false,s_f29.ntmps,s_f29.results,s_f29.body.bare):=by kernel_rfl
theorem SA2_30:compK Try.prog PX0 30=some (false,s_f30.ntmps,s_f30.results,s_f30.body.bare):=by kernel_rfl
theorem SA2_7:compK Try.prog PX0 7=some (false,s_f7.ntmps,s_f7.results,s_f7.body.bare):=by kernel_rfl
theorem SA2_8:compK Try.prog PX0 8=some (false,s_f8.ntmps,s_f8.results,s_f8.body.bare):=by kernel_rfl
end Go.Proofs.Ytchekhggdbcbbaa
