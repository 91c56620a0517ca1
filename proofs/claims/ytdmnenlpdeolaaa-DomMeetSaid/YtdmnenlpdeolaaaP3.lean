/- Texts of the proof: DomS1, DomS2, DomS3, DomS4, DomC. -/
import Derived.Test.YtdmnenlpdeolaaaP0
import Derived.Test.YtdmnenlpdeolaaaP1
import Derived.Test.YtdmnenlpdeolaaaP2
import Derived.KernelRfl
import Derived.Test.YtdmnenlpdeolaaaProg
set_option linter.all false
set_option maxRecDepth 100000
namespace Go.Proofs.Ytdmnenlpdeolaaa
open Go.AM
abbrev k_f10:Nat:=10
def s_f10_r0_k:List Nat:=[2,3,4,5,6,7,8,9,10,11,12,13,14,15,16,17,18,19,20,21,22,23,24,25,26,27,28,29,30,31,32,33,34,35,36,37,38,39,40,41,42,43,44,45,46,47,48,49,50,51,52,53,54,55,56,57,58,59,60,61,62,63,64,65,66,67,68,69,70,71,72,73,74,75,76,77,78,79,80,81,82,83,84,85,86,87,88,89,90,91,92,93,94,95,96,97]
theorem s_f10_r0_kT:killV s_f10_r0_k (startV 98 [] 2)=[]:=by kernel_rfl
theorem s_f10_r0_kA0:s_f10_r0_k.contains 0=false:=by kernel_rfl
theorem s_f10_r0_kA1:s_f10_r0_k.contains 1=false:=by kernel_rfl
def s_f10_r0:List AOper:=[
 ⟨some 4,(.move (.c (.s (.slice none 0 0)))),none⟩]
def s_f10_r0_tale:=hT s_f10_r0 s_f10_r0_k [] 5 [] [] [.cc (.s (.slice none 0 0))] (by kernel_rfl) (by kernel_rfl)
def s_f10_r1t4:List AOper:=[⟨none,(.store 1 (.t 5) (.t 21)),none⟩]
def s_f10_r1p3:List AOper:=[⟨some 5,(.alloc [(.s (.slice none 0 0))]),none⟩]
def s_f10_r1t3:List AOper:=s_f10_r1p3 ++ s_f10_r1t4
def s_f10_r1p2:List AOper:=[⟨some 21,(.call (.c (.fn 24 [] [])) [(.t 18),(.t 20)]),none⟩]
def s_f10_r1t2:List AOper:=s_f10_r1p2 ++ s_f10_r1t3
def s_f10_r1p1:List AOper:=[⟨some 19,(.move (.t 0)),none⟩,⟨some 20,(.lenS .s (.t 19)),none⟩]
def s_f10_r1t1:List AOper:=s_f10_r1p1 ++ s_f10_r1t2
def s_f10_r1p0:List AOper:=[⟨some 18,(.buildSl 1 1 [(.s (.int .i64 0))] [(0,(.c (.s (.int .i64 (-2)))))]),none⟩]
def s_f10_r1:List AOper:=s_f10_r1p0 ++ s_f10_r1t1
def s_f10_r1_x:=hO s_f10_r1 s_f10_r1p0 s_f10_r1t1 [] [18,19,20,21] [⟨some 18,(.buildSl 1 1 [(.s (.int .i64 0))] [(0,(.c (.s (.int .i64 (-2)))))]),none⟩] rfl rfl (by kernel_rfl)
def s_f10_r1p1_tale:=hT s_f10_r1p1 [19] [20] 21 [] [(20,(.op (.lenS .s (.t 0)) [(.t 0)]))] [.tt 0,.sub 0 [] []] (by kernel_rfl) (by kernel_rfl)
def s_f10_r1t1_x:=hS s_f10_r1t1 s_f10_r1p1 s_f10_r1t2 [19] [20] [18,19,20,21] rfl (by kernel_rfl)
def s_f10_r1t2_x:=hO s_f10_r1t2 s_f10_r1p2 s_f10_r1t3 [18,20] [18,19,20,21] [⟨some 21,(.call (.c (.fn 24 [] [])) [(.t 18),(.t 20)]),none⟩] rfl rfl (by kernel_rfl)
def s_f10_r1t3_x:=hO s_f10_r1t3 s_f10_r1p3 s_f10_r1t4 [] [18,19,20,21] [⟨some 5,(.alloc [(.s (.slice none 0 0))]),none⟩] rfl rfl (by kernel_rfl)
def s_f10_r1t4_x:=hX s_f10_r1t4 [18,19,20,21] [⟨none,(.store 1 (.t 5) (.t 21)),none⟩] rfl
def s_f10_r2t2:List AOper:=[⟨some 6,(.move (.t 24)),none⟩]
def s_f10_r2p1:List AOper:=[⟨some 24,(.call (.c (.fn 25 [] [])) [(.t 22),(.t 23)]),none⟩]
def s_f10_r2t1:List AOper:=s_f10_r2p1 ++ s_f10_r2t2
def s_f10_r2p0:List AOper:=[⟨some 22,(.move (.t 0)),none⟩,⟨some 23,(.move (.t 1)),none⟩]
def s_f10_r2:List AOper:=s_f10_r2p0 ++ s_f10_r2t1
def s_f10_r2p0_tale:=hT s_f10_r2p0 [] [22,23] 24 [] [(22,(.t 0)),(23,(.t 1))] [.tt 0,.tt 1] (by kernel_rfl) (by kernel_rfl)
def s_f10_r2_x:=hS s_f10_r2 s_f10_r2p0 s_f10_r2t1 [] [22,23] [22,23,24] rfl (by kernel_rfl)
def s_f10_r2t1_x:=hO s_f10_r2t1 s_f10_r2p1 s_f10_r2t2 [22,23] [22,23,24] [⟨some 24,(.call (.c (.fn 25 [] [])) [(.t 22),(.t 23)]),none⟩] rfl rfl (by kernel_rfl)
def s_f10_r2t2_tale:=hT s_f10_r2t2 [22,23,24] [6] 7 [] [(6,(.t 24))] [.tt 24] (by kernel_rfl) (by kernel_rfl)
def s_f10_r2t2_x:=hL s_f10_r2t2 [22,23,24] [6]
def s_f10_r3:List AOper:=[
 ⟨some 25,(.move (.t 6)),none⟩,
 ⟨some 26,(.lenS .s (.t 25)),none⟩,
 ⟨some 27,(.bin .eql (.t 26) (.c (.s (.int .i64 0)))),none⟩]
def s_f10_r3_tale:=hT s_f10_r3 [25,26] [27] 28 [] [(27,(.op (.bin .eql (.t 0) (.c (.s (.int .i64 0)))) [(.op (.lenS .s (.t 0)) [(.t 6)]),(.c (.s (.int .i64 0)))]))] [.tt 6,.sub 0 [0] [],.sub 0 [] []] (by kernel_rfl) (by kernel_rfl)
def s_f10_r4:List AOper:=[
 ⟨some 28,(.load false 1 (.t 5)),none⟩,
 ⟨some 4,(.move (.t 28)),none⟩]
def s_f10_r4_tale:=hT s_f10_r4 [0,1,5,6,27,28] [4] 29 [] [(4,(.op (.load false 1 (.t 0)) [(.t 5)]))] [.sub 0 [] [],.sub 0 [] []] (by kernel_rfl) (by kernel_rfl)
def s_f10_r5t3:List AOper:=[⟨none,(.store 1 (.t 7) (.t 31)),none⟩]
def s_f10_r5p2:List AOper:=[⟨some 7,(.alloc [(.s (.slice none 0 0))]),none⟩]
def s_f10_r5t2:List AOper:=s_f10_r5p2 ++ s_f10_r5t3
def s_f10_r5p1:List AOper:=[⟨some 31,(.mkSl [(.s (.int .i64 0))] 1 8 (.t 30) (.t 30)),none⟩]
def s_f10_r5t1:List AOper:=s_f10_r5p1 ++ s_f10_r5t2
def s_f10_r5p0:List AOper:=[⟨some 29,(.move (.t 0)),none⟩,⟨some 30,(.lenS .s (.t 29)),none⟩]
def s_f10_r5:List AOper:=s_f10_r5p0 ++ s_f10_r5t1
def s_f10_r5p0_tale:=hT s_f10_r5p0 [27,29] [30] 31 [] [(30,(.op (.lenS .s (.t 0)) [(.t 0)]))] [.tt 0,.sub 0 [] []] (by kernel_rfl) (by kernel_rfl)
def s_f10_r5_x:=hS s_f10_r5 s_f10_r5p0 s_f10_r5t1 [27,29] [30] [27,29,30,31] rfl (by kernel_rfl)
def s_f10_r5t1_x:=hO s_f10_r5t1 s_f10_r5p1 s_f10_r5t2 [30] [27,29,30,31] [⟨some 31,(.mkSl [(.s (.int .i64 0))] 1 8 (.t 30) (.t 30)),none⟩] rfl rfl (by kernel_rfl)
def s_f10_r5t2_x:=hO s_f10_r5t2 s_f10_r5p2 s_f10_r5t3 [] [27,29,30,31] [⟨some 7,(.alloc [(.s (.slice none 0 0))]),none⟩] rfl rfl (by kernel_rfl)
def s_f10_r5t3_x:=hX s_f10_r5t3 [27,29,30,31] [⟨none,(.store 1 (.t 7) (.t 31)),none⟩] rfl
def s_f10_r6:List AOper:=[
 ⟨some 32,(.move (.t 6)),none⟩,
 ⟨some 33,(.lenS .s (.t 32)),none⟩,
 ⟨some 34,(.move (.c (.s (.int .i64 0)))),none⟩]
def s_f10_r6_tale:=hT s_f10_r6 [] [32,33,34] 35 [] [(32,(.t 6)),(33,(.op (.lenS .s (.t 0)) [(.t 6)])),(34,(.c (.s (.int .i64 0))))] [.tt 6,.sub 1 [] [],.cc (.s (.int .i64 0))] (by kernel_rfl) (by kernel_rfl)
def s_f10_r7:List AOper:=[
 ⟨some 35,(.bin .lss (.t 34) (.t 33)),none⟩]
def s_f10_r7_tale:=hT s_f10_r7 [] [35] 36 [] [(35,(.op (.bin .lss (.t 0) (.t 1)) [(.t 34),(.t 33)]))] [.sub 0 [] []] (by kernel_rfl) (by kernel_rfl)
def s_f10_r8:List AOper:=[
 ⟨some 36,(.move (.t 34)),none⟩,
 ⟨some 37,(.indexAddr 1 (.t 32) (.t 34)),none⟩,
 ⟨some 38,(.load false 1 (.t 37)),none⟩,
 ⟨some 8,(.move (.t 36)),none⟩,
 ⟨some 9,(.move (.t 38)),none⟩]
def s_f10_r8_tale:=hT s_f10_r8 [35,36,37,38] [8,9] 39 [] [(8,(.t 34)),(9,(.op (.load false 1 (.t 0)) [(.op (.indexAddr 1 (.t 0) (.t 1)) [(.t 32),(.t 34)])]))] [.tt 34,.sub 1 [0] [],.sub 1 [] [],.tt 34,.sub 1 [] []] (by kernel_rfl) (by kernel_rfl)
def s_f10_r9t1:List AOper:=[⟨none,(.store 1 (.t 42) (.t 41)),none⟩]
def s_f10_r9p0:List AOper:=[⟨some 39,(.load false 1 (.t 7)),none⟩,⟨some 40,(.move (.t 9)),none⟩,⟨some 41,(.move (.t 8)),none⟩,⟨some 42,(.indexAddr 1 (.t 39) (.t 40)),none⟩]
def s_f10_r9:List AOper:=s_f10_r9p0 ++ s_f10_r9t1
def s_f10_r9p0_tale:=hT s_f10_r9p0 [8,9,39,40] [41,42] 43 [] [(41,(.t 8)),(42,(.op (.indexAddr 1 (.t 0) (.t 1)) [(.op (.load false 1 (.t 0)) [(.t 7)]),(.t 9)]))] [.sub 1 [0] [],.tt 9,.tt 8,.sub 1 [] []] (by kernel_rfl) (by kernel_rfl)
def s_f10_r9_x:=hS s_f10_r9 s_f10_r9p0 s_f10_r9t1 [8,9,39,40] [41,42] [8,9,39,40,41,42] rfl (by kernel_rfl)
def s_f10_r9t1_x:=hX s_f10_r9t1 [8,9,39,40,41,42] [⟨none,(.store 1 (.t 42) (.t 41)),none⟩] rfl
def s_f10_r10:List AOper:=[
 ⟨some 43,(.bin .add (.t 34) (.c (.s (.int .i64 1)))),none⟩,
 ⟨some 34,(.move (.t 43)),none⟩]
def s_f10_r10_tale:=hT s_f10_r10 [43] [34] 44 [] [(34,(.op (.bin .add (.t 0) (.c (.s (.int .i64 1)))) [(.t 34),(.c (.s (.int .i64 1)))]))] [.sub 0 [] [],.sub 0 [] []] (by kernel_rfl) (by kernel_rfl)
def s_f10_l0_b:ACode:=
 (.seq (.regionE s_f10_r7 [] [35])
 (.seq (.cond (.t 35)
 .skip
 (.exit 0))
 (.seq (.block 1
 (.seq (.regionE s_f10_r8 [35,36,37,38] [8,9])
 (.region s_f10_r9 [] [8,9,39,40,41,42])))
 (.regionE s_f10_r10 [43] [34]))))
def s_f10_l0:ACode:=s_f10_l0_b
def s_f10_l0_ev:=hE s_f10_l0 s_f10_l0_b rfl
def s_f10_r11t2:List AOper:=[⟨some 10,(.move (.t 45)),none⟩]
def s_f10_r11p1:List AOper:=[⟨some 45,(.call (.c (.fn 20 [] [])) [(.t 44)]),none⟩]
def s_f10_r11t1:List AOper:=s_f10_r11p1 ++ s_f10_r11t2
def s_f10_r11p0:List AOper:=[⟨some 44,(.move (.t 0)),none⟩]
def s_f10_r11:List AOper:=s_f10_r11p0 ++ s_f10_r11t1
def s_f10_r11p0_tale:=hT s_f10_r11p0 [0,32,33,34,35] [44] 45 [] [(44,(.t 0))] [.tt 0] (by kernel_rfl) (by kernel_rfl)
def s_f10_r11_x:=hS s_f10_r11 s_f10_r11p0 s_f10_r11t1 [0,32,33,34,35] [44] [0,32,33,34,35,44,45] rfl (by kernel_rfl)
def s_f10_r11t1_x:=hO s_f10_r11t1 s_f10_r11p1 s_f10_r11t2 [44] [0,32,33,34,35,44,45] [⟨some 45,(.call (.c (.fn 20 [] [])) [(.t 44)]),none⟩] rfl rfl (by kernel_rfl)
def s_f10_r11t2_tale:=hT s_f10_r11t2 [0,32,33,34,35,44,45] [10] 11 [] [(10,(.t 45))] [.tt 45] (by kernel_rfl) (by kernel_rfl)
def s_f10_r11t2_x:=hL s_f10_r11t2 [0,32,33,34,35,44,45] [10]
def s_f10_r12t1:List AOper:=[⟨none,(.store 1 (.t 49) (.t 48)),none⟩]
def s_f10_r12p0:List AOper:=[⟨some 46,(.load false 1 (.t 5)),none⟩,⟨some 47,(.move (.t 1)),none⟩,⟨some 48,(.move (.t 1)),none⟩,⟨some 49,(.indexAddr 1 (.t 46) (.t 47)),none⟩]
def s_f10_r12:List AOper:=s_f10_r12p0 ++ s_f10_r12t1
def s_f10_r12p0_tale:=hT s_f10_r12p0 [46,47] [48,49] 50 [] [(48,(.t 1)),(49,(.op (.indexAddr 1 (.t 0) (.t 1)) [(.op (.load false 1 (.t 0)) [(.t 5)]),(.t 1)]))] [.sub 1 [0] [],.tt 1,.tt 1,.sub 1 [] []] (by kernel_rfl) (by kernel_rfl)
def s_f10_r12_x:=hS s_f10_r12 s_f10_r12p0 s_f10_r12t1 [46,47] [48,49] [46,47,48,49] rfl (by kernel_rfl)
def s_f10_r12t1_x:=hX s_f10_r12t1 [46,47,48,49] [⟨none,(.store 1 (.t 49) (.t 48)),none⟩] rfl
def s_f10_r13:List AOper:=[
 ⟨some 50,(.mkFn 26 [] [(.t 7),(.t 5)]),none⟩,
 ⟨some 11,(.move (.t 50)),none⟩]
def s_f10_r13_tale:=hT s_f10_r13 [7,50] [11] 51 [] [(11,(.op (.mkFn 26 [] [(.t 0),(.t 1)]) [(.t 7),(.t 5)]))] [.sub 0 [] [],.sub 0 [] []] (by kernel_rfl) (by kernel_rfl)
def s_f10_r14:List AOper:=[
 ⟨some 12,(.move (.c (.s (.bool true)))),none⟩]
def s_f10_r14_tale:=hT s_f10_r14 [] [12] 13 [] [(12,(.c (.s (.bool true))))] [.cc (.s (.bool true))] (by kernel_rfl) (by kernel_rfl)
def s_f10_r15:List AOper:=[
 ⟨some 51,(.move (.t 12)),none⟩]
def s_f10_r15_tale:=hT s_f10_r15 [12] [51] 52 [] [(51,(.t 12))] [.tt 12] (by kernel_rfl) (by kernel_rfl)
def s_f10_r16:List AOper:=[
 ⟨some 12,(.move (.c (.s (.bool false)))),none⟩]
def s_f10_r16_tale:=hT s_f10_r16 [51] [12] 13 [] [(12,(.c (.s (.bool false))))] [.cc (.s (.bool false))] (by kernel_rfl) (by kernel_rfl)
def s_f10_r17:List AOper:=[
 ⟨some 52,(.move (.t 6)),none⟩,
 ⟨some 53,(.subSl 1 (.t 52) (some (.c (.s (.int .i64 1)))) none none),none⟩,
 ⟨some 54,(.lenS .s (.t 53)),none⟩,
 ⟨some 55,(.move (.c (.s (.int .i64 0)))),none⟩]
def s_f10_r17_tale:=hT s_f10_r17 [52] [53,54,55] 56 [] [(53,(.op (.subSl 1 (.t 0) (some (.c (.s (.int .i64 1)))) none none) [(.t 6),(.c (.s (.int .i64 1)))])),(54,(.op (.lenS .s (.t 0)) [(.op (.subSl 1 (.t 0) (some (.c (.s (.int .i64 1)))) none none) [(.t 6),(.c (.s (.int .i64 1)))])])),(55,(.c (.s (.int .i64 0))))] [.tt 6,.sub 0 [] [],.sub 1 [] [],.cc (.s (.int .i64 0))] (by kernel_rfl) (by kernel_rfl)
def s_f10_r18:List AOper:=[
 ⟨some 56,(.bin .lss (.t 55) (.t 54)),none⟩]
def s_f10_r18_tale:=hT s_f10_r18 [] [56] 57 [] [(56,(.op (.bin .lss (.t 0) (.t 1)) [(.t 55),(.t 54)]))] [.sub 0 [] []] (by kernel_rfl) (by kernel_rfl)
def s_f10_r19:List AOper:=[
 ⟨some 57,(.indexAddr 1 (.t 53) (.t 55)),none⟩,
 ⟨some 58,(.load false 1 (.t 57)),none⟩,
 ⟨some 14,(.move (.t 58)),none⟩]
def s_f10_r19_tale:=hT s_f10_r19 [56,57,58] [14] 59 [] [(14,(.op (.load false 1 (.t 0)) [(.op (.indexAddr 1 (.t 0) (.t 1)) [(.t 53),(.t 55)])]))] [.sub 0 [0] [],.sub 0 [] [],.sub 0 [] []] (by kernel_rfl) (by kernel_rfl)
def s_f10_r20:List AOper:=[
 ⟨some 15,(.move (.c (.s (.int .i64 (-2))))),none⟩]
def s_f10_r20_tale:=hT s_f10_r20 [] [15] 16 [] [(15,(.c (.s (.int .i64 (-2)))))] [.cc (.s (.int .i64 (-2)))] (by kernel_rfl) (by kernel_rfl)
def s_f10_r21:List AOper:=[
 ⟨some 59,(.move (.t 10)),none⟩,
 ⟨some 60,(.move (.t 14)),none⟩,
 ⟨some 61,(.indexAddr 1 (.t 59) (.t 60)),none⟩,
 ⟨some 62,(.load false 1 (.t 61)),none⟩,
 ⟨some 63,(.lenS .s (.t 62)),none⟩,
 ⟨some 64,(.move (.c (.s (.int .i64 0)))),none⟩]
def s_f10_r21_tale:=hT s_f10_r21 [59,60,61] [62,63,64] 65 [] [(62,(.op (.load false 1 (.t 0)) [(.op (.indexAddr 1 (.t 0) (.t 1)) [(.t 10),(.t 14)])])),(63,(.op (.lenS .s (.t 0)) [(.op (.load false 1 (.t 0)) [(.op (.indexAddr 1 (.t 0) (.t 1)) [(.t 10),(.t 14)])])])),(64,(.c (.s (.int .i64 0))))] [.tt 10,.tt 14,.sub 0 [0] [],.sub 0 [] [],.sub 1 [] [],.cc (.s (.int .i64 0))] (by kernel_rfl) (by kernel_rfl)
def s_f10_r22:List AOper:=[
 ⟨some 65,(.bin .lss (.t 64) (.t 63)),none⟩]
def s_f10_r22_tale:=hT s_f10_r22 [] [65] 66 [] [(65,(.op (.bin .lss (.t 0) (.t 1)) [(.t 64),(.t 63)]))] [.sub 0 [] []] (by kernel_rfl) (by kernel_rfl)
def s_f10_r23:List AOper:=[
 ⟨some 66,(.indexAddr 1 (.t 62) (.t 64)),none⟩,
 ⟨some 67,(.load false 1 (.t 66)),none⟩,
 ⟨some 17,(.move (.t 67)),none⟩]
def s_f10_r23_tale:=hT s_f10_r23 [65,66,67] [17] 68 [] [(17,(.op (.load false 1 (.t 0)) [(.op (.indexAddr 1 (.t 0) (.t 1)) [(.t 62),(.t 64)])]))] [.sub 0 [0] [],.sub 0 [] [],.sub 0 [] []] (by kernel_rfl) (by kernel_rfl)
def s_f10_r24:List AOper:=[
 ⟨some 73,(.load false 1 (.t 5)),none⟩,
 ⟨some 74,(.move (.t 17)),none⟩,
 ⟨some 75,(.indexAddr 1 (.t 73) (.t 74)),none⟩,
 ⟨some 76,(.load false 1 (.t 75)),none⟩,
 ⟨some 77,(.bin .eql (.t 76) (.c (.s (.int .i64 (-2))))),none⟩,
 ⟨some 72,(.move (.t 77)),none⟩]
def s_f10_r24_tale:=hT s_f10_r24 [73,74,75,76,77] [72] 78 [] [(72,(.op (.bin .eql (.t 0) (.c (.s (.int .i64 (-2))))) [(.op (.load false 1 (.t 0)) [(.op (.indexAddr 1 (.t 0) (.t 1)) [(.op (.load false 1 (.t 0)) [(.t 5)]),(.t 17)])]),(.c (.s (.int .i64 (-2))))]))] [.sub 0 [0,0,0] [],.tt 17,.sub 0 [0,0] [],.sub 0 [0] [],.sub 0 [] [],.sub 0 [] []] (by kernel_rfl) (by kernel_rfl)
def s_f10_r25:List AOper:=[
 ⟨some 79,(.move (.t 15)),none⟩,
 ⟨some 80,(.bin .eql (.t 79) (.c (.s (.int .i64 (-2))))),none⟩,
 ⟨some 78,(.move (.t 80)),none⟩]
def s_f10_r25_tale:=hT s_f10_r25 [72,79,80] [78] 81 [] [(78,(.op (.bin .eql (.t 0) (.c (.s (.int .i64 (-2))))) [(.t 15),(.c (.s (.int .i64 (-2))))]))] [.tt 15,.sub 0 [] [],.sub 0 [] []] (by kernel_rfl) (by kernel_rfl)
def s_f10_r26:List AOper:=[
 ⟨some 81,(.move (.t 17)),none⟩,
 ⟨some 15,(.move (.t 81)),none⟩]
def s_f10_r26_tale:=hT s_f10_r26 [17,78,81] [15] 82 [] [(15,(.t 17))] [.tt 17,.tt 17] (by kernel_rfl) (by kernel_rfl)
def s_f10_r27t2:List AOper:=[⟨some 15,(.move (.t 71)),none⟩]
def s_f10_r27p1:List AOper:=[⟨some 71,(.call (.t 68) [(.t 69),(.t 70)]),none⟩]
def s_f10_r27t1:List AOper:=s_f10_r27p1 ++ s_f10_r27t2
def s_f10_r27p0:List AOper:=[⟨some 68,(.move (.t 11)),none⟩,⟨some 69,(.move (.t 15)),none⟩,⟨some 70,(.move (.t 17)),none⟩]
def s_f10_r27:List AOper:=s_f10_r27p0 ++ s_f10_r27t1
def s_f10_r27p0_tale:=hT s_f10_r27p0 [15,17,78] [68,69,70] 71 [] [(68,(.t 11)),(69,(.t 15)),(70,(.t 17))] [.tt 11,.tt 15,.tt 17] (by kernel_rfl) (by kernel_rfl)
def s_f10_r27_x:=hS s_f10_r27 s_f10_r27p0 s_f10_r27t1 [15,17,78] [68,69,70] [17,68,69,70,71,78] rfl (by kernel_rfl)
def s_f10_r27t1_x:=hO s_f10_r27t1 s_f10_r27p1 s_f10_r27t2 [68,69,70] [17,68,69,70,71,78] [⟨some 71,(.call (.t 68) [(.t 69),(.t 70)]),none⟩] rfl rfl (by kernel_rfl)
def s_f10_r27t2_tale:=hT s_f10_r27t2 [17,68,69,70,71,78] [15] 16 [] [(15,(.t 71))] [.tt 71] (by kernel_rfl) (by kernel_rfl)
def s_f10_r27t2_x:=hL s_f10_r27t2 [17,68,69,70,71,78] [15]
def s_f10_r28:List AOper:=[
 ⟨some 82,(.bin .add (.t 64) (.c (.s (.int .i64 1)))),none⟩,
 ⟨some 64,(.move (.t 82)),none⟩]
def s_f10_r28_tale:=hT s_f10_r28 [17,72,82] [64] 83 [] [(64,(.op (.bin .add (.t 0) (.c (.s (.int .i64 1)))) [(.t 64),(.c (.s (.int .i64 1)))]))] [.sub 0 [] [],.sub 0 [] []] (by kernel_rfl) (by kernel_rfl)
def s_f10_l1_b:ACode:=
 (.seq (.regionE s_f10_r22 [] [65])
 (.seq (.cond (.t 65)
 .skip
 (.exit 6))
 (.seq (.block 7
 (.seq (.regionE s_f10_r23 [65,66,67] [17])
 (.block 8
 (.seq (.regionE s_f10_r24 [73,74,75,76,77] [72])
 (.cond (.t 72)
 .skip
 (.seq (.regionE s_f10_r25 [72,79,80] [78])
 (.cond (.t 78)
 (.regionE s_f10_r26 [17,78,81] [15])
 (.region s_f10_r27 [] [17,68,69,70,71,78]))))))))
 (.regionE s_f10_r28 [17,72,82] [64]))))
def s_f10_l1:ACode:=s_f10_l1_b
def s_f10_l1_ev:=hE s_f10_l1 s_f10_l1_b rfl
def s_f10_r29:List AOper:=[
 ⟨some 83,(.load false 1 (.t 5)),none⟩,
 ⟨some 84,(.move (.t 14)),none⟩,
 ⟨some 85,(.indexAddr 1 (.t 83) (.t 84)),none⟩,
 ⟨some 86,(.load false 1 (.t 85)),none⟩,
 ⟨some 87,(.move (.t 15)),none⟩,
 ⟨some 88,(.bin .neq (.t 86) (.t 87)),none⟩]
def s_f10_r29_tale:=hT s_f10_r29 [62,63,64,65,83,84,85,86,87] [88] 89 [] [(88,(.op (.bin .neq (.t 0) (.t 1)) [(.op (.load false 1 (.t 0)) [(.op (.indexAddr 1 (.t 0) (.t 1)) [(.op (.load false 1 (.t 0)) [(.t 5)]),(.t 14)])]),(.t 15)]))] [.sub 0 [0,0,0] [],.tt 14,.sub 0 [0,0] [],.sub 0 [0] [],.tt 15,.sub 0 [] []] (by kernel_rfl) (by kernel_rfl)
def s_f10_r30t2:List AOper:=[⟨some 12,(.move (.c (.s (.bool true)))),none⟩]
def s_f10_r30p1:List AOper:=[⟨none,(.store 1 (.t 92) (.t 91)),none⟩]
def s_f10_r30t1:List AOper:=s_f10_r30p1 ++ s_f10_r30t2
def s_f10_r30p0:List AOper:=[⟨some 89,(.load false 1 (.t 5)),none⟩,⟨some 90,(.move (.t 14)),none⟩,⟨some 91,(.move (.t 15)),none⟩,⟨some 92,(.indexAddr 1 (.t 89) (.t 90)),none⟩]
def s_f10_r30:List AOper:=s_f10_r30p0 ++ s_f10_r30t1
def s_f10_r30p0_tale:=hT s_f10_r30p0 [12,14,15,88,89,90] [91,92] 93 [] [(91,(.t 15)),(92,(.op (.indexAddr 1 (.t 0) (.t 1)) [(.op (.load false 1 (.t 0)) [(.t 5)]),(.t 14)]))] [.sub 1 [0] [],.tt 14,.tt 15,.sub 1 [] []] (by kernel_rfl) (by kernel_rfl)
def s_f10_r30_x:=hS s_f10_r30 s_f10_r30p0 s_f10_r30t1 [12,14,15,88,89,90] [91,92] [14,15,88,89,90,91,92] rfl (by kernel_rfl)
def s_f10_r30t1_x:=hO s_f10_r30t1 s_f10_r30p1 s_f10_r30t2 [91,92] [14,15,88,89,90,91,92] [⟨none,(.store 1 (.t 92) (.t 91)),none⟩] rfl rfl (by kernel_rfl)
def s_f10_r30t2_tale:=hT s_f10_r30t2 [14,15,88,89,90,91,92] [12] 13 [] [(12,(.c (.s (.bool true))))] [.cc (.s (.bool true))] (by kernel_rfl) (by kernel_rfl)
def s_f10_r30t2_x:=hL s_f10_r30t2 [14,15,88,89,90,91,92] [12]
def s_f10_r31:List AOper:=[
 ⟨some 93,(.bin .add (.t 55) (.c (.s (.int .i64 1)))),none⟩,
 ⟨some 55,(.move (.t 93)),none⟩]
def s_f10_r31_tale:=hT s_f10_r31 [14,15,88,93] [55] 94 [] [(55,(.op (.bin .add (.t 0) (.c (.s (.int .i64 1)))) [(.t 55),(.c (.s (.int .i64 1)))]))] [.sub 0 [] [],.sub 0 [] []] (by kernel_rfl) (by kernel_rfl)
def s_f10_l2_b:ACode:=
 (.seq (.regionE s_f10_r18 [] [56])
 (.seq (.cond (.t 56)
 .skip
 (.exit 4))
 (.seq (.block 5
 (.seq (.regionE s_f10_r19 [56,57,58] [14])
 (.seq (.regionE s_f10_r20 [] [15])
 (.seq (.seq (.regionE s_f10_r21 [59,60,61] [62,63,64])
 (.block 6
 (.loop [] s_f10_l1)))
 (.seq (.regionE s_f10_r29 [62,63,64,65,83,84,85,86,87] [88])
 (.cond (.t 88)
 (.region s_f10_r30 [] [14,15,88,89,90,91,92])
 .skip))))))
 (.regionE s_f10_r31 [14,15,88,93] [55]))))
def s_f10_l2:ACode:=s_f10_l2_b
def s_f10_l2_ev:=hE s_f10_l2 s_f10_l2_b rfl
def s_f10_l3_b:ACode:=
 (.seq (.seq (.regionE s_f10_r15 [12] [51])
 (.cond (.t 51)
 .skip
 (.exit 2)))
 (.block 3
 (.seq (.regionE s_f10_r16 [51] [12])
 (.seq (.regionE s_f10_r17 [52] [53,54,55])
 (.block 4
 (.loop [] s_f10_l2))))))
def s_f10_l3:ACode:=s_f10_l3_b
def s_f10_l3_ev:=hE s_f10_l3 s_f10_l3_b rfl
def s_f10_r32t1:List AOper:=[⟨none,(.store 1 (.t 96) (.c (.s (.int .i64 (-1))))),none⟩]
def s_f10_r32p0:List AOper:=[⟨some 94,(.load false 1 (.t 5)),none⟩,⟨some 95,(.move (.t 1)),none⟩,⟨some 96,(.indexAddr 1 (.t 94) (.t 95)),none⟩]
def s_f10_r32:List AOper:=s_f10_r32p0 ++ s_f10_r32t1
def s_f10_r32p0_tale:=hT s_f10_r32p0 [1,6,10,11,51,94,95] [96] 97 [] [(96,(.op (.indexAddr 1 (.t 0) (.t 1)) [(.op (.load false 1 (.t 0)) [(.t 5)]),(.t 1)]))] [.sub 0 [0] [],.tt 1,.sub 0 [] []] (by kernel_rfl) (by kernel_rfl)
def s_f10_r32_x:=hS s_f10_r32 s_f10_r32p0 s_f10_r32t1 [1,6,10,11,51,94,95] [96] [1,6,10,11,51,94,95,96] rfl (by kernel_rfl)
def s_f10_r32t1_x:=hX s_f10_r32t1 [1,6,10,11,51,94,95,96] [⟨none,(.store 1 (.t 96) (.c (.s (.int .i64 (-1))))),none⟩] rfl
def s_f10_r33:List AOper:=[
 ⟨some 97,(.load false 1 (.t 5)),none⟩,
 ⟨some 4,(.move (.t 97)),none⟩]
def s_f10_r33_tale:=hT s_f10_r33 [5,97] [4] 98 [] [(4,(.op (.load false 1 (.t 0)) [(.t 5)]))] [.sub 0 [] [],.sub 0 [] []] (by kernel_rfl) (by kernel_rfl)
def s_f10:ACFun:={ ntmps:=98,results:=[(.tmp 4)],body:=
 (.seq (.regionE s_f10_r0 s_f10_r0_k [])
 (.seq (.region s_f10_r1 [] [18,19,20,21])
 (.seq (.region s_f10_r2 [] [22,23,24])
 (.seq (.seq (.regionE s_f10_r3 [25,26] [27])
 (.cond (.t 27)
 (.seq (.regionE s_f10_r4 [0,1,5,6,27,28] [4])
 .ret)
 .skip))
 (.seq (.region s_f10_r5 [] [27,29,30,31])
 (.seq (.seq (.regionE s_f10_r6 [] [32,33,34])
 (.block 0
 (.loop [] s_f10_l0)))
 (.seq (.region s_f10_r11 [] [0,32,33,34,35,44,45])
 (.seq (.region s_f10_r12 [] [46,47,48,49])
 (.seq (.regionE s_f10_r13 [7,50] [11])
 (.seq (.seq (.regionE s_f10_r14 [] [12])
 (.block 2
 (.loop [53,54,55,56] s_f10_l3)))
 (.seq (.region s_f10_r32 [] [1,6,10,11,51,94,95,96])
 (.seq (.regionE s_f10_r33 [5,97] [4])
 .ret)))))))))))) }
abbrev k_f13:Nat:=13
def s_f13_r0_k:List Nat:=[3,4,5,6,7,8,9,10,11,12,13,14,15,16,17,18,19,20,21,22,23,24,25,26,27,28,29,30,31,32,33,34,35,36,37,38,39,40,41,42,43,44,45,46,47,48,49,50,51,52]
theorem s_f13_r0_kT:killV s_f13_r0_k (startV 53 [] 3)=[]:=by kernel_rfl
theorem s_f13_r0_kA0:s_f13_r0_k.contains 0=false:=by kernel_rfl
theorem s_f13_r0_kA1:s_f13_r0_k.contains 1=false:=by kernel_rfl
theorem s_f13_r0_kA2:s_f13_r0_k.contains 2=false:=by kernel_rfl
def s_f13_r0:List AOper:=[
 ⟨some 6,(.move (.c (.s (.bool false)))),none⟩]
def s_f13_r0_tale:=hT s_f13_r0 s_f13_r0_k [] 7 [] [] [.cc (.s (.bool false))] (by kernel_rfl) (by kernel_rfl)
def s_f13_r1:List AOper:=[
 ⟨some 7,(.move (.t 1)),none⟩,
 ⟨some 8,(.bin .lss (.t 7) (.c (.s (.int .i64 0)))),none⟩,
 ⟨some 9,(.move (.t 8)),none⟩,
 ⟨some 10,(.move (.t 2)),some (9,false)⟩,
 ⟨some 11,(.bin .lss (.t 10) (.c (.s (.int .i64 0)))),some (9,false)⟩,
 ⟨some 12,(.pick (.t 9) (.c (.s (.bool true))) (.t 11)),none⟩,
 ⟨some 13,(.move (.t 12)),none⟩,
 ⟨some 14,(.move (.t 1)),some (13,false)⟩,
 ⟨some 15,(.move (.t 0)),some (13,false)⟩,
 ⟨some 16,(.lenS .s (.t 15)),some (13,false)⟩,
 ⟨some 17,(.bin .geq (.t 14) (.t 16)),some (13,false)⟩,
 ⟨some 18,(.pick (.t 13) (.c (.s (.bool true))) (.t 17)),none⟩,
 ⟨some 19,(.move (.t 18)),none⟩,
 ⟨some 20,(.move (.t 2)),some (19,false)⟩,
 ⟨some 21,(.move (.t 0)),some (19,false)⟩,
 ⟨some 22,(.lenS .s (.t 21)),some (19,false)⟩,
 ⟨some 23,(.bin .geq (.t 20) (.t 22)),some (19,false)⟩,
 ⟨some 24,(.pick (.t 19) (.c (.s (.bool true))) (.t 23)),none⟩,
 ⟨some 25,(.move (.t 24)),none⟩,
 ⟨some 26,(.move (.t 0)),some (25,false)⟩,
 ⟨some 27,(.move (.t 2)),some (25,false)⟩,
 ⟨some 28,(.indexAddr 1 (.t 26) (.t 27)),some (25,false)⟩,
 ⟨some 29,(.load false 1 (.t 28)),some (25,false)⟩,
 ⟨some 30,(.bin .eql (.t 29) (.c (.s (.int .i64 (-2))))),some (25,false)⟩,
 ⟨some 31,(.pick (.t 25) (.c (.s (.bool true))) (.t 30)),none⟩]
def s_f13_r1_tale:=hT s_f13_r1 [7,8,9,10,11,12,13,14,15,16,17,18,19,20,21,22,23,24,25,26,27,28,29,30] [31] 32 [] [(31,(.pick (.pick (.pick (.pick (.op (.bin .lss (.t 0) (.c (.s (.int .i64 0)))) [(.t 1),(.c (.s (.int .i64 0)))]) (.c (.s (.bool true))) (.op (.bin .lss (.t 0) (.c (.s (.int .i64 0)))) [(.t 2),(.c (.s (.int .i64 0)))])) (.c (.s (.bool true))) (.op (.bin .geq (.t 0) (.t 1)) [(.t 1),(.op (.lenS .s (.t 0)) [(.t 0)])])) (.c (.s (.bool true))) (.op (.bin .geq (.t 0) (.t 1)) [(.t 2),(.op (.lenS .s (.t 0)) [(.t 0)])])) (.c (.s (.bool true))) (.op (.bin .eql (.t 0) (.c (.s (.int .i64 (-2))))) [(.op (.load false 1 (.t 0)) [(.op (.indexAddr 1 (.t 0) (.t 1)) [(.t 0),(.t 2)])]),(.c (.s (.int .i64 (-2))))])))] [.tt 1,.sub 0 [0,0,0,0] [],.sub 0 [0,0,0,0] [],.sub 0 [0,0,0,2,0] [9],.sub 0 [0,0,0,2] [9],.sub 0 [0,0,0] [],.sub 0 [0,0,0] [],.sub 0 [0,0,2,0] [13],.sub 0 [0,0,2,1,0] [13],.sub 0 [0,0,2,1] [13],.sub 0 [0,0,2] [13],.sub 0 [0,0] [],.sub 0 [0,0] [],.sub 0 [0,2,0] [19],.sub 0 [0,2,1,0] [19],.sub 0 [0,2,1] [19],.sub 0 [0,2] [19],.sub 0 [0] [],.sub 0 [0] [],.sub 0 [2,0,0,0] [25],.sub 0 [2,0,0,1] [25],.sub 0 [2,0,0] [25],.sub 0 [2,0] [25],.sub 0 [2] [25],.sub 0 [] []] (by kernel_rfl) (by kernel_rfl)
def s_f13_r2:List AOper:=[
 ⟨some 6,(.move (.c (.s (.bool false)))),none⟩]
def s_f13_r2_tale:=hT s_f13_r2 [0,1,2,31] [6] 7 [] [(6,(.c (.s (.bool false))))] [.cc (.s (.bool false))] (by kernel_rfl) (by kernel_rfl)
def s_f13_r3:List AOper:=[
 ⟨some 32,(.move (.t 0)),none⟩,
 ⟨some 33,(.lenS .s (.t 32)),none⟩,
 ⟨some 34,(.bin .add (.t 33) (.c (.s (.int .i64 1)))),none⟩,
 ⟨some 35,(.move (.c (.s (.int .i64 0)))),none⟩]
def s_f13_r3_tale:=hT s_f13_r3 [31,32,33] [34,35] 36 [] [(34,(.op (.bin .add (.t 0) (.c (.s (.int .i64 1)))) [(.op (.lenS .s (.t 0)) [(.t 0)]),(.c (.s (.int .i64 1)))])),(35,(.c (.s (.int .i64 0))))] [.tt 0,.sub 0 [0] [],.sub 0 [] [],.cc (.s (.int .i64 0))] (by kernel_rfl) (by kernel_rfl)
def s_f13_r4:List AOper:=[
 ⟨some 36,(.bin .lss (.t 35) (.t 34)),none⟩]
def s_f13_r4_tale:=hT s_f13_r4 [] [36] 37 [] [(36,(.op (.bin .lss (.t 0) (.t 1)) [(.t 35),(.t 34)]))] [.sub 0 [] []] (by kernel_rfl) (by kernel_rfl)
def s_f13_r5:List AOper:=[
 ⟨some 37,(.move (.t 1)),none⟩,
 ⟨some 38,(.move (.t 2)),none⟩,
 ⟨some 39,(.bin .eql (.t 37) (.t 38)),none⟩]
def s_f13_r5_tale:=hT s_f13_r5 [36,37,38] [39] 40 [] [(39,(.op (.bin .eql (.t 0) (.t 1)) [(.t 1),(.t 2)]))] [.tt 1,.tt 2,.sub 0 [] []] (by kernel_rfl) (by kernel_rfl)
def s_f13_r6:List AOper:=[
 ⟨some 6,(.move (.c (.s (.bool true)))),none⟩]
def s_f13_r6_tale:=hT s_f13_r6 [0,1,2,34,35,39] [6] 7 [] [(6,(.c (.s (.bool true))))] [.cc (.s (.bool true))] (by kernel_rfl) (by kernel_rfl)
def s_f13_r7:List AOper:=[
 ⟨some 40,(.move (.t 0)),none⟩,
 ⟨some 41,(.move (.t 2)),none⟩,
 ⟨some 42,(.indexAddr 1 (.t 40) (.t 41)),none⟩,
 ⟨some 43,(.load false 1 (.t 42)),none⟩,
 ⟨some 2,(.move (.t 43)),none⟩]
def s_f13_r7_tale:=hT s_f13_r7 [39,40,41,42,43] [2] 44 [] [(2,(.op (.load false 1 (.t 0)) [(.op (.indexAddr 1 (.t 0) (.t 1)) [(.t 0),(.t 2)])]))] [.tt 0,.tt 2,.sub 0 [0] [],.sub 0 [] [],.sub 0 [] []] (by kernel_rfl) (by kernel_rfl)
def s_f13_r8:List AOper:=[
 ⟨some 44,(.move (.t 2)),none⟩,
 ⟨some 45,(.bin .lss (.t 44) (.c (.s (.int .i64 0)))),none⟩,
 ⟨some 46,(.move (.t 45)),none⟩,
 ⟨some 47,(.move (.t 2)),some (46,false)⟩,
 ⟨some 48,(.move (.t 0)),some (46,false)⟩,
 ⟨some 49,(.lenS .s (.t 48)),some (46,false)⟩,
 ⟨some 50,(.bin .geq (.t 47) (.t 49)),some (46,false)⟩,
 ⟨some 51,(.pick (.t 46) (.c (.s (.bool true))) (.t 50)),none⟩]
def s_f13_r8_tale:=hT s_f13_r8 [44,45,46,47,48,49,50] [51] 52 [] [(51,(.pick (.op (.bin .lss (.t 0) (.c (.s (.int .i64 0)))) [(.t 2),(.c (.s (.int .i64 0)))]) (.c (.s (.bool true))) (.op (.bin .geq (.t 0) (.t 1)) [(.t 2),(.op (.lenS .s (.t 0)) [(.t 0)])])))] [.tt 2,.sub 0 [0] [],.sub 0 [0] [],.sub 0 [2,0] [46],.sub 0 [2,1,0] [46],.sub 0 [2,1] [46],.sub 0 [2] [46],.sub 0 [] []] (by kernel_rfl) (by kernel_rfl)
def s_f13_r9:List AOper:=[
 ⟨some 6,(.move (.c (.s (.bool false)))),none⟩]
def s_f13_r9_tale:=hT s_f13_r9 [0,1,2,34,35,51] [6] 7 [] [(6,(.c (.s (.bool false))))] [.cc (.s (.bool false))] (by kernel_rfl) (by kernel_rfl)
def s_f13_r10:List AOper:=[
 ⟨some 52,(.bin .add (.t 35) (.c (.s (.int .i64 1)))),none⟩,
 ⟨some 35,(.move (.t 52)),none⟩]
def s_f13_r10_tale:=hT s_f13_r10 [51,52] [35] 53 [] [(35,(.op (.bin .add (.t 0) (.c (.s (.int .i64 1)))) [(.t 35),(.c (.s (.int .i64 1)))]))] [.sub 0 [] [],.sub 0 [] []] (by kernel_rfl) (by kernel_rfl)
def s_f13_l0_b:ACode:=
 (.seq (.regionE s_f13_r4 [] [36])
 (.seq (.cond (.t 36)
 .skip
 (.exit 0))
 (.seq (.block 1
 (.seq (.seq (.regionE s_f13_r5 [36,37,38] [39])
 (.cond (.t 39)
 (.seq (.regionE s_f13_r6 [0,1,2,34,35,39] [6])
 .ret)
 .skip))
 (.seq (.regionE s_f13_r7 [39,40,41,42,43] [2])
 (.seq (.regionE s_f13_r8 [44,45,46,47,48,49,50] [51])
 (.cond (.t 51)
 (.seq (.regionE s_f13_r9 [0,1,2,34,35,51] [6])
 .ret)
 .skip)))))
 (.regionE s_f13_r10 [51,52] [35]))))
def s_f13_l0:ACode:=s_f13_l0_b
def s_f13_l0_ev:=hE s_f13_l0 s_f13_l0_b rfl
def s_f13_r11:List AOper:=[
 ⟨some 6,(.move (.c (.s (.bool false)))),none⟩]
def s_f13_r11_tale:=hT s_f13_r11 [0,1,2,34,35,36] [6] 7 [] [(6,(.c (.s (.bool false))))] [.cc (.s (.bool false))] (by kernel_rfl) (by kernel_rfl)
def s_f13:ACFun:={ ntmps:=53,results:=[(.tmp 6)],body:=
 (.seq (.regionE s_f13_r0 s_f13_r0_k [])
 (.seq (.seq (.regionE s_f13_r1 [7,8,9,10,11,12,13,14,15,16,17,18,19,20,21,22,23,24,25,26,27,28,29,30] [31])
 (.cond (.t 31)
 (.seq (.regionE s_f13_r2 [0,1,2,31] [6])
 .ret)
 .skip))
 (.seq (.seq (.regionE s_f13_r3 [31,32,33] [34,35])
 (.block 0
 (.loop [] s_f13_l0)))
 (.seq (.regionE s_f13_r11 [0,1,2,34,35,36] [6])
 .ret)))) }
abbrev k_f24:Nat:=24
def s_f24_r0_k:List Nat:=[2,3,4,5,6,7,8,9,10,11,12,13,14,15,16,17,18,19,20,21,22,23,24,25,26,27,28,29,30,31,32,33,34,35,36,37,38,39,40,41,42,43,44,45,46,47]
theorem s_f24_r0_kT:killV s_f24_r0_k (startV 48 [] 2)=[]:=by kernel_rfl
theorem s_f24_r0_kA0:s_f24_r0_k.contains 0=false:=by kernel_rfl
theorem s_f24_r0_kA1:s_f24_r0_k.contains 1=false:=by kernel_rfl
def s_f24_r0:List AOper:=[
 ⟨some 4,(.move (.c (.s (.slice none 0 0)))),none⟩]
def s_f24_r0_tale:=hT s_f24_r0 s_f24_r0_k [] 5 [] [] [.cc (.s (.slice none 0 0))] (by kernel_rfl) (by kernel_rfl)
def s_f24_r1:List AOper:=[
 ⟨some 9,(.move (.t 1)),none⟩,
 ⟨some 10,(.bin .lss (.t 9) (.c (.s (.int .i64 0)))),none⟩]
def s_f24_r1_tale:=hT s_f24_r1 [9] [10] 11 [] [(10,(.op (.bin .lss (.t 0) (.c (.s (.int .i64 0)))) [(.t 1),(.c (.s (.int .i64 0)))]))] [.tt 1,.sub 0 [] []] (by kernel_rfl) (by kernel_rfl)
def s_f24_r2t1:List AOper:=[⟨none,.stuck,none⟩]
def s_f24_r2p0:List AOper:=[⟨some 11,.stuck,none⟩]
def s_f24_r2:List AOper:=s_f24_r2p0 ++ s_f24_r2t1
def s_f24_r2_x:=hO s_f24_r2 s_f24_r2p0 s_f24_r2t1 [10,11] [10,11] [⟨some 11,.stuck,none⟩] rfl rfl (by kernel_rfl)
def s_f24_r2t1_x:=hX s_f24_r2t1 [10,11] [⟨none,.stuck,none⟩] rfl
def s_f24_r3t2:List AOper:=[⟨some 12,(.move (.t 18)),none⟩,⟨some 19,(.extract (.t 12) 0),none⟩,⟨some 20,(.extract (.t 12) 1),none⟩,⟨some 5,(.move (.t 19)),none⟩,⟨some 6,(.move (.t 20)),none⟩]
def s_f24_r3p1:List AOper:=[⟨some 18,(.call (.c (.fn 39 [] [])) [(.t 15),(.t 17)]),none⟩]
def s_f24_r3t1:List AOper:=s_f24_r3p1 ++ s_f24_r3t2
def s_f24_r3p0:List AOper:=[⟨some 13,(.move (.t 0)),none⟩,⟨some 14,(.lenS .s (.t 13)),none⟩,⟨some 15,(.conv .u64 (.t 14)),none⟩,⟨some 16,(.move (.t 1)),none⟩,⟨some 17,(.conv .u64 (.t 16)),none⟩]
def s_f24_r3:List AOper:=s_f24_r3p0 ++ s_f24_r3t1
def s_f24_r3p0_tale:=hT s_f24_r3p0 [1,10,13,14,16] [15,17] 18 [] [(15,(.op (.conv .u64 (.t 0)) [(.op (.lenS .s (.t 0)) [(.t 0)])])),(17,(.op (.conv .u64 (.t 0)) [(.t 1)]))] [.tt 0,.sub 0 [0] [],.sub 0 [] [],.tt 1,.sub 1 [] []] (by kernel_rfl) (by kernel_rfl)
def s_f24_r3_x:=hS s_f24_r3 s_f24_r3p0 s_f24_r3t1 [1,10,13,14,16] [15,17] [1,10,12,13,14,15,16,17,18,19,20] rfl (by kernel_rfl)
def s_f24_r3t1_x:=hO s_f24_r3t1 s_f24_r3p1 s_f24_r3t2 [15,17] [1,10,12,13,14,15,16,17,18,19,20] [⟨some 18,(.call (.c (.fn 39 [] [])) [(.t 15),(.t 17)]),none⟩] rfl rfl (by kernel_rfl)
def s_f24_r3t2_tale:=hT s_f24_r3t2 [1,10,12,13,14,15,16,17,18,19,20] [5,6] 21 [] [(5,(.op (.extract (.t 0) 0) [(.t 18)])),(6,(.op (.extract (.t 0) 1) [(.t 18)]))] [.tt 18,.sub 0 [] [],.sub 1 [] [],.sub 0 [] [],.sub 1 [] []] (by kernel_rfl) (by kernel_rfl)
def s_f24_r3t2_x:=hL s_f24_r3t2 [1,10,12,13,14,15,16,17,18,19,20] [5,6]
def s_f24_r4:List AOper:=[
 ⟨some 21,(.move (.t 5)),none⟩,
 ⟨some 22,(.bin .gtr (.t 21) (.c (.s (.int .u64 0)))),none⟩,
 ⟨some 23,(.move (.t 22)),none⟩,
 ⟨some 24,(.move (.t 6)),some (23,false)⟩,
 ⟨some 25,(.bin .gtr (.t 24) (.c (.s (.int .u64 9223372036854775807)))),some (23,false)⟩,
 ⟨some 26,(.pick (.t 23) (.c (.s (.bool true))) (.t 25)),none⟩]
def s_f24_r4_tale:=hT s_f24_r4 [5,21,22,23,24,25] [26] 27 [] [(26,(.pick (.op (.bin .gtr (.t 0) (.c (.s (.int .u64 0)))) [(.t 5),(.c (.s (.int .u64 0)))]) (.c (.s (.bool true))) (.op (.bin .gtr (.t 0) (.c (.s (.int .u64 9223372036854775807)))) [(.t 6),(.c (.s (.int .u64 9223372036854775807)))])))] [.tt 5,.sub 0 [0] [],.sub 0 [0] [],.sub 0 [2,0] [23],.sub 0 [2] [23],.sub 0 [] []] (by kernel_rfl) (by kernel_rfl)
def s_f24_r5t1:List AOper:=[⟨none,.stuck,none⟩]
def s_f24_r5p0:List AOper:=[⟨some 27,.stuck,none⟩]
def s_f24_r5:List AOper:=s_f24_r5p0 ++ s_f24_r5t1
def s_f24_r5_x:=hO s_f24_r5 s_f24_r5p0 s_f24_r5t1 [26,27] [26,27] [⟨some 27,.stuck,none⟩] rfl rfl (by kernel_rfl)
def s_f24_r5t1_x:=hX s_f24_r5t1 [26,27] [⟨none,.stuck,none⟩] rfl
def s_f24_r6t2:List AOper:=[⟨some 7,(.move (.t 30)),none⟩]
def s_f24_r6p1:List AOper:=[⟨some 30,(.mkSl [(.s (.int .i64 0))] 1 8 (.t 29) (.t 29)),none⟩]
def s_f24_r6t1:List AOper:=s_f24_r6p1 ++ s_f24_r6t2
def s_f24_r6p0:List AOper:=[⟨some 28,(.move (.t 6)),none⟩,⟨some 29,(.conv .i64 (.t 28)),none⟩]
def s_f24_r6:List AOper:=s_f24_r6p0 ++ s_f24_r6t1
def s_f24_r6p0_tale:=hT s_f24_r6p0 [6,26,28] [29] 30 [] [(29,(.op (.conv .i64 (.t 0)) [(.t 6)]))] [.tt 6,.sub 0 [] []] (by kernel_rfl) (by kernel_rfl)
def s_f24_r6_x:=hS s_f24_r6 s_f24_r6p0 s_f24_r6t1 [6,26,28] [29] [6,26,28,29,30] rfl (by kernel_rfl)
def s_f24_r6t1_x:=hO s_f24_r6t1 s_f24_r6p1 s_f24_r6t2 [29] [6,26,28,29,30] [⟨some 30,(.mkSl [(.s (.int .i64 0))] 1 8 (.t 29) (.t 29)),none⟩] rfl rfl (by kernel_rfl)
def s_f24_r6t2_tale:=hT s_f24_r6t2 [6,26,28,29,30] [7] 8 [] [(7,(.t 30))] [.tt 30] (by kernel_rfl) (by kernel_rfl)
def s_f24_r6t2_x:=hL s_f24_r6t2 [6,26,28,29,30] [7]
def s_f24_r7t2:List AOper:=[⟨some 8,(.move (.t 33)),none⟩]
def s_f24_r7p1:List AOper:=[⟨some 33,(.copy 1 (.t 31) (.t 32)),none⟩]
def s_f24_r7t1:List AOper:=s_f24_r7p1 ++ s_f24_r7t2
def s_f24_r7p0:List AOper:=[⟨some 31,(.move (.t 7)),none⟩,⟨some 32,(.move (.t 0)),none⟩]
def s_f24_r7:List AOper:=s_f24_r7p0 ++ s_f24_r7t1
def s_f24_r7p0_tale:=hT s_f24_r7p0 [0] [31,32] 33 [] [(31,(.t 7)),(32,(.t 0))] [.tt 7,.tt 0] (by kernel_rfl) (by kernel_rfl)
def s_f24_r7_x:=hS s_f24_r7 s_f24_r7p0 s_f24_r7t1 [0] [31,32] [0,31,32,33] rfl (by kernel_rfl)
def s_f24_r7t1_x:=hO s_f24_r7t1 s_f24_r7p1 s_f24_r7t2 [31,32] [0,31,32,33] [⟨some 33,(.copy 1 (.t 31) (.t 32)),none⟩] rfl rfl (by kernel_rfl)
def s_f24_r7t2_tale:=hT s_f24_r7t2 [0,31,32,33] [8] 9 [] [(8,(.t 33))] [.tt 33] (by kernel_rfl) (by kernel_rfl)
def s_f24_r7t2_x:=hL s_f24_r7t2 [0,31,32,33] [8]
def s_f24_r8:List AOper:=[
 ⟨some 34,(.move (.t 8)),none⟩,
 ⟨some 35,(.move (.t 7)),none⟩,
 ⟨some 36,(.lenS .s (.t 35)),none⟩,
 ⟨some 37,(.bin .lss (.t 34) (.t 36)),none⟩]
def s_f24_r8_tale:=hT s_f24_r8 [34,35,36] [37] 38 [] [(37,(.op (.bin .lss (.t 0) (.t 1)) [(.t 8),(.op (.lenS .s (.t 0)) [(.t 7)])]))] [.tt 8,.tt 7,.sub 0 [1] [],.sub 0 [] []] (by kernel_rfl) (by kernel_rfl)
def s_f24_r9t2:List AOper:=[⟨some 46,(.bin .add (.t 38) (.t 45)),none⟩,⟨some 8,(.move (.t 46)),none⟩]
def s_f24_r9p1:List AOper:=[⟨some 45,(.copy 1 (.t 41) (.t 44)),none⟩]
def s_f24_r9t1:List AOper:=s_f24_r9p1 ++ s_f24_r9t2
def s_f24_r9p0:List AOper:=[⟨some 38,(.move (.t 8)),none⟩,⟨some 39,(.move (.t 7)),none⟩,⟨some 40,(.move (.t 8)),none⟩,⟨some 41,(.subSl 1 (.t 39) (some (.t 40)) none none),none⟩,⟨some 42,(.move (.t 7)),none⟩,⟨some 43,(.move (.t 8)),none⟩,⟨some 44,(.subSl 1 (.t 42) none (some (.t 43)) none),none⟩]
def s_f24_r9:List AOper:=s_f24_r9p0 ++ s_f24_r9t1
def s_f24_r9p0_tale:=hT s_f24_r9p0 [8,37,39,40,42,43] [38,41,44] 45 [] [(38,(.t 8)),(41,(.op (.subSl 1 (.t 0) (some (.t 1)) none none) [(.t 7),(.t 8)])),(44,(.op (.subSl 1 (.t 0) none (some (.t 1)) none) [(.t 7),(.t 8)]))] [.tt 8,.tt 7,.tt 8,.sub 1 [] [],.tt 7,.tt 8,.sub 2 [] []] (by kernel_rfl) (by kernel_rfl)
def s_f24_r9_x:=hS s_f24_r9 s_f24_r9p0 s_f24_r9t1 [8,37,39,40,42,43] [38,41,44] [37,38,39,40,41,42,43,44,45,46] rfl (by kernel_rfl)
def s_f24_r9t1_x:=hO s_f24_r9t1 s_f24_r9p1 s_f24_r9t2 [41,44] [37,38,39,40,41,42,43,44,45,46] [⟨some 45,(.copy 1 (.t 41) (.t 44)),none⟩] rfl rfl (by kernel_rfl)
def s_f24_r9t2_tale:=hT s_f24_r9t2 [37,38,39,40,41,42,43,44,45,46] [8] 47 [] [(8,(.op (.bin .add (.t 0) (.t 1)) [(.t 38),(.t 45)]))] [.sub 0 [] [],.sub 0 [] []] (by kernel_rfl) (by kernel_rfl)
def s_f24_r9t2_x:=hL s_f24_r9t2 [37,38,39,40,41,42,43,44,45,46] [8]
def s_f24_l0_b:ACode:=
 (.seq (.seq (.regionE s_f24_r8 [34,35,36] [37])
 (.cond (.t 37)
 .skip
 (.exit 0)))
 (.block 1
 (.region s_f24_r9 [] [37,38,39,40,41,42,43,44,45,46])))
def s_f24_l0:ACode:=s_f24_l0_b
def s_f24_l0_ev:=hE s_f24_l0 s_f24_l0_b rfl
def s_f24_r10:List AOper:=[
 ⟨some 47,(.move (.t 7)),none⟩,
 ⟨some 4,(.move (.t 47)),none⟩]
def s_f24_r10_tale:=hT s_f24_r10 [7,8,37,47] [4] 48 [] [(4,(.t 7))] [.tt 7,.tt 7] (by kernel_rfl) (by kernel_rfl)
def s_f24:ACFun:={ ntmps:=48,results:=[(.tmp 4)],body:=
 (.seq (.regionE s_f24_r0 s_f24_r0_k [])
 (.seq (.seq (.regionE s_f24_r1 [9] [10])
 (.cond (.t 10)
 (.region s_f24_r2 [] [10,11])
 .skip))
 (.seq (.region s_f24_r3 [] [1,10,12,13,14,15,16,17,18,19,20])
 (.seq (.seq (.regionE s_f24_r4 [5,21,22,23,24,25] [26])
 (.cond (.t 26)
 (.region s_f24_r5 [] [26,27])
 .skip))
 (.seq (.region s_f24_r6 [] [6,26,28,29,30])
 (.seq (.region s_f24_r7 [] [0,31,32,33])
 (.seq (.block 0
 (.loop [] s_f24_l0))
 (.seq (.regionE s_f24_r10 [7,8,37,47] [4])
 .ret)))))))) }
abbrev k_f26:Nat:=26
def s_f26_r0_k:List Nat:=[4,5,6,7,8,9,10,11,12,13,14,15,16,17,18,19,20,21,22,23,24,25,26,27,28,29,30,31,32,33,34,35,36]
theorem s_f26_r0_kT:killV s_f26_r0_k (startV 37 [] 4)=[]:=by kernel_rfl
theorem s_f26_r0_kA0:s_f26_r0_k.contains 0=false:=by kernel_rfl
theorem s_f26_r0_kA1:s_f26_r0_k.contains 1=false:=by kernel_rfl
theorem s_f26_r0_kA2:s_f26_r0_k.contains 2=false:=by kernel_rfl
theorem s_f26_r0_kA3:s_f26_r0_k.contains 3=false:=by kernel_rfl
def s_f26_r0:List AOper:=[
 ⟨some 6,(.move (.c (.s (.int .i64 0)))),none⟩]
def s_f26_r0_tale:=hT s_f26_r0 s_f26_r0_k [] 7 [] [] [.cc (.s (.int .i64 0))] (by kernel_rfl) (by kernel_rfl)
def s_f26_r1:List AOper:=[
 ⟨some 7,(.move (.t 0)),none⟩,
 ⟨some 8,(.move (.t 1)),none⟩,
 ⟨some 9,(.bin .neq (.t 7) (.t 8)),none⟩]
def s_f26_r1_tale:=hT s_f26_r1 [7,8] [9] 10 [] [(9,(.op (.bin .neq (.t 0) (.t 1)) [(.t 0),(.t 1)]))] [.tt 0,.tt 1,.sub 0 [] []] (by kernel_rfl) (by kernel_rfl)
def s_f26_r2:List AOper:=[
 ⟨some 10,(.load false 1 (.t 2)),none⟩,
 ⟨some 11,(.move (.t 0)),none⟩,
 ⟨some 12,(.indexAddr 1 (.t 10) (.t 11)),none⟩,
 ⟨some 13,(.load false 1 (.t 12)),none⟩,
 ⟨some 14,(.load false 1 (.t 2)),none⟩,
 ⟨some 15,(.move (.t 1)),none⟩,
 ⟨some 16,(.indexAddr 1 (.t 14) (.t 15)),none⟩,
 ⟨some 17,(.load false 1 (.t 16)),none⟩,
 ⟨some 18,(.bin .gtr (.t 13) (.t 17)),none⟩]
def s_f26_r2_tale:=hT s_f26_r2 [10,11,12,13,14,15,16,17] [18] 19 [] [(18,(.op (.bin .gtr (.t 0) (.t 1)) [(.op (.load false 1 (.t 0)) [(.op (.indexAddr 1 (.t 0) (.t 1)) [(.op (.load false 1 (.t 0)) [(.t 2)]),(.t 0)])]),(.op (.load false 1 (.t 0)) [(.op (.indexAddr 1 (.t 0) (.t 1)) [(.op (.load false 1 (.t 0)) [(.t 2)]),(.t 1)])])]))] [.sub 0 [0,0,0] [],.tt 0,.sub 0 [0,0] [],.sub 0 [0] [],.sub 0 [0,0,0] [],.tt 1,.sub 0 [1,0] [],.sub 0 [1] [],.sub 0 [] []] (by kernel_rfl) (by kernel_rfl)
def s_f26_r3:List AOper:=[
 ⟨some 19,(.load false 1 (.t 3)),none⟩,
 ⟨some 20,(.move (.t 0)),none⟩,
 ⟨some 21,(.indexAddr 1 (.t 19) (.t 20)),none⟩,
 ⟨some 22,(.load false 1 (.t 21)),none⟩,
 ⟨some 0,(.move (.t 22)),none⟩]
def s_f26_r3_tale:=hT s_f26_r3 [18,19,20,21,22] [0] 23 [] [(0,(.op (.load false 1 (.t 0)) [(.op (.indexAddr 1 (.t 0) (.t 1)) [(.op (.load false 1 (.t 0)) [(.t 3)]),(.t 0)])]))] [.sub 0 [0,0] [],.tt 0,.sub 0 [0] [],.sub 0 [] [],.sub 0 [] []] (by kernel_rfl) (by kernel_rfl)
def s_f26_l0_b:ACode:=
 (.seq (.seq (.regionE s_f26_r2 [10,11,12,13,14,15,16,17] [18])
 (.cond (.t 18)
 .skip
 (.exit 2)))
 (.block 3
 (.regionE s_f26_r3 [18,19,20,21,22] [0])))
def s_f26_l0:ACode:=s_f26_l0_b
def s_f26_l0_ev:=hE s_f26_l0 s_f26_l0_b rfl
def s_f26_r4:List AOper:=[
 ⟨some 23,(.load false 1 (.t 2)),none⟩,
 ⟨some 24,(.move (.t 1)),none⟩,
 ⟨some 25,(.indexAddr 1 (.t 23) (.t 24)),none⟩,
 ⟨some 26,(.load false 1 (.t 25)),none⟩,
 ⟨some 27,(.load false 1 (.t 2)),none⟩,
 ⟨some 28,(.move (.t 0)),none⟩,
 ⟨some 29,(.indexAddr 1 (.t 27) (.t 28)),none⟩,
 ⟨some 30,(.load false 1 (.t 29)),none⟩,
 ⟨some 31,(.bin .gtr (.t 26) (.t 30)),none⟩]
def s_f26_r4_tale:=hT s_f26_r4 [23,24,25,26,27,28,29,30] [31] 32 [] [(31,(.op (.bin .gtr (.t 0) (.t 1)) [(.op (.load false 1 (.t 0)) [(.op (.indexAddr 1 (.t 0) (.t 1)) [(.op (.load false 1 (.t 0)) [(.t 2)]),(.t 1)])]),(.op (.load false 1 (.t 0)) [(.op (.indexAddr 1 (.t 0) (.t 1)) [(.op (.load false 1 (.t 0)) [(.t 2)]),(.t 0)])])]))] [.sub 0 [0,0,0] [],.tt 1,.sub 0 [0,0] [],.sub 0 [0] [],.sub 0 [0,0,0] [],.tt 0,.sub 0 [1,0] [],.sub 0 [1] [],.sub 0 [] []] (by kernel_rfl) (by kernel_rfl)
def s_f26_r5:List AOper:=[
 ⟨some 32,(.load false 1 (.t 3)),none⟩,
 ⟨some 33,(.move (.t 1)),none⟩,
 ⟨some 34,(.indexAddr 1 (.t 32) (.t 33)),none⟩,
 ⟨some 35,(.load false 1 (.t 34)),none⟩,
 ⟨some 1,(.move (.t 35)),none⟩]
def s_f26_r5_tale:=hT s_f26_r5 [31,32,33,34,35] [1] 36 [] [(1,(.op (.load false 1 (.t 0)) [(.op (.indexAddr 1 (.t 0) (.t 1)) [(.op (.load false 1 (.t 0)) [(.t 3)]),(.t 1)])]))] [.sub 0 [0,0] [],.tt 1,.sub 0 [0] [],.sub 0 [] [],.sub 0 [] []] (by kernel_rfl) (by kernel_rfl)
def s_f26_l1_b:ACode:=
 (.seq (.seq (.regionE s_f26_r4 [23,24,25,26,27,28,29,30] [31])
 (.cond (.t 31)
 .skip
 (.exit 4)))
 (.block 5
 (.regionE s_f26_r5 [31,32,33,34,35] [1])))
def s_f26_l1:ACode:=s_f26_l1_b
def s_f26_l1_ev:=hE s_f26_l1 s_f26_l1_b rfl
def s_f26_l2_b:ACode:=
 (.seq (.seq (.regionE s_f26_r1 [7,8] [9])
 (.cond (.t 9)
 .skip
 (.exit 0)))
 (.block 1
 (.seq (.block 2
 (.loop [9] s_f26_l0))
 (.block 4
 (.loop [18] s_f26_l1)))))
def s_f26_l2:ACode:=s_f26_l2_b
def s_f26_l2_ev:=hE s_f26_l2 s_f26_l2_b rfl
def s_f26_r6:List AOper:=[
 ⟨some 36,(.move (.t 0)),none⟩,
 ⟨some 6,(.move (.t 36)),none⟩]
def s_f26_r6_tale:=hT s_f26_r6 [0,1,2,3,9,36] [6] 37 [] [(6,(.t 0))] [.tt 0,.tt 0] (by kernel_rfl) (by kernel_rfl)
def s_f26:ACFun:={ ntmps:=37,results:=[(.tmp 6)],body:=
 (.seq (.regionE s_f26_r0 s_f26_r0_k [])
 (.seq (.block 0
 (.loop [31] s_f26_l2))
 (.seq (.regionE s_f26_r6 [0,1,2,3,9,36] [6])
 .ret))) }
abbrev k_f39:Nat:=39
def s_f39_r0_k:List Nat:=[2,3,4,5,6,7,8,9,10,11,12,13,14,15,16,17,18,19,20,21,22,23,24,25,26,27,28,29]
theorem s_f39_r0_kT:killV s_f39_r0_k (startV 30 [] 2)=[]:=by kernel_rfl
theorem s_f39_r0_kA0:s_f39_r0_k.contains 0=false:=by kernel_rfl
theorem s_f39_r0_kA1:s_f39_r0_k.contains 1=false:=by kernel_rfl
def s_f39_r0:List AOper:=[
 ⟨some 4,(.move (.c (.s (.int .u64 0)))),none⟩,
 ⟨some 5,(.move (.c (.s (.int .u64 0)))),none⟩]
def s_f39_r0_tale:=hT s_f39_r0 s_f39_r0_k [] 6 [] [] [.cc (.s (.int .u64 0)),.cc (.s (.int .u64 0))] (by kernel_rfl) (by kernel_rfl)
def s_f39_r1t2:List AOper:=[⟨some 10,(.move (.t 15)),none⟩,⟨some 16,(.extract (.t 10) 0),none⟩,⟨some 17,(.extract (.t 10) 1),none⟩,⟨some 6,(.move (.t 16)),none⟩,⟨some 7,(.move (.t 17)),none⟩]
def s_f39_r1p1:List AOper:=[⟨some 15,(.call (.c (.fn 50 [] [])) [(.t 12),(.t 14)]),none⟩]
def s_f39_r1t1:List AOper:=s_f39_r1p1 ++ s_f39_r1t2
def s_f39_r1p0:List AOper:=[⟨some 11,(.move (.t 0)),none⟩,⟨some 12,(.conv .u32 (.t 11)),none⟩,⟨some 13,(.move (.t 1)),none⟩,⟨some 14,(.conv .u32 (.t 13)),none⟩]
def s_f39_r1:List AOper:=s_f39_r1p0 ++ s_f39_r1t1
def s_f39_r1p0_tale:=hT s_f39_r1p0 [0,1,11,13] [12,14] 15 [] [(12,(.op (.conv .u32 (.t 0)) [(.t 0)])),(14,(.op (.conv .u32 (.t 0)) [(.t 1)]))] [.tt 0,.sub 0 [] [],.tt 1,.sub 1 [] []] (by kernel_rfl) (by kernel_rfl)
def s_f39_r1_x:=hS s_f39_r1 s_f39_r1p0 s_f39_r1t1 [0,1,11,13] [12,14] [0,1,10,11,12,13,14,15,16,17] rfl (by kernel_rfl)
def s_f39_r1t1_x:=hO s_f39_r1t1 s_f39_r1p1 s_f39_r1t2 [12,14] [0,1,10,11,12,13,14,15,16,17] [⟨some 15,(.call (.c (.fn 50 [] [])) [(.t 12),(.t 14)]),none⟩] rfl rfl (by kernel_rfl)
def s_f39_r1t2_tale:=hT s_f39_r1t2 [0,1,10,11,12,13,14,15,16,17] [6,7] 18 [] [(6,(.op (.extract (.t 0) 0) [(.t 15)])),(7,(.op (.extract (.t 0) 1) [(.t 15)]))] [.tt 15,.sub 0 [] [],.sub 1 [] [],.sub 0 [] [],.sub 1 [] []] (by kernel_rfl) (by kernel_rfl)
def s_f39_r1t2_x:=hL s_f39_r1t2 [0,1,10,11,12,13,14,15,16,17] [6,7]
def s_f39_r2:List AOper:=[
 ⟨some 18,(.move (.t 6)),none⟩,
 ⟨some 19,(.conv .u64 (.t 18)),none⟩,
 ⟨some 20,(.move (.t 7)),none⟩,
 ⟨some 21,(.conv .u64 (.t 20)),none⟩,
 ⟨some 4,(.move (.t 19)),none⟩,
 ⟨some 5,(.move (.t 21)),none⟩]
def s_f39_r2_tale:=hT s_f39_r2 [6,7,18,19,20,21] [4,5] 22 [] [(4,(.op (.conv .u64 (.t 0)) [(.t 6)])),(5,(.op (.conv .u64 (.t 0)) [(.t 7)]))] [.tt 6,.sub 0 [] [],.tt 7,.sub 1 [] [],.sub 0 [] [],.sub 1 [] []] (by kernel_rfl) (by kernel_rfl)
def s_f39_r3t2:List AOper:=[⟨some 22,(.move (.t 25)),none⟩,⟨some 26,(.extract (.t 22) 0),none⟩,⟨some 27,(.extract (.t 22) 1),none⟩,⟨some 8,(.move (.t 26)),none⟩,⟨some 9,(.move (.t 27)),none⟩]
def s_f39_r3p1:List AOper:=[⟨some 25,(.call (.c (.fn 51 [] [])) [(.t 23),(.t 24)]),none⟩]
def s_f39_r3t1:List AOper:=s_f39_r3p1 ++ s_f39_r3t2
def s_f39_r3p0:List AOper:=[⟨some 23,(.move (.t 0)),none⟩,⟨some 24,(.move (.t 1)),none⟩]
def s_f39_r3:List AOper:=s_f39_r3p0 ++ s_f39_r3t1
def s_f39_r3p0_tale:=hT s_f39_r3p0 [0,1] [23,24] 25 [] [(23,(.t 0)),(24,(.t 1))] [.tt 0,.tt 1] (by kernel_rfl) (by kernel_rfl)
def s_f39_r3_x:=hS s_f39_r3 s_f39_r3p0 s_f39_r3t1 [0,1] [23,24] [0,1,22,23,24,25,26,27] rfl (by kernel_rfl)
def s_f39_r3t1_x:=hO s_f39_r3t1 s_f39_r3p1 s_f39_r3t2 [23,24] [0,1,22,23,24,25,26,27] [⟨some 25,(.call (.c (.fn 51 [] [])) [(.t 23),(.t 24)]),none⟩] rfl rfl (by kernel_rfl)
def s_f39_r3t2_tale:=hT s_f39_r3t2 [0,1,22,23,24,25,26,27] [8,9] 28 [] [(8,(.op (.extract (.t 0) 0) [(.t 25)])),(9,(.op (.extract (.t 0) 1) [(.t 25)]))] [.tt 25,.sub 0 [] [],.sub 1 [] [],.sub 0 [] [],.sub 1 [] []] (by kernel_rfl) (by kernel_rfl)
def s_f39_r3t2_x:=hL s_f39_r3t2 [0,1,22,23,24,25,26,27] [8,9]
def s_f39_r4:List AOper:=[
 ⟨some 28,(.move (.t 8)),none⟩,
 ⟨some 29,(.move (.t 9)),none⟩,
 ⟨some 4,(.move (.t 28)),none⟩,
 ⟨some 5,(.move (.t 29)),none⟩]
def s_f39_r4_tale:=hT s_f39_r4 [8,9,28,29] [4,5] 30 [] [(4,(.t 8)),(5,(.t 9))] [.tt 8,.tt 9,.tt 8,.tt 9] (by kernel_rfl) (by kernel_rfl)
def s_f39:ACFun:={ ntmps:=30,results:=[(.tmp 4),(.tmp 5)],body:=
 (.seq (.regionE s_f39_r0 s_f39_r0_k [])
 (.seq (.cond (.c (.s (.bool false)))
 (.seq (.region s_f39_r1 [] [0,1,10,11,12,13,14,15,16,17])
 (.seq (.regionE s_f39_r2 [6,7,18,19,20,21] [4,5])
 .ret))
 .skip)
 (.seq (.region s_f39_r3 [] [0,1,22,23,24,25,26,27])
 (.seq (.regionE s_f39_r4 [8,9,28,29] [4,5])
 .ret)))) }
abbrev k_f51:Nat:=51
def s_f51_r0_k:List Nat:=[2,3,4,5,6,7,8,9,10,11,12,13,14,15,16,17,18,19,20,21,22,23,24,25,26,27,28,29,30,31,32,33,34,35,36,37,38,39,40,41,42,43,44,45,46,47,48,49,50]
theorem s_f51_r0_kT:killV s_f51_r0_k (startV 51 [] 2)=[]:=by kernel_rfl
theorem s_f51_r0_kA0:s_f51_r0_k.contains 0=false:=by kernel_rfl
theorem s_f51_r0_kA1:s_f51_r0_k.contains 1=false:=by kernel_rfl
def s_f51_r0:List AOper:=[
 ⟨some 4,(.move (.c (.s (.int .u64 0)))),none⟩,
 ⟨some 5,(.move (.c (.s (.int .u64 0)))),none⟩]
def s_f51_r0_tale:=hT s_f51_r0 s_f51_r0_k [] 6 [] [] [.cc (.s (.int .u64 0)),.cc (.s (.int .u64 0))] (by kernel_rfl) (by kernel_rfl)
def s_f51_r1:List AOper:=[
 ⟨some 14,(.move (.t 0)),none⟩,
 ⟨some 15,(.bin .and (.t 14) (.c (.s (.int .u64 4294967295)))),none⟩,
 ⟨some 6,(.move (.t 15)),none⟩]
def s_f51_r1_tale:=hT s_f51_r1 [14,15] [6] 16 [] [(6,(.op (.bin .and (.t 0) (.c (.s (.int .u64 4294967295)))) [(.t 0),(.c (.s (.int .u64 4294967295)))]))] [.tt 0,.sub 0 [] [],.sub 0 [] []] (by kernel_rfl) (by kernel_rfl)
def s_f51_r2:List AOper:=[
 ⟨some 16,(.move (.t 0)),none⟩,
 ⟨some 17,(.bin .shr (.t 16) (.c (.s (.int .u64 32)))),none⟩,
 ⟨some 7,(.move (.t 17)),none⟩]
def s_f51_r2_tale:=hT s_f51_r2 [16,17] [7] 18 [] [(7,(.op (.bin .shr (.t 0) (.c (.s (.int .u64 32)))) [(.t 0),(.c (.s (.int .u64 32)))]))] [.tt 0,.sub 0 [] [],.sub 0 [] []] (by kernel_rfl) (by kernel_rfl)
def s_f51_r3:List AOper:=[
 ⟨some 18,(.move (.t 1)),none⟩,
 ⟨some 19,(.bin .and (.t 18) (.c (.s (.int .u64 4294967295)))),none⟩,
 ⟨some 8,(.move (.t 19)),none⟩]
def s_f51_r3_tale:=hT s_f51_r3 [18,19] [8] 20 [] [(8,(.op (.bin .and (.t 0) (.c (.s (.int .u64 4294967295)))) [(.t 1),(.c (.s (.int .u64 4294967295)))]))] [.tt 1,.sub 0 [] [],.sub 0 [] []] (by kernel_rfl) (by kernel_rfl)
def s_f51_r4:List AOper:=[
 ⟨some 20,(.move (.t 1)),none⟩,
 ⟨some 21,(.bin .shr (.t 20) (.c (.s (.int .u64 32)))),none⟩,
 ⟨some 9,(.move (.t 21)),none⟩]
def s_f51_r4_tale:=hT s_f51_r4 [20,21] [9] 22 [] [(9,(.op (.bin .shr (.t 0) (.c (.s (.int .u64 32)))) [(.t 1),(.c (.s (.int .u64 32)))]))] [.tt 1,.sub 0 [] [],.sub 0 [] []] (by kernel_rfl) (by kernel_rfl)
def s_f51_r5:List AOper:=[
 ⟨some 22,(.move (.t 6)),none⟩,
 ⟨some 23,(.move (.t 8)),none⟩,
 ⟨some 24,(.bin .mul (.t 22) (.t 23)),none⟩,
 ⟨some 10,(.move (.t 24)),none⟩]
def s_f51_r5_tale:=hT s_f51_r5 [22,23,24] [10] 25 [] [(10,(.op (.bin .mul (.t 0) (.t 1)) [(.t 6),(.t 8)]))] [.tt 6,.tt 8,.sub 0 [] [],.sub 0 [] []] (by kernel_rfl) (by kernel_rfl)
def s_f51_r6:List AOper:=[
 ⟨some 25,(.move (.t 7)),none⟩,
 ⟨some 26,(.move (.t 8)),none⟩,
 ⟨some 27,(.bin .mul (.t 25) (.t 26)),none⟩,
 ⟨some 28,(.move (.t 10)),none⟩,
 ⟨some 29,(.bin .shr (.t 28) (.c (.s (.int .u64 32)))),none⟩,
 ⟨some 30,(.bin .add (.t 27) (.t 29)),none⟩,
 ⟨some 11,(.move (.t 30)),none⟩]
def s_f51_r6_tale:=hT s_f51_r6 [8,10,25,26,27,28,29,30] [11] 31 [] [(11,(.op (.bin .add (.t 0) (.t 1)) [(.op (.bin .mul (.t 0) (.t 1)) [(.t 7),(.t 8)]),(.op (.bin .shr (.t 0) (.c (.s (.int .u64 32)))) [(.t 10),(.c (.s (.int .u64 32)))])]))] [.tt 7,.tt 8,.sub 0 [0] [],.tt 10,.sub 0 [1] [],.sub 0 [] [],.sub 0 [] []] (by kernel_rfl) (by kernel_rfl)
def s_f51_r7:List AOper:=[
 ⟨some 31,(.move (.t 11)),none⟩,
 ⟨some 32,(.bin .and (.t 31) (.c (.s (.int .u64 4294967295)))),none⟩,
 ⟨some 12,(.move (.t 32)),none⟩]
def s_f51_r7_tale:=hT s_f51_r7 [31,32] [12] 33 [] [(12,(.op (.bin .and (.t 0) (.c (.s (.int .u64 4294967295)))) [(.t 11),(.c (.s (.int .u64 4294967295)))]))] [.tt 11,.sub 0 [] [],.sub 0 [] []] (by kernel_rfl) (by kernel_rfl)
def s_f51_r8:List AOper:=[
 ⟨some 33,(.move (.t 11)),none⟩,
 ⟨some 34,(.bin .shr (.t 33) (.c (.s (.int .u64 32)))),none⟩,
 ⟨some 13,(.move (.t 34)),none⟩]
def s_f51_r8_tale:=hT s_f51_r8 [11,33,34] [13] 35 [] [(13,(.op (.bin .shr (.t 0) (.c (.s (.int .u64 32)))) [(.t 11),(.c (.s (.int .u64 32)))]))] [.tt 11,.sub 0 [] [],.sub 0 [] []] (by kernel_rfl) (by kernel_rfl)
def s_f51_r9:List AOper:=[
 ⟨some 35,(.move (.t 12)),none⟩,
 ⟨some 36,(.move (.t 6)),none⟩,
 ⟨some 37,(.move (.t 9)),none⟩,
 ⟨some 38,(.bin .mul (.t 36) (.t 37)),none⟩,
 ⟨some 39,(.bin .add (.t 35) (.t 38)),none⟩,
 ⟨some 12,(.move (.t 39)),none⟩]
def s_f51_r9_tale:=hT s_f51_r9 [6,35,36,37,38,39] [12] 40 [] [(12,(.op (.bin .add (.t 0) (.t 1)) [(.t 12),(.op (.bin .mul (.t 0) (.t 1)) [(.t 6),(.t 9)])]))] [.tt 12,.tt 6,.tt 9,.sub 0 [1] [],.sub 0 [] [],.sub 0 [] []] (by kernel_rfl) (by kernel_rfl)
def s_f51_r10:List AOper:=[
 ⟨some 40,(.move (.t 7)),none⟩,
 ⟨some 41,(.move (.t 9)),none⟩,
 ⟨some 42,(.bin .mul (.t 40) (.t 41)),none⟩,
 ⟨some 43,(.move (.t 13)),none⟩,
 ⟨some 44,(.bin .add (.t 42) (.t 43)),none⟩,
 ⟨some 45,(.move (.t 12)),none⟩,
 ⟨some 46,(.bin .shr (.t 45) (.c (.s (.int .u64 32)))),none⟩,
 ⟨some 47,(.bin .add (.t 44) (.t 46)),none⟩,
 ⟨some 4,(.move (.t 47)),none⟩]
def s_f51_r10_tale:=hT s_f51_r10 [7,9,12,13,40,41,42,43,44,45,46,47] [4] 48 [] [(4,(.op (.bin .add (.t 0) (.t 1)) [(.op (.bin .add (.t 0) (.t 1)) [(.op (.bin .mul (.t 0) (.t 1)) [(.t 7),(.t 9)]),(.t 13)]),(.op (.bin .shr (.t 0) (.c (.s (.int .u64 32)))) [(.t 12),(.c (.s (.int .u64 32)))])]))] [.tt 7,.tt 9,.sub 0 [0,0] [],.tt 13,.sub 0 [0] [],.tt 12,.sub 0 [1] [],.sub 0 [] [],.sub 0 [] []] (by kernel_rfl) (by kernel_rfl)
def s_f51_r11:List AOper:=[
 ⟨some 48,(.move (.t 0)),none⟩,
 ⟨some 49,(.move (.t 1)),none⟩,
 ⟨some 50,(.bin .mul (.t 48) (.t 49)),none⟩,
 ⟨some 5,(.move (.t 50)),none⟩]
def s_f51_r11_tale:=hT s_f51_r11 [0,1,48,49,50] [5] 51 [] [(5,(.op (.bin .mul (.t 0) (.t 1)) [(.t 0),(.t 1)]))] [.tt 0,.tt 1,.sub 0 [] [],.sub 0 [] []] (by kernel_rfl) (by kernel_rfl)
def s_f51:ACFun:={ ntmps:=51,results:=[(.tmp 4),(.tmp 5)],body:=
 (.seq (.regionE s_f51_r0 s_f51_r0_k [])
 (.seq (.regionE s_f51_r1 [14,15] [6])
 (.seq (.regionE s_f51_r2 [16,17] [7])
 (.seq (.regionE s_f51_r3 [18,19] [8])
 (.seq (.regionE s_f51_r4 [20,21] [9])
 (.seq (.regionE s_f51_r5 [22,23,24] [10])
 (.seq (.regionE s_f51_r6 [8,10,25,26,27,28,29,30] [11])
 (.seq (.regionE s_f51_r7 [31,32] [12])
 (.seq (.regionE s_f51_r8 [11,33,34] [13])
 (.seq (.regionE s_f51_r9 [6,35,36,37,38,39] [12])
 (.seq (.regionE s_f51_r10 [7,9,12,13,40,41,42,43,44,45,46,47] [4])
 (.seq (.regionE s_f51_r11 [0,1,48,49,50] [5])
 .ret)))))))))))) }
def a_f10:=ai @s_f10_r0_tale (ai @s_f10_r0_kT (ai @s_f10_r0_kA0 (ai @s_f10_r0_kA1 (ai @s_f10_r1_x (ai @s_f10_r1p1_tale (ai @s_f10_r1t1_x (ai @s_f10_r1t2_x (ai @s_f10_r1t3_x (ai @s_f10_r1t4_x (ai @s_f10_r2p0_tale (ai @s_f10_r2_x (ai @s_f10_r2t1_x (ai @s_f10_r2t2_tale (ai @s_f10_r2t2_x (ai @s_f10_r3_tale (ai @s_f10_r4_tale (ai @s_f10_r5p0_tale (ai @s_f10_r5_x (ai @s_f10_r5t1_x (ai @s_f10_r5t2_x (ai @s_f10_r5t3_x (ai @s_f10_r6_tale (ai @s_f10_r7_tale (ai @s_f10_r8_tale (ai @s_f10_r9p0_tale (ai @s_f10_r9_x (ai @s_f10_r9t1_x (ai @s_f10_r10_tale (ai @s_f10_l0_ev (ai @s_f10_r11p0_tale (ai @s_f10_r11_x (ai @s_f10_r11t1_x (ai @s_f10_r11t2_tale (ai @s_f10_r11t2_x (ai @s_f10_r12p0_tale (ai @s_f10_r12_x (ai @s_f10_r12t1_x (ai @s_f10_r13_tale (ai @s_f10_r14_tale (ai @s_f10_r15_tale (ai @s_f10_r16_tale (ai @s_f10_r17_tale (ai @s_f10_r18_tale (ai @s_f10_r19_tale (ai @s_f10_r20_tale (ai @s_f10_r21_tale (ai @s_f10_r22_tale (ai @s_f10_r23_tale (ai @s_f10_r24_tale (ai @s_f10_r25_tale (ai @s_f10_r26_tale (ai @s_f10_r27p0_tale (ai @s_f10_r27_x (ai @s_f10_r27t1_x (ai @s_f10_r27t2_tale (ai @s_f10_r27t2_x (ai @s_f10_r28_tale (ai @s_f10_l1_ev (ai @s_f10_r29_tale (ai @s_f10_r30p0_tale (ai @s_f10_r30_x (ai @s_f10_r30t1_x (ai @s_f10_r30t2_tale (ai @s_f10_r30t2_x (ai @s_f10_r31_tale (ai @s_f10_l2_ev (ai @s_f10_l3_ev (ai @s_f10_r32p0_tale (ai @s_f10_r32_x (ai @s_f10_r32t1_x (@s_f10_r33_tale)))))))))))))))))))))))))))))))))))))))))))))))))))))))))))))))))))))))
def a_f13:=ai @s_f13_r0_tale (ai @s_f13_r0_kT (ai @s_f13_r0_kA0 (ai @s_f13_r0_kA1 (ai @s_f13_r0_kA2 (ai @s_f13_r1_tale (ai @s_f13_r2_tale (ai @s_f13_r3_tale (ai @s_f13_r4_tale (ai @s_f13_r5_tale (ai @s_f13_r6_tale (ai @s_f13_r7_tale (ai @s_f13_r8_tale (ai @s_f13_r9_tale (ai @s_f13_r10_tale (ai @s_f13_l0_ev (@s_f13_r11_tale))))))))))))))))
def a_f24:=ai @s_f24_r0_tale (ai @s_f24_r0_kT (ai @s_f24_r0_kA0 (ai @s_f24_r0_kA1 (ai @s_f24_r1_tale (ai @s_f24_r2_x (ai @s_f24_r2t1_x (ai @s_f24_r3p0_tale (ai @s_f24_r3_x (ai @s_f24_r3t1_x (ai @s_f24_r3t2_tale (ai @s_f24_r3t2_x (ai @s_f24_r4_tale (ai @s_f24_r5_x (ai @s_f24_r5t1_x (ai @s_f24_r6p0_tale (ai @s_f24_r6_x (ai @s_f24_r6t1_x (ai @s_f24_r6t2_tale (ai @s_f24_r6t2_x (ai @s_f24_r7p0_tale (ai @s_f24_r7_x (ai @s_f24_r7t1_x (ai @s_f24_r7t2_tale (ai @s_f24_r7t2_x (ai @s_f24_r8_tale (ai @s_f24_r9p0_tale (ai @s_f24_r9_x (ai @s_f24_r9t1_x (ai @s_f24_r9t2_tale (ai @s_f24_r9t2_x (ai @s_f24_l0_ev (@s_f24_r10_tale))))))))))))))))))))))))))))))))
def a_f26:=ai @s_f26_r0_tale (ai @s_f26_r0_kT (ai @s_f26_r0_kA0 (ai @s_f26_r0_kA1 (ai @s_f26_r0_kA2 (ai @s_f26_r0_kA3 (ai @s_f26_r1_tale (ai @s_f26_r2_tale (ai @s_f26_r3_tale (ai @s_f26_l0_ev (ai @s_f26_r4_tale (ai @s_f26_r5_tale (ai @s_f26_l1_ev (ai @s_f26_l2_ev (@s_f26_r6_tale))))))))))))))
def a_f39:=ai @s_f39_r0_tale (ai @s_f39_r0_kT (ai @s_f39_r0_kA0 (ai @s_f39_r0_kA1 (ai @s_f39_r1p0_tale (ai @s_f39_r1_x (ai @s_f39_r1t1_x (ai @s_f39_r1t2_tale (ai @s_f39_r1t2_x (ai @s_f39_r2_tale (ai @s_f39_r3p0_tale (ai @s_f39_r3_x (ai @s_f39_r3t1_x (ai @s_f39_r3t2_tale (ai @s_f39_r3t2_x (@s_f39_r4_tale)))))))))))))))
def a_f51:=ai @s_f51_r0_tale (ai @s_f51_r0_kT (ai @s_f51_r0_kA0 (ai @s_f51_r0_kA1 (ai @s_f51_r1_tale (ai @s_f51_r2_tale (ai @s_f51_r3_tale (ai @s_f51_r4_tale (ai @s_f51_r5_tale (ai @s_f51_r6_tale (ai @s_f51_r7_tale (ai @s_f51_r8_tale (ai @s_f51_r9_tale (ai @s_f51_r10_tale (@s_f51_r11_tale))))))))))))))
theorem DA1_10:compK Try.prog PX0 10=some (false,s_f10.ntmps,s_f10.results,s_f10.body.bare):=by kernel_rfl
theorem DA1_26:compK Try.prog PX0 26=some (false,s_f26.ntmps,s_f26.results,s_f26.body.bare):=by kernel_rfl
theorem DA1_24:compK Try.prog PX0 24=some (false,s_f24.ntmps,s_f24.results,s_f24.body.bare):=by kernel_rfl
theorem DA1_39:compK Try.prog PX0 39=some (false,s_f39.ntmps,s_f39.results,s_f39.body.bare):=by kernel_rfl
theorem DA1_51:compK Try.prog PX0 51=some (false,s_f51.ntmps,s_f51.results,s_f51.body.bare):=by kernel_rfl
theorem DA1_13:compK Try.prog PX0 13=some (false,s_f13.ntmps,s_f13.results,s_f13.body.bare):=by kernel_rfl
end Go.Proofs.Ytdmnenlpdeolaaa
set_option maxRecDepth 100000
namespace Go.Proofs.Ytdmnenlpdeolaaa
open Go.AM
abbrev k_f18:Nat:=18
def s_f18_r0_k:List Nat:=[0,2,3,4,5,6,7,8,9,10,11,12,13,14,15,16,17,18,19,20,21,22,23,24,25,26,27,28,29]
theorem s_f18_r0_k_kA0:s_f18_r0_k.contains 0=true:=by kernel_rfl
theorem s_f18_r0_k_kA1:s_f18_r0_k.contains 1=false:=by kernel_rfl
theorem s_f18_r0_k_kA2:s_f18_r0_k.contains 2=true:=by kernel_rfl
def s_f18_r0t1:List AOper:=[⟨some 2,(.move (.c (.s (.slice none 0 0)))),none⟩]
def s_f18_r0p0:List AOper:=[⟨some 1,(.box (.t 0)),none⟩]
def s_f18_r0:List AOper:=s_f18_r0p0 ++ s_f18_r0t1
def s_f18_r0_x:=hO s_f18_r0 s_f18_r0p0 s_f18_r0t1 [0,2,3,4,5,6,7,8,9,10,11,12,13,14,15,16,17,18,19,20,21,22,23,24,25,26,27,28,29] s_f18_r0_k [⟨some 1,(.box (.t 0)),none⟩] rfl rfl (by kernel_rfl)
def s_f18_r0t1_tale:=hT s_f18_r0t1 s_f18_r0_k [] 3 [] [] [.cc (.s (.slice none 0 0))] (by kernel_rfl) (by kernel_rfl)
def s_f18_r0t1_x:=hL s_f18_r0t1 s_f18_r0_k []
def s_f18_r1t2:List AOper:=[⟨some 3,(.move (.t 9)),none⟩]
def s_f18_r1p1:List AOper:=[⟨some 9,(.mkSl [(.s (.slice none 0 0))] 1 24 (.t 8) (.t 8)),none⟩]
def s_f18_r1t1:List AOper:=s_f18_r1p1 ++ s_f18_r1t2
def s_f18_r1p0:List AOper:=[⟨some 7,(.load false 1 (.t 1)),none⟩,⟨some 8,(.lenS .s (.t 7)),none⟩]
def s_f18_r1:List AOper:=s_f18_r1p0 ++ s_f18_r1t1
def s_f18_r1p0_tale:=hT s_f18_r1p0 [7] [8] 9 [] [(8,(.op (.lenS .s (.t 0)) [(.op (.load false 1 (.t 0)) [(.t 1)])]))] [.sub 0 [0] [],.sub 0 [] []] (by kernel_rfl) (by kernel_rfl)
def s_f18_r1_x:=hS s_f18_r1 s_f18_r1p0 s_f18_r1t1 [7] [8] [7,8,9] rfl (by kernel_rfl)
def s_f18_r1t1_x:=hO s_f18_r1t1 s_f18_r1p1 s_f18_r1t2 [8] [7,8,9] [⟨some 9,(.mkSl [(.s (.slice none 0 0))] 1 24 (.t 8) (.t 8)),none⟩] rfl rfl (by kernel_rfl)
def s_f18_r1t2_tale:=hT s_f18_r1t2 [7,8,9] [3] 4 [] [(3,(.t 9))] [.tt 9] (by kernel_rfl) (by kernel_rfl)
def s_f18_r1t2_x:=hL s_f18_r1t2 [7,8,9] [3]
def s_f18_r2:List AOper:=[
 ⟨some 10,(.load false 1 (.t 1)),none⟩,
 ⟨some 11,(.lenS .s (.t 10)),none⟩,
 ⟨some 12,(.move (.c (.s (.int .i64 0)))),none⟩]
def s_f18_r2_tale:=hT s_f18_r2 [] [10,11,12] 13 [] [(10,(.op (.load false 1 (.t 0)) [(.t 1)])),(11,(.op (.lenS .s (.t 0)) [(.op (.load false 1 (.t 0)) [(.t 1)])])),(12,(.c (.s (.int .i64 0))))] [.sub 0 [] [],.sub 1 [] [],.cc (.s (.int .i64 0))] (by kernel_rfl) (by kernel_rfl)
def s_f18_r3:List AOper:=[
 ⟨some 13,(.bin .lss (.t 12) (.t 11)),none⟩]
def s_f18_r3_tale:=hT s_f18_r3 [] [13] 14 [] [(13,(.op (.bin .lss (.t 0) (.t 1)) [(.t 12),(.t 11)]))] [.sub 0 [] []] (by kernel_rfl) (by kernel_rfl)
def s_f18_r4:List AOper:=[
 ⟨some 14,(.move (.t 12)),none⟩,
 ⟨some 15,(.indexAddr 1 (.t 10) (.t 12)),none⟩,
 ⟨some 16,(.load false 1 (.t 15)),none⟩,
 ⟨some 4,(.move (.t 14)),none⟩,
 ⟨some 5,(.move (.t 16)),none⟩]
def s_f18_r4_tale:=hT s_f18_r4 [13,14,15,16] [4,5] 17 [] [(4,(.t 12)),(5,(.op (.load false 1 (.t 0)) [(.op (.indexAddr 1 (.t 0) (.t 1)) [(.t 10),(.t 12)])]))] [.tt 12,.sub 1 [0] [],.sub 1 [] [],.tt 12,.sub 1 [] []] (by kernel_rfl) (by kernel_rfl)
def s_f18_r5t4:List AOper:=[⟨some 6,(.move (.t 20)),none⟩]
def s_f18_r5p3:List AOper:=[⟨some 20,(.call (.c (.fn 33 [] [])) [(.t 18),(.t 19)]),none⟩]
def s_f18_r5t3:List AOper:=s_f18_r5p3 ++ s_f18_r5t4
def s_f18_r5p2:List AOper:=[⟨some 19,(.mkFn 35 [] [(.t 1)]),none⟩]
def s_f18_r5t2:List AOper:=s_f18_r5p2 ++ s_f18_r5t3
def s_f18_r5p1:List AOper:=[⟨some 18,(.call (.c (.fn 34 [] [])) [(.t 17)]),none⟩]
def s_f18_r5t1:List AOper:=s_f18_r5p1 ++ s_f18_r5t2
def s_f18_r5p0:List AOper:=[⟨some 17,(.move (.t 5)),none⟩]
def s_f18_r5:List AOper:=s_f18_r5p0 ++ s_f18_r5t1
def s_f18_r5p0_tale:=hT s_f18_r5p0 [5] [17] 18 [] [(17,(.t 5))] [.tt 5] (by kernel_rfl) (by kernel_rfl)
def s_f18_r5_x:=hS s_f18_r5 s_f18_r5p0 s_f18_r5t1 [5] [17] [5,17,18,19,20] rfl (by kernel_rfl)
def s_f18_r5t1_x:=hO s_f18_r5t1 s_f18_r5p1 s_f18_r5t2 [17] [5,17,18,19,20] [⟨some 18,(.call (.c (.fn 34 [] [])) [(.t 17)]),none⟩] rfl rfl (by kernel_rfl)
def s_f18_r5p2_tale:=hT s_f18_r5p2 [] [19] 20 [] [(19,(.op (.mkFn 35 [] [(.t 0)]) [(.t 1)]))] [.sub 0 [] []] (by kernel_rfl) (by kernel_rfl)
def s_f18_r5t2_x:=hS s_f18_r5t2 s_f18_r5p2 s_f18_r5t3 [] [19] [5,17,18,19,20] rfl (by kernel_rfl)
def s_f18_r5t3_x:=hO s_f18_r5t3 s_f18_r5p3 s_f18_r5t4 [18,19] [5,17,18,19,20] [⟨some 20,(.call (.c (.fn 33 [] [])) [(.t 18),(.t 19)]),none⟩] rfl rfl (by kernel_rfl)
def s_f18_r5t4_tale:=hT s_f18_r5t4 [5,17,18,19,20] [6] 7 [] [(6,(.t 20))] [.tt 20] (by kernel_rfl) (by kernel_rfl)
def s_f18_r5t4_x:=hL s_f18_r5t4 [5,17,18,19,20] [6]
def s_f18_r6t1:List AOper:=[⟨some 22,(.call (.c (.fn 29 [] [])) [(.t 21)]),none⟩]
def s_f18_r6p0:List AOper:=[⟨some 21,(.move (.t 6)),none⟩]
def s_f18_r6:List AOper:=s_f18_r6p0 ++ s_f18_r6t1
def s_f18_r6p0_tale:=hT s_f18_r6p0 [] [21] 22 [] [(21,(.t 6))] [.tt 6] (by kernel_rfl) (by kernel_rfl)
def s_f18_r6_x:=hS s_f18_r6 s_f18_r6p0 s_f18_r6t1 [] [21] [21,22] rfl (by kernel_rfl)
def s_f18_r6t1_x:=hX s_f18_r6t1 [21,22] [⟨some 22,(.call (.c (.fn 29 [] [])) [(.t 21)]),none⟩] rfl
def s_f18_r7t3:List AOper:=[⟨none,(.store 1 (.t 27) (.t 26)),none⟩]
def s_f18_r7p2:List AOper:=[⟨some 27,(.indexAddr 1 (.t 23) (.t 24)),none⟩]
def s_f18_r7t2:List AOper:=s_f18_r7p2 ++ s_f18_r7t3
def s_f18_r7p1:List AOper:=[⟨some 26,(.call (.c (.fn 30 [] [])) [(.t 25)]),none⟩]
def s_f18_r7t1:List AOper:=s_f18_r7p1 ++ s_f18_r7t2
def s_f18_r7p0:List AOper:=[⟨some 23,(.move (.t 3)),none⟩,⟨some 24,(.move (.t 4)),none⟩,⟨some 25,(.move (.t 6)),none⟩]
def s_f18_r7:List AOper:=s_f18_r7p0 ++ s_f18_r7t1
def s_f18_r7p0_tale:=hT s_f18_r7p0 [4,6] [23,24,25] 26 [] [(23,(.t 3)),(24,(.t 4)),(25,(.t 6))] [.tt 3,.tt 4,.tt 6] (by kernel_rfl) (by kernel_rfl)
def s_f18_r7_x:=hS s_f18_r7 s_f18_r7p0 s_f18_r7t1 [4,6] [23,24,25] [4,6,23,24,25,26,27] rfl (by kernel_rfl)
def s_f18_r7t1_x:=hO s_f18_r7t1 s_f18_r7p1 s_f18_r7t2 [25] [4,6,23,24,25,26,27] [⟨some 26,(.call (.c (.fn 30 [] [])) [(.t 25)]),none⟩] rfl rfl (by kernel_rfl)
def s_f18_r7p2_tale:=hT s_f18_r7p2 [23,24] [27] 28 [] [(27,(.op (.indexAddr 1 (.t 0) (.t 1)) [(.t 23),(.t 24)]))] [.sub 0 [] []] (by kernel_rfl) (by kernel_rfl)
def s_f18_r7t2_x:=hS s_f18_r7t2 s_f18_r7p2 s_f18_r7t3 [23,24] [27] [4,6,23,24,25,26,27] rfl (by kernel_rfl)
def s_f18_r7t3_x:=hX s_f18_r7t3 [4,6,23,24,25,26,27] [⟨none,(.store 1 (.t 27) (.t 26)),none⟩] rfl
def s_f18_r8:List AOper:=[
 ⟨some 28,(.bin .add (.t 12) (.c (.s (.int .i64 1)))),none⟩,
 ⟨some 12,(.move (.t 28)),none⟩]
def s_f18_r8_tale:=hT s_f18_r8 [28] [12] 29 [] [(12,(.op (.bin .add (.t 0) (.c (.s (.int .i64 1)))) [(.t 12),(.c (.s (.int .i64 1)))]))] [.sub 0 [] [],.sub 0 [] []] (by kernel_rfl) (by kernel_rfl)
def s_f18_l0_b:ACode:=
 (.seq (.regionE s_f18_r3 [] [13])
 (.seq (.cond (.t 13)
 .skip
 (.exit 0))
 (.seq (.block 1
 (.seq (.regionE s_f18_r4 [13,14,15,16] [4,5])
 (.seq (.region s_f18_r5 [] [5,17,18,19,20])
 (.seq (.region s_f18_r6 [] [21,22])
 (.region s_f18_r7 [] [4,6,23,24,25,26,27])))))
 (.regionE s_f18_r8 [28] [12]))))
def s_f18_l0:ACode:=s_f18_l0_b
def s_f18_l0_ev:=hE s_f18_l0 s_f18_l0_b rfl
def s_f18_r9:List AOper:=[
 ⟨some 29,(.move (.t 3)),none⟩,
 ⟨some 2,(.move (.t 29)),none⟩]
def s_f18_r9_tale:=hT s_f18_r9 [1,3,10,11,12,13,29] [2] 30 [] [(2,(.t 3))] [.tt 3,.tt 3] (by kernel_rfl) (by kernel_rfl)
def s_f18:ACFun:={ ntmps:=30,results:=[(.tmp 2)],body:=
 (.seq (.region s_f18_r0 [] s_f18_r0_k)
 (.seq (.region s_f18_r1 [] [7,8,9])
 (.seq (.seq (.regionE s_f18_r2 [] [10,11,12])
 (.block 0
 (.loop [] s_f18_l0)))
 (.seq (.regionE s_f18_r9 [1,3,10,11,12,13,29] [2])
 .ret)))) }
theorem s_f18_first:firstOk (List.range' 1 (s_f18.ntmps - 1)) s_f18.body=true:=by kernel_rfl
abbrev k_f20:Nat:=20
def s_f20_r0_k:List Nat:=[1,2,3,4,5,6,7,8,9,10,11,12,13,14,15,16,17,18,19,20,21,22,23,24,25,26,27,28,29,30,31,32,33,34,35,36,37]
theorem s_f20_r0_kT:killV s_f20_r0_k (startV 38 [] 1)=[]:=by kernel_rfl
theorem s_f20_r0_kA0:s_f20_r0_k.contains 0=false:=by kernel_rfl
def s_f20_r0:List AOper:=[
 ⟨some 2,(.move (.c (.s (.slice none 0 0)))),none⟩]
def s_f20_r0_tale:=hT s_f20_r0 s_f20_r0_k [] 3 [] [] [.cc (.s (.slice none 0 0))] (by kernel_rfl) (by kernel_rfl)
def s_f20_r1t2:List AOper:=[⟨some 3,(.move (.t 10)),none⟩]
def s_f20_r1p1:List AOper:=[⟨some 10,(.mkSl [(.s (.slice none 0 0))] 1 24 (.t 9) (.t 9)),none⟩]
def s_f20_r1t1:List AOper:=s_f20_r1p1 ++ s_f20_r1t2
def s_f20_r1p0:List AOper:=[⟨some 8,(.move (.t 0)),none⟩,⟨some 9,(.lenS .s (.t 8)),none⟩]
def s_f20_r1:List AOper:=s_f20_r1p0 ++ s_f20_r1t1
def s_f20_r1p0_tale:=hT s_f20_r1p0 [8] [9] 10 [] [(9,(.op (.lenS .s (.t 0)) [(.t 0)]))] [.tt 0,.sub 0 [] []] (by kernel_rfl) (by kernel_rfl)
def s_f20_r1_x:=hS s_f20_r1 s_f20_r1p0 s_f20_r1t1 [8] [9] [8,9,10] rfl (by kernel_rfl)
def s_f20_r1t1_x:=hO s_f20_r1t1 s_f20_r1p1 s_f20_r1t2 [9] [8,9,10] [⟨some 10,(.mkSl [(.s (.slice none 0 0))] 1 24 (.t 9) (.t 9)),none⟩] rfl rfl (by kernel_rfl)
def s_f20_r1t2_tale:=hT s_f20_r1t2 [8,9,10] [3] 4 [] [(3,(.t 10))] [.tt 10] (by kernel_rfl) (by kernel_rfl)
def s_f20_r1t2_x:=hL s_f20_r1t2 [8,9,10] [3]
def s_f20_r2t2:List AOper:=[⟨some 13,(.lenS .s (.t 12)),none⟩,⟨some 14,(.move (.c (.s (.int .i64 0)))),none⟩]
def s_f20_r2p1:List AOper:=[⟨some 12,(.call (.c (.fn 18 [] [])) [(.t 11)]),none⟩]
def s_f20_r2t1:List AOper:=s_f20_r2p1 ++ s_f20_r2t2
def s_f20_r2p0:List AOper:=[⟨some 11,(.move (.t 0)),none⟩]
def s_f20_r2:List AOper:=s_f20_r2p0 ++ s_f20_r2t1
def s_f20_r2p0_tale:=hT s_f20_r2p0 [0] [11] 12 [] [(11,(.t 0))] [.tt 0] (by kernel_rfl) (by kernel_rfl)
def s_f20_r2_x:=hS s_f20_r2 s_f20_r2p0 s_f20_r2t1 [0] [11] [0,11] rfl (by kernel_rfl)
def s_f20_r2t1_x:=hO s_f20_r2t1 s_f20_r2p1 s_f20_r2t2 [11] [0,11] [⟨some 12,(.call (.c (.fn 18 [] [])) [(.t 11)]),none⟩] rfl rfl (by kernel_rfl)
def s_f20_r2t2_tale:=hT s_f20_r2t2 [0,11] [13,14] 15 [] [(13,(.op (.lenS .s (.t 0)) [(.t 12)])),(14,(.c (.s (.int .i64 0))))] [.sub 0 [] [],.cc (.s (.int .i64 0))] (by kernel_rfl) (by kernel_rfl)
def s_f20_r2t2_x:=hL s_f20_r2t2 [0,11] [13,14]
def s_f20_r3:List AOper:=[
 ⟨some 15,(.bin .lss (.t 14) (.t 13)),none⟩]
def s_f20_r3_tale:=hT s_f20_r3 [] [15] 16 [] [(15,(.op (.bin .lss (.t 0) (.t 1)) [(.t 14),(.t 13)]))] [.sub 0 [] []] (by kernel_rfl) (by kernel_rfl)
def s_f20_r4:List AOper:=[
 ⟨some 16,(.move (.t 14)),none⟩,
 ⟨some 17,(.indexAddr 1 (.t 12) (.t 14)),none⟩,
 ⟨some 18,(.load false 1 (.t 17)),none⟩,
 ⟨some 4,(.move (.t 16)),none⟩,
 ⟨some 5,(.move (.t 18)),none⟩]
def s_f20_r4_tale:=hT s_f20_r4 [15,16,17,18] [4,5] 19 [] [(4,(.t 14)),(5,(.op (.load false 1 (.t 0)) [(.op (.indexAddr 1 (.t 0) (.t 1)) [(.t 12),(.t 14)])]))] [.tt 14,.sub 1 [0] [],.sub 1 [] [],.tt 14,.sub 1 [] []] (by kernel_rfl) (by kernel_rfl)
def s_f20_r5:List AOper:=[
 ⟨some 19,(.move (.t 5)),none⟩,
 ⟨some 20,(.lenS .s (.t 19)),none⟩,
 ⟨some 21,(.move (.c (.s (.int .i64 0)))),none⟩]
def s_f20_r5_tale:=hT s_f20_r5 [5] [19,20,21] 22 [] [(19,(.t 5)),(20,(.op (.lenS .s (.t 0)) [(.t 5)])),(21,(.c (.s (.int .i64 0))))] [.tt 5,.sub 1 [] [],.cc (.s (.int .i64 0))] (by kernel_rfl) (by kernel_rfl)
def s_f20_r6:List AOper:=[
 ⟨some 22,(.bin .lss (.t 21) (.t 20)),none⟩]
def s_f20_r6_tale:=hT s_f20_r6 [] [22] 23 [] [(22,(.op (.bin .lss (.t 0) (.t 1)) [(.t 21),(.t 20)]))] [.sub 0 [] []] (by kernel_rfl) (by kernel_rfl)
def s_f20_r7:List AOper:=[
 ⟨some 23,(.indexAddr 1 (.t 19) (.t 21)),none⟩,
 ⟨some 24,(.load false 1 (.t 23)),none⟩,
 ⟨some 7,(.move (.t 24)),none⟩]
def s_f20_r7_tale:=hT s_f20_r7 [22,23,24] [7] 25 [] [(7,(.op (.load false 1 (.t 0)) [(.op (.indexAddr 1 (.t 0) (.t 1)) [(.t 19),(.t 21)])]))] [.sub 0 [0] [],.sub 0 [] [],.sub 0 [] []] (by kernel_rfl) (by kernel_rfl)
def s_f20_r8t4:List AOper:=[⟨none,(.store 1 (.t 34) (.t 33)),none⟩]
def s_f20_r8p3:List AOper:=[⟨some 34,(.indexAddr 1 (.t 25) (.t 26)),none⟩]
def s_f20_r8t3:List AOper:=s_f20_r8p3 ++ s_f20_r8t4
def s_f20_r8p2:List AOper:=[⟨some 33,(.append 1 8 (.t 30) (.t 32)),none⟩]
def s_f20_r8t2:List AOper:=s_f20_r8p2 ++ s_f20_r8t3
def s_f20_r8p1:List AOper:=[⟨some 32,(.buildSl 1 1 [(.s (.int .i64 0))] [(0,(.t 31))]),none⟩]
def s_f20_r8t1:List AOper:=s_f20_r8p1 ++ s_f20_r8t2
def s_f20_r8p0:List AOper:=[⟨some 25,(.move (.t 3)),none⟩,⟨some 26,(.move (.t 7)),none⟩,⟨some 27,(.move (.t 3)),none⟩,⟨some 28,(.move (.t 7)),none⟩,⟨some 29,(.indexAddr 1 (.t 27) (.t 28)),none⟩,⟨some 30,(.load false 1 (.t 29)),none⟩,⟨some 31,(.move (.t 4)),none⟩]
def s_f20_r8:List AOper:=s_f20_r8p0 ++ s_f20_r8t1
def s_f20_r8p0_tale:=hT s_f20_r8p0 [7,27,28,29] [25,26,30,31] 32 [] [(25,(.t 3)),(26,(.t 7)),(30,(.op (.load false 1 (.t 0)) [(.op (.indexAddr 1 (.t 0) (.t 1)) [(.t 3),(.t 7)])])),(31,(.t 4))] [.tt 3,.tt 7,.tt 3,.tt 7,.sub 2 [0] [],.sub 2 [] [],.tt 4] (by kernel_rfl) (by kernel_rfl)
def s_f20_r8_x:=hS s_f20_r8 s_f20_r8p0 s_f20_r8t1 [7,27,28,29] [25,26,30,31] [7,25,26,27,28,29,30,31,32,33,34] rfl (by kernel_rfl)
def s_f20_r8t1_x:=hO s_f20_r8t1 s_f20_r8p1 s_f20_r8t2 [31] [7,25,26,27,28,29,30,31,32,33,34] [⟨some 32,(.buildSl 1 1 [(.s (.int .i64 0))] [(0,(.t 31))]),none⟩] rfl rfl (by kernel_rfl)
def s_f20_r8t2_x:=hO s_f20_r8t2 s_f20_r8p2 s_f20_r8t3 [30,32] [7,25,26,27,28,29,30,31,32,33,34] [⟨some 33,(.append 1 8 (.t 30) (.t 32)),none⟩] rfl rfl (by kernel_rfl)
def s_f20_r8p3_tale:=hT s_f20_r8p3 [25,26] [34] 35 [] [(34,(.op (.indexAddr 1 (.t 0) (.t 1)) [(.t 25),(.t 26)]))] [.sub 0 [] []] (by kernel_rfl) (by kernel_rfl)
def s_f20_r8t3_x:=hS s_f20_r8t3 s_f20_r8p3 s_f20_r8t4 [25,26] [34] [7,25,26,27,28,29,30,31,32,33,34] rfl (by kernel_rfl)
def s_f20_r8t4_x:=hX s_f20_r8t4 [7,25,26,27,28,29,30,31,32,33,34] [⟨none,(.store 1 (.t 34) (.t 33)),none⟩] rfl
def s_f20_r9:List AOper:=[
 ⟨some 35,(.bin .add (.t 21) (.c (.s (.int .i64 1)))),none⟩,
 ⟨some 21,(.move (.t 35)),none⟩]
def s_f20_r9_tale:=hT s_f20_r9 [35] [21] 36 [] [(21,(.op (.bin .add (.t 0) (.c (.s (.int .i64 1)))) [(.t 21),(.c (.s (.int .i64 1)))]))] [.sub 0 [] [],.sub 0 [] []] (by kernel_rfl) (by kernel_rfl)
def s_f20_l0_b:ACode:=
 (.seq (.regionE s_f20_r6 [] [22])
 (.seq (.cond (.t 22)
 .skip
 (.exit 2))
 (.seq (.block 3
 (.seq (.regionE s_f20_r7 [22,23,24] [7])
 (.region s_f20_r8 [] [7,25,26,27,28,29,30,31,32,33,34])))
 (.regionE s_f20_r9 [35] [21]))))
def s_f20_l0:ACode:=s_f20_l0_b
def s_f20_l0_ev:=hE s_f20_l0 s_f20_l0_b rfl
def s_f20_r10:List AOper:=[
 ⟨some 36,(.bin .add (.t 14) (.c (.s (.int .i64 1)))),none⟩,
 ⟨some 14,(.move (.t 36)),none⟩]
def s_f20_r10_tale:=hT s_f20_r10 [4,19,20,21,22,36] [14] 37 [] [(14,(.op (.bin .add (.t 0) (.c (.s (.int .i64 1)))) [(.t 14),(.c (.s (.int .i64 1)))]))] [.sub 0 [] [],.sub 0 [] []] (by kernel_rfl) (by kernel_rfl)
def s_f20_l1_b:ACode:=
 (.seq (.regionE s_f20_r3 [] [15])
 (.seq (.cond (.t 15)
 .skip
 (.exit 0))
 (.seq (.block 1
 (.seq (.regionE s_f20_r4 [15,16,17,18] [4,5])
 (.seq (.regionE s_f20_r5 [5] [19,20,21])
 (.block 2
 (.loop [] s_f20_l0)))))
 (.regionE s_f20_r10 [4,19,20,21,22,36] [14]))))
def s_f20_l1:ACode:=s_f20_l1_b
def s_f20_l1_ev:=hE s_f20_l1 s_f20_l1_b rfl
def s_f20_r11:List AOper:=[
 ⟨some 37,(.move (.t 3)),none⟩,
 ⟨some 2,(.move (.t 37)),none⟩]
def s_f20_r11_tale:=hT s_f20_r11 [3,12,13,14,15,37] [2] 38 [] [(2,(.t 3))] [.tt 3,.tt 3] (by kernel_rfl) (by kernel_rfl)
def s_f20:ACFun:={ ntmps:=38,results:=[(.tmp 2)],body:=
 (.seq (.regionE s_f20_r0 s_f20_r0_k [])
 (.seq (.region s_f20_r1 [] [8,9,10])
 (.seq (.seq (.region s_f20_r2 [] [0,11])
 (.block 0
 (.loop [] s_f20_l1)))
 (.seq (.regionE s_f20_r11 [3,12,13,14,15,37] [2])
 .ret)))) }
abbrev k_f21:Nat:=21
def s_f21_r0_k:List Nat:=[0,3,4,5,6,7,8,9,10,11,12,13,14,15,16,17,18,19,20,21,22,23,24,25,26,27,28,29,30,31,32,33,34,35,36,37,38,39,40,41,42,43,44,45,46,47,48,49,50,51,52,53,54]
theorem s_f21_r0_k_kA0:s_f21_r0_k.contains 0=true:=by kernel_rfl
theorem s_f21_r0_k_kA1:s_f21_r0_k.contains 1=false:=by kernel_rfl
theorem s_f21_r0_k_kA2:s_f21_r0_k.contains 2=false:=by kernel_rfl
theorem s_f21_r0_k_kA4:s_f21_r0_k.contains 4=true:=by kernel_rfl
def s_f21_r0t1:List AOper:=[⟨some 4,(.move (.c (.s (.slice none 0 0)))),none⟩]
def s_f21_r0p0:List AOper:=[⟨some 2,(.box (.t 0)),none⟩]
def s_f21_r0:List AOper:=s_f21_r0p0 ++ s_f21_r0t1
def s_f21_r0p0_k:List Nat:=[0,3,4,5,6,7,8,9,10,11,12,13,14,15,16,17,18,19,20,21,22,23,24,25,26,27,28,29,30,31,32,33,34,35,36,37,38,39,40,41,42,43,44,45,46,47,48,49,50,51,52,53,54]
theorem s_f21_r0p0_k_kA0:s_f21_r0p0_k.contains 0=true:=by kernel_rfl
theorem s_f21_r0p0_k_kA1:s_f21_r0p0_k.contains 1=false:=by kernel_rfl
theorem s_f21_r0p0_k_kA2:s_f21_r0p0_k.contains 2=false:=by kernel_rfl
theorem s_f21_r0p0_k_kA4:s_f21_r0p0_k.contains 4=true:=by kernel_rfl
theorem s_f21_r0_x (call:CallF) (it:IterF) (base:Nat) (f:List V) (H:Heap):evC call it base (.region s_f21_r0 [] s_f21_r0_k) f H=thenC call it base (.region s_f21_r0t1 [] s_f21_r0_k) (opsC [] s_f21_r0p0 s_f21_r0p0_k (evOps call base [⟨some 2,(.box (.t 0)),none⟩] f H)):=(row_op call it base s_f21_r0p0 s_f21_r0t1 (kc:=s_f21_r0p0_k) (by kernel_rfl) f H).trans (by rw [row_ops];rfl)
def s_f21_r0t1_tale:=hT s_f21_r0t1 s_f21_r0_k [] 5 [] [] [.cc (.s (.slice none 0 0))] (by kernel_rfl) (by kernel_rfl)
def s_f21_r0t1_x:=hL s_f21_r0t1 s_f21_r0_k []
def s_f21_r1t3:List AOper:=[⟨none,(.store 1 (.t 5) (.t 15)),none⟩]
def s_f21_r1p2:List AOper:=[⟨some 5,(.alloc [(.s (.slice none 0 0))]),none⟩]
def s_f21_r1t2:List AOper:=s_f21_r1p2 ++ s_f21_r1t3
def s_f21_r1p1:List AOper:=[⟨some 15,(.mkSl [(.s (.bool false))] 1 1 (.t 14) (.t 14)),none⟩]
def s_f21_r1t1:List AOper:=s_f21_r1p1 ++ s_f21_r1t2
def s_f21_r1p0:List AOper:=[⟨some 13,(.load false 1 (.t 2)),none⟩,⟨some 14,(.lenS .s (.t 13)),none⟩]
def s_f21_r1:List AOper:=s_f21_r1p0 ++ s_f21_r1t1
def s_f21_r1p0_tale:=hT s_f21_r1p0 [13] [14] 15 [] [(14,(.op (.lenS .s (.t 0)) [(.op (.load false 1 (.t 0)) [(.t 2)])]))] [.sub 0 [0] [],.sub 0 [] []] (by kernel_rfl) (by kernel_rfl)
def s_f21_r1_x:=hS s_f21_r1 s_f21_r1p0 s_f21_r1t1 [13] [14] [13,14,15] rfl (by kernel_rfl)
def s_f21_r1t1_x:=hO s_f21_r1t1 s_f21_r1p1 s_f21_r1t2 [14] [13,14,15] [⟨some 15,(.mkSl [(.s (.bool false))] 1 1 (.t 14) (.t 14)),none⟩] rfl rfl (by kernel_rfl)
def s_f21_r1t2_x:=hO s_f21_r1t2 s_f21_r1p2 s_f21_r1t3 [] [13,14,15] [⟨some 5,(.alloc [(.s (.slice none 0 0))]),none⟩] rfl rfl (by kernel_rfl)
def s_f21_r1t3_x:=hX s_f21_r1t3 [13,14,15] [⟨none,(.store 1 (.t 5) (.t 15)),none⟩] rfl
def s_f21_r2:List AOper:=[⟨some 6,(.alloc [(.s (.slice none 0 0))]),none⟩]
def s_f21_r2_x:=hX s_f21_r2 [] [⟨some 6,(.alloc [(.s (.slice none 0 0))]),none⟩] rfl
def s_f21_r3:List AOper:=[
 ⟨some 16,(.mkFn 38 [] [(.t 2),(.t 5),(.t 6)]),none⟩,
 ⟨some 7,(.move (.t 16)),none⟩]
def s_f21_r3_tale:=hT s_f21_r3 [16] [7] 17 [] [(7,(.op (.mkFn 38 [] [(.t 0),(.t 1),(.t 2)]) [(.t 2),(.t 5),(.t 6)]))] [.sub 0 [] [],.sub 0 [] []] (by kernel_rfl) (by kernel_rfl)
def s_f21_r4:List AOper:=[
 ⟨some 17,(.move (.t 1)),none⟩,
 ⟨some 18,(.lenS .s (.t 17)),none⟩,
 ⟨some 19,(.move (.c (.s (.int .i64 0)))),none⟩]
def s_f21_r4_tale:=hT s_f21_r4 [1] [17,18,19] 20 [] [(17,(.t 1)),(18,(.op (.lenS .s (.t 0)) [(.t 1)])),(19,(.c (.s (.int .i64 0))))] [.tt 1,.sub 1 [] [],.cc (.s (.int .i64 0))] (by kernel_rfl) (by kernel_rfl)
def s_f21_r5:List AOper:=[
 ⟨some 20,(.bin .lss (.t 19) (.t 18)),none⟩]
def s_f21_r5_tale:=hT s_f21_r5 [] [20] 21 [] [(20,(.op (.bin .lss (.t 0) (.t 1)) [(.t 19),(.t 18)]))] [.sub 0 [] []] (by kernel_rfl) (by kernel_rfl)
def s_f21_r6:List AOper:=[
 ⟨some 21,(.indexAddr 1 (.t 17) (.t 19)),none⟩,
 ⟨some 22,(.load false 1 (.t 21)),none⟩,
 ⟨some 9,(.move (.t 22)),none⟩]
def s_f21_r6_tale:=hT s_f21_r6 [20,21,22] [9] 23 [] [(9,(.op (.load false 1 (.t 0)) [(.op (.indexAddr 1 (.t 0) (.t 1)) [(.t 17),(.t 19)])]))] [.sub 0 [0] [],.sub 0 [] [],.sub 0 [] []] (by kernel_rfl) (by kernel_rfl)
def s_f21_r7t1:List AOper:=[⟨some 25,(.call (.t 23) [(.t 24)]),none⟩]
def s_f21_r7p0:List AOper:=[⟨some 23,(.move (.t 7)),none⟩,⟨some 24,(.move (.t 9)),none⟩]
def s_f21_r7:List AOper:=s_f21_r7p0 ++ s_f21_r7t1
def s_f21_r7p0_tale:=hT s_f21_r7p0 [9] [23,24] 25 [] [(23,(.t 7)),(24,(.t 9))] [.tt 7,.tt 9] (by kernel_rfl) (by kernel_rfl)
def s_f21_r7_x:=hS s_f21_r7 s_f21_r7p0 s_f21_r7t1 [9] [23,24] [9,23,24,25] rfl (by kernel_rfl)
def s_f21_r7t1_x:=hX s_f21_r7t1 [9,23,24,25] [⟨some 25,(.call (.t 23) [(.t 24)]),none⟩] rfl
def s_f21_r8:List AOper:=[
 ⟨some 26,(.bin .add (.t 19) (.c (.s (.int .i64 1)))),none⟩,
 ⟨some 19,(.move (.t 26)),none⟩]
def s_f21_r8_tale:=hT s_f21_r8 [26] [19] 27 [] [(19,(.op (.bin .add (.t 0) (.c (.s (.int .i64 1)))) [(.t 19),(.c (.s (.int .i64 1)))]))] [.sub 0 [] [],.sub 0 [] []] (by kernel_rfl) (by kernel_rfl)
def s_f21_l0_b:ACode:=
 (.seq (.regionE s_f21_r5 [] [20])
 (.seq (.cond (.t 20)
 .skip
 (.exit 0))
 (.seq (.block 1
 (.seq (.regionE s_f21_r6 [20,21,22] [9])
 (.region s_f21_r7 [] [9,23,24,25])))
 (.regionE s_f21_r8 [26] [19]))))
def s_f21_l0:ACode:=s_f21_l0_b
def s_f21_l0_ev:=hE s_f21_l0 s_f21_l0_b rfl
def s_f21_r9:List AOper:=[
 ⟨some 27,(.load false 1 (.t 6)),none⟩,
 ⟨some 28,(.lenS .s (.t 27)),none⟩,
 ⟨some 29,(.bin .gtr (.t 28) (.c (.s (.int .i64 0)))),none⟩]
def s_f21_r9_tale:=hT s_f21_r9 [27,28] [29] 30 [] [(29,(.op (.bin .gtr (.t 0) (.c (.s (.int .i64 0)))) [(.op (.lenS .s (.t 0)) [(.op (.load false 1 (.t 0)) [(.t 6)])]),(.c (.s (.int .i64 0)))]))] [.sub 0 [0,0] [],.sub 0 [0] [],.sub 0 [] []] (by kernel_rfl) (by kernel_rfl)
def s_f21_r10:List AOper:=[
 ⟨some 30,(.load false 1 (.t 6)),none⟩,
 ⟨some 31,(.load false 1 (.t 6)),none⟩,
 ⟨some 32,(.lenS .s (.t 31)),none⟩,
 ⟨some 33,(.bin .sub (.t 32) (.c (.s (.int .i64 1)))),none⟩,
 ⟨some 34,(.indexAddr 1 (.t 30) (.t 33)),none⟩,
 ⟨some 35,(.load false 1 (.t 34)),none⟩,
 ⟨some 10,(.move (.t 35)),none⟩]
def s_f21_r10_tale:=hT s_f21_r10 [29,30,31,32,33,34,35] [10] 36 [] [(10,(.op (.load false 1 (.t 0)) [(.op (.indexAddr 1 (.t 0) (.t 1)) [(.op (.load false 1 (.t 0)) [(.t 6)]),(.op (.bin .sub (.t 0) (.c (.s (.int .i64 1)))) [(.op (.lenS .s (.t 0)) [(.op (.load false 1 (.t 0)) [(.t 6)])]),(.c (.s (.int .i64 1)))])])]))] [.sub 0 [0,0] [],.sub 0 [0,0] [],.sub 0 [0,1,0] [],.sub 0 [0,1] [],.sub 0 [0] [],.sub 0 [] [],.sub 0 [] []] (by kernel_rfl) (by kernel_rfl)
def s_f21_r11t1:List AOper:=[⟨none,(.store 1 (.t 6) (.t 40)),none⟩]
def s_f21_r11p0:List AOper:=[⟨some 36,(.load false 1 (.t 6)),none⟩,⟨some 37,(.load false 1 (.t 6)),none⟩,⟨some 38,(.lenS .s (.t 37)),none⟩,⟨some 39,(.bin .sub (.t 38) (.c (.s (.int .i64 1)))),none⟩,⟨some 40,(.subSl 1 (.t 36) none (some (.t 39)) none),none⟩]
def s_f21_r11:List AOper:=s_f21_r11p0 ++ s_f21_r11t1
def s_f21_r11p0_tale:=hT s_f21_r11p0 [36,37,38,39] [40] 41 [] [(40,(.op (.subSl 1 (.t 0) none (some (.t 1)) none) [(.op (.load false 1 (.t 0)) [(.t 6)]),(.op (.bin .sub (.t 0) (.c (.s (.int .i64 1)))) [(.op (.lenS .s (.t 0)) [(.op (.load false 1 (.t 0)) [(.t 6)])]),(.c (.s (.int .i64 1)))])]))] [.sub 0 [0] [],.sub 0 [0] [],.sub 0 [1,0] [],.sub 0 [1] [],.sub 0 [] []] (by kernel_rfl) (by kernel_rfl)
def s_f21_r11_x:=hS s_f21_r11 s_f21_r11p0 s_f21_r11t1 [36,37,38,39] [40] [36,37,38,39,40] rfl (by kernel_rfl)
def s_f21_r11t1_x:=hX s_f21_r11t1 [36,37,38,39,40] [⟨none,(.store 1 (.t 6) (.t 40)),none⟩] rfl
def s_f21_r12:List AOper:=[
 ⟨some 41,(.load false 1 (.t 2)),none⟩,
 ⟨some 42,(.move (.t 10)),none⟩,
 ⟨some 43,(.indexAddr 1 (.t 41) (.t 42)),none⟩,
 ⟨some 44,(.load false 1 (.t 43)),none⟩,
 ⟨some 45,(.lenS .s (.t 44)),none⟩,
 ⟨some 46,(.move (.c (.s (.int .i64 0)))),none⟩]
def s_f21_r12_tale:=hT s_f21_r12 [10,41,42,43] [44,45,46] 47 [] [(44,(.op (.load false 1 (.t 0)) [(.op (.indexAddr 1 (.t 0) (.t 1)) [(.op (.load false 1 (.t 0)) [(.t 2)]),(.t 10)])])),(45,(.op (.lenS .s (.t 0)) [(.op (.load false 1 (.t 0)) [(.op (.indexAddr 1 (.t 0) (.t 1)) [(.op (.load false 1 (.t 0)) [(.t 2)]),(.t 10)])])])),(46,(.c (.s (.int .i64 0))))] [.sub 0 [0,0] [],.tt 10,.sub 0 [0] [],.sub 0 [] [],.sub 1 [] [],.cc (.s (.int .i64 0))] (by kernel_rfl) (by kernel_rfl)
def s_f21_r13:List AOper:=[
 ⟨some 47,(.bin .lss (.t 46) (.t 45)),none⟩]
def s_f21_r13_tale:=hT s_f21_r13 [] [47] 48 [] [(47,(.op (.bin .lss (.t 0) (.t 1)) [(.t 46),(.t 45)]))] [.sub 0 [] []] (by kernel_rfl) (by kernel_rfl)
def s_f21_r14:List AOper:=[
 ⟨some 48,(.indexAddr 1 (.t 44) (.t 46)),none⟩,
 ⟨some 49,(.load false 1 (.t 48)),none⟩,
 ⟨some 12,(.move (.t 49)),none⟩]
def s_f21_r14_tale:=hT s_f21_r14 [47,48,49] [12] 50 [] [(12,(.op (.load false 1 (.t 0)) [(.op (.indexAddr 1 (.t 0) (.t 1)) [(.t 44),(.t 46)])]))] [.sub 0 [0] [],.sub 0 [] [],.sub 0 [] []] (by kernel_rfl) (by kernel_rfl)
def s_f21_r15t1:List AOper:=[⟨some 52,(.call (.t 50) [(.t 51)]),none⟩]
def s_f21_r15p0:List AOper:=[⟨some 50,(.move (.t 7)),none⟩,⟨some 51,(.move (.t 12)),none⟩]
def s_f21_r15:List AOper:=s_f21_r15p0 ++ s_f21_r15t1
def s_f21_r15p0_tale:=hT s_f21_r15p0 [12] [50,51] 52 [] [(50,(.t 7)),(51,(.t 12))] [.tt 7,.tt 12] (by kernel_rfl) (by kernel_rfl)
def s_f21_r15_x:=hS s_f21_r15 s_f21_r15p0 s_f21_r15t1 [12] [50,51] [12,50,51,52] rfl (by kernel_rfl)
def s_f21_r15t1_x:=hX s_f21_r15t1 [12,50,51,52] [⟨some 52,(.call (.t 50) [(.t 51)]),none⟩] rfl
def s_f21_r16:List AOper:=[
 ⟨some 53,(.bin .add (.t 46) (.c (.s (.int .i64 1)))),none⟩,
 ⟨some 46,(.move (.t 53)),none⟩]
def s_f21_r16_tale:=hT s_f21_r16 [53] [46] 54 [] [(46,(.op (.bin .add (.t 0) (.c (.s (.int .i64 1)))) [(.t 46),(.c (.s (.int .i64 1)))]))] [.sub 0 [] [],.sub 0 [] []] (by kernel_rfl) (by kernel_rfl)
def s_f21_l1_b:ACode:=
 (.seq (.regionE s_f21_r13 [] [47])
 (.seq (.cond (.t 47)
 .skip
 (.exit 4))
 (.seq (.block 5
 (.seq (.regionE s_f21_r14 [47,48,49] [12])
 (.region s_f21_r15 [] [12,50,51,52])))
 (.regionE s_f21_r16 [53] [46]))))
def s_f21_l1:ACode:=s_f21_l1_b
def s_f21_l1_ev:=hE s_f21_l1 s_f21_l1_b rfl
def s_f21_l2_b:ACode:=
 (.seq (.seq (.regionE s_f21_r9 [27,28] [29])
 (.cond (.t 29)
 .skip
 (.exit 2)))
 (.block 3
 (.seq (.regionE s_f21_r10 [29,30,31,32,33,34,35] [10])
 (.seq (.region s_f21_r11 [] [36,37,38,39,40])
 (.seq (.regionE s_f21_r12 [10,41,42,43] [44,45,46])
 (.block 4
 (.loop [] s_f21_l1)))))))
def s_f21_l2:ACode:=s_f21_l2_b
def s_f21_l2_ev:=hE s_f21_l2 s_f21_l2_b rfl
def s_f21_r17:List AOper:=[
 ⟨some 54,(.load false 1 (.t 5)),none⟩,
 ⟨some 4,(.move (.t 54)),none⟩]
def s_f21_r17_tale:=hT s_f21_r17 [2,5,6,7,29,54] [4] 55 [] [(4,(.op (.load false 1 (.t 0)) [(.t 5)]))] [.sub 0 [] [],.sub 0 [] []] (by kernel_rfl) (by kernel_rfl)
def s_f21:ACFun:={ ntmps:=55,results:=[(.tmp 4)],body:=
 (.seq (.region s_f21_r0 [] s_f21_r0_k)
 (.seq (.region s_f21_r1 [] [13,14,15])
 (.seq (.region s_f21_r2 [] [])
 (.seq (.regionE s_f21_r3 [16] [7])
 (.seq (.seq (.regionE s_f21_r4 [1] [17,18,19])
 (.block 0
 (.loop [] s_f21_l0)))
 (.seq (.block 2
 (.loop [17,18,19,20,44,45,46,47] s_f21_l2))
 (.seq (.regionE s_f21_r17 [2,5,6,7,29,54] [4])
 .ret))))))) }
theorem s_f21_first:firstOk (List.range' 2 (s_f21.ntmps - 2)) s_f21.body=true:=by kernel_rfl
abbrev k_f25:Nat:=25
def s_f25_r0_k:List Nat:=[2,3,4,5,6,7,8,9,10,11,12,13,14,15,16,17,18,19,20,21,22,23,24,25,26,27,28,29,30,31,32,33,34,35,36,37,38,39,40,41,42,43,44,45,46,47,48,49,50,51,52,53,54,55,56,57,58,59,60,61,62,63,64,65,66,67,68,69,70,71,72,73,74,75,76]
theorem s_f25_r0_kT:killV s_f25_r0_k (startV 77 [] 2)=[]:=by kernel_rfl
theorem s_f25_r0_kA0:s_f25_r0_k.contains 0=false:=by kernel_rfl
theorem s_f25_r0_kA1:s_f25_r0_k.contains 1=false:=by kernel_rfl
def s_f25_r0:List AOper:=[
 ⟨some 4,(.move (.c (.s (.slice none 0 0)))),none⟩]
def s_f25_r0_tale:=hT s_f25_r0 s_f25_r0_k [] 5 [] [] [.cc (.s (.slice none 0 0))] (by kernel_rfl) (by kernel_rfl)
def s_f25_r1:List AOper:=[
 ⟨some 11,(.move (.t 1)),none⟩,
 ⟨some 12,(.bin .lss (.t 11) (.c (.s (.int .i64 0)))),none⟩,
 ⟨some 13,(.move (.t 12)),none⟩,
 ⟨some 14,(.move (.t 1)),some (13,false)⟩,
 ⟨some 15,(.move (.t 0)),some (13,false)⟩,
 ⟨some 16,(.lenS .s (.t 15)),some (13,false)⟩,
 ⟨some 17,(.bin .geq (.t 14) (.t 16)),some (13,false)⟩,
 ⟨some 18,(.pick (.t 13) (.c (.s (.bool true))) (.t 17)),none⟩]
def s_f25_r1_tale:=hT s_f25_r1 [11,12,13,14,15,16,17] [18] 19 [] [(18,(.pick (.op (.bin .lss (.t 0) (.c (.s (.int .i64 0)))) [(.t 1),(.c (.s (.int .i64 0)))]) (.c (.s (.bool true))) (.op (.bin .geq (.t 0) (.t 1)) [(.t 1),(.op (.lenS .s (.t 0)) [(.t 0)])])))] [.tt 1,.sub 0 [0] [],.sub 0 [0] [],.sub 0 [2,0] [13],.sub 0 [2,1,0] [13],.sub 0 [2,1] [13],.sub 0 [2] [13],.sub 0 [] []] (by kernel_rfl) (by kernel_rfl)
def s_f25_r2:List AOper:=[
 ⟨some 4,(.move (.c (.s (.slice none 0 0)))),none⟩]
def s_f25_r2_tale:=hT s_f25_r2 [0,1,18] [4] 5 [] [(4,(.c (.s (.slice none 0 0))))] [.cc (.s (.slice none 0 0))] (by kernel_rfl) (by kernel_rfl)
def s_f25_r3t2:List AOper:=[⟨some 5,(.move (.t 20)),none⟩]
def s_f25_r3p1:List AOper:=[⟨some 20,(.call (.c (.fn 18 [] [])) [(.t 19)]),none⟩]
def s_f25_r3t1:List AOper:=s_f25_r3p1 ++ s_f25_r3t2
def s_f25_r3p0:List AOper:=[⟨some 19,(.move (.t 0)),none⟩]
def s_f25_r3:List AOper:=s_f25_r3p0 ++ s_f25_r3t1
def s_f25_r3p0_tale:=hT s_f25_r3p0 [18] [19] 20 [] [(19,(.t 0))] [.tt 0] (by kernel_rfl) (by kernel_rfl)
def s_f25_r3_x:=hS s_f25_r3 s_f25_r3p0 s_f25_r3t1 [18] [19] [18,19,20] rfl (by kernel_rfl)
def s_f25_r3t1_x:=hO s_f25_r3t1 s_f25_r3p1 s_f25_r3t2 [19] [18,19,20] [⟨some 20,(.call (.c (.fn 18 [] [])) [(.t 19)]),none⟩] rfl rfl (by kernel_rfl)
def s_f25_r3t2_tale:=hT s_f25_r3t2 [18,19,20] [5] 6 [] [(5,(.t 20))] [.tt 20] (by kernel_rfl) (by kernel_rfl)
def s_f25_r3t2_x:=hL s_f25_r3t2 [18,19,20] [5]
def s_f25_r4t3:List AOper:=[⟨none,(.store 1 (.t 6) (.t 23)),none⟩]
def s_f25_r4p2:List AOper:=[⟨some 6,(.alloc [(.s (.slice none 0 0))]),none⟩]
def s_f25_r4t2:List AOper:=s_f25_r4p2 ++ s_f25_r4t3
def s_f25_r4p1:List AOper:=[⟨some 23,(.mkSl [(.s (.bool false))] 1 1 (.t 22) (.t 22)),none⟩]
def s_f25_r4t1:List AOper:=s_f25_r4p1 ++ s_f25_r4t2
def s_f25_r4p0:List AOper:=[⟨some 21,(.move (.t 0)),none⟩,⟨some 22,(.lenS .s (.t 21)),none⟩]
def s_f25_r4:List AOper:=s_f25_r4p0 ++ s_f25_r4t1
def s_f25_r4p0_tale:=hT s_f25_r4p0 [0,21] [22] 23 [] [(22,(.op (.lenS .s (.t 0)) [(.t 0)]))] [.tt 0,.sub 0 [] []] (by kernel_rfl) (by kernel_rfl)
def s_f25_r4_x:=hS s_f25_r4 s_f25_r4p0 s_f25_r4t1 [0,21] [22] [0,21,22,23] rfl (by kernel_rfl)
def s_f25_r4t1_x:=hO s_f25_r4t1 s_f25_r4p1 s_f25_r4t2 [22] [0,21,22,23] [⟨some 23,(.mkSl [(.s (.bool false))] 1 1 (.t 22) (.t 22)),none⟩] rfl rfl (by kernel_rfl)
def s_f25_r4t2_x:=hO s_f25_r4t2 s_f25_r4p2 s_f25_r4t3 [] [0,21,22,23] [⟨some 6,(.alloc [(.s (.slice none 0 0))]),none⟩] rfl rfl (by kernel_rfl)
def s_f25_r4t3_x:=hX s_f25_r4t3 [0,21,22,23] [⟨none,(.store 1 (.t 6) (.t 23)),none⟩] rfl
def s_f25_r5t1:List AOper:=[⟨none,(.store 1 (.t 26) (.c (.s (.bool true)))),none⟩]
def s_f25_r5p0:List AOper:=[⟨some 24,(.load false 1 (.t 6)),none⟩,⟨some 25,(.move (.t 1)),none⟩,⟨some 26,(.indexAddr 1 (.t 24) (.t 25)),none⟩]
def s_f25_r5:List AOper:=s_f25_r5p0 ++ s_f25_r5t1
def s_f25_r5p0_tale:=hT s_f25_r5p0 [24,25] [26] 27 [] [(26,(.op (.indexAddr 1 (.t 0) (.t 1)) [(.op (.load false 1 (.t 0)) [(.t 6)]),(.t 1)]))] [.sub 0 [0] [],.tt 1,.sub 0 [] []] (by kernel_rfl) (by kernel_rfl)
def s_f25_r5_x:=hS s_f25_r5 s_f25_r5p0 s_f25_r5t1 [24,25] [26] [24,25,26] rfl (by kernel_rfl)
def s_f25_r5t1_x:=hX s_f25_r5t1 [24,25,26] [⟨none,(.store 1 (.t 26) (.c (.s (.bool true)))),none⟩] rfl
def s_f25_r6t2:List AOper:=[⟨some 7,(.move (.t 28)),none⟩]
def s_f25_r6p1:List AOper:=[⟨some 28,(.buildSl 1 1 [(.s (.int .i64 0))] [(0,(.t 27))]),none⟩]
def s_f25_r6t1:List AOper:=s_f25_r6p1 ++ s_f25_r6t2
def s_f25_r6p0:List AOper:=[⟨some 27,(.move (.t 1)),none⟩]
def s_f25_r6:List AOper:=s_f25_r6p0 ++ s_f25_r6t1
def s_f25_r6p0_tale:=hT s_f25_r6p0 [1] [27] 28 [] [(27,(.t 1))] [.tt 1] (by kernel_rfl) (by kernel_rfl)
def s_f25_r6_x:=hS s_f25_r6 s_f25_r6p0 s_f25_r6t1 [1] [27] [1,27,28] rfl (by kernel_rfl)
def s_f25_r6t1_x:=hO s_f25_r6t1 s_f25_r6p1 s_f25_r6t2 [27] [1,27,28] [⟨some 28,(.buildSl 1 1 [(.s (.int .i64 0))] [(0,(.t 27))]),none⟩] rfl rfl (by kernel_rfl)
def s_f25_r6t2_tale:=hT s_f25_r6t2 [1,27,28] [7] 8 [] [(7,(.t 28))] [.tt 28] (by kernel_rfl) (by kernel_rfl)
def s_f25_r6t2_x:=hL s_f25_r6t2 [1,27,28] [7]
def s_f25_r7:List AOper:=[
 ⟨some 8,(.move (.c (.s (.slice none 0 0)))),none⟩]
def s_f25_r7_tale:=hT s_f25_r7 [] [8] 9 [] [(8,(.c (.s (.slice none 0 0))))] [.cc (.s (.slice none 0 0))] (by kernel_rfl) (by kernel_rfl)
def s_f25_r8:List AOper:=[
 ⟨some 29,(.move (.t 7)),none⟩,
 ⟨some 30,(.lenS .s (.t 29)),none⟩,
 ⟨some 31,(.bin .gtr (.t 30) (.c (.s (.int .i64 0)))),none⟩]
def s_f25_r8_tale:=hT s_f25_r8 [29,30] [31] 32 [] [(31,(.op (.bin .gtr (.t 0) (.c (.s (.int .i64 0)))) [(.op (.lenS .s (.t 0)) [(.t 7)]),(.c (.s (.int .i64 0)))]))] [.tt 7,.sub 0 [0] [],.sub 0 [] []] (by kernel_rfl) (by kernel_rfl)
def s_f25_r9:List AOper:=[
 ⟨some 32,(.move (.t 7)),none⟩,
 ⟨some 33,(.move (.t 7)),none⟩,
 ⟨some 34,(.lenS .s (.t 33)),none⟩,
 ⟨some 35,(.bin .sub (.t 34) (.c (.s (.int .i64 1)))),none⟩,
 ⟨some 36,(.indexAddr 1 (.t 32) (.t 35)),none⟩,
 ⟨some 37,(.load false 1 (.t 36)),none⟩,
 ⟨some 9,(.move (.t 37)),none⟩]
def s_f25_r9_tale:=hT s_f25_r9 [31,32,33,34,35,36,37] [9] 38 [] [(9,(.op (.load false 1 (.t 0)) [(.op (.indexAddr 1 (.t 0) (.t 1)) [(.t 7),(.op (.bin .sub (.t 0) (.c (.s (.int .i64 1)))) [(.op (.lenS .s (.t 0)) [(.t 7)]),(.c (.s (.int .i64 1)))])])]))] [.tt 7,.tt 7,.sub 0 [0,1,0] [],.sub 0 [0,1] [],.sub 0 [0] [],.sub 0 [] [],.sub 0 [] []] (by kernel_rfl) (by kernel_rfl)
def s_f25_r10t2:List AOper:=[⟨some 10,(.move (.t 43)),none⟩]
def s_f25_r10p1:List AOper:=[⟨some 43,(.call (.c (.fn 40 [] [])) [(.t 41),(.t 42)]),none⟩]
def s_f25_r10t1:List AOper:=s_f25_r10p1 ++ s_f25_r10t2
def s_f25_r10p0:List AOper:=[⟨some 38,(.move (.t 5)),none⟩,⟨some 39,(.move (.t 9)),none⟩,⟨some 40,(.indexAddr 1 (.t 38) (.t 39)),none⟩,⟨some 41,(.load false 1 (.t 40)),none⟩,⟨some 42,(.mkFn 41 [] [(.t 6)]),none⟩]
def s_f25_r10:List AOper:=s_f25_r10p0 ++ s_f25_r10t1
def s_f25_r10p0_tale:=hT s_f25_r10p0 [38,39,40] [41,42] 43 [] [(41,(.op (.load false 1 (.t 0)) [(.op (.indexAddr 1 (.t 0) (.t 1)) [(.t 5),(.t 9)])])),(42,(.op (.mkFn 41 [] [(.t 0)]) [(.t 6)]))] [.tt 5,.tt 9,.sub 0 [0] [],.sub 0 [] [],.sub 1 [] []] (by kernel_rfl) (by kernel_rfl)
def s_f25_r10_x:=hS s_f25_r10 s_f25_r10p0 s_f25_r10t1 [38,39,40] [41,42] [38,39,40,41,42,43] rfl (by kernel_rfl)
def s_f25_r10t1_x:=hO s_f25_r10t1 s_f25_r10p1 s_f25_r10t2 [41,42] [38,39,40,41,42,43] [⟨some 43,(.call (.c (.fn 40 [] [])) [(.t 41),(.t 42)]),none⟩] rfl rfl (by kernel_rfl)
def s_f25_r10t2_tale:=hT s_f25_r10t2 [38,39,40,41,42,43] [10] 11 [] [(10,(.t 43))] [.tt 43] (by kernel_rfl) (by kernel_rfl)
def s_f25_r10t2_x:=hL s_f25_r10t2 [38,39,40,41,42,43] [10]
def s_f25_r11:List AOper:=[
 ⟨some 44,(.move (.t 10)),none⟩,
 ⟨some 45,(.bin .lss (.t 44) (.c (.s (.int .i64 0)))),none⟩]
def s_f25_r11_tale:=hT s_f25_r11 [44] [45] 46 [] [(45,(.op (.bin .lss (.t 0) (.c (.s (.int .i64 0)))) [(.t 10),(.c (.s (.int .i64 0)))]))] [.tt 10,.sub 0 [] []] (by kernel_rfl) (by kernel_rfl)
def s_f25_r12t3:List AOper:=[⟨some 8,(.move (.t 49)),none⟩]
def s_f25_r12p2:List AOper:=[⟨some 49,(.append 1 8 (.t 46) (.t 48)),none⟩]
def s_f25_r12t2:List AOper:=s_f25_r12p2 ++ s_f25_r12t3
def s_f25_r12p1:List AOper:=[⟨some 48,(.buildSl 1 1 [(.s (.int .i64 0))] [(0,(.t 47))]),none⟩]
def s_f25_r12t1:List AOper:=s_f25_r12p1 ++ s_f25_r12t2
def s_f25_r12p0:List AOper:=[⟨some 46,(.move (.t 8)),none⟩,⟨some 47,(.move (.t 9)),none⟩]
def s_f25_r12:List AOper:=s_f25_r12p0 ++ s_f25_r12t1
def s_f25_r12p0_tale:=hT s_f25_r12p0 [8,9,10,45] [46,47] 48 [] [(46,(.t 8)),(47,(.t 9))] [.tt 8,.tt 9] (by kernel_rfl) (by kernel_rfl)
def s_f25_r12_x:=hS s_f25_r12 s_f25_r12p0 s_f25_r12t1 [8,9,10,45] [46,47] [9,10,45,46,47,48,49] rfl (by kernel_rfl)
def s_f25_r12t1_x:=hO s_f25_r12t1 s_f25_r12p1 s_f25_r12t2 [47] [9,10,45,46,47,48,49] [⟨some 48,(.buildSl 1 1 [(.s (.int .i64 0))] [(0,(.t 47))]),none⟩] rfl rfl (by kernel_rfl)
def s_f25_r12t2_x:=hO s_f25_r12t2 s_f25_r12p2 s_f25_r12t3 [46,48] [9,10,45,46,47,48,49] [⟨some 49,(.append 1 8 (.t 46) (.t 48)),none⟩] rfl rfl (by kernel_rfl)
def s_f25_r12t3_tale:=hT s_f25_r12t3 [9,10,45,46,47,48,49] [8] 9 [] [(8,(.t 49))] [.tt 49] (by kernel_rfl) (by kernel_rfl)
def s_f25_r12t3_x:=hL s_f25_r12t3 [9,10,45,46,47,48,49] [8]
def s_f25_r13:List AOper:=[
 ⟨some 50,(.move (.t 7)),none⟩,
 ⟨some 51,(.move (.t 7)),none⟩,
 ⟨some 52,(.lenS .s (.t 51)),none⟩,
 ⟨some 53,(.bin .sub (.t 52) (.c (.s (.int .i64 1)))),none⟩,
 ⟨some 54,(.subSl 1 (.t 50) none (some (.t 53)) none),none⟩,
 ⟨some 7,(.move (.t 54)),none⟩]
def s_f25_r13_tale:=hT s_f25_r13 [50,51,52,53,54] [7] 55 [] [(7,(.op (.subSl 1 (.t 0) none (some (.t 1)) none) [(.t 7),(.op (.bin .sub (.t 0) (.c (.s (.int .i64 1)))) [(.op (.lenS .s (.t 0)) [(.t 7)]),(.c (.s (.int .i64 1)))])]))] [.tt 7,.tt 7,.sub 0 [1,0] [],.sub 0 [1] [],.sub 0 [] [],.sub 0 [] []] (by kernel_rfl) (by kernel_rfl)
def s_f25_r14t1:List AOper:=[⟨none,(.store 1 (.t 63) (.c (.s (.bool true)))),none⟩]
def s_f25_r14p0:List AOper:=[⟨some 55,(.load false 1 (.t 6)),none⟩,⟨some 56,(.move (.t 5)),none⟩,⟨some 57,(.move (.t 9)),none⟩,⟨some 58,(.indexAddr 1 (.t 56) (.t 57)),none⟩,⟨some 59,(.load false 1 (.t 58)),none⟩,⟨some 60,(.move (.t 10)),none⟩,⟨some 61,(.indexAddr 1 (.t 59) (.t 60)),none⟩,⟨some 62,(.load false 1 (.t 61)),none⟩,⟨some 63,(.indexAddr 1 (.t 55) (.t 62)),none⟩]
def s_f25_r14:List AOper:=s_f25_r14p0 ++ s_f25_r14t1
def s_f25_r14p0_tale:=hT s_f25_r14p0 [45,55,56,57,58,59,60,61,62] [63] 64 [] [(63,(.op (.indexAddr 1 (.t 0) (.t 1)) [(.op (.load false 1 (.t 0)) [(.t 6)]),(.op (.load false 1 (.t 0)) [(.op (.indexAddr 1 (.t 0) (.t 1)) [(.op (.load false 1 (.t 0)) [(.op (.indexAddr 1 (.t 0) (.t 1)) [(.t 5),(.t 9)])]),(.t 10)])])]))] [.sub 0 [0] [],.tt 5,.tt 9,.sub 0 [1,0,0,0] [],.sub 0 [1,0,0] [],.tt 10,.sub 0 [1,0] [],.sub 0 [1] [],.sub 0 [] []] (by kernel_rfl) (by kernel_rfl)
def s_f25_r14_x:=hS s_f25_r14 s_f25_r14p0 s_f25_r14t1 [45,55,56,57,58,59,60,61,62] [63] [45,55,56,57,58,59,60,61,62,63] rfl (by kernel_rfl)
def s_f25_r14t1_x:=hX s_f25_r14t1 [45,55,56,57,58,59,60,61,62,63] [⟨none,(.store 1 (.t 63) (.c (.s (.bool true)))),none⟩] rfl
def s_f25_r15t3:List AOper:=[⟨some 7,(.move (.t 73)),none⟩]
def s_f25_r15p2:List AOper:=[⟨some 73,(.append 1 8 (.t 64) (.t 72)),none⟩]
def s_f25_r15t2:List AOper:=s_f25_r15p2 ++ s_f25_r15t3
def s_f25_r15p1:List AOper:=[⟨some 72,(.buildSl 1 1 [(.s (.int .i64 0))] [(0,(.t 71))]),none⟩]
def s_f25_r15t1:List AOper:=s_f25_r15p1 ++ s_f25_r15t2
def s_f25_r15p0:List AOper:=[⟨some 64,(.move (.t 7)),none⟩,⟨some 65,(.move (.t 5)),none⟩,⟨some 66,(.move (.t 9)),none⟩,⟨some 67,(.indexAddr 1 (.t 65) (.t 66)),none⟩,⟨some 68,(.load false 1 (.t 67)),none⟩,⟨some 69,(.move (.t 10)),none⟩,⟨some 70,(.indexAddr 1 (.t 68) (.t 69)),none⟩,⟨some 71,(.load false 1 (.t 70)),none⟩]
def s_f25_r15:List AOper:=s_f25_r15p0 ++ s_f25_r15t1
def s_f25_r15p0_tale:=hT s_f25_r15p0 [7,9,10,65,66,67,68,69,70] [64,71] 72 [] [(64,(.t 7)),(71,(.op (.load false 1 (.t 0)) [(.op (.indexAddr 1 (.t 0) (.t 1)) [(.op (.load false 1 (.t 0)) [(.op (.indexAddr 1 (.t 0) (.t 1)) [(.t 5),(.t 9)])]),(.t 10)])]))] [.tt 7,.tt 5,.tt 9,.sub 1 [0,0,0] [],.sub 1 [0,0] [],.tt 10,.sub 1 [0] [],.sub 1 [] []] (by kernel_rfl) (by kernel_rfl)
def s_f25_r15_x:=hS s_f25_r15 s_f25_r15p0 s_f25_r15t1 [7,9,10,65,66,67,68,69,70] [64,71] [9,10,64,65,66,67,68,69,70,71,72,73] rfl (by kernel_rfl)
def s_f25_r15t1_x:=hO s_f25_r15t1 s_f25_r15p1 s_f25_r15t2 [71] [9,10,64,65,66,67,68,69,70,71,72,73] [⟨some 72,(.buildSl 1 1 [(.s (.int .i64 0))] [(0,(.t 71))]),none⟩] rfl rfl (by kernel_rfl)
def s_f25_r15t2_x:=hO s_f25_r15t2 s_f25_r15p2 s_f25_r15t3 [64,72] [9,10,64,65,66,67,68,69,70,71,72,73] [⟨some 73,(.append 1 8 (.t 64) (.t 72)),none⟩] rfl rfl (by kernel_rfl)
def s_f25_r15t3_tale:=hT s_f25_r15t3 [9,10,64,65,66,67,68,69,70,71,72,73] [7] 8 [] [(7,(.t 73))] [.tt 73] (by kernel_rfl) (by kernel_rfl)
def s_f25_r15t3_x:=hL s_f25_r15t3 [9,10,64,65,66,67,68,69,70,71,72,73] [7]
def s_f25_l0_b:ACode:=
 (.seq (.seq (.regionE s_f25_r8 [29,30] [31])
 (.cond (.t 31)
 .skip
 (.exit 0)))
 (.block 1
 (.seq (.regionE s_f25_r9 [31,32,33,34,35,36,37] [9])
 (.seq (.region s_f25_r10 [] [38,39,40,41,42,43])
 (.seq (.seq (.regionE s_f25_r11 [44] [45])
 (.cond (.t 45)
 (.seq (.region s_f25_r12 [] [9,10,45,46,47,48,49])
 (.seq (.regionE s_f25_r13 [50,51,52,53,54] [7])
 (.exit 1)))
 .skip))
 (.seq (.region s_f25_r14 [] [45,55,56,57,58,59,60,61,62,63])
 (.region s_f25_r15 [] [9,10,64,65,66,67,68,69,70,71,72,73])))))))
def s_f25_l0:ACode:=s_f25_l0_b
def s_f25_l0_ev:=hE s_f25_l0 s_f25_l0_b rfl
def s_f25_r16t1:List AOper:=[⟨some 75,(.call (.c (.fn 42 [] [])) [(.t 74)]),none⟩]
def s_f25_r16p0:List AOper:=[⟨some 74,(.move (.t 8)),none⟩]
def s_f25_r16:List AOper:=s_f25_r16p0 ++ s_f25_r16t1
def s_f25_r16p0_tale:=hT s_f25_r16p0 [5,6,7,31] [74] 75 [] [(74,(.t 8))] [.tt 8] (by kernel_rfl) (by kernel_rfl)
def s_f25_r16_x:=hS s_f25_r16 s_f25_r16p0 s_f25_r16t1 [5,6,7,31] [74] [5,6,7,31,74,75] rfl (by kernel_rfl)
def s_f25_r16t1_x:=hX s_f25_r16t1 [5,6,7,31,74,75] [⟨some 75,(.call (.c (.fn 42 [] [])) [(.t 74)]),none⟩] rfl
def s_f25_r17:List AOper:=[
 ⟨some 76,(.move (.t 8)),none⟩,
 ⟨some 4,(.move (.t 76)),none⟩]
def s_f25_r17_tale:=hT s_f25_r17 [8,76] [4] 77 [] [(4,(.t 8))] [.tt 8,.tt 8] (by kernel_rfl) (by kernel_rfl)
def s_f25:ACFun:={ ntmps:=77,results:=[(.tmp 4)],body:=
 (.seq (.regionE s_f25_r0 s_f25_r0_k [])
 (.seq (.seq (.regionE s_f25_r1 [11,12,13,14,15,16,17] [18])
 (.cond (.t 18)
 (.seq (.regionE s_f25_r2 [0,1,18] [4])
 .ret)
 .skip))
 (.seq (.region s_f25_r3 [] [18,19,20])
 (.seq (.region s_f25_r4 [] [0,21,22,23])
 (.seq (.region s_f25_r5 [] [24,25,26])
 (.seq (.region s_f25_r6 [] [1,27,28])
 (.seq (.regionE s_f25_r7 [] [8])
 (.seq (.block 0
 (.loop [] s_f25_l0))
 (.seq (.region s_f25_r16 [] [5,6,7,31,74,75])
 (.seq (.regionE s_f25_r17 [8,76] [4])
 .ret)))))))))) }
abbrev k_f30:Nat:=30
def s_f30_r0_k:List Nat:=[1,2,3,4,5,6,7,8,9,10,11,12,13,14,15,16,17,18,19,20,21,22,23,24,25,26,27,28,29,30,31,32,33,34,35,36,37,38,39,40,41,42,43,44,45,46,47,48,49,50,51,52,53,54,55,56,57,58,59,60]
theorem s_f30_r0_kT:killV s_f30_r0_k (startV 61 [] 1)=[]:=by kernel_rfl
theorem s_f30_r0_kA0:s_f30_r0_k.contains 0=false:=by kernel_rfl
def s_f30_r0:List AOper:=[
 ⟨some 2,(.move (.c (.s (.slice none 0 0)))),none⟩]
def s_f30_r0_tale:=hT s_f30_r0 s_f30_r0_k [] 3 [] [] [.cc (.s (.slice none 0 0))] (by kernel_rfl) (by kernel_rfl)
def s_f30_r1:List AOper:=[
 ⟨some 6,(.move (.t 0)),none⟩,
 ⟨some 7,(.lenS .s (.t 6)),none⟩,
 ⟨some 8,(.bin .lss (.t 7) (.c (.s (.int .i64 2)))),none⟩]
def s_f30_r1_tale:=hT s_f30_r1 [6,7] [8] 9 [] [(8,(.op (.bin .lss (.t 0) (.c (.s (.int .i64 2)))) [(.op (.lenS .s (.t 0)) [(.t 0)]),(.c (.s (.int .i64 2)))]))] [.tt 0,.sub 0 [0] [],.sub 0 [] []] (by kernel_rfl) (by kernel_rfl)
def s_f30_r2:List AOper:=[
 ⟨some 9,(.move (.t 0)),none⟩,
 ⟨some 2,(.move (.t 9)),none⟩]
def s_f30_r2_tale:=hT s_f30_r2 [0,8,9] [2] 10 [] [(2,(.t 0))] [.tt 0,.tt 0] (by kernel_rfl) (by kernel_rfl)
def s_f30_r3:List AOper:=[
 ⟨some 3,(.move (.c (.s (.int .i64 1)))),none⟩]
def s_f30_r3_tale:=hT s_f30_r3 [8] [3] 4 [] [(3,(.c (.s (.int .i64 1))))] [.cc (.s (.int .i64 1))] (by kernel_rfl) (by kernel_rfl)
def s_f30_r4:List AOper:=[
 ⟨some 10,(.move (.t 3)),none⟩,
 ⟨some 11,(.move (.t 0)),none⟩,
 ⟨some 12,(.lenS .s (.t 11)),none⟩,
 ⟨some 13,(.bin .lss (.t 10) (.t 12)),none⟩]
def s_f30_r4_tale:=hT s_f30_r4 [10,11,12] [13] 14 [] [(13,(.op (.bin .lss (.t 0) (.t 1)) [(.t 3),(.op (.lenS .s (.t 0)) [(.t 0)])]))] [.tt 3,.tt 0,.sub 0 [1] [],.sub 0 [] []] (by kernel_rfl) (by kernel_rfl)
def s_f30_r5:List AOper:=[
 ⟨some 16,(.move (.t 0)),none⟩,
 ⟨some 17,(.move (.t 3)),none⟩,
 ⟨some 18,(.indexAddr 1 (.t 16) (.t 17)),none⟩,
 ⟨some 19,(.load false 1 (.t 18)),none⟩,
 ⟨some 20,(.move (.t 0)),none⟩,
 ⟨some 21,(.move (.t 3)),none⟩,
 ⟨some 22,(.bin .sub (.t 21) (.c (.s (.int .i64 1)))),none⟩,
 ⟨some 23,(.indexAddr 1 (.t 20) (.t 22)),none⟩,
 ⟨some 24,(.load false 1 (.t 23)),none⟩,
 ⟨some 25,(.bin .eql (.t 19) (.t 24)),none⟩]
def s_f30_r5_tale:=hT s_f30_r5 [13,16,17,18,19,20,21,22,23,24] [25] 26 [] [(25,(.op (.bin .eql (.t 0) (.t 1)) [(.op (.load false 1 (.t 0)) [(.op (.indexAddr 1 (.t 0) (.t 1)) [(.t 0),(.t 3)])]),(.op (.load false 1 (.t 0)) [(.op (.indexAddr 1 (.t 0) (.t 1)) [(.t 0),(.op (.bin .sub (.t 0) (.c (.s (.int .i64 1)))) [(.t 3),(.c (.s (.int .i64 1)))])])])]))] [.tt 0,.tt 3,.sub 0 [0,0] [],.sub 0 [0] [],.tt 0,.tt 3,.sub 0 [1,0,1] [],.sub 0 [1,0] [],.sub 0 [1] [],.sub 0 [] []] (by kernel_rfl) (by kernel_rfl)
def s_f30_r6:List AOper:=[
 ⟨some 26,(.move (.t 0)),none⟩,
 ⟨some 27,(.move (.t 3)),none⟩,
 ⟨some 28,(.subSl 1 (.t 26) (some (.t 27)) none none),none⟩,
 ⟨some 4,(.move (.t 28)),none⟩]
def s_f30_r6_tale:=hT s_f30_r6 [25,26,27,28] [4] 29 [] [(4,(.op (.subSl 1 (.t 0) (some (.t 1)) none none) [(.t 0),(.t 3)]))] [.tt 0,.tt 3,.sub 0 [] [],.sub 0 [] []] (by kernel_rfl) (by kernel_rfl)
def s_f30_r7:List AOper:=[
 ⟨some 5,(.move (.c (.s (.int .i64 1)))),none⟩]
def s_f30_r7_tale:=hT s_f30_r7 [] [5] 6 [] [(5,(.c (.s (.int .i64 1))))] [.cc (.s (.int .i64 1))] (by kernel_rfl) (by kernel_rfl)
def s_f30_r8:List AOper:=[
 ⟨some 29,(.move (.t 5)),none⟩,
 ⟨some 30,(.move (.t 4)),none⟩,
 ⟨some 31,(.lenS .s (.t 30)),none⟩,
 ⟨some 32,(.bin .lss (.t 29) (.t 31)),none⟩]
def s_f30_r8_tale:=hT s_f30_r8 [29,30,31] [32] 33 [] [(32,(.op (.bin .lss (.t 0) (.t 1)) [(.t 5),(.op (.lenS .s (.t 0)) [(.t 4)])]))] [.tt 5,.tt 4,.sub 0 [1] [],.sub 0 [] []] (by kernel_rfl) (by kernel_rfl)
def s_f30_r9:List AOper:=[
 ⟨some 35,(.move (.t 4)),none⟩,
 ⟨some 36,(.move (.t 5)),none⟩,
 ⟨some 37,(.indexAddr 1 (.t 35) (.t 36)),none⟩,
 ⟨some 38,(.load false 1 (.t 37)),none⟩,
 ⟨some 39,(.move (.t 4)),none⟩,
 ⟨some 40,(.move (.t 5)),none⟩,
 ⟨some 41,(.bin .sub (.t 40) (.c (.s (.int .i64 1)))),none⟩,
 ⟨some 42,(.indexAddr 1 (.t 39) (.t 41)),none⟩,
 ⟨some 43,(.load false 1 (.t 42)),none⟩,
 ⟨some 44,(.bin .neq (.t 38) (.t 43)),none⟩]
def s_f30_r9_tale:=hT s_f30_r9 [32,35,36,37,38,39,40,41,42,43] [44] 45 [] [(44,(.op (.bin .neq (.t 0) (.t 1)) [(.op (.load false 1 (.t 0)) [(.op (.indexAddr 1 (.t 0) (.t 1)) [(.t 4),(.t 5)])]),(.op (.load false 1 (.t 0)) [(.op (.indexAddr 1 (.t 0) (.t 1)) [(.t 4),(.op (.bin .sub (.t 0) (.c (.s (.int .i64 1)))) [(.t 5),(.c (.s (.int .i64 1)))])])])]))] [.tt 4,.tt 5,.sub 0 [0,0] [],.sub 0 [0] [],.tt 4,.tt 5,.sub 0 [1,0,1] [],.sub 0 [1,0] [],.sub 0 [1] [],.sub 0 [] []] (by kernel_rfl) (by kernel_rfl)
def s_f30_r10t1:List AOper:=[⟨none,(.store 1 (.t 51) (.t 50)),none⟩]
def s_f30_r10p0:List AOper:=[⟨some 45,(.move (.t 0)),none⟩,⟨some 46,(.move (.t 3)),none⟩,⟨some 47,(.move (.t 4)),none⟩,⟨some 48,(.move (.t 5)),none⟩,⟨some 49,(.indexAddr 1 (.t 47) (.t 48)),none⟩,⟨some 50,(.load false 1 (.t 49)),none⟩,⟨some 51,(.indexAddr 1 (.t 45) (.t 46)),none⟩]
def s_f30_r10:List AOper:=s_f30_r10p0 ++ s_f30_r10t1
def s_f30_r10p0_tale:=hT s_f30_r10p0 [44,45,46,47,48,49] [50,51] 52 [] [(50,(.op (.load false 1 (.t 0)) [(.op (.indexAddr 1 (.t 0) (.t 1)) [(.t 4),(.t 5)])])),(51,(.op (.indexAddr 1 (.t 0) (.t 1)) [(.t 0),(.t 3)]))] [.tt 0,.tt 3,.tt 4,.tt 5,.sub 0 [0] [],.sub 0 [] [],.sub 1 [] []] (by kernel_rfl) (by kernel_rfl)
def s_f30_r10_x:=hS s_f30_r10 s_f30_r10p0 s_f30_r10t1 [44,45,46,47,48,49] [50,51] [44,45,46,47,48,49,50,51] rfl (by kernel_rfl)
def s_f30_r10t1_x:=hX s_f30_r10t1 [44,45,46,47,48,49,50,51] [⟨none,(.store 1 (.t 51) (.t 50)),none⟩] rfl
def s_f30_r11:List AOper:=[
 ⟨some 52,(.move (.t 3)),none⟩,
 ⟨some 53,(.bin .add (.t 52) (.c (.s (.int .i64 1)))),none⟩,
 ⟨some 3,(.move (.t 53)),none⟩]
def s_f30_r11_tale:=hT s_f30_r11 [52,53] [3] 54 [] [(3,(.op (.bin .add (.t 0) (.c (.s (.int .i64 1)))) [(.t 3),(.c (.s (.int .i64 1)))]))] [.tt 3,.sub 0 [] [],.sub 0 [] []] (by kernel_rfl) (by kernel_rfl)
def s_f30_r12:List AOper:=[
 ⟨some 33,(.move (.t 5)),none⟩,
 ⟨some 34,(.bin .add (.t 33) (.c (.s (.int .i64 1)))),none⟩,
 ⟨some 5,(.move (.t 34)),none⟩]
def s_f30_r12_tale:=hT s_f30_r12 [33,34,44] [5] 35 [] [(5,(.op (.bin .add (.t 0) (.c (.s (.int .i64 1)))) [(.t 5),(.c (.s (.int .i64 1)))]))] [.tt 5,.sub 0 [] [],.sub 0 [] []] (by kernel_rfl) (by kernel_rfl)
def s_f30_l0_b:ACode:=
 (.seq (.seq (.regionE s_f30_r8 [29,30,31] [32])
 (.cond (.t 32)
 .skip
 (.exit 2)))
 (.seq (.block 3
 (.seq (.regionE s_f30_r9 [32,35,36,37,38,39,40,41,42,43] [44])
 (.cond (.t 44)
 (.seq (.region s_f30_r10 [] [44,45,46,47,48,49,50,51])
 (.regionE s_f30_r11 [52,53] [3]))
 .skip)))
 (.regionE s_f30_r12 [33,34,44] [5])))
def s_f30_l0:ACode:=s_f30_l0_b
def s_f30_l0_ev:=hE s_f30_l0 s_f30_l0_b rfl
def s_f30_r13t1:List AOper:=[⟨none,(.clearSl 1 [(.s (.int .i64 0))] (.t 56)),none⟩]
def s_f30_r13p0:List AOper:=[⟨some 54,(.move (.t 0)),none⟩,⟨some 55,(.move (.t 3)),none⟩,⟨some 56,(.subSl 1 (.t 54) (some (.t 55)) none none),none⟩]
def s_f30_r13:List AOper:=s_f30_r13p0 ++ s_f30_r13t1
def s_f30_r13p0_tale:=hT s_f30_r13p0 [4,5,32,54,55] [56] 57 [] [(56,(.op (.subSl 1 (.t 0) (some (.t 1)) none none) [(.t 0),(.t 3)]))] [.tt 0,.tt 3,.sub 0 [] []] (by kernel_rfl) (by kernel_rfl)
def s_f30_r13_x:=hS s_f30_r13 s_f30_r13p0 s_f30_r13t1 [4,5,32,54,55] [56] [4,5,32,54,55,56] rfl (by kernel_rfl)
def s_f30_r13t1_x:=hX s_f30_r13t1 [4,5,32,54,55,56] [⟨none,(.clearSl 1 [(.s (.int .i64 0))] (.t 56)),none⟩] rfl
def s_f30_r14:List AOper:=[
 ⟨some 57,(.move (.t 0)),none⟩,
 ⟨some 58,(.move (.t 3)),none⟩,
 ⟨some 59,(.subSl 1 (.t 57) none (some (.t 58)) none),none⟩,
 ⟨some 2,(.move (.t 59)),none⟩]
def s_f30_r14_tale:=hT s_f30_r14 [0,3,57,58,59] [2] 60 [] [(2,(.op (.subSl 1 (.t 0) none (some (.t 1)) none) [(.t 0),(.t 3)]))] [.tt 0,.tt 3,.sub 0 [] [],.sub 0 [] []] (by kernel_rfl) (by kernel_rfl)
def s_f30_r15:List AOper:=[
 ⟨some 14,(.move (.t 3)),none⟩,
 ⟨some 15,(.bin .add (.t 14) (.c (.s (.int .i64 1)))),none⟩,
 ⟨some 3,(.move (.t 15)),none⟩]
def s_f30_r15_tale:=hT s_f30_r15 [14,15,25] [3] 16 [] [(3,(.op (.bin .add (.t 0) (.c (.s (.int .i64 1)))) [(.t 3),(.c (.s (.int .i64 1)))]))] [.tt 3,.sub 0 [] [],.sub 0 [] []] (by kernel_rfl) (by kernel_rfl)
def s_f30_l1_b:ACode:=
 (.seq (.seq (.regionE s_f30_r4 [10,11,12] [13])
 (.cond (.t 13)
 .skip
 (.exit 0)))
 (.seq (.block 1
 (.seq (.regionE s_f30_r5 [13,16,17,18,19,20,21,22,23,24] [25])
 (.cond (.t 25)
 (.seq (.regionE s_f30_r6 [25,26,27,28] [4])
 (.seq (.seq (.regionE s_f30_r7 [] [5])
 (.block 2
 (.loop [] s_f30_l0)))
 (.seq (.region s_f30_r13 [] [4,5,32,54,55,56])
 (.seq (.regionE s_f30_r14 [0,3,57,58,59] [2])
 .ret))))
 .skip)))
 (.regionE s_f30_r15 [14,15,25] [3])))
def s_f30_l1:ACode:=s_f30_l1_b
def s_f30_l1_ev:=hE s_f30_l1 s_f30_l1_b rfl
def s_f30_r16:List AOper:=[
 ⟨some 60,(.move (.t 0)),none⟩,
 ⟨some 2,(.move (.t 60)),none⟩]
def s_f30_r16_tale:=hT s_f30_r16 [0,3,13,60] [2] 61 [] [(2,(.t 0))] [.tt 0,.tt 0] (by kernel_rfl) (by kernel_rfl)
def s_f30:ACFun:={ ntmps:=61,results:=[(.tmp 2)],body:=
 (.seq (.regionE s_f30_r0 s_f30_r0_k [])
 (.seq (.seq (.regionE s_f30_r1 [6,7] [8])
 (.cond (.t 8)
 (.seq (.regionE s_f30_r2 [0,8,9] [2])
 .ret)
 .skip))
 (.seq (.seq (.regionE s_f30_r3 [8] [3])
 (.block 0
 (.loop [] s_f30_l1)))
 (.seq (.regionE s_f30_r16 [0,3,13,60] [2])
 .ret)))) }
abbrev k_f33:Nat:=33
def s_f33_r0_k:List Nat:=[2,3,4,5,6,7,8,9,10,11,12,13,14,15,16,17,18,19,20,21,22,23,24,25,26,27,28,29,30,31,32,33,34,35,36,37,38,39,40,41]
theorem s_f33_r0_kT:killV s_f33_r0_k (startV 42 [] 2)=[]:=by kernel_rfl
theorem s_f33_r0_kA0:s_f33_r0_k.contains 0=false:=by kernel_rfl
theorem s_f33_r0_kA1:s_f33_r0_k.contains 1=false:=by kernel_rfl
def s_f33_r0:List AOper:=[
 ⟨some 4,(.move (.c (.s (.slice none 0 0)))),none⟩]
def s_f33_r0_tale:=hT s_f33_r0 s_f33_r0_k [] 5 [] [] [.cc (.s (.slice none 0 0))] (by kernel_rfl) (by kernel_rfl)
def s_f33_r1t2:List AOper:=[⟨some 5,(.move (.t 10)),none⟩]
def s_f33_r1p1:List AOper:=[⟨some 10,(.call (.c (.fn 40 [] [])) [(.t 8),(.t 9)]),none⟩]
def s_f33_r1t1:List AOper:=s_f33_r1p1 ++ s_f33_r1t2
def s_f33_r1p0:List AOper:=[⟨some 8,(.move (.t 0)),none⟩,⟨some 9,(.move (.t 1)),none⟩]
def s_f33_r1:List AOper:=s_f33_r1p0 ++ s_f33_r1t1
def s_f33_r1p0_tale:=hT s_f33_r1p0 [] [8,9] 10 [] [(8,(.t 0)),(9,(.t 1))] [.tt 0,.tt 1] (by kernel_rfl) (by kernel_rfl)
def s_f33_r1_x:=hS s_f33_r1 s_f33_r1p0 s_f33_r1t1 [] [8,9] [8,9,10] rfl (by kernel_rfl)
def s_f33_r1t1_x:=hO s_f33_r1t1 s_f33_r1p1 s_f33_r1t2 [8,9] [8,9,10] [⟨some 10,(.call (.c (.fn 40 [] [])) [(.t 8),(.t 9)]),none⟩] rfl rfl (by kernel_rfl)
def s_f33_r1t2_tale:=hT s_f33_r1t2 [8,9,10] [5] 6 [] [(5,(.t 10))] [.tt 10] (by kernel_rfl) (by kernel_rfl)
def s_f33_r1t2_x:=hL s_f33_r1t2 [8,9,10] [5]
def s_f33_r2:List AOper:=[
 ⟨some 11,(.move (.t 5)),none⟩,
 ⟨some 12,(.bin .eql (.t 11) (.c (.s (.int .i64 (-1))))),none⟩]
def s_f33_r2_tale:=hT s_f33_r2 [11] [12] 13 [] [(12,(.op (.bin .eql (.t 0) (.c (.s (.int .i64 (-1))))) [(.t 5),(.c (.s (.int .i64 (-1))))]))] [.tt 5,.sub 0 [] []] (by kernel_rfl) (by kernel_rfl)
def s_f33_r3:List AOper:=[
 ⟨some 13,(.move (.t 0)),none⟩,
 ⟨some 4,(.move (.t 13)),none⟩]
def s_f33_r3_tale:=hT s_f33_r3 [0,1,5,12,13] [4] 14 [] [(4,(.t 0))] [.tt 0,.tt 0] (by kernel_rfl) (by kernel_rfl)
def s_f33_r4:List AOper:=[
 ⟨some 14,(.move (.t 5)),none⟩,
 ⟨some 15,(.bin .add (.t 14) (.c (.s (.int .i64 1)))),none⟩,
 ⟨some 6,(.move (.t 15)),none⟩]
def s_f33_r4_tale:=hT s_f33_r4 [12,14,15] [6] 16 [] [(6,(.op (.bin .add (.t 0) (.c (.s (.int .i64 1)))) [(.t 5),(.c (.s (.int .i64 1)))]))] [.tt 5,.sub 0 [] [],.sub 0 [] []] (by kernel_rfl) (by kernel_rfl)
def s_f33_r5:List AOper:=[
 ⟨some 16,(.move (.t 6)),none⟩,
 ⟨some 17,(.move (.t 0)),none⟩,
 ⟨some 18,(.lenS .s (.t 17)),none⟩,
 ⟨some 19,(.bin .lss (.t 16) (.t 18)),none⟩]
def s_f33_r5_tale:=hT s_f33_r5 [16,17,18] [19] 20 [] [(19,(.op (.bin .lss (.t 0) (.t 1)) [(.t 6),(.op (.lenS .s (.t 0)) [(.t 0)])]))] [.tt 6,.tt 0,.sub 0 [1] [],.sub 0 [] []] (by kernel_rfl) (by kernel_rfl)
def s_f33_r6:List AOper:=[
 ⟨some 22,(.move (.t 0)),none⟩,
 ⟨some 23,(.move (.t 6)),none⟩,
 ⟨some 24,(.indexAddr 1 (.t 22) (.t 23)),none⟩,
 ⟨some 25,(.load false 1 (.t 24)),none⟩,
 ⟨some 7,(.move (.t 25)),none⟩]
def s_f33_r6_tale:=hT s_f33_r6 [19,22,23,24,25] [7] 26 [] [(7,(.op (.load false 1 (.t 0)) [(.op (.indexAddr 1 (.t 0) (.t 1)) [(.t 0),(.t 6)])]))] [.tt 0,.tt 6,.sub 0 [0] [],.sub 0 [] [],.sub 0 [] []] (by kernel_rfl) (by kernel_rfl)
def s_f33_r7t2:List AOper:=[⟨some 29,(.un .not (.t 28)),none⟩]
def s_f33_r7p1:List AOper:=[⟨some 28,(.call (.t 26) [(.t 27)]),none⟩]
def s_f33_r7t1:List AOper:=s_f33_r7p1 ++ s_f33_r7t2
def s_f33_r7p0:List AOper:=[⟨some 26,(.move (.t 1)),none⟩,⟨some 27,(.move (.t 7)),none⟩]
def s_f33_r7:List AOper:=s_f33_r7p0 ++ s_f33_r7t1
def s_f33_r7p0_tale:=hT s_f33_r7p0 [] [26,27] 28 [] [(26,(.t 1)),(27,(.t 7))] [.tt 1,.tt 7] (by kernel_rfl) (by kernel_rfl)
def s_f33_r7_x:=hS s_f33_r7 s_f33_r7p0 s_f33_r7t1 [] [26,27] [26,27,28] rfl (by kernel_rfl)
def s_f33_r7t1_x:=hO s_f33_r7t1 s_f33_r7p1 s_f33_r7t2 [26,27] [26,27,28] [⟨some 28,(.call (.t 26) [(.t 27)]),none⟩] rfl rfl (by kernel_rfl)
def s_f33_r7t2_tale:=hT s_f33_r7t2 [26,27,28] [29] 30 [] [(29,(.op (.un .not (.t 0)) [(.t 28)]))] [.sub 0 [] []] (by kernel_rfl) (by kernel_rfl)
def s_f33_r7t2_x:=hL s_f33_r7t2 [26,27,28] [29]
def s_f33_r8t1:List AOper:=[⟨none,(.store 1 (.t 33) (.t 32)),none⟩]
def s_f33_r8p0:List AOper:=[⟨some 30,(.move (.t 0)),none⟩,⟨some 31,(.move (.t 5)),none⟩,⟨some 32,(.move (.t 7)),none⟩,⟨some 33,(.indexAddr 1 (.t 30) (.t 31)),none⟩]
def s_f33_r8:List AOper:=s_f33_r8p0 ++ s_f33_r8t1
def s_f33_r8p0_tale:=hT s_f33_r8p0 [7,29,30,31] [32,33] 34 [] [(32,(.t 7)),(33,(.op (.indexAddr 1 (.t 0) (.t 1)) [(.t 0),(.t 5)]))] [.tt 0,.tt 5,.tt 7,.sub 1 [] []] (by kernel_rfl) (by kernel_rfl)
def s_f33_r8_x:=hS s_f33_r8 s_f33_r8p0 s_f33_r8t1 [7,29,30,31] [32,33] [7,29,30,31,32,33] rfl (by kernel_rfl)
def s_f33_r8t1_x:=hX s_f33_r8t1 [7,29,30,31,32,33] [⟨none,(.store 1 (.t 33) (.t 32)),none⟩] rfl
def s_f33_r9:List AOper:=[
 ⟨some 34,(.move (.t 5)),none⟩,
 ⟨some 35,(.bin .add (.t 34) (.c (.s (.int .i64 1)))),none⟩,
 ⟨some 5,(.move (.t 35)),none⟩]
def s_f33_r9_tale:=hT s_f33_r9 [34,35] [5] 36 [] [(5,(.op (.bin .add (.t 0) (.c (.s (.int .i64 1)))) [(.t 5),(.c (.s (.int .i64 1)))]))] [.tt 5,.sub 0 [] [],.sub 0 [] []] (by kernel_rfl) (by kernel_rfl)
def s_f33_r10:List AOper:=[
 ⟨some 20,(.move (.t 6)),none⟩,
 ⟨some 21,(.bin .add (.t 20) (.c (.s (.int .i64 1)))),none⟩,
 ⟨some 6,(.move (.t 21)),none⟩]
def s_f33_r10_tale:=hT s_f33_r10 [7,20,21,29] [6] 22 [] [(6,(.op (.bin .add (.t 0) (.c (.s (.int .i64 1)))) [(.t 6),(.c (.s (.int .i64 1)))]))] [.tt 6,.sub 0 [] [],.sub 0 [] []] (by kernel_rfl) (by kernel_rfl)
def s_f33_l0_b:ACode:=
 (.seq (.seq (.regionE s_f33_r5 [16,17,18] [19])
 (.cond (.t 19)
 .skip
 (.exit 0)))
 (.seq (.block 1
 (.seq (.regionE s_f33_r6 [19,22,23,24,25] [7])
 (.seq (.region s_f33_r7 [] [26,27,28])
 (.cond (.t 29)
 (.seq (.region s_f33_r8 [] [7,29,30,31,32,33])
 (.regionE s_f33_r9 [34,35] [5]))
 .skip))))
 (.regionE s_f33_r10 [7,20,21,29] [6])))
def s_f33_l0:ACode:=s_f33_l0_b
def s_f33_l0_ev:=hE s_f33_l0 s_f33_l0_b rfl
def s_f33_r11t1:List AOper:=[⟨none,(.clearSl 1 [(.s (.int .i64 0))] (.t 38)),none⟩]
def s_f33_r11p0:List AOper:=[⟨some 36,(.move (.t 0)),none⟩,⟨some 37,(.move (.t 5)),none⟩,⟨some 38,(.subSl 1 (.t 36) (some (.t 37)) none none),none⟩]
def s_f33_r11:List AOper:=s_f33_r11p0 ++ s_f33_r11t1
def s_f33_r11p0_tale:=hT s_f33_r11p0 [1,6,19,36,37] [38] 39 [] [(38,(.op (.subSl 1 (.t 0) (some (.t 1)) none none) [(.t 0),(.t 5)]))] [.tt 0,.tt 5,.sub 0 [] []] (by kernel_rfl) (by kernel_rfl)
def s_f33_r11_x:=hS s_f33_r11 s_f33_r11p0 s_f33_r11t1 [1,6,19,36,37] [38] [1,6,19,36,37,38] rfl (by kernel_rfl)
def s_f33_r11t1_x:=hX s_f33_r11t1 [1,6,19,36,37,38] [⟨none,(.clearSl 1 [(.s (.int .i64 0))] (.t 38)),none⟩] rfl
def s_f33_r12:List AOper:=[
 ⟨some 39,(.move (.t 0)),none⟩,
 ⟨some 40,(.move (.t 5)),none⟩,
 ⟨some 41,(.subSl 1 (.t 39) none (some (.t 40)) none),none⟩,
 ⟨some 4,(.move (.t 41)),none⟩]
def s_f33_r12_tale:=hT s_f33_r12 [0,5,39,40,41] [4] 42 [] [(4,(.op (.subSl 1 (.t 0) none (some (.t 1)) none) [(.t 0),(.t 5)]))] [.tt 0,.tt 5,.sub 0 [] [],.sub 0 [] []] (by kernel_rfl) (by kernel_rfl)
def s_f33:ACFun:={ ntmps:=42,results:=[(.tmp 4)],body:=
 (.seq (.regionE s_f33_r0 s_f33_r0_k [])
 (.seq (.region s_f33_r1 [] [8,9,10])
 (.seq (.seq (.regionE s_f33_r2 [11] [12])
 (.cond (.t 12)
 (.seq (.regionE s_f33_r3 [0,1,5,12,13] [4])
 .ret)
 .skip))
 (.seq (.seq (.regionE s_f33_r4 [12,14,15] [6])
 (.block 0
 (.loop [] s_f33_l0)))
 (.seq (.region s_f33_r11 [] [1,6,19,36,37,38])
 (.seq (.regionE s_f33_r12 [0,5,39,40,41] [4])
 .ret)))))) }
abbrev k_f34:Nat:=34
def s_f34_r0_k:List Nat:=[1,2,3,4,5,6,7]
theorem s_f34_r0_kT:killV s_f34_r0_k (startV 8 [] 1)=[]:=by kernel_rfl
theorem s_f34_r0_kA0:s_f34_r0_k.contains 0=false:=by kernel_rfl
def s_f34_r0:List AOper:=[
 ⟨some 2,(.move (.c (.s (.slice none 0 0)))),none⟩]
def s_f34_r0_tale:=hT s_f34_r0 s_f34_r0_k [] 3 [] [] [.cc (.s (.slice none 0 0))] (by kernel_rfl) (by kernel_rfl)
def s_f34_r1:List AOper:=[
 ⟨some 3,(.move (.t 0)),none⟩,
 ⟨some 4,(.eqNil .s false (.t 3)),none⟩]
def s_f34_r1_tale:=hT s_f34_r1 [3] [4] 5 [] [(4,(.op (.eqNil .s false (.t 0)) [(.t 0)]))] [.tt 0,.sub 0 [] []] (by kernel_rfl) (by kernel_rfl)
def s_f34_r2:List AOper:=[
 ⟨some 2,(.move (.c (.s (.slice none 0 0)))),none⟩]
def s_f34_r2_tale:=hT s_f34_r2 [0,4] [2] 3 [] [(2,(.c (.s (.slice none 0 0))))] [.cc (.s (.slice none 0 0))] (by kernel_rfl) (by kernel_rfl)
def s_f34_r3t3:List AOper:=[⟨some 2,(.move (.t 7)),none⟩]
def s_f34_r3p2:List AOper:=[⟨some 7,(.append 1 8 (.t 5) (.t 6)),none⟩]
def s_f34_r3t2:List AOper:=s_f34_r3p2 ++ s_f34_r3t3
def s_f34_r3p1:List AOper:=[⟨some 6,(.move (.t 0)),none⟩]
def s_f34_r3t1:List AOper:=s_f34_r3p1 ++ s_f34_r3t2
def s_f34_r3p0:List AOper:=[⟨some 5,(.buildSl 1 0 [] []),none⟩]
def s_f34_r3:List AOper:=s_f34_r3p0 ++ s_f34_r3t1
def s_f34_r3_x:=hO s_f34_r3 s_f34_r3p0 s_f34_r3t1 [4] [0,4,5,6,7] [⟨some 5,(.buildSl 1 0 [] []),none⟩] rfl rfl (by kernel_rfl)
def s_f34_r3p1_tale:=hT s_f34_r3p1 [0] [6] 7 [] [(6,(.t 0))] [.tt 0] (by kernel_rfl) (by kernel_rfl)
def s_f34_r3t1_x:=hS s_f34_r3t1 s_f34_r3p1 s_f34_r3t2 [0] [6] [0,4,5,6,7] rfl (by kernel_rfl)
def s_f34_r3t2_x:=hO s_f34_r3t2 s_f34_r3p2 s_f34_r3t3 [5,6] [0,4,5,6,7] [⟨some 7,(.append 1 8 (.t 5) (.t 6)),none⟩] rfl rfl (by kernel_rfl)
def s_f34_r3t3_tale:=hT s_f34_r3t3 [0,4,5,6,7] [2] 3 [] [(2,(.t 7))] [.tt 7] (by kernel_rfl) (by kernel_rfl)
def s_f34_r3t3_x:=hL s_f34_r3t3 [0,4,5,6,7] [2]
def s_f34:ACFun:={ ntmps:=8,results:=[(.tmp 2)],body:=
 (.seq (.regionE s_f34_r0 s_f34_r0_k [])
 (.seq (.seq (.regionE s_f34_r1 [3] [4])
 (.cond (.t 4)
 (.seq (.regionE s_f34_r2 [0,4] [2])
 .ret)
 .skip))
 (.seq (.region s_f34_r3 [] [0,4,5,6,7])
 .ret))) }
abbrev k_f35:Nat:=35
def s_f35_r0_k:List Nat:=[2,3,4,5,6,7,8,9,10,11]
theorem s_f35_r0_kT:killV s_f35_r0_k (startV 12 [] 2)=[]:=by kernel_rfl
theorem s_f35_r0_kA0:s_f35_r0_k.contains 0=false:=by kernel_rfl
theorem s_f35_r0_kA1:s_f35_r0_k.contains 1=false:=by kernel_rfl
def s_f35_r0:List AOper:=[
 ⟨some 3,(.move (.c (.s (.bool false)))),none⟩]
def s_f35_r0_tale:=hT s_f35_r0 s_f35_r0_k [] 4 [] [] [.cc (.s (.bool false))] (by kernel_rfl) (by kernel_rfl)
def s_f35_r1:List AOper:=[
 ⟨some 4,(.move (.t 0)),none⟩,
 ⟨some 5,(.bin .lss (.t 4) (.c (.s (.int .i64 0)))),none⟩,
 ⟨some 6,(.move (.t 5)),none⟩,
 ⟨some 7,(.move (.t 0)),some (6,false)⟩,
 ⟨some 8,(.load false 1 (.t 1)),some (6,false)⟩,
 ⟨some 9,(.lenS .s (.t 8)),some (6,false)⟩,
 ⟨some 10,(.bin .geq (.t 7) (.t 9)),some (6,false)⟩,
 ⟨some 11,(.pick (.t 6) (.c (.s (.bool true))) (.t 10)),none⟩,
 ⟨some 3,(.move (.t 11)),none⟩]
def s_f35_r1_tale:=hT s_f35_r1 [0,1,4,5,6,7,8,9,10,11] [3] 12 [] [(3,(.pick (.op (.bin .lss (.t 0) (.c (.s (.int .i64 0)))) [(.t 0),(.c (.s (.int .i64 0)))]) (.c (.s (.bool true))) (.op (.bin .geq (.t 0) (.t 1)) [(.t 0),(.op (.lenS .s (.t 0)) [(.op (.load false 1 (.t 0)) [(.t 1)])])])))] [.tt 0,.sub 0 [0] [],.sub 0 [0] [],.sub 0 [2,0] [6],.sub 0 [2,1,0] [6],.sub 0 [2,1] [6],.sub 0 [2] [6],.sub 0 [] [],.sub 0 [] []] (by kernel_rfl) (by kernel_rfl)
def s_f35:ACFun:={ ntmps:=12,results:=[(.tmp 3)],body:=
 (.seq (.regionE s_f35_r0 s_f35_r0_k [])
 (.seq (.regionE s_f35_r1 [0,1,4,5,6,7,8,9,10,11] [3])
 .ret)) }
abbrev k_f38:Nat:=38
def s_f38_r0_k:List Nat:=[1,4,5,6,7,8,9,10,11,12,13,14,15,16,17,18,20,21,22,23,24,25,26]
theorem s_f38_r0_kT:killV s_f38_r0_k (startV 27 [] 4)=[(19,und)]:=by kernel_rfl
theorem s_f38_r0_kA0:s_f38_r0_k.contains 0=false:=by kernel_rfl
theorem s_f38_r0_kA1:s_f38_r0_k.contains 1=true:=by kernel_rfl
theorem s_f38_r0_kA2:s_f38_r0_k.contains 2=false:=by kernel_rfl
theorem s_f38_r0_kA3:s_f38_r0_k.contains 3=false:=by kernel_rfl
def s_f38_r0:List AOper:=[
 ⟨some 5,(.move (.t 0)),none⟩,
 ⟨some 6,(.bin .geq (.t 5) (.c (.s (.int .i64 0)))),none⟩,
 ⟨some 7,(.move (.t 6)),none⟩,
 ⟨some 8,(.move (.t 0)),some (7,true)⟩,
 ⟨some 9,(.load false 1 (.t 1)),some (7,true)⟩,
 ⟨some 10,(.lenS .s (.t 9)),some (7,true)⟩,
 ⟨some 11,(.bin .lss (.t 8) (.t 10)),some (7,true)⟩,
 ⟨some 12,(.pick (.t 7) (.t 11) (.c (.s (.bool false)))),none⟩,
 ⟨some 13,(.move (.t 12)),none⟩,
 ⟨some 14,(.load false 1 (.t 2)),some (13,true)⟩,
 ⟨some 15,(.move (.t 0)),some (13,true)⟩,
 ⟨some 16,(.indexAddr 1 (.t 14) (.t 15)),some (13,true)⟩,
 ⟨some 17,(.load false 1 (.t 16)),some (13,true)⟩,
 ⟨some 18,(.un .not (.t 17)),some (13,true)⟩,
 ⟨some 19,(.pick (.t 13) (.t 18) (.c (.s (.bool false)))),none⟩]
def s_f38_r0_tale:=hT s_f38_r0 s_f38_r0_k [19] 20 [] [(19,(.pick (.pick (.op (.bin .geq (.t 0) (.c (.s (.int .i64 0)))) [(.t 0),(.c (.s (.int .i64 0)))]) (.op (.bin .lss (.t 0) (.t 1)) [(.t 0),(.op (.lenS .s (.t 0)) [(.op (.load false 1 (.t 0)) [(.t 1)])])]) (.c (.s (.bool false)))) (.op (.un .not (.t 0)) [(.op (.load false 1 (.t 0)) [(.op (.indexAddr 1 (.t 0) (.t 1)) [(.op (.load false 1 (.t 0)) [(.t 2)]),(.t 0)])])]) (.c (.s (.bool false)))))] [.tt 0,.sub 0 [0,0] [],.sub 0 [0,0] [],.sub 0 [0,1,0] [7],.sub 0 [0,1,1,0] [7],.sub 0 [0,1,1] [7],.sub 0 [0,1] [7],.sub 0 [0] [],.sub 0 [0] [],.sub 0 [1,0,0,0] [13],.sub 0 [1,0,0,1] [13],.sub 0 [1,0,0] [13],.sub 0 [1,0] [13],.sub 0 [1] [13],.sub 0 [] []] (by kernel_rfl) (by kernel_rfl)
def s_f38_r1t1:List AOper:=[⟨none,(.store 1 (.t 22) (.c (.s (.bool true)))),none⟩]
def s_f38_r1p0:List AOper:=[⟨some 20,(.load false 1 (.t 2)),none⟩,⟨some 21,(.move (.t 0)),none⟩,⟨some 22,(.indexAddr 1 (.t 20) (.t 21)),none⟩]
def s_f38_r1:List AOper:=s_f38_r1p0 ++ s_f38_r1t1
def s_f38_r1p0_tale:=hT s_f38_r1p0 [2,19,20,21] [22] 23 [] [(22,(.op (.indexAddr 1 (.t 0) (.t 1)) [(.op (.load false 1 (.t 0)) [(.t 2)]),(.t 0)]))] [.sub 0 [0] [],.tt 0,.sub 0 [] []] (by kernel_rfl) (by kernel_rfl)
def s_f38_r1_x:=hS s_f38_r1 s_f38_r1p0 s_f38_r1t1 [2,19,20,21] [22] [2,19,20,21,22] rfl (by kernel_rfl)
def s_f38_r1t1_x:=hX s_f38_r1t1 [2,19,20,21,22] [⟨none,(.store 1 (.t 22) (.c (.s (.bool true)))),none⟩] rfl
def s_f38_r2t3:List AOper:=[⟨none,(.store 1 (.t 3) (.t 26)),none⟩]
def s_f38_r2p2:List AOper:=[⟨some 26,(.append 1 8 (.t 23) (.t 25)),none⟩]
def s_f38_r2t2:List AOper:=s_f38_r2p2 ++ s_f38_r2t3
def s_f38_r2p1:List AOper:=[⟨some 25,(.buildSl 1 1 [(.s (.int .i64 0))] [(0,(.t 24))]),none⟩]
def s_f38_r2t1:List AOper:=s_f38_r2p1 ++ s_f38_r2t2
def s_f38_r2p0:List AOper:=[⟨some 23,(.load false 1 (.t 3)),none⟩,⟨some 24,(.move (.t 0)),none⟩]
def s_f38_r2:List AOper:=s_f38_r2p0 ++ s_f38_r2t1
def s_f38_r2p0_tale:=hT s_f38_r2p0 [0] [23,24] 25 [] [(23,(.op (.load false 1 (.t 0)) [(.t 3)])),(24,(.t 0))] [.sub 0 [] [],.tt 0] (by kernel_rfl) (by kernel_rfl)
def s_f38_r2_x:=hS s_f38_r2 s_f38_r2p0 s_f38_r2t1 [0] [23,24] [0,3,23,24,25,26] rfl (by kernel_rfl)
def s_f38_r2t1_x:=hO s_f38_r2t1 s_f38_r2p1 s_f38_r2t2 [24] [0,3,23,24,25,26] [⟨some 25,(.buildSl 1 1 [(.s (.int .i64 0))] [(0,(.t 24))]),none⟩] rfl rfl (by kernel_rfl)
def s_f38_r2t2_x:=hO s_f38_r2t2 s_f38_r2p2 s_f38_r2t3 [23,25] [0,3,23,24,25,26] [⟨some 26,(.append 1 8 (.t 23) (.t 25)),none⟩] rfl rfl (by kernel_rfl)
def s_f38_r2t3_x:=hX s_f38_r2t3 [0,3,23,24,25,26] [⟨none,(.store 1 (.t 3) (.t 26)),none⟩] rfl
def s_f38:ACFun:={ ntmps:=27,results:=[],body:=
 (.seq (.regionE s_f38_r0 s_f38_r0_k [19])
 (.cond (.t 19)
 (.seq (.region s_f38_r1 [] [2,19,20,21,22])
 (.region s_f38_r2 [] [0,3,23,24,25,26]))
 .skip)) }
abbrev k_f40:Nat:=40
def s_f40_r0_k:List Nat:=[2,3,4,5,6,7,8,9,10,11,12,13,14,15,16,17,18]
theorem s_f40_r0_kT:killV s_f40_r0_k (startV 19 [] 2)=[]:=by kernel_rfl
theorem s_f40_r0_kA0:s_f40_r0_k.contains 0=false:=by kernel_rfl
theorem s_f40_r0_kA1:s_f40_r0_k.contains 1=false:=by kernel_rfl
def s_f40_r0:List AOper:=[
 ⟨some 4,(.move (.c (.s (.int .i64 0)))),none⟩]
def s_f40_r0_tale:=hT s_f40_r0 s_f40_r0_k [] 5 [] [] [.cc (.s (.int .i64 0))] (by kernel_rfl) (by kernel_rfl)
def s_f40_r1:List AOper:=[
 ⟨some 6,(.move (.t 0)),none⟩,
 ⟨some 7,(.lenS .s (.t 6)),none⟩,
 ⟨some 8,(.move (.c (.s (.int .i64 0)))),none⟩]
def s_f40_r1_tale:=hT s_f40_r1 [6] [7,8] 9 [] [(7,(.op (.lenS .s (.t 0)) [(.t 0)])),(8,(.c (.s (.int .i64 0))))] [.tt 0,.sub 0 [] [],.cc (.s (.int .i64 0))] (by kernel_rfl) (by kernel_rfl)
def s_f40_r2:List AOper:=[
 ⟨some 9,(.bin .lss (.t 8) (.t 7)),none⟩]
def s_f40_r2_tale:=hT s_f40_r2 [] [9] 10 [] [(9,(.op (.bin .lss (.t 0) (.t 1)) [(.t 8),(.t 7)]))] [.sub 0 [] []] (by kernel_rfl) (by kernel_rfl)
def s_f40_r3:List AOper:=[
 ⟨some 10,(.move (.t 8)),none⟩,
 ⟨some 5,(.move (.t 10)),none⟩]
def s_f40_r3_tale:=hT s_f40_r3 [9,10] [5] 11 [] [(5,(.t 8))] [.tt 8,.tt 8] (by kernel_rfl) (by kernel_rfl)
def s_f40_r4t1:List AOper:=[⟨some 16,(.call (.t 11) [(.t 15)]),none⟩]
def s_f40_r4p0:List AOper:=[⟨some 11,(.move (.t 1)),none⟩,⟨some 12,(.move (.t 0)),none⟩,⟨some 13,(.move (.t 5)),none⟩,⟨some 14,(.indexAddr 1 (.t 12) (.t 13)),none⟩,⟨some 15,(.load false 1 (.t 14)),none⟩]
def s_f40_r4:List AOper:=s_f40_r4p0 ++ s_f40_r4t1
def s_f40_r4p0_tale:=hT s_f40_r4p0 [12,13,14] [11,15] 16 [] [(11,(.t 1)),(15,(.op (.load false 1 (.t 0)) [(.op (.indexAddr 1 (.t 0) (.t 1)) [(.t 0),(.t 5)])]))] [.tt 1,.tt 0,.tt 5,.sub 1 [0] [],.sub 1 [] []] (by kernel_rfl) (by kernel_rfl)
def s_f40_r4_x:=hS s_f40_r4 s_f40_r4p0 s_f40_r4t1 [12,13,14] [11,15] [11,12,13,14,15] rfl (by kernel_rfl)
def s_f40_r4t1_x:=hX s_f40_r4t1 [11,12,13,14,15] [⟨some 16,(.call (.t 11) [(.t 15)]),none⟩] rfl
def s_f40_r5:List AOper:=[
 ⟨some 17,(.move (.t 5)),none⟩,
 ⟨some 4,(.move (.t 17)),none⟩]
def s_f40_r5_tale:=hT s_f40_r5 [0,1,5,7,8,16,17] [4] 18 [] [(4,(.t 5))] [.tt 5,.tt 5] (by kernel_rfl) (by kernel_rfl)
def s_f40_r6:List AOper:=[
 ⟨some 18,(.bin .add (.t 8) (.c (.s (.int .i64 1)))),none⟩,
 ⟨some 8,(.move (.t 18)),none⟩]
def s_f40_r6_tale:=hT s_f40_r6 [5,16,18] [8] 19 [] [(8,(.op (.bin .add (.t 0) (.c (.s (.int .i64 1)))) [(.t 8),(.c (.s (.int .i64 1)))]))] [.sub 0 [] [],.sub 0 [] []] (by kernel_rfl) (by kernel_rfl)
def s_f40_l0_b:ACode:=
 (.seq (.regionE s_f40_r2 [] [9])
 (.seq (.cond (.t 9)
 .skip
 (.exit 0))
 (.seq (.block 1
 (.seq (.regionE s_f40_r3 [9,10] [5])
 (.seq (.region s_f40_r4 [] [11,12,13,14,15])
 (.cond (.t 16)
 (.seq (.regionE s_f40_r5 [0,1,5,7,8,16,17] [4])
 .ret)
 .skip))))
 (.regionE s_f40_r6 [5,16,18] [8]))))
def s_f40_l0:ACode:=s_f40_l0_b
def s_f40_l0_ev:=hE s_f40_l0 s_f40_l0_b rfl
def s_f40_r7:List AOper:=[
 ⟨some 4,(.move (.c (.s (.int .i64 (-1))))),none⟩]
def s_f40_r7_tale:=hT s_f40_r7 [0,1,7,8,9] [4] 5 [] [(4,(.c (.s (.int .i64 (-1)))))] [.cc (.s (.int .i64 (-1)))] (by kernel_rfl) (by kernel_rfl)
def s_f40:ACFun:={ ntmps:=19,results:=[(.tmp 4)],body:=
 (.seq (.regionE s_f40_r0 s_f40_r0_k [])
 (.seq (.seq (.regionE s_f40_r1 [6] [7,8])
 (.block 0
 (.loop [] s_f40_l0)))
 (.seq (.regionE s_f40_r7 [0,1,7,8,9] [4])
 .ret))) }
abbrev k_f41:Nat:=41
def s_f41_r0_k:List Nat:=[2,3,4,5,6,7,8]
theorem s_f41_r0_kT:killV s_f41_r0_k (startV 9 [] 2)=[]:=by kernel_rfl
theorem s_f41_r0_kA0:s_f41_r0_k.contains 0=false:=by kernel_rfl
theorem s_f41_r0_kA1:s_f41_r0_k.contains 1=false:=by kernel_rfl
def s_f41_r0:List AOper:=[
 ⟨some 3,(.move (.c (.s (.bool false)))),none⟩]
def s_f41_r0_tale:=hT s_f41_r0 s_f41_r0_k [] 4 [] [] [.cc (.s (.bool false))] (by kernel_rfl) (by kernel_rfl)
def s_f41_r1:List AOper:=[
 ⟨some 4,(.load false 1 (.t 1)),none⟩,
 ⟨some 5,(.move (.t 0)),none⟩,
 ⟨some 6,(.indexAddr 1 (.t 4) (.t 5)),none⟩,
 ⟨some 7,(.load false 1 (.t 6)),none⟩,
 ⟨some 8,(.un .not (.t 7)),none⟩,
 ⟨some 3,(.move (.t 8)),none⟩]
def s_f41_r1_tale:=hT s_f41_r1 [0,1,4,5,6,7,8] [3] 9 [] [(3,(.op (.un .not (.t 0)) [(.op (.load false 1 (.t 0)) [(.op (.indexAddr 1 (.t 0) (.t 1)) [(.op (.load false 1 (.t 0)) [(.t 1)]),(.t 0)])])]))] [.sub 0 [0,0,0] [],.tt 0,.sub 0 [0,0] [],.sub 0 [0] [],.sub 0 [] [],.sub 0 [] []] (by kernel_rfl) (by kernel_rfl)
def s_f41:ACFun:={ ntmps:=9,results:=[(.tmp 3)],body:=
 (.seq (.regionE s_f41_r0 s_f41_r0_k [])
 (.seq (.regionE s_f41_r1 [0,1,4,5,6,7,8] [3])
 .ret)) }
abbrev k_f42:Nat:=42
def s_f42_r0_k:List Nat:=[1,4,5,6,7,8,9,10,11,12,13,14,15,16,17,18,19,20,21,22,23,24,25,26,27]
theorem s_f42_r0_kT:killV s_f42_r0_k (startV 28 [] 1)=[(2,und),(3,und)]:=by kernel_rfl
theorem s_f42_r0_kA0:s_f42_r0_k.contains 0=false:=by kernel_rfl
def s_f42_r0:List AOper:=[
 ⟨some 4,(.move (.t 0)),none⟩,
 ⟨some 5,(.lenS .s (.t 4)),none⟩,
 ⟨some 6,(.bin .sub (.t 5) (.c (.s (.int .i64 1)))),none⟩,
 ⟨some 2,(.move (.c (.s (.int .i64 0)))),none⟩,
 ⟨some 3,(.move (.t 6)),none⟩]
def s_f42_r0_tale:=hT s_f42_r0 s_f42_r0_k [2,3] 7 [] [(2,(.c (.s (.int .i64 0)))),(3,(.op (.bin .sub (.t 0) (.c (.s (.int .i64 1)))) [(.op (.lenS .s (.t 0)) [(.t 0)]),(.c (.s (.int .i64 1)))]))] [.tt 0,.sub 1 [0] [],.sub 1 [] [],.cc (.s (.int .i64 0)),.sub 1 [] []] (by kernel_rfl) (by kernel_rfl)
def s_f42_r1:List AOper:=[
 ⟨some 7,(.move (.t 2)),none⟩,
 ⟨some 8,(.move (.t 3)),none⟩,
 ⟨some 9,(.bin .lss (.t 7) (.t 8)),none⟩]
def s_f42_r1_tale:=hT s_f42_r1 [7,8] [9] 10 [] [(9,(.op (.bin .lss (.t 0) (.t 1)) [(.t 2),(.t 3)]))] [.tt 2,.tt 3,.sub 0 [] []] (by kernel_rfl) (by kernel_rfl)
def s_f42_r2t3:List AOper:=[⟨none,(.store 1 (.t 27) (.t 25)),none⟩]
def s_f42_r2p2:List AOper:=[⟨some 27,(.indexAddr 1 (.t 16) (.t 17)),none⟩]
def s_f42_r2t2:List AOper:=s_f42_r2p2 ++ s_f42_r2t3
def s_f42_r2p1:List AOper:=[⟨none,(.store 1 (.t 26) (.t 21)),none⟩]
def s_f42_r2t1:List AOper:=s_f42_r2p1 ++ s_f42_r2t2
def s_f42_r2p0:List AOper:=[⟨some 14,(.move (.t 0)),none⟩,⟨some 15,(.move (.t 2)),none⟩,⟨some 16,(.move (.t 0)),none⟩,⟨some 17,(.move (.t 3)),none⟩,⟨some 18,(.move (.t 0)),none⟩,⟨some 19,(.move (.t 3)),none⟩,⟨some 20,(.indexAddr 1 (.t 18) (.t 19)),none⟩,⟨some 21,(.load false 1 (.t 20)),none⟩,⟨some 22,(.move (.t 0)),none⟩,⟨some 23,(.move (.t 2)),none⟩,⟨some 24,(.indexAddr 1 (.t 22) (.t 23)),none⟩,⟨some 25,(.load false 1 (.t 24)),none⟩,⟨some 26,(.indexAddr 1 (.t 14) (.t 15)),none⟩]
def s_f42_r2:List AOper:=s_f42_r2p0 ++ s_f42_r2t1
def s_f42_r2p0_tale:=hT s_f42_r2p0 [9,14,15,18,19,20,22,23,24] [16,17,21,25,26] 27 [] [(16,(.t 0)),(17,(.t 3)),(21,(.op (.load false 1 (.t 0)) [(.op (.indexAddr 1 (.t 0) (.t 1)) [(.t 0),(.t 3)])])),(25,(.op (.load false 1 (.t 0)) [(.op (.indexAddr 1 (.t 0) (.t 1)) [(.t 0),(.t 2)])])),(26,(.op (.indexAddr 1 (.t 0) (.t 1)) [(.t 0),(.t 2)]))] [.tt 0,.tt 2,.tt 0,.tt 3,.tt 0,.tt 3,.sub 2 [0] [],.sub 2 [] [],.tt 0,.tt 2,.sub 3 [0] [],.sub 3 [] [],.sub 3 [0] []] (by kernel_rfl) (by kernel_rfl)
def s_f42_r2_x:=hS s_f42_r2 s_f42_r2p0 s_f42_r2t1 [9,14,15,18,19,20,22,23,24] [16,17,21,25,26] [9,14,15,16,17,18,19,20,21,22,23,24,25,26,27] rfl (by kernel_rfl)
def s_f42_r2t1_x:=hO s_f42_r2t1 s_f42_r2p1 s_f42_r2t2 [21,26] [9,14,15,16,17,18,19,20,21,22,23,24,25,26,27] [⟨none,(.store 1 (.t 26) (.t 21)),none⟩] rfl rfl (by kernel_rfl)
def s_f42_r2p2_tale:=hT s_f42_r2p2 [16,17] [27] 28 [] [(27,(.op (.indexAddr 1 (.t 0) (.t 1)) [(.t 16),(.t 17)]))] [.sub 0 [] []] (by kernel_rfl) (by kernel_rfl)
def s_f42_r2t2_x:=hS s_f42_r2t2 s_f42_r2p2 s_f42_r2t3 [16,17] [27] [9,14,15,16,17,18,19,20,21,22,23,24,25,26,27] rfl (by kernel_rfl)
def s_f42_r2t3_x:=hX s_f42_r2t3 [9,14,15,16,17,18,19,20,21,22,23,24,25,26,27] [⟨none,(.store 1 (.t 27) (.t 25)),none⟩] rfl
def s_f42_r3:List AOper:=[
 ⟨some 10,(.move (.t 2)),none⟩,
 ⟨some 11,(.bin .add (.t 10) (.c (.s (.int .i64 1)))),none⟩,
 ⟨some 12,(.move (.t 3)),none⟩,
 ⟨some 13,(.bin .sub (.t 12) (.c (.s (.int .i64 1)))),none⟩,
 ⟨some 2,(.move (.t 11)),none⟩,
 ⟨some 3,(.move (.t 13)),none⟩]
def s_f42_r3_tale:=hT s_f42_r3 [10,11,12,13] [2,3] 14 [] [(2,(.op (.bin .add (.t 0) (.c (.s (.int .i64 1)))) [(.t 2),(.c (.s (.int .i64 1)))])),(3,(.op (.bin .sub (.t 0) (.c (.s (.int .i64 1)))) [(.t 3),(.c (.s (.int .i64 1)))]))] [.tt 2,.sub 0 [] [],.tt 3,.sub 1 [] [],.sub 0 [] [],.sub 1 [] []] (by kernel_rfl) (by kernel_rfl)
def s_f42_l0_b:ACode:=
 (.seq (.seq (.regionE s_f42_r1 [7,8] [9])
 (.cond (.t 9)
 .skip
 (.exit 0)))
 (.seq (.block 1
 (.region s_f42_r2 [] [9,14,15,16,17,18,19,20,21,22,23,24,25,26,27]))
 (.regionE s_f42_r3 [10,11,12,13] [2,3])))
def s_f42_l0:ACode:=s_f42_l0_b
def s_f42_l0_ev:=hE s_f42_l0 s_f42_l0_b rfl
def s_f42:ACFun:={ ntmps:=28,results:=[],body:=
 (.seq (.regionE s_f42_r0 s_f42_r0_k [2,3])
 (.block 0
 (.loop [] s_f42_l0))) }
abbrev k_f29:Nat:=29
def a_f18:=ai @s_f18_r0_x (ai @s_f18_r0t1_tale (ai @s_f18_r0t1_x (ai @s_f18_r0_k_kA0 (ai @s_f18_r0_k_kA1 (ai @s_f18_r0_k_kA2 (ai @s_f18_r1p0_tale (ai @s_f18_r1_x (ai @s_f18_r1t1_x (ai @s_f18_r1t2_tale (ai @s_f18_r1t2_x (ai @s_f18_r2_tale (ai @s_f18_r3_tale (ai @s_f18_r4_tale (ai @s_f18_r5p0_tale (ai @s_f18_r5_x (ai @s_f18_r5t1_x (ai @s_f18_r5p2_tale (ai @s_f18_r5t2_x (ai @s_f18_r5t3_x (ai @s_f18_r5t4_tale (ai @s_f18_r5t4_x (ai @s_f18_r6p0_tale (ai @s_f18_r6_x (ai @s_f18_r6t1_x (ai @s_f18_r7p0_tale (ai @s_f18_r7_x (ai @s_f18_r7t1_x (ai @s_f18_r7p2_tale (ai @s_f18_r7t2_x (ai @s_f18_r7t3_x (ai @s_f18_r8_tale (ai @s_f18_l0_ev (@s_f18_r9_tale)))))))))))))))))))))))))))))))))
def a_f20:=ai @s_f20_r0_tale (ai @s_f20_r0_kT (ai @s_f20_r0_kA0 (ai @s_f20_r1p0_tale (ai @s_f20_r1_x (ai @s_f20_r1t1_x (ai @s_f20_r1t2_tale (ai @s_f20_r1t2_x (ai @s_f20_r2p0_tale (ai @s_f20_r2_x (ai @s_f20_r2t1_x (ai @s_f20_r2t2_tale (ai @s_f20_r2t2_x (ai @s_f20_r3_tale (ai @s_f20_r4_tale (ai @s_f20_r5_tale (ai @s_f20_r6_tale (ai @s_f20_r7_tale (ai @s_f20_r8p0_tale (ai @s_f20_r8_x (ai @s_f20_r8t1_x (ai @s_f20_r8t2_x (ai @s_f20_r8p3_tale (ai @s_f20_r8t3_x (ai @s_f20_r8t4_x (ai @s_f20_r9_tale (ai @s_f20_l0_ev (ai @s_f20_r10_tale (ai @s_f20_l1_ev (@s_f20_r11_tale)))))))))))))))))))))))))))))
def a_f21:=ai @s_f21_r0p0_k_kA0 (ai @s_f21_r0p0_k_kA1 (ai @s_f21_r0p0_k_kA2 (ai @s_f21_r0p0_k_kA4 (ai @s_f21_r0_x (ai @s_f21_r0t1_tale (ai @s_f21_r0t1_x (ai @s_f21_r0_k_kA0 (ai @s_f21_r0_k_kA1 (ai @s_f21_r0_k_kA2 (ai @s_f21_r0_k_kA4 (ai @s_f21_r1p0_tale (ai @s_f21_r1_x (ai @s_f21_r1t1_x (ai @s_f21_r1t2_x (ai @s_f21_r1t3_x (ai @s_f21_r2_x (ai @s_f21_r3_tale (ai @s_f21_r4_tale (ai @s_f21_r5_tale (ai @s_f21_r6_tale (ai @s_f21_r7p0_tale (ai @s_f21_r7_x (ai @s_f21_r7t1_x (ai @s_f21_r8_tale (ai @s_f21_l0_ev (ai @s_f21_r9_tale (ai @s_f21_r10_tale (ai @s_f21_r11p0_tale (ai @s_f21_r11_x (ai @s_f21_r11t1_x (ai @s_f21_r12_tale (ai @s_f21_r13_tale (ai @s_f21_r14_tale (ai @s_f21_r15p0_tale (ai @s_f21_r15_x (ai @s_f21_r15t1_x (ai @s_f21_r16_tale (ai @s_f21_l1_ev (ai @s_f21_l2_ev (@s_f21_r17_tale))))))))))))))))))))))))))))))))))))))))
def a_f25:=ai @s_f25_r0_tale (ai @s_f25_r0_kT (ai @s_f25_r0_kA0 (ai @s_f25_r0_kA1 (ai @s_f25_r1_tale (ai @s_f25_r2_tale (ai @s_f25_r3p0_tale (ai @s_f25_r3_x (ai @s_f25_r3t1_x (ai @s_f25_r3t2_tale (ai @s_f25_r3t2_x (ai @s_f25_r4p0_tale (ai @s_f25_r4_x (ai @s_f25_r4t1_x (ai @s_f25_r4t2_x (ai @s_f25_r4t3_x (ai @s_f25_r5p0_tale (ai @s_f25_r5_x (ai @s_f25_r5t1_x (ai @s_f25_r6p0_tale (ai @s_f25_r6_x (ai @s_f25_r6t1_x (ai @s_f25_r6t2_tale (ai @s_f25_r6t2_x (ai @s_f25_r7_tale (ai @s_f25_r8_tale (ai @s_f25_r9_tale (ai @s_f25_r10p0_tale (ai @s_f25_r10_x (ai @s_f25_r10t1_x (ai @s_f25_r10t2_tale (ai @s_f25_r10t2_x (ai @s_f25_r11_tale (ai @s_f25_r12p0_tale (ai @s_f25_r12_x (ai @s_f25_r12t1_x (ai @s_f25_r12t2_x (ai @s_f25_r12t3_tale (ai @s_f25_r12t3_x (ai @s_f25_r13_tale (ai @s_f25_r14p0_tale (ai @s_f25_r14_x (ai @s_f25_r14t1_x (ai @s_f25_r15p0_tale (ai @s_f25_r15_x (ai @s_f25_r15t1_x (ai @s_f25_r15t2_x (ai @s_f25_r15t3_tale (ai @s_f25_r15t3_x (ai @s_f25_l0_ev (ai @s_f25_r16p0_tale (ai @s_f25_r16_x (ai @s_f25_r16t1_x (@s_f25_r17_tale)))))))))))))))))))))))))))))))))))))))))))))))))))))
def a_f30:=ai @s_f30_r0_tale (ai @s_f30_r0_kT (ai @s_f30_r0_kA0 (ai @s_f30_r1_tale (ai @s_f30_r2_tale (ai @s_f30_r3_tale (ai @s_f30_r4_tale (ai @s_f30_r5_tale (ai @s_f30_r6_tale (ai @s_f30_r7_tale (ai @s_f30_r8_tale (ai @s_f30_r9_tale (ai @s_f30_r10p0_tale (ai @s_f30_r10_x (ai @s_f30_r10t1_x (ai @s_f30_r11_tale (ai @s_f30_r12_tale (ai @s_f30_l0_ev (ai @s_f30_r13p0_tale (ai @s_f30_r13_x (ai @s_f30_r13t1_x (ai @s_f30_r14_tale (ai @s_f30_r15_tale (ai @s_f30_l1_ev (@s_f30_r16_tale))))))))))))))))))))))))
def a_f33:=ai @s_f33_r0_tale (ai @s_f33_r0_kT (ai @s_f33_r0_kA0 (ai @s_f33_r0_kA1 (ai @s_f33_r1p0_tale (ai @s_f33_r1_x (ai @s_f33_r1t1_x (ai @s_f33_r1t2_tale (ai @s_f33_r1t2_x (ai @s_f33_r2_tale (ai @s_f33_r3_tale (ai @s_f33_r4_tale (ai @s_f33_r5_tale (ai @s_f33_r6_tale (ai @s_f33_r7p0_tale (ai @s_f33_r7_x (ai @s_f33_r7t1_x (ai @s_f33_r7t2_tale (ai @s_f33_r7t2_x (ai @s_f33_r8p0_tale (ai @s_f33_r8_x (ai @s_f33_r8t1_x (ai @s_f33_r9_tale (ai @s_f33_r10_tale (ai @s_f33_l0_ev (ai @s_f33_r11p0_tale (ai @s_f33_r11_x (ai @s_f33_r11t1_x (@s_f33_r12_tale))))))))))))))))))))))))))))
def a_f34:=ai @s_f34_r0_tale (ai @s_f34_r0_kT (ai @s_f34_r0_kA0 (ai @s_f34_r1_tale (ai @s_f34_r2_tale (ai @s_f34_r3_x (ai @s_f34_r3p1_tale (ai @s_f34_r3t1_x (ai @s_f34_r3t2_x (ai @s_f34_r3t3_tale (@s_f34_r3t3_x))))))))))
def a_f35:=ai @s_f35_r0_tale (ai @s_f35_r0_kT (ai @s_f35_r0_kA0 (ai @s_f35_r0_kA1 (@s_f35_r1_tale))))
def a_f38:=ai @s_f38_r0_tale (ai @s_f38_r0_kT (ai @s_f38_r0_kA0 (ai @s_f38_r0_kA1 (ai @s_f38_r0_kA2 (ai @s_f38_r0_kA3 (ai @s_f38_r1p0_tale (ai @s_f38_r1_x (ai @s_f38_r1t1_x (ai @s_f38_r2p0_tale (ai @s_f38_r2_x (ai @s_f38_r2t1_x (ai @s_f38_r2t2_x (@s_f38_r2t3_x)))))))))))))
def a_f40:=ai @s_f40_r0_tale (ai @s_f40_r0_kT (ai @s_f40_r0_kA0 (ai @s_f40_r0_kA1 (ai @s_f40_r1_tale (ai @s_f40_r2_tale (ai @s_f40_r3_tale (ai @s_f40_r4p0_tale (ai @s_f40_r4_x (ai @s_f40_r4t1_x (ai @s_f40_r5_tale (ai @s_f40_r6_tale (ai @s_f40_l0_ev (@s_f40_r7_tale)))))))))))))
def a_f41:=ai @s_f41_r0_tale (ai @s_f41_r0_kT (ai @s_f41_r0_kA0 (ai @s_f41_r0_kA1 (@s_f41_r1_tale))))
def a_f42:=ai @s_f42_r0_tale (ai @s_f42_r0_kT (ai @s_f42_r0_kA0 (ai @s_f42_r1_tale (ai @s_f42_r2p0_tale (ai @s_f42_r2_x (ai @s_f42_r2t1_x (ai @s_f42_r2p2_tale (ai @s_f42_r2t2_x (ai @s_f42_r2t3_x (ai @s_f42_r3_tale (@s_f42_l0_ev)))))))))))
theorem DA2_18:compK Try.prog PX0 18=some (false,s_f18.ntmps,s_f18.results,s_f18.body.bare):=by kernel_rfl
theorem DA2_20:compK Try.prog PX0 20=some (false,s_f20.ntmps,s_f20.results,s_f20.body.bare):=by kernel_rfl
theorem DA2_21:compK Try.prog PX0 21=some (false,s_f21.ntmps,s_f21.results,s_f21.body.bare):=by kernel_rfl
theorem DA2_25:compK Try.prog PX0 25=some (false,s_f25.ntmps,s_f25.results,s_f25.body.bare):=by kernel_rfl
theorem DA2_33:compK Try.prog PX0 33=some (false,s_f33.ntmps,s_f33.results,s_f33.body.bare):=by kernel_rfl
theorem DA2_34:compK Try.prog PX0 34=some (false,s_f34.ntmps,s_f34.results,s_f34.body.bare):=by kernel_rfl
theorem DA2_35:compK Try.prog PX0 35=some (false,s_f35.ntmps,s_f35.results,s_f35.body.bare):=by kernel_rfl
theorem DA2_30:compK Try.prog PX0 30=some (false,s_f30.ntmps,s_f30.results,s_f30.body.bare):=by kernel_rfl
theorem DA2_40:compK Try.prog PX0 40=some (false,s_f40.ntmps,s_f40.results,s_f40.body.bare):=by kernel_rfl
theorem DA2_38:compK Try.prog PX0 38=some (false,s_f38.ntmps,s_f38.results,s_f38.body.bare):=by kernel_rfl
theorem DA2_41:compK Try.prog PX0 41=some (false,s_f41.ntmps,s_f41.results,s_f41.body.bare):=by kernel_rfl
theorem DA2_42:compK Try.prog PX0 42=some (false,s_f42.ntmps,s_f42.results,s_f42.body.bare):=by kernel_rfl
end Go.Proofs.Ytdmnenlpdeolaaa
set_option maxRecDepth 100000
namespace Go.Proofs.Ytdmnenlpdeolaaa
open Go.AM
def s_f11_r0_k:List Nat:=[2,3,4,5,6,7,8,9,10,11,12,13,14,15,16,17,18,19,20,21,22,23,24,25]
def s_f11_r0:List AOper:=[
 ⟨some 4,(.move (.c (.s (.bool false)))),none⟩]
def s_f11_r1:List AOper:=[
 ⟨some 6,(.move (.t 0)),none⟩,
 ⟨some 7,(.lenS .s (.t 6)),none⟩,
 ⟨some 8,(.move (.t 1)),none⟩,
 ⟨some 9,(.lenS .s (.t 8)),none⟩,
 ⟨some 10,(.bin .neq (.t 7) (.t 9)),none⟩]
def s_f11_r2:List AOper:=[
 ⟨some 4,(.move (.c (.s (.bool false)))),none⟩]
def s_f11_r3:List AOper:=[
 ⟨some 5,(.move (.c (.s (.int .i64 0)))),none⟩]
def s_f11_r4:List AOper:=[
 ⟨some 11,(.move (.t 5)),none⟩,
 ⟨some 12,(.move (.t 0)),none⟩,
 ⟨some 13,(.lenS .s (.t 12)),none⟩,
 ⟨some 14,(.bin .lss (.t 11) (.t 13)),none⟩]
def s_f11_r5:List AOper:=[
 ⟨some 17,(.move (.t 0)),none⟩,
 ⟨some 18,(.move (.t 5)),none⟩,
 ⟨some 19,(.indexAddr 1 (.t 17) (.t 18)),none⟩,
 ⟨some 20,(.load false 1 (.t 19)),none⟩,
 ⟨some 21,(.move (.t 1)),none⟩,
 ⟨some 22,(.move (.t 5)),none⟩,
 ⟨some 23,(.indexAddr 1 (.t 21) (.t 22)),none⟩,
 ⟨some 24,(.load false 1 (.t 23)),none⟩,
 ⟨some 25,(.bin .neq (.t 20) (.t 24)),none⟩]
def s_f11_r6:List AOper:=[
 ⟨some 4,(.move (.c (.s (.bool false)))),none⟩]
def s_f11_r7:List AOper:=[
 ⟨some 15,(.move (.t 5)),none⟩,
 ⟨some 16,(.bin .add (.t 15) (.c (.s (.int .i64 1)))),none⟩,
 ⟨some 5,(.move (.t 16)),none⟩]
def s_f11_l0_b:ACode:=
 (.seq (.seq (.regionE s_f11_r4 [11,12,13] [14])
 (.cond (.t 14)
 .skip
 (.exit 0)))
 (.seq (.block 1
 (.seq (.regionE s_f11_r5 [14,17,18,19,20,21,22,23,24] [25])
 (.cond (.t 25)
 (.seq (.regionE s_f11_r6 [0,1,5,25] [4])
 .ret)
 .skip)))
 (.regionE s_f11_r7 [15,16,25] [5])))
def s_f11_l0:ACode:=s_f11_l0_b
def s_f11_r8:List AOper:=[
 ⟨some 4,(.move (.c (.s (.bool true)))),none⟩]
def s_f11:ACFun:={ ntmps:=26,results:=[(.tmp 4)],body:=
 (.seq (.regionE s_f11_r0 s_f11_r0_k [])
 (.seq (.seq (.regionE s_f11_r1 [6,7,8,9] [10])
 (.cond (.t 10)
 (.seq (.regionE s_f11_r2 [0,1,10] [4])
 .ret)
 .skip))
 (.seq (.seq (.regionE s_f11_r3 [10] [5])
 (.block 0
 (.loop [] s_f11_l0)))
 (.seq (.regionE s_f11_r8 [0,1,5,14] [4])
 .ret)))) }
def s_f15_r0_k:List Nat:=[2,3,4,5,6,7,8,9,10,11,12,13,14,15,16,17,18,19,20,21,22,23,24,25,26]
def s_f15_r0:List AOper:=[
 ⟨some 4,(.move (.c (.s (.bool false)))),none⟩]
def s_f15_r1:List AOper:=[
 ⟨some 6,(.move (.t 0)),none⟩,
 ⟨some 7,(.lenS .s (.t 6)),none⟩,
 ⟨some 8,(.move (.t 1)),none⟩,
 ⟨some 9,(.lenS .s (.t 8)),none⟩,
 ⟨some 10,(.bin .neq (.t 7) (.t 9)),none⟩]
def s_f15_r2:List AOper:=[
 ⟨some 4,(.move (.c (.s (.bool false)))),none⟩]
def s_f15_r3:List AOper:=[
 ⟨some 5,(.move (.c (.s (.int .i64 0)))),none⟩]
def s_f15_r4:List AOper:=[
 ⟨some 11,(.move (.t 5)),none⟩,
 ⟨some 12,(.move (.t 0)),none⟩,
 ⟨some 13,(.lenS .s (.t 12)),none⟩,
 ⟨some 14,(.bin .lss (.t 11) (.t 13)),none⟩]
def s_f15_r5t2:List AOper:=[⟨some 26,(.un .not (.t 25)),none⟩]
def s_f15_r5p1:List AOper:=[⟨some 25,(.call (.c (.fn 11 [] [])) [(.t 20),(.t 24)]),none⟩]
def s_f15_r5t1:List AOper:=s_f15_r5p1 ++ s_f15_r5t2
def s_f15_r5p0:List AOper:=[⟨some 17,(.move (.t 0)),none⟩,⟨some 18,(.move (.t 5)),none⟩,⟨some 19,(.indexAddr 1 (.t 17) (.t 18)),none⟩,⟨some 20,(.load false 1 (.t 19)),none⟩,⟨some 21,(.move (.t 1)),none⟩,⟨some 22,(.move (.t 5)),none⟩,⟨some 23,(.indexAddr 1 (.t 21) (.t 22)),none⟩,⟨some 24,(.load false 1 (.t 23)),none⟩]
def s_f15_r5:List AOper:=s_f15_r5p0 ++ s_f15_r5t1
def s_f15_r6:List AOper:=[
 ⟨some 4,(.move (.c (.s (.bool false)))),none⟩]
def s_f15_r7:List AOper:=[
 ⟨some 15,(.move (.t 5)),none⟩,
 ⟨some 16,(.bin .add (.t 15) (.c (.s (.int .i64 1)))),none⟩,
 ⟨some 5,(.move (.t 16)),none⟩]
def s_f15_l0_b:ACode:=
 (.seq (.seq (.regionE s_f15_r4 [11,12,13] [14])
 (.cond (.t 14)
 .skip
 (.exit 0)))
 (.seq (.block 1
 (.seq (.region s_f15_r5 [] [14,17,18,19,20,21,22,23,24,25])
 (.cond (.t 26)
 (.seq (.regionE s_f15_r6 [0,1,5,26] [4])
 .ret)
 .skip)))
 (.regionE s_f15_r7 [15,16,26] [5])))
def s_f15_l0:ACode:=s_f15_l0_b
def s_f15_r8:List AOper:=[
 ⟨some 4,(.move (.c (.s (.bool true)))),none⟩]
def s_f15:ACFun:={ ntmps:=27,results:=[(.tmp 4)],body:=
 (.seq (.regionE s_f15_r0 s_f15_r0_k [])
 (.seq (.seq (.regionE s_f15_r1 [6,7,8,9] [10])
 (.cond (.t 10)
 (.seq (.regionE s_f15_r2 [0,1,10] [4])
 .ret)
 .skip))
 (.seq (.seq (.regionE s_f15_r3 [10] [5])
 (.block 0
 (.loop [] s_f15_l0)))
 (.seq (.regionE s_f15_r8 [0,1,5,14] [4])
 .ret)))) }
abbrev k_f27:Nat:=27
def s_f27_r0_k:List Nat:=[3,4,5,6,7,8,9,10,11,12,13,14,15,16,17,18,19,20,21,22,23]
def s_f27_r0:List AOper:=[
 ⟨some 6,(.move (.c (.s (.bool false)))),none⟩]
def s_f27_r1t5:List AOper:=[⟨some 20,(.move (.t 2)),some (15,true)⟩,⟨some 21,(.indexAddr 1 (.t 19) (.t 20)),some (15,true)⟩,⟨some 22,(.load false 1 (.t 21)),some (15,true)⟩,⟨some 23,(.pick (.t 15) (.t 22) (.c (.s (.bool false)))),none⟩,⟨some 6,(.move (.t 23)),none⟩]
def s_f27_r1p4:List AOper:=[⟨some 19,(.call (.c (.fn 43 [] [])) [(.t 16),(.t 18)]),some (15,true)⟩]
def s_f27_r1t4:List AOper:=s_f27_r1p4 ++ s_f27_r1t5
def s_f27_r1p3:List AOper:=[⟨some 18,(.buildSl 1 1 [(.s (.int .i64 0))] [(0,(.t 17))]),some (15,true)⟩]
def s_f27_r1t3:List AOper:=s_f27_r1p3 ++ s_f27_r1t4
def s_f27_r1p2:List AOper:=[⟨some 17,(.move (.t 1)),some (15,true)⟩]
def s_f27_r1t2:List AOper:=s_f27_r1p2 ++ s_f27_r1t3
def s_f27_r1p1:List AOper:=[⟨some 16,(.move (.t 0)),some (15,true)⟩]
def s_f27_r1t1:List AOper:=s_f27_r1p1 ++ s_f27_r1t2
def s_f27_r1p0:List AOper:=[⟨some 7,(.move (.t 2)),none⟩,⟨some 8,(.bin .geq (.t 7) (.c (.s (.int .i64 0)))),none⟩,⟨some 9,(.move (.t 8)),none⟩,⟨some 10,(.move (.t 2)),some (9,true)⟩,⟨some 11,(.move (.t 0)),some (9,true)⟩,⟨some 12,(.lenS .s (.t 11)),some (9,true)⟩,⟨some 13,(.bin .lss (.t 10) (.t 12)),some (9,true)⟩,⟨some 14,(.pick (.t 9) (.t 13) (.c (.s (.bool false)))),none⟩,⟨some 15,(.move (.t 14)),none⟩]
def s_f27_r1:List AOper:=s_f27_r1p0 ++ s_f27_r1t1
def s_f27:ACFun:={ ntmps:=24,results:=[(.tmp 6)],body:=
 (.seq (.regionE s_f27_r0 s_f27_r0_k [])
 (.seq (.region s_f27_r1 [] [0,1,2,7,8,9,10,11,12,13,14,15,16,17,18,19,20,21,22,23])
 .ret)) }
abbrev k_f28:Nat:=28
def s_f28_r0_k:List Nat:=[4,5,6,7,8,9,10,11,12,13,14,15,16,17,18,19,20,21,22,23,24,25,26,27,28,29,30]
def s_f28_r0:List AOper:=[
 ⟨some 8,(.move (.c (.s (.bool false)))),none⟩]
def s_f28_r1t2:List AOper:=[⟨some 13,(.un .not (.t 12)),none⟩]
def s_f28_r1p1:List AOper:=[⟨some 12,(.call (.c (.fn 27 [] [])) [(.t 9),(.t 10),(.t 11)]),none⟩]
def s_f28_r1t1:List AOper:=s_f28_r1p1 ++ s_f28_r1t2
def s_f28_r1p0:List AOper:=[⟨some 9,(.move (.t 0)),none⟩,⟨some 10,(.move (.t 1)),none⟩,⟨some 11,(.move (.t 3)),none⟩]
def s_f28_r1:List AOper:=s_f28_r1p0 ++ s_f28_r1t1
def s_f28_r2:List AOper:=[
 ⟨some 8,(.move (.c (.s (.bool false)))),none⟩]
def s_f28_r3t7:List AOper:=[⟨some 29,(.un .not (.t 28)),some (22,false)⟩,⟨some 30,(.pick (.t 22) (.c (.s (.bool true))) (.t 29)),none⟩,⟨some 8,(.move (.t 30)),none⟩]
def s_f28_r3p6:List AOper:=[⟨some 28,(.call (.c (.fn 27 [] [])) [(.t 25),(.t 26),(.t 27)]),some (22,false)⟩]
def s_f28_r3t6:List AOper:=s_f28_r3p6 ++ s_f28_r3t7
def s_f28_r3p5:List AOper:=[⟨some 27,(.move (.t 3)),some (22,false)⟩]
def s_f28_r3t5:List AOper:=s_f28_r3p5 ++ s_f28_r3t6
def s_f28_r3p4:List AOper:=[⟨some 26,(.move (.t 1)),some (22,false)⟩]
def s_f28_r3t4:List AOper:=s_f28_r3p4 ++ s_f28_r3t5
def s_f28_r3p3:List AOper:=[⟨some 25,(.call (.c (.fn 44 [] [])) [(.t 23),(.t 24)]),some (22,false)⟩]
def s_f28_r3t3:List AOper:=s_f28_r3p3 ++ s_f28_r3t4
def s_f28_r3p2:List AOper:=[⟨some 24,(.move (.t 2)),some (22,false)⟩]
def s_f28_r3t2:List AOper:=s_f28_r3p2 ++ s_f28_r3t3
def s_f28_r3p1:List AOper:=[⟨some 23,(.move (.t 0)),some (22,false)⟩]
def s_f28_r3t1:List AOper:=s_f28_r3p1 ++ s_f28_r3t2
def s_f28_r3p0:List AOper:=[⟨some 14,(.move (.t 2)),none⟩,⟨some 15,(.move (.t 3)),none⟩,⟨some 16,(.bin .eql (.t 14) (.t 15)),none⟩,⟨some 17,(.move (.t 16)),none⟩,⟨some 18,(.move (.t 2)),some (17,false)⟩,⟨some 19,(.move (.t 1)),some (17,false)⟩,⟨some 20,(.bin .eql (.t 18) (.t 19)),some (17,false)⟩,⟨some 21,(.pick (.t 17) (.c (.s (.bool true))) (.t 20)),none⟩,⟨some 22,(.move (.t 21)),none⟩]
def s_f28_r3:List AOper:=s_f28_r3p0 ++ s_f28_r3t1
def s_f28:ACFun:={ ntmps:=31,results:=[(.tmp 8)],body:=
 (.seq (.regionE s_f28_r0 s_f28_r0_k [])
 (.seq (.seq (.region s_f28_r1 [] [9,10,11,12])
 (.cond (.t 13)
 (.seq (.regionE s_f28_r2 [0,1,2,3,13] [8])
 .ret)
 .skip))
 (.seq (.region s_f28_r3 [] [0,1,2,3,13,14,15,16,17,18,19,20,21,22,23,24,25,26,27,28,29,30])
 .ret))) }
abbrev k_f31:Nat:=31
def s_f31_r0_k:List Nat:=[1,2,3,4,5,6,7,8,9,10,11,12,13,14,15,16,17,18,19,20,21,22,23,24,25,26,27,28,29,30,31,32,33,34,35,36,37,38,39,40,41,42,43,44,45,46,47,48,49,50,51,52,53,54,55]
def s_f31_r0:List AOper:=[
 ⟨some 2,(.move (.c (.s (.slice none 0 0)))),none⟩]
def s_f31_r1:List AOper:=[
 ⟨some 3,(.move (.c (.s (.slice none 0 0)))),none⟩]
def s_f31_r2:List AOper:=[
 ⟨some 4,(.move (.c (.s (.int .i64 0)))),none⟩]
def s_f31_r3:List AOper:=[
 ⟨some 7,(.move (.t 4)),none⟩,
 ⟨some 8,(.move (.t 0)),none⟩,
 ⟨some 9,(.lenS .s (.t 8)),none⟩,
 ⟨some 10,(.bin .lss (.t 7) (.t 9)),none⟩]
def s_f31_r4:List AOper:=[
 ⟨some 5,(.move (.c (.s (.slice none 0 0)))),none⟩]
def s_f31_r5:List AOper:=[
 ⟨some 6,(.move (.c (.s (.int .i64 0)))),none⟩]
def s_f31_r6:List AOper:=[
 ⟨some 13,(.move (.t 6)),none⟩,
 ⟨some 14,(.move (.t 0)),none⟩,
 ⟨some 15,(.move (.t 4)),none⟩,
 ⟨some 16,(.indexAddr 1 (.t 14) (.t 15)),none⟩,
 ⟨some 17,(.load false 1 (.t 16)),none⟩,
 ⟨some 18,(.lenS .s (.t 17)),none⟩,
 ⟨some 19,(.bin .lss (.t 13) (.t 18)),none⟩]
def s_f31_r7:List AOper:=[
 ⟨some 22,(.move (.t 0)),none⟩,
 ⟨some 23,(.move (.t 4)),none⟩,
 ⟨some 24,(.indexAddr 1 (.t 22) (.t 23)),none⟩,
 ⟨some 25,(.load false 1 (.t 24)),none⟩,
 ⟨some 26,(.move (.t 6)),none⟩,
 ⟨some 27,(.indexAddr 1 (.t 25) (.t 26)),none⟩,
 ⟨some 28,(.load false 1 (.t 27)),none⟩,
 ⟨some 29,(.bin .geq (.t 28) (.c (.s (.int .i64 0)))),none⟩,
 ⟨some 30,(.move (.t 29)),none⟩,
 ⟨some 31,(.move (.t 0)),some (30,true)⟩,
 ⟨some 32,(.move (.t 4)),some (30,true)⟩,
 ⟨some 33,(.indexAddr 1 (.t 31) (.t 32)),some (30,true)⟩,
 ⟨some 34,(.load false 1 (.t 33)),some (30,true)⟩,
 ⟨some 35,(.move (.t 6)),some (30,true)⟩,
 ⟨some 36,(.indexAddr 1 (.t 34) (.t 35)),some (30,true)⟩,
 ⟨some 37,(.load false 1 (.t 36)),some (30,true)⟩,
 ⟨some 38,(.move (.t 0)),some (30,true)⟩,
 ⟨some 39,(.lenS .s (.t 38)),some (30,true)⟩,
 ⟨some 40,(.bin .lss (.t 37) (.t 39)),some (30,true)⟩,
 ⟨some 41,(.pick (.t 30) (.t 40) (.c (.s (.bool false)))),none⟩]
def s_f31_r8t2:List AOper:=[⟨some 5,(.move (.t 50)),none⟩]
def s_f31_r8p1:List AOper:=[⟨some 50,(.call (.c (.fn 32 [] [])) [(.t 42),(.t 49)]),none⟩]
def s_f31_r8t1:List AOper:=s_f31_r8p1 ++ s_f31_r8t2
def s_f31_r8p0:List AOper:=[⟨some 42,(.move (.t 5)),none⟩,⟨some 43,(.move (.t 0)),none⟩,⟨some 44,(.move (.t 4)),none⟩,⟨some 45,(.indexAddr 1 (.t 43) (.t 44)),none⟩,⟨some 46,(.load false 1 (.t 45)),none⟩,⟨some 47,(.move (.t 6)),none⟩,⟨some 48,(.indexAddr 1 (.t 46) (.t 47)),none⟩,⟨some 49,(.load false 1 (.t 48)),none⟩]
def s_f31_r8:List AOper:=s_f31_r8p0 ++ s_f31_r8t1
def s_f31_r9:List AOper:=[
 ⟨some 20,(.move (.t 6)),none⟩,
 ⟨some 21,(.bin .add (.t 20) (.c (.s (.int .i64 1)))),none⟩,
 ⟨some 6,(.move (.t 21)),none⟩]
def s_f31_l0_b:ACode:=
 (.seq (.seq (.regionE s_f31_r6 [13,14,15,16,17,18] [19])
 (.cond (.t 19)
 .skip
 (.exit 2)))
 (.seq (.block 3
 (.seq (.regionE s_f31_r7 [19,22,23,24,25,26,27,28,29,30,31,32,33,34,35,36,37,38,39,40] [41])
 (.cond (.t 41)
 (.region s_f31_r8 [] [41,42,43,44,45,46,47,48,49,50])
 .skip)))
 (.regionE s_f31_r9 [20,21,41] [6])))
def s_f31_l0:ACode:=s_f31_l0_b
def s_f31_r10t3:List AOper:=[⟨some 3,(.move (.t 54)),none⟩]
def s_f31_r10p2:List AOper:=[⟨some 54,(.append 1 24 (.t 51) (.t 53)),none⟩]
def s_f31_r10t2:List AOper:=s_f31_r10p2 ++ s_f31_r10t3
def s_f31_r10p1:List AOper:=[⟨some 53,(.buildSl 1 1 [(.s (.slice none 0 0))] [(0,(.t 52))]),none⟩]
def s_f31_r10t1:List AOper:=s_f31_r10p1 ++ s_f31_r10t2
def s_f31_r10p0:List AOper:=[⟨some 51,(.move (.t 3)),none⟩,⟨some 52,(.move (.t 5)),none⟩]
def s_f31_r10:List AOper:=s_f31_r10p0 ++ s_f31_r10t1
def s_f31_r11:List AOper:=[
 ⟨some 11,(.move (.t 4)),none⟩,
 ⟨some 12,(.bin .add (.t 11) (.c (.s (.int .i64 1)))),none⟩,
 ⟨some 4,(.move (.t 12)),none⟩]
def s_f31_l1_b:ACode:=
 (.seq (.seq (.regionE s_f31_r3 [7,8,9] [10])
 (.cond (.t 10)
 .skip
 (.exit 0)))
 (.seq (.block 1
 (.seq (.regionE s_f31_r4 [10] [5])
 (.seq (.seq (.regionE s_f31_r5 [] [6])
 (.block 2
 (.loop [] s_f31_l0)))
 (.region s_f31_r10 [] [5,6,19,51,52,53,54]))))
 (.regionE s_f31_r11 [11,12] [4])))
def s_f31_l1:ACode:=s_f31_l1_b
def s_f31_r12:List AOper:=[
 ⟨some 55,(.move (.t 3)),none⟩,
 ⟨some 2,(.move (.t 55)),none⟩]
def s_f31:ACFun:={ ntmps:=56,results:=[(.tmp 2)],body:=
 (.seq (.regionE s_f31_r0 s_f31_r0_k [])
 (.seq (.regionE s_f31_r1 [] [3])
 (.seq (.seq (.regionE s_f31_r2 [] [4])
 (.block 0
 (.loop [] s_f31_l1)))
 (.seq (.regionE s_f31_r12 [0,3,4,10,55] [2])
 .ret)))) }
abbrev k_f32:Nat:=32
def s_f32_r0_k:List Nat:=[2,3,4,5,6,7,8,9,10,11,12,13,14,15,16,17,18,19,20,21,22,23,24,25,26,27,28,29,30,31,32,33,34,35,36,37,38,39,40,41]
def s_f32_r0:List AOper:=[
 ⟨some 4,(.move (.c (.s (.slice none 0 0)))),none⟩]
def s_f32_r1t4:List AOper:=[⟨some 13,(.pick (.t 9) (.c (.s (.bool true))) (.t 12)),none⟩]
def s_f32_r1p3:List AOper:=[⟨some 12,(.call (.c (.fn 47 [] [])) [(.t 10),(.t 11)]),some (9,false)⟩]
def s_f32_r1t3:List AOper:=s_f32_r1p3 ++ s_f32_r1t4
def s_f32_r1p2:List AOper:=[⟨some 11,(.move (.t 1)),some (9,false)⟩]
def s_f32_r1t2:List AOper:=s_f32_r1p2 ++ s_f32_r1t3
def s_f32_r1p1:List AOper:=[⟨some 10,(.move (.t 0)),some (9,false)⟩]
def s_f32_r1t1:List AOper:=s_f32_r1p1 ++ s_f32_r1t2
def s_f32_r1p0:List AOper:=[⟨some 7,(.move (.t 1)),none⟩,⟨some 8,(.bin .lss (.t 7) (.c (.s (.int .i64 0)))),none⟩,⟨some 9,(.move (.t 8)),none⟩]
def s_f32_r1:List AOper:=s_f32_r1p0 ++ s_f32_r1t1
def s_f32_r2:List AOper:=[
 ⟨some 14,(.move (.t 0)),none⟩,
 ⟨some 4,(.move (.t 14)),none⟩]
def s_f32_r3:List AOper:=[
 ⟨some 5,(.move (.c (.s (.int .i64 0)))),none⟩]
def s_f32_r4:List AOper:=[
 ⟨some 15,(.move (.t 5)),none⟩,
 ⟨some 16,(.move (.t 0)),none⟩,
 ⟨some 17,(.lenS .s (.t 16)),none⟩,
 ⟨some 18,(.bin .lss (.t 15) (.t 17)),none⟩,
 ⟨some 19,(.move (.t 18)),none⟩,
 ⟨some 20,(.move (.t 0)),some (19,true)⟩,
 ⟨some 21,(.move (.t 5)),some (19,true)⟩,
 ⟨some 22,(.indexAddr 1 (.t 20) (.t 21)),some (19,true)⟩,
 ⟨some 23,(.load false 1 (.t 22)),some (19,true)⟩,
 ⟨some 24,(.move (.t 1)),some (19,true)⟩,
 ⟨some 25,(.bin .lss (.t 23) (.t 24)),some (19,true)⟩,
 ⟨some 26,(.pick (.t 19) (.t 25) (.c (.s (.bool false)))),none⟩]
def s_f32_r5:List AOper:=[
 ⟨some 27,(.move (.t 5)),none⟩,
 ⟨some 28,(.bin .add (.t 27) (.c (.s (.int .i64 1)))),none⟩,
 ⟨some 5,(.move (.t 28)),none⟩]
def s_f32_l0_b:ACode:=
 (.seq (.seq (.regionE s_f32_r4 [15,16,17,18,19,20,21,22,23,24,25] [26])
 (.cond (.t 26)
 .skip
 (.exit 0)))
 (.block 1
 (.regionE s_f32_r5 [26,27,28] [5])))
def s_f32_l0:ACode:=s_f32_l0_b
def s_f32_r6t2:List AOper:=[⟨some 6,(.move (.t 32)),none⟩]
def s_f32_r6p1:List AOper:=[⟨some 32,(.append 1 8 (.c (.s (.slice none 0 0))) (.t 31)),none⟩]
def s_f32_r6t1:List AOper:=s_f32_r6p1 ++ s_f32_r6t2
def s_f32_r6p0:List AOper:=[⟨some 29,(.move (.t 0)),none⟩,⟨some 30,(.move (.t 5)),none⟩,⟨some 31,(.subSl 1 (.t 29) none (some (.t 30)) none),none⟩]
def s_f32_r6:List AOper:=s_f32_r6p0 ++ s_f32_r6t1
def s_f32_r7t3:List AOper:=[⟨some 6,(.move (.t 36)),none⟩]
def s_f32_r7p2:List AOper:=[⟨some 36,(.append 1 8 (.t 33) (.t 35)),none⟩]
def s_f32_r7t2:List AOper:=s_f32_r7p2 ++ s_f32_r7t3
def s_f32_r7p1:List AOper:=[⟨some 35,(.buildSl 1 1 [(.s (.int .i64 0))] [(0,(.t 34))]),none⟩]
def s_f32_r7t1:List AOper:=s_f32_r7p1 ++ s_f32_r7t2
def s_f32_r7p0:List AOper:=[⟨some 33,(.move (.t 6)),none⟩,⟨some 34,(.move (.t 1)),none⟩]
def s_f32_r7:List AOper:=s_f32_r7p0 ++ s_f32_r7t1
def s_f32_r8t2:List AOper:=[⟨some 4,(.move (.t 41)),none⟩]
def s_f32_r8p1:List AOper:=[⟨some 41,(.append 1 8 (.t 37) (.t 40)),none⟩]
def s_f32_r8t1:List AOper:=s_f32_r8p1 ++ s_f32_r8t2
def s_f32_r8p0:List AOper:=[⟨some 37,(.move (.t 6)),none⟩,⟨some 38,(.move (.t 0)),none⟩,⟨some 39,(.move (.t 5)),none⟩,⟨some 40,(.subSl 1 (.t 38) (some (.t 39)) none none),none⟩]
def s_f32_r8:List AOper:=s_f32_r8p0 ++ s_f32_r8t1
def s_f32:ACFun:={ ntmps:=42,results:=[(.tmp 4)],body:=
 (.seq (.regionE s_f32_r0 s_f32_r0_k [])
 (.seq (.seq (.region s_f32_r1 [] [7,8,9,10,11,12])
 (.cond (.t 13)
 (.seq (.regionE s_f32_r2 [0,1,13,14] [4])
 .ret)
 .skip))
 (.seq (.regionE s_f32_r3 [13] [5])
 (.seq (.block 0
 (.loop [] s_f32_l0))
 (.seq (.region s_f32_r6 [] [26,29,30,31,32])
 (.seq (.region s_f32_r7 [] [1,33,34,35,36])
 (.seq (.region s_f32_r8 [] [0,5,6,37,38,39,40,41])
 .ret))))))) }
abbrev k_f43:Nat:=43
def s_f43_r0_k:List Nat:=[2,3,4,5,6,7,8,9,10,11,12,13,14,15,16,17,18,19,20,21,22,23,24,25,26,27,28,29,30,31,32,33,34,35,36,37,38,39,40,41,42,43,44,45,46,47,48,49,50,51,52,53,54,55,56,57,58,59,60,61,62,63,64,65,66,67,68,69,70,71,72,73,74,75,76,77,78,79,80,81,82,83]
def s_f43_r0:List AOper:=[
 ⟨some 4,(.move (.c (.s (.slice none 0 0)))),none⟩]
def s_f43_r1t2:List AOper:=[⟨some 0,(.move (.t 11)),none⟩]
def s_f43_r1p1:List AOper:=[⟨some 11,(.call (.c (.fn 31 [] [])) [(.t 10)]),none⟩]
def s_f43_r1t1:List AOper:=s_f43_r1p1 ++ s_f43_r1t2
def s_f43_r1p0:List AOper:=[⟨some 10,(.move (.t 0)),none⟩]
def s_f43_r1:List AOper:=s_f43_r1p0 ++ s_f43_r1t1
def s_f43_r2t2:List AOper:=[⟨some 5,(.move (.t 14)),none⟩]
def s_f43_r2p1:List AOper:=[⟨some 14,(.mkSl [(.s (.bool false))] 1 1 (.t 13) (.t 13)),none⟩]
def s_f43_r2t1:List AOper:=s_f43_r2p1 ++ s_f43_r2t2
def s_f43_r2p0:List AOper:=[⟨some 12,(.move (.t 0)),none⟩,⟨some 13,(.lenS .s (.t 12)),none⟩]
def s_f43_r2:List AOper:=s_f43_r2p0 ++ s_f43_r2t1
def s_f43_r3:List AOper:=[
 ⟨some 6,(.move (.c (.s (.int .i64 0)))),none⟩]
def s_f43_r4:List AOper:=[
 ⟨some 15,(.move (.t 6)),none⟩,
 ⟨some 16,(.move (.t 1)),none⟩,
 ⟨some 17,(.lenS .s (.t 16)),none⟩,
 ⟨some 18,(.bin .lss (.t 15) (.t 17)),none⟩]
def s_f43_r5:List AOper:=[
 ⟨some 21,(.move (.t 1)),none⟩,
 ⟨some 22,(.move (.t 6)),none⟩,
 ⟨some 23,(.indexAddr 1 (.t 21) (.t 22)),none⟩,
 ⟨some 24,(.load false 1 (.t 23)),none⟩,
 ⟨some 25,(.bin .geq (.t 24) (.c (.s (.int .i64 0)))),none⟩,
 ⟨some 26,(.move (.t 25)),none⟩,
 ⟨some 27,(.move (.t 1)),some (26,true)⟩,
 ⟨some 28,(.move (.t 6)),some (26,true)⟩,
 ⟨some 29,(.indexAddr 1 (.t 27) (.t 28)),some (26,true)⟩,
 ⟨some 30,(.load false 1 (.t 29)),some (26,true)⟩,
 ⟨some 31,(.move (.t 0)),some (26,true)⟩,
 ⟨some 32,(.lenS .s (.t 31)),some (26,true)⟩,
 ⟨some 33,(.bin .lss (.t 30) (.t 32)),some (26,true)⟩,
 ⟨some 34,(.pick (.t 26) (.t 33) (.c (.s (.bool false)))),none⟩]
def s_f43_r6t1:List AOper:=[⟨none,(.store 1 (.t 40) (.c (.s (.bool true)))),none⟩]
def s_f43_r6p0:List AOper:=[⟨some 35,(.move (.t 5)),none⟩,⟨some 36,(.move (.t 1)),none⟩,⟨some 37,(.move (.t 6)),none⟩,⟨some 38,(.indexAddr 1 (.t 36) (.t 37)),none⟩,⟨some 39,(.load false 1 (.t 38)),none⟩,⟨some 40,(.indexAddr 1 (.t 35) (.t 39)),none⟩]
def s_f43_r6:List AOper:=s_f43_r6p0 ++ s_f43_r6t1
def s_f43_r7:List AOper:=[
 ⟨some 19,(.move (.t 6)),none⟩,
 ⟨some 20,(.bin .add (.t 19) (.c (.s (.int .i64 1)))),none⟩,
 ⟨some 6,(.move (.t 20)),none⟩]
def s_f43_l0_b:ACode:=
 (.seq (.seq (.regionE s_f43_r4 [15,16,17] [18])
 (.cond (.t 18)
 .skip
 (.exit 0)))
 (.seq (.block 1
 (.seq (.regionE s_f43_r5 [18,21,22,23,24,25,26,27,28,29,30,31,32,33] [34])
 (.cond (.t 34)
 (.region s_f43_r6 [] [34,35,36,37,38,39,40])
 .skip)))
 (.regionE s_f43_r7 [19,20,34] [6])))
def s_f43_l0:ACode:=s_f43_l0_b
def s_f43_r8:List AOper:=[
 ⟨some 7,(.move (.c (.s (.bool true)))),none⟩]
def s_f43_r9:List AOper:=[
 ⟨some 41,(.move (.t 7)),none⟩]
def s_f43_r10:List AOper:=[
 ⟨some 7,(.move (.c (.s (.bool false)))),none⟩]
def s_f43_r11:List AOper:=[
 ⟨some 8,(.move (.c (.s (.int .i64 0)))),none⟩]
def s_f43_r12:List AOper:=[
 ⟨some 42,(.move (.t 8)),none⟩,
 ⟨some 43,(.move (.t 0)),none⟩,
 ⟨some 44,(.lenS .s (.t 43)),none⟩,
 ⟨some 45,(.bin .lss (.t 42) (.t 44)),none⟩]
def s_f43_r13:List AOper:=[
 ⟨some 9,(.move (.c (.s (.int .i64 0)))),none⟩]
def s_f43_r14:List AOper:=[
 ⟨some 48,(.move (.t 9)),none⟩,
 ⟨some 49,(.move (.t 0)),none⟩,
 ⟨some 50,(.move (.t 8)),none⟩,
 ⟨some 51,(.indexAddr 1 (.t 49) (.t 50)),none⟩,
 ⟨some 52,(.load false 1 (.t 51)),none⟩,
 ⟨some 53,(.lenS .s (.t 52)),none⟩,
 ⟨some 54,(.bin .lss (.t 48) (.t 53)),none⟩]
def s_f43_r15:List AOper:=[
 ⟨some 57,(.move (.t 5)),none⟩,
 ⟨some 58,(.move (.t 8)),none⟩,
 ⟨some 59,(.indexAddr 1 (.t 57) (.t 58)),none⟩,
 ⟨some 60,(.load false 1 (.t 59)),none⟩,
 ⟨some 61,(.move (.t 60)),none⟩,
 ⟨some 62,(.move (.t 5)),some (61,true)⟩,
 ⟨some 63,(.move (.t 0)),some (61,true)⟩,
 ⟨some 64,(.move (.t 8)),some (61,true)⟩,
 ⟨some 65,(.indexAddr 1 (.t 63) (.t 64)),some (61,true)⟩,
 ⟨some 66,(.load false 1 (.t 65)),some (61,true)⟩,
 ⟨some 67,(.move (.t 9)),some (61,true)⟩,
 ⟨some 68,(.indexAddr 1 (.t 66) (.t 67)),some (61,true)⟩,
 ⟨some 69,(.load false 1 (.t 68)),some (61,true)⟩,
 ⟨some 70,(.indexAddr 1 (.t 62) (.t 69)),some (61,true)⟩,
 ⟨some 71,(.load false 1 (.t 70)),some (61,true)⟩,
 ⟨some 72,(.un .not (.t 71)),some (61,true)⟩,
 ⟨some 73,(.pick (.t 61) (.t 72) (.c (.s (.bool false)))),none⟩]
def s_f43_r16t1:List AOper:=[⟨none,(.store 1 (.t 82) (.c (.s (.bool true)))),none⟩]
def s_f43_r16p0:List AOper:=[⟨some 74,(.move (.t 5)),none⟩,⟨some 75,(.move (.t 0)),none⟩,⟨some 76,(.move (.t 8)),none⟩,⟨some 77,(.indexAddr 1 (.t 75) (.t 76)),none⟩,⟨some 78,(.load false 1 (.t 77)),none⟩,⟨some 79,(.move (.t 9)),none⟩,⟨some 80,(.indexAddr 1 (.t 78) (.t 79)),none⟩,⟨some 81,(.load false 1 (.t 80)),none⟩,⟨some 82,(.indexAddr 1 (.t 74) (.t 81)),none⟩]
def s_f43_r16:List AOper:=s_f43_r16p0 ++ s_f43_r16t1
def s_f43_r17:List AOper:=[
 ⟨some 7,(.move (.c (.s (.bool true)))),none⟩]
def s_f43_r18:List AOper:=[
 ⟨some 55,(.move (.t 9)),none⟩,
 ⟨some 56,(.bin .add (.t 55) (.c (.s (.int .i64 1)))),none⟩,
 ⟨some 9,(.move (.t 56)),none⟩]
def s_f43_l1_b:ACode:=
 (.seq (.seq (.regionE s_f43_r14 [48,49,50,51,52,53] [54])
 (.cond (.t 54)
 .skip
 (.exit 6)))
 (.seq (.block 7
 (.seq (.regionE s_f43_r15 [54,57,58,59,60,61,62,63,64,65,66,67,68,69,70,71,72] [73])
 (.cond (.t 73)
 (.seq (.region s_f43_r16 [] [7,73,74,75,76,77,78,79,80,81,82])
 (.regionE s_f43_r17 [] [7]))
 .skip)))
 (.regionE s_f43_r18 [55,56,73] [9])))
def s_f43_l1:ACode:=s_f43_l1_b
def s_f43_r19:List AOper:=[
 ⟨some 46,(.move (.t 8)),none⟩,
 ⟨some 47,(.bin .add (.t 46) (.c (.s (.int .i64 1)))),none⟩,
 ⟨some 8,(.move (.t 47)),none⟩]
def s_f43_l2_b:ACode:=
 (.seq (.seq (.regionE s_f43_r12 [42,43,44] [45])
 (.cond (.t 45)
 .skip
 (.exit 4)))
 (.seq (.block 5
 (.seq (.regionE s_f43_r13 [45] [9])
 (.block 6
 (.loop [] s_f43_l1))))
 (.regionE s_f43_r19 [9,46,47,54] [8])))
def s_f43_l2:ACode:=s_f43_l2_b
def s_f43_l3_b:ACode:=
 (.seq (.seq (.regionE s_f43_r9 [7] [41])
 (.cond (.t 41)
 .skip
 (.exit 2)))
 (.block 3
 (.seq (.regionE s_f43_r10 [41] [7])
 (.seq (.regionE s_f43_r11 [] [8])
 (.block 4
 (.loop [] s_f43_l2))))))
def s_f43_l3:ACode:=s_f43_l3_b
def s_f43_r20:List AOper:=[
 ⟨some 83,(.move (.t 5)),none⟩,
 ⟨some 4,(.move (.t 83)),none⟩]
def s_f43:ACFun:={ ntmps:=84,results:=[(.tmp 4)],body:=
 (.seq (.regionE s_f43_r0 s_f43_r0_k [])
 (.seq (.region s_f43_r1 [] [10,11])
 (.seq (.region s_f43_r2 [] [12,13,14])
 (.seq (.seq (.regionE s_f43_r3 [] [6])
 (.block 0
 (.loop [] s_f43_l0)))
 (.seq (.seq (.regionE s_f43_r8 [1,6,18] [7])
 (.block 2
 (.loop [8,45] s_f43_l3)))
 (.seq (.regionE s_f43_r20 [0,5,41,83] [4])
 .ret)))))) }
abbrev k_f44:Nat:=44
def s_f44_r0_k:List Nat:=[2,3,4,5,6,7,8,9,10,11]
def s_f44_r0:List AOper:=[
 ⟨some 4,(.move (.c (.s (.slice none 0 0)))),none⟩]
def s_f44_r1t2:List AOper:=[⟨some 5,(.move (.t 7)),none⟩]
def s_f44_r1p1:List AOper:=[⟨some 7,(.append 1 24 (.c (.s (.slice none 0 0))) (.t 6)),none⟩]
def s_f44_r1t1:List AOper:=s_f44_r1p1 ++ s_f44_r1t2
def s_f44_r1p0:List AOper:=[⟨some 6,(.move (.t 0)),none⟩]
def s_f44_r1:List AOper:=s_f44_r1p0 ++ s_f44_r1t1
def s_f44_r2t1:List AOper:=[⟨none,(.store 1 (.t 10) (.c (.s (.slice none 0 0)))),none⟩]
def s_f44_r2p0:List AOper:=[⟨some 8,(.move (.t 5)),none⟩,⟨some 9,(.move (.t 1)),none⟩,⟨some 10,(.indexAddr 1 (.t 8) (.t 9)),none⟩]
def s_f44_r2:List AOper:=s_f44_r2p0 ++ s_f44_r2t1
def s_f44_r3:List AOper:=[
 ⟨some 11,(.move (.t 5)),none⟩,
 ⟨some 4,(.move (.t 11)),none⟩]
def s_f44:ACFun:={ ntmps:=12,results:=[(.tmp 4)],body:=
 (.seq (.regionE s_f44_r0 s_f44_r0_k [])
 (.seq (.region s_f44_r1 [] [0,6,7])
 (.seq (.region s_f44_r2 [] [1,8,9,10])
 (.seq (.regionE s_f44_r3 [5,11] [4])
 .ret)))) }
abbrev k_f47:Nat:=47
def s_f47_r0_k:List Nat:=[2,3,4,5,6,7,8,9,10,11,12,13,14,15,16,17]
def s_f47_r0:List AOper:=[
 ⟨some 4,(.move (.c (.s (.bool false)))),none⟩]
def s_f47_r1:List AOper:=[
 ⟨some 5,(.move (.c (.s (.int .i64 0)))),none⟩]
def s_f47_r2:List AOper:=[
 ⟨some 6,(.move (.t 5)),none⟩,
 ⟨some 7,(.move (.t 0)),none⟩,
 ⟨some 8,(.lenS .s (.t 7)),none⟩,
 ⟨some 9,(.bin .lss (.t 6) (.t 8)),none⟩]
def s_f47_r3:List AOper:=[
 ⟨some 12,(.move (.t 0)),none⟩,
 ⟨some 13,(.move (.t 5)),none⟩,
 ⟨some 14,(.indexAddr 1 (.t 12) (.t 13)),none⟩,
 ⟨some 15,(.load false 1 (.t 14)),none⟩,
 ⟨some 16,(.move (.t 1)),none⟩,
 ⟨some 17,(.bin .eql (.t 15) (.t 16)),none⟩]
def s_f47_r4:List AOper:=[
 ⟨some 4,(.move (.c (.s (.bool true)))),none⟩]
def s_f47_r5:List AOper:=[
 ⟨some 10,(.move (.t 5)),none⟩,
 ⟨some 11,(.bin .add (.t 10) (.c (.s (.int .i64 1)))),none⟩,
 ⟨some 5,(.move (.t 11)),none⟩]
def s_f47_l0_b:ACode:=
 (.seq (.seq (.regionE s_f47_r2 [6,7,8] [9])
 (.cond (.t 9)
 .skip
 (.exit 0)))
 (.seq (.block 1
 (.seq (.regionE s_f47_r3 [9,12,13,14,15,16] [17])
 (.cond (.t 17)
 (.seq (.regionE s_f47_r4 [0,1,5,17] [4])
 .ret)
 .skip)))
 (.regionE s_f47_r5 [10,11,17] [5])))
def s_f47_l0:ACode:=s_f47_l0_b
def s_f47_r6:List AOper:=[
 ⟨some 4,(.move (.c (.s (.bool false)))),none⟩]
def s_f47:ACFun:={ ntmps:=18,results:=[(.tmp 4)],body:=
 (.seq (.regionE s_f47_r0 s_f47_r0_k [])
 (.seq (.seq (.regionE s_f47_r1 [] [5])
 (.block 0
 (.loop [] s_f47_l0)))
 (.seq (.regionE s_f47_r6 [0,1,5,9] [4])
 .ret))) }
theorem DA3_11:compK Try.prog PX0 11=some (false,s_f11.ntmps,s_f11.results,s_f11.body.bare):=by kernel_rfl
theorem DA3_15:compK Try.prog PX0 15=some (false,s_f15.ntmps,s_f15.results,s_f15.body.bare):=by kernel_rfl
end Go.Proofs.Ytdmnenlpdeolaaa
set_option maxRecDepth 100000
namespace Go.Proofs.Ytdmnenlpdeolaaa
open Go.AM
abbrev k_f16:Nat:=16
def s_f16_r0_k:List Nat:=[2,3,4,5,6,7,8,9,10,11,12,13,14,15,16,17,18,19,20,21,22,23,24,25,26,27,28,29,30,31,32,33,34,35,36,37,38,39,40,41,42,43,44,45,46,47,48,49,50,51,52,53,54,55,56,57,58,59,60,61,62,63,64,65,66,67,68,69,70,71,72,73,74,75,76,77,78,79,80,81,82,83,84,85,86,87,88]
theorem s_f16_r0_kT:killV s_f16_r0_k (startV 89 [] 2)=[]:=by kernel_rfl
theorem s_f16_r0_kA0:s_f16_r0_k.contains 0=false:=by kernel_rfl
theorem s_f16_r0_kA1:s_f16_r0_k.contains 1=false:=by kernel_rfl
def s_f16_r0:List AOper:=[
 ⟨some 4,(.move (.c (.s (.slice none 0 0)))),none⟩]
def s_f16_r0_tale:=hT s_f16_r0 s_f16_r0_k [] 5 [] [] [.cc (.s (.slice none 0 0))] (by kernel_rfl) (by kernel_rfl)
def s_f16_r1t2:List AOper:=[⟨some 5,(.move (.t 15)),none⟩]
def s_f16_r1p1:List AOper:=[⟨some 15,(.call (.c (.fn 10 [] [])) [(.t 13),(.t 14)]),none⟩]
def s_f16_r1t1:List AOper:=s_f16_r1p1 ++ s_f16_r1t2
def s_f16_r1p0:List AOper:=[⟨some 13,(.move (.t 0)),none⟩,⟨some 14,(.move (.t 1)),none⟩]
def s_f16_r1:List AOper:=s_f16_r1p0 ++ s_f16_r1t1
def s_f16_r1p0_tale:=hT s_f16_r1p0 [1] [13,14] 15 [] [(13,(.t 0)),(14,(.t 1))] [.tt 0,.tt 1] (by kernel_rfl) (by kernel_rfl)
def s_f16_r1_x:=hS s_f16_r1 s_f16_r1p0 s_f16_r1t1 [1] [13,14] [1,13,14,15] rfl (by kernel_rfl)
def s_f16_r1t1_x:=hO s_f16_r1t1 s_f16_r1p1 s_f16_r1t2 [13,14] [1,13,14,15] [⟨some 15,(.call (.c (.fn 10 [] [])) [(.t 13),(.t 14)]),none⟩] rfl rfl (by kernel_rfl)
def s_f16_r1t2_tale:=hT s_f16_r1t2 [1,13,14,15] [5] 6 [] [(5,(.t 15))] [.tt 15] (by kernel_rfl) (by kernel_rfl)
def s_f16_r1t2_x:=hL s_f16_r1t2 [1,13,14,15] [5]
def s_f16_r2t2:List AOper:=[⟨some 6,(.move (.t 18)),none⟩]
def s_f16_r2p1:List AOper:=[⟨some 18,(.mkSl [(.s (.slice none 0 0))] 1 24 (.t 17) (.t 17)),none⟩]
def s_f16_r2t1:List AOper:=s_f16_r2p1 ++ s_f16_r2t2
def s_f16_r2p0:List AOper:=[⟨some 16,(.move (.t 0)),none⟩,⟨some 17,(.lenS .s (.t 16)),none⟩]
def s_f16_r2:List AOper:=s_f16_r2p0 ++ s_f16_r2t1
def s_f16_r2p0_tale:=hT s_f16_r2p0 [16] [17] 18 [] [(17,(.op (.lenS .s (.t 0)) [(.t 0)]))] [.tt 0,.sub 0 [] []] (by kernel_rfl) (by kernel_rfl)
def s_f16_r2_x:=hS s_f16_r2 s_f16_r2p0 s_f16_r2t1 [16] [17] [16,17,18] rfl (by kernel_rfl)
def s_f16_r2t1_x:=hO s_f16_r2t1 s_f16_r2p1 s_f16_r2t2 [17] [16,17,18] [⟨some 18,(.mkSl [(.s (.slice none 0 0))] 1 24 (.t 17) (.t 17)),none⟩] rfl rfl (by kernel_rfl)
def s_f16_r2t2_tale:=hT s_f16_r2t2 [16,17,18] [6] 7 [] [(6,(.t 18))] [.tt 18] (by kernel_rfl) (by kernel_rfl)
def s_f16_r2t2_x:=hL s_f16_r2t2 [16,17,18] [6]
def s_f16_r3t2:List AOper:=[⟨some 21,(.lenS .s (.t 20)),none⟩,⟨some 22,(.move (.c (.s (.int .i64 0)))),none⟩]
def s_f16_r3p1:List AOper:=[⟨some 20,(.call (.c (.fn 18 [] [])) [(.t 19)]),none⟩]
def s_f16_r3t1:List AOper:=s_f16_r3p1 ++ s_f16_r3t2
def s_f16_r3p0:List AOper:=[⟨some 19,(.move (.t 0)),none⟩]
def s_f16_r3:List AOper:=s_f16_r3p0 ++ s_f16_r3t1
def s_f16_r3p0_tale:=hT s_f16_r3p0 [0] [19] 20 [] [(19,(.t 0))] [.tt 0] (by kernel_rfl) (by kernel_rfl)
def s_f16_r3_x:=hS s_f16_r3 s_f16_r3p0 s_f16_r3t1 [0] [19] [0,19] rfl (by kernel_rfl)
def s_f16_r3t1_x:=hO s_f16_r3t1 s_f16_r3p1 s_f16_r3t2 [19] [0,19] [⟨some 20,(.call (.c (.fn 18 [] [])) [(.t 19)]),none⟩] rfl rfl (by kernel_rfl)
def s_f16_r3t2_tale:=hT s_f16_r3t2 [0,19] [21,22] 23 [] [(21,(.op (.lenS .s (.t 0)) [(.t 20)])),(22,(.c (.s (.int .i64 0))))] [.sub 0 [] [],.cc (.s (.int .i64 0))] (by kernel_rfl) (by kernel_rfl)
def s_f16_r3t2_x:=hL s_f16_r3t2 [0,19] [21,22]
def s_f16_r4:List AOper:=[
 ⟨some 23,(.bin .lss (.t 22) (.t 21)),none⟩]
def s_f16_r4_tale:=hT s_f16_r4 [] [23] 24 [] [(23,(.op (.bin .lss (.t 0) (.t 1)) [(.t 22),(.t 21)]))] [.sub 0 [] []] (by kernel_rfl) (by kernel_rfl)
def s_f16_r5:List AOper:=[
 ⟨some 24,(.move (.t 22)),none⟩,
 ⟨some 25,(.indexAddr 1 (.t 20) (.t 22)),none⟩,
 ⟨some 26,(.load false 1 (.t 25)),none⟩,
 ⟨some 7,(.move (.t 24)),none⟩,
 ⟨some 8,(.move (.t 26)),none⟩]
def s_f16_r5_tale:=hT s_f16_r5 [23,24,25,26] [7,8] 27 [] [(7,(.t 22)),(8,(.op (.load false 1 (.t 0)) [(.op (.indexAddr 1 (.t 0) (.t 1)) [(.t 20),(.t 22)])]))] [.tt 22,.sub 1 [0] [],.sub 1 [] [],.tt 22,.sub 1 [] []] (by kernel_rfl) (by kernel_rfl)
def s_f16_r6:List AOper:=[
 ⟨some 27,(.move (.t 5)),none⟩,
 ⟨some 28,(.move (.t 7)),none⟩,
 ⟨some 29,(.indexAddr 1 (.t 27) (.t 28)),none⟩,
 ⟨some 30,(.load false 1 (.t 29)),none⟩,
 ⟨some 31,(.bin .eql (.t 30) (.c (.s (.int .i64 (-2))))),none⟩]
def s_f16_r6_tale:=hT s_f16_r6 [27,28,29,30] [31] 32 [] [(31,(.op (.bin .eql (.t 0) (.c (.s (.int .i64 (-2))))) [(.op (.load false 1 (.t 0)) [(.op (.indexAddr 1 (.t 0) (.t 1)) [(.t 5),(.t 7)])]),(.c (.s (.int .i64 (-2))))]))] [.tt 5,.tt 7,.sub 0 [0,0] [],.sub 0 [0] [],.sub 0 [] []] (by kernel_rfl) (by kernel_rfl)
def s_f16_r7:List AOper:=[
 ⟨some 32,(.move (.t 8)),none⟩,
 ⟨some 33,(.lenS .s (.t 32)),none⟩,
 ⟨some 34,(.move (.c (.s (.int .i64 0)))),none⟩]
def s_f16_r7_tale:=hT s_f16_r7 [8,31] [32,33,34] 35 [] [(32,(.t 8)),(33,(.op (.lenS .s (.t 0)) [(.t 8)])),(34,(.c (.s (.int .i64 0))))] [.tt 8,.sub 1 [] [],.cc (.s (.int .i64 0))] (by kernel_rfl) (by kernel_rfl)
def s_f16_r8:List AOper:=[
 ⟨some 35,(.bin .lss (.t 34) (.t 33)),none⟩]
def s_f16_r8_tale:=hT s_f16_r8 [] [35] 36 [] [(35,(.op (.bin .lss (.t 0) (.t 1)) [(.t 34),(.t 33)]))] [.sub 0 [] []] (by kernel_rfl) (by kernel_rfl)
def s_f16_r9:List AOper:=[
 ⟨some 36,(.indexAddr 1 (.t 32) (.t 34)),none⟩,
 ⟨some 37,(.load false 1 (.t 36)),none⟩,
 ⟨some 10,(.move (.t 37)),none⟩]
def s_f16_r9_tale:=hT s_f16_r9 [35,36,37] [10] 38 [] [(10,(.op (.load false 1 (.t 0)) [(.op (.indexAddr 1 (.t 0) (.t 1)) [(.t 32),(.t 34)])]))] [.sub 0 [0] [],.sub 0 [] [],.sub 0 [] []] (by kernel_rfl) (by kernel_rfl)
def s_f16_r10:List AOper:=[
 ⟨some 38,(.move (.t 7)),none⟩,
 ⟨some 11,(.move (.t 38)),none⟩]
def s_f16_r10_tale:=hT s_f16_r10 [38] [11] 39 [] [(11,(.t 7))] [.tt 7,.tt 7] (by kernel_rfl) (by kernel_rfl)
def s_f16_r11t9:List AOper:=[⟨some 50,(.un .not (.t 49)),some (45,false)⟩,⟨some 51,(.pick (.t 45) (.c (.s (.bool true))) (.t 50)),some (41,true)⟩,⟨some 52,(.pick (.t 41) (.t 51) (.c (.s (.bool false)))),none⟩]
def s_f16_r11p8:List AOper:=[⟨some 49,(.call (.c (.fn 13 [] [])) [(.t 46),(.t 47),(.t 48)]),some (45,false)⟩]
def s_f16_r11t8:List AOper:=s_f16_r11p8 ++ s_f16_r11t9
def s_f16_r11p7:List AOper:=[⟨some 48,(.move (.t 10)),some (45,false)⟩]
def s_f16_r11t7:List AOper:=s_f16_r11p7 ++ s_f16_r11t8
def s_f16_r11p6:List AOper:=[⟨some 47,(.move (.t 11)),some (45,false)⟩]
def s_f16_r11t6:List AOper:=s_f16_r11p6 ++ s_f16_r11t7
def s_f16_r11p5:List AOper:=[⟨some 46,(.move (.t 5)),some (45,false)⟩]
def s_f16_r11t5:List AOper:=s_f16_r11p5 ++ s_f16_r11t6
def s_f16_r11p4:List AOper:=[⟨some 45,(.move (.t 44)),some (41,true)⟩]
def s_f16_r11t4:List AOper:=s_f16_r11p4 ++ s_f16_r11t5
def s_f16_r11p3:List AOper:=[⟨some 44,(.bin .eql (.t 42) (.t 43)),some (41,true)⟩]
def s_f16_r11t3:List AOper:=s_f16_r11p3 ++ s_f16_r11t4
def s_f16_r11p2:List AOper:=[⟨some 43,(.move (.t 10)),some (41,true)⟩]
def s_f16_r11t2:List AOper:=s_f16_r11p2 ++ s_f16_r11t3
def s_f16_r11p1:List AOper:=[⟨some 42,(.move (.t 11)),some (41,true)⟩]
def s_f16_r11t1:List AOper:=s_f16_r11p1 ++ s_f16_r11t2
def s_f16_r11p0:List AOper:=[⟨some 39,(.move (.t 11)),none⟩,⟨some 40,(.bin .geq (.t 39) (.c (.s (.int .i64 0)))),none⟩,⟨some 41,(.move (.t 40)),none⟩]
def s_f16_r11:List AOper:=s_f16_r11p0 ++ s_f16_r11t1
def s_f16_r11p0_tale:=hT s_f16_r11p0 [39,40] [41] 42 [] [(41,(.op (.bin .geq (.t 0) (.c (.s (.int .i64 0)))) [(.t 11),(.c (.s (.int .i64 0)))]))] [.tt 11,.sub 0 [] [],.sub 0 [] []] (by kernel_rfl) (by kernel_rfl)
def s_f16_r11_x:=hS s_f16_r11 s_f16_r11p0 s_f16_r11t1 [39,40] [41] [39,40,41,42,43,44,45,46,47,48,49,50,51] rfl (by kernel_rfl)
def s_f16_r11t1_x:=hO s_f16_r11t1 s_f16_r11p1 s_f16_r11t2 [] [39,40,41,42,43,44,45,46,47,48,49,50,51] [⟨some 42,(.move (.t 11)),some (41,true)⟩] rfl rfl (by kernel_rfl)
def s_f16_r11t2_x:=hO s_f16_r11t2 s_f16_r11p2 s_f16_r11t3 [] [39,40,41,42,43,44,45,46,47,48,49,50,51] [⟨some 43,(.move (.t 10)),some (41,true)⟩] rfl rfl (by kernel_rfl)
def s_f16_r11t3_x:=hO s_f16_r11t3 s_f16_r11p3 s_f16_r11t4 [42,43] [39,40,41,42,43,44,45,46,47,48,49,50,51] [⟨some 44,(.bin .eql (.t 42) (.t 43)),some (41,true)⟩] rfl rfl (by kernel_rfl)
def s_f16_r11t4_x:=hO s_f16_r11t4 s_f16_r11p4 s_f16_r11t5 [44] [39,40,41,42,43,44,45,46,47,48,49,50,51] [⟨some 45,(.move (.t 44)),some (41,true)⟩] rfl rfl (by kernel_rfl)
def s_f16_r11t5_x:=hO s_f16_r11t5 s_f16_r11p5 s_f16_r11t6 [] [39,40,41,42,43,44,45,46,47,48,49,50,51] [⟨some 46,(.move (.t 5)),some (45,false)⟩] rfl rfl (by kernel_rfl)
def s_f16_r11t6_x:=hO s_f16_r11t6 s_f16_r11p6 s_f16_r11t7 [] [39,40,41,42,43,44,45,46,47,48,49,50,51] [⟨some 47,(.move (.t 11)),some (45,false)⟩] rfl rfl (by kernel_rfl)
def s_f16_r11t7_x:=hO s_f16_r11t7 s_f16_r11p7 s_f16_r11t8 [] [39,40,41,42,43,44,45,46,47,48,49,50,51] [⟨some 48,(.move (.t 10)),some (45,false)⟩] rfl rfl (by kernel_rfl)
def s_f16_r11t8_x:=hO s_f16_r11t8 s_f16_r11p8 s_f16_r11t9 [46,47,48] [39,40,41,42,43,44,45,46,47,48,49,50,51] [⟨some 49,(.call (.c (.fn 13 [] [])) [(.t 46),(.t 47),(.t 48)]),some (45,false)⟩] rfl rfl (by kernel_rfl)
def s_f16_r11t9_tale:=hT s_f16_r11t9 [39,40,41,42,43,44,45,46,47,48,49,50,51] [52] 53 [([(45,false,(.t 45))],(.op (.un .not (.t 0)) [(.t 49)]))] [(52,(.pick (.t 41) (.pick (.t 45) (.c (.s (.bool true))) (.op (.un .not (.t 0)) [(.t 49)])) (.c (.s (.bool false)))))] [.keep [(45,false,(.t 45))] (.op (.un .not (.t 0)) [(.t 49)]),.sub 0 [1] [41],.sub 0 [] []] (by kernel_rfl) (by kernel_rfl)
def s_f16_r11t9_x:=hL s_f16_r11t9 [39,40,41,42,43,44,45,46,47,48,49,50,51] [52]
def s_f16_r12t4:List AOper:=[⟨none,(.store 1 (.t 66) (.t 65)),none⟩]
def s_f16_r12p3:List AOper:=[⟨some 66,(.indexAddr 1 (.t 57) (.t 58)),none⟩]
def s_f16_r12t3:List AOper:=s_f16_r12p3 ++ s_f16_r12t4
def s_f16_r12p2:List AOper:=[⟨some 65,(.append 1 8 (.t 62) (.t 64)),none⟩]
def s_f16_r12t2:List AOper:=s_f16_r12p2 ++ s_f16_r12t3
def s_f16_r12p1:List AOper:=[⟨some 64,(.buildSl 1 1 [(.s (.int .i64 0))] [(0,(.t 63))]),none⟩]
def s_f16_r12t1:List AOper:=s_f16_r12p1 ++ s_f16_r12t2
def s_f16_r12p0:List AOper:=[⟨some 57,(.move (.t 6)),none⟩,⟨some 58,(.move (.t 11)),none⟩,⟨some 59,(.move (.t 6)),none⟩,⟨some 60,(.move (.t 11)),none⟩,⟨some 61,(.indexAddr 1 (.t 59) (.t 60)),none⟩,⟨some 62,(.load false 1 (.t 61)),none⟩,⟨some 63,(.move (.t 10)),none⟩]
def s_f16_r12:List AOper:=s_f16_r12p0 ++ s_f16_r12t1
def s_f16_r12p0_tale:=hT s_f16_r12p0 [52,59,60,61] [57,58,62,63] 64 [] [(57,(.t 6)),(58,(.t 11)),(62,(.op (.load false 1 (.t 0)) [(.op (.indexAddr 1 (.t 0) (.t 1)) [(.t 6),(.t 11)])])),(63,(.t 10))] [.tt 6,.tt 11,.tt 6,.tt 11,.sub 2 [0] [],.sub 2 [] [],.tt 10] (by kernel_rfl) (by kernel_rfl)
def s_f16_r12_x:=hS s_f16_r12 s_f16_r12p0 s_f16_r12t1 [52,59,60,61] [57,58,62,63] [52,57,58,59,60,61,62,63,64,65,66] rfl (by kernel_rfl)
def s_f16_r12t1_x:=hO s_f16_r12t1 s_f16_r12p1 s_f16_r12t2 [63] [52,57,58,59,60,61,62,63,64,65,66] [⟨some 64,(.buildSl 1 1 [(.s (.int .i64 0))] [(0,(.t 63))]),none⟩] rfl rfl (by kernel_rfl)
def s_f16_r12t2_x:=hO s_f16_r12t2 s_f16_r12p2 s_f16_r12t3 [62,64] [52,57,58,59,60,61,62,63,64,65,66] [⟨some 65,(.append 1 8 (.t 62) (.t 64)),none⟩] rfl rfl (by kernel_rfl)
def s_f16_r12p3_tale:=hT s_f16_r12p3 [57,58] [66] 67 [] [(66,(.op (.indexAddr 1 (.t 0) (.t 1)) [(.t 57),(.t 58)]))] [.sub 0 [] []] (by kernel_rfl) (by kernel_rfl)
def s_f16_r12t3_x:=hS s_f16_r12t3 s_f16_r12p3 s_f16_r12t4 [57,58] [66] [52,57,58,59,60,61,62,63,64,65,66] rfl (by kernel_rfl)
def s_f16_r12t4_x:=hX s_f16_r12t4 [52,57,58,59,60,61,62,63,64,65,66] [⟨none,(.store 1 (.t 66) (.t 65)),none⟩] rfl
def s_f16_r13:List AOper:=[
 ⟨some 53,(.move (.t 5)),none⟩,
 ⟨some 54,(.move (.t 11)),none⟩,
 ⟨some 55,(.indexAddr 1 (.t 53) (.t 54)),none⟩,
 ⟨some 56,(.load false 1 (.t 55)),none⟩,
 ⟨some 11,(.move (.t 56)),none⟩]
def s_f16_r13_tale:=hT s_f16_r13 [53,54,55,56] [11] 57 [] [(11,(.op (.load false 1 (.t 0)) [(.op (.indexAddr 1 (.t 0) (.t 1)) [(.t 5),(.t 11)])]))] [.tt 5,.tt 11,.sub 0 [0] [],.sub 0 [] [],.sub 0 [] []] (by kernel_rfl) (by kernel_rfl)
def s_f16_l0_b:ACode:=
 (.seq (.seq (.region s_f16_r11 [] [39,40,41,42,43,44,45,46,47,48,49,50,51])
 (.cond (.t 52)
 .skip
 (.exit 4)))
 (.seq (.block 5
 (.region s_f16_r12 [] [52,57,58,59,60,61,62,63,64,65,66]))
 (.regionE s_f16_r13 [53,54,55,56] [11])))
def s_f16_l0:ACode:=s_f16_l0_b
def s_f16_l0_ev:=hE s_f16_l0 s_f16_l0_b rfl
def s_f16_r14:List AOper:=[
 ⟨some 67,(.bin .add (.t 34) (.c (.s (.int .i64 1)))),none⟩,
 ⟨some 34,(.move (.t 67)),none⟩]
def s_f16_r14_tale:=hT s_f16_r14 [10,11,52,67] [34] 68 [] [(34,(.op (.bin .add (.t 0) (.c (.s (.int .i64 1)))) [(.t 34),(.c (.s (.int .i64 1)))]))] [.sub 0 [] [],.sub 0 [] []] (by kernel_rfl) (by kernel_rfl)
def s_f16_l1_b:ACode:=
 (.seq (.regionE s_f16_r8 [] [35])
 (.seq (.cond (.t 35)
 .skip
 (.exit 2))
 (.seq (.block 3
 (.seq (.regionE s_f16_r9 [35,36,37] [10])
 (.seq (.regionE s_f16_r10 [38] [11])
 (.block 4
 (.loop [] s_f16_l0)))))
 (.regionE s_f16_r14 [10,11,52,67] [34]))))
def s_f16_l1:ACode:=s_f16_l1_b
def s_f16_l1_ev:=hE s_f16_l1 s_f16_l1_b rfl
def s_f16_r15:List AOper:=[
 ⟨some 68,(.bin .add (.t 22) (.c (.s (.int .i64 1)))),none⟩,
 ⟨some 22,(.move (.t 68)),none⟩]
def s_f16_r15_tale:=hT s_f16_r15 [7,8,31,32,33,34,35,68] [22] 69 [] [(22,(.op (.bin .add (.t 0) (.c (.s (.int .i64 1)))) [(.t 22),(.c (.s (.int .i64 1)))]))] [.sub 0 [] [],.sub 0 [] []] (by kernel_rfl) (by kernel_rfl)
def s_f16_l2_b:ACode:=
 (.seq (.regionE s_f16_r4 [] [23])
 (.seq (.cond (.t 23)
 .skip
 (.exit 0))
 (.seq (.block 1
 (.seq (.regionE s_f16_r5 [23,24,25,26] [7,8])
 (.seq (.seq (.regionE s_f16_r6 [27,28,29,30] [31])
 (.cond (.t 31)
 (.exit 1)
 .skip))
 (.seq (.regionE s_f16_r7 [8,31] [32,33,34])
 (.block 2
 (.loop [] s_f16_l1))))))
 (.regionE s_f16_r15 [7,8,31,32,33,34,35,68] [22]))))
def s_f16_l2:ACode:=s_f16_l2_b
def s_f16_l2_ev:=hE s_f16_l2 s_f16_l2_b rfl
def s_f16_r16:List AOper:=[
 ⟨some 69,(.move (.t 6)),none⟩,
 ⟨some 70,(.lenS .s (.t 69)),none⟩,
 ⟨some 71,(.move (.c (.s (.int .i64 0)))),none⟩]
def s_f16_r16_tale:=hT s_f16_r16 [5,20,21,22,23,69] [70,71] 72 [] [(70,(.op (.lenS .s (.t 0)) [(.t 6)])),(71,(.c (.s (.int .i64 0))))] [.tt 6,.sub 0 [] [],.cc (.s (.int .i64 0))] (by kernel_rfl) (by kernel_rfl)
def s_f16_r17:List AOper:=[
 ⟨some 72,(.bin .lss (.t 71) (.t 70)),none⟩]
def s_f16_r17_tale:=hT s_f16_r17 [] [72] 73 [] [(72,(.op (.bin .lss (.t 0) (.t 1)) [(.t 71),(.t 70)]))] [.sub 0 [] []] (by kernel_rfl) (by kernel_rfl)
def s_f16_r18:List AOper:=[
 ⟨some 73,(.move (.t 71)),none⟩,
 ⟨some 12,(.move (.t 73)),none⟩]
def s_f16_r18_tale:=hT s_f16_r18 [72,73] [12] 74 [] [(12,(.t 71))] [.tt 71,.tt 71] (by kernel_rfl) (by kernel_rfl)
def s_f16_r19t1:List AOper:=[⟨some 78,(.call (.c (.fn 29 [] [])) [(.t 77)]),none⟩]
def s_f16_r19p0:List AOper:=[⟨some 74,(.move (.t 6)),none⟩,⟨some 75,(.move (.t 12)),none⟩,⟨some 76,(.indexAddr 1 (.t 74) (.t 75)),none⟩,⟨some 77,(.load false 1 (.t 76)),none⟩]
def s_f16_r19:List AOper:=s_f16_r19p0 ++ s_f16_r19t1
def s_f16_r19p0_tale:=hT s_f16_r19p0 [74,75,76] [77] 78 [] [(77,(.op (.load false 1 (.t 0)) [(.op (.indexAddr 1 (.t 0) (.t 1)) [(.t 6),(.t 12)])]))] [.tt 6,.tt 12,.sub 0 [0] [],.sub 0 [] []] (by kernel_rfl) (by kernel_rfl)
def s_f16_r19_x:=hS s_f16_r19 s_f16_r19p0 s_f16_r19t1 [74,75,76] [77] [74,75,76,77,78] rfl (by kernel_rfl)
def s_f16_r19t1_x:=hX s_f16_r19t1 [74,75,76,77,78] [⟨some 78,(.call (.c (.fn 29 [] [])) [(.t 77)]),none⟩] rfl
def s_f16_r20t3:List AOper:=[⟨none,(.store 1 (.t 86) (.t 85)),none⟩]
def s_f16_r20p2:List AOper:=[⟨some 86,(.indexAddr 1 (.t 79) (.t 80)),none⟩]
def s_f16_r20t2:List AOper:=s_f16_r20p2 ++ s_f16_r20t3
def s_f16_r20p1:List AOper:=[⟨some 85,(.call (.c (.fn 30 [] [])) [(.t 84)]),none⟩]
def s_f16_r20t1:List AOper:=s_f16_r20p1 ++ s_f16_r20t2
def s_f16_r20p0:List AOper:=[⟨some 79,(.move (.t 6)),none⟩,⟨some 80,(.move (.t 12)),none⟩,⟨some 81,(.move (.t 6)),none⟩,⟨some 82,(.move (.t 12)),none⟩,⟨some 83,(.indexAddr 1 (.t 81) (.t 82)),none⟩,⟨some 84,(.load false 1 (.t 83)),none⟩]
def s_f16_r20:List AOper:=s_f16_r20p0 ++ s_f16_r20t1
def s_f16_r20p0_tale:=hT s_f16_r20p0 [12,81,82,83] [79,80,84] 85 [] [(79,(.t 6)),(80,(.t 12)),(84,(.op (.load false 1 (.t 0)) [(.op (.indexAddr 1 (.t 0) (.t 1)) [(.t 6),(.t 12)])]))] [.tt 6,.tt 12,.tt 6,.tt 12,.sub 2 [0] [],.sub 2 [] []] (by kernel_rfl) (by kernel_rfl)
def s_f16_r20_x:=hS s_f16_r20 s_f16_r20p0 s_f16_r20t1 [12,81,82,83] [79,80,84] [12,79,80,81,82,83,84,85,86] rfl (by kernel_rfl)
def s_f16_r20t1_x:=hO s_f16_r20t1 s_f16_r20p1 s_f16_r20t2 [84] [12,79,80,81,82,83,84,85,86] [⟨some 85,(.call (.c (.fn 30 [] [])) [(.t 84)]),none⟩] rfl rfl (by kernel_rfl)
def s_f16_r20p2_tale:=hT s_f16_r20p2 [79,80] [86] 87 [] [(86,(.op (.indexAddr 1 (.t 0) (.t 1)) [(.t 79),(.t 80)]))] [.sub 0 [] []] (by kernel_rfl) (by kernel_rfl)
def s_f16_r20t2_x:=hS s_f16_r20t2 s_f16_r20p2 s_f16_r20t3 [79,80] [86] [12,79,80,81,82,83,84,85,86] rfl (by kernel_rfl)
def s_f16_r20t3_x:=hX s_f16_r20t3 [12,79,80,81,82,83,84,85,86] [⟨none,(.store 1 (.t 86) (.t 85)),none⟩] rfl
def s_f16_r21:List AOper:=[
 ⟨some 87,(.bin .add (.t 71) (.c (.s (.int .i64 1)))),none⟩,
 ⟨some 71,(.move (.t 87)),none⟩]
def s_f16_r21_tale:=hT s_f16_r21 [87] [71] 88 [] [(71,(.op (.bin .add (.t 0) (.c (.s (.int .i64 1)))) [(.t 71),(.c (.s (.int .i64 1)))]))] [.sub 0 [] [],.sub 0 [] []] (by kernel_rfl) (by kernel_rfl)
def s_f16_l3_b:ACode:=
 (.seq (.regionE s_f16_r17 [] [72])
 (.seq (.cond (.t 72)
 .skip
 (.exit 6))
 (.seq (.block 7
 (.seq (.regionE s_f16_r18 [72,73] [12])
 (.seq (.region s_f16_r19 [] [74,75,76,77,78])
 (.region s_f16_r20 [] [12,79,80,81,82,83,84,85,86]))))
 (.regionE s_f16_r21 [87] [71]))))
def s_f16_l3:ACode:=s_f16_l3_b
def s_f16_l3_ev:=hE s_f16_l3 s_f16_l3_b rfl
def s_f16_r22:List AOper:=[
 ⟨some 88,(.move (.t 6)),none⟩,
 ⟨some 4,(.move (.t 88)),none⟩]
def s_f16_r22_tale:=hT s_f16_r22 [6,70,71,72,88] [4] 89 [] [(4,(.t 6))] [.tt 6,.tt 6] (by kernel_rfl) (by kernel_rfl)
def s_f16:ACFun:={ ntmps:=89,results:=[(.tmp 4)],body:=
 (.seq (.regionE s_f16_r0 s_f16_r0_k [])
 (.seq (.region s_f16_r1 [] [1,13,14,15])
 (.seq (.region s_f16_r2 [] [16,17,18])
 (.seq (.seq (.region s_f16_r3 [] [0,19])
 (.block 0
 (.loop [] s_f16_l2)))
 (.seq (.seq (.regionE s_f16_r16 [5,20,21,22,23,69] [70,71])
 (.block 6
 (.loop [] s_f16_l3)))
 (.seq (.regionE s_f16_r22 [6,70,71,72,88] [4])
 .ret)))))) }
abbrev k_f19:Nat:=19
def s_f19_r0_k:List Nat:=[2,3,4,5,6,7,8,9,10,11,12,13,14,15,16,17,18,19,20,21,22,23,24,25,26,27,28,29,30,31,32,33,34,35,36,37,38,39,40,41,42,43,44,45,46,47,48,49,50,51,52,53,54,55,56,57,58,59,60,61,62,63,64,65,66,67,68,69,70,71]
theorem s_f19_r0_kT:killV s_f19_r0_k (startV 72 [] 2)=[]:=by kernel_rfl
theorem s_f19_r0_kA0:s_f19_r0_k.contains 0=false:=by kernel_rfl
theorem s_f19_r0_kA1:s_f19_r0_k.contains 1=false:=by kernel_rfl
def s_f19_r0:List AOper:=[
 ⟨some 4,(.move (.c (.s (.slice none 0 0)))),none⟩]
def s_f19_r0_tale:=hT s_f19_r0 s_f19_r0_k [] 5 [] [] [.cc (.s (.slice none 0 0))] (by kernel_rfl) (by kernel_rfl)
def s_f19_r1t1:List AOper:=[⟨some 5,(.move (.t 12)),none⟩]
def s_f19_r1p0:List AOper:=[⟨some 12,.mapNew,none⟩]
def s_f19_r1:List AOper:=s_f19_r1p0 ++ s_f19_r1t1
def s_f19_r1_x:=hO s_f19_r1 s_f19_r1p0 s_f19_r1t1 [] [12] [⟨some 12,.mapNew,none⟩] rfl rfl (by kernel_rfl)
def s_f19_r1t1_tale:=hT s_f19_r1t1 [12] [5] 6 [] [(5,(.t 12))] [.tt 12] (by kernel_rfl) (by kernel_rfl)
def s_f19_r1t1_x:=hL s_f19_r1t1 [12] [5]
def s_f19_r2t1:List AOper:=[⟨some 6,(.move (.t 13)),none⟩]
def s_f19_r2p0:List AOper:=[⟨some 13,.mapNew,none⟩]
def s_f19_r2:List AOper:=s_f19_r2p0 ++ s_f19_r2t1
def s_f19_r2_x:=hO s_f19_r2 s_f19_r2p0 s_f19_r2t1 [] [13] [⟨some 13,.mapNew,none⟩] rfl rfl (by kernel_rfl)
def s_f19_r2t1_tale:=hT s_f19_r2t1 [13] [6] 7 [] [(6,(.t 13))] [.tt 13] (by kernel_rfl) (by kernel_rfl)
def s_f19_r2t1_x:=hL s_f19_r2t1 [13] [6]
def s_f19_r3:List AOper:=[
 ⟨some 14,(.move (.t 1)),none⟩,
 ⟨some 15,(.lenS .s (.t 14)),none⟩,
 ⟨some 16,(.move (.c (.s (.int .i64 0)))),none⟩]
def s_f19_r3_tale:=hT s_f19_r3 [1] [14,15,16] 17 [] [(14,(.t 1)),(15,(.op (.lenS .s (.t 0)) [(.t 1)])),(16,(.c (.s (.int .i64 0))))] [.tt 1,.sub 1 [] [],.cc (.s (.int .i64 0))] (by kernel_rfl) (by kernel_rfl)
def s_f19_r4:List AOper:=[
 ⟨some 17,(.bin .lss (.t 16) (.t 15)),none⟩]
def s_f19_r4_tale:=hT s_f19_r4 [] [17] 18 [] [(17,(.op (.bin .lss (.t 0) (.t 1)) [(.t 16),(.t 15)]))] [.sub 0 [] []] (by kernel_rfl) (by kernel_rfl)
def s_f19_r5:List AOper:=[
 ⟨some 18,(.indexAddr 1 (.t 14) (.t 16)),none⟩,
 ⟨some 19,(.load false 1 (.t 18)),none⟩,
 ⟨some 8,(.move (.t 19)),none⟩]
def s_f19_r5_tale:=hT s_f19_r5 [17,18,19] [8] 20 [] [(8,(.op (.load false 1 (.t 0)) [(.op (.indexAddr 1 (.t 0) (.t 1)) [(.t 14),(.t 16)])]))] [.sub 0 [0] [],.sub 0 [] [],.sub 0 [] []] (by kernel_rfl) (by kernel_rfl)
def s_f19_r6:List AOper:=[
 ⟨some 20,(.move (.t 8)),none⟩,
 ⟨some 21,(.bin .geq (.t 20) (.c (.s (.int .i64 0)))),none⟩,
 ⟨some 22,(.move (.t 21)),none⟩,
 ⟨some 23,(.move (.t 8)),some (22,true)⟩,
 ⟨some 24,(.move (.t 0)),some (22,true)⟩,
 ⟨some 25,(.lenS .s (.t 24)),some (22,true)⟩,
 ⟨some 26,(.bin .lss (.t 23) (.t 25)),some (22,true)⟩,
 ⟨some 27,(.pick (.t 22) (.t 26) (.c (.s (.bool false)))),none⟩]
def s_f19_r6_tale:=hT s_f19_r6 [20,21,22,23,24,25,26] [27] 28 [] [(27,(.pick (.op (.bin .geq (.t 0) (.c (.s (.int .i64 0)))) [(.t 8),(.c (.s (.int .i64 0)))]) (.op (.bin .lss (.t 0) (.t 1)) [(.t 8),(.op (.lenS .s (.t 0)) [(.t 0)])]) (.c (.s (.bool false)))))] [.tt 8,.sub 0 [0] [],.sub 0 [0] [],.sub 0 [1,0] [22],.sub 0 [1,1,0] [22],.sub 0 [1,1] [22],.sub 0 [1] [22],.sub 0 [] []] (by kernel_rfl) (by kernel_rfl)
def s_f19_r7t1:List AOper:=[⟨none,(.mapUpd (.int .i64) (.t 28) (.t 29) (.c (.s (.bool true)))),none⟩]
def s_f19_r7p0:List AOper:=[⟨some 28,(.move (.t 6)),none⟩,⟨some 29,(.move (.t 8)),none⟩]
def s_f19_r7:List AOper:=s_f19_r7p0 ++ s_f19_r7t1
def s_f19_r7p0_tale:=hT s_f19_r7p0 [8,27] [28,29] 30 [] [(28,(.t 6)),(29,(.t 8))] [.tt 6,.tt 8] (by kernel_rfl) (by kernel_rfl)
def s_f19_r7_x:=hS s_f19_r7 s_f19_r7p0 s_f19_r7t1 [8,27] [28,29] [8,27,28,29] rfl (by kernel_rfl)
def s_f19_r7t1_x:=hX s_f19_r7t1 [8,27,28,29] [⟨none,(.mapUpd (.int .i64) (.t 28) (.t 29) (.c (.s (.bool true)))),none⟩] rfl
def s_f19_r8:List AOper:=[
 ⟨some 30,(.bin .add (.t 16) (.c (.s (.int .i64 1)))),none⟩,
 ⟨some 16,(.move (.t 30)),none⟩]
def s_f19_r8_tale:=hT s_f19_r8 [8,27,30] [16] 31 [] [(16,(.op (.bin .add (.t 0) (.c (.s (.int .i64 1)))) [(.t 16),(.c (.s (.int .i64 1)))]))] [.sub 0 [] [],.sub 0 [] []] (by kernel_rfl) (by kernel_rfl)
def s_f19_l0_b:ACode:=
 (.seq (.regionE s_f19_r4 [] [17])
 (.seq (.cond (.t 17)
 .skip
 (.exit 0))
 (.seq (.block 1
 (.seq (.regionE s_f19_r5 [17,18,19] [8])
 (.seq (.regionE s_f19_r6 [20,21,22,23,24,25,26] [27])
 (.cond (.t 27)
 (.region s_f19_r7 [] [8,27,28,29])
 .skip))))
 (.regionE s_f19_r8 [8,27,30] [16]))))
def s_f19_l0:ACode:=s_f19_l0_b
def s_f19_l0_ev:=hE s_f19_l0 s_f19_l0_b rfl
def s_f19_r9:List AOper:=[
 ⟨some 31,(.move (.t 6)),none⟩,
 ⟨some 32,(.lenS .m (.t 31)),none⟩,
 ⟨some 33,(.bin .gtr (.t 32) (.c (.s (.int .i64 0)))),none⟩]
def s_f19_r9_tale:=hT s_f19_r9 [31,32] [33] 34 [] [(33,(.op (.bin .gtr (.t 0) (.c (.s (.int .i64 0)))) [(.op (.lenS .m (.t 0)) [(.t 6)]),(.c (.s (.int .i64 0)))]))] [.tt 6,.sub 0 [0] [],.sub 0 [] []] (by kernel_rfl) (by kernel_rfl)
def s_f19_r10t3:List AOper:=[⟨some 37,(.indexAddr 1 (.t 36) (.c (.s (.int .i64 0)))),none⟩,⟨some 38,(.load false 1 (.t 37)),none⟩,⟨some 9,(.move (.t 38)),none⟩]
def s_f19_r10p2:List AOper:=[⟨some 36,(.call (.c (.fn 36 [] [])) [(.t 35)]),none⟩]
def s_f19_r10t2:List AOper:=s_f19_r10p2 ++ s_f19_r10t3
def s_f19_r10p1:List AOper:=[⟨some 35,(.call (.c (.fn 37 [] [])) [(.t 34)]),none⟩]
def s_f19_r10t1:List AOper:=s_f19_r10p1 ++ s_f19_r10t2
def s_f19_r10p0:List AOper:=[⟨some 34,(.move (.t 6)),none⟩]
def s_f19_r10:List AOper:=s_f19_r10p0 ++ s_f19_r10t1
def s_f19_r10p0_tale:=hT s_f19_r10p0 [33] [34] 35 [] [(34,(.t 6))] [.tt 6] (by kernel_rfl) (by kernel_rfl)
def s_f19_r10_x:=hS s_f19_r10 s_f19_r10p0 s_f19_r10t1 [33] [34] [33,34,35,36,37,38] rfl (by kernel_rfl)
def s_f19_r10t1_x:=hO s_f19_r10t1 s_f19_r10p1 s_f19_r10t2 [34] [33,34,35,36,37,38] [⟨some 35,(.call (.c (.fn 37 [] [])) [(.t 34)]),none⟩] rfl rfl (by kernel_rfl)
def s_f19_r10t2_x:=hO s_f19_r10t2 s_f19_r10p2 s_f19_r10t3 [35] [33,34,35,36,37,38] [⟨some 36,(.call (.c (.fn 36 [] [])) [(.t 35)]),none⟩] rfl rfl (by kernel_rfl)
def s_f19_r10t3_tale:=hT s_f19_r10t3 [33,34,35,36,37,38] [9] 39 [] [(9,(.op (.load false 1 (.t 0)) [(.op (.indexAddr 1 (.t 0) (.c (.s (.int .i64 0)))) [(.t 36),(.c (.s (.int .i64 0)))])]))] [.sub 0 [0] [],.sub 0 [] [],.sub 0 [] []] (by kernel_rfl) (by kernel_rfl)
def s_f19_r10t3_x:=hL s_f19_r10t3 [33,34,35,36,37,38] [9]
def s_f19_r11t1:List AOper:=[⟨none,(.delete (.int .i64) (.t 39) (.t 40)),none⟩]
def s_f19_r11p0:List AOper:=[⟨some 39,(.move (.t 6)),none⟩,⟨some 40,(.move (.t 9)),none⟩]
def s_f19_r11:List AOper:=s_f19_r11p0 ++ s_f19_r11t1
def s_f19_r11p0_tale:=hT s_f19_r11p0 [] [39,40] 41 [] [(39,(.t 6)),(40,(.t 9))] [.tt 6,.tt 9] (by kernel_rfl) (by kernel_rfl)
def s_f19_r11_x:=hS s_f19_r11 s_f19_r11p0 s_f19_r11t1 [] [39,40] [39,40] rfl (by kernel_rfl)
def s_f19_r11t1_x:=hX s_f19_r11t1 [39,40] [⟨none,(.delete (.int .i64) (.t 39) (.t 40)),none⟩] rfl
def s_f19_r12:List AOper:=[
 ⟨some 41,(.move (.t 0)),none⟩,
 ⟨some 42,(.move (.t 9)),none⟩,
 ⟨some 43,(.indexAddr 1 (.t 41) (.t 42)),none⟩,
 ⟨some 44,(.load false 1 (.t 43)),none⟩,
 ⟨some 45,(.lenS .s (.t 44)),none⟩,
 ⟨some 46,(.move (.c (.s (.int .i64 0)))),none⟩]
def s_f19_r12_tale:=hT s_f19_r12 [9,41,42,43] [44,45,46] 47 [] [(44,(.op (.load false 1 (.t 0)) [(.op (.indexAddr 1 (.t 0) (.t 1)) [(.t 0),(.t 9)])])),(45,(.op (.lenS .s (.t 0)) [(.op (.load false 1 (.t 0)) [(.op (.indexAddr 1 (.t 0) (.t 1)) [(.t 0),(.t 9)])])])),(46,(.c (.s (.int .i64 0))))] [.tt 0,.tt 9,.sub 0 [0] [],.sub 0 [] [],.sub 1 [] [],.cc (.s (.int .i64 0))] (by kernel_rfl) (by kernel_rfl)
def s_f19_r13:List AOper:=[
 ⟨some 47,(.bin .lss (.t 46) (.t 45)),none⟩]
def s_f19_r13_tale:=hT s_f19_r13 [] [47] 48 [] [(47,(.op (.bin .lss (.t 0) (.t 1)) [(.t 46),(.t 45)]))] [.sub 0 [] []] (by kernel_rfl) (by kernel_rfl)
def s_f19_r14:List AOper:=[
 ⟨some 48,(.indexAddr 1 (.t 44) (.t 46)),none⟩,
 ⟨some 49,(.load false 1 (.t 48)),none⟩,
 ⟨some 11,(.move (.t 49)),none⟩]
def s_f19_r14_tale:=hT s_f19_r14 [47,48,49] [11] 50 [] [(11,(.op (.load false 1 (.t 0)) [(.op (.indexAddr 1 (.t 0) (.t 1)) [(.t 44),(.t 46)])]))] [.sub 0 [0] [],.sub 0 [] [],.sub 0 [] []] (by kernel_rfl) (by kernel_rfl)
def s_f19_r15:List AOper:=[
 ⟨some 50,(.move (.t 11)),none⟩,
 ⟨some 51,(.bin .geq (.t 50) (.c (.s (.int .i64 0)))),none⟩,
 ⟨some 52,(.move (.t 51)),none⟩,
 ⟨some 53,(.move (.t 11)),some (52,true)⟩,
 ⟨some 54,(.move (.t 0)),some (52,true)⟩,
 ⟨some 55,(.lenS .s (.t 54)),some (52,true)⟩,
 ⟨some 56,(.bin .lss (.t 53) (.t 55)),some (52,true)⟩,
 ⟨some 57,(.pick (.t 52) (.t 56) (.c (.s (.bool false)))),none⟩,
 ⟨some 58,(.move (.t 57)),none⟩,
 ⟨some 59,(.move (.t 5)),some (58,true)⟩,
 ⟨some 60,(.move (.t 11)),some (58,true)⟩,
 ⟨some 61,(.mapGet (.int .i64) (.s (.bool false)) (.t 59) (.t 60) false),some (58,true)⟩,
 ⟨some 62,(.un .not (.t 61)),some (58,true)⟩,
 ⟨some 63,(.pick (.t 58) (.t 62) (.c (.s (.bool false)))),none⟩]
def s_f19_r15_tale:=hT s_f19_r15 [50,51,52,53,54,55,56,57,58,59,60,61,62] [63] 64 [] [(63,(.pick (.pick (.op (.bin .geq (.t 0) (.c (.s (.int .i64 0)))) [(.t 11),(.c (.s (.int .i64 0)))]) (.op (.bin .lss (.t 0) (.t 1)) [(.t 11),(.op (.lenS .s (.t 0)) [(.t 0)])]) (.c (.s (.bool false)))) (.op (.un .not (.t 0)) [(.op (.mapGet (.int .i64) (.s (.bool false)) (.t 0) (.t 1) false) [(.t 5),(.t 11)])]) (.c (.s (.bool false)))))] [.tt 11,.sub 0 [0,0] [],.sub 0 [0,0] [],.sub 0 [0,1,0] [52],.sub 0 [0,1,1,0] [52],.sub 0 [0,1,1] [52],.sub 0 [0,1] [52],.sub 0 [0] [],.sub 0 [0] [],.sub 0 [1,0,0] [58],.sub 0 [1,0,1] [58],.sub 0 [1,0] [58],.sub 0 [1] [58],.sub 0 [] []] (by kernel_rfl) (by kernel_rfl)
def s_f19_r16t2:List AOper:=[⟨none,(.mapUpd (.int .i64) (.t 66) (.t 67) (.c (.s (.bool true)))),none⟩]
def s_f19_r16p1:List AOper:=[⟨none,(.mapUpd (.int .i64) (.t 64) (.t 65) (.c (.s (.bool true)))),none⟩]
def s_f19_r16t1:List AOper:=s_f19_r16p1 ++ s_f19_r16t2
def s_f19_r16p0:List AOper:=[⟨some 64,(.move (.t 5)),none⟩,⟨some 65,(.move (.t 11)),none⟩,⟨some 66,(.move (.t 6)),none⟩,⟨some 67,(.move (.t 11)),none⟩]
def s_f19_r16:List AOper:=s_f19_r16p0 ++ s_f19_r16t1
def s_f19_r16p0_tale:=hT s_f19_r16p0 [11,63] [64,65,66,67] 68 [] [(64,(.t 5)),(65,(.t 11)),(66,(.t 6)),(67,(.t 11))] [.tt 5,.tt 11,.tt 6,.tt 11] (by kernel_rfl) (by kernel_rfl)
def s_f19_r16_x:=hS s_f19_r16 s_f19_r16p0 s_f19_r16t1 [11,63] [64,65,66,67] [11,63,64,65,66,67] rfl (by kernel_rfl)
def s_f19_r16t1_x:=hO s_f19_r16t1 s_f19_r16p1 s_f19_r16t2 [64,65] [11,63,64,65,66,67] [⟨none,(.mapUpd (.int .i64) (.t 64) (.t 65) (.c (.s (.bool true)))),none⟩] rfl rfl (by kernel_rfl)
def s_f19_r16t2_x:=hX s_f19_r16t2 [11,63,64,65,66,67] [⟨none,(.mapUpd (.int .i64) (.t 66) (.t 67) (.c (.s (.bool true)))),none⟩] rfl
def s_f19_r17:List AOper:=[
 ⟨some 68,(.bin .add (.t 46) (.c (.s (.int .i64 1)))),none⟩,
 ⟨some 46,(.move (.t 68)),none⟩]
def s_f19_r17_tale:=hT s_f19_r17 [11,63,68] [46] 69 [] [(46,(.op (.bin .add (.t 0) (.c (.s (.int .i64 1)))) [(.t 46),(.c (.s (.int .i64 1)))]))] [.sub 0 [] [],.sub 0 [] []] (by kernel_rfl) (by kernel_rfl)
def s_f19_l1_b:ACode:=
 (.seq (.regionE s_f19_r13 [] [47])
 (.seq (.cond (.t 47)
 .skip
 (.exit 4))
 (.seq (.block 5
 (.seq (.regionE s_f19_r14 [47,48,49] [11])
 (.seq (.regionE s_f19_r15 [50,51,52,53,54,55,56,57,58,59,60,61,62] [63])
 (.cond (.t 63)
 (.region s_f19_r16 [] [11,63,64,65,66,67])
 .skip))))
 (.regionE s_f19_r17 [11,63,68] [46]))))
def s_f19_l1:ACode:=s_f19_l1_b
def s_f19_l1_ev:=hE s_f19_l1 s_f19_l1_b rfl
def s_f19_l2_b:ACode:=
 (.seq (.seq (.regionE s_f19_r9 [31,32] [33])
 (.cond (.t 33)
 .skip
 (.exit 2)))
 (.block 3
 (.seq (.region s_f19_r10 [] [33,34,35,36,37,38])
 (.seq (.region s_f19_r11 [] [39,40])
 (.seq (.regionE s_f19_r12 [9,41,42,43] [44,45,46])
 (.block 4
 (.loop [] s_f19_l1)))))))
def s_f19_l2:ACode:=s_f19_l2_b
def s_f19_l2_ev:=hE s_f19_l2 s_f19_l2_b rfl
def s_f19_r18t3:List AOper:=[⟨some 4,(.move (.t 71)),none⟩]
def s_f19_r18p2:List AOper:=[⟨some 71,(.call (.c (.fn 36 [] [])) [(.t 70)]),none⟩]
def s_f19_r18t2:List AOper:=s_f19_r18p2 ++ s_f19_r18t3
def s_f19_r18p1:List AOper:=[⟨some 70,(.call (.c (.fn 37 [] [])) [(.t 69)]),none⟩]
def s_f19_r18t1:List AOper:=s_f19_r18p1 ++ s_f19_r18t2
def s_f19_r18p0:List AOper:=[⟨some 69,(.move (.t 5)),none⟩]
def s_f19_r18:List AOper:=s_f19_r18p0 ++ s_f19_r18t1
def s_f19_r18p0_tale:=hT s_f19_r18p0 [0,5,6,33] [69] 70 [] [(69,(.t 5))] [.tt 5] (by kernel_rfl) (by kernel_rfl)
def s_f19_r18_x:=hS s_f19_r18 s_f19_r18p0 s_f19_r18t1 [0,5,6,33] [69] [0,5,6,33,69,70,71] rfl (by kernel_rfl)
def s_f19_r18t1_x:=hO s_f19_r18t1 s_f19_r18p1 s_f19_r18t2 [69] [0,5,6,33,69,70,71] [⟨some 70,(.call (.c (.fn 37 [] [])) [(.t 69)]),none⟩] rfl rfl (by kernel_rfl)
def s_f19_r18t2_x:=hO s_f19_r18t2 s_f19_r18p2 s_f19_r18t3 [70] [0,5,6,33,69,70,71] [⟨some 71,(.call (.c (.fn 36 [] [])) [(.t 70)]),none⟩] rfl rfl (by kernel_rfl)
def s_f19_r18t3_tale:=hT s_f19_r18t3 [0,5,6,33,69,70,71] [4] 5 [] [(4,(.t 71))] [.tt 71] (by kernel_rfl) (by kernel_rfl)
def s_f19_r18t3_x:=hL s_f19_r18t3 [0,5,6,33,69,70,71] [4]
def s_f19:ACFun:={ ntmps:=72,results:=[(.tmp 4)],body:=
 (.seq (.regionE s_f19_r0 s_f19_r0_k [])
 (.seq (.region s_f19_r1 [] [12])
 (.seq (.region s_f19_r2 [] [13])
 (.seq (.seq (.regionE s_f19_r3 [1] [14,15,16])
 (.block 0
 (.loop [] s_f19_l0)))
 (.seq (.block 2
 (.loop [14,15,16,17,44,45,46,47] s_f19_l2))
 (.seq (.region s_f19_r18 [] [0,5,6,33,69,70,71])
 .ret)))))) }
abbrev k_f37:Nat:=37
def s_f37_r0_k:List Nat:=[0,2,3]
theorem s_f37_r0_k_kA0:s_f37_r0_k.contains 0=true:=by kernel_rfl
theorem s_f37_r0_k_kA1:s_f37_r0_k.contains 1=false:=by kernel_rfl
theorem s_f37_r0_k_kA2:s_f37_r0_k.contains 2=true:=by kernel_rfl
def s_f37_r0t1:List AOper:=[⟨some 2,(.move (.c (.s .nilFunc))),none⟩]
def s_f37_r0p0:List AOper:=[⟨some 1,(.box (.t 0)),none⟩]
def s_f37_r0:List AOper:=s_f37_r0p0 ++ s_f37_r0t1
def s_f37_r0_x:=hO s_f37_r0 s_f37_r0p0 s_f37_r0t1 [0,2,3] s_f37_r0_k [⟨some 1,(.box (.t 0)),none⟩] rfl rfl (by kernel_rfl)
def s_f37_r0t1_tale:=hT s_f37_r0t1 s_f37_r0_k [] 3 [] [] [.cc (.s .nilFunc)] (by kernel_rfl) (by kernel_rfl)
def s_f37_r0t1_x:=hL s_f37_r0t1 s_f37_r0_k []
def s_f37_r1:List AOper:=[
 ⟨some 3,(.mkFn 49 [] [(.t 1)]),none⟩,
 ⟨some 2,(.move (.t 3)),none⟩]
def s_f37_r1_tale:=hT s_f37_r1 [1,3] [2] 4 [] [(2,(.op (.mkFn 49 [] [(.t 0)]) [(.t 1)]))] [.sub 0 [] [],.sub 0 [] []] (by kernel_rfl) (by kernel_rfl)
def s_f37:ACFun:={ ntmps:=4,results:=[(.tmp 2)],body:=
 (.seq (.region s_f37_r0 [] s_f37_r0_k)
 (.seq (.regionE s_f37_r1 [1,3] [2])
 .ret)) }
abbrev k_f36:Nat:=36
abbrev k_f49:Nat:=49
def a_f16:=ai @s_f16_r0_tale (ai @s_f16_r0_kT (ai @s_f16_r0_kA0 (ai @s_f16_r0_kA1 (ai @s_f16_r1p0_tale (ai @s_f16_r1_x (ai @s_f16_r1t1_x (ai @s_f16_r1t2_tale (ai @s_f16_r1t2_x (ai @s_f16_r2p0_tale (ai @s_f16_r2_x (ai @s_f16_r2t1_x (ai @s_f16_r2t2_tale (ai @s_f16_r2t2_x (ai @s_f16_r3p0_tale (ai @s_f16_r3_x (ai @s_f16_r3t1_x (ai @s_f16_r3t2_tale (ai @s_f16_r3t2_x (ai @s_f16_r4_tale (ai @s_f16_r5_tale (ai @s_f16_r6_tale (ai @s_f16_r7_tale (ai @s_f16_r8_tale (ai @s_f16_r9_tale (ai @s_f16_r10_tale (ai @s_f16_r11p0_tale (ai @s_f16_r11_x (ai @s_f16_r11t1_x (ai @s_f16_r11t2_x (ai @s_f16_r11t3_x (ai @s_f16_r11t4_x (ai @s_f16_r11t5_x (ai @s_f16_r11t6_x (ai @s_f16_r11t7_x (ai @s_f16_r11t8_x (ai @s_f16_r11t9_tale (ai @s_f16_r11t9_x (ai @s_f16_r12p0_tale (ai @s_f16_r12_x (ai @s_f16_r12t1_x (ai @s_f16_r12t2_x (ai @s_f16_r12p3_tale (ai @s_f16_r12t3_x (ai @s_f16_r12t4_x (ai @s_f16_r13_tale (ai @s_f16_l0_ev (ai @s_f16_r14_tale (ai @s_f16_l1_ev (ai @s_f16_r15_tale (ai @s_f16_l2_ev (ai @s_f16_r16_tale (ai @s_f16_r17_tale (ai @s_f16_r18_tale (ai @s_f16_r19p0_tale (ai @s_f16_r19_x (ai @s_f16_r19t1_x (ai @s_f16_r20p0_tale (ai @s_f16_r20_x (ai @s_f16_r20t1_x (ai @s_f16_r20p2_tale (ai @s_f16_r20t2_x (ai @s_f16_r20t3_x (ai @s_f16_r21_tale (ai @s_f16_l3_ev (@s_f16_r22_tale)))))))))))))))))))))))))))))))))))))))))))))))))))))))))))))))))
def a_f19:=ai @s_f19_r0_tale (ai @s_f19_r0_kT (ai @s_f19_r0_kA0 (ai @s_f19_r0_kA1 (ai @s_f19_r1_x (ai @s_f19_r1t1_tale (ai @s_f19_r1t1_x (ai @s_f19_r2_x (ai @s_f19_r2t1_tale (ai @s_f19_r2t1_x (ai @s_f19_r3_tale (ai @s_f19_r4_tale (ai @s_f19_r5_tale (ai @s_f19_r6_tale (ai @s_f19_r7p0_tale (ai @s_f19_r7_x (ai @s_f19_r7t1_x (ai @s_f19_r8_tale (ai @s_f19_l0_ev (ai @s_f19_r9_tale (ai @s_f19_r10p0_tale (ai @s_f19_r10_x (ai @s_f19_r10t1_x (ai @s_f19_r10t2_x (ai @s_f19_r10t3_tale (ai @s_f19_r10t3_x (ai @s_f19_r11p0_tale (ai @s_f19_r11_x (ai @s_f19_r11t1_x (ai @s_f19_r12_tale (ai @s_f19_r13_tale (ai @s_f19_r14_tale (ai @s_f19_r15_tale (ai @s_f19_r16p0_tale (ai @s_f19_r16_x (ai @s_f19_r16t1_x (ai @s_f19_r16t2_x (ai @s_f19_r17_tale (ai @s_f19_l1_ev (ai @s_f19_l2_ev (ai @s_f19_r18p0_tale (ai @s_f19_r18_x (ai @s_f19_r18t1_x (ai @s_f19_r18t2_x (ai @s_f19_r18t3_tale (@s_f19_r18t3_x)))))))))))))))))))))))))))))))))))))))))))))
def a_f37:=ai @s_f37_r0_x (ai @s_f37_r0t1_tale (ai @s_f37_r0t1_x (ai @s_f37_r0_k_kA0 (ai @s_f37_r0_k_kA1 (ai @s_f37_r0_k_kA2 (@s_f37_r1_tale))))))
theorem DA4_16:compK Try.prog PX0 16=some (false,s_f16.ntmps,s_f16.results,s_f16.body.bare):=by kernel_rfl
theorem DA4_19:compK Try.prog PX0 19=some (false,s_f19.ntmps,s_f19.results,s_f19.body.bare):=by kernel_rfl
theorem DA4_37:compK Try.prog PX0 37=some (false,s_f37.ntmps,s_f37.results,s_f37.body.bare):=by kernel_rfl
end Go.Proofs.Ytdmnenlpdeolaaa
set_option maxRecDepth 100000
namespace Go.Proofs.Ytdmnenlpdeolaaa
open Go.AM
def c_f9:ACFun:={ ntmps:=34,results:=[(.tmp 0)],body:=
 (.seq (.region [
  ⟨some 0,(.move (.c (.s (.bool false)))),none⟩] [] [])
 (.seq (.region [
  ⟨some 3,(.call (.c (.fn 23 [] [])) []),none⟩,
  ⟨some 4,(.call (.c (.fn 10 [] [])) [(.t 3),(.c (.s (.int .i64 0)))]),none⟩,
  ⟨some 1,(.move (.t 4)),none⟩] [] [])
 (.seq (.region [
  ⟨some 5,(.call (.c (.fn 23 [] [])) []),none⟩,
  ⟨some 6,(.call (.c (.fn 16 [] [])) [(.t 5),(.c (.s (.int .i64 0)))]),none⟩,
  ⟨some 2,(.move (.t 6)),none⟩] [] [])
 (.seq (.region [
  ⟨some 7,(.move (.t 1)),none⟩,
  ⟨some 8,(.buildSl 1 4 [(.s (.int .i64 0)),(.s (.int .i64 0)),(.s (.int .i64 0)),(.s (.int .i64 0))] [(0,(.c (.s (.int .i64 (-1))))),(1,(.c (.s (.int .i64 0)))),(2,(.c (.s (.int .i64 0)))),(3,(.c (.s (.int .i64 0))))]),none⟩,
  ⟨some 9,(.call (.c (.fn 11 [] [])) [(.t 7),(.t 8)]),none⟩,
  ⟨some 10,(.move (.t 9)),none⟩,
  ⟨some 11,(.move (.t 1)),some (10,true)⟩,
  ⟨some 12,(.call (.c (.fn 13 [] [])) [(.t 11),(.c (.s (.int .i64 0))),(.c (.s (.int .i64 3)))]),some (10,true)⟩,
  ⟨some 13,(.pick (.t 10) (.t 12) (.c (.s (.bool false)))),none⟩,
  ⟨some 14,(.move (.t 13)),none⟩,
  ⟨some 15,(.move (.t 1)),some (14,true)⟩,
  ⟨some 16,(.call (.c (.fn 13 [] [])) [(.t 15),(.c (.s (.int .i64 1))),(.c (.s (.int .i64 3)))]),some (14,true)⟩,
  ⟨some 17,(.un .not (.t 16)),some (14,true)⟩,
  ⟨some 18,(.pick (.t 14) (.t 17) (.c (.s (.bool false)))),none⟩,
  ⟨some 19,(.move (.t 18)),none⟩,
  ⟨some 20,(.move (.t 2)),some (19,true)⟩,
  ⟨some 21,(.buildSl 1 1 [(.s (.int .i64 0))] [(0,(.c (.s (.int .i64 3))))]),some (19,true)⟩,
  ⟨some 22,(.buildSl 1 1 [(.s (.int .i64 0))] [(0,(.c (.s (.int .i64 3))))]),some (19,true)⟩,
  ⟨some 23,(.buildSl 1 1 [(.s (.int .i64 0))] [(0,(.c (.s (.int .i64 1))))]),some (19,true)⟩,
  ⟨some 24,(.buildSl 1 4 [(.s (.slice none 0 0)),(.s (.slice none 0 0)),(.s (.slice none 0 0)),(.s (.slice none 0 0))] [(0,(.c (.s (.slice none 0 0)))),(1,(.t 21)),(2,(.t 22)),(3,(.t 23))]),some (19,true)⟩,
  ⟨some 25,(.call (.c (.fn 15 [] [])) [(.t 20),(.t 24)]),some (19,true)⟩,
  ⟨some 26,(.pick (.t 19) (.t 25) (.c (.s (.bool false)))),none⟩,
  ⟨some 27,(.move (.t 26)),none⟩,
  ⟨some 28,(.move (.t 2)),some (27,true)⟩,
  ⟨some 29,(.buildSl 1 1 [(.s (.int .i64 0))] [(0,(.c (.s (.int .i64 2))))]),some (27,true)⟩,
  ⟨some 30,(.call (.c (.fn 19 [] [])) [(.t 28),(.t 29)]),some (27,true)⟩,
  ⟨some 31,(.buildSl 1 2 [(.s (.int .i64 0)),(.s (.int .i64 0))] [(0,(.c (.s (.int .i64 1)))),(1,(.c (.s (.int .i64 3))))]),some (27,true)⟩,
  ⟨some 32,(.call (.c (.fn 11 [] [])) [(.t 30),(.t 31)]),some (27,true)⟩,
  ⟨some 33,(.pick (.t 27) (.t 32) (.c (.s (.bool false)))),none⟩,
  ⟨some 0,(.move (.t 33)),none⟩] [] [])
 .ret)))) }
def c_f23:ACFun:={ ntmps:=6,results:=[(.tmp 0)],body:=
 (.seq (.region [
  ⟨some 0,(.move (.c (.s (.slice none 0 0)))),none⟩] [] [])
 (.seq (.region [
  ⟨some 1,(.buildSl 1 2 [(.s (.int .i64 0)),(.s (.int .i64 0))] [(0,(.c (.s (.int .i64 1)))),(1,(.c (.s (.int .i64 2))))]),none⟩,
  ⟨some 2,(.buildSl 1 1 [(.s (.int .i64 0))] [(0,(.c (.s (.int .i64 3))))]),none⟩,
  ⟨some 3,(.buildSl 1 1 [(.s (.int .i64 0))] [(0,(.c (.s (.int .i64 3))))]),none⟩,
  ⟨some 4,(.buildSl 1 1 [(.s (.int .i64 0))] [(0,(.c (.s (.int .i64 1))))]),none⟩,
  ⟨some 5,(.buildSl 1 4 [(.s (.slice none 0 0)),(.s (.slice none 0 0)),(.s (.slice none 0 0)),(.s (.slice none 0 0))] [(0,(.t 1)),(1,(.t 2)),(2,(.t 3)),(3,(.t 4))]),none⟩,
  ⟨some 0,(.move (.t 5)),none⟩] [] [])
 .ret)) }
def c_f29:ACFun:={ ntmps:=11,results:=[],body:=
 (.seq (.region [
  ⟨some 3,(.move (.t 0)),none⟩,
  ⟨some 4,(.lenS .s (.t 3)),none⟩,
  ⟨some 2,(.move (.t 4)),none⟩] [] [])
 (.region [
  ⟨some 5,(.move (.t 0)),none⟩,
  ⟨some 6,(.move (.t 2)),none⟩,
  ⟨some 7,(.move (.t 2)),none⟩,
  ⟨some 8,(.conv .u64 (.t 7)),none⟩,
  ⟨some 9,(.call (.c (.fn 46 [] [])) [(.t 8)]),none⟩,
  ⟨some 10,(.call (.c (.fn 45 [] [])) [(.t 5),(.c (.s (.int .i64 0))),(.t 6),(.t 9)]),none⟩] [] [])) }
def c_f45_l0:ACode:=
 (.block 1
  (.seq (.region [
   ⟨some 19,(.move (.t 2)),none⟩,
   ⟨some 20,(.move (.t 1)),none⟩,
   ⟨some 21,(.bin .sub (.t 19) (.t 20)),none⟩,
   ⟨some 10,(.move (.t 21)),none⟩] [] [])
  (.seq (.seq (.region [
   ⟨some 22,(.move (.t 10)),none⟩,
   ⟨some 23,(.bin .leq (.t 22) (.c (.s (.int .i64 12)))),none⟩] [] [])
  (.cond (.t 23)
   (.seq (.region [
    ⟨some 24,(.move (.t 0)),none⟩,
    ⟨some 25,(.move (.t 1)),none⟩,
    ⟨some 26,(.move (.t 2)),none⟩,
    ⟨some 27,(.call (.c (.fn 52 [] [])) [(.t 24),(.t 25),(.t 26)]),none⟩] [] [])
   .ret)
   .skip))
  (.seq (.seq (.region [
   ⟨some 28,(.move (.t 3)),none⟩,
   ⟨some 29,(.bin .eql (.t 28) (.c (.s (.int .i64 0)))),none⟩] [] [])
  (.cond (.t 29)
   (.seq (.region [
    ⟨some 30,(.move (.t 0)),none⟩,
    ⟨some 31,(.move (.t 1)),none⟩,
    ⟨some 32,(.move (.t 2)),none⟩,
    ⟨some 33,(.call (.c (.fn 53 [] [])) [(.t 30),(.t 31),(.t 32)]),none⟩] [] [])
   .ret)
   .skip))
  (.seq (.seq (.region [
   ⟨some 34,(.move (.t 8)),none⟩,
   ⟨some 35,(.un .not (.t 34)),none⟩] [] [])
  (.cond (.t 35)
   (.seq (.region [
    ⟨some 36,(.move (.t 0)),none⟩,
    ⟨some 37,(.move (.t 1)),none⟩,
    ⟨some 38,(.move (.t 2)),none⟩,
    ⟨some 39,(.call (.c (.fn 54 [] [])) [(.t 36),(.t 37),(.t 38)]),none⟩] [] [])
   (.region [
    ⟨some 40,(.move (.t 3)),none⟩,
    ⟨some 41,(.bin .sub (.t 40) (.c (.s (.int .i64 1)))),none⟩,
    ⟨some 3,(.move (.t 41)),none⟩] [] []))
   .skip))
  (.seq (.region [
   ⟨some 43,(.move (.t 0)),none⟩,
   ⟨some 44,(.move (.t 1)),none⟩,
   ⟨some 45,(.move (.t 2)),none⟩,
   ⟨some 46,(.call (.c (.fn 55 [] [])) [(.t 43),(.t 44),(.t 45)]),none⟩,
   ⟨some 42,(.move (.t 46)),none⟩,
   ⟨some 47,(.extract (.t 42) 0),none⟩,
   ⟨some 48,(.extract (.t 42) 1),none⟩,
   ⟨some 11,(.move (.t 47)),none⟩,
   ⟨some 12,(.move (.t 48)),none⟩] [] [])
  (.seq (.seq (.region [
   ⟨some 49,(.move (.t 12)),none⟩,
   ⟨some 50,(.bin .eql (.t 49) (.c (.s (.int .i64 2)))),none⟩] [] [])
  (.cond (.t 50)
   (.seq (.region [
    ⟨some 51,(.move (.t 0)),none⟩,
    ⟨some 52,(.move (.t 1)),none⟩,
    ⟨some 53,(.move (.t 2)),none⟩,
    ⟨some 54,(.call (.c (.fn 56 [] [])) [(.t 51),(.t 52),(.t 53)]),none⟩] [] [])
   (.seq (.region [
    ⟨some 55,(.move (.t 2)),none⟩,
    ⟨some 56,(.bin .sub (.t 55) (.c (.s (.int .i64 1)))),none⟩,
    ⟨some 57,(.move (.t 11)),none⟩,
    ⟨some 58,(.move (.t 1)),none⟩,
    ⟨some 59,(.bin .sub (.t 57) (.t 58)),none⟩,
    ⟨some 60,(.bin .sub (.t 56) (.t 59)),none⟩,
    ⟨some 11,(.move (.t 60)),none⟩] [] [])
   (.region [
    ⟨some 12,(.move (.c (.s (.int .i64 1)))),none⟩] [] [])))
   .skip))
  (.seq (.seq (.region [
   ⟨some 61,(.move (.t 8)),none⟩,
   ⟨some 62,(.move (.t 61)),none⟩,
   ⟨some 63,(.move (.t 9)),some (62,true)⟩,
   ⟨some 64,(.pick (.t 62) (.t 63) (.c (.s (.bool false)))),none⟩,
   ⟨some 65,(.move (.t 64)),none⟩,
   ⟨some 66,(.move (.t 12)),some (65,true)⟩,
   ⟨some 67,(.bin .eql (.t 66) (.c (.s (.int .i64 1)))),some (65,true)⟩,
   ⟨some 68,(.pick (.t 65) (.t 67) (.c (.s (.bool false)))),none⟩] [] [])
  (.cond (.t 68)
   (.seq (.region [
    ⟨some 69,(.move (.t 0)),none⟩,
    ⟨some 70,(.move (.t 1)),none⟩,
    ⟨some 71,(.move (.t 2)),none⟩,
    ⟨some 72,(.call (.c (.fn 57 [] [])) [(.t 69),(.t 70),(.t 71)]),none⟩] [] [])
   (.cond (.t 72)
    .ret
    .skip))
   .skip))
  (.seq (.seq (.region [
   ⟨some 73,(.move (.t 1)),none⟩,
   ⟨some 74,(.bin .gtr (.t 73) (.c (.s (.int .i64 0)))),none⟩,
   ⟨some 75,(.move (.t 74)),none⟩,
   ⟨some 76,(.move (.t 0)),some (75,true)⟩,
   ⟨some 77,(.move (.t 1)),some (75,true)⟩,
   ⟨some 78,(.bin .sub (.t 77) (.c (.s (.int .i64 1)))),some (75,true)⟩,
   ⟨some 79,(.indexAddr 1 (.t 76) (.t 78)),some (75,true)⟩,
   ⟨some 80,(.load false 1 (.t 79)),some (75,true)⟩,
   ⟨some 81,(.move (.t 0)),some (75,true)⟩,
   ⟨some 82,(.move (.t 11)),some (75,true)⟩,
   ⟨some 83,(.indexAddr 1 (.t 81) (.t 82)),some (75,true)⟩,
   ⟨some 84,(.load false 1 (.t 83)),some (75,true)⟩,
   ⟨some 85,(.call (.c (.fn 58 [] [])) [(.t 80),(.t 84)]),some (75,true)⟩,
   ⟨some 86,(.un .not (.t 85)),some (75,true)⟩,
   ⟨some 87,(.pick (.t 75) (.t 86) (.c (.s (.bool false)))),none⟩] [] [])
  (.cond (.t 87)
   (.seq (.region [
    ⟨some 88,(.move (.t 0)),none⟩,
    ⟨some 89,(.move (.t 1)),none⟩,
    ⟨some 90,(.move (.t 2)),none⟩,
    ⟨some 91,(.move (.t 11)),none⟩,
    ⟨some 92,(.call (.c (.fn 59 [] [])) [(.t 88),(.t 89),(.t 90),(.t 91)]),none⟩,
    ⟨some 13,(.move (.t 92)),none⟩] [] [])
   (.seq (.region [
    ⟨some 93,(.move (.t 13)),none⟩,
    ⟨some 1,(.move (.t 93)),none⟩] [] [])
   (.exit 1)))
   .skip))
  (.seq (.region [
   ⟨some 95,(.move (.t 0)),none⟩,
   ⟨some 96,(.move (.t 1)),none⟩,
   ⟨some 97,(.move (.t 2)),none⟩,
   ⟨some 98,(.move (.t 11)),none⟩,
   ⟨some 99,(.call (.c (.fn 60 [] [])) [(.t 95),(.t 96),(.t 97),(.t 98)]),none⟩,
   ⟨some 94,(.move (.t 99)),none⟩,
   ⟨some 100,(.extract (.t 94) 0),none⟩,
   ⟨some 101,(.extract (.t 94) 1),none⟩,
   ⟨some 14,(.move (.t 100)),none⟩,
   ⟨some 15,(.move (.t 101)),none⟩] [] [])
  (.seq (.region [
   ⟨some 102,(.move (.t 15)),none⟩,
   ⟨some 9,(.move (.t 102)),none⟩] [] [])
  (.seq (.region [
   ⟨some 103,(.move (.t 14)),none⟩,
   ⟨some 104,(.move (.t 1)),none⟩,
   ⟨some 105,(.bin .sub (.t 103) (.t 104)),none⟩,
   ⟨some 106,(.move (.t 2)),none⟩,
   ⟨some 107,(.move (.t 14)),none⟩,
   ⟨some 108,(.bin .sub (.t 106) (.t 107)),none⟩,
   ⟨some 16,(.move (.t 105)),none⟩,
   ⟨some 17,(.move (.t 108)),none⟩] [] [])
  (.seq (.region [
   ⟨some 109,(.move (.t 10)),none⟩,
   ⟨some 110,(.bin .quo (.t 109) (.c (.s (.int .i64 8)))),none⟩,
   ⟨some 18,(.move (.t 110)),none⟩] [] [])
  (.seq (.region [
   ⟨some 111,(.move (.t 16)),none⟩,
   ⟨some 112,(.move (.t 17)),none⟩,
   ⟨some 113,(.bin .lss (.t 111) (.t 112)),none⟩] [] [])
  (.cond (.t 113)
   (.seq (.region [
    ⟨some 114,(.move (.t 16)),none⟩,
    ⟨some 115,(.move (.t 18)),none⟩,
    ⟨some 116,(.bin .geq (.t 114) (.t 115)),none⟩,
    ⟨some 8,(.move (.t 116)),none⟩] [] [])
   (.seq (.region [
    ⟨some 117,(.move (.t 0)),none⟩,
    ⟨some 118,(.move (.t 1)),none⟩,
    ⟨some 119,(.move (.t 14)),none⟩,
    ⟨some 120,(.move (.t 3)),none⟩,
    ⟨some 121,(.call (.c (.fn 45 [] [])) [(.t 117),(.t 118),(.t 119),(.t 120)]),none⟩] [] [])
   (.region [
    ⟨some 122,(.move (.t 14)),none⟩,
    ⟨some 123,(.bin .add (.t 122) (.c (.s (.int .i64 1)))),none⟩,
    ⟨some 1,(.move (.t 123)),none⟩] [] [])))
   (.seq (.region [
    ⟨some 124,(.move (.t 17)),none⟩,
    ⟨some 125,(.move (.t 18)),none⟩,
    ⟨some 126,(.bin .geq (.t 124) (.t 125)),none⟩,
    ⟨some 8,(.move (.t 126)),none⟩] [] [])
   (.seq (.region [
    ⟨some 127,(.move (.t 0)),none⟩,
    ⟨some 128,(.move (.t 14)),none⟩,
    ⟨some 129,(.bin .add (.t 128) (.c (.s (.int .i64 1)))),none⟩,
    ⟨some 130,(.move (.t 2)),none⟩,
    ⟨some 131,(.move (.t 3)),none⟩,
    ⟨some 132,(.call (.c (.fn 45 [] [])) [(.t 127),(.t 129),(.t 130),(.t 131)]),none⟩] [] [])
   (.region [
    ⟨some 133,(.move (.t 14)),none⟩,
    ⟨some 2,(.move (.t 133)),none⟩] [] []))))))))))))))))))
def c_f45_k0:List Nat:=[19,20,21,10,22,23,24,25,26,27,28,29,30,31,32,33,34,35,36,37,38,39,40,41,43,44,45,46,42,47,48,11,12,49,50,51,52,53,54,55,56,57,58,59,60,61,62,63,64,65,66,67,68,69,70,71,72,73,74,75,76,77,78,79,80,81,82,83,84,85,86,87,88,89,90,91,92,13,93,95,96,97,98,99,94,100,101,14,15,102,103,104,105,106,107,108,16,17,109,110,18,111,112,113,114,115,116,117,118,119,120,121,122,123,124,125,126,127,128,129,130,131,132,133]
def c_f45:ACFun:={ ntmps:=134,results:=[],body:=
 (.seq (.region [
  ⟨some 8,(.move (.c (.s (.bool true)))),none⟩] [] [])
 (.seq (.region [
  ⟨some 9,(.move (.c (.s (.bool true)))),none⟩] [] [])
 (.block 0
  (.loop c_f45_k0 c_f45_l0)))) }
def c_f46:ACFun:={ ntmps:=8,results:=[(.tmp 2)],body:=
 (.seq (.region [
  ⟨some 2,(.move (.c (.s (.int .i64 0)))),none⟩] [] [])
 (.seq (.cond (.c (.s (.bool false)))
  (.seq (.region [
   ⟨some 3,(.move (.t 0)),none⟩,
   ⟨some 4,(.conv .u32 (.t 3)),none⟩,
   ⟨some 5,(.call (.c (.fn 61 [] [])) [(.t 4)]),none⟩,
   ⟨some 2,(.move (.t 5)),none⟩] [] [])
  .ret)
  .skip)
 (.seq (.region [
  ⟨some 6,(.move (.t 0)),none⟩,
  ⟨some 7,(.call (.c (.fn 62 [] [])) [(.t 6)]),none⟩,
  ⟨some 2,(.move (.t 7)),none⟩] [] [])
 .ret))) }
def c_f52_l0:ACode:=
 (.seq (.seq (.region [
  ⟨some 16,(.move (.t 7)),none⟩,
  ⟨some 17,(.move (.t 1)),none⟩,
  ⟨some 18,(.bin .gtr (.t 16) (.t 17)),none⟩,
  ⟨some 19,(.move (.t 18)),none⟩,
  ⟨some 20,(.move (.t 0)),some (19,true)⟩,
  ⟨some 21,(.move (.t 7)),some (19,true)⟩,
  ⟨some 22,(.indexAddr 1 (.t 20) (.t 21)),some (19,true)⟩,
  ⟨some 23,(.load false 1 (.t 22)),some (19,true)⟩,
  ⟨some 24,(.move (.t 0)),some (19,true)⟩,
  ⟨some 25,(.move (.t 7)),some (19,true)⟩,
  ⟨some 26,(.bin .sub (.t 25) (.c (.s (.int .i64 1)))),some (19,true)⟩,
  ⟨some 27,(.indexAddr 1 (.t 24) (.t 26)),some (19,true)⟩,
  ⟨some 28,(.load false 1 (.t 27)),some (19,true)⟩,
  ⟨some 29,(.call (.c (.fn 58 [] [])) [(.t 23),(.t 28)]),some (19,true)⟩,
  ⟨some 30,(.pick (.t 19) (.t 29) (.c (.s (.bool false)))),none⟩] [] [])
 (.cond (.t 30)
  .skip
  (.exit 2)))
 (.seq (.block 3
  (.region [
   ⟨some 33,(.move (.t 0)),none⟩,
   ⟨some 34,(.move (.t 7)),none⟩,
   ⟨some 35,(.move (.t 0)),none⟩,
   ⟨some 36,(.move (.t 7)),none⟩,
   ⟨some 37,(.bin .sub (.t 36) (.c (.s (.int .i64 1)))),none⟩,
   ⟨some 38,(.move (.t 0)),none⟩,
   ⟨some 39,(.move (.t 7)),none⟩,
   ⟨some 40,(.bin .sub (.t 39) (.c (.s (.int .i64 1)))),none⟩,
   ⟨some 41,(.indexAddr 1 (.t 38) (.t 40)),none⟩,
   ⟨some 42,(.load false 1 (.t 41)),none⟩,
   ⟨some 43,(.move (.t 0)),none⟩,
   ⟨some 44,(.move (.t 7)),none⟩,
   ⟨some 45,(.indexAddr 1 (.t 43) (.t 44)),none⟩,
   ⟨some 46,(.load false 1 (.t 45)),none⟩,
   ⟨some 47,(.indexAddr 1 (.t 33) (.t 34)),none⟩,
   ⟨none,(.store 1 (.t 47) (.t 42)),none⟩,
   ⟨some 48,(.indexAddr 1 (.t 35) (.t 37)),none⟩,
   ⟨none,(.store 1 (.t 48) (.t 46)),none⟩] [] []))
 (.region [
  ⟨some 31,(.move (.t 7)),none⟩,
  ⟨some 32,(.bin .sub (.t 31) (.c (.s (.int .i64 1)))),none⟩,
  ⟨some 7,(.move (.t 32)),none⟩] [] [])))
def c_f52_k0:List Nat:=[16,17,18,19,20,21,22,23,24,25,26,27,28,29,30,33,34,35,36,37,38,39,40,41,42,43,44,45,46,47,48,31,32]
def c_f52_l1:ACode:=
 (.seq (.seq (.region [
  ⟨some 10,(.move (.t 6)),none⟩,
  ⟨some 11,(.move (.t 2)),none⟩,
  ⟨some 12,(.bin .lss (.t 10) (.t 11)),none⟩] [] [])
 (.cond (.t 12)
  .skip
  (.exit 0)))
 (.seq (.block 1
  (.seq (.region [
   ⟨some 15,(.move (.t 6)),none⟩,
   ⟨some 7,(.move (.t 15)),none⟩] [] [])
  (.block 2
   (.loop c_f52_k0 c_f52_l0))))
 (.region [
  ⟨some 13,(.move (.t 6)),none⟩,
  ⟨some 14,(.bin .add (.t 13) (.c (.s (.int .i64 1)))),none⟩,
  ⟨some 6,(.move (.t 14)),none⟩] [] [])))
def c_f52_k1:List Nat:=[10,11,12,15,7,16,17,18,19,20,21,22,23,24,25,26,27,28,29,30,33,34,35,36,37,38,39,40,41,42,43,44,45,46,47,48,31,32,13,14]
def c_f52:ACFun:={ ntmps:=49,results:=[],body:=
 (.seq (.region [
  ⟨some 8,(.move (.t 1)),none⟩,
  ⟨some 9,(.bin .add (.t 8) (.c (.s (.int .i64 1)))),none⟩,
  ⟨some 6,(.move (.t 9)),none⟩] [] [])
 (.block 0
  (.loop c_f52_k1 c_f52_l1))) }
def c_f58:ACFun:={ ntmps:=17,results:=[(.tmp 4)],body:=
 (.seq (.region [
  ⟨some 4,(.move (.c (.s (.bool false)))),none⟩] [] [])
 (.seq (.region [
  ⟨some 5,(.move (.t 0)),none⟩,
  ⟨some 6,(.call (.c (.fn 69 [] [])) [(.t 5)]),none⟩,
  ⟨some 7,(.move (.t 6)),none⟩,
  ⟨some 8,(.move (.t 1)),some (7,true)⟩,
  ⟨some 9,(.call (.c (.fn 69 [] [])) [(.t 8)]),some (7,true)⟩,
  ⟨some 10,(.un .not (.t 9)),some (7,true)⟩,
  ⟨some 11,(.pick (.t 7) (.t 10) (.c (.s (.bool false)))),none⟩,
  ⟨some 12,(.move (.t 11)),none⟩,
  ⟨some 13,(.move (.t 0)),some (12,false)⟩,
  ⟨some 14,(.move (.t 1)),some (12,false)⟩,
  ⟨some 15,(.bin .lss (.t 13) (.t 14)),some (12,false)⟩,
  ⟨some 16,(.pick (.t 12) (.c (.s (.bool true))) (.t 15)),none⟩,
  ⟨some 4,(.move (.t 16)),none⟩] [] [])
 .ret)) }
def c_f61:ACFun:={ ntmps:=19,results:=[(.tmp 2)],body:=
 (.seq (.region [
  ⟨some 2,(.move (.c (.s (.int .i64 0)))),none⟩] [] [])
 (.seq (.seq (.region [
  ⟨some 3,(.move (.t 0)),none⟩,
  ⟨some 4,(.bin .geq (.t 3) (.c (.s (.int .u32 65536)))),none⟩] [] [])
 (.cond (.t 4)
  (.seq (.region [
   ⟨some 5,(.move (.t 0)),none⟩,
   ⟨some 6,(.bin .shr (.t 5) (.c (.s (.int .u64 16)))),none⟩,
   ⟨some 0,(.move (.t 6)),none⟩] [] [])
  (.region [
   ⟨some 2,(.move (.c (.s (.int .i64 16)))),none⟩] [] []))
  .skip))
 (.seq (.seq (.region [
  ⟨some 7,(.move (.t 0)),none⟩,
  ⟨some 8,(.bin .geq (.t 7) (.c (.s (.int .u32 256)))),none⟩] [] [])
 (.cond (.t 8)
  (.seq (.region [
   ⟨some 9,(.move (.t 0)),none⟩,
   ⟨some 10,(.bin .shr (.t 9) (.c (.s (.int .u64 8)))),none⟩,
   ⟨some 0,(.move (.t 10)),none⟩] [] [])
  (.region [
   ⟨some 11,(.move (.t 2)),none⟩,
   ⟨some 12,(.bin .add (.t 11) (.c (.s (.int .i64 8)))),none⟩,
   ⟨some 2,(.move (.t 12)),none⟩] [] []))
  .skip))
 (.seq (.region [
  ⟨some 13,(.move (.t 2)),none⟩,
  ⟨some 14,(.move (.t 0)),none⟩,
  ⟨some 15,(.conv .u8 (.t 14)),none⟩,
  ⟨some 16,(.indexStr (.c (.s (.string ⟨#[0,1,2,2,3,3,3,3,4,4,4,4,4,4,4,4,5,5,5,5,5,5,5,5,5,5,5,5,5,5,5,5,6,6,6,6,6,6,6,6,6,6,6,6,6,6,6,6,6,6,6,6,6,6,6,6,6,6,6,6,6,6,6,6,7,7,7,7,7,7,7,7,7,7,7,7,7,7,7,7,7,7,7,7,7,7,7,7,7,7,7,7,7,7,7,7,7,7,7,7,7,7,7,7,7,7,7,7,7,7,7,7,7,7,7,7,7,7,7,7,7,7,7,7,7,7,7,7,8,8,8,8,8,8,8,8,8,8,8,8,8,8,8,8,8,8,8,8,8,8,8,8,8,8,8,8,8,8,8,8,8,8,8,8,8,8,8,8,8,8,8,8,8,8,8,8,8,8,8,8,8,8,8,8,8,8,8,8,8,8,8,8,8,8,8,8,8,8,8,8,8,8,8,8,8,8,8,8,8,8,8,8,8,8,8,8,8,8,8,8,8,8,8,8,8,8,8,8,8,8,8,8,8,8,8,8,8,8,8,8,8,8,8,8,8,8,8,8,8,8,8,8,8,8,8,8]⟩))) (.t 15)),none⟩,
  ⟨some 17,(.conv .i64 (.t 16)),none⟩,
  ⟨some 18,(.bin .add (.t 13) (.t 17)),none⟩,
  ⟨some 2,(.move (.t 18)),none⟩] [] [])
 .ret)))) }
def c_f62:ACFun:={ ntmps:=25,results:=[(.tmp 2)],body:=
 (.seq (.region [
  ⟨some 2,(.move (.c (.s (.int .i64 0)))),none⟩] [] [])
 (.seq (.seq (.region [
  ⟨some 3,(.move (.t 0)),none⟩,
  ⟨some 4,(.bin .geq (.t 3) (.c (.s (.int .u64 4294967296)))),none⟩] [] [])
 (.cond (.t 4)
  (.seq (.region [
   ⟨some 5,(.move (.t 0)),none⟩,
   ⟨some 6,(.bin .shr (.t 5) (.c (.s (.int .u64 32)))),none⟩,
   ⟨some 0,(.move (.t 6)),none⟩] [] [])
  (.region [
   ⟨some 2,(.move (.c (.s (.int .i64 32)))),none⟩] [] []))
  .skip))
 (.seq (.seq (.region [
  ⟨some 7,(.move (.t 0)),none⟩,
  ⟨some 8,(.bin .geq (.t 7) (.c (.s (.int .u64 65536)))),none⟩] [] [])
 (.cond (.t 8)
  (.seq (.region [
   ⟨some 9,(.move (.t 0)),none⟩,
   ⟨some 10,(.bin .shr (.t 9) (.c (.s (.int .u64 16)))),none⟩,
   ⟨some 0,(.move (.t 10)),none⟩] [] [])
  (.region [
   ⟨some 11,(.move (.t 2)),none⟩,
   ⟨some 12,(.bin .add (.t 11) (.c (.s (.int .i64 16)))),none⟩,
   ⟨some 2,(.move (.t 12)),none⟩] [] []))
  .skip))
 (.seq (.seq (.region [
  ⟨some 13,(.move (.t 0)),none⟩,
  ⟨some 14,(.bin .geq (.t 13) (.c (.s (.int .u64 256)))),none⟩] [] [])
 (.cond (.t 14)
  (.seq (.region [
   ⟨some 15,(.move (.t 0)),none⟩,
   ⟨some 16,(.bin .shr (.t 15) (.c (.s (.int .u64 8)))),none⟩,
   ⟨some 0,(.move (.t 16)),none⟩] [] [])
  (.region [
   ⟨some 17,(.move (.t 2)),none⟩,
   ⟨some 18,(.bin .add (.t 17) (.c (.s (.int .i64 8)))),none⟩,
   ⟨some 2,(.move (.t 18)),none⟩] [] []))
  .skip))
 (.seq (.region [
  ⟨some 19,(.move (.t 2)),none⟩,
  ⟨some 20,(.move (.t 0)),none⟩,
  ⟨some 21,(.conv .u8 (.t 20)),none⟩,
  ⟨some 22,(.indexStr (.c (.s (.string ⟨#[0,1,2,2,3,3,3,3,4,4,4,4,4,4,4,4,5,5,5,5,5,5,5,5,5,5,5,5,5,5,5,5,6,6,6,6,6,6,6,6,6,6,6,6,6,6,6,6,6,6,6,6,6,6,6,6,6,6,6,6,6,6,6,6,7,7,7,7,7,7,7,7,7,7,7,7,7,7,7,7,7,7,7,7,7,7,7,7,7,7,7,7,7,7,7,7,7,7,7,7,7,7,7,7,7,7,7,7,7,7,7,7,7,7,7,7,7,7,7,7,7,7,7,7,7,7,7,7,8,8,8,8,8,8,8,8,8,8,8,8,8,8,8,8,8,8,8,8,8,8,8,8,8,8,8,8,8,8,8,8,8,8,8,8,8,8,8,8,8,8,8,8,8,8,8,8,8,8,8,8,8,8,8,8,8,8,8,8,8,8,8,8,8,8,8,8,8,8,8,8,8,8,8,8,8,8,8,8,8,8,8,8,8,8,8,8,8,8,8,8,8,8,8,8,8,8,8,8,8,8,8,8,8,8,8,8,8,8,8,8,8,8,8,8,8,8,8,8,8,8,8,8,8,8,8,8]⟩))) (.t 21)),none⟩,
  ⟨some 23,(.conv .i64 (.t 22)),none⟩,
  ⟨some 24,(.bin .add (.t 19) (.t 23)),none⟩,
  ⟨some 2,(.move (.t 24)),none⟩] [] [])
 .ret))))) }
def c_f69:ACFun:={ ntmps:=6,results:=[(.tmp 2)],body:=
 (.seq (.region [
  ⟨some 2,(.move (.c (.s (.bool false)))),none⟩] [] [])
 (.seq (.region [
  ⟨some 3,(.move (.t 0)),none⟩,
  ⟨some 4,(.move (.t 0)),none⟩,
  ⟨some 5,(.bin .neq (.t 3) (.t 4)),none⟩,
  ⟨some 2,(.move (.t 5)),none⟩] [] [])
 .ret)) }
def CQ:Nat→Option CFun
 | 9=>some (.code c_f9)
 | 23=>some (.code c_f23)
 | 29=>some (.code c_f29)
 | 45=>some (.code c_f45)
 | 46=>some (.code c_f46)
 | 52=>some (.code c_f52)
 | 58=>some (.code c_f58)
 | 61=>some (.code c_f61)
 | 62=>some (.code c_f62)
 | 69=>some (.code c_f69)
 | _=>none
theorem CQ_9:compK Try.prog PX0 9=some (false,c_f9.ntmps,c_f9.results,c_f9.body.bare):=by kernel_rfl
theorem CQ_23:compK Try.prog PX0 23=some (false,c_f23.ntmps,c_f23.results,c_f23.body.bare):=by kernel_rfl
theorem CQ_29:compK Try.prog PX0 29=some (false,c_f29.ntmps,c_f29.results,c_f29.body.bare):=by kernel_rfl
theorem CQ_45:compK Try.prog PX0 45=some (false,c_f45.ntmps,c_f45.results,c_f45.body.bare):=by kernel_rfl
theorem CQ_46:compK Try.prog PX0 46=some (false,c_f46.ntmps,c_f46.results,c_f46.body.bare):=by kernel_rfl
theorem CQ_52:compK Try.prog PX0 52=some (false,c_f52.ntmps,c_f52.results,c_f52.body.bare):=by kernel_rfl
theorem CQ_58:compK Try.prog PX0 58=some (false,c_f58.ntmps,c_f58.results,c_f58.body.bare):=by kernel_rfl
theorem CQ_61:compK Try.prog PX0 61=some (false,c_f61.ntmps,c_f61.results,c_f61.body.bare):=by kernel_rfl
theorem CQ_62:compK Try.prog PX0 62=some (false,c_f62.ntmps,c_f62.results,c_f62.body.bare):=by kernel_rfl
theorem CQ_69:compK Try.prog PX0 69=some (false,c_f69.ntmps,c_f69.results,c_f69.body.bare):=by kernel_rfl
theorem CQ_ok (fx:Nat→Option (Array Value × TypeId × Nat × Nat)):∀ k c,CQ k=some c→FunOk Try.prog (PXf fx) k c:=by
 intro k c h
 unfold CQ at h
 split at h
 ·cases h;exact funOk_f fx CQ_9
 ·cases h;exact funOk_f fx CQ_23
 ·cases h;exact funOk_f fx CQ_29
 ·cases h;exact funOk_f fx CQ_45
 ·cases h;exact funOk_f fx CQ_46
 ·cases h;exact funOk_f fx CQ_52
 ·cases h;exact funOk_f fx CQ_58
 ·cases h;exact funOk_f fx CQ_61
 ·cases h;exact funOk_f fx CQ_62
 ·cases h;exact funOk_f fx CQ_69
 ·cases h
def bareF (c:ACFun):ACFun:={ c with body:=c.body.bare }
theorem bare_ok {P:Program} {lt:List Nat} {k:Nat} {c:ACFun} (h:compKL lt P PX0 k=some (false,c.ntmps,c.results,c.body.bare)) (hb:c.body.bare.bare=c.body.bare):FunOk P PX0 k (.code (bareF c)):=
 funOk_f (fun _=>none) (c:=bareF c) (h.trans (by show some (false,c.ntmps,c.results,c.body.bare)=some (false,c.ntmps,c.results,c.body.bare.bare);rw [hb]))
def CQs:Nat→Option CFun
 | 10=>some (.code (bareF s_f10))
 | 11=>some (.code (bareF s_f11))
 | 13=>some (.code (bareF s_f13))
 | 15=>some (.code (bareF s_f15))
 | 16=>some (.code (bareF s_f16))
 | 18=>some (.code (bareF s_f18))
 | 19=>some (.code (bareF s_f19))
 | 20=>some (.code (bareF s_f20))
 | 24=>some (.code (bareF s_f24))
 | 25=>some (.code (bareF s_f25))
 | 26=>some (.code (bareF s_f26))
 | 30=>some (.code (bareF s_f30))
 | 33=>some (.code (bareF s_f33))
 | 34=>some (.code (bareF s_f34))
 | 35=>some (.code (bareF s_f35))
 | 37=>some (.code (bareF s_f37))
 | 39=>some (.code (bareF s_f39))
 | 40=>some (.code (bareF s_f40))
 | 41=>some (.code (bareF s_f41))
 | 42=>some (.code (bareF s_f42))
 | 51=>some (.code (bareF s_f51))
 | 36=>some (.prim (sortedG 49))
 | k=>CQ k
theorem CQs_ok (hs:FunOk Try.prog PX0 36 (.prim (sortedG 49))):∀ k c,CQs k=some c→FunOk Try.prog PX0 k c:=by
 intro k c h
 unfold CQs at h
 split at h
 ·cases h;exact bare_ok DA1_10 (by kernel_rfl)
 ·cases h;exact bare_ok DA3_11 (by kernel_rfl)
 ·cases h;exact bare_ok DA1_13 (by kernel_rfl)
 ·cases h;exact bare_ok DA3_15 (by kernel_rfl)
 ·cases h;exact bare_ok DA4_16 (by kernel_rfl)
 ·cases h;exact bare_ok DA2_18 (by kernel_rfl)
 ·cases h;exact bare_ok DA4_19 (by kernel_rfl)
 ·cases h;exact bare_ok DA2_20 (by kernel_rfl)
 ·cases h;exact bare_ok DA1_24 (by kernel_rfl)
 ·cases h;exact bare_ok DA2_25 (by kernel_rfl)
 ·cases h;exact bare_ok DA1_26 (by kernel_rfl)
 ·cases h;exact bare_ok DA2_30 (by kernel_rfl)
 ·cases h;exact bare_ok DA2_33 (by kernel_rfl)
 ·cases h;exact bare_ok DA2_34 (by kernel_rfl)
 ·cases h;exact bare_ok DA2_35 (by kernel_rfl)
 ·cases h;exact bare_ok DA4_37 (by kernel_rfl)
 ·cases h;exact bare_ok DA1_39 (by kernel_rfl)
 ·cases h;exact bare_ok DA2_40 (by kernel_rfl)
 ·cases h;exact bare_ok DA2_41 (by kernel_rfl)
 ·cases h;exact bare_ok DA2_42 (by kernel_rfl)
 ·cases h;exact bare_ok DA1_51 (by kernel_rfl)
 ·cases h;exact hs
 ·exact CQ_ok (fun _=>none) _ c h
theorem wakes_true:givesE CQs 400 9=some (bl true):=by kernel_rfl
end Go.Proofs.Ytdmnenlpdeolaaa
