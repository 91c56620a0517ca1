/- Texts of the proof: DomS4, DomC, DgF1, DgF2, DgF3, DgF4, DgF5, AmR, DomArg, DomX, DgF6, DgF7, DgF8, DgF9, DgF10, DgF11, DgF12, DgF13, DgF14, DgF15, DgF16, DgF17, DgF18, DgF19, DgF20, DgP1, DgB1, DgP2, DgW3, DgW4, DgW5, DgR, DgD, DgD2. -/
import Derived.Test.YtdmnenlpdeolaaaP0
import Derived.Test.YtdmnenlpdeolaaaP1
import Derived.Test.YtdmnenlpdeolaaaP2
import Derived.Test.YtdmnenlpdeolaaaP3
import Derived.Test.YtdmnenlpdeolaaaProg
import Derived.KernelRfl
import Derived.DataReads
import Derived.ChangeOld
import Derived.ChangeArms
import Derived.ProofKit
import Derived.Test.YtdmnenlpdeolaaaRows
set_option linter.all false
set_option maxRecDepth 100000
namespace Go.Proofs.Ytdmnenlpdeolaaa
open Go.AM
abbrev k_f16:Nat:=16
def s_f16_r0_k:List Nat:=[2,3,4,5,6,7,8,9,10,11,12,13,14,15,16,17,18,19,20,21,22,23,24,25,26,27,28,29,30,31,32,33,34,35,36,37,38,39,40,41,42,43,44,45,46,47,48,49,50,51,52,53,54,55,56,57,58,59,60,61,62,63,64,65,66,67,68,69,70,71,72,73,74,75,76,77,78,79,80,81,82,83,84,85,86,87,88]
theorem s_f16_r0_kT:killV s_f16_r0_k (startV 89 [] 2)=[]:=by kernel_rfl
theorem s_f16_r0_kA0:s_f16_r0_k.contains 0=false:=by kernel_rfl
theorem s_f16_r0_kA1:s_f16_r0_k.contains 1=false:=by kernel_rfl
def s_f16_r0:List AOper:=[
 ⟨some 4,(.move (.c (.s (.slice none 0 0)))),none⟩]
def s_f16_r0_tale:=hT s_f16_r0 s_f16_r0_k [] 5 [] [] [.cc (.s (.slice none 0 0))] (by kernel_rfl) (by kernel_rfl)
def s_f16_r1t2:List AOper:=[⟨some 5,(.move (.t 15)),none⟩]
def s_f16_r1p1:List AOper:=[⟨some 15,(.call (.c (.fn 10 [] [])) [(.t 13),(.t 14)]),none⟩]
def s_f16_r1t1:List AOper:=s_f16_r1p1 ++ s_f16_r1t2
def s_f16_r1p0:List AOper:=[⟨some 13,(.move (.t 0)),none⟩,⟨some 14,(.move (.t 1)),none⟩]
def s_f16_r1:List AOper:=s_f16_r1p0 ++ s_f16_r1t1
def s_f16_r1p0_tale:=hT s_f16_r1p0 [1] [13,14] 15 [] [(13,(.t 0)),(14,(.t 1))] [.tt 0,.tt 1] (by kernel_rfl) (by kernel_rfl)
def s_f16_r1_x:=hS s_f16_r1 s_f16_r1p0 s_f16_r1t1 [1] [13,14] [1,13,14,15] rfl (by kernel_rfl)
def s_f16_r1t1_x:=hO s_f16_r1t1 s_f16_r1p1 s_f16_r1t2 [13,14] [1,13,14,15] [⟨some 15,(.call (.c (.fn 10 [] [])) [(.t 13),(.t 14)]),none⟩] rfl rfl (by kernel_rfl)
def s_f16_r1t2_tale:=hT s_f16_r1t2 [1,13,14,15] [5] 6 [] [(5,(.t 15))] [.tt 15] (by kernel_rfl) (by kernel_rfl)
def s_f16_r1t2_x:=hL s_f16_r1t2 [1,13,14,15] [5]
def s_f16_r2t2:List AOper:=[⟨some 6,(.move (.t 18)),none⟩]
def s_f16_r2p1:List AOper:=[⟨some 18,(.mkSl [(.s (.slice none 0 0))] 1 24 (.t 17) (.t 17)),none⟩]
def s_f16_r2t1:List AOper:=s_f16_r2p1 ++ s_f16_r2t2
def s_f16_r2p0:List AOper:=[⟨some 16,(.move (.t 0)),none⟩,⟨some 17,(.lenS .s (.t 16)),none⟩]
def s_f16_r2:List AOper:=s_f16_r2p0 ++ s_f16_r2t1
def s_f16_r2p0_tale:=hT s_f16_r2p0 [16] [17] 18 [] [(17,(.op (.lenS .s (.t 0)) [(.t 0)]))] [.tt 0,.sub 0 [] []] (by kernel_rfl) (by kernel_rfl)
def s_f16_r2_x:=hS s_f16_r2 s_f16_r2p0 s_f16_r2t1 [16] [17] [16,17,18] rfl (by kernel_rfl)
def s_f16_r2t1_x:=hO s_f16_r2t1 s_f16_r2p1 s_f16_r2t2 [17] [16,17,18] [⟨some 18,(.mkSl [(.s (.slice none 0 0))] 1 24 (.t 17) (.t 17)),none⟩] rfl rfl (by kernel_rfl)
def s_f16_r2t2_tale:=hT s_f16_r2t2 [16,17,18] [6] 7 [] [(6,(.t 18))] [.tt 18] (by kernel_rfl) (by kernel_rfl)
def s_f16_r2t2_x:=hL s_f16_r2t2 [16,17,18] [6]
def s_f16_r3t2:List AOper:=[⟨some 21,(.lenS .s (.t 20)),none⟩,⟨some 22,(.move (.c (.s (.int .i64 0)))),none⟩]
def s_f16_r3p1:List AOper:=[⟨some 20,(.call (.c (.fn 18 [] [])) [(.t 19)]),none⟩]
def s_f16_r3t1:List AOper:=s_f16_r3p1 ++ s_f16_r3t2
def s_f16_r3p0:List AOper:=[⟨some 19,(.move (.t 0)),none⟩]
def s_f16_r3:List AOper:=s_f16_r3p0 ++ s_f16_r3t1
def s_f16_r3p0_tale:=hT s_f16_r3p0 [0] [19] 20 [] [(19,(.t 0))] [.tt 0] (by kernel_rfl) (by kernel_rfl)
def s_f16_r3_x:=hS s_f16_r3 s_f16_r3p0 s_f16_r3t1 [0] [19] [0,19] rfl (by kernel_rfl)
def s_f16_r3t1_x:=hO s_f16_r3t1 s_f16_r3p1 s_f16_r3t2 [19] [0,19] [⟨some 20,(.call (.c (.fn 18 [] [])) [(.t 19)]),none⟩] rfl rfl (by kernel_rfl)
def s_f16_r3t2_tale:=hT s_f16_r3t2 [0,19] [21,22] 23 [] [(21,(.op (.lenS .s (.t 0)) [(.t 20)])),(22,(.c (.s (.int .i64 0))))] [.sub 0 [] [],.cc (.s (.int .i64 0))] (by kernel_rfl) (by kernel_rfl)
def s_f16_r3t2_x:=hL s_f16_r3t2 [0,19] [21,22]
def s_f16_r4:List AOper:=[
 ⟨some 23,(.bin .lss (.t 22) (.t 21)),none⟩]
def s_f16_r4_tale:=hT s_f16_r4 [] [23] 24 [] [(23,(.op (.bin .lss (.t 0) (.t 1)) [(.t 22),(.t 21)]))] [.sub 0 [] []] (by kernel_rfl) (by kernel_rfl)
def s_f16_r5:List AOper:=[
 ⟨some 24,(.move (.t 22)),none⟩,
 ⟨some 25,(.indexAddr 1 (.t 20) (.t 22)),none⟩,
 ⟨some 26,(.load false 1 (.t 25)),none⟩,
 ⟨some 7,(.move (.t 24)),none⟩,
 ⟨some 8,(.move (.t 26)),none⟩]
def s_f16_r5_tale:=hT s_f16_r5 [23,24,25,26] [7,8] 27 [] [(7,(.t 22)),(8,(.op (.load false 1 (.t 0)) [(.op (.indexAddr 1 (.t 0) (.t 1)) [(.t 20),(.t 22)])]))] [.tt 22,.sub 1 [0] [],.sub 1 [] [],.tt 22,.sub 1 [] []] (by kernel_rfl) (by kernel_rfl)
def s_f16_r6:List AOper:=[
 ⟨some 27,(.move (.t 5)),none⟩,
 ⟨some 28,(.move (.t 7)),none⟩,
 ⟨some 29,(.indexAddr 1 (.t 27) (.t 28)),none⟩,
 ⟨some 30,(.load false 1 (.t 29)),none⟩,
 ⟨some 31,(.bin .eql (.t 30) (.c (.s (.int .i64 (-2))))),none⟩]
def s_f16_r6_tale:=hT s_f16_r6 [27,28,29,30] [31] 32 [] [(31,(.op (.bin .eql (.t 0) (.c (.s (.int .i64 (-2))))) [(.op (.load false 1 (.t 0)) [(.op (.indexAddr 1 (.t 0) (.t 1)) [(.t 5),(.t 7)])]),(.c (.s (.int .i64 (-2))))]))] [.tt 5,.tt 7,.sub 0 [0,0] [],.sub 0 [0] [],.sub 0 [] []] (by kernel_rfl) (by kernel_rfl)
def s_f16_r7:List AOper:=[
 ⟨some 32,(.move (.t 8)),none⟩,
 ⟨some 33,(.lenS .s (.t 32)),none⟩,
 ⟨some 34,(.move (.c (.s (.int .i64 0)))),none⟩]
def s_f16_r7_tale:=hT s_f16_r7 [8,31] [32,33,34] 35 [] [(32,(.t 8)),(33,(.op (.lenS .s (.t 0)) [(.t 8)])),(34,(.c (.s (.int .i64 0))))] [.tt 8,.sub 1 [] [],.cc (.s (.int .i64 0))] (by kernel_rfl) (by kernel_rfl)
def s_f16_r8:List AOper:=[
 ⟨some 35,(.bin .lss (.t 34) (.t 33)),none⟩]
def s_f16_r8_tale:=hT s_f16_r8 [] [35] 36 [] [(35,(.op (.bin .lss (.t 0) (.t 1)) [(.t 34),(.t 33)]))] [.sub 0 [] []] (by kernel_rfl) (by kernel_rfl)
def s_f16_r9:List AOper:=[
 ⟨some 36,(.indexAddr 1 (.t 32) (.t 34)),none⟩,
 ⟨some 37,(.load false 1 (.t 36)),none⟩,
 ⟨some 10,(.move (.t 37)),none⟩]
def s_f16_r9_tale:=hT s_f16_r9 [35,36,37] [10] 38 [] [(10,(.op (.load false 1 (.t 0)) [(.op (.indexAddr 1 (.t 0) (.t 1)) [(.t 32),(.t 34)])]))] [.sub 0 [0] [],.sub 0 [] [],.sub 0 [] []] (by kernel_rfl) (by kernel_rfl)
def s_f16_r10:List AOper:=[
 ⟨some 38,(.move (.t 7)),none⟩,
 ⟨some 11,(.move (.t 38)),none⟩]
def s_f16_r10_tale:=hT s_f16_r10 [38] [11] 39 [] [(11,(.t 7))] [.tt 7,.tt 7] (by kernel_rfl) (by kernel_rfl)
def s_f16_r11t9:List AOper:=[⟨some 50,(.un .not (.t 49)),some (45,false)⟩,⟨some 51,(.pick (.t 45) (.c (.s (.bool true))) (.t 50)),some (41,true)⟩,⟨some 52,(.pick (.t 41) (.t 51) (.c (.s (.bool false)))),none⟩]
def s_f16_r11p8:List AOper:=[⟨some 49,(.call (.c (.fn 13 [] [])) [(.t 46),(.t 47),(.t 48)]),some (45,false)⟩]
def s_f16_r11t8:List AOper:=s_f16_r11p8 ++ s_f16_r11t9
def s_f16_r11p7:List AOper:=[⟨some 48,(.move (.t 10)),some (45,false)⟩]
def s_f16_r11t7:List AOper:=s_f16_r11p7 ++ s_f16_r11t8
def s_f16_r11p6:List AOper:=[⟨some 47,(.move (.t 11)),some (45,false)⟩]
def s_f16_r11t6:List AOper:=s_f16_r11p6 ++ s_f16_r11t7
def s_f16_r11p5:List AOper:=[⟨some 46,(.move (.t 5)),some (45,false)⟩]
def s_f16_r11t5:List AOper:=s_f16_r11p5 ++ s_f16_r11t6
def s_f16_r11p4:List AOper:=[⟨some 45,(.move (.t 44)),some (41,true)⟩]
def s_f16_r11t4:List AOper:=s_f16_r11p4 ++ s_f16_r11t5
def s_f16_r11p3:List AOper:=[⟨some 44,(.bin .eql (.t 42) (.t 43)),some (41,true)⟩]
def s_f16_r11t3:List AOper:=s_f16_r11p3 ++ s_f16_r11t4
def s_f16_r11p2:List AOper:=[⟨some 43,(.move (.t 10)),some (41,true)⟩]
def s_f16_r11t2:List AOper:=s_f16_r11p2 ++ s_f16_r11t3
def s_f16_r11p1:List AOper:=[⟨some 42,(.move (.t 11)),some (41,true)⟩]
def s_f16_r11t1:List AOper:=s_f16_r11p1 ++ s_f16_r11t2
def s_f16_r11p0:List AOper:=[⟨some 39,(.move (.t 11)),none⟩,⟨some 40,(.bin .geq (.t 39) (.c (.s (.int .i64 0)))),none⟩,⟨some 41,(.move (.t 40)),none⟩]
def s_f16_r11:List AOper:=s_f16_r11p0 ++ s_f16_r11t1
def s_f16_r11p0_tale:=hT s_f16_r11p0 [39,40] [41] 42 [] [(41,(.op (.bin .geq (.t 0) (.c (.s (.int .i64 0)))) [(.t 11),(.c (.s (.int .i64 0)))]))] [.tt 11,.sub 0 [] [],.sub 0 [] []] (by kernel_rfl) (by kernel_rfl)
def s_f16_r11_x:=hS s_f16_r11 s_f16_r11p0 s_f16_r11t1 [39,40] [41] [39,40,41,42,43,44,45,46,47,48,49,50,51] rfl (by kernel_rfl)
def s_f16_r11t1_x:=hO s_f16_r11t1 s_f16_r11p1 s_f16_r11t2 [] [39,40,41,42,43,44,45,46,47,48,49,50,51] [⟨some 42,(.move (.t 11)),some (41,true)⟩] rfl rfl (by kernel_rfl)
def s_f16_r11t2_x:=hO s_f16_r11t2 s_f16_r11p2 s_f16_r11t3 [] [39,40,41,42,43,44,45,46,47,48,49,50,51] [⟨some 43,(.move (.t 10)),some (41,true)⟩] rfl rfl (by kernel_rfl)
def s_f16_r11t3_x:=hO s_f16_r11t3 s_f16_r11p3 s_f16_r11t4 [42,43] [39,40,41,42,43,44,45,46,47,48,49,50,51] [⟨some 44,(.bin .eql (.t 42) (.t 43)),some (41,true)⟩] rfl rfl (by kernel_rfl)
def s_f16_r11t4_x:=hO s_f16_r11t4 s_f16_r11p4 s_f16_r11t5 [44] [39,40,41,42,43,44,45,46,47,48,49,50,51] [⟨some 45,(.move (.t 44)),some (41,true)⟩] rfl rfl (by kernel_rfl)
def s_f16_r11t5_x:=hO s_f16_r11t5 s_f16_r11p5 s_f16_r11t6 [] [39,40,41,42,43,44,45,46,47,48,49,50,51] [⟨some 46,(.move (.t 5)),some (45,false)⟩] rfl rfl (by kernel_rfl)
def s_f16_r11t6_x:=hO s_f16_r11t6 s_f16_r11p6 s_f16_r11t7 [] [39,40,41,42,43,44,45,46,47,48,49,50,51] [⟨some 47,(.move (.t 11)),some (45,false)⟩] rfl rfl (by kernel_rfl)
def s_f16_r11t7_x:=hO s_f16_r11t7 s_f16_r11p7 s_f16_r11t8 [] [39,40,41,42,43,44,45,46,47,48,49,50,51] [⟨some 48,(.move (.t 10)),some (45,false)⟩] rfl rfl (by kernel_rfl)
def s_f16_r11t8_x:=hO s_f16_r11t8 s_f16_r11p8 s_f16_r11t9 [46,47,48] [39,40,41,42,43,44,45,46,47,48,49,50,51] [⟨some 49,(.call (.c (.fn 13 [] [])) [(.t 46),(.t 47),(.t 48)]),some (45,false)⟩] rfl rfl (by kernel_rfl)
def s_f16_r11t9_tale:=hT s_f16_r11t9 [39,40,41,42,43,44,45,46,47,48,49,50,51] [52] 53 [([(45,false,(.t 45))],(.op (.un .not (.t 0)) [(.t 49)]))] [(52,(.pick (.t 41) (.pick (.t 45) (.c (.s (.bool true))) (.op (.un .not (.t 0)) [(.t 49)])) (.c (.s (.bool false)))))] [.keep [(45,false,(.t 45))] (.op (.un .not (.t 0)) [(.t 49)]),.sub 0 [1] [41],.sub 0 [] []] (by kernel_rfl) (by kernel_rfl)
def s_f16_r11t9_x:=hL s_f16_r11t9 [39,40,41,42,43,44,45,46,47,48,49,50,51] [52]
def s_f16_r12t4:List AOper:=[⟨none,(.store 1 (.t 66) (.t 65)),none⟩]
def s_f16_r12p3:List AOper:=[⟨some 66,(.indexAddr 1 (.t 57) (.t 58)),none⟩]
def s_f16_r12t3:List AOper:=s_f16_r12p3 ++ s_f16_r12t4
def s_f16_r12p2:List AOper:=[⟨some 65,(.append 1 8 (.t 62) (.t 64)),none⟩]
def s_f16_r12t2:List AOper:=s_f16_r12p2 ++ s_f16_r12t3
def s_f16_r12p1:List AOper:=[⟨some 64,(.buildSl 1 1 [(.s (.int .i64 0))] [(0,(.t 63))]),none⟩]
def s_f16_r12t1:List AOper:=s_f16_r12p1 ++ s_f16_r12t2
def s_f16_r12p0:List AOper:=[⟨some 57,(.move (.t 6)),none⟩,⟨some 58,(.move (.t 11)),none⟩,⟨some 59,(.move (.t 6)),none⟩,⟨some 60,(.move (.t 11)),none⟩,⟨some 61,(.indexAddr 1 (.t 59) (.t 60)),none⟩,⟨some 62,(.load false 1 (.t 61)),none⟩,⟨some 63,(.move (.t 10)),none⟩]
def s_f16_r12:List AOper:=s_f16_r12p0 ++ s_f16_r12t1
def s_f16_r12p0_tale:=hT s_f16_r12p0 [52,59,60,61] [57,58,62,63] 64 [] [(57,(.t 6)),(58,(.t 11)),(62,(.op (.load false 1 (.t 0)) [(.op (.indexAddr 1 (.t 0) (.t 1)) [(.t 6),(.t 11)])])),(63,(.t 10))] [.tt 6,.tt 11,.tt 6,.tt 11,.sub 2 [0] [],.sub 2 [] [],.tt 10] (by kernel_rfl) (by kernel_rfl)
def s_f16_r12_x:=hS s_f16_r12 s_f16_r12p0 s_f16_r12t1 [52,59,60,61] [57,58,62,63] [52,57,58,59,60,61,62,63,64,65,66] rfl (by kernel_rfl)
def s_f16_r12t1_x:=hO s_f16_r12t1 s_f16_r12p1 s_f16_r12t2 [63] [52,57,58,59,60,61,62,63,64,65,66] [⟨some 64,(.buildSl 1 1 [(.s (.int .i64 0))] [(0,(.t 63))]),none⟩] rfl rfl (by kernel_rfl)
def s_f16_r12t2_x:=hO s_f16_r12t2 s_f16_r12p2 s_f16_r12t3 [62,64] [52,57,58,59,60,61,62,63,64,65,66] [⟨some 65,(.append 1 8 (.t 62) (.t 64)),none⟩] rfl rfl (by kernel_rfl)
def s_f16_r12p3_tale:=hT s_f16_r12p3 [57,58] [66] 67 [] [(66,(.op (.indexAddr 1 (.t 0) (.t 1)) [(.t 57),(.t 58)]))] [.sub 0 [] []] (by kernel_rfl) (by kernel_rfl)
def s_f16_r12t3_x:=hS s_f16_r12t3 s_f16_r12p3 s_f16_r12t4 [57,58] [66] [52,57,58,59,60,61,62,63,64,65,66] rfl (by kernel_rfl)
def s_f16_r12t4_x:=hX s_f16_r12t4 [52,57,58,59,60,61,62,63,64,65,66] [⟨none,(.store 1 (.t 66) (.t 65)),none⟩] rfl
def s_f16_r13:List AOper:=[
 ⟨some 53,(.move (.t 5)),none⟩,
 ⟨some 54,(.move (.t 11)),none⟩,
 ⟨some 55,(.indexAddr 1 (.t 53) (.t 54)),none⟩,
 ⟨some 56,(.load false 1 (.t 55)),none⟩,
 ⟨some 11,(.move (.t 56)),none⟩]
def s_f16_r13_tale:=hT s_f16_r13 [53,54,55,56] [11] 57 [] [(11,(.op (.load false 1 (.t 0)) [(.op (.indexAddr 1 (.t 0) (.t 1)) [(.t 5),(.t 11)])]))] [.tt 5,.tt 11,.sub 0 [0] [],.sub 0 [] [],.sub 0 [] []] (by kernel_rfl) (by kernel_rfl)
def s_f16_l0_b:ACode:=
 (.seq (.seq (.region s_f16_r11 [] [39,40,41,42,43,44,45,46,47,48,49,50,51])
 (.cond (.t 52)
 .skip
 (.exit 4)))
 (.seq (.block 5
 (.region s_f16_r12 [] [52,57,58,59,60,61,62,63,64,65,66]))
 (.regionE s_f16_r13 [53,54,55,56] [11])))
def s_f16_l0:ACode:=s_f16_l0_b
def s_f16_l0_ev:=hE s_f16_l0 s_f16_l0_b rfl
def s_f16_r14:List AOper:=[
 ⟨some 67,(.bin .add (.t 34) (.c (.s (.int .i64 1)))),none⟩,
 ⟨some 34,(.move (.t 67)),none⟩]
def s_f16_r14_tale:=hT s_f16_r14 [10,11,52,67] [34] 68 [] [(34,(.op (.bin .add (.t 0) (.c (.s (.int .i64 1)))) [(.t 34),(.c (.s (.int .i64 1)))]))] [.sub 0 [] [],.sub 0 [] []] (by kernel_rfl) (by kernel_rfl)
def s_f16_l1_b:ACode:=
 (.seq (.regionE s_f16_r8 [] [35])
 (.seq (.cond (.t 35)
 .skip
 (.exit 2))
 (.seq (.block 3
 (.seq (.regionE s_f16_r9 [35,36,37] [10])
 (.seq (.regionE s_f16_r10 [38] [11])
 (.block 4
 (.loop [] s_f16_l0)))))
 (.regionE s_f16_r14 [10,11,52,67] [34]))))
def s_f16_l1:ACode:=s_f16_l1_b
def s_f16_l1_ev:=hE s_f16_l1 s_f16_l1_b rfl
def s_f16_r15:List AOper:=[
 ⟨some 68,(.bin .add (.t 22) (.c (.s (.int .i64 1)))),none⟩,
 ⟨some 22,(.move (.t 68)),none⟩]
def s_f16_r15_tale:=hT s_f16_r15 [7,8,31,32,33,34,35,68] [22] 69 [] [(22,(.op (.bin .add (.t 0) (.c (.s (.int .i64 1)))) [(.t 22),(.c (.s (.int .i64 1)))]))] [.sub 0 [] [],.sub 0 [] []] (by kernel_rfl) (by kernel_rfl)
def s_f16_l2_b:ACode:=
 (.seq (.regionE s_f16_r4 [] [23])
 (.seq (.cond (.t 23)
 .skip
 (.exit 0))
 (.seq (.block 1
 (.seq (.regionE s_f16_r5 [23,24,25,26] [7,8])
 (.seq (.seq (.regionE s_f16_r6 [27,28,29,30] [31])
 (.cond (.t 31)
 (.exit 1)
 .skip))
 (.seq (.regionE s_f16_r7 [8,31] [32,33,34])
 (.block 2
 (.loop [] s_f16_l1))))))
 (.regionE s_f16_r15 [7,8,31,32,33,34,35,68] [22]))))
def s_f16_l2:ACode:=s_f16_l2_b
def s_f16_l2_ev:=hE s_f16_l2 s_f16_l2_b rfl
def s_f16_r16:List AOper:=[
 ⟨some 69,(.move (.t 6)),none⟩,
 ⟨some 70,(.lenS .s (.t 69)),none⟩,
 ⟨some 71,(.move (.c (.s (.int .i64 0)))),none⟩]
def s_f16_r16_tale:=hT s_f16_r16 [5,20,21,22,23,69] [70,71] 72 [] [(70,(.op (.lenS .s (.t 0)) [(.t 6)])),(71,(.c (.s (.int .i64 0))))] [.tt 6,.sub 0 [] [],.cc (.s (.int .i64 0))] (by kernel_rfl) (by kernel_rfl)
def s_f16_r17:List AOper:=[
 ⟨some 72,(.bin .lss (.t 71) (.t 70)),none⟩]
def s_f16_r17_tale:=hT s_f16_r17 [] [72] 73 [] [(72,(.op (.bin .lss (.t 0) (.t 1)) [(.t 71),(.t 70)]))] [.sub 0 [] []] (by kernel_rfl) (by kernel_rfl)
def s_f16_r18:List AOper:=[
 ⟨some 73,(.move (.t 71)),none⟩,
 ⟨some 12,(.move (.t 73)),none⟩]
def s_f16_r18_tale:=hT s_f16_r18 [72,73] [12] 74 [] [(12,(.t 71))] [.tt 71,.tt 71] (by kernel_rfl) (by kernel_rfl)
def s_f16_r19t1:List AOper:=[⟨some 78,(.call (.c (.fn 29 [] [])) [(.t 77)]),none⟩]
def s_f16_r19p0:List AOper:=[⟨some 74,(.move (.t 6)),none⟩,⟨some 75,(.move (.t 12)),none⟩,⟨some 76,(.indexAddr 1 (.t 74) (.t 75)),none⟩,⟨some 77,(.load false 1 (.t 76)),none⟩]
def s_f16_r19:List AOper:=s_f16_r19p0 ++ s_f16_r19t1
def s_f16_r19p0_tale:=hT s_f16_r19p0 [74,75,76] [77] 78 [] [(77,(.op (.load false 1 (.t 0)) [(.op (.indexAddr 1 (.t 0) (.t 1)) [(.t 6),(.t 12)])]))] [.tt 6,.tt 12,.sub 0 [0] [],.sub 0 [] []] (by kernel_rfl) (by kernel_rfl)
def s_f16_r19_x:=hS s_f16_r19 s_f16_r19p0 s_f16_r19t1 [74,75,76] [77] [74,75,76,77,78] rfl (by kernel_rfl)
def s_f16_r19t1_x:=hX s_f16_r19t1 [74,75,76,77,78] [⟨some 78,(.call (.c (.fn 29 [] [])) [(.t 77)]),none⟩] rfl
def s_f16_r20t3:List AOper:=[⟨none,(.store 1 (.t 86) (.t 85)),none⟩]
def s_f16_r20p2:List AOper:=[⟨some 86,(.indexAddr 1 (.t 79) (.t 80)),none⟩]
def s_f16_r20t2:List AOper:=s_f16_r20p2 ++ s_f16_r20t3
def s_f16_r20p1:List AOper:=[⟨some 85,(.call (.c (.fn 30 [] [])) [(.t 84)]),none⟩]
def s_f16_r20t1:List AOper:=s_f16_r20p1 ++ s_f16_r20t2
def s_f16_r20p0:List AOper:=[⟨some 79,(.move (.t 6)),none⟩,⟨some 80,(.move (.t 12)),none⟩,⟨some 81,(.move (.t 6)),none⟩,⟨some 82,(.move (.t 12)),none⟩,⟨some 83,(.indexAddr 1 (.t 81) (.t 82)),none⟩,⟨some 84,(.load false 1 (.t 83)),none⟩]
def s_f16_r20:List AOper:=s_f16_r20p0 ++ s_f16_r20t1
def s_f16_r20p0_tale:=hT s_f16_r20p0 [12,81,82,83] [79,80,84] 85 [] [(79,(.t 6)),(80,(.t 12)),(84,(.op (.load false 1 (.t 0)) [(.op (.indexAddr 1 (.t 0) (.t 1)) [(.t 6),(.t 12)])]))] [.tt 6,.tt 12,.tt 6,.tt 12,.sub 2 [0] [],.sub 2 [] []] (by kernel_rfl) (by kernel_rfl)
def s_f16_r20_x:=hS s_f16_r20 s_f16_r20p0 s_f16_r20t1 [12,81,82,83] [79,80,84] [12,79,80,81,82,83,84,85,86] rfl (by kernel_rfl)
def s_f16_r20t1_x:=hO s_f16_r20t1 s_f16_r20p1 s_f16_r20t2 [84] [12,79,80,81,82,83,84,85,86] [⟨some 85,(.call (.c (.fn 30 [] [])) [(.t 84)]),none⟩] rfl rfl (by kernel_rfl)
def s_f16_r20p2_tale:=hT s_f16_r20p2 [79,80] [86] 87 [] [(86,(.op (.indexAddr 1 (.t 0) (.t 1)) [(.t 79),(.t 80)]))] [.sub 0 [] []] (by kernel_rfl) (by kernel_rfl)
def s_f16_r20t2_x:=hS s_f16_r20t2 s_f16_r20p2 s_f16_r20t3 [79,80] [86] [12,79,80,81,82,83,84,85,86] rfl (by kernel_rfl)
def s_f16_r20t3_x:=hX s_f16_r20t3 [12,79,80,81,82,83,84,85,86] [⟨none,(.store 1 (.t 86) (.t 85)),none⟩] rfl
def s_f16_r21:List AOper:=[
 ⟨some 87,(.bin .add (.t 71) (.c (.s (.int .i64 1)))),none⟩,
 ⟨some 71,(.move (.t 87)),none⟩]
def s_f16_r21_tale:=hT s_f16_r21 [87] [71] 88 [] [(71,(.op (.bin .add (.t 0) (.c (.s (.int .i64 1)))) [(.t 71),(.c (.s (.int .i64 1)))]))] [.sub 0 [] [],.sub 0 [] []] (by kernel_rfl) (by kernel_rfl)
def s_f16_l3_b:ACode:=
 (.seq (.regionE s_f16_r17 [] [72])
 (.seq (.cond (.t 72)
 .skip
 (.exit 6))
 (.seq (.block 7
 (.seq (.regionE s_f16_r18 [72,73] [12])
 (.seq (.region s_f16_r19 [] [74,75,76,77,78])
 (.region s_f16_r20 [] [12,79,80,81,82,83,84,85,86]))))
 (.regionE s_f16_r21 [87] [71]))))
def s_f16_l3:ACode:=s_f16_l3_b
def s_f16_l3_ev:=hE s_f16_l3 s_f16_l3_b rfl
def s_f16_r22:List AOper:=[
 ⟨some 88,(.move (.t 6)),none⟩,
 ⟨some 4,(.move (.t 88)),none⟩]
def s_f16_r22_tale:=hT s_f16_r22 [6,70,71,72,88] [4] 89 [] [(4,(.t 6))] [.tt 6,.tt 6] (by kernel_rfl) (by kernel_rfl)
def s_f16:ACFun:={ ntmps:=89,results:=[(.tmp 4)],body:=
 (.seq (.regionE s_f16_r0 s_f16_r0_k [])
 (.seq (.region s_f16_r1 [] [1,13,14,15])
 (.seq (.region s_f16_r2 [] [16,17,18])
 (.seq (.seq (.region s_f16_r3 [] [0,19])
 (.block 0
 (.loop [] s_f16_l2)))
 (.seq (.seq (.regionE s_f16_r16 [5,20,21,22,23,69] [70,71])
 (.block 6
 (.loop [] s_f16_l3)))
 (.seq (.regionE s_f16_r22 [6,70,71,72,88] [4])
 .ret)))))) }
def s_f19_r0_k:List Nat:=[2,3,4,5,6,7,8,9,10,11,12,13,14,15,16,17,18,19,20,21,22,23,24,25,26,27,28,29,30,31,32,33,34,35,36,37,38,39,40,41,42,43,44,45,46,47,48,49,50,51,52,53,54,55,56,57,58,59,60,61,62,63,64,65,66,67,68,69,70,71]
def s_f19_r0:List AOper:=[
 ⟨some 4,(.move (.c (.s (.slice none 0 0)))),none⟩]
def s_f19_r1t1:List AOper:=[⟨some 5,(.move (.t 12)),none⟩]
def s_f19_r1p0:List AOper:=[⟨some 12,.mapNew,none⟩]
def s_f19_r1:List AOper:=s_f19_r1p0 ++ s_f19_r1t1
def s_f19_r2t1:List AOper:=[⟨some 6,(.move (.t 13)),none⟩]
def s_f19_r2p0:List AOper:=[⟨some 13,.mapNew,none⟩]
def s_f19_r2:List AOper:=s_f19_r2p0 ++ s_f19_r2t1
def s_f19_r3:List AOper:=[
 ⟨some 14,(.move (.t 1)),none⟩,
 ⟨some 15,(.lenS .s (.t 14)),none⟩,
 ⟨some 16,(.move (.c (.s (.int .i64 0)))),none⟩]
def s_f19_r4:List AOper:=[
 ⟨some 17,(.bin .lss (.t 16) (.t 15)),none⟩]
def s_f19_r5:List AOper:=[
 ⟨some 18,(.indexAddr 1 (.t 14) (.t 16)),none⟩,
 ⟨some 19,(.load false 1 (.t 18)),none⟩,
 ⟨some 8,(.move (.t 19)),none⟩]
def s_f19_r6:List AOper:=[
 ⟨some 20,(.move (.t 8)),none⟩,
 ⟨some 21,(.bin .geq (.t 20) (.c (.s (.int .i64 0)))),none⟩,
 ⟨some 22,(.move (.t 21)),none⟩,
 ⟨some 23,(.move (.t 8)),some (22,true)⟩,
 ⟨some 24,(.move (.t 0)),some (22,true)⟩,
 ⟨some 25,(.lenS .s (.t 24)),some (22,true)⟩,
 ⟨some 26,(.bin .lss (.t 23) (.t 25)),some (22,true)⟩,
 ⟨some 27,(.pick (.t 22) (.t 26) (.c (.s (.bool false)))),none⟩]
def s_f19_r7t1:List AOper:=[⟨none,(.mapUpd (.int .i64) (.t 28) (.t 29) (.c (.s (.bool true)))),none⟩]
def s_f19_r7p0:List AOper:=[⟨some 28,(.move (.t 6)),none⟩,⟨some 29,(.move (.t 8)),none⟩]
def s_f19_r7:List AOper:=s_f19_r7p0 ++ s_f19_r7t1
def s_f19_r8:List AOper:=[
 ⟨some 30,(.bin .add (.t 16) (.c (.s (.int .i64 1)))),none⟩,
 ⟨some 16,(.move (.t 30)),none⟩]
def s_f19_l0_b:ACode:=
 (.seq (.regionE s_f19_r4 [] [17])
 (.seq (.cond (.t 17)
 .skip
 (.exit 0))
 (.seq (.block 1
 (.seq (.regionE s_f19_r5 [17,18,19] [8])
 (.seq (.regionE s_f19_r6 [20,21,22,23,24,25,26] [27])
 (.cond (.t 27)
 (.region s_f19_r7 [] [8,27,28,29])
 .skip))))
 (.regionE s_f19_r8 [8,27,30] [16]))))
def s_f19_l0:ACode:=s_f19_l0_b
def s_f19_r9:List AOper:=[
 ⟨some 31,(.move (.t 6)),none⟩,
 ⟨some 32,(.lenS .m (.t 31)),none⟩,
 ⟨some 33,(.bin .gtr (.t 32) (.c (.s (.int .i64 0)))),none⟩]
def s_f19_r10t3:List AOper:=[⟨some 37,(.indexAddr 1 (.t 36) (.c (.s (.int .i64 0)))),none⟩,⟨some 38,(.load false 1 (.t 37)),none⟩,⟨some 9,(.move (.t 38)),none⟩]
def s_f19_r10p2:List AOper:=[⟨some 36,(.call (.c (.fn 36 [] [])) [(.t 35)]),none⟩]
def s_f19_r10t2:List AOper:=s_f19_r10p2 ++ s_f19_r10t3
def s_f19_r10p1:List AOper:=[⟨some 35,(.call (.c (.fn 37 [] [])) [(.t 34)]),none⟩]
def s_f19_r10t1:List AOper:=s_f19_r10p1 ++ s_f19_r10t2
def s_f19_r10p0:List AOper:=[⟨some 34,(.move (.t 6)),none⟩]
def s_f19_r10:List AOper:=s_f19_r10p0 ++ s_f19_r10t1
def s_f19_r11t1:List AOper:=[⟨none,(.delete (.int .i64) (.t 39) (.t 40)),none⟩]
def s_f19_r11p0:List AOper:=[⟨some 39,(.move (.t 6)),none⟩,⟨some 40,(.move (.t 9)),none⟩]
def s_f19_r11:List AOper:=s_f19_r11p0 ++ s_f19_r11t1
def s_f19_r12:List AOper:=[
 ⟨some 41,(.move (.t 0)),none⟩,
 ⟨some 42,(.move (.t 9)),none⟩,
 ⟨some 43,(.indexAddr 1 (.t 41) (.t 42)),none⟩,
 ⟨some 44,(.load false 1 (.t 43)),none⟩,
 ⟨some 45,(.lenS .s (.t 44)),none⟩,
 ⟨some 46,(.move (.c (.s (.int .i64 0)))),none⟩]
def s_f19_r13:List AOper:=[
 ⟨some 47,(.bin .lss (.t 46) (.t 45)),none⟩]
def s_f19_r14:List AOper:=[
 ⟨some 48,(.indexAddr 1 (.t 44) (.t 46)),none⟩,
 ⟨some 49,(.load false 1 (.t 48)),none⟩,
 ⟨some 11,(.move (.t 49)),none⟩]
def s_f19_r15:List AOper:=[
 ⟨some 50,(.move (.t 11)),none⟩,
 ⟨some 51,(.bin .geq (.t 50) (.c (.s (.int .i64 0)))),none⟩,
 ⟨some 52,(.move (.t 51)),none⟩,
 ⟨some 53,(.move (.t 11)),some (52,true)⟩,
 ⟨some 54,(.move (.t 0)),some (52,true)⟩,
 ⟨some 55,(.lenS .s (.t 54)),some (52,true)⟩,
 ⟨some 56,(.bin .lss (.t 53) (.t 55)),some (52,true)⟩,
 ⟨some 57,(.pick (.t 52) (.t 56) (.c (.s (.bool false)))),none⟩,
 ⟨some 58,(.move (.t 57)),none⟩,
 ⟨some 59,(.move (.t 5)),some (58,true)⟩,
 ⟨some 60,(.move (.t 11)),some (58,true)⟩,
 ⟨some 61,(.mapGet (.int .i64) (.s (.bool false)) (.t 59) (.t 60) false),some (58,true)⟩,
 ⟨some 62,(.un .not (.t 61)),some (58,true)⟩,
 ⟨some 63,(.pick (.t 58) (.t 62) (.c (.s (.bool false)))),none⟩]
def s_f19_r16t2:List AOper:=[⟨none,(.mapUpd (.int .i64) (.t 66) (.t 67) (.c (.s (.bool true)))),none⟩]
def s_f19_r16p1:List AOper:=[⟨none,(.mapUpd (.int .i64) (.t 64) (.t 65) (.c (.s (.bool true)))),none⟩]
def s_f19_r16t1:List AOper:=s_f19_r16p1 ++ s_f19_r16t2
def s_f19_r16p0:List AOper:=[⟨some 64,(.move (.t 5)),none⟩,⟨some 65,(.move (.t 11)),none⟩,⟨some 66,(.move (.t 6)),none⟩,⟨some 67,(.move (.t 11)),none⟩]
def s_f19_r16:List AOper:=s_f19_r16p0 ++ s_f19_r16t1
def s_f19_r17:List AOper:=[
 ⟨some 68,(.bin .add (.t 46) (.c (.s (.int .i64 1)))),none⟩,
 ⟨some 46,(.move (.t 68)),none⟩]
def s_f19_l1_b:ACode:=
 (.seq (.regionE s_f19_r13 [] [47])
 (.seq (.cond (.t 47)
 .skip
 (.exit 4))
 (.seq (.block 5
 (.seq (.regionE s_f19_r14 [47,48,49] [11])
 (.seq (.regionE s_f19_r15 [50,51,52,53,54,55,56,57,58,59,60,61,62] [63])
 (.cond (.t 63)
 (.region s_f19_r16 [] [11,63,64,65,66,67])
 .skip))))
 (.regionE s_f19_r17 [11,63,68] [46]))))
def s_f19_l1:ACode:=s_f19_l1_b
def s_f19_l2_b:ACode:=
 (.seq (.seq (.regionE s_f19_r9 [31,32] [33])
 (.cond (.t 33)
 .skip
 (.exit 2)))
 (.block 3
 (.seq (.region s_f19_r10 [] [33,34,35,36,37,38])
 (.seq (.region s_f19_r11 [] [39,40])
 (.seq (.regionE s_f19_r12 [9,41,42,43] [44,45,46])
 (.block 4
 (.loop [] s_f19_l1)))))))
def s_f19_l2:ACode:=s_f19_l2_b
def s_f19_r18t3:List AOper:=[⟨some 4,(.move (.t 71)),none⟩]
def s_f19_r18p2:List AOper:=[⟨some 71,(.call (.c (.fn 36 [] [])) [(.t 70)]),none⟩]
def s_f19_r18t2:List AOper:=s_f19_r18p2 ++ s_f19_r18t3
def s_f19_r18p1:List AOper:=[⟨some 70,(.call (.c (.fn 37 [] [])) [(.t 69)]),none⟩]
def s_f19_r18t1:List AOper:=s_f19_r18p1 ++ s_f19_r18t2
def s_f19_r18p0:List AOper:=[⟨some 69,(.move (.t 5)),none⟩]
def s_f19_r18:List AOper:=s_f19_r18p0 ++ s_f19_r18t1
def s_f19:ACFun:={ ntmps:=72,results:=[(.tmp 4)],body:=
 (.seq (.regionE s_f19_r0 s_f19_r0_k [])
 (.seq (.region s_f19_r1 [] [12])
 (.seq (.region s_f19_r2 [] [13])
 (.seq (.seq (.regionE s_f19_r3 [1] [14,15,16])
 (.block 0
 (.loop [] s_f19_l0)))
 (.seq (.block 2
 (.loop [14,15,16,17,44,45,46,47] s_f19_l2))
 (.seq (.region s_f19_r18 [] [0,5,6,33,69,70,71])
 .ret)))))) }
def s_f37_r0_k:List Nat:=[0,2,3]
def s_f37_r0t1:List AOper:=[⟨some 2,(.move (.c (.s .nilFunc))),none⟩]
def s_f37_r0p0:List AOper:=[⟨some 1,(.box (.t 0)),none⟩]
def s_f37_r0:List AOper:=s_f37_r0p0 ++ s_f37_r0t1
def s_f37_r1:List AOper:=[
 ⟨some 3,(.mkFn 49 [] [(.t 1)]),none⟩,
 ⟨some 2,(.move (.t 3)),none⟩]
def s_f37:ACFun:={ ntmps:=4,results:=[(.tmp 2)],body:=
 (.seq (.region s_f37_r0 [] s_f37_r0_k)
 (.seq (.regionE s_f37_r1 [1,3] [2])
 .ret)) }
def a_f16:=ai @s_f16_r0_tale (ai @s_f16_r0_kT (ai @s_f16_r0_kA0 (ai @s_f16_r0_kA1 (ai @s_f16_r1p0_tale (ai @s_f16_r1_x (ai @s_f16_r1t1_x (ai @s_f16_r1t2_tale (ai @s_f16_r1t2_x (ai @s_f16_r2p0_tale (ai @s_f16_r2_x (ai @s_f16_r2t1_x (ai @s_f16_r2t2_tale (ai @s_f16_r2t2_x (ai @s_f16_r3p0_tale (ai @s_f16_r3_x (ai @s_f16_r3t1_x (ai @s_f16_r3t2_tale (ai @s_f16_r3t2_x (ai @s_f16_r4_tale (ai @s_f16_r5_tale (ai @s_f16_r6_tale (ai @s_f16_r7_tale (ai @s_f16_r8_tale (ai @s_f16_r9_tale (ai @s_f16_r10_tale (ai @s_f16_r11p0_tale (ai @s_f16_r11_x (ai @s_f16_r11t1_x (ai @s_f16_r11t2_x (ai @s_f16_r11t3_x (ai @s_f16_r11t4_x (ai @s_f16_r11t5_x (ai @s_f16_r11t6_x (ai @s_f16_r11t7_x (ai @s_f16_r11t8_x (ai @s_f16_r11t9_tale (ai @s_f16_r11t9_x (ai @s_f16_r12p0_tale (ai @s_f16_r12_x (ai @s_f16_r12t1_x (ai @s_f16_r12t2_x (ai @s_f16_r12p3_tale (ai @s_f16_r12t3_x (ai @s_f16_r12t4_x (ai @s_f16_r13_tale (ai @s_f16_l0_ev (ai @s_f16_r14_tale (ai @s_f16_l1_ev (ai @s_f16_r15_tale (ai @s_f16_l2_ev (ai @s_f16_r16_tale (ai @s_f16_r17_tale (ai @s_f16_r18_tale (ai @s_f16_r19p0_tale (ai @s_f16_r19_x (ai @s_f16_r19t1_x (ai @s_f16_r20p0_tale (ai @s_f16_r20_x (ai @s_f16_r20t1_x (ai @s_f16_r20p2_tale (ai @s_f16_r20t2_x (ai @s_f16_r20t3_x (ai @s_f16_r21_tale (ai @s_f16_l3_ev (@s_f16_r22_tale)))))))))))))))))))))))))))))))))))))))))))))))))))))))))))))))))
theorem DA4_16:compK Try.prog PX0 16=some (false,s_f16.ntmps,s_f16.results,s_f16.body.bare):=by kernel_rfl
theorem DA4_19:compK Try.prog PX0 19=some (false,s_f19.ntmps,s_f19.results,s_f19.body.bare):=by kernel_rfl
theorem DA4_37:compK Try.prog PX0 37=some (false,s_f37.ntmps,s_f37.results,s_f37.body.bare):=by kernel_rfl
end Go.Proofs.Ytdmnenlpdeolaaa
set_option maxRecDepth 100000
namespace Go.Proofs.Ytdmnenlpdeolaaa
open Go.AM
def c_f9:ACFun:={ ntmps:=34,results:=[(.tmp 0)],body:=
 (.seq (.region [
  ⟨some 0,(.move (.c (.s (.bool false)))),none⟩] [] [])
 (.seq (.region [
  ⟨some 3,(.call (.c (.fn 23 [] [])) []),none⟩,
  ⟨some 4,(.call (.c (.fn 10 [] [])) [(.t 3),(.c (.s (.int .i64 0)))]),none⟩,
  ⟨some 1,(.move (.t 4)),none⟩] [] [])
 (.seq (.region [
  ⟨some 5,(.call (.c (.fn 23 [] [])) []),none⟩,
  ⟨some 6,(.call (.c (.fn 16 [] [])) [(.t 5),(.c (.s (.int .i64 0)))]),none⟩,
  ⟨some 2,(.move (.t 6)),none⟩] [] [])
 (.seq (.region [
  ⟨some 7,(.move (.t 1)),none⟩,
  ⟨some 8,(.buildSl 1 4 [(.s (.int .i64 0)),(.s (.int .i64 0)),(.s (.int .i64 0)),(.s (.int .i64 0))] [(0,(.c (.s (.int .i64 (-1))))),(1,(.c (.s (.int .i64 0)))),(2,(.c (.s (.int .i64 0)))),(3,(.c (.s (.int .i64 0))))]),none⟩,
  ⟨some 9,(.call (.c (.fn 11 [] [])) [(.t 7),(.t 8)]),none⟩,
  ⟨some 10,(.move (.t 9)),none⟩,
  ⟨some 11,(.move (.t 1)),some (10,true)⟩,
  ⟨some 12,(.call (.c (.fn 13 [] [])) [(.t 11),(.c (.s (.int .i64 0))),(.c (.s (.int .i64 3)))]),some (10,true)⟩,
  ⟨some 13,(.pick (.t 10) (.t 12) (.c (.s (.bool false)))),none⟩,
  ⟨some 14,(.move (.t 13)),none⟩,
  ⟨some 15,(.move (.t 1)),some (14,true)⟩,
  ⟨some 16,(.call (.c (.fn 13 [] [])) [(.t 15),(.c (.s (.int .i64 1))),(.c (.s (.int .i64 3)))]),some (14,true)⟩,
  ⟨some 17,(.un .not (.t 16)),some (14,true)⟩,
  ⟨some 18,(.pick (.t 14) (.t 17) (.c (.s (.bool false)))),none⟩,
  ⟨some 19,(.move (.t 18)),none⟩,
  ⟨some 20,(.move (.t 2)),some (19,true)⟩,
  ⟨some 21,(.buildSl 1 1 [(.s (.int .i64 0))] [(0,(.c (.s (.int .i64 3))))]),some (19,true)⟩,
  ⟨some 22,(.buildSl 1 1 [(.s (.int .i64 0))] [(0,(.c (.s (.int .i64 3))))]),some (19,true)⟩,
  ⟨some 23,(.buildSl 1 1 [(.s (.int .i64 0))] [(0,(.c (.s (.int .i64 1))))]),some (19,true)⟩,
  ⟨some 24,(.buildSl 1 4 [(.s (.slice none 0 0)),(.s (.slice none 0 0)),(.s (.slice none 0 0)),(.s (.slice none 0 0))] [(0,(.c (.s (.slice none 0 0)))),(1,(.t 21)),(2,(.t 22)),(3,(.t 23))]),some (19,true)⟩,
  ⟨some 25,(.call (.c (.fn 15 [] [])) [(.t 20),(.t 24)]),some (19,true)⟩,
  ⟨some 26,(.pick (.t 19) (.t 25) (.c (.s (.bool false)))),none⟩,
  ⟨some 27,(.move (.t 26)),none⟩,
  ⟨some 28,(.move (.t 2)),some (27,true)⟩,
  ⟨some 29,(.buildSl 1 1 [(.s (.int .i64 0))] [(0,(.c (.s (.int .i64 2))))]),some (27,true)⟩,
  ⟨some 30,(.call (.c (.fn 19 [] [])) [(.t 28),(.t 29)]),some (27,true)⟩,
  ⟨some 31,(.buildSl 1 2 [(.s (.int .i64 0)),(.s (.int .i64 0))] [(0,(.c (.s (.int .i64 1)))),(1,(.c (.s (.int .i64 3))))]),some (27,true)⟩,
  ⟨some 32,(.call (.c (.fn 11 [] [])) [(.t 30),(.t 31)]),some (27,true)⟩,
  ⟨some 33,(.pick (.t 27) (.t 32) (.c (.s (.bool false)))),none⟩,
  ⟨some 0,(.move (.t 33)),none⟩] [] [])
 .ret)))) }
def c_f23:ACFun:={ ntmps:=6,results:=[(.tmp 0)],body:=
 (.seq (.region [
  ⟨some 0,(.move (.c (.s (.slice none 0 0)))),none⟩] [] [])
 (.seq (.region [
  ⟨some 1,(.buildSl 1 2 [(.s (.int .i64 0)),(.s (.int .i64 0))] [(0,(.c (.s (.int .i64 1)))),(1,(.c (.s (.int .i64 2))))]),none⟩,
  ⟨some 2,(.buildSl 1 1 [(.s (.int .i64 0))] [(0,(.c (.s (.int .i64 3))))]),none⟩,
  ⟨some 3,(.buildSl 1 1 [(.s (.int .i64 0))] [(0,(.c (.s (.int .i64 3))))]),none⟩,
  ⟨some 4,(.buildSl 1 1 [(.s (.int .i64 0))] [(0,(.c (.s (.int .i64 1))))]),none⟩,
  ⟨some 5,(.buildSl 1 4 [(.s (.slice none 0 0)),(.s (.slice none 0 0)),(.s (.slice none 0 0)),(.s (.slice none 0 0))] [(0,(.t 1)),(1,(.t 2)),(2,(.t 3)),(3,(.t 4))]),none⟩,
  ⟨some 0,(.move (.t 5)),none⟩] [] [])
 .ret)) }
def c_f29:ACFun:={ ntmps:=11,results:=[],body:=
 (.seq (.region [
  ⟨some 3,(.move (.t 0)),none⟩,
  ⟨some 4,(.lenS .s (.t 3)),none⟩,
  ⟨some 2,(.move (.t 4)),none⟩] [] [])
 (.region [
  ⟨some 5,(.move (.t 0)),none⟩,
  ⟨some 6,(.move (.t 2)),none⟩,
  ⟨some 7,(.move (.t 2)),none⟩,
  ⟨some 8,(.conv .u64 (.t 7)),none⟩,
  ⟨some 9,(.call (.c (.fn 46 [] [])) [(.t 8)]),none⟩,
  ⟨some 10,(.call (.c (.fn 45 [] [])) [(.t 5),(.c (.s (.int .i64 0))),(.t 6),(.t 9)]),none⟩] [] [])) }
def c_f45_l0:ACode:=
 (.block 1
  (.seq (.region [
   ⟨some 19,(.move (.t 2)),none⟩,
   ⟨some 20,(.move (.t 1)),none⟩,
   ⟨some 21,(.bin .sub (.t 19) (.t 20)),none⟩,
   ⟨some 10,(.move (.t 21)),none⟩] [] [])
  (.seq (.seq (.region [
   ⟨some 22,(.move (.t 10)),none⟩,
   ⟨some 23,(.bin .leq (.t 22) (.c (.s (.int .i64 12)))),none⟩] [] [])
  (.cond (.t 23)
   (.seq (.region [
    ⟨some 24,(.move (.t 0)),none⟩,
    ⟨some 25,(.move (.t 1)),none⟩,
    ⟨some 26,(.move (.t 2)),none⟩,
    ⟨some 27,(.call (.c (.fn 52 [] [])) [(.t 24),(.t 25),(.t 26)]),none⟩] [] [])
   .ret)
   .skip))
  (.seq (.seq (.region [
   ⟨some 28,(.move (.t 3)),none⟩,
   ⟨some 29,(.bin .eql (.t 28) (.c (.s (.int .i64 0)))),none⟩] [] [])
  (.cond (.t 29)
   (.seq (.region [
    ⟨some 30,(.move (.t 0)),none⟩,
    ⟨some 31,(.move (.t 1)),none⟩,
    ⟨some 32,(.move (.t 2)),none⟩,
    ⟨some 33,(.call (.c (.fn 53 [] [])) [(.t 30),(.t 31),(.t 32)]),none⟩] [] [])
   .ret)
   .skip))
  (.seq (.seq (.region [
   ⟨some 34,(.move (.t 8)),none⟩,
   ⟨some 35,(.un .not (.t 34)),none⟩] [] [])
  (.cond (.t 35)
   (.seq (.region [
    ⟨some 36,(.move (.t 0)),none⟩,
    ⟨some 37,(.move (.t 1)),none⟩,
    ⟨some 38,(.move (.t 2)),none⟩,
    ⟨some 39,(.call (.c (.fn 54 [] [])) [(.t 36),(.t 37),(.t 38)]),none⟩] [] [])
   (.region [
    ⟨some 40,(.move (.t 3)),none⟩,
    ⟨some 41,(.bin .sub (.t 40) (.c (.s (.int .i64 1)))),none⟩,
    ⟨some 3,(.move (.t 41)),none⟩] [] []))
   .skip))
  (.seq (.region [
   ⟨some 43,(.move (.t 0)),none⟩,
   ⟨some 44,(.move (.t 1)),none⟩,
   ⟨some 45,(.move (.t 2)),none⟩,
   ⟨some 46,(.call (.c (.fn 55 [] [])) [(.t 43),(.t 44),(.t 45)]),none⟩,
   ⟨some 42,(.move (.t 46)),none⟩,
   ⟨some 47,(.extract (.t 42) 0),none⟩,
   ⟨some 48,(.extract (.t 42) 1),none⟩,
   ⟨some 11,(.move (.t 47)),none⟩,
   ⟨some 12,(.move (.t 48)),none⟩] [] [])
  (.seq (.seq (.region [
   ⟨some 49,(.move (.t 12)),none⟩,
   ⟨some 50,(.bin .eql (.t 49) (.c (.s (.int .i64 2)))),none⟩] [] [])
  (.cond (.t 50)
   (.seq (.region [
    ⟨some 51,(.move (.t 0)),none⟩,
    ⟨some 52,(.move (.t 1)),none⟩,
    ⟨some 53,(.move (.t 2)),none⟩,
    ⟨some 54,(.call (.c (.fn 56 [] [])) [(.t 51),(.t 52),(.t 53)]),none⟩] [] [])
   (.seq (.region [
    ⟨some 55,(.move (.t 2)),none⟩,
    ⟨some 56,(.bin .sub (.t 55) (.c (.s (.int .i64 1)))),none⟩,
    ⟨some 57,(.move (.t 11)),none⟩,
    ⟨some 58,(.move (.t 1)),none⟩,
    ⟨some 59,(.bin .sub (.t 57) (.t 58)),none⟩,
    ⟨some 60,(.bin .sub (.t 56) (.t 59)),none⟩,
    ⟨some 11,(.move (.t 60)),none⟩] [] [])
   (.region [
    ⟨some 12,(.move (.c (.s (.int .i64 1)))),none⟩] [] [])))
   .skip))
  (.seq (.seq (.region [
   ⟨some 61,(.move (.t 8)),none⟩,
   ⟨some 62,(.move (.t 61)),none⟩,
   ⟨some 63,(.move (.t 9)),some (62,true)⟩,
   ⟨some 64,(.pick (.t 62) (.t 63) (.c (.s (.bool false)))),none⟩,
   ⟨some 65,(.move (.t 64)),none⟩,
   ⟨some 66,(.move (.t 12)),some (65,true)⟩,
   ⟨some 67,(.bin .eql (.t 66) (.c (.s (.int .i64 1)))),some (65,true)⟩,
   ⟨some 68,(.pick (.t 65) (.t 67) (.c (.s (.bool false)))),none⟩] [] [])
  (.cond (.t 68)
   (.seq (.region [
    ⟨some 69,(.move (.t 0)),none⟩,
    ⟨some 70,(.move (.t 1)),none⟩,
    ⟨some 71,(.move (.t 2)),none⟩,
    ⟨some 72,(.call (.c (.fn 57 [] [])) [(.t 69),(.t 70),(.t 71)]),none⟩] [] [])
   (.cond (.t 72)
    .ret
    .skip))
   .skip))
  (.seq (.seq (.region [
   ⟨some 73,(.move (.t 1)),none⟩,
   ⟨some 74,(.bin .gtr (.t 73) (.c (.s (.int .i64 0)))),none⟩,
   ⟨some 75,(.move (.t 74)),none⟩,
   ⟨some 76,(.move (.t 0)),some (75,true)⟩,
   ⟨some 77,(.move (.t 1)),some (75,true)⟩,
   ⟨some 78,(.bin .sub (.t 77) (.c (.s (.int .i64 1)))),some (75,true)⟩,
   ⟨some 79,(.indexAddr 1 (.t 76) (.t 78)),some (75,true)⟩,
   ⟨some 80,(.load false 1 (.t 79)),some (75,true)⟩,
   ⟨some 81,(.move (.t 0)),some (75,true)⟩,
   ⟨some 82,(.move (.t 11)),some (75,true)⟩,
   ⟨some 83,(.indexAddr 1 (.t 81) (.t 82)),some (75,true)⟩,
   ⟨some 84,(.load false 1 (.t 83)),some (75,true)⟩,
   ⟨some 85,(.call (.c (.fn 58 [] [])) [(.t 80),(.t 84)]),some (75,true)⟩,
   ⟨some 86,(.un .not (.t 85)),some (75,true)⟩,
   ⟨some 87,(.pick (.t 75) (.t 86) (.c (.s (.bool false)))),none⟩] [] [])
  (.cond (.t 87)
   (.seq (.region [
    ⟨some 88,(.move (.t 0)),none⟩,
    ⟨some 89,(.move (.t 1)),none⟩,
    ⟨some 90,(.move (.t 2)),none⟩,
    ⟨some 91,(.move (.t 11)),none⟩,
    ⟨some 92,(.call (.c (.fn 59 [] [])) [(.t 88),(.t 89),(.t 90),(.t 91)]),none⟩,
    ⟨some 13,(.move (.t 92)),none⟩] [] [])
   (.seq (.region [
    ⟨some 93,(.move (.t 13)),none⟩,
    ⟨some 1,(.move (.t 93)),none⟩] [] [])
   (.exit 1)))
   .skip))
  (.seq (.region [
   ⟨some 95,(.move (.t 0)),none⟩,
   ⟨some 96,(.move (.t 1)),none⟩,
   ⟨some 97,(.move (.t 2)),none⟩,
   ⟨some 98,(.move (.t 11)),none⟩,
   ⟨some 99,(.call (.c (.fn 60 [] [])) [(.t 95),(.t 96),(.t 97),(.t 98)]),none⟩,
   ⟨some 94,(.move (.t 99)),none⟩,
   ⟨some 100,(.extract (.t 94) 0),none⟩,
   ⟨some 101,(.extract (.t 94) 1),none⟩,
   ⟨some 14,(.move (.t 100)),none⟩,
   ⟨some 15,(.move (.t 101)),none⟩] [] [])
  (.seq (.region [
   ⟨some 102,(.move (.t 15)),none⟩,
   ⟨some 9,(.move (.t 102)),none⟩] [] [])
  (.seq (.region [
   ⟨some 103,(.move (.t 14)),none⟩,
   ⟨some 104,(.move (.t 1)),none⟩,
   ⟨some 105,(.bin .sub (.t 103) (.t 104)),none⟩,
   ⟨some 106,(.move (.t 2)),none⟩,
   ⟨some 107,(.move (.t 14)),none⟩,
   ⟨some 108,(.bin .sub (.t 106) (.t 107)),none⟩,
   ⟨some 16,(.move (.t 105)),none⟩,
   ⟨some 17,(.move (.t 108)),none⟩] [] [])
  (.seq (.region [
   ⟨some 109,(.move (.t 10)),none⟩,
   ⟨some 110,(.bin .quo (.t 109) (.c (.s (.int .i64 8)))),none⟩,
   ⟨some 18,(.move (.t 110)),none⟩] [] [])
  (.seq (.region [
   ⟨some 111,(.move (.t 16)),none⟩,
   ⟨some 112,(.move (.t 17)),none⟩,
   ⟨some 113,(.bin .lss (.t 111) (.t 112)),none⟩] [] [])
  (.cond (.t 113)
   (.seq (.region [
    ⟨some 114,(.move (.t 16)),none⟩,
    ⟨some 115,(.move (.t 18)),none⟩,
    ⟨some 116,(.bin .geq (.t 114) (.t 115)),none⟩,
    ⟨some 8,(.move (.t 116)),none⟩] [] [])
   (.seq (.region [
    ⟨some 117,(.move (.t 0)),none⟩,
    ⟨some 118,(.move (.t 1)),none⟩,
    ⟨some 119,(.move (.t 14)),none⟩,
    ⟨some 120,(.move (.t 3)),none⟩,
    ⟨some 121,(.call (.c (.fn 45 [] [])) [(.t 117),(.t 118),(.t 119),(.t 120)]),none⟩] [] [])
   (.region [
    ⟨some 122,(.move (.t 14)),none⟩,
    ⟨some 123,(.bin .add (.t 122) (.c (.s (.int .i64 1)))),none⟩,
    ⟨some 1,(.move (.t 123)),none⟩] [] [])))
   (.seq (.region [
    ⟨some 124,(.move (.t 17)),none⟩,
    ⟨some 125,(.move (.t 18)),none⟩,
    ⟨some 126,(.bin .geq (.t 124) (.t 125)),none⟩,
    ⟨some 8,(.move (.t 126)),none⟩] [] [])
   (.seq (.region [
    ⟨some 127,(.move (.t 0)),none⟩,
    ⟨some 128,(.move (.t 14)),none⟩,
    ⟨some 129,(.bin .add (.t 128) (.c (.s (.int .i64 1)))),none⟩,
    ⟨some 130,(.move (.t 2)),none⟩,
    ⟨some 131,(.move (.t 3)),none⟩,
    ⟨some 132,(.call (.c (.fn 45 [] [])) [(.t 127),(.t 129),(.t 130),(.t 131)]),none⟩] [] [])
   (.region [
    ⟨some 133,(.move (.t 14)),none⟩,
    ⟨some 2,(.move (.t 133)),none⟩] [] []))))))))))))))))))
def c_f45_k0:List Nat:=[19,20,21,10,22,23,24,25,26,27,28,29,30,31,32,33,34,35,36,37,38,39,40,41,43,44,45,46,42,47,48,11,12,49,50,51,52,53,54,55,56,57,58,59,60,61,62,63,64,65,66,67,68,69,70,71,72,73,74,75,76,77,78,79,80,81,82,83,84,85,86,87,88,89,90,91,92,13,93,95,96,97,98,99,94,100,101,14,15,102,103,104,105,106,107,108,16,17,109,110,18,111,112,113,114,115,116,117,118,119,120,121,122,123,124,125,126,127,128,129,130,131,132,133]
def c_f45:ACFun:={ ntmps:=134,results:=[],body:=
 (.seq (.region [
  ⟨some 8,(.move (.c (.s (.bool true)))),none⟩] [] [])
 (.seq (.region [
  ⟨some 9,(.move (.c (.s (.bool true)))),none⟩] [] [])
 (.block 0
  (.loop c_f45_k0 c_f45_l0)))) }
def c_f46:ACFun:={ ntmps:=8,results:=[(.tmp 2)],body:=
 (.seq (.region [
  ⟨some 2,(.move (.c (.s (.int .i64 0)))),none⟩] [] [])
 (.seq (.cond (.c (.s (.bool false)))
  (.seq (.region [
   ⟨some 3,(.move (.t 0)),none⟩,
   ⟨some 4,(.conv .u32 (.t 3)),none⟩,
   ⟨some 5,(.call (.c (.fn 61 [] [])) [(.t 4)]),none⟩,
   ⟨some 2,(.move (.t 5)),none⟩] [] [])
  .ret)
  .skip)
 (.seq (.region [
  ⟨some 6,(.move (.t 0)),none⟩,
  ⟨some 7,(.call (.c (.fn 62 [] [])) [(.t 6)]),none⟩,
  ⟨some 2,(.move (.t 7)),none⟩] [] [])
 .ret))) }
def c_f52_l0:ACode:=
 (.seq (.seq (.region [
  ⟨some 16,(.move (.t 7)),none⟩,
  ⟨some 17,(.move (.t 1)),none⟩,
  ⟨some 18,(.bin .gtr (.t 16) (.t 17)),none⟩,
  ⟨some 19,(.move (.t 18)),none⟩,
  ⟨some 20,(.move (.t 0)),some (19,true)⟩,
  ⟨some 21,(.move (.t 7)),some (19,true)⟩,
  ⟨some 22,(.indexAddr 1 (.t 20) (.t 21)),some (19,true)⟩,
  ⟨some 23,(.load false 1 (.t 22)),some (19,true)⟩,
  ⟨some 24,(.move (.t 0)),some (19,true)⟩,
  ⟨some 25,(.move (.t 7)),some (19,true)⟩,
  ⟨some 26,(.bin .sub (.t 25) (.c (.s (.int .i64 1)))),some (19,true)⟩,
  ⟨some 27,(.indexAddr 1 (.t 24) (.t 26)),some (19,true)⟩,
  ⟨some 28,(.load false 1 (.t 27)),some (19,true)⟩,
  ⟨some 29,(.call (.c (.fn 58 [] [])) [(.t 23),(.t 28)]),some (19,true)⟩,
  ⟨some 30,(.pick (.t 19) (.t 29) (.c (.s (.bool false)))),none⟩] [] [])
 (.cond (.t 30)
  .skip
  (.exit 2)))
 (.seq (.block 3
  (.region [
   ⟨some 33,(.move (.t 0)),none⟩,
   ⟨some 34,(.move (.t 7)),none⟩,
   ⟨some 35,(.move (.t 0)),none⟩,
   ⟨some 36,(.move (.t 7)),none⟩,
   ⟨some 37,(.bin .sub (.t 36) (.c (.s (.int .i64 1)))),none⟩,
   ⟨some 38,(.move (.t 0)),none⟩,
   ⟨some 39,(.move (.t 7)),none⟩,
   ⟨some 40,(.bin .sub (.t 39) (.c (.s (.int .i64 1)))),none⟩,
   ⟨some 41,(.indexAddr 1 (.t 38) (.t 40)),none⟩,
   ⟨some 42,(.load false 1 (.t 41)),none⟩,
   ⟨some 43,(.move (.t 0)),none⟩,
   ⟨some 44,(.move (.t 7)),none⟩,
   ⟨some 45,(.indexAddr 1 (.t 43) (.t 44)),none⟩,
   ⟨some 46,(.load false 1 (.t 45)),none⟩,
   ⟨some 47,(.indexAddr 1 (.t 33) (.t 34)),none⟩,
   ⟨none,(.store 1 (.t 47) (.t 42)),none⟩,
   ⟨some 48,(.indexAddr 1 (.t 35) (.t 37)),none⟩,
   ⟨none,(.store 1 (.t 48) (.t 46)),none⟩] [] []))
 (.region [
  ⟨some 31,(.move (.t 7)),none⟩,
  ⟨some 32,(.bin .sub (.t 31) (.c (.s (.int .i64 1)))),none⟩,
  ⟨some 7,(.move (.t 32)),none⟩] [] [])))
def c_f52_k0:List Nat:=[16,17,18,19,20,21,22,23,24,25,26,27,28,29,30,33,34,35,36,37,38,39,40,41,42,43,44,45,46,47,48,31,32]
def c_f52_l1:ACode:=
 (.seq (.seq (.region [
  ⟨some 10,(.move (.t 6)),none⟩,
  ⟨some 11,(.move (.t 2)),none⟩,
  ⟨some 12,(.bin .lss (.t 10) (.t 11)),none⟩] [] [])
 (.cond (.t 12)
  .skip
  (.exit 0)))
 (.seq (.block 1
  (.seq (.region [
   ⟨some 15,(.move (.t 6)),none⟩,
   ⟨some 7,(.move (.t 15)),none⟩] [] [])
  (.block 2
   (.loop c_f52_k0 c_f52_l0))))
 (.region [
  ⟨some 13,(.move (.t 6)),none⟩,
  ⟨some 14,(.bin .add (.t 13) (.c (.s (.int .i64 1)))),none⟩,
  ⟨some 6,(.move (.t 14)),none⟩] [] [])))
def c_f52_k1:List Nat:=[10,11,12,15,7,16,17,18,19,20,21,22,23,24,25,26,27,28,29,30,33,34,35,36,37,38,39,40,41,42,43,44,45,46,47,48,31,32,13,14]
def c_f52:ACFun:={ ntmps:=49,results:=[],body:=
 (.seq (.region [
  ⟨some 8,(.move (.t 1)),none⟩,
  ⟨some 9,(.bin .add (.t 8) (.c (.s (.int .i64 1)))),none⟩,
  ⟨some 6,(.move (.t 9)),none⟩] [] [])
 (.block 0
  (.loop c_f52_k1 c_f52_l1))) }
def c_f58:ACFun:={ ntmps:=17,results:=[(.tmp 4)],body:=
 (.seq (.region [
  ⟨some 4,(.move (.c (.s (.bool false)))),none⟩] [] [])
 (.seq (.region [
  ⟨some 5,(.move (.t 0)),none⟩,
  ⟨some 6,(.call (.c (.fn 69 [] [])) [(.t 5)]),none⟩,
  ⟨some 7,(.move (.t 6)),none⟩,
  ⟨some 8,(.move (.t 1)),some (7,true)⟩,
  ⟨some 9,(.call (.c (.fn 69 [] [])) [(.t 8)]),some (7,true)⟩,
  ⟨some 10,(.un .not (.t 9)),some (7,true)⟩,
  ⟨some 11,(.pick (.t 7) (.t 10) (.c (.s (.bool false)))),none⟩,
  ⟨some 12,(.move (.t 11)),none⟩,
  ⟨some 13,(.move (.t 0)),some (12,false)⟩,
  ⟨some 14,(.move (.t 1)),some (12,false)⟩,
  ⟨some 15,(.bin .lss (.t 13) (.t 14)),some (12,false)⟩,
  ⟨some 16,(.pick (.t 12) (.c (.s (.bool true))) (.t 15)),none⟩,
  ⟨some 4,(.move (.t 16)),none⟩] [] [])
 .ret)) }
def c_f61:ACFun:={ ntmps:=19,results:=[(.tmp 2)],body:=
 (.seq (.region [
  ⟨some 2,(.move (.c (.s (.int .i64 0)))),none⟩] [] [])
 (.seq (.seq (.region [
  ⟨some 3,(.move (.t 0)),none⟩,
  ⟨some 4,(.bin .geq (.t 3) (.c (.s (.int .u32 65536)))),none⟩] [] [])
 (.cond (.t 4)
  (.seq (.region [
   ⟨some 5,(.move (.t 0)),none⟩,
   ⟨some 6,(.bin .shr (.t 5) (.c (.s (.int .u64 16)))),none⟩,
   ⟨some 0,(.move (.t 6)),none⟩] [] [])
  (.region [
   ⟨some 2,(.move (.c (.s (.int .i64 16)))),none⟩] [] []))
  .skip))
 (.seq (.seq (.region [
  ⟨some 7,(.move (.t 0)),none⟩,
  ⟨some 8,(.bin .geq (.t 7) (.c (.s (.int .u32 256)))),none⟩] [] [])
 (.cond (.t 8)
  (.seq (.region [
   ⟨some 9,(.move (.t 0)),none⟩,
   ⟨some 10,(.bin .shr (.t 9) (.c (.s (.int .u64 8)))),none⟩,
   ⟨some 0,(.move (.t 10)),none⟩] [] [])
  (.region [
   ⟨some 11,(.move (.t 2)),none⟩,
   ⟨some 12,(.bin .add (.t 11) (.c (.s (.int .i64 8)))),none⟩,
   ⟨some 2,(.move (.t 12)),none⟩] [] []))
  .skip))
 (.seq (.region [
  ⟨some 13,(.move (.t 2)),none⟩,
  ⟨some 14,(.move (.t 0)),none⟩,
  ⟨some 15,(.conv .u8 (.t 14)),none⟩,
  ⟨some 16,(.indexStr (.c (.s (.string ⟨#[0,1,2,2,3,3,3,3,4,4,4,4,4,4,4,4,5,5,5,5,5,5,5,5,5,5,5,5,5,5,5,5,6,6,6,6,6,6,6,6,6,6,6,6,6,6,6,6,6,6,6,6,6,6,6,6,6,6,6,6,6,6,6,6,7,7,7,7,7,7,7,7,7,7,7,7,7,7,7,7,7,7,7,7,7,7,7,7,7,7,7,7,7,7,7,7,7,7,7,7,7,7,7,7,7,7,7,7,7,7,7,7,7,7,7,7,7,7,7,7,7,7,7,7,7,7,7,7,8,8,8,8,8,8,8,8,8,8,8,8,8,8,8,8,8,8,8,8,8,8,8,8,8,8,8,8,8,8,8,8,8,8,8,8,8,8,8,8,8,8,8,8,8,8,8,8,8,8,8,8,8,8,8,8,8,8,8,8,8,8,8,8,8,8,8,8,8,8,8,8,8,8,8,8,8,8,8,8,8,8,8,8,8,8,8,8,8,8,8,8,8,8,8,8,8,8,8,8,8,8,8,8,8,8,8,8,8,8,8,8,8,8,8,8,8,8,8,8,8,8,8,8,8,8,8,8]⟩))) (.t 15)),none⟩,
  ⟨some 17,(.conv .i64 (.t 16)),none⟩,
  ⟨some 18,(.bin .add (.t 13) (.t 17)),none⟩,
  ⟨some 2,(.move (.t 18)),none⟩] [] [])
 .ret)))) }
def c_f62:ACFun:={ ntmps:=25,results:=[(.tmp 2)],body:=
 (.seq (.region [
  ⟨some 2,(.move (.c (.s (.int .i64 0)))),none⟩] [] [])
 (.seq (.seq (.region [
  ⟨some 3,(.move (.t 0)),none⟩,
  ⟨some 4,(.bin .geq (.t 3) (.c (.s (.int .u64 4294967296)))),none⟩] [] [])
 (.cond (.t 4)
  (.seq (.region [
   ⟨some 5,(.move (.t 0)),none⟩,
   ⟨some 6,(.bin .shr (.t 5) (.c (.s (.int .u64 32)))),none⟩,
   ⟨some 0,(.move (.t 6)),none⟩] [] [])
  (.region [
   ⟨some 2,(.move (.c (.s (.int .i64 32)))),none⟩] [] []))
  .skip))
 (.seq (.seq (.region [
  ⟨some 7,(.move (.t 0)),none⟩,
  ⟨some 8,(.bin .geq (.t 7) (.c (.s (.int .u64 65536)))),none⟩] [] [])
 (.cond (.t 8)
  (.seq (.region [
   ⟨some 9,(.move (.t 0)),none⟩,
   ⟨some 10,(.bin .shr (.t 9) (.c (.s (.int .u64 16)))),none⟩,
   ⟨some 0,(.move (.t 10)),none⟩] [] [])
  (.region [
   ⟨some 11,(.move (.t 2)),none⟩,
   ⟨some 12,(.bin .add (.t 11) (.c (.s (.int .i64 16)))),none⟩,
   ⟨some 2,(.move (.t 12)),none⟩] [] []))
  .skip))
 (.seq (.seq (.region [
  ⟨some 13,(.move (.t 0)),none⟩,
  ⟨some 14,(.bin .geq (.t 13) (.c (.s (.int .u64 256)))),none⟩] [] [])
 (.cond (.t 14)
  (.seq (.region [
   ⟨some 15,(.move (.t 0)),none⟩,
   ⟨some 16,(.bin .shr (.t 15) (.c (.s (.int .u64 8)))),none⟩,
   ⟨some 0,(.move (.t 16)),none⟩] [] [])
  (.region [
   ⟨some 17,(.move (.t 2)),none⟩,
   ⟨some 18,(.bin .add (.t 17) (.c (.s (.int .i64 8)))),none⟩,
   ⟨some 2,(.move (.t 18)),none⟩] [] []))
  .skip))
 (.seq (.region [
  ⟨some 19,(.move (.t 2)),none⟩,
  ⟨some 20,(.move (.t 0)),none⟩,
  ⟨some 21,(.conv .u8 (.t 20)),none⟩,
  ⟨some 22,(.indexStr (.c (.s (.string ⟨#[0,1,2,2,3,3,3,3,4,4,4,4,4,4,4,4,5,5,5,5,5,5,5,5,5,5,5,5,5,5,5,5,6,6,6,6,6,6,6,6,6,6,6,6,6,6,6,6,6,6,6,6,6,6,6,6,6,6,6,6,6,6,6,6,7,7,7,7,7,7,7,7,7,7,7,7,7,7,7,7,7,7,7,7,7,7,7,7,7,7,7,7,7,7,7,7,7,7,7,7,7,7,7,7,7,7,7,7,7,7,7,7,7,7,7,7,7,7,7,7,7,7,7,7,7,7,7,7,8,8,8,8,8,8,8,8,8,8,8,8,8,8,8,8,8,8,8,8,8,8,8,8,8,8,8,8,8,8,8,8,8,8,8,8,8,8,8,8,8,8,8,8,8,8,8,8,8,8,8,8,8,8,8,8,8,8,8,8,8,8,8,8,8,8,8,8,8,8,8,8,8,8,8,8,8,8,8,8,8,8,8,8,8,8,8,8,8,8,8,8,8,8,8,8,8,8,8,8,8,8,8,8,8,8,8,8,8,8,8,8,8,8,8,8,8,8,8,8,8,8,8,8,8,8,8,8]⟩))) (.t 21)),none⟩,
  ⟨some 23,(.conv .i64 (.t 22)),none⟩,
  ⟨some 24,(.bin .add (.t 19) (.t 23)),none⟩,
  ⟨some 2,(.move (.t 24)),none⟩] [] [])
 .ret))))) }
def c_f69:ACFun:={ ntmps:=6,results:=[(.tmp 2)],body:=
 (.seq (.region [
  ⟨some 2,(.move (.c (.s (.bool false)))),none⟩] [] [])
 (.seq (.region [
  ⟨some 3,(.move (.t 0)),none⟩,
  ⟨some 4,(.move (.t 0)),none⟩,
  ⟨some 5,(.bin .neq (.t 3) (.t 4)),none⟩,
  ⟨some 2,(.move (.t 5)),none⟩] [] [])
 .ret)) }
def CQ:Nat→Option CFun
 | 9=>some (.code c_f9)
 | 23=>some (.code c_f23)
 | 29=>some (.code c_f29)
 | 45=>some (.code c_f45)
 | 46=>some (.code c_f46)
 | 52=>some (.code c_f52)
 | 58=>some (.code c_f58)
 | 61=>some (.code c_f61)
 | 62=>some (.code c_f62)
 | 69=>some (.code c_f69)
 | _=>none
theorem CQ_9:compK Try.prog PX0 9=some (false,c_f9.ntmps,c_f9.results,c_f9.body.bare):=by kernel_rfl
theorem CQ_23:compK Try.prog PX0 23=some (false,c_f23.ntmps,c_f23.results,c_f23.body.bare):=by kernel_rfl
theorem CQ_29:compK Try.prog PX0 29=some (false,c_f29.ntmps,c_f29.results,c_f29.body.bare):=by kernel_rfl
theorem CQ_45:compK Try.prog PX0 45=some (false,c_f45.ntmps,c_f45.results,c_f45.body.bare):=by kernel_rfl
theorem CQ_46:compK Try.prog PX0 46=some (false,c_f46.ntmps,c_f46.results,c_f46.body.bare):=by kernel_rfl
theorem CQ_52:compK Try.prog PX0 52=some (false,c_f52.ntmps,c_f52.results,c_f52.body.bare):=by kernel_rfl
theorem CQ_58:compK Try.prog PX0 58=some (false,c_f58.ntmps,c_f58.results,c_f58.body.bare):=by kernel_rfl
theorem CQ_61:compK Try.prog PX0 61=some (false,c_f61.ntmps,c_f61.results,c_f61.body.bare):=by kernel_rfl
theorem CQ_62:compK Try.prog PX0 62=some (false,c_f62.ntmps,c_f62.results,c_f62.body.bare):=by kernel_rfl
theorem CQ_69:compK Try.prog PX0 69=some (false,c_f69.ntmps,c_f69.results,c_f69.body.bare):=by kernel_rfl
theorem CQ_ok (fx:Nat→Option (Array Value × TypeId × Nat × Nat)):∀ k c,CQ k=some c→FunOk Try.prog (PXf fx) k c:=by
 intro k c h
 unfold CQ at h
 split at h
 ·cases h;exact funOk_f fx CQ_9
 ·cases h;exact funOk_f fx CQ_23
 ·cases h;exact funOk_f fx CQ_29
 ·cases h;exact funOk_f fx CQ_45
 ·cases h;exact funOk_f fx CQ_46
 ·cases h;exact funOk_f fx CQ_52
 ·cases h;exact funOk_f fx CQ_58
 ·cases h;exact funOk_f fx CQ_61
 ·cases h;exact funOk_f fx CQ_62
 ·cases h;exact funOk_f fx CQ_69
 ·cases h
def bareF (c:ACFun):ACFun:={ c with body:=c.body.bare }
theorem bare_ok {P:Program} {lt:List Nat} {k:Nat} {c:ACFun} (h:compKL lt P PX0 k=some (false,c.ntmps,c.results,c.body.bare)) (hb:c.body.bare.bare=c.body.bare):FunOk P PX0 k (.code (bareF c)):=
 funOk_f (fun _=>none) (c:=bareF c) (h.trans (by show some (false,c.ntmps,c.results,c.body.bare)=some (false,c.ntmps,c.results,c.body.bare.bare);rw [hb]))
def CQs:Nat→Option CFun
 | 10=>some (.code (bareF s_f10))
 | 11=>some (.code (bareF s_f11))
 | 13=>some (.code (bareF s_f13))
 | 15=>some (.code (bareF s_f15))
 | 16=>some (.code (bareF s_f16))
 | 18=>some (.code (bareF s_f18))
 | 19=>some (.code (bareF s_f19))
 | 20=>some (.code (bareF s_f20))
 | 24=>some (.code (bareF s_f24))
 | 25=>some (.code (bareF s_f25))
 | 26=>some (.code (bareF s_f26))
 | 30=>some (.code (bareF s_f30))
 | 33=>some (.code (bareF s_f33))
 | 34=>some (.code (bareF s_f34))
 | 35=>some (.code (bareF s_f35))
 | 37=>some (.code (bareF s_f37))
 | 39=>some (.code (bareF s_f39))
 | 40=>some (.code (bareF s_f40))
 | 41=>some (.code (bareF s_f41))
 | 42=>some (.code (bareF s_f42))
 | 51=>some (.code (bareF s_f51))
 | 36=>some (.prim (sortedG 49))
 | k=>CQ k
theorem CQs_ok (hs:FunOk Try.prog PX0 36 (.prim (sortedG 49))):∀ k c,CQs k=some c→FunOk Try.prog PX0 k c:=by
 intro k c h
 unfold CQs at h
 split at h
 ·cases h;exact bare_ok DA1_10 (by kernel_rfl)
 ·cases h;exact bare_ok DA3_11 (by kernel_rfl)
 ·cases h;exact bare_ok DA1_13 (by kernel_rfl)
 ·cases h;exact bare_ok DA3_15 (by kernel_rfl)
 ·cases h;exact bare_ok DA4_16 (by kernel_rfl)
 ·cases h;exact bare_ok DA2_18 (by kernel_rfl)
 ·cases h;exact bare_ok DA4_19 (by kernel_rfl)
 ·cases h;exact bare_ok DA2_20 (by kernel_rfl)
 ·cases h;exact bare_ok DA1_24 (by kernel_rfl)
 ·cases h;exact bare_ok DA2_25 (by kernel_rfl)
 ·cases h;exact bare_ok DA1_26 (by kernel_rfl)
 ·cases h;exact bare_ok DA2_30 (by kernel_rfl)
 ·cases h;exact bare_ok DA2_33 (by kernel_rfl)
 ·cases h;exact bare_ok DA2_34 (by kernel_rfl)
 ·cases h;exact bare_ok DA2_35 (by kernel_rfl)
 ·cases h;exact bare_ok DA4_37 (by kernel_rfl)
 ·cases h;exact bare_ok DA1_39 (by kernel_rfl)
 ·cases h;exact bare_ok DA2_40 (by kernel_rfl)
 ·cases h;exact bare_ok DA2_41 (by kernel_rfl)
 ·cases h;exact bare_ok DA2_42 (by kernel_rfl)
 ·cases h;exact bare_ok DA1_51 (by kernel_rfl)
 ·cases h;exact hs
 ·exact CQ_ok (fun _=>none) _ c h
theorem wakes_true:givesE CQs 400 9=some (bl true):=by kernel_rfl
end Go.Proofs.Ytdmnenlpdeolaaa
set_option maxRecDepth 100000
namespace Go.Proofs.Ytdmnenlpdeolaaa
open Go.AM
def idx (p:V→Bool):List V→Nat→Option Nat
 | [],_=>none
 | x :: l,i=>if p x then some i else idx p l (i+1)
def idxV:Option Nat→V
 | some i=>.s (.int .i64 i)
 | none=>.s (.int .i64 (-1))
theorem index_loop (call:CallF) (base:Nat) (H:Heap) (v f:V) (cs:List V) (hv:Rd H v cs) (hw:Wide1 v) (hn:cs.length < 2 ^ 62) (p:V→Bool) (hp:∀ x∈cs,call f [x] base H=some (.s (.bool (p x)),H)):
 ∀ (l:List V) (i:Nat),cs.drop i=l→i≤cs.length→
 itW (evC call itW base s_f40_l0) [] H.length (frOf 19 [(0,v),(1,f),(7,.s (.int .i64 cs.length)),(8,.s (.int .i64 i))]) H=
 match idx p l i with
 | some j=>some (.ret,frOf 19 [(4,.s (.int .i64 j))],H)
 | none=>some (.ext 0,frOf 19 [(0,v),(1,f),(7,.s (.int .i64 cs.length)),(8,.s (.int .i64 cs.length)),(9,.s (.bool false))],H):=by
 intro l
 induction l with
 | nil=>
   intro i hd hi
   have hin:i=cs.length:=by
    have:=congrArg List.length hd
    rw [List.length_drop] at this
    simp at this
    omega
   subst hin
   rw [itW_step]
   simp only [a_f40,s_f40_l0_b,aa,bl,i64,reduceIte,reduceCtorEq,Nat.reduceEqDiff,Nat.reduceLT,Nat.reduceLeDiff,Nat.reduceBEq,Nat.reduceAdd,fillA,splice,Nat.reduceMul,amY,op_eqP,Int.lt_irrefl,idx]
 | cons x l ih=>
   intro i hd hi
   have hc:cs[i]?=some x:=by have:=congrArg (·[0]?) hd;simp only [List.getElem?_drop] at this;exact this
   have hlt:i < cs.length:=(List.getElem?_eq_some_iff.1 hc).1
   have hi':((i:Int) < (cs.length:Int)):=by omega
   have hd':cs.drop (i+1)=l:=by
    have:=congrArg (List.drop 1) hd
    simpa [List.drop_drop,Nat.add_comm] using this
   obtain ⟨a,ha1,ha2⟩:=hv.at' hw hc
   have hcall:=hp x (List.mem_of_getElem? hc)
   rw [itW_step]
   cases hx:p x with
   | true=>simp only [a_f40,s_f40_l0_b,aa,bl,i64,reduceIte,reduceCtorEq,Nat.reduceEqDiff,Nat.reduceLT,Nat.reduceLeDiff,Nat.reduceBEq,Nat.reduceAdd,fillA,splice,Nat.reduceMul,amY,op_eqP,hi',ha1,ha2,hcall,hx,idx]
   | false=>
     simp only [a_f40,s_f40_l0_b,aa,bl,i64,reduceIte,reduceCtorEq,Nat.reduceEqDiff,Nat.reduceLT,Nat.reduceLeDiff,Nat.reduceBEq,Nat.reduceAdd,fillA,splice,Nat.reduceMul,amY,op_eqP,hi',ha1,ha2,hcall,hx,idx,wrap_pos (n:=i) (by omega)]
     exact ih (i+1) hd' hlt
theorem index_fun {CT:Nat→Option CFun} (hT:CT k_f40=some (.code s_f40)) (base:Nat) (H:Heap) (v f:V) (cs:List V) (hv:Rd H v cs) (hw:Wide1 v) (hn:cs.length < 2 ^ 62) (p:V→Bool) (hp:∀ x∈cs,callW CT f [x] base H=some (.s (.bool (p x)),H)):
 callW CT (.fn k_f40 [] []) [v,f] base H=some (idxV (idx p cs 0),H):=by
 refine callW_fn (c:=s_f40) hT (by simp [s_f40]) ?_
 have hl:=index_loop (callW CT) base H v f cs hv hw hn p hp cs 0 rfl (Nat.zero_le _)
 rw [show ((0:Nat):Int)=0 from rfl] at hl
 simp only [s_f40,a_f40,s_f40_l0_b,aa,bl,i64,reduceIte,reduceCtorEq,Nat.reduceEqDiff,Nat.reduceLT,Nat.reduceLeDiff,Nat.reduceBEq,Nat.reduceAdd,fillA,splice,Nat.reduceMul,amY,op_eqP,hv.len,hl]
 cases idx p cs 0 <;> simp only [a_f40,s_f40_l0_b,aa,bl,i64,reduceIte,reduceCtorEq,Nat.reduceEqDiff,Nat.reduceLT,Nat.reduceLeDiff,Nat.reduceBEq,Nat.reduceAdd,fillA,splice,Nat.reduceMul,amY,op_eqP,idxV]
def keepAt (p:V→Bool):List V→(i:Nat)→List V→List V × Nat
 | [],i,c=>(c,i)
 | x :: l,i,c=>if p x then keepAt p l i c else keepAt p l (i+1) (c.set i x)
theorem delete_loop (call:CallF) (base:Nat) (f:V) (id g n:Nat) (hb:base≤id) (hn:n < 2 ^ 62) (p:V→Bool) (Q:V→Prop) (hQ:∀ x,Q x→x.one=true) (H:Heap) (hp:∀ x,Q x→∀ c,c.length=n→call f [x] base (H.set id (.cells g c))=some (.s (.bool (p x)),H.set id (.cells g c))) (hid:id < H.length):
 ∀ (l:List V) (j i:Nat) (c:List V),c.length=n→c.drop j=l→(∀ x∈c,Q x)→i < j→j≤n→
 itW (evC call itW base s_f33_l0) [] H.length (frOf 42 [(0,.sl id g 0 n 1),(1,f),(5,.s (.int .i64 i)),(6,.s (.int .i64 j))]) (H.set id (.cells g c))=
 some (.ext 0,frOf 42 [(0,.sl id g 0 n 1),(1,f),(5,.s (.int .i64 (keepAt p l i c).2)),(6,.s (.int .i64 n)),(19,.s (.bool false))],H.set id (.cells g (keepAt p l i c).1)):=by
 intro l
 induction l with
 | nil=>
   intro j i c hc hd ho hij hj
   have hin:j=n:=by
    have:=congrArg List.length hd
    rw [List.length_drop] at this
    simp at this
    omega
   subst hin
   rw [itW_step]
   have hL:(H.set id (.cells g c)).length=H.length:=List.length_set
   simp only [a_f33,s_f33_l0_b,aa,bl,i64,reduceIte,reduceCtorEq,Nat.reduceEqDiff,Nat.reduceLT,Nat.reduceLeDiff,Nat.reduceBEq,Nat.reduceAdd,fillA,splice,Nat.reduceMul,amY,op_eqP,Int.lt_irrefl,keepAt,trim_same hL]
 | cons x l ih=>
   intro j i c hc hd ho hij hj
   have hcx:c[j]?=some x:=by have:=congrArg (·[0]?) hd;simp only [List.getElem?_drop] at this;exact this
   have hlt:j < n:=by have:=(List.getElem?_eq_some_iff.1 hcx).1;omega
   have hd':c.drop (j+1)=l:=by
    have:=congrArg (List.drop 1) hd
    simpa [List.drop_drop,Nat.add_comm] using this
   have hxQ:Q x:=ho x (List.mem_of_getElem? hcx)
   have hx1:x.one=true:=hQ x hxQ
   have hg:getC (H.set id (.cells g c)) id g=some c:=by simp [getC,hid]
   have hrd:Rd (H.set id (.cells g c)) (.sl id g 0 n 1) c:=by
    have:=Rd.sl hg (off:=0) (n:=n) (by omega)
    rwa [List.drop_zero,List.take_of_length_le (by omega)] at this
   obtain ⟨a,ha1,ha2⟩:=hrd.at' trivial hcx
   have hcall:=hp x hxQ c hc
   have hi':((j:Int) < (n:Int)):=by omega
   have hL:∀ c,(H.set id (.cells g c)).length=H.length:=fun c=>List.length_set
   rw [itW_step]
   have hii:(i:Int) < (n:Int):=by omega
   have hst:=storeV_at (v:=x) hg hb hx1 (off:=i) (by omega)
   cases hpx:p x with
   | true=>
     simp only [a_f33,s_f33_l0_b,aa,bl,i64,reduceIte,reduceCtorEq,Nat.reduceEqDiff,Nat.reduceLT,Nat.reduceLeDiff,Nat.reduceBEq,Nat.reduceAdd,fillA,splice,Nat.reduceMul,amY,op_eqP,hi',ha1,ha2,hcall,hpx,keepAt,wrap_pos (n:=j) (by omega),trim_same (hL _)]
     exact ih (j+1) i c hc hd' ho (by omega) (by omega)
   | false=>
     simp only [a_f33,s_f33_l0_b,aa,bl,i64,reduceIte,reduceCtorEq,Nat.reduceEqDiff,Nat.reduceLT,Nat.reduceLeDiff,Nat.reduceBEq,Nat.reduceAdd,fillA,splice,Nat.reduceMul,amY,op_eqP,hi',ha1,ha2,hcall,hpx,keepAt,wrap_pos (n:=j) (by omega),wrap_pos (n:=i) (by omega),trim_same (hL _),hii,hst]
     have hd2:(c.set i x).drop (j+1)=l:=by rw [List.drop_set_of_lt (by omega),hd']
     exact ih (j+1) (i+1) (c.set i x) (by rw [List.length_set];exact hc) hd2 (fun y hy=>by
      rcases List.mem_or_eq_of_mem_set hy with h | h
      ·exact ho y h
      ·rw [h];exact hxQ) (by omega) (by omega)
theorem keepAt_spec (p:V→Bool):∀ (l:List V) (i:Nat) (c:List V),i+l.length≤c.length→(keepAt p l i c).2=i+(l.filter fun x=>!p x).length∧(keepAt p l i c).1.length=c.length∧(keepAt p l i c).1.take (keepAt p l i c).2=c.take i ++ l.filter fun x=>!p x:=by
 intro l
 induction l with
 | nil=>intro i c _;simp [keepAt]
 | cons x l ih=>
   intro i c h
   simp only [List.length_cons] at h
   simp only [keepAt,List.filter_cons]
   cases hp:p x with
   | true=>simpa using ih i c (by omega)
   | false=>
     obtain ⟨h1,h2,h3⟩:=ih (i+1) (c.set i x) (by rw [List.length_set];omega)
     rw [List.length_set] at h2
     refine ⟨by simp [h1];omega,by simpa using h2,?_⟩
     have:(c.set i x).take (i+1)=c.take i ++ [x]:=by
      rw [List.take_succ_eq_append_getElem (by rw [List.length_set];omega),List.take_set_of_le (Nat.le_refl _)]
      simp
     simp only [Bool.false_eq_true,if_false,Bool.not_false,if_true]
     rw [h3,this,List.append_assoc]
     rfl
theorem idx_none {p:V→Bool}:∀ {l:List V} {i:Nat},idx p l i=none→l.filter (fun x=>!p x)=l:=by
 intro l
 induction l with
 | nil=>intro i _;rfl
 | cons x l ih=>
   intro i h
   simp only [idx] at h
   cases hp:p x with
   | true=>simp [hp] at h
   | false=>
     rw [hp] at h
     simp [hp,ih (by simpa using h)]
theorem idx_some {p:V→Bool}:∀ {l:List V} {i j:Nat},idx p l i=some j→∃ k,j=i+k∧k < l.length∧(l.take k).filter (fun x=>!p x)=l.take k∧(l.drop k).filter (fun x=>!p x)=(l.drop (k+1)).filter (fun x=>!p x):=by
 intro l
 induction l with
 | nil=>intro i j h;cases h
 | cons x l ih=>
   intro i j h
   simp only [idx] at h
   cases hp:p x with
   | true=>
     rw [hp] at h
     simp at h
     exact ⟨0,by omega,by simp,rfl,by simp [hp]⟩
   | false=>
     rw [hp] at h
     obtain ⟨k,h1,h2,h3,h4⟩:=ih (i:=i+1) (by simpa using h)
     exact ⟨k+1,by omega,by simpa using h2,by simp [hp,h3],by simpa using h4⟩
theorem delete_fun {CT:Nat→Option CFun} (hT:CT k_f33=some (.code s_f33)) (hT2:CT k_f40=some (.code s_f40))
 (base:Nat) (H:Heap) (f:V) (id g n:Nat) (c:List V) (hc:getC H id g=some c) (hl:c.length=n) (Q:V→Prop) (hQ:∀ x,Q x→x.one=true) (ho:∀ x∈c,Q x) (hb:base≤id) (hn:n < 2 ^ 62) (p:V→Bool)
 (hp:∀ x,Q x→∀ c,c.length=n→callW CT f [x] base (H.set id (.cells g c))=some (.s (.bool (p x)),H.set id (.cells g c))):
 ∃ c',callW CT (.fn k_f33 [] []) [.sl id g 0 n 1,f] base H=some (.sl id g 0 (c.filter fun x=>!p x).length 1,H.set id (.cells g c'))∧c'.length=n∧c'.take (c.filter fun x=>!p x).length=c.filter fun x=>!p x:=by
 have hid:id < H.length:=by
  unfold getC at hc
  split at hc
  ·rename_i hh;exact (List.getElem?_eq_some_iff.1 hh).1
  ·cases hc
 have hrd:Rd H (.sl id g 0 n 1) c:=by
  have:=Rd.sl hc (off:=0) (n:=n) (by omega)
  rwa [List.drop_zero,List.take_of_length_le (by omega)] at this
 have hix:=index_fun hT2 base H (.sl id g 0 n 1) f c hrd trivial (by omega) p (fun x hx=>by have:=hp x (ho x hx) c hl;rwa [getC_same hc] at this)
 cases hi:idx p c 0 with
 | none=>
   have hfl:=idx_none hi
   refine ⟨c,?_,hl,by rw [hfl,List.take_length]⟩
   rw [getC_same hc,hfl,hl]
   refine callW_fn (c:=s_f33) hT (by simp [s_f33]) ?_
   rw [hi] at hix
   simp only [s_f33,a_f33,s_f33_l0_b,aa,bl,i64,reduceIte,reduceCtorEq,Nat.reduceEqDiff,Nat.reduceLT,Nat.reduceLeDiff,Nat.reduceBEq,Nat.reduceAdd,fillA,splice,Nat.reduceMul,amY,op_eqP,hix,idxV]
 | some j=>
   rw [hi] at hix
   obtain ⟨k,hjk,hk,h3,h4⟩:=idx_some hi
   obtain rfl:j=k:=by omega
   have hlp:=delete_loop (callW CT) base f id g n hb hn p Q hQ H hp hid (c.drop (j+1)) (j+1) j c hl rfl ho (by omega) (by omega)
   obtain ⟨q1,q2,q3⟩:=keepAt_spec p (c.drop (j+1)) j c (by simp;omega)
   have hft:c.filter (fun x=>!p x)=c.take j ++ (c.drop (j+1)).filter fun x=>!p x:=by
    rw [← h3,← h4,← List.filter_append,List.take_append_drop]
   have hk2:(keepAt p (c.drop (j+1)) j c).2=(c.filter fun x=>!p x).length:=by rw [q1,hft,List.length_append,List.length_take];omega
   rw [hk2] at q3 hlp
   have hkn:(c.filter fun x=>!p x).length≤n:=by rw [← hl];exact List.length_filter_le _ _
   generalize hK:(c.filter fun x=>!p x).length=K at *
   generalize hC:(keepAt p (c.drop (j+1)) j c).1=C at *
   refine ⟨C.take K ++ (List.replicate (n - K) [V.s (.int .i64 0)]).flatten ++ C.drop (K+(n - K)),?_,?_,?_⟩
   ·refine callW_fn (c:=s_f33) hT (by simp [s_f33]) ?_
    have hg':getC (H.set id (.cells g C)) id g=some C:=by simp [getC,hid]
    have hcl:=clear_at (zero:=[.s (.int .i64 0)]) (off:=K) (len:=n - K) hg' hb rfl rfl (by rw [q2];omega)
    rw [getC_same hc] at hlp
    have hjw:=wrap_pos (n:=j) (by omega)
    have hj0:((j:Int) == -1)=false:=by rw [beq_eq_false_iff_ne];omega
    have hk1:(K:Int)≤(n:Int):=by omega
    have hk2:((n:Int) - (K:Int)).toNat=n - K:=by omega
    simp only [s_f33,a_f33,s_f33_l0_b,aa,bl,i64,reduceIte,reduceCtorEq,Nat.reduceEqDiff,Nat.reduceLT,Nat.reduceLeDiff,Nat.reduceBEq,Nat.reduceAdd,fillA,splice,Nat.reduceMul,amY,op_eqP,hix,idxV,hjw,hlp,hj0,hk1,hk2,hcl]
   ·simp [q2];omega
   ·rw [hft,← q3,List.append_assoc,List.take_append_of_le_length (by rw [List.length_take];omega),List.take_take,Nat.min_self]
end Go.Proofs.Ytdmnenlpdeolaaa
set_option maxRecDepth 100000
namespace Go.Proofs.Ytdmnenlpdeolaaa
open Go.AM
def Own (H0 H:Heap) (v:V) (l:List Int):Prop:=
 Ext H0 H∧((l=[]∧(v=nilS∨v=.esl))∨∃ id g c,v=.sl id g 0 l.length 1∧getC H id g=some c∧l.length≤c.length∧c.take l.length=l.map iV∧H0.length≤id)
theorem Own.rd {H0 H:Heap} {v:V} {l:List Int} (h:Own H0 H v l):Rd H v (l.map iV):=by
 rcases h.2 with ⟨rfl,rfl | rfl⟩ | ⟨id,g,c,rfl,hc,hl,ht,_⟩
 ·exact Rd.nil H
 ·exact Rd.esl H
 ·have:=Rd.sl hc (off:=0) (n:=l.length) (by omega)
  rwa [List.drop_zero,ht] at this
theorem Own.wide {H0 H:Heap} {v:V} {l:List Int} (h:Own H0 H v l):Wide1 v:=by
 rcases h.2 with ⟨_,rfl | rfl⟩ | ⟨_,_,_,rfl,_⟩ <;> trivial
theorem ones (l:List Int):(l.map iV).all V.one=true:=by
 rw [List.all_eq_true]
 intro x hx
 obtain ⟨n,_,rfl⟩:=List.mem_map.1 hx
 rfl
def nilV:V→Bool
 | .s (.slice none 0 0)=>true
 | _=>false
theorem rd_isNil {H:Heap} {v:V} {l:List V} (h:Rd H v l):xEqNil .s false v=some (.s (.bool (nilV v))):=by
 rcases h.cases with ⟨_,rfl | rfl⟩ | ⟨es,rfl,_⟩ | ⟨id,g,off,n,c,rfl,_⟩ <;> rfl
theorem clone_fun {CT:Nat→Option CFun} (hT:CT k_f34=some (.code s_f34)) (base:Nat) (H:Heap) (v:V) (l:List Int) (hv:Rd H v (l.map iV)) (hn:l.length * 8≤2 ^ 47):
 ∃ r H',callW CT (.fn k_f34 [] []) [v] base H=some (r,H')∧Ext H H'∧((l=[]∧(r=nilS∨r=.esl))∨∃ id,r=.sl id 0 0 l.length 1∧getC H' id 0=some (l.map iV)∧H.length≤id):=by
 have hnil:=rd_isNil hv
 cases hz:nilV v with
 | true=>
   have hvn:v=nilS:=by
    unfold nilV at hz
    split at hz
    ·rfl
    ·cases hz
   subst hvn
   have hl:l=[]:=by
    have:=hv.2
    simp only [nilS,elems] at this
    cases l with
    | nil=>rfl
    | cons a l=>simp at this
   refine ⟨nilS,H,callW_fn (c:=s_f34) hT (by simp [s_f34]) ?_,Ext.refl H,.inl ⟨hl,.inl rfl⟩⟩
   simp only [s_f34,a_f34,aa,bl,i64,reduceIte,reduceCtorEq,Nat.reduceEqDiff,Nat.reduceLT,Nat.reduceLeDiff,Nat.reduceBEq,Nat.reduceAdd,fillA,splice,Nat.reduceMul,amY,op_eqP,nilS]
 | false=>
   rw [hz] at hnil
   have hap:=appendV_esl (base:=base) (bytes:=8) (hv.app [Ob.cells 0 []]) (ones l) (by rw [List.length_map];exact hn)
   by_cases hl:l.length=0
   ·have hl':l=[]:=List.eq_nil_of_length_eq_zero hl
    rw [List.length_map,if_pos hl] at hap
    refine ⟨.esl,H ++ [.cells 0 []],callW_fn (c:=s_f34) hT (by simp [s_f34]) ?_,Ext.app _ _,.inl ⟨hl',.inr rfl⟩⟩
    simp only [s_f34,a_f34,aa,bl,i64,reduceIte,reduceCtorEq,Nat.reduceEqDiff,Nat.reduceLT,Nat.reduceLeDiff,Nat.reduceBEq,Nat.reduceAdd,fillA,splice,Nat.reduceMul,amY,op_eqP,hnil,hap]
   ·rw [List.length_map,if_neg hl,len_snoc] at hap
    refine ⟨.sl (H.length+1) 0 0 l.length 1,H ++ [.cells 0 []] ++ [.cells 0 (l.map iV)],callW_fn (c:=s_f34) hT (by simp [s_f34]) ?_,(Ext.app _ _).trans (Ext.app _ _),.inr ⟨H.length+1,rfl,?_,by omega⟩⟩
    ·simp only [s_f34,a_f34,aa,bl,i64,reduceIte,reduceCtorEq,Nat.reduceEqDiff,Nat.reduceLT,Nat.reduceLeDiff,Nat.reduceBEq,Nat.reduceAdd,fillA,splice,Nat.reduceMul,amY,op_eqP,hnil,hap]
    ·simp only [aa,bl,i64,reduceIte,reduceCtorEq,Nat.reduceEqDiff,Nat.reduceLT,Nat.reduceLeDiff,Nat.reduceBEq,Nat.reduceAdd,fillA,splice,Nat.reduceMul,amY,op_eqP]
theorem norm1_fun {CT:Nat→Option CFun} (hT:CT k_f35=some (.code s_f35)) (base:Nat) (H:Heap) (id:Nat) (v:V) (hc:getC H id 0=some [v]) (n:Nat) (hv:xLen H .s v=some (.s (.int .i64 n))) (k:Int):
 callW CT (.fn k_f35 [] [.ref id 0 0]) [iV k] base H=some (.s (.bool (decide (k < 0) || decide (k ≥ n))),H):=by
 refine callW_fn (c:=s_f35) hT (by simp [s_f35]) ?_
 simp only [s_f35,a_f35,aa,bl,i64,reduceIte,reduceCtorEq,Nat.reduceEqDiff,Nat.reduceLT,Nat.reduceLeDiff,Nat.reduceBEq,Nat.reduceAdd,fillA,splice,Nat.reduceMul,amY,op_eqP,iV,hc,hv]
end Go.Proofs.Ytdmnenlpdeolaaa
set_option maxRecDepth 100000
namespace Go.Proofs.Ytdmnenlpdeolaaa
open Go.AM
theorem wrap_pred {n:Nat} (h1:1≤n) (h:n < 2 ^ 63):IntKind.i64.wrap ((n:Int) - 1)=((n - 1:Nat):Int):=by rw [IntKind.wrap_i64];omega
def chg:Int→List Int→List Int
 | _,[]=>[]
 | p,x :: r=>if x == p then chg x r else x :: chg x r
def compactZ:List Int→List Int
 | []=>[]
 | x :: r=>x :: chg x r
theorem chg_len:∀ (r:List Int) (p:Int),(chg p r).length≤r.length:=by
 intro r
 induction r with
 | nil=>intro p;simp [chg]
 | cons x r ih=>intro p;simp only [chg];split <;> simp <;> have:=ih x <;> omega
theorem compact_inner (call:CallF) (base:Nat) (id g n k0:Nat) (l:List Int) (hl:l.length=n) (hb:base≤id) (hn:n < 2 ^ 62) (H:Heap) (hid:id < H.length) (hk0:k0 < n):
 ∀ (r:List Int) (k2 k:Nat) (c:List V),l.drop (k0+k2)=r→1≤k2→k0+k2≤n→k0≤k→k < k0+k2→n≤c.length→(∀ j,k0+k2 - 1≤j→j < n→c[j]?=some (iV (l.getD j 0)))→
 ∃ c',itW (evC call itW base s_f30_l0) [] H.length (frOf 61 [(0,.sl id g 0 n 1),(3,.s (.int .i64 k)),(4,.sl id g k0 (n - k0) 1),(5,.s (.int .i64 k2))]) (H.set id (.cells g c))=
   some (.ext 2,frOf 61 [(0,.sl id g 0 n 1),(3,.s (.int .i64 (k+(chg (l.getD (k0+k2 - 1) 0) r).length:Nat))),(4,.sl id g k0 (n - k0) 1),(5,.s (.int .i64 (n - k0:Nat))),(32,.s (.bool false))],H.set id (.cells g c'))∧
   c'.length=c.length∧c'.take (k+(chg (l.getD (k0+k2 - 1) 0) r).length)=c.take k ++ (chg (l.getD (k0+k2 - 1) 0) r).map iV:=by
 intro r
 have hL:∀ c,(H.set id (.cells g c)).length=H.length:=fun c=>List.length_set
 induction r with
 | nil=>
   intro k2 k c hd h1 h2 h3 h4 hc hr
   have hk:k2=n - k0:=by
    have:=congrArg List.length hd
    simp at this
    omega
   subst hk
   refine ⟨c,?_,rfl,by simp [chg]⟩
   rw [itW_step]
   simp only [a_f30,s_f30_l0_b,s_f30_l1_b,aa,bl,i64,reduceIte,reduceCtorEq,Nat.reduceEqDiff,Nat.reduceLT,Nat.reduceLeDiff,Nat.reduceBEq,Nat.reduceAdd,fillA,splice,Nat.reduceMul,amY,op_eqP,Int.lt_irrefl,trim_same (hL _),chg]
 | cons x r ih=>
   intro k2 k c hd h1 h2 h3 h4 hc hr
   have hx:l[k0+k2]?=some x:=by have:=congrArg (·[0]?) hd;simp only [List.getElem?_drop] at this;exact this
   have hlt:k0+k2 < n:=by have:=(List.getElem?_eq_some_iff.1 hx).1;omega
   have hd':l.drop (k0+(k2+1))=r:=by
    rw [← Nat.add_assoc,← List.drop_drop,hd];rfl
   have hxD:l.getD (k0+k2) 0=x:=by simp [List.getD,hx]
   have hg:getC (H.set id (.cells g c)) id g=some c:=by simp [getC,hid]
   have hrd:Rd (H.set id (.cells g c)) (.sl id g k0 (n - k0) 1) ((c.drop k0).take (n - k0)):=Rd.sl hg (by omega)
   have e1:((c.drop k0).take (n - k0))[k2]?=some (iV x):=by
    rw [List.getElem?_take_of_lt (by omega),List.getElem?_drop,hr _ (by omega) hlt,hxD]
   have e2:((c.drop k0).take (n - k0))[k2 - 1]?=some (iV (l.getD (k0+k2 - 1) 0)):=by
    rw [List.getElem?_take_of_lt (by omega),List.getElem?_drop,← hr _ (by omega) (by omega)]
    congr 1;omega
   obtain ⟨a,ha1,ha2⟩:=hrd.at' trivial e1
   obtain ⟨b,hb1,hb2⟩:=hrd.at' trivial e2
   have hwp:=wrap_pred (n:=k2) h1 (by omega)
   have hw2:=wrap_pos (n:=k2) (by omega)
   have hw3:=wrap_pos (n:=k) (by omega)
   have hlt':(k2:Int) < ((n - k0:Nat):Int):=by omega
   have hkn:(k:Int) < (n:Int):=by omega
   have hst:=storeV_at (v:=iV x) hg hb rfl (off:=k) (by omega)
   unfold iV at ha2 hb2 hst
   rw [itW_step]
   cases heq:x == l.getD (k0+k2 - 1) 0 with
   | true=>
     have hne:(x != l.getD (k0+k2 - 1) 0)=false:=by rw [bne,heq];rfl
     have hpx:l.getD (k0+(k2+1) - 1) 0=x:=by rw [← hxD];congr 1
     obtain ⟨c',q1,q2,q3⟩:=ih (k2+1) k c hd' (by omega) (by omega) h3 (by omega) hc (fun j hj1 hj2=>hr j (by omega) hj2)
     rw [hpx] at q1 q3
     refine ⟨c',?_,q2,by simpa only [chg,heq,if_true] using q3⟩
     simp only [a_f30,s_f30_l0_b,s_f30_l1_b,aa,bl,i64,reduceIte,reduceCtorEq,Nat.reduceEqDiff,Nat.reduceLT,Nat.reduceLeDiff,Nat.reduceBEq,Nat.reduceAdd,fillA,splice,Nat.reduceMul,amY,op_eqP,hlt',ha1,ha2,hwp,hb1,hb2,hne,hw2,trim_same (hL _),chg,heq]
     exact q1
   | false=>
     have hne:(x != l.getD (k0+k2 - 1) 0)=true:=by rw [bne,heq];rfl
     have hpx:l.getD (k0+(k2+1) - 1) 0=x:=by rw [← hxD];congr 1
     obtain ⟨c',q1,q2,q3⟩:=ih (k2+1) (k+1) (c.set k (iV x)) hd' (by omega) (by omega) (by omega) (by omega) (by rw [List.length_set];exact hc) (fun j hj1 hj2=>by rw [List.getElem?_set_ne (by omega)];exact hr j (by omega) hj2)
     rw [hpx] at q1 q3
     have hkk:k+1+(chg x r).length=k+((chg x r).length+1):=by omega
     rw [hkk] at q1 q3
     refine ⟨c',?_,by rw [q2,List.length_set],?_⟩
     ·unfold iV at q1
      simp only [a_f30,s_f30_l0_b,s_f30_l1_b,aa,bl,i64,reduceIte,reduceCtorEq,Nat.reduceEqDiff,Nat.reduceLT,Nat.reduceLeDiff,Nat.reduceBEq,Nat.reduceAdd,fillA,splice,Nat.reduceMul,amY,op_eqP,hlt',ha1,ha2,hwp,hb1,hb2,hne,hw2,hw3,hkn,hst,trim_same (hL _),chg,heq]
      exact q1
     ·simp only [chg,heq,Bool.false_eq_true,if_false,List.length_cons,List.map_cons]
      rw [q3,List.take_succ_eq_append_getElem (by rw [List.length_set];omega),List.take_set_of_le (Nat.le_refl _)]
      simp
theorem compact_outer (call:CallF) (base:Nat) (id g n:Nat) (l:List Int) (hl:l.length=n) (hb:base≤id) (hn:n < 2 ^ 62) (H:Heap) (hid:id < H.length) (c:List V) (hc:n≤c.length) (hg:getC H id g=some c) (hr:∀ j,j < n→c[j]?=some (iV (l.getD j 0))):
 ∀ (r:List Int) (k:Nat),l.drop k=r→1≤k→k≤n→
 (itW (evC call itW base s_f30_l1) [] H.length (frOf 61 [(0,.sl id g 0 n 1),(3,.s (.int .i64 k))]) H=some (.ext 0,frOf 61 [(0,.sl id g 0 n 1),(3,.s (.int .i64 n)),(13,.s (.bool false))],H)∧chg (l.getD (k - 1) 0) r=r)∨
 ∃ c',itW (evC call itW base s_f30_l1) [] H.length (frOf 61 [(0,.sl id g 0 n 1),(3,.s (.int .i64 k))]) H=some (.ret,frOf 61 [(2,.sl id g 0 (k+(chg (l.getD (k - 1) 0) r).length) 1)],H.set id (.cells g c'))∧
   c'.length=c.length∧c'.take (k+(chg (l.getD (k - 1) 0) r).length)=(l.take k ++ chg (l.getD (k - 1) 0) r).map iV:=by
 intro r
 induction r with
 | nil=>
   intro k hd h1 h2
   have hk:k=n:=by
    have:=congrArg List.length hd
    simp at this
    omega
   subst hk
   refine .inl ⟨?_,rfl⟩
   rw [itW_step]
   simp only [a_f30,s_f30_l0_b,s_f30_l1_b,aa,bl,i64,reduceIte,reduceCtorEq,Nat.reduceEqDiff,Nat.reduceLT,Nat.reduceLeDiff,Nat.reduceBEq,Nat.reduceAdd,fillA,splice,Nat.reduceMul,amY,op_eqP,Int.lt_irrefl,trim_same rfl]
 | cons x r ih=>
   intro k hd h1 h2
   have hx:l[k]?=some x:=by have:=congrArg (·[0]?) hd;simp only [List.getElem?_drop] at this;exact this
   have hlt:k < n:=by have:=(List.getElem?_eq_some_iff.1 hx).1;omega
   have hd':l.drop (k+1)=r:=by
    rw [← List.drop_drop,hd];rfl
   have hxD:l.getD k 0=x:=by simp [List.getD,hx]
   have hrd:Rd H (.sl id g 0 n 1) ((c.drop 0).take n):=Rd.sl hg (by omega)
   have e1:((c.drop 0).take n)[k]?=some (iV x):=by
    rw [List.getElem?_take_of_lt (by omega),List.getElem?_drop,Nat.zero_add,hr _ (by omega),hxD]
   have e2:((c.drop 0).take n)[k - 1]?=some (iV (l.getD (k - 1) 0)):=by
    rw [List.getElem?_take_of_lt (by omega),List.getElem?_drop,Nat.zero_add,← hr _ (by omega)]
   obtain ⟨a,ha1,ha2⟩:=hrd.at' trivial e1
   obtain ⟨b,hb1,hb2⟩:=hrd.at' trivial e2
   have hwp:=wrap_pred (n:=k) h1 (by omega)
   have hw2:=wrap_pos (n:=k) (by omega)
   have hlt':(k:Int) < (n:Int):=by omega
   unfold iV at ha2 hb2
   cases heq:x == l.getD (k - 1) 0 with
   | true=>
     obtain ⟨c',q1,q2,q3⟩:=compact_inner call base id g n k l hl hb hn H hid hlt r 1 k c hd' (Nat.le_refl _) (by omega) (Nat.le_refl _) (by omega) hc (fun j _ hj2=>hr j hj2)
     have hkk:k+1 - 1=k:=by omega
     rw [hkk,hxD] at q1 q3
     rw [getC_same hg] at q1
     have c1:((1:Nat):Int)=1:=rfl
     rw [c1] at q1
     have hm:k+(chg x r).length≤n:=by
      have h1:=chg_len r x
      have h2:=congrArg List.length hd
      simp at h2
      omega
     have hmi:((k+(chg x r).length:Nat):Int)≤(n:Int):=by omega
     have hg':getC (H.set id (.cells g c')) id g=some c':=by simp [getC,hid]
     have hcl:=clear_at (zero:=[.s (.int .i64 0)]) (off:=k+(chg x r).length) (len:=n - (k+(chg x r).length)) hg' hb rfl rfl (by omega)
     have hchg:chg (l.getD (k - 1) 0) (x :: r)=chg x r:=by simp only [chg,heq,if_true]
     rw [hchg]
     refine .inr ⟨c'.take (k+(chg x r).length) ++ (List.replicate (n - (k+(chg x r).length)) [V.s (.int .i64 0)]).flatten ++ c'.drop (k+(chg x r).length+(n - (k+(chg x r).length))),?_,?_,?_⟩
     ·have hmn:((n:Int) - (k+(chg x r).length:Nat)).toNat=n - (k+(chg x r).length):=by omega
      have hmi':(k:Int)+((chg x r).length:Int)≤n:=by omega
      have hkn:(k:Int)≤n:=by omega
      have hnk:((n:Int) - (k:Int)).toNat=n - k:=by omega
      have hmz:((k+(chg x r).length:Nat):Int) - 0=(k+(chg x r).length:Nat):=by omega
      rw [itW_step]
      simp only [a_f30,s_f30_l0_b,s_f30_l1_b,aa,bl,i64,reduceIte,reduceCtorEq,Nat.reduceEqDiff,Nat.reduceLT,Nat.reduceLeDiff,Nat.reduceBEq,Nat.reduceAdd,fillA,splice,Nat.reduceMul,amY,op_eqP,hlt',ha1,ha2,hwp,hb1,hb2,heq,trim_same rfl,hkn,hnk,q1,hmi,hmn,hcl,hmz,Int.toNat_natCast,Nat.mul_one,Nat.zero_add,List.set_set,Int.natCast_nonneg]
      rw [trim_same (List.length_set)]
     ·simp
      omega
     ·rw [List.append_assoc,List.take_append_of_le_length (by simp;omega),List.take_take,Nat.min_self,q3,List.map_append]
      congr 1
      refine List.ext_getElem? fun j=>?_
      by_cases hj:j < k
      ·rw [List.getElem?_take_of_lt hj,hr j (by omega),List.getElem?_map,List.getElem?_take_of_lt hj,List.getElem?_eq_getElem (by omega)]
       simp [List.getD,List.getElem?_eq_getElem (show j < l.length by omega)]
      ·rw [List.getElem?_eq_none (by simp;omega),List.getElem?_eq_none (by simp;omega)]
   | false=>
     have hchg:chg (l.getD (k - 1) 0) (x :: r)=x :: chg x r:=by simp only [chg,heq,Bool.false_eq_true,if_false]
     have hkk:k+1 - 1=k:=by omega
     rw [hchg]
     have hI:=ih (k+1) hd' (by omega) (by omega)
     rw [hkk,hxD] at hI
     rcases hI with ⟨q,q2⟩ | ⟨c',q1,q2,q3⟩
     ·refine .inl ⟨?_,by rw [q2]⟩
      rw [itW_step]
      simp only [a_f30,s_f30_l0_b,s_f30_l1_b,aa,bl,i64,reduceIte,reduceCtorEq,Nat.reduceEqDiff,Nat.reduceLT,Nat.reduceLeDiff,Nat.reduceBEq,Nat.reduceAdd,fillA,splice,Nat.reduceMul,amY,op_eqP,hlt',ha1,ha2,hwp,hb1,hb2,heq,hw2,trim_same rfl]
      exact q
     ·have hl2:k+1+(chg x r).length=k+(x :: chg x r).length:=by simp;omega
      have hl3:l.take (k+1) ++ chg x r=l.take k ++ x :: chg x r:=by
       rw [List.take_succ_eq_append_getElem (by omega),List.append_assoc]
       have:l[k]=x:=by have:=List.getElem?_eq_getElem (l:=l) (i:=k) (by omega);rw [hx] at this;injection this with h;exact h.symm
       rw [this];rfl
      rw [hl2] at q1 q3
      rw [hl3] at q3
      refine .inr ⟨c',?_,q2,q3⟩
      rw [itW_step]
      simp only [a_f30,s_f30_l0_b,s_f30_l1_b,aa,bl,i64,reduceIte,reduceCtorEq,Nat.reduceEqDiff,Nat.reduceLT,Nat.reduceLeDiff,Nat.reduceBEq,Nat.reduceAdd,fillA,splice,Nat.reduceMul,amY,op_eqP,hlt',ha1,ha2,hwp,hb1,hb2,heq,hw2,trim_same rfl]
      exact q1
end Go.Proofs.Ytdmnenlpdeolaaa
set_option maxRecDepth 100000
namespace Go.Proofs.Ytdmnenlpdeolaaa
open Go.AM
theorem map_get {l:List Int} {j:Nat} (hj:j < l.length):(l.map iV)[j]?=some (iV (l.getD j 0)):=by
 rw [List.getElem?_map,List.getElem?_eq_getElem hj]
 simp [List.getD,List.getElem?_eq_getElem hj]
theorem compact_own {CT:Nat→Option CFun} (hT:CT k_f30=some (.code s_f30)) (base m:Nat) (H:Heap) (v:V) (l:List Int) (hv:OwnN m H v (l.map iV)) (hb:base≤m) (hn:l.length < 2 ^ 62):
 ∃ v' H',callW CT (.fn k_f30 [] []) [v] base H=some (v',H')∧OwnN m H' v' ((compactZ l).map iV)∧∀ H0,H0.length≤m→Ext H0 H→Ext H0 H':=by
 by_cases h2:l.length < 2
 ·refine ⟨v,H,?_,?_,fun _ _ h=>h⟩
  ·refine callW_fn (c:=s_f30) hT (by simp [s_f30]) ?_
   have h2':((l.length:Nat):Int) < 2:=by omega
   simp only [s_f30,a_f30,s_f30_l0_b,s_f30_l1_b,aa,bl,i64,reduceIte,reduceCtorEq,Nat.reduceEqDiff,Nat.reduceLT,Nat.reduceLeDiff,Nat.reduceBEq,Nat.reduceAdd,fillA,splice,Nat.reduceMul,amY,op_eqP,hv.rd.len,List.length_map,h2']
  ·match l,h2 with
   | [],_=>exact hv
   | [x],_=>exact hv
 ·rcases hv with ⟨h,_⟩ | ⟨id,g,c,rfl,hc,hl,ht,hid⟩
  ·have:=congrArg List.length h
   simp at this
   subst this
   simp at h2
  ·rw [List.length_map] at hl ht ⊢
   have hr:∀ j,j < l.length→c[j]?=some (iV (l.getD j 0)):=fun j hj=>by
    rw [← map_get hj,← ht,List.getElem?_take_of_lt hj]
   have hlt:=getC_lt hc
   match l,h2,hr,hl,ht,hn with
   | [],h2,_,_,_,_=>simp at h2
   | x :: r,h2,hr,hl,ht,hn=>
     have ho:=compact_outer (callW CT) base id g (x :: r).length (x :: r) rfl (by omega) hn H hlt c hl hc hr r 1 rfl (Nat.le_refl _) (by simp)
     have e0:(x :: r).getD (1 - 1) 0=x:=rfl
     rw [e0] at ho
     have c1:((1:Nat):Int)=1:=rfl
     rw [c1,List.length_cons] at ho
     have h2':¬ ((r.length+1:Nat):Int) < 2:=by simp at h2;omega
     rcases ho with ⟨q,hq⟩ | ⟨c',q,q2,q3⟩
     ·refine ⟨.sl id g 0 (x :: r).length 1,H,?_,?_,fun _ _ h=>h⟩
      ·refine callW_fn (c:=s_f30) hT (by simp [s_f30]) ?_
       simp only [s_f30,a_f30,s_f30_l0_b,s_f30_l1_b,aa,bl,i64,reduceIte,reduceCtorEq,Nat.reduceEqDiff,Nat.reduceLT,Nat.reduceLeDiff,Nat.reduceBEq,Nat.reduceAdd,fillA,splice,Nat.reduceMul,amY,op_eqP,h2',q]
      ·rw [show compactZ (x :: r)=x :: r by simp only [compactZ,hq]]
       exact .inr ⟨id,g,c,by rw [List.length_map],hc,by rw [List.length_map];exact hl,by rw [List.length_map];exact ht,hid⟩
     ·refine ⟨.sl id g 0 (1+(chg x r).length) 1,H.set id (.cells g c'),?_,?_,fun H0 h0 h=>h.set (by omega) _⟩
      ·refine callW_fn (c:=s_f30) hT (by simp [s_f30]) ?_
       simp only [s_f30,a_f30,s_f30_l0_b,s_f30_l1_b,aa,bl,i64,reduceIte,reduceCtorEq,Nat.reduceEqDiff,Nat.reduceLT,Nat.reduceLeDiff,Nat.reduceBEq,Nat.reduceAdd,fillA,splice,Nat.reduceMul,amY,op_eqP,h2',q]
      ·have hcl:=chg_len r x
       refine .inr ⟨id,g,c',?_,getC_put hc,?_,?_,hid⟩
       ·simp [compactZ];omega
       ·simp [compactZ] at hl ⊢;omega
       ·have:((compactZ (x :: r)).map iV).length=1+(chg x r).length:=by simp [compactZ];omega
        rw [this,q3];rfl
theorem sort_own {CT:Nat→Option CFun} (hT:CT k_f29=some (.prim sortG)) (base m:Nat) (H:Heap) (v:V) (l:List Int) (hv:OwnN m H v (l.map iV)) (hb:base≤m) (hn:l.length < 2 ^ 62):
 ∃ H',callW CT (.fn k_f29 [] []) [v] base H=some (und,H')∧OwnN m H' v ((sortZ l).map iV)∧∀ H0,H0.length≤m→Ext H0 H→Ext H0 H':=by
 have hp:∀ r,sortG [v] base H=some r→callW CT (.fn k_f29 [] []) [v] base H=some r:=fun r hr=>callW_eq (by simp only [evCall,hT,List.nil_append,List.append_nil];exact hr)
 have hsl:(sortZ l).length=l.length:=by rw [sortZ,List.length_mergeSort]
 have hnil:l=[]→sortZ l=[]:=fun h=>by subst h;simp [sortZ]
 rcases hv with ⟨h,hv⟩ | ⟨id,g,c,rfl,hc,hl,ht,hid⟩
 ·have h':l=[]:=by simpa using h
  refine ⟨H,hp _ ?_,.inl ⟨by rw [hnil h'];rfl,hv⟩,fun _ _ h=>h⟩
  rcases hv with rfl | rfl <;> rfl
 ·rw [List.length_map] at hl ht
  by_cases h0:l.length=0
  ·have h':l=[]:=List.eq_nil_of_length_eq_zero h0
   refine ⟨H,hp _ ?_,.inr ⟨id,g,c,by simp [hsl],hc,by simp [hsl];exact hl,by simp [hnil h'],hid⟩,fun _ _ h=>h⟩
   simp only [sortG,List.length_map,h0,if_true]
  ·refine ⟨H.set id (.cells g (splice c 0 ((sortZ l).map iV))),hp _ ?_,.inr ⟨id,g,_,by simp [hsl],getC_put hc,?_,?_,hid⟩,fun H0 h0 h=>h.set (by omega) _⟩
   ·have h1:base≤id∧1=1∧l.length < 4611686018427387904:=⟨by omega,rfl,hn⟩
    have h3:0+l.length≤c.length:=by omega
    simp only [sortG,List.length_map,h0,if_false,h1,and_self,if_true,hc,List.drop_zero,ht,intsOf_map,h3]
   ·simp [splice,hsl]
   ·simp [splice,hsl]
end Go.Proofs.Ytdmnenlpdeolaaa
set_option maxRecDepth 100000
namespace Go.Proofs.Ytdmnenlpdeolaaa
open Go.AM
def New (m:Nat) (H:Heap) (v:V) (l:List Int):Prop:=(l=[]∧(v=nilS∨v=.esl))∨∃ id,v=.sl id 0 0 l.length 1∧getC H id 0=some (l.map iV)∧m≤id
def pV (p:Int→Bool):V→Bool
 | .s (.int _ k)=>p k
 | _=>false
theorem filter_iV (p:Int→Bool) (l:List Int):(l.map iV).filter (fun x=>!pV p x)=(l.filter fun k=>!p k).map iV:=by
 rw [List.filter_map];rfl
theorem delete_own {CT:Nat→Option CFun} (hT:CT k_f33=some (.code s_f33)) (hT2:CT k_f40=some (.code s_f40))
 (base m:Nat) (H:Heap) (f v:V) (l:List Int) (hv:New m H v l) (hb:base≤m) (hn:l.length < 2 ^ 62) (p:Int→Bool)
 (hp:∀ H' k,(∀ i,i < m→H'[i]?=H[i]?)→callW CT f [iV k] base H'=some (.s (.bool (p k)),H')):
 ∃ v' H',callW CT (.fn k_f33 [] []) [v,f] base H=some (v',H')∧OwnN m H' v' ((l.filter fun k=>!p k).map iV)∧∀ H0,H0.length≤m→Ext H0 H→Ext H0 H':=by
 rcases hv with ⟨rfl,hv⟩ | ⟨id,rfl,hc,hid⟩
 ·have hrd:Rd H v []:=by rcases hv with rfl | rfl <;> first | exact Rd.nil H | exact Rd.esl H
  have hw:Wide1 v:=by rcases hv with rfl | rfl <;> trivial
  have hix:=index_fun hT2 base H v f [] hrd hw (by simp) (fun _=>false) (fun x hx=>absurd hx List.not_mem_nil)
  refine ⟨v,H,?_,.inl ⟨rfl,hv⟩,fun _ _ h=>h⟩
  refine callW_fn (c:=s_f33) hT (by simp [s_f33]) ?_
  simp only [idx] at hix
  simp only [s_f33,a_f33,s_f33_l0_b,aa,bl,i64,reduceIte,reduceCtorEq,Nat.reduceEqDiff,Nat.reduceLT,Nat.reduceLeDiff,Nat.reduceBEq,Nat.reduceAdd,fillA,splice,Nat.reduceMul,amY,op_eqP,hix,idxV]
 ·obtain ⟨c',q1,q2,q3⟩:=delete_fun hT hT2 base H f id 0 l.length (l.map iV) hc (by simp) (fun x=>∃ k,x=iV k) (by rintro _ ⟨k,rfl⟩;rfl) (by intro x hx;obtain ⟨k,_,rfl⟩:=List.mem_map.1 hx;exact ⟨k,rfl⟩) (by omega) hn (pV p)
   (by
    rintro _ ⟨k,rfl⟩ c _
    exact hp _ k fun i hi=>by rw [List.getElem?_set_ne (by omega)])
  rw [filter_iV] at q1 q3
  have hfl:=List.length_filter_le (fun k=>!p k) l
  exact ⟨_,_,q1,.inr ⟨id,0,c',rfl,getC_put hc,by rw [List.length_map];omega,q3,hid⟩,fun H0 h0 h=>h.set (by omega) _⟩
def outR (n:Int) (k:Int):Bool:=decide (k < 0) || decide (k ≥ n)
def normR (n:Int) (r:List Int):List Int:=compactZ (sortZ (r.filter fun k=>!outR n k))
def normG (G:List (List Int)):List (List Int):=G.map (normR G.length)
def rowsV (G:List (List Int)):List (List V):=G.map (·.map iV)
theorem rowsV_get {G:List (List Int)} {i:Nat} {r:List Int} (h:G[i]?=some r):(rowsV G)[i]?=some (r.map iV):=by rw [rowsV,List.getElem?_map,h];rfl
theorem rowsV_len (G:List (List Int)):(rowsV G).length=G.length:=by simp [rowsV]
theorem norm_loop {CT:Nat→Option CFun} (hC:CT k_f34=some (.code s_f34)) (hD:CT k_f33=some (.code s_f33)) (hI:CT k_f40=some (.code s_f40)) (hS:CT k_f29=some (.prim sortG)) (hK:CT k_f30=some (.code s_f30)) (hN:CT k_f35=some (.code s_f35))
 (base:Nat) (v:V) (G:List (List Int)) (bx id L:Nat) (H0:Heap) (hv:RdRows H0 v (rowsV G)) (hb:base≤H0.length) (hn:G.length < 2 ^ 40) (hr:∀ r∈G,r.length < 2 ^ 40) (h1:H0.length≤bx) (h2:bx < id) (h3:id < L):
 ∀ (k i:Nat) (H:Heap) (vs:List V),i+k=G.length→Ext H0 H→L≤H.length→getC H bx 0=some [v]→getC H id 0=some vs→vs.length=G.length→(∀ (j:Nat) (r:List Int),j < i→G[j]?=some r→∃ x,vs[j]?=some x∧OwnN (id+1) H x ((normR G.length r).map iV))→
 ∃ H' vs',itW (evC (callW CT) itW base s_f18_l0) [] L (frOf 30 [(1,.ref bx 0 0),(3,.sl id 0 0 G.length 1),(10,v),(11,.s (.int .i64 G.length)),(12,.s (.int .i64 i))]) H=
   some (.ext 0,frOf 30 [(1,.ref bx 0 0),(3,.sl id 0 0 G.length 1),(10,v),(11,.s (.int .i64 G.length)),(12,.s (.int .i64 G.length)),(13,.s (.bool false))],H')∧
   Ext H0 H'∧getC H' id 0=some vs'∧vs'.length=G.length∧(∀ (j:Nat) (r:List Int),G[j]?=some r→∃ x,vs'[j]?=some x∧OwnN (id+1) H' x ((normR G.length r).map iV)):=by
 intro k
 induction k with
 | zero=>
   intro i H vs hi he hL hbx hid hlen hrows
   obtain rfl:i=G.length:=by omega
   refine ⟨trim L (frOf 30 [(1,.ref bx 0 0),(3,.sl id 0 0 G.length 1),(10,v),(11,.s (.int .i64 G.length)),(12,.s (.int .i64 G.length)),(13,.s (.bool false))]) H,vs,?_,he.trim (by omega) _,trim_get hid h3,hlen,fun j r hj=>?_⟩
   ·rw [itW_step]
    simp only [a_f18,s_f18_l0_b,aa,bl,i64,reduceIte,reduceCtorEq,Nat.reduceEqDiff,Nat.reduceLT,Nat.reduceLeDiff,Nat.reduceBEq,Nat.reduceAdd,fillA,splice,Nat.reduceMul,amY,op_eqP,Int.lt_irrefl]
   ·obtain ⟨x,q1,q2⟩:=hrows j r (List.getElem?_eq_some_iff.1 hj).1 hj
    exact ⟨x,q1,q2.trim hid h3 (List.mem_of_getElem? q1) _⟩
 | succ k ih=>
   intro i H vs hi he hL hbx hid hlen hrows
   have hig:G[i]?=some G[i]:=List.getElem?_eq_getElem (by omega)
   have hrl:=hr _ (List.getElem_mem (by omega:i < G.length))
   have hH0:=he.le
   obtain ⟨a,x,ha1,ha2,hx,hxw⟩:=(hv.ext he).at (rowsV_get hig)
   obtain ⟨r1,H1,q1,e1,o1⟩:=clone_fun hC base H x G[i] hx (by omega)
   have hnew:New H.length H1 r1 G[i]:=o1
   have hiH:id < H.length:=getC_lt hid
   obtain ⟨v2,H2,q2,o2,e2⟩:=delete_own hD hI base H.length H1 (.fn k_f35 [] [.ref bx 0 0]) r1 G[i] hnew (by omega) (by omega) (outR G.length) (by
    intro H' k hk
    have hk':∀ i,i < H.length→H'[i]?=H[i]?:=fun i hi=>by rw [hk i hi,e1.get hi]
    have hbx':getC H' bx 0=some [v]:=by rw [← hbx];simp only [getC,hk' bx (by omega)]
    have heH:Ext H0 H':=Ext.of_get (by
     refine Nat.le_of_not_lt fun hlt=>?_
     have h1:=hk' H'.length (by omega)
     rw [List.getElem?_eq_none (Nat.le_refl _),List.getElem?_eq_getElem (by omega)] at h1
     cases h1) (fun i hi=>by rw [hk' i (by omega),he.get hi])
    exact norm1_fun hN base H' bx v hbx' G.length (by rw [← rowsV_len G];exact (hv.ext heH).len) k)
   have e2':=e2 H (Nat.le_refl _) e1
   have hfl:=List.length_filter_le (fun k=>!outR G.length k) G[i]
   obtain ⟨H3,q3,o3,e3⟩:=sort_own hS base H.length H2 v2 _ o2 (by omega) (by omega)
   have e3':=e3 H (Nat.le_refl _) e2'
   have hsl:(sortZ (G[i].filter fun k=>!outR G.length k)).length=(G[i].filter fun k=>!outR G.length k).length:=by rw [sortZ,List.length_mergeSort]
   obtain ⟨v4,H4,q4,o4,e4⟩:=compact_own hK base H.length H3 v2 _ o3 (by omega) (by omega)
   have e4':=e4 H (Nat.le_refl _) e3'
   have hid4:=getC_ext hid e4'
   have hst:=storeV_at (v:=v4) hid4 (by omega) o4.one (off:=i) (base:=base) (by omega)
   have hw:=wrap_pos (n:=i) (by omega)
   have hlt':(i:Int) < (G.length:Int):=by omega
   have hid5:=getC_put (c':=vs.set i v4) hid4
   obtain ⟨H',vs',p1,p2,p3,p4,p5⟩:=ih (i+1) (trim L (frOf 30 [(1,.ref bx 0 0),(3,.sl id 0 0 G.length 1),(10,v),(11,.s (.int .i64 G.length)),(12,.s (.int .i64 ((i+1:Nat):Int)))]) (H4.set id (.cells 0 (vs.set i v4)))) (vs.set i v4) (by omega) (((he.trans e4').set (by omega) _).trim (by omega) _) (trim_le (by rw [List.length_set];have:=e4'.le;omega)) (trim_get (by rw [getC_other (by omega)];exact getC_ext hbx e4') (by omega)) (trim_get hid5 h3) (by rw [List.length_set];exact hlen) (by
    intro j r hj hr
    by_cases hji:j=i
    ·subst hji
     rw [hig] at hr
     cases hr
     have hg:(vs.set j v4)[j]?=some v4:=by rw [List.getElem?_set_self (by omega)]
     exact ⟨v4,hg,((o4.mono (by omega:id+1≤H.length)).set (by omega) _).trim hid5 h3 (List.mem_of_getElem? hg) _⟩
    ·obtain ⟨x,q1,q2⟩:=hrows j r (by omega) hr
     have hg:(vs.set i v4)[j]?=some x:=by rw [List.getElem?_set_ne (by omega)];exact q1
     exact ⟨x,hg,((q2.ext e4').set (by omega) _).trim hid5 h3 (List.mem_of_getElem? hg) _⟩)
   refine ⟨H',vs',?_,p2,p3,p4,p5⟩
   rw [itW_step]
   simp only [a_f18,s_f18_l0_b,aa,bl,i64,reduceIte,reduceCtorEq,Nat.reduceEqDiff,Nat.reduceLT,Nat.reduceLeDiff,Nat.reduceBEq,Nat.reduceAdd,fillA,splice,Nat.reduceMul,amY,op_eqP,hlt',ha1,ha2,q1,q2,q3,q4,hst,hw,xsub_mkFn]
   exact p1
theorem norm_fun {CT:Nat→Option CFun} (hT:CT k_f18=some (.code s_f18)) (hC:CT k_f34=some (.code s_f34)) (hD:CT k_f33=some (.code s_f33)) (hI:CT k_f40=some (.code s_f40)) (hS:CT k_f29=some (.prim sortG)) (hK:CT k_f30=some (.code s_f30)) (hN:CT k_f35=some (.code s_f35))
 (base:Nat) (H:Heap) (v:V) (G:List (List Int)) (hv:RdRows H v (rowsV G)) (hb:base≤H.length) (hn:G.length < 2 ^ 40) (hr:∀ r∈G,r.length < 2 ^ 40):
 ∃ v' H',callW CT (.fn k_f18 [] []) [v] base H=some (v',H')∧Ext H H'∧OwnRows H.length H' v' (rowsV (normG G)):=by
 have hone:v.one=true:=by obtain ⟨vs,h,_⟩:=hv;exact h.one
 have hlen:xLen (H ++ [.cells 0 [v]]) .s v=some (.s (.int .i64 G.length)):=by rw [← rowsV_len G];exact (hv.ext (Ext.app _ _)).len
 have hlen2:xLen (H ++ [.cells 0 [v]] ++ [.cells 0 (List.replicate G.length [nilS]).flatten]) .s v=some (.s (.int .i64 G.length)):=by rw [← rowsV_len G];exact ((hv.ext (Ext.app _ _)).ext (Ext.app _ _)).len
 have hmk:=make_n (H:=H ++ [.cells 0 [v]]) (zero:=[nilS]) (sz:=1) (bytes:=24) (k:=.i64) (k':=.i64) (n:=G.length) (by omega)
 obtain ⟨H',vs,p1,p2,p3,p4,p5⟩:=norm_loop hC hD hI hS hK hN base v G H.length (H.length+1) (H.length+2) H hv hb hn hr (Nat.le_refl _) (by omega) (by omega) G.length 0 (H ++ [.cells 0 [v]] ++ [.cells 0 (List.replicate G.length [nilS]).flatten]) (List.replicate G.length nilS) (by omega) ⟨[.cells 0 [v],.cells 0 (List.replicate G.length [nilS]).flatten],by simp⟩ (by simp) (by simp [getC]) (by rw [flat_one];simp [getC]) (by simp) (fun j r hj=>by omega)
 rw [cast0] at p1
 simp only [nilS] at hmk p1 hlen2
 refine ⟨.sl (H.length+1) 0 0 G.length 1,H',callW_fnA (c:=s_f18) (k:=1) hT rfl (by decide) s_f18_first ?_,p2,H.length+1,0,vs,by rw [rowsV_len];simp [normG],p3,by omega,by rw [rowsV_len];simp [normG,p4],?_⟩
 ·simp only [s_f18,a_f18,s_f18_l0_b,aa,bl,i64,reduceIte,reduceCtorEq,Nat.reduceEqDiff,Nat.reduceLT,Nat.reduceLeDiff,Nat.reduceBEq,Nat.reduceAdd,fillA,splice,Nat.reduceMul,amY,op_eqP,cells_of_one hone,hone,hlen,hlen2,op_mkSl,hmk,p1]
 ·intro j r hj
  rw [rowsV,normG,List.map_map,List.getElem?_map,Option.map_eq_some_iff] at hj
  obtain ⟨g,hg,rfl⟩:=hj
  exact p5 j g hg
end Go.Proofs.Ytdmnenlpdeolaaa
namespace Go.AM
open Go.RowKit
inductive Ty where
 | int (k:IntKind) | bool | str
 | sl (e:Ty)
 | st (fs:List Ty)
 deriving Inhabited
mutual
def Ty.width:Ty→Nat
 | .int _=>1
 | .bool=>1
 | .str=>1
 | .sl _=>1
 | .st fs=>widths fs
def widths:List Ty→Nat
 | []=>0
 | f :: fs=>f.width+widths fs
end
mutual
def tyOk (P:Program):Nat→Ty→TypeId→Bool
 | 0,_,_=>false
 | n+1,ty,t=>match ty,P.underlying t with
   | .int k,some (.int k')=>k == k'
   | .bool,some .bool=>true
   | .str,some .string=>true
   | .sl e,some (.slice e')=>tyOk P n e e' && P.cellsOf e' == e.width && decide (0 < e.width)
   | .st fs,some (.struct gs)=>P.cellsOf t == widths fs && tysOk P n 0 fs gs.toList
   | _,_=>false
def tysOk (P:Program):Nat→Nat→List Ty→List Field→Bool
 | 0,_,_,_=>false
 | n+1,off,fs,gs=>match fs,gs with
   | [],[]=>true
   | f :: fs,g :: gs=>g.offset == off && P.cellsOf g.type == f.width && tyOk P n f g.type && tysOk P n (off+f.width) fs gs
   | _,_=>false
end
mutual
def IsV:Ty→List V→Prop
 | .int k,cs=>∃ n,cs=[.s (.int k n)]∧k.min≤n∧n≤k.max
 | .bool,cs=>∃ b,cs=[.s (.bool b)]
 | .str,cs=>∃ b,cs=[.s (.string b)]∧b.size≤maxLen
 | .sl e,cs=>cs=[nilS]∨∃ es:List (List V),cs=[.psl es e.width]∧es.length≤maxLen∧∀ x∈es,IsV e x
 | .st fs,cs=>IsVs fs cs
def IsVs:List Ty→List V→Prop
 | [],cs=>cs=[]
 | f :: fs,cs=>∃ a b,cs=a ++ b∧IsV f a∧IsVs fs b
end
mutual
theorem IsV.len:∀ (t:Ty) {cs:List V},IsV t cs→cs.length=t.width
 | .int _,cs,h=>by obtain ⟨n,rfl,_⟩:=h;rfl
 | .bool,cs,h=>by obtain ⟨n,rfl⟩:=h;rfl
 | .str,cs,h=>by obtain ⟨n,rfl,_⟩:=h;rfl
 | .sl e,cs,h=>by rcases h with rfl | ⟨es,rfl,_⟩ <;> rfl
 | .st fs,cs,h=>IsVs.len fs h
theorem IsVs.len:∀ (fs:List Ty) {cs:List V},IsVs fs cs→cs.length=widths fs
 | [],cs,h=>by cases h;rfl
 | f :: fs,cs,h=>by
   obtain ⟨a,b,rfl,h1,h2⟩:=h
   rw [List.length_append,IsV.len f h1,IsVs.len fs h2];rfl
end
abbrev PRs (w:World) (vs:List V) (cs:List Value):Prop:=vs.length=cs.length∧∀ (i:Nat) (a:V) (b:Value),vs[i]?=some a→cs[i]?=some b→PR (fun _=>False) w a b
theorem PRs.app {w:World} {a b:List V} {c d:List Value} (h:PRs w a c) (k:PRs w b d):PRs w (a ++ b) (c ++ d):=by
 refine ⟨by simp [h.1,k.1],fun i x y hx hy=>?_⟩
 by_cases hi:i < a.length
 ·rw [List.getElem?_append_left hi] at hx
  rw [List.getElem?_append_left (by rw [← h.1];exact hi)] at hy
  exact h.2 i x y hx hy
 ·rw [List.getElem?_append_right (by omega)] at hx
  rw [List.getElem?_append_right (by rw [← h.1];omega),← h.1] at hy
  exact k.2 _ x y hx hy
theorem PRs.one {w:World} {a:V} {b:Value} (h:PR (fun _=>False) w a b):PRs w [a] [b]:=⟨rfl,fun i x y hx hy=>by
 cases i with
 | zero=>simp at hx hy;rw [← hx,← hy];exact h
 | succ i=>simp at hx⟩
theorem PRs.vrs {w:World} {vs:List V} {cs:List Value} (h:PRs w vs cs):VRs (fun _ _=>none) (fun _=>False) w vs cs:=⟨h.1,fun i a b ha hb=>(h.2 i a b ha hb).vr⟩
theorem mapM_fwd {α β:Type} {f:α→Option β} {l:List α} {us:List β} (h:l.mapM f=some us):us.length=l.length∧∀ (i:Nat) (v:α),l[i]?=some v→∃ u,us[i]?=some u∧f v=some u:=by
 obtain ⟨h1,h2⟩:=mapM_get2 h
 refine ⟨h1,fun i v hv=>?_⟩
 have hi:i < us.length:=by rw [h1];exact (List.getElem?_eq_some_iff.1 hv).1
 exact ⟨us[i],List.getElem?_eq_getElem hi,h2 i v _ hv (List.getElem?_eq_getElem hi)⟩
section
variable {H:Type} {enc:TypeId × Value→H} {P:Program} {w:World} {base:Nat} {sp:Nat→Bool} {held:Bool}
theorem add_block (a:Addr) (j:Nat):(a.add j).block=a.block:=by unfold Addr.add;split <;> rfl
theorem add_off {a:Addr} (h:a.spot=none) (j:Nat):(a.add j).off=a.off+j:=by
 unfold Addr.add
 split
 ·rename_i e;subst e;rfl
 ·rfl
theorem cells_row {a:Addr} {n:Nat} {cs:List Value} (h:w.cells? base a n=some cs) (hn:0 < n):∃ arr e fr,w.heap[a.block]?=some (.cells arr e fr)∧a.spot=none∧cs.length=n∧a.off+n≤arr.size∧∀ j,j < n→cs[j]?=arr[a.off+j]?:=by
 unfold World.cells? at h
 split at h
 ·obtain ⟨h1,h2⟩:=mapM_fwd h
  simp only [List.length_range] at h1
  have key:∀ j,j < n→∃ u,cs[j]?=some u∧w.cell? (a.add j)=some u:=fun j hj=>h2 j j (by simp [hj])
  obtain ⟨u0,_,hc0⟩:=key 0 hn
  unfold World.cell? at hc0
  split at hc0
  ·rename_i c e fr hh
   have hbl:∀ j,(a.add j).block=a.block:=fun j=>add_block a j
   rw [hbl] at hh
   split at hc0
   ·cases hc0
   ·rename_i hsp
    have hsp:a.spot=none:=by
     cases hs:a.spot with
     | none=>rfl
     | some x=>exact absurd (by show (a.add 0).spot.isSome=true;simp [Addr.add,hs]) hsp
    have all:∀ j,j < n→cs[j]?=c[a.off+j]?:=by
     intro j hj
     obtain ⟨u,hu,hc⟩:=key j hj
     unfold World.cell? at hc
     rw [hbl,hh] at hc
     simp only [] at hc
     split at hc
     ·cases hc
     ·rw [hu]
      have:(a.add j).off=a.off+j:=add_off hsp j
      rw [← this];exact hc.symm
    refine ⟨c,e,fr,hh,hsp,h1,?_,all⟩
    have hl:=all (n - 1) (by omega)
    have:cs[n - 1]?=some cs[n - 1]:=List.getElem?_eq_getElem (by omega)
    rw [this] at hl
    have:=(Array.getElem?_eq_some_iff.1 hl.symm).1
    omega
  ·cases hc0
 ·cases h
theorem tyOk_int {n:Nat} {k:IntKind} {t:TypeId} (h:tyOk P n (.int k) t=true):P.underlying t=some (.int k):=by
 cases n with
 | zero=>simp [tyOk] at h
 | succ n=>
   simp only [tyOk] at h
   split at h <;> simp_all
theorem tyOk_bool {n:Nat} {t:TypeId} (h:tyOk P n .bool t=true):P.underlying t=some .bool:=by
 cases n with
 | zero=>simp [tyOk] at h
 | succ n=>
   simp only [tyOk] at h
   split at h <;> simp_all
theorem tyOk_str {n:Nat} {t:TypeId} (h:tyOk P n .str t=true):P.underlying t=some .string:=by
 cases n with
 | zero=>simp [tyOk] at h
 | succ n=>
   simp only [tyOk] at h
   split at h <;> simp_all
theorem tyOk_sl {n:Nat} {e:Ty} {t:TypeId} (h:tyOk P n (.sl e) t=true):∃ m e',P.underlying t=some (.slice e')∧tyOk P m e e'=true∧P.cellsOf e'=e.width∧0 < e.width:=by
 cases n with
 | zero=>simp [tyOk] at h
 | succ n=>
   simp only [tyOk] at h
   split at h <;> simp_all
   exact ⟨n,h.1.1⟩
theorem tyOk_st {n:Nat} {fs:List Ty} {t:TypeId} (h:tyOk P n (.st fs) t=true):∃ m gs,P.underlying t=some (.struct gs)∧P.cellsOf t=widths fs∧tysOk P m 0 fs gs.toList=true:=by
 cases n with
 | zero=>simp [tyOk] at h
 | succ n=>
   simp only [tyOk] at h
   split at h <;> simp_all
   exact ⟨n,h.2⟩
theorem read_ty:∀ (fuel n:Nat) (ty:Ty) (t:TypeId) (cs:List Value) (x:DataW H × List MemPlace),tyOk P n ty t=true→DataW.trod enc P w base sp held fuel t cs=some x→∃ vs,IsV ty vs∧PRs w vs cs:=by
 intro fuel
 induction fuel with
 | zero=>intro n ty t cs x _ h;simp [DataW.trod] at h
 | succ fuel ih=>
   intro n ty t cs x ht h
   cases ty with
   | int k=>
     obtain ⟨m,rfl,_,hw⟩:=DataW.trod_int (tyOk_int ht) h
     simp only [Lit.wf,Bool.and_eq_true,decide_eq_true_eq] at hw
     exact ⟨[.s (.int k m)],⟨m,rfl,hw.1,hw.2⟩,PRs.one (.s _)⟩
   | bool=>
     obtain ⟨b,rfl,_⟩:=DataW.trod_bool (tyOk_bool ht) h
     exact ⟨[.s (.bool b)],⟨b,rfl⟩,PRs.one (.s _)⟩
   | str=>
     obtain ⟨b,rfl,_,hb⟩:=DataW.trod_string (tyOk_str ht) h
     exact ⟨[.s (.string b)],⟨b,rfl,hb⟩,PRs.one (.s _)⟩
   | sl e=>
     obtain ⟨m,e',hu,he,hw,h0⟩:=tyOk_sl ht
     rcases DataW.trod_slice hu h with ⟨rfl,_⟩ | ⟨a,len,cap,elems,rest,n2,hn,rfl,_,hb,hlc,hcm,hel,hall,_⟩
     ·exact ⟨[nilS],.inl rfl,PRs.one (.s _)⟩
     ·have hn2:n2=fuel:=by omega
      subst hn2
      rw [hw] at hall
      by_cases hl:len=0
      ·subst hl
       exact ⟨[.psl [] e.width],.inr ⟨[],rfl,Nat.zero_le _,fun x hx=>by cases hx⟩,PRs.one (.psl0 _ _ _)⟩
      ·
       have one:∀ i,i < len→∃ cs vs,w.cells? base (a.add (i * e.width)) e.width=some cs∧IsV e vs∧PRs w vs cs:=by
        intro i hi
        have hh:=hall i hi
        have:elems[i]?=some elems[i]:=List.getElem?_eq_getElem (by omega)
        rw [this,Option.bind_eq_some_iff] at hh
        obtain ⟨cs,h1,h2⟩:=hh
        obtain ⟨vs,h3,h4⟩:=ih m e e' cs _ he h2
        exact ⟨cs,vs,h1,h3,h4⟩
       obtain ⟨c0,_,hc0,_,_⟩:=one 0 (by omega)
       rw [Nat.zero_mul] at hc0
       have ha0:a.add 0=a:=by simp [Addr.add]
       rw [ha0] at hc0
       obtain ⟨arr,el,fr,hB,hsp,_,_,_⟩:=cells_row hc0 h0
       have pos:∀ i,i < len→∃ vs,IsV e vs∧a.off+i * e.width+e.width≤arr.size∧∀ (j:Nat) (x:V) (y:Value),vs[j]?=some x→arr[a.off+i * e.width+j]?=some y→PR (fun _=>False) w x y:=by
        intro i hi
        obtain ⟨cs,vs,h1,h2,h3⟩:=one i hi
        obtain ⟨arr',el',fr',hB',_,hcl,hsz,hcj⟩:=cells_row h1 h0
        rw [add_block,hB] at hB'
        cases hB'
        rw [add_off hsp] at hsz hcj
        refine ⟨vs,h2,hsz,fun j x y hx hy=>?_⟩
        have hj:j < e.width:=by rw [← h2.len];exact (List.getElem?_eq_some_iff.1 hx).1
        exact h3.2 j x y hx (by rw [hcj j hj];exact hy)
       obtain ⟨es,he1,he2⟩:∃ es:List (List V),es.length=len∧∀ i vs,es[i]?=some vs→IsV e vs∧a.off+i * e.width+e.width≤arr.size∧∀ (j:Nat) (x:V) (y:Value),vs[j]?=some x→arr[a.off+i * e.width+j]?=some y→PR (fun _=>False) w x y:=by
        have:∀ k,k≤len→∃ es:List (List V),es.length=k∧∀ i vs,es[i]?=some vs→IsV e vs∧a.off+i * e.width+e.width≤arr.size∧∀ (j:Nat) (x:V) (y:Value),vs[j]?=some x→arr[a.off+i * e.width+j]?=some y→PR (fun _=>False) w x y:=by
         intro k
         induction k with
         | zero=>intro _;exact ⟨[],rfl,fun i vs h=>by simp at h⟩
         | succ k ihk=>
           intro hk
           obtain ⟨es,h1,h2⟩:=ihk (by omega)
           obtain ⟨vs,h3⟩:=pos k (by omega)
           refine ⟨es ++ [vs],by simp [h1],fun i us hi=>?_⟩
           by_cases c:i < es.length
           ·rw [List.getElem?_append_left c] at hi;exact h2 i us hi
           ·rw [List.getElem?_append_right (by omega)] at hi
            have:i - es.length=0:=by
             have:=(List.getElem?_eq_some_iff.1 hi).1
             simp at this;omega
            rw [this] at hi
            simp at hi
            have hik:i=k:=by omega
            subst hik;subst hi
            exact h3
        exact this len (Nat.le_refl _)
       refine ⟨[.psl es e.width],.inr ⟨es,rfl,by omega,fun x hx=>?_⟩,PRs.one ?_⟩
       ·obtain ⟨i,hi⟩:=List.mem_iff_getElem?.1 hx
        exact (he2 i x hi).1
       ·have hslice:Value.slice (some a) len cap=.slice (some ⟨a.block,a.off,none⟩) es.length cap:=by
         rw [he1]
         congr 2
         cases a;simp at hsp;subst hsp;rfl
        rw [hslice]
        refine .psl es e.width a.block a.off cap arr el fr hB (fun h=>h) (by omega) (fun i vs hi=>(he2 i vs hi).1.len) ?_ (fun i vs j x y hi hx hy=>(he2 i vs hi).2.2 j x y hx hy)
        have hlast:=(he2 (len - 1) es[len - 1] (List.getElem?_eq_getElem (by omega))).2.1
        rw [he1]
        have:len * e.width=(len - 1) * e.width+e.width:=by
         obtain ⟨k,rfl⟩:∃ k,len=k+1:=⟨len - 1,by omega⟩
         rw [Nat.add_sub_cancel,Nat.add_mul,Nat.one_mul]
        omega
   | st fs=>
     obtain ⟨m,gs,hu,hw,hts⟩:=tyOk_st ht
     obtain ⟨xs,n2,hn,_,hcl,hxl,hall⟩:=DataW.trod_struct hu h
     have hn2:n2=fuel:=by omega
     subst hn2
     have key:∀ (fs:List Ty) (m off:Nat) (gl:List Field),tysOk P m off fs gl=true→(∀ g∈gl,∃ y,DataW.trod enc P w base sp held n2 g.type ((cs.drop g.offset).take (P.cellsOf g.type))=some y)→off+widths fs=cs.length→∃ vs,IsVs fs vs∧PRs w vs (cs.drop off):=by
      intro fs
      induction fs with
      | nil=>
        intro m off gl _ _ ho
        refine ⟨[],rfl,?_⟩
        rw [List.drop_eq_nil_of_le (by simp [widths] at ho;omega)]
        exact ⟨rfl,fun i a b h=>by simp at h⟩
      | cons f fs ihf=>
        intro m off gl htk hg ho
        cases m with
        | zero=>simp [tysOk] at htk
        | succ m=>
          cases gl with
          | nil=>simp [tysOk] at htk
          | cons g gl=>
            simp only [tysOk,Bool.and_eq_true,beq_iff_eq] at htk
            obtain ⟨⟨⟨h1,h2⟩,h3⟩,h4⟩:=htk
            obtain ⟨y,hy⟩:=hg g List.mem_cons_self
            obtain ⟨va,ha1,ha2⟩:=ih m f g.type _ y h3 hy
            obtain ⟨vb,hb1,hb2⟩:=ihf m (off+f.width) gl h4 (fun g hg'=>hg g (List.mem_cons_of_mem _ hg')) (by simp only [widths] at ho;omega)
            refine ⟨va ++ vb,⟨va,vb,rfl,ha1,hb1⟩,?_⟩
            rw [h1,h2] at ha2
            have:cs.drop off=(cs.drop off).take f.width ++ cs.drop (off+f.width):=by
             rw [← List.drop_drop,List.take_append_drop]
            rw [this]
            exact ha2.app hb2
     obtain ⟨vs,h1,h2⟩:=key fs m 0 gs.toList hts (fun g hg=>by
      obtain ⟨i,hi⟩:=List.mem_iff_getElem?.1 hg
      have hi':gs[i]?=some g:=by simpa using hi
      have h3:=hall i g hi'
      have hlt:=(Array.getElem?_eq_some_iff.1 hi').1
      exact ⟨xs[i]'(by omega),by rw [h3];exact List.getElem?_eq_getElem (by omega)⟩) (by omega)
     exact ⟨vs,h1,by simpa using h2⟩
def argV:Ty→List V→V
 | .st _,vs=>.agg vs
 | _,[v]=>v
 | _,_=>.unk
theorem read_arg {n:Nat} {ty:Ty} {t:TypeId} {v:Value} {d:DataW H} {ps:List MemPlace} (ht:tyOk P n ty t=true) (hf:(match ty with | .st _=>∃ vs,v=.agg vs | _=>v.cells.toList=[v])) (h:DataW.Trod enc P w base sp held t v d ps):
 ∃ vs,IsV ty vs∧VR (fun _ _=>none) (fun _=>False) w (argV ty vs) v:=by
 obtain ⟨fuel,h⟩:=h
 obtain ⟨vs,h1,h2⟩:=read_ty fuel n ty t _ _ ht h
 refine ⟨vs,h1,?_⟩
 have one:vs.length=1→v.cells.toList=[v]→∃ x,vs=[x]∧VR (fun _ _=>none) (fun _=>False) w x v:=by
  intro hl hc
  match vs,hl with
  | [x],_=>
    rw [hc] at h2
    exact ⟨x,rfl,(h2.2 0 x v rfl rfl).vr⟩
 cases ty with
 | st fs=>
   obtain ⟨us,rfl⟩:=hf
   exact vr_agg_mk (vs:=us.toList) h2.vrs
 | _=>
   obtain ⟨x,rfl,hx⟩:=one h1.len hf
   exact hx
end
end Go.AM
set_option maxRecDepth 100000
namespace Go.Proofs.Ytdmnenlpdeolaaa
open Go.AM
def tGraph:Ty:=.sl (.sl (.int .i64))
theorem ints_of:∀ es:List (List V),(∀ x∈es,IsV (.int .i64) x)→∃ l:List Int,es=(l.map iV).map fun x=>[x]:=by
 intro es
 induction es with
 | nil=>intro _;exact ⟨[],rfl⟩
 | cons e es ih=>
   intro h
   obtain ⟨n,rfl,_⟩:=h e List.mem_cons_self
   obtain ⟨l,rfl⟩:=ih fun x hx=>h x (List.mem_cons_of_mem _ hx)
   exact ⟨n :: l,rfl⟩
theorem one_wide (l:List V):Wide1 (.psl (l.map fun x=>[x]) 1):=by
 intro e he
 rw [List.mem_map] at he
 obtain ⟨x,_,rfl⟩:=he
 rfl
theorem row_of {v:List V} (h:IsV (.sl (.int .i64)) v):∃ u,v=[u]∧∃ l:List Int,(∀ H,Rd H u (l.map iV))∧Wide1 u∧l.length < 2 ^ 63:=by
 rcases h with rfl | ⟨es,rfl,hl,he⟩
 ·exact ⟨nilS,rfl,[],fun H=>Rd.nil H,trivial,by decide⟩
 ·obtain ⟨l,rfl⟩:=ints_of es he
  refine ⟨_,rfl,l,fun H=>Rd.psl H _,one_wide _,?_⟩
  simp only [List.length_map,maxLen] at hl
  omega
theorem graph_of {v:List V} (h:IsV tGraph v):∃ u,v=[u]∧∃ G:List (List Int),∀ H,RdRows H u (rowsV G):=by
 rcases h with rfl | ⟨es,rfl,hl,he⟩
 ·exact ⟨nilS,rfl,[],fun H=>⟨[],Rd.nil H,trivial,rfl,fun i r hr=>by simp [rowsV] at hr⟩⟩
 ·have:∀ es:List (List V),(∀ x∈es,IsV (.sl (.int .i64)) x)→∃ (us:List V) (G:List (List Int)),es=(us.map fun x=>[x])∧us.length=G.length∧∀ (i:Nat) (r:List Int),G[i]?=some r→∃ x,us[i]?=some x∧(∀ H,Rd H x (r.map iV))∧Wide1 x:=by
   intro es
   induction es with
   | nil=>intro _;exact ⟨[],[],rfl,rfl,fun i r hr=>by simp at hr⟩
   | cons e es ih=>
     intro h
     obtain ⟨u,rfl,l,q1,q2,_⟩:=row_of (h e List.mem_cons_self)
     obtain ⟨us,G,rfl,h1,h2⟩:=ih fun x hx=>h x (List.mem_cons_of_mem _ hx)
     refine ⟨u :: us,l :: G,rfl,by simp [h1],fun i r hr=>?_⟩
     cases i with
     | zero=>cases hr;exact ⟨u,rfl,q1,q2⟩
     | succ i=>exact h2 i r hr
  obtain ⟨us,G,rfl,h1,h2⟩:=this es he
  refine ⟨_,rfl,G,fun H=>⟨us,Rd.psl H us,one_wide us,by rw [rowsV_len];exact h1,fun i r hr=>?_⟩⟩
  rw [rowsV,List.getElem?_map,Option.map_eq_some_iff] at hr
  obtain ⟨g,hg,rfl⟩:=hr
  obtain ⟨x,q1,q2,q3⟩:=h2 i g hg
  exact ⟨x,q1,q2 H,q3⟩
theorem int_arg {v:List V} (h:IsV (.int .i64) v):∃ z,v=[.s (.int .i64 z)]∧z < 2 ^ 63:=by
 obtain ⟨n,rfl,_,hn⟩:=h
 have hm:IntKind.i64.max=9223372036854775807:=by decide
 rw [hm] at hn
 exact ⟨n,rfl,by omega⟩
end Go.Proofs.Ytdmnenlpdeolaaa
set_option maxRecDepth 100000
namespace Go.Proofs.Ytdmnenlpdeolaaa
open Go.ChangeShapes Go.WideShapes Go.ChangeAt Go.RowKit Go.AM
theorem mixed:Try.prog.follows .mixedOrders=true:=by kernel_rfl
theorem sorts (m:Nat):AnyZI.SortsIn Try.prog Try.sortedK_ren Fence.wide m:=
 ⟨fun blk off cap ss W hH hblk hsz=>callsIn_wide.2 (Any.slices_Sort_int Try.sortK blk off cap ss W hH hblk hsz),fun p cap W=>callsIn_wide.2 (Any.slices_Sort_int_none Try.sortK p cap W)⟩
theorem sorted_prim:FunOk Try.prog (PXf (fun _=>none)) 36 (.prim (sortedG 49)):=by
 refine sorted_ok (kt:=3) (t:=3) (Go.Proofs.enters_of Try.func36 (by kernel_rfl) rfl) Try.underlying3 ?_
 intro Bm b nn D0 w hBm hm hown hmax hbytes
 refine (callsIn_wide (n:=5)).1 ?_
 have hseq:SeqGives Fence.wide 2 Try.prog 49 #[.pointer (some ⟨Bm,0,none⟩)] encZ (fun ss=>ss.Perm (intKeys D0)) (Maps.size D0) w:=
  AnyZI.keys_gives (ρ:=Try.keysK_ren) { Try.keysK with } Fence.wide _ trivial rfl (by omega) Bm b nn D0 w hBm hm hown
 exact AnyZI.sorted_in Try.sortedK Fence.wide 5 trivial trivial trivial trivial rfl (by omega) (sorts _) (Go.Proofs.enters_of Try.func29 (by kernel_rfl) rfl) 49 #[.pointer (some ⟨Bm,0,none⟩)] trivial (Go.Proofs.enters_of Try.func49 (by kernel_rfl) rfl) _ _ hmax hbytes w hseq
theorem sort_prim:FunOk Try.prog (PXf (fun _=>none)) 29 (.prim sortG):=
 sort_ok (Go.Proofs.enters_of Try.func29 (by kernel_rfl) rfl) (fun blk off cap zs w h1 h2 h3=>Any.slices_Sort_int Try.sortK blk off cap zs w h1 h2 h3) (fun p cap w=>Any.slices_Sort_int_none Try.sortK p cap w)
theorem wakes_prim:FunOk Try.prog (PXf (fun _=>none)) 9 (.prim (primC (bl true))):=prim_ok mixed (CQs_ok sorted_prim) wakes_true rfl
theorem wakes_fun {CT:Nat→Option CFun} (hT:CT 9=some (.prim (primC (bl true)))) (base:Nat) (H:Heap):callW CT (.fn 9 [] []) [] base H=some (.s (.bool true),H):=callW_eq (by simp only [evCall,hT];rfl)
theorem garg_of {v:List V} (h:IsV tGraph v):∃ u,v=[u]∧∃ G:List (List Int),∀ H,RdRows H u (rowsV G):=graph_of h
end Go.Proofs.Ytdmnenlpdeolaaa
set_option maxRecDepth 100000
namespace Go.Proofs.Ytdmnenlpdeolaaa
open Go.AM
def bump (i:Int) (R:List (List Int)) (k:Int):List (List Int):=R.set k.toNat (R.getD k.toNat [] ++ [i])
theorem bump_len (i:Int) (R:List (List Int)) (k:Int):(bump i R k).length=R.length:=by simp [bump]
theorem bumps_len (i:Int) (r:List Int):∀ R:List (List Int),(r.foldl (bump i) R).length=R.length:=by
 induction r with
 | nil=>intro R;rfl
 | cons x r ih=>intro R;rw [List.foldl_cons,ih,bump_len]
theorem bump_le {i:Int} {R:List (List Int)} {k:Int} {B:Nat} (h:∀ q∈R,q.length+1≤B) (hk:k.toNat < R.length):∀ q∈bump i R k,q.length≤B:=by
 intro q hq
 rcases List.mem_or_eq_of_mem_set hq with h1 | rfl
 ·have:=h q h1;omega
 ·have:R.getD k.toNat []∈R:=by rw [List.getD,List.getElem?_eq_getElem hk];exact List.getElem_mem hk
  have:=h _ this
  simp only [List.length_append,List.length_singleton];omega
theorem rowsV_set (R:List (List Int)) (k:Nat) (r:List Int) (i:Int):rowsV (R.set k (r ++ [i]))=(rowsV R).set k (r.map iV ++ [iV i]):=by
 simp [rowsV,List.map_set]
theorem back_inner (call:CallF) (base i n o m L:Nat) (nv row:V) (r:List Int) (A:Heap) (hA:A.length=m) (ho:o < m) (hb:base≤o) (hL:m≤L) (hrow:∀ ob,Rd (A.set o ob) row (r.map iV)) (hw:Wide1 row) (hin:∀ x∈r,0≤x∧x < n) (hr:r.length < 2 ^ 40) (hn:n < 2 ^ 40):
 ∀ (rest:List Int) (k:Nat) (H:Heap) (vs:List V) (R:List (List Int)),r.drop k=rest→k≤r.length→L≤H.length→Ext (A.set o (.cells 0 vs)) H→getC H o 0=some vs→Bag m H vs (rowsV R)→R.length=n→(∀ q∈R,q.length+rest.length≤2 ^ 43)→
 ∃ H' vs',itW (evC call itW base s_f20_l0) [] L (frOf 38 [(3,.sl o 0 0 n 1),(4,.s (.int .i64 i)),(12,nv),(13,.s (.int .i64 n)),(14,.s (.int .i64 i)),(19,row),(20,.s (.int .i64 r.length)),(21,.s (.int .i64 k))]) H=
   some (.ext 2,frOf 38 [(3,.sl o 0 0 n 1),(4,.s (.int .i64 i)),(12,nv),(13,.s (.int .i64 n)),(14,.s (.int .i64 i)),(19,row),(20,.s (.int .i64 r.length)),(21,.s (.int .i64 r.length)),(22,.s (.bool false))],H')∧
   L≤H'.length∧Ext (A.set o (.cells 0 vs')) H'∧getC H' o 0=some vs'∧Bag m H' vs' (rowsV (rest.foldl (bump i) R)):=by
 intro rest
 induction rest with
 | nil=>
   intro k H vs R hd hk hLH he hc hB hR hq
   have hkr:k=r.length:=by
    have:=congrArg List.length hd
    simp at this
    omega
   subst hkr
   refine ⟨trim L (frOf 38 [(3,.sl o 0 0 n 1),(4,.s (.int .i64 i)),(12,nv),(13,.s (.int .i64 n)),(14,.s (.int .i64 i)),(19,row),(20,.s (.int .i64 r.length)),(21,.s (.int .i64 r.length)),(22,.s (.bool false))]) H,vs,?_,trim_le hLH,he.trim (by rw [List.length_set];omega) _,trim_get hc (by omega),hB.trim hc (by omega) _⟩
   rw [itW_step]
   simp only [a_f20,s_f20_l0_b,s_f20_l1_b,aa,bl,i64,reduceIte,reduceCtorEq,Nat.reduceEqDiff,Nat.reduceLT,Nat.reduceLeDiff,Nat.reduceBEq,Nat.reduceAdd,fillA,splice,Nat.reduceMul,amY,op_eqP,Int.lt_irrefl]
 | cons x rest ih=>
   intro k H vs R hd hk hLH he hc hB hR hq
   have hx:r[k]?=some x:=by have:=congrArg (·[0]?) hd;simp only [List.getElem?_drop] at this;exact this
   have hlt:k < r.length:=(List.getElem?_eq_some_iff.1 hx).1
   have hd':r.drop (k+1)=rest:=by rw [← List.drop_drop,hd];rfl
   obtain ⟨hx0,hxn⟩:=hin x (List.mem_of_getElem? hx)
   obtain ⟨j,rfl⟩:=Int.eq_ofNat_of_zero_le hx0
   have hjn:j < n:=by omega
   have hRj:R[j]?=some (R.getD j []):=by rw [List.getD,List.getElem?_eq_getElem (by omega)];rfl
   obtain ⟨a,ha1,ha2⟩:=((hrow _).ext he).at' hw (i:=k) (x:=iV j) (by rw [List.getElem?_map,hx];rfl)
   have hmem:R.getD j []∈R:=List.mem_of_getElem? hRj
   have hqj:=hq _ hmem
   rw [List.length_cons] at hqj
   have hAH:=he.le
   rw [List.length_set] at hAH
   obtain ⟨w,v',H1,hw1,happ,hv1,hc1,hm1,hB1,hE1⟩:=hB.append (base:=base) (bytes:=8) (x:=iV i) hc ho (by omega) (by omega) (rowsV_get hRj) rfl (by rw [List.length_map];omega)
   obtain ⟨hb1,hb2⟩:=at_sl hc hjn hw1
   have hst:=storeV_at (v:=v') (base:=base) hc1 hb hv1 (off:=j) (by rw [hB.1,rowsV_len];omega)
   have hwk:=wrap_pos (n:=k) (by omega)
   have hlt':(k:Int) < (r.length:Int):=by omega
   have hjn':(j:Int) < (n:Int):=by omega
   have he1:=hE1 _ (by rw [List.length_set];omega) he
   have he2:=he1.set_both (o:=o) (by rw [List.length_set];omega) (.cells 0 (vs.set j v'))
   rw [List.set_set] at he2
   have hc2:=getC_put (c':=vs.set j v') hc1
   rw [← rowsV_set] at hB1
   obtain ⟨H',vs',p1,p2,p3,p4,p5⟩:=ih (k+1) (trim L (frOf 38 [(3,.sl o 0 0 n 1),(4,.s (.int .i64 i)),(12,nv),(13,.s (.int .i64 n)),(14,.s (.int .i64 i)),(19,row),(20,.s (.int .i64 r.length)),(21,.s (.int .i64 ((k+1:Nat):Int)))]) (H1.set o (.cells 0 (vs.set j v')))) (vs.set j v') (bump i R j) hd' (by omega) (trim_le (by rw [List.length_set];omega)) (he2.trim (by rw [List.length_set];omega) _) (trim_get hc2 (by omega)) (hB1.trim hc2 (by omega) _) (by rw [bump_len];exact hR) (by
    intro q hqm
    have:=bump_le (i:=i) (R:=R) (k:=j) (B:=2 ^ 43 - rest.length) (fun q hq1=>by have:=hq q hq1;rw [List.length_cons] at this;omega) (by rw [Int.toNat_natCast];omega) q hqm
    omega)
   refine ⟨H',vs',?_,p2,p3,p4,p5⟩
   unfold iV at ha2 happ
   rw [itW_step]
   simp only [a_f20,s_f20_l0_b,s_f20_l1_b,aa,bl,i64,reduceIte,reduceCtorEq,Nat.reduceEqDiff,Nat.reduceLT,Nat.reduceLeDiff,Nat.reduceBEq,Nat.reduceAdd,fillA,splice,Nat.reduceMul,amY,op_eqP,hlt',hwk,ha1,ha2,hb1,hb2,hjn',happ,hst]
   exact p1
def backFrom:Nat→List (List Int)→List (List Int)→List (List Int)
 | _,[],R=>R
 | i,r :: N,R=>backFrom (i+1) N (r.foldl (bump i) R)
def sumLen:List (List Int)→Nat
 | []=>0
 | r :: N=>r.length+sumLen N
theorem bumps_le (i:Int):∀ (r:List Int) (R:List (List Int)) (B:Nat),(∀ x∈r,0≤x∧x < R.length)→(∀ q∈R,q.length+r.length≤B)→∀ q∈r.foldl (bump i) R,q.length≤B:=by
 intro r
 induction r with
 | nil=>intro R B _ h q hq;exact h q hq
 | cons x r ih=>
   intro R B hx h q hq
   rw [List.foldl_cons] at hq
   have h0:=hx x List.mem_cons_self
   by_cases hB:r.length≤B
   ·refine ih (bump i R x) B (fun y hy=>by rw [bump_len];exact hx y (List.mem_cons_of_mem _ hy)) (fun q hq=>?_) q hq
    have:=bump_le (i:=i) (R:=R) (k:=x) (B:=B - r.length) (fun q hq=>by have:=h q hq;rw [List.length_cons] at this;omega) (by omega) q hq
    omega
   ·have:R.getD x.toNat []∈R:=by rw [List.getD,List.getElem?_eq_getElem (by omega)];exact List.getElem_mem (by omega)
    have:=h _ this
    rw [List.length_cons] at this
    omega
theorem back_outer (call:CallF) (base n o m L:Nat) (nv:V) (N:List (List Int)) (A:Heap) (hA:A.length=m) (ho:o < m) (hb:base≤o) (hL:m≤L) (hnv:OwnRows (o+1) A nv (rowsV N)) (hN:N.length=n) (hin:∀ r∈N,∀ x∈r,0≤x∧x < n) (hr:∀ r∈N,r.length < 2 ^ 40) (hn:n < 2 ^ 40):
 ∀ (rest:List (List Int)) (i:Nat) (H:Heap) (vs:List V) (R:List (List Int)),N.drop i=rest→i≤n→L≤H.length→Ext (A.set o (.cells 0 vs)) H→getC H o 0=some vs→Bag m H vs (rowsV R)→R.length=n→(∀ q∈R,q.length+sumLen rest≤2 ^ 43)→
 ∃ H' vs',itW (evC call itW base s_f20_l1) [] L (frOf 38 [(3,.sl o 0 0 n 1),(12,nv),(13,.s (.int .i64 n)),(14,.s (.int .i64 i))]) H=
   some (.ext 0,frOf 38 [(3,.sl o 0 0 n 1),(12,nv),(13,.s (.int .i64 n)),(14,.s (.int .i64 n)),(15,.s (.bool false))],H')∧
   L≤H'.length∧Ext (A.set o (.cells 0 vs')) H'∧getC H' o 0=some vs'∧Bag m H' vs' (rowsV (backFrom i rest R)):=by
 intro rest
 induction rest with
 | nil=>
   intro i H vs R hd hi hLH he hc hB hR hq
   have hin:i=n:=by
    have:=congrArg List.length hd
    simp at this
    omega
   subst hin
   refine ⟨trim L (frOf 38 [(3,.sl o 0 0 i 1),(12,nv),(13,.s (.int .i64 i)),(14,.s (.int .i64 i)),(15,.s (.bool false))]) H,vs,?_,trim_le hLH,he.trim (by rw [List.length_set];omega) _,trim_get hc (by omega),hB.trim hc (by omega) _⟩
   rw [itW_step]
   simp only [a_f20,s_f20_l0_b,s_f20_l1_b,aa,bl,i64,reduceIte,reduceCtorEq,Nat.reduceEqDiff,Nat.reduceLT,Nat.reduceLeDiff,Nat.reduceBEq,Nat.reduceAdd,fillA,splice,Nat.reduceMul,amY,op_eqP,Int.lt_irrefl]
 | cons r rest ih=>
   intro i H vs R hd hi hLH he hc hB hR hq
   have hx:N[i]?=some r:=by have:=congrArg (·[0]?) hd;simp only [List.getElem?_drop] at this;exact this
   have hlt:i < n:=by have:=(List.getElem?_eq_some_iff.1 hx).1;omega
   have hd':N.drop (i+1)=rest:=by rw [← List.drop_drop,hd];rfl
   have hmem:r∈N:=List.mem_of_getElem? hx
   obtain ⟨nid,ng,nvs,rfl,hnc,hnm,hnl,hnr⟩:=hnv
   obtain ⟨x,hx1,hx2⟩:=hnr i _ (rowsV_get hx)
   have hni:nid≠o:=by omega
   have hAH:=he.le
   rw [List.length_set] at hAH
   have hnc':getC H nid ng=some nvs:=getC_ext (by rw [getC_other hni];exact hnc) he
   obtain ⟨ha1,ha2⟩:=at_sl hnc' (n:=N.length) (by omega) hx1
   rw [hN] at ha1
   have hxl:xLen H .s x=some (.s (.int .i64 r.length)):=by
    have:=((hx2.set (by omega) (.cells 0 vs)).ext he).rd.len
    rwa [List.length_map] at this
   have hs:sumLen (r :: rest)=r.length+sumLen rest:=rfl
   obtain ⟨H1,vs1,p1,p2,p3,p4,p5⟩:=back_inner call base i n o m H.length (.sl nid ng 0 n 1) x r A hA ho hb (by omega) (fun ob=>(hx2.set (by omega) ob).rd) hx2.wide (hin r hmem) (hr r hmem) hn r 0 H vs R rfl (Nat.zero_le _) (Nat.le_refl _) he hc hB hR (fun q hqm=>by have:=hq q hqm;omega)
   rw [cast0] at p1
   have hw:=wrap_pos (n:=i) (by omega)
   have hlt':(i:Int) < (n:Int):=by omega
   obtain ⟨H',vs',q1,q2,q3,q4,q5⟩:=ih (i+1) (trim L (frOf 38 [(3,.sl o 0 0 n 1),(12,.sl nid ng 0 n 1),(13,.s (.int .i64 n)),(14,.s (.int .i64 ((i+1:Nat):Int)))]) H1) vs1 (r.foldl (bump i) R) hd' (by omega) (trim_le (by omega)) (p3.trim (by rw [List.length_set];omega) _) (trim_get p4 (by omega)) (p5.trim p4 (by omega) _) (by rw [bumps_len];exact hR) (fun q hqm=>by
    have:=bumps_le i r R (2 ^ 43 - sumLen rest) (fun x hx=>by rw [hR];exact hin r hmem x hx) (fun q hq1=>by have:=hq q hq1;omega) q hqm
    have h0:sumLen rest≤2 ^ 43:=by
     match R,hR with
     | [],h=>simp at h;omega
     | q0 :: _,_=>have:=hq q0 List.mem_cons_self;omega
    omega)
   refine ⟨H',vs',?_,q2,q3,q4,q5⟩
   rw [rowsV_len,hN] at *
   rw [itW_step]
   simp only [a_f20,s_f20_l0_b,s_f20_l1_b,aa,bl,i64,reduceIte,reduceCtorEq,Nat.reduceEqDiff,Nat.reduceLT,Nat.reduceLeDiff,Nat.reduceBEq,Nat.reduceAdd,fillA,splice,Nat.reduceMul,amY,op_eqP,hlt',hw,ha1,ha2,hxl,p1]
   exact q1
end Go.Proofs.Ytdmnenlpdeolaaa
set_option maxRecDepth 100000
namespace Go.Proofs.Ytdmnenlpdeolaaa
open Go.AM
structure CG (CT:Nat→Option CFun):Prop where
 norm:CT k_f18=some (.code s_f18)
 norm1:CT k_f35=some (.code s_f35)
 clone:CT k_f34=some (.code s_f34)
 del:CT k_f33=some (.code s_f33)
 idx:CT k_f40=some (.code s_f40)
 sort:CT k_f29=some (.prim sortG)
 comp:CT k_f30=some (.code s_f30)
 back:CT k_f20=some (.code s_f20)
theorem chg_mem:∀ (r:List Int) (p x:Int),x∈chg p r→x∈r:=by
 intro r
 induction r with
 | nil=>intro p x h;exact h
 | cons y r ih=>
   intro p x h
   simp only [chg] at h
   split at h
   ·exact List.mem_cons_of_mem _ (ih _ _ h)
   ·rcases List.mem_cons.1 h with rfl | h
    ·exact List.mem_cons_self
    ·exact List.mem_cons_of_mem _ (ih _ _ h)
theorem compactZ_mem {r:List Int} {x:Int} (h:x∈compactZ r):x∈r:=by
 cases r with
 | nil=>exact h
 | cons y r=>
   rcases List.mem_cons.1 h with rfl | h
   ·exact List.mem_cons_self
   ·exact List.mem_cons_of_mem _ (chg_mem _ _ _ h)
theorem compactZ_len (r:List Int):(compactZ r).length≤r.length:=by
 cases r with
 | nil=>exact Nat.le_refl _
 | cons y r=>have:=chg_len r y;simp only [compactZ,List.length_cons];omega
theorem normR_in {n:Nat} {r:List Int} {x:Int} (h:x∈normR n r):0≤x∧x < n:=by
 have:=compactZ_mem h
 rw [sortZ,List.mem_mergeSort,List.mem_filter] at this
 have:=this.2
 simp only [outR,ge_iff_le,Bool.not_or,Bool.and_eq_true,Bool.not_eq_true',decide_eq_false_iff_not,Int.not_lt,Int.not_le] at this
 exact this
theorem normR_len (n:Int) (r:List Int):(normR n r).length≤r.length:=by
 refine Nat.le_trans (compactZ_len _) ?_
 rw [sortZ,List.length_mergeSort]
 exact List.length_filter_le _ _
theorem normG_len (G:List (List Int)):(normG G).length=G.length:=by simp [normG]
theorem normG_in {G:List (List Int)} {r:List Int} (h:r∈normG G) {x:Int} (hx:x∈r):0≤x∧x < G.length:=by
 obtain ⟨g,_,rfl⟩:=List.mem_map.1 h
 exact normR_in hx
theorem normG_small {G:List (List Int)} {b:Nat} (hG:∀ r∈G,r.length < b):∀ r∈normG G,r.length < b:=by
 intro r hr
 obtain ⟨g,hg,rfl⟩:=List.mem_map.1 hr
 exact Nat.lt_of_le_of_lt (normR_len _ _) (hG g hg)
theorem sumLen_le {b:Nat}:∀ (N:List (List Int)),(∀ r∈N,r.length≤b)→sumLen N≤N.length * b:=by
 intro N
 induction N with
 | nil=>intro _;simp [sumLen]
 | cons r N ih=>
   intro h
   have h1:=h r List.mem_cons_self
   have h2:=ih fun r hr=>h r (List.mem_cons_of_mem _ hr)
   have:(N.length+1) * b=N.length * b+b:=Nat.succ_mul _ _
   simp only [sumLen,List.length_cons]
   omega
def backG (G:List (List Int)):List (List Int):=backFrom 0 (normG G) (List.replicate G.length [])
theorem backFrom_len:∀ (N:List (List Int)) (i:Nat) (R:List (List Int)),(backFrom i N R).length=R.length:=by
 intro N
 induction N with
 | nil=>intro i R;rfl
 | cons r N ih=>intro i R;rw [backFrom,ih,bumps_len]
theorem backG_len (G:List (List Int)):(backG G).length=G.length:=by rw [backG,backFrom_len,List.length_replicate]
theorem norm_f {CT:Nat→Option CFun} (h:CG CT) (base:Nat) (H:Heap) (v:V) (G:List (List Int)) (hv:RdRows H v (rowsV G)) (hb:base≤H.length) (hn:G.length < 2 ^ 40) (hr:∀ r∈G,r.length < 2 ^ 40):
 ∃ v' H',callW CT (.fn k_f18 [] []) [v] base H=some (v',H')∧Ext H H'∧OwnRows H.length H' v' (rowsV (normG G)):=norm_fun h.norm h.clone h.del h.idx h.sort h.comp h.norm1 base H v G hv hb hn hr
theorem back_f {CT:Nat→Option CFun} (h:CG CT) (base:Nat) (H:Heap) (v:V) (G:List (List Int)) (hv:RdRows H v (rowsV G)) (hb:base≤H.length) (hn:G.length < 2 ^ 20) (hr:∀ r∈G,r.length < 2 ^ 20):
 ∃ v' H',callW CT (.fn k_f20 [] []) [v] base H=some (v',H')∧Ext H H'∧RdRows H' v' (rowsV (backG G))∧∀ o ob,o < H.length→RdRows (H'.set o ob) v' (rowsV (backG G)):=by
 have hlen:xLen H .s v=some (.s (.int .i64 G.length)):=by rw [← rowsV_len G];exact hv.len
 have hmk:=make_n (H:=H) (zero:=[nilS]) (sz:=1) (bytes:=24) (k:=.i64) (k':=.i64) (n:=G.length) (by omega)
 rw [flat_one] at hmk
 obtain ⟨nv,A,p1,p2,p3⟩:=norm_f h base (H ++ [.cells 0 (List.replicate G.length nilS)]) v G (hv.ext (Ext.app _ _)) (by simp;omega) (by omega) (fun r hr'=>by have:=hr r hr';omega)
 have hAl:=p2.le
 rw [len_snoc] at p3 hAl
 have hc:getC A H.length 0=some (List.replicate G.length nilS):=getC_ext (getC_new H 0 _) p2
 have hN:=normG_len G
 obtain ⟨H',vs',q1,q2,q3,q4,q5⟩:=back_outer (callW CT) base G.length H.length A.length A.length nv (normG G) A rfl (by omega) hb (Nat.le_refl _) p3 hN (fun r hr' x hx=>normG_in hr' hx) (fun r hr'=>Nat.lt_of_lt_of_le (normG_small hr r hr') (by omega)) (by omega) (normG G) 0 A (List.replicate G.length nilS) (List.replicate G.length []) rfl (Nat.zero_le _) (Nat.le_refl _) (by rw [getC_same hc];exact Ext.refl A) hc (by have:=Bag.start A.length A G.length;rwa [show rowsV (List.replicate G.length [])=List.replicate G.length [] by simp [rowsV]]) (by simp) (fun q hq=>by
  rw [List.mem_replicate] at hq
  rw [hq.2]
  have:=sumLen_le (b:=2 ^ 20) (normG G) (fun r hr'=>Nat.le_of_lt (normG_small hr r hr'))
  rw [hN] at this
  have:G.length * 2 ^ 20≤2 ^ 20 * 2 ^ 20:=Nat.mul_le_mul_right _ (by omega)
  simp only [List.length_nil]
  omega)
 rw [cast0] at q1
 have hnl:xLen A .s nv=some (.s (.int .i64 G.length)):=by have:=p3.rd.len;rwa [rowsV_len,hN] at this
 refine ⟨.sl H.length 0 0 G.length 1,H',callW_fn (c:=s_f20) h.back (by simp [s_f20]) ?_,?_,?_,fun o ob ho=>?_⟩
 ·simp only [nilS] at hmk p1
  simp only [s_f20,a_f20,s_f20_l0_b,s_f20_l1_b,aa,bl,i64,reduceIte,reduceCtorEq,Nat.reduceEqDiff,Nat.reduceLT,Nat.reduceLeDiff,Nat.reduceBEq,Nat.reduceAdd,fillA,splice,Nat.reduceMul,amY,op_eqP,hlen,op_mkSl,hmk,p1,hnl,q1]
 ·have e0:Ext H (A.set H.length (.cells 0 vs')):=((Ext.app _ _).trans p2).set (Nat.le_refl _) _
  exact e0.trans q3
 ·have:=q5.rows q4
  rwa [rowsV_len,show (backFrom 0 (normG G) (List.replicate G.length [])).length=G.length from backG_len G] at this
 ·have hb':=q5.keep (H':=H'.set o ob) (fun id g n c hm hid hg=>by rw [getC_set_ne _ (by omega)];exact hg)
  have:=hb'.rows (o:=H.length) (g:=0) (by rw [getC_set_ne _ (by omega)];exact q4)
  rwa [rowsV_len,show (backFrom 0 (normG G) (List.replicate G.length [])).length=G.length from backG_len G] at this
end Go.Proofs.Ytdmnenlpdeolaaa
set_option maxRecDepth 100000
namespace Go.Proofs.Ytdmnenlpdeolaaa
open Go.AM
theorem drop_cons {α:Type} {l r:List α} {x:α} {k:Nat} (h:l.drop k=x :: r):l[k]?=some x∧k < l.length∧l.drop (k+1)=r:=by
 have hx:l[k]?=some x:=by have:=congrArg (·[0]?) h;simp only [List.getElem?_drop] at this;exact this
 exact ⟨hx,(List.getElem?_eq_some_iff.1 hx).1,by rw [← List.drop_drop,h];rfl⟩
theorem drop_nil {α:Type} {l:List α} {k:Nat} (h:l.drop k=[]) (hk:k≤l.length):k=l.length:=by
 have:=congrArg List.length h
 simp at this
 omega
theorem iV_at {H:Heap} {v:V} {l:List Int} (h:Rd H v (l.map iV)) (hw:Wide1 v) {k:Nat} {x:Int} (hx:l[k]?=some x):∃ a,xIndexAddr 1 v (.s (.int .i64 k))=some a∧xLoad H false 1 a=some (.s (.int .i64 x)):=h.at' hw (by rw [List.getElem?_map,hx];rfl)
theorem iV_len {H:Heap} {v:V} {l:List Int} (h:Rd H v (l.map iV)):xLen H .s v=some (.s (.int .i64 l.length)):=by have:=h.len;rwa [List.length_map] at this
theorem has_loop (call:CallF) (base:Nat) (H:Heap) (v:V) (l:List Int) (y:Int) (hv:Rd H v (l.map iV)) (hw:Wide1 v) (hn:l.length < 2 ^ 62):∀ (r:List Int) (k:Nat),l.drop k=r→k≤l.length→
 itW (evC call itW base s_f47_l0) [] H.length (frOf 18 [(0,v),(1,.s (.int .i64 y)),(5,.s (.int .i64 k))]) H=
  bif r.contains y then some (.ret,frOf 18 [(4,.s (.bool true))],H) else some (.ext 0,frOf 18 [(0,v),(1,.s (.int .i64 y)),(5,.s (.int .i64 l.length)),(9,.s (.bool false))],H):=by
 intro r
 induction r with
 | nil=>
   intro k hd hk
   obtain rfl:=drop_nil hd hk
   rw [itW_step]
   simp only [a_f47,s_f47_l0_b,aa,bl,i64,reduceIte,reduceCtorEq,Nat.reduceEqDiff,Nat.reduceLT,Nat.reduceLeDiff,Nat.reduceBEq,Nat.reduceAdd,fillA,splice,Nat.reduceMul,amY,op_eqP,iV_len hv,Int.lt_irrefl,trim_same rfl,List.contains_nil]
 | cons x r ih=>
   intro k hd hk
   obtain ⟨hx,hlt,hd'⟩:=drop_cons hd
   obtain ⟨a,ha1,ha2⟩:=iV_at hv hw hx
   have hlt':(k:Int) < (l.length:Int):=by omega
   have hwk:=wrap_pos (n:=k) (by omega)
   rw [itW_step]
   cases hxy:x == y with
   | true=>
     have:(x :: r).contains y=true:=by rw [List.contains_cons,beq_iff_eq.1 hxy];simp
     simp only [a_f47,s_f47_l0_b,aa,bl,i64,reduceIte,reduceCtorEq,Nat.reduceEqDiff,Nat.reduceLT,Nat.reduceLeDiff,Nat.reduceBEq,Nat.reduceAdd,fillA,splice,Nat.reduceMul,amY,op_eqP,iV_len hv,hlt',ha1,ha2,hxy,trim_same rfl,this]
   | false=>
     have:(x :: r).contains y=r.contains y:=by
      have:(y == x)=false:=by rw [beq_eq_false_iff_ne] at hxy ⊢;exact fun e=>hxy e.symm
      rw [List.contains_cons,this,Bool.false_or]
     simp only [a_f47,s_f47_l0_b,aa,bl,i64,reduceIte,reduceCtorEq,Nat.reduceEqDiff,Nat.reduceLT,Nat.reduceLeDiff,Nat.reduceBEq,Nat.reduceAdd,fillA,splice,Nat.reduceMul,amY,op_eqP,iV_len hv,hlt',ha1,ha2,hxy,hwk,trim_same rfl,this]
     exact ih (k+1) hd' (by omega)
theorem has_fun {CT:Nat→Option CFun} (hT:CT k_f47=some (.code s_f47)) (base:Nat) (H:Heap) (v:V) (l:List Int) (y:Int) (hv:Rd H v (l.map iV)) (hw:Wide1 v) (hn:l.length < 2 ^ 62):
 callW CT (.fn k_f47 [] []) [v,.s (.int .i64 y)] base H=some (.s (.bool (l.contains y)),H):=by
 refine callW_fn (c:=s_f47) hT (by simp [s_f47]) ?_
 have hl:=has_loop (callW CT) base H v l y hv hw hn l 0 rfl (Nat.zero_le _)
 rw [cast0] at hl
 simp only [s_f47,a_f47,s_f47_l0_b,aa,bl,i64,reduceIte,reduceCtorEq,Nat.reduceEqDiff,Nat.reduceLT,Nat.reduceLeDiff,Nat.reduceBEq,Nat.reduceAdd,fillA,splice,Nat.reduceMul,amY,op_eqP,hl]
 cases l.contains y <;> simp only [a_f47,s_f47_l0_b,aa,bl,i64,reduceIte,reduceCtorEq,Nat.reduceEqDiff,Nat.reduceLT,Nat.reduceLeDiff,Nat.reduceBEq,Nat.reduceAdd,fillA,splice,Nat.reduceMul,amY,op_eqP]
theorem same_loop (call:CallF) (base:Nat) (H:Heap) (v w:V) (l l2:List Int) (hv:Rd H v (l.map iV)) (hw:Wide1 v) (hv2:Rd H w (l2.map iV)) (hw2:Wide1 w) (hn:l.length < 2 ^ 62) (hll:l2.length=l.length):∀ (r r2:List Int) (k:Nat),l.drop k=r→l2.drop k=r2→k≤l.length→
 itW (evC call itW base s_f11_l0) [] H.length (frOf 26 [(0,v),(1,w),(5,.s (.int .i64 k))]) H=
  bif r == r2 then some (.ext 0,frOf 26 [(0,v),(1,w),(5,.s (.int .i64 l.length)),(14,.s (.bool false))],H) else some (.ret,frOf 26 [(4,.s (.bool false))],H):=by
 intro r
 induction r with
 | nil=>
   intro r2 k hd hd2 hk
   obtain rfl:=drop_nil hd hk
   have:r2=[]:=by rw [← hd2];exact List.drop_of_length_le (by omega)
   subst this
   rw [itW_step]
   simp only [a_f11,s_f11_l0_b,aa,bl,i64,reduceIte,reduceCtorEq,Nat.reduceEqDiff,Nat.reduceLT,Nat.reduceLeDiff,Nat.reduceBEq,Nat.reduceAdd,fillA,splice,Nat.reduceMul,amY,op_eqP,iV_len hv,Int.lt_irrefl,trim_same rfl,BEq.rfl]
 | cons x r ih=>
   intro r2 k hd hd2 hk
   obtain ⟨hx,hlt,hd'⟩:=drop_cons hd
   match r2,hd2 with
   | [],hd2=>have:=drop_nil hd2 (by omega);omega
   | y :: r2,hd2=>
     obtain ⟨hy,_,hd2'⟩:=drop_cons hd2
     obtain ⟨a,ha1,ha2⟩:=iV_at hv hw hx
     obtain ⟨b,hb1,hb2⟩:=iV_at hv2 hw2 hy
     have hlt':(k:Int) < (l.length:Int):=by omega
     have hwk:=wrap_pos (n:=k) (by omega)
     have hc:((x :: r) == (y :: r2))=((x == y) && (r == r2)):=rfl
     rw [itW_step,hc]
     cases hxy:x == y with
     | true=>
       have hne:(x != y)=false:=by rw [bne,hxy];rfl
       simp only [a_f11,s_f11_l0_b,aa,bl,i64,reduceIte,reduceCtorEq,Nat.reduceEqDiff,Nat.reduceLT,Nat.reduceLeDiff,Nat.reduceBEq,Nat.reduceAdd,fillA,splice,Nat.reduceMul,amY,op_eqP,iV_len hv,hlt',ha1,ha2,hb1,hb2,hne,hwk,trim_same rfl]
       exact ih r2 (k+1) hd' hd2' (by omega)
     | false=>
       have hne:(x != y)=true:=by rw [bne,hxy];rfl
       simp only [a_f11,s_f11_l0_b,aa,bl,i64,reduceIte,reduceCtorEq,Nat.reduceEqDiff,Nat.reduceLT,Nat.reduceLeDiff,Nat.reduceBEq,Nat.reduceAdd,fillA,splice,Nat.reduceMul,amY,op_eqP,iV_len hv,hlt',ha1,ha2,hb1,hb2,hne,trim_same rfl]
theorem same_fun {CT:Nat→Option CFun} (hT:CT k_f11=some (.code s_f11)) (base:Nat) (H:Heap) (v w:V) (l l2:List Int) (hv:Rd H v (l.map iV)) (hw:Wide1 v) (hv2:Rd H w (l2.map iV)) (hw2:Wide1 w) (hn:l.length < 2 ^ 62):
 callW CT (.fn k_f11 [] []) [v,w] base H=some (.s (.bool (l == l2)),H):=by
 refine callW_fn (c:=s_f11) hT (by simp [s_f11]) ?_
 by_cases hll:l.length=l2.length
 ·have hl:=same_loop (callW CT) base H v w l l2 hv hw hv2 hw2 hn hll.symm l l2 0 rfl rfl (Nat.zero_le _)
  rw [cast0] at hl
  have hne:(((l.length:Nat):Int) != (l2.length:Nat))=false:=by rw [hll,bne,BEq.rfl];rfl
  simp only [s_f11,a_f11,s_f11_l0_b,aa,bl,i64,reduceIte,reduceCtorEq,Nat.reduceEqDiff,Nat.reduceLT,Nat.reduceLeDiff,Nat.reduceBEq,Nat.reduceAdd,fillA,splice,Nat.reduceMul,amY,op_eqP,iV_len hv,iV_len hv2,hne,hl]
  cases l == l2 <;> simp only [a_f11,s_f11_l0_b,aa,bl,i64,reduceIte,reduceCtorEq,Nat.reduceEqDiff,Nat.reduceLT,Nat.reduceLeDiff,Nat.reduceBEq,Nat.reduceAdd,fillA,splice,Nat.reduceMul,amY,op_eqP]
 ·have hne:(((l.length:Nat):Int) != (l2.length:Nat))=true:=by rw [bne_iff_ne];omega
  have:(l == l2)=false:=by rw [beq_eq_false_iff_ne];intro e;exact hll (by rw [e])
  simp only [s_f11,a_f11,s_f11_l0_b,aa,bl,i64,reduceIte,reduceCtorEq,Nat.reduceEqDiff,Nat.reduceLT,Nat.reduceLeDiff,Nat.reduceBEq,Nat.reduceAdd,fillA,splice,Nat.reduceMul,amY,op_eqP,iV_len hv,iV_len hv2,hne,this]
end Go.Proofs.Ytdmnenlpdeolaaa
set_option maxRecDepth 100000
namespace Go.Proofs.Ytdmnenlpdeolaaa
open Go.AM
theorem rows_at {H:Heap} {v:V} {G:List (List Int)} (h:RdRows H v (rowsV G)) {k:Nat} {r:List Int} (hr:G[k]?=some r):∃ a x,xIndexAddr 1 v (.s (.int .i64 k))=some a∧xLoad H false 1 a=some x∧Rd H x (r.map iV)∧Wide1 x:=h.at (rowsV_get hr)
theorem rows_len {H:Heap} {v:V} {G:List (List Int)} (h:RdRows H v (rowsV G)):xLen H .s v=some (.s (.int .i64 G.length)):=by have:=h.len;rwa [rowsV_len] at this
theorem sameG_loop {CT:Nat→Option CFun} (hS:CT k_f11=some (.code s_f11)) (base:Nat) (H:Heap) (v w:V) (G G2:List (List Int)) (hv:RdRows H v (rowsV G)) (hv2:RdRows H w (rowsV G2)) (hn:G.length < 2 ^ 62) (hr:∀ r∈G,r.length < 2 ^ 62) (hll:G2.length=G.length):∀ (r r2:List (List Int)) (k:Nat),G.drop k=r→G2.drop k=r2→k≤G.length→
 itW (evC (callW CT) itW base s_f15_l0) [] H.length (frOf 27 [(0,v),(1,w),(5,.s (.int .i64 k))]) H=
  bif r == r2 then some (.ext 0,frOf 27 [(0,v),(1,w),(5,.s (.int .i64 G.length)),(14,.s (.bool false))],H) else some (.ret,frOf 27 [(4,.s (.bool false))],H):=by
 intro r
 induction r with
 | nil=>
   intro r2 k hd hd2 hk
   obtain rfl:=drop_nil hd hk
   have:r2=[]:=by rw [← hd2];exact List.drop_of_length_le (by omega)
   subst this
   rw [itW_step]
   simp only [a_f15,s_f15_l0_b,aa,bl,i64,reduceIte,reduceCtorEq,Nat.reduceEqDiff,Nat.reduceLT,Nat.reduceLeDiff,Nat.reduceBEq,Nat.reduceAdd,fillA,splice,Nat.reduceMul,amY,op_eqP,rows_len hv,Int.lt_irrefl,trim_same rfl,BEq.rfl]
 | cons x r ih=>
   intro r2 k hd hd2 hk
   obtain ⟨hx,hlt,hd'⟩:=drop_cons hd
   match r2,hd2 with
   | [],hd2=>have:=drop_nil hd2 (by omega);omega
   | y :: r2,hd2=>
     obtain ⟨hy,_,hd2'⟩:=drop_cons hd2
     obtain ⟨a,xv,ha1,ha2,ha3,ha4⟩:=rows_at hv hx
     obtain ⟨b,yv,hb1,hb2,hb3,hb4⟩:=rows_at hv2 hy
     have hlt':(k:Int) < (G.length:Int):=by omega
     have hwk:=wrap_pos (n:=k) (by omega)
     have hsame:=same_fun hS base H xv yv x y ha3 ha4 hb3 hb4 (hr x (List.mem_of_getElem? hx))
     have hc:((x :: r) == (y :: r2))=((x == y) && (r == r2)):=rfl
     rw [itW_step,hc]
     cases hxy:x == y with
     | true=>
       rw [hxy] at hsame
       simp only [a_f15,s_f15_l0_b,aa,bl,i64,reduceIte,reduceCtorEq,Nat.reduceEqDiff,Nat.reduceLT,Nat.reduceLeDiff,Nat.reduceBEq,Nat.reduceAdd,fillA,splice,Nat.reduceMul,amY,op_eqP,rows_len hv,hlt',ha1,ha2,hb1,hb2,hsame,hwk,trim_same rfl]
       exact ih r2 (k+1) hd' hd2' (by omega)
     | false=>
       rw [hxy] at hsame
       simp only [a_f15,s_f15_l0_b,aa,bl,i64,reduceIte,reduceCtorEq,Nat.reduceEqDiff,Nat.reduceLT,Nat.reduceLeDiff,Nat.reduceBEq,Nat.reduceAdd,fillA,splice,Nat.reduceMul,amY,op_eqP,rows_len hv,hlt',ha1,ha2,hb1,hb2,hsame,trim_same rfl]
theorem sameG_fun {CT:Nat→Option CFun} (hT:CT k_f15=some (.code s_f15)) (hS:CT k_f11=some (.code s_f11)) (base:Nat) (H:Heap) (v w:V) (G G2:List (List Int)) (hv:RdRows H v (rowsV G)) (hv2:RdRows H w (rowsV G2)) (hn:G.length < 2 ^ 62) (hr:∀ r∈G,r.length < 2 ^ 62):
 callW CT (.fn k_f15 [] []) [v,w] base H=some (.s (.bool (G == G2)),H):=by
 refine callW_fn (c:=s_f15) hT (by simp [s_f15]) ?_
 by_cases hll:G.length=G2.length
 ·have hl:=sameG_loop hS base H v w G G2 hv hv2 hn hr hll.symm G G2 0 rfl rfl (Nat.zero_le _)
  rw [cast0] at hl
  have hne:(((G.length:Nat):Int) != (G2.length:Nat))=false:=by rw [hll,bne,BEq.rfl];rfl
  simp only [s_f15,a_f15,s_f15_l0_b,aa,bl,i64,reduceIte,reduceCtorEq,Nat.reduceEqDiff,Nat.reduceLT,Nat.reduceLeDiff,Nat.reduceBEq,Nat.reduceAdd,fillA,splice,Nat.reduceMul,amY,op_eqP,rows_len hv,rows_len hv2,hne,hl]
  cases G == G2 <;> simp only [a_f15,s_f15_l0_b,aa,bl,i64,reduceIte,reduceCtorEq,Nat.reduceEqDiff,Nat.reduceLT,Nat.reduceLeDiff,Nat.reduceBEq,Nat.reduceAdd,fillA,splice,Nat.reduceMul,amY,op_eqP]
 ·have hne:(((G.length:Nat):Int) != (G2.length:Nat))=true:=by rw [bne_iff_ne];omega
  have:(G == G2)=false:=by rw [beq_eq_false_iff_ne];intro e;exact hll (by rw [e])
  simp only [s_f15,a_f15,s_f15_l0_b,aa,bl,i64,reduceIte,reduceCtorEq,Nat.reduceEqDiff,Nat.reduceLT,Nat.reduceLeDiff,Nat.reduceBEq,Nat.reduceAdd,fillA,splice,Nat.reduceMul,amY,op_eqP,rows_len hv,rows_len hv2,hne,this]
end Go.Proofs.Ytdmnenlpdeolaaa
set_option maxRecDepth 100000
namespace Go.Proofs.Ytdmnenlpdeolaaa
open Go.AM
def addZ (l:List Int) (i:Int):List Int:=bif decide (i < 0) || l.contains i then l else l.takeWhile (fun x=>decide (x < i)) ++ i :: l.dropWhile (fun x=>decide (x < i))
theorem add_loop (call:CallF) (base:Nat) (H:Heap) (v:V) (l:List Int) (y:Int) (hv:Rd H v (l.map iV)) (hw:Wide1 v) (hn:l.length < 2 ^ 62):∀ (r:List Int) (k:Nat),l.drop k=r→k≤l.length→
 itW (evC call itW base s_f32_l0) [] H.length (frOf 42 [(0,v),(1,.s (.int .i64 y)),(5,.s (.int .i64 k))]) H=
  some (.ext 0,frOf 42 [(0,v),(1,.s (.int .i64 y)),(5,.s (.int .i64 (k+(r.takeWhile fun x=>decide (x < y)).length:Nat))),(26,.s (.bool false))],H):=by
 intro r
 induction r with
 | nil=>
   intro k hd hk
   obtain rfl:=drop_nil hd hk
   rw [itW_step]
   simp only [a_f32,s_f32_l0_b,aa,bl,i64,reduceIte,reduceCtorEq,Nat.reduceEqDiff,Nat.reduceLT,Nat.reduceLeDiff,Nat.reduceBEq,Nat.reduceAdd,fillA,splice,Nat.reduceMul,amY,op_eqP,iV_len hv,Int.lt_irrefl,trim_same rfl,List.takeWhile_nil]
 | cons x r ih=>
   intro k hd hk
   obtain ⟨hx,hlt,hd'⟩:=drop_cons hd
   obtain ⟨a,ha1,ha2⟩:=iV_at hv hw hx
   have hlt':(k:Int) < (l.length:Int):=by omega
   have hwk:=wrap_pos (n:=k) (by omega)
   rw [itW_step]
   by_cases hxy:x < y
   ·have h1:(x :: r).takeWhile (fun x=>decide (x < y))=x :: r.takeWhile fun x=>decide (x < y):=by rw [List.takeWhile_cons];simp [hxy]
    have h2:k+(r.takeWhile fun x=>decide (x < y)).length+1=k+1+(r.takeWhile fun x=>decide (x < y)).length:=by omega
    rw [h1,List.length_cons,← Nat.add_assoc,h2]
    simp only [a_f32,s_f32_l0_b,aa,bl,i64,reduceIte,reduceCtorEq,Nat.reduceEqDiff,Nat.reduceLT,Nat.reduceLeDiff,Nat.reduceBEq,Nat.reduceAdd,fillA,splice,Nat.reduceMul,amY,op_eqP,iV_len hv,hlt',ha1,ha2,hxy,hwk,trim_same rfl]
    have:=ih (k+1) hd' (by omega)
    simpa only [aa,bl,i64,reduceIte,reduceCtorEq,Nat.reduceEqDiff,Nat.reduceLT,Nat.reduceLeDiff,Nat.reduceBEq,Nat.reduceAdd,fillA,splice,Nat.reduceMul,amY,op_eqP] using this
   ·have h1:(x :: r).takeWhile (fun x=>decide (x < y))=[]:=by rw [List.takeWhile_cons];simp [hxy]
    rw [h1]
    simp only [a_f32,s_f32_l0_b,aa,bl,i64,reduceIte,reduceCtorEq,Nat.reduceEqDiff,Nat.reduceLT,Nat.reduceLeDiff,Nat.reduceBEq,Nat.reduceAdd,fillA,splice,Nat.reduceMul,amY,op_eqP,iV_len hv,hlt',ha1,ha2,hxy,trim_same rfl]
theorem takeWhile_len (p:Int→Bool) (l:List Int):(l.takeWhile p).length≤l.length∧l.take (l.takeWhile p).length=l.takeWhile p∧l.drop (l.takeWhile p).length=l.dropWhile p:=by
 induction l with
 | nil=>simp
 | cons x l ih=>
   rw [List.takeWhile_cons,List.dropWhile_cons]
   split
   ·simp only [List.length_cons,List.take_succ_cons,List.drop_succ_cons,ih.2.1,ih.2.2,and_self,and_true]
    omega
   ·simp
theorem add_fun {CT:Nat→Option CFun} (hT:CT k_f32=some (.code s_f32)) (hH:CT k_f47=some (.code s_f47)) (base:Nat) (H:Heap) (v:V) (l:List Int) (y:Int) (hv:Rd H v (l.map iV)) (hw:Wide1 v) (hb:base≤H.length) (hn:l.length < 2 ^ 40):
 ∃ v' H',callW CT (.fn k_f32 [] []) [v,.s (.int .i64 y)] base H=some (v',H')∧Ext H H'∧((v'=v∧addZ l y=l)∨OwnN H.length H' v' ((addZ l y).map iV)):=by
 have hhas:=has_fun hH base H v l y hv hw (by omega)
 by_cases hy:y < 0
 ·refine ⟨v,H,callW_fn (c:=s_f32) hT (by simp [s_f32]) ?_,Ext.refl H,.inl ⟨rfl,by simp [addZ,hy]⟩⟩
  simp only [s_f32,a_f32,s_f32_l0_b,aa,bl,i64,reduceIte,reduceCtorEq,Nat.reduceEqDiff,Nat.reduceLT,Nat.reduceLeDiff,Nat.reduceBEq,Nat.reduceAdd,fillA,splice,Nat.reduceMul,amY,op_eqP,hy]
 ·cases hc:l.contains y with
  | true=>
    refine ⟨v,H,callW_fn (c:=s_f32) hT (by simp [s_f32]) ?_,Ext.refl H,.inl ⟨rfl,by simp only [addZ,hc,Bool.or_true,cond_true]⟩⟩
    rw [hc] at hhas
    simp only [s_f32,a_f32,s_f32_l0_b,aa,bl,i64,reduceIte,reduceCtorEq,Nat.reduceEqDiff,Nat.reduceLT,Nat.reduceLeDiff,Nat.reduceBEq,Nat.reduceAdd,fillA,splice,Nat.reduceMul,amY,op_eqP,hy,hhas]
  | false=>
    rw [hc] at hhas
    have hadd:addZ l y=l.takeWhile (fun x=>decide (x < y)) ++ y :: l.dropWhile (fun x=>decide (x < y)):=by simp only [addZ,hc,hy,decide_false,Bool.or_false,cond_false]
    obtain ⟨h1,h2,h3⟩:=takeWhile_len (fun x=>decide (x < y)) l
    have hloop:=add_loop (callW CT) base H v l y hv hw (by omega) l 0 rfl (Nat.zero_le _)
    rw [cast0,Nat.zero_add] at hloop
    rw [hadd]
    generalize hK:(l.takeWhile fun x=>decide (x < y)).length=K at *
    obtain ⟨w1,e1,e2,e3⟩:=hv.slice hw (lo:=none) (hi:=some (.s (.int .i64 K))) (a:=0) (b:=K) rfl (bndV_int _ _ _) (Nat.zero_le _) (by simpa using h1)
    rw [List.drop_zero,Nat.sub_zero,← List.map_take,h2] at e2
    obtain ⟨w2,f1,f2,f3⟩:=hv.slice hw (lo:=some (.s (.int .i64 K))) (hi:=none) (a:=K) (b:=l.length) (bndV_int _ _ _) (by rw [bndV_none,List.length_map]) h1 (by simp)
    rw [← List.map_drop,h3,← List.map_take,List.take_of_length_le (by rw [← h3];simp)] at f2
    have hap:=appendV_nil (base:=base) (bytes:=8) e2 (ones _) (by rw [List.length_map,hK];omega)
    rw [List.length_map,hK] at hap
    have hacc:∃ v1 H1,appendV H base 1 8 nilS w1=some (v1,H1)∧Acc H H1 v1 ((l.takeWhile fun x=>decide (x < y)).map iV):=by
     rw [hap]
     split
     ·rename_i h0
      have:l.takeWhile (fun x=>decide (x < y))=[]:=List.eq_nil_of_length_eq_zero (by omega)
      rw [this]
      exact ⟨_,_,rfl,Acc.start H⟩
     ·refine ⟨_,_,rfl,Ext.app _ _,.inr ⟨H.length,0,by rw [List.length_map,hK],getC_new _ _ _,Nat.le_refl _⟩⟩
    obtain ⟨v1,H1,g1,g2⟩:=hacc
    obtain ⟨v2,H2,g3,g4⟩:=g2.append (base:=base) (bytes:=8) hb (x:=iV y) rfl (by rw [List.length_map,hK];omega)
    rcases g4.2 with ⟨hnil,_⟩ | ⟨id,g,rfl,hc2,hid⟩
    ·simp at hnil
    ·obtain ⟨g',g5⟩:=append_full (bytes:=8) hc2 (by omega:base≤id) (f2.ext g4.1) (ones _) (by
      have:(l.dropWhile fun x=>decide (x < y)).length≤l.length:=by rw [← h3];simp
      simp only [List.length_append,List.length_map,List.length_singleton,hK];omega)
     refine ⟨.sl id g' 0 (((l.takeWhile fun x=>decide (x < y)).map iV ++ [iV y]).length+((l.dropWhile fun x=>decide (x < y)).map iV).length) 1,H2.set id (.cells g' (((l.takeWhile fun x=>decide (x < y)).map iV ++ [iV y]) ++ (l.dropWhile fun x=>decide (x < y)).map iV)),callW_fn (c:=s_f32) hT (by simp [s_f32]) ?_,g4.1.set hid _,.inr (.inr ⟨id,g',((l.takeWhile fun x=>decide (x < y)).map iV ++ [iV y]) ++ (l.dropWhile fun x=>decide (x < y)).map iV,?_,getC_set hc2 _,Nat.le_of_eq ?_,?_,hid⟩)⟩
     ·simp only [nilS,iV] at g1 g3 g5
      simp only [s_f32,a_f32,s_f32_l0_b,aa,bl,i64,reduceIte,reduceCtorEq,Nat.reduceEqDiff,Nat.reduceLT,Nat.reduceLeDiff,Nat.reduceBEq,Nat.reduceAdd,fillA,splice,Nat.reduceMul,amY,op_eqP,hy,hhas,hloop,e1,f1,g1,g3,g5]
      simp only [iV]
     ·simp;omega
     ·simp
     ·rw [List.take_of_length_le (by simp)];simp
end Go.Proofs.Ytdmnenlpdeolaaa
set_option maxRecDepth 100000
namespace Go.Proofs.Ytdmnenlpdeolaaa
open Go.AM
theorem rowsV_snoc (G:List (List Int)) (r:List Int):rowsV (G ++ [r])=rowsV G ++ [r.map iV]:=by simp [rowsV]
theorem take_snoc {α:Type} {l:List α} {k:Nat} {x:α} (h:l[k]?=some x):l.take (k+1)=l.take k ++ [x]:=by
 rw [List.take_succ,h];rfl
def refR (n:Nat) (l r:List Int):List Int:=r.foldl (fun (a:List Int) (x:Int)=>bif decide (x ≥ 0) && decide (x < n) then addZ a x else a) l
def refN (G:List (List Int)):List (List Int):=G.map (refR G.length [])
theorem addZ_len (l:List Int) (y:Int):(addZ l y).length≤l.length+1:=by
 simp only [addZ]
 cases decide (y < 0) || l.contains y with
 | true=>simp
 | false=>
   have:=(takeWhile_len (fun x=>decide (x < y)) l).2
   have h1:=congrArg List.length (List.takeWhile_append_dropWhile (p:=fun x=>decide (x < y)) (l:=l))
   simp only [List.length_append] at h1
   simp only [cond_false,List.length_append,List.length_cons]
   omega
theorem refN_inner {CT:Nat→Option CFun} (hT:CT k_f32=some (.code s_f32)) (hH:CT k_f47=some (.code s_f47)) (base:Nat) (Hs:Heap) (v acc:V) (G:List (List Int)) (i:Nat) (r:List Int) (hv:RdRows Hs v (rowsV G)) (hi:G[i]?=some r) (hb:base≤Hs.length) (hr:r.length < 2 ^ 39):∀ (rest:List Int) (k:Nat) (H:Heap) (row:V) (l:List Int),r.drop k=rest→k≤r.length→Ext Hs H→OwnN Hs.length H row (l.map iV)→l.length≤k→
 ∃ row' H',itW (evC (callW CT) itW base s_f31_l0) [] Hs.length (frOf 56 [(0,v),(3,acc),(4,.s (.int .i64 i)),(5,row),(6,.s (.int .i64 k))]) H=some (.ext 2,frOf 56 [(0,v),(3,acc),(4,.s (.int .i64 i)),(5,row'),(6,.s (.int .i64 r.length)),(19,.s (.bool false))],H')∧
   Ext Hs H'∧OwnN Hs.length H' row' ((refR G.length l rest).map iV):=by
 intro rest
 induction rest with
 | nil=>
   intro k H row l hd hk he ho hl
   obtain rfl:=drop_nil hd hk
   obtain ⟨a,xv,ha1,ha2,ha3,ha4⟩:=rows_at (hv.ext he) hi
   refine ⟨row,trim Hs.length (frOf 56 [(0,v),(3,acc),(4,.s (.int .i64 i)),(5,row),(6,.s (.int .i64 r.length)),(19,.s (.bool false))]) H,?_,he.trim (Nat.le_refl _) _,ho.trim_fr (frOf_mem (s:=5) (by omega) rfl)⟩
   rw [itW_step]
   simp only [a_f31,s_f31_l0_b,s_f31_l1_b,aa,bl,i64,reduceIte,reduceCtorEq,Nat.reduceEqDiff,Nat.reduceLT,Nat.reduceLeDiff,Nat.reduceBEq,Nat.reduceAdd,fillA,splice,Nat.reduceMul,amY,op_eqP,ha1,ha2,iV_len ha3,Int.lt_irrefl]
 | cons x rest ih=>
   intro k H row l hd hk he ho hl
   obtain ⟨hx,hlt,hd'⟩:=drop_cons hd
   obtain ⟨a,xv,ha1,ha2,ha3,ha4⟩:=rows_at (hv.ext he) hi
   obtain ⟨b,hb1,hb2⟩:=iV_at ha3 ha4 hx
   have hlt':(k:Int) < (r.length:Int):=by omega
   have hwk:=wrap_pos (n:=k) (by omega)
   have hHs:=he.le
   by_cases h0:x ≥ 0
   ·by_cases hxn:x < (G.length:Int)
    ·obtain ⟨row1,H1,q1,q2,q3⟩:=add_fun hT hH base H row l x ho.rd ho.wide (by omega) (by omega)
     have ho1:OwnN Hs.length H1 row1 ((addZ l x).map iV):=by
      rcases q3 with ⟨rfl,e⟩ | q3
      ·rw [e];exact ho.ext q2
      ·exact q3.mono hHs
     have hal:=addZ_len l x
     obtain ⟨row',H',p1,p2,p3⟩:=ih (k+1) (trim Hs.length (frOf 56 [(0,v),(3,acc),(4,.s (.int .i64 i)),(5,row1),(6,.s (.int .i64 ((k+1:Nat):Int)))]) H1) row1 (addZ l x) hd' (by omega) ((he.trans q2).trim (Nat.le_refl _) _) (ho1.trim_fr (frOf_mem (s:=5) (by omega) rfl)) (by omega)
     refine ⟨row',H',?_,p2,by simpa only [refR,List.foldl_cons,h0,hxn,decide_true,Bool.and_true,cond_true] using p3⟩
     rw [itW_step]
     simp only [a_f31,s_f31_l0_b,s_f31_l1_b,aa,bl,i64,reduceIte,reduceCtorEq,Nat.reduceEqDiff,Nat.reduceLT,Nat.reduceLeDiff,Nat.reduceBEq,Nat.reduceAdd,fillA,splice,Nat.reduceMul,amY,op_eqP,ha1,ha2,iV_len ha3,hlt',hb1,hb2,ge_iff_le,ge_iff_le.1 h0,rows_len (hv.ext he),hxn,q1,hwk]
     exact p1
    ·obtain ⟨row',H',p1,p2,p3⟩:=ih (k+1) (trim Hs.length (frOf 56 [(0,v),(3,acc),(4,.s (.int .i64 i)),(5,row),(6,.s (.int .i64 ((k+1:Nat):Int)))]) H) row l hd' (by omega) (he.trim (Nat.le_refl _) _) (ho.trim_fr (frOf_mem (s:=5) (by omega) rfl)) (by omega)
     refine ⟨row',H',?_,p2,by simpa only [refR,List.foldl_cons,h0,hxn,decide_true,decide_false,Bool.and_false,cond_false] using p3⟩
     rw [itW_step]
     simp only [a_f31,s_f31_l0_b,s_f31_l1_b,aa,bl,i64,reduceIte,reduceCtorEq,Nat.reduceEqDiff,Nat.reduceLT,Nat.reduceLeDiff,Nat.reduceBEq,Nat.reduceAdd,fillA,splice,Nat.reduceMul,amY,op_eqP,ha1,ha2,iV_len ha3,hlt',hb1,hb2,ge_iff_le,ge_iff_le.1 h0,rows_len (hv.ext he),hxn,hwk]
     exact p1
   ·obtain ⟨row',H',p1,p2,p3⟩:=ih (k+1) (trim Hs.length (frOf 56 [(0,v),(3,acc),(4,.s (.int .i64 i)),(5,row),(6,.s (.int .i64 ((k+1:Nat):Int)))]) H) row l hd' (by omega) (he.trim (Nat.le_refl _) _) (ho.trim_fr (frOf_mem (s:=5) (by omega) rfl)) (by omega)
    refine ⟨row',H',?_,p2,by simpa only [refR,List.foldl_cons,h0,decide_false,Bool.false_and,cond_false] using p3⟩
    have h0':¬ 0≤x:=h0
    rw [itW_step]
    simp only [a_f31,s_f31_l0_b,s_f31_l1_b,aa,bl,i64,reduceIte,reduceCtorEq,Nat.reduceEqDiff,Nat.reduceLT,Nat.reduceLeDiff,Nat.reduceBEq,Nat.reduceAdd,fillA,splice,Nat.reduceMul,amY,op_eqP,ha1,ha2,iV_len ha3,hlt',hb1,hb2,ge_iff_le,h0',rows_len (hv.ext he),hwk]
    exact p1
end Go.Proofs.Ytdmnenlpdeolaaa
set_option maxRecDepth 100000
namespace Go.Proofs.Ytdmnenlpdeolaaa
open Go.AM
theorem refN_outer {CT:Nat→Option CFun} (hT:CT k_f32=some (.code s_f32)) (hH:CT k_f47=some (.code s_f47)) (base:Nat) (H0:Heap) (v:V) (G:List (List Int)) (hv:RdRows H0 v (rowsV G)) (hb:base≤H0.length) (hn:G.length < 2 ^ 39) (hr:∀ r∈G,r.length < 2 ^ 39):∀ (rest:List (List Int)) (i:Nat) (H:Heap) (acc:V),G.drop i=rest→i≤G.length→AccR H0 H acc (rowsV ((G.take i).map (refR G.length [])))→
 ∃ acc' H',itW (evC (callW CT) itW base s_f31_l1) [] H0.length (frOf 56 [(0,v),(3,acc),(4,.s (.int .i64 i))]) H=some (.ext 0,frOf 56 [(0,v),(3,acc'),(4,.s (.int .i64 G.length)),(10,.s (.bool false))],H')∧AccR H0 H' acc' (rowsV (refN G)):=by
 intro rest
 induction rest with
 | nil=>
   intro i H acc hd hk ha
   obtain rfl:=drop_nil hd hk
   rw [List.take_length] at ha
   refine ⟨acc,trim H0.length (frOf 56 [(0,v),(3,acc),(4,.s (.int .i64 G.length)),(10,.s (.bool false))]) H,?_,ha.trim (Nat.le_refl _) (frOf_mem (s:=3) (by omega) rfl)⟩
   rw [itW_step]
   simp only [a_f31,s_f31_l0_b,s_f31_l1_b,aa,bl,i64,reduceIte,reduceCtorEq,Nat.reduceEqDiff,Nat.reduceLT,Nat.reduceLeDiff,Nat.reduceBEq,Nat.reduceAdd,fillA,splice,Nat.reduceMul,amY,op_eqP,rows_len (hv.ext ha.ext0),Int.lt_irrefl]
 | cons x rest ih=>
   intro i H acc hd hk ha
   obtain ⟨hx,hlt,hd'⟩:=drop_cons hd
   have hxl:=hr x (List.mem_of_getElem? hx)
   have hlt':(i:Int) < (G.length:Int):=by omega
   have hwk:=wrap_pos (n:=i) (by omega)
   have hH0:=ha.ext0.le
   obtain ⟨row,H1,q1,q2,q3⟩:=refN_inner hT hH base H v acc G i x (hv.ext ha.ext0) hx (by omega) hxl x 0 H nilS [] rfl (Nat.zero_le _) (Ext.refl H) (.inl ⟨rfl,.inl rfl⟩) (Nat.le_refl _)
   rw [cast0] at q1
   have hone:=q3.one
   obtain ⟨acc1,H2,f1,f2,f3⟩:=(ha.ext q2).append hb (bytes:=24) (q3.mono hH0) (q3.apart fun id g n h=>ha.lt h) (by rw [rowsV_len,List.length_map,List.length_take];omega)
   rw [← rowsV_snoc,show (G.take i).map (refR G.length []) ++ [refR G.length [] x]=(G.take (i+1)).map (refR G.length []) by rw [take_snoc hx];simp] at f2
   obtain ⟨acc',H',p1,p2⟩:=ih (i+1) (trim H0.length (frOf 56 [(0,v),(3,acc1),(4,.s (.int .i64 ((i+1:Nat):Int)))]) H2) acc1 hd' (by omega) (f2.trim (Nat.le_refl _) (frOf_mem (s:=3) (by omega) rfl))
   refine ⟨acc',H',?_,p2⟩
   rw [itW_step]
   simp only [nilS] at q1
   simp only [a_f31,s_f31_l0_b,s_f31_l1_b,aa,bl,i64,reduceIte,reduceCtorEq,Nat.reduceEqDiff,Nat.reduceLT,Nat.reduceLeDiff,Nat.reduceBEq,Nat.reduceAdd,fillA,splice,Nat.reduceMul,amY,op_eqP,rows_len (hv.ext ha.ext0),hlt',hwk,q1,hone,cells_of_one hone,f1]
   exact p1
theorem refN_fun {CT:Nat→Option CFun} (hT:CT k_f32=some (.code s_f32)) (hH:CT k_f47=some (.code s_f47)) (hN:CT k_f31=some (.code s_f31)) (base:Nat) (H:Heap) (v:V) (G:List (List Int)) (hv:RdRows H v (rowsV G)) (hb:base≤H.length) (hn:G.length < 2 ^ 39) (hr:∀ r∈G,r.length < 2 ^ 39):
 ∃ v' H',callW CT (.fn k_f31 [] []) [v] base H=some (v',H')∧Ext H H'∧RdRows H' v' (rowsV (refN G)):=by
 obtain ⟨acc,H',p1,p2⟩:=refN_outer hT hH base H v G hv hb hn hr G 0 H nilS rfl (Nat.zero_le _) (AccR.start H)
 rw [cast0] at p1
 refine ⟨acc,H',callW_fn (c:=s_f31) hN (by simp [s_f31]) ?_,p2.ext0,p2.rows⟩
 simp only [nilS] at p1
 simp only [s_f31,a_f31,s_f31_l0_b,s_f31_l1_b,aa,bl,i64,reduceIte,reduceCtorEq,Nat.reduceEqDiff,Nat.reduceLT,Nat.reduceLeDiff,Nat.reduceBEq,Nat.reduceAdd,fillA,splice,Nat.reduceMul,amY,op_eqP,p1]
end Go.Proofs.Ytdmnenlpdeolaaa
set_option maxRecDepth 100000
namespace Go.Proofs.Ytdmnenlpdeolaaa
open Go.AM
def Up:List Int→Prop
 | []=>True
 | x :: r=>(∀ y∈r,x < y)∧Up r
theorem up_eq:∀ (a b:List Int),Up a→Up b→(∀ x,x∈a↔x∈b)→a=b:=by
 intro a
 induction a with
 | nil=>intro b _ _ h;cases b with
   | nil=>rfl
   | cons y b=>exact absurd ((h y).2 List.mem_cons_self) List.not_mem_nil
 | cons x a ih=>
   intro b ha hb h
   cases b with
   | nil=>exact absurd ((h x).1 List.mem_cons_self) List.not_mem_nil
   | cons y b=>
     have hxy:x=y:=by
      rcases List.mem_cons.1 ((h x).1 List.mem_cons_self) with e | e
      ·exact e
      ·rcases List.mem_cons.1 ((h y).2 List.mem_cons_self) with e2 | e2
       ·exact e2.symm
       ·have:=hb.1 x e;have:=ha.1 y e2;omega
     subst hxy
     rw [ih b ha.2 hb.2 fun z=>?_]
     constructor
     ·intro hz
      have:=ha.1 z hz
      rcases List.mem_cons.1 ((h z).1 (List.mem_cons_of_mem _ hz)) with e | e
      ·omega
      ·exact e
     ·intro hz
      have:=hb.1 z hz
      rcases List.mem_cons.1 ((h z).2 (List.mem_cons_of_mem _ hz)) with e | e
      ·omega
      ·exact e
theorem chg_up:∀ (r:List Int) (p:Int),(p :: r).Pairwise (·≤·)→Up (p :: chg p r)∧∀ x,x∈(p :: chg p r)↔x∈(p :: r):=by
 intro r
 induction r with
 | nil=>intro p _;exact ⟨⟨(fun y h=>absurd h List.not_mem_nil),trivial⟩,fun _=>Iff.rfl⟩
 | cons y r ih=>
   intro p h
   rw [List.pairwise_cons] at h
   obtain ⟨q1,q2⟩:=ih y h.2
   simp only [chg]
   split
   ·rename_i e
    have:y=p:=beq_iff_eq.1 e
    subst this
    refine ⟨q1,fun x=>?_⟩
    rw [q2 x]
    simp
   ·rename_i e
    have hne:y≠p:=by intro e2;exact e (beq_iff_eq.2 e2)
    have hlt:p < y:=by have:=h.1 y List.mem_cons_self;omega
    refine ⟨⟨fun z hz=>?_,q1⟩,fun x=>?_⟩
    ·rcases List.mem_cons.1 hz with rfl | hz
     ·exact hlt
     ·have:=q1.1 z hz;omega
    ·rw [List.mem_cons,q2 x,← List.mem_cons]
theorem normR_up (n:Int) (r:List Int):Up (normR n r)∧∀ x,x∈normR n r↔x∈r∧outR n x=false:=by
 have hs:(sortZ (r.filter fun k=>!outR n k)).Pairwise (·≤·):=by
  have:=List.pairwise_mergeSort (le:=fun x y:Int=>decide (x≤y)) (by intro a b c;simp only [decide_eq_true_eq];omega) (by intro a b;simp only [Bool.or_eq_true,decide_eq_true_eq];omega) (r.filter fun k=>!outR n k)
  simp only [decide_eq_true_eq] at this
  exact this
 have hm:∀ x,x∈sortZ (r.filter fun k=>!outR n k)↔x∈r∧outR n x=false:=fun x=>by
  rw [sortZ,List.mem_mergeSort,List.mem_filter];simp
 simp only [normR]
 cases hz:sortZ (r.filter fun k=>!outR n k) with
 | nil=>rw [hz] at hm;exact ⟨trivial,hm⟩
 | cons p l=>
   rw [hz] at hm hs
   obtain ⟨q1,q2⟩:=chg_up l p hs
   exact ⟨q1,fun x=>by rw [← hm x];exact q2 x⟩
theorem up_append:∀ (a b:List Int),Up a→Up b→(∀ x∈a,∀ y∈b,x < y)→Up (a ++ b):=by
 intro a
 induction a with
 | nil=>intro b _ hb _;exact hb
 | cons x a ih=>
   intro b ha hb h
   refine ⟨fun y hy=>?_,ih b ha.2 hb fun z hz=>h z (List.mem_cons_of_mem _ hz)⟩
   rcases List.mem_append.1 hy with hy | hy
   ·exact ha.1 y hy
   ·exact h x List.mem_cons_self y hy
theorem up_split (y:Int):∀ (l:List Int),Up l→Up (l.takeWhile fun x=>decide (x < y))∧Up (l.dropWhile fun x=>decide (x < y))∧(∀ x∈l.takeWhile fun x=>decide (x < y),x < y)∧(∀ x∈l.dropWhile fun x=>decide (x < y),y≤x):=by
 intro l
 induction l with
 | nil=>intro _;simp [Up]
 | cons x l ih=>
   intro h
   obtain ⟨i1,i2,i3,i4⟩:=ih h.2
   rw [List.takeWhile_cons,List.dropWhile_cons]
   by_cases hx:x < y
   ·simp only [hx,decide_true,if_true]
    refine ⟨⟨fun z hz=>h.1 z ((List.takeWhile_prefix _).subset hz),i1⟩,i2,fun z hz=>?_,i4⟩
    rcases List.mem_cons.1 hz with rfl | hz
    ·exact hx
    ·exact i3 z hz
   ·simp only [hx,decide_false,Bool.false_eq_true,if_false]
    refine ⟨trivial,h,(fun z hz=>absurd hz List.not_mem_nil),fun z hz=>?_⟩
    rcases List.mem_cons.1 hz with rfl | hz
    ·omega
    ·have:=h.1 z hz;omega
theorem addZ_up (l:List Int) (y:Int) (h:Up l) (hy:0≤y):Up (addZ l y)∧∀ x,x∈addZ l y↔x∈l∨x=y:=by
 have h0:¬ y < 0:=by omega
 simp only [addZ,h0,decide_false,Bool.false_or]
 cases hc:l.contains y with
 | true=>
   refine ⟨h,fun x=>⟨.inl,fun hx=>?_⟩⟩
   rcases hx with hx | rfl
   ·exact hx
   ·simpa using hc
 | false=>
   have hny:y ∉ l:=by simpa using hc
   obtain ⟨i1,i2,i3,i4⟩:=up_split y l h
   simp only [cond_false]
   have hd:∀ x∈l.dropWhile (fun x=>decide (x < y)),y < x:=fun x hx=>by
    have h1:=i4 x hx
    have h2:x∈l:=(List.dropWhile_suffix _).subset hx
    have:x≠y:=fun e=>hny (e ▸ h2)
    omega
   refine ⟨up_append _ _ i1 ⟨hd,i2⟩ fun a ha b hb=>?_,fun x=>?_⟩
   ·rcases List.mem_cons.1 hb with rfl | hb
    ·exact i3 a ha
    ·have:=i3 a ha;have:=hd b hb;omega
   ·rw [List.mem_append,List.mem_cons]
    have hsp:x∈l↔x∈l.takeWhile (fun x=>decide (x < y))∨x∈l.dropWhile (fun x=>decide (x < y)):=by rw [← List.mem_append,List.takeWhile_append_dropWhile]
    rw [hsp]
    constructor
    ·rintro (h | rfl | h)
     ·exact .inl (.inl h)
     ·exact .inr rfl
     ·exact .inl (.inr h)
    ·rintro ((h | h) | rfl)
     ·exact .inl h
     ·exact .inr (.inr h)
     ·exact .inr (.inl rfl)
theorem refR_up (n:Nat):∀ (r l:List Int),Up l→Up (refR n l r)∧∀ x,x∈refR n l r↔x∈l∨(x∈r∧outR n x=false):=by
 intro r
 induction r with
 | nil=>intro l h;exact ⟨h,fun x=>by simp [refR]⟩
 | cons y r ih=>
   intro l h
   have ho:outR n y=!(decide (y ≥ 0) && decide (y < n)):=by
    simp only [outR,ge_iff_le,Bool.not_and]
    congr 1 <;> (rw [Bool.eq_iff_iff];simp) <;> omega
   cases hc:decide (y ≥ 0) && decide (y < (n:Int)) with
   | true=>
     rw [hc] at ho
     have hy:0≤y:=by simp at hc;exact hc.1
     obtain ⟨a1,a2⟩:=addZ_up l y h hy
     obtain ⟨q1,q2⟩:=ih (addZ l y) a1
     have he:refR n l (y :: r)=refR n (addZ l y) r:=by simp only [refR,List.foldl_cons,hc,cond_true]
     rw [he]
     refine ⟨q1,fun x=>?_⟩
     rw [q2,a2,List.mem_cons]
     constructor
     ·rintro ((h | rfl) | ⟨h1,h2⟩)
      ·exact .inl h
      ·exact .inr ⟨.inl rfl,ho⟩
      ·exact .inr ⟨.inr h1,h2⟩
     ·rintro (h | ⟨rfl | h1,h2⟩)
      ·exact .inl (.inl h)
      ·exact .inl (.inr rfl)
      ·exact .inr ⟨h1,h2⟩
   | false=>
     rw [hc] at ho
     obtain ⟨q1,q2⟩:=ih l h
     have he:refR n l (y :: r)=refR n l r:=by simp only [refR,List.foldl_cons,hc,cond_false]
     rw [he]
     refine ⟨q1,fun x=>?_⟩
     rw [q2,List.mem_cons]
     constructor
     ·rintro (h | ⟨h1,h2⟩)
      ·exact .inl h
      ·exact .inr ⟨.inr h1,h2⟩
     ·rintro (h | ⟨rfl | h1,h2⟩)
      ·exact .inl h
      ·rw [ho] at h2;cases h2
      ·exact .inr ⟨h1,h2⟩
theorem norm_ref (n:Nat) (r:List Int):normR n r=refR n [] r:=by
 obtain ⟨a1,a2⟩:=normR_up n r
 obtain ⟨b1,b2⟩:=refR_up n r [] trivial
 refine up_eq _ _ a1 b1 fun x=>?_
 rw [a2,b2];simp
theorem normG_ref (G:List (List Int)):normG G=refN G:=by
 simp only [normG,refN]
 exact List.map_congr_left fun r _=>norm_ref _ r
end Go.Proofs.Ytdmnenlpdeolaaa
set_option maxRecDepth 100000
namespace Go.Proofs.Ytdmnenlpdeolaaa
open Go.AM
def Shape (m:Nat) (H:Heap) (v:V) (lens:List Nat):Prop:=∃ id g vs,v=.sl id g 0 lens.length 1∧getC H id g=some vs∧m≤id∧vs.length=lens.length∧
 ∀ (i len:Nat),lens[i]?=some len→∃ x,vs[i]?=some x∧((len=0∧(x=nilS∨x=.esl))∨∃ id' g' c,x=.sl id' g' 0 len 1∧getC H id' g'=some c∧len≤c.length∧id+1≤id')
theorem OwnRows.shape {m:Nat} {H:Heap} {v:V} {G:List (List Int)} (h:OwnRows m H v (rowsV G)):Shape m H v (G.map List.length):=by
 obtain ⟨id,g,vs,h1,h2,h3,h4,h5⟩:=h
 rw [rowsV_len] at h1 h4
 refine ⟨id,g,vs,by rw [List.length_map];exact h1,h2,h3,by rw [List.length_map];exact h4,fun i len hl=>?_⟩
 rw [List.getElem?_map,Option.map_eq_some_iff] at hl
 obtain ⟨r,hr,rfl⟩:=hl
 obtain ⟨x,q1,q2⟩:=h5 i _ (rowsV_get hr)
 refine ⟨x,q1,?_⟩
 rcases q2 with ⟨a,b⟩ | ⟨id',g',c,a,b,d,_,e⟩
 ·have:r=[]:=by simpa using a
  exact .inl ⟨by rw [this];rfl,b⟩
 ·rw [List.length_map] at a d
  exact .inr ⟨id',g',c,a,b,d,e⟩
theorem Shape.trim {m L:Nat} {H:Heap} {v:V} {lens:List Nat} (h:Shape m H v lens) {fr:List V} (hv:v∈fr):Shape m (trim L fr H) v lens:=by
 obtain ⟨id,g,vs,rfl,h2,h3,h4,h5⟩:=h
 rcases trim_or L fr H with e | ⟨e,hu⟩
 ·rw [e];exact ⟨id,g,vs,rfl,h2,h3,h4,h5⟩
 ·have hid:=hu _ hv
  simp only [idsUnder,decide_eq_true_eq] at hid
  refine ⟨id,g,vs,rfl,trim_get h2 hid,h3,h4,fun i len hl=>?_⟩
  obtain ⟨x,q1,q2⟩:=h5 i len hl
  refine ⟨x,q1,?_⟩
  rcases q2 with q2 | ⟨id',g',c,rfl,b,d,f⟩
  ·exact .inl q2
  ·refine .inr ⟨id',g',c,rfl,?_,d,f⟩
   rcases trim_or' L fr H with e | ⟨_,_,hu⟩
   ·rw [e];exact b
   ·exact trim_get b (hu _ _ _ hid h2 _ _ _ _ _ (List.mem_of_getElem? q1))
theorem Shape.row {m:Nat} {H:Heap} {v:V} {lens:List Nat} (h:Shape m H v lens) {i len:Nat} (hi:lens[i]?=some len):∃ a x,xIndexAddr 1 v (.s (.int .i64 i))=some a∧xLoad H false 1 a=some x∧xLen H .s x=some (.s (.int .i64 len))∧
 ∀ (k base:Nat) (y:V),k < len→base≤m→y.one=true→∃ b H',xIndexAddr 1 x (.s (.int .i64 k))=some b∧storeV H base 1 y b=some H'∧Shape m H' v lens∧H'.length=H.length∧∀ H0,H0.length≤m→Ext H0 H→Ext H0 H':=by
 obtain ⟨id,g,vs,rfl,h2,h3,h4,h5⟩:=h
 obtain ⟨x,q1,q2⟩:=h5 i len hi
 have hil:=(List.getElem?_eq_some_iff.1 hi).1
 obtain ⟨e1,e2⟩:=at_sl h2 hil q1
 refine ⟨_,x,e1,e2,?_,?_⟩
 ·rcases q2 with ⟨rfl,rfl | rfl⟩ | ⟨id',g',c,rfl,_⟩ <;> rfl
 ·intro k base y hk hb hy
  rcases q2 with ⟨rfl,_⟩ | ⟨id',g',c,rfl,b,d,f⟩
  ·omega
  ·obtain ⟨f1,_⟩:=at_sl (w:=c[k]'(by omega)) b hk (List.getElem?_eq_getElem (by omega))
   refine ⟨_,_,f1,storeV_at b (by omega) hy (by omega),⟨id,g,vs,rfl,by rw [getC_other (by omega)];exact h2,h3,h4,fun j len' hj=>?_⟩,List.length_set,fun H0 h0 he=>he.set (by omega) _⟩
   obtain ⟨z,z1,z2⟩:=h5 j len' hj
   refine ⟨z,z1,?_⟩
   rcases z2 with z2 | ⟨i2,g2,c2,rfl,b2,d2,f2⟩
   ·exact .inl z2
   ·by_cases hs:i2=id'
    ·subst hs
     have hg:g2=g':=by
      unfold getC at b b2
      split at b <;> rename_i hh
      ·split at b <;> rename_i h6
       ·rw [hh] at b2
        simp only at b2
        split at b2 <;> rename_i h7
        ·omega
        ·cases b2
       ·cases b
      ·cases b
     subst hg
     rw [b] at b2
     cases b2
     exact .inr ⟨i2,g2,_,rfl,getC_put b,by rw [List.length_set];exact d2,f2⟩
    ·exact .inr ⟨i2,g2,c2,rfl,by rw [getC_other hs];exact b2,d2,f2⟩
end Go.Proofs.Ytdmnenlpdeolaaa
set_option maxRecDepth 100000
namespace Go.Proofs.Ytdmnenlpdeolaaa
open Go.AM
def RS (h:Nat) (v:V) (n:Nat) (H0 H:Heap) (B:List Bool) (S:List Int):Prop:=
 H0.length=h∧Ext H0 H∧getC H h 0=some [v]∧getC H (h+1) 0=some (B.map bV)∧getC H (h+2) 0=some [.sl (h+1) 0 0 n 1]∧B.length=n∧
 ∃ nv,getC H (h+3) 0=some [nv]∧OwnN (h+4) H nv (S.map iV)
theorem RS.trim {h L n:Nat} {v:V} {H0 H:Heap} {B:List Bool} {S:List Int} (k:RS h v n H0 H B S) (hL:h+4≤L) (fr:List V):RS h v n H0 (trim L fr H) B S:=by
 obtain ⟨a1,a2,a3,a4,a5,a6,nv,a7,a8⟩:=k
 exact ⟨a1,a2.trim (by omega) _,trim_get a3 (by omega),trim_get a4 (by omega),trim_get a5 (by omega),a6,nv,trim_get a7 (by omega),a8.trim a7 (by omega) List.mem_cons_self _⟩
def enterZ (n:Nat) (k:Int) (s:List Bool × List Int):List Bool × List Int:=
 bif decide (k ≥ 0) && decide (k < n) && !(s.1.getD k.toNat true) then (s.1.set k.toNat true,s.2 ++ [k]) else s
theorem getC_load {H:Heap} {id g:Nat} {w:V} (h:getC H id g=some [w]):xLoad H false 1 (.ref id g 0)=some w:=by
 simp only [xo_ref,h,List.drop_zero,List.take_succ_cons,List.take_zero,List.length_singleton,if_true,shut_one]
theorem res_nil (fr:List V) (H:Heap):resultV [] fr H=some (.tup []):=by simp [resultV]
def cntF:List Bool→Nat
 | []=>0
 | b :: l=>(if b then 0 else 1)+cntF l
theorem cntF_set:∀ (l:List Bool) (j:Nat),l[j]?=some false→cntF (l.set j true)+1=cntF l:=by
 intro l
 induction l with
 | nil=>intro j h;simp at h
 | cons b l ih=>
   intro j h
   cases j with
   | zero=>simp at h;subst h;simp [cntF];omega
   | succ j=>have:=ih j (by simpa using h);simp only [List.set_cons_succ,cntF];omega
theorem enterZ_inv (n:Nat) (k:Int) (s:List Bool × List Int) (h:s.1.length=n):(enterZ n k s).1.length=n∧(enterZ n k s).2.length+cntF (enterZ n k s).1=s.2.length+cntF s.1:=by
 simp only [enterZ]
 cases hc:decide (k ≥ 0) && decide (k < (n:Int)) && !(s.1.getD k.toNat true) with
 | false=>exact ⟨h,rfl⟩
 | true=>
   simp only [Bool.and_eq_true,decide_eq_true_eq,Bool.not_eq_true'] at hc
   have hj:k.toNat < s.1.length:=by omega
   have hf:s.1[k.toNat]?=some false:=by
    have:=hc.2
    rw [List.getD,List.getElem?_eq_getElem hj] at this
    rw [List.getElem?_eq_getElem hj];exact congrArg some this
   have:=cntF_set s.1 k.toNat hf
   refine ⟨by simp [h],?_⟩
   simp only [cond_true,List.length_append,List.length_singleton]
   omega
def enters (n:Nat) (l:List Int) (s:List Bool × List Int):List Bool × List Int:=l.foldl (fun s k=>enterZ n k s) s
end Go.Proofs.Ytdmnenlpdeolaaa
set_option maxRecDepth 100000
namespace Go.Proofs.Ytdmnenlpdeolaaa
open Go.AM
end Go.Proofs.Ytdmnenlpdeolaaa
set_option maxRecDepth 100000
namespace Go.Proofs.Ytdmnenlpdeolaaa
open Go.AM
end Go.Proofs.Ytdmnenlpdeolaaa
set_option maxRecDepth 100000
namespace Go.Proofs.Ytdmnenlpdeolaaa
open Go.AM
inductive Rch (G:List (List Int)) (l:List Int):Nat→Prop
 | base (k:Nat):(k:Int)∈l→k < G.length→Rch G l k
 | step (i k:Nat):Rch G l i→(k:Int)∈G.getD i []→k < G.length→Rch G l k
structure Ent (n:Nat) (r:List Int) (s t:List Bool × List Int):Prop where
 len:t.1.length=n
 mono:∀ k:Nat,s.1[k]?=some true→t.1[k]?=some true
 only:∀ k:Nat,t.1[k]?=some true→s.1[k]?=some true∨((k:Int)∈r∧k < n∧(k:Int)∈t.2)
 all:∀ k:Nat,(k:Int)∈r→k < n→t.1[k]?=some true
 sub:∀ x,x∈s.2→x∈t.2
 new:∀ x,x∈t.2→x∈s.2∨∃ k:Nat,x=k∧k < n∧t.1[k]?=some true
theorem enterZ_ent (n:Nat) (x:Int) (s:List Bool × List Int) (h:s.1.length=n):Ent n [x] s (enterZ n x s):=by
 obtain ⟨l1,_⟩:=enterZ_inv n x s h
 simp only [enterZ] at l1 ⊢
 cases hc:decide (x ≥ 0) && decide (x < (n:Int)) && !(s.1.getD x.toNat true) with
 | false=>
   simp only [cond_false]
   refine ⟨h,fun _ h=>h,fun _ h=>.inl h,fun k hk hkn=>?_,fun _ h=>h,fun _ h=>.inl h⟩
   have:x=(k:Int):=(List.mem_singleton.1 hk).symm
   subst this
   have h1:decide ((k:Int) ≥ 0)=true:=by rw [decide_eq_true_eq];omega
   have h2:decide ((k:Int) < (n:Int))=true:=by rw [decide_eq_true_eq];omega
   rw [h1,h2,Bool.true_and,Bool.true_and,Bool.not_eq_false',Int.toNat_natCast,List.getD,List.getElem?_eq_getElem (by omega)] at hc
   rw [List.getElem?_eq_getElem (by omega)]
   exact congrArg some hc
 | true=>
   rw [hc] at l1
   simp only [cond_true] at l1 ⊢
   simp only [Bool.and_eq_true,decide_eq_true_eq,Bool.not_eq_true'] at hc
   obtain ⟨j,rfl⟩:=Int.eq_ofNat_of_zero_le hc.1.1
   have hj:j < n:=by omega
   simp only [Int.toNat_natCast] at l1 ⊢
   have hset:(s.1.set j true)[j]?=some true:=by rw [List.getElem?_set_self (by omega)]
   refine ⟨l1,fun k hk=>?_,fun k hk=>?_,fun k hk _=>?_,fun y hy=>List.mem_append_left _ hy,fun y hy=>?_⟩
   ·by_cases e:j=k
    ·subst e;exact hset
    ·rw [List.getElem?_set_ne e];exact hk
   ·by_cases e:j=k
    ·subst e;exact .inr ⟨List.mem_singleton.2 rfl,hj,List.mem_append_right _ (List.mem_singleton.2 rfl)⟩
    ·rw [List.getElem?_set_ne e] at hk;exact .inl hk
   ·have:k=j:=by have:=List.mem_singleton.1 hk;omega
    subst this;exact hset
   ·rcases List.mem_append.1 hy with hy | hy
    ·exact .inl hy
    ·exact .inr ⟨j,List.mem_singleton.1 hy,hj,hset⟩
theorem enters_ent (n:Nat):∀ (r:List Int) (s:List Bool × List Int),s.1.length=n→Ent n r s (enters n r s):=by
 intro r
 induction r with
 | nil=>intro s h;exact ⟨h,fun _ h=>h,fun _ h=>.inl h,fun _ h=>absurd h List.not_mem_nil,fun _ h=>h,fun _ h=>.inl h⟩
 | cons x r ih=>
   intro s h
   have a:=enterZ_ent n x s h
   have b:=ih (enterZ n x s) a.len
   refine ⟨b.len,fun k hk=>b.mono k (a.mono k hk),fun k hk=>?_,fun k hk hkn=>?_,fun y hy=>b.sub y (a.sub y hy),fun y hy=>?_⟩
   ·rcases b.only k hk with q | ⟨q1,q2,q3⟩
    ·rcases a.only k q with q | ⟨q1,q2,q3⟩
     ·exact .inl q
     ·exact .inr ⟨List.mem_cons.2 (.inl (List.mem_singleton.1 q1)),q2,b.sub _ q3⟩
    ·exact .inr ⟨List.mem_cons_of_mem _ q1,q2,q3⟩
   ·rcases List.mem_cons.1 hk with e | e
    ·exact b.mono k (a.all k (List.mem_singleton.2 e) hkn)
    ·exact b.all k e hkn
   ·rcases b.new y hy with q | q
    ·rcases a.new y q with q | ⟨k,q1,q2,q3⟩
     ·exact .inl q
     ·exact .inr ⟨k,q1,q2,b.mono k q3⟩
    ·exact .inr q
end Go.Proofs.Ytdmnenlpdeolaaa
set_option maxRecDepth 100000
namespace Go.Proofs.Ytdmnenlpdeolaaa
open Go.AM
structure Inv (G:List (List Int)) (l:List Int) (s:List Bool × List Int):Prop where
 len:s.1.length=G.length
 stk:∀ x,x∈s.2→∃ k:Nat,x=k∧k < G.length∧s.1[k]?=some true
 snd:∀ k:Nat,s.1[k]?=some true→Rch G l k
 bas:∀ k:Nat,(k:Int)∈l→k < G.length→s.1[k]?=some true
 cls:∀ i k:Nat,s.1[i]?=some true→(i:Int) ∉ s.2→(k:Int)∈G.getD i []→k < G.length→s.1[k]?=some true
theorem inv_start (G:List (List Int)) (l:List Int):Inv G l (enters G.length l (List.replicate G.length false,[])):=by
 have e:=enters_ent G.length l (List.replicate G.length false,[]) (by simp)
 have no:∀ k:Nat,(List.replicate G.length false)[k]?≠some true:=by
  intro k hk
  rw [List.getElem?_replicate] at hk
  split at hk <;> cases hk
 refine ⟨e.len,fun x hx=>?_,fun k hk=>?_,e.all,fun i k hi hn _ _=>?_⟩
 ·rcases e.new x hx with h | h
  ·exact absurd h List.not_mem_nil
  ·exact h
 ·rcases e.only k hk with h | ⟨h1,h2,_⟩
  ·exact absurd h (no k)
  ·exact .base k h1 h2
 ·rcases e.only i hi with h | ⟨_,_,h3⟩
  ·exact absurd h (no i)
  ·exact absurd h3 hn
end Go.Proofs.Ytdmnenlpdeolaaa
set_option maxRecDepth 100000
namespace Go.Proofs.Ytdmnenlpdeolaaa
open Go.AM
theorem rch_lt {G:List (List Int)} {a:List Int} {k:Nat} (h:Rch G a k):k < G.length:=by cases h <;> assumption
theorem bV_at {H:Heap} {v:V} {B:List Bool} (h:Rd H v (B.map bV)) (hw:Wide1 v) {k:Nat} (hk:k < B.length):∃ a,xIndexAddr 1 v (.s (.int .i64 k))=some a∧xLoad H false 1 a=some (.s (.bool (B.getD k false))):=by
 refine h.at' hw ?_
 rw [List.getElem?_map,List.getElem?_eq_getElem hk,List.getD,List.getElem?_eq_getElem hk]
 rfl
end Go.Proofs.Ytdmnenlpdeolaaa
set_option maxRecDepth 100000
namespace Go.Proofs.Ytdmnenlpdeolaaa
open Go.AM
def col:Nat→List (List Int)→Int→List Int
 | _,[],_=>[]
 | i,r :: N,k=>(if k∈r then [(i:Int)] else []) ++ col (i+1) N k
theorem col_mem:∀ (N:List (List Int)) (i:Nat) (k x:Int),x∈col i N k↔∃ j:Nat,x=((i+j:Nat):Int)∧∃ r,N[j]?=some r∧k∈r:=by
 intro N
 induction N with
 | nil=>intro i k x;simp [col]
 | cons r N ih=>
   intro i k x
   simp only [col,List.mem_append,ih]
   constructor
   ·rintro (h | ⟨j,rfl,r',h1,h2⟩)
    ·split at h
     ·rename_i hk
      rw [List.mem_singleton] at h
      exact ⟨0,by simpa using h,r,rfl,hk⟩
     ·cases h
    ·exact ⟨j+1,by omega,r',by simpa using h1,h2⟩
   ·rintro ⟨j,rfl,r',h1,h2⟩
    cases j with
    | zero=>
      left
      simp only [List.getElem?_cons_zero,Option.some.injEq] at h1
      subst h1
      rw [if_pos h2];simp
    | succ j=>right;exact ⟨j,by omega,r',by simpa using h1,h2⟩
theorem col_up:∀ (N:List (List Int)) (i:Nat) (k:Int),Up (col i N k):=by
 intro N
 induction N with
 | nil=>intro i k;exact trivial
 | cons r N ih=>
   intro i k
   simp only [col]
   split
   ·refine up_append _ _ ⟨fun _ h=>(List.not_mem_nil h).elim,trivial⟩ (ih _ _) fun x hx y hy=>?_
    rw [List.mem_singleton] at hx
    subst hx
    obtain ⟨j,rfl,_⟩:=(col_mem N (i+1) k y).1 hy
    omega
   ·exact ih _ _
theorem bump_get (i:Int) (R:List (List Int)) (x:Int) (hx:0≤x∧x < R.length) (k:Nat) (hk:k < R.length):(bump i R x).getD k []=if x=k then R.getD k [] ++ [i] else R.getD k []:=by
 unfold bump
 simp only [List.getD,List.getElem?_set]
 by_cases h:x.toNat=k
 ·have hxk:x=k:=by omega
  rw [if_pos h,if_pos hxk,if_pos (by omega),h];rfl
 ·have hxk:¬ x=k:=by omega
  rw [if_neg h,if_neg hxk]
theorem bumps_get (i:Int):∀ (r:List Int) (R:List (List Int)),Up r→(∀ x∈r,0≤x∧x < R.length)→∀ k:Nat,k < R.length→(r.foldl (bump i) R).getD k []=R.getD k [] ++ (if (k:Int)∈r then [i] else []):=by
 intro r
 induction r with
 | nil=>intro R _ _ k _;simp
 | cons y r ih=>
   intro R hu hin k hk
   have hu':Up r:=hu.2
   rw [List.foldl_cons,ih (bump i R y) hu' (fun x hx=>by rw [bump_len];exact hin x (List.mem_cons_of_mem _ hx)) k (by rw [bump_len];exact hk),bump_get i R y (hin y List.mem_cons_self) k hk]
   by_cases hy:y=k
   ·subst hy
    have hn:¬ (k:Int)∈r:=fun h=>by have:=hu.1 k h;omega
    rw [if_pos rfl,if_neg hn,if_pos List.mem_cons_self,List.append_nil]
   ·rw [if_neg hy]
    by_cases hm:(k:Int)∈r
    ·rw [if_pos hm,if_pos (List.mem_cons_of_mem _ hm)]
    ·rw [if_neg hm,if_neg]
     intro h
     rcases List.mem_cons.1 h with h | h
     ·exact hy h.symm
     ·exact hm h
theorem backFrom_get:∀ (N:List (List Int)) (i:Nat) (R:List (List Int)),(∀ r∈N,Up r∧∀ x∈r,0≤x∧x < R.length)→∀ k:Nat,k < R.length→(backFrom i N R).getD k []=R.getD k [] ++ col i N k:=by
 intro N
 induction N with
 | nil=>intro i R _ k _;simp [backFrom,col]
 | cons r N ih=>
   intro i R hin k hk
   obtain ⟨hu,hr⟩:=hin r List.mem_cons_self
   simp only [backFrom,col]
   rw [ih (i+1) _ (fun q hq=>by rw [bumps_len];exact hin q (List.mem_cons_of_mem _ hq)) k (by rw [bumps_len];exact hk),bumps_get i r R hu hr k hk,List.append_assoc]
theorem normG_up {G:List (List Int)} {r:List Int} (h:r∈normG G):Up r:=by
 unfold normG at h
 obtain ⟨q,_,rfl⟩:=List.mem_map.1 h
 exact (normR_up _ _).1
theorem backG_get (G:List (List Int)) (k:Nat) (hk:k < G.length):(backG G).getD k []=col 0 (normG G) k:=by
 rw [backG,backFrom_get _ _ _ (fun r hr=>⟨normG_up hr,fun x hx=>by rw [List.length_replicate];exact normG_in hr hx⟩) k (by simpa using hk)]
 simp [List.getD,List.getElem?_replicate,hk]
theorem getD_mem {G:List (List Int)} {k:Nat} (hk:k < G.length):G.getD k []∈G:=by
 rw [List.getD,List.getElem?_eq_getElem hk];exact List.getElem_mem hk
theorem normG_get (G:List (List Int)) (k:Nat) (x:Int):x∈(normG G).getD k []↔x∈G.getD k []∧0≤x∧x < G.length:=by
 unfold normG
 simp only [List.getD,List.getElem?_map]
 cases G[k]? with
 | none=>simp
 | some r=>
   simp only [Option.map_some,Option.getD_some]
   rw [(normR_up _ _).2 x]
   simp only [outR,Bool.or_eq_false_iff,decide_eq_false_iff_not]
   constructor
   ·rintro ⟨a,b,c⟩;exact ⟨a,by omega,by omega⟩
   ·rintro ⟨a,b,c⟩;exact ⟨a,by omega,by omega⟩
theorem backG_mem (G:List (List Int)) (i k:Nat) (hk:k < G.length):(i:Int)∈(backG G).getD k []↔(k:Int)∈G.getD i []:=by
 rw [backG_get G k hk,col_mem]
 constructor
 ·rintro ⟨j,e,r,h1,h2⟩
  have:i=j:=by omega
  subst this
  have hg:(normG G).getD i []=r:=by rw [List.getD,h1];rfl
  rw [← hg] at h2
  exact ((normG_get G i k).1 h2).1
 ·intro h
  have hi:i < G.length:=by
   apply Nat.lt_of_not_le
   intro hle
   rw [List.getD,List.getElem?_eq_none hle] at h
   cases h
  refine ⟨i,by omega,(normG G).getD i [],?_,(normG_get G i k).2 ⟨h,by omega,by omega⟩⟩
  rw [List.getD,List.getElem?_eq_getElem (by rw [normG_len];exact hi)];rfl
theorem backG_rows (G:List (List Int)):∀ r∈backG G,Up r∧∀ x∈r,0≤x∧x < (backG G).length:=by
 intro r hr
 obtain ⟨k,hk,rfl⟩:=List.mem_iff_getElem.1 hr
 have hk':k < G.length:=by rw [backG_len] at hk;exact hk
 have:(backG G)[k]=col 0 (normG G) k:=by
  rw [← backG_get G k hk',List.getD,List.getElem?_eq_getElem hk];rfl
 rw [this]
 refine ⟨col_up _ _ _,fun x hx=>?_⟩
 obtain ⟨j,rfl,r,h1,_⟩:=(col_mem _ _ _ _).1 hx
 have:=(List.getElem?_eq_some_iff.1 h1).1
 rw [normG_len] at this
 rw [backG_len]
 omega
theorem rch_trans {G:List (List Int)} {l:List Int} {j i:Nat} (h1:Rch G l j) (h2:Rch G [(j:Int)] i):Rch G l i:=by
 induction h2 with
 | base k a b=>
   have:k=j:=by rw [List.mem_singleton] at a;omega
   subst this;exact h1
 | step a k _ h3 h4 ih=>exact .step a k ih h3 h4
theorem rch_norm (G:List (List Int)) (l:List Int) (k:Nat):Rch (normG G) l k↔Rch G l k:=by
 constructor
 ·intro h
  induction h with
  | base k a b=>exact .base k a (by rw [normG_len] at b;exact b)
  | step j k _ h3 h4 ih=>exact .step j k ih ((normG_get G j k).1 h3).1 (by rw [normG_len] at h4;exact h4)
 ·intro h
  induction h with
  | base k a b=>exact .base k a (by rw [normG_len];exact b)
  | step j k _ h3 h4 ih=>exact .step j k ih ((normG_get G j k).2 ⟨h3,by omega,by omega⟩) (by rw [normG_len];exact h4)
open Classical in
noncomputable def leadsB (G:List (List Int)) (a b:Int):Bool:=decide (∃ k:Nat,b=k∧Rch G [a] k)
theorem leadsB_nat (G:List (List Int)) (a:Int) (k:Nat):leadsB G a k=true↔Rch G [a] k:=by
 simp only [leadsB,decide_eq_true_eq]
 constructor
 ·rintro ⟨j,e,h⟩
  have:k=j:=by omega
  subst this;exact h
 ·exact fun h=>⟨k,rfl,h⟩
end Go.Proofs.Ytdmnenlpdeolaaa
set_option maxRecDepth 100000
namespace Go.Proofs.Ytdmnenlpdeolaaa
open Go.AM
theorem rows_lenV {H:Heap} {v:V} {G:List (List Int)} (hv:RdRows H v (rowsV G)):∀ H',xLen H' .s v=some (.s (.int .i64 G.length)):=by
 intro H'
 rw [← rows_len hv]
 obtain ⟨vs,h,_⟩:=hv
 rcases h.cases with ⟨_,rfl | rfl⟩ | ⟨es,rfl,_⟩ | ⟨id,g,off,n,c,rfl,_⟩ <;> rfl
theorem one_rd (H:Heap) (x:V):Rd (H ++ [Ob.cells 0 [x]]) (.sl H.length 0 0 1 1) [x]:=⟨fun _ h=>(by cases h),elems_new⟩
end Go.Proofs.Ytdmnenlpdeolaaa
set_option maxRecDepth 100000
namespace Go.Proofs.Ytdmnenlpdeolaaa
open Go.AM
inductive Dfs (N:List (List Int)):List Int→List Bool→List Int→List Bool→List Int→Prop
 | nil (s:List Bool) (l:List Int):Dfs N [] s l s l
 | skip (k:Nat) (r:List Int) (s:List Bool) (l:List Int) (s':List Bool) (l':List Int):s[k]?=some true→Dfs N r s l s' l'→Dfs N ((k:Int) :: r) s l s' l'
 | go (k:Nat) (r:List Int) (s:List Bool) (l:List Int) (s1:List Bool) (l1:List Int) (s':List Bool) (l':List Int):s[k]?=some false→Dfs N (N.getD k []) (s.set k true) l s1 l1→Dfs N r s1 ((k:Int) :: l1) s' l'→Dfs N ((k:Int) :: r) s l s' l'
structure DfsK (s:List Bool) (l:List Int) (s':List Bool) (l':List Int):Prop where
 len:s'.length=s.length
 mono:∀ k:Nat,s[k]?=some true→s'[k]?=some true
 cnt:cntF s'≤cntF s
 new:∃ p:List Int,l'=p ++ l∧p.Nodup∧(∀ x∈p,∃ k:Nat,x=k∧s[k]?=some false∧s'[k]?=some true)∧∀ k:Nat,s'[k]?=some true→s[k]?=some true∨(k:Int)∈p
theorem set_get {s:List Bool} {k j:Nat} (hk:k < s.length):(s.set k true)[j]?=if k=j then some true else s[j]?:=by
 rw [List.getElem?_set]
 split
 ·rename_i h;subst h;simp [hk]
 ·rfl
theorem dfs_keep {N:List (List Int)} {r:List Int} {s:List Bool} {l:List Int} {s':List Bool} {l':List Int} (h:Dfs N r s l s' l'):DfsK s l s' l':=by
 induction h with
 | nil s l=>exact ⟨rfl,fun _ h=>h,Nat.le_refl _,[],rfl,List.nodup_nil,fun x hx=>(List.not_mem_nil hx).elim,fun k h=>.inl h⟩
 | skip k r s l s' l' h1 h2 ih=>exact ih
 | go k r s l s1 l1 s' l' h1 h2 h3 ih1 ih2=>
   obtain ⟨a1,a2,a3,p,a4,a5,a6,a7⟩:=ih1
   obtain ⟨b1,b2,b3,q,b4,b5,b6,b7⟩:=ih2
   have hk:k < s.length:=(List.getElem?_eq_some_iff.1 h1).1
   have hc:=cntF_set s k h1
   have hk1:s1[k]?=some true:=a2 k (by rw [set_get hk,if_pos rfl])
   have up:∀ j:Nat,s[j]?=some true→s1[j]?=some true:=fun j hj=>a2 j (by rw [set_get hk];split <;> first | rfl | exact hj)
   have down:∀ j:Nat,j < s.length→s1[j]?=some false→s[j]?=some false:=by
    intro j hj hf
    rw [List.getElem?_eq_getElem hj]
    cases hb:s[j] with
    | false=>rfl
    | true=>
      have:=up j (by rw [List.getElem?_eq_getElem hj,hb])
      rw [hf] at this;cases this
   refine ⟨by rw [b1,a1,List.length_set],fun j hj=>b2 j (up j hj),by omega,q ++ (k:Int) :: p,by rw [b4,a4];simp,?_,?_,?_⟩
   ·rw [List.nodup_append]
    refine ⟨b5,List.nodup_cons.2 ⟨?_,a5⟩,?_⟩
    ·intro hm
     obtain ⟨j,e,hf,_⟩:=a6 _ hm
     have:k=j:=by omega
     subst this
     rw [set_get hk,if_pos rfl] at hf
     cases hf
    ·intro x hx y hy e
     subst e
     obtain ⟨j,rfl,hf,_⟩:=b6 x hx
     rcases List.mem_cons.1 hy with e | hy
     ·have:k=j:=by omega
      subst this
      rw [hk1] at hf;cases hf
     ·obtain ⟨j',e,_,ht⟩:=a6 _ hy
      have:j'=j:=by omega
      subst this
      rw [ht] at hf;cases hf
   ·intro x hx
    rcases List.mem_append.1 hx with hx | hx
    ·obtain ⟨j,rfl,hf,ht⟩:=b6 x hx
     refine ⟨j,rfl,down j ?_ hf,ht⟩
     have:=(List.getElem?_eq_some_iff.1 hf).1
     rw [a1,List.length_set] at this;exact this
    ·rcases List.mem_cons.1 hx with rfl | hx
     ·exact ⟨k,rfl,h1,b2 k hk1⟩
     ·obtain ⟨j,rfl,hf,ht⟩:=a6 x hx
      refine ⟨j,rfl,?_,b2 j ht⟩
      rw [set_get hk] at hf
      split at hf
      ·cases hf
      ·exact hf
   ·intro j hj
    rcases b7 j hj with h | h
    ·rcases a7 j h with h | h
     ·rw [set_get hk] at h
      split at h
      ·rename_i e;subst e;right;simp
      ·exact .inl h
     ·right;simp [h]
    ·right;simp [h]
theorem dfs_ex (N:List (List Int)) (hN:∀ r∈N,∀ x∈r,0≤x∧x < (N.length:Int)):∀ (c:Nat) (r:List Int) (s:List Bool) (l:List Int),cntF s≤c→s.length=N.length→(∀ x∈r,0≤x∧x < (N.length:Int))→∃ s' l',Dfs N r s l s' l':=by
 intro c
 induction c with
 | zero=>
   intro r
   induction r with
   | nil=>intro s l _ _ _;exact ⟨s,l,.nil s l⟩
   | cons x r ih=>
     intro s l hc hl hr
     obtain ⟨k,rfl⟩:=Int.eq_ofNat_of_zero_le (hr x List.mem_cons_self).1
     have hk:k < s.length:=by have:=(hr _ List.mem_cons_self).2;omega
     cases hb:s[k] with
     | true=>
       obtain ⟨s',l',h⟩:=ih s l hc hl fun x hx=>hr x (List.mem_cons_of_mem _ hx)
       exact ⟨s',l',.skip k r s l s' l' (by rw [List.getElem?_eq_getElem hk,hb]) h⟩
     | false=>
       have:=cntF_set s k (by rw [List.getElem?_eq_getElem hk,hb])
       omega
 | succ c ihc=>
   intro r
   induction r with
   | nil=>intro s l _ _ _;exact ⟨s,l,.nil s l⟩
   | cons x r ih=>
     intro s l hc hl hr
     obtain ⟨k,rfl⟩:=Int.eq_ofNat_of_zero_le (hr x List.mem_cons_self).1
     have hk:k < s.length:=by have:=(hr _ List.mem_cons_self).2;omega
     cases hb:s[k] with
     | true=>
       obtain ⟨s',l',h⟩:=ih s l hc hl fun x hx=>hr x (List.mem_cons_of_mem _ hx)
       exact ⟨s',l',.skip k r s l s' l' (by rw [List.getElem?_eq_getElem hk,hb]) h⟩
     | false=>
       have h0:s[k]?=some false:=by rw [List.getElem?_eq_getElem hk,hb]
       have hcn:=cntF_set s k h0
       obtain ⟨s1,l1,h1⟩:=ihc (N.getD k []) (s.set k true) l (by omega) (by rw [List.length_set];exact hl) (hN _ (getD_mem (by omega)))
       have kp:=dfs_keep h1
       obtain ⟨s',l',h2⟩:=ih s1 ((k:Int) :: l1) (by have:=kp.cnt;omega) (by rw [kp.len,List.length_set];exact hl) fun x hx=>hr x (List.mem_cons_of_mem _ hx)
       exact ⟨s',l',.go k r s l s1 l1 s' l' h0 h1 h2⟩
theorem dfs_all {N:List (List Int)} {r:List Int} {s:List Bool} {l:List Int} {s':List Bool} {l':List Int} (h:Dfs N r s l s' l'):∀ k:Nat,(k:Int)∈r→s'[k]?=some true:=by
 induction h with
 | nil s l=>intro k hk;cases hk
 | skip k r s l s' l' h1 h2 ih=>
   intro j hj
   rcases List.mem_cons.1 hj with e | hj
   ·have:j=k:=by omega
    subst this
    exact (dfs_keep h2).mono j h1
   ·exact ih j hj
 | go k r s l s1 l1 s' l' h1 h2 h3 ih1 ih2=>
   intro j hj
   rcases List.mem_cons.1 hj with e | hj
   ·have:j=k:=by omega
    subst this
    exact (dfs_keep h3).mono j ((dfs_keep h2).mono j (by rw [set_get (List.getElem?_eq_some_iff.1 h1).1,if_pos rfl]))
   ·exact ih2 j hj
theorem dfs_order {N:List (List Int)} {r:List Int} {s:List Bool} {l:List Int} {s':List Bool} {l':List Int} (h:Dfs N r s l s' l'):∀ (i:Nat),i < N.length→s.length=N.length→(∀ x∈r,x∈N.getD i [])→
 (∀ x:Nat,s[x]?=some true→(x:Int)∈l∨Rch N [(x:Int)] i)→
 (∀ x:Nat,s'[x]?=some true→(x:Int)∈l'∨Rch N [(x:Int)] i)∧∃ p,l'=p ++ l∧(∀ (a b:List Int) (v w:Nat),p=a ++ (v:Int) :: b→(w:Int)∈N.getD v []→w < N.length→(w:Int)∈b ++ l∨Rch N [(w:Int)] v)∧∀ x∈p,∃ k:Nat,x=k∧Rch N [(i:Int)] k:=by
 induction h with
 | nil s l=>intro i _ _ _ hs;exact ⟨hs,[],rfl,fun a b v w e=>by simp at e,fun x hx=>(List.not_mem_nil hx).elim⟩
 | skip k r s l s' l' h1 h2 ih=>intro i hi hl hr hs;exact ih i hi hl (fun x hx=>hr x (List.mem_cons_of_mem _ hx)) hs
 | go k r s l s1 l1 s' l' h1 h2 h3 ih1 ih2=>
   intro i hi hl hr hs
   have hk:k < s.length:=(List.getElem?_eq_some_iff.1 h1).1
   have hkN:k < N.length:=by omega
   have hik:Rch N [(i:Int)] k:=.step i k (.base i (List.mem_singleton.2 rfl) hi) (hr _ List.mem_cons_self) hkN
   have hto:∀ x:Nat,Rch N [(x:Int)] i→Rch N [(x:Int)] k:=fun x hx=>rch_trans hx hik
   obtain ⟨a1,p,a2,a3,a4⟩:=ih1 k hkN (by rw [List.length_set];exact hl) (fun x hx=>hx) (fun x hx=>by
    rw [set_get hk] at hx
    split at hx
    ·rename_i e;subst e;exact .inr (.base k (List.mem_singleton.2 rfl) hkN)
    ·rcases hs x hx with h | h
     ·exact .inl h
     ·exact .inr (hto x h))
   have k1:=dfs_keep h2
   obtain ⟨q0,e0,_,_,k7⟩:=k1.new
   have hq0:q0=p:=by
    have:q0 ++ l=p ++ l:=by rw [← e0,a2]
    exact List.append_cancel_right this
   obtain ⟨b1,q,b2,b3,b4⟩:=ih2 i hi (by rw [k1.len,List.length_set];exact hl) (fun x hx=>hr x (List.mem_cons_of_mem _ hx)) (fun x hx=>by
    rcases k7 x hx with h | h
    ·rw [set_get hk] at h
     split at h
     ·rename_i e;subst e;exact .inl List.mem_cons_self
     ·rcases hs x h with h | h
      ·left;rw [a2];simp [h]
      ·exact .inr h
    ·left;rw [a2,← hq0];simp [h])
   refine ⟨b1,q ++ (k:Int) :: p,by rw [b2,a2];simp,?_,?_⟩
   ·intro a b v w e hw hwl
    rw [List.append_eq_append_iff] at e
    rcases e with ⟨c,e1,e2⟩ | ⟨c,e1,e2⟩
    ·cases c with
     | nil=>
       rw [List.nil_append,List.cons.injEq] at e2
       obtain ⟨e2,rfl⟩:=e2
       have:v=k:=by omega
       subst this
       have hs1:=dfs_all h2 w hw
       rcases a1 w hs1 with h | h
       ·left;rw [a2] at h;exact h
       ·exact .inr h
     | cons y c=>
       rw [List.cons_append,List.cons.injEq] at e2
       rcases a3 c b v w e2.2 hw hwl with h | h
       ·exact .inl h
       ·exact .inr h
    ·cases c with
     | nil=>
       rw [List.nil_append,List.cons.injEq] at e2
       obtain ⟨e2,rfl⟩:=e2
       have:v=k:=by omega
       subst this
       have hs1:=dfs_all h2 w hw
       rcases a1 w hs1 with h | h
       ·left;rw [a2] at h;exact h
       ·exact .inr h
     | cons y c=>
       rw [List.cons_append,List.cons.injEq] at e2
       obtain ⟨e2,rfl⟩:=e2
       rcases b3 a c v w (by rw [e1,e2]) hw hwl with h | h
       ·left;rw [a2] at h;simpa using h
       ·exact .inr h
   ·intro x hx
    rcases List.mem_append.1 hx with hx | hx
    ·exact b4 x hx
    ·rcases List.mem_cons.1 hx with rfl | hx
     ·exact ⟨k,rfl,hik⟩
     ·obtain ⟨j,rfl,hj⟩:=a4 x hx
      exact ⟨j,rfl,rch_trans hik hj⟩
end Go.Proofs.Ytdmnenlpdeolaaa
set_option maxRecDepth 100000
namespace Go.Proofs.Ytdmnenlpdeolaaa
open Go.AM
def stepE (i:Nat) (s:List Bool × Bool) (w:Int):List Bool × Bool:=bif s.1.getD i false && !(s.1.getD w.toNat true) then (s.1.set w.toNat true,true) else s
def rowE (i:Nat) (r:List Int) (s:List Bool × Bool):List Bool × Bool:=r.foldl (stepE i) s
def passE:Nat→List (List Int)→List Bool × Bool→List Bool × Bool
 | _,[],s=>s
 | i,r :: N,s=>passE (i+1) N (rowE i r s)
structure PassK (G:List (List Int)) (l:List Int) (E:Nat→Int→Prop) (s s':List Bool × Bool):Prop where
 len:s'.1.length=s.1.length
 mono:∀ k:Nat,s.1[k]?=some true→s'.1[k]?=some true
 sound:(∀ k:Nat,s.1[k]?=some true→Rch G l k)→∀ k:Nat,s'.1[k]?=some true→Rch G l k
 quiet:s'.2=false→s.2=false∧s'.1=s.1∧∀ i w,E i w→s.1[i]?=some true→s.1[w.toNat]?=some true
 cnt:cntF s'.1≤cntF s.1∧(s.2=false→s'.2=true→cntF s'.1 < cntF s.1)
theorem PassK.trans {G:List (List Int)} {l:List Int} {E F:Nat→Int→Prop} {s t u:List Bool × Bool} (h:PassK G l E s t) (k:PassK G l F t u):PassK G l (fun i w=>E i w∨F i w) s u:=by
 refine ⟨k.len.trans h.len,fun j hj=>k.mono j (h.mono j hj),fun hs=>k.sound (h.sound hs),fun hq=>?_,?_,fun h1 h2=>?_⟩
 ·obtain ⟨a1,a2,a3⟩:=k.quiet hq
  obtain ⟨b1,b2,b3⟩:=h.quiet a1
  refine ⟨b1,a2.trans b2,fun i w hE hi=>?_⟩
  rcases hE with hE | hE
  ·exact b3 i w hE hi
  ·rw [b2] at a3;exact a3 i w hE hi
 ·have:=h.cnt.1;have:=k.cnt.1;omega
 ·cases ht:t.2 with
  | true=>have:=h.cnt.2 h1 ht;have:=k.cnt.1;omega
  | false=>have:=h.cnt.1;have:=k.cnt.2 ht h2;omega
theorem PassK.mono' {G:List (List Int)} {l:List Int} {E F:Nat→Int→Prop} {s t:List Bool × Bool} (h:PassK G l E s t) (hF:∀ i w,F i w→E i w):PassK G l F s t:=
 ⟨h.len,h.mono,h.sound,fun hq=>⟨(h.quiet hq).1,(h.quiet hq).2.1,fun i w hw=>(h.quiet hq).2.2 i w (hF i w hw)⟩,h.cnt⟩
theorem PassK.refl (G:List (List Int)) (l:List Int) (s:List Bool × Bool):PassK G l (fun _ _=>False) s s:=
 ⟨rfl,fun _ h=>h,fun h=>h,fun h=>⟨h,rfl,fun _ _ h=>h.elim⟩,Nat.le_refl _,fun h1 h2=>by rw [h1] at h2;cases h2⟩
theorem stepE_k (G:List (List Int)) (l:List Int) (i:Nat) (w:Int) (s:List Bool × Bool) (hs:s.1.length=G.length) (hw:0≤w∧w < G.length) (he:w∈G.getD i []):PassK G l (fun a b=>a=i∧b=w) s (stepE i s w):=by
 have hwl:w.toNat < s.1.length:=by omega
 unfold stepE
 cases hc:s.1.getD i false && !(s.1.getD w.toNat true) with
 | false=>
   rw [cond_false]
   refine ⟨rfl,fun _ h=>h,fun h=>h,fun h=>⟨h,rfl,?_⟩,Nat.le_refl _,fun h1 h2=>by rw [h1] at h2;cases h2⟩
   rintro a b ⟨rfl,rfl⟩ hi
   rw [List.getD,hi] at hc
   rw [List.getD,List.getElem?_eq_getElem hwl] at hc
   rw [List.getElem?_eq_getElem hwl]
   simpa using hc
 | true=>
   rw [cond_true]
   rw [Bool.and_eq_true,Bool.not_eq_true'] at hc
   obtain ⟨h1,h2⟩:=hc
   have hi:s.1[i]?=some true:=by
    rw [List.getD] at h1
    cases hx:s.1[i]? with
    | none=>rw [hx] at h1;cases h1
    | some b=>rw [hx] at h1;simp at h1;rw [h1]
   have hwf:s.1[w.toNat]?=some false:=by
    rw [List.getD,List.getElem?_eq_getElem hwl] at h2
    rw [List.getElem?_eq_getElem hwl]
    simpa using h2
   have hcn:=cntF_set s.1 w.toNat hwf
   refine ⟨by rw [List.length_set],fun k hk=>?_,fun hS k hk=>?_,fun h=>(by cases h),(by show cntF (s.1.set w.toNat true)≤_;omega),fun _ _=>(by show cntF (s.1.set w.toNat true) < _;omega)⟩
   ·show (s.1.set w.toNat true)[k]?=some true
    rw [set_get hwl];split <;> first | rfl | exact hk
   ·have hk:(s.1.set w.toNat true)[k]?=some true:=hk
    rw [set_get hwl] at hk
    split at hk
    ·rename_i e
     subst e
     refine .step i w.toNat (hS i hi) ?_ (by omega)
     rw [Int.toNat_of_nonneg hw.1];exact he
    ·exact hS k hk
theorem rowE_k (G:List (List Int)) (l:List Int) (i:Nat):∀ (r:List Int) (s:List Bool × Bool),s.1.length=G.length→(∀ w∈r,(0≤w∧w < (G.length:Int))∧w∈G.getD i [])→PassK G l (fun a b=>a=i∧b∈r) s (rowE i r s):=by
 intro r
 induction r with
 | nil=>intro s _ _;exact (PassK.refl G l s).mono' fun _ _ h=>(List.not_mem_nil h.2).elim
 | cons w r ih=>
   intro s hs hr
   have h1:=stepE_k G l i w s hs (hr w List.mem_cons_self).1 (hr w List.mem_cons_self).2
   refine (h1.trans (ih (stepE i s w) (by rw [h1.len,hs]) fun x hx=>hr x (List.mem_cons_of_mem _ hx))).mono' ?_
   rintro a b ⟨rfl,hb⟩
   rcases List.mem_cons.1 hb with rfl | hb
   ·exact .inl ⟨rfl,rfl⟩
   ·exact .inr ⟨rfl,hb⟩
theorem passE_k (G:List (List Int)) (l:List Int):∀ (N:List (List Int)) (i:Nat) (s:List Bool × Bool),s.1.length=G.length→(∀ (j:Nat) (r:List Int),N[j]?=some r→∀ w∈r,(0≤w∧w < (G.length:Int))∧w∈G.getD (i+j) [])→PassK G l (fun a b=>∃ j r,a=i+j∧N[j]?=some r∧b∈r) s (passE i N s):=by
 intro N
 induction N with
 | nil=>intro i s _ _;exact (PassK.refl G l s).mono' fun _ _ ⟨j,r,_,h,_⟩=>by simp at h
 | cons r N ih=>
   intro i s hs hN
   have h1:=rowE_k G l i r s hs (fun w hw=>hN 0 r rfl w hw)
   refine (h1.trans (ih (i+1) (rowE i r s) (by rw [h1.len,hs]) fun j q hq w hw=>by
    have:=hN (j+1) q (by simpa using hq) w hw
    rw [show i+(j+1)=i+1+j by omega] at this
    exact this)).mono' ?_
   rintro a b ⟨j,q,rfl,hq,hb⟩
   cases j with
   | zero=>
     simp only [List.getElem?_cons_zero,Option.some.injEq] at hq
     subst hq
     exact .inl ⟨rfl,hb⟩
   | succ j=>exact .inr ⟨j,q,by omega,by simpa using hq,hb⟩
theorem rowE_len (i:Nat):∀ (r:List Int) (s:List Bool × Bool),(rowE i r s).1.length=s.1.length:=by
 intro r
 induction r with
 | nil=>intro s;rfl
 | cons w r ih=>
   intro s
   show (rowE i r (stepE i s w)).1.length=_
   rw [ih]
   unfold stepE
   cases s.1.getD i false && !(s.1.getD w.toNat true) with
   | true=>rw [cond_true];simp only [List.length_set]
   | false=>rw [cond_false]
theorem rr_l1 (call:CallF) (base:Nat) (H1:Heap) (u:V) (N:List (List Int)) (n i:Nat) (hb:base≤H1.length) (hu:∀ ob,RdRows (H1 ++ [ob]) u (rowsV N)) (hN:N.length=n) (hin:∀ r∈N,∀ x∈r,0≤x∧x < (n:Int)) (hr:∀ r∈N,r.length < 2 ^ 40) (hi:i < n):∀ (r:List Int) (k:Nat) (B:List Bool) (m:Bool),(N.getD i []).drop k=r→k≤(N.getD i []).length→B.length=n→
 itW (evC call itW base s_f43_l1) [] (H1.length+1) (frOf 84 [(0,u),(5,.sl H1.length 0 0 n 1),(7,.s (.bool m)),(8,.s (.int .i64 i)),(9,.s (.int .i64 k))]) (H1 ++ [.cells 0 (B.map bV)])=
  some (.ext 6,frOf 84 [(0,u),(5,.sl H1.length 0 0 n 1),(7,.s (.bool (rowE i r (B,m)).2)),(8,.s (.int .i64 i)),(9,.s (.int .i64 (N.getD i []).length)),(54,.s (.bool false))],H1 ++ [.cells 0 ((rowE i r (B,m)).1.map bV)]):=by
 have ts:∀ (fr:List V) (ob:Ob),trim (H1.length+1) fr (H1 ++ [ob])=H1 ++ [ob]:=fun fr ob=>trim_same (by simp)
 have hig:N[i]?=some (N.getD i []):=by rw [List.getD,List.getElem?_eq_getElem (by omega)];rfl
 have hrl:=hr _ (getD_mem (G:=N) (k:=i) (by omega))
 intro r
 induction r with
 | nil=>
   intro k B m hd hk hB
   have hkl:=drop_nil hd hk
   obtain ⟨b,y,b1,b2,b3,b4⟩:=rows_at (hu (.cells 0 (B.map bV))) hig
   have hyl:=iV_len b3
   rw [itW_step,hkl]
   simp only [a_f43,s_f43_l0_b,s_f43_l1_b,s_f43_l2_b,s_f43_l3_b,aa,bl,i64,reduceIte,reduceCtorEq,Nat.reduceEqDiff,Nat.reduceLT,Nat.reduceLeDiff,Nat.reduceBEq,Nat.reduceAdd,fillA,splice,Nat.reduceMul,amY,op_eqP,b1,b2,hyl,Int.lt_irrefl,ts,rowE,List.foldl_nil]
 | cons w r ih=>
   intro k B m hd hk hB
   obtain ⟨hkw,hkl,hd'⟩:=drop_cons hd
   obtain ⟨b,y,b1,b2,b3,b4⟩:=rows_at (hu (.cells 0 (B.map bV))) hig
   have hyl:=iV_len b3
   have hlt':(k:Int) < ((N.getD i []).length:Int):=by omega
   have hwk:=wrap_pos (n:=k) (by omega)
   obtain ⟨c,c1,c2⟩:=iV_at b3 b4 hkw
   obtain ⟨h0,h1⟩:=hin _ (getD_mem (G:=N) (k:=i) (by omega)) w (List.mem_of_getElem? hkw)
   obtain ⟨q,rfl⟩:=Int.eq_ofNat_of_zero_le h0
   have hg:getC (H1 ++ [Ob.cells 0 (B.map bV)]) H1.length 0=some (B.map bV):=getC_new _ _ _
   have hBi:B[i]?=some (B.getD i false):=by rw [List.getD,List.getElem?_eq_getElem (by omega)];rfl
   have hBq:B[q]?=some (B.getD q true):=by rw [List.getD,List.getElem?_eq_getElem (by omega)];rfl
   obtain ⟨d1,d2⟩:=at_sl (n:=n) hg hi (w:=bV (B.getD i false)) (by rw [List.getElem?_map,hBi];rfl)
   obtain ⟨e1,e2⟩:=at_sl (n:=n) hg (show q < n by omega) (w:=bV (B.getD q true)) (by rw [List.getElem?_map,hBq];rfl)
   have st:=storeV_at (v:=bV true) (base:=base) hg hb rfl (off:=q) (by rw [List.length_map];omega)
   rw [set_snoc,← List.map_set] at st
   simp only [bV] at d2 e2 st
   have hrow:rowE i ((q:Int) :: r) (B,m)=rowE i r (stepE i (B,m) (q:Int)):=rfl
   rw [hrow,itW_step]
   unfold stepE
   simp only [Int.toNat_natCast]
   cases hx:B.getD i false with
   | false=>
     rw [hx] at d2
     have hi2:=ih (k+1) B m hd' (by omega) hB
     simp only [Bool.false_and,cond_false]
     simp only [a_f43,s_f43_l0_b,s_f43_l1_b,s_f43_l2_b,s_f43_l3_b,aa,bl,i64,reduceIte,reduceCtorEq,Nat.reduceEqDiff,Nat.reduceLT,Nat.reduceLeDiff,Nat.reduceBEq,Nat.reduceAdd,fillA,splice,Nat.reduceMul,amY,op_eqP,b1,b2,hyl,hlt',d1,d2,hwk,ts]
     exact hi2
   | true=>
     rw [hx] at d2
     cases hy:B.getD q true with
     | true=>
       rw [hy] at e2
       have hi2:=ih (k+1) B m hd' (by omega) hB
       simp only [Bool.not_true,Bool.and_false,cond_false]
       simp only [a_f43,s_f43_l0_b,s_f43_l1_b,s_f43_l2_b,s_f43_l3_b,aa,bl,i64,reduceIte,reduceCtorEq,Nat.reduceEqDiff,Nat.reduceLT,Nat.reduceLeDiff,Nat.reduceBEq,Nat.reduceAdd,fillA,splice,Nat.reduceMul,amY,op_eqP,b1,b2,hyl,hlt',d1,d2,c1,c2,e1,e2,hwk,ts]
       exact hi2
     | false=>
       rw [hy] at e2
       have hi2:=ih (k+1) (B.set q true) true hd' (by omega) (by rw [List.length_set];exact hB)
       simp only [Bool.not_false,Bool.and_true,cond_true]
       simp only [a_f43,s_f43_l0_b,s_f43_l1_b,s_f43_l2_b,s_f43_l3_b,aa,bl,i64,reduceIte,reduceCtorEq,Nat.reduceEqDiff,Nat.reduceLT,Nat.reduceLeDiff,Nat.reduceBEq,Nat.reduceAdd,fillA,splice,Nat.reduceMul,amY,op_eqP,b1,b2,hyl,hlt',d1,d2,c1,c2,e1,e2,st,hwk,ts]
       exact hi2
theorem rr_l2 (call:CallF) (base:Nat) (H1:Heap) (u:V) (N:List (List Int)) (n:Nat) (hb:base≤H1.length) (hu:∀ ob,RdRows (H1 ++ [ob]) u (rowsV N)) (hN:N.length=n) (hin:∀ r∈N,∀ x∈r,0≤x∧x < (n:Int)) (hr:∀ r∈N,r.length < 2 ^ 40) (hn:n < 2 ^ 40):∀ (M:List (List Int)) (i:Nat) (B:List Bool) (m:Bool),N.drop i=M→i≤n→B.length=n→
 itW (evC call itW base s_f43_l2) [] (H1.length+1) (frOf 84 [(0,u),(5,.sl H1.length 0 0 n 1),(7,.s (.bool m)),(8,.s (.int .i64 i))]) (H1 ++ [.cells 0 (B.map bV)])=
  some (.ext 4,frOf 84 [(0,u),(5,.sl H1.length 0 0 n 1),(7,.s (.bool (passE i M (B,m)).2)),(8,.s (.int .i64 n)),(45,.s (.bool false))],H1 ++ [.cells 0 ((passE i M (B,m)).1.map bV)]):=by
 have ts:∀ (fr:List V) (ob:Ob),trim (H1.length+1) fr (H1 ++ [ob])=H1 ++ [ob]:=fun fr ob=>trim_same (by simp)
 have hul:=rows_lenV (hu .dead)
 rw [hN] at hul
 intro M
 induction M with
 | nil=>
   intro i B m hd hi hB
   have hil:i=n:=by rw [← hN];exact drop_nil hd (by omega)
   rw [itW_step,hil]
   simp only [a_f43,s_f43_l0_b,s_f43_l1_b,s_f43_l2_b,s_f43_l3_b,aa,bl,i64,reduceIte,reduceCtorEq,Nat.reduceEqDiff,Nat.reduceLT,Nat.reduceLeDiff,Nat.reduceBEq,Nat.reduceAdd,fillA,splice,Nat.reduceMul,amY,op_eqP,hul,Int.lt_irrefl,ts,passE]
 | cons r M ih=>
   intro i B m hd hi hB
   obtain ⟨hir,hil,hd'⟩:=drop_cons hd
   have hlt':(i:Int) < (n:Int):=by omega
   have hwk:=wrap_pos (n:=i) (by omega)
   have hgr:N.getD i []=r:=by rw [List.getD,hir];rfl
   have hin2:=rr_l1 call base H1 u N n i hb hu hN hin hr (by omega) r 0 B m (by rw [hgr];rfl) (Nat.zero_le _) hB
   have hi2:=ih (i+1) (rowE i r (B,m)).1 (rowE i r (B,m)).2 hd' (by omega) (by rw [rowE_len];exact hB)
   rw [cast0] at hin2
   have hlen1:(H1 ++ [Ob.cells 0 (B.map bV)]).length=H1.length+1:=by simp
   rw [itW_step]
   simp only [a_f43,s_f43_l0_b,s_f43_l1_b,s_f43_l2_b,s_f43_l3_b,aa,bl,i64,reduceIte,reduceCtorEq,Nat.reduceEqDiff,Nat.reduceLT,Nat.reduceLeDiff,Nat.reduceBEq,Nat.reduceAdd,fillA,splice,Nat.reduceMul,amY,op_eqP,hul,hlt',hlen1,hin2,hwk,ts,passE]
   exact hi2
theorem int_ext {H0:Heap} {v:V} {l:List Int} (h:Rd H0 v (l.map iV)) (ob:Ob):Rd (H0 ++ [ob]) v (l.map iV):=h.ext (Ext.app _ _)
end Go.Proofs.Ytdmnenlpdeolaaa
set_option maxRecDepth 100000
namespace Go.Proofs.Ytdmnenlpdeolaaa
open Go.AM
theorem rr_l3 (call:CallF) (base:Nat) (H1:Heap) (u:V) (G:List (List Int)) (l:List Int) (hb:base≤H1.length) (hu:∀ ob,RdRows (H1 ++ [ob]) u (rowsV (normG G))) (hr:∀ r∈normG G,r.length < 2 ^ 40) (hn:G.length < 2 ^ 40):∀ (c:Nat) (B:List Bool),cntF B≤c→B.length=G.length→(∀ k:Nat,B[k]?=some true→Rch G l k)→
 ∃ B':List Bool,itW (evC call itW base s_f43_l3) [8,45] (H1.length+1) (frOf 84 [(0,u),(5,.sl H1.length 0 0 G.length 1),(7,.s (.bool true))]) (H1 ++ [.cells 0 (B.map bV)])=
   some (.ext 2,frOf 84 [(0,u),(5,.sl H1.length 0 0 G.length 1),(41,.s (.bool false))],H1 ++ [.cells 0 (B'.map bV)])∧B'.length=G.length∧(∀ k:Nat,B[k]?=some true→B'[k]?=some true)∧(∀ k:Nat,B'[k]?=some true→Rch G l k)∧
   ∀ i w:Nat,(w:Int)∈(normG G).getD i []→B'[i]?=some true→B'[w]?=some true:=by
 have ts:∀ (fr:List V) (ob:Ob),trim (H1.length+1) fr (H1 ++ [ob])=H1 ++ [ob]:=fun fr ob=>trim_same (by simp)
 have hin:∀ r∈normG G,∀ x∈r,0≤x∧x < (G.length:Int):=fun r hrr x hx=>normG_in hrr hx
 intro c
 induction c with
 | zero=>
   intro B hc hB hS
   have hk:=passE_k G l (normG G) 0 (B,false) hB (fun j r hj w hw=>⟨hin r (List.mem_of_getElem? hj) w hw,by
    rw [Nat.zero_add]
    have:(normG G).getD j []=r:=by rw [List.getD,hj];rfl
    rw [← this] at hw
    exact ((normG_get G j w).1 hw).1⟩)
   have hp:=rr_l2 call base H1 u (normG G) G.length hb hu (normG_len G) hin hr hn (normG G) 0 B false rfl (Nat.zero_le _) hB
   rw [cast0] at hp
   have hq:(passE 0 (normG G) (B,false)).2=false:=by
    cases h:(passE 0 (normG G) (B,false)).2 with
    | false=>rfl
    | true=>
      have h3:=hk.cnt.2 rfl h
      have h4:cntF (passE 0 (normG G) (B,false)).1 < cntF B:=h3
      omega
   obtain ⟨_,q2,q3⟩:=hk.quiet hq
   have q2:(passE 0 (normG G) (B,false)).1=B:=q2
   rw [hq,q2] at hp
   have hlen1:(H1 ++ [Ob.cells 0 (B.map bV)]).length=H1.length+1:=by simp
   refine ⟨B,?_,hB,fun _ h=>h,hS,fun i w hw hi=>?_⟩
   ·rw [itW_step]
    simp only [a_f43,s_f43_l0_b,s_f43_l1_b,s_f43_l2_b,s_f43_l3_b,aa,bl,i64,reduceIte,reduceCtorEq,Nat.reduceEqDiff,Nat.reduceLT,Nat.reduceLeDiff,Nat.reduceBEq,Nat.reduceAdd,fillA,splice,Nat.reduceMul,amY,op_eqP,hlen1,hp,ts]
    rw [itW_step]
    simp only [a_f43,s_f43_l0_b,s_f43_l1_b,s_f43_l2_b,s_f43_l3_b,aa,bl,i64,reduceIte,reduceCtorEq,Nat.reduceEqDiff,Nat.reduceLT,Nat.reduceLeDiff,Nat.reduceBEq,Nat.reduceAdd,fillA,splice,Nat.reduceMul,amY,op_eqP,ts]
   ·have hil:(normG G)[i]?=some ((normG G).getD i []):=by
     have:i < (normG G).length:=by
      have:=(List.getElem?_eq_some_iff.1 hi).1
      rw [normG_len];omega
     rw [List.getD,List.getElem?_eq_getElem this];rfl
    have:=q3 i w ⟨i,_,by omega,hil,hw⟩ hi
    simpa using this
 | succ c ih=>
   intro B hc hB hS
   have hk:=passE_k G l (normG G) 0 (B,false) hB (fun j r hj w hw=>⟨hin r (List.mem_of_getElem? hj) w hw,by
    rw [Nat.zero_add]
    have:(normG G).getD j []=r:=by rw [List.getD,hj];rfl
    rw [← this] at hw
    exact ((normG_get G j w).1 hw).1⟩)
   have hp:=rr_l2 call base H1 u (normG G) G.length hb hu (normG_len G) hin hr hn (normG G) 0 B false rfl (Nat.zero_le _) hB
   rw [cast0] at hp
   have hlen1:(H1 ++ [Ob.cells 0 (B.map bV)]).length=H1.length+1:=by simp
   cases hq:(passE 0 (normG G) (B,false)).2 with
   | false=>
     obtain ⟨_,q2,q3⟩:=hk.quiet hq
     have q2:(passE 0 (normG G) (B,false)).1=B:=q2
     rw [hq,q2] at hp
     refine ⟨B,?_,hB,fun _ h=>h,hS,fun i w hw hi=>?_⟩
     ·rw [itW_step]
      simp only [a_f43,s_f43_l0_b,s_f43_l1_b,s_f43_l2_b,s_f43_l3_b,aa,bl,i64,reduceIte,reduceCtorEq,Nat.reduceEqDiff,Nat.reduceLT,Nat.reduceLeDiff,Nat.reduceBEq,Nat.reduceAdd,fillA,splice,Nat.reduceMul,amY,op_eqP,hlen1,hp,ts]
      rw [itW_step]
      simp only [a_f43,s_f43_l0_b,s_f43_l1_b,s_f43_l2_b,s_f43_l3_b,aa,bl,i64,reduceIte,reduceCtorEq,Nat.reduceEqDiff,Nat.reduceLT,Nat.reduceLeDiff,Nat.reduceBEq,Nat.reduceAdd,fillA,splice,Nat.reduceMul,amY,op_eqP,ts]
     ·have hil:(normG G)[i]?=some ((normG G).getD i []):=by
       have:i < (normG G).length:=by
        have:=(List.getElem?_eq_some_iff.1 hi).1
        rw [normG_len];omega
       rw [List.getD,List.getElem?_eq_getElem this];rfl
      have:=q3 i w ⟨i,_,by omega,hil,hw⟩ hi
      simpa using this
   | true=>
     have h4:cntF (passE 0 (normG G) (B,false)).1 < cntF B:=hk.cnt.2 rfl hq
     rw [hq] at hp
     have hl2:(passE 0 (normG G) (B,false)).1.length=G.length:=hk.len.trans hB
     obtain ⟨B',e1,e2,e3,e4,e5⟩:=ih _ (by omega) hl2 (hk.sound hS)
     refine ⟨B',?_,e2,fun k hk2=>e3 k (hk.mono k hk2),e4,e5⟩
     rw [itW_step]
     simp only [a_f43,s_f43_l0_b,s_f43_l1_b,s_f43_l2_b,s_f43_l3_b,aa,bl,i64,reduceIte,reduceCtorEq,Nat.reduceEqDiff,Nat.reduceLT,Nat.reduceLeDiff,Nat.reduceBEq,Nat.reduceAdd,fillA,splice,Nat.reduceMul,amY,op_eqP,hlen1,hp,ts]
     exact e1
def markZ (n:Nat) (B:List Bool) (k:Int):List Bool:=bif decide (k ≥ 0) && decide (k < (n:Int)) then B.set k.toNat true else B
theorem markZ_len (n:Nat):∀ (l:List Int) (B:List Bool),(l.foldl (markZ n) B).length=B.length:=by
 intro l
 induction l with
 | nil=>intro B;rfl
 | cons x l ih=>
   intro B
   rw [List.foldl_cons,ih]
   unfold markZ
   cases decide (x ≥ 0) && decide (x < (n:Int)) with
   | true=>rw [cond_true,List.length_set]
   | false=>rw [cond_false]
theorem markZ_get (n:Nat):∀ (l:List Int) (B:List Bool),B.length=n→∀ k:Nat,(l.foldl (markZ n) B)[k]?=some true↔B[k]?=some true∨((k:Int)∈l∧k < n):=by
 intro l
 induction l with
 | nil=>intro B _ k;simp
 | cons x l ih=>
   intro B hB k
   have hl:(markZ n B x).length=n:=by
    have:=markZ_len n [x] B
    rw [hB] at this;exact this
   rw [List.foldl_cons,ih (markZ n B x) hl k]
   have key:(markZ n B x)[k]?=some true↔B[k]?=some true∨(x=k∧k < n):=by
    unfold markZ
    by_cases hx:x ≥ 0∧x < (n:Int)
    ·have hd:(decide (x ≥ 0) && decide (x < (n:Int)))=true:=by simp [hx.1,hx.2]
     have hxl:x.toNat < B.length:=by omega
     rw [hd,cond_true,set_get hxl]
     by_cases e:x.toNat=k
     ·rw [if_pos e]
      constructor
      ·intro _;right;omega
      ·intro _;rfl
     ·rw [if_neg e]
      constructor
      ·exact .inl
      ·rintro (h | h)
       ·exact h
       ·omega
    ·have hd:(decide (x ≥ 0) && decide (x < (n:Int)))=false:=by
      rw [Bool.and_eq_false_iff,decide_eq_false_iff_not,decide_eq_false_iff_not]
      by_cases h0:x ≥ 0
      ·exact .inr fun h=>hx ⟨h0,h⟩
      ·exact .inl h0
     rw [hd,cond_false]
     constructor
     ·exact .inl
     ·rintro (h | h)
      ·exact h
      ·omega
   rw [key,List.mem_cons]
   constructor
   ·rintro ((h | h) | h)
    ·exact .inl h
    ·exact .inr ⟨.inl h.1.symm,h.2⟩
    ·exact .inr ⟨.inr h.1,h.2⟩
   ·rintro (h | ⟨h | h,h2⟩)
    ·exact .inl (.inl h)
    ·exact .inl (.inr ⟨h.symm,h2⟩)
    ·exact .inr ⟨h,h2⟩
theorem rr_l0 (call:CallF) (base:Nat) (H1:Heap) (u fv:V) (n:Nat) (l:List Int) (hb:base≤H1.length) (hul:∀ H,xLen H .s u=some (.s (.int .i64 n))) (hf:Rd H1 fv (l.map iV)) (hfw:Wide1 fv) (hl:l.length < 2 ^ 62):∀ (r:List Int) (k:Nat) (B:List Bool),l.drop k=r→k≤l.length→B.length=n→
 itW (evC call itW base s_f43_l0) [] (H1.length+1) (frOf 84 [(0,u),(1,fv),(5,.sl H1.length 0 0 n 1),(6,.s (.int .i64 k))]) (H1 ++ [.cells 0 (B.map bV)])=
  some (.ext 0,frOf 84 [(0,u),(1,fv),(5,.sl H1.length 0 0 n 1),(6,.s (.int .i64 l.length)),(18,.s (.bool false))],H1 ++ [.cells 0 ((r.foldl (markZ n) B).map bV)]):=by
 have ts:∀ (fr:List V) (ob:Ob),trim (H1.length+1) fr (H1 ++ [ob])=H1 ++ [ob]:=fun fr ob=>trim_same (by simp)
 have hfl:=fun ob=>iV_len (int_ext hf ob)
 intro r
 induction r with
 | nil=>
   intro k B hd hk hB
   have hkl:=drop_nil hd hk
   rw [itW_step,hkl]
   simp only [a_f43,s_f43_l0_b,s_f43_l1_b,s_f43_l2_b,s_f43_l3_b,aa,bl,i64,reduceIte,reduceCtorEq,Nat.reduceEqDiff,Nat.reduceLT,Nat.reduceLeDiff,Nat.reduceBEq,Nat.reduceAdd,fillA,splice,Nat.reduceMul,amY,op_eqP,hfl,Int.lt_irrefl,ts,List.foldl_nil]
 | cons w r ih=>
   intro k B hd hk hB
   obtain ⟨hkw,hkl,hd'⟩:=drop_cons hd
   have hlt':(k:Int) < (l.length:Int):=by omega
   have hwk:=wrap_pos (n:=k) (by omega)
   obtain ⟨c,c1,c2⟩:=iV_at (int_ext hf (.cells 0 (B.map bV))) hfw hkw
   rw [itW_step,List.foldl_cons]
   unfold markZ
   by_cases h0:0≤w
   ·by_cases h1:w < (n:Int)
    ·obtain ⟨q,rfl⟩:=Int.eq_ofNat_of_zero_le h0
     have hg:getC (H1 ++ [Ob.cells 0 (B.map bV)]) H1.length 0=some (B.map bV):=getC_new _ _ _
     have hBq:B[q]?=some (B.getD q true):=by rw [List.getD,List.getElem?_eq_getElem (by omega)];rfl
     obtain ⟨e1,_⟩:=at_sl (n:=n) hg (show q < n by omega) (w:=bV (B.getD q true)) (by rw [List.getElem?_map,hBq];rfl)
     have st:=storeV_at (v:=bV true) (base:=base) hg hb rfl (off:=q) (by rw [List.length_map];omega)
     rw [set_snoc,← List.map_set] at st
     have hi2:=ih (k+1) (B.set q true) hd' (by omega) (by rw [List.length_set];exact hB)
     simp only [bV] at st
     simp only [ge_iff_le,h0,h1,decide_true,Bool.and_true,cond_true,Int.toNat_natCast]
     simp only [a_f43,s_f43_l0_b,s_f43_l1_b,s_f43_l2_b,s_f43_l3_b,aa,bl,i64,reduceIte,reduceCtorEq,Nat.reduceEqDiff,Nat.reduceLT,Nat.reduceLeDiff,Nat.reduceBEq,Nat.reduceAdd,fillA,splice,Nat.reduceMul,amY,op_eqP,hfl,hul,hlt',c1,c2,ge_iff_le,h0,h1,e1,st,hwk,ts]
     exact hi2
    ·have hi2:=ih (k+1) B hd' (by omega) hB
     simp only [ge_iff_le,h0,h1,decide_true,decide_false,Bool.and_false,cond_false]
     simp only [a_f43,s_f43_l0_b,s_f43_l1_b,s_f43_l2_b,s_f43_l3_b,aa,bl,i64,reduceIte,reduceCtorEq,Nat.reduceEqDiff,Nat.reduceLT,Nat.reduceLeDiff,Nat.reduceBEq,Nat.reduceAdd,fillA,splice,Nat.reduceMul,amY,op_eqP,hfl,hul,hlt',c1,c2,ge_iff_le,h0,h1,hwk,ts]
     exact hi2
   ·have hi2:=ih (k+1) B hd' (by omega) hB
    simp only [ge_iff_le,h0,decide_false,Bool.false_and,cond_false]
    simp only [a_f43,s_f43_l0_b,s_f43_l1_b,s_f43_l2_b,s_f43_l3_b,aa,bl,i64,reduceIte,reduceCtorEq,Nat.reduceEqDiff,Nat.reduceLT,Nat.reduceLeDiff,Nat.reduceBEq,Nat.reduceAdd,fillA,splice,Nat.reduceMul,amY,op_eqP,hfl,hul,hlt',c1,c2,ge_iff_le,h0,hwk,ts]
    exact hi2
end Go.Proofs.Ytdmnenlpdeolaaa
set_option maxRecDepth 100000
namespace Go.Proofs.Ytdmnenlpdeolaaa
open Go.AM
end Go.Proofs.Ytdmnenlpdeolaaa
set_option maxRecDepth 100000
namespace Go.Proofs.Ytdmnenlpdeolaaa
open Go.AM
def Tur (c c':List V) (n i:Nat):Prop:=c'.length=c.length∧∀ x,c'[x]?=if x < n∧(x < i∨n≤x+i) then c[n - 1 - x]? else c[x]?
theorem tur_start (c:List V) (n:Nat):Tur c c n 0:=⟨rfl,fun x=>by rw [if_neg];omega⟩
theorem tur_step {c c':List V} {n i:Nat} (h:Tur c c' n i) (hn:n≤c.length) (hi:i+i+1 < n) (a b:V) (ha:c'[n - 1 - i]?=some a) (hb:c'[i]?=some b):Tur c ((c'.set i a).set (n - 1 - i) b) n (i+1):=by
 obtain ⟨h1,h2⟩:=h
 refine ⟨by rw [List.length_set,List.length_set,h1],fun x=>?_⟩
 have ea:=h2 (n - 1 - i)
 have eb:=h2 i
 rw [ha,if_neg (by omega)] at ea
 rw [hb,if_neg (by omega)] at eb
 by_cases c1:n - 1 - i=x
 ·subst c1
  rw [List.getElem?_set_self (by rw [List.length_set,h1];omega),if_pos (by omega),eb]
  congr 1;omega
 ·rw [List.getElem?_set_ne c1]
  by_cases c2:i=x
  ·subst c2
   rw [List.getElem?_set_self (by rw [h1];omega),if_pos (by omega),ea]
  ·rw [List.getElem?_set_ne c2,h2 x]
   by_cases c3:x < n∧(x < i∨n≤x+i)
   ·rw [if_pos c3,if_pos (by omega)]
   ·rw [if_neg c3,if_neg (by omega)]
theorem tur_end {c c':List V} {n i:Nat} (h:Tur c c' n i) (hn:n≤c.length) (hi:n≤i+i+1):c'.take n=(c.take n).reverse:=by
 obtain ⟨h1,h2⟩:=h
 refine List.ext_getElem? fun x=>?_
 by_cases hx:x < n
 ·rw [List.getElem?_take_of_lt hx,List.getElem?_reverse (by rw [List.length_take];omega),List.length_take,Nat.min_eq_left hn,List.getElem?_take_of_lt (by omega),h2 x]
  by_cases c3:x < i∨n≤x+i
  ·rw [if_pos ⟨hx,c3⟩]
  ·rw [if_neg (by omega)]
   congr 1;omega
 ·rw [List.getElem?_eq_none (by rw [List.length_take];omega),List.getElem?_eq_none (by rw [List.length_reverse,List.length_take];omega)]
theorem rev_loop (call:CallF) (base:Nat) (id g n:Nat) (c:List V) (H:Heap) (hc:getC H id g=some c) (hn:n≤c.length) (hb:base≤id) (hone:∀ x∈c,x.one=true) (hsm:n < 2 ^ 60):∀ (d i:Nat) (c':List V),n≤d+(i+i)→i≤n→Tur c c' n i→(∀ x∈c',x.one=true)→
 ∃ c2 i2 j2,itW (evC call itW base s_f42_l0) [] H.length (frOf 28 [(0,.sl id g 0 n 1),(2,.s (.int .i64 i)),(3,.s (.int .i64 ((n:Int) - 1 - i)))]) (H.set id (.cells g c'))=some (.ext 0,frOf 28 [(0,.sl id g 0 n 1),(2,.s (.int .i64 i2)),(3,.s (.int .i64 j2)),(9,.s (.bool false))],H.set id (.cells g c2))∧c2.length=c.length∧c2.take n=(c.take n).reverse:=by
 have tsm:∀ fr c',trim H.length fr (H.set id (.cells g c'))=H.set id (.cells g c'):=fun fr c'=>trim_same (by simp)
 intro d
 induction d using Nat.strongRecOn with
 | ind d ih=>
   intro i c' hd hin ht ho
   by_cases hlt:(i:Int) < (n:Int) - 1 - i
   ·have hi:i+i+1 < n:=by omega
    have hl:c'.length=c.length:=ht.1
    have hk:((n:Int) - 1 - i)=((n - 1 - i:Nat):Int):=by omega
    have hg:getC (H.set id (.cells g c')) id g=some c':=getC_put hc
    obtain ⟨a1,a2⟩:=at_sl (n:=n) hg (j:=n - 1 - i) (by omega) (List.getElem?_eq_getElem (by omega))
    obtain ⟨b1,b2⟩:=at_sl (n:=n) hg (j:=i) (by omega) (List.getElem?_eq_getElem (by omega))
    have st1:=storeV_at (v:=c'[n - 1 - i]) (base:=base) hg hb (ho _ (List.getElem_mem _)) (off:=i) (by omega)
    rw [set_set'] at st1
    have hg2:getC (H.set id (.cells g (c'.set i c'[n - 1 - i]))) id g=some (c'.set i c'[n - 1 - i]):=getC_put hc
    have st2:=storeV_at (v:=c'[i]) (base:=base) hg2 hb (ho _ (List.getElem_mem _)) (off:=n - 1 - i) (by rw [List.length_set];omega)
    rw [set_set'] at st2
    have w1:=wrap_pos (n:=i) (by omega)
    have w2:IntKind.i64.wrap (((n - 1 - i:Nat):Int) - 1)=(n:Int) - 1 - ((i+1:Nat):Int):=by rw [IntKind.wrap_i64];omega
    obtain ⟨c2,i2,j2,e1,e2⟩:=ih (d - 1) (by omega) (i+1) ((c'.set i c'[n - 1 - i]).set (n - 1 - i) c'[i]) (by omega) (by omega) (tur_step ht hn hi _ _ (List.getElem?_eq_getElem (by omega)) (List.getElem?_eq_getElem (by omega))) (fun x hx=>by
     rcases List.mem_or_eq_of_mem_set hx with hx | rfl
     ·rcases List.mem_or_eq_of_mem_set hx with hx | rfl
      ·exact ho x hx
      ·exact ho _ (List.getElem_mem _)
     ·exact ho _ (List.getElem_mem _))
    refine ⟨c2,i2,j2,?_,e2⟩
    rw [hk] at hlt ⊢
    rw [itW_step]
    simp only [a_f42,s_f42_l0_b,aa,bl,i64,reduceIte,reduceCtorEq,Nat.reduceEqDiff,Nat.reduceLT,Nat.reduceLeDiff,Nat.reduceBEq,Nat.reduceAdd,fillA,splice,Nat.reduceMul,amY,op_eqP,hlt,a1,a2,b1,b2,st1,st2,w1,w2,tsm]
    exact e1
   ·refine ⟨c',i,(n:Int) - 1 - i,?_,ht.1,tur_end ht hn (by omega)⟩
    rw [itW_step]
    simp only [a_f42,s_f42_l0_b,aa,bl,i64,reduceIte,reduceCtorEq,Nat.reduceEqDiff,Nat.reduceLT,Nat.reduceLeDiff,Nat.reduceBEq,Nat.reduceAdd,fillA,splice,Nat.reduceMul,amY,op_eqP,hlt,tsm]
theorem reverse_fun {CT:Nat→Option CFun} (hT:CT k_f42=some (.code s_f42)) (base m:Nat) (H:Heap) (v:V) (l:List Int) (hv:OwnN m H v (l.map iV)) (hone:∀ id g n c,v=.sl id g 0 n 1→getC H id g=some c→∀ x∈c,x.one=true) (hb:base≤m) (hn:l.length < 2 ^ 60):
 ∃ H',callW CT (.fn k_f42 [] []) [v] base H=some (.tup [],H')∧OwnN m H' v (l.reverse.map iV)∧H'.length=H.length∧∀ i,i < m→H'[i]?=H[i]?:=by
 have hw0:IntKind.i64.wrap ((l.length:Int) - 1)=(l.length:Int) - 1:=by rw [IntKind.wrap_i64];omega
 have hlen:=iV_len hv.rd
 rcases hv with ⟨h0,hv⟩ | ⟨id,g,c,rfl,hc,hl,ht,hid⟩
 ·have hl0:l=[]:=by simpa using h0
  subst hl0
  refine ⟨H,callW_fn (c:=s_f42) hT (by simp [s_f42]) ?_,.inl ⟨rfl,hv⟩,rfl,fun _ _=>rfl⟩
  have hlt:¬ (0:Int) < IntKind.i64.wrap (((0:Nat):Int) - 1):=by rw [IntKind.wrap_i64];omega
  simp only [List.length_nil] at hlen hw0
  simp only [s_f42,a_f42,s_f42_l0_b,aa,bl,i64,reduceIte,reduceCtorEq,Nat.reduceEqDiff,Nat.reduceLT,Nat.reduceLeDiff,Nat.reduceBEq,Nat.reduceAdd,fillA,splice,Nat.reduceMul,amY,op_eqP,hlen,hw0]
  rw [itW_step]
  simp only [a_f42,s_f42_l0_b,aa,bl,i64,reduceIte,reduceCtorEq,Nat.reduceEqDiff,Nat.reduceLT,Nat.reduceLeDiff,Nat.reduceBEq,Nat.reduceAdd,fillA,splice,Nat.reduceMul,amY,op_eqP,res_nil,trim_same rfl]
  rfl
 ·have hll:(l.map iV).length=l.length:=List.length_map ..
  rw [hll] at hl ht hlen hone ⊢
  obtain ⟨c2,i2,j2,e1,e2,e3⟩:=rev_loop (callW CT) base id g l.length c H hc hl (by omega) (hone id g _ c rfl hc) hn l.length 0 c (by omega) (by omega) (tur_start _ _) (hone id g _ c rfl hc)
  rw [getC_same hc] at e1
  have hz:(l.length:Int) - 1 - ((0:Nat):Int)=(l.length:Int) - 1:=by omega
  rw [hz,cast0] at e1
  refine ⟨H.set id (.cells g c2),callW_fn (c:=s_f42) hT (by simp [s_f42]) ?_,.inr ⟨id,g,c2,by simp,getC_put hc,by simp;omega,?_,hid⟩,by simp,fun i hi=>by rw [List.getElem?_set_ne (by omega)]⟩
  ·simp only [s_f42,a_f42,s_f42_l0_b,aa,bl,i64,reduceIte,reduceCtorEq,Nat.reduceEqDiff,Nat.reduceLT,Nat.reduceLeDiff,Nat.reduceBEq,Nat.reduceAdd,fillA,splice,Nat.reduceMul,amY,op_eqP,hlen,hw0,e1,res_nil]
  ·rw [List.length_map,List.length_reverse,e3,ht,List.map_reverse]
end Go.Proofs.Ytdmnenlpdeolaaa
set_option maxRecDepth 100000
namespace Go.AM
theorem own_append {m base bytes:Nat} {H:Heap} {v x:V} {l:List V} (h:OwnN m H v l) (hb:base≤m) (hx:x.one=true) (hm:m≤H.length) (hs:(l.length+1) * bytes≤2 ^ 47) (ho:∀ id g n c,v=.sl id g 0 n 1→getC H id g=some c→∀ x∈c,x.one=true):
 ∃ v' H',appendV (H ++ [.cells 0 [x]]) base 1 bytes v (.sl H.length 0 0 1 1)=some (v',H')∧OwnN m H' v' (l ++ [x])∧H.length≤H'.length∧(∀ i,i < H.length→(∀ g n,v≠.sl i g 0 n 1)→H'[i]?=H[i]?)∧
   (∀ id g n,v'=.sl id g 0 n 1→(∃ g n,v=.sl id g 0 n 1)∨H.length≤id)∧(∀ id g n c,v'=.sl id g 0 n 1→getC H' id g=some c→∀ x∈c,x.one=true):=by
 have hx':[x].all V.one=true:=by simp [hx]
 have hnew:1 * bytes≤2 ^ 47:=by
  refine Nat.le_trans (Nat.mul_le_mul_right _ ?_) hs
  omega
 have hfr:getC (H ++ [.cells 0 [x]] ++ [.cells 0 [x]]) (H.length+1) 0=some [x]:=by
  have:=getC_new (H ++ [Ob.cells 0 [x]]) 0 [x]
  simpa using this
 have hfresh:OwnN m (H ++ [.cells 0 [x]] ++ [.cells 0 [x]]) (.sl (H.length+1) 0 0 1 1) [x]:=.inr ⟨H.length+1,0,[x],rfl,hfr,Nat.le_refl _,rfl,by omega⟩
 have hon:∀ id g n c,(V.sl (H.length+1) 0 0 1 1)=.sl id g 0 n 1→getC (H ++ [.cells 0 [x]] ++ [.cells 0 [x]]) id g=some c→∀ x∈c,x.one=true:=by
  intro id g n c e hc y hy
  cases e
  rw [hfr] at hc
  cases hc
  rw [List.mem_singleton] at hy
  subst hy;exact hx
 have app:∀ i,i < H.length→(H ++ [Ob.cells 0 [x]] ++ [Ob.cells 0 [x]])[i]?=H[i]?:=fun i hi=>by
  rw [List.getElem?_append_left (by simp;omega),List.getElem?_append_left (by omega)]
 rcases h with ⟨rfl,rfl | rfl⟩ | ⟨id,g,c,rfl,hc,hl,ht,hid⟩
 ·refine ⟨.sl (H.length+1) 0 0 1 1,H ++ [.cells 0 [x]] ++ [.cells 0 [x]],?_,hfresh,by simp,fun i hi _=>app i hi,fun id g n e=>(by cases e;right;omega),hon⟩
  simp only [appendV,elems_new,hx',if_true,nilS,Nat.one_ne_zero,if_false,hnew,List.length_append,List.length_cons,List.length_nil]
 ·refine ⟨.sl (H.length+1) 0 0 1 1,H ++ [.cells 0 [x]] ++ [.cells 0 [x]],?_,hfresh,by simp,fun i hi _=>app i hi,fun id g n e=>(by cases e;right;omega),hon⟩
  simp only [appendV,elems_new,hx',if_true,Nat.one_ne_zero,if_false,hnew,List.length_append,List.length_cons,List.length_nil]
 ·have hc':=getC_app hc (G:=[Ob.cells 0 [x]])
  have hbi:base≤id:=by omega
  have h2:0+l.length≤c.length:=by omega
  refine ⟨.sl id (g+1) 0 (l.length+1) 1,(H ++ [Ob.cells 0 [x]]).set id (.cells (g+1) (l ++ [x])),?_,.inr ⟨id,g+1,l ++ [x],by simp,getC_set hc' _,Nat.le_refl _,List.take_length,hid⟩,by simp,fun i hi hne=>?_,fun i g' n e=>(by cases e;exact .inl ⟨_,_,rfl⟩),fun i g' n c2 e hc2 y hy=>?_⟩
  ·simp only [appendV,elems_new,hx',if_true,true_and,hbi,hc',h2,Nat.one_ne_zero,if_false,hs,List.drop_zero,Nat.mul_one,ht]
  ·rw [List.getElem?_set_ne (fun e=>hne g l.length (by rw [e])),List.getElem?_append_left (by omega)]
  ·cases e
   rw [getC_set hc' _] at hc2
   cases hc2
   rcases List.mem_append.1 hy with hy | hy
   ·refine ho _ _ _ _ rfl hc y ?_
    rw [← ht] at hy
    exact List.mem_of_mem_take hy
   ·rw [List.mem_singleton] at hy
    subst hy;exact hx
theorem OwnN.keep {m:Nat} {H H':Heap} {v:V} {l:List V} (h:OwnN m H v l) (hk:∀ i g n,v=.sl i g 0 n 1→i < H.length→H'[i]?=H[i]?):OwnN m H' v l:=by
 rcases h with h | ⟨id,g,c,rfl,hc,h2,h3,h4⟩
 ·exact .inl h
 ·refine .inr ⟨id,g,c,rfl,?_,h2,h3,h4⟩
  simp only [getC] at hc ⊢
  rw [hk id g _ rfl (getC_lt hc)];exact hc
theorem getC_keep {H H':Heap} {i g:Nat} (h:H'[i]?=H[i]?):getC H' i g=getC H i g:=by simp only [getC,h]
theorem OwnN.ge {m:Nat} {H:Heap} {v:V} {l:List V} (h:OwnN m H v l):∀ i g n,v=.sl i g 0 n 1→m≤i:=by
 intro i g n e
 rcases h with ⟨_,h | h⟩ | ⟨id,g,c,e2,_,_,_,h4⟩
 ·rw [h] at e;cases e
 ·rw [h] at e;cases e
 ·rw [e2] at e;cases e;exact h4
theorem OwnN.lt {m:Nat} {H:Heap} {v:V} {l:List V} (h:OwnN m H v l):∀ i g n,v=.sl i g 0 n 1→i < H.length:=by
 intro i g n e
 rcases h with ⟨_,h | h⟩ | ⟨id,g,c,e2,hc,_,_,_⟩
 ·rw [h] at e;cases e
 ·rw [h] at e;cases e
 ·rw [e2] at e;cases e;exact getC_lt hc
end Go.AM
namespace Go.Proofs.Ytdmnenlpdeolaaa
open Go.AM
structure PS (h n:Nat) (H0 H:Heap) (B:List Bool) (W Lf:List Int) (wv lv:V):Prop where
 h0:H0.length=h
 ext:Ext H0 H
 seen:getC H h 0=some (B.map bV)
 box:getC H (h+1) 0=some [.sl h 0 0 n 1]
 len:B.length=n
 way:OwnN (h+2) H wv (W.map iV)
 left:OwnN (h+2) H lv (Lf.map iV)
 apart:∀ id g k id' g' k',wv=.sl id g 0 k 1→lv=.sl id' g' 0 k' 1→id≠id'
 o1:∀ id g k c,wv=.sl id g 0 k 1→getC H id g=some c→∀ x∈c,x.one=true
 o2:∀ id g k c,lv=.sl id g 0 k 1→getC H id g=some c→∀ x∈c,x.one=true
theorem PS.trim {h n L:Nat} {H0 H:Heap} {B:List Bool} {W Lf:List Int} {wv lv:V} (k:PS h n H0 H B W Lf wv lv) (hL:h+2≤L) {fr:List V} (h1:wv∈fr) (h2:lv∈fr):PS h n H0 (trim L fr H) B W Lf wv lv:=by
 refine ⟨k.h0,k.ext.trim (by have:=k.h0;omega) _,trim_get k.seen (by omega),trim_get k.box (by omega),k.len,k.way.trim_fr h1,k.left.trim_fr h2,k.apart,?_,?_⟩
 ·intro id g q c e hc
  rcases trim_or L fr H with e2 | ⟨e2,_⟩
  ·rw [e2] at hc;exact k.o1 id g q c e hc
  ·rw [e2] at hc
   refine k.o1 id g q c e ?_
   simp only [getC] at hc ⊢
   by_cases hlt:id < L
   ·rw [List.getElem?_take_of_lt hlt] at hc;exact hc
   ·rw [List.getElem?_eq_none (by rw [List.length_take];omega)] at hc;cases hc
 ·intro id g q c e hc
  rcases trim_or L fr H with e2 | ⟨e2,_⟩
  ·rw [e2] at hc;exact k.o2 id g q c e hc
  ·rw [e2] at hc
   refine k.o2 id g q c e ?_
   simp only [getC] at hc ⊢
   by_cases hlt:id < L
   ·rw [List.getElem?_take_of_lt hlt] at hc;exact hc
   ·rw [List.getElem?_eq_none (by rw [List.length_take];omega)] at hc;cases hc
theorem PS.putL {h n base:Nat} {H0 H:Heap} {B:List Bool} {W Lf:List Int} {wv lv:V} (k:PS h n H0 H B W Lf wv lv) (i:Int) (hb:base≤h) (hs:Lf.length < 2 ^ 40):∃ lv' H',appendV (H ++ [.cells 0 [iV i]]) base 1 8 lv (.sl H.length 0 0 1 1)=some (lv',H')∧PS h n H0 H' B W (Lf ++ [i]) wv lv':=by
 have hlt:=getC_lt k.box
 obtain ⟨v',H',a1,a2,a3,a4,a5,a6⟩:=own_append (x:=iV i) (base:=base) (bytes:=8) k.left (by omega) rfl (by omega) (by rw [List.length_map];omega) k.o2
 have hk:∀ j,j < h+2→H'[j]?=H[j]?:=fun j hj=>a4 j (by omega) fun g q e=>by have:=k.left.ge _ _ _ e;omega
 have hw:∀ i g q,wv=.sl i g 0 q 1→i < H.length→H'[i]?=H[i]?:=fun j g q e hj=>a4 j hj fun g' q' e'=>k.apart _ _ _ _ _ _ e e' rfl
 refine ⟨v',H',a1,k.h0,Ext.of_get (by have:=k.ext.le;omega) fun j hj=>?_,?_,?_,k.len,k.way.keep hw,by simpa using a2,?_,?_,a6⟩
 ·rw [hk j (by have:=k.h0;omega)];exact k.ext.get hj
 ·rw [getC_keep (hk h (by omega))];exact k.seen
 ·rw [getC_keep (hk (h+1) (by omega))];exact k.box
 ·intro id g q id' g' q' e e' he
  subst he
  rcases a5 _ _ _ e' with ⟨g2,n2,e2⟩ | h2
  ·exact k.apart _ _ _ _ _ _ e e2 rfl
  ·have:=k.way.lt _ _ _ e;omega
 ·intro id g q c e hc
  rw [getC_keep (hw _ _ _ e (k.way.lt _ _ _ e))] at hc
  exact k.o1 _ _ _ _ e hc
theorem PS.putW {h n base:Nat} {H0 H:Heap} {B:List Bool} {W Lf:List Int} {wv lv:V} (k:PS h n H0 H B W Lf wv lv) (i:Int) (hb:base≤h) (hs:W.length < 2 ^ 40):∃ wv' H',appendV (H ++ [.cells 0 [iV i]]) base 1 8 wv (.sl H.length 0 0 1 1)=some (wv',H')∧PS h n H0 H' B (W ++ [i]) Lf wv' lv:=by
 have hlt:=getC_lt k.box
 obtain ⟨v',H',a1,a2,a3,a4,a5,a6⟩:=own_append (x:=iV i) (base:=base) (bytes:=8) k.way (by omega) rfl (by omega) (by rw [List.length_map];omega) k.o1
 have hk:∀ j,j < h+2→H'[j]?=H[j]?:=fun j hj=>a4 j (by omega) fun g q e=>by have:=k.way.ge _ _ _ e;omega
 have hw:∀ i g q,lv=.sl i g 0 q 1→i < H.length→H'[i]?=H[i]?:=fun j g q e hj=>a4 j hj fun g' q' e'=>k.apart _ _ _ _ _ _ e' e rfl
 refine ⟨v',H',a1,k.h0,Ext.of_get (by have:=k.ext.le;omega) fun j hj=>?_,?_,?_,k.len,by simpa using a2,k.left.keep hw,?_,a6,?_⟩
 ·rw [hk j (by have:=k.h0;omega)];exact k.ext.get hj
 ·rw [getC_keep (hk h (by omega))];exact k.seen
 ·rw [getC_keep (hk (h+1) (by omega))];exact k.box
 ·intro id g q id' g' q' e e' he
  subst he
  rcases a5 _ _ _ e with ⟨g2,n2,e2⟩ | h2
  ·exact k.apart _ _ _ _ _ _ e2 e' rfl
  ·have:=k.left.lt _ _ _ e';omega
 ·intro id g q c e hc
  rw [getC_keep (hw _ _ _ e (k.left.lt _ _ _ e))] at hc
  exact k.o2 _ _ _ _ e hc
theorem PS.mark {h n:Nat} {H0 H:Heap} {B:List Bool} {W Lf:List Int} {wv lv:V} (k:PS h n H0 H B W Lf wv lv) (j:Nat):PS h n H0 (H.set h (.cells 0 ((B.map bV).set j (bV true)))) (B.set j true) W Lf wv lv:=by
 have hk:∀ i,i≠h→(H.set h (.cells 0 ((B.map bV).set j (bV true))))[i]?=H[i]?:=fun i hi=>List.getElem?_set_ne (Ne.symm hi)
 refine ⟨k.h0,k.ext.set (by rw [k.h0];exact Nat.le_refl _) _,?_,?_,by rw [List.length_set];exact k.len,k.way.keep fun i g q e _=>hk i (by have:=k.way.ge _ _ _ e;omega),k.left.keep fun i g q e _=>hk i (by have:=k.left.ge _ _ _ e;omega),k.apart,?_,?_⟩
 ·rw [getC_put k.seen,List.map_set]
 ·rw [getC_keep (hk (h+1) (by omega))];exact k.box
 ·intro id g q c e hc
  rw [getC_keep (hk id (by have:=k.way.ge _ _ _ e;omega))] at hc
  exact k.o1 _ _ _ _ e hc
 ·intro id g q c e hc
  rw [getC_keep (hk id (by have:=k.left.ge _ _ _ e;omega))] at hc
  exact k.o2 _ _ _ _ e hc
theorem PS.pop {h n:Nat} {H0 H:Heap} {B:List Bool} {W Lf:List Int} {wv lv:V} (k:PS h n H0 H B W Lf wv lv) {q:Nat} (hq:q≤W.length):∃ wv',xSlice 1 wv none (some (.s (.int .i64 q)))=some wv'∧PS h n H0 H B (W.take q) Lf wv' lv:=by
 have same:∀ wv',xSlice 1 wv none (some (.s (.int .i64 q)))=some wv'→OwnN (h+2) H wv' (W.map iV |>.take q)→(∀ id g m,wv'=.sl id g 0 m 1→∃ m',wv=.sl id g 0 m' 1)→PS h n H0 H B (W.take q) Lf wv' lv:=by
  intro wv' _ ho hs
  refine ⟨k.h0,k.ext,k.seen,k.box,k.len,by rw [List.map_take];exact ho,k.left,?_,?_,k.o2⟩
  ·intro id g a id' g' a' e e'
   obtain ⟨m',e2⟩:=hs _ _ _ e
   exact k.apart _ _ _ _ _ _ e2 e'
  ·intro id g a c e hc
   obtain ⟨m',e2⟩:=hs _ _ _ e
   exact k.o1 _ _ _ _ e2 hc
 rcases k.way with ⟨e,hv⟩ | ⟨id,g,c,e,hc,hl,ht,hid⟩
 ·have hW:W=[]:=by simpa using e
  subst hW
  have hq0:q=0:=by simpa using hq
  subst hq0
  have hx:xSlice 1 wv none (some (.s (.int .i64 (0:Nat))))=some wv:=by
   rcases hv with rfl | rfl
   ·simp only [xslice_nil,bndV_none,bndV_int,cutNil_some,cast0,and_self,if_true]
   ·simp only [xslice_esl,bndV_none,bndV_int,cutNil_some,cast0,and_self,if_true]
  refine ⟨wv,hx,same wv hx (.inl ⟨rfl,hv⟩) fun id g m e=>⟨m,e⟩⟩
 ·rw [List.length_map] at e hl ht
  have i4:(0:Int)≤(0:Int)∧(0:Int)≤q∧(q:Int)≤W.length∧1=1:=⟨by omega,by omega,by omega,rfl⟩
  have i5:((q:Int) - 0).toNat=q:=by omega
  have hx:xSlice 1 wv none (some (.s (.int .i64 q)))=some (.sl id g 0 q 1):=by
   rw [e]
   simp only [xslice_sl,bndV_none,bndV_int,cutSl_some,cast0,i4,i5,and_self,if_true,Int.toNat_zero,Nat.zero_mul,Nat.add_zero]
  refine ⟨_,hx,same _ hx (.inr ⟨id,g,c,by simp;omega,hc,by simp;omega,?_,hid⟩) fun id' g' m e'=>?_⟩
  ·rw [List.length_take,List.length_map,Nat.min_eq_left hq,← ht,List.take_take,Nat.min_eq_left hq]
  ·cases e';exact ⟨_,e⟩
end Go.Proofs.Ytdmnenlpdeolaaa
set_option maxRecDepth 100000
namespace Go.Proofs.Ytdmnenlpdeolaaa
open Go.AM
def pS (B:List Bool):V→Bool
 | .s (.int _ k)=>!(B.getD k.toNat true)
 | _=>false
theorem idx_hit (p:V→Bool) (x:V) (r:List V) (hx:p x=true):∀ (pre:List V) (i:Nat),(∀ y∈pre,p y=false)→idx p (pre ++ x :: r) i=some (i+pre.length):=by
 intro pre
 induction pre with
 | nil=>intro i _;simp [idx,hx]
 | cons y pre ih=>
   intro i h
   simp only [List.cons_append,idx,h y List.mem_cons_self,Bool.false_eq_true,if_false]
   rw [ih (i+1) fun z hz=>h z (List.mem_cons_of_mem _ hz)]
   simp only [List.length_cons];congr 1;omega
theorem idx_miss (p:V→Bool):∀ (l:List V) (i:Nat),(∀ y∈l,p y=false)→idx p l i=none:=by
 intro l
 induction l with
 | nil=>intro i _;rfl
 | cons y l ih=>
   intro i h
   simp only [idx,h y List.mem_cons_self,Bool.false_eq_true,if_false]
   exact ih (i+1) fun z hz=>h z (List.mem_cons_of_mem _ hz)
theorem dfs_cnt {N:List (List Int)} {r:List Int} {s:List Bool} {l:List Int} {s':List Bool} {l':List Int} (h:Dfs N r s l s' l'):l'.length+cntF s'=l.length+cntF s:=by
 induction h with
 | nil=>rfl
 | skip k r s l s' l' h1 h2 ih=>exact ih
 | go k r s l s1 l1 s' l' h1 h2 h3 ih1 ih2=>
   have:=cntF_set s k h1
   rw [List.length_cons] at ih2
   omega
theorem post1_fun {CT:Nat→Option CFun} (hT:CT k_f41=some (.code s_f41)) {base h n:Nat} {H0 H:Heap} {B:List Bool} {W Lf:List Int} {wv lv:V} (k:PS h n H0 H B W Lf wv lv) (j:Nat) (hj:j < n):
 callW CT (.fn k_f41 [] [.ref (h+1) 0 0]) [.s (.int .i64 j)] base H=some (.s (.bool (!(B.getD j true))),H):=by
 have hB:B[j]?=some (B.getD j true):=by rw [List.getD,List.getElem?_eq_getElem (by have:=k.len;omega)];rfl
 obtain ⟨b1,b2⟩:=at_sl (n:=n) k.seen hj (w:=bV (B.getD j true)) (by rw [List.getElem?_map,hB];rfl)
 simp only [bV] at b2
 refine callW_fn (c:=s_f41) hT (by simp [s_f41]) ?_
 simp only [s_f41,a_f41,aa,bl,i64,reduceIte,reduceCtorEq,Nat.reduceEqDiff,Nat.reduceLT,Nat.reduceLeDiff,Nat.reduceBEq,Nat.reduceAdd,fillA,splice,Nat.reduceMul,amY,op_eqP,getC_load k.box,b1,b2]
structure CP (CT:Nat→Option CFun):Prop where
 i:CT k_f40=some (.code s_f40)
 p:CT k_f41=some (.code s_f41)
theorem post_index {CT:Nat→Option CFun} (hC:CP CT) {base h n:Nat} {H0 H:Heap} {B:List Bool} {W Lf:List Int} {wv lv:V} (k:PS h n H0 H B W Lf wv lv) (v:V) (r:List Int) (hv:Rd H v (r.map iV)) (hw:Wide1 v) (hr:r.length < 2 ^ 62) (hin:∀ x∈r,0≤x∧x < (n:Int)):
 callW CT (.fn k_f40 [] []) [v,.fn k_f41 [] [.ref (h+1) 0 0]] base H=some (idxV (idx (pS B) (r.map iV) 0),H):=by
 refine index_fun hC.i base H v _ _ hv hw (by rw [List.length_map];exact hr) (pS B) fun x hx=>?_
 obtain ⟨z,hz,rfl⟩:=List.mem_map.1 hx
 obtain ⟨h0,h1⟩:=hin z hz
 obtain ⟨j,rfl⟩:=Int.eq_ofNat_of_zero_le h0
 have:=post1_fun hC.p (base:=base) k j (by omega)
 simp only [iV,pS,Int.toNat_natCast]
 exact this
theorem seen_false {B:List Bool} {k:Nat} (h:B[k]?=some true):pS B (iV k)=false:=by
 simp only [pS,iV,Int.toNat_natCast,List.getD,h,Option.getD_some,Bool.not_true]
theorem seen_true {B:List Bool} {k:Nat} (h:B[k]?=some false):pS B (iV k)=true:=by
 simp only [pS,iV,Int.toNat_natCast,List.getD,h,Option.getD_some,Bool.not_false]
theorem post_pop {CT:Nat→Option CFun} (hC:CP CT) (base h L n:Nat) (H0:Heap) (nv:V) (N:List (List Int)) (hN:N.length=n) (hin:∀ r∈N,∀ x∈r,0≤x∧x < (n:Int)) (hnv:RdRows H0 nv (rowsV N)) (hr:∀ r∈N,r.length < 2 ^ 62) (hb:base≤h) (hL:h+2≤L)
 (W:List Int) (i:Nat) (Lf:List Int) (B:List Bool) (H:Heap) (wv lv:V) (hi:i < n) (hall:∀ k:Nat,(k:Int)∈N.getD i []→B[k]?=some true) (hs:W.length+Lf.length+3 < 2 ^ 40) (k:PS h n H0 H B (W ++ [(i:Int)]) Lf wv lv):
 ∃ H' wv' lv',PS h n H0 H' B W (Lf ++ [(i:Int)]) wv' lv'∧
   itW (evC (callW CT) itW base s_f25_l0) [] L (frOf 77 [(5,nv),(6,.ref (h+1) 0 0),(7,wv),(8,lv)]) H=itW (evC (callW CT) itW base s_f25_l0) [] L (frOf 77 [(5,nv),(6,.ref (h+1) 0 0),(7,wv'),(8,lv')]) H':=by
 have hwl:xLen H .s wv=some (.s (.int .i64 ((W.length+1:Nat):Int))):=by have:=iV_len k.way.rd;rw [List.length_append] at this;exact this
 have hwp:IntKind.i64.wrap (((W.length+1:Nat):Int) - 1)=(W.length:Int):=by rw [IntKind.wrap_i64];omega
 have hgt:((W.length+1:Nat):Int) > 0:=by omega
 obtain ⟨a,a1,a2⟩:=iV_at k.way.rd k.way.wide (k:=W.length) (x:=(i:Int)) (by simp)
 have hig:N[i]?=some (N.getD i []):=by rw [List.getD,List.getElem?_eq_getElem (by omega)];rfl
 have hmem:N.getD i []∈N:=getD_mem (by omega)
 obtain ⟨b,y,b1,b2,b3,b4⟩:=rows_at (hnv.ext k.ext) hig
 have hidx:=post_index hC (base:=base) k y _ b3 b4 (hr _ hmem) (hin _ hmem)
 rw [idx_miss (pS B) _ 0 (fun x hx=>by
  obtain ⟨z,hz,rfl⟩:=List.mem_map.1 hx
  obtain ⟨j,rfl⟩:=Int.eq_ofNat_of_zero_le (hin _ hmem z hz).1
  exact seen_false (hall j hz))] at hidx
 simp only [idxV] at hidx
 obtain ⟨lv',H1,c1,c2⟩:=k.putL (base:=base) i hb (by omega)
 simp only [iV] at c1
 obtain ⟨wv',d1,d2⟩:=c2.pop (q:=W.length) (by simp)
 rw [List.take_left] at d2
 have hwl2:xLen H1 .s wv=some (.s (.int .i64 ((W.length+1:Nat):Int))):=by have:=iV_len c2.way.rd;rw [List.length_append] at this;exact this
 refine ⟨_,wv',lv',d2.trim hL (fr:=frOf 77 [(5,nv),(6,.ref (h+1) 0 0),(7,wv'),(8,lv')]) (frOf_mem (s:=7) (by omega) rfl) (frOf_mem (s:=8) (by omega) rfl),?_⟩
 rw [itW_step]
 have hneg:(-1:Int) < 0:=by omega
 simp only [a_f25,s_f25_l0_b,aa,bl,i64,reduceIte,reduceCtorEq,Nat.reduceEqDiff,Nat.reduceLT,Nat.reduceLeDiff,Nat.reduceBEq,Nat.reduceAdd,fillA,splice,Nat.reduceMul,amY,op_eqP,xsub_mkFn,hwl,hwp,hgt,a1,a2,b1,b2,hidx,hneg,c1,hwl2,d1]
theorem post_push {CT:Nat→Option CFun} (hC:CP CT) (base h L n:Nat) (H0:Heap) (nv:V) (N:List (List Int)) (hN:N.length=n) (hin:∀ r∈N,∀ x∈r,0≤x∧x < (n:Int)) (hnv:RdRows H0 nv (rowsV N)) (hr:∀ r∈N,r.length < 2 ^ 62) (hb:base≤h) (hL:h+2≤L)
 (W:List Int) (i:Nat) (pre r:List Int) (q:Nat) (Lf:List Int) (B:List Bool) (H:Heap) (wv lv:V) (hi:i < n) (he:N.getD i []=pre ++ (q:Int) :: r) (hpre:∀ k:Nat,(k:Int)∈pre→B[k]?=some true) (hq:B[q]?=some false) (hs:W.length+Lf.length+3 < 2 ^ 40) (k:PS h n H0 H B (W ++ [(i:Int)]) Lf wv lv):
 ∃ H' wv',PS h n H0 H' (B.set q true) (W ++ [(i:Int)] ++ [(q:Int)]) Lf wv' lv∧
   itW (evC (callW CT) itW base s_f25_l0) [] L (frOf 77 [(5,nv),(6,.ref (h+1) 0 0),(7,wv),(8,lv)]) H=itW (evC (callW CT) itW base s_f25_l0) [] L (frOf 77 [(5,nv),(6,.ref (h+1) 0 0),(7,wv'),(8,lv)]) H':=by
 have hwl:xLen H .s wv=some (.s (.int .i64 ((W.length+1:Nat):Int))):=by have:=iV_len k.way.rd;rw [List.length_append] at this;exact this
 have hwp:IntKind.i64.wrap (((W.length+1:Nat):Int) - 1)=(W.length:Int):=by rw [IntKind.wrap_i64];omega
 have hgt:((W.length+1:Nat):Int) > 0:=by omega
 obtain ⟨a,a1,a2⟩:=iV_at k.way.rd k.way.wide (k:=W.length) (x:=(i:Int)) (by simp)
 have hig:N[i]?=some (N.getD i []):=by rw [List.getD,List.getElem?_eq_getElem (by omega)];rfl
 have hmem:N.getD i []∈N:=getD_mem (by omega)
 have hqn:q < n:=by have:=(List.getElem?_eq_some_iff.1 hq).1;have:=k.len;omega
 obtain ⟨b,y,b1,b2,b3,b4⟩:=rows_at (hnv.ext k.ext) hig
 have hidx:=post_index hC (base:=base) k y _ b3 b4 (hr _ hmem) (hin _ hmem)
 rw [he,List.map_append,List.map_cons,idx_hit (pS B) (iV q) _ (seen_true hq) _ 0 (fun x hx=>by
  obtain ⟨z,hz,rfl⟩:=List.mem_map.1 hx
  obtain ⟨j,rfl⟩:=Int.eq_ofNat_of_zero_le (hin _ hmem z (by rw [he];exact List.mem_append_left _ hz)).1
  exact seen_false (hpre j hz)),List.length_map,Nat.zero_add] at hidx
 simp only [idxV] at hidx
 obtain ⟨c,c1,c2⟩:=iV_at b3 b4 (k:=pre.length) (x:=(q:Int)) (by rw [he];simp)
 have hBq:B[q]?=some false:=hq
 obtain ⟨e1,e2⟩:=at_sl (n:=n) k.seen hqn (w:=bV false) (by rw [List.getElem?_map,hBq];rfl)
 have st:=storeV_at (v:=bV true) (base:=base) k.seen (by omega) rfl (off:=q) (by rw [List.length_map,k.len];exact hqn)
 simp only [bV] at st
 have km:=k.mark q
 simp only [bV] at km
 obtain ⟨b',y',b1',b2',b3',b4'⟩:=rows_at (hnv.ext km.ext) hig
 obtain ⟨c',c1',c2'⟩:=iV_at b3' b4' (k:=pre.length) (x:=(q:Int)) (by rw [he];simp)
 have hbb:b'=b:=by rw [b1] at b1';cases b1';rfl
 subst hbb
 obtain ⟨wv',H2,d1,d2⟩:=km.putW (base:=base) q hb (by simp;omega)
 simp only [iV,List.length_set] at d1
 have hneg:¬ (pre.length:Int) < 0:=by omega
 refine ⟨_,wv',d2.trim hL (fr:=frOf 77 [(5,nv),(6,.ref (h+1) 0 0),(7,wv'),(8,lv)]) (frOf_mem (s:=7) (by omega) rfl) (frOf_mem (s:=8) (by omega) rfl),?_⟩
 rw [itW_step]
 simp only [a_f25,s_f25_l0_b,aa,bl,i64,reduceIte,reduceCtorEq,Nat.reduceEqDiff,Nat.reduceLT,Nat.reduceLeDiff,Nat.reduceBEq,Nat.reduceAdd,fillA,splice,Nat.reduceMul,amY,op_eqP,xsub_mkFn,hwl,hwp,hgt,a1,a2,b1,b2,hidx,hneg,c1,c2,getC_load k.box,e1,st,b2',c1',c2',d1]
end Go.Proofs.Ytdmnenlpdeolaaa
