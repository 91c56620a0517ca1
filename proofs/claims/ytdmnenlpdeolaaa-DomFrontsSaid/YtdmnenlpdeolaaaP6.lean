/- Texts of the proof: DomL2, DomS6, DomF1, DomF2, DomF3, DomF4, DomI1, DomQ1, DomI2, DomI3, DomI4, DomN1, DomN2, DomN3, DomL3, DomR1, DomR2, DomR3, DomR4, DomR5, DomR6, DomR7, DomL4, DomN4. -/
import Derived.Test.YtdmnenlpdeolaaaP0
import Derived.Test.YtdmnenlpdeolaaaP1
import Derived.Test.YtdmnenlpdeolaaaP2
import Derived.Test.YtdmnenlpdeolaaaP3
import Derived.Test.YtdmnenlpdeolaaaP4
import Derived.Test.YtdmnenlpdeolaaaP5
set_option linter.all false
set_option maxRecDepth 100000
namespace Go.Proofs.Ytdmnenlpdeolaaa
open Go.AM
section
variable {CT:Nat→Option CFun}
structure CL9 (CT:Nat→Option CFun):Prop where
 t:CT9 CT
 dom:CT k_f13=some (.code s_f13)
 great:CT k_f8=some (.code s_f8)
 wakes:∀ base H,callW CT (.fn k_f9 [] []) [] base H=some (.s (.bool true),H)
end
end Go.Proofs.Ytdmnenlpdeolaaa
set_option maxRecDepth 100000
namespace Go.Proofs.Ytdmnenlpdeolaaa
open Go.AM
abbrev k_f5:Nat:=5
def s_f5_r0_k:List Nat:=[3,4,5,6,7,8,9,10,11,12,13,14,15,16,17,18,19,20,21,22,23,24,25,26,27,28,29,30,31,32,33,34,35,36,37,38,39,40,41,42,43,44,45,46,47,48,49,50,51,52,53,54,55,56,57,58,59,60,61,62,63,64,65,66,67,68,69,70,71,72,73,74,75,76,77,78,79,80,81,82,83,84,85,86,87,88,89,90,91,92,93,94,95,96,97,98,99,100,101,102,103,104,105,106,107,108,109,110,111,112,113,114,115,116,117,118,119,120,121,122,123,124,125,126,127,128,129,130,131,132,133,134,135,136,137,138,139,140,141,142,143,144,145,146,147,148,149,150,151,152,153,154,155,156,157,158,159,160,161,162,163,164,165,166,167,168,169,170,171,172,173,174,175,176,177,178,179,180,181,182,183,184,185,186,187,188,189,190,191,192,193,194,195,196,197,198,199,200,201,202,203,204,205,206,207,208,209,210,211,212,213,214,215,216,217,218,219,220,221,222,223,224,225,226,227,228,229,230,231,232,233,234,235,236,237,238,239,240,241,242,243,244,245,246,247,248,249,250,251,252,253]
theorem s_f5_r0_kT:killV s_f5_r0_k (startV 254 [] 3)=[]:=by kernel_rfl
theorem s_f5_r0_kA0:s_f5_r0_k.contains 0=false:=by kernel_rfl
theorem s_f5_r0_kA1:s_f5_r0_k.contains 1=false:=by kernel_rfl
theorem s_f5_r0_kA2:s_f5_r0_k.contains 2=false:=by kernel_rfl
def s_f5_r0:List AOper:=[
 ⟨some 6,(.move (.c (.s (.bool false)))),none⟩]
def s_f5_r0_tale:=hT s_f5_r0 s_f5_r0_k [] 7 [] [] [.cc (.s (.bool false))] (by kernel_rfl) (by kernel_rfl)
def s_f5_r1t2:List AOper:=[⟨some 29,(.move (.t 28)),none⟩,⟨some 30,(.move (.t 2)),some (29,false)⟩,⟨some 31,(.lenS .s (.t 30)),some (29,false)⟩,⟨some 32,(.bin .gtr (.t 31) (.c (.s (.int .i64 20)))),some (29,false)⟩,⟨some 33,(.pick (.t 29) (.c (.s (.bool true))) (.t 32)),none⟩]
def s_f5_r1p1:List AOper:=[⟨some 28,(.call (.c (.fn 8 [] [])) [(.t 27)]),none⟩]
def s_f5_r1t1:List AOper:=s_f5_r1p1 ++ s_f5_r1t2
def s_f5_r1p0:List AOper:=[⟨some 27,(.move (.t 0)),none⟩]
def s_f5_r1:List AOper:=s_f5_r1p0 ++ s_f5_r1t1
def s_f5_r1p0_tale:=hT s_f5_r1p0 [] [27] 28 [] [(27,(.t 0))] [.tt 0] (by kernel_rfl) (by kernel_rfl)
def s_f5_r1_x:=hS s_f5_r1 s_f5_r1p0 s_f5_r1t1 [] [27] [27,28,29,30,31,32] rfl (by kernel_rfl)
def s_f5_r1t1_x:=hO s_f5_r1t1 s_f5_r1p1 s_f5_r1t2 [27] [27,28,29,30,31,32] [⟨some 28,(.call (.c (.fn 8 [] [])) [(.t 27)]),none⟩] rfl rfl (by kernel_rfl)
def s_f5_r1t2_tale:=hT s_f5_r1t2 [27,28,29,30,31,32] [33] 34 [] [(33,(.pick (.t 28) (.c (.s (.bool true))) (.op (.bin .gtr (.t 0) (.c (.s (.int .i64 20)))) [(.op (.lenS .s (.t 0)) [(.t 2)]),(.c (.s (.int .i64 20)))])))] [.tt 28,.sub 0 [2,0,0] [29],.sub 0 [2,0] [29],.sub 0 [2] [29],.sub 0 [] []] (by kernel_rfl) (by kernel_rfl)
def s_f5_r1t2_x:=hL s_f5_r1t2 [27,28,29,30,31,32] [33]
def s_f5_r2t1:List AOper:=[⟨some 6,(.move (.t 34)),none⟩]
def s_f5_r2p0:List AOper:=[⟨some 34,(.call (.c (.fn 9 [] [])) []),none⟩]
def s_f5_r2:List AOper:=s_f5_r2p0 ++ s_f5_r2t1
def s_f5_r2_x:=hO s_f5_r2 s_f5_r2p0 s_f5_r2t1 [0,1,2,33] [0,1,2,33,34] [⟨some 34,(.call (.c (.fn 9 [] [])) []),none⟩] rfl rfl (by kernel_rfl)
def s_f5_r2t1_tale:=hT s_f5_r2t1 [0,1,2,33,34] [6] 7 [] [(6,(.t 34))] [.tt 34] (by kernel_rfl) (by kernel_rfl)
def s_f5_r2t1_x:=hL s_f5_r2t1 [0,1,2,33,34] [6]
def s_f5_r3t2:List AOper:=[⟨some 7,(.move (.t 37)),none⟩]
def s_f5_r3p1:List AOper:=[⟨some 37,(.call (.c (.fn 10 [] [])) [(.t 35),(.t 36)]),none⟩]
def s_f5_r3t1:List AOper:=s_f5_r3p1 ++ s_f5_r3t2
def s_f5_r3p0:List AOper:=[⟨some 35,(.move (.t 0)),none⟩,⟨some 36,(.move (.t 1)),none⟩]
def s_f5_r3:List AOper:=s_f5_r3p0 ++ s_f5_r3t1
def s_f5_r3p0_tale:=hT s_f5_r3p0 [33] [35,36] 37 [] [(35,(.t 0)),(36,(.t 1))] [.tt 0,.tt 1] (by kernel_rfl) (by kernel_rfl)
def s_f5_r3_x:=hS s_f5_r3 s_f5_r3p0 s_f5_r3t1 [33] [35,36] [33,35,36,37] rfl (by kernel_rfl)
def s_f5_r3t1_x:=hO s_f5_r3t1 s_f5_r3p1 s_f5_r3t2 [35,36] [33,35,36,37] [⟨some 37,(.call (.c (.fn 10 [] [])) [(.t 35),(.t 36)]),none⟩] rfl rfl (by kernel_rfl)
def s_f5_r3t2_tale:=hT s_f5_r3t2 [33,35,36,37] [7] 8 [] [(7,(.t 37))] [.tt 37] (by kernel_rfl) (by kernel_rfl)
def s_f5_r3t2_x:=hL s_f5_r3t2 [33,35,36,37] [7]
def s_f5_r4t2:List AOper:=[⟨some 8,(.move (.t 40)),none⟩]
def s_f5_r4p1:List AOper:=[⟨some 40,(.call (.c (.fn 16 [] [])) [(.t 38),(.t 39)]),none⟩]
def s_f5_r4t1:List AOper:=s_f5_r4p1 ++ s_f5_r4t2
def s_f5_r4p0:List AOper:=[⟨some 38,(.move (.t 0)),none⟩,⟨some 39,(.move (.t 1)),none⟩]
def s_f5_r4:List AOper:=s_f5_r4p0 ++ s_f5_r4t1
def s_f5_r4p0_tale:=hT s_f5_r4p0 [1] [38,39] 40 [] [(38,(.t 0)),(39,(.t 1))] [.tt 0,.tt 1] (by kernel_rfl) (by kernel_rfl)
def s_f5_r4_x:=hS s_f5_r4 s_f5_r4p0 s_f5_r4t1 [1] [38,39] [1,38,39,40] rfl (by kernel_rfl)
def s_f5_r4t1_x:=hO s_f5_r4t1 s_f5_r4p1 s_f5_r4t2 [38,39] [1,38,39,40] [⟨some 40,(.call (.c (.fn 16 [] [])) [(.t 38),(.t 39)]),none⟩] rfl rfl (by kernel_rfl)
def s_f5_r4t2_tale:=hT s_f5_r4t2 [1,38,39,40] [8] 9 [] [(8,(.t 40))] [.tt 40] (by kernel_rfl) (by kernel_rfl)
def s_f5_r4t2_x:=hL s_f5_r4t2 [1,38,39,40] [8]
def s_f5_r5t2:List AOper:=[⟨some 9,(.move (.t 42)),none⟩]
def s_f5_r5p1:List AOper:=[⟨some 42,(.call (.c (.fn 18 [] [])) [(.t 41)]),none⟩]
def s_f5_r5t1:List AOper:=s_f5_r5p1 ++ s_f5_r5t2
def s_f5_r5p0:List AOper:=[⟨some 41,(.move (.t 0)),none⟩]
def s_f5_r5:List AOper:=s_f5_r5p0 ++ s_f5_r5t1
def s_f5_r5p0_tale:=hT s_f5_r5p0 [] [41] 42 [] [(41,(.t 0))] [.tt 0] (by kernel_rfl) (by kernel_rfl)
def s_f5_r5_x:=hS s_f5_r5 s_f5_r5p0 s_f5_r5t1 [] [41] [41,42] rfl (by kernel_rfl)
def s_f5_r5t1_x:=hO s_f5_r5t1 s_f5_r5p1 s_f5_r5t2 [41] [41,42] [⟨some 42,(.call (.c (.fn 18 [] [])) [(.t 41)]),none⟩] rfl rfl (by kernel_rfl)
def s_f5_r5t2_tale:=hT s_f5_r5t2 [41,42] [9] 10 [] [(9,(.t 42))] [.tt 42] (by kernel_rfl) (by kernel_rfl)
def s_f5_r5t2_x:=hL s_f5_r5t2 [41,42] [9]
def s_f5_r6:List AOper:=[
 ⟨some 43,(.move (.t 8)),none⟩,
 ⟨some 44,(.lenS .s (.t 43)),none⟩,
 ⟨some 45,(.move (.t 0)),none⟩,
 ⟨some 46,(.lenS .s (.t 45)),none⟩,
 ⟨some 47,(.bin .neq (.t 44) (.t 46)),none⟩]
def s_f5_r6_tale:=hT s_f5_r6 [43,44,45,46] [47] 48 [] [(47,(.op (.bin .neq (.t 0) (.t 1)) [(.op (.lenS .s (.t 0)) [(.t 8)]),(.op (.lenS .s (.t 0)) [(.t 0)])]))] [.tt 8,.sub 0 [0] [],.tt 0,.sub 0 [1] [],.sub 0 [] []] (by kernel_rfl) (by kernel_rfl)
def s_f5_r7:List AOper:=[
 ⟨some 6,(.move (.c (.s (.bool false)))),none⟩]
def s_f5_r7_tale:=hT s_f5_r7 [0,2,7,8,9,47] [6] 7 [] [(6,(.c (.s (.bool false))))] [.cc (.s (.bool false))] (by kernel_rfl) (by kernel_rfl)
def s_f5_r8:List AOper:=[
 ⟨some 10,(.move (.c (.s (.int .i64 0)))),none⟩]
def s_f5_r8_tale:=hT s_f5_r8 [47] [10] 11 [] [(10,(.c (.s (.int .i64 0))))] [.cc (.s (.int .i64 0))] (by kernel_rfl) (by kernel_rfl)
def s_f5_r9:List AOper:=[
 ⟨some 48,(.move (.t 10)),none⟩,
 ⟨some 49,(.move (.t 0)),none⟩,
 ⟨some 50,(.lenS .s (.t 49)),none⟩,
 ⟨some 51,(.bin .lss (.t 48) (.t 50)),none⟩]
def s_f5_r9_tale:=hT s_f5_r9 [48,49,50] [51] 52 [] [(51,(.op (.bin .lss (.t 0) (.t 1)) [(.t 10),(.op (.lenS .s (.t 0)) [(.t 0)])]))] [.tt 10,.tt 0,.sub 0 [1] [],.sub 0 [] []] (by kernel_rfl) (by kernel_rfl)
def s_f5_r10:List AOper:=[
 ⟨some 11,(.move (.c (.s (.int .i64 0)))),none⟩]
def s_f5_r10_tale:=hT s_f5_r10 [51] [11] 12 [] [(11,(.c (.s (.int .i64 0))))] [.cc (.s (.int .i64 0))] (by kernel_rfl) (by kernel_rfl)
def s_f5_r11:List AOper:=[
 ⟨some 54,(.move (.t 11)),none⟩,
 ⟨some 55,(.move (.t 0)),none⟩,
 ⟨some 56,(.lenS .s (.t 55)),none⟩,
 ⟨some 57,(.bin .lss (.t 54) (.t 56)),none⟩]
def s_f5_r11_tale:=hT s_f5_r11 [54,55,56] [57] 58 [] [(57,(.op (.bin .lss (.t 0) (.t 1)) [(.t 11),(.op (.lenS .s (.t 0)) [(.t 0)])]))] [.tt 11,.tt 0,.sub 0 [1] [],.sub 0 [] []] (by kernel_rfl) (by kernel_rfl)
def s_f5_r12:List AOper:=[
 ⟨some 12,(.move (.c (.s (.bool false)))),none⟩]
def s_f5_r12_tale:=hT s_f5_r12 [57] [12] 13 [] [(12,(.c (.s (.bool false))))] [.cc (.s (.bool false))] (by kernel_rfl) (by kernel_rfl)
def s_f5_r13:List AOper:=[
 ⟨some 13,(.move (.c (.s (.int .i64 0)))),none⟩]
def s_f5_r13_tale:=hT s_f5_r13 [] [13] 14 [] [(13,(.c (.s (.int .i64 0))))] [.cc (.s (.int .i64 0))] (by kernel_rfl) (by kernel_rfl)
def s_f5_r14:List AOper:=[
 ⟨some 60,(.move (.t 13)),none⟩,
 ⟨some 61,(.move (.t 0)),none⟩,
 ⟨some 62,(.lenS .s (.t 61)),none⟩,
 ⟨some 63,(.bin .lss (.t 60) (.t 62)),none⟩]
def s_f5_r14_tale:=hT s_f5_r14 [60,61,62] [63] 64 [] [(63,(.op (.bin .lss (.t 0) (.t 1)) [(.t 13),(.op (.lenS .s (.t 0)) [(.t 0)])]))] [.tt 13,.tt 0,.sub 0 [1] [],.sub 0 [] []] (by kernel_rfl) (by kernel_rfl)
def s_f5_r15:List AOper:=[
 ⟨some 14,(.move (.c (.s (.int .i64 0)))),none⟩]
def s_f5_r15_tale:=hT s_f5_r15 [63] [14] 15 [] [(14,(.c (.s (.int .i64 0))))] [.cc (.s (.int .i64 0))] (by kernel_rfl) (by kernel_rfl)
def s_f5_r16:List AOper:=[
 ⟨some 66,(.move (.t 14)),none⟩,
 ⟨some 67,(.move (.t 9)),none⟩,
 ⟨some 68,(.move (.t 13)),none⟩,
 ⟨some 69,(.indexAddr 1 (.t 67) (.t 68)),none⟩,
 ⟨some 70,(.load false 1 (.t 69)),none⟩,
 ⟨some 71,(.lenS .s (.t 70)),none⟩,
 ⟨some 72,(.bin .lss (.t 66) (.t 71)),none⟩]
def s_f5_r16_tale:=hT s_f5_r16 [66,67,68,69,70,71] [72] 73 [] [(72,(.op (.bin .lss (.t 0) (.t 1)) [(.t 14),(.op (.lenS .s (.t 0)) [(.op (.load false 1 (.t 0)) [(.op (.indexAddr 1 (.t 0) (.t 1)) [(.t 9),(.t 13)])])])]))] [.tt 14,.tt 9,.tt 13,.sub 0 [1,0,0] [],.sub 0 [1,0] [],.sub 0 [1] [],.sub 0 [] []] (by kernel_rfl) (by kernel_rfl)
def s_f5_r17t25:List AOper:=[⟨some 101,(.un .not (.t 100)),some (96,false)⟩,⟨some 102,(.pick (.t 96) (.c (.s (.bool true))) (.t 101)),some (92,true)⟩,⟨some 103,(.pick (.t 92) (.t 102) (.c (.s (.bool false)))),some (76,false)⟩,⟨some 104,(.pick (.t 76) (.c (.s (.bool true))) (.t 103)),none⟩,⟨some 12,(.move (.t 104)),none⟩]
def s_f5_r17p24:List AOper:=[⟨some 100,(.call (.c (.fn 13 [] [])) [(.t 97),(.t 98),(.t 99)]),some (96,false)⟩]
def s_f5_r17t24:List AOper:=s_f5_r17p24 ++ s_f5_r17t25
def s_f5_r17p23:List AOper:=[⟨some 99,(.move (.t 11)),some (96,false)⟩]
def s_f5_r17t23:List AOper:=s_f5_r17p23 ++ s_f5_r17t24
def s_f5_r17p22:List AOper:=[⟨some 98,(.move (.t 10)),some (96,false)⟩]
def s_f5_r17t22:List AOper:=s_f5_r17p22 ++ s_f5_r17t23
def s_f5_r17p21:List AOper:=[⟨some 97,(.move (.t 7)),some (96,false)⟩]
def s_f5_r17t21:List AOper:=s_f5_r17p21 ++ s_f5_r17t22
def s_f5_r17p20:List AOper:=[⟨some 96,(.move (.t 95)),some (92,true)⟩]
def s_f5_r17t20:List AOper:=s_f5_r17p20 ++ s_f5_r17t21
def s_f5_r17p19:List AOper:=[⟨some 95,(.bin .eql (.t 93) (.t 94)),some (92,true)⟩]
def s_f5_r17t19:List AOper:=s_f5_r17p19 ++ s_f5_r17t20
def s_f5_r17p18:List AOper:=[⟨some 94,(.move (.t 11)),some (92,true)⟩]
def s_f5_r17t18:List AOper:=s_f5_r17p18 ++ s_f5_r17t19
def s_f5_r17p17:List AOper:=[⟨some 93,(.move (.t 10)),some (92,true)⟩]
def s_f5_r17t17:List AOper:=s_f5_r17p17 ++ s_f5_r17t18
def s_f5_r17p16:List AOper:=[⟨some 92,(.move (.t 91)),some (76,false)⟩]
def s_f5_r17t16:List AOper:=s_f5_r17p16 ++ s_f5_r17t17
def s_f5_r17p15:List AOper:=[⟨some 91,(.pick (.t 86) (.t 90) (.c (.s (.bool false)))),some (76,false)⟩]
def s_f5_r17t15:List AOper:=s_f5_r17p15 ++ s_f5_r17t16
def s_f5_r17p14:List AOper:=[⟨some 90,(.call (.c (.fn 13 [] [])) [(.t 87),(.t 88),(.t 89)]),some (86,true)⟩]
def s_f5_r17t14:List AOper:=s_f5_r17p14 ++ s_f5_r17t15
def s_f5_r17p13:List AOper:=[⟨some 89,(.move (.t 13)),some (86,true)⟩]
def s_f5_r17t13:List AOper:=s_f5_r17p13 ++ s_f5_r17t14
def s_f5_r17p12:List AOper:=[⟨some 88,(.move (.t 10)),some (86,true)⟩]
def s_f5_r17t12:List AOper:=s_f5_r17p12 ++ s_f5_r17t13
def s_f5_r17p11:List AOper:=[⟨some 87,(.move (.t 7)),some (86,true)⟩]
def s_f5_r17t11:List AOper:=s_f5_r17p11 ++ s_f5_r17t12
def s_f5_r17p10:List AOper:=[⟨some 86,(.move (.t 85)),some (76,false)⟩]
def s_f5_r17t10:List AOper:=s_f5_r17p10 ++ s_f5_r17t11
def s_f5_r17p9:List AOper:=[⟨some 85,(.bin .eql (.t 83) (.t 84)),some (76,false)⟩]
def s_f5_r17t9:List AOper:=s_f5_r17p9 ++ s_f5_r17t10
def s_f5_r17p8:List AOper:=[⟨some 84,(.move (.t 11)),some (76,false)⟩]
def s_f5_r17t8:List AOper:=s_f5_r17p8 ++ s_f5_r17t9
def s_f5_r17p7:List AOper:=[⟨some 83,(.load false 1 (.t 82)),some (76,false)⟩]
def s_f5_r17t7:List AOper:=s_f5_r17p7 ++ s_f5_r17t8
def s_f5_r17p6:List AOper:=[⟨some 82,(.indexAddr 1 (.t 80) (.t 81)),some (76,false)⟩]
def s_f5_r17t6:List AOper:=s_f5_r17p6 ++ s_f5_r17t7
def s_f5_r17p5:List AOper:=[⟨some 81,(.move (.t 14)),some (76,false)⟩]
def s_f5_r17t5:List AOper:=s_f5_r17p5 ++ s_f5_r17t6
def s_f5_r17p4:List AOper:=[⟨some 80,(.load false 1 (.t 79)),some (76,false)⟩]
def s_f5_r17t4:List AOper:=s_f5_r17p4 ++ s_f5_r17t5
def s_f5_r17p3:List AOper:=[⟨some 79,(.indexAddr 1 (.t 77) (.t 78)),some (76,false)⟩]
def s_f5_r17t3:List AOper:=s_f5_r17p3 ++ s_f5_r17t4
def s_f5_r17p2:List AOper:=[⟨some 78,(.move (.t 13)),some (76,false)⟩]
def s_f5_r17t2:List AOper:=s_f5_r17p2 ++ s_f5_r17t3
def s_f5_r17p1:List AOper:=[⟨some 77,(.move (.t 9)),some (76,false)⟩]
def s_f5_r17t1:List AOper:=s_f5_r17p1 ++ s_f5_r17t2
def s_f5_r17p0:List AOper:=[⟨some 75,(.move (.t 12)),none⟩,⟨some 76,(.move (.t 75)),none⟩]
def s_f5_r17:List AOper:=s_f5_r17p0 ++ s_f5_r17t1
def s_f5_r17p0_tale:=hT s_f5_r17p0 [12,72,75] [76] 77 [] [(76,(.t 12))] [.tt 12,.tt 12] (by kernel_rfl) (by kernel_rfl)
def s_f5_r17_x:=hS s_f5_r17 s_f5_r17p0 s_f5_r17t1 [12,72,75] [76] [72,75,76,77,78,79,80,81,82,83,84,85,86,87,88,89,90,91,92,93,94,95,96,97,98,99,100,101,102,103,104] rfl (by kernel_rfl)
def s_f5_r17t1_x:=hO s_f5_r17t1 s_f5_r17p1 s_f5_r17t2 [] [72,75,76,77,78,79,80,81,82,83,84,85,86,87,88,89,90,91,92,93,94,95,96,97,98,99,100,101,102,103,104] [⟨some 77,(.move (.t 9)),some (76,false)⟩] rfl rfl (by kernel_rfl)
def s_f5_r17t2_x:=hO s_f5_r17t2 s_f5_r17p2 s_f5_r17t3 [] [72,75,76,77,78,79,80,81,82,83,84,85,86,87,88,89,90,91,92,93,94,95,96,97,98,99,100,101,102,103,104] [⟨some 78,(.move (.t 13)),some (76,false)⟩] rfl rfl (by kernel_rfl)
def s_f5_r17t3_x:=hO s_f5_r17t3 s_f5_r17p3 s_f5_r17t4 [77,78] [72,75,76,77,78,79,80,81,82,83,84,85,86,87,88,89,90,91,92,93,94,95,96,97,98,99,100,101,102,103,104] [⟨some 79,(.indexAddr 1 (.t 77) (.t 78)),some (76,false)⟩] rfl rfl (by kernel_rfl)
def s_f5_r17t4_x:=hO s_f5_r17t4 s_f5_r17p4 s_f5_r17t5 [79] [72,75,76,77,78,79,80,81,82,83,84,85,86,87,88,89,90,91,92,93,94,95,96,97,98,99,100,101,102,103,104] [⟨some 80,(.load false 1 (.t 79)),some (76,false)⟩] rfl rfl (by kernel_rfl)
def s_f5_r17t5_x:=hO s_f5_r17t5 s_f5_r17p5 s_f5_r17t6 [] [72,75,76,77,78,79,80,81,82,83,84,85,86,87,88,89,90,91,92,93,94,95,96,97,98,99,100,101,102,103,104] [⟨some 81,(.move (.t 14)),some (76,false)⟩] rfl rfl (by kernel_rfl)
def s_f5_r17t6_x:=hO s_f5_r17t6 s_f5_r17p6 s_f5_r17t7 [80,81] [72,75,76,77,78,79,80,81,82,83,84,85,86,87,88,89,90,91,92,93,94,95,96,97,98,99,100,101,102,103,104] [⟨some 82,(.indexAddr 1 (.t 80) (.t 81)),some (76,false)⟩] rfl rfl (by kernel_rfl)
def s_f5_r17t7_x:=hO s_f5_r17t7 s_f5_r17p7 s_f5_r17t8 [82] [72,75,76,77,78,79,80,81,82,83,84,85,86,87,88,89,90,91,92,93,94,95,96,97,98,99,100,101,102,103,104] [⟨some 83,(.load false 1 (.t 82)),some (76,false)⟩] rfl rfl (by kernel_rfl)
def s_f5_r17t8_x:=hO s_f5_r17t8 s_f5_r17p8 s_f5_r17t9 [] [72,75,76,77,78,79,80,81,82,83,84,85,86,87,88,89,90,91,92,93,94,95,96,97,98,99,100,101,102,103,104] [⟨some 84,(.move (.t 11)),some (76,false)⟩] rfl rfl (by kernel_rfl)
def s_f5_r17t9_x:=hO s_f5_r17t9 s_f5_r17p9 s_f5_r17t10 [83,84] [72,75,76,77,78,79,80,81,82,83,84,85,86,87,88,89,90,91,92,93,94,95,96,97,98,99,100,101,102,103,104] [⟨some 85,(.bin .eql (.t 83) (.t 84)),some (76,false)⟩] rfl rfl (by kernel_rfl)
def s_f5_r17t10_x:=hO s_f5_r17t10 s_f5_r17p10 s_f5_r17t11 [85] [72,75,76,77,78,79,80,81,82,83,84,85,86,87,88,89,90,91,92,93,94,95,96,97,98,99,100,101,102,103,104] [⟨some 86,(.move (.t 85)),some (76,false)⟩] rfl rfl (by kernel_rfl)
def s_f5_r17t11_x:=hO s_f5_r17t11 s_f5_r17p11 s_f5_r17t12 [] [72,75,76,77,78,79,80,81,82,83,84,85,86,87,88,89,90,91,92,93,94,95,96,97,98,99,100,101,102,103,104] [⟨some 87,(.move (.t 7)),some (86,true)⟩] rfl rfl (by kernel_rfl)
def s_f5_r17t12_x:=hO s_f5_r17t12 s_f5_r17p12 s_f5_r17t13 [] [72,75,76,77,78,79,80,81,82,83,84,85,86,87,88,89,90,91,92,93,94,95,96,97,98,99,100,101,102,103,104] [⟨some 88,(.move (.t 10)),some (86,true)⟩] rfl rfl (by kernel_rfl)
def s_f5_r17t13_x:=hO s_f5_r17t13 s_f5_r17p13 s_f5_r17t14 [] [72,75,76,77,78,79,80,81,82,83,84,85,86,87,88,89,90,91,92,93,94,95,96,97,98,99,100,101,102,103,104] [⟨some 89,(.move (.t 13)),some (86,true)⟩] rfl rfl (by kernel_rfl)
def s_f5_r17t14_x:=hO s_f5_r17t14 s_f5_r17p14 s_f5_r17t15 [87,88,89] [72,75,76,77,78,79,80,81,82,83,84,85,86,87,88,89,90,91,92,93,94,95,96,97,98,99,100,101,102,103,104] [⟨some 90,(.call (.c (.fn 13 [] [])) [(.t 87),(.t 88),(.t 89)]),some (86,true)⟩] rfl rfl (by kernel_rfl)
def s_f5_r17t15_x:=hO s_f5_r17t15 s_f5_r17p15 s_f5_r17t16 [86,90] [72,75,76,77,78,79,80,81,82,83,84,85,86,87,88,89,90,91,92,93,94,95,96,97,98,99,100,101,102,103,104] [⟨some 91,(.pick (.t 86) (.t 90) (.c (.s (.bool false)))),some (76,false)⟩] rfl rfl (by kernel_rfl)
def s_f5_r17t16_x:=hO s_f5_r17t16 s_f5_r17p16 s_f5_r17t17 [91] [72,75,76,77,78,79,80,81,82,83,84,85,86,87,88,89,90,91,92,93,94,95,96,97,98,99,100,101,102,103,104] [⟨some 92,(.move (.t 91)),some (76,false)⟩] rfl rfl (by kernel_rfl)
def s_f5_r17t17_x:=hO s_f5_r17t17 s_f5_r17p17 s_f5_r17t18 [] [72,75,76,77,78,79,80,81,82,83,84,85,86,87,88,89,90,91,92,93,94,95,96,97,98,99,100,101,102,103,104] [⟨some 93,(.move (.t 10)),some (92,true)⟩] rfl rfl (by kernel_rfl)
def s_f5_r17t18_x:=hO s_f5_r17t18 s_f5_r17p18 s_f5_r17t19 [] [72,75,76,77,78,79,80,81,82,83,84,85,86,87,88,89,90,91,92,93,94,95,96,97,98,99,100,101,102,103,104] [⟨some 94,(.move (.t 11)),some (92,true)⟩] rfl rfl (by kernel_rfl)
def s_f5_r17t19_x:=hO s_f5_r17t19 s_f5_r17p19 s_f5_r17t20 [93,94] [72,75,76,77,78,79,80,81,82,83,84,85,86,87,88,89,90,91,92,93,94,95,96,97,98,99,100,101,102,103,104] [⟨some 95,(.bin .eql (.t 93) (.t 94)),some (92,true)⟩] rfl rfl (by kernel_rfl)
def s_f5_r17t20_x:=hO s_f5_r17t20 s_f5_r17p20 s_f5_r17t21 [95] [72,75,76,77,78,79,80,81,82,83,84,85,86,87,88,89,90,91,92,93,94,95,96,97,98,99,100,101,102,103,104] [⟨some 96,(.move (.t 95)),some (92,true)⟩] rfl rfl (by kernel_rfl)
def s_f5_r17t21_x:=hO s_f5_r17t21 s_f5_r17p21 s_f5_r17t22 [] [72,75,76,77,78,79,80,81,82,83,84,85,86,87,88,89,90,91,92,93,94,95,96,97,98,99,100,101,102,103,104] [⟨some 97,(.move (.t 7)),some (96,false)⟩] rfl rfl (by kernel_rfl)
def s_f5_r17t22_x:=hO s_f5_r17t22 s_f5_r17p22 s_f5_r17t23 [] [72,75,76,77,78,79,80,81,82,83,84,85,86,87,88,89,90,91,92,93,94,95,96,97,98,99,100,101,102,103,104] [⟨some 98,(.move (.t 10)),some (96,false)⟩] rfl rfl (by kernel_rfl)
def s_f5_r17t23_x:=hO s_f5_r17t23 s_f5_r17p23 s_f5_r17t24 [] [72,75,76,77,78,79,80,81,82,83,84,85,86,87,88,89,90,91,92,93,94,95,96,97,98,99,100,101,102,103,104] [⟨some 99,(.move (.t 11)),some (96,false)⟩] rfl rfl (by kernel_rfl)
def s_f5_r17t24_x:=hO s_f5_r17t24 s_f5_r17p24 s_f5_r17t25 [97,98,99] [72,75,76,77,78,79,80,81,82,83,84,85,86,87,88,89,90,91,92,93,94,95,96,97,98,99,100,101,102,103,104] [⟨some 100,(.call (.c (.fn 13 [] [])) [(.t 97),(.t 98),(.t 99)]),some (96,false)⟩] rfl rfl (by kernel_rfl)
def s_f5_r17t25_tale:=hT s_f5_r17t25 [72,75,76,77,78,79,80,81,82,83,84,85,86,87,88,89,90,91,92,93,94,95,96,97,98,99,100,101,102,103,104] [12] 105 [([(96,false,(.t 96))],(.op (.un .not (.t 0)) [(.t 100)])),([(92,true,(.t 92))],(.pick (.t 96) (.c (.s (.bool true))) (.op (.un .not (.t 0)) [(.t 100)])))] [(12,(.pick (.t 76) (.c (.s (.bool true))) (.pick (.t 92) (.pick (.t 96) (.c (.s (.bool true))) (.op (.un .not (.t 0)) [(.t 100)])) (.c (.s (.bool false))))))] [.keep [(96,false,(.t 96))] (.op (.un .not (.t 0)) [(.t 100)]),.keep [(92,true,(.t 92))] (.pick (.t 96) (.c (.s (.bool true))) (.op (.un .not (.t 0)) [(.t 100)])),.sub 0 [2] [76],.sub 0 [] [],.sub 0 [] []] (by kernel_rfl) (by kernel_rfl)
def s_f5_r17t25_x:=hL s_f5_r17t25 [72,75,76,77,78,79,80,81,82,83,84,85,86,87,88,89,90,91,92,93,94,95,96,97,98,99,100,101,102,103,104] [12]
def s_f5_r18:List AOper:=[
 ⟨some 73,(.move (.t 14)),none⟩,
 ⟨some 74,(.bin .add (.t 73) (.c (.s (.int .i64 1)))),none⟩,
 ⟨some 14,(.move (.t 74)),none⟩]
def s_f5_r18_tale:=hT s_f5_r18 [73,74] [14] 75 [] [(14,(.op (.bin .add (.t 0) (.c (.s (.int .i64 1)))) [(.t 14),(.c (.s (.int .i64 1)))]))] [.tt 14,.sub 0 [] [],.sub 0 [] []] (by kernel_rfl) (by kernel_rfl)
def s_f5_l0_b:ACode:=
 (.seq (.seq (.regionE s_f5_r16 [66,67,68,69,70,71] [72])
 (.cond (.t 72)
 .skip
 (.exit 6)))
 (.seq (.block 7
 (.region s_f5_r17 [] [72,75,76,77,78,79,80,81,82,83,84,85,86,87,88,89,90,91,92,93,94,95,96,97,98,99,100,101,102,103,104]))
 (.regionE s_f5_r18 [73,74] [14])))
def s_f5_l0:ACode:=s_f5_l0_b
def s_f5_l0_ev:=hE s_f5_l0 s_f5_l0_b rfl
def s_f5_r19:List AOper:=[
 ⟨some 64,(.move (.t 13)),none⟩,
 ⟨some 65,(.bin .add (.t 64) (.c (.s (.int .i64 1)))),none⟩,
 ⟨some 13,(.move (.t 65)),none⟩]
def s_f5_r19_tale:=hT s_f5_r19 [14,64,65,72] [13] 66 [] [(13,(.op (.bin .add (.t 0) (.c (.s (.int .i64 1)))) [(.t 13),(.c (.s (.int .i64 1)))]))] [.tt 13,.sub 0 [] [],.sub 0 [] []] (by kernel_rfl) (by kernel_rfl)
def s_f5_l1_b:ACode:=
 (.seq (.seq (.regionE s_f5_r14 [60,61,62] [63])
 (.cond (.t 63)
 .skip
 (.exit 4)))
 (.seq (.block 5
 (.seq (.regionE s_f5_r15 [63] [14])
 (.block 6
 (.loop [] s_f5_l0))))
 (.regionE s_f5_r19 [14,64,65,72] [13])))
def s_f5_l1:ACode:=s_f5_l1_b
def s_f5_l1_ev:=hE s_f5_l1 s_f5_l1_b rfl
def s_f5_r20:List AOper:=[
 ⟨some 15,(.move (.c (.s (.bool false)))),none⟩]
def s_f5_r20_tale:=hT s_f5_r20 [13,63] [15] 16 [] [(15,(.c (.s (.bool false))))] [.cc (.s (.bool false))] (by kernel_rfl) (by kernel_rfl)
def s_f5_r21:List AOper:=[
 ⟨some 16,(.move (.c (.s (.int .i64 0)))),none⟩]
def s_f5_r21_tale:=hT s_f5_r21 [] [16] 17 [] [(16,(.c (.s (.int .i64 0))))] [.cc (.s (.int .i64 0))] (by kernel_rfl) (by kernel_rfl)
def s_f5_r22:List AOper:=[
 ⟨some 105,(.move (.t 16)),none⟩,
 ⟨some 106,(.move (.t 8)),none⟩,
 ⟨some 107,(.move (.t 10)),none⟩,
 ⟨some 108,(.indexAddr 1 (.t 106) (.t 107)),none⟩,
 ⟨some 109,(.load false 1 (.t 108)),none⟩,
 ⟨some 110,(.lenS .s (.t 109)),none⟩,
 ⟨some 111,(.bin .lss (.t 105) (.t 110)),none⟩]
def s_f5_r22_tale:=hT s_f5_r22 [105,106,107,108,109,110] [111] 112 [] [(111,(.op (.bin .lss (.t 0) (.t 1)) [(.t 16),(.op (.lenS .s (.t 0)) [(.op (.load false 1 (.t 0)) [(.op (.indexAddr 1 (.t 0) (.t 1)) [(.t 8),(.t 10)])])])]))] [.tt 16,.tt 8,.tt 10,.sub 0 [1,0,0] [],.sub 0 [1,0] [],.sub 0 [1] [],.sub 0 [] []] (by kernel_rfl) (by kernel_rfl)
def s_f5_r23:List AOper:=[
 ⟨some 114,(.move (.t 15)),none⟩,
 ⟨some 115,(.move (.t 114)),none⟩,
 ⟨some 116,(.move (.t 8)),some (115,false)⟩,
 ⟨some 117,(.move (.t 10)),some (115,false)⟩,
 ⟨some 118,(.indexAddr 1 (.t 116) (.t 117)),some (115,false)⟩,
 ⟨some 119,(.load false 1 (.t 118)),some (115,false)⟩,
 ⟨some 120,(.move (.t 16)),some (115,false)⟩,
 ⟨some 121,(.indexAddr 1 (.t 119) (.t 120)),some (115,false)⟩,
 ⟨some 122,(.load false 1 (.t 121)),some (115,false)⟩,
 ⟨some 123,(.move (.t 11)),some (115,false)⟩,
 ⟨some 124,(.bin .eql (.t 122) (.t 123)),some (115,false)⟩,
 ⟨some 125,(.pick (.t 115) (.c (.s (.bool true))) (.t 124)),none⟩,
 ⟨some 15,(.move (.t 125)),none⟩]
def s_f5_r23_tale:=hT s_f5_r23 [111,114,115,116,117,118,119,120,121,122,123,124,125] [15] 126 [] [(15,(.pick (.t 15) (.c (.s (.bool true))) (.op (.bin .eql (.t 0) (.t 1)) [(.op (.load false 1 (.t 0)) [(.op (.indexAddr 1 (.t 0) (.t 1)) [(.op (.load false 1 (.t 0)) [(.op (.indexAddr 1 (.t 0) (.t 1)) [(.t 8),(.t 10)])]),(.t 16)])]),(.t 11)])))] [.tt 15,.tt 15,.sub 0 [2,0,0,0,0,0] [115],.sub 0 [2,0,0,0,0,1] [115],.sub 0 [2,0,0,0,0] [115],.sub 0 [2,0,0,0] [115],.sub 0 [2,0,0,1] [115],.sub 0 [2,0,0] [115],.sub 0 [2,0] [115],.sub 0 [2,1] [115],.sub 0 [2] [115],.sub 0 [] [],.sub 0 [] []] (by kernel_rfl) (by kernel_rfl)
def s_f5_r24:List AOper:=[
 ⟨some 112,(.move (.t 16)),none⟩,
 ⟨some 113,(.bin .add (.t 112) (.c (.s (.int .i64 1)))),none⟩,
 ⟨some 16,(.move (.t 113)),none⟩]
def s_f5_r24_tale:=hT s_f5_r24 [112,113] [16] 114 [] [(16,(.op (.bin .add (.t 0) (.c (.s (.int .i64 1)))) [(.t 16),(.c (.s (.int .i64 1)))]))] [.tt 16,.sub 0 [] [],.sub 0 [] []] (by kernel_rfl) (by kernel_rfl)
def s_f5_l2_b:ACode:=
 (.seq (.seq (.regionE s_f5_r22 [105,106,107,108,109,110] [111])
 (.cond (.t 111)
 .skip
 (.exit 8)))
 (.seq (.block 9
 (.regionE s_f5_r23 [111,114,115,116,117,118,119,120,121,122,123,124,125] [15]))
 (.regionE s_f5_r24 [112,113] [16])))
def s_f5_l2:ACode:=s_f5_l2_b
def s_f5_l2_ev:=hE s_f5_l2 s_f5_l2_b rfl
def s_f5_r25:List AOper:=[
 ⟨some 126,(.move (.t 15)),none⟩,
 ⟨some 127,(.move (.t 12)),none⟩,
 ⟨some 128,(.eqB true (.t 126) (.t 127)),none⟩]
def s_f5_r25_tale:=hT s_f5_r25 [12,15,16,111,126,127] [128] 129 [] [(128,(.op (.eqB true (.t 0) (.t 1)) [(.t 15),(.t 12)]))] [.tt 15,.tt 12,.sub 0 [] []] (by kernel_rfl) (by kernel_rfl)
def s_f5_r26:List AOper:=[
 ⟨some 6,(.move (.c (.s (.bool false)))),none⟩]
def s_f5_r26_tale:=hT s_f5_r26 [0,2,7,8,9,10,11,128] [6] 7 [] [(6,(.c (.s (.bool false))))] [.cc (.s (.bool false))] (by kernel_rfl) (by kernel_rfl)
def s_f5_r27:List AOper:=[
 ⟨some 58,(.move (.t 11)),none⟩,
 ⟨some 59,(.bin .add (.t 58) (.c (.s (.int .i64 1)))),none⟩,
 ⟨some 11,(.move (.t 59)),none⟩]
def s_f5_r27_tale:=hT s_f5_r27 [58,59,128] [11] 60 [] [(11,(.op (.bin .add (.t 0) (.c (.s (.int .i64 1)))) [(.t 11),(.c (.s (.int .i64 1)))]))] [.tt 11,.sub 0 [] [],.sub 0 [] []] (by kernel_rfl) (by kernel_rfl)
def s_f5_l3_b:ACode:=
 (.seq (.seq (.regionE s_f5_r11 [54,55,56] [57])
 (.cond (.t 57)
 .skip
 (.exit 2)))
 (.seq (.block 3
 (.seq (.regionE s_f5_r12 [57] [12])
 (.seq (.seq (.regionE s_f5_r13 [] [13])
 (.block 4
 (.loop [] s_f5_l1)))
 (.seq (.regionE s_f5_r20 [13,63] [15])
 (.seq (.seq (.regionE s_f5_r21 [] [16])
 (.block 8
 (.loop [] s_f5_l2)))
 (.seq (.regionE s_f5_r25 [12,15,16,111,126,127] [128])
 (.cond (.t 128)
 (.seq (.regionE s_f5_r26 [0,2,7,8,9,10,11,128] [6])
 .ret)
 .skip)))))))
 (.regionE s_f5_r27 [58,59,128] [11])))
def s_f5_l3:ACode:=s_f5_l3_b
def s_f5_l3_ev:=hE s_f5_l3 s_f5_l3_b rfl
def s_f5_r28:List AOper:=[
 ⟨some 52,(.move (.t 10)),none⟩,
 ⟨some 53,(.bin .add (.t 52) (.c (.s (.int .i64 1)))),none⟩,
 ⟨some 10,(.move (.t 53)),none⟩]
def s_f5_r28_tale:=hT s_f5_r28 [11,52,53,57] [10] 54 [] [(10,(.op (.bin .add (.t 0) (.c (.s (.int .i64 1)))) [(.t 10),(.c (.s (.int .i64 1)))]))] [.tt 10,.sub 0 [] [],.sub 0 [] []] (by kernel_rfl) (by kernel_rfl)
def s_f5_l4_b:ACode:=
 (.seq (.seq (.regionE s_f5_r9 [48,49,50] [51])
 (.cond (.t 51)
 .skip
 (.exit 0)))
 (.seq (.block 1
 (.seq (.regionE s_f5_r10 [51] [11])
 (.block 2
 (.loop [] s_f5_l3))))
 (.regionE s_f5_r28 [11,52,53,57] [10])))
def s_f5_l4:ACode:=s_f5_l4_b
def s_f5_l4_ev:=hE s_f5_l4 s_f5_l4_b rfl
def s_f5_r29t2:List AOper:=[⟨some 17,(.move (.t 131)),none⟩]
def s_f5_r29p1:List AOper:=[⟨some 131,(.call (.c (.fn 19 [] [])) [(.t 129),(.t 130)]),none⟩]
def s_f5_r29t1:List AOper:=s_f5_r29p1 ++ s_f5_r29t2
def s_f5_r29p0:List AOper:=[⟨some 129,(.move (.t 8)),none⟩,⟨some 130,(.move (.t 2)),none⟩]
def s_f5_r29:List AOper:=s_f5_r29p0 ++ s_f5_r29t1
def s_f5_r29p0_tale:=hT s_f5_r29p0 [7,9,10,51] [129,130] 131 [] [(129,(.t 8)),(130,(.t 2))] [.tt 8,.tt 2] (by kernel_rfl) (by kernel_rfl)
def s_f5_r29_x:=hS s_f5_r29 s_f5_r29p0 s_f5_r29t1 [7,9,10,51] [129,130] [7,9,10,51,129,130,131] rfl (by kernel_rfl)
def s_f5_r29t1_x:=hO s_f5_r29t1 s_f5_r29p1 s_f5_r29t2 [129,130] [7,9,10,51,129,130,131] [⟨some 131,(.call (.c (.fn 19 [] [])) [(.t 129),(.t 130)]),none⟩] rfl rfl (by kernel_rfl)
def s_f5_r29t2_tale:=hT s_f5_r29t2 [7,9,10,51,129,130,131] [17] 18 [] [(17,(.t 131))] [.tt 131] (by kernel_rfl) (by kernel_rfl)
def s_f5_r29t2_x:=hL s_f5_r29t2 [7,9,10,51,129,130,131] [17]
def s_f5_r30t2:List AOper:=[⟨some 18,(.move (.t 134)),none⟩]
def s_f5_r30p1:List AOper:=[⟨some 134,(.mkSl [(.s (.bool false))] 1 1 (.t 133) (.t 133)),none⟩]
def s_f5_r30t1:List AOper:=s_f5_r30p1 ++ s_f5_r30t2
def s_f5_r30p0:List AOper:=[⟨some 132,(.move (.t 0)),none⟩,⟨some 133,(.lenS .s (.t 132)),none⟩]
def s_f5_r30:List AOper:=s_f5_r30p0 ++ s_f5_r30t1
def s_f5_r30p0_tale:=hT s_f5_r30p0 [132] [133] 134 [] [(133,(.op (.lenS .s (.t 0)) [(.t 0)]))] [.tt 0,.sub 0 [] []] (by kernel_rfl) (by kernel_rfl)
def s_f5_r30_x:=hS s_f5_r30 s_f5_r30p0 s_f5_r30t1 [132] [133] [132,133,134] rfl (by kernel_rfl)
def s_f5_r30t1_x:=hO s_f5_r30t1 s_f5_r30p1 s_f5_r30t2 [133] [132,133,134] [⟨some 134,(.mkSl [(.s (.bool false))] 1 1 (.t 133) (.t 133)),none⟩] rfl rfl (by kernel_rfl)
def s_f5_r30t2_tale:=hT s_f5_r30t2 [132,133,134] [18] 19 [] [(18,(.t 134))] [.tt 134] (by kernel_rfl) (by kernel_rfl)
def s_f5_r30t2_x:=hL s_f5_r30t2 [132,133,134] [18]
def s_f5_r31:List AOper:=[
 ⟨some 19,(.move (.c (.s (.int .i64 0)))),none⟩]
def s_f5_r31_tale:=hT s_f5_r31 [] [19] 20 [] [(19,(.c (.s (.int .i64 0))))] [.cc (.s (.int .i64 0))] (by kernel_rfl) (by kernel_rfl)
def s_f5_r32:List AOper:=[
 ⟨some 135,(.move (.t 19)),none⟩,
 ⟨some 136,(.move (.t 17)),none⟩,
 ⟨some 137,(.lenS .s (.t 136)),none⟩,
 ⟨some 138,(.bin .lss (.t 135) (.t 137)),none⟩]
def s_f5_r32_tale:=hT s_f5_r32 [135,136,137] [138] 139 [] [(138,(.op (.bin .lss (.t 0) (.t 1)) [(.t 19),(.op (.lenS .s (.t 0)) [(.t 17)])]))] [.tt 19,.tt 17,.sub 0 [1] [],.sub 0 [] []] (by kernel_rfl) (by kernel_rfl)
def s_f5_r33:List AOper:=[
 ⟨some 141,(.move (.t 17)),none⟩,
 ⟨some 142,(.move (.t 19)),none⟩,
 ⟨some 143,(.indexAddr 1 (.t 141) (.t 142)),none⟩,
 ⟨some 144,(.load false 1 (.t 143)),none⟩,
 ⟨some 145,(.bin .lss (.t 144) (.c (.s (.int .i64 0)))),none⟩,
 ⟨some 146,(.move (.t 145)),none⟩,
 ⟨some 147,(.move (.t 17)),some (146,false)⟩,
 ⟨some 148,(.move (.t 19)),some (146,false)⟩,
 ⟨some 149,(.indexAddr 1 (.t 147) (.t 148)),some (146,false)⟩,
 ⟨some 150,(.load false 1 (.t 149)),some (146,false)⟩,
 ⟨some 151,(.move (.t 0)),some (146,false)⟩,
 ⟨some 152,(.lenS .s (.t 151)),some (146,false)⟩,
 ⟨some 153,(.bin .geq (.t 150) (.t 152)),some (146,false)⟩,
 ⟨some 154,(.pick (.t 146) (.c (.s (.bool true))) (.t 153)),none⟩,
 ⟨some 155,(.move (.t 154)),none⟩,
 ⟨some 156,(.move (.t 19)),some (155,false)⟩,
 ⟨some 157,(.bin .gtr (.t 156) (.c (.s (.int .i64 0)))),some (155,false)⟩,
 ⟨some 158,(.move (.t 157)),some (155,false)⟩,
 ⟨some 159,(.move (.t 17)),some (158,true)⟩,
 ⟨some 160,(.move (.t 19)),some (158,true)⟩,
 ⟨some 161,(.indexAddr 1 (.t 159) (.t 160)),some (158,true)⟩,
 ⟨some 162,(.load false 1 (.t 161)),some (158,true)⟩,
 ⟨some 163,(.move (.t 17)),some (158,true)⟩,
 ⟨some 164,(.move (.t 19)),some (158,true)⟩,
 ⟨some 165,(.bin .sub (.t 164) (.c (.s (.int .i64 1)))),some (158,true)⟩,
 ⟨some 166,(.indexAddr 1 (.t 163) (.t 165)),some (158,true)⟩,
 ⟨some 167,(.load false 1 (.t 166)),some (158,true)⟩,
 ⟨some 168,(.bin .leq (.t 162) (.t 167)),some (158,true)⟩,
 ⟨some 169,(.pick (.t 158) (.t 168) (.c (.s (.bool false)))),some (155,false)⟩,
 ⟨some 170,(.pick (.t 155) (.c (.s (.bool true))) (.t 169)),none⟩]
def s_f5_r33_tale:=hT s_f5_r33 [138,141,142,143,144,145,146,147,148,149,150,151,152,153,154,155,156,157,158,159,160,161,162,163,164,165,166,167,168,169] [170] 171 [] [(170,(.pick (.pick (.op (.bin .lss (.t 0) (.c (.s (.int .i64 0)))) [(.op (.load false 1 (.t 0)) [(.op (.indexAddr 1 (.t 0) (.t 1)) [(.t 17),(.t 19)])]),(.c (.s (.int .i64 0)))]) (.c (.s (.bool true))) (.op (.bin .geq (.t 0) (.t 1)) [(.op (.load false 1 (.t 0)) [(.op (.indexAddr 1 (.t 0) (.t 1)) [(.t 17),(.t 19)])]),(.op (.lenS .s (.t 0)) [(.t 0)])])) (.c (.s (.bool true))) (.pick (.op (.bin .gtr (.t 0) (.c (.s (.int .i64 0)))) [(.t 19),(.c (.s (.int .i64 0)))]) (.op (.bin .leq (.t 0) (.t 1)) [(.op (.load false 1 (.t 0)) [(.op (.indexAddr 1 (.t 0) (.t 1)) [(.t 17),(.t 19)])]),(.op (.load false 1 (.t 0)) [(.op (.indexAddr 1 (.t 0) (.t 1)) [(.t 17),(.op (.bin .sub (.t 0) (.c (.s (.int .i64 1)))) [(.t 19),(.c (.s (.int .i64 1)))])])])]) (.c (.s (.bool false))))))] [.tt 17,.tt 19,.sub 0 [0,0,0,0] [],.sub 0 [0,0,0] [],.sub 0 [0,0] [],.sub 0 [0,0] [],.sub 0 [0,2,0,0,0] [146],.sub 0 [0,2,0,0,1] [146],.sub 0 [0,2,0,0] [146],.sub 0 [0,2,0] [146],.sub 0 [0,2,1,0] [146],.sub 0 [0,2,1] [146],.sub 0 [0,2] [146],.sub 0 [0] [],.sub 0 [0] [],.sub 0 [2,0,0] [155],.sub 0 [2,0] [155],.sub 0 [2,0] [155],.sub 0 [2,1,0,0,0] [155,158],.sub 0 [2,1,0,0,1] [155,158],.sub 0 [2,1,0,0] [155,158],.sub 0 [2,1,0] [155,158],.sub 0 [2,1,0,0,0] [155,158],.sub 0 [2,1,0,0,1] [155,158],.sub 0 [2,1,1,0,1] [155,158],.sub 0 [2,1,1,0] [155,158],.sub 0 [2,1,1] [155,158],.sub 0 [2,1] [155,158],.sub 0 [2] [155],.sub 0 [] []] (by kernel_rfl) (by kernel_rfl)
def s_f5_r34:List AOper:=[
 ⟨some 6,(.move (.c (.s (.bool false)))),none⟩]
def s_f5_r34_tale:=hT s_f5_r34 [0,2,8,17,18,19,170] [6] 7 [] [(6,(.c (.s (.bool false))))] [.cc (.s (.bool false))] (by kernel_rfl) (by kernel_rfl)
def s_f5_r35t1:List AOper:=[⟨none,(.store 1 (.t 176) (.c (.s (.bool true)))),none⟩]
def s_f5_r35p0:List AOper:=[⟨some 171,(.move (.t 18)),none⟩,⟨some 172,(.move (.t 17)),none⟩,⟨some 173,(.move (.t 19)),none⟩,⟨some 174,(.indexAddr 1 (.t 172) (.t 173)),none⟩,⟨some 175,(.load false 1 (.t 174)),none⟩,⟨some 176,(.indexAddr 1 (.t 171) (.t 175)),none⟩]
def s_f5_r35:List AOper:=s_f5_r35p0 ++ s_f5_r35t1
def s_f5_r35p0_tale:=hT s_f5_r35p0 [170,171,172,173,174,175] [176] 177 [] [(176,(.op (.indexAddr 1 (.t 0) (.t 1)) [(.t 18),(.op (.load false 1 (.t 0)) [(.op (.indexAddr 1 (.t 0) (.t 1)) [(.t 17),(.t 19)])])]))] [.tt 18,.tt 17,.tt 19,.sub 0 [1,0] [],.sub 0 [1] [],.sub 0 [] []] (by kernel_rfl) (by kernel_rfl)
def s_f5_r35_x:=hS s_f5_r35 s_f5_r35p0 s_f5_r35t1 [170,171,172,173,174,175] [176] [170,171,172,173,174,175,176] rfl (by kernel_rfl)
def s_f5_r35t1_x:=hX s_f5_r35t1 [170,171,172,173,174,175,176] [⟨none,(.store 1 (.t 176) (.c (.s (.bool true)))),none⟩] rfl
def s_f5_r36:List AOper:=[
 ⟨some 139,(.move (.t 19)),none⟩,
 ⟨some 140,(.bin .add (.t 139) (.c (.s (.int .i64 1)))),none⟩,
 ⟨some 19,(.move (.t 140)),none⟩]
def s_f5_r36_tale:=hT s_f5_r36 [139,140] [19] 141 [] [(19,(.op (.bin .add (.t 0) (.c (.s (.int .i64 1)))) [(.t 19),(.c (.s (.int .i64 1)))]))] [.tt 19,.sub 0 [] [],.sub 0 [] []] (by kernel_rfl) (by kernel_rfl)
def s_f5_l5_b:ACode:=
 (.seq (.seq (.regionE s_f5_r32 [135,136,137] [138])
 (.cond (.t 138)
 .skip
 (.exit 10)))
 (.seq (.block 11
 (.seq (.seq (.regionE s_f5_r33 [138,141,142,143,144,145,146,147,148,149,150,151,152,153,154,155,156,157,158,159,160,161,162,163,164,165,166,167,168,169] [170])
 (.cond (.t 170)
 (.seq (.regionE s_f5_r34 [0,2,8,17,18,19,170] [6])
 .ret)
 .skip))
 (.region s_f5_r35 [] [170,171,172,173,174,175,176])))
 (.regionE s_f5_r36 [139,140] [19])))
def s_f5_l5:ACode:=s_f5_l5_b
def s_f5_l5_ev:=hE s_f5_l5 s_f5_l5_b rfl
def s_f5_r37t2:List AOper:=[⟨some 20,(.move (.t 179)),none⟩]
def s_f5_r37p1:List AOper:=[⟨some 179,(.mkSl [(.s (.bool false))] 1 1 (.t 178) (.t 178)),none⟩]
def s_f5_r37t1:List AOper:=s_f5_r37p1 ++ s_f5_r37t2
def s_f5_r37p0:List AOper:=[⟨some 177,(.move (.t 0)),none⟩,⟨some 178,(.lenS .s (.t 177)),none⟩]
def s_f5_r37:List AOper:=s_f5_r37p0 ++ s_f5_r37t1
def s_f5_r37p0_tale:=hT s_f5_r37p0 [17,19,138,177] [178] 179 [] [(178,(.op (.lenS .s (.t 0)) [(.t 0)]))] [.tt 0,.sub 0 [] []] (by kernel_rfl) (by kernel_rfl)
def s_f5_r37_x:=hS s_f5_r37 s_f5_r37p0 s_f5_r37t1 [17,19,138,177] [178] [17,19,138,177,178,179] rfl (by kernel_rfl)
def s_f5_r37t1_x:=hO s_f5_r37t1 s_f5_r37p1 s_f5_r37t2 [178] [17,19,138,177,178,179] [⟨some 179,(.mkSl [(.s (.bool false))] 1 1 (.t 178) (.t 178)),none⟩] rfl rfl (by kernel_rfl)
def s_f5_r37t2_tale:=hT s_f5_r37t2 [17,19,138,177,178,179] [20] 21 [] [(20,(.t 179))] [.tt 179] (by kernel_rfl) (by kernel_rfl)
def s_f5_r37t2_x:=hL s_f5_r37t2 [17,19,138,177,178,179] [20]
def s_f5_r38:List AOper:=[
 ⟨some 21,(.move (.c (.s (.bool true)))),none⟩]
def s_f5_r38_tale:=hT s_f5_r38 [] [21] 22 [] [(21,(.c (.s (.bool true))))] [.cc (.s (.bool true))] (by kernel_rfl) (by kernel_rfl)
def s_f5_r39:List AOper:=[
 ⟨some 180,(.move (.t 21)),none⟩]
def s_f5_r39_tale:=hT s_f5_r39 [21] [180] 181 [] [(180,(.t 21))] [.tt 21] (by kernel_rfl) (by kernel_rfl)
def s_f5_r40:List AOper:=[
 ⟨some 21,(.move (.c (.s (.bool false)))),none⟩]
def s_f5_r40_tale:=hT s_f5_r40 [180] [21] 22 [] [(21,(.c (.s (.bool false))))] [.cc (.s (.bool false))] (by kernel_rfl) (by kernel_rfl)
def s_f5_r41:List AOper:=[
 ⟨some 22,(.move (.c (.s (.int .i64 0)))),none⟩]
def s_f5_r41_tale:=hT s_f5_r41 [] [22] 23 [] [(22,(.c (.s (.int .i64 0))))] [.cc (.s (.int .i64 0))] (by kernel_rfl) (by kernel_rfl)
def s_f5_r42:List AOper:=[
 ⟨some 181,(.move (.t 22)),none⟩,
 ⟨some 182,(.move (.t 0)),none⟩,
 ⟨some 183,(.lenS .s (.t 182)),none⟩,
 ⟨some 184,(.bin .lss (.t 181) (.t 183)),none⟩]
def s_f5_r42_tale:=hT s_f5_r42 [181,182,183] [184] 185 [] [(184,(.op (.bin .lss (.t 0) (.t 1)) [(.t 22),(.op (.lenS .s (.t 0)) [(.t 0)])]))] [.tt 22,.tt 0,.sub 0 [1] [],.sub 0 [] []] (by kernel_rfl) (by kernel_rfl)
def s_f5_r43:List AOper:=[
 ⟨some 187,(.move (.t 20)),none⟩,
 ⟨some 188,(.move (.t 22)),none⟩,
 ⟨some 189,(.indexAddr 1 (.t 187) (.t 188)),none⟩,
 ⟨some 190,(.load false 1 (.t 189)),none⟩,
 ⟨some 23,(.move (.t 190)),none⟩]
def s_f5_r43_tale:=hT s_f5_r43 [184,187,188,189,190] [23] 191 [] [(23,(.op (.load false 1 (.t 0)) [(.op (.indexAddr 1 (.t 0) (.t 1)) [(.t 20),(.t 22)])]))] [.tt 20,.tt 22,.sub 0 [0] [],.sub 0 [] [],.sub 0 [] []] (by kernel_rfl) (by kernel_rfl)
def s_f5_r44:List AOper:=[
 ⟨some 24,(.move (.c (.s (.int .i64 0)))),none⟩]
def s_f5_r44_tale:=hT s_f5_r44 [] [24] 25 [] [(24,(.c (.s (.int .i64 0))))] [.cc (.s (.int .i64 0))] (by kernel_rfl) (by kernel_rfl)
def s_f5_r45:List AOper:=[
 ⟨some 191,(.move (.t 24)),none⟩,
 ⟨some 192,(.move (.t 2)),none⟩,
 ⟨some 193,(.lenS .s (.t 192)),none⟩,
 ⟨some 194,(.bin .lss (.t 191) (.t 193)),none⟩]
def s_f5_r45_tale:=hT s_f5_r45 [191,192,193] [194] 195 [] [(194,(.op (.bin .lss (.t 0) (.t 1)) [(.t 24),(.op (.lenS .s (.t 0)) [(.t 2)])]))] [.tt 24,.tt 2,.sub 0 [1] [],.sub 0 [] []] (by kernel_rfl) (by kernel_rfl)
def s_f5_r46:List AOper:=[
 ⟨some 197,(.move (.t 23)),none⟩,
 ⟨some 198,(.move (.t 197)),none⟩,
 ⟨some 199,(.move (.t 2)),some (198,false)⟩,
 ⟨some 200,(.move (.t 24)),some (198,false)⟩,
 ⟨some 201,(.indexAddr 1 (.t 199) (.t 200)),some (198,false)⟩,
 ⟨some 202,(.load false 1 (.t 201)),some (198,false)⟩,
 ⟨some 203,(.move (.t 22)),some (198,false)⟩,
 ⟨some 204,(.bin .eql (.t 202) (.t 203)),some (198,false)⟩,
 ⟨some 205,(.pick (.t 198) (.c (.s (.bool true))) (.t 204)),none⟩,
 ⟨some 23,(.move (.t 205)),none⟩]
def s_f5_r46_tale:=hT s_f5_r46 [194,197,198,199,200,201,202,203,204,205] [23] 206 [] [(23,(.pick (.t 23) (.c (.s (.bool true))) (.op (.bin .eql (.t 0) (.t 1)) [(.op (.load false 1 (.t 0)) [(.op (.indexAddr 1 (.t 0) (.t 1)) [(.t 2),(.t 24)])]),(.t 22)])))] [.tt 23,.tt 23,.sub 0 [2,0,0,0] [198],.sub 0 [2,0,0,1] [198],.sub 0 [2,0,0] [198],.sub 0 [2,0] [198],.sub 0 [2,1] [198],.sub 0 [2] [198],.sub 0 [] [],.sub 0 [] []] (by kernel_rfl) (by kernel_rfl)
def s_f5_r47:List AOper:=[
 ⟨some 195,(.move (.t 24)),none⟩,
 ⟨some 196,(.bin .add (.t 195) (.c (.s (.int .i64 1)))),none⟩,
 ⟨some 24,(.move (.t 196)),none⟩]
def s_f5_r47_tale:=hT s_f5_r47 [195,196] [24] 197 [] [(24,(.op (.bin .add (.t 0) (.c (.s (.int .i64 1)))) [(.t 24),(.c (.s (.int .i64 1)))]))] [.tt 24,.sub 0 [] [],.sub 0 [] []] (by kernel_rfl) (by kernel_rfl)
def s_f5_l6_b:ACode:=
 (.seq (.seq (.regionE s_f5_r45 [191,192,193] [194])
 (.cond (.t 194)
 .skip
 (.exit 16)))
 (.seq (.block 17
 (.regionE s_f5_r46 [194,197,198,199,200,201,202,203,204,205] [23]))
 (.regionE s_f5_r47 [195,196] [24])))
def s_f5_l6:ACode:=s_f5_l6_b
def s_f5_l6_ev:=hE s_f5_l6 s_f5_l6_b rfl
def s_f5_r48:List AOper:=[
 ⟨some 25,(.move (.c (.s (.int .i64 0)))),none⟩]
def s_f5_r48_tale:=hT s_f5_r48 [24,194] [25] 26 [] [(25,(.c (.s (.int .i64 0))))] [.cc (.s (.int .i64 0))] (by kernel_rfl) (by kernel_rfl)
def s_f5_r49:List AOper:=[
 ⟨some 206,(.move (.t 23)),none⟩,
 ⟨some 207,(.move (.t 206)),none⟩,
 ⟨some 208,(.move (.t 25)),some (207,true)⟩,
 ⟨some 209,(.move (.t 8)),some (207,true)⟩,
 ⟨some 210,(.move (.t 22)),some (207,true)⟩,
 ⟨some 211,(.indexAddr 1 (.t 209) (.t 210)),some (207,true)⟩,
 ⟨some 212,(.load false 1 (.t 211)),some (207,true)⟩,
 ⟨some 213,(.lenS .s (.t 212)),some (207,true)⟩,
 ⟨some 214,(.bin .lss (.t 208) (.t 213)),some (207,true)⟩,
 ⟨some 215,(.pick (.t 207) (.t 214) (.c (.s (.bool false)))),none⟩]
def s_f5_r49_tale:=hT s_f5_r49 [206,207,208,209,210,211,212,213,214] [215] 216 [] [(215,(.pick (.t 23) (.op (.bin .lss (.t 0) (.t 1)) [(.t 25),(.op (.lenS .s (.t 0)) [(.op (.load false 1 (.t 0)) [(.op (.indexAddr 1 (.t 0) (.t 1)) [(.t 8),(.t 22)])])])]) (.c (.s (.bool false)))))] [.tt 23,.tt 23,.sub 0 [1,0] [207],.sub 0 [1,1,0,0,0] [207],.sub 0 [1,1,0,0,1] [207],.sub 0 [1,1,0,0] [207],.sub 0 [1,1,0] [207],.sub 0 [1,1] [207],.sub 0 [1] [207],.sub 0 [] []] (by kernel_rfl) (by kernel_rfl)
def s_f5_r50:List AOper:=[
 ⟨some 218,(.move (.t 20)),none⟩,
 ⟨some 219,(.move (.t 8)),none⟩,
 ⟨some 220,(.move (.t 22)),none⟩,
 ⟨some 221,(.indexAddr 1 (.t 219) (.t 220)),none⟩,
 ⟨some 222,(.load false 1 (.t 221)),none⟩,
 ⟨some 223,(.move (.t 25)),none⟩,
 ⟨some 224,(.indexAddr 1 (.t 222) (.t 223)),none⟩,
 ⟨some 225,(.load false 1 (.t 224)),none⟩,
 ⟨some 226,(.indexAddr 1 (.t 218) (.t 225)),none⟩,
 ⟨some 227,(.load false 1 (.t 226)),none⟩,
 ⟨some 228,(.un .not (.t 227)),none⟩]
def s_f5_r50_tale:=hT s_f5_r50 [215,218,219,220,221,222,223,224,225,226,227] [228] 229 [] [(228,(.op (.un .not (.t 0)) [(.op (.load false 1 (.t 0)) [(.op (.indexAddr 1 (.t 0) (.t 1)) [(.t 20),(.op (.load false 1 (.t 0)) [(.op (.indexAddr 1 (.t 0) (.t 1)) [(.op (.load false 1 (.t 0)) [(.op (.indexAddr 1 (.t 0) (.t 1)) [(.t 8),(.t 22)])]),(.t 25)])])])])]))] [.tt 20,.tt 8,.tt 22,.sub 0 [0,0,1,0,0,0] [],.sub 0 [0,0,1,0,0] [],.tt 25,.sub 0 [0,0,1,0] [],.sub 0 [0,0,1] [],.sub 0 [0,0] [],.sub 0 [0] [],.sub 0 [] []] (by kernel_rfl) (by kernel_rfl)
def s_f5_r51t1:List AOper:=[⟨none,(.store 1 (.t 237) (.c (.s (.bool true)))),none⟩]
def s_f5_r51p0:List AOper:=[⟨some 229,(.move (.t 20)),none⟩,⟨some 230,(.move (.t 8)),none⟩,⟨some 231,(.move (.t 22)),none⟩,⟨some 232,(.indexAddr 1 (.t 230) (.t 231)),none⟩,⟨some 233,(.load false 1 (.t 232)),none⟩,⟨some 234,(.move (.t 25)),none⟩,⟨some 235,(.indexAddr 1 (.t 233) (.t 234)),none⟩,⟨some 236,(.load false 1 (.t 235)),none⟩,⟨some 237,(.indexAddr 1 (.t 229) (.t 236)),none⟩]
def s_f5_r51:List AOper:=s_f5_r51p0 ++ s_f5_r51t1
def s_f5_r51p0_tale:=hT s_f5_r51p0 [21,228,229,230,231,232,233,234,235,236] [237] 238 [] [(237,(.op (.indexAddr 1 (.t 0) (.t 1)) [(.t 20),(.op (.load false 1 (.t 0)) [(.op (.indexAddr 1 (.t 0) (.t 1)) [(.op (.load false 1 (.t 0)) [(.op (.indexAddr 1 (.t 0) (.t 1)) [(.t 8),(.t 22)])]),(.t 25)])])]))] [.tt 20,.tt 8,.tt 22,.sub 0 [1,0,0,0] [],.sub 0 [1,0,0] [],.tt 25,.sub 0 [1,0] [],.sub 0 [1] [],.sub 0 [] []] (by kernel_rfl) (by kernel_rfl)
def s_f5_r51_x:=hS s_f5_r51 s_f5_r51p0 s_f5_r51t1 [21,228,229,230,231,232,233,234,235,236] [237] [21,228,229,230,231,232,233,234,235,236,237] rfl (by kernel_rfl)
def s_f5_r51t1_x:=hX s_f5_r51t1 [21,228,229,230,231,232,233,234,235,236,237] [⟨none,(.store 1 (.t 237) (.c (.s (.bool true)))),none⟩] rfl
def s_f5_r52:List AOper:=[
 ⟨some 21,(.move (.c (.s (.bool true)))),none⟩]
def s_f5_r52_tale:=hT s_f5_r52 [] [21] 22 [] [(21,(.c (.s (.bool true))))] [.cc (.s (.bool true))] (by kernel_rfl) (by kernel_rfl)
def s_f5_r53:List AOper:=[
 ⟨some 216,(.move (.t 25)),none⟩,
 ⟨some 217,(.bin .add (.t 216) (.c (.s (.int .i64 1)))),none⟩,
 ⟨some 25,(.move (.t 217)),none⟩]
def s_f5_r53_tale:=hT s_f5_r53 [216,217,228] [25] 218 [] [(25,(.op (.bin .add (.t 0) (.c (.s (.int .i64 1)))) [(.t 25),(.c (.s (.int .i64 1)))]))] [.tt 25,.sub 0 [] [],.sub 0 [] []] (by kernel_rfl) (by kernel_rfl)
def s_f5_l7_b:ACode:=
 (.seq (.seq (.regionE s_f5_r49 [206,207,208,209,210,211,212,213,214] [215])
 (.cond (.t 215)
 .skip
 (.exit 18)))
 (.seq (.block 19
 (.seq (.regionE s_f5_r50 [215,218,219,220,221,222,223,224,225,226,227] [228])
 (.cond (.t 228)
 (.seq (.region s_f5_r51 [] [21,228,229,230,231,232,233,234,235,236,237])
 (.regionE s_f5_r52 [] [21]))
 .skip)))
 (.regionE s_f5_r53 [216,217,228] [25])))
def s_f5_l7:ACode:=s_f5_l7_b
def s_f5_l7_ev:=hE s_f5_l7 s_f5_l7_b rfl
def s_f5_r54:List AOper:=[
 ⟨some 185,(.move (.t 22)),none⟩,
 ⟨some 186,(.bin .add (.t 185) (.c (.s (.int .i64 1)))),none⟩,
 ⟨some 22,(.move (.t 186)),none⟩]
def s_f5_r54_tale:=hT s_f5_r54 [23,25,185,186,215] [22] 187 [] [(22,(.op (.bin .add (.t 0) (.c (.s (.int .i64 1)))) [(.t 22),(.c (.s (.int .i64 1)))]))] [.tt 22,.sub 0 [] [],.sub 0 [] []] (by kernel_rfl) (by kernel_rfl)
def s_f5_l8_b:ACode:=
 (.seq (.seq (.regionE s_f5_r42 [181,182,183] [184])
 (.cond (.t 184)
 .skip
 (.exit 14)))
 (.seq (.block 15
 (.seq (.regionE s_f5_r43 [184,187,188,189,190] [23])
 (.seq (.seq (.regionE s_f5_r44 [] [24])
 (.block 16
 (.loop [] s_f5_l6)))
 (.seq (.regionE s_f5_r48 [24,194] [25])
 (.block 18
 (.loop [] s_f5_l7))))))
 (.regionE s_f5_r54 [23,25,185,186,215] [22])))
def s_f5_l8:ACode:=s_f5_l8_b
def s_f5_l8_ev:=hE s_f5_l8 s_f5_l8_b rfl
def s_f5_l9_b:ACode:=
 (.seq (.seq (.regionE s_f5_r39 [21] [180])
 (.cond (.t 180)
 .skip
 (.exit 12)))
 (.block 13
 (.seq (.regionE s_f5_r40 [180] [21])
 (.seq (.regionE s_f5_r41 [] [22])
 (.block 14
 (.loop [] s_f5_l8))))))
def s_f5_l9:ACode:=s_f5_l9_b
def s_f5_l9_ev:=hE s_f5_l9 s_f5_l9_b rfl
def s_f5_r55:List AOper:=[
 ⟨some 26,(.move (.c (.s (.int .i64 0)))),none⟩]
def s_f5_r55_tale:=hT s_f5_r55 [2,8,180] [26] 27 [] [(26,(.c (.s (.int .i64 0))))] [.cc (.s (.int .i64 0))] (by kernel_rfl) (by kernel_rfl)
def s_f5_r56:List AOper:=[
 ⟨some 238,(.move (.t 26)),none⟩,
 ⟨some 239,(.move (.t 0)),none⟩,
 ⟨some 240,(.lenS .s (.t 239)),none⟩,
 ⟨some 241,(.bin .lss (.t 238) (.t 240)),none⟩]
def s_f5_r56_tale:=hT s_f5_r56 [238,239,240] [241] 242 [] [(241,(.op (.bin .lss (.t 0) (.t 1)) [(.t 26),(.op (.lenS .s (.t 0)) [(.t 0)])]))] [.tt 26,.tt 0,.sub 0 [1] [],.sub 0 [] []] (by kernel_rfl) (by kernel_rfl)
def s_f5_r57:List AOper:=[
 ⟨some 244,(.move (.t 18)),none⟩,
 ⟨some 245,(.move (.t 26)),none⟩,
 ⟨some 246,(.indexAddr 1 (.t 244) (.t 245)),none⟩,
 ⟨some 247,(.load false 1 (.t 246)),none⟩,
 ⟨some 248,(.move (.t 20)),none⟩,
 ⟨some 249,(.move (.t 26)),none⟩,
 ⟨some 250,(.indexAddr 1 (.t 248) (.t 249)),none⟩,
 ⟨some 251,(.load false 1 (.t 250)),none⟩,
 ⟨some 252,(.eqB true (.t 247) (.t 251)),none⟩]
def s_f5_r57_tale:=hT s_f5_r57 [241,244,245,246,247,248,249,250,251] [252] 253 [] [(252,(.op (.eqB true (.t 0) (.t 1)) [(.op (.load false 1 (.t 0)) [(.op (.indexAddr 1 (.t 0) (.t 1)) [(.t 18),(.t 26)])]),(.op (.load false 1 (.t 0)) [(.op (.indexAddr 1 (.t 0) (.t 1)) [(.t 20),(.t 26)])])]))] [.tt 18,.tt 26,.sub 0 [0,0] [],.sub 0 [0] [],.tt 20,.tt 26,.sub 0 [1,0] [],.sub 0 [1] [],.sub 0 [] []] (by kernel_rfl) (by kernel_rfl)
def s_f5_r58:List AOper:=[
 ⟨some 6,(.move (.c (.s (.bool false)))),none⟩]
def s_f5_r58_tale:=hT s_f5_r58 [0,18,20,26,252] [6] 7 [] [(6,(.c (.s (.bool false))))] [.cc (.s (.bool false))] (by kernel_rfl) (by kernel_rfl)
def s_f5_r59:List AOper:=[
 ⟨some 242,(.move (.t 26)),none⟩,
 ⟨some 243,(.bin .add (.t 242) (.c (.s (.int .i64 1)))),none⟩,
 ⟨some 26,(.move (.t 243)),none⟩]
def s_f5_r59_tale:=hT s_f5_r59 [242,243,252] [26] 244 [] [(26,(.op (.bin .add (.t 0) (.c (.s (.int .i64 1)))) [(.t 26),(.c (.s (.int .i64 1)))]))] [.tt 26,.sub 0 [] [],.sub 0 [] []] (by kernel_rfl) (by kernel_rfl)
def s_f5_l10_b:ACode:=
 (.seq (.seq (.regionE s_f5_r56 [238,239,240] [241])
 (.cond (.t 241)
 .skip
 (.exit 20)))
 (.seq (.block 21
 (.seq (.regionE s_f5_r57 [241,244,245,246,247,248,249,250,251] [252])
 (.cond (.t 252)
 (.seq (.regionE s_f5_r58 [0,18,20,26,252] [6])
 .ret)
 .skip)))
 (.regionE s_f5_r59 [242,243,252] [26])))
def s_f5_l10:ACode:=s_f5_l10_b
def s_f5_l10_ev:=hE s_f5_l10 s_f5_l10_b rfl
def s_f5_r60t1:List AOper:=[⟨some 6,(.move (.t 253)),none⟩]
def s_f5_r60p0:List AOper:=[⟨some 253,(.call (.c (.fn 9 [] [])) []),none⟩]
def s_f5_r60:List AOper:=s_f5_r60p0 ++ s_f5_r60t1
def s_f5_r60_x:=hO s_f5_r60 s_f5_r60p0 s_f5_r60t1 [0,18,20,26,241] [0,18,20,26,241,253] [⟨some 253,(.call (.c (.fn 9 [] [])) []),none⟩] rfl rfl (by kernel_rfl)
def s_f5_r60t1_tale:=hT s_f5_r60t1 [0,18,20,26,241,253] [6] 7 [] [(6,(.t 253))] [.tt 253] (by kernel_rfl) (by kernel_rfl)
def s_f5_r60t1_x:=hL s_f5_r60t1 [0,18,20,26,241,253] [6]
def s_f5:ACFun:={ ntmps:=254,results:=[(.tmp 6)],body:=
 (.seq (.regionE s_f5_r0 s_f5_r0_k [])
 (.seq (.seq (.region s_f5_r1 [] [27,28,29,30,31,32])
 (.cond (.t 33)
 (.seq (.region s_f5_r2 [] [0,1,2,33,34])
 .ret)
 .skip))
 (.seq (.region s_f5_r3 [] [33,35,36,37])
 (.seq (.region s_f5_r4 [] [1,38,39,40])
 (.seq (.region s_f5_r5 [] [41,42])
 (.seq (.seq (.regionE s_f5_r6 [43,44,45,46] [47])
 (.cond (.t 47)
 (.seq (.regionE s_f5_r7 [0,2,7,8,9,47] [6])
 .ret)
 .skip))
 (.seq (.seq (.regionE s_f5_r8 [47] [10])
 (.block 0
 (.loop [] s_f5_l4)))
 (.seq (.region s_f5_r29 [] [7,9,10,51,129,130,131])
 (.seq (.region s_f5_r30 [] [132,133,134])
 (.seq (.seq (.regionE s_f5_r31 [] [19])
 (.block 10
 (.loop [] s_f5_l5)))
 (.seq (.region s_f5_r37 [] [17,19,138,177,178,179])
 (.seq (.seq (.regionE s_f5_r38 [] [21])
 (.block 12
 (.loop [22,184] s_f5_l9)))
 (.seq (.seq (.regionE s_f5_r55 [2,8,180] [26])
 (.block 20
 (.loop [] s_f5_l10)))
 (.seq (.region s_f5_r60 [] [0,18,20,26,241,253])
 .ret)))))))))))))) }
def a_f5:=ai @s_f5_r0_tale (ai @s_f5_r0_kT (ai @s_f5_r0_kA0 (ai @s_f5_r0_kA1 (ai @s_f5_r0_kA2 (ai @s_f5_r1p0_tale (ai @s_f5_r1_x (ai @s_f5_r1t1_x (ai @s_f5_r1t2_tale (ai @s_f5_r1t2_x (ai @s_f5_r2_x (ai @s_f5_r2t1_tale (ai @s_f5_r2t1_x (ai @s_f5_r3p0_tale (ai @s_f5_r3_x (ai @s_f5_r3t1_x (ai @s_f5_r3t2_tale (ai @s_f5_r3t2_x (ai @s_f5_r4p0_tale (ai @s_f5_r4_x (ai @s_f5_r4t1_x (ai @s_f5_r4t2_tale (ai @s_f5_r4t2_x (ai @s_f5_r5p0_tale (ai @s_f5_r5_x (ai @s_f5_r5t1_x (ai @s_f5_r5t2_tale (ai @s_f5_r5t2_x (ai @s_f5_r6_tale (ai @s_f5_r7_tale (ai @s_f5_r8_tale (ai @s_f5_r9_tale (ai @s_f5_r10_tale (ai @s_f5_r11_tale (ai @s_f5_r12_tale (ai @s_f5_r13_tale (ai @s_f5_r14_tale (ai @s_f5_r15_tale (ai @s_f5_r16_tale (ai @s_f5_r17p0_tale (ai @s_f5_r17_x (ai @s_f5_r17t1_x (ai @s_f5_r17t2_x (ai @s_f5_r17t3_x (ai @s_f5_r17t4_x (ai @s_f5_r17t5_x (ai @s_f5_r17t6_x (ai @s_f5_r17t7_x (ai @s_f5_r17t8_x (ai @s_f5_r17t9_x (ai @s_f5_r17t10_x (ai @s_f5_r17t11_x (ai @s_f5_r17t12_x (ai @s_f5_r17t13_x (ai @s_f5_r17t14_x (ai @s_f5_r17t15_x (ai @s_f5_r17t16_x (ai @s_f5_r17t17_x (ai @s_f5_r17t18_x (ai @s_f5_r17t19_x (ai @s_f5_r17t20_x (ai @s_f5_r17t21_x (ai @s_f5_r17t22_x (ai @s_f5_r17t23_x (ai @s_f5_r17t24_x (ai @s_f5_r17t25_tale (ai @s_f5_r17t25_x (ai @s_f5_r18_tale (ai @s_f5_l0_ev (ai @s_f5_r19_tale (ai @s_f5_l1_ev (ai @s_f5_r20_tale (ai @s_f5_r21_tale (ai @s_f5_r22_tale (ai @s_f5_r23_tale (ai @s_f5_r24_tale (ai @s_f5_l2_ev (ai @s_f5_r25_tale (ai @s_f5_r26_tale (ai @s_f5_r27_tale (ai @s_f5_l3_ev (ai @s_f5_r28_tale (ai @s_f5_l4_ev (ai @s_f5_r29p0_tale (ai @s_f5_r29_x (ai @s_f5_r29t1_x (ai @s_f5_r29t2_tale (ai @s_f5_r29t2_x (ai @s_f5_r30p0_tale (ai @s_f5_r30_x (ai @s_f5_r30t1_x (ai @s_f5_r30t2_tale (ai @s_f5_r30t2_x (ai @s_f5_r31_tale (ai @s_f5_r32_tale (ai @s_f5_r33_tale (ai @s_f5_r34_tale (ai @s_f5_r35p0_tale (ai @s_f5_r35_x (ai @s_f5_r35t1_x (ai @s_f5_r36_tale (ai @s_f5_l5_ev (ai @s_f5_r37p0_tale (ai @s_f5_r37_x (ai @s_f5_r37t1_x (ai @s_f5_r37t2_tale (ai @s_f5_r37t2_x (ai @s_f5_r38_tale (ai @s_f5_r39_tale (ai @s_f5_r40_tale (ai @s_f5_r41_tale (ai @s_f5_r42_tale (ai @s_f5_r43_tale (ai @s_f5_r44_tale (ai @s_f5_r45_tale (ai @s_f5_r46_tale (ai @s_f5_r47_tale (ai @s_f5_l6_ev (ai @s_f5_r48_tale (ai @s_f5_r49_tale (ai @s_f5_r50_tale (ai @s_f5_r51p0_tale (ai @s_f5_r51_x (ai @s_f5_r51t1_x (ai @s_f5_r52_tale (ai @s_f5_r53_tale (ai @s_f5_l7_ev (ai @s_f5_r54_tale (ai @s_f5_l8_ev (ai @s_f5_l9_ev (ai @s_f5_r55_tale (ai @s_f5_r56_tale (ai @s_f5_r57_tale (ai @s_f5_r58_tale (ai @s_f5_r59_tale (ai @s_f5_l10_ev (ai @s_f5_r60_x (ai @s_f5_r60t1_tale (@s_f5_r60t1_x))))))))))))))))))))))))))))))))))))))))))))))))))))))))))))))))))))))))))))))))))))))))))))))))))))))))))))))))))))))))))))))))))))))))))
theorem DA6_5:compK Try.prog PX0 5=some (false,s_f5.ntmps,s_f5.results,s_f5.body.bare):=by kernel_rfl
end Go.Proofs.Ytdmnenlpdeolaaa
set_option maxRecDepth 100000
namespace Go.Proofs.Ytdmnenlpdeolaaa
open Go.AM
def Touch (v v':V) (H H':Heap):Prop:=(H'=H∧v'=v)∨∃ id g n n' ob,v=.sl id g 0 n 1∧v'=.sl id g 0 n' 1∧H'=H.set id ob
theorem Touch.same (v:V) (H:Heap):Touch v v H H:=.inl ⟨rfl,rfl⟩
theorem Touch.put (id g n n':Nat) (ob:Ob) (H:Heap):Touch (.sl id g 0 n 1) (.sl id g 0 n' 1) H (H.set id ob):=.inr ⟨id,g,n,n',ob,rfl,rfl,rfl⟩
theorem Touch.trans {v v' v2:V} {H H' H2:Heap} (h:Touch v v' H H') (k:Touch v' v2 H' H2):Touch v v2 H H2:=by
 rcases h with ⟨rfl,rfl⟩ | ⟨id,g,n,n',ob,rfl,rfl,rfl⟩
 ·exact k
 ·rcases k with ⟨rfl,rfl⟩ | ⟨id',g',m,m',ob',e,rfl,rfl⟩
  ·exact .inr ⟨id,g,n,n',ob,rfl,rfl,rfl⟩
  ·cases e
   exact .inr ⟨id,g,n,m',ob',rfl,rfl,by rw [List.set_set]⟩
theorem compact_own2 {CT:Nat→Option CFun} (hT:CT k_f30=some (.code s_f30)) (base m:Nat) (H:Heap) (v:V) (l:List Int) (hv:OwnN m H v (l.map iV)) (hb:base≤m) (hn:l.length < 2 ^ 62):
 ∃ v' H',callW CT (.fn k_f30 [] []) [v] base H=some (v',H')∧OwnN m H' v' ((compactZ l).map iV)∧Touch v v' H H':=by
 by_cases h2:l.length < 2
 ·refine ⟨v,H,?_,?_,Touch.same _ _⟩
  ·refine callW_fn (c:=s_f30) hT (by simp [s_f30]) ?_
   have h2':((l.length:Nat):Int) < 2:=by omega
   simp only [s_f30,a_f30,s_f30_l0_b,s_f30_l1_b,aa,bl,i64,reduceIte,reduceCtorEq,Nat.reduceEqDiff,Nat.reduceLT,Nat.reduceLeDiff,Nat.reduceBEq,Nat.reduceAdd,fillA,splice,Nat.reduceMul,amY,op_eqP,hv.rd.len,List.length_map,h2']
  ·match l,h2 with
   | [],_=>exact hv
   | [x],_=>exact hv
 ·rcases hv with ⟨h,_⟩ | ⟨id,g,c,rfl,hc,hl,ht,hid⟩
  ·have:=congrArg List.length h
   simp at this
   subst this
   simp at h2
  ·rw [List.length_map] at hl ht ⊢
   have hr:∀ j,j < l.length→c[j]?=some (iV (l.getD j 0)):=fun j hj=>by
    rw [← map_get hj,← ht,List.getElem?_take_of_lt hj]
   have hlt:=getC_lt hc
   match l,h2,hr,hl,ht,hn with
   | [],h2,_,_,_,_=>simp at h2
   | x :: r,h2,hr,hl,ht,hn=>
     have ho:=compact_outer (callW CT) base id g (x :: r).length (x :: r) rfl (by omega) hn H hlt c hl hc hr r 1 rfl (Nat.le_refl _) (by simp)
     have e0:(x :: r).getD (1 - 1) 0=x:=rfl
     rw [e0] at ho
     have c1:((1:Nat):Int)=1:=rfl
     rw [c1,List.length_cons] at ho
     have h2':¬ ((r.length+1:Nat):Int) < 2:=by simp at h2;omega
     rcases ho with ⟨q,hq⟩ | ⟨c',q,q2,q3⟩
     ·refine ⟨.sl id g 0 (x :: r).length 1,H,?_,?_,Touch.same _ _⟩
      ·refine callW_fn (c:=s_f30) hT (by simp [s_f30]) ?_
       simp only [s_f30,a_f30,s_f30_l0_b,s_f30_l1_b,aa,bl,i64,reduceIte,reduceCtorEq,Nat.reduceEqDiff,Nat.reduceLT,Nat.reduceLeDiff,Nat.reduceBEq,Nat.reduceAdd,fillA,splice,Nat.reduceMul,amY,op_eqP,h2',q]
      ·rw [show compactZ (x :: r)=x :: r by simp only [compactZ,hq]]
       exact .inr ⟨id,g,c,by rw [List.length_map],hc,by rw [List.length_map];exact hl,by rw [List.length_map];exact ht,hid⟩
     ·refine ⟨.sl id g 0 (1+(chg x r).length) 1,H.set id (.cells g c'),?_,?_,Touch.put _ _ _ _ _ _⟩
      ·refine callW_fn (c:=s_f30) hT (by simp [s_f30]) ?_
       simp only [s_f30,a_f30,s_f30_l0_b,s_f30_l1_b,aa,bl,i64,reduceIte,reduceCtorEq,Nat.reduceEqDiff,Nat.reduceLT,Nat.reduceLeDiff,Nat.reduceBEq,Nat.reduceAdd,fillA,splice,Nat.reduceMul,amY,op_eqP,h2',q]
      ·have hcl:=chg_len r x
       refine .inr ⟨id,g,c',?_,getC_put hc,?_,?_,hid⟩
       ·simp [compactZ];omega
       ·simp [compactZ] at hl ⊢;omega
       ·have:((compactZ (x :: r)).map iV).length=1+(chg x r).length:=by simp [compactZ];omega
        rw [this,q3];rfl
theorem sort_own2 {CT:Nat→Option CFun} (hT:CT k_f29=some (.prim sortG)) (base m:Nat) (H:Heap) (v:V) (l:List Int) (hv:OwnN m H v (l.map iV)) (hb:base≤m) (hn:l.length < 2 ^ 62):
 ∃ H',callW CT (.fn k_f29 [] []) [v] base H=some (und,H')∧OwnN m H' v ((sortZ l).map iV)∧Touch v v H H':=by
 have hp:∀ r,sortG [v] base H=some r→callW CT (.fn k_f29 [] []) [v] base H=some r:=fun r hr=>callW_eq (by simp only [evCall,hT,List.nil_append,List.append_nil];exact hr)
 have hsl:(sortZ l).length=l.length:=by rw [sortZ,List.length_mergeSort]
 have hnil:l=[]→sortZ l=[]:=fun h=>by subst h;simp [sortZ]
 rcases hv with ⟨h,hv⟩ | ⟨id,g,c,rfl,hc,hl,ht,hid⟩
 ·have h':l=[]:=by simpa using h
  refine ⟨H,hp _ ?_,.inl ⟨by rw [hnil h'];rfl,hv⟩,Touch.same _ _⟩
  rcases hv with rfl | rfl <;> rfl
 ·rw [List.length_map] at hl ht
  by_cases h0:l.length=0
  ·have h':l=[]:=List.eq_nil_of_length_eq_zero h0
   refine ⟨H,hp _ ?_,.inr ⟨id,g,c,by simp [hsl],hc,by simp [hsl];exact hl,by simp [hnil h'],hid⟩,Touch.same _ _⟩
   simp only [sortG,List.length_map,h0,if_true]
  ·refine ⟨H.set id (.cells g (splice c 0 ((sortZ l).map iV))),hp _ ?_,.inr ⟨id,g,_,by simp [hsl],getC_put hc,?_,?_,hid⟩,Touch.put _ _ _ _ _ _⟩
   ·have h1:base≤id∧1=1∧l.length < 4611686018427387904:=⟨by omega,rfl,hn⟩
    have h3:0+l.length≤c.length:=by omega
    simp only [sortG,List.length_map,h0,if_false,h1,and_self,if_true,hc,List.drop_zero,ht,intsOf_map,h3]
   ·simp [splice,hsl]
   ·simp [splice,hsl]
def BagO (m:Nat) (H:Heap) (vs:List V) (R:List (List V)):Prop:=
 vs.length=R.length∧(∀ (j:Nat) (r:List V),R[j]?=some r→∃ x,vs[j]?=some x∧OwnN m H x r)∧
 ∀ (j k id g n id' g' n':Nat),j≠k→vs[j]?=some (.sl id g 0 n 1)→vs[k]?=some (.sl id' g' 0 n' 1)→id≠id'
theorem bag_own {m:Nat} {H:Heap} {vs:List V} {R:List (List V)} (h:Bag m H vs R):BagO m H vs R:=by
 refine ⟨h.1,fun j r hr=>?_,h.2.2⟩
 obtain ⟨x,h1,h2⟩:=h.2.1 j r hr
 refine ⟨x,h1,?_⟩
 rcases h2 with ⟨rfl,rfl⟩ | ⟨id,g,rfl,hc,hm⟩
 ·exact .inl ⟨rfl,.inl rfl⟩
 ·exact .inr ⟨id,g,r,rfl,hc,Nat.le_refl _,by simp,hm⟩
theorem BagO.trim {m L o:Nat} {H:Heap} {vs:List V} {R:List (List V)} (h:BagO m H vs R) (hc:getC H o 0=some vs) (ho:o < L) (fr:List V):BagO m (trim L fr H) vs R:=
 ⟨h.1,fun j r hr=>by obtain ⟨x,h1,h2⟩:=h.2.1 j r hr;exact ⟨x,h1,h2.trim hc ho (List.mem_of_getElem? h1) fr⟩,h.2.2⟩
theorem BagO.rows {m o:Nat} {H:Heap} {vs:List V} {R:List (List V)} (h:BagO m H vs R) (hc:getC H o 0=some vs):RdRows H (.sl o 0 0 R.length 1) R:=
 ⟨vs,by rw [← h.1];exact getC_sl hc,trivial,h.1,fun i r hr=>by obtain ⟨x,h1,h2⟩:=h.2.1 i r hr;exact ⟨x,h1,h2.rd,h2.wide⟩⟩
theorem BagO.touch {m o i:Nat} {H H':Heap} {vs:List V} {R:List (List V)} {x x':V} {r':List V} (h:BagO m H vs R) (ho:o < m) (hc:getC H o 0=some vs) (hx:vs[i]?=some x) (ht:Touch x x' H H') (hid:∀ id g n,x=.sl id g 0 n 1→m≤id) (hx':OwnN m H' x' r'):
 getC H' o 0=some vs∧BagO m (H'.set o (.cells 0 (vs.set i x'))) (vs.set i x') (R.set i r')∧(∀ H0,H0.length≤m→Ext H0 H→Ext H0 H'):=by
 have hi:=(List.getElem?_eq_some_iff.1 hx).1
 rcases ht with ⟨rfl,rfl⟩ | ⟨id,g,n,n',ob,rfl,rfl,rfl⟩
 ·have hs:vs.set i x'=vs:=by
   apply List.ext_getElem?
   intro j
   by_cases e:i=j
   ·subst e;rw [List.getElem?_set_self hi,hx]
   ·rw [List.getElem?_set_ne e]
  rw [hs]
  refine ⟨hc,⟨by rw [List.length_set];exact h.1,fun j r hr=>?_,h.2.2⟩,fun _ _ k=>k⟩
  by_cases e:i=j
  ·subst e
   rw [List.getElem?_set_self (by rw [← h.1];exact hi)] at hr
   obtain rfl:=Option.some.inj hr
   exact ⟨x',hx,hx'.set ho _⟩
  ·rw [List.getElem?_set_ne e] at hr
   obtain ⟨y,h1,h2⟩:=h.2.1 j r hr
   exact ⟨y,h1,h2.set ho _⟩
 ·have hidm:=hid id g n rfl
  refine ⟨by rw [getC_set_ne _ (by omega)];exact hc,⟨by rw [List.length_set,List.length_set];exact h.1,fun j r hr=>?_,fun j k a b c a' b' c' hjk hj hk=>?_⟩,fun H0 h0 k=>k.set (by omega) _⟩
  ·by_cases e:i=j
   ·subst e
    rw [List.getElem?_set_self (by rw [← h.1];exact hi)] at hr
    obtain rfl:=Option.some.inj hr
    exact ⟨_,List.getElem?_set_self hi,hx'.set ho _⟩
   ·rw [List.getElem?_set_ne e] at hr
    obtain ⟨y,h1,h2⟩:=h.2.1 j r hr
    refine ⟨y,by rw [List.getElem?_set_ne e];exact h1,OwnN.set ?_ ho _⟩
    rcases h2 with h2 | ⟨id2,g2,c2,rfl,k1,k2,k3,k4⟩
    ·exact .inl h2
    ·have hne:=h.2.2 i j _ _ _ _ _ _ e hx h1
     exact .inr ⟨id2,g2,c2,rfl,by rw [getC_set_ne _ (Ne.symm hne)];exact k1,k2,k3,k4⟩
  ·by_cases e:i=j
   ·subst e
    rw [List.getElem?_set_self hi] at hj
    rw [List.getElem?_set_ne hjk] at hk
    cases hj
    exact h.2.2 i k _ _ _ _ _ _ hjk hx hk
   ·rw [List.getElem?_set_ne e] at hj
    by_cases e2:i=k
    ·subst e2
     rw [List.getElem?_set_self hi] at hk
     cases hk
     exact h.2.2 j i _ _ _ _ _ _ hjk hj hx
    ·rw [List.getElem?_set_ne e2] at hk
     exact h.2.2 j k _ _ _ _ _ _ hjk hj hk
end Go.Proofs.Ytdmnenlpdeolaaa
set_option maxRecDepth 100000
namespace Go.Proofs.Ytdmnenlpdeolaaa
open Go.AM
def fin (r:List Int):List Int:=compactZ (sortZ r)
def finTo (i:Nat) (R:List (List Int)):List (List Int):=(List.range R.length).map fun j=>if j < i then fin (R.getD j []) else R.getD j []
theorem finTo_len (i:Nat) (R:List (List Int)):(finTo i R).length=R.length:=by simp [finTo]
theorem finTo_get {i j:Nat} {R:List (List Int)} (hj:j < R.length):(finTo i R)[j]?=some (if j < i then fin (R.getD j []) else R.getD j []):=by
 unfold finTo
 rw [List.getElem?_map,List.getElem?_range hj];rfl
theorem finTo_zero (R:List (List Int)):finTo 0 R=R:=by
 apply List.ext_getElem?
 intro j
 by_cases hj:j < R.length
 ·rw [finTo_get hj,some_getD hj []];simp
 ·rw [List.getElem?_eq_none (by rw [finTo_len];omega),List.getElem?_eq_none (by omega)]
theorem finTo_step {i:Nat} {R:List (List Int)} (hi:i < R.length):(finTo i R).set i (fin (R.getD i []))=finTo (i+1) R:=by
 apply List.ext_getElem?
 intro j
 by_cases hj:j < R.length
 ·rw [finTo_get hj]
  by_cases e:i=j
  ·subst e
   rw [List.getElem?_set_self (by rw [finTo_len];exact hi),if_pos (by omega)]
  ·rw [List.getElem?_set_ne e,finTo_get hj]
   have:(j < i+1)=(j < i):=by rw [eq_iff_iff];omega
   simp only [this]
 ·rw [List.getElem?_eq_none (by rw [List.length_set,finTo_len];omega),List.getElem?_eq_none (by rw [finTo_len];omega)]
theorem finTo_all (R:List (List Int)):finTo R.length R=R.map fin:=by
 apply List.ext_getElem?
 intro j
 by_cases hj:j < R.length
 ·rw [finTo_get hj,if_pos hj,List.getElem?_map,some_getD hj []];rfl
 ·rw [List.getElem?_eq_none (by rw [finTo_len];omega),List.getElem?_eq_none (by simp;omega)]
theorem rowsV_put (R:List (List Int)) (k:Nat) (r:List Int):rowsV (R.set k r)=(rowsV R).set k (r.map iV):=by
 simp [rowsV,List.map_set]
theorem own_at {m:Nat} {H:Heap} {v:V} {l:List V} (h:OwnN m H v l):∀ id g n,v=.sl id g 0 n 1→m≤id:=by
 intro id g n e
 rcases h with ⟨_,rfl | rfl⟩ | ⟨_,_,_,rfl,_,_,_,k⟩
 ·cases e
 ·cases e
 ·cases e;exact k
theorem Touch.get {x x':V} {H H':Heap} (h:Touch x x' H H') {m o:Nat} (ho:o < m) (hid:∀ id g n,x=.sl id g 0 n 1→m≤id) (g:Nat):getC H' o g=getC H o g:=by
 rcases h with ⟨rfl,rfl⟩ | ⟨id,g',n,n',ob,rfl,rfl,rfl⟩
 ·rfl
 ·have:=hid id g' n rfl
  exact getC_set_ne _ (by omega)
theorem Touch.len {x x':V} {H H':Heap} (h:Touch x x' H H'):H'.length=H.length:=by
 rcases h with ⟨rfl,rfl⟩ | ⟨id,g',n,n',ob,rfl,rfl,rfl⟩
 ·rfl
 ·exact List.length_set ..
section
variable {CT:Nat→Option CFun}
theorem fr_l3 (hS:CT k_f29=some (.prim sortG)) (hK:CT k_f30=some (.code s_f30)) (base m o L:Nat) (A:Heap) (hA:A.length=m) (R:List (List Int)) (ho:o < m) (hb:base≤o) (hL:m≤L) (hn:R.length < 2 ^ 40) (hr:∀ r∈R,r.length < 2 ^ 60):
 ∀ (k i:Nat) (H:Heap) (vs:List V),i+k=R.length→L≤H.length→Ext (A.set o (.cells 0 vs)) H→getC H o 0=some vs→BagO m H vs (rowsV (finTo i R))→
 ∃ H' vs',itW (evC (callW CT) itW base s_f16_l3) [] L (frOf 89 [(6,.sl o 0 0 R.length 1),(70,.s (.int .i64 R.length)),(71,.s (.int .i64 i))]) H=some (.ext 6,frOf 89 [(6,.sl o 0 0 R.length 1),(70,.s (.int .i64 R.length)),(71,.s (.int .i64 R.length)),(72,bl false)],H')∧L≤H'.length∧Ext (A.set o (.cells 0 vs')) H'∧getC H' o 0=some vs'∧BagO m H' vs' (rowsV (R.map fin)):=by
 intro k
 induction k with
 | zero=>
   intro i H vs hi hLH he hc hB
   obtain rfl:i=R.length:=by omega
   rw [finTo_all] at hB
   refine ⟨trim L (frOf 89 [(6,.sl o 0 0 R.length 1),(70,.s (.int .i64 R.length)),(71,.s (.int .i64 R.length)),(72,bl false)]) H,vs,?_,trim_le hLH,he.trim (by rw [List.length_set];omega) _,trim_get hc (by omega),hB.trim hc (by omega) _⟩
   rw [itW_step]
   simp only [a_f16,s_f16_l0_b,s_f16_l1_b,s_f16_l2_b,s_f16_l3_b,aa,bl,i64,reduceIte,reduceCtorEq,Nat.reduceEqDiff,Nat.reduceLT,Nat.reduceLeDiff,Nat.reduceBEq,Nat.reduceAdd,fillA,splice,Nat.reduceMul,amY,op_eqP,Int.lt_irrefl,bl]
 | succ k ih=>
   intro i H vs hi hLH he hc hB
   have hiR:i < R.length:=by omega
   have hlt':(i:Int) < (R.length:Int):=by omega
   have hwk:=w64 (n:=i) (by omega)
   have hgi:(rowsV (finTo i R))[i]?=some ((R.getD i []).map iV):=by
    have:=rowsV_get (finTo_get (i:=i) hiR)
    rwa [if_neg (by omega)] at this
   have hrl:=hr _ (List.mem_of_getElem? (some_getD hiR []))
   obtain ⟨x,hx,hox⟩:=hB.2.1 i _ hgi
   obtain ⟨H1,s1,s2,s3⟩:=sort_own2 hS base m H x _ hox (by omega) (by omega)
   have hsl:(sortZ (R.getD i [])).length=(R.getD i []).length:=by rw [sortZ,List.length_mergeSort]
   obtain ⟨v',H2,c1,c2,c3⟩:=compact_own2 hK base m H1 x _ s2 (by omega) (by omega)
   have hc1:getC H1 o 0=some vs:=by rw [s3.get ho (own_at hox)];exact hc
   have hT:=s3.trans c3
   obtain ⟨hc2,hB2,hE⟩:=hB.touch (r':=(fin (R.getD i [])).map iV) ho hc hx hT (own_at hox) c2
   rw [← rowsV_put,finTo_step hiR] at hB2
   obtain ⟨a1,a2⟩:=at_sl hc hiR hx
   obtain ⟨b1,b2⟩:=at_sl hc1 hiR hx
   have hvl:vs.length=R.length:=by rw [hB.1,rowsV_len,finTo_len]
   have hst:=storeV_at (v:=v') (base:=base) hc2 hb c2.one (off:=i) (by omega)
   have he1:=hE _ (by rw [List.length_set];omega) he
   have he2:=he1.set_both (o:=o) (by rw [List.length_set];omega) (.cells 0 (vs.set i v'))
   rw [List.set_set] at he2
   have hc3:=getC_put (c':=vs.set i v') hc2
   have hl2:=hT.len
   obtain ⟨H',vs',p1,p2,p3,p4,p5⟩:=ih (i+1) (trim L (frOf 89 [(6,.sl o 0 0 R.length 1),(70,.s (.int .i64 R.length)),(71,.s (.int .i64 (i+1:Nat)))]) (H2.set o (.cells 0 (vs.set i v')))) (vs.set i v') (by omega) (trim_le (by rw [List.length_set];omega)) (he2.trim (by rw [List.length_set];omega) _) (trim_get hc3 (by omega)) (hB2.trim hc3 (by omega) _)
   refine ⟨H',vs',?_,p2,p3,p4,p5⟩
   have hixb:(0≤(i:Int)∧(i:Int) < (R.length:Int)∧1=1):=by omega
   rw [itW_step]
   simp only [a_f16,s_f16_l0_b,s_f16_l1_b,s_f16_l2_b,s_f16_l3_b,aa,bl,i64,reduceIte,reduceCtorEq,Nat.reduceEqDiff,Nat.reduceLT,Nat.reduceLeDiff,Nat.reduceBEq,Nat.reduceAdd,fillA,splice,Nat.reduceMul,amY,op_eqP,hlt',hwk,a1,a2,b1,b2,s1,c1,hst]
   exact p1
end
end Go.Proofs.Ytdmnenlpdeolaaa
set_option maxRecDepth 100000
namespace Go.Proofs.Ytdmnenlpdeolaaa
open Go.AM
def runR (T:List Int) (y:Int):Nat→Int→List (List Int)→List (List Int)
 | 0,_,R=>R
 | m+1,r,R=>if r < 0 then R else if r=y∨domB T r y=false then runR T y m (T.getD r.toNat 0) (bump y R r) else R
theorem runR_neg (T:List Int) (y:Int) (f:Nat) {r:Int} (R:List (List Int)) (h:r < 0):runR T y f r R=R:=by
 cases f with
 | zero=>rfl
 | succ f=>rw [runR,if_pos h]
theorem runR_len (T:List Int) (y:Int):∀ (f:Nat) (r:Int) (R:List (List Int)),(runR T y f r R).length=R.length:=by
 intro f
 induction f with
 | zero=>intro r R;rfl
 | succ f ih=>
   intro r R
   rw [runR]
   split
   ·rfl
   ·split
    ·rw [ih,bump_len]
    ·rfl
def UpR (G:List (List Int)) (q:Int) (lvl:Nat→Nat) (f:Nat) (r:Int):Prop:=r < 0∨∃ k:Nat,r=k∧Rch G [q] k∧lvl k < f
theorem TreeOk.next {G:List (List Int)} {q:Int} {T:List Int} {lvl:Nat→Nat} (h:TreeOk G q T lvl) {f k:Nat} (hk:Rch G [q] k) (hf:lvl k < f+1):UpR G q lvl f (T.getD k 0):=by
 by_cases e:(k:Int)=q
 ·rw [h.rt k e.symm (rch_lt hk)];exact .inl (by omega)
 ·obtain ⟨d,hd,h1,h2⟩:=h.id k hk e
  exact .inr ⟨d,hd,h1,by omega⟩
theorem taleR_no (fr:List V) (H:Heap) (os:List (Nat × E)) (kill:List Nat):taleR fr H os kill false=none:=rfl
theorem segL_no (H:Heap) (o:Option St):segL H none o=o:=rfl
theorem reqB_no (b r:Bool):reqB (some und) b r=false:=rfl
section
variable {CT:Nat→Option CFun}
theorem fr_r11 (base:Nat) (H:Heap) (a5 a6 a7 a10 a11 a20 a21 a22 a32 a33 a34:V):origRow (callW CT) itW base s_f16_r11t9 [39,40,41,42,43,44,45,46,47,48,49,50,51] (frOf 89 [(5,a5),(6,a6),(7,a7),(10,a10),(11,a11),(20,a20),(21,a21),(22,a22),(32,a32),(33,a33),(34,a34),(41,V.s (Value.bool false)),(45,und),(49,und)]) H=some (.nrm,frOf 89 [(5,a5),(6,a6),(7,a7),(10,a10),(11,a11),(20,a20),(21,a21),(22,a22),(32,a32),(33,a33),(34,a34),(52,V.s (Value.bool false))],H):=by
 simp only [origRow,s_f16_r11t9,aa,bl,i64,reduceIte,reduceCtorEq,Nat.reduceEqDiff,Nat.reduceLT,Nat.reduceLeDiff,Nat.reduceBEq,Nat.reduceAdd,fillA,splice,Nat.reduceMul,amY,op_eqP,evC_ops,evOps_nil,evOps_cons,evOps_guard,opK_bool,wantV_bool,wantV_und,put_some,evOp_pick,pickR,op_move,op_un,ev_t,ev_c,resK_some]
theorem fr_l0 (hD:CT k_f13=some (.code s_f13)) (base m o L:Nat) (A:Heap) (hA:A.length=m) {G:List (List Int)} {q:Int} {T:List Int} {lvl:Nat→Nat} (ok:TreeOk G q T lvl) {tv:V} (hT0:∀ ob,Rd (A.set o ob) tv (T.map iV)) (htw:Wide1 tv) (ho:o < m) (hb:base≤o) (hL:m≤L) (hn:G.length < 2 ^ 18) (y:Int) {x j rl:Nat} {nv row:V}:
 ∀ (f:Nat) (r:Int) (H:Heap) (vs:List V) (R:List (List Int)),UpR G q lvl f r→L≤H.length→Ext (A.set o (.cells 0 vs)) H→getC H o 0=some vs→Bag m H vs (rowsV R)→R.length=G.length→(∀ q∈R,q.length+f≤2 ^ 43)→
 ∃ H' vs' r',itW (evC (callW CT) itW base s_f16_l0) [] L (frOf 89 [(5,tv),(6,.sl o 0 0 G.length 1),(7,.s (.int .i64 x)),(10,.s (.int .i64 y)),(11,.s (.int .i64 r)),(20,nv),(21,.s (.int .i64 G.length)),(22,.s (.int .i64 x)),(32,row),(33,.s (.int .i64 rl)),(34,.s (.int .i64 j))]) H=
   some (.ext 4,frOf 89 [(5,tv),(6,.sl o 0 0 G.length 1),(7,.s (.int .i64 x)),(10,.s (.int .i64 y)),(11,.s (.int .i64 r')),(20,nv),(21,.s (.int .i64 G.length)),(22,.s (.int .i64 x)),(32,row),(33,.s (.int .i64 rl)),(34,.s (.int .i64 j)),(52,bl false)],H')∧L≤H'.length∧Ext (A.set o (.cells 0 vs')) H'∧getC H' o 0=some vs'∧Bag m H' vs' (rowsV (runR T y f r R)):=by
 intro f
 have hlen:=ok.len
 have stop:∀ (r:Int) (H:Heap) (vs:List V) (R:List (List Int)),L≤H.length→Ext (A.set o (.cells 0 vs)) H→getC H o 0=some vs→Bag m H vs (rowsV R)→∀ (fr:List V),L≤(trim L fr H).length∧Ext (A.set o (.cells 0 vs)) (trim L fr H)∧getC (trim L fr H) o 0=some vs∧Bag m (trim L fr H) vs (rowsV R):=fun r H vs R hLH he hc hB fr=>
  ⟨trim_le hLH,he.trim (by rw [List.length_set];omega) _,trim_get hc (by omega),hB.trim hc (by omega) _⟩
 have hneg:∀ (r:Int) (H:Heap) (vs:List V) (R:List (List Int)),r < 0→L≤H.length→Ext (A.set o (.cells 0 vs)) H→getC H o 0=some vs→Bag m H vs (rowsV R)→
  ∃ H' vs' r',itW (evC (callW CT) itW base s_f16_l0) [] L (frOf 89 [(5,tv),(6,.sl o 0 0 G.length 1),(7,.s (.int .i64 x)),(10,.s (.int .i64 y)),(11,.s (.int .i64 r)),(20,nv),(21,.s (.int .i64 G.length)),(22,.s (.int .i64 x)),(32,row),(33,.s (.int .i64 rl)),(34,.s (.int .i64 j))]) H=
    some (.ext 4,frOf 89 [(5,tv),(6,.sl o 0 0 G.length 1),(7,.s (.int .i64 x)),(10,.s (.int .i64 y)),(11,.s (.int .i64 r')),(20,nv),(21,.s (.int .i64 G.length)),(22,.s (.int .i64 x)),(32,row),(33,.s (.int .i64 rl)),(34,.s (.int .i64 j)),(52,bl false)],H')∧L≤H'.length∧Ext (A.set o (.cells 0 vs')) H'∧getC H' o 0=some vs'∧Bag m H' vs' (rowsV R):=by
  intro r H vs R h0 hLH he hc hB
  have h0':¬ (0≤r):=by omega
  have st:=stop r H vs R hLH he hc hB (frOf 89 [(5,tv),(6,.sl o 0 0 G.length 1),(7,.s (.int .i64 x)),(10,.s (.int .i64 y)),(11,.s (.int .i64 r)),(20,nv),(21,.s (.int .i64 G.length)),(22,.s (.int .i64 x)),(32,row),(33,.s (.int .i64 rl)),(34,.s (.int .i64 j)),(52,bl false)])
  refine ⟨_,vs,r,?_,st⟩
  rw [itW_step]
  simp only [a_f16,s_f16_l0_b,s_f16_l1_b,s_f16_l2_b,s_f16_l3_b,aa,bl,i64,reduceIte,reduceCtorEq,Nat.reduceEqDiff,Nat.reduceLT,Nat.reduceLeDiff,Nat.reduceBEq,Nat.reduceAdd,fillA,splice,Nat.reduceMul,amY,op_eqP,ge_iff_le,h0',reqB_no,taleR_no,segL_no,fr_r11,bl]
 induction f with
 | zero=>
   intro r H vs R hu hLH he hc hB hR hq
   rcases hu with h0 | ⟨k,_,_,h⟩
   ·exact hneg r H vs R h0 hLH he hc hB
   ·omega
 | succ f ih=>
   intro r H vs R hu hLH he hc hB hR hq
   rcases hu with h0 | ⟨k,rfl,hk,hf⟩
   ·rw [runR_neg _ _ _ _ h0]
    exact hneg r H vs R h0 hLH he hc hB
   have hkn:=rch_lt hk
   have h0:¬ ((k:Int) < 0):=by omega
   have hge:(0:Int)≤(k:Int):=by omega
   have hdom:=dom_fun hD base H tv T (k:Int) y ((hT0 _).ext he) htw (by omega)
   have hrun:runR T y (f+1) (k:Int) R=if (k:Int)=y∨domB T (k:Int) y=false then runR T y f (T.getD k 0) (bump y R (k:Int)) else R:=by rw [runR,if_neg h0];rfl
   by_cases hgo:(k:Int)=y∨domB T (k:Int) y=false
   ·rw [hrun,if_pos hgo]
    have hRj:R[k]?=some (R.getD k []):=some_getD (by omega) []
    have hqj:=hq _ (List.mem_of_getElem? hRj)
    have hAH:=he.le
    rw [List.length_set] at hAH
    obtain ⟨w,v',H1,hw1,happ,hv1,hc1,hm1,hB1,hE1⟩:=hB.append (base:=base) (bytes:=8) (x:=iV y) hc ho (by omega) (by omega) (rowsV_get hRj) rfl (by rw [List.length_map];omega)
    obtain ⟨hb1,hb2⟩:=at_sl hc hkn hw1
    have hvl:vs.length=G.length:=by rw [hB.1,rowsV_len];exact hR
    have hst:=storeV_at (v:=v') (base:=base) hc1 hb hv1 (off:=k) (by omega)
    have he1:=hE1 _ (by rw [List.length_set];omega) he
    have he2:=he1.set_both (o:=o) (by rw [List.length_set];omega) (.cells 0 (vs.set k v'))
    rw [List.set_set] at he2
    have hc2:=getC_put (c':=vs.set k v') hc1
    rw [← rowsV_set] at hB1
    obtain ⟨ta,t1,t2⟩:=iV_get ((hT0 _).ext he2) htw (k:=k) (by omega)
    obtain ⟨d,hd⟩:∃ d,T.getD k 0=d:=⟨_,rfl⟩
    have hnx:=ok.next hk hf
    rw [hd] at t2 hnx ⊢
    have hkn':(k:Int) < (G.length:Int):=by omega
    have hix:(0≤(k:Int)∧(k:Int) < (G.length:Int)∧1=1):=by omega
    obtain ⟨H',vs',r',p1,p2,p3,p4,p5⟩:=ih d (trim L (frOf 89 [(5,tv),(6,.sl o 0 0 G.length 1),(7,.s (.int .i64 x)),(10,.s (.int .i64 y)),(11,.s (.int .i64 d)),(20,nv),(21,.s (.int .i64 G.length)),(22,.s (.int .i64 x)),(32,row),(33,.s (.int .i64 rl)),(34,.s (.int .i64 j))]) (H1.set o (.cells 0 (vs.set k v')))) (vs.set k v') (bump y R (k:Int)) hnx (trim_le (by rw [List.length_set];omega)) (he2.trim (by rw [List.length_set];omega) _) (trim_get hc2 (by omega)) (hB1.trim hc2 (by omega) _) (by rw [bump_len];exact hR) (by
     intro q hqm
     have:=bump_le (i:=y) (R:=R) (k:=(k:Int)) (B:=2 ^ 43 - f) (fun q hq1=>by have:=hq q hq1;omega) (by rw [Int.toNat_natCast];omega) q hqm
     omega)
    refine ⟨H',vs',r',?_,p2,p3,p4,p5⟩
    unfold iV at happ
    rw [itW_step]
    by_cases hy:(k:Int)=y
    ·have e1:((k:Int) == y)=true:=by rw [hy];simp
     simp only [a_f16,s_f16_l0_b,s_f16_l1_b,s_f16_l2_b,s_f16_l3_b,aa,bl,i64,reduceIte,reduceCtorEq,Nat.reduceEqDiff,Nat.reduceLT,Nat.reduceLeDiff,Nat.reduceBEq,Nat.reduceAdd,fillA,splice,Nat.reduceMul,amY,op_eqP,ge_iff_le,hge,e1,hb1,hb2,happ,hst,t1,t2]
     exact p1
    ·have e1:((k:Int) == y)=false:=by rw [beq_eq_false_iff_ne];exact hy
     rw [hgo.resolve_left hy] at hdom
     simp only [a_f16,s_f16_l0_b,s_f16_l1_b,s_f16_l2_b,s_f16_l3_b,aa,bl,i64,reduceIte,reduceCtorEq,Nat.reduceEqDiff,Nat.reduceLT,Nat.reduceLeDiff,Nat.reduceBEq,Nat.reduceAdd,fillA,splice,Nat.reduceMul,amY,op_eqP,ge_iff_le,hge,e1,hdom,hb1,hb2,happ,hst,t1,t2]
     exact p1
   ·rw [hrun,if_neg hgo]
    have hgo':=not_or.1 hgo
    have e1:((k:Int) == y)=false:=by rw [beq_eq_false_iff_ne];exact hgo'.1
    have e2:domB T (k:Int) y=true:=by have:=hgo'.2;cases h:domB T (k:Int) y <;> simp_all
    rw [e2] at hdom
    have st:=stop (k:Int) H vs R hLH he hc hB (frOf 89 [(5,tv),(6,.sl o 0 0 G.length 1),(7,.s (.int .i64 x)),(10,.s (.int .i64 y)),(11,.s (.int .i64 k)),(20,nv),(21,.s (.int .i64 G.length)),(22,.s (.int .i64 x)),(32,row),(33,.s (.int .i64 rl)),(34,.s (.int .i64 j)),(52,bl false)])
    refine ⟨_,vs,(k:Int),?_,st⟩
    rw [itW_step]
    simp only [a_f16,s_f16_l0_b,s_f16_l1_b,s_f16_l2_b,s_f16_l3_b,aa,bl,i64,reduceIte,reduceCtorEq,Nat.reduceEqDiff,Nat.reduceLT,Nat.reduceLeDiff,Nat.reduceBEq,Nat.reduceAdd,fillA,splice,Nat.reduceMul,amY,op_eqP,ge_iff_le,hge,e1,hdom,bl]
end
end Go.Proofs.Ytdmnenlpdeolaaa
set_option maxRecDepth 100000
namespace Go.Proofs.Ytdmnenlpdeolaaa
open Go.AM
theorem bump_le2 {i:Int} {R:List (List Int)} {k:Int} {B:Nat} (h:∀ q∈R,q.length+1≤B):∀ q∈bump i R k,q.length≤B:=by
 by_cases hk:k.toNat < R.length
 ·exact bump_le h hk
 ·intro q hq
  have:bump i R k=R:=by unfold bump;exact List.set_eq_of_length_le (by omega)
  rw [this] at hq
  have:=h q hq
  omega
theorem runR_le (T:List Int) (y:Int):∀ (f:Nat) (r:Int) (R:List (List Int)) (B:Nat),(∀ q∈R,q.length+f≤B)→∀ q∈runR T y f r R,q.length≤B:=by
 intro f
 induction f with
 | zero=>intro r R B h q hq;have:=h q hq;omega
 | succ f ih=>
   intro r R B h q hq
   rw [runR] at hq
   split at hq
   ·have:=h q hq;omega
   ·split at hq
    ·by_cases hB:f≤B
     ·refine ih _ (bump y R r) B (fun q hq=>?_) q hq
      have:=bump_le2 (i:=y) (R:=R) (k:=r) (B:=B - f) (fun q hq=>by have:=h q hq;omega) q hq
      omega
     ·match R,h,hq with
      | [],_,hq=>
        have:bump y [] r=[]:=rfl
        rw [this] at hq
        have hl:=runR_len T y f (T.getD r.toNat 0) []
        rw [List.eq_nil_of_length_eq_zero hl] at hq
        cases hq
      | q0 :: _,h,_=>have:=h q0 List.mem_cons_self;omega
    ·have:=h q hq;omega
def rowR (T:List Int) (n:Nat) (x:Int) (row:List Int) (R:List (List Int)):List (List Int):=row.foldl (fun R y=>runR T y n x R) R
theorem rowR_len (T:List Int) (n:Nat) (x:Int):∀ (row:List Int) (R:List (List Int)),(rowR T n x row R).length=R.length:=by
 intro row
 induction row with
 | nil=>intro R;rfl
 | cons y row ih=>intro R;show (rowR T n x row (runR T y n x R)).length=_;rw [ih,runR_len]
theorem rowR_le (T:List Int) (n:Nat) (x:Int):∀ (row:List Int) (R:List (List Int)) (B:Nat),(∀ q∈R,q.length+row.length * n≤B)→∀ q∈rowR T n x row R,q.length≤B:=by
 intro row
 induction row with
 | nil=>intro R B h q hq;have:=h q hq;simp at this;exact this
 | cons y row ih=>
   intro R B h q hq
   have hs:(y :: row).length * n=row.length * n+n:=by rw [List.length_cons,Nat.succ_mul]
   refine ih (runR T y n x R) B (fun q hq=>?_) q hq
   by_cases hB:row.length * n≤B
   ·have:=runR_le T y n x R (B - row.length * n) (fun q hq=>by have:=h q hq;omega) q hq
    omega
   ·match R,h,hq with
    | [],_,hq=>
      rw [List.eq_nil_of_length_eq_zero (runR_len T y n x [])] at hq
      cases hq
    | q0 :: _,h,_=>have:=h q0 List.mem_cons_self;omega
def frFrom (T:List Int) (n:Nat):Nat→List (List Int)→List (List Int)→List (List Int)
 | _,[],R=>R
 | x,r :: N,R=>frFrom T n (x+1) N (if T.getD x 0=-2 then R else rowR T n x r R)
theorem frFrom_len (T:List Int) (n:Nat):∀ (N:List (List Int)) (x:Nat) (R:List (List Int)),(frFrom T n x N R).length=R.length:=by
 intro N
 induction N with
 | nil=>intro x R;rfl
 | cons r N ih=>
   intro x R
   rw [frFrom,ih]
   split
   ·rfl
   ·exact rowR_len ..
theorem frFrom_le (T:List Int) (n:Nat):∀ (N:List (List Int)) (x:Nat) (R:List (List Int)) (B:Nat),(∀ q∈R,q.length+sumLen N * n≤B)→∀ q∈frFrom T n x N R,q.length≤B:=by
 intro N
 induction N with
 | nil=>intro x R B h q hq;have:=h q hq;omega
 | cons r N ih=>
   intro x R B h q hq
   have hs:sumLen (r :: N) * n=r.length * n+sumLen N * n:=by rw [show sumLen (r :: N)=r.length+sumLen N from rfl,Nat.add_mul]
   refine ih (x+1) _ B (fun q hq=>?_) q hq
   by_cases hB:sumLen N * n≤B
   ·split at hq
    ·have:=h q hq;omega
    ·have:=rowR_le T n x r R (B - sumLen N * n) (fun q hq=>by have:=h q hq;omega) q hq
     omega
   ·have hne:R≠[]:=fun e=>by
     subst e
     split at hq
     ·cases hq
     ·rw [List.eq_nil_of_length_eq_zero (rowR_len T n x r [])] at hq
      cases hq
    match R,h,hne with
    | [],_,hne=>exact absurd rfl hne
    | q0 :: _,h,_=>have:=h q0 List.mem_cons_self;omega
section
variable {CT:Nat→Option CFun}
theorem fr_l1 (hD:CT k_f13=some (.code s_f13)) (base m o L:Nat) (A:Heap) (hA:A.length=m) {G:List (List Int)} {q:Int} {T:List Int} {lvl:Nat→Nat} (ok:TreeOk G q T lvl) {tv:V} (hT0:∀ ob,Rd (A.set o ob) tv (T.map iV)) (htw:Wide1 tv) (ho:o < m) (hb:base≤o) (hL:m≤L) (hn:G.length < 2 ^ 18) {x:Nat} (hx:Rch G [q] x) {nv rv:V} {row:List Int} (hrow:∀ ob,Rd (A.set o ob) rv (row.map iV)) (hrw:Wide1 rv) (hrl:row.length < 2 ^ 40):
 ∀ (rest:List Int) (j:Nat) (H:Heap) (vs:List V) (R:List (List Int)),row.drop j=rest→j≤row.length→L≤H.length→Ext (A.set o (.cells 0 vs)) H→getC H o 0=some vs→Bag m H vs (rowsV R)→R.length=G.length→(∀ q∈R,q.length+rest.length * G.length≤2 ^ 43)→
 ∃ H' vs',itW (evC (callW CT) itW base s_f16_l1) [] L (frOf 89 [(5,tv),(6,.sl o 0 0 G.length 1),(7,.s (.int .i64 x)),(20,nv),(21,.s (.int .i64 G.length)),(22,.s (.int .i64 x)),(32,rv),(33,.s (.int .i64 row.length)),(34,.s (.int .i64 j))]) H=
   some (.ext 2,frOf 89 [(5,tv),(6,.sl o 0 0 G.length 1),(7,.s (.int .i64 x)),(20,nv),(21,.s (.int .i64 G.length)),(22,.s (.int .i64 x)),(32,rv),(33,.s (.int .i64 row.length)),(34,.s (.int .i64 row.length)),(35,bl false)],H')∧L≤H'.length∧Ext (A.set o (.cells 0 vs')) H'∧getC H' o 0=some vs'∧Bag m H' vs' (rowsV (rowR T G.length x rest R)):=by
 intro rest
 induction rest with
 | nil=>
   intro j H vs R hd hj hLH he hc hB hR hq
   obtain rfl:=drop_nil hd hj
   refine ⟨_,vs,?_,trim_le hLH,he.trim (by rw [List.length_set];omega) _,trim_get hc (by omega),hB.trim hc (by omega) (frOf 89 [(5,tv),(6,.sl o 0 0 G.length 1),(7,.s (.int .i64 x)),(20,nv),(21,.s (.int .i64 G.length)),(22,.s (.int .i64 x)),(32,rv),(33,.s (.int .i64 row.length)),(34,.s (.int .i64 row.length)),(35,bl false)])⟩
   rw [itW_step]
   simp only [a_f16,s_f16_l0_b,s_f16_l1_b,s_f16_l2_b,s_f16_l3_b,aa,bl,i64,reduceIte,reduceCtorEq,Nat.reduceEqDiff,Nat.reduceLT,Nat.reduceLeDiff,Nat.reduceBEq,Nat.reduceAdd,fillA,splice,Nat.reduceMul,amY,op_eqP,Int.lt_irrefl,bl]
 | cons y rest ih=>
   intro j H vs R hd hj hLH he hc hB hR hq
   obtain ⟨hy,hlt,hd'⟩:=drop_cons hd
   have hlt':(j:Int) < (row.length:Int):=by omega
   have hwk:=w64 (n:=j) (by omega)
   have hs:(y :: rest).length * G.length=rest.length * G.length+G.length:=by rw [List.length_cons,Nat.succ_mul]
   obtain ⟨a,a1,a2⟩:=iV_at ((hrow _).ext he) hrw hy
   obtain ⟨H1,vs1,r1,p1,p2,p3,p4,p5⟩:=fr_l0 hD base m o H.length A hA ok hT0 htw ho hb (by omega) hn y (x:=x) (j:=j) (rl:=row.length) (nv:=nv) (row:=rv) G.length (x:Int) H vs R (.inr ⟨x,rfl,hx,ok.lv x hx⟩) (Nat.le_refl _) he hc hB hR (fun q hq1=>by have:=hq q hq1;omega)
   obtain ⟨H',vs',q1,q2,q3,q4,q5⟩:=ih (j+1) (trim L (frOf 89 [(5,tv),(6,.sl o 0 0 G.length 1),(7,.s (.int .i64 x)),(20,nv),(21,.s (.int .i64 G.length)),(22,.s (.int .i64 x)),(32,rv),(33,.s (.int .i64 row.length)),(34,.s (.int .i64 (j+1:Nat)))]) H1) vs1 (runR T y G.length x R) hd' (by omega) (trim_le (by omega)) (p3.trim (by rw [List.length_set];omega) _) (trim_get p4 (by omega)) (p5.trim p4 (by omega) _) (by rw [runR_len];exact hR) (fun q hqm=>by
    have h0:rest.length * G.length≤2 ^ 43:=by
     match R,hR,hq with
     | [],h,_=>simp only [List.length_nil] at h;rw [← h];simp
     | q0 :: _,_,hq=>have:=hq q0 List.mem_cons_self;omega
    have:=runR_le T y G.length x R (2 ^ 43 - rest.length * G.length) (fun q hq1=>by have:=hq q hq1;omega) q hqm
    omega)
   refine ⟨H',vs',?_,q2,q3,q4,q5⟩
   simp only [bl] at p1
   rw [itW_step]
   simp only [a_f16,s_f16_l0_b,s_f16_l1_b,s_f16_l2_b,s_f16_l3_b,aa,bl,i64,reduceIte,reduceCtorEq,Nat.reduceEqDiff,Nat.reduceLT,Nat.reduceLeDiff,Nat.reduceBEq,Nat.reduceAdd,fillA,splice,Nat.reduceMul,amY,op_eqP,hlt',hwk,a1,a2,p1]
   exact q1
theorem fr_l2 (hD:CT k_f13=some (.code s_f13)) (base m o L:Nat) (A:Heap) (hA:A.length=m) {G:List (List Int)} {q:Int} {T:List Int} {lvl:Nat→Nat} (ok:TreeOk G q T lvl) {tv:V} (hT0:∀ ob,Rd (A.set o ob) tv (T.map iV)) (htw:Wide1 tv) (ho:o < m) (hb:base≤o) (hL:m≤L) (hn:G.length < 2 ^ 18) {nv:V} {N:List (List Int)} (hnv:OwnRows (o+1) A nv (rowsV N)) (hN:N.length=G.length) (hr:∀ r∈N,r.length < 2 ^ 40):
 ∀ (rest:List (List Int)) (x:Nat) (H:Heap) (vs:List V) (R:List (List Int)),N.drop x=rest→x≤N.length→L≤H.length→Ext (A.set o (.cells 0 vs)) H→getC H o 0=some vs→Bag m H vs (rowsV R)→R.length=G.length→(∀ q∈R,q.length+sumLen rest * G.length≤2 ^ 43)→
 ∃ H' vs',itW (evC (callW CT) itW base s_f16_l2) [] L (frOf 89 [(5,tv),(6,.sl o 0 0 G.length 1),(20,nv),(21,.s (.int .i64 G.length)),(22,.s (.int .i64 x))]) H=
   some (.ext 0,frOf 89 [(5,tv),(6,.sl o 0 0 G.length 1),(20,nv),(21,.s (.int .i64 G.length)),(22,.s (.int .i64 G.length)),(23,bl false)],H')∧L≤H'.length∧Ext (A.set o (.cells 0 vs')) H'∧getC H' o 0=some vs'∧Bag m H' vs' (rowsV (frFrom T G.length x rest R)):=by
 intro rest
 have hlen:=ok.len
 induction rest with
 | nil=>
   intro x H vs R hd hx hLH he hc hB hR hq
   have hxn:=drop_nil hd hx
   rw [hN] at hxn
   subst hxn
   refine ⟨_,vs,?_,trim_le hLH,he.trim (by rw [List.length_set];omega) _,trim_get hc (by omega),hB.trim hc (by omega) (frOf 89 [(5,tv),(6,.sl o 0 0 G.length 1),(20,nv),(21,.s (.int .i64 G.length)),(22,.s (.int .i64 G.length)),(23,bl false)])⟩
   rw [itW_step]
   simp only [a_f16,s_f16_l0_b,s_f16_l1_b,s_f16_l2_b,s_f16_l3_b,aa,bl,i64,reduceIte,reduceCtorEq,Nat.reduceEqDiff,Nat.reduceLT,Nat.reduceLeDiff,Nat.reduceBEq,Nat.reduceAdd,fillA,splice,Nat.reduceMul,amY,op_eqP,Int.lt_irrefl,bl]
 | cons r rest ih=>
   intro x H vs R hd hx hLH he hc hB hR hq
   obtain ⟨hxr,hxn,hd'⟩:=drop_cons hd
   rw [hN] at hxn
   have hlt':(x:Int) < (G.length:Int):=by omega
   have hwk:=w64 (n:=x) (by omega)
   have hs:sumLen (r :: rest) * G.length=r.length * G.length+sumLen rest * G.length:=by rw [show sumLen (r :: rest)=r.length+sumLen rest from rfl,Nat.add_mul]
   obtain ⟨t,t1,t2⟩:=iV_get ((hT0 _).ext he) htw (k:=x) (by omega)
   obtain ⟨nid,ng,nvs,hnve,hnc,hnm,hnl,hnr⟩:=hnv
   obtain ⟨rv,hx1,hx2⟩:=hnr x _ (rowsV_get hxr)
   have hni:nid≠o:=by omega
   have hAH:=he.le
   rw [List.length_set] at hAH
   have hnc':getC H nid ng=some nvs:=getC_ext (by rw [getC_other hni];exact hnc) he
   obtain ⟨a1,a2⟩:=at_sl hnc' (n:=N.length) (by omega) hx1
   rw [rowsV_len] at hnve
   rw [← hnve] at a1
   have hxl:xLen H .s rv=some (.s (.int .i64 r.length)):=by
    have:=((hx2.set (by omega) (.cells 0 vs)).ext he).rd.len
    rwa [List.length_map] at this
   have hnvs:OwnRows (o+1) A nv (rowsV N):=⟨nid,ng,nvs,by rw [rowsV_len];exact hnve,hnc,hnm,hnl,hnr⟩
   by_cases e2:T.getD x 0=-2
   ·have e3:(T.getD x 0 == -2)=true:=by rw [e2];rfl
    obtain ⟨H',vs',q1,q2,q3,q4,q5⟩:=ih (x+1) (trim L (frOf 89 [(5,tv),(6,.sl o 0 0 G.length 1),(20,nv),(21,.s (.int .i64 G.length)),(22,.s (.int .i64 (x+1:Nat)))]) H) vs R hd' (by omega) (trim_le (by omega)) (he.trim (by rw [List.length_set];omega) _) (trim_get hc (by omega)) (hB.trim hc (by omega) _) hR (fun q hqm=>by have:=hq q hqm;omega)
    refine ⟨H',vs',?_,q2,q3,q4,by rw [frFrom,if_pos e2];exact q5⟩
    rw [itW_step]
    simp only [a_f16,s_f16_l0_b,s_f16_l1_b,s_f16_l2_b,s_f16_l3_b,aa,bl,i64,reduceIte,reduceCtorEq,Nat.reduceEqDiff,Nat.reduceLT,Nat.reduceLeDiff,Nat.reduceBEq,Nat.reduceAdd,fillA,splice,Nat.reduceMul,amY,op_eqP,hlt',hwk,t1,t2,a1,a2,e3]
    exact q1
   ·have e3:(T.getD x 0 == -2)=false:=by rw [beq_eq_false_iff_ne];exact e2
    have hR':Rch G [q] x:=Classical.byContradiction fun hcn=>e2 (ok.un x hxn hcn)
    obtain ⟨H1,vs1,p1,p2,p3,p4,p5⟩:=fr_l1 hD base m o H.length A hA ok hT0 htw ho hb (by omega) hn hR' (nv:=nv) (rv:=rv) (row:=r) (fun ob=>(hx2.set (by omega) ob).rd) hx2.wide (hr r (List.mem_of_getElem? hxr)) r 0 H vs R rfl (Nat.zero_le _) (Nat.le_refl _) he hc hB hR (fun q hqm=>by have:=hq q hqm;omega)
    rw [cast0] at p1
    obtain ⟨H',vs',q1,q2,q3,q4,q5⟩:=ih (x+1) (trim L (frOf 89 [(5,tv),(6,.sl o 0 0 G.length 1),(20,nv),(21,.s (.int .i64 G.length)),(22,.s (.int .i64 (x+1:Nat)))]) H1) vs1 (rowR T G.length x r R) hd' (by omega) (trim_le (by omega)) (p3.trim (by rw [List.length_set];omega) _) (trim_get p4 (by omega)) (p5.trim p4 (by omega) _) (by rw [rowR_len];exact hR) (fun q hqm=>by
     have h0:sumLen rest * G.length≤2 ^ 43:=by
      match R,hR,hq with
      | [],h,_=>simp only [List.length_nil] at h;rw [← h];simp
      | q0 :: _,_,hq=>have:=hq q0 List.mem_cons_self;omega
     have:=rowR_le T G.length x r R (2 ^ 43 - sumLen rest * G.length) (fun q hq1=>by have:=hq q hq1;omega) q hqm
     omega)
    refine ⟨H',vs',?_,q2,q3,q4,by rw [frFrom,if_neg e2];exact q5⟩
    simp only [bl] at p1
    rw [itW_step]
    simp only [a_f16,s_f16_l0_b,s_f16_l1_b,s_f16_l2_b,s_f16_l3_b,aa,bl,i64,reduceIte,reduceCtorEq,Nat.reduceEqDiff,Nat.reduceLT,Nat.reduceLeDiff,Nat.reduceBEq,Nat.reduceAdd,fillA,splice,Nat.reduceMul,amY,op_eqP,hlt',hwk,t1,t2,a1,a2,e3,hxl,p1]
    exact q1
def frG (T:List Int) (G:List (List Int)):List (List Int):=(frFrom T G.length 0 (normG G) (List.replicate G.length [])).map fin
theorem frG_len (T:List Int) (G:List (List Int)):(frG T G).length=G.length:=by unfold frG;rw [List.length_map,frFrom_len,List.length_replicate]
theorem frontier_f (h:CT9 CT) (hD:CT k_f13=some (.code s_f13)) (hF:CT k_f16=some (.code s_f16)) (base:Nat) (H:Heap) (v:V) (G:List (List Int)) (q:Int) (hv:RdRows H v (rowsV G)) (hb:base≤H.length) (hn:G.length < 2 ^ 10) (hr:∀ r∈G,r.length < 2 ^ 10):
 ∃ (v':V) (H':Heap) (T:List Int) (lvl:Nat→Nat),callW CT (.fn k_f16 [] []) [v,.s (.int .i64 q)] base H=some (v',H')∧Ext H H'∧RdRows H' v' (rowsV (frG T G))∧TreeOk G q T lvl:=by
 have hvl:=rows_lenV hv
 obtain ⟨tv,A0,T,lvl,a1,a2,a3,a4⟩:=tree_f h base H v G q hv hb (by omega) (fun r h=>by have:=hr r h;omega)
 have l0:=a2.le
 have hmk:=make_n (H:=A0) (zero:=[nilS]) (sz:=1) (bytes:=24) (k:=.i64) (k':=.i64) (n:=G.length) (by omega)
 rw [flat_one] at hmk
 obtain ⟨nv,A,p1,p2,p3⟩:=norm_f h.g base (A0 ++ [.cells 0 (List.replicate G.length nilS)]) v G ((hv.ext a2).ext (Ext.app _ _)) (by simp;omega) (by omega) (fun r hr'=>by have:=hr r hr';omega)
 have hAl:=p2.le
 rw [len_snoc] at p3 hAl
 have hc:getC A A0.length 0=some (List.replicate G.length nilS):=getC_ext (getC_new A0 0 _) p2
 have hN:=normG_len G
 have e0A:Ext A0 A:=(Ext.app _ _).trans p2
 have hsum:=sumLen_le (b:=2 ^ 10) (normG G) (fun r hr'=>Nat.le_of_lt (normG_small hr r hr'))
 rw [hN] at hsum
 have hs2:G.length * 2 ^ 10≤2 ^ 10 * 2 ^ 10:=Nat.mul_le_mul_right _ (by omega)
 have hs3:sumLen (normG G) * G.length≤2 ^ 20 * 2 ^ 10:=Nat.mul_le_mul (by omega) (by omega)
 have hT0:∀ ob,Rd (A.set A0.length ob) tv (T.map iV):=fun ob=>a3.rd.ext (e0A.set (Nat.le_refl _) ob)
 obtain ⟨H1,vs1,q1,q2,q3,q4,q5⟩:=fr_l2 hD base A.length A0.length A.length A rfl a4 hT0 a3.wide (by omega) (by omega) (Nat.le_refl _) (by omega) p3 hN (fun r hr'=>Nat.lt_of_lt_of_le (normG_small hr r hr') (by omega)) (normG G) 0 A (List.replicate G.length nilS) (List.replicate G.length []) rfl (Nat.zero_le _) (Nat.le_refl _) (by rw [getC_same hc];exact Ext.refl A) hc (by have:=Bag.start A.length A G.length;rwa [show rowsV (List.replicate G.length [])=List.replicate G.length [] by simp [rowsV]]) (by simp) (fun q hq=>by
  rw [List.mem_replicate] at hq
  rw [hq.2]
  simp only [List.length_nil]
  omega)
 rw [cast0] at q1
 obtain ⟨R,hR⟩:∃ R,frFrom T G.length 0 (normG G) (List.replicate G.length [])=R:=⟨_,rfl⟩
 have hRl:R.length=G.length:=by rw [← hR,frFrom_len,List.length_replicate]
 have hRb:∀ r∈R,r.length≤2 ^ 43:=fun r hr'=>by
  rw [← hR] at hr'
  exact frFrom_le T G.length (normG G) 0 (List.replicate G.length []) (2 ^ 43) (fun q hq=>by
   rw [List.mem_replicate] at hq
   rw [hq.2]
   simp only [List.length_nil]
   omega) r hr'
 have hfr:frG T G=R.map fin:=by unfold frG;rw [hR]
 rw [hR] at q5
 have l2:=q3.le
 rw [List.length_set] at l2
 obtain ⟨H2,vs2,s1,s2,s3,s4,s5⟩:=fr_l3 h.g.sort h.g.comp base A.length A0.length H1.length A rfl R (by omega) (by omega) (by omega) (by omega) (fun r hr'=>by have:=hRb r hr';omega) R.length 0 H1 vs1 (by omega) (Nat.le_refl _) q3 q4 (by rw [finTo_zero];exact bag_own q5)
 rw [cast0,hRl] at s1
 have hnl:∀ H',xLen H' .s nv=some (.s (.int .i64 G.length)):=by
  have:=rows_lenV (G:=normG G) p3.rd
  rwa [hN] at this
 have hfl:∀ H',xLen H' .s (.sl A0.length 0 0 G.length 1)=some (.s (.int .i64 G.length)):=fun H'=>rfl
 refine ⟨.sl A0.length 0 0 G.length 1,H2,T,lvl,callW_fn (c:=s_f16) hF (by simp [s_f16]) ?_,?_,?_,a4⟩
 ·simp only [nilS,bl] at hmk p1 q1 s1
  simp only [s_f16,a_f16,s_f16_l0_b,s_f16_l1_b,s_f16_l2_b,s_f16_l3_b,aa,bl,i64,reduceIte,reduceCtorEq,Nat.reduceEqDiff,Nat.reduceLT,Nat.reduceLeDiff,Nat.reduceBEq,Nat.reduceAdd,fillA,splice,Nat.reduceMul,amY,op_eqP,a1,hvl,op_mkSl,hmk,p1,hnl,q1,s1]
 ·exact (a2.trans (e0A.set (Nat.le_refl _) _)).trans s3
 ·rw [hfr]
  have:=s5.rows s4
  rwa [rowsV_len,List.length_map,hRl] at this
end
end Go.Proofs.Ytdmnenlpdeolaaa
set_option maxRecDepth 100000
namespace Go.Proofs.Ytdmnenlpdeolaaa
open Go.AM
def encI (k:Int):Value:=.int .i64 k
def setM (ks:List Int):Ob:=.map (esG encI ks fun _=>bl true)
def putK (ks:List Int) (k:Int):List Int:=if k∈ks then ks else ks ++ [k]
theorem put_k {H:Heap} {base j:Nat} (hb:base≤j) {ks:List Int} (hH:H[j]?=some (setM ks)) (k:Int):
 updMV H base (.int .i64) (.mp j) (.s (.int .i64 k)) (.s (.bool true))=some (und,H.set j (setM (putK ks k))):=by
 have h:=upd_g (enc:=encI) (kd:=.int .i64) same_i64 key_i64 hb hH k (.s (.bool true))
 unfold encI at h
 rw [h]
 unfold putK setM
 by_cases hk:k∈ks
 ·rw [if_pos hk,if_pos hk]
  congr 4
  apply List.ext_getElem?
  intro i
  by_cases e:ks.idxOf k=i
  ·subst e
   have hl:=List.idxOf_lt_length_of_mem hk
   rw [List.getElem?_set_self (by simp [esG];exact hl)]
   simp only [esG,List.getElem?_map,List.getElem?_eq_getElem hl,List.getElem_idxOf hl,Option.map_some,encI,bl]
  ·rw [List.getElem?_set_ne e];rfl
 ·rw [if_neg hk,if_neg hk]
  congr 4
  simp [esG,encI,bl]
theorem erase_es (k:Int):∀ (ks:List Int),(esG encI ks fun _=>bl true).eraseIdx (ks.idxOf k)=esG encI (ks.erase k) fun _=>bl true:=by
 intro ks
 induction ks with
 | nil=>rfl
 | cons x ks ih=>
   by_cases e:x=k
   ·subst e
    simp [esG]
   ·have e2:(x == k)=false:=by simpa using e
    rw [List.idxOf_cons,e2,List.erase_cons,e2]
    simp only [cond_false,Bool.false_eq_true,if_false]
    show (encI x,bl true) :: (esG encI ks fun _=>bl true).eraseIdx (ks.idxOf k)=_
    rw [ih]
    rfl
theorem del_k {H:Heap} {base j:Nat} (hb:base≤j) {ks:List Int} (hH:H[j]?=some (setM ks)) {k:Int} (hk:k∈ks):
 delMV H base (.int .i64) (.mp j) (.s (.int .i64 k))=some (und,H.set j (setM (ks.erase k))):=by
 have hf:=findA_g (enc:=encI) (kd:=.int .i64) same_i64 (fun _=>bl true) k ks 0
 have hko:=key_i64 k
 unfold setM at hH
 unfold encI at hf hH
 simp only [delMV,hb,hko,and_self,if_true,hH,hf,if_pos hk,Nat.zero_add]
 have he:=erase_es k ks
 unfold encI at he
 unfold setM encI
 rw [he]
theorem get_k {H:Heap} {j:Nat} {ks:List Int} (hH:H[j]?=some (setM ks)) (k:Int):xMapGet H (.int .i64) (.s (.bool false)) false (.mp j) (.s (.int .i64 k))=some (.s (.bool (decide (k∈ks)))):=by
 have h:=get_g (enc:=encI) (kd:=.int .i64) same_i64 key_i64 hH (.s (.bool false)) false k
 unfold encI at h
 rw [h]
 by_cases hk:k∈ks
 ·simp [hk,bl]
 ·simp [hk]
theorem len_k {H:Heap} {j:Nat} {ks:List Int} (hH:H[j]?=some (setM ks)):xLen H .m (.mp j)=some (.s (.int .i64 ks.length)):=len_g hH
theorem keysZ_setM:∀ (ks:List Int),(∀ k∈ks,keyOkZ k=true)→keysZ (esG encI ks fun _=>bl true)=some ks:=by
 intro ks
 induction ks with
 | nil=>intro _;rfl
 | cons k ks ih=>
   intro h
   show (if keyOkZ k=true then (keysZ (esG encI ks fun _=>bl true)).map (k :: ·) else none)=_
   rw [if_pos (h k List.mem_cons_self),ih fun x hx=>h x (List.mem_cons_of_mem _ hx)]
   rfl
section
variable {CT:Nat→Option CFun}
theorem keys_fun (hK:CT k_f37=some (.code s_f37)) (base:Nat) (H:Heap) (j:Nat):
 callW CT (.fn k_f37 [] []) [.mp j] base H=some (.fn k_f49 [] [.ref H.length 0 0],H ++ [.cells 0 [.mp j]]):=by
 refine callW_fn (c:=s_f37) hK (by simp [s_f37]) ?_
 simp only [s_f37,a_f37,aa,bl,i64,reduceIte,reduceCtorEq,Nat.reduceEqDiff,Nat.reduceLT,Nat.reduceLeDiff,Nat.reduceBEq,Nat.reduceAdd,fillA,splice,Nat.reduceMul,amY,op_eqP,xsub_mkFn]
 rfl
theorem sorted_fun (hS:CT k_f36=some (.prim (sortedG k_f49))) (base:Nat) {H:Heap} {j:Nat} {ks:List Int} (hH:H[j]?=some (setM ks)) (hk:∀ k∈ks,keyOkZ k=true) (hl:ks.length < 2 ^ 40):
 callW CT (.fn k_f36 [] []) [.fn k_f49 [] [.ref H.length 0 0]] base (H ++ [.cells 0 [.mp j]])=some (if ks.length=0 then (nilS,H ++ [.cells 0 [.mp j]]) else (.sl (H.length+1) 0 0 ks.length 1,H ++ [.cells 0 [.mp j]] ++ [.cells 0 ((sortI ks).map iV)])):=by
 have hb:getC (H ++ [.cells 0 [.mp j]]) H.length 0=some [.mp j]:=getC_new _ _ _
 have hj:(H ++ [Ob.cells 0 [.mp j]])[j]?=some (setM ks):=by
  rw [List.getElem?_append_left (List.getElem?_eq_some_iff.1 hH).1];exact hH
 have hkz:=keysZ_setM ks hk
 have h8:ks.length * 8≤140737488355328:=by omega
 unfold setM at hj
 refine callW_eq ?_
 simp only [evCall,hS,List.nil_append,List.append_nil,sortedG,if_true,hb,hj,hkz,h8,len_snoc]
 split <;> rfl
end
structure IS (A H:Heap) (j5 j6:Nat) (I W:List Int):Prop where
 ext:Ext A H
 a5:A.length≤j5
 a6:A.length≤j6
 ne:j5≠j6
 m5:H[j5]?=some (setM I)
 m6:H[j6]?=some (setM W)
theorem IS.lt {A H:Heap} {j5 j6:Nat} {I W:List Int} (h:IS A H j5 j6 I W):j5 < H.length∧j6 < H.length:=⟨(List.getElem?_eq_some_iff.1 h.m5).1,(List.getElem?_eq_some_iff.1 h.m6).1⟩
theorem IS.app {A H:Heap} {j5 j6:Nat} {I W:List Int} (h:IS A H j5 j6 I W) (E:Heap):IS A (H ++ E) j5 j6 I W:=
 ⟨h.ext.trans (Ext.app _ _),h.a5,h.a6,h.ne,by rw [List.getElem?_append_left h.lt.1];exact h.m5,by rw [List.getElem?_append_left h.lt.2];exact h.m6⟩
theorem IS.set5 {A H:Heap} {j5 j6:Nat} {I W:List Int} (h:IS A H j5 j6 I W) (I':List Int):IS A (H.set j5 (setM I')) j5 j6 I' W:=
 ⟨h.ext.set h.a5 _,h.a5,h.a6,h.ne,List.getElem?_set_self h.lt.1,by rw [List.getElem?_set_ne h.ne];exact h.m6⟩
theorem IS.set6 {A H:Heap} {j5 j6:Nat} {I W:List Int} (h:IS A H j5 j6 I W) (W':List Int):IS A (H.set j6 (setM W')) j5 j6 I W':=
 ⟨h.ext.set h.a6 _,h.a5,h.a6,h.ne,by rw [List.getElem?_set_ne (Ne.symm h.ne)];exact h.m5,List.getElem?_set_self h.lt.2⟩
theorem IS.trim {A H:Heap} {j5 j6:Nat} {I W:List Int} (h:IS A H j5 j6 I W) {L:Nat} (h5:j5 < L) (h6:j6 < L) (fr:List V):IS A (trim L fr H) j5 j6 I W:=by
 refine ⟨h.ext.trim (by have:=h.a5;omega) fr,h.a5,h.a6,h.ne,?_,?_⟩
 ·rcases trim_or L fr H with e | ⟨e,_⟩ <;> rw [e]
  ·exact h.m5
  ·rw [List.getElem?_take_of_lt h5];exact h.m5
 ·rcases trim_or L fr H with e | ⟨e,_⟩ <;> rw [e]
  ·exact h.m6
  ·rw [List.getElem?_take_of_lt h6];exact h.m6
end Go.Proofs.Ytdmnenlpdeolaaa
set_option maxRecDepth 100000
namespace Go.Proofs.Ytdmnenlpdeolaaa
open Go.AM
theorem fin_up (r:List Int):Up (fin r)∧∀ x,x∈fin r↔x∈r:=by
 have hs:(sortZ r).Pairwise (·≤·):=by
  have:=List.pairwise_mergeSort (le:=fun x y:Int=>decide (x≤y)) (by intro a b c;simp only [decide_eq_true_eq];omega) (by intro a b;simp only [Bool.or_eq_true,decide_eq_true_eq];omega) r
  simp only [decide_eq_true_eq] at this
  exact this
 have hm:∀ x,x∈sortZ r↔x∈r:=fun x=>by rw [sortZ,List.mem_mergeSort]
 unfold fin
 cases hz:sortZ r with
 | nil=>rw [hz] at hm;exact ⟨trivial,hm⟩
 | cons p l=>
   rw [hz] at hm hs
   obtain ⟨q1,q2⟩:=chg_up l p hs
   exact ⟨q1,fun x=>by rw [← hm x];exact q2 x⟩
inductive Run (T:List Int) (y:Int):Int→Nat→Prop
 | here (k:Nat):(k:Int)=y∨domB T (k:Int) y=false→Run T y (k:Int) k
 | up (k a:Nat):(k:Int)=y∨domB T (k:Int) y=false→Run T y (T.getD k 0) a→Run T y (k:Int) a
theorem bump_get2 (y:Int) (R:List (List Int)) (k a:Nat) (ha:a < R.length):(bump y R (k:Int)).getD a []=if k=a then R.getD a [] ++ [y] else R.getD a []:=by
 unfold bump
 rw [Int.toNat_natCast]
 by_cases e:k=a
 ·subst e
  rw [if_pos rfl,List.getD,List.getElem?_set_self ha];rfl
 ·rw [if_neg e,List.getD,List.getElem?_set_ne e];rfl
theorem run_nat {T:List Int} {y r:Int} {a:Nat} (h:Run T y r a):0≤r:=by
 cases h with
 | here k _=>omega
 | up k _ _ _=>omega
theorem runR_mem {G:List (List Int)} {q:Int} {T:List Int} {lvl:Nat→Nat} (ok:TreeOk G q T lvl) (y:Int) {a:Nat} (ha:a < G.length) (z:Int):∀ (f:Nat) (r:Int) (R:List (List Int)),UpR G q lvl f r→R.length=G.length→(z∈(runR T y f r R).getD a []↔z∈R.getD a []∨(z=y∧Run T y r a)):=by
 intro f
 induction f with
 | zero=>
   intro r R hu hR
   rcases hu with h0 | ⟨k,_,_,h⟩
   ·rw [runR_neg _ _ _ _ h0]
    exact ⟨.inl,fun h=>h.elim id fun h=>by have:=run_nat h.2;omega⟩
   ·omega
 | succ f ih=>
   intro r R hu hR
   rcases hu with h0 | ⟨k,rfl,hk,hf⟩
   ·rw [runR_neg _ _ _ _ h0]
    exact ⟨.inl,fun h=>h.elim id fun h=>by have:=run_nat h.2;omega⟩
   ·have h0:¬ ((k:Int) < 0):=by omega
    by_cases hgo:(k:Int)=y∨domB T (k:Int) y=false
    ·rw [runR,if_neg h0,if_pos hgo,Int.toNat_natCast,ih _ _ (ok.next hk hf) (by rw [bump_len];exact hR),bump_get2 _ _ _ _ (by omega)]
     constructor
     ·rintro (h | ⟨h1,h2⟩)
      ·split at h
       ·rename_i e
        rcases List.mem_append.1 h with h | h
        ·exact .inl h
        ·have:=List.mem_singleton.1 h
         subst e
         exact .inr ⟨this,.here k hgo⟩
       ·exact .inl h
      ·exact .inr ⟨h1,.up k a hgo h2⟩
     ·rintro (h | ⟨h1,h2⟩)
      ·refine .inl ?_
       split
       ·exact List.mem_append.2 (.inl h)
       ·exact h
      ·generalize hki:(k:Int)=ki at h2
       cases h2 with
       | here=>
         have e:k=a:=by omega
         rw [if_pos e]
         exact .inl (List.mem_append.2 (.inr (List.mem_singleton.2 h1)))
       | up k' _ _ h3=>
         have e:k=k':=by omega
         rw [e]
         exact .inr ⟨h1,h3⟩
    ·rw [runR,if_neg h0,if_neg hgo]
     refine ⟨.inl,fun h=>h.elim id fun h=>?_⟩
     obtain ⟨_,h2⟩:=h
     generalize hki:(k:Int)=ki at h2
     cases h2 with
     | here k' h3=>
       rw [← hki] at h3
       exact absurd h3 hgo
     | up k' _ h3 _=>
       rw [← hki] at h3
       exact absurd h3 hgo
theorem TreeOk.up2 {G:List (List Int)} {q:Int} {T:List Int} {lvl:Nat→Nat} (h:TreeOk G q T lvl) {y x:Nat} (hR:Rch G [q] y) (k:AncT T y x):Rch G [q] x:=by
 induction k with
 | refl=>exact hR
 | up k1 _ ih=>exact ih (h.nat k1).2.2.1
theorem TreeOk.dom_nat {G:List (List Int)} {q:Int} {T:List Int} {lvl:Nat→Nat} (h:TreeOk G q T lvl) {a x:Nat} (hx:Rch G [q] x):domB T a x=true↔AncT T x a:=by
 rw [h.dom]
 constructor
 ·rintro ⟨a',x',e1,e2,_,_,k⟩
  have e1:a=a':=by omega
  have e2:x=x':=by omega
  subst e1;subst e2;exact k
 ·intro k
  exact ⟨a,x,rfl,rfl,rch_lt (h.up2 hx k),hx,k⟩
theorem run_iff {G:List (List Int)} {q:Int} {T:List Int} {lvl:Nat→Nat} (ok:TreeOk G q T lvl) (y:Int) {x a:Nat} (hx:Rch G [q] x):Run T y (x:Int) a↔domB T a x=true∧((a:Int)=y∨domB T a y=false):=by
 constructor
 ·intro h
  generalize hxi:(x:Int)=xi at h
  induction h generalizing x with
  | here k hk=>
    have e:x=k:=by omega
    subst e
    exact ⟨(ok.dom_nat hx).2 (.refl _),hk⟩
  | up k a hk h2 ih=>
    have e:x=k:=by omega
    subst e
    have h0:=run_nat h2
    obtain ⟨d,hd⟩:=Int.eq_ofNat_of_zero_le h0
    have hT:T[x]?=some (d:Int):=by rw [some_getD (show x < T.length by rw [ok.len];exact rch_lt hx) 0,hd]
    have hnd:=ok.nat hT
    obtain ⟨i1,i2⟩:=ih hnd.2.2.1 hd.symm
    rw [show T.getD x 0=(d:Int) from hd] at i1
    exact ⟨(ok.dom_nat hx).2 (.up hT ((ok.dom_nat hnd.2.2.1).1 i1)),i2⟩
 ·rintro ⟨h1,h2⟩
  have hA:=(ok.dom_nat hx).1 h1
  clear h1
  induction hA with
  | refl=>exact .here _ h2
  | up k1 k2 ih=>
    rename_i b d a
    have hnd:=ok.nat k1
    refine .up b a ?_ (by rw [getD_some k1 0];exact ih hnd.2.2.1 h2)
    by_cases hby:(b:Int)=y
    ·exact .inl hby
    ·refine .inr ?_
     cases hbd:domB T (b:Int) y with
     | false=>rfl
     | true=>
       exfalso
       have hab:domB T (a:Int) (b:Int)=true:=(ok.dom_nat hx).2 (.up k1 k2)
       have hay:=ok.tra hab hbd
       rcases h2 with h2 | h2
       ·rw [h2] at hab
        exact hby (ok.anti hbd hab)
       ·rw [hay] at h2;cases h2
theorem rowR_mem {G:List (List Int)} {q:Int} {T:List Int} {lvl:Nat→Nat} (ok:TreeOk G q T lvl) {a x:Nat} (ha:a < G.length) (hx:Rch G [q] x) (z:Int):∀ (row:List Int) (R:List (List Int)),R.length=G.length→(z∈(rowR T G.length x row R).getD a []↔z∈R.getD a []∨(z∈row∧domB T a x=true∧((a:Int)=z∨domB T a z=false))):=by
 intro row
 induction row with
 | nil=>intro R _;show z∈R.getD a []↔_;simp
 | cons y row ih=>
   intro R hR
   show z∈(rowR T G.length x row (runR T y G.length x R)).getD a []↔_
   rw [ih _ (by rw [runR_len];exact hR),runR_mem ok y ha z G.length x R (.inr ⟨x,rfl,hx,ok.lv x hx⟩) hR,run_iff ok y hx,List.mem_cons]
   constructor
   ·rintro ((h | ⟨rfl,h⟩) | ⟨h,h'⟩)
    ·exact .inl h
    ·exact .inr ⟨.inl rfl,h⟩
    ·exact .inr ⟨.inr h,h'⟩
   ·rintro (h | ⟨rfl | h,h'⟩)
    ·exact .inl (.inl h)
    ·exact .inl (.inr ⟨rfl,h'⟩)
    ·exact .inr ⟨h,h'⟩
theorem frFrom_mem {G:List (List Int)} {q:Int} {T:List Int} {lvl:Nat→Nat} (ok:TreeOk G q T lvl) {a:Nat} (ha:a < G.length) (z:Int):∀ (N:List (List Int)) (x:Nat) (R:List (List Int)),x+N.length=G.length→R.length=G.length→(z∈(frFrom T G.length x N R).getD a []↔z∈R.getD a []∨∃ i,i < N.length∧Rch G [q] (x+i)∧z∈N.getD i []∧domB T a ((x+i:Nat):Int)=true∧((a:Int)=z∨domB T a z=false)):=by
 intro N
 induction N with
 | nil=>intro x R _ _;rw [frFrom];simp
 | cons r N ih=>
   intro x R hx hR
   rw [List.length_cons] at hx
   have hT:T.getD x 0=-2↔¬ Rch G [q] x:=by
    constructor
    ·intro e hR
     by_cases eq:(x:Int)=q
     ·have:=ok.rt x eq.symm (by omega);omega
     ·obtain ⟨d,e2,_⟩:=ok.id x hR eq
      omega
    ·exact ok.un x (by omega)
   rw [frFrom,ih (x+1) _ (by omega) (by split;exact hR;rw [rowR_len];exact hR)]
   have hmid:z∈(if T.getD x 0=-2 then R else rowR T G.length x r R).getD a []↔z∈R.getD a []∨(Rch G [q] x∧z∈r∧domB T a x=true∧((a:Int)=z∨domB T a z=false)):=by
    by_cases h:Rch G [q] x
    ·rw [if_neg (fun e=>hT.1 e h),rowR_mem ok ha h z r R hR]
     simp only [h,true_and]
    ·rw [if_pos (hT.2 h)]
     simp only [h,false_and,or_false]
   rw [hmid]
   constructor
   ·rintro ((h | h) | ⟨i,h1,h2,h3⟩)
    ·exact .inl h
    ·exact .inr ⟨0,by simp,h⟩
    ·exact .inr ⟨i+1,by simp;omega,by rw [show x+(i+1)=x+1+i by omega];exact ⟨h2,h3⟩⟩
   ·rintro (h | ⟨i,h1,h2,h3⟩)
    ·exact .inl (.inl h)
    ·cases i with
     | zero=>exact .inl (.inr ⟨h2,h3⟩)
     | succ i=>
       rw [show x+(i+1)=x+1+i by omega] at h2 h3
       exact .inr ⟨i,by simpa using h1,h2,h3⟩
theorem frG_row (T:List Int) (G:List (List Int)) {a:Nat} (ha:a < G.length):(frG T G).getD a []=fin ((frFrom T G.length 0 (normG G) (List.replicate G.length [])).getD a []):=by
 unfold frG
 have hl:a < (frFrom T G.length 0 (normG G) (List.replicate G.length [])).length:=by rw [frFrom_len,List.length_replicate];exact ha
 rw [List.getD,List.getElem?_map,some_getD hl []];rfl
theorem frG_up (T:List Int) (G:List (List Int)) {a:Nat} (ha:a < G.length):Up ((frG T G).getD a []):=by rw [frG_row T G ha];exact (fin_up _).1
theorem frG_mem {G:List (List Int)} {q:Int} {T:List Int} {lvl:Nat→Nat} (ok:TreeOk G q T lvl) {a:Nat} (ha:a < G.length) (z:Int):z∈(frG T G).getD a []↔∃ x:Nat,Rch G [q] x∧z∈(normG G).getD x []∧domB T a x=true∧((a:Int)=z∨domB T a z=false):=by
 have hN:=normG_len G
 rw [frG_row T G ha,(fin_up _).2,frFrom_mem ok ha z (normG G) 0 _ (by omega) (by simp)]
 have h0:(List.replicate G.length ([]:List Int)).getD a []=[]:=by rw [List.getD,List.getElem?_replicate,if_pos ha];rfl
 rw [h0]
 constructor
 ·rintro (h | ⟨i,_,h2,h3⟩)
  ·cases h
  ·rw [Nat.zero_add] at h2 h3
   exact ⟨i,h2,h3⟩
 ·rintro ⟨x,h1,h2⟩
  exact .inr ⟨x,by rw [hN];exact rch_lt h1,by rw [Nat.zero_add];exact ⟨h1,h2⟩⟩
end Go.Proofs.Ytdmnenlpdeolaaa
set_option maxRecDepth 100000
namespace Go.Proofs.Ytdmnenlpdeolaaa
open Go.AM
def InR (n:Nat) (y:Int):Prop:=0≤y∧y < n
instance (n:Nat) (y:Int):Decidable (InR n y):=inferInstanceAs (Decidable (_∧_))
inductive ItR (F:List (List Int)) (l:List Int):Int→Prop
 | one (x y:Int):x∈l→InR F.length x→y∈F.getD x.toNat []→InR F.length y→ItR F l y
 | more (x y:Int):ItR F l x→InR F.length x→y∈F.getD x.toNat []→InR F.length y→ItR F l y
theorem itR_in {F:List (List Int)} {l:List Int} {y:Int} (h:ItR F l y):InR F.length y:=by cases h <;> assumption
structure ItI (F:List (List Int)) (l I W:List Int):Prop where
 nI:I.Nodup
 nW:W.Nodup
 rI:∀ x∈I,ItR F l x
 rW:∀ x∈W,InR F.length x∧(x∈l∨ItR F l x)
def Closed (F:List (List Int)) (I:List Int) (z:Int):Prop:=∀ y∈F.getD z.toNat [],InR F.length y→y∈I
def stp (n:Nat) (s:List Int × List Int) (y:Int):List Int × List Int:=if InR n y∧y ∉ s.1 then (s.1 ++ [y],putK s.2 y) else s
theorem mem_putK {ks:List Int} {k x:Int}:x∈putK ks k↔x∈ks∨x=k:=by
 unfold putK
 split
 ·exact ⟨.inl,fun h=>h.elim id fun h=>by rw [h];assumption⟩
 ·simp
theorem putK_nodup {ks:List Int} {k:Int} (h:ks.Nodup):(putK ks k).Nodup:=by
 unfold putK
 split
 ·exact h
 ·rename_i hk
  rw [List.nodup_append]
  refine ⟨h,by simp,fun a ha b hb=>?_⟩
  rw [List.mem_singleton.1 hb]
  intro e
  exact hk (e ▸ ha)
theorem putK_len (ks:List Int) (k:Int):(putK ks k).length≤ks.length+1:=by
 unfold putK
 split
 ·omega
 ·simp
theorem le_up:∀ (l:List Int),l.Pairwise (·≤·)→l.Nodup→Up l:=by
 intro l
 induction l with
 | nil=>intro _ _;trivial
 | cons x l ih=>
   intro h1 h2
   rw [List.pairwise_cons] at h1
   rw [List.nodup_cons] at h2
   refine ⟨fun y hy=>?_,ih h1.2 h2.2⟩
   have:=h1.1 y hy
   have hne:x≠y:=fun e=>h2.1 (e ▸ hy)
   omega
theorem sortI_up {l:List Int} (h:l.Nodup):Up (sortI l):=le_up _ (sortI_le l) ((sortI_perm l).nodup_iff.2 h)
theorem sortI_mem {l:List Int} {x:Int}:x∈sortI l↔x∈l:=(sortI_perm l).mem_iff
theorem nodup_len {l:List Int} {n:Nat} (h:l.Nodup) (hr:∀ x∈l,InR n x):l.length≤n:=by
 rw [← (sortI_perm l).length_eq]
 exact up_len' (sortI_up h) (fun x hx=>hr x (sortI_mem.1 hx))
structure StI (F:List (List Int)) (l:List Int) (x:Int) (done:List Int) (I W:List Int):Prop where
 inv:ItI F l I W
 cl:∀ z,InR F.length z→(z∈l∨z∈I)→z∈W∨(z=x∧∀ y∈done,InR F.length y→y∈I)∨Closed F I z
theorem st_step {F:List (List Int)} {l:List Int} {x:Int} (hx:InR F.length x) (hxl:x∈l∨ItR F l x) {done I W:List Int} (h:StI F l x done I W) {y:Int} (hy:y∈F.getD x.toNat []):StI F l x (done ++ [y]) (stp F.length (I,W) y).1 (stp F.length (I,W) y).2∧2 * (F.length - (stp F.length (I,W) y).1.length)+(stp F.length (I,W) y).2.length≤2 * (F.length - I.length)+W.length:=by
 unfold stp
 by_cases hc:InR F.length y∧y ∉ (I,W).1
 ·rw [if_pos hc]
  obtain ⟨hin,hni⟩:=hc
  have hItR:ItR F l y:=hxl.elim (fun k=>.one x y k hx hy hin) (fun k=>.more x y k hx hy hin)
  have hnd:(I ++ [y]).Nodup:=by
   rw [List.nodup_append]
   refine ⟨h.inv.nI,by simp,fun a ha b hb=>?_⟩
   rw [List.mem_singleton.1 hb]
   intro e
   exact hni (e ▸ ha)
  have hrI:∀ z∈I ++ [y],ItR F l z:=fun z hz=>by
   rcases List.mem_append.1 hz with hz | hz
   ·exact h.inv.rI z hz
   ·rw [List.mem_singleton.1 hz];exact hItR
  have hlen:=nodup_len hnd (fun z hz=>itR_in (hrI z hz))
  have hpl:=putK_len W y
  rw [List.length_append,List.length_singleton] at hlen
  refine ⟨⟨⟨hnd,putK_nodup h.inv.nW,hrI,fun z hz=>?_⟩,fun z hz hzl=>?_⟩,by simp only [List.length_append,List.length_singleton];omega⟩
  ·rcases mem_putK.1 hz with hz | rfl
   ·exact h.inv.rW z hz
   ·exact ⟨hin,.inr hItR⟩
  ·by_cases hzy:z=y
   ·exact .inl (mem_putK.2 (.inr hzy))
   ·have hzl':z∈l∨z∈I:=hzl.imp id fun k=>by
     rcases List.mem_append.1 k with k | k
     ·exact k
     ·exact absurd (List.mem_singleton.1 k) hzy
    rcases h.cl z hz hzl' with k | ⟨rfl,k⟩ | k
    ·exact .inl (mem_putK.2 (.inl k))
    ·refine .inr (.inl ⟨rfl,fun w hw hwr=>?_⟩)
     rcases List.mem_append.1 hw with hw | hw
     ·exact List.mem_append.2 (.inl (k w hw hwr))
     ·exact List.mem_append.2 (.inr hw)
    ·exact .inr (.inr fun w hw hwr=>List.mem_append.2 (.inl (k w hw hwr)))
 ·rw [if_neg hc]
  refine ⟨⟨h.inv,fun z hz hzl=>?_⟩,Nat.le_refl _⟩
  rcases h.cl z hz hzl with k | ⟨rfl,k⟩ | k
  ·exact .inl k
  ·refine .inr (.inl ⟨rfl,fun w hw hwr=>?_⟩)
   rcases List.mem_append.1 hw with hw | hw
   ·exact k w hw hwr
   ·rw [List.mem_singleton.1 hw] at hwr ⊢
    exact Decidable.byContradiction fun hn=>hc ⟨hwr,hn⟩
  ·exact .inr (.inr k)
structure RdI (F:List (List Int)) (l:List Int) (I W:List Int):Prop where
 inv:ItI F l I W
 cl:∀ z,InR F.length z→(z∈l∨z∈I)→z∈W∨Closed F I z
theorem rd_pick {F:List (List Int)} {l I W:List Int} (h:RdI F l I W) {x:Int} (hx:x∈W):StI F l x [] I (W.erase x)∧2 * (F.length - I.length)+(W.erase x).length+1=2 * (F.length - I.length)+W.length:=by
 have hl:=List.length_erase_of_mem hx
 have hp:0 < W.length:=List.length_pos_of_mem hx
 refine ⟨⟨⟨h.inv.nI,h.inv.nW.erase x,h.inv.rI,fun z hz=>h.inv.rW z (List.mem_of_mem_erase hz)⟩,fun z hz hzl=>?_⟩,by omega⟩
 by_cases e:z=x
 ·exact .inr (.inl ⟨e,fun y hy=>by cases hy⟩)
 ·rcases h.cl z hz hzl with k | k
  ·exact .inl ((List.mem_erase_of_ne e).2 k)
  ·exact .inr (.inr k)
theorem rd_done {F:List (List Int)} {l I W:List Int} {x:Int} (h:StI F l x (F.getD x.toNat []) I W):RdI F l I W:=
 ⟨h.inv,fun z hz hzl=>by
  rcases h.cl z hz hzl with k | ⟨rfl,k⟩ | k
  ·exact .inl k
  ·exact .inr k
  ·exact .inr k⟩
theorem rd_end {F:List (List Int)} {l I:List Int} (h:RdI F l I []) (y:Int):y∈I↔ItR F l y:=by
 have cl:∀ z,InR F.length z→(z∈l∨z∈I)→Closed F I z:=fun z hz hzl=>(h.cl z hz hzl).resolve_left (by simp)
 refine ⟨h.inv.rI y,fun k=>?_⟩
 induction k with
 | one x y h1 h2 h3 h4=>exact cl x h2 (.inl h1) y h3 h4
 | more x y h1 h2 h3 h4 ih=>exact cl x h2 (.inr ih) y h3 h4
def begW (n:Nat) (l:List Int):List Int:=l.foldl (fun W x=>if InR n x then putK W x else W) []
theorem begW_mem (n:Nat):∀ (l W:List Int) (x:Int),x∈l.foldl (fun W x=>if InR n x then putK W x else W) W↔x∈W∨(x∈l∧InR n x):=by
 intro l
 induction l with
 | nil=>intro W x;simp
 | cons y l ih=>
   intro W x
   rw [List.foldl_cons,ih,List.mem_cons]
   by_cases hy:InR n y
   ·rw [if_pos hy,mem_putK]
    constructor
    ·rintro ((h | rfl) | h)
     ·exact .inl h
     ·exact .inr ⟨.inl rfl,hy⟩
     ·exact .inr ⟨.inr h.1,h.2⟩
    ·rintro (h | ⟨rfl | h,h'⟩)
     ·exact .inl (.inl h)
     ·exact .inl (.inr rfl)
     ·exact .inr ⟨h,h'⟩
   ·rw [if_neg hy]
    constructor
    ·rintro (h | h)
     ·exact .inl h
     ·exact .inr ⟨.inr h.1,h.2⟩
    ·rintro (h | ⟨rfl | h,h'⟩)
     ·exact .inl h
     ·exact absurd h' hy
     ·exact .inr ⟨h,h'⟩
theorem begW_nodup (n:Nat):∀ (l W:List Int),W.Nodup→(l.foldl (fun W x=>if InR n x then putK W x else W) W).Nodup:=by
 intro l
 induction l with
 | nil=>intro W h;exact h
 | cons y l ih=>
   intro W h
   rw [List.foldl_cons]
   refine ih _ ?_
   split
   ·exact putK_nodup h
   ·exact h
theorem rd_beg (F:List (List Int)) (l:List Int):RdI F l [] (begW F.length l):=by
 refine ⟨⟨List.nodup_nil,begW_nodup _ _ _ List.nodup_nil,fun x hx=>(by cases hx),fun x hx=>?_⟩,fun z hz hzl=>?_⟩
 ·rcases (begW_mem F.length l [] x).1 hx with h | h
  ·cases h
  ·exact ⟨h.2,.inl h.1⟩
 ·refine .inl ((begW_mem F.length l [] z).2 (.inr ⟨hzl.resolve_right (by simp),hz⟩))
end Go.Proofs.Ytdmnenlpdeolaaa
set_option maxRecDepth 100000
namespace Go.Proofs.Ytdmnenlpdeolaaa
open Go.AM
section
variable {CT:Nat→Option CFun}
theorem it_l0 (base:Nat) {A:Heap} {j5 j6:Nat} {v lv:V} {F:List (List Int)} {l:List Int} (hb:base≤A.length) (hv:RdRows A v (rowsV F)) (hl:Rd A lv (l.map iV)) (hlw:Wide1 lv) (hll:l.length < 2 ^ 40) {L:Nat} (h5:j5 < L) (h6:j6 < L) {H:Heap} (hs:IS A H j5 j6 [] []):
 ∃ H',itW (evC (callW CT) itW base s_f19_l0) [] L (frOf 72 [(0,v),(5,.mp j5),(6,.mp j6),(14,lv),(15,.s (.int .i64 l.length)),(16,.s (.int .i64 0))]) H=some (.ext 0,frOf 72 [(0,v),(5,.mp j5),(6,.mp j6),(14,lv),(15,.s (.int .i64 l.length)),(16,.s (.int .i64 l.length)),(17,bl false)],H')∧IS A H' j5 j6 [] (begW F.length l):=by
 have hvl:=rows_lenV hv
 obtain ⟨H',e1,a1⟩:=it_rel l.length (fun i (C:Heap)=>IS A C j5 j6 [] ((l.take i).foldl (fun W x=>if InR F.length x then putK W x else W) [])) (fun i C=>itW (evC (callW CT) itW base s_f19_l0) [] L (frOf 72 [(0,v),(5,.mp j5),(6,.mp j6),(14,lv),(15,.s (.int .i64 l.length)),(16,.s (.int .i64 i))]) C) (by
  intro i C hi hC
  have hlt':(i:Int) < (l.length:Int):=by omega
  have hwk:=w64 (n:=i) (by omega)
  have hgi:=some_getD hi (0:Int)
  obtain ⟨a,x1,x2⟩:=iV_get (hl.ext hC.ext) hlw hi
  rw [take_snoc hgi,List.foldl_append]
  obtain ⟨W,hW⟩:∃ W,(l.take i).foldl (fun W x=>if InR F.length x then putK W x else W) []=W:=⟨_,rfl⟩
  rw [hW] at hC ⊢
  obtain ⟨x,hx⟩:∃ x,l.getD i 0=x:=⟨_,rfl⟩
  rw [hx] at x2 ⊢
  show ∃ C',_∧IS A C' j5 j6 [] (if InR F.length x then putK W x else W)
  by_cases h0:0≤x
  ·by_cases h1:x < (F.length:Int)
   ·have hp:=put_k (base:=base) (by have:=hC.a6;omega) hC.m6 x
    rw [if_pos ⟨h0,h1⟩]
    refine ⟨_,?_,(hC.set6 _).trim h5 h6 (frOf 72 [(0,v),(5,.mp j5),(6,.mp j6),(14,lv),(15,.s (.int .i64 l.length)),(16,.s (.int .i64 (i+1:Nat)))])⟩
    rw [itW_step]
    simp only [a_f19,s_f19_l0_b,s_f19_l1_b,s_f19_l2_b,aa,bl,i64,reduceIte,reduceCtorEq,Nat.reduceEqDiff,Nat.reduceLT,Nat.reduceLeDiff,Nat.reduceBEq,Nat.reduceAdd,fillA,splice,Nat.reduceMul,amY,op_eqP,hlt',hwk,x1,x2,hvl,ge_iff_le,h0,h1,op_mapUpd,hp]
   ·rw [if_neg (fun k=>h1 k.2)]
    refine ⟨_,?_,hC.trim h5 h6 (frOf 72 [(0,v),(5,.mp j5),(6,.mp j6),(14,lv),(15,.s (.int .i64 l.length)),(16,.s (.int .i64 (i+1:Nat)))])⟩
    rw [itW_step]
    simp only [a_f19,s_f19_l0_b,s_f19_l1_b,s_f19_l2_b,aa,bl,i64,reduceIte,reduceCtorEq,Nat.reduceEqDiff,Nat.reduceLT,Nat.reduceLeDiff,Nat.reduceBEq,Nat.reduceAdd,fillA,splice,Nat.reduceMul,amY,op_eqP,hlt',hwk,x1,x2,hvl,ge_iff_le,h0,h1]
  ·rw [if_neg (fun k=>h0 k.1)]
   refine ⟨_,?_,hC.trim h5 h6 (frOf 72 [(0,v),(5,.mp j5),(6,.mp j6),(14,lv),(15,.s (.int .i64 l.length)),(16,.s (.int .i64 (i+1:Nat)))])⟩
   rw [itW_step]
   simp only [a_f19,s_f19_l0_b,s_f19_l1_b,s_f19_l2_b,aa,bl,i64,reduceIte,reduceCtorEq,Nat.reduceEqDiff,Nat.reduceLT,Nat.reduceLeDiff,Nat.reduceBEq,Nat.reduceAdd,fillA,splice,Nat.reduceMul,amY,op_eqP,hlt',hwk,x1,x2,hvl,ge_iff_le,h0]) 0 H (Nat.zero_le _) hs
 rw [cast0] at e1
 rw [List.take_length] at a1
 refine ⟨_,e1.trans ?_,a1.trim h5 h6 (frOf 72 [(0,v),(5,.mp j5),(6,.mp j6),(14,lv),(15,.s (.int .i64 l.length)),(16,.s (.int .i64 l.length)),(17,bl false)])⟩
 rw [itW_step]
 simp only [a_f19,s_f19_l0_b,s_f19_l1_b,s_f19_l2_b,aa,bl,i64,reduceIte,reduceCtorEq,Nat.reduceEqDiff,Nat.reduceLT,Nat.reduceLeDiff,Nat.reduceBEq,Nat.reduceAdd,fillA,splice,Nat.reduceMul,amY,op_eqP,Int.lt_irrefl,bl]
theorem it_l1 (base:Nat) {A:Heap} {j5 j6:Nat} {v rv:V} {F:List (List Int)} {l row:List Int} {x:Int} (hb:base≤A.length) (hv:RdRows A v (rowsV F)) (hx:InR F.length x) (hxl:x∈l∨ItR F l x) (hrow:F.getD x.toNat []=row) (hl:Rd A rv (row.map iV)) (hlw:Wide1 rv) (hll:row.length < 2 ^ 40) {L:Nat} (h5:j5 < L) (h6:j6 < L) {H:Heap} {I W:List Int} (hs:IS A H j5 j6 I W) (hst:StI F l x [] I W):
 ∃ H' I' W',itW (evC (callW CT) itW base s_f19_l1) [] L (frOf 72 [(0,v),(5,.mp j5),(6,.mp j6),(44,rv),(45,.s (.int .i64 row.length)),(46,.s (.int .i64 0))]) H=some (.ext 4,frOf 72 [(0,v),(5,.mp j5),(6,.mp j6),(44,rv),(45,.s (.int .i64 row.length)),(46,.s (.int .i64 row.length)),(47,bl false)],H')∧IS A H' j5 j6 I' W'∧RdI F l I' W'∧2 * (F.length - I'.length)+W'.length≤2 * (F.length - I.length)+W.length:=by
 have hvl:=rows_lenV hv
 obtain ⟨⟨H',I',W'⟩,e1,a1,a2,a3⟩:=it_rel row.length (fun i (s:Heap × List Int × List Int)=>IS A s.1 j5 j6 s.2.1 s.2.2∧StI F l x (row.take i) s.2.1 s.2.2∧2 * (F.length - s.2.1.length)+s.2.2.length≤2 * (F.length - I.length)+W.length) (fun i s=>itW (evC (callW CT) itW base s_f19_l1) [] L (frOf 72 [(0,v),(5,.mp j5),(6,.mp j6),(44,rv),(45,.s (.int .i64 row.length)),(46,.s (.int .i64 i))]) s.1) (by
  rintro i ⟨C,I,W⟩ hi ⟨hC,hS,hM⟩
  simp only at hC hS hM
  have hlt':(i:Int) < (row.length:Int):=by omega
  have hwk:=w64 (n:=i) (by omega)
  have hgi:=some_getD hi (0:Int)
  obtain ⟨a,x1,x2⟩:=iV_get (hl.ext hC.ext) hlw hi
  rw [take_snoc hgi]
  obtain ⟨y,hy⟩:∃ y,row.getD i 0=y:=⟨_,rfl⟩
  rw [hy] at x2 hgi ⊢
  obtain ⟨s1,s2⟩:=st_step hx hxl hS (y:=y) (by rw [hrow];exact List.mem_of_getElem? hgi)
  unfold stp at s1 s2
  simp only at s1 s2
  by_cases h0:0≤y
  ·by_cases h1:y < (F.length:Int)
   ·have hg:=get_k hC.m5 y
    by_cases h2:y∈I
    ·rw [if_neg (fun k=>k.2 h2)] at s1 s2
     rw [decide_eq_true h2] at hg
     refine ⟨⟨Go.AM.trim L (frOf 72 [(0,v),(5,.mp j5),(6,.mp j6),(44,rv),(45,.s (.int .i64 row.length)),(46,.s (.int .i64 (i+1:Nat)))]) C,I,W⟩,?_,hC.trim h5 h6 (frOf 72 [(0,v),(5,.mp j5),(6,.mp j6),(44,rv),(45,.s (.int .i64 row.length)),(46,.s (.int .i64 (i+1:Nat)))]),s1,by simp only;omega⟩
     rw [itW_step]
     simp only [a_f19,s_f19_l0_b,s_f19_l1_b,s_f19_l2_b,aa,bl,i64,reduceIte,reduceCtorEq,Nat.reduceEqDiff,Nat.reduceLT,Nat.reduceLeDiff,Nat.reduceBEq,Nat.reduceAdd,fillA,splice,Nat.reduceMul,amY,op_eqP,hlt',hwk,x1,x2,hvl,ge_iff_le,h0,h1,hg]
    ·rw [if_pos ⟨⟨h0,h1⟩,h2⟩] at s1 s2
     rw [decide_eq_false h2] at hg
     have hp5:=put_k (base:=base) (by have:=hC.a5;omega) hC.m5 y
     have hI:putK I y=I ++ [y]:=by unfold putK;rw [if_neg h2]
     rw [hI] at hp5
     have hC5:=hC.set5 (I ++ [y])
     have hp6:=put_k (base:=base) (by have:=hC.a6;omega) hC5.m6 y
     refine ⟨⟨Go.AM.trim L (frOf 72 [(0,v),(5,.mp j5),(6,.mp j6),(44,rv),(45,.s (.int .i64 row.length)),(46,.s (.int .i64 (i+1:Nat)))]) ((C.set j5 (setM (I ++ [y]))).set j6 (setM (putK W y))),I ++ [y],putK W y⟩,?_,(hC5.set6 (putK W y)).trim h5 h6 (frOf 72 [(0,v),(5,.mp j5),(6,.mp j6),(44,rv),(45,.s (.int .i64 row.length)),(46,.s (.int .i64 (i+1:Nat)))]),s1,by simp only at s2 ⊢;omega⟩
     rw [itW_step]
     simp only [a_f19,s_f19_l0_b,s_f19_l1_b,s_f19_l2_b,aa,bl,i64,reduceIte,reduceCtorEq,Nat.reduceEqDiff,Nat.reduceLT,Nat.reduceLeDiff,Nat.reduceBEq,Nat.reduceAdd,fillA,splice,Nat.reduceMul,amY,op_eqP,hlt',hwk,x1,x2,hvl,ge_iff_le,h0,h1,hg,op_mapUpd,hp5,hp6]
   ·rw [if_neg (fun k=>h1 k.1.2)] at s1 s2
    refine ⟨⟨Go.AM.trim L (frOf 72 [(0,v),(5,.mp j5),(6,.mp j6),(44,rv),(45,.s (.int .i64 row.length)),(46,.s (.int .i64 (i+1:Nat)))]) C,I,W⟩,?_,hC.trim h5 h6 (frOf 72 [(0,v),(5,.mp j5),(6,.mp j6),(44,rv),(45,.s (.int .i64 row.length)),(46,.s (.int .i64 (i+1:Nat)))]),s1,by simp only;omega⟩
    rw [itW_step]
    simp only [a_f19,s_f19_l0_b,s_f19_l1_b,s_f19_l2_b,aa,bl,i64,reduceIte,reduceCtorEq,Nat.reduceEqDiff,Nat.reduceLT,Nat.reduceLeDiff,Nat.reduceBEq,Nat.reduceAdd,fillA,splice,Nat.reduceMul,amY,op_eqP,hlt',hwk,x1,x2,hvl,ge_iff_le,h0,h1]
  ·rw [if_neg (fun k=>h0 k.1.1)] at s1 s2
   refine ⟨⟨Go.AM.trim L (frOf 72 [(0,v),(5,.mp j5),(6,.mp j6),(44,rv),(45,.s (.int .i64 row.length)),(46,.s (.int .i64 (i+1:Nat)))]) C,I,W⟩,?_,hC.trim h5 h6 (frOf 72 [(0,v),(5,.mp j5),(6,.mp j6),(44,rv),(45,.s (.int .i64 row.length)),(46,.s (.int .i64 (i+1:Nat)))]),s1,by simp only;omega⟩
   rw [itW_step]
   simp only [a_f19,s_f19_l0_b,s_f19_l1_b,s_f19_l2_b,aa,bl,i64,reduceIte,reduceCtorEq,Nat.reduceEqDiff,Nat.reduceLT,Nat.reduceLeDiff,Nat.reduceBEq,Nat.reduceAdd,fillA,splice,Nat.reduceMul,amY,op_eqP,hlt',hwk,x1,x2,hvl,ge_iff_le,h0]) 0 ⟨H,I,W⟩ (Nat.zero_le _) ⟨hs,hst,Nat.le_refl _⟩
 rw [cast0] at e1
 simp only [List.take_length] at a1 a2 a3 e1
 rw [← hrow] at a2
 refine ⟨_,I',W',e1.trans ?_,a1.trim h5 h6 (frOf 72 [(0,v),(5,.mp j5),(6,.mp j6),(44,rv),(45,.s (.int .i64 row.length)),(46,.s (.int .i64 row.length)),(47,bl false)]),rd_done a2,a3⟩
 rw [itW_step]
 simp only [a_f19,s_f19_l0_b,s_f19_l1_b,s_f19_l2_b,aa,bl,i64,reduceIte,reduceCtorEq,Nat.reduceEqDiff,Nat.reduceLT,Nat.reduceLeDiff,Nat.reduceBEq,Nat.reduceAdd,fillA,splice,Nat.reduceMul,amY,op_eqP,Int.lt_irrefl,bl]
end
end Go.Proofs.Ytdmnenlpdeolaaa
set_option maxRecDepth 100000
namespace Go.Proofs.Ytdmnenlpdeolaaa
open Go.AM
theorem keyOk_in {n:Nat} (hn:n < 2 ^ 40) {x:Int} (h:InR n x):keyOkZ x=true:=by
 have h1:=h.1
 have h2:=h.2
 unfold keyOkZ
 rw [Bool.and_eq_true,decide_eq_true_iff,decide_eq_true_iff]
 omega
section
variable {CT:Nat→Option CFun}
structure CI (CT:Nat→Option CFun):Prop where
 it:CT k_f19=some (.code s_f19)
 keys:CT k_f37=some (.code s_f37)
 sorted:CT k_f36=some (.prim (sortedG k_f49))
theorem it_l2 (h:CI CT) (base:Nat) {A:Heap} {j5 j6:Nat} {v:V} {F:List (List Int)} {l:List Int} (hb:base≤A.length) (hv:RdRows A v (rowsV F)) (hn:F.length < 2 ^ 39) (hr:∀ r∈F,r.length < 2 ^ 40) {L:Nat} (h5:j5 < L) (h6:j6 < L):
 ∀ (m:Nat) (I W:List Int) (H:Heap),2 * (F.length - I.length)+W.length≤m→IS A H j5 j6 I W→RdI F l I W→
 ∃ H' I',itW (evC (callW CT) itW base s_f19_l2) [14,15,16,17,44,45,46,47] L (frOf 72 [(0,v),(5,.mp j5),(6,.mp j6)]) H=some (.ext 2,frOf 72 [(0,v),(5,.mp j5),(6,.mp j6),(33,bl false)],H')∧IS A H' j5 j6 I' []∧RdI F l I' []:=by
 intro m
 induction m with
 | zero=>
   intro I W H hm hs hI
   have hW:W=[]:=List.eq_nil_of_length_eq_zero (by omega)
   subst hW
   have hl:=len_k hs.m6
   refine ⟨_,I,?_,hs.trim h5 h6 (frOf 72 [(0,v),(5,.mp j5),(6,.mp j6),(33,bl false)]),hI⟩
   rw [itW_step]
   simp only [a_f19,s_f19_l0_b,s_f19_l1_b,s_f19_l2_b,aa,bl,i64,reduceIte,reduceCtorEq,Nat.reduceEqDiff,Nat.reduceLT,Nat.reduceLeDiff,Nat.reduceBEq,Nat.reduceAdd,fillA,splice,Nat.reduceMul,amY,op_eqP,hl,bl,List.length_nil,cast0,gt_iff_lt,Int.lt_irrefl]
 | succ m ih=>
   intro I W H hm hs hI
   have hl:=len_k hs.m6
   by_cases hW:W.length=0
   ·have hW:W=[]:=List.eq_nil_of_length_eq_zero hW
    subst hW
    refine ⟨_,I,?_,hs.trim h5 h6 (frOf 72 [(0,v),(5,.mp j5),(6,.mp j6),(33,bl false)]),hI⟩
    rw [itW_step]
    simp only [a_f19,s_f19_l0_b,s_f19_l1_b,s_f19_l2_b,aa,bl,i64,reduceIte,reduceCtorEq,Nat.reduceEqDiff,Nat.reduceLT,Nat.reduceLeDiff,Nat.reduceBEq,Nat.reduceAdd,fillA,splice,Nat.reduceMul,amY,op_eqP,hl,bl,List.length_nil,cast0,gt_iff_lt,Int.lt_irrefl]
   ·have hWl:=nodup_len hI.inv.nW (fun x hx=>(hI.inv.rW x hx).1)
    have hpos:(0:Int) < (W.length:Int):=by omega
    have hk:=keys_fun h.keys base H j6
    have hsd:=sorted_fun h.sorted base hs.m6 (fun k hk=>keyOk_in (by omega) (hI.inv.rW k hk).1) (by omega)
    rw [if_neg hW] at hsd
    have hsl:(sortI W).length=W.length:=(sortI_perm W).length_eq
    have hx0:(sortI W)[0]?=some ((sortI W).getD 0 0):=some_getD (by omega) 0
    obtain ⟨x,hx⟩:∃ x,(sortI W).getD 0 0=x:=⟨_,rfl⟩
    rw [hx] at hx0
    have hxW:x∈W:=sortI_mem.1 (List.mem_of_getElem? hx0)
    obtain ⟨hxr,hxl⟩:=hI.inv.rW x hxW
    obtain ⟨k,hkx⟩:=Int.eq_ofNat_of_zero_le hxr.1
    subst hkx
    have hkn:k < F.length:=by have:=hxr.2;omega
    obtain ⟨s1,s2⟩:=rd_pick hI hxW
    have hgc:getC (H ++ [.cells 0 [.mp j6]] ++ [.cells 0 ((sortI W).map iV)]) (H.length+1) 0=some ((sortI W).map iV):=by
     have:=getC_new (H ++ [Ob.cells 0 [.mp j6]]) 0 ((sortI W).map iV)
     rwa [len_snoc] at this
    obtain ⟨y1,y2⟩:=at_sl hgc (n:=W.length) (j:=0) (by omega) (w:=iV (k:Int)) (by rw [List.getElem?_map,hx0];rfl)
    have hs2:=(hs.app [.cells 0 [.mp j6]]).app [.cells 0 ((sortI W).map iV)]
    have hdl:=del_k (base:=base) (by have:=hs.a6;omega) hs2.m6 hxW
    have hs3:=hs2.set6 (W.erase k)
    have e2:∀ ob ob2:Ob,(H ++ [ob] ++ [ob2]).length=H.length+2:=fun ob ob2=>by simp
    obtain ⟨H3,hH3⟩:∃ H3,(H ++ [Ob.cells 0 [.mp j6]] ++ [Ob.cells 0 ((sortI W).map iV)]).set j6 (setM (W.erase k))=H3:=⟨_,rfl⟩
    have hl3:H3.length=H.length+2:=by rw [← hH3,List.length_set];exact e2 _ _
    rw [hH3] at hdl hs3
    obtain ⟨ra,rv,r1,r2,r3,r4⟩:=rows_ext hv (rowsV_get (some_getD hkn []))
    have r5:=r4 _ hs3.ext
    have hrl:=iV_len (r2.ext hs3.ext)
    have hgd:F.getD ((k:Nat):Int).toNat []=F.getD k []:=by rw [Int.toNat_natCast]
    obtain ⟨H4,I',W',l1,l2,l3,l4⟩:=it_l1 (CT:=CT) base hb hv hxr hxl hgd r2 r3 (hr _ (List.mem_of_getElem? (some_getD hkn []))) (L:=H.length+2) (by have:=hs.lt;omega) (by have:=hs.lt;omega) hs3 s1
    obtain ⟨H',I2,q1,q2,q3⟩:=ih I' W' (Go.AM.trim L (frOf 72 [(0,v),(5,.mp j5),(6,.mp j6)]) H4) (by omega) (l2.trim h5 h6 _) l3
    refine ⟨H',I2,?_,q2,q3⟩
    simp only [cast0] at y1 y2
    simp only [bl] at l1
    simp only [iV] at y2
    rw [itW_step]
    simp only [a_f19,s_f19_l0_b,s_f19_l1_b,s_f19_l2_b,aa,bl,i64,reduceIte,reduceCtorEq,Nat.reduceEqDiff,Nat.reduceLT,Nat.reduceLeDiff,Nat.reduceBEq,Nat.reduceAdd,fillA,splice,Nat.reduceMul,amY,op_eqP,hl,gt_iff_lt,hpos,hk,hsd,y1,y2,op_delete,hdl,r1,r5,hrl,hl3,l1]
    exact q1
theorem iterate_f (h:CI CT) (base:Nat) (A:Heap) {v lv:V} {F:List (List Int)} {l:List Int} (hb:base≤A.length) (hv:RdRows A v (rowsV F)) (hl:Rd A lv (l.map iV)) (hlw:Wide1 lv) (hll:l.length < 2 ^ 40) (hn:F.length < 2 ^ 39) (hr:∀ r∈F,r.length < 2 ^ 40):
 ∃ (v':V) (H':Heap) (Z:List Int),callW CT (.fn k_f19 [] []) [v,lv] base A=some (v',H')∧Ext A H'∧Rd H' v' (Z.map iV)∧Wide1 v'∧Up Z∧∀ y,y∈Z↔ItR F l y:=by
 have hs0:IS A (A ++ [setM []] ++ [setM []]) A.length (A.length+1) [] []:=by
  refine ⟨(Ext.app _ _).trans (Ext.app _ _),by omega,by omega,by omega,?_,?_⟩
  ·simp
  ·have:(A ++ [setM []]).length=A.length+1:=by simp
   rw [← this,List.getElem?_concat_length]
 have hm0:setM []=.map []:=rfl
 have e2:∀ ob ob2:Ob,(A ++ [ob] ++ [ob2]).length=A.length+2:=fun ob ob2=>by simp
 have hll2:∀ H',Ext A H'→xLen H' .s lv=some (.s (.int .i64 l.length)):=fun H' e=>iV_len (hl.ext e)
 obtain ⟨H1,p1,p2⟩:=it_l0 (CT:=CT) base hb hv hl hlw hll (L:=A.length+2) (by omega) (by omega) hs0
 obtain ⟨H2,I,q1,q2,q3⟩:=it_l2 h base hb hv hn hr (L:=H1.length) p2.lt.1 p2.lt.2 _ [] (begW F.length l) H1 (Nat.le_refl _) p2 (rd_beg F l)
 have hIr:∀ x∈I,InR F.length x:=fun x hx=>itR_in (q3.inv.rI x hx)
 have hIl:=nodup_len q3.inv.nI hIr
 have hk:=keys_fun h.keys base H2 A.length
 have hsd:=sorted_fun h.sorted base q2.m5 (fun k hk=>keyOk_in (by omega) (hIr k hk)) (by omega)
 have hend:∀ y,y∈sortI I↔ItR F l y:=fun y=>by rw [sortI_mem];exact rd_end q3 y
 have hup:=sortI_up q3.inv.nI
 have hx:=hll2 _ hs0.ext
 rw [hm0] at hx p1
 simp only [bl] at p1 q1
 by_cases hI:I.length=0
 ·rw [if_pos hI] at hsd
  have hI2:I=[]:=List.eq_nil_of_length_eq_zero hI
  refine ⟨nilS,H2 ++ [.cells 0 [.mp A.length]],sortI I,callW_fn (c:=s_f19) h.it (by simp [s_f19]) ?_,q2.ext.trans (Ext.app _ _),by rw [hI2];exact Rd.nil _,trivial,hup,hend⟩
  simp only [nilS] at hsd
  simp only [s_f19,a_f19,s_f19_l0_b,s_f19_l1_b,s_f19_l2_b,aa,bl,i64,reduceIte,reduceCtorEq,Nat.reduceEqDiff,Nat.reduceLT,Nat.reduceLeDiff,Nat.reduceBEq,Nat.reduceAdd,fillA,splice,Nat.reduceMul,amY,op_eqP,op_mapNew,len_snoc,e2,hx,p1,q1,hk,hsd,nilS]
 ·rw [if_neg hI] at hsd
  have hrd:=getC_sl (getC_new (H2 ++ [Ob.cells 0 [.mp A.length]]) 0 ((sortI I).map iV))
  rw [len_snoc,List.length_map,(sortI_perm I).length_eq] at hrd
  refine ⟨_,_,sortI I,callW_fn (c:=s_f19) h.it (by simp [s_f19]) ?_,(q2.ext.trans (Ext.app _ [.cells 0 [.mp A.length]])).trans (Ext.app _ [.cells 0 ((sortI I).map iV)]),hrd,trivial,hup,hend⟩
  simp only [s_f19,a_f19,s_f19_l0_b,s_f19_l1_b,s_f19_l2_b,aa,bl,i64,reduceIte,reduceCtorEq,Nat.reduceEqDiff,Nat.reduceLT,Nat.reduceLeDiff,Nat.reduceBEq,Nat.reduceAdd,fillA,splice,Nat.reduceMul,amY,op_eqP,op_mapNew,len_snoc,e2,hx,p1,q1,hk,hsd]
end
end Go.Proofs.Ytdmnenlpdeolaaa
set_option maxRecDepth 100000
namespace Go.Proofs.Ytdmnenlpdeolaaa
open Go.AM
theorem any_succ {α:Type} (l:List α) (p:α→Bool) (i:Nat) {x:α} (hx:l[i]?=some x):(l.take (i+1)).any p=((l.take i).any p || p x):=by
 rw [List.take_succ,hx,List.any_append]
 simp
theorem taleR_nu (fr:List V) (H:Heap) (os:List (Nat × E)) (kill:List Nat):taleR fr H os kill false=none:=rfl
theorem segL_nu (H:Heap) (o:Option St):segL H none o=o:=rfl
theorem reqB_nu (b r:Bool):reqB (some und) b r=false:=rfl
section
variable {CT:Nat→Option CFun}
theorem ro17_a (base:Nat) (H:Heap) (v lv tv fv nv a0 a1 a2 a3:V):origRow (callW CT) itW base s_f5_r17t25 [72,75,76,77,78,79,80,81,82,83,84,85,86,87,88,89,90,91,92,93,94,95,96,97,98,99,100,101,102,103,104] (frOf 254 [(0,v),(2,lv),(7,tv),(8,fv),(9,nv),(10,a0),(11,a1),(13,a2),(14,a3),(76,V.s (Value.bool true)),(92,und),(96,und),(100,und)]) H=some (.nrm,frOf 254 [(0,v),(2,lv),(7,tv),(8,fv),(9,nv),(10,a0),(11,a1),(12,V.s (Value.bool true)),(13,a2),(14,a3)],H):=by
 simp only [origRow,s_f5_r17t25,aa,bl,i64,reduceIte,reduceCtorEq,Nat.reduceEqDiff,Nat.reduceLT,Nat.reduceLeDiff,Nat.reduceBEq,Nat.reduceAdd,fillA,splice,Nat.reduceMul,amY,op_eqP,evC_ops,evOps_nil,evOps_cons,evOps_guard,opK_bool,wantV_bool,wantV_und,put_some,evOp_pick,pickR,op_move,op_un,ev_t,ev_c,resK_some]
theorem ro17_b (base:Nat) (H:Heap) (v lv tv fv nv a0 a1 a2 a3:V):origRow (callW CT) itW base s_f5_r17t25 [72,75,76,77,78,79,80,81,82,83,84,85,86,87,88,89,90,91,92,93,94,95,96,97,98,99,100,101,102,103,104] (frOf 254 [(0,v),(2,lv),(7,tv),(8,fv),(9,nv),(10,a0),(11,a1),(13,a2),(14,a3),(76,V.s (Value.bool false)),(92,V.s (Value.bool false)),(96,und),(100,und)]) H=some (.nrm,frOf 254 [(0,v),(2,lv),(7,tv),(8,fv),(9,nv),(10,a0),(11,a1),(12,V.s (Value.bool false)),(13,a2),(14,a3)],H):=by
 simp only [origRow,s_f5_r17t25,aa,bl,i64,reduceIte,reduceCtorEq,Nat.reduceEqDiff,Nat.reduceLT,Nat.reduceLeDiff,Nat.reduceBEq,Nat.reduceAdd,fillA,splice,Nat.reduceMul,amY,op_eqP,evC_ops,evOps_nil,evOps_cons,evOps_guard,opK_bool,wantV_bool,wantV_und,put_some,evOp_pick,pickR,op_move,op_un,ev_t,ev_c,resK_some]
theorem fronts_l0 (hD:CT k_f13=some (.code s_f13)) (base:Nat) {H:Heap} {v lv tv fv nv:V} {N:List (List Int)} {T:List Int} (hN:RdRows H nv (rowsV N)) (ht:Rd H tv (T.map iV)) (htw:Wide1 tv) (hn:T.length < 2 ^ 18) (a y x:Nat) (hx:x < N.length) (hrl:(N.getD x []).length < 2 ^ 40) (w:Bool):
 itW (evC (callW CT) itW base s_f5_l0) [] H.length (frOf 254 [(0,v),(2,lv),(7,tv),(8,fv),(9,nv),(10,.s (.int .i64 a)),(11,.s (.int .i64 y)),(12,bl w),(13,.s (.int .i64 x)),(14,.s (.int .i64 0))]) H=some (.ext 6,frOf 254 [(0,v),(2,lv),(7,tv),(8,fv),(9,nv),(10,.s (.int .i64 a)),(11,.s (.int .i64 y)),(12,bl (w || (N.getD x []).any fun z=>z == (y:Int) && domB T a x && ((a:Int) == (y:Int) || !domB T a y))),(13,.s (.int .i64 x)),(14,.s (.int .i64 (N.getD x []).length)),(72,bl false)],H):=by
 obtain ⟨ra,rv,r1,r2,r3,r4⟩:=rows_at hN (some_getD hx [])
 have hl:=iV_len r3
 have hd1:=dom_fun hD base H tv T (a:Int) (x:Int) ht htw (by omega)
 have hd2:=dom_fun hD base H tv T (a:Int) (y:Int) ht htw (by omega)
 obtain ⟨row,hrow⟩:∃ row,N.getD x []=row:=⟨_,rfl⟩
 rw [hrow] at r3 hl hrl ⊢
 have hst:=it_fun row.length (fun i=>itW (evC (callW CT) itW base s_f5_l0) [] H.length (frOf 254 [(0,v),(2,lv),(7,tv),(8,fv),(9,nv),(10,.s (.int .i64 a)),(11,.s (.int .i64 y)),(12,bl (w || (row.take i).any fun z=>z == (y:Int) && domB T a x && ((a:Int) == (y:Int) || !domB T a y))),(13,.s (.int .i64 x)),(14,.s (.int .i64 i))]) H) (by
  intro i hi
  have hlt':((i:Int) < (row.length:Int)):=by omega
  have hwk:=w64 (n:=i) (by omega)
  have hs:=any_succ row (fun z=>z == (y:Int) && domB T a x && ((a:Int) == (y:Int) || !domB T a y)) i (some_getD hi 0)
  obtain ⟨ea,e1,e2⟩:=iV_at r3 r4 (some_getD hi (0:Int))
  rw [hs]
  obtain ⟨z,hz⟩:∃ z,row.getD i 0=z:=⟨_,rfl⟩
  rw [hz] at e2 ⊢
  rw [itW_step]
  cases hb:(w || (row.take i).any fun z=>z == (y:Int) && domB T a x && ((a:Int) == (y:Int) || !domB T a y)) with
  | true=>
    rw [show (w || ((row.take i).any (fun z=>z == (y:Int) && domB T a x && ((a:Int) == (y:Int) || !domB T a y)) || (z == (y:Int) && domB T a x && ((a:Int) == (y:Int) || !domB T a y))))=true by rw [← Bool.or_assoc,hb,Bool.true_or]]
    simp only [bl,a_f5,s_f5_l0_b,s_f5_l1_b,s_f5_l2_b,s_f5_l3_b,s_f5_l4_b,s_f5_l5_b,s_f5_l6_b,s_f5_l7_b,s_f5_l8_b,s_f5_l9_b,s_f5_l10_b,aa,bl,i64,reduceIte,reduceCtorEq,Nat.reduceEqDiff,Nat.reduceLT,Nat.reduceLeDiff,Nat.reduceBEq,Nat.reduceAdd,fillA,splice,Nat.reduceMul,amY,op_eqP,hlt',r1,r2,hl,hwk,trim_same rfl,Bool.false_and,reqB_nu,taleR_nu,segL_nu,ro17_a]
  | false=>
    rw [← Bool.or_assoc,hb,Bool.false_or]
    cases e3:(z == (y:Int)) with
    | false=>
      simp only [bl,a_f5,s_f5_l0_b,s_f5_l1_b,s_f5_l2_b,s_f5_l3_b,s_f5_l4_b,s_f5_l5_b,s_f5_l6_b,s_f5_l7_b,s_f5_l8_b,s_f5_l9_b,s_f5_l10_b,aa,bl,i64,reduceIte,reduceCtorEq,Nat.reduceEqDiff,Nat.reduceLT,Nat.reduceLeDiff,Nat.reduceBEq,Nat.reduceAdd,fillA,splice,Nat.reduceMul,amY,op_eqP,hlt',r1,r2,e1,e2,e3,hl,hwk,trim_same rfl,Bool.false_and,reqB_nu,taleR_nu,segL_nu,ro17_b]
    | true=>
      cases h1:domB T a x with
      | false=>
        rw [h1] at hd1
        simp only [bl,a_f5,s_f5_l0_b,s_f5_l1_b,s_f5_l2_b,s_f5_l3_b,s_f5_l4_b,s_f5_l5_b,s_f5_l6_b,s_f5_l7_b,s_f5_l8_b,s_f5_l9_b,s_f5_l10_b,aa,bl,i64,reduceIte,reduceCtorEq,Nat.reduceEqDiff,Nat.reduceLT,Nat.reduceLeDiff,Nat.reduceBEq,Nat.reduceAdd,fillA,splice,Nat.reduceMul,amY,op_eqP,hlt',r1,r2,e1,e2,e3,hl,hd1,hwk,trim_same rfl,Bool.false_and,Bool.and_false,reqB_nu,taleR_nu,segL_nu,ro17_b]
      | true=>
        rw [h1] at hd1
        cases h2:((a:Int) == (y:Int)) with
        | true=>
          simp only [bl,a_f5,s_f5_l0_b,s_f5_l1_b,s_f5_l2_b,s_f5_l3_b,s_f5_l4_b,s_f5_l5_b,s_f5_l6_b,s_f5_l7_b,s_f5_l8_b,s_f5_l9_b,s_f5_l10_b,aa,bl,i64,reduceIte,reduceCtorEq,Nat.reduceEqDiff,Nat.reduceLT,Nat.reduceLeDiff,Nat.reduceBEq,Nat.reduceAdd,fillA,splice,Nat.reduceMul,amY,op_eqP,hlt',r1,r2,e1,e2,e3,hl,hd1,h2,hwk,trim_same rfl,Bool.true_and,Bool.true_or]
        | false=>
          simp only [bl,a_f5,s_f5_l0_b,s_f5_l1_b,s_f5_l2_b,s_f5_l3_b,s_f5_l4_b,s_f5_l5_b,s_f5_l6_b,s_f5_l7_b,s_f5_l8_b,s_f5_l9_b,s_f5_l10_b,aa,bl,i64,reduceIte,reduceCtorEq,Nat.reduceEqDiff,Nat.reduceLT,Nat.reduceLeDiff,Nat.reduceBEq,Nat.reduceAdd,fillA,splice,Nat.reduceMul,amY,op_eqP,hlt',r1,r2,e1,e2,e3,hl,hd1,hd2,h2,hwk,trim_same rfl,Bool.true_and,Bool.false_or]) 0 (Nat.zero_le _)
 rw [cast0,List.take_zero,List.any_nil,Bool.or_false,List.take_length] at hst
 refine hst.trans ?_
 rw [itW_step]
 simp only [bl,a_f5,s_f5_l0_b,s_f5_l1_b,s_f5_l2_b,s_f5_l3_b,s_f5_l4_b,s_f5_l5_b,s_f5_l6_b,s_f5_l7_b,s_f5_l8_b,s_f5_l9_b,s_f5_l10_b,aa,bl,i64,reduceIte,reduceCtorEq,Nat.reduceEqDiff,Nat.reduceLT,Nat.reduceLeDiff,Nat.reduceBEq,Nat.reduceAdd,fillA,splice,Nat.reduceMul,amY,op_eqP,r1,r2,hl,Int.lt_irrefl,trim_same rfl]
end
end Go.Proofs.Ytdmnenlpdeolaaa
set_option maxRecDepth 100000
namespace Go.Proofs.Ytdmnenlpdeolaaa
open Go.AM
theorem any_range (p:Nat→Bool) (i:Nat):(List.range (i+1)).any p=((List.range i).any p || p i):=by
 rw [List.range_succ,List.any_append]
 simp
def wantX (N:List (List Int)) (T:List Int) (a y x:Nat):Bool:=(N.getD x []).any fun z=>z == (y:Int) && domB T a x && ((a:Int) == (y:Int) || !domB T a y)
def wantA (N:List (List Int)) (T:List Int) (a y n:Nat):Bool:=(List.range n).any (wantX N T a y)
section
variable {CT:Nat→Option CFun}
theorem fronts_l1 (hD:CT k_f13=some (.code s_f13)) (base:Nat) {H:Heap} {v lv tv fv nv:V} {G N:List (List Int)} {T:List Int} (hv:RdRows H v (rowsV G)) (hN:RdRows H nv (rowsV N)) (hNl:N.length=G.length) (ht:Rd H tv (T.map iV)) (htw:Wide1 tv) (hn:T.length < 2 ^ 18) (hG:G.length < 2 ^ 18) (a y:Nat) (hrl:∀ r∈N,r.length < 2 ^ 40):
 itW (evC (callW CT) itW base s_f5_l1) [] H.length (frOf 254 [(0,v),(2,lv),(7,tv),(8,fv),(9,nv),(10,.s (.int .i64 a)),(11,.s (.int .i64 y)),(12,bl false),(13,.s (.int .i64 0))]) H=some (.ext 4,frOf 254 [(0,v),(2,lv),(7,tv),(8,fv),(9,nv),(10,.s (.int .i64 a)),(11,.s (.int .i64 y)),(12,bl (wantA N T a y G.length)),(13,.s (.int .i64 G.length)),(63,bl false)],H):=by
 have hvl:=rows_lenV hv
 have hst:=it_fun G.length (fun i=>itW (evC (callW CT) itW base s_f5_l1) [] H.length (frOf 254 [(0,v),(2,lv),(7,tv),(8,fv),(9,nv),(10,.s (.int .i64 a)),(11,.s (.int .i64 y)),(12,bl (wantA N T a y i)),(13,.s (.int .i64 i))]) H) (by
  intro i hi
  have hlt':((i:Int) < (G.length:Int)):=by omega
  have hwk:=w64 (n:=i) (by omega)
  have h0:=fronts_l0 (v:=v) (lv:=lv) (fv:=fv) hD base hN ht htw hn a y i (by omega) (hrl _ (List.mem_of_getElem? (some_getD (by omega) []))) (wantA N T a y i)
  rw [show wantA N T a y (i+1)=(wantA N T a y i || wantX N T a y i) from any_range _ _]
  obtain ⟨b,hb⟩:∃ b,(wantA N T a y i || wantX N T a y i)=b:=⟨_,rfl⟩
  have hb':=hb
  unfold wantX at hb'
  rw [hb'] at h0
  rw [hb]
  rw [itW_step]
  simp only [bl] at h0
  simp only [bl,a_f5,s_f5_l0_b,s_f5_l1_b,s_f5_l2_b,s_f5_l3_b,s_f5_l4_b,s_f5_l5_b,s_f5_l6_b,s_f5_l7_b,s_f5_l8_b,s_f5_l9_b,s_f5_l10_b,aa,bl,i64,reduceIte,reduceCtorEq,Nat.reduceEqDiff,Nat.reduceLT,Nat.reduceLeDiff,Nat.reduceBEq,Nat.reduceAdd,fillA,splice,Nat.reduceMul,amY,op_eqP,hvl,hlt',h0,hwk,trim_same rfl]) 0 (Nat.zero_le _)
 rw [cast0] at hst
 refine Eq.trans ?_ (hst.trans ?_)
 ·rfl
 rw [itW_step]
 simp only [bl,a_f5,s_f5_l0_b,s_f5_l1_b,s_f5_l2_b,s_f5_l3_b,s_f5_l4_b,s_f5_l5_b,s_f5_l6_b,s_f5_l7_b,s_f5_l8_b,s_f5_l9_b,s_f5_l10_b,aa,bl,i64,reduceIte,reduceCtorEq,Nat.reduceEqDiff,Nat.reduceLT,Nat.reduceLeDiff,Nat.reduceBEq,Nat.reduceAdd,fillA,splice,Nat.reduceMul,amY,op_eqP,hvl,Int.lt_irrefl,trim_same rfl]
theorem fronts_l2 (base:Nat) {H:Heap} {v lv tv fv nv:V} {F:List (List Int)} (hF:RdRows H fv (rowsV F)) (a y:Nat) (ha:a < F.length) (hrl:(F.getD a []).length < 2 ^ 40) (w:Bool):
 itW (evC (callW CT) itW base s_f5_l2) [] H.length (frOf 254 [(0,v),(2,lv),(7,tv),(8,fv),(9,nv),(10,.s (.int .i64 a)),(11,.s (.int .i64 y)),(12,bl w),(15,bl false),(16,.s (.int .i64 0))]) H=some (.ext 8,frOf 254 [(0,v),(2,lv),(7,tv),(8,fv),(9,nv),(10,.s (.int .i64 a)),(11,.s (.int .i64 y)),(12,bl w),(15,bl ((F.getD a []).any fun z=>z == (y:Int))),(16,.s (.int .i64 (F.getD a []).length)),(111,bl false)],H):=by
 obtain ⟨ra,rv,r1,r2,r3,r4⟩:=rows_at hF (some_getD ha [])
 have hl:=iV_len r3
 obtain ⟨row,hrow⟩:∃ row,F.getD a []=row:=⟨_,rfl⟩
 rw [hrow] at r3 hl hrl ⊢
 have hst:=it_fun row.length (fun i=>itW (evC (callW CT) itW base s_f5_l2) [] H.length (frOf 254 [(0,v),(2,lv),(7,tv),(8,fv),(9,nv),(10,.s (.int .i64 a)),(11,.s (.int .i64 y)),(12,bl w),(15,bl ((row.take i).any fun z=>z == (y:Int))),(16,.s (.int .i64 i))]) H) (by
  intro i hi
  have hlt':((i:Int) < (row.length:Int)):=by omega
  have hwk:=w64 (n:=i) (by omega)
  rw [any_succ row (fun z=>z == (y:Int)) i (some_getD hi 0)]
  obtain ⟨ea,e1,e2⟩:=iV_at r3 r4 (some_getD hi (0:Int))
  obtain ⟨z,hz⟩:∃ z,row.getD i 0=z:=⟨_,rfl⟩
  rw [hz] at e2 ⊢
  rw [itW_step]
  cases hb:((row.take i).any fun z=>z == (y:Int)) with
  | true=>simp only [bl,a_f5,s_f5_l0_b,s_f5_l1_b,s_f5_l2_b,s_f5_l3_b,s_f5_l4_b,s_f5_l5_b,s_f5_l6_b,s_f5_l7_b,s_f5_l8_b,s_f5_l9_b,s_f5_l10_b,aa,bl,i64,reduceIte,reduceCtorEq,Nat.reduceEqDiff,Nat.reduceLT,Nat.reduceLeDiff,Nat.reduceBEq,Nat.reduceAdd,fillA,splice,Nat.reduceMul,amY,op_eqP,hlt',r1,r2,hl,hwk,trim_same rfl,Bool.true_or]
  | false=>simp only [bl,a_f5,s_f5_l0_b,s_f5_l1_b,s_f5_l2_b,s_f5_l3_b,s_f5_l4_b,s_f5_l5_b,s_f5_l6_b,s_f5_l7_b,s_f5_l8_b,s_f5_l9_b,s_f5_l10_b,aa,bl,i64,reduceIte,reduceCtorEq,Nat.reduceEqDiff,Nat.reduceLT,Nat.reduceLeDiff,Nat.reduceBEq,Nat.reduceAdd,fillA,splice,Nat.reduceMul,amY,op_eqP,hlt',r1,r2,e1,e2,hl,hwk,trim_same rfl,Bool.false_or]) 0 (Nat.zero_le _)
 rw [cast0,List.take_zero,List.any_nil,List.take_length] at hst
 refine hst.trans ?_
 rw [itW_step]
 simp only [bl,a_f5,s_f5_l0_b,s_f5_l1_b,s_f5_l2_b,s_f5_l3_b,s_f5_l4_b,s_f5_l5_b,s_f5_l6_b,s_f5_l7_b,s_f5_l8_b,s_f5_l9_b,s_f5_l10_b,aa,bl,i64,reduceIte,reduceCtorEq,Nat.reduceEqDiff,Nat.reduceLT,Nat.reduceLeDiff,Nat.reduceBEq,Nat.reduceAdd,fillA,splice,Nat.reduceMul,amY,op_eqP,r1,r2,hl,Int.lt_irrefl,trim_same rfl]
theorem fronts_l3 (hD:CT k_f13=some (.code s_f13)) (base:Nat) {H:Heap} {v lv tv fv nv:V} {G N F:List (List Int)} {T:List Int} (hv:RdRows H v (rowsV G)) (hN:RdRows H nv (rowsV N)) (hNl:N.length=G.length) (ht:Rd H tv (T.map iV)) (htw:Wide1 tv) (hn:T.length < 2 ^ 18) (hG:G.length < 2 ^ 18) (hF:RdRows H fv (rowsV F)) (hFl:F.length=G.length) (a:Nat) (ha:a < F.length) (hrl:∀ r∈N,r.length < 2 ^ 40) (hrf:∀ r∈F,r.length < 2 ^ 40) (hEq:∀ y,y < G.length→((F.getD a []).any fun z=>z == (y:Int))=wantA N T a y G.length):
 itW (evC (callW CT) itW base s_f5_l3) [] H.length (frOf 254 [(0,v),(2,lv),(7,tv),(8,fv),(9,nv),(10,.s (.int .i64 a)),(11,.s (.int .i64 0))]) H=some (.ext 2,frOf 254 [(0,v),(2,lv),(7,tv),(8,fv),(9,nv),(10,.s (.int .i64 a)),(11,.s (.int .i64 G.length)),(57,bl false)],H):=by
 have hvl:=rows_lenV hv
 have hst:=it_fun G.length (fun i=>itW (evC (callW CT) itW base s_f5_l3) [] H.length (frOf 254 [(0,v),(2,lv),(7,tv),(8,fv),(9,nv),(10,.s (.int .i64 a)),(11,.s (.int .i64 i))]) H) (by
  intro i hi
  have hlt':((i:Int) < (G.length:Int)):=by omega
  have hwk:=w64 (n:=i) (by omega)
  have h1:=fronts_l1 (lv:=lv) (fv:=fv) hD base hv hN hNl ht htw hn hG a i hrl
  have h2:=fronts_l2 (CT:=CT) (v:=v) (lv:=lv) (tv:=tv) (nv:=nv) base hF a i ha (hrf _ (List.mem_of_getElem? (some_getD ha []))) (wantA N T a i G.length)
  rw [hEq i hi] at h2
  obtain ⟨b,hb⟩:∃ b,wantA N T a i G.length=b:=⟨_,rfl⟩
  rw [hb] at h1 h2
  have hbb:((b == b) != true)=false:=by cases b <;> rfl
  rw [itW_step]
  simp only [bl] at h1 h2
  simp only [bl,a_f5,s_f5_l0_b,s_f5_l1_b,s_f5_l2_b,s_f5_l3_b,s_f5_l4_b,s_f5_l5_b,s_f5_l6_b,s_f5_l7_b,s_f5_l8_b,s_f5_l9_b,s_f5_l10_b,aa,bl,i64,reduceIte,reduceCtorEq,Nat.reduceEqDiff,Nat.reduceLT,Nat.reduceLeDiff,Nat.reduceBEq,Nat.reduceAdd,fillA,splice,Nat.reduceMul,amY,op_eqP,hvl,hlt',h1,h2,hwk,trim_same rfl,hbb]) 0 (Nat.zero_le _)
 rw [cast0] at hst
 refine hst.trans ?_
 rw [itW_step]
 simp only [bl,a_f5,s_f5_l0_b,s_f5_l1_b,s_f5_l2_b,s_f5_l3_b,s_f5_l4_b,s_f5_l5_b,s_f5_l6_b,s_f5_l7_b,s_f5_l8_b,s_f5_l9_b,s_f5_l10_b,aa,bl,i64,reduceIte,reduceCtorEq,Nat.reduceEqDiff,Nat.reduceLT,Nat.reduceLeDiff,Nat.reduceBEq,Nat.reduceAdd,fillA,splice,Nat.reduceMul,amY,op_eqP,hvl,Int.lt_irrefl,trim_same rfl]
theorem fronts_l4 (hD:CT k_f13=some (.code s_f13)) (base:Nat) {H:Heap} {v lv tv fv nv:V} {G N F:List (List Int)} {T:List Int} (hv:RdRows H v (rowsV G)) (hN:RdRows H nv (rowsV N)) (hNl:N.length=G.length) (ht:Rd H tv (T.map iV)) (htw:Wide1 tv) (hn:T.length < 2 ^ 18) (hG:G.length < 2 ^ 18) (hF:RdRows H fv (rowsV F)) (hFl:F.length=G.length) (hrl:∀ r∈N,r.length < 2 ^ 40) (hrf:∀ r∈F,r.length < 2 ^ 40) (hEq:∀ a,a < G.length→∀ y,y < G.length→((F.getD a []).any fun z=>z == (y:Int))=wantA N T a y G.length):
 itW (evC (callW CT) itW base s_f5_l4) [] H.length (frOf 254 [(0,v),(2,lv),(7,tv),(8,fv),(9,nv),(10,.s (.int .i64 0))]) H=some (.ext 0,frOf 254 [(0,v),(2,lv),(7,tv),(8,fv),(9,nv),(10,.s (.int .i64 G.length)),(51,bl false)],H):=by
 have hvl:=rows_lenV hv
 have hst:=it_fun G.length (fun i=>itW (evC (callW CT) itW base s_f5_l4) [] H.length (frOf 254 [(0,v),(2,lv),(7,tv),(8,fv),(9,nv),(10,.s (.int .i64 i))]) H) (by
  intro i hi
  have hlt':((i:Int) < (G.length:Int)):=by omega
  have hwk:=w64 (n:=i) (by omega)
  have h3:=fronts_l3 (lv:=lv) hD base hv hN hNl ht htw hn hG hF hFl i (by omega) hrl hrf (hEq i hi)
  rw [itW_step]
  simp only [bl] at h3
  simp only [bl,a_f5,s_f5_l0_b,s_f5_l1_b,s_f5_l2_b,s_f5_l3_b,s_f5_l4_b,s_f5_l5_b,s_f5_l6_b,s_f5_l7_b,s_f5_l8_b,s_f5_l9_b,s_f5_l10_b,aa,bl,i64,reduceIte,reduceCtorEq,Nat.reduceEqDiff,Nat.reduceLT,Nat.reduceLeDiff,Nat.reduceBEq,Nat.reduceAdd,fillA,splice,Nat.reduceMul,amY,op_eqP,hvl,hlt',h3,hwk,trim_same rfl]) 0 (Nat.zero_le _)
 rw [cast0] at hst
 refine hst.trans ?_
 rw [itW_step]
 simp only [bl,a_f5,s_f5_l0_b,s_f5_l1_b,s_f5_l2_b,s_f5_l3_b,s_f5_l4_b,s_f5_l5_b,s_f5_l6_b,s_f5_l7_b,s_f5_l8_b,s_f5_l9_b,s_f5_l10_b,aa,bl,i64,reduceIte,reduceCtorEq,Nat.reduceEqDiff,Nat.reduceLT,Nat.reduceLeDiff,Nat.reduceBEq,Nat.reduceAdd,fillA,splice,Nat.reduceMul,amY,op_eqP,hvl,Int.lt_irrefl,trim_same rfl]
end
end Go.Proofs.Ytdmnenlpdeolaaa
set_option maxRecDepth 100000
namespace Go.Proofs.Ytdmnenlpdeolaaa
open Go.AM
theorem up_lt:∀ {l:List Int},Up l→∀ {i j:Nat} {x y:Int},i < j→l[i]?=some x→l[j]?=some y→x < y:=by
 intro l
 induction l with
 | nil=>intro _ i j x y _ h;simp at h
 | cons a l ih=>
   intro h i j x y hij hx hy
   cases j with
   | zero=>omega
   | succ j=>
     rw [List.getElem?_cons_succ] at hy
     cases i with
     | zero=>
       rw [List.getElem?_cons_zero] at hx
       rw [← Option.some.inj hx]
       exact h.1 _ (List.mem_of_getElem? hy)
     | succ i=>
       rw [List.getElem?_cons_succ] at hx
       exact ih h.2 (by omega) hx hy
def obB (B:List Bool):Ob:=.cells 0 (B.map bV)
theorem foldl_succ {α β:Type} (f:β→α→β) (s:β) (l:List α) (i:Nat) {x:α} (hx:l[i]?=some x):(l.take (i+1)).foldl f s=f ((l.take i).foldl f s) x:=by
 rw [List.take_succ,hx,List.foldl_append]
 rfl
theorem foldl_range {β:Type} (f:β→Nat→β) (s:β) (i:Nat):(List.range (i+1)).foldl f s=f ((List.range i).foldl f s) i:=by
 rw [List.range_succ,List.foldl_append]
 rfl
theorem bA_at {H:Heap} {id n:Nat} {B:List Bool} (h:getC H id 0=some (B.map bV)) {k:Nat} (hk:k < n) (hn:B.length=n):xIndexAddr 1 (.sl id 0 0 n 1) (.s (.int .i64 k))=some (.ref id 0 k)∧xLoad H false 1 (.ref id 0 k)=some (.s (.bool (B.getD k false))):=
 at_sl h hk (by rw [List.getElem?_map,some_getD (l:=B) (by omega) false];rfl)
theorem bA_set {H:Heap} {id n base:Nat} {B:List Bool} (h:getC H id 0=some (B.map bV)) (hb:base≤id) {k:Nat} (hk:k < n) (hn:B.length=n):storeV H base 1 (.s (.bool true)) (.ref id 0 k)=some (H.set id (obB (B.set k true))):=by
 have:=storeV_at (v:=.s (.bool true)) h hb rfl (off:=k) (by rw [List.length_map];omega)
 rw [this,obB,List.map_set]
 rfl
def hh1 (A:Heap) (B:List Bool):Heap:=A ++ [obB B]
def hh2 (A:Heap) (B N:List Bool):Heap:=A ++ [obB B] ++ [obB N]
theorem hh1_len (A:Heap) (B:List Bool):(hh1 A B).length=A.length+1:=by simp [hh1]
theorem hh2_len (A:Heap) (B N:List Bool):(hh2 A B N).length=A.length+2:=by simp [hh2]
theorem hh1_ext (A:Heap) (B:List Bool):Ext A (hh1 A B):=Ext.app _ _
theorem hh2_ext (A:Heap) (B N:List Bool):Ext A (hh2 A B N):=(Ext.app _ _).trans (Ext.app _ _)
theorem hh1_get (A:Heap) (B:List Bool):getC (hh1 A B) A.length 0=some (B.map bV):=getC_new A 0 _
theorem hh2_get1 (A:Heap) (B N:List Bool):getC (hh2 A B N) A.length 0=some (B.map bV):=getC_app (getC_new A 0 _)
theorem hh2_get2 (A:Heap) (B N:List Bool):getC (hh2 A B N) (A.length+1) 0=some (N.map bV):=by
 have:=getC_new (A ++ [obB B]) 0 (N.map bV)
 rwa [len_snoc] at this
theorem hh1_set (A:Heap) (B X:List Bool):(hh1 A B).set A.length (obB X)=hh1 A X:=by simp [hh1]
theorem hh2_set (A:Heap) (B N X:List Bool):(hh2 A B N).set (A.length+1) (obB X)=hh2 A B X:=by simp [hh2]
def marks (Z:List Int) (B:List Bool):List Bool:=Z.foldl (fun B z=>B.set z.toNat true) B
theorem marks_len:∀ (Z:List Int) (B:List Bool),(marks Z B).length=B.length:=by
 intro Z
 induction Z with
 | nil=>intro B;rfl
 | cons z Z ih=>intro B;show (marks Z (B.set z.toNat true)).length=_;rw [ih,List.length_set]
theorem getD_setB (B:List Bool) (i k:Nat) (hi:i < B.length):(B.set i true).getD k false=(decide (i=k) || B.getD k false):=by
 by_cases e:i=k
 ·subst e
  rw [List.getD,List.getElem?_set_self hi];simp
 ·rw [List.getD,List.getElem?_set_ne e,← List.getD];simp [e]
theorem marks_get:∀ (Z:List Int) (B:List Bool) (k:Nat),(∀ z∈Z,0≤z∧z < B.length)→((marks Z B).getD k false=true↔B.getD k false=true∨(k:Int)∈Z):=by
 intro Z
 induction Z with
 | nil=>intro B k _;simp [marks]
 | cons z Z ih=>
   intro B k h
   have hz:=h z List.mem_cons_self
   show (marks Z (B.set z.toNat true)).getD k false=true↔_
   rw [ih _ k (fun y hy=>by rw [List.length_set];exact h y (List.mem_cons_of_mem _ hy)),getD_setB B z.toNat k (by omega),List.mem_cons,Bool.or_eq_true,decide_eq_true_iff]
   constructor
   ·rintro ((e | e) | e)
    ·exact .inr (.inl (by omega))
    ·exact .inl e
    ·exact .inr (.inr e)
   ·rintro (e | e | e)
    ·exact .inl (.inr e)
    ·exact .inl (.inl (by omega))
    ·exact .inr e
def st7 (s:List Bool × Bool) (z:Int):List Bool × Bool:=if s.1.getD z.toNat false then s else (s.1.set z.toNat true,true)
def st8 (l:List Int) (F:List (List Int)) (s:List Bool × Bool) (x:Nat):List Bool × Bool:=if s.1.getD x false || l.any (fun z=>z == (x:Int)) then (F.getD x []).foldl st7 s else s
def pass (l:List Int) (F:List (List Int)) (n:Nat) (s:List Bool × Bool):List Bool × Bool:=(List.range n).foldl (st8 l F) s
theorem st7_len (s:List Bool × Bool) (z:Int):(st7 s z).1.length=s.1.length:=by
 unfold st7
 split
 ·rfl
 ·simp
theorem st7s_len:∀ (r:List Int) (s:List Bool × Bool),(r.foldl st7 s).1.length=s.1.length:=by
 intro r
 induction r with
 | nil=>intro s;rfl
 | cons z r ih=>intro s;rw [List.foldl_cons,ih,st7_len]
theorem st8_len (l:List Int) (F:List (List Int)) (s:List Bool × Bool) (x:Nat):(st8 l F s x).1.length=s.1.length:=by
 unfold st8
 split
 ·exact st7s_len _ _
 ·rfl
theorem st8s_len (l:List Int) (F:List (List Int)):∀ (r:List Nat) (s:List Bool × Bool),(r.foldl (st8 l F) s).1.length=s.1.length:=by
 intro r
 induction r with
 | nil=>intro s;rfl
 | cons z r ih=>intro s;rw [List.foldl_cons,ih,st8_len]
section
variable {CT:Nat→Option CFun}
theorem fronts_l5 (base:Nat) {A:Heap} {v lv fv gv:V} {G:List (List Int)} {Z:List Int} (hb:base≤A.length) (hv:RdRows A v (rowsV G)) (hG:G.length < 2 ^ 18) (hz:Rd A gv (Z.map iV)) (hzw:Wide1 gv) (hZl:Z.length < 2 ^ 40) (hZr:∀ z∈Z,0≤z∧z < G.length) (hZu:Up Z):
 itW (evC (callW CT) itW base s_f5_l5) [] (A.length+1) (frOf 254 [(0,v),(2,lv),(8,fv),(17,gv),(18,.sl A.length 0 0 G.length 1),(19,.s (.int .i64 0))]) (hh1 A (List.replicate G.length false))=some (.ext 10,frOf 254 [(0,v),(2,lv),(8,fv),(17,gv),(18,.sl A.length 0 0 G.length 1),(19,.s (.int .i64 Z.length)),(138,bl false)],hh1 A (marks Z (List.replicate G.length false))):=by
 have hvl:=rows_lenV hv
 have hzl:∀ H',Ext A H'→xLen H' .s gv=some (.s (.int .i64 Z.length)):=fun H' e=>iV_len (hz.ext e)
 have hst:=it_fun Z.length (fun i=>itW (evC (callW CT) itW base s_f5_l5) [] (A.length+1) (frOf 254 [(0,v),(2,lv),(8,fv),(17,gv),(18,.sl A.length 0 0 G.length 1),(19,.s (.int .i64 i))]) (hh1 A (marks (Z.take i) (List.replicate G.length false)))) (by
  intro i hi
  have hlt':((i:Int) < (Z.length:Int)):=by omega
  have hwk:=w64 (n:=i) (by omega)
  have hs:marks (Z.take (i+1)) (List.replicate G.length false)=(marks (Z.take i) (List.replicate G.length false)).set (Z.getD i 0).toNat true:=foldl_succ _ _ Z i (some_getD hi 0)
  rw [hs]
  have hlen:(marks (Z.take i) (List.replicate G.length false)).length=G.length:=by rw [marks_len,List.length_replicate]
  obtain ⟨B,hB⟩:∃ B,marks (Z.take i) (List.replicate G.length false)=B:=⟨_,rfl⟩
  rw [hB] at hlen ⊢
  obtain ⟨e1,e2,e3⟩:=iV_at (hz.ext (hh1_ext A B)) hzw (some_getD hi (0:Int))
  have hzi:=hZr _ (List.mem_of_getElem? (some_getD hi 0))
  obtain ⟨z,hzz⟩:∃ z,Z.getD i 0=z:=⟨_,rfl⟩
  rw [hzz] at e3 hzi ⊢
  obtain ⟨k,rfl⟩:=Int.eq_ofNat_of_zero_le hzi.1
  have hk:k < G.length:=by omega
  have hn0:¬ ((k:Int) < 0):=by omega
  have hn1:¬ ((G.length:Int)≤(k:Int)):=by omega
  have g1:=bA_at (hh1_get A B) hk hlen
  have g2:=bA_set (hh1_get A B) hb hk hlen
  rw [hh1_set] at g2
  have hl:=hzl _ (hh1_ext A B)
  rw [itW_step]
  rw [Int.toNat_natCast]
  by_cases h0:i=0
  ·subst h0
   rw [cast0] at hlt' e2
   have hwk:IntKind.i64.wrap ((0:Int)+1)=((1:Nat):Int):=hwk
   simp only [bl,a_f5,s_f5_l0_b,s_f5_l1_b,s_f5_l2_b,s_f5_l3_b,s_f5_l4_b,s_f5_l5_b,s_f5_l6_b,s_f5_l7_b,s_f5_l8_b,s_f5_l9_b,s_f5_l10_b,aa,bl,i64,reduceIte,reduceCtorEq,Nat.reduceEqDiff,Nat.reduceLT,Nat.reduceLeDiff,Nat.reduceBEq,Nat.reduceAdd,fillA,splice,Nat.reduceMul,amY,op_eqP,ge_iff_le,gt_iff_lt,hvl,hl,hlt',e2,e3,hn0,hn1,g1.1,g2,hwk,trim_same (hh1_len A _),Int.lt_irrefl]
  ·obtain ⟨j,rfl⟩:∃ j,i=j+1:=⟨i - 1,by omega⟩
   have hwm:IntKind.i64.wrap (((j+1:Nat):Int) - 1)=(j:Int):=by rw [IntKind.wrap_i64];omega
   obtain ⟨d1,d2,d3⟩:=iV_at (hz.ext (hh1_ext A B)) hzw (some_getD (show j < Z.length by omega) (0:Int))
   have hup:=up_lt hZu (show j < j+1 by omega) (some_getD (show j < Z.length by omega) (0:Int)) (some_getD hi (0:Int))
   rw [hzz] at hup
   have hn2:¬ ((k:Int)≤Z.getD j 0):=by omega
   have hp:(0:Int) < ((j+1:Nat):Int):=by omega
   simp only [bl,a_f5,s_f5_l0_b,s_f5_l1_b,s_f5_l2_b,s_f5_l3_b,s_f5_l4_b,s_f5_l5_b,s_f5_l6_b,s_f5_l7_b,s_f5_l8_b,s_f5_l9_b,s_f5_l10_b,aa,bl,i64,reduceIte,reduceCtorEq,Nat.reduceEqDiff,Nat.reduceLT,Nat.reduceLeDiff,Nat.reduceBEq,Nat.reduceAdd,fillA,splice,Nat.reduceMul,amY,op_eqP,ge_iff_le,gt_iff_lt,hvl,hl,hlt',e2,e3,d2,d3,hn0,hn1,hn2,hp,hwm,g1.1,g2,hwk,trim_same (hh1_len A _)]) 0 (Nat.zero_le _)
 rw [cast0,List.take_zero,List.take_length] at hst
 refine hst.trans ?_
 have hl:=hzl _ (hh1_ext A (marks Z (List.replicate G.length false)))
 rw [itW_step]
 simp only [bl,a_f5,s_f5_l0_b,s_f5_l1_b,s_f5_l2_b,s_f5_l3_b,s_f5_l4_b,s_f5_l5_b,s_f5_l6_b,s_f5_l7_b,s_f5_l8_b,s_f5_l9_b,s_f5_l10_b,aa,bl,i64,reduceIte,reduceCtorEq,Nat.reduceEqDiff,Nat.reduceLT,Nat.reduceLeDiff,Nat.reduceBEq,Nat.reduceAdd,fillA,splice,Nat.reduceMul,amY,op_eqP,hl,Int.lt_irrefl,trim_same (hh1_len A _)]
theorem fronts_l6 (base:Nat) {A:Heap} {v lv fv iv nv:V} {l:List Int} (hl:Rd A lv (l.map iV)) (hlw:Wide1 lv) (hll:l.length < 2 ^ 40) {H:Heap} (hE:Ext A H) (m:Bool) (x:Nat) (w:Bool):
 itW (evC (callW CT) itW base s_f5_l6) [] H.length (frOf 254 [(0,v),(2,lv),(8,fv),(18,iv),(20,nv),(21,bl m),(22,.s (.int .i64 x)),(23,bl w),(24,.s (.int .i64 0))]) H=some (.ext 16,frOf 254 [(0,v),(2,lv),(8,fv),(18,iv),(20,nv),(21,bl m),(22,.s (.int .i64 x)),(23,bl (w || l.any fun z=>z == (x:Int))),(24,.s (.int .i64 l.length)),(194,bl false)],H):=by
 have hvl:=iV_len (hl.ext hE)
 have hst:=it_fun l.length (fun i=>itW (evC (callW CT) itW base s_f5_l6) [] H.length (frOf 254 [(0,v),(2,lv),(8,fv),(18,iv),(20,nv),(21,bl m),(22,.s (.int .i64 x)),(23,bl (w || (l.take i).any fun z=>z == (x:Int))),(24,.s (.int .i64 i))]) H) (by
  intro i hi
  have hlt':((i:Int) < (l.length:Int)):=by omega
  have hwk:=w64 (n:=i) (by omega)
  rw [any_succ l (fun z=>z == (x:Int)) i (some_getD hi 0),← Bool.or_assoc]
  obtain ⟨ea,e1,e2⟩:=iV_at (hl.ext hE) hlw (some_getD hi (0:Int))
  obtain ⟨z,hz⟩:∃ z,l.getD i 0=z:=⟨_,rfl⟩
  rw [hz] at e2 ⊢
  rw [itW_step]
  cases hb:(w || (l.take i).any fun z=>z == (x:Int)) with
  | true=>simp only [bl,a_f5,s_f5_l0_b,s_f5_l1_b,s_f5_l2_b,s_f5_l3_b,s_f5_l4_b,s_f5_l5_b,s_f5_l6_b,s_f5_l7_b,s_f5_l8_b,s_f5_l9_b,s_f5_l10_b,aa,bl,i64,reduceIte,reduceCtorEq,Nat.reduceEqDiff,Nat.reduceLT,Nat.reduceLeDiff,Nat.reduceBEq,Nat.reduceAdd,fillA,splice,Nat.reduceMul,amY,op_eqP,hlt',hvl,hwk,trim_same rfl,Bool.true_or]
  | false=>simp only [bl,a_f5,s_f5_l0_b,s_f5_l1_b,s_f5_l2_b,s_f5_l3_b,s_f5_l4_b,s_f5_l5_b,s_f5_l6_b,s_f5_l7_b,s_f5_l8_b,s_f5_l9_b,s_f5_l10_b,aa,bl,i64,reduceIte,reduceCtorEq,Nat.reduceEqDiff,Nat.reduceLT,Nat.reduceLeDiff,Nat.reduceBEq,Nat.reduceAdd,fillA,splice,Nat.reduceMul,amY,op_eqP,hlt',hvl,e1,e2,hwk,trim_same rfl,Bool.false_or]) 0 (Nat.zero_le _)
 rw [cast0,List.take_zero,List.any_nil,Bool.or_false,List.take_length] at hst
 refine hst.trans ?_
 rw [itW_step]
 simp only [bl,a_f5,s_f5_l0_b,s_f5_l1_b,s_f5_l2_b,s_f5_l3_b,s_f5_l4_b,s_f5_l5_b,s_f5_l6_b,s_f5_l7_b,s_f5_l8_b,s_f5_l9_b,s_f5_l10_b,aa,bl,i64,reduceIte,reduceCtorEq,Nat.reduceEqDiff,Nat.reduceLT,Nat.reduceLeDiff,Nat.reduceBEq,Nat.reduceAdd,fillA,splice,Nat.reduceMul,amY,op_eqP,hvl,Int.lt_irrefl,trim_same rfl]
theorem fronts_l7 (base:Nat) {A:Heap} {v lv fv:V} {F:List (List Int)} {n:Nat} (hb:base≤A.length) (hF:RdRows A fv (rowsV F)) (hFl:F.length=n) {x:Nat} (hx:x < n) (hr:(F.getD x []).length < 2 ^ 40) (hin:∀ z∈F.getD x [],0≤z∧z < n) (B:List Bool) (s:List Bool × Bool) (hs:s.1.length=n):
 itW (evC (callW CT) itW base s_f5_l7) [] (A.length+2) (frOf 254 [(0,v),(2,lv),(8,fv),(18,.sl A.length 0 0 n 1),(20,.sl (A.length+1) 0 0 n 1),(21,bl s.2),(22,.s (.int .i64 x)),(23,bl true),(25,.s (.int .i64 0))]) (hh2 A B s.1)=some (.ext 18,frOf 254 [(0,v),(2,lv),(8,fv),(18,.sl A.length 0 0 n 1),(20,.sl (A.length+1) 0 0 n 1),(21,bl ((F.getD x []).foldl st7 s).2),(22,.s (.int .i64 x)),(23,bl true),(25,.s (.int .i64 (F.getD x []).length)),(215,bl false)],hh2 A B ((F.getD x []).foldl st7 s).1):=by
 obtain ⟨ra,rv,r1,r3,r4,r2⟩:=rows_ext hF (rowsV_get (some_getD (show x < F.length by omega) []))
 obtain ⟨row,hrow⟩:∃ row,F.getD x []=row:=⟨_,rfl⟩
 rw [hrow] at r3 hr hin ⊢
 have hl:∀ B N,xLen (hh2 A B N) .s rv=some (.s (.int .i64 row.length)):=fun B N=>iV_len (r3.ext (hh2_ext A B N))
 have hst:=it_fun row.length (fun i=>itW (evC (callW CT) itW base s_f5_l7) [] (A.length+2) (frOf 254 [(0,v),(2,lv),(8,fv),(18,.sl A.length 0 0 n 1),(20,.sl (A.length+1) 0 0 n 1),(21,bl ((row.take i).foldl st7 s).2),(22,.s (.int .i64 x)),(23,bl true),(25,.s (.int .i64 i))]) (hh2 A B ((row.take i).foldl st7 s).1)) (by
  intro i hi
  have hlt':((i:Int) < (row.length:Int)):=by omega
  have hwk:=w64 (n:=i) (by omega)
  rw [foldl_succ st7 s row i (some_getD hi 0)]
  have hlen:((row.take i).foldl st7 s).1.length=n:=by rw [st7s_len,hs]
  obtain ⟨t,ht⟩:∃ t,(row.take i).foldl st7 s=t:=⟨_,rfl⟩
  rw [ht] at hlen ⊢
  obtain ⟨e1,e2,e3⟩:=iV_at (r3.ext (hh2_ext A B t.1)) r4 (some_getD hi (0:Int))
  have hzi:=hin _ (List.mem_of_getElem? (some_getD hi 0))
  obtain ⟨z,hzz⟩:∃ z,row.getD i 0=z:=⟨_,rfl⟩
  rw [hzz] at e3 hzi ⊢
  obtain ⟨k,rfl⟩:=Int.eq_ofNat_of_zero_le hzi.1
  have hk:k < n:=by omega
  have g1:=bA_at (hh2_get2 A B t.1) hk hlen
  have g2:=bA_set (base:=base) (hh2_get2 A B t.1) (by omega) hk hlen
  rw [hh2_set] at g2
  have hl':=hl B t.1
  have hr2:=r2 _ (hh2_ext A B t.1)
  have hs7:st7 t (k:Int)=if t.1.getD k false then t else (t.1.set k true,true):=rfl
  rw [hs7]
  rw [itW_step]
  cases hc:t.1.getD k false with
  | true=>
    rw [hc] at g1
    simp only [bl,a_f5,s_f5_l0_b,s_f5_l1_b,s_f5_l2_b,s_f5_l3_b,s_f5_l4_b,s_f5_l5_b,s_f5_l6_b,s_f5_l7_b,s_f5_l8_b,s_f5_l9_b,s_f5_l10_b,aa,bl,i64,reduceIte,reduceCtorEq,Nat.reduceEqDiff,Nat.reduceLT,Nat.reduceLeDiff,Nat.reduceBEq,Nat.reduceAdd,fillA,splice,Nat.reduceMul,amY,op_eqP,hlt',hl',r1,hr2,e2,e3,g1.1,g1.2,hwk,trim_same (hh2_len A B _)]
  | false=>
    rw [hc] at g1
    simp only [bl,a_f5,s_f5_l0_b,s_f5_l1_b,s_f5_l2_b,s_f5_l3_b,s_f5_l4_b,s_f5_l5_b,s_f5_l6_b,s_f5_l7_b,s_f5_l8_b,s_f5_l9_b,s_f5_l10_b,aa,bl,i64,reduceIte,reduceCtorEq,Nat.reduceEqDiff,Nat.reduceLT,Nat.reduceLeDiff,Nat.reduceBEq,Nat.reduceAdd,fillA,splice,Nat.reduceMul,amY,op_eqP,hlt',hl',r1,hr2,e2,e3,g1.1,g1.2,g2,hwk,trim_same (hh2_len A B _),Bool.false_eq_true,if_false]) 0 (Nat.zero_le _)
 rw [cast0,List.take_zero,List.take_length] at hst
 refine hst.trans ?_
 obtain ⟨t,ht⟩:∃ t,row.foldl st7 s=t:=⟨_,rfl⟩
 rw [ht]
 have hl':=hl B t.1
 have hr2:=r2 _ (hh2_ext A B t.1)
 rw [itW_step]
 simp only [bl,a_f5,s_f5_l0_b,s_f5_l1_b,s_f5_l2_b,s_f5_l3_b,s_f5_l4_b,s_f5_l5_b,s_f5_l6_b,s_f5_l7_b,s_f5_l8_b,s_f5_l9_b,s_f5_l10_b,aa,bl,i64,reduceIte,reduceCtorEq,Nat.reduceEqDiff,Nat.reduceLT,Nat.reduceLeDiff,Nat.reduceBEq,Nat.reduceAdd,fillA,splice,Nat.reduceMul,amY,op_eqP,hl',r1,hr2,Int.lt_irrefl,trim_same (hh2_len A B _)]
theorem fronts_l7n (base:Nat) {H:Heap} {v lv fv iv nv:V} (m:Bool) (x:Nat):
 itW (evC (callW CT) itW base s_f5_l7) [] H.length (frOf 254 [(0,v),(2,lv),(8,fv),(18,iv),(20,nv),(21,bl m),(22,.s (.int .i64 x)),(23,bl false),(25,.s (.int .i64 0))]) H=some (.ext 18,frOf 254 [(0,v),(2,lv),(8,fv),(18,iv),(20,nv),(21,bl m),(22,.s (.int .i64 x)),(23,bl false),(25,.s (.int .i64 0)),(215,bl false)],H):=by
 rw [itW_step]
 simp only [bl,a_f5,s_f5_l0_b,s_f5_l1_b,s_f5_l2_b,s_f5_l3_b,s_f5_l4_b,s_f5_l5_b,s_f5_l6_b,s_f5_l7_b,s_f5_l8_b,s_f5_l9_b,s_f5_l10_b,aa,bl,i64,reduceIte,reduceCtorEq,Nat.reduceEqDiff,Nat.reduceLT,Nat.reduceLeDiff,Nat.reduceBEq,Nat.reduceAdd,fillA,splice,Nat.reduceMul,amY,op_eqP,trim_same rfl]
theorem fronts_l8 (base:Nat) {A:Heap} {v lv fv:V} {G F:List (List Int)} {l:List Int} (hb:base≤A.length) (hv:RdRows A v (rowsV G)) (hG:G.length < 2 ^ 18) (hl:Rd A lv (l.map iV)) (hlw:Wide1 lv) (hll:l.length < 2 ^ 40) (hF:RdRows A fv (rowsV F)) (hFl:F.length=G.length) (hr:∀ r∈F,r.length < 2 ^ 40) (hin:∀ r∈F,∀ z∈r,0≤z∧z < G.length) (B:List Bool) (s:List Bool × Bool) (hs:s.1.length=G.length):
 itW (evC (callW CT) itW base s_f5_l8) [] (A.length+2) (frOf 254 [(0,v),(2,lv),(8,fv),(18,.sl A.length 0 0 G.length 1),(20,.sl (A.length+1) 0 0 G.length 1),(21,bl s.2),(22,.s (.int .i64 0))]) (hh2 A B s.1)=some (.ext 14,frOf 254 [(0,v),(2,lv),(8,fv),(18,.sl A.length 0 0 G.length 1),(20,.sl (A.length+1) 0 0 G.length 1),(21,bl (pass l F G.length s).2),(22,.s (.int .i64 G.length)),(184,bl false)],hh2 A B (pass l F G.length s).1):=by
 have hvl:=rows_lenV hv
 have hst:=it_fun G.length (fun i=>itW (evC (callW CT) itW base s_f5_l8) [] (A.length+2) (frOf 254 [(0,v),(2,lv),(8,fv),(18,.sl A.length 0 0 G.length 1),(20,.sl (A.length+1) 0 0 G.length 1),(21,bl (pass l F i s).2),(22,.s (.int .i64 i))]) (hh2 A B (pass l F i s).1)) (by
  intro i hi
  have hlt':((i:Int) < (G.length:Int)):=by omega
  have hwk:=w64 (n:=i) (by omega)
  rw [show pass l F (i+1) s=st8 l F (pass l F i s) i from foldl_range _ _ _]
  have hlen:(pass l F i s).1.length=G.length:=by rw [pass,st8s_len,hs]
  obtain ⟨t,ht⟩:∃ t,pass l F i s=t:=⟨_,rfl⟩
  rw [ht] at hlen ⊢
  have g1:=bA_at (hh2_get2 A B t.1) hi hlen
  have hFi:F.getD i []∈F:=List.mem_of_getElem? (some_getD (by omega) [])
  have h6:=fronts_l6 (CT:=CT) (v:=v) (fv:=fv) (iv:=.sl A.length 0 0 G.length 1) (nv:=.sl (A.length+1) 0 0 G.length 1) base hl hlw hll (hh2_ext A B t.1) t.2 i (t.1.getD i false)
  rw [hh2_len] at h6
  rw [st8]
  obtain ⟨b,hb2⟩:∃ b,(t.1.getD i false || l.any fun z=>z == (i:Int))=b:=⟨_,rfl⟩
  rw [hb2] at h6 ⊢
  rw [itW_step]
  cases b with
  | true=>
    have h7:=fronts_l7 (CT:=CT) (v:=v) (lv:=lv) base hb hF hFl hi (hr _ hFi) (hin _ hFi) B t hlen
    rw [if_pos rfl]
    obtain ⟨t',ht'⟩:∃ t',(F.getD i []).foldl st7 t=t':=⟨_,rfl⟩
    rw [ht'] at h7 ⊢
    simp only [bl] at h6 h7
    simp only [bl,a_f5,s_f5_l0_b,s_f5_l1_b,s_f5_l2_b,s_f5_l3_b,s_f5_l4_b,s_f5_l5_b,s_f5_l6_b,s_f5_l7_b,s_f5_l8_b,s_f5_l9_b,s_f5_l10_b,aa,bl,i64,reduceIte,reduceCtorEq,Nat.reduceEqDiff,Nat.reduceLT,Nat.reduceLeDiff,Nat.reduceBEq,Nat.reduceAdd,fillA,splice,Nat.reduceMul,amY,op_eqP,hvl,hlt',g1.1,g1.2,h6,h7,hwk,hh2_len,trim_same (hh2_len A B _)]
  | false=>
    have h7:=fronts_l7n (CT:=CT) (H:=hh2 A B t.1) (v:=v) (lv:=lv) (fv:=fv) (iv:=.sl A.length 0 0 G.length 1) (nv:=.sl (A.length+1) 0 0 G.length 1) base t.2 i
    rw [hh2_len] at h7
    rw [if_neg (by simp)]
    simp only [bl] at h6 h7
    simp only [bl,a_f5,s_f5_l0_b,s_f5_l1_b,s_f5_l2_b,s_f5_l3_b,s_f5_l4_b,s_f5_l5_b,s_f5_l6_b,s_f5_l7_b,s_f5_l8_b,s_f5_l9_b,s_f5_l10_b,aa,bl,i64,reduceIte,reduceCtorEq,Nat.reduceEqDiff,Nat.reduceLT,Nat.reduceLeDiff,Nat.reduceBEq,Nat.reduceAdd,fillA,splice,Nat.reduceMul,amY,op_eqP,hvl,hlt',g1.1,g1.2,h6,h7,hwk,hh2_len,trim_same (hh2_len A B _)]) 0 (Nat.zero_le _)
 rw [cast0,show pass l F 0 s=s from rfl] at hst
 refine hst.trans ?_
 rw [itW_step]
 simp only [bl,a_f5,s_f5_l0_b,s_f5_l1_b,s_f5_l2_b,s_f5_l3_b,s_f5_l4_b,s_f5_l5_b,s_f5_l6_b,s_f5_l7_b,s_f5_l8_b,s_f5_l9_b,s_f5_l10_b,aa,bl,i64,reduceIte,reduceCtorEq,Nat.reduceEqDiff,Nat.reduceLT,Nat.reduceLeDiff,Nat.reduceBEq,Nat.reduceAdd,fillA,splice,Nat.reduceMul,amY,op_eqP,hvl,Int.lt_irrefl,trim_same (hh2_len A B _)]
theorem fronts_l10 (base:Nat) {A:Heap} {v:V} {G:List (List Int)} (hv:RdRows A v (rowsV G)) (hG:G.length < 2 ^ 18) (B N:List Bool) (hB:B.length=G.length) (hN:N.length=G.length) (hE:∀ k,k < G.length→B.getD k false=N.getD k false):
 itW (evC (callW CT) itW base s_f5_l10) [] (A.length+2) (frOf 254 [(0,v),(18,.sl A.length 0 0 G.length 1),(20,.sl (A.length+1) 0 0 G.length 1),(26,.s (.int .i64 0))]) (hh2 A B N)=some (.ext 20,frOf 254 [(0,v),(18,.sl A.length 0 0 G.length 1),(20,.sl (A.length+1) 0 0 G.length 1),(26,.s (.int .i64 G.length)),(241,bl false)],hh2 A B N):=by
 have hvl:=rows_lenV hv
 have hst:=it_fun G.length (fun i=>itW (evC (callW CT) itW base s_f5_l10) [] (A.length+2) (frOf 254 [(0,v),(18,.sl A.length 0 0 G.length 1),(20,.sl (A.length+1) 0 0 G.length 1),(26,.s (.int .i64 i))]) (hh2 A B N)) (by
  intro i hi
  have hlt':((i:Int) < (G.length:Int)):=by omega
  have hwk:=w64 (n:=i) (by omega)
  have g1:=bA_at (hh2_get1 A B N) hi hB
  have g2:=bA_at (hh2_get2 A B N) hi hN
  rw [hE i hi] at g1
  have hbb:((N.getD i false == N.getD i false) != true)=false:=by cases N.getD i false <;> rfl
  rw [itW_step]
  simp only [bl,a_f5,s_f5_l0_b,s_f5_l1_b,s_f5_l2_b,s_f5_l3_b,s_f5_l4_b,s_f5_l5_b,s_f5_l6_b,s_f5_l7_b,s_f5_l8_b,s_f5_l9_b,s_f5_l10_b,aa,bl,i64,reduceIte,reduceCtorEq,Nat.reduceEqDiff,Nat.reduceLT,Nat.reduceLeDiff,Nat.reduceBEq,Nat.reduceAdd,fillA,splice,Nat.reduceMul,amY,op_eqP,hvl,hlt',g1.1,g1.2,g2.1,g2.2,hbb,hwk,trim_same (hh2_len A B N)]) 0 (Nat.zero_le _)
 rw [cast0] at hst
 refine hst.trans ?_
 rw [itW_step]
 simp only [bl,a_f5,s_f5_l0_b,s_f5_l1_b,s_f5_l2_b,s_f5_l3_b,s_f5_l4_b,s_f5_l5_b,s_f5_l6_b,s_f5_l7_b,s_f5_l8_b,s_f5_l9_b,s_f5_l10_b,aa,bl,i64,reduceIte,reduceCtorEq,Nat.reduceEqDiff,Nat.reduceLT,Nat.reduceLeDiff,Nat.reduceBEq,Nat.reduceAdd,fillA,splice,Nat.reduceMul,amY,op_eqP,hvl,Int.lt_irrefl,trim_same (hh2_len A B N)]
end
end Go.Proofs.Ytdmnenlpdeolaaa
set_option maxRecDepth 100000
namespace Go.Proofs.Ytdmnenlpdeolaaa
open Go.AM
theorem getD_set_ne {G:List (List Int)} {a p:Nat} (r:List Int) (h:a≠p):(G.set a r).getD p []=G.getD p []:=by
 rw [List.getD,List.getD,List.getElem?_set_ne h]
theorem TreeOk.up {G:List (List Int)} {q:Int} {T:List Int} {lvl:Nat→Nat} (h:TreeOk G q T lvl) {a b:Nat} (hb:b < G.length) (hab:(a:Int)≠(b:Int)) (h1:domB T a b=true) (h2:0≤T.getD b 0):domB T a (T.getD b 0)=true:=by
 rw [h.dom] at h1 ⊢
 obtain ⟨x,y,p1,p2,p3,p4,p5⟩:=h1
 have p1:a=x:=by omega
 have p2:b=y:=by omega
 subst p1;subst p2
 obtain ⟨d,hd⟩:=Int.eq_ofNat_of_zero_le h2
 cases p5 with
 | refl=>exact absurd rfl hab
 | up k1 k2=>
   rename_i e
   have k3:=getD_some k1 0
   rw [k3]
   exact ⟨a,e,rfl,rfl,p3,(h.nat k1).2.2.1,k2⟩
section
variable {CT:Nat→Option CFun}
end
end Go.Proofs.Ytdmnenlpdeolaaa
set_option maxRecDepth 100000
namespace Go.Proofs.Ytdmnenlpdeolaaa
open Go.AM
section
variable {CT:Nat→Option CFun}
end
end Go.Proofs.Ytdmnenlpdeolaaa
set_option maxRecDepth 100000
namespace Go.Proofs.Ytdmnenlpdeolaaa
open Go.AM
def SD (T:List Int) (b a:Nat):Prop:=(a:Int)≠(b:Int)∧domB T a b=true
def BI (T:List Int) (b k:Nat) (best:Int):Prop:=(best=-1∧∀ a,a < k→¬ SD T b a)∨∃ s:Nat,best=s∧s < k∧SD T b s∧∀ a,a < k→SD T b a→domB T a s=true
theorem BI.skip {T:List Int} {b k:Nat} {best:Int} (h:BI T b k best) (hs:¬ SD T b k):BI T b (k+1) best:=by
 rcases h with ⟨h1,h2⟩ | ⟨s,h1,h2,h3,h4⟩
 ·exact .inl ⟨h1,fun a ha=>by
   by_cases e:a=k
   ·rw [e];exact hs
   ·exact h2 a (by omega)⟩
 ·exact .inr ⟨s,h1,by omega,h3,fun a ha hS=>by
   by_cases e:a=k
   ·rw [e] at hS;exact absurd hS hs
   ·exact h4 a (by omega) hS⟩
theorem BI.take {G:List (List Int)} {q:Int} {T:List Int} {lvl:Nat→Nat} (ok:TreeOk G q T lvl) {b k:Nat} {best:Int} (h:BI T b k best) (hs:SD T b k) (hself:domB T k k=true) (hc:best < 0∨domB T best k=true):BI T b (k+1) k:=by
 refine .inr ⟨k,rfl,by omega,hs,fun a ha hS=>?_⟩
 by_cases e:a=k
 ·rw [e];exact hself
 ·rcases h with ⟨_,h2⟩ | ⟨s,h1,h2,h3,h4⟩
  ·exact absurd hS (h2 a (by omega))
  ·rcases hc with hc | hc
   ·omega
   ·rw [h1] at hc
    exact ok.tra (h4 a (by omega) hS) hc
theorem BI.keep {G:List (List Int)} {q:Int} {T:List Int} {lvl:Nat→Nat} (ok:TreeOk G q T lvl) {b k:Nat} {best:Int} (h:BI T b k best) (hs:SD T b k) (hc:¬ best < 0) (hd:domB T best k=false):BI T b (k+1) best:=by
 rcases h with ⟨h1,_⟩ | ⟨s,h1,h2,h3,h4⟩
 ·omega
 ·refine .inr ⟨s,h1,by omega,h3,fun a ha hS=>?_⟩
  by_cases e:a=k
  ·rw [e]
   rw [h1] at hd
   rcases ok.lin h3.2 hs.2 with k1 | k1
   ·rw [k1] at hd;cases hd
   ·exact k1
  ·exact h4 a (by omega) hS
theorem BI.fin {G:List (List Int)} {q:Int} {T:List Int} {lvl:Nat→Nat} (ok:TreeOk G q T lvl) {b:Nat} {best:Int} (hR:Rch G [q] b) (h:BI T b G.length best):best=T.getD b 0:=by
 have hbn:=rch_lt hR
 have hbT:b < T.length:=by rw [ok.len];exact hbn
 by_cases e:(b:Int)=q
 ·rw [ok.rt b e.symm hbn]
  rcases h with ⟨h1,_⟩ | ⟨s,_,_,h3,_⟩
  ·exact h1
  ·exfalso
   have h5:=ok.dom_nat hR |>.1 h3.2
   cases h5 with
   | refl=>exact h3.1 rfl
   | up k1 _=>
     have:=ok.nat k1
     exact this.2.1 e
 ·obtain ⟨d,hd,h1,h2⟩:=ok.id b hR e
  have hT:T[b]?=some (d:Int):=by rw [some_getD hbT 0,hd]
  have hdb:domB T d b=true:=(ok.dom_nat hR).2 (.up hT (.refl d))
  have hS:SD T b d:=⟨fun e=>by have:d=b:=by omega
                               rw [this] at h2;omega,hdb⟩
  rcases h with ⟨_,h4⟩ | ⟨s,h3,_,h5,h6⟩
  ·exact absurd hS (h4 d (rch_lt h1))
  ·rw [hd,h3]
   have k1:=h6 d (rch_lt h1) hS
   have k2:=ok.up (a:=s) hbn h5.1 h5.2 (by rw [hd];omega)
   rw [hd] at k2
   exact ok.anti k2 k1
section
variable {CT:Nat→Option CFun}
structure CQ9 (CT:Nat→Option CFun):Prop where
 r:CR CT
 wo:CT k_f44=some (.code s_f44)
 dm:CT k_f28=some (.code s_f28)
end
end Go.Proofs.Ytdmnenlpdeolaaa
set_option maxRecDepth 100000
namespace Go.Proofs.Ytdmnenlpdeolaaa
open Go.AM
section
variable {CT:Nat→Option CFun}
end
end Go.Proofs.Ytdmnenlpdeolaaa
set_option maxRecDepth 100000
namespace Go.Proofs.Ytdmnenlpdeolaaa
open Go.AM
def Bg (m:Nat) (H:Heap) (vs:List V) (R:List (List V)):Prop:=
 vs.length=R.length∧∀ (j:Nat) (r:List V),R[j]?=some r→∃ x,vs[j]?=some x∧OwnN m H x r
theorem Bg.trim {m L o:Nat} {H:Heap} {vs:List V} {R:List (List V)} (h:Bg m H vs R) (hc:getC H o 0=some vs) (ho:o < L) (fr:List V):Bg m (trim L fr H) vs R:=
 ⟨h.1,fun j r hr=>by obtain ⟨x,h1,h2⟩:=h.2 j r hr;exact ⟨x,h1,h2.trim hc ho (List.mem_of_getElem? h1) fr⟩⟩
theorem Bg.ext {m:Nat} {H H':Heap} {vs:List V} {R:List (List V)} (h:Bg m H vs R) (k:Ext H H'):Bg m H' vs R:=
 ⟨h.1,fun j r hr=>by obtain ⟨x,h1,h2⟩:=h.2 j r hr;exact ⟨x,h1,h2.ext k⟩⟩
theorem Bg.rows {m o:Nat} {H:Heap} {vs:List V} {R:List (List V)} (h:Bg m H vs R) (hc:getC H o 0=some vs):RdRows H (.sl o 0 0 R.length 1) R:=
 ⟨vs,by rw [← h.1];exact getC_sl hc,trivial,h.1,fun i r hr=>by obtain ⟨x,h1,h2⟩:=h.2 i r hr;exact ⟨x,h1,h2.rd,h2.wide⟩⟩
theorem Bg.put {m o i:Nat} {H:Heap} {vs:List V} {R:List (List V)} {x:V} {r:List V} (h:Bg m H vs R) (ho:o < m) (hi:i < R.length) (hx:OwnN m H x r) (c:List V):Bg m (H.set o (.cells 0 c)) (vs.set i x) (R.set i r):=by
 refine ⟨by rw [List.length_set,List.length_set];exact h.1,fun j s hs=>?_⟩
 by_cases e:i=j
 ·subst e
  rw [List.getElem?_set_self hi] at hs
  obtain rfl:=Option.some.inj hs
  exact ⟨x,List.getElem?_set_self (by rw [h.1];exact hi),hx.set ho _⟩
 ·rw [List.getElem?_set_ne e] at hs
  obtain ⟨y,h1,h2⟩:=h.2 j s hs
  exact ⟨y,by rw [List.getElem?_set_ne e];exact h1,h2.set ho _⟩
end Go.Proofs.Ytdmnenlpdeolaaa
set_option maxRecDepth 100000
namespace Go.Proofs.Ytdmnenlpdeolaaa
open Go.AM
section
variable {CT:Nat→Option CFun}
end
end Go.Proofs.Ytdmnenlpdeolaaa
set_option maxRecDepth 100000
namespace Go.Proofs.Ytdmnenlpdeolaaa
open Go.AM
section
variable {CT:Nat→Option CFun}
end
end Go.Proofs.Ytdmnenlpdeolaaa
set_option maxRecDepth 100000
namespace Go.Proofs.Ytdmnenlpdeolaaa
open Go.AM
section
variable {CT:Nat→Option CFun}
end
end Go.Proofs.Ytdmnenlpdeolaaa
set_option maxRecDepth 100000
namespace Go.Proofs.Ytdmnenlpdeolaaa
open Go.AM
theorem dom_same {G:List (List Int)} {q:Int} {T T2:List Int} {lvl lvl2:Nat→Nat} (ok:TreeOk G q T lvl) (ok2:TreeOk G q T2 lvl2) (a b:Int):domB T a b=domB T2 a b:=by
 rw [Bool.eq_iff_iff,ok.dom,ok2.dom]
 constructor
 ·rintro ⟨x,y,e1,e2,h1,h2,h3⟩
  exact ⟨x,y,e1,e2,h1,h2,(ok2.dm x y h2).2 ((ok.dm x y h2).1 h3)⟩
 ·rintro ⟨x,y,e1,e2,h1,h2,h3⟩
  exact ⟨x,y,e1,e2,h1,h2,(ok.dm x y h2).2 ((ok2.dm x y h2).1 h3)⟩
theorem frG_same {G:List (List Int)} {q:Int} {T T2:List Int} {lvl lvl2:Nat→Nat} (ok:TreeOk G q T lvl) (ok2:TreeOk G q T2 lvl2):frG T G=frG T2 G:=by
 apply List.ext_getElem?
 intro a
 by_cases ha:a < G.length
 ·rw [some_getD (show a < (frG T G).length by rw [frG_len];exact ha) [],some_getD (show a < (frG T2 G).length by rw [frG_len];exact ha) []]
  congr 1
  refine up_eq _ _ (frG_up T G ha) (frG_up T2 G ha) fun z=>?_
  rw [frG_mem ok ha z,frG_mem ok2 ha z]
  simp only [dom_same ok ok2]
 ·rw [List.getElem?_eq_none (by rw [frG_len];omega),List.getElem?_eq_none (by rw [frG_len];omega)]
theorem frG_small {G:List (List Int)} {q:Int} {T:List Int} {lvl:Nat→Nat} (ok:TreeOk G q T lvl):∀ r∈frG T G,r.length≤G.length:=by
 intro r hr
 obtain ⟨a,ha⟩:=List.mem_iff_getElem?.1 hr
 have han:=(List.getElem?_eq_some_iff.1 ha).1
 rw [frG_len] at han
 rw [← getD_some ha []]
 refine up_len' (frG_up T G han) fun z hz=>?_
 obtain ⟨x,_,h,_⟩:=(frG_mem ok han z).1 hz
 have:=(normG_get G x z).1 h
 exact ⟨by omega,by omega⟩
section
variable {CT:Nat→Option CFun}
end
end Go.Proofs.Ytdmnenlpdeolaaa
set_option maxRecDepth 100000
namespace Go.Proofs.Ytdmnenlpdeolaaa
open Go.AM
theorem fold_fix {α:Type} (f:List Bool × Bool→α→List Bool × Bool) (n:Nat):∀ (l:List α),(∀ s:List Bool × Bool,s.1.length=n→∀ a∈l,(f s a).1.length=n∧(f s a=s∨((f s a).2=true∧cntF (f s a).1 < cntF s.1)))→∀ s:List Bool × Bool,s.1.length=n→(l.foldl f s=s∧∀ a∈l,f s a=s)∨((l.foldl f s).2=true∧cntF (l.foldl f s).1 < cntF s.1):=by
 intro l
 induction l with
 | nil=>intro _ s _;exact .inl ⟨rfl,fun a ha=>absurd ha List.not_mem_nil⟩
 | cons a l ih=>
   intro h s hs
   obtain ⟨h1,h2⟩:=h s hs a List.mem_cons_self
   have ih':=ih (fun s hs b hb=>h s hs b (List.mem_cons_of_mem _ hb)) (f s a) h1
   rw [List.foldl_cons]
   rcases h2 with e | ⟨e1,e2⟩
   ·rw [e] at ih' ⊢
    rcases ih' with ⟨k1,k2⟩ | k
    ·refine .inl ⟨k1,fun b hb=>?_⟩
     rcases List.mem_cons.1 hb with rfl | hb
     ·exact e
     ·exact k2 b hb
    ·exact .inr k
   ·rcases ih' with ⟨k1,_⟩ | ⟨k1,k2⟩
    ·rw [k1];exact .inr ⟨e1,e2⟩
    ·exact .inr ⟨k1,by omega⟩
theorem st7_fix {n:Nat} (s:List Bool × Bool) (hs:s.1.length=n) (z:Int) (hz:0≤z∧z < n):(st7 s z).1.length=n∧(st7 s z=s∨((st7 s z).2=true∧cntF (st7 s z).1 < cntF s.1)):=by
 refine ⟨by rw [st7_len,hs],?_⟩
 unfold st7
 cases h:s.1.getD z.toNat false with
 | true=>exact .inl rfl
 | false=>
   have:=cntF_set s.1 z.toNat (by rw [some_getD (show z.toNat < s.1.length by omega) false,h])
   exact .inr ⟨rfl,by show cntF (s.1.set z.toNat true) < _;omega⟩
theorem st8_fix {l:List Int} {F:List (List Int)} {n:Nat} (hF:F.length=n) (hin:∀ r∈F,∀ z∈r,0≤z∧z < n) (s:List Bool × Bool) (hs:s.1.length=n) (x:Nat) (hx:x < n):(st8 l F s x).1.length=n∧(st8 l F s x=s∨((st8 l F s x).2=true∧cntF (st8 l F s x).1 < cntF s.1)):=by
 refine ⟨by rw [st8_len,hs],?_⟩
 unfold st8
 split
 ·rcases fold_fix st7 n (F.getD x []) (fun s hs a ha=>st7_fix s hs a (hin _ (List.mem_of_getElem? (some_getD (by omega) [])) a ha)) s hs with ⟨h,_⟩ | h
  ·exact .inl h
  ·exact .inr h
 ·exact .inl rfl
def ClosedB (l:List Int) (F:List (List Int)) (n:Nat) (N:List Bool):Prop:=∀ x,x < n→(N.getD x false=true∨(x:Int)∈l)→∀ z∈F.getD x [],N.getD z.toNat false=true
theorem pass_fix {l:List Int} {F:List (List Int)} {n:Nat} (hF:F.length=n) (hin:∀ r∈F,∀ z∈r,0≤z∧z < n) (N:List Bool) (hN:N.length=n):(pass l F n (N,false)=(N,false)∧ClosedB l F n N)∨((pass l F n (N,false)).2=true∧cntF (pass l F n (N,false)).1 < cntF N):=by
 rcases fold_fix (st8 l F) n (List.range n) (fun s hs a ha=>st8_fix hF hin s hs a (List.mem_range.1 ha)) (N,false) hN with ⟨h1,h2⟩ | h
 ·refine .inl ⟨h1,fun x hx hb z hz=>?_⟩
  have h3:=h2 x (List.mem_range.2 hx)
  unfold st8 at h3
  rw [if_pos (by
   rw [Bool.or_eq_true]
   rcases hb with hb | hb
   ·exact .inl hb
   ·exact .inr (List.any_eq_true.2 ⟨_,hb,by simp⟩))] at h3
  rcases fold_fix st7 n (F.getD x []) (fun s hs a ha=>st7_fix s hs a (hin _ (List.mem_of_getElem? (some_getD (by omega) [])) a ha)) (N,false) hN with ⟨_,h4⟩ | ⟨h4,_⟩
  ·have h5:=h4 z hz
   unfold st7 at h5
   cases hc:N.getD z.toNat false with
   | true=>rfl
   | false=>
     rw [if_neg (by show ¬ (N.getD z.toNat false=true);rw [hc];simp)] at h5
     have:=congrArg Prod.snd h5
     simp at this
  ·rw [h3] at h4
   simp at h4
 ·exact .inr h
def JR (l:List Int) (F:List (List Int)) (N:List Bool):Prop:=∀ k:Nat,N.getD k false=true→ItR F l k
theorem st7s_JR {l:List Int} {F:List (List Int)} {n:Nat} (hF:F.length=n):∀ (r:List Int) (s:List Bool × Bool),s.1.length=n→(∀ z∈r,0≤z∧z < n∧ItR F l z)→JR l F s.1→JR l F (r.foldl st7 s).1:=by
 intro r
 induction r with
 | nil=>intro s _ _ h;exact h
 | cons z r ih=>
   intro s hs hr h
   rw [List.foldl_cons]
   refine ih _ (by rw [st7_len,hs]) (fun y hy=>hr y (List.mem_cons_of_mem _ hy)) ?_
   obtain ⟨h1,h2,h3⟩:=hr z List.mem_cons_self
   intro k hk
   unfold st7 at hk
   split at hk
   ·exact h k hk
   ·rw [getD_setB _ _ _ (by omega),Bool.or_eq_true,decide_eq_true_iff] at hk
    rcases hk with e | e
    ·rw [← e,Int.toNat_of_nonneg h1];exact h3
    ·exact h k e
theorem pass_JR {l:List Int} {F:List (List Int)} {n:Nat} (hF:F.length=n) (hin:∀ r∈F,∀ z∈r,0≤z∧z < n):∀ (xs:List Nat) (s:List Bool × Bool),(∀ x∈xs,x < n)→s.1.length=n→JR l F s.1→JR l F (xs.foldl (st8 l F) s).1:=by
 intro xs
 induction xs with
 | nil=>intro s _ _ h;exact h
 | cons x xs ih=>
   intro s hx hs h
   rw [List.foldl_cons]
   refine ih _ (fun y hy=>hx y (List.mem_cons_of_mem _ hy)) (by rw [st8_len,hs]) ?_
   have hxn:=hx x List.mem_cons_self
   unfold st8
   split
   ·rename_i hc
    refine st7s_JR hF _ _ hs (fun z hz=>?_) h
    have hzi:=hin _ (List.mem_of_getElem? (some_getD (show x < F.length by omega) [])) z hz
    have hix:InR F.length (x:Int):=⟨by omega,by omega⟩
    have hiz:InR F.length z:=⟨hzi.1,by omega⟩
    rw [Bool.or_eq_true] at hc
    refine ⟨hzi.1,hzi.2,?_⟩
    rcases hc with hc | hc
    ·exact .more (x:Int) z (h x hc) hix (by rw [Int.toNat_natCast];exact hz) hiz
    ·rw [List.any_eq_true] at hc
     obtain ⟨w,hw,e⟩:=hc
     rw [beq_iff_eq] at e
     subst e
     exact .one (x:Int) z hw hix (by rw [Int.toNat_natCast];exact hz) hiz
   ·exact h
theorem closed_all {l:List Int} {F:List (List Int)} {n:Nat} (hF:F.length=n) {N:List Bool} (hc:ClosedB l F n N) {y:Int} (h:ItR F l y):N.getD y.toNat false=true:=by
 induction h with
 | one x y h1 h2 h3 h4=>
   have h2':=h2
   obtain ⟨k,rfl⟩:=Int.eq_ofNat_of_zero_le h2'.1
   have:(k:Int) < (F.length:Int):=h2'.2
   exact hc k (by omega) (.inr h1) y (by rwa [Int.toNat_natCast] at h3)
 | more x y h1 h2 h3 h4 ih=>
   obtain ⟨k,rfl⟩:=Int.eq_ofNat_of_zero_le h2.1
   have:(k:Int) < (F.length:Int):=h2.2
   exact hc k (by omega) (.inl (by rwa [Int.toNat_natCast] at ih)) y (by rwa [Int.toNat_natCast] at h3)
section
variable {CT:Nat→Option CFun}
theorem fronts_l9 (base:Nat) {A:Heap} {v lv fv:V} {G F:List (List Int)} {l:List Int} (hb:base≤A.length) (hv:RdRows A v (rowsV G)) (hG:G.length < 2 ^ 18) (hl:Rd A lv (l.map iV)) (hlw:Wide1 lv) (hll:l.length < 2 ^ 40) (hF:RdRows A fv (rowsV F)) (hFl:F.length=G.length) (hr:∀ r∈F,r.length < 2 ^ 40) (hin:∀ r∈F,∀ z∈r,0≤z∧z < G.length) (B:List Bool):
 ∀ (c:Nat) (N:List Bool),cntF N < c→N.length=G.length→JR l F N→
 ∃ N',itW (evC (callW CT) itW base s_f5_l9) [22,184] (A.length+2) (frOf 254 [(0,v),(2,lv),(8,fv),(18,.sl A.length 0 0 G.length 1),(20,.sl (A.length+1) 0 0 G.length 1),(21,bl true)]) (hh2 A B N)=some (.ext 12,frOf 254 [(0,v),(2,lv),(8,fv),(18,.sl A.length 0 0 G.length 1),(20,.sl (A.length+1) 0 0 G.length 1),(180,bl false)],hh2 A B N')∧N'.length=G.length∧JR l F N'∧ClosedB l F G.length N':=by
 intro c
 induction c with
 | zero=>intro N h;omega
 | succ c ih=>
   intro N hc hN hJ
   have h8:=fronts_l8 (CT:=CT) base hb hv hG hl hlw hll hF hFl hr hin B (N,false) hN
   have hJ':=pass_JR hFl hin (List.range G.length) (N,false) (fun x hx=>List.mem_range.1 hx) hN hJ
   have hlen:(pass l F G.length (N,false)).1.length=G.length:=by rw [pass,st8s_len];exact hN
   rcases pass_fix (l:=l) hFl hin N hN with ⟨h1,h2⟩ | ⟨h1,h2⟩
   ·rw [h1] at h8
    refine ⟨N,?_,hN,hJ,h2⟩
    rw [itW_step]
    simp only [bl] at h8
    simp only [bl,a_f5,s_f5_l0_b,s_f5_l1_b,s_f5_l2_b,s_f5_l3_b,s_f5_l4_b,s_f5_l5_b,s_f5_l6_b,s_f5_l7_b,s_f5_l8_b,s_f5_l9_b,s_f5_l10_b,aa,bl,i64,reduceIte,reduceCtorEq,Nat.reduceEqDiff,Nat.reduceLT,Nat.reduceLeDiff,Nat.reduceBEq,Nat.reduceAdd,fillA,splice,Nat.reduceMul,amY,op_eqP,h8,hh2_len,trim_same (hh2_len A B _)]
    rw [itW_step]
    simp only [bl,a_f5,s_f5_l0_b,s_f5_l1_b,s_f5_l2_b,s_f5_l3_b,s_f5_l4_b,s_f5_l5_b,s_f5_l6_b,s_f5_l7_b,s_f5_l8_b,s_f5_l9_b,s_f5_l10_b,aa,bl,i64,reduceIte,reduceCtorEq,Nat.reduceEqDiff,Nat.reduceLT,Nat.reduceLeDiff,Nat.reduceBEq,Nat.reduceAdd,fillA,splice,Nat.reduceMul,amY,op_eqP,hh2_len,trim_same (hh2_len A B _)]
   ·rw [show (List.range G.length).foldl (st8 l F) (N,false)=pass l F G.length (N,false) from rfl] at hJ'
    rw [h1] at h8
    obtain ⟨N1,hN1⟩:∃ N1,(pass l F G.length (N,false)).1=N1:=⟨_,rfl⟩
    rw [hN1] at h8 hJ' hlen h2
    obtain ⟨N',p1,p2⟩:=ih N1 (by omega) hlen hJ'
    refine ⟨N',?_,p2⟩
    rw [itW_step]
    simp only [bl] at h8 p1
    simp only [bl,a_f5,s_f5_l0_b,s_f5_l1_b,s_f5_l2_b,s_f5_l3_b,s_f5_l4_b,s_f5_l5_b,s_f5_l6_b,s_f5_l7_b,s_f5_l8_b,s_f5_l9_b,s_f5_l10_b,aa,bl,i64,reduceIte,reduceCtorEq,Nat.reduceEqDiff,Nat.reduceLT,Nat.reduceLeDiff,Nat.reduceBEq,Nat.reduceAdd,fillA,splice,Nat.reduceMul,amY,op_eqP,h8,hh2_len,trim_same (hh2_len A B _)]
    exact p1
theorem want_eq {G:List (List Int)} {q:Int} {T:List Int} {lvl:Nat→Nat} (ok:TreeOk G q T lvl) {a:Nat} (ha:a < G.length) (y:Nat):(((frG T G).getD a []).any fun z=>z == (y:Int))=wantA (normG G) T a y G.length:=by
 rw [Bool.eq_iff_iff,List.any_eq_true,wantA,List.any_eq_true]
 constructor
 ·rintro ⟨z,hz,e⟩
  rw [beq_iff_eq] at e
  subst e
  obtain ⟨x,h1,h2,h3,h4⟩:=(frG_mem ok ha (y:Int)).1 hz
  refine ⟨x,List.mem_range.2 (rch_lt h1),?_⟩
  rw [wantX,List.any_eq_true]
  refine ⟨(y:Int),h2,?_⟩
  rw [h3]
  rcases h4 with h4 | h4
  ·rw [h4];simp
  ·rw [h4];simp
 ·rintro ⟨x,hx,h⟩
  rw [wantX,List.any_eq_true] at h
  obtain ⟨z,hz,h⟩:=h
  rw [Bool.and_eq_true,Bool.and_eq_true,Bool.or_eq_true,beq_iff_eq,beq_iff_eq,Bool.not_eq_true'] at h
  obtain ⟨⟨e,h1⟩,h2⟩:=h
  subst e
  obtain ⟨x',y',e1,e2,k1,k2,_⟩:=(ok.dom _ _).1 h1
  have:x=y':=by omega
  subst this
  exact ⟨_,(frG_mem ok ha (y:Int)).2 ⟨x,k2,hz,h1,h2⟩,by simp⟩
theorem frG_in {G:List (List Int)} {q:Int} {T:List Int} {lvl:Nat→Nat} (ok:TreeOk G q T lvl):∀ r∈frG T G,∀ z∈r,0≤z∧z < G.length:=by
 intro r hr z hz
 obtain ⟨a,ha⟩:=List.mem_iff_getElem?.1 hr
 have han:=(List.getElem?_eq_some_iff.1 ha).1
 rw [frG_len] at han
 rw [← getD_some ha []] at hz
 obtain ⟨x,_,h,_⟩:=(frG_mem ok han z).1 hz
 have:=(normG_get G x z).1 h
 exact ⟨by omega,by omega⟩
theorem mk_false (H:Heap) (n:Nat) (hn:n < 2 ^ 40):makeV H [.s (.bool false)] 1 1 (.s (.int .i64 n)) (.s (.int .i64 n))=some (.sl H.length 0 0 n 1,hh1 H (List.replicate n false)):=by
 have:=make_n (H:=H) (zero:=[.s (.bool false)]) (sz:=1) (bytes:=1) (k:=.i64) (k':=.i64) (n:=n) (by omega)
 rw [this,flat_one,hh1,obB,List.map_replicate]
 rfl
set_option maxHeartbeats 1000000 in
theorem fronts_law (h:CL9 CT) (hI:CI CT) (hF:CT k_f16=some (.code s_f16)) (hL:CT k_f5=some (.code s_f5)) (base:Nat) (H:Heap) (hb:base≤H.length) (v lv:V) (G:List (List Int)) (q:Int) (l:List Int) (hv:RdRows H v (rowsV G)) (hl:Rd H lv (l.map iV)) (hlw:Wide1 lv):
 ∃ H',callW CT (.fn k_f5 [] []) [v,.s (.int .i64 q),lv] base H=some (.s (.bool true),H'):=by
 have hg:=great9_fun h.great base H v G hv
 have hll:=iV_len hl
 cases hgr:great9 G with
 | true=>
   rw [hgr] at hg
   have hw:=h.wakes base H
   refine ⟨H,callW_fn (c:=s_f5) hL (by simp [s_f5]) ?_⟩
   simp only [s_f5,a_f5,s_f5_l0_b,s_f5_l1_b,s_f5_l2_b,s_f5_l3_b,s_f5_l4_b,s_f5_l5_b,s_f5_l6_b,s_f5_l7_b,s_f5_l8_b,s_f5_l9_b,s_f5_l10_b,aa,bl,i64,reduceIte,reduceCtorEq,Nat.reduceEqDiff,Nat.reduceLT,Nat.reduceLeDiff,Nat.reduceBEq,Nat.reduceAdd,fillA,splice,Nat.reduceMul,amY,op_eqP,hg,hll,hw]
 | false=>
   rw [hgr] at hg
   obtain ⟨hn,hr⟩:=great9_small hgr
   by_cases h20:l.length > 20
   ·have h20':(l.length:Int) > 20:=by omega
    have hw:=h.wakes base H
    refine ⟨H,callW_fn (c:=s_f5) hL (by simp [s_f5]) ?_⟩
    simp only [s_f5,a_f5,s_f5_l0_b,s_f5_l1_b,s_f5_l2_b,s_f5_l3_b,s_f5_l4_b,s_f5_l5_b,s_f5_l6_b,s_f5_l7_b,s_f5_l8_b,s_f5_l9_b,s_f5_l10_b,aa,bl,i64,reduceIte,reduceCtorEq,Nat.reduceEqDiff,Nat.reduceLT,Nat.reduceLeDiff,Nat.reduceBEq,Nat.reduceAdd,fillA,splice,Nat.reduceMul,amY,op_eqP,hg,hll,h20',hw]
   have h20':¬ (l.length:Int) > 20:=by omega
   obtain ⟨tv,H1,T,lvl,a1,a2,a3,a4⟩:=tree_f h.t base H v G q hv hb (by omega) (fun r h=>by have:=hr r h;omega)
   obtain ⟨fv,H2,T2,lvl2,c1,c2,c3,c4⟩:=frontier_f h.t h.dom hF base H1 v G q (hv.ext a2) (by have:=a2.le;omega) (by omega) (fun r h=>by have:=hr r h;omega)
   have e2:=a2.trans c2
   rw [frG_same c4 a4] at c3
   obtain ⟨nv,H3,n1,n2,n3⟩:=norm_f h.t.g base H2 v G (hv.ext e2) (by have:=e2.le;omega) (by omega) (fun r h=>by have:=hr r h;omega)
   have e3:=e2.trans n2
   have hvl:=rows_lenV hv
   have hlen:=a4.len
   have hfl:=frG_len T G
   obtain ⟨F,hFe⟩:∃ F,frG T G=F:=⟨_,rfl⟩
   have hsm:=frG_small a4
   have hin:=frG_in a4
   have hwant:=fun a ha y=>want_eq a4 (a:=a) ha y
   rw [hFe] at c3 hfl hsm hin hwant
   have hF3:=c3.ext n2
   have hfvl:∀ H',xLen H' .s fv=some (.s (.int .i64 G.length)):=by
    have:=rows_lenV c3
    rwa [hfl] at this
   have h4:=fronts_l4 (CT:=CT) (lv:=lv) h.dom base (hv.ext e3) n3.rd (normG_len G) ((a3.rd.ext c2).ext n2) a3.wide (by omega) (by omega) hF3 hfl (fun r hr'=>by have:=normG_small (b:=21) (fun r h=>by have:=hr r h;omega) r hr';omega) (fun r hr'=>by have:=hsm r hr';omega) (fun a ha y _=>hwant a ha y)
   obtain ⟨gv,H4,Z,i1,i2,i3,i4,i5,i6⟩:=iterate_f hI base H3 (l:=l) (by have:=e3.le;omega) hF3 (hl.ext e3) hlw (by omega) (by omega) (fun r hr'=>by have:=hsm r hr';omega)
   have e4:=e3.trans i2
   have hle4:=e4.le
   have hZr:∀ z∈Z,0≤z∧z < G.length:=fun z hz=>by
    have:=itR_in ((i6 z).1 hz)
    exact ⟨this.1,by have:=this.2;omega⟩
   have hZl:Z.length < 2 ^ 40:=by
    have:=up_len' i5 hZr
    omega
   have hmk:=mk_false H4 G.length (by omega)
   have h5:=fronts_l5 (CT:=CT) (lv:=lv) (fv:=fv) base (A:=H4) (by omega) (hv.ext e4) (by omega) i3 i4 hZl hZr i5
   obtain ⟨B,hB⟩:∃ B,marks Z (List.replicate G.length false)=B:=⟨_,rfl⟩
   have hBl:B.length=G.length:=by rw [← hB,marks_len,List.length_replicate]
   have hBm:∀ k:Nat,B.getD k false=true↔ItR F l k:=fun k=>by
    rw [← hB,marks_get Z _ k (fun z hz=>by rw [List.length_replicate];exact hZr z hz),← i6]
    constructor
    ·rintro (e | e)
     ·rw [List.getD,List.getElem?_replicate] at e
      split at e <;> simp at e
     ·exact e
    ·exact .inr
   rw [hB] at h5
   have hmk2:=mk_false (hh1 H4 B) G.length (by omega)
   rw [hh1_len] at hmk2
   obtain ⟨N',j1,j2,j3,j4⟩:=fronts_l9 (CT:=CT) base (A:=H4) (by omega) (hv.ext e4) (by omega) (hl.ext e4) hlw (by omega) (hF3.ext i2) hfl (fun r hr'=>by have:=hsm r hr';omega) hin B _ (List.replicate G.length false) (Nat.lt_succ_self _) (by simp) (fun k hk=>by
    rw [List.getD,List.getElem?_replicate] at hk
    split at hk <;> simp at hk)
   have hE:∀ k,k < G.length→B.getD k false=N'.getD k false:=fun k hk=>by
    rw [Bool.eq_iff_iff,hBm]
    exact ⟨fun e=>by have:=closed_all hfl j4 e;rwa [Int.toNat_natCast] at this,j3 k⟩
   have h10:=fronts_l10 (CT:=CT) base (A:=H4) (hv.ext e4) (by omega) B N' hBl j2 hE
   have hw:=h.wakes base (hh2 H4 B N')
   have hne:((G.length:Int) != (G.length:Int))=false:=by simp
   rw [show hh1 (hh1 H4 B) (List.replicate G.length false)=hh2 H4 B (List.replicate G.length false) from rfl] at hmk2
   simp only [bl] at h4 h5 j1 h10
   refine ⟨hh2 H4 B N',callW_fn (c:=s_f5) hL (by simp [s_f5]) ?_⟩
   simp only [s_f5,a_f5,s_f5_l0_b,s_f5_l1_b,s_f5_l2_b,s_f5_l3_b,s_f5_l4_b,s_f5_l5_b,s_f5_l6_b,s_f5_l7_b,s_f5_l8_b,s_f5_l9_b,s_f5_l10_b,aa,bl,i64,reduceIte,reduceCtorEq,Nat.reduceEqDiff,Nat.reduceLT,Nat.reduceLeDiff,Nat.reduceBEq,Nat.reduceAdd,fillA,splice,Nat.reduceMul,amY,op_eqP,hg,hll,h20',a1,c1,n1,hvl,hfvl,hne,h4,i1,op_mkSl,hmk,hmk2,h5,j1,h10,hh1_len,hh2_len,hw]
end
end Go.Proofs.Ytdmnenlpdeolaaa
