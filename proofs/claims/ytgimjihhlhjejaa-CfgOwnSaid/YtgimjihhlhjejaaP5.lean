/- Texts of the proof: CgS4, CfgO1, AmC, CfgO2, CfgO3, CfgO4. -/
import Derived.Test.YtgimjihhlhjejaaP0
import Derived.Test.YtgimjihhlhjejaaP1
import Derived.Test.YtgimjihhlhjejaaP2
import Derived.Test.YtgimjihhlhjejaaP3
import Derived.Test.YtgimjihhlhjejaaP4
set_option linter.all false
set_option maxRecDepth 100000
namespace Go.Proofs.Ytgimjihhlhjejaa
open Go.AM
abbrev k_f4:Nat:=4
def s_f4_r0_k:List Nat:=[0,1,4,5,6,7,8,9,10,11,12,13,14,15,16,17,18,19,20,21,22,23,24,25,26,27,28,29,30,31,32,33,34,35,36,37,38,39,40,41,42,43,44,45,46,47,48,49,50,51,52,53,54,55,56,57,58,59,60,61,62,63,64,65,66,67,68,69,70,71,72,73,74,75,76,77,78,79,80,81,82,83,84,85,86,87,88,89,90,91,92,93,94,95,96,97,98,99,100,101,102,103,104,105,106,107,108,109,110,111,112,113,114,115,116,117,118,119,120,121,122,123,124,125,126,127,128,129,130,131,132,133,134,135,136,137,138,139,140,141,142,143,144,145,146]
theorem s_f4_r0_k_kA0:s_f4_r0_k.contains 0=true:=by kernel_rfl
theorem s_f4_r0_k_kA1:s_f4_r0_k.contains 1=true:=by kernel_rfl
theorem s_f4_r0_k_kA2:s_f4_r0_k.contains 2=false:=by kernel_rfl
theorem s_f4_r0_k_kA3:s_f4_r0_k.contains 3=false:=by kernel_rfl
theorem s_f4_r0_k_kA4:s_f4_r0_k.contains 4=true:=by kernel_rfl
def s_f4_r0t2:List AOper:=[⟨some 4,(.move (.c (.s (.bool false)))),none⟩]
def s_f4_r0p1:List AOper:=[⟨some 3,(.box (.t 1)),none⟩]
def s_f4_r0t1:List AOper:=s_f4_r0p1 ++ s_f4_r0t2
def s_f4_r0p0:List AOper:=[⟨some 2,(.box (.t 0)),none⟩]
def s_f4_r0:List AOper:=s_f4_r0p0 ++ s_f4_r0t1
def s_f4_r0p0_k:List Nat:=[0,3,4,5,6,7,8,9,10,11,12,13,14,15,16,17,18,19,20,21,22,23,24,25,26,27,28,29,30,31,32,33,34,35,36,37,38,39,40,41,42,43,44,45,46,47,48,49,50,51,52,53,54,55,56,57,58,59,60,61,62,63,64,65,66,67,68,69,70,71,72,73,74,75,76,77,78,79,80,81,82,83,84,85,86,87,88,89,90,91,92,93,94,95,96,97,98,99,100,101,102,103,104,105,106,107,108,109,110,111,112,113,114,115,116,117,118,119,120,121,122,123,124,125,126,127,128,129,130,131,132,133,134,135,136,137,138,139,140,141,142,143,144,145,146]
theorem s_f4_r0p0_k_kA0:s_f4_r0p0_k.contains 0=true:=by kernel_rfl
theorem s_f4_r0p0_k_kA1:s_f4_r0p0_k.contains 1=false:=by kernel_rfl
theorem s_f4_r0p0_k_kA2:s_f4_r0p0_k.contains 2=false:=by kernel_rfl
theorem s_f4_r0p0_k_kA3:s_f4_r0p0_k.contains 3=true:=by kernel_rfl
theorem s_f4_r0p0_k_kA4:s_f4_r0p0_k.contains 4=true:=by kernel_rfl
theorem s_f4_r0_x (call:CallF) (it:IterF) (base:Nat) (f:List V) (H:Heap):evC call it base (.region s_f4_r0 [] s_f4_r0_k) f H=thenC call it base (.region s_f4_r0t1 [] s_f4_r0_k) (opsC [] s_f4_r0p0 s_f4_r0p0_k (evOps call base [⟨some 2,(.box (.t 0)),none⟩] f H)):=(row_op call it base s_f4_r0p0 s_f4_r0t1 (kc:=s_f4_r0p0_k) (by kernel_rfl) f H).trans (by rw [row_ops];rfl)
def s_f4_r0t1_x:=hO s_f4_r0t1 s_f4_r0p1 s_f4_r0t2 [1] s_f4_r0_k [⟨some 3,(.box (.t 1)),none⟩] rfl rfl (by kernel_rfl)
def s_f4_r0t2_tale:=hT s_f4_r0t2 s_f4_r0_k [] 5 [] [] [.cc (.s (.bool false))] (by kernel_rfl) (by kernel_rfl)
def s_f4_r0t2_x:=hL s_f4_r0t2 s_f4_r0_k []
def s_f4_r1t2:List AOper:=[⟨some 22,(.move (.t 21)),none⟩,⟨some 23,(.fieldAddr 6 (.t 3)),some (22,false)⟩,⟨some 24,(.load false 1 (.t 23)),some (22,false)⟩,⟨some 25,(.lenS .s (.t 24)),some (22,false)⟩,⟨some 26,(.bin .gtr (.t 25) (.c (.s (.int .i64 100)))),some (22,false)⟩,⟨some 27,(.pick (.t 22) (.c (.s (.bool true))) (.t 26)),none⟩]
def s_f4_r1p1:List AOper:=[⟨some 21,(.call (.c (.fn 12 [] [])) [(.t 20)]),none⟩]
def s_f4_r1t1:List AOper:=s_f4_r1p1 ++ s_f4_r1t2
def s_f4_r1p0:List AOper:=[⟨some 20,(.load true 3 (.t 2)),none⟩]
def s_f4_r1:List AOper:=s_f4_r1p0 ++ s_f4_r1t1
def s_f4_r1p0_tale:=hT s_f4_r1p0 [] [20] 21 [] [(20,(.op (.load true 3 (.t 0)) [(.t 2)]))] [.sub 0 [] []] (by kernel_rfl) (by kernel_rfl)
def s_f4_r1_x:=hS s_f4_r1 s_f4_r1p0 s_f4_r1t1 [] [20] [20,21,22,23,24,25,26] rfl (by kernel_rfl)
def s_f4_r1t1_x:=hO s_f4_r1t1 s_f4_r1p1 s_f4_r1t2 [20] [20,21,22,23,24,25,26] [⟨some 21,(.call (.c (.fn 12 [] [])) [(.t 20)]),none⟩] rfl rfl (by kernel_rfl)
def s_f4_r1t2_tale:=hT s_f4_r1t2 [20,21,22,23,24,25,26] [27] 28 [] [(27,(.pick (.t 21) (.c (.s (.bool true))) (.op (.bin .gtr (.t 0) (.c (.s (.int .i64 100)))) [(.op (.lenS .s (.t 0)) [(.op (.load false 1 (.t 0)) [(.op (.fieldAddr 6 (.t 0)) [(.t 3)])])]),(.c (.s (.int .i64 100)))])))] [.tt 21,.sub 0 [2,0,0,0] [22],.sub 0 [2,0,0] [22],.sub 0 [2,0] [22],.sub 0 [2] [22],.sub 0 [] []] (by kernel_rfl) (by kernel_rfl)
def s_f4_r1t2_x:=hL s_f4_r1t2 [20,21,22,23,24,25,26] [27]
def s_f4_r2:List AOper:=[
 ⟨some 4,(.move (.c (.s (.bool true)))),none⟩]
def s_f4_r2_tale:=hT s_f4_r2 [2,3,27] [4] 5 [] [(4,(.c (.s (.bool true))))] [.cc (.s (.bool true))] (by kernel_rfl) (by kernel_rfl)
def s_f4_r3t5:List AOper:=[⟨some 6,(.move (.t 32)),none⟩]
def s_f4_r3p4:List AOper:=[⟨none,(.store 2 (.t 5) (.t 31)),none⟩]
def s_f4_r3t4:List AOper:=s_f4_r3p4 ++ s_f4_r3t5
def s_f4_r3p3:List AOper:=[⟨some 5,(.alloc [(.s (.slice none 0 0)),(.s (.slice none 0 0))]),none⟩]
def s_f4_r3t3:List AOper:=s_f4_r3p3 ++ s_f4_r3t4
def s_f4_r3p2:List AOper:=[⟨some 28,(.move (.t 30)),none⟩,⟨some 31,(.extract (.t 28) 0),none⟩,⟨some 32,(.extract (.t 28) 1),none⟩]
def s_f4_r3t2:List AOper:=s_f4_r3p2 ++ s_f4_r3t3
def s_f4_r3p1:List AOper:=[⟨some 30,(.call (.c (.fn 13 [] [])) [(.t 29)]),none⟩]
def s_f4_r3t1:List AOper:=s_f4_r3p1 ++ s_f4_r3t2
def s_f4_r3p0:List AOper:=[⟨some 29,(.load true 3 (.t 2)),none⟩]
def s_f4_r3:List AOper:=s_f4_r3p0 ++ s_f4_r3t1
def s_f4_r3p0_tale:=hT s_f4_r3p0 [27] [29] 30 [] [(29,(.op (.load true 3 (.t 0)) [(.t 2)]))] [.sub 0 [] []] (by kernel_rfl) (by kernel_rfl)
def s_f4_r3_x:=hS s_f4_r3 s_f4_r3p0 s_f4_r3t1 [27] [29] [6,27,28,29,30,31,32] rfl (by kernel_rfl)
def s_f4_r3t1_x:=hO s_f4_r3t1 s_f4_r3p1 s_f4_r3t2 [29] [6,27,28,29,30,31,32] [⟨some 30,(.call (.c (.fn 13 [] [])) [(.t 29)]),none⟩] rfl rfl (by kernel_rfl)
def s_f4_r3p2_tale:=hT s_f4_r3p2 [28,30] [31,32] 33 [] [(31,(.op (.extract (.t 0) 0) [(.t 30)])),(32,(.op (.extract (.t 0) 1) [(.t 30)]))] [.tt 30,.sub 0 [] [],.sub 1 [] []] (by kernel_rfl) (by kernel_rfl)
def s_f4_r3t2_x:=hS s_f4_r3t2 s_f4_r3p2 s_f4_r3t3 [28,30] [31,32] [6,27,28,29,30,31,32] rfl (by kernel_rfl)
def s_f4_r3t3_x:=hO s_f4_r3t3 s_f4_r3p3 s_f4_r3t4 [] [6,27,28,29,30,31,32] [⟨some 5,(.alloc [(.s (.slice none 0 0)),(.s (.slice none 0 0))]),none⟩] rfl rfl (by kernel_rfl)
def s_f4_r3t4_x:=hO s_f4_r3t4 s_f4_r3p4 s_f4_r3t5 [31] [6,27,28,29,30,31,32] [⟨none,(.store 2 (.t 5) (.t 31)),none⟩] rfl rfl (by kernel_rfl)
def s_f4_r3t5_tale:=hT s_f4_r3t5 [6,27,28,29,30,31,32] [] 7 [] [] [.tt 32] (by kernel_rfl) (by kernel_rfl)
def s_f4_r3t5_x:=hL s_f4_r3t5 [6,27,28,29,30,31,32] []
def s_f4_r4t5:List AOper:=[⟨some 8,(.move (.t 37)),none⟩]
def s_f4_r4p4:List AOper:=[⟨none,(.store 2 (.t 7) (.t 36)),none⟩]
def s_f4_r4t4:List AOper:=s_f4_r4p4 ++ s_f4_r4t5
def s_f4_r4p3:List AOper:=[⟨some 7,(.alloc [(.s (.slice none 0 0)),(.s (.slice none 0 0))]),none⟩]
def s_f4_r4t3:List AOper:=s_f4_r4p3 ++ s_f4_r4t4
def s_f4_r4p2:List AOper:=[⟨some 33,(.move (.t 35)),none⟩,⟨some 36,(.extract (.t 33) 0),none⟩,⟨some 37,(.extract (.t 33) 1),none⟩]
def s_f4_r4t2:List AOper:=s_f4_r4p2 ++ s_f4_r4t3
def s_f4_r4p1:List AOper:=[⟨some 35,(.call (.c (.fn 13 [] [])) [(.t 34)]),none⟩]
def s_f4_r4t1:List AOper:=s_f4_r4p1 ++ s_f4_r4t2
def s_f4_r4p0:List AOper:=[⟨some 34,(.load true 3 (.t 2)),none⟩]
def s_f4_r4:List AOper:=s_f4_r4p0 ++ s_f4_r4t1
def s_f4_r4p0_tale:=hT s_f4_r4p0 [] [34] 35 [] [(34,(.op (.load true 3 (.t 0)) [(.t 2)]))] [.sub 0 [] []] (by kernel_rfl) (by kernel_rfl)
def s_f4_r4_x:=hS s_f4_r4 s_f4_r4p0 s_f4_r4t1 [] [34] [8,33,34,35,36,37] rfl (by kernel_rfl)
def s_f4_r4t1_x:=hO s_f4_r4t1 s_f4_r4p1 s_f4_r4t2 [34] [8,33,34,35,36,37] [⟨some 35,(.call (.c (.fn 13 [] [])) [(.t 34)]),none⟩] rfl rfl (by kernel_rfl)
def s_f4_r4p2_tale:=hT s_f4_r4p2 [33,35] [36,37] 38 [] [(36,(.op (.extract (.t 0) 0) [(.t 35)])),(37,(.op (.extract (.t 0) 1) [(.t 35)]))] [.tt 35,.sub 0 [] [],.sub 1 [] []] (by kernel_rfl) (by kernel_rfl)
def s_f4_r4t2_x:=hS s_f4_r4t2 s_f4_r4p2 s_f4_r4t3 [33,35] [36,37] [8,33,34,35,36,37] rfl (by kernel_rfl)
def s_f4_r4t3_x:=hO s_f4_r4t3 s_f4_r4p3 s_f4_r4t4 [] [8,33,34,35,36,37] [⟨some 7,(.alloc [(.s (.slice none 0 0)),(.s (.slice none 0 0))]),none⟩] rfl rfl (by kernel_rfl)
def s_f4_r4t4_x:=hO s_f4_r4t4 s_f4_r4p4 s_f4_r4t5 [36] [8,33,34,35,36,37] [⟨none,(.store 2 (.t 7) (.t 36)),none⟩] rfl rfl (by kernel_rfl)
def s_f4_r4t5_tale:=hT s_f4_r4t5 [8,33,34,35,36,37] [] 9 [] [] [.tt 37] (by kernel_rfl) (by kernel_rfl)
def s_f4_r4t5_x:=hL s_f4_r4t5 [8,33,34,35,36,37] []
def s_f4_r5:List AOper:=[
 ⟨some 9,(.move (.c (.s (.int .i64 0)))),none⟩]
def s_f4_r5_tale:=hT s_f4_r5 [] [9] 10 [] [(9,(.c (.s (.int .i64 0))))] [.cc (.s (.int .i64 0))] (by kernel_rfl) (by kernel_rfl)
def s_f4_r6:List AOper:=[
 ⟨some 38,(.move (.t 9)),none⟩,
 ⟨some 39,(.fieldAddr 0 (.t 5)),none⟩,
 ⟨some 40,(.load false 1 (.t 39)),none⟩,
 ⟨some 41,(.lenS .s (.t 40)),none⟩,
 ⟨some 42,(.bin .lss (.t 38) (.t 41)),none⟩]
def s_f4_r6_tale:=hT s_f4_r6 [38,39,40,41] [42] 43 [] [(42,(.op (.bin .lss (.t 0) (.t 1)) [(.t 9),(.op (.lenS .s (.t 0)) [(.op (.load false 1 (.t 0)) [(.op (.fieldAddr 0 (.t 0)) [(.t 5)])])])]))] [.tt 9,.sub 0 [1,0,0] [],.sub 0 [1,0] [],.sub 0 [1] [],.sub 0 [] []] (by kernel_rfl) (by kernel_rfl)
def s_f4_r7:List AOper:=[
 ⟨some 10,(.move (.c (.s (.int .i64 0)))),none⟩]
def s_f4_r7_tale:=hT s_f4_r7 [42] [10] 11 [] [(10,(.c (.s (.int .i64 0))))] [.cc (.s (.int .i64 0))] (by kernel_rfl) (by kernel_rfl)
def s_f4_r8:List AOper:=[
 ⟨some 45,(.move (.t 10)),none⟩,
 ⟨some 46,(.fieldAddr 0 (.t 5)),none⟩,
 ⟨some 47,(.load false 1 (.t 46)),none⟩,
 ⟨some 48,(.move (.t 9)),none⟩,
 ⟨some 49,(.indexAddr 1 (.t 47) (.t 48)),none⟩,
 ⟨some 50,(.load false 1 (.t 49)),none⟩,
 ⟨some 51,(.lenS .s (.t 50)),none⟩,
 ⟨some 52,(.bin .lss (.t 45) (.t 51)),none⟩]
def s_f4_r8_tale:=hT s_f4_r8 [45,46,47,48,49,50,51] [52] 53 [] [(52,(.op (.bin .lss (.t 0) (.t 1)) [(.t 10),(.op (.lenS .s (.t 0)) [(.op (.load false 1 (.t 0)) [(.op (.indexAddr 1 (.t 0) (.t 1)) [(.op (.load false 1 (.t 0)) [(.op (.fieldAddr 0 (.t 0)) [(.t 5)])]),(.t 9)])])])]))] [.tt 10,.sub 0 [1,0,0,0,0] [],.sub 0 [1,0,0,0] [],.tt 9,.sub 0 [1,0,0] [],.sub 0 [1,0] [],.sub 0 [1] [],.sub 0 [] []] (by kernel_rfl) (by kernel_rfl)
def s_f4_r9t1:List AOper:=[⟨none,(.store 1 (.t 61) (.c (.s (.int .i64 (-7))))),none⟩]
def s_f4_r9p0:List AOper:=[⟨some 55,(.fieldAddr 0 (.t 5)),none⟩,⟨some 56,(.load false 1 (.t 55)),none⟩,⟨some 57,(.move (.t 9)),none⟩,⟨some 58,(.indexAddr 1 (.t 56) (.t 57)),none⟩,⟨some 59,(.load false 1 (.t 58)),none⟩,⟨some 60,(.move (.t 10)),none⟩,⟨some 61,(.indexAddr 1 (.t 59) (.t 60)),none⟩]
def s_f4_r9:List AOper:=s_f4_r9p0 ++ s_f4_r9t1
def s_f4_r9p0_tale:=hT s_f4_r9p0 [52,55,56,57,58,59,60] [61] 62 [] [(61,(.op (.indexAddr 1 (.t 0) (.t 1)) [(.op (.load false 1 (.t 0)) [(.op (.indexAddr 1 (.t 0) (.t 1)) [(.op (.load false 1 (.t 0)) [(.op (.fieldAddr 0 (.t 0)) [(.t 5)])]),(.t 9)])]),(.t 10)]))] [.sub 0 [0,0,0,0] [],.sub 0 [0,0,0] [],.tt 9,.sub 0 [0,0] [],.sub 0 [0] [],.tt 10,.sub 0 [] []] (by kernel_rfl) (by kernel_rfl)
def s_f4_r9_x:=hS s_f4_r9 s_f4_r9p0 s_f4_r9t1 [52,55,56,57,58,59,60] [61] [52,55,56,57,58,59,60,61] rfl (by kernel_rfl)
def s_f4_r9t1_x:=hX s_f4_r9t1 [52,55,56,57,58,59,60,61] [⟨none,(.store 1 (.t 61) (.c (.s (.int .i64 (-7))))),none⟩] rfl
def s_f4_r10:List AOper:=[
 ⟨some 53,(.move (.t 10)),none⟩,
 ⟨some 54,(.bin .add (.t 53) (.c (.s (.int .i64 1)))),none⟩,
 ⟨some 10,(.move (.t 54)),none⟩]
def s_f4_r10_tale:=hT s_f4_r10 [53,54] [10] 55 [] [(10,(.op (.bin .add (.t 0) (.c (.s (.int .i64 1)))) [(.t 10),(.c (.s (.int .i64 1)))]))] [.tt 10,.sub 0 [] [],.sub 0 [] []] (by kernel_rfl) (by kernel_rfl)
def s_f4_l0_b:ACode:=
 (.seq (.seq (.regionE s_f4_r8 [45,46,47,48,49,50,51] [52])
 (.cond (.t 52)
 .skip
 (.exit 2)))
 (.seq (.block 3
 (.region s_f4_r9 [] [52,55,56,57,58,59,60,61]))
 (.regionE s_f4_r10 [53,54] [10])))
def s_f4_l0:ACode:=s_f4_l0_b
def s_f4_l0_ev:=hE s_f4_l0 s_f4_l0_b rfl
def s_f4_r11:List AOper:=[
 ⟨some 62,(.fieldAddr 0 (.t 5)),none⟩,
 ⟨some 63,(.load false 1 (.t 62)),none⟩,
 ⟨some 64,(.move (.t 9)),none⟩,
 ⟨some 65,(.fieldAddr 0 (.t 5)),none⟩,
 ⟨some 66,(.load false 1 (.t 65)),none⟩,
 ⟨some 67,(.move (.t 9)),none⟩,
 ⟨some 68,(.indexAddr 1 (.t 66) (.t 67)),none⟩,
 ⟨some 69,(.load false 1 (.t 68)),none⟩,
 ⟨some 70,(.buildSl 1 1 [(.s (.int .i64 0))] [(0,(.c (.s (.int .i64 5))))]),none⟩,
 ⟨some 71,(.append 1 8 (.t 69) (.t 70)),none⟩,
 ⟨some 72,(.indexAddr 1 (.t 63) (.t 64)),none⟩,
 ⟨none,(.store 1 (.t 72) (.t 71)),none⟩]
theorem s_f4_r11_x (call:CallF) (it:IterF) (base:Nat) (f:List V) (H:Heap):evC call it base (.region s_f4_r11 [(1,9)] [10,52,62,63,64,65,66,67,68,69,70,71,72]) f H=opsK [10,52,62,63,64,65,66,67,68,69,70,71,72] (fun f'=>List.all [(1,9)] (lateOk call base s_f4_r11 f H f')) (evOps call base [⟨some 62,(.fieldAddr 0 (.t 5)),none⟩,⟨some 63,(.load false 1 (.t 62)),none⟩,⟨some 64,(.move (.t 9)),none⟩,⟨some 65,(.fieldAddr 0 (.t 5)),none⟩,⟨some 66,(.load false 1 (.t 65)),none⟩,⟨some 67,(.move (.t 9)),none⟩,⟨some 68,(.indexAddr 1 (.t 66) (.t 67)),none⟩,⟨some 69,(.load false 1 (.t 68)),none⟩,⟨some 70,(.buildSl 1 1 [(.s (.int .i64 0))] [(0,(.c (.s (.int .i64 5))))]),none⟩,⟨some 71,(.append 1 8 (.t 69) (.t 70)),none⟩,⟨some 72,(.indexAddr 1 (.t 63) (.t 64)),none⟩,⟨none,(.store 1 (.t 72) (.t 71)),none⟩] f H):=row_late call it base _ _ _ f H
def s_f4_r12:List AOper:=[
 ⟨some 43,(.move (.t 9)),none⟩,
 ⟨some 44,(.bin .add (.t 43) (.c (.s (.int .i64 1)))),none⟩,
 ⟨some 9,(.move (.t 44)),none⟩]
def s_f4_r12_tale:=hT s_f4_r12 [43,44] [9] 45 [] [(9,(.op (.bin .add (.t 0) (.c (.s (.int .i64 1)))) [(.t 9),(.c (.s (.int .i64 1)))]))] [.tt 9,.sub 0 [] [],.sub 0 [] []] (by kernel_rfl) (by kernel_rfl)
def s_f4_l1_b:ACode:=
 (.seq (.seq (.regionE s_f4_r6 [38,39,40,41] [42])
 (.cond (.t 42)
 .skip
 (.exit 0)))
 (.seq (.block 1
 (.seq (.seq (.regionE s_f4_r7 [42] [10])
 (.block 2
 (.loop [] s_f4_l0)))
 (.region s_f4_r11 [(1,9)] [10,52,62,63,64,65,66,67,68,69,70,71,72])))
 (.regionE s_f4_r12 [43,44] [9])))
def s_f4_l1:ACode:=s_f4_l1_b
def s_f4_l1_ev:=hE s_f4_l1 s_f4_l1_b rfl
def s_f4_r13:List AOper:=[
 ⟨some 11,(.move (.c (.s (.int .i64 0)))),none⟩]
def s_f4_r13_tale:=hT s_f4_r13 [9,42] [11] 12 [] [(11,(.c (.s (.int .i64 0))))] [.cc (.s (.int .i64 0))] (by kernel_rfl) (by kernel_rfl)
def s_f4_r14:List AOper:=[
 ⟨some 73,(.move (.t 11)),none⟩,
 ⟨some 74,(.fieldAddr 1 (.t 5)),none⟩,
 ⟨some 75,(.load false 1 (.t 74)),none⟩,
 ⟨some 76,(.lenS .s (.t 75)),none⟩,
 ⟨some 77,(.bin .lss (.t 73) (.t 76)),none⟩]
def s_f4_r14_tale:=hT s_f4_r14 [73,74,75,76] [77] 78 [] [(77,(.op (.bin .lss (.t 0) (.t 1)) [(.t 11),(.op (.lenS .s (.t 0)) [(.op (.load false 1 (.t 0)) [(.op (.fieldAddr 1 (.t 0)) [(.t 5)])])])]))] [.tt 11,.sub 0 [1,0,0] [],.sub 0 [1,0] [],.sub 0 [1] [],.sub 0 [] []] (by kernel_rfl) (by kernel_rfl)
def s_f4_r15:List AOper:=[
 ⟨some 12,(.move (.c (.s (.int .i64 0)))),none⟩]
def s_f4_r15_tale:=hT s_f4_r15 [77] [12] 13 [] [(12,(.c (.s (.int .i64 0))))] [.cc (.s (.int .i64 0))] (by kernel_rfl) (by kernel_rfl)
def s_f4_r16:List AOper:=[
 ⟨some 80,(.move (.t 12)),none⟩,
 ⟨some 81,(.fieldAddr 1 (.t 5)),none⟩,
 ⟨some 82,(.load false 1 (.t 81)),none⟩,
 ⟨some 83,(.move (.t 11)),none⟩,
 ⟨some 84,(.indexAddr 1 (.t 82) (.t 83)),none⟩,
 ⟨some 85,(.load false 1 (.t 84)),none⟩,
 ⟨some 86,(.lenS .s (.t 85)),none⟩,
 ⟨some 87,(.bin .lss (.t 80) (.t 86)),none⟩]
def s_f4_r16_tale:=hT s_f4_r16 [80,81,82,83,84,85,86] [87] 88 [] [(87,(.op (.bin .lss (.t 0) (.t 1)) [(.t 12),(.op (.lenS .s (.t 0)) [(.op (.load false 1 (.t 0)) [(.op (.indexAddr 1 (.t 0) (.t 1)) [(.op (.load false 1 (.t 0)) [(.op (.fieldAddr 1 (.t 0)) [(.t 5)])]),(.t 11)])])])]))] [.tt 12,.sub 0 [1,0,0,0,0] [],.sub 0 [1,0,0,0] [],.tt 11,.sub 0 [1,0,0] [],.sub 0 [1,0] [],.sub 0 [1] [],.sub 0 [] []] (by kernel_rfl) (by kernel_rfl)
def s_f4_r17t1:List AOper:=[⟨none,(.store 1 (.t 96) (.c (.s (.int .i64 (-7))))),none⟩]
def s_f4_r17p0:List AOper:=[⟨some 90,(.fieldAddr 1 (.t 5)),none⟩,⟨some 91,(.load false 1 (.t 90)),none⟩,⟨some 92,(.move (.t 11)),none⟩,⟨some 93,(.indexAddr 1 (.t 91) (.t 92)),none⟩,⟨some 94,(.load false 1 (.t 93)),none⟩,⟨some 95,(.move (.t 12)),none⟩,⟨some 96,(.indexAddr 1 (.t 94) (.t 95)),none⟩]
def s_f4_r17:List AOper:=s_f4_r17p0 ++ s_f4_r17t1
def s_f4_r17p0_tale:=hT s_f4_r17p0 [87,90,91,92,93,94,95] [96] 97 [] [(96,(.op (.indexAddr 1 (.t 0) (.t 1)) [(.op (.load false 1 (.t 0)) [(.op (.indexAddr 1 (.t 0) (.t 1)) [(.op (.load false 1 (.t 0)) [(.op (.fieldAddr 1 (.t 0)) [(.t 5)])]),(.t 11)])]),(.t 12)]))] [.sub 0 [0,0,0,0] [],.sub 0 [0,0,0] [],.tt 11,.sub 0 [0,0] [],.sub 0 [0] [],.tt 12,.sub 0 [] []] (by kernel_rfl) (by kernel_rfl)
def s_f4_r17_x:=hS s_f4_r17 s_f4_r17p0 s_f4_r17t1 [87,90,91,92,93,94,95] [96] [87,90,91,92,93,94,95,96] rfl (by kernel_rfl)
def s_f4_r17t1_x:=hX s_f4_r17t1 [87,90,91,92,93,94,95,96] [⟨none,(.store 1 (.t 96) (.c (.s (.int .i64 (-7))))),none⟩] rfl
def s_f4_r18:List AOper:=[
 ⟨some 88,(.move (.t 12)),none⟩,
 ⟨some 89,(.bin .add (.t 88) (.c (.s (.int .i64 1)))),none⟩,
 ⟨some 12,(.move (.t 89)),none⟩]
def s_f4_r18_tale:=hT s_f4_r18 [88,89] [12] 90 [] [(12,(.op (.bin .add (.t 0) (.c (.s (.int .i64 1)))) [(.t 12),(.c (.s (.int .i64 1)))]))] [.tt 12,.sub 0 [] [],.sub 0 [] []] (by kernel_rfl) (by kernel_rfl)
def s_f4_l2_b:ACode:=
 (.seq (.seq (.regionE s_f4_r16 [80,81,82,83,84,85,86] [87])
 (.cond (.t 87)
 .skip
 (.exit 6)))
 (.seq (.block 7
 (.region s_f4_r17 [] [87,90,91,92,93,94,95,96]))
 (.regionE s_f4_r18 [88,89] [12])))
def s_f4_l2:ACode:=s_f4_l2_b
def s_f4_l2_ev:=hE s_f4_l2 s_f4_l2_b rfl
def s_f4_r19:List AOper:=[
 ⟨some 78,(.move (.t 11)),none⟩,
 ⟨some 79,(.bin .add (.t 78) (.c (.s (.int .i64 1)))),none⟩,
 ⟨some 11,(.move (.t 79)),none⟩]
def s_f4_r19_tale:=hT s_f4_r19 [12,78,79,87] [11] 80 [] [(11,(.op (.bin .add (.t 0) (.c (.s (.int .i64 1)))) [(.t 11),(.c (.s (.int .i64 1)))]))] [.tt 11,.sub 0 [] [],.sub 0 [] []] (by kernel_rfl) (by kernel_rfl)
def s_f4_l3_b:ACode:=
 (.seq (.seq (.regionE s_f4_r14 [73,74,75,76] [77])
 (.cond (.t 77)
 .skip
 (.exit 4)))
 (.seq (.block 5
 (.seq (.regionE s_f4_r15 [77] [12])
 (.block 6
 (.loop [] s_f4_l2))))
 (.regionE s_f4_r19 [12,78,79,87] [11])))
def s_f4_l3:ACode:=s_f4_l3_b
def s_f4_l3_ev:=hE s_f4_l3 s_f4_l3_b rfl
def s_f4_r20t2:List AOper:=[⟨some 13,(.move (.t 98)),none⟩]
def s_f4_r20p1:List AOper:=[⟨some 98,(.call (.c (.fn 8 [] [])) [(.t 97)]),none⟩]
def s_f4_r20t1:List AOper:=s_f4_r20p1 ++ s_f4_r20t2
def s_f4_r20p0:List AOper:=[⟨some 97,(.load true 8 (.t 3)),none⟩]
def s_f4_r20:List AOper:=s_f4_r20p0 ++ s_f4_r20t1
def s_f4_r20p0_tale:=hT s_f4_r20p0 [5,11,77] [97] 98 [] [(97,(.op (.load true 8 (.t 0)) [(.t 3)]))] [.sub 0 [] []] (by kernel_rfl) (by kernel_rfl)
def s_f4_r20_x:=hS s_f4_r20 s_f4_r20p0 s_f4_r20t1 [5,11,77] [97] [5,11,77,97,98] rfl (by kernel_rfl)
def s_f4_r20t1_x:=hO s_f4_r20t1 s_f4_r20p1 s_f4_r20t2 [97] [5,11,77,97,98] [⟨some 98,(.call (.c (.fn 8 [] [])) [(.t 97)]),none⟩] rfl rfl (by kernel_rfl)
def s_f4_r20t2_tale:=hT s_f4_r20t2 [5,11,77,97,98] [13] 14 [] [(13,(.t 98))] [.tt 98] (by kernel_rfl) (by kernel_rfl)
def s_f4_r20t2_x:=hL s_f4_r20t2 [5,11,77,97,98] [13]
def s_f4_r21t2:List AOper:=[⟨some 14,(.move (.t 100)),none⟩]
def s_f4_r21p1:List AOper:=[⟨some 100,(.call (.c (.fn 8 [] [])) [(.t 99)]),none⟩]
def s_f4_r21t1:List AOper:=s_f4_r21p1 ++ s_f4_r21t2
def s_f4_r21p0:List AOper:=[⟨some 99,(.load true 8 (.t 3)),none⟩]
def s_f4_r21:List AOper:=s_f4_r21p0 ++ s_f4_r21t1
def s_f4_r21p0_tale:=hT s_f4_r21p0 [] [99] 100 [] [(99,(.op (.load true 8 (.t 0)) [(.t 3)]))] [.sub 0 [] []] (by kernel_rfl) (by kernel_rfl)
def s_f4_r21_x:=hS s_f4_r21 s_f4_r21p0 s_f4_r21t1 [] [99] [99,100] rfl (by kernel_rfl)
def s_f4_r21t1_x:=hO s_f4_r21t1 s_f4_r21p1 s_f4_r21t2 [99] [99,100] [⟨some 100,(.call (.c (.fn 8 [] [])) [(.t 99)]),none⟩] rfl rfl (by kernel_rfl)
def s_f4_r21t2_tale:=hT s_f4_r21t2 [99,100] [14] 15 [] [(14,(.t 100))] [.tt 100] (by kernel_rfl) (by kernel_rfl)
def s_f4_r21t2_x:=hL s_f4_r21t2 [99,100] [14]
def s_f4_r22:List AOper:=[
 ⟨some 15,(.move (.c (.s (.int .i64 0)))),none⟩]
def s_f4_r22_tale:=hT s_f4_r22 [] [15] 16 [] [(15,(.c (.s (.int .i64 0))))] [.cc (.s (.int .i64 0))] (by kernel_rfl) (by kernel_rfl)
def s_f4_r23:List AOper:=[
 ⟨some 101,(.move (.t 15)),none⟩,
 ⟨some 102,(.move (.t 13)),none⟩,
 ⟨some 103,(.lenS .s (.t 102)),none⟩,
 ⟨some 104,(.bin .lss (.t 101) (.t 103)),none⟩]
def s_f4_r23_tale:=hT s_f4_r23 [101,102,103] [104] 105 [] [(104,(.op (.bin .lss (.t 0) (.t 1)) [(.t 15),(.op (.lenS .s (.t 0)) [(.t 13)])]))] [.tt 15,.tt 13,.sub 0 [1] [],.sub 0 [] []] (by kernel_rfl) (by kernel_rfl)
def s_f4_r24t1:List AOper:=[⟨none,(.store 1 (.t 109) (.c (.s (.string ⟨#[115,112,111,105,108,116]⟩)))),none⟩]
def s_f4_r24p0:List AOper:=[⟨some 107,(.move (.t 13)),none⟩,⟨some 108,(.move (.t 15)),none⟩,⟨some 109,(.indexAddr 1 (.t 107) (.t 108)),none⟩]
def s_f4_r24:List AOper:=s_f4_r24p0 ++ s_f4_r24t1
def s_f4_r24p0_tale:=hT s_f4_r24p0 [104,107,108] [109] 110 [] [(109,(.op (.indexAddr 1 (.t 0) (.t 1)) [(.t 13),(.t 15)]))] [.tt 13,.tt 15,.sub 0 [] []] (by kernel_rfl) (by kernel_rfl)
def s_f4_r24_x:=hS s_f4_r24 s_f4_r24p0 s_f4_r24t1 [104,107,108] [109] [104,107,108,109] rfl (by kernel_rfl)
def s_f4_r24t1_x:=hX s_f4_r24t1 [104,107,108,109] [⟨none,(.store 1 (.t 109) (.c (.s (.string ⟨#[115,112,111,105,108,116]⟩)))),none⟩] rfl
def s_f4_r25:List AOper:=[
 ⟨some 105,(.move (.t 15)),none⟩,
 ⟨some 106,(.bin .add (.t 105) (.c (.s (.int .i64 1)))),none⟩,
 ⟨some 15,(.move (.t 106)),none⟩]
def s_f4_r25_tale:=hT s_f4_r25 [105,106] [15] 107 [] [(15,(.op (.bin .add (.t 0) (.c (.s (.int .i64 1)))) [(.t 15),(.c (.s (.int .i64 1)))]))] [.tt 15,.sub 0 [] [],.sub 0 [] []] (by kernel_rfl) (by kernel_rfl)
def s_f4_l4_b:ACode:=
 (.seq (.seq (.regionE s_f4_r23 [101,102,103] [104])
 (.cond (.t 104)
 .skip
 (.exit 8)))
 (.seq (.block 9
 (.region s_f4_r24 [] [104,107,108,109]))
 (.regionE s_f4_r25 [105,106] [15])))
def s_f4_l4:ACode:=s_f4_l4_b
def s_f4_l4_ev:=hE s_f4_l4 s_f4_l4_b rfl
def s_f4_r26t2:List AOper:=[⟨some 16,(.move (.t 111)),none⟩]
def s_f4_r26p1:List AOper:=[⟨some 111,(.call (.c (.fn 8 [] [])) [(.t 110)]),none⟩]
def s_f4_r26t1:List AOper:=s_f4_r26p1 ++ s_f4_r26t2
def s_f4_r26p0:List AOper:=[⟨some 110,(.load true 8 (.t 3)),none⟩]
def s_f4_r26:List AOper:=s_f4_r26p0 ++ s_f4_r26t1
def s_f4_r26p0_tale:=hT s_f4_r26p0 [3,13,15,104] [110] 111 [] [(110,(.op (.load true 8 (.t 0)) [(.t 3)]))] [.sub 0 [] []] (by kernel_rfl) (by kernel_rfl)
def s_f4_r26_x:=hS s_f4_r26 s_f4_r26p0 s_f4_r26t1 [3,13,15,104] [110] [3,13,15,104,110,111] rfl (by kernel_rfl)
def s_f4_r26t1_x:=hO s_f4_r26t1 s_f4_r26p1 s_f4_r26t2 [110] [3,13,15,104,110,111] [⟨some 111,(.call (.c (.fn 8 [] [])) [(.t 110)]),none⟩] rfl rfl (by kernel_rfl)
def s_f4_r26t2_tale:=hT s_f4_r26t2 [3,13,15,104,110,111] [16] 17 [] [(16,(.t 111))] [.tt 111] (by kernel_rfl) (by kernel_rfl)
def s_f4_r26t2_x:=hL s_f4_r26t2 [3,13,15,104,110,111] [16]
def s_f4_r27:List AOper:=[
 ⟨some 17,(.move (.c (.s (.int .i64 0)))),none⟩]
def s_f4_r27_tale:=hT s_f4_r27 [] [17] 18 [] [(17,(.c (.s (.int .i64 0))))] [.cc (.s (.int .i64 0))] (by kernel_rfl) (by kernel_rfl)
def s_f4_r28:List AOper:=[
 ⟨some 112,(.move (.t 17)),none⟩,
 ⟨some 113,(.move (.t 14)),none⟩,
 ⟨some 114,(.lenS .s (.t 113)),none⟩,
 ⟨some 115,(.bin .lss (.t 112) (.t 114)),none⟩]
def s_f4_r28_tale:=hT s_f4_r28 [112,113,114] [115] 116 [] [(115,(.op (.bin .lss (.t 0) (.t 1)) [(.t 17),(.op (.lenS .s (.t 0)) [(.t 14)])]))] [.tt 17,.tt 14,.sub 0 [1] [],.sub 0 [] []] (by kernel_rfl) (by kernel_rfl)
def s_f4_r29:List AOper:=[
 ⟨some 118,(.move (.t 14)),none⟩,
 ⟨some 119,(.move (.t 17)),none⟩,
 ⟨some 120,(.indexAddr 1 (.t 118) (.t 119)),none⟩,
 ⟨some 121,(.load false 1 (.t 120)),none⟩,
 ⟨some 122,(.move (.t 16)),none⟩,
 ⟨some 123,(.move (.t 17)),none⟩,
 ⟨some 124,(.indexAddr 1 (.t 122) (.t 123)),none⟩,
 ⟨some 125,(.load false 1 (.t 124)),none⟩,
 ⟨some 126,(.bin .neq (.t 121) (.t 125)),none⟩]
def s_f4_r29_tale:=hT s_f4_r29 [115,118,119,120,121,122,123,124,125] [126] 127 [] [(126,(.op (.bin .neq (.t 0) (.t 1)) [(.op (.load false 1 (.t 0)) [(.op (.indexAddr 1 (.t 0) (.t 1)) [(.t 14),(.t 17)])]),(.op (.load false 1 (.t 0)) [(.op (.indexAddr 1 (.t 0) (.t 1)) [(.t 16),(.t 17)])])]))] [.tt 14,.tt 17,.sub 0 [0,0] [],.sub 0 [0] [],.tt 16,.tt 17,.sub 0 [1,0] [],.sub 0 [1] [],.sub 0 [] []] (by kernel_rfl) (by kernel_rfl)
def s_f4_r30:List AOper:=[
 ⟨some 4,(.move (.c (.s (.bool false)))),none⟩]
def s_f4_r30_tale:=hT s_f4_r30 [2,7,14,16,17,126] [4] 5 [] [(4,(.c (.s (.bool false))))] [.cc (.s (.bool false))] (by kernel_rfl) (by kernel_rfl)
def s_f4_r31:List AOper:=[
 ⟨some 116,(.move (.t 17)),none⟩,
 ⟨some 117,(.bin .add (.t 116) (.c (.s (.int .i64 1)))),none⟩,
 ⟨some 17,(.move (.t 117)),none⟩]
def s_f4_r31_tale:=hT s_f4_r31 [116,117,126] [17] 118 [] [(17,(.op (.bin .add (.t 0) (.c (.s (.int .i64 1)))) [(.t 17),(.c (.s (.int .i64 1)))]))] [.tt 17,.sub 0 [] [],.sub 0 [] []] (by kernel_rfl) (by kernel_rfl)
def s_f4_l5_b:ACode:=
 (.seq (.seq (.regionE s_f4_r28 [112,113,114] [115])
 (.cond (.t 115)
 .skip
 (.exit 10)))
 (.seq (.block 11
 (.seq (.regionE s_f4_r29 [115,118,119,120,121,122,123,124,125] [126])
 (.cond (.t 126)
 (.seq (.regionE s_f4_r30 [2,7,14,16,17,126] [4])
 .ret)
 .skip)))
 (.regionE s_f4_r31 [116,117,126] [17])))
def s_f4_l5:ACode:=s_f4_l5_b
def s_f4_l5_ev:=hE s_f4_l5 s_f4_l5_b rfl
def s_f4_r32t5:List AOper:=[⟨some 19,(.move (.t 131)),none⟩]
def s_f4_r32p4:List AOper:=[⟨none,(.store 2 (.t 18) (.t 130)),none⟩]
def s_f4_r32t4:List AOper:=s_f4_r32p4 ++ s_f4_r32t5
def s_f4_r32p3:List AOper:=[⟨some 18,(.alloc [(.s (.slice none 0 0)),(.s (.slice none 0 0))]),none⟩]
def s_f4_r32t3:List AOper:=s_f4_r32p3 ++ s_f4_r32t4
def s_f4_r32p2:List AOper:=[⟨some 127,(.move (.t 129)),none⟩,⟨some 130,(.extract (.t 127) 0),none⟩,⟨some 131,(.extract (.t 127) 1),none⟩]
def s_f4_r32t2:List AOper:=s_f4_r32p2 ++ s_f4_r32t3
def s_f4_r32p1:List AOper:=[⟨some 129,(.call (.c (.fn 13 [] [])) [(.t 128)]),none⟩]
def s_f4_r32t1:List AOper:=s_f4_r32p1 ++ s_f4_r32t2
def s_f4_r32p0:List AOper:=[⟨some 128,(.load true 3 (.t 2)),none⟩]
def s_f4_r32:List AOper:=s_f4_r32p0 ++ s_f4_r32t1
def s_f4_r32p0_tale:=hT s_f4_r32p0 [2,14,16,17,115] [128] 129 [] [(128,(.op (.load true 3 (.t 0)) [(.t 2)]))] [.sub 0 [] []] (by kernel_rfl) (by kernel_rfl)
def s_f4_r32_x:=hS s_f4_r32 s_f4_r32p0 s_f4_r32t1 [2,14,16,17,115] [128] [2,14,16,17,19,115,127,128,129,130,131] rfl (by kernel_rfl)
def s_f4_r32t1_x:=hO s_f4_r32t1 s_f4_r32p1 s_f4_r32t2 [128] [2,14,16,17,19,115,127,128,129,130,131] [⟨some 129,(.call (.c (.fn 13 [] [])) [(.t 128)]),none⟩] rfl rfl (by kernel_rfl)
def s_f4_r32p2_tale:=hT s_f4_r32p2 [127,129] [130,131] 132 [] [(130,(.op (.extract (.t 0) 0) [(.t 129)])),(131,(.op (.extract (.t 0) 1) [(.t 129)]))] [.tt 129,.sub 0 [] [],.sub 1 [] []] (by kernel_rfl) (by kernel_rfl)
def s_f4_r32t2_x:=hS s_f4_r32t2 s_f4_r32p2 s_f4_r32t3 [127,129] [130,131] [2,14,16,17,19,115,127,128,129,130,131] rfl (by kernel_rfl)
def s_f4_r32t3_x:=hO s_f4_r32t3 s_f4_r32p3 s_f4_r32t4 [] [2,14,16,17,19,115,127,128,129,130,131] [⟨some 18,(.alloc [(.s (.slice none 0 0)),(.s (.slice none 0 0))]),none⟩] rfl rfl (by kernel_rfl)
def s_f4_r32t4_x:=hO s_f4_r32t4 s_f4_r32p4 s_f4_r32t5 [130] [2,14,16,17,19,115,127,128,129,130,131] [⟨none,(.store 2 (.t 18) (.t 130)),none⟩] rfl rfl (by kernel_rfl)
def s_f4_r32t5_tale:=hT s_f4_r32t5 [2,14,16,17,19,115,127,128,129,130,131] [] 20 [] [] [.tt 131] (by kernel_rfl) (by kernel_rfl)
def s_f4_r32t5_x:=hL s_f4_r32t5 [2,14,16,17,19,115,127,128,129,130,131] []
def s_f4_r33t10:List AOper:=[⟨some 146,(.pick (.t 144) (.t 145) (.c (.s (.bool false)))),none⟩,⟨some 4,(.move (.t 146)),none⟩]
def s_f4_r33p9:List AOper:=[⟨some 145,(.call (.c (.fn 11 [] [])) []),some (144,true)⟩]
def s_f4_r33t9:List AOper:=s_f4_r33p9 ++ s_f4_r33t10
def s_f4_r33p8:List AOper:=[⟨some 143,(.pick (.t 137) (.t 142) (.c (.s (.bool false)))),none⟩,⟨some 144,(.move (.t 143)),none⟩]
def s_f4_r33t8:List AOper:=s_f4_r33p8 ++ s_f4_r33t9
def s_f4_r33p7:List AOper:=[⟨some 142,(.call (.c (.fn 14 [] [])) [(.t 139),(.t 141)]),some (137,true)⟩]
def s_f4_r33t7:List AOper:=s_f4_r33p7 ++ s_f4_r33t8
def s_f4_r33p6:List AOper:=[⟨some 141,(.load false 1 (.t 140)),some (137,true)⟩]
def s_f4_r33t6:List AOper:=s_f4_r33p6 ++ s_f4_r33t7
def s_f4_r33p5:List AOper:=[⟨some 140,(.fieldAddr 1 (.t 18)),some (137,true)⟩]
def s_f4_r33t5:List AOper:=s_f4_r33p5 ++ s_f4_r33t6
def s_f4_r33p4:List AOper:=[⟨some 139,(.load false 1 (.t 138)),some (137,true)⟩]
def s_f4_r33t4:List AOper:=s_f4_r33p4 ++ s_f4_r33t5
def s_f4_r33p3:List AOper:=[⟨some 138,(.fieldAddr 1 (.t 7)),some (137,true)⟩]
def s_f4_r33t3:List AOper:=s_f4_r33p3 ++ s_f4_r33t4
def s_f4_r33p2:List AOper:=[⟨some 137,(.move (.t 136)),none⟩]
def s_f4_r33t2:List AOper:=s_f4_r33p2 ++ s_f4_r33t3
def s_f4_r33p1:List AOper:=[⟨some 136,(.call (.c (.fn 14 [] [])) [(.t 133),(.t 135)]),none⟩]
def s_f4_r33t1:List AOper:=s_f4_r33p1 ++ s_f4_r33t2
def s_f4_r33p0:List AOper:=[⟨some 132,(.fieldAddr 0 (.t 7)),none⟩,⟨some 133,(.load false 1 (.t 132)),none⟩,⟨some 134,(.fieldAddr 0 (.t 18)),none⟩,⟨some 135,(.load false 1 (.t 134)),none⟩]
def s_f4_r33:List AOper:=s_f4_r33p0 ++ s_f4_r33t1
def s_f4_r33p0_tale:=hT s_f4_r33p0 [132,134] [133,135] 136 [] [(133,(.op (.load false 1 (.t 0)) [(.op (.fieldAddr 0 (.t 0)) [(.t 7)])])),(135,(.op (.load false 1 (.t 0)) [(.op (.fieldAddr 0 (.t 0)) [(.t 18)])]))] [.sub 0 [0] [],.sub 0 [] [],.sub 1 [0] [],.sub 1 [] []] (by kernel_rfl) (by kernel_rfl)
def s_f4_r33_x:=hS s_f4_r33 s_f4_r33p0 s_f4_r33t1 [132,134] [133,135] [7,18,132,133,134,135,136,137,138,139,140,141,142,143,144,145,146] rfl (by kernel_rfl)
def s_f4_r33t1_x:=hO s_f4_r33t1 s_f4_r33p1 s_f4_r33t2 [133,135] [7,18,132,133,134,135,136,137,138,139,140,141,142,143,144,145,146] [⟨some 136,(.call (.c (.fn 14 [] [])) [(.t 133),(.t 135)]),none⟩] rfl rfl (by kernel_rfl)
def s_f4_r33p2_tale:=hT s_f4_r33p2 [136] [137] 138 [] [(137,(.t 136))] [.tt 136] (by kernel_rfl) (by kernel_rfl)
def s_f4_r33t2_x:=hS s_f4_r33t2 s_f4_r33p2 s_f4_r33t3 [136] [137] [7,18,132,133,134,135,136,137,138,139,140,141,142,143,144,145,146] rfl (by kernel_rfl)
def s_f4_r33t3_x:=hO s_f4_r33t3 s_f4_r33p3 s_f4_r33t4 [7] [7,18,132,133,134,135,136,137,138,139,140,141,142,143,144,145,146] [⟨some 138,(.fieldAddr 1 (.t 7)),some (137,true)⟩] rfl rfl (by kernel_rfl)
def s_f4_r33t4_x:=hO s_f4_r33t4 s_f4_r33p4 s_f4_r33t5 [138] [7,18,132,133,134,135,136,137,138,139,140,141,142,143,144,145,146] [⟨some 139,(.load false 1 (.t 138)),some (137,true)⟩] rfl rfl (by kernel_rfl)
def s_f4_r33t5_x:=hO s_f4_r33t5 s_f4_r33p5 s_f4_r33t6 [18] [7,18,132,133,134,135,136,137,138,139,140,141,142,143,144,145,146] [⟨some 140,(.fieldAddr 1 (.t 18)),some (137,true)⟩] rfl rfl (by kernel_rfl)
def s_f4_r33t6_x:=hO s_f4_r33t6 s_f4_r33p6 s_f4_r33t7 [140] [7,18,132,133,134,135,136,137,138,139,140,141,142,143,144,145,146] [⟨some 141,(.load false 1 (.t 140)),some (137,true)⟩] rfl rfl (by kernel_rfl)
def s_f4_r33t7_x:=hO s_f4_r33t7 s_f4_r33p7 s_f4_r33t8 [139,141] [7,18,132,133,134,135,136,137,138,139,140,141,142,143,144,145,146] [⟨some 142,(.call (.c (.fn 14 [] [])) [(.t 139),(.t 141)]),some (137,true)⟩] rfl rfl (by kernel_rfl)
def s_f4_r33p8_tale:=hT s_f4_r33p8 [137,142,143] [144] 145 [] [(144,(.pick (.t 137) (.t 142) (.c (.s (.bool false)))))] [.sub 0 [] [],.sub 0 [] []] (by kernel_rfl) (by kernel_rfl)
def s_f4_r33t8_x:=hS s_f4_r33t8 s_f4_r33p8 s_f4_r33t9 [137,142,143] [144] [7,18,132,133,134,135,136,137,138,139,140,141,142,143,144,145,146] rfl (by kernel_rfl)
def s_f4_r33t9_x:=hO s_f4_r33t9 s_f4_r33p9 s_f4_r33t10 [] [7,18,132,133,134,135,136,137,138,139,140,141,142,143,144,145,146] [⟨some 145,(.call (.c (.fn 11 [] [])) []),some (144,true)⟩] rfl rfl (by kernel_rfl)
def s_f4_r33t10_tale:=hT s_f4_r33t10 [7,18,132,133,134,135,136,137,138,139,140,141,142,143,144,145,146] [4] 147 [] [(4,(.pick (.t 144) (.t 145) (.c (.s (.bool false)))))] [.sub 0 [] [],.sub 0 [] []] (by kernel_rfl) (by kernel_rfl)
def s_f4_r33t10_x:=hL s_f4_r33t10 [7,18,132,133,134,135,136,137,138,139,140,141,142,143,144,145,146] [4]
def s_f4:ACFun:={ ntmps:=147,results:=[(.tmp 4)],body:=
 (.seq (.region s_f4_r0 [] s_f4_r0_k)
 (.seq (.seq (.region s_f4_r1 [] [20,21,22,23,24,25,26])
 (.cond (.t 27)
 (.seq (.regionE s_f4_r2 [2,3,27] [4])
 .ret)
 .skip))
 (.seq (.region s_f4_r3 [] [6,27,28,29,30,31,32])
 (.seq (.region s_f4_r4 [] [8,33,34,35,36,37])
 (.seq (.seq (.regionE s_f4_r5 [] [9])
 (.block 0
 (.loop [] s_f4_l1)))
 (.seq (.seq (.regionE s_f4_r13 [9,42] [11])
 (.block 4
 (.loop [] s_f4_l3)))
 (.seq (.region s_f4_r20 [] [5,11,77,97,98])
 (.seq (.region s_f4_r21 [] [99,100])
 (.seq (.seq (.regionE s_f4_r22 [] [15])
 (.block 8
 (.loop [] s_f4_l4)))
 (.seq (.region s_f4_r26 [] [3,13,15,104,110,111])
 (.seq (.seq (.regionE s_f4_r27 [] [17])
 (.block 10
 (.loop [] s_f4_l5)))
 (.seq (.region s_f4_r32 [] [2,14,16,17,19,115,127,128,129,130,131])
 (.seq (.region s_f4_r33 [] [7,18,132,133,134,135,136,137,138,139,140,141,142,143,144,145,146])
 .ret))))))))))))) }
theorem s_f4_first:firstOk (List.range' 2 (s_f4.ntmps - 2)) s_f4.body=true:=by kernel_rfl
def a_f4:=ai @s_f4_r0p0_k_kA0 (ai @s_f4_r0p0_k_kA1 (ai @s_f4_r0p0_k_kA2 (ai @s_f4_r0p0_k_kA3 (ai @s_f4_r0p0_k_kA4 (ai @s_f4_r0_x (ai @s_f4_r0t1_x (ai @s_f4_r0t2_tale (ai @s_f4_r0t2_x (ai @s_f4_r0_k_kA0 (ai @s_f4_r0_k_kA1 (ai @s_f4_r0_k_kA2 (ai @s_f4_r0_k_kA3 (ai @s_f4_r0_k_kA4 (ai @s_f4_r1p0_tale (ai @s_f4_r1_x (ai @s_f4_r1t1_x (ai @s_f4_r1t2_tale (ai @s_f4_r1t2_x (ai @s_f4_r2_tale (ai @s_f4_r3p0_tale (ai @s_f4_r3_x (ai @s_f4_r3t1_x (ai @s_f4_r3p2_tale (ai @s_f4_r3t2_x (ai @s_f4_r3t3_x (ai @s_f4_r3t4_x (ai @s_f4_r3t5_tale (ai @s_f4_r3t5_x (ai @s_f4_r4p0_tale (ai @s_f4_r4_x (ai @s_f4_r4t1_x (ai @s_f4_r4p2_tale (ai @s_f4_r4t2_x (ai @s_f4_r4t3_x (ai @s_f4_r4t4_x (ai @s_f4_r4t5_tale (ai @s_f4_r4t5_x (ai @s_f4_r5_tale (ai @s_f4_r6_tale (ai @s_f4_r7_tale (ai @s_f4_r8_tale (ai @s_f4_r9p0_tale (ai @s_f4_r9_x (ai @s_f4_r9t1_x (ai @s_f4_r10_tale (ai @s_f4_l0_ev (ai @s_f4_r12_tale (ai @s_f4_l1_ev (ai @s_f4_r13_tale (ai @s_f4_r14_tale (ai @s_f4_r15_tale (ai @s_f4_r16_tale (ai @s_f4_r17p0_tale (ai @s_f4_r17_x (ai @s_f4_r17t1_x (ai @s_f4_r18_tale (ai @s_f4_l2_ev (ai @s_f4_r19_tale (ai @s_f4_l3_ev (ai @s_f4_r20p0_tale (ai @s_f4_r20_x (ai @s_f4_r20t1_x (ai @s_f4_r20t2_tale (ai @s_f4_r20t2_x (ai @s_f4_r21p0_tale (ai @s_f4_r21_x (ai @s_f4_r21t1_x (ai @s_f4_r21t2_tale (ai @s_f4_r21t2_x (ai @s_f4_r22_tale (ai @s_f4_r23_tale (ai @s_f4_r24p0_tale (ai @s_f4_r24_x (ai @s_f4_r24t1_x (ai @s_f4_r25_tale (ai @s_f4_l4_ev (ai @s_f4_r26p0_tale (ai @s_f4_r26_x (ai @s_f4_r26t1_x (ai @s_f4_r26t2_tale (ai @s_f4_r26t2_x (ai @s_f4_r27_tale (ai @s_f4_r28_tale (ai @s_f4_r29_tale (ai @s_f4_r30_tale (ai @s_f4_r31_tale (ai @s_f4_l5_ev (ai @s_f4_r32p0_tale (ai @s_f4_r32_x (ai @s_f4_r32t1_x (ai @s_f4_r32p2_tale (ai @s_f4_r32t2_x (ai @s_f4_r32t3_x (ai @s_f4_r32t4_x (ai @s_f4_r32t5_tale (ai @s_f4_r32t5_x (ai @s_f4_r33p0_tale (ai @s_f4_r33_x (ai @s_f4_r33t1_x (ai @s_f4_r33p2_tale (ai @s_f4_r33t2_x (ai @s_f4_r33t3_x (ai @s_f4_r33t4_x (ai @s_f4_r33t5_x (ai @s_f4_r33t6_x (ai @s_f4_r33t7_x (ai @s_f4_r33p8_tale (ai @s_f4_r33t8_x (ai @s_f4_r33t9_x (ai @s_f4_r33t10_tale (@s_f4_r33t10_x)))))))))))))))))))))))))))))))))))))))))))))))))))))))))))))))))))))))))))))))))))))))))))))))))))))))))))))))
theorem GA4_4:compK Try.prog PX0 4=some (false,s_f4.ntmps,s_f4.results,s_f4.body.bare):=by kernel_rfl
end Go.Proofs.Ytgimjihhlhjejaa
set_option maxRecDepth 100000
namespace Go.Proofs.Ytgimjihhlhjejaa
open Go.AM
section
variable {CT:Nat→Option CFun}
theorem rows_l0 (base:Nat) {H:Heap} {a b:V} {R:List (List Int)} (ha:RdRows H a (rowsV R)) (hb:RdRows H b (rowsV R)) {i:Nat} (hi:i < R.length) (hn:(R.getD i []).length < 2 ^ 40):
 itW (evC (callW CT) itW base s_f14_l0) [] H.length (frOf 53 [(0,a),(1,b),(5,I i),(6,I 0)]) H=some (.ext 2,frOf 53 [(0,a),(1,b),(5,I i),(6,I (R.getD i []).length),(35,bl false)],H):=by
 obtain ⟨ra,rv,r1,r2,r3,r4⟩:=rows_at ha (some_getD hi [])
 obtain ⟨sa,sv,s1,s2,s3,s4⟩:=rows_at hb (some_getD hi [])
 have hl:=iV_len r3
 obtain ⟨row,hrow⟩:∃ row,R.getD i []=row:=⟨_,rfl⟩
 rw [hrow] at r3 s3 hl hn ⊢
 have hst:=it_fun row.length (fun k=>itW (evC (callW CT) itW base s_f14_l0) [] H.length (frOf 53 [(0,a),(1,b),(5,I i),(6,I k)]) H) (by
  intro k hk
  have hlt':((k:Int) < (row.length:Int)):=by omega
  have hwk:=w64 (n:=k) (by omega)
  obtain ⟨e0,e1,e2⟩:=iV_at r3 r4 (some_getD hk (0:Int))
  obtain ⟨f0,f1,f2⟩:=iV_at s3 s4 (some_getD hk (0:Int))
  have hne:(row.getD k 0 != row.getD k 0)=false:=by simp
  rw [itW_step]
  simp only [I,a_f14,s_f14_l0_b,s_f14_l1_b,aa,bl,i64,reduceIte,reduceCtorEq,Nat.reduceEqDiff,Nat.reduceLT,Nat.reduceLeDiff,Nat.reduceBEq,Nat.reduceAdd,fillA,splice,Nat.reduceMul,amY,op_eqP,hlt',r1,r2,hl,s1,s2,e1,e2,f1,f2,hne,hwk,trim_same rfl]) 0 (Nat.zero_le _)
 rw [cast0] at hst
 refine hst.trans ?_
 rw [itW_step]
 simp only [I,bl,a_f14,s_f14_l0_b,s_f14_l1_b,aa,bl,i64,reduceIte,reduceCtorEq,Nat.reduceEqDiff,Nat.reduceLT,Nat.reduceLeDiff,Nat.reduceBEq,Nat.reduceAdd,fillA,splice,Nat.reduceMul,amY,op_eqP,r1,r2,hl,Int.lt_irrefl,trim_same rfl]
theorem rows_true (hT:CT k_f14=some (.code s_f14)) (base:Nat) (H:Heap) {a b:V} {R:List (List Int)} (ha:RdRows H a (rowsV R)) (hb:RdRows H b (rowsV R)) (hn:R.length < 2 ^ 40) (hr:∀ r∈R,r.length < 2 ^ 40):
 callW CT (.fn k_f14 [] []) [a,b] base H=some (.s (.bool true),H):=by
 have hal:=rows_lenV ha
 have hbl:=rows_lenV hb
 have hst:=it_fun R.length (fun i=>itW (evC (callW CT) itW base s_f14_l1) [] H.length (frOf 53 [(0,a),(1,b),(5,I i)]) H) (by
  intro i hi
  have hlt':((i:Int) < (R.length:Int)):=by omega
  have hwk:=w64 (n:=i) (by omega)
  obtain ⟨ra,rv,r1,r2,r3,r4⟩:=rows_at ha (some_getD hi [])
  obtain ⟨sa,sv,s1,s2,s3,s4⟩:=rows_at hb (some_getD hi [])
  have hl:=iV_len r3
  have hl2:=iV_len s3
  have h0:=rows_l0 (CT:=CT) base ha hb hi (hr _ (List.mem_of_getElem? (some_getD hi [])))
  have hne:(((R.getD i []).length:Int) != ((R.getD i []).length:Int))=false:=by simp
  rw [itW_step]
  simp only [I,bl] at h0
  simp only [I,a_f14,s_f14_l0_b,s_f14_l1_b,aa,bl,i64,reduceIte,reduceCtorEq,Nat.reduceEqDiff,Nat.reduceLT,Nat.reduceLeDiff,Nat.reduceBEq,Nat.reduceAdd,fillA,splice,Nat.reduceMul,amY,op_eqP,hal,hlt',r1,r2,hl,s1,s2,hl2,hne,h0,hwk,trim_same rfl]) 0 (Nat.zero_le _)
 have hend:itW (evC (callW CT) itW base s_f14_l1) [] H.length (frOf 53 [(0,a),(1,b),(5,I R.length)]) H=some (.ext 0,frOf 53 [(0,a),(1,b),(5,I R.length),(15,bl false)],H):=by
  rw [itW_step]
  simp only [I,bl,a_f14,s_f14_l0_b,s_f14_l1_b,aa,bl,i64,reduceIte,reduceCtorEq,Nat.reduceEqDiff,Nat.reduceLT,Nat.reduceLeDiff,Nat.reduceBEq,Nat.reduceAdd,fillA,splice,Nat.reduceMul,amY,op_eqP,hal,Int.lt_irrefl,trim_same rfl]
 have h4:=hst.trans hend
 have hne:((R.length:Int) != (R.length:Int))=false:=by simp
 refine callW_fn (c:=s_f14) hT (by simp [s_f14]) ?_
 simp only [I,bl,cast0] at h4
 simp only [s_f14,a_f14,s_f14_l0_b,s_f14_l1_b,aa,bl,i64,reduceIte,reduceCtorEq,Nat.reduceEqDiff,Nat.reduceLT,Nat.reduceLeDiff,Nat.reduceBEq,Nat.reduceAdd,fillA,splice,Nat.reduceMul,amY,op_eqP,hal,hbl,hne,h4]
end
def MutL (lo hi o n:Nat) (D0 D:Heap) (lens:List Nat):Prop:=∃ m' vs R,o < m'∧m'≤D0.length∧lo≤o∧o < hi∧hi≤D0.length∧R.length=n∧R.map List.length=lens∧D0.length≤D.length∧(∀ id,id < D0.length→id < lo∨hi≤id→D[id]?=D0[id]?)∧getC D o 0=some vs∧BagO m' D vs R∧(∀ (j id g k:Nat),vs[j]?=some (.sl id g 0 k 1)→lo≤id∧(id < hi∨D0.length≤id))∧∀ (j:Nat) (x:V),vs[j]?=some x→x=nilS∨x=.esl∨∃ id g k,x=.sl id g 0 k 1
theorem own_shape {m:Nat} {H:Heap} {v:V} {l:List V} (h:OwnN m H v l):v=nilS∨v=.esl∨∃ id g k,v=.sl id g 0 k 1:=by
 rcases h with ⟨_,h | h⟩ | ⟨id,g,c,rfl,_⟩
 ·exact .inl h
 ·exact .inr (.inl h)
 ·exact .inr (.inr ⟨_,_,_,rfl⟩)
theorem MutL.start {lo hi:Nat} {D0:Heap} {o m':Nat} {vs:List V} {R:List (List V)} (ho:o < m') (hm:m'≤D0.length) (h1:lo≤o) (h2:o < hi) (h3:hi≤D0.length) (hc:getC D0 o 0=some vs) (hB:BagO m' D0 vs R) (hids:∀ (j id g k:Nat),vs[j]?=some (.sl id g 0 k 1)→lo≤id∧id < hi):MutL lo hi o R.length D0 D0 (R.map List.length):=
 ⟨m',vs,R,ho,hm,h1,h2,h3,rfl,rfl,Nat.le_refl _,fun _ _ _=>rfl,hc,hB,fun j id g k h=>⟨(hids j id g k h).1,.inl (hids j id g k h).2⟩,fun j x hx=>by
  have hj:=(List.getElem?_eq_some_iff.1 hx).1
  obtain ⟨y,h1,h2⟩:=hB.2.1 j _ (List.getElem?_eq_getElem (show j < R.length by rw [← hB.1];exact hj))
  rw [hx] at h1
  obtain rfl:=Option.some.inj h1
  exact own_shape h2⟩
theorem MutL.old {lo hi o n:Nat} {D0 D:Heap} {lens:List Nat} (h:MutL lo hi o n D0 D lens):D0.length≤D.length∧∀ id,id < D0.length→id < lo∨hi≤id→D[id]?=D0[id]?:=by
 obtain ⟨m',vs,R,h1,hm',h2,h3,h4,h5,h6,h7,h8,h9,h10,h11,_⟩:=h
 exact ⟨h7,h8⟩
theorem MutL.trim {lo hi o n:Nat} {D0 D:Heap} {lens:List Nat} (h:MutL lo hi o n D0 D lens) {L:Nat} (hL:D0.length≤L) (fr:List V):MutL lo hi o n D0 (Go.AM.trim L fr D) lens:=by
 obtain ⟨m',vs,R,h1,hm',h2,h3,h4,h5,h6,h7,h8,h9,h10,h11,h12⟩:=h
 have hid:∀ id,id < L→(Go.AM.trim L fr D)[id]?=D[id]?:=fun id hid=>trim_id L fr D hid
 refine ⟨m',vs,R,h1,hm',h2,h3,h4,h5,h6,?_,fun id hi1 hi2=>by rw [hid id (by omega)];exact h8 id hi1 hi2,trim_get h9 (by omega),h10.trim h9 (by omega) _,h11,h12⟩
 rcases trim_or L fr D with e | ⟨e,_⟩
 ·rw [e];exact h7
 ·rw [e,List.length_take];omega
theorem MutL.row {lo hi o n base:Nat} {D0 D:Heap} {lens:List Nat} (h:MutL lo hi o n D0 D lens) (hb:base≤lo) {i len:Nat} (hil:lens[i]?=some len) (hlen:len < 2 ^ 40):
 ∃ x,xIndexAddr 1 (.sl o 0 0 n 1) (.s (.int .i64 i))=some (.ref o 0 i)∧xLoad D false 1 (.ref o 0 i)=some x∧xLen D .s x=some (.s (.int .i64 len))∧(∀ (k:Nat) (z:Int),k < len→∃ a D',xIndexAddr 1 x (.s (.int .i64 k))=some a∧storeV D base 1 (.s (.int .i64 z)) a=some D'∧MutL lo hi o n D0 D' lens)∧(∀ z:Int,∃ v' D1 D2,appendV (D ++ [.cells 0 [.s (.int .i64 z)]]) base 1 8 x (.sl D.length 0 0 1 1)=some (v',D1)∧storeV D1 base 1 v' (.ref o 0 i)=some D2∧MutL lo hi o n D0 D2 (lens.set i (len+1)))∧(∀ p,p < D0.length→p < lo∨hi≤p→apartO (some (some p)) (V.appObj x)=true):=by
 obtain ⟨m',vs,R,h1,hm',h2,h3,h4,h5,h6,h7,h8,h9,h10,h11,h12⟩:=h
 have hiR:i < R.length:=by
  have:=(List.getElem?_eq_some_iff.1 hil).1
  rwa [← h6,List.length_map] at this
 have hRi:=some_getD hiR ([]:List V)
 have hRl:(R.getD i []).length=len:=by
  rw [← h6,List.getElem?_map,hRi] at hil
  exact Option.some.inj hil
 obtain ⟨x,hx,hox⟩:=h10.2.1 i _ hRi
 have hxi:=(List.getElem?_eq_some_iff.1 hx).1
 obtain ⟨a1,a2⟩:=at_sl (n:=n) h9 (by omega) hx
 refine ⟨x,a1,a2,by rw [hox.rd.len,hRl],fun k z hk=>?_,fun z=>?_,fun p hp hq=>?_⟩
 ·rcases hox with ⟨e,_⟩ | ⟨id,g,c,e,k1,k2,k3,k4⟩
  ·rw [e] at hRl;simp at hRl;omega
  ·subst e
   rw [hRl] at k2 k3
   have hck:k < c.length:=by omega
   have hid:=h11 i id g _ hx
   have hst:=storeV_at (v:=.s (.int .i64 z)) (base:=base) k1 (by omega) rfl (off:=k) hck
   have hx2:c[k]?=some c[k]:=List.getElem?_eq_getElem hck
   have hT:Touch (V.sl id g 0 (R.getD i []).length 1) (V.sl id g 0 (R.getD i []).length 1) D (D.set id (.cells g (c.set k (.s (.int .i64 z))))):=.inr ⟨id,g,_,_,_,rfl,rfl,rfl⟩
   have hown:OwnN m' (D.set id (.cells g (c.set k (.s (.int .i64 z))))) (V.sl id g 0 (R.getD i []).length 1) ((R.getD i []).set k (.s (.int .i64 z))):=.inr ⟨id,g,c.set k (.s (.int .i64 z)),by rw [List.length_set],getC_put k1,by rw [List.length_set,List.length_set,hRl];exact k2,by rw [List.length_set,List.take_set,hRl,k3],k4⟩
   obtain ⟨t1,t2,_⟩:=h10.touch (i:=i) h1 h9 hx hT (fun id' g' n' e=>by cases e;exact k4) hown
   have hvs:vs.set i (V.sl id g 0 (R.getD i []).length 1)=vs:=by
    apply List.ext_getElem?
    intro j
    by_cases e:i=j
    ·subst e;rw [List.getElem?_set_self hxi,hx]
    ·rw [List.getElem?_set_ne e]
   rw [hvs,getC_same t1] at t2
   refine ⟨.ref id g k,_,?_,hst,m',vs,_,h1,hm',h2,h3,h4,by rw [List.length_set];exact h5,?_,by rw [List.length_set];exact h7,fun id' p1 p2=>?_,t1,t2,h11,h12⟩
   ·rw [hRl];exact (at_sl k1 (by omega) hx2).1
   ·rw [List.map_set,List.length_set,h6,hRl]
    apply List.ext_getElem?
    intro j
    by_cases e:i=j
    ·subst e;rw [List.getElem?_set_self (by have:=(List.getElem?_eq_some_iff.1 hil).1;exact this),hil]
    ·rw [List.getElem?_set_ne e]
   ·rw [List.getElem?_set_ne (by omega)];exact h8 id' p1 p2
 ·obtain ⟨v',D1,q1,q2,q3,q4,q5⟩:=own_append2 (x:=.s (.int .i64 z)) (base:=base) (bytes:=8) hox (by omega) rfl (by rw [hRl];omega) (by omega)
  have hol:=getC_lt h9
  have hox':∀ g k,x≠.sl o g 0 k 1:=fun g k e=>by have:=own_at hox _ _ _ e;omega
  have hc1:getC D1 o 0=some vs:=by
   simp only [getC] at h9 ⊢
   rw [q4 o hol hox'];exact h9
  have hB:=h10.swap h1 hx hRi q2 q4 q5
  refine ⟨v',D1,_,q1,storeV_at hc1 (by omega) q2.one hxi,m',vs.set i v',R.set i (R.getD i [] ++ [.s (.int .i64 z)]),h1,hm',h2,h3,h4,by rw [List.length_set];exact h5,?_,by rw [List.length_set];omega,fun id p1 p2=>?_,getC_put hc1,hB,fun j id g k hj=>?_,fun j y hj=>?_⟩
  ·rw [List.map_set,h6,List.length_append,hRl];rfl
  ·rw [List.getElem?_set_ne (by omega),q4 id (by omega) (fun g k e=>by subst e;have:=h11 i id g k hx;omega)]
   exact h8 id p1 p2
  ·by_cases e:i=j
   ·subst e
    rw [List.getElem?_set_self hxi] at hj
    rcases q5 id g k (Option.some.inj hj) with e2 | ⟨g2,k2,e2⟩
    ·exact ⟨by omega,.inr (by omega)⟩
    ·subst e2;exact h11 i id g2 k2 hx
   ·rw [List.getElem?_set_ne e] at hj
    exact h11 j id g k hj
  ·by_cases e:i=j
   ·subst e
    rw [List.getElem?_set_self hxi] at hj
    rw [← Option.some.inj hj]
    exact own_shape q2
   ·rw [List.getElem?_set_ne e] at hj
    exact h12 j y hj
 ·rcases h12 i x hx with rfl | rfl | ⟨id,g,k,rfl⟩
  ·rfl
  ·rfl
  ·have:=h11 i id g k hx
   simp only [V.appObj,apartO,bne_iff_ne]
   omega
end Go.Proofs.Ytgimjihhlhjejaa
namespace Go.AM
def OwnC (w:Nat) (H:Heap) (v:V) (R:List (List V)):Prop:=(∀ r∈R,r.length=w)∧((R=[]∧(v=nilS∨v=.esl))∨∃ id g c,v=.sl id g 0 R.length w∧getC H id g=some c∧R.length * w≤c.length∧c.take (R.length * w)=R.flatten)
def Off (v:V) (i:Nat):Prop:=∀ id g n w,v=.sl id g 0 n w→id≠i
theorem OwnC.keep {w:Nat} {H H':Heap} {v:V} {R:List (List V)} (h:OwnC w H v R) (hk:∀ id g n,v=.sl id g 0 n w→H'[id]?=H[id]?):OwnC w H' v R:=by
 obtain ⟨hR,h | ⟨id,g,c,rfl,hc,hl,ht⟩⟩:=h
 ·exact ⟨hR,.inl h⟩
 ·refine ⟨hR,.inr ⟨id,g,c,rfl,?_,hl,ht⟩⟩
  unfold getC at hc ⊢
  rw [hk id g _ rfl]
  exact hc
theorem OwnC.lt {w:Nat} {H:Heap} {v:V} {R:List (List V)} (h:OwnC w H v R):∀ id g n,v=.sl id g 0 n w→id < H.length:=by
 obtain ⟨_,⟨_,rfl | rfl⟩ | ⟨id,g,c,rfl,hc,_⟩⟩:=h
 ·intro id g n e;cases e
 ·intro id g n e;cases e
 ·intro id' g' n e
  cases e
  exact getC_lt hc
theorem OwnC.set {w:Nat} {H:Heap} {v:V} {R:List (List V)} (h:OwnC w H v R) {i:Nat} (ho:Off v i) (ob:Ob):OwnC w (H.set i ob) v R:=h.keep fun id g n e=>List.getElem?_set_ne (fun e0=>ho id g n w e e0.symm)
theorem OwnC.app {w:Nat} {H:Heap} {v:V} {R:List (List V)} (h:OwnC w H v R) (G:Heap):OwnC w (H ++ G) v R:=h.keep fun id g n e=>List.getElem?_append_left (h.lt id g n e)
theorem OwnC.len {w:Nat} {H:Heap} {v:V} {R:List (List V)} (h:OwnC w H v R) (H2:Heap):xLen H2 .s v=some (.s (.int .i64 R.length)):=by
 obtain ⟨_,⟨rfl,rfl | rfl⟩ | ⟨id,g,c,rfl,_⟩⟩:=h <;> rfl
theorem OwnC.one {w:Nat} {H:Heap} {v:V} {R:List (List V)} (h:OwnC w H v R):v.one=true:=by
 obtain ⟨_,⟨rfl,rfl | rfl⟩ | ⟨id,g,c,rfl,_⟩⟩:=h <;> rfl
theorem OwnC.at' {w:Nat} {H:Heap} {v:V} {R:List (List V)} (h:OwnC w H v R) {i:Nat} {r:List V} (hr:R[i]?=some r):∃ id g c,v=.sl id g 0 R.length w∧getC H id g=some c∧xIndexAddr w v (.s (.int .i64 (i:Nat)))=some (.ref id g (i * w))∧(c.drop (i * w)).take w=r∧i * w+w≤c.length:=by
 obtain ⟨hR,⟨rfl,_⟩ | ⟨id,g,c,rfl,hc,hl,ht⟩⟩:=h
 ·simp at hr
 ·have hi:=(List.getElem?_eq_some_iff.1 hr).1
  have hg:=rows_get R hR i r hr
  have h1:i * w+w≤R.length * w:=by
   have:=Nat.mul_le_mul_right w (show i+1≤R.length from hi)
   rw [Nat.add_mul,Nat.one_mul] at this
   exact this
  refine ⟨id,g,c,rfl,hc,?_,?_,by omega⟩
  ·rw [xi_sl,if_pos ⟨by omega,by omega,rfl⟩,Int.toNat_natCast,Nat.zero_add]
  ·rw [← hg,← ht,List.drop_take,List.take_take,Nat.min_eq_left (by omega)]
end Go.AM
set_option maxRecDepth 100000
namespace Go.Proofs.Ytgimjihhlhjejaa
open Go.AM
theorem late_r11 (call:CallF) (base:Nat) (fr:List V) (H:Heap) (f:List V) (h:apartO (V.obj? (ev f (.t 62))) (V.appObj (ev f (.t 69)))=true):lateOk call base s_f4_r11 fr H f (1,9)=true:=by
 unfold lateOk
 rw [apartAt_eq]
 simp only [s_f4_r11,List.getD_cons_zero,List.getD_cons_succ,apartP_load_app,h,Bool.true_or]
theorem opsK_some' (kill:List Nat) (f:List V→Bool) (fr:List V) (H:Heap):opsK kill f (some (fr,H))=bif f fr then some (.nrm,killS kill fr,H) else none:=by
 rfl
section
variable {CT:Nat→Option CFun}
theorem own_l0 (base:Nat) {D0:Heap} {h p5 p7 lo hi o n i len L:Nat} {sv qv:V} (hb:base≤lo) (hL:D0.length≤L) (h5:getC D0 p5 0=some [sv,qv]) (h5o:p5 < lo∨hi≤p5) (hs:sv=.sl o 0 0 n 1) {lens:List Nat} (hil:lens[i]?=some len) (hlen:len < 2 ^ 40):
 ∀ (d k:Nat) (D:Heap),k+d=len→MutL lo hi o n D0 D lens→
 ∃ D',itW (evC (callW CT) itW base s_f4_l0) [] L (frOf 147 [(2,.ref h 0 0),(3,.ref (h+1) 0 0),(5,.ref p5 0 0),(7,.ref p7 0 0),(9,I i),(10,I k)]) D=some (.ext 2,frOf 147 [(2,.ref h 0 0),(3,.ref (h+1) 0 0),(5,.ref p5 0 0),(7,.ref p7 0 0),(9,I i),(10,I len),(52,bl false)],D')∧MutL lo hi o n D0 D' lens:=by
 intro d
 induction d with
 | zero=>
   intro k D hk hM
   obtain rfl:k=len:=by omega
   have g5:getC D p5 0=some [sv,qv]:=by
    have:=getC_lt h5
    simp only [getC] at h5 ⊢
    rw [hM.old.2 p5 this h5o];exact h5
   have x5:xLoad D false 1 (.ref p5 0 0)=some (.sl o 0 0 n 1):=by rw [xo_ref,g5,← hs];rfl
   obtain ⟨x,q1,q2,q3,_⟩:=hM.row hb hil hlen
   refine ⟨_,?_,hM.trim hL (frOf 147 [(2,.ref h 0 0),(3,.ref (h+1) 0 0),(5,.ref p5 0 0),(7,.ref p7 0 0),(9,I i),(10,I k),(52,bl false)])⟩
   rw [itW_step]
   simp only [bl,I,a_f4,s_f4_l0_b,s_f4_l1_b,s_f4_l2_b,s_f4_l3_b,s_f4_l4_b,s_f4_l5_b,aa,bl,i64,reduceIte,reduceCtorEq,Nat.reduceEqDiff,Nat.reduceLT,Nat.reduceLeDiff,Nat.reduceBEq,Nat.reduceAdd,fillA,splice,Nat.reduceMul,amY,op_eqP,x5,q1,q2,q3,Int.lt_irrefl]
 | succ d ih=>
   intro k D hk hM
   have hlt':(k:Int) < (len:Int):=by omega
   have hwk:=w64 (n:=k) (by omega)
   have g5:getC D p5 0=some [sv,qv]:=by
    have:=getC_lt h5
    simp only [getC] at h5 ⊢
    rw [hM.old.2 p5 this h5o];exact h5
   have x5:xLoad D false 1 (.ref p5 0 0)=some (.sl o 0 0 n 1):=by rw [xo_ref,g5,← hs];rfl
   obtain ⟨x,q1,q2,q3,q4,_⟩:=hM.row hb hil hlen
   obtain ⟨a,D1,a1,a2,a3⟩:=q4 k (-7) (by omega)
   obtain ⟨D',p1,p2⟩:=ih (k+1) (trim L (frOf 147 [(2,.ref h 0 0),(3,.ref (h+1) 0 0),(5,.ref p5 0 0),(7,.ref p7 0 0),(9,I i),(10,I (k+1:Nat))]) D1) (by omega) (a3.trim hL _)
   refine ⟨D',?_,p2⟩
   rw [itW_step]
   simp only [bl,I] at p1
   simp only [bl,I,a_f4,s_f4_l0_b,s_f4_l1_b,s_f4_l2_b,s_f4_l3_b,s_f4_l4_b,s_f4_l5_b,aa,bl,i64,reduceIte,reduceCtorEq,Nat.reduceEqDiff,Nat.reduceLT,Nat.reduceLeDiff,Nat.reduceBEq,Nat.reduceAdd,fillA,splice,Nat.reduceMul,amY,op_eqP,x5,q1,q2,q3,hlt',a1,a2,hwk]
   exact p1
theorem own_l1 (base:Nat) {D0:Heap} {h p5 p7 lo hi o n L:Nat} {sv qv:V} (hb:base≤lo) (hL:D0.length≤L) (hn:n < 2 ^ 40) (h5:getC D0 p5 0=some [sv,qv]) (h5o:p5 < lo∨hi≤p5) (hs:sv=.sl o 0 0 n 1) (hlt5:p5 < D0.length):
 ∀ (d i:Nat) (D:Heap) (lens:List Nat),i+d=n→MutL lo hi o n D0 D lens→(∀ l∈lens,l < 2 ^ 30)→lens.length=n→(∀ j l,i≤j→lens[j]?=some l→l < 2 ^ 29)→
 ∃ D' lens',itW (evC (callW CT) itW base s_f4_l1) [] L (frOf 147 [(2,.ref h 0 0),(3,.ref (h+1) 0 0),(5,.ref p5 0 0),(7,.ref p7 0 0),(9,I i)]) D=some (.ext 0,frOf 147 [(2,.ref h 0 0),(3,.ref (h+1) 0 0),(5,.ref p5 0 0),(7,.ref p7 0 0),(9,I n),(42,bl false)],D')∧MutL lo hi o n D0 D' lens':=by
 intro d
 induction d with
 | zero=>
   intro i D lens hk hM _ _ _
   obtain rfl:i=n:=by omega
   have g5:getC D p5 0=some [sv,qv]:=by
    simp only [getC] at h5 ⊢
    rw [hM.old.2 p5 hlt5 h5o];exact h5
   have x5:xLoad D false 1 (.ref p5 0 0)=some (.sl o 0 0 i 1):=by rw [xo_ref,g5,← hs];rfl
   refine ⟨_,lens,?_,hM.trim hL (frOf 147 [(2,.ref h 0 0),(3,.ref (h+1) 0 0),(5,.ref p5 0 0),(7,.ref p7 0 0),(9,I i),(42,bl false)])⟩
   rw [itW_step]
   simp only [bl,I,a_f4,s_f4_l0_b,s_f4_l1_b,s_f4_l2_b,s_f4_l3_b,s_f4_l4_b,s_f4_l5_b,aa,bl,i64,reduceIte,reduceCtorEq,Nat.reduceEqDiff,Nat.reduceLT,Nat.reduceLeDiff,Nat.reduceBEq,Nat.reduceAdd,fillA,splice,Nat.reduceMul,amY,op_eqP,x5,Int.lt_irrefl]
 | succ d ih=>
   intro i D lens hk hM hls hll hsm
   have hlt':(i:Int) < (n:Int):=by omega
   have hwk:=w64 (n:=i) (by omega)
   have hold:=hM.old
   have g5:getC D p5 0=some [sv,qv]:=by
    simp only [getC] at h5 ⊢
    rw [hold.2 p5 hlt5 h5o];exact h5
   have x5:xLoad D false 1 (.ref p5 0 0)=some (.sl o 0 0 n 1):=by rw [xo_ref,g5,← hs];rfl
   have hil:lens[i]?=some (lens.getD i 0):=some_getD (by omega) 0
   have hlen:=hls _ (List.mem_of_getElem? hil)
   have hlen2:=hsm i _ (Nat.le_refl _) hil
   obtain ⟨D1,q1,q2⟩:=own_l0 (CT:=CT) (h:=h) (p7:=p7) (L:=D.length) base hb hold.1 h5 h5o hs hil (by omega) (lens.getD i 0) 0 D (by omega) hM
   rw [cast0] at q1
   have g51:getC D1 p5 0=some [sv,qv]:=by
    simp only [getC] at h5 ⊢
    rw [q2.old.2 p5 hlt5 h5o];exact h5
   have x51:xLoad D1 false 1 (.ref p5 0 0)=some (.sl o 0 0 n 1):=by rw [xo_ref,g51,← hs];rfl
   obtain ⟨x,r1,r2,r3,_,r4,r5⟩:=q2.row hb hil (by omega)
   obtain ⟨v',D2,D3,s1,s2,s3⟩:=r4 5
   have hap:apartO (V.obj? (.ref p5 0 0)) (V.appObj x)=true:=r5 p5 hlt5 h5o
   obtain ⟨D',lens',p1,p2⟩:=ih (i+1) (trim L (frOf 147 [(2,.ref h 0 0),(3,.ref (h+1) 0 0),(5,.ref p5 0 0),(7,.ref p7 0 0),(9,I (i+1:Nat))]) D3) (lens.set i (lens.getD i 0+1)) (by omega) (s3.trim hL _) (fun l hl=>by
    rcases List.mem_or_eq_of_mem_set hl with e | e
    ·exact hls l e
    ·omega) (by rw [List.length_set];exact hll) (fun j l hj hl=>by
    rw [List.getElem?_set_ne (by omega)] at hl
    exact hsm j l (by omega) hl)
   refine ⟨D',lens',?_,p2⟩
   rw [itW_step]
   simp only [bl,I] at q1 p1
   simp only [bl,I,a_f4,s_f4_l0_b,s_f4_l1_b,s_f4_l2_b,s_f4_l3_b,s_f4_l4_b,s_f4_l5_b,aa,bl,i64,reduceIte,reduceCtorEq,Nat.reduceEqDiff,Nat.reduceLT,Nat.reduceLeDiff,Nat.reduceBEq,Nat.reduceAdd,fillA,splice,Nat.reduceMul,amY,op_eqP,x5,hlt',q1,x51,r1,r2,s1,s2,s_f4_r11_x,opsK_some',late_r11,hap,List.all_cons,List.all_nil,Bool.and_self,hwk]
   exact p1
theorem own_l2 (base:Nat) {D0:Heap} {h p5 p7 lo hi o n i len L:Nat} {sv qv:V} (hb:base≤lo) (hL:D0.length≤L) (h5:getC D0 p5 0=some [sv,qv]) (h5o:p5 < lo∨hi≤p5) (hs:qv=.sl o 0 0 n 1) {lens:List Nat} (hil:lens[i]?=some len) (hlen:len < 2 ^ 40):
 ∀ (d k:Nat) (D:Heap),k+d=len→MutL lo hi o n D0 D lens→
 ∃ D',itW (evC (callW CT) itW base s_f4_l2) [] L (frOf 147 [(2,.ref h 0 0),(3,.ref (h+1) 0 0),(5,.ref p5 0 0),(7,.ref p7 0 0),(11,I i),(12,I k)]) D=some (.ext 6,frOf 147 [(2,.ref h 0 0),(3,.ref (h+1) 0 0),(5,.ref p5 0 0),(7,.ref p7 0 0),(11,I i),(12,I len),(87,bl false)],D')∧MutL lo hi o n D0 D' lens:=by
 intro d
 induction d with
 | zero=>
   intro k D hk hM
   obtain rfl:k=len:=by omega
   have g5:getC D p5 0=some [sv,qv]:=by
    have:=getC_lt h5
    simp only [getC] at h5 ⊢
    rw [hM.old.2 p5 this h5o];exact h5
   have x5:xLoad D false 1 (.ref p5 0 1)=some (.sl o 0 0 n 1):=by rw [xo_ref,g5,← hs];rfl
   obtain ⟨x,q1,q2,q3,_⟩:=hM.row hb hil hlen
   refine ⟨_,?_,hM.trim hL (frOf 147 [(2,.ref h 0 0),(3,.ref (h+1) 0 0),(5,.ref p5 0 0),(7,.ref p7 0 0),(11,I i),(12,I k),(87,bl false)])⟩
   rw [itW_step]
   simp only [bl,I,a_f4,s_f4_l0_b,s_f4_l1_b,s_f4_l2_b,s_f4_l3_b,s_f4_l4_b,s_f4_l5_b,aa,bl,i64,reduceIte,reduceCtorEq,Nat.reduceEqDiff,Nat.reduceLT,Nat.reduceLeDiff,Nat.reduceBEq,Nat.reduceAdd,fillA,splice,Nat.reduceMul,amY,op_eqP,x5,q1,q2,q3,Int.lt_irrefl]
 | succ d ih=>
   intro k D hk hM
   have hlt':(k:Int) < (len:Int):=by omega
   have hwk:=w64 (n:=k) (by omega)
   have g5:getC D p5 0=some [sv,qv]:=by
    have:=getC_lt h5
    simp only [getC] at h5 ⊢
    rw [hM.old.2 p5 this h5o];exact h5
   have x5:xLoad D false 1 (.ref p5 0 1)=some (.sl o 0 0 n 1):=by rw [xo_ref,g5,← hs];rfl
   obtain ⟨x,q1,q2,q3,q4,_⟩:=hM.row hb hil hlen
   obtain ⟨a,D1,a1,a2,a3⟩:=q4 k (-7) (by omega)
   obtain ⟨D',p1,p2⟩:=ih (k+1) (trim L (frOf 147 [(2,.ref h 0 0),(3,.ref (h+1) 0 0),(5,.ref p5 0 0),(7,.ref p7 0 0),(11,I i),(12,I (k+1:Nat))]) D1) (by omega) (a3.trim hL _)
   refine ⟨D',?_,p2⟩
   rw [itW_step]
   simp only [bl,I] at p1
   simp only [bl,I,a_f4,s_f4_l0_b,s_f4_l1_b,s_f4_l2_b,s_f4_l3_b,s_f4_l4_b,s_f4_l5_b,aa,bl,i64,reduceIte,reduceCtorEq,Nat.reduceEqDiff,Nat.reduceLT,Nat.reduceLeDiff,Nat.reduceBEq,Nat.reduceAdd,fillA,splice,Nat.reduceMul,amY,op_eqP,x5,q1,q2,q3,hlt',a1,a2,hwk]
   exact p1
theorem own_l3 (base:Nat) {D0:Heap} {h p5 p7 lo hi o n L:Nat} {sv qv:V} (hb:base≤lo) (hL:D0.length≤L) (hn:n < 2 ^ 40) (h5:getC D0 p5 0=some [sv,qv]) (h5o:p5 < lo∨hi≤p5) (hs:qv=.sl o 0 0 n 1) (hlt5:p5 < D0.length):
 ∀ (d i:Nat) (D:Heap) (lens:List Nat),i+d=n→MutL lo hi o n D0 D lens→(∀ l∈lens,l < 2 ^ 30)→lens.length=n→(∀ j l,i≤j→lens[j]?=some l→l < 2 ^ 29)→
 ∃ D' lens',itW (evC (callW CT) itW base s_f4_l3) [] L (frOf 147 [(2,.ref h 0 0),(3,.ref (h+1) 0 0),(5,.ref p5 0 0),(7,.ref p7 0 0),(11,I i)]) D=some (.ext 4,frOf 147 [(2,.ref h 0 0),(3,.ref (h+1) 0 0),(5,.ref p5 0 0),(7,.ref p7 0 0),(11,I n),(77,bl false)],D')∧MutL lo hi o n D0 D' lens':=by
 intro d
 induction d with
 | zero=>
   intro i D lens hk hM _ _ _
   obtain rfl:i=n:=by omega
   have g5:getC D p5 0=some [sv,qv]:=by
    simp only [getC] at h5 ⊢
    rw [hM.old.2 p5 hlt5 h5o];exact h5
   have x5:xLoad D false 1 (.ref p5 0 1)=some (.sl o 0 0 i 1):=by rw [xo_ref,g5,← hs];rfl
   refine ⟨_,lens,?_,hM.trim hL (frOf 147 [(2,.ref h 0 0),(3,.ref (h+1) 0 0),(5,.ref p5 0 0),(7,.ref p7 0 0),(11,I i),(77,bl false)])⟩
   rw [itW_step]
   simp only [bl,I,a_f4,s_f4_l0_b,s_f4_l1_b,s_f4_l2_b,s_f4_l3_b,s_f4_l4_b,s_f4_l5_b,aa,bl,i64,reduceIte,reduceCtorEq,Nat.reduceEqDiff,Nat.reduceLT,Nat.reduceLeDiff,Nat.reduceBEq,Nat.reduceAdd,fillA,splice,Nat.reduceMul,amY,op_eqP,x5,Int.lt_irrefl]
 | succ d ih=>
   intro i D lens hk hM hls hll hsm
   have hlt':(i:Int) < (n:Int):=by omega
   have hwk:=w64 (n:=i) (by omega)
   have hold:=hM.old
   have g5:getC D p5 0=some [sv,qv]:=by
    simp only [getC] at h5 ⊢
    rw [hold.2 p5 hlt5 h5o];exact h5
   have x5:xLoad D false 1 (.ref p5 0 1)=some (.sl o 0 0 n 1):=by rw [xo_ref,g5,← hs];rfl
   have hil:lens[i]?=some (lens.getD i 0):=some_getD (by omega) 0
   have hlen:=hls _ (List.mem_of_getElem? hil)
   have hlen2:=hsm i _ (Nat.le_refl _) hil
   obtain ⟨D1,q1,q2⟩:=own_l2 (CT:=CT) (h:=h) (p7:=p7) (L:=D.length) base hb hold.1 h5 h5o hs hil (by omega) (lens.getD i 0) 0 D (by omega) hM
   rw [cast0] at q1
   obtain ⟨D',lens',p1,p2⟩:=ih (i+1) (trim L (frOf 147 [(2,.ref h 0 0),(3,.ref (h+1) 0 0),(5,.ref p5 0 0),(7,.ref p7 0 0),(11,I (i+1:Nat))]) D1) lens (by omega) (q2.trim hL _) hls hll (fun j l hj hl=>hsm j l (by omega) hl)
   refine ⟨D',lens',?_,p2⟩
   rw [itW_step]
   simp only [bl,I] at q1 p1
   simp only [bl,I,a_f4,s_f4_l0_b,s_f4_l1_b,s_f4_l2_b,s_f4_l3_b,s_f4_l4_b,s_f4_l5_b,aa,bl,i64,reduceIte,reduceCtorEq,Nat.reduceEqDiff,Nat.reduceLT,Nat.reduceLeDiff,Nat.reduceBEq,Nat.reduceAdd,fillA,splice,Nat.reduceMul,amY,op_eqP,x5,hlt',q1,hwk]
   exact p1
end
end Go.Proofs.Ytgimjihhlhjejaa
set_option maxRecDepth 100000
namespace Go.Proofs.Ytgimjihhlhjejaa
open Go.AM
def KeepR (m:Nat) (H:Heap) (v:V) (R:List (List Int)):Prop:=∀ D:Heap,(∀ id g c,m≤id→getC H id g=some c→getC D id g=some c)→RdRows D v (rowsV R)
theorem OwnB.keepR {m:Nat} {H:Heap} {v:V} {R:List (List Int)} (h:OwnB m H v (rowsV R)):KeepR m H v R:=fun _ hk=>(h.keep hk).rd
theorem rows_nil (D:Heap):RdRows D nilS (rowsV []):=⟨[],Rd.nil D,trivial,rfl,fun i r hr=>by simp [rowsV] at hr⟩
def flowR (bs:List BlkD):List (List Int):=if ofBad bs then [] else ofRows bs
theorem flowR_len (bs:List BlkD):(flowR bs).length≤bs.length:=by
 unfold flowR
 split
 ·simp
 ·rw [ofRows_len];exact Nat.le_refl _
theorem flowR_small {bs:List BlkD} {B:Nat} (hB:0 < B) (h:∀ b∈bs,b.labs.length < B):∀ r∈flowR bs,r.length < B:=by
 unfold flowR
 split
 ·intro r hr;cases hr
 ·exact ofRows_small hB h
theorem store_str {m hi:Nat} {H:Heap} {v:V} {l:List V} (h:OwnN m H v l) (hlt:∀ id g n,v=.sl id g 0 n 1→id < hi) {base k:Nat} (hb:base≤m) (hk:k < l.length) {x:V} (hx:x.one=true):
 ∃ a H',xIndexAddr 1 v (.s (.int .i64 k))=some a∧storeV H base 1 x a=some H'∧OwnN m H' v (l.set k x)∧H'.length=H.length∧∀ id,id < m∨hi≤id→H'[id]?=H[id]?:=by
 rcases h with ⟨rfl,_⟩ | ⟨id,g,c,rfl,hc,hl,ht,hm⟩
 ·cases hk
 ·have hcl:k < c.length:=by omega
  have hx2:c[k]?=some c[k]:=List.getElem?_eq_getElem hcl
  have:=hlt id g _ rfl
  refine ⟨.ref id g k,H.set id (.cells g (c.set k x)),(at_sl hc hk hx2).1,storeV_at hc (by omega) hx hcl,.inr ⟨id,g,c.set k x,by rw [List.length_set],getC_put hc,by rw [List.length_set,List.length_set];exact hl,?_,hm⟩,List.length_set,fun id' hid=>?_⟩
  ·rw [List.length_set,List.take_set,ht]
  ·rw [List.getElem?_set_ne (by omega)]
section
variable {CT:Nat→Option CFun}
theorem of_fun2 (h:CO CT) (base:Nat) (H:Heap) (hb:base≤H.length) {nm:ByteArray} {pv bv:V} {bs:List BlkD} (hp:pv.one=true) (hv:RdBlks H bv bs) (hn:bs.length < 2 ^ 18) (hll:∀ b∈bs,b.labs.length < 2 ^ 18):
 ∃ (H':Heap) (sv qv:V) (e:Int),callW CT (.fn k_f13 [] []) [.agg (fnC nm pv bv)] base H=some (.tup [.agg [sv,qv],.s (.int .i64 e)],H')∧Ext H H'∧sv.one=true∧qv.one=true∧KeepR H.length H' sv (flowR bs)∧KeepR H.length H' qv (backG (flowR bs))∧((ofBad bs=true∧sv=nilS∧qv=nilS)∨(ofBad bs=false∧∃ mid,H.length≤mid∧mid≤H'.length∧OwnT H.length mid H' sv (rowsV (ofRows bs))∧OwnT mid H'.length H' qv (rowsV (backG (ofRows bs))))):=by
 obtain ⟨H',sv,qv,e,h1,h2,h3,h4,h5⟩:=of_fun h base H hb (nm:=nm) hp hv hn hll
 refine ⟨H',sv,qv,e,h1,h2,h3,h4,?_⟩
 rcases h5 with ⟨k1,rfl,rfl,k4⟩ | ⟨k1,k2,mid,k3,k4,k5,k6⟩
 ·have hf:flowR bs=[]:=by rw [flowR,if_pos k1]
  rw [hf]
  exact ⟨fun D _=>rows_nil D,fun D _=>rows_nil D,.inl ⟨k1,rfl,rfl⟩⟩
 ·have hf:flowR bs=ofRows bs:=by rw [flowR,if_neg (by rw [k1];simp)]
  rw [hf]
  exact ⟨k5.b.keepR,(k6.mono k3).b.keepR,.inr ⟨k1,mid,k3,k4,k5,k6⟩⟩
theorem own_l4 (base:Nat) {D0:Heap} {h p7 m hi:Nat} {uv vv:V} {l:List ByteArray} (hm:base≤m) (hu:OwnN m D0 uv (l.map S)) (hlt:∀ id g n,uv=.sl id g 0 n 1→id < hi) (hl:l.length < 2 ^ 40):
 ∃ D',itW (evC (callW CT) itW base s_f4_l4) [] D0.length (frOf 147 [(2,.ref h 0 0),(3,.ref (h+1) 0 0),(7,.ref p7 0 0),(13,uv),(14,vv),(15,I 0)]) D0=some (.ext 8,frOf 147 [(2,.ref h 0 0),(3,.ref (h+1) 0 0),(7,.ref p7 0 0),(13,uv),(14,vv),(15,I l.length),(104,bl false)],D')∧D'.length=D0.length∧∀ id,id < m∨hi≤id→D'[id]?=D0[id]?:=by
 obtain ⟨D',e1,e2,e3,l',e4,e5⟩:=it_rel (S:=Heap) l.length (fun _ D=>D.length=D0.length∧(∀ id,id < m∨hi≤id→D[id]?=D0[id]?)∧∃ l':List V,OwnN m D uv l'∧l'.length=l.length) (fun k D=>itW (evC (callW CT) itW base s_f4_l4) [] D0.length (frOf 147 [(2,.ref h 0 0),(3,.ref (h+1) 0 0),(7,.ref p7 0 0),(13,uv),(14,vv),(15,I k)]) D) (by
  rintro k D hk ⟨h1,h2,l',h3,h4⟩
  have hlt':((k:Int) < (l.length:Int)):=by omega
  have hwk:=w64 (n:=k) (by omega)
  have hxl:=h3.rd.len
  rw [h4] at hxl
  obtain ⟨a,D1,a1,a2,a3,a4,a5⟩:=store_str h3 hlt hm (by omega) (k:=k) (x:=.s (.string ⟨#[115,112,111,105,108,116]⟩)) rfl
  refine ⟨D1,?_,a4.trans h1,fun id hid=>(a5 id hid).trans (h2 id hid),_,a3,by rw [List.length_set];exact h4⟩
  rw [itW_step]
  simp only [I,a_f4,s_f4_l0_b,s_f4_l1_b,s_f4_l2_b,s_f4_l3_b,s_f4_l4_b,s_f4_l5_b,aa,bl,i64,reduceIte,reduceCtorEq,Nat.reduceEqDiff,Nat.reduceLT,Nat.reduceLeDiff,Nat.reduceBEq,Nat.reduceAdd,fillA,splice,Nat.reduceMul,amY,op_eqP,hxl,hlt',a1,a2,hwk,trim_same (a4.trans h1)]) 0 D0 (Nat.zero_le _) ⟨rfl,fun _ _=>rfl,_,hu,by simp⟩
 rw [cast0] at e1
 refine ⟨D',e1.trans ?_,e2,e3⟩
 have hxl:=e4.rd.len
 rw [e5] at hxl
 rw [itW_step]
 simp only [I,bl,a_f4,s_f4_l0_b,s_f4_l1_b,s_f4_l2_b,s_f4_l3_b,s_f4_l4_b,s_f4_l5_b,aa,bl,i64,reduceIte,reduceCtorEq,Nat.reduceEqDiff,Nat.reduceLT,Nat.reduceLeDiff,Nat.reduceBEq,Nat.reduceAdd,fillA,splice,Nat.reduceMul,amY,op_eqP,hxl,Int.lt_irrefl,trim_same e2]
theorem own_l5 (base:Nat) {D:Heap} {h p7:Nat} {vv wv:V} {l:List ByteArray} (hv:Rd D vv (l.map S)) (hvw:Wide1 vv) (hw:Rd D wv (l.map S)) (hww:Wide1 wv) (hl:l.length < 2 ^ 40):
 itW (evC (callW CT) itW base s_f4_l5) [] D.length (frOf 147 [(2,.ref h 0 0),(7,.ref p7 0 0),(14,vv),(16,wv),(17,I 0)]) D=some (.ext 10,frOf 147 [(2,.ref h 0 0),(7,.ref p7 0 0),(14,vv),(16,wv),(17,I l.length),(115,bl false)],D):=by
 have hxl:=Sb_len hv
 have hst:=it_fun l.length (fun k=>itW (evC (callW CT) itW base s_f4_l5) [] D.length (frOf 147 [(2,.ref h 0 0),(7,.ref p7 0 0),(14,vv),(16,wv),(17,I k)]) D) (by
  intro k hk
  have hlt':((k:Int) < (l.length:Int)):=by omega
  have hwk:=w64 (n:=k) (by omega)
  obtain ⟨a,a1,a2⟩:=Sb_at hv hvw hk
  obtain ⟨b,b1,b2⟩:=Sb_at hw hww hk
  have hbb:((l.getD k ⟨#[]⟩).data.toList == (l.getD k ⟨#[]⟩).data.toList)=true:=by simp
  rw [itW_step]
  simp only [I,a_f4,s_f4_l0_b,s_f4_l1_b,s_f4_l2_b,s_f4_l3_b,s_f4_l4_b,s_f4_l5_b,aa,bl,i64,reduceIte,reduceCtorEq,Nat.reduceEqDiff,Nat.reduceLT,Nat.reduceLeDiff,Nat.reduceBEq,Nat.reduceAdd,fillA,splice,Nat.reduceMul,amY,op_eqP,hxl,hlt',a1,a2,b1,b2,hbb,hwk,trim_same rfl]) 0 (Nat.zero_le _)
 rw [cast0] at hst
 refine hst.trans ?_
 rw [itW_step]
 simp only [I,bl,a_f4,s_f4_l0_b,s_f4_l1_b,s_f4_l2_b,s_f4_l3_b,s_f4_l4_b,s_f4_l5_b,aa,bl,i64,reduceIte,reduceCtorEq,Nat.reduceEqDiff,Nat.reduceLT,Nat.reduceLeDiff,Nat.reduceBEq,Nat.reduceAdd,fillA,splice,Nat.reduceMul,amY,op_eqP,hxl,Int.lt_irrefl,trim_same rfl]
end
end Go.Proofs.Ytgimjihhlhjejaa
set_option maxRecDepth 100000
namespace Go.Proofs.Ytgimjihhlhjejaa
open Go.AM
structure CU (CT:Nat→Option CFun):Prop where
 uses:CT k_f8=some (.code s_f8)
 some':CT k_f19=some (.code s_f19)
 del:CT k_f26=some (.code s_f26)
 idx:CT k_f35=some (.code s_f35)
 some1:CT k_f27=some (.code s_f27)
theorem up_lenN:∀ {l:List Int} {n:Nat} {a:Int},Up l→(∀ z∈l,a≤z∧z < n)→(l.length:Int)≤n - a∨l=[]:=by
 intro l
 induction l with
 | nil=>intro n a _ _;exact .inr rfl
 | cons x l ih=>
   intro n a h hr
   have hx:=hr x List.mem_cons_self
   rcases ih (n:=n) (a:=x+1) h.2 (fun z hz=>⟨by have:=h.1 z hz;omega,(hr z (List.mem_cons_of_mem _ hz)).2⟩) with e | e
   ·left;rw [List.length_cons];omega
   ·left;rw [e];simp;omega
theorem back_le (G:List (List Int)) {r:List Int} (hr:r∈backG G):r.length≤G.length:=by
 obtain ⟨a,ha⟩:=List.mem_iff_getElem?.1 hr
 have han:=(List.getElem?_eq_some_iff.1 ha).1
 rw [backG_len] at han
 have e:=backG_get G a han
 rw [getD_some ha []] at e
 subst e
 rcases up_lenN (n:=G.length) (a:=0) (col_up (normG G) 0 a) (fun z hz=>by
  obtain ⟨j,rfl,q,hq,_⟩:=(col_mem _ _ _ _).1 hz
  have hj:=(List.getElem?_eq_some_iff.1 hq).1
  rw [normG_len] at hj
  omega) with e | e
 ·omega
 ·rw [e];exact Nat.zero_le _
section
variable {CT:Nat→Option CFun}
theorem own_loops (base:Nat) {H5:Heap} {h p5 p7 lo mid hi:Nat} {sv qv:V} {bs:List BlkD} (hb:base≤lo) (hlm:lo≤mid) (hmh:mid≤hi) (hh5:hi < H5.length) (h5:getC H5 p5 0=some [sv,qv]) (hp5:p5=hi) (hn:bs.length < 2 ^ 18) (hll:∀ b∈bs,b.labs.length < 2 ^ 18)
 (hc:(ofBad bs=true∧sv=nilS∧qv=nilS)∨(ofBad bs=false∧OwnT lo mid H5 sv (rowsV (ofRows bs))∧OwnT mid hi H5 qv (rowsV (backG (ofRows bs))))):
 ∃ (D1 D2:Heap) (n2 n3:Nat),itW (evC (callW CT) itW base s_f4_l1) [] H5.length (frOf 147 [(2,.ref h 0 0),(3,.ref (h+1) 0 0),(5,.ref p5 0 0),(7,.ref p7 0 0),(9,I 0)]) H5=some (.ext 0,frOf 147 [(2,.ref h 0 0),(3,.ref (h+1) 0 0),(5,.ref p5 0 0),(7,.ref p7 0 0),(9,I n2),(42,bl false)],D1)∧itW (evC (callW CT) itW base s_f4_l3) [] D1.length (frOf 147 [(2,.ref h 0 0),(3,.ref (h+1) 0 0),(5,.ref p5 0 0),(7,.ref p7 0 0),(11,I 0)]) D1=some (.ext 4,frOf 147 [(2,.ref h 0 0),(3,.ref (h+1) 0 0),(5,.ref p5 0 0),(7,.ref p7 0 0),(11,I n3),(77,bl false)],D2)∧H5.length≤D2.length∧∀ id,id < H5.length→id < lo∨hi≤id→D2[id]?=H5[id]?:=by
 rcases hc with ⟨_,rfl,rfl⟩ | ⟨_,o1,o2⟩
 ·refine ⟨H5,H5,0,0,?_,?_,Nat.le_refl _,fun _ _ _=>rfl⟩
  ·have x5:xLoad H5 false 1 (.ref p5 0 0)=some nilS:=by rw [xo_ref,h5];rfl
   rw [itW_step]
   simp only [nilS] at x5
   simp only [I,bl,a_f4,s_f4_l0_b,s_f4_l1_b,s_f4_l2_b,s_f4_l3_b,s_f4_l4_b,s_f4_l5_b,aa,bl,i64,reduceIte,reduceCtorEq,Nat.reduceEqDiff,Nat.reduceLT,Nat.reduceLeDiff,Nat.reduceBEq,Nat.reduceAdd,fillA,splice,Nat.reduceMul,amY,op_eqP,x5,Int.lt_irrefl,trim_same rfl]
  ·have x5:xLoad H5 false 1 (.ref p5 0 1)=some nilS:=by rw [xo_ref,h5];rfl
   rw [itW_step]
   simp only [nilS] at x5
   simp only [I,bl,a_f4,s_f4_l0_b,s_f4_l1_b,s_f4_l2_b,s_f4_l3_b,s_f4_l4_b,s_f4_l5_b,aa,bl,i64,reduceIte,reduceCtorEq,Nat.reduceEqDiff,Nat.reduceLT,Nat.reduceLeDiff,Nat.reduceBEq,Nat.reduceAdd,fillA,splice,Nat.reduceMul,amY,op_eqP,x5,Int.lt_irrefl,trim_same rfl]
 ·obtain ⟨o,vs,m',e1,e2,e3,e4,e5,e6,e7⟩:=o1
  have hids:∀ {lo hi o m':Nat} {D:Heap} {vs:List V} {R:List (List V)},lo≤o→o < m'→BagO m' D vs R→(∀ (j id g k:Nat),vs[j]?=some (.sl id g 0 k 1)→id < hi)→∀ (j id g k:Nat),vs[j]?=some (.sl id g 0 k 1)→lo≤id∧id < hi:=by
   intro lo hi o m' D vs R a b hB hlt j id g k hj
   refine ⟨?_,hlt j id g k hj⟩
   have hl:=(List.getElem?_eq_some_iff.1 hj).1
   obtain ⟨x,h1,h2⟩:=hB.2.1 j _ (List.getElem?_eq_getElem (show j < R.length by rw [← hB.1];exact hl))
   rw [hj] at h1
   obtain rfl:=Option.some.inj h1
   have:=own_at h2 id g k rfl
   omega
  have hM:=MutL.start e3 (by omega) e2 (by omega) (by omega) e5 e6 (hids e2 e3 e6 e7)
  rw [rowsV_len,ofRows_len] at hM e1
  have hR:=ofRows_small (B:=2 ^ 18) (by decide) hll
  have hlens:∀ l∈(rowsV (ofRows bs)).map List.length,l < 2 ^ 18:=by
   intro l hl
   rw [List.mem_map] at hl
   obtain ⟨r,hr,rfl⟩:=hl
   rw [rowsV,List.mem_map] at hr
   obtain ⟨q,hq,rfl⟩:=hr
   rw [List.length_map];exact hR q hq
  obtain ⟨D1,lens1,q1,q2⟩:=own_l1 (CT:=CT) (h:=h) (p7:=p7) (L:=H5.length) base hb (Nat.le_refl _) (by omega) h5 (by omega) e1 (by omega) bs.length 0 H5 _ (by omega) hM (fun l hl=>by have:=hlens l hl;omega) (by rw [List.length_map,rowsV_len,ofRows_len]) (fun j l _ hl=>by have:=hlens l (List.mem_of_getElem? hl);omega)
  have hold:=q2.old
  have hk1:∀ id g c,mid≤id→getC H5 id g=some c→getC D1 id g=some c:=fun id g c hid hg=>by
   have:=getC_lt hg
   simp only [getC] at hg ⊢
   rw [hold.2 id this (.inr hid)];exact hg
  obtain ⟨o',vs',m2,f1,f2,f3,f4,f5,f6,f7⟩:=o2.keep hk1
  have hM2:=MutL.start f3 (by omega) f2 (by omega) (by omega) f5 f6 (hids f2 f3 f6 f7)
  have hbl:(rowsV (backG (ofRows bs))).length=bs.length:=by rw [rowsV_len,backG_len,ofRows_len]
  rw [hbl] at hM2 f1
  have hlens2:∀ l∈(rowsV (backG (ofRows bs))).map List.length,l < 2 ^ 18:=by
   intro l hl
   rw [List.mem_map] at hl
   obtain ⟨r,hr,rfl⟩:=hl
   rw [rowsV,List.mem_map] at hr
   obtain ⟨q,hq,rfl⟩:=hr
   rw [List.length_map]
   have:=back_le _ hq
   rw [ofRows_len] at this
   omega
  obtain ⟨D2,lens2,r1,r2⟩:=own_l3 (CT:=CT) (h:=h) (p7:=p7) (L:=D1.length) base (by omega) (Nat.le_refl _) (by omega) (hk1 _ _ _ (by omega) h5) (by omega) f1 (by omega) bs.length 0 D1 _ (by omega) hM2 (fun l hl=>by have:=hlens2 l hl;omega) (by rw [List.length_map,hbl]) (fun j l _ hl=>by have:=hlens2 l (List.mem_of_getElem? hl);omega)
  have hold2:=r2.old
  rw [cast0] at q1 r1
  exact ⟨D1,D2,bs.length,bs.length,q1,r1,by omega,fun id h1 h2=>by rw [hold2.2 id (by omega) (by omega),hold.2 id h1 (by omega)]⟩
set_option maxHeartbeats 2000000 in
theorem own_law (hO:CO CT) (hU:CU CT) (hH:CT k_f12=some (.code s_f12)) (hR:CT k_f14=some (.code s_f14)) (hL:CT k_f4=some (.code s_f4)) (hw:∀ base H,callW CT (.fn k_f11 [] []) [] base H=some (.s (.bool true),H)) (base:Nat) (H:Heap) (hb:base≤H.length) {nm:ByteArray} {pv bv:V} {bs:List BlkD} (hp:pv.one=true) (hv:RdBlks H bv bs) (h0:∀ b∈bs,b.n=0→b.labs=[]) (x:InsC) (l:List ByteArray) (ha:Rd H x.av (l.map S)) (haw:Wide1 x.av) (hlv:x.lv.one=true) (hll:l.length < 2 ^ 63):
 ∃ H',callW CT (.fn k_f4 [] []) [.agg (fnC nm pv bv),.agg x.cells] base H=some (.s (.bool true),H'):=by
 have hbo:=hv.one
 have hao:=ha.one
 obtain ⟨Hb,hHb⟩:∃ Hb,H ++ [Ob.cells 0 (fnC nm pv bv)] ++ [Ob.cells 0 x.cells]=Hb:=⟨_,rfl⟩
 have eb:Ext H Hb:=by rw [← hHb];exact (Ext.app _ _).trans (Ext.app _ _)
 have lb:Hb.length=H.length+2:=by rw [← hHb];simp
 have gb0:getC Hb H.length 0=some (fnC nm pv bv):=by rw [← hHb];exact getC_app (getC_new H 0 _)
 have gb1:getC Hb (H.length+1) 0=some x.cells:=by
  have:=getC_new (H ++ [Ob.cells 0 (fnC nm pv bv)]) 0 x.cells
  rw [len_snoc,hHb] at this
  exact this
 have xf:∀ D,Ext Hb D→xLoad D true 3 (.ref H.length 0 0)=some (.agg (fnC nm pv bv)):=fun D e=>by rw [xo_ref,getC_ext gb0 e];rfl
 have xi:∀ D,Ext Hb D→xLoad D true 8 (.ref (H.length+1) 0 0)=some (.agg x.cells):=fun D e=>by rw [xo_ref,getC_ext gb1 e];rfl
 have xa:∀ D,Ext Hb D→xLoad D false 1 (.ref (H.length+1) 0 6)=some x.av:=fun D e=>by rw [xo_ref,getC_ext gb1 e];rfl
 have xl:∀ D,Ext Hb D→xLen D .s x.av=some (.s (.int .i64 l.length)):=fun D e=>Sb_len (ha.ext (eb.trans e))
 obtain ⟨H1,y1,y2⟩:=heavy_fun hH base Hb (by omega) (nm:=nm) hp (hv.ext eb)
 have z0:=xf _ (Ext.refl Hb)
 have z1:=xa _ y2
 have z2:=xl _ y2
 have hpre:heavyB bs=true∨(l.length:Int) > 100→∃ H',callW CT (.fn k_f4 [] []) [.agg (fnC nm pv bv),.agg x.cells] base H=some (.s (.bool true),H'):=by
  intro hor
  refine ⟨H1,callW_fnA (c:=s_f4) (k:=2) hL rfl (by decide) s_f4_first ?_⟩
  simp only [fnC,InsC.cells] at hHb z0 y1 ⊢
  cases hhv:heavyB bs with
  | true=>
    rw [hhv] at y1
    simp only [s_f4,a_f4,s_f4_l0_b,s_f4_l1_b,s_f4_l2_b,s_f4_l3_b,s_f4_l4_b,s_f4_l5_b,aa,bl,i64,reduceIte,reduceCtorEq,Nat.reduceEqDiff,Nat.reduceLT,Nat.reduceLeDiff,Nat.reduceBEq,Nat.reduceAdd,fillA,splice,Nat.reduceMul,amY,op_eqP,hp,hbo,hao,hlv,Bool.and_self,len_snoc,hHb,z0,y1,z1,z2]
  | false=>
    rw [hhv] at y1
    have h100:(l.length:Int) > 100:=hor.resolve_left (by rw [hhv];simp)
    simp only [s_f4,a_f4,s_f4_l0_b,s_f4_l1_b,s_f4_l2_b,s_f4_l3_b,s_f4_l4_b,s_f4_l5_b,aa,bl,i64,reduceIte,reduceCtorEq,Nat.reduceEqDiff,Nat.reduceLT,Nat.reduceLeDiff,Nat.reduceBEq,Nat.reduceAdd,fillA,splice,Nat.reduceMul,amY,op_eqP,hp,hbo,hao,hlv,Bool.and_self,len_snoc,hHb,z0,y1,z1,z2,h100]
 cases hhv:heavyB bs with
 | true=>exact hpre (.inl hhv)
 | false=>
 by_cases h100:(l.length:Int) > 100
 ·exact hpre (.inr h100)
 rw [hhv] at y1
 clear hpre
 obtain ⟨hs1,hs2⟩:=heavyB_small hhv
 have hlb:∀ b∈bs,b.labs.length < 2 ^ 18:=fun b hb=>by
  by_cases e:b.n=0
  ·rw [h0 b hb e];decide
  ·have:=(hs2 b hb).2 (by omega);omega
 have e1:=eb.trans y2
 have l1:=y2.le
 obtain ⟨H2,sv,qv,e,a1,a2,a3,a4,_,_,a5⟩:=of_fun2 hO base H1 (by omega) (nm:=nm) hp (hv.ext e1) (by omega) hlb
 have svc:=cells_of_one a3
 have qvc:=cells_of_one a4
 have l2:=a2.le
 obtain ⟨H3,hH3⟩:∃ H3,H2 ++ [Ob.cells 0 [sv,qv]]=H3:=⟨_,rfl⟩
 have e23:Ext H2 H3:=by rw [← hH3];exact Ext.app _ _
 have l3:H3.length=H2.length+1:=by rw [← hH3];simp
 have e3:=(e1.trans a2).trans e23
 have eb3:=(y2.trans a2).trans e23
 obtain ⟨H4,sv2,qv2,e',b1,b2,b3,b4,b5,b6,_⟩:=of_fun2 hO base H3 (by omega) (nm:=nm) hp (hv.ext e3) (by omega) hlb
 have svc2:=cells_of_one b3
 have qvc2:=cells_of_one b4
 have l4:=b2.le
 obtain ⟨H5,hH5⟩:∃ H5,H4 ++ [Ob.cells 0 [sv2,qv2]]=H5:=⟨_,rfl⟩
 have e45:Ext H4 H5:=by rw [← hH5];exact Ext.app _ _
 have l5:H5.length=H4.length+1:=by rw [← hH5];simp
 have e25:Ext H2 H5:=(e23.trans b2).trans e45
 have g5:getC H5 H2.length 0=some [sv,qv]:=getC_ext (getC_ext (by rw [← hH3];exact getC_new H2 0 _) b2) e45
 have g7:getC H5 H4.length 0=some [sv2,qv2]:=by rw [← hH5];exact getC_new H4 0 _
 obtain ⟨mid,hm1,hm2,hcase⟩:∃ mid,H1.length≤mid∧mid≤H2.length∧((ofBad bs=true∧sv=nilS∧qv=nilS)∨(ofBad bs=false∧OwnT H1.length mid H5 sv (rowsV (ofRows bs))∧OwnT mid H2.length H5 qv (rowsV (backG (ofRows bs))))):=by
  rcases a5 with k | ⟨k1,mid,k2,k3,k4,k5⟩
  ·exact ⟨H1.length,Nat.le_refl _,l2,.inl k⟩
  ·exact ⟨mid,k2,k3,.inr ⟨k1,k4.keep fun _ _ _ _ hg=>getC_ext hg e25,k5.keep fun _ _ _ _ hg=>getC_ext hg e25⟩⟩
 obtain ⟨D1,D2,n2,n3,c1,c2,c3,c4⟩:=own_loops (CT:=CT) (h:=H.length) (p7:=H4.length) base (by omega) hm1 hm2 (by omega) g5 rfl (by omega) hlb hcase
 have e02:Ext H1 D2:=Ext.of_get (by omega) fun id hid=>by rw [c4 id (by omega) (.inl hid),((a2.trans e25).get hid)]
 have eb2:=y2.trans e02
 have young:∀ id g c,H3.length≤id→getC H5 id g=some c→getC D2 id g=some c:=fun id g c hid hg=>by
  have:=getC_lt hg
  simp only [getC] at hg ⊢
  rw [c4 id this (.inr (by omega))];exact hg
 have g72:=young _ _ _ (by omega) g7
 have l6:=eb2.le
 obtain ⟨uv,D3,u1,u2,u3⟩:=uses_fun hU.uses hU.some' hU.del hU.idx hU.some1 base D2 (by omega) x.op x.d x.a x.b x.k x.f x.av x.lv l (ha.ext (eb.trans eb2)) haw hlv (by omega)
 obtain ⟨vv,D4,v1,v2,v3⟩:=uses_fun hU.uses hU.some' hU.del hU.idx hU.some1 base D3 (by have:=u2.le;omega) x.op x.d x.a x.b x.k x.f x.av x.lv l ((ha.ext (eb.trans eb2)).ext u2) haw hlv (by omega)
 have hul:(usesOf x.a x.b l).length < 2 ^ 40:=by
  have:(usesOf x.a x.b l).length≤(x.a :: x.b :: l).length:=List.length_filter_le _ _
  simp at this
  omega
 have l7:=u2.le
 have l8:=v2.le
 obtain ⟨D5,w1,w2,w3⟩:=own_l4 (CT:=CT) (h:=H.length) (p7:=H4.length) (vv:=vv) (m:=D2.length) (hi:=D3.length) base (by omega) (u3.ext v2) (fun id g n e=>own_lt u3 id g n e) hul
 have e25':Ext D2 D5:=Ext.of_get (by omega) fun id hid=>by rw [w3 id (.inl hid),(u2.trans v2).get hid]
 have v5:OwnN D3.length D5 vv ((usesOf x.a x.b l).map S):=by
  rcases v3 with k | ⟨id,g,c,rfl,k1,k2,k3,k4⟩
  ·exact .inl k
  ·refine .inr ⟨id,g,c,rfl,?_,k2,k3,k4⟩
   simp only [getC] at k1 ⊢
   rw [w3 id (.inr k4)];exact k1
 have ea5:=(eb.trans eb2).trans e25'
 obtain ⟨wv,D6,x1,x2,x3⟩:=uses_fun hU.uses hU.some' hU.del hU.idx hU.some1 base D5 (by omega) x.op x.d x.a x.b x.k x.f x.av x.lv l (ha.ext ea5) haw hlv (by omega)
 have v6:=v5.ext x2
 have w5:=own_l5 (CT:=CT) (h:=H.length) (p7:=H4.length) base v6.rd v6.wide x3.rd x3.wide hul
 have ea6:=ea5.trans x2
 have eb6:=(eb2.trans e25').trans x2
 have l9:=x2.le
 obtain ⟨H7,sv3,qv3,e'',d1,d2,d3,d4,d5,d6,_⟩:=of_fun2 hO base D6 (by omega) (nm:=nm) hp (hv.ext ea6) (by omega) hlb
 have svc3:=cells_of_one d3
 have qvc3:=cells_of_one d4
 obtain ⟨H8,hH8⟩:∃ H8,H7 ++ [Ob.cells 0 [sv3,qv3]]=H8:=⟨_,rfl⟩
 have e78:Ext H7 H8:=by rw [← hH8];exact Ext.app _ _
 have e28:Ext D2 H8:=((e25'.trans x2).trans d2).trans e78
 have young2:∀ id g c,H3.length≤id→getC H4 id g=some c→getC H8 id g=some c:=fun id g c hid hg=>getC_ext (young id g c hid (getC_ext hg e45)) e28
 have r1:=rows_true (CT:=CT) hR base H8 (b5 H8 young2) (d5 H8 fun id g c _ hg=>getC_ext hg e78) (by have:=flowR_len bs;omega) (fun r hr=>by have:=flowR_small (B:=2 ^ 18) (by decide) hlb r hr;omega)
 have r2:=rows_true (CT:=CT) hR base H8 (b6 H8 young2) (d6 H8 fun id g c _ hg=>getC_ext hg e78) (by rw [backG_len];have:=flowR_len bs;omega) (fun r hr=>by have:=back_le _ hr;have:=flowR_len bs;omega)
 have g78:=getC_ext g72 e28
 have g88:getC H8 H7.length 0=some [sv3,qv3]:=by rw [← hH8];exact getC_new H7 0 _
 have p1:xLoad H8 false 1 (.ref H4.length 0 0)=some sv2:=by rw [xo_ref,g78];rfl
 have p2:xLoad H8 false 1 (.ref H4.length 0 1)=some qv2:=by rw [xo_ref,g78];rfl
 have p3:xLoad H8 false 1 (.ref H7.length 0 0)=some sv3:=by rw [xo_ref,g88];rfl
 have p4:xLoad H8 false 1 (.ref H7.length 0 1)=some qv3:=by rw [xo_ref,g88];rfl
 have f1:=xf _ y2
 have f3:=xf _ eb3
 have f6:=xf _ eb6
 have i2:=xi _ eb2
 have i3:=xi _ (eb2.trans u2)
 have i5:=xi _ (eb2.trans e25')
 have ht:=hw base H8
 refine ⟨H8,callW_fnA (c:=s_f4) (k:=2) hL rfl (by decide) s_f4_first ?_⟩
 simp only [instr] at u1 v1 x1
 simp only [fnC,InsC.cells] at hHb z0 y1 a1 b1 d1 f1 f3 f6 i2 i3 i5 ⊢
 simp only [I,bl] at c1 c2 w1 w5
 have q1:base≤H2.length:=by omega
 have q2:base≤H4.length:=by omega
 have q3:base≤H7.length:=by have:=d2.le;omega
 have hs3:∀ c,(H2 ++ [c]).length=H2.length+1:=fun c=>by simp
 simp only [s_f4,a_f4,s_f4_l0_b,s_f4_l1_b,s_f4_l2_b,s_f4_l3_b,s_f4_l4_b,s_f4_l5_b,aa,bl,i64,reduceIte,reduceCtorEq,Nat.reduceEqDiff,Nat.reduceLT,Nat.reduceLeDiff,Nat.reduceBEq,Nat.reduceAdd,fillA,splice,Nat.reduceMul,amY,op_eqP,hp,hbo,hao,hlv,Bool.and_self,len_snoc,hHb,z0,y1,z1,z2,h100,f1,a1,q1,a3,a4,svc,qvc,hH3,f3,b1,q2,b3,b4,svc2,qvc2,hH5,c1,c2,i2,u1,i3,v1,w2,w1,i5,x1,w5,f6,d1,q3,d3,d4,svc3,qvc3,hH8,p1,p2,p3,p4,r1,r2,ht]
end
end Go.Proofs.Ytgimjihhlhjejaa
