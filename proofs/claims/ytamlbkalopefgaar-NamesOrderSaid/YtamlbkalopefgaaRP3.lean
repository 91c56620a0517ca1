/- Texts of the proof: NmS1. -/
import Derived.Test.YtamlbkalopefgaaRP0
import Derived.Test.YtamlbkalopefgaaRP1
import Derived.Test.YtamlbkalopefgaaRP2
import Derived.KernelRfl
import Derived.Test.YtamlbkalopefgaaRProg
set_option linter.all false
set_option maxRecDepth 100000
namespace Go.Proofs.YtamlbkalopefgaaR
open Go.AM
abbrev k_f7:Nat:=7
def K7_0:List Nat:=[1,2,3,4,5,6,7,8,9,10,11,12,13,14,15,16,17,18,19,20,21,22,23,24,25,26,27,28,29,30,31,32,33,34,35,36,37,38,39,40,41,42,43,44,45,46,47,48,49,50,51,52,53,54,55,56,57,58,59,60,61]
theorem s_f7_r0_kT:killV K7_0 (startV 62 [] 1)=[]:=by kernel_rfl
def s_f7_r0_kA0:=hK K7_0 0
def R7_0:List AOper:=[
 ⟨some 2,.move (.c (.s (.bool false))),none⟩]
def T7_0:=hT R7_0 K7_0 [] 3 [] [] [.cc (.s (.bool false))]
def R7_1:List AOper:=[
 ⟨some 6,.move (.t 0),none⟩,
 ⟨some 7,.bin .eql (.t 6) (.c (.s (.string ⟨#[]⟩))),none⟩,
 ⟨some 8,.move (.t 7),none⟩,
 ⟨some 9,.move (.t 0),some (8,false)⟩,
 ⟨some 10,.lenS .p (.t 9),some (8,false)⟩,
 ⟨some 11,.bin .gtr (.t 10) (.c (.s (.int .i64 64))),some (8,false)⟩,
 ⟨some 12,.pick (.t 8) (.c (.s (.bool true))) (.t 11),none⟩,
 ⟨some 13,.move (.t 12),none⟩,
 ⟨some 14,.move (.t 0),some (13,false)⟩,
 ⟨some 15,.bin .eql (.t 14) (.c (.s (.string ⟨#[110,117,108,108]⟩))),some (13,false)⟩,
 ⟨some 16,.pick (.t 13) (.c (.s (.bool true))) (.t 15),none⟩]
def T7_1:=hT R7_1 [6,7,8,9,10,11,12,13,14,15] [16] 17 [] [(16,(.pick (.pick (.op (.bin .eql (.t 0) (.c (.s (.string ⟨#[]⟩)))) [(.t 0),(.c (.s (.string ⟨#[]⟩)))]) (.c (.s (.bool true))) (.op (.bin .gtr (.t 0) (.c (.s (.int .i64 64)))) [(.op (.lenS .p (.t 0)) [(.t 0)]),(.c (.s (.int .i64 64)))])) (.c (.s (.bool true))) (.op (.bin .eql (.t 0) (.c (.s (.string ⟨#[110,117,108,108]⟩)))) [(.t 0),(.c (.s (.string ⟨#[110,117,108,108]⟩)))])))] [.tt 0,.sub 0 [0,0] [],.sub 0 [0,0] [],.sub 0 [0,2,0,0] [8],.sub 0 [0,2,0] [8],.sub 0 [0,2] [8],.sub 0 [0] [],.sub 0 [0] [],.sub 0 [2,0] [13],.sub 0 [2] [13],.sub 0 [] []]
def R7_2:List AOper:=[
 ⟨some 2,.move (.c (.s (.bool false))),none⟩]
def T7_2:=hT R7_2 [0,16] [2] 3 [] [(2,(.c (.s (.bool false))))] [.cc (.s (.bool false))]
def R7_3:List AOper:=[
 ⟨some 17,.move (.t 0),none⟩,
 ⟨some 18,.lenS .p (.t 17),none⟩,
 ⟨some 19,.move (.c (.s (.int .i64 0))),none⟩]
def T7_3:=hT R7_3 [16,17] [18,19] 20 [] [(18,(.op (.lenS .p (.t 0)) [(.t 0)])),(19,(.c (.s (.int .i64 0))))] [.tt 0,.sub 0 [] [],.cc (.s (.int .i64 0))]
def R7_4:List AOper:=[
 ⟨some 20,.bin .lss (.t 19) (.t 18),none⟩]
def T7_4:=hT R7_4 [] [20] 21 [] [(20,(.op (.bin .lss (.t 0) (.t 1)) [(.t 19),(.t 18)]))] [.sub 0 [] []]
def R7_5:List AOper:=[
 ⟨some 21,.move (.t 19),none⟩,
 ⟨some 3,.move (.t 21),none⟩]
def T7_5:=hT R7_5 [20,21] [3] 22 [] [(3,(.t 19))] [.tt 19,.tt 19]
def R7_6:List AOper:=[
 ⟨some 22,.move (.t 0),none⟩,
 ⟨some 23,.move (.t 3),none⟩,
 ⟨some 24,.indexStr (.t 22) (.t 23),none⟩,
 ⟨some 4,.move (.t 24),none⟩]
def T7_6:=hT R7_6 [22,23,24] [4] 25 [] [(4,(.op (.indexStr (.t 0) (.t 1)) [(.t 0),(.t 3)]))] [.tt 0,.tt 3,.sub 0 [] [],.sub 0 [] []]
def R7_7:List AOper:=[
 ⟨some 25,.move (.t 4),none⟩,
 ⟨some 26,.bin .geq (.t 25) (.c (.s (.int .u8 97))),none⟩,
 ⟨some 27,.move (.t 26),none⟩,
 ⟨some 28,.move (.t 4),some (27,true)⟩,
 ⟨some 29,.bin .leq (.t 28) (.c (.s (.int .u8 122))),some (27,true)⟩,
 ⟨some 30,.pick (.t 27) (.t 29) (.c (.s (.bool false))),none⟩,
 ⟨some 31,.move (.t 30),none⟩,
 ⟨some 32,.move (.t 4),some (31,false)⟩,
 ⟨some 33,.bin .geq (.t 32) (.c (.s (.int .u8 65))),some (31,false)⟩,
 ⟨some 34,.move (.t 33),some (31,false)⟩,
 ⟨some 35,.move (.t 4),some (34,true)⟩,
 ⟨some 36,.bin .leq (.t 35) (.c (.s (.int .u8 90))),some (34,true)⟩,
 ⟨some 37,.pick (.t 34) (.t 36) (.c (.s (.bool false))),some (31,false)⟩,
 ⟨some 38,.pick (.t 31) (.c (.s (.bool true))) (.t 37),none⟩,
 ⟨some 39,.move (.t 38),none⟩,
 ⟨some 40,.move (.t 4),some (39,false)⟩,
 ⟨some 41,.bin .eql (.t 40) (.c (.s (.int .u8 95))),some (39,false)⟩,
 ⟨some 42,.pick (.t 39) (.c (.s (.bool true))) (.t 41),none⟩,
 ⟨some 5,.move (.t 42),none⟩]
def T7_7:=hT R7_7 [25,26,27,28,29,30,31,32,33,34,35,36,37,38,39,40,41,42] [5] 43 [] [(5,(.pick (.pick (.pick (.op (.bin .geq (.t 0) (.c (.s (.int .u8 97)))) [(.t 4),(.c (.s (.int .u8 97)))]) (.op (.bin .leq (.t 0) (.c (.s (.int .u8 122)))) [(.t 4),(.c (.s (.int .u8 122)))]) (.c (.s (.bool false)))) (.c (.s (.bool true))) (.pick (.op (.bin .geq (.t 0) (.c (.s (.int .u8 65)))) [(.t 4),(.c (.s (.int .u8 65)))]) (.op (.bin .leq (.t 0) (.c (.s (.int .u8 90)))) [(.t 4),(.c (.s (.int .u8 90)))]) (.c (.s (.bool false))))) (.c (.s (.bool true))) (.op (.bin .eql (.t 0) (.c (.s (.int .u8 95)))) [(.t 4),(.c (.s (.int .u8 95)))])))] [.tt 4,.sub 0 [0,0,0] [],.sub 0 [0,0,0] [],.sub 0 [0,0,1,0] [27],.sub 0 [0,0,1] [27],.sub 0 [0,0] [],.sub 0 [0,0] [],.sub 0 [0,2,0,0] [31],.sub 0 [0,2,0] [31],.sub 0 [0,2,0] [31],.sub 0 [0,2,1,0] [31,34],.sub 0 [0,2,1] [31,34],.sub 0 [0,2] [31],.sub 0 [0] [],.sub 0 [0] [],.sub 0 [2,0] [39],.sub 0 [2] [39],.sub 0 [] [],.sub 0 [] []]
def R7_8:List AOper:=[
 ⟨some 43,.move (.t 5),none⟩,
 ⟨some 44,.un .not (.t 43),none⟩,
 ⟨some 45,.move (.t 44),none⟩,
 ⟨some 46,.move (.t 3),some (45,true)⟩,
 ⟨some 47,.bin .eql (.t 46) (.c (.s (.int .i64 0))),some (45,true)⟩,
 ⟨some 48,.move (.t 47),some (45,true)⟩,
 ⟨some 49,.move (.t 4),some (48,false)⟩,
 ⟨some 50,.bin .lss (.t 49) (.c (.s (.int .u8 48))),some (48,false)⟩,
 ⟨some 51,.move (.t 50),some (48,false)⟩,
 ⟨some 52,.move (.t 4),some (51,false)⟩,
 ⟨some 53,.bin .gtr (.t 52) (.c (.s (.int .u8 57))),some (51,false)⟩,
 ⟨some 54,.pick (.t 51) (.c (.s (.bool true))) (.t 53),some (48,false)⟩,
 ⟨some 55,.move (.t 54),some (48,false)⟩,
 ⟨some 56,.move (.t 4),some (55,true)⟩,
 ⟨some 57,.bin .neq (.t 56) (.c (.s (.int .u8 46))),some (55,true)⟩,
 ⟨some 58,.pick (.t 55) (.t 57) (.c (.s (.bool false))),some (48,false)⟩,
 ⟨some 59,.pick (.t 48) (.c (.s (.bool true))) (.t 58),some (45,true)⟩,
 ⟨some 60,.pick (.t 45) (.t 59) (.c (.s (.bool false))),none⟩]
def T7_8:=hT R7_8 [3,4,5,43,44,45,46,47,48,49,50,51,52,53,54,55,56,57,58,59] [60] 61 [] [(60,(.pick (.op (.un .not (.t 0)) [(.t 5)]) (.pick (.op (.bin .eql (.t 0) (.c (.s (.int .i64 0)))) [(.t 3),(.c (.s (.int .i64 0)))]) (.c (.s (.bool true))) (.pick (.pick (.op (.bin .lss (.t 0) (.c (.s (.int .u8 48)))) [(.t 4),(.c (.s (.int .u8 48)))]) (.c (.s (.bool true))) (.op (.bin .gtr (.t 0) (.c (.s (.int .u8 57)))) [(.t 4),(.c (.s (.int .u8 57)))])) (.op (.bin .neq (.t 0) (.c (.s (.int .u8 46)))) [(.t 4),(.c (.s (.int .u8 46)))]) (.c (.s (.bool false))))) (.c (.s (.bool false)))))] [.tt 5,.sub 0 [0] [],.sub 0 [0] [],.sub 0 [1,0,0] [45],.sub 0 [1,0] [45],.sub 0 [1,0] [45],.sub 0 [1,2,0,0,0] [45,48],.sub 0 [1,2,0,0] [45,48],.sub 0 [1,2,0,0] [45,48],.sub 0 [1,2,0,2,0] [45,48,51],.sub 0 [1,2,0,2] [45,48,51],.sub 0 [1,2,0] [45,48],.sub 0 [1,2,0] [45,48],.sub 0 [1,2,1,0] [45,48,55],.sub 0 [1,2,1] [45,48,55],.sub 0 [1,2] [45,48],.sub 0 [1] [45],.sub 0 [] []]
def R7_9:List AOper:=[
 ⟨some 2,.move (.c (.s (.bool false))),none⟩]
def T7_9:=hT R7_9 [0,18,19,60] [2] 3 [] [(2,(.c (.s (.bool false))))] [.cc (.s (.bool false))]
def R7_10:List AOper:=[
 ⟨some 61,.bin .add (.t 19) (.c (.s (.int .i64 1))),none⟩,
 ⟨some 19,.move (.t 61),none⟩]
def T7_10:=hT R7_10 [60,61] [19] 62 [] [(19,(.op (.bin .add (.t 0) (.c (.s (.int .i64 1)))) [(.t 19),(.c (.s (.int .i64 1)))]))] [.sub 0 [] [],.sub 0 [] []]
def s_f7_l0_b:ACode:=
 (.seq (.regionE R7_4 [] [20])
 (.seq (.cond (.t 20)
 .skip
 (.exit 0))
 (.seq (.block 1
 (.seq (.regionE R7_5 [20,21] [3])
 (.seq (.regionE R7_6 [22,23,24] [4])
 (.seq (.regionE R7_7 [25,26,27,28,29,30,31,32,33,34,35,36,37,38,39,40,41,42] [5])
 (.seq (.regionE R7_8 [3,4,5,43,44,45,46,47,48,49,50,51,52,53,54,55,56,57,58,59] [60])
 (.cond (.t 60)
 (.seq (.regionE R7_9 [0,18,19,60] [2])
 .ret)
 .skip))))))
 (.regionE R7_10 [60,61] [19]))))
def s_f7_l0:ACode:=s_f7_l0_b
def s_f7_l0_ev:=hE s_f7_l0 s_f7_l0_b
def R7_11:List AOper:=[
 ⟨some 2,.move (.c (.s (.bool true))),none⟩]
def T7_11:=hT R7_11 [0,18,19,20] [2] 3 [] [(2,(.c (.s (.bool true))))] [.cc (.s (.bool true))]
def s_f7:ACFun:={ ntmps:=62,results:=[(.tmp 2)],body:=
 (.seq (.regionE R7_0 K7_0 [])
 (.seq (.seq (.regionE R7_1 [6,7,8,9,10,11,12,13,14,15] [16])
 (.cond (.t 16)
 (.seq (.regionE R7_2 [0,16] [2])
 .ret)
 .skip))
 (.seq (.seq (.regionE R7_3 [16,17] [18,19])
 (.block 0
 (.loop [] s_f7_l0)))
 (.seq (.regionE R7_11 [0,18,19,20] [2])
 .ret)))) }
abbrev k_f10:Nat:=10
def K10_0:List Nat:=[0,2,3,4,5,6,7,8,9,10,11,12,13,14,15,16,17,18,19,20,21,22,23,24,25,26,27,28,29,30,31,32,33,34,35,36,37,38,39,40,41,42,43,44,45,46,47,48,49,50,51,52,53,54,55,56,57,58,59,60,61,62,63,64,65,66,67,68,69,70,71,72,73,74,75,76,77,78,79,80,81,82,83,84,85,86,87,88,89,90,91,92,93,94,95,96,97,98,99,100,101,102,103,104,105,106,107,108,109,110,111,112,113,114,115,116,117,118,119,120,121,122,123,124,125,126,127,128,129,130,131,132]
theorem A10_0_0:K10_0.contains 0=true:=by kernel_rfl
def A10_0_1:=hK K10_0 1
theorem A10_0_2:K10_0.contains 2=true:=by kernel_rfl
def R10_0t1:List AOper:=[⟨some 2,.move (.c (.s (.bool false))),none⟩]
def R10_0p0:List AOper:=[⟨some 1,.box (.t 0),none⟩]
def R10_0:List AOper:=R10_0p0 ++ R10_0t1
def K10_0p0:List Nat:=[0,2,3,4,5,6,7,8,9,10,11,12,13,14,15,16,17,18,19,20,21,22,23,24,25,26,27,28,29,30,31,32,33,34,35,36,37,38,39,40,41,42,43,44,45,46,47,48,49,50,51,52,53,54,55,56,57,58,59,60,61,62,63,64,65,66,67,68,69,70,71,72,73,74,75,76,77,78,79,80,81,82,83,84,85,86,87,88,89,90,91,92,93,94,95,96,97,98,99,100,101,102,103,104,105,106,107,108,109,110,111,112,113,114,115,116,117,118,119,120,121,122,123,124,125,126,127,128,129,130,131,132]
theorem A10_0p0_0:K10_0p0.contains 0=true:=by kernel_rfl
def A10_0p0_1:=hK K10_0p0 1
theorem A10_0p0_2:K10_0p0.contains 2=true:=by kernel_rfl
theorem X10_0 (call:CallF) (it:IterF) (base:Nat) (f:List V) (H:Heap):evC call it base (.region R10_0 [] K10_0) f H=thenC call it base (.region R10_0t1 [] K10_0) (opsC [] R10_0p0 K10_0p0 (evOps call base [⟨some 1,.box (.t 0),none⟩] f H)):=(row_op call it base R10_0p0 R10_0t1 (kc:=K10_0p0) (by kernel_rfl) f H).trans (by rw [row_ops];rfl)
def T10_0t1:=hT R10_0t1 K10_0 [] 3 [] [] [.cc (.s (.bool false))]
def X10_0t1:=hL R10_0t1 K10_0 []
def R10_1:List AOper:=[
 ⟨some 10,.fieldAddr 0 (.t 1),none⟩,
 ⟨some 11,.load false 1 (.t 10),none⟩,
 ⟨some 12,.lenS .s (.t 11),none⟩,
 ⟨some 13,.bin .gtr (.t 12) (.c (.s (.int .i64 70))),none⟩]
def T10_1:=hT R10_1 [10,11,12] [13] 14 [] [(13,(.op (.bin .gtr (.t 0) (.c (.s (.int .i64 70)))) [(.op (.lenS .s (.t 0)) [(.op (.load false 1 (.t 0)) [(.op (.fieldAddr 0 (.t 0)) [(.t 1)])])]),(.c (.s (.int .i64 70)))]))] [.sub 0 [0,0,0] [],.sub 0 [0,0] [],.sub 0 [0] [],.sub 0 [] []]
def R10_2:List AOper:=[
 ⟨some 2,.move (.c (.s (.bool true))),none⟩]
def T10_2:=hT R10_2 [1,13] [2] 3 [] [(2,(.c (.s (.bool true))))] [.cc (.s (.bool true))]
def R10_3:List AOper:=[
 ⟨some 3,.move (.c (.s (.int .i64 0))),none⟩]
def T10_3:=hT R10_3 [13] [3] 4 [] [(3,(.c (.s (.int .i64 0))))] [.cc (.s (.int .i64 0))]
def R10_4:List AOper:=[
 ⟨some 4,.move (.c (.s (.int .i64 0))),none⟩]
def T10_4:=hT R10_4 [] [4] 5 [] [(4,(.c (.s (.int .i64 0))))] [.cc (.s (.int .i64 0))]
def R10_5:List AOper:=[
 ⟨some 14,.move (.t 4),none⟩,
 ⟨some 15,.fieldAddr 0 (.t 1),none⟩,
 ⟨some 16,.load false 1 (.t 15),none⟩,
 ⟨some 17,.lenS .s (.t 16),none⟩,
 ⟨some 18,.bin .lss (.t 14) (.t 17),none⟩]
def T10_5:=hT R10_5 [14,15,16,17] [18] 19 [] [(18,(.op (.bin .lss (.t 0) (.t 1)) [(.t 4),(.op (.lenS .s (.t 0)) [(.op (.load false 1 (.t 0)) [(.op (.fieldAddr 0 (.t 0)) [(.t 1)])])])]))] [.tt 4,.sub 0 [1,0,0] [],.sub 0 [1,0] [],.sub 0 [1] [],.sub 0 [] []]
def R10_6t2:List AOper:=[⟨none,.store 3 (.t 5) (.t 25),none⟩]
def R10_6p1:List AOper:=[⟨some 5,.alloc [(.s (.string ⟨#[]⟩)),(.s (.slice none 0 0)),(.s (.slice none 0 0))],none⟩]
def R10_6t1:List AOper:=R10_6p1 ++ R10_6t2
def R10_6p0:List AOper:=[⟨some 21,.fieldAddr 0 (.t 1),none⟩,⟨some 22,.load false 1 (.t 21),none⟩,⟨some 23,.move (.t 4),none⟩,⟨some 24,.indexAddr 3 (.t 22) (.t 23),none⟩,⟨some 25,.load true 3 (.t 24),none⟩]
def R10_6:List AOper:=R10_6p0 ++ R10_6t1
def T10_6p0:=hT R10_6p0 [18,21,22,23,24] [25] 26 [] [(25,(.op (.load true 3 (.t 0)) [(.op (.indexAddr 3 (.t 0) (.t 1)) [(.op (.load false 1 (.t 0)) [(.op (.fieldAddr 0 (.t 0)) [(.t 1)])]),(.t 4)])]))] [.sub 0 [0,0,0] [],.sub 0 [0,0] [],.tt 4,.sub 0 [0] [],.sub 0 [] []]
def X10_6:=hS R10_6 R10_6p0 R10_6t1 [18,21,22,23,24] [25] [18,21,22,23,24,25]
def X10_6t1:=hO R10_6t1 R10_6p1 R10_6t2 [] [18,21,22,23,24,25] [⟨some 5,.alloc [(.s (.string ⟨#[]⟩)),(.s (.slice none 0 0)),(.s (.slice none 0 0))],none⟩]
def X10_6t2:=hX R10_6t2 [18,21,22,23,24,25] [⟨none,.store 3 (.t 5) (.t 25),none⟩]
def R10_7t4:List AOper:=[⟨some 46,.pick (.t 42) (.c (.s (.bool true))) (.t 45),none⟩]
def R10_7p3:List AOper:=[⟨some 45,.call (.c (.fn 20 [] [])) [(.t 44)],some (42,false)⟩]
def R10_7t3:List AOper:=R10_7p3 ++ R10_7t4
def R10_7p2:List AOper:=[⟨some 44,.load false 1 (.t 43),some (42,false)⟩]
def R10_7t2:List AOper:=R10_7p2 ++ R10_7t3
def R10_7p1:List AOper:=[⟨some 43,.fieldAddr 1 (.t 5),some (42,false)⟩]
def R10_7t1:List AOper:=R10_7p1 ++ R10_7t2
def R10_7p0:List AOper:=[⟨some 26,.fieldAddr 0 (.t 5),none⟩,⟨some 27,.load false 1 (.t 26),none⟩,⟨some 28,.lenS .p (.t 27),none⟩,⟨some 29,.bin .gtr (.t 28) (.c (.s (.int .i64 200))),none⟩,⟨some 30,.move (.t 29),none⟩,⟨some 31,.fieldAddr 1 (.t 5),some (30,false)⟩,⟨some 32,.load false 1 (.t 31),some (30,false)⟩,⟨some 33,.lenS .s (.t 32),some (30,false)⟩,⟨some 34,.bin .gtr (.t 33) (.c (.s (.int .i64 20))),some (30,false)⟩,⟨some 35,.pick (.t 30) (.c (.s (.bool true))) (.t 34),none⟩,⟨some 36,.move (.t 35),none⟩,⟨some 37,.fieldAddr 2 (.t 5),some (36,false)⟩,⟨some 38,.load false 1 (.t 37),some (36,false)⟩,⟨some 39,.lenS .s (.t 38),some (36,false)⟩,⟨some 40,.bin .gtr (.t 39) (.c (.s (.int .i64 70))),some (36,false)⟩,⟨some 41,.pick (.t 36) (.c (.s (.bool true))) (.t 40),none⟩,⟨some 42,.move (.t 41),none⟩]
def R10_7:List AOper:=R10_7p0 ++ R10_7t1
def T10_7p0:=hT R10_7p0 [26,27,28,29,30,31,32,33,34,35,36,37,38,39,40,41] [42] 43 [] [(42,(.pick (.pick (.op (.bin .gtr (.t 0) (.c (.s (.int .i64 200)))) [(.op (.lenS .p (.t 0)) [(.op (.load false 1 (.t 0)) [(.op (.fieldAddr 0 (.t 0)) [(.t 5)])])]),(.c (.s (.int .i64 200)))]) (.c (.s (.bool true))) (.op (.bin .gtr (.t 0) (.c (.s (.int .i64 20)))) [(.op (.lenS .s (.t 0)) [(.op (.load false 1 (.t 0)) [(.op (.fieldAddr 1 (.t 0)) [(.t 5)])])]),(.c (.s (.int .i64 20)))])) (.c (.s (.bool true))) (.op (.bin .gtr (.t 0) (.c (.s (.int .i64 70)))) [(.op (.lenS .s (.t 0)) [(.op (.load false 1 (.t 0)) [(.op (.fieldAddr 2 (.t 0)) [(.t 5)])])]),(.c (.s (.int .i64 70)))])))] [.sub 0 [0,0,0,0,0] [],.sub 0 [0,0,0,0] [],.sub 0 [0,0,0] [],.sub 0 [0,0] [],.sub 0 [0,0] [],.sub 0 [0,2,0,0,0] [30],.sub 0 [0,2,0,0] [30],.sub 0 [0,2,0] [30],.sub 0 [0,2] [30],.sub 0 [0] [],.sub 0 [0] [],.sub 0 [2,0,0,0] [36],.sub 0 [2,0,0] [36],.sub 0 [2,0] [36],.sub 0 [2] [36],.sub 0 [] [],.sub 0 [] []]
def X10_7:=hS R10_7 R10_7p0 R10_7t1 [26,27,28,29,30,31,32,33,34,35,36,37,38,39,40,41] [42] [26,27,28,29,30,31,32,33,34,35,36,37,38,39,40,41,42,43,44,45]
def X10_7t1:=hO R10_7t1 R10_7p1 R10_7t2 [] [26,27,28,29,30,31,32,33,34,35,36,37,38,39,40,41,42,43,44,45] [⟨some 43,.fieldAddr 1 (.t 5),some (42,false)⟩]
def X10_7t2:=hO R10_7t2 R10_7p2 R10_7t3 [43] [26,27,28,29,30,31,32,33,34,35,36,37,38,39,40,41,42,43,44,45] [⟨some 44,.load false 1 (.t 43),some (42,false)⟩]
def X10_7t3:=hO R10_7t3 R10_7p3 R10_7t4 [44] [26,27,28,29,30,31,32,33,34,35,36,37,38,39,40,41,42,43,44,45] [⟨some 45,.call (.c (.fn 20 [] [])) [(.t 44)],some (42,false)⟩]
def T10_7t4:=hT R10_7t4 [26,27,28,29,30,31,32,33,34,35,36,37,38,39,40,41,42,43,44,45] [46] 47 [] [(46,(.pick (.t 42) (.c (.s (.bool true))) (.t 45)))] [.sub 0 [] []]
def X10_7t4:=hL R10_7t4 [26,27,28,29,30,31,32,33,34,35,36,37,38,39,40,41,42,43,44,45] [46]
def R10_8:List AOper:=[
 ⟨some 2,.move (.c (.s (.bool true))),none⟩]
def T10_8:=hT R10_8 [1,3,4,5,46] [2] 3 [] [(2,(.c (.s (.bool true))))] [.cc (.s (.bool true))]
def R10_9:List AOper:=[
 ⟨some 6,.move (.c (.s (.int .i64 0))),none⟩]
def T10_9:=hT R10_9 [46] [6] 7 [] [(6,(.c (.s (.int .i64 0))))] [.cc (.s (.int .i64 0))]
def R10_10:List AOper:=[
 ⟨some 47,.move (.t 6),none⟩,
 ⟨some 48,.fieldAddr 2 (.t 5),none⟩,
 ⟨some 49,.load false 1 (.t 48),none⟩,
 ⟨some 50,.lenS .s (.t 49),none⟩,
 ⟨some 51,.bin .lss (.t 47) (.t 50),none⟩]
def T10_10:=hT R10_10 [47,48,49,50] [51] 52 [] [(51,(.op (.bin .lss (.t 0) (.t 1)) [(.t 6),(.op (.lenS .s (.t 0)) [(.op (.load false 1 (.t 0)) [(.op (.fieldAddr 2 (.t 0)) [(.t 5)])])])]))] [.tt 6,.sub 0 [1,0,0] [],.sub 0 [1,0] [],.sub 0 [1] [],.sub 0 [] []]
def R10_11:List AOper:=[
 ⟨some 54,.fieldAddr 2 (.t 5),none⟩,
 ⟨some 55,.load false 1 (.t 54),none⟩,
 ⟨some 56,.move (.t 6),none⟩,
 ⟨some 57,.indexAddr 2 (.t 55) (.t 56),none⟩,
 ⟨some 58,.fieldAddr 1 (.t 57),none⟩,
 ⟨some 59,.load false 1 (.t 58),none⟩,
 ⟨some 7,.move (.t 59),none⟩]
def T10_11:=hT R10_11 [51,54,55,56,57,58,59] [7] 60 [] [(7,(.op (.load false 1 (.t 0)) [(.op (.fieldAddr 1 (.t 0)) [(.op (.indexAddr 2 (.t 0) (.t 1)) [(.op (.load false 1 (.t 0)) [(.op (.fieldAddr 2 (.t 0)) [(.t 5)])]),(.t 6)])])]))] [.sub 0 [0,0,0,0] [],.sub 0 [0,0,0] [],.tt 6,.sub 0 [0,0] [],.sub 0 [0] [],.sub 0 [] [],.sub 0 [] []]
def R10_12:List AOper:=[
 ⟨some 60,.move (.t 7),none⟩,
 ⟨some 61,.lenS .s (.t 60),none⟩,
 ⟨some 62,.move (.t 3),none⟩,
 ⟨some 63,.bin .sub (.c (.s (.int .i64 200))) (.t 62),none⟩,
 ⟨some 64,.bin .gtr (.t 61) (.t 63),none⟩,
 ⟨some 65,.move (.t 64),none⟩,
 ⟨some 66,.fieldAddr 2 (.t 5),some (65,false)⟩,
 ⟨some 67,.load false 1 (.t 66),some (65,false)⟩,
 ⟨some 68,.move (.t 6),some (65,false)⟩,
 ⟨some 69,.indexAddr 2 (.t 67) (.t 68),some (65,false)⟩,
 ⟨some 70,.fieldAddr 0 (.t 69),some (65,false)⟩,
 ⟨some 71,.load false 1 (.t 70),some (65,false)⟩,
 ⟨some 72,.lenS .p (.t 71),some (65,false)⟩,
 ⟨some 73,.bin .gtr (.t 72) (.c (.s (.int .i64 200))),some (65,false)⟩,
 ⟨some 74,.pick (.t 65) (.c (.s (.bool true))) (.t 73),none⟩]
def T10_12:=hT R10_12 [60,61,62,63,64,65,66,67,68,69,70,71,72,73] [74] 75 [] [(74,(.pick (.op (.bin .gtr (.t 0) (.t 1)) [(.op (.lenS .s (.t 0)) [(.t 7)]),(.op (.bin .sub (.c (.s (.int .i64 200))) (.t 1)) [(.c (.s (.int .i64 200))),(.t 3)])]) (.c (.s (.bool true))) (.op (.bin .gtr (.t 0) (.c (.s (.int .i64 200)))) [(.op (.lenS .p (.t 0)) [(.op (.load false 1 (.t 0)) [(.op (.fieldAddr 0 (.t 0)) [(.op (.indexAddr 2 (.t 0) (.t 1)) [(.op (.load false 1 (.t 0)) [(.op (.fieldAddr 2 (.t 0)) [(.t 5)])]),(.t 6)])])])]),(.c (.s (.int .i64 200)))])))] [.tt 7,.sub 0 [0,0] [],.tt 3,.sub 0 [0,1] [],.sub 0 [0] [],.sub 0 [0] [],.sub 0 [2,0,0,0,0,0,0] [65],.sub 0 [2,0,0,0,0,0] [65],.sub 0 [2,0,0,0,0,1] [65],.sub 0 [2,0,0,0,0] [65],.sub 0 [2,0,0,0] [65],.sub 0 [2,0,0] [65],.sub 0 [2,0] [65],.sub 0 [2] [65],.sub 0 [] []]
def R10_13:List AOper:=[
 ⟨some 2,.move (.c (.s (.bool true))),none⟩]
def T10_13:=hT R10_13 [1,3,4,5,6,7,74] [2] 3 [] [(2,(.c (.s (.bool true))))] [.cc (.s (.bool true))]
def R10_14:List AOper:=[
 ⟨some 75,.move (.t 3),none⟩,
 ⟨some 76,.move (.t 7),none⟩,
 ⟨some 77,.lenS .s (.t 76),none⟩,
 ⟨some 78,.bin .add (.t 75) (.t 77),none⟩,
 ⟨some 3,.move (.t 78),none⟩]
def T10_14:=hT R10_14 [74,75,76,77,78] [3] 79 [] [(3,(.op (.bin .add (.t 0) (.t 1)) [(.t 3),(.op (.lenS .s (.t 0)) [(.t 7)])]))] [.tt 3,.tt 7,.sub 0 [1] [],.sub 0 [] [],.sub 0 [] []]
def R10_15:List AOper:=[
 ⟨some 8,.move (.c (.s (.int .i64 0))),none⟩]
def T10_15:=hT R10_15 [] [8] 9 [] [(8,(.c (.s (.int .i64 0))))] [.cc (.s (.int .i64 0))]
def R10_16:List AOper:=[
 ⟨some 79,.move (.t 8),none⟩,
 ⟨some 80,.move (.t 7),none⟩,
 ⟨some 81,.lenS .s (.t 80),none⟩,
 ⟨some 82,.bin .lss (.t 79) (.t 81),none⟩]
def T10_16:=hT R10_16 [79,80,81] [82] 83 [] [(82,(.op (.bin .lss (.t 0) (.t 1)) [(.t 8),(.op (.lenS .s (.t 0)) [(.t 7)])]))] [.tt 8,.tt 7,.sub 0 [1] [],.sub 0 [] []]
def R10_17t2:List AOper:=[⟨none,.store 8 (.t 9) (.t 88),none⟩]
def R10_17p1:List AOper:=[⟨some 9,.alloc [(.s (.int .u8 0)),(.s (.string ⟨#[]⟩)),(.s (.string ⟨#[]⟩)),(.s (.string ⟨#[]⟩)),(.s (.int .i64 0)),(.s (.string ⟨#[]⟩)),(.s (.slice none 0 0)),(.s (.slice none 0 0))],none⟩]
def R10_17t1:List AOper:=R10_17p1 ++ R10_17t2
def R10_17p0:List AOper:=[⟨some 85,.move (.t 7),none⟩,⟨some 86,.move (.t 8),none⟩,⟨some 87,.indexAddr 8 (.t 85) (.t 86),none⟩,⟨some 88,.load true 8 (.t 87),none⟩]
def R10_17:List AOper:=R10_17p0 ++ R10_17t1
def T10_17p0:=hT R10_17p0 [82,85,86,87] [88] 89 [] [(88,(.op (.load true 8 (.t 0)) [(.op (.indexAddr 8 (.t 0) (.t 1)) [(.t 7),(.t 8)])]))] [.tt 7,.tt 8,.sub 0 [0] [],.sub 0 [] []]
def X10_17:=hS R10_17 R10_17p0 R10_17t1 [82,85,86,87] [88] [82,85,86,87,88]
def X10_17t1:=hO R10_17t1 R10_17p1 R10_17t2 [] [82,85,86,87,88] [⟨some 9,.alloc [(.s (.int .u8 0)),(.s (.string ⟨#[]⟩)),(.s (.string ⟨#[]⟩)),(.s (.string ⟨#[]⟩)),(.s (.int .i64 0)),(.s (.string ⟨#[]⟩)),(.s (.slice none 0 0)),(.s (.slice none 0 0))],none⟩]
def X10_17t2:=hX R10_17t2 [82,85,86,87,88] [⟨none,.store 8 (.t 9) (.t 88),none⟩]
def R10_18t8:List AOper:=[⟨some 132,.pick (.t 128) (.c (.s (.bool true))) (.t 131),none⟩]
def R10_18p7:List AOper:=[⟨some 131,.call (.c (.fn 20 [] [])) [(.t 130)],some (128,false)⟩]
def R10_18t7:List AOper:=R10_18p7 ++ R10_18t8
def R10_18p6:List AOper:=[⟨some 130,.load false 1 (.t 129),some (128,false)⟩]
def R10_18t6:List AOper:=R10_18p6 ++ R10_18t7
def R10_18p5:List AOper:=[⟨some 129,.fieldAddr 7 (.t 9),some (128,false)⟩]
def R10_18t5:List AOper:=R10_18p5 ++ R10_18t6
def R10_18p4:List AOper:=[⟨some 127,.pick (.t 123) (.c (.s (.bool true))) (.t 126),none⟩,⟨some 128,.move (.t 127),none⟩]
def R10_18t4:List AOper:=R10_18p4 ++ R10_18t5
def R10_18p3:List AOper:=[⟨some 126,.call (.c (.fn 20 [] [])) [(.t 125)],some (123,false)⟩]
def R10_18t3:List AOper:=R10_18p3 ++ R10_18t4
def R10_18p2:List AOper:=[⟨some 125,.load false 1 (.t 124),some (123,false)⟩]
def R10_18t2:List AOper:=R10_18p2 ++ R10_18t3
def R10_18p1:List AOper:=[⟨some 124,.fieldAddr 6 (.t 9),some (123,false)⟩]
def R10_18t1:List AOper:=R10_18p1 ++ R10_18t2
def R10_18p0:List AOper:=[⟨some 89,.fieldAddr 1 (.t 9),none⟩,⟨some 90,.load false 1 (.t 89),none⟩,⟨some 91,.lenS .p (.t 90),none⟩,⟨some 92,.bin .gtr (.t 91) (.c (.s (.int .i64 200))),none⟩,⟨some 93,.move (.t 92),none⟩,⟨some 94,.fieldAddr 2 (.t 9),some (93,false)⟩,⟨some 95,.load false 1 (.t 94),some (93,false)⟩,⟨some 96,.lenS .p (.t 95),some (93,false)⟩,⟨some 97,.bin .gtr (.t 96) (.c (.s (.int .i64 200))),some (93,false)⟩,⟨some 98,.pick (.t 93) (.c (.s (.bool true))) (.t 97),none⟩,⟨some 99,.move (.t 98),none⟩,⟨some 100,.fieldAddr 3 (.t 9),some (99,false)⟩,⟨some 101,.load false 1 (.t 100),some (99,false)⟩,⟨some 102,.lenS .p (.t 101),some (99,false)⟩,⟨some 103,.bin .gtr (.t 102) (.c (.s (.int .i64 200))),some (99,false)⟩,⟨some 104,.pick (.t 99) (.c (.s (.bool true))) (.t 103),none⟩,⟨some 105,.move (.t 104),none⟩,⟨some 106,.fieldAddr 5 (.t 9),some (105,false)⟩,⟨some 107,.load false 1 (.t 106),some (105,false)⟩,⟨some 108,.lenS .p (.t 107),some (105,false)⟩,⟨some 109,.bin .gtr (.t 108) (.c (.s (.int .i64 200))),some (105,false)⟩,⟨some 110,.pick (.t 105) (.c (.s (.bool true))) (.t 109),none⟩,⟨some 111,.move (.t 110),none⟩,⟨some 112,.fieldAddr 6 (.t 9),some (111,false)⟩,⟨some 113,.load false 1 (.t 112),some (111,false)⟩,⟨some 114,.lenS .s (.t 113),some (111,false)⟩,⟨some 115,.bin .gtr (.t 114) (.c (.s (.int .i64 20))),some (111,false)⟩,⟨some 116,.pick (.t 111) (.c (.s (.bool true))) (.t 115),none⟩,⟨some 117,.move (.t 116),none⟩,⟨some 118,.fieldAddr 7 (.t 9),some (117,false)⟩,⟨some 119,.load false 1 (.t 118),some (117,false)⟩,⟨some 120,.lenS .s (.t 119),some (117,false)⟩,⟨some 121,.bin .gtr (.t 120) (.c (.s (.int .i64 20))),some (117,false)⟩,⟨some 122,.pick (.t 117) (.c (.s (.bool true))) (.t 121),none⟩,⟨some 123,.move (.t 122),none⟩]
def R10_18:List AOper:=R10_18p0 ++ R10_18t1
def T10_18p0:=hT R10_18p0 [89,90,91,92,93,94,95,96,97,98,99,100,101,102,103,104,105,106,107,108,109,110,111,112,113,114,115,116,117,118,119,120,121,122] [123] 124 [] [(123,(.pick (.pick (.pick (.pick (.pick (.op (.bin .gtr (.t 0) (.c (.s (.int .i64 200)))) [(.op (.lenS .p (.t 0)) [(.op (.load false 1 (.t 0)) [(.op (.fieldAddr 1 (.t 0)) [(.t 9)])])]),(.c (.s (.int .i64 200)))]) (.c (.s (.bool true))) (.op (.bin .gtr (.t 0) (.c (.s (.int .i64 200)))) [(.op (.lenS .p (.t 0)) [(.op (.load false 1 (.t 0)) [(.op (.fieldAddr 2 (.t 0)) [(.t 9)])])]),(.c (.s (.int .i64 200)))])) (.c (.s (.bool true))) (.op (.bin .gtr (.t 0) (.c (.s (.int .i64 200)))) [(.op (.lenS .p (.t 0)) [(.op (.load false 1 (.t 0)) [(.op (.fieldAddr 3 (.t 0)) [(.t 9)])])]),(.c (.s (.int .i64 200)))])) (.c (.s (.bool true))) (.op (.bin .gtr (.t 0) (.c (.s (.int .i64 200)))) [(.op (.lenS .p (.t 0)) [(.op (.load false 1 (.t 0)) [(.op (.fieldAddr 5 (.t 0)) [(.t 9)])])]),(.c (.s (.int .i64 200)))])) (.c (.s (.bool true))) (.op (.bin .gtr (.t 0) (.c (.s (.int .i64 20)))) [(.op (.lenS .s (.t 0)) [(.op (.load false 1 (.t 0)) [(.op (.fieldAddr 6 (.t 0)) [(.t 9)])])]),(.c (.s (.int .i64 20)))])) (.c (.s (.bool true))) (.op (.bin .gtr (.t 0) (.c (.s (.int .i64 20)))) [(.op (.lenS .s (.t 0)) [(.op (.load false 1 (.t 0)) [(.op (.fieldAddr 7 (.t 0)) [(.t 9)])])]),(.c (.s (.int .i64 20)))])))] [.sub 0 [0,0,0,0,0,0,0,0] [],.sub 0 [0,0,0,0,0,0,0] [],.sub 0 [0,0,0,0,0,0] [],.sub 0 [0,0,0,0,0] [],.sub 0 [0,0,0,0,0] [],.sub 0 [0,0,0,0,2,0,0,0] [93],.sub 0 [0,0,0,0,2,0,0] [93],.sub 0 [0,0,0,0,2,0] [93],.sub 0 [0,0,0,0,2] [93],.sub 0 [0,0,0,0] [],.sub 0 [0,0,0,0] [],.sub 0 [0,0,0,2,0,0,0] [99],.sub 0 [0,0,0,2,0,0] [99],.sub 0 [0,0,0,2,0] [99],.sub 0 [0,0,0,2] [99],.sub 0 [0,0,0] [],.sub 0 [0,0,0] [],.sub 0 [0,0,2,0,0,0] [105],.sub 0 [0,0,2,0,0] [105],.sub 0 [0,0,2,0] [105],.sub 0 [0,0,2] [105],.sub 0 [0,0] [],.sub 0 [0,0] [],.sub 0 [0,2,0,0,0] [111],.sub 0 [0,2,0,0] [111],.sub 0 [0,2,0] [111],.sub 0 [0,2] [111],.sub 0 [0] [],.sub 0 [0] [],.sub 0 [2,0,0,0] [117],.sub 0 [2,0,0] [117],.sub 0 [2,0] [117],.sub 0 [2] [117],.sub 0 [] [],.sub 0 [] []]
def X10_18:=hS R10_18 R10_18p0 R10_18t1 [89,90,91,92,93,94,95,96,97,98,99,100,101,102,103,104,105,106,107,108,109,110,111,112,113,114,115,116,117,118,119,120,121,122] [123] [9,89,90,91,92,93,94,95,96,97,98,99,100,101,102,103,104,105,106,107,108,109,110,111,112,113,114,115,116,117,118,119,120,121,122,123,124,125,126,127,128,129,130,131]
def X10_18t1:=hO R10_18t1 R10_18p1 R10_18t2 [] [9,89,90,91,92,93,94,95,96,97,98,99,100,101,102,103,104,105,106,107,108,109,110,111,112,113,114,115,116,117,118,119,120,121,122,123,124,125,126,127,128,129,130,131] [⟨some 124,.fieldAddr 6 (.t 9),some (123,false)⟩]
def X10_18t2:=hO R10_18t2 R10_18p2 R10_18t3 [124] [9,89,90,91,92,93,94,95,96,97,98,99,100,101,102,103,104,105,106,107,108,109,110,111,112,113,114,115,116,117,118,119,120,121,122,123,124,125,126,127,128,129,130,131] [⟨some 125,.load false 1 (.t 124),some (123,false)⟩]
def X10_18t3:=hO R10_18t3 R10_18p3 R10_18t4 [125] [9,89,90,91,92,93,94,95,96,97,98,99,100,101,102,103,104,105,106,107,108,109,110,111,112,113,114,115,116,117,118,119,120,121,122,123,124,125,126,127,128,129,130,131] [⟨some 126,.call (.c (.fn 20 [] [])) [(.t 125)],some (123,false)⟩]
def T10_18p4:=hT R10_18p4 [123,126,127] [128] 129 [] [(128,(.pick (.t 123) (.c (.s (.bool true))) (.t 126)))] [.sub 0 [] [],.sub 0 [] []]
def X10_18t4:=hS R10_18t4 R10_18p4 R10_18t5 [123,126,127] [128] [9,89,90,91,92,93,94,95,96,97,98,99,100,101,102,103,104,105,106,107,108,109,110,111,112,113,114,115,116,117,118,119,120,121,122,123,124,125,126,127,128,129,130,131]
def X10_18t5:=hO R10_18t5 R10_18p5 R10_18t6 [9] [9,89,90,91,92,93,94,95,96,97,98,99,100,101,102,103,104,105,106,107,108,109,110,111,112,113,114,115,116,117,118,119,120,121,122,123,124,125,126,127,128,129,130,131] [⟨some 129,.fieldAddr 7 (.t 9),some (128,false)⟩]
def X10_18t6:=hO R10_18t6 R10_18p6 R10_18t7 [129] [9,89,90,91,92,93,94,95,96,97,98,99,100,101,102,103,104,105,106,107,108,109,110,111,112,113,114,115,116,117,118,119,120,121,122,123,124,125,126,127,128,129,130,131] [⟨some 130,.load false 1 (.t 129),some (128,false)⟩]
def X10_18t7:=hO R10_18t7 R10_18p7 R10_18t8 [130] [9,89,90,91,92,93,94,95,96,97,98,99,100,101,102,103,104,105,106,107,108,109,110,111,112,113,114,115,116,117,118,119,120,121,122,123,124,125,126,127,128,129,130,131] [⟨some 131,.call (.c (.fn 20 [] [])) [(.t 130)],some (128,false)⟩]
def T10_18t8:=hT R10_18t8 [9,89,90,91,92,93,94,95,96,97,98,99,100,101,102,103,104,105,106,107,108,109,110,111,112,113,114,115,116,117,118,119,120,121,122,123,124,125,126,127,128,129,130,131] [132] 133 [] [(132,(.pick (.t 128) (.c (.s (.bool true))) (.t 131)))] [.sub 0 [] []]
def X10_18t8:=hL R10_18t8 [9,89,90,91,92,93,94,95,96,97,98,99,100,101,102,103,104,105,106,107,108,109,110,111,112,113,114,115,116,117,118,119,120,121,122,123,124,125,126,127,128,129,130,131] [132]
def R10_19:List AOper:=[
 ⟨some 2,.move (.c (.s (.bool true))),none⟩]
def T10_19:=hT R10_19 [1,3,4,5,6,7,8,132] [2] 3 [] [(2,(.c (.s (.bool true))))] [.cc (.s (.bool true))]
def R10_20:List AOper:=[
 ⟨some 83,.move (.t 8),none⟩,
 ⟨some 84,.bin .add (.t 83) (.c (.s (.int .i64 1))),none⟩,
 ⟨some 8,.move (.t 84),none⟩]
def T10_20:=hT R10_20 [83,84,132] [8] 85 [] [(8,(.op (.bin .add (.t 0) (.c (.s (.int .i64 1)))) [(.t 8),(.c (.s (.int .i64 1)))]))] [.tt 8,.sub 0 [] [],.sub 0 [] []]
def s_f10_l0_b:ACode:=
 (.seq (.seq (.regionE R10_16 [79,80,81] [82])
 (.cond (.t 82)
 .skip
 (.exit 4)))
 (.seq (.block 5
 (.seq (.region R10_17 [] [82,85,86,87,88])
 (.seq (.region R10_18 [] [9,89,90,91,92,93,94,95,96,97,98,99,100,101,102,103,104,105,106,107,108,109,110,111,112,113,114,115,116,117,118,119,120,121,122,123,124,125,126,127,128,129,130,131])
 (.cond (.t 132)
 (.seq (.regionE R10_19 [1,3,4,5,6,7,8,132] [2])
 .ret)
 .skip))))
 (.regionE R10_20 [83,84,132] [8])))
def s_f10_l0:ACode:=s_f10_l0_b
def s_f10_l0_ev:=hE s_f10_l0 s_f10_l0_b
def R10_21:List AOper:=[
 ⟨some 52,.move (.t 6),none⟩,
 ⟨some 53,.bin .add (.t 52) (.c (.s (.int .i64 1))),none⟩,
 ⟨some 6,.move (.t 53),none⟩]
def T10_21:=hT R10_21 [7,8,52,53,82] [6] 54 [] [(6,(.op (.bin .add (.t 0) (.c (.s (.int .i64 1)))) [(.t 6),(.c (.s (.int .i64 1)))]))] [.tt 6,.sub 0 [] [],.sub 0 [] []]
def s_f10_l1_b:ACode:=
 (.seq (.seq (.regionE R10_10 [47,48,49,50] [51])
 (.cond (.t 51)
 .skip
 (.exit 2)))
 (.seq (.block 3
 (.seq (.regionE R10_11 [51,54,55,56,57,58,59] [7])
 (.seq (.seq (.regionE R10_12 [60,61,62,63,64,65,66,67,68,69,70,71,72,73] [74])
 (.cond (.t 74)
 (.seq (.regionE R10_13 [1,3,4,5,6,7,74] [2])
 .ret)
 .skip))
 (.seq (.regionE R10_14 [74,75,76,77,78] [3])
 (.seq (.regionE R10_15 [] [8])
 (.block 4
 (.loop [] s_f10_l0)))))))
 (.regionE R10_21 [7,8,52,53,82] [6])))
def s_f10_l1:ACode:=s_f10_l1_b
def s_f10_l1_ev:=hE s_f10_l1 s_f10_l1_b
def R10_22:List AOper:=[
 ⟨some 19,.move (.t 4),none⟩,
 ⟨some 20,.bin .add (.t 19) (.c (.s (.int .i64 1))),none⟩,
 ⟨some 4,.move (.t 20),none⟩]
def T10_22:=hT R10_22 [5,6,19,20,51] [4] 21 [] [(4,(.op (.bin .add (.t 0) (.c (.s (.int .i64 1)))) [(.t 4),(.c (.s (.int .i64 1)))]))] [.tt 4,.sub 0 [] [],.sub 0 [] []]
def s_f10_l2_b:ACode:=
 (.seq (.seq (.regionE R10_5 [14,15,16,17] [18])
 (.cond (.t 18)
 .skip
 (.exit 0)))
 (.seq (.block 1
 (.seq (.region R10_6 [] [18,21,22,23,24,25])
 (.seq (.seq (.region R10_7 [] [26,27,28,29,30,31,32,33,34,35,36,37,38,39,40,41,42,43,44,45])
 (.cond (.t 46)
 (.seq (.regionE R10_8 [1,3,4,5,46] [2])
 .ret)
 .skip))
 (.seq (.regionE R10_9 [46] [6])
 (.block 2
 (.loop [] s_f10_l1))))))
 (.regionE R10_22 [5,6,19,20,51] [4])))
def s_f10_l2:ACode:=s_f10_l2_b
def s_f10_l2_ev:=hE s_f10_l2 s_f10_l2_b
def R10_23:List AOper:=[
 ⟨some 2,.move (.c (.s (.bool false))),none⟩]
def T10_23:=hT R10_23 [1,3,4,18] [2] 3 [] [(2,(.c (.s (.bool false))))] [.cc (.s (.bool false))]
def s_f10:ACFun:={ ntmps:=133,results:=[(.tmp 2)],body:=
 (.seq (.region R10_0 [] K10_0)
 (.seq (.seq (.regionE R10_1 [10,11,12] [13])
 (.cond (.t 13)
 (.seq (.regionE R10_2 [1,13] [2])
 .ret)
 .skip))
 (.seq (.regionE R10_3 [13] [3])
 (.seq (.seq (.regionE R10_4 [] [4])
 (.block 0
 (.loop [] s_f10_l2)))
 (.seq (.regionE R10_23 [1,3,4,18] [2])
 .ret))))) }
theorem s_f10_first:firstOk (List.range' 1 (s_f10.ntmps - 1)) s_f10.body=true:=by kernel_rfl
abbrev k_f20:Nat:=20
def K20_0:List Nat:=[1,2,3,4,5,6,7,8,9,10,11,12,13,14,15]
theorem s_f20_r0_kT:killV K20_0 (startV 16 [] 1)=[]:=by kernel_rfl
def s_f20_r0_kA0:=hK K20_0 0
def R20_0:List AOper:=[
 ⟨some 2,.move (.c (.s (.bool false))),none⟩]
def T20_0:=hT R20_0 K20_0 [] 3 [] [] [.cc (.s (.bool false))]
def R20_1:List AOper:=[
 ⟨some 3,.move (.c (.s (.int .i64 0))),none⟩]
def T20_1:=hT R20_1 [] [3] 4 [] [(3,(.c (.s (.int .i64 0))))] [.cc (.s (.int .i64 0))]
def R20_2:List AOper:=[
 ⟨some 4,.move (.t 3),none⟩,
 ⟨some 5,.move (.t 0),none⟩,
 ⟨some 6,.lenS .s (.t 5),none⟩,
 ⟨some 7,.bin .lss (.t 4) (.t 6),none⟩]
def T20_2:=hT R20_2 [4,5,6] [7] 8 [] [(7,(.op (.bin .lss (.t 0) (.t 1)) [(.t 3),(.op (.lenS .s (.t 0)) [(.t 0)])]))] [.tt 3,.tt 0,.sub 0 [1] [],.sub 0 [] []]
def R20_3:List AOper:=[
 ⟨some 10,.move (.t 0),none⟩,
 ⟨some 11,.move (.t 3),none⟩,
 ⟨some 12,.indexAddr 1 (.t 10) (.t 11),none⟩,
 ⟨some 13,.load false 1 (.t 12),none⟩,
 ⟨some 14,.lenS .p (.t 13),none⟩,
 ⟨some 15,.bin .gtr (.t 14) (.c (.s (.int .i64 200))),none⟩]
def T20_3:=hT R20_3 [7,10,11,12,13,14] [15] 16 [] [(15,(.op (.bin .gtr (.t 0) (.c (.s (.int .i64 200)))) [(.op (.lenS .p (.t 0)) [(.op (.load false 1 (.t 0)) [(.op (.indexAddr 1 (.t 0) (.t 1)) [(.t 0),(.t 3)])])]),(.c (.s (.int .i64 200)))]))] [.tt 0,.tt 3,.sub 0 [0,0,0] [],.sub 0 [0,0] [],.sub 0 [0] [],.sub 0 [] []]
def R20_4:List AOper:=[
 ⟨some 2,.move (.c (.s (.bool true))),none⟩]
def T20_4:=hT R20_4 [0,3,15] [2] 3 [] [(2,(.c (.s (.bool true))))] [.cc (.s (.bool true))]
def R20_5:List AOper:=[
 ⟨some 8,.move (.t 3),none⟩,
 ⟨some 9,.bin .add (.t 8) (.c (.s (.int .i64 1))),none⟩,
 ⟨some 3,.move (.t 9),none⟩]
def T20_5:=hT R20_5 [8,9,15] [3] 10 [] [(3,(.op (.bin .add (.t 0) (.c (.s (.int .i64 1)))) [(.t 3),(.c (.s (.int .i64 1)))]))] [.tt 3,.sub 0 [] [],.sub 0 [] []]
def s_f20_l0_b:ACode:=
 (.seq (.seq (.regionE R20_2 [4,5,6] [7])
 (.cond (.t 7)
 .skip
 (.exit 0)))
 (.seq (.block 1
 (.seq (.regionE R20_3 [7,10,11,12,13,14] [15])
 (.cond (.t 15)
 (.seq (.regionE R20_4 [0,3,15] [2])
 .ret)
 .skip)))
 (.regionE R20_5 [8,9,15] [3])))
def s_f20_l0:ACode:=s_f20_l0_b
def s_f20_l0_ev:=hE s_f20_l0 s_f20_l0_b
def R20_6:List AOper:=[
 ⟨some 2,.move (.c (.s (.bool false))),none⟩]
def T20_6:=hT R20_6 [0,3,7] [2] 3 [] [(2,(.c (.s (.bool false))))] [.cc (.s (.bool false))]
def s_f20:ACFun:={ ntmps:=16,results:=[(.tmp 2)],body:=
 (.seq (.regionE R20_0 K20_0 [])
 (.seq (.seq (.regionE R20_1 [] [3])
 (.block 0
 (.loop [] s_f20_l0)))
 (.seq (.regionE R20_6 [0,3,7] [2])
 .ret))) }
abbrev k_f21:Nat:=21
def K21_0:List Nat:=[0,1,2,3,4,5,6,7,8,9,10,11,12,13,14,15,16]
theorem s_f21_r0_kT:killV K21_0 (startV 17 [] 0)=[]:=by kernel_rfl
def R21_0:List AOper:=[
 ⟨some 0,.move (.c (.s (.map none))),none⟩]
def T21_0:=hT R21_0 K21_0 [] 1 [] [] [.cc (.s (.map none))]
def R21_1t29:List AOper:=[⟨some 16,.move (.t 1),none⟩,⟨some 0,.move (.t 16),none⟩]
def R21_1p28:List AOper:=[⟨none,.mapUpd (.int .u8) (.t 1) (.c (.s (.int .u8 14))) (.t 15),none⟩]
def R21_1t28:List AOper:=R21_1p28 ++ R21_1t29
def R21_1p27:List AOper:=[⟨some 15,.build [(.s (.bool false)),(.s (.bool false)),(.s (.bool false)),(.s (.bool false)),(.s (.bool false)),(.s (.bool false)),(.s (.bool false))] [(0,1),(1,1),(2,1),(3,1),(4,1),(5,1),(6,1)] [(1,(.c (.s (.bool true))))],none⟩]
def R21_1t27:List AOper:=R21_1p27 ++ R21_1t28
def R21_1p26:List AOper:=[⟨none,.mapUpd (.int .u8) (.t 1) (.c (.s (.int .u8 13))) (.t 14),none⟩]
def R21_1t26:List AOper:=R21_1p26 ++ R21_1t27
def R21_1p25:List AOper:=[⟨some 14,.build [(.s (.bool false)),(.s (.bool false)),(.s (.bool false)),(.s (.bool false)),(.s (.bool false)),(.s (.bool false)),(.s (.bool false))] [(0,1),(1,1),(2,1),(3,1),(4,1),(5,1),(6,1)] [(6,(.c (.s (.bool true))))],none⟩]
def R21_1t25:List AOper:=R21_1p25 ++ R21_1t26
def R21_1p24:List AOper:=[⟨none,.mapUpd (.int .u8) (.t 1) (.c (.s (.int .u8 12))) (.t 13),none⟩]
def R21_1t24:List AOper:=R21_1p24 ++ R21_1t25
def R21_1p23:List AOper:=[⟨some 13,.build [(.s (.bool false)),(.s (.bool false)),(.s (.bool false)),(.s (.bool false)),(.s (.bool false)),(.s (.bool false)),(.s (.bool false))] [(0,1),(1,1),(2,1),(3,1),(4,1),(5,1),(6,1)] [(6,(.c (.s (.bool true))))],none⟩]
def R21_1t23:List AOper:=R21_1p23 ++ R21_1t24
def R21_1p22:List AOper:=[⟨none,.mapUpd (.int .u8) (.t 1) (.c (.s (.int .u8 11))) (.t 12),none⟩]
def R21_1t22:List AOper:=R21_1p22 ++ R21_1t23
def R21_1p21:List AOper:=[⟨some 12,.build [(.s (.bool false)),(.s (.bool false)),(.s (.bool false)),(.s (.bool false)),(.s (.bool false)),(.s (.bool false)),(.s (.bool false))] [(0,1),(1,1),(2,1),(3,1),(4,1),(5,1),(6,1)] [(0,(.c (.s (.bool true)))),(1,(.c (.s (.bool true)))),(5,(.c (.s (.bool true))))],none⟩]
def R21_1t21:List AOper:=R21_1p21 ++ R21_1t22
def R21_1p20:List AOper:=[⟨none,.mapUpd (.int .u8) (.t 1) (.c (.s (.int .u8 10))) (.t 11),none⟩]
def R21_1t20:List AOper:=R21_1p20 ++ R21_1t21
def R21_1p19:List AOper:=[⟨some 11,.build [(.s (.bool false)),(.s (.bool false)),(.s (.bool false)),(.s (.bool false)),(.s (.bool false)),(.s (.bool false)),(.s (.bool false))] [(0,1),(1,1),(2,1),(3,1),(4,1),(5,1),(6,1)] [(0,(.c (.s (.bool true)))),(4,(.c (.s (.bool true)))),(5,(.c (.s (.bool true))))],none⟩]
def R21_1t19:List AOper:=R21_1p19 ++ R21_1t20
def R21_1p18:List AOper:=[⟨none,.mapUpd (.int .u8) (.t 1) (.c (.s (.int .u8 9))) (.t 10),none⟩]
def R21_1t18:List AOper:=R21_1p18 ++ R21_1t19
def R21_1p17:List AOper:=[⟨some 10,.build [(.s (.bool false)),(.s (.bool false)),(.s (.bool false)),(.s (.bool false)),(.s (.bool false)),(.s (.bool false)),(.s (.bool false))] [(0,1),(1,1),(2,1),(3,1),(4,1),(5,1),(6,1)] [(1,(.c (.s (.bool true)))),(2,(.c (.s (.bool true))))],none⟩]
def R21_1t17:List AOper:=R21_1p17 ++ R21_1t18
def R21_1p16:List AOper:=[⟨none,.mapUpd (.int .u8) (.t 1) (.c (.s (.int .u8 7))) (.t 9),none⟩]
def R21_1t16:List AOper:=R21_1p16 ++ R21_1t17
def R21_1p15:List AOper:=[⟨some 9,.build [(.s (.bool false)),(.s (.bool false)),(.s (.bool false)),(.s (.bool false)),(.s (.bool false)),(.s (.bool false)),(.s (.bool false))] [(0,1),(1,1),(2,1),(3,1),(4,1),(5,1),(6,1)] [(0,(.c (.s (.bool true)))),(1,(.c (.s (.bool true)))),(3,(.c (.s (.bool true))))],none⟩]
def R21_1t15:List AOper:=R21_1p15 ++ R21_1t16
def R21_1p14:List AOper:=[⟨none,.mapUpd (.int .u8) (.t 1) (.c (.s (.int .u8 6))) (.t 8),none⟩]
def R21_1t14:List AOper:=R21_1p14 ++ R21_1t15
def R21_1p13:List AOper:=[⟨some 8,.build [(.s (.bool false)),(.s (.bool false)),(.s (.bool false)),(.s (.bool false)),(.s (.bool false)),(.s (.bool false)),(.s (.bool false))] [(0,1),(1,1),(2,1),(3,1),(4,1),(5,1),(6,1)] [(0,(.c (.s (.bool true)))),(5,(.c (.s (.bool true)))),(6,(.c (.s (.bool true))))],none⟩]
def R21_1t13:List AOper:=R21_1p13 ++ R21_1t14
def R21_1p12:List AOper:=[⟨none,.mapUpd (.int .u8) (.t 1) (.c (.s (.int .u8 8))) (.t 7),none⟩]
def R21_1t12:List AOper:=R21_1p12 ++ R21_1t13
def R21_1p11:List AOper:=[⟨some 7,.build [(.s (.bool false)),(.s (.bool false)),(.s (.bool false)),(.s (.bool false)),(.s (.bool false)),(.s (.bool false)),(.s (.bool false))] [(0,1),(1,1),(2,1),(3,1),(4,1),(5,1),(6,1)] [(0,(.c (.s (.bool true)))),(1,(.c (.s (.bool true))))],none⟩]
def R21_1t11:List AOper:=R21_1p11 ++ R21_1t12
def R21_1p10:List AOper:=[⟨none,.mapUpd (.int .u8) (.t 1) (.c (.s (.int .u8 5))) (.t 6),none⟩]
def R21_1t10:List AOper:=R21_1p10 ++ R21_1t11
def R21_1p9:List AOper:=[⟨some 6,.build [(.s (.bool false)),(.s (.bool false)),(.s (.bool false)),(.s (.bool false)),(.s (.bool false)),(.s (.bool false)),(.s (.bool false))] [(0,1),(1,1),(2,1),(3,1),(4,1),(5,1),(6,1)] [(0,(.c (.s (.bool true)))),(1,(.c (.s (.bool true))))],none⟩]
def R21_1t9:List AOper:=R21_1p9 ++ R21_1t10
def R21_1p8:List AOper:=[⟨none,.mapUpd (.int .u8) (.t 1) (.c (.s (.int .u8 4))) (.t 5),none⟩]
def R21_1t8:List AOper:=R21_1p8 ++ R21_1t9
def R21_1p7:List AOper:=[⟨some 5,.build [(.s (.bool false)),(.s (.bool false)),(.s (.bool false)),(.s (.bool false)),(.s (.bool false)),(.s (.bool false)),(.s (.bool false))] [(0,1),(1,1),(2,1),(3,1),(4,1),(5,1),(6,1)] [(0,(.c (.s (.bool true)))),(4,(.c (.s (.bool true))))],none⟩]
def R21_1t7:List AOper:=R21_1p7 ++ R21_1t8
def R21_1p6:List AOper:=[⟨none,.mapUpd (.int .u8) (.t 1) (.c (.s (.int .u8 3))) (.t 4),none⟩]
def R21_1t6:List AOper:=R21_1p6 ++ R21_1t7
def R21_1p5:List AOper:=[⟨some 4,.build [(.s (.bool false)),(.s (.bool false)),(.s (.bool false)),(.s (.bool false)),(.s (.bool false)),(.s (.bool false)),(.s (.bool false))] [(0,1),(1,1),(2,1),(3,1),(4,1),(5,1),(6,1)] [(0,(.c (.s (.bool true))))],none⟩]
def R21_1t5:List AOper:=R21_1p5 ++ R21_1t6
def R21_1p4:List AOper:=[⟨none,.mapUpd (.int .u8) (.t 1) (.c (.s (.int .u8 2))) (.t 3),none⟩]
def R21_1t4:List AOper:=R21_1p4 ++ R21_1t5
def R21_1p3:List AOper:=[⟨some 3,.build [(.s (.bool false)),(.s (.bool false)),(.s (.bool false)),(.s (.bool false)),(.s (.bool false)),(.s (.bool false)),(.s (.bool false))] [(0,1),(1,1),(2,1),(3,1),(4,1),(5,1),(6,1)] [(0,(.c (.s (.bool true)))),(3,(.c (.s (.bool true))))],none⟩]
def R21_1t3:List AOper:=R21_1p3 ++ R21_1t4
def R21_1p2:List AOper:=[⟨none,.mapUpd (.int .u8) (.t 1) (.c (.s (.int .u8 1))) (.t 2),none⟩]
def R21_1t2:List AOper:=R21_1p2 ++ R21_1t3
def R21_1p1:List AOper:=[⟨some 2,.build [(.s (.bool false)),(.s (.bool false)),(.s (.bool false)),(.s (.bool false)),(.s (.bool false)),(.s (.bool false)),(.s (.bool false))] [(0,1),(1,1),(2,1),(3,1),(4,1),(5,1),(6,1)] [(0,(.c (.s (.bool true)))),(3,(.c (.s (.bool true))))],none⟩]
def R21_1t1:List AOper:=R21_1p1 ++ R21_1t2
def R21_1p0:List AOper:=[⟨some 1,.mapNew,none⟩]
def R21_1:List AOper:=R21_1p0 ++ R21_1t1
def X21_1:=hO R21_1 R21_1p0 R21_1t1 [] [1,2,3,4,5,6,7,8,9,10,11,12,13,14,15,16] [⟨some 1,.mapNew,none⟩]
def T21_1p1:=hT R21_1p1 [] [2] 3 [] [(2,(.op (.build [(.s (.bool false)),(.s (.bool false)),(.s (.bool false)),(.s (.bool false)),(.s (.bool false)),(.s (.bool false)),(.s (.bool false))] [(0,1),(1,1),(2,1),(3,1),(4,1),(5,1),(6,1)] [(0,(.c (.s (.bool true)))),(3,(.c (.s (.bool true))))]) [(.c (.s (.bool true))),(.c (.s (.bool true)))]))] [.sub 0 [] []]
def X21_1t1:=hS R21_1t1 R21_1p1 R21_1t2 [] [2] [1,2,3,4,5,6,7,8,9,10,11,12,13,14,15,16]
def X21_1t2:=hO R21_1t2 R21_1p2 R21_1t3 [2] [1,2,3,4,5,6,7,8,9,10,11,12,13,14,15,16] [⟨none,.mapUpd (.int .u8) (.t 1) (.c (.s (.int .u8 1))) (.t 2),none⟩]
def T21_1p3:=hT R21_1p3 [] [3] 4 [] [(3,(.op (.build [(.s (.bool false)),(.s (.bool false)),(.s (.bool false)),(.s (.bool false)),(.s (.bool false)),(.s (.bool false)),(.s (.bool false))] [(0,1),(1,1),(2,1),(3,1),(4,1),(5,1),(6,1)] [(0,(.c (.s (.bool true)))),(3,(.c (.s (.bool true))))]) [(.c (.s (.bool true))),(.c (.s (.bool true)))]))] [.sub 0 [] []]
def X21_1t3:=hS R21_1t3 R21_1p3 R21_1t4 [] [3] [1,2,3,4,5,6,7,8,9,10,11,12,13,14,15,16]
def X21_1t4:=hO R21_1t4 R21_1p4 R21_1t5 [3] [1,2,3,4,5,6,7,8,9,10,11,12,13,14,15,16] [⟨none,.mapUpd (.int .u8) (.t 1) (.c (.s (.int .u8 2))) (.t 3),none⟩]
def T21_1p5:=hT R21_1p5 [] [4] 5 [] [(4,(.op (.build [(.s (.bool false)),(.s (.bool false)),(.s (.bool false)),(.s (.bool false)),(.s (.bool false)),(.s (.bool false)),(.s (.bool false))] [(0,1),(1,1),(2,1),(3,1),(4,1),(5,1),(6,1)] [(0,(.c (.s (.bool true))))]) [(.c (.s (.bool true)))]))] [.sub 0 [] []]
def X21_1t5:=hS R21_1t5 R21_1p5 R21_1t6 [] [4] [1,2,3,4,5,6,7,8,9,10,11,12,13,14,15,16]
def X21_1t6:=hO R21_1t6 R21_1p6 R21_1t7 [4] [1,2,3,4,5,6,7,8,9,10,11,12,13,14,15,16] [⟨none,.mapUpd (.int .u8) (.t 1) (.c (.s (.int .u8 3))) (.t 4),none⟩]
def T21_1p7:=hT R21_1p7 [] [5] 6 [] [(5,(.op (.build [(.s (.bool false)),(.s (.bool false)),(.s (.bool false)),(.s (.bool false)),(.s (.bool false)),(.s (.bool false)),(.s (.bool false))] [(0,1),(1,1),(2,1),(3,1),(4,1),(5,1),(6,1)] [(0,(.c (.s (.bool true)))),(4,(.c (.s (.bool true))))]) [(.c (.s (.bool true))),(.c (.s (.bool true)))]))] [.sub 0 [] []]
def X21_1t7:=hS R21_1t7 R21_1p7 R21_1t8 [] [5] [1,2,3,4,5,6,7,8,9,10,11,12,13,14,15,16]
def X21_1t8:=hO R21_1t8 R21_1p8 R21_1t9 [5] [1,2,3,4,5,6,7,8,9,10,11,12,13,14,15,16] [⟨none,.mapUpd (.int .u8) (.t 1) (.c (.s (.int .u8 4))) (.t 5),none⟩]
def T21_1p9:=hT R21_1p9 [] [6] 7 [] [(6,(.op (.build [(.s (.bool false)),(.s (.bool false)),(.s (.bool false)),(.s (.bool false)),(.s (.bool false)),(.s (.bool false)),(.s (.bool false))] [(0,1),(1,1),(2,1),(3,1),(4,1),(5,1),(6,1)] [(0,(.c (.s (.bool true)))),(1,(.c (.s (.bool true))))]) [(.c (.s (.bool true))),(.c (.s (.bool true)))]))] [.sub 0 [] []]
def X21_1t9:=hS R21_1t9 R21_1p9 R21_1t10 [] [6] [1,2,3,4,5,6,7,8,9,10,11,12,13,14,15,16]
def X21_1t10:=hO R21_1t10 R21_1p10 R21_1t11 [6] [1,2,3,4,5,6,7,8,9,10,11,12,13,14,15,16] [⟨none,.mapUpd (.int .u8) (.t 1) (.c (.s (.int .u8 5))) (.t 6),none⟩]
def T21_1p11:=hT R21_1p11 [] [7] 8 [] [(7,(.op (.build [(.s (.bool false)),(.s (.bool false)),(.s (.bool false)),(.s (.bool false)),(.s (.bool false)),(.s (.bool false)),(.s (.bool false))] [(0,1),(1,1),(2,1),(3,1),(4,1),(5,1),(6,1)] [(0,(.c (.s (.bool true)))),(1,(.c (.s (.bool true))))]) [(.c (.s (.bool true))),(.c (.s (.bool true)))]))] [.sub 0 [] []]
def X21_1t11:=hS R21_1t11 R21_1p11 R21_1t12 [] [7] [1,2,3,4,5,6,7,8,9,10,11,12,13,14,15,16]
def X21_1t12:=hO R21_1t12 R21_1p12 R21_1t13 [7] [1,2,3,4,5,6,7,8,9,10,11,12,13,14,15,16] [⟨none,.mapUpd (.int .u8) (.t 1) (.c (.s (.int .u8 8))) (.t 7),none⟩]
def T21_1p13:=hT R21_1p13 [] [8] 9 [] [(8,(.op (.build [(.s (.bool false)),(.s (.bool false)),(.s (.bool false)),(.s (.bool false)),(.s (.bool false)),(.s (.bool false)),(.s (.bool false))] [(0,1),(1,1),(2,1),(3,1),(4,1),(5,1),(6,1)] [(0,(.c (.s (.bool true)))),(5,(.c (.s (.bool true)))),(6,(.c (.s (.bool true))))]) [(.c (.s (.bool true))),(.c (.s (.bool true))),(.c (.s (.bool true)))]))] [.sub 0 [] []]
def X21_1t13:=hS R21_1t13 R21_1p13 R21_1t14 [] [8] [1,2,3,4,5,6,7,8,9,10,11,12,13,14,15,16]
def X21_1t14:=hO R21_1t14 R21_1p14 R21_1t15 [8] [1,2,3,4,5,6,7,8,9,10,11,12,13,14,15,16] [⟨none,.mapUpd (.int .u8) (.t 1) (.c (.s (.int .u8 6))) (.t 8),none⟩]
def T21_1p15:=hT R21_1p15 [] [9] 10 [] [(9,(.op (.build [(.s (.bool false)),(.s (.bool false)),(.s (.bool false)),(.s (.bool false)),(.s (.bool false)),(.s (.bool false)),(.s (.bool false))] [(0,1),(1,1),(2,1),(3,1),(4,1),(5,1),(6,1)] [(0,(.c (.s (.bool true)))),(1,(.c (.s (.bool true)))),(3,(.c (.s (.bool true))))]) [(.c (.s (.bool true))),(.c (.s (.bool true))),(.c (.s (.bool true)))]))] [.sub 0 [] []]
def X21_1t15:=hS R21_1t15 R21_1p15 R21_1t16 [] [9] [1,2,3,4,5,6,7,8,9,10,11,12,13,14,15,16]
def X21_1t16:=hO R21_1t16 R21_1p16 R21_1t17 [9] [1,2,3,4,5,6,7,8,9,10,11,12,13,14,15,16] [⟨none,.mapUpd (.int .u8) (.t 1) (.c (.s (.int .u8 7))) (.t 9),none⟩]
def T21_1p17:=hT R21_1p17 [] [10] 11 [] [(10,(.op (.build [(.s (.bool false)),(.s (.bool false)),(.s (.bool false)),(.s (.bool false)),(.s (.bool false)),(.s (.bool false)),(.s (.bool false))] [(0,1),(1,1),(2,1),(3,1),(4,1),(5,1),(6,1)] [(1,(.c (.s (.bool true)))),(2,(.c (.s (.bool true))))]) [(.c (.s (.bool true))),(.c (.s (.bool true)))]))] [.sub 0 [] []]
def X21_1t17:=hS R21_1t17 R21_1p17 R21_1t18 [] [10] [1,2,3,4,5,6,7,8,9,10,11,12,13,14,15,16]
def X21_1t18:=hO R21_1t18 R21_1p18 R21_1t19 [10] [1,2,3,4,5,6,7,8,9,10,11,12,13,14,15,16] [⟨none,.mapUpd (.int .u8) (.t 1) (.c (.s (.int .u8 9))) (.t 10),none⟩]
def T21_1p19:=hT R21_1p19 [] [11] 12 [] [(11,(.op (.build [(.s (.bool false)),(.s (.bool false)),(.s (.bool false)),(.s (.bool false)),(.s (.bool false)),(.s (.bool false)),(.s (.bool false))] [(0,1),(1,1),(2,1),(3,1),(4,1),(5,1),(6,1)] [(0,(.c (.s (.bool true)))),(4,(.c (.s (.bool true)))),(5,(.c (.s (.bool true))))]) [(.c (.s (.bool true))),(.c (.s (.bool true))),(.c (.s (.bool true)))]))] [.sub 0 [] []]
def X21_1t19:=hS R21_1t19 R21_1p19 R21_1t20 [] [11] [1,2,3,4,5,6,7,8,9,10,11,12,13,14,15,16]
def X21_1t20:=hO R21_1t20 R21_1p20 R21_1t21 [11] [1,2,3,4,5,6,7,8,9,10,11,12,13,14,15,16] [⟨none,.mapUpd (.int .u8) (.t 1) (.c (.s (.int .u8 10))) (.t 11),none⟩]
def T21_1p21:=hT R21_1p21 [] [12] 13 [] [(12,(.op (.build [(.s (.bool false)),(.s (.bool false)),(.s (.bool false)),(.s (.bool false)),(.s (.bool false)),(.s (.bool false)),(.s (.bool false))] [(0,1),(1,1),(2,1),(3,1),(4,1),(5,1),(6,1)] [(0,(.c (.s (.bool true)))),(1,(.c (.s (.bool true)))),(5,(.c (.s (.bool true))))]) [(.c (.s (.bool true))),(.c (.s (.bool true))),(.c (.s (.bool true)))]))] [.sub 0 [] []]
def X21_1t21:=hS R21_1t21 R21_1p21 R21_1t22 [] [12] [1,2,3,4,5,6,7,8,9,10,11,12,13,14,15,16]
def X21_1t22:=hO R21_1t22 R21_1p22 R21_1t23 [12] [1,2,3,4,5,6,7,8,9,10,11,12,13,14,15,16] [⟨none,.mapUpd (.int .u8) (.t 1) (.c (.s (.int .u8 11))) (.t 12),none⟩]
def T21_1p23:=hT R21_1p23 [] [13] 14 [] [(13,(.op (.build [(.s (.bool false)),(.s (.bool false)),(.s (.bool false)),(.s (.bool false)),(.s (.bool false)),(.s (.bool false)),(.s (.bool false))] [(0,1),(1,1),(2,1),(3,1),(4,1),(5,1),(6,1)] [(6,(.c (.s (.bool true))))]) [(.c (.s (.bool true)))]))] [.sub 0 [] []]
def X21_1t23:=hS R21_1t23 R21_1p23 R21_1t24 [] [13] [1,2,3,4,5,6,7,8,9,10,11,12,13,14,15,16]
def X21_1t24:=hO R21_1t24 R21_1p24 R21_1t25 [13] [1,2,3,4,5,6,7,8,9,10,11,12,13,14,15,16] [⟨none,.mapUpd (.int .u8) (.t 1) (.c (.s (.int .u8 12))) (.t 13),none⟩]
def T21_1p25:=hT R21_1p25 [] [14] 15 [] [(14,(.op (.build [(.s (.bool false)),(.s (.bool false)),(.s (.bool false)),(.s (.bool false)),(.s (.bool false)),(.s (.bool false)),(.s (.bool false))] [(0,1),(1,1),(2,1),(3,1),(4,1),(5,1),(6,1)] [(6,(.c (.s (.bool true))))]) [(.c (.s (.bool true)))]))] [.sub 0 [] []]
def X21_1t25:=hS R21_1t25 R21_1p25 R21_1t26 [] [14] [1,2,3,4,5,6,7,8,9,10,11,12,13,14,15,16]
def X21_1t26:=hO R21_1t26 R21_1p26 R21_1t27 [14] [1,2,3,4,5,6,7,8,9,10,11,12,13,14,15,16] [⟨none,.mapUpd (.int .u8) (.t 1) (.c (.s (.int .u8 13))) (.t 14),none⟩]
def T21_1p27:=hT R21_1p27 [] [15] 16 [] [(15,(.op (.build [(.s (.bool false)),(.s (.bool false)),(.s (.bool false)),(.s (.bool false)),(.s (.bool false)),(.s (.bool false)),(.s (.bool false))] [(0,1),(1,1),(2,1),(3,1),(4,1),(5,1),(6,1)] [(1,(.c (.s (.bool true))))]) [(.c (.s (.bool true)))]))] [.sub 0 [] []]
def X21_1t27:=hS R21_1t27 R21_1p27 R21_1t28 [] [15] [1,2,3,4,5,6,7,8,9,10,11,12,13,14,15,16]
def X21_1t28:=hO R21_1t28 R21_1p28 R21_1t29 [15] [1,2,3,4,5,6,7,8,9,10,11,12,13,14,15,16] [⟨none,.mapUpd (.int .u8) (.t 1) (.c (.s (.int .u8 14))) (.t 15),none⟩]
def T21_1t29:=hT R21_1t29 [1,2,3,4,5,6,7,8,9,10,11,12,13,14,15,16] [0] 17 [] [(0,(.t 1))] [.tt 1,.tt 1]
def X21_1t29:=hL R21_1t29 [1,2,3,4,5,6,7,8,9,10,11,12,13,14,15,16] [0]
def s_f21:ACFun:={ ntmps:=17,results:=[(.tmp 0)],body:=
 (.seq (.regionE R21_0 K21_0 [])
 (.seq (.region R21_1 [] [1,2,3,4,5,6,7,8,9,10,11,12,13,14,15,16])
 .ret)) }
abbrev k_f22:Nat:=22
def K22_0:List Nat:=[1,3,4,5,6,7,8,9,10,11,12,13,14,15,16,17,18,19,20]
def A22_0_0:=hK K22_0 0
def A22_0_2:=hK K22_0 2
theorem A22_0_3:K22_0.contains 3=true:=by kernel_rfl
def R22_0t1:List AOper:=[⟨some 3,.move (.c (.s (.bool false))),none⟩]
def R22_0p0:List AOper:=[⟨some 2,.alloc [(.s (.int .i64 0)),(.s (.int .i64 0)),(.s (.int .i64 0))],none⟩]
def R22_0:List AOper:=R22_0p0 ++ R22_0t1
def X22_0:=hO R22_0 R22_0p0 R22_0t1 [1,3,4,5,6,7,8,9,10,11,12,13,14,15,16,17,18,19,20] K22_0 [⟨some 2,.alloc [(.s (.int .i64 0)),(.s (.int .i64 0)),(.s (.int .i64 0))],none⟩]
def T22_0t1:=hT R22_0t1 K22_0 [] 4 [] [] [.cc (.s (.bool false))]
def X22_0t1:=hL R22_0t1 K22_0 []
def R22_1:List AOper:=[
 ⟨some 4,.build [(.s (.int .i64 0)),(.s (.int .i64 0)),(.s (.int .i64 0))] [(0,1),(1,1),(2,1)] [],none⟩,
 ⟨some 5,.move (.t 0),none⟩,
 ⟨some 6,.nilCheck (.t 5),none⟩,
 ⟨some 7,.fieldAddr 0 (.t 6),none⟩,
 ⟨some 8,.fieldAddr 0 (.t 7),none⟩,
 ⟨some 9,.load false 1 (.t 8),none⟩,
 ⟨some 10,.lenS .s (.t 9),none⟩,
 ⟨some 11,.bin .eql (.t 10) (.c (.s (.int .i64 0))),none⟩,
 ⟨some 12,.move (.t 11),none⟩,
 ⟨some 13,.move (.t 0),some (12,false)⟩,
 ⟨some 14,.nilCheck (.t 13),some (12,false)⟩,
 ⟨some 15,.fieldAddr 0 (.t 14),some (12,false)⟩,
 ⟨some 16,.fieldAddr 0 (.t 15),some (12,false)⟩,
 ⟨some 17,.load false 1 (.t 16),some (12,false)⟩,
 ⟨some 18,.lenS .s (.t 17),some (12,false)⟩,
 ⟨some 19,.bin .gtr (.t 18) (.c (.s (.int .i64 64))),some (12,false)⟩,
 ⟨some 20,.pick (.t 12) (.c (.s (.bool true))) (.t 19),none⟩,
 ⟨none,.store 3 (.t 2) (.t 4),none⟩,
 ⟨some 3,.move (.t 20),none⟩]
theorem X22_1 (call:CallF) (it:IterF) (base:Nat) (f:List V) (H:Heap):evC call it base (.region R22_1 [(13,17),(14,17)] [0,4,5,6,7,8,9,10,11,12,13,14,15,16,17,18,19,20]) f H=opsK [0,4,5,6,7,8,9,10,11,12,13,14,15,16,17,18,19,20] (fun f'=>List.all [(13,17),(14,17)] (lateOk call base R22_1 f H f')) (evOps call base [⟨some 4,.build [(.s (.int .i64 0)),(.s (.int .i64 0)),(.s (.int .i64 0))] [(0,1),(1,1),(2,1)] [],none⟩,⟨some 5,.move (.t 0),none⟩,⟨some 6,.nilCheck (.t 5),none⟩,⟨some 7,.fieldAddr 0 (.t 6),none⟩,⟨some 8,.fieldAddr 0 (.t 7),none⟩,⟨some 9,.load false 1 (.t 8),none⟩,⟨some 10,.lenS .s (.t 9),none⟩,⟨some 11,.bin .eql (.t 10) (.c (.s (.int .i64 0))),none⟩,⟨some 12,.move (.t 11),none⟩,⟨some 13,.move (.t 0),some (12,false)⟩,⟨some 14,.nilCheck (.t 13),some (12,false)⟩,⟨some 15,.fieldAddr 0 (.t 14),some (12,false)⟩,⟨some 16,.fieldAddr 0 (.t 15),some (12,false)⟩,⟨some 17,.load false 1 (.t 16),some (12,false)⟩,⟨some 18,.lenS .s (.t 17),some (12,false)⟩,⟨some 19,.bin .gtr (.t 18) (.c (.s (.int .i64 64))),some (12,false)⟩,⟨some 20,.pick (.t 12) (.c (.s (.bool true))) (.t 19),none⟩,⟨none,.store 3 (.t 2) (.t 4),none⟩,⟨some 3,.move (.t 20),none⟩] f H):=row_late call it base _ _ _ f H
def s_f22:ACFun:={ ntmps:=21,results:=[(.cell 2 true 3),(.tmp 3)],body:=
 (.seq (.region R22_0 [] K22_0)
 (.seq (.region R22_1 [(13,17),(14,17)] [0,4,5,6,7,8,9,10,11,12,13,14,15,16,17,18,19,20])
 .ret)) }
theorem s_f22_first:firstOk (List.range' 1 (s_f22.ntmps - 1)) s_f22.body=true:=by kernel_rfl
abbrev k_f24:Nat:=24
def K24_0:List Nat:=[1,3,4,5,6,7,8,9,10]
def A24_0_0:=hK K24_0 0
def A24_0_2:=hK K24_0 2
theorem A24_0_3:K24_0.contains 3=true:=by kernel_rfl
def R24_0t1:List AOper:=[⟨some 3,.move (.c (.s (.bool false))),none⟩]
def R24_0p0:List AOper:=[⟨some 2,.alloc [(.s (.int .i64 0)),(.s (.int .i64 0)),(.s (.int .i64 0))],none⟩]
def R24_0:List AOper:=R24_0p0 ++ R24_0t1
def X24_0:=hO R24_0 R24_0p0 R24_0t1 [1,3,4,5,6,7,8,9,10] K24_0 [⟨some 2,.alloc [(.s (.int .i64 0)),(.s (.int .i64 0)),(.s (.int .i64 0))],none⟩]
def T24_0t1:=hT R24_0t1 K24_0 [] 4 [] [] [.cc (.s (.bool false))]
def X24_0t1:=hL R24_0t1 K24_0 []
def R24_1t2:List AOper:=[⟨none,.store 1 (.t 4) (.t 5),none⟩]
def R24_1p1:List AOper:=[⟨some 4,.alloc [(.s (.map none))],none⟩]
def R24_1t1:List AOper:=R24_1p1 ++ R24_1t2
def R24_1p0:List AOper:=[⟨some 5,.mapNew,none⟩]
def R24_1:List AOper:=R24_1p0 ++ R24_1t1
def X24_1:=hO R24_1 R24_1p0 R24_1t1 [] [5] [⟨some 5,.mapNew,none⟩]
def X24_1t1:=hO R24_1t1 R24_1p1 R24_1t2 [] [5] [⟨some 4,.alloc [(.s (.map none))],none⟩]
def X24_1t2:=hX R24_1t2 [5] [⟨none,.store 1 (.t 4) (.t 5),none⟩]
def R24_2t4:List AOper:=[⟨some 3,.move (.t 10),none⟩]
def R24_2p3:List AOper:=[⟨none,.store 3 (.t 2) (.t 9),none⟩]
def R24_2t3:List AOper:=R24_2p3 ++ R24_2t4
def R24_2p2:List AOper:=[⟨some 9,.extract (.t 8) 0,none⟩,⟨some 10,.extract (.t 8) 1,none⟩]
def R24_2t2:List AOper:=R24_2p2 ++ R24_2t3
def R24_2p1:List AOper:=[⟨some 8,.call (.c (.fn 43 [] [])) [(.t 6),(.t 7)],none⟩]
def R24_2t1:List AOper:=R24_2p1 ++ R24_2t2
def R24_2p0:List AOper:=[⟨some 6,.move (.t 0),none⟩,⟨some 7,.mkFn 44 [] [(.t 4)],none⟩]
def R24_2:List AOper:=R24_2p0 ++ R24_2t1
def T24_2p0:=hT R24_2p0 [0,4] [6,7] 8 [] [(6,(.t 0)),(7,(.op (.mkFn 44 [] [(.t 0)]) [(.t 4)]))] [.tt 0,.sub 1 [] []]
def X24_2:=hS R24_2 R24_2p0 R24_2t1 [0,4] [6,7] [0,4,6,7,8,9,10]
def X24_2t1:=hO R24_2t1 R24_2p1 R24_2t2 [6,7] [0,4,6,7,8,9,10] [⟨some 8,.call (.c (.fn 43 [] [])) [(.t 6),(.t 7)],none⟩]
def T24_2p2:=hT R24_2p2 [8] [9,10] 11 [] [(9,(.op (.extract (.t 0) 0) [(.t 8)])),(10,(.op (.extract (.t 0) 1) [(.t 8)]))] [.sub 0 [] [],.sub 1 [] []]
def X24_2t2:=hS R24_2t2 R24_2p2 R24_2t3 [8] [9,10] [0,4,6,7,8,9,10]
def X24_2t3:=hO R24_2t3 R24_2p3 R24_2t4 [9] [0,4,6,7,8,9,10] [⟨none,.store 3 (.t 2) (.t 9),none⟩]
def T24_2t4:=hT R24_2t4 [0,4,6,7,8,9,10] [3] 4 [] [(3,(.t 10))] [.tt 10]
def X24_2t4:=hL R24_2t4 [0,4,6,7,8,9,10] [3]
def s_f24:ACFun:={ ntmps:=11,results:=[(.cell 2 true 3),(.tmp 3)],body:=
 (.seq (.region R24_0 [] K24_0)
 (.seq (.region R24_1 [] [5])
 (.seq (.region R24_2 [] [0,4,6,7,8,9,10])
 .ret))) }
theorem s_f24_first:firstOk (List.range' 1 (s_f24.ntmps - 1)) s_f24.body=true:=by kernel_rfl
abbrev k_f25:Nat:=25
def K25_0:List Nat:=[1,3,4,5,6,7,8,9,10,11,12,13,14,15,16,17,18,19,20,21,22,23]
def A25_0_0:=hK K25_0 0
def A25_0_2:=hK K25_0 2
theorem A25_0_3:K25_0.contains 3=true:=by kernel_rfl
def R25_0t1:List AOper:=[⟨some 3,.move (.c (.s (.bool false))),none⟩]
def R25_0p0:List AOper:=[⟨some 2,.alloc [(.s (.int .i64 0)),(.s (.int .i64 0)),(.s (.int .i64 0))],none⟩]
def R25_0:List AOper:=R25_0p0 ++ R25_0t1
def X25_0:=hO R25_0 R25_0p0 R25_0t1 [1,3,4,5,6,7,8,9,10,11,12,13,14,15,16,17,18,19,20,21,22,23] K25_0 [⟨some 2,.alloc [(.s (.int .i64 0)),(.s (.int .i64 0)),(.s (.int .i64 0))],none⟩]
def T25_0t1:=hT R25_0t1 K25_0 [] 4 [] [] [.cc (.s (.bool false))]
def X25_0t1:=hL R25_0t1 K25_0 []
def R25_1t2:List AOper:=[⟨some 4,.move (.t 6),none⟩]
def R25_1p1:List AOper:=[⟨some 6,.call (.c (.fn 45 [] [])) [(.t 5),(.c (.s (.string ⟨#[109,97,105,110]⟩)))],none⟩]
def R25_1t1:List AOper:=R25_1p1 ++ R25_1t2
def R25_1p0:List AOper:=[⟨some 5,.move (.t 0),none⟩]
def R25_1:List AOper:=R25_1p0 ++ R25_1t1
def T25_1p0:=hT R25_1p0 [] [5] 6 [] [(5,(.t 0))] [.tt 0]
def X25_1:=hS R25_1 R25_1p0 R25_1t1 [] [5] [5,6]
def X25_1t1:=hO R25_1t1 R25_1p1 R25_1t2 [5] [5,6] [⟨some 6,.call (.c (.fn 45 [] [])) [(.t 5),(.c (.s (.string ⟨#[109,97,105,110]⟩)))],none⟩]
def T25_1t2:=hT R25_1t2 [5,6] [4] 5 [] [(4,(.t 6))] [.tt 6]
def X25_1t2:=hL R25_1t2 [5,6] [4]
def R25_2:List AOper:=[
 ⟨some 7,.move (.t 4),none⟩,
 ⟨some 8,.bin .lss (.t 7) (.c (.s (.int .i64 0))),none⟩]
def T25_2:=hT R25_2 [7] [8] 9 [] [(8,(.op (.bin .lss (.t 0) (.c (.s (.int .i64 0)))) [(.t 4),(.c (.s (.int .i64 0)))]))] [.tt 4,.sub 0 [] []]
def R25_3t2:List AOper:=[⟨some 3,.move (.c (.s (.bool true))),none⟩]
def R25_3p1:List AOper:=[⟨none,.store 3 (.t 2) (.t 9),none⟩]
def R25_3t1:List AOper:=R25_3p1 ++ R25_3t2
def R25_3p0:List AOper:=[⟨some 9,.build [(.s (.int .i64 0)),(.s (.int .i64 0)),(.s (.int .i64 0))] [(0,1),(1,1),(2,1)] [],none⟩]
def R25_3:List AOper:=R25_3p0 ++ R25_3t1
def T25_3p0:=hT R25_3p0 [0,4,8] [9] 10 [] [(9,(.op (.build [(.s (.int .i64 0)),(.s (.int .i64 0)),(.s (.int .i64 0))] [(0,1),(1,1),(2,1)] []) []))] [.sub 0 [] []]
def X25_3:=hS R25_3 R25_3p0 R25_3t1 [0,4,8] [9] [0,4,8,9]
def X25_3t1:=hO R25_3t1 R25_3p1 R25_3t2 [9] [0,4,8,9] [⟨none,.store 3 (.t 2) (.t 9),none⟩]
def T25_3t2:=hT R25_3t2 [0,4,8,9] [3] 4 [] [(3,(.c (.s (.bool true))))] [.cc (.s (.bool true))]
def X25_3t2:=hL R25_3t2 [0,4,8,9] [3]
def R25_4:List AOper:=[
 ⟨some 10,.move (.t 0),none⟩,
 ⟨some 11,.nilCheck (.t 10),none⟩,
 ⟨some 12,.fieldAddr 0 (.t 11),none⟩,
 ⟨some 13,.fieldAddr 0 (.t 12),none⟩,
 ⟨some 14,.load false 1 (.t 13),none⟩,
 ⟨some 15,.move (.t 4),none⟩,
 ⟨some 16,.indexAddr 3 (.t 14) (.t 15),none⟩,
 ⟨some 17,.fieldAddr 1 (.t 16),none⟩,
 ⟨some 18,.load false 1 (.t 17),none⟩,
 ⟨some 19,.lenS .s (.t 18),none⟩,
 ⟨some 20,.bin .gtr (.t 19) (.c (.s (.int .i64 0))),none⟩]
def T25_4:=hT R25_4 [0,8,10,11,12,13,14,15,16,17,18,19] [20] 21 [] [(20,(.op (.bin .gtr (.t 0) (.c (.s (.int .i64 0)))) [(.op (.lenS .s (.t 0)) [(.op (.load false 1 (.t 0)) [(.op (.fieldAddr 1 (.t 0)) [(.op (.indexAddr 3 (.t 0) (.t 1)) [(.op (.load false 1 (.t 0)) [(.op (.fieldAddr 0 (.t 0)) [(.op (.fieldAddr 0 (.t 0)) [(.op (.nilCheck (.t 0)) [(.t 0)])])])]),(.t 4)])])])]),(.c (.s (.int .i64 0)))]))] [.tt 0,.sub 0 [0,0,0,0,0,0,0,0] [],.sub 0 [0,0,0,0,0,0,0] [],.sub 0 [0,0,0,0,0,0] [],.sub 0 [0,0,0,0,0] [],.tt 4,.sub 0 [0,0,0,0] [],.sub 0 [0,0,0] [],.sub 0 [0,0] [],.sub 0 [0] [],.sub 0 [] []]
def R25_5t2:List AOper:=[⟨some 3,.move (.c (.s (.bool true))),none⟩]
def R25_5p1:List AOper:=[⟨none,.store 3 (.t 2) (.t 22),none⟩]
def R25_5t1:List AOper:=R25_5p1 ++ R25_5t2
def R25_5p0:List AOper:=[⟨some 21,.move (.t 4),none⟩,⟨some 22,.build [(.s (.int .i64 0)),(.s (.int .i64 0)),(.s (.int .i64 0))] [(0,1),(1,1),(2,1)] [(0,(.t 21))],none⟩]
def R25_5:List AOper:=R25_5p0 ++ R25_5t1
def T25_5p0:=hT R25_5p0 [4,20,21] [22] 23 [] [(22,(.op (.build [(.s (.int .i64 0)),(.s (.int .i64 0)),(.s (.int .i64 0))] [(0,1),(1,1),(2,1)] [(0,(.t 0))]) [(.t 4)]))] [.tt 4,.sub 0 [] []]
def X25_5:=hS R25_5 R25_5p0 R25_5t1 [4,20,21] [22] [4,20,21,22]
def X25_5t1:=hO R25_5t1 R25_5p1 R25_5t2 [22] [4,20,21,22] [⟨none,.store 3 (.t 2) (.t 22),none⟩]
def T25_5t2:=hT R25_5t2 [4,20,21,22] [3] 4 [] [(3,(.c (.s (.bool true))))] [.cc (.s (.bool true))]
def X25_5t2:=hL R25_5t2 [4,20,21,22] [3]
def R25_6t2:List AOper:=[⟨some 3,.move (.c (.s (.bool false))),none⟩]
def R25_6p1:List AOper:=[⟨none,.store 3 (.t 2) (.t 23),none⟩]
def R25_6t1:List AOper:=R25_6p1 ++ R25_6t2
def R25_6p0:List AOper:=[⟨some 23,.build [(.s (.int .i64 0)),(.s (.int .i64 0)),(.s (.int .i64 0))] [(0,1),(1,1),(2,1)] [],none⟩]
def R25_6:List AOper:=R25_6p0 ++ R25_6t1
def T25_6p0:=hT R25_6p0 [4,20] [23] 24 [] [(23,(.op (.build [(.s (.int .i64 0)),(.s (.int .i64 0)),(.s (.int .i64 0))] [(0,1),(1,1),(2,1)] []) []))] [.sub 0 [] []]
def X25_6:=hS R25_6 R25_6p0 R25_6t1 [4,20] [23] [4,20,23]
def X25_6t1:=hO R25_6t1 R25_6p1 R25_6t2 [23] [4,20,23] [⟨none,.store 3 (.t 2) (.t 23),none⟩]
def T25_6t2:=hT R25_6t2 [4,20,23] [3] 4 [] [(3,(.c (.s (.bool false))))] [.cc (.s (.bool false))]
def X25_6t2:=hL R25_6t2 [4,20,23] [3]
def s_f25:ACFun:={ ntmps:=24,results:=[(.cell 2 true 3),(.tmp 3)],body:=
 (.seq (.region R25_0 [] K25_0)
 (.seq (.region R25_1 [] [5,6])
 (.seq (.seq (.regionE R25_2 [7] [8])
 (.cond (.t 8)
 (.seq (.region R25_3 [] [0,4,8,9])
 .ret)
 .skip))
 (.seq (.seq (.regionE R25_4 [0,8,10,11,12,13,14,15,16,17,18,19] [20])
 (.cond (.t 20)
 (.seq (.region R25_5 [] [4,20,21,22])
 .ret)
 .skip))
 (.seq (.region R25_6 [] [4,20,23])
 .ret))))) }
theorem s_f25_first:firstOk (List.range' 1 (s_f25.ntmps - 1)) s_f25.body=true:=by kernel_rfl
abbrev k_f26:Nat:=26
def K26_0:List Nat:=[1,3,4,5,6,7,8,9,10,11,12,13,14,15,16,17,18,19,20,21,22,23,24,25,26,27,28,29,30,31,32,33,34,35,36,37,38,39,40,41,42,43,44,45,46,47,48,49,50,51,52,53,54,55,56,57,58,59]
def A26_0_0:=hK K26_0 0
def A26_0_2:=hK K26_0 2
theorem A26_0_3:K26_0.contains 3=true:=by kernel_rfl
def R26_0t1:List AOper:=[⟨some 3,.move (.c (.s (.bool false))),none⟩]
def R26_0p0:List AOper:=[⟨some 2,.alloc [(.s (.int .i64 0)),(.s (.int .i64 0)),(.s (.int .i64 0))],none⟩]
def R26_0:List AOper:=R26_0p0 ++ R26_0t1
def K26_0p0:List Nat:=[1,3,4,5,6,7,8,9,10,11,12,13,14,15,16,17,18,19,20,21,22,23,24,25,26,27,28,29,30,31,32,33,34,35,36,37,38,39,40,41,42,43,44,45,46,47,48,49,50,51,52,53,54,55,56,57,58,59]
def A26_0p0_0:=hK K26_0p0 0
def A26_0p0_2:=hK K26_0p0 2
theorem A26_0p0_3:K26_0p0.contains 3=true:=by kernel_rfl
theorem X26_0 (call:CallF) (it:IterF) (base:Nat) (f:List V) (H:Heap):evC call it base (.region R26_0 [] K26_0) f H=thenC call it base (.region R26_0t1 [] K26_0) (opsC [] R26_0p0 K26_0p0 (evOps call base [⟨some 2,.alloc [(.s (.int .i64 0)),(.s (.int .i64 0)),(.s (.int .i64 0))],none⟩] f H)):=(row_op call it base R26_0p0 R26_0t1 (kc:=K26_0p0) (by kernel_rfl) f H).trans (by rw [row_ops];rfl)
def T26_0t1:=hT R26_0t1 K26_0 [] 4 [] [] [.cc (.s (.bool false))]
def X26_0t1:=hL R26_0t1 K26_0 []
def R26_1:List AOper:=[
 ⟨some 10,.move (.t 0),none⟩,
 ⟨some 11,.nilCheck (.t 10),none⟩,
 ⟨some 12,.fieldAddr 0 (.t 11),none⟩,
 ⟨some 13,.fieldAddr 0 (.t 12),none⟩,
 ⟨some 14,.load false 1 (.t 13),none⟩,
 ⟨some 15,.lenS .s (.t 14),none⟩,
 ⟨some 16,.move (.c (.s (.int .i64 0))),none⟩]
def T26_1:=hT R26_1 [0,10,11,12,13] [14,15,16] 17 [] [(14,(.op (.load false 1 (.t 0)) [(.op (.fieldAddr 0 (.t 0)) [(.op (.fieldAddr 0 (.t 0)) [(.op (.nilCheck (.t 0)) [(.t 0)])])])])),(15,(.op (.lenS .s (.t 0)) [(.op (.load false 1 (.t 0)) [(.op (.fieldAddr 0 (.t 0)) [(.op (.fieldAddr 0 (.t 0)) [(.op (.nilCheck (.t 0)) [(.t 0)])])])])])),(16,(.c (.s (.int .i64 0))))] [.tt 0,.sub 0 [0,0,0] [],.sub 0 [0,0] [],.sub 0 [0] [],.sub 0 [] [],.sub 1 [] [],.cc (.s (.int .i64 0))]
def R26_2:List AOper:=[
 ⟨some 17,.bin .lss (.t 16) (.t 15),none⟩]
def T26_2:=hT R26_2 [] [17] 18 [] [(17,(.op (.bin .lss (.t 0) (.t 1)) [(.t 16),(.t 15)]))] [.sub 0 [] []]
def R26_3t3:List AOper:=[⟨none,.store 3 (.t 5) (.t 20),none⟩]
def R26_3p2:List AOper:=[⟨some 4,.move (.t 18),none⟩]
def R26_3t2:List AOper:=R26_3p2 ++ R26_3t3
def R26_3p1:List AOper:=[⟨some 5,.alloc [(.s (.string ⟨#[]⟩)),(.s (.slice none 0 0)),(.s (.slice none 0 0))],none⟩]
def R26_3t1:List AOper:=R26_3p1 ++ R26_3t2
def R26_3p0:List AOper:=[⟨some 18,.move (.t 16),none⟩,⟨some 19,.indexAddr 3 (.t 14) (.t 16),none⟩,⟨some 20,.load true 3 (.t 19),none⟩]
def R26_3:List AOper:=R26_3p0 ++ R26_3t1
def T26_3p0:=hT R26_3p0 [17,19] [18,20] 21 [] [(18,(.t 16)),(20,(.op (.load true 3 (.t 0)) [(.op (.indexAddr 3 (.t 0) (.t 1)) [(.t 14),(.t 16)])]))] [.tt 16,.sub 1 [0] [],.sub 1 [] []]
def X26_3:=hS R26_3 R26_3p0 R26_3t1 [17,19] [18,20] [17,18,19,20]
def X26_3t1:=hO R26_3t1 R26_3p1 R26_3t2 [] [17,18,19,20] [⟨some 5,.alloc [(.s (.string ⟨#[]⟩)),(.s (.slice none 0 0)),(.s (.slice none 0 0))],none⟩]
def T26_3p2:=hT R26_3p2 [18] [4] 5 [] [(4,(.t 18))] [.tt 18]
def X26_3t2:=hS R26_3t2 R26_3p2 R26_3t3 [18] [4] [17,18,19,20]
def X26_3t3:=hX R26_3t3 [17,18,19,20] [⟨none,.store 3 (.t 5) (.t 20),none⟩]
def R26_4:List AOper:=[
 ⟨some 21,.fieldAddr 1 (.t 5),none⟩,
 ⟨some 22,.load false 1 (.t 21),none⟩,
 ⟨some 23,.lenS .s (.t 22),none⟩,
 ⟨some 24,.bin .gtr (.t 23) (.c (.s (.int .i64 8))),none⟩]
def T26_4:=hT R26_4 [21,22,23] [24] 25 [] [(24,(.op (.bin .gtr (.t 0) (.c (.s (.int .i64 8)))) [(.op (.lenS .s (.t 0)) [(.op (.load false 1 (.t 0)) [(.op (.fieldAddr 1 (.t 0)) [(.t 5)])])]),(.c (.s (.int .i64 8)))]))] [.sub 0 [0,0,0] [],.sub 0 [0,0] [],.sub 0 [0] [],.sub 0 [] []]
def R26_5t2:List AOper:=[⟨some 3,.move (.c (.s (.bool true))),none⟩]
def R26_5p1:List AOper:=[⟨none,.store 3 (.t 2) (.t 26),none⟩]
def R26_5t1:List AOper:=R26_5p1 ++ R26_5t2
def R26_5p0:List AOper:=[⟨some 25,.move (.t 4),none⟩,⟨some 26,.build [(.s (.int .i64 0)),(.s (.int .i64 0)),(.s (.int .i64 0))] [(0,1),(1,1),(2,1)] [(0,(.t 25))],none⟩]
def R26_5:List AOper:=R26_5p0 ++ R26_5t1
def T26_5p0:=hT R26_5p0 [4,5,14,15,16,24,25] [26] 27 [] [(26,(.op (.build [(.s (.int .i64 0)),(.s (.int .i64 0)),(.s (.int .i64 0))] [(0,1),(1,1),(2,1)] [(0,(.t 0))]) [(.t 4)]))] [.tt 4,.sub 0 [] []]
def X26_5:=hS R26_5 R26_5p0 R26_5t1 [4,5,14,15,16,24,25] [26] [4,5,14,15,16,24,25,26]
def X26_5t1:=hO R26_5t1 R26_5p1 R26_5t2 [26] [4,5,14,15,16,24,25,26] [⟨none,.store 3 (.t 2) (.t 26),none⟩]
def T26_5t2:=hT R26_5t2 [4,5,14,15,16,24,25,26] [3] 4 [] [(3,(.c (.s (.bool true))))] [.cc (.s (.bool true))]
def X26_5t2:=hL R26_5t2 [4,5,14,15,16,24,25,26] [3]
def R26_6:List AOper:=[
 ⟨some 27,.fieldAddr 2 (.t 5),none⟩,
 ⟨some 28,.load false 1 (.t 27),none⟩,
 ⟨some 29,.lenS .s (.t 28),none⟩,
 ⟨some 30,.move (.c (.s (.int .i64 0))),none⟩]
def T26_6:=hT R26_6 [5,24,27] [28,29,30] 31 [] [(28,(.op (.load false 1 (.t 0)) [(.op (.fieldAddr 2 (.t 0)) [(.t 5)])])),(29,(.op (.lenS .s (.t 0)) [(.op (.load false 1 (.t 0)) [(.op (.fieldAddr 2 (.t 0)) [(.t 5)])])])),(30,(.c (.s (.int .i64 0))))] [.sub 0 [0] [],.sub 0 [] [],.sub 1 [] [],.cc (.s (.int .i64 0))]
def R26_7:List AOper:=[
 ⟨some 31,.bin .lss (.t 30) (.t 29),none⟩]
def T26_7:=hT R26_7 [] [31] 32 [] [(31,(.op (.bin .lss (.t 0) (.t 1)) [(.t 30),(.t 29)]))] [.sub 0 [] []]
def R26_8t3:List AOper:=[⟨none,.store 2 (.t 7) (.t 34),none⟩]
def R26_8p2:List AOper:=[⟨some 6,.move (.t 32),none⟩]
def R26_8t2:List AOper:=R26_8p2 ++ R26_8t3
def R26_8p1:List AOper:=[⟨some 7,.alloc [(.s (.string ⟨#[]⟩)),(.s (.slice none 0 0))],none⟩]
def R26_8t1:List AOper:=R26_8p1 ++ R26_8t2
def R26_8p0:List AOper:=[⟨some 32,.move (.t 30),none⟩,⟨some 33,.indexAddr 2 (.t 28) (.t 30),none⟩,⟨some 34,.load true 2 (.t 33),none⟩]
def R26_8:List AOper:=R26_8p0 ++ R26_8t1
def T26_8p0:=hT R26_8p0 [31,33] [32,34] 35 [] [(32,(.t 30)),(34,(.op (.load true 2 (.t 0)) [(.op (.indexAddr 2 (.t 0) (.t 1)) [(.t 28),(.t 30)])]))] [.tt 30,.sub 1 [0] [],.sub 1 [] []]
def X26_8:=hS R26_8 R26_8p0 R26_8t1 [31,33] [32,34] [31,32,33,34]
def X26_8t1:=hO R26_8t1 R26_8p1 R26_8t2 [] [31,32,33,34] [⟨some 7,.alloc [(.s (.string ⟨#[]⟩)),(.s (.slice none 0 0))],none⟩]
def T26_8p2:=hT R26_8p2 [32] [6] 7 [] [(6,(.t 32))] [.tt 32]
def X26_8t2:=hS R26_8t2 R26_8p2 R26_8t3 [32] [6] [31,32,33,34]
def X26_8t3:=hX R26_8t3 [31,32,33,34] [⟨none,.store 2 (.t 7) (.t 34),none⟩]
def R26_9:List AOper:=[
 ⟨some 35,.fieldAddr 1 (.t 7),none⟩,
 ⟨some 36,.load false 1 (.t 35),none⟩,
 ⟨some 37,.lenS .s (.t 36),none⟩,
 ⟨some 38,.move (.c (.s (.int .i64 0))),none⟩]
def T26_9:=hT R26_9 [7,35] [36,37,38] 39 [] [(36,(.op (.load false 1 (.t 0)) [(.op (.fieldAddr 1 (.t 0)) [(.t 7)])])),(37,(.op (.lenS .s (.t 0)) [(.op (.load false 1 (.t 0)) [(.op (.fieldAddr 1 (.t 0)) [(.t 7)])])])),(38,(.c (.s (.int .i64 0))))] [.sub 0 [0] [],.sub 0 [] [],.sub 1 [] [],.cc (.s (.int .i64 0))]
def R26_10:List AOper:=[
 ⟨some 39,.bin .lss (.t 38) (.t 37),none⟩]
def T26_10:=hT R26_10 [] [39] 40 [] [(39,(.op (.bin .lss (.t 0) (.t 1)) [(.t 38),(.t 37)]))] [.sub 0 [] []]
def R26_11t3:List AOper:=[⟨none,.store 8 (.t 9) (.t 42),none⟩]
def R26_11p2:List AOper:=[⟨some 8,.move (.t 40),none⟩]
def R26_11t2:List AOper:=R26_11p2 ++ R26_11t3
def R26_11p1:List AOper:=[⟨some 9,.alloc [(.s (.int .u8 0)),(.s (.string ⟨#[]⟩)),(.s (.string ⟨#[]⟩)),(.s (.string ⟨#[]⟩)),(.s (.int .i64 0)),(.s (.string ⟨#[]⟩)),(.s (.slice none 0 0)),(.s (.slice none 0 0))],none⟩]
def R26_11t1:List AOper:=R26_11p1 ++ R26_11t2
def R26_11p0:List AOper:=[⟨some 40,.move (.t 38),none⟩,⟨some 41,.indexAddr 8 (.t 36) (.t 38),none⟩,⟨some 42,.load true 8 (.t 41),none⟩]
def R26_11:List AOper:=R26_11p0 ++ R26_11t1
def T26_11p0:=hT R26_11p0 [39,41] [40,42] 43 [] [(40,(.t 38)),(42,(.op (.load true 8 (.t 0)) [(.op (.indexAddr 8 (.t 0) (.t 1)) [(.t 36),(.t 38)])]))] [.tt 38,.sub 1 [0] [],.sub 1 [] []]
def X26_11:=hS R26_11 R26_11p0 R26_11t1 [39,41] [40,42] [39,40,41,42]
def X26_11t1:=hO R26_11t1 R26_11p1 R26_11t2 [] [39,40,41,42] [⟨some 9,.alloc [(.s (.int .u8 0)),(.s (.string ⟨#[]⟩)),(.s (.string ⟨#[]⟩)),(.s (.string ⟨#[]⟩)),(.s (.int .i64 0)),(.s (.string ⟨#[]⟩)),(.s (.slice none 0 0)),(.s (.slice none 0 0))],none⟩]
def T26_11p2:=hT R26_11p2 [40] [8] 9 [] [(8,(.t 40))] [.tt 40]
def X26_11t2:=hS R26_11t2 R26_11p2 R26_11t3 [40] [8] [39,40,41,42]
def X26_11t3:=hX R26_11t3 [39,40,41,42] [⟨none,.store 8 (.t 9) (.t 42),none⟩]
def R26_12t2:List AOper:=[⟨some 46,.move (.t 45),none⟩,⟨some 47,.fieldAddr 6 (.t 9),some (46,true)⟩,⟨some 48,.load false 1 (.t 47),some (46,true)⟩,⟨some 49,.lenS .s (.t 48),some (46,true)⟩,⟨some 50,.bin .gtr (.t 49) (.c (.s (.int .i64 8))),some (46,true)⟩,⟨some 51,.pick (.t 46) (.t 50) (.c (.s (.bool false))),none⟩]
def R26_12p1:List AOper:=[⟨some 45,.call (.c (.fn 46 [] [])) [(.t 44)],none⟩]
def R26_12t1:List AOper:=R26_12p1 ++ R26_12t2
def R26_12p0:List AOper:=[⟨some 43,.fieldAddr 0 (.t 9),none⟩,⟨some 44,.load false 1 (.t 43),none⟩]
def R26_12:List AOper:=R26_12p0 ++ R26_12t1
def T26_12p0:=hT R26_12p0 [43] [44] 45 [] [(44,(.op (.load false 1 (.t 0)) [(.op (.fieldAddr 0 (.t 0)) [(.t 9)])]))] [.sub 0 [0] [],.sub 0 [] []]
def X26_12:=hS R26_12 R26_12p0 R26_12t1 [43] [44] [9,43,44,45,46,47,48,49,50]
def X26_12t1:=hO R26_12t1 R26_12p1 R26_12t2 [44] [9,43,44,45,46,47,48,49,50] [⟨some 45,.call (.c (.fn 46 [] [])) [(.t 44)],none⟩]
def T26_12t2:=hT R26_12t2 [9,43,44,45,46,47,48,49,50] [51] 52 [] [(51,(.pick (.t 45) (.op (.bin .gtr (.t 0) (.c (.s (.int .i64 8)))) [(.op (.lenS .s (.t 0)) [(.op (.load false 1 (.t 0)) [(.op (.fieldAddr 6 (.t 0)) [(.t 9)])])]),(.c (.s (.int .i64 8)))]) (.c (.s (.bool false)))))] [.tt 45,.sub 0 [1,0,0,0] [46],.sub 0 [1,0,0] [46],.sub 0 [1,0] [46],.sub 0 [1] [46],.sub 0 [] []]
def X26_12t2:=hL R26_12t2 [9,43,44,45,46,47,48,49,50] [51]
def R26_13t2:List AOper:=[⟨some 3,.move (.c (.s (.bool true))),none⟩]
def R26_13p1:List AOper:=[⟨none,.store 3 (.t 2) (.t 55),none⟩]
def R26_13t1:List AOper:=R26_13p1 ++ R26_13t2
def R26_13p0:List AOper:=[⟨some 52,.move (.t 4),none⟩,⟨some 53,.move (.t 6),none⟩,⟨some 54,.move (.t 8),none⟩,⟨some 55,.build [(.s (.int .i64 0)),(.s (.int .i64 0)),(.s (.int .i64 0))] [(0,1),(1,1),(2,1)] [(0,(.t 52)),(1,(.t 53)),(2,(.t 54))],none⟩]
def R26_13:List AOper:=R26_13p0 ++ R26_13t1
def T26_13p0:=hT R26_13p0 [4,6,8,14,15,16,28,29,30,36,37,38,51,52,53,54] [55] 56 [] [(55,(.op (.build [(.s (.int .i64 0)),(.s (.int .i64 0)),(.s (.int .i64 0))] [(0,1),(1,1),(2,1)] [(0,(.t 0)),(1,(.t 1)),(2,(.t 2))]) [(.t 4),(.t 6),(.t 8)]))] [.tt 4,.tt 6,.tt 8,.sub 0 [] []]
def X26_13:=hS R26_13 R26_13p0 R26_13t1 [4,6,8,14,15,16,28,29,30,36,37,38,51,52,53,54] [55] [4,6,8,14,15,16,28,29,30,36,37,38,51,52,53,54,55]
def X26_13t1:=hO R26_13t1 R26_13p1 R26_13t2 [55] [4,6,8,14,15,16,28,29,30,36,37,38,51,52,53,54,55] [⟨none,.store 3 (.t 2) (.t 55),none⟩]
def T26_13t2:=hT R26_13t2 [4,6,8,14,15,16,28,29,30,36,37,38,51,52,53,54,55] [3] 4 [] [(3,(.c (.s (.bool true))))] [.cc (.s (.bool true))]
def X26_13t2:=hL R26_13t2 [4,6,8,14,15,16,28,29,30,36,37,38,51,52,53,54,55] [3]
def R26_14:List AOper:=[
 ⟨some 56,.bin .add (.t 38) (.c (.s (.int .i64 1))),none⟩,
 ⟨some 38,.move (.t 56),none⟩]
def T26_14:=hT R26_14 [8,51,56] [38] 57 [] [(38,(.op (.bin .add (.t 0) (.c (.s (.int .i64 1)))) [(.t 38),(.c (.s (.int .i64 1)))]))] [.sub 0 [] [],.sub 0 [] []]
def s_f26_l0_b:ACode:=
 (.seq (.regionE R26_10 [] [39])
 (.seq (.cond (.t 39)
 .skip
 (.exit 4))
 (.seq (.block 5
 (.seq (.region R26_11 [] [39,40,41,42])
 (.seq (.region R26_12 [] [9,43,44,45,46,47,48,49,50])
 (.cond (.t 51)
 (.seq (.region R26_13 [] [4,6,8,14,15,16,28,29,30,36,37,38,51,52,53,54,55])
 .ret)
 .skip))))
 (.regionE R26_14 [8,51,56] [38]))))
def s_f26_l0:ACode:=s_f26_l0_b
def s_f26_l0_ev:=hE s_f26_l0 s_f26_l0_b
def R26_15:List AOper:=[
 ⟨some 57,.bin .add (.t 30) (.c (.s (.int .i64 1))),none⟩,
 ⟨some 30,.move (.t 57),none⟩]
def T26_15:=hT R26_15 [6,36,37,38,39,57] [30] 58 [] [(30,(.op (.bin .add (.t 0) (.c (.s (.int .i64 1)))) [(.t 30),(.c (.s (.int .i64 1)))]))] [.sub 0 [] [],.sub 0 [] []]
def s_f26_l1_b:ACode:=
 (.seq (.regionE R26_7 [] [31])
 (.seq (.cond (.t 31)
 .skip
 (.exit 2))
 (.seq (.block 3
 (.seq (.region R26_8 [] [31,32,33,34])
 (.seq (.regionE R26_9 [7,35] [36,37,38])
 (.block 4
 (.loop [] s_f26_l0)))))
 (.regionE R26_15 [6,36,37,38,39,57] [30]))))
def s_f26_l1:ACode:=s_f26_l1_b
def s_f26_l1_ev:=hE s_f26_l1 s_f26_l1_b
def R26_16:List AOper:=[
 ⟨some 58,.bin .add (.t 16) (.c (.s (.int .i64 1))),none⟩,
 ⟨some 16,.move (.t 58),none⟩]
def T26_16:=hT R26_16 [4,28,29,30,31,58] [16] 59 [] [(16,(.op (.bin .add (.t 0) (.c (.s (.int .i64 1)))) [(.t 16),(.c (.s (.int .i64 1)))]))] [.sub 0 [] [],.sub 0 [] []]
def s_f26_l2_b:ACode:=
 (.seq (.regionE R26_2 [] [17])
 (.seq (.cond (.t 17)
 .skip
 (.exit 0))
 (.seq (.block 1
 (.seq (.region R26_3 [] [17,18,19,20])
 (.seq (.seq (.regionE R26_4 [21,22,23] [24])
 (.cond (.t 24)
 (.seq (.region R26_5 [] [4,5,14,15,16,24,25,26])
 .ret)
 .skip))
 (.seq (.regionE R26_6 [5,24,27] [28,29,30])
 (.block 2
 (.loop [] s_f26_l1))))))
 (.regionE R26_16 [4,28,29,30,31,58] [16]))))
def s_f26_l2:ACode:=s_f26_l2_b
def s_f26_l2_ev:=hE s_f26_l2 s_f26_l2_b
def R26_17t2:List AOper:=[⟨some 3,.move (.c (.s (.bool false))),none⟩]
def R26_17p1:List AOper:=[⟨none,.store 3 (.t 2) (.t 59),none⟩]
def R26_17t1:List AOper:=R26_17p1 ++ R26_17t2
def R26_17p0:List AOper:=[⟨some 59,.build [(.s (.int .i64 0)),(.s (.int .i64 0)),(.s (.int .i64 0))] [(0,1),(1,1),(2,1)] [],none⟩]
def R26_17:List AOper:=R26_17p0 ++ R26_17t1
def T26_17p0:=hT R26_17p0 [14,15,16,17] [59] 60 [] [(59,(.op (.build [(.s (.int .i64 0)),(.s (.int .i64 0)),(.s (.int .i64 0))] [(0,1),(1,1),(2,1)] []) []))] [.sub 0 [] []]
def X26_17:=hS R26_17 R26_17p0 R26_17t1 [14,15,16,17] [59] [14,15,16,17,59]
def X26_17t1:=hO R26_17t1 R26_17p1 R26_17t2 [59] [14,15,16,17,59] [⟨none,.store 3 (.t 2) (.t 59),none⟩]
def T26_17t2:=hT R26_17t2 [14,15,16,17,59] [3] 4 [] [(3,(.c (.s (.bool false))))] [.cc (.s (.bool false))]
def X26_17t2:=hL R26_17t2 [14,15,16,17,59] [3]
def s_f26:ACFun:={ ntmps:=60,results:=[(.cell 2 true 3),(.tmp 3)],body:=
 (.seq (.region R26_0 [] K26_0)
 (.seq (.seq (.regionE R26_1 [0,10,11,12,13] [14,15,16])
 (.block 0
 (.loop [] s_f26_l2)))
 (.seq (.region R26_17 [] [14,15,16,17,59])
 .ret))) }
theorem s_f26_first:firstOk (List.range' 1 (s_f26.ntmps - 1)) s_f26.body=true:=by kernel_rfl
abbrev k_f27:Nat:=27
def K27_0:List Nat:=[1,3,4,5,6,7]
def A27_0_0:=hK K27_0 0
def A27_0_2:=hK K27_0 2
theorem A27_0_3:K27_0.contains 3=true:=by kernel_rfl
def R27_0t1:List AOper:=[⟨some 3,.move (.c (.s (.bool false))),none⟩]
def R27_0p0:List AOper:=[⟨some 2,.alloc [(.s (.int .i64 0)),(.s (.int .i64 0)),(.s (.int .i64 0))],none⟩]
def R27_0:List AOper:=R27_0p0 ++ R27_0t1
def X27_0:=hO R27_0 R27_0p0 R27_0t1 [1,3,4,5,6,7] K27_0 [⟨some 2,.alloc [(.s (.int .i64 0)),(.s (.int .i64 0)),(.s (.int .i64 0))],none⟩]
def T27_0t1:=hT R27_0t1 K27_0 [] 4 [] [] [.cc (.s (.bool false))]
def X27_0t1:=hL R27_0t1 K27_0 []
def R27_1t4:List AOper:=[⟨some 3,.move (.t 7),none⟩]
def R27_1p3:List AOper:=[⟨none,.store 3 (.t 2) (.t 6),none⟩]
def R27_1t3:List AOper:=R27_1p3 ++ R27_1t4
def R27_1p2:List AOper:=[⟨some 6,.extract (.t 5) 0,none⟩,⟨some 7,.extract (.t 5) 1,none⟩]
def R27_1t2:List AOper:=R27_1p2 ++ R27_1t3
def R27_1p1:List AOper:=[⟨some 5,.call (.c (.fn 43 [] [])) [(.t 4),(.c (.fn 47 [] []))],none⟩]
def R27_1t1:List AOper:=R27_1p1 ++ R27_1t2
def R27_1p0:List AOper:=[⟨some 4,.move (.t 0),none⟩]
def R27_1:List AOper:=R27_1p0 ++ R27_1t1
def T27_1p0:=hT R27_1p0 [0] [4] 5 [] [(4,(.t 0))] [.tt 0]
def X27_1:=hS R27_1 R27_1p0 R27_1t1 [0] [4] [0,4,5,6,7]
def X27_1t1:=hO R27_1t1 R27_1p1 R27_1t2 [4] [0,4,5,6,7] [⟨some 5,.call (.c (.fn 43 [] [])) [(.t 4),(.c (.fn 47 [] []))],none⟩]
def T27_1p2:=hT R27_1p2 [5] [6,7] 8 [] [(6,(.op (.extract (.t 0) 0) [(.t 5)])),(7,(.op (.extract (.t 0) 1) [(.t 5)]))] [.sub 0 [] [],.sub 1 [] []]
def X27_1t2:=hS R27_1t2 R27_1p2 R27_1t3 [5] [6,7] [0,4,5,6,7]
def X27_1t3:=hO R27_1t3 R27_1p3 R27_1t4 [6] [0,4,5,6,7] [⟨none,.store 3 (.t 2) (.t 6),none⟩]
def T27_1t4:=hT R27_1t4 [0,4,5,6,7] [3] 4 [] [(3,(.t 7))] [.tt 7]
def X27_1t4:=hL R27_1t4 [0,4,5,6,7] [3]
def s_f27:ACFun:={ ntmps:=8,results:=[(.cell 2 true 3),(.tmp 3)],body:=
 (.seq (.region R27_0 [] K27_0)
 (.seq (.region R27_1 [] [0,4,5,6,7])
 .ret)) }
theorem s_f27_first:firstOk (List.range' 1 (s_f27.ntmps - 1)) s_f27.body=true:=by kernel_rfl
abbrev k_f28:Nat:=28
def K28_0:List Nat:=[1,3,4,5,6,7,8,9,10,11,12,13,14,15,16,17,18,19,20,21,22,23,24,25,26,27,28,29,30,31,32,33,34,35,36,37,38,39,40,41]
def A28_0_0:=hK K28_0 0
def A28_0_2:=hK K28_0 2
theorem A28_0_3:K28_0.contains 3=true:=by kernel_rfl
def R28_0t1:List AOper:=[⟨some 3,.move (.c (.s (.bool false))),none⟩]
def R28_0p0:List AOper:=[⟨some 2,.alloc [(.s (.int .i64 0)),(.s (.int .i64 0)),(.s (.int .i64 0))],none⟩]
def R28_0:List AOper:=R28_0p0 ++ R28_0t1
def X28_0:=hO R28_0 R28_0p0 R28_0t1 [1,3,4,5,6,7,8,9,10,11,12,13,14,15,16,17,18,19,20,21,22,23,24,25,26,27,28,29,30,31,32,33,34,35,36,37,38,39,40,41] K28_0 [⟨some 2,.alloc [(.s (.int .i64 0)),(.s (.int .i64 0)),(.s (.int .i64 0))],none⟩]
def T28_0t1:=hT R28_0t1 K28_0 [] 4 [] [] [.cc (.s (.bool false))]
def X28_0t1:=hL R28_0t1 K28_0 []
def R28_1:List AOper:=[
 ⟨some 9,.move (.t 0),none⟩,
 ⟨some 10,.nilCheck (.t 9),none⟩,
 ⟨some 11,.fieldAddr 0 (.t 10),none⟩,
 ⟨some 12,.fieldAddr 0 (.t 11),none⟩,
 ⟨some 13,.load false 1 (.t 12),none⟩,
 ⟨some 14,.lenS .s (.t 13),none⟩,
 ⟨some 15,.move (.c (.s (.int .i64 0))),none⟩]
def T28_1:=hT R28_1 [0,9,10,11,12] [13,14,15] 16 [] [(13,(.op (.load false 1 (.t 0)) [(.op (.fieldAddr 0 (.t 0)) [(.op (.fieldAddr 0 (.t 0)) [(.op (.nilCheck (.t 0)) [(.t 0)])])])])),(14,(.op (.lenS .s (.t 0)) [(.op (.load false 1 (.t 0)) [(.op (.fieldAddr 0 (.t 0)) [(.op (.fieldAddr 0 (.t 0)) [(.op (.nilCheck (.t 0)) [(.t 0)])])])])])),(15,(.c (.s (.int .i64 0))))] [.tt 0,.sub 0 [0,0,0] [],.sub 0 [0,0] [],.sub 0 [0] [],.sub 0 [] [],.sub 1 [] [],.cc (.s (.int .i64 0))]
def R28_2:List AOper:=[
 ⟨some 16,.bin .lss (.t 15) (.t 14),none⟩]
def T28_2:=hT R28_2 [] [16] 17 [] [(16,(.op (.bin .lss (.t 0) (.t 1)) [(.t 15),(.t 14)]))] [.sub 0 [] []]
def R28_3t3:List AOper:=[⟨none,.store 3 (.t 5) (.t 19),none⟩]
def R28_3p2:List AOper:=[⟨some 4,.move (.t 17),none⟩]
def R28_3t2:List AOper:=R28_3p2 ++ R28_3t3
def R28_3p1:List AOper:=[⟨some 5,.alloc [(.s (.string ⟨#[]⟩)),(.s (.slice none 0 0)),(.s (.slice none 0 0))],none⟩]
def R28_3t1:List AOper:=R28_3p1 ++ R28_3t2
def R28_3p0:List AOper:=[⟨some 17,.move (.t 15),none⟩,⟨some 18,.indexAddr 3 (.t 13) (.t 15),none⟩,⟨some 19,.load true 3 (.t 18),none⟩]
def R28_3:List AOper:=R28_3p0 ++ R28_3t1
def T28_3p0:=hT R28_3p0 [16,18] [17,19] 20 [] [(17,(.t 15)),(19,(.op (.load true 3 (.t 0)) [(.op (.indexAddr 3 (.t 0) (.t 1)) [(.t 13),(.t 15)])]))] [.tt 15,.sub 1 [0] [],.sub 1 [] []]
def X28_3:=hS R28_3 R28_3p0 R28_3t1 [16,18] [17,19] [16,17,18,19]
def X28_3t1:=hO R28_3t1 R28_3p1 R28_3t2 [] [16,17,18,19] [⟨some 5,.alloc [(.s (.string ⟨#[]⟩)),(.s (.slice none 0 0)),(.s (.slice none 0 0))],none⟩]
def T28_3p2:=hT R28_3p2 [17] [4] 5 [] [(4,(.t 17))] [.tt 17]
def X28_3t2:=hS R28_3t2 R28_3p2 R28_3t3 [17] [4] [16,17,18,19]
def X28_3t3:=hX R28_3t3 [16,17,18,19] [⟨none,.store 3 (.t 5) (.t 19),none⟩]
def R28_4t1:List AOper:=[⟨some 6,.move (.t 20),none⟩]
def R28_4p0:List AOper:=[⟨some 20,.mapNew,none⟩]
def R28_4:List AOper:=R28_4p0 ++ R28_4t1
def X28_4:=hO R28_4 R28_4p0 R28_4t1 [] [20] [⟨some 20,.mapNew,none⟩]
def T28_4t1:=hT R28_4t1 [20] [6] 7 [] [(6,(.t 20))] [.tt 20]
def X28_4t1:=hL R28_4t1 [20] [6]
def R28_5:List AOper:=[
 ⟨some 21,.fieldAddr 2 (.t 5),none⟩,
 ⟨some 22,.load false 1 (.t 21),none⟩,
 ⟨some 23,.lenS .s (.t 22),none⟩,
 ⟨some 24,.move (.c (.s (.int .i64 0))),none⟩]
def T28_5:=hT R28_5 [5,21] [22,23,24] 25 [] [(22,(.op (.load false 1 (.t 0)) [(.op (.fieldAddr 2 (.t 0)) [(.t 5)])])),(23,(.op (.lenS .s (.t 0)) [(.op (.load false 1 (.t 0)) [(.op (.fieldAddr 2 (.t 0)) [(.t 5)])])])),(24,(.c (.s (.int .i64 0))))] [.sub 0 [0] [],.sub 0 [] [],.sub 1 [] [],.cc (.s (.int .i64 0))]
def R28_6:List AOper:=[
 ⟨some 25,.bin .lss (.t 24) (.t 23),none⟩]
def T28_6:=hT R28_6 [] [25] 26 [] [(25,(.op (.bin .lss (.t 0) (.t 1)) [(.t 24),(.t 23)]))] [.sub 0 [] []]
def R28_7t3:List AOper:=[⟨none,.store 2 (.t 8) (.t 28),none⟩]
def R28_7p2:List AOper:=[⟨some 7,.move (.t 26),none⟩]
def R28_7t2:List AOper:=R28_7p2 ++ R28_7t3
def R28_7p1:List AOper:=[⟨some 8,.alloc [(.s (.string ⟨#[]⟩)),(.s (.slice none 0 0))],none⟩]
def R28_7t1:List AOper:=R28_7p1 ++ R28_7t2
def R28_7p0:List AOper:=[⟨some 26,.move (.t 24),none⟩,⟨some 27,.indexAddr 2 (.t 22) (.t 24),none⟩,⟨some 28,.load true 2 (.t 27),none⟩]
def R28_7:List AOper:=R28_7p0 ++ R28_7t1
def T28_7p0:=hT R28_7p0 [25,27] [26,28] 29 [] [(26,(.t 24)),(28,(.op (.load true 2 (.t 0)) [(.op (.indexAddr 2 (.t 0) (.t 1)) [(.t 22),(.t 24)])]))] [.tt 24,.sub 1 [0] [],.sub 1 [] []]
def X28_7:=hS R28_7 R28_7p0 R28_7t1 [25,27] [26,28] [25,26,27,28]
def X28_7t1:=hO R28_7t1 R28_7p1 R28_7t2 [] [25,26,27,28] [⟨some 8,.alloc [(.s (.string ⟨#[]⟩)),(.s (.slice none 0 0))],none⟩]
def T28_7p2:=hT R28_7p2 [26] [7] 8 [] [(7,(.t 26))] [.tt 26]
def X28_7t2:=hS R28_7t2 R28_7p2 R28_7t3 [26] [7] [25,26,27,28]
def X28_7t3:=hX R28_7t3 [25,26,27,28] [⟨none,.store 2 (.t 8) (.t 28),none⟩]
def R28_8:List AOper:=[
 ⟨some 29,.move (.t 6),none⟩,
 ⟨some 30,.fieldAddr 0 (.t 8),none⟩,
 ⟨some 31,.load false 1 (.t 30),none⟩,
 ⟨some 32,.mapGet .string (.s (.bool false)) (.t 29) (.t 31) false,none⟩]
def T28_8:=hT R28_8 [29,30,31] [32] 33 [] [(32,(.op (.mapGet .string (.s (.bool false)) (.t 0) (.t 1) false) [(.t 6),(.op (.load false 1 (.t 0)) [(.op (.fieldAddr 0 (.t 0)) [(.t 8)])])]))] [.tt 6,.sub 0 [1,0] [],.sub 0 [1] [],.sub 0 [] []]
def R28_9t2:List AOper:=[⟨some 3,.move (.c (.s (.bool true))),none⟩]
def R28_9p1:List AOper:=[⟨none,.store 3 (.t 2) (.t 35),none⟩]
def R28_9t1:List AOper:=R28_9p1 ++ R28_9t2
def R28_9p0:List AOper:=[⟨some 33,.move (.t 4),none⟩,⟨some 34,.move (.t 7),none⟩,⟨some 35,.build [(.s (.int .i64 0)),(.s (.int .i64 0)),(.s (.int .i64 0))] [(0,1),(1,1),(2,1)] [(0,(.t 33)),(1,(.t 34))],none⟩]
def R28_9:List AOper:=R28_9p0 ++ R28_9t1
def T28_9p0:=hT R28_9p0 [4,6,7,8,13,14,15,22,23,24,32,33,34] [35] 36 [] [(35,(.op (.build [(.s (.int .i64 0)),(.s (.int .i64 0)),(.s (.int .i64 0))] [(0,1),(1,1),(2,1)] [(0,(.t 0)),(1,(.t 1))]) [(.t 4),(.t 7)]))] [.tt 4,.tt 7,.sub 0 [] []]
def X28_9:=hS R28_9 R28_9p0 R28_9t1 [4,6,7,8,13,14,15,22,23,24,32,33,34] [35] [4,6,7,8,13,14,15,22,23,24,32,33,34,35]
def X28_9t1:=hO R28_9t1 R28_9p1 R28_9t2 [35] [4,6,7,8,13,14,15,22,23,24,32,33,34,35] [⟨none,.store 3 (.t 2) (.t 35),none⟩]
def T28_9t2:=hT R28_9t2 [4,6,7,8,13,14,15,22,23,24,32,33,34,35] [3] 4 [] [(3,(.c (.s (.bool true))))] [.cc (.s (.bool true))]
def X28_9t2:=hL R28_9t2 [4,6,7,8,13,14,15,22,23,24,32,33,34,35] [3]
def R28_10t1:List AOper:=[⟨none,.mapUpd .string (.t 36) (.t 38) (.c (.s (.bool true))),none⟩]
def R28_10p0:List AOper:=[⟨some 36,.move (.t 6),none⟩,⟨some 37,.fieldAddr 0 (.t 8),none⟩,⟨some 38,.load false 1 (.t 37),none⟩]
def R28_10:List AOper:=R28_10p0 ++ R28_10t1
def T28_10p0:=hT R28_10p0 [7,8,32,37] [36,38] 39 [] [(36,(.t 6)),(38,(.op (.load false 1 (.t 0)) [(.op (.fieldAddr 0 (.t 0)) [(.t 8)])]))] [.tt 6,.sub 1 [0] [],.sub 1 [] []]
def X28_10:=hS R28_10 R28_10p0 R28_10t1 [7,8,32,37] [36,38] [7,8,32,36,37,38]
def X28_10t1:=hX R28_10t1 [7,8,32,36,37,38] [⟨none,.mapUpd .string (.t 36) (.t 38) (.c (.s (.bool true))),none⟩]
def R28_11:List AOper:=[
 ⟨some 39,.bin .add (.t 24) (.c (.s (.int .i64 1))),none⟩,
 ⟨some 24,.move (.t 39),none⟩]
def T28_11:=hT R28_11 [39] [24] 40 [] [(24,(.op (.bin .add (.t 0) (.c (.s (.int .i64 1)))) [(.t 24),(.c (.s (.int .i64 1)))]))] [.sub 0 [] [],.sub 0 [] []]
def s_f28_l0_b:ACode:=
 (.seq (.regionE R28_6 [] [25])
 (.seq (.cond (.t 25)
 .skip
 (.exit 2))
 (.seq (.block 3
 (.seq (.region R28_7 [] [25,26,27,28])
 (.seq (.seq (.regionE R28_8 [29,30,31] [32])
 (.cond (.t 32)
 (.seq (.region R28_9 [] [4,6,7,8,13,14,15,22,23,24,32,33,34,35])
 .ret)
 .skip))
 (.region R28_10 [] [7,8,32,36,37,38]))))
 (.regionE R28_11 [39] [24]))))
def s_f28_l0:ACode:=s_f28_l0_b
def s_f28_l0_ev:=hE s_f28_l0 s_f28_l0_b
def R28_12:List AOper:=[
 ⟨some 40,.bin .add (.t 15) (.c (.s (.int .i64 1))),none⟩,
 ⟨some 15,.move (.t 40),none⟩]
def T28_12:=hT R28_12 [4,6,22,23,24,25,40] [15] 41 [] [(15,(.op (.bin .add (.t 0) (.c (.s (.int .i64 1)))) [(.t 15),(.c (.s (.int .i64 1)))]))] [.sub 0 [] [],.sub 0 [] []]
def s_f28_l1_b:ACode:=
 (.seq (.regionE R28_2 [] [16])
 (.seq (.cond (.t 16)
 .skip
 (.exit 0))
 (.seq (.block 1
 (.seq (.region R28_3 [] [16,17,18,19])
 (.seq (.region R28_4 [] [20])
 (.seq (.regionE R28_5 [5,21] [22,23,24])
 (.block 2
 (.loop [] s_f28_l0))))))
 (.regionE R28_12 [4,6,22,23,24,25,40] [15]))))
def s_f28_l1:ACode:=s_f28_l1_b
def s_f28_l1_ev:=hE s_f28_l1 s_f28_l1_b
def R28_13t2:List AOper:=[⟨some 3,.move (.c (.s (.bool false))),none⟩]
def R28_13p1:List AOper:=[⟨none,.store 3 (.t 2) (.t 41),none⟩]
def R28_13t1:List AOper:=R28_13p1 ++ R28_13t2
def R28_13p0:List AOper:=[⟨some 41,.build [(.s (.int .i64 0)),(.s (.int .i64 0)),(.s (.int .i64 0))] [(0,1),(1,1),(2,1)] [],none⟩]
def R28_13:List AOper:=R28_13p0 ++ R28_13t1
def T28_13p0:=hT R28_13p0 [13,14,15,16] [41] 42 [] [(41,(.op (.build [(.s (.int .i64 0)),(.s (.int .i64 0)),(.s (.int .i64 0))] [(0,1),(1,1),(2,1)] []) []))] [.sub 0 [] []]
def X28_13:=hS R28_13 R28_13p0 R28_13t1 [13,14,15,16] [41] [13,14,15,16,41]
def X28_13t1:=hO R28_13t1 R28_13p1 R28_13t2 [41] [13,14,15,16,41] [⟨none,.store 3 (.t 2) (.t 41),none⟩]
def T28_13t2:=hT R28_13t2 [13,14,15,16,41] [3] 4 [] [(3,(.c (.s (.bool false))))] [.cc (.s (.bool false))]
def X28_13t2:=hL R28_13t2 [13,14,15,16,41] [3]
def s_f28:ACFun:={ ntmps:=42,results:=[(.cell 2 true 3),(.tmp 3)],body:=
 (.seq (.region R28_0 [] K28_0)
 (.seq (.seq (.regionE R28_1 [0,9,10,11,12] [13,14,15])
 (.block 0
 (.loop [] s_f28_l1)))
 (.seq (.region R28_13 [] [13,14,15,16,41])
 .ret))) }
theorem s_f28_first:firstOk (List.range' 1 (s_f28.ntmps - 1)) s_f28.body=true:=by kernel_rfl
abbrev k_f29:Nat:=29
def K29_0:List Nat:=[1,3,4,5,6,7,8,9]
def A29_0_0:=hK K29_0 0
def A29_0_2:=hK K29_0 2
theorem A29_0_3:K29_0.contains 3=true:=by kernel_rfl
def R29_0t1:List AOper:=[⟨some 3,.move (.c (.s (.bool false))),none⟩]
def R29_0p0:List AOper:=[⟨some 2,.alloc [(.s (.int .i64 0)),(.s (.int .i64 0)),(.s (.int .i64 0))],none⟩]
def R29_0:List AOper:=R29_0p0 ++ R29_0t1
def X29_0:=hO R29_0 R29_0p0 R29_0t1 [1,3,4,5,6,7,8,9] K29_0 [⟨some 2,.alloc [(.s (.int .i64 0)),(.s (.int .i64 0)),(.s (.int .i64 0))],none⟩]
def T29_0t1:=hT R29_0t1 K29_0 [] 4 [] [] [.cc (.s (.bool false))]
def X29_0t1:=hL R29_0t1 K29_0 []
def R29_1t1:List AOper:=[⟨none,.store 1 (.t 4) (.c (.s (.int .i64 0))),none⟩]
def R29_1p0:List AOper:=[⟨some 4,.alloc [(.s (.int .i64 0))],none⟩]
def R29_1:List AOper:=R29_1p0 ++ R29_1t1
def X29_1:=hO R29_1 R29_1p0 R29_1t1 [] [] [⟨some 4,.alloc [(.s (.int .i64 0))],none⟩]
def X29_1t1:=hX R29_1t1 [] [⟨none,.store 1 (.t 4) (.c (.s (.int .i64 0))),none⟩]
def R29_2t4:List AOper:=[⟨some 3,.move (.t 9),none⟩]
def R29_2p3:List AOper:=[⟨none,.store 3 (.t 2) (.t 8),none⟩]
def R29_2t3:List AOper:=R29_2p3 ++ R29_2t4
def R29_2p2:List AOper:=[⟨some 8,.extract (.t 7) 0,none⟩,⟨some 9,.extract (.t 7) 1,none⟩]
def R29_2t2:List AOper:=R29_2p2 ++ R29_2t3
def R29_2p1:List AOper:=[⟨some 7,.call (.c (.fn 48 [] [])) [(.t 5),(.t 6)],none⟩]
def R29_2t1:List AOper:=R29_2p1 ++ R29_2t2
def R29_2p0:List AOper:=[⟨some 5,.move (.t 0),none⟩,⟨some 6,.mkFn 49 [] [(.t 4)],none⟩]
def R29_2:List AOper:=R29_2p0 ++ R29_2t1
def T29_2p0:=hT R29_2p0 [0,4] [5,6] 7 [] [(5,(.t 0)),(6,(.op (.mkFn 49 [] [(.t 0)]) [(.t 4)]))] [.tt 0,.sub 1 [] []]
def X29_2:=hS R29_2 R29_2p0 R29_2t1 [0,4] [5,6] [0,4,5,6,7,8,9]
def X29_2t1:=hO R29_2t1 R29_2p1 R29_2t2 [5,6] [0,4,5,6,7,8,9] [⟨some 7,.call (.c (.fn 48 [] [])) [(.t 5),(.t 6)],none⟩]
def T29_2p2:=hT R29_2p2 [7] [8,9] 10 [] [(8,(.op (.extract (.t 0) 0) [(.t 7)])),(9,(.op (.extract (.t 0) 1) [(.t 7)]))] [.sub 0 [] [],.sub 1 [] []]
def X29_2t2:=hS R29_2t2 R29_2p2 R29_2t3 [7] [8,9] [0,4,5,6,7,8,9]
def X29_2t3:=hO R29_2t3 R29_2p3 R29_2t4 [8] [0,4,5,6,7,8,9] [⟨none,.store 3 (.t 2) (.t 8),none⟩]
def T29_2t4:=hT R29_2t4 [0,4,5,6,7,8,9] [3] 4 [] [(3,(.t 9))] [.tt 9]
def X29_2t4:=hL R29_2t4 [0,4,5,6,7,8,9] [3]
def s_f29:ACFun:={ ntmps:=10,results:=[(.cell 2 true 3),(.tmp 3)],body:=
 (.seq (.region R29_0 [] K29_0)
 (.seq (.region R29_1 [] [])
 (.seq (.region R29_2 [] [0,4,5,6,7,8,9])
 .ret))) }
theorem s_f29_first:firstOk (List.range' 1 (s_f29.ntmps - 1)) s_f29.body=true:=by kernel_rfl
abbrev k_f31:Nat:=31
def K31_0:List Nat:=[1,3,4,5,6,7,8,9,10,11,12,13,14,15,16,17,18,19,20,21,22,23,24,25,26,27,28,29,30,31,32,33,34,35,36,37,38,39,40,41,42,43,44,45,46,47,48,49,50,51,52,53,54,55,56,57,58,59,60,61]
def A31_0_0:=hK K31_0 0
def A31_0_2:=hK K31_0 2
theorem A31_0_3:K31_0.contains 3=true:=by kernel_rfl
def R31_0t1:List AOper:=[⟨some 3,.move (.c (.s (.bool false))),none⟩]
def R31_0p0:List AOper:=[⟨some 2,.alloc [(.s (.int .i64 0)),(.s (.int .i64 0)),(.s (.int .i64 0))],none⟩]
def R31_0:List AOper:=R31_0p0 ++ R31_0t1
def K31_0p0:List Nat:=[1,3,4,5,6,7,8,9,10,11,12,13,14,15,16,17,18,19,20,21,22,23,24,25,26,27,28,29,30,31,32,33,34,35,36,37,38,39,40,41,42,43,44,45,46,47,48,49,50,51,52,53,54,55,56,57,58,59,60,61]
def A31_0p0_0:=hK K31_0p0 0
def A31_0p0_2:=hK K31_0p0 2
theorem A31_0p0_3:K31_0p0.contains 3=true:=by kernel_rfl
theorem X31_0 (call:CallF) (it:IterF) (base:Nat) (f:List V) (H:Heap):evC call it base (.region R31_0 [] K31_0) f H=thenC call it base (.region R31_0t1 [] K31_0) (opsC [] R31_0p0 K31_0p0 (evOps call base [⟨some 2,.alloc [(.s (.int .i64 0)),(.s (.int .i64 0)),(.s (.int .i64 0))],none⟩] f H)):=(row_op call it base R31_0p0 R31_0t1 (kc:=K31_0p0) (by kernel_rfl) f H).trans (by rw [row_ops];rfl)
def T31_0t1:=hT R31_0t1 K31_0 [] 4 [] [] [.cc (.s (.bool false))]
def X31_0t1:=hL R31_0t1 K31_0 []
def R31_1:List AOper:=[
 ⟨some 10,.move (.t 0),none⟩,
 ⟨some 11,.nilCheck (.t 10),none⟩,
 ⟨some 12,.fieldAddr 0 (.t 11),none⟩,
 ⟨some 13,.fieldAddr 0 (.t 12),none⟩,
 ⟨some 14,.load false 1 (.t 13),none⟩,
 ⟨some 15,.lenS .s (.t 14),none⟩,
 ⟨some 16,.move (.c (.s (.int .i64 0))),none⟩]
def T31_1:=hT R31_1 [0,10,11,12,13] [14,15,16] 17 [] [(14,(.op (.load false 1 (.t 0)) [(.op (.fieldAddr 0 (.t 0)) [(.op (.fieldAddr 0 (.t 0)) [(.op (.nilCheck (.t 0)) [(.t 0)])])])])),(15,(.op (.lenS .s (.t 0)) [(.op (.load false 1 (.t 0)) [(.op (.fieldAddr 0 (.t 0)) [(.op (.fieldAddr 0 (.t 0)) [(.op (.nilCheck (.t 0)) [(.t 0)])])])])])),(16,(.c (.s (.int .i64 0))))] [.tt 0,.sub 0 [0,0,0] [],.sub 0 [0,0] [],.sub 0 [0] [],.sub 0 [] [],.sub 1 [] [],.cc (.s (.int .i64 0))]
def R31_2:List AOper:=[
 ⟨some 17,.bin .lss (.t 16) (.t 15),none⟩]
def T31_2:=hT R31_2 [] [17] 18 [] [(17,(.op (.bin .lss (.t 0) (.t 1)) [(.t 16),(.t 15)]))] [.sub 0 [] []]
def R31_3t3:List AOper:=[⟨none,.store 3 (.t 5) (.t 20),none⟩]
def R31_3p2:List AOper:=[⟨some 4,.move (.t 18),none⟩]
def R31_3t2:List AOper:=R31_3p2 ++ R31_3t3
def R31_3p1:List AOper:=[⟨some 5,.alloc [(.s (.string ⟨#[]⟩)),(.s (.slice none 0 0)),(.s (.slice none 0 0))],none⟩]
def R31_3t1:List AOper:=R31_3p1 ++ R31_3t2
def R31_3p0:List AOper:=[⟨some 18,.move (.t 16),none⟩,⟨some 19,.indexAddr 3 (.t 14) (.t 16),none⟩,⟨some 20,.load true 3 (.t 19),none⟩]
def R31_3:List AOper:=R31_3p0 ++ R31_3t1
def T31_3p0:=hT R31_3p0 [17,19] [18,20] 21 [] [(18,(.t 16)),(20,(.op (.load true 3 (.t 0)) [(.op (.indexAddr 3 (.t 0) (.t 1)) [(.t 14),(.t 16)])]))] [.tt 16,.sub 1 [0] [],.sub 1 [] []]
def X31_3:=hS R31_3 R31_3p0 R31_3t1 [17,19] [18,20] [17,18,19,20]
def X31_3t1:=hO R31_3t1 R31_3p1 R31_3t2 [] [17,18,19,20] [⟨some 5,.alloc [(.s (.string ⟨#[]⟩)),(.s (.slice none 0 0)),(.s (.slice none 0 0))],none⟩]
def T31_3p2:=hT R31_3p2 [18] [4] 5 [] [(4,(.t 18))] [.tt 18]
def X31_3t2:=hS R31_3t2 R31_3p2 R31_3t3 [18] [4] [17,18,19,20]
def X31_3t3:=hX R31_3t3 [17,18,19,20] [⟨none,.store 3 (.t 5) (.t 20),none⟩]
def R31_4:List AOper:=[
 ⟨some 21,.fieldAddr 2 (.t 5),none⟩,
 ⟨some 22,.load false 1 (.t 21),none⟩,
 ⟨some 23,.lenS .s (.t 22),none⟩,
 ⟨some 24,.move (.c (.s (.int .i64 0))),none⟩]
def T31_4:=hT R31_4 [5,21] [22,23,24] 25 [] [(22,(.op (.load false 1 (.t 0)) [(.op (.fieldAddr 2 (.t 0)) [(.t 5)])])),(23,(.op (.lenS .s (.t 0)) [(.op (.load false 1 (.t 0)) [(.op (.fieldAddr 2 (.t 0)) [(.t 5)])])])),(24,(.c (.s (.int .i64 0))))] [.sub 0 [0] [],.sub 0 [] [],.sub 1 [] [],.cc (.s (.int .i64 0))]
def R31_5:List AOper:=[
 ⟨some 25,.bin .lss (.t 24) (.t 23),none⟩]
def T31_5:=hT R31_5 [] [25] 26 [] [(25,(.op (.bin .lss (.t 0) (.t 1)) [(.t 24),(.t 23)]))] [.sub 0 [] []]
def R31_6t3:List AOper:=[⟨none,.store 2 (.t 7) (.t 28),none⟩]
def R31_6p2:List AOper:=[⟨some 6,.move (.t 26),none⟩]
def R31_6t2:List AOper:=R31_6p2 ++ R31_6t3
def R31_6p1:List AOper:=[⟨some 7,.alloc [(.s (.string ⟨#[]⟩)),(.s (.slice none 0 0))],none⟩]
def R31_6t1:List AOper:=R31_6p1 ++ R31_6t2
def R31_6p0:List AOper:=[⟨some 26,.move (.t 24),none⟩,⟨some 27,.indexAddr 2 (.t 22) (.t 24),none⟩,⟨some 28,.load true 2 (.t 27),none⟩]
def R31_6:List AOper:=R31_6p0 ++ R31_6t1
def T31_6p0:=hT R31_6p0 [25,27] [26,28] 29 [] [(26,(.t 24)),(28,(.op (.load true 2 (.t 0)) [(.op (.indexAddr 2 (.t 0) (.t 1)) [(.t 22),(.t 24)])]))] [.tt 24,.sub 1 [0] [],.sub 1 [] []]
def X31_6:=hS R31_6 R31_6p0 R31_6t1 [25,27] [26,28] [25,26,27,28]
def X31_6t1:=hO R31_6t1 R31_6p1 R31_6t2 [] [25,26,27,28] [⟨some 7,.alloc [(.s (.string ⟨#[]⟩)),(.s (.slice none 0 0))],none⟩]
def T31_6p2:=hT R31_6p2 [26] [6] 7 [] [(6,(.t 26))] [.tt 26]
def X31_6t2:=hS R31_6t2 R31_6p2 R31_6t3 [26] [6] [25,26,27,28]
def X31_6t3:=hX R31_6t3 [25,26,27,28] [⟨none,.store 2 (.t 7) (.t 28),none⟩]
def R31_7:List AOper:=[
 ⟨some 29,.fieldAddr 1 (.t 7),none⟩,
 ⟨some 30,.load false 1 (.t 29),none⟩,
 ⟨some 31,.lenS .s (.t 30),none⟩,
 ⟨some 32,.bin .eql (.t 31) (.c (.s (.int .i64 0))),none⟩]
def T31_7:=hT R31_7 [29,30,31] [32] 33 [] [(32,(.op (.bin .eql (.t 0) (.c (.s (.int .i64 0)))) [(.op (.lenS .s (.t 0)) [(.op (.load false 1 (.t 0)) [(.op (.fieldAddr 1 (.t 0)) [(.t 7)])])]),(.c (.s (.int .i64 0)))]))] [.sub 0 [0,0,0] [],.sub 0 [0,0] [],.sub 0 [0] [],.sub 0 [] []]
def R31_8t2:List AOper:=[⟨some 3,.move (.c (.s (.bool true))),none⟩]
def R31_8p1:List AOper:=[⟨none,.store 3 (.t 2) (.t 35),none⟩]
def R31_8t1:List AOper:=R31_8p1 ++ R31_8t2
def R31_8p0:List AOper:=[⟨some 33,.move (.t 4),none⟩,⟨some 34,.move (.t 6),none⟩,⟨some 35,.build [(.s (.int .i64 0)),(.s (.int .i64 0)),(.s (.int .i64 0))] [(0,1),(1,1),(2,1)] [(0,(.t 33)),(1,(.t 34))],none⟩]
def R31_8:List AOper:=R31_8p0 ++ R31_8t1
def T31_8p0:=hT R31_8p0 [4,6,7,14,15,16,22,23,24,32,33,34] [35] 36 [] [(35,(.op (.build [(.s (.int .i64 0)),(.s (.int .i64 0)),(.s (.int .i64 0))] [(0,1),(1,1),(2,1)] [(0,(.t 0)),(1,(.t 1))]) [(.t 4),(.t 6)]))] [.tt 4,.tt 6,.sub 0 [] []]
def X31_8:=hS R31_8 R31_8p0 R31_8t1 [4,6,7,14,15,16,22,23,24,32,33,34] [35] [4,6,7,14,15,16,22,23,24,32,33,34,35]
def X31_8t1:=hO R31_8t1 R31_8p1 R31_8t2 [35] [4,6,7,14,15,16,22,23,24,32,33,34,35] [⟨none,.store 3 (.t 2) (.t 35),none⟩]
def T31_8t2:=hT R31_8t2 [4,6,7,14,15,16,22,23,24,32,33,34,35] [3] 4 [] [(3,(.c (.s (.bool true))))] [.cc (.s (.bool true))]
def X31_8t2:=hL R31_8t2 [4,6,7,14,15,16,22,23,24,32,33,34,35] [3]
def R31_9:List AOper:=[
 ⟨some 36,.fieldAddr 1 (.t 7),none⟩,
 ⟨some 37,.load false 1 (.t 36),none⟩,
 ⟨some 38,.lenS .s (.t 37),none⟩,
 ⟨some 39,.move (.c (.s (.int .i64 0))),none⟩]
def T31_9:=hT R31_9 [32,36] [37,38,39] 40 [] [(37,(.op (.load false 1 (.t 0)) [(.op (.fieldAddr 1 (.t 0)) [(.t 7)])])),(38,(.op (.lenS .s (.t 0)) [(.op (.load false 1 (.t 0)) [(.op (.fieldAddr 1 (.t 0)) [(.t 7)])])])),(39,(.c (.s (.int .i64 0))))] [.sub 0 [0] [],.sub 0 [] [],.sub 1 [] [],.cc (.s (.int .i64 0))]
def R31_10:List AOper:=[
 ⟨some 40,.bin .lss (.t 39) (.t 38),none⟩]
def T31_10:=hT R31_10 [] [40] 41 [] [(40,(.op (.bin .lss (.t 0) (.t 1)) [(.t 39),(.t 38)]))] [.sub 0 [] []]
def R31_11t3:List AOper:=[⟨none,.store 8 (.t 9) (.t 43),none⟩]
def R31_11p2:List AOper:=[⟨some 8,.move (.t 41),none⟩]
def R31_11t2:List AOper:=R31_11p2 ++ R31_11t3
def R31_11p1:List AOper:=[⟨some 9,.alloc [(.s (.int .u8 0)),(.s (.string ⟨#[]⟩)),(.s (.string ⟨#[]⟩)),(.s (.string ⟨#[]⟩)),(.s (.int .i64 0)),(.s (.string ⟨#[]⟩)),(.s (.slice none 0 0)),(.s (.slice none 0 0))],none⟩]
def R31_11t1:List AOper:=R31_11p1 ++ R31_11t2
def R31_11p0:List AOper:=[⟨some 41,.move (.t 39),none⟩,⟨some 42,.indexAddr 8 (.t 37) (.t 39),none⟩,⟨some 43,.load true 8 (.t 42),none⟩]
def R31_11:List AOper:=R31_11p0 ++ R31_11t1
def T31_11p0:=hT R31_11p0 [40,42] [41,43] 44 [] [(41,(.t 39)),(43,(.op (.load true 8 (.t 0)) [(.op (.indexAddr 8 (.t 0) (.t 1)) [(.t 37),(.t 39)])]))] [.tt 39,.sub 1 [0] [],.sub 1 [] []]
def X31_11:=hS R31_11 R31_11p0 R31_11t1 [40,42] [41,43] [40,41,42,43]
def X31_11t1:=hO R31_11t1 R31_11p1 R31_11t2 [] [40,41,42,43] [⟨some 9,.alloc [(.s (.int .u8 0)),(.s (.string ⟨#[]⟩)),(.s (.string ⟨#[]⟩)),(.s (.string ⟨#[]⟩)),(.s (.int .i64 0)),(.s (.string ⟨#[]⟩)),(.s (.slice none 0 0)),(.s (.slice none 0 0))],none⟩]
def T31_11p2:=hT R31_11p2 [41] [8] 9 [] [(8,(.t 41))] [.tt 41]
def X31_11t2:=hS R31_11t2 R31_11p2 R31_11t3 [41] [8] [40,41,42,43]
def X31_11t3:=hX R31_11t3 [40,41,42,43] [⟨none,.store 8 (.t 9) (.t 43),none⟩]
def R31_12t2:List AOper:=[⟨some 47,.move (.t 8),none⟩,⟨some 48,.fieldAddr 1 (.t 7),none⟩,⟨some 49,.load false 1 (.t 48),none⟩,⟨some 50,.lenS .s (.t 49),none⟩,⟨some 51,.bin .sub (.t 50) (.c (.s (.int .i64 1))),none⟩,⟨some 52,.bin .eql (.t 47) (.t 51),none⟩,⟨some 53,.eqB true (.t 46) (.t 52),none⟩]
def R31_12p1:List AOper:=[⟨some 46,.callR (.c (.fn 51 [] [])) [(.t 45)],none⟩]
def R31_12t1:List AOper:=R31_12p1 ++ R31_12t2
def R31_12p0:List AOper:=[⟨some 44,.fieldAddr 0 (.t 9),none⟩,⟨some 45,.load false 1 (.t 44),none⟩]
def R31_12:List AOper:=R31_12p0 ++ R31_12t1
def T31_12p0:=hT R31_12p0 [9,44] [45] 46 [] [(45,(.op (.load false 1 (.t 0)) [(.op (.fieldAddr 0 (.t 0)) [(.t 9)])]))] [.sub 0 [0] [],.sub 0 [] []]
def X31_12:=hS R31_12 R31_12p0 R31_12t1 [9,44] [45] [9,44,45,46,47,48,49,50,51,52]
def X31_12t1:=hO R31_12t1 R31_12p1 R31_12t2 [45] [9,44,45,46,47,48,49,50,51,52] [⟨some 46,.callR (.c (.fn 51 [] [])) [(.t 45)],none⟩]
def T31_12t2:=hT R31_12t2 [9,44,45,46,47,48,49,50,51,52] [53] 54 [] [(53,(.op (.eqB true (.t 0) (.t 1)) [(.t 46),(.op (.bin .eql (.t 0) (.t 1)) [(.t 8),(.op (.bin .sub (.t 0) (.c (.s (.int .i64 1)))) [(.op (.lenS .s (.t 0)) [(.op (.load false 1 (.t 0)) [(.op (.fieldAddr 1 (.t 0)) [(.t 7)])])]),(.c (.s (.int .i64 1)))])])]))] [.tt 8,.sub 0 [1,1,0,0,0] [],.sub 0 [1,1,0,0] [],.sub 0 [1,1,0] [],.sub 0 [1,1] [],.sub 0 [1] [],.sub 0 [] []]
def X31_12t2:=hL R31_12t2 [9,44,45,46,47,48,49,50,51,52] [53]
def R31_13t2:List AOper:=[⟨some 3,.move (.c (.s (.bool true))),none⟩]
def R31_13p1:List AOper:=[⟨none,.store 3 (.t 2) (.t 57),none⟩]
def R31_13t1:List AOper:=R31_13p1 ++ R31_13t2
def R31_13p0:List AOper:=[⟨some 54,.move (.t 4),none⟩,⟨some 55,.move (.t 6),none⟩,⟨some 56,.move (.t 8),none⟩,⟨some 57,.build [(.s (.int .i64 0)),(.s (.int .i64 0)),(.s (.int .i64 0))] [(0,1),(1,1),(2,1)] [(0,(.t 54)),(1,(.t 55)),(2,(.t 56))],none⟩]
def R31_13:List AOper:=R31_13p0 ++ R31_13t1
def T31_13p0:=hT R31_13p0 [4,6,7,8,14,15,16,22,23,24,37,38,39,53,54,55,56] [57] 58 [] [(57,(.op (.build [(.s (.int .i64 0)),(.s (.int .i64 0)),(.s (.int .i64 0))] [(0,1),(1,1),(2,1)] [(0,(.t 0)),(1,(.t 1)),(2,(.t 2))]) [(.t 4),(.t 6),(.t 8)]))] [.tt 4,.tt 6,.tt 8,.sub 0 [] []]
def X31_13:=hS R31_13 R31_13p0 R31_13t1 [4,6,7,8,14,15,16,22,23,24,37,38,39,53,54,55,56] [57] [4,6,7,8,14,15,16,22,23,24,37,38,39,53,54,55,56,57]
def X31_13t1:=hO R31_13t1 R31_13p1 R31_13t2 [57] [4,6,7,8,14,15,16,22,23,24,37,38,39,53,54,55,56,57] [⟨none,.store 3 (.t 2) (.t 57),none⟩]
def T31_13t2:=hT R31_13t2 [4,6,7,8,14,15,16,22,23,24,37,38,39,53,54,55,56,57] [3] 4 [] [(3,(.c (.s (.bool true))))] [.cc (.s (.bool true))]
def X31_13t2:=hL R31_13t2 [4,6,7,8,14,15,16,22,23,24,37,38,39,53,54,55,56,57] [3]
def R31_14:List AOper:=[
 ⟨some 58,.bin .add (.t 39) (.c (.s (.int .i64 1))),none⟩,
 ⟨some 39,.move (.t 58),none⟩]
def T31_14:=hT R31_14 [8,53,58] [39] 59 [] [(39,(.op (.bin .add (.t 0) (.c (.s (.int .i64 1)))) [(.t 39),(.c (.s (.int .i64 1)))]))] [.sub 0 [] [],.sub 0 [] []]
def s_f31_l0_b:ACode:=
 (.seq (.regionE R31_10 [] [40])
 (.seq (.cond (.t 40)
 .skip
 (.exit 4))
 (.seq (.block 5
 (.seq (.region R31_11 [] [40,41,42,43])
 (.seq (.region R31_12 [] [9,44,45,46,47,48,49,50,51,52])
 (.cond (.t 53)
 (.seq (.region R31_13 [] [4,6,7,8,14,15,16,22,23,24,37,38,39,53,54,55,56,57])
 .ret)
 .skip))))
 (.regionE R31_14 [8,53,58] [39]))))
def s_f31_l0:ACode:=s_f31_l0_b
def s_f31_l0_ev:=hE s_f31_l0 s_f31_l0_b
def R31_15:List AOper:=[
 ⟨some 59,.bin .add (.t 24) (.c (.s (.int .i64 1))),none⟩,
 ⟨some 24,.move (.t 59),none⟩]
def T31_15:=hT R31_15 [6,7,37,38,39,40,59] [24] 60 [] [(24,(.op (.bin .add (.t 0) (.c (.s (.int .i64 1)))) [(.t 24),(.c (.s (.int .i64 1)))]))] [.sub 0 [] [],.sub 0 [] []]
def s_f31_l1_b:ACode:=
 (.seq (.regionE R31_5 [] [25])
 (.seq (.cond (.t 25)
 .skip
 (.exit 2))
 (.seq (.block 3
 (.seq (.region R31_6 [] [25,26,27,28])
 (.seq (.seq (.regionE R31_7 [29,30,31] [32])
 (.cond (.t 32)
 (.seq (.region R31_8 [] [4,6,7,14,15,16,22,23,24,32,33,34,35])
 .ret)
 .skip))
 (.seq (.regionE R31_9 [32,36] [37,38,39])
 (.block 4
 (.loop [] s_f31_l0))))))
 (.regionE R31_15 [6,7,37,38,39,40,59] [24]))))
def s_f31_l1:ACode:=s_f31_l1_b
def s_f31_l1_ev:=hE s_f31_l1 s_f31_l1_b
def R31_16:List AOper:=[
 ⟨some 60,.bin .add (.t 16) (.c (.s (.int .i64 1))),none⟩,
 ⟨some 16,.move (.t 60),none⟩]
def T31_16:=hT R31_16 [4,22,23,24,25,60] [16] 61 [] [(16,(.op (.bin .add (.t 0) (.c (.s (.int .i64 1)))) [(.t 16),(.c (.s (.int .i64 1)))]))] [.sub 0 [] [],.sub 0 [] []]
def s_f31_l2_b:ACode:=
 (.seq (.regionE R31_2 [] [17])
 (.seq (.cond (.t 17)
 .skip
 (.exit 0))
 (.seq (.block 1
 (.seq (.region R31_3 [] [17,18,19,20])
 (.seq (.regionE R31_4 [5,21] [22,23,24])
 (.block 2
 (.loop [] s_f31_l1)))))
 (.regionE R31_16 [4,22,23,24,25,60] [16]))))
def s_f31_l2:ACode:=s_f31_l2_b
def s_f31_l2_ev:=hE s_f31_l2 s_f31_l2_b
def R31_17t2:List AOper:=[⟨some 3,.move (.c (.s (.bool false))),none⟩]
def R31_17p1:List AOper:=[⟨none,.store 3 (.t 2) (.t 61),none⟩]
def R31_17t1:List AOper:=R31_17p1 ++ R31_17t2
def R31_17p0:List AOper:=[⟨some 61,.build [(.s (.int .i64 0)),(.s (.int .i64 0)),(.s (.int .i64 0))] [(0,1),(1,1),(2,1)] [],none⟩]
def R31_17:List AOper:=R31_17p0 ++ R31_17t1
def T31_17p0:=hT R31_17p0 [14,15,16,17] [61] 62 [] [(61,(.op (.build [(.s (.int .i64 0)),(.s (.int .i64 0)),(.s (.int .i64 0))] [(0,1),(1,1),(2,1)] []) []))] [.sub 0 [] []]
def X31_17:=hS R31_17 R31_17p0 R31_17t1 [14,15,16,17] [61] [14,15,16,17,61]
def X31_17t1:=hO R31_17t1 R31_17p1 R31_17t2 [61] [14,15,16,17,61] [⟨none,.store 3 (.t 2) (.t 61),none⟩]
def T31_17t2:=hT R31_17t2 [14,15,16,17,61] [3] 4 [] [(3,(.c (.s (.bool false))))] [.cc (.s (.bool false))]
def X31_17t2:=hL R31_17t2 [14,15,16,17,61] [3]
def s_f31:ACFun:={ ntmps:=62,results:=[(.cell 2 true 3),(.tmp 3)],body:=
 (.seq (.region R31_0 [] K31_0)
 (.seq (.seq (.regionE R31_1 [0,10,11,12,13] [14,15,16])
 (.block 0
 (.loop [] s_f31_l2)))
 (.seq (.region R31_17 [] [14,15,16,17,61])
 .ret))) }
theorem s_f31_first:firstOk (List.range' 1 (s_f31.ntmps - 1)) s_f31.body=true:=by kernel_rfl
abbrev k_f32:Nat:=32
def K32_0:List Nat:=[0,3,4,5,6,7,8]
theorem A32_0_0:K32_0.contains 0=true:=by kernel_rfl
def A32_0_1:=hK K32_0 1
def A32_0_2:=hK K32_0 2
theorem A32_0_3:K32_0.contains 3=true:=by kernel_rfl
def R32_0t2:List AOper:=[⟨some 3,.move (.c (.s (.bool false))),none⟩]
def R32_0p1:List AOper:=[⟨some 2,.alloc [(.s (.int .i64 0)),(.s (.int .i64 0)),(.s (.int .i64 0))],none⟩]
def R32_0t1:List AOper:=R32_0p1 ++ R32_0t2
def R32_0p0:List AOper:=[⟨some 1,.box (.t 0),none⟩]
def R32_0:List AOper:=R32_0p0 ++ R32_0t1
def X32_0:=hO R32_0 R32_0p0 R32_0t1 [0,2,3,4,5,6,7,8] K32_0 [⟨some 1,.box (.t 0),none⟩]
def X32_0t1:=hO R32_0t1 R32_0p1 R32_0t2 [] K32_0 [⟨some 2,.alloc [(.s (.int .i64 0)),(.s (.int .i64 0)),(.s (.int .i64 0))],none⟩]
def T32_0t2:=hT R32_0t2 K32_0 [] 4 [] [] [.cc (.s (.bool false))]
def X32_0t2:=hL R32_0t2 K32_0 []
def R32_1t4:List AOper:=[⟨some 3,.move (.t 8),none⟩]
def R32_1p3:List AOper:=[⟨none,.store 3 (.t 2) (.t 7),none⟩]
def R32_1t3:List AOper:=R32_1p3 ++ R32_1t4
def R32_1p2:List AOper:=[⟨some 7,.extract (.t 6) 0,none⟩,⟨some 8,.extract (.t 6) 1,none⟩]
def R32_1t2:List AOper:=R32_1p2 ++ R32_1t3
def R32_1p1:List AOper:=[⟨some 6,.call (.c (.fn 48 [] [])) [(.t 4),(.t 5)],none⟩]
def R32_1t1:List AOper:=R32_1p1 ++ R32_1t2
def R32_1p0:List AOper:=[⟨some 4,.load false 1 (.t 1),none⟩,⟨some 5,.mkFn 52 [] [(.t 1)],none⟩]
def R32_1:List AOper:=R32_1p0 ++ R32_1t1
def T32_1p0:=hT R32_1p0 [1] [4,5] 6 [] [(4,(.op (.load false 1 (.t 0)) [(.t 1)])),(5,(.op (.mkFn 52 [] [(.t 0)]) [(.t 1)]))] [.sub 0 [] [],.sub 1 [] []]
def X32_1:=hS R32_1 R32_1p0 R32_1t1 [1] [4,5] [1,4,5,6,7,8]
def X32_1t1:=hO R32_1t1 R32_1p1 R32_1t2 [4,5] [1,4,5,6,7,8] [⟨some 6,.call (.c (.fn 48 [] [])) [(.t 4),(.t 5)],none⟩]
def T32_1p2:=hT R32_1p2 [6] [7,8] 9 [] [(7,(.op (.extract (.t 0) 0) [(.t 6)])),(8,(.op (.extract (.t 0) 1) [(.t 6)]))] [.sub 0 [] [],.sub 1 [] []]
def X32_1t2:=hS R32_1t2 R32_1p2 R32_1t3 [6] [7,8] [1,4,5,6,7,8]
def X32_1t3:=hO R32_1t3 R32_1p3 R32_1t4 [7] [1,4,5,6,7,8] [⟨none,.store 3 (.t 2) (.t 7),none⟩]
def T32_1t4:=hT R32_1t4 [1,4,5,6,7,8] [3] 4 [] [(3,(.t 8))] [.tt 8]
def X32_1t4:=hL R32_1t4 [1,4,5,6,7,8] [3]
def s_f32:ACFun:={ ntmps:=9,results:=[(.cell 2 true 3),(.tmp 3)],body:=
 (.seq (.region R32_0 [] K32_0)
 (.seq (.region R32_1 [] [1,4,5,6,7,8])
 .ret)) }
theorem s_f32_first:firstOk (List.range' 1 (s_f32.ntmps - 1)) s_f32.body=true:=by kernel_rfl
abbrev k_f33:Nat:=33
def K33_0:List Nat:=[0,3,4,5,6,7,8]
theorem A33_0_0:K33_0.contains 0=true:=by kernel_rfl
def A33_0_1:=hK K33_0 1
def A33_0_2:=hK K33_0 2
theorem A33_0_3:K33_0.contains 3=true:=by kernel_rfl
def R33_0t2:List AOper:=[⟨some 3,.move (.c (.s (.bool false))),none⟩]
def R33_0p1:List AOper:=[⟨some 2,.alloc [(.s (.int .i64 0)),(.s (.int .i64 0)),(.s (.int .i64 0))],none⟩]
def R33_0t1:List AOper:=R33_0p1 ++ R33_0t2
def R33_0p0:List AOper:=[⟨some 1,.box (.t 0),none⟩]
def R33_0:List AOper:=R33_0p0 ++ R33_0t1
def X33_0:=hO R33_0 R33_0p0 R33_0t1 [0,2,3,4,5,6,7,8] K33_0 [⟨some 1,.box (.t 0),none⟩]
def X33_0t1:=hO R33_0t1 R33_0p1 R33_0t2 [] K33_0 [⟨some 2,.alloc [(.s (.int .i64 0)),(.s (.int .i64 0)),(.s (.int .i64 0))],none⟩]
def T33_0t2:=hT R33_0t2 K33_0 [] 4 [] [] [.cc (.s (.bool false))]
def X33_0t2:=hL R33_0t2 K33_0 []
def R33_1t4:List AOper:=[⟨some 3,.move (.t 8),none⟩]
def R33_1p3:List AOper:=[⟨none,.store 3 (.t 2) (.t 7),none⟩]
def R33_1t3:List AOper:=R33_1p3 ++ R33_1t4
def R33_1p2:List AOper:=[⟨some 7,.extract (.t 6) 0,none⟩,⟨some 8,.extract (.t 6) 1,none⟩]
def R33_1t2:List AOper:=R33_1p2 ++ R33_1t3
def R33_1p1:List AOper:=[⟨some 6,.call (.c (.fn 48 [] [])) [(.t 4),(.t 5)],none⟩]
def R33_1t1:List AOper:=R33_1p1 ++ R33_1t2
def R33_1p0:List AOper:=[⟨some 4,.load false 1 (.t 1),none⟩,⟨some 5,.mkFn 55 [] [(.t 1)],none⟩]
def R33_1:List AOper:=R33_1p0 ++ R33_1t1
def T33_1p0:=hT R33_1p0 [1] [4,5] 6 [] [(4,(.op (.load false 1 (.t 0)) [(.t 1)])),(5,(.op (.mkFn 55 [] [(.t 0)]) [(.t 1)]))] [.sub 0 [] [],.sub 1 [] []]
def X33_1:=hS R33_1 R33_1p0 R33_1t1 [1] [4,5] [1,4,5,6,7,8]
def X33_1t1:=hO R33_1t1 R33_1p1 R33_1t2 [4,5] [1,4,5,6,7,8] [⟨some 6,.call (.c (.fn 48 [] [])) [(.t 4),(.t 5)],none⟩]
def T33_1p2:=hT R33_1p2 [6] [7,8] 9 [] [(7,(.op (.extract (.t 0) 0) [(.t 6)])),(8,(.op (.extract (.t 0) 1) [(.t 6)]))] [.sub 0 [] [],.sub 1 [] []]
def X33_1t2:=hS R33_1t2 R33_1p2 R33_1t3 [6] [7,8] [1,4,5,6,7,8]
def X33_1t3:=hO R33_1t3 R33_1p3 R33_1t4 [7] [1,4,5,6,7,8] [⟨none,.store 3 (.t 2) (.t 7),none⟩]
def T33_1t4:=hT R33_1t4 [1,4,5,6,7,8] [3] 4 [] [(3,(.t 8))] [.tt 8]
def X33_1t4:=hL R33_1t4 [1,4,5,6,7,8] [3]
def s_f33:ACFun:={ ntmps:=9,results:=[(.cell 2 true 3),(.tmp 3)],body:=
 (.seq (.region R33_0 [] K33_0)
 (.seq (.region R33_1 [] [1,4,5,6,7,8])
 .ret)) }
theorem s_f33_first:firstOk (List.range' 1 (s_f33.ntmps - 1)) s_f33.body=true:=by kernel_rfl
abbrev k_f34:Nat:=34
def K34_0:List Nat:=[0,3,4,5,6,7,8]
theorem A34_0_0:K34_0.contains 0=true:=by kernel_rfl
def A34_0_1:=hK K34_0 1
def A34_0_2:=hK K34_0 2
theorem A34_0_3:K34_0.contains 3=true:=by kernel_rfl
def R34_0t2:List AOper:=[⟨some 3,.move (.c (.s (.bool false))),none⟩]
def R34_0p1:List AOper:=[⟨some 2,.alloc [(.s (.int .i64 0)),(.s (.int .i64 0)),(.s (.int .i64 0))],none⟩]
def R34_0t1:List AOper:=R34_0p1 ++ R34_0t2
def R34_0p0:List AOper:=[⟨some 1,.box (.t 0),none⟩]
def R34_0:List AOper:=R34_0p0 ++ R34_0t1
def X34_0:=hO R34_0 R34_0p0 R34_0t1 [0,2,3,4,5,6,7,8] K34_0 [⟨some 1,.box (.t 0),none⟩]
def X34_0t1:=hO R34_0t1 R34_0p1 R34_0t2 [] K34_0 [⟨some 2,.alloc [(.s (.int .i64 0)),(.s (.int .i64 0)),(.s (.int .i64 0))],none⟩]
def T34_0t2:=hT R34_0t2 K34_0 [] 4 [] [] [.cc (.s (.bool false))]
def X34_0t2:=hL R34_0t2 K34_0 []
def R34_1t4:List AOper:=[⟨some 3,.move (.t 8),none⟩]
def R34_1p3:List AOper:=[⟨none,.store 3 (.t 2) (.t 7),none⟩]
def R34_1t3:List AOper:=R34_1p3 ++ R34_1t4
def R34_1p2:List AOper:=[⟨some 7,.extract (.t 6) 0,none⟩,⟨some 8,.extract (.t 6) 1,none⟩]
def R34_1t2:List AOper:=R34_1p2 ++ R34_1t3
def R34_1p1:List AOper:=[⟨some 6,.call (.c (.fn 48 [] [])) [(.t 4),(.t 5)],none⟩]
def R34_1t1:List AOper:=R34_1p1 ++ R34_1t2
def R34_1p0:List AOper:=[⟨some 4,.load false 1 (.t 1),none⟩,⟨some 5,.mkFn 59 [] [(.t 1)],none⟩]
def R34_1:List AOper:=R34_1p0 ++ R34_1t1
def T34_1p0:=hT R34_1p0 [1] [4,5] 6 [] [(4,(.op (.load false 1 (.t 0)) [(.t 1)])),(5,(.op (.mkFn 59 [] [(.t 0)]) [(.t 1)]))] [.sub 0 [] [],.sub 1 [] []]
def X34_1:=hS R34_1 R34_1p0 R34_1t1 [1] [4,5] [1,4,5,6,7,8]
def X34_1t1:=hO R34_1t1 R34_1p1 R34_1t2 [4,5] [1,4,5,6,7,8] [⟨some 6,.call (.c (.fn 48 [] [])) [(.t 4),(.t 5)],none⟩]
def T34_1p2:=hT R34_1p2 [6] [7,8] 9 [] [(7,(.op (.extract (.t 0) 0) [(.t 6)])),(8,(.op (.extract (.t 0) 1) [(.t 6)]))] [.sub 0 [] [],.sub 1 [] []]
def X34_1t2:=hS R34_1t2 R34_1p2 R34_1t3 [6] [7,8] [1,4,5,6,7,8]
def X34_1t3:=hO R34_1t3 R34_1p3 R34_1t4 [7] [1,4,5,6,7,8] [⟨none,.store 3 (.t 2) (.t 7),none⟩]
def T34_1t4:=hT R34_1t4 [1,4,5,6,7,8] [3] 4 [] [(3,(.t 8))] [.tt 8]
def X34_1t4:=hL R34_1t4 [1,4,5,6,7,8] [3]
def s_f34:ACFun:={ ntmps:=9,results:=[(.cell 2 true 3),(.tmp 3)],body:=
 (.seq (.region R34_0 [] K34_0)
 (.seq (.region R34_1 [] [1,4,5,6,7,8])
 .ret)) }
theorem s_f34_first:firstOk (List.range' 1 (s_f34.ntmps - 1)) s_f34.body=true:=by kernel_rfl
abbrev k_f35:Nat:=35
def K35_0:List Nat:=[0,3,4,5,6,7,8]
theorem A35_0_0:K35_0.contains 0=true:=by kernel_rfl
def A35_0_1:=hK K35_0 1
def A35_0_2:=hK K35_0 2
theorem A35_0_3:K35_0.contains 3=true:=by kernel_rfl
def R35_0t2:List AOper:=[⟨some 3,.move (.c (.s (.bool false))),none⟩]
def R35_0p1:List AOper:=[⟨some 2,.alloc [(.s (.int .i64 0)),(.s (.int .i64 0)),(.s (.int .i64 0))],none⟩]
def R35_0t1:List AOper:=R35_0p1 ++ R35_0t2
def R35_0p0:List AOper:=[⟨some 1,.box (.t 0),none⟩]
def R35_0:List AOper:=R35_0p0 ++ R35_0t1
def X35_0:=hO R35_0 R35_0p0 R35_0t1 [0,2,3,4,5,6,7,8] K35_0 [⟨some 1,.box (.t 0),none⟩]
def X35_0t1:=hO R35_0t1 R35_0p1 R35_0t2 [] K35_0 [⟨some 2,.alloc [(.s (.int .i64 0)),(.s (.int .i64 0)),(.s (.int .i64 0))],none⟩]
def T35_0t2:=hT R35_0t2 K35_0 [] 4 [] [] [.cc (.s (.bool false))]
def X35_0t2:=hL R35_0t2 K35_0 []
def R35_1t4:List AOper:=[⟨some 3,.move (.t 8),none⟩]
def R35_1p3:List AOper:=[⟨none,.store 3 (.t 2) (.t 7),none⟩]
def R35_1t3:List AOper:=R35_1p3 ++ R35_1t4
def R35_1p2:List AOper:=[⟨some 7,.extract (.t 6) 0,none⟩,⟨some 8,.extract (.t 6) 1,none⟩]
def R35_1t2:List AOper:=R35_1p2 ++ R35_1t3
def R35_1p1:List AOper:=[⟨some 6,.call (.c (.fn 48 [] [])) [(.t 4),(.t 5)],none⟩]
def R35_1t1:List AOper:=R35_1p1 ++ R35_1t2
def R35_1p0:List AOper:=[⟨some 4,.load false 1 (.t 1),none⟩,⟨some 5,.mkFn 60 [] [(.t 1)],none⟩]
def R35_1:List AOper:=R35_1p0 ++ R35_1t1
def T35_1p0:=hT R35_1p0 [1] [4,5] 6 [] [(4,(.op (.load false 1 (.t 0)) [(.t 1)])),(5,(.op (.mkFn 60 [] [(.t 0)]) [(.t 1)]))] [.sub 0 [] [],.sub 1 [] []]
def X35_1:=hS R35_1 R35_1p0 R35_1t1 [1] [4,5] [1,4,5,6,7,8]
def X35_1t1:=hO R35_1t1 R35_1p1 R35_1t2 [4,5] [1,4,5,6,7,8] [⟨some 6,.call (.c (.fn 48 [] [])) [(.t 4),(.t 5)],none⟩]
def T35_1p2:=hT R35_1p2 [6] [7,8] 9 [] [(7,(.op (.extract (.t 0) 0) [(.t 6)])),(8,(.op (.extract (.t 0) 1) [(.t 6)]))] [.sub 0 [] [],.sub 1 [] []]
def X35_1t2:=hS R35_1t2 R35_1p2 R35_1t3 [6] [7,8] [1,4,5,6,7,8]
def X35_1t3:=hO R35_1t3 R35_1p3 R35_1t4 [7] [1,4,5,6,7,8] [⟨none,.store 3 (.t 2) (.t 7),none⟩]
def T35_1t4:=hT R35_1t4 [1,4,5,6,7,8] [3] 4 [] [(3,(.t 8))] [.tt 8]
def X35_1t4:=hL R35_1t4 [1,4,5,6,7,8] [3]
def s_f35:ACFun:={ ntmps:=9,results:=[(.cell 2 true 3),(.tmp 3)],body:=
 (.seq (.region R35_0 [] K35_0)
 (.seq (.region R35_1 [] [1,4,5,6,7,8])
 .ret)) }
theorem s_f35_first:firstOk (List.range' 1 (s_f35.ntmps - 1)) s_f35.body=true:=by kernel_rfl
abbrev k_f36:Nat:=36
def K36_0:List Nat:=[1,3,4,5,6,7,8,9,10,11,12,13,14,15,16,17,18,19,20,21,22,23,24,25,26,27,28,29,30,31,32,33,34,35,36,37,38,39,40,41,42,43,44,45,46,47,48,49,50,51,52,53,54,55,56,57,58,59,60,61,62,63,64,65,66,67,68,69,70,71,72,73,74,75]
def A36_0_0:=hK K36_0 0
def A36_0_2:=hK K36_0 2
theorem A36_0_3:K36_0.contains 3=true:=by kernel_rfl
def R36_0t1:List AOper:=[⟨some 3,.move (.c (.s (.bool false))),none⟩]
def R36_0p0:List AOper:=[⟨some 2,.alloc [(.s (.int .i64 0)),(.s (.int .i64 0)),(.s (.int .i64 0))],none⟩]
def R36_0:List AOper:=R36_0p0 ++ R36_0t1
def K36_0p0:List Nat:=[1,3,4,5,6,7,8,9,10,11,12,13,14,15,16,17,18,19,20,21,22,23,24,25,26,27,28,29,30,31,32,33,34,35,36,37,38,39,40,41,42,43,44,45,46,47,48,49,50,51,52,53,54,55,56,57,58,59,60,61,62,63,64,65,66,67,68,69,70,71,72,73,74,75]
def A36_0p0_0:=hK K36_0p0 0
def A36_0p0_2:=hK K36_0p0 2
theorem A36_0p0_3:K36_0p0.contains 3=true:=by kernel_rfl
theorem X36_0 (call:CallF) (it:IterF) (base:Nat) (f:List V) (H:Heap):evC call it base (.region R36_0 [] K36_0) f H=thenC call it base (.region R36_0t1 [] K36_0) (opsC [] R36_0p0 K36_0p0 (evOps call base [⟨some 2,.alloc [(.s (.int .i64 0)),(.s (.int .i64 0)),(.s (.int .i64 0))],none⟩] f H)):=(row_op call it base R36_0p0 R36_0t1 (kc:=K36_0p0) (by kernel_rfl) f H).trans (by rw [row_ops];rfl)
def T36_0t1:=hT R36_0t1 K36_0 [] 4 [] [] [.cc (.s (.bool false))]
def X36_0t1:=hL R36_0t1 K36_0 []
def R36_1:List AOper:=[
 ⟨some 13,.move (.t 0),none⟩,
 ⟨some 14,.nilCheck (.t 13),none⟩,
 ⟨some 15,.fieldAddr 0 (.t 14),none⟩,
 ⟨some 16,.fieldAddr 0 (.t 15),none⟩,
 ⟨some 17,.load false 1 (.t 16),none⟩,
 ⟨some 18,.lenS .s (.t 17),none⟩,
 ⟨some 19,.move (.c (.s (.int .i64 0))),none⟩]
def T36_1:=hT R36_1 [0,13,14,15,16] [17,18,19] 20 [] [(17,(.op (.load false 1 (.t 0)) [(.op (.fieldAddr 0 (.t 0)) [(.op (.fieldAddr 0 (.t 0)) [(.op (.nilCheck (.t 0)) [(.t 0)])])])])),(18,(.op (.lenS .s (.t 0)) [(.op (.load false 1 (.t 0)) [(.op (.fieldAddr 0 (.t 0)) [(.op (.fieldAddr 0 (.t 0)) [(.op (.nilCheck (.t 0)) [(.t 0)])])])])])),(19,(.c (.s (.int .i64 0))))] [.tt 0,.sub 0 [0,0,0] [],.sub 0 [0,0] [],.sub 0 [0] [],.sub 0 [] [],.sub 1 [] [],.cc (.s (.int .i64 0))]
def R36_2:List AOper:=[
 ⟨some 20,.bin .lss (.t 19) (.t 18),none⟩]
def T36_2:=hT R36_2 [] [20] 21 [] [(20,(.op (.bin .lss (.t 0) (.t 1)) [(.t 19),(.t 18)]))] [.sub 0 [] []]
def R36_3t3:List AOper:=[⟨none,.store 3 (.t 5) (.t 23),none⟩]
def R36_3p2:List AOper:=[⟨some 4,.move (.t 21),none⟩]
def R36_3t2:List AOper:=R36_3p2 ++ R36_3t3
def R36_3p1:List AOper:=[⟨some 5,.alloc [(.s (.string ⟨#[]⟩)),(.s (.slice none 0 0)),(.s (.slice none 0 0))],none⟩]
def R36_3t1:List AOper:=R36_3p1 ++ R36_3t2
def R36_3p0:List AOper:=[⟨some 21,.move (.t 19),none⟩,⟨some 22,.indexAddr 3 (.t 17) (.t 19),none⟩,⟨some 23,.load true 3 (.t 22),none⟩]
def R36_3:List AOper:=R36_3p0 ++ R36_3t1
def T36_3p0:=hT R36_3p0 [20,22] [21,23] 24 [] [(21,(.t 19)),(23,(.op (.load true 3 (.t 0)) [(.op (.indexAddr 3 (.t 0) (.t 1)) [(.t 17),(.t 19)])]))] [.tt 19,.sub 1 [0] [],.sub 1 [] []]
def X36_3:=hS R36_3 R36_3p0 R36_3t1 [20,22] [21,23] [20,21,22,23]
def X36_3t1:=hO R36_3t1 R36_3p1 R36_3t2 [] [20,21,22,23] [⟨some 5,.alloc [(.s (.string ⟨#[]⟩)),(.s (.slice none 0 0)),(.s (.slice none 0 0))],none⟩]
def T36_3p2:=hT R36_3p2 [21] [4] 5 [] [(4,(.t 21))] [.tt 21]
def X36_3t2:=hS R36_3t2 R36_3p2 R36_3t3 [21] [4] [20,21,22,23]
def X36_3t3:=hX R36_3t3 [20,21,22,23] [⟨none,.store 3 (.t 5) (.t 23),none⟩]
def R36_4t1:List AOper:=[⟨some 6,.move (.t 24),none⟩]
def R36_4p0:List AOper:=[⟨some 24,.mapNew,none⟩]
def R36_4:List AOper:=R36_4p0 ++ R36_4t1
def X36_4:=hO R36_4 R36_4p0 R36_4t1 [] [24] [⟨some 24,.mapNew,none⟩]
def T36_4t1:=hT R36_4t1 [24] [6] 7 [] [(6,(.t 24))] [.tt 24]
def X36_4t1:=hL R36_4t1 [24] [6]
def R36_5:List AOper:=[
 ⟨some 25,.fieldAddr 1 (.t 5),none⟩,
 ⟨some 26,.load false 1 (.t 25),none⟩,
 ⟨some 27,.lenS .s (.t 26),none⟩,
 ⟨some 28,.move (.c (.s (.int .i64 0))),none⟩]
def T36_5:=hT R36_5 [25] [26,27,28] 29 [] [(26,(.op (.load false 1 (.t 0)) [(.op (.fieldAddr 1 (.t 0)) [(.t 5)])])),(27,(.op (.lenS .s (.t 0)) [(.op (.load false 1 (.t 0)) [(.op (.fieldAddr 1 (.t 0)) [(.t 5)])])])),(28,(.c (.s (.int .i64 0))))] [.sub 0 [0] [],.sub 0 [] [],.sub 1 [] [],.cc (.s (.int .i64 0))]
def R36_6:List AOper:=[
 ⟨some 29,.bin .lss (.t 28) (.t 27),none⟩]
def T36_6:=hT R36_6 [] [29] 30 [] [(29,(.op (.bin .lss (.t 0) (.t 1)) [(.t 28),(.t 27)]))] [.sub 0 [] []]
def R36_7:List AOper:=[
 ⟨some 30,.indexAddr 1 (.t 26) (.t 28),none⟩,
 ⟨some 31,.load false 1 (.t 30),none⟩,
 ⟨some 8,.move (.t 31),none⟩]
def T36_7:=hT R36_7 [29,30,31] [8] 32 [] [(8,(.op (.load false 1 (.t 0)) [(.op (.indexAddr 1 (.t 0) (.t 1)) [(.t 26),(.t 28)])]))] [.sub 0 [0] [],.sub 0 [] [],.sub 0 [] []]
def R36_8:List AOper:=[
 ⟨some 32,.move (.t 6),none⟩,
 ⟨some 33,.move (.t 8),none⟩,
 ⟨some 34,.mapGet .string (.s (.bool false)) (.t 32) (.t 33) false,none⟩]
def T36_8:=hT R36_8 [32,33] [34] 35 [] [(34,(.op (.mapGet .string (.s (.bool false)) (.t 0) (.t 1) false) [(.t 6),(.t 8)]))] [.tt 6,.tt 8,.sub 0 [] []]
def R36_9t2:List AOper:=[⟨some 3,.move (.c (.s (.bool true))),none⟩]
def R36_9p1:List AOper:=[⟨none,.store 3 (.t 2) (.t 36),none⟩]
def R36_9t1:List AOper:=R36_9p1 ++ R36_9t2
def R36_9p0:List AOper:=[⟨some 35,.move (.t 4),none⟩,⟨some 36,.build [(.s (.int .i64 0)),(.s (.int .i64 0)),(.s (.int .i64 0))] [(0,1),(1,1),(2,1)] [(0,(.t 35))],none⟩]
def R36_9:List AOper:=R36_9p0 ++ R36_9t1
def T36_9p0:=hT R36_9p0 [4,5,6,8,17,18,19,26,27,28,34,35] [36] 37 [] [(36,(.op (.build [(.s (.int .i64 0)),(.s (.int .i64 0)),(.s (.int .i64 0))] [(0,1),(1,1),(2,1)] [(0,(.t 0))]) [(.t 4)]))] [.tt 4,.sub 0 [] []]
def X36_9:=hS R36_9 R36_9p0 R36_9t1 [4,5,6,8,17,18,19,26,27,28,34,35] [36] [4,5,6,8,17,18,19,26,27,28,34,35,36]
def X36_9t1:=hO R36_9t1 R36_9p1 R36_9t2 [36] [4,5,6,8,17,18,19,26,27,28,34,35,36] [⟨none,.store 3 (.t 2) (.t 36),none⟩]
def T36_9t2:=hT R36_9t2 [4,5,6,8,17,18,19,26,27,28,34,35,36] [3] 4 [] [(3,(.c (.s (.bool true))))] [.cc (.s (.bool true))]
def X36_9t2:=hL R36_9t2 [4,5,6,8,17,18,19,26,27,28,34,35,36] [3]
def R36_10t1:List AOper:=[⟨none,.mapUpd .string (.t 37) (.t 38) (.c (.s (.bool true))),none⟩]
def R36_10p0:List AOper:=[⟨some 37,.move (.t 6),none⟩,⟨some 38,.move (.t 8),none⟩]
def R36_10:List AOper:=R36_10p0 ++ R36_10t1
def T36_10p0:=hT R36_10p0 [8,34] [37,38] 39 [] [(37,(.t 6)),(38,(.t 8))] [.tt 6,.tt 8]
def X36_10:=hS R36_10 R36_10p0 R36_10t1 [8,34] [37,38] [8,34,37,38]
def X36_10t1:=hX R36_10t1 [8,34,37,38] [⟨none,.mapUpd .string (.t 37) (.t 38) (.c (.s (.bool true))),none⟩]
def R36_11:List AOper:=[
 ⟨some 39,.bin .add (.t 28) (.c (.s (.int .i64 1))),none⟩,
 ⟨some 28,.move (.t 39),none⟩]
def T36_11:=hT R36_11 [39] [28] 40 [] [(28,(.op (.bin .add (.t 0) (.c (.s (.int .i64 1)))) [(.t 28),(.c (.s (.int .i64 1)))]))] [.sub 0 [] [],.sub 0 [] []]
def s_f36_l0_b:ACode:=
 (.seq (.regionE R36_6 [] [29])
 (.seq (.cond (.t 29)
 .skip
 (.exit 2))
 (.seq (.block 3
 (.seq (.regionE R36_7 [29,30,31] [8])
 (.seq (.seq (.regionE R36_8 [32,33] [34])
 (.cond (.t 34)
 (.seq (.region R36_9 [] [4,5,6,8,17,18,19,26,27,28,34,35,36])
 .ret)
 .skip))
 (.region R36_10 [] [8,34,37,38]))))
 (.regionE R36_11 [39] [28]))))
def s_f36_l0:ACode:=s_f36_l0_b
def s_f36_l0_ev:=hE s_f36_l0 s_f36_l0_b
def R36_12:List AOper:=[
 ⟨some 40,.fieldAddr 2 (.t 5),none⟩,
 ⟨some 41,.load false 1 (.t 40),none⟩,
 ⟨some 42,.lenS .s (.t 41),none⟩,
 ⟨some 43,.move (.c (.s (.int .i64 0))),none⟩]
def T36_12:=hT R36_12 [5,26,27,28,29,40] [41,42,43] 44 [] [(41,(.op (.load false 1 (.t 0)) [(.op (.fieldAddr 2 (.t 0)) [(.t 5)])])),(42,(.op (.lenS .s (.t 0)) [(.op (.load false 1 (.t 0)) [(.op (.fieldAddr 2 (.t 0)) [(.t 5)])])])),(43,(.c (.s (.int .i64 0))))] [.sub 0 [0] [],.sub 0 [] [],.sub 1 [] [],.cc (.s (.int .i64 0))]
def R36_13:List AOper:=[
 ⟨some 44,.bin .lss (.t 43) (.t 42),none⟩]
def T36_13:=hT R36_13 [] [44] 45 [] [(44,(.op (.bin .lss (.t 0) (.t 1)) [(.t 43),(.t 42)]))] [.sub 0 [] []]
def R36_14t3:List AOper:=[⟨none,.store 2 (.t 10) (.t 47),none⟩]
def R36_14p2:List AOper:=[⟨some 9,.move (.t 45),none⟩]
def R36_14t2:List AOper:=R36_14p2 ++ R36_14t3
def R36_14p1:List AOper:=[⟨some 10,.alloc [(.s (.string ⟨#[]⟩)),(.s (.slice none 0 0))],none⟩]
def R36_14t1:List AOper:=R36_14p1 ++ R36_14t2
def R36_14p0:List AOper:=[⟨some 45,.move (.t 43),none⟩,⟨some 46,.indexAddr 2 (.t 41) (.t 43),none⟩,⟨some 47,.load true 2 (.t 46),none⟩]
def R36_14:List AOper:=R36_14p0 ++ R36_14t1
def T36_14p0:=hT R36_14p0 [44,46] [45,47] 48 [] [(45,(.t 43)),(47,(.op (.load true 2 (.t 0)) [(.op (.indexAddr 2 (.t 0) (.t 1)) [(.t 41),(.t 43)])]))] [.tt 43,.sub 1 [0] [],.sub 1 [] []]
def X36_14:=hS R36_14 R36_14p0 R36_14t1 [44,46] [45,47] [44,45,46,47]
def X36_14t1:=hO R36_14t1 R36_14p1 R36_14t2 [] [44,45,46,47] [⟨some 10,.alloc [(.s (.string ⟨#[]⟩)),(.s (.slice none 0 0))],none⟩]
def T36_14p2:=hT R36_14p2 [45] [9] 10 [] [(9,(.t 45))] [.tt 45]
def X36_14t2:=hS R36_14t2 R36_14p2 R36_14t3 [45] [9] [44,45,46,47]
def X36_14t3:=hX R36_14t3 [44,45,46,47] [⟨none,.store 2 (.t 10) (.t 47),none⟩]
def R36_15:List AOper:=[
 ⟨some 48,.fieldAddr 1 (.t 10),none⟩,
 ⟨some 49,.load false 1 (.t 48),none⟩,
 ⟨some 50,.lenS .s (.t 49),none⟩,
 ⟨some 51,.move (.c (.s (.int .i64 0))),none⟩]
def T36_15:=hT R36_15 [10,48] [49,50,51] 52 [] [(49,(.op (.load false 1 (.t 0)) [(.op (.fieldAddr 1 (.t 0)) [(.t 10)])])),(50,(.op (.lenS .s (.t 0)) [(.op (.load false 1 (.t 0)) [(.op (.fieldAddr 1 (.t 0)) [(.t 10)])])])),(51,(.c (.s (.int .i64 0))))] [.sub 0 [0] [],.sub 0 [] [],.sub 1 [] [],.cc (.s (.int .i64 0))]
def R36_16:List AOper:=[
 ⟨some 52,.bin .lss (.t 51) (.t 50),none⟩]
def T36_16:=hT R36_16 [] [52] 53 [] [(52,(.op (.bin .lss (.t 0) (.t 1)) [(.t 51),(.t 50)]))] [.sub 0 [] []]
def R36_17t3:List AOper:=[⟨none,.store 8 (.t 12) (.t 55),none⟩]
def R36_17p2:List AOper:=[⟨some 11,.move (.t 53),none⟩]
def R36_17t2:List AOper:=R36_17p2 ++ R36_17t3
def R36_17p1:List AOper:=[⟨some 12,.alloc [(.s (.int .u8 0)),(.s (.string ⟨#[]⟩)),(.s (.string ⟨#[]⟩)),(.s (.string ⟨#[]⟩)),(.s (.int .i64 0)),(.s (.string ⟨#[]⟩)),(.s (.slice none 0 0)),(.s (.slice none 0 0))],none⟩]
def R36_17t1:List AOper:=R36_17p1 ++ R36_17t2
def R36_17p0:List AOper:=[⟨some 53,.move (.t 51),none⟩,⟨some 54,.indexAddr 8 (.t 49) (.t 51),none⟩,⟨some 55,.load true 8 (.t 54),none⟩]
def R36_17:List AOper:=R36_17p0 ++ R36_17t1
def T36_17p0:=hT R36_17p0 [52,54] [53,55] 56 [] [(53,(.t 51)),(55,(.op (.load true 8 (.t 0)) [(.op (.indexAddr 8 (.t 0) (.t 1)) [(.t 49),(.t 51)])]))] [.tt 51,.sub 1 [0] [],.sub 1 [] []]
def X36_17:=hS R36_17 R36_17p0 R36_17t1 [52,54] [53,55] [52,53,54,55]
def X36_17t1:=hO R36_17t1 R36_17p1 R36_17t2 [] [52,53,54,55] [⟨some 12,.alloc [(.s (.int .u8 0)),(.s (.string ⟨#[]⟩)),(.s (.string ⟨#[]⟩)),(.s (.string ⟨#[]⟩)),(.s (.int .i64 0)),(.s (.string ⟨#[]⟩)),(.s (.slice none 0 0)),(.s (.slice none 0 0))],none⟩]
def T36_17p2:=hT R36_17p2 [53] [11] 12 [] [(11,(.t 53))] [.tt 53]
def X36_17t2:=hS R36_17t2 R36_17p2 R36_17t3 [53] [11] [52,53,54,55]
def X36_17t3:=hX R36_17t3 [52,53,54,55] [⟨none,.store 8 (.t 12) (.t 55),none⟩]
def R36_18:List AOper:=[
 ⟨some 56,.fieldAddr 1 (.t 12),none⟩,
 ⟨some 57,.load false 1 (.t 56),none⟩,
 ⟨some 58,.bin .neq (.t 57) (.c (.s (.string ⟨#[]⟩))),none⟩,
 ⟨some 59,.move (.t 58),none⟩,
 ⟨some 60,.move (.t 6),some (59,true)⟩,
 ⟨some 61,.fieldAddr 1 (.t 12),some (59,true)⟩,
 ⟨some 62,.load false 1 (.t 61),some (59,true)⟩,
 ⟨some 63,.mapGet .string (.s (.bool false)) (.t 60) (.t 62) false,some (59,true)⟩,
 ⟨some 64,.pick (.t 59) (.t 63) (.c (.s (.bool false))),none⟩]
def T36_18:=hT R36_18 [56,57,58,59,60,61,62,63] [64] 65 [] [(64,(.pick (.op (.bin .neq (.t 0) (.c (.s (.string ⟨#[]⟩)))) [(.op (.load false 1 (.t 0)) [(.op (.fieldAddr 1 (.t 0)) [(.t 12)])]),(.c (.s (.string ⟨#[]⟩)))]) (.op (.mapGet .string (.s (.bool false)) (.t 0) (.t 1) false) [(.t 6),(.op (.load false 1 (.t 0)) [(.op (.fieldAddr 1 (.t 0)) [(.t 12)])])]) (.c (.s (.bool false)))))] [.sub 0 [0,0,0] [],.sub 0 [0,0] [],.sub 0 [0] [],.sub 0 [0] [],.sub 0 [1,0] [59],.sub 0 [1,1,0] [59],.sub 0 [1,1] [59],.sub 0 [1] [59],.sub 0 [] []]
def R36_19t2:List AOper:=[⟨some 3,.move (.c (.s (.bool true))),none⟩]
def R36_19p1:List AOper:=[⟨none,.store 3 (.t 2) (.t 68),none⟩]
def R36_19t1:List AOper:=R36_19p1 ++ R36_19t2
def R36_19p0:List AOper:=[⟨some 65,.move (.t 4),none⟩,⟨some 66,.move (.t 9),none⟩,⟨some 67,.move (.t 11),none⟩,⟨some 68,.build [(.s (.int .i64 0)),(.s (.int .i64 0)),(.s (.int .i64 0))] [(0,1),(1,1),(2,1)] [(0,(.t 65)),(1,(.t 66)),(2,(.t 67))],none⟩]
def R36_19:List AOper:=R36_19p0 ++ R36_19t1
def T36_19p0:=hT R36_19p0 [4,6,9,11,12,17,18,19,41,42,43,49,50,51,64,65,66,67] [68] 69 [] [(68,(.op (.build [(.s (.int .i64 0)),(.s (.int .i64 0)),(.s (.int .i64 0))] [(0,1),(1,1),(2,1)] [(0,(.t 0)),(1,(.t 1)),(2,(.t 2))]) [(.t 4),(.t 9),(.t 11)]))] [.tt 4,.tt 9,.tt 11,.sub 0 [] []]
def X36_19:=hS R36_19 R36_19p0 R36_19t1 [4,6,9,11,12,17,18,19,41,42,43,49,50,51,64,65,66,67] [68] [4,6,9,11,12,17,18,19,41,42,43,49,50,51,64,65,66,67,68]
def X36_19t1:=hO R36_19t1 R36_19p1 R36_19t2 [68] [4,6,9,11,12,17,18,19,41,42,43,49,50,51,64,65,66,67,68] [⟨none,.store 3 (.t 2) (.t 68),none⟩]
def T36_19t2:=hT R36_19t2 [4,6,9,11,12,17,18,19,41,42,43,49,50,51,64,65,66,67,68] [3] 4 [] [(3,(.c (.s (.bool true))))] [.cc (.s (.bool true))]
def X36_19t2:=hL R36_19t2 [4,6,9,11,12,17,18,19,41,42,43,49,50,51,64,65,66,67,68] [3]
def R36_20t1:List AOper:=[⟨none,.mapUpd .string (.t 69) (.t 71) (.c (.s (.bool true))),none⟩]
def R36_20p0:List AOper:=[⟨some 69,.move (.t 6),none⟩,⟨some 70,.fieldAddr 1 (.t 12),none⟩,⟨some 71,.load false 1 (.t 70),none⟩]
def R36_20:List AOper:=R36_20p0 ++ R36_20t1
def T36_20p0:=hT R36_20p0 [11,12,64,70] [69,71] 72 [] [(69,(.t 6)),(71,(.op (.load false 1 (.t 0)) [(.op (.fieldAddr 1 (.t 0)) [(.t 12)])]))] [.tt 6,.sub 1 [0] [],.sub 1 [] []]
def X36_20:=hS R36_20 R36_20p0 R36_20t1 [11,12,64,70] [69,71] [11,12,64,69,70,71]
def X36_20t1:=hX R36_20t1 [11,12,64,69,70,71] [⟨none,.mapUpd .string (.t 69) (.t 71) (.c (.s (.bool true))),none⟩]
def R36_21:List AOper:=[
 ⟨some 72,.bin .add (.t 51) (.c (.s (.int .i64 1))),none⟩,
 ⟨some 51,.move (.t 72),none⟩]
def T36_21:=hT R36_21 [72] [51] 73 [] [(51,(.op (.bin .add (.t 0) (.c (.s (.int .i64 1)))) [(.t 51),(.c (.s (.int .i64 1)))]))] [.sub 0 [] [],.sub 0 [] []]
def s_f36_l1_b:ACode:=
 (.seq (.regionE R36_16 [] [52])
 (.seq (.cond (.t 52)
 .skip
 (.exit 6))
 (.seq (.block 7
 (.seq (.region R36_17 [] [52,53,54,55])
 (.seq (.seq (.regionE R36_18 [56,57,58,59,60,61,62,63] [64])
 (.cond (.t 64)
 (.seq (.region R36_19 [] [4,6,9,11,12,17,18,19,41,42,43,49,50,51,64,65,66,67,68])
 .ret)
 .skip))
 (.region R36_20 [] [11,12,64,69,70,71]))))
 (.regionE R36_21 [72] [51]))))
def s_f36_l1:ACode:=s_f36_l1_b
def s_f36_l1_ev:=hE s_f36_l1 s_f36_l1_b
def R36_22:List AOper:=[
 ⟨some 73,.bin .add (.t 43) (.c (.s (.int .i64 1))),none⟩,
 ⟨some 43,.move (.t 73),none⟩]
def T36_22:=hT R36_22 [9,49,50,51,52,73] [43] 74 [] [(43,(.op (.bin .add (.t 0) (.c (.s (.int .i64 1)))) [(.t 43),(.c (.s (.int .i64 1)))]))] [.sub 0 [] [],.sub 0 [] []]
def s_f36_l2_b:ACode:=
 (.seq (.regionE R36_13 [] [44])
 (.seq (.cond (.t 44)
 .skip
 (.exit 4))
 (.seq (.block 5
 (.seq (.region R36_14 [] [44,45,46,47])
 (.seq (.regionE R36_15 [10,48] [49,50,51])
 (.block 6
 (.loop [] s_f36_l1)))))
 (.regionE R36_22 [9,49,50,51,52,73] [43]))))
def s_f36_l2:ACode:=s_f36_l2_b
def s_f36_l2_ev:=hE s_f36_l2 s_f36_l2_b
def R36_23:List AOper:=[
 ⟨some 74,.bin .add (.t 19) (.c (.s (.int .i64 1))),none⟩,
 ⟨some 19,.move (.t 74),none⟩]
def T36_23:=hT R36_23 [4,6,41,42,43,44,74] [19] 75 [] [(19,(.op (.bin .add (.t 0) (.c (.s (.int .i64 1)))) [(.t 19),(.c (.s (.int .i64 1)))]))] [.sub 0 [] [],.sub 0 [] []]
def s_f36_l3_b:ACode:=
 (.seq (.regionE R36_2 [] [20])
 (.seq (.cond (.t 20)
 .skip
 (.exit 0))
 (.seq (.block 1
 (.seq (.region R36_3 [] [20,21,22,23])
 (.seq (.region R36_4 [] [24])
 (.seq (.seq (.regionE R36_5 [25] [26,27,28])
 (.block 2
 (.loop [] s_f36_l0)))
 (.seq (.regionE R36_12 [5,26,27,28,29,40] [41,42,43])
 (.block 4
 (.loop [] s_f36_l2)))))))
 (.regionE R36_23 [4,6,41,42,43,44,74] [19]))))
def s_f36_l3:ACode:=s_f36_l3_b
def s_f36_l3_ev:=hE s_f36_l3 s_f36_l3_b
def R36_24t2:List AOper:=[⟨some 3,.move (.c (.s (.bool false))),none⟩]
def R36_24p1:List AOper:=[⟨none,.store 3 (.t 2) (.t 75),none⟩]
def R36_24t1:List AOper:=R36_24p1 ++ R36_24t2
def R36_24p0:List AOper:=[⟨some 75,.build [(.s (.int .i64 0)),(.s (.int .i64 0)),(.s (.int .i64 0))] [(0,1),(1,1),(2,1)] [],none⟩]
def R36_24:List AOper:=R36_24p0 ++ R36_24t1
def T36_24p0:=hT R36_24p0 [17,18,19,20] [75] 76 [] [(75,(.op (.build [(.s (.int .i64 0)),(.s (.int .i64 0)),(.s (.int .i64 0))] [(0,1),(1,1),(2,1)] []) []))] [.sub 0 [] []]
def X36_24:=hS R36_24 R36_24p0 R36_24t1 [17,18,19,20] [75] [17,18,19,20,75]
def X36_24t1:=hO R36_24t1 R36_24p1 R36_24t2 [75] [17,18,19,20,75] [⟨none,.store 3 (.t 2) (.t 75),none⟩]
def T36_24t2:=hT R36_24t2 [17,18,19,20,75] [3] 4 [] [(3,(.c (.s (.bool false))))] [.cc (.s (.bool false))]
def X36_24t2:=hL R36_24t2 [17,18,19,20,75] [3]
def s_f36:ACFun:={ ntmps:=76,results:=[(.cell 2 true 3),(.tmp 3)],body:=
 (.seq (.region R36_0 [] K36_0)
 (.seq (.seq (.regionE R36_1 [0,13,14,15,16] [17,18,19])
 (.block 0
 (.loop [] s_f36_l3)))
 (.seq (.region R36_24 [] [17,18,19,20,75])
 .ret))) }
theorem s_f36_first:firstOk (List.range' 1 (s_f36.ntmps - 1)) s_f36.body=true:=by kernel_rfl
abbrev k_f37:Nat:=37
def K37_0:List Nat:=[1,3,4,5,6,7,8,9,10,11,12,13,14,15,16,17,18,19,20,21,22,23,24,25,26,27,28,29,30,31,32,33,34,35,36,37,38,39,40,41,42,43,44,45,46,47,48,49,50,51,52,53,54,55,56,57,58,59,60,61,62,63,64,65,66,67,68,69,70,71,72,73,74,75,76,77,78,79,80,81,82,83,84,85,86,87,88,89,90,91,92]
def A37_0_0:=hK K37_0 0
def A37_0_2:=hK K37_0 2
theorem A37_0_3:K37_0.contains 3=true:=by kernel_rfl
def R37_0t1:List AOper:=[⟨some 3,.move (.c (.s (.bool false))),none⟩]
def R37_0p0:List AOper:=[⟨some 2,.alloc [(.s (.int .i64 0)),(.s (.int .i64 0)),(.s (.int .i64 0))],none⟩]
def R37_0:List AOper:=R37_0p0 ++ R37_0t1
def K37_0p0:List Nat:=[1,3,4,5,6,7,8,9,10,11,12,13,14,15,16,17,18,19,20,21,22,23,24,25,26,27,28,29,30,31,32,33,34,35,36,37,38,39,40,41,42,43,44,45,46,47,48,49,50,51,52,53,54,55,56,57,58,59,60,61,62,63,64,65,66,67,68,69,70,71,72,73,74,75,76,77,78,79,80,81,82,83,84,85,86,87,88,89,90,91,92]
def A37_0p0_0:=hK K37_0p0 0
def A37_0p0_2:=hK K37_0p0 2
theorem A37_0p0_3:K37_0p0.contains 3=true:=by kernel_rfl
theorem X37_0 (call:CallF) (it:IterF) (base:Nat) (f:List V) (H:Heap):evC call it base (.region R37_0 [] K37_0) f H=thenC call it base (.region R37_0t1 [] K37_0) (opsC [] R37_0p0 K37_0p0 (evOps call base [⟨some 2,.alloc [(.s (.int .i64 0)),(.s (.int .i64 0)),(.s (.int .i64 0))],none⟩] f H)):=(row_op call it base R37_0p0 R37_0t1 (kc:=K37_0p0) (by kernel_rfl) f H).trans (by rw [row_ops];rfl)
def T37_0t1:=hT R37_0t1 K37_0 [] 4 [] [] [.cc (.s (.bool false))]
def X37_0t1:=hL R37_0t1 K37_0 []
def R37_1:List AOper:=[
 ⟨some 17,.move (.t 0),none⟩,
 ⟨some 18,.nilCheck (.t 17),none⟩,
 ⟨some 19,.fieldAddr 0 (.t 18),none⟩,
 ⟨some 20,.fieldAddr 0 (.t 19),none⟩,
 ⟨some 21,.load false 1 (.t 20),none⟩,
 ⟨some 22,.lenS .s (.t 21),none⟩,
 ⟨some 23,.move (.c (.s (.int .i64 0))),none⟩]
def T37_1:=hT R37_1 [0,17,18,19,20] [21,22,23] 24 [] [(21,(.op (.load false 1 (.t 0)) [(.op (.fieldAddr 0 (.t 0)) [(.op (.fieldAddr 0 (.t 0)) [(.op (.nilCheck (.t 0)) [(.t 0)])])])])),(22,(.op (.lenS .s (.t 0)) [(.op (.load false 1 (.t 0)) [(.op (.fieldAddr 0 (.t 0)) [(.op (.fieldAddr 0 (.t 0)) [(.op (.nilCheck (.t 0)) [(.t 0)])])])])])),(23,(.c (.s (.int .i64 0))))] [.tt 0,.sub 0 [0,0,0] [],.sub 0 [0,0] [],.sub 0 [0] [],.sub 0 [] [],.sub 1 [] [],.cc (.s (.int .i64 0))]
def R37_2:List AOper:=[
 ⟨some 24,.bin .lss (.t 23) (.t 22),none⟩]
def T37_2:=hT R37_2 [] [24] 25 [] [(24,(.op (.bin .lss (.t 0) (.t 1)) [(.t 23),(.t 22)]))] [.sub 0 [] []]
def R37_3t3:List AOper:=[⟨none,.store 3 (.t 5) (.t 27),none⟩]
def R37_3p2:List AOper:=[⟨some 4,.move (.t 25),none⟩]
def R37_3t2:List AOper:=R37_3p2 ++ R37_3t3
def R37_3p1:List AOper:=[⟨some 5,.alloc [(.s (.string ⟨#[]⟩)),(.s (.slice none 0 0)),(.s (.slice none 0 0))],none⟩]
def R37_3t1:List AOper:=R37_3p1 ++ R37_3t2
def R37_3p0:List AOper:=[⟨some 25,.move (.t 23),none⟩,⟨some 26,.indexAddr 3 (.t 21) (.t 23),none⟩,⟨some 27,.load true 3 (.t 26),none⟩]
def R37_3:List AOper:=R37_3p0 ++ R37_3t1
def T37_3p0:=hT R37_3p0 [24,26] [25,27] 28 [] [(25,(.t 23)),(27,(.op (.load true 3 (.t 0)) [(.op (.indexAddr 3 (.t 0) (.t 1)) [(.t 21),(.t 23)])]))] [.tt 23,.sub 1 [0] [],.sub 1 [] []]
def X37_3:=hS R37_3 R37_3p0 R37_3t1 [24,26] [25,27] [24,25,26,27]
def X37_3t1:=hO R37_3t1 R37_3p1 R37_3t2 [] [24,25,26,27] [⟨some 5,.alloc [(.s (.string ⟨#[]⟩)),(.s (.slice none 0 0)),(.s (.slice none 0 0))],none⟩]
def T37_3p2:=hT R37_3p2 [25] [4] 5 [] [(4,(.t 25))] [.tt 25]
def X37_3t2:=hS R37_3t2 R37_3p2 R37_3t3 [25] [4] [24,25,26,27]
def X37_3t3:=hX R37_3t3 [24,25,26,27] [⟨none,.store 3 (.t 5) (.t 27),none⟩]
def R37_4t5:List AOper:=[⟨none,.store 1 (.t 6) (.t 29),none⟩]
def R37_4p4:List AOper:=[⟨some 6,.alloc [(.s (.map none))],none⟩]
def R37_4t4:List AOper:=R37_4p4 ++ R37_4t5
def R37_4p3:List AOper:=[⟨some 29,.move (.t 28),none⟩]
def R37_4t3:List AOper:=R37_4p3 ++ R37_4t4
def R37_4p2:List AOper:=[⟨none,.mapUpd .string (.t 28) (.c (.s (.string ⟨#[110,117,108,108]⟩))) (.c (.s (.bool true))),none⟩]
def R37_4t2:List AOper:=R37_4p2 ++ R37_4t3
def R37_4p1:List AOper:=[⟨none,.mapUpd .string (.t 28) (.c (.s (.string ⟨#[]⟩))) (.c (.s (.bool true))),none⟩]
def R37_4t1:List AOper:=R37_4p1 ++ R37_4t2
def R37_4p0:List AOper:=[⟨some 28,.mapNew,none⟩]
def R37_4:List AOper:=R37_4p0 ++ R37_4t1
def X37_4:=hO R37_4 R37_4p0 R37_4t1 [] [28,29] [⟨some 28,.mapNew,none⟩]
def X37_4t1:=hO R37_4t1 R37_4p1 R37_4t2 [] [28,29] [⟨none,.mapUpd .string (.t 28) (.c (.s (.string ⟨#[]⟩))) (.c (.s (.bool true))),none⟩]
def X37_4t2:=hO R37_4t2 R37_4p2 R37_4t3 [] [28,29] [⟨none,.mapUpd .string (.t 28) (.c (.s (.string ⟨#[110,117,108,108]⟩))) (.c (.s (.bool true))),none⟩]
def T37_4p3:=hT R37_4p3 [28] [29] 30 [] [(29,(.t 28))] [.tt 28]
def X37_4t3:=hS R37_4t3 R37_4p3 R37_4t4 [28] [29] [28,29]
def X37_4t4:=hO R37_4t4 R37_4p4 R37_4t5 [] [28,29] [⟨some 6,.alloc [(.s (.map none))],none⟩]
def X37_4t5:=hX R37_4t5 [28,29] [⟨none,.store 1 (.t 6) (.t 29),none⟩]
def R37_5:List AOper:=[
 ⟨some 30,.fieldAddr 1 (.t 5),none⟩,
 ⟨some 31,.load false 1 (.t 30),none⟩,
 ⟨some 32,.lenS .s (.t 31),none⟩,
 ⟨some 33,.move (.c (.s (.int .i64 0))),none⟩]
def T37_5:=hT R37_5 [30] [31,32,33] 34 [] [(31,(.op (.load false 1 (.t 0)) [(.op (.fieldAddr 1 (.t 0)) [(.t 5)])])),(32,(.op (.lenS .s (.t 0)) [(.op (.load false 1 (.t 0)) [(.op (.fieldAddr 1 (.t 0)) [(.t 5)])])])),(33,(.c (.s (.int .i64 0))))] [.sub 0 [0] [],.sub 0 [] [],.sub 1 [] [],.cc (.s (.int .i64 0))]
def R37_6:List AOper:=[
 ⟨some 34,.bin .lss (.t 33) (.t 32),none⟩]
def T37_6:=hT R37_6 [] [34] 35 [] [(34,(.op (.bin .lss (.t 0) (.t 1)) [(.t 33),(.t 32)]))] [.sub 0 [] []]
def R37_7:List AOper:=[
 ⟨some 35,.indexAddr 1 (.t 31) (.t 33),none⟩,
 ⟨some 36,.load false 1 (.t 35),none⟩,
 ⟨some 8,.move (.t 36),none⟩]
def T37_7:=hT R37_7 [34,35,36] [8] 37 [] [(8,(.op (.load false 1 (.t 0)) [(.op (.indexAddr 1 (.t 0) (.t 1)) [(.t 31),(.t 33)])]))] [.sub 0 [0] [],.sub 0 [] [],.sub 0 [] []]
def R37_8t1:List AOper:=[⟨none,.mapUpd .string (.t 37) (.t 38) (.c (.s (.bool true))),none⟩]
def R37_8p0:List AOper:=[⟨some 37,.load false 1 (.t 6),none⟩,⟨some 38,.move (.t 8),none⟩]
def R37_8:List AOper:=R37_8p0 ++ R37_8t1
def T37_8p0:=hT R37_8p0 [8] [37,38] 39 [] [(37,(.op (.load false 1 (.t 0)) [(.t 6)])),(38,(.t 8))] [.sub 0 [] [],.tt 8]
def X37_8:=hS R37_8 R37_8p0 R37_8t1 [8] [37,38] [8,37,38]
def X37_8t1:=hX R37_8t1 [8,37,38] [⟨none,.mapUpd .string (.t 37) (.t 38) (.c (.s (.bool true))),none⟩]
def R37_9:List AOper:=[
 ⟨some 39,.bin .add (.t 33) (.c (.s (.int .i64 1))),none⟩,
 ⟨some 33,.move (.t 39),none⟩]
def T37_9:=hT R37_9 [39] [33] 40 [] [(33,(.op (.bin .add (.t 0) (.c (.s (.int .i64 1)))) [(.t 33),(.c (.s (.int .i64 1)))]))] [.sub 0 [] [],.sub 0 [] []]
def s_f37_l0_b:ACode:=
 (.seq (.regionE R37_6 [] [34])
 (.seq (.cond (.t 34)
 .skip
 (.exit 2))
 (.seq (.block 3
 (.seq (.regionE R37_7 [34,35,36] [8])
 (.region R37_8 [] [8,37,38])))
 (.regionE R37_9 [39] [33]))))
def s_f37_l0:ACode:=s_f37_l0_b
def s_f37_l0_ev:=hE s_f37_l0 s_f37_l0_b
def R37_10:List AOper:=[
 ⟨some 40,.fieldAddr 2 (.t 5),none⟩,
 ⟨some 41,.load false 1 (.t 40),none⟩,
 ⟨some 42,.lenS .s (.t 41),none⟩,
 ⟨some 43,.move (.c (.s (.int .i64 0))),none⟩]
def T37_10:=hT R37_10 [31,32,33,34,40] [41,42,43] 44 [] [(41,(.op (.load false 1 (.t 0)) [(.op (.fieldAddr 2 (.t 0)) [(.t 5)])])),(42,(.op (.lenS .s (.t 0)) [(.op (.load false 1 (.t 0)) [(.op (.fieldAddr 2 (.t 0)) [(.t 5)])])])),(43,(.c (.s (.int .i64 0))))] [.sub 0 [0] [],.sub 0 [] [],.sub 1 [] [],.cc (.s (.int .i64 0))]
def R37_11:List AOper:=[
 ⟨some 44,.bin .lss (.t 43) (.t 42),none⟩]
def T37_11:=hT R37_11 [] [44] 45 [] [(44,(.op (.bin .lss (.t 0) (.t 1)) [(.t 43),(.t 42)]))] [.sub 0 [] []]
def R37_12t2:List AOper:=[⟨none,.store 2 (.t 10) (.t 46),none⟩]
def R37_12p1:List AOper:=[⟨some 10,.alloc [(.s (.string ⟨#[]⟩)),(.s (.slice none 0 0))],none⟩]
def R37_12t1:List AOper:=R37_12p1 ++ R37_12t2
def R37_12p0:List AOper:=[⟨some 45,.indexAddr 2 (.t 41) (.t 43),none⟩,⟨some 46,.load true 2 (.t 45),none⟩]
def R37_12:List AOper:=R37_12p0 ++ R37_12t1
def T37_12p0:=hT R37_12p0 [44,45] [46] 47 [] [(46,(.op (.load true 2 (.t 0)) [(.op (.indexAddr 2 (.t 0) (.t 1)) [(.t 41),(.t 43)])]))] [.sub 0 [0] [],.sub 0 [] []]
def X37_12:=hS R37_12 R37_12p0 R37_12t1 [44,45] [46] [44,45,46]
def X37_12t1:=hO R37_12t1 R37_12p1 R37_12t2 [] [44,45,46] [⟨some 10,.alloc [(.s (.string ⟨#[]⟩)),(.s (.slice none 0 0))],none⟩]
def X37_12t2:=hX R37_12t2 [44,45,46] [⟨none,.store 2 (.t 10) (.t 46),none⟩]
def R37_13:List AOper:=[
 ⟨some 47,.fieldAddr 1 (.t 10),none⟩,
 ⟨some 48,.load false 1 (.t 47),none⟩,
 ⟨some 49,.lenS .s (.t 48),none⟩,
 ⟨some 50,.move (.c (.s (.int .i64 0))),none⟩]
def T37_13:=hT R37_13 [10,47] [48,49,50] 51 [] [(48,(.op (.load false 1 (.t 0)) [(.op (.fieldAddr 1 (.t 0)) [(.t 10)])])),(49,(.op (.lenS .s (.t 0)) [(.op (.load false 1 (.t 0)) [(.op (.fieldAddr 1 (.t 0)) [(.t 10)])])])),(50,(.c (.s (.int .i64 0))))] [.sub 0 [0] [],.sub 0 [] [],.sub 1 [] [],.cc (.s (.int .i64 0))]
def R37_14:List AOper:=[
 ⟨some 51,.bin .lss (.t 50) (.t 49),none⟩]
def T37_14:=hT R37_14 [] [51] 52 [] [(51,(.op (.bin .lss (.t 0) (.t 1)) [(.t 50),(.t 49)]))] [.sub 0 [] []]
def R37_15t2:List AOper:=[⟨none,.store 8 (.t 12) (.t 53),none⟩]
def R37_15p1:List AOper:=[⟨some 12,.alloc [(.s (.int .u8 0)),(.s (.string ⟨#[]⟩)),(.s (.string ⟨#[]⟩)),(.s (.string ⟨#[]⟩)),(.s (.int .i64 0)),(.s (.string ⟨#[]⟩)),(.s (.slice none 0 0)),(.s (.slice none 0 0))],none⟩]
def R37_15t1:List AOper:=R37_15p1 ++ R37_15t2
def R37_15p0:List AOper:=[⟨some 52,.indexAddr 8 (.t 48) (.t 50),none⟩,⟨some 53,.load true 8 (.t 52),none⟩]
def R37_15:List AOper:=R37_15p0 ++ R37_15t1
def T37_15p0:=hT R37_15p0 [51,52] [53] 54 [] [(53,(.op (.load true 8 (.t 0)) [(.op (.indexAddr 8 (.t 0) (.t 1)) [(.t 48),(.t 50)])]))] [.sub 0 [0] [],.sub 0 [] []]
def X37_15:=hS R37_15 R37_15p0 R37_15t1 [51,52] [53] [51,52,53]
def X37_15t1:=hO R37_15t1 R37_15p1 R37_15t2 [] [51,52,53] [⟨some 12,.alloc [(.s (.int .u8 0)),(.s (.string ⟨#[]⟩)),(.s (.string ⟨#[]⟩)),(.s (.string ⟨#[]⟩)),(.s (.int .i64 0)),(.s (.string ⟨#[]⟩)),(.s (.slice none 0 0)),(.s (.slice none 0 0))],none⟩]
def X37_15t2:=hX R37_15t2 [51,52,53] [⟨none,.store 8 (.t 12) (.t 53),none⟩]
def R37_16t1:List AOper:=[⟨none,.mapUpd .string (.t 54) (.t 56) (.c (.s (.bool true))),none⟩]
def R37_16p0:List AOper:=[⟨some 54,.load false 1 (.t 6),none⟩,⟨some 55,.fieldAddr 1 (.t 12),none⟩,⟨some 56,.load false 1 (.t 55),none⟩]
def R37_16:List AOper:=R37_16p0 ++ R37_16t1
def T37_16p0:=hT R37_16p0 [12,55] [54,56] 57 [] [(54,(.op (.load false 1 (.t 0)) [(.t 6)])),(56,(.op (.load false 1 (.t 0)) [(.op (.fieldAddr 1 (.t 0)) [(.t 12)])]))] [.sub 0 [] [],.sub 1 [0] [],.sub 1 [] []]
def X37_16:=hS R37_16 R37_16p0 R37_16t1 [12,55] [54,56] [12,54,55,56]
def X37_16t1:=hX R37_16t1 [12,54,55,56] [⟨none,.mapUpd .string (.t 54) (.t 56) (.c (.s (.bool true))),none⟩]
def R37_17:List AOper:=[
 ⟨some 57,.bin .add (.t 50) (.c (.s (.int .i64 1))),none⟩,
 ⟨some 50,.move (.t 57),none⟩]
def T37_17:=hT R37_17 [57] [50] 58 [] [(50,(.op (.bin .add (.t 0) (.c (.s (.int .i64 1)))) [(.t 50),(.c (.s (.int .i64 1)))]))] [.sub 0 [] [],.sub 0 [] []]
def s_f37_l1_b:ACode:=
 (.seq (.regionE R37_14 [] [51])
 (.seq (.cond (.t 51)
 .skip
 (.exit 6))
 (.seq (.block 7
 (.seq (.region R37_15 [] [51,52,53])
 (.region R37_16 [] [12,54,55,56])))
 (.regionE R37_17 [57] [50]))))
def s_f37_l1:ACode:=s_f37_l1_b
def s_f37_l1_ev:=hE s_f37_l1 s_f37_l1_b
def R37_18:List AOper:=[
 ⟨some 58,.bin .add (.t 43) (.c (.s (.int .i64 1))),none⟩,
 ⟨some 43,.move (.t 58),none⟩]
def T37_18:=hT R37_18 [48,49,50,51,58] [43] 59 [] [(43,(.op (.bin .add (.t 0) (.c (.s (.int .i64 1)))) [(.t 43),(.c (.s (.int .i64 1)))]))] [.sub 0 [] [],.sub 0 [] []]
def s_f37_l2_b:ACode:=
 (.seq (.regionE R37_11 [] [44])
 (.seq (.cond (.t 44)
 .skip
 (.exit 4))
 (.seq (.block 5
 (.seq (.region R37_12 [] [44,45,46])
 (.seq (.regionE R37_13 [10,47] [48,49,50])
 (.block 6
 (.loop [] s_f37_l1)))))
 (.regionE R37_18 [48,49,50,51,58] [43]))))
def s_f37_l2:ACode:=s_f37_l2_b
def s_f37_l2_ev:=hE s_f37_l2 s_f37_l2_b
def R37_19:List AOper:=[
 ⟨some 59,.fieldAddr 2 (.t 5),none⟩,
 ⟨some 60,.load false 1 (.t 59),none⟩,
 ⟨some 61,.lenS .s (.t 60),none⟩,
 ⟨some 62,.move (.c (.s (.int .i64 0))),none⟩]
def T37_19:=hT R37_19 [5,41,42,43,44,59] [60,61,62] 63 [] [(60,(.op (.load false 1 (.t 0)) [(.op (.fieldAddr 2 (.t 0)) [(.t 5)])])),(61,(.op (.lenS .s (.t 0)) [(.op (.load false 1 (.t 0)) [(.op (.fieldAddr 2 (.t 0)) [(.t 5)])])])),(62,(.c (.s (.int .i64 0))))] [.sub 0 [0] [],.sub 0 [] [],.sub 1 [] [],.cc (.s (.int .i64 0))]
def R37_20:List AOper:=[
 ⟨some 63,.bin .lss (.t 62) (.t 61),none⟩]
def T37_20:=hT R37_20 [] [63] 64 [] [(63,(.op (.bin .lss (.t 0) (.t 1)) [(.t 62),(.t 61)]))] [.sub 0 [] []]
def R37_21t3:List AOper:=[⟨none,.store 2 (.t 14) (.t 66),none⟩]
def R37_21p2:List AOper:=[⟨some 13,.move (.t 64),none⟩]
def R37_21t2:List AOper:=R37_21p2 ++ R37_21t3
def R37_21p1:List AOper:=[⟨some 14,.alloc [(.s (.string ⟨#[]⟩)),(.s (.slice none 0 0))],none⟩]
def R37_21t1:List AOper:=R37_21p1 ++ R37_21t2
def R37_21p0:List AOper:=[⟨some 64,.move (.t 62),none⟩,⟨some 65,.indexAddr 2 (.t 60) (.t 62),none⟩,⟨some 66,.load true 2 (.t 65),none⟩]
def R37_21:List AOper:=R37_21p0 ++ R37_21t1
def T37_21p0:=hT R37_21p0 [63,65] [64,66] 67 [] [(64,(.t 62)),(66,(.op (.load true 2 (.t 0)) [(.op (.indexAddr 2 (.t 0) (.t 1)) [(.t 60),(.t 62)])]))] [.tt 62,.sub 1 [0] [],.sub 1 [] []]
def X37_21:=hS R37_21 R37_21p0 R37_21t1 [63,65] [64,66] [63,64,65,66]
def X37_21t1:=hO R37_21t1 R37_21p1 R37_21t2 [] [63,64,65,66] [⟨some 14,.alloc [(.s (.string ⟨#[]⟩)),(.s (.slice none 0 0))],none⟩]
def T37_21p2:=hT R37_21p2 [64] [13] 14 [] [(13,(.t 64))] [.tt 64]
def X37_21t2:=hS R37_21t2 R37_21p2 R37_21t3 [64] [13] [63,64,65,66]
def X37_21t3:=hX R37_21t3 [63,64,65,66] [⟨none,.store 2 (.t 14) (.t 66),none⟩]
def R37_22:List AOper:=[
 ⟨some 67,.fieldAddr 1 (.t 14),none⟩,
 ⟨some 68,.load false 1 (.t 67),none⟩,
 ⟨some 69,.lenS .s (.t 68),none⟩,
 ⟨some 70,.move (.c (.s (.int .i64 0))),none⟩]
def T37_22:=hT R37_22 [14,67] [68,69,70] 71 [] [(68,(.op (.load false 1 (.t 0)) [(.op (.fieldAddr 1 (.t 0)) [(.t 14)])])),(69,(.op (.lenS .s (.t 0)) [(.op (.load false 1 (.t 0)) [(.op (.fieldAddr 1 (.t 0)) [(.t 14)])])])),(70,(.c (.s (.int .i64 0))))] [.sub 0 [0] [],.sub 0 [] [],.sub 1 [] [],.cc (.s (.int .i64 0))]
def R37_23:List AOper:=[
 ⟨some 71,.bin .lss (.t 70) (.t 69),none⟩]
def T37_23:=hT R37_23 [] [71] 72 [] [(71,(.op (.bin .lss (.t 0) (.t 1)) [(.t 70),(.t 69)]))] [.sub 0 [] []]
def R37_24t3:List AOper:=[⟨none,.store 8 (.t 16) (.t 74),none⟩]
def R37_24p2:List AOper:=[⟨some 15,.move (.t 72),none⟩]
def R37_24t2:List AOper:=R37_24p2 ++ R37_24t3
def R37_24p1:List AOper:=[⟨some 16,.alloc [(.s (.int .u8 0)),(.s (.string ⟨#[]⟩)),(.s (.string ⟨#[]⟩)),(.s (.string ⟨#[]⟩)),(.s (.int .i64 0)),(.s (.string ⟨#[]⟩)),(.s (.slice none 0 0)),(.s (.slice none 0 0))],none⟩]
def R37_24t1:List AOper:=R37_24p1 ++ R37_24t2
def R37_24p0:List AOper:=[⟨some 72,.move (.t 70),none⟩,⟨some 73,.indexAddr 8 (.t 68) (.t 70),none⟩,⟨some 74,.load true 8 (.t 73),none⟩]
def R37_24:List AOper:=R37_24p0 ++ R37_24t1
def T37_24p0:=hT R37_24p0 [71,73] [72,74] 75 [] [(72,(.t 70)),(74,(.op (.load true 8 (.t 0)) [(.op (.indexAddr 8 (.t 0) (.t 1)) [(.t 68),(.t 70)])]))] [.tt 70,.sub 1 [0] [],.sub 1 [] []]
def X37_24:=hS R37_24 R37_24p0 R37_24t1 [71,73] [72,74] [71,72,73,74]
def X37_24t1:=hO R37_24t1 R37_24p1 R37_24t2 [] [71,72,73,74] [⟨some 16,.alloc [(.s (.int .u8 0)),(.s (.string ⟨#[]⟩)),(.s (.string ⟨#[]⟩)),(.s (.string ⟨#[]⟩)),(.s (.int .i64 0)),(.s (.string ⟨#[]⟩)),(.s (.slice none 0 0)),(.s (.slice none 0 0))],none⟩]
def T37_24p2:=hT R37_24p2 [72] [15] 16 [] [(15,(.t 72))] [.tt 72]
def X37_24t2:=hS R37_24t2 R37_24p2 R37_24t3 [72] [15] [71,72,73,74]
def X37_24t3:=hX R37_24t3 [71,72,73,74] [⟨none,.store 8 (.t 16) (.t 74),none⟩]
def R37_25t5:List AOper:=[⟨some 84,.call (.c (.fn 39 [] [])) [(.t 82),(.t 83)],none⟩]
def R37_25p4:List AOper:=[⟨some 83,.mkFn 61 [] [(.t 6)],none⟩]
def R37_25t4:List AOper:=R37_25p4 ++ R37_25t5
def R37_25p3:List AOper:=[⟨some 82,.append 1 16 (.t 79) (.t 81),none⟩]
def R37_25t3:List AOper:=R37_25p3 ++ R37_25t4
def R37_25p2:List AOper:=[⟨some 80,.fieldAddr 6 (.t 16),none⟩,⟨some 81,.load false 1 (.t 80),none⟩]
def R37_25t2:List AOper:=R37_25p2 ++ R37_25t3
def R37_25p1:List AOper:=[⟨some 79,.buildSl 1 2 [(.s (.string ⟨#[]⟩)),(.s (.string ⟨#[]⟩))] [(0,(.t 76)),(1,(.t 78))],none⟩]
def R37_25t1:List AOper:=R37_25p1 ++ R37_25t2
def R37_25p0:List AOper:=[⟨some 75,.fieldAddr 2 (.t 16),none⟩,⟨some 76,.load false 1 (.t 75),none⟩,⟨some 77,.fieldAddr 3 (.t 16),none⟩,⟨some 78,.load false 1 (.t 77),none⟩]
def R37_25:List AOper:=R37_25p0 ++ R37_25t1
def T37_25p0:=hT R37_25p0 [75,77] [76,78] 79 [] [(76,(.op (.load false 1 (.t 0)) [(.op (.fieldAddr 2 (.t 0)) [(.t 16)])])),(78,(.op (.load false 1 (.t 0)) [(.op (.fieldAddr 3 (.t 0)) [(.t 16)])]))] [.sub 0 [0] [],.sub 0 [] [],.sub 1 [0] [],.sub 1 [] []]
def X37_25:=hS R37_25 R37_25p0 R37_25t1 [75,77] [76,78] [16,75,76,77,78,79,80,81,82,83]
def X37_25t1:=hO R37_25t1 R37_25p1 R37_25t2 [76,78] [16,75,76,77,78,79,80,81,82,83] [⟨some 79,.buildSl 1 2 [(.s (.string ⟨#[]⟩)),(.s (.string ⟨#[]⟩))] [(0,(.t 76)),(1,(.t 78))],none⟩]
def T37_25p2:=hT R37_25p2 [16,80] [81] 82 [] [(81,(.op (.load false 1 (.t 0)) [(.op (.fieldAddr 6 (.t 0)) [(.t 16)])]))] [.sub 0 [0] [],.sub 0 [] []]
def X37_25t2:=hS R37_25t2 R37_25p2 R37_25t3 [16,80] [81] [16,75,76,77,78,79,80,81,82,83]
def X37_25t3:=hO R37_25t3 R37_25p3 R37_25t4 [79,81] [16,75,76,77,78,79,80,81,82,83] [⟨some 82,.append 1 16 (.t 79) (.t 81),none⟩]
def T37_25p4:=hT R37_25p4 [] [83] 84 [] [(83,(.op (.mkFn 61 [] [(.t 0)]) [(.t 6)]))] [.sub 0 [] []]
def X37_25t4:=hS R37_25t4 R37_25p4 R37_25t5 [] [83] [16,75,76,77,78,79,80,81,82,83]
def X37_25t5:=hX R37_25t5 [16,75,76,77,78,79,80,81,82,83] [⟨some 84,.call (.c (.fn 39 [] [])) [(.t 82),(.t 83)],none⟩]
def R37_26t2:List AOper:=[⟨some 3,.move (.c (.s (.bool true))),none⟩]
def R37_26p1:List AOper:=[⟨none,.store 3 (.t 2) (.t 88),none⟩]
def R37_26t1:List AOper:=R37_26p1 ++ R37_26t2
def R37_26p0:List AOper:=[⟨some 85,.move (.t 4),none⟩,⟨some 86,.move (.t 13),none⟩,⟨some 87,.move (.t 15),none⟩,⟨some 88,.build [(.s (.int .i64 0)),(.s (.int .i64 0)),(.s (.int .i64 0))] [(0,1),(1,1),(2,1)] [(0,(.t 85)),(1,(.t 86)),(2,(.t 87))],none⟩]
def R37_26:List AOper:=R37_26p0 ++ R37_26t1
def T37_26p0:=hT R37_26p0 [4,6,13,15,21,22,23,60,61,62,68,69,70,84,85,86,87] [88] 89 [] [(88,(.op (.build [(.s (.int .i64 0)),(.s (.int .i64 0)),(.s (.int .i64 0))] [(0,1),(1,1),(2,1)] [(0,(.t 0)),(1,(.t 1)),(2,(.t 2))]) [(.t 4),(.t 13),(.t 15)]))] [.tt 4,.tt 13,.tt 15,.sub 0 [] []]
def X37_26:=hS R37_26 R37_26p0 R37_26t1 [4,6,13,15,21,22,23,60,61,62,68,69,70,84,85,86,87] [88] [4,6,13,15,21,22,23,60,61,62,68,69,70,84,85,86,87,88]
def X37_26t1:=hO R37_26t1 R37_26p1 R37_26t2 [88] [4,6,13,15,21,22,23,60,61,62,68,69,70,84,85,86,87,88] [⟨none,.store 3 (.t 2) (.t 88),none⟩]
def T37_26t2:=hT R37_26t2 [4,6,13,15,21,22,23,60,61,62,68,69,70,84,85,86,87,88] [3] 4 [] [(3,(.c (.s (.bool true))))] [.cc (.s (.bool true))]
def X37_26t2:=hL R37_26t2 [4,6,13,15,21,22,23,60,61,62,68,69,70,84,85,86,87,88] [3]
def R37_27:List AOper:=[
 ⟨some 89,.bin .add (.t 70) (.c (.s (.int .i64 1))),none⟩,
 ⟨some 70,.move (.t 89),none⟩]
def T37_27:=hT R37_27 [15,84,89] [70] 90 [] [(70,(.op (.bin .add (.t 0) (.c (.s (.int .i64 1)))) [(.t 70),(.c (.s (.int .i64 1)))]))] [.sub 0 [] [],.sub 0 [] []]
def s_f37_l3_b:ACode:=
 (.seq (.regionE R37_23 [] [71])
 (.seq (.cond (.t 71)
 .skip
 (.exit 10))
 (.seq (.block 11
 (.seq (.region R37_24 [] [71,72,73,74])
 (.seq (.region R37_25 [] [16,75,76,77,78,79,80,81,82,83])
 (.cond (.t 84)
 (.seq (.region R37_26 [] [4,6,13,15,21,22,23,60,61,62,68,69,70,84,85,86,87,88])
 .ret)
 .skip))))
 (.regionE R37_27 [15,84,89] [70]))))
def s_f37_l3:ACode:=s_f37_l3_b
def s_f37_l3_ev:=hE s_f37_l3 s_f37_l3_b
def R37_28:List AOper:=[
 ⟨some 90,.bin .add (.t 62) (.c (.s (.int .i64 1))),none⟩,
 ⟨some 62,.move (.t 90),none⟩]
def T37_28:=hT R37_28 [13,68,69,70,71,90] [62] 91 [] [(62,(.op (.bin .add (.t 0) (.c (.s (.int .i64 1)))) [(.t 62),(.c (.s (.int .i64 1)))]))] [.sub 0 [] [],.sub 0 [] []]
def s_f37_l4_b:ACode:=
 (.seq (.regionE R37_20 [] [63])
 (.seq (.cond (.t 63)
 .skip
 (.exit 8))
 (.seq (.block 9
 (.seq (.region R37_21 [] [63,64,65,66])
 (.seq (.regionE R37_22 [14,67] [68,69,70])
 (.block 10
 (.loop [] s_f37_l3)))))
 (.regionE R37_28 [13,68,69,70,71,90] [62]))))
def s_f37_l4:ACode:=s_f37_l4_b
def s_f37_l4_ev:=hE s_f37_l4 s_f37_l4_b
def R37_29:List AOper:=[
 ⟨some 91,.bin .add (.t 23) (.c (.s (.int .i64 1))),none⟩,
 ⟨some 23,.move (.t 91),none⟩]
def T37_29:=hT R37_29 [4,6,60,61,62,63,91] [23] 92 [] [(23,(.op (.bin .add (.t 0) (.c (.s (.int .i64 1)))) [(.t 23),(.c (.s (.int .i64 1)))]))] [.sub 0 [] [],.sub 0 [] []]
def s_f37_l5_b:ACode:=
 (.seq (.regionE R37_2 [] [24])
 (.seq (.cond (.t 24)
 .skip
 (.exit 0))
 (.seq (.block 1
 (.seq (.region R37_3 [] [24,25,26,27])
 (.seq (.region R37_4 [] [28,29])
 (.seq (.seq (.regionE R37_5 [30] [31,32,33])
 (.block 2
 (.loop [] s_f37_l0)))
 (.seq (.seq (.regionE R37_10 [31,32,33,34,40] [41,42,43])
 (.block 4
 (.loop [] s_f37_l2)))
 (.seq (.regionE R37_19 [5,41,42,43,44,59] [60,61,62])
 (.block 8
 (.loop [] s_f37_l4))))))))
 (.regionE R37_29 [4,6,60,61,62,63,91] [23]))))
def s_f37_l5:ACode:=s_f37_l5_b
def s_f37_l5_ev:=hE s_f37_l5 s_f37_l5_b
def R37_30t2:List AOper:=[⟨some 3,.move (.c (.s (.bool false))),none⟩]
def R37_30p1:List AOper:=[⟨none,.store 3 (.t 2) (.t 92),none⟩]
def R37_30t1:List AOper:=R37_30p1 ++ R37_30t2
def R37_30p0:List AOper:=[⟨some 92,.build [(.s (.int .i64 0)),(.s (.int .i64 0)),(.s (.int .i64 0))] [(0,1),(1,1),(2,1)] [],none⟩]
def R37_30:List AOper:=R37_30p0 ++ R37_30t1
def T37_30p0:=hT R37_30p0 [21,22,23,24] [92] 93 [] [(92,(.op (.build [(.s (.int .i64 0)),(.s (.int .i64 0)),(.s (.int .i64 0))] [(0,1),(1,1),(2,1)] []) []))] [.sub 0 [] []]
def X37_30:=hS R37_30 R37_30p0 R37_30t1 [21,22,23,24] [92] [21,22,23,24,92]
def X37_30t1:=hO R37_30t1 R37_30p1 R37_30t2 [92] [21,22,23,24,92] [⟨none,.store 3 (.t 2) (.t 92),none⟩]
def T37_30t2:=hT R37_30t2 [21,22,23,24,92] [3] 4 [] [(3,(.c (.s (.bool false))))] [.cc (.s (.bool false))]
def X37_30t2:=hL R37_30t2 [21,22,23,24,92] [3]
def s_f37:ACFun:={ ntmps:=93,results:=[(.cell 2 true 3),(.tmp 3)],body:=
 (.seq (.region R37_0 [] K37_0)
 (.seq (.seq (.regionE R37_1 [0,17,18,19,20] [21,22,23])
 (.block 0
 (.loop [] s_f37_l5)))
 (.seq (.region R37_30 [] [21,22,23,24,92])
 .ret))) }
theorem s_f37_first:firstOk (List.range' 1 (s_f37.ntmps - 1)) s_f37.body=true:=by kernel_rfl
abbrev k_f9:Nat:=9
def a_f7:=ai @T7_0 (ai @s_f7_r0_kT (ai @s_f7_r0_kA0 (ai @T7_1 (ai @T7_2 (ai @T7_3 (ai @T7_4 (ai @T7_5 (ai @T7_6 (ai @T7_7 (ai @T7_8 (ai @T7_9 (ai @T7_10 (ai @s_f7_l0_ev (@T7_11))))))))))))))
def a_f10:=ai @A10_0p0_0 (ai @A10_0p0_1 (ai @A10_0p0_2 (ai @X10_0 (ai @T10_0t1 (ai @X10_0t1 (ai @A10_0_0 (ai @A10_0_1 (ai @A10_0_2 (ai @T10_1 (ai @T10_2 (ai @T10_3 (ai @T10_4 (ai @T10_5 (ai @T10_6p0 (ai @X10_6 (ai @X10_6t1 (ai @X10_6t2 (ai @T10_7p0 (ai @X10_7 (ai @X10_7t1 (ai @X10_7t2 (ai @X10_7t3 (ai @T10_7t4 (ai @X10_7t4 (ai @T10_8 (ai @T10_9 (ai @T10_10 (ai @T10_11 (ai @T10_12 (ai @T10_13 (ai @T10_14 (ai @T10_15 (ai @T10_16 (ai @T10_17p0 (ai @X10_17 (ai @X10_17t1 (ai @X10_17t2 (ai @T10_18p0 (ai @X10_18 (ai @X10_18t1 (ai @X10_18t2 (ai @X10_18t3 (ai @T10_18p4 (ai @X10_18t4 (ai @X10_18t5 (ai @X10_18t6 (ai @X10_18t7 (ai @T10_18t8 (ai @X10_18t8 (ai @T10_19 (ai @T10_20 (ai @s_f10_l0_ev (ai @T10_21 (ai @s_f10_l1_ev (ai @T10_22 (ai @s_f10_l2_ev (@T10_23)))))))))))))))))))))))))))))))))))))))))))))))))))))))))
def a_f20:=ai @T20_0 (ai @s_f20_r0_kT (ai @s_f20_r0_kA0 (ai @T20_1 (ai @T20_2 (ai @T20_3 (ai @T20_4 (ai @T20_5 (ai @s_f20_l0_ev (@T20_6)))))))))
def a_f21:=ai @T21_0 (ai @s_f21_r0_kT (ai @X21_1 (ai @T21_1p1 (ai @X21_1t1 (ai @X21_1t2 (ai @T21_1p3 (ai @X21_1t3 (ai @X21_1t4 (ai @T21_1p5 (ai @X21_1t5 (ai @X21_1t6 (ai @T21_1p7 (ai @X21_1t7 (ai @X21_1t8 (ai @T21_1p9 (ai @X21_1t9 (ai @X21_1t10 (ai @T21_1p11 (ai @X21_1t11 (ai @X21_1t12 (ai @T21_1p13 (ai @X21_1t13 (ai @X21_1t14 (ai @T21_1p15 (ai @X21_1t15 (ai @X21_1t16 (ai @T21_1p17 (ai @X21_1t17 (ai @X21_1t18 (ai @T21_1p19 (ai @X21_1t19 (ai @X21_1t20 (ai @T21_1p21 (ai @X21_1t21 (ai @X21_1t22 (ai @T21_1p23 (ai @X21_1t23 (ai @X21_1t24 (ai @T21_1p25 (ai @X21_1t25 (ai @X21_1t26 (ai @T21_1p27 (ai @X21_1t27 (ai @X21_1t28 (ai @T21_1t29 (@X21_1t29))))))))))))))))))))))))))))))))))))))))))))))
def a_f22:=ai @X22_0 (ai @T22_0t1 (ai @X22_0t1 (ai @A22_0_0 (ai @A22_0_2 (@A22_0_3)))))
def a_f24:=ai @X24_0 (ai @T24_0t1 (ai @X24_0t1 (ai @A24_0_0 (ai @A24_0_2 (ai @A24_0_3 (ai @X24_1 (ai @X24_1t1 (ai @X24_1t2 (ai @T24_2p0 (ai @X24_2 (ai @X24_2t1 (ai @T24_2p2 (ai @X24_2t2 (ai @X24_2t3 (ai @T24_2t4 (@X24_2t4))))))))))))))))
def a_f25:=ai @X25_0 (ai @T25_0t1 (ai @X25_0t1 (ai @A25_0_0 (ai @A25_0_2 (ai @A25_0_3 (ai @T25_1p0 (ai @X25_1 (ai @X25_1t1 (ai @T25_1t2 (ai @X25_1t2 (ai @T25_2 (ai @T25_3p0 (ai @X25_3 (ai @X25_3t1 (ai @T25_3t2 (ai @X25_3t2 (ai @T25_4 (ai @T25_5p0 (ai @X25_5 (ai @X25_5t1 (ai @T25_5t2 (ai @X25_5t2 (ai @T25_6p0 (ai @X25_6 (ai @X25_6t1 (ai @T25_6t2 (@X25_6t2)))))))))))))))))))))))))))
def a_f26:=ai @A26_0p0_0 (ai @A26_0p0_2 (ai @A26_0p0_3 (ai @X26_0 (ai @T26_0t1 (ai @X26_0t1 (ai @A26_0_0 (ai @A26_0_2 (ai @A26_0_3 (ai @T26_1 (ai @T26_2 (ai @T26_3p0 (ai @X26_3 (ai @X26_3t1 (ai @T26_3p2 (ai @X26_3t2 (ai @X26_3t3 (ai @T26_4 (ai @T26_5p0 (ai @X26_5 (ai @X26_5t1 (ai @T26_5t2 (ai @X26_5t2 (ai @T26_6 (ai @T26_7 (ai @T26_8p0 (ai @X26_8 (ai @X26_8t1 (ai @T26_8p2 (ai @X26_8t2 (ai @X26_8t3 (ai @T26_9 (ai @T26_10 (ai @T26_11p0 (ai @X26_11 (ai @X26_11t1 (ai @T26_11p2 (ai @X26_11t2 (ai @X26_11t3 (ai @T26_12p0 (ai @X26_12 (ai @X26_12t1 (ai @T26_12t2 (ai @X26_12t2 (ai @T26_13p0 (ai @X26_13 (ai @X26_13t1 (ai @T26_13t2 (ai @X26_13t2 (ai @T26_14 (ai @s_f26_l0_ev (ai @T26_15 (ai @s_f26_l1_ev (ai @T26_16 (ai @s_f26_l2_ev (ai @T26_17p0 (ai @X26_17 (ai @X26_17t1 (ai @T26_17t2 (@X26_17t2)))))))))))))))))))))))))))))))))))))))))))))))))))))))))))
def a_f27:=ai @X27_0 (ai @T27_0t1 (ai @X27_0t1 (ai @A27_0_0 (ai @A27_0_2 (ai @A27_0_3 (ai @T27_1p0 (ai @X27_1 (ai @X27_1t1 (ai @T27_1p2 (ai @X27_1t2 (ai @X27_1t3 (ai @T27_1t4 (@X27_1t4)))))))))))))
def a_f28:=ai @X28_0 (ai @T28_0t1 (ai @X28_0t1 (ai @A28_0_0 (ai @A28_0_2 (ai @A28_0_3 (ai @T28_1 (ai @T28_2 (ai @T28_3p0 (ai @X28_3 (ai @X28_3t1 (ai @T28_3p2 (ai @X28_3t2 (ai @X28_3t3 (ai @X28_4 (ai @T28_4t1 (ai @X28_4t1 (ai @T28_5 (ai @T28_6 (ai @T28_7p0 (ai @X28_7 (ai @X28_7t1 (ai @T28_7p2 (ai @X28_7t2 (ai @X28_7t3 (ai @T28_8 (ai @T28_9p0 (ai @X28_9 (ai @X28_9t1 (ai @T28_9t2 (ai @X28_9t2 (ai @T28_10p0 (ai @X28_10 (ai @X28_10t1 (ai @T28_11 (ai @s_f28_l0_ev (ai @T28_12 (ai @s_f28_l1_ev (ai @T28_13p0 (ai @X28_13 (ai @X28_13t1 (ai @T28_13t2 (@X28_13t2))))))))))))))))))))))))))))))))))))))))))
def a_f29:=ai @X29_0 (ai @T29_0t1 (ai @X29_0t1 (ai @A29_0_0 (ai @A29_0_2 (ai @A29_0_3 (ai @X29_1 (ai @X29_1t1 (ai @T29_2p0 (ai @X29_2 (ai @X29_2t1 (ai @T29_2p2 (ai @X29_2t2 (ai @X29_2t3 (ai @T29_2t4 (@X29_2t4)))))))))))))))
def a_f31:=ai @A31_0p0_0 (ai @A31_0p0_2 (ai @A31_0p0_3 (ai @X31_0 (ai @T31_0t1 (ai @X31_0t1 (ai @A31_0_0 (ai @A31_0_2 (ai @A31_0_3 (ai @T31_1 (ai @T31_2 (ai @T31_3p0 (ai @X31_3 (ai @X31_3t1 (ai @T31_3p2 (ai @X31_3t2 (ai @X31_3t3 (ai @T31_4 (ai @T31_5 (ai @T31_6p0 (ai @X31_6 (ai @X31_6t1 (ai @T31_6p2 (ai @X31_6t2 (ai @X31_6t3 (ai @T31_7 (ai @T31_8p0 (ai @X31_8 (ai @X31_8t1 (ai @T31_8t2 (ai @X31_8t2 (ai @T31_9 (ai @T31_10 (ai @T31_11p0 (ai @X31_11 (ai @X31_11t1 (ai @T31_11p2 (ai @X31_11t2 (ai @X31_11t3 (ai @T31_12p0 (ai @X31_12 (ai @X31_12t1 (ai @T31_12t2 (ai @X31_12t2 (ai @T31_13p0 (ai @X31_13 (ai @X31_13t1 (ai @T31_13t2 (ai @X31_13t2 (ai @T31_14 (ai @s_f31_l0_ev (ai @T31_15 (ai @s_f31_l1_ev (ai @T31_16 (ai @s_f31_l2_ev (ai @T31_17p0 (ai @X31_17 (ai @X31_17t1 (ai @T31_17t2 (@X31_17t2)))))))))))))))))))))))))))))))))))))))))))))))))))))))))))
def a_f32:=ai @X32_0 (ai @X32_0t1 (ai @T32_0t2 (ai @X32_0t2 (ai @A32_0_0 (ai @A32_0_1 (ai @A32_0_2 (ai @A32_0_3 (ai @T32_1p0 (ai @X32_1 (ai @X32_1t1 (ai @T32_1p2 (ai @X32_1t2 (ai @X32_1t3 (ai @T32_1t4 (@X32_1t4)))))))))))))))
def a_f33:=ai @X33_0 (ai @X33_0t1 (ai @T33_0t2 (ai @X33_0t2 (ai @A33_0_0 (ai @A33_0_1 (ai @A33_0_2 (ai @A33_0_3 (ai @T33_1p0 (ai @X33_1 (ai @X33_1t1 (ai @T33_1p2 (ai @X33_1t2 (ai @X33_1t3 (ai @T33_1t4 (@X33_1t4)))))))))))))))
def a_f34:=ai @X34_0 (ai @X34_0t1 (ai @T34_0t2 (ai @X34_0t2 (ai @A34_0_0 (ai @A34_0_1 (ai @A34_0_2 (ai @A34_0_3 (ai @T34_1p0 (ai @X34_1 (ai @X34_1t1 (ai @T34_1p2 (ai @X34_1t2 (ai @X34_1t3 (ai @T34_1t4 (@X34_1t4)))))))))))))))
def a_f35:=ai @X35_0 (ai @X35_0t1 (ai @T35_0t2 (ai @X35_0t2 (ai @A35_0_0 (ai @A35_0_1 (ai @A35_0_2 (ai @A35_0_3 (ai @T35_1p0 (ai @X35_1 (ai @X35_1t1 (ai @T35_1p2 (ai @X35_1t2 (ai @X35_1t3 (ai @T35_1t4 (@X35_1t4)))))))))))))))
def a_f36:=ai @A36_0p0_0 (ai @A36_0p0_2 (ai @A36_0p0_3 (ai @X36_0 (ai @T36_0t1 (ai @X36_0t1 (ai @A36_0_0 (ai @A36_0_2 (ai @A36_0_3 (ai @T36_1 (ai @T36_2 (ai @T36_3p0 (ai @X36_3 (ai @X36_3t1 (ai @T36_3p2 (ai @X36_3t2 (ai @X36_3t3 (ai @X36_4 (ai @T36_4t1 (ai @X36_4t1 (ai @T36_5 (ai @T36_6 (ai @T36_7 (ai @T36_8 (ai @T36_9p0 (ai @X36_9 (ai @X36_9t1 (ai @T36_9t2 (ai @X36_9t2 (ai @T36_10p0 (ai @X36_10 (ai @X36_10t1 (ai @T36_11 (ai @s_f36_l0_ev (ai @T36_12 (ai @T36_13 (ai @T36_14p0 (ai @X36_14 (ai @X36_14t1 (ai @T36_14p2 (ai @X36_14t2 (ai @X36_14t3 (ai @T36_15 (ai @T36_16 (ai @T36_17p0 (ai @X36_17 (ai @X36_17t1 (ai @T36_17p2 (ai @X36_17t2 (ai @X36_17t3 (ai @T36_18 (ai @T36_19p0 (ai @X36_19 (ai @X36_19t1 (ai @T36_19t2 (ai @X36_19t2 (ai @T36_20p0 (ai @X36_20 (ai @X36_20t1 (ai @T36_21 (ai @s_f36_l1_ev (ai @T36_22 (ai @s_f36_l2_ev (ai @T36_23 (ai @s_f36_l3_ev (ai @T36_24p0 (ai @X36_24 (ai @X36_24t1 (ai @T36_24t2 (@X36_24t2)))))))))))))))))))))))))))))))))))))))))))))))))))))))))))))))))))))
def a_f37:=ai @A37_0p0_0 (ai @A37_0p0_2 (ai @A37_0p0_3 (ai @X37_0 (ai @T37_0t1 (ai @X37_0t1 (ai @A37_0_0 (ai @A37_0_2 (ai @A37_0_3 (ai @T37_1 (ai @T37_2 (ai @T37_3p0 (ai @X37_3 (ai @X37_3t1 (ai @T37_3p2 (ai @X37_3t2 (ai @X37_3t3 (ai @X37_4 (ai @X37_4t1 (ai @X37_4t2 (ai @T37_4p3 (ai @X37_4t3 (ai @X37_4t4 (ai @X37_4t5 (ai @T37_5 (ai @T37_6 (ai @T37_7 (ai @T37_8p0 (ai @X37_8 (ai @X37_8t1 (ai @T37_9 (ai @s_f37_l0_ev (ai @T37_10 (ai @T37_11 (ai @T37_12p0 (ai @X37_12 (ai @X37_12t1 (ai @X37_12t2 (ai @T37_13 (ai @T37_14 (ai @T37_15p0 (ai @X37_15 (ai @X37_15t1 (ai @X37_15t2 (ai @T37_16p0 (ai @X37_16 (ai @X37_16t1 (ai @T37_17 (ai @s_f37_l1_ev (ai @T37_18 (ai @s_f37_l2_ev (ai @T37_19 (ai @T37_20 (ai @T37_21p0 (ai @X37_21 (ai @X37_21t1 (ai @T37_21p2 (ai @X37_21t2 (ai @X37_21t3 (ai @T37_22 (ai @T37_23 (ai @T37_24p0 (ai @X37_24 (ai @X37_24t1 (ai @T37_24p2 (ai @X37_24t2 (ai @X37_24t3 (ai @T37_25p0 (ai @X37_25 (ai @X37_25t1 (ai @T37_25p2 (ai @X37_25t2 (ai @X37_25t3 (ai @T37_25p4 (ai @X37_25t4 (ai @X37_25t5 (ai @T37_26p0 (ai @X37_26 (ai @X37_26t1 (ai @T37_26t2 (ai @X37_26t2 (ai @T37_27 (ai @s_f37_l3_ev (ai @T37_28 (ai @s_f37_l4_ev (ai @T37_29 (ai @s_f37_l5_ev (ai @T37_30p0 (ai @X37_30 (ai @X37_30t1 (ai @T37_30t2 (@X37_30t2)))))))))))))))))))))))))))))))))))))))))))))))))))))))))))))))))))))))))))))))))))))))))))
theorem NA1_7:compK Try.prog PX0 7=some (false,s_f7.ntmps,s_f7.results,s_f7.body.bare):=by kernel_rfl
theorem NA1_10:compK Try.prog PX0 10=some (false,s_f10.ntmps,s_f10.results,s_f10.body.bare):=by kernel_rfl
theorem NA1_20:compK Try.prog PX0 20=some (false,s_f20.ntmps,s_f20.results,s_f20.body.bare):=by kernel_rfl
theorem NA1_21:compK Try.prog PX0 21=some (false,s_f21.ntmps,s_f21.results,s_f21.body.bare):=by kernel_rfl
theorem NA1_22:compK Try.prog PX0 22=some (false,s_f22.ntmps,s_f22.results,s_f22.body.bare):=by kernel_rfl
theorem NA1_24:compK Try.prog PX0 24=some (false,s_f24.ntmps,s_f24.results,s_f24.body.bare):=by kernel_rfl
theorem NA1_25:compK Try.prog PX0 25=some (false,s_f25.ntmps,s_f25.results,s_f25.body.bare):=by kernel_rfl
theorem NA1_26:compK Try.prog PX0 26=some (false,s_f26.ntmps,s_f26.results,s_f26.body.bare):=by kernel_rfl
theorem NA1_27:compK Try.prog PX0 27=some (false,s_f27.ntmps,s_f27.results,s_f27.body.bare):=by kernel_rfl
theorem NA1_28:compK Try.prog PX0 28=some (false,s_f28.ntmps,s_f28.results,s_f28.body.bare):=by kernel_rfl
theorem NA1_29:compK Try.prog PX0 29=some (false,s_f29.ntmps,s_f29.results,s_f29.body.bare):=by kernel_rfl
theorem NA1_31:compK Try.prog PX0 31=some (false,s_f31.ntmps,s_f31.results,s_f31.body.bare):=by kernel_rfl
theorem NA1_32:compK Try.prog PX0 32=some (false,s_f32.ntmps,s_f32.results,s_f32.body.bare):=by kernel_rfl
theorem NA1_33:compK Try.prog PX0 33=some (false,s_f33.ntmps,s_f33.results,s_f33.body.bare):=by kernel_rfl
theorem NA1_34:compK Try.prog PX0 34=some (false,s_f34.ntmps,s_f34.results,s_f34.body.bare):=by kernel_rfl
theorem NA1_35:compK Try.prog PX0 35=some (false,s_f35.ntmps,s_f35.results,s_f35.body.bare):=by kernel_rfl
theorem NA1_36:compK Try.prog PX0 36=some (false,s_f36.ntmps,s_f36.results,s_f36.body.bare):=by kernel_rfl
theorem NA1_37:compK Try.prog PX0 37=some (false,s_f37.ntmps,s_f37.results,s_f37.body.bare):=by kernel_rfl
end Go.Proofs.YtamlbkalopefgaaR
