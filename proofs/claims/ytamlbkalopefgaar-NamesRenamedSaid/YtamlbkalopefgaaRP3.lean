/- Texts of the proof: NmS1, NmS2. -/
import Derived.Test.YtamlbkalopefgaaRP0
import Derived.Test.YtamlbkalopefgaaRP1
import Derived.Test.YtamlbkalopefgaaRP2
import Derived.KernelRfl
import Derived.Test.YtamlbkalopefgaaRProg
set_option linter.all false
set_option maxRecDepth 100000
namespace Go.Proofs.YtamlbkalopefgaaR
open Go.AM
abbrev k_f7:Nat:=7
def K7_0:List Nat:=List.range' 1 61
theorem s_f7_r0_kT:killV K7_0 (startV 62 [] 1)=[]:=by kernel_rfl
def s_f7_r0_kA0:=hK K7_0 0
def R7_0:LO:=[⟨some 2,.move (.c (.s (.bool false))),none⟩]
def T7_0:=hT R7_0 K7_0 [] 3 [] [] [.cc (.s (.bool false))]
def R7_1:LO:=[oM 6 0,⟨some 7,.bin .eql (.t 6) (.c (.s (.string ⟨#[]⟩))),none⟩,oM 8 7,gM 9 0 8 false,⟨some 10,.lenS .p (.t 9),some (8,false)⟩,⟨some 11,.bin .gtr (.t 10) (.c (.s (.int .i64 64))),some (8,false)⟩,⟨some 12,.pick (.t 8) (.c (.s (.bool true))) (.t 11),none⟩,oM 13 12,gM 14 0 13 false,⟨some 15,.bin .eql (.t 14) (.c (.s (.string ⟨#[110,117,108,108]⟩))),some (13,false)⟩,⟨some 16,.pick (.t 13) (.c (.s (.bool true))) (.t 15),none⟩]
def T7_1:=hT R7_1 [6,7,8,9,10,11,12,13,14,15] [16] 17 [] [(16,.pick (.pick (.op (.bin .eql (.t 0) (.c (.s (.string ⟨#[]⟩)))) [.t 0,.c (.s (.string ⟨#[]⟩))]) (.c (.s (.bool true))) (.op (.bin .gtr (.t 0) (.c (.s (.int .i64 64)))) [.op (.lenS .p (.t 0)) [.t 0],.c (.s (.int .i64 64))])) (.c (.s (.bool true))) (.op (.bin .eql (.t 0) (.c (.s (.string ⟨#[110,117,108,108]⟩)))) [.t 0,.c (.s (.string ⟨#[110,117,108,108]⟩))]))] [.tt 0,sb [0,0],sb [0,0],.sub 0 [0,2,0,0] [8],.sub 0 [0,2,0] [8],.sub 0 [0,2] [8],sb [0],sb [0],.sub 0 [2,0] [13],.sub 0 [2] [13],sb []]
def R7_2:LO:=[⟨some 2,.move (.c (.s (.bool false))),none⟩]
def T7_2:=hT R7_2 [0,16] [2] 3 [] [(2,.c (.s (.bool false)))] [.cc (.s (.bool false))]
def R7_3:LO:=[oM 17 0,⟨some 18,.lenS .p (.t 17),none⟩,⟨some 19,.move (.c (.s (.int .i64 0))),none⟩]
def T7_3:=hT R7_3 [16,17] [18,19] 20 [] [(18,.op (.lenS .p (.t 0)) [.t 0]),(19,.c (.s (.int .i64 0)))] [.tt 0,sb [],.cc (.s (.int .i64 0))]
def R7_4:LO:=[⟨some 20,.bin .lss (.t 19) (.t 18),none⟩]
def T7_4:=hT R7_4 [] [20] 21 [] [(20,.op (.bin .lss (.t 0) (.t 1)) [.t 19,.t 18])] [sb []]
def R7_5:LO:=[oM 21 19,oM 3 21]
def T7_5:=hT R7_5 [20,21] [3] 22 [] [(3,.t 19)] [.tt 19,.tt 19]
def R7_6:LO:=[oM 22 0,oM 23 3,⟨some 24,.indexStr (.t 22) (.t 23),none⟩,oM 4 24]
def T7_6:=hT R7_6 [22,23,24] [4] 25 [] [(4,.op (.indexStr (.t 0) (.t 1)) [.t 0,.t 3])] [.tt 0,.tt 3,sb [],sb []]
def R7_7:LO:=[oM 25 4,⟨some 26,.bin .geq (.t 25) (.c (.s (.int .u8 97))),none⟩,oM 27 26,gM 28 4 27 true,⟨some 29,.bin .leq (.t 28) (.c (.s (.int .u8 122))),some (27,true)⟩,⟨some 30,.pick (.t 27) (.t 29) (.c (.s (.bool false))),none⟩,oM 31 30,gM 32 4 31 false,⟨some 33,.bin .geq (.t 32) (.c (.s (.int .u8 65))),some (31,false)⟩,gM 34 33 31 false,gM 35 4 34 true,⟨some 36,.bin .leq (.t 35) (.c (.s (.int .u8 90))),some (34,true)⟩,⟨some 37,.pick (.t 34) (.t 36) (.c (.s (.bool false))),some (31,false)⟩,⟨some 38,.pick (.t 31) (.c (.s (.bool true))) (.t 37),none⟩,oM 39 38,gM 40 4 39 false,⟨some 41,.bin .eql (.t 40) (.c (.s (.int .u8 95))),some (39,false)⟩,⟨some 42,.pick (.t 39) (.c (.s (.bool true))) (.t 41),none⟩,oM 5 42]
def T7_7:=hT R7_7 [25,26,27,28,29,30,31,32,33,34,35,36,37,38,39,40,41,42] [5] 43 [] [(5,.pick (.pick (.pick (.op (.bin .geq (.t 0) (.c (.s (.int .u8 97)))) [.t 4,.c (.s (.int .u8 97))]) (.op (.bin .leq (.t 0) (.c (.s (.int .u8 122)))) [.t 4,.c (.s (.int .u8 122))]) (.c (.s (.bool false)))) (.c (.s (.bool true))) (.pick (.op (.bin .geq (.t 0) (.c (.s (.int .u8 65)))) [.t 4,.c (.s (.int .u8 65))]) (.op (.bin .leq (.t 0) (.c (.s (.int .u8 90)))) [.t 4,.c (.s (.int .u8 90))]) (.c (.s (.bool false))))) (.c (.s (.bool true))) (.op (.bin .eql (.t 0) (.c (.s (.int .u8 95)))) [.t 4,.c (.s (.int .u8 95))]))] [.tt 4,sb [0,0,0],sb [0,0,0],.sub 0 [0,0,1,0] [27],.sub 0 [0,0,1] [27],sb [0,0],sb [0,0],.sub 0 [0,2,0,0] [31],.sub 0 [0,2,0] [31],.sub 0 [0,2,0] [31],.sub 0 [0,2,1,0] [31,34],.sub 0 [0,2,1] [31,34],.sub 0 [0,2] [31],sb [0],sb [0],.sub 0 [2,0] [39],.sub 0 [2] [39],sb [],sb []]
def R7_8:LO:=[oM 43 5,⟨some 44,.un .not (.t 43),none⟩,oM 45 44,gM 46 3 45 true,⟨some 47,.bin .eql (.t 46) (.c (.s (.int .i64 0))),some (45,true)⟩,gM 48 47 45 true,gM 49 4 48 false,⟨some 50,.bin .lss (.t 49) (.c (.s (.int .u8 48))),some (48,false)⟩,gM 51 50 48 false,gM 52 4 51 false,⟨some 53,.bin .gtr (.t 52) (.c (.s (.int .u8 57))),some (51,false)⟩,⟨some 54,.pick (.t 51) (.c (.s (.bool true))) (.t 53),some (48,false)⟩,gM 55 54 48 false,gM 56 4 55 true,⟨some 57,.bin .neq (.t 56) (.c (.s (.int .u8 46))),some (55,true)⟩,⟨some 58,.pick (.t 55) (.t 57) (.c (.s (.bool false))),some (48,false)⟩,⟨some 59,.pick (.t 48) (.c (.s (.bool true))) (.t 58),some (45,true)⟩,⟨some 60,.pick (.t 45) (.t 59) (.c (.s (.bool false))),none⟩]
def T7_8:=hT R7_8 [3,4,5,43,44,45,46,47,48,49,50,51,52,53,54,55,56,57,58,59] [60] 61 [] [(60,.pick (.op (.un .not (.t 0)) [.t 5]) (.pick (.op (.bin .eql (.t 0) (.c (.s (.int .i64 0)))) [.t 3,.c (.s (.int .i64 0))]) (.c (.s (.bool true))) (.pick (.pick (.op (.bin .lss (.t 0) (.c (.s (.int .u8 48)))) [.t 4,.c (.s (.int .u8 48))]) (.c (.s (.bool true))) (.op (.bin .gtr (.t 0) (.c (.s (.int .u8 57)))) [.t 4,.c (.s (.int .u8 57))])) (.op (.bin .neq (.t 0) (.c (.s (.int .u8 46)))) [.t 4,.c (.s (.int .u8 46))]) (.c (.s (.bool false))))) (.c (.s (.bool false))))] [.tt 5,sb [0],sb [0],.sub 0 [1,0,0] [45],.sub 0 [1,0] [45],.sub 0 [1,0] [45],.sub 0 [1,2,0,0,0] [45,48],.sub 0 [1,2,0,0] [45,48],.sub 0 [1,2,0,0] [45,48],.sub 0 [1,2,0,2,0] [45,48,51],.sub 0 [1,2,0,2] [45,48,51],.sub 0 [1,2,0] [45,48],.sub 0 [1,2,0] [45,48],.sub 0 [1,2,1,0] [45,48,55],.sub 0 [1,2,1] [45,48,55],.sub 0 [1,2] [45,48],.sub 0 [1] [45],sb []]
def R7_9:LO:=[⟨some 2,.move (.c (.s (.bool false))),none⟩]
def T7_9:=hT R7_9 [0,18,19,60] [2] 3 [] [(2,.c (.s (.bool false)))] [.cc (.s (.bool false))]
def R7_10:LO:=[⟨some 61,.bin .add (.t 19) (.c (.s (.int .i64 1))),none⟩,oM 19 61]
def T7_10:=hT R7_10 [60,61] [19] 62 [] [(19,.op (.bin .add (.t 0) (.c (.s (.int .i64 1)))) [.t 19,.c (.s (.int .i64 1))])] [sb [],sb []]
def s_f7_l0_b:ACode:=
 (.seq (.regionE R7_4 [] [20])
 (.seq (.cond (.t 20)
 .skip
 (.exit 0))
 (.seq (.block 1
 (.seq (.regionE R7_5 [20,21] [3])
 (.seq (.regionE R7_6 [22,23,24] [4])
 (.seq (.regionE R7_7 [25,26,27,28,29,30,31,32,33,34,35,36,37,38,39,40,41,42] [5])
 (.seq (.regionE R7_8 [3,4,5,43,44,45,46,47,48,49,50,51,52,53,54,55,56,57,58,59] [60])
 (.cond (.t 60)
 (.seq (.regionE R7_9 [0,18,19,60] [2])
 .ret)
 .skip))))))
 (.regionE R7_10 [60,61] [19]))))
def s_f7_l0:ACode:=s_f7_l0_b
def s_f7_l0_ev:=hE s_f7_l0 s_f7_l0_b
def R7_11:LO:=[⟨some 2,.move (.c (.s (.bool true))),none⟩]
def T7_11:=hT R7_11 [0,18,19,20] [2] 3 [] [(2,.c (.s (.bool true)))] [.cc (.s (.bool true))]
def s_f7:ACFun:={ ntmps:=62,results:=[.tmp 2],body:=
 (.seq (.regionE R7_0 K7_0 [])
 (.seq (.seq (.regionE R7_1 [6,7,8,9,10,11,12,13,14,15] [16])
 (.cond (.t 16)
 (.seq (.regionE R7_2 [0,16] [2])
 .ret)
 .skip))
 (.seq (.seq (.regionE R7_3 [16,17] [18,19])
 (.block 0
 (.loop [] s_f7_l0)))
 (.seq (.regionE R7_11 [0,18,19,20] [2])
 .ret)))) }
abbrev k_f10:Nat:=10
def K10_0:List Nat:=[0] ++ List.range' 2 131
def A10_0_0:=hQ K10_0 0
def A10_0_1:=hK K10_0 1
def A10_0_2:=hQ K10_0 2
def R10_0t1:LO:=[⟨some 2,.move (.c (.s (.bool false))),none⟩]
def R10_0p0:LO:=[⟨some 1,.box (.t 0),none⟩]
def R10_0:LO:=R10_0p0 ++ R10_0t1
def K10_0p0:List Nat:=[0] ++ List.range' 2 131
def A10_0p0_0:=hQ K10_0p0 0
def A10_0p0_1:=hK K10_0p0 1
def A10_0p0_2:=hQ K10_0p0 2
theorem X10_0 (call:CallF) (it:IterF) (base:Nat) (f:List V) (H:Heap):evC call it base (.region R10_0 [] K10_0) f H=thenC call it base (.region R10_0t1 [] K10_0) (opsC [] R10_0p0 K10_0p0 (evOps call base [⟨some 1,.box (.t 0),none⟩] f H)):=(row_op call it base R10_0p0 R10_0t1 (kc:=K10_0p0) (by kernel_rfl) f H).trans (by rw [row_ops];rfl)
def T10_0t1:=hT R10_0t1 K10_0 [] 3 [] [] [.cc (.s (.bool false))]
def X10_0t1:=hL R10_0t1 K10_0 []
def R10_1:LO:=[oF 10 0 1,oL 11 10,⟨some 12,.lenS .s (.t 11),none⟩,⟨some 13,.bin .gtr (.t 12) (.c (.s (.int .i64 70))),none⟩]
def T10_1:=hT R10_1 [10,11,12] [13] 14 [] [(13,.op (.bin .gtr (.t 0) (.c (.s (.int .i64 70)))) [.op (.lenS .s (.t 0)) [.op (.load false 1 (.t 0)) [.op (.fieldAddr 0 (.t 0)) [.t 1]]],.c (.s (.int .i64 70))])] [sb [0,0,0],sb [0,0],sb [0],sb []]
def R10_2:LO:=[⟨some 2,.move (.c (.s (.bool true))),none⟩]
def T10_2:=hT R10_2 [1,13] [2] 3 [] [(2,.c (.s (.bool true)))] [.cc (.s (.bool true))]
def R10_3:LO:=[⟨some 3,.move (.c (.s (.int .i64 0))),none⟩]
def T10_3:=hT R10_3 [13] [3] 4 [] [(3,.c (.s (.int .i64 0)))] [.cc (.s (.int .i64 0))]
def R10_4:LO:=[⟨some 4,.move (.c (.s (.int .i64 0))),none⟩]
def T10_4:=hT R10_4 [] [4] 5 [] [(4,.c (.s (.int .i64 0)))] [.cc (.s (.int .i64 0))]
def R10_5:LO:=[oM 14 4,oF 15 0 1,oL 16 15,⟨some 17,.lenS .s (.t 16),none⟩,⟨some 18,.bin .lss (.t 14) (.t 17),none⟩]
def T10_5:=hT R10_5 [14,15,16,17] [18] 19 [] [(18,.op (.bin .lss (.t 0) (.t 1)) [.t 4,.op (.lenS .s (.t 0)) [.op (.load false 1 (.t 0)) [.op (.fieldAddr 0 (.t 0)) [.t 1]]]])] [.tt 4,sb [1,0,0],sb [1,0],sb [1],sb []]
def R10_6t2:LO:=[⟨none,.store 3 (.t 5) (.t 25),none⟩]
def R10_6t1:LO:=⟨some 5,.alloc [.s (.string ⟨#[]⟩),.s (.slice none 0 0),.s (.slice none 0 0)],none⟩ :: R10_6t2
def R10_6p0:LO:=[oF 21 0 1,oL 22 21,oM 23 4,⟨some 24,.indexAddr 3 (.t 22) (.t 23),none⟩,⟨some 25,.load true 3 (.t 24),none⟩]
def R10_6:LO:=R10_6p0 ++ R10_6t1
def T10_6p0:=hT R10_6p0 [18,21,22,23,24] [25] 26 [] [(25,.op (.load true 3 (.t 0)) [.op (.indexAddr 3 (.t 0) (.t 1)) [.op (.load false 1 (.t 0)) [.op (.fieldAddr 0 (.t 0)) [.t 1]],.t 4]])] [sb [0,0,0],sb [0,0],.tt 4,sb [0],sb []]
def X10_6:=hS R10_6 R10_6p0 R10_6t1 [18,21,22,23,24] [25] [18,21,22,23,24,25]
def X10_6t1:=hP R10_6t1 R10_6t2 [] [18,21,22,23,24,25] ⟨some 5,.alloc [.s (.string ⟨#[]⟩),.s (.slice none 0 0),.s (.slice none 0 0)],none⟩
def X10_6t2:=hX R10_6t2 [18,21,22,23,24,25] [⟨none,.store 3 (.t 5) (.t 25),none⟩]
def R10_7t4:LO:=[⟨some 46,.pick (.t 42) (.c (.s (.bool true))) (.t 45),none⟩]
def R10_7t3:LO:=⟨some 45,.call (.c (.fn 20 [] [])) [.t 44],some (42,false)⟩ :: R10_7t4
def R10_7t2:LO:=gL 44 43 42 false :: R10_7t3
def R10_7t1:LO:=gF 43 1 5 42 false :: R10_7t2
def R10_7p0:LO:=[oF 26 0 5,oL 27 26,⟨some 28,.lenS .p (.t 27),none⟩,⟨some 29,.bin .gtr (.t 28) (.c (.s (.int .i64 200))),none⟩,oM 30 29,gF 31 1 5 30 false,gL 32 31 30 false,⟨some 33,.lenS .s (.t 32),some (30,false)⟩,⟨some 34,.bin .gtr (.t 33) (.c (.s (.int .i64 20))),some (30,false)⟩,⟨some 35,.pick (.t 30) (.c (.s (.bool true))) (.t 34),none⟩,oM 36 35,gF 37 2 5 36 false,gL 38 37 36 false,⟨some 39,.lenS .s (.t 38),some (36,false)⟩,⟨some 40,.bin .gtr (.t 39) (.c (.s (.int .i64 70))),some (36,false)⟩,⟨some 41,.pick (.t 36) (.c (.s (.bool true))) (.t 40),none⟩,oM 42 41]
def R10_7:LO:=R10_7p0 ++ R10_7t1
def T10_7p0:=hT R10_7p0 [26,27,28,29,30,31,32,33,34,35,36,37,38,39,40,41] [42] 43 [] [(42,.pick (.pick (.op (.bin .gtr (.t 0) (.c (.s (.int .i64 200)))) [.op (.lenS .p (.t 0)) [.op (.load false 1 (.t 0)) [.op (.fieldAddr 0 (.t 0)) [.t 5]]],.c (.s (.int .i64 200))]) (.c (.s (.bool true))) (.op (.bin .gtr (.t 0) (.c (.s (.int .i64 20)))) [.op (.lenS .s (.t 0)) [.op (.load false 1 (.t 0)) [.op (.fieldAddr 1 (.t 0)) [.t 5]]],.c (.s (.int .i64 20))])) (.c (.s (.bool true))) (.op (.bin .gtr (.t 0) (.c (.s (.int .i64 70)))) [.op (.lenS .s (.t 0)) [.op (.load false 1 (.t 0)) [.op (.fieldAddr 2 (.t 0)) [.t 5]]],.c (.s (.int .i64 70))]))] [sb [0,0,0,0,0],sb [0,0,0,0],sb [0,0,0],sb [0,0],sb [0,0],.sub 0 [0,2,0,0,0] [30],.sub 0 [0,2,0,0] [30],.sub 0 [0,2,0] [30],.sub 0 [0,2] [30],sb [0],sb [0],.sub 0 [2,0,0,0] [36],.sub 0 [2,0,0] [36],.sub 0 [2,0] [36],.sub 0 [2] [36],sb [],sb []]
def X10_7:=hS R10_7 R10_7p0 R10_7t1 [26,27,28,29,30,31,32,33,34,35,36,37,38,39,40,41] [42] [26,27,28,29,30,31,32,33,34,35,36,37,38,39,40,41,42,43,44,45]
def X10_7t1:=hP R10_7t1 R10_7t2 [] [26,27,28,29,30,31,32,33,34,35,36,37,38,39,40,41,42,43,44,45] ⟨some 43,.fieldAddr 1 (.t 5),some (42,false)⟩
def X10_7t2:=hP R10_7t2 R10_7t3 [43] [26,27,28,29,30,31,32,33,34,35,36,37,38,39,40,41,42,43,44,45] ⟨some 44,.load false 1 (.t 43),some (42,false)⟩
def X10_7t3:=hP R10_7t3 R10_7t4 [44] [26,27,28,29,30,31,32,33,34,35,36,37,38,39,40,41,42,43,44,45] ⟨some 45,.call (.c (.fn 20 [] [])) [.t 44],some (42,false)⟩
def T10_7t4:=hT R10_7t4 [26,27,28,29,30,31,32,33,34,35,36,37,38,39,40,41,42,43,44,45] [46] 47 [] [(46,.pick (.t 42) (.c (.s (.bool true))) (.t 45))] [sb []]
def X10_7t4:=hL R10_7t4 [26,27,28,29,30,31,32,33,34,35,36,37,38,39,40,41,42,43,44,45] [46]
def R10_8:LO:=[⟨some 2,.move (.c (.s (.bool true))),none⟩]
def T10_8:=hT R10_8 [1,3,4,5,46] [2] 3 [] [(2,.c (.s (.bool true)))] [.cc (.s (.bool true))]
def R10_9:LO:=[⟨some 6,.move (.c (.s (.int .i64 0))),none⟩]
def T10_9:=hT R10_9 [46] [6] 7 [] [(6,.c (.s (.int .i64 0)))] [.cc (.s (.int .i64 0))]
def R10_10:LO:=[oM 47 6,oF 48 2 5,oL 49 48,⟨some 50,.lenS .s (.t 49),none⟩,⟨some 51,.bin .lss (.t 47) (.t 50),none⟩]
def T10_10:=hT R10_10 [47,48,49,50] [51] 52 [] [(51,.op (.bin .lss (.t 0) (.t 1)) [.t 6,.op (.lenS .s (.t 0)) [.op (.load false 1 (.t 0)) [.op (.fieldAddr 2 (.t 0)) [.t 5]]]])] [.tt 6,sb [1,0,0],sb [1,0],sb [1],sb []]
def R10_11:LO:=[oF 54 2 5,oL 55 54,oM 56 6,⟨some 57,.indexAddr 2 (.t 55) (.t 56),none⟩,oF 58 1 57,oL 59 58,oM 7 59]
def T10_11:=hT R10_11 [51,54,55,56,57,58,59] [7] 60 [] [(7,.op (.load false 1 (.t 0)) [.op (.fieldAddr 1 (.t 0)) [.op (.indexAddr 2 (.t 0) (.t 1)) [.op (.load false 1 (.t 0)) [.op (.fieldAddr 2 (.t 0)) [.t 5]],.t 6]]])] [sb [0,0,0,0],sb [0,0,0],.tt 6,sb [0,0],sb [0],sb [],sb []]
def R10_12:LO:=[oM 60 7,⟨some 61,.lenS .s (.t 60),none⟩,oM 62 3,⟨some 63,.bin .sub (.c (.s (.int .i64 200))) (.t 62),none⟩,⟨some 64,.bin .gtr (.t 61) (.t 63),none⟩,oM 65 64,gF 66 2 5 65 false,gL 67 66 65 false,gM 68 6 65 false,⟨some 69,.indexAddr 2 (.t 67) (.t 68),some (65,false)⟩,gF 70 0 69 65 false,gL 71 70 65 false,⟨some 72,.lenS .p (.t 71),some (65,false)⟩,⟨some 73,.bin .gtr (.t 72) (.c (.s (.int .i64 200))),some (65,false)⟩,⟨some 74,.pick (.t 65) (.c (.s (.bool true))) (.t 73),none⟩]
def T10_12:=hT R10_12 [60,61,62,63,64,65,66,67,68,69,70,71,72,73] [74] 75 [] [(74,.pick (.op (.bin .gtr (.t 0) (.t 1)) [.op (.lenS .s (.t 0)) [.t 7],.op (.bin .sub (.c (.s (.int .i64 200))) (.t 1)) [.c (.s (.int .i64 200)),.t 3]]) (.c (.s (.bool true))) (.op (.bin .gtr (.t 0) (.c (.s (.int .i64 200)))) [.op (.lenS .p (.t 0)) [.op (.load false 1 (.t 0)) [.op (.fieldAddr 0 (.t 0)) [.op (.indexAddr 2 (.t 0) (.t 1)) [.op (.load false 1 (.t 0)) [.op (.fieldAddr 2 (.t 0)) [.t 5]],.t 6]]]],.c (.s (.int .i64 200))]))] [.tt 7,sb [0,0],.tt 3,sb [0,1],sb [0],sb [0],.sub 0 [2,0,0,0,0,0,0] [65],.sub 0 [2,0,0,0,0,0] [65],.sub 0 [2,0,0,0,0,1] [65],.sub 0 [2,0,0,0,0] [65],.sub 0 [2,0,0,0] [65],.sub 0 [2,0,0] [65],.sub 0 [2,0] [65],.sub 0 [2] [65],sb []]
def R10_13:LO:=[⟨some 2,.move (.c (.s (.bool true))),none⟩]
def T10_13:=hT R10_13 [1,3,4,5,6,7,74] [2] 3 [] [(2,.c (.s (.bool true)))] [.cc (.s (.bool true))]
def R10_14:LO:=[oM 75 3,oM 76 7,⟨some 77,.lenS .s (.t 76),none⟩,⟨some 78,.bin .add (.t 75) (.t 77),none⟩,oM 3 78]
def T10_14:=hT R10_14 [74,75,76,77,78] [3] 79 [] [(3,.op (.bin .add (.t 0) (.t 1)) [.t 3,.op (.lenS .s (.t 0)) [.t 7]])] [.tt 3,.tt 7,sb [1],sb [],sb []]
def R10_15:LO:=[⟨some 8,.move (.c (.s (.int .i64 0))),none⟩]
def T10_15:=hT R10_15 [] [8] 9 [] [(8,.c (.s (.int .i64 0)))] [.cc (.s (.int .i64 0))]
def R10_16:LO:=[oM 79 8,oM 80 7,⟨some 81,.lenS .s (.t 80),none⟩,⟨some 82,.bin .lss (.t 79) (.t 81),none⟩]
def T10_16:=hT R10_16 [79,80,81] [82] 83 [] [(82,.op (.bin .lss (.t 0) (.t 1)) [.t 8,.op (.lenS .s (.t 0)) [.t 7]])] [.tt 8,.tt 7,sb [1],sb []]
def R10_17t2:LO:=[⟨none,.store 8 (.t 9) (.t 88),none⟩]
def R10_17t1:LO:=⟨some 9,.alloc [.s (.int .u8 0),.s (.string ⟨#[]⟩),.s (.string ⟨#[]⟩),.s (.string ⟨#[]⟩),.s (.int .i64 0),.s (.string ⟨#[]⟩),.s (.slice none 0 0),.s (.slice none 0 0)],none⟩ :: R10_17t2
def R10_17p0:LO:=[oM 85 7,oM 86 8,⟨some 87,.indexAddr 8 (.t 85) (.t 86),none⟩,⟨some 88,.load true 8 (.t 87),none⟩]
def R10_17:LO:=R10_17p0 ++ R10_17t1
def T10_17p0:=hT R10_17p0 [82,85,86,87] [88] 89 [] [(88,.op (.load true 8 (.t 0)) [.op (.indexAddr 8 (.t 0) (.t 1)) [.t 7,.t 8]])] [.tt 7,.tt 8,sb [0],sb []]
def X10_17:=hS R10_17 R10_17p0 R10_17t1 [82,85,86,87] [88] [82,85,86,87,88]
def X10_17t1:=hP R10_17t1 R10_17t2 [] [82,85,86,87,88] ⟨some 9,.alloc [.s (.int .u8 0),.s (.string ⟨#[]⟩),.s (.string ⟨#[]⟩),.s (.string ⟨#[]⟩),.s (.int .i64 0),.s (.string ⟨#[]⟩),.s (.slice none 0 0),.s (.slice none 0 0)],none⟩
def X10_17t2:=hX R10_17t2 [82,85,86,87,88] [⟨none,.store 8 (.t 9) (.t 88),none⟩]
def R10_18t8:LO:=[⟨some 132,.pick (.t 128) (.c (.s (.bool true))) (.t 131),none⟩]
def R10_18t7:LO:=⟨some 131,.call (.c (.fn 20 [] [])) [.t 130],some (128,false)⟩ :: R10_18t8
def R10_18t6:LO:=gL 130 129 128 false :: R10_18t7
def R10_18t5:LO:=gF 129 7 9 128 false :: R10_18t6
def R10_18p4:LO:=[⟨some 127,.pick (.t 123) (.c (.s (.bool true))) (.t 126),none⟩,oM 128 127]
def R10_18t4:LO:=R10_18p4 ++ R10_18t5
def R10_18t3:LO:=⟨some 126,.call (.c (.fn 20 [] [])) [.t 125],some (123,false)⟩ :: R10_18t4
def R10_18t2:LO:=gL 125 124 123 false :: R10_18t3
def R10_18t1:LO:=gF 124 6 9 123 false :: R10_18t2
def R10_18p0:LO:=[oF 89 1 9,oL 90 89,⟨some 91,.lenS .p (.t 90),none⟩,⟨some 92,.bin .gtr (.t 91) (.c (.s (.int .i64 200))),none⟩,oM 93 92,gF 94 2 9 93 false,gL 95 94 93 false,⟨some 96,.lenS .p (.t 95),some (93,false)⟩,⟨some 97,.bin .gtr (.t 96) (.c (.s (.int .i64 200))),some (93,false)⟩,⟨some 98,.pick (.t 93) (.c (.s (.bool true))) (.t 97),none⟩,oM 99 98,gF 100 3 9 99 false,gL 101 100 99 false,⟨some 102,.lenS .p (.t 101),some (99,false)⟩,⟨some 103,.bin .gtr (.t 102) (.c (.s (.int .i64 200))),some (99,false)⟩,⟨some 104,.pick (.t 99) (.c (.s (.bool true))) (.t 103),none⟩,oM 105 104,gF 106 5 9 105 false,gL 107 106 105 false,⟨some 108,.lenS .p (.t 107),some (105,false)⟩,⟨some 109,.bin .gtr (.t 108) (.c (.s (.int .i64 200))),some (105,false)⟩,⟨some 110,.pick (.t 105) (.c (.s (.bool true))) (.t 109),none⟩,oM 111 110,gF 112 6 9 111 false,gL 113 112 111 false,⟨some 114,.lenS .s (.t 113),some (111,false)⟩,⟨some 115,.bin .gtr (.t 114) (.c (.s (.int .i64 20))),some (111,false)⟩,⟨some 116,.pick (.t 111) (.c (.s (.bool true))) (.t 115),none⟩,oM 117 116,gF 118 7 9 117 false,gL 119 118 117 false,⟨some 120,.lenS .s (.t 119),some (117,false)⟩,⟨some 121,.bin .gtr (.t 120) (.c (.s (.int .i64 20))),some (117,false)⟩,⟨some 122,.pick (.t 117) (.c (.s (.bool true))) (.t 121),none⟩,oM 123 122]
def R10_18:LO:=R10_18p0 ++ R10_18t1
def T10_18p0:=hT R10_18p0 [89,90,91,92,93,94,95,96,97,98,99,100,101,102,103,104,105,106,107,108,109,110,111,112,113,114,115,116,117,118,119,120,121,122] [123] 124 [] [(123,.pick (.pick (.pick (.pick (.pick (.op (.bin .gtr (.t 0) (.c (.s (.int .i64 200)))) [.op (.lenS .p (.t 0)) [.op (.load false 1 (.t 0)) [.op (.fieldAddr 1 (.t 0)) [.t 9]]],.c (.s (.int .i64 200))]) (.c (.s (.bool true))) (.op (.bin .gtr (.t 0) (.c (.s (.int .i64 200)))) [.op (.lenS .p (.t 0)) [.op (.load false 1 (.t 0)) [.op (.fieldAddr 2 (.t 0)) [.t 9]]],.c (.s (.int .i64 200))])) (.c (.s (.bool true))) (.op (.bin .gtr (.t 0) (.c (.s (.int .i64 200)))) [.op (.lenS .p (.t 0)) [.op (.load false 1 (.t 0)) [.op (.fieldAddr 3 (.t 0)) [.t 9]]],.c (.s (.int .i64 200))])) (.c (.s (.bool true))) (.op (.bin .gtr (.t 0) (.c (.s (.int .i64 200)))) [.op (.lenS .p (.t 0)) [.op (.load false 1 (.t 0)) [.op (.fieldAddr 5 (.t 0)) [.t 9]]],.c (.s (.int .i64 200))])) (.c (.s (.bool true))) (.op (.bin .gtr (.t 0) (.c (.s (.int .i64 20)))) [.op (.lenS .s (.t 0)) [.op (.load false 1 (.t 0)) [.op (.fieldAddr 6 (.t 0)) [.t 9]]],.c (.s (.int .i64 20))])) (.c (.s (.bool true))) (.op (.bin .gtr (.t 0) (.c (.s (.int .i64 20)))) [.op (.lenS .s (.t 0)) [.op (.load false 1 (.t 0)) [.op (.fieldAddr 7 (.t 0)) [.t 9]]],.c (.s (.int .i64 20))]))] [sb [0,0,0,0,0,0,0,0],sb [0,0,0,0,0,0,0],sb [0,0,0,0,0,0],sb [0,0,0,0,0],sb [0,0,0,0,0],.sub 0 [0,0,0,0,2,0,0,0] [93],.sub 0 [0,0,0,0,2,0,0] [93],.sub 0 [0,0,0,0,2,0] [93],.sub 0 [0,0,0,0,2] [93],sb [0,0,0,0],sb [0,0,0,0],.sub 0 [0,0,0,2,0,0,0] [99],.sub 0 [0,0,0,2,0,0] [99],.sub 0 [0,0,0,2,0] [99],.sub 0 [0,0,0,2] [99],sb [0,0,0],sb [0,0,0],.sub 0 [0,0,2,0,0,0] [105],.sub 0 [0,0,2,0,0] [105],.sub 0 [0,0,2,0] [105],.sub 0 [0,0,2] [105],sb [0,0],sb [0,0],.sub 0 [0,2,0,0,0] [111],.sub 0 [0,2,0,0] [111],.sub 0 [0,2,0] [111],.sub 0 [0,2] [111],sb [0],sb [0],.sub 0 [2,0,0,0] [117],.sub 0 [2,0,0] [117],.sub 0 [2,0] [117],.sub 0 [2] [117],sb [],sb []]
def X10_18:=hS R10_18 R10_18p0 R10_18t1 [89,90,91,92,93,94,95,96,97,98,99,100,101,102,103,104,105,106,107,108,109,110,111,112,113,114,115,116,117,118,119,120,121,122] [123] [9,89,90,91,92,93,94,95,96,97,98,99,100,101,102,103,104,105,106,107,108,109,110,111,112,113,114,115,116,117,118,119,120,121,122,123,124,125,126,127,128,129,130,131]
def X10_18t1:=hP R10_18t1 R10_18t2 [] [9,89,90,91,92,93,94,95,96,97,98,99,100,101,102,103,104,105,106,107,108,109,110,111,112,113,114,115,116,117,118,119,120,121,122,123,124,125,126,127,128,129,130,131] ⟨some 124,.fieldAddr 6 (.t 9),some (123,false)⟩
def X10_18t2:=hP R10_18t2 R10_18t3 [124] [9,89,90,91,92,93,94,95,96,97,98,99,100,101,102,103,104,105,106,107,108,109,110,111,112,113,114,115,116,117,118,119,120,121,122,123,124,125,126,127,128,129,130,131] ⟨some 125,.load false 1 (.t 124),some (123,false)⟩
def X10_18t3:=hP R10_18t3 R10_18t4 [125] [9,89,90,91,92,93,94,95,96,97,98,99,100,101,102,103,104,105,106,107,108,109,110,111,112,113,114,115,116,117,118,119,120,121,122,123,124,125,126,127,128,129,130,131] ⟨some 126,.call (.c (.fn 20 [] [])) [.t 125],some (123,false)⟩
def T10_18p4:=hT R10_18p4 [123,126,127] [128] 129 [] [(128,.pick (.t 123) (.c (.s (.bool true))) (.t 126))] [sb [],sb []]
def X10_18t4:=hS R10_18t4 R10_18p4 R10_18t5 [123,126,127] [128] [9,89,90,91,92,93,94,95,96,97,98,99,100,101,102,103,104,105,106,107,108,109,110,111,112,113,114,115,116,117,118,119,120,121,122,123,124,125,126,127,128,129,130,131]
def X10_18t5:=hP R10_18t5 R10_18t6 [9] [9,89,90,91,92,93,94,95,96,97,98,99,100,101,102,103,104,105,106,107,108,109,110,111,112,113,114,115,116,117,118,119,120,121,122,123,124,125,126,127,128,129,130,131] ⟨some 129,.fieldAddr 7 (.t 9),some (128,false)⟩
def X10_18t6:=hP R10_18t6 R10_18t7 [129] [9,89,90,91,92,93,94,95,96,97,98,99,100,101,102,103,104,105,106,107,108,109,110,111,112,113,114,115,116,117,118,119,120,121,122,123,124,125,126,127,128,129,130,131] ⟨some 130,.load false 1 (.t 129),some (128,false)⟩
def X10_18t7:=hP R10_18t7 R10_18t8 [130] [9,89,90,91,92,93,94,95,96,97,98,99,100,101,102,103,104,105,106,107,108,109,110,111,112,113,114,115,116,117,118,119,120,121,122,123,124,125,126,127,128,129,130,131] ⟨some 131,.call (.c (.fn 20 [] [])) [.t 130],some (128,false)⟩
def T10_18t8:=hT R10_18t8 [9,89,90,91,92,93,94,95,96,97,98,99,100,101,102,103,104,105,106,107,108,109,110,111,112,113,114,115,116,117,118,119,120,121,122,123,124,125,126,127,128,129,130,131] [132] 133 [] [(132,.pick (.t 128) (.c (.s (.bool true))) (.t 131))] [sb []]
def X10_18t8:=hL R10_18t8 [9,89,90,91,92,93,94,95,96,97,98,99,100,101,102,103,104,105,106,107,108,109,110,111,112,113,114,115,116,117,118,119,120,121,122,123,124,125,126,127,128,129,130,131] [132]
def R10_19:LO:=[⟨some 2,.move (.c (.s (.bool true))),none⟩]
def T10_19:=hT R10_19 [1,3,4,5,6,7,8,132] [2] 3 [] [(2,.c (.s (.bool true)))] [.cc (.s (.bool true))]
def R10_20:LO:=[oM 83 8,⟨some 84,.bin .add (.t 83) (.c (.s (.int .i64 1))),none⟩,oM 8 84]
def T10_20:=hT R10_20 [83,84,132] [8] 85 [] [(8,.op (.bin .add (.t 0) (.c (.s (.int .i64 1)))) [.t 8,.c (.s (.int .i64 1))])] [.tt 8,sb [],sb []]
def s_f10_l0_b:ACode:=
 (.seq (.seq (.regionE R10_16 [79,80,81] [82])
 (.cond (.t 82)
 .skip
 (.exit 4)))
 (.seq (.block 5
 (.seq (.region R10_17 [] [82,85,86,87,88])
 (.seq (.region R10_18 [] [9,89,90,91,92,93,94,95,96,97,98,99,100,101,102,103,104,105,106,107,108,109,110,111,112,113,114,115,116,117,118,119,120,121,122,123,124,125,126,127,128,129,130,131])
 (.cond (.t 132)
 (.seq (.regionE R10_19 [1,3,4,5,6,7,8,132] [2])
 .ret)
 .skip))))
 (.regionE R10_20 [83,84,132] [8])))
def s_f10_l0:ACode:=s_f10_l0_b
def s_f10_l0_ev:=hE s_f10_l0 s_f10_l0_b
def R10_21:LO:=[oM 52 6,⟨some 53,.bin .add (.t 52) (.c (.s (.int .i64 1))),none⟩,oM 6 53]
def T10_21:=hT R10_21 [7,8,52,53,82] [6] 54 [] [(6,.op (.bin .add (.t 0) (.c (.s (.int .i64 1)))) [.t 6,.c (.s (.int .i64 1))])] [.tt 6,sb [],sb []]
def s_f10_l1_b:ACode:=
 (.seq (.seq (.regionE R10_10 [47,48,49,50] [51])
 (.cond (.t 51)
 .skip
 (.exit 2)))
 (.seq (.block 3
 (.seq (.regionE R10_11 [51,54,55,56,57,58,59] [7])
 (.seq (.seq (.regionE R10_12 [60,61,62,63,64,65,66,67,68,69,70,71,72,73] [74])
 (.cond (.t 74)
 (.seq (.regionE R10_13 [1,3,4,5,6,7,74] [2])
 .ret)
 .skip))
 (.seq (.regionE R10_14 [74,75,76,77,78] [3])
 (.seq (.regionE R10_15 [] [8])
 (.block 4
 (.loop [] s_f10_l0)))))))
 (.regionE R10_21 [7,8,52,53,82] [6])))
def s_f10_l1:ACode:=s_f10_l1_b
def s_f10_l1_ev:=hE s_f10_l1 s_f10_l1_b
def R10_22:LO:=[oM 19 4,⟨some 20,.bin .add (.t 19) (.c (.s (.int .i64 1))),none⟩,oM 4 20]
def T10_22:=hT R10_22 [5,6,19,20,51] [4] 21 [] [(4,.op (.bin .add (.t 0) (.c (.s (.int .i64 1)))) [.t 4,.c (.s (.int .i64 1))])] [.tt 4,sb [],sb []]
def s_f10_l2_b:ACode:=
 (.seq (.seq (.regionE R10_5 [14,15,16,17] [18])
 (.cond (.t 18)
 .skip
 (.exit 0)))
 (.seq (.block 1
 (.seq (.region R10_6 [] [18,21,22,23,24,25])
 (.seq (.seq (.region R10_7 [] [26,27,28,29,30,31,32,33,34,35,36,37,38,39,40,41,42,43,44,45])
 (.cond (.t 46)
 (.seq (.regionE R10_8 [1,3,4,5,46] [2])
 .ret)
 .skip))
 (.seq (.regionE R10_9 [46] [6])
 (.block 2
 (.loop [] s_f10_l1))))))
 (.regionE R10_22 [5,6,19,20,51] [4])))
def s_f10_l2:ACode:=s_f10_l2_b
def s_f10_l2_ev:=hE s_f10_l2 s_f10_l2_b
def R10_23:LO:=[⟨some 2,.move (.c (.s (.bool false))),none⟩]
def T10_23:=hT R10_23 [1,3,4,18] [2] 3 [] [(2,.c (.s (.bool false)))] [.cc (.s (.bool false))]
def s_f10:ACFun:={ ntmps:=133,results:=[.tmp 2],body:=
 (.seq (.region R10_0 [] K10_0)
 (.seq (.seq (.regionE R10_1 [10,11,12] [13])
 (.cond (.t 13)
 (.seq (.regionE R10_2 [1,13] [2])
 .ret)
 .skip))
 (.seq (.regionE R10_3 [13] [3])
 (.seq (.seq (.regionE R10_4 [] [4])
 (.block 0
 (.loop [] s_f10_l2)))
 (.seq (.regionE R10_23 [1,3,4,18] [2])
 .ret))))) }
theorem s_f10_first:firstOk (List.range' 1 (s_f10.ntmps - 1)) s_f10.body=true:=by kernel_rfl
abbrev k_f20:Nat:=20
def K20_0:List Nat:=List.range' 1 15
theorem s_f20_r0_kT:killV K20_0 (startV 16 [] 1)=[]:=by kernel_rfl
def s_f20_r0_kA0:=hK K20_0 0
def R20_0:LO:=[⟨some 2,.move (.c (.s (.bool false))),none⟩]
def T20_0:=hT R20_0 K20_0 [] 3 [] [] [.cc (.s (.bool false))]
def R20_1:LO:=[⟨some 3,.move (.c (.s (.int .i64 0))),none⟩]
def T20_1:=hT R20_1 [] [3] 4 [] [(3,.c (.s (.int .i64 0)))] [.cc (.s (.int .i64 0))]
def R20_2:LO:=[oM 4 3,oM 5 0,⟨some 6,.lenS .s (.t 5),none⟩,⟨some 7,.bin .lss (.t 4) (.t 6),none⟩]
def T20_2:=hT R20_2 [4,5,6] [7] 8 [] [(7,.op (.bin .lss (.t 0) (.t 1)) [.t 3,.op (.lenS .s (.t 0)) [.t 0]])] [.tt 3,.tt 0,sb [1],sb []]
def R20_3:LO:=[oM 10 0,oM 11 3,⟨some 12,.indexAddr 1 (.t 10) (.t 11),none⟩,oL 13 12,⟨some 14,.lenS .p (.t 13),none⟩,⟨some 15,.bin .gtr (.t 14) (.c (.s (.int .i64 200))),none⟩]
def T20_3:=hT R20_3 [7,10,11,12,13,14] [15] 16 [] [(15,.op (.bin .gtr (.t 0) (.c (.s (.int .i64 200)))) [.op (.lenS .p (.t 0)) [.op (.load false 1 (.t 0)) [.op (.indexAddr 1 (.t 0) (.t 1)) [.t 0,.t 3]]],.c (.s (.int .i64 200))])] [.tt 0,.tt 3,sb [0,0,0],sb [0,0],sb [0],sb []]
def R20_4:LO:=[⟨some 2,.move (.c (.s (.bool true))),none⟩]
def T20_4:=hT R20_4 [0,3,15] [2] 3 [] [(2,.c (.s (.bool true)))] [.cc (.s (.bool true))]
def R20_5:LO:=[oM 8 3,⟨some 9,.bin .add (.t 8) (.c (.s (.int .i64 1))),none⟩,oM 3 9]
def T20_5:=hT R20_5 [8,9,15] [3] 10 [] [(3,.op (.bin .add (.t 0) (.c (.s (.int .i64 1)))) [.t 3,.c (.s (.int .i64 1))])] [.tt 3,sb [],sb []]
def s_f20_l0_b:ACode:=
 (.seq (.seq (.regionE R20_2 [4,5,6] [7])
 (.cond (.t 7)
 .skip
 (.exit 0)))
 (.seq (.block 1
 (.seq (.regionE R20_3 [7,10,11,12,13,14] [15])
 (.cond (.t 15)
 (.seq (.regionE R20_4 [0,3,15] [2])
 .ret)
 .skip)))
 (.regionE R20_5 [8,9,15] [3])))
def s_f20_l0:ACode:=s_f20_l0_b
def s_f20_l0_ev:=hE s_f20_l0 s_f20_l0_b
def R20_6:LO:=[⟨some 2,.move (.c (.s (.bool false))),none⟩]
def T20_6:=hT R20_6 [0,3,7] [2] 3 [] [(2,.c (.s (.bool false)))] [.cc (.s (.bool false))]
def s_f20:ACFun:={ ntmps:=16,results:=[.tmp 2],body:=
 (.seq (.regionE R20_0 K20_0 [])
 (.seq (.seq (.regionE R20_1 [] [3])
 (.block 0
 (.loop [] s_f20_l0)))
 (.seq (.regionE R20_6 [0,3,7] [2])
 .ret))) }
abbrev k_f21:Nat:=21
def K21_0:List Nat:=List.range' 0 17
theorem s_f21_r0_kT:killV K21_0 (startV 17 [] 0)=[]:=by kernel_rfl
def R21_0:LO:=[⟨some 0,.move (.c (.s (.map none))),none⟩]
def T21_0:=hT R21_0 K21_0 [] 1 [] [] [.cc (.s (.map none))]
def R21_1t29:LO:=[oM 16 1,oM 0 16]
def R21_1t28:LO:=⟨none,.mapUpd (.int .u8) (.t 1) (.c (.s (.int .u8 14))) (.t 15),none⟩ :: R21_1t29
def R21_1p27:LO:=[⟨some 15,.build [.s (.bool false),.s (.bool false),.s (.bool false),.s (.bool false),.s (.bool false),.s (.bool false),.s (.bool false)] [(0,1),(1,1),(2,1),(3,1),(4,1),(5,1),(6,1)] [(1,.c (.s (.bool true)))],none⟩]
def R21_1t27:LO:=R21_1p27 ++ R21_1t28
def R21_1t26:LO:=⟨none,.mapUpd (.int .u8) (.t 1) (.c (.s (.int .u8 13))) (.t 14),none⟩ :: R21_1t27
def R21_1p25:LO:=[⟨some 14,.build [.s (.bool false),.s (.bool false),.s (.bool false),.s (.bool false),.s (.bool false),.s (.bool false),.s (.bool false)] [(0,1),(1,1),(2,1),(3,1),(4,1),(5,1),(6,1)] [(6,.c (.s (.bool true)))],none⟩]
def R21_1t25:LO:=R21_1p25 ++ R21_1t26
def R21_1t24:LO:=⟨none,.mapUpd (.int .u8) (.t 1) (.c (.s (.int .u8 12))) (.t 13),none⟩ :: R21_1t25
def R21_1p23:LO:=[⟨some 13,.build [.s (.bool false),.s (.bool false),.s (.bool false),.s (.bool false),.s (.bool false),.s (.bool false),.s (.bool false)] [(0,1),(1,1),(2,1),(3,1),(4,1),(5,1),(6,1)] [(6,.c (.s (.bool true)))],none⟩]
def R21_1t23:LO:=R21_1p23 ++ R21_1t24
def R21_1t22:LO:=⟨none,.mapUpd (.int .u8) (.t 1) (.c (.s (.int .u8 11))) (.t 12),none⟩ :: R21_1t23
def R21_1p21:LO:=[⟨some 12,.build [.s (.bool false),.s (.bool false),.s (.bool false),.s (.bool false),.s (.bool false),.s (.bool false),.s (.bool false)] [(0,1),(1,1),(2,1),(3,1),(4,1),(5,1),(6,1)] [(0,.c (.s (.bool true))),(1,.c (.s (.bool true))),(5,.c (.s (.bool true)))],none⟩]
def R21_1t21:LO:=R21_1p21 ++ R21_1t22
def R21_1t20:LO:=⟨none,.mapUpd (.int .u8) (.t 1) (.c (.s (.int .u8 10))) (.t 11),none⟩ :: R21_1t21
def R21_1p19:LO:=[⟨some 11,.build [.s (.bool false),.s (.bool false),.s (.bool false),.s (.bool false),.s (.bool false),.s (.bool false),.s (.bool false)] [(0,1),(1,1),(2,1),(3,1),(4,1),(5,1),(6,1)] [(0,.c (.s (.bool true))),(4,.c (.s (.bool true))),(5,.c (.s (.bool true)))],none⟩]
def R21_1t19:LO:=R21_1p19 ++ R21_1t20
def R21_1t18:LO:=⟨none,.mapUpd (.int .u8) (.t 1) (.c (.s (.int .u8 9))) (.t 10),none⟩ :: R21_1t19
def R21_1p17:LO:=[⟨some 10,.build [.s (.bool false),.s (.bool false),.s (.bool false),.s (.bool false),.s (.bool false),.s (.bool false),.s (.bool false)] [(0,1),(1,1),(2,1),(3,1),(4,1),(5,1),(6,1)] [(1,.c (.s (.bool true))),(2,.c (.s (.bool true)))],none⟩]
def R21_1t17:LO:=R21_1p17 ++ R21_1t18
def R21_1t16:LO:=⟨none,.mapUpd (.int .u8) (.t 1) (.c (.s (.int .u8 7))) (.t 9),none⟩ :: R21_1t17
def R21_1p15:LO:=[⟨some 9,.build [.s (.bool false),.s (.bool false),.s (.bool false),.s (.bool false),.s (.bool false),.s (.bool false),.s (.bool false)] [(0,1),(1,1),(2,1),(3,1),(4,1),(5,1),(6,1)] [(0,.c (.s (.bool true))),(1,.c (.s (.bool true))),(3,.c (.s (.bool true)))],none⟩]
def R21_1t15:LO:=R21_1p15 ++ R21_1t16
def R21_1t14:LO:=⟨none,.mapUpd (.int .u8) (.t 1) (.c (.s (.int .u8 6))) (.t 8),none⟩ :: R21_1t15
def R21_1p13:LO:=[⟨some 8,.build [.s (.bool false),.s (.bool false),.s (.bool false),.s (.bool false),.s (.bool false),.s (.bool false),.s (.bool false)] [(0,1),(1,1),(2,1),(3,1),(4,1),(5,1),(6,1)] [(0,.c (.s (.bool true))),(5,.c (.s (.bool true))),(6,.c (.s (.bool true)))],none⟩]
def R21_1t13:LO:=R21_1p13 ++ R21_1t14
def R21_1t12:LO:=⟨none,.mapUpd (.int .u8) (.t 1) (.c (.s (.int .u8 8))) (.t 7),none⟩ :: R21_1t13
def R21_1p11:LO:=[⟨some 7,.build [.s (.bool false),.s (.bool false),.s (.bool false),.s (.bool false),.s (.bool false),.s (.bool false),.s (.bool false)] [(0,1),(1,1),(2,1),(3,1),(4,1),(5,1),(6,1)] [(0,.c (.s (.bool true))),(1,.c (.s (.bool true)))],none⟩]
def R21_1t11:LO:=R21_1p11 ++ R21_1t12
def R21_1t10:LO:=⟨none,.mapUpd (.int .u8) (.t 1) (.c (.s (.int .u8 5))) (.t 6),none⟩ :: R21_1t11
def R21_1p9:LO:=[⟨some 6,.build [.s (.bool false),.s (.bool false),.s (.bool false),.s (.bool false),.s (.bool false),.s (.bool false),.s (.bool false)] [(0,1),(1,1),(2,1),(3,1),(4,1),(5,1),(6,1)] [(0,.c (.s (.bool true))),(1,.c (.s (.bool true)))],none⟩]
def R21_1t9:LO:=R21_1p9 ++ R21_1t10
def R21_1t8:LO:=⟨none,.mapUpd (.int .u8) (.t 1) (.c (.s (.int .u8 4))) (.t 5),none⟩ :: R21_1t9
def R21_1p7:LO:=[⟨some 5,.build [.s (.bool false),.s (.bool false),.s (.bool false),.s (.bool false),.s (.bool false),.s (.bool false),.s (.bool false)] [(0,1),(1,1),(2,1),(3,1),(4,1),(5,1),(6,1)] [(0,.c (.s (.bool true))),(4,.c (.s (.bool true)))],none⟩]
def R21_1t7:LO:=R21_1p7 ++ R21_1t8
def R21_1t6:LO:=⟨none,.mapUpd (.int .u8) (.t 1) (.c (.s (.int .u8 3))) (.t 4),none⟩ :: R21_1t7
def R21_1p5:LO:=[⟨some 4,.build [.s (.bool false),.s (.bool false),.s (.bool false),.s (.bool false),.s (.bool false),.s (.bool false),.s (.bool false)] [(0,1),(1,1),(2,1),(3,1),(4,1),(5,1),(6,1)] [(0,.c (.s (.bool true)))],none⟩]
def R21_1t5:LO:=R21_1p5 ++ R21_1t6
def R21_1t4:LO:=⟨none,.mapUpd (.int .u8) (.t 1) (.c (.s (.int .u8 2))) (.t 3),none⟩ :: R21_1t5
def R21_1p3:LO:=[⟨some 3,.build [.s (.bool false),.s (.bool false),.s (.bool false),.s (.bool false),.s (.bool false),.s (.bool false),.s (.bool false)] [(0,1),(1,1),(2,1),(3,1),(4,1),(5,1),(6,1)] [(0,.c (.s (.bool true))),(3,.c (.s (.bool true)))],none⟩]
def R21_1t3:LO:=R21_1p3 ++ R21_1t4
def R21_1t2:LO:=⟨none,.mapUpd (.int .u8) (.t 1) (.c (.s (.int .u8 1))) (.t 2),none⟩ :: R21_1t3
def R21_1p1:LO:=[⟨some 2,.build [.s (.bool false),.s (.bool false),.s (.bool false),.s (.bool false),.s (.bool false),.s (.bool false),.s (.bool false)] [(0,1),(1,1),(2,1),(3,1),(4,1),(5,1),(6,1)] [(0,.c (.s (.bool true))),(3,.c (.s (.bool true)))],none⟩]
def R21_1t1:LO:=R21_1p1 ++ R21_1t2
def R21_1:LO:=⟨some 1,.mapNew,none⟩ :: R21_1t1
def X21_1:=hP R21_1 R21_1t1 [] [1,2,3,4,5,6,7,8,9,10,11,12,13,14,15,16] ⟨some 1,.mapNew,none⟩
def T21_1p1:=hT R21_1p1 [] [2] 3 [] [(2,.op (.build [.s (.bool false),.s (.bool false),.s (.bool false),.s (.bool false),.s (.bool false),.s (.bool false),.s (.bool false)] [(0,1),(1,1),(2,1),(3,1),(4,1),(5,1),(6,1)] [(0,.c (.s (.bool true))),(3,.c (.s (.bool true)))]) [.c (.s (.bool true)),.c (.s (.bool true))])] [sb []]
def X21_1t1:=hS R21_1t1 R21_1p1 R21_1t2 [] [2] [1,2,3,4,5,6,7,8,9,10,11,12,13,14,15,16]
def X21_1t2:=hP R21_1t2 R21_1t3 [2] [1,2,3,4,5,6,7,8,9,10,11,12,13,14,15,16] ⟨none,.mapUpd (.int .u8) (.t 1) (.c (.s (.int .u8 1))) (.t 2),none⟩
def T21_1p3:=hT R21_1p3 [] [3] 4 [] [(3,.op (.build [.s (.bool false),.s (.bool false),.s (.bool false),.s (.bool false),.s (.bool false),.s (.bool false),.s (.bool false)] [(0,1),(1,1),(2,1),(3,1),(4,1),(5,1),(6,1)] [(0,.c (.s (.bool true))),(3,.c (.s (.bool true)))]) [.c (.s (.bool true)),.c (.s (.bool true))])] [sb []]
def X21_1t3:=hS R21_1t3 R21_1p3 R21_1t4 [] [3] [1,2,3,4,5,6,7,8,9,10,11,12,13,14,15,16]
def X21_1t4:=hP R21_1t4 R21_1t5 [3] [1,2,3,4,5,6,7,8,9,10,11,12,13,14,15,16] ⟨none,.mapUpd (.int .u8) (.t 1) (.c (.s (.int .u8 2))) (.t 3),none⟩
def T21_1p5:=hT R21_1p5 [] [4] 5 [] [(4,.op (.build [.s (.bool false),.s (.bool false),.s (.bool false),.s (.bool false),.s (.bool false),.s (.bool false),.s (.bool false)] [(0,1),(1,1),(2,1),(3,1),(4,1),(5,1),(6,1)] [(0,.c (.s (.bool true)))]) [.c (.s (.bool true))])] [sb []]
def X21_1t5:=hS R21_1t5 R21_1p5 R21_1t6 [] [4] [1,2,3,4,5,6,7,8,9,10,11,12,13,14,15,16]
def X21_1t6:=hP R21_1t6 R21_1t7 [4] [1,2,3,4,5,6,7,8,9,10,11,12,13,14,15,16] ⟨none,.mapUpd (.int .u8) (.t 1) (.c (.s (.int .u8 3))) (.t 4),none⟩
def T21_1p7:=hT R21_1p7 [] [5] 6 [] [(5,.op (.build [.s (.bool false),.s (.bool false),.s (.bool false),.s (.bool false),.s (.bool false),.s (.bool false),.s (.bool false)] [(0,1),(1,1),(2,1),(3,1),(4,1),(5,1),(6,1)] [(0,.c (.s (.bool true))),(4,.c (.s (.bool true)))]) [.c (.s (.bool true)),.c (.s (.bool true))])] [sb []]
def X21_1t7:=hS R21_1t7 R21_1p7 R21_1t8 [] [5] [1,2,3,4,5,6,7,8,9,10,11,12,13,14,15,16]
def X21_1t8:=hP R21_1t8 R21_1t9 [5] [1,2,3,4,5,6,7,8,9,10,11,12,13,14,15,16] ⟨none,.mapUpd (.int .u8) (.t 1) (.c (.s (.int .u8 4))) (.t 5),none⟩
def T21_1p9:=hT R21_1p9 [] [6] 7 [] [(6,.op (.build [.s (.bool false),.s (.bool false),.s (.bool false),.s (.bool false),.s (.bool false),.s (.bool false),.s (.bool false)] [(0,1),(1,1),(2,1),(3,1),(4,1),(5,1),(6,1)] [(0,.c (.s (.bool true))),(1,.c (.s (.bool true)))]) [.c (.s (.bool true)),.c (.s (.bool true))])] [sb []]
def X21_1t9:=hS R21_1t9 R21_1p9 R21_1t10 [] [6] [1,2,3,4,5,6,7,8,9,10,11,12,13,14,15,16]
def X21_1t10:=hP R21_1t10 R21_1t11 [6] [1,2,3,4,5,6,7,8,9,10,11,12,13,14,15,16] ⟨none,.mapUpd (.int .u8) (.t 1) (.c (.s (.int .u8 5))) (.t 6),none⟩
def T21_1p11:=hT R21_1p11 [] [7] 8 [] [(7,.op (.build [.s (.bool false),.s (.bool false),.s (.bool false),.s (.bool false),.s (.bool false),.s (.bool false),.s (.bool false)] [(0,1),(1,1),(2,1),(3,1),(4,1),(5,1),(6,1)] [(0,.c (.s (.bool true))),(1,.c (.s (.bool true)))]) [.c (.s (.bool true)),.c (.s (.bool true))])] [sb []]
def X21_1t11:=hS R21_1t11 R21_1p11 R21_1t12 [] [7] [1,2,3,4,5,6,7,8,9,10,11,12,13,14,15,16]
def X21_1t12:=hP R21_1t12 R21_1t13 [7] [1,2,3,4,5,6,7,8,9,10,11,12,13,14,15,16] ⟨none,.mapUpd (.int .u8) (.t 1) (.c (.s (.int .u8 8))) (.t 7),none⟩
def T21_1p13:=hT R21_1p13 [] [8] 9 [] [(8,.op (.build [.s (.bool false),.s (.bool false),.s (.bool false),.s (.bool false),.s (.bool false),.s (.bool false),.s (.bool false)] [(0,1),(1,1),(2,1),(3,1),(4,1),(5,1),(6,1)] [(0,.c (.s (.bool true))),(5,.c (.s (.bool true))),(6,.c (.s (.bool true)))]) [.c (.s (.bool true)),.c (.s (.bool true)),.c (.s (.bool true))])] [sb []]
def X21_1t13:=hS R21_1t13 R21_1p13 R21_1t14 [] [8] [1,2,3,4,5,6,7,8,9,10,11,12,13,14,15,16]
def X21_1t14:=hP R21_1t14 R21_1t15 [8] [1,2,3,4,5,6,7,8,9,10,11,12,13,14,15,16] ⟨none,.mapUpd (.int .u8) (.t 1) (.c (.s (.int .u8 6))) (.t 8),none⟩
def T21_1p15:=hT R21_1p15 [] [9] 10 [] [(9,.op (.build [.s (.bool false),.s (.bool false),.s (.bool false),.s (.bool false),.s (.bool false),.s (.bool false),.s (.bool false)] [(0,1),(1,1),(2,1),(3,1),(4,1),(5,1),(6,1)] [(0,.c (.s (.bool true))),(1,.c (.s (.bool true))),(3,.c (.s (.bool true)))]) [.c (.s (.bool true)),.c (.s (.bool true)),.c (.s (.bool true))])] [sb []]
def X21_1t15:=hS R21_1t15 R21_1p15 R21_1t16 [] [9] [1,2,3,4,5,6,7,8,9,10,11,12,13,14,15,16]
def X21_1t16:=hP R21_1t16 R21_1t17 [9] [1,2,3,4,5,6,7,8,9,10,11,12,13,14,15,16] ⟨none,.mapUpd (.int .u8) (.t 1) (.c (.s (.int .u8 7))) (.t 9),none⟩
def T21_1p17:=hT R21_1p17 [] [10] 11 [] [(10,.op (.build [.s (.bool false),.s (.bool false),.s (.bool false),.s (.bool false),.s (.bool false),.s (.bool false),.s (.bool false)] [(0,1),(1,1),(2,1),(3,1),(4,1),(5,1),(6,1)] [(1,.c (.s (.bool true))),(2,.c (.s (.bool true)))]) [.c (.s (.bool true)),.c (.s (.bool true))])] [sb []]
def X21_1t17:=hS R21_1t17 R21_1p17 R21_1t18 [] [10] [1,2,3,4,5,6,7,8,9,10,11,12,13,14,15,16]
def X21_1t18:=hP R21_1t18 R21_1t19 [10] [1,2,3,4,5,6,7,8,9,10,11,12,13,14,15,16] ⟨none,.mapUpd (.int .u8) (.t 1) (.c (.s (.int .u8 9))) (.t 10),none⟩
def T21_1p19:=hT R21_1p19 [] [11] 12 [] [(11,.op (.build [.s (.bool false),.s (.bool false),.s (.bool false),.s (.bool false),.s (.bool false),.s (.bool false),.s (.bool false)] [(0,1),(1,1),(2,1),(3,1),(4,1),(5,1),(6,1)] [(0,.c (.s (.bool true))),(4,.c (.s (.bool true))),(5,.c (.s (.bool true)))]) [.c (.s (.bool true)),.c (.s (.bool true)),.c (.s (.bool true))])] [sb []]
def X21_1t19:=hS R21_1t19 R21_1p19 R21_1t20 [] [11] [1,2,3,4,5,6,7,8,9,10,11,12,13,14,15,16]
def X21_1t20:=hP R21_1t20 R21_1t21 [11] [1,2,3,4,5,6,7,8,9,10,11,12,13,14,15,16] ⟨none,.mapUpd (.int .u8) (.t 1) (.c (.s (.int .u8 10))) (.t 11),none⟩
def T21_1p21:=hT R21_1p21 [] [12] 13 [] [(12,.op (.build [.s (.bool false),.s (.bool false),.s (.bool false),.s (.bool false),.s (.bool false),.s (.bool false),.s (.bool false)] [(0,1),(1,1),(2,1),(3,1),(4,1),(5,1),(6,1)] [(0,.c (.s (.bool true))),(1,.c (.s (.bool true))),(5,.c (.s (.bool true)))]) [.c (.s (.bool true)),.c (.s (.bool true)),.c (.s (.bool true))])] [sb []]
def X21_1t21:=hS R21_1t21 R21_1p21 R21_1t22 [] [12] [1,2,3,4,5,6,7,8,9,10,11,12,13,14,15,16]
def X21_1t22:=hP R21_1t22 R21_1t23 [12] [1,2,3,4,5,6,7,8,9,10,11,12,13,14,15,16] ⟨none,.mapUpd (.int .u8) (.t 1) (.c (.s (.int .u8 11))) (.t 12),none⟩
def T21_1p23:=hT R21_1p23 [] [13] 14 [] [(13,.op (.build [.s (.bool false),.s (.bool false),.s (.bool false),.s (.bool false),.s (.bool false),.s (.bool false),.s (.bool false)] [(0,1),(1,1),(2,1),(3,1),(4,1),(5,1),(6,1)] [(6,.c (.s (.bool true)))]) [.c (.s (.bool true))])] [sb []]
def X21_1t23:=hS R21_1t23 R21_1p23 R21_1t24 [] [13] [1,2,3,4,5,6,7,8,9,10,11,12,13,14,15,16]
def X21_1t24:=hP R21_1t24 R21_1t25 [13] [1,2,3,4,5,6,7,8,9,10,11,12,13,14,15,16] ⟨none,.mapUpd (.int .u8) (.t 1) (.c (.s (.int .u8 12))) (.t 13),none⟩
def T21_1p25:=hT R21_1p25 [] [14] 15 [] [(14,.op (.build [.s (.bool false),.s (.bool false),.s (.bool false),.s (.bool false),.s (.bool false),.s (.bool false),.s (.bool false)] [(0,1),(1,1),(2,1),(3,1),(4,1),(5,1),(6,1)] [(6,.c (.s (.bool true)))]) [.c (.s (.bool true))])] [sb []]
def X21_1t25:=hS R21_1t25 R21_1p25 R21_1t26 [] [14] [1,2,3,4,5,6,7,8,9,10,11,12,13,14,15,16]
def X21_1t26:=hP R21_1t26 R21_1t27 [14] [1,2,3,4,5,6,7,8,9,10,11,12,13,14,15,16] ⟨none,.mapUpd (.int .u8) (.t 1) (.c (.s (.int .u8 13))) (.t 14),none⟩
def T21_1p27:=hT R21_1p27 [] [15] 16 [] [(15,.op (.build [.s (.bool false),.s (.bool false),.s (.bool false),.s (.bool false),.s (.bool false),.s (.bool false),.s (.bool false)] [(0,1),(1,1),(2,1),(3,1),(4,1),(5,1),(6,1)] [(1,.c (.s (.bool true)))]) [.c (.s (.bool true))])] [sb []]
def X21_1t27:=hS R21_1t27 R21_1p27 R21_1t28 [] [15] [1,2,3,4,5,6,7,8,9,10,11,12,13,14,15,16]
def X21_1t28:=hP R21_1t28 R21_1t29 [15] [1,2,3,4,5,6,7,8,9,10,11,12,13,14,15,16] ⟨none,.mapUpd (.int .u8) (.t 1) (.c (.s (.int .u8 14))) (.t 15),none⟩
def T21_1t29:=hT R21_1t29 [1,2,3,4,5,6,7,8,9,10,11,12,13,14,15,16] [0] 17 [] [(0,.t 1)] [.tt 1,.tt 1]
def X21_1t29:=hL R21_1t29 [1,2,3,4,5,6,7,8,9,10,11,12,13,14,15,16] [0]
def s_f21:ACFun:={ ntmps:=17,results:=[.tmp 0],body:=
 (.seq (.regionE R21_0 K21_0 [])
 (.seq (.region R21_1 [] [1,2,3,4,5,6,7,8,9,10,11,12,13,14,15,16])
 .ret)) }
abbrev k_f22:Nat:=22
def K22_0:List Nat:=[1] ++ List.range' 3 18
def A22_0_0:=hK K22_0 0
def A22_0_2:=hK K22_0 2
def A22_0_3:=hQ K22_0 3
def R22_0t1:LO:=[⟨some 3,.move (.c (.s (.bool false))),none⟩]
def R22_0:LO:=⟨some 2,.alloc [.s (.int .i64 0),.s (.int .i64 0),.s (.int .i64 0)],none⟩ :: R22_0t1
def X22_0:=hP R22_0 R22_0t1 [1,3,4,5,6,7,8,9,10,11,12,13,14,15,16,17,18,19,20] K22_0 ⟨some 2,.alloc [.s (.int .i64 0),.s (.int .i64 0),.s (.int .i64 0)],none⟩
def T22_0t1:=hT R22_0t1 K22_0 [] 4 [] [] [.cc (.s (.bool false))]
def X22_0t1:=hL R22_0t1 K22_0 []
def R22_1:LO:=[⟨some 4,.build [.s (.int .i64 0),.s (.int .i64 0),.s (.int .i64 0)] [(0,1),(1,1),(2,1)] [],none⟩,⟨some 5,.move (.t 0),none⟩,⟨some 6,.nilCheck (.t 5),none⟩,⟨some 7,.fieldAddr 0 (.t 6),none⟩,⟨some 8,.fieldAddr 0 (.t 7),none⟩,⟨some 9,.load false 1 (.t 8),none⟩,⟨some 10,.lenS .s (.t 9),none⟩,⟨some 11,.bin .eql (.t 10) (.c (.s (.int .i64 0))),none⟩,⟨some 12,.move (.t 11),none⟩,⟨some 13,.move (.t 0),some (12,false)⟩,⟨some 14,.nilCheck (.t 13),some (12,false)⟩,⟨some 15,.fieldAddr 0 (.t 14),some (12,false)⟩,⟨some 16,.fieldAddr 0 (.t 15),some (12,false)⟩,⟨some 17,.load false 1 (.t 16),some (12,false)⟩,⟨some 18,.lenS .s (.t 17),some (12,false)⟩,⟨some 19,.bin .gtr (.t 18) (.c (.s (.int .i64 64))),some (12,false)⟩,⟨some 20,.pick (.t 12) (.c (.s (.bool true))) (.t 19),none⟩,⟨none,.store 3 (.t 2) (.t 4),none⟩,⟨some 3,.move (.t 20),none⟩]
theorem X22_1 (call:CallF) (it:IterF) (base:Nat) (f:List V) (H:Heap):evC call it base (.region R22_1 [(13,17),(14,17)] [0,4,5,6,7,8,9,10,11,12,13,14,15,16,17,18,19,20]) f H=opsK [0,4,5,6,7,8,9,10,11,12,13,14,15,16,17,18,19,20] (fun f'=>List.all [(13,17),(14,17)] (lateOk call base R22_1 f H f')) (evOps call base [⟨some 4,.build [.s (.int .i64 0),.s (.int .i64 0),.s (.int .i64 0)] [(0,1),(1,1),(2,1)] [],none⟩,⟨some 5,.move (.t 0),none⟩,⟨some 6,.nilCheck (.t 5),none⟩,⟨some 7,.fieldAddr 0 (.t 6),none⟩,⟨some 8,.fieldAddr 0 (.t 7),none⟩,⟨some 9,.load false 1 (.t 8),none⟩,⟨some 10,.lenS .s (.t 9),none⟩,⟨some 11,.bin .eql (.t 10) (.c (.s (.int .i64 0))),none⟩,⟨some 12,.move (.t 11),none⟩,⟨some 13,.move (.t 0),some (12,false)⟩,⟨some 14,.nilCheck (.t 13),some (12,false)⟩,⟨some 15,.fieldAddr 0 (.t 14),some (12,false)⟩,⟨some 16,.fieldAddr 0 (.t 15),some (12,false)⟩,⟨some 17,.load false 1 (.t 16),some (12,false)⟩,⟨some 18,.lenS .s (.t 17),some (12,false)⟩,⟨some 19,.bin .gtr (.t 18) (.c (.s (.int .i64 64))),some (12,false)⟩,⟨some 20,.pick (.t 12) (.c (.s (.bool true))) (.t 19),none⟩,⟨none,.store 3 (.t 2) (.t 4),none⟩,⟨some 3,.move (.t 20),none⟩] f H):=row_late call it base _ _ _ f H
def s_f22:ACFun:={ ntmps:=21,results:=[.cell 2 true 3,.tmp 3],body:=
 (.seq (.region R22_0 [] K22_0)
 (.seq (.region R22_1 [(13,17),(14,17)] [0,4,5,6,7,8,9,10,11,12,13,14,15,16,17,18,19,20])
 .ret)) }
theorem s_f22_first:firstOk (List.range' 1 (s_f22.ntmps - 1)) s_f22.body=true:=by kernel_rfl
abbrev k_f24:Nat:=24
def K24_0:List Nat:=[1] ++ List.range' 3 8
def A24_0_0:=hK K24_0 0
def A24_0_2:=hK K24_0 2
def A24_0_3:=hQ K24_0 3
def R24_0t1:LO:=[⟨some 3,.move (.c (.s (.bool false))),none⟩]
def R24_0:LO:=⟨some 2,.alloc [.s (.int .i64 0),.s (.int .i64 0),.s (.int .i64 0)],none⟩ :: R24_0t1
def X24_0:=hP R24_0 R24_0t1 [1,3,4,5,6,7,8,9,10] K24_0 ⟨some 2,.alloc [.s (.int .i64 0),.s (.int .i64 0),.s (.int .i64 0)],none⟩
def T24_0t1:=hT R24_0t1 K24_0 [] 4 [] [] [.cc (.s (.bool false))]
def X24_0t1:=hL R24_0t1 K24_0 []
def R24_1t2:LO:=[⟨none,.store 1 (.t 4) (.t 5),none⟩]
def R24_1t1:LO:=⟨some 4,.alloc [.s (.map none)],none⟩ :: R24_1t2
def R24_1:LO:=⟨some 5,.mapNew,none⟩ :: R24_1t1
def X24_1:=hP R24_1 R24_1t1 [] [5] ⟨some 5,.mapNew,none⟩
def X24_1t1:=hP R24_1t1 R24_1t2 [] [5] ⟨some 4,.alloc [.s (.map none)],none⟩
def X24_1t2:=hX R24_1t2 [5] [⟨none,.store 1 (.t 4) (.t 5),none⟩]
def R24_2t4:LO:=[oM 3 10]
def R24_2t3:LO:=⟨none,.store 3 (.t 2) (.t 9),none⟩ :: R24_2t4
def R24_2p2:LO:=[⟨some 9,.extract (.t 8) 0,none⟩,⟨some 10,.extract (.t 8) 1,none⟩]
def R24_2t2:LO:=R24_2p2 ++ R24_2t3
def R24_2t1:LO:=⟨some 8,.call (.c (.fn 43 [] [])) [.t 6,.t 7],none⟩ :: R24_2t2
def R24_2p0:LO:=[oM 6 0,⟨some 7,.mkFn 44 [] [.t 4],none⟩]
def R24_2:LO:=R24_2p0 ++ R24_2t1
def T24_2p0:=hT R24_2p0 [0,4] [6,7] 8 [] [(6,.t 0),(7,.op (.mkFn 44 [] [.t 0]) [.t 4])] [.tt 0,.sub 1 [] []]
def X24_2:=hS R24_2 R24_2p0 R24_2t1 [0,4] [6,7] [0,4,6,7,8,9,10]
def X24_2t1:=hP R24_2t1 R24_2t2 [6,7] [0,4,6,7,8,9,10] ⟨some 8,.call (.c (.fn 43 [] [])) [.t 6,.t 7],none⟩
def T24_2p2:=hT R24_2p2 [8] [9,10] 11 [] [(9,.op (.extract (.t 0) 0) [.t 8]),(10,.op (.extract (.t 0) 1) [.t 8])] [sb [],.sub 1 [] []]
def X24_2t2:=hS R24_2t2 R24_2p2 R24_2t3 [8] [9,10] [0,4,6,7,8,9,10]
def X24_2t3:=hP R24_2t3 R24_2t4 [9] [0,4,6,7,8,9,10] ⟨none,.store 3 (.t 2) (.t 9),none⟩
def T24_2t4:=hT R24_2t4 [0,4,6,7,8,9,10] [3] 4 [] [(3,.t 10)] [.tt 10]
def X24_2t4:=hL R24_2t4 [0,4,6,7,8,9,10] [3]
def s_f24:ACFun:={ ntmps:=11,results:=[.cell 2 true 3,.tmp 3],body:=
 (.seq (.region R24_0 [] K24_0)
 (.seq (.region R24_1 [] [5])
 (.seq (.region R24_2 [] [0,4,6,7,8,9,10])
 .ret))) }
theorem s_f24_first:firstOk (List.range' 1 (s_f24.ntmps - 1)) s_f24.body=true:=by kernel_rfl
abbrev k_f25:Nat:=25
def K25_0:List Nat:=[1] ++ List.range' 3 21
def A25_0_0:=hK K25_0 0
def A25_0_2:=hK K25_0 2
def A25_0_3:=hQ K25_0 3
def R25_0t1:LO:=[⟨some 3,.move (.c (.s (.bool false))),none⟩]
def R25_0:LO:=⟨some 2,.alloc [.s (.int .i64 0),.s (.int .i64 0),.s (.int .i64 0)],none⟩ :: R25_0t1
def X25_0:=hP R25_0 R25_0t1 [1,3,4,5,6,7,8,9,10,11,12,13,14,15,16,17,18,19,20,21,22,23] K25_0 ⟨some 2,.alloc [.s (.int .i64 0),.s (.int .i64 0),.s (.int .i64 0)],none⟩
def T25_0t1:=hT R25_0t1 K25_0 [] 4 [] [] [.cc (.s (.bool false))]
def X25_0t1:=hL R25_0t1 K25_0 []
def R25_1t2:LO:=[oM 4 6]
def R25_1t1:LO:=⟨some 6,.call (.c (.fn 45 [] [])) [.t 5,.c (.s (.string ⟨#[109,97,105,110]⟩))],none⟩ :: R25_1t2
def R25_1p0:LO:=[oM 5 0]
def R25_1:LO:=R25_1p0 ++ R25_1t1
def T25_1p0:=hT R25_1p0 [] [5] 6 [] [(5,.t 0)] [.tt 0]
def X25_1:=hS R25_1 R25_1p0 R25_1t1 [] [5] [5,6]
def X25_1t1:=hP R25_1t1 R25_1t2 [5] [5,6] ⟨some 6,.call (.c (.fn 45 [] [])) [.t 5,.c (.s (.string ⟨#[109,97,105,110]⟩))],none⟩
def T25_1t2:=hT R25_1t2 [5,6] [4] 5 [] [(4,.t 6)] [.tt 6]
def X25_1t2:=hL R25_1t2 [5,6] [4]
def R25_2:LO:=[oM 7 4,⟨some 8,.bin .lss (.t 7) (.c (.s (.int .i64 0))),none⟩]
def T25_2:=hT R25_2 [7] [8] 9 [] [(8,.op (.bin .lss (.t 0) (.c (.s (.int .i64 0)))) [.t 4,.c (.s (.int .i64 0))])] [.tt 4,sb []]
def R25_3t2:LO:=[⟨some 3,.move (.c (.s (.bool true))),none⟩]
def R25_3t1:LO:=⟨none,.store 3 (.t 2) (.t 9),none⟩ :: R25_3t2
def R25_3p0:LO:=[⟨some 9,.build [.s (.int .i64 0),.s (.int .i64 0),.s (.int .i64 0)] [(0,1),(1,1),(2,1)] [],none⟩]
def R25_3:LO:=R25_3p0 ++ R25_3t1
def T25_3p0:=hT R25_3p0 [0,4,8] [9] 10 [] [(9,.op (.build [.s (.int .i64 0),.s (.int .i64 0),.s (.int .i64 0)] [(0,1),(1,1),(2,1)] []) [])] [sb []]
def X25_3:=hS R25_3 R25_3p0 R25_3t1 [0,4,8] [9] [0,4,8,9]
def X25_3t1:=hP R25_3t1 R25_3t2 [9] [0,4,8,9] ⟨none,.store 3 (.t 2) (.t 9),none⟩
def T25_3t2:=hT R25_3t2 [0,4,8,9] [3] 4 [] [(3,.c (.s (.bool true)))] [.cc (.s (.bool true))]
def X25_3t2:=hL R25_3t2 [0,4,8,9] [3]
def R25_4:LO:=[oM 10 0,⟨some 11,.nilCheck (.t 10),none⟩,oF 12 0 11,oF 13 0 12,oL 14 13,oM 15 4,⟨some 16,.indexAddr 3 (.t 14) (.t 15),none⟩,oF 17 1 16,oL 18 17,⟨some 19,.lenS .s (.t 18),none⟩,⟨some 20,.bin .gtr (.t 19) (.c (.s (.int .i64 0))),none⟩]
def T25_4:=hT R25_4 [0,8,10,11,12,13,14,15,16,17,18,19] [20] 21 [] [(20,.op (.bin .gtr (.t 0) (.c (.s (.int .i64 0)))) [.op (.lenS .s (.t 0)) [.op (.load false 1 (.t 0)) [.op (.fieldAddr 1 (.t 0)) [.op (.indexAddr 3 (.t 0) (.t 1)) [.op (.load false 1 (.t 0)) [.op (.fieldAddr 0 (.t 0)) [.op (.fieldAddr 0 (.t 0)) [.op (.nilCheck (.t 0)) [.t 0]]]],.t 4]]]],.c (.s (.int .i64 0))])] [.tt 0,sb [0,0,0,0,0,0,0,0],sb [0,0,0,0,0,0,0],sb [0,0,0,0,0,0],sb [0,0,0,0,0],.tt 4,sb [0,0,0,0],sb [0,0,0],sb [0,0],sb [0],sb []]
def R25_5t2:LO:=[⟨some 3,.move (.c (.s (.bool true))),none⟩]
def R25_5t1:LO:=⟨none,.store 3 (.t 2) (.t 22),none⟩ :: R25_5t2
def R25_5p0:LO:=[oM 21 4,⟨some 22,.build [.s (.int .i64 0),.s (.int .i64 0),.s (.int .i64 0)] [(0,1),(1,1),(2,1)] [(0,.t 21)],none⟩]
def R25_5:LO:=R25_5p0 ++ R25_5t1
def T25_5p0:=hT R25_5p0 [4,20,21] [22] 23 [] [(22,.op (.build [.s (.int .i64 0),.s (.int .i64 0),.s (.int .i64 0)] [(0,1),(1,1),(2,1)] [(0,.t 0)]) [.t 4])] [.tt 4,sb []]
def X25_5:=hS R25_5 R25_5p0 R25_5t1 [4,20,21] [22] [4,20,21,22]
def X25_5t1:=hP R25_5t1 R25_5t2 [22] [4,20,21,22] ⟨none,.store 3 (.t 2) (.t 22),none⟩
def T25_5t2:=hT R25_5t2 [4,20,21,22] [3] 4 [] [(3,.c (.s (.bool true)))] [.cc (.s (.bool true))]
def X25_5t2:=hL R25_5t2 [4,20,21,22] [3]
def R25_6t2:LO:=[⟨some 3,.move (.c (.s (.bool false))),none⟩]
def R25_6t1:LO:=⟨none,.store 3 (.t 2) (.t 23),none⟩ :: R25_6t2
def R25_6p0:LO:=[⟨some 23,.build [.s (.int .i64 0),.s (.int .i64 0),.s (.int .i64 0)] [(0,1),(1,1),(2,1)] [],none⟩]
def R25_6:LO:=R25_6p0 ++ R25_6t1
def T25_6p0:=hT R25_6p0 [4,20] [23] 24 [] [(23,.op (.build [.s (.int .i64 0),.s (.int .i64 0),.s (.int .i64 0)] [(0,1),(1,1),(2,1)] []) [])] [sb []]
def X25_6:=hS R25_6 R25_6p0 R25_6t1 [4,20] [23] [4,20,23]
def X25_6t1:=hP R25_6t1 R25_6t2 [23] [4,20,23] ⟨none,.store 3 (.t 2) (.t 23),none⟩
def T25_6t2:=hT R25_6t2 [4,20,23] [3] 4 [] [(3,.c (.s (.bool false)))] [.cc (.s (.bool false))]
def X25_6t2:=hL R25_6t2 [4,20,23] [3]
def s_f25:ACFun:={ ntmps:=24,results:=[.cell 2 true 3,.tmp 3],body:=
 (.seq (.region R25_0 [] K25_0)
 (.seq (.region R25_1 [] [5,6])
 (.seq (.seq (.regionE R25_2 [7] [8])
 (.cond (.t 8)
 (.seq (.region R25_3 [] [0,4,8,9])
 .ret)
 .skip))
 (.seq (.seq (.regionE R25_4 [0,8,10,11,12,13,14,15,16,17,18,19] [20])
 (.cond (.t 20)
 (.seq (.region R25_5 [] [4,20,21,22])
 .ret)
 .skip))
 (.seq (.region R25_6 [] [4,20,23])
 .ret))))) }
theorem s_f25_first:firstOk (List.range' 1 (s_f25.ntmps - 1)) s_f25.body=true:=by kernel_rfl
abbrev k_f26:Nat:=26
def K26_0:List Nat:=[1] ++ List.range' 3 57
def A26_0_0:=hK K26_0 0
def A26_0_2:=hK K26_0 2
def A26_0_3:=hQ K26_0 3
def R26_0t1:LO:=[⟨some 3,.move (.c (.s (.bool false))),none⟩]
def R26_0p0:LO:=[⟨some 2,.alloc [.s (.int .i64 0),.s (.int .i64 0),.s (.int .i64 0)],none⟩]
def R26_0:LO:=R26_0p0 ++ R26_0t1
def K26_0p0:List Nat:=[1] ++ List.range' 3 57
def A26_0p0_0:=hK K26_0p0 0
def A26_0p0_2:=hK K26_0p0 2
def A26_0p0_3:=hQ K26_0p0 3
theorem X26_0 (call:CallF) (it:IterF) (base:Nat) (f:List V) (H:Heap):evC call it base (.region R26_0 [] K26_0) f H=thenC call it base (.region R26_0t1 [] K26_0) (opsC [] R26_0p0 K26_0p0 (evOps call base [⟨some 2,.alloc [.s (.int .i64 0),.s (.int .i64 0),.s (.int .i64 0)],none⟩] f H)):=(row_op call it base R26_0p0 R26_0t1 (kc:=K26_0p0) (by kernel_rfl) f H).trans (by rw [row_ops];rfl)
def T26_0t1:=hT R26_0t1 K26_0 [] 4 [] [] [.cc (.s (.bool false))]
def X26_0t1:=hL R26_0t1 K26_0 []
def R26_1:LO:=[oM 10 0,⟨some 11,.nilCheck (.t 10),none⟩,oF 12 0 11,oF 13 0 12,oL 14 13,⟨some 15,.lenS .s (.t 14),none⟩,⟨some 16,.move (.c (.s (.int .i64 0))),none⟩]
def T26_1:=hT R26_1 [0,10,11,12,13] [14,15,16] 17 [] [(14,.op (.load false 1 (.t 0)) [.op (.fieldAddr 0 (.t 0)) [.op (.fieldAddr 0 (.t 0)) [.op (.nilCheck (.t 0)) [.t 0]]]]),(15,.op (.lenS .s (.t 0)) [.op (.load false 1 (.t 0)) [.op (.fieldAddr 0 (.t 0)) [.op (.fieldAddr 0 (.t 0)) [.op (.nilCheck (.t 0)) [.t 0]]]]]),(16,.c (.s (.int .i64 0)))] [.tt 0,sb [0,0,0],sb [0,0],sb [0],sb [],.sub 1 [] [],.cc (.s (.int .i64 0))]
def R26_2:LO:=[⟨some 17,.bin .lss (.t 16) (.t 15),none⟩]
def T26_2:=hT R26_2 [] [17] 18 [] [(17,.op (.bin .lss (.t 0) (.t 1)) [.t 16,.t 15])] [sb []]
def R26_3t3:LO:=[⟨none,.store 3 (.t 5) (.t 20),none⟩]
def R26_3p2:LO:=[oM 4 18]
def R26_3t2:LO:=R26_3p2 ++ R26_3t3
def R26_3t1:LO:=⟨some 5,.alloc [.s (.string ⟨#[]⟩),.s (.slice none 0 0),.s (.slice none 0 0)],none⟩ :: R26_3t2
def R26_3p0:LO:=[oM 18 16,⟨some 19,.indexAddr 3 (.t 14) (.t 16),none⟩,⟨some 20,.load true 3 (.t 19),none⟩]
def R26_3:LO:=R26_3p0 ++ R26_3t1
def T26_3p0:=hT R26_3p0 [17,19] [18,20] 21 [] [(18,.t 16),(20,.op (.load true 3 (.t 0)) [.op (.indexAddr 3 (.t 0) (.t 1)) [.t 14,.t 16]])] [.tt 16,.sub 1 [0] [],.sub 1 [] []]
def X26_3:=hS R26_3 R26_3p0 R26_3t1 [17,19] [18,20] [17,18,19,20]
def X26_3t1:=hP R26_3t1 R26_3t2 [] [17,18,19,20] ⟨some 5,.alloc [.s (.string ⟨#[]⟩),.s (.slice none 0 0),.s (.slice none 0 0)],none⟩
def T26_3p2:=hT R26_3p2 [18] [4] 5 [] [(4,.t 18)] [.tt 18]
def X26_3t2:=hS R26_3t2 R26_3p2 R26_3t3 [18] [4] [17,18,19,20]
def X26_3t3:=hX R26_3t3 [17,18,19,20] [⟨none,.store 3 (.t 5) (.t 20),none⟩]
def R26_4:LO:=[oF 21 1 5,oL 22 21,⟨some 23,.lenS .s (.t 22),none⟩,⟨some 24,.bin .gtr (.t 23) (.c (.s (.int .i64 8))),none⟩]
def T26_4:=hT R26_4 [21,22,23] [24] 25 [] [(24,.op (.bin .gtr (.t 0) (.c (.s (.int .i64 8)))) [.op (.lenS .s (.t 0)) [.op (.load false 1 (.t 0)) [.op (.fieldAddr 1 (.t 0)) [.t 5]]],.c (.s (.int .i64 8))])] [sb [0,0,0],sb [0,0],sb [0],sb []]
def R26_5t2:LO:=[⟨some 3,.move (.c (.s (.bool true))),none⟩]
def R26_5t1:LO:=⟨none,.store 3 (.t 2) (.t 26),none⟩ :: R26_5t2
def R26_5p0:LO:=[oM 25 4,⟨some 26,.build [.s (.int .i64 0),.s (.int .i64 0),.s (.int .i64 0)] [(0,1),(1,1),(2,1)] [(0,.t 25)],none⟩]
def R26_5:LO:=R26_5p0 ++ R26_5t1
def T26_5p0:=hT R26_5p0 [4,5,14,15,16,24,25] [26] 27 [] [(26,.op (.build [.s (.int .i64 0),.s (.int .i64 0),.s (.int .i64 0)] [(0,1),(1,1),(2,1)] [(0,.t 0)]) [.t 4])] [.tt 4,sb []]
def X26_5:=hS R26_5 R26_5p0 R26_5t1 [4,5,14,15,16,24,25] [26] [4,5,14,15,16,24,25,26]
def X26_5t1:=hP R26_5t1 R26_5t2 [26] [4,5,14,15,16,24,25,26] ⟨none,.store 3 (.t 2) (.t 26),none⟩
def T26_5t2:=hT R26_5t2 [4,5,14,15,16,24,25,26] [3] 4 [] [(3,.c (.s (.bool true)))] [.cc (.s (.bool true))]
def X26_5t2:=hL R26_5t2 [4,5,14,15,16,24,25,26] [3]
def R26_6:LO:=[oF 27 2 5,oL 28 27,⟨some 29,.lenS .s (.t 28),none⟩,⟨some 30,.move (.c (.s (.int .i64 0))),none⟩]
def T26_6:=hT R26_6 [5,24,27] [28,29,30] 31 [] [(28,.op (.load false 1 (.t 0)) [.op (.fieldAddr 2 (.t 0)) [.t 5]]),(29,.op (.lenS .s (.t 0)) [.op (.load false 1 (.t 0)) [.op (.fieldAddr 2 (.t 0)) [.t 5]]]),(30,.c (.s (.int .i64 0)))] [sb [0],sb [],.sub 1 [] [],.cc (.s (.int .i64 0))]
def R26_7:LO:=[⟨some 31,.bin .lss (.t 30) (.t 29),none⟩]
def T26_7:=hT R26_7 [] [31] 32 [] [(31,.op (.bin .lss (.t 0) (.t 1)) [.t 30,.t 29])] [sb []]
def R26_8t3:LO:=[⟨none,.store 2 (.t 7) (.t 34),none⟩]
def R26_8p2:LO:=[oM 6 32]
def R26_8t2:LO:=R26_8p2 ++ R26_8t3
def R26_8t1:LO:=⟨some 7,.alloc [.s (.string ⟨#[]⟩),.s (.slice none 0 0)],none⟩ :: R26_8t2
def R26_8p0:LO:=[oM 32 30,⟨some 33,.indexAddr 2 (.t 28) (.t 30),none⟩,⟨some 34,.load true 2 (.t 33),none⟩]
def R26_8:LO:=R26_8p0 ++ R26_8t1
def T26_8p0:=hT R26_8p0 [31,33] [32,34] 35 [] [(32,.t 30),(34,.op (.load true 2 (.t 0)) [.op (.indexAddr 2 (.t 0) (.t 1)) [.t 28,.t 30]])] [.tt 30,.sub 1 [0] [],.sub 1 [] []]
def X26_8:=hS R26_8 R26_8p0 R26_8t1 [31,33] [32,34] [31,32,33,34]
def X26_8t1:=hP R26_8t1 R26_8t2 [] [31,32,33,34] ⟨some 7,.alloc [.s (.string ⟨#[]⟩),.s (.slice none 0 0)],none⟩
def T26_8p2:=hT R26_8p2 [32] [6] 7 [] [(6,.t 32)] [.tt 32]
def X26_8t2:=hS R26_8t2 R26_8p2 R26_8t3 [32] [6] [31,32,33,34]
def X26_8t3:=hX R26_8t3 [31,32,33,34] [⟨none,.store 2 (.t 7) (.t 34),none⟩]
def R26_9:LO:=[oF 35 1 7,oL 36 35,⟨some 37,.lenS .s (.t 36),none⟩,⟨some 38,.move (.c (.s (.int .i64 0))),none⟩]
def T26_9:=hT R26_9 [7,35] [36,37,38] 39 [] [(36,.op (.load false 1 (.t 0)) [.op (.fieldAddr 1 (.t 0)) [.t 7]]),(37,.op (.lenS .s (.t 0)) [.op (.load false 1 (.t 0)) [.op (.fieldAddr 1 (.t 0)) [.t 7]]]),(38,.c (.s (.int .i64 0)))] [sb [0],sb [],.sub 1 [] [],.cc (.s (.int .i64 0))]
def R26_10:LO:=[⟨some 39,.bin .lss (.t 38) (.t 37),none⟩]
def T26_10:=hT R26_10 [] [39] 40 [] [(39,.op (.bin .lss (.t 0) (.t 1)) [.t 38,.t 37])] [sb []]
def R26_11t3:LO:=[⟨none,.store 8 (.t 9) (.t 42),none⟩]
def R26_11p2:LO:=[oM 8 40]
def R26_11t2:LO:=R26_11p2 ++ R26_11t3
def R26_11t1:LO:=⟨some 9,.alloc [.s (.int .u8 0),.s (.string ⟨#[]⟩),.s (.string ⟨#[]⟩),.s (.string ⟨#[]⟩),.s (.int .i64 0),.s (.string ⟨#[]⟩),.s (.slice none 0 0),.s (.slice none 0 0)],none⟩ :: R26_11t2
def R26_11p0:LO:=[oM 40 38,⟨some 41,.indexAddr 8 (.t 36) (.t 38),none⟩,⟨some 42,.load true 8 (.t 41),none⟩]
def R26_11:LO:=R26_11p0 ++ R26_11t1
def T26_11p0:=hT R26_11p0 [39,41] [40,42] 43 [] [(40,.t 38),(42,.op (.load true 8 (.t 0)) [.op (.indexAddr 8 (.t 0) (.t 1)) [.t 36,.t 38]])] [.tt 38,.sub 1 [0] [],.sub 1 [] []]
def X26_11:=hS R26_11 R26_11p0 R26_11t1 [39,41] [40,42] [39,40,41,42]
def X26_11t1:=hP R26_11t1 R26_11t2 [] [39,40,41,42] ⟨some 9,.alloc [.s (.int .u8 0),.s (.string ⟨#[]⟩),.s (.string ⟨#[]⟩),.s (.string ⟨#[]⟩),.s (.int .i64 0),.s (.string ⟨#[]⟩),.s (.slice none 0 0),.s (.slice none 0 0)],none⟩
def T26_11p2:=hT R26_11p2 [40] [8] 9 [] [(8,.t 40)] [.tt 40]
def X26_11t2:=hS R26_11t2 R26_11p2 R26_11t3 [40] [8] [39,40,41,42]
def X26_11t3:=hX R26_11t3 [39,40,41,42] [⟨none,.store 8 (.t 9) (.t 42),none⟩]
def R26_12t2:LO:=[oM 46 45,gF 47 6 9 46 true,gL 48 47 46 true,⟨some 49,.lenS .s (.t 48),some (46,true)⟩,⟨some 50,.bin .gtr (.t 49) (.c (.s (.int .i64 8))),some (46,true)⟩,⟨some 51,.pick (.t 46) (.t 50) (.c (.s (.bool false))),none⟩]
def R26_12t1:LO:=⟨some 45,.call (.c (.fn 46 [] [])) [.t 44],none⟩ :: R26_12t2
def R26_12p0:LO:=[oF 43 0 9,oL 44 43]
def R26_12:LO:=R26_12p0 ++ R26_12t1
def T26_12p0:=hT R26_12p0 [43] [44] 45 [] [(44,.op (.load false 1 (.t 0)) [.op (.fieldAddr 0 (.t 0)) [.t 9]])] [sb [0],sb []]
def X26_12:=hS R26_12 R26_12p0 R26_12t1 [43] [44] [9,43,44,45,46,47,48,49,50]
def X26_12t1:=hP R26_12t1 R26_12t2 [44] [9,43,44,45,46,47,48,49,50] ⟨some 45,.call (.c (.fn 46 [] [])) [.t 44],none⟩
def T26_12t2:=hT R26_12t2 [9,43,44,45,46,47,48,49,50] [51] 52 [] [(51,.pick (.t 45) (.op (.bin .gtr (.t 0) (.c (.s (.int .i64 8)))) [.op (.lenS .s (.t 0)) [.op (.load false 1 (.t 0)) [.op (.fieldAddr 6 (.t 0)) [.t 9]]],.c (.s (.int .i64 8))]) (.c (.s (.bool false))))] [.tt 45,.sub 0 [1,0,0,0] [46],.sub 0 [1,0,0] [46],.sub 0 [1,0] [46],.sub 0 [1] [46],sb []]
def X26_12t2:=hL R26_12t2 [9,43,44,45,46,47,48,49,50] [51]
def R26_13t2:LO:=[⟨some 3,.move (.c (.s (.bool true))),none⟩]
def R26_13t1:LO:=⟨none,.store 3 (.t 2) (.t 55),none⟩ :: R26_13t2
def R26_13p0:LO:=[oM 52 4,oM 53 6,oM 54 8,⟨some 55,.build [.s (.int .i64 0),.s (.int .i64 0),.s (.int .i64 0)] [(0,1),(1,1),(2,1)] [(0,.t 52),(1,.t 53),(2,.t 54)],none⟩]
def R26_13:LO:=R26_13p0 ++ R26_13t1
def T26_13p0:=hT R26_13p0 [4,6,8,14,15,16,28,29,30,36,37,38,51,52,53,54] [55] 56 [] [(55,.op (.build [.s (.int .i64 0),.s (.int .i64 0),.s (.int .i64 0)] [(0,1),(1,1),(2,1)] [(0,.t 0),(1,.t 1),(2,.t 2)]) [.t 4,.t 6,.t 8])] [.tt 4,.tt 6,.tt 8,sb []]
def X26_13:=hS R26_13 R26_13p0 R26_13t1 [4,6,8,14,15,16,28,29,30,36,37,38,51,52,53,54] [55] [4,6,8,14,15,16,28,29,30,36,37,38,51,52,53,54,55]
def X26_13t1:=hP R26_13t1 R26_13t2 [55] [4,6,8,14,15,16,28,29,30,36,37,38,51,52,53,54,55] ⟨none,.store 3 (.t 2) (.t 55),none⟩
def T26_13t2:=hT R26_13t2 [4,6,8,14,15,16,28,29,30,36,37,38,51,52,53,54,55] [3] 4 [] [(3,.c (.s (.bool true)))] [.cc (.s (.bool true))]
def X26_13t2:=hL R26_13t2 [4,6,8,14,15,16,28,29,30,36,37,38,51,52,53,54,55] [3]
def R26_14:LO:=[⟨some 56,.bin .add (.t 38) (.c (.s (.int .i64 1))),none⟩,oM 38 56]
def T26_14:=hT R26_14 [8,51,56] [38] 57 [] [(38,.op (.bin .add (.t 0) (.c (.s (.int .i64 1)))) [.t 38,.c (.s (.int .i64 1))])] [sb [],sb []]
def s_f26_l0_b:ACode:=
 (.seq (.regionE R26_10 [] [39])
 (.seq (.cond (.t 39)
 .skip
 (.exit 4))
 (.seq (.block 5
 (.seq (.region R26_11 [] [39,40,41,42])
 (.seq (.region R26_12 [] [9,43,44,45,46,47,48,49,50])
 (.cond (.t 51)
 (.seq (.region R26_13 [] [4,6,8,14,15,16,28,29,30,36,37,38,51,52,53,54,55])
 .ret)
 .skip))))
 (.regionE R26_14 [8,51,56] [38]))))
def s_f26_l0:ACode:=s_f26_l0_b
def s_f26_l0_ev:=hE s_f26_l0 s_f26_l0_b
def R26_15:LO:=[⟨some 57,.bin .add (.t 30) (.c (.s (.int .i64 1))),none⟩,oM 30 57]
def T26_15:=hT R26_15 [6,36,37,38,39,57] [30] 58 [] [(30,.op (.bin .add (.t 0) (.c (.s (.int .i64 1)))) [.t 30,.c (.s (.int .i64 1))])] [sb [],sb []]
def s_f26_l1_b:ACode:=
 (.seq (.regionE R26_7 [] [31])
 (.seq (.cond (.t 31)
 .skip
 (.exit 2))
 (.seq (.block 3
 (.seq (.region R26_8 [] [31,32,33,34])
 (.seq (.regionE R26_9 [7,35] [36,37,38])
 (.block 4
 (.loop [] s_f26_l0)))))
 (.regionE R26_15 [6,36,37,38,39,57] [30]))))
def s_f26_l1:ACode:=s_f26_l1_b
def s_f26_l1_ev:=hE s_f26_l1 s_f26_l1_b
def R26_16:LO:=[⟨some 58,.bin .add (.t 16) (.c (.s (.int .i64 1))),none⟩,oM 16 58]
def T26_16:=hT R26_16 [4,28,29,30,31,58] [16] 59 [] [(16,.op (.bin .add (.t 0) (.c (.s (.int .i64 1)))) [.t 16,.c (.s (.int .i64 1))])] [sb [],sb []]
def s_f26_l2_b:ACode:=
 (.seq (.regionE R26_2 [] [17])
 (.seq (.cond (.t 17)
 .skip
 (.exit 0))
 (.seq (.block 1
 (.seq (.region R26_3 [] [17,18,19,20])
 (.seq (.seq (.regionE R26_4 [21,22,23] [24])
 (.cond (.t 24)
 (.seq (.region R26_5 [] [4,5,14,15,16,24,25,26])
 .ret)
 .skip))
 (.seq (.regionE R26_6 [5,24,27] [28,29,30])
 (.block 2
 (.loop [] s_f26_l1))))))
 (.regionE R26_16 [4,28,29,30,31,58] [16]))))
def s_f26_l2:ACode:=s_f26_l2_b
def s_f26_l2_ev:=hE s_f26_l2 s_f26_l2_b
def R26_17t2:LO:=[⟨some 3,.move (.c (.s (.bool false))),none⟩]
def R26_17t1:LO:=⟨none,.store 3 (.t 2) (.t 59),none⟩ :: R26_17t2
def R26_17p0:LO:=[⟨some 59,.build [.s (.int .i64 0),.s (.int .i64 0),.s (.int .i64 0)] [(0,1),(1,1),(2,1)] [],none⟩]
def R26_17:LO:=R26_17p0 ++ R26_17t1
def T26_17p0:=hT R26_17p0 [14,15,16,17] [59] 60 [] [(59,.op (.build [.s (.int .i64 0),.s (.int .i64 0),.s (.int .i64 0)] [(0,1),(1,1),(2,1)] []) [])] [sb []]
def X26_17:=hS R26_17 R26_17p0 R26_17t1 [14,15,16,17] [59] [14,15,16,17,59]
def X26_17t1:=hP R26_17t1 R26_17t2 [59] [14,15,16,17,59] ⟨none,.store 3 (.t 2) (.t 59),none⟩
def T26_17t2:=hT R26_17t2 [14,15,16,17,59] [3] 4 [] [(3,.c (.s (.bool false)))] [.cc (.s (.bool false))]
def X26_17t2:=hL R26_17t2 [14,15,16,17,59] [3]
def s_f26:ACFun:={ ntmps:=60,results:=[.cell 2 true 3,.tmp 3],body:=
 (.seq (.region R26_0 [] K26_0)
 (.seq (.seq (.regionE R26_1 [0,10,11,12,13] [14,15,16])
 (.block 0
 (.loop [] s_f26_l2)))
 (.seq (.region R26_17 [] [14,15,16,17,59])
 .ret))) }
theorem s_f26_first:firstOk (List.range' 1 (s_f26.ntmps - 1)) s_f26.body=true:=by kernel_rfl
abbrev k_f27:Nat:=27
def K27_0:List Nat:=[1,3,4,5,6,7]
def A27_0_0:=hK K27_0 0
def A27_0_2:=hK K27_0 2
def A27_0_3:=hQ K27_0 3
def R27_0t1:LO:=[⟨some 3,.move (.c (.s (.bool false))),none⟩]
def R27_0:LO:=⟨some 2,.alloc [.s (.int .i64 0),.s (.int .i64 0),.s (.int .i64 0)],none⟩ :: R27_0t1
def X27_0:=hP R27_0 R27_0t1 [1,3,4,5,6,7] K27_0 ⟨some 2,.alloc [.s (.int .i64 0),.s (.int .i64 0),.s (.int .i64 0)],none⟩
def T27_0t1:=hT R27_0t1 K27_0 [] 4 [] [] [.cc (.s (.bool false))]
def X27_0t1:=hL R27_0t1 K27_0 []
def R27_1t4:LO:=[oM 3 7]
def R27_1t3:LO:=⟨none,.store 3 (.t 2) (.t 6),none⟩ :: R27_1t4
def R27_1p2:LO:=[⟨some 6,.extract (.t 5) 0,none⟩,⟨some 7,.extract (.t 5) 1,none⟩]
def R27_1t2:LO:=R27_1p2 ++ R27_1t3
def R27_1t1:LO:=⟨some 5,.call (.c (.fn 43 [] [])) [.t 4,.c (.fn 47 [] [])],none⟩ :: R27_1t2
def R27_1p0:LO:=[oM 4 0]
def R27_1:LO:=R27_1p0 ++ R27_1t1
def T27_1p0:=hT R27_1p0 [0] [4] 5 [] [(4,.t 0)] [.tt 0]
def X27_1:=hS R27_1 R27_1p0 R27_1t1 [0] [4] [0,4,5,6,7]
def X27_1t1:=hP R27_1t1 R27_1t2 [4] [0,4,5,6,7] ⟨some 5,.call (.c (.fn 43 [] [])) [.t 4,.c (.fn 47 [] [])],none⟩
def T27_1p2:=hT R27_1p2 [5] [6,7] 8 [] [(6,.op (.extract (.t 0) 0) [.t 5]),(7,.op (.extract (.t 0) 1) [.t 5])] [sb [],.sub 1 [] []]
def X27_1t2:=hS R27_1t2 R27_1p2 R27_1t3 [5] [6,7] [0,4,5,6,7]
def X27_1t3:=hP R27_1t3 R27_1t4 [6] [0,4,5,6,7] ⟨none,.store 3 (.t 2) (.t 6),none⟩
def T27_1t4:=hT R27_1t4 [0,4,5,6,7] [3] 4 [] [(3,.t 7)] [.tt 7]
def X27_1t4:=hL R27_1t4 [0,4,5,6,7] [3]
def s_f27:ACFun:={ ntmps:=8,results:=[.cell 2 true 3,.tmp 3],body:=
 (.seq (.region R27_0 [] K27_0)
 (.seq (.region R27_1 [] [0,4,5,6,7])
 .ret)) }
theorem s_f27_first:firstOk (List.range' 1 (s_f27.ntmps - 1)) s_f27.body=true:=by kernel_rfl
abbrev k_f28:Nat:=28
def K28_0:List Nat:=[1] ++ List.range' 3 39
def A28_0_0:=hK K28_0 0
def A28_0_2:=hK K28_0 2
def A28_0_3:=hQ K28_0 3
def R28_0t1:LO:=[⟨some 3,.move (.c (.s (.bool false))),none⟩]
def R28_0:LO:=⟨some 2,.alloc [.s (.int .i64 0),.s (.int .i64 0),.s (.int .i64 0)],none⟩ :: R28_0t1
def X28_0:=hP R28_0 R28_0t1 [1,3,4,5,6,7,8,9,10,11,12,13,14,15,16,17,18,19,20,21,22,23,24,25,26,27,28,29,30,31,32,33,34,35,36,37,38,39,40,41] K28_0 ⟨some 2,.alloc [.s (.int .i64 0),.s (.int .i64 0),.s (.int .i64 0)],none⟩
def T28_0t1:=hT R28_0t1 K28_0 [] 4 [] [] [.cc (.s (.bool false))]
def X28_0t1:=hL R28_0t1 K28_0 []
def R28_1:LO:=[oM 9 0,⟨some 10,.nilCheck (.t 9),none⟩,oF 11 0 10,oF 12 0 11,oL 13 12,⟨some 14,.lenS .s (.t 13),none⟩,⟨some 15,.move (.c (.s (.int .i64 0))),none⟩]
def T28_1:=hT R28_1 [0,9,10,11,12] [13,14,15] 16 [] [(13,.op (.load false 1 (.t 0)) [.op (.fieldAddr 0 (.t 0)) [.op (.fieldAddr 0 (.t 0)) [.op (.nilCheck (.t 0)) [.t 0]]]]),(14,.op (.lenS .s (.t 0)) [.op (.load false 1 (.t 0)) [.op (.fieldAddr 0 (.t 0)) [.op (.fieldAddr 0 (.t 0)) [.op (.nilCheck (.t 0)) [.t 0]]]]]),(15,.c (.s (.int .i64 0)))] [.tt 0,sb [0,0,0],sb [0,0],sb [0],sb [],.sub 1 [] [],.cc (.s (.int .i64 0))]
def R28_2:LO:=[⟨some 16,.bin .lss (.t 15) (.t 14),none⟩]
def T28_2:=hT R28_2 [] [16] 17 [] [(16,.op (.bin .lss (.t 0) (.t 1)) [.t 15,.t 14])] [sb []]
def R28_3t3:LO:=[⟨none,.store 3 (.t 5) (.t 19),none⟩]
def R28_3p2:LO:=[oM 4 17]
def R28_3t2:LO:=R28_3p2 ++ R28_3t3
def R28_3t1:LO:=⟨some 5,.alloc [.s (.string ⟨#[]⟩),.s (.slice none 0 0),.s (.slice none 0 0)],none⟩ :: R28_3t2
def R28_3p0:LO:=[oM 17 15,⟨some 18,.indexAddr 3 (.t 13) (.t 15),none⟩,⟨some 19,.load true 3 (.t 18),none⟩]
def R28_3:LO:=R28_3p0 ++ R28_3t1
def T28_3p0:=hT R28_3p0 [16,18] [17,19] 20 [] [(17,.t 15),(19,.op (.load true 3 (.t 0)) [.op (.indexAddr 3 (.t 0) (.t 1)) [.t 13,.t 15]])] [.tt 15,.sub 1 [0] [],.sub 1 [] []]
def X28_3:=hS R28_3 R28_3p0 R28_3t1 [16,18] [17,19] [16,17,18,19]
def X28_3t1:=hP R28_3t1 R28_3t2 [] [16,17,18,19] ⟨some 5,.alloc [.s (.string ⟨#[]⟩),.s (.slice none 0 0),.s (.slice none 0 0)],none⟩
def T28_3p2:=hT R28_3p2 [17] [4] 5 [] [(4,.t 17)] [.tt 17]
def X28_3t2:=hS R28_3t2 R28_3p2 R28_3t3 [17] [4] [16,17,18,19]
def X28_3t3:=hX R28_3t3 [16,17,18,19] [⟨none,.store 3 (.t 5) (.t 19),none⟩]
def R28_4t1:LO:=[oM 6 20]
def R28_4:LO:=⟨some 20,.mapNew,none⟩ :: R28_4t1
def X28_4:=hP R28_4 R28_4t1 [] [20] ⟨some 20,.mapNew,none⟩
def T28_4t1:=hT R28_4t1 [20] [6] 7 [] [(6,.t 20)] [.tt 20]
def X28_4t1:=hL R28_4t1 [20] [6]
def R28_5:LO:=[oF 21 2 5,oL 22 21,⟨some 23,.lenS .s (.t 22),none⟩,⟨some 24,.move (.c (.s (.int .i64 0))),none⟩]
def T28_5:=hT R28_5 [5,21] [22,23,24] 25 [] [(22,.op (.load false 1 (.t 0)) [.op (.fieldAddr 2 (.t 0)) [.t 5]]),(23,.op (.lenS .s (.t 0)) [.op (.load false 1 (.t 0)) [.op (.fieldAddr 2 (.t 0)) [.t 5]]]),(24,.c (.s (.int .i64 0)))] [sb [0],sb [],.sub 1 [] [],.cc (.s (.int .i64 0))]
def R28_6:LO:=[⟨some 25,.bin .lss (.t 24) (.t 23),none⟩]
def T28_6:=hT R28_6 [] [25] 26 [] [(25,.op (.bin .lss (.t 0) (.t 1)) [.t 24,.t 23])] [sb []]
def R28_7t3:LO:=[⟨none,.store 2 (.t 8) (.t 28),none⟩]
def R28_7p2:LO:=[oM 7 26]
def R28_7t2:LO:=R28_7p2 ++ R28_7t3
def R28_7t1:LO:=⟨some 8,.alloc [.s (.string ⟨#[]⟩),.s (.slice none 0 0)],none⟩ :: R28_7t2
def R28_7p0:LO:=[oM 26 24,⟨some 27,.indexAddr 2 (.t 22) (.t 24),none⟩,⟨some 28,.load true 2 (.t 27),none⟩]
def R28_7:LO:=R28_7p0 ++ R28_7t1
def T28_7p0:=hT R28_7p0 [25,27] [26,28] 29 [] [(26,.t 24),(28,.op (.load true 2 (.t 0)) [.op (.indexAddr 2 (.t 0) (.t 1)) [.t 22,.t 24]])] [.tt 24,.sub 1 [0] [],.sub 1 [] []]
def X28_7:=hS R28_7 R28_7p0 R28_7t1 [25,27] [26,28] [25,26,27,28]
def X28_7t1:=hP R28_7t1 R28_7t2 [] [25,26,27,28] ⟨some 8,.alloc [.s (.string ⟨#[]⟩),.s (.slice none 0 0)],none⟩
def T28_7p2:=hT R28_7p2 [26] [7] 8 [] [(7,.t 26)] [.tt 26]
def X28_7t2:=hS R28_7t2 R28_7p2 R28_7t3 [26] [7] [25,26,27,28]
def X28_7t3:=hX R28_7t3 [25,26,27,28] [⟨none,.store 2 (.t 8) (.t 28),none⟩]
def R28_8:LO:=[oM 29 6,oF 30 0 8,oL 31 30,⟨some 32,.mapGet .string (.s (.bool false)) (.t 29) (.t 31) false,none⟩]
def T28_8:=hT R28_8 [29,30,31] [32] 33 [] [(32,.op (.mapGet .string (.s (.bool false)) (.t 0) (.t 1) false) [.t 6,.op (.load false 1 (.t 0)) [.op (.fieldAddr 0 (.t 0)) [.t 8]]])] [.tt 6,sb [1,0],sb [1],sb []]
def R28_9t2:LO:=[⟨some 3,.move (.c (.s (.bool true))),none⟩]
def R28_9t1:LO:=⟨none,.store 3 (.t 2) (.t 35),none⟩ :: R28_9t2
def R28_9p0:LO:=[oM 33 4,oM 34 7,⟨some 35,.build [.s (.int .i64 0),.s (.int .i64 0),.s (.int .i64 0)] [(0,1),(1,1),(2,1)] [(0,.t 33),(1,.t 34)],none⟩]
def R28_9:LO:=R28_9p0 ++ R28_9t1
def T28_9p0:=hT R28_9p0 [4,6,7,8,13,14,15,22,23,24,32,33,34] [35] 36 [] [(35,.op (.build [.s (.int .i64 0),.s (.int .i64 0),.s (.int .i64 0)] [(0,1),(1,1),(2,1)] [(0,.t 0),(1,.t 1)]) [.t 4,.t 7])] [.tt 4,.tt 7,sb []]
def X28_9:=hS R28_9 R28_9p0 R28_9t1 [4,6,7,8,13,14,15,22,23,24,32,33,34] [35] [4,6,7,8,13,14,15,22,23,24,32,33,34,35]
def X28_9t1:=hP R28_9t1 R28_9t2 [35] [4,6,7,8,13,14,15,22,23,24,32,33,34,35] ⟨none,.store 3 (.t 2) (.t 35),none⟩
def T28_9t2:=hT R28_9t2 [4,6,7,8,13,14,15,22,23,24,32,33,34,35] [3] 4 [] [(3,.c (.s (.bool true)))] [.cc (.s (.bool true))]
def X28_9t2:=hL R28_9t2 [4,6,7,8,13,14,15,22,23,24,32,33,34,35] [3]
def R28_10t1:LO:=[⟨none,.mapUpd .string (.t 36) (.t 38) (.c (.s (.bool true))),none⟩]
def R28_10p0:LO:=[oM 36 6,oF 37 0 8,oL 38 37]
def R28_10:LO:=R28_10p0 ++ R28_10t1
def T28_10p0:=hT R28_10p0 [7,8,32,37] [36,38] 39 [] [(36,.t 6),(38,.op (.load false 1 (.t 0)) [.op (.fieldAddr 0 (.t 0)) [.t 8]])] [.tt 6,.sub 1 [0] [],.sub 1 [] []]
def X28_10:=hS R28_10 R28_10p0 R28_10t1 [7,8,32,37] [36,38] [7,8,32,36,37,38]
def X28_10t1:=hX R28_10t1 [7,8,32,36,37,38] [⟨none,.mapUpd .string (.t 36) (.t 38) (.c (.s (.bool true))),none⟩]
def R28_11:LO:=[⟨some 39,.bin .add (.t 24) (.c (.s (.int .i64 1))),none⟩,oM 24 39]
def T28_11:=hT R28_11 [39] [24] 40 [] [(24,.op (.bin .add (.t 0) (.c (.s (.int .i64 1)))) [.t 24,.c (.s (.int .i64 1))])] [sb [],sb []]
def s_f28_l0_b:ACode:=
 (.seq (.regionE R28_6 [] [25])
 (.seq (.cond (.t 25)
 .skip
 (.exit 2))
 (.seq (.block 3
 (.seq (.region R28_7 [] [25,26,27,28])
 (.seq (.seq (.regionE R28_8 [29,30,31] [32])
 (.cond (.t 32)
 (.seq (.region R28_9 [] [4,6,7,8,13,14,15,22,23,24,32,33,34,35])
 .ret)
 .skip))
 (.region R28_10 [] [7,8,32,36,37,38]))))
 (.regionE R28_11 [39] [24]))))
def s_f28_l0:ACode:=s_f28_l0_b
def s_f28_l0_ev:=hE s_f28_l0 s_f28_l0_b
def R28_12:LO:=[⟨some 40,.bin .add (.t 15) (.c (.s (.int .i64 1))),none⟩,oM 15 40]
def T28_12:=hT R28_12 [4,6,22,23,24,25,40] [15] 41 [] [(15,.op (.bin .add (.t 0) (.c (.s (.int .i64 1)))) [.t 15,.c (.s (.int .i64 1))])] [sb [],sb []]
def s_f28_l1_b:ACode:=
 (.seq (.regionE R28_2 [] [16])
 (.seq (.cond (.t 16)
 .skip
 (.exit 0))
 (.seq (.block 1
 (.seq (.region R28_3 [] [16,17,18,19])
 (.seq (.region R28_4 [] [20])
 (.seq (.regionE R28_5 [5,21] [22,23,24])
 (.block 2
 (.loop [] s_f28_l0))))))
 (.regionE R28_12 [4,6,22,23,24,25,40] [15]))))
def s_f28_l1:ACode:=s_f28_l1_b
def s_f28_l1_ev:=hE s_f28_l1 s_f28_l1_b
def R28_13t2:LO:=[⟨some 3,.move (.c (.s (.bool false))),none⟩]
def R28_13t1:LO:=⟨none,.store 3 (.t 2) (.t 41),none⟩ :: R28_13t2
def R28_13p0:LO:=[⟨some 41,.build [.s (.int .i64 0),.s (.int .i64 0),.s (.int .i64 0)] [(0,1),(1,1),(2,1)] [],none⟩]
def R28_13:LO:=R28_13p0 ++ R28_13t1
def T28_13p0:=hT R28_13p0 [13,14,15,16] [41] 42 [] [(41,.op (.build [.s (.int .i64 0),.s (.int .i64 0),.s (.int .i64 0)] [(0,1),(1,1),(2,1)] []) [])] [sb []]
def X28_13:=hS R28_13 R28_13p0 R28_13t1 [13,14,15,16] [41] [13,14,15,16,41]
def X28_13t1:=hP R28_13t1 R28_13t2 [41] [13,14,15,16,41] ⟨none,.store 3 (.t 2) (.t 41),none⟩
def T28_13t2:=hT R28_13t2 [13,14,15,16,41] [3] 4 [] [(3,.c (.s (.bool false)))] [.cc (.s (.bool false))]
def X28_13t2:=hL R28_13t2 [13,14,15,16,41] [3]
def s_f28:ACFun:={ ntmps:=42,results:=[.cell 2 true 3,.tmp 3],body:=
 (.seq (.region R28_0 [] K28_0)
 (.seq (.seq (.regionE R28_1 [0,9,10,11,12] [13,14,15])
 (.block 0
 (.loop [] s_f28_l1)))
 (.seq (.region R28_13 [] [13,14,15,16,41])
 .ret))) }
theorem s_f28_first:firstOk (List.range' 1 (s_f28.ntmps - 1)) s_f28.body=true:=by kernel_rfl
abbrev k_f29:Nat:=29
def K29_0:List Nat:=[1,3,4,5,6,7,8,9]
def A29_0_0:=hK K29_0 0
def A29_0_2:=hK K29_0 2
def A29_0_3:=hQ K29_0 3
def R29_0t1:LO:=[⟨some 3,.move (.c (.s (.bool false))),none⟩]
def R29_0:LO:=⟨some 2,.alloc [.s (.int .i64 0),.s (.int .i64 0),.s (.int .i64 0)],none⟩ :: R29_0t1
def X29_0:=hP R29_0 R29_0t1 [1,3,4,5,6,7,8,9] K29_0 ⟨some 2,.alloc [.s (.int .i64 0),.s (.int .i64 0),.s (.int .i64 0)],none⟩
def T29_0t1:=hT R29_0t1 K29_0 [] 4 [] [] [.cc (.s (.bool false))]
def X29_0t1:=hL R29_0t1 K29_0 []
def R29_1t1:LO:=[⟨none,.store 1 (.t 4) (.c (.s (.int .i64 0))),none⟩]
def R29_1:LO:=⟨some 4,.alloc [.s (.int .i64 0)],none⟩ :: R29_1t1
def X29_1:=hP R29_1 R29_1t1 [] [] ⟨some 4,.alloc [.s (.int .i64 0)],none⟩
def X29_1t1:=hX R29_1t1 [] [⟨none,.store 1 (.t 4) (.c (.s (.int .i64 0))),none⟩]
def R29_2t4:LO:=[oM 3 9]
def R29_2t3:LO:=⟨none,.store 3 (.t 2) (.t 8),none⟩ :: R29_2t4
def R29_2p2:LO:=[⟨some 8,.extract (.t 7) 0,none⟩,⟨some 9,.extract (.t 7) 1,none⟩]
def R29_2t2:LO:=R29_2p2 ++ R29_2t3
def R29_2t1:LO:=⟨some 7,.call (.c (.fn 48 [] [])) [.t 5,.t 6],none⟩ :: R29_2t2
def R29_2p0:LO:=[oM 5 0,⟨some 6,.mkFn 49 [] [.t 4],none⟩]
def R29_2:LO:=R29_2p0 ++ R29_2t1
def T29_2p0:=hT R29_2p0 [0,4] [5,6] 7 [] [(5,.t 0),(6,.op (.mkFn 49 [] [.t 0]) [.t 4])] [.tt 0,.sub 1 [] []]
def X29_2:=hS R29_2 R29_2p0 R29_2t1 [0,4] [5,6] [0,4,5,6,7,8,9]
def X29_2t1:=hP R29_2t1 R29_2t2 [5,6] [0,4,5,6,7,8,9] ⟨some 7,.call (.c (.fn 48 [] [])) [.t 5,.t 6],none⟩
def T29_2p2:=hT R29_2p2 [7] [8,9] 10 [] [(8,.op (.extract (.t 0) 0) [.t 7]),(9,.op (.extract (.t 0) 1) [.t 7])] [sb [],.sub 1 [] []]
def X29_2t2:=hS R29_2t2 R29_2p2 R29_2t3 [7] [8,9] [0,4,5,6,7,8,9]
def X29_2t3:=hP R29_2t3 R29_2t4 [8] [0,4,5,6,7,8,9] ⟨none,.store 3 (.t 2) (.t 8),none⟩
def T29_2t4:=hT R29_2t4 [0,4,5,6,7,8,9] [3] 4 [] [(3,.t 9)] [.tt 9]
def X29_2t4:=hL R29_2t4 [0,4,5,6,7,8,9] [3]
def s_f29:ACFun:={ ntmps:=10,results:=[.cell 2 true 3,.tmp 3],body:=
 (.seq (.region R29_0 [] K29_0)
 (.seq (.region R29_1 [] [])
 (.seq (.region R29_2 [] [0,4,5,6,7,8,9])
 .ret))) }
theorem s_f29_first:firstOk (List.range' 1 (s_f29.ntmps - 1)) s_f29.body=true:=by kernel_rfl
abbrev k_f31:Nat:=31
def K31_0:List Nat:=[1] ++ List.range' 3 59
def A31_0_0:=hK K31_0 0
def A31_0_2:=hK K31_0 2
def A31_0_3:=hQ K31_0 3
def R31_0t1:LO:=[⟨some 3,.move (.c (.s (.bool false))),none⟩]
def R31_0p0:LO:=[⟨some 2,.alloc [.s (.int .i64 0),.s (.int .i64 0),.s (.int .i64 0)],none⟩]
def R31_0:LO:=R31_0p0 ++ R31_0t1
def K31_0p0:List Nat:=[1] ++ List.range' 3 59
def A31_0p0_0:=hK K31_0p0 0
def A31_0p0_2:=hK K31_0p0 2
def A31_0p0_3:=hQ K31_0p0 3
theorem X31_0 (call:CallF) (it:IterF) (base:Nat) (f:List V) (H:Heap):evC call it base (.region R31_0 [] K31_0) f H=thenC call it base (.region R31_0t1 [] K31_0) (opsC [] R31_0p0 K31_0p0 (evOps call base [⟨some 2,.alloc [.s (.int .i64 0),.s (.int .i64 0),.s (.int .i64 0)],none⟩] f H)):=(row_op call it base R31_0p0 R31_0t1 (kc:=K31_0p0) (by kernel_rfl) f H).trans (by rw [row_ops];rfl)
def T31_0t1:=hT R31_0t1 K31_0 [] 4 [] [] [.cc (.s (.bool false))]
def X31_0t1:=hL R31_0t1 K31_0 []
def R31_1:LO:=[oM 10 0,⟨some 11,.nilCheck (.t 10),none⟩,oF 12 0 11,oF 13 0 12,oL 14 13,⟨some 15,.lenS .s (.t 14),none⟩,⟨some 16,.move (.c (.s (.int .i64 0))),none⟩]
def T31_1:=hT R31_1 [0,10,11,12,13] [14,15,16] 17 [] [(14,.op (.load false 1 (.t 0)) [.op (.fieldAddr 0 (.t 0)) [.op (.fieldAddr 0 (.t 0)) [.op (.nilCheck (.t 0)) [.t 0]]]]),(15,.op (.lenS .s (.t 0)) [.op (.load false 1 (.t 0)) [.op (.fieldAddr 0 (.t 0)) [.op (.fieldAddr 0 (.t 0)) [.op (.nilCheck (.t 0)) [.t 0]]]]]),(16,.c (.s (.int .i64 0)))] [.tt 0,sb [0,0,0],sb [0,0],sb [0],sb [],.sub 1 [] [],.cc (.s (.int .i64 0))]
def R31_2:LO:=[⟨some 17,.bin .lss (.t 16) (.t 15),none⟩]
def T31_2:=hT R31_2 [] [17] 18 [] [(17,.op (.bin .lss (.t 0) (.t 1)) [.t 16,.t 15])] [sb []]
def R31_3t3:LO:=[⟨none,.store 3 (.t 5) (.t 20),none⟩]
def R31_3p2:LO:=[oM 4 18]
def R31_3t2:LO:=R31_3p2 ++ R31_3t3
def R31_3t1:LO:=⟨some 5,.alloc [.s (.string ⟨#[]⟩),.s (.slice none 0 0),.s (.slice none 0 0)],none⟩ :: R31_3t2
def R31_3p0:LO:=[oM 18 16,⟨some 19,.indexAddr 3 (.t 14) (.t 16),none⟩,⟨some 20,.load true 3 (.t 19),none⟩]
def R31_3:LO:=R31_3p0 ++ R31_3t1
def T31_3p0:=hT R31_3p0 [17,19] [18,20] 21 [] [(18,.t 16),(20,.op (.load true 3 (.t 0)) [.op (.indexAddr 3 (.t 0) (.t 1)) [.t 14,.t 16]])] [.tt 16,.sub 1 [0] [],.sub 1 [] []]
def X31_3:=hS R31_3 R31_3p0 R31_3t1 [17,19] [18,20] [17,18,19,20]
def X31_3t1:=hP R31_3t1 R31_3t2 [] [17,18,19,20] ⟨some 5,.alloc [.s (.string ⟨#[]⟩),.s (.slice none 0 0),.s (.slice none 0 0)],none⟩
def T31_3p2:=hT R31_3p2 [18] [4] 5 [] [(4,.t 18)] [.tt 18]
def X31_3t2:=hS R31_3t2 R31_3p2 R31_3t3 [18] [4] [17,18,19,20]
def X31_3t3:=hX R31_3t3 [17,18,19,20] [⟨none,.store 3 (.t 5) (.t 20),none⟩]
def R31_4:LO:=[oF 21 2 5,oL 22 21,⟨some 23,.lenS .s (.t 22),none⟩,⟨some 24,.move (.c (.s (.int .i64 0))),none⟩]
def T31_4:=hT R31_4 [5,21] [22,23,24] 25 [] [(22,.op (.load false 1 (.t 0)) [.op (.fieldAddr 2 (.t 0)) [.t 5]]),(23,.op (.lenS .s (.t 0)) [.op (.load false 1 (.t 0)) [.op (.fieldAddr 2 (.t 0)) [.t 5]]]),(24,.c (.s (.int .i64 0)))] [sb [0],sb [],.sub 1 [] [],.cc (.s (.int .i64 0))]
def R31_5:LO:=[⟨some 25,.bin .lss (.t 24) (.t 23),none⟩]
def T31_5:=hT R31_5 [] [25] 26 [] [(25,.op (.bin .lss (.t 0) (.t 1)) [.t 24,.t 23])] [sb []]
def R31_6t3:LO:=[⟨none,.store 2 (.t 7) (.t 28),none⟩]
def R31_6p2:LO:=[oM 6 26]
def R31_6t2:LO:=R31_6p2 ++ R31_6t3
def R31_6t1:LO:=⟨some 7,.alloc [.s (.string ⟨#[]⟩),.s (.slice none 0 0)],none⟩ :: R31_6t2
def R31_6p0:LO:=[oM 26 24,⟨some 27,.indexAddr 2 (.t 22) (.t 24),none⟩,⟨some 28,.load true 2 (.t 27),none⟩]
def R31_6:LO:=R31_6p0 ++ R31_6t1
def T31_6p0:=hT R31_6p0 [25,27] [26,28] 29 [] [(26,.t 24),(28,.op (.load true 2 (.t 0)) [.op (.indexAddr 2 (.t 0) (.t 1)) [.t 22,.t 24]])] [.tt 24,.sub 1 [0] [],.sub 1 [] []]
def X31_6:=hS R31_6 R31_6p0 R31_6t1 [25,27] [26,28] [25,26,27,28]
def X31_6t1:=hP R31_6t1 R31_6t2 [] [25,26,27,28] ⟨some 7,.alloc [.s (.string ⟨#[]⟩),.s (.slice none 0 0)],none⟩
def T31_6p2:=hT R31_6p2 [26] [6] 7 [] [(6,.t 26)] [.tt 26]
def X31_6t2:=hS R31_6t2 R31_6p2 R31_6t3 [26] [6] [25,26,27,28]
def X31_6t3:=hX R31_6t3 [25,26,27,28] [⟨none,.store 2 (.t 7) (.t 28),none⟩]
def R31_7:LO:=[oF 29 1 7,oL 30 29,⟨some 31,.lenS .s (.t 30),none⟩,⟨some 32,.bin .eql (.t 31) (.c (.s (.int .i64 0))),none⟩]
def T31_7:=hT R31_7 [29,30,31] [32] 33 [] [(32,.op (.bin .eql (.t 0) (.c (.s (.int .i64 0)))) [.op (.lenS .s (.t 0)) [.op (.load false 1 (.t 0)) [.op (.fieldAddr 1 (.t 0)) [.t 7]]],.c (.s (.int .i64 0))])] [sb [0,0,0],sb [0,0],sb [0],sb []]
def R31_8t2:LO:=[⟨some 3,.move (.c (.s (.bool true))),none⟩]
def R31_8t1:LO:=⟨none,.store 3 (.t 2) (.t 35),none⟩ :: R31_8t2
def R31_8p0:LO:=[oM 33 4,oM 34 6,⟨some 35,.build [.s (.int .i64 0),.s (.int .i64 0),.s (.int .i64 0)] [(0,1),(1,1),(2,1)] [(0,.t 33),(1,.t 34)],none⟩]
def R31_8:LO:=R31_8p0 ++ R31_8t1
def T31_8p0:=hT R31_8p0 [4,6,7,14,15,16,22,23,24,32,33,34] [35] 36 [] [(35,.op (.build [.s (.int .i64 0),.s (.int .i64 0),.s (.int .i64 0)] [(0,1),(1,1),(2,1)] [(0,.t 0),(1,.t 1)]) [.t 4,.t 6])] [.tt 4,.tt 6,sb []]
def X31_8:=hS R31_8 R31_8p0 R31_8t1 [4,6,7,14,15,16,22,23,24,32,33,34] [35] [4,6,7,14,15,16,22,23,24,32,33,34,35]
def X31_8t1:=hP R31_8t1 R31_8t2 [35] [4,6,7,14,15,16,22,23,24,32,33,34,35] ⟨none,.store 3 (.t 2) (.t 35),none⟩
def T31_8t2:=hT R31_8t2 [4,6,7,14,15,16,22,23,24,32,33,34,35] [3] 4 [] [(3,.c (.s (.bool true)))] [.cc (.s (.bool true))]
def X31_8t2:=hL R31_8t2 [4,6,7,14,15,16,22,23,24,32,33,34,35] [3]
def R31_9:LO:=[oF 36 1 7,oL 37 36,⟨some 38,.lenS .s (.t 37),none⟩,⟨some 39,.move (.c (.s (.int .i64 0))),none⟩]
def T31_9:=hT R31_9 [32,36] [37,38,39] 40 [] [(37,.op (.load false 1 (.t 0)) [.op (.fieldAddr 1 (.t 0)) [.t 7]]),(38,.op (.lenS .s (.t 0)) [.op (.load false 1 (.t 0)) [.op (.fieldAddr 1 (.t 0)) [.t 7]]]),(39,.c (.s (.int .i64 0)))] [sb [0],sb [],.sub 1 [] [],.cc (.s (.int .i64 0))]
def R31_10:LO:=[⟨some 40,.bin .lss (.t 39) (.t 38),none⟩]
def T31_10:=hT R31_10 [] [40] 41 [] [(40,.op (.bin .lss (.t 0) (.t 1)) [.t 39,.t 38])] [sb []]
def R31_11t3:LO:=[⟨none,.store 8 (.t 9) (.t 43),none⟩]
def R31_11p2:LO:=[oM 8 41]
def R31_11t2:LO:=R31_11p2 ++ R31_11t3
def R31_11t1:LO:=⟨some 9,.alloc [.s (.int .u8 0),.s (.string ⟨#[]⟩),.s (.string ⟨#[]⟩),.s (.string ⟨#[]⟩),.s (.int .i64 0),.s (.string ⟨#[]⟩),.s (.slice none 0 0),.s (.slice none 0 0)],none⟩ :: R31_11t2
def R31_11p0:LO:=[oM 41 39,⟨some 42,.indexAddr 8 (.t 37) (.t 39),none⟩,⟨some 43,.load true 8 (.t 42),none⟩]
def R31_11:LO:=R31_11p0 ++ R31_11t1
def T31_11p0:=hT R31_11p0 [40,42] [41,43] 44 [] [(41,.t 39),(43,.op (.load true 8 (.t 0)) [.op (.indexAddr 8 (.t 0) (.t 1)) [.t 37,.t 39]])] [.tt 39,.sub 1 [0] [],.sub 1 [] []]
def X31_11:=hS R31_11 R31_11p0 R31_11t1 [40,42] [41,43] [40,41,42,43]
def X31_11t1:=hP R31_11t1 R31_11t2 [] [40,41,42,43] ⟨some 9,.alloc [.s (.int .u8 0),.s (.string ⟨#[]⟩),.s (.string ⟨#[]⟩),.s (.string ⟨#[]⟩),.s (.int .i64 0),.s (.string ⟨#[]⟩),.s (.slice none 0 0),.s (.slice none 0 0)],none⟩
def T31_11p2:=hT R31_11p2 [41] [8] 9 [] [(8,.t 41)] [.tt 41]
def X31_11t2:=hS R31_11t2 R31_11p2 R31_11t3 [41] [8] [40,41,42,43]
def X31_11t3:=hX R31_11t3 [40,41,42,43] [⟨none,.store 8 (.t 9) (.t 43),none⟩]
def R31_12t2:LO:=[oM 47 8,oF 48 1 7,oL 49 48,⟨some 50,.lenS .s (.t 49),none⟩,⟨some 51,.bin .sub (.t 50) (.c (.s (.int .i64 1))),none⟩,⟨some 52,.bin .eql (.t 47) (.t 51),none⟩,⟨some 53,.eqB true (.t 46) (.t 52),none⟩]
def R31_12t1:LO:=⟨some 46,.callR (.c (.fn 51 [] [])) [.t 45],none⟩ :: R31_12t2
def R31_12p0:LO:=[oF 44 0 9,oL 45 44]
def R31_12:LO:=R31_12p0 ++ R31_12t1
def T31_12p0:=hT R31_12p0 [9,44] [45] 46 [] [(45,.op (.load false 1 (.t 0)) [.op (.fieldAddr 0 (.t 0)) [.t 9]])] [sb [0],sb []]
def X31_12:=hS R31_12 R31_12p0 R31_12t1 [9,44] [45] [9,44,45,46,47,48,49,50,51,52]
def X31_12t1:=hP R31_12t1 R31_12t2 [45] [9,44,45,46,47,48,49,50,51,52] ⟨some 46,.callR (.c (.fn 51 [] [])) [.t 45],none⟩
def T31_12t2:=hT R31_12t2 [9,44,45,46,47,48,49,50,51,52] [53] 54 [] [(53,.op (.eqB true (.t 0) (.t 1)) [.t 46,.op (.bin .eql (.t 0) (.t 1)) [.t 8,.op (.bin .sub (.t 0) (.c (.s (.int .i64 1)))) [.op (.lenS .s (.t 0)) [.op (.load false 1 (.t 0)) [.op (.fieldAddr 1 (.t 0)) [.t 7]]],.c (.s (.int .i64 1))]]])] [.tt 8,sb [1,1,0,0,0],sb [1,1,0,0],sb [1,1,0],sb [1,1],sb [1],sb []]
def X31_12t2:=hL R31_12t2 [9,44,45,46,47,48,49,50,51,52] [53]
def R31_13t2:LO:=[⟨some 3,.move (.c (.s (.bool true))),none⟩]
def R31_13t1:LO:=⟨none,.store 3 (.t 2) (.t 57),none⟩ :: R31_13t2
def R31_13p0:LO:=[oM 54 4,oM 55 6,oM 56 8,⟨some 57,.build [.s (.int .i64 0),.s (.int .i64 0),.s (.int .i64 0)] [(0,1),(1,1),(2,1)] [(0,.t 54),(1,.t 55),(2,.t 56)],none⟩]
def R31_13:LO:=R31_13p0 ++ R31_13t1
def T31_13p0:=hT R31_13p0 [4,6,7,8,14,15,16,22,23,24,37,38,39,53,54,55,56] [57] 58 [] [(57,.op (.build [.s (.int .i64 0),.s (.int .i64 0),.s (.int .i64 0)] [(0,1),(1,1),(2,1)] [(0,.t 0),(1,.t 1),(2,.t 2)]) [.t 4,.t 6,.t 8])] [.tt 4,.tt 6,.tt 8,sb []]
def X31_13:=hS R31_13 R31_13p0 R31_13t1 [4,6,7,8,14,15,16,22,23,24,37,38,39,53,54,55,56] [57] [4,6,7,8,14,15,16,22,23,24,37,38,39,53,54,55,56,57]
def X31_13t1:=hP R31_13t1 R31_13t2 [57] [4,6,7,8,14,15,16,22,23,24,37,38,39,53,54,55,56,57] ⟨none,.store 3 (.t 2) (.t 57),none⟩
def T31_13t2:=hT R31_13t2 [4,6,7,8,14,15,16,22,23,24,37,38,39,53,54,55,56,57] [3] 4 [] [(3,.c (.s (.bool true)))] [.cc (.s (.bool true))]
def X31_13t2:=hL R31_13t2 [4,6,7,8,14,15,16,22,23,24,37,38,39,53,54,55,56,57] [3]
def R31_14:LO:=[⟨some 58,.bin .add (.t 39) (.c (.s (.int .i64 1))),none⟩,oM 39 58]
def T31_14:=hT R31_14 [8,53,58] [39] 59 [] [(39,.op (.bin .add (.t 0) (.c (.s (.int .i64 1)))) [.t 39,.c (.s (.int .i64 1))])] [sb [],sb []]
def s_f31_l0_b:ACode:=
 (.seq (.regionE R31_10 [] [40])
 (.seq (.cond (.t 40)
 .skip
 (.exit 4))
 (.seq (.block 5
 (.seq (.region R31_11 [] [40,41,42,43])
 (.seq (.region R31_12 [] [9,44,45,46,47,48,49,50,51,52])
 (.cond (.t 53)
 (.seq (.region R31_13 [] [4,6,7,8,14,15,16,22,23,24,37,38,39,53,54,55,56,57])
 .ret)
 .skip))))
 (.regionE R31_14 [8,53,58] [39]))))
def s_f31_l0:ACode:=s_f31_l0_b
def s_f31_l0_ev:=hE s_f31_l0 s_f31_l0_b
def R31_15:LO:=[⟨some 59,.bin .add (.t 24) (.c (.s (.int .i64 1))),none⟩,oM 24 59]
def T31_15:=hT R31_15 [6,7,37,38,39,40,59] [24] 60 [] [(24,.op (.bin .add (.t 0) (.c (.s (.int .i64 1)))) [.t 24,.c (.s (.int .i64 1))])] [sb [],sb []]
def s_f31_l1_b:ACode:=
 (.seq (.regionE R31_5 [] [25])
 (.seq (.cond (.t 25)
 .skip
 (.exit 2))
 (.seq (.block 3
 (.seq (.region R31_6 [] [25,26,27,28])
 (.seq (.seq (.regionE R31_7 [29,30,31] [32])
 (.cond (.t 32)
 (.seq (.region R31_8 [] [4,6,7,14,15,16,22,23,24,32,33,34,35])
 .ret)
 .skip))
 (.seq (.regionE R31_9 [32,36] [37,38,39])
 (.block 4
 (.loop [] s_f31_l0))))))
 (.regionE R31_15 [6,7,37,38,39,40,59] [24]))))
def s_f31_l1:ACode:=s_f31_l1_b
def s_f31_l1_ev:=hE s_f31_l1 s_f31_l1_b
def R31_16:LO:=[⟨some 60,.bin .add (.t 16) (.c (.s (.int .i64 1))),none⟩,oM 16 60]
def T31_16:=hT R31_16 [4,22,23,24,25,60] [16] 61 [] [(16,.op (.bin .add (.t 0) (.c (.s (.int .i64 1)))) [.t 16,.c (.s (.int .i64 1))])] [sb [],sb []]
def s_f31_l2_b:ACode:=
 (.seq (.regionE R31_2 [] [17])
 (.seq (.cond (.t 17)
 .skip
 (.exit 0))
 (.seq (.block 1
 (.seq (.region R31_3 [] [17,18,19,20])
 (.seq (.regionE R31_4 [5,21] [22,23,24])
 (.block 2
 (.loop [] s_f31_l1)))))
 (.regionE R31_16 [4,22,23,24,25,60] [16]))))
def s_f31_l2:ACode:=s_f31_l2_b
def s_f31_l2_ev:=hE s_f31_l2 s_f31_l2_b
def R31_17t2:LO:=[⟨some 3,.move (.c (.s (.bool false))),none⟩]
def R31_17t1:LO:=⟨none,.store 3 (.t 2) (.t 61),none⟩ :: R31_17t2
def R31_17p0:LO:=[⟨some 61,.build [.s (.int .i64 0),.s (.int .i64 0),.s (.int .i64 0)] [(0,1),(1,1),(2,1)] [],none⟩]
def R31_17:LO:=R31_17p0 ++ R31_17t1
def T31_17p0:=hT R31_17p0 [14,15,16,17] [61] 62 [] [(61,.op (.build [.s (.int .i64 0),.s (.int .i64 0),.s (.int .i64 0)] [(0,1),(1,1),(2,1)] []) [])] [sb []]
def X31_17:=hS R31_17 R31_17p0 R31_17t1 [14,15,16,17] [61] [14,15,16,17,61]
def X31_17t1:=hP R31_17t1 R31_17t2 [61] [14,15,16,17,61] ⟨none,.store 3 (.t 2) (.t 61),none⟩
def T31_17t2:=hT R31_17t2 [14,15,16,17,61] [3] 4 [] [(3,.c (.s (.bool false)))] [.cc (.s (.bool false))]
def X31_17t2:=hL R31_17t2 [14,15,16,17,61] [3]
def s_f31:ACFun:={ ntmps:=62,results:=[.cell 2 true 3,.tmp 3],body:=
 (.seq (.region R31_0 [] K31_0)
 (.seq (.seq (.regionE R31_1 [0,10,11,12,13] [14,15,16])
 (.block 0
 (.loop [] s_f31_l2)))
 (.seq (.region R31_17 [] [14,15,16,17,61])
 .ret))) }
theorem s_f31_first:firstOk (List.range' 1 (s_f31.ntmps - 1)) s_f31.body=true:=by kernel_rfl
abbrev k_f32:Nat:=32
def K32_0:List Nat:=[0,3,4,5,6,7,8]
def A32_0_0:=hQ K32_0 0
def A32_0_1:=hK K32_0 1
def A32_0_2:=hK K32_0 2
def A32_0_3:=hQ K32_0 3
def R32_0t2:LO:=[⟨some 3,.move (.c (.s (.bool false))),none⟩]
def R32_0t1:LO:=⟨some 2,.alloc [.s (.int .i64 0),.s (.int .i64 0),.s (.int .i64 0)],none⟩ :: R32_0t2
def R32_0:LO:=⟨some 1,.box (.t 0),none⟩ :: R32_0t1
def X32_0:=hP R32_0 R32_0t1 [0,2,3,4,5,6,7,8] K32_0 ⟨some 1,.box (.t 0),none⟩
def X32_0t1:=hP R32_0t1 R32_0t2 [] K32_0 ⟨some 2,.alloc [.s (.int .i64 0),.s (.int .i64 0),.s (.int .i64 0)],none⟩
def T32_0t2:=hT R32_0t2 K32_0 [] 4 [] [] [.cc (.s (.bool false))]
def X32_0t2:=hL R32_0t2 K32_0 []
def R32_1t4:LO:=[oM 3 8]
def R32_1t3:LO:=⟨none,.store 3 (.t 2) (.t 7),none⟩ :: R32_1t4
def R32_1p2:LO:=[⟨some 7,.extract (.t 6) 0,none⟩,⟨some 8,.extract (.t 6) 1,none⟩]
def R32_1t2:LO:=R32_1p2 ++ R32_1t3
def R32_1t1:LO:=⟨some 6,.call (.c (.fn 48 [] [])) [.t 4,.t 5],none⟩ :: R32_1t2
def R32_1p0:LO:=[oL 4 1,⟨some 5,.mkFn 52 [] [.t 1],none⟩]
def R32_1:LO:=R32_1p0 ++ R32_1t1
def T32_1p0:=hT R32_1p0 [1] [4,5] 6 [] [(4,.op (.load false 1 (.t 0)) [.t 1]),(5,.op (.mkFn 52 [] [.t 0]) [.t 1])] [sb [],.sub 1 [] []]
def X32_1:=hS R32_1 R32_1p0 R32_1t1 [1] [4,5] [1,4,5,6,7,8]
def X32_1t1:=hP R32_1t1 R32_1t2 [4,5] [1,4,5,6,7,8] ⟨some 6,.call (.c (.fn 48 [] [])) [.t 4,.t 5],none⟩
def T32_1p2:=hT R32_1p2 [6] [7,8] 9 [] [(7,.op (.extract (.t 0) 0) [.t 6]),(8,.op (.extract (.t 0) 1) [.t 6])] [sb [],.sub 1 [] []]
def X32_1t2:=hS R32_1t2 R32_1p2 R32_1t3 [6] [7,8] [1,4,5,6,7,8]
def X32_1t3:=hP R32_1t3 R32_1t4 [7] [1,4,5,6,7,8] ⟨none,.store 3 (.t 2) (.t 7),none⟩
def T32_1t4:=hT R32_1t4 [1,4,5,6,7,8] [3] 4 [] [(3,.t 8)] [.tt 8]
def X32_1t4:=hL R32_1t4 [1,4,5,6,7,8] [3]
def s_f32:ACFun:={ ntmps:=9,results:=[.cell 2 true 3,.tmp 3],body:=
 (.seq (.region R32_0 [] K32_0)
 (.seq (.region R32_1 [] [1,4,5,6,7,8])
 .ret)) }
theorem s_f32_first:firstOk (List.range' 1 (s_f32.ntmps - 1)) s_f32.body=true:=by kernel_rfl
abbrev k_f33:Nat:=33
def K33_0:List Nat:=[0,3,4,5,6,7,8]
def A33_0_0:=hQ K33_0 0
def A33_0_1:=hK K33_0 1
def A33_0_2:=hK K33_0 2
def A33_0_3:=hQ K33_0 3
def R33_0t2:LO:=[⟨some 3,.move (.c (.s (.bool false))),none⟩]
def R33_0t1:LO:=⟨some 2,.alloc [.s (.int .i64 0),.s (.int .i64 0),.s (.int .i64 0)],none⟩ :: R33_0t2
def R33_0:LO:=⟨some 1,.box (.t 0),none⟩ :: R33_0t1
def X33_0:=hP R33_0 R33_0t1 [0,2,3,4,5,6,7,8] K33_0 ⟨some 1,.box (.t 0),none⟩
def X33_0t1:=hP R33_0t1 R33_0t2 [] K33_0 ⟨some 2,.alloc [.s (.int .i64 0),.s (.int .i64 0),.s (.int .i64 0)],none⟩
def T33_0t2:=hT R33_0t2 K33_0 [] 4 [] [] [.cc (.s (.bool false))]
def X33_0t2:=hL R33_0t2 K33_0 []
def R33_1t4:LO:=[oM 3 8]
def R33_1t3:LO:=⟨none,.store 3 (.t 2) (.t 7),none⟩ :: R33_1t4
def R33_1p2:LO:=[⟨some 7,.extract (.t 6) 0,none⟩,⟨some 8,.extract (.t 6) 1,none⟩]
def R33_1t2:LO:=R33_1p2 ++ R33_1t3
def R33_1t1:LO:=⟨some 6,.call (.c (.fn 48 [] [])) [.t 4,.t 5],none⟩ :: R33_1t2
def R33_1p0:LO:=[oL 4 1,⟨some 5,.mkFn 55 [] [.t 1],none⟩]
def R33_1:LO:=R33_1p0 ++ R33_1t1
def T33_1p0:=hT R33_1p0 [1] [4,5] 6 [] [(4,.op (.load false 1 (.t 0)) [.t 1]),(5,.op (.mkFn 55 [] [.t 0]) [.t 1])] [sb [],.sub 1 [] []]
def X33_1:=hS R33_1 R33_1p0 R33_1t1 [1] [4,5] [1,4,5,6,7,8]
def X33_1t1:=hP R33_1t1 R33_1t2 [4,5] [1,4,5,6,7,8] ⟨some 6,.call (.c (.fn 48 [] [])) [.t 4,.t 5],none⟩
def T33_1p2:=hT R33_1p2 [6] [7,8] 9 [] [(7,.op (.extract (.t 0) 0) [.t 6]),(8,.op (.extract (.t 0) 1) [.t 6])] [sb [],.sub 1 [] []]
def X33_1t2:=hS R33_1t2 R33_1p2 R33_1t3 [6] [7,8] [1,4,5,6,7,8]
def X33_1t3:=hP R33_1t3 R33_1t4 [7] [1,4,5,6,7,8] ⟨none,.store 3 (.t 2) (.t 7),none⟩
def T33_1t4:=hT R33_1t4 [1,4,5,6,7,8] [3] 4 [] [(3,.t 8)] [.tt 8]
def X33_1t4:=hL R33_1t4 [1,4,5,6,7,8] [3]
def s_f33:ACFun:={ ntmps:=9,results:=[.cell 2 true 3,.tmp 3],body:=
 (.seq (.region R33_0 [] K33_0)
 (.seq (.region R33_1 [] [1,4,5,6,7,8])
 .ret)) }
theorem s_f33_first:firstOk (List.range' 1 (s_f33.ntmps - 1)) s_f33.body=true:=by kernel_rfl
abbrev k_f34:Nat:=34
def K34_0:List Nat:=[0,3,4,5,6,7,8]
def A34_0_0:=hQ K34_0 0
def A34_0_1:=hK K34_0 1
def A34_0_2:=hK K34_0 2
def A34_0_3:=hQ K34_0 3
def R34_0t2:LO:=[⟨some 3,.move (.c (.s (.bool false))),none⟩]
def R34_0t1:LO:=⟨some 2,.alloc [.s (.int .i64 0),.s (.int .i64 0),.s (.int .i64 0)],none⟩ :: R34_0t2
def R34_0:LO:=⟨some 1,.box (.t 0),none⟩ :: R34_0t1
def X34_0:=hP R34_0 R34_0t1 [0,2,3,4,5,6,7,8] K34_0 ⟨some 1,.box (.t 0),none⟩
def X34_0t1:=hP R34_0t1 R34_0t2 [] K34_0 ⟨some 2,.alloc [.s (.int .i64 0),.s (.int .i64 0),.s (.int .i64 0)],none⟩
def T34_0t2:=hT R34_0t2 K34_0 [] 4 [] [] [.cc (.s (.bool false))]
def X34_0t2:=hL R34_0t2 K34_0 []
def R34_1t4:LO:=[oM 3 8]
def R34_1t3:LO:=⟨none,.store 3 (.t 2) (.t 7),none⟩ :: R34_1t4
def R34_1p2:LO:=[⟨some 7,.extract (.t 6) 0,none⟩,⟨some 8,.extract (.t 6) 1,none⟩]
def R34_1t2:LO:=R34_1p2 ++ R34_1t3
def R34_1t1:LO:=⟨some 6,.call (.c (.fn 48 [] [])) [.t 4,.t 5],none⟩ :: R34_1t2
def R34_1p0:LO:=[oL 4 1,⟨some 5,.mkFn 59 [] [.t 1],none⟩]
def R34_1:LO:=R34_1p0 ++ R34_1t1
def T34_1p0:=hT R34_1p0 [1] [4,5] 6 [] [(4,.op (.load false 1 (.t 0)) [.t 1]),(5,.op (.mkFn 59 [] [.t 0]) [.t 1])] [sb [],.sub 1 [] []]
def X34_1:=hS R34_1 R34_1p0 R34_1t1 [1] [4,5] [1,4,5,6,7,8]
def X34_1t1:=hP R34_1t1 R34_1t2 [4,5] [1,4,5,6,7,8] ⟨some 6,.call (.c (.fn 48 [] [])) [.t 4,.t 5],none⟩
def T34_1p2:=hT R34_1p2 [6] [7,8] 9 [] [(7,.op (.extract (.t 0) 0) [.t 6]),(8,.op (.extract (.t 0) 1) [.t 6])] [sb [],.sub 1 [] []]
def X34_1t2:=hS R34_1t2 R34_1p2 R34_1t3 [6] [7,8] [1,4,5,6,7,8]
def X34_1t3:=hP R34_1t3 R34_1t4 [7] [1,4,5,6,7,8] ⟨none,.store 3 (.t 2) (.t 7),none⟩
def T34_1t4:=hT R34_1t4 [1,4,5,6,7,8] [3] 4 [] [(3,.t 8)] [.tt 8]
def X34_1t4:=hL R34_1t4 [1,4,5,6,7,8] [3]
def s_f34:ACFun:={ ntmps:=9,results:=[.cell 2 true 3,.tmp 3],body:=
 (.seq (.region R34_0 [] K34_0)
 (.seq (.region R34_1 [] [1,4,5,6,7,8])
 .ret)) }
theorem s_f34_first:firstOk (List.range' 1 (s_f34.ntmps - 1)) s_f34.body=true:=by kernel_rfl
abbrev k_f35:Nat:=35
def K35_0:List Nat:=[0,3,4,5,6,7,8]
def A35_0_0:=hQ K35_0 0
def A35_0_1:=hK K35_0 1
def A35_0_2:=hK K35_0 2
def A35_0_3:=hQ K35_0 3
def R35_0t2:LO:=[⟨some 3,.move (.c (.s (.bool false))),none⟩]
def R35_0t1:LO:=⟨some 2,.alloc [.s (.int .i64 0),.s (.int .i64 0),.s (.int .i64 0)],none⟩ :: R35_0t2
def R35_0:LO:=⟨some 1,.box (.t 0),none⟩ :: R35_0t1
def X35_0:=hP R35_0 R35_0t1 [0,2,3,4,5,6,7,8] K35_0 ⟨some 1,.box (.t 0),none⟩
def X35_0t1:=hP R35_0t1 R35_0t2 [] K35_0 ⟨some 2,.alloc [.s (.int .i64 0),.s (.int .i64 0),.s (.int .i64 0)],none⟩
def T35_0t2:=hT R35_0t2 K35_0 [] 4 [] [] [.cc (.s (.bool false))]
def X35_0t2:=hL R35_0t2 K35_0 []
def R35_1t4:LO:=[oM 3 8]
def R35_1t3:LO:=⟨none,.store 3 (.t 2) (.t 7),none⟩ :: R35_1t4
def R35_1p2:LO:=[⟨some 7,.extract (.t 6) 0,none⟩,⟨some 8,.extract (.t 6) 1,none⟩]
def R35_1t2:LO:=R35_1p2 ++ R35_1t3
def R35_1t1:LO:=⟨some 6,.call (.c (.fn 48 [] [])) [.t 4,.t 5],none⟩ :: R35_1t2
def R35_1p0:LO:=[oL 4 1,⟨some 5,.mkFn 60 [] [.t 1],none⟩]
def R35_1:LO:=R35_1p0 ++ R35_1t1
def T35_1p0:=hT R35_1p0 [1] [4,5] 6 [] [(4,.op (.load false 1 (.t 0)) [.t 1]),(5,.op (.mkFn 60 [] [.t 0]) [.t 1])] [sb [],.sub 1 [] []]
def X35_1:=hS R35_1 R35_1p0 R35_1t1 [1] [4,5] [1,4,5,6,7,8]
def X35_1t1:=hP R35_1t1 R35_1t2 [4,5] [1,4,5,6,7,8] ⟨some 6,.call (.c (.fn 48 [] [])) [.t 4,.t 5],none⟩
def T35_1p2:=hT R35_1p2 [6] [7,8] 9 [] [(7,.op (.extract (.t 0) 0) [.t 6]),(8,.op (.extract (.t 0) 1) [.t 6])] [sb [],.sub 1 [] []]
def X35_1t2:=hS R35_1t2 R35_1p2 R35_1t3 [6] [7,8] [1,4,5,6,7,8]
def X35_1t3:=hP R35_1t3 R35_1t4 [7] [1,4,5,6,7,8] ⟨none,.store 3 (.t 2) (.t 7),none⟩
def T35_1t4:=hT R35_1t4 [1,4,5,6,7,8] [3] 4 [] [(3,.t 8)] [.tt 8]
def X35_1t4:=hL R35_1t4 [1,4,5,6,7,8] [3]
def s_f35:ACFun:={ ntmps:=9,results:=[.cell 2 true 3,.tmp 3],body:=
 (.seq (.region R35_0 [] K35_0)
 (.seq (.region R35_1 [] [1,4,5,6,7,8])
 .ret)) }
theorem s_f35_first:firstOk (List.range' 1 (s_f35.ntmps - 1)) s_f35.body=true:=by kernel_rfl
abbrev k_f36:Nat:=36
def K36_0:List Nat:=[1] ++ List.range' 3 73
def A36_0_0:=hK K36_0 0
def A36_0_2:=hK K36_0 2
def A36_0_3:=hQ K36_0 3
def R36_0t1:LO:=[⟨some 3,.move (.c (.s (.bool false))),none⟩]
def R36_0p0:LO:=[⟨some 2,.alloc [.s (.int .i64 0),.s (.int .i64 0),.s (.int .i64 0)],none⟩]
def R36_0:LO:=R36_0p0 ++ R36_0t1
def K36_0p0:List Nat:=[1] ++ List.range' 3 73
def A36_0p0_0:=hK K36_0p0 0
def A36_0p0_2:=hK K36_0p0 2
def A36_0p0_3:=hQ K36_0p0 3
theorem X36_0 (call:CallF) (it:IterF) (base:Nat) (f:List V) (H:Heap):evC call it base (.region R36_0 [] K36_0) f H=thenC call it base (.region R36_0t1 [] K36_0) (opsC [] R36_0p0 K36_0p0 (evOps call base [⟨some 2,.alloc [.s (.int .i64 0),.s (.int .i64 0),.s (.int .i64 0)],none⟩] f H)):=(row_op call it base R36_0p0 R36_0t1 (kc:=K36_0p0) (by kernel_rfl) f H).trans (by rw [row_ops];rfl)
def T36_0t1:=hT R36_0t1 K36_0 [] 4 [] [] [.cc (.s (.bool false))]
def X36_0t1:=hL R36_0t1 K36_0 []
def R36_1:LO:=[oM 13 0,⟨some 14,.nilCheck (.t 13),none⟩,oF 15 0 14,oF 16 0 15,oL 17 16,⟨some 18,.lenS .s (.t 17),none⟩,⟨some 19,.move (.c (.s (.int .i64 0))),none⟩]
def T36_1:=hT R36_1 [0,13,14,15,16] [17,18,19] 20 [] [(17,.op (.load false 1 (.t 0)) [.op (.fieldAddr 0 (.t 0)) [.op (.fieldAddr 0 (.t 0)) [.op (.nilCheck (.t 0)) [.t 0]]]]),(18,.op (.lenS .s (.t 0)) [.op (.load false 1 (.t 0)) [.op (.fieldAddr 0 (.t 0)) [.op (.fieldAddr 0 (.t 0)) [.op (.nilCheck (.t 0)) [.t 0]]]]]),(19,.c (.s (.int .i64 0)))] [.tt 0,sb [0,0,0],sb [0,0],sb [0],sb [],.sub 1 [] [],.cc (.s (.int .i64 0))]
def R36_2:LO:=[⟨some 20,.bin .lss (.t 19) (.t 18),none⟩]
def T36_2:=hT R36_2 [] [20] 21 [] [(20,.op (.bin .lss (.t 0) (.t 1)) [.t 19,.t 18])] [sb []]
def R36_3t3:LO:=[⟨none,.store 3 (.t 5) (.t 23),none⟩]
def R36_3p2:LO:=[oM 4 21]
def R36_3t2:LO:=R36_3p2 ++ R36_3t3
def R36_3t1:LO:=⟨some 5,.alloc [.s (.string ⟨#[]⟩),.s (.slice none 0 0),.s (.slice none 0 0)],none⟩ :: R36_3t2
def R36_3p0:LO:=[oM 21 19,⟨some 22,.indexAddr 3 (.t 17) (.t 19),none⟩,⟨some 23,.load true 3 (.t 22),none⟩]
def R36_3:LO:=R36_3p0 ++ R36_3t1
def T36_3p0:=hT R36_3p0 [20,22] [21,23] 24 [] [(21,.t 19),(23,.op (.load true 3 (.t 0)) [.op (.indexAddr 3 (.t 0) (.t 1)) [.t 17,.t 19]])] [.tt 19,.sub 1 [0] [],.sub 1 [] []]
def X36_3:=hS R36_3 R36_3p0 R36_3t1 [20,22] [21,23] [20,21,22,23]
def X36_3t1:=hP R36_3t1 R36_3t2 [] [20,21,22,23] ⟨some 5,.alloc [.s (.string ⟨#[]⟩),.s (.slice none 0 0),.s (.slice none 0 0)],none⟩
def T36_3p2:=hT R36_3p2 [21] [4] 5 [] [(4,.t 21)] [.tt 21]
def X36_3t2:=hS R36_3t2 R36_3p2 R36_3t3 [21] [4] [20,21,22,23]
def X36_3t3:=hX R36_3t3 [20,21,22,23] [⟨none,.store 3 (.t 5) (.t 23),none⟩]
def R36_4t1:LO:=[oM 6 24]
def R36_4:LO:=⟨some 24,.mapNew,none⟩ :: R36_4t1
def X36_4:=hP R36_4 R36_4t1 [] [24] ⟨some 24,.mapNew,none⟩
def T36_4t1:=hT R36_4t1 [24] [6] 7 [] [(6,.t 24)] [.tt 24]
def X36_4t1:=hL R36_4t1 [24] [6]
def R36_5:LO:=[oF 25 1 5,oL 26 25,⟨some 27,.lenS .s (.t 26),none⟩,⟨some 28,.move (.c (.s (.int .i64 0))),none⟩]
def T36_5:=hT R36_5 [25] [26,27,28] 29 [] [(26,.op (.load false 1 (.t 0)) [.op (.fieldAddr 1 (.t 0)) [.t 5]]),(27,.op (.lenS .s (.t 0)) [.op (.load false 1 (.t 0)) [.op (.fieldAddr 1 (.t 0)) [.t 5]]]),(28,.c (.s (.int .i64 0)))] [sb [0],sb [],.sub 1 [] [],.cc (.s (.int .i64 0))]
def R36_6:LO:=[⟨some 29,.bin .lss (.t 28) (.t 27),none⟩]
def T36_6:=hT R36_6 [] [29] 30 [] [(29,.op (.bin .lss (.t 0) (.t 1)) [.t 28,.t 27])] [sb []]
def R36_7:LO:=[⟨some 30,.indexAddr 1 (.t 26) (.t 28),none⟩,oL 31 30,oM 8 31]
def T36_7:=hT R36_7 [29,30,31] [8] 32 [] [(8,.op (.load false 1 (.t 0)) [.op (.indexAddr 1 (.t 0) (.t 1)) [.t 26,.t 28]])] [sb [0],sb [],sb []]
def R36_8:LO:=[oM 32 6,oM 33 8,⟨some 34,.mapGet .string (.s (.bool false)) (.t 32) (.t 33) false,none⟩]
def T36_8:=hT R36_8 [32,33] [34] 35 [] [(34,.op (.mapGet .string (.s (.bool false)) (.t 0) (.t 1) false) [.t 6,.t 8])] [.tt 6,.tt 8,sb []]
def R36_9t2:LO:=[⟨some 3,.move (.c (.s (.bool true))),none⟩]
def R36_9t1:LO:=⟨none,.store 3 (.t 2) (.t 36),none⟩ :: R36_9t2
def R36_9p0:LO:=[oM 35 4,⟨some 36,.build [.s (.int .i64 0),.s (.int .i64 0),.s (.int .i64 0)] [(0,1),(1,1),(2,1)] [(0,.t 35)],none⟩]
def R36_9:LO:=R36_9p0 ++ R36_9t1
def T36_9p0:=hT R36_9p0 [4,5,6,8,17,18,19,26,27,28,34,35] [36] 37 [] [(36,.op (.build [.s (.int .i64 0),.s (.int .i64 0),.s (.int .i64 0)] [(0,1),(1,1),(2,1)] [(0,.t 0)]) [.t 4])] [.tt 4,sb []]
def X36_9:=hS R36_9 R36_9p0 R36_9t1 [4,5,6,8,17,18,19,26,27,28,34,35] [36] [4,5,6,8,17,18,19,26,27,28,34,35,36]
def X36_9t1:=hP R36_9t1 R36_9t2 [36] [4,5,6,8,17,18,19,26,27,28,34,35,36] ⟨none,.store 3 (.t 2) (.t 36),none⟩
def T36_9t2:=hT R36_9t2 [4,5,6,8,17,18,19,26,27,28,34,35,36] [3] 4 [] [(3,.c (.s (.bool true)))] [.cc (.s (.bool true))]
def X36_9t2:=hL R36_9t2 [4,5,6,8,17,18,19,26,27,28,34,35,36] [3]
def R36_10t1:LO:=[⟨none,.mapUpd .string (.t 37) (.t 38) (.c (.s (.bool true))),none⟩]
def R36_10p0:LO:=[oM 37 6,oM 38 8]
def R36_10:LO:=R36_10p0 ++ R36_10t1
def T36_10p0:=hT R36_10p0 [8,34] [37,38] 39 [] [(37,.t 6),(38,.t 8)] [.tt 6,.tt 8]
def X36_10:=hS R36_10 R36_10p0 R36_10t1 [8,34] [37,38] [8,34,37,38]
def X36_10t1:=hX R36_10t1 [8,34,37,38] [⟨none,.mapUpd .string (.t 37) (.t 38) (.c (.s (.bool true))),none⟩]
def R36_11:LO:=[⟨some 39,.bin .add (.t 28) (.c (.s (.int .i64 1))),none⟩,oM 28 39]
def T36_11:=hT R36_11 [39] [28] 40 [] [(28,.op (.bin .add (.t 0) (.c (.s (.int .i64 1)))) [.t 28,.c (.s (.int .i64 1))])] [sb [],sb []]
def s_f36_l0_b:ACode:=
 (.seq (.regionE R36_6 [] [29])
 (.seq (.cond (.t 29)
 .skip
 (.exit 2))
 (.seq (.block 3
 (.seq (.regionE R36_7 [29,30,31] [8])
 (.seq (.seq (.regionE R36_8 [32,33] [34])
 (.cond (.t 34)
 (.seq (.region R36_9 [] [4,5,6,8,17,18,19,26,27,28,34,35,36])
 .ret)
 .skip))
 (.region R36_10 [] [8,34,37,38]))))
 (.regionE R36_11 [39] [28]))))
def s_f36_l0:ACode:=s_f36_l0_b
def s_f36_l0_ev:=hE s_f36_l0 s_f36_l0_b
def R36_12:LO:=[oF 40 2 5,oL 41 40,⟨some 42,.lenS .s (.t 41),none⟩,⟨some 43,.move (.c (.s (.int .i64 0))),none⟩]
def T36_12:=hT R36_12 [5,26,27,28,29,40] [41,42,43] 44 [] [(41,.op (.load false 1 (.t 0)) [.op (.fieldAddr 2 (.t 0)) [.t 5]]),(42,.op (.lenS .s (.t 0)) [.op (.load false 1 (.t 0)) [.op (.fieldAddr 2 (.t 0)) [.t 5]]]),(43,.c (.s (.int .i64 0)))] [sb [0],sb [],.sub 1 [] [],.cc (.s (.int .i64 0))]
def R36_13:LO:=[⟨some 44,.bin .lss (.t 43) (.t 42),none⟩]
def T36_13:=hT R36_13 [] [44] 45 [] [(44,.op (.bin .lss (.t 0) (.t 1)) [.t 43,.t 42])] [sb []]
def R36_14t3:LO:=[⟨none,.store 2 (.t 10) (.t 47),none⟩]
def R36_14p2:LO:=[oM 9 45]
def R36_14t2:LO:=R36_14p2 ++ R36_14t3
def R36_14t1:LO:=⟨some 10,.alloc [.s (.string ⟨#[]⟩),.s (.slice none 0 0)],none⟩ :: R36_14t2
def R36_14p0:LO:=[oM 45 43,⟨some 46,.indexAddr 2 (.t 41) (.t 43),none⟩,⟨some 47,.load true 2 (.t 46),none⟩]
def R36_14:LO:=R36_14p0 ++ R36_14t1
def T36_14p0:=hT R36_14p0 [44,46] [45,47] 48 [] [(45,.t 43),(47,.op (.load true 2 (.t 0)) [.op (.indexAddr 2 (.t 0) (.t 1)) [.t 41,.t 43]])] [.tt 43,.sub 1 [0] [],.sub 1 [] []]
def X36_14:=hS R36_14 R36_14p0 R36_14t1 [44,46] [45,47] [44,45,46,47]
def X36_14t1:=hP R36_14t1 R36_14t2 [] [44,45,46,47] ⟨some 10,.alloc [.s (.string ⟨#[]⟩),.s (.slice none 0 0)],none⟩
def T36_14p2:=hT R36_14p2 [45] [9] 10 [] [(9,.t 45)] [.tt 45]
def X36_14t2:=hS R36_14t2 R36_14p2 R36_14t3 [45] [9] [44,45,46,47]
def X36_14t3:=hX R36_14t3 [44,45,46,47] [⟨none,.store 2 (.t 10) (.t 47),none⟩]
def R36_15:LO:=[oF 48 1 10,oL 49 48,⟨some 50,.lenS .s (.t 49),none⟩,⟨some 51,.move (.c (.s (.int .i64 0))),none⟩]
def T36_15:=hT R36_15 [10,48] [49,50,51] 52 [] [(49,.op (.load false 1 (.t 0)) [.op (.fieldAddr 1 (.t 0)) [.t 10]]),(50,.op (.lenS .s (.t 0)) [.op (.load false 1 (.t 0)) [.op (.fieldAddr 1 (.t 0)) [.t 10]]]),(51,.c (.s (.int .i64 0)))] [sb [0],sb [],.sub 1 [] [],.cc (.s (.int .i64 0))]
def R36_16:LO:=[⟨some 52,.bin .lss (.t 51) (.t 50),none⟩]
def T36_16:=hT R36_16 [] [52] 53 [] [(52,.op (.bin .lss (.t 0) (.t 1)) [.t 51,.t 50])] [sb []]
def R36_17t3:LO:=[⟨none,.store 8 (.t 12) (.t 55),none⟩]
def R36_17p2:LO:=[oM 11 53]
def R36_17t2:LO:=R36_17p2 ++ R36_17t3
def R36_17t1:LO:=⟨some 12,.alloc [.s (.int .u8 0),.s (.string ⟨#[]⟩),.s (.string ⟨#[]⟩),.s (.string ⟨#[]⟩),.s (.int .i64 0),.s (.string ⟨#[]⟩),.s (.slice none 0 0),.s (.slice none 0 0)],none⟩ :: R36_17t2
def R36_17p0:LO:=[oM 53 51,⟨some 54,.indexAddr 8 (.t 49) (.t 51),none⟩,⟨some 55,.load true 8 (.t 54),none⟩]
def R36_17:LO:=R36_17p0 ++ R36_17t1
def T36_17p0:=hT R36_17p0 [52,54] [53,55] 56 [] [(53,.t 51),(55,.op (.load true 8 (.t 0)) [.op (.indexAddr 8 (.t 0) (.t 1)) [.t 49,.t 51]])] [.tt 51,.sub 1 [0] [],.sub 1 [] []]
def X36_17:=hS R36_17 R36_17p0 R36_17t1 [52,54] [53,55] [52,53,54,55]
def X36_17t1:=hP R36_17t1 R36_17t2 [] [52,53,54,55] ⟨some 12,.alloc [.s (.int .u8 0),.s (.string ⟨#[]⟩),.s (.string ⟨#[]⟩),.s (.string ⟨#[]⟩),.s (.int .i64 0),.s (.string ⟨#[]⟩),.s (.slice none 0 0),.s (.slice none 0 0)],none⟩
def T36_17p2:=hT R36_17p2 [53] [11] 12 [] [(11,.t 53)] [.tt 53]
def X36_17t2:=hS R36_17t2 R36_17p2 R36_17t3 [53] [11] [52,53,54,55]
def X36_17t3:=hX R36_17t3 [52,53,54,55] [⟨none,.store 8 (.t 12) (.t 55),none⟩]
def R36_18:LO:=[oF 56 1 12,oL 57 56,⟨some 58,.bin .neq (.t 57) (.c (.s (.string ⟨#[]⟩))),none⟩,oM 59 58,gM 60 6 59 true,gF 61 1 12 59 true,gL 62 61 59 true,⟨some 63,.mapGet .string (.s (.bool false)) (.t 60) (.t 62) false,some (59,true)⟩,⟨some 64,.pick (.t 59) (.t 63) (.c (.s (.bool false))),none⟩]
def T36_18:=hT R36_18 [56,57,58,59,60,61,62,63] [64] 65 [] [(64,.pick (.op (.bin .neq (.t 0) (.c (.s (.string ⟨#[]⟩)))) [.op (.load false 1 (.t 0)) [.op (.fieldAddr 1 (.t 0)) [.t 12]],.c (.s (.string ⟨#[]⟩))]) (.op (.mapGet .string (.s (.bool false)) (.t 0) (.t 1) false) [.t 6,.op (.load false 1 (.t 0)) [.op (.fieldAddr 1 (.t 0)) [.t 12]]]) (.c (.s (.bool false))))] [sb [0,0,0],sb [0,0],sb [0],sb [0],.sub 0 [1,0] [59],.sub 0 [1,1,0] [59],.sub 0 [1,1] [59],.sub 0 [1] [59],sb []]
def R36_19t2:LO:=[⟨some 3,.move (.c (.s (.bool true))),none⟩]
def R36_19t1:LO:=⟨none,.store 3 (.t 2) (.t 68),none⟩ :: R36_19t2
def R36_19p0:LO:=[oM 65 4,oM 66 9,oM 67 11,⟨some 68,.build [.s (.int .i64 0),.s (.int .i64 0),.s (.int .i64 0)] [(0,1),(1,1),(2,1)] [(0,.t 65),(1,.t 66),(2,.t 67)],none⟩]
def R36_19:LO:=R36_19p0 ++ R36_19t1
def T36_19p0:=hT R36_19p0 [4,6,9,11,12,17,18,19,41,42,43,49,50,51,64,65,66,67] [68] 69 [] [(68,.op (.build [.s (.int .i64 0),.s (.int .i64 0),.s (.int .i64 0)] [(0,1),(1,1),(2,1)] [(0,.t 0),(1,.t 1),(2,.t 2)]) [.t 4,.t 9,.t 11])] [.tt 4,.tt 9,.tt 11,sb []]
def X36_19:=hS R36_19 R36_19p0 R36_19t1 [4,6,9,11,12,17,18,19,41,42,43,49,50,51,64,65,66,67] [68] [4,6,9,11,12,17,18,19,41,42,43,49,50,51,64,65,66,67,68]
def X36_19t1:=hP R36_19t1 R36_19t2 [68] [4,6,9,11,12,17,18,19,41,42,43,49,50,51,64,65,66,67,68] ⟨none,.store 3 (.t 2) (.t 68),none⟩
def T36_19t2:=hT R36_19t2 [4,6,9,11,12,17,18,19,41,42,43,49,50,51,64,65,66,67,68] [3] 4 [] [(3,.c (.s (.bool true)))] [.cc (.s (.bool true))]
def X36_19t2:=hL R36_19t2 [4,6,9,11,12,17,18,19,41,42,43,49,50,51,64,65,66,67,68] [3]
def R36_20t1:LO:=[⟨none,.mapUpd .string (.t 69) (.t 71) (.c (.s (.bool true))),none⟩]
def R36_20p0:LO:=[oM 69 6,oF 70 1 12,oL 71 70]
def R36_20:LO:=R36_20p0 ++ R36_20t1
def T36_20p0:=hT R36_20p0 [11,12,64,70] [69,71] 72 [] [(69,.t 6),(71,.op (.load false 1 (.t 0)) [.op (.fieldAddr 1 (.t 0)) [.t 12]])] [.tt 6,.sub 1 [0] [],.sub 1 [] []]
def X36_20:=hS R36_20 R36_20p0 R36_20t1 [11,12,64,70] [69,71] [11,12,64,69,70,71]
def X36_20t1:=hX R36_20t1 [11,12,64,69,70,71] [⟨none,.mapUpd .string (.t 69) (.t 71) (.c (.s (.bool true))),none⟩]
def R36_21:LO:=[⟨some 72,.bin .add (.t 51) (.c (.s (.int .i64 1))),none⟩,oM 51 72]
def T36_21:=hT R36_21 [72] [51] 73 [] [(51,.op (.bin .add (.t 0) (.c (.s (.int .i64 1)))) [.t 51,.c (.s (.int .i64 1))])] [sb [],sb []]
def s_f36_l1_b:ACode:=
 (.seq (.regionE R36_16 [] [52])
 (.seq (.cond (.t 52)
 .skip
 (.exit 6))
 (.seq (.block 7
 (.seq (.region R36_17 [] [52,53,54,55])
 (.seq (.seq (.regionE R36_18 [56,57,58,59,60,61,62,63] [64])
 (.cond (.t 64)
 (.seq (.region R36_19 [] [4,6,9,11,12,17,18,19,41,42,43,49,50,51,64,65,66,67,68])
 .ret)
 .skip))
 (.region R36_20 [] [11,12,64,69,70,71]))))
 (.regionE R36_21 [72] [51]))))
def s_f36_l1:ACode:=s_f36_l1_b
def s_f36_l1_ev:=hE s_f36_l1 s_f36_l1_b
def R36_22:LO:=[⟨some 73,.bin .add (.t 43) (.c (.s (.int .i64 1))),none⟩,oM 43 73]
def T36_22:=hT R36_22 [9,49,50,51,52,73] [43] 74 [] [(43,.op (.bin .add (.t 0) (.c (.s (.int .i64 1)))) [.t 43,.c (.s (.int .i64 1))])] [sb [],sb []]
def s_f36_l2_b:ACode:=
 (.seq (.regionE R36_13 [] [44])
 (.seq (.cond (.t 44)
 .skip
 (.exit 4))
 (.seq (.block 5
 (.seq (.region R36_14 [] [44,45,46,47])
 (.seq (.regionE R36_15 [10,48] [49,50,51])
 (.block 6
 (.loop [] s_f36_l1)))))
 (.regionE R36_22 [9,49,50,51,52,73] [43]))))
def s_f36_l2:ACode:=s_f36_l2_b
def s_f36_l2_ev:=hE s_f36_l2 s_f36_l2_b
def R36_23:LO:=[⟨some 74,.bin .add (.t 19) (.c (.s (.int .i64 1))),none⟩,oM 19 74]
def T36_23:=hT R36_23 [4,6,41,42,43,44,74] [19] 75 [] [(19,.op (.bin .add (.t 0) (.c (.s (.int .i64 1)))) [.t 19,.c (.s (.int .i64 1))])] [sb [],sb []]
def s_f36_l3_b:ACode:=
 (.seq (.regionE R36_2 [] [20])
 (.seq (.cond (.t 20)
 .skip
 (.exit 0))
 (.seq (.block 1
 (.seq (.region R36_3 [] [20,21,22,23])
 (.seq (.region R36_4 [] [24])
 (.seq (.seq (.regionE R36_5 [25] [26,27,28])
 (.block 2
 (.loop [] s_f36_l0)))
 (.seq (.regionE R36_12 [5,26,27,28,29,40] [41,42,43])
 (.block 4
 (.loop [] s_f36_l2)))))))
 (.regionE R36_23 [4,6,41,42,43,44,74] [19]))))
def s_f36_l3:ACode:=s_f36_l3_b
def s_f36_l3_ev:=hE s_f36_l3 s_f36_l3_b
def R36_24t2:LO:=[⟨some 3,.move (.c (.s (.bool false))),none⟩]
def R36_24t1:LO:=⟨none,.store 3 (.t 2) (.t 75),none⟩ :: R36_24t2
def R36_24p0:LO:=[⟨some 75,.build [.s (.int .i64 0),.s (.int .i64 0),.s (.int .i64 0)] [(0,1),(1,1),(2,1)] [],none⟩]
def R36_24:LO:=R36_24p0 ++ R36_24t1
def T36_24p0:=hT R36_24p0 [17,18,19,20] [75] 76 [] [(75,.op (.build [.s (.int .i64 0),.s (.int .i64 0),.s (.int .i64 0)] [(0,1),(1,1),(2,1)] []) [])] [sb []]
def X36_24:=hS R36_24 R36_24p0 R36_24t1 [17,18,19,20] [75] [17,18,19,20,75]
def X36_24t1:=hP R36_24t1 R36_24t2 [75] [17,18,19,20,75] ⟨none,.store 3 (.t 2) (.t 75),none⟩
def T36_24t2:=hT R36_24t2 [17,18,19,20,75] [3] 4 [] [(3,.c (.s (.bool false)))] [.cc (.s (.bool false))]
def X36_24t2:=hL R36_24t2 [17,18,19,20,75] [3]
def s_f36:ACFun:={ ntmps:=76,results:=[.cell 2 true 3,.tmp 3],body:=
 (.seq (.region R36_0 [] K36_0)
 (.seq (.seq (.regionE R36_1 [0,13,14,15,16] [17,18,19])
 (.block 0
 (.loop [] s_f36_l3)))
 (.seq (.region R36_24 [] [17,18,19,20,75])
 .ret))) }
theorem s_f36_first:firstOk (List.range' 1 (s_f36.ntmps - 1)) s_f36.body=true:=by kernel_rfl
abbrev k_f37:Nat:=37
def K37_0:List Nat:=[1] ++ List.range' 3 90
def A37_0_0:=hK K37_0 0
def A37_0_2:=hK K37_0 2
def A37_0_3:=hQ K37_0 3
def R37_0t1:LO:=[⟨some 3,.move (.c (.s (.bool false))),none⟩]
def R37_0p0:LO:=[⟨some 2,.alloc [.s (.int .i64 0),.s (.int .i64 0),.s (.int .i64 0)],none⟩]
def R37_0:LO:=R37_0p0 ++ R37_0t1
def K37_0p0:List Nat:=[1] ++ List.range' 3 90
def A37_0p0_0:=hK K37_0p0 0
def A37_0p0_2:=hK K37_0p0 2
def A37_0p0_3:=hQ K37_0p0 3
theorem X37_0 (call:CallF) (it:IterF) (base:Nat) (f:List V) (H:Heap):evC call it base (.region R37_0 [] K37_0) f H=thenC call it base (.region R37_0t1 [] K37_0) (opsC [] R37_0p0 K37_0p0 (evOps call base [⟨some 2,.alloc [.s (.int .i64 0),.s (.int .i64 0),.s (.int .i64 0)],none⟩] f H)):=(row_op call it base R37_0p0 R37_0t1 (kc:=K37_0p0) (by kernel_rfl) f H).trans (by rw [row_ops];rfl)
def T37_0t1:=hT R37_0t1 K37_0 [] 4 [] [] [.cc (.s (.bool false))]
def X37_0t1:=hL R37_0t1 K37_0 []
def R37_1:LO:=[oM 17 0,⟨some 18,.nilCheck (.t 17),none⟩,oF 19 0 18,oF 20 0 19,oL 21 20,⟨some 22,.lenS .s (.t 21),none⟩,⟨some 23,.move (.c (.s (.int .i64 0))),none⟩]
def T37_1:=hT R37_1 [0,17,18,19,20] [21,22,23] 24 [] [(21,.op (.load false 1 (.t 0)) [.op (.fieldAddr 0 (.t 0)) [.op (.fieldAddr 0 (.t 0)) [.op (.nilCheck (.t 0)) [.t 0]]]]),(22,.op (.lenS .s (.t 0)) [.op (.load false 1 (.t 0)) [.op (.fieldAddr 0 (.t 0)) [.op (.fieldAddr 0 (.t 0)) [.op (.nilCheck (.t 0)) [.t 0]]]]]),(23,.c (.s (.int .i64 0)))] [.tt 0,sb [0,0,0],sb [0,0],sb [0],sb [],.sub 1 [] [],.cc (.s (.int .i64 0))]
def R37_2:LO:=[⟨some 24,.bin .lss (.t 23) (.t 22),none⟩]
def T37_2:=hT R37_2 [] [24] 25 [] [(24,.op (.bin .lss (.t 0) (.t 1)) [.t 23,.t 22])] [sb []]
def R37_3t3:LO:=[⟨none,.store 3 (.t 5) (.t 27),none⟩]
def R37_3p2:LO:=[oM 4 25]
def R37_3t2:LO:=R37_3p2 ++ R37_3t3
def R37_3t1:LO:=⟨some 5,.alloc [.s (.string ⟨#[]⟩),.s (.slice none 0 0),.s (.slice none 0 0)],none⟩ :: R37_3t2
def R37_3p0:LO:=[oM 25 23,⟨some 26,.indexAddr 3 (.t 21) (.t 23),none⟩,⟨some 27,.load true 3 (.t 26),none⟩]
def R37_3:LO:=R37_3p0 ++ R37_3t1
def T37_3p0:=hT R37_3p0 [24,26] [25,27] 28 [] [(25,.t 23),(27,.op (.load true 3 (.t 0)) [.op (.indexAddr 3 (.t 0) (.t 1)) [.t 21,.t 23]])] [.tt 23,.sub 1 [0] [],.sub 1 [] []]
def X37_3:=hS R37_3 R37_3p0 R37_3t1 [24,26] [25,27] [24,25,26,27]
def X37_3t1:=hP R37_3t1 R37_3t2 [] [24,25,26,27] ⟨some 5,.alloc [.s (.string ⟨#[]⟩),.s (.slice none 0 0),.s (.slice none 0 0)],none⟩
def T37_3p2:=hT R37_3p2 [25] [4] 5 [] [(4,.t 25)] [.tt 25]
def X37_3t2:=hS R37_3t2 R37_3p2 R37_3t3 [25] [4] [24,25,26,27]
def X37_3t3:=hX R37_3t3 [24,25,26,27] [⟨none,.store 3 (.t 5) (.t 27),none⟩]
def R37_4t5:LO:=[⟨none,.store 1 (.t 6) (.t 29),none⟩]
def R37_4t4:LO:=⟨some 6,.alloc [.s (.map none)],none⟩ :: R37_4t5
def R37_4p3:LO:=[oM 29 28]
def R37_4t3:LO:=R37_4p3 ++ R37_4t4
def R37_4t2:LO:=⟨none,.mapUpd .string (.t 28) (.c (.s (.string ⟨#[110,117,108,108]⟩))) (.c (.s (.bool true))),none⟩ :: R37_4t3
def R37_4t1:LO:=⟨none,.mapUpd .string (.t 28) (.c (.s (.string ⟨#[]⟩))) (.c (.s (.bool true))),none⟩ :: R37_4t2
def R37_4:LO:=⟨some 28,.mapNew,none⟩ :: R37_4t1
def X37_4:=hP R37_4 R37_4t1 [] [28,29] ⟨some 28,.mapNew,none⟩
def X37_4t1:=hP R37_4t1 R37_4t2 [] [28,29] ⟨none,.mapUpd .string (.t 28) (.c (.s (.string ⟨#[]⟩))) (.c (.s (.bool true))),none⟩
def X37_4t2:=hP R37_4t2 R37_4t3 [] [28,29] ⟨none,.mapUpd .string (.t 28) (.c (.s (.string ⟨#[110,117,108,108]⟩))) (.c (.s (.bool true))),none⟩
def T37_4p3:=hT R37_4p3 [28] [29] 30 [] [(29,.t 28)] [.tt 28]
def X37_4t3:=hS R37_4t3 R37_4p3 R37_4t4 [28] [29] [28,29]
def X37_4t4:=hP R37_4t4 R37_4t5 [] [28,29] ⟨some 6,.alloc [.s (.map none)],none⟩
def X37_4t5:=hX R37_4t5 [28,29] [⟨none,.store 1 (.t 6) (.t 29),none⟩]
def R37_5:LO:=[oF 30 1 5,oL 31 30,⟨some 32,.lenS .s (.t 31),none⟩,⟨some 33,.move (.c (.s (.int .i64 0))),none⟩]
def T37_5:=hT R37_5 [30] [31,32,33] 34 [] [(31,.op (.load false 1 (.t 0)) [.op (.fieldAddr 1 (.t 0)) [.t 5]]),(32,.op (.lenS .s (.t 0)) [.op (.load false 1 (.t 0)) [.op (.fieldAddr 1 (.t 0)) [.t 5]]]),(33,.c (.s (.int .i64 0)))] [sb [0],sb [],.sub 1 [] [],.cc (.s (.int .i64 0))]
def R37_6:LO:=[⟨some 34,.bin .lss (.t 33) (.t 32),none⟩]
def T37_6:=hT R37_6 [] [34] 35 [] [(34,.op (.bin .lss (.t 0) (.t 1)) [.t 33,.t 32])] [sb []]
def R37_7:LO:=[⟨some 35,.indexAddr 1 (.t 31) (.t 33),none⟩,oL 36 35,oM 8 36]
def T37_7:=hT R37_7 [34,35,36] [8] 37 [] [(8,.op (.load false 1 (.t 0)) [.op (.indexAddr 1 (.t 0) (.t 1)) [.t 31,.t 33]])] [sb [0],sb [],sb []]
def R37_8t1:LO:=[⟨none,.mapUpd .string (.t 37) (.t 38) (.c (.s (.bool true))),none⟩]
def R37_8p0:LO:=[oL 37 6,oM 38 8]
def R37_8:LO:=R37_8p0 ++ R37_8t1
def T37_8p0:=hT R37_8p0 [8] [37,38] 39 [] [(37,.op (.load false 1 (.t 0)) [.t 6]),(38,.t 8)] [sb [],.tt 8]
def X37_8:=hS R37_8 R37_8p0 R37_8t1 [8] [37,38] [8,37,38]
def X37_8t1:=hX R37_8t1 [8,37,38] [⟨none,.mapUpd .string (.t 37) (.t 38) (.c (.s (.bool true))),none⟩]
def R37_9:LO:=[⟨some 39,.bin .add (.t 33) (.c (.s (.int .i64 1))),none⟩,oM 33 39]
def T37_9:=hT R37_9 [39] [33] 40 [] [(33,.op (.bin .add (.t 0) (.c (.s (.int .i64 1)))) [.t 33,.c (.s (.int .i64 1))])] [sb [],sb []]
def s_f37_l0_b:ACode:=
 (.seq (.regionE R37_6 [] [34])
 (.seq (.cond (.t 34)
 .skip
 (.exit 2))
 (.seq (.block 3
 (.seq (.regionE R37_7 [34,35,36] [8])
 (.region R37_8 [] [8,37,38])))
 (.regionE R37_9 [39] [33]))))
def s_f37_l0:ACode:=s_f37_l0_b
def s_f37_l0_ev:=hE s_f37_l0 s_f37_l0_b
def R37_10:LO:=[oF 40 2 5,oL 41 40,⟨some 42,.lenS .s (.t 41),none⟩,⟨some 43,.move (.c (.s (.int .i64 0))),none⟩]
def T37_10:=hT R37_10 [31,32,33,34,40] [41,42,43] 44 [] [(41,.op (.load false 1 (.t 0)) [.op (.fieldAddr 2 (.t 0)) [.t 5]]),(42,.op (.lenS .s (.t 0)) [.op (.load false 1 (.t 0)) [.op (.fieldAddr 2 (.t 0)) [.t 5]]]),(43,.c (.s (.int .i64 0)))] [sb [0],sb [],.sub 1 [] [],.cc (.s (.int .i64 0))]
def R37_11:LO:=[⟨some 44,.bin .lss (.t 43) (.t 42),none⟩]
def T37_11:=hT R37_11 [] [44] 45 [] [(44,.op (.bin .lss (.t 0) (.t 1)) [.t 43,.t 42])] [sb []]
def R37_12t2:LO:=[⟨none,.store 2 (.t 10) (.t 46),none⟩]
def R37_12t1:LO:=⟨some 10,.alloc [.s (.string ⟨#[]⟩),.s (.slice none 0 0)],none⟩ :: R37_12t2
def R37_12p0:LO:=[⟨some 45,.indexAddr 2 (.t 41) (.t 43),none⟩,⟨some 46,.load true 2 (.t 45),none⟩]
def R37_12:LO:=R37_12p0 ++ R37_12t1
def T37_12p0:=hT R37_12p0 [44,45] [46] 47 [] [(46,.op (.load true 2 (.t 0)) [.op (.indexAddr 2 (.t 0) (.t 1)) [.t 41,.t 43]])] [sb [0],sb []]
def X37_12:=hS R37_12 R37_12p0 R37_12t1 [44,45] [46] [44,45,46]
def X37_12t1:=hP R37_12t1 R37_12t2 [] [44,45,46] ⟨some 10,.alloc [.s (.string ⟨#[]⟩),.s (.slice none 0 0)],none⟩
def X37_12t2:=hX R37_12t2 [44,45,46] [⟨none,.store 2 (.t 10) (.t 46),none⟩]
def R37_13:LO:=[oF 47 1 10,oL 48 47,⟨some 49,.lenS .s (.t 48),none⟩,⟨some 50,.move (.c (.s (.int .i64 0))),none⟩]
def T37_13:=hT R37_13 [10,47] [48,49,50] 51 [] [(48,.op (.load false 1 (.t 0)) [.op (.fieldAddr 1 (.t 0)) [.t 10]]),(49,.op (.lenS .s (.t 0)) [.op (.load false 1 (.t 0)) [.op (.fieldAddr 1 (.t 0)) [.t 10]]]),(50,.c (.s (.int .i64 0)))] [sb [0],sb [],.sub 1 [] [],.cc (.s (.int .i64 0))]
def R37_14:LO:=[⟨some 51,.bin .lss (.t 50) (.t 49),none⟩]
def T37_14:=hT R37_14 [] [51] 52 [] [(51,.op (.bin .lss (.t 0) (.t 1)) [.t 50,.t 49])] [sb []]
def R37_15t2:LO:=[⟨none,.store 8 (.t 12) (.t 53),none⟩]
def R37_15t1:LO:=⟨some 12,.alloc [.s (.int .u8 0),.s (.string ⟨#[]⟩),.s (.string ⟨#[]⟩),.s (.string ⟨#[]⟩),.s (.int .i64 0),.s (.string ⟨#[]⟩),.s (.slice none 0 0),.s (.slice none 0 0)],none⟩ :: R37_15t2
def R37_15p0:LO:=[⟨some 52,.indexAddr 8 (.t 48) (.t 50),none⟩,⟨some 53,.load true 8 (.t 52),none⟩]
def R37_15:LO:=R37_15p0 ++ R37_15t1
def T37_15p0:=hT R37_15p0 [51,52] [53] 54 [] [(53,.op (.load true 8 (.t 0)) [.op (.indexAddr 8 (.t 0) (.t 1)) [.t 48,.t 50]])] [sb [0],sb []]
def X37_15:=hS R37_15 R37_15p0 R37_15t1 [51,52] [53] [51,52,53]
def X37_15t1:=hP R37_15t1 R37_15t2 [] [51,52,53] ⟨some 12,.alloc [.s (.int .u8 0),.s (.string ⟨#[]⟩),.s (.string ⟨#[]⟩),.s (.string ⟨#[]⟩),.s (.int .i64 0),.s (.string ⟨#[]⟩),.s (.slice none 0 0),.s (.slice none 0 0)],none⟩
def X37_15t2:=hX R37_15t2 [51,52,53] [⟨none,.store 8 (.t 12) (.t 53),none⟩]
def R37_16t1:LO:=[⟨none,.mapUpd .string (.t 54) (.t 56) (.c (.s (.bool true))),none⟩]
def R37_16p0:LO:=[oL 54 6,oF 55 1 12,oL 56 55]
def R37_16:LO:=R37_16p0 ++ R37_16t1
def T37_16p0:=hT R37_16p0 [12,55] [54,56] 57 [] [(54,.op (.load false 1 (.t 0)) [.t 6]),(56,.op (.load false 1 (.t 0)) [.op (.fieldAddr 1 (.t 0)) [.t 12]])] [sb [],.sub 1 [0] [],.sub 1 [] []]
def X37_16:=hS R37_16 R37_16p0 R37_16t1 [12,55] [54,56] [12,54,55,56]
def X37_16t1:=hX R37_16t1 [12,54,55,56] [⟨none,.mapUpd .string (.t 54) (.t 56) (.c (.s (.bool true))),none⟩]
def R37_17:LO:=[⟨some 57,.bin .add (.t 50) (.c (.s (.int .i64 1))),none⟩,oM 50 57]
def T37_17:=hT R37_17 [57] [50] 58 [] [(50,.op (.bin .add (.t 0) (.c (.s (.int .i64 1)))) [.t 50,.c (.s (.int .i64 1))])] [sb [],sb []]
def s_f37_l1_b:ACode:=
 (.seq (.regionE R37_14 [] [51])
 (.seq (.cond (.t 51)
 .skip
 (.exit 6))
 (.seq (.block 7
 (.seq (.region R37_15 [] [51,52,53])
 (.region R37_16 [] [12,54,55,56])))
 (.regionE R37_17 [57] [50]))))
def s_f37_l1:ACode:=s_f37_l1_b
def s_f37_l1_ev:=hE s_f37_l1 s_f37_l1_b
def R37_18:LO:=[⟨some 58,.bin .add (.t 43) (.c (.s (.int .i64 1))),none⟩,oM 43 58]
def T37_18:=hT R37_18 [48,49,50,51,58] [43] 59 [] [(43,.op (.bin .add (.t 0) (.c (.s (.int .i64 1)))) [.t 43,.c (.s (.int .i64 1))])] [sb [],sb []]
def s_f37_l2_b:ACode:=
 (.seq (.regionE R37_11 [] [44])
 (.seq (.cond (.t 44)
 .skip
 (.exit 4))
 (.seq (.block 5
 (.seq (.region R37_12 [] [44,45,46])
 (.seq (.regionE R37_13 [10,47] [48,49,50])
 (.block 6
 (.loop [] s_f37_l1)))))
 (.regionE R37_18 [48,49,50,51,58] [43]))))
def s_f37_l2:ACode:=s_f37_l2_b
def s_f37_l2_ev:=hE s_f37_l2 s_f37_l2_b
def R37_19:LO:=[oF 59 2 5,oL 60 59,⟨some 61,.lenS .s (.t 60),none⟩,⟨some 62,.move (.c (.s (.int .i64 0))),none⟩]
def T37_19:=hT R37_19 [5,41,42,43,44,59] [60,61,62] 63 [] [(60,.op (.load false 1 (.t 0)) [.op (.fieldAddr 2 (.t 0)) [.t 5]]),(61,.op (.lenS .s (.t 0)) [.op (.load false 1 (.t 0)) [.op (.fieldAddr 2 (.t 0)) [.t 5]]]),(62,.c (.s (.int .i64 0)))] [sb [0],sb [],.sub 1 [] [],.cc (.s (.int .i64 0))]
def R37_20:LO:=[⟨some 63,.bin .lss (.t 62) (.t 61),none⟩]
def T37_20:=hT R37_20 [] [63] 64 [] [(63,.op (.bin .lss (.t 0) (.t 1)) [.t 62,.t 61])] [sb []]
def R37_21t3:LO:=[⟨none,.store 2 (.t 14) (.t 66),none⟩]
def R37_21p2:LO:=[oM 13 64]
def R37_21t2:LO:=R37_21p2 ++ R37_21t3
def R37_21t1:LO:=⟨some 14,.alloc [.s (.string ⟨#[]⟩),.s (.slice none 0 0)],none⟩ :: R37_21t2
def R37_21p0:LO:=[oM 64 62,⟨some 65,.indexAddr 2 (.t 60) (.t 62),none⟩,⟨some 66,.load true 2 (.t 65),none⟩]
def R37_21:LO:=R37_21p0 ++ R37_21t1
def T37_21p0:=hT R37_21p0 [63,65] [64,66] 67 [] [(64,.t 62),(66,.op (.load true 2 (.t 0)) [.op (.indexAddr 2 (.t 0) (.t 1)) [.t 60,.t 62]])] [.tt 62,.sub 1 [0] [],.sub 1 [] []]
def X37_21:=hS R37_21 R37_21p0 R37_21t1 [63,65] [64,66] [63,64,65,66]
def X37_21t1:=hP R37_21t1 R37_21t2 [] [63,64,65,66] ⟨some 14,.alloc [.s (.string ⟨#[]⟩),.s (.slice none 0 0)],none⟩
def T37_21p2:=hT R37_21p2 [64] [13] 14 [] [(13,.t 64)] [.tt 64]
def X37_21t2:=hS R37_21t2 R37_21p2 R37_21t3 [64] [13] [63,64,65,66]
def X37_21t3:=hX R37_21t3 [63,64,65,66] [⟨none,.store 2 (.t 14) (.t 66),none⟩]
def R37_22:LO:=[oF 67 1 14,oL 68 67,⟨some 69,.lenS .s (.t 68),none⟩,⟨some 70,.move (.c (.s (.int .i64 0))),none⟩]
def T37_22:=hT R37_22 [14,67] [68,69,70] 71 [] [(68,.op (.load false 1 (.t 0)) [.op (.fieldAddr 1 (.t 0)) [.t 14]]),(69,.op (.lenS .s (.t 0)) [.op (.load false 1 (.t 0)) [.op (.fieldAddr 1 (.t 0)) [.t 14]]]),(70,.c (.s (.int .i64 0)))] [sb [0],sb [],.sub 1 [] [],.cc (.s (.int .i64 0))]
def R37_23:LO:=[⟨some 71,.bin .lss (.t 70) (.t 69),none⟩]
def T37_23:=hT R37_23 [] [71] 72 [] [(71,.op (.bin .lss (.t 0) (.t 1)) [.t 70,.t 69])] [sb []]
def R37_24t3:LO:=[⟨none,.store 8 (.t 16) (.t 74),none⟩]
def R37_24p2:LO:=[oM 15 72]
def R37_24t2:LO:=R37_24p2 ++ R37_24t3
def R37_24t1:LO:=⟨some 16,.alloc [.s (.int .u8 0),.s (.string ⟨#[]⟩),.s (.string ⟨#[]⟩),.s (.string ⟨#[]⟩),.s (.int .i64 0),.s (.string ⟨#[]⟩),.s (.slice none 0 0),.s (.slice none 0 0)],none⟩ :: R37_24t2
def R37_24p0:LO:=[oM 72 70,⟨some 73,.indexAddr 8 (.t 68) (.t 70),none⟩,⟨some 74,.load true 8 (.t 73),none⟩]
def R37_24:LO:=R37_24p0 ++ R37_24t1
def T37_24p0:=hT R37_24p0 [71,73] [72,74] 75 [] [(72,.t 70),(74,.op (.load true 8 (.t 0)) [.op (.indexAddr 8 (.t 0) (.t 1)) [.t 68,.t 70]])] [.tt 70,.sub 1 [0] [],.sub 1 [] []]
def X37_24:=hS R37_24 R37_24p0 R37_24t1 [71,73] [72,74] [71,72,73,74]
def X37_24t1:=hP R37_24t1 R37_24t2 [] [71,72,73,74] ⟨some 16,.alloc [.s (.int .u8 0),.s (.string ⟨#[]⟩),.s (.string ⟨#[]⟩),.s (.string ⟨#[]⟩),.s (.int .i64 0),.s (.string ⟨#[]⟩),.s (.slice none 0 0),.s (.slice none 0 0)],none⟩
def T37_24p2:=hT R37_24p2 [72] [15] 16 [] [(15,.t 72)] [.tt 72]
def X37_24t2:=hS R37_24t2 R37_24p2 R37_24t3 [72] [15] [71,72,73,74]
def X37_24t3:=hX R37_24t3 [71,72,73,74] [⟨none,.store 8 (.t 16) (.t 74),none⟩]
def R37_25t5:LO:=[⟨some 84,.call (.c (.fn 39 [] [])) [.t 82,.t 83],none⟩]
def R37_25p4:LO:=[⟨some 83,.mkFn 61 [] [.t 6],none⟩]
def R37_25t4:LO:=R37_25p4 ++ R37_25t5
def R37_25t3:LO:=⟨some 82,.append 1 16 (.t 79) (.t 81),none⟩ :: R37_25t4
def R37_25p2:LO:=[oF 80 6 16,oL 81 80]
def R37_25t2:LO:=R37_25p2 ++ R37_25t3
def R37_25t1:LO:=⟨some 79,.buildSl 1 2 [.s (.string ⟨#[]⟩),.s (.string ⟨#[]⟩)] [(0,.t 76),(1,.t 78)],none⟩ :: R37_25t2
def R37_25p0:LO:=[oF 75 2 16,oL 76 75,oF 77 3 16,oL 78 77]
def R37_25:LO:=R37_25p0 ++ R37_25t1
def T37_25p0:=hT R37_25p0 [75,77] [76,78] 79 [] [(76,.op (.load false 1 (.t 0)) [.op (.fieldAddr 2 (.t 0)) [.t 16]]),(78,.op (.load false 1 (.t 0)) [.op (.fieldAddr 3 (.t 0)) [.t 16]])] [sb [0],sb [],.sub 1 [0] [],.sub 1 [] []]
def X37_25:=hS R37_25 R37_25p0 R37_25t1 [75,77] [76,78] [16,75,76,77,78,79,80,81,82,83]
def X37_25t1:=hP R37_25t1 R37_25t2 [76,78] [16,75,76,77,78,79,80,81,82,83] ⟨some 79,.buildSl 1 2 [.s (.string ⟨#[]⟩),.s (.string ⟨#[]⟩)] [(0,.t 76),(1,.t 78)],none⟩
def T37_25p2:=hT R37_25p2 [16,80] [81] 82 [] [(81,.op (.load false 1 (.t 0)) [.op (.fieldAddr 6 (.t 0)) [.t 16]])] [sb [0],sb []]
def X37_25t2:=hS R37_25t2 R37_25p2 R37_25t3 [16,80] [81] [16,75,76,77,78,79,80,81,82,83]
def X37_25t3:=hP R37_25t3 R37_25t4 [79,81] [16,75,76,77,78,79,80,81,82,83] ⟨some 82,.append 1 16 (.t 79) (.t 81),none⟩
def T37_25p4:=hT R37_25p4 [] [83] 84 [] [(83,.op (.mkFn 61 [] [.t 0]) [.t 6])] [sb []]
def X37_25t4:=hS R37_25t4 R37_25p4 R37_25t5 [] [83] [16,75,76,77,78,79,80,81,82,83]
def X37_25t5:=hX R37_25t5 [16,75,76,77,78,79,80,81,82,83] [⟨some 84,.call (.c (.fn 39 [] [])) [.t 82,.t 83],none⟩]
def R37_26t2:LO:=[⟨some 3,.move (.c (.s (.bool true))),none⟩]
def R37_26t1:LO:=⟨none,.store 3 (.t 2) (.t 88),none⟩ :: R37_26t2
def R37_26p0:LO:=[oM 85 4,oM 86 13,oM 87 15,⟨some 88,.build [.s (.int .i64 0),.s (.int .i64 0),.s (.int .i64 0)] [(0,1),(1,1),(2,1)] [(0,.t 85),(1,.t 86),(2,.t 87)],none⟩]
def R37_26:LO:=R37_26p0 ++ R37_26t1
def T37_26p0:=hT R37_26p0 [4,6,13,15,21,22,23,60,61,62,68,69,70,84,85,86,87] [88] 89 [] [(88,.op (.build [.s (.int .i64 0),.s (.int .i64 0),.s (.int .i64 0)] [(0,1),(1,1),(2,1)] [(0,.t 0),(1,.t 1),(2,.t 2)]) [.t 4,.t 13,.t 15])] [.tt 4,.tt 13,.tt 15,sb []]
def X37_26:=hS R37_26 R37_26p0 R37_26t1 [4,6,13,15,21,22,23,60,61,62,68,69,70,84,85,86,87] [88] [4,6,13,15,21,22,23,60,61,62,68,69,70,84,85,86,87,88]
def X37_26t1:=hP R37_26t1 R37_26t2 [88] [4,6,13,15,21,22,23,60,61,62,68,69,70,84,85,86,87,88] ⟨none,.store 3 (.t 2) (.t 88),none⟩
def T37_26t2:=hT R37_26t2 [4,6,13,15,21,22,23,60,61,62,68,69,70,84,85,86,87,88] [3] 4 [] [(3,.c (.s (.bool true)))] [.cc (.s (.bool true))]
def X37_26t2:=hL R37_26t2 [4,6,13,15,21,22,23,60,61,62,68,69,70,84,85,86,87,88] [3]
def R37_27:LO:=[⟨some 89,.bin .add (.t 70) (.c (.s (.int .i64 1))),none⟩,oM 70 89]
def T37_27:=hT R37_27 [15,84,89] [70] 90 [] [(70,.op (.bin .add (.t 0) (.c (.s (.int .i64 1)))) [.t 70,.c (.s (.int .i64 1))])] [sb [],sb []]
def s_f37_l3_b:ACode:=
 (.seq (.regionE R37_23 [] [71])
 (.seq (.cond (.t 71)
 .skip
 (.exit 10))
 (.seq (.block 11
 (.seq (.region R37_24 [] [71,72,73,74])
 (.seq (.region R37_25 [] [16,75,76,77,78,79,80,81,82,83])
 (.cond (.t 84)
 (.seq (.region R37_26 [] [4,6,13,15,21,22,23,60,61,62,68,69,70,84,85,86,87,88])
 .ret)
 .skip))))
 (.regionE R37_27 [15,84,89] [70]))))
def s_f37_l3:ACode:=s_f37_l3_b
def s_f37_l3_ev:=hE s_f37_l3 s_f37_l3_b
def R37_28:LO:=[⟨some 90,.bin .add (.t 62) (.c (.s (.int .i64 1))),none⟩,oM 62 90]
def T37_28:=hT R37_28 [13,68,69,70,71,90] [62] 91 [] [(62,.op (.bin .add (.t 0) (.c (.s (.int .i64 1)))) [.t 62,.c (.s (.int .i64 1))])] [sb [],sb []]
def s_f37_l4_b:ACode:=
 (.seq (.regionE R37_20 [] [63])
 (.seq (.cond (.t 63)
 .skip
 (.exit 8))
 (.seq (.block 9
 (.seq (.region R37_21 [] [63,64,65,66])
 (.seq (.regionE R37_22 [14,67] [68,69,70])
 (.block 10
 (.loop [] s_f37_l3)))))
 (.regionE R37_28 [13,68,69,70,71,90] [62]))))
def s_f37_l4:ACode:=s_f37_l4_b
def s_f37_l4_ev:=hE s_f37_l4 s_f37_l4_b
def R37_29:LO:=[⟨some 91,.bin .add (.t 23) (.c (.s (.int .i64 1))),none⟩,oM 23 91]
def T37_29:=hT R37_29 [4,6,60,61,62,63,91] [23] 92 [] [(23,.op (.bin .add (.t 0) (.c (.s (.int .i64 1)))) [.t 23,.c (.s (.int .i64 1))])] [sb [],sb []]
def s_f37_l5_b:ACode:=
 (.seq (.regionE R37_2 [] [24])
 (.seq (.cond (.t 24)
 .skip
 (.exit 0))
 (.seq (.block 1
 (.seq (.region R37_3 [] [24,25,26,27])
 (.seq (.region R37_4 [] [28,29])
 (.seq (.seq (.regionE R37_5 [30] [31,32,33])
 (.block 2
 (.loop [] s_f37_l0)))
 (.seq (.seq (.regionE R37_10 [31,32,33,34,40] [41,42,43])
 (.block 4
 (.loop [] s_f37_l2)))
 (.seq (.regionE R37_19 [5,41,42,43,44,59] [60,61,62])
 (.block 8
 (.loop [] s_f37_l4))))))))
 (.regionE R37_29 [4,6,60,61,62,63,91] [23]))))
def s_f37_l5:ACode:=s_f37_l5_b
def s_f37_l5_ev:=hE s_f37_l5 s_f37_l5_b
def R37_30t2:LO:=[⟨some 3,.move (.c (.s (.bool false))),none⟩]
def R37_30t1:LO:=⟨none,.store 3 (.t 2) (.t 92),none⟩ :: R37_30t2
def R37_30p0:LO:=[⟨some 92,.build [.s (.int .i64 0),.s (.int .i64 0),.s (.int .i64 0)] [(0,1),(1,1),(2,1)] [],none⟩]
def R37_30:LO:=R37_30p0 ++ R37_30t1
def T37_30p0:=hT R37_30p0 [21,22,23,24] [92] 93 [] [(92,.op (.build [.s (.int .i64 0),.s (.int .i64 0),.s (.int .i64 0)] [(0,1),(1,1),(2,1)] []) [])] [sb []]
def X37_30:=hS R37_30 R37_30p0 R37_30t1 [21,22,23,24] [92] [21,22,23,24,92]
def X37_30t1:=hP R37_30t1 R37_30t2 [92] [21,22,23,24,92] ⟨none,.store 3 (.t 2) (.t 92),none⟩
def T37_30t2:=hT R37_30t2 [21,22,23,24,92] [3] 4 [] [(3,.c (.s (.bool false)))] [.cc (.s (.bool false))]
def X37_30t2:=hL R37_30t2 [21,22,23,24,92] [3]
def s_f37:ACFun:={ ntmps:=93,results:=[.cell 2 true 3,.tmp 3],body:=
 (.seq (.region R37_0 [] K37_0)
 (.seq (.seq (.regionE R37_1 [0,17,18,19,20] [21,22,23])
 (.block 0
 (.loop [] s_f37_l5)))
 (.seq (.region R37_30 [] [21,22,23,24,92])
 .ret))) }
theorem s_f37_first:firstOk (List.range' 1 (s_f37.ntmps - 1)) s_f37.body=true:=by kernel_rfl
abbrev k_f9:Nat:=9
def a_f7:=ai T7_0 (ai s_f7_r0_kT (ai s_f7_r0_kA0 (ai T7_1 (ai T7_2 (ai T7_3 (ai T7_4 (ai T7_5 (ai T7_6 (ai T7_7 (ai T7_8 (ai T7_9 (ai T7_10 (ai s_f7_l0_ev (T7_11))))))))))))))
def a_f10:=ai A10_0p0_0 (ai A10_0p0_1 (ai A10_0p0_2 (ai X10_0 (ai T10_0t1 (ai X10_0t1 (ai A10_0_0 (ai A10_0_1 (ai A10_0_2 (ai T10_1 (ai T10_2 (ai T10_3 (ai T10_4 (ai T10_5 (ai T10_6p0 (ai X10_6 (ai X10_6t1 (ai X10_6t2 (ai T10_7p0 (ai X10_7 (ai X10_7t1 (ai X10_7t2 (ai X10_7t3 (ai T10_7t4 (ai X10_7t4 (ai T10_8 (ai T10_9 (ai T10_10 (ai T10_11 (ai T10_12 (ai T10_13 (ai T10_14 (ai T10_15 (ai T10_16 (ai T10_17p0 (ai X10_17 (ai X10_17t1 (ai X10_17t2 (ai T10_18p0 (ai X10_18 (ai X10_18t1 (ai X10_18t2 (ai X10_18t3 (ai T10_18p4 (ai X10_18t4 (ai X10_18t5 (ai X10_18t6 (ai X10_18t7 (ai T10_18t8 (ai X10_18t8 (ai T10_19 (ai T10_20 (ai s_f10_l0_ev (ai T10_21 (ai s_f10_l1_ev (ai T10_22 (ai s_f10_l2_ev (T10_23)))))))))))))))))))))))))))))))))))))))))))))))))))))))))
def a_f20:=ai T20_0 (ai s_f20_r0_kT (ai s_f20_r0_kA0 (ai T20_1 (ai T20_2 (ai T20_3 (ai T20_4 (ai T20_5 (ai s_f20_l0_ev (T20_6)))))))))
def a_f21:=ai T21_0 (ai s_f21_r0_kT (ai X21_1 (ai T21_1p1 (ai X21_1t1 (ai X21_1t2 (ai T21_1p3 (ai X21_1t3 (ai X21_1t4 (ai T21_1p5 (ai X21_1t5 (ai X21_1t6 (ai T21_1p7 (ai X21_1t7 (ai X21_1t8 (ai T21_1p9 (ai X21_1t9 (ai X21_1t10 (ai T21_1p11 (ai X21_1t11 (ai X21_1t12 (ai T21_1p13 (ai X21_1t13 (ai X21_1t14 (ai T21_1p15 (ai X21_1t15 (ai X21_1t16 (ai T21_1p17 (ai X21_1t17 (ai X21_1t18 (ai T21_1p19 (ai X21_1t19 (ai X21_1t20 (ai T21_1p21 (ai X21_1t21 (ai X21_1t22 (ai T21_1p23 (ai X21_1t23 (ai X21_1t24 (ai T21_1p25 (ai X21_1t25 (ai X21_1t26 (ai T21_1p27 (ai X21_1t27 (ai X21_1t28 (ai T21_1t29 (X21_1t29))))))))))))))))))))))))))))))))))))))))))))))
def a_f22:=ai X22_0 (ai T22_0t1 (ai X22_0t1 (ai A22_0_0 (ai A22_0_2 (A22_0_3)))))
def a_f24:=ai X24_0 (ai T24_0t1 (ai X24_0t1 (ai A24_0_0 (ai A24_0_2 (ai A24_0_3 (ai X24_1 (ai X24_1t1 (ai X24_1t2 (ai T24_2p0 (ai X24_2 (ai X24_2t1 (ai T24_2p2 (ai X24_2t2 (ai X24_2t3 (ai T24_2t4 (X24_2t4))))))))))))))))
def a_f25:=ai X25_0 (ai T25_0t1 (ai X25_0t1 (ai A25_0_0 (ai A25_0_2 (ai A25_0_3 (ai T25_1p0 (ai X25_1 (ai X25_1t1 (ai T25_1t2 (ai X25_1t2 (ai T25_2 (ai T25_3p0 (ai X25_3 (ai X25_3t1 (ai T25_3t2 (ai X25_3t2 (ai T25_4 (ai T25_5p0 (ai X25_5 (ai X25_5t1 (ai T25_5t2 (ai X25_5t2 (ai T25_6p0 (ai X25_6 (ai X25_6t1 (ai T25_6t2 (X25_6t2)))))))))))))))))))))))))))
def a_f26:=ai A26_0p0_0 (ai A26_0p0_2 (ai A26_0p0_3 (ai X26_0 (ai T26_0t1 (ai X26_0t1 (ai A26_0_0 (ai A26_0_2 (ai A26_0_3 (ai T26_1 (ai T26_2 (ai T26_3p0 (ai X26_3 (ai X26_3t1 (ai T26_3p2 (ai X26_3t2 (ai X26_3t3 (ai T26_4 (ai T26_5p0 (ai X26_5 (ai X26_5t1 (ai T26_5t2 (ai X26_5t2 (ai T26_6 (ai T26_7 (ai T26_8p0 (ai X26_8 (ai X26_8t1 (ai T26_8p2 (ai X26_8t2 (ai X26_8t3 (ai T26_9 (ai T26_10 (ai T26_11p0 (ai X26_11 (ai X26_11t1 (ai T26_11p2 (ai X26_11t2 (ai X26_11t3 (ai T26_12p0 (ai X26_12 (ai X26_12t1 (ai T26_12t2 (ai X26_12t2 (ai T26_13p0 (ai X26_13 (ai X26_13t1 (ai T26_13t2 (ai X26_13t2 (ai T26_14 (ai s_f26_l0_ev (ai T26_15 (ai s_f26_l1_ev (ai T26_16 (ai s_f26_l2_ev (ai T26_17p0 (ai X26_17 (ai X26_17t1 (ai T26_17t2 (X26_17t2)))))))))))))))))))))))))))))))))))))))))))))))))))))))))))
def a_f27:=ai X27_0 (ai T27_0t1 (ai X27_0t1 (ai A27_0_0 (ai A27_0_2 (ai A27_0_3 (ai T27_1p0 (ai X27_1 (ai X27_1t1 (ai T27_1p2 (ai X27_1t2 (ai X27_1t3 (ai T27_1t4 (X27_1t4)))))))))))))
def a_f28:=ai X28_0 (ai T28_0t1 (ai X28_0t1 (ai A28_0_0 (ai A28_0_2 (ai A28_0_3 (ai T28_1 (ai T28_2 (ai T28_3p0 (ai X28_3 (ai X28_3t1 (ai T28_3p2 (ai X28_3t2 (ai X28_3t3 (ai X28_4 (ai T28_4t1 (ai X28_4t1 (ai T28_5 (ai T28_6 (ai T28_7p0 (ai X28_7 (ai X28_7t1 (ai T28_7p2 (ai X28_7t2 (ai X28_7t3 (ai T28_8 (ai T28_9p0 (ai X28_9 (ai X28_9t1 (ai T28_9t2 (ai X28_9t2 (ai T28_10p0 (ai X28_10 (ai X28_10t1 (ai T28_11 (ai s_f28_l0_ev (ai T28_12 (ai s_f28_l1_ev (ai T28_13p0 (ai X28_13 (ai X28_13t1 (ai T28_13t2 (X28_13t2))))))))))))))))))))))))))))))))))))))))))
def a_f29:=ai X29_0 (ai T29_0t1 (ai X29_0t1 (ai A29_0_0 (ai A29_0_2 (ai A29_0_3 (ai X29_1 (ai X29_1t1 (ai T29_2p0 (ai X29_2 (ai X29_2t1 (ai T29_2p2 (ai X29_2t2 (ai X29_2t3 (ai T29_2t4 (X29_2t4)))))))))))))))
def a_f31:=ai A31_0p0_0 (ai A31_0p0_2 (ai A31_0p0_3 (ai X31_0 (ai T31_0t1 (ai X31_0t1 (ai A31_0_0 (ai A31_0_2 (ai A31_0_3 (ai T31_1 (ai T31_2 (ai T31_3p0 (ai X31_3 (ai X31_3t1 (ai T31_3p2 (ai X31_3t2 (ai X31_3t3 (ai T31_4 (ai T31_5 (ai T31_6p0 (ai X31_6 (ai X31_6t1 (ai T31_6p2 (ai X31_6t2 (ai X31_6t3 (ai T31_7 (ai T31_8p0 (ai X31_8 (ai X31_8t1 (ai T31_8t2 (ai X31_8t2 (ai T31_9 (ai T31_10 (ai T31_11p0 (ai X31_11 (ai X31_11t1 (ai T31_11p2 (ai X31_11t2 (ai X31_11t3 (ai T31_12p0 (ai X31_12 (ai X31_12t1 (ai T31_12t2 (ai X31_12t2 (ai T31_13p0 (ai X31_13 (ai X31_13t1 (ai T31_13t2 (ai X31_13t2 (ai T31_14 (ai s_f31_l0_ev (ai T31_15 (ai s_f31_l1_ev (ai T31_16 (ai s_f31_l2_ev (ai T31_17p0 (ai X31_17 (ai X31_17t1 (ai T31_17t2 (X31_17t2)))))))))))))))))))))))))))))))))))))))))))))))))))))))))))
def a_f32:=ai X32_0 (ai X32_0t1 (ai T32_0t2 (ai X32_0t2 (ai A32_0_0 (ai A32_0_1 (ai A32_0_2 (ai A32_0_3 (ai T32_1p0 (ai X32_1 (ai X32_1t1 (ai T32_1p2 (ai X32_1t2 (ai X32_1t3 (ai T32_1t4 (X32_1t4)))))))))))))))
def a_f33:=ai X33_0 (ai X33_0t1 (ai T33_0t2 (ai X33_0t2 (ai A33_0_0 (ai A33_0_1 (ai A33_0_2 (ai A33_0_3 (ai T33_1p0 (ai X33_1 (ai X33_1t1 (ai T33_1p2 (ai X33_1t2 (ai X33_1t3 (ai T33_1t4 (X33_1t4)))))))))))))))
def a_f34:=ai X34_0 (ai X34_0t1 (ai T34_0t2 (ai X34_0t2 (ai A34_0_0 (ai A34_0_1 (ai A34_0_2 (ai A34_0_3 (ai T34_1p0 (ai X34_1 (ai X34_1t1 (ai T34_1p2 (ai X34_1t2 (ai X34_1t3 (ai T34_1t4 (X34_1t4)))))))))))))))
def a_f35:=ai X35_0 (ai X35_0t1 (ai T35_0t2 (ai X35_0t2 (ai A35_0_0 (ai A35_0_1 (ai A35_0_2 (ai A35_0_3 (ai T35_1p0 (ai X35_1 (ai X35_1t1 (ai T35_1p2 (ai X35_1t2 (ai X35_1t3 (ai T35_1t4 (X35_1t4)))))))))))))))
def a_f36:=ai A36_0p0_0 (ai A36_0p0_2 (ai A36_0p0_3 (ai X36_0 (ai T36_0t1 (ai X36_0t1 (ai A36_0_0 (ai A36_0_2 (ai A36_0_3 (ai T36_1 (ai T36_2 (ai T36_3p0 (ai X36_3 (ai X36_3t1 (ai T36_3p2 (ai X36_3t2 (ai X36_3t3 (ai X36_4 (ai T36_4t1 (ai X36_4t1 (ai T36_5 (ai T36_6 (ai T36_7 (ai T36_8 (ai T36_9p0 (ai X36_9 (ai X36_9t1 (ai T36_9t2 (ai X36_9t2 (ai T36_10p0 (ai X36_10 (ai X36_10t1 (ai T36_11 (ai s_f36_l0_ev (ai T36_12 (ai T36_13 (ai T36_14p0 (ai X36_14 (ai X36_14t1 (ai T36_14p2 (ai X36_14t2 (ai X36_14t3 (ai T36_15 (ai T36_16 (ai T36_17p0 (ai X36_17 (ai X36_17t1 (ai T36_17p2 (ai X36_17t2 (ai X36_17t3 (ai T36_18 (ai T36_19p0 (ai X36_19 (ai X36_19t1 (ai T36_19t2 (ai X36_19t2 (ai T36_20p0 (ai X36_20 (ai X36_20t1 (ai T36_21 (ai s_f36_l1_ev (ai T36_22 (ai s_f36_l2_ev (ai T36_23 (ai s_f36_l3_ev (ai T36_24p0 (ai X36_24 (ai X36_24t1 (ai T36_24t2 (X36_24t2)))))))))))))))))))))))))))))))))))))))))))))))))))))))))))))))))))))
def a_f37:=ai A37_0p0_0 (ai A37_0p0_2 (ai A37_0p0_3 (ai X37_0 (ai T37_0t1 (ai X37_0t1 (ai A37_0_0 (ai A37_0_2 (ai A37_0_3 (ai T37_1 (ai T37_2 (ai T37_3p0 (ai X37_3 (ai X37_3t1 (ai T37_3p2 (ai X37_3t2 (ai X37_3t3 (ai X37_4 (ai X37_4t1 (ai X37_4t2 (ai T37_4p3 (ai X37_4t3 (ai X37_4t4 (ai X37_4t5 (ai T37_5 (ai T37_6 (ai T37_7 (ai T37_8p0 (ai X37_8 (ai X37_8t1 (ai T37_9 (ai s_f37_l0_ev (ai T37_10 (ai T37_11 (ai T37_12p0 (ai X37_12 (ai X37_12t1 (ai X37_12t2 (ai T37_13 (ai T37_14 (ai T37_15p0 (ai X37_15 (ai X37_15t1 (ai X37_15t2 (ai T37_16p0 (ai X37_16 (ai X37_16t1 (ai T37_17 (ai s_f37_l1_ev (ai T37_18 (ai s_f37_l2_ev (ai T37_19 (ai T37_20 (ai T37_21p0 (ai X37_21 (ai X37_21t1 (ai T37_21p2 (ai X37_21t2 (ai X37_21t3 (ai T37_22 (ai T37_23 (ai T37_24p0 (ai X37_24 (ai X37_24t1 (ai T37_24p2 (ai X37_24t2 (ai X37_24t3 (ai T37_25p0 (ai X37_25 (ai X37_25t1 (ai T37_25p2 (ai X37_25t2 (ai X37_25t3 (ai T37_25p4 (ai X37_25t4 (ai X37_25t5 (ai T37_26p0 (ai X37_26 (ai X37_26t1 (ai T37_26t2 (ai X37_26t2 (ai T37_27 (ai s_f37_l3_ev (ai T37_28 (ai s_f37_l4_ev (ai T37_29 (ai s_f37_l5_ev (ai T37_30p0 (ai X37_30 (ai X37_30t1 (ai T37_30t2 (X37_30t2)))))))))))))))))))))))))))))))))))))))))))))))))))))))))))))))))))))))))))))))))))))))))))
theorem NA1_7:compK Try.prog PX0 7=some (false,s_f7.ntmps,s_f7.results,s_f7.body.bare):=by kernel_rfl
theorem NA1_10:compK Try.prog PX0 10=some (false,s_f10.ntmps,s_f10.results,s_f10.body.bare):=by kernel_rfl
theorem NA1_20:compK Try.prog PX0 20=some (false,s_f20.ntmps,s_f20.results,s_f20.body.bare):=by kernel_rfl
theorem NA1_21:compK Try.prog PX0 21=some (false,s_f21.ntmps,s_f21.results,s_f21.body.bare):=by kernel_rfl
theorem NA1_22:compK Try.prog PX0 22=some (false,s_f22.ntmps,s_f22.results,s_f22.body.bare):=by kernel_rfl
theorem NA1_24:compK Try.prog PX0 24=some (false,s_f24.ntmps,s_f24.results,s_f24.body.bare):=by kernel_rfl
theorem NA1_25:compK Try.prog PX0 25=some (false,s_f25.ntmps,s_f25.results,s_f25.body.bare):=by kernel_rfl
theorem NA1_26:compK Try.prog PX0 26=some (false,s_f26.ntmps,s_f26.results,s_f26.body.bare):=by kernel_rfl
theorem NA1_27:compK Try.prog PX0 27=some (false,s_f27.ntmps,s_f27.results,s_f27.body.bare):=by kernel_rfl
theorem NA1_28:compK Try.prog PX0 28=some (false,s_f28.ntmps,s_f28.results,s_f28.body.bare):=by kernel_rfl
theorem NA1_29:compK Try.prog PX0 29=some (false,s_f29.ntmps,s_f29.results,s_f29.body.bare):=by kernel_rfl
theorem NA1_31:compK Try.prog PX0 31=some (false,s_f31.ntmps,s_f31.results,s_f31.body.bare):=by kernel_rfl
theorem NA1_32:compK Try.prog PX0 32=some (false,s_f32.ntmps,s_f32.results,s_f32.body.bare):=by kernel_rfl
theorem NA1_33:compK Try.prog PX0 33=some (false,s_f33.ntmps,s_f33.results,s_f33.body.bare):=by kernel_rfl
theorem NA1_34:compK Try.prog PX0 34=some (false,s_f34.ntmps,s_f34.results,s_f34.body.bare):=by kernel_rfl
theorem NA1_35:compK Try.prog PX0 35=some (false,s_f35.ntmps,s_f35.results,s_f35.body.bare):=by kernel_rfl
theorem NA1_36:compK Try.prog PX0 36=some (false,s_f36.ntmps,s_f36.results,s_f36.body.bare):=by kernel_rfl
theorem NA1_37:compK Try.prog PX0 37=some (false,s_f37.ntmps,s_f37.results,s_f37.body.bare):=by kernel_rfl
end Go.Proofs.YtamlbkalopefgaaR
set_option maxRecDepth 100000
namespace Go.Proofs.YtamlbkalopefgaaR
open Go.AM
abbrev k_f23:Nat:=23
def K23_0:List Nat:=[1] ++ List.range' 3 137
def A23_0_0:=hK K23_0 0
def A23_0_2:=hK K23_0 2
def A23_0_3:=hQ K23_0 3
def R23_0t1:LO:=[⟨some 3,.move (.c (.s (.bool false))),none⟩]
def R23_0p0:LO:=[⟨some 2,.alloc [.s (.int .i64 0),.s (.int .i64 0),.s (.int .i64 0)],none⟩]
def R23_0:LO:=R23_0p0 ++ R23_0t1
def K23_0p0:List Nat:=[1] ++ List.range' 3 137
def A23_0p0_0:=hK K23_0p0 0
def A23_0p0_2:=hK K23_0p0 2
def A23_0p0_3:=hQ K23_0p0 3
theorem X23_0 (call:CallF) (it:IterF) (base:Nat) (f:List V) (H:Heap):evC call it base (.region R23_0 [] K23_0) f H=thenC call it base (.region R23_0t1 [] K23_0) (opsC [] R23_0p0 K23_0p0 (evOps call base [⟨some 2,.alloc [.s (.int .i64 0),.s (.int .i64 0),.s (.int .i64 0)],none⟩] f H)):=(row_op call it base R23_0p0 R23_0t1 (kc:=K23_0p0) (by kernel_rfl) f H).trans (by rw [row_ops];rfl)
def T23_0t1:=hT R23_0t1 K23_0 [] 4 [] [] [.cc (.s (.bool false))]
def X23_0t1:=hL R23_0t1 K23_0 []
def R23_1:LO:=[oM 12 0,⟨some 13,.nilCheck (.t 12),none⟩,oF 14 0 13,oF 15 0 14,oL 16 15,⟨some 17,.lenS .s (.t 16),none⟩,⟨some 18,.move (.c (.s (.int .i64 0))),none⟩]
def T23_1:=hT R23_1 [12,13,14,15] [16,17,18] 19 [] [(16,.op (.load false 1 (.t 0)) [.op (.fieldAddr 0 (.t 0)) [.op (.fieldAddr 0 (.t 0)) [.op (.nilCheck (.t 0)) [.t 0]]]]),(17,.op (.lenS .s (.t 0)) [.op (.load false 1 (.t 0)) [.op (.fieldAddr 0 (.t 0)) [.op (.fieldAddr 0 (.t 0)) [.op (.nilCheck (.t 0)) [.t 0]]]]]),(18,.c (.s (.int .i64 0)))] [.tt 0,sb [0,0,0],sb [0,0],sb [0],sb [],.sub 1 [] [],.cc (.s (.int .i64 0))]
def R23_2:LO:=[⟨some 19,.bin .lss (.t 18) (.t 17),none⟩]
def T23_2:=hT R23_2 [] [19] 20 [] [(19,.op (.bin .lss (.t 0) (.t 1)) [.t 18,.t 17])] [sb []]
def R23_3t3:LO:=[⟨none,.store 3 (.t 5) (.t 22),none⟩]
def R23_3p2:LO:=[oM 4 20]
def R23_3t2:LO:=R23_3p2 ++ R23_3t3
def R23_3t1:LO:=⟨some 5,.alloc [.s (.string ⟨#[]⟩),.s (.slice none 0 0),.s (.slice none 0 0)],none⟩ :: R23_3t2
def R23_3p0:LO:=[oM 20 18,⟨some 21,.indexAddr 3 (.t 16) (.t 18),none⟩,⟨some 22,.load true 3 (.t 21),none⟩]
def R23_3:LO:=R23_3p0 ++ R23_3t1
def T23_3p0:=hT R23_3p0 [19,21] [20,22] 23 [] [(20,.t 18),(22,.op (.load true 3 (.t 0)) [.op (.indexAddr 3 (.t 0) (.t 1)) [.t 16,.t 18]])] [.tt 18,.sub 1 [0] [],.sub 1 [] []]
def X23_3:=hS R23_3 R23_3p0 R23_3t1 [19,21] [20,22] [19,20,21,22]
def X23_3t1:=hP R23_3t1 R23_3t2 [] [19,20,21,22] ⟨some 5,.alloc [.s (.string ⟨#[]⟩),.s (.slice none 0 0),.s (.slice none 0 0)],none⟩
def T23_3p2:=hT R23_3p2 [20] [4] 5 [] [(4,.t 20)] [.tt 20]
def X23_3t2:=hS R23_3t2 R23_3p2 R23_3t3 [20] [4] [19,20,21,22]
def X23_3t3:=hX R23_3t3 [19,20,21,22] [⟨none,.store 3 (.t 5) (.t 22),none⟩]
def R23_4t6:LO:=[⟨some 31,.pick (.t 27) (.c (.s (.bool true))) (.t 30),none⟩]
def R23_4t5:LO:=⟨some 30,.call (.c (.fn 39 [] [])) [.t 29,.c (.fn 40 [] [])],some (27,false)⟩ :: R23_4t6
def R23_4t4:LO:=gL 29 28 27 false :: R23_4t5
def R23_4t3:LO:=gF 28 1 5 27 false :: R23_4t4
def R23_4p2:LO:=[⟨some 26,.un .not (.t 25),none⟩,oM 27 26]
def R23_4t2:LO:=R23_4p2 ++ R23_4t3
def R23_4t1:LO:=⟨some 25,.call (.c (.fn 7 [] [])) [.t 24],none⟩ :: R23_4t2
def R23_4p0:LO:=[oF 23 0 5,oL 24 23]
def R23_4:LO:=R23_4p0 ++ R23_4t1
def T23_4p0:=hT R23_4p0 [23] [24] 25 [] [(24,.op (.load false 1 (.t 0)) [.op (.fieldAddr 0 (.t 0)) [.t 5]])] [sb [0],sb []]
def X23_4:=hS R23_4 R23_4p0 R23_4t1 [23] [24] [23,24,25,26,27,28,29,30]
def X23_4t1:=hP R23_4t1 R23_4t2 [24] [23,24,25,26,27,28,29,30] ⟨some 25,.call (.c (.fn 7 [] [])) [.t 24],none⟩
def T23_4p2:=hT R23_4p2 [25,26] [27] 28 [] [(27,.op (.un .not (.t 0)) [.t 25])] [sb [],sb []]
def X23_4t2:=hS R23_4t2 R23_4p2 R23_4t3 [25,26] [27] [23,24,25,26,27,28,29,30]
def X23_4t3:=hP R23_4t3 R23_4t4 [] [23,24,25,26,27,28,29,30] ⟨some 28,.fieldAddr 1 (.t 5),some (27,false)⟩
def X23_4t4:=hP R23_4t4 R23_4t5 [28] [23,24,25,26,27,28,29,30] ⟨some 29,.load false 1 (.t 28),some (27,false)⟩
def X23_4t5:=hP R23_4t5 R23_4t6 [29] [23,24,25,26,27,28,29,30] ⟨some 30,.call (.c (.fn 39 [] [])) [.t 29,.c (.fn 40 [] [])],some (27,false)⟩
def T23_4t6:=hT R23_4t6 [23,24,25,26,27,28,29,30] [31] 32 [] [(31,.pick (.t 27) (.c (.s (.bool true))) (.t 30))] [sb []]
def X23_4t6:=hL R23_4t6 [23,24,25,26,27,28,29,30] [31]
def R23_5t2:LO:=[⟨some 3,.move (.c (.s (.bool true))),none⟩]
def R23_5t1:LO:=⟨none,.store 3 (.t 2) (.t 33),none⟩ :: R23_5t2
def R23_5p0:LO:=[oM 32 4,⟨some 33,.build [.s (.int .i64 0),.s (.int .i64 0),.s (.int .i64 0)] [(0,1),(1,1),(2,1)] [(0,.t 32)],none⟩]
def R23_5:LO:=R23_5p0 ++ R23_5t1
def T23_5p0:=hT R23_5p0 [0,4,5,16,17,18,31,32] [33] 34 [] [(33,.op (.build [.s (.int .i64 0),.s (.int .i64 0),.s (.int .i64 0)] [(0,1),(1,1),(2,1)] [(0,.t 0)]) [.t 4])] [.tt 4,sb []]
def X23_5:=hS R23_5 R23_5p0 R23_5t1 [0,4,5,16,17,18,31,32] [33] [0,4,5,16,17,18,31,32,33]
def X23_5t1:=hP R23_5t1 R23_5t2 [33] [0,4,5,16,17,18,31,32,33] ⟨none,.store 3 (.t 2) (.t 33),none⟩
def T23_5t2:=hT R23_5t2 [0,4,5,16,17,18,31,32,33] [3] 4 [] [(3,.c (.s (.bool true)))] [.cc (.s (.bool true))]
def X23_5t2:=hL R23_5t2 [0,4,5,16,17,18,31,32,33] [3]
def R23_6:LO:=[oF 34 2 5,oL 35 34,⟨some 36,.lenS .s (.t 35),none⟩,⟨some 37,.move (.c (.s (.int .i64 0))),none⟩]
def T23_6:=hT R23_6 [5,31,34] [35,36,37] 38 [] [(35,.op (.load false 1 (.t 0)) [.op (.fieldAddr 2 (.t 0)) [.t 5]]),(36,.op (.lenS .s (.t 0)) [.op (.load false 1 (.t 0)) [.op (.fieldAddr 2 (.t 0)) [.t 5]]]),(37,.c (.s (.int .i64 0)))] [sb [0],sb [],.sub 1 [] [],.cc (.s (.int .i64 0))]
def R23_7:LO:=[⟨some 38,.bin .lss (.t 37) (.t 36),none⟩]
def T23_7:=hT R23_7 [] [38] 39 [] [(38,.op (.bin .lss (.t 0) (.t 1)) [.t 37,.t 36])] [sb []]
def R23_8t3:LO:=[⟨none,.store 2 (.t 7) (.t 41),none⟩]
def R23_8p2:LO:=[oM 6 39]
def R23_8t2:LO:=R23_8p2 ++ R23_8t3
def R23_8t1:LO:=⟨some 7,.alloc [.s (.string ⟨#[]⟩),.s (.slice none 0 0)],none⟩ :: R23_8t2
def R23_8p0:LO:=[oM 39 37,⟨some 40,.indexAddr 2 (.t 35) (.t 37),none⟩,⟨some 41,.load true 2 (.t 40),none⟩]
def R23_8:LO:=R23_8p0 ++ R23_8t1
def T23_8p0:=hT R23_8p0 [38,40] [39,41] 42 [] [(39,.t 37),(41,.op (.load true 2 (.t 0)) [.op (.indexAddr 2 (.t 0) (.t 1)) [.t 35,.t 37]])] [.tt 37,.sub 1 [0] [],.sub 1 [] []]
def X23_8:=hS R23_8 R23_8p0 R23_8t1 [38,40] [39,41] [38,39,40,41]
def X23_8t1:=hP R23_8t1 R23_8t2 [] [38,39,40,41] ⟨some 7,.alloc [.s (.string ⟨#[]⟩),.s (.slice none 0 0)],none⟩
def T23_8p2:=hT R23_8p2 [39] [6] 7 [] [(6,.t 39)] [.tt 39]
def X23_8t2:=hS R23_8t2 R23_8p2 R23_8t3 [39] [6] [38,39,40,41]
def X23_8t3:=hX R23_8t3 [38,39,40,41] [⟨none,.store 2 (.t 7) (.t 41),none⟩]
def R23_9t2:LO:=[⟨some 45,.un .not (.t 44),none⟩]
def R23_9t1:LO:=⟨some 44,.call (.c (.fn 7 [] [])) [.t 43],none⟩ :: R23_9t2
def R23_9p0:LO:=[oF 42 0 7,oL 43 42]
def R23_9:LO:=R23_9p0 ++ R23_9t1
def T23_9p0:=hT R23_9p0 [42] [43] 44 [] [(43,.op (.load false 1 (.t 0)) [.op (.fieldAddr 0 (.t 0)) [.t 7]])] [sb [0],sb []]
def X23_9:=hS R23_9 R23_9p0 R23_9t1 [42] [43] [42,43,44]
def X23_9t1:=hP R23_9t1 R23_9t2 [43] [42,43,44] ⟨some 44,.call (.c (.fn 7 [] [])) [.t 43],none⟩
def T23_9t2:=hT R23_9t2 [42,43,44] [45] 46 [] [(45,.op (.un .not (.t 0)) [.t 44])] [sb []]
def X23_9t2:=hL R23_9t2 [42,43,44] [45]
def R23_10t2:LO:=[⟨some 3,.move (.c (.s (.bool true))),none⟩]
def R23_10t1:LO:=⟨none,.store 3 (.t 2) (.t 48),none⟩ :: R23_10t2
def R23_10p0:LO:=[oM 46 4,oM 47 6,⟨some 48,.build [.s (.int .i64 0),.s (.int .i64 0),.s (.int .i64 0)] [(0,1),(1,1),(2,1)] [(0,.t 46),(1,.t 47)],none⟩]
def R23_10:LO:=R23_10p0 ++ R23_10t1
def T23_10p0:=hT R23_10p0 [0,4,6,7,16,17,18,35,36,37,45,46,47] [48] 49 [] [(48,.op (.build [.s (.int .i64 0),.s (.int .i64 0),.s (.int .i64 0)] [(0,1),(1,1),(2,1)] [(0,.t 0),(1,.t 1)]) [.t 4,.t 6])] [.tt 4,.tt 6,sb []]
def X23_10:=hS R23_10 R23_10p0 R23_10t1 [0,4,6,7,16,17,18,35,36,37,45,46,47] [48] [0,4,6,7,16,17,18,35,36,37,45,46,47,48]
def X23_10t1:=hP R23_10t1 R23_10t2 [48] [0,4,6,7,16,17,18,35,36,37,45,46,47,48] ⟨none,.store 3 (.t 2) (.t 48),none⟩
def T23_10t2:=hT R23_10t2 [0,4,6,7,16,17,18,35,36,37,45,46,47,48] [3] 4 [] [(3,.c (.s (.bool true)))] [.cc (.s (.bool true))]
def X23_10t2:=hL R23_10t2 [0,4,6,7,16,17,18,35,36,37,45,46,47,48] [3]
def R23_11:LO:=[oF 49 1 7,oL 50 49,⟨some 51,.lenS .s (.t 50),none⟩,⟨some 52,.move (.c (.s (.int .i64 0))),none⟩]
def T23_11:=hT R23_11 [7,45,49] [50,51,52] 53 [] [(50,.op (.load false 1 (.t 0)) [.op (.fieldAddr 1 (.t 0)) [.t 7]]),(51,.op (.lenS .s (.t 0)) [.op (.load false 1 (.t 0)) [.op (.fieldAddr 1 (.t 0)) [.t 7]]]),(52,.c (.s (.int .i64 0)))] [sb [0],sb [],.sub 1 [] [],.cc (.s (.int .i64 0))]
def R23_12:LO:=[⟨some 53,.bin .lss (.t 52) (.t 51),none⟩]
def T23_12:=hT R23_12 [] [53] 54 [] [(53,.op (.bin .lss (.t 0) (.t 1)) [.t 52,.t 51])] [sb []]
def R23_13t3:LO:=[⟨none,.store 8 (.t 9) (.t 56),none⟩]
def R23_13p2:LO:=[oM 8 54]
def R23_13t2:LO:=R23_13p2 ++ R23_13t3
def R23_13t1:LO:=⟨some 9,.alloc [.s (.int .u8 0),.s (.string ⟨#[]⟩),.s (.string ⟨#[]⟩),.s (.string ⟨#[]⟩),.s (.int .i64 0),.s (.string ⟨#[]⟩),.s (.slice none 0 0),.s (.slice none 0 0)],none⟩ :: R23_13t2
def R23_13p0:LO:=[oM 54 52,⟨some 55,.indexAddr 8 (.t 50) (.t 52),none⟩,⟨some 56,.load true 8 (.t 55),none⟩]
def R23_13:LO:=R23_13p0 ++ R23_13t1
def T23_13p0:=hT R23_13p0 [53,55] [54,56] 57 [] [(54,.t 52),(56,.op (.load true 8 (.t 0)) [.op (.indexAddr 8 (.t 0) (.t 1)) [.t 50,.t 52]])] [.tt 52,.sub 1 [0] [],.sub 1 [] []]
def X23_13:=hS R23_13 R23_13p0 R23_13t1 [53,55] [54,56] [53,54,55,56]
def X23_13t1:=hP R23_13t1 R23_13t2 [] [53,54,55,56] ⟨some 9,.alloc [.s (.int .u8 0),.s (.string ⟨#[]⟩),.s (.string ⟨#[]⟩),.s (.string ⟨#[]⟩),.s (.int .i64 0),.s (.string ⟨#[]⟩),.s (.slice none 0 0),.s (.slice none 0 0)],none⟩
def T23_13p2:=hT R23_13p2 [54] [8] 9 [] [(8,.t 54)] [.tt 54]
def X23_13t2:=hS R23_13t2 R23_13p2 R23_13t3 [54] [8] [53,54,55,56]
def X23_13t3:=hX R23_13t3 [53,54,55,56] [⟨none,.store 8 (.t 9) (.t 56),none⟩]
def R23_14t2:LO:=[⟨none,.store 7 (.t 10) (.t 63),none⟩]
def R23_14t1:LO:=⟨some 10,.alloc [.s (.bool false),.s (.bool false),.s (.bool false),.s (.bool false),.s (.bool false),.s (.bool false),.s (.bool false)],none⟩ :: R23_14t2
def R23_14p0:LO:=[oM 57 0,⟨some 58,.nilCheck (.t 57),none⟩,oF 59 1 58,oL 60 59,oF 61 0 9,oL 62 61,⟨some 63,.mapGet (.int .u8) (.agg [.s (.bool false),.s (.bool false),.s (.bool false),.s (.bool false),.s (.bool false),.s (.bool false),.s (.bool false)]) (.t 60) (.t 62) false,none⟩]
def R23_14:LO:=R23_14p0 ++ R23_14t1
def T23_14p0:=hT R23_14p0 [57,58,59,60,61,62] [63] 64 [] [(63,.op (.mapGet (.int .u8) (.agg [.s (.bool false),.s (.bool false),.s (.bool false),.s (.bool false),.s (.bool false),.s (.bool false),.s (.bool false)]) (.t 0) (.t 1) false) [.op (.load false 1 (.t 0)) [.op (.fieldAddr 1 (.t 0)) [.op (.nilCheck (.t 0)) [.t 0]]],.op (.load false 1 (.t 0)) [.op (.fieldAddr 0 (.t 0)) [.t 9]]])] [.tt 0,sb [0,0,0],sb [0,0],sb [0],sb [1,0],sb [1],sb []]
def X23_14:=hS R23_14 R23_14p0 R23_14t1 [57,58,59,60,61,62] [63] [57,58,59,60,61,62,63]
def X23_14t1:=hP R23_14t1 R23_14t2 [] [57,58,59,60,61,62,63] ⟨some 10,.alloc [.s (.bool false),.s (.bool false),.s (.bool false),.s (.bool false),.s (.bool false),.s (.bool false),.s (.bool false)],none⟩
def X23_14t2:=hX R23_14t2 [57,58,59,60,61,62,63] [⟨none,.store 7 (.t 10) (.t 63),none⟩]
def R23_15t29:LO:=[⟨some 100,.pick (.t 95) (.t 99) (.c (.s (.bool false))),some (92,false)⟩,⟨some 101,.pick (.t 92) (.c (.s (.bool true))) (.t 100),none⟩,oM 11 101]
def R23_15t28:LO:=⟨some 99,.call (.c (.fn 41 [] [])) [.c (.s (.bool true)),.t 98],some (95,true)⟩ :: R23_15t29
def R23_15t27:LO:=⟨some 98,.buildSl 1 1 [.s (.string ⟨#[]⟩)] [(0,.t 97)],some (95,true)⟩ :: R23_15t28
def R23_15t26:LO:=gL 97 96 95 true :: R23_15t27
def R23_15t25:LO:=gF 96 3 9 95 true :: R23_15t26
def R23_15t24:LO:=gM 95 94 92 false :: R23_15t25
def R23_15t23:LO:=gL 94 93 92 false :: R23_15t24
def R23_15t22:LO:=gF 93 2 10 92 false :: R23_15t23
def R23_15p21:LO:=[⟨some 90,.pick (.t 85) (.t 89) (.c (.s (.bool false))),some (82,false)⟩,⟨some 91,.pick (.t 82) (.c (.s (.bool true))) (.t 90),none⟩,oM 92 91]
def R23_15t21:LO:=R23_15p21 ++ R23_15t22
def R23_15t20:LO:=⟨some 89,.call (.c (.fn 41 [] [])) [.c (.s (.bool true)),.t 88],some (85,true)⟩ :: R23_15t21
def R23_15t19:LO:=⟨some 88,.buildSl 1 1 [.s (.string ⟨#[]⟩)] [(0,.t 87)],some (85,true)⟩ :: R23_15t20
def R23_15t18:LO:=gL 87 86 85 true :: R23_15t19
def R23_15t17:LO:=gF 86 2 9 85 true :: R23_15t18
def R23_15t16:LO:=gM 85 84 82 false :: R23_15t17
def R23_15t15:LO:=gL 84 83 82 false :: R23_15t16
def R23_15t14:LO:=gF 83 1 10 82 false :: R23_15t15
def R23_15p13:LO:=[⟨some 80,.pick (.t 75) (.t 79) (.c (.s (.bool false))),some (72,false)⟩,⟨some 81,.pick (.t 72) (.c (.s (.bool true))) (.t 80),none⟩,oM 82 81]
def R23_15t13:LO:=R23_15p13 ++ R23_15t14
def R23_15t12:LO:=⟨some 79,.call (.c (.fn 41 [] [])) [.c (.s (.bool false)),.t 78],some (75,true)⟩ :: R23_15t13
def R23_15t11:LO:=⟨some 78,.buildSl 1 1 [.s (.string ⟨#[]⟩)] [(0,.t 77)],some (75,true)⟩ :: R23_15t12
def R23_15t10:LO:=gL 77 76 75 true :: R23_15t11
def R23_15t9:LO:=gF 76 5 9 75 true :: R23_15t10
def R23_15t8:LO:=gM 75 74 72 false :: R23_15t9
def R23_15t7:LO:=gL 74 73 72 false :: R23_15t8
def R23_15t6:LO:=gF 73 4 10 72 false :: R23_15t7
def R23_15p5:LO:=[⟨some 71,.pick (.t 66) (.t 70) (.c (.s (.bool false))),none⟩,oM 72 71]
def R23_15t5:LO:=R23_15p5 ++ R23_15t6
def R23_15t4:LO:=⟨some 70,.call (.c (.fn 41 [] [])) [.c (.s (.bool false)),.t 69],some (66,true)⟩ :: R23_15t5
def R23_15t3:LO:=⟨some 69,.buildSl 1 1 [.s (.string ⟨#[]⟩)] [(0,.t 68)],some (66,true)⟩ :: R23_15t4
def R23_15t2:LO:=gL 68 67 66 true :: R23_15t3
def R23_15t1:LO:=gF 67 1 9 66 true :: R23_15t2
def R23_15p0:LO:=[oF 64 0 10,oL 65 64,oM 66 65]
def R23_15:LO:=R23_15p0 ++ R23_15t1
def T23_15p0:=hT R23_15p0 [64,65] [66] 67 [] [(66,.op (.load false 1 (.t 0)) [.op (.fieldAddr 0 (.t 0)) [.t 10]])] [sb [0],sb [],sb []]
def X23_15:=hS R23_15 R23_15p0 R23_15t1 [64,65] [66] [64,65,66,67,68,69,70,71,72,73,74,75,76,77,78,79,80,81,82,83,84,85,86,87,88,89,90,91,92,93,94,95,96,97,98,99,100,101]
def X23_15t1:=hP R23_15t1 R23_15t2 [] [64,65,66,67,68,69,70,71,72,73,74,75,76,77,78,79,80,81,82,83,84,85,86,87,88,89,90,91,92,93,94,95,96,97,98,99,100,101] ⟨some 67,.fieldAddr 1 (.t 9),some (66,true)⟩
def X23_15t2:=hP R23_15t2 R23_15t3 [67] [64,65,66,67,68,69,70,71,72,73,74,75,76,77,78,79,80,81,82,83,84,85,86,87,88,89,90,91,92,93,94,95,96,97,98,99,100,101] ⟨some 68,.load false 1 (.t 67),some (66,true)⟩
def X23_15t3:=hP R23_15t3 R23_15t4 [68] [64,65,66,67,68,69,70,71,72,73,74,75,76,77,78,79,80,81,82,83,84,85,86,87,88,89,90,91,92,93,94,95,96,97,98,99,100,101] ⟨some 69,.buildSl 1 1 [.s (.string ⟨#[]⟩)] [(0,.t 68)],some (66,true)⟩
def X23_15t4:=hP R23_15t4 R23_15t5 [69] [64,65,66,67,68,69,70,71,72,73,74,75,76,77,78,79,80,81,82,83,84,85,86,87,88,89,90,91,92,93,94,95,96,97,98,99,100,101] ⟨some 70,.call (.c (.fn 41 [] [])) [.c (.s (.bool false)),.t 69],some (66,true)⟩
def T23_15p5:=hT R23_15p5 [66,70,71] [72] 73 [] [(72,.pick (.t 66) (.t 70) (.c (.s (.bool false))))] [sb [],sb []]
def X23_15t5:=hS R23_15t5 R23_15p5 R23_15t6 [66,70,71] [72] [64,65,66,67,68,69,70,71,72,73,74,75,76,77,78,79,80,81,82,83,84,85,86,87,88,89,90,91,92,93,94,95,96,97,98,99,100,101]
def X23_15t6:=hP R23_15t6 R23_15t7 [] [64,65,66,67,68,69,70,71,72,73,74,75,76,77,78,79,80,81,82,83,84,85,86,87,88,89,90,91,92,93,94,95,96,97,98,99,100,101] ⟨some 73,.fieldAddr 4 (.t 10),some (72,false)⟩
def X23_15t7:=hP R23_15t7 R23_15t8 [73] [64,65,66,67,68,69,70,71,72,73,74,75,76,77,78,79,80,81,82,83,84,85,86,87,88,89,90,91,92,93,94,95,96,97,98,99,100,101] ⟨some 74,.load false 1 (.t 73),some (72,false)⟩
def X23_15t8:=hP R23_15t8 R23_15t9 [74] [64,65,66,67,68,69,70,71,72,73,74,75,76,77,78,79,80,81,82,83,84,85,86,87,88,89,90,91,92,93,94,95,96,97,98,99,100,101] ⟨some 75,.move (.t 74),some (72,false)⟩
def X23_15t9:=hP R23_15t9 R23_15t10 [] [64,65,66,67,68,69,70,71,72,73,74,75,76,77,78,79,80,81,82,83,84,85,86,87,88,89,90,91,92,93,94,95,96,97,98,99,100,101] ⟨some 76,.fieldAddr 5 (.t 9),some (75,true)⟩
def X23_15t10:=hP R23_15t10 R23_15t11 [76] [64,65,66,67,68,69,70,71,72,73,74,75,76,77,78,79,80,81,82,83,84,85,86,87,88,89,90,91,92,93,94,95,96,97,98,99,100,101] ⟨some 77,.load false 1 (.t 76),some (75,true)⟩
def X23_15t11:=hP R23_15t11 R23_15t12 [77] [64,65,66,67,68,69,70,71,72,73,74,75,76,77,78,79,80,81,82,83,84,85,86,87,88,89,90,91,92,93,94,95,96,97,98,99,100,101] ⟨some 78,.buildSl 1 1 [.s (.string ⟨#[]⟩)] [(0,.t 77)],some (75,true)⟩
def X23_15t12:=hP R23_15t12 R23_15t13 [78] [64,65,66,67,68,69,70,71,72,73,74,75,76,77,78,79,80,81,82,83,84,85,86,87,88,89,90,91,92,93,94,95,96,97,98,99,100,101] ⟨some 79,.call (.c (.fn 41 [] [])) [.c (.s (.bool false)),.t 78],some (75,true)⟩
def T23_15p13:=hT R23_15p13 [72,75,79,80,81] [82] 83 [] [(82,.pick (.t 72) (.c (.s (.bool true))) (.pick (.t 75) (.t 79) (.c (.s (.bool false)))))] [.sub 0 [2] [72],sb [],sb []]
def X23_15t13:=hS R23_15t13 R23_15p13 R23_15t14 [72,75,79,80,81] [82] [64,65,66,67,68,69,70,71,72,73,74,75,76,77,78,79,80,81,82,83,84,85,86,87,88,89,90,91,92,93,94,95,96,97,98,99,100,101]
def X23_15t14:=hP R23_15t14 R23_15t15 [] [64,65,66,67,68,69,70,71,72,73,74,75,76,77,78,79,80,81,82,83,84,85,86,87,88,89,90,91,92,93,94,95,96,97,98,99,100,101] ⟨some 83,.fieldAddr 1 (.t 10),some (82,false)⟩
def X23_15t15:=hP R23_15t15 R23_15t16 [83] [64,65,66,67,68,69,70,71,72,73,74,75,76,77,78,79,80,81,82,83,84,85,86,87,88,89,90,91,92,93,94,95,96,97,98,99,100,101] ⟨some 84,.load false 1 (.t 83),some (82,false)⟩
def X23_15t16:=hP R23_15t16 R23_15t17 [84] [64,65,66,67,68,69,70,71,72,73,74,75,76,77,78,79,80,81,82,83,84,85,86,87,88,89,90,91,92,93,94,95,96,97,98,99,100,101] ⟨some 85,.move (.t 84),some (82,false)⟩
def X23_15t17:=hP R23_15t17 R23_15t18 [] [64,65,66,67,68,69,70,71,72,73,74,75,76,77,78,79,80,81,82,83,84,85,86,87,88,89,90,91,92,93,94,95,96,97,98,99,100,101] ⟨some 86,.fieldAddr 2 (.t 9),some (85,true)⟩
def X23_15t18:=hP R23_15t18 R23_15t19 [86] [64,65,66,67,68,69,70,71,72,73,74,75,76,77,78,79,80,81,82,83,84,85,86,87,88,89,90,91,92,93,94,95,96,97,98,99,100,101] ⟨some 87,.load false 1 (.t 86),some (85,true)⟩
def X23_15t19:=hP R23_15t19 R23_15t20 [87] [64,65,66,67,68,69,70,71,72,73,74,75,76,77,78,79,80,81,82,83,84,85,86,87,88,89,90,91,92,93,94,95,96,97,98,99,100,101] ⟨some 88,.buildSl 1 1 [.s (.string ⟨#[]⟩)] [(0,.t 87)],some (85,true)⟩
def X23_15t20:=hP R23_15t20 R23_15t21 [88] [64,65,66,67,68,69,70,71,72,73,74,75,76,77,78,79,80,81,82,83,84,85,86,87,88,89,90,91,92,93,94,95,96,97,98,99,100,101] ⟨some 89,.call (.c (.fn 41 [] [])) [.c (.s (.bool true)),.t 88],some (85,true)⟩
def T23_15p21:=hT R23_15p21 [82,85,89,90,91] [92] 93 [] [(92,.pick (.t 82) (.c (.s (.bool true))) (.pick (.t 85) (.t 89) (.c (.s (.bool false)))))] [.sub 0 [2] [82],sb [],sb []]
def X23_15t21:=hS R23_15t21 R23_15p21 R23_15t22 [82,85,89,90,91] [92] [64,65,66,67,68,69,70,71,72,73,74,75,76,77,78,79,80,81,82,83,84,85,86,87,88,89,90,91,92,93,94,95,96,97,98,99,100,101]
def X23_15t22:=hP R23_15t22 R23_15t23 [] [64,65,66,67,68,69,70,71,72,73,74,75,76,77,78,79,80,81,82,83,84,85,86,87,88,89,90,91,92,93,94,95,96,97,98,99,100,101] ⟨some 93,.fieldAddr 2 (.t 10),some (92,false)⟩
def X23_15t23:=hP R23_15t23 R23_15t24 [93] [64,65,66,67,68,69,70,71,72,73,74,75,76,77,78,79,80,81,82,83,84,85,86,87,88,89,90,91,92,93,94,95,96,97,98,99,100,101] ⟨some 94,.load false 1 (.t 93),some (92,false)⟩
def X23_15t24:=hP R23_15t24 R23_15t25 [94] [64,65,66,67,68,69,70,71,72,73,74,75,76,77,78,79,80,81,82,83,84,85,86,87,88,89,90,91,92,93,94,95,96,97,98,99,100,101] ⟨some 95,.move (.t 94),some (92,false)⟩
def X23_15t25:=hP R23_15t25 R23_15t26 [] [64,65,66,67,68,69,70,71,72,73,74,75,76,77,78,79,80,81,82,83,84,85,86,87,88,89,90,91,92,93,94,95,96,97,98,99,100,101] ⟨some 96,.fieldAddr 3 (.t 9),some (95,true)⟩
def X23_15t26:=hP R23_15t26 R23_15t27 [96] [64,65,66,67,68,69,70,71,72,73,74,75,76,77,78,79,80,81,82,83,84,85,86,87,88,89,90,91,92,93,94,95,96,97,98,99,100,101] ⟨some 97,.load false 1 (.t 96),some (95,true)⟩
def X23_15t27:=hP R23_15t27 R23_15t28 [97] [64,65,66,67,68,69,70,71,72,73,74,75,76,77,78,79,80,81,82,83,84,85,86,87,88,89,90,91,92,93,94,95,96,97,98,99,100,101] ⟨some 98,.buildSl 1 1 [.s (.string ⟨#[]⟩)] [(0,.t 97)],some (95,true)⟩
def X23_15t28:=hP R23_15t28 R23_15t29 [98] [64,65,66,67,68,69,70,71,72,73,74,75,76,77,78,79,80,81,82,83,84,85,86,87,88,89,90,91,92,93,94,95,96,97,98,99,100,101] ⟨some 99,.call (.c (.fn 41 [] [])) [.c (.s (.bool true)),.t 98],some (95,true)⟩
def T23_15t29:=hT R23_15t29 [64,65,66,67,68,69,70,71,72,73,74,75,76,77,78,79,80,81,82,83,84,85,86,87,88,89,90,91,92,93,94,95,96,97,98,99,100,101] [11] 102 [] [(11,.pick (.t 92) (.c (.s (.bool true))) (.pick (.t 95) (.t 99) (.c (.s (.bool false)))))] [.sub 0 [2] [92],sb [],sb []]
def X23_15t29:=hL R23_15t29 [64,65,66,67,68,69,70,71,72,73,74,75,76,77,78,79,80,81,82,83,84,85,86,87,88,89,90,91,92,93,94,95,96,97,98,99,100,101] [11]
def R23_16t22:LO:=[⟨some 128,.pick (.t 124) (.c (.s (.bool true))) (.t 127),some (120,true)⟩,⟨some 129,.pick (.t 120) (.t 128) (.c (.s (.bool false))),some (117,false)⟩,⟨some 130,.pick (.t 117) (.c (.s (.bool true))) (.t 129),none⟩,⟨some 11,.move (.t 130),none⟩]
def R23_16p21:LO:=[⟨some 127,.call (.c (.fn 42 [] [])) [.t 126,.c (.s (.string ⟨#[]⟩))],some (124,false)⟩]
def R23_16t21:LO:=⟨some 127,.call (.c (.fn 42 [] [])) [.t 126,.c (.s (.string ⟨#[]⟩))],some (124,false)⟩ :: R23_16t22
def R23_16p20:LO:=[⟨some 126,.load false 1 (.t 125),some (124,false)⟩]
def R23_16t20:LO:=⟨some 126,.load false 1 (.t 125),some (124,false)⟩ :: R23_16t21
def R23_16p19:LO:=[⟨some 125,.fieldAddr 7 (.t 9),some (124,false)⟩]
def R23_16t19:LO:=⟨some 125,.fieldAddr 7 (.t 9),some (124,false)⟩ :: R23_16t20
def R23_16p18:LO:=[⟨some 124,.move (.t 123),some (120,true)⟩]
def R23_16t18:LO:=⟨some 124,.move (.t 123),some (120,true)⟩ :: R23_16t19
def R23_16p17:LO:=[⟨some 123,.call (.c (.fn 41 [] [])) [.c (.s (.bool false)),.t 122],some (120,true)⟩]
def R23_16t17:LO:=⟨some 123,.call (.c (.fn 41 [] [])) [.c (.s (.bool false)),.t 122],some (120,true)⟩ :: R23_16t18
def R23_16p16:LO:=[⟨some 122,.load false 1 (.t 121),some (120,true)⟩]
def R23_16t16:LO:=⟨some 122,.load false 1 (.t 121),some (120,true)⟩ :: R23_16t17
def R23_16p15:LO:=[⟨some 121,.fieldAddr 7 (.t 9),some (120,true)⟩]
def R23_16t15:LO:=⟨some 121,.fieldAddr 7 (.t 9),some (120,true)⟩ :: R23_16t16
def R23_16p14:LO:=[⟨some 120,.move (.t 119),some (117,false)⟩]
def R23_16t14:LO:=⟨some 120,.move (.t 119),some (117,false)⟩ :: R23_16t15
def R23_16p13:LO:=[⟨some 119,.load false 1 (.t 118),some (117,false)⟩]
def R23_16t13:LO:=⟨some 119,.load false 1 (.t 118),some (117,false)⟩ :: R23_16t14
def R23_16p12:LO:=[⟨some 118,.fieldAddr 6 (.t 10),some (117,false)⟩]
def R23_16t12:LO:=⟨some 118,.fieldAddr 6 (.t 10),some (117,false)⟩ :: R23_16t13
def R23_16p11:LO:=[⟨some 114,.pick (.t 110) (.c (.s (.bool true))) (.t 113),some (106,true)⟩,⟨some 115,.pick (.t 106) (.t 114) (.c (.s (.bool false))),some (103,false)⟩,⟨some 116,.pick (.t 103) (.c (.s (.bool true))) (.t 115),none⟩,⟨some 117,.move (.t 116),none⟩]
def R23_16t11:LO:=R23_16p11 ++ R23_16t12
def R23_16t10:LO:=⟨some 113,.call (.c (.fn 42 [] [])) [.t 112,.c (.s (.string ⟨#[]⟩))],some (110,false)⟩ :: R23_16t11
def R23_16t9:LO:=⟨some 112,.load false 1 (.t 111),some (110,false)⟩ :: R23_16t10
def R23_16t8:LO:=⟨some 111,.fieldAddr 6 (.t 9),some (110,false)⟩ :: R23_16t9
def R23_16t7:LO:=⟨some 110,.move (.t 109),some (106,true)⟩ :: R23_16t8
def R23_16t6:LO:=⟨some 109,.call (.c (.fn 41 [] [])) [.c (.s (.bool true)),.t 108],some (106,true)⟩ :: R23_16t7
def R23_16t5:LO:=⟨some 108,.load false 1 (.t 107),some (106,true)⟩ :: R23_16t6
def R23_16t4:LO:=⟨some 107,.fieldAddr 6 (.t 9),some (106,true)⟩ :: R23_16t5
def R23_16t3:LO:=⟨some 106,.move (.t 105),some (103,false)⟩ :: R23_16t4
def R23_16t2:LO:=⟨some 105,.load false 1 (.t 104),some (103,false)⟩ :: R23_16t3
def R23_16t1:LO:=⟨some 104,.fieldAddr 5 (.t 10),some (103,false)⟩ :: R23_16t2
def R23_16p0:LO:=[⟨some 102,.move (.t 11),none⟩,⟨some 103,.move (.t 102),none⟩]
def R23_16:LO:=R23_16p0 ++ R23_16t1
def T23_16p0:=hT R23_16p0 [11,102] [103] 104 [] [(103,.t 11)] [.tt 11,.tt 11]
def X23_16:=hS R23_16 R23_16p0 R23_16t1 [11,102] [103] [9,10,102,103,104,105,106,107,108,109,110,111,112,113,114,115,116,117,118,119,120,121,122,123,124,125,126,127,128,129,130]
def X23_16t1:=hP R23_16t1 R23_16t2 [] [9,10,102,103,104,105,106,107,108,109,110,111,112,113,114,115,116,117,118,119,120,121,122,123,124,125,126,127,128,129,130] ⟨some 104,.fieldAddr 5 (.t 10),some (103,false)⟩
def X23_16t2:=hP R23_16t2 R23_16t3 [104] [9,10,102,103,104,105,106,107,108,109,110,111,112,113,114,115,116,117,118,119,120,121,122,123,124,125,126,127,128,129,130] ⟨some 105,.load false 1 (.t 104),some (103,false)⟩
def X23_16t3:=hP R23_16t3 R23_16t4 [105] [9,10,102,103,104,105,106,107,108,109,110,111,112,113,114,115,116,117,118,119,120,121,122,123,124,125,126,127,128,129,130] ⟨some 106,.move (.t 105),some (103,false)⟩
def X23_16t4:=hP R23_16t4 R23_16t5 [] [9,10,102,103,104,105,106,107,108,109,110,111,112,113,114,115,116,117,118,119,120,121,122,123,124,125,126,127,128,129,130] ⟨some 107,.fieldAddr 6 (.t 9),some (106,true)⟩
def X23_16t5:=hP R23_16t5 R23_16t6 [107] [9,10,102,103,104,105,106,107,108,109,110,111,112,113,114,115,116,117,118,119,120,121,122,123,124,125,126,127,128,129,130] ⟨some 108,.load false 1 (.t 107),some (106,true)⟩
def X23_16t6:=hP R23_16t6 R23_16t7 [108] [9,10,102,103,104,105,106,107,108,109,110,111,112,113,114,115,116,117,118,119,120,121,122,123,124,125,126,127,128,129,130] ⟨some 109,.call (.c (.fn 41 [] [])) [.c (.s (.bool true)),.t 108],some (106,true)⟩
def X23_16t7:=hP R23_16t7 R23_16t8 [109] [9,10,102,103,104,105,106,107,108,109,110,111,112,113,114,115,116,117,118,119,120,121,122,123,124,125,126,127,128,129,130] ⟨some 110,.move (.t 109),some (106,true)⟩
def X23_16t8:=hP R23_16t8 R23_16t9 [] [9,10,102,103,104,105,106,107,108,109,110,111,112,113,114,115,116,117,118,119,120,121,122,123,124,125,126,127,128,129,130] ⟨some 111,.fieldAddr 6 (.t 9),some (110,false)⟩
def X23_16t9:=hP R23_16t9 R23_16t10 [111] [9,10,102,103,104,105,106,107,108,109,110,111,112,113,114,115,116,117,118,119,120,121,122,123,124,125,126,127,128,129,130] ⟨some 112,.load false 1 (.t 111),some (110,false)⟩
def X23_16t10:=hP R23_16t10 R23_16t11 [112] [9,10,102,103,104,105,106,107,108,109,110,111,112,113,114,115,116,117,118,119,120,121,122,123,124,125,126,127,128,129,130] ⟨some 113,.call (.c (.fn 42 [] [])) [.t 112,.c (.s (.string ⟨#[]⟩))],some (110,false)⟩
def T23_16p11:=hT R23_16p11 [103,106,110,113,114,115,116] [117] 118 [([(106,true,.t 106)],.pick (.t 110) (.c (.s (.bool true))) (.t 113))] [(117,.pick (.t 103) (.c (.s (.bool true))) (.pick (.t 106) (.pick (.t 110) (.c (.s (.bool true))) (.t 113)) (.c (.s (.bool false)))))] [.keep [(106,true,.t 106)] (.pick (.t 110) (.c (.s (.bool true))) (.t 113)),.sub 0 [2] [103],sb [],sb []]
def X23_16t11:=hS R23_16t11 R23_16p11 R23_16t12 [103,106,110,113,114,115,116] [117] [9,10,102,103,104,105,106,107,108,109,110,111,112,113,114,115,116,117,118,119,120,121,122,123,124,125,126,127,128,129,130]
def X23_16t12:=hP R23_16t12 R23_16t13 [10] [9,10,102,103,104,105,106,107,108,109,110,111,112,113,114,115,116,117,118,119,120,121,122,123,124,125,126,127,128,129,130] ⟨some 118,.fieldAddr 6 (.t 10),some (117,false)⟩
def X23_16t13:=hP R23_16t13 R23_16t14 [118] [9,10,102,103,104,105,106,107,108,109,110,111,112,113,114,115,116,117,118,119,120,121,122,123,124,125,126,127,128,129,130] ⟨some 119,.load false 1 (.t 118),some (117,false)⟩
def X23_16t14:=hP R23_16t14 R23_16t15 [119] [9,10,102,103,104,105,106,107,108,109,110,111,112,113,114,115,116,117,118,119,120,121,122,123,124,125,126,127,128,129,130] ⟨some 120,.move (.t 119),some (117,false)⟩
def X23_16t15:=hP R23_16t15 R23_16t16 [] [9,10,102,103,104,105,106,107,108,109,110,111,112,113,114,115,116,117,118,119,120,121,122,123,124,125,126,127,128,129,130] ⟨some 121,.fieldAddr 7 (.t 9),some (120,true)⟩
def X23_16t16:=hP R23_16t16 R23_16t17 [121] [9,10,102,103,104,105,106,107,108,109,110,111,112,113,114,115,116,117,118,119,120,121,122,123,124,125,126,127,128,129,130] ⟨some 122,.load false 1 (.t 121),some (120,true)⟩
def X23_16t17:=hP R23_16t17 R23_16t18 [122] [9,10,102,103,104,105,106,107,108,109,110,111,112,113,114,115,116,117,118,119,120,121,122,123,124,125,126,127,128,129,130] ⟨some 123,.call (.c (.fn 41 [] [])) [.c (.s (.bool false)),.t 122],some (120,true)⟩
def X23_16t18:=hP R23_16t18 R23_16t19 [123] [9,10,102,103,104,105,106,107,108,109,110,111,112,113,114,115,116,117,118,119,120,121,122,123,124,125,126,127,128,129,130] ⟨some 124,.move (.t 123),some (120,true)⟩
def X23_16t19:=hP R23_16t19 R23_16t20 [9] [9,10,102,103,104,105,106,107,108,109,110,111,112,113,114,115,116,117,118,119,120,121,122,123,124,125,126,127,128,129,130] ⟨some 125,.fieldAddr 7 (.t 9),some (124,false)⟩
def X23_16t20:=hP R23_16t20 R23_16t21 [125] [9,10,102,103,104,105,106,107,108,109,110,111,112,113,114,115,116,117,118,119,120,121,122,123,124,125,126,127,128,129,130] ⟨some 126,.load false 1 (.t 125),some (124,false)⟩
def X23_16t21:=hP R23_16t21 R23_16t22 [126] [9,10,102,103,104,105,106,107,108,109,110,111,112,113,114,115,116,117,118,119,120,121,122,123,124,125,126,127,128,129,130] ⟨some 127,.call (.c (.fn 42 [] [])) [.t 126,.c (.s (.string ⟨#[]⟩))],some (124,false)⟩
def T23_16t22:=hT R23_16t22 [9,10,102,103,104,105,106,107,108,109,110,111,112,113,114,115,116,117,118,119,120,121,122,123,124,125,126,127,128,129,130] [11] 131 [([(120,true,.t 120)],.pick (.t 124) (.c (.s (.bool true))) (.t 127))] [(11,.pick (.t 117) (.c (.s (.bool true))) (.pick (.t 120) (.pick (.t 124) (.c (.s (.bool true))) (.t 127)) (.c (.s (.bool false)))))] [.keep [(120,true,.t 120)] (.pick (.t 124) (.c (.s (.bool true))) (.t 127)),.sub 0 [2] [117],sb [],sb []]
def X23_16t22:=hL R23_16t22 [9,10,102,103,104,105,106,107,108,109,110,111,112,113,114,115,116,117,118,119,120,121,122,123,124,125,126,127,128,129,130] [11]
def R23_17:LO:=[oM 131 11]
def T23_17:=hT R23_17 [11] [131] 132 [] [(131,.t 11)] [.tt 11]
def R23_18t2:LO:=[⟨some 3,.move (.c (.s (.bool true))),none⟩]
def R23_18t1:LO:=⟨none,.store 3 (.t 2) (.t 135),none⟩ :: R23_18t2
def R23_18p0:LO:=[oM 132 4,oM 133 6,oM 134 8,⟨some 135,.build [.s (.int .i64 0),.s (.int .i64 0),.s (.int .i64 0)] [(0,1),(1,1),(2,1)] [(0,.t 132),(1,.t 133),(2,.t 134)],none⟩]
def R23_18:LO:=R23_18p0 ++ R23_18t1
def T23_18p0:=hT R23_18p0 [0,4,6,8,16,17,18,35,36,37,50,51,52,131,132,133,134] [135] 136 [] [(135,.op (.build [.s (.int .i64 0),.s (.int .i64 0),.s (.int .i64 0)] [(0,1),(1,1),(2,1)] [(0,.t 0),(1,.t 1),(2,.t 2)]) [.t 4,.t 6,.t 8])] [.tt 4,.tt 6,.tt 8,sb []]
def X23_18:=hS R23_18 R23_18p0 R23_18t1 [0,4,6,8,16,17,18,35,36,37,50,51,52,131,132,133,134] [135] [0,4,6,8,16,17,18,35,36,37,50,51,52,131,132,133,134,135]
def X23_18t1:=hP R23_18t1 R23_18t2 [135] [0,4,6,8,16,17,18,35,36,37,50,51,52,131,132,133,134,135] ⟨none,.store 3 (.t 2) (.t 135),none⟩
def T23_18t2:=hT R23_18t2 [0,4,6,8,16,17,18,35,36,37,50,51,52,131,132,133,134,135] [3] 4 [] [(3,.c (.s (.bool true)))] [.cc (.s (.bool true))]
def X23_18t2:=hL R23_18t2 [0,4,6,8,16,17,18,35,36,37,50,51,52,131,132,133,134,135] [3]
def R23_19:LO:=[⟨some 136,.bin .add (.t 52) (.c (.s (.int .i64 1))),none⟩,oM 52 136]
def T23_19:=hT R23_19 [8,131,136] [52] 137 [] [(52,.op (.bin .add (.t 0) (.c (.s (.int .i64 1)))) [.t 52,.c (.s (.int .i64 1))])] [sb [],sb []]
def s_f23_l0_b:ACode:=
 (.seq (.regionE R23_12 [] [53])
 (.seq (.cond (.t 53)
 .skip
 (.exit 4))
 (.seq (.block 5
 (.seq (.region R23_13 [] [53,54,55,56])
 (.seq (.region R23_14 [] [57,58,59,60,61,62,63])
 (.seq (.region R23_15 [] [64,65,66,67,68,69,70,71,72,73,74,75,76,77,78,79,80,81,82,83,84,85,86,87,88,89,90,91,92,93,94,95,96,97,98,99,100,101])
 (.seq (.region R23_16 [] [9,10,102,103,104,105,106,107,108,109,110,111,112,113,114,115,116,117,118,119,120,121,122,123,124,125,126,127,128,129,130])
 (.seq (.regionE R23_17 [11] [131])
 (.cond (.t 131)
 (.seq (.region R23_18 [] [0,4,6,8,16,17,18,35,36,37,50,51,52,131,132,133,134,135])
 .ret)
 .skip)))))))
 (.regionE R23_19 [8,131,136] [52]))))
def s_f23_l0:ACode:=s_f23_l0_b
def s_f23_l0_ev:=hE s_f23_l0 s_f23_l0_b
def R23_20:LO:=[⟨some 137,.bin .add (.t 37) (.c (.s (.int .i64 1))),none⟩,oM 37 137]
def T23_20:=hT R23_20 [6,50,51,52,53,137] [37] 138 [] [(37,.op (.bin .add (.t 0) (.c (.s (.int .i64 1)))) [.t 37,.c (.s (.int .i64 1))])] [sb [],sb []]
def s_f23_l1_b:ACode:=
 (.seq (.regionE R23_7 [] [38])
 (.seq (.cond (.t 38)
 .skip
 (.exit 2))
 (.seq (.block 3
 (.seq (.region R23_8 [] [38,39,40,41])
 (.seq (.seq (.region R23_9 [] [42,43,44])
 (.cond (.t 45)
 (.seq (.region R23_10 [] [0,4,6,7,16,17,18,35,36,37,45,46,47,48])
 .ret)
 .skip))
 (.seq (.regionE R23_11 [7,45,49] [50,51,52])
 (.block 4
 (.loop [] s_f23_l0))))))
 (.regionE R23_20 [6,50,51,52,53,137] [37]))))
def s_f23_l1:ACode:=s_f23_l1_b
def s_f23_l1_ev:=hE s_f23_l1 s_f23_l1_b
def R23_21:LO:=[⟨some 138,.bin .add (.t 18) (.c (.s (.int .i64 1))),none⟩,oM 18 138]
def T23_21:=hT R23_21 [4,35,36,37,38,138] [18] 139 [] [(18,.op (.bin .add (.t 0) (.c (.s (.int .i64 1)))) [.t 18,.c (.s (.int .i64 1))])] [sb [],sb []]
def s_f23_l2_b:ACode:=
 (.seq (.regionE R23_2 [] [19])
 (.seq (.cond (.t 19)
 .skip
 (.exit 0))
 (.seq (.block 1
 (.seq (.region R23_3 [] [19,20,21,22])
 (.seq (.seq (.region R23_4 [] [23,24,25,26,27,28,29,30])
 (.cond (.t 31)
 (.seq (.region R23_5 [] [0,4,5,16,17,18,31,32,33])
 .ret)
 .skip))
 (.seq (.regionE R23_6 [5,31,34] [35,36,37])
 (.block 2
 (.loop [] s_f23_l1))))))
 (.regionE R23_21 [4,35,36,37,38,138] [18]))))
def s_f23_l2:ACode:=s_f23_l2_b
def s_f23_l2_ev:=hE s_f23_l2 s_f23_l2_b
def R23_22t2:LO:=[⟨some 3,.move (.c (.s (.bool false))),none⟩]
def R23_22t1:LO:=⟨none,.store 3 (.t 2) (.t 139),none⟩ :: R23_22t2
def R23_22p0:LO:=[⟨some 139,.build [.s (.int .i64 0),.s (.int .i64 0),.s (.int .i64 0)] [(0,1),(1,1),(2,1)] [],none⟩]
def R23_22:LO:=R23_22p0 ++ R23_22t1
def T23_22p0:=hT R23_22p0 [0,16,17,18,19] [139] 140 [] [(139,.op (.build [.s (.int .i64 0),.s (.int .i64 0),.s (.int .i64 0)] [(0,1),(1,1),(2,1)] []) [])] [sb []]
def X23_22:=hS R23_22 R23_22p0 R23_22t1 [0,16,17,18,19] [139] [0,16,17,18,19,139]
def X23_22t1:=hP R23_22t1 R23_22t2 [139] [0,16,17,18,19,139] ⟨none,.store 3 (.t 2) (.t 139),none⟩
def T23_22t2:=hT R23_22t2 [0,16,17,18,19,139] [3] 4 [] [(3,.c (.s (.bool false)))] [.cc (.s (.bool false))]
def X23_22t2:=hL R23_22t2 [0,16,17,18,19,139] [3]
def s_f23:ACFun:={ ntmps:=140,results:=[.cell 2 true 3,.tmp 3],body:=
 (.seq (.region R23_0 [] K23_0)
 (.seq (.seq (.regionE R23_1 [12,13,14,15] [16,17,18])
 (.block 0
 (.loop [] s_f23_l2)))
 (.seq (.region R23_22 [] [0,16,17,18,19,139])
 .ret))) }
theorem s_f23_first:firstOk (List.range' 1 (s_f23.ntmps - 1)) s_f23.body=true:=by kernel_rfl
abbrev k_f30:Nat:=30
def K30_0:List Nat:=[0,3,4,5,6,7,8]
def A30_0_0:=hQ K30_0 0
def A30_0_1:=hK K30_0 1
def A30_0_2:=hK K30_0 2
def A30_0_3:=hQ K30_0 3
def R30_0t2:LO:=[⟨some 3,.move (.c (.s (.bool false))),none⟩]
def R30_0t1:LO:=⟨some 2,.alloc [.s (.int .i64 0),.s (.int .i64 0),.s (.int .i64 0)],none⟩ :: R30_0t2
def R30_0:LO:=⟨some 1,.box (.t 0),none⟩ :: R30_0t1
def X30_0:=hP R30_0 R30_0t1 [0,2,3,4,5,6,7,8] K30_0 ⟨some 1,.box (.t 0),none⟩
def X30_0t1:=hP R30_0t1 R30_0t2 [] K30_0 ⟨some 2,.alloc [.s (.int .i64 0),.s (.int .i64 0),.s (.int .i64 0)],none⟩
def T30_0t2:=hT R30_0t2 K30_0 [] 4 [] [] [.cc (.s (.bool false))]
def X30_0t2:=hL R30_0t2 K30_0 []
def R30_1t4:LO:=[oM 3 8]
def R30_1t3:LO:=⟨none,.store 3 (.t 2) (.t 7),none⟩ :: R30_1t4
def R30_1p2:LO:=[⟨some 7,.extract (.t 6) 0,none⟩,⟨some 8,.extract (.t 6) 1,none⟩]
def R30_1t2:LO:=R30_1p2 ++ R30_1t3
def R30_1t1:LO:=⟨some 6,.call (.c (.fn 48 [] [])) [.t 4,.t 5],none⟩ :: R30_1t2
def R30_1p0:LO:=[oL 4 1,⟨some 5,.mkFn 50 [] [.t 1],none⟩]
def R30_1:LO:=R30_1p0 ++ R30_1t1
def T30_1p0:=hT R30_1p0 [1] [4,5] 6 [] [(4,.op (.load false 1 (.t 0)) [.t 1]),(5,.op (.mkFn 50 [] [.t 0]) [.t 1])] [sb [],.sub 1 [] []]
def X30_1:=hS R30_1 R30_1p0 R30_1t1 [1] [4,5] [1,4,5,6,7,8]
def X30_1t1:=hP R30_1t1 R30_1t2 [4,5] [1,4,5,6,7,8] ⟨some 6,.call (.c (.fn 48 [] [])) [.t 4,.t 5],none⟩
def T30_1p2:=hT R30_1p2 [6] [7,8] 9 [] [(7,.op (.extract (.t 0) 0) [.t 6]),(8,.op (.extract (.t 0) 1) [.t 6])] [sb [],.sub 1 [] []]
def X30_1t2:=hS R30_1t2 R30_1p2 R30_1t3 [6] [7,8] [1,4,5,6,7,8]
def X30_1t3:=hP R30_1t3 R30_1t4 [7] [1,4,5,6,7,8] ⟨none,.store 3 (.t 2) (.t 7),none⟩
def T30_1t4:=hT R30_1t4 [1,4,5,6,7,8] [3] 4 [] [(3,.t 8)] [.tt 8]
def X30_1t4:=hL R30_1t4 [1,4,5,6,7,8] [3]
def s_f30:ACFun:={ ntmps:=9,results:=[.cell 2 true 3,.tmp 3],body:=
 (.seq (.region R30_0 [] K30_0)
 (.seq (.region R30_1 [] [1,4,5,6,7,8])
 .ret)) }
theorem s_f30_first:firstOk (List.range' 1 (s_f30.ntmps - 1)) s_f30.body=true:=by kernel_rfl
abbrev k_f39:Nat:=39
def K39_0:List Nat:=List.range' 2 7
theorem s_f39_r0_kT:killV K39_0 (startV 9 [] 2)=[]:=by kernel_rfl
def s_f39_r0_kA0:=hK K39_0 0
def s_f39_r0_kA1:=hK K39_0 1
def R39_0:LO:=[⟨some 4,.move (.c (.s (.bool false))),none⟩]
def T39_0:=hT R39_0 K39_0 [] 5 [] [] [.cc (.s (.bool false))]
def R39_1t2:LO:=[⟨some 8,.bin .geq (.t 7) (.c (.s (.int .i64 0))),none⟩,oM 4 8]
def R39_1t1:LO:=⟨some 7,.call (.c (.fn 62 [] [])) [.t 5,.t 6],none⟩ :: R39_1t2
def R39_1p0:LO:=[oM 5 0,oM 6 1]
def R39_1:LO:=R39_1p0 ++ R39_1t1
def T39_1p0:=hT R39_1p0 [0,1] [5,6] 7 [] [(5,.t 0),(6,.t 1)] [.tt 0,.tt 1]
def X39_1:=hS R39_1 R39_1p0 R39_1t1 [0,1] [5,6] [0,1,5,6,7,8]
def X39_1t1:=hP R39_1t1 R39_1t2 [5,6] [0,1,5,6,7,8] ⟨some 7,.call (.c (.fn 62 [] [])) [.t 5,.t 6],none⟩
def T39_1t2:=hT R39_1t2 [0,1,5,6,7,8] [4] 9 [] [(4,.op (.bin .geq (.t 0) (.c (.s (.int .i64 0)))) [.t 7,.c (.s (.int .i64 0))])] [sb [],sb []]
def X39_1t2:=hL R39_1t2 [0,1,5,6,7,8] [4]
def s_f39:ACFun:={ ntmps:=9,results:=[.tmp 4],body:=
 (.seq (.regionE R39_0 K39_0 [])
 (.seq (.region R39_1 [] [0,1,5,6,7,8])
 .ret)) }
abbrev k_f40:Nat:=40
def K40_0:List Nat:=[1,2,3,4,5]
theorem s_f40_r0_kT:killV K40_0 (startV 6 [] 1)=[]:=by kernel_rfl
def s_f40_r0_kA0:=hK K40_0 0
def R40_0:LO:=[⟨some 2,.move (.c (.s (.bool false))),none⟩]
def T40_0:=hT R40_0 K40_0 [] 3 [] [] [.cc (.s (.bool false))]
def R40_1t2:LO:=[⟨some 5,.un .not (.t 4),none⟩,oM 2 5]
def R40_1t1:LO:=⟨some 4,.call (.c (.fn 7 [] [])) [.t 3],none⟩ :: R40_1t2
def R40_1p0:LO:=[oM 3 0]
def R40_1:LO:=R40_1p0 ++ R40_1t1
def T40_1p0:=hT R40_1p0 [0] [3] 4 [] [(3,.t 0)] [.tt 0]
def X40_1:=hS R40_1 R40_1p0 R40_1t1 [0] [3] [0,3,4,5]
def X40_1t1:=hP R40_1t1 R40_1t2 [3] [0,3,4,5] ⟨some 4,.call (.c (.fn 7 [] [])) [.t 3],none⟩
def T40_1t2:=hT R40_1t2 [0,3,4,5] [2] 6 [] [(2,.op (.un .not (.t 0)) [.t 4])] [sb [],sb []]
def X40_1t2:=hL R40_1t2 [0,3,4,5] [2]
def s_f40:ACFun:={ ntmps:=6,results:=[.tmp 2],body:=
 (.seq (.regionE R40_0 K40_0 [])
 (.seq (.region R40_1 [] [0,3,4,5])
 .ret)) }
abbrev k_f41:Nat:=41
def K41_0:List Nat:=[0,3,4,5,6,7]
def A41_0_0:=hQ K41_0 0
def A41_0_1:=hK K41_0 1
def A41_0_2:=hK K41_0 2
def A41_0_4:=hQ K41_0 4
def R41_0t1:LO:=[⟨some 4,.move (.c (.s (.bool false))),none⟩]
def R41_0:LO:=⟨some 2,.box (.t 0),none⟩ :: R41_0t1
def X41_0:=hP R41_0 R41_0t1 [0,3,4,5,6,7] K41_0 ⟨some 2,.box (.t 0),none⟩
def T41_0t1:=hT R41_0t1 K41_0 [] 5 [] [] [.cc (.s (.bool false))]
def X41_0t1:=hL R41_0t1 K41_0 []
def R41_1t2:LO:=[oM 4 7]
def R41_1t1:LO:=⟨some 7,.call (.c (.fn 39 [] [])) [.t 5,.t 6],none⟩ :: R41_1t2
def R41_1p0:LO:=[oM 5 1,⟨some 6,.mkFn 63 [] [.t 2],none⟩]
def R41_1:LO:=R41_1p0 ++ R41_1t1
def T41_1p0:=hT R41_1p0 [1,2] [5,6] 7 [] [(5,.t 1),(6,.op (.mkFn 63 [] [.t 0]) [.t 2])] [.tt 1,.sub 1 [] []]
def X41_1:=hS R41_1 R41_1p0 R41_1t1 [1,2] [5,6] [1,2,5,6,7]
def X41_1t1:=hP R41_1t1 R41_1t2 [5,6] [1,2,5,6,7] ⟨some 7,.call (.c (.fn 39 [] [])) [.t 5,.t 6],none⟩
def T41_1t2:=hT R41_1t2 [1,2,5,6,7] [4] 5 [] [(4,.t 7)] [.tt 7]
def X41_1t2:=hL R41_1t2 [1,2,5,6,7] [4]
def s_f41:ACFun:={ ntmps:=8,results:=[.tmp 4],body:=
 (.seq (.region R41_0 [] K41_0)
 (.seq (.region R41_1 [] [1,2,5,6,7])
 .ret)) }
theorem s_f41_first:firstOk (List.range' 2 (s_f41.ntmps - 2)) s_f41.body=true:=by kernel_rfl
abbrev k_f42:Nat:=42
def K42_0:List Nat:=List.range' 2 7
theorem s_f42_r0_kT:killV K42_0 (startV 9 [] 2)=[]:=by kernel_rfl
def s_f42_r0_kA0:=hK K42_0 0
def s_f42_r0_kA1:=hK K42_0 1
def R42_0:LO:=[⟨some 4,.move (.c (.s (.bool false))),none⟩]
def T42_0:=hT R42_0 K42_0 [] 5 [] [] [.cc (.s (.bool false))]
def R42_1t2:LO:=[⟨some 8,.bin .geq (.t 7) (.c (.s (.int .i64 0))),none⟩,oM 4 8]
def R42_1t1:LO:=⟨some 7,.call (.c (.fn 64 [] [])) [.t 5,.t 6],none⟩ :: R42_1t2
def R42_1p0:LO:=[oM 5 0,oM 6 1]
def R42_1:LO:=R42_1p0 ++ R42_1t1
def T42_1p0:=hT R42_1p0 [0,1] [5,6] 7 [] [(5,.t 0),(6,.t 1)] [.tt 0,.tt 1]
def X42_1:=hS R42_1 R42_1p0 R42_1t1 [0,1] [5,6] [0,1,5,6,7,8]
def X42_1t1:=hP R42_1t1 R42_1t2 [5,6] [0,1,5,6,7,8] ⟨some 7,.call (.c (.fn 64 [] [])) [.t 5,.t 6],none⟩
def T42_1t2:=hT R42_1t2 [0,1,5,6,7,8] [4] 9 [] [(4,.op (.bin .geq (.t 0) (.c (.s (.int .i64 0)))) [.t 7,.c (.s (.int .i64 0))])] [sb [],sb []]
def X42_1t2:=hL R42_1t2 [0,1,5,6,7,8] [4]
def s_f42:ACFun:={ ntmps:=9,results:=[.tmp 4],body:=
 (.seq (.regionE R42_0 K42_0 [])
 (.seq (.region R42_1 [] [0,1,5,6,7,8])
 .ret)) }
abbrev k_f43:Nat:=43
def K43_0:List Nat:=[2,3] ++ List.range' 5 22
def A43_0_0:=hK K43_0 0
def A43_0_1:=hK K43_0 1
def A43_0_4:=hK K43_0 4
def A43_0_5:=hQ K43_0 5
def R43_0t1:LO:=[⟨some 5,.move (.c (.s (.bool false))),none⟩]
def R43_0:LO:=⟨some 4,.alloc [.s (.int .i64 0),.s (.int .i64 0),.s (.int .i64 0)],none⟩ :: R43_0t1
def X43_0:=hP R43_0 R43_0t1 [2,3,5,6,7,8,9,10,11,12,13,14,15,16,17,18,19,20,21,22,23,24,25,26] K43_0 ⟨some 4,.alloc [.s (.int .i64 0),.s (.int .i64 0),.s (.int .i64 0)],none⟩
def T43_0t1:=hT R43_0t1 K43_0 [] 6 [] [] [.cc (.s (.bool false))]
def X43_0t1:=hL R43_0t1 K43_0 []
def R43_1:LO:=[oM 8 0,⟨some 9,.nilCheck (.t 8),none⟩,oF 10 0 9,oF 11 0 10,oL 12 11,⟨some 13,.lenS .s (.t 12),none⟩,⟨some 14,.move (.c (.s (.int .i64 0))),none⟩]
def T43_1:=hT R43_1 [0,8,9,10,11] [12,13,14] 15 [] [(12,.op (.load false 1 (.t 0)) [.op (.fieldAddr 0 (.t 0)) [.op (.fieldAddr 0 (.t 0)) [.op (.nilCheck (.t 0)) [.t 0]]]]),(13,.op (.lenS .s (.t 0)) [.op (.load false 1 (.t 0)) [.op (.fieldAddr 0 (.t 0)) [.op (.fieldAddr 0 (.t 0)) [.op (.nilCheck (.t 0)) [.t 0]]]]]),(14,.c (.s (.int .i64 0)))] [.tt 0,sb [0,0,0],sb [0,0],sb [0],sb [],.sub 1 [] [],.cc (.s (.int .i64 0))]
def R43_2:LO:=[⟨some 15,.bin .lss (.t 14) (.t 13),none⟩]
def T43_2:=hT R43_2 [] [15] 16 [] [(15,.op (.bin .lss (.t 0) (.t 1)) [.t 14,.t 13])] [sb []]
def R43_3t3:LO:=[⟨none,.store 3 (.t 7) (.t 18),none⟩]
def R43_3p2:LO:=[oM 6 16]
def R43_3t2:LO:=R43_3p2 ++ R43_3t3
def R43_3t1:LO:=⟨some 7,.alloc [.s (.string ⟨#[]⟩),.s (.slice none 0 0),.s (.slice none 0 0)],none⟩ :: R43_3t2
def R43_3p0:LO:=[oM 16 14,⟨some 17,.indexAddr 3 (.t 12) (.t 14),none⟩,⟨some 18,.load true 3 (.t 17),none⟩]
def R43_3:LO:=R43_3p0 ++ R43_3t1
def T43_3p0:=hT R43_3p0 [15,17] [16,18] 19 [] [(16,.t 14),(18,.op (.load true 3 (.t 0)) [.op (.indexAddr 3 (.t 0) (.t 1)) [.t 12,.t 14]])] [.tt 14,.sub 1 [0] [],.sub 1 [] []]
def X43_3:=hS R43_3 R43_3p0 R43_3t1 [15,17] [16,18] [15,16,17,18]
def X43_3t1:=hP R43_3t1 R43_3t2 [] [15,16,17,18] ⟨some 7,.alloc [.s (.string ⟨#[]⟩),.s (.slice none 0 0),.s (.slice none 0 0)],none⟩
def T43_3p2:=hT R43_3p2 [16] [6] 7 [] [(6,.t 16)] [.tt 16]
def X43_3t2:=hS R43_3t2 R43_3p2 R43_3t3 [16] [6] [15,16,17,18]
def X43_3t3:=hX R43_3t3 [15,16,17,18] [⟨none,.store 3 (.t 7) (.t 18),none⟩]
def R43_4t1:LO:=[⟨some 22,.call (.t 19) [.t 20,.t 21],none⟩]
def R43_4p0:LO:=[oM 19 1,oM 20 6,⟨some 21,.load true 3 (.t 7),none⟩]
def R43_4:LO:=R43_4p0 ++ R43_4t1
def T43_4p0:=hT R43_4p0 [7] [19,20,21] 22 [] [(19,.t 1),(20,.t 6),(21,.op (.load true 3 (.t 0)) [.t 7])] [.tt 1,.tt 6,.sub 2 [] []]
def X43_4:=hS R43_4 R43_4p0 R43_4t1 [7] [19,20,21] [7,19,20,21]
def X43_4t1:=hX R43_4t1 [7,19,20,21] [⟨some 22,.call (.t 19) [.t 20,.t 21],none⟩]
def R43_5t2:LO:=[⟨some 5,.move (.c (.s (.bool true))),none⟩]
def R43_5t1:LO:=⟨none,.store 3 (.t 4) (.t 24),none⟩ :: R43_5t2
def R43_5p0:LO:=[oM 23 6,⟨some 24,.build [.s (.int .i64 0),.s (.int .i64 0),.s (.int .i64 0)] [(0,1),(1,1),(2,1)] [(0,.t 23)],none⟩]
def R43_5:LO:=R43_5p0 ++ R43_5t1
def T43_5p0:=hT R43_5p0 [1,6,12,13,14,22,23] [24] 25 [] [(24,.op (.build [.s (.int .i64 0),.s (.int .i64 0),.s (.int .i64 0)] [(0,1),(1,1),(2,1)] [(0,.t 0)]) [.t 6])] [.tt 6,sb []]
def X43_5:=hS R43_5 R43_5p0 R43_5t1 [1,6,12,13,14,22,23] [24] [1,6,12,13,14,22,23,24]
def X43_5t1:=hP R43_5t1 R43_5t2 [24] [1,6,12,13,14,22,23,24] ⟨none,.store 3 (.t 4) (.t 24),none⟩
def T43_5t2:=hT R43_5t2 [1,6,12,13,14,22,23,24] [5] 6 [] [(5,.c (.s (.bool true)))] [.cc (.s (.bool true))]
def X43_5t2:=hL R43_5t2 [1,6,12,13,14,22,23,24] [5]
def R43_6:LO:=[⟨some 25,.bin .add (.t 14) (.c (.s (.int .i64 1))),none⟩,oM 14 25]
def T43_6:=hT R43_6 [6,22,25] [14] 26 [] [(14,.op (.bin .add (.t 0) (.c (.s (.int .i64 1)))) [.t 14,.c (.s (.int .i64 1))])] [sb [],sb []]
def s_f43_l0_b:ACode:=
 (.seq (.regionE R43_2 [] [15])
 (.seq (.cond (.t 15)
 .skip
 (.exit 0))
 (.seq (.block 1
 (.seq (.region R43_3 [] [15,16,17,18])
 (.seq (.region R43_4 [] [7,19,20,21])
 (.cond (.t 22)
 (.seq (.region R43_5 [] [1,6,12,13,14,22,23,24])
 .ret)
 .skip))))
 (.regionE R43_6 [6,22,25] [14]))))
def s_f43_l0:ACode:=s_f43_l0_b
def s_f43_l0_ev:=hE s_f43_l0 s_f43_l0_b
def R43_7t2:LO:=[⟨some 5,.move (.c (.s (.bool false))),none⟩]
def R43_7t1:LO:=⟨none,.store 3 (.t 4) (.t 26),none⟩ :: R43_7t2
def R43_7p0:LO:=[⟨some 26,.build [.s (.int .i64 0),.s (.int .i64 0),.s (.int .i64 0)] [(0,1),(1,1),(2,1)] [],none⟩]
def R43_7:LO:=R43_7p0 ++ R43_7t1
def T43_7p0:=hT R43_7p0 [1,12,13,14,15] [26] 27 [] [(26,.op (.build [.s (.int .i64 0),.s (.int .i64 0),.s (.int .i64 0)] [(0,1),(1,1),(2,1)] []) [])] [sb []]
def X43_7:=hS R43_7 R43_7p0 R43_7t1 [1,12,13,14,15] [26] [1,12,13,14,15,26]
def X43_7t1:=hP R43_7t1 R43_7t2 [26] [1,12,13,14,15,26] ⟨none,.store 3 (.t 4) (.t 26),none⟩
def T43_7t2:=hT R43_7t2 [1,12,13,14,15,26] [5] 6 [] [(5,.c (.s (.bool false)))] [.cc (.s (.bool false))]
def X43_7t2:=hL R43_7t2 [1,12,13,14,15,26] [5]
def s_f43:ACFun:={ ntmps:=27,results:=[.cell 4 true 3,.tmp 5],body:=
 (.seq (.region R43_0 [] K43_0)
 (.seq (.seq (.regionE R43_1 [0,8,9,10,11] [12,13,14])
 (.block 0
 (.loop [] s_f43_l0)))
 (.seq (.region R43_7 [] [1,12,13,14,15,26])
 .ret))) }
theorem s_f43_first:firstOk (List.range' 2 (s_f43.ntmps - 2)) s_f43.body=true:=by kernel_rfl
abbrev k_f44:Nat:=44
def K44_0:List Nat:=[0,1,3] ++ List.range' 5 10
def A44_0_0:=hQ K44_0 0
def A44_0_1:=hQ K44_0 1
def A44_0_2:=hK K44_0 2
def A44_0_4:=hK K44_0 4
def A44_0_5:=hQ K44_0 5
def R44_0t1:LO:=[⟨some 5,.move (.c (.s (.bool false))),none⟩]
def R44_0:LO:=⟨some 4,.box (.t 1),none⟩ :: R44_0t1
def X44_0:=hP R44_0 R44_0t1 [0,1,3,5,6,7,8,9,10,11,12,13,14] K44_0 ⟨some 4,.box (.t 1),none⟩
def T44_0t1:=hT R44_0t1 K44_0 [] 6 [] [] [.cc (.s (.bool false))]
def X44_0t1:=hL R44_0t1 K44_0 []
def R44_1:LO:=[oL 7 2,oF 8 0 4,oL 9 8,⟨some 10,.mapGet .string (.s (.bool false)) (.t 7) (.t 9) false,none⟩,oM 6 10]
def T44_1:=hT R44_1 [7,8,9,10] [6] 11 [] [(6,.op (.mapGet .string (.s (.bool false)) (.t 0) (.t 1) false) [.op (.load false 1 (.t 0)) [.t 2],.op (.load false 1 (.t 0)) [.op (.fieldAddr 0 (.t 0)) [.t 4]]])] [sb [0],sb [1,0],sb [1],sb [],sb []]
def R44_2t1:LO:=[⟨none,.mapUpd .string (.t 11) (.t 13) (.c (.s (.bool true))),none⟩]
def R44_2p0:LO:=[oL 11 2,oF 12 0 4,oL 13 12]
def R44_2:LO:=R44_2p0 ++ R44_2t1
def T44_2p0:=hT R44_2p0 [2,4,12] [11,13] 14 [] [(11,.op (.load false 1 (.t 0)) [.t 2]),(13,.op (.load false 1 (.t 0)) [.op (.fieldAddr 0 (.t 0)) [.t 4]])] [sb [],.sub 1 [0] [],.sub 1 [] []]
def X44_2:=hS R44_2 R44_2p0 R44_2t1 [2,4,12] [11,13] [2,4,11,12,13]
def X44_2t1:=hX R44_2t1 [2,4,11,12,13] [⟨none,.mapUpd .string (.t 11) (.t 13) (.c (.s (.bool true))),none⟩]
def R44_3:LO:=[oM 14 6,oM 5 14]
def T44_3:=hT R44_3 [6,14] [5] 15 [] [(5,.t 6)] [.tt 6,.tt 6]
def s_f44:ACFun:={ ntmps:=15,results:=[.tmp 5],body:=
 (.seq (.region R44_0 [] K44_0)
 (.seq (.regionE R44_1 [7,8,9,10] [6])
 (.seq (.region R44_2 [] [2,4,11,12,13])
 (.seq (.regionE R44_3 [6,14] [5])
 .ret)))) }
theorem s_f44_first:firstOk (List.range' 3 (s_f44.ntmps - 3)) s_f44.body=true:=by kernel_rfl
abbrev k_f45:Nat:=45
def K45_0:List Nat:=[1,2] ++ List.range' 4 8
def A45_0_0:=hK K45_0 0
def A45_0_1:=hQ K45_0 1
def A45_0_3:=hK K45_0 3
def A45_0_4:=hQ K45_0 4
def R45_0t1:LO:=[⟨some 4,.move (.c (.s (.int .i64 0))),none⟩]
def R45_0:LO:=⟨some 3,.box (.t 1),none⟩ :: R45_0t1
def X45_0:=hP R45_0 R45_0t1 [1,2,4,5,6,7,8,9,10,11] K45_0 ⟨some 3,.box (.t 1),none⟩
def T45_0t1:=hT R45_0t1 K45_0 [] 5 [] [] [.cc (.s (.int .i64 0))]
def X45_0t1:=hL R45_0t1 K45_0 []
def R45_1t2:LO:=[oM 4 11]
def R45_1t1:LO:=⟨some 11,.call (.c (.fn 65 [] [])) [.t 9,.t 10],none⟩ :: R45_1t2
def R45_1p0:LO:=[oM 5 0,⟨some 6,.nilCheck (.t 5),none⟩,oF 7 0 6,oF 8 0 7,oL 9 8,⟨some 10,.mkFn 66 [] [.t 3],none⟩]
def R45_1:LO:=R45_1p0 ++ R45_1t1
def T45_1p0:=hT R45_1p0 [0,3,5,6,7,8] [9,10] 11 [] [(9,.op (.load false 1 (.t 0)) [.op (.fieldAddr 0 (.t 0)) [.op (.fieldAddr 0 (.t 0)) [.op (.nilCheck (.t 0)) [.t 0]]]]),(10,.op (.mkFn 66 [] [.t 0]) [.t 3])] [.tt 0,sb [0,0,0],sb [0,0],sb [0],sb [],.sub 1 [] []]
def X45_1:=hS R45_1 R45_1p0 R45_1t1 [0,3,5,6,7,8] [9,10] [0,3,5,6,7,8,9,10,11]
def X45_1t1:=hP R45_1t1 R45_1t2 [9,10] [0,3,5,6,7,8,9,10,11] ⟨some 11,.call (.c (.fn 65 [] [])) [.t 9,.t 10],none⟩
def T45_1t2:=hT R45_1t2 [0,3,5,6,7,8,9,10,11] [4] 5 [] [(4,.t 11)] [.tt 11]
def X45_1t2:=hL R45_1t2 [0,3,5,6,7,8,9,10,11] [4]
def s_f45:ACFun:={ ntmps:=12,results:=[.tmp 4],body:=
 (.seq (.region R45_0 [] K45_0)
 (.seq (.region R45_1 [] [0,3,5,6,7,8,9,10,11])
 .ret)) }
theorem s_f45_first:firstOk (List.range' 2 (s_f45.ntmps - 2)) s_f45.body=true:=by kernel_rfl
abbrev k_f46:Nat:=46
def K46_0:List Nat:=List.range' 1 8
theorem s_f46_r0_kT:killV K46_0 (startV 9 [] 1)=[]:=by kernel_rfl
def s_f46_r0_kA0:=hK K46_0 0
def R46_0:LO:=[⟨some 2,.move (.c (.s (.bool false))),none⟩]
def T46_0:=hT R46_0 K46_0 [] 3 [] [] [.cc (.s (.bool false))]
def R46_1:LO:=[oM 3 0,⟨some 4,.bin .eql (.t 3) (.c (.s (.int .u8 10))),none⟩,oM 5 4,gM 6 0 5 false,⟨some 7,.bin .eql (.t 6) (.c (.s (.int .u8 11))),some (5,false)⟩,⟨some 8,.pick (.t 5) (.c (.s (.bool true))) (.t 7),none⟩,oM 2 8]
def T46_1:=hT R46_1 [0,3,4,5,6,7,8] [2] 9 [] [(2,.pick (.op (.bin .eql (.t 0) (.c (.s (.int .u8 10)))) [.t 0,.c (.s (.int .u8 10))]) (.c (.s (.bool true))) (.op (.bin .eql (.t 0) (.c (.s (.int .u8 11)))) [.t 0,.c (.s (.int .u8 11))]))] [.tt 0,sb [0],sb [0],.sub 0 [2,0] [5],.sub 0 [2] [5],sb [],sb []]
def s_f46:ACFun:={ ntmps:=9,results:=[.tmp 2],body:=
 (.seq (.regionE R46_0 K46_0 [])
 (.seq (.regionE R46_1 [0,3,4,5,6,7,8] [2])
 .ret)) }
abbrev k_f47:Nat:=47
def K47_0:List Nat:=[0,1,2] ++ List.range' 4 11
def A47_0_0:=hQ K47_0 0
def A47_0_1:=hQ K47_0 1
def A47_0_3:=hK K47_0 3
def A47_0_4:=hQ K47_0 4
def R47_0t1:LO:=[⟨some 4,.move (.c (.s (.bool false))),none⟩]
def R47_0:LO:=⟨some 3,.box (.t 1),none⟩ :: R47_0t1
def X47_0:=hP R47_0 R47_0t1 [0,1,2,4,5,6,7,8,9,10,11,12,13,14] K47_0 ⟨some 3,.box (.t 1),none⟩
def T47_0t1:=hT R47_0t1 K47_0 [] 5 [] [] [.cc (.s (.bool false))]
def X47_0t1:=hL R47_0t1 K47_0 []
def R47_1:LO:=[oF 5 2 3,oL 6 5,⟨some 7,.lenS .s (.t 6),none⟩,⟨some 8,.bin .eql (.t 7) (.c (.s (.int .i64 0))),none⟩,oM 9 8,gF 10 2 3 9 false,gL 11 10 9 false,⟨some 12,.lenS .s (.t 11),some (9,false)⟩,⟨some 13,.bin .gtr (.t 12) (.c (.s (.int .i64 64))),some (9,false)⟩,⟨some 14,.pick (.t 9) (.c (.s (.bool true))) (.t 13),none⟩,oM 4 14]
def T47_1:=hT R47_1 [3,5,6,7,8,9,10,11,12,13,14] [4] 15 [] [(4,.pick (.op (.bin .eql (.t 0) (.c (.s (.int .i64 0)))) [.op (.lenS .s (.t 0)) [.op (.load false 1 (.t 0)) [.op (.fieldAddr 2 (.t 0)) [.t 3]]],.c (.s (.int .i64 0))]) (.c (.s (.bool true))) (.op (.bin .gtr (.t 0) (.c (.s (.int .i64 64)))) [.op (.lenS .s (.t 0)) [.op (.load false 1 (.t 0)) [.op (.fieldAddr 2 (.t 0)) [.t 3]]],.c (.s (.int .i64 64))]))] [sb [0,0,0,0],sb [0,0,0],sb [0,0],sb [0],sb [0],.sub 0 [2,0,0,0] [9],.sub 0 [2,0,0] [9],.sub 0 [2,0] [9],.sub 0 [2] [9],sb [],sb []]
def s_f47:ACFun:={ ntmps:=15,results:=[.tmp 4],body:=
 (.seq (.region R47_0 [] K47_0)
 (.seq (.regionE R47_1 [3,5,6,7,8,9,10,11,12,13,14] [4])
 .ret)) }
theorem s_f47_first:firstOk (List.range' 2 (s_f47.ntmps - 2)) s_f47.body=true:=by kernel_rfl
abbrev k_f48:Nat:=48
def K48_0:List Nat:=[1,2] ++ List.range' 6 12
def A48_0_0:=hK K48_0 0
def A48_0_1:=hQ K48_0 1
def A48_0_3:=hK K48_0 3
def A48_0_4:=hK K48_0 4
def A48_0_5:=hK K48_0 5
def R48_0t2:LO:=[⟨some 5,.alloc [.s (.bool false)],none⟩]
def R48_0t1:LO:=⟨some 4,.alloc [.s (.int .i64 0),.s (.int .i64 0),.s (.int .i64 0)],none⟩ :: R48_0t2
def R48_0:LO:=⟨some 3,.box (.t 1),none⟩ :: R48_0t1
def X48_0:=hP R48_0 R48_0t1 [1,2,4,5,6,7,8,9,10,11,12,13,14,15,16,17] K48_0 ⟨some 3,.box (.t 1),none⟩
def X48_0t1:=hP R48_0t1 R48_0t2 [] K48_0 ⟨some 4,.alloc [.s (.int .i64 0),.s (.int .i64 0),.s (.int .i64 0)],none⟩
def X48_0t2:=hX R48_0t2 K48_0 [⟨some 5,.alloc [.s (.bool false)],none⟩]
def R48_1t1:LO:=[⟨some 9,.call (.c (.fn 67 [] [])) [.t 8],none⟩]
def R48_1p0:LO:=[oM 8 0]
def R48_1:LO:=R48_1p0 ++ R48_1t1
def T48_1p0:=hT R48_1p0 [0] [8] 9 [] [(8,.t 0)] [.tt 0]
def X48_1:=hS R48_1 R48_1p0 R48_1t1 [0] [8] [0,8]
def X48_1t1:=hX R48_1t1 [0,8] [⟨some 9,.call (.c (.fn 67 [] [])) [.t 8],none⟩]
def R48_2t1:LO:=[⟨none,.store 3 (.t 6) (.t 10),none⟩]
def R48_2:LO:=⟨some 6,.alloc [.s (.int .i64 0),.s (.int .i64 0),.s (.int .i64 0)],none⟩ :: R48_2t1
def X48_2:=hP R48_2 R48_2t1 [9] [9,10] ⟨some 6,.alloc [.s (.int .i64 0),.s (.int .i64 0),.s (.int .i64 0)],none⟩
def X48_2t1:=hX R48_2t1 [9,10] [⟨none,.store 3 (.t 6) (.t 10),none⟩]
def R48_3t1:LO:=[⟨none,.store 8 (.t 7) (.t 11),none⟩]
def R48_3:LO:=⟨some 7,.alloc [.s (.int .u8 0),.s (.string ⟨#[]⟩),.s (.string ⟨#[]⟩),.s (.string ⟨#[]⟩),.s (.int .i64 0),.s (.string ⟨#[]⟩),.s (.slice none 0 0),.s (.slice none 0 0)],none⟩ :: R48_3t1
def X48_3:=hP R48_3 R48_3t1 [] [11] ⟨some 7,.alloc [.s (.int .u8 0),.s (.string ⟨#[]⟩),.s (.string ⟨#[]⟩),.s (.string ⟨#[]⟩),.s (.int .i64 0),.s (.string ⟨#[]⟩),.s (.slice none 0 0),.s (.slice none 0 0)],none⟩
def X48_3t1:=hX R48_3t1 [11] [⟨none,.store 8 (.t 7) (.t 11),none⟩]
def R48_4t1:LO:=[⟨some 15,.call (.t 12) [.t 13,.t 14],none⟩]
def R48_4p0:LO:=[oL 12 3,⟨some 13,.load true 3 (.t 6),none⟩,⟨some 14,.load true 8 (.t 7),none⟩]
def R48_4:LO:=R48_4p0 ++ R48_4t1
def T48_4p0:=hT R48_4p0 [3,7] [12,13,14] 15 [] [(12,.op (.load false 1 (.t 0)) [.t 3]),(13,.op (.load true 3 (.t 0)) [.t 6]),(14,.op (.load true 8 (.t 0)) [.t 7])] [sb [],.sub 1 [] [],.sub 2 [] []]
def X48_4:=hS R48_4 R48_4p0 R48_4t1 [3,7] [12,13,14] [3,7,12,13,14]
def X48_4t1:=hX R48_4t1 [3,7,12,13,14] [⟨some 15,.call (.t 12) [.t 13,.t 14],none⟩]
def R48_5t2:LO:=[⟨none,.store 1 (.t 5) (.c (.s (.bool true))),none⟩]
def R48_5t1:LO:=⟨none,.store 3 (.t 4) (.t 16),none⟩ :: R48_5t2
def R48_5p0:LO:=[⟨some 16,.load true 3 (.t 6),none⟩]
def R48_5:LO:=R48_5p0 ++ R48_5t1
def T48_5p0:=hT R48_5p0 [6,15] [16] 17 [] [(16,.op (.load true 3 (.t 0)) [.t 6])] [sb []]
def X48_5:=hS R48_5 R48_5p0 R48_5t1 [6,15] [16] [4,5,6,15,16]
def X48_5t1:=hP R48_5t1 R48_5t2 [4,16] [4,5,6,15,16] ⟨none,.store 3 (.t 4) (.t 16),none⟩
def X48_5t2:=hX R48_5t2 [4,5,6,15,16] [⟨none,.store 1 (.t 5) (.c (.s (.bool true))),none⟩]
def s_names_walk_find_a0:ACode:=
 (.seq (.region R48_2 [] [9,10])
 (.region R48_3 [] [11]))
def s_f48_b0:ACode:=
 (.block 1
 (.seq (.region R48_4 [] [3,7,12,13,14])
 (.cond (.t 15)
 (.seq (.region R48_5 [] [4,5,6,15,16])
 .ret)
 .skip)))
def R48_6t2:LO:=[⟨none,.store 1 (.t 5) (.c (.s (.bool false))),none⟩]
def R48_6t1:LO:=⟨none,.store 3 (.t 4) (.t 17),none⟩ :: R48_6t2
def R48_6p0:LO:=[⟨some 17,.build [.s (.int .i64 0),.s (.int .i64 0),.s (.int .i64 0)] [(0,1),(1,1),(2,1)] [],none⟩]
def R48_6:LO:=R48_6p0 ++ R48_6t1
def T48_6p0:=hT R48_6p0 [3,9] [17] 18 [] [(17,.op (.build [.s (.int .i64 0),.s (.int .i64 0),.s (.int .i64 0)] [(0,1),(1,1),(2,1)] []) [])] [sb []]
def X48_6:=hS R48_6 R48_6p0 R48_6t1 [3,9] [17] [3,9,17]
def X48_6t1:=hP R48_6t1 R48_6t2 [17] [3,9,17] ⟨none,.store 3 (.t 4) (.t 17),none⟩
def X48_6t2:=hX R48_6t2 [3,9,17] [⟨none,.store 1 (.t 5) (.c (.s (.bool false))),none⟩]
def s_f48:ACFun:={ ntmps:=18,results:=[.cell 4 true 3,.cell 5 false 1],body:=
 (.seq (.region R48_0 [] K48_0)
 (.seq (.seq (.region R48_1 [] [0,8])
 (.block 0
 (.rangeFunc (.t 9) [10,11] s_names_walk_find_a0 s_f48_b0)))
 (.seq (.region R48_6 [] [3,9,17])
 .ret))) }
theorem s_f48_first:firstOk (List.range' 2 (s_f48.ntmps - 2)) s_f48.body=true:=by kernel_rfl
abbrev k_f49:Nat:=49
def K49_0:List Nat:=[0,1,3,4,5,6,7,8,9]
def A49_0_0:=hQ K49_0 0
def A49_0_1:=hQ K49_0 1
def A49_0_2:=hK K49_0 2
def A49_0_3:=hQ K49_0 3
def A49_0_4:=hQ K49_0 4
def A49_0_5:=hQ K49_0 5
def R49_0t2:LO:=[⟨some 5,.move (.c (.s (.bool false))),none⟩]
def R49_0t1:LO:=⟨some 4,.box (.t 1),none⟩ :: R49_0t2
def R49_0:LO:=⟨some 3,.box (.t 0),none⟩ :: R49_0t1
def X49_0:=hP R49_0 R49_0t1 [0,3,4,5,6,7,8,9] K49_0 ⟨some 3,.box (.t 0),none⟩
def X49_0t1:=hP R49_0t1 R49_0t2 [1,4] K49_0 ⟨some 4,.box (.t 1),none⟩
def T49_0t2:=hT R49_0t2 K49_0 [] 6 [] [] [.cc (.s (.bool false))]
def X49_0t2:=hL R49_0t2 K49_0 []
def R49_1t1:LO:=[⟨none,.store 1 (.t 2) (.t 7),none⟩]
def R49_1p0:LO:=[oL 6 2,⟨some 7,.bin .add (.t 6) (.c (.s (.int .i64 1))),none⟩]
def R49_1:LO:=R49_1p0 ++ R49_1t1
def T49_1p0:=hT R49_1p0 [6] [7] 8 [] [(7,.op (.bin .add (.t 0) (.c (.s (.int .i64 1)))) [.op (.load false 1 (.t 0)) [.t 2],.c (.s (.int .i64 1))])] [sb [0],sb []]
def X49_1:=hS R49_1 R49_1p0 R49_1t1 [6] [7] [6,7]
def X49_1t1:=hX R49_1t1 [6,7] [⟨none,.store 1 (.t 2) (.t 7),none⟩]
def R49_2:LO:=[oL 8 2,⟨some 9,.bin .gtr (.t 8) (.c (.s (.int .i64 4096))),none⟩,oM 5 9]
def T49_2:=hT R49_2 [2,8,9] [5] 10 [] [(5,.op (.bin .gtr (.t 0) (.c (.s (.int .i64 4096)))) [.op (.load false 1 (.t 0)) [.t 2],.c (.s (.int .i64 4096))])] [sb [0],sb [],sb []]
def s_f49:ACFun:={ ntmps:=10,results:=[.tmp 5],body:=
 (.seq (.region R49_0 [] K49_0)
 (.seq (.region R49_1 [] [6,7])
 (.seq (.regionE R49_2 [2,8,9] [5])
 .ret))) }
theorem s_f49_first:firstOk (List.range' 3 (s_f49.ntmps - 3)) s_f49.body=true:=by kernel_rfl
abbrev k_f50:Nat:=50
def K50_0:List Nat:=[0,1,3] ++ List.range' 5 182
def A50_0_0:=hQ K50_0 0
def A50_0_1:=hQ K50_0 1
def A50_0_2:=hK K50_0 2
def A50_0_3:=hQ K50_0 3
def A50_0_4:=hK K50_0 4
def A50_0_5:=hQ K50_0 5
def R50_0t2:LO:=[⟨some 5,.move (.c (.s (.bool false))),none⟩]
def R50_0t1:LO:=⟨some 4,.box (.t 1),none⟩ :: R50_0t2
def R50_0p0:LO:=[⟨some 3,.box (.t 0),none⟩]
def R50_0:LO:=R50_0p0 ++ R50_0t1
def K50_0p0:List Nat:=[0] ++ List.range' 3 184
def A50_0p0_0:=hQ K50_0p0 0
def A50_0p0_1:=hK K50_0p0 1
def A50_0p0_2:=hK K50_0p0 2
def A50_0p0_3:=hQ K50_0p0 3
def A50_0p0_4:=hQ K50_0p0 4
def A50_0p0_5:=hQ K50_0p0 5
theorem X50_0 (call:CallF) (it:IterF) (base:Nat) (f:List V) (H:Heap):evC call it base (.region R50_0 [] K50_0) f H=thenC call it base (.region R50_0t1 [] K50_0) (opsC [] R50_0p0 K50_0p0 (evOps call base [⟨some 3,.box (.t 0),none⟩] f H)):=(row_op call it base R50_0p0 R50_0t1 (kc:=K50_0p0) (by kernel_rfl) f H).trans (by rw [row_ops];rfl)
def X50_0t1:=hP R50_0t1 R50_0t2 [1] K50_0 ⟨some 4,.box (.t 1),none⟩
def T50_0t2:=hT R50_0t2 K50_0 [] 6 [] [] [.cc (.s (.bool false))]
def X50_0t2:=hL R50_0t2 K50_0 []
def R50_1t3:LO:=[oM 7 17]
def R50_1t2:LO:=⟨none,.store 7 (.t 6) (.t 16),none⟩ :: R50_1t3
def R50_1t1:LO:=⟨some 6,.alloc [.s (.bool false),.s (.bool false),.s (.bool false),.s (.bool false),.s (.bool false),.s (.bool false),.s (.bool false)],none⟩ :: R50_1t2
def R50_1p0:LO:=[oL 9 2,⟨some 10,.nilCheck (.t 9),none⟩,oF 11 1 10,oL 12 11,oF 13 0 4,oL 14 13,⟨some 15,.mapGet (.int .u8) (.agg [.s (.bool false),.s (.bool false),.s (.bool false),.s (.bool false),.s (.bool false),.s (.bool false),.s (.bool false)]) (.t 12) (.t 14) true,none⟩,oM 8 15,⟨some 16,.extract (.t 8) 0,none⟩,⟨some 17,.extract (.t 8) 1,none⟩]
def R50_1:LO:=R50_1p0 ++ R50_1t1
def T50_1p0:=hT R50_1p0 [2,8,9,10,11,12,13,14,15] [16,17] 18 [] [(16,.op (.extract (.t 0) 0) [.op (.mapGet (.int .u8) (.agg [.s (.bool false),.s (.bool false),.s (.bool false),.s (.bool false),.s (.bool false),.s (.bool false),.s (.bool false)]) (.t 0) (.t 1) true) [.op (.load false 1 (.t 0)) [.op (.fieldAddr 1 (.t 0)) [.op (.nilCheck (.t 0)) [.op (.load false 1 (.t 0)) [.t 2]]]],.op (.load false 1 (.t 0)) [.op (.fieldAddr 0 (.t 0)) [.t 4]]]]),(17,.op (.extract (.t 0) 1) [.op (.mapGet (.int .u8) (.agg [.s (.bool false),.s (.bool false),.s (.bool false),.s (.bool false),.s (.bool false),.s (.bool false),.s (.bool false)]) (.t 0) (.t 1) true) [.op (.load false 1 (.t 0)) [.op (.fieldAddr 1 (.t 0)) [.op (.nilCheck (.t 0)) [.op (.load false 1 (.t 0)) [.t 2]]]],.op (.load false 1 (.t 0)) [.op (.fieldAddr 0 (.t 0)) [.t 4]]]])] [sb [0,0,0,0,0],sb [0,0,0,0],sb [0,0,0],sb [0,0],sb [0,1,0],sb [0,1],sb [0],sb [0],sb [],.sub 1 [] []]
def X50_1:=hS R50_1 R50_1p0 R50_1t1 [2,8,9,10,11,12,13,14,15] [16,17] [2,8,9,10,11,12,13,14,15,16,17]
def X50_1t1:=hP R50_1t1 R50_1t2 [] [2,8,9,10,11,12,13,14,15,16,17] ⟨some 6,.alloc [.s (.bool false),.s (.bool false),.s (.bool false),.s (.bool false),.s (.bool false),.s (.bool false),.s (.bool false)],none⟩
def X50_1t2:=hP R50_1t2 R50_1t3 [16] [2,8,9,10,11,12,13,14,15,16,17] ⟨none,.store 7 (.t 6) (.t 16),none⟩
def T50_1t3:=hT R50_1t3 [2,8,9,10,11,12,13,14,15,16,17] [7] 8 [] [(7,.t 17)] [.tt 17]
def X50_1t3:=hL R50_1t3 [2,8,9,10,11,12,13,14,15,16,17] [7]
def R50_2:LO:=[oM 18 7,⟨some 19,.un .not (.t 18),none⟩,oM 20 19,gF 21 0 6 20 false,gL 22 21 20 false,⟨some 23,.un .not (.t 22),some (20,false)⟩,gM 24 23 20 false,gF 25 1 4 24 true,gL 26 25 24 true,⟨some 27,.bin .neq (.t 26) (.c (.s (.string ⟨#[]⟩))),some (24,true)⟩,⟨some 28,.pick (.t 24) (.t 27) (.c (.s (.bool false))),some (20,false)⟩,⟨some 29,.pick (.t 20) (.c (.s (.bool true))) (.t 28),none⟩,oM 30 29,gF 31 1 6 30 false,gL 32 31 30 false,⟨some 33,.un .not (.t 32),some (30,false)⟩,gM 34 33 30 false,gF 35 2 4 34 true,gL 36 35 34 true,⟨some 37,.bin .neq (.t 36) (.c (.s (.string ⟨#[]⟩))),some (34,true)⟩,⟨some 38,.pick (.t 34) (.t 37) (.c (.s (.bool false))),some (30,false)⟩,⟨some 39,.pick (.t 30) (.c (.s (.bool true))) (.t 38),none⟩,oM 40 39,gF 41 2 6 40 false,gL 42 41 40 false,⟨some 43,.un .not (.t 42),some (40,false)⟩,gM 44 43 40 false,gF 45 3 4 44 true,gL 46 45 44 true,⟨some 47,.bin .neq (.t 46) (.c (.s (.string ⟨#[]⟩))),some (44,true)⟩,⟨some 48,.pick (.t 44) (.t 47) (.c (.s (.bool false))),some (40,false)⟩,⟨some 49,.pick (.t 40) (.c (.s (.bool true))) (.t 48),none⟩,oM 50 49,gF 51 3 6 50 false,gL 52 51 50 false,⟨some 53,.un .not (.t 52),some (50,false)⟩,gM 54 53 50 false,gF 55 4 4 54 true,gL 56 55 54 true,⟨some 57,.bin .neq (.t 56) (.c (.s (.int .i64 0))),some (54,true)⟩,⟨some 58,.pick (.t 54) (.t 57) (.c (.s (.bool false))),some (50,false)⟩,⟨some 59,.pick (.t 50) (.c (.s (.bool true))) (.t 58),none⟩,oM 60 59,gF 61 4 6 60 false,gL 62 61 60 false,⟨some 63,.un .not (.t 62),some (60,false)⟩,gM 64 63 60 false,gF 65 5 4 64 true,gL 66 65 64 true,⟨some 67,.bin .neq (.t 66) (.c (.s (.string ⟨#[]⟩))),some (64,true)⟩,⟨some 68,.pick (.t 64) (.t 67) (.c (.s (.bool false))),some (60,false)⟩,⟨some 69,.pick (.t 60) (.c (.s (.bool true))) (.t 68),none⟩,oM 70 69,gF 71 5 6 70 false,gL 72 71 70 false,⟨some 73,.un .not (.t 72),some (70,false)⟩,gM 74 73 70 false,gF 75 6 4 74 true,gL 76 75 74 true,⟨some 77,.lenS .s (.t 76),some (74,true)⟩,⟨some 78,.bin .gtr (.t 77) (.c (.s (.int .i64 0))),some (74,true)⟩,⟨some 79,.pick (.t 74) (.t 78) (.c (.s (.bool false))),some (70,false)⟩,⟨some 80,.pick (.t 70) (.c (.s (.bool true))) (.t 79),none⟩,oM 81 80,gF 82 6 6 81 false,gL 83 82 81 false,⟨some 84,.un .not (.t 83),some (81,false)⟩,gM 85 84 81 false,gF 86 7 4 85 true,gL 87 86 85 true,⟨some 88,.lenS .s (.t 87),some (85,true)⟩,⟨some 89,.bin .gtr (.t 88) (.c (.s (.int .i64 0))),some (85,true)⟩,⟨some 90,.pick (.t 85) (.t 89) (.c (.s (.bool false))),some (81,false)⟩,⟨some 91,.pick (.t 81) (.c (.s (.bool true))) (.t 90),none⟩]
def T50_2:=hT R50_2 [7,18,19,20,21,22,23,24,25,26,27,28,29,30,31,32,33,34,35,36,37,38,39,40,41,42,43,44,45,46,47,48,49,50,51,52,53,54,55,56,57,58,59,60,61,62,63,64,65,66,67,68,69,70,71,72,73,74,75,76,77,78,79,80,81,82,83,84,85,86,87,88,89,90] [91] 92 [] [(91,.pick (.pick (.pick (.pick (.pick (.pick (.pick (.op (.un .not (.t 0)) [.t 7]) (.c (.s (.bool true))) (.pick (.op (.un .not (.t 0)) [.op (.load false 1 (.t 0)) [.op (.fieldAddr 0 (.t 0)) [.t 6]]]) (.op (.bin .neq (.t 0) (.c (.s (.string ⟨#[]⟩)))) [.op (.load false 1 (.t 0)) [.op (.fieldAddr 1 (.t 0)) [.t 4]],.c (.s (.string ⟨#[]⟩))]) (.c (.s (.bool false))))) (.c (.s (.bool true))) (.pick (.op (.un .not (.t 0)) [.op (.load false 1 (.t 0)) [.op (.fieldAddr 1 (.t 0)) [.t 6]]]) (.op (.bin .neq (.t 0) (.c (.s (.string ⟨#[]⟩)))) [.op (.load false 1 (.t 0)) [.op (.fieldAddr 2 (.t 0)) [.t 4]],.c (.s (.string ⟨#[]⟩))]) (.c (.s (.bool false))))) (.c (.s (.bool true))) (.pick (.op (.un .not (.t 0)) [.op (.load false 1 (.t 0)) [.op (.fieldAddr 2 (.t 0)) [.t 6]]]) (.op (.bin .neq (.t 0) (.c (.s (.string ⟨#[]⟩)))) [.op (.load false 1 (.t 0)) [.op (.fieldAddr 3 (.t 0)) [.t 4]],.c (.s (.string ⟨#[]⟩))]) (.c (.s (.bool false))))) (.c (.s (.bool true))) (.pick (.op (.un .not (.t 0)) [.op (.load false 1 (.t 0)) [.op (.fieldAddr 3 (.t 0)) [.t 6]]]) (.op (.bin .neq (.t 0) (.c (.s (.int .i64 0)))) [.op (.load false 1 (.t 0)) [.op (.fieldAddr 4 (.t 0)) [.t 4]],.c (.s (.int .i64 0))]) (.c (.s (.bool false))))) (.c (.s (.bool true))) (.pick (.op (.un .not (.t 0)) [.op (.load false 1 (.t 0)) [.op (.fieldAddr 4 (.t 0)) [.t 6]]]) (.op (.bin .neq (.t 0) (.c (.s (.string ⟨#[]⟩)))) [.op (.load false 1 (.t 0)) [.op (.fieldAddr 5 (.t 0)) [.t 4]],.c (.s (.string ⟨#[]⟩))]) (.c (.s (.bool false))))) (.c (.s (.bool true))) (.pick (.op (.un .not (.t 0)) [.op (.load false 1 (.t 0)) [.op (.fieldAddr 5 (.t 0)) [.t 6]]]) (.op (.bin .gtr (.t 0) (.c (.s (.int .i64 0)))) [.op (.lenS .s (.t 0)) [.op (.load false 1 (.t 0)) [.op (.fieldAddr 6 (.t 0)) [.t 4]]],.c (.s (.int .i64 0))]) (.c (.s (.bool false))))) (.c (.s (.bool true))) (.pick (.op (.un .not (.t 0)) [.op (.load false 1 (.t 0)) [.op (.fieldAddr 6 (.t 0)) [.t 6]]]) (.op (.bin .gtr (.t 0) (.c (.s (.int .i64 0)))) [.op (.lenS .s (.t 0)) [.op (.load false 1 (.t 0)) [.op (.fieldAddr 7 (.t 0)) [.t 4]]],.c (.s (.int .i64 0))]) (.c (.s (.bool false)))))] [.tt 7,sb [0,0,0,0,0,0,0],sb [0,0,0,0,0,0,0],.sub 0 [0,0,0,0,0,0,2,0,0,0] [20],.sub 0 [0,0,0,0,0,0,2,0,0] [20],.sub 0 [0,0,0,0,0,0,2,0] [20],.sub 0 [0,0,0,0,0,0,2,0] [20],.sub 0 [0,0,0,0,0,0,2,1,0,0] [20,24],.sub 0 [0,0,0,0,0,0,2,1,0] [20,24],.sub 0 [0,0,0,0,0,0,2,1] [20,24],.sub 0 [0,0,0,0,0,0,2] [20],sb [0,0,0,0,0,0],sb [0,0,0,0,0,0],.sub 0 [0,0,0,0,0,2,0,0,0] [30],.sub 0 [0,0,0,0,0,2,0,0] [30],.sub 0 [0,0,0,0,0,2,0] [30],.sub 0 [0,0,0,0,0,2,0] [30],.sub 0 [0,0,0,0,0,2,1,0,0] [30,34],.sub 0 [0,0,0,0,0,2,1,0] [30,34],.sub 0 [0,0,0,0,0,2,1] [30,34],.sub 0 [0,0,0,0,0,2] [30],sb [0,0,0,0,0],sb [0,0,0,0,0],.sub 0 [0,0,0,0,2,0,0,0] [40],.sub 0 [0,0,0,0,2,0,0] [40],.sub 0 [0,0,0,0,2,0] [40],.sub 0 [0,0,0,0,2,0] [40],.sub 0 [0,0,0,0,2,1,0,0] [40,44],.sub 0 [0,0,0,0,2,1,0] [40,44],.sub 0 [0,0,0,0,2,1] [40,44],.sub 0 [0,0,0,0,2] [40],sb [0,0,0,0],sb [0,0,0,0],.sub 0 [0,0,0,2,0,0,0] [50],.sub 0 [0,0,0,2,0,0] [50],.sub 0 [0,0,0,2,0] [50],.sub 0 [0,0,0,2,0] [50],.sub 0 [0,0,0,2,1,0,0] [50,54],.sub 0 [0,0,0,2,1,0] [50,54],.sub 0 [0,0,0,2,1] [50,54],.sub 0 [0,0,0,2] [50],sb [0,0,0],sb [0,0,0],.sub 0 [0,0,2,0,0,0] [60],.sub 0 [0,0,2,0,0] [60],.sub 0 [0,0,2,0] [60],.sub 0 [0,0,2,0] [60],.sub 0 [0,0,2,1,0,0] [60,64],.sub 0 [0,0,2,1,0] [60,64],.sub 0 [0,0,2,1] [60,64],.sub 0 [0,0,2] [60],sb [0,0],sb [0,0],.sub 0 [0,2,0,0,0] [70],.sub 0 [0,2,0,0] [70],.sub 0 [0,2,0] [70],.sub 0 [0,2,0] [70],.sub 0 [0,2,1,0,0,0] [70,74],.sub 0 [0,2,1,0,0] [70,74],.sub 0 [0,2,1,0] [70,74],.sub 0 [0,2,1] [70,74],.sub 0 [0,2] [70],sb [0],sb [0],.sub 0 [2,0,0,0] [81],.sub 0 [2,0,0] [81],.sub 0 [2,0] [81],.sub 0 [2,0] [81],.sub 0 [2,1,0,0,0] [81,85],.sub 0 [2,1,0,0] [81,85],.sub 0 [2,1,0] [81,85],.sub 0 [2,1] [81,85],.sub 0 [2] [81],sb []]
def R50_3:LO:=[⟨some 5,.move (.c (.s (.bool true))),none⟩]
def T50_3:=hT R50_3 [4,6,91] [5] 6 [] [(5,.c (.s (.bool true)))] [.cc (.s (.bool true))]
def R50_4t4:LO:=[⟨some 103,.un .not (.t 102),some (99,true)⟩,⟨some 104,.pick (.t 99) (.t 103) (.c (.s (.bool false))),none⟩,oM 105 104,gF 106 1 6 105 false,gL 107 106 105 false,gM 108 107 105 false,gF 109 2 4 108 true,gL 110 109 108 true,⟨some 111,.bin .eql (.t 110) (.c (.s (.string ⟨#[]⟩))),some (108,true)⟩,⟨some 112,.pick (.t 108) (.t 111) (.c (.s (.bool false))),some (105,false)⟩,gM 113 112 105 false,gF 114 0 4 113 true,gL 115 114 113 true,⟨some 116,.bin .neq (.t 115) (.c (.s (.int .u8 14))),some (113,true)⟩,⟨some 117,.pick (.t 113) (.t 116) (.c (.s (.bool false))),some (105,false)⟩,⟨some 118,.pick (.t 105) (.c (.s (.bool true))) (.t 117),none⟩,oM 119 118,gF 120 2 6 119 false,gL 121 120 119 false,gM 122 121 119 false,gF 123 3 4 122 true,gL 124 123 122 true,⟨some 125,.bin .eql (.t 124) (.c (.s (.string ⟨#[]⟩))),some (122,true)⟩,⟨some 126,.pick (.t 122) (.t 125) (.c (.s (.bool false))),some (119,false)⟩,⟨some 127,.pick (.t 119) (.c (.s (.bool true))) (.t 126),none⟩,oM 128 127,gF 129 4 6 128 false,gL 130 129 128 false,gM 131 130 128 false,gF 132 5 4 131 true,gL 133 132 131 true,⟨some 134,.bin .eql (.t 133) (.c (.s (.string ⟨#[]⟩))),some (131,true)⟩,⟨some 135,.pick (.t 131) (.t 134) (.c (.s (.bool false))),some (128,false)⟩,⟨some 136,.pick (.t 128) (.c (.s (.bool true))) (.t 135),none⟩]
def R50_4t3:LO:=⟨some 102,.call (.c (.fn 46 [] [])) [.t 101],some (99,true)⟩ :: R50_4t4
def R50_4t2:LO:=gL 101 100 99 true :: R50_4t3
def R50_4t1:LO:=gF 100 0 4 99 true :: R50_4t2
def R50_4p0:LO:=[oF 92 0 6,oL 93 92,oM 94 93,gF 95 1 4 94 true,gL 96 95 94 true,⟨some 97,.bin .eql (.t 96) (.c (.s (.string ⟨#[]⟩))),some (94,true)⟩,⟨some 98,.pick (.t 94) (.t 97) (.c (.s (.bool false))),none⟩,oM 99 98]
def R50_4:LO:=R50_4p0 ++ R50_4t1
def T50_4p0:=hT R50_4p0 [91,92,93,94,95,96,97,98] [99] 100 [] [(99,.pick (.op (.load false 1 (.t 0)) [.op (.fieldAddr 0 (.t 0)) [.t 6]]) (.op (.bin .eql (.t 0) (.c (.s (.string ⟨#[]⟩)))) [.op (.load false 1 (.t 0)) [.op (.fieldAddr 1 (.t 0)) [.t 4]],.c (.s (.string ⟨#[]⟩))]) (.c (.s (.bool false))))] [sb [0,0],sb [0],sb [0],.sub 0 [1,0,0] [94],.sub 0 [1,0] [94],.sub 0 [1] [94],sb [],sb []]
def X50_4:=hS R50_4 R50_4p0 R50_4t1 [91,92,93,94,95,96,97,98] [99] [6,91,92,93,94,95,96,97,98,99,100,101,102,103,104,105,106,107,108,109,110,111,112,113,114,115,116,117,118,119,120,121,122,123,124,125,126,127,128,129,130,131,132,133,134,135]
def X50_4t1:=hP R50_4t1 R50_4t2 [] [6,91,92,93,94,95,96,97,98,99,100,101,102,103,104,105,106,107,108,109,110,111,112,113,114,115,116,117,118,119,120,121,122,123,124,125,126,127,128,129,130,131,132,133,134,135] ⟨some 100,.fieldAddr 0 (.t 4),some (99,true)⟩
def X50_4t2:=hP R50_4t2 R50_4t3 [100] [6,91,92,93,94,95,96,97,98,99,100,101,102,103,104,105,106,107,108,109,110,111,112,113,114,115,116,117,118,119,120,121,122,123,124,125,126,127,128,129,130,131,132,133,134,135] ⟨some 101,.load false 1 (.t 100),some (99,true)⟩
def X50_4t3:=hP R50_4t3 R50_4t4 [101] [6,91,92,93,94,95,96,97,98,99,100,101,102,103,104,105,106,107,108,109,110,111,112,113,114,115,116,117,118,119,120,121,122,123,124,125,126,127,128,129,130,131,132,133,134,135] ⟨some 102,.call (.c (.fn 46 [] [])) [.t 101],some (99,true)⟩
def T50_4t4:=hT R50_4t4 [6,91,92,93,94,95,96,97,98,99,100,101,102,103,104,105,106,107,108,109,110,111,112,113,114,115,116,117,118,119,120,121,122,123,124,125,126,127,128,129,130,131,132,133,134,135] [136] 137 [] [(136,.pick (.pick (.pick (.pick (.t 99) (.op (.un .not (.t 0)) [.t 102]) (.c (.s (.bool false)))) (.c (.s (.bool true))) (.pick (.pick (.op (.load false 1 (.t 0)) [.op (.fieldAddr 1 (.t 0)) [.t 6]]) (.op (.bin .eql (.t 0) (.c (.s (.string ⟨#[]⟩)))) [.op (.load false 1 (.t 0)) [.op (.fieldAddr 2 (.t 0)) [.t 4]],.c (.s (.string ⟨#[]⟩))]) (.c (.s (.bool false)))) (.op (.bin .neq (.t 0) (.c (.s (.int .u8 14)))) [.op (.load false 1 (.t 0)) [.op (.fieldAddr 0 (.t 0)) [.t 4]],.c (.s (.int .u8 14))]) (.c (.s (.bool false))))) (.c (.s (.bool true))) (.pick (.op (.load false 1 (.t 0)) [.op (.fieldAddr 2 (.t 0)) [.t 6]]) (.op (.bin .eql (.t 0) (.c (.s (.string ⟨#[]⟩)))) [.op (.load false 1 (.t 0)) [.op (.fieldAddr 3 (.t 0)) [.t 4]],.c (.s (.string ⟨#[]⟩))]) (.c (.s (.bool false))))) (.c (.s (.bool true))) (.pick (.op (.load false 1 (.t 0)) [.op (.fieldAddr 4 (.t 0)) [.t 6]]) (.op (.bin .eql (.t 0) (.c (.s (.string ⟨#[]⟩)))) [.op (.load false 1 (.t 0)) [.op (.fieldAddr 5 (.t 0)) [.t 4]],.c (.s (.string ⟨#[]⟩))]) (.c (.s (.bool false)))))] [.sub 0 [0,0,0,1] [99],sb [0,0,0],sb [0,0,0],.sub 0 [0,0,2,0,0,0] [105],.sub 0 [0,0,2,0,0] [105],.sub 0 [0,0,2,0,0] [105],.sub 0 [0,0,2,0,1,0,0] [105,108],.sub 0 [0,0,2,0,1,0] [105,108],.sub 0 [0,0,2,0,1] [105,108],.sub 0 [0,0,2,0] [105],.sub 0 [0,0,2,0] [105],.sub 0 [0,0,2,1,0,0] [105,113],.sub 0 [0,0,2,1,0] [105,113],.sub 0 [0,0,2,1] [105,113],.sub 0 [0,0,2] [105],sb [0,0],sb [0,0],.sub 0 [0,2,0,0] [119],.sub 0 [0,2,0] [119],.sub 0 [0,2,0] [119],.sub 0 [0,2,1,0,0] [119,122],.sub 0 [0,2,1,0] [119,122],.sub 0 [0,2,1] [119,122],.sub 0 [0,2] [119],sb [0],sb [0],.sub 0 [2,0,0] [128],.sub 0 [2,0] [128],.sub 0 [2,0] [128],.sub 0 [2,1,0,0] [128,131],.sub 0 [2,1,0] [128,131],.sub 0 [2,1] [128,131],.sub 0 [2] [128],sb []]
def X50_4t4:=hL R50_4t4 [6,91,92,93,94,95,96,97,98,99,100,101,102,103,104,105,106,107,108,109,110,111,112,113,114,115,116,117,118,119,120,121,122,123,124,125,126,127,128,129,130,131,132,133,134,135] [136]
def R50_5:LO:=[⟨some 5,.move (.c (.s (.bool true))),none⟩]
def T50_5:=hT R50_5 [4,136] [5] 6 [] [(5,.c (.s (.bool true)))] [.cc (.s (.bool true))]
def R50_6:LO:=[oF 137 0 4,oL 138 137]
def T50_6:=hT R50_6 [136,137] [138] 139 [] [(138,.op (.load false 1 (.t 0)) [.op (.fieldAddr 0 (.t 0)) [.t 4]])] [sb [0],sb []]
def R50_7:LO:=[⟨some 140,.bin .eql (.t 138) (.c (.s (.int .u8 1))),none⟩,oM 139 140]
def T50_7:=hT R50_7 [140] [139] 141 [] [(139,.op (.bin .eql (.t 0) (.c (.s (.int .u8 1)))) [.t 138,.c (.s (.int .u8 1))])] [sb [],sb []]
def R50_8:LO:=[⟨some 141,.bin .eql (.t 138) (.c (.s (.int .u8 2))),none⟩,oM 139 141]
def T50_8:=hT R50_8 [141] [139] 142 [] [(139,.op (.bin .eql (.t 0) (.c (.s (.int .u8 2)))) [.t 138,.c (.s (.int .u8 2))])] [sb [],sb []]
def R50_9:LO:=[oF 142 4 4,oL 143 142,⟨some 144,.bin .lss (.t 143) (.c (.s (.int .i64 1))),none⟩,oM 145 144,gF 146 4 4 145 false,gL 147 146 145 false,⟨some 148,.bin .gtr (.t 147) (.c (.s (.int .i64 64))),some (145,false)⟩,⟨some 149,.pick (.t 145) (.c (.s (.bool true))) (.t 148),none⟩,oM 5 149]
def T50_9:=hT R50_9 [4,138,139,142,143,144,145,146,147,148,149] [5] 150 [] [(5,.pick (.op (.bin .lss (.t 0) (.c (.s (.int .i64 1)))) [.op (.load false 1 (.t 0)) [.op (.fieldAddr 4 (.t 0)) [.t 4]],.c (.s (.int .i64 1))]) (.c (.s (.bool true))) (.op (.bin .gtr (.t 0) (.c (.s (.int .i64 64)))) [.op (.load false 1 (.t 0)) [.op (.fieldAddr 4 (.t 0)) [.t 4]],.c (.s (.int .i64 64))]))] [sb [0,0,0],sb [0,0],sb [0],sb [0],.sub 0 [2,0,0] [145],.sub 0 [2,0] [145],.sub 0 [2] [145],sb [],sb []]
def R50_10:LO:=[⟨some 151,.bin .eql (.t 138) (.c (.s (.int .u8 7))),none⟩,oM 150 151]
def T50_10:=hT R50_10 [139,151] [150] 152 [] [(150,.op (.bin .eql (.t 0) (.c (.s (.int .u8 7)))) [.t 138,.c (.s (.int .u8 7))])] [sb [],sb []]
def R50_11:LO:=[oF 152 4 4,oL 153 152,⟨some 154,.bin .lss (.t 153) (.c (.s (.int .i64 0))),none⟩,oM 155 154,gF 156 4 4 155 false,gL 157 156 155 false,⟨some 158,.bin .geq (.t 157) (.c (.s (.int .i64 64))),some (155,false)⟩,⟨some 159,.pick (.t 155) (.c (.s (.bool true))) (.t 158),none⟩,oM 5 159]
def T50_11:=hT R50_11 [4,138,150,152,153,154,155,156,157,158,159] [5] 160 [] [(5,.pick (.op (.bin .lss (.t 0) (.c (.s (.int .i64 0)))) [.op (.load false 1 (.t 0)) [.op (.fieldAddr 4 (.t 0)) [.t 4]],.c (.s (.int .i64 0))]) (.c (.s (.bool true))) (.op (.bin .geq (.t 0) (.c (.s (.int .i64 64)))) [.op (.load false 1 (.t 0)) [.op (.fieldAddr 4 (.t 0)) [.t 4]],.c (.s (.int .i64 64))]))] [sb [0,0,0],sb [0,0],sb [0],sb [0],.sub 0 [2,0,0] [155],.sub 0 [2,0] [155],.sub 0 [2] [155],sb [],sb []]
def R50_12:LO:=[⟨some 161,.bin .eql (.t 138) (.c (.s (.int .u8 6))),none⟩,oM 160 161]
def T50_12:=hT R50_12 [150,161] [160] 162 [] [(160,.op (.bin .eql (.t 0) (.c (.s (.int .u8 6)))) [.t 138,.c (.s (.int .u8 6))])] [sb [],sb []]
def R50_13:LO:=[oF 162 6 4,oL 163 162,⟨some 164,.lenS .s (.t 163),none⟩,⟨some 165,.bin .eql (.t 164) (.c (.s (.int .i64 0))),none⟩,oM 166 165,gF 167 6 4 166 false,gL 168 167 166 false,⟨some 169,.lenS .s (.t 168),some (166,false)⟩,gF 170 7 4 166 false,gL 171 170 166 false,⟨some 172,.lenS .s (.t 171),some (166,false)⟩,⟨some 173,.bin .neq (.t 169) (.t 172),some (166,false)⟩,⟨some 174,.pick (.t 166) (.c (.s (.bool true))) (.t 173),none⟩,oM 5 174]
def T50_13:=hT R50_13 [4,138,160,162,163,164,165,166,167,168,169,170,171,172,173,174] [5] 175 [] [(5,.pick (.op (.bin .eql (.t 0) (.c (.s (.int .i64 0)))) [.op (.lenS .s (.t 0)) [.op (.load false 1 (.t 0)) [.op (.fieldAddr 6 (.t 0)) [.t 4]]],.c (.s (.int .i64 0))]) (.c (.s (.bool true))) (.op (.bin .neq (.t 0) (.t 1)) [.op (.lenS .s (.t 0)) [.op (.load false 1 (.t 0)) [.op (.fieldAddr 6 (.t 0)) [.t 4]]],.op (.lenS .s (.t 0)) [.op (.load false 1 (.t 0)) [.op (.fieldAddr 7 (.t 0)) [.t 4]]]]))] [sb [0,0,0,0],sb [0,0,0],sb [0,0],sb [0],sb [0],.sub 0 [2,0,0,0] [166],.sub 0 [2,0,0] [166],.sub 0 [2,0] [166],.sub 0 [2,1,0,0] [166],.sub 0 [2,1,0] [166],.sub 0 [2,1] [166],.sub 0 [2] [166],sb [],sb []]
def R50_14:LO:=[⟨some 176,.bin .eql (.t 138) (.c (.s (.int .u8 12))),none⟩,oM 175 176]
def T50_14:=hT R50_14 [160,176] [175] 177 [] [(175,.op (.bin .eql (.t 0) (.c (.s (.int .u8 12)))) [.t 138,.c (.s (.int .u8 12))])] [sb [],sb []]
def R50_15:LO:=[oF 177 7 4,oL 178 177,⟨some 179,.lenS .s (.t 178),none⟩,⟨some 180,.bin .neq (.t 179) (.c (.s (.int .i64 2))),none⟩,oM 5 180]
def T50_15:=hT R50_15 [4,138,175,177,178,179,180] [5] 181 [] [(5,.op (.bin .neq (.t 0) (.c (.s (.int .i64 2)))) [.op (.lenS .s (.t 0)) [.op (.load false 1 (.t 0)) [.op (.fieldAddr 7 (.t 0)) [.t 4]]],.c (.s (.int .i64 2))])] [sb [0,0,0],sb [0,0],sb [0],sb [],sb []]
def R50_16:LO:=[⟨some 182,.bin .eql (.t 138) (.c (.s (.int .u8 13))),none⟩,oM 181 182]
def T50_16:=hT R50_16 [138,175,182] [181] 183 [] [(181,.op (.bin .eql (.t 0) (.c (.s (.int .u8 13)))) [.t 138,.c (.s (.int .u8 13))])] [sb [],sb []]
def R50_17:LO:=[oF 183 7 4,oL 184 183,⟨some 185,.lenS .s (.t 184),none⟩,⟨some 186,.bin .neq (.t 185) (.c (.s (.int .i64 1))),none⟩,oM 5 186]
def T50_17:=hT R50_17 [4,181,183,184,185,186] [5] 187 [] [(5,.op (.bin .neq (.t 0) (.c (.s (.int .i64 1)))) [.op (.lenS .s (.t 0)) [.op (.load false 1 (.t 0)) [.op (.fieldAddr 7 (.t 0)) [.t 4]]],.c (.s (.int .i64 1))])] [sb [0,0,0],sb [0,0],sb [0],sb [],sb []]
def R50_18:LO:=[⟨some 5,.move (.c (.s (.bool false))),none⟩]
def T50_18:=hT R50_18 [4,181] [5] 6 [] [(5,.c (.s (.bool false)))] [.cc (.s (.bool false))]
def s_f50:ACFun:={ ntmps:=187,results:=[.tmp 5],body:=
 (.seq (.region R50_0 [] K50_0)
 (.seq (.region R50_1 [] [2,8,9,10,11,12,13,14,15,16,17])
 (.seq (.seq (.regionE R50_2 [7,18,19,20,21,22,23,24,25,26,27,28,29,30,31,32,33,34,35,36,37,38,39,40,41,42,43,44,45,46,47,48,49,50,51,52,53,54,55,56,57,58,59,60,61,62,63,64,65,66,67,68,69,70,71,72,73,74,75,76,77,78,79,80,81,82,83,84,85,86,87,88,89,90] [91])
 (.cond (.t 91)
 (.seq (.regionE R50_3 [4,6,91] [5])
 .ret)
 .skip))
 (.seq (.seq (.region R50_4 [] [6,91,92,93,94,95,96,97,98,99,100,101,102,103,104,105,106,107,108,109,110,111,112,113,114,115,116,117,118,119,120,121,122,123,124,125,126,127,128,129,130,131,132,133,134,135])
 (.cond (.t 136)
 (.seq (.regionE R50_5 [4,136] [5])
 .ret)
 .skip))
 (.seq (.seq (.regionE R50_6 [136,137] [138])
 (.block 0
 (.seq (.seq (.regionE R50_7 [140] [139])
 (.cond (.t 139)
 .skip
 (.regionE R50_8 [141] [139])))
 (.cond (.t 139)
 (.seq (.regionE R50_9 [4,138,139,142,143,144,145,146,147,148,149] [5])
 .ret)
 (.seq (.regionE R50_10 [139,151] [150])
 (.cond (.t 150)
 (.seq (.regionE R50_11 [4,138,150,152,153,154,155,156,157,158,159] [5])
 .ret)
 (.seq (.regionE R50_12 [150,161] [160])
 (.cond (.t 160)
 (.seq (.regionE R50_13 [4,138,160,162,163,164,165,166,167,168,169,170,171,172,173,174] [5])
 .ret)
 (.seq (.regionE R50_14 [160,176] [175])
 (.cond (.t 175)
 (.seq (.regionE R50_15 [4,138,175,177,178,179,180] [5])
 .ret)
 (.seq (.regionE R50_16 [138,175,182] [181])
 (.cond (.t 181)
 (.seq (.regionE R50_17 [4,181,183,184,185,186] [5])
 .ret)
 .skip))))))))))))
 (.seq (.regionE R50_18 [4,181] [5])
 .ret)))))) }
theorem s_f50_first:firstOk (List.range' 3 (s_f50.ntmps - 3)) s_f50.body=true:=by kernel_rfl
abbrev k_f51:Nat:=51
def K51_0:List Nat:=List.range' 1 12
theorem s_f51_r0_kT:killV K51_0 (startV 13 [] 1)=[]:=by kernel_rfl
def s_f51_r0_kA0:=hK K51_0 0
def R51_0:LO:=[⟨some 2,.move (.c (.s (.bool false))),none⟩]
def T51_0:=hT R51_0 K51_0 [] 3 [] [] [.cc (.s (.bool false))]
def R51_1:LO:=[oM 3 0,⟨some 4,.bin .eql (.t 3) (.c (.s (.int .u8 12))),none⟩,oM 5 4,gM 6 0 5 false,⟨some 7,.bin .eql (.t 6) (.c (.s (.int .u8 13))),some (5,false)⟩,⟨some 8,.pick (.t 5) (.c (.s (.bool true))) (.t 7),none⟩,oM 9 8,gM 10 0 9 false,⟨some 11,.bin .eql (.t 10) (.c (.s (.int .u8 14))),some (9,false)⟩,⟨some 12,.pick (.t 9) (.c (.s (.bool true))) (.t 11),none⟩,oM 2 12]
def T51_1:=hT R51_1 [0,3,4,5,6,7,8,9,10,11,12] [2] 13 [] [(2,.pick (.pick (.op (.bin .eql (.t 0) (.c (.s (.int .u8 12)))) [.t 0,.c (.s (.int .u8 12))]) (.c (.s (.bool true))) (.op (.bin .eql (.t 0) (.c (.s (.int .u8 13)))) [.t 0,.c (.s (.int .u8 13))])) (.c (.s (.bool true))) (.op (.bin .eql (.t 0) (.c (.s (.int .u8 14)))) [.t 0,.c (.s (.int .u8 14))]))] [.tt 0,sb [0,0],sb [0,0],.sub 0 [0,2,0] [5],.sub 0 [0,2] [5],sb [0],sb [0],.sub 0 [2,0] [9],.sub 0 [2] [9],sb [],sb []]
def s_f51:ACFun:={ ntmps:=13,results:=[.tmp 2],body:=
 (.seq (.regionE R51_0 K51_0 [])
 (.seq (.regionE R51_1 [0,3,4,5,6,7,8,9,10,11,12] [2])
 .ret)) }
abbrev k_f52:Nat:=52
def K52_0:List Nat:=[0,1] ++ List.range' 5 32
def A52_0_0:=hQ K52_0 0
def A52_0_1:=hQ K52_0 1
def A52_0_2:=hK K52_0 2
def A52_0_3:=hK K52_0 3
def A52_0_4:=hK K52_0 4
def A52_0_5:=hQ K52_0 5
def R52_0t2:LO:=[⟨some 5,.move (.c (.s (.bool false))),none⟩]
def R52_0t1:LO:=⟨some 4,.box (.t 1),none⟩ :: R52_0t2
def R52_0:LO:=⟨some 3,.box (.t 0),none⟩ :: R52_0t1
def X52_0:=hP R52_0 R52_0t1 [0,4,5,6,7,8,9,10,11,12,13,14,15,16,17,18,19,20,21,22,23,24,25,26,27,28,29,30,31,32,33,34,35,36] K52_0 ⟨some 3,.box (.t 0),none⟩
def X52_0t1:=hP R52_0t1 R52_0t2 [1] K52_0 ⟨some 4,.box (.t 1),none⟩
def T52_0t2:=hT R52_0t2 K52_0 [] 6 [] [] [.cc (.s (.bool false))]
def X52_0t2:=hL R52_0t2 K52_0 []
def R52_1:LO:=[oL 7 2,⟨some 8,.nilCheck (.t 7),none⟩,oF 9 0 8,oF 10 0 9,oL 11 10,oF 12 0 3,oL 13 12,⟨some 14,.indexAddr 3 (.t 11) (.t 13),none⟩,oF 15 2 14,oL 16 15,oF 17 1 3,oL 18 17,⟨some 19,.indexAddr 2 (.t 16) (.t 18),none⟩,oF 20 1 19,oL 21 20,oF 22 2 3,oL 23 22,⟨some 24,.subSl 8 (.t 21) none (some (.t 23)) none,none⟩,oM 6 24]
def T52_1:=hT R52_1 [2,7,8,9,10,11,12,13,14,15,16,17,18,19,20,21,22,23,24] [6] 25 [] [(6,.op (.subSl 8 (.t 0) none (some (.t 1)) none) [.op (.load false 1 (.t 0)) [.op (.fieldAddr 1 (.t 0)) [.op (.indexAddr 2 (.t 0) (.t 1)) [.op (.load false 1 (.t 0)) [.op (.fieldAddr 2 (.t 0)) [.op (.indexAddr 3 (.t 0) (.t 1)) [.op (.load false 1 (.t 0)) [.op (.fieldAddr 0 (.t 0)) [.op (.fieldAddr 0 (.t 0)) [.op (.nilCheck (.t 0)) [.op (.load false 1 (.t 0)) [.t 2]]]]],.op (.load false 1 (.t 0)) [.op (.fieldAddr 0 (.t 0)) [.t 3]]]]],.op (.load false 1 (.t 0)) [.op (.fieldAddr 1 (.t 0)) [.t 3]]]]],.op (.load false 1 (.t 0)) [.op (.fieldAddr 2 (.t 0)) [.t 3]]])] [sb [0,0,0,0,0,0,0,0,0,0,0],sb [0,0,0,0,0,0,0,0,0,0],sb [0,0,0,0,0,0,0,0,0],sb [0,0,0,0,0,0,0,0],sb [0,0,0,0,0,0,0],sb [0,0,0,0,0,0,1,0],sb [0,0,0,0,0,0,1],sb [0,0,0,0,0,0],sb [0,0,0,0,0],sb [0,0,0,0],sb [0,0,0,1,0],sb [0,0,0,1],sb [0,0,0],sb [0,0],sb [0],sb [1,0],sb [1],sb [],sb []]
def R52_2t7:LO:=[⟨some 35,.pick (.t 32) (.c (.s (.bool true))) (.t 34),some (28,true)⟩,⟨some 36,.pick (.t 28) (.t 35) (.c (.s (.bool false))),none⟩,oM 5 36]
def R52_2t6:LO:=⟨some 34,.call (.c (.fn 53 [] [])) [.t 33,.c (.fn 54 [] [])],some (32,false)⟩ :: R52_2t7
def R52_2t5:LO:=gM 33 6 32 false :: R52_2t6
def R52_2t4:LO:=gM 32 31 28 true :: R52_2t5
def R52_2t3:LO:=⟨some 31,.bin .eql (.t 30) (.c (.s (.int .i64 0))),some (28,true)⟩ :: R52_2t4
def R52_2t2:LO:=gL 30 29 28 true :: R52_2t3
def R52_2t1:LO:=gF 29 1 3 28 true :: R52_2t2
def R52_2p0:LO:=[oF 25 0 4,oL 26 25,⟨some 27,.bin .eql (.t 26) (.c (.s (.int .u8 6))),none⟩,oM 28 27]
def R52_2:LO:=R52_2p0 ++ R52_2t1
def T52_2p0:=hT R52_2p0 [4,25,26,27] [28] 29 [] [(28,.op (.bin .eql (.t 0) (.c (.s (.int .u8 6)))) [.op (.load false 1 (.t 0)) [.op (.fieldAddr 0 (.t 0)) [.t 4]],.c (.s (.int .u8 6))])] [sb [0,0],sb [0],sb [],sb []]
def X52_2:=hS R52_2 R52_2p0 R52_2t1 [4,25,26,27] [28] [3,4,6,25,26,27,28,29,30,31,32,33,34,35,36]
def X52_2t1:=hP R52_2t1 R52_2t2 [3] [3,4,6,25,26,27,28,29,30,31,32,33,34,35,36] ⟨some 29,.fieldAddr 1 (.t 3),some (28,true)⟩
def X52_2t2:=hP R52_2t2 R52_2t3 [29] [3,4,6,25,26,27,28,29,30,31,32,33,34,35,36] ⟨some 30,.load false 1 (.t 29),some (28,true)⟩
def X52_2t3:=hP R52_2t3 R52_2t4 [30] [3,4,6,25,26,27,28,29,30,31,32,33,34,35,36] ⟨some 31,.bin .eql (.t 30) (.c (.s (.int .i64 0))),some (28,true)⟩
def X52_2t4:=hP R52_2t4 R52_2t5 [31] [3,4,6,25,26,27,28,29,30,31,32,33,34,35,36] ⟨some 32,.move (.t 31),some (28,true)⟩
def X52_2t5:=hP R52_2t5 R52_2t6 [6] [3,4,6,25,26,27,28,29,30,31,32,33,34,35,36] ⟨some 33,.move (.t 6),some (32,false)⟩
def X52_2t6:=hP R52_2t6 R52_2t7 [33] [3,4,6,25,26,27,28,29,30,31,32,33,34,35,36] ⟨some 34,.call (.c (.fn 53 [] [])) [.t 33,.c (.fn 54 [] [])],some (32,false)⟩
def T52_2t7:=hT R52_2t7 [3,4,6,25,26,27,28,29,30,31,32,33,34,35,36] [5] 37 [] [(5,.pick (.t 28) (.pick (.t 32) (.c (.s (.bool true))) (.t 34)) (.c (.s (.bool false))))] [.sub 0 [1] [28],sb [],sb []]
def X52_2t7:=hL R52_2t7 [3,4,6,25,26,27,28,29,30,31,32,33,34,35,36] [5]
def s_f52:ACFun:={ ntmps:=37,results:=[.tmp 5],body:=
 (.seq (.region R52_0 [] K52_0)
 (.seq (.regionE R52_1 [2,7,8,9,10,11,12,13,14,15,16,17,18,19,20,21,22,23,24] [6])
 (.seq (.region R52_2 [] [3,4,6,25,26,27,28,29,30,31,32,33,34,35,36])
 .ret))) }
theorem s_f52_first:firstOk (List.range' 3 (s_f52.ntmps - 3)) s_f52.body=true:=by kernel_rfl
abbrev k_f53:Nat:=53
def K53_0:List Nat:=List.range' 2 7
theorem s_f53_r0_kT:killV K53_0 (startV 9 [] 2)=[]:=by kernel_rfl
def s_f53_r0_kA0:=hK K53_0 0
def s_f53_r0_kA1:=hK K53_0 1
def R53_0:LO:=[⟨some 4,.move (.c (.s (.bool false))),none⟩]
def T53_0:=hT R53_0 K53_0 [] 5 [] [] [.cc (.s (.bool false))]
def R53_1t2:LO:=[⟨some 8,.bin .geq (.t 7) (.c (.s (.int .i64 0))),none⟩,oM 4 8]
def R53_1t1:LO:=⟨some 7,.call (.c (.fn 68 [] [])) [.t 5,.t 6],none⟩ :: R53_1t2
def R53_1p0:LO:=[oM 5 0,oM 6 1]
def R53_1:LO:=R53_1p0 ++ R53_1t1
def T53_1p0:=hT R53_1p0 [0,1] [5,6] 7 [] [(5,.t 0),(6,.t 1)] [.tt 0,.tt 1]
def X53_1:=hS R53_1 R53_1p0 R53_1t1 [0,1] [5,6] [0,1,5,6,7,8]
def X53_1t1:=hP R53_1t1 R53_1t2 [5,6] [0,1,5,6,7,8] ⟨some 7,.call (.c (.fn 68 [] [])) [.t 5,.t 6],none⟩
def T53_1t2:=hT R53_1t2 [0,1,5,6,7,8] [4] 9 [] [(4,.op (.bin .geq (.t 0) (.c (.s (.int .i64 0)))) [.t 7,.c (.s (.int .i64 0))])] [sb [],sb []]
def X53_1t2:=hL R53_1t2 [0,1,5,6,7,8] [4]
def s_f53:ACFun:={ ntmps:=9,results:=[.tmp 4],body:=
 (.seq (.regionE R53_0 K53_0 [])
 (.seq (.region R53_1 [] [0,1,5,6,7,8])
 .ret)) }
abbrev k_f54:Nat:=54
def K54_0:List Nat:=[0,2,3,4,5]
def A54_0_0:=hQ K54_0 0
def A54_0_1:=hK K54_0 1
def A54_0_2:=hQ K54_0 2
def R54_0t1:LO:=[⟨some 2,.move (.c (.s (.bool false))),none⟩]
def R54_0:LO:=⟨some 1,.box (.t 0),none⟩ :: R54_0t1
def X54_0:=hP R54_0 R54_0t1 [0,2,3,4,5] K54_0 ⟨some 1,.box (.t 0),none⟩
def T54_0t1:=hT R54_0t1 K54_0 [] 3 [] [] [.cc (.s (.bool false))]
def X54_0t1:=hL R54_0t1 K54_0 []
def R54_1:LO:=[oF 3 0 1,oL 4 3,⟨some 5,.bin .neq (.t 4) (.c (.s (.int .u8 6))),none⟩,oM 2 5]
def T54_1:=hT R54_1 [1,3,4,5] [2] 6 [] [(2,.op (.bin .neq (.t 0) (.c (.s (.int .u8 6)))) [.op (.load false 1 (.t 0)) [.op (.fieldAddr 0 (.t 0)) [.t 1]],.c (.s (.int .u8 6))])] [sb [0,0],sb [0],sb [],sb []]
def s_f54:ACFun:={ ntmps:=6,results:=[.tmp 2],body:=
 (.seq (.region R54_0 [] K54_0)
 (.seq (.regionE R54_1 [1,3,4,5] [2])
 .ret)) }
theorem s_f54_first:firstOk (List.range' 1 (s_f54.ntmps - 1)) s_f54.body=true:=by kernel_rfl
def a_f23:=ai A23_0p0_0 (ai A23_0p0_2 (ai A23_0p0_3 (ai X23_0 (ai T23_0t1 (ai X23_0t1 (ai A23_0_0 (ai A23_0_2 (ai A23_0_3 (ai T23_1 (ai T23_2 (ai T23_3p0 (ai X23_3 (ai X23_3t1 (ai T23_3p2 (ai X23_3t2 (ai X23_3t3 (ai T23_4p0 (ai X23_4 (ai X23_4t1 (ai T23_4p2 (ai X23_4t2 (ai X23_4t3 (ai X23_4t4 (ai X23_4t5 (ai T23_4t6 (ai X23_4t6 (ai T23_5p0 (ai X23_5 (ai X23_5t1 (ai T23_5t2 (ai X23_5t2 (ai T23_6 (ai T23_7 (ai T23_8p0 (ai X23_8 (ai X23_8t1 (ai T23_8p2 (ai X23_8t2 (ai X23_8t3 (ai T23_9p0 (ai X23_9 (ai X23_9t1 (ai T23_9t2 (ai X23_9t2 (ai T23_10p0 (ai X23_10 (ai X23_10t1 (ai T23_10t2 (ai X23_10t2 (ai T23_11 (ai T23_12 (ai T23_13p0 (ai X23_13 (ai X23_13t1 (ai T23_13p2 (ai X23_13t2 (ai X23_13t3 (ai T23_14p0 (ai X23_14 (ai X23_14t1 (ai X23_14t2 (ai T23_15p0 (ai X23_15 (ai X23_15t1 (ai X23_15t2 (ai X23_15t3 (ai X23_15t4 (ai T23_15p5 (ai X23_15t5 (ai X23_15t6 (ai X23_15t7 (ai X23_15t8 (ai X23_15t9 (ai X23_15t10 (ai X23_15t11 (ai X23_15t12 (ai T23_15p13 (ai X23_15t13 (ai X23_15t14 (ai X23_15t15 (ai X23_15t16 (ai X23_15t17 (ai X23_15t18 (ai X23_15t19 (ai X23_15t20 (ai T23_15p21 (ai X23_15t21 (ai X23_15t22 (ai X23_15t23 (ai X23_15t24 (ai X23_15t25 (ai X23_15t26 (ai X23_15t27 (ai X23_15t28 (ai T23_15t29 (ai X23_15t29 (ai T23_16p0 (ai X23_16 (ai X23_16t1 (ai X23_16t2 (ai X23_16t3 (ai X23_16t4 (ai X23_16t5 (ai X23_16t6 (ai X23_16t7 (ai X23_16t8 (ai X23_16t9 (ai X23_16t10 (ai T23_16p11 (ai X23_16t11 (ai X23_16t12 (ai X23_16t13 (ai X23_16t14 (ai X23_16t15 (ai X23_16t16 (ai X23_16t17 (ai X23_16t18 (ai X23_16t19 (ai X23_16t20 (ai X23_16t21 (ai T23_16t22 (ai X23_16t22 (ai T23_17 (ai T23_18p0 (ai X23_18 (ai X23_18t1 (ai T23_18t2 (ai X23_18t2 (ai T23_19 (ai s_f23_l0_ev (ai T23_20 (ai s_f23_l1_ev (ai T23_21 (ai s_f23_l2_ev (ai T23_22p0 (ai X23_22 (ai X23_22t1 (ai T23_22t2 (X23_22t2)))))))))))))))))))))))))))))))))))))))))))))))))))))))))))))))))))))))))))))))))))))))))))))))))))))))))))))))))))))))))))))))))))))))))))
def a_f30:=ai X30_0 (ai X30_0t1 (ai T30_0t2 (ai X30_0t2 (ai A30_0_0 (ai A30_0_1 (ai A30_0_2 (ai A30_0_3 (ai T30_1p0 (ai X30_1 (ai X30_1t1 (ai T30_1p2 (ai X30_1t2 (ai X30_1t3 (ai T30_1t4 (X30_1t4)))))))))))))))
def a_f39:=ai T39_0 (ai s_f39_r0_kT (ai s_f39_r0_kA0 (ai s_f39_r0_kA1 (ai T39_1p0 (ai X39_1 (ai X39_1t1 (ai T39_1t2 (X39_1t2))))))))
def a_f40:=ai T40_0 (ai s_f40_r0_kT (ai s_f40_r0_kA0 (ai T40_1p0 (ai X40_1 (ai X40_1t1 (ai T40_1t2 (X40_1t2)))))))
def a_f41:=ai X41_0 (ai T41_0t1 (ai X41_0t1 (ai A41_0_0 (ai A41_0_1 (ai A41_0_2 (ai A41_0_4 (ai T41_1p0 (ai X41_1 (ai X41_1t1 (ai T41_1t2 (X41_1t2)))))))))))
def a_f42:=ai T42_0 (ai s_f42_r0_kT (ai s_f42_r0_kA0 (ai s_f42_r0_kA1 (ai T42_1p0 (ai X42_1 (ai X42_1t1 (ai T42_1t2 (X42_1t2))))))))
def a_f43:=ai X43_0 (ai T43_0t1 (ai X43_0t1 (ai A43_0_0 (ai A43_0_1 (ai A43_0_4 (ai A43_0_5 (ai T43_1 (ai T43_2 (ai T43_3p0 (ai X43_3 (ai X43_3t1 (ai T43_3p2 (ai X43_3t2 (ai X43_3t3 (ai T43_4p0 (ai X43_4 (ai X43_4t1 (ai T43_5p0 (ai X43_5 (ai X43_5t1 (ai T43_5t2 (ai X43_5t2 (ai T43_6 (ai s_f43_l0_ev (ai T43_7p0 (ai X43_7 (ai X43_7t1 (ai T43_7t2 (X43_7t2)))))))))))))))))))))))))))))
def a_f44:=ai X44_0 (ai T44_0t1 (ai X44_0t1 (ai A44_0_0 (ai A44_0_1 (ai A44_0_2 (ai A44_0_4 (ai A44_0_5 (ai T44_1 (ai T44_2p0 (ai X44_2 (ai X44_2t1 (T44_3))))))))))))
def a_f45:=ai X45_0 (ai T45_0t1 (ai X45_0t1 (ai A45_0_0 (ai A45_0_1 (ai A45_0_3 (ai A45_0_4 (ai T45_1p0 (ai X45_1 (ai X45_1t1 (ai T45_1t2 (X45_1t2)))))))))))
def a_f46:=ai T46_0 (ai s_f46_r0_kT (ai s_f46_r0_kA0 (T46_1)))
def a_f47:=ai X47_0 (ai T47_0t1 (ai X47_0t1 (ai A47_0_0 (ai A47_0_1 (ai A47_0_3 (ai A47_0_4 (T47_1)))))))
def a_f48:=ai X48_0 (ai X48_0t1 (ai X48_0t2 (ai A48_0_0 (ai A48_0_1 (ai A48_0_3 (ai A48_0_4 (ai A48_0_5 (ai T48_1p0 (ai X48_1 (ai X48_1t1 (ai X48_2 (ai X48_2t1 (ai X48_3 (ai X48_3t1 (ai T48_4p0 (ai X48_4 (ai X48_4t1 (ai T48_5p0 (ai X48_5 (ai X48_5t1 (ai X48_5t2 (ai T48_6p0 (ai X48_6 (ai X48_6t1 (X48_6t2)))))))))))))))))))))))))
def a_f49:=ai X49_0 (ai X49_0t1 (ai T49_0t2 (ai X49_0t2 (ai A49_0_0 (ai A49_0_1 (ai A49_0_2 (ai A49_0_3 (ai A49_0_4 (ai A49_0_5 (ai T49_1p0 (ai X49_1 (ai X49_1t1 (T49_2)))))))))))))
def a_f50:=ai A50_0p0_0 (ai A50_0p0_1 (ai A50_0p0_2 (ai A50_0p0_3 (ai A50_0p0_4 (ai A50_0p0_5 (ai X50_0 (ai X50_0t1 (ai T50_0t2 (ai X50_0t2 (ai A50_0_0 (ai A50_0_1 (ai A50_0_2 (ai A50_0_3 (ai A50_0_4 (ai A50_0_5 (ai T50_1p0 (ai X50_1 (ai X50_1t1 (ai X50_1t2 (ai T50_1t3 (ai X50_1t3 (ai T50_2 (ai T50_3 (ai T50_4p0 (ai X50_4 (ai X50_4t1 (ai X50_4t2 (ai X50_4t3 (ai T50_4t4 (ai X50_4t4 (ai T50_5 (ai T50_6 (ai T50_7 (ai T50_8 (ai T50_9 (ai T50_10 (ai T50_11 (ai T50_12 (ai T50_13 (ai T50_14 (ai T50_15 (ai T50_16 (ai T50_17 (T50_18))))))))))))))))))))))))))))))))))))))))))))
def a_f51:=ai T51_0 (ai s_f51_r0_kT (ai s_f51_r0_kA0 (T51_1)))
def a_f52:=ai X52_0 (ai X52_0t1 (ai T52_0t2 (ai X52_0t2 (ai A52_0_0 (ai A52_0_1 (ai A52_0_2 (ai A52_0_3 (ai A52_0_4 (ai A52_0_5 (ai T52_1 (ai T52_2p0 (ai X52_2 (ai X52_2t1 (ai X52_2t2 (ai X52_2t3 (ai X52_2t4 (ai X52_2t5 (ai X52_2t6 (ai T52_2t7 (X52_2t7))))))))))))))))))))
def a_f53:=ai T53_0 (ai s_f53_r0_kT (ai s_f53_r0_kA0 (ai s_f53_r0_kA1 (ai T53_1p0 (ai X53_1 (ai X53_1t1 (ai T53_1t2 (X53_1t2))))))))
def a_f54:=ai X54_0 (ai T54_0t1 (ai X54_0t1 (ai A54_0_0 (ai A54_0_1 (ai A54_0_2 (T54_1))))))
theorem NA2_23:compK Try.prog PX0 23=some (false,s_f23.ntmps,s_f23.results,s_f23.body.bare):=by kernel_rfl
theorem NA2_30:compK Try.prog PX0 30=some (false,s_f30.ntmps,s_f30.results,s_f30.body.bare):=by kernel_rfl
theorem NA2_39:compK Try.prog PX0 39=some (false,s_f39.ntmps,s_f39.results,s_f39.body.bare):=by kernel_rfl
theorem NA2_40:compK Try.prog PX0 40=some (false,s_f40.ntmps,s_f40.results,s_f40.body.bare):=by kernel_rfl
theorem NA2_41:compK Try.prog PX0 41=some (false,s_f41.ntmps,s_f41.results,s_f41.body.bare):=by kernel_rfl
theorem NA2_42:compK Try.prog PX0 42=some (false,s_f42.ntmps,s_f42.results,s_f42.body.bare):=by kernel_rfl
theorem NA2_43:compK Try.prog PX0 43=some (false,s_f43.ntmps,s_f43.results,s_f43.body.bare):=by kernel_rfl
theorem NA2_44:compK Try.prog PX0 44=some (false,s_f44.ntmps,s_f44.results,s_f44.body.bare):=by kernel_rfl
theorem NA2_45:compK Try.prog PX0 45=some (false,s_f45.ntmps,s_f45.results,s_f45.body.bare):=by kernel_rfl
theorem NA2_46:compK Try.prog PX0 46=some (false,s_f46.ntmps,s_f46.results,s_f46.body.bare):=by kernel_rfl
theorem NA2_47:compK Try.prog PX0 47=some (false,s_f47.ntmps,s_f47.results,s_f47.body.bare):=by kernel_rfl
theorem NA2_48:compK Try.prog PX0 48=some (false,s_f48.ntmps,s_f48.results,s_f48.body.bare):=by kernel_rfl
theorem NA2_49:compK Try.prog PX0 49=some (false,s_f49.ntmps,s_f49.results,s_f49.body.bare):=by kernel_rfl
theorem NA2_50:compK Try.prog PX0 50=some (false,s_f50.ntmps,s_f50.results,s_f50.body.bare):=by kernel_rfl
theorem NA2_51:compK Try.prog PX0 51=some (false,s_f51.ntmps,s_f51.results,s_f51.body.bare):=by kernel_rfl
theorem NA2_52:compK Try.prog PX0 52=some (false,s_f52.ntmps,s_f52.results,s_f52.body.bare):=by kernel_rfl
theorem NA2_53:compK Try.prog PX0 53=some (false,s_f53.ntmps,s_f53.results,s_f53.body.bare):=by kernel_rfl
theorem NA2_54:compK Try.prog PX0 54=some (false,s_f54.ntmps,s_f54.results,s_f54.body.bare):=by kernel_rfl
end Go.Proofs.YtamlbkalopefgaaR
