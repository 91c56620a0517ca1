/- Texts of the proof: NmS6, NamL3, NamL1, NamL4, NamL5. -/
import Derived.Test.YtamlbkalopefgaaRP0
import Derived.Test.YtamlbkalopefgaaRP1
import Derived.Test.YtamlbkalopefgaaRP2
import Derived.Test.YtamlbkalopefgaaRP3
import Derived.Test.YtamlbkalopefgaaRP4
import Derived.Test.YtamlbkalopefgaaRP5
set_option linter.all false
set_option maxRecDepth 100000
namespace Go.Proofs.YtamlbkalopefgaaR
open Go.AM
abbrev k_f6:Nat:=6
def K6_0:List Nat:=[0] ++ List.range' 2 35
def A6_0_0:=hQ K6_0 0
def A6_0_1:=hK K6_0 1
def A6_0_2:=hQ K6_0 2
def R6_0t1:LO:=[⟨some 2,.move (.c (.s (.bool false))),none⟩]
def R6_0:LO:=⟨some 1,.box (.t 0),none⟩ :: R6_0t1
def X6_0:=hP R6_0 R6_0t1 [0,2,3,4,5,6,7,8,9,10,11,12,13,14,15,16,17,18,19,20,21,22,23,24,25,26,27,28,29,30,31,32,33,34,35,36] K6_0 ⟨some 1,.box (.t 0),none⟩
def T6_0t1:=hT R6_0t1 K6_0 [] 3 [] [] [.cc (.s (.bool false))]
def X6_0t1:=hL R6_0t1 K6_0 []
def R6_1t5:LO:=[⟨some 12,.pick (.t 9) (.c (.s (.bool true))) (.t 11),none⟩]
def R6_1t4:LO:=⟨some 11,.call (.c (.fn 18 [] [])) [.t 10],some (9,false)⟩ :: R6_1t5
def R6_1t3:LO:=⟨some 10,.load true 1 (.t 1),some (9,false)⟩ :: R6_1t4
def R6_1p2:LO:=[oM 9 8]
def R6_1t2:LO:=R6_1p2 ++ R6_1t3
def R6_1t1:LO:=⟨some 8,.call (.c (.fn 10 [] [])) [.t 7],none⟩ :: R6_1t2
def R6_1p0:LO:=[⟨some 7,.load true 1 (.t 1),none⟩]
def R6_1:LO:=R6_1p0 ++ R6_1t1
def T6_1p0:=hT R6_1p0 [] [7] 8 [] [(7,.op (.load true 1 (.t 0)) [.t 1])] [sb []]
def X6_1:=hS R6_1 R6_1p0 R6_1t1 [] [7] [7,8,9,10,11]
def X6_1t1:=hP R6_1t1 R6_1t2 [7] [7,8,9,10,11] ⟨some 8,.call (.c (.fn 10 [] [])) [.t 7],none⟩
def T6_1p2:=hT R6_1p2 [8] [9] 10 [] [(9,.t 8)] [.tt 8]
def X6_1t2:=hS R6_1t2 R6_1p2 R6_1t3 [8] [9] [7,8,9,10,11]
def X6_1t3:=hP R6_1t3 R6_1t4 [] [7,8,9,10,11] ⟨some 10,.load true 1 (.t 1),some (9,false)⟩
def X6_1t4:=hP R6_1t4 R6_1t5 [10] [7,8,9,10,11] ⟨some 11,.call (.c (.fn 18 [] [])) [.t 10],some (9,false)⟩
def T6_1t5:=hT R6_1t5 [7,8,9,10,11] [12] 13 [] [(12,.pick (.t 9) (.c (.s (.bool true))) (.t 11))] [sb []]
def X6_1t5:=hL R6_1t5 [7,8,9,10,11] [12]
def R6_2:LO:=[⟨some 2,.move (.c (.s (.bool true))),none⟩]
def T6_2:=hT R6_2 [1,12] [2] 3 [] [(2,.c (.s (.bool true)))] [.cc (.s (.bool true))]
def R6_3t5:LO:=[oM 4 17]
def R6_3t4:LO:=⟨none,.store 3 (.t 3) (.t 16),none⟩ :: R6_3t5
def R6_3t3:LO:=⟨some 3,.alloc [.s (.int .i64 0),.s (.int .i64 0),.s (.int .i64 0)],none⟩ :: R6_3t4
def R6_3p2:LO:=[oM 13 15,⟨some 16,.extract (.t 13) 0,none⟩,⟨some 17,.extract (.t 13) 1,none⟩]
def R6_3t2:LO:=R6_3p2 ++ R6_3t3
def R6_3t1:LO:=⟨some 15,.call (.c (.fn 12 [] [])) [.t 14,.c (.s (.int .u8 2))],none⟩ :: R6_3t2
def R6_3p0:LO:=[⟨some 14,.load true 1 (.t 1),none⟩]
def R6_3:LO:=R6_3p0 ++ R6_3t1
def T6_3p0:=hT R6_3p0 [12] [14] 15 [] [(14,.op (.load true 1 (.t 0)) [.t 1])] [sb []]
def X6_3:=hS R6_3 R6_3p0 R6_3t1 [12] [14] [3,12,13,14,15,16,17]
def X6_3t1:=hP R6_3t1 R6_3t2 [14] [3,12,13,14,15,16,17] ⟨some 15,.call (.c (.fn 12 [] [])) [.t 14,.c (.s (.int .u8 2))],none⟩
def T6_3p2:=hT R6_3p2 [13,15] [16,17] 18 [] [(16,.op (.extract (.t 0) 0) [.t 15]),(17,.op (.extract (.t 0) 1) [.t 15])] [.tt 15,sb [],.sub 1 [] []]
def X6_3t2:=hS R6_3t2 R6_3p2 R6_3t3 [13,15] [16,17] [3,12,13,14,15,16,17]
def X6_3t3:=hP R6_3t3 R6_3t4 [] [3,12,13,14,15,16,17] ⟨some 3,.alloc [.s (.int .i64 0),.s (.int .i64 0),.s (.int .i64 0)],none⟩
def X6_3t4:=hP R6_3t4 R6_3t5 [3,16] [3,12,13,14,15,16,17] ⟨none,.store 3 (.t 3) (.t 16),none⟩
def T6_3t5:=hT R6_3t5 [3,12,13,14,15,16,17] [4] 5 [] [(4,.t 17)] [.tt 17]
def X6_3t5:=hL R6_3t5 [3,12,13,14,15,16,17] [4]
def R6_4t5:LO:=[oM 6 22]
def R6_4t4:LO:=⟨none,.store 3 (.t 5) (.t 21),none⟩ :: R6_4t5
def R6_4t3:LO:=⟨some 5,.alloc [.s (.int .i64 0),.s (.int .i64 0),.s (.int .i64 0)],none⟩ :: R6_4t4
def R6_4p2:LO:=[oM 18 20,⟨some 21,.extract (.t 18) 0,none⟩,⟨some 22,.extract (.t 18) 1,none⟩]
def R6_4t2:LO:=R6_4p2 ++ R6_4t3
def R6_4t1:LO:=⟨some 20,.call (.c (.fn 12 [] [])) [.t 19,.c (.s (.int .u8 9))],none⟩ :: R6_4t2
def R6_4p0:LO:=[⟨some 19,.load true 1 (.t 1),none⟩]
def R6_4:LO:=R6_4p0 ++ R6_4t1
def T6_4p0:=hT R6_4p0 [] [19] 20 [] [(19,.op (.load true 1 (.t 0)) [.t 1])] [sb []]
def X6_4:=hS R6_4 R6_4p0 R6_4t1 [] [19] [5,18,19,20,21,22]
def X6_4t1:=hP R6_4t1 R6_4t2 [19] [5,18,19,20,21,22] ⟨some 20,.call (.c (.fn 12 [] [])) [.t 19,.c (.s (.int .u8 9))],none⟩
def T6_4p2:=hT R6_4p2 [18,20] [21,22] 23 [] [(21,.op (.extract (.t 0) 0) [.t 20]),(22,.op (.extract (.t 0) 1) [.t 20])] [.tt 20,sb [],.sub 1 [] []]
def X6_4t2:=hS R6_4t2 R6_4p2 R6_4t3 [18,20] [21,22] [5,18,19,20,21,22]
def X6_4t3:=hP R6_4t3 R6_4t4 [] [5,18,19,20,21,22] ⟨some 5,.alloc [.s (.int .i64 0),.s (.int .i64 0),.s (.int .i64 0)],none⟩
def X6_4t4:=hP R6_4t4 R6_4t5 [5,21] [5,18,19,20,21,22] ⟨none,.store 3 (.t 5) (.t 21),none⟩
def T6_4t5:=hT R6_4t5 [5,18,19,20,21,22] [6] 7 [] [(6,.t 22)] [.tt 22]
def X6_4t5:=hL R6_4t5 [5,18,19,20,21,22] [6]
def R6_5:LO:=[oM 23 4,oM 24 23,gM 25 6 24 false,⟨some 26,.pick (.t 24) (.c (.s (.bool true))) (.t 25),none⟩]
def T6_5:=hT R6_5 [4,6,23,24,25] [26] 27 [] [(26,.pick (.t 4) (.c (.s (.bool true))) (.t 6))] [.tt 4,.tt 4,.sub 0 [2] [24],sb []]
def R6_6t1:LO:=[oM 2 27]
def R6_6:LO:=⟨some 27,.call (.c (.fn 9 [] [])) [],none⟩ :: R6_6t1
def X6_6:=hP R6_6 R6_6t1 [1,26] [1,26,27] ⟨some 27,.call (.c (.fn 9 [] [])) [],none⟩
def T6_6t1:=hT R6_6t1 [1,26,27] [2] 3 [] [(2,.t 27)] [.tt 27]
def X6_6t1:=hL R6_6t1 [1,26,27] [2]
def R6_7t7:LO:=[⟨some 36,.pick (.t 34) (.t 35) (.c (.s (.bool false))),none⟩,oM 2 36]
def R6_7t6:LO:=⟨some 35,.call (.c (.fn 9 [] [])) [],some (34,true)⟩ :: R6_7t7
def R6_7p5:LO:=[⟨some 33,.eqAgg false [.int .u8,.int .i64,.int .i64,.int .i64] (.t 30) (.t 32),none⟩,oM 34 33]
def R6_7t5:LO:=R6_7p5 ++ R6_7t6
def R6_7t4:LO:=⟨some 32,.call (.c (.fn 11 [] [])) [.t 31],none⟩ :: R6_7t5
def R6_7p3:LO:=[⟨some 31,.load true 1 (.t 1),none⟩]
def R6_7t3:LO:=R6_7p3 ++ R6_7t4
def R6_7t2:LO:=⟨some 30,.callR (.c (.fn 11 [] [])) [.t 29],none⟩ :: R6_7t3
def R6_7t1:LO:=⟨some 29,.callR (.c (.fn 19 [] [])) [.t 28],none⟩ :: R6_7t2
def R6_7p0:LO:=[⟨some 28,.load true 1 (.t 1),none⟩]
def R6_7:LO:=R6_7p0 ++ R6_7t1
def T6_7p0:=hT R6_7p0 [26] [28] 29 [] [(28,.op (.load true 1 (.t 0)) [.t 1])] [sb []]
def X6_7:=hS R6_7 R6_7p0 R6_7t1 [26] [28] [1,26,28,29,30,31,32,33,34,35,36]
def X6_7t1:=hP R6_7t1 R6_7t2 [28] [1,26,28,29,30,31,32,33,34,35,36] ⟨some 29,.callR (.c (.fn 19 [] [])) [.t 28],none⟩
def X6_7t2:=hP R6_7t2 R6_7t3 [29] [1,26,28,29,30,31,32,33,34,35,36] ⟨some 30,.callR (.c (.fn 11 [] [])) [.t 29],none⟩
def T6_7p3:=hT R6_7p3 [1] [31] 32 [] [(31,.op (.load true 1 (.t 0)) [.t 1])] [sb []]
def X6_7t3:=hS R6_7t3 R6_7p3 R6_7t4 [1] [31] [1,26,28,29,30,31,32,33,34,35,36]
def X6_7t4:=hP R6_7t4 R6_7t5 [31] [1,26,28,29,30,31,32,33,34,35,36] ⟨some 32,.call (.c (.fn 11 [] [])) [.t 31],none⟩
def T6_7p5:=hT R6_7p5 [30,32,33] [34] 35 [] [(34,.op (.eqAgg false [.int .u8,.int .i64,.int .i64,.int .i64] (.t 0) (.t 1)) [.t 30,.t 32])] [sb [],sb []]
def X6_7t5:=hS R6_7t5 R6_7p5 R6_7t6 [30,32,33] [34] [1,26,28,29,30,31,32,33,34,35,36]
def X6_7t6:=hP R6_7t6 R6_7t7 [] [1,26,28,29,30,31,32,33,34,35,36] ⟨some 35,.call (.c (.fn 9 [] [])) [],some (34,true)⟩
def T6_7t7:=hT R6_7t7 [1,26,28,29,30,31,32,33,34,35,36] [2] 37 [] [(2,.pick (.t 34) (.t 35) (.c (.s (.bool false))))] [sb [],sb []]
def X6_7t7:=hL R6_7t7 [1,26,28,29,30,31,32,33,34,35,36] [2]
def s_f6:ACFun:={ ntmps:=37,results:=[.tmp 2],body:=
 (.seq (.region R6_0 [] K6_0)
 (.seq (.seq (.region R6_1 [] [7,8,9,10,11])
 (.cond (.t 12)
 (.seq (.regionE R6_2 [1,12] [2])
 .ret)
 .skip))
 (.seq (.region R6_3 [] [3,12,13,14,15,16,17])
 (.seq (.region R6_4 [] [5,18,19,20,21,22])
 (.seq (.seq (.regionE R6_5 [4,6,23,24,25] [26])
 (.cond (.t 26)
 (.seq (.region R6_6 [] [1,26,27])
 .ret)
 .skip))
 (.seq (.region R6_7 [] [1,26,28,29,30,31,32,33,34,35,36])
 .ret)))))) }
theorem s_f6_first:firstOk (List.range' 1 (s_f6.ntmps - 1)) s_f6.body=true:=by kernel_rfl
abbrev k_f18:Nat:=18
def K18_0:List Nat:=[0] ++ List.range' 2 119
def A18_0_0:=hQ K18_0 0
def A18_0_1:=hK K18_0 1
def A18_0_2:=hQ K18_0 2
def R18_0t1:LO:=[⟨some 2,.move (.c (.s (.bool false))),none⟩]
def R18_0p0:LO:=[⟨some 1,.box (.t 0),none⟩]
def R18_0:LO:=R18_0p0 ++ R18_0t1
def K18_0p0:List Nat:=[0] ++ List.range' 2 119
def A18_0p0_0:=hQ K18_0p0 0
def A18_0p0_1:=hK K18_0p0 1
def A18_0p0_2:=hQ K18_0p0 2
theorem X18_0 (call:CallF) (it:IterF) (base:Nat) (f:List V) (H:Heap):evC call it base (.region R18_0 [] K18_0) f H=thenC call it base (.region R18_0t1 [] K18_0) (opsC [] R18_0p0 K18_0p0 (evOps call base [⟨some 1,.box (.t 0),none⟩] f H)):=(row_op call it base R18_0p0 R18_0t1 (kc:=K18_0p0) (by kernel_rfl) f H).trans (by rw [row_ops];rfl)
def T18_0t1:=hT R18_0t1 K18_0 [] 3 [] [] [.cc (.s (.bool false))]
def X18_0t1:=hL R18_0t1 K18_0 []
def R18_1:LO:=[⟨some 3,.move (.c (.s (.bool false))),none⟩]
def T18_1:=hT R18_1 [] [3] 4 [] [(3,.c (.s (.bool false)))] [.cc (.s (.bool false))]
def R18_2:LO:=[⟨some 4,.move (.c (.s (.int .i64 0))),none⟩]
def T18_2:=hT R18_2 [] [4] 5 [] [(4,.c (.s (.int .i64 0)))] [.cc (.s (.int .i64 0))]
def R18_3:LO:=[oM 10 4,oF 11 0 1,oL 12 11,⟨some 13,.lenS .s (.t 12),none⟩,⟨some 14,.bin .lss (.t 10) (.t 13),none⟩]
def T18_3:=hT R18_3 [10,11,12,13] [14] 15 [] [(14,.op (.bin .lss (.t 0) (.t 1)) [.t 4,.op (.lenS .s (.t 0)) [.op (.load false 1 (.t 0)) [.op (.fieldAddr 0 (.t 0)) [.t 1]]]])] [.tt 4,sb [1,0,0],sb [1,0],sb [1],sb []]
def R18_4:LO:=[⟨some 5,.move (.c (.s (.int .i64 0))),none⟩]
def T18_4:=hT R18_4 [14] [5] 6 [] [(5,.c (.s (.int .i64 0)))] [.cc (.s (.int .i64 0))]
def R18_5:LO:=[oM 17 5,oF 18 0 1,oL 19 18,oM 20 4,⟨some 21,.indexAddr 3 (.t 19) (.t 20),none⟩,oF 22 1 21,oL 23 22,⟨some 24,.lenS .s (.t 23),none⟩,⟨some 25,.bin .lss (.t 17) (.t 24),none⟩]
def T18_5:=hT R18_5 [17,18,19,20,21,22,23,24] [25] 26 [] [(25,.op (.bin .lss (.t 0) (.t 1)) [.t 5,.op (.lenS .s (.t 0)) [.op (.load false 1 (.t 0)) [.op (.fieldAddr 1 (.t 0)) [.op (.indexAddr 3 (.t 0) (.t 1)) [.op (.load false 1 (.t 0)) [.op (.fieldAddr 0 (.t 0)) [.t 1]],.t 4]]]]])] [.tt 5,sb [1,0,0,0,0,0],sb [1,0,0,0,0],.tt 4,sb [1,0,0,0],sb [1,0,0],sb [1,0],sb [1],sb []]
def R18_6:LO:=[oM 28 3,oM 29 28,gF 30 0 1 29 false,gL 31 30 29 false,gM 32 4 29 false,⟨some 33,.indexAddr 3 (.t 31) (.t 32),some (29,false)⟩,gF 34 1 33 29 false,gL 35 34 29 false,gM 36 5 29 false,⟨some 37,.indexAddr 1 (.t 35) (.t 36),some (29,false)⟩,gL 38 37 29 false,⟨some 39,.lenS .p (.t 38),some (29,false)⟩,⟨some 40,.bin .gtr (.t 39) (.c (.s (.int .i64 60))),some (29,false)⟩,⟨some 41,.pick (.t 29) (.c (.s (.bool true))) (.t 40),none⟩,oM 3 41]
def T18_6:=hT R18_6 [25,28,29,30,31,32,33,34,35,36,37,38,39,40,41] [3] 42 [] [(3,.pick (.t 3) (.c (.s (.bool true))) (.op (.bin .gtr (.t 0) (.c (.s (.int .i64 60)))) [.op (.lenS .p (.t 0)) [.op (.load false 1 (.t 0)) [.op (.indexAddr 1 (.t 0) (.t 1)) [.op (.load false 1 (.t 0)) [.op (.fieldAddr 1 (.t 0)) [.op (.indexAddr 3 (.t 0) (.t 1)) [.op (.load false 1 (.t 0)) [.op (.fieldAddr 0 (.t 0)) [.t 1]],.t 4]]],.t 5]]],.c (.s (.int .i64 60))]))] [.tt 3,.tt 3,.sub 0 [2,0,0,0,0,0,0,0,0] [29],.sub 0 [2,0,0,0,0,0,0,0] [29],.sub 0 [2,0,0,0,0,0,0,1] [29],.sub 0 [2,0,0,0,0,0,0] [29],.sub 0 [2,0,0,0,0,0] [29],.sub 0 [2,0,0,0,0] [29],.sub 0 [2,0,0,0,1] [29],.sub 0 [2,0,0,0] [29],.sub 0 [2,0,0] [29],.sub 0 [2,0] [29],.sub 0 [2] [29],sb [],sb []]
def R18_7:LO:=[oM 26 5,⟨some 27,.bin .add (.t 26) (.c (.s (.int .i64 1))),none⟩,oM 5 27]
def T18_7:=hT R18_7 [26,27] [5] 28 [] [(5,.op (.bin .add (.t 0) (.c (.s (.int .i64 1)))) [.t 5,.c (.s (.int .i64 1))])] [.tt 5,sb [],sb []]
def s_f18_l0_b:ACode:=
 (.seq (.seq (.regionE R18_5 [17,18,19,20,21,22,23,24] [25])
 (.cond (.t 25)
 .skip
 (.exit 2)))
 (.seq (.block 3
 (.regionE R18_6 [25,28,29,30,31,32,33,34,35,36,37,38,39,40,41] [3]))
 (.regionE R18_7 [26,27] [5])))
def s_f18_l0:ACode:=s_f18_l0_b
def s_f18_l0_ev:=hE s_f18_l0 s_f18_l0_b
def R18_8:LO:=[⟨some 6,.move (.c (.s (.int .i64 0))),none⟩]
def T18_8:=hT R18_8 [5,25] [6] 7 [] [(6,.c (.s (.int .i64 0)))] [.cc (.s (.int .i64 0))]
def R18_9:LO:=[oM 42 6,oF 43 0 1,oL 44 43,oM 45 4,⟨some 46,.indexAddr 3 (.t 44) (.t 45),none⟩,oF 47 2 46,oL 48 47,⟨some 49,.lenS .s (.t 48),none⟩,⟨some 50,.bin .lss (.t 42) (.t 49),none⟩]
def T18_9:=hT R18_9 [42,43,44,45,46,47,48,49] [50] 51 [] [(50,.op (.bin .lss (.t 0) (.t 1)) [.t 6,.op (.lenS .s (.t 0)) [.op (.load false 1 (.t 0)) [.op (.fieldAddr 2 (.t 0)) [.op (.indexAddr 3 (.t 0) (.t 1)) [.op (.load false 1 (.t 0)) [.op (.fieldAddr 0 (.t 0)) [.t 1]],.t 4]]]]])] [.tt 6,sb [1,0,0,0,0,0],sb [1,0,0,0,0],.tt 4,sb [1,0,0,0],sb [1,0,0],sb [1,0],sb [1],sb []]
def R18_10:LO:=[oF 53 0 1,oL 54 53,oM 55 4,⟨some 56,.indexAddr 3 (.t 54) (.t 55),none⟩,oF 57 2 56,oL 58 57,oM 59 6,⟨some 60,.indexAddr 2 (.t 58) (.t 59),none⟩,oF 61 1 60,oL 62 61,oM 7 62]
def T18_10:=hT R18_10 [50,53,54,55,56,57,58,59,60,61,62] [7] 63 [] [(7,.op (.load false 1 (.t 0)) [.op (.fieldAddr 1 (.t 0)) [.op (.indexAddr 2 (.t 0) (.t 1)) [.op (.load false 1 (.t 0)) [.op (.fieldAddr 2 (.t 0)) [.op (.indexAddr 3 (.t 0) (.t 1)) [.op (.load false 1 (.t 0)) [.op (.fieldAddr 0 (.t 0)) [.t 1]],.t 4]]],.t 6]]])] [sb [0,0,0,0,0,0,0],sb [0,0,0,0,0,0],.tt 4,sb [0,0,0,0,0],sb [0,0,0,0],sb [0,0,0],.tt 6,sb [0,0],sb [0],sb [],sb []]
def R18_11:LO:=[⟨some 8,.move (.c (.s (.int .i64 0))),none⟩]
def T18_11:=hT R18_11 [] [8] 9 [] [(8,.c (.s (.int .i64 0)))] [.cc (.s (.int .i64 0))]
def R18_12:LO:=[oM 63 8,oM 64 7,⟨some 65,.lenS .s (.t 64),none⟩,⟨some 66,.bin .lss (.t 63) (.t 65),none⟩]
def T18_12:=hT R18_12 [63,64,65] [66] 67 [] [(66,.op (.bin .lss (.t 0) (.t 1)) [.t 8,.op (.lenS .s (.t 0)) [.t 7]])] [.tt 8,.tt 7,sb [1],sb []]
def R18_13:LO:=[oM 69 3,oM 70 69,gM 71 7 70 false,gM 72 8 70 false,⟨some 73,.indexAddr 8 (.t 71) (.t 72),some (70,false)⟩,gF 74 1 73 70 false,gL 75 74 70 false,⟨some 76,.lenS .p (.t 75),some (70,false)⟩,⟨some 77,.bin .gtr (.t 76) (.c (.s (.int .i64 60))),some (70,false)⟩,⟨some 78,.pick (.t 70) (.c (.s (.bool true))) (.t 77),none⟩,oM 79 78,gM 80 7 79 false,gM 81 8 79 false,⟨some 82,.indexAddr 8 (.t 80) (.t 81),some (79,false)⟩,gF 83 2 82 79 false,gL 84 83 79 false,⟨some 85,.lenS .p (.t 84),some (79,false)⟩,⟨some 86,.bin .gtr (.t 85) (.c (.s (.int .i64 60))),some (79,false)⟩,⟨some 87,.pick (.t 79) (.c (.s (.bool true))) (.t 86),none⟩,oM 88 87,gM 89 7 88 false,gM 90 8 88 false,⟨some 91,.indexAddr 8 (.t 89) (.t 90),some (88,false)⟩,gF 92 3 91 88 false,gL 93 92 88 false,⟨some 94,.lenS .p (.t 93),some (88,false)⟩,⟨some 95,.bin .gtr (.t 94) (.c (.s (.int .i64 60))),some (88,false)⟩,⟨some 96,.pick (.t 88) (.c (.s (.bool true))) (.t 95),none⟩,oM 3 96]
def T18_13:=hT R18_13 [66,69,70,71,72,73,74,75,76,77,78,79,80,81,82,83,84,85,86,87,88,89,90,91,92,93,94,95,96] [3] 97 [] [(3,.pick (.pick (.pick (.t 3) (.c (.s (.bool true))) (.op (.bin .gtr (.t 0) (.c (.s (.int .i64 60)))) [.op (.lenS .p (.t 0)) [.op (.load false 1 (.t 0)) [.op (.fieldAddr 1 (.t 0)) [.op (.indexAddr 8 (.t 0) (.t 1)) [.t 7,.t 8]]]],.c (.s (.int .i64 60))])) (.c (.s (.bool true))) (.op (.bin .gtr (.t 0) (.c (.s (.int .i64 60)))) [.op (.lenS .p (.t 0)) [.op (.load false 1 (.t 0)) [.op (.fieldAddr 2 (.t 0)) [.op (.indexAddr 8 (.t 0) (.t 1)) [.t 7,.t 8]]]],.c (.s (.int .i64 60))])) (.c (.s (.bool true))) (.op (.bin .gtr (.t 0) (.c (.s (.int .i64 60)))) [.op (.lenS .p (.t 0)) [.op (.load false 1 (.t 0)) [.op (.fieldAddr 3 (.t 0)) [.op (.indexAddr 8 (.t 0) (.t 1)) [.t 7,.t 8]]]],.c (.s (.int .i64 60))]))] [.tt 3,.tt 3,.sub 0 [0,0,2,0,0,0,0,0] [70],.sub 0 [0,0,2,0,0,0,0,1] [70],.sub 0 [0,0,2,0,0,0,0] [70],.sub 0 [0,0,2,0,0,0] [70],.sub 0 [0,0,2,0,0] [70],.sub 0 [0,0,2,0] [70],.sub 0 [0,0,2] [70],sb [0,0],sb [0,0],.sub 0 [0,2,0,0,0,0,0] [79],.sub 0 [0,2,0,0,0,0,1] [79],.sub 0 [0,2,0,0,0,0] [79],.sub 0 [0,2,0,0,0] [79],.sub 0 [0,2,0,0] [79],.sub 0 [0,2,0] [79],.sub 0 [0,2] [79],sb [0],sb [0],.sub 0 [2,0,0,0,0,0] [88],.sub 0 [2,0,0,0,0,1] [88],.sub 0 [2,0,0,0,0] [88],.sub 0 [2,0,0,0] [88],.sub 0 [2,0,0] [88],.sub 0 [2,0] [88],.sub 0 [2] [88],sb [],sb []]
def R18_14:LO:=[⟨some 9,.move (.c (.s (.int .i64 0))),none⟩]
def T18_14:=hT R18_14 [] [9] 10 [] [(9,.c (.s (.int .i64 0)))] [.cc (.s (.int .i64 0))]
def R18_15:LO:=[oM 97 9,oM 98 7,oM 99 8,⟨some 100,.indexAddr 8 (.t 98) (.t 99),none⟩,oF 101 6 100,oL 102 101,⟨some 103,.lenS .s (.t 102),none⟩,⟨some 104,.bin .lss (.t 97) (.t 103),none⟩]
def T18_15:=hT R18_15 [97,98,99,100,101,102,103] [104] 105 [] [(104,.op (.bin .lss (.t 0) (.t 1)) [.t 9,.op (.lenS .s (.t 0)) [.op (.load false 1 (.t 0)) [.op (.fieldAddr 6 (.t 0)) [.op (.indexAddr 8 (.t 0) (.t 1)) [.t 7,.t 8]]]]])] [.tt 9,.tt 7,.tt 8,sb [1,0,0,0],sb [1,0,0],sb [1,0],sb [1],sb []]
def R18_16:LO:=[oM 107 3,oM 108 107,gM 109 7 108 false,gM 110 8 108 false,⟨some 111,.indexAddr 8 (.t 109) (.t 110),some (108,false)⟩,gF 112 6 111 108 false,gL 113 112 108 false,gM 114 9 108 false,⟨some 115,.indexAddr 1 (.t 113) (.t 114),some (108,false)⟩,gL 116 115 108 false,⟨some 117,.lenS .p (.t 116),some (108,false)⟩,⟨some 118,.bin .gtr (.t 117) (.c (.s (.int .i64 60))),some (108,false)⟩,⟨some 119,.pick (.t 108) (.c (.s (.bool true))) (.t 118),none⟩,oM 3 119]
def T18_16:=hT R18_16 [104,107,108,109,110,111,112,113,114,115,116,117,118,119] [3] 120 [] [(3,.pick (.t 3) (.c (.s (.bool true))) (.op (.bin .gtr (.t 0) (.c (.s (.int .i64 60)))) [.op (.lenS .p (.t 0)) [.op (.load false 1 (.t 0)) [.op (.indexAddr 1 (.t 0) (.t 1)) [.op (.load false 1 (.t 0)) [.op (.fieldAddr 6 (.t 0)) [.op (.indexAddr 8 (.t 0) (.t 1)) [.t 7,.t 8]]],.t 9]]],.c (.s (.int .i64 60))]))] [.tt 3,.tt 3,.sub 0 [2,0,0,0,0,0,0,0] [108],.sub 0 [2,0,0,0,0,0,0,1] [108],.sub 0 [2,0,0,0,0,0,0] [108],.sub 0 [2,0,0,0,0,0] [108],.sub 0 [2,0,0,0,0] [108],.sub 0 [2,0,0,0,1] [108],.sub 0 [2,0,0,0] [108],.sub 0 [2,0,0] [108],.sub 0 [2,0] [108],.sub 0 [2] [108],sb [],sb []]
def R18_17:LO:=[oM 105 9,⟨some 106,.bin .add (.t 105) (.c (.s (.int .i64 1))),none⟩,oM 9 106]
def T18_17:=hT R18_17 [105,106] [9] 107 [] [(9,.op (.bin .add (.t 0) (.c (.s (.int .i64 1)))) [.t 9,.c (.s (.int .i64 1))])] [.tt 9,sb [],sb []]
def s_f18_l1_b:ACode:=
 (.seq (.seq (.regionE R18_15 [97,98,99,100,101,102,103] [104])
 (.cond (.t 104)
 .skip
 (.exit 8)))
 (.seq (.block 9
 (.regionE R18_16 [104,107,108,109,110,111,112,113,114,115,116,117,118,119] [3]))
 (.regionE R18_17 [105,106] [9])))
def s_f18_l1:ACode:=s_f18_l1_b
def s_f18_l1_ev:=hE s_f18_l1 s_f18_l1_b
def R18_18:LO:=[oM 67 8,⟨some 68,.bin .add (.t 67) (.c (.s (.int .i64 1))),none⟩,oM 8 68]
def T18_18:=hT R18_18 [9,67,68,104] [8] 69 [] [(8,.op (.bin .add (.t 0) (.c (.s (.int .i64 1)))) [.t 8,.c (.s (.int .i64 1))])] [.tt 8,sb [],sb []]
def s_f18_l2_b:ACode:=
 (.seq (.seq (.regionE R18_12 [63,64,65] [66])
 (.cond (.t 66)
 .skip
 (.exit 6)))
 (.seq (.block 7
 (.seq (.regionE R18_13 [66,69,70,71,72,73,74,75,76,77,78,79,80,81,82,83,84,85,86,87,88,89,90,91,92,93,94,95,96] [3])
 (.seq (.regionE R18_14 [] [9])
 (.block 8
 (.loop [] s_f18_l1)))))
 (.regionE R18_18 [9,67,68,104] [8])))
def s_f18_l2:ACode:=s_f18_l2_b
def s_f18_l2_ev:=hE s_f18_l2 s_f18_l2_b
def R18_19:LO:=[oM 51 6,⟨some 52,.bin .add (.t 51) (.c (.s (.int .i64 1))),none⟩,oM 6 52]
def T18_19:=hT R18_19 [7,8,51,52,66] [6] 53 [] [(6,.op (.bin .add (.t 0) (.c (.s (.int .i64 1)))) [.t 6,.c (.s (.int .i64 1))])] [.tt 6,sb [],sb []]
def s_f18_l3_b:ACode:=
 (.seq (.seq (.regionE R18_9 [42,43,44,45,46,47,48,49] [50])
 (.cond (.t 50)
 .skip
 (.exit 4)))
 (.seq (.block 5
 (.seq (.regionE R18_10 [50,53,54,55,56,57,58,59,60,61,62] [7])
 (.seq (.regionE R18_11 [] [8])
 (.block 6
 (.loop [] s_f18_l2)))))
 (.regionE R18_19 [7,8,51,52,66] [6])))
def s_f18_l3:ACode:=s_f18_l3_b
def s_f18_l3_ev:=hE s_f18_l3 s_f18_l3_b
def R18_20:LO:=[oM 15 4,⟨some 16,.bin .add (.t 15) (.c (.s (.int .i64 1))),none⟩,oM 4 16]
def T18_20:=hT R18_20 [6,15,16,50] [4] 17 [] [(4,.op (.bin .add (.t 0) (.c (.s (.int .i64 1)))) [.t 4,.c (.s (.int .i64 1))])] [.tt 4,sb [],sb []]
def s_f18_l4_b:ACode:=
 (.seq (.seq (.regionE R18_3 [10,11,12,13] [14])
 (.cond (.t 14)
 .skip
 (.exit 0)))
 (.seq (.block 1
 (.seq (.seq (.regionE R18_4 [14] [5])
 (.block 2
 (.loop [] s_f18_l0)))
 (.seq (.regionE R18_8 [5,25] [6])
 (.block 4
 (.loop [] s_f18_l3)))))
 (.regionE R18_20 [6,15,16,50] [4])))
def s_f18_l4:ACode:=s_f18_l4_b
def s_f18_l4_ev:=hE s_f18_l4 s_f18_l4_b
def R18_21:LO:=[oM 120 3,oM 2 120]
def T18_21:=hT R18_21 [1,3,4,14,120] [2] 121 [] [(2,.t 3)] [.tt 3,.tt 3]
def s_f18:ACFun:={ ntmps:=121,results:=[.tmp 2],body:=
 (.seq (.region R18_0 [] K18_0)
 (.seq (.regionE R18_1 [] [3])
 (.seq (.seq (.regionE R18_2 [] [4])
 (.block 0
 (.loop [] s_f18_l4)))
 (.seq (.regionE R18_21 [1,3,4,14,120] [2])
 .ret)))) }
theorem s_f18_first:firstOk (List.range' 1 (s_f18.ntmps - 1)) s_f18.body=true:=by kernel_rfl
abbrev k_f19:Nat:=19
def K19_0:List Nat:=[0] ++ List.range' 3 179
def A19_0_0:=hQ K19_0 0
def A19_0_1:=hK K19_0 1
def A19_0_2:=hK K19_0 2
def R19_0t1:LO:=[⟨some 2,.alloc [.s (.slice none 0 0)],none⟩]
def R19_0p0:LO:=[⟨some 1,.box (.t 0),none⟩]
def R19_0:LO:=R19_0p0 ++ R19_0t1
def K19_0p0:List Nat:=[0] ++ List.range' 2 180
def A19_0p0_0:=hQ K19_0p0 0
def A19_0p0_1:=hK K19_0p0 1
def A19_0p0_2:=hQ K19_0p0 2
theorem X19_0 (call:CallF) (it:IterF) (base:Nat) (f:List V) (H:Heap):evC call it base (.region R19_0 [] K19_0) f H=thenC call it base (.region R19_0t1 [] K19_0) (opsC [] R19_0p0 K19_0p0 (evOps call base [⟨some 1,.box (.t 0),none⟩] f H)):=(row_op call it base R19_0p0 R19_0t1 (kc:=K19_0p0) (by kernel_rfl) f H).trans (by rw [row_ops];rfl)
def X19_0t1:=hX R19_0t1 K19_0 [⟨some 2,.alloc [.s (.slice none 0 0)],none⟩]
def R19_1:LO:=[⟨some 3,.move (.c (.fn 38 [] [])),none⟩]
def T19_1:=hT R19_1 [] [3] 4 [] [(3,.c (.fn 38 [] []))] [.cc (.fn 38 [] [])]
def R19_2:LO:=[⟨some 4,.alloc [.s (.slice none 0 0)],none⟩]
def X19_2:=hX R19_2 [] [⟨some 4,.alloc [.s (.slice none 0 0)],none⟩]
def R19_3:LO:=[⟨some 5,.move (.c (.s (.int .i64 0))),none⟩]
def T19_3:=hT R19_3 [] [5] 6 [] [(5,.c (.s (.int .i64 0)))] [.cc (.s (.int .i64 0))]
def R19_4:LO:=[oM 13 5,oF 14 0 1,oL 15 14,⟨some 16,.lenS .s (.t 15),none⟩,⟨some 17,.bin .lss (.t 13) (.t 16),none⟩]
def T19_4:=hT R19_4 [13,14,15,16] [17] 18 [] [(17,.op (.bin .lss (.t 0) (.t 1)) [.t 5,.op (.lenS .s (.t 0)) [.op (.load false 1 (.t 0)) [.op (.fieldAddr 0 (.t 0)) [.t 1]]]])] [.tt 5,sb [1,0,0],sb [1,0],sb [1],sb []]
def R19_5t2:LO:=[⟨none,.store 3 (.t 6) (.t 26),none⟩]
def R19_5t1:LO:=⟨some 6,.alloc [.s (.string ⟨#[]⟩),.s (.slice none 0 0),.s (.slice none 0 0)],none⟩ :: R19_5t2
def R19_5p0:LO:=[oF 20 0 1,oL 21 20,oM 22 5,⟨some 23,.indexAddr 3 (.t 21) (.t 22),none⟩,oF 24 0 23,oL 25 24,⟨some 26,.build [.s (.string ⟨#[]⟩),.s (.slice none 0 0),.s (.slice none 0 0)] [(0,1),(1,1),(2,1)] [(0,.t 25)],none⟩]
def R19_5:LO:=R19_5p0 ++ R19_5t1
def T19_5p0:=hT R19_5p0 [17,20,21,22,23,24,25] [26] 27 [] [(26,.op (.build [.s (.string ⟨#[]⟩),.s (.slice none 0 0),.s (.slice none 0 0)] [(0,1),(1,1),(2,1)] [(0,.t 0)]) [.op (.load false 1 (.t 0)) [.op (.fieldAddr 0 (.t 0)) [.op (.indexAddr 3 (.t 0) (.t 1)) [.op (.load false 1 (.t 0)) [.op (.fieldAddr 0 (.t 0)) [.t 1]],.t 5]]]])] [sb [0,0,0,0,0],sb [0,0,0,0],.tt 5,sb [0,0,0],sb [0,0],sb [0],sb []]
def X19_5:=hS R19_5 R19_5p0 R19_5t1 [17,20,21,22,23,24,25] [26] [17,20,21,22,23,24,25,26]
def X19_5t1:=hP R19_5t1 R19_5t2 [] [17,20,21,22,23,24,25,26] ⟨some 6,.alloc [.s (.string ⟨#[]⟩),.s (.slice none 0 0),.s (.slice none 0 0)],none⟩
def X19_5t2:=hX R19_5t2 [17,20,21,22,23,24,25,26] [⟨none,.store 3 (.t 6) (.t 26),none⟩]
def R19_6:LO:=[⟨some 7,.move (.c (.s (.int .i64 0))),none⟩]
def T19_6:=hT R19_6 [] [7] 8 [] [(7,.c (.s (.int .i64 0)))] [.cc (.s (.int .i64 0))]
def R19_7:LO:=[oM 27 7,oF 28 0 1,oL 29 28,oM 30 5,⟨some 31,.indexAddr 3 (.t 29) (.t 30),none⟩,oF 32 1 31,oL 33 32,⟨some 34,.lenS .s (.t 33),none⟩,⟨some 35,.bin .lss (.t 27) (.t 34),none⟩]
def T19_7:=hT R19_7 [27,28,29,30,31,32,33,34] [35] 36 [] [(35,.op (.bin .lss (.t 0) (.t 1)) [.t 7,.op (.lenS .s (.t 0)) [.op (.load false 1 (.t 0)) [.op (.fieldAddr 1 (.t 0)) [.op (.indexAddr 3 (.t 0) (.t 1)) [.op (.load false 1 (.t 0)) [.op (.fieldAddr 0 (.t 0)) [.t 1]],.t 5]]]]])] [.tt 7,sb [1,0,0,0,0,0],sb [1,0,0,0,0],.tt 5,sb [1,0,0,0],sb [1,0,0],sb [1,0],sb [1],sb []]
def R19_8t5:LO:=[⟨none,.store 1 (.t 53) (.t 52),none⟩]
def R19_8p4:LO:=[oF 53 1 6]
def R19_8t4:LO:=R19_8p4 ++ R19_8t5
def R19_8t3:LO:=⟨some 52,.append 1 16 (.t 39) (.t 51),none⟩ :: R19_8t4
def R19_8t2:LO:=⟨some 51,.buildSl 1 1 [.s (.string ⟨#[]⟩)] [(0,.t 50)],none⟩ :: R19_8t3
def R19_8t1:LO:=⟨some 50,.callR (.t 40) [.t 49],none⟩ :: R19_8t2
def R19_8p0:LO:=[oF 38 1 6,oL 39 38,oM 40 3,oF 41 0 1,oL 42 41,oM 43 5,⟨some 44,.indexAddr 3 (.t 42) (.t 43),none⟩,oF 45 1 44,oL 46 45,oM 47 7,⟨some 48,.indexAddr 1 (.t 46) (.t 47),none⟩,oL 49 48]
def R19_8:LO:=R19_8p0 ++ R19_8t1
def T19_8p0:=hT R19_8p0 [35,38,41,42,43,44,45,46,47,48] [39,40,49] 50 [] [(39,.op (.load false 1 (.t 0)) [.op (.fieldAddr 1 (.t 0)) [.t 6]]),(40,.t 3),(49,.op (.load false 1 (.t 0)) [.op (.indexAddr 1 (.t 0) (.t 1)) [.op (.load false 1 (.t 0)) [.op (.fieldAddr 1 (.t 0)) [.op (.indexAddr 3 (.t 0) (.t 1)) [.op (.load false 1 (.t 0)) [.op (.fieldAddr 0 (.t 0)) [.t 1]],.t 5]]],.t 7]])] [sb [0],sb [],.tt 3,.sub 2 [0,0,0,0,0,0] [],.sub 2 [0,0,0,0,0] [],.tt 5,.sub 2 [0,0,0,0] [],.sub 2 [0,0,0] [],.sub 2 [0,0] [],.tt 7,.sub 2 [0] [],.sub 2 [] []]
def X19_8:=hS R19_8 R19_8p0 R19_8t1 [35,38,41,42,43,44,45,46,47,48] [39,40,49] [35,38,39,40,41,42,43,44,45,46,47,48,49,50,51,52,53]
def X19_8t1:=hP R19_8t1 R19_8t2 [40,49] [35,38,39,40,41,42,43,44,45,46,47,48,49,50,51,52,53] ⟨some 50,.callR (.t 40) [.t 49],none⟩
def X19_8t2:=hP R19_8t2 R19_8t3 [50] [35,38,39,40,41,42,43,44,45,46,47,48,49,50,51,52,53] ⟨some 51,.buildSl 1 1 [.s (.string ⟨#[]⟩)] [(0,.t 50)],none⟩
def X19_8t3:=hP R19_8t3 R19_8t4 [39,51] [35,38,39,40,41,42,43,44,45,46,47,48,49,50,51,52,53] ⟨some 52,.append 1 16 (.t 39) (.t 51),none⟩
def T19_8p4:=hT R19_8p4 [] [53] 54 [] [(53,.op (.fieldAddr 1 (.t 0)) [.t 6])] [sb []]
def X19_8t4:=hS R19_8t4 R19_8p4 R19_8t5 [] [53] [35,38,39,40,41,42,43,44,45,46,47,48,49,50,51,52,53]
def X19_8t5:=hX R19_8t5 [35,38,39,40,41,42,43,44,45,46,47,48,49,50,51,52,53] [⟨none,.store 1 (.t 53) (.t 52),none⟩]
def R19_9:LO:=[oM 36 7,⟨some 37,.bin .add (.t 36) (.c (.s (.int .i64 1))),none⟩,oM 7 37]
def T19_9:=hT R19_9 [36,37] [7] 38 [] [(7,.op (.bin .add (.t 0) (.c (.s (.int .i64 1)))) [.t 7,.c (.s (.int .i64 1))])] [.tt 7,sb [],sb []]
def s_f19_l0_b:ACode:=
 (.seq (.seq (.regionE R19_7 [27,28,29,30,31,32,33,34] [35])
 (.cond (.t 35)
 .skip
 (.exit 2)))
 (.seq (.block 3
 (.region R19_8 [] [35,38,39,40,41,42,43,44,45,46,47,48,49,50,51,52,53]))
 (.regionE R19_9 [36,37] [7])))
def s_f19_l0:ACode:=s_f19_l0_b
def s_f19_l0_ev:=hE s_f19_l0 s_f19_l0_b
def R19_10:LO:=[⟨some 8,.move (.c (.s (.int .i64 0))),none⟩]
def T19_10:=hT R19_10 [7,35] [8] 9 [] [(8,.c (.s (.int .i64 0)))] [.cc (.s (.int .i64 0))]
def R19_11:LO:=[oM 54 8,oF 55 0 1,oL 56 55,oM 57 5,⟨some 58,.indexAddr 3 (.t 56) (.t 57),none⟩,oF 59 2 58,oL 60 59,⟨some 61,.lenS .s (.t 60),none⟩,⟨some 62,.bin .lss (.t 54) (.t 61),none⟩]
def T19_11:=hT R19_11 [54,55,56,57,58,59,60,61] [62] 63 [] [(62,.op (.bin .lss (.t 0) (.t 1)) [.t 8,.op (.lenS .s (.t 0)) [.op (.load false 1 (.t 0)) [.op (.fieldAddr 2 (.t 0)) [.op (.indexAddr 3 (.t 0) (.t 1)) [.op (.load false 1 (.t 0)) [.op (.fieldAddr 0 (.t 0)) [.t 1]],.t 5]]]]])] [.tt 8,sb [1,0,0,0,0,0],sb [1,0,0,0,0],.tt 5,sb [1,0,0,0],sb [1,0,0],sb [1,0],sb [1],sb []]
def R19_12t2:LO:=[⟨none,.store 2 (.t 9) (.t 75),none⟩]
def R19_12t1:LO:=⟨some 9,.alloc [.s (.string ⟨#[]⟩),.s (.slice none 0 0)],none⟩ :: R19_12t2
def R19_12p0:LO:=[oF 65 0 1,oL 66 65,oM 67 5,⟨some 68,.indexAddr 3 (.t 66) (.t 67),none⟩,oF 69 2 68,oL 70 69,oM 71 8,⟨some 72,.indexAddr 2 (.t 70) (.t 71),none⟩,oF 73 0 72,oL 74 73,⟨some 75,.build [.s (.string ⟨#[]⟩),.s (.slice none 0 0)] [(0,1),(1,1)] [(0,.t 74)],none⟩]
def R19_12:LO:=R19_12p0 ++ R19_12t1
def T19_12p0:=hT R19_12p0 [62,65,66,67,68,69,70,71,72,73,74] [75] 76 [] [(75,.op (.build [.s (.string ⟨#[]⟩),.s (.slice none 0 0)] [(0,1),(1,1)] [(0,.t 0)]) [.op (.load false 1 (.t 0)) [.op (.fieldAddr 0 (.t 0)) [.op (.indexAddr 2 (.t 0) (.t 1)) [.op (.load false 1 (.t 0)) [.op (.fieldAddr 2 (.t 0)) [.op (.indexAddr 3 (.t 0) (.t 1)) [.op (.load false 1 (.t 0)) [.op (.fieldAddr 0 (.t 0)) [.t 1]],.t 5]]],.t 8]]]])] [sb [0,0,0,0,0,0,0,0],sb [0,0,0,0,0,0,0],.tt 5,sb [0,0,0,0,0,0],sb [0,0,0,0,0],sb [0,0,0,0],.tt 8,sb [0,0,0],sb [0,0],sb [0],sb []]
def X19_12:=hS R19_12 R19_12p0 R19_12t1 [62,65,66,67,68,69,70,71,72,73,74] [75] [62,65,66,67,68,69,70,71,72,73,74,75]
def X19_12t1:=hP R19_12t1 R19_12t2 [] [62,65,66,67,68,69,70,71,72,73,74,75] ⟨some 9,.alloc [.s (.string ⟨#[]⟩),.s (.slice none 0 0)],none⟩
def X19_12t2:=hX R19_12t2 [62,65,66,67,68,69,70,71,72,73,74,75] [⟨none,.store 2 (.t 9) (.t 75),none⟩]
def R19_13:LO:=[⟨some 10,.move (.c (.s (.int .i64 0))),none⟩]
def T19_13:=hT R19_13 [] [10] 11 [] [(10,.c (.s (.int .i64 0)))] [.cc (.s (.int .i64 0))]
def R19_14:LO:=[oM 76 10,oF 77 0 1,oL 78 77,oM 79 5,⟨some 80,.indexAddr 3 (.t 78) (.t 79),none⟩,oF 81 2 80,oL 82 81,oM 83 8,⟨some 84,.indexAddr 2 (.t 82) (.t 83),none⟩,oF 85 1 84,oL 86 85,⟨some 87,.lenS .s (.t 86),none⟩,⟨some 88,.bin .lss (.t 76) (.t 87),none⟩]
def T19_14:=hT R19_14 [76,77,78,79,80,81,82,83,84,85,86,87] [88] 89 [] [(88,.op (.bin .lss (.t 0) (.t 1)) [.t 10,.op (.lenS .s (.t 0)) [.op (.load false 1 (.t 0)) [.op (.fieldAddr 1 (.t 0)) [.op (.indexAddr 2 (.t 0) (.t 1)) [.op (.load false 1 (.t 0)) [.op (.fieldAddr 2 (.t 0)) [.op (.indexAddr 3 (.t 0) (.t 1)) [.op (.load false 1 (.t 0)) [.op (.fieldAddr 0 (.t 0)) [.t 1]],.t 5]]],.t 8]]]]])] [.tt 10,sb [1,0,0,0,0,0,0,0,0],sb [1,0,0,0,0,0,0,0],.tt 5,sb [1,0,0,0,0,0,0],sb [1,0,0,0,0,0],sb [1,0,0,0,0],.tt 8,sb [1,0,0,0],sb [1,0,0],sb [1,0],sb [1],sb []]
def R19_15t2:LO:=[⟨none,.store 8 (.t 11) (.t 103),none⟩]
def R19_15t1:LO:=⟨some 11,.alloc [.s (.int .u8 0),.s (.string ⟨#[]⟩),.s (.string ⟨#[]⟩),.s (.string ⟨#[]⟩),.s (.int .i64 0),.s (.string ⟨#[]⟩),.s (.slice none 0 0),.s (.slice none 0 0)],none⟩ :: R19_15t2
def R19_15p0:LO:=[oF 91 0 1,oL 92 91,oM 93 5,⟨some 94,.indexAddr 3 (.t 92) (.t 93),none⟩,oF 95 2 94,oL 96 95,oM 97 8,⟨some 98,.indexAddr 2 (.t 96) (.t 97),none⟩,oF 99 1 98,oL 100 99,oM 101 10,⟨some 102,.indexAddr 8 (.t 100) (.t 101),none⟩,⟨some 103,.load true 8 (.t 102),none⟩]
def R19_15:LO:=R19_15p0 ++ R19_15t1
def T19_15p0:=hT R19_15p0 [88,91,92,93,94,95,96,97,98,99,100,101,102] [103] 104 [] [(103,.op (.load true 8 (.t 0)) [.op (.indexAddr 8 (.t 0) (.t 1)) [.op (.load false 1 (.t 0)) [.op (.fieldAddr 1 (.t 0)) [.op (.indexAddr 2 (.t 0) (.t 1)) [.op (.load false 1 (.t 0)) [.op (.fieldAddr 2 (.t 0)) [.op (.indexAddr 3 (.t 0) (.t 1)) [.op (.load false 1 (.t 0)) [.op (.fieldAddr 0 (.t 0)) [.t 1]],.t 5]]],.t 8]]],.t 10]])] [sb [0,0,0,0,0,0,0,0,0],sb [0,0,0,0,0,0,0,0],.tt 5,sb [0,0,0,0,0,0,0],sb [0,0,0,0,0,0],sb [0,0,0,0,0],.tt 8,sb [0,0,0,0],sb [0,0,0],sb [0,0],.tt 10,sb [0],sb []]
def X19_15:=hS R19_15 R19_15p0 R19_15t1 [88,91,92,93,94,95,96,97,98,99,100,101,102] [103] [88,91,92,93,94,95,96,97,98,99,100,101,102,103]
def X19_15t1:=hP R19_15t1 R19_15t2 [] [88,91,92,93,94,95,96,97,98,99,100,101,102,103] ⟨some 11,.alloc [.s (.int .u8 0),.s (.string ⟨#[]⟩),.s (.string ⟨#[]⟩),.s (.string ⟨#[]⟩),.s (.int .i64 0),.s (.string ⟨#[]⟩),.s (.slice none 0 0),.s (.slice none 0 0)],none⟩
def X19_15t2:=hX R19_15t2 [88,91,92,93,94,95,96,97,98,99,100,101,102,103] [⟨none,.store 8 (.t 11) (.t 103),none⟩]
def R19_16t3:LO:=[⟨none,.store 1 (.t 108) (.t 107),none⟩]
def R19_16p2:LO:=[oF 108 1 11]
def R19_16t2:LO:=R19_16p2 ++ R19_16t3
def R19_16t1:LO:=⟨some 107,.call (.t 104) [.t 106],none⟩ :: R19_16t2
def R19_16p0:LO:=[oM 104 3,oF 105 1 11,oL 106 105]
def R19_16:LO:=R19_16p0 ++ R19_16t1
def T19_16p0:=hT R19_16p0 [105] [104,106] 107 [] [(104,.t 3),(106,.op (.load false 1 (.t 0)) [.op (.fieldAddr 1 (.t 0)) [.t 11]])] [.tt 3,.sub 1 [0] [],.sub 1 [] []]
def X19_16:=hS R19_16 R19_16p0 R19_16t1 [105] [104,106] [104,105,106,107,108]
def X19_16t1:=hP R19_16t1 R19_16t2 [104,106] [104,105,106,107,108] ⟨some 107,.call (.t 104) [.t 106],none⟩
def T19_16p2:=hT R19_16p2 [] [108] 109 [] [(108,.op (.fieldAddr 1 (.t 0)) [.t 11])] [sb []]
def X19_16t2:=hS R19_16t2 R19_16p2 R19_16t3 [] [108] [104,105,106,107,108]
def X19_16t3:=hX R19_16t3 [104,105,106,107,108] [⟨none,.store 1 (.t 108) (.t 107),none⟩]
def R19_17t3:LO:=[⟨none,.store 1 (.t 113) (.t 112),none⟩]
def R19_17p2:LO:=[oF 113 2 11]
def R19_17t2:LO:=R19_17p2 ++ R19_17t3
def R19_17t1:LO:=⟨some 112,.call (.t 109) [.t 111],none⟩ :: R19_17t2
def R19_17p0:LO:=[oM 109 3,oF 110 2 11,oL 111 110]
def R19_17:LO:=R19_17p0 ++ R19_17t1
def T19_17p0:=hT R19_17p0 [110] [109,111] 112 [] [(109,.t 3),(111,.op (.load false 1 (.t 0)) [.op (.fieldAddr 2 (.t 0)) [.t 11]])] [.tt 3,.sub 1 [0] [],.sub 1 [] []]
def X19_17:=hS R19_17 R19_17p0 R19_17t1 [110] [109,111] [109,110,111,112,113]
def X19_17t1:=hP R19_17t1 R19_17t2 [109,111] [109,110,111,112,113] ⟨some 112,.call (.t 109) [.t 111],none⟩
def T19_17p2:=hT R19_17p2 [] [113] 114 [] [(113,.op (.fieldAddr 2 (.t 0)) [.t 11])] [sb []]
def X19_17t2:=hS R19_17t2 R19_17p2 R19_17t3 [] [113] [109,110,111,112,113]
def X19_17t3:=hX R19_17t3 [109,110,111,112,113] [⟨none,.store 1 (.t 113) (.t 112),none⟩]
def R19_18t3:LO:=[⟨none,.store 1 (.t 118) (.t 117),none⟩]
def R19_18p2:LO:=[oF 118 3 11]
def R19_18t2:LO:=R19_18p2 ++ R19_18t3
def R19_18t1:LO:=⟨some 117,.call (.t 114) [.t 116],none⟩ :: R19_18t2
def R19_18p0:LO:=[oM 114 3,oF 115 3 11,oL 116 115]
def R19_18:LO:=R19_18p0 ++ R19_18t1
def T19_18p0:=hT R19_18p0 [115] [114,116] 117 [] [(114,.t 3),(116,.op (.load false 1 (.t 0)) [.op (.fieldAddr 3 (.t 0)) [.t 11]])] [.tt 3,.sub 1 [0] [],.sub 1 [] []]
def X19_18:=hS R19_18 R19_18p0 R19_18t1 [115] [114,116] [114,115,116,117,118]
def X19_18t1:=hP R19_18t1 R19_18t2 [114,116] [114,115,116,117,118] ⟨some 117,.call (.t 114) [.t 116],none⟩
def T19_18p2:=hT R19_18p2 [] [118] 119 [] [(118,.op (.fieldAddr 3 (.t 0)) [.t 11])] [sb []]
def X19_18t2:=hS R19_18t2 R19_18p2 R19_18t3 [] [118] [114,115,116,117,118]
def X19_18t3:=hX R19_18t3 [114,115,116,117,118] [⟨none,.store 1 (.t 118) (.t 117),none⟩]
def R19_19t1:LO:=[⟨none,.store 1 (.t 119) (.c (.s (.slice none 0 0))),none⟩]
def R19_19p0:LO:=[oF 119 6 11]
def R19_19:LO:=R19_19p0 ++ R19_19t1
def T19_19p0:=hT R19_19p0 [] [119] 120 [] [(119,.op (.fieldAddr 6 (.t 0)) [.t 11])] [sb []]
def X19_19:=hS R19_19 R19_19p0 R19_19t1 [] [119] [119]
def X19_19t1:=hX R19_19t1 [119] [⟨none,.store 1 (.t 119) (.c (.s (.slice none 0 0))),none⟩]
def R19_20:LO:=[⟨some 12,.move (.c (.s (.int .i64 0))),none⟩]
def T19_20:=hT R19_20 [] [12] 13 [] [(12,.c (.s (.int .i64 0)))] [.cc (.s (.int .i64 0))]
def R19_21:LO:=[oM 120 12,oF 121 0 1,oL 122 121,oM 123 5,⟨some 124,.indexAddr 3 (.t 122) (.t 123),none⟩,oF 125 2 124,oL 126 125,oM 127 8,⟨some 128,.indexAddr 2 (.t 126) (.t 127),none⟩,oF 129 1 128,oL 130 129,oM 131 10,⟨some 132,.indexAddr 8 (.t 130) (.t 131),none⟩,oF 133 6 132,oL 134 133,⟨some 135,.lenS .s (.t 134),none⟩,⟨some 136,.bin .lss (.t 120) (.t 135),none⟩]
def T19_21:=hT R19_21 [120,121,122,123,124,125,126,127,128,129,130,131,132,133,134,135] [136] 137 [] [(136,.op (.bin .lss (.t 0) (.t 1)) [.t 12,.op (.lenS .s (.t 0)) [.op (.load false 1 (.t 0)) [.op (.fieldAddr 6 (.t 0)) [.op (.indexAddr 8 (.t 0) (.t 1)) [.op (.load false 1 (.t 0)) [.op (.fieldAddr 1 (.t 0)) [.op (.indexAddr 2 (.t 0) (.t 1)) [.op (.load false 1 (.t 0)) [.op (.fieldAddr 2 (.t 0)) [.op (.indexAddr 3 (.t 0) (.t 1)) [.op (.load false 1 (.t 0)) [.op (.fieldAddr 0 (.t 0)) [.t 1]],.t 5]]],.t 8]]],.t 10]]]]])] [.tt 12,sb [1,0,0,0,0,0,0,0,0,0,0,0],sb [1,0,0,0,0,0,0,0,0,0,0],.tt 5,sb [1,0,0,0,0,0,0,0,0,0],sb [1,0,0,0,0,0,0,0,0],sb [1,0,0,0,0,0,0,0],.tt 8,sb [1,0,0,0,0,0,0],sb [1,0,0,0,0,0],sb [1,0,0,0,0],.tt 10,sb [1,0,0,0],sb [1,0,0],sb [1,0],sb [1],sb []]
def R19_22t5:LO:=[⟨none,.store 1 (.t 162) (.t 161),none⟩]
def R19_22p4:LO:=[oF 162 6 11]
def R19_22t4:LO:=R19_22p4 ++ R19_22t5
def R19_22t3:LO:=⟨some 161,.append 1 16 (.t 140) (.t 160),none⟩ :: R19_22t4
def R19_22t2:LO:=⟨some 160,.buildSl 1 1 [.s (.string ⟨#[]⟩)] [(0,.t 159)],none⟩ :: R19_22t3
def R19_22t1:LO:=⟨some 159,.callR (.t 141) [.t 158],none⟩ :: R19_22t2
def R19_22p0:LO:=[oF 139 6 11,oL 140 139,oM 141 3,oF 142 0 1,oL 143 142,oM 144 5,⟨some 145,.indexAddr 3 (.t 143) (.t 144),none⟩,oF 146 2 145,oL 147 146,oM 148 8,⟨some 149,.indexAddr 2 (.t 147) (.t 148),none⟩,oF 150 1 149,oL 151 150,oM 152 10,⟨some 153,.indexAddr 8 (.t 151) (.t 152),none⟩,oF 154 6 153,oL 155 154,oM 156 12,⟨some 157,.indexAddr 1 (.t 155) (.t 156),none⟩,oL 158 157]
def R19_22:LO:=R19_22p0 ++ R19_22t1
def T19_22p0:=hT R19_22p0 [136,139,142,143,144,145,146,147,148,149,150,151,152,153,154,155,156,157] [140,141,158] 159 [] [(140,.op (.load false 1 (.t 0)) [.op (.fieldAddr 6 (.t 0)) [.t 11]]),(141,.t 3),(158,.op (.load false 1 (.t 0)) [.op (.indexAddr 1 (.t 0) (.t 1)) [.op (.load false 1 (.t 0)) [.op (.fieldAddr 6 (.t 0)) [.op (.indexAddr 8 (.t 0) (.t 1)) [.op (.load false 1 (.t 0)) [.op (.fieldAddr 1 (.t 0)) [.op (.indexAddr 2 (.t 0) (.t 1)) [.op (.load false 1 (.t 0)) [.op (.fieldAddr 2 (.t 0)) [.op (.indexAddr 3 (.t 0) (.t 1)) [.op (.load false 1 (.t 0)) [.op (.fieldAddr 0 (.t 0)) [.t 1]],.t 5]]],.t 8]]],.t 10]]],.t 12]])] [sb [0],sb [],.tt 3,.sub 2 [0,0,0,0,0,0,0,0,0,0,0,0] [],.sub 2 [0,0,0,0,0,0,0,0,0,0,0] [],.tt 5,.sub 2 [0,0,0,0,0,0,0,0,0,0] [],.sub 2 [0,0,0,0,0,0,0,0,0] [],.sub 2 [0,0,0,0,0,0,0,0] [],.tt 8,.sub 2 [0,0,0,0,0,0,0] [],.sub 2 [0,0,0,0,0,0] [],.sub 2 [0,0,0,0,0] [],.tt 10,.sub 2 [0,0,0,0] [],.sub 2 [0,0,0] [],.sub 2 [0,0] [],.tt 12,.sub 2 [0] [],.sub 2 [] []]
def X19_22:=hS R19_22 R19_22p0 R19_22t1 [136,139,142,143,144,145,146,147,148,149,150,151,152,153,154,155,156,157] [140,141,158] [136,139,140,141,142,143,144,145,146,147,148,149,150,151,152,153,154,155,156,157,158,159,160,161,162]
def X19_22t1:=hP R19_22t1 R19_22t2 [141,158] [136,139,140,141,142,143,144,145,146,147,148,149,150,151,152,153,154,155,156,157,158,159,160,161,162] ⟨some 159,.callR (.t 141) [.t 158],none⟩
def X19_22t2:=hP R19_22t2 R19_22t3 [159] [136,139,140,141,142,143,144,145,146,147,148,149,150,151,152,153,154,155,156,157,158,159,160,161,162] ⟨some 160,.buildSl 1 1 [.s (.string ⟨#[]⟩)] [(0,.t 159)],none⟩
def X19_22t3:=hP R19_22t3 R19_22t4 [140,160] [136,139,140,141,142,143,144,145,146,147,148,149,150,151,152,153,154,155,156,157,158,159,160,161,162] ⟨some 161,.append 1 16 (.t 140) (.t 160),none⟩
def T19_22p4:=hT R19_22p4 [] [162] 163 [] [(162,.op (.fieldAddr 6 (.t 0)) [.t 11])] [sb []]
def X19_22t4:=hS R19_22t4 R19_22p4 R19_22t5 [] [162] [136,139,140,141,142,143,144,145,146,147,148,149,150,151,152,153,154,155,156,157,158,159,160,161,162]
def X19_22t5:=hX R19_22t5 [136,139,140,141,142,143,144,145,146,147,148,149,150,151,152,153,154,155,156,157,158,159,160,161,162] [⟨none,.store 1 (.t 162) (.t 161),none⟩]
def R19_23:LO:=[oM 137 12,⟨some 138,.bin .add (.t 137) (.c (.s (.int .i64 1))),none⟩,oM 12 138]
def T19_23:=hT R19_23 [137,138] [12] 139 [] [(12,.op (.bin .add (.t 0) (.c (.s (.int .i64 1)))) [.t 12,.c (.s (.int .i64 1))])] [.tt 12,sb [],sb []]
def s_f19_l1_b:ACode:=
 (.seq (.seq (.regionE R19_21 [120,121,122,123,124,125,126,127,128,129,130,131,132,133,134,135] [136])
 (.cond (.t 136)
 .skip
 (.exit 8)))
 (.seq (.block 9
 (.region R19_22 [] [136,139,140,141,142,143,144,145,146,147,148,149,150,151,152,153,154,155,156,157,158,159,160,161,162]))
 (.regionE R19_23 [137,138] [12])))
def s_f19_l1:ACode:=s_f19_l1_b
def s_f19_l1_ev:=hE s_f19_l1 s_f19_l1_b
def R19_24t4:LO:=[⟨none,.store 1 (.t 168) (.t 167),none⟩]
def R19_24p3:LO:=[oF 168 1 9]
def R19_24t3:LO:=R19_24p3 ++ R19_24t4
def R19_24t2:LO:=⟨some 167,.append 8 128 (.t 164) (.t 166),none⟩ :: R19_24t3
def R19_24t1:LO:=⟨some 166,.buildSl 8 1 [.s (.int .u8 0),.s (.string ⟨#[]⟩),.s (.string ⟨#[]⟩),.s (.string ⟨#[]⟩),.s (.int .i64 0),.s (.string ⟨#[]⟩),.s (.slice none 0 0),.s (.slice none 0 0)] [(0,.t 165)],none⟩ :: R19_24t2
def R19_24p0:LO:=[oF 163 1 9,oL 164 163,⟨some 165,.load true 8 (.t 11),none⟩]
def R19_24:LO:=R19_24p0 ++ R19_24t1
def T19_24p0:=hT R19_24p0 [11,12,136,163] [164,165] 166 [] [(164,.op (.load false 1 (.t 0)) [.op (.fieldAddr 1 (.t 0)) [.t 9]]),(165,.op (.load true 8 (.t 0)) [.t 11])] [sb [0],sb [],.sub 1 [] []]
def X19_24:=hS R19_24 R19_24p0 R19_24t1 [11,12,136,163] [164,165] [11,12,136,163,164,165,166,167,168]
def X19_24t1:=hP R19_24t1 R19_24t2 [165] [11,12,136,163,164,165,166,167,168] ⟨some 166,.buildSl 8 1 [.s (.int .u8 0),.s (.string ⟨#[]⟩),.s (.string ⟨#[]⟩),.s (.string ⟨#[]⟩),.s (.int .i64 0),.s (.string ⟨#[]⟩),.s (.slice none 0 0),.s (.slice none 0 0)] [(0,.t 165)],none⟩
def X19_24t2:=hP R19_24t2 R19_24t3 [164,166] [11,12,136,163,164,165,166,167,168] ⟨some 167,.append 8 128 (.t 164) (.t 166),none⟩
def T19_24p3:=hT R19_24p3 [] [168] 169 [] [(168,.op (.fieldAddr 1 (.t 0)) [.t 9])] [sb []]
def X19_24t3:=hS R19_24t3 R19_24p3 R19_24t4 [] [168] [11,12,136,163,164,165,166,167,168]
def X19_24t4:=hX R19_24t4 [11,12,136,163,164,165,166,167,168] [⟨none,.store 1 (.t 168) (.t 167),none⟩]
def R19_25:LO:=[oM 89 10,⟨some 90,.bin .add (.t 89) (.c (.s (.int .i64 1))),none⟩,oM 10 90]
def T19_25:=hT R19_25 [89,90] [10] 91 [] [(10,.op (.bin .add (.t 0) (.c (.s (.int .i64 1)))) [.t 10,.c (.s (.int .i64 1))])] [.tt 10,sb [],sb []]
def s_f19_l2_b:ACode:=
 (.seq (.seq (.regionE R19_14 [76,77,78,79,80,81,82,83,84,85,86,87] [88])
 (.cond (.t 88)
 .skip
 (.exit 6)))
 (.seq (.block 7
 (.seq (.region R19_15 [] [88,91,92,93,94,95,96,97,98,99,100,101,102,103])
 (.seq (.region R19_16 [] [104,105,106,107,108])
 (.seq (.region R19_17 [] [109,110,111,112,113])
 (.seq (.region R19_18 [] [114,115,116,117,118])
 (.seq (.region R19_19 [] [119])
 (.seq (.seq (.regionE R19_20 [] [12])
 (.block 8
 (.loop [] s_f19_l1)))
 (.region R19_24 [] [11,12,136,163,164,165,166,167,168]))))))))
 (.regionE R19_25 [89,90] [10])))
def s_f19_l2:ACode:=s_f19_l2_b
def s_f19_l2_ev:=hE s_f19_l2 s_f19_l2_b
def R19_26t4:LO:=[⟨none,.store 1 (.t 174) (.t 173),none⟩]
def R19_26p3:LO:=[oF 174 2 6]
def R19_26t3:LO:=R19_26p3 ++ R19_26t4
def R19_26t2:LO:=⟨some 173,.append 2 40 (.t 170) (.t 172),none⟩ :: R19_26t3
def R19_26t1:LO:=⟨some 172,.buildSl 2 1 [.s (.string ⟨#[]⟩),.s (.slice none 0 0)] [(0,.t 171)],none⟩ :: R19_26t2
def R19_26p0:LO:=[oF 169 2 6,oL 170 169,⟨some 171,.load true 2 (.t 9),none⟩]
def R19_26:LO:=R19_26p0 ++ R19_26t1
def T19_26p0:=hT R19_26p0 [9,10,88,169] [170,171] 172 [] [(170,.op (.load false 1 (.t 0)) [.op (.fieldAddr 2 (.t 0)) [.t 6]]),(171,.op (.load true 2 (.t 0)) [.t 9])] [sb [0],sb [],.sub 1 [] []]
def X19_26:=hS R19_26 R19_26p0 R19_26t1 [9,10,88,169] [170,171] [9,10,88,169,170,171,172,173,174]
def X19_26t1:=hP R19_26t1 R19_26t2 [171] [9,10,88,169,170,171,172,173,174] ⟨some 172,.buildSl 2 1 [.s (.string ⟨#[]⟩),.s (.slice none 0 0)] [(0,.t 171)],none⟩
def X19_26t2:=hP R19_26t2 R19_26t3 [170,172] [9,10,88,169,170,171,172,173,174] ⟨some 173,.append 2 40 (.t 170) (.t 172),none⟩
def T19_26p3:=hT R19_26p3 [] [174] 175 [] [(174,.op (.fieldAddr 2 (.t 0)) [.t 6])] [sb []]
def X19_26t3:=hS R19_26t3 R19_26p3 R19_26t4 [] [174] [9,10,88,169,170,171,172,173,174]
def X19_26t4:=hX R19_26t4 [9,10,88,169,170,171,172,173,174] [⟨none,.store 1 (.t 174) (.t 173),none⟩]
def R19_27:LO:=[oM 63 8,⟨some 64,.bin .add (.t 63) (.c (.s (.int .i64 1))),none⟩,oM 8 64]
def T19_27:=hT R19_27 [63,64] [8] 65 [] [(8,.op (.bin .add (.t 0) (.c (.s (.int .i64 1)))) [.t 8,.c (.s (.int .i64 1))])] [.tt 8,sb [],sb []]
def s_f19_l3_b:ACode:=
 (.seq (.seq (.regionE R19_11 [54,55,56,57,58,59,60,61] [62])
 (.cond (.t 62)
 .skip
 (.exit 4)))
 (.seq (.block 5
 (.seq (.region R19_12 [] [62,65,66,67,68,69,70,71,72,73,74,75])
 (.seq (.seq (.regionE R19_13 [] [10])
 (.block 6
 (.loop [] s_f19_l2)))
 (.region R19_26 [] [9,10,88,169,170,171,172,173,174]))))
 (.regionE R19_27 [63,64] [8])))
def s_f19_l3:ACode:=s_f19_l3_b
def s_f19_l3_ev:=hE s_f19_l3 s_f19_l3_b
def R19_28t4:LO:=[⟨none,.store 1 (.t 180) (.t 179),none⟩]
def R19_28p3:LO:=[oF 180 0 4]
def R19_28t3:LO:=R19_28p3 ++ R19_28t4
def R19_28t2:LO:=⟨some 179,.append 3 64 (.t 176) (.t 178),none⟩ :: R19_28t3
def R19_28t1:LO:=⟨some 178,.buildSl 3 1 [.s (.string ⟨#[]⟩),.s (.slice none 0 0),.s (.slice none 0 0)] [(0,.t 177)],none⟩ :: R19_28t2
def R19_28p0:LO:=[oF 175 0 4,oL 176 175,⟨some 177,.load true 3 (.t 6),none⟩]
def R19_28:LO:=R19_28p0 ++ R19_28t1
def T19_28p0:=hT R19_28p0 [6,8,62,175] [176,177] 178 [] [(176,.op (.load false 1 (.t 0)) [.op (.fieldAddr 0 (.t 0)) [.t 4]]),(177,.op (.load true 3 (.t 0)) [.t 6])] [sb [0],sb [],.sub 1 [] []]
def X19_28:=hS R19_28 R19_28p0 R19_28t1 [6,8,62,175] [176,177] [6,8,62,175,176,177,178,179,180]
def X19_28t1:=hP R19_28t1 R19_28t2 [177] [6,8,62,175,176,177,178,179,180] ⟨some 178,.buildSl 3 1 [.s (.string ⟨#[]⟩),.s (.slice none 0 0),.s (.slice none 0 0)] [(0,.t 177)],none⟩
def X19_28t2:=hP R19_28t2 R19_28t3 [176,178] [6,8,62,175,176,177,178,179,180] ⟨some 179,.append 3 64 (.t 176) (.t 178),none⟩
def T19_28p3:=hT R19_28p3 [] [180] 181 [] [(180,.op (.fieldAddr 0 (.t 0)) [.t 4])] [sb []]
def X19_28t3:=hS R19_28t3 R19_28p3 R19_28t4 [] [180] [6,8,62,175,176,177,178,179,180]
def X19_28t4:=hX R19_28t4 [6,8,62,175,176,177,178,179,180] [⟨none,.store 1 (.t 180) (.t 179),none⟩]
def R19_29:LO:=[oM 18 5,⟨some 19,.bin .add (.t 18) (.c (.s (.int .i64 1))),none⟩,oM 5 19]
def T19_29:=hT R19_29 [18,19] [5] 20 [] [(5,.op (.bin .add (.t 0) (.c (.s (.int .i64 1)))) [.t 5,.c (.s (.int .i64 1))])] [.tt 5,sb [],sb []]
def s_f19_l4_b:ACode:=
 (.seq (.seq (.regionE R19_4 [13,14,15,16] [17])
 (.cond (.t 17)
 .skip
 (.exit 0)))
 (.seq (.block 1
 (.seq (.region R19_5 [] [17,20,21,22,23,24,25,26])
 (.seq (.seq (.regionE R19_6 [] [7])
 (.block 2
 (.loop [] s_f19_l0)))
 (.seq (.seq (.regionE R19_10 [7,35] [8])
 (.block 4
 (.loop [] s_f19_l3)))
 (.region R19_28 [] [6,8,62,175,176,177,178,179,180])))))
 (.regionE R19_29 [18,19] [5])))
def s_f19_l4:ACode:=s_f19_l4_b
def s_f19_l4_ev:=hE s_f19_l4 s_f19_l4_b
def R19_30t1:LO:=[⟨none,.store 1 (.t 2) (.t 181),none⟩]
def R19_30p0:LO:=[⟨some 181,.load true 1 (.t 4),none⟩]
def R19_30:LO:=R19_30p0 ++ R19_30t1
def T19_30p0:=hT R19_30p0 [1,3,4,5,17] [181] 182 [] [(181,.op (.load true 1 (.t 0)) [.t 4])] [sb []]
def X19_30:=hS R19_30 R19_30p0 R19_30t1 [1,3,4,5,17] [181] [1,3,4,5,17,181]
def X19_30t1:=hX R19_30t1 [1,3,4,5,17,181] [⟨none,.store 1 (.t 2) (.t 181),none⟩]
def s_f19:ACFun:={ ntmps:=182,results:=[.cell 2 true 1],body:=
 (.seq (.region R19_0 [] K19_0)
 (.seq (.regionE R19_1 [] [3])
 (.seq (.region R19_2 [] [])
 (.seq (.seq (.regionE R19_3 [] [5])
 (.block 0
 (.loop [] s_f19_l4)))
 (.seq (.region R19_30 [] [1,3,4,5,17,181])
 .ret))))) }
theorem s_f19_first:firstOk (List.range' 1 (s_f19.ntmps - 1)) s_f19.body=true:=by kernel_rfl
abbrev k_f38:Nat:=38
def K38_0:List Nat:=List.range' 1 11
theorem s_f38_r0_kT:killV K38_0 (startV 12 [] 1)=[]:=by kernel_rfl
def s_f38_r0_kA0:=hK K38_0 0
def R38_0:LO:=[⟨some 2,.move (.c (.s (.string ⟨#[]⟩))),none⟩]
def T38_0:=hT R38_0 K38_0 [] 3 [] [] [.cc (.s (.string ⟨#[]⟩))]
def R38_1:LO:=[oM 3 0,⟨some 4,.bin .eql (.t 3) (.c (.s (.string ⟨#[]⟩))),none⟩,oM 5 4,gM 6 0 5 false,⟨some 7,.bin .eql (.t 6) (.c (.s (.string ⟨#[110,117,108,108]⟩))),some (5,false)⟩,⟨some 8,.pick (.t 5) (.c (.s (.bool true))) (.t 7),none⟩]
def T38_1:=hT R38_1 [3,4,5,6,7] [8] 9 [] [(8,.pick (.op (.bin .eql (.t 0) (.c (.s (.string ⟨#[]⟩)))) [.t 0,.c (.s (.string ⟨#[]⟩))]) (.c (.s (.bool true))) (.op (.bin .eql (.t 0) (.c (.s (.string ⟨#[110,117,108,108]⟩)))) [.t 0,.c (.s (.string ⟨#[110,117,108,108]⟩))]))] [.tt 0,sb [0],sb [0],.sub 0 [2,0] [5],.sub 0 [2] [5],sb []]
def R38_2:LO:=[oM 9 0,oM 2 9]
def T38_2:=hT R38_2 [0,8,9] [2] 10 [] [(2,.t 0)] [.tt 0,.tt 0]
def R38_3:LO:=[oM 10 0,⟨some 11,.bin .add (.c (.s (.string ⟨#[118]⟩))) (.t 10),none⟩,oM 2 11]
def T38_3:=hT R38_3 [0,8,10,11] [2] 12 [] [(2,.op (.bin .add (.c (.s (.string ⟨#[118]⟩))) (.t 1)) [.c (.s (.string ⟨#[118]⟩)),.t 0])] [.tt 0,sb [],sb []]
def s_f38:ACFun:={ ntmps:=12,results:=[.tmp 2],body:=
 (.seq (.regionE R38_0 K38_0 [])
 (.seq (.seq (.regionE R38_1 [3,4,5,6,7] [8])
 (.cond (.t 8)
 (.seq (.regionE R38_2 [0,8,9] [2])
 .ret)
 .skip))
 (.seq (.regionE R38_3 [0,8,10,11] [2])
 .ret))) }
def a_f6:=ai X6_0 (ai T6_0t1 (ai X6_0t1 (ai A6_0_0 (ai A6_0_1 (ai A6_0_2 (ai T6_1p0 (ai X6_1 (ai X6_1t1 (ai T6_1p2 (ai X6_1t2 (ai X6_1t3 (ai X6_1t4 (ai T6_1t5 (ai X6_1t5 (ai T6_2 (ai T6_3p0 (ai X6_3 (ai X6_3t1 (ai T6_3p2 (ai X6_3t2 (ai X6_3t3 (ai X6_3t4 (ai T6_3t5 (ai X6_3t5 (ai T6_4p0 (ai X6_4 (ai X6_4t1 (ai T6_4p2 (ai X6_4t2 (ai X6_4t3 (ai X6_4t4 (ai T6_4t5 (ai X6_4t5 (ai T6_5 (ai X6_6 (ai T6_6t1 (ai X6_6t1 (ai T6_7p0 (ai X6_7 (ai X6_7t1 (ai X6_7t2 (ai T6_7p3 (ai X6_7t3 (ai X6_7t4 (ai T6_7p5 (ai X6_7t5 (ai X6_7t6 (ai T6_7t7 (X6_7t7)))))))))))))))))))))))))))))))))))))))))))))))))
def a_f18:=ai A18_0p0_0 (ai A18_0p0_1 (ai A18_0p0_2 (ai X18_0 (ai T18_0t1 (ai X18_0t1 (ai A18_0_0 (ai A18_0_1 (ai A18_0_2 (ai T18_1 (ai T18_2 (ai T18_3 (ai T18_4 (ai T18_5 (ai T18_6 (ai T18_7 (ai s_f18_l0_ev (ai T18_8 (ai T18_9 (ai T18_10 (ai T18_11 (ai T18_12 (ai T18_13 (ai T18_14 (ai T18_15 (ai T18_16 (ai T18_17 (ai s_f18_l1_ev (ai T18_18 (ai s_f18_l2_ev (ai T18_19 (ai s_f18_l3_ev (ai T18_20 (ai s_f18_l4_ev (T18_21))))))))))))))))))))))))))))))))))
def a_f19:=ai A19_0p0_0 (ai A19_0p0_1 (ai A19_0p0_2 (ai X19_0 (ai X19_0t1 (ai A19_0_0 (ai A19_0_1 (ai A19_0_2 (ai T19_1 (ai X19_2 (ai T19_3 (ai T19_4 (ai T19_5p0 (ai X19_5 (ai X19_5t1 (ai X19_5t2 (ai T19_6 (ai T19_7 (ai T19_8p0 (ai X19_8 (ai X19_8t1 (ai X19_8t2 (ai X19_8t3 (ai T19_8p4 (ai X19_8t4 (ai X19_8t5 (ai T19_9 (ai s_f19_l0_ev (ai T19_10 (ai T19_11 (ai T19_12p0 (ai X19_12 (ai X19_12t1 (ai X19_12t2 (ai T19_13 (ai T19_14 (ai T19_15p0 (ai X19_15 (ai X19_15t1 (ai X19_15t2 (ai T19_16p0 (ai X19_16 (ai X19_16t1 (ai T19_16p2 (ai X19_16t2 (ai X19_16t3 (ai T19_17p0 (ai X19_17 (ai X19_17t1 (ai T19_17p2 (ai X19_17t2 (ai X19_17t3 (ai T19_18p0 (ai X19_18 (ai X19_18t1 (ai T19_18p2 (ai X19_18t2 (ai X19_18t3 (ai T19_19p0 (ai X19_19 (ai X19_19t1 (ai T19_20 (ai T19_21 (ai T19_22p0 (ai X19_22 (ai X19_22t1 (ai X19_22t2 (ai X19_22t3 (ai T19_22p4 (ai X19_22t4 (ai X19_22t5 (ai T19_23 (ai s_f19_l1_ev (ai T19_24p0 (ai X19_24 (ai X19_24t1 (ai X19_24t2 (ai T19_24p3 (ai X19_24t3 (ai X19_24t4 (ai T19_25 (ai s_f19_l2_ev (ai T19_26p0 (ai X19_26 (ai X19_26t1 (ai X19_26t2 (ai T19_26p3 (ai X19_26t3 (ai X19_26t4 (ai T19_27 (ai s_f19_l3_ev (ai T19_28p0 (ai X19_28 (ai X19_28t1 (ai X19_28t2 (ai T19_28p3 (ai X19_28t3 (ai X19_28t4 (ai T19_29 (ai s_f19_l4_ev (ai T19_30p0 (ai X19_30 (X19_30t1))))))))))))))))))))))))))))))))))))))))))))))))))))))))))))))))))))))))))))))))))))))))))))))))))))))
def a_f38:=ai T38_0 (ai s_f38_r0_kT (ai s_f38_r0_kA0 (ai T38_1 (ai T38_2 (T38_3)))))
theorem NA6_6:compK Try.prog PX0 6=some (false,s_f6.ntmps,s_f6.results,s_f6.body.bare):=by kernel_rfl
theorem NA6_18:compK Try.prog PX0 18=some (false,s_f18.ntmps,s_f18.results,s_f18.body.bare):=by kernel_rfl
theorem NA6_19:compK Try.prog PX0 19=some (false,s_f19.ntmps,s_f19.results,s_f19.body.bare):=by kernel_rfl
theorem NA6_38:compK Try.prog PX0 38=some (false,s_f38.ntmps,s_f38.results,s_f38.body.bare):=by kernel_rfl
end Go.Proofs.YtamlbkalopefgaaR
set_option maxRecDepth 100000
namespace Go.Proofs.YtamlbkalopefgaaR
open Go.AM
section
variable {CT:Nat→Option CFun}
theorem v_fun (hT:CT k_f38=some (.code s_f38)) (base:Nat) (H:Heap) {s:ByteArray} (hs:s.size≤60):callW CT (.fn k_f38 [] []) [Sb s] base H=some (Sb (vB s),H):=by
 refine callW_fn (c:=s_f38) hT (by simp [s_f38]) ?_
 unfold vB
 have hlen:¬ ((((⟨#[118]⟩:ByteArray).size+s.size:Nat):Int) > IntKind.i64.max):=by
  have e1:(⟨#[118]⟩:ByteArray).size=1:=rfl
  have e2:IntKind.i64.max=9223372036854775807:=by decide
  rw [e1,e2]
  omega
 cases h:(s.data.toList == [] || s.data.toList == [110,117,108,108]) with
 | true=>
   have h':(emptyB s || nullB s)=true:=h
   rw [if_pos h']
   simp only [Sb,s_f38,a_f38,aa,reduceIte,reduceCtorEq,Nat.reduceEqDiff,Nat.reduceLT,Nat.reduceLeDiff,Nat.reduceBEq,Nat.reduceAdd,Nat.reduceMul,h]
 | false=>
   have h':¬ (emptyB s || nullB s)=true:=by
    have e:(emptyB s || nullB s)=false:=h
    rw [e];decide
   rw [if_neg h']
   simp only [Sb,vPre,s_f38,a_f38,aa,reduceIte,reduceCtorEq,Nat.reduceEqDiff,Nat.reduceLT,Nat.reduceLeDiff,Nat.reduceBEq,Nat.reduceAdd,Nat.reduceMul,h,hlen]
theorem rn_l0 (hV:CT k_f38=some (.code s_f38)) (base:Nat) {A C0:Heap} (hb:base≤A.length) (hA:Ext A C0) {q:Nat} (hq1:A.length≤q) (hq2:q < C0.length) {p:Nat} {fv:V} {fs:List FunD} (hp:getC A p 0=some [fv]) (hr:RdProg A fv fs) {w2 w4 i:Nat} {f:FunD} (hf:fs[i]?=some f) {nm:ByteArray} {y:V} (hy:y.one=true) (hz:getC C0 q 0=some [Sb nm,nilS,y]) (hn:f.ps.length < 2 ^ 20) (h60:∀ s∈f.ps,s.size≤60):
 ∃ C v,itW (evC (callW CT) itW base s_f19_l0) [] C0.length (frOf 182 [(1,.ref p 0 0),(2,.ref w2 0 0),(3,.fn k_f38 [] []),(4,.ref w4 0 0),(5,Iz i),(6,.ref q 0 0),(7,Iz 0)]) C0=some (.ext 2,frOf 182 [(1,.ref p 0 0),(2,.ref w2 0 0),(3,.fn k_f38 [] []),(4,.ref w4 0 0),(5,Iz i),(6,.ref q 0 0),(7,Iz f.ps.length),(35,bl false)],C)∧OwnN C0.length C v ((f.ps.map vB).map Sb)∧getC C q 0=some [Sb nm,v,y]∧C0.length≤C.length∧∀ id,id < C0.length→id≠q→C[id]?=C0[id]?:=by
 obtain ⟨a,r,a1,hrr,_,a3⟩:=hr.at2 hf
 obtain ⟨pv,bv,rfl,p1,p2,p3,hbv⟩:=id hrr
 obtain ⟨c,c1,c2⟩:=a3 1 _ rfl
 obtain ⟨C,e2,v,e3,e4,e5,e6⟩:=it_rel f.ps.length (fun k C=>∃ v,OwnN C0.length C v (((f.ps.take k).map vB).map Sb)∧getC C q 0=some [Sb nm,v,y]∧C0.length≤C.length∧∀ id,id < C0.length→id≠q→C[id]?=C0[id]?) (fun k C=>itW (evC (callW CT) itW base s_f19_l0) [] C0.length (frOf 182 [(1,.ref p 0 0),(2,.ref w2 0 0),(3,.fn k_f38 [] []),(4,.ref w4 0 0),(5,Iz i),(6,.ref q 0 0),(7,Iz k)]) C) (by
  intro k C hk ⟨v,e3,e4,e5,e6⟩
  have hlt':((k:Int) < ((f.ps.length:Nat):Int)):=by omega
  have hwk:=w64 (n:=k) (by omega)
  have hEA:Ext A C:=ext_of (by have:=hA.le;omega) fun i hi=>by
   rw [e6 i (by have:=hA.le;omega) (by omega)]
   obtain ⟨G,hG⟩:=hA
   rw [hG]
   exact List.getElem?_append_left hi
  have hgp:=getC_ext hp hEA
  have c3:=c2 C hEA
  have hpl:=Sb_len (p1.ext hEA)
  obtain ⟨yy,y1,y2⟩:=Sb_at (p1.ext hEA) p2 hk
  obtain ⟨s,hs⟩:∃ s,f.ps.getD k ⟨#[]⟩=s:=⟨_,rfl⟩
  have hkx:=some_getD hk (⟨#[]⟩:ByteArray)
  rw [hs] at y2 hkx
  have hv:=v_fun hV C.length C (h60 s (List.mem_of_getElem? hkx))
  have hbC0:base≤C0.length:=by have:=hA.le;omega
  obtain ⟨v2,D,ap,ow,lw,kw⟩:=OwnN.append (bytes:=16) e3 hbC0 (x:=Sb (vB s)) rfl e5 (by rw [List.length_map,List.length_map,List.length_take];omega)
  have hzD:getC D q 0=some [Sb nm,v,y]:=by
   unfold getC at e4 ⊢
   rw [kw _ hq2]
   exact e4
  have hbz:base≤q:=by omega
  have hset:=getC_put (c':=[Sb nm,v2,y]) hzD
  have hvo:=ow.one
  have hcell:v2.cells=[v2]:=by
   rcases ow with ⟨_,rfl | rfl⟩ | ⟨id,g,c,rfl,_⟩ <;> rfl
  obtain ⟨E,hE⟩:∃ E,D.set q (.cells 0 [Sb nm,v2,y])=E:=⟨_,rfl⟩
  rw [hE] at hset
  have ow':OwnN C0.length E v2 (((f.ps.take (k+1)).map vB).map Sb):=by
   rw [List.take_add_one,hkx,List.map_append,List.map_append]
   exact hE ▸ ow.set hq2 _
  have hEl:C0.length≤E.length:=by rw [← hE,List.length_set];omega
  refine ⟨trim C0.length (frOf 182 [(1,.ref p 0 0),(2,.ref w2 0 0),(3,.fn k_f38 [] []),(4,.ref w4 0 0),(5,Iz i),(6,.ref q 0 0),(7,Iz (k+1:Nat))]) E,?_,v2,OwnN.trim ow' hset hq2 (by simp [insC]) _,trim_get hset hq2,trim_le hEl,fun i hi hne=>?_⟩
  ·rw [itW_step]
   simp only [Sb,Iz] at e4 hv ap hzD hE
   simp only [Iz,bl,a_f19,s_f19_l0_b,s_f19_l1_b,s_f19_l2_b,s_f19_l3_b,s_f19_l4_b,aa,reduceIte,reduceCtorEq,Nat.reduceEqDiff,Nat.reduceLT,Nat.reduceLeDiff,Nat.reduceBEq,Nat.reduceAdd,Nat.reduceMul,hgp,a1,c1,c3,hpl,hy,e4,y1,y2,hv,ap,hzD,hbz,hcell,hvo,List.length_singleton,List.all_cons,List.all_nil,Bool.and_true,Bool.and_self,and_self,if_true,List.cons_append,List.nil_append,List.drop_succ_cons,List.drop_zero,hE,hlt',hwk]
  ·rw [trim_id _ _ _ hi,← hE,List.getElem?_set_ne (Ne.symm hne),kw i hi]
   exact e6 i hi hne) 0 C0 (Nat.zero_le _) ⟨nilS,.inl ⟨rfl,.inl rfl⟩,hz,Nat.le_refl _,fun _ _ _=>rfl⟩
 have hEA:Ext A C:=ext_of (by have:=hA.le;omega) fun i hi=>by
  rw [e6 i (by have:=hA.le;omega) (by omega)]
  obtain ⟨G,hG⟩:=hA
  rw [hG]
  exact List.getElem?_append_left hi
 rw [List.take_length] at e3
 have hgp:=getC_ext hp hEA
 have c3:=c2 C hEA
 have hpl:=Sb_len (p1.ext hEA)
 refine ⟨trim C0.length (frOf 182 [(1,.ref p 0 0),(2,.ref w2 0 0),(3,.fn k_f38 [] []),(4,.ref w4 0 0),(5,Iz i),(6,.ref q 0 0),(7,Iz f.ps.length),(35,bl false)]) C,v,?_,OwnN.trim e3 e4 hq2 (by simp [insC]) _,trim_get e4 hq2,trim_le e5,fun i hi hne=>?_⟩
 ·rw [cast0] at e2
  refine e2.trans ?_
  rw [itW_step]
  simp only [Iz,bl,a_f19,s_f19_l0_b,s_f19_l1_b,s_f19_l2_b,s_f19_l3_b,s_f19_l4_b,aa,reduceIte,reduceCtorEq,Nat.reduceEqDiff,Nat.reduceLT,Nat.reduceLeDiff,Nat.reduceBEq,Nat.reduceAdd,Nat.reduceMul,hgp,a1,c1,c3,hpl,hy,Int.lt_irrefl]
 ·rw [trim_id _ _ _ hi]
  exact e6 i hi hne
theorem rn_l1 (hV:CT k_f38=some (.code s_f38)) (base:Nat) {A C0:Heap} (hb:base≤A.length) (hA:Ext A C0) {z:Nat} (hq1:A.length≤z) (hq2:z < C0.length) {p:Nat} {fv:V} {fs:List FunD} (hp:getC A p 0=some [fv]) (hr:RdProg A fv fs) {w2 w4 i q b q9 k0:Nat} {f:FunD} (hf:fs[i]?=some f) {B:BlkD} (hB:f.blocks[b]?=some B) {x:InsD} (hx:B.code[k0]?=some x) {x':InsD} {lv':V} (hlv:lv'.one=true) (hz:getC C0 z 0=some (insC x' nilS lv')) (hn:x.xs.length < 2 ^ 20) (h60:∀ s∈x.xs,s.size≤60):
 ∃ C v,itW (evC (callW CT) itW base s_f19_l1) [] C0.length (frOf 182 [(1,.ref p 0 0),(2,.ref w2 0 0),(3,.fn k_f38 [] []),(4,.ref w4 0 0),(5,Iz i),(6,.ref q 0 0),(8,Iz b),(9,.ref q9 0 0),(10,Iz k0),(11,.ref z 0 0),(12,Iz 0)]) C0=some (.ext 8,frOf 182 [(1,.ref p 0 0),(2,.ref w2 0 0),(3,.fn k_f38 [] []),(4,.ref w4 0 0),(5,Iz i),(6,.ref q 0 0),(8,Iz b),(9,.ref q9 0 0),(10,Iz k0),(11,.ref z 0 0),(12,Iz x.xs.length),(136,bl false)],C)∧OwnN C0.length C v ((x.xs.map vB).map Sb)∧getC C z 0=some (insC x' v lv')∧C0.length≤C.length∧∀ id,id < C0.length→id≠z→C[id]?=C0[id]?:=by
 obtain ⟨a,r,a1,hrr,_,a3⟩:=hr.at2 hf
 obtain ⟨pv,bv,rfl,p1,p2,p3,hbv⟩:=id hrr
 obtain ⟨c,c1,c2⟩:=a3 2 _ rfl
 obtain ⟨b1,rb,b2,hbb,_,b3⟩:=hbv.at2 hB
 obtain ⟨cv,rfl,hcv⟩:=id hbb
 obtain ⟨d,d1,d2⟩:=b3 1 _ rfl
 obtain ⟨e,re,g1,hee,_,g3⟩:=hcv.at2 hx
 obtain ⟨av,lv,rfl,q1,q2,q3,q4,_⟩:=id hee
 obtain ⟨u,u1,u2⟩:=g3 6 _ rfl
 obtain ⟨C,e2,v,e3,e4,e5,e6⟩:=it_rel x.xs.length (fun k C=>∃ v,OwnN C0.length C v (((x.xs.take k).map vB).map Sb)∧getC C z 0=some (insC x' v lv')∧C0.length≤C.length∧∀ id,id < C0.length→id≠z→C[id]?=C0[id]?) (fun k C=>itW (evC (callW CT) itW base s_f19_l1) [] C0.length (frOf 182 [(1,.ref p 0 0),(2,.ref w2 0 0),(3,.fn k_f38 [] []),(4,.ref w4 0 0),(5,Iz i),(6,.ref q 0 0),(8,Iz b),(9,.ref q9 0 0),(10,Iz k0),(11,.ref z 0 0),(12,Iz k)]) C) (by
  intro k C hk ⟨v,e3,e4,e5,e6⟩
  have hlt':((k:Int) < ((x.xs.length:Nat):Int)):=by omega
  have hwk:=w64 (n:=k) (by omega)
  have hEA:Ext A C:=ext_of (by have:=hA.le;omega) fun i hi=>by
   rw [e6 i (by have:=hA.le;omega) (by omega)]
   obtain ⟨G,hG⟩:=hA
   rw [hG]
   exact List.getElem?_append_left hi
  have hgp:=getC_ext hp hEA
  have c3:=c2 C hEA
  have d3:=d2 C hEA
  have u3:=u2 C hEA
  have hpl:=Sb_len (q1.ext hEA)
  obtain ⟨yy,y1,y2⟩:=Sb_at (q1.ext hEA) q2 hk
  obtain ⟨s,hs⟩:∃ s,x.xs.getD k ⟨#[]⟩=s:=⟨_,rfl⟩
  have hkx:=some_getD hk (⟨#[]⟩:ByteArray)
  rw [hs] at y2 hkx
  have hv:=v_fun hV C.length C (h60 s (List.mem_of_getElem? hkx))
  have hbC0:base≤C0.length:=by have:=hA.le;omega
  obtain ⟨v2,D,ap,ow,lw,kw⟩:=OwnN.append (bytes:=16) e3 hbC0 (x:=Sb (vB s)) rfl e5 (by rw [List.length_map,List.length_map,List.length_take];omega)
  have hzD:getC D z 0=some (insC x' v lv'):=by
   unfold getC at e4 ⊢
   rw [kw _ hq2]
   exact e4
  have hbz:base≤z:=by omega
  have hset:=getC_put (c':=(insC x' v2 lv')) hzD
  have hvo:=ow.one
  have hcell:v2.cells=[v2]:=by
   rcases ow with ⟨_,rfl | rfl⟩ | ⟨id,g,c,rfl,_⟩ <;> rfl
  obtain ⟨E,hE⟩:∃ E,D.set z (.cells 0 (insC x' v2 lv'))=E:=⟨_,rfl⟩
  rw [hE] at hset
  have ow':OwnN C0.length E v2 (((x.xs.take (k+1)).map vB).map Sb):=by
   rw [List.take_add_one,hkx,List.map_append,List.map_append]
   exact hE ▸ ow.set hq2 _
  have hEl:C0.length≤E.length:=by rw [← hE,List.length_set];omega
  refine ⟨trim C0.length (frOf 182 [(1,.ref p 0 0),(2,.ref w2 0 0),(3,.fn k_f38 [] []),(4,.ref w4 0 0),(5,Iz i),(6,.ref q 0 0),(8,Iz b),(9,.ref q9 0 0),(10,Iz k0),(11,.ref z 0 0),(12,Iz (k+1:Nat))]) E,?_,v2,OwnN.trim ow' hset hq2 (by simp [insC]) _,trim_get hset hq2,trim_le hEl,fun i hi hne=>?_⟩
  ·rw [itW_step]
   simp only [Sb,Iz,insC] at e4 hv ap hzD hE
   simp only [Iz,bl,a_f19,s_f19_l0_b,s_f19_l1_b,s_f19_l2_b,s_f19_l3_b,s_f19_l4_b,aa,reduceIte,reduceCtorEq,Nat.reduceEqDiff,Nat.reduceLT,Nat.reduceLeDiff,Nat.reduceBEq,Nat.reduceAdd,Nat.reduceMul,insC,hgp,a1,c1,c3,b2,d1,d3,g1,u1,u3,hpl,hlv,e4,y1,y2,hv,ap,hzD,hbz,hcell,hvo,List.length_singleton,List.all_cons,List.all_nil,Bool.and_true,Bool.and_self,and_self,if_true,List.cons_append,List.nil_append,List.drop_succ_cons,List.drop_zero,hE,hlt',hwk]
  ·rw [trim_id _ _ _ hi,← hE,List.getElem?_set_ne (Ne.symm hne),kw i hi]
   exact e6 i hi hne) 0 C0 (Nat.zero_le _) ⟨nilS,.inl ⟨rfl,.inl rfl⟩,hz,Nat.le_refl _,fun _ _ _=>rfl⟩
 have hEA:Ext A C:=ext_of (by have:=hA.le;omega) fun i hi=>by
  rw [e6 i (by have:=hA.le;omega) (by omega)]
  obtain ⟨G,hG⟩:=hA
  rw [hG]
  exact List.getElem?_append_left hi
 rw [List.take_length] at e3
 have hgp:=getC_ext hp hEA
 have c3:=c2 C hEA
 have d3:=d2 C hEA
 have u3:=u2 C hEA
 have hpl:=Sb_len (q1.ext hEA)
 refine ⟨trim C0.length (frOf 182 [(1,.ref p 0 0),(2,.ref w2 0 0),(3,.fn k_f38 [] []),(4,.ref w4 0 0),(5,Iz i),(6,.ref q 0 0),(8,Iz b),(9,.ref q9 0 0),(10,Iz k0),(11,.ref z 0 0),(12,Iz x.xs.length),(136,bl false)]) C,v,?_,OwnN.trim e3 e4 hq2 (by simp [insC]) _,trim_get e4 hq2,trim_le e5,fun i hi hne=>?_⟩
 ·rw [cast0] at e2
  refine e2.trans ?_
  rw [itW_step]
  simp only [Iz,bl,a_f19,s_f19_l0_b,s_f19_l1_b,s_f19_l2_b,s_f19_l3_b,s_f19_l4_b,aa,reduceIte,reduceCtorEq,Nat.reduceEqDiff,Nat.reduceLT,Nat.reduceLeDiff,Nat.reduceBEq,Nat.reduceAdd,Nat.reduceMul,hgp,a1,c1,c3,b2,d1,d3,g1,u1,u3,hpl,hlv,Int.lt_irrefl]
 ·rw [trim_id _ _ _ hi]
  exact e6 i hi hne
end
end Go.Proofs.YtamlbkalopefgaaR
set_option maxRecDepth 100000
namespace Go.Proofs.YtamlbkalopefgaaR
open Go.AM
section
variable {CT:Nat→Option CFun}
set_option maxHeartbeats 2000000 in
theorem wd_l0 (base:Nat) {A A1:Heap} (h1:Ext A A1) {p:Nat} {fv:V} {fs:List FunD} (hp:getC A1 p 0=some [fv]) (hr:RdProg A fv fs) {i:Nat} {f:FunD} (hf:fs[i]?=some f) (hn:f.ps.length < 2 ^ 20) (v:Bool):
 ∃ v',itW (evC (callW CT) itW base s_f18_l0) [] A1.length (frOf 121 [(1,.ref p 0 0),(3,bl v),(4,Iz i),(5,Iz 0)]) A1=some (.ext 2,frOf 121 [(1,.ref p 0 0),(3,bl v'),(4,Iz i),(5,Iz f.ps.length),(25,bl false)],A1)∧(v'=false→v=false∧∀ k,k < f.ps.length→(f.ps.getD k ⟨#[]⟩).size≤60):=by
 obtain ⟨a,r,a1,hrr,_,a3⟩:=(hr.ext h1).at2 hf
 obtain ⟨pv,bv,rfl,p1,p2,p3,hbv⟩:=id hrr
 obtain ⟨c,c1,c2⟩:=a3 1 _ rfl
 have c3:=c2 A1 (Ext.refl _)
 have hpl:=Sb_len p1
 obtain ⟨v',e2,e3⟩:=it_rel (f.ps.length) (fun k (u:Bool)=>u=false→v=false∧∀ j,j < k→(f.ps.getD j ⟨#[]⟩).size≤60) (fun k (u:Bool)=>itW (evC (callW CT) itW base s_f18_l0) [] A1.length (frOf 121 [(1,.ref p 0 0),(3,bl u),(4,Iz i),(5,Iz k)]) A1) (by
  intro k u hk hu
  have hlt':((k:Int) < ((f.ps.length:Nat):Int)):=by omega
  have hwk:=w64 (n:=k) (by omega)
  obtain ⟨x,x1,x2⟩:=Sb_at p1 p2 hk
  cases u with
  | true=>
    refine ⟨true,?_,fun e=>(by cases e)⟩
    rw [itW_step]
    simp only [Iz,bl,a_f18,s_f18_l0_b,s_f18_l1_b,s_f18_l2_b,s_f18_l3_b,s_f18_l4_b,aa,reduceIte,reduceCtorEq,Nat.reduceEqDiff,Nat.reduceLT,Nat.reduceLeDiff,Nat.reduceBEq,Nat.reduceAdd,Nat.reduceMul,hp,a1,c1,c3,hpl,x1,x2,hlt',hwk,trim_same rfl]
  | false=>
    obtain ⟨hv0,hq⟩:=hu rfl
    refine ⟨decide (((f.ps.getD k ⟨#[]⟩).size:Int) > 60),?_,fun e=>⟨hv0,fun j hj=>?_⟩⟩
    ·rw [itW_step]
     simp only [Iz,bl,a_f18,s_f18_l0_b,s_f18_l1_b,s_f18_l2_b,s_f18_l3_b,s_f18_l4_b,aa,reduceIte,reduceCtorEq,Nat.reduceEqDiff,Nat.reduceLT,Nat.reduceLeDiff,Nat.reduceBEq,Nat.reduceAdd,Nat.reduceMul,hp,a1,c1,c3,hpl,x1,x2,hlt',hwk,trim_same rfl,Bool.or_false,Bool.false_or]
    ·by_cases ej:j=k
     ·subst ej
      rw [decide_eq_false_iff_not] at e
      omega
     ·exact hq j (by omega)) 0 v (Nat.zero_le _) (fun e=>⟨e,fun j hj=>absurd hj (Nat.not_lt_zero _)⟩)
 refine ⟨v',?_,e3⟩
 rw [cast0] at e2
 refine e2.trans ?_
 rw [itW_step]
 simp only [Iz,bl,a_f18,s_f18_l0_b,s_f18_l1_b,s_f18_l2_b,s_f18_l3_b,s_f18_l4_b,aa,reduceIte,reduceCtorEq,Nat.reduceEqDiff,Nat.reduceLT,Nat.reduceLeDiff,Nat.reduceBEq,Nat.reduceAdd,Nat.reduceMul,hp,a1,c1,c3,hpl,Int.lt_irrefl,trim_same rfl]
set_option maxHeartbeats 2000000 in
theorem wd_l1 (base:Nat) {A A1:Heap} (h1:Ext A A1) {p:Nat} {fv:V} {fs:List FunD} (hp:getC A1 p 0=some [fv]) (hr:RdProg A fv fs) {i b k0:Nat} {cv:V} {l:List InsD} (hcv:RdL 8 RdIns A1 cv l) {x:InsD} (hx:l[k0]?=some x) (hn:x.xs.length < 2 ^ 20) (v:Bool):
 ∃ v',itW (evC (callW CT) itW base s_f18_l1) [] A1.length (frOf 121 [(1,.ref p 0 0),(3,bl v),(4,Iz i),(6,Iz b),(7,cv),(8,Iz k0),(9,Iz 0)]) A1=some (.ext 8,frOf 121 [(1,.ref p 0 0),(3,bl v'),(4,Iz i),(6,Iz b),(7,cv),(8,Iz k0),(9,Iz x.xs.length),(104,bl false)],A1)∧(v'=false→v=false∧∀ k,k < x.xs.length→(x.xs.getD k ⟨#[]⟩).size≤60):=by
 obtain ⟨a,r,a1,hrr,_,a3⟩:=hcv.at2 hx
 obtain ⟨av,lv,rfl,q1,q2,q3,q4,_⟩:=id hrr
 obtain ⟨c,c1,c2⟩:=a3 6 _ rfl
 have c3:=c2 A1 (Ext.refl _)
 have hpl:=Sb_len q1
 obtain ⟨v',e2,e3⟩:=it_rel (x.xs.length) (fun k (u:Bool)=>u=false→v=false∧∀ j,j < k→(x.xs.getD j ⟨#[]⟩).size≤60) (fun k (u:Bool)=>itW (evC (callW CT) itW base s_f18_l1) [] A1.length (frOf 121 [(1,.ref p 0 0),(3,bl u),(4,Iz i),(6,Iz b),(7,cv),(8,Iz k0),(9,Iz k)]) A1) (by
  intro k u hk hu
  have hlt':((k:Int) < ((x.xs.length:Nat):Int)):=by omega
  have hwk:=w64 (n:=k) (by omega)
  obtain ⟨y,y1,y2⟩:=Sb_at q1 q2 hk
  cases u with
  | true=>
    refine ⟨true,?_,fun e=>(by cases e)⟩
    rw [itW_step]
    simp only [Iz,bl,a_f18,s_f18_l0_b,s_f18_l1_b,s_f18_l2_b,s_f18_l3_b,s_f18_l4_b,aa,reduceIte,reduceCtorEq,Nat.reduceEqDiff,Nat.reduceLT,Nat.reduceLeDiff,Nat.reduceBEq,Nat.reduceAdd,Nat.reduceMul,a1,c1,c3,hpl,y1,y2,hlt',hwk,trim_same rfl]
  | false=>
    obtain ⟨hv0,hq⟩:=hu rfl
    refine ⟨decide (((x.xs.getD k ⟨#[]⟩).size:Int) > 60),?_,fun e=>⟨hv0,fun j hj=>?_⟩⟩
    ·rw [itW_step]
     simp only [Iz,bl,a_f18,s_f18_l0_b,s_f18_l1_b,s_f18_l2_b,s_f18_l3_b,s_f18_l4_b,aa,reduceIte,reduceCtorEq,Nat.reduceEqDiff,Nat.reduceLT,Nat.reduceLeDiff,Nat.reduceBEq,Nat.reduceAdd,Nat.reduceMul,a1,c1,c3,hpl,y1,y2,hlt',hwk,trim_same rfl,Bool.or_false,Bool.false_or]
    ·by_cases ej:j=k
     ·subst ej
      rw [decide_eq_false_iff_not] at e
      omega
     ·exact hq j (by omega)) 0 v (Nat.zero_le _) (fun e=>⟨e,fun j hj=>absurd hj (Nat.not_lt_zero _)⟩)
 refine ⟨v',?_,e3⟩
 rw [cast0] at e2
 refine e2.trans ?_
 rw [itW_step]
 simp only [Iz,bl,a_f18,s_f18_l0_b,s_f18_l1_b,s_f18_l2_b,s_f18_l3_b,s_f18_l4_b,aa,reduceIte,reduceCtorEq,Nat.reduceEqDiff,Nat.reduceLT,Nat.reduceLeDiff,Nat.reduceBEq,Nat.reduceAdd,Nat.reduceMul,a1,c1,c3,hpl,Int.lt_irrefl,trim_same rfl]
def SlimI (x:InsD):Prop:=x.d.size≤60∧x.a.size≤60∧x.b.size≤60∧∀ s∈x.xs,s.size≤60
set_option maxHeartbeats 2000000 in
theorem wd_l2 (base:Nat) {A A1:Heap} (h1:Ext A A1) {p:Nat} {fv:V} {fs:List FunD} (hp:getC A1 p 0=some [fv]) (hr:RdProg A fv fs) {i b:Nat} {cv:V} {l:List InsD} (hcv:RdL 8 RdIns A1 cv l) (hn:l.length < 2 ^ 20) (hxn:∀ x∈l,x.xs.length < 2 ^ 20) (v:Bool):
 ∃ v',itW (evC (callW CT) itW base s_f18_l2) [] A1.length (frOf 121 [(1,.ref p 0 0),(3,bl v),(4,Iz i),(6,Iz b),(7,cv),(8,Iz 0)]) A1=some (.ext 6,frOf 121 [(1,.ref p 0 0),(3,bl v'),(4,Iz i),(6,Iz b),(7,cv),(8,Iz l.length),(66,bl false)],A1)∧(v'=false→v=false∧∀ k,k < l.length→SlimI (l.getD k ins0)):=by
 have hcl:=hcv.len
 obtain ⟨v',e2,e3⟩:=it_rel (l.length) (fun k (u:Bool)=>u=false→v=false∧∀ j,j < k→SlimI (l.getD j ins0)) (fun k (u:Bool)=>itW (evC (callW CT) itW base s_f18_l2) [] A1.length (frOf 121 [(1,.ref p 0 0),(3,bl u),(4,Iz i),(6,Iz b),(7,cv),(8,Iz k)]) A1) (by
  intro k u hk hu
  have hlt':((k:Int) < ((l.length:Nat):Int)):=by omega
  have hwk:=w64 (n:=k) (by omega)
  have hkx:=some_getD hk ins0
  obtain ⟨x,hxe⟩:∃ x,l.getD k ins0=x:=⟨_,rfl⟩
  rw [hxe] at hkx
  have hmem:=List.mem_of_getElem? hkx
  obtain ⟨a,r,a1,hrr,_,a3⟩:=hcv.at2 hkx
  obtain ⟨av,lv,rfl,q1,q2,q3,q4,_⟩:=id hrr
  obtain ⟨d,d1,d2⟩:=a3 1 (Sb x.d) rfl
  obtain ⟨e,e1,e2⟩:=a3 2 (Sb x.a) rfl
  obtain ⟨f,f1,f2⟩:=a3 3 (Sb x.b) rfl
  have d3:=d2 A1 (Ext.refl _)
  have e3:=e2 A1 (Ext.refl _)
  have f3:=f2 A1 (Ext.refl _)
  simp only [Sb] at d3 e3 f3
  cases u with
  | true=>
    obtain ⟨w,w1,w2⟩:=wd_l1 (CT:=CT) base h1 hp hr (i:=i) (b:=b) (k0:=k) hcv hkx (hxn x hmem) true
    refine ⟨w,?_,fun e=>(by cases (w2 e).1)⟩
    rw [itW_step]
    simp only [Iz,bl] at w1
    simp only [Iz,bl,a_f18,s_f18_l0_b,s_f18_l1_b,s_f18_l2_b,s_f18_l3_b,s_f18_l4_b,aa,reduceIte,reduceCtorEq,Nat.reduceEqDiff,Nat.reduceLT,Nat.reduceLeDiff,Nat.reduceBEq,Nat.reduceAdd,Nat.reduceMul,a1,d1,d3,e1,e3,f1,f3,hcl,hlt',w1,hwk,trim_same rfl]
  | false=>
    obtain ⟨hv0,hq⟩:=hu rfl
    obtain ⟨w,w1,w2⟩:=wd_l1 (CT:=CT) base h1 hp hr (i:=i) (b:=b) (k0:=k) hcv hkx (hxn x hmem) ((decide ((x.d.size:Int) > 60) || decide ((x.a.size:Int) > 60)) || decide ((x.b.size:Int) > 60))
    refine ⟨w,?_,fun e=>⟨hv0,fun j hj=>?_⟩⟩
    ·rw [itW_step]
     simp only [Iz,bl] at w1
     simp only [Iz,bl,a_f18,s_f18_l0_b,s_f18_l1_b,s_f18_l2_b,s_f18_l3_b,s_f18_l4_b,aa,reduceIte,reduceCtorEq,Nat.reduceEqDiff,Nat.reduceLT,Nat.reduceLeDiff,Nat.reduceBEq,Nat.reduceAdd,Nat.reduceMul,a1,d1,d3,e1,e3,f1,f3,hcl,hlt',w1,hwk,trim_same rfl]
    ·by_cases ej:j=k
     ·subst ej
      rw [hxe]
      obtain ⟨g1,g2⟩:=w2 e
      simp only [Bool.or_eq_false_iff,decide_eq_false_iff_not] at g1
      exact ⟨by omega,by omega,by omega,all_getD (P:=fun s:ByteArray=>s.size≤60) g2⟩
     ·exact hq j (by omega)) 0 v (Nat.zero_le _) (fun e=>⟨e,fun j hj=>absurd hj (Nat.not_lt_zero _)⟩)
 refine ⟨v',?_,e3⟩
 rw [cast0] at e2
 refine e2.trans ?_
 rw [itW_step]
 simp only [Iz,bl,a_f18,s_f18_l0_b,s_f18_l1_b,s_f18_l2_b,s_f18_l3_b,s_f18_l4_b,aa,reduceIte,reduceCtorEq,Nat.reduceEqDiff,Nat.reduceLT,Nat.reduceLeDiff,Nat.reduceBEq,Nat.reduceAdd,Nat.reduceMul,hcl,Int.lt_irrefl,trim_same rfl]
set_option maxHeartbeats 2000000 in
theorem wd_l3 (base:Nat) {A A1:Heap} (h1:Ext A A1) {p:Nat} {fv:V} {fs:List FunD} (hp:getC A1 p 0=some [fv]) (hr:RdProg A fv fs) {i:Nat} {f:FunD} (hf:fs[i]?=some f) (hn:f.blocks.length < 2 ^ 20) (hnc:∀ b∈f.blocks,b.code.length < 2 ^ 20) (hxn:∀ b∈f.blocks,∀ x∈b.code,x.xs.length < 2 ^ 20) (v:Bool):
 ∃ v',itW (evC (callW CT) itW base s_f18_l3) [] A1.length (frOf 121 [(1,.ref p 0 0),(3,bl v),(4,Iz i),(6,Iz 0)]) A1=some (.ext 4,frOf 121 [(1,.ref p 0 0),(3,bl v'),(4,Iz i),(6,Iz f.blocks.length),(50,bl false)],A1)∧(v'=false→v=false∧∀ k,k < f.blocks.length→∀ x∈(f.blocks.getD k blk0).code,SlimI x):=by
 obtain ⟨a,r,a1,hrr,_,a3⟩:=(hr.ext h1).at2 hf
 obtain ⟨pv,bv,rfl,p1,p2,p3,hbv⟩:=id hrr
 obtain ⟨c,c1,c2⟩:=a3 2 _ rfl
 have c3:=c2 A1 (Ext.refl _)
 have hbl:=hbv.len
 obtain ⟨v',e2,e3⟩:=it_rel (f.blocks.length) (fun k (u:Bool)=>u=false→v=false∧∀ j,j < k→∀ x∈(f.blocks.getD j blk0).code,SlimI x) (fun k (u:Bool)=>itW (evC (callW CT) itW base s_f18_l3) [] A1.length (frOf 121 [(1,.ref p 0 0),(3,bl u),(4,Iz i),(6,Iz k)]) A1) (by
  intro k u hk hu
  have hlt':((k:Int) < ((f.blocks.length:Nat):Int)):=by omega
  have hwk:=w64 (n:=k) (by omega)
  have hkx:=some_getD hk blk0
  obtain ⟨x,hxe⟩:∃ x,f.blocks.getD k blk0=x:=⟨_,rfl⟩
  rw [hxe] at hkx
  have hmem:=List.mem_of_getElem? hkx
  obtain ⟨b,r2,b1,hb2,_,b3⟩:=hbv.at2 hkx
  obtain ⟨cv,rfl,hcv⟩:=hb2
  obtain ⟨d,d1,d2⟩:=b3 1 _ rfl
  have d3:=d2 A1 (Ext.refl _)
  obtain ⟨w,w1,w2⟩:=wd_l2 (CT:=CT) base h1 hp hr (i:=i) (b:=k) hcv (hnc x hmem) (hxn x hmem) u
  refine ⟨w,?_,fun e=>?_⟩
  ·rw [itW_step]
   simp only [Iz,bl] at w1
   simp only [Iz,bl,a_f18,s_f18_l0_b,s_f18_l1_b,s_f18_l2_b,s_f18_l3_b,s_f18_l4_b,aa,reduceIte,reduceCtorEq,Nat.reduceEqDiff,Nat.reduceLT,Nat.reduceLeDiff,Nat.reduceBEq,Nat.reduceAdd,Nat.reduceMul,hp,a1,c1,c3,hbl,hlt',b1,d1,d3,w1,hwk,trim_same rfl]
  ·obtain ⟨g1,g2⟩:=w2 e
   obtain ⟨hv0,hq⟩:=hu g1
   refine ⟨hv0,fun j hj=>?_⟩
   by_cases ej:j=k
   ·subst ej
    rw [hxe]
    exact all_getD g2
   ·exact hq j (by omega)) 0 v (Nat.zero_le _) (fun e=>⟨e,fun j hj=>absurd hj (Nat.not_lt_zero _)⟩)
 refine ⟨v',?_,e3⟩
 rw [cast0] at e2
 refine e2.trans ?_
 rw [itW_step]
 simp only [Iz,bl,a_f18,s_f18_l0_b,s_f18_l1_b,s_f18_l2_b,s_f18_l3_b,s_f18_l4_b,aa,reduceIte,reduceCtorEq,Nat.reduceEqDiff,Nat.reduceLT,Nat.reduceLeDiff,Nat.reduceBEq,Nat.reduceAdd,Nat.reduceMul,hp,a1,c1,c3,hbl,Int.lt_irrefl,trim_same rfl]
def SlimF (f:FunD):Prop:=(∀ s∈f.ps,s.size≤60)∧∀ b∈f.blocks,∀ x∈b.code,SlimI x
set_option maxHeartbeats 2000000 in
theorem wd_l4 (base:Nat) {A A1:Heap} (h1:Ext A A1) {p:Nat} {fv:V} {fs:List FunD} (hp:getC A1 p 0=some [fv]) (hr:RdProg A fv fs) (hs:Small fs) (v:Bool):
 ∃ v',itW (evC (callW CT) itW base s_f18_l4) [] A1.length (frOf 121 [(1,.ref p 0 0),(3,bl v),(4,Iz 0)]) A1=some (.ext 0,frOf 121 [(1,.ref p 0 0),(3,bl v'),(4,Iz fs.length),(14,bl false)],A1)∧(v'=false→v=false∧∀ k,k < fs.length→SlimF (fs.getD k fun0)):=by
 have hn:=hs.n
 have hfl:=(hr.ext h1).len
 obtain ⟨v',e2,e3⟩:=it_rel (fs.length) (fun k (u:Bool)=>u=false→v=false∧∀ j,j < k→SlimF (fs.getD j fun0)) (fun k (u:Bool)=>itW (evC (callW CT) itW base s_f18_l4) [] A1.length (frOf 121 [(1,.ref p 0 0),(3,bl u),(4,Iz k)]) A1) (by
  intro k u hk hu
  have hlt':((k:Int) < ((fs.length:Nat):Int)):=by omega
  have hwk:=w64 (n:=k) (by omega)
  have hkx:=some_getD hk fun0
  obtain ⟨x,hxe⟩:∃ x,fs.getD k fun0=x:=⟨_,rfl⟩
  rw [hxe] at hkx
  have hmem:=List.mem_of_getElem? hkx
  obtain ⟨w,w1,w2⟩:=wd_l0 (CT:=CT) base h1 hp hr (i:=k) hkx (hs.ps x hmem) u
  obtain ⟨y,y1,y2⟩:=wd_l3 (CT:=CT) base h1 hp hr (i:=k) hkx (hs.nb x hmem) (hs.nc x hmem) (hs.xs x hmem) w
  refine ⟨y,?_,fun e=>?_⟩
  ·rw [itW_step]
   simp only [Iz,bl] at w1 y1
   simp only [Iz,bl,a_f18,s_f18_l0_b,s_f18_l1_b,s_f18_l2_b,s_f18_l3_b,s_f18_l4_b,aa,reduceIte,reduceCtorEq,Nat.reduceEqDiff,Nat.reduceLT,Nat.reduceLeDiff,Nat.reduceBEq,Nat.reduceAdd,Nat.reduceMul,hp,hfl,hlt',w1,y1,hwk,trim_same rfl]
  ·obtain ⟨g1,g2⟩:=y2 e
   obtain ⟨g3,g4⟩:=w2 g1
   obtain ⟨hv0,hq⟩:=hu g3
   refine ⟨hv0,fun j hj=>?_⟩
   by_cases ej:j=k
   ·subst ej
    rw [hxe]
    exact ⟨all_getD (P:=fun s:ByteArray=>s.size≤60) g4,all_getD g2⟩
   ·exact hq j (by omega)) 0 v (Nat.zero_le _) (fun e=>⟨e,fun j hj=>absurd hj (Nat.not_lt_zero _)⟩)
 refine ⟨v',?_,e3⟩
 rw [cast0] at e2
 refine e2.trans ?_
 rw [itW_step]
 simp only [Iz,bl,a_f18,s_f18_l0_b,s_f18_l1_b,s_f18_l2_b,s_f18_l3_b,s_f18_l4_b,aa,reduceIte,reduceCtorEq,Nat.reduceEqDiff,Nat.reduceLT,Nat.reduceLeDiff,Nat.reduceBEq,Nat.reduceAdd,Nat.reduceMul,hp,hfl,Int.lt_irrefl,trim_same rfl]
theorem wide_fun (hT:CT k_f18=some (.code s_f18)) (base:Nat) {A:Heap} (hb:base≤A.length) {fv:V} {fs:List FunD} (hr:RdProg A fv fs) (hs:Small fs):
 ∃ b H',callW CT (.fn k_f18 [] []) [.agg [fv]] base A=some (.s (.bool b),H')∧Ext A H'∧(b=false→Slim fs):=by
 have hfo:=hr.one
 obtain ⟨A1,hA1⟩:∃ A1,A ++ [Ob.cells 0 [fv]]=A1:=⟨_,rfl⟩
 have l1:A1.length=A.length+1:=by rw [← hA1,len_snoc]
 have e1:Ext A A1:=hA1 ▸ Ext.app _ _
 have x1:getC A1 A.length 0=some [fv]:=hA1 ▸ getC_new A 0 _
 obtain ⟨w,w1,w2⟩:=wd_l4 (CT:=CT) base e1 x1 hr hs false
 refine ⟨w,A1,callW_fnA (c:=s_f18) (k:=1) hT rfl (by decide) s_f18_first ?_,e1,fun e=>?_⟩
 ·simp only [Iz,bl,l1] at w1
  simp only [Iz,bl,s_f18,a_f18,s_f18_l0_b,s_f18_l1_b,s_f18_l2_b,s_f18_l3_b,s_f18_l4_b,aa,reduceIte,reduceCtorEq,Nat.reduceEqDiff,Nat.reduceLT,Nat.reduceLeDiff,Nat.reduceBEq,Nat.reduceAdd,Nat.reduceMul,hfo,Bool.and_self,hA1,l1,w1]
 ·have g:=all_getD (P:=SlimF) (w2 e).2
  exact ⟨fun f hf=>(g f hf).1,fun f hf b hb x hx=>((g f hf).2 b hb x hx).1,fun f hf b hb x hx=>((g f hf).2 b hb x hx).2.1,fun f hf b hb x hx=>((g f hf).2 b hb x hx).2.2.1,fun f hf b hb x hx=>((g f hf).2 b hb x hx).2.2.2⟩
end
end Go.Proofs.YtamlbkalopefgaaR
set_option maxRecDepth 100000
namespace Go.Proofs.YtamlbkalopefgaaR
open Go.AM
theorem Grow.one {α:Type} {A C0:Heap} {q w:Nat} {P:Heap→List V→α→Prop} {xs:List α} {C:Heap} {v:V} (h:Grow A C0 q w P xs C v):v.one=true:=by
 obtain ⟨R,h1,_⟩:=h.rows
 exact h1.rd.one
section
variable {CT:Nat→Option CFun}
theorem rn_l2 (hV:CT k_f38=some (.code s_f38)) (base:Nat) {A C0:Heap} (hb:base≤A.length) (hA:Ext A C0) {p:Nat} {fv:V} {fs:List FunD} (hp:getC A p 0=some [fv]) (hr:RdProg A fv fs) {q9:Nat} (hq1:A.length≤q9) (hq2:q9 < C0.length) {w2 w4 i q b:Nat} {f:FunD} (hf:fs[i]?=some f) {B:BlkD} (hB:f.blocks[b]?=some B) {lb:ByteArray} (hsl:∀ x∈B.code,SlimI x) (hxn:∀ x∈B.code,x.xs.length < 2 ^ 20) (hz:getC C0 q9 0=some [Sb lb,nilS]) (hn:B.code.length < 2 ^ 20):
 ∃ C v,itW (evC (callW CT) itW base s_f19_l2) [] C0.length (frOf 182 [(1,.ref p 0 0),(2,.ref w2 0 0),(3,.fn k_f38 [] []),(4,.ref w4 0 0),(5,Iz i),(6,.ref q 0 0),(8,Iz b),(9,.ref q9 0 0),(10,Iz 0)]) C0=some (.ext 6,frOf 182 [(1,.ref p 0 0),(2,.ref w2 0 0),(3,.fn k_f38 [] []),(4,.ref w4 0 0),(5,Iz i),(6,.ref q 0 0),(8,Iz b),(9,.ref q9 0 0),(10,Iz B.code.length),(88,bl false)],C)∧Grow A C0 q9 8 RdIns (B.code.map renI) C v∧getC C q9 0=some [Sb lb,v]:=by
 obtain ⟨a,r,a1,hrr,_,a3⟩:=hr.at2 hf
 obtain ⟨pv,bv,rfl,p1,p2,p3,hbv⟩:=id hrr
 obtain ⟨c,c1,c2⟩:=a3 2 _ rfl
 obtain ⟨b1,rb,b2,hbb,_,b3⟩:=hbv.at2 hB
 obtain ⟨cv,rfl,hcv⟩:=id hbb
 obtain ⟨d,d1,d2⟩:=b3 1 _ rfl
 obtain ⟨C,e2,v,e3,e4⟩:=it_rel B.code.length (fun k C=>∃ v,Grow A C0 q9 8 RdIns ((B.code.take k).map renI) C v∧getC C q9 0=some [Sb lb,v]∧(C.length=C0.length∨∃ id g n,v=.sl id g 0 n 8∧C0.length≤id)) (fun k C=>itW (evC (callW CT) itW base s_f19_l2) [] C0.length (frOf 182 [(1,.ref p 0 0),(2,.ref w2 0 0),(3,.fn k_f38 [] []),(4,.ref w4 0 0),(5,Iz i),(6,.ref q 0 0),(8,Iz b),(9,.ref q9 0 0),(10,Iz k)]) C) (by
  intro k C hk ⟨v,e3,e4,e5⟩
  have hlt':((k:Int) < ((B.code.length:Nat):Int)):=by omega
  have hwk:=w64 (n:=k) (by omega)
  have hEA:Ext A C:=e3.ext
  have hbC0:base≤C0.length:=by have:=hA.le;omega
  have hbC:base≤C.length:=by have:=e3.len;omega
  have hbq:base≤q9:=by omega
  have hgg:∀ c,getC (C ++ [Ob.cells 0 c]) C.length 0=some c:=fun c=>getC_new C 0 c
  have hss:∀ c d,(C ++ [c]).set C.length d=C ++ [d]:=fun c d=>set_snoc C c d
  have eC:∀ c,Ext C (C ++ [Ob.cells 0 c]):=fun c=>Ext.app _ _
  have hgp:=getC_ext hp hEA
  have c3:=c2 C hEA
  have d3:=d2 C hEA
  have hpl:=(rdI_ext hcv hEA).len
  have hkx:=some_getD hk ins0
  obtain ⟨x,hxe⟩:∃ x,B.code.getD k ins0=x:=⟨_,rfl⟩
  rw [hxe] at hkx
  have hmem:=List.mem_of_getElem? hkx
  obtain ⟨s1,s2,s3,s4⟩:=hsl x hmem
  obtain ⟨y,re,g1,hee,g2,_⟩:=hcv.at2 hkx
  have ldx:=g2 C hEA
  obtain ⟨av,lv,rfl,q1,q2,q3,q4,_,q6⟩:=id hee
  have hav:=q1.one
  have hlv:=q3.one
  have v1:=fun D=>v_fun hV base D s1
  have v2:=fun D=>v_fun hV base D s2
  have v3:=fun D=>v_fun hV base D s3
  obtain ⟨C2,hC2⟩:∃ C2,C ++ [Ob.cells 0 (insC (renI x) nilS lv)]=C2:=⟨_,rfl⟩
  have lC2:C2.length=C.length+1:=by rw [← hC2];simp
  have eC2:Ext C C2:=hC2 ▸ eC _
  have hzC2:getC C2 C.length 0=some (insC (renI x) nilS lv):=hC2 ▸ hgg _
  obtain ⟨C3,v6,i1,i2,i3,i4,i5⟩:=rn_l1 hV base (A:=A) (C0:=C2) hb (hEA.trans eC2) (z:=C.length) (by have:=e3.ext.le;omega) (by omega) hp hr (w2:=w2) (w4:=w4) (q:=q) (b:=b) (q9:=q9) (k0:=k) hf hB hkx hlv hzC2 (hxn x hmem) s4
  have eC3:Ext C C3:=ext_of (by omega) fun j hj=>by
   rw [i5 j (by omega) (by omega)]
   obtain ⟨G,rfl⟩:=eC2
   exact List.getElem?_append_left hj
  have h6:=i2.one
  obtain ⟨id4,g4,n4,C4,st1,st2,st3,st4⟩:=e3.step (base:=base) (bytes:=128) hbC0 eC3 (r:=insC (renI x) v6 lv) (x:=renI x) rfl (by simp only [insC,List.all_cons,List.all_nil,h6,hlv,Bool.and_true];rfl) (fun H' hA' hk'=>⟨v6,lv,rfl,(OwnN.of i2 fun j j1 j2=>hk' j (by omega) j2).rd,(OwnN.of i2 fun j j1 j2=>hk' j (by omega) j2).wide,q3.ext hA',q4,by show (x.xs.map vB).length < 2 ^ 63;rw [List.length_map];have:=hxn x hmem;omega,q6⟩) (by rw [List.length_map,List.length_take];omega) hq1 hq2
  have hcq:getC C4 q9 0=some [Sb lb,v]:=by
   unfold getC at e4 ⊢
   rw [st2]
   obtain ⟨G,rfl⟩:=eC3
   rw [List.getElem?_append_left (by have:=e3.len;omega)]
   exact e4
  obtain ⟨E,hE⟩:∃ E,C4.set q9 (.cells 0 [Sb lb,(.sl id4 g4 0 n4 8)])=E:=⟨_,rfl⟩
  have hg:=st4 (.cells 0 [Sb lb,(.sl id4 g4 0 n4 8)])
  have hset:=getC_put (c':=[Sb lb,(.sl id4 g4 0 n4 8)]) hcq
  rw [hE] at hg hset
  have htr:=trim_box hset hq2 (id:=id4) (g':=g4) (n:=n4) (w:=8) (by simp) st3 (frOf 182 [(1,.ref p 0 0),(2,.ref w2 0 0),(3,.fn k_f38 [] []),(4,.ref w4 0 0),(5,Iz i),(6,.ref q 0 0),(8,Iz b),(9,.ref q9 0 0),(10,Iz (k+1:Nat))])
  refine ⟨E,?_,.sl id4 g4 0 n4 8,?_,hset,.inr ⟨id4,g4,n4,rfl,st3⟩⟩
  ·have ldz:xLoad C3 true 8 (.ref C.length 0 0)=some (.agg (insC (renI x) v6 lv)):=by rw [xo_ref,i3];rfl
   have h9:getC C3 q9 0=some [Sb lb,v]:=by
    obtain ⟨G,rfl⟩:=eC3
    exact getC_app e4
   have hvo:v.one=true:=e3.one
   rw [itW_step]
   simp only [insC,renI,Sb,Iz,bl,nilS,lC2] at ldx v1 v2 v3 hC2 i1 i3 ldz h9 st1 hcq hE htr
   simp only [Iz,bl,a_f19,s_f19_l0_b,s_f19_l1_b,s_f19_l2_b,s_f19_l3_b,s_f19_l4_b,aa,reduceIte,reduceCtorEq,Nat.reduceEqDiff,Nat.reduceLT,Nat.reduceLeDiff,Nat.reduceBEq,Nat.reduceAdd,Nat.reduceMul,hgp,a1,c1,c3,b2,d1,d3,hpl,g1,hlt',ldx,hbC,hgg,hss,hav,hlv,Bool.and_self,v1,v2,v3,hC2,lC2,i1,i3,h6,ldz,h9,hvo,st1,hcq,hbq,List.length_singleton,List.all_cons,List.all_nil,Bool.and_true,Bool.and_self,and_self,if_true,List.cons_append,List.nil_append,List.drop_succ_cons,List.drop_zero,hE,htr,hwk]
  ·rw [List.take_add_one,hkx,List.map_append]
   exact hg) 0 C0 (Nat.zero_le _) ⟨nilS,Grow.start hA _ _ _,hz,.inl rfl⟩
 obtain ⟨e4,e5⟩:=e4
 have hEA:Ext A C:=e3.ext
 have hgp:=getC_ext hp hEA
 have c3:=c2 C hEA
 have d3:=d2 C hEA
 have hpl:=(rdI_ext hcv hEA).len
 have htr:trim C0.length (frOf 182 [(1,.ref p 0 0),(2,.ref w2 0 0),(3,.fn k_f38 [] []),(4,.ref w4 0 0),(5,Iz i),(6,.ref q 0 0),(8,Iz b),(9,.ref q9 0 0),(10,Iz B.code.length),(88,bl false)]) C=C:=by
  rcases e5 with e5 | ⟨id,g,n,rfl,h⟩
  ·exact trim_same e5
  ·exact trim_box e4 hq2 (id:=id) (g':=g) (n:=n) (w:=8) (by simp) h _
 rw [List.take_length] at e3
 refine ⟨C,v,?_,e3,e4⟩
 rw [cast0] at e2
 refine e2.trans ?_
 rw [itW_step]
 simp only [Iz,bl] at htr
 simp only [Iz,bl,a_f19,s_f19_l0_b,s_f19_l1_b,s_f19_l2_b,s_f19_l3_b,s_f19_l4_b,aa,reduceIte,reduceCtorEq,Nat.reduceEqDiff,Nat.reduceLT,Nat.reduceLeDiff,Nat.reduceBEq,Nat.reduceAdd,Nat.reduceMul,hgp,a1,c1,c3,b2,d1,d3,hpl,Int.lt_irrefl,htr]
theorem rn_l3 (hV:CT k_f38=some (.code s_f38)) (base:Nat) {A C0:Heap} (hb:base≤A.length) (hA:Ext A C0) {p:Nat} {fv:V} {fs:List FunD} (hp:getC A p 0=some [fv]) (hr:RdProg A fv fs) {q:Nat} (hq1:A.length≤q) (hq2:q < C0.length) {w2 w4 i:Nat} {f:FunD} (hf:fs[i]?=some f) {nm:ByteArray} {pw:V} (hpw:pw.one=true) (hsl:∀ B∈f.blocks,∀ x∈B.code,SlimI x) (hnc:∀ B∈f.blocks,B.code.length < 2 ^ 20) (hxn:∀ B∈f.blocks,∀ x∈B.code,x.xs.length < 2 ^ 20) (hz:getC C0 q 0=some [Sb nm,pw,nilS]) (hn:f.blocks.length < 2 ^ 20):
 ∃ C v,itW (evC (callW CT) itW base s_f19_l3) [] C0.length (frOf 182 [(1,.ref p 0 0),(2,.ref w2 0 0),(3,.fn k_f38 [] []),(4,.ref w4 0 0),(5,Iz i),(6,.ref q 0 0),(8,Iz 0)]) C0=some (.ext 4,frOf 182 [(1,.ref p 0 0),(2,.ref w2 0 0),(3,.fn k_f38 [] []),(4,.ref w4 0 0),(5,Iz i),(6,.ref q 0 0),(8,Iz f.blocks.length),(62,bl false)],C)∧Grow A C0 q 2 RdBlk (f.blocks.map renK) C v∧getC C q 0=some [Sb nm,pw,v]:=by
 obtain ⟨a,r,a1,hrr,_,a3⟩:=hr.at2 hf
 obtain ⟨pv,bv,rfl,p1,p2,p3,hbv⟩:=id hrr
 obtain ⟨c,c1,c2⟩:=a3 2 _ rfl
 obtain ⟨C,e2,v,e3,e4⟩:=it_rel f.blocks.length (fun k C=>∃ v,Grow A C0 q 2 RdBlk ((f.blocks.take k).map renK) C v∧getC C q 0=some [Sb nm,pw,v]∧(C.length=C0.length∨∃ id g n,v=.sl id g 0 n 2∧C0.length≤id)) (fun k C=>itW (evC (callW CT) itW base s_f19_l3) [] C0.length (frOf 182 [(1,.ref p 0 0),(2,.ref w2 0 0),(3,.fn k_f38 [] []),(4,.ref w4 0 0),(5,Iz i),(6,.ref q 0 0),(8,Iz k)]) C) (by
  intro k C hk ⟨v,e3,e4,e5⟩
  have hlt':((k:Int) < ((f.blocks.length:Nat):Int)):=by omega
  have hwk:=w64 (n:=k) (by omega)
  have hEA:Ext A C:=e3.ext
  have hbC0:base≤C0.length:=by have:=hA.le;omega
  have hbC:base≤C.length:=by have:=e3.len;omega
  have hbq:base≤q:=by omega
  have hgg:∀ c,getC (C ++ [Ob.cells 0 c]) C.length 0=some c:=fun c=>getC_new C 0 c
  have hss:∀ c d,(C ++ [c]).set C.length d=C ++ [d]:=fun c d=>set_snoc C c d
  have eC:∀ c,Ext C (C ++ [Ob.cells 0 c]):=fun c=>Ext.app _ _
  have hgp:=getC_ext hp hEA
  have c3:=c2 C hEA
  have hpl:=(rdB_ext hbv hEA).len
  have hkx:=some_getD hk blk0
  obtain ⟨B,hBe⟩:∃ B,f.blocks.getD k blk0=B:=⟨_,rfl⟩
  rw [hBe] at hkx
  have hmem:=List.mem_of_getElem? hkx
  obtain ⟨b1,rb,b2,hbb,_,b3⟩:=hbv.at2 hkx
  obtain ⟨cv,rfl,hcv⟩:=id hbb
  obtain ⟨d,d1,d2⟩:=b3 0 _ rfl
  have d3:=d2 C hEA
  obtain ⟨C2,hC2⟩:∃ C2,C ++ [Ob.cells 0 [Sb B.label,nilS]]=C2:=⟨_,rfl⟩
  have lC2:C2.length=C.length+1:=by rw [← hC2];simp
  have eC2:Ext C C2:=hC2 ▸ eC _
  have hzC2:getC C2 C.length 0=some [Sb B.label,nilS]:=hC2 ▸ hgg _
  obtain ⟨C3,v6,i1,i2,i3⟩:=rn_l2 hV base (A:=A) (C0:=C2) hb (hEA.trans eC2) hp hr (q9:=C.length) (by have:=e3.ext.le;omega) (by omega) (w2:=w2) (w4:=w4) (q:=q) (b:=k) hf hkx (hsl B hmem) (hxn B hmem) hzC2 (hnc B hmem)
  have eC3:Ext C C3:=ext_of (by have:=i2.len;omega) fun j hj=>by
   rw [i2.old j (by omega) (by omega)]
   obtain ⟨G,rfl⟩:=eC2
   exact List.getElem?_append_left hj
  have h6:=i2.one
  obtain ⟨id4,g4,n4,C4,st1,st2,st3,st4⟩:=e3.step (base:=base) (bytes:=40) hbC0 eC3 (r:=[Sb B.label,v6]) (x:=renK B) rfl (by simp only [List.all_cons,List.all_nil,h6,Bool.and_true];rfl) (fun H' hA' hk'=>⟨v6,rfl,i2.done (by rw [List.length_map];have:=hnc B hmem;omega) H' hA' fun j j1 j2=>hk' j (by omega) j2⟩) (by rw [List.length_map,List.length_take];omega) hq1 hq2
  have hcq:getC C4 q 0=some [Sb nm,pw,v]:=by
   unfold getC at e4 ⊢
   rw [st2]
   obtain ⟨G,rfl⟩:=eC3
   rw [List.getElem?_append_left (by have:=e3.len;omega)]
   exact e4
  obtain ⟨E,hE⟩:∃ E,C4.set q (.cells 0 [Sb nm,pw,(.sl id4 g4 0 n4 2)])=E:=⟨_,rfl⟩
  have hg:=st4 (.cells 0 [Sb nm,pw,(.sl id4 g4 0 n4 2)])
  have hset:=getC_put (c':=[Sb nm,pw,(.sl id4 g4 0 n4 2)]) hcq
  rw [hE] at hg hset
  have htr:=trim_box hset hq2 (id:=id4) (g':=g4) (n:=n4) (w:=2) (by simp) st3 (frOf 182 [(1,.ref p 0 0),(2,.ref w2 0 0),(3,.fn k_f38 [] []),(4,.ref w4 0 0),(5,Iz i),(6,.ref q 0 0),(8,Iz (k+1:Nat))])
  refine ⟨E,?_,.sl id4 g4 0 n4 2,?_,hset,.inr ⟨id4,g4,n4,rfl,st3⟩⟩
  ·have ldz:xLoad C3 true 2 (.ref C.length 0 0)=some (.agg [Sb B.label,v6]):=by rw [xo_ref,i3];rfl
   have h9:getC C3 q 0=some [Sb nm,pw,v]:=by
    obtain ⟨G,rfl⟩:=eC3
    exact getC_app e4
   have hvo:v.one=true:=e3.one
   rw [itW_step]
   simp only [Sb,Iz,bl,nilS,lC2] at hC2 i1 i3 ldz h9 st1 hcq hE htr d3
   simp only [Iz,bl,a_f19,s_f19_l0_b,s_f19_l1_b,s_f19_l2_b,s_f19_l3_b,s_f19_l4_b,aa,reduceIte,reduceCtorEq,Nat.reduceEqDiff,Nat.reduceLT,Nat.reduceLeDiff,Nat.reduceBEq,Nat.reduceAdd,Nat.reduceMul,hgp,a1,c1,c3,hpl,b2,d1,d3,hlt',hbC,hgg,hss,hC2,lC2,i1,i3,h6,ldz,h9,hvo,hpw,st1,hcq,hbq,List.length_singleton,List.all_cons,List.all_nil,Bool.and_true,Bool.and_self,and_self,if_true,List.cons_append,List.nil_append,List.drop_succ_cons,List.drop_zero,hE,htr,hwk]
  ·rw [List.take_add_one,hkx,List.map_append]
   exact hg) 0 C0 (Nat.zero_le _) ⟨nilS,Grow.start hA _ _ _,hz,.inl rfl⟩
 obtain ⟨e4,e5⟩:=e4
 have hEA:Ext A C:=e3.ext
 have hgp:=getC_ext hp hEA
 have c3:=c2 C hEA
 have hpl:=(rdB_ext hbv hEA).len
 have htr:trim C0.length (frOf 182 [(1,.ref p 0 0),(2,.ref w2 0 0),(3,.fn k_f38 [] []),(4,.ref w4 0 0),(5,Iz i),(6,.ref q 0 0),(8,Iz f.blocks.length),(62,bl false)]) C=C:=by
  rcases e5 with e5 | ⟨id,g,n,rfl,h⟩
  ·exact trim_same e5
  ·exact trim_box e4 hq2 (id:=id) (g':=g) (n:=n) (w:=2) (by simp) h _
 rw [List.take_length] at e3
 refine ⟨C,v,?_,e3,e4⟩
 rw [cast0] at e2
 refine e2.trans ?_
 rw [itW_step]
 simp only [Iz,bl] at htr
 simp only [Iz,bl,a_f19,s_f19_l0_b,s_f19_l1_b,s_f19_l2_b,s_f19_l3_b,s_f19_l4_b,aa,reduceIte,reduceCtorEq,Nat.reduceEqDiff,Nat.reduceLT,Nat.reduceLeDiff,Nat.reduceBEq,Nat.reduceAdd,Nat.reduceMul,hgp,a1,c1,c3,hpl,Int.lt_irrefl,htr]
theorem rn_l4 (hV:CT k_f38=some (.code s_f38)) (base:Nat) {A C0:Heap} (hb:base≤A.length) (hA:Ext A C0) {p:Nat} {fv:V} {fs:List FunD} (hp:getC A p 0=some [fv]) (hr:RdProg A fv fs) {w4:Nat} (hq1:A.length≤w4) (hq2:w4 < C0.length) {w2:Nat} (hs:Small fs) (hsl:∀ f∈fs,SlimF f) (hz:getC C0 w4 0=some [nilS]) (hn:fs.length < 2 ^ 20):
 ∃ C v,itW (evC (callW CT) itW base s_f19_l4) [] C0.length (frOf 182 [(1,.ref p 0 0),(2,.ref w2 0 0),(3,.fn k_f38 [] []),(4,.ref w4 0 0),(5,Iz 0)]) C0=some (.ext 0,frOf 182 [(1,.ref p 0 0),(2,.ref w2 0 0),(3,.fn k_f38 [] []),(4,.ref w4 0 0),(5,Iz fs.length),(17,bl false)],C)∧Grow A C0 w4 3 RdFun (fs.map renF) C v∧getC C w4 0=some [v]:=by
 obtain ⟨C,e2,v,e3,e4⟩:=it_rel fs.length (fun k C=>∃ v,Grow A C0 w4 3 RdFun ((fs.take k).map renF) C v∧getC C w4 0=some [v]∧(C.length=C0.length∨∃ id g n,v=.sl id g 0 n 3∧C0.length≤id)) (fun k C=>itW (evC (callW CT) itW base s_f19_l4) [] C0.length (frOf 182 [(1,.ref p 0 0),(2,.ref w2 0 0),(3,.fn k_f38 [] []),(4,.ref w4 0 0),(5,Iz k)]) C) (by
  intro k C hk ⟨v,e3,e4,e5⟩
  have hlt':((k:Int) < ((fs.length:Nat):Int)):=by omega
  have hwk:=w64 (n:=k) (by omega)
  have hEA:Ext A C:=e3.ext
  have hbC0:base≤C0.length:=by have:=hA.le;omega
  have hbC:base≤C.length:=by have:=e3.len;omega
  have hbq:base≤w4:=by omega
  have hgg:∀ c,getC (C ++ [Ob.cells 0 c]) C.length 0=some c:=fun c=>getC_new C 0 c
  have hss:∀ c d,(C ++ [c]).set C.length d=C ++ [d]:=fun c d=>set_snoc C c d
  have eC:∀ c,Ext C (C ++ [Ob.cells 0 c]):=fun c=>Ext.app _ _
  have hgp:=getC_ext hp hEA
  have hpl:=(RdProg.ext hr hEA).len
  have hkx:=some_getD hk fun0
  obtain ⟨f,hfe⟩:∃ f,fs.getD k fun0=f:=⟨_,rfl⟩
  rw [hfe] at hkx
  have hmem:=List.mem_of_getElem? hkx
  obtain ⟨a,r,a1,hrr,_,a3⟩:=hr.at2 hkx
  obtain ⟨pv,bv,rfl,p1,p2,p3,hbv⟩:=id hrr
  obtain ⟨c,c1,c2⟩:=a3 0 _ rfl
  have c3:=c2 C hEA
  obtain ⟨C2,hC2⟩:∃ C2,C ++ [Ob.cells 0 [Sb f.name,nilS,nilS]]=C2:=⟨_,rfl⟩
  have lC2:C2.length=C.length+1:=by rw [← hC2];simp
  have eC2:Ext C C2:=hC2 ▸ eC _
  have hzC2:getC C2 C.length 0=some [Sb f.name,nilS,nilS]:=hC2 ▸ hgg _
  obtain ⟨C5,v5,j1,j2,j3,j4,j5⟩:=rn_l0 hV base (A:=A) (C0:=C2) hb (hEA.trans eC2) (q:=C.length) (by have:=e3.ext.le;omega) (by omega) hp hr (w2:=w2) (w4:=w4) hkx (y:=nilS) rfl hzC2 (hs.ps f hmem) (hsl f hmem).1
  have eC5:Ext C C5:=ext_of (by omega) fun j hj=>by
   rw [j5 j (by omega) (by omega)]
   obtain ⟨G,rfl⟩:=eC2
   exact List.getElem?_append_left hj
  obtain ⟨C3,v6,i1,i2,i3⟩:=rn_l3 hV base (A:=A) (C0:=C5) hb (hEA.trans eC5) hp hr (q:=C.length) (by have:=e3.ext.le;omega) (by omega) (w2:=w2) (w4:=w4) hkx j2.one (hsl f hmem).2 (hs.nc f hmem) (hs.xs f hmem) j3 (hs.nb f hmem)
  have eC3:Ext C C3:=ext_of (by have:=i2.len;omega) fun j hj=>by
   rw [i2.old j (by omega) (by omega)]
   obtain ⟨G,rfl⟩:=eC5
   exact List.getElem?_append_left hj
  have h5:=j2.one
  have h6:=i2.one
  obtain ⟨id4,g4,n4,C4,st1,st2,st3,st4⟩:=e3.step (base:=base) (bytes:=64) hbC0 eC3 (r:=[Sb f.name,v5,v6]) (x:=renF f) rfl (by simp only [List.all_cons,List.all_nil,h5,h6,Bool.and_true];rfl) (fun H' hA' hk'=>by
   have ho:OwnN C2.length H' v5 ((f.ps.map vB).map Sb):=OwnN.of j2 fun j m1 m2=>by
    rw [hk' j (by omega) (by have:=i2.len;omega)]
    exact i2.old j m2 (by omega)
   exact ⟨v5,v6,rfl,ho.rd,ho.wide,by show (f.ps.map vB).length < 2 ^ 63;rw [List.length_map];have:=hs.ps f hmem;omega,i2.done (by rw [List.length_map];have:=hs.nb f hmem;omega) H' hA' fun j m1 m2=>hk' j (by omega) m2⟩) (by rw [List.length_map,List.length_take];omega) hq1 hq2
  have hcq:getC C4 w4 0=some [v]:=by
   unfold getC at e4 ⊢
   rw [st2]
   obtain ⟨G,rfl⟩:=eC3
   rw [List.getElem?_append_left (by have:=e3.len;omega)]
   exact e4
  obtain ⟨E,hE⟩:∃ E,C4.set w4 (.cells 0 [(.sl id4 g4 0 n4 3)])=E:=⟨_,rfl⟩
  have hg:=st4 (.cells 0 [(.sl id4 g4 0 n4 3)])
  have hset:=getC_put (c':=[(.sl id4 g4 0 n4 3)]) hcq
  rw [hE] at hg hset
  have htr:=trim_box hset hq2 (id:=id4) (g':=g4) (n:=n4) (w:=3) (by simp) st3 (frOf 182 [(1,.ref p 0 0),(2,.ref w2 0 0),(3,.fn k_f38 [] []),(4,.ref w4 0 0),(5,Iz (k+1:Nat))])
  refine ⟨E,?_,.sl id4 g4 0 n4 3,?_,hset,.inr ⟨id4,g4,n4,rfl,st3⟩⟩
  ·have ldz:xLoad C3 true 3 (.ref C.length 0 0)=some (.agg [Sb f.name,v5,v6]):=by rw [xo_ref,i3];rfl
   have h9:getC C3 w4 0=some [v]:=by
    obtain ⟨G,rfl⟩:=eC3
    exact getC_app e4
   have hvo:v.one=true:=e3.one
   rw [itW_step]
   simp only [Sb,Iz,bl,nilS,lC2] at hC2 j1 j3 i1 i3 ldz h9 st1 hcq hE htr c3
   simp only [Iz,bl,a_f19,s_f19_l0_b,s_f19_l1_b,s_f19_l2_b,s_f19_l3_b,s_f19_l4_b,aa,reduceIte,reduceCtorEq,Nat.reduceEqDiff,Nat.reduceLT,Nat.reduceLeDiff,Nat.reduceBEq,Nat.reduceAdd,Nat.reduceMul,hgp,hpl,a1,c1,c3,hlt',hbC,hgg,hss,hC2,lC2,j1,j3,i1,i3,h5,h6,ldz,h9,hvo,st1,hcq,hbq,List.length_singleton,List.all_cons,List.all_nil,Bool.and_true,Bool.and_self,and_self,if_true,List.cons_append,List.nil_append,List.drop_succ_cons,List.drop_zero,hE,htr,hwk]
  ·rw [List.take_add_one,hkx,List.map_append]
   exact hg) 0 C0 (Nat.zero_le _) ⟨nilS,Grow.start hA _ _ _,hz,.inl rfl⟩
 obtain ⟨e4,e5⟩:=e4
 have hEA:Ext A C:=e3.ext
 have hgp:=getC_ext hp hEA
 have hpl:=(RdProg.ext hr hEA).len
 have htr:trim C0.length (frOf 182 [(1,.ref p 0 0),(2,.ref w2 0 0),(3,.fn k_f38 [] []),(4,.ref w4 0 0),(5,Iz fs.length),(17,bl false)]) C=C:=by
  rcases e5 with e5 | ⟨id,g,n,rfl,h⟩
  ·exact trim_same e5
  ·exact trim_box e4 hq2 (id:=id) (g':=g) (n:=n) (w:=3) (by simp) h _
 rw [List.take_length] at e3
 refine ⟨C,v,?_,e3,e4⟩
 rw [cast0] at e2
 refine e2.trans ?_
 rw [itW_step]
 simp only [Iz,bl] at htr
 simp only [Iz,bl,a_f19,s_f19_l0_b,s_f19_l1_b,s_f19_l2_b,s_f19_l3_b,s_f19_l4_b,aa,reduceIte,reduceCtorEq,Nat.reduceEqDiff,Nat.reduceLT,Nat.reduceLeDiff,Nat.reduceBEq,Nat.reduceAdd,Nat.reduceMul,hgp,hpl,Int.lt_irrefl,htr]
theorem renamed_fun (hV:CT k_f38=some (.code s_f38)) (hT:CT k_f19=some (.code s_f19)) (base:Nat) {A:Heap} (hb:base≤A.length) {fv:V} {fs:List FunD} (hr:RdProg A fv fs) (hs:Small fs) (hsl:∀ f∈fs,SlimF f):
 ∃ v H',callW CT (.fn k_f19 [] []) [.agg [fv]] base A=some (.agg [v],H')∧Ext A H'∧RdProg H' v (fs.map renF):=by
 have hfo:=hr.one
 obtain ⟨A1,hA1⟩:∃ A1,A ++ [Ob.cells 0 [fv]]=A1:=⟨_,rfl⟩
 have l1:A1.length=A.length+1:=by rw [← hA1,len_snoc]
 obtain ⟨A2,hA2⟩:∃ A2,A1 ++ [Ob.cells 0 [nilS]]=A2:=⟨_,rfl⟩
 have l2:A2.length=A.length+2:=by rw [← hA2,len_snoc,l1]
 obtain ⟨A3,hA3⟩:∃ A3,A2 ++ [Ob.cells 0 [nilS]]=A3:=⟨_,rfl⟩
 have l3:A3.length=A.length+3:=by rw [← hA3,len_snoc,l2]
 have e1:Ext A A1:=hA1 ▸ Ext.app _ _
 have e2:Ext A1 A2:=hA2 ▸ Ext.app _ _
 have e3:Ext A2 A3:=hA3 ▸ Ext.app _ _
 have x1:getC A1 A.length 0=some [fv]:=hA1 ▸ getC_new A 0 _
 have x2:getC A3 (A.length+1) 0=some [nilS]:=getC_ext (by rw [← l1,← hA2];exact getC_new A1 0 _) e3
 have x4:getC A3 (A.length+2) 0=some [nilS]:=by rw [← l2,← hA3];exact getC_new A2 0 _
 obtain ⟨C,v,i1,i2,i3⟩:=rn_l4 hV base (A:=A1) (C0:=A3) (by omega) (e2.trans e3) (p:=A.length) x1 (hr.ext e1) (w4:=A.length+2) (by omega) (by omega) (w2:=A.length+1) hs hsl x4 hs.n
 have hv:=i2.one
 have x2C:getC C (A.length+1) 0=some [nilS]:=by
  unfold getC at x2 ⊢
  rw [i2.old _ (by omega) (by omega)]
  exact x2
 have hb1:base≤A.length+1:=by omega
 obtain ⟨R,w1,_⟩:=i2.rows
 have hcell:v.cells=[v]:=by
  obtain ⟨_,⟨_,rfl⟩ | ⟨id,g,rfl,_⟩⟩:=w1 <;> rfl
 obtain ⟨E,hE⟩:∃ E,C.set (A.length+1) (.cells 0 [v])=E:=⟨_,rfl⟩
 have hset:=getC_put (c':=[v]) x2C
 rw [hE] at hset
 have eE:Ext A E:=hE ▸ (e1.trans i2.ext).set (by omega) _
 have ld4:xLoad C true 1 (.ref (A.length+2) 0 0)=some (.agg [v]):=by rw [xo_ref,i3];rfl
 have ldE:loadV E true 1 (.ref (A.length+1) 0 0)=some (.agg [v]):=by
  show xLoad _ true 1 _=_
  rw [xo_ref,hset];rfl
 refine ⟨v,E,callW_fnA (c:=s_f19) (k:=1) hT rfl (by decide) s_f19_first ?_,eE,?_⟩
 ·simp only [Iz,bl,nilS,l3,cast0] at hA2 hA3 i1 x2C
  simp only [Iz,bl,nilS,s_f19,a_f19,s_f19_l0_b,s_f19_l1_b,s_f19_l2_b,s_f19_l3_b,s_f19_l4_b,aa,reduceIte,reduceCtorEq,Nat.reduceEqDiff,Nat.reduceLT,Nat.reduceLeDiff,Nat.reduceBEq,Nat.reduceAdd,Nat.reduceMul,hfo,Bool.and_self,hA1,l1,hA2,l2,hA3,l3,i1,ld4,x2C,hb1,hv,hcell,hE,List.length_singleton,List.all_cons,List.all_nil,Bool.and_true,Bool.and_self,and_self,if_true,List.cons_append,List.nil_append,List.drop_succ_cons,List.drop_zero]
  rw [ldE]
  rfl
 ·refine i2.done (by rw [List.length_map];have:=hs.n;omega) E ?_ fun j j1 j2=>?_
  ·exact hE ▸ i2.ext.set (by omega) _
  ·rw [← hE,List.getElem?_set_ne (by omega)]
end
end Go.Proofs.YtamlbkalopefgaaR
set_option maxRecDepth 100000
namespace Go.Proofs.YtamlbkalopefgaaR
open Go.AM
section
variable {CT:Nat→Option CFun}
set_option maxHeartbeats 4000000 in
theorem renamed_law (h:LawT CT) (hW:CT k_f18=some (.code s_f18)) (hV:CT k_f38=some (.code s_f38)) (hR:CT k_f19=some (.code s_f19)) (hT:CT k_f6=some (.code s_f6)) (base:Nat) {A:Heap} (hb:base≤A.length) {fv:V} {fs:List FunD} (hr:RdProg A fv fs):
 ∃ H',callW CT (.fn k_f6 [] []) [.agg [fv]] base A=some (bl true,H'):=by
 have hfo:=hr.one
 obtain ⟨A1,hA1⟩:∃ A1,A ++ [Ob.cells 0 [fv]]=A1:=⟨_,rfl⟩
 have l1:A1.length=A.length+1:=by rw [← hA1,len_snoc]
 have e1:Ext A A1:=hA1 ▸ Ext.app _ _
 have x1:getC A1 A.length 0=some [fv]:=hA1 ▸ getC_new A 0 _
 have ld1:∀ D,Ext A1 D→xLoad D true 1 (.ref A.length 0 0)=some (.agg [fv]):=fun D hD=>by rw [xo_ref,getC_ext x1 hD];rfl
 have le1:=ld1 A1 (Ext.refl _)
 obtain ⟨b1,B1,c1,d1,w1⟩:=heavy_fun h.long h.heavy base (by omega) (hr.ext e1)
 have run:=fun {H':Heap} (hh:_)=>callW_fnA (CP:=CT) (c:=s_f6) (k:=1) (f:=k_f6) (fst:=[]) (cap:=[]) (args:=[.agg [fv]]) (base:=base) (H:=A) (r:=(bl true,H')) hT rfl (by decide) s_f6_first hh
 have leB:=ld1 B1 d1
 cases b1 with
 | true=>
   refine ⟨_,run (H':=B1) ?_⟩
   simp only [Iz,bl,s_f6,a_f6,aa,reduceIte,reduceCtorEq,Nat.reduceEqDiff,Nat.reduceLT,Nat.reduceLeDiff,Nat.reduceBEq,Nat.reduceAdd,Nat.reduceMul,hfo,Bool.and_self,hA1,l1,le1,c1]
 | false=>
   have hs:=(w1 rfl).small
   obtain ⟨b2,B2,c2,d2,w2⟩:=wide_fun hW base (A:=B1) (by have:=d1.le;omega) (hr.ext (e1.trans d1)) hs
   cases b2 with
   | true=>
     refine ⟨_,run (H':=B2) ?_⟩
     simp only [Iz,bl,s_f6,a_f6,aa,reduceIte,reduceCtorEq,Nat.reduceEqDiff,Nat.reduceLT,Nat.reduceLeDiff,Nat.reduceBEq,Nat.reduceAdd,Nat.reduceMul,hfo,Bool.and_self,hA1,l1,le1,c1,leB,c2]
   | false=>
     have sl:=w2 rfl
     have dB:=d1.trans d2
     have leC:=ld1 B2 dB
     have hbB:base≤B2.length:=by have:=dB.le;omega
     obtain ⟨C1,k1,t1⟩:=first_fun h.R h.first base hbB (hr.ext (e1.trans dB)) hs 2
     rw [resP_val] at k1
     obtain ⟨tA,htA⟩:∃ t,(firstN fs 2).getD (0,0,0)=t:=⟨_,rfl⟩
     obtain ⟨iA,hiA⟩:∃ b,(firstN fs 2).isSome=b:=⟨_,rfl⟩
     rw [htA,hiA] at k1
     obtain ⟨D1,hD1⟩:∃ D1,C1 ++ [Ob.cells 0 [Iz tA.1,Iz tA.2.1,Iz tA.2.2]]=D1:=⟨_,rfl⟩
     have eD1:Ext C1 D1:=hD1 ▸ Ext.app _ _
     have hbC1:base≤C1.length:=by have:=t1.le;omega
     have hbD1:base≤D1.length:=by have:=eD1.le;omega
     have dD:=dB.trans (t1.trans eD1)
     have leD:=ld1 D1 dD
     obtain ⟨C2,k2,t2⟩:=first_fun h.R h.first base hbD1 (hr.ext (e1.trans dD)) hs 9
     rw [resP_val] at k2
     obtain ⟨tB,htB⟩:∃ t,(firstN fs 9).getD (0,0,0)=t:=⟨_,rfl⟩
     obtain ⟨iB,hiB⟩:∃ b,(firstN fs 9).isSome=b:=⟨_,rfl⟩
     rw [htB,hiB] at k2
     obtain ⟨D2,hD2⟩:∃ D2,C2 ++ [Ob.cells 0 [Iz tB.1,Iz tB.2.1,Iz tB.2.2]]=D2:=⟨_,rfl⟩
     have eD2:Ext C2 D2:=hD2 ▸ Ext.app _ _
     have hbC2:base≤C2.length:=by have:=t2.le;omega
     have hbD2:base≤D2.length:=by have:=eD2.le;omega
     have dE:=dD.trans (t2.trans eD2)
     have hg1:∀ c,getC (C1 ++ [Ob.cells 0 c]) C1.length 0=some c:=fun c=>getC_new C1 0 c
     have hs1:∀ c d,(C1 ++ [c]).set C1.length d=C1 ++ [d]:=fun c d=>set_snoc C1 c d
     have hg2:∀ c,getC (C2 ++ [Ob.cells 0 c]) C2.length 0=some c:=fun c=>getC_new C2 0 c
     have hs2:∀ c d,(C2 ++ [c]).set C2.length d=C2 ++ [d]:=fun c d=>set_snoc C2 c d
     have z2:((2:Nat):Int)=2:=rfl
     have z9:((9:Nat):Int)=9:=rfl
     simp only [Iz,z2] at k1 hD1
     simp only [Iz,z9] at k2 hD2
     have chk:∀ E,Ext A1 E→∃ E',callW CT (.fn k_f9 [] []) [] base E=some (.s (.bool true),E')∧Ext E E':=fun E hE=>checks_fun h.R h.first h.check h.checks base (by have:=hE.le;omega)
     cases iA with
     | true=>
       obtain ⟨E',k3,_⟩:=chk D2 dE
       refine ⟨_,run (H':=E') ?_⟩
       simp only [Iz,bl,s_f6,a_f6,aa,reduceIte,reduceCtorEq,Nat.reduceEqDiff,Nat.reduceLT,Nat.reduceLeDiff,Nat.reduceBEq,Nat.reduceAdd,Nat.reduceMul,hfo,Bool.and_self,hA1,l1,le1,c1,leB,c2,leC,k1,hbC1,hg1,hs1,hD1,leD,k2,hbC2,hg2,hs2,hD2,k3]
     | false=>
       cases iB with
       | true=>
         obtain ⟨E',k3,_⟩:=chk D2 dE
         refine ⟨_,run (H':=E') ?_⟩
         simp only [Iz,bl,s_f6,a_f6,aa,reduceIte,reduceCtorEq,Nat.reduceEqDiff,Nat.reduceLT,Nat.reduceLeDiff,Nat.reduceBEq,Nat.reduceAdd,Nat.reduceMul,hfo,Bool.and_self,hA1,l1,le1,c1,leB,c2,leC,k1,hbC1,hg1,hs1,hD1,leD,k2,hbC2,hg2,hs2,hD2,k3]
       | false=>
         have hn2:firstN fs 2=none:=by
          cases ho:firstN fs 2 with
          | none=>rfl
          | some t=>rw [ho] at hiA;cases hiA
         have slF:∀ f∈fs,SlimF f:=fun f hf=>⟨sl.ps f hf,fun b hb x hx=>⟨sl.d f hf b hb x hx,sl.a f hf b hb x hx,sl.b f hf b hb x hx,sl.xs f hf b hb x hx⟩⟩
         have leE:=ld1 D2 dE
         obtain ⟨v,E1,k3,t3,rv⟩:=renamed_fun hV hR D2.length (A:=D2) (Nat.le_refl _) (hr.ext (e1.trans dE)) hs slF
         have hsr:Small (fs.map renF):=by
          refine ⟨by rw [List.length_map];exact hs.n,fun f hf=>?_,fun f hf=>?_,fun f hf b hb=>?_,fun f hf b hb x hx=>?_,fun f hf b hb x hx=>?_⟩ <;> (obtain ⟨g,hg,rfl⟩:=List.mem_map.1 hf)
          ·rw [len_ren];exact hs.ps g hg
          ·show (g.blocks.map renK).length < _;rw [List.length_map];exact hs.nb g hg
          ·obtain ⟨b',hb',rfl⟩:=List.mem_map.1 (show b∈g.blocks.map renK from hb)
           show (b'.code.map renI).length < _;rw [List.length_map];exact hs.nc g hg b' hb'
          ·obtain ⟨b',hb',rfl⟩:=List.mem_map.1 (show b∈g.blocks.map renK from hb)
           obtain ⟨x',hx',rfl⟩:=List.mem_map.1 (show x∈b'.code.map renI from hx)
           show (x'.xs.map vB).length < _;rw [List.length_map];exact hs.xs g hg b' hb' x' hx'
          ·obtain ⟨b',hb',rfl⟩:=List.mem_map.1 (show b∈g.blocks.map renK from hb)
           obtain ⟨x',hx',rfl⟩:=List.mem_map.1 (show x∈b'.code.map renI from hx)
           exact hs.ls g hg b' hb' x' hx'
         obtain ⟨r1,u1,E2,k4,t4,q1⟩:=check_fun h.R h.first h.check E1.length (A:=E1) (Nat.le_refl _) rv hsr
         have dF:=dE.trans (t3.trans t4)
         have leF:=ld1 E2 dF
         obtain ⟨r2,u2,E3,k5,t5,q2⟩:=check_fun h.R h.first h.check base (A:=E2) (by have:=dF.le;omega) (hr.ext (e1.trans dF)) hs
         obtain ⟨rfl,rfl⟩:=q2.same q1 fun n=>first_ren sl hn2 n
         obtain ⟨E4,k6,_⟩:=chk E3 (dF.trans t5)
         have heq:eqLeaves [Leaf.int .u8,Leaf.int .i64,Leaf.int .i64,Leaf.int .i64] [V.s (.int .u8 (r1:Nat)),V.s (.int .i64 (u1.1:Nat)),V.s (.int .i64 (u1.2.1:Nat)),V.s (.int .i64 (u1.2.2:Nat))] [V.s (.int .u8 (r1:Nat)),V.s (.int .i64 (u1.1:Nat)),V.s (.int .i64 (u1.2.1:Nat)),V.s (.int .i64 (u1.2.2:Nat))]=some true:=by simp [eqLeaves,eqLeaf]
         refine ⟨_,run (H':=E4) ?_⟩
         simp only [wrV,Iz] at k4 k5
         simp only [Iz,bl,s_f6,a_f6,aa,reduceIte,reduceCtorEq,Nat.reduceEqDiff,Nat.reduceLT,Nat.reduceLeDiff,Nat.reduceBEq,Nat.reduceAdd,Nat.reduceMul,hfo,Bool.and_self,hA1,l1,le1,c1,leB,c2,leC,k1,hbC1,hg1,hs1,hD1,leD,k2,hbC2,hg2,hs2,hD2,leE,k3,k4,leF,k5,heq,k6]
end
end Go.Proofs.YtamlbkalopefgaaR
