/- Texts of the proof: NmS4, NamK2, NamK3, NamK4, NamK5. -/
import Derived.Test.YtamlbkalopefgaaRP0
import Derived.Test.YtamlbkalopefgaaRP1
import Derived.Test.YtamlbkalopefgaaRP2
import Derived.Test.YtamlbkalopefgaaRP3
import Derived.Test.YtamlbkalopefgaaRP4
import Derived.Test.YtamlbkalopefgaaRP5
set_option linter.all false
set_option maxRecDepth 100000
namespace Go.Proofs.YtamlbkalopefgaaR
open Go.AM
abbrev k_f4:Nat:=4
def K4_0:List Nat:=[0] ++ List.range' 2 262
def A4_0_0:=hQ K4_0 0
def A4_0_1:=hK K4_0 1
def A4_0_2:=hQ K4_0 2
def R4_0t1:LO:=[⟨some 2,.move (.c (.s (.bool false))),none⟩]
def R4_0p0:LO:=[⟨some 1,.box (.t 0),none⟩]
def R4_0:LO:=R4_0p0 ++ R4_0t1
def K4_0p0:List Nat:=[0] ++ List.range' 2 262
def A4_0p0_0:=hQ K4_0p0 0
def A4_0p0_1:=hK K4_0p0 1
def A4_0p0_2:=hQ K4_0p0 2
theorem X4_0 (call:CallF) (it:IterF) (base:Nat) (f:List V) (H:Heap):evC call it base (.region R4_0 [] K4_0) f H=thenC call it base (.region R4_0t1 [] K4_0) (opsC [] R4_0p0 K4_0p0 (evOps call base [⟨some 1,.box (.t 0),none⟩] f H)):=(row_op call it base R4_0p0 R4_0t1 (kc:=K4_0p0) (by kernel_rfl) f H).trans (by rw [row_ops];rfl)
def T4_0t1:=hT R4_0t1 K4_0 [] 3 [] [] [.cc (.s (.bool false))]
def X4_0t1:=hL R4_0t1 K4_0 []
def R4_1t1:LO:=[⟨some 21,.call (.c (.fn 10 [] [])) [.t 20],none⟩]
def R4_1p0:LO:=[⟨some 20,.load true 1 (.t 1),none⟩]
def R4_1:LO:=R4_1p0 ++ R4_1t1
def T4_1p0:=hT R4_1p0 [] [20] 21 [] [(20,.op (.load true 1 (.t 0)) [.t 1])] [sb []]
def X4_1:=hS R4_1 R4_1p0 R4_1t1 [] [20] [20]
def X4_1t1:=hX R4_1t1 [20] [⟨some 21,.call (.c (.fn 10 [] [])) [.t 20],none⟩]
def R4_2:LO:=[⟨some 2,.move (.c (.s (.bool true))),none⟩]
def T4_2:=hT R4_2 [1,21] [2] 3 [] [(2,.c (.s (.bool true)))] [.cc (.s (.bool true))]
def R4_3t3:LO:=[⟨none,.store 4 (.t 3) (.t 23),none⟩]
def R4_3t2:LO:=⟨some 3,.alloc [.s (.int .u8 0),.s (.int .i64 0),.s (.int .i64 0),.s (.int .i64 0)],none⟩ :: R4_3t3
def R4_3t1:LO:=⟨some 23,.call (.c (.fn 11 [] [])) [.t 22],none⟩ :: R4_3t2
def R4_3p0:LO:=[⟨some 22,.load true 1 (.t 1),none⟩]
def R4_3:LO:=R4_3p0 ++ R4_3t1
def T4_3p0:=hT R4_3p0 [21] [22] 23 [] [(22,.op (.load true 1 (.t 0)) [.t 1])] [sb []]
def X4_3:=hS R4_3 R4_3p0 R4_3t1 [21] [22] [21,22,23]
def X4_3t1:=hP R4_3t1 R4_3t2 [22] [21,22,23] ⟨some 23,.call (.c (.fn 11 [] [])) [.t 22],none⟩
def X4_3t2:=hP R4_3t2 R4_3t3 [] [21,22,23] ⟨some 3,.alloc [.s (.int .u8 0),.s (.int .i64 0),.s (.int .i64 0),.s (.int .i64 0)],none⟩
def X4_3t3:=hX R4_3t3 [21,22,23] [⟨none,.store 4 (.t 3) (.t 23),none⟩]
def R4_4:LO:=[oF 24 0 3,oL 25 24,⟨some 26,.bin .neq (.t 25) (.c (.s (.int .u8 0))),none⟩]
def T4_4:=hT R4_4 [24,25] [26] 27 [] [(26,.op (.bin .neq (.t 0) (.c (.s (.int .u8 0)))) [.op (.load false 1 (.t 0)) [.op (.fieldAddr 0 (.t 0)) [.t 3]],.c (.s (.int .u8 0))])] [sb [0,0],sb [0],sb []]
def R4_5t5:LO:=[oM 5 33]
def R4_5t4:LO:=⟨none,.store 3 (.t 4) (.t 32),none⟩ :: R4_5t5
def R4_5t3:LO:=⟨some 4,.alloc [.s (.int .i64 0),.s (.int .i64 0),.s (.int .i64 0)],none⟩ :: R4_5t4
def R4_5p2:LO:=[oM 27 31,⟨some 32,.extract (.t 27) 0,none⟩,⟨some 33,.extract (.t 27) 1,none⟩]
def R4_5t2:LO:=R4_5p2 ++ R4_5t3
def R4_5t1:LO:=⟨some 31,.call (.c (.fn 12 [] [])) [.t 28,.t 30],none⟩ :: R4_5t2
def R4_5p0:LO:=[⟨some 28,.load true 1 (.t 1),none⟩,oF 29 0 3,oL 30 29]
def R4_5:LO:=R4_5p0 ++ R4_5t1
def T4_5p0:=hT R4_5p0 [26,29] [28,30] 31 [] [(28,.op (.load true 1 (.t 0)) [.t 1]),(30,.op (.load false 1 (.t 0)) [.op (.fieldAddr 0 (.t 0)) [.t 3]])] [sb [],.sub 1 [0] [],.sub 1 [] []]
def X4_5:=hS R4_5 R4_5p0 R4_5t1 [26,29] [28,30] [26,27,28,29,30,31,32,33]
def X4_5t1:=hP R4_5t1 R4_5t2 [28,30] [26,27,28,29,30,31,32,33] ⟨some 31,.call (.c (.fn 12 [] [])) [.t 28,.t 30],none⟩
def T4_5p2:=hT R4_5p2 [27,31] [32,33] 34 [] [(32,.op (.extract (.t 0) 0) [.t 31]),(33,.op (.extract (.t 0) 1) [.t 31])] [.tt 31,sb [],.sub 1 [] []]
def X4_5t2:=hS R4_5t2 R4_5p2 R4_5t3 [27,31] [32,33] [26,27,28,29,30,31,32,33]
def X4_5t3:=hP R4_5t3 R4_5t4 [] [26,27,28,29,30,31,32,33] ⟨some 4,.alloc [.s (.int .i64 0),.s (.int .i64 0),.s (.int .i64 0)],none⟩
def X4_5t4:=hP R4_5t4 R4_5t5 [32] [26,27,28,29,30,31,32,33] ⟨none,.store 3 (.t 4) (.t 32),none⟩
def T4_5t5:=hT R4_5t5 [26,27,28,29,30,31,32,33] [5] 6 [] [(5,.t 33)] [.tt 33]
def X4_5t5:=hL R4_5t5 [26,27,28,29,30,31,32,33] [5]
def R4_6:LO:=[⟨some 6,.move (.c (.s (.int .u8 1))),none⟩]
def T4_6:=hT R4_6 [] [6] 7 [] [(6,.c (.s (.int .u8 1)))] [.cc (.s (.int .u8 1))]
def R4_7:LO:=[oM 34 6,oF 35 0 3,oL 36 35,⟨some 37,.bin .lss (.t 34) (.t 36),none⟩]
def T4_7:=hT R4_7 [34,35,36] [37] 38 [] [(37,.op (.bin .lss (.t 0) (.t 1)) [.t 6,.op (.load false 1 (.t 0)) [.op (.fieldAddr 0 (.t 0)) [.t 3]]])] [.tt 6,sb [1,0],sb [1],sb []]
def R4_8t5:LO:=[oM 8 45]
def R4_8t4:LO:=⟨none,.store 3 (.t 7) (.t 44),none⟩ :: R4_8t5
def R4_8t3:LO:=⟨some 7,.alloc [.s (.int .i64 0),.s (.int .i64 0),.s (.int .i64 0)],none⟩ :: R4_8t4
def R4_8p2:LO:=[oM 40 43,⟨some 44,.extract (.t 40) 0,none⟩,⟨some 45,.extract (.t 40) 1,none⟩]
def R4_8t2:LO:=R4_8p2 ++ R4_8t3
def R4_8t1:LO:=⟨some 43,.call (.c (.fn 12 [] [])) [.t 41,.t 42],none⟩ :: R4_8t2
def R4_8p0:LO:=[⟨some 41,.load true 1 (.t 1),none⟩,oM 42 6]
def R4_8:LO:=R4_8p0 ++ R4_8t1
def T4_8p0:=hT R4_8p0 [37] [41,42] 43 [] [(41,.op (.load true 1 (.t 0)) [.t 1]),(42,.t 6)] [sb [],.tt 6]
def X4_8:=hS R4_8 R4_8p0 R4_8t1 [37] [41,42] [7,37,40,41,42,43,44,45]
def X4_8t1:=hP R4_8t1 R4_8t2 [41,42] [7,37,40,41,42,43,44,45] ⟨some 43,.call (.c (.fn 12 [] [])) [.t 41,.t 42],none⟩
def T4_8p2:=hT R4_8p2 [40,43] [44,45] 46 [] [(44,.op (.extract (.t 0) 0) [.t 43]),(45,.op (.extract (.t 0) 1) [.t 43])] [.tt 43,sb [],.sub 1 [] []]
def X4_8t2:=hS R4_8t2 R4_8p2 R4_8t3 [40,43] [44,45] [7,37,40,41,42,43,44,45]
def X4_8t3:=hP R4_8t3 R4_8t4 [] [7,37,40,41,42,43,44,45] ⟨some 7,.alloc [.s (.int .i64 0),.s (.int .i64 0),.s (.int .i64 0)],none⟩
def X4_8t4:=hP R4_8t4 R4_8t5 [7,44] [7,37,40,41,42,43,44,45] ⟨none,.store 3 (.t 7) (.t 44),none⟩
def T4_8t5:=hT R4_8t5 [7,37,40,41,42,43,44,45] [8] 9 [] [(8,.t 45)] [.tt 45]
def X4_8t5:=hL R4_8t5 [7,37,40,41,42,43,44,45] [8]
def R4_9:LO:=[oM 46 8]
def T4_9:=hT R4_9 [8] [46] 47 [] [(46,.t 8)] [.tt 8]
def R4_10:LO:=[⟨some 2,.move (.c (.s (.bool false))),none⟩]
def T4_10:=hT R4_10 [1,3,4,5,6,46] [2] 3 [] [(2,.c (.s (.bool false)))] [.cc (.s (.bool false))]
def R4_11:LO:=[oM 38 6,⟨some 39,.bin .add (.t 38) (.c (.s (.int .u8 1))),none⟩,oM 6 39]
def T4_11:=hT R4_11 [38,39,46] [6] 40 [] [(6,.op (.bin .add (.t 0) (.c (.s (.int .u8 1)))) [.t 6,.c (.s (.int .u8 1))])] [.tt 6,sb [],sb []]
def s_f4_l0_b:ACode:=
 (.seq (.seq (.regionE R4_7 [34,35,36] [37])
 (.cond (.t 37)
 .skip
 (.exit 0)))
 (.seq (.block 1
 (.seq (.region R4_8 [] [7,37,40,41,42,43,44,45])
 (.seq (.regionE R4_9 [8] [46])
 (.cond (.t 46)
 (.seq (.regionE R4_10 [1,3,4,5,6,46] [2])
 .ret)
 .skip))))
 (.regionE R4_11 [38,39,46] [6])))
def s_f4_l0:ACode:=s_f4_l0_b
def s_f4_l0_ev:=hE s_f4_l0 s_f4_l0_b
def R4_12t2:LO:=[⟨some 56,.pick (.t 54) (.t 55) (.c (.s (.bool false))),none⟩,oM 2 56]
def R4_12t1:LO:=⟨some 55,.call (.c (.fn 9 [] [])) [],some (54,true)⟩ :: R4_12t2
def R4_12p0:LO:=[oM 47 5,oM 48 47,⟨some 49,.load true 3 (.t 4),some (48,true)⟩,gF 50 1 3 48 true,⟨some 51,.load true 3 (.t 50),some (48,true)⟩,⟨some 52,.eqAgg false [.int .i64,.int .i64,.int .i64] (.t 49) (.t 51),some (48,true)⟩,⟨some 53,.pick (.t 48) (.t 52) (.c (.s (.bool false))),none⟩,oM 54 53]
def R4_12:LO:=R4_12p0 ++ R4_12t1
def T4_12p0:=hT R4_12p0 [1,3,4,5,6,37,47,48,49,50,51,52,53] [54] 55 [] [(54,.pick (.t 5) (.op (.eqAgg false [.int .i64,.int .i64,.int .i64] (.t 0) (.t 1)) [.op (.load true 3 (.t 0)) [.t 4],.op (.load true 3 (.t 0)) [.op (.fieldAddr 1 (.t 0)) [.t 3]]]) (.c (.s (.bool false))))] [.tt 5,.tt 5,.sub 0 [1,0] [48],.sub 0 [1,1,0] [48],.sub 0 [1,1] [48],.sub 0 [1] [48],sb [],sb []]
def X4_12:=hS R4_12 R4_12p0 R4_12t1 [1,3,4,5,6,37,47,48,49,50,51,52,53] [54] [1,3,4,5,6,37,47,48,49,50,51,52,53,54,55,56]
def X4_12t1:=hP R4_12t1 R4_12t2 [] [1,3,4,5,6,37,47,48,49,50,51,52,53,54,55,56] ⟨some 55,.call (.c (.fn 9 [] [])) [],some (54,true)⟩
def T4_12t2:=hT R4_12t2 [1,3,4,5,6,37,47,48,49,50,51,52,53,54,55,56] [2] 57 [] [(2,.pick (.t 54) (.t 55) (.c (.s (.bool false))))] [sb [],sb []]
def X4_12t2:=hL R4_12t2 [1,3,4,5,6,37,47,48,49,50,51,52,53,54,55,56] [2]
def R4_13:LO:=[⟨some 9,.move (.c (.s (.int .i64 0))),none⟩]
def T4_13:=hT R4_13 [3,26] [9] 10 [] [(9,.c (.s (.int .i64 0)))] [.cc (.s (.int .i64 0))]
def R4_14:LO:=[⟨some 10,.move (.c (.s (.int .i64 0))),none⟩]
def T4_14:=hT R4_14 [] [10] 11 [] [(10,.c (.s (.int .i64 0)))] [.cc (.s (.int .i64 0))]
def R4_15:LO:=[oM 57 10,oF 58 0 1,oL 59 58,⟨some 60,.lenS .s (.t 59),none⟩,⟨some 61,.bin .lss (.t 57) (.t 60),none⟩]
def T4_15:=hT R4_15 [57,58,59,60] [61] 62 [] [(61,.op (.bin .lss (.t 0) (.t 1)) [.t 10,.op (.lenS .s (.t 0)) [.op (.load false 1 (.t 0)) [.op (.fieldAddr 0 (.t 0)) [.t 1]]]])] [.tt 10,sb [1,0,0],sb [1,0],sb [1],sb []]
def R4_16t2:LO:=[⟨none,.store 3 (.t 11) (.t 68),none⟩]
def R4_16t1:LO:=⟨some 11,.alloc [.s (.string ⟨#[]⟩),.s (.slice none 0 0),.s (.slice none 0 0)],none⟩ :: R4_16t2
def R4_16p0:LO:=[oF 64 0 1,oL 65 64,oM 66 10,⟨some 67,.indexAddr 3 (.t 65) (.t 66),none⟩,⟨some 68,.load true 3 (.t 67),none⟩]
def R4_16:LO:=R4_16p0 ++ R4_16t1
def T4_16p0:=hT R4_16p0 [61,64,65,66,67] [68] 69 [] [(68,.op (.load true 3 (.t 0)) [.op (.indexAddr 3 (.t 0) (.t 1)) [.op (.load false 1 (.t 0)) [.op (.fieldAddr 0 (.t 0)) [.t 1]],.t 10]])] [sb [0,0,0],sb [0,0],.tt 10,sb [0],sb []]
def X4_16:=hS R4_16 R4_16p0 R4_16t1 [61,64,65,66,67] [68] [61,64,65,66,67,68]
def X4_16t1:=hP R4_16t1 R4_16t2 [] [61,64,65,66,67,68] ⟨some 11,.alloc [.s (.string ⟨#[]⟩),.s (.slice none 0 0),.s (.slice none 0 0)],none⟩
def X4_16t2:=hX R4_16t2 [61,64,65,66,67,68] [⟨none,.store 3 (.t 11) (.t 68),none⟩]
def R4_17:LO:=[oF 69 0 11,oL 70 69,⟨some 71,.bin .eql (.t 70) (.c (.s (.string ⟨#[109,97,105,110]⟩))),none⟩]
def T4_17:=hT R4_17 [69,70] [71] 72 [] [(71,.op (.bin .eql (.t 0) (.c (.s (.string ⟨#[109,97,105,110]⟩)))) [.op (.load false 1 (.t 0)) [.op (.fieldAddr 0 (.t 0)) [.t 11]],.c (.s (.string ⟨#[109,97,105,110]⟩))])] [sb [0,0],sb [0],sb []]
def R4_18:LO:=[oM 72 9,⟨some 73,.bin .add (.t 72) (.c (.s (.int .i64 1))),none⟩,oM 9 73]
def T4_18:=hT R4_18 [71,72,73] [9] 74 [] [(9,.op (.bin .add (.t 0) (.c (.s (.int .i64 1)))) [.t 9,.c (.s (.int .i64 1))])] [.tt 9,sb [],sb []]
def R4_19:LO:=[oF 74 1 11,oL 75 74,⟨some 76,.lenS .s (.t 75),none⟩,⟨some 77,.bin .gtr (.t 76) (.c (.s (.int .i64 0))),none⟩]
def T4_19:=hT R4_19 [74,75,76] [77] 78 [] [(77,.op (.bin .gtr (.t 0) (.c (.s (.int .i64 0)))) [.op (.lenS .s (.t 0)) [.op (.load false 1 (.t 0)) [.op (.fieldAddr 1 (.t 0)) [.t 11]]],.c (.s (.int .i64 0))])] [sb [0,0,0],sb [0,0],sb [0],sb []]
def R4_20:LO:=[⟨some 2,.move (.c (.s (.bool false))),none⟩]
def T4_20:=hT R4_20 [1,9,10,11,77] [2] 3 [] [(2,.c (.s (.bool false)))] [.cc (.s (.bool false))]
def R4_21t7:LO:=[⟨some 87,.bin .neq (.t 86) (.c (.s (.int .i64 1))),some (82,false)⟩,⟨some 88,.pick (.t 82) (.c (.s (.bool true))) (.t 87),none⟩,oM 89 88,gF 90 2 11 89 false,gL 91 90 89 false,⟨some 92,.lenS .s (.t 91),some (89,false)⟩,⟨some 93,.bin .eql (.t 92) (.c (.s (.int .i64 0))),some (89,false)⟩,⟨some 94,.pick (.t 89) (.c (.s (.bool true))) (.t 93),none⟩]
def R4_21t6:LO:=⟨some 86,.call (.c (.fn 13 [] [])) [.t 83,.t 85],some (82,false)⟩ :: R4_21t7
def R4_21t5:LO:=gL 85 84 82 false :: R4_21t6
def R4_21t4:LO:=gF 84 0 11 82 false :: R4_21t5
def R4_21t3:LO:=⟨some 83,.load true 1 (.t 1),some (82,false)⟩ :: R4_21t4
def R4_21p2:LO:=[⟨some 81,.un .not (.t 80),none⟩,oM 82 81]
def R4_21t2:LO:=R4_21p2 ++ R4_21t3
def R4_21t1:LO:=⟨some 80,.call (.c (.fn 7 [] [])) [.t 79],none⟩ :: R4_21t2
def R4_21p0:LO:=[oF 78 0 11,oL 79 78]
def R4_21:LO:=R4_21p0 ++ R4_21t1
def T4_21p0:=hT R4_21p0 [71,77,78] [79] 80 [] [(79,.op (.load false 1 (.t 0)) [.op (.fieldAddr 0 (.t 0)) [.t 11]])] [sb [0],sb []]
def X4_21:=hS R4_21 R4_21p0 R4_21t1 [71,77,78] [79] [71,77,78,79,80,81,82,83,84,85,86,87,88,89,90,91,92,93]
def X4_21t1:=hP R4_21t1 R4_21t2 [79] [71,77,78,79,80,81,82,83,84,85,86,87,88,89,90,91,92,93] ⟨some 80,.call (.c (.fn 7 [] [])) [.t 79],none⟩
def T4_21p2:=hT R4_21p2 [80,81] [82] 83 [] [(82,.op (.un .not (.t 0)) [.t 80])] [sb [],sb []]
def X4_21t2:=hS R4_21t2 R4_21p2 R4_21t3 [80,81] [82] [71,77,78,79,80,81,82,83,84,85,86,87,88,89,90,91,92,93]
def X4_21t3:=hP R4_21t3 R4_21t4 [] [71,77,78,79,80,81,82,83,84,85,86,87,88,89,90,91,92,93] ⟨some 83,.load true 1 (.t 1),some (82,false)⟩
def X4_21t4:=hP R4_21t4 R4_21t5 [] [71,77,78,79,80,81,82,83,84,85,86,87,88,89,90,91,92,93] ⟨some 84,.fieldAddr 0 (.t 11),some (82,false)⟩
def X4_21t5:=hP R4_21t5 R4_21t6 [84] [71,77,78,79,80,81,82,83,84,85,86,87,88,89,90,91,92,93] ⟨some 85,.load false 1 (.t 84),some (82,false)⟩
def X4_21t6:=hP R4_21t6 R4_21t7 [83,85] [71,77,78,79,80,81,82,83,84,85,86,87,88,89,90,91,92,93] ⟨some 86,.call (.c (.fn 13 [] [])) [.t 83,.t 85],some (82,false)⟩
def T4_21t7:=hT R4_21t7 [71,77,78,79,80,81,82,83,84,85,86,87,88,89,90,91,92,93] [94] 95 [] [(94,.pick (.pick (.t 82) (.c (.s (.bool true))) (.op (.bin .neq (.t 0) (.c (.s (.int .i64 1)))) [.t 86,.c (.s (.int .i64 1))])) (.c (.s (.bool true))) (.op (.bin .eql (.t 0) (.c (.s (.int .i64 0)))) [.op (.lenS .s (.t 0)) [.op (.load false 1 (.t 0)) [.op (.fieldAddr 2 (.t 0)) [.t 11]]],.c (.s (.int .i64 0))]))] [.sub 0 [0,2] [82],sb [0],sb [0],.sub 0 [2,0,0,0] [89],.sub 0 [2,0,0] [89],.sub 0 [2,0] [89],.sub 0 [2] [89],sb []]
def X4_21t7:=hL R4_21t7 [71,77,78,79,80,81,82,83,84,85,86,87,88,89,90,91,92,93] [94]
def R4_22:LO:=[⟨some 2,.move (.c (.s (.bool false))),none⟩]
def T4_22:=hT R4_22 [1,9,10,11,94] [2] 3 [] [(2,.c (.s (.bool false)))] [.cc (.s (.bool false))]
def R4_23:LO:=[⟨some 12,.move (.c (.s (.int .i64 0))),none⟩]
def T4_23:=hT R4_23 [94] [12] 13 [] [(12,.c (.s (.int .i64 0)))] [.cc (.s (.int .i64 0))]
def R4_24:LO:=[oM 95 12,oF 96 2 11,oL 97 96,⟨some 98,.lenS .s (.t 97),none⟩,⟨some 99,.bin .lss (.t 95) (.t 98),none⟩]
def T4_24:=hT R4_24 [95,96,97,98] [99] 100 [] [(99,.op (.bin .lss (.t 0) (.t 1)) [.t 12,.op (.lenS .s (.t 0)) [.op (.load false 1 (.t 0)) [.op (.fieldAddr 2 (.t 0)) [.t 11]]]])] [.tt 12,sb [1,0,0],sb [1,0],sb [1],sb []]
def R4_25:LO:=[oF 102 2 11,oL 103 102,oM 104 12,⟨some 105,.indexAddr 2 (.t 103) (.t 104),none⟩,oF 106 1 105,oL 107 106,oM 13 107]
def T4_25:=hT R4_25 [99,102,103,104,105,106,107] [13] 108 [] [(13,.op (.load false 1 (.t 0)) [.op (.fieldAddr 1 (.t 0)) [.op (.indexAddr 2 (.t 0) (.t 1)) [.op (.load false 1 (.t 0)) [.op (.fieldAddr 2 (.t 0)) [.t 11]],.t 12]]])] [sb [0,0,0,0],sb [0,0,0],.tt 12,sb [0,0],sb [0],sb [],sb []]
def R4_26t9:LO:=[⟨some 120,.bin .neq (.t 119) (.c (.s (.int .i64 1))),some (111,false)⟩,⟨some 121,.pick (.t 111) (.c (.s (.bool true))) (.t 120),none⟩]
def R4_26t8:LO:=⟨some 119,.call (.c (.fn 14 [] [])) [.t 112,.t 118],some (111,false)⟩ :: R4_26t9
def R4_26t7:LO:=gL 118 117 111 false :: R4_26t8
def R4_26t6:LO:=gF 117 0 116 111 false :: R4_26t7
def R4_26t5:LO:=⟨some 116,.indexAddr 2 (.t 114) (.t 115),some (111,false)⟩ :: R4_26t6
def R4_26t4:LO:=gM 115 12 111 false :: R4_26t5
def R4_26t3:LO:=gL 114 113 111 false :: R4_26t4
def R4_26t2:LO:=gF 113 2 11 111 false :: R4_26t3
def R4_26t1:LO:=⟨some 112,.load true 3 (.t 11),some (111,false)⟩ :: R4_26t2
def R4_26p0:LO:=[oM 108 13,⟨some 109,.lenS .s (.t 108),none⟩,⟨some 110,.bin .eql (.t 109) (.c (.s (.int .i64 0))),none⟩,oM 111 110]
def R4_26:LO:=R4_26p0 ++ R4_26t1
def T4_26p0:=hT R4_26p0 [108,109,110] [111] 112 [] [(111,.op (.bin .eql (.t 0) (.c (.s (.int .i64 0)))) [.op (.lenS .s (.t 0)) [.t 13],.c (.s (.int .i64 0))])] [.tt 13,sb [0],sb [],sb []]
def X4_26:=hS R4_26 R4_26p0 R4_26t1 [108,109,110] [111] [108,109,110,111,112,113,114,115,116,117,118,119,120]
def X4_26t1:=hP R4_26t1 R4_26t2 [] [108,109,110,111,112,113,114,115,116,117,118,119,120] ⟨some 112,.load true 3 (.t 11),some (111,false)⟩
def X4_26t2:=hP R4_26t2 R4_26t3 [] [108,109,110,111,112,113,114,115,116,117,118,119,120] ⟨some 113,.fieldAddr 2 (.t 11),some (111,false)⟩
def X4_26t3:=hP R4_26t3 R4_26t4 [113] [108,109,110,111,112,113,114,115,116,117,118,119,120] ⟨some 114,.load false 1 (.t 113),some (111,false)⟩
def X4_26t4:=hP R4_26t4 R4_26t5 [] [108,109,110,111,112,113,114,115,116,117,118,119,120] ⟨some 115,.move (.t 12),some (111,false)⟩
def X4_26t5:=hP R4_26t5 R4_26t6 [114,115] [108,109,110,111,112,113,114,115,116,117,118,119,120] ⟨some 116,.indexAddr 2 (.t 114) (.t 115),some (111,false)⟩
def X4_26t6:=hP R4_26t6 R4_26t7 [116] [108,109,110,111,112,113,114,115,116,117,118,119,120] ⟨some 117,.fieldAddr 0 (.t 116),some (111,false)⟩
def X4_26t7:=hP R4_26t7 R4_26t8 [117] [108,109,110,111,112,113,114,115,116,117,118,119,120] ⟨some 118,.load false 1 (.t 117),some (111,false)⟩
def X4_26t8:=hP R4_26t8 R4_26t9 [112,118] [108,109,110,111,112,113,114,115,116,117,118,119,120] ⟨some 119,.call (.c (.fn 14 [] [])) [.t 112,.t 118],some (111,false)⟩
def T4_26t9:=hT R4_26t9 [108,109,110,111,112,113,114,115,116,117,118,119,120] [121] 122 [] [(121,.pick (.t 111) (.c (.s (.bool true))) (.op (.bin .neq (.t 0) (.c (.s (.int .i64 1)))) [.t 119,.c (.s (.int .i64 1))]))] [.sub 0 [2] [111],sb []]
def X4_26t9:=hL R4_26t9 [108,109,110,111,112,113,114,115,116,117,118,119,120] [121]
def R4_27:LO:=[⟨some 2,.move (.c (.s (.bool false))),none⟩]
def T4_27:=hT R4_27 [1,9,10,11,12,13,121] [2] 3 [] [(2,.c (.s (.bool false)))] [.cc (.s (.bool false))]
def R4_28:LO:=[⟨some 14,.move (.c (.s (.int .i64 0))),none⟩]
def T4_28:=hT R4_28 [121] [14] 15 [] [(14,.c (.s (.int .i64 0)))] [.cc (.s (.int .i64 0))]
def R4_29:LO:=[oM 122 14,oM 123 13,⟨some 124,.lenS .s (.t 123),none⟩,⟨some 125,.bin .lss (.t 122) (.t 124),none⟩]
def T4_29:=hT R4_29 [122,123,124] [125] 126 [] [(125,.op (.bin .lss (.t 0) (.t 1)) [.t 14,.op (.lenS .s (.t 0)) [.t 13]])] [.tt 14,.tt 13,sb [1],sb []]
def R4_30t2:LO:=[⟨none,.store 8 (.t 15) (.t 131),none⟩]
def R4_30t1:LO:=⟨some 15,.alloc [.s (.int .u8 0),.s (.string ⟨#[]⟩),.s (.string ⟨#[]⟩),.s (.string ⟨#[]⟩),.s (.int .i64 0),.s (.string ⟨#[]⟩),.s (.slice none 0 0),.s (.slice none 0 0)],none⟩ :: R4_30t2
def R4_30p0:LO:=[oM 128 13,oM 129 14,⟨some 130,.indexAddr 8 (.t 128) (.t 129),none⟩,⟨some 131,.load true 8 (.t 130),none⟩]
def R4_30:LO:=R4_30p0 ++ R4_30t1
def T4_30p0:=hT R4_30p0 [125,128,129,130] [131] 132 [] [(131,.op (.load true 8 (.t 0)) [.op (.indexAddr 8 (.t 0) (.t 1)) [.t 13,.t 14]])] [.tt 13,.tt 14,sb [0],sb []]
def X4_30:=hS R4_30 R4_30p0 R4_30t1 [125,128,129,130] [131] [125,128,129,130,131]
def X4_30t1:=hP R4_30t1 R4_30t2 [] [125,128,129,130,131] ⟨some 15,.alloc [.s (.int .u8 0),.s (.string ⟨#[]⟩),.s (.string ⟨#[]⟩),.s (.string ⟨#[]⟩),.s (.int .i64 0),.s (.string ⟨#[]⟩),.s (.slice none 0 0),.s (.slice none 0 0)],none⟩
def X4_30t2:=hX R4_30t2 [125,128,129,130,131] [⟨none,.store 8 (.t 15) (.t 131),none⟩]
def R4_31:LO:=[oF 132 0 15,oL 133 132,⟨some 134,.bin .eql (.t 133) (.c (.s (.int .u8 12))),none⟩,oM 135 134,gF 136 0 15 135 false,gL 137 136 135 false,⟨some 138,.bin .eql (.t 137) (.c (.s (.int .u8 13))),some (135,false)⟩,⟨some 139,.pick (.t 135) (.c (.s (.bool true))) (.t 138),none⟩,oM 140 139,gF 141 0 15 140 false,gL 142 141 140 false,⟨some 143,.bin .eql (.t 142) (.c (.s (.int .u8 14))),some (140,false)⟩,⟨some 144,.pick (.t 140) (.c (.s (.bool true))) (.t 143),none⟩,oM 16 144]
def T4_31:=hT R4_31 [132,133,134,135,136,137,138,139,140,141,142,143,144] [16] 145 [] [(16,.pick (.pick (.op (.bin .eql (.t 0) (.c (.s (.int .u8 12)))) [.op (.load false 1 (.t 0)) [.op (.fieldAddr 0 (.t 0)) [.t 15]],.c (.s (.int .u8 12))]) (.c (.s (.bool true))) (.op (.bin .eql (.t 0) (.c (.s (.int .u8 13)))) [.op (.load false 1 (.t 0)) [.op (.fieldAddr 0 (.t 0)) [.t 15]],.c (.s (.int .u8 13))])) (.c (.s (.bool true))) (.op (.bin .eql (.t 0) (.c (.s (.int .u8 14)))) [.op (.load false 1 (.t 0)) [.op (.fieldAddr 0 (.t 0)) [.t 15]],.c (.s (.int .u8 14))]))] [sb [0,0,0,0],sb [0,0,0],sb [0,0],sb [0,0],.sub 0 [0,2,0,0] [135],.sub 0 [0,2,0] [135],.sub 0 [0,2] [135],sb [0],sb [0],.sub 0 [2,0,0] [140],.sub 0 [2,0] [140],.sub 0 [2] [140],sb [],sb []]
def R4_32t19:LO:=[⟨some 176,.un .not (.t 175),some (171,false)⟩,⟨some 177,.pick (.t 171) (.c (.s (.bool true))) (.t 176),none⟩]
def R4_32t18:LO:=⟨some 175,.call (.c (.fn 16 [] [])) [.t 172,.t 174],some (171,false)⟩ :: R4_32t19
def R4_32t17:LO:=gL 174 173 171 false :: R4_32t18
def R4_32t16:LO:=gF 173 3 15 171 false :: R4_32t17
def R4_32t15:LO:=⟨some 172,.load true 3 (.t 11),some (171,false)⟩ :: R4_32t16
def R4_32p14:LO:=[⟨some 169,.un .not (.t 168),some (164,false)⟩,⟨some 170,.pick (.t 164) (.c (.s (.bool true))) (.t 169),none⟩,oM 171 170]
def R4_32t14:LO:=R4_32p14 ++ R4_32t15
def R4_32t13:LO:=⟨some 168,.call (.c (.fn 16 [] [])) [.t 165,.t 167],some (164,false)⟩ :: R4_32t14
def R4_32t12:LO:=gL 167 166 164 false :: R4_32t13
def R4_32t11:LO:=gF 166 2 15 164 false :: R4_32t12
def R4_32t10:LO:=⟨some 165,.load true 3 (.t 11),some (164,false)⟩ :: R4_32t11
def R4_32p9:LO:=[⟨some 161,.bin .neq (.t 160) (.c (.s (.int .i64 1))),some (156,true)⟩,⟨some 162,.pick (.t 156) (.t 161) (.c (.s (.bool false))),some (152,false)⟩,⟨some 163,.pick (.t 152) (.c (.s (.bool true))) (.t 162),none⟩,oM 164 163]
def R4_32t9:LO:=R4_32p9 ++ R4_32t10
def R4_32t8:LO:=⟨some 160,.call (.c (.fn 15 [] [])) [.t 157,.t 159],some (156,true)⟩ :: R4_32t9
def R4_32t7:LO:=gL 159 158 156 true :: R4_32t8
def R4_32t6:LO:=gF 158 1 15 156 true :: R4_32t7
def R4_32t5:LO:=⟨some 157,.load true 3 (.t 11),some (156,true)⟩ :: R4_32t6
def R4_32t4:LO:=gM 156 155 152 false :: R4_32t5
def R4_32t3:LO:=⟨some 155,.bin .neq (.t 154) (.c (.s (.string ⟨#[]⟩))),some (152,false)⟩ :: R4_32t4
def R4_32t2:LO:=gL 154 153 152 false :: R4_32t3
def R4_32t1:LO:=gF 153 1 15 152 false :: R4_32t2
def R4_32p0:LO:=[oM 145 16,oM 146 14,oM 147 13,⟨some 148,.lenS .s (.t 147),none⟩,⟨some 149,.bin .sub (.t 148) (.c (.s (.int .i64 1))),none⟩,⟨some 150,.bin .eql (.t 146) (.t 149),none⟩,⟨some 151,.eqB true (.t 145) (.t 150),none⟩,oM 152 151]
def R4_32:LO:=R4_32p0 ++ R4_32t1
def T4_32p0:=hT R4_32p0 [16,145,146,147,148,149,150,151] [152] 153 [] [(152,.op (.eqB true (.t 0) (.t 1)) [.t 16,.op (.bin .eql (.t 0) (.t 1)) [.t 14,.op (.bin .sub (.t 0) (.c (.s (.int .i64 1)))) [.op (.lenS .s (.t 0)) [.t 13],.c (.s (.int .i64 1))]]])] [.tt 16,.tt 14,.tt 13,sb [1,1,0],sb [1,1],sb [1],sb [],sb []]
def X4_32:=hS R4_32 R4_32p0 R4_32t1 [16,145,146,147,148,149,150,151] [152] [16,145,146,147,148,149,150,151,152,153,154,155,156,157,158,159,160,161,162,163,164,165,166,167,168,169,170,171,172,173,174,175,176]
def X4_32t1:=hP R4_32t1 R4_32t2 [] [16,145,146,147,148,149,150,151,152,153,154,155,156,157,158,159,160,161,162,163,164,165,166,167,168,169,170,171,172,173,174,175,176] ⟨some 153,.fieldAddr 1 (.t 15),some (152,false)⟩
def X4_32t2:=hP R4_32t2 R4_32t3 [153] [16,145,146,147,148,149,150,151,152,153,154,155,156,157,158,159,160,161,162,163,164,165,166,167,168,169,170,171,172,173,174,175,176] ⟨some 154,.load false 1 (.t 153),some (152,false)⟩
def X4_32t3:=hP R4_32t3 R4_32t4 [154] [16,145,146,147,148,149,150,151,152,153,154,155,156,157,158,159,160,161,162,163,164,165,166,167,168,169,170,171,172,173,174,175,176] ⟨some 155,.bin .neq (.t 154) (.c (.s (.string ⟨#[]⟩))),some (152,false)⟩
def X4_32t4:=hP R4_32t4 R4_32t5 [155] [16,145,146,147,148,149,150,151,152,153,154,155,156,157,158,159,160,161,162,163,164,165,166,167,168,169,170,171,172,173,174,175,176] ⟨some 156,.move (.t 155),some (152,false)⟩
def X4_32t5:=hP R4_32t5 R4_32t6 [] [16,145,146,147,148,149,150,151,152,153,154,155,156,157,158,159,160,161,162,163,164,165,166,167,168,169,170,171,172,173,174,175,176] ⟨some 157,.load true 3 (.t 11),some (156,true)⟩
def X4_32t6:=hP R4_32t6 R4_32t7 [] [16,145,146,147,148,149,150,151,152,153,154,155,156,157,158,159,160,161,162,163,164,165,166,167,168,169,170,171,172,173,174,175,176] ⟨some 158,.fieldAddr 1 (.t 15),some (156,true)⟩
def X4_32t7:=hP R4_32t7 R4_32t8 [158] [16,145,146,147,148,149,150,151,152,153,154,155,156,157,158,159,160,161,162,163,164,165,166,167,168,169,170,171,172,173,174,175,176] ⟨some 159,.load false 1 (.t 158),some (156,true)⟩
def X4_32t8:=hP R4_32t8 R4_32t9 [157,159] [16,145,146,147,148,149,150,151,152,153,154,155,156,157,158,159,160,161,162,163,164,165,166,167,168,169,170,171,172,173,174,175,176] ⟨some 160,.call (.c (.fn 15 [] [])) [.t 157,.t 159],some (156,true)⟩
def T4_32p9:=hT R4_32p9 [152,156,160,161,162,163] [164] 165 [([(156,true,.t 156)],.op (.bin .neq (.t 0) (.c (.s (.int .i64 1)))) [.t 160,.c (.s (.int .i64 1))])] [(164,.pick (.t 152) (.c (.s (.bool true))) (.pick (.t 156) (.op (.bin .neq (.t 0) (.c (.s (.int .i64 1)))) [.t 160,.c (.s (.int .i64 1))]) (.c (.s (.bool false)))))] [.keep [(156,true,.t 156)] (.op (.bin .neq (.t 0) (.c (.s (.int .i64 1)))) [.t 160,.c (.s (.int .i64 1))]),.sub 0 [2] [152],sb [],sb []]
def X4_32t9:=hS R4_32t9 R4_32p9 R4_32t10 [152,156,160,161,162,163] [164] [16,145,146,147,148,149,150,151,152,153,154,155,156,157,158,159,160,161,162,163,164,165,166,167,168,169,170,171,172,173,174,175,176]
def X4_32t10:=hP R4_32t10 R4_32t11 [] [16,145,146,147,148,149,150,151,152,153,154,155,156,157,158,159,160,161,162,163,164,165,166,167,168,169,170,171,172,173,174,175,176] ⟨some 165,.load true 3 (.t 11),some (164,false)⟩
def X4_32t11:=hP R4_32t11 R4_32t12 [] [16,145,146,147,148,149,150,151,152,153,154,155,156,157,158,159,160,161,162,163,164,165,166,167,168,169,170,171,172,173,174,175,176] ⟨some 166,.fieldAddr 2 (.t 15),some (164,false)⟩
def X4_32t12:=hP R4_32t12 R4_32t13 [166] [16,145,146,147,148,149,150,151,152,153,154,155,156,157,158,159,160,161,162,163,164,165,166,167,168,169,170,171,172,173,174,175,176] ⟨some 167,.load false 1 (.t 166),some (164,false)⟩
def X4_32t13:=hP R4_32t13 R4_32t14 [165,167] [16,145,146,147,148,149,150,151,152,153,154,155,156,157,158,159,160,161,162,163,164,165,166,167,168,169,170,171,172,173,174,175,176] ⟨some 168,.call (.c (.fn 16 [] [])) [.t 165,.t 167],some (164,false)⟩
def T4_32p14:=hT R4_32p14 [164,168,169,170] [171] 172 [] [(171,.pick (.t 164) (.c (.s (.bool true))) (.op (.un .not (.t 0)) [.t 168]))] [.sub 0 [2] [164],sb [],sb []]
def X4_32t14:=hS R4_32t14 R4_32p14 R4_32t15 [164,168,169,170] [171] [16,145,146,147,148,149,150,151,152,153,154,155,156,157,158,159,160,161,162,163,164,165,166,167,168,169,170,171,172,173,174,175,176]
def X4_32t15:=hP R4_32t15 R4_32t16 [] [16,145,146,147,148,149,150,151,152,153,154,155,156,157,158,159,160,161,162,163,164,165,166,167,168,169,170,171,172,173,174,175,176] ⟨some 172,.load true 3 (.t 11),some (171,false)⟩
def X4_32t16:=hP R4_32t16 R4_32t17 [] [16,145,146,147,148,149,150,151,152,153,154,155,156,157,158,159,160,161,162,163,164,165,166,167,168,169,170,171,172,173,174,175,176] ⟨some 173,.fieldAddr 3 (.t 15),some (171,false)⟩
def X4_32t17:=hP R4_32t17 R4_32t18 [173] [16,145,146,147,148,149,150,151,152,153,154,155,156,157,158,159,160,161,162,163,164,165,166,167,168,169,170,171,172,173,174,175,176] ⟨some 174,.load false 1 (.t 173),some (171,false)⟩
def X4_32t18:=hP R4_32t18 R4_32t19 [172,174] [16,145,146,147,148,149,150,151,152,153,154,155,156,157,158,159,160,161,162,163,164,165,166,167,168,169,170,171,172,173,174,175,176] ⟨some 175,.call (.c (.fn 16 [] [])) [.t 172,.t 174],some (171,false)⟩
def T4_32t19:=hT R4_32t19 [16,145,146,147,148,149,150,151,152,153,154,155,156,157,158,159,160,161,162,163,164,165,166,167,168,169,170,171,172,173,174,175,176] [177] 178 [] [(177,.pick (.t 171) (.c (.s (.bool true))) (.op (.un .not (.t 0)) [.t 175]))] [.sub 0 [2] [171],sb []]
def X4_32t19:=hL R4_32t19 [16,145,146,147,148,149,150,151,152,153,154,155,156,157,158,159,160,161,162,163,164,165,166,167,168,169,170,171,172,173,174,175,176] [177]
def R4_33:LO:=[⟨some 2,.move (.c (.s (.bool false))),none⟩]
def T4_33:=hT R4_33 [1,9,10,11,12,13,14,15,177] [2] 3 [] [(2,.c (.s (.bool false)))] [.cc (.s (.bool false))]
def R4_34:LO:=[⟨some 17,.move (.c (.s (.int .i64 0))),none⟩]
def T4_34:=hT R4_34 [177] [17] 18 [] [(17,.c (.s (.int .i64 0)))] [.cc (.s (.int .i64 0))]
def R4_35:LO:=[oM 178 17,oF 179 6 15,oL 180 179,⟨some 181,.lenS .s (.t 180),none⟩,⟨some 182,.bin .lss (.t 178) (.t 181),none⟩]
def T4_35:=hT R4_35 [178,179,180,181] [182] 183 [] [(182,.op (.bin .lss (.t 0) (.t 1)) [.t 17,.op (.lenS .s (.t 0)) [.op (.load false 1 (.t 0)) [.op (.fieldAddr 6 (.t 0)) [.t 15]]]])] [.tt 17,sb [1,0,0],sb [1,0],sb [1],sb []]
def R4_36t2:LO:=[⟨some 192,.un .not (.t 191),none⟩,oM 193 192,gF 194 6 15 193 false,gL 195 194 193 false,gM 196 17 193 false,⟨some 197,.indexAddr 1 (.t 195) (.t 196),some (193,false)⟩,gL 198 197 193 false,⟨some 199,.bin .eql (.t 198) (.c (.s (.string ⟨#[]⟩))),some (193,false)⟩,⟨some 200,.pick (.t 193) (.c (.s (.bool true))) (.t 199),none⟩]
def R4_36t1:LO:=⟨some 191,.call (.c (.fn 16 [] [])) [.t 185,.t 190],none⟩ :: R4_36t2
def R4_36p0:LO:=[⟨some 185,.load true 3 (.t 11),none⟩,oF 186 6 15,oL 187 186,oM 188 17,⟨some 189,.indexAddr 1 (.t 187) (.t 188),none⟩,oL 190 189]
def R4_36:LO:=R4_36p0 ++ R4_36t1
def T4_36p0:=hT R4_36p0 [182,186,187,188,189] [185,190] 191 [] [(185,.op (.load true 3 (.t 0)) [.t 11]),(190,.op (.load false 1 (.t 0)) [.op (.indexAddr 1 (.t 0) (.t 1)) [.op (.load false 1 (.t 0)) [.op (.fieldAddr 6 (.t 0)) [.t 15]],.t 17]])] [sb [],.sub 1 [0,0,0] [],.sub 1 [0,0] [],.tt 17,.sub 1 [0] [],.sub 1 [] []]
def X4_36:=hS R4_36 R4_36p0 R4_36t1 [182,186,187,188,189] [185,190] [182,185,186,187,188,189,190,191,192,193,194,195,196,197,198,199]
def X4_36t1:=hP R4_36t1 R4_36t2 [185,190] [182,185,186,187,188,189,190,191,192,193,194,195,196,197,198,199] ⟨some 191,.call (.c (.fn 16 [] [])) [.t 185,.t 190],none⟩
def T4_36t2:=hT R4_36t2 [182,185,186,187,188,189,190,191,192,193,194,195,196,197,198,199] [200] 201 [] [(200,.pick (.op (.un .not (.t 0)) [.t 191]) (.c (.s (.bool true))) (.op (.bin .eql (.t 0) (.c (.s (.string ⟨#[]⟩)))) [.op (.load false 1 (.t 0)) [.op (.indexAddr 1 (.t 0) (.t 1)) [.op (.load false 1 (.t 0)) [.op (.fieldAddr 6 (.t 0)) [.t 15]],.t 17]],.c (.s (.string ⟨#[]⟩))]))] [sb [0],sb [0],.sub 0 [2,0,0,0,0] [193],.sub 0 [2,0,0,0] [193],.sub 0 [2,0,0,1] [193],.sub 0 [2,0,0] [193],.sub 0 [2,0] [193],.sub 0 [2] [193],sb []]
def X4_36t2:=hL R4_36t2 [182,185,186,187,188,189,190,191,192,193,194,195,196,197,198,199] [200]
def R4_37:LO:=[⟨some 2,.move (.c (.s (.bool false))),none⟩]
def T4_37:=hT R4_37 [1,9,10,11,12,13,14,15,17,200] [2] 3 [] [(2,.c (.s (.bool false)))] [.cc (.s (.bool false))]
def R4_38:LO:=[oM 183 17,⟨some 184,.bin .add (.t 183) (.c (.s (.int .i64 1))),none⟩,oM 17 184]
def T4_38:=hT R4_38 [183,184,200] [17] 185 [] [(17,.op (.bin .add (.t 0) (.c (.s (.int .i64 1)))) [.t 17,.c (.s (.int .i64 1))])] [.tt 17,sb [],sb []]
def s_f4_l1_b:ACode:=
 (.seq (.seq (.regionE R4_35 [178,179,180,181] [182])
 (.cond (.t 182)
 .skip
 (.exit 8)))
 (.seq (.block 9
 (.seq (.region R4_36 [] [182,185,186,187,188,189,190,191,192,193,194,195,196,197,198,199])
 (.cond (.t 200)
 (.seq (.regionE R4_37 [1,9,10,11,12,13,14,15,17,200] [2])
 .ret)
 .skip)))
 (.regionE R4_38 [183,184,200] [17])))
def s_f4_l1:ACode:=s_f4_l1_b
def s_f4_l1_ev:=hE s_f4_l1 s_f4_l1_b
def R4_39:LO:=[⟨some 18,.move (.c (.s (.int .i64 0))),none⟩]
def T4_39:=hT R4_39 [17,182] [18] 19 [] [(18,.c (.s (.int .i64 0)))] [.cc (.s (.int .i64 0))]
def R4_40:LO:=[oM 201 18,oF 202 7 15,oL 203 202,⟨some 204,.lenS .s (.t 203),none⟩,⟨some 205,.bin .lss (.t 201) (.t 204),none⟩]
def T4_40:=hT R4_40 [201,202,203,204] [205] 206 [] [(205,.op (.bin .lss (.t 0) (.t 1)) [.t 18,.op (.lenS .s (.t 0)) [.op (.load false 1 (.t 0)) [.op (.fieldAddr 7 (.t 0)) [.t 15]]]])] [.tt 18,sb [1,0,0],sb [1,0],sb [1],sb []]
def R4_41t2:LO:=[⟨some 215,.bin .neq (.t 214) (.c (.s (.int .i64 1))),none⟩]
def R4_41t1:LO:=⟨some 214,.call (.c (.fn 14 [] [])) [.t 208,.t 213],none⟩ :: R4_41t2
def R4_41p0:LO:=[⟨some 208,.load true 3 (.t 11),none⟩,oF 209 7 15,oL 210 209,oM 211 18,⟨some 212,.indexAddr 1 (.t 210) (.t 211),none⟩,oL 213 212]
def R4_41:LO:=R4_41p0 ++ R4_41t1
def T4_41p0:=hT R4_41p0 [205,209,210,211,212] [208,213] 214 [] [(208,.op (.load true 3 (.t 0)) [.t 11]),(213,.op (.load false 1 (.t 0)) [.op (.indexAddr 1 (.t 0) (.t 1)) [.op (.load false 1 (.t 0)) [.op (.fieldAddr 7 (.t 0)) [.t 15]],.t 18]])] [sb [],.sub 1 [0,0,0] [],.sub 1 [0,0] [],.tt 18,.sub 1 [0] [],.sub 1 [] []]
def X4_41:=hS R4_41 R4_41p0 R4_41t1 [205,209,210,211,212] [208,213] [205,208,209,210,211,212,213,214]
def X4_41t1:=hP R4_41t1 R4_41t2 [208,213] [205,208,209,210,211,212,213,214] ⟨some 214,.call (.c (.fn 14 [] [])) [.t 208,.t 213],none⟩
def T4_41t2:=hT R4_41t2 [205,208,209,210,211,212,213,214] [215] 216 [] [(215,.op (.bin .neq (.t 0) (.c (.s (.int .i64 1)))) [.t 214,.c (.s (.int .i64 1))])] [sb []]
def X4_41t2:=hL R4_41t2 [205,208,209,210,211,212,213,214] [215]
def R4_42:LO:=[⟨some 2,.move (.c (.s (.bool false))),none⟩]
def T4_42:=hT R4_42 [1,9,10,11,12,13,14,15,18,215] [2] 3 [] [(2,.c (.s (.bool false)))] [.cc (.s (.bool false))]
def R4_43:LO:=[oM 206 18,⟨some 207,.bin .add (.t 206) (.c (.s (.int .i64 1))),none⟩,oM 18 207]
def T4_43:=hT R4_43 [206,207,215] [18] 208 [] [(18,.op (.bin .add (.t 0) (.c (.s (.int .i64 1)))) [.t 18,.c (.s (.int .i64 1))])] [.tt 18,sb [],sb []]
def s_f4_l2_b:ACode:=
 (.seq (.seq (.regionE R4_40 [201,202,203,204] [205])
 (.cond (.t 205)
 .skip
 (.exit 10)))
 (.seq (.block 11
 (.seq (.region R4_41 [] [205,208,209,210,211,212,213,214])
 (.cond (.t 215)
 (.seq (.regionE R4_42 [1,9,10,11,12,13,14,15,18,215] [2])
 .ret)
 .skip)))
 (.regionE R4_43 [206,207,215] [18])))
def s_f4_l2:ACode:=s_f4_l2_b
def s_f4_l2_ev:=hE s_f4_l2 s_f4_l2_b
def R4_44t5:LO:=[⟨some 229,.bin .neq (.t 228) (.c (.s (.int .i64 1))),some (224,true)⟩,⟨some 230,.pick (.t 224) (.t 229) (.c (.s (.bool false))),none⟩]
def R4_44t4:LO:=⟨some 228,.call (.c (.fn 13 [] [])) [.t 225,.t 227],some (224,true)⟩ :: R4_44t5
def R4_44t3:LO:=gL 227 226 224 true :: R4_44t4
def R4_44t2:LO:=gF 226 5 15 224 true :: R4_44t3
def R4_44t1:LO:=⟨some 225,.load true 1 (.t 1),some (224,true)⟩ :: R4_44t2
def R4_44p0:LO:=[oF 216 0 15,oL 217 216,⟨some 218,.bin .eql (.t 217) (.c (.s (.int .u8 10))),none⟩,oM 219 218,gF 220 0 15 219 false,gL 221 220 219 false,⟨some 222,.bin .eql (.t 221) (.c (.s (.int .u8 4))),some (219,false)⟩,⟨some 223,.pick (.t 219) (.c (.s (.bool true))) (.t 222),none⟩,oM 224 223]
def R4_44:LO:=R4_44p0 ++ R4_44t1
def T4_44p0:=hT R4_44p0 [18,205,216,217,218,219,220,221,222,223] [224] 225 [] [(224,.pick (.op (.bin .eql (.t 0) (.c (.s (.int .u8 10)))) [.op (.load false 1 (.t 0)) [.op (.fieldAddr 0 (.t 0)) [.t 15]],.c (.s (.int .u8 10))]) (.c (.s (.bool true))) (.op (.bin .eql (.t 0) (.c (.s (.int .u8 4)))) [.op (.load false 1 (.t 0)) [.op (.fieldAddr 0 (.t 0)) [.t 15]],.c (.s (.int .u8 4))]))] [sb [0,0,0],sb [0,0],sb [0],sb [0],.sub 0 [2,0,0] [219],.sub 0 [2,0] [219],.sub 0 [2] [219],sb [],sb []]
def X4_44:=hS R4_44 R4_44p0 R4_44t1 [18,205,216,217,218,219,220,221,222,223] [224] [18,205,216,217,218,219,220,221,222,223,224,225,226,227,228,229]
def X4_44t1:=hP R4_44t1 R4_44t2 [] [18,205,216,217,218,219,220,221,222,223,224,225,226,227,228,229] ⟨some 225,.load true 1 (.t 1),some (224,true)⟩
def X4_44t2:=hP R4_44t2 R4_44t3 [] [18,205,216,217,218,219,220,221,222,223,224,225,226,227,228,229] ⟨some 226,.fieldAddr 5 (.t 15),some (224,true)⟩
def X4_44t3:=hP R4_44t3 R4_44t4 [226] [18,205,216,217,218,219,220,221,222,223,224,225,226,227,228,229] ⟨some 227,.load false 1 (.t 226),some (224,true)⟩
def X4_44t4:=hP R4_44t4 R4_44t5 [225,227] [18,205,216,217,218,219,220,221,222,223,224,225,226,227,228,229] ⟨some 228,.call (.c (.fn 13 [] [])) [.t 225,.t 227],some (224,true)⟩
def T4_44t5:=hT R4_44t5 [18,205,216,217,218,219,220,221,222,223,224,225,226,227,228,229] [230] 231 [] [(230,.pick (.t 224) (.op (.bin .neq (.t 0) (.c (.s (.int .i64 1)))) [.t 228,.c (.s (.int .i64 1))]) (.c (.s (.bool false))))] [.sub 0 [1] [224],sb []]
def X4_44t5:=hL R4_44t5 [18,205,216,217,218,219,220,221,222,223,224,225,226,227,228,229] [230]
def R4_45:LO:=[⟨some 2,.move (.c (.s (.bool false))),none⟩]
def T4_45:=hT R4_45 [1,9,10,11,12,13,14,15,230] [2] 3 [] [(2,.c (.s (.bool false)))] [.cc (.s (.bool false))]
def R4_46t8:LO:=[⟨some 242,.bin .neq (.t 237) (.t 241),some (234,true)⟩,⟨some 243,.pick (.t 234) (.t 242) (.c (.s (.bool false))),none⟩]
def R4_46t7:LO:=⟨some 241,.callR (.c (.fn 17 [] [])) [.t 238,.t 240],some (234,true)⟩ :: R4_46t8
def R4_46t6:LO:=gL 240 239 234 true :: R4_46t7
def R4_46t5:LO:=gF 239 5 15 234 true :: R4_46t6
def R4_46t4:LO:=⟨some 238,.load true 1 (.t 1),some (234,true)⟩ :: R4_46t5
def R4_46t3:LO:=⟨some 237,.lenS .s (.t 236),some (234,true)⟩ :: R4_46t4
def R4_46t2:LO:=gL 236 235 234 true :: R4_46t3
def R4_46t1:LO:=gF 235 6 15 234 true :: R4_46t2
def R4_46p0:LO:=[oF 231 0 15,oL 232 231,⟨some 233,.bin .eql (.t 232) (.c (.s (.int .u8 10))),none⟩,oM 234 233]
def R4_46:LO:=R4_46p0 ++ R4_46t1
def T4_46p0:=hT R4_46p0 [230,231,232,233] [234] 235 [] [(234,.op (.bin .eql (.t 0) (.c (.s (.int .u8 10)))) [.op (.load false 1 (.t 0)) [.op (.fieldAddr 0 (.t 0)) [.t 15]],.c (.s (.int .u8 10))])] [sb [0,0],sb [0],sb [],sb []]
def X4_46:=hS R4_46 R4_46p0 R4_46t1 [230,231,232,233] [234] [15,230,231,232,233,234,235,236,237,238,239,240,241,242]
def X4_46t1:=hP R4_46t1 R4_46t2 [] [15,230,231,232,233,234,235,236,237,238,239,240,241,242] ⟨some 235,.fieldAddr 6 (.t 15),some (234,true)⟩
def X4_46t2:=hP R4_46t2 R4_46t3 [235] [15,230,231,232,233,234,235,236,237,238,239,240,241,242] ⟨some 236,.load false 1 (.t 235),some (234,true)⟩
def X4_46t3:=hP R4_46t3 R4_46t4 [236] [15,230,231,232,233,234,235,236,237,238,239,240,241,242] ⟨some 237,.lenS .s (.t 236),some (234,true)⟩
def X4_46t4:=hP R4_46t4 R4_46t5 [] [15,230,231,232,233,234,235,236,237,238,239,240,241,242] ⟨some 238,.load true 1 (.t 1),some (234,true)⟩
def X4_46t5:=hP R4_46t5 R4_46t6 [15] [15,230,231,232,233,234,235,236,237,238,239,240,241,242] ⟨some 239,.fieldAddr 5 (.t 15),some (234,true)⟩
def X4_46t6:=hP R4_46t6 R4_46t7 [239] [15,230,231,232,233,234,235,236,237,238,239,240,241,242] ⟨some 240,.load false 1 (.t 239),some (234,true)⟩
def X4_46t7:=hP R4_46t7 R4_46t8 [238,240] [15,230,231,232,233,234,235,236,237,238,239,240,241,242] ⟨some 241,.callR (.c (.fn 17 [] [])) [.t 238,.t 240],some (234,true)⟩
def T4_46t8:=hT R4_46t8 [15,230,231,232,233,234,235,236,237,238,239,240,241,242] [243] 244 [] [(243,.pick (.t 234) (.op (.bin .neq (.t 0) (.t 1)) [.t 237,.t 241]) (.c (.s (.bool false))))] [.sub 0 [1] [234],sb []]
def X4_46t8:=hL R4_46t8 [15,230,231,232,233,234,235,236,237,238,239,240,241,242] [243]
def R4_47:LO:=[⟨some 2,.move (.c (.s (.bool false))),none⟩]
def T4_47:=hT R4_47 [1,9,10,11,12,13,14,243] [2] 3 [] [(2,.c (.s (.bool false)))] [.cc (.s (.bool false))]
def R4_48:LO:=[oM 126 14,⟨some 127,.bin .add (.t 126) (.c (.s (.int .i64 1))),none⟩,oM 14 127]
def T4_48:=hT R4_48 [126,127,243] [14] 128 [] [(14,.op (.bin .add (.t 0) (.c (.s (.int .i64 1)))) [.t 14,.c (.s (.int .i64 1))])] [.tt 14,sb [],sb []]
def s_f4_l3_b:ACode:=
 (.seq (.seq (.regionE R4_29 [122,123,124] [125])
 (.cond (.t 125)
 .skip
 (.exit 6)))
 (.seq (.block 7
 (.seq (.region R4_30 [] [125,128,129,130,131])
 (.seq (.regionE R4_31 [132,133,134,135,136,137,138,139,140,141,142,143,144] [16])
 (.seq (.seq (.region R4_32 [] [16,145,146,147,148,149,150,151,152,153,154,155,156,157,158,159,160,161,162,163,164,165,166,167,168,169,170,171,172,173,174,175,176])
 (.cond (.t 177)
 (.seq (.regionE R4_33 [1,9,10,11,12,13,14,15,177] [2])
 .ret)
 .skip))
 (.seq (.seq (.regionE R4_34 [177] [17])
 (.block 8
 (.loop [] s_f4_l1)))
 (.seq (.seq (.regionE R4_39 [17,182] [18])
 (.block 10
 (.loop [] s_f4_l2)))
 (.seq (.seq (.region R4_44 [] [18,205,216,217,218,219,220,221,222,223,224,225,226,227,228,229])
 (.cond (.t 230)
 (.seq (.regionE R4_45 [1,9,10,11,12,13,14,15,230] [2])
 .ret)
 .skip))
 (.seq (.region R4_46 [] [15,230,231,232,233,234,235,236,237,238,239,240,241,242])
 (.cond (.t 243)
 (.seq (.regionE R4_47 [1,9,10,11,12,13,14,243] [2])
 .ret)
 .skip)))))))))
 (.regionE R4_48 [126,127,243] [14])))
def s_f4_l3:ACode:=s_f4_l3_b
def s_f4_l3_ev:=hE s_f4_l3 s_f4_l3_b
def R4_49:LO:=[oM 100 12,⟨some 101,.bin .add (.t 100) (.c (.s (.int .i64 1))),none⟩,oM 12 101]
def T4_49:=hT R4_49 [13,14,100,101,125] [12] 102 [] [(12,.op (.bin .add (.t 0) (.c (.s (.int .i64 1)))) [.t 12,.c (.s (.int .i64 1))])] [.tt 12,sb [],sb []]
def s_f4_l4_b:ACode:=
 (.seq (.seq (.regionE R4_24 [95,96,97,98] [99])
 (.cond (.t 99)
 .skip
 (.exit 4)))
 (.seq (.block 5
 (.seq (.regionE R4_25 [99,102,103,104,105,106,107] [13])
 (.seq (.seq (.region R4_26 [] [108,109,110,111,112,113,114,115,116,117,118,119,120])
 (.cond (.t 121)
 (.seq (.regionE R4_27 [1,9,10,11,12,13,121] [2])
 .ret)
 .skip))
 (.seq (.regionE R4_28 [121] [14])
 (.block 6
 (.loop [] s_f4_l3))))))
 (.regionE R4_49 [13,14,100,101,125] [12])))
def s_f4_l4:ACode:=s_f4_l4_b
def s_f4_l4_ev:=hE s_f4_l4 s_f4_l4_b
def R4_50:LO:=[⟨some 19,.move (.c (.s (.int .i64 0))),none⟩]
def T4_50:=hT R4_50 [12,99] [19] 20 [] [(19,.c (.s (.int .i64 0)))] [.cc (.s (.int .i64 0))]
def R4_51:LO:=[oM 244 19,oF 245 1 11,oL 246 245,⟨some 247,.lenS .s (.t 246),none⟩,⟨some 248,.bin .lss (.t 244) (.t 247),none⟩]
def T4_51:=hT R4_51 [244,245,246,247] [248] 249 [] [(248,.op (.bin .lss (.t 0) (.t 1)) [.t 19,.op (.lenS .s (.t 0)) [.op (.load false 1 (.t 0)) [.op (.fieldAddr 1 (.t 0)) [.t 11]]]])] [.tt 19,sb [1,0,0],sb [1,0],sb [1],sb []]
def R4_52t2:LO:=[⟨some 258,.bin .neq (.t 257) (.c (.s (.int .i64 1))),none⟩]
def R4_52t1:LO:=⟨some 257,.call (.c (.fn 15 [] [])) [.t 251,.t 256],none⟩ :: R4_52t2
def R4_52p0:LO:=[⟨some 251,.load true 3 (.t 11),none⟩,oF 252 1 11,oL 253 252,oM 254 19,⟨some 255,.indexAddr 1 (.t 253) (.t 254),none⟩,oL 256 255]
def R4_52:LO:=R4_52p0 ++ R4_52t1
def T4_52p0:=hT R4_52p0 [248,252,253,254,255] [251,256] 257 [] [(251,.op (.load true 3 (.t 0)) [.t 11]),(256,.op (.load false 1 (.t 0)) [.op (.indexAddr 1 (.t 0) (.t 1)) [.op (.load false 1 (.t 0)) [.op (.fieldAddr 1 (.t 0)) [.t 11]],.t 19]])] [sb [],.sub 1 [0,0,0] [],.sub 1 [0,0] [],.tt 19,.sub 1 [0] [],.sub 1 [] []]
def X4_52:=hS R4_52 R4_52p0 R4_52t1 [248,252,253,254,255] [251,256] [248,251,252,253,254,255,256,257]
def X4_52t1:=hP R4_52t1 R4_52t2 [251,256] [248,251,252,253,254,255,256,257] ⟨some 257,.call (.c (.fn 15 [] [])) [.t 251,.t 256],none⟩
def T4_52t2:=hT R4_52t2 [248,251,252,253,254,255,256,257] [258] 259 [] [(258,.op (.bin .neq (.t 0) (.c (.s (.int .i64 1)))) [.t 257,.c (.s (.int .i64 1))])] [sb []]
def X4_52t2:=hL R4_52t2 [248,251,252,253,254,255,256,257] [258]
def R4_53:LO:=[⟨some 2,.move (.c (.s (.bool false))),none⟩]
def T4_53:=hT R4_53 [1,9,10,11,19,258] [2] 3 [] [(2,.c (.s (.bool false)))] [.cc (.s (.bool false))]
def R4_54:LO:=[oM 249 19,⟨some 250,.bin .add (.t 249) (.c (.s (.int .i64 1))),none⟩,oM 19 250]
def T4_54:=hT R4_54 [249,250,258] [19] 251 [] [(19,.op (.bin .add (.t 0) (.c (.s (.int .i64 1)))) [.t 19,.c (.s (.int .i64 1))])] [.tt 19,sb [],sb []]
def s_f4_l5_b:ACode:=
 (.seq (.seq (.regionE R4_51 [244,245,246,247] [248])
 (.cond (.t 248)
 .skip
 (.exit 12)))
 (.seq (.block 13
 (.seq (.region R4_52 [] [248,251,252,253,254,255,256,257])
 (.cond (.t 258)
 (.seq (.regionE R4_53 [1,9,10,11,19,258] [2])
 .ret)
 .skip)))
 (.regionE R4_54 [249,250,258] [19])))
def s_f4_l5:ACode:=s_f4_l5_b
def s_f4_l5_ev:=hE s_f4_l5 s_f4_l5_b
def R4_55:LO:=[oM 62 10,⟨some 63,.bin .add (.t 62) (.c (.s (.int .i64 1))),none⟩,oM 10 63]
def T4_55:=hT R4_55 [11,19,62,63,248] [10] 64 [] [(10,.op (.bin .add (.t 0) (.c (.s (.int .i64 1)))) [.t 10,.c (.s (.int .i64 1))])] [.tt 10,sb [],sb []]
def s_f4_l6_b:ACode:=
 (.seq (.seq (.regionE R4_15 [57,58,59,60] [61])
 (.cond (.t 61)
 .skip
 (.exit 2)))
 (.seq (.block 3
 (.seq (.region R4_16 [] [61,64,65,66,67,68])
 (.seq (.seq (.regionE R4_17 [69,70] [71])
 (.cond (.t 71)
 (.seq (.regionE R4_18 [71,72,73] [9])
 (.seq (.regionE R4_19 [74,75,76] [77])
 (.cond (.t 77)
 (.seq (.regionE R4_20 [1,9,10,11,77] [2])
 .ret)
 .skip)))
 .skip))
 (.seq (.seq (.region R4_21 [] [71,77,78,79,80,81,82,83,84,85,86,87,88,89,90,91,92,93])
 (.cond (.t 94)
 (.seq (.regionE R4_22 [1,9,10,11,94] [2])
 .ret)
 .skip))
 (.seq (.seq (.regionE R4_23 [94] [12])
 (.block 4
 (.loop [] s_f4_l4)))
 (.seq (.regionE R4_50 [12,99] [19])
 (.block 12
 (.loop [] s_f4_l5))))))))
 (.regionE R4_55 [11,19,62,63,248] [10])))
def s_f4_l6:ACode:=s_f4_l6_b
def s_f4_l6_ev:=hE s_f4_l6 s_f4_l6_b
def R4_56t2:LO:=[⟨some 263,.pick (.t 261) (.t 262) (.c (.s (.bool false))),none⟩,oM 2 263]
def R4_56t1:LO:=⟨some 262,.call (.c (.fn 9 [] [])) [],some (261,true)⟩ :: R4_56t2
def R4_56p0:LO:=[oM 259 9,⟨some 260,.bin .eql (.t 259) (.c (.s (.int .i64 1))),none⟩,oM 261 260]
def R4_56:LO:=R4_56p0 ++ R4_56t1
def T4_56p0:=hT R4_56p0 [1,9,10,61,259,260] [261] 262 [] [(261,.op (.bin .eql (.t 0) (.c (.s (.int .i64 1)))) [.t 9,.c (.s (.int .i64 1))])] [.tt 9,sb [],sb []]
def X4_56:=hS R4_56 R4_56p0 R4_56t1 [1,9,10,61,259,260] [261] [1,9,10,61,259,260,261,262,263]
def X4_56t1:=hP R4_56t1 R4_56t2 [] [1,9,10,61,259,260,261,262,263] ⟨some 262,.call (.c (.fn 9 [] [])) [],some (261,true)⟩
def T4_56t2:=hT R4_56t2 [1,9,10,61,259,260,261,262,263] [2] 264 [] [(2,.pick (.t 261) (.t 262) (.c (.s (.bool false))))] [sb [],sb []]
def X4_56t2:=hL R4_56t2 [1,9,10,61,259,260,261,262,263] [2]
def s_f4:ACFun:={ ntmps:=264,results:=[.tmp 2],body:=
 (.seq (.region R4_0 [] K4_0)
 (.seq (.seq (.region R4_1 [] [20])
 (.cond (.t 21)
 (.seq (.regionE R4_2 [1,21] [2])
 .ret)
 .skip))
 (.seq (.region R4_3 [] [21,22,23])
 (.seq (.seq (.regionE R4_4 [24,25] [26])
 (.cond (.t 26)
 (.seq (.region R4_5 [] [26,27,28,29,30,31,32,33])
 (.seq (.seq (.regionE R4_6 [] [6])
 (.block 0
 (.loop [] s_f4_l0)))
 (.seq (.region R4_12 [] [1,3,4,5,6,37,47,48,49,50,51,52,53,54,55,56])
 .ret)))
 .skip))
 (.seq (.regionE R4_13 [3,26] [9])
 (.seq (.seq (.regionE R4_14 [] [10])
 (.block 2
 (.loop [] s_f4_l6)))
 (.seq (.region R4_56 [] [1,9,10,61,259,260,261,262,263])
 .ret))))))) }
theorem s_f4_first:firstOk (List.range' 1 (s_f4.ntmps - 1)) s_f4.body=true:=by kernel_rfl
abbrev k_f13:Nat:=13
def K13_0:List Nat:=[0] ++ List.range' 3 22
def A13_0_0:=hQ K13_0 0
def A13_0_1:=hK K13_0 1
def A13_0_2:=hK K13_0 2
def A13_0_4:=hQ K13_0 4
def R13_0t1:LO:=[⟨some 4,.move (.c (.s (.int .i64 0))),none⟩]
def R13_0:LO:=⟨some 2,.box (.t 0),none⟩ :: R13_0t1
def X13_0:=hP R13_0 R13_0t1 [0,3,4,5,6,7,8,9,10,11,12,13,14,15,16,17,18,19,20,21,22,23,24] K13_0 ⟨some 2,.box (.t 0),none⟩
def T13_0t1:=hT R13_0t1 K13_0 [] 5 [] [] [.cc (.s (.int .i64 0))]
def X13_0t1:=hL R13_0t1 K13_0 []
def R13_1:LO:=[⟨some 5,.move (.c (.s (.int .i64 0))),none⟩]
def T13_1:=hT R13_1 [] [5] 6 [] [(5,.c (.s (.int .i64 0)))] [.cc (.s (.int .i64 0))]
def R13_2:LO:=[⟨some 6,.move (.c (.s (.int .i64 0))),none⟩]
def T13_2:=hT R13_2 [] [6] 7 [] [(6,.c (.s (.int .i64 0)))] [.cc (.s (.int .i64 0))]
def R13_3:LO:=[oM 7 6,oF 8 0 2,oL 9 8,⟨some 10,.lenS .s (.t 9),none⟩,⟨some 11,.bin .lss (.t 7) (.t 10),none⟩]
def T13_3:=hT R13_3 [7,8,9,10] [11] 12 [] [(11,.op (.bin .lss (.t 0) (.t 1)) [.t 6,.op (.lenS .s (.t 0)) [.op (.load false 1 (.t 0)) [.op (.fieldAddr 0 (.t 0)) [.t 2]]]])] [.tt 6,sb [1,0,0],sb [1,0],sb [1],sb []]
def R13_4:LO:=[oF 14 0 2,oL 15 14,oM 16 6,⟨some 17,.indexAddr 3 (.t 15) (.t 16),none⟩,oF 18 0 17,oL 19 18,oM 20 1,⟨some 21,.bin .eql (.t 19) (.t 20),none⟩]
def T13_4:=hT R13_4 [11,14,15,16,17,18,19,20] [21] 22 [] [(21,.op (.bin .eql (.t 0) (.t 1)) [.op (.load false 1 (.t 0)) [.op (.fieldAddr 0 (.t 0)) [.op (.indexAddr 3 (.t 0) (.t 1)) [.op (.load false 1 (.t 0)) [.op (.fieldAddr 0 (.t 0)) [.t 2]],.t 6]]],.t 1])] [sb [0,0,0,0,0],sb [0,0,0,0],.tt 6,sb [0,0,0],sb [0,0],sb [0],.tt 1,sb []]
def R13_5:LO:=[oM 22 5,⟨some 23,.bin .add (.t 22) (.c (.s (.int .i64 1))),none⟩,oM 5 23]
def T13_5:=hT R13_5 [21,22,23] [5] 24 [] [(5,.op (.bin .add (.t 0) (.c (.s (.int .i64 1)))) [.t 5,.c (.s (.int .i64 1))])] [.tt 5,sb [],sb []]
def R13_6:LO:=[oM 12 6,⟨some 13,.bin .add (.t 12) (.c (.s (.int .i64 1))),none⟩,oM 6 13]
def T13_6:=hT R13_6 [12,13,21] [6] 14 [] [(6,.op (.bin .add (.t 0) (.c (.s (.int .i64 1)))) [.t 6,.c (.s (.int .i64 1))])] [.tt 6,sb [],sb []]
def s_f13_l0_b:ACode:=
 (.seq (.seq (.regionE R13_3 [7,8,9,10] [11])
 (.cond (.t 11)
 .skip
 (.exit 0)))
 (.seq (.block 1
 (.seq (.regionE R13_4 [11,14,15,16,17,18,19,20] [21])
 (.cond (.t 21)
 (.regionE R13_5 [21,22,23] [5])
 .skip)))
 (.regionE R13_6 [12,13,21] [6])))
def s_f13_l0:ACode:=s_f13_l0_b
def s_f13_l0_ev:=hE s_f13_l0 s_f13_l0_b
def R13_7:LO:=[oM 24 5,oM 4 24]
def T13_7:=hT R13_7 [1,2,5,6,11,24] [4] 25 [] [(4,.t 5)] [.tt 5,.tt 5]
def s_f13:ACFun:={ ntmps:=25,results:=[.tmp 4],body:=
 (.seq (.region R13_0 [] K13_0)
 (.seq (.regionE R13_1 [] [5])
 (.seq (.seq (.regionE R13_2 [] [6])
 (.block 0
 (.loop [] s_f13_l0)))
 (.seq (.regionE R13_7 [1,2,5,6,11,24] [4])
 .ret)))) }
theorem s_f13_first:firstOk (List.range' 2 (s_f13.ntmps - 2)) s_f13.body=true:=by kernel_rfl
abbrev k_f14:Nat:=14
def K14_0:List Nat:=[0] ++ List.range' 3 22
def A14_0_0:=hQ K14_0 0
def A14_0_1:=hK K14_0 1
def A14_0_2:=hK K14_0 2
def A14_0_4:=hQ K14_0 4
def R14_0t1:LO:=[⟨some 4,.move (.c (.s (.int .i64 0))),none⟩]
def R14_0:LO:=⟨some 2,.box (.t 0),none⟩ :: R14_0t1
def X14_0:=hP R14_0 R14_0t1 [0,3,4,5,6,7,8,9,10,11,12,13,14,15,16,17,18,19,20,21,22,23,24] K14_0 ⟨some 2,.box (.t 0),none⟩
def T14_0t1:=hT R14_0t1 K14_0 [] 5 [] [] [.cc (.s (.int .i64 0))]
def X14_0t1:=hL R14_0t1 K14_0 []
def R14_1:LO:=[⟨some 5,.move (.c (.s (.int .i64 0))),none⟩]
def T14_1:=hT R14_1 [] [5] 6 [] [(5,.c (.s (.int .i64 0)))] [.cc (.s (.int .i64 0))]
def R14_2:LO:=[⟨some 6,.move (.c (.s (.int .i64 0))),none⟩]
def T14_2:=hT R14_2 [] [6] 7 [] [(6,.c (.s (.int .i64 0)))] [.cc (.s (.int .i64 0))]
def R14_3:LO:=[oM 7 6,oF 8 2 2,oL 9 8,⟨some 10,.lenS .s (.t 9),none⟩,⟨some 11,.bin .lss (.t 7) (.t 10),none⟩]
def T14_3:=hT R14_3 [7,8,9,10] [11] 12 [] [(11,.op (.bin .lss (.t 0) (.t 1)) [.t 6,.op (.lenS .s (.t 0)) [.op (.load false 1 (.t 0)) [.op (.fieldAddr 2 (.t 0)) [.t 2]]]])] [.tt 6,sb [1,0,0],sb [1,0],sb [1],sb []]
def R14_4:LO:=[oF 14 2 2,oL 15 14,oM 16 6,⟨some 17,.indexAddr 2 (.t 15) (.t 16),none⟩,oF 18 0 17,oL 19 18,oM 20 1,⟨some 21,.bin .eql (.t 19) (.t 20),none⟩]
def T14_4:=hT R14_4 [11,14,15,16,17,18,19,20] [21] 22 [] [(21,.op (.bin .eql (.t 0) (.t 1)) [.op (.load false 1 (.t 0)) [.op (.fieldAddr 0 (.t 0)) [.op (.indexAddr 2 (.t 0) (.t 1)) [.op (.load false 1 (.t 0)) [.op (.fieldAddr 2 (.t 0)) [.t 2]],.t 6]]],.t 1])] [sb [0,0,0,0,0],sb [0,0,0,0],.tt 6,sb [0,0,0],sb [0,0],sb [0],.tt 1,sb []]
def R14_5:LO:=[oM 22 5,⟨some 23,.bin .add (.t 22) (.c (.s (.int .i64 1))),none⟩,oM 5 23]
def T14_5:=hT R14_5 [21,22,23] [5] 24 [] [(5,.op (.bin .add (.t 0) (.c (.s (.int .i64 1)))) [.t 5,.c (.s (.int .i64 1))])] [.tt 5,sb [],sb []]
def R14_6:LO:=[oM 12 6,⟨some 13,.bin .add (.t 12) (.c (.s (.int .i64 1))),none⟩,oM 6 13]
def T14_6:=hT R14_6 [12,13,21] [6] 14 [] [(6,.op (.bin .add (.t 0) (.c (.s (.int .i64 1)))) [.t 6,.c (.s (.int .i64 1))])] [.tt 6,sb [],sb []]
def s_f14_l0_b:ACode:=
 (.seq (.seq (.regionE R14_3 [7,8,9,10] [11])
 (.cond (.t 11)
 .skip
 (.exit 0)))
 (.seq (.block 1
 (.seq (.regionE R14_4 [11,14,15,16,17,18,19,20] [21])
 (.cond (.t 21)
 (.regionE R14_5 [21,22,23] [5])
 .skip)))
 (.regionE R14_6 [12,13,21] [6])))
def s_f14_l0:ACode:=s_f14_l0_b
def s_f14_l0_ev:=hE s_f14_l0 s_f14_l0_b
def R14_7:LO:=[oM 24 5,oM 4 24]
def T14_7:=hT R14_7 [1,2,5,6,11,24] [4] 25 [] [(4,.t 5)] [.tt 5,.tt 5]
def s_f14:ACFun:={ ntmps:=25,results:=[.tmp 4],body:=
 (.seq (.region R14_0 [] K14_0)
 (.seq (.regionE R14_1 [] [5])
 (.seq (.seq (.regionE R14_2 [] [6])
 (.block 0
 (.loop [] s_f14_l0)))
 (.seq (.regionE R14_7 [1,2,5,6,11,24] [4])
 .ret)))) }
theorem s_f14_first:firstOk (List.range' 2 (s_f14.ntmps - 2)) s_f14.body=true:=by kernel_rfl
abbrev k_f15:Nat:=15
def K15_0:List Nat:=[0] ++ List.range' 3 55
def A15_0_0:=hQ K15_0 0
def A15_0_1:=hK K15_0 1
def A15_0_2:=hK K15_0 2
def A15_0_4:=hQ K15_0 4
def R15_0t1:LO:=[⟨some 4,.move (.c (.s (.int .i64 0))),none⟩]
def R15_0p0:LO:=[⟨some 2,.box (.t 0),none⟩]
def R15_0:LO:=R15_0p0 ++ R15_0t1
def K15_0p0:List Nat:=[0] ++ List.range' 3 55
def A15_0p0_0:=hQ K15_0p0 0
def A15_0p0_1:=hK K15_0p0 1
def A15_0p0_2:=hK K15_0p0 2
def A15_0p0_4:=hQ K15_0p0 4
theorem X15_0 (call:CallF) (it:IterF) (base:Nat) (f:List V) (H:Heap):evC call it base (.region R15_0 [] K15_0) f H=thenC call it base (.region R15_0t1 [] K15_0) (opsC [] R15_0p0 K15_0p0 (evOps call base [⟨some 2,.box (.t 0),none⟩] f H)):=(row_op call it base R15_0p0 R15_0t1 (kc:=K15_0p0) (by kernel_rfl) f H).trans (by rw [row_ops];rfl)
def T15_0t1:=hT R15_0t1 K15_0 [] 5 [] [] [.cc (.s (.int .i64 0))]
def X15_0t1:=hL R15_0t1 K15_0 []
def R15_1:LO:=[⟨some 5,.move (.c (.s (.int .i64 0))),none⟩]
def T15_1:=hT R15_1 [] [5] 6 [] [(5,.c (.s (.int .i64 0)))] [.cc (.s (.int .i64 0))]
def R15_2:LO:=[⟨some 6,.move (.c (.s (.int .i64 0))),none⟩]
def T15_2:=hT R15_2 [] [6] 7 [] [(6,.c (.s (.int .i64 0)))] [.cc (.s (.int .i64 0))]
def R15_3:LO:=[oM 9 6,oF 10 1 2,oL 11 10,⟨some 12,.lenS .s (.t 11),none⟩,⟨some 13,.bin .lss (.t 9) (.t 12),none⟩]
def T15_3:=hT R15_3 [9,10,11,12] [13] 14 [] [(13,.op (.bin .lss (.t 0) (.t 1)) [.t 6,.op (.lenS .s (.t 0)) [.op (.load false 1 (.t 0)) [.op (.fieldAddr 1 (.t 0)) [.t 2]]]])] [.tt 6,sb [1,0,0],sb [1,0],sb [1],sb []]
def R15_4:LO:=[oF 16 1 2,oL 17 16,oM 18 6,⟨some 19,.indexAddr 1 (.t 17) (.t 18),none⟩,oL 20 19,oM 21 1,⟨some 22,.bin .eql (.t 20) (.t 21),none⟩]
def T15_4:=hT R15_4 [13,16,17,18,19,20,21] [22] 23 [] [(22,.op (.bin .eql (.t 0) (.t 1)) [.op (.load false 1 (.t 0)) [.op (.indexAddr 1 (.t 0) (.t 1)) [.op (.load false 1 (.t 0)) [.op (.fieldAddr 1 (.t 0)) [.t 2]],.t 6]],.t 1])] [sb [0,0,0,0],sb [0,0,0],.tt 6,sb [0,0],sb [0],.tt 1,sb []]
def R15_5:LO:=[oM 23 5,⟨some 24,.bin .add (.t 23) (.c (.s (.int .i64 1))),none⟩,oM 5 24]
def T15_5:=hT R15_5 [22,23,24] [5] 25 [] [(5,.op (.bin .add (.t 0) (.c (.s (.int .i64 1)))) [.t 5,.c (.s (.int .i64 1))])] [.tt 5,sb [],sb []]
def R15_6:LO:=[oM 14 6,⟨some 15,.bin .add (.t 14) (.c (.s (.int .i64 1))),none⟩,oM 6 15]
def T15_6:=hT R15_6 [14,15,22] [6] 16 [] [(6,.op (.bin .add (.t 0) (.c (.s (.int .i64 1)))) [.t 6,.c (.s (.int .i64 1))])] [.tt 6,sb [],sb []]
def s_f15_l0_b:ACode:=
 (.seq (.seq (.regionE R15_3 [9,10,11,12] [13])
 (.cond (.t 13)
 .skip
 (.exit 0)))
 (.seq (.block 1
 (.seq (.regionE R15_4 [13,16,17,18,19,20,21] [22])
 (.cond (.t 22)
 (.regionE R15_5 [22,23,24] [5])
 .skip)))
 (.regionE R15_6 [14,15,22] [6])))
def s_f15_l0:ACode:=s_f15_l0_b
def s_f15_l0_ev:=hE s_f15_l0 s_f15_l0_b
def R15_7:LO:=[⟨some 7,.move (.c (.s (.int .i64 0))),none⟩]
def T15_7:=hT R15_7 [6,13] [7] 8 [] [(7,.c (.s (.int .i64 0)))] [.cc (.s (.int .i64 0))]
def R15_8:LO:=[oM 25 7,oF 26 2 2,oL 27 26,⟨some 28,.lenS .s (.t 27),none⟩,⟨some 29,.bin .lss (.t 25) (.t 28),none⟩]
def T15_8:=hT R15_8 [25,26,27,28] [29] 30 [] [(29,.op (.bin .lss (.t 0) (.t 1)) [.t 7,.op (.lenS .s (.t 0)) [.op (.load false 1 (.t 0)) [.op (.fieldAddr 2 (.t 0)) [.t 2]]]])] [.tt 7,sb [1,0,0],sb [1,0],sb [1],sb []]
def R15_9:LO:=[⟨some 8,.move (.c (.s (.int .i64 0))),none⟩]
def T15_9:=hT R15_9 [29] [8] 9 [] [(8,.c (.s (.int .i64 0)))] [.cc (.s (.int .i64 0))]
def R15_10:LO:=[oM 32 8,oF 33 2 2,oL 34 33,oM 35 7,⟨some 36,.indexAddr 2 (.t 34) (.t 35),none⟩,oF 37 1 36,oL 38 37,⟨some 39,.lenS .s (.t 38),none⟩,⟨some 40,.bin .lss (.t 32) (.t 39),none⟩]
def T15_10:=hT R15_10 [32,33,34,35,36,37,38,39] [40] 41 [] [(40,.op (.bin .lss (.t 0) (.t 1)) [.t 8,.op (.lenS .s (.t 0)) [.op (.load false 1 (.t 0)) [.op (.fieldAddr 1 (.t 0)) [.op (.indexAddr 2 (.t 0) (.t 1)) [.op (.load false 1 (.t 0)) [.op (.fieldAddr 2 (.t 0)) [.t 2]],.t 7]]]]])] [.tt 8,sb [1,0,0,0,0,0],sb [1,0,0,0,0],.tt 7,sb [1,0,0,0],sb [1,0,0],sb [1,0],sb [1],sb []]
def R15_11:LO:=[oF 43 2 2,oL 44 43,oM 45 7,⟨some 46,.indexAddr 2 (.t 44) (.t 45),none⟩,oF 47 1 46,oL 48 47,oM 49 8,⟨some 50,.indexAddr 8 (.t 48) (.t 49),none⟩,oF 51 1 50,oL 52 51,oM 53 1,⟨some 54,.bin .eql (.t 52) (.t 53),none⟩]
def T15_11:=hT R15_11 [40,43,44,45,46,47,48,49,50,51,52,53] [54] 55 [] [(54,.op (.bin .eql (.t 0) (.t 1)) [.op (.load false 1 (.t 0)) [.op (.fieldAddr 1 (.t 0)) [.op (.indexAddr 8 (.t 0) (.t 1)) [.op (.load false 1 (.t 0)) [.op (.fieldAddr 1 (.t 0)) [.op (.indexAddr 2 (.t 0) (.t 1)) [.op (.load false 1 (.t 0)) [.op (.fieldAddr 2 (.t 0)) [.t 2]],.t 7]]],.t 8]]],.t 1])] [sb [0,0,0,0,0,0,0,0],sb [0,0,0,0,0,0,0],.tt 7,sb [0,0,0,0,0,0],sb [0,0,0,0,0],sb [0,0,0,0],.tt 8,sb [0,0,0],sb [0,0],sb [0],.tt 1,sb []]
def R15_12:LO:=[oM 55 5,⟨some 56,.bin .add (.t 55) (.c (.s (.int .i64 1))),none⟩,oM 5 56]
def T15_12:=hT R15_12 [54,55,56] [5] 57 [] [(5,.op (.bin .add (.t 0) (.c (.s (.int .i64 1)))) [.t 5,.c (.s (.int .i64 1))])] [.tt 5,sb [],sb []]
def R15_13:LO:=[oM 41 8,⟨some 42,.bin .add (.t 41) (.c (.s (.int .i64 1))),none⟩,oM 8 42]
def T15_13:=hT R15_13 [41,42,54] [8] 43 [] [(8,.op (.bin .add (.t 0) (.c (.s (.int .i64 1)))) [.t 8,.c (.s (.int .i64 1))])] [.tt 8,sb [],sb []]
def s_f15_l1_b:ACode:=
 (.seq (.seq (.regionE R15_10 [32,33,34,35,36,37,38,39] [40])
 (.cond (.t 40)
 .skip
 (.exit 4)))
 (.seq (.block 5
 (.seq (.regionE R15_11 [40,43,44,45,46,47,48,49,50,51,52,53] [54])
 (.cond (.t 54)
 (.regionE R15_12 [54,55,56] [5])
 .skip)))
 (.regionE R15_13 [41,42,54] [8])))
def s_f15_l1:ACode:=s_f15_l1_b
def s_f15_l1_ev:=hE s_f15_l1 s_f15_l1_b
def R15_14:LO:=[oM 30 7,⟨some 31,.bin .add (.t 30) (.c (.s (.int .i64 1))),none⟩,oM 7 31]
def T15_14:=hT R15_14 [8,30,31,40] [7] 32 [] [(7,.op (.bin .add (.t 0) (.c (.s (.int .i64 1)))) [.t 7,.c (.s (.int .i64 1))])] [.tt 7,sb [],sb []]
def s_f15_l2_b:ACode:=
 (.seq (.seq (.regionE R15_8 [25,26,27,28] [29])
 (.cond (.t 29)
 .skip
 (.exit 2)))
 (.seq (.block 3
 (.seq (.regionE R15_9 [29] [8])
 (.block 4
 (.loop [] s_f15_l1))))
 (.regionE R15_14 [8,30,31,40] [7])))
def s_f15_l2:ACode:=s_f15_l2_b
def s_f15_l2_ev:=hE s_f15_l2 s_f15_l2_b
def R15_15:LO:=[oM 57 5,oM 4 57]
def T15_15:=hT R15_15 [1,2,5,7,29,57] [4] 58 [] [(4,.t 5)] [.tt 5,.tt 5]
def s_f15:ACFun:={ ntmps:=58,results:=[.tmp 4],body:=
 (.seq (.region R15_0 [] K15_0)
 (.seq (.regionE R15_1 [] [5])
 (.seq (.seq (.regionE R15_2 [] [6])
 (.block 0
 (.loop [] s_f15_l0)))
 (.seq (.seq (.regionE R15_7 [6,13] [7])
 (.block 2
 (.loop [] s_f15_l2)))
 (.seq (.regionE R15_15 [1,2,5,7,29,57] [4])
 .ret))))) }
theorem s_f15_first:firstOk (List.range' 2 (s_f15.ntmps - 2)) s_f15.body=true:=by kernel_rfl
abbrev k_f16:Nat:=16
def K16_0:List Nat:=[0] ++ List.range' 3 14
def A16_0_0:=hQ K16_0 0
def A16_0_1:=hK K16_0 1
def A16_0_2:=hK K16_0 2
def A16_0_4:=hQ K16_0 4
def R16_0t1:LO:=[⟨some 4,.move (.c (.s (.bool false))),none⟩]
def R16_0:LO:=⟨some 2,.box (.t 0),none⟩ :: R16_0t1
def X16_0:=hP R16_0 R16_0t1 [0,3,4,5,6,7,8,9,10,11,12,13,14,15,16] K16_0 ⟨some 2,.box (.t 0),none⟩
def T16_0t1:=hT R16_0t1 K16_0 [] 5 [] [] [.cc (.s (.bool false))]
def X16_0t1:=hL R16_0t1 K16_0 []
def R16_1t4:LO:=[⟨some 15,.bin .eql (.t 14) (.c (.s (.int .i64 1))),some (11,false)⟩,⟨some 16,.pick (.t 11) (.c (.s (.bool true))) (.t 15),none⟩,oM 4 16]
def R16_1t3:LO:=⟨some 14,.call (.c (.fn 15 [] [])) [.t 12,.t 13],some (11,false)⟩ :: R16_1t4
def R16_1t2:LO:=gM 13 1 11 false :: R16_1t3
def R16_1t1:LO:=⟨some 12,.load true 3 (.t 2),some (11,false)⟩ :: R16_1t2
def R16_1p0:LO:=[oM 5 1,⟨some 6,.bin .eql (.t 5) (.c (.s (.string ⟨#[]⟩))),none⟩,oM 7 6,gM 8 1 7 false,⟨some 9,.bin .eql (.t 8) (.c (.s (.string ⟨#[110,117,108,108]⟩))),some (7,false)⟩,⟨some 10,.pick (.t 7) (.c (.s (.bool true))) (.t 9),none⟩,oM 11 10]
def R16_1:LO:=R16_1p0 ++ R16_1t1
def T16_1p0:=hT R16_1p0 [5,6,7,8,9,10] [11] 12 [] [(11,.pick (.op (.bin .eql (.t 0) (.c (.s (.string ⟨#[]⟩)))) [.t 1,.c (.s (.string ⟨#[]⟩))]) (.c (.s (.bool true))) (.op (.bin .eql (.t 0) (.c (.s (.string ⟨#[110,117,108,108]⟩)))) [.t 1,.c (.s (.string ⟨#[110,117,108,108]⟩))]))] [.tt 1,sb [0],sb [0],.sub 0 [2,0] [7],.sub 0 [2] [7],sb [],sb []]
def X16_1:=hS R16_1 R16_1p0 R16_1t1 [5,6,7,8,9,10] [11] [1,2,5,6,7,8,9,10,11,12,13,14,15,16]
def X16_1t1:=hP R16_1t1 R16_1t2 [2] [1,2,5,6,7,8,9,10,11,12,13,14,15,16] ⟨some 12,.load true 3 (.t 2),some (11,false)⟩
def X16_1t2:=hP R16_1t2 R16_1t3 [1] [1,2,5,6,7,8,9,10,11,12,13,14,15,16] ⟨some 13,.move (.t 1),some (11,false)⟩
def X16_1t3:=hP R16_1t3 R16_1t4 [12,13] [1,2,5,6,7,8,9,10,11,12,13,14,15,16] ⟨some 14,.call (.c (.fn 15 [] [])) [.t 12,.t 13],some (11,false)⟩
def T16_1t4:=hT R16_1t4 [1,2,5,6,7,8,9,10,11,12,13,14,15,16] [4] 17 [] [(4,.pick (.t 11) (.c (.s (.bool true))) (.op (.bin .eql (.t 0) (.c (.s (.int .i64 1)))) [.t 14,.c (.s (.int .i64 1))]))] [.sub 0 [2] [11],sb [],sb []]
def X16_1t4:=hL R16_1t4 [1,2,5,6,7,8,9,10,11,12,13,14,15,16] [4]
def s_f16:ACFun:={ ntmps:=17,results:=[.tmp 4],body:=
 (.seq (.region R16_0 [] K16_0)
 (.seq (.region R16_1 [] [1,2,5,6,7,8,9,10,11,12,13,14,15,16])
 .ret)) }
theorem s_f16_first:firstOk (List.range' 2 (s_f16.ntmps - 2)) s_f16.body=true:=by kernel_rfl
abbrev k_f17:Nat:=17
def K17_0:List Nat:=[0] ++ List.range' 3 27
def A17_0_0:=hQ K17_0 0
def A17_0_1:=hK K17_0 1
def A17_0_2:=hK K17_0 2
def A17_0_4:=hQ K17_0 4
def R17_0t1:LO:=[⟨some 4,.move (.c (.s (.int .i64 0))),none⟩]
def R17_0:LO:=⟨some 2,.box (.t 0),none⟩ :: R17_0t1
def X17_0:=hP R17_0 R17_0t1 [0,3,4,5,6,7,8,9,10,11,12,13,14,15,16,17,18,19,20,21,22,23,24,25,26,27,28,29] K17_0 ⟨some 2,.box (.t 0),none⟩
def T17_0t1:=hT R17_0t1 K17_0 [] 5 [] [] [.cc (.s (.int .i64 0))]
def X17_0t1:=hL R17_0t1 K17_0 []
def R17_1:LO:=[⟨some 5,.move (.c (.s (.int .i64 (-1)))),none⟩]
def T17_1:=hT R17_1 [] [5] 6 [] [(5,.c (.s (.int .i64 (-1))))] [.cc (.s (.int .i64 (-1)))]
def R17_2:LO:=[⟨some 6,.move (.c (.s (.int .i64 0))),none⟩]
def T17_2:=hT R17_2 [] [6] 7 [] [(6,.c (.s (.int .i64 0)))] [.cc (.s (.int .i64 0))]
def R17_3:LO:=[oM 7 6,oF 8 0 2,oL 9 8,⟨some 10,.lenS .s (.t 9),none⟩,⟨some 11,.bin .lss (.t 7) (.t 10),none⟩]
def T17_3:=hT R17_3 [7,8,9,10] [11] 12 [] [(11,.op (.bin .lss (.t 0) (.t 1)) [.t 6,.op (.lenS .s (.t 0)) [.op (.load false 1 (.t 0)) [.op (.fieldAddr 0 (.t 0)) [.t 2]]]])] [.tt 6,sb [1,0,0],sb [1,0],sb [1],sb []]
def R17_4:LO:=[oF 14 0 2,oL 15 14,oM 16 6,⟨some 17,.indexAddr 3 (.t 15) (.t 16),none⟩,oF 18 0 17,oL 19 18,oM 20 1,⟨some 21,.bin .eql (.t 19) (.t 20),none⟩]
def T17_4:=hT R17_4 [11,14,15,16,17,18,19,20] [21] 22 [] [(21,.op (.bin .eql (.t 0) (.t 1)) [.op (.load false 1 (.t 0)) [.op (.fieldAddr 0 (.t 0)) [.op (.indexAddr 3 (.t 0) (.t 1)) [.op (.load false 1 (.t 0)) [.op (.fieldAddr 0 (.t 0)) [.t 2]],.t 6]]],.t 1])] [sb [0,0,0,0,0],sb [0,0,0,0],.tt 6,sb [0,0,0],sb [0,0],sb [0],.tt 1,sb []]
def R17_5:LO:=[oF 22 0 2,oL 23 22,oM 24 6,⟨some 25,.indexAddr 3 (.t 23) (.t 24),none⟩,oF 26 1 25,oL 27 26,⟨some 28,.lenS .s (.t 27),none⟩,oM 5 28]
def T17_5:=hT R17_5 [21,22,23,24,25,26,27,28] [5] 29 [] [(5,.op (.lenS .s (.t 0)) [.op (.load false 1 (.t 0)) [.op (.fieldAddr 1 (.t 0)) [.op (.indexAddr 3 (.t 0) (.t 1)) [.op (.load false 1 (.t 0)) [.op (.fieldAddr 0 (.t 0)) [.t 2]],.t 6]]]])] [sb [0,0,0,0,0],sb [0,0,0,0],.tt 6,sb [0,0,0],sb [0,0],sb [0],sb [],sb []]
def R17_6:LO:=[oM 12 6,⟨some 13,.bin .add (.t 12) (.c (.s (.int .i64 1))),none⟩,oM 6 13]
def T17_6:=hT R17_6 [12,13,21] [6] 14 [] [(6,.op (.bin .add (.t 0) (.c (.s (.int .i64 1)))) [.t 6,.c (.s (.int .i64 1))])] [.tt 6,sb [],sb []]
def s_f17_l0_b:ACode:=
 (.seq (.seq (.regionE R17_3 [7,8,9,10] [11])
 (.cond (.t 11)
 .skip
 (.exit 0)))
 (.seq (.block 1
 (.seq (.regionE R17_4 [11,14,15,16,17,18,19,20] [21])
 (.cond (.t 21)
 (.regionE R17_5 [21,22,23,24,25,26,27,28] [5])
 .skip)))
 (.regionE R17_6 [12,13,21] [6])))
def s_f17_l0:ACode:=s_f17_l0_b
def s_f17_l0_ev:=hE s_f17_l0 s_f17_l0_b
def R17_7:LO:=[oM 29 5,oM 4 29]
def T17_7:=hT R17_7 [1,2,5,6,11,29] [4] 30 [] [(4,.t 5)] [.tt 5,.tt 5]
def s_f17:ACFun:={ ntmps:=30,results:=[.tmp 4],body:=
 (.seq (.region R17_0 [] K17_0)
 (.seq (.regionE R17_1 [] [5])
 (.seq (.seq (.regionE R17_2 [] [6])
 (.block 0
 (.loop [] s_f17_l0)))
 (.seq (.regionE R17_7 [1,2,5,6,11,29] [4])
 .ret)))) }
theorem s_f17_first:firstOk (List.range' 2 (s_f17.ntmps - 2)) s_f17.body=true:=by kernel_rfl
def a_f4:=ai A4_0p0_0 (ai A4_0p0_1 (ai A4_0p0_2 (ai X4_0 (ai T4_0t1 (ai X4_0t1 (ai A4_0_0 (ai A4_0_1 (ai A4_0_2 (ai T4_1p0 (ai X4_1 (ai X4_1t1 (ai T4_2 (ai T4_3p0 (ai X4_3 (ai X4_3t1 (ai X4_3t2 (ai X4_3t3 (ai T4_4 (ai T4_5p0 (ai X4_5 (ai X4_5t1 (ai T4_5p2 (ai X4_5t2 (ai X4_5t3 (ai X4_5t4 (ai T4_5t5 (ai X4_5t5 (ai T4_6 (ai T4_7 (ai T4_8p0 (ai X4_8 (ai X4_8t1 (ai T4_8p2 (ai X4_8t2 (ai X4_8t3 (ai X4_8t4 (ai T4_8t5 (ai X4_8t5 (ai T4_9 (ai T4_10 (ai T4_11 (ai s_f4_l0_ev (ai T4_12p0 (ai X4_12 (ai X4_12t1 (ai T4_12t2 (ai X4_12t2 (ai T4_13 (ai T4_14 (ai T4_15 (ai T4_16p0 (ai X4_16 (ai X4_16t1 (ai X4_16t2 (ai T4_17 (ai T4_18 (ai T4_19 (ai T4_20 (ai T4_21p0 (ai X4_21 (ai X4_21t1 (ai T4_21p2 (ai X4_21t2 (ai X4_21t3 (ai X4_21t4 (ai X4_21t5 (ai X4_21t6 (ai T4_21t7 (ai X4_21t7 (ai T4_22 (ai T4_23 (ai T4_24 (ai T4_25 (ai T4_26p0 (ai X4_26 (ai X4_26t1 (ai X4_26t2 (ai X4_26t3 (ai X4_26t4 (ai X4_26t5 (ai X4_26t6 (ai X4_26t7 (ai X4_26t8 (ai T4_26t9 (ai X4_26t9 (ai T4_27 (ai T4_28 (ai T4_29 (ai T4_30p0 (ai X4_30 (ai X4_30t1 (ai X4_30t2 (ai T4_31 (ai T4_32p0 (ai X4_32 (ai X4_32t1 (ai X4_32t2 (ai X4_32t3 (ai X4_32t4 (ai X4_32t5 (ai X4_32t6 (ai X4_32t7 (ai X4_32t8 (ai T4_32p9 (ai X4_32t9 (ai X4_32t10 (ai X4_32t11 (ai X4_32t12 (ai X4_32t13 (ai T4_32p14 (ai X4_32t14 (ai X4_32t15 (ai X4_32t16 (ai X4_32t17 (ai X4_32t18 (ai T4_32t19 (ai X4_32t19 (ai T4_33 (ai T4_34 (ai T4_35 (ai T4_36p0 (ai X4_36 (ai X4_36t1 (ai T4_36t2 (ai X4_36t2 (ai T4_37 (ai T4_38 (ai s_f4_l1_ev (ai T4_39 (ai T4_40 (ai T4_41p0 (ai X4_41 (ai X4_41t1 (ai T4_41t2 (ai X4_41t2 (ai T4_42 (ai T4_43 (ai s_f4_l2_ev (ai T4_44p0 (ai X4_44 (ai X4_44t1 (ai X4_44t2 (ai X4_44t3 (ai X4_44t4 (ai T4_44t5 (ai X4_44t5 (ai T4_45 (ai T4_46p0 (ai X4_46 (ai X4_46t1 (ai X4_46t2 (ai X4_46t3 (ai X4_46t4 (ai X4_46t5 (ai X4_46t6 (ai X4_46t7 (ai T4_46t8 (ai X4_46t8 (ai T4_47 (ai T4_48 (ai s_f4_l3_ev (ai T4_49 (ai s_f4_l4_ev (ai T4_50 (ai T4_51 (ai T4_52p0 (ai X4_52 (ai X4_52t1 (ai T4_52t2 (ai X4_52t2 (ai T4_53 (ai T4_54 (ai s_f4_l5_ev (ai T4_55 (ai s_f4_l6_ev (ai T4_56p0 (ai X4_56 (ai X4_56t1 (ai T4_56t2 (X4_56t2))))))))))))))))))))))))))))))))))))))))))))))))))))))))))))))))))))))))))))))))))))))))))))))))))))))))))))))))))))))))))))))))))))))))))))))))))))))))))))))))))))))))))))))))))))
def a_f13:=ai X13_0 (ai T13_0t1 (ai X13_0t1 (ai A13_0_0 (ai A13_0_1 (ai A13_0_2 (ai A13_0_4 (ai T13_1 (ai T13_2 (ai T13_3 (ai T13_4 (ai T13_5 (ai T13_6 (ai s_f13_l0_ev (T13_7))))))))))))))
def a_f14:=ai X14_0 (ai T14_0t1 (ai X14_0t1 (ai A14_0_0 (ai A14_0_1 (ai A14_0_2 (ai A14_0_4 (ai T14_1 (ai T14_2 (ai T14_3 (ai T14_4 (ai T14_5 (ai T14_6 (ai s_f14_l0_ev (T14_7))))))))))))))
def a_f15:=ai A15_0p0_0 (ai A15_0p0_1 (ai A15_0p0_2 (ai A15_0p0_4 (ai X15_0 (ai T15_0t1 (ai X15_0t1 (ai A15_0_0 (ai A15_0_1 (ai A15_0_2 (ai A15_0_4 (ai T15_1 (ai T15_2 (ai T15_3 (ai T15_4 (ai T15_5 (ai T15_6 (ai s_f15_l0_ev (ai T15_7 (ai T15_8 (ai T15_9 (ai T15_10 (ai T15_11 (ai T15_12 (ai T15_13 (ai s_f15_l1_ev (ai T15_14 (ai s_f15_l2_ev (T15_15))))))))))))))))))))))))))))
def a_f16:=ai X16_0 (ai T16_0t1 (ai X16_0t1 (ai A16_0_0 (ai A16_0_1 (ai A16_0_2 (ai A16_0_4 (ai T16_1p0 (ai X16_1 (ai X16_1t1 (ai X16_1t2 (ai X16_1t3 (ai T16_1t4 (X16_1t4)))))))))))))
def a_f17:=ai X17_0 (ai T17_0t1 (ai X17_0t1 (ai A17_0_0 (ai A17_0_1 (ai A17_0_2 (ai A17_0_4 (ai T17_1 (ai T17_2 (ai T17_3 (ai T17_4 (ai T17_5 (ai T17_6 (ai s_f17_l0_ev (T17_7))))))))))))))
theorem NA4_4:compK Try.prog PX0 4=some (false,s_f4.ntmps,s_f4.results,s_f4.body.bare):=by kernel_rfl
theorem NA4_13:compK Try.prog PX0 13=some (false,s_f13.ntmps,s_f13.results,s_f13.body.bare):=by kernel_rfl
theorem NA4_14:compK Try.prog PX0 14=some (false,s_f14.ntmps,s_f14.results,s_f14.body.bare):=by kernel_rfl
theorem NA4_15:compK Try.prog PX0 15=some (false,s_f15.ntmps,s_f15.results,s_f15.body.bare):=by kernel_rfl
theorem NA4_16:compK Try.prog PX0 16=some (false,s_f16.ntmps,s_f16.results,s_f16.body.bare):=by kernel_rfl
theorem NA4_17:compK Try.prog PX0 17=some (false,s_f17.ntmps,s_f17.results,s_f17.body.bare):=by kernel_rfl
end Go.Proofs.YtamlbkalopefgaaR
set_option maxRecDepth 100000
namespace Go.Proofs.YtamlbkalopefgaaR
open Go.AM
theorem cnt_take {α:Type} {p:α→Bool} {l:List α} {k:Nat} {x:α} (h:l[k]?=some x):(l.take (k+1)).countP p=(l.take k).countP p+if p x=true then 1 else 0:=by
 rw [List.take_add_one,h,List.countP_append]
 by_cases e:p x=true <;> simp [e]
theorem parsL_snoc (s:ByteArray) (x:FunD):∀ (l:List FunD) (n:Int),parsL s (l ++ [x]) n=if eqB x.name s=true then (x.ps.length:Int) else parsL s l n:=by
 intro l
 induction l with
 | nil=>intro n;rfl
 | cons a l ih=>intro n;rw [List.cons_append,parsL,ih,parsL]
theorem parsL_take {s:ByteArray} {l:List FunD} {k:Nat} {x:FunD} (h:l[k]?=some x) (n:Int):parsL s (l.take (k+1)) n=if eqB x.name s=true then (x.ps.length:Int) else parsL s (l.take k) n:=by
 rw [List.take_add_one,h]
 exact parsL_snoc s x _ n
theorem dfB_snoc (s:ByteArray) (x:BlkD):∀ (l:List BlkD),dfB (l ++ [x]) s=dfB l s+dfI x.code s:=by
 intro l
 induction l with
 | nil=>simp [dfB]
 | cons a l ih=>rw [List.cons_append,dfB,ih,dfB];omega
theorem dfB_take {s:ByteArray} {l:List BlkD} {k:Nat} {x:BlkD} (h:l[k]?=some x):dfB (l.take (k+1)) s=dfB (l.take k) s+dfI x.code s:=by
 rw [List.take_add_one,h]
 exact dfB_snoc s x _
theorem dfI_le (l:List InsD) (s:ByteArray):dfI l s≤l.length:=List.countP_le_length
theorem dfB_len {s:ByteArray} {c:Nat}:∀ {l:List BlkD},(∀ b∈l,b.code.length≤c)→dfB l s≤l.length * c:=by
 intro l
 induction l with
 | nil=>intro _;simp [dfB]
 | cons a l ih=>
   intro h
   have h1:=ih fun b hb=>h b (List.mem_cons_of_mem _ hb)
   have h2:=h a List.mem_cons_self
   have h3:=dfI_le a.code s
   rw [dfB,List.length_cons,Nat.add_mul]
   omega
section
variable {CT:Nat→Option CFun}
set_option maxHeartbeats 2000000 in
theorem funcs2_fun (hT:CT k_f13=some (.code s_f13)) (base:Nat) {A:Heap} (hb:base≤A.length) {fv:V} {fs:List FunD} (hr:RdProg A fv fs) (hs:Small fs) (s:ByteArray):
 ∃ H',callW CT (.fn k_f13 [] []) [.agg [fv],Sb s] base A=some (Iz (cntF fs s),H')∧Ext A H':=by
 have hfo:=hr.one
 have hn:=hs.n
 obtain ⟨A1,hA1⟩:∃ A1,A ++ [Ob.cells 0 [fv]]=A1:=⟨_,rfl⟩
 have l1:A1.length=A.length+1:=by rw [← hA1,len_snoc]
 have e1:Ext A A1:=hA1 ▸ Ext.app _ _
 have x1:getC A1 A.length 0=some [fv]:=hA1 ▸ getC_new A 0 _
 have hfl:=(hr.ext e1).len
 have step:∀ i,i < fs.length→itW (evC (callW CT) itW base s_f13_l0) [] A1.length (frOf 25 [(1,Sb s),(2,.ref A.length 0 0),(5,Iz ((fs.take i).countP fun f=>eqB f.name s)),(6,Iz i)]) A1=itW (evC (callW CT) itW base s_f13_l0) [] A1.length (frOf 25 [(1,Sb s),(2,.ref A.length 0 0),(5,Iz ((fs.take (i+1)).countP fun f=>eqB f.name s)),(6,Iz (i+1:Nat))]) A1:=by
  intro i hi
  have hlt':((i:Int) < (fs.length:Int)):=by omega
  have hwk:=w64 (n:=i) (by omega)
  have hkx:=some_getD hi fun0
  obtain ⟨x,hxe⟩:∃ x,fs.getD i fun0=x:=⟨_,rfl⟩
  rw [hxe] at hkx
  obtain ⟨a,r,a1,hrr,_,a3⟩:=(hr.ext e1).at2 hkx
  obtain ⟨pv,bv,rfl,p1,p2,p3,p4⟩:=hrr
  obtain ⟨c,c1,c2⟩:=a3 0 _ rfl
  obtain ⟨c',c1',c2'⟩:=a3 1 _ rfl
  have c3:=c2 A1 (Ext.refl _)
  have c3':=c2' A1 (Ext.refl _)
  have hpl:=Sb_len p1
  rw [cnt_take hkx]
  rw [itW_step]
  unfold eqB
  cases he:(x.name.data.toList == s.data.toList) with
  | true=>
    have hle:(fs.take i).countP (fun f=>f.name.data.toList == s.data.toList)≤i:=by have:=List.countP_le_length (p:=fun f:FunD=>f.name.data.toList == s.data.toList) (l:=fs.take i);rw [List.length_take] at this;omega
    have hw2:=w64 (n:=(fs.take i).countP fun f=>f.name.data.toList == s.data.toList) (by omega)
    simp only [Sb] at c3
    simp only [Iz,Sb,bl,a_f13,s_f13_l0_b,aa,reduceIte,reduceCtorEq,Nat.reduceEqDiff,Nat.reduceLT,Nat.reduceLeDiff,Nat.reduceBEq,Nat.reduceAdd,Nat.reduceMul,x1,hfl,hlt',a1,c1,c3,c1',c3',hpl,he,hwk,trim_same rfl,hw2,if_true]
  | false=>
    simp only [Sb] at c3
    simp only [Iz,Sb,bl,a_f13,s_f13_l0_b,aa,reduceIte,reduceCtorEq,Nat.reduceEqDiff,Nat.reduceLT,Nat.reduceLeDiff,Nat.reduceBEq,Nat.reduceAdd,Nat.reduceMul,x1,hfl,hlt',a1,c1,c3,he,hwk,trim_same rfl,Bool.false_eq_true,if_false,Nat.add_zero]
 have h2:=it_fun fs.length (fun i=>itW (evC (callW CT) itW base s_f13_l0) [] A1.length (frOf 25 [(1,Sb s),(2,.ref A.length 0 0),(5,Iz ((fs.take i).countP fun f=>eqB f.name s)),(6,Iz i)]) A1) step 0 (Nat.zero_le _)
 have hend:itW (evC (callW CT) itW base s_f13_l0) [] A1.length (frOf 25 [(1,Sb s),(2,.ref A.length 0 0),(5,Iz ((fs.take fs.length).countP fun f=>eqB f.name s)),(6,Iz fs.length)]) A1=some (.ext 0,frOf 25 [(1,Sb s),(2,.ref A.length 0 0),(5,Iz ((fs.take fs.length).countP fun f=>eqB f.name s)),(6,Iz fs.length),(11,bl false)],A1):=by
  rw [itW_step]
  simp only [Iz,Sb,bl,a_f13,s_f13_l0_b,aa,reduceIte,reduceCtorEq,Nat.reduceEqDiff,Nat.reduceLT,Nat.reduceLeDiff,Nat.reduceBEq,Nat.reduceAdd,Nat.reduceMul,x1,hfl,Int.lt_irrefl,trim_same rfl]
 have h4:=h2.trans hend
 rw [List.take_zero,List.take_length] at h4
 refine ⟨A1,callW_fnA (c:=s_f13) (k:=2) hT rfl (by decide) s_f13_first ?_,e1⟩
 simp only [Iz,Sb,bl,cast0,l1,List.countP_nil] at h4
 simp only [Iz,Sb,bl,s_f13,a_f13,s_f13_l0_b,aa,reduceIte,reduceCtorEq,Nat.reduceEqDiff,Nat.reduceLT,Nat.reduceLeDiff,Nat.reduceBEq,Nat.reduceAdd,Nat.reduceMul,hfo,Bool.and_self,hA1,l1,h4]
 rfl
set_option maxHeartbeats 2000000 in
theorem params_fun (hT:CT k_f17=some (.code s_f17)) (base:Nat) {A:Heap} (hb:base≤A.length) {fv:V} {fs:List FunD} (hr:RdProg A fv fs) (hs:Small fs) (s:ByteArray):
 ∃ H',callW CT (.fn k_f17 [] []) [.agg [fv],Sb s] base A=some (Iz (parsL s fs (-1)),H')∧Ext A H':=by
 have hfo:=hr.one
 have hn:=hs.n
 obtain ⟨A1,hA1⟩:∃ A1,A ++ [Ob.cells 0 [fv]]=A1:=⟨_,rfl⟩
 have l1:A1.length=A.length+1:=by rw [← hA1,len_snoc]
 have e1:Ext A A1:=hA1 ▸ Ext.app _ _
 have x1:getC A1 A.length 0=some [fv]:=hA1 ▸ getC_new A 0 _
 have hfl:=(hr.ext e1).len
 have step:∀ i,i < fs.length→itW (evC (callW CT) itW base s_f17_l0) [] A1.length (frOf 30 [(1,Sb s),(2,.ref A.length 0 0),(5,Iz (parsL s (fs.take i) (-1))),(6,Iz i)]) A1=itW (evC (callW CT) itW base s_f17_l0) [] A1.length (frOf 30 [(1,Sb s),(2,.ref A.length 0 0),(5,Iz (parsL s (fs.take (i+1)) (-1))),(6,Iz (i+1:Nat))]) A1:=by
  intro i hi
  have hlt':((i:Int) < (fs.length:Int)):=by omega
  have hwk:=w64 (n:=i) (by omega)
  have hkx:=some_getD hi fun0
  obtain ⟨x,hxe⟩:∃ x,fs.getD i fun0=x:=⟨_,rfl⟩
  rw [hxe] at hkx
  obtain ⟨a,r,a1,hrr,_,a3⟩:=(hr.ext e1).at2 hkx
  obtain ⟨pv,bv,rfl,p1,p2,p3,p4⟩:=hrr
  obtain ⟨c,c1,c2⟩:=a3 0 _ rfl
  obtain ⟨c',c1',c2'⟩:=a3 1 _ rfl
  have c3:=c2 A1 (Ext.refl _)
  have c3':=c2' A1 (Ext.refl _)
  have hpl:=Sb_len p1
  rw [parsL_take hkx]
  rw [itW_step]
  unfold eqB
  cases he:(x.name.data.toList == s.data.toList) with
  | true=>
    skip
    simp only [Sb] at c3
    simp only [Iz,Sb,bl,a_f17,s_f17_l0_b,aa,reduceIte,reduceCtorEq,Nat.reduceEqDiff,Nat.reduceLT,Nat.reduceLeDiff,Nat.reduceBEq,Nat.reduceAdd,Nat.reduceMul,x1,hfl,hlt',a1,c1,c3,c1',c3',hpl,he,hwk,trim_same rfl,if_true,eqB]
  | false=>
    simp only [Sb] at c3
    simp only [Iz,Sb,bl,a_f17,s_f17_l0_b,aa,reduceIte,reduceCtorEq,Nat.reduceEqDiff,Nat.reduceLT,Nat.reduceLeDiff,Nat.reduceBEq,Nat.reduceAdd,Nat.reduceMul,x1,hfl,hlt',a1,c1,c3,he,hwk,trim_same rfl,eqB,Bool.false_eq_true,if_false]
 have h2:=it_fun fs.length (fun i=>itW (evC (callW CT) itW base s_f17_l0) [] A1.length (frOf 30 [(1,Sb s),(2,.ref A.length 0 0),(5,Iz (parsL s (fs.take i) (-1))),(6,Iz i)]) A1) step 0 (Nat.zero_le _)
 have hend:itW (evC (callW CT) itW base s_f17_l0) [] A1.length (frOf 30 [(1,Sb s),(2,.ref A.length 0 0),(5,Iz (parsL s (fs.take fs.length) (-1))),(6,Iz fs.length)]) A1=some (.ext 0,frOf 30 [(1,Sb s),(2,.ref A.length 0 0),(5,Iz (parsL s (fs.take fs.length) (-1))),(6,Iz fs.length),(11,bl false)],A1):=by
  rw [itW_step]
  simp only [Iz,Sb,bl,a_f17,s_f17_l0_b,aa,reduceIte,reduceCtorEq,Nat.reduceEqDiff,Nat.reduceLT,Nat.reduceLeDiff,Nat.reduceBEq,Nat.reduceAdd,Nat.reduceMul,x1,hfl,Int.lt_irrefl,trim_same rfl]
 have h4:=h2.trans hend
 rw [List.take_zero,List.take_length] at h4
 refine ⟨A1,callW_fnA (c:=s_f17) (k:=2) hT rfl (by decide) s_f17_first ?_,e1⟩
 simp only [Iz,Sb,bl,cast0,l1,parsL] at h4
 simp only [Iz,Sb,bl,s_f17,a_f17,s_f17_l0_b,aa,reduceIte,reduceCtorEq,Nat.reduceEqDiff,Nat.reduceLT,Nat.reduceLeDiff,Nat.reduceBEq,Nat.reduceAdd,Nat.reduceMul,hfo,Bool.and_self,hA1,l1,h4]
set_option maxHeartbeats 2000000 in
theorem blocks_fun (hT:CT k_f14=some (.code s_f14)) (base:Nat) {A:Heap} (hb:base≤A.length) {r:List V} {f:FunD} (hr:RdFun A r f) (hn:f.blocks.length < 2 ^ 20) (s:ByteArray):
 ∃ H',callW CT (.fn k_f14 [] []) [.agg r,Sb s] base A=some (Iz (cntB f.blocks s),H')∧Ext A H':=by
 obtain ⟨pv,bv,rfl,p1,p2,p3,hbv⟩:=hr
 have hpo:=p1.one
 have hbo:=hbv.one
 obtain ⟨A1,hA1⟩:∃ A1,A ++ [Ob.cells 0 [Sb f.name,pv,bv]]=A1:=⟨_,rfl⟩
 have l1:A1.length=A.length+1:=by rw [← hA1,len_snoc]
 have e1:Ext A A1:=hA1 ▸ Ext.app _ _
 have x1:getC A1 A.length 0=some [Sb f.name,pv,bv]:=hA1 ▸ getC_new A 0 _
 have hfl:=(rdB_ext hbv e1).len
 simp only [Sb] at x1 hA1
 have step:∀ i,i < f.blocks.length→itW (evC (callW CT) itW base s_f14_l0) [] A1.length (frOf 25 [(1,Sb s),(2,.ref A.length 0 0),(5,Iz ((f.blocks.take i).countP fun b=>eqB b.label s)),(6,Iz i)]) A1=itW (evC (callW CT) itW base s_f14_l0) [] A1.length (frOf 25 [(1,Sb s),(2,.ref A.length 0 0),(5,Iz ((f.blocks.take (i+1)).countP fun b=>eqB b.label s)),(6,Iz (i+1:Nat))]) A1:=by
  intro i hi
  have hlt':((i:Int) < (f.blocks.length:Int)):=by omega
  have hwk:=w64 (n:=i) (by omega)
  have hkx:=some_getD hi blk0
  obtain ⟨x,hxe⟩:∃ x,f.blocks.getD i blk0=x:=⟨_,rfl⟩
  rw [hxe] at hkx
  obtain ⟨a,r,a1,hrr,_,a3⟩:=(rdB_ext hbv e1).at2 hkx
  obtain ⟨cv,rfl,p4⟩:=hrr
  obtain ⟨c,c1,c2⟩:=a3 0 _ rfl
  have c3:=c2 A1 (Ext.refl _)
  rw [cnt_take hkx]
  rw [itW_step]
  unfold eqB
  simp only [Sb] at c3
  cases he:(x.label.data.toList == s.data.toList) with
  | true=>
    have hle:(f.blocks.take i).countP (fun b=>b.label.data.toList == s.data.toList)≤i:=by have:=List.countP_le_length (p:=fun b:BlkD=>b.label.data.toList == s.data.toList) (l:=f.blocks.take i);rw [List.length_take] at this;omega
    have hw2:=w64 (n:=(f.blocks.take i).countP fun b=>b.label.data.toList == s.data.toList) (by omega)
    simp only [Iz,Sb,bl,a_f14,s_f14_l0_b,aa,reduceIte,reduceCtorEq,Nat.reduceEqDiff,Nat.reduceLT,Nat.reduceLeDiff,Nat.reduceBEq,Nat.reduceAdd,Nat.reduceMul,x1,hfl,hlt',a1,c1,c3,he,hwk,trim_same rfl,hw2,if_true]
  | false=>
    simp only [Iz,Sb,bl,a_f14,s_f14_l0_b,aa,reduceIte,reduceCtorEq,Nat.reduceEqDiff,Nat.reduceLT,Nat.reduceLeDiff,Nat.reduceBEq,Nat.reduceAdd,Nat.reduceMul,x1,hfl,hlt',a1,c1,c3,he,hwk,trim_same rfl,Bool.false_eq_true,if_false,Nat.add_zero]
 have h2:=it_fun f.blocks.length (fun i=>itW (evC (callW CT) itW base s_f14_l0) [] A1.length (frOf 25 [(1,Sb s),(2,.ref A.length 0 0),(5,Iz ((f.blocks.take i).countP fun b=>eqB b.label s)),(6,Iz i)]) A1) step 0 (Nat.zero_le _)
 have hend:itW (evC (callW CT) itW base s_f14_l0) [] A1.length (frOf 25 [(1,Sb s),(2,.ref A.length 0 0),(5,Iz (cntB f.blocks s)),(6,Iz f.blocks.length)]) A1=some (.ext 0,frOf 25 [(1,Sb s),(2,.ref A.length 0 0),(5,Iz (cntB f.blocks s)),(6,Iz f.blocks.length),(11,bl false)],A1):=by
  rw [itW_step]
  simp only [Iz,Sb,bl,a_f14,s_f14_l0_b,aa,reduceIte,reduceCtorEq,Nat.reduceEqDiff,Nat.reduceLT,Nat.reduceLeDiff,Nat.reduceBEq,Nat.reduceAdd,Nat.reduceMul,x1,hfl,Int.lt_irrefl,trim_same rfl]
 rw [List.take_zero,List.take_length] at h2
 have h4:=h2.trans hend
 refine ⟨A1,callW_fnA (c:=s_f14) (k:=2) hT rfl (by decide) s_f14_first ?_,e1⟩
 simp only [Iz,Sb,bl,cast0,l1,List.countP_nil] at h4
 simp only [Iz,Sb,bl,s_f14,a_f14,s_f14_l0_b,aa,reduceIte,reduceCtorEq,Nat.reduceEqDiff,Nat.reduceLT,Nat.reduceLeDiff,Nat.reduceBEq,Nat.reduceAdd,Nat.reduceMul,hpo,hbo,Bool.and_self,hA1,l1,h4]
set_option maxHeartbeats 4000000 in
theorem defs_fun (hT:CT k_f15=some (.code s_f15)) (base:Nat) {A:Heap} (hb:base≤A.length) {r:List V} {f:FunD} (hr:RdFun A r f) (hnp:f.ps.length < 2 ^ 20) (hn:f.blocks.length < 2 ^ 20) (hnc:∀ b∈f.blocks,b.code.length < 2 ^ 20) (s:ByteArray):
 ∃ H',callW CT (.fn k_f15 [] []) [.agg r,Sb s] base A=some (Iz (dfs f s),H')∧Ext A H':=by
 obtain ⟨pv,bv,rfl,p1,p2,p3,hbv⟩:=hr
 have hpo:=p1.one
 have hbo:=hbv.one
 obtain ⟨A1,hA1⟩:∃ A1,A ++ [Ob.cells 0 [Sb f.name,pv,bv]]=A1:=⟨_,rfl⟩
 have l1:A1.length=A.length+1:=by rw [← hA1,len_snoc]
 have e1:Ext A A1:=hA1 ▸ Ext.app _ _
 have x1:getC A1 A.length 0=some [Sb f.name,pv,bv]:=hA1 ▸ getC_new A 0 _
 have hbl:=(rdB_ext hbv e1).len
 have hpl:=Sb_len (p1.ext e1)
 simp only [Sb] at x1 hA1
 have step0:∀ i,i < f.ps.length→itW (evC (callW CT) itW base s_f15_l0) [] A1.length (frOf 58 [(1,Sb s),(2,.ref A.length 0 0),(5,Iz ((f.ps.take i).countP fun y=>eqB y s)),(6,Iz i)]) A1=itW (evC (callW CT) itW base s_f15_l0) [] A1.length (frOf 58 [(1,Sb s),(2,.ref A.length 0 0),(5,Iz ((f.ps.take (i+1)).countP fun y=>eqB y s)),(6,Iz (i+1:Nat))]) A1:=by
  intro i hi
  have hlt':((i:Int) < (f.ps.length:Int)):=by omega
  have hwk:=w64 (n:=i) (by omega)
  have hkx:=some_getD hi (⟨#[]⟩:ByteArray)
  obtain ⟨a,a1,a2⟩:=Sb_at (p1.ext e1) p2 hi
  obtain ⟨x,hxe⟩:∃ x,f.ps.getD i (⟨#[]⟩:ByteArray)=x:=⟨_,rfl⟩
  rw [hxe] at hkx a2
  rw [cnt_take hkx]
  rw [itW_step]
  unfold eqB
  cases he:(x.data.toList == s.data.toList) with
  | true=>
    have hle:(f.ps.take i).countP (fun y=>y.data.toList == s.data.toList)≤i:=by have:=List.countP_le_length (p:=fun y:ByteArray=>y.data.toList == s.data.toList) (l:=f.ps.take i);rw [List.length_take] at this;omega
    have hw2:=w64 (n:=(f.ps.take i).countP fun y=>y.data.toList == s.data.toList) (by omega)
    simp only [Iz,Sb,bl,a_f15,s_f15_l0_b,s_f15_l1_b,s_f15_l2_b,aa,reduceIte,reduceCtorEq,Nat.reduceEqDiff,Nat.reduceLT,Nat.reduceLeDiff,Nat.reduceBEq,Nat.reduceAdd,Nat.reduceMul,x1,hpl,hlt',a1,a2,he,hwk,trim_same rfl,hw2,if_true]
  | false=>
    simp only [Iz,Sb,bl,a_f15,s_f15_l0_b,s_f15_l1_b,s_f15_l2_b,aa,reduceIte,reduceCtorEq,Nat.reduceEqDiff,Nat.reduceLT,Nat.reduceLeDiff,Nat.reduceBEq,Nat.reduceAdd,Nat.reduceMul,x1,hpl,hlt',a1,a2,he,hwk,trim_same rfl,Bool.false_eq_true,if_false,Nat.add_zero]
 have h0:=it_fun f.ps.length (fun i=>itW (evC (callW CT) itW base s_f15_l0) [] A1.length (frOf 58 [(1,Sb s),(2,.ref A.length 0 0),(5,Iz ((f.ps.take i).countP fun y=>eqB y s)),(6,Iz i)]) A1) step0 0 (Nat.zero_le _)
 obtain ⟨n0,hn0⟩:∃ n0,f.ps.countP (fun y=>eqB y s)=n0:=⟨_,rfl⟩
 have hn0l:n0 < 2 ^ 20:=by have:=List.countP_le_length (p:=fun y=>eqB y s) (l:=f.ps);omega
 rw [List.take_zero,List.take_length,hn0,List.countP_nil] at h0
 have hend0:itW (evC (callW CT) itW base s_f15_l0) [] A1.length (frOf 58 [(1,Sb s),(2,.ref A.length 0 0),(5,Iz n0),(6,Iz f.ps.length)]) A1=some (.ext 0,frOf 58 [(1,Sb s),(2,.ref A.length 0 0),(5,Iz n0),(6,Iz f.ps.length),(13,bl false)],A1):=by
  rw [itW_step]
  simp only [Iz,Sb,bl,a_f15,s_f15_l0_b,s_f15_l1_b,s_f15_l2_b,aa,reduceIte,reduceCtorEq,Nat.reduceEqDiff,Nat.reduceLT,Nat.reduceLeDiff,Nat.reduceBEq,Nat.reduceAdd,Nat.reduceMul,x1,hpl,Int.lt_irrefl,trim_same rfl]
 have h0':=h0.trans hend0
 have step1:∀ (k:Nat) (x:BlkD) (m:Nat),f.blocks[k]?=some x→m < 2 ^ 61→itW (evC (callW CT) itW base s_f15_l1) [] A1.length (frOf 58 [(1,Sb s),(2,.ref A.length 0 0),(5,Iz m),(7,Iz k),(8,Iz 0)]) A1=some (.ext 4,frOf 58 [(1,Sb s),(2,.ref A.length 0 0),(5,Iz (m+dfI x.code s:Nat)),(7,Iz k),(8,Iz x.code.length),(40,bl false)],A1):=by
  intro k x m hkx hm
  have hxn:=hnc x (List.mem_of_getElem? hkx)
  obtain ⟨a,r,a1,hrr,_,a3⟩:=(rdB_ext hbv e1).at2 hkx
  obtain ⟨cv,rfl,hcv⟩:=hrr
  obtain ⟨c,c1,c2⟩:=a3 1 _ rfl
  have c3:=c2 A1 (Ext.refl _)
  have hcl:=hcv.len
  have step:∀ i,i < x.code.length→itW (evC (callW CT) itW base s_f15_l1) [] A1.length (frOf 58 [(1,Sb s),(2,.ref A.length 0 0),(5,Iz (m+(x.code.take i).countP (fun y=>eqB y.d s):Nat)),(7,Iz k),(8,Iz i)]) A1=itW (evC (callW CT) itW base s_f15_l1) [] A1.length (frOf 58 [(1,Sb s),(2,.ref A.length 0 0),(5,Iz (m+(x.code.take (i+1)).countP (fun y=>eqB y.d s):Nat)),(7,Iz k),(8,Iz (i+1:Nat))]) A1:=by
   intro i hi
   have hlt':((i:Int) < (x.code.length:Int)):=by omega
   have hwk:=w64 (n:=i) (by omega)
   have hkz:=some_getD hi ins0
   obtain ⟨z,hze⟩:∃ z,x.code.getD i ins0=z:=⟨_,rfl⟩
   rw [hze] at hkz
   obtain ⟨b,r2,b1,hr2,_,b3⟩:=hcv.at2 hkz
   obtain ⟨av,lv,rfl,_⟩:=hr2
   obtain ⟨d,d1,d2⟩:=b3 1 (Sb z.d) rfl
   have d3:=d2 A1 (Ext.refl _)
   simp only [Sb] at d3
   rw [cnt_take hkz]
   rw [itW_step]
   unfold eqB
   cases he:(z.d.data.toList == s.data.toList) with
   | true=>
     have hle:(x.code.take i).countP (fun y=>y.d.data.toList == s.data.toList)≤i:=by have:=List.countP_le_length (p:=fun y:InsD=>y.d.data.toList == s.data.toList) (l:=x.code.take i);rw [List.length_take] at this;omega
     obtain ⟨q,hq⟩:∃ q,m+(x.code.take i).countP (fun y=>y.d.data.toList == s.data.toList)=q:=⟨_,rfl⟩
     have hq2:m+((x.code.take i).countP (fun y=>y.d.data.toList == s.data.toList)+if True then 1 else 0)=q+1:=by rw [if_pos trivial];omega
     have hw2:=w64 (n:=q) (by omega)
     simp only [if_true] at hq2
     simp only [Iz,Sb,bl,a_f15,s_f15_l0_b,s_f15_l1_b,s_f15_l2_b,aa,reduceIte,reduceCtorEq,Nat.reduceEqDiff,Nat.reduceLT,Nat.reduceLeDiff,Nat.reduceBEq,Nat.reduceAdd,Nat.reduceMul,x1,hbl,a1,c1,c3,hcl,hlt',b1,d1,d3,he,hwk,trim_same rfl,if_true,hq,hq2,hw2]
   | false=>
     simp only [Iz,Sb,bl,a_f15,s_f15_l0_b,s_f15_l1_b,s_f15_l2_b,aa,reduceIte,reduceCtorEq,Nat.reduceEqDiff,Nat.reduceLT,Nat.reduceLeDiff,Nat.reduceBEq,Nat.reduceAdd,Nat.reduceMul,x1,hbl,a1,c1,c3,hcl,hlt',b1,d1,d3,he,hwk,trim_same rfl,Bool.false_eq_true,if_false,Nat.add_zero]
  have h2:=it_fun x.code.length (fun i=>itW (evC (callW CT) itW base s_f15_l1) [] A1.length (frOf 58 [(1,Sb s),(2,.ref A.length 0 0),(5,Iz (m+(x.code.take i).countP (fun y=>eqB y.d s):Nat)),(7,Iz k),(8,Iz i)]) A1) step 0 (Nat.zero_le _)
  rw [List.take_zero,List.take_length,List.countP_nil,Nat.add_zero,cast0] at h2
  refine h2.trans ?_
  rw [itW_step]
  simp only [Iz,Sb,bl,dfI,a_f15,s_f15_l0_b,s_f15_l1_b,s_f15_l2_b,aa,reduceIte,reduceCtorEq,Nat.reduceEqDiff,Nat.reduceLT,Nat.reduceLeDiff,Nat.reduceBEq,Nat.reduceAdd,Nat.reduceMul,x1,hbl,a1,c1,c3,hcl,Int.lt_irrefl,trim_same rfl]
 have step2:∀ i,i < f.blocks.length→itW (evC (callW CT) itW base s_f15_l2) [] A1.length (frOf 58 [(1,Sb s),(2,.ref A.length 0 0),(5,Iz (n0+dfB (f.blocks.take i) s:Nat)),(7,Iz i)]) A1=itW (evC (callW CT) itW base s_f15_l2) [] A1.length (frOf 58 [(1,Sb s),(2,.ref A.length 0 0),(5,Iz (n0+dfB (f.blocks.take (i+1)) s:Nat)),(7,Iz (i+1:Nat))]) A1:=by
  intro i hi
  have hlt':((i:Int) < (f.blocks.length:Int)):=by omega
  have hwk:=w64 (n:=i) (by omega)
  have hkx:=some_getD hi blk0
  obtain ⟨x,hxe⟩:∃ x,f.blocks.getD i blk0=x:=⟨_,rfl⟩
  rw [hxe] at hkx
  have hm:n0+dfB (f.blocks.take i) s < 2 ^ 61:=by
   have:=dfB_len (s:=s) (c:=2 ^ 20) (l:=f.blocks.take i) (fun b hb=>by have:=hnc b (List.mem_of_mem_take hb);omega)
   rw [List.length_take] at this
   have h3:min i f.blocks.length * 2 ^ 20≤2 ^ 20 * 2 ^ 20:=Nat.mul_le_mul_right _ (by omega)
   omega
  have hs1:=step1 i x (n0+dfB (f.blocks.take i) s) hkx hm
  have hq:n0+dfB (f.blocks.take (i+1)) s=n0+dfB (f.blocks.take i) s+dfI x.code s:=by rw [dfB_take hkx];omega
  rw [hq]
  obtain ⟨q,hq⟩:∃ q,n0+dfB (f.blocks.take i) s=q:=⟨_,rfl⟩
  rw [hq] at hs1 ⊢
  rw [itW_step]
  simp only [Iz,Sb,bl] at hs1
  simp only [Iz,Sb,bl,a_f15,s_f15_l0_b,s_f15_l1_b,s_f15_l2_b,aa,reduceIte,reduceCtorEq,Nat.reduceEqDiff,Nat.reduceLT,Nat.reduceLeDiff,Nat.reduceBEq,Nat.reduceAdd,Nat.reduceMul,x1,hbl,hlt',hs1,hwk,trim_same rfl]
 have h2:=it_fun f.blocks.length (fun i=>itW (evC (callW CT) itW base s_f15_l2) [] A1.length (frOf 58 [(1,Sb s),(2,.ref A.length 0 0),(5,Iz (n0+dfB (f.blocks.take i) s:Nat)),(7,Iz i)]) A1) step2 0 (Nat.zero_le _)
 rw [List.take_zero,List.take_length,show dfB [] s=0 from rfl,Nat.add_zero,cast0] at h2
 have hd:n0+dfB f.blocks s=dfs f s:=by rw [← hn0];rfl
 rw [hd] at h2
 have hend:itW (evC (callW CT) itW base s_f15_l2) [] A1.length (frOf 58 [(1,Sb s),(2,.ref A.length 0 0),(5,Iz (dfs f s)),(7,Iz f.blocks.length)]) A1=some (.ext 2,frOf 58 [(1,Sb s),(2,.ref A.length 0 0),(5,Iz (dfs f s)),(7,Iz f.blocks.length),(29,bl false)],A1):=by
  rw [itW_step]
  simp only [Iz,Sb,bl,a_f15,s_f15_l0_b,s_f15_l1_b,s_f15_l2_b,aa,reduceIte,reduceCtorEq,Nat.reduceEqDiff,Nat.reduceLT,Nat.reduceLeDiff,Nat.reduceBEq,Nat.reduceAdd,Nat.reduceMul,x1,hbl,Int.lt_irrefl,trim_same rfl]
 have h4:=h2.trans hend
 refine ⟨A1,callW_fnA (c:=s_f15) (k:=2) hT rfl (by decide) s_f15_first ?_,e1⟩
 simp only [Iz,Sb,bl,cast0,l1] at h4 h0'
 simp only [Iz,Sb,bl,s_f15,a_f15,s_f15_l0_b,s_f15_l1_b,s_f15_l2_b,aa,reduceIte,reduceCtorEq,Nat.reduceEqDiff,Nat.reduceLT,Nat.reduceLeDiff,Nat.reduceBEq,Nat.reduceAdd,Nat.reduceMul,hpo,hbo,Bool.and_self,hA1,l1,h0',h4]
theorem used_fun (hD:CT k_f15=some (.code s_f15)) (hT:CT k_f16=some (.code s_f16)) (base:Nat) {A:Heap} (hb:base≤A.length) {r:List V} {f:FunD} (hr:RdFun A r f) (hnp:f.ps.length < 2 ^ 20) (hn:f.blocks.length < 2 ^ 20) (hnc:∀ b∈f.blocks,b.code.length < 2 ^ 20) (s:ByteArray):
 ∃ H',callW CT (.fn k_f16 [] []) [.agg r,Sb s] base A=some (.s (.bool (usedD f s)),H')∧Ext A H':=by
 obtain ⟨pv,bv,rfl,p1,p2,p3,hbv⟩:=id hr
 have hpo:=p1.one
 have hbo:=hbv.one
 obtain ⟨A1,hA1⟩:∃ A1,A ++ [Ob.cells 0 [Sb f.name,pv,bv]]=A1:=⟨_,rfl⟩
 have l1:A1.length=A.length+1:=by rw [← hA1,len_snoc]
 have e1:Ext A A1:=hA1 ▸ Ext.app _ _
 have x1:getC A1 A.length 0=some [Sb f.name,pv,bv]:=hA1 ▸ getC_new A 0 _
 have ld:xLoad A1 true 3 (.ref A.length 0 0)=some (.agg [Sb f.name,pv,bv]):=by rw [xo_ref,x1];simp [List.take,shut,Sb,V.one,hpo,hbo]
 obtain ⟨H',d1,d2⟩:=defs_fun hD base (by omega) (hr.ext e1) hnp hn hnc s
 unfold usedD emptyB nullB
 simp only [Sb] at hA1 ld d1
 cases h0:(s.data.toList == [] || s.data.toList == [110,117,108,108]) with
 | true=>
   refine ⟨A1,callW_fnA (c:=s_f16) (k:=2) hT rfl (by decide) s_f16_first ?_,e1⟩
   simp only [Iz,Sb,bl,s_f16,a_f16,aa,reduceIte,reduceCtorEq,Nat.reduceEqDiff,Nat.reduceLT,Nat.reduceLeDiff,Nat.reduceBEq,Nat.reduceAdd,Nat.reduceMul,hpo,hbo,Bool.and_self,hA1,h0,Bool.true_or]
 | false=>
   refine ⟨H',callW_fnA (c:=s_f16) (k:=2) hT rfl (by decide) s_f16_first ?_,e1.trans d2⟩
   have he:(((dfs f s:Nat):Int) == 1)=decide (dfs f s=1):=by rw [Bool.eq_iff_iff,beq_iff_eq,decide_eq_true_iff];omega
   simp only [Iz] at d1
   simp only [Iz,Sb,bl,s_f16,a_f16,aa,reduceIte,reduceCtorEq,Nat.reduceEqDiff,Nat.reduceLT,Nat.reduceLeDiff,Nat.reduceBEq,Nat.reduceAdd,Nat.reduceMul,hpo,hbo,Bool.and_self,hA1,h0,Bool.false_or,ld,d1,he]
end
end Go.Proofs.YtamlbkalopefgaaR
set_option maxRecDepth 100000
namespace Go.Proofs.YtamlbkalopefgaaR
open Go.AM
structure OnceT (CT:Nat→Option CFun):Prop where
 L:LawT CT
 funcs:CT k_f13=some (.code s_f13)
 blocks:CT k_f14=some (.code s_f14)
 defs:CT k_f15=some (.code s_f15)
 used:CT k_f16=some (.code s_f16)
 params:CT k_f17=some (.code s_f17)
theorem agg3 {C:Heap} {q:Nat} {a b c:V} (h:getC C q 0=some [a,b,c]) (ha:a.one=true) (hb:b.one=true) (hc:c.one=true):xLoad C true 3 (.ref q 0 0)=some (.agg [a,b,c]):=by
 rw [xo_ref,h]
 simp [List.take,shut,ha,hb,hc]
section
variable {CT:Nat→Option CFun}
set_option maxHeartbeats 2000000 in
theorem on_l1 (hO:OnceT CT) (base:Nat) {A A1:Heap} (h1:Ext A A1) (hb:base≤A1.length) {p i q b k0 z:Nat} {n9:Int} {cv:V} {f:FunD} {pv bv:V} (hq:getC A1 q 0=some [Sb f.name,pv,bv]) (hf:RdFun A [Sb f.name,pv,bv] f) (hnp:f.ps.length < 2 ^ 20) (hnb:f.blocks.length < 2 ^ 20) (hnc:∀ b∈f.blocks,b.code.length < 2 ^ 20) {x:InsD} {av lv:V} (hz:getC A1 z 0=some (insC x av lv)) (hx:RdIns A (insC x av lv) x) (hl20:x.xs.length < 2 ^ 20) (hu:∀ s∈x.xs,usedD f s=true∧emptyB s=false) {L:Nat} (hL:A1.length≤L):
 ∀ C,Ext A1 C→∃ C',itW (evC (callW CT) itW base s_f4_l1) [] L (frOf 264 [(1,.ref p 0 0),(9,Iz n9),(10,Iz i),(11,.ref q 0 0),(12,Iz b),(13,cv),(14,Iz k0),(15,.ref z 0 0),(17,Iz 0)]) C=some (.ext 8,frOf 264 [(1,.ref p 0 0),(9,Iz n9),(10,Iz i),(11,.ref q 0 0),(12,Iz b),(13,cv),(14,Iz k0),(15,.ref z 0 0),(17,Iz x.xs.length),(182,bl false)],C')∧Ext A1 C':=by
 intro C hC
 have hfq:pv.one=true∧bv.one=true:=by
  obtain ⟨pv',bv',he,q1,q2,q3,q4⟩:=id hf
  simp only [List.cons.injEq,and_true,true_and] at he
  obtain ⟨rfl,rfl⟩:=he
  exact ⟨q1.one,q4.one⟩
 obtain ⟨hpo,hbo⟩:=hfq
 have hxq:Rd A av (x.xs.map Sb)∧Wide1 av∧Rd A lv (x.ls.map Sb)∧Wide1 lv∧x.xs.length < 2 ^ 63∧x.ls.length < 2 ^ 63:=by
  obtain ⟨av',lv',he,q1,q2,q3,q4,q5,q6⟩:=hx
  simp only [insC,List.cons.injEq,and_true,true_and] at he
  obtain ⟨rfl,rfl⟩:=he
  exact ⟨q1,q2,q3,q4,q5,q6⟩
 obtain ⟨q1,q2,q3,q4,q5,q6⟩:=hxq
 obtain ⟨C2,e2,e3⟩:=it_rel (x.xs.length) (fun _ C=>Ext A1 C) (fun k C=>itW (evC (callW CT) itW base s_f4_l1) [] L (frOf 264 [(1,.ref p 0 0),(9,Iz n9),(10,Iz i),(11,.ref q 0 0),(12,Iz b),(13,cv),(14,Iz k0),(15,.ref z 0 0),(17,Iz k)]) C) (by
  intro k C hk hE
  have hlt':((k:Int) < ((x.xs.length:Nat):Int)):=by omega
  have hwk:=w64 (n:=k) (by omega)
  have hEA:=h1.trans hE
  have hbC:base≤C.length:=by have:=hE.le;omega
  obtain ⟨a,a1,a2⟩:=Sb_at (q1.ext hEA) q2 hk
  obtain ⟨s,hs⟩:∃ s,x.xs.getD k ⟨#[]⟩=s:=⟨_,rfl⟩
  have hsm:s∈x.xs:=hs ▸ List.mem_of_getElem? (some_getD hk ⟨#[]⟩)
  rw [hs] at a2
  obtain ⟨u1,u2⟩:=hu s hsm
  obtain ⟨D,c1,d1⟩:=used_fun hO.defs hO.used base hbC (hf.ext hEA) hnp hnb hnc s
  rw [u1] at c1
  have hzC:=getC_ext hz hE
  have hzD:=getC_ext hz (hE.trans d1)
  have ldq:=agg3 (getC_ext hq hE) rfl hpo hbo
  have hxl:=Sb_len (q1.ext hEA)
  have a3:=xLoad_ext d1 a2
  have u3:(s.data.toList == [])=false:=u2
  simp only [insC,Sb] at hzC hzD ldq c1 a2 a3
  refine ⟨trim L (frOf 264 [(1,.ref p 0 0),(9,Iz n9),(10,Iz i),(11,.ref q 0 0),(12,Iz b),(13,cv),(14,Iz k0),(15,.ref z 0 0),(17,Iz (k+1:Nat))]) D,?_,(hE.trans d1).trim hL _⟩
  rw [itW_step]
  simp only [Iz,bl,a_f4,s_f4_l0_b,s_f4_l1_b,s_f4_l2_b,s_f4_l3_b,s_f4_l4_b,s_f4_l5_b,s_f4_l6_b,aa,reduceIte,reduceCtorEq,Nat.reduceEqDiff,Nat.reduceLT,Nat.reduceLeDiff,Nat.reduceBEq,Nat.reduceAdd,Nat.reduceMul,hzC,hzD,ldq,hxl,hlt',a1,a2,a3,c1,u3,hwk]) 0 C (Nat.zero_le _) hC
 refine ⟨trim L (frOf 264 [(1,.ref p 0 0),(9,Iz n9),(10,Iz i),(11,.ref q 0 0),(12,Iz b),(13,cv),(14,Iz k0),(15,.ref z 0 0),(17,Iz x.xs.length),(182,bl false)]) C2,?_,e3.trim hL _⟩
 rw [cast0] at e2
 refine e2.trans ?_
 have hEA:=h1.trans e3
 have hzC:=getC_ext hz e3
 have hxl:=Sb_len (q1.ext hEA)
 rw [itW_step]
 simp only [insC,Sb] at hzC
 simp only [Iz,bl,a_f4,s_f4_l0_b,s_f4_l1_b,s_f4_l2_b,s_f4_l3_b,s_f4_l4_b,s_f4_l5_b,s_f4_l6_b,aa,reduceIte,reduceCtorEq,Nat.reduceEqDiff,Nat.reduceLT,Nat.reduceLeDiff,Nat.reduceBEq,Nat.reduceAdd,Nat.reduceMul,hzC,hxl,Int.lt_irrefl]
set_option maxHeartbeats 2000000 in
theorem on_l2 (hO:OnceT CT) (base:Nat) {A A1:Heap} (h1:Ext A A1) (hb:base≤A1.length) {p i q b k0 z:Nat} {n9:Int} {cv:V} {f:FunD} {pv bv:V} (hq:getC A1 q 0=some [Sb f.name,pv,bv]) (hf:RdFun A [Sb f.name,pv,bv] f) (hnp:f.ps.length < 2 ^ 20) (hnb:f.blocks.length < 2 ^ 20) (hnc:∀ b∈f.blocks,b.code.length < 2 ^ 20) {x:InsD} {av lv:V} (hz:getC A1 z 0=some (insC x av lv)) (hx:RdIns A (insC x av lv) x) (hl20:x.ls.length < 2 ^ 20) (hu:∀ s∈x.ls,cntB f.blocks s=1) {L:Nat} (hL:A1.length≤L):
 ∀ C,Ext A1 C→∃ C',itW (evC (callW CT) itW base s_f4_l2) [] L (frOf 264 [(1,.ref p 0 0),(9,Iz n9),(10,Iz i),(11,.ref q 0 0),(12,Iz b),(13,cv),(14,Iz k0),(15,.ref z 0 0),(18,Iz 0)]) C=some (.ext 10,frOf 264 [(1,.ref p 0 0),(9,Iz n9),(10,Iz i),(11,.ref q 0 0),(12,Iz b),(13,cv),(14,Iz k0),(15,.ref z 0 0),(18,Iz x.ls.length),(205,bl false)],C')∧Ext A1 C':=by
 intro C hC
 have hfq:pv.one=true∧bv.one=true:=by
  obtain ⟨pv',bv',he,q1,q2,q3,q4⟩:=id hf
  simp only [List.cons.injEq,and_true,true_and] at he
  obtain ⟨rfl,rfl⟩:=he
  exact ⟨q1.one,q4.one⟩
 obtain ⟨hpo,hbo⟩:=hfq
 have hxq:Rd A av (x.xs.map Sb)∧Wide1 av∧Rd A lv (x.ls.map Sb)∧Wide1 lv∧x.xs.length < 2 ^ 63∧x.ls.length < 2 ^ 63:=by
  obtain ⟨av',lv',he,q1,q2,q3,q4,q5,q6⟩:=hx
  simp only [insC,List.cons.injEq,and_true,true_and] at he
  obtain ⟨rfl,rfl⟩:=he
  exact ⟨q1,q2,q3,q4,q5,q6⟩
 obtain ⟨q1,q2,q3,q4,q5,q6⟩:=hxq
 obtain ⟨C2,e2,e3⟩:=it_rel (x.ls.length) (fun _ C=>Ext A1 C) (fun k C=>itW (evC (callW CT) itW base s_f4_l2) [] L (frOf 264 [(1,.ref p 0 0),(9,Iz n9),(10,Iz i),(11,.ref q 0 0),(12,Iz b),(13,cv),(14,Iz k0),(15,.ref z 0 0),(18,Iz k)]) C) (by
  intro k C hk hE
  have hlt':((k:Int) < ((x.ls.length:Nat):Int)):=by omega
  have hwk:=w64 (n:=k) (by omega)
  have hEA:=h1.trans hE
  have hbC:base≤C.length:=by have:=hE.le;omega
  obtain ⟨a,a1,a2⟩:=Sb_at (q3.ext hEA) q4 hk
  obtain ⟨s,hs⟩:∃ s,x.ls.getD k ⟨#[]⟩=s:=⟨_,rfl⟩
  have hsm:s∈x.ls:=hs ▸ List.mem_of_getElem? (some_getD hk ⟨#[]⟩)
  rw [hs] at a2
  obtain ⟨D,c1,d1⟩:=blocks_fun hO.blocks base hbC (hf.ext hEA) hnb s
  rw [hu s hsm] at c1
  have n1:(((1:Nat):Int) != 1)=false:=rfl
  have hzC:=getC_ext hz hE
  have ldq:=agg3 (getC_ext hq hE) rfl hpo hbo
  have hxl:=Sb_len (q3.ext hEA)
  simp only [insC,Sb,Iz] at hzC ldq c1 a2
  refine ⟨trim L (frOf 264 [(1,.ref p 0 0),(9,Iz n9),(10,Iz i),(11,.ref q 0 0),(12,Iz b),(13,cv),(14,Iz k0),(15,.ref z 0 0),(18,Iz (k+1:Nat))]) D,?_,(hE.trans d1).trim hL _⟩
  rw [itW_step]
  simp only [Iz,bl,a_f4,s_f4_l0_b,s_f4_l1_b,s_f4_l2_b,s_f4_l3_b,s_f4_l4_b,s_f4_l5_b,s_f4_l6_b,aa,reduceIte,reduceCtorEq,Nat.reduceEqDiff,Nat.reduceLT,Nat.reduceLeDiff,Nat.reduceBEq,Nat.reduceAdd,Nat.reduceMul,hzC,ldq,hxl,hlt',a1,a2,c1,n1,hwk]) 0 C (Nat.zero_le _) hC
 refine ⟨trim L (frOf 264 [(1,.ref p 0 0),(9,Iz n9),(10,Iz i),(11,.ref q 0 0),(12,Iz b),(13,cv),(14,Iz k0),(15,.ref z 0 0),(18,Iz x.ls.length),(205,bl false)]) C2,?_,e3.trim hL _⟩
 rw [cast0] at e2
 refine e2.trans ?_
 have hEA:=h1.trans e3
 have hzC:=getC_ext hz e3
 have hxl:=Sb_len (q3.ext hEA)
 rw [itW_step]
 simp only [insC,Sb] at hzC
 simp only [Iz,bl,a_f4,s_f4_l0_b,s_f4_l1_b,s_f4_l2_b,s_f4_l3_b,s_f4_l4_b,s_f4_l5_b,s_f4_l6_b,aa,reduceIte,reduceCtorEq,Nat.reduceEqDiff,Nat.reduceLT,Nat.reduceLeDiff,Nat.reduceBEq,Nat.reduceAdd,Nat.reduceMul,hzC,hxl,Int.lt_irrefl]
set_option maxHeartbeats 2000000 in
theorem on_l5 (hO:OnceT CT) (base:Nat) {A A1:Heap} (h1:Ext A A1) (hb:base≤A1.length) {p i q:Nat} {n9:Int} {f:FunD} {pv bv:V} (hq:getC A1 q 0=some [Sb f.name,pv,bv]) (hf:RdFun A [Sb f.name,pv,bv] f) (hnp:f.ps.length < 2 ^ 20) (hnb:f.blocks.length < 2 ^ 20) (hnc:∀ b∈f.blocks,b.code.length < 2 ^ 20) (hu:∀ s∈f.ps,dfs f s=1) {L:Nat} (hL:A1.length≤L):
 ∀ C,Ext A1 C→∃ C',itW (evC (callW CT) itW base s_f4_l5) [] L (frOf 264 [(1,.ref p 0 0),(9,Iz n9),(10,Iz i),(11,.ref q 0 0),(19,Iz 0)]) C=some (.ext 12,frOf 264 [(1,.ref p 0 0),(9,Iz n9),(10,Iz i),(11,.ref q 0 0),(19,Iz f.ps.length),(248,bl false)],C')∧Ext A1 C':=by
 intro C hC
 have hfq:pv.one=true∧bv.one=true:=by
  obtain ⟨pv',bv',he,q1,q2,q3,q4⟩:=id hf
  simp only [List.cons.injEq,and_true,true_and] at he
  obtain ⟨rfl,rfl⟩:=he
  exact ⟨q1.one,q4.one⟩
 obtain ⟨hpo,hbo⟩:=hfq
 have hpq:Rd A pv (f.ps.map Sb)∧Wide1 pv:=by
  obtain ⟨pv',bv',he,q1,q2,q3,q4⟩:=id hf
  simp only [List.cons.injEq,and_true,true_and] at he
  obtain ⟨rfl,rfl⟩:=he
  exact ⟨q1,q2⟩
 obtain ⟨p1,p2⟩:=hpq
 obtain ⟨C2,e2,e3⟩:=it_rel (f.ps.length) (fun _ C=>Ext A1 C) (fun k C=>itW (evC (callW CT) itW base s_f4_l5) [] L (frOf 264 [(1,.ref p 0 0),(9,Iz n9),(10,Iz i),(11,.ref q 0 0),(19,Iz k)]) C) (by
  intro k C hk hE
  have hlt':((k:Int) < ((f.ps.length:Nat):Int)):=by omega
  have hwk:=w64 (n:=k) (by omega)
  have hEA:=h1.trans hE
  have hbC:base≤C.length:=by have:=hE.le;omega
  obtain ⟨a,a1,a2⟩:=Sb_at (p1.ext hEA) p2 hk
  obtain ⟨s,hs⟩:∃ s,f.ps.getD k ⟨#[]⟩=s:=⟨_,rfl⟩
  have hsm:s∈f.ps:=hs ▸ List.mem_of_getElem? (some_getD hk ⟨#[]⟩)
  rw [hs] at a2
  obtain ⟨D,c1,d1⟩:=defs_fun hO.defs base hbC (hf.ext hEA) hnp hnb hnc s
  rw [hu s hsm] at c1
  have n1:(((1:Nat):Int) != 1)=false:=rfl
  have hqC:=getC_ext hq hE
  have ldq:=agg3 hqC rfl hpo hbo
  have hxl:=Sb_len (p1.ext hEA)
  simp only [Sb,Iz] at hqC ldq c1 a2
  refine ⟨trim L (frOf 264 [(1,.ref p 0 0),(9,Iz n9),(10,Iz i),(11,.ref q 0 0),(19,Iz (k+1:Nat))]) D,?_,(hE.trans d1).trim hL _⟩
  rw [itW_step]
  simp only [Iz,bl,a_f4,s_f4_l0_b,s_f4_l1_b,s_f4_l2_b,s_f4_l3_b,s_f4_l4_b,s_f4_l5_b,s_f4_l6_b,aa,reduceIte,reduceCtorEq,Nat.reduceEqDiff,Nat.reduceLT,Nat.reduceLeDiff,Nat.reduceBEq,Nat.reduceAdd,Nat.reduceMul,hqC,ldq,hxl,hlt',a1,a2,c1,n1,hwk]) 0 C (Nat.zero_le _) hC
 refine ⟨trim L (frOf 264 [(1,.ref p 0 0),(9,Iz n9),(10,Iz i),(11,.ref q 0 0),(19,Iz f.ps.length),(248,bl false)]) C2,?_,e3.trim hL _⟩
 rw [cast0] at e2
 refine e2.trans ?_
 have hEA:=h1.trans e3
 have hqC:=getC_ext hq e3
 have hxl:=Sb_len (p1.ext hEA)
 rw [itW_step]
 simp only [Sb] at hqC
 simp only [Iz,bl,a_f4,s_f4_l0_b,s_f4_l1_b,s_f4_l2_b,s_f4_l3_b,s_f4_l4_b,s_f4_l5_b,s_f4_l6_b,aa,reduceIte,reduceCtorEq,Nat.reduceEqDiff,Nat.reduceLT,Nat.reduceLeDiff,Nat.reduceBEq,Nat.reduceAdd,Nat.reduceMul,hqC,hxl,Int.lt_irrefl]
set_option maxHeartbeats 2000000 in
theorem on_l3 (hO:OnceT CT) (base:Nat) {A A1:Heap} (h1:Ext A A1) (hb:base≤A1.length) {p i q b:Nat} {n9:Int} {cv:V} {fv:V} {fs:List FunD} (hp:getC A1 p 0=some [fv]) (hr:RdProg A fv fs) (hs:Small fs) {f:FunD} {pv bv:V} (hq:getC A1 q 0=some [Sb f.name,pv,bv]) (hf:RdFun A [Sb f.name,pv,bv] f) (hnp:f.ps.length < 2 ^ 20) (hnb:f.blocks.length < 2 ^ 20) (hnc:∀ b∈f.blocks,b.code.length < 2 ^ 20) {l:List InsD} (hv:RdL 8 RdIns A cv l) (hn:l.length < 2 ^ 20) (hxs:∀ x∈l,x.xs.length < 2 ^ 20) (hls:∀ x∈l,x.ls.length < 2 ^ 20) (hg:∀ x∈l,GoodI fs f x) (he:∀ (k:Nat) x,l[k]?=some x→(endsO x.op == ((k:Int) == (l.length:Int) - 1))=true) {L:Nat} (hL:A1.length≤L):
 ∀ C,Ext A1 C→∃ C',itW (evC (callW CT) itW base s_f4_l3) [] L (frOf 264 [(1,.ref p 0 0),(9,Iz n9),(10,Iz i),(11,.ref q 0 0),(12,Iz b),(13,cv),(14,Iz 0)]) C=some (.ext 6,frOf 264 [(1,.ref p 0 0),(9,Iz n9),(10,Iz i),(11,.ref q 0 0),(12,Iz b),(13,cv),(14,Iz l.length),(125,bl false)],C')∧Ext A1 C':=by
 intro C hC
 have hfq:pv.one=true∧bv.one=true:=by
  obtain ⟨pv',bv',he,q1,q2,q3,q4⟩:=id hf
  simp only [List.cons.injEq,and_true,true_and] at he
  obtain ⟨rfl,rfl⟩:=he
  exact ⟨q1.one,q4.one⟩
 obtain ⟨hpo,hbo⟩:=hfq
 obtain ⟨C2,e2,e3⟩:=it_rel (l.length) (fun _ C=>Ext A1 C) (fun k C=>itW (evC (callW CT) itW base s_f4_l3) [] L (frOf 264 [(1,.ref p 0 0),(9,Iz n9),(10,Iz i),(11,.ref q 0 0),(12,Iz b),(13,cv),(14,Iz k)]) C) (by
  intro k C hk hE
  have hlt':((k:Int) < ((l.length:Nat):Int)):=by omega
  have hwk:=w64 (n:=k) (by omega)
  have hEA:=h1.trans hE
  have hbC:base≤C.length:=by have:=hE.le;omega
  have hkx:=some_getD hk ins0
  obtain ⟨x,hxe⟩:∃ x,l.getD k ins0=x:=⟨_,rfl⟩
  rw [hxe] at hkx
  have hmem:=List.mem_of_getElem? hkx
  have G:=hg x hmem
  have hen:=he k x hkx
  obtain ⟨a,r,a1,hrr,a2,_⟩:=hv.at2 hkx
  have ld:=a2 C hEA
  have hcl:=(rdI_ext hv hEA).len
  obtain ⟨av,lv,rfl,q1,q2,q3,q4,q5,q6⟩:=id hrr
  have hav:=q1.one
  have hlv:=q3.one
  obtain ⟨D,hD⟩:∃ D,C ++ [Ob.cells 0 (insC x av lv)]=D:=⟨_,rfl⟩
  have eD:Ext C D:=hD ▸ Ext.app _ _
  have lD:D.length=C.length+1:=by rw [← hD,len_snoc]
  have hcl2:=(rdI_ext hv (hEA.trans eD)).len
  have hgg':∀ c,getC (C ++ [Ob.cells 0 c]) C.length 0=some c:=fun c=>getC_new C 0 c
  have hss:∀ c d,(C ++ [c]).set C.length d=C ++ [d]:=fun c d=>set_snoc C c d
  have hzD:getC D C.length 0=some (insC x av lv):=hD ▸ hgg' _
  have ldq:=fun E (e:Ext D E)=>agg3 (getC_ext hq (hE.trans (eD.trans e))) rfl hpo hbo
  have hzE:=fun E (e:Ext D E)=>getC_ext hzD e
  have hwm:IntKind.i64.wrap ((l.length:Int) - 1)=(l.length:Int) - 1:=by rw [IntKind.wrap_i64];omega
  have hne:((x.op == 12 || x.op == 13 || x.op == 14) == ((k:Int) == (l.length:Int) - 1))=true:=hen
  have n1:(((1:Nat):Int) != 1)=false:=rfl
  have rf:=fun (E:Heap) (e:Ext D E)=>hf.ext (hEA.trans (eD.trans e))
  obtain ⟨D1,k1,t1⟩:=defs_fun hO.defs base (A:=D) (by omega) (rf D (Ext.refl D)) hnp hnb hnc x.d
  obtain ⟨E1,hE1,hE1'⟩:∃ E1,Ext D E1∧((x.d.data.toList == [])=true∧E1=D∨(x.d.data.toList == [])=false∧E1=D1∧dfs f x.d=1):=by
   cases he0:(x.d.data.toList == []) with
   | true=>exact ⟨D,Ext.refl D,.inl ⟨rfl,rfl⟩⟩
   | false=>exact ⟨D1,t1,.inr ⟨rfl,rfl,G.df.resolve_left (by unfold emptyB;rw [he0];decide)⟩⟩
  obtain ⟨D2,k2,t2⟩:=used_fun hO.defs hO.used base (A:=E1) (by have:=hE1.le;omega) (rf E1 hE1) hnp hnb hnc x.a
  rw [G.ua] at k2
  have e2:=hE1.trans t2
  obtain ⟨D3,k3,t3⟩:=used_fun hO.defs hO.used base (A:=D2) (by have:=e2.le;omega) (rf D2 e2) hnp hnb hnc x.b
  rw [G.ub] at k3
  have e3:=e2.trans t3
  obtain ⟨D4,k4,t4⟩:=on_l1 hO base (A:=A) (A1:=D3) (hEA.trans (eD.trans e3)) (by have:=e3.le;omega) (p:=p) (i:=i) (q:=q) (b:=b) (k0:=k) (z:=C.length) (n9:=n9) (cv:=cv) (getC_ext hq (hE.trans (eD.trans e3))) hf hnp hnb hnc (hzE D3 e3) hrr (hxs x hmem) G.ux (Nat.le_refl D3.length) D3 (Ext.refl _)
  have e4:=e3.trans t4
  obtain ⟨D5,k5,t5⟩:=on_l2 hO base (A:=A) (A1:=D4) (hEA.trans (eD.trans e4)) (by have:=e4.le;omega) (p:=p) (i:=i) (q:=q) (b:=b) (k0:=k) (z:=C.length) (n9:=n9) (cv:=cv) (getC_ext hq (hE.trans (eD.trans e4))) hf hnp hnb hnc (hzE D4 e4) hrr (hls x hmem) G.ll (Nat.le_refl D4.length) D4 (Ext.refl _)
  have e5:=e4.trans t5
  obtain ⟨D6,k6,t6⟩:=funcs2_fun hO.funcs base (A:=D5) (by have:=e5.le;omega) (hr.ext (hEA.trans (eD.trans e5))) hs x.f
  obtain ⟨E6,hE6,hE6'⟩:∃ E6,Ext D5 E6∧((x.op == 10 || x.op == 4)=false∧E6=D5∨(x.op == 10 || x.op == 4)=true∧E6=D6∧cntF fs x.f=1):=by
   cases he0:(x.op == 10 || x.op == 4) with
   | false=>exact ⟨D5,Ext.refl _,.inl ⟨rfl,rfl⟩⟩
   | true=>exact ⟨D6,t6,.inr ⟨rfl,rfl,G.fn he0⟩⟩
  have e6:=e5.trans hE6
  obtain ⟨D7,k7,t7⟩:=params_fun hO.params E6.length (A:=E6) (Nat.le_refl _) (hr.ext (hEA.trans (eD.trans e6))) hs x.f
  have hxl:=Sb_len (q1.ext (hEA.trans (eD.trans e6)))
  have ld1:=fun E (e:Ext D E)=>(show xLoad E true 1 (.ref p 0 0)=some (.agg [fv]) from by rw [xo_ref,getC_ext hp (hE.trans (eD.trans e))];rfl)
  have ld5:=ld1 D5 e5
  have ld6:=ld1 E6 e6
  have z5:=hzE D5 e5
  have z6:=hzE E6 e6
  have z2:=hzE D2 e2
  have z1:=hzE E1 hE1
  have qD:=ldq D (Ext.refl D)
  have qE1:=ldq E1 hE1
  have q2D:=ldq D2 e2
  simp only [insC,Sb,Iz,bl] at ld hD hzD z1 z2 z5 z6 qD qE1 q2D k1 k2 k3 k4 k5 k6 k7
  rcases hE1' with ⟨he0,rfl⟩ | ⟨he0,rfl,hd1⟩
  ·rcases hE6' with ⟨hf0,rfl⟩ | ⟨hf0,rfl,hf1⟩
   ·have ho:(x.op == 10)=false:=by
     rw [Bool.or_eq_false_iff] at hf0
     exact hf0.1
    have hf4:(x.op == 4)=false:=by
     rw [Bool.or_eq_false_iff] at hf0
     exact hf0.2
    refine ⟨trim L (frOf 264 [(1,.ref p 0 0),(9,Iz n9),(10,Iz i),(11,.ref q 0 0),(12,Iz b),(13,cv),(14,Iz (k+1:Nat))]) _,?_,(hE.trans (eD.trans e6)).trim hL _⟩
    rw [itW_step]
    simp only [Iz,bl,a_f4,s_f4_l0_b,s_f4_l1_b,s_f4_l2_b,s_f4_l3_b,s_f4_l4_b,s_f4_l5_b,s_f4_l6_b,aa,reduceIte,reduceCtorEq,Nat.reduceEqDiff,Nat.reduceLT,Nat.reduceLeDiff,Nat.reduceBEq,Nat.reduceAdd,Nat.reduceMul,hcl,hcl2,hlt',a1,ld,hbC,hgg',hss,hD,hav,hlv,Bool.and_self,hzD,hwm,hne,n1,qD,qE1,q2D,z1,z2,z5,z6,k2,k3,k4,k5,ld5,ld6,he0,ho,hf4,Bool.or_self,hwk]
   ·rw [hf1] at k6
    cases ho:(x.op == 10) with
    | false=>
      rw [ho,Bool.false_or] at hf0
      refine ⟨trim L (frOf 264 [(1,.ref p 0 0),(9,Iz n9),(10,Iz i),(11,.ref q 0 0),(12,Iz b),(13,cv),(14,Iz (k+1:Nat))]) _,?_,(hE.trans (eD.trans e6)).trim hL _⟩
      rw [itW_step]
      simp only [Iz,bl,a_f4,s_f4_l0_b,s_f4_l1_b,s_f4_l2_b,s_f4_l3_b,s_f4_l4_b,s_f4_l5_b,s_f4_l6_b,aa,reduceIte,reduceCtorEq,Nat.reduceEqDiff,Nat.reduceLT,Nat.reduceLeDiff,Nat.reduceBEq,Nat.reduceAdd,Nat.reduceMul,hcl,hcl2,hlt',a1,ld,hbC,hgg',hss,hD,hav,hlv,Bool.and_self,hzD,hwm,hne,n1,qD,qE1,q2D,z1,z2,z5,z6,k2,k3,k4,k5,ld5,ld6,he0,ho,hf0,k6,Bool.false_or,hwk]
    | true=>
      rw [G.ar ho] at k7
      have hnn:((x.xs.length:Int) != (x.xs.length:Int))=false:=by simp
      refine ⟨trim L (frOf 264 [(1,.ref p 0 0),(9,Iz n9),(10,Iz i),(11,.ref q 0 0),(12,Iz b),(13,cv),(14,Iz (k+1:Nat))]) _,?_,(hE.trans (eD.trans (e6.trans t7))).trim hL _⟩
      rw [itW_step]
      simp only [Iz,bl,a_f4,s_f4_l0_b,s_f4_l1_b,s_f4_l2_b,s_f4_l3_b,s_f4_l4_b,s_f4_l5_b,s_f4_l6_b,aa,reduceIte,reduceCtorEq,Nat.reduceEqDiff,Nat.reduceLT,Nat.reduceLeDiff,Nat.reduceBEq,Nat.reduceAdd,Nat.reduceMul,hcl,hcl2,hlt',a1,ld,hbC,hgg',hss,hD,hav,hlv,Bool.and_self,hzD,hwm,hne,n1,qD,qE1,q2D,z1,z2,z5,z6,k2,k3,k4,k5,ld5,ld6,he0,ho,k6,k7,hxl,hnn,Bool.true_or,hwk]
  ·rw [hd1] at k1
   rcases hE6' with ⟨hf0,rfl⟩ | ⟨hf0,rfl,hf1⟩
   ·have ho:(x.op == 10)=false:=by
     rw [Bool.or_eq_false_iff] at hf0
     exact hf0.1
    have hf4:(x.op == 4)=false:=by
     rw [Bool.or_eq_false_iff] at hf0
     exact hf0.2
    refine ⟨trim L (frOf 264 [(1,.ref p 0 0),(9,Iz n9),(10,Iz i),(11,.ref q 0 0),(12,Iz b),(13,cv),(14,Iz (k+1:Nat))]) _,?_,(hE.trans (eD.trans e6)).trim hL _⟩
    rw [itW_step]
    simp only [Iz,bl,a_f4,s_f4_l0_b,s_f4_l1_b,s_f4_l2_b,s_f4_l3_b,s_f4_l4_b,s_f4_l5_b,s_f4_l6_b,aa,reduceIte,reduceCtorEq,Nat.reduceEqDiff,Nat.reduceLT,Nat.reduceLeDiff,Nat.reduceBEq,Nat.reduceAdd,Nat.reduceMul,hcl,hcl2,hlt',a1,ld,hbC,hgg',hss,hD,hav,hlv,Bool.and_self,hzD,hwm,hne,n1,qD,qE1,q2D,z1,z2,z5,z6,k2,k3,k4,k5,ld5,ld6,he0,k1,ho,hf4,Bool.or_self,hwk]
   ·rw [hf1] at k6
    cases ho:(x.op == 10) with
    | false=>
      rw [ho,Bool.false_or] at hf0
      refine ⟨trim L (frOf 264 [(1,.ref p 0 0),(9,Iz n9),(10,Iz i),(11,.ref q 0 0),(12,Iz b),(13,cv),(14,Iz (k+1:Nat))]) _,?_,(hE.trans (eD.trans e6)).trim hL _⟩
      rw [itW_step]
      simp only [Iz,bl,a_f4,s_f4_l0_b,s_f4_l1_b,s_f4_l2_b,s_f4_l3_b,s_f4_l4_b,s_f4_l5_b,s_f4_l6_b,aa,reduceIte,reduceCtorEq,Nat.reduceEqDiff,Nat.reduceLT,Nat.reduceLeDiff,Nat.reduceBEq,Nat.reduceAdd,Nat.reduceMul,hcl,hcl2,hlt',a1,ld,hbC,hgg',hss,hD,hav,hlv,Bool.and_self,hzD,hwm,hne,n1,qD,qE1,q2D,z1,z2,z5,z6,k2,k3,k4,k5,ld5,ld6,he0,k1,ho,hf0,k6,Bool.false_or,hwk]
    | true=>
      rw [G.ar ho] at k7
      have hnn:((x.xs.length:Int) != (x.xs.length:Int))=false:=by simp
      refine ⟨trim L (frOf 264 [(1,.ref p 0 0),(9,Iz n9),(10,Iz i),(11,.ref q 0 0),(12,Iz b),(13,cv),(14,Iz (k+1:Nat))]) _,?_,(hE.trans (eD.trans (e6.trans t7))).trim hL _⟩
      rw [itW_step]
      simp only [Iz,bl,a_f4,s_f4_l0_b,s_f4_l1_b,s_f4_l2_b,s_f4_l3_b,s_f4_l4_b,s_f4_l5_b,s_f4_l6_b,aa,reduceIte,reduceCtorEq,Nat.reduceEqDiff,Nat.reduceLT,Nat.reduceLeDiff,Nat.reduceBEq,Nat.reduceAdd,Nat.reduceMul,hcl,hcl2,hlt',a1,ld,hbC,hgg',hss,hD,hav,hlv,Bool.and_self,hzD,hwm,hne,n1,qD,qE1,q2D,z1,z2,z5,z6,k2,k3,k4,k5,ld5,ld6,he0,k1,ho,k6,k7,hxl,hnn,Bool.true_or,hwk]) 0 C (Nat.zero_le _) hC
 refine ⟨trim L (frOf 264 [(1,.ref p 0 0),(9,Iz n9),(10,Iz i),(11,.ref q 0 0),(12,Iz b),(13,cv),(14,Iz l.length),(125,bl false)]) C2,?_,e3.trim hL _⟩
 rw [cast0] at e2
 refine e2.trans ?_
 have hEA:=h1.trans e3
 have hcl:=(rdI_ext hv hEA).len
 rw [itW_step]
 simp only [Iz,bl,a_f4,s_f4_l0_b,s_f4_l1_b,s_f4_l2_b,s_f4_l3_b,s_f4_l4_b,s_f4_l5_b,s_f4_l6_b,aa,reduceIte,reduceCtorEq,Nat.reduceEqDiff,Nat.reduceLT,Nat.reduceLeDiff,Nat.reduceBEq,Nat.reduceAdd,Nat.reduceMul,hcl,Int.lt_irrefl]
end
end Go.Proofs.YtamlbkalopefgaaR
set_option maxRecDepth 100000
namespace Go.Proofs.YtamlbkalopefgaaR
open Go.AM
section
variable {CT:Nat→Option CFun}
set_option maxHeartbeats 2000000 in
theorem on_l4 (hO:OnceT CT) (base:Nat) {A A1:Heap} (h1:Ext A A1) (hb:base≤A1.length) {p i q:Nat} {n9:Int} {fv:V} {fs:List FunD} (hp:getC A1 p 0=some [fv]) (hr:RdProg A fv fs) (hs:Small fs) {f:FunD} {pv bv:V} (hq:getC A1 q 0=some [Sb f.name,pv,bv]) (hf:RdFun A [Sb f.name,pv,bv] f) (hnp:f.ps.length < 2 ^ 20) (hnb:f.blocks.length < 2 ^ 20) (hnc:∀ b∈f.blocks,b.code.length < 2 ^ 20) (hgf:GoodF fs f) (hxs:∀ b∈f.blocks,∀ x∈b.code,x.xs.length < 2 ^ 20) (hls:∀ b∈f.blocks,∀ x∈b.code,x.ls.length < 2 ^ 20) {L:Nat} (hL:A1.length≤L):
 ∀ C,Ext A1 C→∃ C',itW (evC (callW CT) itW base s_f4_l4) [] L (frOf 264 [(1,.ref p 0 0),(9,Iz n9),(10,Iz i),(11,.ref q 0 0),(12,Iz 0)]) C=some (.ext 4,frOf 264 [(1,.ref p 0 0),(9,Iz n9),(10,Iz i),(11,.ref q 0 0),(12,Iz f.blocks.length),(99,bl false)],C')∧Ext A1 C':=by
 intro C hC
 have hfq:pv.one=true∧bv.one=true:=by
  obtain ⟨pv',bv',he,q1,q2,q3,q4⟩:=id hf
  simp only [List.cons.injEq,and_true,true_and] at he
  obtain ⟨rfl,rfl⟩:=he
  exact ⟨q1.one,q4.one⟩
 obtain ⟨hpo,hbo⟩:=hfq
 have hbv:RdL 2 RdBlk A bv f.blocks:=by
  obtain ⟨pv',bv',he,q1,q2,q3,q4⟩:=id hf
  simp only [List.cons.injEq,and_true,true_and] at he
  obtain ⟨rfl,rfl⟩:=he
  exact q4
 obtain ⟨C2,e2,e3⟩:=it_rel (f.blocks.length) (fun _ C=>Ext A1 C) (fun k C=>itW (evC (callW CT) itW base s_f4_l4) [] L (frOf 264 [(1,.ref p 0 0),(9,Iz n9),(10,Iz i),(11,.ref q 0 0),(12,Iz k)]) C) (by
  intro k C hk hE
  have hlt':((k:Int) < ((f.blocks.length:Nat):Int)):=by omega
  have hwk:=w64 (n:=k) (by omega)
  have hEA:=h1.trans hE
  have hbC:base≤C.length:=by have:=hE.le;omega
  have hkx:=some_getD hk blk0
  obtain ⟨x,hxe⟩:∃ x,f.blocks.getD k blk0=x:=⟨_,rfl⟩
  rw [hxe] at hkx
  have hmem:=List.mem_of_getElem? hkx
  obtain ⟨a,r,a1,hrr,_,a3⟩:=hbv.at2 hkx
  obtain ⟨cv,rfl,hcv⟩:=hrr
  obtain ⟨b0,b1,b2⟩:=a3 0 _ rfl
  obtain ⟨c0,c1,c2⟩:=a3 1 _ rfl
  have b3:=b2 C hEA
  have c3:=c2 C hEA
  have hbl:=(rdB_ext hbv hEA).len
  have hcl:=(rdI_ext hcv hEA).len
  have h0:((x.code.length:Int) == 0)=false:=by
   have:=hgf.nc x hmem
   rw [beq_eq_false_iff_ne]
   omega
  have hqC:=getC_ext hq hE
  have ldq:=agg3 hqC rfl hpo hbo
  obtain ⟨D,k1,t1⟩:=blocks_fun hO.blocks base hbC (hf.ext hEA) hnb x.label
  rw [hgf.lb x hmem] at k1
  have n1:(((1:Nat):Int) != 1)=false:=rfl
  obtain ⟨D2,k2,t2⟩:=on_l3 hO base (A:=A) (A1:=D) (hEA.trans t1) (by have:=t1.le;omega) (p:=p) (i:=i) (q:=q) (b:=k) (n9:=n9) (cv:=cv) (getC_ext hp (hE.trans t1)) hr hs (getC_ext hq (hE.trans t1)) hf hnp hnb hnc hcv (hnc x hmem) (hxs x hmem) (hls x hmem) (hgf.ins x hmem) (hgf.en x hmem) (Nat.le_refl D.length) D (Ext.refl _)
  simp only [Sb,Iz,bl] at hqC ldq k1 k2 b3
  refine ⟨trim L (frOf 264 [(1,.ref p 0 0),(9,Iz n9),(10,Iz i),(11,.ref q 0 0),(12,Iz (k+1:Nat))]) D2,?_,(hE.trans (t1.trans t2)).trim hL _⟩
  rw [itW_step]
  simp only [Iz,bl,a_f4,s_f4_l0_b,s_f4_l1_b,s_f4_l2_b,s_f4_l3_b,s_f4_l4_b,s_f4_l5_b,s_f4_l6_b,aa,reduceIte,reduceCtorEq,Nat.reduceEqDiff,Nat.reduceLT,Nat.reduceLeDiff,Nat.reduceBEq,Nat.reduceAdd,Nat.reduceMul,hqC,ldq,hbl,hlt',a1,b1,b3,c1,c3,hcl,h0,k1,n1,k2,hwk]) 0 C (Nat.zero_le _) hC
 refine ⟨trim L (frOf 264 [(1,.ref p 0 0),(9,Iz n9),(10,Iz i),(11,.ref q 0 0),(12,Iz f.blocks.length),(99,bl false)]) C2,?_,e3.trim hL _⟩
 rw [cast0] at e2
 refine e2.trans ?_
 have hEA:=h1.trans e3
 have hqC:=getC_ext hq e3
 have hbl:=(rdB_ext hbv hEA).len
 rw [itW_step]
 simp only [Sb] at hqC
 simp only [Iz,bl,a_f4,s_f4_l0_b,s_f4_l1_b,s_f4_l2_b,s_f4_l3_b,s_f4_l4_b,s_f4_l5_b,s_f4_l6_b,aa,reduceIte,reduceCtorEq,Nat.reduceEqDiff,Nat.reduceLT,Nat.reduceLeDiff,Nat.reduceBEq,Nat.reduceAdd,Nat.reduceMul,hqC,hbl,Int.lt_irrefl]
set_option maxHeartbeats 4000000 in
theorem on_l6 (hO:OnceT CT) (base:Nat) {A A1:Heap} (h1:Ext A A1) (hb:base≤A1.length) {p:Nat} {fv:V} {fs:List FunD} (hp:getC A1 p 0=some [fv]) (hr:RdProg A fv fs) (hs:Small fs) (hg:Good fs) {L:Nat} (hL:A1.length≤L):
 ∀ C,Ext A1 C→∃ C',itW (evC (callW CT) itW base s_f4_l6) [] L (frOf 264 [(1,.ref p 0 0),(9,Iz ((fs.take 0).countP fun f=>eqB f.name mainB)),(10,Iz (0:Nat))]) C=some (.ext 2,frOf 264 [(1,.ref p 0 0),(9,Iz (1:Nat)),(10,Iz fs.length),(61,bl false)],C')∧Ext A1 C':=by
 intro C hC
 have hn:=hs.n
 obtain ⟨C2,e2,e3⟩:=it_rel fs.length (fun _ C=>Ext A1 C) (fun k C=>itW (evC (callW CT) itW base s_f4_l6) [] L (frOf 264 [(1,.ref p 0 0),(9,Iz ((fs.take k).countP fun f=>eqB f.name mainB)),(10,Iz (k:Nat))]) C) (by
  intro k C hk hE
  have hlt':((k:Int) < ((fs.length:Nat):Int)):=by omega
  have hwk:=w64 (n:=k) (by omega)
  have hEA:=h1.trans hE
  have hbC:base≤C.length:=by have:=hE.le;omega
  have hkx:=some_getD hk fun0
  obtain ⟨x,hxe⟩:∃ x,fs.getD k fun0=x:=⟨_,rfl⟩
  rw [hxe] at hkx
  have hmem:=List.mem_of_getElem? hkx
  have G:=hg.fu x hmem
  obtain ⟨a,r,a1,hrr,a2,_⟩:=hr.at2 hkx
  have ld:=a2 C hEA
  have hgp:=getC_ext hp hE
  have hfl:=(RdProg.ext hr hEA).len
  obtain ⟨pv,bv,rfl,q1,q2,q3,hbv⟩:=id hrr
  have hpo:=q1.one
  have hbo:=hbv.one
  obtain ⟨D,hD⟩:∃ D,C ++ [Ob.cells 0 [Sb x.name,pv,bv]]=D:=⟨_,rfl⟩
  have eD:Ext C D:=hD ▸ Ext.app _ _
  have lD:D.length=C.length+1:=by rw [← hD,len_snoc]
  have hgg':∀ c,getC (C ++ [Ob.cells 0 c]) C.length 0=some c:=fun c=>getC_new C 0 c
  have hss:∀ c d,(C ++ [c]).set C.length d=C ++ [d]:=fun c d=>set_snoc C c d
  have hq:getC D C.length 0=some [Sb x.name,pv,bv]:=hD ▸ hgg' _
  have hi:=is_fun CT hO.L.R.B.is' x.name base D
  rw [G.is] at hi
  have hgpD:=getC_ext hgp eD
  have ldp:xLoad D true 1 (.ref p 0 0)=some (.agg [fv]):=by rw [xo_ref,hgpD];rfl
  obtain ⟨D1,k1,t1⟩:=funcs2_fun hO.funcs base (A:=D) (by omega) (hr.ext (hEA.trans eD)) hs x.name
  rw [G.c1] at k1
  have n1:(((1:Nat):Int) != 1)=false:=rfl
  have hpl:=Sb_len (q1.ext (hEA.trans eD))
  have hbl:=(rdB_ext hbv (hEA.trans (eD.trans t1))).len
  have h0:((x.blocks.length:Int) == 0)=false:=by
   have:=G.nb
   rw [beq_eq_false_iff_ne]
   omega
  obtain ⟨m,hm⟩:∃ m,(fs.take (k+1)).countP (fun f=>eqB f.name mainB)=m:=⟨_,rfl⟩
  have hml:m < 2 ^ 21:=by have:=List.countP_le_length (p:=fun f:FunD=>eqB f.name mainB) (l:=fs.take (k+1));rw [List.length_take] at this;omega
  obtain ⟨D2,k2,t2⟩:=on_l4 hO base (A:=A) (A1:=D1) (hEA.trans (eD.trans t1)) (by have:=t1.le;omega) (p:=p) (i:=k) (q:=C.length) (n9:=m) (getC_ext hgpD t1) hr hs (getC_ext hq t1) hrr (hs.ps x hmem) (hs.nb x hmem) (hs.nc x hmem) G (hs.xs x hmem) (hs.ls x hmem) (Nat.le_refl D1.length) D1 (Ext.refl _)
  obtain ⟨D3,k3,t3⟩:=on_l5 hO base (A:=A) (A1:=D2) (hEA.trans (eD.trans (t1.trans t2))) (by have:=t2.le;have:=t1.le;omega) (p:=p) (i:=k) (q:=C.length) (n9:=m) (getC_ext hq (t1.trans t2)) hrr (hs.ps x hmem) (hs.nb x hmem) (hs.nc x hmem) G.pd (Nat.le_refl D2.length) D2 (Ext.refl _)
  have hqD1:=getC_ext hq t1
  have hct:=cnt_take (p:=fun f:FunD=>eqB f.name mainB) hkx
  rw [hm] at hct
  rw [hm]
  refine ⟨trim L (frOf 264 [(1,.ref p 0 0),(9,Iz m),(10,Iz (k+1:Nat))]) D3,?_,(hE.trans (eD.trans (t1.trans (t2.trans t3)))).trim hL _⟩
  rw [itW_step]
  simp only [Sb,Iz,bl] at hD ld hq hi k1 k2 k3 hqD1
  cases hmn:eqB x.name mainB with
  | true=>
    rw [hmn,if_pos rfl] at hct
    have hw9:=w64 (n:=(fs.take k).countP fun f=>eqB f.name mainB) (by omega)
    rw [← hct] at hw9
    have hps:=G.nm hmn
    have hmn':(x.name.data.toList == [109,97,105,110])=true:=hmn
    have hp0:¬ ((x.ps.length:Int) > 0):=by omega
    simp only [Iz,bl,a_f4,s_f4_l0_b,s_f4_l1_b,s_f4_l2_b,s_f4_l3_b,s_f4_l4_b,s_f4_l5_b,s_f4_l6_b,aa,reduceIte,reduceCtorEq,Nat.reduceEqDiff,Nat.reduceLT,Nat.reduceLeDiff,Nat.reduceBEq,Nat.reduceAdd,Nat.reduceMul,hgp,hfl,hlt',a1,ld,hbC,hgg',hss,hD,hpo,hbo,Bool.and_self,hq,hmn',hw9,hpl,hp0,hi,ldp,k1,n1,hqD1,hbl,h0,k2,k3,hwk]
  | false=>
    rw [hmn,if_neg Bool.false_ne_true,Nat.add_zero] at hct
    have hmn':(x.name.data.toList == [109,97,105,110])=false:=hmn
    rw [← hct]
    simp only [Iz,bl,a_f4,s_f4_l0_b,s_f4_l1_b,s_f4_l2_b,s_f4_l3_b,s_f4_l4_b,s_f4_l5_b,s_f4_l6_b,aa,reduceIte,reduceCtorEq,Nat.reduceEqDiff,Nat.reduceLT,Nat.reduceLeDiff,Nat.reduceBEq,Nat.reduceAdd,Nat.reduceMul,hgp,hfl,hlt',a1,ld,hbC,hgg',hss,hD,hpo,hbo,Bool.and_self,hq,hmn',hi,ldp,k1,n1,hqD1,hbl,h0,k2,k3,hwk]) 0 C (Nat.zero_le _) hC
 have hone:fs.countP (fun f=>eqB f.name mainB)=1:=hg.mn
 refine ⟨trim L (frOf 264 [(1,.ref p 0 0),(9,Iz (1:Nat)),(10,Iz fs.length),(61,bl false)]) C2,?_,e3.trim hL _⟩
 rw [List.take_length,hone] at e2
 refine e2.trans ?_
 have hgp:=getC_ext hp e3
 have hfl:=(RdProg.ext hr (h1.trans e3)).len
 rw [itW_step]
 simp only [Iz,bl,a_f4,s_f4_l0_b,s_f4_l1_b,s_f4_l2_b,s_f4_l3_b,s_f4_l4_b,s_f4_l5_b,s_f4_l6_b,aa,reduceIte,reduceCtorEq,Nat.reduceEqDiff,Nat.reduceLT,Nat.reduceLeDiff,Nat.reduceBEq,Nat.reduceAdd,Nat.reduceMul,hgp,hfl,Int.lt_irrefl]
theorem on_l0 (hO:OnceT CT) (base:Nat) {A A1:Heap} (h1:Ext A A1) (hb:base≤A1.length) {p w q:Nat} {fv:V} {fs:List FunD} (hp:getC A1 p 0=some [fv]) (hr:RdProg A fv fs) (hs:Small fs) {m:Nat} {t:List V} (hm1:1≤m) (hm:m≤16) (hw:getC A1 w 0=some (.s (.int .u8 m) :: t)) (hn:∀ n,n < m→firstN fs n=none) {v5:Bool} {L:Nat} (hL:A1.length≤L):
 ∀ C,Ext A1 C→∃ C',itW (evC (callW CT) itW base s_f4_l0) [] L (frOf 264 [(1,.ref p 0 0),(3,.ref w 0 0),(4,.ref q 0 0),(5,bl v5),(6,.s (.int .u8 1))]) C=some (.ext 0,frOf 264 [(1,.ref p 0 0),(3,.ref w 0 0),(4,.ref q 0 0),(5,bl v5),(6,.s (.int .u8 m)),(37,bl false)],C')∧Ext A1 C':=by
 intro C hC
 have hwr:∀ i:Nat,i < 16→IntKind.u8.wrap ((i:Int)+1+1)=((i+1:Nat):Int)+1:=fun i hi=>by
  rw [show ((i:Int)+1+1)=((i+2:Nat):Int) by omega]
  have e2:(2:Int) ^ IntKind.u8.bits=256:=by decide
  simp only [IntKind.wrap,e2]
  have e3:((i+2:Nat):Int) % 256=((i+2:Nat):Int):=by omega
  rw [e3]
  simp only [IntKind.signed,Bool.false_and,Bool.false_eq_true,if_false]
  omega
 obtain ⟨C2,e2,e3⟩:=it_rel (m - 1) (fun _ C=>Ext A1 C) (fun k C=>itW (evC (callW CT) itW base s_f4_l0) [] L (frOf 264 [(1,.ref p 0 0),(3,.ref w 0 0),(4,.ref q 0 0),(5,bl v5),(6,.s (.int .u8 ((k:Int)+1)))]) C) (by
  intro k C hk hE
  have hlt':(((k:Int)+1) < (m:Int)):=by omega
  have hwk:=hwr k (by omega)
  have hbC:base≤C.length:=by have:=hE.le;omega
  have hwC:=getC_ext hw hE
  have ldp:xLoad C true 1 (.ref p 0 0)=some (.agg [fv]):=by rw [xo_ref,getC_ext hp hE];rfl
  have ldw:xLoad C false 1 (.ref w 0 0)=some (.s (.int .u8 m)):=by rw [xo_ref,hwC];rfl
  obtain ⟨D,c1,d1⟩:=first_fun hO.L.R hO.L.first base hbC (hr.ext (h1.trans hE)) hs (k+1)
  rw [hn (k+1) (by omega)] at c1
  have hbD:base≤D.length:=by have:=d1.le;omega
  have hgg:∀ c,getC (D ++ [Ob.cells 0 c]) D.length 0=some c:=fun c=>getC_new D 0 c
  have hss:∀ c d,(D ++ [c]).set D.length d=D ++ [d]:=fun c d=>set_snoc D c d
  have hci:((k+1:Nat):Int)=(k:Int)+1:=by omega
  rw [hci] at c1
  refine ⟨trim L (frOf 264 [(1,.ref p 0 0),(3,.ref w 0 0),(4,.ref q 0 0),(5,bl v5),(6,.s (.int .u8 (((k+1:Nat):Int)+1)))]) (D ++ [Ob.cells 0 [Iz 0,Iz 0,Iz 0]]),?_,(hE.trans (d1.trans (Ext.app _ _))).trim hL _⟩
  rw [itW_step]
  simp only [resP,Iz,bl] at c1
  simp only [Iz,bl,a_f4,s_f4_l0_b,s_f4_l1_b,s_f4_l2_b,s_f4_l3_b,s_f4_l4_b,s_f4_l5_b,s_f4_l6_b,aa,reduceIte,reduceCtorEq,Nat.reduceEqDiff,Nat.reduceLT,Nat.reduceLeDiff,Nat.reduceBEq,Nat.reduceAdd,Nat.reduceMul,ldw,hwC,hlt',ldp,c1,hbD,hgg,hss,hwk]) 0 C (Nat.zero_le _) hC
 have hmm:((m - 1:Nat):Int)+1=(m:Int):=by omega
 rw [hmm,cast0,Int.zero_add] at e2
 refine ⟨trim L (frOf 264 [(1,.ref p 0 0),(3,.ref w 0 0),(4,.ref q 0 0),(5,bl v5),(6,.s (.int .u8 m)),(37,bl false)]) C2,?_,e3.trim hL _⟩
 refine e2.trans ?_
 have hwC:=getC_ext hw e3
 rw [itW_step]
 simp only [Iz,bl,a_f4,s_f4_l0_b,s_f4_l1_b,s_f4_l2_b,s_f4_l3_b,s_f4_l4_b,s_f4_l5_b,s_f4_l6_b,aa,reduceIte,reduceCtorEq,Nat.reduceEqDiff,Nat.reduceLT,Nat.reduceLeDiff,Nat.reduceBEq,Nat.reduceAdd,Nat.reduceMul,hwC,Int.lt_irrefl]
end
end Go.Proofs.YtamlbkalopefgaaR
set_option maxRecDepth 100000
namespace Go.Proofs.YtamlbkalopefgaaR
open Go.AM
section
variable {CT:Nat→Option CFun}
set_option maxHeartbeats 4000000 in
theorem once_law (hO:OnceT CT) (hT:CT k_f4=some (.code s_f4)) (base:Nat) {A:Heap} (hb:base≤A.length) {fv:V} {fs:List FunD} (hr:RdProg A fv fs):
 ∃ H',callW CT (.fn k_f4 [] []) [.agg [fv]] base A=some (bl true,H'):=by
 have hfo:=hr.one
 obtain ⟨A1,hA1⟩:∃ A1,A ++ [Ob.cells 0 [fv]]=A1:=⟨_,rfl⟩
 have l1:A1.length=A.length+1:=by rw [← hA1,len_snoc]
 have e1:Ext A A1:=hA1 ▸ Ext.app _ _
 have x1:getC A1 A.length 0=some [fv]:=hA1 ▸ getC_new A 0 _
 have ld1:∀ D,Ext A1 D→xLoad D true 1 (.ref A.length 0 0)=some (.agg [fv]):=fun D hD=>by rw [xo_ref,getC_ext x1 hD];rfl
 have le1:=ld1 A1 (Ext.refl _)
 obtain ⟨b1,B1,c1,d1,w1⟩:=heavy_fun hO.L.long hO.L.heavy base (by omega) (hr.ext e1)
 have run:=fun {H':Heap} (hh:_)=>callW_fnA (CP:=CT) (c:=s_f4) (k:=1) (f:=k_f4) (fst:=[]) (cap:=[]) (args:=[.agg [fv]]) (base:=base) (H:=A) (r:=(bl true,H')) hT rfl (by decide) s_f4_first hh
 cases b1 with
 | true=>
   refine ⟨_,run (H':=B1) ?_⟩
   simp only [Iz,bl,s_f4,a_f4,s_f4_l0_b,s_f4_l1_b,s_f4_l2_b,s_f4_l3_b,s_f4_l4_b,s_f4_l5_b,s_f4_l6_b,aa,reduceIte,reduceCtorEq,Nat.reduceEqDiff,Nat.reduceLT,Nat.reduceLeDiff,Nat.reduceBEq,Nat.reduceAdd,Nat.reduceMul,hfo,Bool.and_self,hA1,l1,le1,c1]
 | false=>
   have lf:=w1 rfl
   have hs:=lf.small
   have leB:=ld1 B1 d1
   obtain ⟨r,t,C1,c2,d2,w2⟩:=check_fun hO.L.R hO.L.first hO.L.check base (A:=B1) (by have:=d1.le;omega) (hr.ext (e1.trans d1)) hs
   obtain ⟨C2,hC2⟩:∃ C2,C1 ++ [Ob.cells 0 [.s (.int .u8 r),Iz t.1,Iz t.2.1,Iz t.2.2]]=C2:=⟨_,rfl⟩
   have d3:Ext C1 C2:=hC2 ▸ Ext.app _ _
   have lC2:C2.length=C1.length+1:=by rw [← hC2,len_snoc]
   have hbC1:base≤C1.length:=by have:=d1.le;have:=d2.le;omega
   have hg1:∀ c,getC (C1 ++ [Ob.cells 0 c]) C1.length 0=some c:=fun c=>getC_new C1 0 c
   have hs1:∀ c d,(C1 ++ [c]).set C1.length d=C1 ++ [d]:=fun c d=>set_snoc C1 c d
   have x3:getC C2 C1.length 0=some [.s (.int .u8 r),Iz t.1,Iz t.2.1,Iz t.2.2]:=hC2 ▸ hg1 _
   have dAC:Ext A1 C2:=d1.trans (d2.trans d3)
   have leC:=ld1 C2 dAC
   rcases w2 with ⟨rfl,rfl,hn⟩ | ⟨a1,a2,a3,a4⟩
   ·obtain ⟨D,k1,t1⟩:=on_l6 hO base (A:=A) (A1:=C2) (e1.trans dAC) (by have:=dAC.le;omega) (p:=A.length) (getC_ext x1 dAC) hr hs (good_of hn) (Nat.le_refl C2.length) C2 (Ext.refl _)
    obtain ⟨D2,k2,t2⟩:=checks_fun hO.L.R hO.L.first hO.L.check hO.L.checks base (A:=D) (by have:=dAC.le;have:=t1.le;omega)
    have z0:((0:Nat):Int)=0:=rfl
    have n0:((0:Int) != 0)=false:=rfl
    have n1:(((1:Nat):Int) == 1)=true:=rfl
    rw [List.take_zero,List.countP_nil] at k1
    have hset:C2.set C1.length (.cells 0 [.s (.int .u8 (0:Nat)),Iz (0:Nat),Iz (0:Nat),Iz (0:Nat)])=C2:=by rw [← hC2];exact hs1 _ _
    refine ⟨_,run (H':=D2) ?_⟩
    simp only [wrV,Iz,bl,z0] at c2 hC2 x3 k1 hset
    simp only [Iz,bl,s_f4,a_f4,s_f4_l0_b,s_f4_l1_b,s_f4_l2_b,s_f4_l3_b,s_f4_l4_b,s_f4_l5_b,s_f4_l6_b,aa,reduceIte,reduceCtorEq,Nat.reduceEqDiff,Nat.reduceLT,Nat.reduceLeDiff,Nat.reduceBEq,Nat.reduceAdd,Nat.reduceMul,hfo,Bool.and_self,hA1,l1,le1,c1,leB,c2,hbC1,hg1,hs1,hC2,hset,x3,n0,k1,n1,k2]
   ·have hr0:((r:Int) != 0)=true:=by
     rw [bne_iff_ne]
     omega
    obtain ⟨D1,k1,t1⟩:=first_fun hO.L.R hO.L.first base (A:=C2) (by have:=dAC.le;omega) (hr.ext (e1.trans dAC)) hs r
    rw [a3] at k1
    obtain ⟨i,b,q⟩:=t
    obtain ⟨D2,hD2⟩:∃ D2,D1 ++ [Ob.cells 0 [Iz i,Iz b,Iz q]]=D2:=⟨_,rfl⟩
    have t2:Ext D1 D2:=hD2 ▸ Ext.app _ _
    have lD2:D2.length=D1.length+1:=by rw [← hD2,len_snoc]
    have hbD1:base≤D1.length:=by have:=dAC.le;have:=t1.le;omega
    have hg2:∀ c,getC (D1 ++ [Ob.cells 0 c]) D1.length 0=some c:=fun c=>getC_new D1 0 c
    have hs2:∀ c d,(D1 ++ [c]).set D1.length d=D1 ++ [d]:=fun c d=>set_snoc D1 c d
    have x4:getC D2 D1.length 0=some [Iz i,Iz b,Iz q]:=hD2 ▸ hg2 _
    have dAD:Ext A1 D2:=dAC.trans (t1.trans t2)
    have x3D:=getC_ext x3 (t1.trans t2)
    obtain ⟨D3,k3,t3⟩:=on_l0 hO base (A:=A) (A1:=D2) (e1.trans dAD) (by have:=dAD.le;omega) (p:=A.length) (w:=C1.length) (q:=D1.length) (getC_ext x1 dAD) hr hs (m:=r) a1 a2 x3D a4 (v5:=true) (Nat.le_refl D2.length) D2 (Ext.refl _)
    obtain ⟨D4,k4,t4⟩:=checks_fun hO.L.R hO.L.first hO.L.check hO.L.checks base (A:=D3) (by have:=dAD.le;have:=t3.le;omega)
    have x3E:=getC_ext x3D t3
    have x4E:=getC_ext x4 t3
    have lq:xLoad D3 true 3 (.ref D1.length 0 0)=some (.agg [Iz i,Iz b,Iz q]):=by rw [xo_ref,x4E];rfl
    have lw:xLoad D3 true 3 (.ref C1.length 0 1)=some (.agg [Iz i,Iz b,Iz q]):=by rw [xo_ref,x3E];rfl
    have heq:eqLeaves [Leaf.int .i64,Leaf.int .i64,Leaf.int .i64] [V.s (.int .i64 (i:Nat)),V.s (.int .i64 (b:Nat)),V.s (.int .i64 (q:Nat))] [V.s (.int .i64 (i:Nat)),V.s (.int .i64 (b:Nat)),V.s (.int .i64 (q:Nat))]=some true:=by simp [eqLeaves,eqLeaf]
    refine ⟨_,run (H':=D4) ?_⟩
    simp only [wrV,resP,Iz,bl] at c2 hC2 x3 k1 hD2 k3 lq lw x3D x4E x3E
    simp only [Iz,bl,s_f4,a_f4,s_f4_l0_b,s_f4_l1_b,s_f4_l2_b,s_f4_l3_b,s_f4_l4_b,s_f4_l5_b,s_f4_l6_b,aa,reduceIte,reduceCtorEq,Nat.reduceEqDiff,Nat.reduceLT,Nat.reduceLeDiff,Nat.reduceBEq,Nat.reduceAdd,Nat.reduceMul,hfo,Bool.and_self,hA1,l1,le1,c1,leB,c2,hbC1,hg1,hs1,hC2,x3,hr0,leC,k1,hbD1,hg2,hs2,hD2,k3,x4E,x3E,lq,lw,heq,k4]
end
end Go.Proofs.YtamlbkalopefgaaR
