/- Texts of the proof: ShS3, ShoF1, ShoF5, ShnA2, ShnF1, ShnA3, ShnP1, ShnP2, ShnSh, ShnB1, ShnC1, ShoF2, ShoF3, ShoF4, ShnC2, ShnD1, ShnD2, ShnD4, ShoF6, ShoF7, ShoF8, ShoF9, ShoF10, ShnH1. -/
import Derived.Test.YtngfpadeebpoeaaGreatDoorP0
import Derived.Test.YtngfpadeebpoeaaGreatDoorP1
import Derived.Test.YtngfpadeebpoeaaGreatDoorP2
import Derived.Test.YtngfpadeebpoeaaGreatDoorP3
set_option linter.all false
set_option maxRecDepth 100000
namespace Go.Proofs.YtngfpadeebpoeaaGreatDoor
open Go.AM
abbrev k_f10:Nat:=10
def K10_0:List Nat:=[0] ++ List.range' 2 96
def A10_0_0:=hQ K10_0 0
def A10_0_1:=hK K10_0 1
def A10_0_2:=hQ K10_0 2
def A10_0_3:=hQ K10_0 3
def R10_0t1:LO:=[⟨some 2,.move (.c (.s (.string ⟨#[]⟩))),none⟩,⟨some 3,.move (.c (.s (.int .i64 0))),none⟩]
def R10_0p0:LO:=[⟨some 1,.box (.t 0),none⟩]
def R10_0:LO:=R10_0p0 ++ R10_0t1
def K10_0p0:List Nat:=[0] ++ List.range' 2 96
def A10_0p0_0:=hQ K10_0p0 0
def A10_0p0_1:=hK K10_0p0 1
def A10_0p0_2:=hQ K10_0p0 2
def A10_0p0_3:=hQ K10_0p0 3
theorem X10_0 (call:CallF) (it:IterF) (base:Nat) (f:List V) (H:Heap):evC call it base (.region R10_0 [] K10_0) f H=thenC call it base (.region R10_0t1 [] K10_0) (opsC [] R10_0p0 K10_0p0 (evOps call base [⟨some 1,.box (.t 0),none⟩] f H)):=(row_op call it base R10_0p0 R10_0t1 (kc:=K10_0p0) (by kernel_rfl) f H).trans (by rw [row_ops];rfl)
def T10_0t1:=hT R10_0t1 K10_0 [] 4 [] [] [.cc (.s (.string ⟨#[]⟩)),.cc (.s (.int .i64 0))]
def X10_0t1:=hL R10_0t1 K10_0 []
def R10_1t1:LO:=[⟨some 19,.lenS .s (.t 18),none⟩,⟨some 20,.move (.c (.s (.int .i64 0))),none⟩]
def R10_1:LO:=⟨some 18,.buildSl 1 2 [.s (.int .u8 0),.s (.int .u8 0)] [(0,.c (.s (.int .u8 2))),(1,.c (.s (.int .u8 9)))],none⟩ :: R10_1t1
def X10_1:=hP R10_1 R10_1t1 [] [] ⟨some 18,.buildSl 1 2 [.s (.int .u8 0),.s (.int .u8 0)] [(0,.c (.s (.int .u8 2))),(1,.c (.s (.int .u8 9)))],none⟩
def T10_1t1:=hT R10_1t1 [] [19,20] 21 [] [(19,.op (.lenS .s (.t 0)) [.t 18]),(20,.c (.s (.int .i64 0)))] [sb [],.cc (.s (.int .i64 0))]
def X10_1t1:=hL R10_1t1 [] [19,20]
def R10_2:LO:=[⟨some 21,.bin .lss (.t 20) (.t 19),none⟩]
def T10_2:=hT R10_2 [] [21] 22 [] [(21,.op (.bin .lss (.t 0) (.t 1)) [.t 20,.t 19])] [sb []]
def R10_3:LO:=[⟨some 22,.indexAddr 1 (.t 18) (.t 20),none⟩,oL 23 22,oM 5 23]
def T10_3:=hT R10_3 [21,22,23] [5] 24 [] [(5,.op (.load false 1 (.t 0)) [.op (.indexAddr 1 (.t 0) (.t 1)) [.t 18,.t 20]])] [sb [0],sb [],sb []]
def R10_4t5:LO:=[oM 7 29]
def R10_4t4:LO:=⟨none,.store 3 (.t 6) (.t 28),none⟩ :: R10_4t5
def R10_4t3:LO:=⟨some 6,.alloc [.s (.int .i64 0),.s (.int .i64 0),.s (.int .i64 0)],none⟩ :: R10_4t4
def R10_4p2:LO:=[oM 24 27,⟨some 28,.extract (.t 24) 0,none⟩,⟨some 29,.extract (.t 24) 1,none⟩]
def R10_4t2:LO:=R10_4p2 ++ R10_4t3
def R10_4t1:LO:=⟨some 27,.call (.c (.fn 16 [] [])) [.t 25,.t 26],none⟩ :: R10_4t2
def R10_4p0:LO:=[⟨some 25,.load true 1 (.t 1),none⟩,oM 26 5]
def R10_4:LO:=R10_4p0 ++ R10_4t1
def T10_4p0:=hT R10_4p0 [5] [25,26] 27 [] [(25,.op (.load true 1 (.t 0)) [.t 1]),(26,.t 5)] [sb [],.tt 5]
def X10_4:=hS R10_4 R10_4p0 R10_4t1 [5] [25,26] [5,6,24,25,26,27,28,29]
def X10_4t1:=hP R10_4t1 R10_4t2 [25,26] [5,6,24,25,26,27,28,29] ⟨some 27,.call (.c (.fn 16 [] [])) [.t 25,.t 26],none⟩
def T10_4p2:=hT R10_4p2 [24,27] [28,29] 30 [] [(28,.op (.extract (.t 0) 0) [.t 27]),(29,.op (.extract (.t 0) 1) [.t 27])] [.tt 27,sb [],.sub 1 [] []]
def X10_4t2:=hS R10_4t2 R10_4p2 R10_4t3 [24,27] [28,29] [5,6,24,25,26,27,28,29]
def X10_4t3:=hP R10_4t3 R10_4t4 [] [5,6,24,25,26,27,28,29] ⟨some 6,.alloc [.s (.int .i64 0),.s (.int .i64 0),.s (.int .i64 0)],none⟩
def X10_4t4:=hP R10_4t4 R10_4t5 [6,28] [5,6,24,25,26,27,28,29] ⟨none,.store 3 (.t 6) (.t 28),none⟩
def T10_4t5:=hT R10_4t5 [5,6,24,25,26,27,28,29] [7] 8 [] [(7,.t 29)] [.tt 29]
def X10_4t5:=hL R10_4t5 [5,6,24,25,26,27,28,29] [7]
def R10_5:LO:=[oM 30 7]
def T10_5:=hT R10_5 [7] [30] 31 [] [(30,.t 7)] [.tt 7]
def R10_6:LO:=[⟨some 2,.move (.c (.s (.string ⟨#[]⟩))),none⟩,⟨some 3,.move (.c (.s (.int .i64 5))),none⟩]
def T10_6:=hT R10_6 [1,18,19,20,30] [2,3] 4 [] [(2,.c (.s (.string ⟨#[]⟩))),(3,.c (.s (.int .i64 5)))] [.cc (.s (.string ⟨#[]⟩)),.cc (.s (.int .i64 5))]
def R10_7:LO:=[⟨some 31,.bin .add (.t 20) (.c (.s (.int .i64 1))),none⟩,oM 20 31]
def T10_7:=hT R10_7 [30,31] [20] 32 [] [(20,.op (.bin .add (.t 0) (.c (.s (.int .i64 1)))) [.t 20,.c (.s (.int .i64 1))])] [sb [],sb []]
def s_f10_l0_b:ACode:=
 (.seq (.regionE R10_2 [] [21])
 (.seq (.cond (.t 21)
 .skip
 (.exit 0))
 (.seq (.block 1
 (.seq (.regionE R10_3 [21,22,23] [5])
 (.seq (.region R10_4 [] [5,6,24,25,26,27,28,29])
 (.seq (.regionE R10_5 [7] [30])
 (.cond (.t 30)
 (.seq (.regionE R10_6 [1,18,19,20,30] [2,3])
 .ret)
 .skip)))))
 (.regionE R10_7 [30,31] [20]))))
def s_f10_l0:ACode:=s_f10_l0_b
def s_f10_l0_ev:=hE s_f10_l0 s_f10_l0_b
def R10_8t1:LO:=[oM 8 32]
def R10_8:LO:=⟨some 32,.call (.c (.fn 17 [] [])) [],none⟩ :: R10_8t1
def X10_8:=hP R10_8 R10_8t1 [18,19,20,21] [18,19,20,21,32] ⟨some 32,.call (.c (.fn 17 [] [])) [],none⟩
def T10_8t1:=hT R10_8t1 [18,19,20,21,32] [8] 9 [] [(8,.t 32)] [.tt 32]
def X10_8t1:=hL R10_8t1 [18,19,20,21,32] [8]
def R10_9:LO:=[⟨some 9,.alloc [.unk,.s (.slice none 0 0)],none⟩]
def X10_9:=hX R10_9 [] [⟨some 9,.alloc [.unk,.s (.slice none 0 0)],none⟩]
def R10_10:LO:=[⟨some 33,.mkFn 18 [] [.t 9],none⟩,oM 10 33]
def T10_10:=hT R10_10 [33] [10] 34 [] [(10,.op (.mkFn 18 [] [.t 0]) [.t 9])] [sb [],sb []]
def R10_11:LO:=[oF 34 0 1,oL 35 34,⟨some 36,.lenS .s (.t 35),none⟩,⟨some 37,.move (.c (.s (.int .i64 0))),none⟩]
def T10_11:=hT R10_11 [1,34] [35,36,37] 38 [] [(35,.op (.load false 1 (.t 0)) [.op (.fieldAddr 0 (.t 0)) [.t 1]]),(36,.op (.lenS .s (.t 0)) [.op (.load false 1 (.t 0)) [.op (.fieldAddr 0 (.t 0)) [.t 1]]]),(37,.c (.s (.int .i64 0)))] [sb [0],sb [],.sub 1 [] [],.cc (.s (.int .i64 0))]
def R10_12:LO:=[⟨some 38,.bin .lss (.t 37) (.t 36),none⟩]
def T10_12:=hT R10_12 [] [38] 39 [] [(38,.op (.bin .lss (.t 0) (.t 1)) [.t 37,.t 36])] [sb []]
def R10_13t2:LO:=[⟨none,.store 3 (.t 12) (.t 40),none⟩]
def R10_13t1:LO:=⟨some 12,.alloc [.s (.string ⟨#[]⟩),.s (.slice none 0 0),.s (.slice none 0 0)],none⟩ :: R10_13t2
def R10_13p0:LO:=[⟨some 39,.indexAddr 3 (.t 35) (.t 37),none⟩,⟨some 40,.load true 3 (.t 39),none⟩]
def R10_13:LO:=R10_13p0 ++ R10_13t1
def T10_13p0:=hT R10_13p0 [38,39] [40] 41 [] [(40,.op (.load true 3 (.t 0)) [.op (.indexAddr 3 (.t 0) (.t 1)) [.t 35,.t 37]])] [sb [0],sb []]
def X10_13:=hS R10_13 R10_13p0 R10_13t1 [38,39] [40] [38,39,40]
def X10_13t1:=hP R10_13t1 R10_13t2 [] [38,39,40] ⟨some 12,.alloc [.s (.string ⟨#[]⟩),.s (.slice none 0 0),.s (.slice none 0 0)],none⟩
def X10_13t2:=hX R10_13t2 [38,39,40] [⟨none,.store 3 (.t 12) (.t 40),none⟩]
def R10_14t6:LO:=[⟨some 51,.call (.t 41) [.t 50],none⟩]
def R10_14t5:LO:=⟨some 50,.buildSl 1 1 [.s (.string ⟨#[]⟩)] [(0,.t 49)],none⟩ :: R10_14t6
def R10_14t4:LO:=⟨some 49,.call (.c (.fn 21 [] [])) [.t 48],none⟩ :: R10_14t5
def R10_14t3:LO:=⟨some 48,.buildSl 1 3 [.s (.string ⟨#[]⟩),.s (.string ⟨#[]⟩),.s (.string ⟨#[]⟩)] [(0,.c (.s (.string ⟨#[102,117,110,99]⟩))),(1,.t 47),(2,.c (.s (.string ⟨#[123]⟩)))],none⟩ :: R10_14t4
def R10_14p2:LO:=[⟨some 47,.bin .add (.t 43) (.t 46),none⟩]
def R10_14t2:LO:=R10_14p2 ++ R10_14t3
def R10_14t1:LO:=⟨some 46,.callR (.c (.fn 22 [] [])) [.t 45],none⟩ :: R10_14t2
def R10_14p0:LO:=[oM 41 10,oF 42 0 12,oL 43 42,oF 44 1 12,oL 45 44]
def R10_14:LO:=R10_14p0 ++ R10_14t1
def T10_14p0:=hT R10_14p0 [42,44] [41,43,45] 46 [] [(41,.t 10),(43,.op (.load false 1 (.t 0)) [.op (.fieldAddr 0 (.t 0)) [.t 12]]),(45,.op (.load false 1 (.t 0)) [.op (.fieldAddr 1 (.t 0)) [.t 12]])] [.tt 10,.sub 1 [0] [],.sub 1 [] [],.sub 2 [0] [],.sub 2 [] []]
def X10_14:=hS R10_14 R10_14p0 R10_14t1 [42,44] [41,43,45] [41,42,43,44,45,46,47,48,49,50,51]
def X10_14t1:=hP R10_14t1 R10_14t2 [45] [41,42,43,44,45,46,47,48,49,50,51] ⟨some 46,.callR (.c (.fn 22 [] [])) [.t 45],none⟩
def T10_14p2:=hT R10_14p2 [43,46] [47] 48 [] [(47,.op (.bin .add (.t 0) (.t 1)) [.t 43,.t 46])] [sb []]
def X10_14t2:=hS R10_14t2 R10_14p2 R10_14t3 [43,46] [47] [41,42,43,44,45,46,47,48,49,50,51]
def X10_14t3:=hP R10_14t3 R10_14t4 [47] [41,42,43,44,45,46,47,48,49,50,51] ⟨some 48,.buildSl 1 3 [.s (.string ⟨#[]⟩),.s (.string ⟨#[]⟩),.s (.string ⟨#[]⟩)] [(0,.c (.s (.string ⟨#[102,117,110,99]⟩))),(1,.t 47),(2,.c (.s (.string ⟨#[123]⟩)))],none⟩
def X10_14t4:=hP R10_14t4 R10_14t5 [48] [41,42,43,44,45,46,47,48,49,50,51] ⟨some 49,.call (.c (.fn 21 [] [])) [.t 48],none⟩
def X10_14t5:=hP R10_14t5 R10_14t6 [49] [41,42,43,44,45,46,47,48,49,50,51] ⟨some 50,.buildSl 1 1 [.s (.string ⟨#[]⟩)] [(0,.t 49)],none⟩
def X10_14t6:=hX R10_14t6 [41,42,43,44,45,46,47,48,49,50,51] [⟨some 51,.call (.t 41) [.t 50],none⟩]
def R10_15:LO:=[oF 52 2 12,oL 53 52,⟨some 54,.lenS .s (.t 53),none⟩,⟨some 55,.move (.c (.s (.int .i64 0))),none⟩]
def T10_15:=hT R10_15 [12,52] [53,54,55] 56 [] [(53,.op (.load false 1 (.t 0)) [.op (.fieldAddr 2 (.t 0)) [.t 12]]),(54,.op (.lenS .s (.t 0)) [.op (.load false 1 (.t 0)) [.op (.fieldAddr 2 (.t 0)) [.t 12]]]),(55,.c (.s (.int .i64 0)))] [sb [0],sb [],.sub 1 [] [],.cc (.s (.int .i64 0))]
def R10_16:LO:=[⟨some 56,.bin .lss (.t 55) (.t 54),none⟩]
def T10_16:=hT R10_16 [] [56] 57 [] [(56,.op (.bin .lss (.t 0) (.t 1)) [.t 55,.t 54])] [sb []]
def R10_17t2:LO:=[⟨none,.store 2 (.t 14) (.t 58),none⟩]
def R10_17t1:LO:=⟨some 14,.alloc [.s (.string ⟨#[]⟩),.s (.slice none 0 0)],none⟩ :: R10_17t2
def R10_17p0:LO:=[⟨some 57,.indexAddr 2 (.t 53) (.t 55),none⟩,⟨some 58,.load true 2 (.t 57),none⟩]
def R10_17:LO:=R10_17p0 ++ R10_17t1
def T10_17p0:=hT R10_17p0 [56,57] [58] 59 [] [(58,.op (.load true 2 (.t 0)) [.op (.indexAddr 2 (.t 0) (.t 1)) [.t 53,.t 55]])] [sb [0],sb []]
def X10_17:=hS R10_17 R10_17p0 R10_17t1 [56,57] [58] [56,57,58]
def X10_17t1:=hP R10_17t1 R10_17t2 [] [56,57,58] ⟨some 14,.alloc [.s (.string ⟨#[]⟩),.s (.slice none 0 0)],none⟩
def X10_17t2:=hX R10_17t2 [56,57,58] [⟨none,.store 2 (.t 14) (.t 58),none⟩]
def R10_18t2:LO:=[⟨some 63,.call (.t 59) [.t 62],none⟩]
def R10_18t1:LO:=⟨some 62,.buildSl 1 2 [.s (.string ⟨#[]⟩),.s (.string ⟨#[]⟩)] [(0,.t 61),(1,.c (.s (.string ⟨#[58]⟩)))],none⟩ :: R10_18t2
def R10_18p0:LO:=[oM 59 10,oF 60 0 14,oL 61 60]
def R10_18:LO:=R10_18p0 ++ R10_18t1
def T10_18p0:=hT R10_18p0 [60] [59,61] 62 [] [(59,.t 10),(61,.op (.load false 1 (.t 0)) [.op (.fieldAddr 0 (.t 0)) [.t 14]])] [.tt 10,.sub 1 [0] [],.sub 1 [] []]
def X10_18:=hS R10_18 R10_18p0 R10_18t1 [60] [59,61] [59,60,61,62,63]
def X10_18t1:=hP R10_18t1 R10_18t2 [61] [59,60,61,62,63] ⟨some 62,.buildSl 1 2 [.s (.string ⟨#[]⟩),.s (.string ⟨#[]⟩)] [(0,.t 61),(1,.c (.s (.string ⟨#[58]⟩)))],none⟩
def X10_18t2:=hX R10_18t2 [59,60,61,62,63] [⟨some 63,.call (.t 59) [.t 62],none⟩]
def R10_19:LO:=[oF 64 1 14,oL 65 64,⟨some 66,.lenS .s (.t 65),none⟩,⟨some 67,.move (.c (.s (.int .i64 0))),none⟩]
def T10_19:=hT R10_19 [14,64] [65,66,67] 68 [] [(65,.op (.load false 1 (.t 0)) [.op (.fieldAddr 1 (.t 0)) [.t 14]]),(66,.op (.lenS .s (.t 0)) [.op (.load false 1 (.t 0)) [.op (.fieldAddr 1 (.t 0)) [.t 14]]]),(67,.c (.s (.int .i64 0)))] [sb [0],sb [],.sub 1 [] [],.cc (.s (.int .i64 0))]
def R10_20:LO:=[⟨some 68,.bin .lss (.t 67) (.t 66),none⟩]
def T10_20:=hT R10_20 [] [68] 69 [] [(68,.op (.bin .lss (.t 0) (.t 1)) [.t 67,.t 66])] [sb []]
def R10_21t2:LO:=[⟨none,.store 8 (.t 16) (.t 70),none⟩]
def R10_21t1:LO:=⟨some 16,.alloc [.s (.int .u8 0),.s (.string ⟨#[]⟩),.s (.string ⟨#[]⟩),.s (.string ⟨#[]⟩),.s (.int .i64 0),.s (.string ⟨#[]⟩),.s (.slice none 0 0),.s (.slice none 0 0)],none⟩ :: R10_21t2
def R10_21p0:LO:=[⟨some 69,.indexAddr 8 (.t 65) (.t 67),none⟩,⟨some 70,.load true 8 (.t 69),none⟩]
def R10_21:LO:=R10_21p0 ++ R10_21t1
def T10_21p0:=hT R10_21p0 [68,69] [70] 71 [] [(70,.op (.load true 8 (.t 0)) [.op (.indexAddr 8 (.t 0) (.t 1)) [.t 65,.t 67]])] [sb [0],sb []]
def X10_21:=hS R10_21 R10_21p0 R10_21t1 [68,69] [70] [68,69,70]
def X10_21t1:=hP R10_21t1 R10_21t2 [] [68,69,70] ⟨some 16,.alloc [.s (.int .u8 0),.s (.string ⟨#[]⟩),.s (.string ⟨#[]⟩),.s (.string ⟨#[]⟩),.s (.int .i64 0),.s (.string ⟨#[]⟩),.s (.slice none 0 0),.s (.slice none 0 0)],none⟩
def X10_21t2:=hX R10_21t2 [68,69,70] [⟨none,.store 8 (.t 16) (.t 70),none⟩]
def R10_22t2:LO:=[oM 17 76]
def R10_22t1:LO:=⟨some 76,.call (.t 74) [.t 75],none⟩ :: R10_22t2
def R10_22p0:LO:=[oM 71 8,oF 72 0 16,oL 73 72,⟨some 74,.mapGet (.int .u8) (.s .nilFunc) (.t 71) (.t 73) false,none⟩,⟨some 75,.load true 8 (.t 16),none⟩]
def R10_22:LO:=R10_22p0 ++ R10_22t1
def T10_22p0:=hT R10_22p0 [71,72,73] [74,75] 76 [] [(74,.op (.mapGet (.int .u8) (.s .nilFunc) (.t 0) (.t 1) false) [.t 8,.op (.load false 1 (.t 0)) [.op (.fieldAddr 0 (.t 0)) [.t 16]]]),(75,.op (.load true 8 (.t 0)) [.t 16])] [.tt 8,sb [1,0],sb [1],sb [],.sub 1 [] []]
def X10_22:=hS R10_22 R10_22p0 R10_22t1 [71,72,73] [74,75] [71,72,73,74,75,76]
def X10_22t1:=hP R10_22t1 R10_22t2 [74,75] [71,72,73,74,75,76] ⟨some 76,.call (.t 74) [.t 75],none⟩
def T10_22t2:=hT R10_22t2 [71,72,73,74,75,76] [17] 18 [] [(17,.t 76)] [.tt 76]
def X10_22t2:=hL R10_22t2 [71,72,73,74,75,76] [17]
def R10_23:LO:=[oF 77 1 16,oL 78 77,⟨some 79,.bin .neq (.t 78) (.c (.s (.string ⟨#[]⟩))),none⟩]
def T10_23:=hT R10_23 [77,78] [79] 80 [] [(79,.op (.bin .neq (.t 0) (.c (.s (.string ⟨#[]⟩)))) [.op (.load false 1 (.t 0)) [.op (.fieldAddr 1 (.t 0)) [.t 16]],.c (.s (.string ⟨#[]⟩))])] [sb [0,0],sb [0],sb []]
def R10_24t3:LO:=[oM 17 84]
def R10_24t2:LO:=⟨some 84,.call (.c (.fn 21 [] [])) [.t 83],none⟩ :: R10_24t3
def R10_24t1:LO:=⟨some 83,.buildSl 1 3 [.s (.string ⟨#[]⟩),.s (.string ⟨#[]⟩),.s (.string ⟨#[]⟩)] [(0,.t 81),(1,.c (.s (.string ⟨#[61]⟩))),(2,.t 82)],none⟩ :: R10_24t2
def R10_24p0:LO:=[oF 80 1 16,oL 81 80,oM 82 17]
def R10_24:LO:=R10_24p0 ++ R10_24t1
def T10_24p0:=hT R10_24p0 [16,17,79,80] [81,82] 83 [] [(81,.op (.load false 1 (.t 0)) [.op (.fieldAddr 1 (.t 0)) [.t 16]]),(82,.t 17)] [sb [0],sb [],.tt 17]
def X10_24:=hS R10_24 R10_24p0 R10_24t1 [16,17,79,80] [81,82] [16,79,80,81,82,83,84]
def X10_24t1:=hP R10_24t1 R10_24t2 [81,82] [16,79,80,81,82,83,84] ⟨some 83,.buildSl 1 3 [.s (.string ⟨#[]⟩),.s (.string ⟨#[]⟩),.s (.string ⟨#[]⟩)] [(0,.t 81),(1,.c (.s (.string ⟨#[61]⟩))),(2,.t 82)],none⟩
def X10_24t2:=hP R10_24t2 R10_24t3 [83] [16,79,80,81,82,83,84] ⟨some 84,.call (.c (.fn 21 [] [])) [.t 83],none⟩
def T10_24t3:=hT R10_24t3 [16,79,80,81,82,83,84] [17] 18 [] [(17,.t 84)] [.tt 84]
def X10_24t3:=hL R10_24t3 [16,79,80,81,82,83,84] [17]
def R10_25t2:LO:=[⟨some 88,.call (.t 85) [.t 87],none⟩]
def R10_25t1:LO:=⟨some 87,.buildSl 1 2 [.s (.string ⟨#[]⟩),.s (.string ⟨#[]⟩)] [(0,.c (.s (.string ⟨#[32,32]⟩))),(1,.t 86)],none⟩ :: R10_25t2
def R10_25p0:LO:=[oM 85 10,oM 86 17]
def R10_25:LO:=R10_25p0 ++ R10_25t1
def T10_25p0:=hT R10_25p0 [16,17,79] [85,86] 87 [] [(85,.t 10),(86,.t 17)] [.tt 10,.tt 17]
def X10_25:=hS R10_25 R10_25p0 R10_25t1 [16,17,79] [85,86] [16,17,79,85,86,87,88]
def X10_25t1:=hP R10_25t1 R10_25t2 [86] [16,17,79,85,86,87,88] ⟨some 87,.buildSl 1 2 [.s (.string ⟨#[]⟩),.s (.string ⟨#[]⟩)] [(0,.c (.s (.string ⟨#[32,32]⟩))),(1,.t 86)],none⟩
def X10_25t2:=hX R10_25t2 [16,17,79,85,86,87,88] [⟨some 88,.call (.t 85) [.t 87],none⟩]
def R10_26:LO:=[⟨some 89,.bin .add (.t 67) (.c (.s (.int .i64 1))),none⟩,oM 67 89]
def T10_26:=hT R10_26 [89] [67] 90 [] [(67,.op (.bin .add (.t 0) (.c (.s (.int .i64 1)))) [.t 67,.c (.s (.int .i64 1))])] [sb [],sb []]
def s_f10_l1_b:ACode:=
 (.seq (.regionE R10_20 [] [68])
 (.seq (.cond (.t 68)
 .skip
 (.exit 6))
 (.seq (.block 7
 (.seq (.region R10_21 [] [68,69,70])
 (.seq (.region R10_22 [] [71,72,73,74,75,76])
 (.seq (.seq (.regionE R10_23 [77,78] [79])
 (.cond (.t 79)
 (.region R10_24 [] [16,79,80,81,82,83,84])
 .skip))
 (.region R10_25 [] [16,17,79,85,86,87,88])))))
 (.regionE R10_26 [89] [67]))))
def s_f10_l1:ACode:=s_f10_l1_b
def s_f10_l1_ev:=hE s_f10_l1 s_f10_l1_b
def R10_27:LO:=[⟨some 90,.bin .add (.t 55) (.c (.s (.int .i64 1))),none⟩,oM 55 90]
def T10_27:=hT R10_27 [65,66,67,68,90] [55] 91 [] [(55,.op (.bin .add (.t 0) (.c (.s (.int .i64 1)))) [.t 55,.c (.s (.int .i64 1))])] [sb [],sb []]
def s_f10_l2_b:ACode:=
 (.seq (.regionE R10_16 [] [56])
 (.seq (.cond (.t 56)
 .skip
 (.exit 4))
 (.seq (.block 5
 (.seq (.region R10_17 [] [56,57,58])
 (.seq (.region R10_18 [] [59,60,61,62,63])
 (.seq (.regionE R10_19 [14,64] [65,66,67])
 (.block 6
 (.loop [] s_f10_l1))))))
 (.regionE R10_27 [65,66,67,68,90] [55]))))
def s_f10_l2:ACode:=s_f10_l2_b
def s_f10_l2_ev:=hE s_f10_l2 s_f10_l2_b
def R10_28t2:LO:=[⟨some 93,.call (.t 91) [.t 92],none⟩]
def R10_28t1:LO:=⟨some 92,.buildSl 1 1 [.s (.string ⟨#[]⟩)] [(0,.c (.s (.string ⟨#[125]⟩)))],none⟩ :: R10_28t2
def R10_28p0:LO:=[oM 91 10]
def R10_28:LO:=R10_28p0 ++ R10_28t1
def T10_28p0:=hT R10_28p0 [53,54,55,56] [91] 92 [] [(91,.t 10)] [.tt 10]
def X10_28:=hS R10_28 R10_28p0 R10_28t1 [53,54,55,56] [91] [53,54,55,56,91,92,93]
def X10_28t1:=hP R10_28t1 R10_28t2 [] [53,54,55,56,91,92,93] ⟨some 92,.buildSl 1 1 [.s (.string ⟨#[]⟩)] [(0,.c (.s (.string ⟨#[125]⟩)))],none⟩
def X10_28t2:=hX R10_28t2 [53,54,55,56,91,92,93] [⟨some 93,.call (.t 91) [.t 92],none⟩]
def R10_29:LO:=[⟨some 94,.bin .add (.t 37) (.c (.s (.int .i64 1))),none⟩,oM 37 94]
def T10_29:=hT R10_29 [94] [37] 95 [] [(37,.op (.bin .add (.t 0) (.c (.s (.int .i64 1)))) [.t 37,.c (.s (.int .i64 1))])] [sb [],sb []]
def s_f10_l3_b:ACode:=
 (.seq (.regionE R10_12 [] [38])
 (.seq (.cond (.t 38)
 .skip
 (.exit 2))
 (.seq (.block 3
 (.seq (.region R10_13 [] [38,39,40])
 (.seq (.region R10_14 [] [41,42,43,44,45,46,47,48,49,50,51])
 (.seq (.seq (.regionE R10_15 [12,52] [53,54,55])
 (.block 4
 (.loop [] s_f10_l2)))
 (.region R10_28 [] [53,54,55,56,91,92,93])))))
 (.regionE R10_29 [94] [37]))))
def s_f10_l3:ACode:=s_f10_l3_b
def s_f10_l3_ev:=hE s_f10_l3 s_f10_l3_b
def R10_30t1:LO:=[⟨some 96,.bin .gtr (.t 95) (.c (.s (.int .i64 1048576))),none⟩]
def R10_30:LO:=⟨some 95,.call (.c (.fn 23 [] [])) [.t 9],none⟩ :: R10_30t1
def X10_30:=hP R10_30 R10_30t1 [8,10,35,36,37,38] [8,10,35,36,37,38,95] ⟨some 95,.call (.c (.fn 23 [] [])) [.t 9],none⟩
def T10_30t1:=hT R10_30t1 [8,10,35,36,37,38,95] [96] 97 [] [(96,.op (.bin .gtr (.t 0) (.c (.s (.int .i64 1048576)))) [.t 95,.c (.s (.int .i64 1048576))])] [sb []]
def X10_30t1:=hL R10_30t1 [8,10,35,36,37,38,95] [96]
def R10_31:LO:=[⟨some 2,.move (.c (.s (.string ⟨#[]⟩))),none⟩,⟨some 3,.move (.c (.s (.int .i64 2))),none⟩]
def T10_31:=hT R10_31 [9,96] [2,3] 4 [] [(2,.c (.s (.string ⟨#[]⟩))),(3,.c (.s (.int .i64 2)))] [.cc (.s (.string ⟨#[]⟩)),.cc (.s (.int .i64 2))]
def R10_32t1:LO:=[oM 2 97,⟨some 3,.move (.c (.s (.int .i64 0))),none⟩]
def R10_32:LO:=⟨some 97,.call (.c (.fn 24 [] [])) [.t 9],none⟩ :: R10_32t1
def X10_32:=hP R10_32 R10_32t1 [9,96] [9,96,97] ⟨some 97,.call (.c (.fn 24 [] [])) [.t 9],none⟩
def T10_32t1:=hT R10_32t1 [9,96,97] [2,3] 4 [] [(2,.t 97),(3,.c (.s (.int .i64 0)))] [.tt 97,.cc (.s (.int .i64 0))]
def X10_32t1:=hL R10_32t1 [9,96,97] [2,3]
def s_f10:ACFun:={ ntmps:=98,results:=[.tmp 2,.tmp 3],body:=
 (.seq (.region R10_0 [] K10_0)
 (.seq (.seq (.region R10_1 [] [])
 (.block 0
 (.loop [] s_f10_l0)))
 (.seq (.region R10_8 [] [18,19,20,21,32])
 (.seq (.region R10_9 [] [])
 (.seq (.regionE R10_10 [33] [10])
 (.seq (.seq (.regionE R10_11 [1,34] [35,36,37])
 (.block 2
 (.loop [] s_f10_l3)))
 (.seq (.seq (.region R10_30 [] [8,10,35,36,37,38,95])
 (.cond (.t 96)
 (.seq (.regionE R10_31 [9,96] [2,3])
 .ret)
 .skip))
 (.seq (.region R10_32 [] [9,96,97])
 .ret)))))))) }
theorem s_f10_first:firstOk (List.range' 1 (s_f10.ntmps - 1)) s_f10.body=true:=by kernel_rfl
abbrev k_f17:Nat:=17
def K17_0:List Nat:=List.range' 0 7
theorem s_f17_r0_kT:killV K17_0 (startV 7 [] 0)=[]:=by kernel_rfl
def R17_0:LO:=[⟨some 0,.move (.c (.s (.map none))),none⟩]
def T17_0:=hT R17_0 K17_0 [] 1 [] [] [.cc (.s (.map none))]
def R17_1t1:LO:=[⟨none,.store 1 (.t 1) (.c (.fn 52 [] [])),none⟩]
def R17_1:LO:=⟨some 1,.alloc [.s .nilFunc],none⟩ :: R17_1t1
def X17_1:=hP R17_1 R17_1t1 [] [] ⟨some 1,.alloc [.s .nilFunc],none⟩
def X17_1t1:=hX R17_1t1 [] [⟨none,.store 1 (.t 1) (.c (.fn 52 [] [])),none⟩]
def R17_2t18:LO:=[oM 6 2,oM 0 6]
def R17_2t17:LO:=⟨none,.mapUpd (.int .u8) (.t 2) (.c (.s (.int .u8 14))) (.c (.fn 68 [] [])),none⟩ :: R17_2t18
def R17_2t16:LO:=⟨none,.mapUpd (.int .u8) (.t 2) (.c (.s (.int .u8 13))) (.c (.fn 67 [] [])),none⟩ :: R17_2t17
def R17_2t15:LO:=⟨none,.mapUpd (.int .u8) (.t 2) (.c (.s (.int .u8 12))) (.c (.fn 66 [] [])),none⟩ :: R17_2t16
def R17_2t14:LO:=⟨none,.mapUpd (.int .u8) (.t 2) (.c (.s (.int .u8 11))) (.c (.fn 65 [] [])),none⟩ :: R17_2t15
def R17_2t13:LO:=⟨none,.mapUpd (.int .u8) (.t 2) (.c (.s (.int .u8 10))) (.c (.fn 64 [] [])),none⟩ :: R17_2t14
def R17_2t12:LO:=⟨none,.mapUpd (.int .u8) (.t 2) (.c (.s (.int .u8 9))) (.c (.fn 63 [] [])),none⟩ :: R17_2t13
def R17_2t11:LO:=⟨none,.mapUpd (.int .u8) (.t 2) (.c (.s (.int .u8 8))) (.c (.fn 62 [] [])),none⟩ :: R17_2t12
def R17_2t10:LO:=⟨none,.mapUpd (.int .u8) (.t 2) (.c (.s (.int .u8 7))) (.t 5),none⟩ :: R17_2t11
def R17_2p9:LO:=[⟨some 5,.mkFn 61 [] [.t 1],none⟩]
def R17_2t9:LO:=R17_2p9 ++ R17_2t10
def R17_2t8:LO:=⟨none,.mapUpd (.int .u8) (.t 2) (.c (.s (.int .u8 6))) (.c (.fn 59 [] [])),none⟩ :: R17_2t9
def R17_2t7:LO:=⟨none,.mapUpd (.int .u8) (.t 2) (.c (.s (.int .u8 5))) (.c (.fn 58 [] [])),none⟩ :: R17_2t8
def R17_2t6:LO:=⟨none,.mapUpd (.int .u8) (.t 2) (.c (.s (.int .u8 4))) (.c (.fn 57 [] [])),none⟩ :: R17_2t7
def R17_2t5:LO:=⟨none,.mapUpd (.int .u8) (.t 2) (.c (.s (.int .u8 3))) (.c (.fn 56 [] [])),none⟩ :: R17_2t6
def R17_2t4:LO:=⟨none,.mapUpd (.int .u8) (.t 2) (.c (.s (.int .u8 2))) (.t 4),none⟩ :: R17_2t5
def R17_2p3:LO:=[⟨some 4,.mkFn 55 [] [.t 1],none⟩]
def R17_2t3:LO:=R17_2p3 ++ R17_2t4
def R17_2t2:LO:=⟨none,.mapUpd (.int .u8) (.t 2) (.c (.s (.int .u8 1))) (.t 3),none⟩ :: R17_2t3
def R17_2p1:LO:=[⟨some 3,.mkFn 54 [] [.t 1],none⟩]
def R17_2t1:LO:=R17_2p1 ++ R17_2t2
def R17_2:LO:=⟨some 2,.mapNew,none⟩ :: R17_2t1
def X17_2:=hP R17_2 R17_2t1 [] [1,2,3,4,5,6] ⟨some 2,.mapNew,none⟩
def T17_2p1:=hT R17_2p1 [] [3] 4 [] [(3,.op (.mkFn 54 [] [.t 0]) [.t 1])] [sb []]
def X17_2t1:=hS R17_2t1 R17_2p1 R17_2t2 [] [3] [1,2,3,4,5,6]
def X17_2t2:=hP R17_2t2 R17_2t3 [3] [1,2,3,4,5,6] ⟨none,.mapUpd (.int .u8) (.t 2) (.c (.s (.int .u8 1))) (.t 3),none⟩
def T17_2p3:=hT R17_2p3 [] [4] 5 [] [(4,.op (.mkFn 55 [] [.t 0]) [.t 1])] [sb []]
def X17_2t3:=hS R17_2t3 R17_2p3 R17_2t4 [] [4] [1,2,3,4,5,6]
def X17_2t4:=hP R17_2t4 R17_2t5 [4] [1,2,3,4,5,6] ⟨none,.mapUpd (.int .u8) (.t 2) (.c (.s (.int .u8 2))) (.t 4),none⟩
def X17_2t5:=hP R17_2t5 R17_2t6 [] [1,2,3,4,5,6] ⟨none,.mapUpd (.int .u8) (.t 2) (.c (.s (.int .u8 3))) (.c (.fn 56 [] [])),none⟩
def X17_2t6:=hP R17_2t6 R17_2t7 [] [1,2,3,4,5,6] ⟨none,.mapUpd (.int .u8) (.t 2) (.c (.s (.int .u8 4))) (.c (.fn 57 [] [])),none⟩
def X17_2t7:=hP R17_2t7 R17_2t8 [] [1,2,3,4,5,6] ⟨none,.mapUpd (.int .u8) (.t 2) (.c (.s (.int .u8 5))) (.c (.fn 58 [] [])),none⟩
def X17_2t8:=hP R17_2t8 R17_2t9 [] [1,2,3,4,5,6] ⟨none,.mapUpd (.int .u8) (.t 2) (.c (.s (.int .u8 6))) (.c (.fn 59 [] [])),none⟩
def T17_2p9:=hT R17_2p9 [1] [5] 6 [] [(5,.op (.mkFn 61 [] [.t 0]) [.t 1])] [sb []]
def X17_2t9:=hS R17_2t9 R17_2p9 R17_2t10 [1] [5] [1,2,3,4,5,6]
def X17_2t10:=hP R17_2t10 R17_2t11 [5] [1,2,3,4,5,6] ⟨none,.mapUpd (.int .u8) (.t 2) (.c (.s (.int .u8 7))) (.t 5),none⟩
def X17_2t11:=hP R17_2t11 R17_2t12 [] [1,2,3,4,5,6] ⟨none,.mapUpd (.int .u8) (.t 2) (.c (.s (.int .u8 8))) (.c (.fn 62 [] [])),none⟩
def X17_2t12:=hP R17_2t12 R17_2t13 [] [1,2,3,4,5,6] ⟨none,.mapUpd (.int .u8) (.t 2) (.c (.s (.int .u8 9))) (.c (.fn 63 [] [])),none⟩
def X17_2t13:=hP R17_2t13 R17_2t14 [] [1,2,3,4,5,6] ⟨none,.mapUpd (.int .u8) (.t 2) (.c (.s (.int .u8 10))) (.c (.fn 64 [] [])),none⟩
def X17_2t14:=hP R17_2t14 R17_2t15 [] [1,2,3,4,5,6] ⟨none,.mapUpd (.int .u8) (.t 2) (.c (.s (.int .u8 11))) (.c (.fn 65 [] [])),none⟩
def X17_2t15:=hP R17_2t15 R17_2t16 [] [1,2,3,4,5,6] ⟨none,.mapUpd (.int .u8) (.t 2) (.c (.s (.int .u8 12))) (.c (.fn 66 [] [])),none⟩
def X17_2t16:=hP R17_2t16 R17_2t17 [] [1,2,3,4,5,6] ⟨none,.mapUpd (.int .u8) (.t 2) (.c (.s (.int .u8 13))) (.c (.fn 67 [] [])),none⟩
def X17_2t17:=hP R17_2t17 R17_2t18 [] [1,2,3,4,5,6] ⟨none,.mapUpd (.int .u8) (.t 2) (.c (.s (.int .u8 14))) (.c (.fn 68 [] [])),none⟩
def T17_2t18:=hT R17_2t18 [1,2,3,4,5,6] [0] 7 [] [(0,.t 2)] [.tt 2,.tt 2]
def X17_2t18:=hL R17_2t18 [1,2,3,4,5,6] [0]
def s_f17:ACFun:={ ntmps:=7,results:=[.tmp 0],body:=
 (.seq (.regionE R17_0 K17_0 [])
 (.seq (.region R17_1 [] [])
 (.seq (.region R17_2 [] [1,2,3,4,5,6])
 .ret))) }
abbrev k_f18:Nat:=18
def K18_0:List Nat:=List.range' 0 7
def A18_0_0:=hQ K18_0 0
def A18_0_1:=hQ K18_0 1
def A18_0_3:=hQ K18_0 3
def A18_0_4:=hQ K18_0 4
def A18_0_5:=hQ K18_0 5
def A18_0_6:=hQ K18_0 6
def R18_0t3:LO:=[⟨some 6,.call (.c (.fn 19 [] [])) [.t 1,.t 5],none⟩]
def R18_0p2:LO:=[⟨some 5,.bin .add (.t 4) (.c (.s (.string ⟨#[10]⟩))),none⟩]
def R18_0t2:LO:=R18_0p2 ++ R18_0t3
def R18_0t1:LO:=⟨some 4,.call (.c (.fn 20 [] [])) [.t 3,.c (.s (.string ⟨#[]⟩))],none⟩ :: R18_0t2
def R18_0p0:LO:=[oM 3 0]
def R18_0:LO:=R18_0p0 ++ R18_0t1
def T18_0p0:=hT R18_0p0 [0,2,4,5,6] [3] 4 [] [(3,.t 0)] [.tt 0]
def X18_0:=hS R18_0 R18_0p0 R18_0t1 [0,2,4,5,6] [3] K18_0
def X18_0t1:=hP R18_0t1 R18_0t2 [3] K18_0 ⟨some 4,.call (.c (.fn 20 [] [])) [.t 3,.c (.s (.string ⟨#[]⟩))],none⟩
def T18_0p2:=hT R18_0p2 [4] [5] 6 [] [(5,.op (.bin .add (.t 0) (.c (.s (.string ⟨#[10]⟩)))) [.t 4,.c (.s (.string ⟨#[10]⟩))])] [sb []]
def X18_0t2:=hS R18_0t2 R18_0p2 R18_0t3 [4] [5] K18_0
def X18_0t3:=hX R18_0t3 K18_0 [⟨some 6,.call (.c (.fn 19 [] [])) [.t 1,.t 5],none⟩]
def s_f18:ACFun:={ ntmps:=7,results:=[],body:=
 (.region R18_0 [] K18_0) }
theorem s_f18_first:firstOk (List.range' 2 (s_f18.ntmps - 2)) s_f18.body=true:=by kernel_rfl
abbrev k_f19:Nat:=19
def K19_0:List Nat:=List.range' 2 17
theorem s_f19_r0_kT:killV K19_0 (startV 19 [] 2)=[]:=by kernel_rfl
def s_f19_r0_kA0:=hK K19_0 0
def s_f19_r0_kA1:=hK K19_0 1
def R19_0:LO:=[⟨some 4,.move (.c (.s (.int .i64 0))),none⟩,⟨some 5,.move (.c (.s .nilIface)),none⟩]
def T19_0:=hT R19_0 K19_0 [] 6 [] [] [.cc (.s (.int .i64 0)),.cc (.s .nilIface)]
def R19_1t1:LO:=[⟨some 7,.call (.c (.fn 70 [] [])) [.t 6],none⟩]
def R19_1p0:LO:=[oM 6 0]
def R19_1:LO:=R19_1p0 ++ R19_1t1
def T19_1p0:=hT R19_1p0 [] [6] 7 [] [(6,.t 0)] [.tt 0]
def X19_1:=hS R19_1 R19_1p0 R19_1t1 [] [6] [6,7]
def X19_1t1:=hX R19_1t1 [6,7] [⟨some 7,.call (.c (.fn 70 [] [])) [.t 6],none⟩]
def R19_2t3:LO:=[⟨none,.store 1 (.t 16) (.t 14),none⟩]
def R19_2p2:LO:=[⟨some 15,.nilCheck (.t 8),none⟩,oF 16 1 15]
def R19_2t2:LO:=R19_2p2 ++ R19_2t3
def R19_2t1:LO:=⟨some 14,.append 1 1 (.t 12) (.t 13),none⟩ :: R19_2t2
def R19_2p0:LO:=[oM 8 0,oM 9 0,⟨some 10,.nilCheck (.t 9),none⟩,oF 11 1 10,oL 12 11,oM 13 1]
def R19_2:LO:=R19_2p0 ++ R19_2t1
def T19_2p0:=hT R19_2p0 [0,9,10,11] [8,12,13] 14 [] [(8,.t 0),(12,.op (.load false 1 (.t 0)) [.op (.fieldAddr 1 (.t 0)) [.op (.nilCheck (.t 0)) [.t 0]]]),(13,.t 1)] [.tt 0,.tt 0,.sub 1 [0,0] [],.sub 1 [0] [],.sub 1 [] [],.tt 1]
def X19_2:=hS R19_2 R19_2p0 R19_2t1 [0,9,10,11] [8,12,13] [0,8,9,10,11,12,13,14,15,16]
def X19_2t1:=hP R19_2t1 R19_2t2 [12,13] [0,8,9,10,11,12,13,14,15,16] ⟨some 14,.append 1 1 (.t 12) (.t 13),none⟩
def T19_2p2:=hT R19_2p2 [8,15] [16] 17 [] [(16,.op (.fieldAddr 1 (.t 0)) [.op (.nilCheck (.t 0)) [.t 8]])] [sb [0],sb []]
def X19_2t2:=hS R19_2t2 R19_2p2 R19_2t3 [8,15] [16] [0,8,9,10,11,12,13,14,15,16]
def X19_2t3:=hX R19_2t3 [0,8,9,10,11,12,13,14,15,16] [⟨none,.store 1 (.t 16) (.t 14),none⟩]
def R19_3:LO:=[oM 17 1,⟨some 18,.lenS .p (.t 17),none⟩,oM 4 18,⟨some 5,.move (.c (.s .nilIface)),none⟩]
def T19_3:=hT R19_3 [1,17,18] [4,5] 19 [] [(4,.op (.lenS .p (.t 0)) [.t 1]),(5,.c (.s .nilIface))] [.tt 1,sb [],sb [],.cc (.s .nilIface)]
def s_f19:ACFun:={ ntmps:=19,results:=[.tmp 4,.tmp 5],body:=
 (.seq (.regionE R19_0 K19_0 [])
 (.seq (.region R19_1 [] [6,7])
 (.seq (.region R19_2 [] [0,8,9,10,11,12,13,14,15,16])
 (.seq (.regionE R19_3 [1,17,18] [4,5])
 .ret)))) }
abbrev k_f21:Nat:=21
def K21_0:List Nat:=[1,2,3,4]
theorem s_f21_r0_kT:killV K21_0 (startV 5 [] 1)=[]:=by kernel_rfl
def s_f21_r0_kA0:=hK K21_0 0
def R21_0:LO:=[⟨some 2,.move (.c (.s (.string ⟨#[]⟩))),none⟩]
def T21_0:=hT R21_0 K21_0 [] 3 [] [] [.cc (.s (.string ⟨#[]⟩))]
def R21_1t2:LO:=[oM 2 4]
def R21_1t1:LO:=⟨some 4,.call (.c (.fn 20 [] [])) [.t 3,.c (.s (.string ⟨#[32]⟩))],none⟩ :: R21_1t2
def R21_1p0:LO:=[oM 3 0]
def R21_1:LO:=R21_1p0 ++ R21_1t1
def T21_1p0:=hT R21_1p0 [0] [3] 4 [] [(3,.t 0)] [.tt 0]
def X21_1:=hS R21_1 R21_1p0 R21_1t1 [0] [3] [0,3,4]
def X21_1t1:=hP R21_1t1 R21_1t2 [3] [0,3,4] ⟨some 4,.call (.c (.fn 20 [] [])) [.t 3,.c (.s (.string ⟨#[32]⟩))],none⟩
def T21_1t2:=hT R21_1t2 [0,3,4] [2] 3 [] [(2,.t 4)] [.tt 4]
def X21_1t2:=hL R21_1t2 [0,3,4] [2]
def s_f21:ACFun:={ ntmps:=5,results:=[.tmp 2],body:=
 (.seq (.regionE R21_0 K21_0 [])
 (.seq (.region R21_1 [] [0,3,4])
 .ret)) }
abbrev k_f22:Nat:=22
def K22_0:List Nat:=List.range' 1 6
theorem s_f22_r0_kT:killV K22_0 (startV 7 [] 1)=[]:=by kernel_rfl
def s_f22_r0_kA0:=hK K22_0 0
def R22_0:LO:=[⟨some 2,.move (.c (.s (.string ⟨#[]⟩))),none⟩]
def T22_0:=hT R22_0 K22_0 [] 3 [] [] [.cc (.s (.string ⟨#[]⟩))]
def R22_1t2:LO:=[⟨some 5,.bin .add (.c (.s (.string ⟨#[40]⟩))) (.t 4),none⟩,⟨some 6,.bin .add (.t 5) (.c (.s (.string ⟨#[41]⟩))),none⟩,oM 2 6]
def R22_1t1:LO:=⟨some 4,.call (.c (.fn 20 [] [])) [.t 3,.c (.s (.string ⟨#[44,32]⟩))],none⟩ :: R22_1t2
def R22_1p0:LO:=[oM 3 0]
def R22_1:LO:=R22_1p0 ++ R22_1t1
def T22_1p0:=hT R22_1p0 [0] [3] 4 [] [(3,.t 0)] [.tt 0]
def X22_1:=hS R22_1 R22_1p0 R22_1t1 [0] [3] [0,3,4,5,6]
def X22_1t1:=hP R22_1t1 R22_1t2 [3] [0,3,4,5,6] ⟨some 4,.call (.c (.fn 20 [] [])) [.t 3,.c (.s (.string ⟨#[44,32]⟩))],none⟩
def T22_1t2:=hT R22_1t2 [0,3,4,5,6] [2] 7 [] [(2,.op (.bin .add (.t 0) (.c (.s (.string ⟨#[41]⟩)))) [.op (.bin .add (.c (.s (.string ⟨#[40]⟩))) (.t 1)) [.c (.s (.string ⟨#[40]⟩)),.t 4],.c (.s (.string ⟨#[41]⟩))])] [sb [0],sb [],sb []]
def X22_1t2:=hL R22_1t2 [0,3,4,5,6] [2]
def s_f22:ACFun:={ ntmps:=7,results:=[.tmp 2],body:=
 (.seq (.regionE R22_0 K22_0 [])
 (.seq (.region R22_1 [] [0,3,4,5,6])
 .ret)) }
abbrev k_f23:Nat:=23
def K23_0:List Nat:=List.range' 1 7
theorem s_f23_r0_kT:killV K23_0 (startV 8 [] 1)=[]:=by kernel_rfl
def s_f23_r0_kA0:=hK K23_0 0
def R23_0:LO:=[⟨some 2,.move (.c (.s (.int .i64 0))),none⟩]
def T23_0:=hT R23_0 K23_0 [] 3 [] [] [.cc (.s (.int .i64 0))]
def R23_1:LO:=[oM 3 0,⟨some 4,.nilCheck (.t 3),none⟩,oF 5 1 4,oL 6 5,⟨some 7,.lenS .s (.t 6),none⟩,oM 2 7]
def T23_1:=hT R23_1 [0,3,4,5,6,7] [2] 8 [] [(2,.op (.lenS .s (.t 0)) [.op (.load false 1 (.t 0)) [.op (.fieldAddr 1 (.t 0)) [.op (.nilCheck (.t 0)) [.t 0]]]])] [.tt 0,sb [0,0,0],sb [0,0],sb [0],sb [],sb []]
def s_f23:ACFun:={ ntmps:=8,results:=[.tmp 2],body:=
 (.seq (.regionE R23_0 K23_0 [])
 (.seq (.regionE R23_1 [0,3,4,5,6,7] [2])
 .ret)) }
abbrev k_f52:Nat:=52
def K52_0:List Nat:=[0,2,3,4,5]
def A52_0_0:=hQ K52_0 0
def A52_0_1:=hK K52_0 1
def A52_0_2:=hQ K52_0 2
def R52_0t1:LO:=[⟨some 2,.move (.c (.s (.string ⟨#[]⟩))),none⟩]
def R52_0:LO:=⟨some 1,.box (.t 0),none⟩ :: R52_0t1
def X52_0:=hP R52_0 R52_0t1 [0,2,3,4,5] K52_0 ⟨some 1,.box (.t 0),none⟩
def T52_0t1:=hT R52_0t1 K52_0 [] 3 [] [] [.cc (.s (.string ⟨#[]⟩))]
def X52_0t1:=hL R52_0t1 K52_0 []
def R52_1t2:LO:=[oM 2 5]
def R52_1t1:LO:=⟨some 5,.call (.c (.fn 53 [] [])) [.t 4],none⟩ :: R52_1t2
def R52_1p0:LO:=[oF 3 4 1,oL 4 3]
def R52_1:LO:=R52_1p0 ++ R52_1t1
def T52_1p0:=hT R52_1p0 [1,3] [4] 5 [] [(4,.op (.load false 1 (.t 0)) [.op (.fieldAddr 4 (.t 0)) [.t 1]])] [sb [0],sb []]
def X52_1:=hS R52_1 R52_1p0 R52_1t1 [1,3] [4] [1,3,4,5]
def X52_1t1:=hP R52_1t1 R52_1t2 [4] [1,3,4,5] ⟨some 5,.call (.c (.fn 53 [] [])) [.t 4],none⟩
def T52_1t2:=hT R52_1t2 [1,3,4,5] [2] 3 [] [(2,.t 5)] [.tt 5]
def X52_1t2:=hL R52_1t2 [1,3,4,5] [2]
def s_f52:ACFun:={ ntmps:=6,results:=[.tmp 2],body:=
 (.seq (.region R52_0 [] K52_0)
 (.seq (.region R52_1 [] [1,3,4,5])
 .ret)) }
theorem s_f52_first:firstOk (List.range' 1 (s_f52.ntmps - 1)) s_f52.body=true:=by kernel_rfl
abbrev k_f54:Nat:=54
def K54_0:List Nat:=[0,3,4,5,6,7,8]
def A54_0_0:=hQ K54_0 0
def A54_0_1:=hK K54_0 1
def A54_0_2:=hK K54_0 2
def A54_0_3:=hQ K54_0 3
def R54_0t1:LO:=[⟨some 3,.move (.c (.s (.string ⟨#[]⟩))),none⟩]
def R54_0:LO:=⟨some 2,.box (.t 0),none⟩ :: R54_0t1
def X54_0:=hP R54_0 R54_0t1 [0,3,4,5,6,7,8] K54_0 ⟨some 2,.box (.t 0),none⟩
def T54_0t1:=hT R54_0t1 K54_0 [] 4 [] [] [.cc (.s (.string ⟨#[]⟩))]
def X54_0t1:=hL R54_0t1 K54_0 []
def R54_1t4:LO:=[oM 3 8]
def R54_1t3:LO:=⟨some 8,.call (.c (.fn 21 [] [])) [.t 7],none⟩ :: R54_1t4
def R54_1t2:LO:=⟨some 7,.buildSl 1 2 [.s (.string ⟨#[]⟩),.s (.string ⟨#[]⟩)] [(0,.c (.s (.string ⟨#[97,108,108,111,99,97]⟩))),(1,.t 6)],none⟩ :: R54_1t3
def R54_1t1:LO:=⟨some 6,.call (.t 4) [.t 5],none⟩ :: R54_1t2
def R54_1p0:LO:=[oL 4 1,⟨some 5,.load true 8 (.t 2),none⟩]
def R54_1:LO:=R54_1p0 ++ R54_1t1
def T54_1p0:=hT R54_1p0 [1,2] [4,5] 6 [] [(4,.op (.load false 1 (.t 0)) [.t 1]),(5,.op (.load true 8 (.t 0)) [.t 2])] [sb [],.sub 1 [] []]
def X54_1:=hS R54_1 R54_1p0 R54_1t1 [1,2] [4,5] [1,2,4,5,6,7,8]
def X54_1t1:=hP R54_1t1 R54_1t2 [4,5] [1,2,4,5,6,7,8] ⟨some 6,.call (.t 4) [.t 5],none⟩
def X54_1t2:=hP R54_1t2 R54_1t3 [6] [1,2,4,5,6,7,8] ⟨some 7,.buildSl 1 2 [.s (.string ⟨#[]⟩),.s (.string ⟨#[]⟩)] [(0,.c (.s (.string ⟨#[97,108,108,111,99,97]⟩))),(1,.t 6)],none⟩
def X54_1t3:=hP R54_1t3 R54_1t4 [7] [1,2,4,5,6,7,8] ⟨some 8,.call (.c (.fn 21 [] [])) [.t 7],none⟩
def T54_1t4:=hT R54_1t4 [1,2,4,5,6,7,8] [3] 4 [] [(3,.t 8)] [.tt 8]
def X54_1t4:=hL R54_1t4 [1,2,4,5,6,7,8] [3]
def s_f54:ACFun:={ ntmps:=9,results:=[.tmp 3],body:=
 (.seq (.region R54_0 [] K54_0)
 (.seq (.region R54_1 [] [1,2,4,5,6,7,8])
 .ret)) }
theorem s_f54_first:firstOk (List.range' 2 (s_f54.ntmps - 2)) s_f54.body=true:=by kernel_rfl
abbrev k_f55:Nat:=55
def K55_0:List Nat:=[0,3,4,5,6,7,8]
def A55_0_0:=hQ K55_0 0
def A55_0_1:=hK K55_0 1
def A55_0_2:=hK K55_0 2
def A55_0_3:=hQ K55_0 3
def R55_0t1:LO:=[⟨some 3,.move (.c (.s (.string ⟨#[]⟩))),none⟩]
def R55_0:LO:=⟨some 2,.box (.t 0),none⟩ :: R55_0t1
def X55_0:=hP R55_0 R55_0t1 [0,3,4,5,6,7,8] K55_0 ⟨some 2,.box (.t 0),none⟩
def T55_0t1:=hT R55_0t1 K55_0 [] 4 [] [] [.cc (.s (.string ⟨#[]⟩))]
def X55_0t1:=hL R55_0t1 K55_0 []
def R55_1t4:LO:=[oM 3 8]
def R55_1t3:LO:=⟨some 8,.call (.c (.fn 21 [] [])) [.t 7],none⟩ :: R55_1t4
def R55_1t2:LO:=⟨some 7,.buildSl 1 2 [.s (.string ⟨#[]⟩),.s (.string ⟨#[]⟩)] [(0,.c (.s (.string ⟨#[109,97,108,108,111,99]⟩))),(1,.t 6)],none⟩ :: R55_1t3
def R55_1t1:LO:=⟨some 6,.call (.t 4) [.t 5],none⟩ :: R55_1t2
def R55_1p0:LO:=[oL 4 1,⟨some 5,.load true 8 (.t 2),none⟩]
def R55_1:LO:=R55_1p0 ++ R55_1t1
def T55_1p0:=hT R55_1p0 [1,2] [4,5] 6 [] [(4,.op (.load false 1 (.t 0)) [.t 1]),(5,.op (.load true 8 (.t 0)) [.t 2])] [sb [],.sub 1 [] []]
def X55_1:=hS R55_1 R55_1p0 R55_1t1 [1,2] [4,5] [1,2,4,5,6,7,8]
def X55_1t1:=hP R55_1t1 R55_1t2 [4,5] [1,2,4,5,6,7,8] ⟨some 6,.call (.t 4) [.t 5],none⟩
def X55_1t2:=hP R55_1t2 R55_1t3 [6] [1,2,4,5,6,7,8] ⟨some 7,.buildSl 1 2 [.s (.string ⟨#[]⟩),.s (.string ⟨#[]⟩)] [(0,.c (.s (.string ⟨#[109,97,108,108,111,99]⟩))),(1,.t 6)],none⟩
def X55_1t3:=hP R55_1t3 R55_1t4 [7] [1,2,4,5,6,7,8] ⟨some 8,.call (.c (.fn 21 [] [])) [.t 7],none⟩
def T55_1t4:=hT R55_1t4 [1,2,4,5,6,7,8] [3] 4 [] [(3,.t 8)] [.tt 8]
def X55_1t4:=hL R55_1t4 [1,2,4,5,6,7,8] [3]
def s_f55:ACFun:={ ntmps:=9,results:=[.tmp 3],body:=
 (.seq (.region R55_0 [] K55_0)
 (.seq (.region R55_1 [] [1,2,4,5,6,7,8])
 .ret)) }
theorem s_f55_first:firstOk (List.range' 2 (s_f55.ntmps - 2)) s_f55.body=true:=by kernel_rfl
abbrev k_f56:Nat:=56
def K56_0:List Nat:=[0,1,2]
def A56_0_0:=hQ K56_0 0
def A56_0_1:=hQ K56_0 1
def A56_0_2:=hQ K56_0 2
def R56_0t1:LO:=[⟨some 2,.move (.c (.s (.string ⟨#[]⟩))),none⟩]
def R56_0:LO:=⟨some 1,.box (.t 0),none⟩ :: R56_0t1
def X56_0:=hP R56_0 R56_0t1 [0,1,2] K56_0 ⟨some 1,.box (.t 0),none⟩
def T56_0t1:=hT R56_0t1 K56_0 [] 3 [] [] [.cc (.s (.string ⟨#[]⟩))]
def X56_0t1:=hL R56_0t1 K56_0 []
def R56_1:LO:=[⟨some 2,.move (.c (.s (.string ⟨#[110,117,108,108]⟩))),none⟩]
def T56_1:=hT R56_1 [] [2] 3 [] [(2,.c (.s (.string ⟨#[110,117,108,108]⟩)))] [.cc (.s (.string ⟨#[110,117,108,108]⟩))]
def s_f56:ACFun:={ ntmps:=3,results:=[.tmp 2],body:=
 (.seq (.region R56_0 [] K56_0)
 (.seq (.regionE R56_1 [] [2])
 .ret)) }
theorem s_f56_first:firstOk (List.range' 1 (s_f56.ntmps - 1)) s_f56.body=true:=by kernel_rfl
abbrev k_f57:Nat:=57
def K57_0:List Nat:=[0,2,3,4,5,6]
def A57_0_0:=hQ K57_0 0
def A57_0_1:=hK K57_0 1
def A57_0_2:=hQ K57_0 2
def R57_0t1:LO:=[⟨some 2,.move (.c (.s (.string ⟨#[]⟩))),none⟩]
def R57_0:LO:=⟨some 1,.box (.t 0),none⟩ :: R57_0t1
def X57_0:=hP R57_0 R57_0t1 [0,2,3,4,5,6] K57_0 ⟨some 1,.box (.t 0),none⟩
def T57_0t1:=hT R57_0t1 K57_0 [] 3 [] [] [.cc (.s (.string ⟨#[]⟩))]
def X57_0t1:=hL R57_0t1 K57_0 []
def R57_1t3:LO:=[oM 2 6]
def R57_1t2:LO:=⟨some 6,.call (.c (.fn 21 [] [])) [.t 5],none⟩ :: R57_1t3
def R57_1t1:LO:=⟨some 5,.buildSl 1 2 [.s (.string ⟨#[]⟩),.s (.string ⟨#[]⟩)] [(0,.c (.s (.string ⟨#[97,100,100,114]⟩))),(1,.t 4)],none⟩ :: R57_1t2
def R57_1p0:LO:=[oF 3 5 1,oL 4 3]
def R57_1:LO:=R57_1p0 ++ R57_1t1
def T57_1p0:=hT R57_1p0 [1,3] [4] 5 [] [(4,.op (.load false 1 (.t 0)) [.op (.fieldAddr 5 (.t 0)) [.t 1]])] [sb [0],sb []]
def X57_1:=hS R57_1 R57_1p0 R57_1t1 [1,3] [4] [1,3,4,5,6]
def X57_1t1:=hP R57_1t1 R57_1t2 [4] [1,3,4,5,6] ⟨some 5,.buildSl 1 2 [.s (.string ⟨#[]⟩),.s (.string ⟨#[]⟩)] [(0,.c (.s (.string ⟨#[97,100,100,114]⟩))),(1,.t 4)],none⟩
def X57_1t2:=hP R57_1t2 R57_1t3 [5] [1,3,4,5,6] ⟨some 6,.call (.c (.fn 21 [] [])) [.t 5],none⟩
def T57_1t3:=hT R57_1t3 [1,3,4,5,6] [2] 3 [] [(2,.t 6)] [.tt 6]
def X57_1t3:=hL R57_1t3 [1,3,4,5,6] [2]
def s_f57:ACFun:={ ntmps:=7,results:=[.tmp 2],body:=
 (.seq (.region R57_0 [] K57_0)
 (.seq (.region R57_1 [] [1,3,4,5,6])
 .ret)) }
theorem s_f57_first:firstOk (List.range' 1 (s_f57.ntmps - 1)) s_f57.body=true:=by kernel_rfl
abbrev k_f58:Nat:=58
def K58_0:List Nat:=[0,2,3,4,5,6]
def A58_0_0:=hQ K58_0 0
def A58_0_1:=hK K58_0 1
def A58_0_2:=hQ K58_0 2
def R58_0t1:LO:=[⟨some 2,.move (.c (.s (.string ⟨#[]⟩))),none⟩]
def R58_0:LO:=⟨some 1,.box (.t 0),none⟩ :: R58_0t1
def X58_0:=hP R58_0 R58_0t1 [0,2,3,4,5,6] K58_0 ⟨some 1,.box (.t 0),none⟩
def T58_0t1:=hT R58_0t1 K58_0 [] 3 [] [] [.cc (.s (.string ⟨#[]⟩))]
def X58_0t1:=hL R58_0t1 K58_0 []
def R58_1t3:LO:=[oM 2 6]
def R58_1t2:LO:=⟨some 6,.call (.c (.fn 21 [] [])) [.t 5],none⟩ :: R58_1t3
def R58_1t1:LO:=⟨some 5,.buildSl 1 2 [.s (.string ⟨#[]⟩),.s (.string ⟨#[]⟩)] [(0,.c (.s (.string ⟨#[99,111,112,121]⟩))),(1,.t 4)],none⟩ :: R58_1t2
def R58_1p0:LO:=[oF 3 2 1,oL 4 3]
def R58_1:LO:=R58_1p0 ++ R58_1t1
def T58_1p0:=hT R58_1p0 [1,3] [4] 5 [] [(4,.op (.load false 1 (.t 0)) [.op (.fieldAddr 2 (.t 0)) [.t 1]])] [sb [0],sb []]
def X58_1:=hS R58_1 R58_1p0 R58_1t1 [1,3] [4] [1,3,4,5,6]
def X58_1t1:=hP R58_1t1 R58_1t2 [4] [1,3,4,5,6] ⟨some 5,.buildSl 1 2 [.s (.string ⟨#[]⟩),.s (.string ⟨#[]⟩)] [(0,.c (.s (.string ⟨#[99,111,112,121]⟩))),(1,.t 4)],none⟩
def X58_1t2:=hP R58_1t2 R58_1t3 [5] [1,3,4,5,6] ⟨some 6,.call (.c (.fn 21 [] [])) [.t 5],none⟩
def T58_1t3:=hT R58_1t3 [1,3,4,5,6] [2] 3 [] [(2,.t 6)] [.tt 6]
def X58_1t3:=hL R58_1t3 [1,3,4,5,6] [2]
def s_f58:ACFun:={ ntmps:=7,results:=[.tmp 2],body:=
 (.seq (.region R58_0 [] K58_0)
 (.seq (.region R58_1 [] [1,3,4,5,6])
 .ret)) }
theorem s_f58_first:firstOk (List.range' 1 (s_f58.ntmps - 1)) s_f58.body=true:=by kernel_rfl
abbrev k_f59:Nat:=59
def K59_0:List Nat:=[0,2,3,4,5,6]
def A59_0_0:=hQ K59_0 0
def A59_0_1:=hK K59_0 1
def A59_0_2:=hQ K59_0 2
def R59_0t1:LO:=[⟨some 2,.move (.c (.s (.string ⟨#[]⟩))),none⟩]
def R59_0:LO:=⟨some 1,.box (.t 0),none⟩ :: R59_0t1
def X59_0:=hP R59_0 R59_0t1 [0,2,3,4,5,6] K59_0 ⟨some 1,.box (.t 0),none⟩
def T59_0t1:=hT R59_0t1 K59_0 [] 3 [] [] [.cc (.s (.string ⟨#[]⟩))]
def X59_0t1:=hL R59_0t1 K59_0 []
def R59_1t4:LO:=[oM 2 6]
def R59_1t3:LO:=⟨some 6,.call (.c (.fn 21 [] [])) [.t 5],none⟩ :: R59_1t4
def R59_1t2:LO:=⟨some 5,.buildSl 1 2 [.s (.string ⟨#[]⟩),.s (.string ⟨#[]⟩)] [(0,.c (.s (.string ⟨#[112,104,105]⟩))),(1,.t 4)],none⟩ :: R59_1t3
def R59_1t1:LO:=⟨some 4,.call (.c (.fn 60 [] [])) [.t 3],none⟩ :: R59_1t2
def R59_1p0:LO:=[⟨some 3,.load true 8 (.t 1),none⟩]
def R59_1:LO:=R59_1p0 ++ R59_1t1
def T59_1p0:=hT R59_1p0 [1] [3] 4 [] [(3,.op (.load true 8 (.t 0)) [.t 1])] [sb []]
def X59_1:=hS R59_1 R59_1p0 R59_1t1 [1] [3] [1,3,4,5,6]
def X59_1t1:=hP R59_1t1 R59_1t2 [3] [1,3,4,5,6] ⟨some 4,.call (.c (.fn 60 [] [])) [.t 3],none⟩
def X59_1t2:=hP R59_1t2 R59_1t3 [4] [1,3,4,5,6] ⟨some 5,.buildSl 1 2 [.s (.string ⟨#[]⟩),.s (.string ⟨#[]⟩)] [(0,.c (.s (.string ⟨#[112,104,105]⟩))),(1,.t 4)],none⟩
def X59_1t3:=hP R59_1t3 R59_1t4 [5] [1,3,4,5,6] ⟨some 6,.call (.c (.fn 21 [] [])) [.t 5],none⟩
def T59_1t4:=hT R59_1t4 [1,3,4,5,6] [2] 3 [] [(2,.t 6)] [.tt 6]
def X59_1t4:=hL R59_1t4 [1,3,4,5,6] [2]
def s_f59:ACFun:={ ntmps:=7,results:=[.tmp 2],body:=
 (.seq (.region R59_0 [] K59_0)
 (.seq (.region R59_1 [] [1,3,4,5,6])
 .ret)) }
theorem s_f59_first:firstOk (List.range' 1 (s_f59.ntmps - 1)) s_f59.body=true:=by kernel_rfl
abbrev k_f60:Nat:=60
def K60_0:List Nat:=[0] ++ List.range' 2 28
def A60_0_0:=hQ K60_0 0
def A60_0_1:=hK K60_0 1
def A60_0_2:=hQ K60_0 2
def R60_0t1:LO:=[⟨some 2,.move (.c (.s (.string ⟨#[]⟩))),none⟩]
def R60_0:LO:=⟨some 1,.box (.t 0),none⟩ :: R60_0t1
def X60_0:=hP R60_0 R60_0t1 [0,2,3,4,5,6,7,8,9,10,11,12,13,14,15,16,17,18,19,20,21,22,23,24,25,26,27,28,29] K60_0 ⟨some 1,.box (.t 0),none⟩
def T60_0t1:=hT R60_0t1 K60_0 [] 3 [] [] [.cc (.s (.string ⟨#[]⟩))]
def X60_0t1:=hL R60_0t1 K60_0 []
def R60_1:LO:=[⟨some 3,.move (.c (.s (.slice none 0 0))),none⟩]
def T60_1:=hT R60_1 [] [3] 4 [] [(3,.c (.s (.slice none 0 0)))] [.cc (.s (.slice none 0 0))]
def R60_2:LO:=[oF 6 7 1,oL 7 6,⟨some 8,.lenS .s (.t 7),none⟩,⟨some 9,.move (.c (.s (.int .i64 0))),none⟩]
def T60_2:=hT R60_2 [6] [7,8,9] 10 [] [(7,.op (.load false 1 (.t 0)) [.op (.fieldAddr 7 (.t 0)) [.t 1]]),(8,.op (.lenS .s (.t 0)) [.op (.load false 1 (.t 0)) [.op (.fieldAddr 7 (.t 0)) [.t 1]]]),(9,.c (.s (.int .i64 0)))] [sb [0],sb [],.sub 1 [] [],.cc (.s (.int .i64 0))]
def R60_3:LO:=[⟨some 10,.bin .lss (.t 9) (.t 8),none⟩]
def T60_3:=hT R60_3 [] [10] 11 [] [(10,.op (.bin .lss (.t 0) (.t 1)) [.t 9,.t 8])] [sb []]
def R60_4:LO:=[oM 11 9,⟨some 12,.indexAddr 1 (.t 7) (.t 9),none⟩,oL 13 12,oM 4 11,oM 5 13]
def T60_4:=hT R60_4 [10,11,12,13] [4,5] 14 [] [(4,.t 9),(5,.op (.load false 1 (.t 0)) [.op (.indexAddr 1 (.t 0) (.t 1)) [.t 7,.t 9]])] [.tt 9,.sub 1 [0] [],.sub 1 [] [],.tt 9,.sub 1 [] []]
def R60_5t3:LO:=[oM 3 24]
def R60_5t2:LO:=⟨some 24,.append 1 16 (.t 14) (.t 23),none⟩ :: R60_5t3
def R60_5t1:LO:=⟨some 23,.buildSl 1 1 [.s (.string ⟨#[]⟩)] [(0,.t 22)],none⟩ :: R60_5t2
def R60_5p0:LO:=[oM 14 3,oM 15 5,⟨some 16,.bin .add (.t 15) (.c (.s (.string ⟨#[58,32]⟩))),none⟩,oF 17 6 1,oL 18 17,oM 19 4,⟨some 20,.indexAddr 1 (.t 18) (.t 19),none⟩,oL 21 20,⟨some 22,.bin .add (.t 16) (.t 21),none⟩]
def R60_5:LO:=R60_5p0 ++ R60_5t1
def T60_5p0:=hT R60_5p0 [3,4,5,15,16,17,18,19,20,21] [14,22] 23 [] [(14,.t 3),(22,.op (.bin .add (.t 0) (.t 1)) [.op (.bin .add (.t 0) (.c (.s (.string ⟨#[58,32]⟩)))) [.t 5,.c (.s (.string ⟨#[58,32]⟩))],.op (.load false 1 (.t 0)) [.op (.indexAddr 1 (.t 0) (.t 1)) [.op (.load false 1 (.t 0)) [.op (.fieldAddr 6 (.t 0)) [.t 1]],.t 4]]])] [.tt 3,.tt 5,.sub 1 [0] [],.sub 1 [1,0,0,0] [],.sub 1 [1,0,0] [],.tt 4,.sub 1 [1,0] [],.sub 1 [1] [],.sub 1 [] []]
def X60_5:=hS R60_5 R60_5p0 R60_5t1 [3,4,5,15,16,17,18,19,20,21] [14,22] [4,5,14,15,16,17,18,19,20,21,22,23,24]
def X60_5t1:=hP R60_5t1 R60_5t2 [22] [4,5,14,15,16,17,18,19,20,21,22,23,24] ⟨some 23,.buildSl 1 1 [.s (.string ⟨#[]⟩)] [(0,.t 22)],none⟩
def X60_5t2:=hP R60_5t2 R60_5t3 [14,23] [4,5,14,15,16,17,18,19,20,21,22,23,24] ⟨some 24,.append 1 16 (.t 14) (.t 23),none⟩
def T60_5t3:=hT R60_5t3 [4,5,14,15,16,17,18,19,20,21,22,23,24] [3] 4 [] [(3,.t 24)] [.tt 24]
def X60_5t3:=hL R60_5t3 [4,5,14,15,16,17,18,19,20,21,22,23,24] [3]
def R60_6:LO:=[⟨some 25,.bin .add (.t 9) (.c (.s (.int .i64 1))),none⟩,oM 9 25]
def T60_6:=hT R60_6 [25] [9] 26 [] [(9,.op (.bin .add (.t 0) (.c (.s (.int .i64 1)))) [.t 9,.c (.s (.int .i64 1))])] [sb [],sb []]
def s_f60_l0_b:ACode:=
 (.seq (.regionE R60_3 [] [10])
 (.seq (.cond (.t 10)
 .skip
 (.exit 0))
 (.seq (.block 1
 (.seq (.regionE R60_4 [10,11,12,13] [4,5])
 (.region R60_5 [] [4,5,14,15,16,17,18,19,20,21,22,23,24])))
 (.regionE R60_6 [25] [9]))))
def s_f60_l0:ACode:=s_f60_l0_b
def s_f60_l0_ev:=hE s_f60_l0 s_f60_l0_b
def R60_7t2:LO:=[⟨some 28,.bin .add (.c (.s (.string ⟨#[91]⟩))) (.t 27),none⟩,⟨some 29,.bin .add (.t 28) (.c (.s (.string ⟨#[93]⟩))),none⟩,oM 2 29]
def R60_7t1:LO:=⟨some 27,.call (.c (.fn 20 [] [])) [.t 26,.c (.s (.string ⟨#[44,32]⟩))],none⟩ :: R60_7t2
def R60_7p0:LO:=[oM 26 3]
def R60_7:LO:=R60_7p0 ++ R60_7t1
def T60_7p0:=hT R60_7p0 [1,3,7,8,9,10] [26] 27 [] [(26,.t 3)] [.tt 3]
def X60_7:=hS R60_7 R60_7p0 R60_7t1 [1,3,7,8,9,10] [26] [1,3,7,8,9,10,26,27,28,29]
def X60_7t1:=hP R60_7t1 R60_7t2 [26] [1,3,7,8,9,10,26,27,28,29] ⟨some 27,.call (.c (.fn 20 [] [])) [.t 26,.c (.s (.string ⟨#[44,32]⟩))],none⟩
def T60_7t2:=hT R60_7t2 [1,3,7,8,9,10,26,27,28,29] [2] 30 [] [(2,.op (.bin .add (.t 0) (.c (.s (.string ⟨#[93]⟩)))) [.op (.bin .add (.c (.s (.string ⟨#[91]⟩))) (.t 1)) [.c (.s (.string ⟨#[91]⟩)),.t 27],.c (.s (.string ⟨#[93]⟩))])] [sb [0],sb [],sb []]
def X60_7t2:=hL R60_7t2 [1,3,7,8,9,10,26,27,28,29] [2]
def s_f60:ACFun:={ ntmps:=30,results:=[.tmp 2],body:=
 (.seq (.region R60_0 [] K60_0)
 (.seq (.regionE R60_1 [] [3])
 (.seq (.seq (.regionE R60_2 [6] [7,8,9])
 (.block 0
 (.loop [] s_f60_l0)))
 (.seq (.region R60_7 [] [1,3,7,8,9,10,26,27,28,29])
 .ret)))) }
theorem s_f60_first:firstOk (List.range' 1 (s_f60.ntmps - 1)) s_f60.body=true:=by kernel_rfl
abbrev k_f61:Nat:=61
def K61_0:List Nat:=[0] ++ List.range' 3 8
def A61_0_0:=hQ K61_0 0
def A61_0_1:=hK K61_0 1
def A61_0_2:=hK K61_0 2
def A61_0_3:=hQ K61_0 3
def R61_0t1:LO:=[⟨some 3,.move (.c (.s (.string ⟨#[]⟩))),none⟩]
def R61_0:LO:=⟨some 2,.box (.t 0),none⟩ :: R61_0t1
def X61_0:=hP R61_0 R61_0t1 [0,3,4,5,6,7,8,9,10] K61_0 ⟨some 2,.box (.t 0),none⟩
def T61_0t1:=hT R61_0t1 K61_0 [] 4 [] [] [.cc (.s (.string ⟨#[]⟩))]
def X61_0t1:=hL R61_0t1 K61_0 []
def R61_1t4:LO:=[oM 3 10]
def R61_1t3:LO:=⟨some 10,.call (.c (.fn 21 [] [])) [.t 9],none⟩ :: R61_1t4
def R61_1t2:LO:=⟨some 9,.buildSl 1 3 [.s (.string ⟨#[]⟩),.s (.string ⟨#[]⟩),.s (.string ⟨#[]⟩)] [(0,.c (.s (.string ⟨#[102,105,101,108,100]⟩))),(1,.t 5),(2,.t 8)],none⟩ :: R61_1t3
def R61_1t1:LO:=⟨some 8,.callR (.t 6) [.t 7],none⟩ :: R61_1t2
def R61_1p0:LO:=[oF 4 2 2,oL 5 4,oL 6 1,⟨some 7,.load true 8 (.t 2),none⟩]
def R61_1:LO:=R61_1p0 ++ R61_1t1
def T61_1p0:=hT R61_1p0 [1,2,4] [5,6,7] 8 [] [(5,.op (.load false 1 (.t 0)) [.op (.fieldAddr 2 (.t 0)) [.t 2]]),(6,.op (.load false 1 (.t 0)) [.t 1]),(7,.op (.load true 8 (.t 0)) [.t 2])] [sb [0],sb [],.sub 1 [] [],.sub 2 [] []]
def X61_1:=hS R61_1 R61_1p0 R61_1t1 [1,2,4] [5,6,7] [1,2,4,5,6,7,8,9,10]
def X61_1t1:=hP R61_1t1 R61_1t2 [6,7] [1,2,4,5,6,7,8,9,10] ⟨some 8,.callR (.t 6) [.t 7],none⟩
def X61_1t2:=hP R61_1t2 R61_1t3 [5,8] [1,2,4,5,6,7,8,9,10] ⟨some 9,.buildSl 1 3 [.s (.string ⟨#[]⟩),.s (.string ⟨#[]⟩),.s (.string ⟨#[]⟩)] [(0,.c (.s (.string ⟨#[102,105,101,108,100]⟩))),(1,.t 5),(2,.t 8)],none⟩
def X61_1t3:=hP R61_1t3 R61_1t4 [9] [1,2,4,5,6,7,8,9,10] ⟨some 10,.call (.c (.fn 21 [] [])) [.t 9],none⟩
def T61_1t4:=hT R61_1t4 [1,2,4,5,6,7,8,9,10] [3] 4 [] [(3,.t 10)] [.tt 10]
def X61_1t4:=hL R61_1t4 [1,2,4,5,6,7,8,9,10] [3]
def s_f61:ACFun:={ ntmps:=11,results:=[.tmp 3],body:=
 (.seq (.region R61_0 [] K61_0)
 (.seq (.region R61_1 [] [1,2,4,5,6,7,8,9,10])
 .ret)) }
theorem s_f61_first:firstOk (List.range' 2 (s_f61.ntmps - 2)) s_f61.body=true:=by kernel_rfl
abbrev k_f62:Nat:=62
def K62_0:List Nat:=[0,2,3,4,5,6]
def A62_0_0:=hQ K62_0 0
def A62_0_1:=hK K62_0 1
def A62_0_2:=hQ K62_0 2
def R62_0t1:LO:=[⟨some 2,.move (.c (.s (.string ⟨#[]⟩))),none⟩]
def R62_0:LO:=⟨some 1,.box (.t 0),none⟩ :: R62_0t1
def X62_0:=hP R62_0 R62_0t1 [0,2,3,4,5,6] K62_0 ⟨some 1,.box (.t 0),none⟩
def T62_0t1:=hT R62_0t1 K62_0 [] 3 [] [] [.cc (.s (.string ⟨#[]⟩))]
def X62_0t1:=hL R62_0t1 K62_0 []
def R62_1t3:LO:=[oM 2 6]
def R62_1t2:LO:=⟨some 6,.call (.c (.fn 21 [] [])) [.t 5],none⟩ :: R62_1t3
def R62_1t1:LO:=⟨some 5,.buildSl 1 2 [.s (.string ⟨#[]⟩),.s (.string ⟨#[]⟩)] [(0,.c (.s (.string ⟨#[108,111,97,100]⟩))),(1,.t 4)],none⟩ :: R62_1t2
def R62_1p0:LO:=[oF 3 2 1,oL 4 3]
def R62_1:LO:=R62_1p0 ++ R62_1t1
def T62_1p0:=hT R62_1p0 [1,3] [4] 5 [] [(4,.op (.load false 1 (.t 0)) [.op (.fieldAddr 2 (.t 0)) [.t 1]])] [sb [0],sb []]
def X62_1:=hS R62_1 R62_1p0 R62_1t1 [1,3] [4] [1,3,4,5,6]
def X62_1t1:=hP R62_1t1 R62_1t2 [4] [1,3,4,5,6] ⟨some 5,.buildSl 1 2 [.s (.string ⟨#[]⟩),.s (.string ⟨#[]⟩)] [(0,.c (.s (.string ⟨#[108,111,97,100]⟩))),(1,.t 4)],none⟩
def X62_1t2:=hP R62_1t2 R62_1t3 [5] [1,3,4,5,6] ⟨some 6,.call (.c (.fn 21 [] [])) [.t 5],none⟩
def T62_1t3:=hT R62_1t3 [1,3,4,5,6] [2] 3 [] [(2,.t 6)] [.tt 6]
def X62_1t3:=hL R62_1t3 [1,3,4,5,6] [2]
def s_f62:ACFun:={ ntmps:=7,results:=[.tmp 2],body:=
 (.seq (.region R62_0 [] K62_0)
 (.seq (.region R62_1 [] [1,3,4,5,6])
 .ret)) }
theorem s_f62_first:firstOk (List.range' 1 (s_f62.ntmps - 1)) s_f62.body=true:=by kernel_rfl
abbrev k_f63:Nat:=63
def K63_0:List Nat:=[0] ++ List.range' 2 8
def A63_0_0:=hQ K63_0 0
def A63_0_1:=hK K63_0 1
def A63_0_2:=hQ K63_0 2
def R63_0t1:LO:=[⟨some 2,.move (.c (.s (.string ⟨#[]⟩))),none⟩]
def R63_0:LO:=⟨some 1,.box (.t 0),none⟩ :: R63_0t1
def X63_0:=hP R63_0 R63_0t1 [0,2,3,4,5,6,7,8,9] K63_0 ⟨some 1,.box (.t 0),none⟩
def T63_0t1:=hT R63_0t1 K63_0 [] 3 [] [] [.cc (.s (.string ⟨#[]⟩))]
def X63_0t1:=hL R63_0t1 K63_0 []
def R63_1t3:LO:=[oM 2 9]
def R63_1t2:LO:=⟨some 9,.call (.c (.fn 21 [] [])) [.t 8],none⟩ :: R63_1t3
def R63_1t1:LO:=⟨some 8,.buildSl 1 3 [.s (.string ⟨#[]⟩),.s (.string ⟨#[]⟩),.s (.string ⟨#[]⟩)] [(0,.c (.s (.string ⟨#[115,116,111,114,101]⟩))),(1,.t 5),(2,.t 7)],none⟩ :: R63_1t2
def R63_1p0:LO:=[oF 3 2 1,oL 4 3,⟨some 5,.bin .add (.t 4) (.c (.s (.string ⟨#[44]⟩))),none⟩,oF 6 3 1,oL 7 6]
def R63_1:LO:=R63_1p0 ++ R63_1t1
def T63_1p0:=hT R63_1p0 [1,3,4,6] [5,7] 8 [] [(5,.op (.bin .add (.t 0) (.c (.s (.string ⟨#[44]⟩)))) [.op (.load false 1 (.t 0)) [.op (.fieldAddr 2 (.t 0)) [.t 1]],.c (.s (.string ⟨#[44]⟩))]),(7,.op (.load false 1 (.t 0)) [.op (.fieldAddr 3 (.t 0)) [.t 1]])] [sb [0,0],sb [0],sb [],.sub 1 [0] [],.sub 1 [] []]
def X63_1:=hS R63_1 R63_1p0 R63_1t1 [1,3,4,6] [5,7] [1,3,4,5,6,7,8,9]
def X63_1t1:=hP R63_1t1 R63_1t2 [5,7] [1,3,4,5,6,7,8,9] ⟨some 8,.buildSl 1 3 [.s (.string ⟨#[]⟩),.s (.string ⟨#[]⟩),.s (.string ⟨#[]⟩)] [(0,.c (.s (.string ⟨#[115,116,111,114,101]⟩))),(1,.t 5),(2,.t 7)],none⟩
def X63_1t2:=hP R63_1t2 R63_1t3 [8] [1,3,4,5,6,7,8,9] ⟨some 9,.call (.c (.fn 21 [] [])) [.t 8],none⟩
def T63_1t3:=hT R63_1t3 [1,3,4,5,6,7,8,9] [2] 3 [] [(2,.t 9)] [.tt 9]
def X63_1t3:=hL R63_1t3 [1,3,4,5,6,7,8,9] [2]
def s_f63:ACFun:={ ntmps:=10,results:=[.tmp 2],body:=
 (.seq (.region R63_0 [] K63_0)
 (.seq (.region R63_1 [] [1,3,4,5,6,7,8,9])
 .ret)) }
theorem s_f63_first:firstOk (List.range' 1 (s_f63.ntmps - 1)) s_f63.body=true:=by kernel_rfl
abbrev k_f64:Nat:=64
def K64_0:List Nat:=[0] ++ List.range' 2 9
def A64_0_0:=hQ K64_0 0
def A64_0_1:=hK K64_0 1
def A64_0_2:=hQ K64_0 2
def R64_0t1:LO:=[⟨some 2,.move (.c (.s (.string ⟨#[]⟩))),none⟩]
def R64_0:LO:=⟨some 1,.box (.t 0),none⟩ :: R64_0t1
def X64_0:=hP R64_0 R64_0t1 [0,2,3,4,5,6,7,8,9,10] K64_0 ⟨some 1,.box (.t 0),none⟩
def T64_0t1:=hT R64_0t1 K64_0 [] 3 [] [] [.cc (.s (.string ⟨#[]⟩))]
def X64_0t1:=hL R64_0t1 K64_0 []
def R64_1t5:LO:=[oM 2 10]
def R64_1t4:LO:=⟨some 10,.call (.c (.fn 21 [] [])) [.t 9],none⟩ :: R64_1t5
def R64_1t3:LO:=⟨some 9,.buildSl 1 2 [.s (.string ⟨#[]⟩),.s (.string ⟨#[]⟩)] [(0,.c (.s (.string ⟨#[99,97,108,108]⟩))),(1,.t 8)],none⟩ :: R64_1t4
def R64_1p2:LO:=[⟨some 8,.bin .add (.t 4) (.t 7),none⟩]
def R64_1t2:LO:=R64_1p2 ++ R64_1t3
def R64_1t1:LO:=⟨some 7,.callR (.c (.fn 22 [] [])) [.t 6],none⟩ :: R64_1t2
def R64_1p0:LO:=[oF 3 5 1,oL 4 3,oF 5 6 1,oL 6 5]
def R64_1:LO:=R64_1p0 ++ R64_1t1
def T64_1p0:=hT R64_1p0 [1,3,5] [4,6] 7 [] [(4,.op (.load false 1 (.t 0)) [.op (.fieldAddr 5 (.t 0)) [.t 1]]),(6,.op (.load false 1 (.t 0)) [.op (.fieldAddr 6 (.t 0)) [.t 1]])] [sb [0],sb [],.sub 1 [0] [],.sub 1 [] []]
def X64_1:=hS R64_1 R64_1p0 R64_1t1 [1,3,5] [4,6] [1,3,4,5,6,7,8,9,10]
def X64_1t1:=hP R64_1t1 R64_1t2 [6] [1,3,4,5,6,7,8,9,10] ⟨some 7,.callR (.c (.fn 22 [] [])) [.t 6],none⟩
def T64_1p2:=hT R64_1p2 [4,7] [8] 9 [] [(8,.op (.bin .add (.t 0) (.t 1)) [.t 4,.t 7])] [sb []]
def X64_1t2:=hS R64_1t2 R64_1p2 R64_1t3 [4,7] [8] [1,3,4,5,6,7,8,9,10]
def X64_1t3:=hP R64_1t3 R64_1t4 [8] [1,3,4,5,6,7,8,9,10] ⟨some 9,.buildSl 1 2 [.s (.string ⟨#[]⟩),.s (.string ⟨#[]⟩)] [(0,.c (.s (.string ⟨#[99,97,108,108]⟩))),(1,.t 8)],none⟩
def X64_1t4:=hP R64_1t4 R64_1t5 [9] [1,3,4,5,6,7,8,9,10] ⟨some 10,.call (.c (.fn 21 [] [])) [.t 9],none⟩
def T64_1t5:=hT R64_1t5 [1,3,4,5,6,7,8,9,10] [2] 3 [] [(2,.t 10)] [.tt 10]
def X64_1t5:=hL R64_1t5 [1,3,4,5,6,7,8,9,10] [2]
def s_f64:ACFun:={ ntmps:=11,results:=[.tmp 2],body:=
 (.seq (.region R64_0 [] K64_0)
 (.seq (.region R64_1 [] [1,3,4,5,6,7,8,9,10])
 .ret)) }
theorem s_f64_first:firstOk (List.range' 1 (s_f64.ntmps - 1)) s_f64.body=true:=by kernel_rfl
abbrev k_f65:Nat:=65
def K65_0:List Nat:=[0] ++ List.range' 2 9
def A65_0_0:=hQ K65_0 0
def A65_0_1:=hK K65_0 1
def A65_0_2:=hQ K65_0 2
def R65_0t1:LO:=[⟨some 2,.move (.c (.s (.string ⟨#[]⟩))),none⟩]
def R65_0:LO:=⟨some 1,.box (.t 0),none⟩ :: R65_0t1
def X65_0:=hP R65_0 R65_0t1 [0,2,3,4,5,6,7,8,9,10] K65_0 ⟨some 1,.box (.t 0),none⟩
def T65_0t1:=hT R65_0t1 K65_0 [] 3 [] [] [.cc (.s (.string ⟨#[]⟩))]
def X65_0t1:=hL R65_0t1 K65_0 []
def R65_1t5:LO:=[oM 2 10]
def R65_1t4:LO:=⟨some 10,.call (.c (.fn 21 [] [])) [.t 9],none⟩ :: R65_1t5
def R65_1t3:LO:=⟨some 9,.buildSl 1 2 [.s (.string ⟨#[]⟩),.s (.string ⟨#[]⟩)] [(0,.c (.s (.string ⟨#[105,99,97,108,108]⟩))),(1,.t 8)],none⟩ :: R65_1t4
def R65_1p2:LO:=[⟨some 8,.bin .add (.t 4) (.t 7),none⟩]
def R65_1t2:LO:=R65_1p2 ++ R65_1t3
def R65_1t1:LO:=⟨some 7,.callR (.c (.fn 22 [] [])) [.t 6],none⟩ :: R65_1t2
def R65_1p0:LO:=[oF 3 2 1,oL 4 3,oF 5 6 1,oL 6 5]
def R65_1:LO:=R65_1p0 ++ R65_1t1
def T65_1p0:=hT R65_1p0 [1,3,5] [4,6] 7 [] [(4,.op (.load false 1 (.t 0)) [.op (.fieldAddr 2 (.t 0)) [.t 1]]),(6,.op (.load false 1 (.t 0)) [.op (.fieldAddr 6 (.t 0)) [.t 1]])] [sb [0],sb [],.sub 1 [0] [],.sub 1 [] []]
def X65_1:=hS R65_1 R65_1p0 R65_1t1 [1,3,5] [4,6] [1,3,4,5,6,7,8,9,10]
def X65_1t1:=hP R65_1t1 R65_1t2 [6] [1,3,4,5,6,7,8,9,10] ⟨some 7,.callR (.c (.fn 22 [] [])) [.t 6],none⟩
def T65_1p2:=hT R65_1p2 [4,7] [8] 9 [] [(8,.op (.bin .add (.t 0) (.t 1)) [.t 4,.t 7])] [sb []]
def X65_1t2:=hS R65_1t2 R65_1p2 R65_1t3 [4,7] [8] [1,3,4,5,6,7,8,9,10]
def X65_1t3:=hP R65_1t3 R65_1t4 [8] [1,3,4,5,6,7,8,9,10] ⟨some 9,.buildSl 1 2 [.s (.string ⟨#[]⟩),.s (.string ⟨#[]⟩)] [(0,.c (.s (.string ⟨#[105,99,97,108,108]⟩))),(1,.t 8)],none⟩
def X65_1t4:=hP R65_1t4 R65_1t5 [9] [1,3,4,5,6,7,8,9,10] ⟨some 10,.call (.c (.fn 21 [] [])) [.t 9],none⟩
def T65_1t5:=hT R65_1t5 [1,3,4,5,6,7,8,9,10] [2] 3 [] [(2,.t 10)] [.tt 10]
def X65_1t5:=hL R65_1t5 [1,3,4,5,6,7,8,9,10] [2]
def s_f65:ACFun:={ ntmps:=11,results:=[.tmp 2],body:=
 (.seq (.region R65_0 [] K65_0)
 (.seq (.region R65_1 [] [1,3,4,5,6,7,8,9,10])
 .ret)) }
theorem s_f65_first:firstOk (List.range' 1 (s_f65.ntmps - 1)) s_f65.body=true:=by kernel_rfl
abbrev k_f66:Nat:=66
def K66_0:List Nat:=[0] ++ List.range' 2 11
def A66_0_0:=hQ K66_0 0
def A66_0_1:=hK K66_0 1
def A66_0_2:=hQ K66_0 2
def R66_0t1:LO:=[⟨some 2,.move (.c (.s (.string ⟨#[]⟩))),none⟩]
def R66_0:LO:=⟨some 1,.box (.t 0),none⟩ :: R66_0t1
def X66_0:=hP R66_0 R66_0t1 [0,2,3,4,5,6,7,8,9,10,11,12] K66_0 ⟨some 1,.box (.t 0),none⟩
def T66_0t1:=hT R66_0t1 K66_0 [] 3 [] [] [.cc (.s (.string ⟨#[]⟩))]
def X66_0t1:=hL R66_0t1 K66_0 []
def R66_1t3:LO:=[oM 2 12]
def R66_1t2:LO:=⟨some 12,.call (.c (.fn 21 [] [])) [.t 11],none⟩ :: R66_1t3
def R66_1t1:LO:=⟨some 11,.buildSl 1 3 [.s (.string ⟨#[]⟩),.s (.string ⟨#[]⟩),.s (.string ⟨#[]⟩)] [(0,.c (.s (.string ⟨#[98,114]⟩))),(1,.t 6),(2,.t 10)],none⟩ :: R66_1t2
def R66_1p0:LO:=[oF 3 7 1,oL 4 3,⟨some 5,.indexAddr 1 (.t 4) (.c (.s (.int .i64 0))),none⟩,oL 6 5,oF 7 7 1,oL 8 7,⟨some 9,.indexAddr 1 (.t 8) (.c (.s (.int .i64 1))),none⟩,oL 10 9]
def R66_1:LO:=R66_1p0 ++ R66_1t1
def T66_1p0:=hT R66_1p0 [1,3,4,5,7,8,9] [6,10] 11 [] [(6,.op (.load false 1 (.t 0)) [.op (.indexAddr 1 (.t 0) (.c (.s (.int .i64 0)))) [.op (.load false 1 (.t 0)) [.op (.fieldAddr 7 (.t 0)) [.t 1]],.c (.s (.int .i64 0))]]),(10,.op (.load false 1 (.t 0)) [.op (.indexAddr 1 (.t 0) (.c (.s (.int .i64 1)))) [.op (.load false 1 (.t 0)) [.op (.fieldAddr 7 (.t 0)) [.t 1]],.c (.s (.int .i64 1))]])] [sb [0,0,0],sb [0,0],sb [0],sb [],sb [0,0,0],sb [0,0],.sub 1 [0] [],.sub 1 [] []]
def X66_1:=hS R66_1 R66_1p0 R66_1t1 [1,3,4,5,7,8,9] [6,10] [1,3,4,5,6,7,8,9,10,11,12]
def X66_1t1:=hP R66_1t1 R66_1t2 [6,10] [1,3,4,5,6,7,8,9,10,11,12] ⟨some 11,.buildSl 1 3 [.s (.string ⟨#[]⟩),.s (.string ⟨#[]⟩),.s (.string ⟨#[]⟩)] [(0,.c (.s (.string ⟨#[98,114]⟩))),(1,.t 6),(2,.t 10)],none⟩
def X66_1t2:=hP R66_1t2 R66_1t3 [11] [1,3,4,5,6,7,8,9,10,11,12] ⟨some 12,.call (.c (.fn 21 [] [])) [.t 11],none⟩
def T66_1t3:=hT R66_1t3 [1,3,4,5,6,7,8,9,10,11,12] [2] 3 [] [(2,.t 12)] [.tt 12]
def X66_1t3:=hL R66_1t3 [1,3,4,5,6,7,8,9,10,11,12] [2]
def s_f66:ACFun:={ ntmps:=13,results:=[.tmp 2],body:=
 (.seq (.region R66_0 [] K66_0)
 (.seq (.region R66_1 [] [1,3,4,5,6,7,8,9,10,11,12])
 .ret)) }
theorem s_f66_first:firstOk (List.range' 1 (s_f66.ntmps - 1)) s_f66.body=true:=by kernel_rfl
abbrev k_f67:Nat:=67
def K67_0:List Nat:=[0,2,3,4,5,6,7,8]
def A67_0_0:=hQ K67_0 0
def A67_0_1:=hK K67_0 1
def A67_0_2:=hQ K67_0 2
def R67_0t1:LO:=[⟨some 2,.move (.c (.s (.string ⟨#[]⟩))),none⟩]
def R67_0:LO:=⟨some 1,.box (.t 0),none⟩ :: R67_0t1
def X67_0:=hP R67_0 R67_0t1 [0,2,3,4,5,6,7,8] K67_0 ⟨some 1,.box (.t 0),none⟩
def T67_0t1:=hT R67_0t1 K67_0 [] 3 [] [] [.cc (.s (.string ⟨#[]⟩))]
def X67_0t1:=hL R67_0t1 K67_0 []
def R67_1t3:LO:=[oM 2 8]
def R67_1t2:LO:=⟨some 8,.call (.c (.fn 21 [] [])) [.t 7],none⟩ :: R67_1t3
def R67_1t1:LO:=⟨some 7,.buildSl 1 2 [.s (.string ⟨#[]⟩),.s (.string ⟨#[]⟩)] [(0,.c (.s (.string ⟨#[103,111,116,111]⟩))),(1,.t 6)],none⟩ :: R67_1t2
def R67_1p0:LO:=[oF 3 7 1,oL 4 3,⟨some 5,.indexAddr 1 (.t 4) (.c (.s (.int .i64 0))),none⟩,oL 6 5]
def R67_1:LO:=R67_1p0 ++ R67_1t1
def T67_1p0:=hT R67_1p0 [1,3,4,5] [6] 7 [] [(6,.op (.load false 1 (.t 0)) [.op (.indexAddr 1 (.t 0) (.c (.s (.int .i64 0)))) [.op (.load false 1 (.t 0)) [.op (.fieldAddr 7 (.t 0)) [.t 1]],.c (.s (.int .i64 0))]])] [sb [0,0,0],sb [0,0],sb [0],sb []]
def X67_1:=hS R67_1 R67_1p0 R67_1t1 [1,3,4,5] [6] [1,3,4,5,6,7,8]
def X67_1t1:=hP R67_1t1 R67_1t2 [6] [1,3,4,5,6,7,8] ⟨some 7,.buildSl 1 2 [.s (.string ⟨#[]⟩),.s (.string ⟨#[]⟩)] [(0,.c (.s (.string ⟨#[103,111,116,111]⟩))),(1,.t 6)],none⟩
def X67_1t2:=hP R67_1t2 R67_1t3 [7] [1,3,4,5,6,7,8] ⟨some 8,.call (.c (.fn 21 [] [])) [.t 7],none⟩
def T67_1t3:=hT R67_1t3 [1,3,4,5,6,7,8] [2] 3 [] [(2,.t 8)] [.tt 8]
def X67_1t3:=hL R67_1t3 [1,3,4,5,6,7,8] [2]
def s_f67:ACFun:={ ntmps:=9,results:=[.tmp 2],body:=
 (.seq (.region R67_0 [] K67_0)
 (.seq (.region R67_1 [] [1,3,4,5,6,7,8])
 .ret)) }
theorem s_f67_first:firstOk (List.range' 1 (s_f67.ntmps - 1)) s_f67.body=true:=by kernel_rfl
abbrev k_f68:Nat:=68
def K68_0:List Nat:=[0,2,3,4,5,6,7]
def A68_0_0:=hQ K68_0 0
def A68_0_1:=hK K68_0 1
def A68_0_2:=hQ K68_0 2
def R68_0t1:LO:=[⟨some 2,.move (.c (.s (.string ⟨#[]⟩))),none⟩]
def R68_0:LO:=⟨some 1,.box (.t 0),none⟩ :: R68_0t1
def X68_0:=hP R68_0 R68_0t1 [0,2,3,4,5,6,7] K68_0 ⟨some 1,.box (.t 0),none⟩
def T68_0t1:=hT R68_0t1 K68_0 [] 3 [] [] [.cc (.s (.string ⟨#[]⟩))]
def X68_0t1:=hL R68_0t1 K68_0 []
def R68_1t4:LO:=[oM 2 7]
def R68_1t3:LO:=⟨some 7,.call (.c (.fn 69 [] [])) [.t 6,.c (.s (.string ⟨#[32]⟩))],none⟩ :: R68_1t4
def R68_1t2:LO:=⟨some 6,.call (.c (.fn 21 [] [])) [.t 5],none⟩ :: R68_1t3
def R68_1t1:LO:=⟨some 5,.buildSl 1 2 [.s (.string ⟨#[]⟩),.s (.string ⟨#[]⟩)] [(0,.c (.s (.string ⟨#[114,101,116]⟩))),(1,.t 4)],none⟩ :: R68_1t2
def R68_1p0:LO:=[oF 3 2 1,oL 4 3]
def R68_1:LO:=R68_1p0 ++ R68_1t1
def T68_1p0:=hT R68_1p0 [1,3] [4] 5 [] [(4,.op (.load false 1 (.t 0)) [.op (.fieldAddr 2 (.t 0)) [.t 1]])] [sb [0],sb []]
def X68_1:=hS R68_1 R68_1p0 R68_1t1 [1,3] [4] [1,3,4,5,6,7]
def X68_1t1:=hP R68_1t1 R68_1t2 [4] [1,3,4,5,6,7] ⟨some 5,.buildSl 1 2 [.s (.string ⟨#[]⟩),.s (.string ⟨#[]⟩)] [(0,.c (.s (.string ⟨#[114,101,116]⟩))),(1,.t 4)],none⟩
def X68_1t2:=hP R68_1t2 R68_1t3 [5] [1,3,4,5,6,7] ⟨some 6,.call (.c (.fn 21 [] [])) [.t 5],none⟩
def X68_1t3:=hP R68_1t3 R68_1t4 [6] [1,3,4,5,6,7] ⟨some 7,.call (.c (.fn 69 [] [])) [.t 6,.c (.s (.string ⟨#[32]⟩))],none⟩
def T68_1t4:=hT R68_1t4 [1,3,4,5,6,7] [2] 3 [] [(2,.t 7)] [.tt 7]
def X68_1t4:=hL R68_1t4 [1,3,4,5,6,7] [2]
def s_f68:ACFun:={ ntmps:=8,results:=[.tmp 2],body:=
 (.seq (.region R68_0 [] K68_0)
 (.seq (.region R68_1 [] [1,3,4,5,6,7])
 .ret)) }
theorem s_f68_first:firstOk (List.range' 1 (s_f68.ntmps - 1)) s_f68.body=true:=by kernel_rfl
abbrev k_f20:Nat:=20
abbrev k_f24:Nat:=24
abbrev k_f53:Nat:=53
abbrev k_f69:Nat:=69
abbrev k_strings_Builder_copyCheck:Nat:=70
def a_f10:=ai A10_0p0_0 (ai A10_0p0_1 (ai A10_0p0_2 (ai A10_0p0_3 (ai X10_0 (ai T10_0t1 (ai X10_0t1 (ai A10_0_0 (ai A10_0_1 (ai A10_0_2 (ai A10_0_3 (ai X10_1 (ai T10_1t1 (ai X10_1t1 (ai T10_2 (ai T10_3 (ai T10_4p0 (ai X10_4 (ai X10_4t1 (ai T10_4p2 (ai X10_4t2 (ai X10_4t3 (ai X10_4t4 (ai T10_4t5 (ai X10_4t5 (ai T10_5 (ai T10_6 (ai T10_7 (ai s_f10_l0_ev (ai X10_8 (ai T10_8t1 (ai X10_8t1 (ai X10_9 (ai T10_10 (ai T10_11 (ai T10_12 (ai T10_13p0 (ai X10_13 (ai X10_13t1 (ai X10_13t2 (ai T10_14p0 (ai X10_14 (ai X10_14t1 (ai T10_14p2 (ai X10_14t2 (ai X10_14t3 (ai X10_14t4 (ai X10_14t5 (ai X10_14t6 (ai T10_15 (ai T10_16 (ai T10_17p0 (ai X10_17 (ai X10_17t1 (ai X10_17t2 (ai T10_18p0 (ai X10_18 (ai X10_18t1 (ai X10_18t2 (ai T10_19 (ai T10_20 (ai T10_21p0 (ai X10_21 (ai X10_21t1 (ai X10_21t2 (ai T10_22p0 (ai X10_22 (ai X10_22t1 (ai T10_22t2 (ai X10_22t2 (ai T10_23 (ai T10_24p0 (ai X10_24 (ai X10_24t1 (ai X10_24t2 (ai T10_24t3 (ai X10_24t3 (ai T10_25p0 (ai X10_25 (ai X10_25t1 (ai X10_25t2 (ai T10_26 (ai s_f10_l1_ev (ai T10_27 (ai s_f10_l2_ev (ai T10_28p0 (ai X10_28 (ai X10_28t1 (ai X10_28t2 (ai T10_29 (ai s_f10_l3_ev (ai X10_30 (ai T10_30t1 (ai X10_30t1 (ai T10_31 (ai X10_32 (ai T10_32t1 (X10_32t1)))))))))))))))))))))))))))))))))))))))))))))))))))))))))))))))))))))))))))))))))))))))))))))))))
def a_f17:=ai T17_0 (ai s_f17_r0_kT (ai X17_1 (ai X17_1t1 (ai X17_2 (ai T17_2p1 (ai X17_2t1 (ai X17_2t2 (ai T17_2p3 (ai X17_2t3 (ai X17_2t4 (ai X17_2t5 (ai X17_2t6 (ai X17_2t7 (ai X17_2t8 (ai T17_2p9 (ai X17_2t9 (ai X17_2t10 (ai X17_2t11 (ai X17_2t12 (ai X17_2t13 (ai X17_2t14 (ai X17_2t15 (ai X17_2t16 (ai X17_2t17 (ai T17_2t18 (X17_2t18))))))))))))))))))))))))))
def a_f18:=ai T18_0p0 (ai X18_0 (ai X18_0t1 (ai T18_0p2 (ai X18_0t2 (ai X18_0t3 (ai A18_0_0 (ai A18_0_1 (ai A18_0_3 (ai A18_0_4 (ai A18_0_5 (A18_0_6)))))))))))
def a_f19:=ai T19_0 (ai s_f19_r0_kT (ai s_f19_r0_kA0 (ai s_f19_r0_kA1 (ai T19_1p0 (ai X19_1 (ai X19_1t1 (ai T19_2p0 (ai X19_2 (ai X19_2t1 (ai T19_2p2 (ai X19_2t2 (ai X19_2t3 (T19_3)))))))))))))
def a_f21:=ai T21_0 (ai s_f21_r0_kT (ai s_f21_r0_kA0 (ai T21_1p0 (ai X21_1 (ai X21_1t1 (ai T21_1t2 (X21_1t2)))))))
def a_f22:=ai T22_0 (ai s_f22_r0_kT (ai s_f22_r0_kA0 (ai T22_1p0 (ai X22_1 (ai X22_1t1 (ai T22_1t2 (X22_1t2)))))))
def a_f23:=ai T23_0 (ai s_f23_r0_kT (ai s_f23_r0_kA0 (T23_1)))
def a_f52:=ai X52_0 (ai T52_0t1 (ai X52_0t1 (ai A52_0_0 (ai A52_0_1 (ai A52_0_2 (ai T52_1p0 (ai X52_1 (ai X52_1t1 (ai T52_1t2 (X52_1t2))))))))))
def a_f54:=ai X54_0 (ai T54_0t1 (ai X54_0t1 (ai A54_0_0 (ai A54_0_1 (ai A54_0_2 (ai A54_0_3 (ai T54_1p0 (ai X54_1 (ai X54_1t1 (ai X54_1t2 (ai X54_1t3 (ai T54_1t4 (X54_1t4)))))))))))))
def a_f55:=ai X55_0 (ai T55_0t1 (ai X55_0t1 (ai A55_0_0 (ai A55_0_1 (ai A55_0_2 (ai A55_0_3 (ai T55_1p0 (ai X55_1 (ai X55_1t1 (ai X55_1t2 (ai X55_1t3 (ai T55_1t4 (X55_1t4)))))))))))))
def a_f56:=ai X56_0 (ai T56_0t1 (ai X56_0t1 (ai A56_0_0 (ai A56_0_1 (ai A56_0_2 (T56_1))))))
def a_f57:=ai X57_0 (ai T57_0t1 (ai X57_0t1 (ai A57_0_0 (ai A57_0_1 (ai A57_0_2 (ai T57_1p0 (ai X57_1 (ai X57_1t1 (ai X57_1t2 (ai T57_1t3 (X57_1t3)))))))))))
def a_f58:=ai X58_0 (ai T58_0t1 (ai X58_0t1 (ai A58_0_0 (ai A58_0_1 (ai A58_0_2 (ai T58_1p0 (ai X58_1 (ai X58_1t1 (ai X58_1t2 (ai T58_1t3 (X58_1t3)))))))))))
def a_f59:=ai X59_0 (ai T59_0t1 (ai X59_0t1 (ai A59_0_0 (ai A59_0_1 (ai A59_0_2 (ai T59_1p0 (ai X59_1 (ai X59_1t1 (ai X59_1t2 (ai X59_1t3 (ai T59_1t4 (X59_1t4))))))))))))
def a_f60:=ai X60_0 (ai T60_0t1 (ai X60_0t1 (ai A60_0_0 (ai A60_0_1 (ai A60_0_2 (ai T60_1 (ai T60_2 (ai T60_3 (ai T60_4 (ai T60_5p0 (ai X60_5 (ai X60_5t1 (ai X60_5t2 (ai T60_5t3 (ai X60_5t3 (ai T60_6 (ai s_f60_l0_ev (ai T60_7p0 (ai X60_7 (ai X60_7t1 (ai T60_7t2 (X60_7t2))))))))))))))))))))))
def a_f61:=ai X61_0 (ai T61_0t1 (ai X61_0t1 (ai A61_0_0 (ai A61_0_1 (ai A61_0_2 (ai A61_0_3 (ai T61_1p0 (ai X61_1 (ai X61_1t1 (ai X61_1t2 (ai X61_1t3 (ai T61_1t4 (X61_1t4)))))))))))))
def a_f62:=ai X62_0 (ai T62_0t1 (ai X62_0t1 (ai A62_0_0 (ai A62_0_1 (ai A62_0_2 (ai T62_1p0 (ai X62_1 (ai X62_1t1 (ai X62_1t2 (ai T62_1t3 (X62_1t3)))))))))))
def a_f63:=ai X63_0 (ai T63_0t1 (ai X63_0t1 (ai A63_0_0 (ai A63_0_1 (ai A63_0_2 (ai T63_1p0 (ai X63_1 (ai X63_1t1 (ai X63_1t2 (ai T63_1t3 (X63_1t3)))))))))))
def a_f64:=ai X64_0 (ai T64_0t1 (ai X64_0t1 (ai A64_0_0 (ai A64_0_1 (ai A64_0_2 (ai T64_1p0 (ai X64_1 (ai X64_1t1 (ai T64_1p2 (ai X64_1t2 (ai X64_1t3 (ai X64_1t4 (ai T64_1t5 (X64_1t5))))))))))))))
def a_f65:=ai X65_0 (ai T65_0t1 (ai X65_0t1 (ai A65_0_0 (ai A65_0_1 (ai A65_0_2 (ai T65_1p0 (ai X65_1 (ai X65_1t1 (ai T65_1p2 (ai X65_1t2 (ai X65_1t3 (ai X65_1t4 (ai T65_1t5 (X65_1t5))))))))))))))
def a_f66:=ai X66_0 (ai T66_0t1 (ai X66_0t1 (ai A66_0_0 (ai A66_0_1 (ai A66_0_2 (ai T66_1p0 (ai X66_1 (ai X66_1t1 (ai X66_1t2 (ai T66_1t3 (X66_1t3)))))))))))
def a_f67:=ai X67_0 (ai T67_0t1 (ai X67_0t1 (ai A67_0_0 (ai A67_0_1 (ai A67_0_2 (ai T67_1p0 (ai X67_1 (ai X67_1t1 (ai X67_1t2 (ai T67_1t3 (X67_1t3)))))))))))
def a_f68:=ai X68_0 (ai T68_0t1 (ai X68_0t1 (ai A68_0_0 (ai A68_0_1 (ai A68_0_2 (ai T68_1p0 (ai X68_1 (ai X68_1t1 (ai X68_1t2 (ai X68_1t3 (ai T68_1t4 (X68_1t4))))))))))))
theorem SA3_10:compK Tryz.prog PX0 10=some (false,s_f10.ntmps,s_f10.results,s_f10.body.bare):=by kernel_rfl
theorem SA3_17:compK Tryz.prog PX0 17=some (false,s_f17.ntmps,s_f17.results,s_f17.body.bare):=by kernel_rfl
theorem SA3_18:compK Tryz.prog PX0 18=some (false,s_f18.ntmps,s_f18.results,s_f18.body.bare):=by kernel_rfl
theorem SA3_19:compK Tryz.prog PX0 19=some (false,s_f19.ntmps,s_f19.results,s_f19.body.bare):=by kernel_rfl
theorem SA3_21:compK Tryz.prog PX0 21=some (false,s_f21.ntmps,s_f21.results,s_f21.body.bare):=by kernel_rfl
theorem SA3_22:compK Tryz.prog PX0 22=some (false,s_f22.ntmps,s_f22.results,s_f22.body.bare):=by kernel_rfl
theorem SA3_23:compK Tryz.prog PX0 23=some (false,s_f23.ntmps,s_f23.results,s_f23.body.bare):=by kernel_rfl
theorem SA3_52:compK Tryz.prog PX0 52=some (false,s_f52.ntmps,s_f52.results,s_f52.body.bare):=by kernel_rfl
theorem SA3_54:compK Tryz.prog PX0 54=some (false,s_f54.ntmps,s_f54.results,s_f54.body.bare):=by kernel_rfl
theorem SA3_55:compK Tryz.prog PX0 55=some (false,s_f55.ntmps,s_f55.results,s_f55.body.bare):=by kernel_rfl
theorem SA3_56:compK Tryz.prog PX0 56=some (false,s_f56.ntmps,s_f56.results,s_f56.body.bare):=by kernel_rfl
theorem SA3_57:compK Tryz.prog PX0 57=some (false,s_f57.ntmps,s_f57.results,s_f57.body.bare):=by kernel_rfl
theorem SA3_58:compK Tryz.prog PX0 58=some (false,s_f58.ntmps,s_f58.results,s_f58.body.bare):=by kernel_rfl
theorem SA3_59:compK Tryz.prog PX0 59=some (false,s_f59.ntmps,s_f59.results,s_f59.body.bare):=by kernel_rfl
theorem SA3_60:compK Tryz.prog PX0 60=some (false,s_f60.ntmps,s_f60.results,s_f60.body.bare):=by kernel_rfl
theorem SA3_61:compK Tryz.prog PX0 61=some (false,s_f61.ntmps,s_f61.results,s_f61.body.bare):=by kernel_rfl
theorem SA3_62:compK Tryz.prog PX0 62=some (false,s_f62.ntmps,s_f62.results,s_f62.body.bare):=by kernel_rfl
theorem SA3_63:compK Tryz.prog PX0 63=some (false,s_f63.ntmps,s_f63.results,s_f63.body.bare):=by kernel_rfl
theorem SA3_64:compK Tryz.prog PX0 64=some (false,s_f64.ntmps,s_f64.results,s_f64.body.bare):=by kernel_rfl
theorem SA3_65:compK Tryz.prog PX0 65=some (false,s_f65.ntmps,s_f65.results,s_f65.body.bare):=by kernel_rfl
theorem SA3_66:compK Tryz.prog PX0 66=some (false,s_f66.ntmps,s_f66.results,s_f66.body.bare):=by kernel_rfl
theorem SA3_67:compK Tryz.prog PX0 67=some (false,s_f67.ntmps,s_f67.results,s_f67.body.bare):=by kernel_rfl
theorem SA3_68:compK Tryz.prog PX0 68=some (false,s_f68.ntmps,s_f68.results,s_f68.body.bare):=by kernel_rfl
end Go.Proofs.YtngfpadeebpoeaaGreatDoor
set_option maxRecDepth 100000
namespace Go.Proofs.YtngfpadeebpoeaaGreatDoor
open Go.AM
def bSp:ByteArray:=⟨#[32]⟩
def bCm:ByteArray:=⟨#[44,32]⟩
def wordsT (xs:List ByteArray):ByteArray:=joinB xs bSp
def argsT (xs:List ByteArray):ByteArray:=(⟨#[40]⟩ ++ joinB xs bCm) ++ ⟨#[41]⟩
def JoinOk (xs:List ByteArray) (sep:ByteArray):Prop:=xs.length≤140737488355328∧(Lib.join (xs.map (·.data.toList)) sep.data.toList).length≤140737488355328
theorem joinB_size {xs:List ByteArray} {sep:ByteArray} (h:JoinOk xs sep):(joinB xs sep).size≤140737488355328:=h.2
theorem catOk {a b:ByteArray} (h:a.size+b.size≤4611686018427387904):(((a.size+b.size:Nat):Int) > IntKind.i64.max)=False:=by
 have e:IntKind.i64.max=9223372036854775807:=rfl
 rw [e]
 exact eq_false (by omega)
theorem size_cat (a b:ByteArray):(a ++ b).size=a.size+b.size:=ByteArray.size_append
theorem strs_flat:∀ {es:List (List V)} {xs:List ByteArray},es.flatten=xs.map Sb→(∀ e∈es,e.length=1)→strsOf1 es=some xs:=by
 intro es
 induction es with
 | nil=>intro xs h _;cases xs with | nil=>rfl | cons x xs=>cases h
 | cons e es ih=>
   intro xs h hw
   have he:=hw e List.mem_cons_self
   match e,he with
   | [v],_=>
     cases xs with
     | nil=>cases h
     | cons x xs=>
       simp only [List.flatten_cons,List.cons_append,List.nil_append,List.map_cons,List.cons.injEq] at h
       obtain ⟨rfl,h2⟩:=h
       simp only [strsOf1,ih h2 (fun e he=>hw e (List.mem_cons_of_mem _ he)),Option.map_some]
theorem strs_rd {H:Heap} {v:V} {xs:List ByteArray} (h:Rd H v (xs.map Sb)) (hw:Wide1 v):strsV H v=some xs:=by
 rcases h.cases with ⟨h1,rfl | rfl⟩ | ⟨es,rfl,h2,_⟩ | ⟨id,g,off,n,c,rfl,hc,h2,h3⟩
 ·cases xs with | nil=>rfl | cons x xs=>cases h1
 ·cases xs with | nil=>rfl | cons x xs=>cases h1
 ·exact strs_flat h2 hw
 ·simp only [strsV,hc]
  rw [if_pos (by rw [h2,h3]),h2]
  exact strsOf_map xs
theorem strs_new (D:Heap) (xs:List ByteArray):strsV (D ++ [.cells 0 (xs.map Sb)]) (.sl D.length 0 0 xs.length 1)=some xs:=by
 simp only [strsV,getC_new,List.drop_zero]
 rw [List.take_of_length_le (by simp),if_pos (by simp)]
 exact strsOf_map xs
theorem joinTail_le (sep:List UInt8) {M:Nat}:∀ {xs:List (List UInt8)},(∀ x∈xs,x.length≤M)→(Lib.joinTail sep xs).length≤xs.length * (sep.length+M):=by
 intro xs
 induction xs with
 | nil=>intro _;simp [Lib.joinTail]
 | cons x xs ih=>
   intro h
   have h1:=ih fun y hy=>h y (List.mem_cons_of_mem _ hy)
   have h2:=h x List.mem_cons_self
   have e:Lib.joinTail sep (x :: xs)=(sep ++ x) ++ Lib.joinTail sep xs:=rfl
   rw [e,List.length_append,List.length_append,List.length_cons,Nat.succ_mul]
   omega
theorem join_le (sep:List UInt8) {M:Nat} {xs:List (List UInt8)} (h:∀ x∈xs,x.length≤M):(Lib.join xs sep).length≤xs.length * (sep.length+M):=by
 cases xs with
 | nil=>simp [Lib.join_nil]
 | cons x xs=>
   have h1:=joinTail_le sep fun y hy=>h y (List.mem_cons_of_mem _ hy)
   have h2:=h x List.mem_cons_self
   rw [Lib.join_cons,List.length_append,List.length_cons,Nat.succ_mul]
   omega
structure LibT (CT:Nat→Option CFun):Prop where
 join:CT k_f20=some (.prim joinG)
 bst:CT k_f24=some (.prim bstG)
 itoa:CT k_f53=some (.prim itoaG)
 copy:CT k_strings_Builder_copyCheck=some (.prim copyG)
section
variable {CT:Nat→Option CFun}
theorem join_fun (h:LibT CT) (base:Nat) {H:Heap} {v:V} {xs:List ByteArray} (hv:strsV H v=some xs) {sep:ByteArray} (hj:JoinOk xs sep):callW CT (.fn k_f20 [] []) [v,.s (.string sep)] base H=some (.s (.string (joinB xs sep)),H):=by
 refine callW_eq ?_
 simp only [evCall,h.join,joinG,hv,List.nil_append,List.append_nil]
 exact if_pos hj
theorem itoa_fun (h:LibT CT) (base:Nat) {H:Heap} {n:Int} (h0:0≤n) (h1:n < 100):callW CT (.fn k_f53 [] []) [.s (.int .i64 n)] base H=some (.s (.string ⟨(Lib.decDigits n.toNat).toArray⟩),H):=by
 refine callW_eq ?_
 simp only [evCall,h.itoa,itoaG]
 exact if_pos ⟨h0,h1⟩
theorem words_fun (h:LibT CT) (hT:CT k_f21=some (.code s_f21)) (base:Nat) {H:Heap} {v:V} {xs:List ByteArray} (hv:strsV H v=some xs) (hj:JoinOk xs bSp):callW CT (.fn k_f21 [] []) [v] base H=some (.s (.string (wordsT xs)),H):=by
 have h1:=join_fun h base hv hj
 simp only [bSp] at h1
 refine callW_fn (c:=s_f21) hT (by simp [s_f21]) ?_
 simp only [s_f21,a_f21,aa,reduceIte,reduceCtorEq,Nat.reduceEqDiff,Nat.reduceLT,Nat.reduceLeDiff,Nat.reduceBEq,Nat.reduceAdd,Nat.reduceMul,op_appR,h1]
 rfl
theorem args_fun (h:LibT CT) (hT:CT k_f22=some (.code s_f22)) (base:Nat) {H:Heap} {v:V} {xs:List ByteArray} (hv:strsV H v=some xs) (hj:JoinOk xs bCm):callW CT (.fn k_f22 [] []) [v] base H=some (.s (.string (argsT xs)),H):=by
 have h1:=join_fun h base hv hj
 simp only [bCm] at h1
 refine callW_fn (c:=s_f22) hT (by simp [s_f22]) ?_
 have hs:=joinB_size hj
 simp only [bCm] at hs
 have n1:(⟨#[40]⟩:ByteArray).size=1:=rfl
 have n2:(⟨#[41]⟩:ByteArray).size=1:=rfl
 have c1:(⟨#[40]⟩:ByteArray).size+(joinB xs ⟨#[44,32]⟩).size≤4611686018427387904:=by omega
 have c2:((⟨#[40]⟩:ByteArray) ++ joinB xs ⟨#[44,32]⟩).size+(⟨#[41]⟩:ByteArray).size≤4611686018427387904:=by
  rw [size_cat];omega
 simp only [s_f22,a_f22,aa,reduceIte,reduceCtorEq,Nat.reduceEqDiff,Nat.reduceLT,Nat.reduceLeDiff,Nat.reduceBEq,Nat.reduceAdd,Nat.reduceMul,op_appR,h1,catOk c1,catOk c2,if_false]
 rfl
end
end Go.Proofs.YtngfpadeebpoeaaGreatDoor
set_option maxRecDepth 100000
namespace Go.Proofs.YtngfpadeebpoeaaGreatDoor
open Go.AM
def Bld (m:Nat) (H:Heap) (b:Nat) (txt:List UInt8):Prop:=m≤b∧((txt=[]∧getC H b 0=some [.unk,.s (.slice none 0 0)])∨∃ id g,getC H b 0=some [.ref b 0 0,.sl id g 0 txt.length 1]∧H[id]?=some (.bytes g txt)∧m≤id∧txt≠[])
def Wr (m b:Nat) (H H':Heap):Prop:=H.length≤H'.length∧(∀ i,i < m→H'[i]?=H[i]?)∧∀ i,i≠b→i < H.length→(∀ g l,H[i]?≠some (.bytes g l))→H'[i]?=H[i]?
theorem appendV_nilB {H:Heap} {base:Nat} {s:ByteArray} (hs:s.size≠0) (hl:s.size≤2 ^ 47):appendV H base 1 1 (.s (.slice none 0 0)) (.s (.string s))=some (.sl H.length 0 0 s.size 1,H ++ [.bytes 0 s.data.toList]):=by
 simp only [appendV,elems,appendB,and_self,if_true,hs,if_false,hl]
theorem appendV_slB {H:Heap} {base id g:Nat} {l:List UInt8} {s:ByteArray} (hH:H[id]?=some (.bytes g l)) (hb:base≤id) (hs:s.size≠0) (hl:l.length+s.size≤2 ^ 47):
 appendV H base 1 1 (.sl id g 0 l.length 1) (.s (.string s))=some (.sl id (g+1) 0 (l.length+s.size) 1,H.set id (.bytes (g+1) (l ++ s.data.toList))):=by
 simp only [appendV,elems,appendB,and_self,if_true,hs,if_false,hl,hb,hH]
section
variable {CT:Nat→Option CFun}
theorem copy1 (h:LibT CT) {base:Nat} {H:Heap} {b:Nat} {v:V} (hg:getC H b 0=some [.unk,v]) (hb:base≤b):callW CT (.fn k_strings_Builder_copyCheck [] []) [.ref b 0 0] base H=some (und,H.set b (.cells 0 [.ref b 0 0,v])):=by
 refine callW_eq ?_
 simp only [evCall,h.copy,copyG,List.nil_append,List.append_nil,hg]
 exact if_pos hb
theorem copy2 (h:LibT CT) {base:Nat} {H:Heap} {b:Nat} {v:V} (hg:getC H b 0=some [.ref b 0 0,v]):callW CT (.fn k_strings_Builder_copyCheck [] []) [.ref b 0 0] base H=some (und,H):=by
 refine callW_eq ?_
 simp only [evCall,h.copy,copyG,List.nil_append,List.append_nil,hg,if_true]
theorem write_fun (h:LibT CT) (hT:CT k_f19=some (.code s_f19)) {base m:Nat} (hb:base≤m) {H:Heap} {b:Nat} {txt:List UInt8} (hB:Bld m H b txt) {s:ByteArray} (hs:s.size≠0) (hl:txt.length+s.size≤2 ^ 47):
 ∃ H',callW CT (.fn k_f19 [] []) [.ref b 0 0,.s (.string s)] base H=some (.tup [Iz s.size,.s .nilIface],H')∧Bld m H' b (txt ++ s.data.toList)∧Wr m b H H':=by
 have hsn:∀ l:List UInt8,l ++ s.data.toList≠[]:=fun l e=>hs (by
  have:=congrArg List.length e
  rw [List.length_append] at this
  have h2:s.data.toList.length=s.size:=rfl
  simp only [List.length_nil] at this
  omega)
 obtain ⟨hmb,⟨rfl,hg⟩ | ⟨id,g,hg,hH,hid,_⟩⟩:=hB
 ·have hlt:=getC_lt hg
  have hc:=copy1 h (base:=base) hg (by omega)
  obtain ⟨H1,hH1⟩:∃ H1,H.set b (.cells 0 [.ref b 0 0,.s (.slice none 0 0)])=H1:=⟨_,rfl⟩
  have l1:H1.length=H.length:=by rw [← hH1,List.length_set]
  rw [hH1] at hc
  have g1:getC H1 b 0=some [.ref b 0 0,.s (.slice none 0 0)]:=hH1 ▸ getC_set hg _
  have ha:=appendV_nilB (H:=H1) (base:=base) hs (by simpa using hl)
  have g2:=getC_app g1 (G:=[Ob.bytes 0 s.data.toList])
  refine ⟨(H1 ++ [Ob.bytes 0 s.data.toList]).set b (.cells 0 [.ref b 0 0,.sl H1.length 0 0 s.size 1]),callW_fn (c:=s_f19) hT (by simp [s_f19]) ?_,?_,?_⟩
  ·simp only [s_f19,a_f19,aa,reduceIte,reduceCtorEq,Nat.reduceEqDiff,Nat.reduceLT,Nat.reduceLeDiff,Nat.reduceBEq,Nat.reduceAdd,Nat.reduceMul,op_appR,hc,g1,ha,g2,show base≤b by omega]
  ·refine ⟨hmb,.inr ⟨H1.length,0,?_,?_,by omega,hsn _⟩⟩
   ·have:=getC_set (c':=[V.ref b 0 0,.sl H1.length 0 0 s.size 1]) g2 0
    simpa using this
   ·rw [List.getElem?_set_ne (by omega)]
    simp
  ·refine ⟨by simp [l1],fun i hi=>?_,fun i hi hil _=>?_⟩
   ·rw [List.getElem?_set_ne (by omega),List.getElem?_append_left (by omega),← hH1,List.getElem?_set_ne (by omega)]
   ·rw [List.getElem?_set_ne (Ne.symm hi),List.getElem?_append_left (by omega),← hH1,List.getElem?_set_ne (Ne.symm hi)]
 ·have hlt:=getC_lt hg
  have hli:=(List.getElem?_eq_some_iff.1 hH).1
  have hc:=copy2 h (base:=base) hg
  have hne:id≠b:=by
   intro e
   subst e
   unfold getC at hg
   rw [hH] at hg
   cases hg
  have ha:=appendV_slB (base:=base) hH (by omega) hs hl
  have g2:getC (H.set id (.bytes (g+1) (txt ++ s.data.toList))) b 0=some [.ref b 0 0,.sl id g 0 txt.length 1]:=by
   unfold getC at hg ⊢
   rw [List.getElem?_set_ne hne]
   exact hg
  refine ⟨(H.set id (.bytes (g+1) (txt ++ s.data.toList))).set b (.cells 0 [.ref b 0 0,.sl id (g+1) 0 (txt.length+s.size) 1]),callW_fn (c:=s_f19) hT (by simp [s_f19]) ?_,?_,?_⟩
  ·simp only [s_f19,a_f19,aa,reduceIte,reduceCtorEq,Nat.reduceEqDiff,Nat.reduceLT,Nat.reduceLeDiff,Nat.reduceBEq,Nat.reduceAdd,Nat.reduceMul,op_appR,hc,hg,ha,g2,show base≤b by omega]
  ·refine ⟨hmb,.inr ⟨id,g+1,?_,?_,hid,hsn _⟩⟩
   ·have:=getC_set (c':=[V.ref b 0 0,.sl id (g+1) 0 (txt.length+s.size) 1]) g2 0
    simpa using this
   ·rw [List.getElem?_set_ne (Ne.symm hne),List.getElem?_set_self hli]
  ·refine ⟨by simp,fun i hi=>?_,fun i hi hil hnb=>?_⟩
   ·rw [List.getElem?_set_ne (by omega),List.getElem?_set_ne (by omega)]
   ·have hni:id≠i:=by intro e;subst e;exact hnb _ _ hH
    rw [List.getElem?_set_ne (Ne.symm hi),List.getElem?_set_ne hni]
def lineT (xs:List ByteArray):ByteArray:=joinB xs ⟨#[]⟩ ++ ⟨#[10]⟩
theorem line_fun (h:LibT CT) (hW:CT k_f19=some (.code s_f19)) (hT:CT k_f18=some (.code s_f18)) {base m:Nat} (hb:base≤m) {H:Heap} {b:Nat} {txt:List UInt8} (hB:Bld m H b txt) {v:V} {xs:List ByteArray} (hv:strsV H v=some xs) (hj:JoinOk xs ⟨#[]⟩) (hl:txt.length+(lineT xs).size≤2 ^ 47):
 ∃ H',callW CT (.fn k_f18 [] [.ref b 0 0]) [v] base H=some (.tup [],H')∧Bld m H' b (txt ++ (lineT xs).data.toList)∧Wr m b H H':=by
 have hjn:=join_fun h base hv hj
 have n1:(⟨#[10]⟩:ByteArray).size=1:=rfl
 have hz:(lineT xs).size=(joinB xs ⟨#[]⟩).size+1:=by unfold lineT;rw [size_cat,n1]
 have hjs:=joinB_size hj
 have c1:(joinB xs ⟨#[]⟩).size+(⟨#[10]⟩:ByteArray).size≤4611686018427387904:=by omega
 obtain ⟨H',hw,h1,h2⟩:=write_fun h hW hb hB (s:=lineT xs) (by omega) hl
 refine ⟨H',callW_fnA (c:=s_f18) (k:=2) hT rfl (by decide) s_f18_first ?_,h1,h2⟩
 simp only [lineT] at hw
 simp only [s_f18,a_f18,aa,reduceIte,reduceCtorEq,Nat.reduceEqDiff,Nat.reduceLT,Nat.reduceLeDiff,Nat.reduceBEq,Nat.reduceAdd,Nat.reduceMul,op_appR,hjn,catOk c1,if_false,hw]
 try rfl
end
end Go.Proofs.YtngfpadeebpoeaaGreatDoor
set_option maxRecDepth 100000
namespace Go.Proofs.YtngfpadeebpoeaaGreatDoor
open Go.AM
def idxP {α:Type} (p:α→Bool) (l:List α):Int:=match l.findIdx? p with | some i=>(i:Int) | none=>-1
theorem idxP_none {α:Type} {p:α→Bool} {l:List α} (d:α) (h:∀ i,i < l.length→p (l.getD i d)=false):idxP p l=-1:=by
 have:l.findIdx? p=none:=by
  rw [List.findIdx?_eq_none_iff]
  intro x hx
  obtain ⟨i,hi⟩:=List.mem_iff_getElem?.1 hx
  have:=h i (List.getElem?_eq_some_iff.1 hi).1
  rwa [getD_some hi] at this
 rw [idxP,this]
theorem idxP_some {α:Type} {p:α→Bool} {l:List α} (d:α) {i:Nat} (hi:i < l.length) (h1:p (l.getD i d)=true) (h2:∀ j,j < i→p (l.getD j d)=false):idxP p l=(i:Int):=by
 have:l.findIdx? p=some i:=by
  rw [List.findIdx?_eq_some_iff_getElem]
  refine ⟨hi,?_,fun j hj=>?_⟩
  ·have:=some_getD hi d
   rw [List.getElem?_eq_getElem hi] at this
   rw [Option.some.inj this];exact h1
  ·have hjl:j < l.length:=by omega
   have:=some_getD hjl d
   rw [List.getElem?_eq_getElem hjl] at this
   rw [Option.some.inj this,h2 j hj];simp
 rw [idxP,this]
theorem idxP_any {α:Type} (p:α→Bool) (l:List α):decide (idxP p l ≥ 0)=l.any p:=by
 unfold idxP
 cases h:l.findIdx? p with
 | none=>
   rw [List.findIdx?_eq_none_iff] at h
   symm
   rw [show decide ((-1:Int) ≥ 0)=false from rfl,List.any_eq_false]
   intro x hx
   rw [h x hx];simp
 | some i=>
   rw [List.findIdx?_eq_some_iff_getElem] at h
   obtain ⟨h1,h2,_⟩:=h
   have e1:l.any p=true:=List.any_eq_true.2 ⟨_,List.getElem_mem h1,h2⟩
   rw [e1]
   simp
section
variable {CT:Nat→Option CFun}
theorem calls_fun (hT:CT k_f100=some (.code s_f100)) (base:Nat) (H:Heap) (o:Int):callW CT (.fn k_f100 [] []) [.s (.int .u8 o)] base H=some (.s (.bool (o == 10 || o == 11)),H):=by
 refine callW_fn (c:=s_f100) hT (by simp [s_f100]) ?_
 simp only [s_f100,a_f100,aa,reduceIte,reduceCtorEq,Nat.reduceEqDiff,Nat.reduceLT,Nat.reduceLeDiff,Nat.reduceBEq,Nat.reduceAdd,Nat.reduceMul,op_appR]
theorem idxS_fun (hT:CT k_f135=some (.code s_f135)) (base:Nat) (A:Heap) {v f:V} {l:List ByteArray} {p:ByteArray→Bool} (hv:Rd A v (l.map Sb)) (hw:Wide1 v) (hp:∀ x,x∈l→∀ D,Ext A D→∃ D',callW CT f [Sb x] base D=some (.s (.bool (p x)),D')∧Ext D D') (hl:l.length < 2 ^ 40):
 ∃ H',callW CT (.fn k_f135 [] []) [v,f] base A=some (Iz (idxP p l),H')∧Ext A H':=by
 have step:∀ i C,i < l.length→Ext A C→∃ C',(p (l.getD i ⟨#[]⟩)=false→itW (evC (callW CT) itW base s_f135_l0) [] A.length (frOf 19 [(0,v),(1,f),(7,Iz l.length),(8,Iz i)]) C=itW (evC (callW CT) itW base s_f135_l0) [] A.length (frOf 19 [(0,v),(1,f),(7,Iz l.length),(8,Iz (i+1:Nat))]) (trim A.length (frOf 19 [(0,v),(1,f),(7,Iz l.length),(8,Iz (i+1:Nat))]) C'))∧(p (l.getD i ⟨#[]⟩)=true→itW (evC (callW CT) itW base s_f135_l0) [] A.length (frOf 19 [(0,v),(1,f),(7,Iz l.length),(8,Iz i)]) C=some (.ret,frOf 19 [(4,Iz i)],trim A.length (frOf 19 [(4,Iz i)]) C'))∧Ext A C':=by
  intro i C hi hE
  have hlt':((i:Int) < (l.length:Int)):=by omega
  have hwk:=w64 (n:=i) (by omega)
  obtain ⟨a,a1,a2⟩:=Sb_at (hv.ext hE) hw hi
  obtain ⟨C',c1,c2⟩:=hp _ (List.mem_of_getElem? (some_getD hi ⟨#[]⟩)) C hE
  simp only [Sb] at c1
  refine ⟨C',fun hp=>?_,fun hp=>?_,hE.trans c2⟩
  ·rw [hp] at c1
   rw [itW_step]
   simp only [Iz,a_f135,s_f135_l0_b,aa,reduceIte,reduceCtorEq,Nat.reduceEqDiff,Nat.reduceLT,Nat.reduceLeDiff,Nat.reduceBEq,Nat.reduceAdd,Nat.reduceMul,op_appR,hlt',a1,a2,c1,hwk]
  ·rw [hp] at c1
   rw [itW_step]
   simp only [Iz,a_f135,s_f135_l0_b,aa,reduceIte,reduceCtorEq,Nat.reduceEqDiff,Nat.reduceLT,Nat.reduceLeDiff,Nat.reduceBEq,Nat.reduceAdd,Nat.reduceMul,op_appR,hlt',a1,a2,c1,hwk]
 have hlen:=Sb_len hv
 rcases it_findR l.length (fun i=>p (l.getD i ⟨#[]⟩)) (fun C=>Ext A C) (fun i C=>itW (evC (callW CT) itW base s_f135_l0) [] A.length (frOf 19 [(0,v),(1,f),(7,Iz l.length),(8,Iz i)]) C) (fun i C hi hp hE=>by obtain ⟨C',q1,_,q3⟩:=step i C hi hE;exact ⟨_,q1 hp,q3.trim (Nat.le_refl _) _⟩) A (Ext.refl A) with ⟨h1,C,h2,h3⟩ | ⟨i,C,hi,h1,h2,h3,h4⟩
 ·refine ⟨trim A.length (frOf 19 [(0,v),(1,f),(7,Iz l.length),(8,Iz l.length),(9,bl false)]) C,callW_fn (c:=s_f135) hT (by simp [s_f135]) ?_,h3.trim (Nat.le_refl _) _⟩
  rw [idxP_none ⟨#[]⟩ h1]
  have hend:itW (evC (callW CT) itW base s_f135_l0) [] A.length (frOf 19 [(0,v),(1,f),(7,Iz l.length),(8,Iz l.length)]) C=some (.ext 0,frOf 19 [(0,v),(1,f),(7,Iz l.length),(8,Iz l.length),(9,bl false)],trim A.length (frOf 19 [(0,v),(1,f),(7,Iz l.length),(8,Iz l.length),(9,bl false)]) C):=by
   rw [itW_step]
   simp only [Iz,bl,a_f135,s_f135_l0_b,aa,reduceIte,reduceCtorEq,Nat.reduceEqDiff,Nat.reduceLT,Nat.reduceLeDiff,Nat.reduceBEq,Nat.reduceAdd,Nat.reduceMul,op_appR,Int.lt_irrefl]
  have h4:=h2.trans hend
  simp only [Iz,bl,cast0] at h4
  simp only [Iz,bl,s_f135,a_f135,s_f135_l0_b,aa,reduceIte,reduceCtorEq,Nat.reduceEqDiff,Nat.reduceLT,Nat.reduceLeDiff,Nat.reduceBEq,Nat.reduceAdd,Nat.reduceMul,op_appR,hlen,h4]
 ·obtain ⟨C',_,q2,q3⟩:=step i C hi h4
  refine ⟨trim A.length (frOf 19 [(4,Iz i)]) C',callW_fn (c:=s_f135) hT (by simp [s_f135]) ?_,q3.trim (Nat.le_refl _) _⟩
  rw [idxP_some ⟨#[]⟩ hi h1 h2]
  have h5:=h3.trans (q2 h1)
  simp only [Iz,bl,cast0] at h5
  simp only [Iz,bl,s_f135,a_f135,s_f135_l0_b,aa,reduceIte,reduceCtorEq,Nat.reduceEqDiff,Nat.reduceLT,Nat.reduceLeDiff,Nat.reduceBEq,Nat.reduceAdd,Nat.reduceMul,op_appR,hlen,h5]
theorem conS_fun (hT:CT k_f93=some (.code s_f93)) (hI:CT k_f135=some (.code s_f135)) (base:Nat) (A:Heap) {v f:V} {l:List ByteArray} {p:ByteArray→Bool} (hv:Rd A v (l.map Sb)) (hw:Wide1 v) (hp:∀ x,x∈l→∀ D,Ext A D→∃ D',callW CT f [Sb x] base D=some (.s (.bool (p x)),D')∧Ext D D') (hl:l.length < 2 ^ 40):
 ∃ H',callW CT (.fn k_f93 [] []) [v,f] base A=some (.s (.bool (l.any p)),H')∧Ext A H':=by
 obtain ⟨H',h1,h2⟩:=idxS_fun hI base A hv hw hp hl
 refine ⟨H',callW_fn (c:=s_f93) hT (by simp [s_f93]) ?_,h2⟩
 rw [← idxP_any]
 simp only [Iz] at h1
 simp only [s_f93,a_f93,aa,reduceIte,reduceCtorEq,Nat.reduceEqDiff,Nat.reduceLT,Nat.reduceLeDiff,Nat.reduceBEq,Nat.reduceAdd,Nat.reduceMul,op_appR,h1]
end
end Go.Proofs.YtngfpadeebpoeaaGreatDoor
set_option maxRecDepth 100000
namespace Go.Proofs.YtngfpadeebpoeaaGreatDoor
open Go.AM
def letter (c:Int):Bool:=decide (c ≥ 97) && decide (c≤122) || decide (c ≥ 65) && decide (c≤90) || c == 95
def badAt (i:Nat) (c:UInt8):Bool:=!letter c.toNat && ((i:Int) == 0 || (decide ((c.toNat:Int) < 48) || decide ((c.toNat:Int) > 57)) && (c.toNat:Int) != 46)
def okFrom:Nat→List UInt8→Bool
 | _,[]=>true
 | i,c :: l=>!badAt i c && okFrom (i+1) l
theorem is_loop (call:CallF) (base:Nat) (b:ByteArray) (hb:b.size≤64) (H:Heap):∀ (l:List UInt8) (i:Nat),b.data.toList.drop i=l→i≤b.size→
 itW (evC call itW base s_f92_l0) [] H.length (frOf 62 [(0,.s (.string b)),(18,.s (.int .i64 b.size)),(19,.s (.int .i64 i))]) H=
 bif okFrom i l then some (.ext 0,frOf 62 [(0,.s (.string b)),(18,.s (.int .i64 b.size)),(19,.s (.int .i64 b.size)),(20,bl false)],H) else some (.ret,frOf 62 [(2,bl false)],H):=by
 intro l
 have hsz:b.data.toList.length=b.size:=rfl
 induction l with
 | nil=>
   intro i hd hi
   have hin:i=b.size:=by
    have:=congrArg List.length hd
    rw [List.length_drop,hsz] at this
    simp at this
    omega
   subst hin
   rw [itW_step]
   simp only [a_f92,s_f92_l0_b,aa,reduceIte,reduceCtorEq,Nat.reduceEqDiff,Nat.reduceLT,Nat.reduceLeDiff,Nat.reduceBEq,Nat.reduceAdd,Nat.reduceMul,op_appR,Int.lt_irrefl,okFrom]
 | cons c l ih=>
   intro i hd hi
   have hc:b.data.toList[i]?=some c:=by have:=congrArg (·[0]?) hd;simp only [List.getElem?_drop] at this;exact this
   have hlt:i < b.size:=by have:=(List.getElem?_eq_some_iff.1 hc).1;omega
   have hi':((i:Int) < (b.size:Int)):=by omega
   have hd':b.data.toList.drop (i+1)=l:=by
    have:=congrArg (List.drop 1) hd
    simpa [List.drop_drop,Nat.add_comm] using this
   have hw:IntKind.i64.wrap ((i:Int)+1)=((i+1:Nat):Int):=by rw [IntKind.wrap_i64];omega
   rw [itW_step]
   simp only [a_f92,s_f92_l0_b,aa,reduceIte,reduceCtorEq,Nat.reduceEqDiff,Nat.reduceLT,Nat.reduceLeDiff,Nat.reduceBEq,Nat.reduceAdd,Nat.reduceMul,op_appR,hi',hc,hw,okFrom] at ih ⊢
   rw [ih (i+1) hd' hlt]
   cases h:badAt i c <;> (unfold badAt letter at h;simp only [h,aa,reduceIte,reduceCtorEq,Nat.reduceEqDiff,Nat.reduceLT,Nat.reduceLeDiff,Nat.reduceBEq,Nat.reduceAdd,Nat.reduceMul,op_appR])
def isName (b:ByteArray):Bool:=!(b.data.toList == [] || decide ((b.size:Int) > 64) || b.data.toList == [110,117,108,108]) && okFrom 0 b.data.toList
theorem is_fun (CT:Nat→Option CFun) (hT:CT k_f92=some (.code s_f92)) (b:ByteArray) (base:Nat) (H:Heap):callW CT (.fn k_f92 [] []) [.s (.string b)] base H=some (bl (isName b),H):=by
 refine callW_fn (c:=s_f92) hT (by simp [s_f92]) ?_
 have hl:=is_loop (callW CT) base b
 simp only [s_f92,a_f92,s_f92_l0_b,aa,reduceIte,reduceCtorEq,Nat.reduceEqDiff,Nat.reduceLT,Nat.reduceLeDiff,Nat.reduceBEq,Nat.reduceAdd,Nat.reduceMul,op_appR]
 cases hz:(b.data.toList == [] || decide ((b.size:Int) > 64) || b.data.toList == [110,117,108,108]) with
 | true=>simp only [hz,isName,aa,reduceIte,reduceCtorEq,Nat.reduceEqDiff,Nat.reduceLT,Nat.reduceLeDiff,Nat.reduceBEq,Nat.reduceAdd,Nat.reduceMul,op_appR]
 | false=>
   have hb:b.size≤64:=by
    simp only [Bool.or_eq_false_iff,decide_eq_false_iff_not] at hz
    have:=hz.1.2
    omega
   have hl:=is_loop (callW CT) base b hb H b.data.toList 0 rfl (Nat.zero_le _)
   rw [show ((0:Nat):Int)=0 from rfl] at hl
   simp only [isName,hz,hl,a_f92,s_f92_l0_b,aa,reduceIte,reduceCtorEq,Nat.reduceEqDiff,Nat.reduceLT,Nat.reduceLeDiff,Nat.reduceBEq,Nat.reduceAdd,Nat.reduceMul,op_appR]
   cases okFrom 0 b.data.toList <;> simp only [a_f92,s_f92_l0_b,aa,reduceIte,reduceCtorEq,Nat.reduceEqDiff,Nat.reduceLT,Nat.reduceLeDiff,Nat.reduceBEq,Nat.reduceAdd,Nat.reduceMul,op_appR]
end Go.Proofs.YtngfpadeebpoeaaGreatDoor
set_option maxRecDepth 100000
namespace Go.Proofs.YtngfpadeebpoeaaGreatDoor
open Go.AM
def emptyB (s:ByteArray):Bool:=s.data.toList == []
def nullB (s:ByteArray):Bool:=s.data.toList == [110,117,108,108]
def badS (op:Bool) (s:ByteArray):Bool:=!emptyB s && !isName s && !(op && nullB s)
section
variable {CT:Nat→Option CFun}
theorem badName1_fun (hI:CT k_f92=some (.code s_f92)) (hT:CT k_f94=some (.code s_f94)) (base:Nat) (H:Heap) (s:ByteArray):callW CT (.fn k_f94 [] []) [Sb s] base H=some (.s (.bool (!isName s)),H):=by
 have h:=is_fun CT hI s base H
 refine callW_fn (c:=s_f94) hT (by simp [s_f94]) ?_
 simp only [bl] at h
 simp only [s_f94,a_f94,aa,reduceIte,reduceCtorEq,Nat.reduceEqDiff,Nat.reduceLT,Nat.reduceLeDiff,Nat.reduceBEq,Nat.reduceAdd,Nat.reduceMul,op_appR,h]
theorem bad1_fun (hI:CT k_f92=some (.code s_f92)) (hT:CT k_f136=some (.code s_f136)) (base:Nat) {H:Heap} {id:Nat} {op:Bool} (hg:getC H id 0=some [.s (.bool op)]) (s:ByteArray):callW CT (.fn k_f136 [] [.ref id 0 0]) [Sb s] base H=some (.s (.bool (badS op s)),H):=by
 have h:=is_fun CT hI s base H
 have hx:=getC_load hg
 refine callW_fn (c:=s_f136) hT (by simp [s_f136]) ?_
 simp only [bl] at h
 unfold badS emptyB nullB
 cases h0:(s.data.toList == []) with
 | true=>simp only [s_f136,a_f136,aa,reduceIte,reduceCtorEq,Nat.reduceEqDiff,Nat.reduceLT,Nat.reduceLeDiff,Nat.reduceBEq,Nat.reduceAdd,Nat.reduceMul,op_appR,h0]
 | false=>
   cases h1:isName s with
   | true=>
     rw [h1] at h
     simp only [s_f136,a_f136,aa,reduceIte,reduceCtorEq,Nat.reduceEqDiff,Nat.reduceLT,Nat.reduceLeDiff,Nat.reduceBEq,Nat.reduceAdd,Nat.reduceMul,op_appR,h0,h]
   | false=>
     rw [h1] at h
     cases op with
     | true=>simp only [s_f136,a_f136,aa,reduceIte,reduceCtorEq,Nat.reduceEqDiff,Nat.reduceLT,Nat.reduceLeDiff,Nat.reduceBEq,Nat.reduceAdd,Nat.reduceMul,op_appR,h0,h,hx]
     | false=>simp only [s_f136,a_f136,aa,reduceIte,reduceCtorEq,Nat.reduceEqDiff,Nat.reduceLT,Nat.reduceLeDiff,Nat.reduceBEq,Nat.reduceAdd,Nat.reduceMul,op_appR,h0,h,hx]
theorem bad_fun (hI:CT k_f92=some (.code s_f92)) (hT1:CT k_f136=some (.code s_f136)) (hT:CT k_f95=some (.code s_f95)) (hC:CT k_f93=some (.code s_f93)) (hX:CT k_f135=some (.code s_f135)) (base:Nat) (H:Heap) (op:Bool) {v:V} {l:List ByteArray} (hv:Rd H v (l.map Sb)) (hw:Wide1 v) (hl:l.length < 2 ^ 40):
 ∃ H',callW CT (.fn k_f95 [] []) [.s (.bool op),v] base H=some (.s (.bool (l.any (badS op))),H')∧Ext H H':=by
 have e0:Ext H (H ++ [Ob.cells 0 [.s (.bool op)]]):=Ext.app _ _
 obtain ⟨H',h1,h2⟩:=conS_fun hC hX base (H ++ [Ob.cells 0 [.s (.bool op)]]) (f:=.fn k_f136 [] [.ref H.length 0 0]) (p:=badS op) (hv.ext e0) hw (fun x _ D hD=>⟨D,bad1_fun hI hT1 base (getC_ext (getC_new H 0 _) hD) x,Ext.refl D⟩) hl
 refine ⟨H',callW_fnA (c:=s_f95) (k:=2) hT rfl (by decide) s_f95_first ?_,e0.trans h2⟩
 simp only [s_f95,a_f95,aa,reduceIte,reduceCtorEq,Nat.reduceEqDiff,Nat.reduceLT,Nat.reduceLeDiff,Nat.reduceBEq,Nat.reduceAdd,Nat.reduceMul,op_appR,xsub_mkFn,h1]
theorem indexS_fun (hT:CT k_f137=some (.code s_f137)) (base:Nat) (A:Heap) {v:V} {l:List ByteArray} (s:ByteArray) (hv:Rd A v (l.map Sb)) (hw:Wide1 v) (hl:l.length < 2 ^ 40):
 callW CT (.fn k_f137 [] []) [v,Sb s] base A=some (Iz (idxP (fun x=>s.data.toList == x.data.toList) l),A):=by
 have hlen:=Sb_len hv
 have step:∀ i,i < l.length→(s.data.toList == (l.getD i ⟨#[]⟩).data.toList)=false→itW (evC (callW CT) itW base s_f137_l0) [] A.length (frOf 19 [(0,v),(1,Sb s),(7,Iz l.length),(8,Iz i)]) A=itW (evC (callW CT) itW base s_f137_l0) [] A.length (frOf 19 [(0,v),(1,Sb s),(7,Iz l.length),(8,Iz (i+1:Nat))]) A:=by
  intro i hi hp
  have hlt':((i:Int) < (l.length:Int)):=by omega
  have hwk:=w64 (n:=i) (by omega)
  obtain ⟨a,a1,a2⟩:=Sb_at hv hw hi
  rw [itW_step]
  simp only [Iz,Sb,a_f137,s_f137_l0_b,aa,reduceIte,reduceCtorEq,Nat.reduceEqDiff,Nat.reduceLT,Nat.reduceLeDiff,Nat.reduceBEq,Nat.reduceAdd,Nat.reduceMul,op_appR,hlt',a1,a2,hp,hwk,trim_same rfl]
 refine callW_fn (c:=s_f137) hT (by simp [s_f137]) ?_
 rcases it_find l.length (fun i=>s.data.toList == (l.getD i ⟨#[]⟩).data.toList) (fun i=>itW (evC (callW CT) itW base s_f137_l0) [] A.length (frOf 19 [(0,v),(1,Sb s),(7,Iz l.length),(8,Iz i)]) A) step with ⟨h1,h2⟩ | ⟨i,hi,h1,h2,h3⟩
 ·rw [idxP_none ⟨#[]⟩ h1]
  have hend:itW (evC (callW CT) itW base s_f137_l0) [] A.length (frOf 19 [(0,v),(1,Sb s),(7,Iz l.length),(8,Iz l.length)]) A=some (.ext 0,frOf 19 [(0,v),(1,Sb s),(7,Iz l.length),(8,Iz l.length),(9,bl false)],A):=by
   rw [itW_step]
   simp only [Iz,Sb,bl,a_f137,s_f137_l0_b,aa,reduceIte,reduceCtorEq,Nat.reduceEqDiff,Nat.reduceLT,Nat.reduceLeDiff,Nat.reduceBEq,Nat.reduceAdd,Nat.reduceMul,op_appR,Int.lt_irrefl,trim_same rfl]
  have h4:=h2.trans hend
  simp only [Iz,Sb,bl,cast0] at h4
  simp only [Iz,Sb,s_f137,a_f137,s_f137_l0_b,aa,reduceIte,reduceCtorEq,Nat.reduceEqDiff,Nat.reduceLT,Nat.reduceLeDiff,Nat.reduceBEq,Nat.reduceAdd,Nat.reduceMul,op_appR,hlen,h4]
 ·rw [idxP_some ⟨#[]⟩ hi h1 h2]
  have hlt':((i:Int) < (l.length:Int)):=by omega
  obtain ⟨a,a1,a2⟩:=Sb_at hv hw hi
  have hend:itW (evC (callW CT) itW base s_f137_l0) [] A.length (frOf 19 [(0,v),(1,Sb s),(7,Iz l.length),(8,Iz i)]) A=some (.ret,frOf 19 [(4,Iz i)],A):=by
   rw [itW_step]
   simp only [Iz,Sb,bl,a_f137,s_f137_l0_b,aa,reduceIte,reduceCtorEq,Nat.reduceEqDiff,Nat.reduceLT,Nat.reduceLeDiff,Nat.reduceBEq,Nat.reduceAdd,Nat.reduceMul,op_appR,hlt',a1,a2,h1,trim_same rfl]
  have h4:=h3.trans hend
  simp only [Iz,Sb,bl,cast0] at h4
  simp only [Iz,Sb,s_f137,a_f137,s_f137_l0_b,aa,reduceIte,reduceCtorEq,Nat.reduceEqDiff,Nat.reduceLT,Nat.reduceLeDiff,Nat.reduceBEq,Nat.reduceAdd,Nat.reduceMul,op_appR,hlen,h4]
theorem containsS_fun (hT:CT k_f96=some (.code s_f96)) (hI:CT k_f137=some (.code s_f137)) (base:Nat) (A:Heap) {v:V} {l:List ByteArray} (s:ByteArray) (hv:Rd A v (l.map Sb)) (hw:Wide1 v) (hl:l.length < 2 ^ 40):
 callW CT (.fn k_f96 [] []) [v,Sb s] base A=some (.s (.bool (l.any fun x=>s.data.toList == x.data.toList)),A):=by
 have h:=indexS_fun hI base A s hv hw hl
 refine callW_fn (c:=s_f96) hT (by simp [s_f96]) ?_
 rw [← idxP_any]
 simp only [Iz,Sb] at h
 simp only [Sb,s_f96,a_f96,aa,reduceIte,reduceCtorEq,Nat.reduceEqDiff,Nat.reduceLT,Nat.reduceLeDiff,Nat.reduceBEq,Nat.reduceAdd,Nat.reduceMul,op_appR,h]
end
end Go.Proofs.YtngfpadeebpoeaaGreatDoor
set_option maxRecDepth 100000
namespace Go.AM
def srch {α β:Type} (f:Nat→α→Option β):List α→Nat→Option β
 | [],_=>none
 | x :: l,i=>match f i x with | some b=>some b | none=>srch f l (i+1)
theorem srch_none {α β:Type} {f:Nat→α→Option β}:∀ {l:List α} {k:Nat},srch f l k=none↔∀ i x,l[i]?=some x→f (k+i) x=none:=by
 intro l
 induction l with
 | nil=>intro k;simp [srch]
 | cons a l ih=>
   intro k
   rw [srch]
   cases h:f k a with
   | some b=>
     simp only [reduceCtorEq,false_iff]
     intro hc
     have:=hc 0 a rfl
     rw [Nat.add_zero,h] at this
     cases this
   | none=>
     simp only
     rw [ih]
     constructor
     ·intro hc i x hx
      cases i with
      | zero=>rw [List.getElem?_cons_zero] at hx;rw [← Option.some.inj hx];exact h
      | succ i=>rw [List.getElem?_cons_succ] at hx;have:=hc i x hx;rwa [show k+1+i=k+(i+1) by omega] at this
     ·intro hc i x hx
      have:=hc (i+1) x (by rw [List.getElem?_cons_succ];exact hx)
      rwa [show k+(i+1)=k+1+i by omega] at this
theorem it_srch {α β S T:Type} (l:List α) (d:α) (f:Nat→α→Option β) (P:Nat→S→Prop) (X:Nat→S→T) (Q:β→T→Prop) (step:∀ i s,i < l.length→P i s→(f i (l.getD i d)=none∧∃ s',X i s=X (i+1) s'∧P (i+1) s')∨∃ b,f i (l.getD i d)=some b∧Q b (X i s)):∀ s,P 0 s→(srch f l 0=none∧∃ s',X 0 s=X l.length s'∧P l.length s')∨∃ b,srch f l 0=some b∧Q b (X 0 s):=by
 have key:∀ (r:List α) (i:Nat) (s0 s:S),l.drop i=r→i≤l.length→X 0 s0=X i s→P i s→(srch f r i=none∧∃ s',X 0 s0=X l.length s'∧P l.length s')∨∃ b,srch f r i=some b∧Q b (X 0 s0):=by
  intro r
  induction r with
  | nil=>
    intro i s0 s hd hi hx hp
    have hin:i=l.length:=by
     have:=congrArg List.length hd
     rw [List.length_drop] at this
     simp at this
     omega
    subst hin
    exact .inl ⟨rfl,s,hx,hp⟩
  | cons a r ih=>
    intro i s0 s hd hi hx hp
    have hc:l[i]?=some a:=by have:=congrArg (·[0]?) hd;simp only [List.getElem?_drop] at this;exact this
    have hlt:i < l.length:=(List.getElem?_eq_some_iff.1 hc).1
    have hd':l.drop (i+1)=r:=by
     have:=congrArg (List.drop 1) hd
     simpa [List.drop_drop,Nat.add_comm] using this
    have hg:l.getD i d=a:=by rw [List.getD,hc];rfl
    rw [srch]
    rcases step i s hlt hp with ⟨h1,s',h2,h3⟩ | ⟨b,h1,h2⟩
    ·rw [hg] at h1
     rw [h1]
     exact ih (i+1) s0 s' hd' hlt (hx.trans h2) h3
    ·rw [hg] at h1
     rw [h1]
     exact .inr ⟨b,rfl,by rw [hx];exact h2⟩
 exact fun s hp=>key l 0 s s rfl (Nat.zero_le _) rfl hp
end Go.AM
set_option maxRecDepth 100000
namespace Go.AM
section
variable {κ:Type} [DecidableEq κ]
def SetOf (enc:κ→Value) (S:κ→Bool) (M:Ob):Prop:=∃ ks,M=.map (esG enc ks fun _=>.s (.bool true))∧ks.Nodup∧∀ l,l∈ks↔S l=true
theorem SetOf.congr {enc:κ→Value} {S T:κ→Bool} {M:Ob} (h:SetOf enc S M) (e:∀ l,S l=T l):SetOf enc T M:=by
 obtain ⟨ks,h1,h2,h3⟩:=h
 exact ⟨ks,h1,h2,fun l=>by rw [h3,e]⟩
end
def esI (k:IntKind) (l:List (Int × V)):List (Value × V):=l.map fun p=>(.int k p.1,p.2)
theorem keyI (k:IntKind) (n:Int):keyOk (.int k) (.int k n)=true:=by simp [keyOk]
theorem sameI (k:IntKind) (a b:Int):Instr.sameNow (.int k) (.int k a) (.int k b)=some (decide (a=b)):=by
 cases k <;> (first | rw [sameNow_int] | skip) <;> rfl
theorem findA_I (k:IntKind) (n:Int):∀ (l:List (Int × V)) (i:Nat),findA (.int k) (.int k n) (esI k l) i=some (match l.findIdx? fun p=>decide (n=p.1) with | some j=>some (i+j,(l.getD j (0,und)).2) | none=>none):=by
 intro l
 induction l with
 | nil=>intro i;rfl
 | cons p l ih=>
   intro i
   have e:esI k (p :: l)=(.int k p.1,p.2) :: esI k l:=rfl
   rw [e]
   simp only [findA,sameI,List.findIdx?_cons]
   by_cases h:n=p.1
   ·simp [h]
   ·simp only [decide_eq_false h,ih,Bool.false_eq_true,if_false,cond_false]
    cases l.findIdx? fun p=>decide (n=p.1) with
    | none=>rfl
    | some j=>
      simp
      omega
def lookI (l:List (Int × V)) (n:Int):Option V:=match l.findIdx? fun p=>decide (n=p.1) with | some j=>some (l.getD j (0,und)).2 | none=>none
theorem upd_I {H:Heap} {base:Nat} (hb:base≤H.length) (k:IntKind) (l:List (Int × V)) (n:Int) (v:V) (hn:(l.all fun p=>decide (p.1≠n))=true):updMV (H ++ [.map (esI k l)]) base (.int k) (.mp H.length) (.s (.int k n)) v=some (und,H ++ [.map (esI k (l ++ [(n,v)]))]):=by
 have hH:(H ++ [Ob.map (esI k l)])[H.length]?=some (.map (esI k l)):=by simp
 have hf:=findA_I k n l 0
 have hnone:l.findIdx? (fun p=>decide (n=p.1))=none:=by
  rw [List.findIdx?_eq_none_iff]
  intro p hp
  have:=List.all_eq_true.1 hn p hp
  simpa using fun e=>(of_decide_eq_true this) e.symm
 rw [hnone] at hf
 simp only [updMV,hb,keyI,and_self,if_true,hH,hf]
 simp [esI]
theorem get_I {H:Heap} {j:Nat} (k:IntKind) {l:List (Int × V)} (hH:H[j]?=some (.map (esI k l))) (z:V) (ok:Bool) (n:Int):
 xMapGet H (.int k) z ok (.mp j) (.s (.int k n))=some (if ok then .tup [(lookI l n).getD z,bl (lookI l n).isSome] else (lookI l n).getD z):=by
 have hf:=findA_I k n l 0
 simp only [xMapGet,evOp,ev,List.getD_cons_zero,List.getD_cons_succ,keyI,if_true,hH,hf,lookI]
 cases l.findIdx? fun p=>decide (n=p.1) with
 | none=>cases ok <;> rfl
 | some j=>cases ok <;> rfl
end Go.AM
set_option maxRecDepth 100000
namespace Go.Proofs.YtngfpadeebpoeaaGreatDoor
open Go.AM
structure ShD where
 d:Bool
 a:Bool
 b:Bool
 k:Bool
 f:Bool
 xs:Bool
 ls:Bool
def ShD.c (s:ShD):List V:=[.s (.bool s.d),.s (.bool s.a),.s (.bool s.b),.s (.bool s.k),.s (.bool s.f),.s (.bool s.xs),.s (.bool s.ls)]
def shT:List (Int × V):=[(1,.agg (ShD.c ⟨true,false,false,true,false,false,false⟩)),(2,.agg (ShD.c ⟨true,false,false,true,false,false,false⟩)),(3,.agg (ShD.c ⟨true,false,false,false,false,false,false⟩)),(4,.agg (ShD.c ⟨true,false,false,false,true,false,false⟩)),(5,.agg (ShD.c ⟨true,true,false,false,false,false,false⟩)),(8,.agg (ShD.c ⟨true,true,false,false,false,false,false⟩)),(6,.agg (ShD.c ⟨true,false,false,false,false,true,true⟩)),(7,.agg (ShD.c ⟨true,true,false,true,false,false,false⟩)),(9,.agg (ShD.c ⟨false,true,true,false,false,false,false⟩)),(10,.agg (ShD.c ⟨true,false,false,false,true,true,false⟩)),(11,.agg (ShD.c ⟨true,true,false,false,false,true,false⟩)),(12,.agg (ShD.c ⟨false,false,false,false,false,false,true⟩)),(13,.agg (ShD.c ⟨false,false,false,false,false,false,true⟩)),(14,.agg (ShD.c ⟨false,true,false,false,false,false,false⟩))]
def shp (n:Int):ShD:=if n=1 then ⟨true,false,false,true,false,false,false⟩ else if n=2 then ⟨true,false,false,true,false,false,false⟩ else if n=3 then ⟨true,false,false,false,false,false,false⟩ else if n=4 then ⟨true,false,false,false,true,false,false⟩ else if n=5 then ⟨true,true,false,false,false,false,false⟩ else if n=8 then ⟨true,true,false,false,false,false,false⟩ else if n=6 then ⟨true,false,false,false,false,true,true⟩ else if n=7 then ⟨true,true,false,true,false,false,false⟩ else if n=9 then ⟨false,true,true,false,false,false,false⟩ else if n=10 then ⟨true,false,false,false,true,true,false⟩ else if n=11 then ⟨true,true,false,false,false,true,false⟩ else if n=12 then ⟨false,false,false,false,false,false,true⟩ else if n=13 then ⟨false,false,false,false,false,false,true⟩ else if n=14 then ⟨false,true,false,false,false,false,false⟩ else ⟨false,false,false,false,false,false,false⟩
theorem shT_get (n:Int):(lookI shT n).getD (.agg (ShD.c ⟨false,false,false,false,false,false,false⟩))=.agg (shp n).c:=by
 by_cases h1:n=1
 ·subst h1;rfl
 by_cases h2:n=2
 ·subst h2;rfl
 by_cases h3:n=3
 ·subst h3;rfl
 by_cases h4:n=4
 ·subst h4;rfl
 by_cases h5:n=5
 ·subst h5;rfl
 by_cases h8:n=8
 ·subst h8;rfl
 by_cases h6:n=6
 ·subst h6;rfl
 by_cases h7:n=7
 ·subst h7;rfl
 by_cases h9:n=9
 ·subst h9;rfl
 by_cases h10:n=10
 ·subst h10;rfl
 by_cases h11:n=11
 ·subst h11;rfl
 by_cases h12:n=12
 ·subst h12;rfl
 by_cases h13:n=13
 ·subst h13;rfl
 by_cases h14:n=14
 ·subst h14;rfl
 simp [lookI,shT,shp,List.findIdx?_cons,h1,h2,h3,h4,h5,h8,h6,h7,h9,h10,h11,h12,h13,h14]
section
variable {CT:Nat→Option CFun}
theorem shapes_fun (hT:CT k_f35=some (.code s_f35)) (base:Nat) (H:Heap) (hb:base≤H.length):callW CT (.fn k_f35 [] []) [] base H=some (.mp H.length,H ++ [.map (esI .u8 shT)]):=by
 refine callW_fn (c:=s_f35) hT (by simp [s_f35]) ?_
 have e0:(Ob.map []:Ob)=.map (esI .u8 []):=rfl
 have u1:=upd_I hb .u8 (shT.take 0) 1 (.agg (ShD.c ⟨true,false,false,true,false,false,false⟩)) (by decide)
 have u2:=upd_I hb .u8 (shT.take 1) 2 (.agg (ShD.c ⟨true,false,false,true,false,false,false⟩)) (by decide)
 have u3:=upd_I hb .u8 (shT.take 2) 3 (.agg (ShD.c ⟨true,false,false,false,false,false,false⟩)) (by decide)
 have u4:=upd_I hb .u8 (shT.take 3) 4 (.agg (ShD.c ⟨true,false,false,false,true,false,false⟩)) (by decide)
 have u5:=upd_I hb .u8 (shT.take 4) 5 (.agg (ShD.c ⟨true,true,false,false,false,false,false⟩)) (by decide)
 have u8:=upd_I hb .u8 (shT.take 5) 8 (.agg (ShD.c ⟨true,true,false,false,false,false,false⟩)) (by decide)
 have u6:=upd_I hb .u8 (shT.take 6) 6 (.agg (ShD.c ⟨true,false,false,false,false,true,true⟩)) (by decide)
 have u7:=upd_I hb .u8 (shT.take 7) 7 (.agg (ShD.c ⟨true,true,false,true,false,false,false⟩)) (by decide)
 have u9:=upd_I hb .u8 (shT.take 8) 9 (.agg (ShD.c ⟨false,true,true,false,false,false,false⟩)) (by decide)
 have u10:=upd_I hb .u8 (shT.take 9) 10 (.agg (ShD.c ⟨true,false,false,false,true,true,false⟩)) (by decide)
 have u11:=upd_I hb .u8 (shT.take 10) 11 (.agg (ShD.c ⟨true,true,false,false,false,true,false⟩)) (by decide)
 have u12:=upd_I hb .u8 (shT.take 11) 12 (.agg (ShD.c ⟨false,false,false,false,false,false,true⟩)) (by decide)
 have u13:=upd_I hb .u8 (shT.take 12) 13 (.agg (ShD.c ⟨false,false,false,false,false,false,true⟩)) (by decide)
 have u14:=upd_I hb .u8 (shT.take 13) 14 (.agg (ShD.c ⟨false,true,false,false,false,false,false⟩)) (by decide)
 simp only [shT,List.take_succ_cons,List.take_zero,List.cons_append,List.nil_append,ShD.c] at u1
 simp only [shT,List.take_succ_cons,List.take_zero,List.cons_append,List.nil_append,ShD.c] at u2
 simp only [shT,List.take_succ_cons,List.take_zero,List.cons_append,List.nil_append,ShD.c] at u3
 simp only [shT,List.take_succ_cons,List.take_zero,List.cons_append,List.nil_append,ShD.c] at u4
 simp only [shT,List.take_succ_cons,List.take_zero,List.cons_append,List.nil_append,ShD.c] at u5
 simp only [shT,List.take_succ_cons,List.take_zero,List.cons_append,List.nil_append,ShD.c] at u8
 simp only [shT,List.take_succ_cons,List.take_zero,List.cons_append,List.nil_append,ShD.c] at u6
 simp only [shT,List.take_succ_cons,List.take_zero,List.cons_append,List.nil_append,ShD.c] at u7
 simp only [shT,List.take_succ_cons,List.take_zero,List.cons_append,List.nil_append,ShD.c] at u9
 simp only [shT,List.take_succ_cons,List.take_zero,List.cons_append,List.nil_append,ShD.c] at u10
 simp only [shT,List.take_succ_cons,List.take_zero,List.cons_append,List.nil_append,ShD.c] at u11
 simp only [shT,List.take_succ_cons,List.take_zero,List.cons_append,List.nil_append,ShD.c] at u12
 simp only [shT,List.take_succ_cons,List.take_zero,List.cons_append,List.nil_append,ShD.c] at u13
 simp only [shT,List.take_succ_cons,List.take_zero,List.cons_append,List.nil_append,ShD.c] at u14
 simp only [shT,ShD.c]
 simp only [s_f35,a_f35,aa,reduceIte,reduceCtorEq,Nat.reduceEqDiff,Nat.reduceLT,Nat.reduceLeDiff,Nat.reduceBEq,Nat.reduceAdd,Nat.reduceMul,op_appR,op_mapNew,op_mapUpd,hb,e0,u1,u2,u3,u4,u5,u8,u6,u7,u9,u10,u11,u12,u13,u14]
end
end Go.Proofs.YtngfpadeebpoeaaGreatDoor
set_option maxRecDepth 100000
namespace Go.Proofs.YtngfpadeebpoeaaGreatDoor
open Go.AM
abbrev Pt:=Nat × Nat × Nat
structure Small (fs:List FunD):Prop where
 n:fs.length < 2 ^ 20
 ps:∀ f∈fs,f.ps.length < 2 ^ 20
 nb:∀ f∈fs,f.blocks.length < 2 ^ 20
 nc:∀ f∈fs,∀ b∈f.blocks,b.code.length < 2 ^ 20
 xs:∀ f∈fs,∀ b∈f.blocks,∀ x∈b.code,x.xs.length < 2 ^ 20
 ls:∀ f∈fs,∀ b∈f.blocks,∀ x∈b.code,x.ls.length < 2 ^ 20
structure NC (A:Heap) (w sm:Nat) (fv:V) (fs:List FunD):Prop where
 gw:getC A w 0=some [fv,.mp sm]
 rd:RdProg A fv fs
 sml:Small fs
 sh:A[sm]?=some (.map (esI .u8 shT))
theorem Ext.at' {A B:Heap} (k:Ext A B) {i:Nat} {x:Ob} (h:A[i]?=some x):B[i]?=some x:=by
 obtain ⟨G,rfl⟩:=k
 rw [List.getElem?_append_left (List.getElem?_eq_some_iff.1 h).1]
 exact h
theorem NC.ext {A B:Heap} {w sm:Nat} {fv:V} {fs:List FunD} (h:NC A w sm fv fs) (k:Ext A B):NC B w sm fv fs:=⟨getC_ext h.gw k,h.rd.ext k,h.sml,Ext.at' k h.sh⟩
theorem NC.load {A B:Heap} {w sm:Nat} {fv:V} {fs:List FunD} (h:NC A w sm fv fs) (k:Ext A B):xLoad B false 1 (.ref w 0 0)=some fv:=by
 rw [xo_ref,getC_ext h.gw k];rfl
def Found (A:Heap) (n h:Nat) (t:Pt) (r:Option (Ex × List V × Heap)):Prop:=∃ D,r=some (.ret,frOf n [(2,.ref h 0 0),(3,bl true)],D)∧Ext A D∧getC D h 0=some [Iz t.1,Iz t.2.1,Iz t.2.2]
theorem rdI_ext {H H':Heap} {v:V} {l:List InsD} (h:RdL 8 RdIns H v l) (k:Ext H H'):RdL 8 RdIns H' v l:=RdL.ext (P:=RdIns) RdIns.ext h k
theorem rdB_ext {H H':Heap} {v:V} {l:List BlkD} (h:RdL 2 RdBlk H v l) (k:Ext H H'):RdL 2 RdBlk H' v l:=RdL.ext (P:=RdBlk) RdBlk.ext h k
def resP:Option Pt→V
 | none=>.tup [.agg [Iz 0,Iz 0,Iz 0],.s (.bool false)]
 | some (i,b,k)=>.tup [.agg [Iz i,Iz b,Iz k],.s (.bool true)]
end Go.Proofs.YtngfpadeebpoeaaGreatDoor
set_option maxRecDepth 100000
namespace Go.Proofs.YtngfpadeebpoeaaGreatDoor
open Go.AM
theorem trim_app2 {C:Heap} {m:Nat} (h:C.length≤m) (fr:List V) (G:Heap):∃ G',trim m fr (C ++ G)=C ++ G':=by
 rcases trim_or m fr (C ++ G) with e | ⟨e,_⟩
 ·exact ⟨G,e⟩
 ·exact ⟨G.take (m - C.length),by rw [e,List.take_append,List.take_of_length_le h]⟩
def cI (bs:List BlkD):Nat:=(bs.map fun b=>b.code.length).sum
def cF (fs:List FunD):Nat:=(fs.map fun f=>cI f.blocks).sum
theorem cI_take {bs:List BlkD} {k:Nat} {x:BlkD} (h:bs[k]?=some x):cI (bs.take (k+1))=cI (bs.take k)+x.code.length:=by
 rw [List.take_add_one,h,cI,List.map_append,List.sum_append];simp [cI]
theorem cF_take {fs:List FunD} {k:Nat} {x:FunD} (h:fs[k]?=some x):cF (fs.take (k+1))=cF (fs.take k)+cI x.blocks:=by
 rw [List.take_add_one,h,cF,List.map_append,List.sum_append];simp [cF]
def giI (G:Nat→Nat→Nat→Nat→InsD→Bool) (n i b:Nat) (k:Nat) (x:InsD):Option Pt:=if G (n+k) i b k x then some (i,b,k) else none
def giB (G:Nat→Nat→Nat→Nat→InsD→Bool) (n i:Nat) (bs:List BlkD) (b:Nat) (bl:BlkD):Option Pt:=srch (giI G (n+cI (bs.take b)) i b) bl.code 0
def giF (G:Nat→Nat→Nat→Nat→InsD→Bool) (fs:List FunD) (i:Nat) (f:FunD):Option Pt:=srch (giB G (cF (fs.take i)) i f.blocks) f.blocks 0
def gSrch (G:Nat→Nat→Nat→Nat→InsD→Bool) (fs:List FunD):Option Pt:=srch (giF G fs) fs 0
section
variable {CT:Nat→Option CFun}
def Yld (CT:Nat→Option CFun) (base:Nat) (y:V) (K:Nat→Heap) (KD:Nat→Nat→Nat→Nat→Heap) (n i b k:Nat) (r:List V) (g:Bool):Prop:=∀ G,∃ G',callW CT y [.agg [Iz i,Iz b,Iz k],.agg r] base (K n ++ G)=if g then some (bl false,KD n i b k ++ G') else some (bl true,K (n+1) ++ G')
theorem cd_l0 (base:Nat) {A:Heap} {K:Nat→Heap} {KD:Nat→Nat→Nat→Nat→Heap} {Gf:Nat→Nat→Nat→Nat→InsD→Bool} {y:V} {L0 L:Nat} (hL:L0≤L) (hK:∀ n,(K n).length=L0) (hKD:∀ n i b k,(KD n i b k).length=L0) (hE:∀ n,Ext A (K n)) (hb:base≤L0) {i b n0:Nat} {v13 v21 cv:V} {n14 n15 n22 n23:Int} {l:List InsD} (hv:RdL 8 RdIns A cv l) (hn:l.length < 2 ^ 20) (hy:∀ k x r,l[k]?=some x→RdIns A r x→Yld CT base y K KD (n0+k) i b k r (Gf (n0+k) i b k x)):
 ∀ C,(∃ G,C=K (n0) ++ G)→(srch (giI Gf n0 i b) l 0=none∧∃ G',itW (evC (callW CT) itW base s_f168_l0) [] L (frOf 47 [(0,y),(3,Iz i),(5,Iz b),(13,v13),(14,Iz n14),(15,Iz n15),(21,v21),(22,Iz n22),(23,Iz n23),(29,cv),(30,Iz l.length),(31,Iz 0)]) C=some (.ext 4,frOf 47 [(0,y),(3,Iz i),(5,Iz b),(13,v13),(14,Iz n14),(15,Iz n15),(21,v21),(22,Iz n22),(23,Iz n23),(29,cv),(30,Iz l.length),(31,Iz l.length),(32,bl false)],K (n0+l.length) ++ G'))∨∃ t,srch (giI Gf n0 i b) l 0=some t∧∃ fr n G',itW (evC (callW CT) itW base s_f168_l0) [] L (frOf 47 [(0,y),(3,Iz i),(5,Iz b),(13,v13),(14,Iz n14),(15,Iz n15),(21,v21),(22,Iz n22),(23,Iz n23),(29,cv),(30,Iz l.length),(31,Iz 0)]) C=some (.ret,fr,KD n t.1 t.2.1 t.2.2 ++ G'):=by
 intro C0 hC0
 rcases it_srch l ins0 (giI Gf n0 i b) (fun k C=>∃ G,C=K (n0+k) ++ G) (fun k C=>itW (evC (callW CT) itW base s_f168_l0) [] L (frOf 47 [(0,y),(3,Iz i),(5,Iz b),(13,v13),(14,Iz n14),(15,Iz n15),(21,v21),(22,Iz n22),(23,Iz n23),(29,cv),(30,Iz l.length),(31,Iz k)]) C) (fun t r=>∃ fr n G',r=some (.ret,fr,KD n t.1 t.2.1 t.2.2 ++ G')) (by
  intro k C hk ⟨G,hC'⟩
  have hC:=hC'.symm
  have hlt':((k:Int) < (l.length:Int)):=by omega
  have hwk:=w64 (n:=k) (by omega)
  have hkx:=some_getD hk ins0
  obtain ⟨x,hxe⟩:∃ x,l.getD k ins0=x:=⟨_,rfl⟩
  rw [hxe] at hkx ⊢
  have hmem:=List.mem_of_getElem? hkx
  obtain ⟨a,r,a1,hr,a2,_⟩:=hv.at2 hkx
  have hEA:Ext A C:=hC ▸ (hE _).trans ⟨G,rfl⟩
  have ld:=a2 C hEA
  have hbC:base≤C.length:=by rw [← hC,List.length_append,hK];omega
  have hgg:∀ c,getC (C ++ [Ob.cells 0 c]) C.length 0=some c:=fun c=>getC_new C 0 c
  have hss:∀ c d,(C ++ [c]).set C.length d=C ++ [d]:=fun c d=>set_snoc C c d
  have eC:∀ c,Ext C (C ++ [Ob.cells 0 c]):=fun c=>Ext.app _ _
  have eG:∀ c:List V,C ++ [Ob.cells 0 c]=K (n0+k) ++ (G ++ [Ob.cells 0 c]):=fun c=>by rw [← hC,List.append_assoc]
  obtain ⟨av,lv,rfl,q1,q2,q3,q4,_⟩:=id hr
  obtain ⟨G',y1⟩:=hy k x _ hkx hr (G ++ [Ob.cells 0 (insC x av lv)])
  rw [← eG] at y1
  have hav:=q1.one
  have hlv:=q3.one
  unfold giI
  cases hg:Gf (n0+k) i b k x with
  | false=>
    rw [hg,if_neg Bool.false_ne_true] at y1
    obtain ⟨G2,hG2⟩:=trim_app2 (C:=K (n0+(k+1))) (m:=L) (by rw [hK];exact hL) (frOf 47 [(0,y),(3,Iz i),(5,Iz b),(13,v13),(14,Iz n14),(15,Iz n15),(21,v21),(22,Iz n22),(23,Iz n23),(29,cv),(30,Iz l.length),(31,Iz (k+1:Nat))]) G'
    refine .inl ⟨if_neg Bool.false_ne_true,K (n0+(k+1)) ++ G2,?_,G2,rfl⟩
    simp only [insC,Iz,bl,Nat.add_assoc] at ld y1 hG2 ⊢
    rw [itW_step]
    simp only [Iz,bl,a_f168,s_f168_l0_b,s_f168_l1_b,s_f168_l2_b,aa,reduceIte,reduceCtorEq,Nat.reduceEqDiff,Nat.reduceLT,Nat.reduceLeDiff,Nat.reduceBEq,Nat.reduceAdd,Nat.reduceMul,op_appR,hlt',a1,ld,hbC,hgg,hss,hav,hlv,Bool.and_self,y1,hwk,hG2]
  | true=>
    rw [hg,if_pos rfl] at y1
    obtain ⟨G2,hG2⟩:=trim_app2 (C:=KD (n0+k) i b k) (m:=L) (by rw [hKD];exact hL) (frOf 47 [(0,y),(3,Iz i),(5,Iz b),(13,v13),(14,Iz n14),(15,Iz n15),(21,v21),(22,Iz n22),(23,Iz n23),(29,cv),(30,Iz l.length),(31,Iz k),(43,bl true)]) G'
    refine .inr ⟨(i,b,k),if_pos rfl,frOf 47 [(0,y),(3,Iz i),(5,Iz b),(13,v13),(14,Iz n14),(15,Iz n15),(21,v21),(22,Iz n22),(23,Iz n23),(29,cv),(30,Iz l.length),(31,Iz k),(43,bl true)],n0+k,G2,?_⟩
    simp only [insC,Iz,bl] at ld y1 hG2 ⊢
    rw [itW_step]
    simp only [Iz,bl,a_f168,s_f168_l0_b,s_f168_l1_b,s_f168_l2_b,aa,reduceIte,reduceCtorEq,Nat.reduceEqDiff,Nat.reduceLT,Nat.reduceLeDiff,Nat.reduceBEq,Nat.reduceAdd,Nat.reduceMul,op_appR,hlt',a1,ld,hbC,hgg,hss,hav,hlv,Bool.and_self,y1,hG2]) C0 (by exact hC0) with ⟨e1,C,e2,G,e3⟩ | e
 ·refine .inl ⟨e1,?_⟩
  rw [show n0+l.length=n0+l.length from rfl] at e3
  obtain ⟨G',hG'⟩:=trim_app2 (C:=K (n0+l.length)) (m:=L) (by rw [hK];exact hL) (frOf 47 [(0,y),(3,Iz i),(5,Iz b),(13,v13),(14,Iz n14),(15,Iz n15),(21,v21),(22,Iz n22),(23,Iz n23),(29,cv),(30,Iz l.length),(31,Iz l.length),(32,bl false)]) G
  refine ⟨G',?_⟩
  rw [cast0] at e2
  refine e2.trans ?_
  subst e3
  rw [itW_step]
  simp only [Iz,bl] at hG'
  simp only [Iz,bl,a_f168,s_f168_l0_b,s_f168_l1_b,s_f168_l2_b,aa,reduceIte,reduceCtorEq,Nat.reduceEqDiff,Nat.reduceLT,Nat.reduceLeDiff,Nat.reduceBEq,Nat.reduceAdd,Nat.reduceMul,op_appR,Int.lt_irrefl,hG']
 ·rw [cast0] at e
  exact .inr e
theorem cd_l1 (base:Nat) {A:Heap} {K:Nat→Heap} {KD:Nat→Nat→Nat→Nat→Heap} {Gf:Nat→Nat→Nat→Nat→InsD→Bool} {y:V} {L0 L:Nat} (hL:L0≤L) (hK:∀ n,(K n).length=L0) (hKD:∀ n i b k,(KD n i b k).length=L0) (hE:∀ n,Ext A (K n)) (hb:base≤L0) {i n0:Nat} {v13 bv:V} {n14 n15:Int} {l:List BlkD} (hv:RdL 2 RdBlk A bv l) (hn:l.length < 2 ^ 20) (hnc:∀ b∈l,b.code.length < 2 ^ 20) (hy:∀ b x,l[b]?=some x→∀ k z r,x.code[k]?=some z→RdIns A r z→Yld CT base y K KD (n0+cI (l.take b)+k) i b k r (Gf (n0+cI (l.take b)+k) i b k z)):
 ∀ C,(∃ G,C=K (n0) ++ G)→(srch (giB Gf n0 i l) l 0=none∧∃ G',itW (evC (callW CT) itW base s_f168_l1) [] L (frOf 47 [(0,y),(3,Iz i),(13,v13),(14,Iz n14),(15,Iz n15),(21,bv),(22,Iz l.length),(23,Iz 0)]) C=some (.ext 2,frOf 47 [(0,y),(3,Iz i),(13,v13),(14,Iz n14),(15,Iz n15),(21,bv),(22,Iz l.length),(23,Iz l.length),(24,bl false)],K (n0+cI l) ++ G'))∨∃ t,srch (giB Gf n0 i l) l 0=some t∧∃ fr n G',itW (evC (callW CT) itW base s_f168_l1) [] L (frOf 47 [(0,y),(3,Iz i),(13,v13),(14,Iz n14),(15,Iz n15),(21,bv),(22,Iz l.length),(23,Iz 0)]) C=some (.ret,fr,KD n t.1 t.2.1 t.2.2 ++ G'):=by
 intro C0 hC0
 rcases it_srch l blk0 (giB Gf n0 i l) (fun k C=>∃ G,C=K (n0+cI (l.take k)) ++ G) (fun k C=>itW (evC (callW CT) itW base s_f168_l1) [] L (frOf 47 [(0,y),(3,Iz i),(13,v13),(14,Iz n14),(15,Iz n15),(21,bv),(22,Iz l.length),(23,Iz k)]) C) (fun t r=>∃ fr n G',r=some (.ret,fr,KD n t.1 t.2.1 t.2.2 ++ G')) (by
  intro k C hk ⟨G,hC'⟩
  have hC:=hC'.symm
  have hlt':((k:Int) < (l.length:Int)):=by omega
  have hwk:=w64 (n:=k) (by omega)
  have hkx:=some_getD hk blk0
  obtain ⟨x,hxe⟩:∃ x,l.getD k blk0=x:=⟨_,rfl⟩
  rw [hxe] at hkx ⊢
  have hmem:=List.mem_of_getElem? hkx
  obtain ⟨a,r,a1,hr,a2,_⟩:=hv.at2 hkx
  have hEA:Ext A C:=hC ▸ (hE _).trans ⟨G,rfl⟩
  have ld:=a2 C hEA
  have hbC:base≤C.length:=by rw [← hC,List.length_append,hK];omega
  have hgg:∀ c,getC (C ++ [Ob.cells 0 c]) C.length 0=some c:=fun c=>getC_new C 0 c
  have hss:∀ c d,(C ++ [c]).set C.length d=C ++ [d]:=fun c d=>set_snoc C c d
  have eC:∀ c,Ext C (C ++ [Ob.cells 0 c]):=fun c=>Ext.app _ _
  have eG:∀ c:List V,C ++ [Ob.cells 0 c]=K (n0+cI (l.take k)) ++ (G ++ [Ob.cells 0 c]):=fun c=>by rw [← hC,List.append_assoc]
  obtain ⟨cv,rfl,hcv⟩:=id hr
  have hcl:=(rdI_ext hcv (hEA.trans (eC [Sb x.label,cv]))).len
  have hco:=hcv.one
  have hct:=cI_take hkx
  have hl2:(C ++ [Ob.cells 0 [Sb x.label,cv]]).length=C.length+1:=by simp
  have hL1:L0≤C.length+1:=by rw [← hC,List.length_append,hK];omega
  have hin:=cd_l0 (CT:=CT) (Gf:=Gf) (y:=y) (v13:=v13) (v21:=bv) (i:=i) (b:=k) (n14:=n14) (n15:=n15) (n22:=l.length) (n23:=k) base (L:=C.length+1) hL1 hK hKD hE hb hcv (hnc x hmem) (n0:=n0+cI (l.take k)) (hy k x hkx) (C ++ [Ob.cells 0 [Sb x.label,cv]]) ⟨G ++ [Ob.cells 0 [Sb x.label,cv]],eG _⟩
  rw [show n0+cI (l.take k)+x.code.length=n0+cI (l.take (k+1)) by rw [hct];omega] at hin
  rcases hin with ⟨z1,G',z2⟩ | ⟨t,z1,fr,n,G',z2⟩
  ·obtain ⟨G2,hG2⟩:=trim_app2 (C:=K (n0+cI (l.take (k+1)))) (m:=L) (by rw [hK];exact hL) (frOf 47 [(0,y),(3,Iz i),(13,v13),(14,Iz n14),(15,Iz n15),(21,bv),(22,Iz l.length),(23,Iz (k+1:Nat))]) G'
   refine .inl ⟨z1,K (n0+cI (l.take (k+1))) ++ G2,?_,G2,rfl⟩
   simp only [Iz,bl] at z2 hG2 ld ⊢
   rw [itW_step]
   simp only [Iz,bl,a_f168,s_f168_l0_b,s_f168_l1_b,s_f168_l2_b,aa,reduceIte,reduceCtorEq,Nat.reduceEqDiff,Nat.reduceLT,Nat.reduceLeDiff,Nat.reduceBEq,Nat.reduceAdd,Nat.reduceMul,op_appR,hlt',a1,ld,hbC,hgg,hss,hco,hcl,Bool.and_self,hl2,z2,hwk,hG2]
  ·obtain ⟨G2,hG2⟩:=trim_app2 (C:=KD n t.1 t.2.1 t.2.2) (m:=L) (by rw [hKD];exact hL) (killS [] fr) G'
   refine .inr ⟨t,z1,killS [] fr,n,G2,?_⟩
   simp only [Iz,bl] at z2 hG2 ld ⊢
   rw [itW_step]
   simp only [Iz,bl,a_f168,s_f168_l0_b,s_f168_l1_b,s_f168_l2_b,aa,reduceIte,reduceCtorEq,Nat.reduceEqDiff,Nat.reduceLT,Nat.reduceLeDiff,Nat.reduceBEq,Nat.reduceAdd,Nat.reduceMul,op_appR,hlt',a1,ld,hbC,hgg,hss,hco,hcl,Bool.and_self,hl2,z2,hG2]) C0 (by rw [List.take_zero,show n0+cI []=n0 from rfl];exact hC0) with ⟨e1,C,e2,G,e3⟩ | e
 ·refine .inl ⟨e1,?_⟩
  rw [List.take_length] at e3
  obtain ⟨G',hG'⟩:=trim_app2 (C:=K (n0+cI l)) (m:=L) (by rw [hK];exact hL) (frOf 47 [(0,y),(3,Iz i),(13,v13),(14,Iz n14),(15,Iz n15),(21,bv),(22,Iz l.length),(23,Iz l.length),(24,bl false)]) G
  refine ⟨G',?_⟩
  rw [cast0] at e2
  refine e2.trans ?_
  subst e3
  rw [itW_step]
  simp only [Iz,bl] at hG'
  simp only [Iz,bl,a_f168,s_f168_l0_b,s_f168_l1_b,s_f168_l2_b,aa,reduceIte,reduceCtorEq,Nat.reduceEqDiff,Nat.reduceLT,Nat.reduceLeDiff,Nat.reduceBEq,Nat.reduceAdd,Nat.reduceMul,op_appR,Int.lt_irrefl,hG']
 ·rw [cast0] at e
  exact .inr e
theorem cd_l2 (base:Nat) {A:Heap} {K:Nat→Heap} {KD:Nat→Nat→Nat→Nat→Heap} {Gf:Nat→Nat→Nat→Nat→InsD→Bool} {y:V} {L0 L:Nat} (hL:L0≤L) (hK:∀ n,(K n).length=L0) (hKD:∀ n i b k,(KD n i b k).length=L0) (hE:∀ n,Ext A (K n)) (hb:base≤L0) {fv:V} {l:List FunD} (hv:RdL 3 RdFun A fv l) (hn:l.length < 2 ^ 20) (hnb:∀ f∈l,f.blocks.length < 2 ^ 20) (hnc:∀ f∈l,∀ b∈f.blocks,b.code.length < 2 ^ 20) (hy:∀ i f,l[i]?=some f→∀ b x,f.blocks[b]?=some x→∀ k z r,x.code[k]?=some z→RdIns A r z→Yld CT base y K KD (cF (l.take i)+cI (f.blocks.take b)+k) i b k r (Gf (cF (l.take i)+cI (f.blocks.take b)+k) i b k z)):
 ∀ C,(∃ G,C=K (0) ++ G)→(srch (giF Gf l) l 0=none∧∃ G',itW (evC (callW CT) itW base s_f168_l2) [] L (frOf 47 [(0,y),(13,fv),(14,Iz l.length),(15,Iz 0)]) C=some (.ext 0,frOf 47 [(0,y),(13,fv),(14,Iz l.length),(15,Iz l.length),(16,bl false)],K (cF l) ++ G'))∨∃ t,srch (giF Gf l) l 0=some t∧∃ fr n G',itW (evC (callW CT) itW base s_f168_l2) [] L (frOf 47 [(0,y),(13,fv),(14,Iz l.length),(15,Iz 0)]) C=some (.ret,fr,KD n t.1 t.2.1 t.2.2 ++ G'):=by
 intro C0 hC0
 rcases it_srch l fun0 (giF Gf l) (fun k C=>∃ G,C=K (cF (l.take k)) ++ G) (fun k C=>itW (evC (callW CT) itW base s_f168_l2) [] L (frOf 47 [(0,y),(13,fv),(14,Iz l.length),(15,Iz k)]) C) (fun t r=>∃ fr n G',r=some (.ret,fr,KD n t.1 t.2.1 t.2.2 ++ G')) (by
  intro k C hk ⟨G,hC'⟩
  have hC:=hC'.symm
  have hlt':((k:Int) < (l.length:Int)):=by omega
  have hwk:=w64 (n:=k) (by omega)
  have hkx:=some_getD hk fun0
  obtain ⟨x,hxe⟩:∃ x,l.getD k fun0=x:=⟨_,rfl⟩
  rw [hxe] at hkx ⊢
  have hmem:=List.mem_of_getElem? hkx
  obtain ⟨a,r,a1,hr,a2,_⟩:=hv.at2 hkx
  have hEA:Ext A C:=hC ▸ (hE _).trans ⟨G,rfl⟩
  have ld:=a2 C hEA
  have hbC:base≤C.length:=by rw [← hC,List.length_append,hK];omega
  have hgg:∀ c,getC (C ++ [Ob.cells 0 c]) C.length 0=some c:=fun c=>getC_new C 0 c
  have hss:∀ c d,(C ++ [c]).set C.length d=C ++ [d]:=fun c d=>set_snoc C c d
  have eC:∀ c,Ext C (C ++ [Ob.cells 0 c]):=fun c=>Ext.app _ _
  have eG:∀ c:List V,C ++ [Ob.cells 0 c]=K (cF (l.take k)) ++ (G ++ [Ob.cells 0 c]):=fun c=>by rw [← hC,List.append_assoc]
  obtain ⟨pv,bv,rfl,q1,q2,q3,hbv⟩:=id hr
  have hpo:=q1.one
  have hbo:=hbv.one
  have hbl:=(rdB_ext hbv (hEA.trans (eC [Sb x.name,pv,bv]))).len
  have hct:=cF_take hkx
  have hl2:(C ++ [Ob.cells 0 [Sb x.name,pv,bv]]).length=C.length+1:=by simp
  have hL1:L0≤C.length+1:=by rw [← hC,List.length_append,hK];omega
  have hin:=cd_l1 (CT:=CT) (Gf:=Gf) (y:=y) (v13:=fv) (i:=k) (n14:=l.length) (n15:=k) base (L:=C.length+1) hL1 hK hKD hE hb hbv (hnb x hmem) (hnc x hmem) (n0:=cF (l.take k)) (hy k x hkx) (C ++ [Ob.cells 0 [Sb x.name,pv,bv]]) ⟨G ++ [Ob.cells 0 [Sb x.name,pv,bv]],eG _⟩
  rw [← hct] at hin
  rcases hin with ⟨z1,G',z2⟩ | ⟨t,z1,fr,n,G',z2⟩
  ·obtain ⟨G2,hG2⟩:=trim_app2 (C:=K (cF (l.take (k+1)))) (m:=L) (by rw [hK];exact hL) (frOf 47 [(0,y),(13,fv),(14,Iz l.length),(15,Iz (k+1:Nat))]) G'
   refine .inl ⟨z1,K (cF (l.take (k+1))) ++ G2,?_,G2,rfl⟩
   simp only [Iz,bl] at z2 hG2 ld ⊢
   rw [itW_step]
   simp only [Iz,bl,a_f168,s_f168_l0_b,s_f168_l1_b,s_f168_l2_b,aa,reduceIte,reduceCtorEq,Nat.reduceEqDiff,Nat.reduceLT,Nat.reduceLeDiff,Nat.reduceBEq,Nat.reduceAdd,Nat.reduceMul,op_appR,hlt',a1,ld,hbC,hgg,hss,hpo,hbo,hbl,Bool.and_self,hl2,z2,hwk,hG2]
  ·obtain ⟨G2,hG2⟩:=trim_app2 (C:=KD n t.1 t.2.1 t.2.2) (m:=L) (by rw [hKD];exact hL) (killS [] fr) G'
   refine .inr ⟨t,z1,killS [] fr,n,G2,?_⟩
   simp only [Iz,bl] at z2 hG2 ld ⊢
   rw [itW_step]
   simp only [Iz,bl,a_f168,s_f168_l0_b,s_f168_l1_b,s_f168_l2_b,aa,reduceIte,reduceCtorEq,Nat.reduceEqDiff,Nat.reduceLT,Nat.reduceLeDiff,Nat.reduceBEq,Nat.reduceAdd,Nat.reduceMul,op_appR,hlt',a1,ld,hbC,hgg,hss,hpo,hbo,hbl,Bool.and_self,hl2,z2,hG2]) C0 (by rw [List.take_zero,show cF []=0 from rfl];exact hC0) with ⟨e1,C,e2,G,e3⟩ | e
 ·refine .inl ⟨e1,?_⟩
  rw [List.take_length] at e3
  obtain ⟨G',hG'⟩:=trim_app2 (C:=K (cF l)) (m:=L) (by rw [hK];exact hL) (frOf 47 [(0,y),(13,fv),(14,Iz l.length),(15,Iz l.length),(16,bl false)]) G
  refine ⟨G',?_⟩
  rw [cast0] at e2
  refine e2.trans ?_
  subst e3
  rw [itW_step]
  simp only [Iz,bl] at hG'
  simp only [Iz,bl,a_f168,s_f168_l0_b,s_f168_l1_b,s_f168_l2_b,aa,reduceIte,reduceCtorEq,Nat.reduceEqDiff,Nat.reduceLT,Nat.reduceLeDiff,Nat.reduceBEq,Nat.reduceAdd,Nat.reduceMul,op_appR,Int.lt_irrefl,hG']
 ·rw [cast0] at e
  exact .inr e
theorem code1_fun (hT:CT k_f168=some (.code s_f168)) (base:Nat) {A:Heap} {K:Nat→Heap} {KD:Nat→Nat→Nat→Nat→Heap} {Gf:Nat→Nat→Nat→Nat→InsD→Bool} {y:V} {L0:Nat} (hK:∀ n,(K n).length=L0) (hKD:∀ n i b k,(KD n i b k).length=L0) (hE:∀ n,Ext A (K n)) (hb:base≤L0) {w w1 sm:Nat} {fv:V} {fs:List FunD} (hc:NC A w sm fv fs) (hw:getC (K 0) w1 0=some [.ref w 0 0])
 (hy:∀ i f,fs[i]?=some f→∀ b x,f.blocks[b]?=some x→∀ k z r,x.code[k]?=some z→RdIns A r z→Yld CT base y K KD (cF (fs.take i)+cI (f.blocks.take b)+k) i b k r (Gf (cF (fs.take i)+cI (f.blocks.take b)+k) i b k z)):
 (gSrch Gf fs=none∧∃ G,callW CT (.fn k_f168 [] [.ref w1 0 0]) [y] base (K 0)=some (.tup [],K (cF fs) ++ G))∨∃ t,gSrch Gf fs=some t∧∃ n G,callW CT (.fn k_f168 [] [.ref w1 0 0]) [y] base (K 0)=some (.tup [],KD n t.1 t.2.1 t.2.2 ++ G):=by
 have x1:=getC_load hw
 have x2:=hc.load (hE 0)
 have x3:=(hc.rd.ext (hE 0)).len
 rcases cd_l2 (CT:=CT) (Gf:=Gf) (y:=y) (L:=L0) base (Nat.le_refl _) hK hKD hE hb hc.rd hc.sml.n hc.sml.nb hc.sml.nc hy (K 0) ⟨[],(List.append_nil _).symm⟩ with ⟨z1,G,z2⟩ | ⟨t,z1,fr,n,G,z2⟩
 ·refine .inl ⟨z1,G,callW_fn (c:=s_f168) hT (by simp [s_f168]) ?_⟩
  simp only [Iz,bl] at z2 x3
  simp only [s_f168,a_f168,s_f168_l0_b,s_f168_l1_b,s_f168_l2_b,aa,reduceIte,reduceCtorEq,Nat.reduceEqDiff,Nat.reduceLT,Nat.reduceLeDiff,Nat.reduceBEq,Nat.reduceAdd,Nat.reduceMul,op_appR,x1,x2,x3,hK,z2,res_nil]
 ·refine .inr ⟨t,z1,n,G,callW_fn (c:=s_f168) hT (by simp [s_f168]) ?_⟩
  simp only [Iz,bl] at z2 x3
  simp only [s_f168,a_f168,s_f168_l0_b,s_f168_l1_b,s_f168_l2_b,aa,reduceIte,reduceCtorEq,Nat.reduceEqDiff,Nat.reduceLT,Nat.reduceLeDiff,Nat.reduceBEq,Nat.reduceAdd,Nat.reduceMul,op_appR,x1,x2,x3,hK,z2,res_nil]
end
end Go.Proofs.YtngfpadeebpoeaaGreatDoor
set_option maxRecDepth 100000
namespace Go.Proofs.YtngfpadeebpoeaaGreatDoor
open Go.AM
theorem joinOkM {M:Nat} {xs:List ByteArray} {sep:ByteArray} (h1:xs.length≤1048576) (h2:∀ x∈xs,x.size≤M) (hM:M≤1048576) (h3:sep.size≤2):JoinOk xs sep∧(joinB xs sep).size≤xs.length * (M+2):=by
 have h:=join_le sep.data.toList (M:=M) (xs:=xs.map (·.data.toList)) (by
  intro x hx
  obtain ⟨b,hb,rfl⟩:=List.mem_map.1 hx
  exact h2 b hb)
 have h3':sep.data.toList.length≤2:=h3
 rw [List.length_map] at h
 have h4:xs.length * (sep.data.toList.length+M)≤xs.length * (M+2):=Nat.mul_le_mul_left _ (by omega)
 have h5:xs.length * (M+2)≤1048576 * 1048578:=Nat.mul_le_mul h1 (by omega)
 exact ⟨⟨by omega,by omega⟩,Nat.le_trans h h4⟩
theorem two_le {M:Nat} {a b:ByteArray} (ha:a.size≤M) (hb:b.size≤M):∀ x∈[a,b],x.size≤M:=by
 intro x hx
 simp only [List.mem_cons,List.not_mem_nil,or_false] at hx
 rcases hx with rfl | rfl <;> assumption
theorem three_le {M:Nat} {a b c:ByteArray} (ha:a.size≤M) (hb:b.size≤M) (hc:c.size≤M):∀ x∈[a,b,c],x.size≤M:=by
 intro x hx
 simp only [List.mem_cons,List.not_mem_nil,or_false] at hx
 rcases hx with rfl | rfl | rfl <;> assumption
def bAlloca:ByteArray:=⟨#[97,108,108,111,99,97]⟩
def bMalloc:ByteArray:=⟨#[109,97,108,108,111,99]⟩
def bNull:ByteArray:=⟨#[110,117,108,108]⟩
def bAddr:ByteArray:=⟨#[97,100,100,114]⟩
def bCopy:ByteArray:=⟨#[99,111,112,121]⟩
def bPhi:ByteArray:=⟨#[112,104,105]⟩
def bField:ByteArray:=⟨#[102,105,101,108,100]⟩
def bLoad:ByteArray:=⟨#[108,111,97,100]⟩
def bStore:ByteArray:=⟨#[115,116,111,114,101]⟩
def bCall:ByteArray:=⟨#[99,97,108,108]⟩
def bICall:ByteArray:=⟨#[105,99,97,108,108]⟩
def bBr:ByteArray:=⟨#[98,114]⟩
def bGoto:ByteArray:=⟨#[103,111,116,111]⟩
def bRet:ByteArray:=⟨#[114,101,116]⟩
def bComma:ByteArray:=⟨#[44]⟩
def itB (n:Int):ByteArray:=⟨(Lib.decDigits n.toNat).toArray⟩
theorem decDigits_len:∀ n:Nat,n < 100→(Lib.decDigits n).length≤2:=by
 intro n hn
 rw [Lib.decDigits]
 split
 ·simp
 ·rw [Lib.decDigits,dif_pos (by omega)]
  simp
theorem itB_size {n:Int} (h0:0≤n) (h1:n < 100):(itB n).size≤2:=decDigits_len n.toNat (by omega)
structure SmI (x:InsD):Prop where
 d:x.d.size≤200
 a:x.a.size≤200
 b:x.b.size≤200
 f:x.f.size≤200
 nx:x.xs.length≤20
 nl:x.ls.length≤20
 xs:∀ s∈x.xs,s.size≤200
 ls:∀ s∈x.ls,s.size≤200
structure WorT (CT:Nat→Option CFun):Prop where
 L:LibT CT
 W:CT k_f21=some (.code s_f21)
 A:CT k_f22=some (.code s_f22)
 T:CT k_f69=some (.prim trimG)
theorem argsT_size {xs:List ByteArray} (h1:xs.length≤20) (h2:∀ x∈xs,x.size≤200):JoinOk xs bCm∧(argsT xs).size≤5000:=by
 have h:=joinOkM (sep:=bCm) (by omega) h2 (by omega) (by decide)
 have n1:(⟨#[40]⟩:ByteArray).size=1:=rfl
 have n2:(⟨#[41]⟩:ByteArray).size=1:=rfl
 have h3:xs.length * (200+2)≤20 * 202:=Nat.mul_le_mul_right _ h1
 refine ⟨h.1,?_⟩
 unfold argsT
 rw [size_cat,size_cat]
 omega
section
variable {CT:Nat→Option CFun}
theorem f5_fun (h:WorT CT) (hT:CT k_f57=some (.code s_f57)) (base:Nat) {A:Heap} {av lv:V} {x:InsD} (hr:RdIns A (insC x av lv) x) (hx:SmI x):
 ∃ H',callW CT (.fn k_f57 [] []) [.agg (insC x av lv)] base A=some (Sb (wordsT [bAddr,x.f]),H')∧Ext A H':=by
 obtain ⟨av',lv',he,q1,q2,q3,q4,_⟩:=hr
 cases he
 have hav:=q1.one
 have hlv:=q3.one
 have ha:=hx.a;have hb:=hx.b;have hf:=hx.f;have hd:=hx.d
 have hl1:=len_snoc A (Ob.cells 0 (insC x av lv))
 have hgg:=getC_new A 0 (insC x av lv)
 have e1:Ext A (A ++ [Ob.cells 0 (insC x av lv)]):=Ext.app _ _
 have hsv:=strs_new (A ++ [Ob.cells 0 (insC x av lv)]) [bAddr,x.f]
 have hj:=joinOkM (xs:=[bAddr,x.f]) (sep:=bSp) (by simp) (two_le (M:=10000) (by first | decide | omega) (by first | decide | omega)) (by omega) (by decide)
 have hw:=words_fun h.L h.W base hsv hj.1
 refine ⟨_,callW_fnA (c:=s_f57) (k:=1) hT rfl (by decide) s_f57_first ?_,e1.trans (Ext.app _ [Ob.cells 0 ([bAddr,x.f].map Sb)])⟩
 rw [hl1] at hw
 simp only [insC,List.map_cons,List.map_nil,List.length_cons,List.length_nil,bAddr] at hw hgg hl1
 simp only [insC,s_f57,a_f57,aa,reduceIte,reduceCtorEq,Nat.reduceEqDiff,Nat.reduceLT,Nat.reduceLeDiff,Nat.reduceBEq,Nat.reduceAdd,Nat.reduceMul,op_appR,hav,hlv,Bool.and_self,hl1,hgg,hw]
 rfl
theorem f6_fun (h:WorT CT) (hT:CT k_f58=some (.code s_f58)) (base:Nat) {A:Heap} {av lv:V} {x:InsD} (hr:RdIns A (insC x av lv) x) (hx:SmI x):
 ∃ H',callW CT (.fn k_f58 [] []) [.agg (insC x av lv)] base A=some (Sb (wordsT [bCopy,x.a]),H')∧Ext A H':=by
 obtain ⟨av',lv',he,q1,q2,q3,q4,_⟩:=hr
 cases he
 have hav:=q1.one
 have hlv:=q3.one
 have ha:=hx.a;have hb:=hx.b;have hf:=hx.f;have hd:=hx.d
 have hl1:=len_snoc A (Ob.cells 0 (insC x av lv))
 have hgg:=getC_new A 0 (insC x av lv)
 have e1:Ext A (A ++ [Ob.cells 0 (insC x av lv)]):=Ext.app _ _
 have hsv:=strs_new (A ++ [Ob.cells 0 (insC x av lv)]) [bCopy,x.a]
 have hj:=joinOkM (xs:=[bCopy,x.a]) (sep:=bSp) (by simp) (two_le (M:=10000) (by first | decide | omega) (by first | decide | omega)) (by omega) (by decide)
 have hw:=words_fun h.L h.W base hsv hj.1
 refine ⟨_,callW_fnA (c:=s_f58) (k:=1) hT rfl (by decide) s_f58_first ?_,e1.trans (Ext.app _ [Ob.cells 0 ([bCopy,x.a].map Sb)])⟩
 rw [hl1] at hw
 simp only [insC,List.map_cons,List.map_nil,List.length_cons,List.length_nil,bCopy] at hw hgg hl1
 simp only [insC,s_f58,a_f58,aa,reduceIte,reduceCtorEq,Nat.reduceEqDiff,Nat.reduceLT,Nat.reduceLeDiff,Nat.reduceBEq,Nat.reduceAdd,Nat.reduceMul,op_appR,hav,hlv,Bool.and_self,hl1,hgg,hw]
 rfl
theorem f9_fun (h:WorT CT) (hT:CT k_f62=some (.code s_f62)) (base:Nat) {A:Heap} {av lv:V} {x:InsD} (hr:RdIns A (insC x av lv) x) (hx:SmI x):
 ∃ H',callW CT (.fn k_f62 [] []) [.agg (insC x av lv)] base A=some (Sb (wordsT [bLoad,x.a]),H')∧Ext A H':=by
 obtain ⟨av',lv',he,q1,q2,q3,q4,_⟩:=hr
 cases he
 have hav:=q1.one
 have hlv:=q3.one
 have ha:=hx.a;have hb:=hx.b;have hf:=hx.f;have hd:=hx.d
 have hl1:=len_snoc A (Ob.cells 0 (insC x av lv))
 have hgg:=getC_new A 0 (insC x av lv)
 have e1:Ext A (A ++ [Ob.cells 0 (insC x av lv)]):=Ext.app _ _
 have hsv:=strs_new (A ++ [Ob.cells 0 (insC x av lv)]) [bLoad,x.a]
 have hj:=joinOkM (xs:=[bLoad,x.a]) (sep:=bSp) (by simp) (two_le (M:=10000) (by first | decide | omega) (by first | decide | omega)) (by omega) (by decide)
 have hw:=words_fun h.L h.W base hsv hj.1
 refine ⟨_,callW_fnA (c:=s_f62) (k:=1) hT rfl (by decide) s_f62_first ?_,e1.trans (Ext.app _ [Ob.cells 0 ([bLoad,x.a].map Sb)])⟩
 rw [hl1] at hw
 simp only [insC,List.map_cons,List.map_nil,List.length_cons,List.length_nil,bLoad] at hw hgg hl1
 simp only [insC,s_f62,a_f62,aa,reduceIte,reduceCtorEq,Nat.reduceEqDiff,Nat.reduceLT,Nat.reduceLeDiff,Nat.reduceBEq,Nat.reduceAdd,Nat.reduceMul,op_appR,hav,hlv,Bool.and_self,hl1,hgg,hw]
 rfl
theorem f10_fun (h:WorT CT) (hT:CT k_f63=some (.code s_f63)) (base:Nat) {A:Heap} {av lv:V} {x:InsD} (hr:RdIns A (insC x av lv) x) (hx:SmI x):
 ∃ H',callW CT (.fn k_f63 [] []) [.agg (insC x av lv)] base A=some (Sb (wordsT [bStore,x.a ++ bComma,x.b]),H')∧Ext A H':=by
 obtain ⟨av',lv',he,q1,q2,q3,q4,_⟩:=hr
 cases he
 have hav:=q1.one
 have hlv:=q3.one
 have ha:=hx.a;have hb:=hx.b;have hf:=hx.f;have hd:=hx.d
 have hl1:=len_snoc A (Ob.cells 0 (insC x av lv))
 have hgg:=getC_new A 0 (insC x av lv)
 have e1:Ext A (A ++ [Ob.cells 0 (insC x av lv)]):=Ext.app _ _
 have n1:bComma.size=1:=rfl
 have c1:x.a.size+bComma.size≤4611686018427387904:=by omega
 have c2:(x.a ++ bComma).size≤10000:=by rw [size_cat];omega
 have hsv:=strs_new (A ++ [Ob.cells 0 (insC x av lv)]) [bStore,x.a ++ bComma,x.b]
 have hj:=joinOkM (xs:=[bStore,x.a ++ bComma,x.b]) (sep:=bSp) (by simp) (three_le (M:=10000) (by first | decide | omega) (by first | decide | omega) (by first | decide | omega)) (by omega) (by decide)
 have hw:=words_fun h.L h.W base hsv hj.1
 refine ⟨_,callW_fnA (c:=s_f63) (k:=1) hT rfl (by decide) s_f63_first ?_,e1.trans (Ext.app _ [Ob.cells 0 ([bStore,x.a ++ bComma,x.b].map Sb)])⟩
 rw [hl1] at hw
 simp only [insC,List.map_cons,List.map_nil,List.length_cons,List.length_nil,bStore,bComma] at hw hgg hl1 c1
 simp only [insC,s_f63,a_f63,aa,reduceIte,reduceCtorEq,Nat.reduceEqDiff,Nat.reduceLT,Nat.reduceLeDiff,Nat.reduceBEq,Nat.reduceAdd,Nat.reduceMul,op_appR,hav,hlv,Bool.and_self,hl1,hgg,hw,catOk c1,if_false]
 rfl
theorem f11_fun (h:WorT CT) (hT:CT k_f64=some (.code s_f64)) (base:Nat) {A:Heap} {av lv:V} {x:InsD} (hr:RdIns A (insC x av lv) x) (hx:SmI x):
 ∃ H',callW CT (.fn k_f64 [] []) [.agg (insC x av lv)] base A=some (Sb (wordsT [bCall,x.f ++ argsT x.xs]),H')∧Ext A H':=by
 obtain ⟨av',lv',he,q1,q2,q3,q4,_⟩:=hr
 cases he
 have hav:=q1.one
 have hlv:=q3.one
 have ha:=hx.a;have hb:=hx.b;have hf:=hx.f;have hd:=hx.d
 have hl1:=len_snoc A (Ob.cells 0 (insC x av lv))
 have hgg:=getC_new A 0 (insC x av lv)
 have e1:Ext A (A ++ [Ob.cells 0 (insC x av lv)]):=Ext.app _ _
 have hz:=argsT_size hx.nx hx.xs
 have hA:=args_fun h.L h.A (A ++ [Ob.cells 0 (insC x av lv)]).length (strs_rd (q1.ext e1) q2) hz.1
 rw [hl1] at hA
 have c1:x.f.size+(argsT x.xs).size≤4611686018427387904:=by omega
 have c2:(x.f ++ argsT x.xs).size≤10000:=by rw [size_cat];omega
 have hsv:=strs_new (A ++ [Ob.cells 0 (insC x av lv)]) [bCall,x.f ++ argsT x.xs]
 have hj:=joinOkM (xs:=[bCall,x.f ++ argsT x.xs]) (sep:=bSp) (by simp) (two_le (M:=10000) (by first | decide | omega) (by first | decide | omega)) (by omega) (by decide)
 have hw:=words_fun h.L h.W base hsv hj.1
 refine ⟨_,callW_fnA (c:=s_f64) (k:=1) hT rfl (by decide) s_f64_first ?_,e1.trans (Ext.app _ [Ob.cells 0 ([bCall,x.f ++ argsT x.xs].map Sb)])⟩
 rw [hl1] at hw
 simp only [insC,List.map_cons,List.map_nil,List.length_cons,List.length_nil,bCall] at hw hgg hl1 hA
 simp only [insC,s_f64,a_f64,aa,reduceIte,reduceCtorEq,Nat.reduceEqDiff,Nat.reduceLT,Nat.reduceLeDiff,Nat.reduceBEq,Nat.reduceAdd,Nat.reduceMul,op_appR,hav,hlv,Bool.and_self,hl1,hgg,hw,hA,catOk c1,if_false]
 rfl
theorem f12_fun (h:WorT CT) (hT:CT k_f65=some (.code s_f65)) (base:Nat) {A:Heap} {av lv:V} {x:InsD} (hr:RdIns A (insC x av lv) x) (hx:SmI x):
 ∃ H',callW CT (.fn k_f65 [] []) [.agg (insC x av lv)] base A=some (Sb (wordsT [bICall,x.a ++ argsT x.xs]),H')∧Ext A H':=by
 obtain ⟨av',lv',he,q1,q2,q3,q4,_⟩:=hr
 cases he
 have hav:=q1.one
 have hlv:=q3.one
 have ha:=hx.a;have hb:=hx.b;have hf:=hx.f;have hd:=hx.d
 have hl1:=len_snoc A (Ob.cells 0 (insC x av lv))
 have hgg:=getC_new A 0 (insC x av lv)
 have e1:Ext A (A ++ [Ob.cells 0 (insC x av lv)]):=Ext.app _ _
 have hz:=argsT_size hx.nx hx.xs
 have hA:=args_fun h.L h.A (A ++ [Ob.cells 0 (insC x av lv)]).length (strs_rd (q1.ext e1) q2) hz.1
 rw [hl1] at hA
 have c1:x.a.size+(argsT x.xs).size≤4611686018427387904:=by omega
 have c2:(x.a ++ argsT x.xs).size≤10000:=by rw [size_cat];omega
 have hsv:=strs_new (A ++ [Ob.cells 0 (insC x av lv)]) [bICall,x.a ++ argsT x.xs]
 have hj:=joinOkM (xs:=[bICall,x.a ++ argsT x.xs]) (sep:=bSp) (by simp) (two_le (M:=10000) (by first | decide | omega) (by first | decide | omega)) (by omega) (by decide)
 have hw:=words_fun h.L h.W base hsv hj.1
 refine ⟨_,callW_fnA (c:=s_f65) (k:=1) hT rfl (by decide) s_f65_first ?_,e1.trans (Ext.app _ [Ob.cells 0 ([bICall,x.a ++ argsT x.xs].map Sb)])⟩
 rw [hl1] at hw
 simp only [insC,List.map_cons,List.map_nil,List.length_cons,List.length_nil,bICall] at hw hgg hl1 hA
 simp only [insC,s_f65,a_f65,aa,reduceIte,reduceCtorEq,Nat.reduceEqDiff,Nat.reduceLT,Nat.reduceLeDiff,Nat.reduceBEq,Nat.reduceAdd,Nat.reduceMul,op_appR,hav,hlv,Bool.and_self,hl1,hgg,hw,hA,catOk c1,if_false]
 rfl
theorem f13_fun (h:WorT CT) (hT:CT k_f66=some (.code s_f66)) (base:Nat) {A:Heap} {av lv:V} {x:InsD} (hr:RdIns A (insC x av lv) x) (hx:SmI x) (hn:x.ls.length=2):
 ∃ H',callW CT (.fn k_f66 [] []) [.agg (insC x av lv)] base A=some (Sb (wordsT [bBr,x.ls.getD 0 ⟨#[]⟩,x.ls.getD 1 ⟨#[]⟩]),H')∧Ext A H':=by
 obtain ⟨av',lv',he,q1,q2,q3,q4,_⟩:=hr
 cases he
 have hav:=q1.one
 have hlv:=q3.one
 have ha:=hx.a;have hb:=hx.b;have hf:=hx.f;have hd:=hx.d
 have hl1:=len_snoc A (Ob.cells 0 (insC x av lv))
 have hgg:=getC_new A 0 (insC x av lv)
 have e1:Ext A (A ++ [Ob.cells 0 (insC x av lv)]):=Ext.app _ _
 obtain ⟨a0,i0,l0⟩:=Sb_at (q3.ext e1) q4 (k:=0) (by omega)
 have i0:xIndexAddr 1 lv (.s (.int .i64 0))=some a0:=i0
 have z0:(x.ls.getD 0 ⟨#[]⟩).size≤200:=hx.ls _ (by rw [List.getD_eq_getElem?_getD,List.getElem?_eq_getElem (by omega)];exact List.getElem_mem _)
 obtain ⟨a1,i1,l1⟩:=Sb_at (q3.ext e1) q4 (k:=1) (by omega)
 have i1:xIndexAddr 1 lv (.s (.int .i64 1))=some a1:=i1
 have z1:(x.ls.getD 1 ⟨#[]⟩).size≤200:=hx.ls _ (by rw [List.getD_eq_getElem?_getD,List.getElem?_eq_getElem (by omega)];exact List.getElem_mem _)
 have hsv:=strs_new (A ++ [Ob.cells 0 (insC x av lv)]) [bBr,x.ls.getD 0 ⟨#[]⟩,x.ls.getD 1 ⟨#[]⟩]
 have hj:=joinOkM (xs:=[bBr,x.ls.getD 0 ⟨#[]⟩,x.ls.getD 1 ⟨#[]⟩]) (sep:=bSp) (by simp) (three_le (M:=10000) (by first | decide | omega) (by first | decide | omega) (by first | decide | omega)) (by omega) (by decide)
 have hw:=words_fun h.L h.W base hsv hj.1
 refine ⟨_,callW_fnA (c:=s_f66) (k:=1) hT rfl (by decide) s_f66_first ?_,e1.trans (Ext.app _ [Ob.cells 0 ([bBr,x.ls.getD 0 ⟨#[]⟩,x.ls.getD 1 ⟨#[]⟩].map Sb)])⟩
 rw [hl1] at hw
 simp only [insC,List.map_cons,List.map_nil,List.length_cons,List.length_nil,bBr] at hw hgg hl1 l0 l1
 simp only [insC,s_f66,a_f66,aa,reduceIte,reduceCtorEq,Nat.reduceEqDiff,Nat.reduceLT,Nat.reduceLeDiff,Nat.reduceBEq,Nat.reduceAdd,Nat.reduceMul,op_appR,hav,hlv,Bool.and_self,hl1,hgg,hw,i0,l0,i1,l1]
 rfl
theorem f14_fun (h:WorT CT) (hT:CT k_f67=some (.code s_f67)) (base:Nat) {A:Heap} {av lv:V} {x:InsD} (hr:RdIns A (insC x av lv) x) (hx:SmI x) (hn:x.ls.length=1):
 ∃ H',callW CT (.fn k_f67 [] []) [.agg (insC x av lv)] base A=some (Sb (wordsT [bGoto,x.ls.getD 0 ⟨#[]⟩]),H')∧Ext A H':=by
 obtain ⟨av',lv',he,q1,q2,q3,q4,_⟩:=hr
 cases he
 have hav:=q1.one
 have hlv:=q3.one
 have ha:=hx.a;have hb:=hx.b;have hf:=hx.f;have hd:=hx.d
 have hl1:=len_snoc A (Ob.cells 0 (insC x av lv))
 have hgg:=getC_new A 0 (insC x av lv)
 have e1:Ext A (A ++ [Ob.cells 0 (insC x av lv)]):=Ext.app _ _
 obtain ⟨a0,i0,l0⟩:=Sb_at (q3.ext e1) q4 (k:=0) (by omega)
 have i0:xIndexAddr 1 lv (.s (.int .i64 0))=some a0:=i0
 have z0:(x.ls.getD 0 ⟨#[]⟩).size≤200:=hx.ls _ (by rw [List.getD_eq_getElem?_getD,List.getElem?_eq_getElem (by omega)];exact List.getElem_mem _)
 have hsv:=strs_new (A ++ [Ob.cells 0 (insC x av lv)]) [bGoto,x.ls.getD 0 ⟨#[]⟩]
 have hj:=joinOkM (xs:=[bGoto,x.ls.getD 0 ⟨#[]⟩]) (sep:=bSp) (by simp) (two_le (M:=10000) (by first | decide | omega) (by first | decide | omega)) (by omega) (by decide)
 have hw:=words_fun h.L h.W base hsv hj.1
 refine ⟨_,callW_fnA (c:=s_f67) (k:=1) hT rfl (by decide) s_f67_first ?_,e1.trans (Ext.app _ [Ob.cells 0 ([bGoto,x.ls.getD 0 ⟨#[]⟩].map Sb)])⟩
 rw [hl1] at hw
 simp only [insC,List.map_cons,List.map_nil,List.length_cons,List.length_nil,bGoto] at hw hgg hl1 l0
 simp only [insC,s_f67,a_f67,aa,reduceIte,reduceCtorEq,Nat.reduceEqDiff,Nat.reduceLT,Nat.reduceLeDiff,Nat.reduceBEq,Nat.reduceAdd,Nat.reduceMul,op_appR,hav,hlv,Bool.and_self,hl1,hgg,hw,i0,l0]
 rfl
theorem f4_fun (hT:CT k_f56=some (.code s_f56)) (base:Nat) {A:Heap} {av lv:V} {x:InsD} (hr:RdIns A (insC x av lv) x):
 ∃ H',callW CT (.fn k_f56 [] []) [.agg (insC x av lv)] base A=some (Sb bNull,H')∧Ext A H':=by
 obtain ⟨av',lv',he,q1,q2,q3,q4,_⟩:=hr
 cases he
 have hav:=q1.one
 have hlv:=q3.one
 refine ⟨_,callW_fnA (c:=s_f56) (k:=1) hT rfl (by decide) s_f56_first ?_,Ext.app A [Ob.cells 0 (insC x av lv)]⟩
 simp only [insC,s_f56,a_f56,aa,reduceIte,reduceCtorEq,Nat.reduceEqDiff,Nat.reduceLT,Nat.reduceLeDiff,Nat.reduceBEq,Nat.reduceAdd,Nat.reduceMul,op_appR,hav,hlv,Bool.and_self]
 rfl
theorem f1_fun (h:WorT CT) (hT:CT k_f52=some (.code s_f52)) (base:Nat) {A:Heap} {av lv:V} {x:InsD} (hav:av.one=true) (hlv:lv.one=true) (h0:0≤x.k) (h1:x.k < 100):
 callW CT (.fn k_f52 [] []) [.agg (insC x av lv)] base A=some (Sb (itB x.k),A ++ [.cells 0 (insC x av lv)]):=by
 have hgg:=getC_new A 0 (insC x av lv)
 have hi:=itoa_fun h.L base (H:=A ++ [.cells 0 (insC x av lv)]) h0 h1
 refine callW_fnA (c:=s_f52) (k:=1) hT rfl (by decide) s_f52_first ?_
 simp only [insC] at hgg hi
 simp only [insC,s_f52,a_f52,aa,reduceIte,reduceCtorEq,Nat.reduceEqDiff,Nat.reduceLT,Nat.reduceLeDiff,Nat.reduceBEq,Nat.reduceAdd,Nat.reduceMul,op_appR,hav,hlv,Bool.and_self,hgg,hi]
 rfl
theorem f2_fun (h:WorT CT) (hT:CT k_f54=some (.code s_f54)) (base:Nat) {A:Heap} {av lv:V} {x:InsD} (hr:RdIns A (insC x av lv) x) (hx:SmI x) (h0:0≤x.k) (h1:x.k < 100) {n:Nat} (hn:getC A n 0=some [.fn k_f52 [] []]) (hN:CT k_f52=some (.code s_f52)):
 ∃ H',callW CT (.fn k_f54 [] [.ref n 0 0]) [.agg (insC x av lv)] base A=some (Sb (wordsT [bAlloca,itB x.k]),H')∧Ext A H':=by
 obtain ⟨av',lv',he,q1,q2,q3,q4,_⟩:=hr
 cases he
 have hav:=q1.one
 have hlv:=q3.one
 have ha:=hx.a;have hb:=hx.b;have hf:=hx.f;have hd:=hx.d
 have hl1:=len_snoc A (Ob.cells 0 (insC x av lv))
 have hgg:=getC_new A 0 (insC x av lv)
 have e1:Ext A (A ++ [Ob.cells 0 (insC x av lv)]):=Ext.app _ _
 have hi:=f1_fun h hN base (A:=A ++ [Ob.cells 0 (insC x av lv)]) hav hlv h0 h1
 have hz:=itB_size h0 h1
 have hn1:=getC_load (getC_ext hn e1)
 have hl2:=len_snoc (A ++ [Ob.cells 0 (insC x av lv)]) (Ob.cells 0 (insC x av lv))
 rw [hl1] at hl2
 have hsv:=strs_new (A ++ [Ob.cells 0 (insC x av lv)] ++ [Ob.cells 0 (insC x av lv)]) [bAlloca,itB x.k]
 have hj:=joinOkM (xs:=[bAlloca,itB x.k]) (sep:=bSp) (by simp) (two_le (M:=10000) (by first | decide | omega) (by first | decide | omega)) (by omega) (by decide)
 have hw:=words_fun h.L h.W base hsv hj.1
 refine ⟨_,callW_fnA (c:=s_f54) (k:=2) hT rfl (by decide) s_f54_first ?_,(e1.trans (Ext.app _ [Ob.cells 0 (insC x av lv)])).trans (Ext.app _ [Ob.cells 0 ([bAlloca,itB x.k].map Sb)])⟩
 rw [hl2] at hw
 simp only [insC,List.map_cons,List.map_nil,List.length_cons,List.length_nil,bAlloca] at hw hgg hl1 hi hn1 hl2
 simp only [insC,s_f54,a_f54,aa,reduceIte,reduceCtorEq,Nat.reduceEqDiff,Nat.reduceLT,Nat.reduceLeDiff,Nat.reduceBEq,Nat.reduceAdd,Nat.reduceMul,op_appR,hav,hlv,Bool.and_self,hl1,hgg,hw,hi,hn1,hl2]
 rfl
theorem f3_fun (h:WorT CT) (hT:CT k_f55=some (.code s_f55)) (base:Nat) {A:Heap} {av lv:V} {x:InsD} (hr:RdIns A (insC x av lv) x) (hx:SmI x) (h0:0≤x.k) (h1:x.k < 100) {n:Nat} (hn:getC A n 0=some [.fn k_f52 [] []]) (hN:CT k_f52=some (.code s_f52)):
 ∃ H',callW CT (.fn k_f55 [] [.ref n 0 0]) [.agg (insC x av lv)] base A=some (Sb (wordsT [bMalloc,itB x.k]),H')∧Ext A H':=by
 obtain ⟨av',lv',he,q1,q2,q3,q4,_⟩:=hr
 cases he
 have hav:=q1.one
 have hlv:=q3.one
 have ha:=hx.a;have hb:=hx.b;have hf:=hx.f;have hd:=hx.d
 have hl1:=len_snoc A (Ob.cells 0 (insC x av lv))
 have hgg:=getC_new A 0 (insC x av lv)
 have e1:Ext A (A ++ [Ob.cells 0 (insC x av lv)]):=Ext.app _ _
 have hi:=f1_fun h hN base (A:=A ++ [Ob.cells 0 (insC x av lv)]) hav hlv h0 h1
 have hz:=itB_size h0 h1
 have hn1:=getC_load (getC_ext hn e1)
 have hl2:=len_snoc (A ++ [Ob.cells 0 (insC x av lv)]) (Ob.cells 0 (insC x av lv))
 rw [hl1] at hl2
 have hsv:=strs_new (A ++ [Ob.cells 0 (insC x av lv)] ++ [Ob.cells 0 (insC x av lv)]) [bMalloc,itB x.k]
 have hj:=joinOkM (xs:=[bMalloc,itB x.k]) (sep:=bSp) (by simp) (two_le (M:=10000) (by first | decide | omega) (by first | decide | omega)) (by omega) (by decide)
 have hw:=words_fun h.L h.W base hsv hj.1
 refine ⟨_,callW_fnA (c:=s_f55) (k:=2) hT rfl (by decide) s_f55_first ?_,(e1.trans (Ext.app _ [Ob.cells 0 (insC x av lv)])).trans (Ext.app _ [Ob.cells 0 ([bMalloc,itB x.k].map Sb)])⟩
 rw [hl2] at hw
 simp only [insC,List.map_cons,List.map_nil,List.length_cons,List.length_nil,bMalloc] at hw hgg hl1 hi hn1 hl2
 simp only [insC,s_f55,a_f55,aa,reduceIte,reduceCtorEq,Nat.reduceEqDiff,Nat.reduceLT,Nat.reduceLeDiff,Nat.reduceBEq,Nat.reduceAdd,Nat.reduceMul,op_appR,hav,hlv,Bool.and_self,hl1,hgg,hw,hi,hn1,hl2]
 rfl
theorem f8_fun (h:WorT CT) (hT:CT k_f61=some (.code s_f61)) (base:Nat) {A:Heap} {av lv:V} {x:InsD} (hr:RdIns A (insC x av lv) x) (hx:SmI x) (h0:0≤x.k) (h1:x.k < 100) {n:Nat} (hn:getC A n 0=some [.fn k_f52 [] []]) (hN:CT k_f52=some (.code s_f52)):
 ∃ H',callW CT (.fn k_f61 [] [.ref n 0 0]) [.agg (insC x av lv)] base A=some (Sb (wordsT [bField,x.a,itB x.k]),H')∧Ext A H':=by
 obtain ⟨av',lv',he,q1,q2,q3,q4,_⟩:=hr
 cases he
 have hav:=q1.one
 have hlv:=q3.one
 have ha:=hx.a;have hb:=hx.b;have hf:=hx.f;have hd:=hx.d
 have hl1:=len_snoc A (Ob.cells 0 (insC x av lv))
 have hgg:=getC_new A 0 (insC x av lv)
 have e1:Ext A (A ++ [Ob.cells 0 (insC x av lv)]):=Ext.app _ _
 have hi:=f1_fun h hN (A ++ [Ob.cells 0 (insC x av lv)]).length (A:=A ++ [Ob.cells 0 (insC x av lv)]) hav hlv h0 h1
 have hz:=itB_size h0 h1
 have hn1:=getC_load (getC_ext hn e1)
 have hl2:=len_snoc (A ++ [Ob.cells 0 (insC x av lv)]) (Ob.cells 0 (insC x av lv))
 rw [hl1] at hl2 hi
 have hsv:=strs_new (A ++ [Ob.cells 0 (insC x av lv)] ++ [Ob.cells 0 (insC x av lv)]) [bField,x.a,itB x.k]
 have hj:=joinOkM (xs:=[bField,x.a,itB x.k]) (sep:=bSp) (by simp) (three_le (M:=10000) (by first | decide | omega) (by first | decide | omega) (by first | decide | omega)) (by omega) (by decide)
 have hw:=words_fun h.L h.W base hsv hj.1
 refine ⟨_,callW_fnA (c:=s_f61) (k:=2) hT rfl (by decide) s_f61_first ?_,(e1.trans (Ext.app _ [Ob.cells 0 (insC x av lv)])).trans (Ext.app _ [Ob.cells 0 ([bField,x.a,itB x.k].map Sb)])⟩
 rw [hl2] at hw
 simp only [insC,List.map_cons,List.map_nil,List.length_cons,List.length_nil,bField] at hw hgg hl1 hi hn1 hl2
 simp only [insC,s_f61,a_f61,aa,reduceIte,reduceCtorEq,Nat.reduceEqDiff,Nat.reduceLT,Nat.reduceLeDiff,Nat.reduceBEq,Nat.reduceAdd,Nat.reduceMul,op_appR,hav,hlv,Bool.and_self,hl1,hgg,hw,hi,hn1,hl2]
 rfl
def retT (x:InsD):ByteArray:=⟨(Lib.trimSuffix (wordsT [bRet,x.a]).data.toList [32]).toArray⟩
theorem trim_fun (h:WorT CT) (base:Nat) {H:Heap} {s:ByteArray} (hs:s.size≤4611686018427387904):callW CT (.fn k_f69 [] []) [.s (.string s),.s (.string ⟨#[32]⟩)] base H=some (.s (.string ⟨(Lib.trimSuffix s.data.toList [32]).toArray⟩),H):=by
 refine callW_eq ?_
 simp only [evCall,h.T,trimG,List.nil_append,List.append_nil]
 exact if_pos hs
theorem f15_fun (h:WorT CT) (hT:CT k_f68=some (.code s_f68)) (base:Nat) {A:Heap} {av lv:V} {x:InsD} (hr:RdIns A (insC x av lv) x) (hx:SmI x):
 ∃ H',callW CT (.fn k_f68 [] []) [.agg (insC x av lv)] base A=some (Sb (retT x),H')∧Ext A H':=by
 obtain ⟨av',lv',he,q1,q2,q3,q4,_⟩:=hr
 cases he
 have hav:=q1.one
 have hlv:=q3.one
 have ha:=hx.a;have hb:=hx.b;have hf:=hx.f;have hd:=hx.d
 have hl1:=len_snoc A (Ob.cells 0 (insC x av lv))
 have hgg:=getC_new A 0 (insC x av lv)
 have e1:Ext A (A ++ [Ob.cells 0 (insC x av lv)]):=Ext.app _ _
 have hsv:=strs_new (A ++ [Ob.cells 0 (insC x av lv)]) [bRet,x.a]
 have hj:=joinOkM (xs:=[bRet,x.a]) (sep:=bSp) (by simp) (two_le (M:=10000) (by first | decide | omega) (by first | decide | omega)) (by omega) (by decide)
 have hw:=words_fun h.L h.W base hsv hj.1
 have ht:=trim_fun h base (H:=A ++ [Ob.cells 0 (insC x av lv)] ++ [Ob.cells 0 ([bRet,x.a].map Sb)]) (s:=wordsT [bRet,x.a]) (by have:=hj.2;simp only [List.length_cons,List.length_nil] at this;exact Nat.le_trans this (by decide))
 refine ⟨_,callW_fnA (c:=s_f68) (k:=1) hT rfl (by decide) s_f68_first ?_,e1.trans (Ext.app _ [Ob.cells 0 ([bRet,x.a].map Sb)])⟩
 rw [hl1] at hw
 simp only [insC,List.map_cons,List.map_nil,List.length_cons,List.length_nil,bRet] at hw hgg hl1 ht
 simp only [insC,s_f68,a_f68,aa,reduceIte,reduceCtorEq,Nat.reduceEqDiff,Nat.reduceLT,Nat.reduceLeDiff,Nat.reduceBEq,Nat.reduceAdd,Nat.reduceMul,op_appR,hav,hlv,Bool.and_self,hl1,hgg,hw,ht]
 rfl
end
end Go.Proofs.YtngfpadeebpoeaaGreatDoor
set_option maxRecDepth 100000
namespace Go.Proofs.YtngfpadeebpoeaaGreatDoor
open Go.AM
def bCol:ByteArray:=⟨#[58,32]⟩
def b0:ByteArray:=⟨#[]⟩
def pairT (l s:ByteArray):ByteArray:=(l ++ bCol) ++ s
def prL (x:InsD) (i:Nat):List ByteArray:=(List.range i).map fun j=>pairT (x.ls.getD j ⟨#[]⟩) (x.xs.getD j ⟨#[]⟩)
def pairsT (x:InsD):ByteArray:=(⟨#[91]⟩ ++ joinB (prL x x.ls.length) bCm) ++ ⟨#[93]⟩
theorem prL_succ (x:InsD) (i:Nat):prL x (i+1)=prL x i ++ [pairT (x.ls.getD i ⟨#[]⟩) (x.xs.getD i ⟨#[]⟩)]:=by
 simp only [prL,List.range_succ,List.map_append,List.map_cons,List.map_nil]
theorem prL_len (x:InsD) (i:Nat):(prL x i).length=i:=by simp [prL]
theorem getD_le {M:Nat} {l:List ByteArray} (h:∀ s∈l,s.size≤M) (i:Nat):(l.getD i ⟨#[]⟩).size≤M:=by
 rw [List.getD_eq_getElem?_getD]
 cases e:l[i]? with
 | none=>exact Nat.zero_le _
 | some s=>exact h s (List.mem_of_getElem? e)
theorem pairT_le {M:Nat} {l s:ByteArray} (h1:l.size≤M) (h2:s.size≤M):(pairT l s).size≤2 * M+2:=by
 have n1:bCol.size=2:=rfl
 unfold pairT
 rw [size_cat,size_cat]
 omega
section
variable {CT:Nat→Option CFun}
theorem pairs_fun (h:WorT CT) (hT:CT k_f60=some (.code s_f60)) (base:Nat) {A:Heap} (hb:base≤A.length) {av lv:V} {x:InsD} (hr:RdIns A (insC x av lv) x) (hx:SmI x) (hn:x.xs.length=x.ls.length):
 ∃ H',callW CT (.fn k_f60 [] []) [.agg (insC x av lv)] base A=some (Sb (pairsT x),H')∧Ext A H':=by
 obtain ⟨av',lv',he,q1,q2,q3,q4,_⟩:=hr
 cases he
 have hav:=q1.one
 have hlv:=q3.one
 obtain ⟨A1,hA1⟩:∃ A1,A ++ [Ob.cells 0 (insC x av lv)]=A1:=⟨_,rfl⟩
 have e1:Ext A A1:=hA1 ▸ Ext.app _ _
 have hl1:A1.length=A.length+1:=by rw [← hA1,len_snoc]
 have hgg:getC A1 A.length 0=some (insC x av lv):=hA1 ▸ getC_new A 0 _
 have hll:=Sb_len (q3.ext e1)
 have nl:=hx.nl
 obtain ⟨⟨v,C⟩,e2,e3⟩:=it_rel (S:=V × Heap) x.ls.length (fun i s=>Acc A1 s.2 s.1 ((prL x i).map Sb)) (fun i s=>itW (evC (callW CT) itW base s_f60_l0) [] (A.length+1) (frOf 30 [(1,.ref A.length 0 0),(3,s.1),(7,lv),(8,Iz x.ls.length),(9,Iz i)]) s.2) (by
  rintro i ⟨v,C⟩ hi hacc
  have eC:=e1.trans hacc.1
  obtain ⟨a0,i0,l0⟩:=Sb_at (q3.ext eC) q4 hi
  obtain ⟨a1,i1,l1⟩:=Sb_at (q1.ext eC) q2 (k:=i) (by omega)
  have hgC:=getC_ext hgg hacc.1
  have z0:=getD_le hx.ls i
  have z1:=getD_le hx.xs i
  have n1:bCol.size=2:=rfl
  have c1:(x.ls.getD i ⟨#[]⟩).size+bCol.size≤4611686018427387904:=by omega
  have c2:(x.ls.getD i ⟨#[]⟩ ++ bCol).size+(x.xs.getD i ⟨#[]⟩).size≤4611686018427387904:=by rw [size_cat];omega
  obtain ⟨v',D,hap,hacc'⟩:=hacc.append (base:=base) (bytes:=16) (by omega) (x:=Sb (pairT (x.ls.getD i ⟨#[]⟩) (x.xs.getD i ⟨#[]⟩))) rfl (by rw [List.length_map,prL_len];omega)
  have hlt:decide ((i:Int) < (x.ls.length:Int))=true:=by simpa using hi
  refine ⟨(v',trim (A.length+1) (frOf 30 [(1,.ref A.length 0 0),(3,v'),(7,lv),(8,Iz x.ls.length),(9,Iz ((i+1:Nat):Int))]) D),?_,?_⟩
  ·rw [itW_step]
   simp only [insC,pairT,bCol] at hgC hap c1 c2
   simp only [insC,Iz,s_f60_l0_ev,a_f60,s_f60_l0_b,aa,reduceIte,reduceCtorEq,Nat.reduceEqDiff,Nat.reduceLT,Nat.reduceLeDiff,Nat.reduceBEq,Nat.reduceAdd,Nat.reduceMul,op_appR,hgC,i0,l0,i1,l1,catOk c1,catOk c2,if_false,hap,hlt,cond_true,w64 (show i < 2 ^ 62 by omega)]
  ·rw [prL_succ,List.map_append]
   refine Acc.trim hacc' (by omega) ?_
   simp [frOf,putV]
   exact ⟨3,by omega,rfl⟩) 0 (nilS,A1) (Nat.zero_le _) (Acc.start A1)
 have e3:Acc A1 C v ((prL x x.ls.length).map Sb):=e3
 obtain ⟨C2,hC2⟩:∃ C2,trim (A.length+1) (frOf 30 [(1,.ref A.length 0 0),(3,v),(7,lv),(8,.s (.int .i64 x.ls.length)),(9,.s (.int .i64 x.ls.length)),(10,.s (.bool false))]) C=C2:=⟨_,rfl⟩
 have e3:Acc A1 C2 v ((prL x x.ls.length).map Sb):=by
  rw [← hC2]
  refine Acc.trim e3 (by omega) ?_
  simp [frOf,putV]
  exact ⟨3,by omega,rfl⟩
 have hj:=joinOkM (xs:=prL x x.ls.length) (sep:=bCm) (by rw [prL_len];omega) (M:=402) (fun s hs=>by
  obtain ⟨j,_,rfl⟩:=List.mem_map.1 hs
  exact pairT_le (getD_le hx.ls j) (getD_le hx.xs j)) (by omega) (by decide)
 have hjn:=join_fun h.L base (strs_rd e3.rd e3.wide) hj.1
 have nz:x.ls.length * (402+2)≤20 * 404:=Nat.mul_le_mul_right _ nl
 have hjs:=hj.2
 rw [prL_len] at hjs
 have n1:(⟨#[91]⟩:ByteArray).size=1:=rfl
 have n2:(⟨#[93]⟩:ByteArray).size=1:=rfl
 have c1:(⟨#[91]⟩:ByteArray).size+(joinB (prL x x.ls.length) bCm).size≤4611686018427387904:=by omega
 have c2:((⟨#[91]⟩:ByteArray) ++ joinB (prL x x.ls.length) bCm).size+(⟨#[93]⟩:ByteArray).size≤4611686018427387904:=by rw [size_cat];omega
 have hge:decide ((x.ls.length:Int) < (x.ls.length:Int))=false:=by simp
 refine ⟨C2,callW_fnA (c:=s_f60) (k:=1) hT rfl (by decide) s_f60_first ?_,e1.trans e3.1⟩
 simp only [insC,Iz,bCm,nilS] at hgg hjn c1 c2 e2 hA1
 rw [show (((0:Nat):Int))=0 from rfl] at e2
 simp only [insC,Iz,s_f60,a_f60,s_f60_l0_b,aa,reduceIte,reduceCtorEq,Nat.reduceEqDiff,Nat.reduceLT,Nat.reduceLeDiff,Nat.reduceBEq,Nat.reduceAdd,Nat.reduceMul,op_appR,hav,hlv,Bool.and_self,hA1,hl1,hgg,hll,e2]
 rw [itW_step]
 simp only [insC,Iz,s_f60_l0_ev,s_f60,a_f60,s_f60_l0_b,aa,reduceIte,reduceCtorEq,Nat.reduceEqDiff,Nat.reduceLT,Nat.reduceLeDiff,Nat.reduceBEq,Nat.reduceAdd,Nat.reduceMul,op_appR,hge,cond_false,hC2,hjn,catOk c1,catOk c2,if_false]
 rfl
theorem pairsT_size {x:InsD} (hx:SmI x):(pairsT x).size≤9000:=by
 have nl:=hx.nl
 have hj:=joinOkM (xs:=prL x x.ls.length) (sep:=bCm) (by rw [prL_len];omega) (M:=402) (fun s hs=>by
  obtain ⟨j,_,rfl⟩:=List.mem_map.1 hs
  exact pairT_le (getD_le hx.ls j) (getD_le hx.xs j)) (by omega) (by decide)
 have nz:x.ls.length * (402+2)≤20 * 404:=Nat.mul_le_mul_right _ nl
 have hjs:=hj.2
 rw [prL_len] at hjs
 have n1:(⟨#[91]⟩:ByteArray).size=1:=rfl
 have n2:(⟨#[93]⟩:ByteArray).size=1:=rfl
 unfold pairsT
 rw [size_cat,size_cat]
 omega
theorem f7_fun (h:WorT CT) (hP:CT k_f60=some (.code s_f60)) (hT:CT k_f59=some (.code s_f59)) (base:Nat) {A:Heap} (hb:base≤A.length) {av lv:V} {x:InsD} (hr:RdIns A (insC x av lv) x) (hx:SmI x) (hn:x.xs.length=x.ls.length):
 ∃ H',callW CT (.fn k_f59 [] []) [.agg (insC x av lv)] base A=some (Sb (wordsT [bPhi,pairsT x]),H')∧Ext A H':=by
 obtain ⟨A1,hA1⟩:∃ A1,A ++ [Ob.cells 0 (insC x av lv)]=A1:=⟨_,rfl⟩
 have e1:Ext A A1:=hA1 ▸ Ext.app _ _
 have hl1:A1.length=A.length+1:=by rw [← hA1,len_snoc]
 have hgg:getC A1 A.length 0=some (insC x av lv):=hA1 ▸ getC_new A 0 _
 obtain ⟨D,hp,e2⟩:=pairs_fun h hP base (by omega) (hr.ext e1) hx hn
 obtain ⟨av',lv',he,q1,q2,q3,q4,_⟩:=hr
 cases he
 have hav:=q1.one
 have hlv:=q3.one
 have hz:=pairsT_size hx
 have hsv:=strs_new D [bPhi,pairsT x]
 have hj:=joinOkM (xs:=[bPhi,pairsT x]) (sep:=bSp) (by simp) (two_le (M:=10000) (by decide) (by omega)) (by omega) (by decide)
 have hw:=words_fun h.L h.W base hsv hj.1
 refine ⟨_,callW_fnA (c:=s_f59) (k:=1) hT rfl (by decide) s_f59_first ?_,(e1.trans e2).trans (Ext.app _ [Ob.cells 0 ([bPhi,pairsT x].map Sb)])⟩
 simp only [insC,List.map_cons,List.map_nil,List.length_cons,List.length_nil,bPhi] at hw hgg hp hA1
 simp only [insC,s_f59,a_f59,aa,reduceIte,reduceCtorEq,Nat.reduceEqDiff,Nat.reduceLT,Nat.reduceLeDiff,Nat.reduceBEq,Nat.reduceAdd,Nat.reduceMul,op_appR,hav,hlv,Bool.and_self,hA1,hl1,hgg,hp,hw]
 rfl
end
end Go.Proofs.YtngfpadeebpoeaaGreatDoor
set_option maxRecDepth 100000
namespace Go.Proofs.YtngfpadeebpoeaaGreatDoor
open Go.AM
def foT (n:Nat):List (Int × V):=[(1,.fn 54 [] [.ref n 0 0]),(2,.fn 55 [] [.ref n 0 0]),(3,.fn 56 [] []),(4,.fn 57 [] []),(5,.fn 58 [] []),(6,.fn 59 [] []),(7,.fn 61 [] [.ref n 0 0]),(8,.fn 62 [] []),(9,.fn 63 [] []),(10,.fn 64 [] []),(11,.fn 65 [] []),(12,.fn 66 [] []),(13,.fn 67 [] []),(14,.fn 68 [] [])]
section
variable {CT:Nat→Option CFun}
theorem forms_fun (hT:CT k_f17=some (.code s_f17)) (base:Nat) {A:Heap} (hb:base≤A.length):
 callW CT (.fn k_f17 [] []) [] base A=some (.mp (A.length+1),A ++ [.cells 0 [.fn 52 [] []]] ++ [.map (esI .u8 (foT A.length))]):=by
 obtain ⟨n,hn⟩:∃ n,A.length=n:=⟨_,rfl⟩
 obtain ⟨A1,hA1⟩:∃ A1,A ++ [Ob.cells 0 [.fn 52 [] []]]=A1:=⟨_,rfl⟩
 have l1:A1.length=n+1:=by rw [← hA1,len_snoc,hn]
 obtain ⟨A2,hA2⟩:∃ A2,A1 ++ [Ob.map (esI .u8 (foT n))]=A2:=⟨_,rfl⟩
 have hb1:base≤A1.length:=by omega
 have e0:(Ob.map []:Ob)=.map (esI .u8 []):=rfl
 have hs:(A ++ [Ob.cells 0 [.s .nilFunc]]).set n (Ob.cells 0 [.fn 52 [] []])=A1:=by rw [← hn,set_snoc,hA1]
 have hg:getC (A ++ [Ob.cells 0 [.s .nilFunc]]) n 0=some [.s .nilFunc]:=by rw [← hn];exact getC_new A 0 _
 have hbn:base≤n:=by omega
 have hbn1:base≤n+1:=by omega
 have u1:=upd_I hb1 .u8 ((foT n).take 0) 1 (.fn 54 [] [.ref n 0 0]) (by rfl)
 have u2:=upd_I hb1 .u8 ((foT n).take 1) 2 (.fn 55 [] [.ref n 0 0]) (by rfl)
 have u3:=upd_I hb1 .u8 ((foT n).take 2) 3 (.fn 56 [] []) (by rfl)
 have u4:=upd_I hb1 .u8 ((foT n).take 3) 4 (.fn 57 [] []) (by rfl)
 have u5:=upd_I hb1 .u8 ((foT n).take 4) 5 (.fn 58 [] []) (by rfl)
 have u6:=upd_I hb1 .u8 ((foT n).take 5) 6 (.fn 59 [] []) (by rfl)
 have u7:=upd_I hb1 .u8 ((foT n).take 6) 7 (.fn 61 [] [.ref n 0 0]) (by rfl)
 have u8:=upd_I hb1 .u8 ((foT n).take 7) 8 (.fn 62 [] []) (by rfl)
 have u9:=upd_I hb1 .u8 ((foT n).take 8) 9 (.fn 63 [] []) (by rfl)
 have u10:=upd_I hb1 .u8 ((foT n).take 9) 10 (.fn 64 [] []) (by rfl)
 have u11:=upd_I hb1 .u8 ((foT n).take 10) 11 (.fn 65 [] []) (by rfl)
 have u12:=upd_I hb1 .u8 ((foT n).take 11) 12 (.fn 66 [] []) (by rfl)
 have u13:=upd_I hb1 .u8 ((foT n).take 12) 13 (.fn 67 [] []) (by rfl)
 have u14:=upd_I hb1 .u8 ((foT n).take 13) 14 (.fn 68 [] []) (by rfl)
 rw [show (foT n).take 13 ++ [(14,.fn 68 [] [])]=foT n from rfl,hA2] at u14
 simp only [foT,List.take_succ_cons,List.take_zero,List.cons_append,List.nil_append,l1] at u1
 simp only [foT,List.take_succ_cons,List.take_zero,List.cons_append,List.nil_append,l1] at u2
 simp only [foT,List.take_succ_cons,List.take_zero,List.cons_append,List.nil_append,l1] at u3
 simp only [foT,List.take_succ_cons,List.take_zero,List.cons_append,List.nil_append,l1] at u4
 simp only [foT,List.take_succ_cons,List.take_zero,List.cons_append,List.nil_append,l1] at u5
 simp only [foT,List.take_succ_cons,List.take_zero,List.cons_append,List.nil_append,l1] at u6
 simp only [foT,List.take_succ_cons,List.take_zero,List.cons_append,List.nil_append,l1] at u7
 simp only [foT,List.take_succ_cons,List.take_zero,List.cons_append,List.nil_append,l1] at u8
 simp only [foT,List.take_succ_cons,List.take_zero,List.cons_append,List.nil_append,l1] at u9
 simp only [foT,List.take_succ_cons,List.take_zero,List.cons_append,List.nil_append,l1] at u10
 simp only [foT,List.take_succ_cons,List.take_zero,List.cons_append,List.nil_append,l1] at u11
 simp only [foT,List.take_succ_cons,List.take_zero,List.cons_append,List.nil_append,l1] at u12
 simp only [foT,List.take_succ_cons,List.take_zero,List.cons_append,List.nil_append,l1] at u13
 simp only [foT,List.take_succ_cons,List.take_zero,l1] at u14
 have hcf:(V.fn 52 [] []).cells=[V.fn 52 [] []]:=rfl
 have hof:[V.fn 52 [] []].all V.one=true:=rfl
 have hdf:List.drop 1 [V.s .nilFunc]=[]:=rfl
 rw [hn,hA1,hA2]
 refine callW_fn (c:=s_f17) hT (by simp [s_f17]) ?_
 simp only [s_f17,a_f17,aa,reduceIte,reduceCtorEq,Nat.reduceEqDiff,Nat.reduceLT,Nat.reduceLeDiff,Nat.reduceBEq,Nat.reduceAdd,Nat.reduceMul,op_appR,op_mapNew,op_mapUpd,xsub_mkFn,hn,hg,hs,hbn,hbn1,l1,e0,hcf,hof,hdf,List.length_singleton,List.append_nil,and_self,if_true,hA1,u1,u2,u3,u4,u5,u6,u7,u8,u9,u10,u11,u12,u13,u14]
end
end Go.Proofs.YtngfpadeebpoeaaGreatDoor
set_option maxRecDepth 100000
namespace Go.Proofs.YtngfpadeebpoeaaGreatDoor
open Go.AM
abbrev frF (m:Nat):List V:=frOf 18 [(3,.ref m 0 0),(4,.ref (m+1) 0 0),(5,.ref (m+2) 0 0),(9,.fn k_f168 [] [.ref (m+3) 0 0])]
def lpR (m:Nat):Ob:=.loop .ready none (frF m) [10,11] s_names_walk_find_a0 s_f102_b0
def lpB (m:Nat):Ob:=.loop .busy none (frF m) [10,11] s_names_walk_find_a0 s_f102_b0
def lpD (m:Nat):Ob:=.loop .done (pendOf .ret) (frF m) [10,11] s_names_walk_find_a0 s_f102_b0
def fC (B:Heap) (f:V) (p:List V) (q:Bool) (w:Nat) (lp:Ob):Heap:=B ++ [.cells 0 [f]] ++ [.cells 0 p] ++ [.cells 0 [.s (.bool q)]] ++ [.cells 0 [.ref w 0 0]] ++ [lp]
theorem fC_len (B:Heap) (f:V) (p:List V) (q:Bool) (w:Nat) (lp:Ob):(fC B f p q w lp).length=B.length+5:=by simp [fC]
theorem fC_ext (B:Heap) (f:V) (p:List V) (q:Bool) (w:Nat) (lp:Ob) (G:Heap):Ext B (fC B f p q w lp ++ G):=⟨[.cells 0 [f]] ++ [.cells 0 p] ++ [.cells 0 [.s (.bool q)]] ++ [.cells 0 [.ref w 0 0]] ++ [lp] ++ G,by simp [fC]⟩
theorem fC_f (B:Heap) (f:V) (p:List V) (q:Bool) (w:Nat) (lp:Ob) (G:Heap):getC (fC B f p q w lp ++ G) B.length 0=some [f]:=by simp [fC,getC]
theorem fC_p (B:Heap) (f:V) (p:List V) (q:Bool) (w:Nat) (lp:Ob) (G:Heap):getC (fC B f p q w lp ++ G) (B.length+1) 0=some p:=by simp [fC,getC]
theorem fC_q (B:Heap) (f:V) (p:List V) (q:Bool) (w:Nat) (lp:Ob) (G:Heap):getC (fC B f p q w lp ++ G) (B.length+2) 0=some [.s (.bool q)]:=by simp [fC,getC]
theorem fC_w (B:Heap) (f:V) (p:List V) (q:Bool) (w:Nat) (lp:Ob) (G:Heap):getC (fC B f p q w lp ++ G) (B.length+3) 0=some [.ref w 0 0]:=by simp [fC,getC]
theorem fC_lp (B:Heap) (f:V) (p:List V) (q:Bool) (w:Nat) (lp:Ob) (G:Heap):(fC B f p q w lp ++ G)[B.length+4]?=some lp:=by simp [fC]
theorem fC_sp (B:Heap) (f:V) (p p':List V) (q:Bool) (w:Nat) (lp:Ob) (G:Heap):(fC B f p q w lp ++ G).set (B.length+1) (.cells 0 p')=fC B f p' q w lp ++ G:=by simp [fC]
theorem fC_sq (B:Heap) (f:V) (p:List V) (q q':Bool) (w:Nat) (lp:Ob) (G:Heap):(fC B f p q w lp ++ G).set (B.length+2) (.cells 0 [.s (.bool q')])=fC B f p q' w lp ++ G:=by simp [fC]
theorem fC_sl (B:Heap) (f:V) (p:List V) (q:Bool) (w:Nat) (lp lp':Ob) (G:Heap):(fC B f p q w lp ++ G).set (B.length+4) lp'=fC B f p q w lp' ++ G:=by simp [fC]
theorem fC_app (B:Heap) (f:V) (p:List V) (q:Bool) (w:Nat) (lp:Ob) (G:Heap):fC B f p q w lp ++ G=B ++ ([.cells 0 [f]] ++ [.cells 0 p] ++ [.cells 0 [.s (.bool q)]] ++ [.cells 0 [.ref w 0 0]] ++ [lp] ++ G):=by simp [fC]
def gC (B:Heap) (f:V) (p:List V) (q:Bool) (w:Nat):Heap:=B ++ [.cells 0 [f]] ++ [.cells 0 p] ++ [.cells 0 [.s (.bool q)]] ++ [.cells 0 [.ref w 0 0]]
theorem gC_len (B:Heap) (f:V) (p:List V) (q:Bool) (w:Nat):(gC B f p q w).length=B.length+4:=by simp [gC]
theorem fC_cut (B:Heap) (f:V) (p:List V) (q:Bool) (w:Nat) (lp lp':Ob) (G:Heap):(fC B f p q w lp ++ G).set (B.length+4) lp'=gC B f p q w ++ (lp' :: G):=by simp [fC,gC]
theorem gC_p (B:Heap) (f:V) (p:List V) (q:Bool) (w:Nat) (G:Heap):getC (gC B f p q w ++ G) (B.length+1) 0=some p:=by simp [gC,getC]
theorem gC_q (B:Heap) (f:V) (p:List V) (q:Bool) (w:Nat) (G:Heap):getC (gC B f p q w ++ G) (B.length+2) 0=some [.s (.bool q)]:=by simp [gC,getC]
theorem gC_sp (B:Heap) (f:V) (p p':List V) (q:Bool) (w:Nat) (G:Heap):(gC B f p q w ++ G).set (B.length+1) (.cells 0 p')=gC B f p' q w ++ G:=by simp [gC]
theorem gC_sq (B:Heap) (f:V) (p:List V) (q q':Bool) (w:Nat) (G:Heap):(gC B f p q w ++ G).set (B.length+2) (.cells 0 [.s (.bool q')])=gC B f p q' w ++ G:=by simp [gC]
theorem gC_app (B:Heap) (f:V) (p:List V) (q:Bool) (w:Nat) (G:Heap):∃ G',gC B f p q w ++ G=B ++ G':=⟨[.cells 0 [f]] ++ [.cells 0 p] ++ [.cells 0 [.s (.bool q)]] ++ [.cells 0 [.ref w 0 0]] ++ G,by simp [gC]⟩
section
variable {CT:Nat→Option CFun}
def kF (B:Nat→Heap) (m:Nat) (f:V) (w n:Nat):Heap:=fC (B n) f [Iz 0,Iz 0,Iz 0] false w (lpR m)
def kD (B:Nat→Heap) (m:Nat) (f:V) (w n i b k:Nat):Heap:=fC (B (n+1)) f [Iz i,Iz b,Iz k] true w (lpD m)
def Pred (CT:Nat→Option CFun) (base:Nat) (f:V) (B:Nat→Heap) (n i b k:Nat) (r:List V) (g:Bool):Prop:=∀ G,∃ G',callW CT f [.agg [Iz i,Iz b,Iz k],.agg r] base (B n ++ G)=some (bl g,B (n+1) ++ G ++ G')
theorem find_yld (base m:Nat) {B:Nat→Heap} (hB:∀ n,(B n).length=m) (hb:base≤m) {f:V} (hf:f.one=true) {w n i b k:Nat} {A:Heap} {r:List V} {x:InsD} (hr:RdIns A r x) {g:Bool} (hp:Pred CT base f B n i b k r g):
 Yld CT base (.yld (m+4)) (kF B m f w) (kD B m f w) n i b k r g:=by
 intro G
 obtain ⟨av,lv,rfl,q1,q2,q3,q4,_⟩:=id hr
 have hav:=q1.one
 have hlv:=q3.one
 obtain ⟨C,hC⟩:∃ C,kF B m f w n ++ G=C:=⟨_,rfl⟩
 obtain ⟨c,hcc⟩:∃ c,m+(5+G.length)=c:=⟨_,rfl⟩
 have hCl:C.length=c:=by rw [← hcc];rw [← hC,List.length_append,kF,fC_len,hB];omega
 obtain ⟨G1,hG1⟩:∃ G1,G ++ [Ob.cells 0 [Iz i,Iz b,Iz k]] ++ [Ob.cells 0 (insC x av lv)]=G1:=⟨_,rfl⟩
 have eH1:C ++ [Ob.cells 0 [Iz i,Iz b,Iz k]] ++ [Ob.cells 0 (insC x av lv)]=kF B m f w n ++ G1:=by rw [← hC,← hG1];simp
 have hm:=hB n
 have h0:=fC_lp (B n) f [Iz 0,Iz 0,Iz 0] false w (lpR m) G
 have h1:=fC_lp (B n) f [Iz 0,Iz 0,Iz 0] false w (lpR m) G1
 have e2:=fC_sl (B n) f [Iz 0,Iz 0,Iz 0] false w (lpR m) (lpB m) G1
 have lf:=fC_f (B n) f [Iz 0,Iz 0,Iz 0] false w (lpB m) G1
 rw [hm] at h0 h1 e2 lf
 have g6:getC (fC (B n) f [Iz 0,Iz 0,Iz 0] false w (lpB m) ++ G1) c 0=some [Iz i,Iz b,Iz k]:=by
  rw [← hG1,← List.append_assoc,← List.append_assoc]
  refine getC_ext ?_ (Ext.app _ _)
  have:=getC_new (fC (B n) f [Iz 0,Iz 0,Iz 0] false w (lpB m) ++ G) 0 [Iz i,Iz b,Iz k]
  rwa [List.length_append,fC_len,hm,Nat.add_assoc,hcc] at this
 have g7:getC (fC (B n) f [Iz 0,Iz 0,Iz 0] false w (lpB m) ++ G1) (c+1) 0=some (insC x av lv):=by
  rw [← hG1,← List.append_assoc,← List.append_assoc]
  have:=getC_new (fC (B n) f [Iz 0,Iz 0,Iz 0] false w (lpB m) ++ G ++ [Ob.cells 0 [Iz i,Iz b,Iz k]]) 0 (insC x av lv)
  rwa [len_snoc,show (fC (B n) f [Iz 0,Iz 0,Iz 0] false w (lpB m) ++ G).length=c by rw [← hcc,List.length_append,fC_len,hm];omega] at this
 obtain ⟨G2,hp⟩:=hp ([.cells 0 [f]] ++ [.cells 0 [Iz 0,Iz 0,Iz 0]] ++ [.cells 0 [.s (.bool false)]] ++ [.cells 0 [.ref w 0 0]] ++ [lpB m] ++ G1)
 rw [← fC_app] at hp
 have eR:B (n+1) ++ ([.cells 0 [f]] ++ [.cells 0 [Iz 0,Iz 0,Iz 0]] ++ [.cells 0 [.s (.bool false)]] ++ [.cells 0 [.ref w 0 0]] ++ [lpB m] ++ G1) ++ G2=fC (B (n+1)) f [Iz 0,Iz 0,Iz 0] false w (lpB m) ++ (G1 ++ G2):=by simp [fC]
 rw [eR] at hp
 have hm1:=hB (n+1)
 refine ⟨G1 ++ G2,?_⟩
 rw [hC]
 rw [show (if g=true then some (bl false,kD B m f w n i b k ++ (G1 ++ G2)) else some (bl true,kF B m f w (n+1) ++ (G1 ++ G2)))=some (if g=true then (bl false,kD B m f w n i b k ++ (G1 ++ G2)) else (bl true,kF B m f w (n+1) ++ (G1 ++ G2))) by cases g <;> rfl]
 have hH:C[m+4]?=some (lpR m):=by rw [← hC];exact h0
 refine callW_yld2 (id:=m+4) (by omega) hH (fr:=frOf 18 [(3,.ref m 0 0),(4,.ref (m+1) 0 0),(5,.ref (m+2) 0 0),(9,.fn k_f168 [] [.ref (m+3) 0 0]),(10,.agg [Iz i,Iz b,Iz k]),(11,.agg (insC x av lv))]) (fr1:=frOf 18 [(3,.ref m 0 0),(4,.ref (m+1) 0 0),(5,.ref (m+2) 0 0),(6,.ref c 0 0),(7,.ref (c+1) 0 0)]) (H1:=C ++ [Ob.cells 0 [Iz i,Iz b,Iz k]] ++ [Ob.cells 0 (insC x av lv)]) ?_ ?_ (by rw [eH1];exact h1) ?_
 ·simp only [frF,aa,reduceIte,reduceCtorEq,Nat.reduceEqDiff,Nat.reduceLT,Nat.reduceLeDiff,Nat.reduceBEq,Nat.reduceAdd,Nat.reduceMul,op_appR]
 ·have h6:base≤c:=by omega
  have h7:base≤c+1:=by omega
  have hgg:∀ e,getC (C ++ [Ob.cells 0 e]) c 0=some e:=fun e=>by have:=getC_new C 0 e;rwa [hCl] at this
  have hss:∀ e d,(C ++ [e]).set c d=C ++ [d]:=fun e d=>by have:=set_snoc C e d;rwa [hCl] at this
  have hl2:∀ d,(C ++ [d]).length=c+1:=fun d=>by rw [len_snoc,hCl]
  have hgg2:∀ a e,getC (C ++ [a] ++ [Ob.cells 0 e]) (c+1) 0=some e:=fun a e=>by have:=getC_new (C ++ [a]) 0 e;rwa [hl2] at this
  have hss2:∀ a e d,(C ++ [a] ++ [e]).set (c+1) d=C ++ [a] ++ [d]:=fun a e d=>by have:=set_snoc (C ++ [a]) e d;rwa [hl2] at this
  simp only [insC,Iz,s_names_walk_find_a0,a_f102,aa,reduceIte,reduceCtorEq,Nat.reduceEqDiff,Nat.reduceLT,Nat.reduceLeDiff,Nat.reduceBEq,Nat.reduceAdd,Nat.reduceMul,op_appR,hCl,h6,h7,hgg,hss,hl2,hgg2,hss2,hav,hlv,Bool.and_self]
 ·rw [eH1]
  have e2':(kF B m f w n ++ G1).set (m+4) (Ob.loop .busy none (frF m) [10,11] s_names_walk_find_a0 s_f102_b0)=fC (B n) f [Iz 0,Iz 0,Iz 0] false w (lpB m) ++ G1:=e2
  rw [e2']
  obtain ⟨D,hD⟩:∃ D,fC (B n) f [Iz 0,Iz 0,Iz 0] false w (lpB m) ++ G1=D:=⟨_,rfl⟩
  rw [hD] at lf g6 g7 hp ⊢
  have lfx:xLoad D false 1 (.ref m 0 0)=some f:=getC_load lf
  cases g with
  | false=>
    have hend:evC (callW CT) itW base s_f102_b0 (frOf 18 [(3,.ref m 0 0),(4,.ref (m+1) 0 0),(5,.ref (m+2) 0 0),(6,.ref c 0 0),(7,.ref (c+1) 0 0)]) D=some (.nrm,frOf 18 [(4,.ref (m+1) 0 0),(5,.ref (m+2) 0 0),(6,.ref c 0 0),(15,bl false)],fC (B (n+1)) f [Iz 0,Iz 0,Iz 0] false w (lpB m) ++ (G1 ++ G2)):=by
     simp only [insC,Iz,bl] at g6 g7 hp lfx
     simp only [insC,Iz,bl,s_f102_b0,a_f102,aa,reduceIte,reduceCtorEq,Nat.reduceEqDiff,Nat.reduceLT,Nat.reduceLeDiff,Nat.reduceBEq,Nat.reduceAdd,Nat.reduceMul,op_appR,g6,g7,lfx,hp]
    have hl:=fC_lp (B (n+1)) f [Iz 0,Iz 0,Iz 0] false w (lpB m) (G1 ++ G2)
    have e3:=fC_sl (B (n+1)) f [Iz 0,Iz 0,Iz 0] false w (lpB m) (lpR m) (G1 ++ G2)
    rw [hm1] at hl e3
    rw [hend,yldE_some hl]
    exact congrArg some (Prod.ext rfl e3)
  | true=>
    have hend:evC (callW CT) itW base s_f102_b0 (frOf 18 [(3,.ref m 0 0),(4,.ref (m+1) 0 0),(5,.ref (m+2) 0 0),(6,.ref c 0 0),(7,.ref (c+1) 0 0)]) D=some (.ret,frOf 18 [],fC (B (n+1)) f [Iz i,Iz b,Iz k] true w (lpB m) ++ (G1 ++ G2)):=by
     have hb1:base≤m+1:=by omega
     have hb2:base≤m+2:=by omega
     have p1:=fC_p (B (n+1)) f [Iz 0,Iz 0,Iz 0] false w (lpB m) (G1 ++ G2)
     have p2:=fC_sp (B (n+1)) f [Iz 0,Iz 0,Iz 0] [Iz i,Iz b,Iz k] false w (lpB m) (G1 ++ G2)
     have p3:=fC_q (B (n+1)) f [Iz i,Iz b,Iz k] false w (lpB m) (G1 ++ G2)
     have p4:=fC_sq (B (n+1)) f [Iz i,Iz b,Iz k] false true w (lpB m) (G1 ++ G2)
     have g6':getC (fC (B (n+1)) f [Iz 0,Iz 0,Iz 0] false w (lpB m) ++ (G1 ++ G2)) c 0=some [Iz i,Iz b,Iz k]:=by
      have:=getC_new (fC (B (n+1)) f [Iz 0,Iz 0,Iz 0] false w (lpB m) ++ G) 0 [Iz i,Iz b,Iz k]
      rw [List.length_append,fC_len,hm1,Nat.add_assoc,hcc] at this
      exact getC_ext this ⟨[Ob.cells 0 (insC x av lv)] ++ G2,by rw [← hG1];simp⟩
     rw [hm1] at p1 p2 p3 p4
     simp only [insC,Iz,bl] at g6 g7 hp lfx p1 p2 p3 p4 g6'
     simp only [insC,Iz,bl,s_f102_b0,a_f102,aa,reduceIte,reduceCtorEq,Nat.reduceEqDiff,Nat.reduceLT,Nat.reduceLeDiff,Nat.reduceBEq,Nat.reduceAdd,Nat.reduceMul,op_appR,g6,g7,lfx,hp,g6',p1,p2,p3,p4,hb1,hb2]
    have hl:=fC_lp (B (n+1)) f [Iz i,Iz b,Iz k] true w (lpB m) (G1 ++ G2)
    have e3:=fC_sl (B (n+1)) f [Iz i,Iz b,Iz k] true w (lpB m) (lpD m) (G1 ++ G2)
    rw [hm1] at hl e3
    rw [hend,yldE_some hl]
    exact congrArg some (Prod.ext rfl e3)
structure FindT (CT:Nat→Option CFun):Prop where
 find:CT k_f102=some (.code s_f102)
 code:CT k_f140=some (.code s_f140)
 code1:CT k_f168=some (.code s_f168)
theorem code_fun (hT:FindT CT) (base:Nat) (H:Heap) (w:Nat):callW CT (.fn k_f140 [] []) [.ref w 0 0] base H=some (.fn k_f168 [] [.ref H.length 0 0],H ++ [.cells 0 [.ref w 0 0]]):=by
 refine callW_fnA (c:=s_f140) (k:=1) hT.code rfl (by decide) s_f140_first ?_
 simp only [s_f140,a_f140,aa,reduceIte,reduceCtorEq,Nat.reduceEqDiff,Nat.reduceLT,Nat.reduceLeDiff,Nat.reduceBEq,Nat.reduceAdd,Nat.reduceMul,op_appR,xsub_mkFn]
theorem find_fun (hT:FindT CT) (base:Nat) {A:Heap} (hb:base≤A.length) {w sm:Nat} {fv:V} {fs:List FunD} (hc:NC A w sm fv fs) {f:V} (hf:f.one=true) {B:Nat→Heap} {m:Nat} (hB:∀ n,(B n).length=m) (hE:∀ n,Ext A (B n)) {Gf:Nat→Nat→Nat→Nat→InsD→Bool}
 (hp:∀ i f1,fs[i]?=some f1→∀ b x,f1.blocks[b]?=some x→∀ k z r,x.code[k]?=some z→RdIns A r z→Pred CT base f B (cF (fs.take i)+cI (f1.blocks.take b)+k) i b k r (Gf (cF (fs.take i)+cI (f1.blocks.take b)+k) i b k z)):
 ∃ n G,callW CT (.fn k_f102 [] []) [.ref w 0 0,f] base (B 0)=some (resP (gSrch Gf fs),B n ++ G):=by
 have hbm:base≤m:=by have:=(hE 0).le;rw [hB] at this;omega
 have hm:=hB 0
 have hK:∀ n,(kF B m f w n).length=m+5:=fun n=>by rw [kF,fC_len,hB]
 have hKD:∀ n i b k,(kD B m f w n i b k).length=m+5:=fun n i b k=>by rw [kD,fC_len,hB]
 have hEK:∀ n,Ext A (kF B m f w n):=fun n=>(hE n).trans (by have:=fC_ext (B n) f [Iz 0,Iz 0,Iz 0] false w (lpR m) [];rwa [List.append_nil] at this)
 have hw:getC (kF B m f w 0) (m+3) 0=some [.ref w 0 0]:=by
  have:=fC_w (B 0) f [Iz 0,Iz 0,Iz 0] false w (lpR m) []
  rwa [List.append_nil,hm] at this
 have hfc:=cells_of_one hf
 have hcd:=code_fun hT base
 have hb1:base≤m+1:=by omega
 have hb2:base≤m+2:=by omega
 have e0:B 0 ++ [.cells 0 [f]] ++ [.cells 0 [Iz 0,Iz 0,Iz 0]] ++ [.cells 0 [.s (.bool false)]] ++ [.cells 0 [.ref w 0 0]] ++ [lpR m]=kF B m f w 0:=rfl
 rcases code1_fun (CT:=CT) hT.code1 base hK hKD hEK (show base≤m+5 by omega) hc hw (y:=.yld (m+4)) (Gf:=Gf) (fun i f1 hi b x hx k z r hz hr=>find_yld base m hB hbm hf hr (hp i f1 hi b x hx k z r hz hr)) with ⟨z1,G,z2⟩ | ⟨⟨i,b,k⟩,z1,n,G,z2⟩
 ·obtain ⟨G1,t1⟩:=trim_app2 (C:=gC (B (cF fs)) f [Iz 0,Iz 0,Iz 0] false w) (m:=m+4) (by rw [gC_len,hB];omega) (frF m) (.dead :: G)
  have hmn:=hB (cF fs)
  have hl:=fC_lp (B (cF fs)) f [Iz 0,Iz 0,Iz 0] false w (lpR m) G
  have hd:=fC_cut (B (cF fs)) f [Iz 0,Iz 0,Iz 0] false w (lpR m) .dead G
  have p1:=gC_p (B (cF fs)) f [Iz 0,Iz 0,Iz 0] false w G1
  have p2:=gC_sp (B (cF fs)) f [Iz 0,Iz 0,Iz 0] [Iz 0,Iz 0,Iz 0] false w G1
  have p3:=gC_q (B (cF fs)) f [Iz 0,Iz 0,Iz 0] false w G1
  have p4:=gC_sq (B (cF fs)) f [Iz 0,Iz 0,Iz 0] false false w G1
  rw [hmn] at hl hd p1 p2 p3 p4
  rw [← hd] at t1
  have hrn:=fun fr v=>rngC_nrm (L:=m+4) (fr:=fr) (v:=v) hl
  obtain ⟨G2,hG2⟩:=gC_app (B (cF fs)) f [Iz 0,Iz 0,Iz 0] false w G1
  refine ⟨cF fs,G2,callW_fnA (c:=s_f102) (k:=2) hT.find rfl (by decide) s_f102_first ?_⟩
  rw [z1,← hG2]
  simp only [kF,fC,lpR] at z2 hrn t1 hl
  simp only [Iz,bl] at z2 hrn t1 p1 p2 p3 p4
  simp only [Iz,s_f102,a_f102,aa,reduceIte,reduceCtorEq,Nat.reduceEqDiff,Nat.reduceLT,Nat.reduceLeDiff,Nat.reduceBEq,Nat.reduceAdd,Nat.reduceMul,op_appR,hm,hfc,hf,hcd,len_snoc,z2,hrn,t1,p1,p2,p3,p4,hb1,hb2]
  have xR:loadV (gC (B (cF fs)) f [Iz 0,Iz 0,Iz 0] false w ++ G1) true 3 (.ref (m+1) 0 0)=some (.agg [Iz 0,Iz 0,Iz 0]):=by
   show xLoad _ true 3 _=_
   rw [xo_ref,p1];rfl
  have xQ:loadV (gC (B (cF fs)) f [Iz 0,Iz 0,Iz 0] false w ++ G1) false 1 (.ref (m+2) 0 0)=some (bl false):=by
   show xLoad _ false 1 _=_
   exact getC_load p3
  simp only [Iz,bl] at xR xQ
  rw [xR,xQ]
  rfl
 ·obtain ⟨G1,t1⟩:=trim_app2 (C:=gC (B (n+1)) f [Iz i,Iz b,Iz k] true w) (m:=m+4) (by rw [gC_len,hB];omega) (frF m) (.dead :: G)
  have hmn:=hB (n+1)
  have hl:=fC_lp (B (n+1)) f [Iz i,Iz b,Iz k] true w (lpD m) G
  have hd:=fC_cut (B (n+1)) f [Iz i,Iz b,Iz k] true w (lpD m) .dead G
  have p1:=gC_p (B (n+1)) f [Iz i,Iz b,Iz k] true w G1
  have p3:=gC_q (B (n+1)) f [Iz i,Iz b,Iz k] true w G1
  rw [hmn] at hl hd p1 p3
  rw [← hd] at t1
  have hrn:=fun fr v=>rngC_done (L:=m+4) (fr:=fr) (v:=v) (e:=.ret) hl
  obtain ⟨G2,hG2⟩:=gC_app (B (n+1)) f [Iz i,Iz b,Iz k] true w G1
  refine ⟨n+1,G2,callW_fnA (c:=s_f102) (k:=2) hT.find rfl (by decide) s_f102_first ?_⟩
  rw [z1,← hG2]
  simp only [kF,kD,fC,lpR,lpD] at z2 hrn t1 hl
  simp only [Iz,bl] at z2 hrn t1 p1 p3
  simp only [Iz,s_f102,a_f102,aa,reduceIte,reduceCtorEq,Nat.reduceEqDiff,Nat.reduceLT,Nat.reduceLeDiff,Nat.reduceBEq,Nat.reduceAdd,Nat.reduceMul,op_appR,hm,hfc,hf,hcd,len_snoc,z2,hrn,t1,hb1,hb2]
  have xR:loadV (gC (B (n+1)) f [Iz i,Iz b,Iz k] true w ++ G1) true 3 (.ref (m+1) 0 0)=some (.agg [Iz i,Iz b,Iz k]):=by
   show xLoad _ true 3 _=_
   rw [xo_ref,p1];rfl
  have xQ:loadV (gC (B (n+1)) f [Iz i,Iz b,Iz k] true w ++ G1) false 1 (.ref (m+2) 0 0)=some (bl true):=by
   show xLoad _ false 1 _=_
   exact getC_load p3
  simp only [Iz,bl] at xR xQ
  rw [xR,xQ]
  rfl
end
end Go.Proofs.YtngfpadeebpoeaaGreatDoor
set_option maxRecDepth 100000
namespace Go.Proofs.YtngfpadeebpoeaaGreatDoor
open Go.AM
def eqB (a b:ByteArray):Bool:=a.data.toList == b.data.toList
section
variable {CT:Nat→Option CFun}
theorem find_pure (hT:FindT CT) (base:Nat) {A:Heap} (hb:base≤A.length) {w sm:Nat} {fv:V} {fs:List FunD} (hc:NC A w sm fv fs) {f:V} (hf:f.one=true) {g:Nat→Nat→Nat→InsD→Bool}
 (hp:∀ (i:Nat) (f1:FunD),fs[i]?=some f1→∀ (b:Nat) (x:BlkD),f1.blocks[b]?=some x→∀ (k:Nat) (z:InsD) (r:List V),x.code[k]?=some z→RdIns A r z→∀ D,Ext A D→∃ D',callW CT f [.agg [Iz i,Iz b,Iz k],.agg r] base D=some (bl (g i b k z),D')∧Ext D D'):
 ∃ H',callW CT (.fn k_f102 [] []) [.ref w 0 0,f] base A=some (resP (gSrch (fun _=>g) fs),H')∧Ext A H':=by
 obtain ⟨n,G,h1⟩:=find_fun hT base hb hc hf (B:=fun _=>A) (m:=A.length) (fun _=>rfl) (fun _=>Ext.refl A) (Gf:=fun _=>g) (fun i f1 hi b x hx k z r hz hr G=>by
  obtain ⟨D',d1,G',rfl⟩:=hp i f1 hi b x hx k z r hz hr (A ++ G) ⟨G,rfl⟩
  exact ⟨G',d1⟩)
 exact ⟨A ++ G,h1,G,rfl⟩
end
end Go.Proofs.YtngfpadeebpoeaaGreatDoor
set_option maxRecDepth 100000
namespace Go.Proofs.YtngfpadeebpoeaaGreatDoor
open Go.AM
section
variable {CT:Nat→Option CFun}
end
end Go.Proofs.YtngfpadeebpoeaaGreatDoor
set_option maxRecDepth 100000
namespace Go.Proofs.YtngfpadeebpoeaaGreatDoor
open Go.AM
def bi1 (x:InsD):Bool:=!(lookI shT x.op).isSome || !(shp x.op).d && !x.d.data.toList == [] || !(shp x.op).a && !x.a.data.toList == [] || !(shp x.op).b && !x.b.data.toList == [] || !(shp x.op).k && x.k != 0 || !(shp x.op).f && !x.f.data.toList == [] || !(shp x.op).xs && decide ((x.xs.length:Int) > 0) || !(shp x.op).ls && decide ((x.ls.length:Int) > 0)
def bi2 (x:InsD):Bool:=(shp x.op).d && x.d.data.toList == [] && !(x.op == 10 || x.op == 11) || (shp x.op).a && x.a.data.toList == [] && x.op != 14 || (shp x.op).b && x.b.data.toList == [] || (shp x.op).f && x.f.data.toList == []
def bi3 (x:InsD):Bool:=bif x.op == 1 || x.op == 2 then decide (x.k < 1) || decide (x.k > 64) else bif x.op == 7 then decide (x.k < 0) || decide (x.k ≥ 64) else bif x.op == 6 then (x.xs.length:Int) == 0 || (x.xs.length:Int) != (x.ls.length:Int) else bif x.op == 12 then (x.ls.length:Int) != 2 else bif x.op == 13 then (x.ls.length:Int) != 1 else false
def biG (x:InsD):Bool:=bi1 x || (bi2 x || bi3 x)
section
variable {CT:Nat→Option CFun}
theorem badInstr1_fun (hCl:CT k_f100=some (.code s_f100)) (hT:CT k_f104=some (.code s_f104)) (base:Nat) {A:Heap} (hb:base≤A.length) {w w1 sm:Nat} {fv:V} {fs:List FunD} (hc:NC A w sm fv fs) (hw:getC A w1 0=some [.ref w 0 0]) {i b k:Nat} {r:List V} {x:InsD} (hr:RdIns A r x) (D:Heap) (hD:Ext A D):
 ∃ D',callW CT (.fn k_f104 [] [.ref w1 0 0]) [.agg [Iz i,Iz b,Iz k],.agg r] base D=some (bl (biG x),D')∧Ext D D':=by
 obtain ⟨av,lv,rfl,q1,q2,q3,q4,_⟩:=hr
 have hav:=q1.one
 have hlv:=q3.one
 have hbD:base≤D.length:=by have:=hD.le;omega
 obtain ⟨D1,hD1⟩:∃ D1,D ++ [Ob.cells 0 [Iz i,Iz b,Iz k]] ++ [Ob.cells 0 (insC x av lv)]=D1:=⟨_,rfl⟩
 have e1:Ext D D1:=hD1 ▸ (Ext.app _ _).trans (Ext.app _ _)
 have hw1:=getC_load (getC_ext hw (hD.trans e1))
 have hgg:getC D1 (D.length+1) 0=some (insC x av lv):=by
  have:=getC_new (D ++ [Ob.cells 0 [Iz i,Iz b,Iz k]]) 0 (insC x av lv)
  rwa [len_snoc,hD1] at this
 have hgp:getC D1 D.length 0=some [Iz i,Iz b,Iz k]:=hD1 ▸ getC_ext (getC_new D 0 [Iz i,Iz b,Iz k]) (Ext.app _ _)
 have hl1:=len_snoc D (Ob.cells 0 [Iz i,Iz b,Iz k])
 have hxl:=Sb_len (q1.ext (hD.trans e1))
 have hll:=Sb_len (q3.ext (hD.trans e1))
 have hW:=(hc.ext (hD.trans e1)).load (Ext.refl _)
 have hws:=(getC_ext hc.gw (hD.trans e1))
 have hmp:xLoad D1 false 1 (.ref w 0 1)=some (.mp sm):=by rw [xo_ref,hws];rfl
 have hmg:=get_I .u8 (Ext.at' (hD.trans e1) hc.sh) (.agg (ShD.c ⟨false,false,false,false,false,false,false⟩)) true x.op
 rw [if_pos rfl,shT_get] at hmg
 have hl2:D1.length=D.length+2:=by rw [← hD1,len_snoc,len_snoc]
 have hbD1:base≤D.length+2:=by omega
 have hgg2:=getC_ext hgg (Ext.app D1 [Ob.cells 0 (shp x.op).c])
 have hgs:=getC_new D1 0 (shp x.op).c
 have hss:∀ c d,(D1 ++ [c]).set D1.length d=D1 ++ [d]:=fun c d=>set_snoc D1 c d
 have hgz:∀ c,getC (D1 ++ [Ob.cells 0 c]) D1.length 0=some c:=fun c=>getC_new D1 0 c
 rw [hl2] at hgs hss hgz
 have e2:Ext D (D1 ++ [Ob.cells 0 (shp x.op).c]):=e1.trans (Ext.app _ _)
 have hxl2:=Sb_len (q1.ext (hD.trans e2))
 have hll2:=Sb_len (q3.ext (hD.trans e2))
 have hcal:=fun E=>calls_fun hCl base E x.op
 refine ⟨D1 ++ [Ob.cells 0 (shp x.op).c],callW_fnA (c:=s_f104) (k:=3) hT rfl (by decide) s_f104_first ?_,e2⟩
 simp only [insC,Iz,bl,ShD.c] at hgg hgg2 hgs hD1 hl1 hmg hcal hgz hss hxl2 hll2
 unfold biG
 cases hd:((shp x.op).d && x.d.data.toList == []) with
 | true=>
   simp only [insC,Iz,ShD.c,s_f104,a_f104,aa,reduceIte,reduceCtorEq,Nat.reduceEqDiff,Nat.reduceLT,Nat.reduceLeDiff,Nat.reduceBEq,Nat.reduceAdd,Nat.reduceMul,op_appR,hav,hlv,Bool.and_self,hl1,hD1,hl2,hgg,hgg2,hgs,hw1,hmp,hmg,hbD1,hss,hgz,hcal,hxl2,hll2,hd]
   cases e1:bi1 x with
   | true=>
     unfold bi1 at e1
     simp only [e1,cond_true,Bool.true_or]
   | false=>
     unfold bi1 at e1
     simp only [e1,cond_false,Bool.false_or]
     cases e2:bi2 x with
     | true=>
       unfold bi2 at e2
       rw [hd] at e2
       simp only [Bool.false_and,Bool.false_or,Bool.true_and] at e2
       simp only [e2,cond_true,cond_false,Bool.true_or,Bool.false_and,Bool.false_or,Bool.true_and]
     | false=>
       unfold bi2 at e2
       rw [hd] at e2
       simp only [Bool.false_and,Bool.false_or,Bool.true_and] at e2
       simp only [e2,cond_true,cond_false,Bool.false_or,Bool.false_and,Bool.true_and]
       unfold bi3
       cases o1:(x.op == 1) <;> cases o2:(x.op == 2) <;> cases o7:(x.op == 7) <;> cases o6:(x.op == 6) <;> cases o12:(x.op == 12) <;> cases o13:(x.op == 13) <;> simp only [cond_true,cond_false,Bool.true_or,Bool.false_or,Bool.or_true,Bool.or_false]
 | false=>
   simp only [insC,Iz,ShD.c,s_f104,a_f104,aa,reduceIte,reduceCtorEq,Nat.reduceEqDiff,Nat.reduceLT,Nat.reduceLeDiff,Nat.reduceBEq,Nat.reduceAdd,Nat.reduceMul,op_appR,hav,hlv,Bool.and_self,hl1,hD1,hl2,hgg,hgg2,hgs,hw1,hmp,hmg,hbD1,hss,hgz,hcal,hxl2,hll2,hd]
   cases e1:bi1 x with
   | true=>
     unfold bi1 at e1
     simp only [e1,cond_true,Bool.true_or]
   | false=>
     unfold bi1 at e1
     simp only [e1,cond_false,Bool.false_or]
     cases e2:bi2 x with
     | true=>
       unfold bi2 at e2
       rw [hd] at e2
       simp only [Bool.false_and,Bool.false_or,Bool.true_and] at e2
       simp only [e2,cond_true,cond_false,Bool.true_or,Bool.false_and,Bool.false_or,Bool.true_and]
     | false=>
       unfold bi2 at e2
       rw [hd] at e2
       simp only [Bool.false_and,Bool.false_or,Bool.true_and] at e2
       simp only [e2,cond_true,cond_false,Bool.false_or,Bool.false_and,Bool.true_and]
       unfold bi3
       cases o1:(x.op == 1) <;> cases o2:(x.op == 2) <;> cases o7:(x.op == 7) <;> cases o6:(x.op == 6) <;> cases o12:(x.op == 12) <;> cases o13:(x.op == 13) <;> simp only [cond_true,cond_false,Bool.true_or,Bool.false_or,Bool.or_true,Bool.or_false]
end
end Go.Proofs.YtngfpadeebpoeaaGreatDoor
set_option maxRecDepth 100000
namespace Go.Proofs.YtngfpadeebpoeaaGreatDoor
open Go.AM
structure FormOk (x:InsD):Prop where
 op:x.op=1∨x.op=2∨x.op=3∨x.op=4∨x.op=5∨x.op=6∨x.op=7∨x.op=8∨x.op=9∨x.op=10∨x.op=11∨x.op=12∨x.op=13∨x.op=14
 k:x.op=1∨x.op=2∨x.op=7→0≤x.k∧x.k < 100
 phi:x.op=6→x.xs.length=x.ls.length
 br:x.op=12→x.ls.length=2
 go:x.op=13→x.ls.length=1
theorem op_cases {r:Int} (h:(lookI shT r).isSome=true):r=1∨r=2∨r=3∨r=4∨r=5∨r=6∨r=7∨r=8∨r=9∨r=10∨r=11∨r=12∨r=13∨r=14:=by
 refine Decidable.byContradiction fun hn=>?_
 simp only [not_or] at hn
 obtain ⟨e1,e2,e3,e4,e5,e6,e7,e8,e9,e10,e11,e12,e13,e14⟩:=hn
 simp only [lookI,shT,List.findIdx?_cons,List.findIdx?_nil,e1,e2,e3,e4,e5,e6,e7,e8,e9,e10,e11,e12,e13,e14,decide_false,Bool.false_eq_true,if_false,Option.map_none,Option.isSome_none] at h
theorem formOk_of {x:InsD} (h:biG x=false):FormOk x:=by
 unfold biG at h
 rw [Bool.or_eq_false_iff,Bool.or_eq_false_iff] at h
 obtain ⟨h1,_,h3⟩:=h
 have hop:(lookI shT x.op).isSome=true:=by
  cases e:(lookI shT x.op).isSome with
  | true=>rfl
  | false=>simp [bi1,e] at h1
 refine ⟨op_cases hop,fun hk=>?_,fun hk=>?_,fun hk=>?_,fun hk=>?_⟩
 ·rcases hk with e | e | e <;> simp [bi3,e] at h3 <;> omega
 ·simp [bi3,hk] at h3
  omega
 ·simp [bi3,hk] at h3
  omega
 ·simp [bi3,hk] at h3
  omega
def formT (x:InsD):ByteArray:=
 if x.op=1 then wordsT [bAlloca,itB x.k] else
 if x.op=2 then wordsT [bMalloc,itB x.k] else
 if x.op=3 then bNull else
 if x.op=4 then wordsT [bAddr,x.f] else
 if x.op=5 then wordsT [bCopy,x.a] else
 if x.op=6 then wordsT [bPhi,pairsT x] else
 if x.op=7 then wordsT [bField,x.a,itB x.k] else
 if x.op=8 then wordsT [bLoad,x.a] else
 if x.op=9 then wordsT [bStore,x.a ++ bComma,x.b] else
 if x.op=10 then wordsT [bCall,x.f ++ argsT x.xs] else
 if x.op=11 then wordsT [bICall,x.a ++ argsT x.xs] else
 if x.op=12 then wordsT [bBr,x.ls.getD 0 ⟨#[]⟩,x.ls.getD 1 ⟨#[]⟩] else
 if x.op=13 then wordsT [bGoto,x.ls.getD 0 ⟨#[]⟩] else
 if x.op=14 then retT x else
 ⟨#[]⟩
structure ForT (CT:Nat→Option CFun):Prop where
 W:WorT CT
 P:CT k_f60=some (.code s_f60)
 f1:CT k_f52=some (.code s_f52)
 f2:CT k_f54=some (.code s_f54)
 f3:CT k_f55=some (.code s_f55)
 f4:CT k_f56=some (.code s_f56)
 f5:CT k_f57=some (.code s_f57)
 f6:CT k_f58=some (.code s_f58)
 f7:CT k_f59=some (.code s_f59)
 f8:CT k_f61=some (.code s_f61)
 f9:CT k_f62=some (.code s_f62)
 f10:CT k_f63=some (.code s_f63)
 f11:CT k_f64=some (.code s_f64)
 f12:CT k_f65=some (.code s_f65)
 f13:CT k_f66=some (.code s_f66)
 f14:CT k_f67=some (.code s_f67)
 f15:CT k_f68=some (.code s_f68)
section
variable {CT:Nat→Option CFun}
theorem form_fun (h:ForT CT) (base:Nat) {A:Heap} (hb:base≤A.length) {av lv:V} {x:InsD} (hr:RdIns A (insC x av lv) x) (hx:SmI x) (hf:FormOk x) {n:Nat} (hn:getC A n 0=some [.fn 52 [] []]):
 ∃ f H',lookI (foT n) x.op=some f∧callW CT f [.agg (insC x av lv)] base A=some (Sb (formT x),H')∧Ext A H':=by
 rcases hf.op with e | e | e | e | e | e | e | e | e | e | e | e | e | e
 ·have hk:=hf.k (by omega)
  obtain ⟨H',h1,h2⟩:=f2_fun h.W h.f2 base hr hx hk.1 hk.2 hn h.f1
  refine ⟨_,H',by rw [e];rfl,?_,h2⟩
  rw [show formT x=wordsT [bAlloca,itB x.k] by simp [formT,e]]
  exact h1
 ·have hk:=hf.k (by omega)
  obtain ⟨H',h1,h2⟩:=f3_fun h.W h.f3 base hr hx hk.1 hk.2 hn h.f1
  refine ⟨_,H',by rw [e];rfl,?_,h2⟩
  rw [show formT x=wordsT [bMalloc,itB x.k] by simp [formT,e]]
  exact h1
 ·obtain ⟨H',h1,h2⟩:=f4_fun h.f4 base hr
  refine ⟨_,H',by rw [e];rfl,?_,h2⟩
  rw [show formT x=bNull by simp [formT,e]]
  exact h1
 ·obtain ⟨H',h1,h2⟩:=f5_fun h.W h.f5 base hr hx
  refine ⟨_,H',by rw [e];rfl,?_,h2⟩
  rw [show formT x=wordsT [bAddr,x.f] by simp [formT,e]]
  exact h1
 ·obtain ⟨H',h1,h2⟩:=f6_fun h.W h.f6 base hr hx
  refine ⟨_,H',by rw [e];rfl,?_,h2⟩
  rw [show formT x=wordsT [bCopy,x.a] by simp [formT,e]]
  exact h1
 ·obtain ⟨H',h1,h2⟩:=f7_fun h.W h.P h.f7 base hb hr hx (hf.phi e)
  refine ⟨_,H',by rw [e];rfl,?_,h2⟩
  rw [show formT x=wordsT [bPhi,pairsT x] by simp [formT,e]]
  exact h1
 ·have hk:=hf.k (by omega)
  obtain ⟨H',h1,h2⟩:=f8_fun h.W h.f8 base hr hx hk.1 hk.2 hn h.f1
  refine ⟨_,H',by rw [e];rfl,?_,h2⟩
  rw [show formT x=wordsT [bField,x.a,itB x.k] by simp [formT,e]]
  exact h1
 ·obtain ⟨H',h1,h2⟩:=f9_fun h.W h.f9 base hr hx
  refine ⟨_,H',by rw [e];rfl,?_,h2⟩
  rw [show formT x=wordsT [bLoad,x.a] by simp [formT,e]]
  exact h1
 ·obtain ⟨H',h1,h2⟩:=f10_fun h.W h.f10 base hr hx
  refine ⟨_,H',by rw [e];rfl,?_,h2⟩
  rw [show formT x=wordsT [bStore,x.a ++ bComma,x.b] by simp [formT,e]]
  exact h1
 ·obtain ⟨H',h1,h2⟩:=f11_fun h.W h.f11 base hr hx
  refine ⟨_,H',by rw [e];rfl,?_,h2⟩
  rw [show formT x=wordsT [bCall,x.f ++ argsT x.xs] by simp [formT,e]]
  exact h1
 ·obtain ⟨H',h1,h2⟩:=f12_fun h.W h.f12 base hr hx
  refine ⟨_,H',by rw [e];rfl,?_,h2⟩
  rw [show formT x=wordsT [bICall,x.a ++ argsT x.xs] by simp [formT,e]]
  exact h1
 ·obtain ⟨H',h1,h2⟩:=f13_fun h.W h.f13 base hr hx (hf.br e)
  refine ⟨_,H',by rw [e];rfl,?_,h2⟩
  rw [show formT x=wordsT [bBr,x.ls.getD 0 ⟨#[]⟩,x.ls.getD 1 ⟨#[]⟩] by simp [formT,e]]
  exact h1
 ·obtain ⟨H',h1,h2⟩:=f14_fun h.W h.f14 base hr hx (hf.go e)
  refine ⟨_,H',by rw [e];rfl,?_,h2⟩
  rw [show formT x=wordsT [bGoto,x.ls.getD 0 ⟨#[]⟩] by simp [formT,e]]
  exact h1
 ·obtain ⟨H',h1,h2⟩:=f15_fun h.W h.f15 base hr hx
  refine ⟨_,H',by rw [e];rfl,?_,h2⟩
  rw [show formT x=retT x by simp [formT,e]]
  exact h1
end
end Go.Proofs.YtngfpadeebpoeaaGreatDoor
set_option maxRecDepth 100000
namespace Go.Proofs.YtngfpadeebpoeaaGreatDoor
open Go.AM
theorem Bld.ext {m b:Nat} {H H':Heap} {txt:List UInt8} (h:Bld m H b txt) (k:Ext H H'):Bld m H' b txt:=by
 obtain ⟨h1,⟨h2,h3⟩ | ⟨id,g,h2,h3,h4⟩⟩:=h
 ·exact ⟨h1,.inl ⟨h2,getC_ext h3 k⟩⟩
 ·exact ⟨h1,.inr ⟨id,g,getC_ext h2 k,by rw [k.get (List.getElem?_eq_some_iff.1 h3).1];exact h3,h4⟩⟩
theorem Wr.ext {m b:Nat} {A H H':Heap} (h:Wr m b H H') (hA:A.length=m) (k:Ext A H):Ext A H':=by
 refine ⟨H'.drop A.length,?_⟩
 apply List.ext_getElem?
 intro i
 by_cases hi:i < A.length
 ·rw [List.getElem?_append_left hi,h.2.1 i (by omega),k.get hi]
 ·rw [List.getElem?_append_right (by omega),List.getElem?_drop]
  congr 1
  omega
theorem Bld.trim {m b:Nat} {H:Heap} {txt:List UInt8} (h:Bld m H b txt) {L:Nat} (hb:b < L) (fr:List V):Bld m (trim L fr H) b txt:=by
 unfold AM.trim
 split
 ·rename_i hc
  rw [Bool.and_eq_true] at hc
  have hc2:=List.all_eq_true.1 hc.2
  have gt:∀ {c:List V},getC H b 0=some c→getC (H.take L) b 0=some c:=by
   intro c hg
   unfold getC at hg ⊢
   rw [List.getElem?_take_of_lt hb]
   exact hg
  obtain ⟨h1,⟨h2,h3⟩ | ⟨id,g,h2,h3,h4⟩⟩:=h
  ·exact ⟨h1,.inl ⟨h2,gt h3⟩⟩
  ·refine ⟨h1,.inr ⟨id,g,gt h2,?_,h4⟩⟩
   have hm:Ob.cells 0 [V.ref b 0 0,.sl id g 0 txt.length 1]∈H.take L:=List.mem_of_getElem? (getC_some (gt h2))
   have hu:=hc2 _ hm
   simp only [Ob.under,List.all_cons,List.all_nil,Bool.and_true,Bool.and_eq_true,idsUnder,decide_eq_true_eq] at hu
   rw [List.getElem?_take_of_lt hu.2]
   exact h3
 ·exact h
def lineX (x:InsD):ByteArray:=if x.d.size=0 then formT x else wordsT [x.d,⟨#[61]⟩,formT x]
def lnI (x:InsD):ByteArray:=lineT [⟨#[32,32]⟩,lineX x]
theorem words2_le {M:Nat} {a b:ByteArray} (ha:a.size≤M) (hb:b.size≤M) (hM:M≤1048576):(wordsT [a,b]).size≤2 * (M+2):=(joinOkM (xs:=[a,b]) (sep:=bSp) (by simp) (two_le ha hb) hM (by decide)).2
theorem words3_le {M:Nat} {a b c:ByteArray} (ha:a.size≤M) (hb:b.size≤M) (hc:c.size≤M) (hM:M≤1048576):(wordsT [a,b,c]).size≤3 * (M+2):=(joinOkM (xs:=[a,b,c]) (sep:=bSp) (by simp) (three_le ha hb hc) hM (by decide)).2
theorem trim_len (s p:List UInt8):(Lib.trimSuffix s p).length≤s.length:=by
 unfold Lib.trimSuffix
 split
 ·rw [List.length_take];omega
 ·exact Nat.le_refl _
theorem formT_size {x:InsD} (hx:SmI x) (hf:FormOk x):(formT x).size≤30006:=by
 have ha:=hx.a;have hb:=hx.b;have hff:=hx.f;have hd:=hx.d
 have hz:=(argsT_size hx.nx hx.xs).2
 have hp:=pairsT_size hx
 have n1:bComma.size=1:=rfl
 have c1:(x.a ++ bComma).size≤10000:=by rw [size_cat];omega
 have c2:(x.f ++ argsT x.xs).size≤10000:=by rw [size_cat];omega
 have c3:(x.a ++ argsT x.xs).size≤10000:=by rw [size_cat];omega
 have d0:=getD_le hx.ls 0
 have d1:=getD_le hx.ls 1
 have L:∀ a b:ByteArray,a.size≤10000→b.size≤10000→(wordsT [a,b]).size≤30006:=fun a b h1 h2=>Nat.le_trans (words2_le h1 h2 (by omega)) (by omega)
 have L3:∀ a b c:ByteArray,a.size≤10000→b.size≤10000→c.size≤10000→(wordsT [a,b,c]).size≤30006:=fun a b c h1 h2 h3=>Nat.le_trans (words3_le h1 h2 h3 (by omega)) (by omega)
 rcases hf.op with e | e | e | e | e | e | e | e | e | e | e | e | e | e
 ·have hk:=hf.k (by omega)
  have:=itB_size hk.1 hk.2
  rw [show formT x=wordsT [bAlloca,itB x.k] by simp [formT,e]]
  exact L _ _ (by decide) (by omega)
 ·have hk:=hf.k (by omega)
  have:=itB_size hk.1 hk.2
  rw [show formT x=wordsT [bMalloc,itB x.k] by simp [formT,e]]
  exact L _ _ (by decide) (by omega)
 ·rw [show formT x=bNull by simp [formT,e]]
  decide
 ·rw [show formT x=wordsT [bAddr,x.f] by simp [formT,e]]
  exact L _ _ (by decide) (by omega)
 ·rw [show formT x=wordsT [bCopy,x.a] by simp [formT,e]]
  exact L _ _ (by decide) (by omega)
 ·rw [show formT x=wordsT [bPhi,pairsT x] by simp [formT,e]]
  exact L _ _ (by decide) (by omega)
 ·have hk:=hf.k (by omega)
  have:=itB_size hk.1 hk.2
  rw [show formT x=wordsT [bField,x.a,itB x.k] by simp [formT,e]]
  exact L3 _ _ _ (by decide) (by omega) (by omega)
 ·rw [show formT x=wordsT [bLoad,x.a] by simp [formT,e]]
  exact L _ _ (by decide) (by omega)
 ·rw [show formT x=wordsT [bStore,x.a ++ bComma,x.b] by simp [formT,e]]
  exact L3 _ _ _ (by decide) c1 (by omega)
 ·rw [show formT x=wordsT [bCall,x.f ++ argsT x.xs] by simp [formT,e]]
  exact L _ _ (by decide) c2
 ·rw [show formT x=wordsT [bICall,x.a ++ argsT x.xs] by simp [formT,e]]
  exact L _ _ (by decide) c3
 ·rw [show formT x=wordsT [bBr,x.ls.getD 0 ⟨#[]⟩,x.ls.getD 1 ⟨#[]⟩] by simp [formT,e]]
  exact L3 _ _ _ (by decide) (by omega) (by omega)
 ·rw [show formT x=wordsT [bGoto,x.ls.getD 0 ⟨#[]⟩] by simp [formT,e]]
  exact L _ _ (by decide) (by omega)
 ·rw [show formT x=retT x by simp [formT,e]]
  have h1:=L bRet x.a (by decide) (by omega)
  exact Nat.le_trans (trim_len _ _) h1
theorem lineX_size {x:InsD} (hx:SmI x) (hf:FormOk x):(lineX x).size≤90024:=by
 have h1:=formT_size hx hf
 have hd:=hx.d
 unfold lineX
 split
 ·omega
 ·exact words3_le (M:=30006) (by omega) (by decide) h1 (by omega)
end Go.Proofs.YtngfpadeebpoeaaGreatDoor
set_option maxRecDepth 100000
namespace Go.Proofs.YtngfpadeebpoeaaGreatDoor
open Go.AM
structure PrT (CT:Nat→Option CFun):Prop where
 F:ForT CT
 W:CT k_f19=some (.code s_f19)
 L:CT k_f18=some (.code s_f18)
def codeT (l:List InsD):List UInt8:=l.flatMap fun x=>(lnI x).data.toList
theorem codeT_succ {l:List InsD} {i:Nat} {x:InsD} (h:l[i]?=some x):codeT (l.take (i+1))=codeT (l.take i) ++ (lnI x).data.toList:=by
 rw [List.take_add_one,h]
 simp [codeT]
section
variable {CT:Nat→Option CFun}
theorem code_step (h:PrT CT) (base:Nat) {A0:Heap} (hb:base≤A0.length) {n fm:Nat} (hn:getC A0 n 0=some [.fn 52 [] []]) (hm:A0[fm]?=some (.map (esI .u8 (foT n)))) {cv:V} {code:List InsD} (hc:RdL 8 RdIns A0 cv code) {L:Nat} (hL:A0.length < L) {v35 v53:V} {n36 n37 n54 n55:Int} {k:Nat} {x:InsD} (hk:code[k]?=some x) (hx:SmI x) (hf:FormOk x) {txt:List UInt8} {C:Heap} (hE:Ext A0 C) (hB:Bld A0.length C A0.length txt) (hl:txt.length+(lnI x).size≤2 ^ 47) (hk2:k < 2 ^ 62):
 ∃ C',itW (evC (callW CT) itW base s_f10_l1) [] L (frOf 98 [(8,.mp fm),(9,.ref A0.length 0 0),(10,.fn 18 [] [.ref A0.length 0 0]),(35,v35),(36,Iz n36),(37,Iz n37),(53,v53),(54,Iz n54),(55,Iz n55),(65,cv),(66,Iz code.length),(67,Iz k)]) C=itW (evC (callW CT) itW base s_f10_l1) [] L (frOf 98 [(8,.mp fm),(9,.ref A0.length 0 0),(10,.fn 18 [] [.ref A0.length 0 0]),(35,v35),(36,Iz n36),(37,Iz n37),(53,v53),(54,Iz n54),(55,Iz n55),(65,cv),(66,Iz code.length),(67,Iz ((k+1:Nat):Int))]) C'∧Ext A0 C'∧Bld A0.length C' A0.length (txt ++ (lnI x).data.toList):=by
 have hkl:=(List.getElem?_eq_some_iff.1 hk).1
 obtain ⟨a,r,i0,hr,l0,_⟩:=hc.at2 hk
 obtain ⟨av,lv,rfl,q1,q2,q3,q4,q5⟩:=hr
 have hav:=q1.one
 have hlv:=q3.one
 have hl0:=l0 C hE
 obtain ⟨C1,hC1⟩:∃ C1,C ++ [Ob.cells 0 (insC x av lv)]=C1:=⟨_,rfl⟩
 have e1:Ext C C1:=hC1 ▸ Ext.app _ _
 have E1:=hE.trans e1
 have hgg:getC C1 C.length 0=some (insC x av lv):=hC1 ▸ getC_new C 0 _
 obtain ⟨f,C2,hlk,hcf,e2⟩:=form_fun h.F base (A:=C1) (by have:=E1.le;omega) (RdIns.ext ⟨av,lv,rfl,q1,q2,q3,q4,q5⟩ E1) hx hf (getC_ext hn E1)
 have hmg:=get_I .u8 (Ext.at' E1 hm) (.s .nilFunc) false x.op
 rw [if_neg Bool.false_ne_true,hlk,Option.getD_some] at hmg
 have hss:∀ c d,(C ++ [c]).set C.length d=C ++ [d]:=fun c d=>set_snoc C c d
 have hgz:∀ c,getC (C ++ [Ob.cells 0 c]) C.length 0=some c:=fun c=>getC_new C 0 c
 have hlt:decide ((k:Int) < (code.length:Int))=true:=by simpa using hkl
 have hgg2:=getC_ext hgg e2
 have zf:=formT_size hx hf
 have zx:=lineX_size hx hf
 have hd200:=hx.d
 have hbC:∀ H',Ext C H'→base≤H'.length:=fun H' e=>by have:=(hE.trans e).le;omega
 have hbC0:base≤C.length:=hbC C (Ext.refl C)
 have hln:∀ t:ByteArray,t=lineX x→∀ D,Ext C2 D→∃ C',callW CT (.fn k_f18 [] [.ref A0.length 0 0]) [.sl D.length 0 0 2 1] base (D ++ [.cells 0 [Sb ⟨#[32,32]⟩,Sb t]])=some (.tup [],C')∧Bld A0.length C' A0.length (txt ++ (lnI x).data.toList)∧Ext A0 C':=by
  rintro t rfl D eD
  have eB:Ext C (D ++ [.cells 0 [Sb ⟨#[32,32]⟩,Sb (lineX x)]]):=(e1.trans e2).trans (eD.trans (Ext.app _ _))
  have hj:=joinOkM (xs:=[⟨#[32,32]⟩,lineX x]) (sep:=⟨#[]⟩) (by simp) (two_le (M:=90024) (by decide) zx) (by omega) (by decide)
  obtain ⟨C',w1,w2,w3⟩:=line_fun h.F.W.L h.W h.L hb (hB.ext eB) (strs_new D [⟨#[32,32]⟩,lineX x]) hj.1 hl
  exact ⟨C',w1,w2,w3.ext rfl (hE.trans eB)⟩
 cases hd:(x.d.data.toList == []) with
 | true=>
   have hd0:x.d.size=0:=by
    have:x.d.data.toList=[]:=by simpa using hd
    have h2:x.d.data.toList.length=0:=by rw [this];rfl
    exact h2
   obtain ⟨C',w1,w2,w3⟩:=hln (formT x) (by unfold lineX;rw [if_pos hd0]) C2 (Ext.refl _)
   refine ⟨trim L (frOf 98 [(8,.mp fm),(9,.ref A0.length 0 0),(10,.fn 18 [] [.ref A0.length 0 0]),(35,v35),(36,Iz n36),(37,Iz n37),(53,v53),(54,Iz n54),(55,Iz n55),(65,cv),(66,Iz code.length),(67,Iz ((k+1:Nat):Int))]) C',?_,w3.trim (by omega) _,w2.trim hL _⟩
   rw [itW_step]
   simp only [insC,Iz] at hgg hgg2 hcf hmg hss hgz w1 hl0 hC1 i0
   simp only [insC,Iz,s_f10_l1_ev,a_f10,s_f10_l0_b,s_f10_l1_b,s_f10_l2_b,s_f10_l3_b,aa,reduceIte,reduceCtorEq,Nat.reduceEqDiff,Nat.reduceLT,Nat.reduceLeDiff,Nat.reduceBEq,Nat.reduceAdd,Nat.reduceMul,op_appR,hlt,cond_true,hbC0,if_true,i0,hl0,hav,hlv,Bool.and_self,hss,hgz,hC1,hgg,hmg,hcf,hgg2,hd,Bool.not_true,cond_false,w1,w64 hk2]
   try rfl
 | false=>
   have hd0:x.d.size≠0:=by
    intro e
    have:x.d.data.toList=[]:=List.eq_nil_of_length_eq_zero e
    rw [this] at hd
    cases hd
   have hj3:=joinOkM (xs:=[x.d,⟨#[61]⟩,formT x]) (sep:=bSp) (by simp) (three_le (M:=30006) (by omega) (by decide) zf) (by omega) (by decide)
   have hw3:=words_fun h.F.W.L h.F.W.W base (strs_new C2 [x.d,⟨#[61]⟩,formT x]) hj3.1
   have l3:=len_snoc C2 (Ob.cells 0 ([x.d,⟨#[61]⟩,formT x].map Sb))
   have hgg3:=getC_ext hgg2 (Ext.app C2 [Ob.cells 0 ([x.d,⟨#[61]⟩,formT x].map Sb)])
   obtain ⟨C',w1,w2,w3⟩:=hln (wordsT [x.d,⟨#[61]⟩,formT x]) (by unfold lineX;rw [if_neg hd0]) (C2 ++ [Ob.cells 0 ([x.d,⟨#[61]⟩,formT x].map Sb)]) (Ext.app _ _)
   refine ⟨trim L (frOf 98 [(8,.mp fm),(9,.ref A0.length 0 0),(10,.fn 18 [] [.ref A0.length 0 0]),(35,v35),(36,Iz n36),(37,Iz n37),(53,v53),(54,Iz n54),(55,Iz n55),(65,cv),(66,Iz code.length),(67,Iz ((k+1:Nat):Int))]) C',?_,w3.trim (by omega) _,w2.trim hL _⟩
   rw [itW_step]
   rw [l3] at w1
   simp only [insC,Iz,List.map_cons,List.map_nil,List.length_cons,List.length_nil] at hgg hgg2 hgg3 hcf hmg hss hgz w1 hl0 hC1 i0 hw3 l3
   simp only [insC,Iz,s_f10_l1_ev,a_f10,s_f10_l0_b,s_f10_l1_b,s_f10_l2_b,s_f10_l3_b,aa,reduceIte,reduceCtorEq,Nat.reduceEqDiff,Nat.reduceLT,Nat.reduceLeDiff,Nat.reduceBEq,Nat.reduceAdd,Nat.reduceMul,op_appR,hlt,cond_true,hbC0,if_true,i0,hl0,hav,hlv,Bool.and_self,hss,hgz,hC1,hgg,hmg,hcf,hgg2,hd,Bool.not_false,hw3,hgg3,l3,w1,w64 hk2]
   try rfl
theorem codeT_le {l:List InsD} (i:Nat):(codeT (l.take i)).length≤(codeT l).length:=by
 have:codeT l=codeT (l.take i) ++ codeT (l.drop i):=by
  unfold codeT
  rw [← List.flatMap_append,List.take_append_drop]
 rw [this,List.length_append]
 omega
theorem code_loop (h:PrT CT) (base:Nat) {A0:Heap} (hb:base≤A0.length) {n fm:Nat} (hn:getC A0 n 0=some [.fn 52 [] []]) (hm:A0[fm]?=some (.map (esI .u8 (foT n)))) {cv:V} {code:List InsD} (hc:RdL 8 RdIns A0 cv code) (hs:∀ x∈code,SmI x∧FormOk x) (hcl:code.length < 2 ^ 62) {L:Nat} (hL:A0.length < L) {v35 v53:V} {n36 n37 n54 n55:Int} {txt:List UInt8} {C:Heap} (hE:Ext A0 C) (hB:Bld A0.length C A0.length txt) (hl:txt.length+(codeT code).length≤2 ^ 47):
 ∃ C',itW (evC (callW CT) itW base s_f10_l1) [] L (frOf 98 [(8,.mp fm),(9,.ref A0.length 0 0),(10,.fn 18 [] [.ref A0.length 0 0]),(35,v35),(36,Iz n36),(37,Iz n37),(53,v53),(54,Iz n54),(55,Iz n55),(65,cv),(66,Iz code.length),(67,Iz ((0:Nat):Int))]) C=itW (evC (callW CT) itW base s_f10_l1) [] L (frOf 98 [(8,.mp fm),(9,.ref A0.length 0 0),(10,.fn 18 [] [.ref A0.length 0 0]),(35,v35),(36,Iz n36),(37,Iz n37),(53,v53),(54,Iz n54),(55,Iz n55),(65,cv),(66,Iz code.length),(67,Iz code.length)]) C'∧Ext A0 C'∧Bld A0.length C' A0.length (txt ++ codeT code):=by
 obtain ⟨C',e1,e2,e3⟩:=it_rel code.length (fun k C=>Ext A0 C∧Bld A0.length C A0.length (txt ++ codeT (code.take k))) (fun k C=>itW (evC (callW CT) itW base s_f10_l1) [] L (frOf 98 [(8,.mp fm),(9,.ref A0.length 0 0),(10,.fn 18 [] [.ref A0.length 0 0]),(35,v35),(36,Iz n36),(37,Iz n37),(53,v53),(54,Iz n54),(55,Iz n55),(65,cv),(66,Iz code.length),(67,Iz (k:Int))]) C) (by
  rintro k C hk ⟨hE,hB⟩
  have hx:=List.getElem?_eq_getElem hk
  have hsx:=hs _ (List.getElem_mem hk)
  have hle:(codeT (code.take (k+1))).length≤(codeT code).length:=codeT_le _
  rw [codeT_succ hx,List.length_append] at hle
  have hz:(lnI code[k]).data.toList.length=(lnI code[k]).size:=rfl
  obtain ⟨C',q1,q2,q3⟩:=code_step h base hb hn hm hc hL (v35:=v35) (v53:=v53) (n36:=n36) (n37:=n37) (n54:=n54) (n55:=n55) hx hsx.1 hsx.2 hE hB (by rw [List.length_append];omega) (by omega)
  exact ⟨C',q1,q2,by rw [codeT_succ hx,← List.append_assoc];exact q3⟩) 0 C (Nat.zero_le _) ⟨hE,by simpa [codeT] using hB⟩
 rw [List.take_length] at e3
 exact ⟨C',e1,e2,e3⟩
end
end Go.Proofs.YtngfpadeebpoeaaGreatDoor
set_option maxRecDepth 100000
namespace Go.Proofs.YtngfpadeebpoeaaGreatDoor
open Go.AM
def lnB (b:BlkD):ByteArray:=lineT [b.label,⟨#[58]⟩]
def blkT (b:BlkD):List UInt8:=(lnB b).data.toList ++ codeT b.code
theorem Bld.lt {m b:Nat} {H:Heap} {txt:List UInt8} (h:Bld m H b txt):b < H.length:=by
 obtain ⟨_,⟨_,h3⟩ | ⟨id,g,h2,_⟩⟩:=h
 ·exact getC_lt h3
 ·exact getC_lt h2
structure SmB (b:BlkD):Prop where
 l:b.label.size≤200
 x:∀ x∈b.code,SmI x∧FormOk x
 n:b.code.length < 2 ^ 62
section
variable {CT:Nat→Option CFun}
theorem blk_step (h:PrT CT) (base:Nat) {A0:Heap} (hb:base≤A0.length) {n fm:Nat} (hn:getC A0 n 0=some [.fn 52 [] []]) (hm:A0[fm]?=some (.map (esI .u8 (foT n)))) {bv:V} {bs:List BlkD} (hc:RdL 2 RdBlk A0 bv bs) {L:Nat} (hL:A0.length < L) {v35:V} {n36 n37:Int} {k:Nat} {x:BlkD} (hk:bs[k]?=some x) (hx:SmB x) {txt:List UInt8} {C:Heap} (hE:Ext A0 C) (hB:Bld A0.length C A0.length txt) (hl:txt.length+(blkT x).length≤2 ^ 47) (hk2:k < 2 ^ 62):
 ∃ C',itW (evC (callW CT) itW base s_f10_l2) [] L (frOf 98 [(8,.mp fm),(9,.ref A0.length 0 0),(10,.fn 18 [] [.ref A0.length 0 0]),(35,v35),(36,Iz n36),(37,Iz n37),(53,bv),(54,Iz bs.length),(55,Iz k)]) C=itW (evC (callW CT) itW base s_f10_l2) [] L (frOf 98 [(8,.mp fm),(9,.ref A0.length 0 0),(10,.fn 18 [] [.ref A0.length 0 0]),(35,v35),(36,Iz n36),(37,Iz n37),(53,bv),(54,Iz bs.length),(55,Iz ((k+1:Nat):Int))]) C'∧Ext A0 C'∧Bld A0.length C' A0.length (txt ++ blkT x):=by
 have hkl:=(List.getElem?_eq_some_iff.1 hk).1
 obtain ⟨a,r,i0,hr,l0,_⟩:=hc.at2 hk
 obtain ⟨cv,rfl,hcode⟩:=hr
 have hcv:=hcode.one
 have hl0:=l0 C hE
 obtain ⟨C1,hC1⟩:∃ C1,C ++ [Ob.cells 0 [Sb x.label,cv]]=C1:=⟨_,rfl⟩
 have e1:Ext C C1:=hC1 ▸ Ext.app _ _
 have E1:=hE.trans e1
 have hgg:getC C1 C.length 0=some [Sb x.label,cv]:=hC1 ▸ getC_new C 0 _
 have hl1:C1.length=C.length+1:=by rw [← hC1,len_snoc]
 have hss:∀ c d,(C ++ [c]).set C.length d=C ++ [d]:=fun c d=>set_snoc C c d
 have hgz:∀ c,getC (C ++ [Ob.cells 0 c]) C.length 0=some c:=fun c=>getC_new C 0 c
 have hlt:decide ((k:Int) < (bs.length:Int))=true:=by simpa using hkl
 have hbC0:base≤C.length:=by have:=hE.le;omega
 have hla:=hx.l
 have hz1:(blkT x).length=(lnB x).size+(codeT x.code).length:=by unfold blkT;rw [List.length_append];rfl
 have hj:=joinOkM (xs:=[x.label,⟨#[58]⟩]) (sep:=⟨#[]⟩) (by simp) (two_le (M:=200) hla (by decide)) (by omega) (by decide)
 have eB:Ext C (C1 ++ [.cells 0 [Sb x.label,Sb ⟨#[58]⟩]]):=e1.trans (Ext.app _ _)
 obtain ⟨C2,w1,w2,w3⟩:=line_fun h.F.W.L h.W h.L hb (hB.ext eB) (strs_new C1 [x.label,⟨#[58]⟩]) hj.1 (by have:(lineT [x.label,⟨#[58]⟩]).size=(lnB x).size:=rfl;omega)
 have E2:=w3.ext rfl (hE.trans eB)
 have hggL:=getC_app hgg (G:=[Ob.cells 0 [Sb x.label,Sb ⟨#[58]⟩]])
 have hgg2:getC C2 C.length 0=some [Sb x.label,cv]:=by
  have hgo:=getC_some hggL
  have:C2[C.length]?=some (.cells 0 [Sb x.label,cv]):=by
   rw [w3.2.2 C.length (by have:=hB.lt;omega) (by have:=eB.le;have:=(List.getElem?_eq_some_iff.1 hgo).1;exact this) (fun g l e=>by rw [hgo] at e;cases e)]
   exact hgo
  unfold getC
  rw [this]
  rfl
 obtain ⟨C3,g1,g2,g3⟩:=code_loop h base hb hn hm hcode hx.x hx.n (L:=C2.length) w2.lt (v35:=v35) (v53:=bv) (n36:=n36) (n37:=n37) (n54:=bs.length) (n55:=k) E2 w2 (by rw [List.length_append];have:(lineT [x.label,⟨#[58]⟩]).data.toList.length=(lnB x).size:=rfl;omega)
 have hll:=RdL.len (RdL.ext (P:=RdIns) RdIns.ext hcode E2)
 have hge:decide ((x.code.length:Int) < (x.code.length:Int))=false:=by simp
 refine ⟨trim L (frOf 98 [(8,.mp fm),(9,.ref A0.length 0 0),(10,.fn 18 [] [.ref A0.length 0 0]),(35,v35),(36,Iz n36),(37,Iz n37),(53,bv),(54,Iz bs.length),(55,Iz ((k+1:Nat):Int))]) (trim C2.length (frOf 98 [(8,.mp fm),(9,.ref A0.length 0 0),(10,.fn 18 [] [.ref A0.length 0 0]),(35,v35),(36,Iz n36),(37,Iz n37),(53,bv),(54,Iz bs.length),(55,Iz k),(65,cv),(66,Iz x.code.length),(67,Iz x.code.length),(68,.s (.bool false))]) C3),?_,?_,?_⟩
 ·rw [itW_step]
  simp only [Iz,List.map_cons,List.map_nil,List.length_cons,List.length_nil] at hgg hgg2 hss hgz w1 hl0 hC1 i0 hll g1 hl1
  rw [hl1] at w1
  rw [show (((0:Nat):Int))=0 from rfl] at g1
  simp only [Iz,s_f10_l2_ev,a_f10,s_f10_l0_b,s_f10_l1_b,s_f10_l2_b,s_f10_l3_b,aa,reduceIte,reduceCtorEq,Nat.reduceEqDiff,Nat.reduceLT,Nat.reduceLeDiff,Nat.reduceBEq,Nat.reduceAdd,Nat.reduceMul,op_appR,hlt,cond_true,hbC0,if_true,i0,hl0,hcv,Bool.and_self,hss,hgz,hC1,hgg,hl1,w1,hgg2,hll,g1]
  rw [itW_step]
  simp only [Iz,s_f10_l1_ev,s_f10_l2_ev,a_f10,s_f10_l0_b,s_f10_l1_b,s_f10_l2_b,s_f10_l3_b,aa,reduceIte,reduceCtorEq,Nat.reduceEqDiff,Nat.reduceLT,Nat.reduceLeDiff,Nat.reduceBEq,Nat.reduceAdd,Nat.reduceMul,op_appR,hge,cond_false,w64 hk2]
 ·exact (g2.trim (by have:=w2.lt;omega) _).trim (by omega) _
 ·have:txt ++ blkT x=txt ++ (lnB x).data.toList ++ codeT x.code:=by unfold blkT;rw [List.append_assoc]
  rw [this]
  exact (g3.trim w2.lt _).trim hL _
def blksT (l:List BlkD):List UInt8:=l.flatMap blkT
theorem blksT_succ {l:List BlkD} {i:Nat} {x:BlkD} (h:l[i]?=some x):blksT (l.take (i+1))=blksT (l.take i) ++ blkT x:=by
 rw [List.take_add_one,h]
 simp [blksT]
theorem blksT_le {l:List BlkD} (i:Nat):(blksT (l.take i)).length≤(blksT l).length:=by
 have:blksT l=blksT (l.take i) ++ blksT (l.drop i):=by
  unfold blksT
  rw [← List.flatMap_append,List.take_append_drop]
 rw [this,List.length_append]
 omega
theorem blk_loop (h:PrT CT) (base:Nat) {A0:Heap} (hb:base≤A0.length) {n fm:Nat} (hn:getC A0 n 0=some [.fn 52 [] []]) (hm:A0[fm]?=some (.map (esI .u8 (foT n)))) {bv:V} {bs:List BlkD} (hc:RdL 2 RdBlk A0 bv bs) (hs:∀ x∈bs,SmB x) (hcl:bs.length < 2 ^ 62) {L:Nat} (hL:A0.length < L) {v35:V} {n36 n37:Int} {txt:List UInt8} {C:Heap} (hE:Ext A0 C) (hB:Bld A0.length C A0.length txt) (hl:txt.length+(blksT bs).length≤2 ^ 47):
 ∃ C',itW (evC (callW CT) itW base s_f10_l2) [] L (frOf 98 [(8,.mp fm),(9,.ref A0.length 0 0),(10,.fn 18 [] [.ref A0.length 0 0]),(35,v35),(36,Iz n36),(37,Iz n37),(53,bv),(54,Iz bs.length),(55,Iz ((0:Nat):Int))]) C=itW (evC (callW CT) itW base s_f10_l2) [] L (frOf 98 [(8,.mp fm),(9,.ref A0.length 0 0),(10,.fn 18 [] [.ref A0.length 0 0]),(35,v35),(36,Iz n36),(37,Iz n37),(53,bv),(54,Iz bs.length),(55,Iz bs.length)]) C'∧Ext A0 C'∧Bld A0.length C' A0.length (txt ++ blksT bs):=by
 obtain ⟨C',e1,e2,e3⟩:=it_rel bs.length (fun k C=>Ext A0 C∧Bld A0.length C A0.length (txt ++ blksT (bs.take k))) (fun k C=>itW (evC (callW CT) itW base s_f10_l2) [] L (frOf 98 [(8,.mp fm),(9,.ref A0.length 0 0),(10,.fn 18 [] [.ref A0.length 0 0]),(35,v35),(36,Iz n36),(37,Iz n37),(53,bv),(54,Iz bs.length),(55,Iz (k:Int))]) C) (by
  rintro k C hk ⟨hE,hB⟩
  have hx:=List.getElem?_eq_getElem hk
  have hsx:=hs _ (List.getElem_mem hk)
  have hle:(blksT (bs.take (k+1))).length≤(blksT bs).length:=blksT_le _
  rw [blksT_succ hx,List.length_append] at hle
  obtain ⟨C',q1,q2,q3⟩:=blk_step h base hb hn hm hc hL (v35:=v35) (n36:=n36) (n37:=n37) hx hsx hE hB (by rw [List.length_append];omega) (by omega)
  exact ⟨C',q1,q2,by rw [blksT_succ hx,← List.append_assoc];exact q3⟩) 0 C (Nat.zero_le _) ⟨hE,by simpa [blksT] using hB⟩
 rw [List.take_length] at e3
 exact ⟨C',e1,e2,e3⟩
end
end Go.Proofs.YtngfpadeebpoeaaGreatDoor
set_option maxRecDepth 100000
namespace Go.Proofs.YtngfpadeebpoeaaGreatDoor
open Go.AM
def bFunc:ByteArray:=⟨#[102,117,110,99]⟩
def headT (f:FunD):ByteArray:=wordsT [bFunc,f.name ++ argsT f.ps,⟨#[123]⟩]
def lnF (f:FunD):ByteArray:=lineT [headT f]
def lnE:ByteArray:=lineT [⟨#[125]⟩]
def funT (f:FunD):List UInt8:=(lnF f).data.toList ++ blksT f.blocks ++ lnE.data.toList
structure SmF (f:FunD):Prop where
 n:f.name.size≤200
 np:f.ps.length≤20
 ps:∀ s∈f.ps,s.size≤200
 b:∀ b∈f.blocks,SmB b
 nb:f.blocks.length < 2 ^ 62
theorem head_size {f:FunD} (h:SmF f):(f.name ++ argsT f.ps).size≤10000∧(headT f).size≤30006:=by
 have hz:=(argsT_size h.np h.ps).2
 have hn:=h.n
 have c1:(f.name ++ argsT f.ps).size≤10000:=by rw [size_cat];omega
 exact ⟨c1,words3_le (M:=10000) (by decide) c1 (by decide) (by omega)⟩
theorem one_le {M:Nat} {a:ByteArray} (ha:a.size≤M):∀ x∈[a],x.size≤M:=by
 intro x hx
 simp only [List.mem_cons,List.not_mem_nil,or_false] at hx
 subst hx;exact ha
section
variable {CT:Nat→Option CFun}
theorem fun_step (h:PrT CT) (base:Nat) {A0:Heap} (hb:base≤A0.length) {n fm:Nat} (hn:getC A0 n 0=some [.fn 52 [] []]) (hm:A0[fm]?=some (.map (esI .u8 (foT n)))) {fv:V} {fs:List FunD} (hc:RdProg A0 fv fs) {L:Nat} (hL:A0.length < L) {k:Nat} {x:FunD} (hk:fs[k]?=some x) (hx:SmF x) {txt:List UInt8} {C:Heap} (hE:Ext A0 C) (hB:Bld A0.length C A0.length txt) (hl:txt.length+(funT x).length≤2 ^ 47) (hk2:k < 2 ^ 62):
 ∃ C',itW (evC (callW CT) itW base s_f10_l3) [] L (frOf 98 [(8,.mp fm),(9,.ref A0.length 0 0),(10,.fn 18 [] [.ref A0.length 0 0]),(35,fv),(36,Iz fs.length),(37,Iz k)]) C=itW (evC (callW CT) itW base s_f10_l3) [] L (frOf 98 [(8,.mp fm),(9,.ref A0.length 0 0),(10,.fn 18 [] [.ref A0.length 0 0]),(35,fv),(36,Iz fs.length),(37,Iz ((k+1:Nat):Int))]) C'∧Ext A0 C'∧Bld A0.length C' A0.length (txt ++ funT x):=by
 have hkl:=(List.getElem?_eq_some_iff.1 hk).1
 obtain ⟨a,r,i0,hr,l0,_⟩:=hc.at2 hk
 obtain ⟨pv,bv,rfl,hp,hpw,_,hblk⟩:=hr
 have hpv:=hp.one
 have hbv:=hblk.one
 have hl0:=l0 C hE
 obtain ⟨C1,hC1⟩:∃ C1,C ++ [Ob.cells 0 [Sb x.name,pv,bv]]=C1:=⟨_,rfl⟩
 have e1:Ext C C1:=hC1 ▸ Ext.app _ _
 have E1:=hE.trans e1
 have hgg:getC C1 C.length 0=some [Sb x.name,pv,bv]:=hC1 ▸ getC_new C 0 _
 have hl1:C1.length=C.length+1:=by rw [← hC1,len_snoc]
 have hss:∀ c d,(C ++ [c]).set C.length d=C ++ [d]:=fun c d=>set_snoc C c d
 have hgz:∀ c,getC (C ++ [Ob.cells 0 c]) C.length 0=some c:=fun c=>getC_new C 0 c
 have hlt:decide ((k:Int) < (fs.length:Int))=true:=by simpa using hkl
 have hbC0:base≤C.length:=by have:=hE.le;omega
 have hla:=hx.n
 obtain ⟨hz,hzh⟩:=head_size hx
 have hja:=argsT_size hx.np hx.ps
 have hA:=args_fun h.F.W.L h.F.W.A C1.length (strs_rd (hp.ext E1) hpw) hja.1
 rw [hl1] at hA
 have c1:x.name.size+(argsT x.ps).size≤4611686018427387904:=by have:=hja.2;omega
 obtain ⟨C2,hC2⟩:∃ C2,C1 ++ [Ob.cells 0 [Sb bFunc,Sb (x.name ++ argsT x.ps),Sb ⟨#[123]⟩]]=C2:=⟨_,rfl⟩
 have e2:Ext C1 C2:=hC2 ▸ Ext.app _ _
 have hl2:C2.length=C.length+2:=by rw [← hC2,len_snoc,hl1]
 have hj3:=joinOkM (xs:=[bFunc,x.name ++ argsT x.ps,⟨#[123]⟩]) (sep:=bSp) (by simp) (three_le (M:=10000) (by decide) hz (by decide)) (by omega) (by decide)
 have hw3:=words_fun h.F.W.L h.F.W.W base (strs_new C1 [bFunc,x.name ++ argsT x.ps,⟨#[123]⟩]) hj3.1
 have hj1:=joinOkM (xs:=[headT x]) (sep:=⟨#[]⟩) (by simp) (one_le (M:=30006) hzh) (by omega) (by decide)
 have eB:Ext C (C2 ++ [.cells 0 ([headT x].map Sb)]):=(e1.trans e2).trans (Ext.app _ _)
 have hfl:(funT x).length=(lnF x).size+(blksT x.blocks).length+lnE.size:=by unfold funT;rw [List.length_append,List.length_append];rfl
 obtain ⟨C4,w1,w2,w3⟩:=line_fun h.F.W.L h.W h.L hb (hB.ext eB) (strs_new C2 [headT x]) hj1.1 (by have:(lineT [headT x]).size=(lnF x).size:=rfl;omega)
 have E4:=w3.ext rfl (hE.trans eB)
 have hgg4:getC C4 C.length 0=some [Sb x.name,pv,bv]:=by
  have hgo:=getC_some (getC_ext hgg (e2.trans (Ext.app C2 [Ob.cells 0 ([headT x].map Sb)])))
  have:C4[C.length]?=some (.cells 0 [Sb x.name,pv,bv]):=by
   rw [w3.2.2 C.length (by have:=hB.lt;omega) (List.getElem?_eq_some_iff.1 hgo).1 (fun g l e=>by rw [hgo] at e;cases e)]
   exact hgo
  unfold getC
  rw [this]
  rfl
 obtain ⟨C5,g1,g2,g3⟩:=blk_loop h base hb hn hm hblk hx.b hx.nb (L:=C4.length) w2.lt (v35:=fv) (n36:=fs.length) (n37:=k) E4 w2 (by rw [List.length_append];have:(lineT [headT x]).data.toList.length=(lnF x).size:=rfl;omega)
 have hll:=RdL.len (RdL.ext (P:=RdBlk) RdBlk.ext hblk E4)
 have hge:decide ((x.blocks.length:Int) < (x.blocks.length:Int))=false:=by simp
 obtain ⟨C6,hC6⟩:∃ C6,trim C4.length (frOf 98 [(8,.mp fm),(9,.ref A0.length 0 0),(10,.fn 18 [] [.ref A0.length 0 0]),(35,fv),(36,Iz fs.length),(37,Iz k),(53,bv),(54,Iz x.blocks.length),(55,Iz x.blocks.length),(56,.s (.bool false))]) C5=C6:=⟨_,rfl⟩
 have E6:Ext A0 C6:=hC6 ▸ g2.trim (by have:=w2.lt;omega) _
 have B6:Bld A0.length C6 A0.length _:=hC6 ▸ g3.trim w2.lt _
 have hjE:=joinOkM (xs:=[⟨#[125]⟩]) (sep:=⟨#[]⟩) (by simp) (one_le (M:=200) (by decide)) (by omega) (by decide)
 obtain ⟨C7,y1,y2,y3⟩:=line_fun h.F.W.L h.W h.L hb (B6.ext (Ext.app C6 [.cells 0 ([⟨#[125]⟩].map Sb)])) (strs_new C6 [⟨#[125]⟩]) hjE.1 (by
  rw [List.length_append,List.length_append]
  have e1:(lineT [headT x]).data.toList.length=(lnF x).size:=rfl
  have e2:(lineT [⟨#[125]⟩]).size=lnE.size:=rfl
  omega)
 have E7:=y3.ext rfl (E6.trans (Ext.app _ _))
 refine ⟨trim L (frOf 98 [(8,.mp fm),(9,.ref A0.length 0 0),(10,.fn 18 [] [.ref A0.length 0 0]),(35,fv),(36,Iz fs.length),(37,Iz ((k+1:Nat):Int))]) C7,?_,E7.trim (by omega) _,?_⟩
 ·rw [itW_step]
  simp only [Iz,List.map_cons,List.map_nil,List.length_cons,List.length_nil,bFunc,headT] at hgg hgg4 hss hgz w1 hl0 hC1 hC2 hC6 i0 hll g1 hl1 hl2 hw3 hA y1
  rw [hl2] at w1
  rw [hl1,hC2] at hw3
  rw [show (((0:Nat):Int))=0 from rfl] at g1
  simp only [Iz,s_f10_l3_ev,a_f10,s_f10_l0_b,s_f10_l1_b,s_f10_l2_b,s_f10_l3_b,aa,reduceIte,reduceCtorEq,Nat.reduceEqDiff,Nat.reduceLT,Nat.reduceLeDiff,Nat.reduceBEq,Nat.reduceAdd,Nat.reduceMul,op_appR,hlt,cond_true,hbC0,if_true,i0,hl0,hpv,hbv,Bool.and_self,hss,hgz,hC1,hgg,hl1,hA,catOk c1,if_false,hC2,hw3,hl2,w1,hgg4,hll,g1]
  rw [itW_step]
  simp only [Iz,s_f10_l2_ev,s_f10_l3_ev,a_f10,s_f10_l0_b,s_f10_l1_b,s_f10_l2_b,s_f10_l3_b,aa,reduceIte,reduceCtorEq,Nat.reduceEqDiff,Nat.reduceLT,Nat.reduceLeDiff,Nat.reduceBEq,Nat.reduceAdd,Nat.reduceMul,op_appR,hge,cond_false,hC6,y1,w64 hk2]
  try rfl
 ·have:txt ++ funT x=txt ++ (lnF x).data.toList ++ blksT x.blocks ++ lnE.data.toList:=by unfold funT;simp only [List.append_assoc]
  rw [this]
  exact y2.trim hL _
def progT (l:List FunD):List UInt8:=l.flatMap funT
theorem progT_succ {l:List FunD} {i:Nat} {x:FunD} (h:l[i]?=some x):progT (l.take (i+1))=progT (l.take i) ++ funT x:=by
 rw [List.take_add_one,h]
 simp [progT]
theorem progT_le {l:List FunD} (i:Nat):(progT (l.take i)).length≤(progT l).length:=by
 have:progT l=progT (l.take i) ++ progT (l.drop i):=by
  unfold progT
  rw [← List.flatMap_append,List.take_append_drop]
 rw [this,List.length_append]
 omega
theorem fun_loop (h:PrT CT) (base:Nat) {A0:Heap} (hb:base≤A0.length) {n fm:Nat} (hn:getC A0 n 0=some [.fn 52 [] []]) (hm:A0[fm]?=some (.map (esI .u8 (foT n)))) {fv:V} {fs:List FunD} (hc:RdProg A0 fv fs) (hs:∀ x∈fs,SmF x) (hcl:fs.length < 2 ^ 62) {L:Nat} (hL:A0.length < L) {txt:List UInt8} {C:Heap} (hE:Ext A0 C) (hB:Bld A0.length C A0.length txt) (hl:txt.length+(progT fs).length≤2 ^ 47):
 ∃ C',itW (evC (callW CT) itW base s_f10_l3) [] L (frOf 98 [(8,.mp fm),(9,.ref A0.length 0 0),(10,.fn 18 [] [.ref A0.length 0 0]),(35,fv),(36,Iz fs.length),(37,Iz ((0:Nat):Int))]) C=itW (evC (callW CT) itW base s_f10_l3) [] L (frOf 98 [(8,.mp fm),(9,.ref A0.length 0 0),(10,.fn 18 [] [.ref A0.length 0 0]),(35,fv),(36,Iz fs.length),(37,Iz fs.length)]) C'∧Ext A0 C'∧Bld A0.length C' A0.length (txt ++ progT fs):=by
 obtain ⟨C',e1,e2,e3⟩:=it_rel fs.length (fun k C=>Ext A0 C∧Bld A0.length C A0.length (txt ++ progT (fs.take k))) (fun k C=>itW (evC (callW CT) itW base s_f10_l3) [] L (frOf 98 [(8,.mp fm),(9,.ref A0.length 0 0),(10,.fn 18 [] [.ref A0.length 0 0]),(35,fv),(36,Iz fs.length),(37,Iz (k:Int))]) C) (by
  rintro k C hk ⟨hE,hB⟩
  have hx:=List.getElem?_eq_getElem hk
  have hsx:=hs _ (List.getElem_mem hk)
  have hle:(progT (fs.take (k+1))).length≤(progT fs).length:=progT_le _
  rw [progT_succ hx,List.length_append] at hle
  obtain ⟨C',q1,q2,q3⟩:=fun_step h base hb hn hm hc hL hx hsx hE hB (by rw [List.length_append];omega) (by omega)
  exact ⟨C',q1,q2,by rw [progT_succ hx,← List.append_assoc];exact q3⟩) 0 C (Nat.zero_le _) ⟨hE,by simpa [progT] using hB⟩
 rw [List.take_length] at e3
 exact ⟨C',e1,e2,e3⟩
end
end Go.Proofs.YtngfpadeebpoeaaGreatDoor
set_option maxRecDepth 100000
namespace Go.Proofs.YtngfpadeebpoeaaGreatDoor
open Go.AM
structure BadT (CT:Nat→Option CFun):Prop where
 is':CT k_f92=some (.code s_f92)
 bad1:CT k_f136=some (.code s_f136)
 bad:CT k_f95=some (.code s_f95)
 con:CT k_f93=some (.code s_f93)
 idx:CT k_f135=some (.code s_f135)
def bnA (s:ShD) (x:InsD):Bool:=(((s.d && badS false x.d) || (s.f && badS false x.f)) || (s.a && badS true x.a)) || (s.b && badS true x.b)
section
variable {CT:Nat→Option CFun}
theorem badOne (hT:BadT CT) (base:Nat) (D:Heap) (op:Bool) (s:ByteArray):∃ E,callW CT (.fn k_f95 [] []) [.s (.bool op),.sl D.length 0 0 1 1] base (D ++ [Ob.cells 0 [Sb s]])=some (bl (badS op s),E)∧Ext D E:=by
 have hr:Rd (D ++ [Ob.cells 0 [Sb s]]) (.sl D.length 0 0 1 1) ([s].map Sb):=Rd.sl (getC_new D 0 [Sb s]) (off:=0) (n:=1) (by simp)
 obtain ⟨E,h1,h2⟩:=bad_fun hT.is' hT.bad1 hT.bad hT.con hT.idx base (D ++ [Ob.cells 0 [Sb s]]) op hr trivial (by simp)
 refine ⟨E,?_,(Ext.app _ _).trans h2⟩
 rw [h1]
 simp [bl]
set_option maxHeartbeats 8000000 in
theorem bn_r15 (hT:BadT CT) (base:Nat) {D0:Heap} (hb:base≤D0.length) {p q:Nat} {x:InsD} {av lv:V} {s:ShD} (h9_0:getC D0 p 0=some (insC x av lv)) (h10_0:getC D0 q 0=some s.c) {v0 v2 v4 v6 v8 v16 v17 v18 v35 v36 v37 v50 v51 v52:V}:
 ∃ D',evC (callW CT) itW base (.region R37_15 [] [64,65,66,67,68,69,70,71,72,73,74,75,76,77,78,79,80,81,82,83,84,85,86,87,88,89,90,91,92,93,94,95,96,97,98,99,100,101]) (frOf 140 [(0,v0),(2,v2),(4,v4),(6,v6),(8,v8),(9,.ref p 0 0),(10,.ref q 0 0),(16,v16),(17,v17),(18,v18),(35,v35),(36,v36),(37,v37),(50,v50),(51,v51),(52,v52)]) D0=some (.nrm,frOf 140 [(0,v0),(2,v2),(4,v4),(6,v6),(8,v8),(9,.ref p 0 0),(10,.ref q 0 0),(11,bl (bnA s x)),(16,v16),(17,v17),(18,v18),(35,v35),(36,v36),(37,v37),(50,v50),(51,v51),(52,v52)],D')∧Ext D0 D':=by
 have e_0:Ext D0 D0:=Ext.refl _
 simp only [insC,ShD.c] at h9_0 h10_0
 cases s_d:s.d with
 | false=>
   cases s_f:s.f with
   | false=>
     cases s_a:s.a with
     | false=>
       cases s_b:s.b with
       | false=>
         refine ⟨D0,?_,e_0⟩
         simp only [bnA,Iz,Sb,a_f37,s_f37_l0_b,s_f37_l1_b,s_f37_l2_b,aa,reduceIte,reduceCtorEq,Nat.reduceEqDiff,Nat.reduceLT,Nat.reduceLeDiff,Nat.reduceBEq,Nat.reduceAdd,Nat.reduceMul,op_appR,h9_0,h10_0,s_d,s_f,s_a,s_b]
       | true=>
         obtain ⟨D1,c_1,x_1⟩:=badOne hT base D0 true x.b
         have e_1:=e_0.trans x_1
         have h9_1:=getC_ext h9_0 x_1
         have h10_1:=getC_ext h10_0 x_1
         simp only [bl,Sb] at c_1
         cases b_b:badS true x.b with
         | true=>
           rw [b_b] at c_1
           refine ⟨D1,?_,e_1⟩
           simp only [bnA,Iz,Sb,a_f37,s_f37_l0_b,s_f37_l1_b,s_f37_l2_b,aa,reduceIte,reduceCtorEq,Nat.reduceEqDiff,Nat.reduceLT,Nat.reduceLeDiff,Nat.reduceBEq,Nat.reduceAdd,Nat.reduceMul,op_appR,h9_0,h10_0,s_d,s_f,s_a,s_b,b_b,c_1,h9_1,h10_1]
         | false=>
           rw [b_b] at c_1
           refine ⟨D1,?_,e_1⟩
           simp only [bnA,Iz,Sb,a_f37,s_f37_l0_b,s_f37_l1_b,s_f37_l2_b,aa,reduceIte,reduceCtorEq,Nat.reduceEqDiff,Nat.reduceLT,Nat.reduceLeDiff,Nat.reduceBEq,Nat.reduceAdd,Nat.reduceMul,op_appR,h9_0,h10_0,s_d,s_f,s_a,s_b,b_b,c_1,h9_1,h10_1]
     | true=>
       obtain ⟨D1,c_1,x_1⟩:=badOne hT base D0 true x.a
       have e_1:=e_0.trans x_1
       have h9_1:=getC_ext h9_0 x_1
       have h10_1:=getC_ext h10_0 x_1
       simp only [bl,Sb] at c_1
       cases b_a:badS true x.a with
       | true=>
         rw [b_a] at c_1
         refine ⟨D1,?_,e_1⟩
         simp only [bnA,Iz,Sb,a_f37,s_f37_l0_b,s_f37_l1_b,s_f37_l2_b,aa,reduceIte,reduceCtorEq,Nat.reduceEqDiff,Nat.reduceLT,Nat.reduceLeDiff,Nat.reduceBEq,Nat.reduceAdd,Nat.reduceMul,op_appR,h9_0,h10_0,s_d,s_f,s_a,b_a,c_1,h9_1,h10_1]
       | false=>
         rw [b_a] at c_1
         cases s_b:s.b with
         | false=>
           refine ⟨D1,?_,e_1⟩
           simp only [bnA,Iz,Sb,a_f37,s_f37_l0_b,s_f37_l1_b,s_f37_l2_b,aa,reduceIte,reduceCtorEq,Nat.reduceEqDiff,Nat.reduceLT,Nat.reduceLeDiff,Nat.reduceBEq,Nat.reduceAdd,Nat.reduceMul,op_appR,h9_0,h10_0,s_d,s_f,s_a,b_a,c_1,h9_1,h10_1,s_b]
         | true=>
           obtain ⟨D2,c_2,x_2⟩:=badOne hT base D1 true x.b
           have e_2:=e_1.trans x_2
           have h9_2:=getC_ext h9_1 x_2
           have h10_2:=getC_ext h10_1 x_2
           simp only [bl,Sb] at c_2
           cases b_b:badS true x.b with
           | true=>
             rw [b_b] at c_2
             refine ⟨D2,?_,e_2⟩
             simp only [bnA,Iz,Sb,a_f37,s_f37_l0_b,s_f37_l1_b,s_f37_l2_b,aa,reduceIte,reduceCtorEq,Nat.reduceEqDiff,Nat.reduceLT,Nat.reduceLeDiff,Nat.reduceBEq,Nat.reduceAdd,Nat.reduceMul,op_appR,h9_0,h10_0,s_d,s_f,s_a,b_a,c_1,h9_1,h10_1,s_b,b_b,c_2,h9_2,h10_2]
           | false=>
             rw [b_b] at c_2
             refine ⟨D2,?_,e_2⟩
             simp only [bnA,Iz,Sb,a_f37,s_f37_l0_b,s_f37_l1_b,s_f37_l2_b,aa,reduceIte,reduceCtorEq,Nat.reduceEqDiff,Nat.reduceLT,Nat.reduceLeDiff,Nat.reduceBEq,Nat.reduceAdd,Nat.reduceMul,op_appR,h9_0,h10_0,s_d,s_f,s_a,b_a,c_1,h9_1,h10_1,s_b,b_b,c_2,h9_2,h10_2]
   | true=>
     obtain ⟨D1,c_1,x_1⟩:=badOne hT base D0 false x.f
     have e_1:=e_0.trans x_1
     have h9_1:=getC_ext h9_0 x_1
     have h10_1:=getC_ext h10_0 x_1
     simp only [bl,Sb] at c_1
     cases b_f:badS false x.f with
     | true=>
       rw [b_f] at c_1
       refine ⟨D1,?_,e_1⟩
       simp only [bnA,Iz,Sb,a_f37,s_f37_l0_b,s_f37_l1_b,s_f37_l2_b,aa,reduceIte,reduceCtorEq,Nat.reduceEqDiff,Nat.reduceLT,Nat.reduceLeDiff,Nat.reduceBEq,Nat.reduceAdd,Nat.reduceMul,op_appR,h9_0,h10_0,s_d,s_f,b_f,c_1,h9_1,h10_1]
     | false=>
       rw [b_f] at c_1
       cases s_a:s.a with
       | false=>
         cases s_b:s.b with
         | false=>
           refine ⟨D1,?_,e_1⟩
           simp only [bnA,Iz,Sb,a_f37,s_f37_l0_b,s_f37_l1_b,s_f37_l2_b,aa,reduceIte,reduceCtorEq,Nat.reduceEqDiff,Nat.reduceLT,Nat.reduceLeDiff,Nat.reduceBEq,Nat.reduceAdd,Nat.reduceMul,op_appR,h9_0,h10_0,s_d,s_f,b_f,c_1,h9_1,h10_1,s_a,s_b]
         | true=>
           obtain ⟨D2,c_2,x_2⟩:=badOne hT base D1 true x.b
           have e_2:=e_1.trans x_2
           have h9_2:=getC_ext h9_1 x_2
           have h10_2:=getC_ext h10_1 x_2
           simp only [bl,Sb] at c_2
           cases b_b:badS true x.b with
           | true=>
             rw [b_b] at c_2
             refine ⟨D2,?_,e_2⟩
             simp only [bnA,Iz,Sb,a_f37,s_f37_l0_b,s_f37_l1_b,s_f37_l2_b,aa,reduceIte,reduceCtorEq,Nat.reduceEqDiff,Nat.reduceLT,Nat.reduceLeDiff,Nat.reduceBEq,Nat.reduceAdd,Nat.reduceMul,op_appR,h9_0,h10_0,s_d,s_f,b_f,c_1,h9_1,h10_1,s_a,s_b,b_b,c_2,h9_2,h10_2]
           | false=>
             rw [b_b] at c_2
             refine ⟨D2,?_,e_2⟩
             simp only [bnA,Iz,Sb,a_f37,s_f37_l0_b,s_f37_l1_b,s_f37_l2_b,aa,reduceIte,reduceCtorEq,Nat.reduceEqDiff,Nat.reduceLT,Nat.reduceLeDiff,Nat.reduceBEq,Nat.reduceAdd,Nat.reduceMul,op_appR,h9_0,h10_0,s_d,s_f,b_f,c_1,h9_1,h10_1,s_a,s_b,b_b,c_2,h9_2,h10_2]
       | true=>
         obtain ⟨D2,c_2,x_2⟩:=badOne hT base D1 true x.a
         have e_2:=e_1.trans x_2
         have h9_2:=getC_ext h9_1 x_2
         have h10_2:=getC_ext h10_1 x_2
         simp only [bl,Sb] at c_2
         cases b_a:badS true x.a with
         | true=>
           rw [b_a] at c_2
           refine ⟨D2,?_,e_2⟩
           simp only [bnA,Iz,Sb,a_f37,s_f37_l0_b,s_f37_l1_b,s_f37_l2_b,aa,reduceIte,reduceCtorEq,Nat.reduceEqDiff,Nat.reduceLT,Nat.reduceLeDiff,Nat.reduceBEq,Nat.reduceAdd,Nat.reduceMul,op_appR,h9_0,h10_0,s_d,s_f,b_f,c_1,h9_1,h10_1,s_a,b_a,c_2,h9_2,h10_2]
         | false=>
           rw [b_a] at c_2
           cases s_b:s.b with
           | false=>
             refine ⟨D2,?_,e_2⟩
             simp only [bnA,Iz,Sb,a_f37,s_f37_l0_b,s_f37_l1_b,s_f37_l2_b,aa,reduceIte,reduceCtorEq,Nat.reduceEqDiff,Nat.reduceLT,Nat.reduceLeDiff,Nat.reduceBEq,Nat.reduceAdd,Nat.reduceMul,op_appR,h9_0,h10_0,s_d,s_f,b_f,c_1,h9_1,h10_1,s_a,b_a,c_2,h9_2,h10_2,s_b]
           | true=>
             obtain ⟨D3,c_3,x_3⟩:=badOne hT base D2 true x.b
             have e_3:=e_2.trans x_3
             have h9_3:=getC_ext h9_2 x_3
             have h10_3:=getC_ext h10_2 x_3
             simp only [bl,Sb] at c_3
             cases b_b:badS true x.b with
             | true=>
               rw [b_b] at c_3
               refine ⟨D3,?_,e_3⟩
               simp only [bnA,Iz,Sb,a_f37,s_f37_l0_b,s_f37_l1_b,s_f37_l2_b,aa,reduceIte,reduceCtorEq,Nat.reduceEqDiff,Nat.reduceLT,Nat.reduceLeDiff,Nat.reduceBEq,Nat.reduceAdd,Nat.reduceMul,op_appR,h9_0,h10_0,s_d,s_f,b_f,c_1,h9_1,h10_1,s_a,b_a,c_2,h9_2,h10_2,s_b,b_b,c_3,h9_3,h10_3]
             | false=>
               rw [b_b] at c_3
               refine ⟨D3,?_,e_3⟩
               simp only [bnA,Iz,Sb,a_f37,s_f37_l0_b,s_f37_l1_b,s_f37_l2_b,aa,reduceIte,reduceCtorEq,Nat.reduceEqDiff,Nat.reduceLT,Nat.reduceLeDiff,Nat.reduceBEq,Nat.reduceAdd,Nat.reduceMul,op_appR,h9_0,h10_0,s_d,s_f,b_f,c_1,h9_1,h10_1,s_a,b_a,c_2,h9_2,h10_2,s_b,b_b,c_3,h9_3,h10_3]
 | true=>
   obtain ⟨D1,c_1,x_1⟩:=badOne hT base D0 false x.d
   have e_1:=e_0.trans x_1
   have h9_1:=getC_ext h9_0 x_1
   have h10_1:=getC_ext h10_0 x_1
   simp only [bl,Sb] at c_1
   cases b_d:badS false x.d with
   | true=>
     rw [b_d] at c_1
     refine ⟨D1,?_,e_1⟩
     simp only [bnA,Iz,Sb,a_f37,s_f37_l0_b,s_f37_l1_b,s_f37_l2_b,aa,reduceIte,reduceCtorEq,Nat.reduceEqDiff,Nat.reduceLT,Nat.reduceLeDiff,Nat.reduceBEq,Nat.reduceAdd,Nat.reduceMul,op_appR,h9_0,h10_0,s_d,b_d,c_1,h9_1,h10_1]
   | false=>
     rw [b_d] at c_1
     cases s_f:s.f with
     | false=>
       cases s_a:s.a with
       | false=>
         cases s_b:s.b with
         | false=>
           refine ⟨D1,?_,e_1⟩
           simp only [bnA,Iz,Sb,a_f37,s_f37_l0_b,s_f37_l1_b,s_f37_l2_b,aa,reduceIte,reduceCtorEq,Nat.reduceEqDiff,Nat.reduceLT,Nat.reduceLeDiff,Nat.reduceBEq,Nat.reduceAdd,Nat.reduceMul,op_appR,h9_0,h10_0,s_d,b_d,c_1,h9_1,h10_1,s_f,s_a,s_b]
         | true=>
           obtain ⟨D2,c_2,x_2⟩:=badOne hT base D1 true x.b
           have e_2:=e_1.trans x_2
           have h9_2:=getC_ext h9_1 x_2
           have h10_2:=getC_ext h10_1 x_2
           simp only [bl,Sb] at c_2
           cases b_b:badS true x.b with
           | true=>
             rw [b_b] at c_2
             refine ⟨D2,?_,e_2⟩
             simp only [bnA,Iz,Sb,a_f37,s_f37_l0_b,s_f37_l1_b,s_f37_l2_b,aa,reduceIte,reduceCtorEq,Nat.reduceEqDiff,Nat.reduceLT,Nat.reduceLeDiff,Nat.reduceBEq,Nat.reduceAdd,Nat.reduceMul,op_appR,h9_0,h10_0,s_d,b_d,c_1,h9_1,h10_1,s_f,s_a,s_b,b_b,c_2,h9_2,h10_2]
           | false=>
             rw [b_b] at c_2
             refine ⟨D2,?_,e_2⟩
             simp only [bnA,Iz,Sb,a_f37,s_f37_l0_b,s_f37_l1_b,s_f37_l2_b,aa,reduceIte,reduceCtorEq,Nat.reduceEqDiff,Nat.reduceLT,Nat.reduceLeDiff,Nat.reduceBEq,Nat.reduceAdd,Nat.reduceMul,op_appR,h9_0,h10_0,s_d,b_d,c_1,h9_1,h10_1,s_f,s_a,s_b,b_b,c_2,h9_2,h10_2]
       | true=>
         obtain ⟨D2,c_2,x_2⟩:=badOne hT base D1 true x.a
         have e_2:=e_1.trans x_2
         have h9_2:=getC_ext h9_1 x_2
         have h10_2:=getC_ext h10_1 x_2
         simp only [bl,Sb] at c_2
         cases b_a:badS true x.a with
         | true=>
           rw [b_a] at c_2
           refine ⟨D2,?_,e_2⟩
           simp only [bnA,Iz,Sb,a_f37,s_f37_l0_b,s_f37_l1_b,s_f37_l2_b,aa,reduceIte,reduceCtorEq,Nat.reduceEqDiff,Nat.reduceLT,Nat.reduceLeDiff,Nat.reduceBEq,Nat.reduceAdd,Nat.reduceMul,op_appR,h9_0,h10_0,s_d,b_d,c_1,h9_1,h10_1,s_f,s_a,b_a,c_2,h9_2,h10_2]
         | false=>
           rw [b_a] at c_2
           cases s_b:s.b with
           | false=>
             refine ⟨D2,?_,e_2⟩
             simp only [bnA,Iz,Sb,a_f37,s_f37_l0_b,s_f37_l1_b,s_f37_l2_b,aa,reduceIte,reduceCtorEq,Nat.reduceEqDiff,Nat.reduceLT,Nat.reduceLeDiff,Nat.reduceBEq,Nat.reduceAdd,Nat.reduceMul,op_appR,h9_0,h10_0,s_d,b_d,c_1,h9_1,h10_1,s_f,s_a,b_a,c_2,h9_2,h10_2,s_b]
           | true=>
             obtain ⟨D3,c_3,x_3⟩:=badOne hT base D2 true x.b
             have e_3:=e_2.trans x_3
             have h9_3:=getC_ext h9_2 x_3
             have h10_3:=getC_ext h10_2 x_3
             simp only [bl,Sb] at c_3
             cases b_b:badS true x.b with
             | true=>
               rw [b_b] at c_3
               refine ⟨D3,?_,e_3⟩
               simp only [bnA,Iz,Sb,a_f37,s_f37_l0_b,s_f37_l1_b,s_f37_l2_b,aa,reduceIte,reduceCtorEq,Nat.reduceEqDiff,Nat.reduceLT,Nat.reduceLeDiff,Nat.reduceBEq,Nat.reduceAdd,Nat.reduceMul,op_appR,h9_0,h10_0,s_d,b_d,c_1,h9_1,h10_1,s_f,s_a,b_a,c_2,h9_2,h10_2,s_b,b_b,c_3,h9_3,h10_3]
             | false=>
               rw [b_b] at c_3
               refine ⟨D3,?_,e_3⟩
               simp only [bnA,Iz,Sb,a_f37,s_f37_l0_b,s_f37_l1_b,s_f37_l2_b,aa,reduceIte,reduceCtorEq,Nat.reduceEqDiff,Nat.reduceLT,Nat.reduceLeDiff,Nat.reduceBEq,Nat.reduceAdd,Nat.reduceMul,op_appR,h9_0,h10_0,s_d,b_d,c_1,h9_1,h10_1,s_f,s_a,b_a,c_2,h9_2,h10_2,s_b,b_b,c_3,h9_3,h10_3]
     | true=>
       obtain ⟨D2,c_2,x_2⟩:=badOne hT base D1 false x.f
       have e_2:=e_1.trans x_2
       have h9_2:=getC_ext h9_1 x_2
       have h10_2:=getC_ext h10_1 x_2
       simp only [bl,Sb] at c_2
       cases b_f:badS false x.f with
       | true=>
         rw [b_f] at c_2
         refine ⟨D2,?_,e_2⟩
         simp only [bnA,Iz,Sb,a_f37,s_f37_l0_b,s_f37_l1_b,s_f37_l2_b,aa,reduceIte,reduceCtorEq,Nat.reduceEqDiff,Nat.reduceLT,Nat.reduceLeDiff,Nat.reduceBEq,Nat.reduceAdd,Nat.reduceMul,op_appR,h9_0,h10_0,s_d,b_d,c_1,h9_1,h10_1,s_f,b_f,c_2,h9_2,h10_2]
       | false=>
         rw [b_f] at c_2
         cases s_a:s.a with
         | false=>
           cases s_b:s.b with
           | false=>
             refine ⟨D2,?_,e_2⟩
             simp only [bnA,Iz,Sb,a_f37,s_f37_l0_b,s_f37_l1_b,s_f37_l2_b,aa,reduceIte,reduceCtorEq,Nat.reduceEqDiff,Nat.reduceLT,Nat.reduceLeDiff,Nat.reduceBEq,Nat.reduceAdd,Nat.reduceMul,op_appR,h9_0,h10_0,s_d,b_d,c_1,h9_1,h10_1,s_f,b_f,c_2,h9_2,h10_2,s_a,s_b]
           | true=>
             obtain ⟨D3,c_3,x_3⟩:=badOne hT base D2 true x.b
             have e_3:=e_2.trans x_3
             have h9_3:=getC_ext h9_2 x_3
             have h10_3:=getC_ext h10_2 x_3
             simp only [bl,Sb] at c_3
             cases b_b:badS true x.b with
             | true=>
               rw [b_b] at c_3
               refine ⟨D3,?_,e_3⟩
               simp only [bnA,Iz,Sb,a_f37,s_f37_l0_b,s_f37_l1_b,s_f37_l2_b,aa,reduceIte,reduceCtorEq,Nat.reduceEqDiff,Nat.reduceLT,Nat.reduceLeDiff,Nat.reduceBEq,Nat.reduceAdd,Nat.reduceMul,op_appR,h9_0,h10_0,s_d,b_d,c_1,h9_1,h10_1,s_f,b_f,c_2,h9_2,h10_2,s_a,s_b,b_b,c_3,h9_3,h10_3]
             | false=>
               rw [b_b] at c_3
               refine ⟨D3,?_,e_3⟩
               simp only [bnA,Iz,Sb,a_f37,s_f37_l0_b,s_f37_l1_b,s_f37_l2_b,aa,reduceIte,reduceCtorEq,Nat.reduceEqDiff,Nat.reduceLT,Nat.reduceLeDiff,Nat.reduceBEq,Nat.reduceAdd,Nat.reduceMul,op_appR,h9_0,h10_0,s_d,b_d,c_1,h9_1,h10_1,s_f,b_f,c_2,h9_2,h10_2,s_a,s_b,b_b,c_3,h9_3,h10_3]
         | true=>
           obtain ⟨D3,c_3,x_3⟩:=badOne hT base D2 true x.a
           have e_3:=e_2.trans x_3
           have h9_3:=getC_ext h9_2 x_3
           have h10_3:=getC_ext h10_2 x_3
           simp only [bl,Sb] at c_3
           cases b_a:badS true x.a with
           | true=>
             rw [b_a] at c_3
             refine ⟨D3,?_,e_3⟩
             simp only [bnA,Iz,Sb,a_f37,s_f37_l0_b,s_f37_l1_b,s_f37_l2_b,aa,reduceIte,reduceCtorEq,Nat.reduceEqDiff,Nat.reduceLT,Nat.reduceLeDiff,Nat.reduceBEq,Nat.reduceAdd,Nat.reduceMul,op_appR,h9_0,h10_0,s_d,b_d,c_1,h9_1,h10_1,s_f,b_f,c_2,h9_2,h10_2,s_a,b_a,c_3,h9_3,h10_3]
           | false=>
             rw [b_a] at c_3
             cases s_b:s.b with
             | false=>
               refine ⟨D3,?_,e_3⟩
               simp only [bnA,Iz,Sb,a_f37,s_f37_l0_b,s_f37_l1_b,s_f37_l2_b,aa,reduceIte,reduceCtorEq,Nat.reduceEqDiff,Nat.reduceLT,Nat.reduceLeDiff,Nat.reduceBEq,Nat.reduceAdd,Nat.reduceMul,op_appR,h9_0,h10_0,s_d,b_d,c_1,h9_1,h10_1,s_f,b_f,c_2,h9_2,h10_2,s_a,b_a,c_3,h9_3,h10_3,s_b]
             | true=>
               obtain ⟨D4,c_4,x_4⟩:=badOne hT base D3 true x.b
               have e_4:=e_3.trans x_4
               have h9_4:=getC_ext h9_3 x_4
               have h10_4:=getC_ext h10_3 x_4
               simp only [bl,Sb] at c_4
               cases b_b:badS true x.b with
               | true=>
                 rw [b_b] at c_4
                 refine ⟨D4,?_,e_4⟩
                 simp only [bnA,Iz,Sb,a_f37,s_f37_l0_b,s_f37_l1_b,s_f37_l2_b,aa,reduceIte,reduceCtorEq,Nat.reduceEqDiff,Nat.reduceLT,Nat.reduceLeDiff,Nat.reduceBEq,Nat.reduceAdd,Nat.reduceMul,op_appR,h9_0,h10_0,s_d,b_d,c_1,h9_1,h10_1,s_f,b_f,c_2,h9_2,h10_2,s_a,b_a,c_3,h9_3,h10_3,s_b,b_b,c_4,h9_4,h10_4]
               | false=>
                 rw [b_b] at c_4
                 refine ⟨D4,?_,e_4⟩
                 simp only [bnA,Iz,Sb,a_f37,s_f37_l0_b,s_f37_l1_b,s_f37_l2_b,aa,reduceIte,reduceCtorEq,Nat.reduceEqDiff,Nat.reduceLT,Nat.reduceLeDiff,Nat.reduceBEq,Nat.reduceAdd,Nat.reduceMul,op_appR,h9_0,h10_0,s_d,b_d,c_1,h9_1,h10_1,s_f,b_f,c_2,h9_2,h10_2,s_a,b_a,c_3,h9_3,h10_3,s_b,b_b,c_4,h9_4,h10_4]
end
end Go.Proofs.YtngfpadeebpoeaaGreatDoor
