/- Texts of the proof: ShS6, ShoR1, ShoR2, ShoR3, ShoR4, ShoR5, ShoR6, ShoR7, ShoR8. -/
import Derived.Test.YtngfpadeebpoeaaGreatDoorP0
import Derived.Test.YtngfpadeebpoeaaGreatDoorP1
import Derived.Test.YtngfpadeebpoeaaGreatDoorP2
import Derived.Test.YtngfpadeebpoeaaGreatDoorP3
import Derived.Test.YtngfpadeebpoeaaGreatDoorP4
set_option linter.all false
set_option maxRecDepth 100000
namespace Go.Proofs.YtngfpadeebpoeaaGreatDoor
open Go.AM
abbrev bhw:Nat:=11
def K11_0:List Nat:=[0] ++ List.range' 2 94
def R11_0t1:LO:=[q 2 (.move (.c (.s (.string ⟨#[]⟩)))),q 3 (.move (.c (.s (.int .i64 0))))]
def R11_0p0:LO:=[⟨some 1,.box (.t 0),none⟩]
def R11_0:LO:=R11_0p0 ++ R11_0t1
def K11_0p0:List Nat:=[0] ++ List.range' 2 94
theorem X11_0 (call:ni) (it:zt) (base:Nat) (f:List V) (H:Heap):evC call it base (.region R11_0 [] K11_0) f H=abl call it base (.region R11_0t1 [] K11_0) (akk [] R11_0p0 K11_0p0 (mi call base [⟨some 1,.box (.t 0),none⟩] f H)):=(abu call it base R11_0p0 R11_0t1 (kc:=K11_0p0) (by kernel_rfl) f H).trans (by rw [zh];rfl)
def R11_1t5:LO:=[oM 5 17]
def R11_1t4:LO:=⟨none,.store 3 (.t 4) (.t 16),none⟩ :: R11_1t5
def R11_1t3:LO:=⟨some 4,.alloc [.s (.int .i64 0),.s (.int .i64 0),.s (.int .i64 0)],none⟩ :: R11_1t4
def R11_1p2:LO:=[oM 13 15,q 16 (.extract (.t 13) 0),q 17 (.extract (.t 13) 1)]
def R11_1t2:LO:=R11_1p2 ++ R11_1t3
def R11_1t1:LO:=⟨some 15,.call (.c (.fn 25 [] [])) [.t 14,.c (.s (.int .u8 2))],none⟩ :: R11_1t2
def R11_1p0:LO:=[q 14 (.load true 1 (.t 1))]
def R11_1:LO:=R11_1p0 ++ R11_1t1
def R11_2t5:LO:=[oM 7 22]
def R11_2t4:LO:=⟨none,.store 3 (.t 6) (.t 21),none⟩ :: R11_2t5
def R11_2t3:LO:=⟨some 6,.alloc [.s (.int .i64 0),.s (.int .i64 0),.s (.int .i64 0)],none⟩ :: R11_2t4
def R11_2p2:LO:=[oM 18 20,q 21 (.extract (.t 18) 0),q 22 (.extract (.t 18) 1)]
def R11_2t2:LO:=R11_2p2 ++ R11_2t3
def R11_2t1:LO:=⟨some 20,.call (.c (.fn 25 [] [])) [.t 19,.c (.s (.int .u8 9))],none⟩ :: R11_2t2
def R11_2p0:LO:=[q 19 (.load true 1 (.t 1))]
def R11_2:LO:=R11_2p0 ++ R11_2t1
def R11_3:LO:=[oM 23 5,oM 24 23,gM 25 7 24 false,q 26 (.pick (.t 24) (.c (.s (.bool true))) (.t 25))]
def R11_4:LO:=[q 2 (.move (.c (.s (.string ⟨#[]⟩)))),q 3 (.move (.c (.s (.int .i64 5))))]
def R11_5:LO:=[q 8 (.move (.c (.s (.string ⟨#[]⟩))))]
def R11_6:LO:=[q 9 (.move (.c (.s (.int .i64 0))))]
def R11_7:LO:=[oM 27 9,oF 28 0 1,oL 29 28,q 30 (.lenS .s (.t 29)),q 31 (.bin .lss (.t 27) (.t 30))]
def R11_8t2:LO:=[⟨none,.store 3 (.t 10) (.t 38),none⟩]
def R11_8t1:LO:=⟨some 10,.alloc [.s (.string ⟨#[]⟩),.s (.slice none 0 0),.s (.slice none 0 0)],none⟩ :: R11_8t2
def R11_8p0:LO:=[oF 34 0 1,oL 35 34,oM 36 9,q 37 (.indexAddr 3 (.t 35) (.t 36)),q 38 (.load true 3 (.t 37))]
def R11_8:LO:=R11_8p0 ++ R11_8t1
def R11_9t2:LO:=[q 47 (.bin .add (.t 43) (.t 46)),q 48 (.bin .add (.t 47) (.c (.s (.string ⟨#[32,123,10]⟩)))),oM 8 48]
def R11_9t1:LO:=⟨some 46,.callR (.c (.fn 26 [] [])) [.t 45],none⟩ :: R11_9t2
def R11_9p0:LO:=[oM 39 8,q 40 (.bin .add (.t 39) (.c (.s (.string ⟨#[102,117,110,99,32]⟩)))),oF 41 0 10,oL 42 41,q 43 (.bin .add (.t 40) (.t 42)),oF 44 1 10,oL 45 44]
def R11_9:LO:=R11_9p0 ++ R11_9t1
def R11_10:LO:=[q 11 (.move (.c (.s (.int .i64 0))))]
def R11_11:LO:=[oM 49 11,oF 50 2 10,oL 51 50,q 52 (.lenS .s (.t 51)),q 53 (.bin .lss (.t 49) (.t 52))]
def R11_12:LO:=[oM 56 8,oF 57 2 10,oL 58 57,oM 59 11,q 60 (.indexAddr 2 (.t 58) (.t 59)),oF 61 0 60,oL 62 61,q 63 (.bin .add (.t 56) (.t 62)),q 64 (.bin .add (.t 63) (.c (.s (.string ⟨#[58,10]⟩)))),oM 8 64]
def R11_13:LO:=[q 12 (.move (.c (.s (.int .i64 0))))]
def R11_14:LO:=[oM 65 12,oF 66 2 10,oL 67 66,oM 68 11,q 69 (.indexAddr 2 (.t 67) (.t 68)),oF 70 1 69,oL 71 70,q 72 (.lenS .s (.t 71)),q 73 (.bin .lss (.t 65) (.t 72))]
def R11_15t2:LO:=[q 88 (.bin .add (.t 77) (.t 87)),q 89 (.bin .add (.t 88) (.c (.s (.string ⟨#[10]⟩)))),oM 8 89]
def R11_15t1:LO:=⟨some 87,.call (.c (.fn 27 [] [])) [.t 86],none⟩ :: R11_15t2
def R11_15p0:LO:=[oM 76 8,q 77 (.bin .add (.t 76) (.c (.s (.string ⟨#[32,32]⟩)))),oF 78 2 10,oL 79 78,oM 80 11,q 81 (.indexAddr 2 (.t 79) (.t 80)),oF 82 1 81,oL 83 82,oM 84 12,q 85 (.indexAddr 8 (.t 83) (.t 84)),q 86 (.load true 8 (.t 85))]
def R11_15:LO:=R11_15p0 ++ R11_15t1
def R11_16:LO:=[oM 74 12,q 75 (.bin .add (.t 74) (.c (.s (.int .i64 1)))),oM 12 75]
def ai0:ACode:=
 (.seq (.seq (.regionE R11_14 [65,66,67,68,69,70,71,72] [73])
 (.cond (.t 73)
 .skip
 (.exit 4)))
 (.seq (.block 5
 (.region R11_15 [] [73,76,77,78,79,80,81,82,83,84,85,86,87,88,89]))
 (.regionE R11_16 [74,75] [12])))
def akf:ACode:=ai0
def R11_17:LO:=[oM 54 11,q 55 (.bin .add (.t 54) (.c (.s (.int .i64 1)))),oM 11 55]
def aiz:ACode:=
 (.seq (.seq (.regionE R11_11 [49,50,51,52] [53])
 (.cond (.t 53)
 .skip
 (.exit 2)))
 (.seq (.block 3
 (.seq (.regionE R11_12 [53,56,57,58,59,60,61,62,63,64] [8])
 (.seq (.regionE R11_13 [] [12])
 (.block 4
 (.loop [] akf)))))
 (.regionE R11_17 [12,54,55,73] [11])))
def ake:ACode:=aiz
def R11_18:LO:=[oM 90 8,q 91 (.bin .add (.t 90) (.c (.s (.string ⟨#[125,10]⟩)))),oM 8 91]
def R11_19:LO:=[oM 32 9,q 33 (.bin .add (.t 32) (.c (.s (.int .i64 1)))),oM 9 33]
def aiy:ACode:=
 (.seq (.seq (.regionE R11_7 [27,28,29,30] [31])
 (.cond (.t 31)
 .skip
 (.exit 0)))
 (.seq (.block 1
 (.seq (.region R11_8 [] [31,34,35,36,37,38])
 (.seq (.region R11_9 [] [39,40,41,42,43,44,45,46,47,48])
 (.seq (.seq (.regionE R11_10 [] [11])
 (.block 2
 (.loop [] ake)))
 (.regionE R11_18 [10,11,53,90,91] [8])))))
 (.regionE R11_19 [32,33] [9])))
def akd:ACode:=aiy
def R11_20:LO:=[oM 92 8,q 93 (.lenS .p (.t 92)),q 94 (.bin .gtr (.t 93) (.c (.s (.int .i64 1048576))))]
def R11_21:LO:=[q 2 (.move (.c (.s (.string ⟨#[]⟩)))),q 3 (.move (.c (.s (.int .i64 2))))]
def R11_22:LO:=[oM 95 8,oM 2 95,q 3 (.move (.c (.s (.int .i64 0))))]
def ahf:ACFun:={ ntmps:=96,results:=[.tmp 2,.tmp 3],body:=
 (.seq (.region R11_0 [] K11_0)
 (.seq (.region R11_1 [] [4,13,14,15,16,17])
 (.seq (.region R11_2 [] [6,18,19,20,21,22])
 (.seq (.seq (.regionE R11_3 [5,7,23,24,25] [26])
 (.cond (.t 26)
 (.seq (.regionE R11_4 [1,26] [2,3])
 .ret)
 .skip))
 (.seq (.regionE R11_5 [26] [8])
 (.seq (.seq (.regionE R11_6 [] [9])
 (.block 0
 (.loop [] akd)))
 (.seq (.seq (.regionE R11_20 [1,9,31,92,93] [94])
 (.cond (.t 94)
 (.seq (.regionE R11_21 [8,94] [2,3])
 .ret)
 .skip))
 (.seq (.regionE R11_22 [8,94,95] [2,3])
 .ret)))))))) }
theorem agh:l9 (List.range' 1 (ahf.ntmps - 1)) ahf.body=true:=by kernel_rfl
abbrev bdr:Nat:=25
def K25_0:List Nat:=[0,3] ++ List.range' 5 94
def R25_0t2:LO:=[q 5 (.move (.c (.s (.bool false))))]
def R25_0t1:LO:=⟨some 4,.alloc [.s (.int .i64 0),.s (.int .i64 0),.s (.int .i64 0)],none⟩ :: R25_0t2
def R25_0p0:LO:=[⟨some 2,.box (.t 0),none⟩]
def R25_0:LO:=R25_0p0 ++ R25_0t1
def K25_0p0:List Nat:=[0] ++ List.range' 3 96
theorem X25_0 (call:ni) (it:zt) (base:Nat) (f:List V) (H:Heap):evC call it base (.region R25_0 [] K25_0) f H=abl call it base (.region R25_0t1 [] K25_0) (akk [] R25_0p0 K25_0p0 (mi call base [⟨some 2,.box (.t 0),none⟩] f H)):=(abu call it base R25_0p0 R25_0t1 (kc:=K25_0p0) (by kernel_rfl) f H).trans (by rw [zh];rfl)
def R25_1:LO:=[oM 10 1,q 11 (.bin .eql (.t 10) (.c (.s (.int .u8 1))))]
def R25_2:LO:=[⟨some 12,.build [.s (.int .i64 0),.s (.int .i64 0),.s (.int .i64 0)] [(0,1),(1,1),(2,1)] [],none⟩,⟨some 13,.fieldAddr 0 (.t 2),none⟩,⟨some 14,.load false 1 (.t 13),none⟩,⟨some 15,.lenS .s (.t 14),none⟩,⟨some 16,.bin .eql (.t 15) (.c (.s (.int .i64 0))),none⟩,⟨some 17,.move (.t 16),none⟩,⟨some 18,.fieldAddr 0 (.t 2),some (17,false)⟩,⟨some 19,.load false 1 (.t 18),some (17,false)⟩,⟨some 20,.lenS .s (.t 19),some (17,false)⟩,⟨some 21,.bin .gtr (.t 20) (.c (.s (.int .i64 64))),some (17,false)⟩,⟨some 22,.pick (.t 17) (.c (.s (.bool true))) (.t 21),none⟩,⟨none,.store 3 (.t 4) (.t 12),none⟩,⟨some 5,.move (.t 22),none⟩]
def R25_3t3:LO:=[qg 28 (.bin .lss (.t 27) (.c (.s (.int .i64 0)))) 25 true,q 29 (.pick (.t 25) (.t 28) (.c (.s (.bool false))))]
def R25_3t2:LO:=⟨some 27,.call (.c (.fn 72 [] [])) [.t 26,.c (.s (.string ⟨#[109,97,105,110]⟩))],some (25,true)⟩ :: R25_3t3
def R25_3t1:LO:=⟨some 26,.load true 1 (.t 2),some (25,true)⟩ :: R25_3t2
def R25_3p0:LO:=[oM 23 1,q 24 (.bin .eql (.t 23) (.c (.s (.int .u8 4)))),oM 25 24]
def R25_3:LO:=R25_3p0 ++ R25_3t1
def R25_4t2:LO:=[q 5 (.move (.c (.s (.bool true))))]
def R25_4t1:LO:=⟨none,.store 3 (.t 4) (.t 30),none⟩ :: R25_4t2
def R25_4p0:LO:=[q 30 (.build [.s (.int .i64 0),.s (.int .i64 0),.s (.int .i64 0)] [(0,1),(1,1),(2,1)] [])]
def R25_4:LO:=R25_4p0 ++ R25_4t1
def R25_5:LO:=[q 6 (.move (.c (.s (.int .i64 0))))]
def R25_6:LO:=[q 7 (.move (.c (.s (.int .i64 0))))]
def R25_7:LO:=[oM 31 7,oF 32 0 2,oL 33 32,q 34 (.lenS .s (.t 33)),q 35 (.bin .lss (.t 31) (.t 34))]
def R25_8t1:LO:=[⟨some 41,.call (.c (.fn 73 [] [])) [.t 38,.t 39,.t 40],none⟩]
def R25_8p0:LO:=[q 38 (.load true 1 (.t 2)),oM 39 7,oM 40 1]
def R25_8:LO:=R25_8p0 ++ R25_8t1
def R25_9t2:LO:=[q 5 (.move (.c (.s (.bool true))))]
def R25_9t1:LO:=⟨none,.store 3 (.t 4) (.t 43),none⟩ :: R25_9t2
def R25_9p0:LO:=[oM 42 7,q 43 (.build [.s (.int .i64 0),.s (.int .i64 0),.s (.int .i64 0)] [(0,1),(1,1),(2,1)] [(0,.t 42)])]
def R25_9:LO:=R25_9p0 ++ R25_9t1
def R25_10:LO:=[q 8 (.move (.c (.s (.int .i64 0))))]
def R25_11:LO:=[oM 44 8,oF 45 0 2,oL 46 45,oM 47 7,q 48 (.indexAddr 3 (.t 46) (.t 47)),oF 49 2 48,oL 50 49,q 51 (.lenS .s (.t 50)),q 52 (.bin .lss (.t 44) (.t 51))]
def R25_12t1:LO:=[⟨some 62,.call (.c (.fn 74 [] [])) [.t 59,.t 60,.t 61],none⟩]
def R25_12p0:LO:=[oF 55 0 2,oL 56 55,oM 57 7,q 58 (.indexAddr 3 (.t 56) (.t 57)),q 59 (.load true 3 (.t 58)),oM 60 8,oM 61 1]
def R25_12:LO:=R25_12p0 ++ R25_12t1
def R25_13t2:LO:=[q 5 (.move (.c (.s (.bool true))))]
def R25_13t1:LO:=⟨none,.store 3 (.t 4) (.t 65),none⟩ :: R25_13t2
def R25_13p0:LO:=[oM 63 7,oM 64 8,q 65 (.build [.s (.int .i64 0),.s (.int .i64 0),.s (.int .i64 0)] [(0,1),(1,1),(2,1)] [(0,.t 63),(1,.t 64)])]
def R25_13:LO:=R25_13p0 ++ R25_13t1
def R25_14:LO:=[q 9 (.move (.c (.s (.int .i64 0))))]
def R25_15:LO:=[oM 66 9,oF 67 0 2,oL 68 67,oM 69 7,q 70 (.indexAddr 3 (.t 68) (.t 69)),oF 71 2 70,oL 72 71,oM 73 8,q 74 (.indexAddr 2 (.t 72) (.t 73)),oF 75 1 74,oL 76 75,q 77 (.lenS .s (.t 76)),q 78 (.bin .lss (.t 66) (.t 77))]
def R25_16t1:LO:=[⟨some 91,.call (.c (.fn 75 [] [])) [.t 81,.t 86,.t 87,.t 88,.t 89,.t 90],none⟩]
def R25_16p0:LO:=[q 81 (.load true 1 (.t 2)),oF 82 0 2,oL 83 82,oM 84 7,q 85 (.indexAddr 3 (.t 83) (.t 84)),q 86 (.load true 3 (.t 85)),oM 87 8,oM 88 9,oM 89 6,oM 90 1]
def R25_16:LO:=R25_16p0 ++ R25_16t1
def R25_17t2:LO:=[q 5 (.move (.c (.s (.bool true))))]
def R25_17t1:LO:=⟨none,.store 3 (.t 4) (.t 95),none⟩ :: R25_17t2
def R25_17p0:LO:=[oM 92 7,oM 93 8,oM 94 9,q 95 (.build [.s (.int .i64 0),.s (.int .i64 0),.s (.int .i64 0)] [(0,1),(1,1),(2,1)] [(0,.t 92),(1,.t 93),(2,.t 94)])]
def R25_17:LO:=R25_17p0 ++ R25_17t1
def R25_18:LO:=[oM 96 6,q 97 (.bin .add (.t 96) (.c (.s (.int .i64 1)))),oM 6 97]
def R25_19:LO:=[oM 79 9,q 80 (.bin .add (.t 79) (.c (.s (.int .i64 1)))),oM 9 80]
def ais:ACode:=
 (.seq (.seq (.regionE R25_15 [66,67,68,69,70,71,72,73,74,75,76,77] [78])
 (.cond (.t 78)
 .skip
 (.exit 4)))
 (.seq (.block 5
 (.seq (.seq (.region R25_16 [] [78,81,82,83,84,85,86,87,88,89,90])
 (.cond (.t 91)
 (.seq (.region R25_17 [] [1,2,6,7,8,9,91,92,93,94,95])
 .ret)
 .skip))
 (.regionE R25_18 [91,96,97] [6])))
 (.regionE R25_19 [79,80] [9])))
def ag6:ACode:=ais
def R25_20:LO:=[oM 53 8,q 54 (.bin .add (.t 53) (.c (.s (.int .i64 1)))),oM 8 54]
def air:ACode:=
 (.seq (.seq (.regionE R25_11 [44,45,46,47,48,49,50,51] [52])
 (.cond (.t 52)
 .skip
 (.exit 2)))
 (.seq (.block 3
 (.seq (.seq (.region R25_12 [] [52,55,56,57,58,59,60,61])
 (.cond (.t 62)
 (.seq (.region R25_13 [] [1,2,6,7,8,62,63,64,65])
 .ret)
 .skip))
 (.seq (.regionE R25_14 [62] [9])
 (.block 4
 (.loop [] ag6)))))
 (.regionE R25_20 [9,53,54,78] [8])))
def ag5:ACode:=air
def R25_21:LO:=[oM 36 7,q 37 (.bin .add (.t 36) (.c (.s (.int .i64 1)))),oM 7 37]
def aiq:ACode:=
 (.seq (.seq (.regionE R25_7 [31,32,33,34] [35])
 (.cond (.t 35)
 .skip
 (.exit 0)))
 (.seq (.block 1
 (.seq (.seq (.region R25_8 [] [35,38,39,40])
 (.cond (.t 41)
 (.seq (.region R25_9 [] [1,2,6,7,41,42,43])
 .ret)
 .skip))
 (.seq (.regionE R25_10 [41] [8])
 (.block 2
 (.loop [] ag5)))))
 (.regionE R25_21 [8,36,37,52] [7])))
def ag4:ACode:=aiq
def R25_22t2:LO:=[q 5 (.move (.c (.s (.bool false))))]
def R25_22t1:LO:=⟨none,.store 3 (.t 4) (.t 98),none⟩ :: R25_22t2
def R25_22p0:LO:=[q 98 (.build [.s (.int .i64 0),.s (.int .i64 0),.s (.int .i64 0)] [(0,1),(1,1),(2,1)] [])]
def R25_22:LO:=R25_22p0 ++ R25_22t1
def aj1:ACFun:={ ntmps:=99,results:=[.cell 4 true 3,.tmp 5],body:=
 (.seq (.region R25_0 [] K25_0)
 (.seq (.seq (.regionE R25_1 [10] [11])
 (.cond (.t 11)
 (.seq (.region R25_2 [(7,11),(8,11)] [1,2,11,12,13,14,15,16,17,18,19,20,21,22])
 .ret)
 .skip))
 (.seq (.seq (.region R25_3 [] [11,23,24,25,26,27,28])
 (.cond (.t 29)
 (.seq (.region R25_4 [] [1,2,29,30])
 .ret)
 .skip))
 (.seq (.regionE R25_5 [29] [6])
 (.seq (.seq (.regionE R25_6 [] [7])
 (.block 0
 (.loop [] ag4)))
 (.seq (.region R25_22 [] [1,2,6,7,35,98])
 .ret)))))) }
theorem alo:l9 (List.range' 2 (aj1.ntmps - 2)) aj1.body=true:=by kernel_rfl
abbrev bdq:Nat:=26
def K26_0:List Nat:=List.range' 1 22
theorem au9:y5 K26_0 (si 23 [] 1)=[]:=by kernel_rfl
def R26_0:LO:=[q 2 (.move (.c (.s (.string ⟨#[]⟩))))]
def R26_1:LO:=[q 3 (.move (.c (.s (.string ⟨#[40]⟩))))]
def R26_2:LO:=[q 4 (.move (.c (.s (.int .i64 0))))]
def R26_3:LO:=[oM 5 4,oM 6 0,q 7 (.lenS .s (.t 6)),q 8 (.bin .lss (.t 5) (.t 7))]
def R26_4:LO:=[oM 11 4,q 12 (.bin .gtr (.t 11) (.c (.s (.int .i64 0))))]
def R26_5:LO:=[oM 13 3,q 14 (.bin .add (.t 13) (.c (.s (.string ⟨#[44,32]⟩)))),oM 3 14]
def R26_6:LO:=[oM 15 3,oM 16 0,oM 17 4,q 18 (.indexAddr 1 (.t 16) (.t 17)),oL 19 18,q 20 (.bin .add (.t 15) (.t 19)),oM 3 20]
def R26_7:LO:=[oM 9 4,q 10 (.bin .add (.t 9) (.c (.s (.int .i64 1)))),oM 4 10]
def aip:ACode:=
 (.seq (.seq (.regionE R26_3 [5,6,7] [8])
 (.cond (.t 8)
 .skip
 (.exit 0)))
 (.seq (.block 1
 (.seq (.seq (.regionE R26_4 [8,11] [12])
 (.cond (.t 12)
 (.regionE R26_5 [12,13,14] [3])
 .skip))
 (.regionE R26_6 [12,15,16,17,18,19,20] [3])))
 (.regionE R26_7 [9,10] [4])))
def aj9:ACode:=aip
def R26_8:LO:=[oM 21 3,q 22 (.bin .add (.t 21) (.c (.s (.string ⟨#[41]⟩)))),oM 2 22]
def apr:ACFun:={ ntmps:=23,results:=[.tmp 2],body:=
 (.seq (.regionE R26_0 K26_0 [])
 (.seq (.regionE R26_1 [] [3])
 (.seq (.seq (.regionE R26_2 [] [4])
 (.block 0
 (.loop [] aj9)))
 (.seq (.regionE R26_8 [0,3,4,8,21,22] [2])
 .ret)))) }
abbrev afv:Nat:=27
def K27_0:List Nat:=[0] ++ List.range' 2 152
def R27_0t1:LO:=[q 2 (.move (.c (.s (.string ⟨#[]⟩))))]
def R27_0p0:LO:=[⟨some 1,.box (.t 0),none⟩]
def R27_0:LO:=R27_0p0 ++ R27_0t1
def K27_0p0:List Nat:=[0] ++ List.range' 2 152
theorem X27_0 (call:ni) (it:zt) (base:Nat) (f:List V) (H:Heap):evC call it base (.region R27_0 [] K27_0) f H=abl call it base (.region R27_0t1 [] K27_0) (akk [] R27_0p0 K27_0p0 (mi call base [⟨some 1,.box (.t 0),none⟩] f H)):=(abu call it base R27_0p0 R27_0t1 (kc:=K27_0p0) (by kernel_rfl) f H).trans (by rw [zh];rfl)
def R27_1:LO:=[q 3 (.move (.c (.s (.string ⟨#[]⟩))))]
def R27_2:LO:=[oF 5 1 1,oL 6 5,q 7 (.bin .neq (.t 6) (.c (.s (.string ⟨#[]⟩))))]
def R27_3:LO:=[oF 8 1 1,oL 9 8,q 10 (.bin .add (.t 9) (.c (.s (.string ⟨#[32,61,32]⟩)))),oM 3 10]
def R27_4:LO:=[oF 11 0 1,oL 12 11]
def R27_5:LO:=[q 14 (.bin .eql (.t 12) (.c (.s (.int .u8 1)))),oM 13 14]
def R27_6t2:LO:=[q 20 (.bin .add (.t 16) (.t 19)),oM 2 20]
def R27_6t1:LO:=⟨some 19,.call (.c (.fn 76 [] [])) [.t 18],none⟩ :: R27_6t2
def R27_6p0:LO:=[oM 15 3,q 16 (.bin .add (.t 15) (.c (.s (.string ⟨#[97,108,108,111,99,97,32]⟩)))),oF 17 4 1,oL 18 17]
def R27_6:LO:=R27_6p0 ++ R27_6t1
def R27_7:LO:=[q 22 (.bin .eql (.t 12) (.c (.s (.int .u8 2)))),oM 21 22]
def R27_8t2:LO:=[q 28 (.bin .add (.t 24) (.t 27)),oM 2 28]
def R27_8t1:LO:=⟨some 27,.call (.c (.fn 76 [] [])) [.t 26],none⟩ :: R27_8t2
def R27_8p0:LO:=[oM 23 3,q 24 (.bin .add (.t 23) (.c (.s (.string ⟨#[109,97,108,108,111,99,32]⟩)))),oF 25 4 1,oL 26 25]
def R27_8:LO:=R27_8p0 ++ R27_8t1
def R27_9:LO:=[q 30 (.bin .eql (.t 12) (.c (.s (.int .u8 3)))),oM 29 30]
def R27_10:LO:=[oM 31 3,q 32 (.bin .add (.t 31) (.c (.s (.string ⟨#[110,117,108,108]⟩)))),oM 2 32]
def R27_11:LO:=[q 34 (.bin .eql (.t 12) (.c (.s (.int .u8 4)))),oM 33 34]
def R27_12:LO:=[oM 35 3,q 36 (.bin .add (.t 35) (.c (.s (.string ⟨#[97,100,100,114,32]⟩)))),oF 37 5 1,oL 38 37,q 39 (.bin .add (.t 36) (.t 38)),oM 2 39]
def R27_13:LO:=[q 41 (.bin .eql (.t 12) (.c (.s (.int .u8 5)))),oM 40 41]
def R27_14:LO:=[oM 42 3,q 43 (.bin .add (.t 42) (.c (.s (.string ⟨#[99,111,112,121,32]⟩)))),oF 44 2 1,oL 45 44,q 46 (.bin .add (.t 43) (.t 45)),oM 2 46]
def R27_15:LO:=[q 48 (.bin .eql (.t 12) (.c (.s (.int .u8 7)))),oM 47 48]
def R27_16t2:LO:=[q 58 (.bin .add (.t 54) (.t 57)),oM 2 58]
def R27_16t1:LO:=⟨some 57,.callR (.c (.fn 76 [] [])) [.t 56],none⟩ :: R27_16t2
def R27_16p0:LO:=[oM 49 3,q 50 (.bin .add (.t 49) (.c (.s (.string ⟨#[102,105,101,108,100,32]⟩)))),oF 51 2 1,oL 52 51,q 53 (.bin .add (.t 50) (.t 52)),q 54 (.bin .add (.t 53) (.c (.s (.string ⟨#[32]⟩)))),oF 55 4 1,oL 56 55]
def R27_16:LO:=R27_16p0 ++ R27_16t1
def R27_17:LO:=[q 60 (.bin .eql (.t 12) (.c (.s (.int .u8 8)))),oM 59 60]
def R27_18:LO:=[oM 61 3,q 62 (.bin .add (.t 61) (.c (.s (.string ⟨#[108,111,97,100,32]⟩)))),oF 63 2 1,oL 64 63,q 65 (.bin .add (.t 62) (.t 64)),oM 2 65]
def R27_19:LO:=[q 67 (.bin .eql (.t 12) (.c (.s (.int .u8 9)))),oM 66 67]
def R27_20:LO:=[oF 68 2 1,oL 69 68,q 70 (.bin .add (.c (.s (.string ⟨#[115,116,111,114,101,32]⟩))) (.t 69)),q 71 (.bin .add (.t 70) (.c (.s (.string ⟨#[44,32]⟩)))),oF 72 3 1,oL 73 72,q 74 (.bin .add (.t 71) (.t 73)),oM 2 74]
def R27_21:LO:=[q 76 (.bin .eql (.t 12) (.c (.s (.int .u8 10)))),oM 75 76]
def R27_22t2:LO:=[q 85 (.bin .add (.t 81) (.t 84)),oM 2 85]
def R27_22t1:LO:=⟨some 84,.callR (.c (.fn 26 [] [])) [.t 83],none⟩ :: R27_22t2
def R27_22p0:LO:=[oM 77 3,q 78 (.bin .add (.t 77) (.c (.s (.string ⟨#[99,97,108,108,32]⟩)))),oF 79 5 1,oL 80 79,q 81 (.bin .add (.t 78) (.t 80)),oF 82 6 1,oL 83 82]
def R27_22:LO:=R27_22p0 ++ R27_22t1
def R27_23:LO:=[q 87 (.bin .eql (.t 12) (.c (.s (.int .u8 11)))),oM 86 87]
def R27_24t2:LO:=[q 96 (.bin .add (.t 92) (.t 95)),oM 2 96]
def R27_24t1:LO:=⟨some 95,.callR (.c (.fn 26 [] [])) [.t 94],none⟩ :: R27_24t2
def R27_24p0:LO:=[oM 88 3,q 89 (.bin .add (.t 88) (.c (.s (.string ⟨#[105,99,97,108,108,32]⟩)))),oF 90 2 1,oL 91 90,q 92 (.bin .add (.t 89) (.t 91)),oF 93 6 1,oL 94 93]
def R27_24:LO:=R27_24p0 ++ R27_24t1
def R27_25:LO:=[q 98 (.bin .eql (.t 12) (.c (.s (.int .u8 12)))),oM 97 98]
def R27_26:LO:=[oF 99 7 1,oL 100 99,q 101 (.indexAddr 1 (.t 100) (.c (.s (.int .i64 0)))),oL 102 101,q 103 (.bin .add (.c (.s (.string ⟨#[98,114,32]⟩))) (.t 102)),q 104 (.bin .add (.t 103) (.c (.s (.string ⟨#[32]⟩)))),oF 105 7 1,oL 106 105,q 107 (.indexAddr 1 (.t 106) (.c (.s (.int .i64 1)))),oL 108 107,q 109 (.bin .add (.t 104) (.t 108)),oM 2 109]
def R27_27:LO:=[q 111 (.bin .eql (.t 12) (.c (.s (.int .u8 13)))),oM 110 111]
def R27_28:LO:=[oF 112 7 1,oL 113 112,q 114 (.indexAddr 1 (.t 113) (.c (.s (.int .i64 0)))),oL 115 114,q 116 (.bin .add (.c (.s (.string ⟨#[103,111,116,111,32]⟩))) (.t 115)),oM 2 116]
def R27_29:LO:=[q 118 (.bin .eql (.t 12) (.c (.s (.int .u8 14)))),oM 117 118]
def R27_30:LO:=[oF 119 2 1,oL 120 119,q 121 (.bin .eql (.t 120) (.c (.s (.string ⟨#[]⟩))))]
def R27_31:LO:=[q 2 (.move (.c (.s (.string ⟨#[114,101,116]⟩))))]
def R27_32:LO:=[oF 122 2 1,oL 123 122,q 124 (.bin .add (.c (.s (.string ⟨#[114,101,116,32]⟩))) (.t 123)),oM 2 124]
def R27_33:LO:=[oM 125 3,q 126 (.bin .add (.t 125) (.c (.s (.string ⟨#[112,104,105,32,91]⟩)))),oM 3 126]
def R27_34:LO:=[q 4 (.move (.c (.s (.int .i64 0))))]
def R27_35:LO:=[oM 127 4,oF 128 7 1,oL 129 128,q 130 (.lenS .s (.t 129)),q 131 (.bin .lss (.t 127) (.t 130))]
def R27_36:LO:=[oM 134 4,q 135 (.bin .gtr (.t 134) (.c (.s (.int .i64 0))))]
def R27_37:LO:=[oM 136 3,q 137 (.bin .add (.t 136) (.c (.s (.string ⟨#[44,32]⟩)))),oM 3 137]
def R27_38:LO:=[oM 138 3,oF 139 7 1,oL 140 139,oM 141 4,q 142 (.indexAddr 1 (.t 140) (.t 141)),oL 143 142,q 144 (.bin .add (.t 138) (.t 143)),q 145 (.bin .add (.t 144) (.c (.s (.string ⟨#[58,32]⟩)))),oF 146 6 1,oL 147 146,oM 148 4,q 149 (.indexAddr 1 (.t 147) (.t 148)),oL 150 149,q 151 (.bin .add (.t 145) (.t 150)),oM 3 151]
def R27_39:LO:=[oM 132 4,q 133 (.bin .add (.t 132) (.c (.s (.int .i64 1)))),oM 4 133]
def aio:ACode:=
 (.seq (.seq (.regionE R27_35 [127,128,129,130] [131])
 (.cond (.t 131)
 .skip
 (.exit 1)))
 (.seq (.block 2
 (.seq (.seq (.regionE R27_36 [131,134] [135])
 (.cond (.t 135)
 (.regionE R27_37 [135,136,137] [3])
 .skip))
 (.regionE R27_38 [135,138,139,140,141,142,143,144,145,146,147,148,149,150,151] [3])))
 (.regionE R27_39 [132,133] [4])))
def aj8:ACode:=aio
def R27_40:LO:=[oM 152 3,q 153 (.bin .add (.t 152) (.c (.s (.string ⟨#[93]⟩)))),oM 2 153]
def uo:ACFun:={ ntmps:=154,results:=[.tmp 2],body:=
 (.seq (.region R27_0 [] K27_0)
 (.seq (.regionE R27_1 [] [3])
 (.seq (.seq (.regionE R27_2 [5,6] [7])
 (.cond (.t 7)
 (.regionE R27_3 [7,8,9,10] [3])
 .skip))
 (.seq (.seq (.regionE R27_4 [7,11] [12])
 (.block 0
 (.seq (.regionE R27_5 [14] [13])
 (.cond (.t 13)
 (.seq (.region R27_6 [] [1,3,12,13,15,16,17,18,19,20])
 .ret)
 (.seq (.regionE R27_7 [13,22] [21])
 (.cond (.t 21)
 (.seq (.region R27_8 [] [1,3,12,21,23,24,25,26,27,28])
 .ret)
 (.seq (.regionE R27_9 [21,30] [29])
 (.cond (.t 29)
 (.seq (.regionE R27_10 [1,3,12,29,31,32] [2])
 .ret)
 (.seq (.regionE R27_11 [29,34] [33])
 (.cond (.t 33)
 (.seq (.regionE R27_12 [1,3,12,33,35,36,37,38,39] [2])
 .ret)
 (.seq (.regionE R27_13 [33,41] [40])
 (.cond (.t 40)
 (.seq (.regionE R27_14 [1,3,12,40,42,43,44,45,46] [2])
 .ret)
 (.seq (.regionE R27_15 [40,48] [47])
 (.cond (.t 47)
 (.seq (.region R27_16 [] [1,3,12,47,49,50,51,52,53,54,55,56,57,58])
 .ret)
 (.seq (.regionE R27_17 [47,60] [59])
 (.cond (.t 59)
 (.seq (.regionE R27_18 [1,3,12,59,61,62,63,64,65] [2])
 .ret)
 (.seq (.regionE R27_19 [59,67] [66])
 (.cond (.t 66)
 (.seq (.regionE R27_20 [1,3,12,66,68,69,70,71,72,73,74] [2])
 .ret)
 (.seq (.regionE R27_21 [66,76] [75])
 (.cond (.t 75)
 (.seq (.region R27_22 [] [1,3,12,75,77,78,79,80,81,82,83,84,85])
 .ret)
 (.seq (.regionE R27_23 [75,87] [86])
 (.cond (.t 86)
 (.seq (.region R27_24 [] [1,3,12,86,88,89,90,91,92,93,94,95,96])
 .ret)
 (.seq (.regionE R27_25 [86,98] [97])
 (.cond (.t 97)
 (.seq (.regionE R27_26 [1,3,12,97,99,100,101,102,103,104,105,106,107,108,109] [2])
 .ret)
 (.seq (.regionE R27_27 [97,111] [110])
 (.cond (.t 110)
 (.seq (.regionE R27_28 [1,3,12,110,112,113,114,115,116] [2])
 .ret)
 (.seq (.regionE R27_29 [12,110,118] [117])
 (.cond (.t 117)
 (.seq (.seq (.regionE R27_30 [3,117,119,120] [121])
 (.cond (.t 121)
 (.seq (.regionE R27_31 [1,121] [2])
 .ret)
 .skip))
 (.seq (.regionE R27_32 [1,121,122,123,124] [2])
 .ret))
 .skip))))))))))))))))))))))))))))
 (.seq (.regionE R27_33 [117,125,126] [3])
 (.seq (.seq (.regionE R27_34 [] [4])
 (.block 1
 (.loop [] aj8)))
 (.seq (.regionE R27_40 [1,3,4,131,152,153] [2])
 .ret))))))) }
theorem qo:l9 (List.range' 1 (uo.ntmps - 1)) uo.body=true:=by kernel_rfl
abbrev bhq:Nat:=73
def K73_0:List Nat:=[0] ++ List.range' 4 96
def R73_0t1:LO:=[q 6 (.move (.c (.s (.bool false))))]
def R73_0p0:LO:=[⟨some 3,.box (.t 0),none⟩]
def R73_0:LO:=R73_0p0 ++ R73_0t1
def K73_0p0:List Nat:=[0] ++ List.range' 4 96
theorem X73_0 (call:ni) (it:zt) (base:Nat) (f:List V) (H:Heap):evC call it base (.region R73_0 [] K73_0) f H=abl call it base (.region R73_0t1 [] K73_0) (akk [] R73_0p0 K73_0p0 (mi call base [⟨some 3,.box (.t 0),none⟩] f H)):=(abu call it base R73_0p0 R73_0t1 (kc:=K73_0p0) (by kernel_rfl) f H).trans (by rw [zh];rfl)
def R73_1t2:LO:=[⟨none,.store 3 (.t 7) (.t 15),none⟩]
def R73_1t1:LO:=⟨some 7,.alloc [.s (.string ⟨#[]⟩),.s (.slice none 0 0),.s (.slice none 0 0)],none⟩ :: R73_1t2
def R73_1p0:LO:=[oF 11 0 3,oL 12 11,oM 13 1,q 14 (.indexAddr 3 (.t 12) (.t 13)),q 15 (.load true 3 (.t 14))]
def R73_1:LO:=R73_1p0 ++ R73_1t1
def R73_2:LO:=[oM 16 2]
def R73_3:LO:=[q 18 (.bin .eql (.t 16) (.c (.s (.int .u8 2)))),oM 17 18]
def R73_4:LO:=[q 8 (.move (.c (.s (.int .i64 0))))]
def R73_5:LO:=[oM 19 8,oF 20 1 7,oL 21 20,q 22 (.lenS .s (.t 21)),q 23 (.bin .lss (.t 19) (.t 22))]
def R73_6t2:LO:=[q 32 (.un .not (.t 31))]
def R73_6t1:LO:=⟨some 31,.call (.c (.fn 120 [] [])) [.t 30],none⟩ :: R73_6t2
def R73_6p0:LO:=[oF 26 1 7,oL 27 26,oM 28 8,q 29 (.indexAddr 1 (.t 27) (.t 28)),oL 30 29]
def R73_6:LO:=R73_6p0 ++ R73_6t1
def R73_7:LO:=[q 6 (.move (.c (.s (.bool true))))]
def R73_8:LO:=[oM 24 8,q 25 (.bin .add (.t 24) (.c (.s (.int .i64 1)))),oM 8 25]
def aik:ACode:=
 (.seq (.seq (.regionE R73_5 [19,20,21,22] [23])
 (.cond (.t 23)
 .skip
 (.exit 1)))
 (.seq (.block 2
 (.seq (.region R73_6 [] [23,26,27,28,29,30,31])
 (.cond (.t 32)
 (.seq (.regionE R73_7 [7,8,32] [6])
 .ret)
 .skip)))
 (.regionE R73_8 [24,25,32] [8])))
def aj6:ACode:=aik
def R73_9t2:LO:=[q 36 (.un .not (.t 35)),oM 6 36]
def R73_9t1:LO:=⟨some 35,.call (.c (.fn 120 [] [])) [.t 34],none⟩ :: R73_9t2
def R73_9p0:LO:=[oF 33 0 7,oL 34 33]
def R73_9:LO:=R73_9p0 ++ R73_9t1
def R73_10:LO:=[q 38 (.bin .eql (.t 16) (.c (.s (.int .u8 3)))),oM 37 38]
def R73_11t2:LO:=[oM 43 1,q 44 (.bin .lss (.t 42) (.t 43)),oM 6 44]
def R73_11t1:LO:=⟨some 42,.call (.c (.fn 72 [] [])) [.t 39,.t 41],none⟩ :: R73_11t2
def R73_11p0:LO:=[q 39 (.load true 1 (.t 3)),oF 40 0 7,oL 41 40]
def R73_11:LO:=R73_11p0 ++ R73_11t1
def R73_12:LO:=[q 46 (.bin .eql (.t 16) (.c (.s (.int .u8 4)))),oM 45 46]
def R73_13t2:LO:=[oM 49 1,q 50 (.bin .eql (.t 48) (.t 49)),oM 51 50,gF 52 1 7 51 true,gL 53 52 51 true,qg 54 (.lenS .s (.t 53)) 51 true,qg 55 (.bin .gtr (.t 54) (.c (.s (.int .i64 0)))) 51 true,q 56 (.pick (.t 51) (.t 55) (.c (.s (.bool false)))),oM 6 56]
def R73_13t1:LO:=⟨some 48,.call (.c (.fn 72 [] [])) [.t 47,.c (.s (.string ⟨#[109,97,105,110]⟩))],none⟩ :: R73_13t2
def R73_13p0:LO:=[q 47 (.load true 1 (.t 3))]
def R73_13:LO:=R73_13p0 ++ R73_13t1
def R73_14:LO:=[q 58 (.bin .eql (.t 16) (.c (.s (.int .u8 5)))),oM 57 58]
def R73_15:LO:=[oF 59 1 7,oL 60 59,q 61 (.lenS .s (.t 60)),q 62 (.bin .gtr (.t 61) (.c (.s (.int .i64 8)))),oM 6 62]
def R73_16:LO:=[q 64 (.bin .eql (.t 16) (.c (.s (.int .u8 6)))),oM 63 64]
def R73_17:LO:=[oF 65 2 7,oL 66 65,q 67 (.lenS .s (.t 66)),q 68 (.bin .eql (.t 67) (.c (.s (.int .i64 0)))),oM 69 68,gF 70 2 7 69 false,gL 71 70 69 false,qg 72 (.lenS .s (.t 71)) 69 false,qg 73 (.bin .gtr (.t 72) (.c (.s (.int .i64 64)))) 69 false,q 74 (.pick (.t 69) (.c (.s (.bool true))) (.t 73)),oM 6 74]
def R73_18:LO:=[q 76 (.bin .eql (.t 16) (.c (.s (.int .u8 15)))),oM 75 76]
def R73_19:LO:=[q 9 (.move (.c (.s (.int .i64 0))))]
def R73_20:LO:=[oM 77 9,oF 78 1 7,oL 79 78,q 80 (.lenS .s (.t 79)),q 81 (.bin .lss (.t 77) (.t 80))]
def R73_21:LO:=[q 10 (.move (.c (.s (.int .i64 0))))]
def R73_22:LO:=[oM 84 10,oM 85 9,q 86 (.bin .lss (.t 84) (.t 85))]
def R73_23:LO:=[oF 89 1 7,oL 90 89,oM 91 10,q 92 (.indexAddr 1 (.t 90) (.t 91)),oL 93 92,oF 94 1 7,oL 95 94,oM 96 9,q 97 (.indexAddr 1 (.t 95) (.t 96)),oL 98 97,q 99 (.bin .eql (.t 93) (.t 98))]
def R73_24:LO:=[q 6 (.move (.c (.s (.bool true))))]
def R73_25:LO:=[oM 87 10,q 88 (.bin .add (.t 87) (.c (.s (.int .i64 1)))),oM 10 88]
def aij:ACode:=
 (.seq (.seq (.regionE R73_22 [84,85] [86])
 (.cond (.t 86)
 .skip
 (.exit 5)))
 (.seq (.block 6
 (.seq (.regionE R73_23 [86,89,90,91,92,93,94,95,96,97,98] [99])
 (.cond (.t 99)
 (.seq (.regionE R73_24 [7,9,10,99] [6])
 .ret)
 .skip)))
 (.regionE R73_25 [87,88,99] [10])))
def axa:ACode:=aij
def R73_26:LO:=[oM 82 9,q 83 (.bin .add (.t 82) (.c (.s (.int .i64 1)))),oM 9 83]
def aii:ACode:=
 (.seq (.seq (.regionE R73_20 [77,78,79,80] [81])
 (.cond (.t 81)
 .skip
 (.exit 3)))
 (.seq (.block 4
 (.seq (.regionE R73_21 [81] [10])
 (.block 5
 (.loop [] axa))))
 (.regionE R73_26 [10,82,83,86] [9])))
def aw9:ACode:=aii
def R73_27:LO:=[q 6 (.move (.c (.s (.bool false))))]
def ajx:ACFun:={ ntmps:=100,results:=[.tmp 6],body:=
 (.seq (.region R73_0 [] K73_0)
 (.seq (.region R73_1 [] [11,12,13,14,15])
 (.seq (.seq (.regionE R73_2 [2] [16])
 (.block 0
 (.seq (.regionE R73_3 [18] [17])
 (.cond (.t 17)
 (.seq (.seq (.regionE R73_4 [1,3,16,17] [8])
 (.block 1
 (.loop [] aj6)))
 (.seq (.region R73_9 [] [7,8,23,33,34,35,36])
 .ret))
 (.seq (.regionE R73_10 [17,38] [37])
 (.cond (.t 37)
 (.seq (.region R73_11 [] [1,3,7,16,37,39,40,41,42,43,44])
 .ret)
 (.seq (.regionE R73_12 [37,46] [45])
 (.cond (.t 45)
 (.seq (.region R73_13 [] [1,3,7,16,45,47,48,49,50,51,52,53,54,55,56])
 .ret)
 (.seq (.regionE R73_14 [1,3,45,58] [57])
 (.cond (.t 57)
 (.seq (.regionE R73_15 [7,16,57,59,60,61,62] [6])
 .ret)
 (.seq (.regionE R73_16 [57,64] [63])
 (.cond (.t 63)
 (.seq (.regionE R73_17 [7,16,63,65,66,67,68,69,70,71,72,73,74] [6])
 .ret)
 (.seq (.regionE R73_18 [16,63,76] [75])
 (.cond (.t 75)
 (.seq (.regionE R73_19 [75] [9])
 (.block 3
 (.loop [] aw9)))
 .skip))))))))))))))
 (.seq (.regionE R73_27 [7,9,75,81] [6])
 .ret)))) }
theorem alk:l9 (List.range' 3 (ajx.ntmps - 3)) ajx.body=true:=by kernel_rfl
abbrev bhp:Nat:=74
def K74_0:List Nat:=[0] ++ List.range' 4 36
def R74_0t1:LO:=[q 6 (.move (.c (.s (.bool false))))]
def R74_0:LO:=⟨some 3,.box (.t 0),none⟩ :: R74_0t1
def R74_1:LO:=[oM 7 2]
def R74_2:LO:=[q 9 (.bin .eql (.t 7) (.c (.s (.int .u8 2)))),oM 8 9]
def R74_3t2:LO:=[q 17 (.un .not (.t 16)),oM 6 17]
def R74_3t1:LO:=⟨some 16,.call (.c (.fn 120 [] [])) [.t 15],none⟩ :: R74_3t2
def R74_3p0:LO:=[oF 10 2 3,oL 11 10,oM 12 1,q 13 (.indexAddr 2 (.t 11) (.t 12)),oF 14 0 13,oL 15 14]
def R74_3:LO:=R74_3p0 ++ R74_3t1
def R74_4:LO:=[q 19 (.bin .eql (.t 7) (.c (.s (.int .u8 7)))),oM 18 19]
def R74_5t2:LO:=[oM 28 1,q 29 (.bin .lss (.t 27) (.t 28)),oM 6 29]
def R74_5t1:LO:=⟨some 27,.call (.c (.fn 121 [] [])) [.t 20,.t 26],none⟩ :: R74_5t2
def R74_5p0:LO:=[q 20 (.load true 3 (.t 3)),oF 21 2 3,oL 22 21,oM 23 1,q 24 (.indexAddr 2 (.t 22) (.t 23)),oF 25 0 24,oL 26 25]
def R74_5:LO:=R74_5p0 ++ R74_5t1
def R74_6:LO:=[q 31 (.bin .eql (.t 7) (.c (.s (.int .u8 10)))),oM 30 31]
def R74_7:LO:=[oF 32 2 3,oL 33 32,oM 34 1,q 35 (.indexAddr 2 (.t 33) (.t 34)),oF 36 1 35,oL 37 36,q 38 (.lenS .s (.t 37)),q 39 (.bin .eql (.t 38) (.c (.s (.int .i64 0)))),oM 6 39]
def R74_8:LO:=[q 6 (.move (.c (.s (.bool false))))]
def alj:ACFun:={ ntmps:=40,results:=[.tmp 6],body:=
 (.seq (.region R74_0 [] K74_0)
 (.seq (.seq (.regionE R74_1 [2] [7])
 (.block 0
 (.seq (.regionE R74_2 [9] [8])
 (.cond (.t 8)
 (.seq (.region R74_3 [] [1,3,7,8,10,11,12,13,14,15,16,17])
 .ret)
 (.seq (.regionE R74_4 [8,19] [18])
 (.cond (.t 18)
 (.seq (.region R74_5 [] [1,3,7,18,20,21,22,23,24,25,26,27,28,29])
 .ret)
 (.seq (.regionE R74_6 [7,18,31] [30])
 (.cond (.t 30)
 (.seq (.regionE R74_7 [1,3,30,32,33,34,35,36,37,38,39] [6])
 .ret)
 .skip))))))))
 (.seq (.regionE R74_8 [1,3,30] [6])
 .ret))) }
theorem ali:l9 (List.range' 3 (alj.ntmps - 3)) alj.body=true:=by kernel_rfl
abbrev bho:Nat:=75
def K75_0:List Nat:=[0,1] ++ List.range' 8 174
def R75_0t2:LO:=[q 12 (.move (.c (.s (.bool false))))]
def R75_0t1:LO:=⟨some 7,.box (.t 1),none⟩ :: R75_0t2
def R75_0p0:LO:=[⟨some 6,.box (.t 0),none⟩]
def R75_0:LO:=R75_0p0 ++ R75_0t1
def K75_0p0:List Nat:=[0] ++ List.range' 7 175
theorem X75_0 (call:ni) (it:zt) (base:Nat) (f:List V) (H:Heap):evC call it base (.region R75_0 [] K75_0) f H=abl call it base (.region R75_0t1 [] K75_0) (akk [] R75_0p0 K75_0p0 (mi call base [⟨some 6,.box (.t 0),none⟩] f H)):=(abu call it base R75_0p0 R75_0t1 (kc:=K75_0p0) (by kernel_rfl) f H).trans (by rw [zh];rfl)
def R75_1:LO:=[oF 20 2 7,oL 21 20,oM 22 2,q 23 (.indexAddr 2 (.t 21) (.t 22)),oF 24 1 23,oL 25 24,oM 13 25]
def R75_2t2:LO:=[⟨none,.store 8 (.t 14) (.t 29),none⟩]
def R75_2t1:LO:=⟨some 14,.alloc [.s (.int .u8 0),.s (.string ⟨#[]⟩),.s (.string ⟨#[]⟩),.s (.string ⟨#[]⟩),.s (.int .i64 0),.s (.string ⟨#[]⟩),.s (.slice none 0 0),.s (.slice none 0 0)],none⟩ :: R75_2t2
def R75_2p0:LO:=[oM 26 13,oM 27 3,q 28 (.indexAddr 8 (.t 26) (.t 27)),q 29 (.load true 8 (.t 28))]
def R75_2:LO:=R75_2p0 ++ R75_2t1
def R75_3:LO:=[oM 30 5]
def R75_4:LO:=[q 32 (.bin .eql (.t 30) (.c (.s (.int .u8 2)))),oM 31 32]
def R75_5t2:LO:=[oM 12 34]
def R75_5t1:LO:=⟨some 34,.call (.c (.fn 122 [] [])) [.t 33],none⟩ :: R75_5t2
def R75_5p0:LO:=[q 33 (.load true 8 (.t 14))]
def R75_5:LO:=R75_5p0 ++ R75_5t1
def R75_6:LO:=[q 36 (.bin .eql (.t 30) (.c (.s (.int .u8 5)))),oM 35 36]
def R75_7:LO:=[oF 37 0 14,oL 38 37,q 39 (.bin .eql (.t 38) (.c (.s (.int .u8 10)))),oM 40 39,gF 41 0 14 40 false,gL 42 41 40 false,qg 43 (.bin .eql (.t 42) (.c (.s (.int .u8 11)))) 40 false,q 44 (.pick (.t 40) (.c (.s (.bool true))) (.t 43)),oM 45 44,gF 46 6 14 45 true,gL 47 46 45 true,qg 48 (.lenS .s (.t 47)) 45 true,qg 49 (.bin .gtr (.t 48) (.c (.s (.int .i64 8)))) 45 true,q 50 (.pick (.t 45) (.t 49) (.c (.s (.bool false)))),oM 12 50]
def R75_8:LO:=[q 52 (.bin .eql (.t 30) (.c (.s (.int .u8 8)))),oM 51 52]
def R75_9:LO:=[oM 53 4,q 54 (.bin .geq (.t 53) (.c (.s (.int .i64 4096)))),oM 12 54]
def R75_10:LO:=[q 56 (.bin .eql (.t 30) (.c (.s (.int .u8 9)))),oM 55 56]
def R75_11t2:LO:=[oM 12 58]
def R75_11t1:LO:=⟨some 58,.call (.c (.fn 123 [] [])) [.t 57],none⟩ :: R75_11t2
def R75_11p0:LO:=[q 57 (.load true 8 (.t 14))]
def R75_11:LO:=R75_11p0 ++ R75_11t1
def R75_12:LO:=[q 60 (.bin .eql (.t 30) (.c (.s (.int .u8 10)))),oM 59 60]
def R75_13t2:LO:=[oM 64 3,q 65 (.bin .add (.t 64) (.c (.s (.int .i64 1)))),oM 66 13,q 67 (.lenS .s (.t 66)),q 68 (.bin .eql (.t 65) (.t 67)),q 69 (.eqB true (.t 63) (.t 68)),oM 12 69]
def R75_13t1:LO:=⟨some 63,.call (.c (.fn 124 [] [])) [.t 62],none⟩ :: R75_13t2
def R75_13p0:LO:=[oF 61 0 14,oL 62 61]
def R75_13:LO:=R75_13p0 ++ R75_13t1
def R75_14:LO:=[q 71 (.bin .eql (.t 30) (.c (.s (.int .u8 11)))),oM 70 71]
def R75_15:LO:=[oF 72 0 14,oL 73 72,q 74 (.bin .neq (.t 73) (.c (.s (.int .u8 6))))]
def R75_16:LO:=[q 12 (.move (.c (.s (.bool false))))]
def R75_17:LO:=[q 15 (.move (.c (.s (.int .i64 0))))]
def R75_18:LO:=[oM 75 15,oM 76 3,q 77 (.bin .lss (.t 75) (.t 76))]
def R75_19:LO:=[oM 80 13,oM 81 15,q 82 (.indexAddr 8 (.t 80) (.t 81)),oF 83 0 82,oL 84 83,q 85 (.bin .neq (.t 84) (.c (.s (.int .u8 6))))]
def R75_20:LO:=[q 12 (.move (.c (.s (.bool true))))]
def R75_21:LO:=[oM 78 15,q 79 (.bin .add (.t 78) (.c (.s (.int .i64 1)))),oM 15 79]
def aih:ACode:=
 (.seq (.seq (.regionE R75_18 [75,76] [77])
 (.cond (.t 77)
 .skip
 (.exit 1)))
 (.seq (.block 2
 (.seq (.regionE R75_19 [77,80,81,82,83,84] [85])
 (.cond (.t 85)
 (.seq (.regionE R75_20 [2,3,13,15,85] [12])
 .ret)
 .skip)))
 (.regionE R75_21 [78,79,85] [15])))
def aw8:ACode:=aih
def R75_22:LO:=[oM 86 2,q 87 (.bin .eql (.t 86) (.c (.s (.int .i64 0)))),oM 12 87]
def R75_23:LO:=[q 89 (.bin .eql (.t 30) (.c (.s (.int .u8 12)))),oM 88 89]
def R75_24:LO:=[q 16 (.move (.c (.s (.int .i64 0))))]
def R75_25:LO:=[oM 90 16,oF 91 7 14,oL 92 91,q 93 (.lenS .s (.t 92)),q 94 (.bin .lss (.t 90) (.t 93))]
def R75_26t2:LO:=[q 104 (.bin .lss (.t 103) (.c (.s (.int .i64 0))))]
def R75_26t1:LO:=⟨some 103,.call (.c (.fn 121 [] [])) [.t 97,.t 102],none⟩ :: R75_26t2
def R75_26p0:LO:=[q 97 (.load true 3 (.t 7)),oF 98 7 14,oL 99 98,oM 100 16,q 101 (.indexAddr 1 (.t 99) (.t 100)),oL 102 101]
def R75_26:LO:=R75_26p0 ++ R75_26t1
def R75_27:LO:=[q 12 (.move (.c (.s (.bool true))))]
def R75_28:LO:=[oM 95 16,q 96 (.bin .add (.t 95) (.c (.s (.int .i64 1)))),oM 16 96]
def aig:ACode:=
 (.seq (.seq (.regionE R75_25 [90,91,92,93] [94])
 (.cond (.t 94)
 .skip
 (.exit 3)))
 (.seq (.block 4
 (.seq (.region R75_26 [] [94,97,98,99,100,101,102,103])
 (.cond (.t 104)
 (.seq (.regionE R75_27 [7,14,16,104] [12])
 .ret)
 .skip)))
 (.regionE R75_28 [95,96,104] [16])))
def aw7:ACode:=aig
def R75_29:LO:=[q 106 (.bin .eql (.t 30) (.c (.s (.int .u8 13)))),oM 105 106]
def R75_30t5:LO:=[qg 120 (.bin .lss (.t 119) (.c (.s (.int .i64 0)))) 115 true,q 121 (.pick (.t 115) (.t 120) (.c (.s (.bool false)))),oM 12 121]
def R75_30t4:LO:=⟨some 119,.call (.c (.fn 72 [] [])) [.t 116,.t 118],some (115,true)⟩ :: R75_30t5
def R75_30t3:LO:=⟨some 118,.load false 1 (.t 117),some (115,true)⟩ :: R75_30t4
def R75_30t2:LO:=⟨some 117,.fieldAddr 5 (.t 14),some (115,true)⟩ :: R75_30t3
def R75_30t1:LO:=⟨some 116,.load true 1 (.t 6),some (115,true)⟩ :: R75_30t2
def R75_30p0:LO:=[oF 107 0 14,oL 108 107,q 109 (.bin .eql (.t 108) (.c (.s (.int .u8 10)))),oM 110 109,gF 111 0 14 110 false,gL 112 111 110 false,qg 113 (.bin .eql (.t 112) (.c (.s (.int .u8 4)))) 110 false,q 114 (.pick (.t 110) (.c (.s (.bool true))) (.t 113)),oM 115 114]
def R75_30:LO:=R75_30p0 ++ R75_30t1
def R75_31:LO:=[q 123 (.bin .eql (.t 30) (.c (.s (.int .u8 14)))),oM 122 123]
def R75_32t2:LO:=[oM 17 127]
def R75_32t1:LO:=⟨some 127,.call (.c (.fn 72 [] [])) [.t 124,.t 126],none⟩ :: R75_32t2
def R75_32p0:LO:=[q 124 (.load true 1 (.t 6)),oF 125 5 14,oL 126 125]
def R75_32:LO:=R75_32p0 ++ R75_32t1
def R75_33:LO:=[oF 128 0 14,oL 129 128,q 130 (.bin .eql (.t 129) (.c (.s (.int .u8 10)))),oM 131 130,gM 132 17 131 true,qg 133 (.bin .geq (.t 132) (.c (.s (.int .i64 0)))) 131 true,q 134 (.pick (.t 131) (.t 133) (.c (.s (.bool false)))),oM 135 134,gF 136 0 6 135 true,gL 137 136 135 true,gM 138 17 135 true,qg 139 (.indexAddr 3 (.t 137) (.t 138)) 135 true,gF 140 1 139 135 true,gL 141 140 135 true,qg 142 (.lenS .s (.t 141)) 135 true,gF 143 6 14 135 true,gL 144 143 135 true,qg 145 (.lenS .s (.t 144)) 135 true,qg 146 (.bin .neq (.t 142) (.t 145)) 135 true,q 147 (.pick (.t 135) (.t 146) (.c (.s (.bool false)))),oM 12 147]
def R75_34:LO:=[q 149 (.bin .eql (.t 30) (.c (.s (.int .u8 15)))),oM 148 149]
def R75_35t7:LO:=[qg 160 (.bin .gtr (.t 159) (.c (.s (.int .i64 0)))) 153 true,q 161 (.pick (.t 153) (.t 160) (.c (.s (.bool false)))),oM 12 161]
def R75_35t6:LO:=⟨some 159,.call (.c (.fn 125 [] [])) [.t 154,.t 156,.t 157,.t 158],some (153,true)⟩ :: R75_35t7
def R75_35t5:LO:=⟨some 158,.move (.t 3),some (153,true)⟩ :: R75_35t6
def R75_35t4:LO:=⟨some 157,.move (.t 2),some (153,true)⟩ :: R75_35t5
def R75_35t3:LO:=⟨some 156,.load false 1 (.t 155),some (153,true)⟩ :: R75_35t4
def R75_35t2:LO:=⟨some 155,.fieldAddr 1 (.t 14),some (153,true)⟩ :: R75_35t3
def R75_35t1:LO:=⟨some 154,.load true 3 (.t 7),some (153,true)⟩ :: R75_35t2
def R75_35p0:LO:=[oF 150 1 14,oL 151 150,q 152 (.bin .neq (.t 151) (.c (.s (.string ⟨#[]⟩)))),oM 153 152]
def R75_35:LO:=R75_35p0 ++ R75_35t1
def R75_36:LO:=[q 163 (.bin .eql (.t 30) (.c (.s (.int .u8 16)))),oM 162 163]
def R75_37t2:LO:=[oM 18 165]
def R75_37t1:LO:=⟨some 165,.call (.c (.fn 126 [] [])) [.t 164],none⟩ :: R75_37t2
def R75_37p0:LO:=[q 164 (.load true 8 (.t 14))]
def R75_37:LO:=R75_37p0 ++ R75_37t1
def R75_38:LO:=[q 19 (.move (.c (.s (.int .i64 0))))]
def R75_39:LO:=[oM 166 19,oM 167 18,q 168 (.lenS .s (.t 167)),q 169 (.bin .lss (.t 166) (.t 168))]
def R75_40t2:LO:=[q 181 (.bin .eql (.t 180) (.c (.s (.int .i64 0))))]
def R75_40t1:LO:=⟨some 180,.call (.c (.fn 125 [] [])) [.t 172,.t 176,.t 179,.c (.s (.int .i64 0))],none⟩ :: R75_40t2
def R75_40p0:LO:=[q 172 (.load true 3 (.t 7)),oM 173 18,oM 174 19,q 175 (.indexAddr 1 (.t 173) (.t 174)),oL 176 175,oF 177 2 7,oL 178 177,q 179 (.lenS .s (.t 178))]
def R75_40:LO:=R75_40p0 ++ R75_40t1
def R75_41:LO:=[q 12 (.move (.c (.s (.bool true))))]
def R75_42:LO:=[oM 170 19,q 171 (.bin .add (.t 170) (.c (.s (.int .i64 1)))),oM 19 171]
def aif:ACode:=
 (.seq (.seq (.regionE R75_39 [166,167,168] [169])
 (.cond (.t 169)
 .skip
 (.exit 5)))
 (.seq (.block 6
 (.seq (.region R75_40 [] [169,172,173,174,175,176,177,178,179,180])
 (.cond (.t 181)
 (.seq (.regionE R75_41 [7,18,19,181] [12])
 .ret)
 .skip)))
 (.regionE R75_42 [170,171,181] [19])))
def aw6:ACode:=aif
def R75_43:LO:=[q 12 (.move (.c (.s (.bool false))))]
def alh:ACFun:={ ntmps:=182,results:=[.tmp 12],body:=
 (.seq (.region R75_0 [] K75_0)
 (.seq (.regionE R75_1 [20,21,22,23,24,25] [13])
 (.seq (.region R75_2 [] [26,27,28,29])
 (.seq (.seq (.regionE R75_3 [5] [30])
 (.block 0
 (.seq (.regionE R75_4 [32] [31])
 (.cond (.t 31)
 (.seq (.region R75_5 [] [2,3,4,6,7,13,14,30,31,33,34])
 .ret)
 (.seq (.regionE R75_6 [31,36] [35])
 (.cond (.t 35)
 (.seq (.regionE R75_7 [2,3,4,6,7,13,14,30,35,37,38,39,40,41,42,43,44,45,46,47,48,49,50] [12])
 .ret)
 (.seq (.regionE R75_8 [35,52] [51])
 (.cond (.t 51)
 (.seq (.regionE R75_9 [2,3,4,6,7,13,14,30,51,53,54] [12])
 .ret)
 (.seq (.regionE R75_10 [4,51,56] [55])
 (.cond (.t 55)
 (.seq (.region R75_11 [] [2,3,6,7,13,14,30,55,57,58])
 .ret)
 (.seq (.regionE R75_12 [55,60] [59])
 (.cond (.t 59)
 (.seq (.region R75_13 [] [2,3,6,7,13,14,30,59,61,62,63,64,65,66,67,68,69])
 .ret)
 (.seq (.regionE R75_14 [59,71] [70])
 (.cond (.t 70)
 (.seq (.seq (.regionE R75_15 [6,7,14,30,70,72,73] [74])
 (.cond (.t 74)
 (.seq (.regionE R75_16 [2,3,13,74] [12])
 .ret)
 .skip))
 (.seq (.seq (.regionE R75_17 [74] [15])
 (.block 1
 (.loop [] aw8)))
 (.seq (.regionE R75_22 [2,3,13,15,77,86,87] [12])
 .ret)))
 (.seq (.regionE R75_23 [13,70,89] [88])
 (.cond (.t 88)
 (.seq (.regionE R75_24 [2,3,6,30,88] [16])
 (.block 3
 (.loop [] aw7)))
 (.seq (.regionE R75_29 [88,106] [105])
 (.cond (.t 105)
 (.seq (.region R75_30 [] [2,3,6,7,14,30,105,107,108,109,110,111,112,113,114,115,116,117,118,119,120,121])
 .ret)
 (.seq (.regionE R75_31 [105,123] [122])
 (.cond (.t 122)
 (.seq (.region R75_32 [] [2,3,7,30,122,124,125,126,127])
 (.seq (.regionE R75_33 [6,14,17,128,129,130,131,132,133,134,135,136,137,138,139,140,141,142,143,144,145,146,147] [12])
 .ret))
 (.seq (.regionE R75_34 [6,122,149] [148])
 (.cond (.t 148)
 (.seq (.region R75_35 [] [2,3,7,14,30,148,150,151,152,153,154,155,156,157,158,159,160,161])
 .ret)
 (.seq (.regionE R75_36 [2,3,30,148,163] [162])
 (.cond (.t 162)
 (.seq (.region R75_37 [] [14,162,164,165])
 (.seq (.regionE R75_38 [] [19])
 (.block 5
 (.loop [] aw6))))
 .skip))))))))))))))))))))))))
 (.seq (.regionE R75_43 [7,14,16,18,19,94,162,169] [12])
 .ret))))) }
theorem alg:l9 (List.range' 6 (alh.ntmps - 6)) alh.body=true:=by kernel_rfl
abbrev avu:Nat:=76
def K76_0:List Nat:=List.range' 1 18
theorem aup:y5 K76_0 (si 19 [] 1)=[]:=by kernel_rfl
def R76_0:LO:=[q 2 (.move (.c (.s (.string ⟨#[]⟩))))]
def R76_1:LO:=[oM 3 0,q 4 (.bin .lss (.t 3) (.c (.s (.int .i64 10))))]
def R76_2:LO:=[oM 5 0,oM 6 0,q 7 (.bin .add (.t 6) (.c (.s (.int .i64 1)))),q 8 (.subStr (.c (.s (.string ⟨#[48,49,50,51,52,53,54,55,56,57]⟩))) (some (.t 5)) (some (.t 7))),oM 2 8]
def R76_3t2:LO:=[oM 12 0,q 13 (.bin .rem (.t 12) (.c (.s (.int .i64 10)))),oM 14 0,q 15 (.bin .rem (.t 14) (.c (.s (.int .i64 10)))),q 16 (.bin .add (.t 15) (.c (.s (.int .i64 1)))),q 17 (.subStr (.c (.s (.string ⟨#[48,49,50,51,52,53,54,55,56,57]⟩))) (some (.t 13)) (some (.t 16))),q 18 (.bin .add (.t 11) (.t 17)),oM 2 18]
def R76_3t1:LO:=⟨some 11,.call (.c (.fn 76 [] [])) [.t 10],none⟩ :: R76_3t2
def R76_3p0:LO:=[oM 9 0,q 10 (.bin .quo (.t 9) (.c (.s (.int .i64 10))))]
def R76_3:LO:=R76_3p0 ++ R76_3t1
def ag0:ACFun:={ ntmps:=19,results:=[.tmp 2],body:=
 (.seq (.regionE R76_0 K76_0 [])
 (.seq (.seq (.regionE R76_1 [3] [4])
 (.cond (.t 4)
 (.seq (.regionE R76_2 [0,4,5,6,7,8] [2])
 .ret)
 .skip))
 (.seq (.region R76_3 [] [0,4,9,10,11,12,13,14,15,16,17,18])
 .ret))) }
abbrev axo:Nat:=120
def K120_0:List Nat:=List.range' 1 57
theorem art:y5 K120_0 (si 58 [] 1)=[]:=by kernel_rfl
def R120_0:LO:=[q 2 (.move (.c (.s (.bool false))))]
def R120_1:LO:=[oM 5 0,q 6 (.lenS .p (.t 5)),q 7 (.bin .eql (.t 6) (.c (.s (.int .i64 0)))),oM 8 7,gM 9 0 8 false,qg 10 (.lenS .p (.t 9)) 8 false,qg 11 (.bin .gtr (.t 10) (.c (.s (.int .i64 64)))) 8 false,q 12 (.pick (.t 8) (.c (.s (.bool true))) (.t 11)),oM 13 12,gM 14 0 13 false,qg 15 (.bin .eql (.t 14) (.c (.s (.string ⟨#[110,117,108,108]⟩)))) 13 false,q 16 (.pick (.t 13) (.c (.s (.bool true))) (.t 15))]
def R120_2:LO:=[q 2 (.move (.c (.s (.bool false))))]
def R120_3:LO:=[q 3 (.move (.c (.s (.int .i64 0))))]
def R120_4:LO:=[oM 17 3,oM 18 0,q 19 (.lenS .p (.t 18)),q 20 (.bin .lss (.t 17) (.t 19))]
def R120_5:LO:=[oM 23 0,oM 24 3,q 25 (.indexStr (.t 23) (.t 24)),oM 4 25]
def R120_6:LO:=[oM 26 4,q 27 (.bin .geq (.t 26) (.c (.s (.int .u8 65)))),oM 28 27,gM 29 4 28 true,qg 30 (.bin .leq (.t 29) (.c (.s (.int .u8 90)))) 28 true,q 31 (.pick (.t 28) (.t 30) (.c (.s (.bool false)))),oM 32 31,gM 33 4 32 false,qg 34 (.bin .geq (.t 33) (.c (.s (.int .u8 97)))) 32 false,gM 35 34 32 false,gM 36 4 35 true,qg 37 (.bin .leq (.t 36) (.c (.s (.int .u8 122)))) 35 true,qg 38 (.pick (.t 35) (.t 37) (.c (.s (.bool false)))) 32 false,q 39 (.pick (.t 32) (.c (.s (.bool true))) (.t 38)),oM 40 39,gM 41 4 40 false,qg 42 (.bin .eql (.t 41) (.c (.s (.int .u8 95)))) 40 false,q 43 (.pick (.t 40) (.c (.s (.bool true))) (.t 42))]
def R120_7:LO:=[oM 44 3,q 45 (.bin .gtr (.t 44) (.c (.s (.int .i64 0)))),oM 46 45,gM 47 4 46 true,qg 48 (.bin .geq (.t 47) (.c (.s (.int .u8 48)))) 46 true,gM 49 48 46 true,gM 50 4 49 true,qg 51 (.bin .leq (.t 50) (.c (.s (.int .u8 57)))) 49 true,qg 52 (.pick (.t 49) (.t 51) (.c (.s (.bool false)))) 46 true,gM 53 52 46 true,gM 54 4 53 false,qg 55 (.bin .eql (.t 54) (.c (.s (.int .u8 46)))) 53 false,qg 56 (.pick (.t 53) (.c (.s (.bool true))) (.t 55)) 46 true,q 57 (.pick (.t 46) (.t 56) (.c (.s (.bool false))))]
def R120_8:LO:=[q 2 (.move (.c (.s (.bool false))))]
def R120_9:LO:=[oM 21 3,q 22 (.bin .add (.t 21) (.c (.s (.int .i64 1)))),oM 3 22]
def agf:ACode:=
 (.seq (.seq (.regionE R120_4 [17,18,19] [20])
 (.cond (.t 20)
 .skip
 (.exit 0)))
 (.seq (.block 1
 (.seq (.regionE R120_5 [20,23,24,25] [4])
 (.seq (.seq (.regionE R120_6 [26,27,28,29,30,31,32,33,34,35,36,37,38,39,40,41,42] [43])
 (.cond (.t 43)
 (.exit 1)
 .skip))
 (.seq (.seq (.regionE R120_7 [4,43,44,45,46,47,48,49,50,51,52,53,54,55,56] [57])
 (.cond (.t 57)
 (.exit 1)
 .skip))
 (.seq (.regionE R120_8 [0,3,57] [2])
 .ret)))))
 (.regionE R120_9 [4,21,22,43,57] [3])))
def als:ACode:=agf
def R120_10:LO:=[q 2 (.move (.c (.s (.bool true))))]
def afy:ACFun:={ ntmps:=58,results:=[.tmp 2],body:=
 (.seq (.regionE R120_0 K120_0 [])
 (.seq (.seq (.regionE R120_1 [5,6,7,8,9,10,11,12,13,14,15] [16])
 (.cond (.t 16)
 (.seq (.regionE R120_2 [0,16] [2])
 .ret)
 .skip))
 (.seq (.seq (.regionE R120_3 [16] [3])
 (.block 0
 (.loop [] als)))
 (.seq (.regionE R120_10 [0,3,20] [2])
 .ret)))) }
abbrev a2v:Nat:=122
def K122_0:List Nat:=[0] ++ List.range' 2 101
def A122_0_0:=hQ K122_0 0
def A122_0_1:=hK K122_0 1
def A122_0_2:=hQ K122_0 2
def R122_0t1:LO:=[q 2 (.move (.c (.s (.bool false))))]
def R122_0p0:LO:=[⟨some 1,.box (.t 0),none⟩]
def R122_0:LO:=R122_0p0 ++ R122_0t1
def K122_0p0:List Nat:=[0] ++ List.range' 2 101
def A122_0p0_0:=hQ K122_0p0 0
def A122_0p0_1:=hK K122_0p0 1
def A122_0p0_2:=hQ K122_0p0 2
theorem X122_0 (call:ni) (it:zt) (base:Nat) (f:List V) (H:Heap):evC call it base (.region R122_0 [] K122_0) f H=abl call it base (.region R122_0t1 [] K122_0) (akk [] R122_0p0 K122_0p0 (mi call base [⟨some 1,.box (.t 0),none⟩] f H)):=(abu call it base R122_0p0 R122_0t1 (kc:=K122_0p0) (by kernel_rfl) f H).trans (by rw [zh];rfl)
def T122_0t1:=hT R122_0t1 K122_0 [] 3 [] [] [.cc (.s (.bool false))]
def X122_0t1:=hL R122_0t1 K122_0 []
def R122_1t2:LO:=[oM 3 8]
def R122_1t1:LO:=⟨some 8,.call (.c (.fn 146 [] [])) [.t 7],none⟩ :: R122_1t2
def R122_1p0:LO:=[oF 6 0 1,oL 7 6]
def R122_1:LO:=R122_1p0 ++ R122_1t1
def T122_1p0:=hT R122_1p0 [6] [7] 8 [] [(7,eL (eF 0 (.t 1)))] [sb [0],sb []]
def X122_1:=hS R122_1 [6] [7] [6,7,8]
def X122_1t1:=hP R122_1t1 [7] [6,7,8]
def T122_1t2:=hT R122_1t2 [6,7,8] [3] 4 [] [(3,.t 8)] [.tt 8]
def X122_1t2:=hL R122_1t2 [6,7,8] [3]
def R122_2t42:LO:=[qg 64 (.un .not (.t 63)) 60 true,qg 65 (.pick (.t 60) (.t 64) (.c (.s (.bool false)))) 52 false,q 66 (.pick (.t 52) (.c (.s (.bool true))) (.t 65))]
def R122_2t41:LO:=⟨some 63,.call (.c (.fn 148 [] [])) [.t 62],some (60,true)⟩ :: R122_2t42
def R122_2t40:LO:=⟨some 62,.load false 1 (.t 61),some (60,true)⟩ :: R122_2t41
def R122_2t39:LO:=⟨some 61,.fieldAddr 3 (.t 1),some (60,true)⟩ :: R122_2t40
def R122_2t38:LO:=⟨some 60,.move (.t 59),some (52,false)⟩ :: R122_2t39
def R122_2t37:LO:=⟨some 59,.pick (.t 55) (.t 58) (.c (.s (.bool false))),some (52,false)⟩ :: R122_2t38
def R122_2t36:LO:=⟨some 58,.bin .neq (.t 57) (.c (.s (.string ⟨#[]⟩))),some (55,true)⟩ :: R122_2t37
def R122_2t35:LO:=⟨some 57,.load false 1 (.t 56),some (55,true)⟩ :: R122_2t36
def R122_2t34:LO:=⟨some 56,.fieldAddr 3 (.t 1),some (55,true)⟩ :: R122_2t35
def R122_2t33:LO:=⟨some 55,.move (.t 54),some (52,false)⟩ :: R122_2t34
def R122_2t32:LO:=⟨some 54,.call (.c (.fn 147 [] [])) [.t 53,.c (.s (.int .u8 98))],some (52,false)⟩ :: R122_2t33
def R122_2t31:LO:=⟨some 53,.move (.t 3),some (52,false)⟩ :: R122_2t32
def R122_2p30:LO:=[qg 49 (.un .not (.t 48)) 45 true,qg 50 (.pick (.t 45) (.t 49) (.c (.s (.bool false)))) 37 false,q 51 (.pick (.t 37) (.c (.s (.bool true))) (.t 50)),oM 52 51]
def R122_2t30:LO:=R122_2p30 ++ R122_2t31
def R122_2t29:LO:=⟨some 48,.call (.c (.fn 148 [] [])) [.t 47],some (45,true)⟩ :: R122_2t30
def R122_2t28:LO:=⟨some 47,.load false 1 (.t 46),some (45,true)⟩ :: R122_2t29
def R122_2t27:LO:=⟨some 46,.fieldAddr 2 (.t 1),some (45,true)⟩ :: R122_2t28
def R122_2t26:LO:=⟨some 45,.move (.t 44),some (37,false)⟩ :: R122_2t27
def R122_2t25:LO:=⟨some 44,.pick (.t 40) (.t 43) (.c (.s (.bool false))),some (37,false)⟩ :: R122_2t26
def R122_2t24:LO:=⟨some 43,.bin .neq (.t 42) (.c (.s (.string ⟨#[]⟩))),some (40,true)⟩ :: R122_2t25
def R122_2t23:LO:=⟨some 42,.load false 1 (.t 41),some (40,true)⟩ :: R122_2t24
def R122_2t22:LO:=⟨some 41,.fieldAddr 2 (.t 1),some (40,true)⟩ :: R122_2t23
def R122_2t21:LO:=⟨some 40,.move (.t 39),some (37,false)⟩ :: R122_2t22
def R122_2t20:LO:=⟨some 39,.call (.c (.fn 147 [] [])) [.t 38,.c (.s (.int .u8 97))],some (37,false)⟩ :: R122_2t21
def R122_2t19:LO:=⟨some 38,.move (.t 3),some (37,false)⟩ :: R122_2t20
def R122_2p18:LO:=[qg 34 (.un .not (.t 33)) 30 true,qg 35 (.pick (.t 30) (.t 34) (.c (.s (.bool false)))) 22 false,q 36 (.pick (.t 22) (.c (.s (.bool true))) (.t 35)),oM 37 36]
def R122_2t18:LO:=R122_2p18 ++ R122_2t19
def R122_2t17:LO:=⟨some 33,.call (.c (.fn 120 [] [])) [.t 32],some (30,true)⟩ :: R122_2t18
def R122_2t16:LO:=⟨some 32,.load false 1 (.t 31),some (30,true)⟩ :: R122_2t17
def R122_2t15:LO:=⟨some 31,.fieldAddr 5 (.t 1),some (30,true)⟩ :: R122_2t16
def R122_2t14:LO:=⟨some 30,.move (.t 29),some (22,false)⟩ :: R122_2t15
def R122_2t13:LO:=⟨some 29,.pick (.t 25) (.t 28) (.c (.s (.bool false))),some (22,false)⟩ :: R122_2t14
def R122_2t12:LO:=⟨some 28,.bin .neq (.t 27) (.c (.s (.string ⟨#[]⟩))),some (25,true)⟩ :: R122_2t13
def R122_2t11:LO:=⟨some 27,.load false 1 (.t 26),some (25,true)⟩ :: R122_2t12
def R122_2t10:LO:=⟨some 26,.fieldAddr 5 (.t 1),some (25,true)⟩ :: R122_2t11
def R122_2t9:LO:=⟨some 25,.move (.t 24),some (22,false)⟩ :: R122_2t10
def R122_2t8:LO:=⟨some 24,.call (.c (.fn 147 [] [])) [.t 23,.c (.s (.int .u8 102))],some (22,false)⟩ :: R122_2t9
def R122_2t7:LO:=⟨some 23,.move (.t 3),some (22,false)⟩ :: R122_2t8
def R122_2p6:LO:=[qg 20 (.un .not (.t 19)) 16 true,q 21 (.pick (.t 16) (.t 20) (.c (.s (.bool false)))),oM 22 21]
def R122_2t6:LO:=R122_2p6 ++ R122_2t7
def R122_2t5:LO:=⟨some 19,.call (.c (.fn 120 [] [])) [.t 18],some (16,true)⟩ :: R122_2t6
def R122_2t4:LO:=⟨some 18,.load false 1 (.t 17),some (16,true)⟩ :: R122_2t5
def R122_2t3:LO:=⟨some 17,.fieldAddr 1 (.t 1),some (16,true)⟩ :: R122_2t4
def R122_2p2:LO:=[oM 11 10,gF 12 1 1 11 true,gL 13 12 11 true,qg 14 (.bin .neq (.t 13) (.c (.s (.string ⟨#[]⟩)))) 11 true,q 15 (.pick (.t 11) (.t 14) (.c (.s (.bool false)))),oM 16 15]
def R122_2t2:LO:=R122_2p2 ++ R122_2t3
def R122_2t1:LO:=⟨some 10,.call (.c (.fn 147 [] [])) [.t 9,.c (.s (.int .u8 100))],none⟩ :: R122_2t2
def R122_2p0:LO:=[oM 9 3]
def R122_2:LO:=R122_2p0 ++ R122_2t1
def R122_3:LO:=[q 2 (.move (.c (.s (.bool true))))]
def T122_3:=hT R122_3 [1,3,66] [2] 3 [] [(2,.c (.s (.bool true)))] [.cc (.s (.bool true))]
def R122_4:LO:=[q 4 (.move (.c (.s (.int .i64 0))))]
def T122_4:=hT R122_4 [66] [4] 5 [] [(4,.c (.s (.int .i64 0)))] [.cc (.s (.int .i64 0))]
def R122_5:LO:=[oM 67 4,oF 68 6 1,oL 69 68,q 70 (.lenS .s (.t 69)),q 71 (.bin .lss (.t 67) (.t 70))]
def T122_5:=hT R122_5 [67,68,69,70] [71] 72 [] [(71,.op (.bin .lss (.t 0) (.t 1)) [.t 4,.op (.lenS .s (.t 0)) [eL (eF 6 (.t 1))]])] [.tt 4,sb [1,0,0],sb [1,0],sb [1],sb []]
def R122_6t9:LO:=[qg 83 (.un .not (.t 82)) 76 true,q 84 (.pick (.t 76) (.t 83) (.c (.s (.bool false))))]
def R122_6t8:LO:=⟨some 82,.call (.c (.fn 148 [] [])) [.t 81],some (76,true)⟩ :: R122_6t9
def R122_6t7:LO:=⟨some 81,.load false 1 (.t 80),some (76,true)⟩ :: R122_6t8
def R122_6t6:LO:=⟨some 80,.indexAddr 1 (.t 78) (.t 79),some (76,true)⟩ :: R122_6t7
def R122_6t5:LO:=⟨some 79,.move (.t 4),some (76,true)⟩ :: R122_6t6
def R122_6t4:LO:=⟨some 78,.load false 1 (.t 77),some (76,true)⟩ :: R122_6t5
def R122_6t3:LO:=⟨some 77,.fieldAddr 6 (.t 1),some (76,true)⟩ :: R122_6t4
def R122_6p2:LO:=[oM 76 75]
def R122_6t2:LO:=R122_6p2 ++ R122_6t3
def R122_6t1:LO:=⟨some 75,.call (.c (.fn 147 [] [])) [.t 74,.c (.s (.int .u8 103))],none⟩ :: R122_6t2
def R122_6p0:LO:=[oM 74 3]
def R122_6:LO:=R122_6p0 ++ R122_6t1
def T122_6p0:=hT R122_6p0 [71] [74] 75 [] [(74,.t 3)] [.tt 3]
def X122_6:=hS R122_6 [71] [74] [71,74,75,76,77,78,79,80,81,82,83]
def X122_6t1:=hP R122_6t1 [74] [71,74,75,76,77,78,79,80,81,82,83]
def T122_6p2:=hT R122_6p2 [75] [76] 77 [] [(76,.t 75)] [.tt 75]
def X122_6t2:=hS R122_6t2 [75] [76] [71,74,75,76,77,78,79,80,81,82,83]
def X122_6t3:=hP R122_6t3 [] [71,74,75,76,77,78,79,80,81,82,83]
def X122_6t4:=hP R122_6t4 [77] [71,74,75,76,77,78,79,80,81,82,83]
def X122_6t5:=hP R122_6t5 [] [71,74,75,76,77,78,79,80,81,82,83]
def X122_6t6:=hP R122_6t6 [78,79] [71,74,75,76,77,78,79,80,81,82,83]
def X122_6t7:=hP R122_6t7 [80] [71,74,75,76,77,78,79,80,81,82,83]
def X122_6t8:=hP R122_6t8 [81] [71,74,75,76,77,78,79,80,81,82,83]
def T122_6t9:=hT R122_6t9 [71,74,75,76,77,78,79,80,81,82,83] [84] 85 [] [(84,.pick (.t 76) (.op (.un .not (.t 0)) [.t 82]) (.c (.s (.bool false))))] [.sub 0 [1] [76],sb []]
def X122_6t9:=hL R122_6t9 [71,74,75,76,77,78,79,80,81,82,83] [84]
def R122_7:LO:=[q 2 (.move (.c (.s (.bool true))))]
def T122_7:=hT R122_7 [1,3,4,84] [2] 3 [] [(2,.c (.s (.bool true)))] [.cc (.s (.bool true))]
def R122_8:LO:=[oM 72 4,q 73 (.bin .add (.t 72) (.c (.s (.int .i64 1)))),oM 4 73]
def T122_8:=hT R122_8 [72,73,84] [4] 74 [] [(4,.op (.bin .add (.t 0) (.c (.s (.int .i64 1)))) [.t 4,.c (.s (.int .i64 1))])] [.tt 4,sb [],sb []]
def aam:ACode:=
 (.seq (.seq (.regionE R122_5 [67,68,69,70] [71])
 (.cond (.t 71)
 .skip
 (.exit 0)))
 (.seq (.block 1
 (.seq (.region R122_6 [] [71,74,75,76,77,78,79,80,81,82,83])
 (.cond (.t 84)
 (.seq (.regionE R122_7 [1,3,4,84] [2])
 .ret)
 .skip)))
 (.regionE R122_8 [72,73,84] [4])))
def ahe:ACode:=aam
def abn:=hE ahe aam
def R122_9:LO:=[q 5 (.move (.c (.s (.int .i64 0))))]
def T122_9:=hT R122_9 [4,71] [5] 6 [] [(5,.c (.s (.int .i64 0)))] [.cc (.s (.int .i64 0))]
def R122_10:LO:=[oM 85 5,oF 86 7 1,oL 87 86,q 88 (.lenS .s (.t 87)),q 89 (.bin .lss (.t 85) (.t 88))]
def T122_10:=hT R122_10 [85,86,87,88] [89] 90 [] [(89,.op (.bin .lss (.t 0) (.t 1)) [.t 5,.op (.lenS .s (.t 0)) [eL (eF 7 (.t 1))]])] [.tt 5,sb [1,0,0],sb [1,0],sb [1],sb []]
def R122_11t9:LO:=[qg 101 (.un .not (.t 100)) 94 true,q 102 (.pick (.t 94) (.t 101) (.c (.s (.bool false))))]
def R122_11t8:LO:=⟨some 100,.call (.c (.fn 120 [] [])) [.t 99],some (94,true)⟩ :: R122_11t9
def R122_11t7:LO:=⟨some 99,.load false 1 (.t 98),some (94,true)⟩ :: R122_11t8
def R122_11t6:LO:=⟨some 98,.indexAddr 1 (.t 96) (.t 97),some (94,true)⟩ :: R122_11t7
def R122_11t5:LO:=⟨some 97,.move (.t 5),some (94,true)⟩ :: R122_11t6
def R122_11t4:LO:=⟨some 96,.load false 1 (.t 95),some (94,true)⟩ :: R122_11t5
def R122_11t3:LO:=⟨some 95,.fieldAddr 7 (.t 1),some (94,true)⟩ :: R122_11t4
def R122_11p2:LO:=[oM 94 93]
def R122_11t2:LO:=R122_11p2 ++ R122_11t3
def R122_11t1:LO:=⟨some 93,.call (.c (.fn 147 [] [])) [.t 92,.c (.s (.int .u8 108))],none⟩ :: R122_11t2
def R122_11p0:LO:=[oM 92 3]
def R122_11:LO:=R122_11p0 ++ R122_11t1
def T122_11p0:=hT R122_11p0 [89] [92] 93 [] [(92,.t 3)] [.tt 3]
def X122_11:=hS R122_11 [89] [92] [89,92,93,94,95,96,97,98,99,100,101]
def X122_11t1:=hP R122_11t1 [92] [89,92,93,94,95,96,97,98,99,100,101]
def T122_11p2:=hT R122_11p2 [93] [94] 95 [] [(94,.t 93)] [.tt 93]
def X122_11t2:=hS R122_11t2 [93] [94] [89,92,93,94,95,96,97,98,99,100,101]
def X122_11t3:=hP R122_11t3 [] [89,92,93,94,95,96,97,98,99,100,101]
def X122_11t4:=hP R122_11t4 [95] [89,92,93,94,95,96,97,98,99,100,101]
def X122_11t5:=hP R122_11t5 [] [89,92,93,94,95,96,97,98,99,100,101]
def X122_11t6:=hP R122_11t6 [96,97] [89,92,93,94,95,96,97,98,99,100,101]
def X122_11t7:=hP R122_11t7 [98] [89,92,93,94,95,96,97,98,99,100,101]
def X122_11t8:=hP R122_11t8 [99] [89,92,93,94,95,96,97,98,99,100,101]
def T122_11t9:=hT R122_11t9 [89,92,93,94,95,96,97,98,99,100,101] [102] 103 [] [(102,.pick (.t 94) (.op (.un .not (.t 0)) [.t 100]) (.c (.s (.bool false))))] [.sub 0 [1] [94],sb []]
def X122_11t9:=hL R122_11t9 [89,92,93,94,95,96,97,98,99,100,101] [102]
def R122_12:LO:=[q 2 (.move (.c (.s (.bool true))))]
def T122_12:=hT R122_12 [1,3,5,102] [2] 3 [] [(2,.c (.s (.bool true)))] [.cc (.s (.bool true))]
def R122_13:LO:=[oM 90 5,q 91 (.bin .add (.t 90) (.c (.s (.int .i64 1)))),oM 5 91]
def T122_13:=hT R122_13 [90,91,102] [5] 92 [] [(5,.op (.bin .add (.t 0) (.c (.s (.int .i64 1)))) [.t 5,.c (.s (.int .i64 1))])] [.tt 5,sb [],sb []]
def aal:ACode:=
 (.seq (.seq (.regionE R122_10 [85,86,87,88] [89])
 (.cond (.t 89)
 .skip
 (.exit 2)))
 (.seq (.block 3
 (.seq (.region R122_11 [] [89,92,93,94,95,96,97,98,99,100,101])
 (.cond (.t 102)
 (.seq (.regionE R122_12 [1,3,5,102] [2])
 .ret)
 .skip)))
 (.regionE R122_13 [90,91,102] [5])))
def ahd:ACode:=aal
def abm:=hE ahd aal
def R122_14:LO:=[q 2 (.move (.c (.s (.bool false))))]
def T122_14:=hT R122_14 [1,3,5,89] [2] 3 [] [(2,.c (.s (.bool false)))] [.cc (.s (.bool false))]
def adf:ACFun:={ ntmps:=103,results:=[.tmp 2],body:=
 (.seq (.region R122_0 [] K122_0)
 (.seq (.region R122_1 [] [6,7,8])
 (.seq (.seq (.region R122_2 [] [9,10,11,12,13,14,15,16,17,18,19,20,21,22,23,24,25,26,27,28,29,30,31,32,33,34,35,36,37,38,39,40,41,42,43,44,45,46,47,48,49,50,51,52,53,54,55,56,57,58,59,60,61,62,63,64,65])
 (.cond (.t 66)
 (.seq (.regionE R122_3 [1,3,66] [2])
 .ret)
 .skip))
 (.seq (.seq (.regionE R122_4 [66] [4])
 (.block 0
 (.loop [] ahe)))
 (.seq (.seq (.regionE R122_9 [4,71] [5])
 (.block 2
 (.loop [] ahd)))
 (.seq (.regionE R122_14 [1,3,5,89] [2])
 .ret)))))) }
theorem arq:l9 (List.range' 1 (adf.ntmps - 1)) adf.body=true:=by kernel_rfl
abbrev a2u:Nat:=123
def K123_0:List Nat:=[0] ++ List.range' 2 161
def A123_0_0:=hQ K123_0 0
def A123_0_1:=hK K123_0 1
def A123_0_2:=hQ K123_0 2
def R123_0t1:LO:=[q 2 (.move (.c (.s (.bool false))))]
def R123_0p0:LO:=[⟨some 1,.box (.t 0),none⟩]
def R123_0:LO:=R123_0p0 ++ R123_0t1
def K123_0p0:List Nat:=[0] ++ List.range' 2 161
def A123_0p0_0:=hQ K123_0p0 0
def A123_0p0_1:=hK K123_0p0 1
def A123_0p0_2:=hQ K123_0p0 2
theorem X123_0 (call:ni) (it:zt) (base:Nat) (f:List V) (H:Heap):evC call it base (.region R123_0 [] K123_0) f H=abl call it base (.region R123_0t1 [] K123_0) (akk [] R123_0p0 K123_0p0 (mi call base [⟨some 1,.box (.t 0),none⟩] f H)):=(abu call it base R123_0p0 R123_0t1 (kc:=K123_0p0) (by kernel_rfl) f H).trans (by rw [zh];rfl)
def T123_0t1:=hT R123_0t1 K123_0 [] 3 [] [] [.cc (.s (.bool false))]
def X123_0t1:=hL R123_0t1 K123_0 []
def R123_1t2:LO:=[oM 3 6]
def R123_1t1:LO:=⟨some 6,.call (.c (.fn 146 [] [])) [.t 5],none⟩ :: R123_1t2
def R123_1p0:LO:=[oF 4 0 1,oL 5 4]
def R123_1:LO:=R123_1p0 ++ R123_1t1
def T123_1p0:=hT R123_1p0 [4] [5] 6 [] [(5,eL (eF 0 (.t 1)))] [sb [0],sb []]
def X123_1:=hS R123_1 [4] [5] [4,5,6]
def X123_1t1:=hP R123_1t1 [5] [4,5,6]
def T123_1t2:=hT R123_1t2 [4,5,6] [3] 4 [] [(3,.t 6)] [.tt 6]
def X123_1t2:=hL R123_1t2 [4,5,6] [3]
def R123_2:LO:=[oM 7 3,q 8 (.bin .eql (.t 7) (.c (.s (.string ⟨#[]⟩))))]
def T123_2:=hT R123_2 [7] [8] 9 [] [(8,.op (.bin .eql (.t 0) (.c (.s (.string ⟨#[]⟩)))) [.t 3,.c (.s (.string ⟨#[]⟩))])] [.tt 3,sb []]
def R123_3:LO:=[q 2 (.move (.c (.s (.bool true))))]
def T123_3:=hT R123_3 [1,3,8] [2] 3 [] [(2,.c (.s (.bool true)))] [.cc (.s (.bool true))]
def R123_4t20:LO:=[qg 71 (.un .not (.t 70)) 68 false,gM 72 71 68 false,gF 73 7 1 72 true,gL 74 73 72 true,qg 75 (.lenS .s (.t 74)) 72 true,qg 76 (.bin .neq (.t 75) (.c (.s (.int .i64 0)))) 72 true,qg 77 (.pick (.t 72) (.t 76) (.c (.s (.bool false)))) 68 false,q 78 (.pick (.t 68) (.c (.s (.bool true))) (.t 77))]
def R123_4t19:LO:=⟨some 70,.call (.c (.fn 147 [] [])) [.t 69,.c (.s (.int .u8 108))],some (68,false)⟩ :: R123_4t20
def R123_4t18:LO:=⟨some 69,.move (.t 3),some (68,false)⟩ :: R123_4t19
def R123_4p17:LO:=[qg 60 (.un .not (.t 59)) 57 false,gM 61 60 57 false,gF 62 6 1 61 true,gL 63 62 61 true,qg 64 (.lenS .s (.t 63)) 61 true,qg 65 (.bin .neq (.t 64) (.c (.s (.int .i64 0)))) 61 true,qg 66 (.pick (.t 61) (.t 65) (.c (.s (.bool false)))) 57 false,q 67 (.pick (.t 57) (.c (.s (.bool true))) (.t 66)),oM 68 67]
def R123_4t17:LO:=R123_4p17 ++ R123_4t18
def R123_4t16:LO:=⟨some 59,.call (.c (.fn 147 [] [])) [.t 58,.c (.s (.int .u8 103))],some (57,false)⟩ :: R123_4t17
def R123_4t15:LO:=⟨some 58,.move (.t 3),some (57,false)⟩ :: R123_4t16
def R123_4p14:LO:=[qg 50 (.un .not (.t 49)) 47 false,gM 51 50 47 false,gF 52 5 1 51 true,gL 53 52 51 true,qg 54 (.bin .neq (.t 53) (.c (.s (.string ⟨#[]⟩)))) 51 true,qg 55 (.pick (.t 51) (.t 54) (.c (.s (.bool false)))) 47 false,q 56 (.pick (.t 47) (.c (.s (.bool true))) (.t 55)),oM 57 56]
def R123_4t14:LO:=R123_4p14 ++ R123_4t15
def R123_4t13:LO:=⟨some 49,.call (.c (.fn 147 [] [])) [.t 48,.c (.s (.int .u8 102))],some (47,false)⟩ :: R123_4t14
def R123_4t12:LO:=⟨some 48,.move (.t 3),some (47,false)⟩ :: R123_4t13
def R123_4p11:LO:=[qg 40 (.un .not (.t 39)) 37 false,gM 41 40 37 false,gF 42 4 1 41 true,gL 43 42 41 true,qg 44 (.bin .neq (.t 43) (.c (.s (.int .i64 0)))) 41 true,qg 45 (.pick (.t 41) (.t 44) (.c (.s (.bool false)))) 37 false,q 46 (.pick (.t 37) (.c (.s (.bool true))) (.t 45)),oM 47 46]
def R123_4t11:LO:=R123_4p11 ++ R123_4t12
def R123_4t10:LO:=⟨some 39,.call (.c (.fn 147 [] [])) [.t 38,.c (.s (.int .u8 110))],some (37,false)⟩ :: R123_4t11
def R123_4t9:LO:=⟨some 38,.move (.t 3),some (37,false)⟩ :: R123_4t10
def R123_4p8:LO:=[qg 30 (.un .not (.t 29)) 27 false,gM 31 30 27 false,gF 32 3 1 31 true,gL 33 32 31 true,qg 34 (.bin .neq (.t 33) (.c (.s (.string ⟨#[]⟩)))) 31 true,qg 35 (.pick (.t 31) (.t 34) (.c (.s (.bool false)))) 27 false,q 36 (.pick (.t 27) (.c (.s (.bool true))) (.t 35)),oM 37 36]
def R123_4t8:LO:=R123_4p8 ++ R123_4t9
def R123_4t7:LO:=⟨some 29,.call (.c (.fn 147 [] [])) [.t 28,.c (.s (.int .u8 98))],some (27,false)⟩ :: R123_4t8
def R123_4t6:LO:=⟨some 28,.move (.t 3),some (27,false)⟩ :: R123_4t7
def R123_4p5:LO:=[qg 20 (.un .not (.t 19)) 17 false,gM 21 20 17 false,gF 22 2 1 21 true,gL 23 22 21 true,qg 24 (.bin .neq (.t 23) (.c (.s (.string ⟨#[]⟩)))) 21 true,qg 25 (.pick (.t 21) (.t 24) (.c (.s (.bool false)))) 17 false,q 26 (.pick (.t 17) (.c (.s (.bool true))) (.t 25)),oM 27 26]
def R123_4t5:LO:=R123_4p5 ++ R123_4t6
def R123_4t4:LO:=⟨some 19,.call (.c (.fn 147 [] [])) [.t 18,.c (.s (.int .u8 97))],some (17,false)⟩ :: R123_4t5
def R123_4t3:LO:=⟨some 18,.move (.t 3),some (17,false)⟩ :: R123_4t4
def R123_4p2:LO:=[q 11 (.un .not (.t 10)),oM 12 11,gF 13 1 1 12 true,gL 14 13 12 true,qg 15 (.bin .neq (.t 14) (.c (.s (.string ⟨#[]⟩)))) 12 true,q 16 (.pick (.t 12) (.t 15) (.c (.s (.bool false)))),oM 17 16]
def R123_4t2:LO:=R123_4p2 ++ R123_4t3
def R123_4t1:LO:=⟨some 10,.call (.c (.fn 147 [] [])) [.t 9,.c (.s (.int .u8 100))],none⟩ :: R123_4t2
def R123_4p0:LO:=[oM 9 3]
def R123_4:LO:=R123_4p0 ++ R123_4t1
def T123_4p0:=hT R123_4p0 [8] [9] 10 [] [(9,.t 3)] [.tt 3]
def X123_4:=hS R123_4 [8] [9] [8,9,10,11,12,13,14,15,16,17,18,19,20,21,22,23,24,25,26,27,28,29,30,31,32,33,34,35,36,37,38,39,40,41,42,43,44,45,46,47,48,49,50,51,52,53,54,55,56,57,58,59,60,61,62,63,64,65,66,67,68,69,70,71,72,73,74,75,76,77]
def X123_4t1:=hP R123_4t1 [9] [8,9,10,11,12,13,14,15,16,17,18,19,20,21,22,23,24,25,26,27,28,29,30,31,32,33,34,35,36,37,38,39,40,41,42,43,44,45,46,47,48,49,50,51,52,53,54,55,56,57,58,59,60,61,62,63,64,65,66,67,68,69,70,71,72,73,74,75,76,77]
def T123_4p2:=hT R123_4p2 [10,11,12,13,14,15,16] [17] 18 [] [(17,.pick (.op (.un .not (.t 0)) [.t 10]) (.op (.bin .neq (.t 0) (.c (.s (.string ⟨#[]⟩)))) [eL (eF 1 (.t 1)),.c (.s (.string ⟨#[]⟩))]) (.c (.s (.bool false))))] [sb [0],sb [0],.sub 0 [1,0,0] [12],.sub 0 [1,0] [12],.sub 0 [1] [12],sb [],sb []]
def X123_4t2:=hS R123_4t2 [10,11,12,13,14,15,16] [17] [8,9,10,11,12,13,14,15,16,17,18,19,20,21,22,23,24,25,26,27,28,29,30,31,32,33,34,35,36,37,38,39,40,41,42,43,44,45,46,47,48,49,50,51,52,53,54,55,56,57,58,59,60,61,62,63,64,65,66,67,68,69,70,71,72,73,74,75,76,77]
def X123_4t3:=hP R123_4t3 [] [8,9,10,11,12,13,14,15,16,17,18,19,20,21,22,23,24,25,26,27,28,29,30,31,32,33,34,35,36,37,38,39,40,41,42,43,44,45,46,47,48,49,50,51,52,53,54,55,56,57,58,59,60,61,62,63,64,65,66,67,68,69,70,71,72,73,74,75,76,77]
def X123_4t4:=hP R123_4t4 [18] [8,9,10,11,12,13,14,15,16,17,18,19,20,21,22,23,24,25,26,27,28,29,30,31,32,33,34,35,36,37,38,39,40,41,42,43,44,45,46,47,48,49,50,51,52,53,54,55,56,57,58,59,60,61,62,63,64,65,66,67,68,69,70,71,72,73,74,75,76,77]
def T123_4p5:=hT R123_4p5 [17,19,20,21,22,23,24,25,26] [27] 28 [] [(27,.pick (.t 17) (.c (.s (.bool true))) (.pick (.op (.un .not (.t 0)) [.t 19]) (.op (.bin .neq (.t 0) (.c (.s (.string ⟨#[]⟩)))) [eL (eF 2 (.t 1)),.c (.s (.string ⟨#[]⟩))]) (.c (.s (.bool false)))))] [.sub 0 [2,0] [17],.sub 0 [2,0] [17],.sub 0 [2,1,0,0] [17,21],.sub 0 [2,1,0] [17,21],.sub 0 [2,1] [17,21],.sub 0 [2] [17],sb [],sb []]
def X123_4t5:=hS R123_4t5 [17,19,20,21,22,23,24,25,26] [27] [8,9,10,11,12,13,14,15,16,17,18,19,20,21,22,23,24,25,26,27,28,29,30,31,32,33,34,35,36,37,38,39,40,41,42,43,44,45,46,47,48,49,50,51,52,53,54,55,56,57,58,59,60,61,62,63,64,65,66,67,68,69,70,71,72,73,74,75,76,77]
def X123_4t6:=hP R123_4t6 [] [8,9,10,11,12,13,14,15,16,17,18,19,20,21,22,23,24,25,26,27,28,29,30,31,32,33,34,35,36,37,38,39,40,41,42,43,44,45,46,47,48,49,50,51,52,53,54,55,56,57,58,59,60,61,62,63,64,65,66,67,68,69,70,71,72,73,74,75,76,77]
def X123_4t7:=hP R123_4t7 [28] [8,9,10,11,12,13,14,15,16,17,18,19,20,21,22,23,24,25,26,27,28,29,30,31,32,33,34,35,36,37,38,39,40,41,42,43,44,45,46,47,48,49,50,51,52,53,54,55,56,57,58,59,60,61,62,63,64,65,66,67,68,69,70,71,72,73,74,75,76,77]
def T123_4p8:=hT R123_4p8 [27,29,30,31,32,33,34,35,36] [37] 38 [] [(37,.pick (.t 27) (.c (.s (.bool true))) (.pick (.op (.un .not (.t 0)) [.t 29]) (.op (.bin .neq (.t 0) (.c (.s (.string ⟨#[]⟩)))) [eL (eF 3 (.t 1)),.c (.s (.string ⟨#[]⟩))]) (.c (.s (.bool false)))))] [.sub 0 [2,0] [27],.sub 0 [2,0] [27],.sub 0 [2,1,0,0] [27,31],.sub 0 [2,1,0] [27,31],.sub 0 [2,1] [27,31],.sub 0 [2] [27],sb [],sb []]
def X123_4t8:=hS R123_4t8 [27,29,30,31,32,33,34,35,36] [37] [8,9,10,11,12,13,14,15,16,17,18,19,20,21,22,23,24,25,26,27,28,29,30,31,32,33,34,35,36,37,38,39,40,41,42,43,44,45,46,47,48,49,50,51,52,53,54,55,56,57,58,59,60,61,62,63,64,65,66,67,68,69,70,71,72,73,74,75,76,77]
def X123_4t9:=hP R123_4t9 [] [8,9,10,11,12,13,14,15,16,17,18,19,20,21,22,23,24,25,26,27,28,29,30,31,32,33,34,35,36,37,38,39,40,41,42,43,44,45,46,47,48,49,50,51,52,53,54,55,56,57,58,59,60,61,62,63,64,65,66,67,68,69,70,71,72,73,74,75,76,77]
def X123_4t10:=hP R123_4t10 [38] [8,9,10,11,12,13,14,15,16,17,18,19,20,21,22,23,24,25,26,27,28,29,30,31,32,33,34,35,36,37,38,39,40,41,42,43,44,45,46,47,48,49,50,51,52,53,54,55,56,57,58,59,60,61,62,63,64,65,66,67,68,69,70,71,72,73,74,75,76,77]
def T123_4p11:=hT R123_4p11 [37,39,40,41,42,43,44,45,46] [47] 48 [] [(47,.pick (.t 37) (.c (.s (.bool true))) (.pick (.op (.un .not (.t 0)) [.t 39]) (.op (.bin .neq (.t 0) (.c (.s (.int .i64 0)))) [eL (eF 4 (.t 1)),.c (.s (.int .i64 0))]) (.c (.s (.bool false)))))] [.sub 0 [2,0] [37],.sub 0 [2,0] [37],.sub 0 [2,1,0,0] [37,41],.sub 0 [2,1,0] [37,41],.sub 0 [2,1] [37,41],.sub 0 [2] [37],sb [],sb []]
def X123_4t11:=hS R123_4t11 [37,39,40,41,42,43,44,45,46] [47] [8,9,10,11,12,13,14,15,16,17,18,19,20,21,22,23,24,25,26,27,28,29,30,31,32,33,34,35,36,37,38,39,40,41,42,43,44,45,46,47,48,49,50,51,52,53,54,55,56,57,58,59,60,61,62,63,64,65,66,67,68,69,70,71,72,73,74,75,76,77]
def X123_4t12:=hP R123_4t12 [] [8,9,10,11,12,13,14,15,16,17,18,19,20,21,22,23,24,25,26,27,28,29,30,31,32,33,34,35,36,37,38,39,40,41,42,43,44,45,46,47,48,49,50,51,52,53,54,55,56,57,58,59,60,61,62,63,64,65,66,67,68,69,70,71,72,73,74,75,76,77]
def X123_4t13:=hP R123_4t13 [48] [8,9,10,11,12,13,14,15,16,17,18,19,20,21,22,23,24,25,26,27,28,29,30,31,32,33,34,35,36,37,38,39,40,41,42,43,44,45,46,47,48,49,50,51,52,53,54,55,56,57,58,59,60,61,62,63,64,65,66,67,68,69,70,71,72,73,74,75,76,77]
def T123_4p14:=hT R123_4p14 [47,49,50,51,52,53,54,55,56] [57] 58 [] [(57,.pick (.t 47) (.c (.s (.bool true))) (.pick (.op (.un .not (.t 0)) [.t 49]) (.op (.bin .neq (.t 0) (.c (.s (.string ⟨#[]⟩)))) [eL (eF 5 (.t 1)),.c (.s (.string ⟨#[]⟩))]) (.c (.s (.bool false)))))] [.sub 0 [2,0] [47],.sub 0 [2,0] [47],.sub 0 [2,1,0,0] [47,51],.sub 0 [2,1,0] [47,51],.sub 0 [2,1] [47,51],.sub 0 [2] [47],sb [],sb []]
def X123_4t14:=hS R123_4t14 [47,49,50,51,52,53,54,55,56] [57] [8,9,10,11,12,13,14,15,16,17,18,19,20,21,22,23,24,25,26,27,28,29,30,31,32,33,34,35,36,37,38,39,40,41,42,43,44,45,46,47,48,49,50,51,52,53,54,55,56,57,58,59,60,61,62,63,64,65,66,67,68,69,70,71,72,73,74,75,76,77]
def X123_4t15:=hP R123_4t15 [] [8,9,10,11,12,13,14,15,16,17,18,19,20,21,22,23,24,25,26,27,28,29,30,31,32,33,34,35,36,37,38,39,40,41,42,43,44,45,46,47,48,49,50,51,52,53,54,55,56,57,58,59,60,61,62,63,64,65,66,67,68,69,70,71,72,73,74,75,76,77]
def X123_4t16:=hP R123_4t16 [58] [8,9,10,11,12,13,14,15,16,17,18,19,20,21,22,23,24,25,26,27,28,29,30,31,32,33,34,35,36,37,38,39,40,41,42,43,44,45,46,47,48,49,50,51,52,53,54,55,56,57,58,59,60,61,62,63,64,65,66,67,68,69,70,71,72,73,74,75,76,77]
def T123_4p17:=hT R123_4p17 [57,59,60,61,62,63,64,65,66,67] [68] 69 [] [(68,.pick (.t 57) (.c (.s (.bool true))) (.pick (.op (.un .not (.t 0)) [.t 59]) (.op (.bin .neq (.t 0) (.c (.s (.int .i64 0)))) [.op (.lenS .s (.t 0)) [eL (eF 6 (.t 1))],.c (.s (.int .i64 0))]) (.c (.s (.bool false)))))] [.sub 0 [2,0] [57],.sub 0 [2,0] [57],.sub 0 [2,1,0,0,0] [57,61],.sub 0 [2,1,0,0] [57,61],.sub 0 [2,1,0] [57,61],.sub 0 [2,1] [57,61],.sub 0 [2] [57],sb [],sb []]
def X123_4t17:=hS R123_4t17 [57,59,60,61,62,63,64,65,66,67] [68] [8,9,10,11,12,13,14,15,16,17,18,19,20,21,22,23,24,25,26,27,28,29,30,31,32,33,34,35,36,37,38,39,40,41,42,43,44,45,46,47,48,49,50,51,52,53,54,55,56,57,58,59,60,61,62,63,64,65,66,67,68,69,70,71,72,73,74,75,76,77]
def X123_4t18:=hP R123_4t18 [] [8,9,10,11,12,13,14,15,16,17,18,19,20,21,22,23,24,25,26,27,28,29,30,31,32,33,34,35,36,37,38,39,40,41,42,43,44,45,46,47,48,49,50,51,52,53,54,55,56,57,58,59,60,61,62,63,64,65,66,67,68,69,70,71,72,73,74,75,76,77]
def X123_4t19:=hP R123_4t19 [69] [8,9,10,11,12,13,14,15,16,17,18,19,20,21,22,23,24,25,26,27,28,29,30,31,32,33,34,35,36,37,38,39,40,41,42,43,44,45,46,47,48,49,50,51,52,53,54,55,56,57,58,59,60,61,62,63,64,65,66,67,68,69,70,71,72,73,74,75,76,77]
def T123_4t20:=hT R123_4t20 [8,9,10,11,12,13,14,15,16,17,18,19,20,21,22,23,24,25,26,27,28,29,30,31,32,33,34,35,36,37,38,39,40,41,42,43,44,45,46,47,48,49,50,51,52,53,54,55,56,57,58,59,60,61,62,63,64,65,66,67,68,69,70,71,72,73,74,75,76,77] [78] 79 [] [(78,.pick (.t 68) (.c (.s (.bool true))) (.pick (.op (.un .not (.t 0)) [.t 70]) (.op (.bin .neq (.t 0) (.c (.s (.int .i64 0)))) [.op (.lenS .s (.t 0)) [eL (eF 7 (.t 1))],.c (.s (.int .i64 0))]) (.c (.s (.bool false)))))] [.sub 0 [2,0] [68],.sub 0 [2,0] [68],.sub 0 [2,1,0,0,0] [68,72],.sub 0 [2,1,0,0] [68,72],.sub 0 [2,1,0] [68,72],.sub 0 [2,1] [68,72],.sub 0 [2] [68],sb []]
def X123_4t20:=hL R123_4t20 [8,9,10,11,12,13,14,15,16,17,18,19,20,21,22,23,24,25,26,27,28,29,30,31,32,33,34,35,36,37,38,39,40,41,42,43,44,45,46,47,48,49,50,51,52,53,54,55,56,57,58,59,60,61,62,63,64,65,66,67,68,69,70,71,72,73,74,75,76,77] [78]
def R123_5:LO:=[q 2 (.move (.c (.s (.bool true))))]
def T123_5:=hT R123_5 [1,3,78] [2] 3 [] [(2,.c (.s (.bool true)))] [.cc (.s (.bool true))]
def R123_6t11:LO:=[gM 107 106 104 false,gF 108 5 1 107 true,gL 109 108 107 true,qg 110 (.bin .eql (.t 109) (.c (.s (.string ⟨#[]⟩)))) 107 true,qg 111 (.pick (.t 107) (.t 110) (.c (.s (.bool false)))) 104 false,q 112 (.pick (.t 104) (.c (.s (.bool true))) (.t 111))]
def R123_6t10:LO:=⟨some 106,.call (.c (.fn 149 [] [])) [.t 105,.c (.s (.int .u8 102))],some (104,false)⟩ :: R123_6t11
def R123_6t9:LO:=⟨some 105,.move (.t 3),some (104,false)⟩ :: R123_6t10
def R123_6p8:LO:=[gM 98 97 95 false,gF 99 3 1 98 true,gL 100 99 98 true,qg 101 (.bin .eql (.t 100) (.c (.s (.string ⟨#[]⟩)))) 98 true,qg 102 (.pick (.t 98) (.t 101) (.c (.s (.bool false)))) 95 false,q 103 (.pick (.t 95) (.c (.s (.bool true))) (.t 102)),oM 104 103]
def R123_6t8:LO:=R123_6p8 ++ R123_6t9
def R123_6t7:LO:=⟨some 97,.call (.c (.fn 149 [] [])) [.t 96,.c (.s (.int .u8 98))],some (95,false)⟩ :: R123_6t8
def R123_6t6:LO:=⟨some 96,.move (.t 3),some (95,false)⟩ :: R123_6t7
def R123_6p5:LO:=[gM 89 88 86 false,gF 90 2 1 89 true,gL 91 90 89 true,qg 92 (.bin .eql (.t 91) (.c (.s (.string ⟨#[]⟩)))) 89 true,qg 93 (.pick (.t 89) (.t 92) (.c (.s (.bool false)))) 86 false,q 94 (.pick (.t 86) (.c (.s (.bool true))) (.t 93)),oM 95 94]
def R123_6t5:LO:=R123_6p5 ++ R123_6t6
def R123_6t4:LO:=⟨some 88,.call (.c (.fn 149 [] [])) [.t 87,.c (.s (.int .u8 97))],some (86,false)⟩ :: R123_6t5
def R123_6t3:LO:=⟨some 87,.move (.t 3),some (86,false)⟩ :: R123_6t4
def R123_6p2:LO:=[oM 81 80,gF 82 1 1 81 true,gL 83 82 81 true,qg 84 (.bin .eql (.t 83) (.c (.s (.string ⟨#[]⟩)))) 81 true,q 85 (.pick (.t 81) (.t 84) (.c (.s (.bool false)))),oM 86 85]
def R123_6t2:LO:=R123_6p2 ++ R123_6t3
def R123_6t1:LO:=⟨some 80,.call (.c (.fn 149 [] [])) [.t 79,.c (.s (.int .u8 100))],none⟩ :: R123_6t2
def R123_6p0:LO:=[oM 79 3]
def R123_6:LO:=R123_6p0 ++ R123_6t1
def T123_6p0:=hT R123_6p0 [78] [79] 80 [] [(79,.t 3)] [.tt 3]
def X123_6:=hS R123_6 [78] [79] [3,78,79,80,81,82,83,84,85,86,87,88,89,90,91,92,93,94,95,96,97,98,99,100,101,102,103,104,105,106,107,108,109,110,111]
def X123_6t1:=hP R123_6t1 [79] [3,78,79,80,81,82,83,84,85,86,87,88,89,90,91,92,93,94,95,96,97,98,99,100,101,102,103,104,105,106,107,108,109,110,111]
def T123_6p2:=hT R123_6p2 [80,81,82,83,84,85] [86] 87 [] [(86,.pick (.t 80) (.op (.bin .eql (.t 0) (.c (.s (.string ⟨#[]⟩)))) [eL (eF 1 (.t 1)),.c (.s (.string ⟨#[]⟩))]) (.c (.s (.bool false))))] [.tt 80,.sub 0 [1,0,0] [81],.sub 0 [1,0] [81],.sub 0 [1] [81],sb [],sb []]
def X123_6t2:=hS R123_6t2 [80,81,82,83,84,85] [86] [3,78,79,80,81,82,83,84,85,86,87,88,89,90,91,92,93,94,95,96,97,98,99,100,101,102,103,104,105,106,107,108,109,110,111]
def X123_6t3:=hP R123_6t3 [] [3,78,79,80,81,82,83,84,85,86,87,88,89,90,91,92,93,94,95,96,97,98,99,100,101,102,103,104,105,106,107,108,109,110,111]
def X123_6t4:=hP R123_6t4 [87] [3,78,79,80,81,82,83,84,85,86,87,88,89,90,91,92,93,94,95,96,97,98,99,100,101,102,103,104,105,106,107,108,109,110,111]
def T123_6p5:=hT R123_6p5 [86,88,89,90,91,92,93,94] [95] 96 [] [(95,.pick (.t 86) (.c (.s (.bool true))) (.pick (.t 88) (.op (.bin .eql (.t 0) (.c (.s (.string ⟨#[]⟩)))) [eL (eF 2 (.t 1)),.c (.s (.string ⟨#[]⟩))]) (.c (.s (.bool false)))))] [.sub 0 [2,0] [86],.sub 0 [2,1,0,0] [86,89],.sub 0 [2,1,0] [86,89],.sub 0 [2,1] [86,89],.sub 0 [2] [86],sb [],sb []]
def X123_6t5:=hS R123_6t5 [86,88,89,90,91,92,93,94] [95] [3,78,79,80,81,82,83,84,85,86,87,88,89,90,91,92,93,94,95,96,97,98,99,100,101,102,103,104,105,106,107,108,109,110,111]
def X123_6t6:=hP R123_6t6 [] [3,78,79,80,81,82,83,84,85,86,87,88,89,90,91,92,93,94,95,96,97,98,99,100,101,102,103,104,105,106,107,108,109,110,111]
def X123_6t7:=hP R123_6t7 [96] [3,78,79,80,81,82,83,84,85,86,87,88,89,90,91,92,93,94,95,96,97,98,99,100,101,102,103,104,105,106,107,108,109,110,111]
def T123_6p8:=hT R123_6p8 [95,97,98,99,100,101,102,103] [104] 105 [] [(104,.pick (.t 95) (.c (.s (.bool true))) (.pick (.t 97) (.op (.bin .eql (.t 0) (.c (.s (.string ⟨#[]⟩)))) [eL (eF 3 (.t 1)),.c (.s (.string ⟨#[]⟩))]) (.c (.s (.bool false)))))] [.sub 0 [2,0] [95],.sub 0 [2,1,0,0] [95,98],.sub 0 [2,1,0] [95,98],.sub 0 [2,1] [95,98],.sub 0 [2] [95],sb [],sb []]
def X123_6t8:=hS R123_6t8 [95,97,98,99,100,101,102,103] [104] [3,78,79,80,81,82,83,84,85,86,87,88,89,90,91,92,93,94,95,96,97,98,99,100,101,102,103,104,105,106,107,108,109,110,111]
def X123_6t9:=hP R123_6t9 [3] [3,78,79,80,81,82,83,84,85,86,87,88,89,90,91,92,93,94,95,96,97,98,99,100,101,102,103,104,105,106,107,108,109,110,111]
def X123_6t10:=hP R123_6t10 [105] [3,78,79,80,81,82,83,84,85,86,87,88,89,90,91,92,93,94,95,96,97,98,99,100,101,102,103,104,105,106,107,108,109,110,111]
def T123_6t11:=hT R123_6t11 [3,78,79,80,81,82,83,84,85,86,87,88,89,90,91,92,93,94,95,96,97,98,99,100,101,102,103,104,105,106,107,108,109,110,111] [112] 113 [] [(112,.pick (.t 104) (.c (.s (.bool true))) (.pick (.t 106) (.op (.bin .eql (.t 0) (.c (.s (.string ⟨#[]⟩)))) [eL (eF 5 (.t 1)),.c (.s (.string ⟨#[]⟩))]) (.c (.s (.bool false)))))] [.sub 0 [2,0] [104],.sub 0 [2,1,0,0] [104,107],.sub 0 [2,1,0] [104,107],.sub 0 [2,1] [104,107],.sub 0 [2] [104],sb []]
def X123_6t11:=hL R123_6t11 [3,78,79,80,81,82,83,84,85,86,87,88,89,90,91,92,93,94,95,96,97,98,99,100,101,102,103,104,105,106,107,108,109,110,111] [112]
def R123_7:LO:=[q 2 (.move (.c (.s (.bool true))))]
def T123_7:=hT R123_7 [1,112] [2] 3 [] [(2,.c (.s (.bool true)))] [.cc (.s (.bool true))]
def R123_8:LO:=[oF 113 0 1,oL 114 113]
def T123_8:=hT R123_8 [112,113] [114] 115 [] [(114,eL (eF 0 (.t 1)))] [sb [0],sb []]
def R123_9:LO:=[q 116 (.bin .eql (.t 114) (.c (.s (.int .u8 1)))),oM 115 116]
def T123_9:=hT R123_9 [116] [115] 117 [] [(115,.op (.bin .eql (.t 0) (.c (.s (.int .u8 1)))) [.t 114,.c (.s (.int .u8 1))])] [sb [],sb []]
def R123_10:LO:=[q 117 (.bin .eql (.t 114) (.c (.s (.int .u8 2)))),oM 115 117]
def T123_10:=hT R123_10 [117] [115] 118 [] [(115,.op (.bin .eql (.t 0) (.c (.s (.int .u8 2)))) [.t 114,.c (.s (.int .u8 2))])] [sb [],sb []]
def R123_11:LO:=[oF 118 4 1,oL 119 118,q 120 (.bin .lss (.t 119) (.c (.s (.int .i64 1)))),oM 121 120,gF 122 4 1 121 false,gL 123 122 121 false,qg 124 (.bin .gtr (.t 123) (.c (.s (.int .i64 64)))) 121 false,q 125 (.pick (.t 121) (.c (.s (.bool true))) (.t 124)),oM 2 125]
def T123_11:=hT R123_11 [1,114,115,118,119,120,121,122,123,124,125] [2] 126 [] [(2,.pick (.op (.bin .lss (.t 0) (.c (.s (.int .i64 1)))) [eL (eF 4 (.t 1)),.c (.s (.int .i64 1))]) (.c (.s (.bool true))) (.op (.bin .gtr (.t 0) (.c (.s (.int .i64 64)))) [eL (eF 4 (.t 1)),.c (.s (.int .i64 64))]))] [sb [0,0,0],sb [0,0],sb [0],sb [0],.sub 0 [2,0,0] [121],.sub 0 [2,0] [121],.sub 0 [2] [121],sb [],sb []]
def R123_12:LO:=[q 127 (.bin .eql (.t 114) (.c (.s (.int .u8 7)))),oM 126 127]
def T123_12:=hT R123_12 [115,127] [126] 128 [] [(126,.op (.bin .eql (.t 0) (.c (.s (.int .u8 7)))) [.t 114,.c (.s (.int .u8 7))])] [sb [],sb []]
def R123_13:LO:=[oF 128 4 1,oL 129 128,q 130 (.bin .lss (.t 129) (.c (.s (.int .i64 0)))),oM 131 130,gF 132 4 1 131 false,gL 133 132 131 false,qg 134 (.bin .gtr (.t 133) (.c (.s (.int .i64 63)))) 131 false,q 135 (.pick (.t 131) (.c (.s (.bool true))) (.t 134)),oM 2 135]
def T123_13:=hT R123_13 [1,114,126,128,129,130,131,132,133,134,135] [2] 136 [] [(2,.pick (.op (.bin .lss (.t 0) (.c (.s (.int .i64 0)))) [eL (eF 4 (.t 1)),.c (.s (.int .i64 0))]) (.c (.s (.bool true))) (.op (.bin .gtr (.t 0) (.c (.s (.int .i64 63)))) [eL (eF 4 (.t 1)),.c (.s (.int .i64 63))]))] [sb [0,0,0],sb [0,0],sb [0],sb [0],.sub 0 [2,0,0] [131],.sub 0 [2,0] [131],.sub 0 [2] [131],sb [],sb []]
def R123_14:LO:=[q 137 (.bin .eql (.t 114) (.c (.s (.int .u8 6)))),oM 136 137]
def T123_14:=hT R123_14 [126,137] [136] 138 [] [(136,.op (.bin .eql (.t 0) (.c (.s (.int .u8 6)))) [.t 114,.c (.s (.int .u8 6))])] [sb [],sb []]
def R123_15:LO:=[oF 138 7 1,oL 139 138,q 140 (.lenS .s (.t 139)),q 141 (.bin .lss (.t 140) (.c (.s (.int .i64 1)))),oM 142 141,gF 143 7 1 142 false,gL 144 143 142 false,qg 145 (.lenS .s (.t 144)) 142 false,gF 146 6 1 142 false,gL 147 146 142 false,qg 148 (.lenS .s (.t 147)) 142 false,qg 149 (.bin .neq (.t 145) (.t 148)) 142 false,q 150 (.pick (.t 142) (.c (.s (.bool true))) (.t 149)),oM 2 150]
def T123_15:=hT R123_15 [1,114,136,138,139,140,141,142,143,144,145,146,147,148,149,150] [2] 151 [] [(2,.pick (.op (.bin .lss (.t 0) (.c (.s (.int .i64 1)))) [.op (.lenS .s (.t 0)) [eL (eF 7 (.t 1))],.c (.s (.int .i64 1))]) (.c (.s (.bool true))) (.op (.bin .neq (.t 0) (.t 1)) [.op (.lenS .s (.t 0)) [eL (eF 7 (.t 1))],.op (.lenS .s (.t 0)) [eL (eF 6 (.t 1))]]))] [sb [0,0,0,0],sb [0,0,0],sb [0,0],sb [0],sb [0],.sub 0 [2,0,0,0] [142],.sub 0 [2,0,0] [142],.sub 0 [2,0] [142],.sub 0 [2,1,0,0] [142],.sub 0 [2,1,0] [142],.sub 0 [2,1] [142],.sub 0 [2] [142],sb [],sb []]
def R123_16:LO:=[q 152 (.bin .eql (.t 114) (.c (.s (.int .u8 12)))),oM 151 152]
def T123_16:=hT R123_16 [136,152] [151] 153 [] [(151,.op (.bin .eql (.t 0) (.c (.s (.int .u8 12)))) [.t 114,.c (.s (.int .u8 12))])] [sb [],sb []]
def R123_17:LO:=[oF 153 7 1,oL 154 153,q 155 (.lenS .s (.t 154)),q 156 (.bin .neq (.t 155) (.c (.s (.int .i64 2)))),oM 2 156]
def T123_17:=hT R123_17 [1,114,151,153,154,155,156] [2] 157 [] [(2,.op (.bin .neq (.t 0) (.c (.s (.int .i64 2)))) [.op (.lenS .s (.t 0)) [eL (eF 7 (.t 1))],.c (.s (.int .i64 2))])] [sb [0,0,0],sb [0,0],sb [0],sb [],sb []]
def R123_18:LO:=[q 158 (.bin .eql (.t 114) (.c (.s (.int .u8 13)))),oM 157 158]
def T123_18:=hT R123_18 [114,151,158] [157] 159 [] [(157,.op (.bin .eql (.t 0) (.c (.s (.int .u8 13)))) [.t 114,.c (.s (.int .u8 13))])] [sb [],sb []]
def R123_19:LO:=[oF 159 7 1,oL 160 159,q 161 (.lenS .s (.t 160)),q 162 (.bin .neq (.t 161) (.c (.s (.int .i64 1)))),oM 2 162]
def T123_19:=hT R123_19 [1,157,159,160,161,162] [2] 163 [] [(2,.op (.bin .neq (.t 0) (.c (.s (.int .i64 1)))) [.op (.lenS .s (.t 0)) [eL (eF 7 (.t 1))],.c (.s (.int .i64 1))])] [sb [0,0,0],sb [0,0],sb [0],sb [],sb []]
def R123_20:LO:=[q 2 (.move (.c (.s (.bool false))))]
def T123_20:=hT R123_20 [1,157] [2] 3 [] [(2,.c (.s (.bool false)))] [.cc (.s (.bool false))]
def aa4:ACFun:={ ntmps:=163,results:=[.tmp 2],body:=
 (.seq (.region R123_0 [] K123_0)
 (.seq (.region R123_1 [] [4,5,6])
 (.seq (.seq (.regionE R123_2 [7] [8])
 (.cond (.t 8)
 (.seq (.regionE R123_3 [1,3,8] [2])
 .ret)
 .skip))
 (.seq (.seq (.region R123_4 [] [8,9,10,11,12,13,14,15,16,17,18,19,20,21,22,23,24,25,26,27,28,29,30,31,32,33,34,35,36,37,38,39,40,41,42,43,44,45,46,47,48,49,50,51,52,53,54,55,56,57,58,59,60,61,62,63,64,65,66,67,68,69,70,71,72,73,74,75,76,77])
 (.cond (.t 78)
 (.seq (.regionE R123_5 [1,3,78] [2])
 .ret)
 .skip))
 (.seq (.seq (.region R123_6 [] [3,78,79,80,81,82,83,84,85,86,87,88,89,90,91,92,93,94,95,96,97,98,99,100,101,102,103,104,105,106,107,108,109,110,111])
 (.cond (.t 112)
 (.seq (.regionE R123_7 [1,112] [2])
 .ret)
 .skip))
 (.seq (.seq (.regionE R123_8 [112,113] [114])
 (.block 0
 (.seq (.seq (.regionE R123_9 [116] [115])
 (.cond (.t 115)
 .skip
 (.regionE R123_10 [117] [115])))
 (.cond (.t 115)
 (.seq (.regionE R123_11 [1,114,115,118,119,120,121,122,123,124,125] [2])
 .ret)
 (.seq (.regionE R123_12 [115,127] [126])
 (.cond (.t 126)
 (.seq (.regionE R123_13 [1,114,126,128,129,130,131,132,133,134,135] [2])
 .ret)
 (.seq (.regionE R123_14 [126,137] [136])
 (.cond (.t 136)
 (.seq (.regionE R123_15 [1,114,136,138,139,140,141,142,143,144,145,146,147,148,149,150] [2])
 .ret)
 (.seq (.regionE R123_16 [136,152] [151])
 (.cond (.t 151)
 (.seq (.regionE R123_17 [1,114,151,153,154,155,156] [2])
 .ret)
 (.seq (.regionE R123_18 [114,151,158] [157])
 (.cond (.t 157)
 (.seq (.regionE R123_19 [1,157,159,160,161,162] [2])
 .ret)
 .skip))))))))))))
 (.seq (.regionE R123_20 [1,157] [2])
 .ret))))))) }
theorem arp:l9 (List.range' 1 (aa4.ntmps - 1)) aa4.body=true:=by kernel_rfl
abbrev a2t:Nat:=146
def K146_0:List Nat:=List.range' 1 28
theorem arj:y5 K146_0 (si 29 [] 1)=[]:=by kernel_rfl
def R146_0:LO:=[q 2 (.move (.c (.s (.string ⟨#[]⟩))))]
def R146_1:LO:=[oM 3 0]
def R146_2:LO:=[q 5 (.bin .eql (.t 3) (.c (.s (.int .u8 1)))),oM 4 5]
def R146_3:LO:=[q 6 (.bin .eql (.t 3) (.c (.s (.int .u8 2)))),oM 4 6]
def R146_4:LO:=[q 2 (.move (.c (.s (.string ⟨#[100,110]⟩))))]
def R146_5:LO:=[q 8 (.bin .eql (.t 3) (.c (.s (.int .u8 3)))),oM 7 8]
def R146_6:LO:=[q 2 (.move (.c (.s (.string ⟨#[100,46]⟩))))]
def R146_7:LO:=[q 10 (.bin .eql (.t 3) (.c (.s (.int .u8 4)))),oM 9 10]
def R146_8:LO:=[q 2 (.move (.c (.s (.string ⟨#[100,102]⟩))))]
def R146_9:LO:=[q 12 (.bin .eql (.t 3) (.c (.s (.int .u8 5)))),oM 11 12]
def R146_10:LO:=[q 13 (.bin .eql (.t 3) (.c (.s (.int .u8 8)))),oM 11 13]
def R146_11:LO:=[q 2 (.move (.c (.s (.string ⟨#[100,97]⟩))))]
def R146_12:LO:=[q 15 (.bin .eql (.t 3) (.c (.s (.int .u8 6)))),oM 14 15]
def R146_13:LO:=[q 2 (.move (.c (.s (.string ⟨#[100,103,108]⟩))))]
def R146_14:LO:=[q 17 (.bin .eql (.t 3) (.c (.s (.int .u8 7)))),oM 16 17]
def R146_15:LO:=[q 2 (.move (.c (.s (.string ⟨#[100,97,110]⟩))))]
def R146_16:LO:=[q 19 (.bin .eql (.t 3) (.c (.s (.int .u8 9)))),oM 18 19]
def R146_17:LO:=[q 2 (.move (.c (.s (.string ⟨#[97,98]⟩))))]
def R146_18:LO:=[q 21 (.bin .eql (.t 3) (.c (.s (.int .u8 10)))),oM 20 21]
def R146_19:LO:=[q 2 (.move (.c (.s (.string ⟨#[68,102,103]⟩))))]
def R146_20:LO:=[q 23 (.bin .eql (.t 3) (.c (.s (.int .u8 11)))),oM 22 23]
def R146_21:LO:=[q 2 (.move (.c (.s (.string ⟨#[68,97,103]⟩))))]
def R146_22:LO:=[q 25 (.bin .eql (.t 3) (.c (.s (.int .u8 12)))),oM 24 25]
def R146_23:LO:=[q 26 (.bin .eql (.t 3) (.c (.s (.int .u8 13)))),oM 24 26]
def R146_24:LO:=[q 2 (.move (.c (.s (.string ⟨#[108,46]⟩))))]
def R146_25:LO:=[q 28 (.bin .eql (.t 3) (.c (.s (.int .u8 14)))),oM 27 28]
def R146_26:LO:=[q 2 (.move (.c (.s (.string ⟨#[65,46]⟩))))]
def R146_27:LO:=[q 2 (.move (.c (.s (.string ⟨#[]⟩))))]
def zg:ACFun:={ ntmps:=29,results:=[.tmp 2],body:=
 (.seq (.regionE R146_0 K146_0 [])
 (.seq (.seq (.regionE R146_1 [0] [3])
 (.block 0
 (.seq (.seq (.regionE R146_2 [5] [4])
 (.cond (.t 4)
 .skip
 (.regionE R146_3 [6] [4])))
 (.cond (.t 4)
 (.seq (.regionE R146_4 [3,4] [2])
 .ret)
 (.seq (.regionE R146_5 [4,8] [7])
 (.cond (.t 7)
 (.seq (.regionE R146_6 [3,7] [2])
 .ret)
 (.seq (.regionE R146_7 [7,10] [9])
 (.cond (.t 9)
 (.seq (.regionE R146_8 [3,9] [2])
 .ret)
 (.seq (.seq (.regionE R146_9 [9,12] [11])
 (.cond (.t 11)
 .skip
 (.regionE R146_10 [13] [11])))
 (.cond (.t 11)
 (.seq (.regionE R146_11 [3,11] [2])
 .ret)
 (.seq (.regionE R146_12 [11,15] [14])
 (.cond (.t 14)
 (.seq (.regionE R146_13 [3,14] [2])
 .ret)
 (.seq (.regionE R146_14 [14,17] [16])
 (.cond (.t 16)
 (.seq (.regionE R146_15 [3,16] [2])
 .ret)
 (.seq (.regionE R146_16 [16,19] [18])
 (.cond (.t 18)
 (.seq (.regionE R146_17 [3,18] [2])
 .ret)
 (.seq (.regionE R146_18 [18,21] [20])
 (.cond (.t 20)
 (.seq (.regionE R146_19 [3,20] [2])
 .ret)
 (.seq (.regionE R146_20 [20,23] [22])
 (.cond (.t 22)
 (.seq (.regionE R146_21 [3,22] [2])
 .ret)
 (.seq (.seq (.regionE R146_22 [22,25] [24])
 (.cond (.t 24)
 .skip
 (.regionE R146_23 [26] [24])))
 (.cond (.t 24)
 (.seq (.regionE R146_24 [3,24] [2])
 .ret)
 (.seq (.regionE R146_25 [3,24,28] [27])
 (.cond (.t 27)
 (.seq (.regionE R146_26 [27] [2])
 .ret)
 .skip))))))))))))))))))))))))
 (.seq (.regionE R146_27 [27] [2])
 .ret))) }
abbrev axm:Nat:=147
def K147_0:List Nat:=List.range' 2 23
theorem ari:y5 K147_0 (si 25 [] 2)=[]:=by kernel_rfl
def R147_0:LO:=[q 4 (.move (.c (.s (.bool false))))]
def R147_1:LO:=[q 5 (.move (.c (.s (.int .i64 0))))]
def R147_2:LO:=[oM 6 5,oM 7 0,q 8 (.lenS .p (.t 7)),q 9 (.bin .lss (.t 6) (.t 8))]
def R147_3:LO:=[oM 12 0,oM 13 5,q 14 (.indexStr (.t 12) (.t 13)),oM 15 1,q 16 (.bin .eql (.t 14) (.t 15)),oM 17 16,gM 18 0 17 false,gM 19 5 17 false,qg 20 (.indexStr (.t 18) (.t 19)) 17 false,gM 21 1 17 false,qg 22 (.bin .sub (.t 21) (.c (.s (.int .u8 32)))) 17 false,qg 23 (.bin .eql (.t 20) (.t 22)) 17 false,q 24 (.pick (.t 17) (.c (.s (.bool true))) (.t 23))]
def R147_4:LO:=[q 4 (.move (.c (.s (.bool true))))]
def R147_5:LO:=[oM 10 5,q 11 (.bin .add (.t 10) (.c (.s (.int .i64 1)))),oM 5 11]
def agc:ACode:=
 (.seq (.seq (.regionE R147_2 [6,7,8] [9])
 (.cond (.t 9)
 .skip
 (.exit 0)))
 (.seq (.block 1
 (.seq (.regionE R147_3 [9,12,13,14,15,16,17,18,19,20,21,22,23] [24])
 (.cond (.t 24)
 (.seq (.regionE R147_4 [0,1,5,24] [4])
 .ret)
 .skip)))
 (.regionE R147_5 [10,11,24] [5])))
def alr:ACode:=agc
def R147_6:LO:=[q 4 (.move (.c (.s (.bool false))))]
def ahb:ACFun:={ ntmps:=25,results:=[.tmp 4],body:=
 (.seq (.regionE R147_0 K147_0 [])
 (.seq (.seq (.regionE R147_1 [] [5])
 (.block 0
 (.loop [] alr)))
 (.seq (.regionE R147_6 [0,1,5,9] [4])
 .ret))) }
abbrev a2s:Nat:=148
def K148_0:List Nat:=List.range' 1 8
theorem arh:y5 K148_0 (si 9 [] 1)=[]:=by kernel_rfl
def R148_0:LO:=[q 2 (.move (.c (.s (.bool false))))]
def R148_1t3:LO:=[q 8 (.pick (.t 5) (.c (.s (.bool true))) (.t 7)),oM 2 8]
def R148_1t2:LO:=⟨some 7,.call (.c (.fn 120 [] [])) [.t 6],some (5,false)⟩ :: R148_1t3
def R148_1t1:LO:=⟨some 6,.move (.t 0),some (5,false)⟩ :: R148_1t2
def R148_1p0:LO:=[oM 3 0,q 4 (.bin .eql (.t 3) (.c (.s (.string ⟨#[110,117,108,108]⟩)))),oM 5 4]
def R148_1:LO:=R148_1p0 ++ R148_1t1
def aha:ACFun:={ ntmps:=9,results:=[.tmp 2],body:=
 (.seq (.regionE R148_0 K148_0 [])
 (.seq (.region R148_1 [] [0,3,4,5,6,7,8])
 .ret)) }
abbrev axl:Nat:=149
def K149_0:List Nat:=List.range' 2 15
theorem arf:y5 K149_0 (si 17 [] 2)=[]:=by kernel_rfl
def R149_0:LO:=[q 4 (.move (.c (.s (.bool false))))]
def R149_1:LO:=[q 5 (.move (.c (.s (.int .i64 0))))]
def R149_2:LO:=[oM 6 5,oM 7 0,q 8 (.lenS .p (.t 7)),q 9 (.bin .lss (.t 6) (.t 8))]
def R149_3:LO:=[oM 12 0,oM 13 5,q 14 (.indexStr (.t 12) (.t 13)),oM 15 1,q 16 (.bin .eql (.t 14) (.t 15))]
def R149_4:LO:=[q 4 (.move (.c (.s (.bool true))))]
def R149_5:LO:=[oM 10 5,q 11 (.bin .add (.t 10) (.c (.s (.int .i64 1)))),oM 5 11]
def agb:ACode:=
 (.seq (.seq (.regionE R149_2 [6,7,8] [9])
 (.cond (.t 9)
 .skip
 (.exit 0)))
 (.seq (.block 1
 (.seq (.regionE R149_3 [9,12,13,14,15] [16])
 (.cond (.t 16)
 (.seq (.regionE R149_4 [0,1,5,16] [4])
 .ret)
 .skip)))
 (.regionE R149_5 [10,11,16] [5])))
def alq:ACode:=agb
def R149_6:LO:=[q 4 (.move (.c (.s (.bool false))))]
def ag9:ACFun:={ ntmps:=17,results:=[.tmp 4],body:=
 (.seq (.regionE R149_0 K149_0 [])
 (.seq (.seq (.regionE R149_1 [] [5])
 (.block 0
 (.loop [] alq)))
 (.seq (.regionE R149_6 [0,1,5,9] [4])
 .ret))) }
def an9:=ai (hQ K11_0p0 0) (ai (hK K11_0p0 1) (ai (hQ K11_0p0 2) (ai (hQ K11_0p0 3) (ai X11_0 (ai (hV R11_0t1 K11_0 [] 4 [] [] [.cc (.s (.string ⟨#[]⟩)),.cc (.s (.int .i64 0))]) (ai (hQ K11_0 0) (ai (hK K11_0 1) (ai (hQ K11_0 2) (ai (hQ K11_0 3) (ai (hU R11_1 [] [14] [4,13,14,15,16,17] 15 [] [(14,.op (.load true 1 (.t 0)) [.t 1])] [sb []]) (ai (hP R11_1t1 [14] [4,13,14,15,16,17]) (ai (hU R11_1t2 [13,15] [16,17] [4,13,14,15,16,17] 18 [] [(16,.op (.extract (.t 0) 0) [.t 15]),(17,.op (.extract (.t 0) 1) [.t 15])] [.tt 15,sb [],.sub 1 [] []]) (ai (hP R11_1t3 [] [4,13,14,15,16,17]) (ai (hP R11_1t4 [4,16] [4,13,14,15,16,17]) (ai (hV R11_1t5 [4,13,14,15,16,17] [5] 6 [] [(5,.t 17)] [.tt 17]) (ai (hU R11_2 [] [19] [6,18,19,20,21,22] 20 [] [(19,.op (.load true 1 (.t 0)) [.t 1])] [sb []]) (ai (hP R11_2t1 [19] [6,18,19,20,21,22]) (ai (hU R11_2t2 [18,20] [21,22] [6,18,19,20,21,22] 23 [] [(21,.op (.extract (.t 0) 0) [.t 20]),(22,.op (.extract (.t 0) 1) [.t 20])] [.tt 20,sb [],.sub 1 [] []]) (ai (hP R11_2t3 [] [6,18,19,20,21,22]) (ai (hP R11_2t4 [6,21] [6,18,19,20,21,22]) (ai (hV R11_2t5 [6,18,19,20,21,22] [7] 8 [] [(7,.t 22)] [.tt 22]) (ai (hT R11_3 [5,7,23,24,25] [26] 27 [] [(26,.pick (.t 5) (.c (.s (.bool true))) (.t 7))] [.tt 5,.tt 5,.sub 0 [2] [24],sb []]) (ai (hT R11_4 [1,26] [2,3] 4 [] [(2,.c (.s (.string ⟨#[]⟩))),(3,.c (.s (.int .i64 5)))] [.cc (.s (.string ⟨#[]⟩)),.cc (.s (.int .i64 5))]) (ai (hT R11_5 [26] [8] 9 [] [(8,.c (.s (.string ⟨#[]⟩)))] [.cc (.s (.string ⟨#[]⟩))]) (ai (hT R11_6 [] [9] 10 [] [(9,.c (.s (.int .i64 0)))] [.cc (.s (.int .i64 0))]) (ai (hT R11_7 [27,28,29,30] [31] 32 [] [(31,.op (.bin .lss (.t 0) (.t 1)) [.t 9,.op (.lenS .s (.t 0)) [eL (eF 0 (.t 1))]])] [.tt 9,sb [1,0,0],sb [1,0],sb [1],sb []]) (ai (hU R11_8 [31,34,35,36,37] [38] [31,34,35,36,37,38] 39 [] [(38,.op (.load true 3 (.t 0)) [.op (.indexAddr 3 (.t 0) (.t 1)) [eL (eF 0 (.t 1)),.t 9]])] [sb [0,0,0],sb [0,0],.tt 9,sb [0],sb []]) (ai (hP R11_8t1 [] [31,34,35,36,37,38]) (ai (hX R11_8t2 [31,34,35,36,37,38]) (ai (hU R11_9 [8,39,40,41,42,44] [43,45] [39,40,41,42,43,44,45,46,47,48] 46 [] [(43,.op (.bin .add (.t 0) (.t 1)) [.op (.bin .add (.t 0) (.c (.s (.string ⟨#[102,117,110,99,32]⟩)))) [.t 8,.c (.s (.string ⟨#[102,117,110,99,32]⟩))],eL (eF 0 (.t 10))]),(45,eL (eF 1 (.t 10)))] [.tt 8,sb [0],sb [1,0],sb [1],sb [],.sub 1 [0] [],.sub 1 [] []]) (ai (hP R11_9t1 [45] [39,40,41,42,43,44,45,46,47,48]) (ai (hV R11_9t2 [39,40,41,42,43,44,45,46,47,48] [8] 49 [] [(8,.op (.bin .add (.t 0) (.c (.s (.string ⟨#[32,123,10]⟩)))) [.op (.bin .add (.t 0) (.t 1)) [.t 43,.t 46],.c (.s (.string ⟨#[32,123,10]⟩))])] [sb [0],sb [],sb []]) (ai (hT R11_10 [] [11] 12 [] [(11,.c (.s (.int .i64 0)))] [.cc (.s (.int .i64 0))]) (ai (hT R11_11 [49,50,51,52] [53] 54 [] [(53,.op (.bin .lss (.t 0) (.t 1)) [.t 11,.op (.lenS .s (.t 0)) [eL (eF 2 (.t 10))]])] [.tt 11,sb [1,0,0],sb [1,0],sb [1],sb []]) (ai (hT R11_12 [53,56,57,58,59,60,61,62,63,64] [8] 65 [] [(8,.op (.bin .add (.t 0) (.c (.s (.string ⟨#[58,10]⟩)))) [.op (.bin .add (.t 0) (.t 1)) [.t 8,eL (eF 0 (.op (.indexAddr 2 (.t 0) (.t 1)) [eL (eF 2 (.t 10)),.t 11]))],.c (.s (.string ⟨#[58,10]⟩))])] [.tt 8,sb [0,1,0,0,0,0],sb [0,1,0,0,0],.tt 11,sb [0,1,0,0],sb [0,1,0],sb [0,1],sb [0],sb [],sb []]) (ai (hT R11_13 [] [12] 13 [] [(12,.c (.s (.int .i64 0)))] [.cc (.s (.int .i64 0))]) (ai (hT R11_14 [65,66,67,68,69,70,71,72] [73] 74 [] [(73,.op (.bin .lss (.t 0) (.t 1)) [.t 12,.op (.lenS .s (.t 0)) [eL (eF 1 (.op (.indexAddr 2 (.t 0) (.t 1)) [eL (eF 2 (.t 10)),.t 11]))]])] [.tt 12,sb [1,0,0,0,0,0],sb [1,0,0,0,0],.tt 11,sb [1,0,0,0],sb [1,0,0],sb [1,0],sb [1],sb []]) (ai (hU R11_15 [8,73,76,78,79,80,81,82,83,84,85] [77,86] [73,76,77,78,79,80,81,82,83,84,85,86,87,88,89] 87 [] [(77,.op (.bin .add (.t 0) (.c (.s (.string ⟨#[32,32]⟩)))) [.t 8,.c (.s (.string ⟨#[32,32]⟩))]),(86,.op (.load true 8 (.t 0)) [.op (.indexAddr 8 (.t 0) (.t 1)) [eL (eF 1 (.op (.indexAddr 2 (.t 0) (.t 1)) [eL (eF 2 (.t 10)),.t 11])),.t 12]])] [.tt 8,sb [],.sub 1 [0,0,0,0,0,0] [],.sub 1 [0,0,0,0,0] [],.tt 11,.sub 1 [0,0,0,0] [],.sub 1 [0,0,0] [],.sub 1 [0,0] [],.tt 12,.sub 1 [0] [],.sub 1 [] []]) (ai (hP R11_15t1 [86] [73,76,77,78,79,80,81,82,83,84,85,86,87,88,89]) (ai (hV R11_15t2 [73,76,77,78,79,80,81,82,83,84,85,86,87,88,89] [8] 90 [] [(8,.op (.bin .add (.t 0) (.c (.s (.string ⟨#[10]⟩)))) [.op (.bin .add (.t 0) (.t 1)) [.t 77,.t 87],.c (.s (.string ⟨#[10]⟩))])] [sb [0],sb [],sb []]) (ai (hT R11_16 [74,75] [12] 76 [] [(12,.op (.bin .add (.t 0) (.c (.s (.int .i64 1)))) [.t 12,.c (.s (.int .i64 1))])] [.tt 12,sb [],sb []]) (ai (hE akf ai0) (ai (hT R11_17 [12,54,55,73] [11] 56 [] [(11,.op (.bin .add (.t 0) (.c (.s (.int .i64 1)))) [.t 11,.c (.s (.int .i64 1))])] [.tt 11,sb [],sb []]) (ai (hE ake aiz) (ai (hT R11_18 [10,11,53,90,91] [8] 92 [] [(8,.op (.bin .add (.t 0) (.c (.s (.string ⟨#[125,10]⟩)))) [.t 8,.c (.s (.string ⟨#[125,10]⟩))])] [.tt 8,sb [],sb []]) (ai (hT R11_19 [32,33] [9] 34 [] [(9,.op (.bin .add (.t 0) (.c (.s (.int .i64 1)))) [.t 9,.c (.s (.int .i64 1))])] [.tt 9,sb [],sb []]) (ai (hE akd aiy) (ai (hT R11_20 [1,9,31,92,93] [94] 95 [] [(94,.op (.bin .gtr (.t 0) (.c (.s (.int .i64 1048576)))) [.op (.lenS .p (.t 0)) [.t 8],.c (.s (.int .i64 1048576))])] [.tt 8,sb [0],sb []]) (ai (hT R11_21 [8,94] [2,3] 4 [] [(2,.c (.s (.string ⟨#[]⟩))),(3,.c (.s (.int .i64 2)))] [.cc (.s (.string ⟨#[]⟩)),.cc (.s (.int .i64 2))]) (ai (hT R11_22 [8,94,95] [2,3] 96 [] [(2,.t 8),(3,.c (.s (.int .i64 0)))] [.tt 8,.tt 8,.cc (.s (.int .i64 0))]) (ai ai0.eq_1 (ai aiy.eq_1 (aiz.eq_1)))))))))))))))))))))))))))))))))))))))))))))))))))))
def ajh:=ai (hQ K25_0p0 0) (ai (hK K25_0p0 1) (ai (hK K25_0p0 2) (ai (hQ K25_0p0 4) (ai (hQ K25_0p0 5) (ai X25_0 (ai (hP R25_0t1 [] K25_0) (ai (hV R25_0t2 K25_0 [] 6 [] [] [.cc (.s (.bool false))]) (ai (hQ K25_0 0) (ai (hK K25_0 1) (ai (hK K25_0 2) (ai (hK K25_0 4) (ai (hQ K25_0 5) (ai (hT R25_1 [10] [11] 12 [] [(11,.op (.bin .eql (.t 0) (.c (.s (.int .u8 1)))) [.t 1,.c (.s (.int .u8 1))])] [.tt 1,sb []]) (ai (hU R25_3 [11,23,24] [25] [11,23,24,25,26,27,28] 26 [] [(25,.op (.bin .eql (.t 0) (.c (.s (.int .u8 4)))) [.t 1,.c (.s (.int .u8 4))])] [.tt 1,sb [],sb []]) (ai (hP R25_3t1 [] [11,23,24,25,26,27,28]) (ai (hP R25_3t2 [26] [11,23,24,25,26,27,28]) (ai (hV R25_3t3 [11,23,24,25,26,27,28] [29] 30 [] [(29,.pick (.t 25) (.op (.bin .lss (.t 0) (.c (.s (.int .i64 0)))) [.t 27,.c (.s (.int .i64 0))]) (.c (.s (.bool false))))] [.sub 0 [1] [25],sb []]) (ai (hU R25_4 [1,2,29] [30] [1,2,29,30] 31 [] [(30,.op (.build [.s (.int .i64 0),.s (.int .i64 0),.s (.int .i64 0)] [(0,1),(1,1),(2,1)] []) [])] [sb []]) (ai (hP R25_4t1 [30] [1,2,29,30]) (ai (hV R25_4t2 [1,2,29,30] [5] 6 [] [(5,.c (.s (.bool true)))] [.cc (.s (.bool true))]) (ai (hT R25_5 [29] [6] 7 [] [(6,.c (.s (.int .i64 0)))] [.cc (.s (.int .i64 0))]) (ai (hT R25_6 [] [7] 8 [] [(7,.c (.s (.int .i64 0)))] [.cc (.s (.int .i64 0))]) (ai (hT R25_7 [31,32,33,34] [35] 36 [] [(35,.op (.bin .lss (.t 0) (.t 1)) [.t 7,.op (.lenS .s (.t 0)) [eL (eF 0 (.t 2))]])] [.tt 7,sb [1,0,0],sb [1,0],sb [1],sb []]) (ai (hU R25_8 [35] [38,39,40] [35,38,39,40] 41 [] [(38,.op (.load true 1 (.t 0)) [.t 2]),(39,.t 7),(40,.t 1)] [sb [],.tt 7,.tt 1]) (ai (hX R25_8t1 [35,38,39,40]) (ai (hU R25_9 [1,2,6,7,41,42] [43] [1,2,6,7,41,42,43] 44 [] [(43,.op (.build [.s (.int .i64 0),.s (.int .i64 0),.s (.int .i64 0)] [(0,1),(1,1),(2,1)] [(0,.t 0)]) [.t 7])] [.tt 7,sb []]) (ai (hP R25_9t1 [43] [1,2,6,7,41,42,43]) (ai (hV R25_9t2 [1,2,6,7,41,42,43] [5] 6 [] [(5,.c (.s (.bool true)))] [.cc (.s (.bool true))]) (ai (hT R25_10 [41] [8] 9 [] [(8,.c (.s (.int .i64 0)))] [.cc (.s (.int .i64 0))]) (ai (hT R25_11 [44,45,46,47,48,49,50,51] [52] 53 [] [(52,.op (.bin .lss (.t 0) (.t 1)) [.t 8,.op (.lenS .s (.t 0)) [eL (eF 2 (.op (.indexAddr 3 (.t 0) (.t 1)) [eL (eF 0 (.t 2)),.t 7]))]])] [.tt 8,sb [1,0,0,0,0,0],sb [1,0,0,0,0],.tt 7,sb [1,0,0,0],sb [1,0,0],sb [1,0],sb [1],sb []]) (ai (hU R25_12 [52,55,56,57,58] [59,60,61] [52,55,56,57,58,59,60,61] 62 [] [(59,.op (.load true 3 (.t 0)) [.op (.indexAddr 3 (.t 0) (.t 1)) [eL (eF 0 (.t 2)),.t 7]]),(60,.t 8),(61,.t 1)] [sb [0,0,0],sb [0,0],.tt 7,sb [0],sb [],.tt 8,.tt 1]) (ai (hX R25_12t1 [52,55,56,57,58,59,60,61]) (ai (hU R25_13 [1,2,6,7,8,62,63,64] [65] [1,2,6,7,8,62,63,64,65] 66 [] [(65,.op (.build [.s (.int .i64 0),.s (.int .i64 0),.s (.int .i64 0)] [(0,1),(1,1),(2,1)] [(0,.t 0),(1,.t 1)]) [.t 7,.t 8])] [.tt 7,.tt 8,sb []]) (ai (hP R25_13t1 [65] [1,2,6,7,8,62,63,64,65]) (ai (hV R25_13t2 [1,2,6,7,8,62,63,64,65] [5] 6 [] [(5,.c (.s (.bool true)))] [.cc (.s (.bool true))]) (ai (hT R25_14 [62] [9] 10 [] [(9,.c (.s (.int .i64 0)))] [.cc (.s (.int .i64 0))]) (ai (hT R25_15 [66,67,68,69,70,71,72,73,74,75,76,77] [78] 79 [] [(78,.op (.bin .lss (.t 0) (.t 1)) [.t 9,.op (.lenS .s (.t 0)) [eL (eF 1 (.op (.indexAddr 2 (.t 0) (.t 1)) [eL (eF 2 (.op (.indexAddr 3 (.t 0) (.t 1)) [eL (eF 0 (.t 2)),.t 7])),.t 8]))]])] [.tt 9,sb [1,0,0,0,0,0,0,0,0],sb [1,0,0,0,0,0,0,0],.tt 7,sb [1,0,0,0,0,0,0],sb [1,0,0,0,0,0],sb [1,0,0,0,0],.tt 8,sb [1,0,0,0],sb [1,0,0],sb [1,0],sb [1],sb []]) (ai (hU R25_16 [78,82,83,84,85] [81,86,87,88,89,90] [78,81,82,83,84,85,86,87,88,89,90] 91 [] [(81,.op (.load true 1 (.t 0)) [.t 2]),(86,.op (.load true 3 (.t 0)) [.op (.indexAddr 3 (.t 0) (.t 1)) [eL (eF 0 (.t 2)),.t 7]]),(87,.t 8),(88,.t 9),(89,.t 6),(90,.t 1)] [sb [],.sub 1 [0,0,0] [],.sub 1 [0,0] [],.tt 7,.sub 1 [0] [],.sub 1 [] [],.tt 8,.tt 9,.tt 6,.tt 1]) (ai (hX R25_16t1 [78,81,82,83,84,85,86,87,88,89,90]) (ai (hU R25_17 [1,2,6,7,8,9,91,92,93,94] [95] [1,2,6,7,8,9,91,92,93,94,95] 96 [] [(95,.op (.build [.s (.int .i64 0),.s (.int .i64 0),.s (.int .i64 0)] [(0,1),(1,1),(2,1)] [(0,.t 0),(1,.t 1),(2,.t 2)]) [.t 7,.t 8,.t 9])] [.tt 7,.tt 8,.tt 9,sb []]) (ai (hP R25_17t1 [95] [1,2,6,7,8,9,91,92,93,94,95]) (ai (hV R25_17t2 [1,2,6,7,8,9,91,92,93,94,95] [5] 6 [] [(5,.c (.s (.bool true)))] [.cc (.s (.bool true))]) (ai (hT R25_18 [91,96,97] [6] 98 [] [(6,.op (.bin .add (.t 0) (.c (.s (.int .i64 1)))) [.t 6,.c (.s (.int .i64 1))])] [.tt 6,sb [],sb []]) (ai (hT R25_19 [79,80] [9] 81 [] [(9,.op (.bin .add (.t 0) (.c (.s (.int .i64 1)))) [.t 9,.c (.s (.int .i64 1))])] [.tt 9,sb [],sb []]) (ai (hE ag6 ais) (ai (hT R25_20 [9,53,54,78] [8] 55 [] [(8,.op (.bin .add (.t 0) (.c (.s (.int .i64 1)))) [.t 8,.c (.s (.int .i64 1))])] [.tt 8,sb [],sb []]) (ai (hE ag5 air) (ai (hT R25_21 [8,36,37,52] [7] 38 [] [(7,.op (.bin .add (.t 0) (.c (.s (.int .i64 1)))) [.t 7,.c (.s (.int .i64 1))])] [.tt 7,sb [],sb []]) (ai (hE ag4 aiq) (ai (hU R25_22 [1,2,6,7,35] [98] [1,2,6,7,35,98] 99 [] [(98,.op (.build [.s (.int .i64 0),.s (.int .i64 0),.s (.int .i64 0)] [(0,1),(1,1),(2,1)] []) [])] [sb []]) (ai (hP R25_22t1 [98] [1,2,6,7,35,98]) (ai (hV R25_22t2 [1,2,6,7,35,98] [5] 6 [] [(5,.c (.s (.bool false)))] [.cc (.s (.bool false))]) (ai ais.eq_1 (ai air.eq_1 (aiq.eq_1)))))))))))))))))))))))))))))))))))))))))))))))))))))))
def bau:=ai (hT R26_0 K26_0 [] 3 [] [] [.cc (.s (.string ⟨#[]⟩))]) (ai au9 (ai (hK K26_0 0) (ai (hT R26_1 [] [3] 4 [] [(3,.c (.s (.string ⟨#[40]⟩)))] [.cc (.s (.string ⟨#[40]⟩))]) (ai (hT R26_2 [] [4] 5 [] [(4,.c (.s (.int .i64 0)))] [.cc (.s (.int .i64 0))]) (ai (hT R26_3 [5,6,7] [8] 9 [] [(8,.op (.bin .lss (.t 0) (.t 1)) [.t 4,.op (.lenS .s (.t 0)) [.t 0]])] [.tt 4,.tt 0,sb [1],sb []]) (ai (hT R26_4 [8,11] [12] 13 [] [(12,.op (.bin .gtr (.t 0) (.c (.s (.int .i64 0)))) [.t 4,.c (.s (.int .i64 0))])] [.tt 4,sb []]) (ai (hT R26_5 [12,13,14] [3] 15 [] [(3,.op (.bin .add (.t 0) (.c (.s (.string ⟨#[44,32]⟩)))) [.t 3,.c (.s (.string ⟨#[44,32]⟩))])] [.tt 3,sb [],sb []]) (ai (hT R26_6 [12,15,16,17,18,19,20] [3] 21 [] [(3,.op (.bin .add (.t 0) (.t 1)) [.t 3,eL (.op (.indexAddr 1 (.t 0) (.t 1)) [.t 0,.t 4])])] [.tt 3,.tt 0,.tt 4,sb [1,0],sb [1],sb [],sb []]) (ai (hT R26_7 [9,10] [4] 11 [] [(4,.op (.bin .add (.t 0) (.c (.s (.int .i64 1)))) [.t 4,.c (.s (.int .i64 1))])] [.tt 4,sb [],sb []]) (ai (hE aj9 aip) (ai (hT R26_8 [0,3,4,8,21,22] [2] 23 [] [(2,.op (.bin .add (.t 0) (.c (.s (.string ⟨#[41]⟩)))) [.t 3,.c (.s (.string ⟨#[41]⟩))])] [.tt 3,sb [],sb []]) (aip.eq_1))))))))))))
def aax:=ai (hQ K27_0p0 0) (ai (hK K27_0p0 1) (ai (hQ K27_0p0 2) (ai X27_0 (ai (hV R27_0t1 K27_0 [] 3 [] [] [.cc (.s (.string ⟨#[]⟩))]) (ai (hQ K27_0 0) (ai (hK K27_0 1) (ai (hQ K27_0 2) (ai (hT R27_1 [] [3] 4 [] [(3,.c (.s (.string ⟨#[]⟩)))] [.cc (.s (.string ⟨#[]⟩))]) (ai (hT R27_2 [5,6] [7] 8 [] [(7,.op (.bin .neq (.t 0) (.c (.s (.string ⟨#[]⟩)))) [eL (eF 1 (.t 1)),.c (.s (.string ⟨#[]⟩))])] [sb [0,0],sb [0],sb []]) (ai (hT R27_3 [7,8,9,10] [3] 11 [] [(3,.op (.bin .add (.t 0) (.c (.s (.string ⟨#[32,61,32]⟩)))) [eL (eF 1 (.t 1)),.c (.s (.string ⟨#[32,61,32]⟩))])] [sb [0,0],sb [0],sb [],sb []]) (ai (hT R27_4 [7,11] [12] 13 [] [(12,eL (eF 0 (.t 1)))] [sb [0],sb []]) (ai (hT R27_5 [14] [13] 15 [] [(13,.op (.bin .eql (.t 0) (.c (.s (.int .u8 1)))) [.t 12,.c (.s (.int .u8 1))])] [sb [],sb []]) (ai (hU R27_6 [1,3,12,13,15,17] [16,18] [1,3,12,13,15,16,17,18,19,20] 19 [] [(16,.op (.bin .add (.t 0) (.c (.s (.string ⟨#[97,108,108,111,99,97,32]⟩)))) [.t 3,.c (.s (.string ⟨#[97,108,108,111,99,97,32]⟩))]),(18,eL (eF 4 (.t 1)))] [.tt 3,sb [],.sub 1 [0] [],.sub 1 [] []]) (ai (hP R27_6t1 [18] [1,3,12,13,15,16,17,18,19,20]) (ai (hV R27_6t2 [1,3,12,13,15,16,17,18,19,20] [2] 21 [] [(2,.op (.bin .add (.t 0) (.t 1)) [.t 16,.t 19])] [sb [],sb []]) (ai (hT R27_7 [13,22] [21] 23 [] [(21,.op (.bin .eql (.t 0) (.c (.s (.int .u8 2)))) [.t 12,.c (.s (.int .u8 2))])] [sb [],sb []]) (ai (hU R27_8 [1,3,12,21,23,25] [24,26] [1,3,12,21,23,24,25,26,27,28] 27 [] [(24,.op (.bin .add (.t 0) (.c (.s (.string ⟨#[109,97,108,108,111,99,32]⟩)))) [.t 3,.c (.s (.string ⟨#[109,97,108,108,111,99,32]⟩))]),(26,eL (eF 4 (.t 1)))] [.tt 3,sb [],.sub 1 [0] [],.sub 1 [] []]) (ai (hP R27_8t1 [26] [1,3,12,21,23,24,25,26,27,28]) (ai (hV R27_8t2 [1,3,12,21,23,24,25,26,27,28] [2] 29 [] [(2,.op (.bin .add (.t 0) (.t 1)) [.t 24,.t 27])] [sb [],sb []]) (ai (hT R27_9 [21,30] [29] 31 [] [(29,.op (.bin .eql (.t 0) (.c (.s (.int .u8 3)))) [.t 12,.c (.s (.int .u8 3))])] [sb [],sb []]) (ai (hT R27_10 [1,3,12,29,31,32] [2] 33 [] [(2,.op (.bin .add (.t 0) (.c (.s (.string ⟨#[110,117,108,108]⟩)))) [.t 3,.c (.s (.string ⟨#[110,117,108,108]⟩))])] [.tt 3,sb [],sb []]) (ai (hT R27_11 [29,34] [33] 35 [] [(33,.op (.bin .eql (.t 0) (.c (.s (.int .u8 4)))) [.t 12,.c (.s (.int .u8 4))])] [sb [],sb []]) (ai (hT R27_12 [1,3,12,33,35,36,37,38,39] [2] 40 [] [(2,.op (.bin .add (.t 0) (.t 1)) [.op (.bin .add (.t 0) (.c (.s (.string ⟨#[97,100,100,114,32]⟩)))) [.t 3,.c (.s (.string ⟨#[97,100,100,114,32]⟩))],eL (eF 5 (.t 1))])] [.tt 3,sb [0],sb [1,0],sb [1],sb [],sb []]) (ai (hT R27_13 [33,41] [40] 42 [] [(40,.op (.bin .eql (.t 0) (.c (.s (.int .u8 5)))) [.t 12,.c (.s (.int .u8 5))])] [sb [],sb []]) (ai (hT R27_14 [1,3,12,40,42,43,44,45,46] [2] 47 [] [(2,.op (.bin .add (.t 0) (.t 1)) [.op (.bin .add (.t 0) (.c (.s (.string ⟨#[99,111,112,121,32]⟩)))) [.t 3,.c (.s (.string ⟨#[99,111,112,121,32]⟩))],eL (eF 2 (.t 1))])] [.tt 3,sb [0],sb [1,0],sb [1],sb [],sb []]) (ai (hT R27_15 [40,48] [47] 49 [] [(47,.op (.bin .eql (.t 0) (.c (.s (.int .u8 7)))) [.t 12,.c (.s (.int .u8 7))])] [sb [],sb []]) (ai (hU R27_16 [1,3,12,47,49,50,51,52,53,55] [54,56] [1,3,12,47,49,50,51,52,53,54,55,56,57,58] 57 [] [(54,.op (.bin .add (.t 0) (.c (.s (.string ⟨#[32]⟩)))) [.op (.bin .add (.t 0) (.t 1)) [.op (.bin .add (.t 0) (.c (.s (.string ⟨#[102,105,101,108,100,32]⟩)))) [.t 3,.c (.s (.string ⟨#[102,105,101,108,100,32]⟩))],eL (eF 2 (.t 1))],.c (.s (.string ⟨#[32]⟩))]),(56,eL (eF 4 (.t 1)))] [.tt 3,sb [0,0],sb [0,1,0],sb [0,1],sb [0],sb [],.sub 1 [0] [],.sub 1 [] []]) (ai (hP R27_16t1 [56] [1,3,12,47,49,50,51,52,53,54,55,56,57,58]) (ai (hV R27_16t2 [1,3,12,47,49,50,51,52,53,54,55,56,57,58] [2] 59 [] [(2,.op (.bin .add (.t 0) (.t 1)) [.t 54,.t 57])] [sb [],sb []]) (ai (hT R27_17 [47,60] [59] 61 [] [(59,.op (.bin .eql (.t 0) (.c (.s (.int .u8 8)))) [.t 12,.c (.s (.int .u8 8))])] [sb [],sb []]) (ai (hT R27_18 [1,3,12,59,61,62,63,64,65] [2] 66 [] [(2,.op (.bin .add (.t 0) (.t 1)) [.op (.bin .add (.t 0) (.c (.s (.string ⟨#[108,111,97,100,32]⟩)))) [.t 3,.c (.s (.string ⟨#[108,111,97,100,32]⟩))],eL (eF 2 (.t 1))])] [.tt 3,sb [0],sb [1,0],sb [1],sb [],sb []]) (ai (hT R27_19 [59,67] [66] 68 [] [(66,.op (.bin .eql (.t 0) (.c (.s (.int .u8 9)))) [.t 12,.c (.s (.int .u8 9))])] [sb [],sb []]) (ai (hT R27_20 [1,3,12,66,68,69,70,71,72,73,74] [2] 75 [] [(2,.op (.bin .add (.t 0) (.t 1)) [.op (.bin .add (.t 0) (.c (.s (.string ⟨#[44,32]⟩)))) [.op (.bin .add (.c (.s (.string ⟨#[115,116,111,114,101,32]⟩))) (.t 1)) [.c (.s (.string ⟨#[115,116,111,114,101,32]⟩)),eL (eF 2 (.t 1))],.c (.s (.string ⟨#[44,32]⟩))],eL (eF 3 (.t 1))])] [sb [0,0,1,0],sb [0,0,1],sb [0,0],sb [0],sb [1,0],sb [1],sb [],sb []]) (ai (hT R27_21 [66,76] [75] 77 [] [(75,.op (.bin .eql (.t 0) (.c (.s (.int .u8 10)))) [.t 12,.c (.s (.int .u8 10))])] [sb [],sb []]) (ai (hU R27_22 [1,3,12,75,77,78,79,80,82] [81,83] [1,3,12,75,77,78,79,80,81,82,83,84,85] 84 [] [(81,.op (.bin .add (.t 0) (.t 1)) [.op (.bin .add (.t 0) (.c (.s (.string ⟨#[99,97,108,108,32]⟩)))) [.t 3,.c (.s (.string ⟨#[99,97,108,108,32]⟩))],eL (eF 5 (.t 1))]),(83,eL (eF 6 (.t 1)))] [.tt 3,sb [0],sb [1,0],sb [1],sb [],.sub 1 [0] [],.sub 1 [] []]) (ai (hP R27_22t1 [83] [1,3,12,75,77,78,79,80,81,82,83,84,85]) (ai (hV R27_22t2 [1,3,12,75,77,78,79,80,81,82,83,84,85] [2] 86 [] [(2,.op (.bin .add (.t 0) (.t 1)) [.t 81,.t 84])] [sb [],sb []]) (ai (hT R27_23 [75,87] [86] 88 [] [(86,.op (.bin .eql (.t 0) (.c (.s (.int .u8 11)))) [.t 12,.c (.s (.int .u8 11))])] [sb [],sb []]) (ai (hU R27_24 [1,3,12,86,88,89,90,91,93] [92,94] [1,3,12,86,88,89,90,91,92,93,94,95,96] 95 [] [(92,.op (.bin .add (.t 0) (.t 1)) [.op (.bin .add (.t 0) (.c (.s (.string ⟨#[105,99,97,108,108,32]⟩)))) [.t 3,.c (.s (.string ⟨#[105,99,97,108,108,32]⟩))],eL (eF 2 (.t 1))]),(94,eL (eF 6 (.t 1)))] [.tt 3,sb [0],sb [1,0],sb [1],sb [],.sub 1 [0] [],.sub 1 [] []]) (ai (hP R27_24t1 [94] [1,3,12,86,88,89,90,91,92,93,94,95,96]) (ai (hV R27_24t2 [1,3,12,86,88,89,90,91,92,93,94,95,96] [2] 97 [] [(2,.op (.bin .add (.t 0) (.t 1)) [.t 92,.t 95])] [sb [],sb []]) (ai (hT R27_25 [86,98] [97] 99 [] [(97,.op (.bin .eql (.t 0) (.c (.s (.int .u8 12)))) [.t 12,.c (.s (.int .u8 12))])] [sb [],sb []]) (ai (hT R27_26 [1,3,12,97,99,100,101,102,103,104,105,106,107,108,109] [2] 110 [] [(2,.op (.bin .add (.t 0) (.t 1)) [.op (.bin .add (.t 0) (.c (.s (.string ⟨#[32]⟩)))) [.op (.bin .add (.c (.s (.string ⟨#[98,114,32]⟩))) (.t 1)) [.c (.s (.string ⟨#[98,114,32]⟩)),eL (.op (.indexAddr 1 (.t 0) (.c (.s (.int .i64 0)))) [eL (eF 7 (.t 1)),.c (.s (.int .i64 0))])],.c (.s (.string ⟨#[32]⟩))],eL (.op (.indexAddr 1 (.t 0) (.c (.s (.int .i64 1)))) [eL (eF 7 (.t 1)),.c (.s (.int .i64 1))])])] [sb [0,0,1,0,0,0],sb [0,0,1,0,0],sb [0,0,1,0],sb [0,0,1],sb [0,0],sb [0],sb [0,0,1,0,0,0],sb [0,0,1,0,0],sb [1,0],sb [1],sb [],sb []]) (ai (hT R27_27 [97,111] [110] 112 [] [(110,.op (.bin .eql (.t 0) (.c (.s (.int .u8 13)))) [.t 12,.c (.s (.int .u8 13))])] [sb [],sb []]) (ai (hT R27_28 [1,3,12,110,112,113,114,115,116] [2] 117 [] [(2,.op (.bin .add (.c (.s (.string ⟨#[103,111,116,111,32]⟩))) (.t 1)) [.c (.s (.string ⟨#[103,111,116,111,32]⟩)),eL (.op (.indexAddr 1 (.t 0) (.c (.s (.int .i64 0)))) [eL (eF 7 (.t 1)),.c (.s (.int .i64 0))])])] [sb [1,0,0,0],sb [1,0,0],sb [1,0],sb [1],sb [],sb []]) (ai (hT R27_29 [12,110,118] [117] 119 [] [(117,.op (.bin .eql (.t 0) (.c (.s (.int .u8 14)))) [.t 12,.c (.s (.int .u8 14))])] [sb [],sb []]) (ai (hT R27_30 [3,117,119,120] [121] 122 [] [(121,.op (.bin .eql (.t 0) (.c (.s (.string ⟨#[]⟩)))) [eL (eF 2 (.t 1)),.c (.s (.string ⟨#[]⟩))])] [sb [0,0],sb [0],sb []]) (ai (hT R27_31 [1,121] [2] 3 [] [(2,.c (.s (.string ⟨#[114,101,116]⟩)))] [.cc (.s (.string ⟨#[114,101,116]⟩))]) (ai (hT R27_32 [1,121,122,123,124] [2] 125 [] [(2,.op (.bin .add (.c (.s (.string ⟨#[114,101,116,32]⟩))) (.t 1)) [.c (.s (.string ⟨#[114,101,116,32]⟩)),eL (eF 2 (.t 1))])] [sb [1,0],sb [1],sb [],sb []]) (ai (hT R27_33 [117,125,126] [3] 127 [] [(3,.op (.bin .add (.t 0) (.c (.s (.string ⟨#[112,104,105,32,91]⟩)))) [.t 3,.c (.s (.string ⟨#[112,104,105,32,91]⟩))])] [.tt 3,sb [],sb []]) (ai (hT R27_34 [] [4] 5 [] [(4,.c (.s (.int .i64 0)))] [.cc (.s (.int .i64 0))]) (ai (hT R27_35 [127,128,129,130] [131] 132 [] [(131,.op (.bin .lss (.t 0) (.t 1)) [.t 4,.op (.lenS .s (.t 0)) [eL (eF 7 (.t 1))]])] [.tt 4,sb [1,0,0],sb [1,0],sb [1],sb []]) (ai (hT R27_36 [131,134] [135] 136 [] [(135,.op (.bin .gtr (.t 0) (.c (.s (.int .i64 0)))) [.t 4,.c (.s (.int .i64 0))])] [.tt 4,sb []]) (ai (hT R27_37 [135,136,137] [3] 138 [] [(3,.op (.bin .add (.t 0) (.c (.s (.string ⟨#[44,32]⟩)))) [.t 3,.c (.s (.string ⟨#[44,32]⟩))])] [.tt 3,sb [],sb []]) (ai (hT R27_38 [135,138,139,140,141,142,143,144,145,146,147,148,149,150,151] [3] 152 [] [(3,.op (.bin .add (.t 0) (.t 1)) [.op (.bin .add (.t 0) (.c (.s (.string ⟨#[58,32]⟩)))) [.op (.bin .add (.t 0) (.t 1)) [.t 3,eL (.op (.indexAddr 1 (.t 0) (.t 1)) [eL (eF 7 (.t 1)),.t 4])],.c (.s (.string ⟨#[58,32]⟩))],eL (.op (.indexAddr 1 (.t 0) (.t 1)) [eL (eF 6 (.t 1)),.t 4])])] [.tt 3,sb [0,0,1,0,0,0],sb [0,0,1,0,0],.tt 4,sb [0,0,1,0],sb [0,0,1],sb [0,0],sb [0],sb [1,0,0,0],sb [1,0,0],.tt 4,sb [1,0],sb [1],sb [],sb []]) (ai (hT R27_39 [132,133] [4] 134 [] [(4,.op (.bin .add (.t 0) (.c (.s (.int .i64 1)))) [.t 4,.c (.s (.int .i64 1))])] [.tt 4,sb [],sb []]) (ai (hE aj8 aio) (ai (hT R27_40 [1,3,4,131,152,153] [2] 154 [] [(2,.op (.bin .add (.t 0) (.c (.s (.string ⟨#[93]⟩)))) [.t 3,.c (.s (.string ⟨#[93]⟩))])] [.tt 3,sb [],sb []]) (aio.eq_1)))))))))))))))))))))))))))))))))))))))))))))))))))))))))))
def az7:=ai (hQ K73_0p0 0) (ai (hK K73_0p0 1) (ai (hK K73_0p0 2) (ai (hK K73_0p0 3) (ai (hQ K73_0p0 6) (ai X73_0 (ai (hV R73_0t1 K73_0 [] 7 [] [] [.cc (.s (.bool false))]) (ai (hQ K73_0 0) (ai (hK K73_0 1) (ai (hK K73_0 2) (ai (hK K73_0 3) (ai (hQ K73_0 6) (ai (hU R73_1 [11,12,13,14] [15] [11,12,13,14,15] 16 [] [(15,.op (.load true 3 (.t 0)) [.op (.indexAddr 3 (.t 0) (.t 1)) [eL (eF 0 (.t 3)),.t 1]])] [sb [0,0,0],sb [0,0],.tt 1,sb [0],sb []]) (ai (hP R73_1t1 [] [11,12,13,14,15]) (ai (hX R73_1t2 [11,12,13,14,15]) (ai (hT R73_2 [2] [16] 17 [] [(16,.t 2)] [.tt 2]) (ai (hT R73_3 [18] [17] 19 [] [(17,.op (.bin .eql (.t 0) (.c (.s (.int .u8 2)))) [.t 16,.c (.s (.int .u8 2))])] [sb [],sb []]) (ai (hT R73_4 [1,3,16,17] [8] 9 [] [(8,.c (.s (.int .i64 0)))] [.cc (.s (.int .i64 0))]) (ai (hT R73_5 [19,20,21,22] [23] 24 [] [(23,.op (.bin .lss (.t 0) (.t 1)) [.t 8,.op (.lenS .s (.t 0)) [eL (eF 1 (.t 7))]])] [.tt 8,sb [1,0,0],sb [1,0],sb [1],sb []]) (ai (hU R73_6 [23,26,27,28,29] [30] [23,26,27,28,29,30,31] 31 [] [(30,eL (.op (.indexAddr 1 (.t 0) (.t 1)) [eL (eF 1 (.t 7)),.t 8]))] [sb [0,0,0],sb [0,0],.tt 8,sb [0],sb []]) (ai (hP R73_6t1 [30] [23,26,27,28,29,30,31]) (ai (hV R73_6t2 [23,26,27,28,29,30,31] [32] 33 [] [(32,.op (.un .not (.t 0)) [.t 31])] [sb []]) (ai (hT R73_7 [7,8,32] [6] 7 [] [(6,.c (.s (.bool true)))] [.cc (.s (.bool true))]) (ai (hT R73_8 [24,25,32] [8] 26 [] [(8,.op (.bin .add (.t 0) (.c (.s (.int .i64 1)))) [.t 8,.c (.s (.int .i64 1))])] [.tt 8,sb [],sb []]) (ai (hE aj6 aik) (ai (hU R73_9 [7,8,23,33] [34] [7,8,23,33,34,35,36] 35 [] [(34,eL (eF 0 (.t 7)))] [sb [0],sb []]) (ai (hP R73_9t1 [34] [7,8,23,33,34,35,36]) (ai (hV R73_9t2 [7,8,23,33,34,35,36] [6] 37 [] [(6,.op (.un .not (.t 0)) [.t 35])] [sb [],sb []]) (ai (hT R73_10 [17,38] [37] 39 [] [(37,.op (.bin .eql (.t 0) (.c (.s (.int .u8 3)))) [.t 16,.c (.s (.int .u8 3))])] [sb [],sb []]) (ai (hU R73_11 [3,7,16,37,40] [39,41] [1,3,7,16,37,39,40,41,42,43,44] 42 [] [(39,.op (.load true 1 (.t 0)) [.t 3]),(41,eL (eF 0 (.t 7)))] [sb [],.sub 1 [0] [],.sub 1 [] []]) (ai (hP R73_11t1 [39,41] [1,3,7,16,37,39,40,41,42,43,44]) (ai (hV R73_11t2 [1,3,7,16,37,39,40,41,42,43,44] [6] 45 [] [(6,.op (.bin .lss (.t 0) (.t 1)) [.t 42,.t 1])] [.tt 1,sb [],sb []]) (ai (hT R73_12 [37,46] [45] 47 [] [(45,.op (.bin .eql (.t 0) (.c (.s (.int .u8 4)))) [.t 16,.c (.s (.int .u8 4))])] [sb [],sb []]) (ai (hU R73_13 [3,16,45] [47] [1,3,7,16,45,47,48,49,50,51,52,53,54,55,56] 48 [] [(47,.op (.load true 1 (.t 0)) [.t 3])] [sb []]) (ai (hP R73_13t1 [47] [1,3,7,16,45,47,48,49,50,51,52,53,54,55,56]) (ai (hV R73_13t2 [1,3,7,16,45,47,48,49,50,51,52,53,54,55,56] [6] 57 [] [(6,.pick (.op (.bin .eql (.t 0) (.t 1)) [.t 48,.t 1]) (.op (.bin .gtr (.t 0) (.c (.s (.int .i64 0)))) [.op (.lenS .s (.t 0)) [eL (eF 1 (.t 7))],.c (.s (.int .i64 0))]) (.c (.s (.bool false))))] [.tt 1,sb [0],sb [0],.sub 0 [1,0,0,0] [51],.sub 0 [1,0,0] [51],.sub 0 [1,0] [51],.sub 0 [1] [51],sb [],sb []]) (ai (hT R73_14 [1,3,45,58] [57] 59 [] [(57,.op (.bin .eql (.t 0) (.c (.s (.int .u8 5)))) [.t 16,.c (.s (.int .u8 5))])] [sb [],sb []]) (ai (hT R73_15 [7,16,57,59,60,61,62] [6] 63 [] [(6,.op (.bin .gtr (.t 0) (.c (.s (.int .i64 8)))) [.op (.lenS .s (.t 0)) [eL (eF 1 (.t 7))],.c (.s (.int .i64 8))])] [sb [0,0,0],sb [0,0],sb [0],sb [],sb []]) (ai (hT R73_16 [57,64] [63] 65 [] [(63,.op (.bin .eql (.t 0) (.c (.s (.int .u8 6)))) [.t 16,.c (.s (.int .u8 6))])] [sb [],sb []]) (ai (hT R73_17 [7,16,63,65,66,67,68,69,70,71,72,73,74] [6] 75 [] [(6,.pick (.op (.bin .eql (.t 0) (.c (.s (.int .i64 0)))) [.op (.lenS .s (.t 0)) [eL (eF 2 (.t 7))],.c (.s (.int .i64 0))]) (.c (.s (.bool true))) (.op (.bin .gtr (.t 0) (.c (.s (.int .i64 64)))) [.op (.lenS .s (.t 0)) [eL (eF 2 (.t 7))],.c (.s (.int .i64 64))]))] [sb [0,0,0,0],sb [0,0,0],sb [0,0],sb [0],sb [0],.sub 0 [2,0,0,0] [69],.sub 0 [2,0,0] [69],.sub 0 [2,0] [69],.sub 0 [2] [69],sb [],sb []]) (ai (hT R73_18 [16,63,76] [75] 77 [] [(75,.op (.bin .eql (.t 0) (.c (.s (.int .u8 15)))) [.t 16,.c (.s (.int .u8 15))])] [sb [],sb []]) (ai (hT R73_19 [75] [9] 10 [] [(9,.c (.s (.int .i64 0)))] [.cc (.s (.int .i64 0))]) (ai (hT R73_20 [77,78,79,80] [81] 82 [] [(81,.op (.bin .lss (.t 0) (.t 1)) [.t 9,.op (.lenS .s (.t 0)) [eL (eF 1 (.t 7))]])] [.tt 9,sb [1,0,0],sb [1,0],sb [1],sb []]) (ai (hT R73_21 [81] [10] 11 [] [(10,.c (.s (.int .i64 0)))] [.cc (.s (.int .i64 0))]) (ai (hT R73_22 [84,85] [86] 87 [] [(86,.op (.bin .lss (.t 0) (.t 1)) [.t 10,.t 9])] [.tt 10,.tt 9,sb []]) (ai (hT R73_23 [86,89,90,91,92,93,94,95,96,97,98] [99] 100 [] [(99,.op (.bin .eql (.t 0) (.t 1)) [eL (.op (.indexAddr 1 (.t 0) (.t 1)) [eL (eF 1 (.t 7)),.t 10]),eL (.op (.indexAddr 1 (.t 0) (.t 1)) [eL (eF 1 (.t 7)),.t 9])])] [sb [0,0,0,0],sb [0,0,0],.tt 10,sb [0,0],sb [0],sb [0,0,0,0],sb [0,0,0],.tt 9,sb [1,0],sb [1],sb []]) (ai (hT R73_24 [7,9,10,99] [6] 7 [] [(6,.c (.s (.bool true)))] [.cc (.s (.bool true))]) (ai (hT R73_25 [87,88,99] [10] 89 [] [(10,.op (.bin .add (.t 0) (.c (.s (.int .i64 1)))) [.t 10,.c (.s (.int .i64 1))])] [.tt 10,sb [],sb []]) (ai (hE axa aij) (ai (hT R73_26 [10,82,83,86] [9] 84 [] [(9,.op (.bin .add (.t 0) (.c (.s (.int .i64 1)))) [.t 9,.c (.s (.int .i64 1))])] [.tt 9,sb [],sb []]) (ai (hE aw9 aii) (ai (hT R73_27 [7,9,75,81] [6] 7 [] [(6,.c (.s (.bool false)))] [.cc (.s (.bool false))]) (ai aij.eq_1 (ai aik.eq_1 (aii.eq_1))))))))))))))))))))))))))))))))))))))))))))))))))))))
def bir:=ai (hP R74_0 [0,4,5,6,7,8,9,10,11,12,13,14,15,16,17,18,19,20,21,22,23,24,25,26,27,28,29,30,31,32,33,34,35,36,37,38,39] K74_0) (ai (hV R74_0t1 K74_0 [] 7 [] [] [.cc (.s (.bool false))]) (ai (hQ K74_0 0) (ai (hK K74_0 1) (ai (hK K74_0 2) (ai (hK K74_0 3) (ai (hQ K74_0 6) (ai (hT R74_1 [2] [7] 8 [] [(7,.t 2)] [.tt 2]) (ai (hT R74_2 [9] [8] 10 [] [(8,.op (.bin .eql (.t 0) (.c (.s (.int .u8 2)))) [.t 7,.c (.s (.int .u8 2))])] [sb [],sb []]) (ai (hU R74_3 [1,3,7,8,10,11,12,13,14] [15] [1,3,7,8,10,11,12,13,14,15,16,17] 16 [] [(15,eL (eF 0 (.op (.indexAddr 2 (.t 0) (.t 1)) [eL (eF 2 (.t 3)),.t 1])))] [sb [0,0,0,0],sb [0,0,0],.tt 1,sb [0,0],sb [0],sb []]) (ai (hP R74_3t1 [15] [1,3,7,8,10,11,12,13,14,15,16,17]) (ai (hV R74_3t2 [1,3,7,8,10,11,12,13,14,15,16,17] [6] 18 [] [(6,.op (.un .not (.t 0)) [.t 16])] [sb [],sb []]) (ai (hT R74_4 [8,19] [18] 20 [] [(18,.op (.bin .eql (.t 0) (.c (.s (.int .u8 7)))) [.t 7,.c (.s (.int .u8 7))])] [sb [],sb []]) (ai (hU R74_5 [3,7,18,21,22,23,24,25] [20,26] [1,3,7,18,20,21,22,23,24,25,26,27,28,29] 27 [] [(20,.op (.load true 3 (.t 0)) [.t 3]),(26,eL (eF 0 (.op (.indexAddr 2 (.t 0) (.t 1)) [eL (eF 2 (.t 3)),.t 1])))] [sb [],.sub 1 [0,0,0,0] [],.sub 1 [0,0,0] [],.tt 1,.sub 1 [0,0] [],.sub 1 [0] [],.sub 1 [] []]) (ai (hP R74_5t1 [20,26] [1,3,7,18,20,21,22,23,24,25,26,27,28,29]) (ai (hV R74_5t2 [1,3,7,18,20,21,22,23,24,25,26,27,28,29] [6] 30 [] [(6,.op (.bin .lss (.t 0) (.t 1)) [.t 27,.t 1])] [.tt 1,sb [],sb []]) (ai (hT R74_6 [7,18,31] [30] 32 [] [(30,.op (.bin .eql (.t 0) (.c (.s (.int .u8 10)))) [.t 7,.c (.s (.int .u8 10))])] [sb [],sb []]) (ai (hT R74_7 [1,3,30,32,33,34,35,36,37,38,39] [6] 40 [] [(6,.op (.bin .eql (.t 0) (.c (.s (.int .i64 0)))) [.op (.lenS .s (.t 0)) [eL (eF 1 (.op (.indexAddr 2 (.t 0) (.t 1)) [eL (eF 2 (.t 3)),.t 1]))],.c (.s (.int .i64 0))])] [sb [0,0,0,0,0,0],sb [0,0,0,0,0],.tt 1,sb [0,0,0,0],sb [0,0,0],sb [0,0],sb [0],sb [],sb []]) ((hT R74_8 [1,3,30] [6] 7 [] [(6,.c (.s (.bool false)))] [.cc (.s (.bool false))])))))))))))))))))))
def biq:=ai (hQ K75_0p0 0) (ai (hK K75_0p0 1) (ai (hK K75_0p0 2) (ai (hK K75_0p0 3) (ai (hK K75_0p0 4) (ai (hK K75_0p0 5) (ai (hK K75_0p0 6) (ai (hQ K75_0p0 7) (ai (hQ K75_0p0 12) (ai X75_0 (ai (hP R75_0t1 [1] K75_0) (ai (hV R75_0t2 K75_0 [] 13 [] [] [.cc (.s (.bool false))]) (ai (hQ K75_0 0) (ai (hQ K75_0 1) (ai (hK K75_0 2) (ai (hK K75_0 3) (ai (hK K75_0 4) (ai (hK K75_0 5) (ai (hK K75_0 6) (ai (hK K75_0 7) (ai (hQ K75_0 12) (ai (hT R75_1 [20,21,22,23,24,25] [13] 26 [] [(13,eL (eF 1 (.op (.indexAddr 2 (.t 0) (.t 1)) [eL (eF 2 (.t 7)),.t 2])))] [sb [0,0,0,0],sb [0,0,0],.tt 2,sb [0,0],sb [0],sb [],sb []]) (ai (hU R75_2 [26,27,28] [29] [26,27,28,29] 30 [] [(29,.op (.load true 8 (.t 0)) [.op (.indexAddr 8 (.t 0) (.t 1)) [.t 13,.t 3]])] [.tt 13,.tt 3,sb [0],sb []]) (ai (hP R75_2t1 [] [26,27,28,29]) (ai (hX R75_2t2 [26,27,28,29]) (ai (hT R75_3 [5] [30] 31 [] [(30,.t 5)] [.tt 5]) (ai (hT R75_4 [32] [31] 33 [] [(31,.op (.bin .eql (.t 0) (.c (.s (.int .u8 2)))) [.t 30,.c (.s (.int .u8 2))])] [sb [],sb []]) (ai (hU R75_5 [2,3,4,6,7,13,14,30,31] [33] [2,3,4,6,7,13,14,30,31,33,34] 34 [] [(33,.op (.load true 8 (.t 0)) [.t 14])] [sb []]) (ai (hP R75_5t1 [33] [2,3,4,6,7,13,14,30,31,33,34]) (ai (hV R75_5t2 [2,3,4,6,7,13,14,30,31,33,34] [12] 13 [] [(12,.t 34)] [.tt 34]) (ai (hT R75_6 [31,36] [35] 37 [] [(35,.op (.bin .eql (.t 0) (.c (.s (.int .u8 5)))) [.t 30,.c (.s (.int .u8 5))])] [sb [],sb []]) (ai (hT R75_7 [2,3,4,6,7,13,14,30,35,37,38,39,40,41,42,43,44,45,46,47,48,49,50] [12] 51 [] [(12,.pick (.pick (.op (.bin .eql (.t 0) (.c (.s (.int .u8 10)))) [eL (eF 0 (.t 14)),.c (.s (.int .u8 10))]) (.c (.s (.bool true))) (.op (.bin .eql (.t 0) (.c (.s (.int .u8 11)))) [eL (eF 0 (.t 14)),.c (.s (.int .u8 11))])) (.op (.bin .gtr (.t 0) (.c (.s (.int .i64 8)))) [.op (.lenS .s (.t 0)) [eL (eF 6 (.t 14))],.c (.s (.int .i64 8))]) (.c (.s (.bool false))))] [sb [0,0,0,0],sb [0,0,0],sb [0,0],sb [0,0],.sub 0 [0,2,0,0] [40],.sub 0 [0,2,0] [40],.sub 0 [0,2] [40],sb [0],sb [0],.sub 0 [1,0,0,0] [45],.sub 0 [1,0,0] [45],.sub 0 [1,0] [45],.sub 0 [1] [45],sb [],sb []]) (ai (hT R75_8 [35,52] [51] 53 [] [(51,.op (.bin .eql (.t 0) (.c (.s (.int .u8 8)))) [.t 30,.c (.s (.int .u8 8))])] [sb [],sb []]) (ai (hT R75_9 [2,3,4,6,7,13,14,30,51,53,54] [12] 55 [] [(12,.op (.bin .geq (.t 0) (.c (.s (.int .i64 4096)))) [.t 4,.c (.s (.int .i64 4096))])] [.tt 4,sb [],sb []]) (ai (hT R75_10 [4,51,56] [55] 57 [] [(55,.op (.bin .eql (.t 0) (.c (.s (.int .u8 9)))) [.t 30,.c (.s (.int .u8 9))])] [sb [],sb []]) (ai (hU R75_11 [2,3,6,7,13,14,30,55] [57] [2,3,6,7,13,14,30,55,57,58] 58 [] [(57,.op (.load true 8 (.t 0)) [.t 14])] [sb []]) (ai (hP R75_11t1 [57] [2,3,6,7,13,14,30,55,57,58]) (ai (hV R75_11t2 [2,3,6,7,13,14,30,55,57,58] [12] 13 [] [(12,.t 58)] [.tt 58]) (ai (hT R75_12 [55,60] [59] 61 [] [(59,.op (.bin .eql (.t 0) (.c (.s (.int .u8 10)))) [.t 30,.c (.s (.int .u8 10))])] [sb [],sb []]) (ai (hU R75_13 [2,6,7,14,30,59,61] [62] [2,3,6,7,13,14,30,59,61,62,63,64,65,66,67,68,69] 63 [] [(62,eL (eF 0 (.t 14)))] [sb [0],sb []]) (ai (hP R75_13t1 [62] [2,3,6,7,13,14,30,59,61,62,63,64,65,66,67,68,69]) (ai (hV R75_13t2 [2,3,6,7,13,14,30,59,61,62,63,64,65,66,67,68,69] [12] 70 [] [(12,.op (.eqB true (.t 0) (.t 1)) [.t 63,.op (.bin .eql (.t 0) (.t 1)) [.op (.bin .add (.t 0) (.c (.s (.int .i64 1)))) [.t 3,.c (.s (.int .i64 1))],.op (.lenS .s (.t 0)) [.t 13]]])] [.tt 3,sb [1,0],.tt 13,sb [1,1],sb [1],sb [],sb []]) (ai (hT R75_14 [59,71] [70] 72 [] [(70,.op (.bin .eql (.t 0) (.c (.s (.int .u8 11)))) [.t 30,.c (.s (.int .u8 11))])] [sb [],sb []]) (ai (hT R75_15 [6,7,14,30,70,72,73] [74] 75 [] [(74,.op (.bin .neq (.t 0) (.c (.s (.int .u8 6)))) [eL (eF 0 (.t 14)),.c (.s (.int .u8 6))])] [sb [0,0],sb [0],sb []]) (ai (hT R75_16 [2,3,13,74] [12] 13 [] [(12,.c (.s (.bool false)))] [.cc (.s (.bool false))]) (ai (hT R75_17 [74] [15] 16 [] [(15,.c (.s (.int .i64 0)))] [.cc (.s (.int .i64 0))]) (ai (hT R75_18 [75,76] [77] 78 [] [(77,.op (.bin .lss (.t 0) (.t 1)) [.t 15,.t 3])] [.tt 15,.tt 3,sb []]) (ai (hT R75_19 [77,80,81,82,83,84] [85] 86 [] [(85,.op (.bin .neq (.t 0) (.c (.s (.int .u8 6)))) [eL (eF 0 (.op (.indexAddr 8 (.t 0) (.t 1)) [.t 13,.t 15])),.c (.s (.int .u8 6))])] [.tt 13,.tt 15,sb [0,0,0],sb [0,0],sb [0],sb []]) (ai (hT R75_20 [2,3,13,15,85] [12] 13 [] [(12,.c (.s (.bool true)))] [.cc (.s (.bool true))]) (ai (hT R75_21 [78,79,85] [15] 80 [] [(15,.op (.bin .add (.t 0) (.c (.s (.int .i64 1)))) [.t 15,.c (.s (.int .i64 1))])] [.tt 15,sb [],sb []]) (ai (hE aw8 aih) (ai (hT R75_22 [2,3,13,15,77,86,87] [12] 88 [] [(12,.op (.bin .eql (.t 0) (.c (.s (.int .i64 0)))) [.t 2,.c (.s (.int .i64 0))])] [.tt 2,sb [],sb []]) (ai (hT R75_23 [13,70,89] [88] 90 [] [(88,.op (.bin .eql (.t 0) (.c (.s (.int .u8 12)))) [.t 30,.c (.s (.int .u8 12))])] [sb [],sb []]) (ai (hT R75_24 [2,3,6,30,88] [16] 17 [] [(16,.c (.s (.int .i64 0)))] [.cc (.s (.int .i64 0))]) (ai (hT R75_25 [90,91,92,93] [94] 95 [] [(94,.op (.bin .lss (.t 0) (.t 1)) [.t 16,.op (.lenS .s (.t 0)) [eL (eF 7 (.t 14))]])] [.tt 16,sb [1,0,0],sb [1,0],sb [1],sb []]) (ai (hU R75_26 [94,98,99,100,101] [97,102] [94,97,98,99,100,101,102,103] 103 [] [(97,.op (.load true 3 (.t 0)) [.t 7]),(102,eL (.op (.indexAddr 1 (.t 0) (.t 1)) [eL (eF 7 (.t 14)),.t 16]))] [sb [],.sub 1 [0,0,0] [],.sub 1 [0,0] [],.tt 16,.sub 1 [0] [],.sub 1 [] []]) (ai (hP R75_26t1 [97,102] [94,97,98,99,100,101,102,103]) (ai (hV R75_26t2 [94,97,98,99,100,101,102,103] [104] 105 [] [(104,.op (.bin .lss (.t 0) (.c (.s (.int .i64 0)))) [.t 103,.c (.s (.int .i64 0))])] [sb []]) (ai (hT R75_27 [7,14,16,104] [12] 13 [] [(12,.c (.s (.bool true)))] [.cc (.s (.bool true))]) (ai (hT R75_28 [95,96,104] [16] 97 [] [(16,.op (.bin .add (.t 0) (.c (.s (.int .i64 1)))) [.t 16,.c (.s (.int .i64 1))])] [.tt 16,sb [],sb []]) (ai (hE aw7 aig) (ai (hT R75_29 [88,106] [105] 107 [] [(105,.op (.bin .eql (.t 0) (.c (.s (.int .u8 13)))) [.t 30,.c (.s (.int .u8 13))])] [sb [],sb []]) (ai (hU R75_30 [2,3,7,30,105,107,108,109,110,111,112,113,114] [115] [2,3,6,7,14,30,105,107,108,109,110,111,112,113,114,115,116,117,118,119,120,121] 116 [] [(115,.pick (.op (.bin .eql (.t 0) (.c (.s (.int .u8 10)))) [eL (eF 0 (.t 14)),.c (.s (.int .u8 10))]) (.c (.s (.bool true))) (.op (.bin .eql (.t 0) (.c (.s (.int .u8 4)))) [eL (eF 0 (.t 14)),.c (.s (.int .u8 4))]))] [sb [0,0,0],sb [0,0],sb [0],sb [0],.sub 0 [2,0,0] [110],.sub 0 [2,0] [110],.sub 0 [2] [110],sb [],sb []]) (ai (hP R75_30t1 [6] [2,3,6,7,14,30,105,107,108,109,110,111,112,113,114,115,116,117,118,119,120,121]) (ai (hP R75_30t2 [14] [2,3,6,7,14,30,105,107,108,109,110,111,112,113,114,115,116,117,118,119,120,121]) (ai (hP R75_30t3 [117] [2,3,6,7,14,30,105,107,108,109,110,111,112,113,114,115,116,117,118,119,120,121]) (ai (hP R75_30t4 [116,118] [2,3,6,7,14,30,105,107,108,109,110,111,112,113,114,115,116,117,118,119,120,121]) (ai (hV R75_30t5 [2,3,6,7,14,30,105,107,108,109,110,111,112,113,114,115,116,117,118,119,120,121] [12] 122 [] [(12,.pick (.t 115) (.op (.bin .lss (.t 0) (.c (.s (.int .i64 0)))) [.t 119,.c (.s (.int .i64 0))]) (.c (.s (.bool false))))] [.sub 0 [1] [115],sb [],sb []]) (ai (hT R75_31 [105,123] [122] 124 [] [(122,.op (.bin .eql (.t 0) (.c (.s (.int .u8 14)))) [.t 30,.c (.s (.int .u8 14))])] [sb [],sb []]) (ai (hU R75_32 [2,3,7,30,122,125] [124,126] [2,3,7,30,122,124,125,126,127] 127 [] [(124,.op (.load true 1 (.t 0)) [.t 6]),(126,eL (eF 5 (.t 14)))] [sb [],.sub 1 [0] [],.sub 1 [] []]) (ai (hP R75_32t1 [124,126] [2,3,7,30,122,124,125,126,127]) (ai (hV R75_32t2 [2,3,7,30,122,124,125,126,127] [17] 18 [] [(17,.t 127)] [.tt 127]) (ai (hT R75_33 [6,14,17,128,129,130,131,132,133,134,135,136,137,138,139,140,141,142,143,144,145,146,147] [12] 148 [] [(12,.pick (.pick (.op (.bin .eql (.t 0) (.c (.s (.int .u8 10)))) [eL (eF 0 (.t 14)),.c (.s (.int .u8 10))]) (.op (.bin .geq (.t 0) (.c (.s (.int .i64 0)))) [.t 17,.c (.s (.int .i64 0))]) (.c (.s (.bool false)))) (.op (.bin .neq (.t 0) (.t 1)) [.op (.lenS .s (.t 0)) [eL (eF 1 (.op (.indexAddr 3 (.t 0) (.t 1)) [eL (eF 0 (.t 6)),.t 17]))],.op (.lenS .s (.t 0)) [eL (eF 6 (.t 14))]]) (.c (.s (.bool false))))] [sb [0,0,0,0],sb [0,0,0],sb [0,0],sb [0,0],.sub 0 [0,1,0] [131],.sub 0 [0,1] [131],sb [0],sb [0],.sub 0 [1,0,0,0,0,0,0] [135],.sub 0 [1,0,0,0,0,0] [135],.sub 0 [1,0,0,0,0,1] [135],.sub 0 [1,0,0,0,0] [135],.sub 0 [1,0,0,0] [135],.sub 0 [1,0,0] [135],.sub 0 [1,0] [135],.sub 0 [1,1,0,0] [135],.sub 0 [1,1,0] [135],.sub 0 [1,1] [135],.sub 0 [1] [135],sb [],sb []]) (ai (hT R75_34 [6,122,149] [148] 150 [] [(148,.op (.bin .eql (.t 0) (.c (.s (.int .u8 15)))) [.t 30,.c (.s (.int .u8 15))])] [sb [],sb []]) (ai (hU R75_35 [30,148,150,151,152] [153] [2,3,7,14,30,148,150,151,152,153,154,155,156,157,158,159,160,161] 154 [] [(153,.op (.bin .neq (.t 0) (.c (.s (.string ⟨#[]⟩)))) [eL (eF 1 (.t 14)),.c (.s (.string ⟨#[]⟩))])] [sb [0,0],sb [0],sb [],sb []]) (ai (hP R75_35t1 [7] [2,3,7,14,30,148,150,151,152,153,154,155,156,157,158,159,160,161]) (ai (hP R75_35t2 [14] [2,3,7,14,30,148,150,151,152,153,154,155,156,157,158,159,160,161]) (ai (hP R75_35t3 [155] [2,3,7,14,30,148,150,151,152,153,154,155,156,157,158,159,160,161]) (ai (hP R75_35t4 [2] [2,3,7,14,30,148,150,151,152,153,154,155,156,157,158,159,160,161]) (ai (hP R75_35t5 [3] [2,3,7,14,30,148,150,151,152,153,154,155,156,157,158,159,160,161]) (ai (hP R75_35t6 [154,156,157,158] [2,3,7,14,30,148,150,151,152,153,154,155,156,157,158,159,160,161]) (ai (hV R75_35t7 [2,3,7,14,30,148,150,151,152,153,154,155,156,157,158,159,160,161] [12] 162 [] [(12,.pick (.t 153) (.op (.bin .gtr (.t 0) (.c (.s (.int .i64 0)))) [.t 159,.c (.s (.int .i64 0))]) (.c (.s (.bool false))))] [.sub 0 [1] [153],sb [],sb []]) (ai (hT R75_36 [2,3,30,148,163] [162] 164 [] [(162,.op (.bin .eql (.t 0) (.c (.s (.int .u8 16)))) [.t 30,.c (.s (.int .u8 16))])] [sb [],sb []]) (ai (hU R75_37 [14,162] [164] [14,162,164,165] 165 [] [(164,.op (.load true 8 (.t 0)) [.t 14])] [sb []]) (ai (hP R75_37t1 [164] [14,162,164,165]) (ai (hV R75_37t2 [14,162,164,165] [18] 19 [] [(18,.t 165)] [.tt 165]) (ai (hT R75_38 [] [19] 20 [] [(19,.c (.s (.int .i64 0)))] [.cc (.s (.int .i64 0))]) (ai (hT R75_39 [166,167,168] [169] 170 [] [(169,.op (.bin .lss (.t 0) (.t 1)) [.t 19,.op (.lenS .s (.t 0)) [.t 18]])] [.tt 19,.tt 18,sb [1],sb []]) (ai (hU R75_40 [169,173,174,175,177,178] [172,176,179] [169,172,173,174,175,176,177,178,179,180] 180 [] [(172,.op (.load true 3 (.t 0)) [.t 7]),(176,eL (.op (.indexAddr 1 (.t 0) (.t 1)) [.t 18,.t 19])),(179,.op (.lenS .s (.t 0)) [eL (eF 2 (.t 7))])] [sb [],.tt 18,.tt 19,.sub 1 [0] [],.sub 1 [] [],.sub 2 [0,0] [],.sub 2 [0] [],.sub 2 [] []]) (ai (hP R75_40t1 [172,176,179] [169,172,173,174,175,176,177,178,179,180]) (ai (hV R75_40t2 [169,172,173,174,175,176,177,178,179,180] [181] 182 [] [(181,.op (.bin .eql (.t 0) (.c (.s (.int .i64 0)))) [.t 180,.c (.s (.int .i64 0))])] [sb []]) (ai (hT R75_41 [7,18,19,181] [12] 13 [] [(12,.c (.s (.bool true)))] [.cc (.s (.bool true))]) (ai (hT R75_42 [170,171,181] [19] 172 [] [(19,.op (.bin .add (.t 0) (.c (.s (.int .i64 1)))) [.t 19,.c (.s (.int .i64 1))])] [.tt 19,sb [],sb []]) (ai (hE aw6 aif) (ai (hT R75_43 [7,14,16,18,19,94,162,169] [12] 13 [] [(12,.c (.s (.bool false)))] [.cc (.s (.bool false))]) (ai aif.eq_1 (ai aig.eq_1 (aih.eq_1)))))))))))))))))))))))))))))))))))))))))))))))))))))))))))))))))))))))))))))))))))))))))))))))))
def bip:=ai (hT R76_0 K76_0 [] 3 [] [] [.cc (.s (.string ⟨#[]⟩))]) (ai aup (ai (hK K76_0 0) (ai (hT R76_1 [3] [4] 5 [] [(4,.op (.bin .lss (.t 0) (.c (.s (.int .i64 10)))) [.t 0,.c (.s (.int .i64 10))])] [.tt 0,sb []]) (ai (hT R76_2 [0,4,5,6,7,8] [2] 9 [] [(2,.op (.subStr (.c (.s (.string ⟨#[48,49,50,51,52,53,54,55,56,57]⟩))) (some (.t 1)) (some (.t 2))) [.c (.s (.string ⟨#[48,49,50,51,52,53,54,55,56,57]⟩)),.t 0,.op (.bin .add (.t 0) (.c (.s (.int .i64 1)))) [.t 0,.c (.s (.int .i64 1))]])] [.tt 0,.tt 0,sb [2],sb [],sb []]) (ai (hU R76_3 [4,9] [10] [0,4,9,10,11,12,13,14,15,16,17,18] 11 [] [(10,.op (.bin .quo (.t 0) (.c (.s (.int .i64 10)))) [.t 0,.c (.s (.int .i64 10))])] [.tt 0,sb []]) (ai (hP R76_3t1 [10] [0,4,9,10,11,12,13,14,15,16,17,18]) ((hV R76_3t2 [0,4,9,10,11,12,13,14,15,16,17,18] [2] 19 [] [(2,.op (.bin .add (.t 0) (.t 1)) [.t 11,.op (.subStr (.c (.s (.string ⟨#[48,49,50,51,52,53,54,55,56,57]⟩))) (some (.t 1)) (some (.t 2))) [.c (.s (.string ⟨#[48,49,50,51,52,53,54,55,56,57]⟩)),.op (.bin .rem (.t 0) (.c (.s (.int .i64 10)))) [.t 0,.c (.s (.int .i64 10))],.op (.bin .add (.t 0) (.c (.s (.int .i64 1)))) [.op (.bin .rem (.t 0) (.c (.s (.int .i64 10)))) [.t 0,.c (.s (.int .i64 10))],.c (.s (.int .i64 1))]]])] [.tt 0,sb [1,1],.tt 0,sb [1,1],sb [1,2],sb [1],sb [],sb []]))))))))
def ajs:=ai (hT R120_0 K120_0 [] 3 [] [] [.cc (.s (.bool false))]) (ai art (ai (hK K120_0 0) (ai (hT R120_1 [5,6,7,8,9,10,11,12,13,14,15] [16] 17 [] [(16,.pick (.pick (.op (.bin .eql (.t 0) (.c (.s (.int .i64 0)))) [.op (.lenS .p (.t 0)) [.t 0],.c (.s (.int .i64 0))]) (.c (.s (.bool true))) (.op (.bin .gtr (.t 0) (.c (.s (.int .i64 64)))) [.op (.lenS .p (.t 0)) [.t 0],.c (.s (.int .i64 64))])) (.c (.s (.bool true))) (.op (.bin .eql (.t 0) (.c (.s (.string ⟨#[110,117,108,108]⟩)))) [.t 0,.c (.s (.string ⟨#[110,117,108,108]⟩))]))] [.tt 0,sb [0,0,0],sb [0,0],sb [0,0],.sub 0 [0,2,0,0] [8],.sub 0 [0,2,0] [8],.sub 0 [0,2] [8],sb [0],sb [0],.sub 0 [2,0] [13],.sub 0 [2] [13],sb []]) (ai (hT R120_2 [0,16] [2] 3 [] [(2,.c (.s (.bool false)))] [.cc (.s (.bool false))]) (ai (hT R120_3 [16] [3] 4 [] [(3,.c (.s (.int .i64 0)))] [.cc (.s (.int .i64 0))]) (ai (hT R120_4 [17,18,19] [20] 21 [] [(20,.op (.bin .lss (.t 0) (.t 1)) [.t 3,.op (.lenS .p (.t 0)) [.t 0]])] [.tt 3,.tt 0,sb [1],sb []]) (ai (hT R120_5 [20,23,24,25] [4] 26 [] [(4,.op (.indexStr (.t 0) (.t 1)) [.t 0,.t 3])] [.tt 0,.tt 3,sb [],sb []]) (ai (hT R120_6 [26,27,28,29,30,31,32,33,34,35,36,37,38,39,40,41,42] [43] 44 [] [(43,.pick (.pick (.pick (.op (.bin .geq (.t 0) (.c (.s (.int .u8 65)))) [.t 4,.c (.s (.int .u8 65))]) (.op (.bin .leq (.t 0) (.c (.s (.int .u8 90)))) [.t 4,.c (.s (.int .u8 90))]) (.c (.s (.bool false)))) (.c (.s (.bool true))) (.pick (.op (.bin .geq (.t 0) (.c (.s (.int .u8 97)))) [.t 4,.c (.s (.int .u8 97))]) (.op (.bin .leq (.t 0) (.c (.s (.int .u8 122)))) [.t 4,.c (.s (.int .u8 122))]) (.c (.s (.bool false))))) (.c (.s (.bool true))) (.op (.bin .eql (.t 0) (.c (.s (.int .u8 95)))) [.t 4,.c (.s (.int .u8 95))]))] [.tt 4,sb [0,0,0],sb [0,0,0],.sub 0 [0,0,1,0] [28],.sub 0 [0,0,1] [28],sb [0,0],sb [0,0],.sub 0 [0,2,0,0] [32],.sub 0 [0,2,0] [32],.sub 0 [0,2,0] [32],.sub 0 [0,2,1,0] [32,35],.sub 0 [0,2,1] [32,35],.sub 0 [0,2] [32],sb [0],sb [0],.sub 0 [2,0] [40],.sub 0 [2] [40],sb []]) (ai (hT R120_7 [4,43,44,45,46,47,48,49,50,51,52,53,54,55,56] [57] 58 [] [(57,.pick (.op (.bin .gtr (.t 0) (.c (.s (.int .i64 0)))) [.t 3,.c (.s (.int .i64 0))]) (.pick (.pick (.op (.bin .geq (.t 0) (.c (.s (.int .u8 48)))) [.t 4,.c (.s (.int .u8 48))]) (.op (.bin .leq (.t 0) (.c (.s (.int .u8 57)))) [.t 4,.c (.s (.int .u8 57))]) (.c (.s (.bool false)))) (.c (.s (.bool true))) (.op (.bin .eql (.t 0) (.c (.s (.int .u8 46)))) [.t 4,.c (.s (.int .u8 46))])) (.c (.s (.bool false))))] [.tt 3,sb [0],sb [0],.sub 0 [1,0,0,0] [46],.sub 0 [1,0,0] [46],.sub 0 [1,0,0] [46],.sub 0 [1,0,1,0] [46,49],.sub 0 [1,0,1] [46,49],.sub 0 [1,0] [46],.sub 0 [1,0] [46],.sub 0 [1,2,0] [46,53],.sub 0 [1,2] [46,53],.sub 0 [1] [46],sb []]) (ai (hT R120_8 [0,3,57] [2] 3 [] [(2,.c (.s (.bool false)))] [.cc (.s (.bool false))]) (ai (hT R120_9 [4,21,22,43,57] [3] 23 [] [(3,.op (.bin .add (.t 0) (.c (.s (.int .i64 1)))) [.t 3,.c (.s (.int .i64 1))])] [.tt 3,sb [],sb []]) (ai (hE als agf) (ai (hT R120_10 [0,3,20] [2] 3 [] [(2,.c (.s (.bool true)))] [.cc (.s (.bool true))]) (agf.eq_1))))))))))))))
def qy:=ai A122_0p0_0 (ai A122_0p0_1 (ai A122_0p0_2 (ai X122_0 (ai T122_0t1 (ai X122_0t1 (ai A122_0_0 (ai A122_0_1 (ai A122_0_2 (ai T122_1p0 (ai X122_1 (ai X122_1t1 (ai T122_1t2 (ai X122_1t2 (ai (hU R122_2 [] [9] [9,10,11,12,13,14,15,16,17,18,19,20,21,22,23,24,25,26,27,28,29,30,31,32,33,34,35,36,37,38,39,40,41,42,43,44,45,46,47,48,49,50,51,52,53,54,55,56,57,58,59,60,61,62,63,64,65] 10 [] [(9,.t 3)] [.tt 3]) (ai (hP R122_2t1 [9] [9,10,11,12,13,14,15,16,17,18,19,20,21,22,23,24,25,26,27,28,29,30,31,32,33,34,35,36,37,38,39,40,41,42,43,44,45,46,47,48,49,50,51,52,53,54,55,56,57,58,59,60,61,62,63,64,65]) (ai (hU R122_2t2 [10,11,12,13,14,15] [16] [9,10,11,12,13,14,15,16,17,18,19,20,21,22,23,24,25,26,27,28,29,30,31,32,33,34,35,36,37,38,39,40,41,42,43,44,45,46,47,48,49,50,51,52,53,54,55,56,57,58,59,60,61,62,63,64,65] 17 [] [(16,.pick (.t 10) (.op (.bin .neq (.t 0) (.c (.s (.string ⟨#[]⟩)))) [eL (eF 1 (.t 1)),.c (.s (.string ⟨#[]⟩))]) (.c (.s (.bool false))))] [.tt 10,.sub 0 [1,0,0] [11],.sub 0 [1,0] [11],.sub 0 [1] [11],sb [],sb []]) (ai (hP R122_2t3 [] [9,10,11,12,13,14,15,16,17,18,19,20,21,22,23,24,25,26,27,28,29,30,31,32,33,34,35,36,37,38,39,40,41,42,43,44,45,46,47,48,49,50,51,52,53,54,55,56,57,58,59,60,61,62,63,64,65]) (ai (hP R122_2t4 [17] [9,10,11,12,13,14,15,16,17,18,19,20,21,22,23,24,25,26,27,28,29,30,31,32,33,34,35,36,37,38,39,40,41,42,43,44,45,46,47,48,49,50,51,52,53,54,55,56,57,58,59,60,61,62,63,64,65]) (ai (hP R122_2t5 [18] [9,10,11,12,13,14,15,16,17,18,19,20,21,22,23,24,25,26,27,28,29,30,31,32,33,34,35,36,37,38,39,40,41,42,43,44,45,46,47,48,49,50,51,52,53,54,55,56,57,58,59,60,61,62,63,64,65]) (ai (hU R122_2t6 [16,19,20,21] [22] [9,10,11,12,13,14,15,16,17,18,19,20,21,22,23,24,25,26,27,28,29,30,31,32,33,34,35,36,37,38,39,40,41,42,43,44,45,46,47,48,49,50,51,52,53,54,55,56,57,58,59,60,61,62,63,64,65] 23 [] [(22,.pick (.t 16) (.op (.un .not (.t 0)) [.t 19]) (.c (.s (.bool false))))] [.sub 0 [1] [16],sb [],sb []]) (ai (hP R122_2t7 [] [9,10,11,12,13,14,15,16,17,18,19,20,21,22,23,24,25,26,27,28,29,30,31,32,33,34,35,36,37,38,39,40,41,42,43,44,45,46,47,48,49,50,51,52,53,54,55,56,57,58,59,60,61,62,63,64,65]) (ai (hP R122_2t8 [23] [9,10,11,12,13,14,15,16,17,18,19,20,21,22,23,24,25,26,27,28,29,30,31,32,33,34,35,36,37,38,39,40,41,42,43,44,45,46,47,48,49,50,51,52,53,54,55,56,57,58,59,60,61,62,63,64,65]) (ai (hP R122_2t9 [24] [9,10,11,12,13,14,15,16,17,18,19,20,21,22,23,24,25,26,27,28,29,30,31,32,33,34,35,36,37,38,39,40,41,42,43,44,45,46,47,48,49,50,51,52,53,54,55,56,57,58,59,60,61,62,63,64,65]) (ai (hP R122_2t10 [] [9,10,11,12,13,14,15,16,17,18,19,20,21,22,23,24,25,26,27,28,29,30,31,32,33,34,35,36,37,38,39,40,41,42,43,44,45,46,47,48,49,50,51,52,53,54,55,56,57,58,59,60,61,62,63,64,65]) (ai (hP R122_2t11 [26] [9,10,11,12,13,14,15,16,17,18,19,20,21,22,23,24,25,26,27,28,29,30,31,32,33,34,35,36,37,38,39,40,41,42,43,44,45,46,47,48,49,50,51,52,53,54,55,56,57,58,59,60,61,62,63,64,65]) (ai (hP R122_2t12 [27] [9,10,11,12,13,14,15,16,17,18,19,20,21,22,23,24,25,26,27,28,29,30,31,32,33,34,35,36,37,38,39,40,41,42,43,44,45,46,47,48,49,50,51,52,53,54,55,56,57,58,59,60,61,62,63,64,65]) (ai (hP R122_2t13 [25,28] [9,10,11,12,13,14,15,16,17,18,19,20,21,22,23,24,25,26,27,28,29,30,31,32,33,34,35,36,37,38,39,40,41,42,43,44,45,46,47,48,49,50,51,52,53,54,55,56,57,58,59,60,61,62,63,64,65]) (ai (hP R122_2t14 [29] [9,10,11,12,13,14,15,16,17,18,19,20,21,22,23,24,25,26,27,28,29,30,31,32,33,34,35,36,37,38,39,40,41,42,43,44,45,46,47,48,49,50,51,52,53,54,55,56,57,58,59,60,61,62,63,64,65]) (ai (hP R122_2t15 [] [9,10,11,12,13,14,15,16,17,18,19,20,21,22,23,24,25,26,27,28,29,30,31,32,33,34,35,36,37,38,39,40,41,42,43,44,45,46,47,48,49,50,51,52,53,54,55,56,57,58,59,60,61,62,63,64,65]) (ai (hP R122_2t16 [31] [9,10,11,12,13,14,15,16,17,18,19,20,21,22,23,24,25,26,27,28,29,30,31,32,33,34,35,36,37,38,39,40,41,42,43,44,45,46,47,48,49,50,51,52,53,54,55,56,57,58,59,60,61,62,63,64,65]) (ai (hP R122_2t17 [32] [9,10,11,12,13,14,15,16,17,18,19,20,21,22,23,24,25,26,27,28,29,30,31,32,33,34,35,36,37,38,39,40,41,42,43,44,45,46,47,48,49,50,51,52,53,54,55,56,57,58,59,60,61,62,63,64,65]) (ai (hU R122_2t18 [22,30,33,34,35,36] [37] [9,10,11,12,13,14,15,16,17,18,19,20,21,22,23,24,25,26,27,28,29,30,31,32,33,34,35,36,37,38,39,40,41,42,43,44,45,46,47,48,49,50,51,52,53,54,55,56,57,58,59,60,61,62,63,64,65] 38 [([(30,true,.t 30)],.op (.un .not (.t 0)) [.t 33])] [(37,.pick (.t 22) (.c (.s (.bool true))) (.pick (.t 30) (.op (.un .not (.t 0)) [.t 33]) (.c (.s (.bool false)))))] [.keep [(30,true,.t 30)] (.op (.un .not (.t 0)) [.t 33]),.sub 0 [2] [22],sb [],sb []]) (ai (hP R122_2t19 [] [9,10,11,12,13,14,15,16,17,18,19,20,21,22,23,24,25,26,27,28,29,30,31,32,33,34,35,36,37,38,39,40,41,42,43,44,45,46,47,48,49,50,51,52,53,54,55,56,57,58,59,60,61,62,63,64,65]) (ai (hP R122_2t20 [38] [9,10,11,12,13,14,15,16,17,18,19,20,21,22,23,24,25,26,27,28,29,30,31,32,33,34,35,36,37,38,39,40,41,42,43,44,45,46,47,48,49,50,51,52,53,54,55,56,57,58,59,60,61,62,63,64,65]) (ai (hP R122_2t21 [39] [9,10,11,12,13,14,15,16,17,18,19,20,21,22,23,24,25,26,27,28,29,30,31,32,33,34,35,36,37,38,39,40,41,42,43,44,45,46,47,48,49,50,51,52,53,54,55,56,57,58,59,60,61,62,63,64,65]) (ai (hP R122_2t22 [] [9,10,11,12,13,14,15,16,17,18,19,20,21,22,23,24,25,26,27,28,29,30,31,32,33,34,35,36,37,38,39,40,41,42,43,44,45,46,47,48,49,50,51,52,53,54,55,56,57,58,59,60,61,62,63,64,65]) (ai (hP R122_2t23 [41] [9,10,11,12,13,14,15,16,17,18,19,20,21,22,23,24,25,26,27,28,29,30,31,32,33,34,35,36,37,38,39,40,41,42,43,44,45,46,47,48,49,50,51,52,53,54,55,56,57,58,59,60,61,62,63,64,65]) (ai (hP R122_2t24 [42] [9,10,11,12,13,14,15,16,17,18,19,20,21,22,23,24,25,26,27,28,29,30,31,32,33,34,35,36,37,38,39,40,41,42,43,44,45,46,47,48,49,50,51,52,53,54,55,56,57,58,59,60,61,62,63,64,65]) (ai (hP R122_2t25 [40,43] [9,10,11,12,13,14,15,16,17,18,19,20,21,22,23,24,25,26,27,28,29,30,31,32,33,34,35,36,37,38,39,40,41,42,43,44,45,46,47,48,49,50,51,52,53,54,55,56,57,58,59,60,61,62,63,64,65]) (ai (hP R122_2t26 [44] [9,10,11,12,13,14,15,16,17,18,19,20,21,22,23,24,25,26,27,28,29,30,31,32,33,34,35,36,37,38,39,40,41,42,43,44,45,46,47,48,49,50,51,52,53,54,55,56,57,58,59,60,61,62,63,64,65]) (ai (hP R122_2t27 [] [9,10,11,12,13,14,15,16,17,18,19,20,21,22,23,24,25,26,27,28,29,30,31,32,33,34,35,36,37,38,39,40,41,42,43,44,45,46,47,48,49,50,51,52,53,54,55,56,57,58,59,60,61,62,63,64,65]) (ai (hP R122_2t28 [46] [9,10,11,12,13,14,15,16,17,18,19,20,21,22,23,24,25,26,27,28,29,30,31,32,33,34,35,36,37,38,39,40,41,42,43,44,45,46,47,48,49,50,51,52,53,54,55,56,57,58,59,60,61,62,63,64,65]) (ai (hP R122_2t29 [47] [9,10,11,12,13,14,15,16,17,18,19,20,21,22,23,24,25,26,27,28,29,30,31,32,33,34,35,36,37,38,39,40,41,42,43,44,45,46,47,48,49,50,51,52,53,54,55,56,57,58,59,60,61,62,63,64,65]) (ai (hU R122_2t30 [37,45,48,49,50,51] [52] [9,10,11,12,13,14,15,16,17,18,19,20,21,22,23,24,25,26,27,28,29,30,31,32,33,34,35,36,37,38,39,40,41,42,43,44,45,46,47,48,49,50,51,52,53,54,55,56,57,58,59,60,61,62,63,64,65] 53 [([(45,true,.t 45)],.op (.un .not (.t 0)) [.t 48])] [(52,.pick (.t 37) (.c (.s (.bool true))) (.pick (.t 45) (.op (.un .not (.t 0)) [.t 48]) (.c (.s (.bool false)))))] [.keep [(45,true,.t 45)] (.op (.un .not (.t 0)) [.t 48]),.sub 0 [2] [37],sb [],sb []]) (ai (hP R122_2t31 [] [9,10,11,12,13,14,15,16,17,18,19,20,21,22,23,24,25,26,27,28,29,30,31,32,33,34,35,36,37,38,39,40,41,42,43,44,45,46,47,48,49,50,51,52,53,54,55,56,57,58,59,60,61,62,63,64,65]) (ai (hP R122_2t32 [53] [9,10,11,12,13,14,15,16,17,18,19,20,21,22,23,24,25,26,27,28,29,30,31,32,33,34,35,36,37,38,39,40,41,42,43,44,45,46,47,48,49,50,51,52,53,54,55,56,57,58,59,60,61,62,63,64,65]) (ai (hP R122_2t33 [54] [9,10,11,12,13,14,15,16,17,18,19,20,21,22,23,24,25,26,27,28,29,30,31,32,33,34,35,36,37,38,39,40,41,42,43,44,45,46,47,48,49,50,51,52,53,54,55,56,57,58,59,60,61,62,63,64,65]) (ai (hP R122_2t34 [] [9,10,11,12,13,14,15,16,17,18,19,20,21,22,23,24,25,26,27,28,29,30,31,32,33,34,35,36,37,38,39,40,41,42,43,44,45,46,47,48,49,50,51,52,53,54,55,56,57,58,59,60,61,62,63,64,65]) (ai (hP R122_2t35 [56] [9,10,11,12,13,14,15,16,17,18,19,20,21,22,23,24,25,26,27,28,29,30,31,32,33,34,35,36,37,38,39,40,41,42,43,44,45,46,47,48,49,50,51,52,53,54,55,56,57,58,59,60,61,62,63,64,65]) (ai (hP R122_2t36 [57] [9,10,11,12,13,14,15,16,17,18,19,20,21,22,23,24,25,26,27,28,29,30,31,32,33,34,35,36,37,38,39,40,41,42,43,44,45,46,47,48,49,50,51,52,53,54,55,56,57,58,59,60,61,62,63,64,65]) (ai (hP R122_2t37 [55,58] [9,10,11,12,13,14,15,16,17,18,19,20,21,22,23,24,25,26,27,28,29,30,31,32,33,34,35,36,37,38,39,40,41,42,43,44,45,46,47,48,49,50,51,52,53,54,55,56,57,58,59,60,61,62,63,64,65]) (ai (hP R122_2t38 [59] [9,10,11,12,13,14,15,16,17,18,19,20,21,22,23,24,25,26,27,28,29,30,31,32,33,34,35,36,37,38,39,40,41,42,43,44,45,46,47,48,49,50,51,52,53,54,55,56,57,58,59,60,61,62,63,64,65]) (ai (hP R122_2t39 [] [9,10,11,12,13,14,15,16,17,18,19,20,21,22,23,24,25,26,27,28,29,30,31,32,33,34,35,36,37,38,39,40,41,42,43,44,45,46,47,48,49,50,51,52,53,54,55,56,57,58,59,60,61,62,63,64,65]) (ai (hP R122_2t40 [61] [9,10,11,12,13,14,15,16,17,18,19,20,21,22,23,24,25,26,27,28,29,30,31,32,33,34,35,36,37,38,39,40,41,42,43,44,45,46,47,48,49,50,51,52,53,54,55,56,57,58,59,60,61,62,63,64,65]) (ai (hP R122_2t41 [62] [9,10,11,12,13,14,15,16,17,18,19,20,21,22,23,24,25,26,27,28,29,30,31,32,33,34,35,36,37,38,39,40,41,42,43,44,45,46,47,48,49,50,51,52,53,54,55,56,57,58,59,60,61,62,63,64,65]) (ai (hV R122_2t42 [9,10,11,12,13,14,15,16,17,18,19,20,21,22,23,24,25,26,27,28,29,30,31,32,33,34,35,36,37,38,39,40,41,42,43,44,45,46,47,48,49,50,51,52,53,54,55,56,57,58,59,60,61,62,63,64,65] [66] 67 [([(60,true,.t 60)],.op (.un .not (.t 0)) [.t 63])] [(66,.pick (.t 52) (.c (.s (.bool true))) (.pick (.t 60) (.op (.un .not (.t 0)) [.t 63]) (.c (.s (.bool false)))))] [.keep [(60,true,.t 60)] (.op (.un .not (.t 0)) [.t 63]),.sub 0 [2] [52],sb []]) (ai T122_3 (ai T122_4 (ai T122_5 (ai T122_6p0 (ai X122_6 (ai X122_6t1 (ai T122_6p2 (ai X122_6t2 (ai X122_6t3 (ai X122_6t4 (ai X122_6t5 (ai X122_6t6 (ai X122_6t7 (ai X122_6t8 (ai T122_6t9 (ai X122_6t9 (ai T122_7 (ai T122_8 (ai abn (ai T122_9 (ai T122_10 (ai T122_11p0 (ai X122_11 (ai X122_11t1 (ai T122_11p2 (ai X122_11t2 (ai X122_11t3 (ai X122_11t4 (ai X122_11t5 (ai X122_11t6 (ai X122_11t7 (ai X122_11t8 (ai T122_11t9 (ai X122_11t9 (ai T122_12 (ai T122_13 (ai abm (ai T122_14 (ai aal.eq_1 (aam.eq_1))))))))))))))))))))))))))))))))))))))))))))))))))))))))))))))))))))))))))))))))))))))))))))))))
def acj:=ai (hT R146_0 K146_0 [] 3 [] [] [.cc (.s (.string ⟨#[]⟩))]) (ai arj (ai (hK K146_0 0) (ai (hT R146_1 [0] [3] 4 [] [(3,.t 0)] [.tt 0]) (ai (hT R146_2 [5] [4] 6 [] [(4,.op (.bin .eql (.t 0) (.c (.s (.int .u8 1)))) [.t 3,.c (.s (.int .u8 1))])] [sb [],sb []]) (ai (hT R146_3 [6] [4] 7 [] [(4,.op (.bin .eql (.t 0) (.c (.s (.int .u8 2)))) [.t 3,.c (.s (.int .u8 2))])] [sb [],sb []]) (ai (hT R146_4 [3,4] [2] 3 [] [(2,.c (.s (.string ⟨#[100,110]⟩)))] [.cc (.s (.string ⟨#[100,110]⟩))]) (ai (hT R146_5 [4,8] [7] 9 [] [(7,.op (.bin .eql (.t 0) (.c (.s (.int .u8 3)))) [.t 3,.c (.s (.int .u8 3))])] [sb [],sb []]) (ai (hT R146_6 [3,7] [2] 3 [] [(2,.c (.s (.string ⟨#[100,46]⟩)))] [.cc (.s (.string ⟨#[100,46]⟩))]) (ai (hT R146_7 [7,10] [9] 11 [] [(9,.op (.bin .eql (.t 0) (.c (.s (.int .u8 4)))) [.t 3,.c (.s (.int .u8 4))])] [sb [],sb []]) (ai (hT R146_8 [3,9] [2] 3 [] [(2,.c (.s (.string ⟨#[100,102]⟩)))] [.cc (.s (.string ⟨#[100,102]⟩))]) (ai (hT R146_9 [9,12] [11] 13 [] [(11,.op (.bin .eql (.t 0) (.c (.s (.int .u8 5)))) [.t 3,.c (.s (.int .u8 5))])] [sb [],sb []]) (ai (hT R146_10 [13] [11] 14 [] [(11,.op (.bin .eql (.t 0) (.c (.s (.int .u8 8)))) [.t 3,.c (.s (.int .u8 8))])] [sb [],sb []]) (ai (hT R146_11 [3,11] [2] 3 [] [(2,.c (.s (.string ⟨#[100,97]⟩)))] [.cc (.s (.string ⟨#[100,97]⟩))]) (ai (hT R146_12 [11,15] [14] 16 [] [(14,.op (.bin .eql (.t 0) (.c (.s (.int .u8 6)))) [.t 3,.c (.s (.int .u8 6))])] [sb [],sb []]) (ai (hT R146_13 [3,14] [2] 3 [] [(2,.c (.s (.string ⟨#[100,103,108]⟩)))] [.cc (.s (.string ⟨#[100,103,108]⟩))]) (ai (hT R146_14 [14,17] [16] 18 [] [(16,.op (.bin .eql (.t 0) (.c (.s (.int .u8 7)))) [.t 3,.c (.s (.int .u8 7))])] [sb [],sb []]) (ai (hT R146_15 [3,16] [2] 3 [] [(2,.c (.s (.string ⟨#[100,97,110]⟩)))] [.cc (.s (.string ⟨#[100,97,110]⟩))]) (ai (hT R146_16 [16,19] [18] 20 [] [(18,.op (.bin .eql (.t 0) (.c (.s (.int .u8 9)))) [.t 3,.c (.s (.int .u8 9))])] [sb [],sb []]) (ai (hT R146_17 [3,18] [2] 3 [] [(2,.c (.s (.string ⟨#[97,98]⟩)))] [.cc (.s (.string ⟨#[97,98]⟩))]) (ai (hT R146_18 [18,21] [20] 22 [] [(20,.op (.bin .eql (.t 0) (.c (.s (.int .u8 10)))) [.t 3,.c (.s (.int .u8 10))])] [sb [],sb []]) (ai (hT R146_19 [3,20] [2] 3 [] [(2,.c (.s (.string ⟨#[68,102,103]⟩)))] [.cc (.s (.string ⟨#[68,102,103]⟩))]) (ai (hT R146_20 [20,23] [22] 24 [] [(22,.op (.bin .eql (.t 0) (.c (.s (.int .u8 11)))) [.t 3,.c (.s (.int .u8 11))])] [sb [],sb []]) (ai (hT R146_21 [3,22] [2] 3 [] [(2,.c (.s (.string ⟨#[68,97,103]⟩)))] [.cc (.s (.string ⟨#[68,97,103]⟩))]) (ai (hT R146_22 [22,25] [24] 26 [] [(24,.op (.bin .eql (.t 0) (.c (.s (.int .u8 12)))) [.t 3,.c (.s (.int .u8 12))])] [sb [],sb []]) (ai (hT R146_23 [26] [24] 27 [] [(24,.op (.bin .eql (.t 0) (.c (.s (.int .u8 13)))) [.t 3,.c (.s (.int .u8 13))])] [sb [],sb []]) (ai (hT R146_24 [3,24] [2] 3 [] [(2,.c (.s (.string ⟨#[108,46]⟩)))] [.cc (.s (.string ⟨#[108,46]⟩))]) (ai (hT R146_25 [3,24,28] [27] 29 [] [(27,.op (.bin .eql (.t 0) (.c (.s (.int .u8 14)))) [.t 3,.c (.s (.int .u8 14))])] [sb [],sb []]) (ai (hT R146_26 [27] [2] 3 [] [(2,.c (.s (.string ⟨#[65,46]⟩)))] [.cc (.s (.string ⟨#[65,46]⟩))]) ((hT R146_27 [27] [2] 3 [] [(2,.c (.s (.string ⟨#[]⟩)))] [.cc (.s (.string ⟨#[]⟩))]))))))))))))))))))))))))))))))
def atq:=ai (hT R147_0 K147_0 [] 5 [] [] [.cc (.s (.bool false))]) (ai ari (ai (hK K147_0 0) (ai (hK K147_0 1) (ai (hT R147_1 [] [5] 6 [] [(5,.c (.s (.int .i64 0)))] [.cc (.s (.int .i64 0))]) (ai (hT R147_2 [6,7,8] [9] 10 [] [(9,.op (.bin .lss (.t 0) (.t 1)) [.t 5,.op (.lenS .p (.t 0)) [.t 0]])] [.tt 5,.tt 0,sb [1],sb []]) (ai (hT R147_3 [9,12,13,14,15,16,17,18,19,20,21,22,23] [24] 25 [] [(24,.pick (.op (.bin .eql (.t 0) (.t 1)) [.op (.indexStr (.t 0) (.t 1)) [.t 0,.t 5],.t 1]) (.c (.s (.bool true))) (.op (.bin .eql (.t 0) (.t 1)) [.op (.indexStr (.t 0) (.t 1)) [.t 0,.t 5],.op (.bin .sub (.t 0) (.c (.s (.int .u8 32)))) [.t 1,.c (.s (.int .u8 32))]]))] [.tt 0,.tt 5,sb [0,0],.tt 1,sb [0],sb [0],.sub 0 [2,0,0] [17],.sub 0 [2,0,1] [17],.sub 0 [2,0] [17],.sub 0 [2,1,0] [17],.sub 0 [2,1] [17],.sub 0 [2] [17],sb []]) (ai (hT R147_4 [0,1,5,24] [4] 5 [] [(4,.c (.s (.bool true)))] [.cc (.s (.bool true))]) (ai (hT R147_5 [10,11,24] [5] 12 [] [(5,.op (.bin .add (.t 0) (.c (.s (.int .i64 1)))) [.t 5,.c (.s (.int .i64 1))])] [.tt 5,sb [],sb []]) (ai (hE alr agc) (ai (hT R147_6 [0,1,5,9] [4] 5 [] [(4,.c (.s (.bool false)))] [.cc (.s (.bool false))]) (agc.eq_1)))))))))))
def bix:=ai (hT R148_0 K148_0 [] 3 [] [] [.cc (.s (.bool false))]) (ai arh (ai (hK K148_0 0) (ai (hU R148_1 [3,4] [5] [0,3,4,5,6,7,8] 6 [] [(5,.op (.bin .eql (.t 0) (.c (.s (.string ⟨#[110,117,108,108]⟩)))) [.t 0,.c (.s (.string ⟨#[110,117,108,108]⟩))])] [.tt 0,sb [],sb []]) (ai (hP R148_1t1 [0] [0,3,4,5,6,7,8]) (ai (hP R148_1t2 [6] [0,3,4,5,6,7,8]) ((hV R148_1t3 [0,3,4,5,6,7,8] [2] 9 [] [(2,.pick (.t 5) (.c (.s (.bool true))) (.t 7))] [sb [],sb []])))))))
def atp:=ai (hT R149_0 K149_0 [] 5 [] [] [.cc (.s (.bool false))]) (ai arf (ai (hK K149_0 0) (ai (hK K149_0 1) (ai (hT R149_1 [] [5] 6 [] [(5,.c (.s (.int .i64 0)))] [.cc (.s (.int .i64 0))]) (ai (hT R149_2 [6,7,8] [9] 10 [] [(9,.op (.bin .lss (.t 0) (.t 1)) [.t 5,.op (.lenS .p (.t 0)) [.t 0]])] [.tt 5,.tt 0,sb [1],sb []]) (ai (hT R149_3 [9,12,13,14,15] [16] 17 [] [(16,.op (.bin .eql (.t 0) (.t 1)) [.op (.indexStr (.t 0) (.t 1)) [.t 0,.t 5],.t 1])] [.tt 0,.tt 5,sb [0],.tt 1,sb []]) (ai (hT R149_4 [0,1,5,16] [4] 5 [] [(4,.c (.s (.bool true)))] [.cc (.s (.bool true))]) (ai (hT R149_5 [10,11,16] [5] 12 [] [(5,.op (.bin .add (.t 0) (.c (.s (.int .i64 1)))) [.t 5,.c (.s (.int .i64 1))])] [.tt 5,sb [],sb []]) (ai (hE alq agb) (ai (hT R149_6 [0,1,5,9] [4] 5 [] [(4,.c (.s (.bool false)))] [.cc (.s (.bool false))]) (agb.eq_1)))))))))))
theorem be6:qi Tryz.prog PX0 120=some (false,afy.ntmps,afy.results,afy.body.bare):=by kernel_rfl
theorem be3:qi Tryz.prog PX0 146=some (false,zg.ntmps,zg.results,zg.body.bare):=by kernel_rfl
theorem be2:qi Tryz.prog PX0 147=some (false,ahb.ntmps,ahb.results,ahb.body.bare):=by kernel_rfl
theorem be1:qi Tryz.prog PX0 148=some (false,aha.ntmps,aha.results,aha.body.bare):=by kernel_rfl
theorem be0:qi Tryz.prog PX0 149=some (false,ag9.ntmps,ag9.results,ag9.body.bare):=by kernel_rfl
theorem be5:qi Tryz.prog PX0 122=some (false,adf.ntmps,adf.results,adf.body.bare):=by kernel_rfl
theorem be4:qi Tryz.prog PX0 123=some (false,aa4.ntmps,aa4.results,aa4.body.bare):=by kernel_rfl
theorem bi9:qi Tryz.prog PX0 73=some (false,ajx.ntmps,ajx.results,ajx.body.bare):=by kernel_rfl
theorem bi8:qi Tryz.prog PX0 74=some (false,alj.ntmps,alj.results,alj.body.bare):=by kernel_rfl
theorem bi7:qi Tryz.prog PX0 75=some (false,alh.ntmps,alh.results,alh.body.bare):=by kernel_rfl
theorem bjc:qi Tryz.prog PX0 25=some (false,aj1.ntmps,aj1.results,aj1.body.bare):=by kernel_rfl
theorem bjb:qi Tryz.prog PX0 26=some (false,apr.ntmps,apr.results,apr.body.bare):=by kernel_rfl
theorem bi6:qi Tryz.prog PX0 76=some (false,ag0.ntmps,ag0.results,ag0.body.bare):=by kernel_rfl
theorem bja:qi Tryz.prog PX0 27=some (false,uo.ntmps,uo.results,uo.body.bare):=by kernel_rfl
theorem bjd:qi Tryz.prog PX0 11=some (false,ahf.ntmps,ahf.results,ahf.body.bare):=by kernel_rfl
def bhn (c:Int):Bool:=decide (c ≥ 65) && decide (c≤90) || decide (c ≥ 97) && decide (c≤122) || c == 95
def bkc (i:Nat) (c:Int):Bool:=decide ((i:Int) > 0) && (decide (c ≥ 48) && decide (c≤57) || c == 46)
theorem a5t (i:Nat) (c:UInt8):awu i c=(!bhn c.toNat && !bkc i c.toNat):=by
 unfold awu bhn bkc letter;rw [acv];simp only [dx,l6,qm,jq,Bool.and_eq_false_iff,decide_eq_true_eq,decide_eq_false_iff_not,beq_iff_eq,bne_iff_ne,beq_eq_false_iff_ne,ne_eq];omega
theorem a9a (call:ni) (base:Nat) (b:ByteArray) (hb:b.size≤64) (H:Heap):∀ (l:List UInt8) (i:Nat),b.data.toList.drop i=l→i≤b.size→
 itW (evC call itW base als) [] H.length (iw 58 [(0,.s (.string b)),(3,.s (.int .i64 i))]) H=
 bif aee i l then some (.ext 0,iw 58 [(0,.s (.string b)),(3,.s (.int .i64 b.size)),(20,bl false)],H) else some (.ret,iw 58 [(2,bl false)],H):=by
 intro l;have hsz:b.data.toList.length=b.size:=rfl
 induction l with
 | nil=>
   intro i hd hi
   have hin:i=b.size:=by
    have:=congrArg List.length hd;rw [yu,hsz] at this;simp at this;omega
   subst hin;rw [dw];simp only [ajs,aa,simprocAttr,jo,aee]
 | cons c l ih=>
   intro i hd hi
   have hc:b.data.toList[i]?=some c:=by have:=congrArg (·[0]?) hd;simp only [jc] at this;exact this
   have hlt:i < b.size:=by have:=(ae.1 hc).1;omega
   have hi':((i:Int) < (b.size:Int)):=by omega
   have hd':b.data.toList.drop (i+1)=l:=by
    have:=congrArg (List.drop 1) hd
    simpa [y8,apb] using this
   have hw:IntKind.i64.wrap ((i:Int)+1)=((i+1:Nat):Int):=by rw [IntKind.wrap_i64];omega
   have hbad:=a5t i c;rw [dw];simp only [aee,hbad];simp only [ajs,aa,simprocAttr,hi',hc,hw] at ih ⊢;have ih':=ih (i+1) hd' hlt;cases h:bhn c.toNat with
   | true=>
     unfold bhn at h;simp only [h,ajs,aa,simprocAttr,ih']
   | false=>
     cases h2:bkc i c.toNat <;> (unfold bhn at h;unfold bkc at h2;simp only [h,h2,ajs,aa,simprocAttr,ih'])
section
variable {CT:Nat→Option CFun}
theorem adz (hT:CT axo=some (.code afy)) (b:ByteArray) (base:Nat) (H:Heap):dn CT (.fn axo [] []) [.s (.string b)] base H=some (bl (mh b),H):=by
 refine oo (c:=afy) hT (by simp [afy]) ?_
 have e0:((b.data.toList == []):Bool)=((b.size:Int) == 0):=by
  have hsz:b.data.toList.length=b.size:=rfl;rw [acv,beq_iff_eq,beq_iff_eq,← akt,hsz];omega
 simp only [afy,ajs,aa,simprocAttr]
 cases hz:(((b.size:Int) == 0) || decide ((b.size:Int) > 64) || b.data.toList == [110,117,108,108]) with
 | true=>simp only [hz,mh,e0,ajs,aa,simprocAttr]
 | false=>
   have hb:b.size≤64:=by
    simp only [jq,decide_eq_false_iff_not] at hz;have:=hz.1.2;omega
   have hl:=a9a (dn CT) base b hb H b.data.toList 0 rfl (gq _);rw [show ((0:Nat):Int)=0 from rfl] at hl;simp only [mh,hz,e0,hl,ajs,aa,simprocAttr];cases aee 0 b.data.toList <;> simp only [ajs,aa,simprocAttr]
def bd3 (l:List UInt8) (c:Int):Bool:=l.any fun x=>(x.toNat:Int) == c || (x.toNat:Int) == c - 32
def ar9 (l:List UInt8) (c:Int):Bool:=l.any fun x=>(x.toNat:Int) == c
theorem a9e (call:ni) (base:Nat) (b:ByteArray) (hb:b.size≤64) {c:Int} (hc1:97≤c) (hc2:c≤122) (H:Heap):∀ (l:List UInt8) (i:Nat),b.data.toList.drop i=l→i≤b.size→
 itW (evC call itW base alr) [] H.length (iw 25 [(0,.s (.string b)),(1,.s (.int .u8 c)),(5,.s (.int .i64 i))]) H=
 bif bd3 l c then some (.ret,iw 25 [(4,bl true)],H) else some (.ext 0,iw 25 [(0,.s (.string b)),(1,.s (.int .u8 c)),(5,.s (.int .i64 b.size)),(9,bl false)],H):=by
 intro l;have hsz:b.data.toList.length=b.size:=rfl
 have hwc:IntKind.u8.wrap (c - 32)=c - 32:=by rw [IntKind.wrap_u8];omega
 induction l with
 | nil=>
   intro i hd hi
   have hin:i=b.size:=by
    have:=congrArg List.length hd;rw [yu,hsz] at this;simp at this;omega
   subst hin;rw [dw];simp only [atq,aa,simprocAttr,jo,bd3,bkp]
 | cons d l ih=>
   intro i hd hi
   have hc:b.data.toList[i]?=some d:=by have:=congrArg (·[0]?) hd;simp only [jc] at this;exact this
   have hlt:i < b.size:=by have:=(ae.1 hc).1;omega
   have hi':((i:Int) < (b.size:Int)):=by omega
   have hd':b.data.toList.drop (i+1)=l:=by
    have:=congrArg (List.drop 1) hd
    simpa [y8,apb] using this
   have hw:IntKind.i64.wrap ((i:Int)+1)=((i+1:Nat):Int):=by rw [IntKind.wrap_i64];omega
   have ih':=ih (i+1) hd' hlt
   have e:bd3 (d :: l) c=(((d.toNat:Int) == c || (d.toNat:Int) == c - 32) || bd3 l c):=rfl
   rw [dw,e];simp only [atq,aa,simprocAttr,hi',hc,hw,hwc,ih']
   cases h:((d.toNat:Int) == c || (d.toNat:Int) == c - 32) <;> simp only [h,atq,aa,simprocAttr,ih']
theorem bd2 (hT:CT axm=some (.code ahb)) (b:ByteArray) (hb:b.size≤64) {c:Int} (hc1:97≤c) (hc2:c≤122) (base:Nat) (H:Heap):dn CT (.fn axm [] []) [.s (.string b),.s (.int .u8 c)] base H=some (bl (bd3 b.data.toList c),H):=by
 refine oo (c:=ahb) hT (by simp [ahb]) ?_
 have hl:=a9e (dn CT) base b hb hc1 hc2 H b.data.toList 0 rfl (gq _);rw [show ((0:Nat):Int)=0 from rfl] at hl;simp only [ahb,atq,aa,simprocAttr,hl];cases bd3 b.data.toList c <;> simp only [atq,aa,simprocAttr]
theorem a2i (call:ni) (base:Nat) (b:ByteArray) (hb:b.size≤64) {c:Int} (H:Heap):∀ (l:List UInt8) (i:Nat),b.data.toList.drop i=l→i≤b.size→
 itW (evC call itW base alq) [] H.length (iw 17 [(0,.s (.string b)),(1,.s (.int .u8 c)),(5,.s (.int .i64 i))]) H=
 bif ar9 l c then some (.ret,iw 17 [(4,bl true)],H) else some (.ext 0,iw 17 [(0,.s (.string b)),(1,.s (.int .u8 c)),(5,.s (.int .i64 b.size)),(9,bl false)],H):=by
 intro l;have hsz:b.data.toList.length=b.size:=rfl
 induction l with
 | nil=>
   intro i hd hi
   have hin:i=b.size:=by
    have:=congrArg List.length hd;rw [yu,hsz] at this;simp at this;omega
   subst hin;rw [dw];simp only [atp,aa,simprocAttr,jo,ar9,bkp]
 | cons d l ih=>
   intro i hd hi
   have hc:b.data.toList[i]?=some d:=by have:=congrArg (·[0]?) hd;simp only [jc] at this;exact this
   have hlt:i < b.size:=by have:=(ae.1 hc).1;omega
   have hi':((i:Int) < (b.size:Int)):=by omega
   have hd':b.data.toList.drop (i+1)=l:=by
    have:=congrArg (List.drop 1) hd
    simpa [y8,apb] using this
   have hw:IntKind.i64.wrap ((i:Int)+1)=((i+1:Nat):Int):=by rw [IntKind.wrap_i64];omega
   have ih':=ih (i+1) hd' hlt
   have e:ar9 (d :: l) c=(((d.toNat:Int) == c) || ar9 l c):=rfl
   rw [dw,e];simp only [atp,aa,simprocAttr,hi',hc,hw,ih'];cases h:((d.toNat:Int) == c) <;> simp only [h,atp,aa,simprocAttr,ih']
theorem a8m (hT:CT axl=some (.code ag9)) (b:ByteArray) (hb:b.size≤64) {c:Int} (base:Nat) (H:Heap):dn CT (.fn axl [] []) [.s (.string b),.s (.int .u8 c)] base H=some (bl (ar9 b.data.toList c),H):=by
 refine oo (c:=ag9) hT (by simp [ag9]) ?_
 have hl:=a2i (dn CT) base b hb (c:=c) H b.data.toList 0 rfl (gq _);rw [show ((0:Nat):Int)=0 from rfl] at hl;simp only [ag9,atp,aa,simprocAttr,hl];cases ar9 b.data.toList c <;> simp only [atp,aa,simprocAttr]
def aey (b:ByteArray):Bool:=b.data.toList == [110,117,108,108] || mh b
theorem akl (hI:CT axo=some (.code afy)) (hT:CT a2s=some (.code aha)) (b:ByteArray) (base:Nat) (H:Heap):dn CT (.fn a2s [] []) [.s (.string b)] base H=some (bl (aey b),H):=by
 refine oo (c:=aha) hT (by simp [aha]) ?_
 have hi:=adz hI b base H;unfold aey;cases h:(b.data.toList == [110,117,108,108]) <;> simp only [aha,bix,aa,simprocAttr,h,hi]
end
def z8 (n:Int):ByteArray:=if n=1 then ⟨#[100,110]⟩ else if n=2 then ⟨#[100,110]⟩ else if n=3 then ⟨#[100,46]⟩ else if n=4 then ⟨#[100,102]⟩ else if n=5 then ⟨#[100,97]⟩ else if n=8 then ⟨#[100,97]⟩ else if n=6 then ⟨#[100,103,108]⟩ else if n=7 then ⟨#[100,97,110]⟩ else if n=9 then ⟨#[97,98]⟩ else if n=10 then ⟨#[68,102,103]⟩ else if n=11 then ⟨#[68,97,103]⟩ else if n=12 then ⟨#[108,46]⟩ else if n=13 then ⟨#[108,46]⟩ else if n=14 then ⟨#[65,46]⟩ else ⟨#[]⟩
theorem a4d (n:Int):(z8 n).size≤64:=by
 by_cases h1:n=1
 ·subst h1;decide
 by_cases h2:n=2
 ·subst h2;decide
 by_cases h3:n=3
 ·subst h3;decide
 by_cases h4:n=4
 ·subst h4;decide
 by_cases h5:n=5
 ·subst h5;decide
 by_cases h8:n=8
 ·subst h8;decide
 by_cases h6:n=6
 ·subst h6;decide
 by_cases h7:n=7
 ·subst h7;decide
 by_cases h9:n=9
 ·subst h9;decide
 by_cases h10:n=10
 ·subst h10;decide
 by_cases h11:n=11
 ·subst h11;decide
 by_cases h12:n=12
 ·subst h12;decide
 by_cases h13:n=13
 ·subst h13;decide
 by_cases h14:n=14
 ·subst h14;decide
 have e:z8 n=⟨#[]⟩:=by unfold z8;simp only [h1,h2,h3,h4,h5,h8,h6,h7,h9,h10,h11,h12,h13,h14,if_false]
 rw [e];decide
section
variable {CT:Nat→Option CFun}
theorem a4c (hT:CT a2t=some (.code zg)) (n:Int) (base:Nat) (H:Heap):dn CT (.fn a2t [] []) [.s (.int .u8 n)] base H=some (Sb (z8 n),H):=by
 refine oo (c:=zg) hT (by simp [zg]) ?_
 by_cases h1:n=1
 ·subst h1;have e:z8 1=⟨#[100,110]⟩:=rfl;simp only [e,Sb,zg,acj,aa,simprocAttr,show ((1:Int) == 1)=true from rfl,show ((1:Int) == 2)=false from rfl,show ((1:Int) == 3)=false from rfl,show ((1:Int) == 4)=false from rfl,show ((1:Int) == 5)=false from rfl,show ((1:Int) == 6)=false from rfl,show ((1:Int) == 7)=false from rfl,show ((1:Int) == 8)=false from rfl,show ((1:Int) == 9)=false from rfl,show ((1:Int) == 10)=false from rfl,show ((1:Int) == 11)=false from rfl,show ((1:Int) == 12)=false from rfl,show ((1:Int) == 13)=false from rfl,show ((1:Int) == 14)=false from rfl]
 by_cases h2:n=2
 ·subst h2;have e:z8 2=⟨#[100,110]⟩:=rfl;simp only [e,Sb,zg,acj,aa,simprocAttr,show ((2:Int) == 1)=false from rfl,show ((2:Int) == 2)=true from rfl,show ((2:Int) == 3)=false from rfl,show ((2:Int) == 4)=false from rfl,show ((2:Int) == 5)=false from rfl,show ((2:Int) == 6)=false from rfl,show ((2:Int) == 7)=false from rfl,show ((2:Int) == 8)=false from rfl,show ((2:Int) == 9)=false from rfl,show ((2:Int) == 10)=false from rfl,show ((2:Int) == 11)=false from rfl,show ((2:Int) == 12)=false from rfl,show ((2:Int) == 13)=false from rfl,show ((2:Int) == 14)=false from rfl]
 by_cases h3:n=3
 ·subst h3;have e:z8 3=⟨#[100,46]⟩:=rfl;simp only [e,Sb,zg,acj,aa,simprocAttr,show ((3:Int) == 1)=false from rfl,show ((3:Int) == 2)=false from rfl,show ((3:Int) == 3)=true from rfl,show ((3:Int) == 4)=false from rfl,show ((3:Int) == 5)=false from rfl,show ((3:Int) == 6)=false from rfl,show ((3:Int) == 7)=false from rfl,show ((3:Int) == 8)=false from rfl,show ((3:Int) == 9)=false from rfl,show ((3:Int) == 10)=false from rfl,show ((3:Int) == 11)=false from rfl,show ((3:Int) == 12)=false from rfl,show ((3:Int) == 13)=false from rfl,show ((3:Int) == 14)=false from rfl]
 by_cases h4:n=4
 ·subst h4;have e:z8 4=⟨#[100,102]⟩:=rfl;simp only [e,Sb,zg,acj,aa,simprocAttr,show ((4:Int) == 1)=false from rfl,show ((4:Int) == 2)=false from rfl,show ((4:Int) == 3)=false from rfl,show ((4:Int) == 4)=true from rfl,show ((4:Int) == 5)=false from rfl,show ((4:Int) == 6)=false from rfl,show ((4:Int) == 7)=false from rfl,show ((4:Int) == 8)=false from rfl,show ((4:Int) == 9)=false from rfl,show ((4:Int) == 10)=false from rfl,show ((4:Int) == 11)=false from rfl,show ((4:Int) == 12)=false from rfl,show ((4:Int) == 13)=false from rfl,show ((4:Int) == 14)=false from rfl]
 by_cases h5:n=5
 ·subst h5;have e:z8 5=⟨#[100,97]⟩:=rfl;simp only [e,Sb,zg,acj,aa,simprocAttr,show ((5:Int) == 1)=false from rfl,show ((5:Int) == 2)=false from rfl,show ((5:Int) == 3)=false from rfl,show ((5:Int) == 4)=false from rfl,show ((5:Int) == 5)=true from rfl,show ((5:Int) == 6)=false from rfl,show ((5:Int) == 7)=false from rfl,show ((5:Int) == 8)=false from rfl,show ((5:Int) == 9)=false from rfl,show ((5:Int) == 10)=false from rfl,show ((5:Int) == 11)=false from rfl,show ((5:Int) == 12)=false from rfl,show ((5:Int) == 13)=false from rfl,show ((5:Int) == 14)=false from rfl]
 by_cases h8:n=8
 ·subst h8;have e:z8 8=⟨#[100,97]⟩:=rfl;simp only [e,Sb,zg,acj,aa,simprocAttr,show ((8:Int) == 1)=false from rfl,show ((8:Int) == 2)=false from rfl,show ((8:Int) == 3)=false from rfl,show ((8:Int) == 4)=false from rfl,show ((8:Int) == 5)=false from rfl,show ((8:Int) == 6)=false from rfl,show ((8:Int) == 7)=false from rfl,show ((8:Int) == 8)=true from rfl,show ((8:Int) == 9)=false from rfl,show ((8:Int) == 10)=false from rfl,show ((8:Int) == 11)=false from rfl,show ((8:Int) == 12)=false from rfl,show ((8:Int) == 13)=false from rfl,show ((8:Int) == 14)=false from rfl]
 by_cases h6:n=6
 ·subst h6;have e:z8 6=⟨#[100,103,108]⟩:=rfl;simp only [e,Sb,zg,acj,aa,simprocAttr,show ((6:Int) == 1)=false from rfl,show ((6:Int) == 2)=false from rfl,show ((6:Int) == 3)=false from rfl,show ((6:Int) == 4)=false from rfl,show ((6:Int) == 5)=false from rfl,show ((6:Int) == 6)=true from rfl,show ((6:Int) == 7)=false from rfl,show ((6:Int) == 8)=false from rfl,show ((6:Int) == 9)=false from rfl,show ((6:Int) == 10)=false from rfl,show ((6:Int) == 11)=false from rfl,show ((6:Int) == 12)=false from rfl,show ((6:Int) == 13)=false from rfl,show ((6:Int) == 14)=false from rfl]
 by_cases h7:n=7
 ·subst h7;have e:z8 7=⟨#[100,97,110]⟩:=rfl;simp only [e,Sb,zg,acj,aa,simprocAttr,show ((7:Int) == 1)=false from rfl,show ((7:Int) == 2)=false from rfl,show ((7:Int) == 3)=false from rfl,show ((7:Int) == 4)=false from rfl,show ((7:Int) == 5)=false from rfl,show ((7:Int) == 6)=false from rfl,show ((7:Int) == 7)=true from rfl,show ((7:Int) == 8)=false from rfl,show ((7:Int) == 9)=false from rfl,show ((7:Int) == 10)=false from rfl,show ((7:Int) == 11)=false from rfl,show ((7:Int) == 12)=false from rfl,show ((7:Int) == 13)=false from rfl,show ((7:Int) == 14)=false from rfl]
 by_cases h9:n=9
 ·subst h9;have e:z8 9=⟨#[97,98]⟩:=rfl;simp only [e,Sb,zg,acj,aa,simprocAttr,show ((9:Int) == 1)=false from rfl,show ((9:Int) == 2)=false from rfl,show ((9:Int) == 3)=false from rfl,show ((9:Int) == 4)=false from rfl,show ((9:Int) == 5)=false from rfl,show ((9:Int) == 6)=false from rfl,show ((9:Int) == 7)=false from rfl,show ((9:Int) == 8)=false from rfl,show ((9:Int) == 9)=true from rfl,show ((9:Int) == 10)=false from rfl,show ((9:Int) == 11)=false from rfl,show ((9:Int) == 12)=false from rfl,show ((9:Int) == 13)=false from rfl,show ((9:Int) == 14)=false from rfl]
 by_cases h10:n=10
 ·subst h10;have e:z8 10=⟨#[68,102,103]⟩:=rfl;simp only [e,Sb,zg,acj,aa,simprocAttr,show ((10:Int) == 1)=false from rfl,show ((10:Int) == 2)=false from rfl,show ((10:Int) == 3)=false from rfl,show ((10:Int) == 4)=false from rfl,show ((10:Int) == 5)=false from rfl,show ((10:Int) == 6)=false from rfl,show ((10:Int) == 7)=false from rfl,show ((10:Int) == 8)=false from rfl,show ((10:Int) == 9)=false from rfl,show ((10:Int) == 10)=true from rfl,show ((10:Int) == 11)=false from rfl,show ((10:Int) == 12)=false from rfl,show ((10:Int) == 13)=false from rfl,show ((10:Int) == 14)=false from rfl]
 by_cases h11:n=11
 ·subst h11;have e:z8 11=⟨#[68,97,103]⟩:=rfl;simp only [e,Sb,zg,acj,aa,simprocAttr,show ((11:Int) == 1)=false from rfl,show ((11:Int) == 2)=false from rfl,show ((11:Int) == 3)=false from rfl,show ((11:Int) == 4)=false from rfl,show ((11:Int) == 5)=false from rfl,show ((11:Int) == 6)=false from rfl,show ((11:Int) == 7)=false from rfl,show ((11:Int) == 8)=false from rfl,show ((11:Int) == 9)=false from rfl,show ((11:Int) == 10)=false from rfl,show ((11:Int) == 11)=true from rfl,show ((11:Int) == 12)=false from rfl,show ((11:Int) == 13)=false from rfl,show ((11:Int) == 14)=false from rfl]
 by_cases h12:n=12
 ·subst h12;have e:z8 12=⟨#[108,46]⟩:=rfl;simp only [e,Sb,zg,acj,aa,simprocAttr,show ((12:Int) == 1)=false from rfl,show ((12:Int) == 2)=false from rfl,show ((12:Int) == 3)=false from rfl,show ((12:Int) == 4)=false from rfl,show ((12:Int) == 5)=false from rfl,show ((12:Int) == 6)=false from rfl,show ((12:Int) == 7)=false from rfl,show ((12:Int) == 8)=false from rfl,show ((12:Int) == 9)=false from rfl,show ((12:Int) == 10)=false from rfl,show ((12:Int) == 11)=false from rfl,show ((12:Int) == 12)=true from rfl,show ((12:Int) == 13)=false from rfl,show ((12:Int) == 14)=false from rfl]
 by_cases h13:n=13
 ·subst h13;have e:z8 13=⟨#[108,46]⟩:=rfl;simp only [e,Sb,zg,acj,aa,simprocAttr,show ((13:Int) == 1)=false from rfl,show ((13:Int) == 2)=false from rfl,show ((13:Int) == 3)=false from rfl,show ((13:Int) == 4)=false from rfl,show ((13:Int) == 5)=false from rfl,show ((13:Int) == 6)=false from rfl,show ((13:Int) == 7)=false from rfl,show ((13:Int) == 8)=false from rfl,show ((13:Int) == 9)=false from rfl,show ((13:Int) == 10)=false from rfl,show ((13:Int) == 11)=false from rfl,show ((13:Int) == 12)=false from rfl,show ((13:Int) == 13)=true from rfl,show ((13:Int) == 14)=false from rfl]
 by_cases h14:n=14
 ·subst h14;have e:z8 14=⟨#[65,46]⟩:=rfl;simp only [e,Sb,zg,acj,aa,simprocAttr,show ((14:Int) == 1)=false from rfl,show ((14:Int) == 2)=false from rfl,show ((14:Int) == 3)=false from rfl,show ((14:Int) == 4)=false from rfl,show ((14:Int) == 5)=false from rfl,show ((14:Int) == 6)=false from rfl,show ((14:Int) == 7)=false from rfl,show ((14:Int) == 8)=false from rfl,show ((14:Int) == 9)=false from rfl,show ((14:Int) == 10)=false from rfl,show ((14:Int) == 11)=false from rfl,show ((14:Int) == 12)=false from rfl,show ((14:Int) == 13)=false from rfl,show ((14:Int) == 14)=true from rfl]
 have e:z8 n=⟨#[]⟩:=by unfold z8;simp only [h1,h2,h3,h4,h5,h8,h6,h7,h9,h10,h11,h12,h13,h14,if_false]
 have b1:(n == 1)=false:=by simpa using h1
 have b2:(n == 2)=false:=by simpa using h2
 have b3:(n == 3)=false:=by simpa using h3
 have b4:(n == 4)=false:=by simpa using h4
 have b5:(n == 5)=false:=by simpa using h5
 have b8:(n == 8)=false:=by simpa using h8
 have b6:(n == 6)=false:=by simpa using h6
 have b7:(n == 7)=false:=by simpa using h7
 have b9:(n == 9)=false:=by simpa using h9
 have b10:(n == 10)=false:=by simpa using h10
 have b11:(n == 11)=false:=by simpa using h11
 have b12:(n == 12)=false:=by simpa using h12
 have b13:(n == 13)=false:=by simpa using h13
 have b14:(n == 14)=false:=by simpa using h14
 simp only [e,Sb,zg,acj,aa,simprocAttr,b1,b2,b3,b4,b5,b8,b6,b7,b9,b10,b11,b12,b13,b14]
end
def hR (n:Int) (c:Int):Bool:=bd3 (z8 n).data.toList c
def mR (n:Int) (c:Int):Bool:=ar9 (z8 n).data.toList c
theorem bba (n:Int):hR n 100=(shp n).d∧hR n 97=(shp n).a∧hR n 98=(shp n).b∧hR n 110=(shp n).k∧hR n 102=(shp n).f∧hR n 103=(shp n).xs∧hR n 108=(shp n).ls:=by
 by_cases h1:n=1
 ·subst h1;decide
 by_cases h2:n=2
 ·subst h2;decide
 by_cases h3:n=3
 ·subst h3;decide
 by_cases h4:n=4
 ·subst h4;decide
 by_cases h5:n=5
 ·subst h5;decide
 by_cases h8:n=8
 ·subst h8;decide
 by_cases h6:n=6
 ·subst h6;decide
 by_cases h7:n=7
 ·subst h7;decide
 by_cases h9:n=9
 ·subst h9;decide
 by_cases h10:n=10
 ·subst h10;decide
 by_cases h11:n=11
 ·subst h11;decide
 by_cases h12:n=12
 ·subst h12;decide
 by_cases h13:n=13
 ·subst h13;decide
 by_cases h14:n=14
 ·subst h14;decide
 have e:z8 n=⟨#[]⟩:=by unfold z8;simp only [h1,h2,h3,h4,h5,h8,h6,h7,h9,h10,h11,h12,h13,h14,if_false]
 have e2:shp n=⟨false,false,false,false,false,false,false⟩:=by unfold shp;simp only [h1,h2,h3,h4,h5,h8,h6,h7,h9,h10,h11,h12,h13,h14,if_false]
 unfold hR;rw [e,e2];decide
theorem bhl (n:Int):mR n 100=((shp n).d && !(n == 10 || n == 11))∧mR n 97=((shp n).a && n != 14)∧mR n 98=(shp n).b∧mR n 102=(shp n).f∧((z8 n).data.toList == [])=!(ae2 shT n).isSome:=by
 by_cases h1:n=1
 ·subst h1;decide
 by_cases h2:n=2
 ·subst h2;decide
 by_cases h3:n=3
 ·subst h3;decide
 by_cases h4:n=4
 ·subst h4;decide
 by_cases h5:n=5
 ·subst h5;decide
 by_cases h8:n=8
 ·subst h8;decide
 by_cases h6:n=6
 ·subst h6;decide
 by_cases h7:n=7
 ·subst h7;decide
 by_cases h9:n=9
 ·subst h9;decide
 by_cases h10:n=10
 ·subst h10;decide
 by_cases h11:n=11
 ·subst h11;decide
 by_cases h12:n=12
 ·subst h12;decide
 by_cases h13:n=13
 ·subst h13;decide
 by_cases h14:n=14
 ·subst h14;decide
 have e:z8 n=⟨#[]⟩:=by unfold z8;simp only [h1,h2,h3,h4,h5,h8,h6,h7,h9,h10,h11,h12,h13,h14,if_false]
 have e2:shp n=⟨false,false,false,false,false,false,false⟩:=by unfold shp;simp only [h1,h2,h3,h4,h5,h8,h6,h7,h9,h10,h11,h12,h13,h14,if_false]
 have e3:(ae2 shT n).isSome=false:=by
  rw [bg0];unfold shT;simp only [List.any_cons,bkp,decide_eq_false (su h1),decide_eq_false (su h2),decide_eq_false (su h3),decide_eq_false (su h4),decide_eq_false (su h5),decide_eq_false (su h8),decide_eq_false (su h6),decide_eq_false (su h7),decide_eq_false (su h9),decide_eq_false (su h10),decide_eq_false (su h11),decide_eq_false (su h12),decide_eq_false (su h13),decide_eq_false (su h14),mo]
 unfold mR;rw [e,e2,e3];simp [ar9]
def rbA (x:InsD):Bool:=(((hR x.op 100 && !(x.d.data.toList == []) && !mh x.d) || (hR x.op 102 && !(x.f.data.toList == []) && !mh x.f)) || (hR x.op 97 && !(x.a.data.toList == []) && !aey x.a)) || (hR x.op 98 && !(x.b.data.toList == []) && !aey x.b)
theorem qn2 (q n:Bool):q=true∨(q=false∧n=true)∨(q=false∧n=false):=by cases q <;> cases n <;> simp
structure R5T (CT:Nat→Option CFun):Prop where
 is':CT axo=some (.code afy)
 has:CT axm=some (.code ahb)
 must:CT axl=some (.code ag9)
 oper:CT a2s=some (.code aha)
 fld:CT a2t=some (.code zg)
section
variable {CT:Nat→Option CFun}
theorem R5T.h (h:R5T CT) (n:Int) {c:Int} (h1:97≤c) (h2:c≤122) (base:Nat) (H:Heap):dn CT (.fn axm [] []) [.s (.string (z8 n)),.s (.int .u8 c)] base H=some (bl (hR n c),H):=bd2 h.has _ (a4d n) h1 h2 base H
theorem R5T.m (h:R5T CT) (n:Int) {c:Int} (base:Nat) (H:Heap):dn CT (.fn axl [] []) [.s (.string (z8 n)),.s (.int .u8 c)] base H=some (bl (mR n c),H):=a8m h.must _ (a4d n) base H
theorem ab9 {call:ni} {it:zt} {base:Nat} (a b:List AOper) {ka kill:List Nat} (h:aqi ka b kill=true) {f f1:List V} {H:Heap} (h1:mi call base a f H=some (f1,H)):qb call it base (a ++ b) kill f H=evC call it base (.region b [] kill) (ru ka f1) H:=by
 have e1:evC call it base (.region (a ++ b) [] kill) f H=evC call it base (.region b [] kill) f1 H:=by
  simp only [evC,amu,h1];cases mi call base b f1 H <;> rfl
 unfold qb;rw [e1,aly call it base h]
theorem ah7 (base:Nat) (H:Heap) {v1 v3:V}:qb (dn CT) itW base R122_2t18 [9,10,11,12,13,14,15,16,17,18,19,20,21,22,23,24,25,26,27,28,29,30,31,32,33,34,35,36,37,38,39,40,41,42,43,44,45,46,47,48,49,50,51,52,53,54,55,56,57,58,59,60,61,62,63,64,65] (iw 103 [(1,v1),(3,v3),(22,V.s (Value.bool true)),(30,und),(33,und)]) H=evC (dn CT) itW base (.region R122_2t19 [] [9,10,11,12,13,14,15,16,17,18,19,20,21,22,23,24,25,26,27,28,29,30,31,32,33,34,35,36,37,38,39,40,41,42,43,44,45,46,47,48,49,50,51,52,53,54,55,56,57,58,59,60,61,62,63,64,65]) (iw 103 [(1,v1),(3,v3),(37,V.s (Value.bool true))]) H:=by
 refine (ab9 R122_2p18 R122_2t19 (ka:=[22,30,33,34,35,36]) (by kernel_rfl) (f1:=iw 103 [(1,v1),(3,v3),(22,V.s (Value.bool true)),(30,und),(33,und),(34,und),(35,und),(36,V.s (Value.bool true)),(37,V.s (Value.bool true))]) (by rfl)).trans ?_
 rfl
theorem ah6 (base:Nat) (H:Heap) {v1 v3:V}:qb (dn CT) itW base R122_2t18 [9,10,11,12,13,14,15,16,17,18,19,20,21,22,23,24,25,26,27,28,29,30,31,32,33,34,35,36,37,38,39,40,41,42,43,44,45,46,47,48,49,50,51,52,53,54,55,56,57,58,59,60,61,62,63,64,65] (iw 103 [(1,v1),(3,v3),(22,V.s (Value.bool false)),(30,V.s (Value.bool false)),(33,und)]) H=evC (dn CT) itW base (.region R122_2t19 [] [9,10,11,12,13,14,15,16,17,18,19,20,21,22,23,24,25,26,27,28,29,30,31,32,33,34,35,36,37,38,39,40,41,42,43,44,45,46,47,48,49,50,51,52,53,54,55,56,57,58,59,60,61,62,63,64,65]) (iw 103 [(1,v1),(3,v3),(37,V.s (Value.bool false))]) H:=by
 refine (ab9 R122_2p18 R122_2t19 (ka:=[22,30,33,34,35,36]) (by kernel_rfl) (f1:=iw 103 [(1,v1),(3,v3),(22,V.s (Value.bool false)),(30,V.s (Value.bool false)),(33,und),(34,und),(35,V.s (Value.bool false)),(36,V.s (Value.bool false)),(37,V.s (Value.bool false))]) (by rfl)).trans ?_
 rfl
theorem ah5 (base:Nat) (H:Heap) {v1 v3:V}:qb (dn CT) itW base R122_2t30 [9,10,11,12,13,14,15,16,17,18,19,20,21,22,23,24,25,26,27,28,29,30,31,32,33,34,35,36,37,38,39,40,41,42,43,44,45,46,47,48,49,50,51,52,53,54,55,56,57,58,59,60,61,62,63,64,65] (iw 103 [(1,v1),(3,v3),(37,V.s (Value.bool true)),(45,und),(48,und)]) H=evC (dn CT) itW base (.region R122_2t31 [] [9,10,11,12,13,14,15,16,17,18,19,20,21,22,23,24,25,26,27,28,29,30,31,32,33,34,35,36,37,38,39,40,41,42,43,44,45,46,47,48,49,50,51,52,53,54,55,56,57,58,59,60,61,62,63,64,65]) (iw 103 [(1,v1),(3,v3),(52,V.s (Value.bool true))]) H:=by
 refine (ab9 R122_2p30 R122_2t31 (ka:=[37,45,48,49,50,51]) (by kernel_rfl) (f1:=iw 103 [(1,v1),(3,v3),(37,V.s (Value.bool true)),(45,und),(48,und),(49,und),(50,und),(51,V.s (Value.bool true)),(52,V.s (Value.bool true))]) (by rfl)).trans ?_
 rfl
theorem ah4 (base:Nat) (H:Heap) {v1 v3:V}:qb (dn CT) itW base R122_2t30 [9,10,11,12,13,14,15,16,17,18,19,20,21,22,23,24,25,26,27,28,29,30,31,32,33,34,35,36,37,38,39,40,41,42,43,44,45,46,47,48,49,50,51,52,53,54,55,56,57,58,59,60,61,62,63,64,65] (iw 103 [(1,v1),(3,v3),(37,V.s (Value.bool false)),(45,V.s (Value.bool false)),(48,und)]) H=evC (dn CT) itW base (.region R122_2t31 [] [9,10,11,12,13,14,15,16,17,18,19,20,21,22,23,24,25,26,27,28,29,30,31,32,33,34,35,36,37,38,39,40,41,42,43,44,45,46,47,48,49,50,51,52,53,54,55,56,57,58,59,60,61,62,63,64,65]) (iw 103 [(1,v1),(3,v3),(52,V.s (Value.bool false))]) H:=by
 refine (ab9 R122_2p30 R122_2t31 (ka:=[37,45,48,49,50,51]) (by kernel_rfl) (f1:=iw 103 [(1,v1),(3,v3),(37,V.s (Value.bool false)),(45,V.s (Value.bool false)),(48,und),(49,und),(50,V.s (Value.bool false)),(51,V.s (Value.bool false)),(52,V.s (Value.bool false))]) (by rfl)).trans ?_
 rfl
theorem ah3 (base:Nat) (H:Heap) {v1 v3:V}:qb (dn CT) itW base R122_2t42 [9,10,11,12,13,14,15,16,17,18,19,20,21,22,23,24,25,26,27,28,29,30,31,32,33,34,35,36,37,38,39,40,41,42,43,44,45,46,47,48,49,50,51,52,53,54,55,56,57,58,59,60,61,62,63,64,65] (iw 103 [(1,v1),(3,v3),(52,V.s (Value.bool true)),(60,und),(63,und)]) H=some (.nrm,iw 103 [(1,v1),(3,v3),(66,V.s (Value.bool true))],H):=by
 unfold qb;rw [evC_ops,show mi (dn CT) base R122_2t42 (iw 103 [(1,v1),(3,v3),(52,V.s (Value.bool true)),(60,und),(63,und)]) H=some (iw 103 [(1,v1),(3,v3),(52,V.s (Value.bool true)),(60,und),(63,und),(64,und),(65,und),(66,V.s (Value.bool true))],H) from rfl,aca];kernel_rfl
theorem ah2 (base:Nat) (H:Heap) {v1 v3:V}:qb (dn CT) itW base R122_2t42 [9,10,11,12,13,14,15,16,17,18,19,20,21,22,23,24,25,26,27,28,29,30,31,32,33,34,35,36,37,38,39,40,41,42,43,44,45,46,47,48,49,50,51,52,53,54,55,56,57,58,59,60,61,62,63,64,65] (iw 103 [(1,v1),(3,v3),(52,V.s (Value.bool false)),(60,V.s (Value.bool false)),(63,und)]) H=some (.nrm,iw 103 [(1,v1),(3,v3),(66,V.s (Value.bool false))],H):=by
 unfold qb;rw [evC_ops,show mi (dn CT) base R122_2t42 (iw 103 [(1,v1),(3,v3),(52,V.s (Value.bool false)),(60,V.s (Value.bool false)),(63,und)]) H=some (iw 103 [(1,v1),(3,v3),(52,V.s (Value.bool false)),(60,V.s (Value.bool false)),(63,und),(64,und),(65,V.s (Value.bool false)),(66,V.s (Value.bool false))],H) from rfl,aca];kernel_rfl
theorem pat4 (n:Int):(hR n 100=true∧hR n 102=false∧hR n 97=false∧hR n 98=false)∨(hR n 100=true∧hR n 102=true∧hR n 97=false∧hR n 98=false)∨(hR n 100=true∧hR n 102=false∧hR n 97=true∧hR n 98=false)∨(hR n 100=false∧hR n 102=false∧hR n 97=true∧hR n 98=true)∨(hR n 100=false∧hR n 102=false∧hR n 97=false∧hR n 98=false)∨(hR n 100=false∧hR n 102=false∧hR n 97=true∧hR n 98=false):=by
 by_cases h1:n=1
 ·subst h1;decide
 by_cases h2:n=2
 ·subst h2;decide
 by_cases h3:n=3
 ·subst h3;decide
 by_cases h4:n=4
 ·subst h4;decide
 by_cases h5:n=5
 ·subst h5;decide
 by_cases h8:n=8
 ·subst h8;decide
 by_cases h6:n=6
 ·subst h6;decide
 by_cases h7:n=7
 ·subst h7;decide
 by_cases h9:n=9
 ·subst h9;decide
 by_cases h10:n=10
 ·subst h10;decide
 by_cases h11:n=11
 ·subst h11;decide
 by_cases h12:n=12
 ·subst h12;decide
 by_cases h13:n=13
 ·subst h13;decide
 by_cases h14:n=14
 ·subst h14;decide
 have e:z8 n=⟨#[]⟩:=by unfold z8;simp only [h1,h2,h3,h4,h5,h8,h6,h7,h9,h10,h11,h12,h13,h14,if_false]
 unfold hR;rw [e];decide
set_option maxHeartbeats 8000000 in
theorem rb_r2 (h:R5T CT) (base:Nat) {D:Heap} {p:Nat} {x:InsD} {av lv:V} (hg:jm D p 0=some (jg x av lv)):
 evC (dn CT) itW base (.region R122_2 [] [9,10,11,12,13,14,15,16,17,18,19,20,21,22,23,24,25,26,27,28,29,30,31,32,33,34,35,36,37,38,39,40,41,42,43,44,45,46,47,48,49,50,51,52,53,54,55,56,57,58,59,60,61,62,63,64,65]) (iw 103 [(1,.ref p 0 0),(3,Sb (z8 x.op))]) D=some (.nrm,iw 103 [(1,.ref p 0 0),(3,Sb (z8 x.op)),(66,bl (rbA x))],D):=by
 have c1:=h.h x.op (c:=100) (by decide) (by decide) base D
 have c2:=h.h x.op (c:=102) (by decide) (by decide) base D
 have c3:=h.h x.op (c:=97) (by decide) (by decide) base D
 have c4:=h.h x.op (c:=98) (by decide) (by decide) base D
 have i1:=adz h.is' x.d base D;have i2:=adz h.is' x.f base D;have i3:=akl h.is' h.oper x.a base D;have i4:=akl h.is' h.oper x.b base D;unfold rbA;obtain ⟨n1,f1⟩:∃ b,mh x.d=b:=⟨_,rfl⟩;obtain ⟨n2,f2⟩:∃ b,mh x.f=b:=⟨_,rfl⟩;obtain ⟨n3,f3⟩:∃ b,aey x.a=b:=⟨_,rfl⟩;obtain ⟨n4,f4⟩:∃ b,aey x.b=b:=⟨_,rfl⟩;rw [f1] at i1;rw [f2] at i2;rw [f3] at i3;rw [f4] at i4;rw [f1,f2,f3,f4];obtain ⟨q1,g1⟩:∃ b,(x.d.data.toList == [])=b:=⟨_,rfl⟩;obtain ⟨q2,g2⟩:∃ b,(x.f.data.toList == [])=b:=⟨_,rfl⟩;obtain ⟨q3,g3⟩:∃ b,(x.a.data.toList == [])=b:=⟨_,rfl⟩;obtain ⟨q4,g4⟩:∃ b,(x.b.data.toList == [])=b:=⟨_,rfl⟩;rw [g1,g2,g3,g4];simp only [jg] at hg;simp only [bl] at c1 c2 c3 c4 i1 i2 i3 i4
 rcases pat4 x.op with ⟨e1,e2,e3,e4⟩ | ⟨e1,e2,e3,e4⟩ | ⟨e1,e2,e3,e4⟩ | ⟨e1,e2,e3,e4⟩ | ⟨e1,e2,e3,e4⟩ | ⟨e1,e2,e3,e4⟩
 ·rw [e1] at c1;rw [e2] at c2;rw [e3] at c3;rw [e4] at c4;rw [e1,e2,e3,e4]
  rcases qn2 q1 n1 with rfl | ⟨rfl,rfl⟩ | ⟨rfl,rfl⟩
  ·all_goals skip
   simp only [bl,Sb,qy,aa,simprocAttr,ah7,ah6,ah5,ah4,ah3,ah2,jl,gu,ji,jk,hg,c1,c2,c3,c4,g1,g2,g3,g4,i1,i2,i3,i4]
  ·all_goals skip
   simp only [bl,Sb,qy,aa,simprocAttr,ah7,ah6,ah5,ah4,ah3,ah2,jl,gu,ji,jk,hg,c1,c2,c3,c4,g1,g2,g3,g4,i1,i2,i3,i4]
  ·simp only [bl,Sb,qy,aa,simprocAttr,ah7,ah6,ah5,ah4,ah3,ah2,jl,gu,ji,jk,hg,c1,c2,c3,c4,g1,g2,g3,g4,i1,i2,i3,i4]
 ·rw [e1] at c1;rw [e2] at c2;rw [e3] at c3;rw [e4] at c4;rw [e1,e2,e3,e4]
  rcases qn2 q1 n1 with rfl | ⟨rfl,rfl⟩ | ⟨rfl,rfl⟩
  ·all_goals skip
   rcases qn2 q2 n2 with rfl | ⟨rfl,rfl⟩ | ⟨rfl,rfl⟩
   ·all_goals skip
    simp only [bl,Sb,qy,aa,simprocAttr,ah7,ah6,ah5,ah4,ah3,ah2,jl,gu,ji,jk,hg,c1,c2,c3,c4,g1,g2,g3,g4,i1,i2,i3,i4]
   ·all_goals skip
    simp only [bl,Sb,qy,aa,simprocAttr,ah7,ah6,ah5,ah4,ah3,ah2,jl,gu,ji,jk,hg,c1,c2,c3,c4,g1,g2,g3,g4,i1,i2,i3,i4]
   ·simp only [bl,Sb,qy,aa,simprocAttr,ah7,ah6,ah5,ah4,ah3,ah2,jl,gu,ji,jk,hg,c1,c2,c3,c4,g1,g2,g3,g4,i1,i2,i3,i4]
  ·all_goals skip
   rcases qn2 q2 n2 with rfl | ⟨rfl,rfl⟩ | ⟨rfl,rfl⟩
   ·all_goals skip
    simp only [bl,Sb,qy,aa,simprocAttr,ah7,ah6,ah5,ah4,ah3,ah2,jl,gu,ji,jk,hg,c1,c2,c3,c4,g1,g2,g3,g4,i1,i2,i3,i4]
   ·all_goals skip
    simp only [bl,Sb,qy,aa,simprocAttr,ah7,ah6,ah5,ah4,ah3,ah2,jl,gu,ji,jk,hg,c1,c2,c3,c4,g1,g2,g3,g4,i1,i2,i3,i4]
   ·simp only [bl,Sb,qy,aa,simprocAttr,ah7,ah6,ah5,ah4,ah3,ah2,jl,gu,ji,jk,hg,c1,c2,c3,c4,g1,g2,g3,g4,i1,i2,i3,i4]
  ·simp only [bl,Sb,qy,aa,simprocAttr,ah7,ah6,ah5,ah4,ah3,ah2,jl,gu,ji,jk,hg,c1,c2,c3,c4,g1,g2,g3,g4,i1,i2,i3,i4]
 ·rw [e1] at c1;rw [e2] at c2;rw [e3] at c3;rw [e4] at c4;rw [e1,e2,e3,e4]
  rcases qn2 q1 n1 with rfl | ⟨rfl,rfl⟩ | ⟨rfl,rfl⟩
  ·all_goals skip
   rcases qn2 q3 n3 with rfl | ⟨rfl,rfl⟩ | ⟨rfl,rfl⟩
   ·all_goals skip
    simp only [bl,Sb,qy,aa,simprocAttr,ah7,ah6,ah5,ah4,ah3,ah2,jl,gu,ji,jk,hg,c1,c2,c3,c4,g1,g2,g3,g4,i1,i2,i3,i4]
   ·all_goals skip
    simp only [bl,Sb,qy,aa,simprocAttr,ah7,ah6,ah5,ah4,ah3,ah2,jl,gu,ji,jk,hg,c1,c2,c3,c4,g1,g2,g3,g4,i1,i2,i3,i4]
   ·simp only [bl,Sb,qy,aa,simprocAttr,ah7,ah6,ah5,ah4,ah3,ah2,jl,gu,ji,jk,hg,c1,c2,c3,c4,g1,g2,g3,g4,i1,i2,i3,i4]
  ·all_goals skip
   rcases qn2 q3 n3 with rfl | ⟨rfl,rfl⟩ | ⟨rfl,rfl⟩
   ·all_goals skip
    simp only [bl,Sb,qy,aa,simprocAttr,ah7,ah6,ah5,ah4,ah3,ah2,jl,gu,ji,jk,hg,c1,c2,c3,c4,g1,g2,g3,g4,i1,i2,i3,i4]
   ·all_goals skip
    simp only [bl,Sb,qy,aa,simprocAttr,ah7,ah6,ah5,ah4,ah3,ah2,jl,gu,ji,jk,hg,c1,c2,c3,c4,g1,g2,g3,g4,i1,i2,i3,i4]
   ·simp only [bl,Sb,qy,aa,simprocAttr,ah7,ah6,ah5,ah4,ah3,ah2,jl,gu,ji,jk,hg,c1,c2,c3,c4,g1,g2,g3,g4,i1,i2,i3,i4]
  ·simp only [bl,Sb,qy,aa,simprocAttr,ah7,ah6,ah5,ah4,ah3,ah2,jl,gu,ji,jk,hg,c1,c2,c3,c4,g1,g2,g3,g4,i1,i2,i3,i4]
 ·rw [e1] at c1;rw [e2] at c2;rw [e3] at c3;rw [e4] at c4;rw [e1,e2,e3,e4]
  rcases qn2 q3 n3 with rfl | ⟨rfl,rfl⟩ | ⟨rfl,rfl⟩
  ·all_goals skip
   rcases qn2 q4 n4 with rfl | ⟨rfl,rfl⟩ | ⟨rfl,rfl⟩
   ·all_goals skip
    simp only [bl,Sb,qy,aa,simprocAttr,ah7,ah6,ah5,ah4,ah3,ah2,jl,gu,ji,jk,hg,c1,c2,c3,c4,g1,g2,g3,g4,i1,i2,i3,i4]
   ·all_goals skip
    simp only [bl,Sb,qy,aa,simprocAttr,ah7,ah6,ah5,ah4,ah3,ah2,jl,gu,ji,jk,hg,c1,c2,c3,c4,g1,g2,g3,g4,i1,i2,i3,i4]
   ·simp only [bl,Sb,qy,aa,simprocAttr,ah7,ah6,ah5,ah4,ah3,ah2,jl,gu,ji,jk,hg,c1,c2,c3,c4,g1,g2,g3,g4,i1,i2,i3,i4]
  ·all_goals skip
   rcases qn2 q4 n4 with rfl | ⟨rfl,rfl⟩ | ⟨rfl,rfl⟩
   ·all_goals skip
    simp only [bl,Sb,qy,aa,simprocAttr,ah7,ah6,ah5,ah4,ah3,ah2,jl,gu,ji,jk,hg,c1,c2,c3,c4,g1,g2,g3,g4,i1,i2,i3,i4]
   ·all_goals skip
    simp only [bl,Sb,qy,aa,simprocAttr,ah7,ah6,ah5,ah4,ah3,ah2,jl,gu,ji,jk,hg,c1,c2,c3,c4,g1,g2,g3,g4,i1,i2,i3,i4]
   ·simp only [bl,Sb,qy,aa,simprocAttr,ah7,ah6,ah5,ah4,ah3,ah2,jl,gu,ji,jk,hg,c1,c2,c3,c4,g1,g2,g3,g4,i1,i2,i3,i4]
  ·simp only [bl,Sb,qy,aa,simprocAttr,ah7,ah6,ah5,ah4,ah3,ah2,jl,gu,ji,jk,hg,c1,c2,c3,c4,g1,g2,g3,g4,i1,i2,i3,i4]
 ·rw [e1] at c1;rw [e2] at c2;rw [e3] at c3;rw [e4] at c4;rw [e1,e2,e3,e4];simp only [bl,Sb,qy,aa,simprocAttr,ah7,ah6,ah5,ah4,ah3,ah2,jl,gu,ji,jk,hg,c1,c2,c3,c4,g1,g2,g3,g4,i1,i2,i3,i4]
 ·rw [e1] at c1;rw [e2] at c2;rw [e3] at c3;rw [e4] at c4;rw [e1,e2,e3,e4]
  rcases qn2 q3 n3 with rfl | ⟨rfl,rfl⟩ | ⟨rfl,rfl⟩
  ·all_goals skip
   simp only [bl,Sb,qy,aa,simprocAttr,ah7,ah6,ah5,ah4,ah3,ah2,jl,gu,ji,jk,hg,c1,c2,c3,c4,g1,g2,g3,g4,i1,i2,i3,i4]
  ·all_goals skip
   simp only [bl,Sb,qy,aa,simprocAttr,ah7,ah6,ah5,ah4,ah3,ah2,jl,gu,ji,jk,hg,c1,c2,c3,c4,g1,g2,g3,g4,i1,i2,i3,i4]
  ·simp only [bl,Sb,qy,aa,simprocAttr,ah7,ah6,ah5,ah4,ah3,ah2,jl,gu,ji,jk,hg,c1,c2,c3,c4,g1,g2,g3,g4,i1,i2,i3,i4]
end
theorem aqr {l:List ByteArray} {q:ByteArray→Bool} (h:∀ i,i < l.length→q (l.getD i ⟨#[]⟩)=false):l.any q=false:=by
 rw [a0d];intro ha;obtain ⟨s,hs,hq⟩:=ui.1 ha;obtain ⟨i,hi,rfl⟩:=pu hs;have:=h i hi;rw [um,ah hi,anb,hq] at this;cases this
theorem ana {l:List ByteArray} {q:ByteArray→Bool} {i:Nat} (hi:i < l.length) (h:q (l.getD i ⟨#[]⟩)=true):l.any q=true:=by
 refine ui.2 ⟨_,?_,h⟩;rw [um,ah hi];exact oq hi
def rbN (x:InsD):Bool:=rbA x || ((hR x.op 103 && x.xs.any fun s=>!aey s) || (hR x.op 108 && x.ls.any fun s=>!mh s))
section
variable {CT:Nat→Option CFun}
theorem rb_l0 (h:R5T CT) (base:Nat) {D:Heap} {p:Nat} {x:InsD} {av lv:V} (hg:jm D p 0=some (jg x av lv)) (q1:Rd D av (x.xs.map Sb)) (q2:aa7 av) (hn:x.xs.length < 2 ^ 62):
 itW (evC (dn CT) itW base ahe) [] D.length (iw 103 [(1,.ref p 0 0),(3,Sb (z8 x.op)),(4,Iz 0)]) D=bif (hR x.op 103 && x.xs.any fun s=>!aey s) then some (.ret,iw 103 [(2,bl true)],D) else some (.ext 0,iw 103 [(1,.ref p 0 0),(3,Sb (z8 x.op)),(4,Iz x.xs.length),(71,bl false)],D):=by
 have hpl:=qf q1
 have c0:=h.h x.op (c:=103) (by decide) (by decide) base D
 simp only [jg] at hg;simp only [bl] at c0
 rcases amk x.xs.length (fun k=>hR x.op 103 && !aey (x.xs.getD k ⟨#[]⟩)) (fun k=>itW (evC (dn CT) itW base ahe) [] D.length (iw 103 [(1,.ref p 0 0),(3,Sb (z8 x.op)),(4,Iz k)]) D) (fun k hk hp=>by
  have hlt':((k:Int) < ((x.xs.length:Nat):Int)):=by omega
  have hwk:=w64 (n:=k) (by omega)
  obtain ⟨y,y1,y2⟩:=ab0 q1 q2 hk;have o1:=akl h.is' h.oper (x.xs.getD k ⟨#[]⟩) base D;cases e:hR x.op 103 with
  | false=>
    rw [e] at c0;rw [dw];simp only [Iz,Sb,bl,qy,aa,simprocAttr,hg,hpl,hlt',c0,hwk,jl,gu,ji,jk,mr rfl]
  | true=>
    rw [e] at c0 hp
    have e2:aey (x.xs.getD k ⟨#[]⟩)=true:=by simpa using hp
    rw [e2] at o1;simp only [bl] at o1;rw [dw]
    simp only [Iz,Sb,bl,qy,aa,simprocAttr,hg,hpl,hlt',c0,y1,y2,o1,hwk,mr rfl]) with ⟨h1,h2⟩ | ⟨k,h1,h2,h3,h4⟩
 ·have hf:(hR x.op 103 && x.xs.any fun s=>!aey s)=false:=by
   cases e:hR x.op 103 with
   | false=>rfl
   | true=>
     rw [ig]
     exact aqr fun i hi=>by have:=h1 i hi;rw [e] at this;exact this
  rw [ry] at h2;rw [hf];refine h2.trans ?_;rw [dw];simp only [Iz,Sb,bl,qy,aa,simprocAttr,hg,hpl,jo,mr rfl]
 ·rw [dx] at h2;obtain ⟨e,e3⟩:=h2
  have ht:(hR x.op 103 && x.xs.any fun s=>!aey s)=true:=by
   rw [e,ig];exact ana h1 e3
  have e2:aey (x.xs.getD k ⟨#[]⟩)=false:=by simpa using e3
  have o1:=akl h.is' h.oper (x.xs.getD k ⟨#[]⟩) base D;rw [e2] at o1;rw [e] at c0
  have hlt':((k:Int) < ((x.xs.length:Nat):Int)):=by omega
  obtain ⟨y,y1,y2⟩:=ab0 q1 q2 h1;rw [ry] at h4;rw [ht];refine h4.trans ?_;simp only [bl] at o1;rw [dw];simp only [Iz,Sb,bl,qy,aa,simprocAttr,hg,hpl,hlt',c0,y1,y2,o1,mr rfl]
theorem rb_l1 (h:R5T CT) (base:Nat) {D:Heap} {p:Nat} {x:InsD} {av lv:V} (hg:jm D p 0=some (jg x av lv)) (q1:Rd D lv (x.ls.map Sb)) (q2:aa7 lv) (hn:x.ls.length < 2 ^ 62):
 itW (evC (dn CT) itW base ahd) [] D.length (iw 103 [(1,.ref p 0 0),(3,Sb (z8 x.op)),(5,Iz 0)]) D=bif (hR x.op 108 && x.ls.any fun s=>!mh s) then some (.ret,iw 103 [(2,bl true)],D) else some (.ext 2,iw 103 [(1,.ref p 0 0),(3,Sb (z8 x.op)),(5,Iz x.ls.length),(89,bl false)],D):=by
 have hpl:=qf q1
 have c0:=h.h x.op (c:=108) (by decide) (by decide) base D
 simp only [jg] at hg;simp only [bl] at c0
 rcases amk x.ls.length (fun k=>hR x.op 108 && !mh (x.ls.getD k ⟨#[]⟩)) (fun k=>itW (evC (dn CT) itW base ahd) [] D.length (iw 103 [(1,.ref p 0 0),(3,Sb (z8 x.op)),(5,Iz k)]) D) (fun k hk hp=>by
  have hlt':((k:Int) < ((x.ls.length:Nat):Int)):=by omega
  have hwk:=w64 (n:=k) (by omega)
  obtain ⟨y,y1,y2⟩:=ab0 q1 q2 hk;have o1:=adz h.is' (x.ls.getD k ⟨#[]⟩) base D;cases e:hR x.op 108 with
  | false=>
    rw [e] at c0;rw [dw];simp only [Iz,Sb,bl,qy,aa,simprocAttr,hg,hpl,hlt',c0,hwk,jl,gu,ji,jk,mr rfl]
  | true=>
    rw [e] at c0 hp
    have e2:mh (x.ls.getD k ⟨#[]⟩)=true:=by simpa using hp
    rw [e2] at o1;simp only [bl] at o1;rw [dw]
    simp only [Iz,Sb,bl,qy,aa,simprocAttr,hg,hpl,hlt',c0,y1,y2,o1,hwk,mr rfl]) with ⟨h1,h2⟩ | ⟨k,h1,h2,h3,h4⟩
 ·have hf:(hR x.op 108 && x.ls.any fun s=>!mh s)=false:=by
   cases e:hR x.op 108 with
   | false=>rfl
   | true=>
     rw [ig]
     exact aqr fun i hi=>by have:=h1 i hi;rw [e] at this;exact this
  rw [ry] at h2;rw [hf];refine h2.trans ?_;rw [dw];simp only [Iz,Sb,bl,qy,aa,simprocAttr,hg,hpl,jo,mr rfl]
 ·rw [dx] at h2;obtain ⟨e,e3⟩:=h2
  have ht:(hR x.op 108 && x.ls.any fun s=>!mh s)=true:=by
   rw [e,ig];exact ana h1 e3
  have e2:mh (x.ls.getD k ⟨#[]⟩)=false:=by simpa using e3
  have o1:=adz h.is' (x.ls.getD k ⟨#[]⟩) base D;rw [e2] at o1;rw [e] at c0
  have hlt':((k:Int) < ((x.ls.length:Nat):Int)):=by omega
  obtain ⟨y,y1,y2⟩:=ab0 q1 q2 h1;rw [ry] at h4;rw [ht];refine h4.trans ?_;simp only [bl] at o1;rw [dw];simp only [Iz,Sb,bl,qy,aa,simprocAttr,hg,hpl,hlt',c0,y1,y2,o1,mr rfl]
theorem bg5 (h:R5T CT) (hT:CT a2v=some (.code adf)) (base:Nat) {A:Heap} {r:List V} {x:InsD} (hr:p9 A r x) (hn1:x.xs.length < 2 ^ 62) (hn2:x.ls.length < 2 ^ 62):
 ∃ H',dn CT (.fn a2v [] []) [.agg r] base A=some (bl (rbN x),H')∧Ext A H':=by
 obtain ⟨av,lv,rfl,q1,q2,q3,q4,_⟩:=hr;obtain ⟨D,hD⟩:∃ D,A ++ [Ob.cells 0 (jg x av lv)]=D:=⟨_,rfl⟩;have eD:Ext A D:=hD ▸ Ext.app _ _;have hg:jm D A.length 0=some (jg x av lv):=hD ▸ dh A 0 _
 have lD:D.length=A.length+1:=by rw [← hD,eu]
 have f0:=a4c h.fld x.op base D;have f2:=rb_r2 h base hg;have f3:=rb_l0 h base hg (q1.ext eD) q2 hn1;have f4:=rb_l1 h base hg (q3.ext eD) q4 hn2;have hav:=q1.one;have hlv:=q3.one
 refine ⟨D,gp (c:=adf) (k:=1) hT rfl (by decide) arq ?_,eD⟩
 unfold rbN;simp only [jg,Sb] at hD hg;simp only [bl,Sb,Iz] at f0 f2 f3 f4;rw [lD] at f3 f4;cases e1:rbA x with
 | true=>
   rw [e1] at f2;simp only [Iz,Sb,bl,jg,adf,A122_0p0_0,A122_0p0_1,A122_0p0_2,X122_0,T122_0t1,X122_0t1,A122_0_0,A122_0_1,A122_0_2,T122_1p0,X122_1,X122_1t1,T122_1t2,X122_1t2,T122_3,T122_4,T122_5,T122_6p0,X122_6,X122_6t1,T122_6p2,X122_6t2,X122_6t3,X122_6t4,X122_6t5,X122_6t6,X122_6t7,X122_6t8,T122_6t9,X122_6t9,T122_7,T122_8,abn,T122_9,T122_10,T122_11p0,X122_11,X122_11t1,T122_11p2,X122_11t2,X122_11t3,X122_11t4,X122_11t5,X122_11t6,X122_11t7,X122_11t8,T122_11t9,X122_11t9,T122_12,T122_13,abm,T122_14,aam,aal,aa,simprocAttr,hav,hlv,hD,lD,hg,f0,f2,f3,f4,iq,d9,mo]
 | false=>
   rw [e1] at f2;cases e2:(hR x.op 103 && x.xs.any fun s=>!aey s) with
   | true=>
     rw [e2] at f3;simp only [Iz,Sb,bl,jg,adf,A122_0p0_0,A122_0p0_1,A122_0p0_2,X122_0,T122_0t1,X122_0t1,A122_0_0,A122_0_1,A122_0_2,T122_1p0,X122_1,X122_1t1,T122_1t2,X122_1t2,T122_3,T122_4,T122_5,T122_6p0,X122_6,X122_6t1,T122_6p2,X122_6t2,X122_6t3,X122_6t4,X122_6t5,X122_6t6,X122_6t7,X122_6t8,T122_6t9,X122_6t9,T122_7,T122_8,abn,T122_9,T122_10,T122_11p0,X122_11,X122_11t1,T122_11p2,X122_11t2,X122_11t3,X122_11t4,X122_11t5,X122_11t6,X122_11t7,X122_11t8,T122_11t9,X122_11t9,T122_12,T122_13,abm,T122_14,aam,aal,aa,simprocAttr,hav,hlv,hD,lD,hg,f0,f2,f3,f4,iq,d9,mo]
   | false=>
     rw [e2] at f3;cases e3:(hR x.op 108 && x.ls.any fun s=>!mh s) with
     | true=>
       rw [e3] at f4;simp only [Iz,Sb,bl,jg,adf,A122_0p0_0,A122_0p0_1,A122_0p0_2,X122_0,T122_0t1,X122_0t1,A122_0_0,A122_0_1,A122_0_2,T122_1p0,X122_1,X122_1t1,T122_1t2,X122_1t2,T122_3,T122_4,T122_5,T122_6p0,X122_6,X122_6t1,T122_6p2,X122_6t2,X122_6t3,X122_6t4,X122_6t5,X122_6t6,X122_6t7,X122_6t8,T122_6t9,X122_6t9,T122_7,T122_8,abn,T122_9,T122_10,T122_11p0,X122_11,X122_11t1,T122_11p2,X122_11t2,X122_11t3,X122_11t4,X122_11t5,X122_11t6,X122_11t7,X122_11t8,T122_11t9,X122_11t9,T122_12,T122_13,abm,T122_14,aam,aal,aa,simprocAttr,hav,hlv,hD,lD,hg,f0,f2,f3,f4,iq,d9,mo]
     | false=>
       rw [e3] at f4;simp only [Iz,Sb,bl,jg,adf,A122_0p0_0,A122_0p0_1,A122_0p0_2,X122_0,T122_0t1,X122_0t1,A122_0_0,A122_0_1,A122_0_2,T122_1p0,X122_1,X122_1t1,T122_1t2,X122_1t2,T122_3,T122_4,T122_5,T122_6p0,X122_6,X122_6t1,T122_6p2,X122_6t2,X122_6t3,X122_6t4,X122_6t5,X122_6t6,X122_6t7,X122_6t8,T122_6t9,X122_6t9,T122_7,T122_8,abn,T122_9,T122_10,T122_11p0,X122_11,X122_11t1,T122_11p2,X122_11t2,X122_11t3,X122_11t4,X122_11t5,X122_11t6,X122_11t7,X122_11t8,T122_11t9,X122_11t9,T122_12,T122_13,abm,T122_14,aam,aal,aa,simprocAttr,hav,hlv,hD,lD,hg,f0,f2,f3,f4,iq,d9,mo]
end
theorem bbg {l:List ByteArray} {f g:ByteArray→Bool}:(l.any fun s=>f s || g s)=(l.any f || l.any g):=by
 induction l with
 | nil=>rfl
 | cons a l ih=>simp only [List.any_cons,ih];cases f a <;> cases g a <;> simp
theorem bg6 (x:InsD):rbN x=bnB (bnA (shp x.op) x) (shp x.op) x:=by
 obtain ⟨h1,h2,h3,h4,h5,h6,h7⟩:=bba x.op
 have n0:∀ s:ByteArray,acr s=true→an3 s=false:=fun s h=>by
  unfold acr at h;unfold an3;rw [eq_of_beq h];rfl
 have n1:∀ s:ByteArray,acr s=true→mh s=false:=fun s h=>by
  unfold acr at h;unfold mh;rw [eq_of_beq h];rfl
 have a1:∀ s:ByteArray,(!(s.data.toList == []) && !mh s)=ad9 false s:=fun s=>by
  unfold ad9 acr;rw [je,kv,xn]
 have a2:∀ s:ByteArray,(!(s.data.toList == []) && !aey s)=ad9 true s:=fun s=>by
  unfold ad9 aey;rw [ig]
  show (!acr s && !(an3 s || mh s))=_
  cases acr s <;> cases an3 s <;> cases mh s <;> rfl
 have e1:∀ s:ByteArray,acr s=((⟨#[]⟩:ByteArray).data.toList == s.data.toList):=fun s=>by
  unfold acr;rw [acv,beq_iff_eq,beq_iff_eq];exact eq_comm
 have b1:(x.xs.any fun s=>!aey s)=(x.xs.any (ad9 true) || azn x.xs):=by
  unfold azn;rw [← bbg]
  congr 1
  funext s
  rw [← e1]
  show (!(an3 s || mh s))=_
  unfold ad9;cases e:acr s with
  | true=>rw [n0 s e,n1 s e];rfl
  | false=>cases an3 s <;> cases mh s <;> rfl
 have b2:(x.ls.any fun s=>!mh s)=(x.ls.any (ad9 false) || azn x.ls):=by
  unfold azn;rw [← bbg]
  congr 1
  funext s
  rw [← e1];unfold ad9;cases e:acr s with
  | true=>rw [n1 s e];rfl
  | false=>cases mh s <;> rfl
 unfold rbN rbA bnB bnA;rw [h1,h2,h3,h5,h6,h7,b1,b2];simp only [Bool.and_assoc,a1,a2,bki]
section
variable {CT:Nat→Option CFun}
set_option maxHeartbeats 1000000 in
theorem bb8 (h:R5T CT) (base:Nat) {D:Heap} {p:Nat} {x:InsD} {av lv:V} (hg:jm D p 0=some (jg x av lv)) (q1:Rd D av (x.xs.map Sb)) (q3:Rd D lv (x.ls.map Sb)):evC (dn CT) itW base (.region R123_4 [] [8,9,10,11,12,13,14,15,16,17,18,19,20,21,22,23,24,25,26,27,28,29,30,31,32,33,34,35,36,37,38,39,40,41,42,43,44,45,46,47,48,49,50,51,52,53,54,55,56,57,58,59,60,61,62,63,64,65,66,67,68,69,70,71,72,73,74,75,76,77]) (iw 163 [(1,.ref p 0 0),(3,.s (.string (z8 x.op))),(8,V.s (Value.bool false))]) D=evC (dn CT) itW base (.region R123_4t3 [] [8,9,10,11,12,13,14,15,16,17,18,19,20,21,22,23,24,25,26,27,28,29,30,31,32,33,34,35,36,37,38,39,40,41,42,43,44,45,46,47,48,49,50,51,52,53,54,55,56,57,58,59,60,61,62,63,64,65,66,67,68,69,70,71,72,73,74,75,76,77]) (iw 163 [(1,.ref p 0 0),(3,.s (.string (z8 x.op))),(17,V.s (Value.bool ((!hR x.op 100 && !(x.d.data.toList == [])))))]) D:=by
 have c1:=h.h x.op (c:=100) (by decide) (by decide) base D
 have l1:=qf q1;have l3:=qf q3;simp only [jg] at hg;simp only [bl] at c1;cases e:hR x.op 100 <;> (rw [e] at c1;simp only [Sb,Iz,bl,T123_4p0,X123_4,X123_4t1,T123_4p2,X123_4t2,aa,simprocAttr,jl,gu,ji,jk,hg,l1,l3,c1,iq,d9,l7,kv,ig,je])
theorem a3h (base:Nat) (H:Heap) {v1 v3:V}:qb (dn CT) itW base R123_4t5 [8,9,10,11,12,13,14,15,16,17,18,19,20,21,22,23,24,25,26,27,28,29,30,31,32,33,34,35,36,37,38,39,40,41,42,43,44,45,46,47,48,49,50,51,52,53,54,55,56,57,58,59,60,61,62,63,64,65,66,67,68,69,70,71,72,73,74,75,76,77] (iw 163 [(1,v1),(3,v3),(17,V.s (Value.bool true)),(19,und)]) H=evC (dn CT) itW base (.region R123_4t6 [] [8,9,10,11,12,13,14,15,16,17,18,19,20,21,22,23,24,25,26,27,28,29,30,31,32,33,34,35,36,37,38,39,40,41,42,43,44,45,46,47,48,49,50,51,52,53,54,55,56,57,58,59,60,61,62,63,64,65,66,67,68,69,70,71,72,73,74,75,76,77]) (iw 163 [(1,v1),(3,v3),(27,V.s (Value.bool true))]) H:=by
 refine (ab9 R123_4p5 R123_4t6 (ka:=[17,19,20,21,22,23,24,25,26]) (by kernel_rfl) (f1:=iw 163 [(1,v1),(3,v3),(17,V.s (Value.bool true)),(19,und),(20,und),(21,und),(22,und),(23,und),(24,und),(25,und),(26,V.s (Value.bool true)),(27,V.s (Value.bool true))]) (by rfl)).trans ?_
 rfl
set_option maxHeartbeats 1000000 in
theorem bb7 (h:R5T CT) (base:Nat) {D:Heap} {p:Nat} {x:InsD} {av lv:V} (hg:jm D p 0=some (jg x av lv)) (q1:Rd D av (x.xs.map Sb)) (q3:Rd D lv (x.ls.map Sb)) (a:Bool):evC (dn CT) itW base (.region R123_4t3 [] [8,9,10,11,12,13,14,15,16,17,18,19,20,21,22,23,24,25,26,27,28,29,30,31,32,33,34,35,36,37,38,39,40,41,42,43,44,45,46,47,48,49,50,51,52,53,54,55,56,57,58,59,60,61,62,63,64,65,66,67,68,69,70,71,72,73,74,75,76,77]) (iw 163 [(1,.ref p 0 0),(3,.s (.string (z8 x.op))),(17,V.s (Value.bool a))]) D=evC (dn CT) itW base (.region R123_4t6 [] [8,9,10,11,12,13,14,15,16,17,18,19,20,21,22,23,24,25,26,27,28,29,30,31,32,33,34,35,36,37,38,39,40,41,42,43,44,45,46,47,48,49,50,51,52,53,54,55,56,57,58,59,60,61,62,63,64,65,66,67,68,69,70,71,72,73,74,75,76,77]) (iw 163 [(1,.ref p 0 0),(3,.s (.string (z8 x.op))),(27,V.s (Value.bool (a || (!hR x.op 97 && !(x.a.data.toList == [])))))]) D:=by
 have c1:=h.h x.op (c:=97) (by decide) (by decide) base D
 have l1:=qf q1;have l3:=qf q3;simp only [jg] at hg;simp only [bl] at c1;cases a with
 | true=>
   simp only [Sb,Iz,bl,X123_4t3,X123_4t4,T123_4p5,X123_4t5,aa,simprocAttr,a3h,jl,gu,ji,jk,hg,l1,l3,c1,iq,d9,l7,kv,ig,je]
 | false=>
   cases e:hR x.op 97 <;> (rw [e] at c1;simp only [Sb,Iz,bl,X123_4t3,X123_4t4,T123_4p5,X123_4t5,aa,simprocAttr,a3h,jl,gu,ji,jk,hg,l1,l3,c1,iq,d9,l7,kv,ig,je])
theorem a3g (base:Nat) (H:Heap) {v1 v3:V}:qb (dn CT) itW base R123_4t8 [8,9,10,11,12,13,14,15,16,17,18,19,20,21,22,23,24,25,26,27,28,29,30,31,32,33,34,35,36,37,38,39,40,41,42,43,44,45,46,47,48,49,50,51,52,53,54,55,56,57,58,59,60,61,62,63,64,65,66,67,68,69,70,71,72,73,74,75,76,77] (iw 163 [(1,v1),(3,v3),(27,V.s (Value.bool true)),(29,und)]) H=evC (dn CT) itW base (.region R123_4t9 [] [8,9,10,11,12,13,14,15,16,17,18,19,20,21,22,23,24,25,26,27,28,29,30,31,32,33,34,35,36,37,38,39,40,41,42,43,44,45,46,47,48,49,50,51,52,53,54,55,56,57,58,59,60,61,62,63,64,65,66,67,68,69,70,71,72,73,74,75,76,77]) (iw 163 [(1,v1),(3,v3),(37,V.s (Value.bool true))]) H:=by
 refine (ab9 R123_4p8 R123_4t9 (ka:=[27,29,30,31,32,33,34,35,36]) (by kernel_rfl) (f1:=iw 163 [(1,v1),(3,v3),(27,V.s (Value.bool true)),(29,und),(30,und),(31,und),(32,und),(33,und),(34,und),(35,und),(36,V.s (Value.bool true)),(37,V.s (Value.bool true))]) (by rfl)).trans ?_
 rfl
set_option maxHeartbeats 1000000 in
theorem bb6 (h:R5T CT) (base:Nat) {D:Heap} {p:Nat} {x:InsD} {av lv:V} (hg:jm D p 0=some (jg x av lv)) (q1:Rd D av (x.xs.map Sb)) (q3:Rd D lv (x.ls.map Sb)) (a:Bool):evC (dn CT) itW base (.region R123_4t6 [] [8,9,10,11,12,13,14,15,16,17,18,19,20,21,22,23,24,25,26,27,28,29,30,31,32,33,34,35,36,37,38,39,40,41,42,43,44,45,46,47,48,49,50,51,52,53,54,55,56,57,58,59,60,61,62,63,64,65,66,67,68,69,70,71,72,73,74,75,76,77]) (iw 163 [(1,.ref p 0 0),(3,.s (.string (z8 x.op))),(27,V.s (Value.bool a))]) D=evC (dn CT) itW base (.region R123_4t9 [] [8,9,10,11,12,13,14,15,16,17,18,19,20,21,22,23,24,25,26,27,28,29,30,31,32,33,34,35,36,37,38,39,40,41,42,43,44,45,46,47,48,49,50,51,52,53,54,55,56,57,58,59,60,61,62,63,64,65,66,67,68,69,70,71,72,73,74,75,76,77]) (iw 163 [(1,.ref p 0 0),(3,.s (.string (z8 x.op))),(37,V.s (Value.bool (a || (!hR x.op 98 && !(x.b.data.toList == [])))))]) D:=by
 have c1:=h.h x.op (c:=98) (by decide) (by decide) base D
 have l1:=qf q1;have l3:=qf q3;simp only [jg] at hg;simp only [bl] at c1;cases a with
 | true=>
   simp only [Sb,Iz,bl,X123_4t6,X123_4t7,T123_4p8,X123_4t8,aa,simprocAttr,a3g,jl,gu,ji,jk,hg,l1,l3,c1,iq,d9,l7,kv,ig,je]
 | false=>
   cases e:hR x.op 98 <;> (rw [e] at c1;simp only [Sb,Iz,bl,X123_4t6,X123_4t7,T123_4p8,X123_4t8,aa,simprocAttr,a3g,jl,gu,ji,jk,hg,l1,l3,c1,iq,d9,l7,kv,ig,je])
theorem a3f (base:Nat) (H:Heap) {v1 v3:V}:qb (dn CT) itW base R123_4t11 [8,9,10,11,12,13,14,15,16,17,18,19,20,21,22,23,24,25,26,27,28,29,30,31,32,33,34,35,36,37,38,39,40,41,42,43,44,45,46,47,48,49,50,51,52,53,54,55,56,57,58,59,60,61,62,63,64,65,66,67,68,69,70,71,72,73,74,75,76,77] (iw 163 [(1,v1),(3,v3),(37,V.s (Value.bool true)),(39,und)]) H=evC (dn CT) itW base (.region R123_4t12 [] [8,9,10,11,12,13,14,15,16,17,18,19,20,21,22,23,24,25,26,27,28,29,30,31,32,33,34,35,36,37,38,39,40,41,42,43,44,45,46,47,48,49,50,51,52,53,54,55,56,57,58,59,60,61,62,63,64,65,66,67,68,69,70,71,72,73,74,75,76,77]) (iw 163 [(1,v1),(3,v3),(47,V.s (Value.bool true))]) H:=by
 refine (ab9 R123_4p11 R123_4t12 (ka:=[37,39,40,41,42,43,44,45,46]) (by kernel_rfl) (f1:=iw 163 [(1,v1),(3,v3),(37,V.s (Value.bool true)),(39,und),(40,und),(41,und),(42,und),(43,und),(44,und),(45,und),(46,V.s (Value.bool true)),(47,V.s (Value.bool true))]) (by rfl)).trans ?_
 rfl
set_option maxHeartbeats 1000000 in
theorem bb5 (h:R5T CT) (base:Nat) {D:Heap} {p:Nat} {x:InsD} {av lv:V} (hg:jm D p 0=some (jg x av lv)) (q1:Rd D av (x.xs.map Sb)) (q3:Rd D lv (x.ls.map Sb)) (a:Bool):evC (dn CT) itW base (.region R123_4t9 [] [8,9,10,11,12,13,14,15,16,17,18,19,20,21,22,23,24,25,26,27,28,29,30,31,32,33,34,35,36,37,38,39,40,41,42,43,44,45,46,47,48,49,50,51,52,53,54,55,56,57,58,59,60,61,62,63,64,65,66,67,68,69,70,71,72,73,74,75,76,77]) (iw 163 [(1,.ref p 0 0),(3,.s (.string (z8 x.op))),(37,V.s (Value.bool a))]) D=evC (dn CT) itW base (.region R123_4t12 [] [8,9,10,11,12,13,14,15,16,17,18,19,20,21,22,23,24,25,26,27,28,29,30,31,32,33,34,35,36,37,38,39,40,41,42,43,44,45,46,47,48,49,50,51,52,53,54,55,56,57,58,59,60,61,62,63,64,65,66,67,68,69,70,71,72,73,74,75,76,77]) (iw 163 [(1,.ref p 0 0),(3,.s (.string (z8 x.op))),(47,V.s (Value.bool (a || (!hR x.op 110 && x.k != 0))))]) D:=by
 have c1:=h.h x.op (c:=110) (by decide) (by decide) base D
 have l1:=qf q1;have l3:=qf q3;simp only [jg] at hg;simp only [bl] at c1;cases a with
 | true=>
   simp only [Sb,Iz,bl,X123_4t9,X123_4t10,T123_4p11,X123_4t11,aa,simprocAttr,a3f,jl,gu,ji,jk,hg,l1,l3,c1,iq,d9,l7,kv,ig,je]
 | false=>
   cases e:hR x.op 110 <;> (rw [e] at c1;simp only [Sb,Iz,bl,X123_4t9,X123_4t10,T123_4p11,X123_4t11,aa,simprocAttr,a3f,jl,gu,ji,jk,hg,l1,l3,c1,iq,d9,l7,kv,ig,je])
theorem a3e (base:Nat) (H:Heap) {v1 v3:V}:qb (dn CT) itW base R123_4t14 [8,9,10,11,12,13,14,15,16,17,18,19,20,21,22,23,24,25,26,27,28,29,30,31,32,33,34,35,36,37,38,39,40,41,42,43,44,45,46,47,48,49,50,51,52,53,54,55,56,57,58,59,60,61,62,63,64,65,66,67,68,69,70,71,72,73,74,75,76,77] (iw 163 [(1,v1),(3,v3),(47,V.s (Value.bool true)),(49,und)]) H=evC (dn CT) itW base (.region R123_4t15 [] [8,9,10,11,12,13,14,15,16,17,18,19,20,21,22,23,24,25,26,27,28,29,30,31,32,33,34,35,36,37,38,39,40,41,42,43,44,45,46,47,48,49,50,51,52,53,54,55,56,57,58,59,60,61,62,63,64,65,66,67,68,69,70,71,72,73,74,75,76,77]) (iw 163 [(1,v1),(3,v3),(57,V.s (Value.bool true))]) H:=by
 refine (ab9 R123_4p14 R123_4t15 (ka:=[47,49,50,51,52,53,54,55,56]) (by kernel_rfl) (f1:=iw 163 [(1,v1),(3,v3),(47,V.s (Value.bool true)),(49,und),(50,und),(51,und),(52,und),(53,und),(54,und),(55,und),(56,V.s (Value.bool true)),(57,V.s (Value.bool true))]) (by rfl)).trans ?_
 rfl
set_option maxHeartbeats 1000000 in
theorem bb4 (h:R5T CT) (base:Nat) {D:Heap} {p:Nat} {x:InsD} {av lv:V} (hg:jm D p 0=some (jg x av lv)) (q1:Rd D av (x.xs.map Sb)) (q3:Rd D lv (x.ls.map Sb)) (a:Bool):evC (dn CT) itW base (.region R123_4t12 [] [8,9,10,11,12,13,14,15,16,17,18,19,20,21,22,23,24,25,26,27,28,29,30,31,32,33,34,35,36,37,38,39,40,41,42,43,44,45,46,47,48,49,50,51,52,53,54,55,56,57,58,59,60,61,62,63,64,65,66,67,68,69,70,71,72,73,74,75,76,77]) (iw 163 [(1,.ref p 0 0),(3,.s (.string (z8 x.op))),(47,V.s (Value.bool a))]) D=evC (dn CT) itW base (.region R123_4t15 [] [8,9,10,11,12,13,14,15,16,17,18,19,20,21,22,23,24,25,26,27,28,29,30,31,32,33,34,35,36,37,38,39,40,41,42,43,44,45,46,47,48,49,50,51,52,53,54,55,56,57,58,59,60,61,62,63,64,65,66,67,68,69,70,71,72,73,74,75,76,77]) (iw 163 [(1,.ref p 0 0),(3,.s (.string (z8 x.op))),(57,V.s (Value.bool (a || (!hR x.op 102 && !(x.f.data.toList == [])))))]) D:=by
 have c1:=h.h x.op (c:=102) (by decide) (by decide) base D
 have l1:=qf q1;have l3:=qf q3;simp only [jg] at hg;simp only [bl] at c1;cases a with
 | true=>
   simp only [Sb,Iz,bl,X123_4t12,X123_4t13,T123_4p14,X123_4t14,aa,simprocAttr,a3e,jl,gu,ji,jk,hg,l1,l3,c1,iq,d9,l7,kv,ig,je]
 | false=>
   cases e:hR x.op 102 <;> (rw [e] at c1;simp only [Sb,Iz,bl,X123_4t12,X123_4t13,T123_4p14,X123_4t14,aa,simprocAttr,a3e,jl,gu,ji,jk,hg,l1,l3,c1,iq,d9,l7,kv,ig,je])
theorem a3d (base:Nat) (H:Heap) {v1 v3:V}:qb (dn CT) itW base R123_4t17 [8,9,10,11,12,13,14,15,16,17,18,19,20,21,22,23,24,25,26,27,28,29,30,31,32,33,34,35,36,37,38,39,40,41,42,43,44,45,46,47,48,49,50,51,52,53,54,55,56,57,58,59,60,61,62,63,64,65,66,67,68,69,70,71,72,73,74,75,76,77] (iw 163 [(1,v1),(3,v3),(57,V.s (Value.bool true)),(59,und)]) H=evC (dn CT) itW base (.region R123_4t18 [] [8,9,10,11,12,13,14,15,16,17,18,19,20,21,22,23,24,25,26,27,28,29,30,31,32,33,34,35,36,37,38,39,40,41,42,43,44,45,46,47,48,49,50,51,52,53,54,55,56,57,58,59,60,61,62,63,64,65,66,67,68,69,70,71,72,73,74,75,76,77]) (iw 163 [(1,v1),(3,v3),(68,V.s (Value.bool true))]) H:=by
 refine (ab9 R123_4p17 R123_4t18 (ka:=[57,59,60,61,62,63,64,65,66,67]) (by kernel_rfl) (f1:=iw 163 [(1,v1),(3,v3),(57,V.s (Value.bool true)),(59,und),(60,und),(61,und),(62,und),(63,und),(64,und),(65,und),(66,und),(67,V.s (Value.bool true)),(68,V.s (Value.bool true))]) (by rfl)).trans ?_
 rfl
set_option maxHeartbeats 1000000 in
theorem bbz (h:R5T CT) (base:Nat) {D:Heap} {p:Nat} {x:InsD} {av lv:V} (hg:jm D p 0=some (jg x av lv)) (q1:Rd D av (x.xs.map Sb)) (q3:Rd D lv (x.ls.map Sb)) (a:Bool):evC (dn CT) itW base (.region R123_4t15 [] [8,9,10,11,12,13,14,15,16,17,18,19,20,21,22,23,24,25,26,27,28,29,30,31,32,33,34,35,36,37,38,39,40,41,42,43,44,45,46,47,48,49,50,51,52,53,54,55,56,57,58,59,60,61,62,63,64,65,66,67,68,69,70,71,72,73,74,75,76,77]) (iw 163 [(1,.ref p 0 0),(3,.s (.string (z8 x.op))),(57,V.s (Value.bool a))]) D=evC (dn CT) itW base (.region R123_4t18 [] [8,9,10,11,12,13,14,15,16,17,18,19,20,21,22,23,24,25,26,27,28,29,30,31,32,33,34,35,36,37,38,39,40,41,42,43,44,45,46,47,48,49,50,51,52,53,54,55,56,57,58,59,60,61,62,63,64,65,66,67,68,69,70,71,72,73,74,75,76,77]) (iw 163 [(1,.ref p 0 0),(3,.s (.string (z8 x.op))),(68,V.s (Value.bool (a || (!hR x.op 103 && ((x.xs.length:Int) != 0)))))]) D:=by
 have c1:=h.h x.op (c:=103) (by decide) (by decide) base D
 have l1:=qf q1;have l3:=qf q3;simp only [jg] at hg;simp only [bl] at c1;cases a with
 | true=>
   simp only [Sb,Iz,bl,X123_4t15,X123_4t16,T123_4p17,X123_4t17,aa,simprocAttr,a3d,jl,gu,ji,jk,hg,l1,l3,c1,iq,d9,l7,kv,ig,je]
 | false=>
   cases e:hR x.op 103 <;> (rw [e] at c1;simp only [Sb,Iz,bl,X123_4t15,X123_4t16,T123_4p17,X123_4t17,aa,simprocAttr,a3d,jl,gu,ji,jk,hg,l1,l3,c1,iq,d9,l7,kv,ig,je])
theorem a3c (base:Nat) (H:Heap) {v1 v3:V}:qb (dn CT) itW base R123_4t20 [8,9,10,11,12,13,14,15,16,17,18,19,20,21,22,23,24,25,26,27,28,29,30,31,32,33,34,35,36,37,38,39,40,41,42,43,44,45,46,47,48,49,50,51,52,53,54,55,56,57,58,59,60,61,62,63,64,65,66,67,68,69,70,71,72,73,74,75,76,77] (iw 163 [(1,v1),(3,v3),(68,V.s (Value.bool true)),(70,und)]) H=some (.nrm,iw 163 [(1,v1),(3,v3),(78,V.s (Value.bool true))],H):=by
 unfold qb;rw [evC_ops,show mi (dn CT) base R123_4t20 (iw 163 [(1,v1),(3,v3),(68,V.s (Value.bool true)),(70,und)]) H=some (iw 163 [(1,v1),(3,v3),(68,V.s (Value.bool true)),(70,und),(71,und),(72,und),(73,und),(74,und),(75,und),(76,und),(77,und),(78,V.s (Value.bool true))],H) from rfl,aca];kernel_rfl
set_option maxHeartbeats 1000000 in
theorem bby (h:R5T CT) (base:Nat) {D:Heap} {p:Nat} {x:InsD} {av lv:V} (hg:jm D p 0=some (jg x av lv)) (q1:Rd D av (x.xs.map Sb)) (q3:Rd D lv (x.ls.map Sb)) (a:Bool):evC (dn CT) itW base (.region R123_4t18 [] [8,9,10,11,12,13,14,15,16,17,18,19,20,21,22,23,24,25,26,27,28,29,30,31,32,33,34,35,36,37,38,39,40,41,42,43,44,45,46,47,48,49,50,51,52,53,54,55,56,57,58,59,60,61,62,63,64,65,66,67,68,69,70,71,72,73,74,75,76,77]) (iw 163 [(1,.ref p 0 0),(3,.s (.string (z8 x.op))),(68,V.s (Value.bool a))]) D=some (.nrm,iw 163 [(1,.ref p 0 0),(3,.s (.string (z8 x.op))),(78,V.s (Value.bool (a || (!hR x.op 108 && ((x.ls.length:Int) != 0)))))],D):=by
 have c1:=h.h x.op (c:=108) (by decide) (by decide) base D
 have l1:=qf q1;have l3:=qf q3;simp only [jg] at hg;simp only [bl] at c1;cases a with
 | true=>
   simp only [Sb,Iz,bl,X123_4t18,X123_4t19,T123_4t20,X123_4t20,aa,simprocAttr,a3c,jl,gu,ji,jk,hg,l1,l3,c1,iq,d9,l7,kv,ig,je]
 | false=>
   cases e:hR x.op 108 <;> (rw [e] at c1;simp only [Sb,Iz,bl,X123_4t18,X123_4t19,T123_4t20,X123_4t20,aa,simprocAttr,a3c,jl,gu,ji,jk,hg,l1,l3,c1,iq,d9,l7,kv,ig,je])
set_option maxHeartbeats 1000000 in
theorem bbx (h:R5T CT) (base:Nat) {D:Heap} {p:Nat} {x:InsD} {av lv:V} (hg:jm D p 0=some (jg x av lv)) (q1:Rd D av (x.xs.map Sb)) (q3:Rd D lv (x.ls.map Sb)):evC (dn CT) itW base (.region R123_6 [] [3,78,79,80,81,82,83,84,85,86,87,88,89,90,91,92,93,94,95,96,97,98,99,100,101,102,103,104,105,106,107,108,109,110,111]) (iw 163 [(1,.ref p 0 0),(3,.s (.string (z8 x.op))),(78,V.s (Value.bool false))]) D=evC (dn CT) itW base (.region R123_6t3 [] [3,78,79,80,81,82,83,84,85,86,87,88,89,90,91,92,93,94,95,96,97,98,99,100,101,102,103,104,105,106,107,108,109,110,111]) (iw 163 [(1,.ref p 0 0),(3,.s (.string (z8 x.op))),(86,V.s (Value.bool ((mR x.op 100 && x.d.data.toList == []))))]) D:=by
 have c1:=h.m x.op (c:=100) base D;have l1:=qf q1;have l3:=qf q3;simp only [jg] at hg;simp only [bl] at c1;cases e:mR x.op 100 <;> (rw [e] at c1;simp only [Sb,Iz,bl,T123_6p0,X123_6,X123_6t1,T123_6p2,X123_6t2,aa,simprocAttr,jl,gu,ji,jk,hg,l1,l3,c1,iq,d9,l7,kv,ig,je])
theorem a3b (base:Nat) (H:Heap) {v1 v3:V}:qb (dn CT) itW base R123_6t5 [3,78,79,80,81,82,83,84,85,86,87,88,89,90,91,92,93,94,95,96,97,98,99,100,101,102,103,104,105,106,107,108,109,110,111] (iw 163 [(1,v1),(3,v3),(86,V.s (Value.bool true)),(88,und)]) H=evC (dn CT) itW base (.region R123_6t6 [] [3,78,79,80,81,82,83,84,85,86,87,88,89,90,91,92,93,94,95,96,97,98,99,100,101,102,103,104,105,106,107,108,109,110,111]) (iw 163 [(1,v1),(3,v3),(95,V.s (Value.bool true))]) H:=by
 refine (ab9 R123_6p5 R123_6t6 (ka:=[86,88,89,90,91,92,93,94]) (by kernel_rfl) (f1:=iw 163 [(1,v1),(3,v3),(86,V.s (Value.bool true)),(88,und),(89,und),(90,und),(91,und),(92,und),(93,und),(94,V.s (Value.bool true)),(95,V.s (Value.bool true))]) (by rfl)).trans ?_
 rfl
set_option maxHeartbeats 1000000 in
theorem bbw (h:R5T CT) (base:Nat) {D:Heap} {p:Nat} {x:InsD} {av lv:V} (hg:jm D p 0=some (jg x av lv)) (q1:Rd D av (x.xs.map Sb)) (q3:Rd D lv (x.ls.map Sb)) (a:Bool):evC (dn CT) itW base (.region R123_6t3 [] [3,78,79,80,81,82,83,84,85,86,87,88,89,90,91,92,93,94,95,96,97,98,99,100,101,102,103,104,105,106,107,108,109,110,111]) (iw 163 [(1,.ref p 0 0),(3,.s (.string (z8 x.op))),(86,V.s (Value.bool a))]) D=evC (dn CT) itW base (.region R123_6t6 [] [3,78,79,80,81,82,83,84,85,86,87,88,89,90,91,92,93,94,95,96,97,98,99,100,101,102,103,104,105,106,107,108,109,110,111]) (iw 163 [(1,.ref p 0 0),(3,.s (.string (z8 x.op))),(95,V.s (Value.bool (a || (mR x.op 97 && x.a.data.toList == []))))]) D:=by
 have c1:=h.m x.op (c:=97) base D;have l1:=qf q1;have l3:=qf q3;simp only [jg] at hg;simp only [bl] at c1;cases a with
 | true=>
   simp only [Sb,Iz,bl,X123_6t3,X123_6t4,T123_6p5,X123_6t5,aa,simprocAttr,a3b,jl,gu,ji,jk,hg,l1,l3,c1,iq,d9,l7,kv,ig,je]
 | false=>
   cases e:mR x.op 97 <;> (rw [e] at c1;simp only [Sb,Iz,bl,X123_6t3,X123_6t4,T123_6p5,X123_6t5,aa,simprocAttr,a3b,jl,gu,ji,jk,hg,l1,l3,c1,iq,d9,l7,kv,ig,je])
theorem a3a (base:Nat) (H:Heap) {v1 v3:V}:qb (dn CT) itW base R123_6t8 [3,78,79,80,81,82,83,84,85,86,87,88,89,90,91,92,93,94,95,96,97,98,99,100,101,102,103,104,105,106,107,108,109,110,111] (iw 163 [(1,v1),(3,v3),(95,V.s (Value.bool true)),(97,und)]) H=evC (dn CT) itW base (.region R123_6t9 [] [3,78,79,80,81,82,83,84,85,86,87,88,89,90,91,92,93,94,95,96,97,98,99,100,101,102,103,104,105,106,107,108,109,110,111]) (iw 163 [(1,v1),(3,v3),(104,V.s (Value.bool true))]) H:=by
 refine (ab9 R123_6p8 R123_6t9 (ka:=[95,97,98,99,100,101,102,103]) (by kernel_rfl) (f1:=iw 163 [(1,v1),(3,v3),(95,V.s (Value.bool true)),(97,und),(98,und),(99,und),(100,und),(101,und),(102,und),(103,V.s (Value.bool true)),(104,V.s (Value.bool true))]) (by rfl)).trans ?_
 rfl
set_option maxHeartbeats 1000000 in
theorem bbv (h:R5T CT) (base:Nat) {D:Heap} {p:Nat} {x:InsD} {av lv:V} (hg:jm D p 0=some (jg x av lv)) (q1:Rd D av (x.xs.map Sb)) (q3:Rd D lv (x.ls.map Sb)) (a:Bool):evC (dn CT) itW base (.region R123_6t6 [] [3,78,79,80,81,82,83,84,85,86,87,88,89,90,91,92,93,94,95,96,97,98,99,100,101,102,103,104,105,106,107,108,109,110,111]) (iw 163 [(1,.ref p 0 0),(3,.s (.string (z8 x.op))),(95,V.s (Value.bool a))]) D=evC (dn CT) itW base (.region R123_6t9 [] [3,78,79,80,81,82,83,84,85,86,87,88,89,90,91,92,93,94,95,96,97,98,99,100,101,102,103,104,105,106,107,108,109,110,111]) (iw 163 [(1,.ref p 0 0),(3,.s (.string (z8 x.op))),(104,V.s (Value.bool (a || (mR x.op 98 && x.b.data.toList == []))))]) D:=by
 have c1:=h.m x.op (c:=98) base D;have l1:=qf q1;have l3:=qf q3;simp only [jg] at hg;simp only [bl] at c1;cases a with
 | true=>
   simp only [Sb,Iz,bl,X123_6t6,X123_6t7,T123_6p8,X123_6t8,aa,simprocAttr,a3a,jl,gu,ji,jk,hg,l1,l3,c1,iq,d9,l7,kv,ig,je]
 | false=>
   cases e:mR x.op 98 <;> (rw [e] at c1;simp only [Sb,Iz,bl,X123_6t6,X123_6t7,T123_6p8,X123_6t8,aa,simprocAttr,a3a,jl,gu,ji,jk,hg,l1,l3,c1,iq,d9,l7,kv,ig,je])
theorem a2z (base:Nat) (H:Heap) {v1 v3:V}:qb (dn CT) itW base R123_6t11 [3,78,79,80,81,82,83,84,85,86,87,88,89,90,91,92,93,94,95,96,97,98,99,100,101,102,103,104,105,106,107,108,109,110,111] (iw 163 [(1,v1),(3,v3),(104,V.s (Value.bool true)),(106,und)]) H=some (.nrm,iw 163 [(1,v1),(112,V.s (Value.bool true))],H):=by
 unfold qb;rw [evC_ops,show mi (dn CT) base R123_6t11 (iw 163 [(1,v1),(3,v3),(104,V.s (Value.bool true)),(106,und)]) H=some (iw 163 [(1,v1),(3,v3),(104,V.s (Value.bool true)),(106,und),(107,und),(108,und),(109,und),(110,und),(111,und),(112,V.s (Value.bool true))],H) from rfl,aca];kernel_rfl
set_option maxHeartbeats 1000000 in
theorem bbu (h:R5T CT) (base:Nat) {D:Heap} {p:Nat} {x:InsD} {av lv:V} (hg:jm D p 0=some (jg x av lv)) (q1:Rd D av (x.xs.map Sb)) (q3:Rd D lv (x.ls.map Sb)) (a:Bool):evC (dn CT) itW base (.region R123_6t9 [] [3,78,79,80,81,82,83,84,85,86,87,88,89,90,91,92,93,94,95,96,97,98,99,100,101,102,103,104,105,106,107,108,109,110,111]) (iw 163 [(1,.ref p 0 0),(3,.s (.string (z8 x.op))),(104,V.s (Value.bool a))]) D=some (.nrm,iw 163 [(1,.ref p 0 0),(112,V.s (Value.bool (a || (mR x.op 102 && x.f.data.toList == []))))],D):=by
 have c1:=h.m x.op (c:=102) base D;have l1:=qf q1;have l3:=qf q3;simp only [jg] at hg;simp only [bl] at c1;cases a with
 | true=>
   simp only [Sb,Iz,bl,X123_6t9,X123_6t10,T123_6t11,X123_6t11,aa,simprocAttr,a2z,jl,gu,ji,jk,hg,l1,l3,c1,iq,d9,l7,kv,ig,je]
 | false=>
   cases e:mR x.op 102 <;> (rw [e] at c1;simp only [Sb,Iz,bl,X123_6t9,X123_6t10,T123_6t11,X123_6t11,aa,simprocAttr,a2z,jl,gu,ji,jk,hg,l1,l3,c1,iq,d9,l7,kv,ig,je])
def ri1 (x:InsD):Bool:=(((((((!hR x.op 100 && !(x.d.data.toList == [])) || (!hR x.op 97 && !(x.a.data.toList == []))) || (!hR x.op 98 && !(x.b.data.toList == []))) || (!hR x.op 110 && x.k != 0)) || (!hR x.op 102 && !(x.f.data.toList == []))) || (!hR x.op 103 && ((x.xs.length:Int) != 0))) || (!hR x.op 108 && ((x.ls.length:Int) != 0)))
def ri2 (x:InsD):Bool:=((((mR x.op 100 && x.d.data.toList == []) || (mR x.op 97 && x.a.data.toList == [])) || (mR x.op 98 && x.b.data.toList == [])) || (mR x.op 102 && x.f.data.toList == []))
theorem ri_r4 (h:R5T CT) (base:Nat) {D:Heap} {p:Nat} {x:InsD} {av lv:V} (hg:jm D p 0=some (jg x av lv)) (q1:Rd D av (x.xs.map Sb)) (q3:Rd D lv (x.ls.map Sb)):evC (dn CT) itW base (.region R123_4 [] [8,9,10,11,12,13,14,15,16,17,18,19,20,21,22,23,24,25,26,27,28,29,30,31,32,33,34,35,36,37,38,39,40,41,42,43,44,45,46,47,48,49,50,51,52,53,54,55,56,57,58,59,60,61,62,63,64,65,66,67,68,69,70,71,72,73,74,75,76,77]) (iw 163 [(1,.ref p 0 0),(3,.s (.string (z8 x.op))),(8,V.s (Value.bool false))]) D=some (.nrm,iw 163 [(1,.ref p 0 0),(3,.s (.string (z8 x.op))),(78,V.s (Value.bool (ri1 x)))],D):=by
 rw [bb8 h base hg q1 q3,bb7 h base hg q1 q3,bb6 h base hg q1 q3,bb5 h base hg q1 q3,bb4 h base hg q1 q3,bbz h base hg q1 q3,bby h base hg q1 q3];rfl
theorem ri_r6 (h:R5T CT) (base:Nat) {D:Heap} {p:Nat} {x:InsD} {av lv:V} (hg:jm D p 0=some (jg x av lv)) (q1:Rd D av (x.xs.map Sb)) (q3:Rd D lv (x.ls.map Sb)):evC (dn CT) itW base (.region R123_6 [] [3,78,79,80,81,82,83,84,85,86,87,88,89,90,91,92,93,94,95,96,97,98,99,100,101,102,103,104,105,106,107,108,109,110,111]) (iw 163 [(1,.ref p 0 0),(3,.s (.string (z8 x.op))),(78,V.s (Value.bool false))]) D=some (.nrm,iw 163 [(1,.ref p 0 0),(112,V.s (Value.bool (ri2 x)))],D):=by
 rw [bbx h base hg q1 q3,bbw h base hg q1 q3,bbv h base hg q1 q3,bbu h base hg q1 q3];rfl
end
def ri3 (x:InsD):Bool:=bif x.op == 1 || x.op == 2 then decide (x.k < 1) || decide (x.k > 64) else bif x.op == 7 then decide (x.k < 0) || decide (x.k > 63) else bif x.op == 6 then decide ((x.ls.length:Int) < 1) || (x.ls.length:Int) != (x.xs.length:Int) else bif x.op == 12 then (x.ls.length:Int) != 2 else bif x.op == 13 then (x.ls.length:Int) != 1 else false
def rbI (x:InsD):Bool:=(z8 x.op).data.toList == [] || (ri1 x || (ri2 x || ri3 x))
section
variable {CT:Nat→Option CFun}
theorem bg3 (h:R5T CT) (hT:CT a2u=some (.code aa4)) (base:Nat) {A:Heap} {r:List V} {x:InsD} (hr:p9 A r x):
 ∃ H',dn CT (.fn a2u [] []) [.agg r] base A=some (bl (rbI x),H')∧Ext A H':=by
 obtain ⟨av,lv,rfl,q1,q2,q3,q4,_⟩:=hr;obtain ⟨D,hD⟩:∃ D,A ++ [Ob.cells 0 (jg x av lv)]=D:=⟨_,rfl⟩;have eD:Ext A D:=hD ▸ Ext.app _ _;have hg:jm D A.length 0=some (jg x av lv):=hD ▸ dh A 0 _
 have lD:D.length=A.length+1:=by rw [← hD,eu]
 have f0:=a4c h.fld x.op base D;have f4:=ri_r4 h base hg (q1.ext eD) (q3.ext eD);have f6:=ri_r6 h base hg (q1.ext eD) (q3.ext eD);have hav:=q1.one;have hlv:=q3.one;have l1:=qf (q1.ext eD);have l3:=qf (q3.ext eD)
 refine ⟨D,gp (c:=aa4) (k:=1) hT rfl (by decide) arp ?_,eD⟩
 unfold rbI;simp only [jg,Sb] at hD hg;simp only [bl,Sb,Iz] at f0;cases e0:((z8 x.op).data.toList == []:Bool) with
 | true=>simp only [ri3,Iz,Sb,bl,jg,aa4,A123_0p0_0,A123_0p0_1,A123_0p0_2,X123_0,T123_0t1,X123_0t1,A123_0_0,A123_0_1,A123_0_2,T123_1p0,X123_1,X123_1t1,T123_1t2,X123_1t2,T123_2,T123_3,T123_5,T123_7,T123_8,T123_9,T123_10,T123_11,T123_12,T123_13,T123_14,T123_15,T123_16,T123_17,T123_18,T123_19,T123_20,aa,simprocAttr,hav,hlv,hD,lD,hg,l1,l3,f0,f4,f6,e0,iq,d9,mo,cond_true,cond_false]
 | false=>
   cases e1:ri1 x with
   | true=>
     rw [e1] at f4;simp only [ri3,Iz,Sb,bl,jg,aa4,A123_0p0_0,A123_0p0_1,A123_0p0_2,X123_0,T123_0t1,X123_0t1,A123_0_0,A123_0_1,A123_0_2,T123_1p0,X123_1,X123_1t1,T123_1t2,X123_1t2,T123_2,T123_3,T123_5,T123_7,T123_8,T123_9,T123_10,T123_11,T123_12,T123_13,T123_14,T123_15,T123_16,T123_17,T123_18,T123_19,T123_20,aa,simprocAttr,hav,hlv,hD,lD,hg,l1,l3,f0,f4,f6,e0,iq,d9,mo,cond_true,cond_false]
   | false=>
     rw [e1] at f4;cases e2:ri2 x with
     | true=>
       rw [e2] at f6;simp only [ri3,Iz,Sb,bl,jg,aa4,A123_0p0_0,A123_0p0_1,A123_0p0_2,X123_0,T123_0t1,X123_0t1,A123_0_0,A123_0_1,A123_0_2,T123_1p0,X123_1,X123_1t1,T123_1t2,X123_1t2,T123_2,T123_3,T123_5,T123_7,T123_8,T123_9,T123_10,T123_11,T123_12,T123_13,T123_14,T123_15,T123_16,T123_17,T123_18,T123_19,T123_20,aa,simprocAttr,hav,hlv,hD,lD,hg,l1,l3,f0,f4,f6,e0,iq,d9,mo,cond_true,cond_false]
     | false=>
       rw [e2] at f6;cases o1:(x.op == 1:Bool) with
       | true=>simp only [ri3,Iz,Sb,bl,jg,aa4,A123_0p0_0,A123_0p0_1,A123_0p0_2,X123_0,T123_0t1,X123_0t1,A123_0_0,A123_0_1,A123_0_2,T123_1p0,X123_1,X123_1t1,T123_1t2,X123_1t2,T123_2,T123_3,T123_5,T123_7,T123_8,T123_9,T123_10,T123_11,T123_12,T123_13,T123_14,T123_15,T123_16,T123_17,T123_18,T123_19,T123_20,aa,simprocAttr,hav,hlv,hD,lD,hg,l1,l3,f0,f4,f6,e0,o1,iq,d9,mo,cond_true,cond_false]
       | false=>
         cases o2:(x.op == 2:Bool) with
         | true=>simp only [ri3,Iz,Sb,bl,jg,aa4,A123_0p0_0,A123_0p0_1,A123_0p0_2,X123_0,T123_0t1,X123_0t1,A123_0_0,A123_0_1,A123_0_2,T123_1p0,X123_1,X123_1t1,T123_1t2,X123_1t2,T123_2,T123_3,T123_5,T123_7,T123_8,T123_9,T123_10,T123_11,T123_12,T123_13,T123_14,T123_15,T123_16,T123_17,T123_18,T123_19,T123_20,aa,simprocAttr,hav,hlv,hD,lD,hg,l1,l3,f0,f4,f6,e0,o1,o2,iq,d9,mo,cond_true,cond_false]
         | false=>
           cases o7:(x.op == 7:Bool) with
           | true=>simp only [ri3,Iz,Sb,bl,jg,aa4,A123_0p0_0,A123_0p0_1,A123_0p0_2,X123_0,T123_0t1,X123_0t1,A123_0_0,A123_0_1,A123_0_2,T123_1p0,X123_1,X123_1t1,T123_1t2,X123_1t2,T123_2,T123_3,T123_5,T123_7,T123_8,T123_9,T123_10,T123_11,T123_12,T123_13,T123_14,T123_15,T123_16,T123_17,T123_18,T123_19,T123_20,aa,simprocAttr,hav,hlv,hD,lD,hg,l1,l3,f0,f4,f6,e0,o1,o2,o7,iq,d9,mo,cond_true,cond_false]
           | false=>
             cases o6:(x.op == 6:Bool) with
             | true=>simp only [ri3,Iz,Sb,bl,jg,aa4,A123_0p0_0,A123_0p0_1,A123_0p0_2,X123_0,T123_0t1,X123_0t1,A123_0_0,A123_0_1,A123_0_2,T123_1p0,X123_1,X123_1t1,T123_1t2,X123_1t2,T123_2,T123_3,T123_5,T123_7,T123_8,T123_9,T123_10,T123_11,T123_12,T123_13,T123_14,T123_15,T123_16,T123_17,T123_18,T123_19,T123_20,aa,simprocAttr,hav,hlv,hD,lD,hg,l1,l3,f0,f4,f6,e0,o1,o2,o7,o6,iq,d9,mo,cond_true,cond_false]
             | false=>
               cases o12:(x.op == 12:Bool) with
               | true=>simp only [ri3,Iz,Sb,bl,jg,aa4,A123_0p0_0,A123_0p0_1,A123_0p0_2,X123_0,T123_0t1,X123_0t1,A123_0_0,A123_0_1,A123_0_2,T123_1p0,X123_1,X123_1t1,T123_1t2,X123_1t2,T123_2,T123_3,T123_5,T123_7,T123_8,T123_9,T123_10,T123_11,T123_12,T123_13,T123_14,T123_15,T123_16,T123_17,T123_18,T123_19,T123_20,aa,simprocAttr,hav,hlv,hD,lD,hg,l1,l3,f0,f4,f6,e0,o1,o2,o7,o6,o12,iq,d9,mo,cond_true,cond_false]
               | false=>
                 cases o13:(x.op == 13:Bool) with
                 | true=>simp only [ri3,Iz,Sb,bl,jg,aa4,A123_0p0_0,A123_0p0_1,A123_0p0_2,X123_0,T123_0t1,X123_0t1,A123_0_0,A123_0_1,A123_0_2,T123_1p0,X123_1,X123_1t1,T123_1t2,X123_1t2,T123_2,T123_3,T123_5,T123_7,T123_8,T123_9,T123_10,T123_11,T123_12,T123_13,T123_14,T123_15,T123_16,T123_17,T123_18,T123_19,T123_20,aa,simprocAttr,hav,hlv,hD,lD,hg,l1,l3,f0,f4,f6,e0,o1,o2,o7,o6,o12,o13,iq,d9,mo,cond_true,cond_false]
                 | false=>simp only [ri3,Iz,Sb,bl,jg,aa4,A123_0p0_0,A123_0p0_1,A123_0p0_2,X123_0,T123_0t1,X123_0t1,A123_0_0,A123_0_1,A123_0_2,T123_1p0,X123_1,X123_1t1,T123_1t2,X123_1t2,T123_2,T123_3,T123_5,T123_7,T123_8,T123_9,T123_10,T123_11,T123_12,T123_13,T123_14,T123_15,T123_16,T123_17,T123_18,T123_19,T123_20,aa,simprocAttr,hav,hlv,hD,lD,hg,l1,l3,f0,f4,f6,e0,o1,o2,o7,o6,o12,o13,iq,d9,mo,cond_true,cond_false]
end
theorem bg7 (x:InsD):rbI x=biG x:=by
 obtain ⟨h1,h2,h3,h4,h5,h6,h7⟩:=bba x.op;obtain ⟨m1,m2,m3,m4,m5⟩:=bhl x.op
 have z:∀ n:Nat,decide ((n:Int) > 0)=((n:Int) != 0):=fun n=>by
  rw [acv,decide_eq_true_eq,bne_iff_ne];omega
 have e1:((z8 x.op).data.toList == [] || ri1 x)=bi1 x:=by
  unfold ri1 bi1;rw [m5,h1,h2,h3,h4,h5,h6,h7,z,z];simp only [bki]
 have e2:ri2 x=bi2 x:=by
  unfold ri2 bi2;rw [m1,m2,m3,m4]
  have c:∀ d n e:Bool,((d && n) && e)=((d && e) && n):=by decide
  rw [c (shp x.op).d,c (shp x.op).a]
 have e3:ri3 x=bi3 x:=by
  unfold ri3 bi3
  have k1:decide (x.k > 63)=decide (x.k ≥ 64):=by
   rw [acv,decide_eq_true_eq,decide_eq_true_eq];omega
  have k2:(decide ((x.ls.length:Int) < 1) || (x.ls.length:Int) != (x.xs.length:Int))=((x.xs.length:Int) == 0 || (x.xs.length:Int) != (x.ls.length:Int)):=by
   rw [acv];simp only [l6,decide_eq_true_eq,beq_iff_eq,bne_iff_ne,ne_eq];omega
  rw [k1,k2]
 unfold rbI biG;rw [e2,e3,← e1,bki]
structure R6T (CT:Nat→Option CFun):Prop where
 R:R5T CT
 badName:CT a2v=some (.code adf)
 badInstr:CT a2u=some (.code aa4)
 ofFunc:CT bhq=some (.code ajx)
 ofBlock:CT bhp=some (.code alj)
 ofInstr:CT bho=some (.code alh)
def ofF (n:Nat) (f:FunD):Bool:=bif n == 2 then (f.ps.any fun s=>!mh s) || !mh f.name else false
def ofB (n:Nat) (b:BlkD):Bool:=bif n == 2 then !mh b.label else false
def ofI (n:Nat) (x:InsD):Bool:=bif n == 2 then rbN x else rbI x
section
variable {CT:Nat→Option CFun}
theorem of_l0 (h:R5T CT) (base:Nat) {D:Heap} {p:Nat} {nm:ByteArray} {pv bv:V} {ps:List ByteArray} (hg:jm D p 0=some [Sb nm,pv,bv]) (q1:Rd D pv (ps.map Sb)) (q2:aa7 pv) (hn:ps.length < 2 ^ 62):
 itW (evC (dn CT) itW base aj6) [] D.length (iw 100 [(7,.ref p 0 0),(8,Iz 0)]) D=bif (ps.any fun s=>!mh s) then some (.ret,iw 100 [(6,bl true)],D) else some (.ext 1,iw 100 [(7,.ref p 0 0),(8,Iz ps.length),(23,bl false)],D):=by
 have hpl:=qf q1
 rcases amk ps.length (fun k=>!mh (ps.getD k ⟨#[]⟩)) (fun k=>itW (evC (dn CT) itW base aj6) [] D.length (iw 100 [(7,.ref p 0 0),(8,Iz k)]) D) (fun k hk hp=>by
  have hlt':((k:Int) < ((ps.length:Nat):Int)):=by omega
  have hwk:=w64 (n:=k) (by omega)
  obtain ⟨y,y1,y2⟩:=ab0 q1 q2 hk;have o1:=adz h.is' (ps.getD k ⟨#[]⟩) base D
  have e2:mh (ps.getD k ⟨#[]⟩)=true:=by simpa using hp
  rw [e2] at o1;simp only [bl] at o1;rw [dw]
  simp only [Iz,Sb,bl,az7,aa,simprocAttr,hg,hpl,hlt',y1,y2,o1,hwk,mr rfl]) with ⟨h1,h2⟩ | ⟨k,h1,h2,h3,h4⟩
 ·have hf:(ps.any fun s=>!mh s)=false:=aqr fun i hi=>h1 i hi;rw [ry] at h2;rw [hf];refine h2.trans ?_;rw [dw];simp only [Iz,Sb,bl,az7,aa,simprocAttr,hg,hpl,jo,mr rfl]
 ·have ht:(ps.any fun s=>!mh s)=true:=ana h1 h2
  have e2:mh (ps.getD k ⟨#[]⟩)=false:=by simpa using h2
  have o1:=adz h.is' (ps.getD k ⟨#[]⟩) base D;rw [e2] at o1
  have hlt':((k:Int) < ((ps.length:Nat):Int)):=by omega
  obtain ⟨y,y1,y2⟩:=ab0 q1 q2 h1;rw [ry] at h4;rw [ht];refine h4.trans ?_;simp only [bl] at o1;rw [dw];simp only [Iz,Sb,bl,az7,aa,simprocAttr,hg,hpl,hlt',y1,y2,o1,mr rfl]
theorem bhh (h:R6T CT) (base:Nat) {A:Heap} (hb:base≤A.length) {fv:V} {fs:List FunD} (hr:sj A fv fs) {i:Nat} {f:FunD} (hf:fs[i]?=some f) (hn:f.ps.length < 2 ^ 62) {n:Nat} (h29:n=2∨n=9):
 ∃ H',dn CT (.fn bhq [] []) [.agg [fv],Iz i,.s (.int .u8 n)] base A=some (bl (ofF n f),H')∧Ext A H':=by
 have hfo:=hr.one;obtain ⟨a,r,a1,hrr,ld,a3⟩:=hr.at2 hf;obtain ⟨pv,bv,rfl,p1,p2,p3,hbv⟩:=id hrr;obtain ⟨A1,hA1⟩:∃ A1,A ++ [Ob.cells 0 [fv]]=A1:=⟨_,rfl⟩
 have l1:A1.length=A.length+1:=by rw [← hA1,eu]
 obtain ⟨A2,hA2⟩:∃ A2,A1 ++ [Ob.cells 0 [Sb f.name,pv,bv]]=A2:=⟨_,rfl⟩
 have l2:A2.length=A.length+2:=by rw [← hA2,eu,l1]
 have e1:Ext A A1:=hA1 ▸ Ext.app _ _;have e2:Ext A1 A2:=hA2 ▸ Ext.app _ _;have hg1:jm A1 A.length 0=some [fv]:=hA1 ▸ dh A 0 _
 have hg2:jm A2 (A.length+1) 0=some [Sb f.name,pv,bv]:=by rw [← l1,← hA2];exact dh A1 0 _
 have ld1:=ld A1 e1;have hpo:=p1.one;have hbo:=hbv.one
 have gz:jm (A1 ++ [Ob.cells 0 [V.s (.string ⟨#[]⟩),.s (.slice none 0 0),.s (.slice none 0 0)]]) (A.length+1) 0=some [V.s (.string ⟨#[]⟩),.s (.slice none 0 0),.s (.slice none 0 0)]:=by rw [← l1];exact dh A1 0 _
 have gs:∀ o,(A1 ++ [Ob.cells 0 [V.s (.string ⟨#[]⟩),.s (.slice none 0 0),.s (.slice none 0 0)]]).set (A.length+1) o=A1 ++ [o]:=fun o=>by rw [← l1];exact ny A1 _ _
 have hb1:base≤A.length+1:=by omega
 rcases h29 with rfl | rfl
 ·have f0:=of_l0 h.R base hg2 (p1.ext (e1.trans e2)) p2 hn;have f1:=adz h.R.is' f.name base A2
  refine ⟨A2,gp (c:=ajx) (k:=3) h.ofFunc rfl (by decide) alk ?_,e1.trans e2⟩
  rw [l2] at f0
  have eF:ofF 2 f=((f.ps.any fun s=>!mh s) || !mh f.name):=rfl
  rw [eF];simp only [Sb,Iz,bl] at f0 f1 hg2 hA2 ld1;have e22:(((2:Nat):Int) == 2)=true:=rfl;cases e:(f.ps.any fun s=>!mh s) with
  | true=>
    rw [e] at f0;simp only [Iz,Sb,bl,ajx,az7,aa,simprocAttr,hfo,hA1,hg1,a1,ld1,l1,gz,gs,hb1,hpo,hbo,hA2,l2,f0,f1,e22,hg2,iq]
  | false=>
    rw [e] at f0;simp only [Iz,Sb,bl,ajx,az7,aa,simprocAttr,hfo,hA1,hg1,a1,ld1,l1,gz,gs,hb1,hpo,hbo,hA2,l2,f0,f1,e22,hg2,d9]
 ·refine ⟨A2,gp (c:=ajx) (k:=3) h.ofFunc rfl (by decide) alk ?_,e1.trans e2⟩
  have eF:ofF 9 f=false:=rfl;rw [eF];simp only [Sb,Iz,bl] at hg2 hA2 ld1;have e92:(((9:Nat):Int) == 2)=false:=rfl;have e93:(((9:Nat):Int) == 3)=false:=rfl;have e94:(((9:Nat):Int) == 4)=false:=rfl;have e95:(((9:Nat):Int) == 5)=false:=rfl;have e96:(((9:Nat):Int) == 6)=false:=rfl;have e97:(((9:Nat):Int) == 15)=false:=rfl;simp only [Iz,Sb,bl,ajx,az7,aa,simprocAttr,hfo,hA1,hg1,a1,ld1,l1,gz,gs,hb1,hpo,hbo,hA2,l2,e92,e93,e94,e95,e96,e97,hg2]
theorem bc5 (h:R6T CT) (base:Nat) {A:Heap} (hb:base≤A.length) {nm:ByteArray} {pv bv:V} {bs:List BlkD} (hpo:pv.one=true) (hbv:RdL 2 aay A bv bs) {b:Nat} {B:BlkD} (hB:bs[b]?=some B) {n:Nat} (h29:n=2∨n=9):
 ∃ H',dn CT (.fn bhp [] []) [.agg [Sb nm,pv,bv],Iz b,.s (.int .u8 n)] base A=some (bl (ofB n B),H')∧Ext A H':=by
 have hbo:=hbv.one;obtain ⟨a,r,a1,hbb,_,a3⟩:=hbv.at2 hB;obtain ⟨cv,rfl,hcv⟩:=id hbb;obtain ⟨d,d1,d2⟩:=a3 0 _ rfl;obtain ⟨A1,hA1⟩:∃ A1,A ++ [Ob.cells 0 [Sb nm,pv,bv]]=A1:=⟨_,rfl⟩
 have l1:A1.length=A.length+1:=by rw [← hA1,eu]
 have e1:Ext A A1:=hA1 ▸ Ext.app _ _;have hg1:jm A1 A.length 0=some [Sb nm,pv,bv]:=hA1 ▸ dh A 0 _;have d3:=d2 A1 e1
 rcases h29 with rfl | rfl
 ·have f1:=adz h.R.is' B.label base A1
  refine ⟨A1,gp (c:=alj) (k:=3) h.ofBlock rfl (by decide) ali ?_,e1⟩
  have eF:ofB 2 B=!mh B.label:=rfl;rw [eF];have e22:(((2:Nat):Int) == 2)=true:=rfl;simp only [Sb,Iz,bl] at f1 hg1 hA1 d3;simp only [Iz,Sb,bl,alj,bir,aa,simprocAttr,hpo,hbo,hA1,hg1,a1,d1,d3,f1,e22]
 ·refine ⟨A1,gp (c:=alj) (k:=3) h.ofBlock rfl (by decide) ali ?_,e1⟩
  have eF:ofB 9 B=false:=rfl;rw [eF];have e92:(((9:Nat):Int) == 2)=false:=rfl;have e97:(((9:Nat):Int) == 7)=false:=rfl;have e90:(((9:Nat):Int) == 10)=false:=rfl;simp only [Sb,Iz,bl] at hg1 hA1 d3;simp only [Iz,Sb,bl,alj,bir,aa,simprocAttr,hpo,hbo,hA1,hg1,a1,d1,d3,e92,e97,e90]
end
section
variable {CT:Nat→Option CFun}
theorem bc4 (h:R6T CT) (base:Nat) {A:Heap} (hb:base≤A.length) {fv:V} (hfo:fv.one=true) {nm:ByteArray} {pv bv:V} {bs:List BlkD} (hpo:pv.one=true) (hbv:RdL 2 aay A bv bs) {b k:Nat} {B:BlkD} (hB:bs[b]?=some B) {x:InsD} (hx:B.code[k]?=some x) (cnt:Int) (hn1:x.xs.length < 2 ^ 62) (hn2:x.ls.length < 2 ^ 62) {n:Nat} (h29:n=2∨n=9):
 ∃ H',dn CT (.fn bho [] []) [.agg [fv],.agg [Sb nm,pv,bv],Iz b,Iz k,.s (.int .i64 cnt),.s (.int .u8 n)] base A=some (bl (ofI n x),H')∧Ext A H':=by
 have hbo:=hbv.one;obtain ⟨a,r,a1,hbb,_,a3⟩:=hbv.at2 hB;obtain ⟨cv,rfl,hcv⟩:=id hbb;obtain ⟨d,d1,d2⟩:=a3 1 _ rfl;have hco:=hcv.one;obtain ⟨y,re,g1,hee,g2,_⟩:=hcv.at2 hx;obtain ⟨A1,hA1⟩:∃ A1,A ++ [Ob.cells 0 [fv]]=A1:=⟨_,rfl⟩
 have l1:A1.length=A.length+1:=by rw [← hA1,eu]
 obtain ⟨A2,hA2⟩:∃ A2,A1 ++ [Ob.cells 0 [Sb nm,pv,bv]]=A2:=⟨_,rfl⟩
 have l2:A2.length=A.length+2:=by rw [← hA2,eu,l1]
 obtain ⟨A3,hA3⟩:∃ A3,A2 ++ [Ob.cells 0 re]=A3:=⟨_,rfl⟩;have e1:Ext A A1:=hA1 ▸ Ext.app _ _;have e2:Ext A1 A2:=hA2 ▸ Ext.app _ _;have e3:Ext A2 A3:=hA3 ▸ Ext.app _ _;have e13:=e1.trans (e2.trans e3)
 have hg2:jm A2 (A.length+1) 0=some [Sb nm,pv,bv]:=by rw [← l1,← hA2];exact dh A1 0 _
 have hg3:jm A3 (A.length+2) 0=some re:=by rw [← l2,← hA3];exact dh A2 0 _
 have d3:=d2 A2 (e1.trans e2);have ldx:=g2 A2 (e1.trans e2);have hrr:=p9.ext hee e13
 have hrl:re.length=8:=by obtain ⟨av,lv,rfl,_⟩:=hee;rfl
 have hone:re.all V.one=true:=by
  obtain ⟨av,lv,rfl,q1,_,q3,_⟩:=hee;have e:(jg x av lv).all V.one=(av.one && (lv.one && true)):=rfl;rw [e,q1.one,q3.one];rfl
 have gz:jm (A2 ++ [Ob.cells 0 [V.s (.int .u8 0),.s (.string ⟨#[]⟩),.s (.string ⟨#[]⟩),.s (.string ⟨#[]⟩),.s (.int .i64 0),.s (.string ⟨#[]⟩),.s (.slice none 0 0),.s (.slice none 0 0)]]) (A.length+2) 0=some [V.s (.int .u8 0),.s (.string ⟨#[]⟩),.s (.string ⟨#[]⟩),.s (.string ⟨#[]⟩),.s (.int .i64 0),.s (.string ⟨#[]⟩),.s (.slice none 0 0),.s (.slice none 0 0)]:=by rw [← l2];exact dh A2 0 _
 have hst:agx (A2 ++ [Ob.cells 0 [V.s (.int .u8 0),.s (.string ⟨#[]⟩),.s (.string ⟨#[]⟩),.s (.string ⟨#[]⟩),.s (.int .i64 0),.s (.string ⟨#[]⟩),.s (.slice none 0 0),.s (.slice none 0 0)]]) base 8 (.agg re) (.ref (A.length+2) 0 0)=some A3:=by
  obtain ⟨av,lv,rfl,_⟩:=id hee;have ho:(V.agg (jg x av lv)).cells=jg x av lv:=rfl;simp only [jg,Sb] at hone hA3 ⊢
  have hb2:base≤A.length+2:=by omega
  have gs:∀ o,(A2 ++ [Ob.cells 0 [V.s (.int .u8 0),.s (.string ⟨#[]⟩),.s (.string ⟨#[]⟩),.s (.string ⟨#[]⟩),.s (.int .i64 0),.s (.string ⟨#[]⟩),.s (.slice none 0 0),.s (.slice none 0 0)]]).set (A.length+2) o=A2 ++ [o]:=fun o=>by rw [← l2];exact ny A2 _ _
  simp only [aa,simprocAttr,gz,hb2,hone,gs,hA3,V.cells,fq,gy,aai,pg,bkd,oz,df,cu]
 have hld:tu A3 true 8 (.ref (A.length+2) 0 0)=some (.agg re):=by
  rw [r9,hg3]
  show (if ((re.drop 0).take 8).length=8 then shut true ((re.drop 0).take 8) else none)=_
  rw [pg,aaz (by omega),if_pos hrl]
  rfl
 have e22:(((2:Nat):Int) == 2)=true:=rfl;have e92:(((9:Nat):Int) == 2)=false:=rfl;have e95:(((9:Nat):Int) == 5)=false:=rfl;have e98:(((9:Nat):Int) == 8)=false:=rfl;have e99:(((9:Nat):Int) == 9)=true:=rfl
 rcases h29 with rfl | rfl
 ·obtain ⟨H',f1,x1⟩:=bg5 h.R h.badName base hrr hn1 hn2;have eF:ofI 2 x=rbN x:=rfl;rw [eF]
  refine ⟨H',gp (c:=alh) (k:=6) h.ofInstr rfl (by decide) alg ?_,e13.trans x1⟩
  simp only [Sb,Iz,bl] at f1 hg2 hA2 d3;simp only [Iz,Sb,bl,alh,biq,aa,simprocAttr,hfo,hpo,hbo,hA1,hA2,l1,l2,hg2,a1,d1,d3,g1,ldx,hst,hld,f1,e22]
 ·obtain ⟨H',f1,x1⟩:=bg3 h.R h.badInstr base hrr;have eF:ofI 9 x=rbI x:=rfl;rw [eF]
  refine ⟨H',gp (c:=alh) (k:=6) h.ofInstr rfl (by decide) alg ?_,e13.trans x1⟩
  simp only [Sb,Iz,bl] at f1 hg2 hA2 d3;simp only [Iz,Sb,bl,alh,biq,aa,simprocAttr,hfo,hpo,hbo,hA1,hA2,l1,l2,hg2,a1,d1,d3,g1,ldx,hst,hld,f1,e92,e95,e98,e99]
end
end Go.Proofs.YtngfpadeebpoeaaGreatDoor
