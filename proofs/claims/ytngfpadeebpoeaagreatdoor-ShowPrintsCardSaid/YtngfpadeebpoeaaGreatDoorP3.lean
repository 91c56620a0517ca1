/- Texts of the proof: ShS1, ShS2, ShS3, ShoF1, ShoF5, ShnA2, ShnF1, ShnA3, ShnP1, ShnP2, ShnSh, ShnB1, ShnC1, ShoF2. -/
import Derived.Test.YtngfpadeebpoeaaGreatDoorP0
import Derived.Test.YtngfpadeebpoeaaGreatDoorP1
import Derived.Test.YtngfpadeebpoeaaGreatDoorP2
import Derived.KernelRfl
import Derived.Test.YtngfpadeebpoeaaGreatDoorProg
set_option linter.all false
set_option maxRecDepth 100000
namespace Go.Proofs.YtngfpadeebpoeaaGreatDoor
open Go.AM
abbrev k_f7:Nat:=7
def K7_0:List Nat:=[0] ++ List.range' 2 131
def R7_0t1:LO:=[q 2 (.move (.c (.s (.bool false))))]
def R7_0p0:LO:=[⟨some 1,.box (.t 0),none⟩]
def R7_0:LO:=R7_0p0 ++ R7_0t1
def K7_0p0:List Nat:=[0] ++ List.range' 2 131
theorem X7_0 (call:ni) (it:zt) (base:Nat) (f:List V) (H:Heap):evC call it base (.region R7_0 [] K7_0) f H=abl call it base (.region R7_0t1 [] K7_0) (akk [] R7_0p0 K7_0p0 (mi call base [⟨some 1,.box (.t 0),none⟩] f H)):=(abu call it base R7_0p0 R7_0t1 (kc:=K7_0p0) (by kernel_rfl) f H).trans (by rw [zh];rfl)
def R7_1:LO:=[oF 10 0 1,oL 11 10,q 12 (.lenS .s (.t 11)),q 13 (.bin .gtr (.t 12) (.c (.s (.int .i64 70))))]
def R7_2:LO:=[q 2 (.move (.c (.s (.bool true))))]
def R7_3:LO:=[q 3 (.move (.c (.s (.int .i64 0))))]
def R7_4:LO:=[q 4 (.move (.c (.s (.int .i64 0))))]
def R7_5:LO:=[oM 14 4,oF 15 0 1,oL 16 15,q 17 (.lenS .s (.t 16)),q 18 (.bin .lss (.t 14) (.t 17))]
def R7_6t2:LO:=[⟨none,.store 3 (.t 5) (.t 25),none⟩]
def R7_6t1:LO:=⟨some 5,.alloc [.s (.string ⟨#[]⟩),.s (.slice none 0 0),.s (.slice none 0 0)],none⟩ :: R7_6t2
def R7_6p0:LO:=[oF 21 0 1,oL 22 21,oM 23 4,q 24 (.indexAddr 3 (.t 22) (.t 23)),q 25 (.load true 3 (.t 24))]
def R7_6:LO:=R7_6p0 ++ R7_6t1
def R7_7t4:LO:=[q 46 (.pick (.t 42) (.c (.s (.bool true))) (.t 45))]
def R7_7t3:LO:=⟨some 45,.call (.c (.fn 15 [] [])) [.t 44],some (42,false)⟩ :: R7_7t4
def R7_7t2:LO:=⟨some 44,.load false 1 (.t 43),some (42,false)⟩ :: R7_7t3
def R7_7t1:LO:=⟨some 43,.fieldAddr 1 (.t 5),some (42,false)⟩ :: R7_7t2
def R7_7p0:LO:=[oF 26 0 5,oL 27 26,q 28 (.lenS .p (.t 27)),q 29 (.bin .gtr (.t 28) (.c (.s (.int .i64 200)))),oM 30 29,gF 31 1 5 30 false,gL 32 31 30 false,qg 33 (.lenS .s (.t 32)) 30 false,qg 34 (.bin .gtr (.t 33) (.c (.s (.int .i64 20)))) 30 false,q 35 (.pick (.t 30) (.c (.s (.bool true))) (.t 34)),oM 36 35,gF 37 2 5 36 false,gL 38 37 36 false,qg 39 (.lenS .s (.t 38)) 36 false,qg 40 (.bin .gtr (.t 39) (.c (.s (.int .i64 70)))) 36 false,q 41 (.pick (.t 36) (.c (.s (.bool true))) (.t 40)),oM 42 41]
def R7_7:LO:=R7_7p0 ++ R7_7t1
def R7_8:LO:=[q 2 (.move (.c (.s (.bool true))))]
def R7_9:LO:=[q 6 (.move (.c (.s (.int .i64 0))))]
def R7_10:LO:=[oM 47 6,oF 48 2 5,oL 49 48,q 50 (.lenS .s (.t 49)),q 51 (.bin .lss (.t 47) (.t 50))]
def R7_11:LO:=[oF 54 2 5,oL 55 54,oM 56 6,q 57 (.indexAddr 2 (.t 55) (.t 56)),oF 58 1 57,oL 59 58,oM 7 59]
def R7_12:LO:=[oM 60 7,q 61 (.lenS .s (.t 60)),oM 62 3,q 63 (.bin .sub (.c (.s (.int .i64 200))) (.t 62)),q 64 (.bin .gtr (.t 61) (.t 63)),oM 65 64,gF 66 2 5 65 false,gL 67 66 65 false,gM 68 6 65 false,qg 69 (.indexAddr 2 (.t 67) (.t 68)) 65 false,gF 70 0 69 65 false,gL 71 70 65 false,qg 72 (.lenS .p (.t 71)) 65 false,qg 73 (.bin .gtr (.t 72) (.c (.s (.int .i64 200)))) 65 false,q 74 (.pick (.t 65) (.c (.s (.bool true))) (.t 73))]
def R7_13:LO:=[q 2 (.move (.c (.s (.bool true))))]
def R7_14:LO:=[oM 75 3,oM 76 7,q 77 (.lenS .s (.t 76)),q 78 (.bin .add (.t 75) (.t 77)),oM 3 78]
def R7_15:LO:=[q 8 (.move (.c (.s (.int .i64 0))))]
def R7_16:LO:=[oM 79 8,oM 80 7,q 81 (.lenS .s (.t 80)),q 82 (.bin .lss (.t 79) (.t 81))]
def R7_17t2:LO:=[⟨none,.store 8 (.t 9) (.t 88),none⟩]
def R7_17t1:LO:=⟨some 9,.alloc [.s (.int .u8 0),.s (.string ⟨#[]⟩),.s (.string ⟨#[]⟩),.s (.string ⟨#[]⟩),.s (.int .i64 0),.s (.string ⟨#[]⟩),.s (.slice none 0 0),.s (.slice none 0 0)],none⟩ :: R7_17t2
def R7_17p0:LO:=[oM 85 7,oM 86 8,q 87 (.indexAddr 8 (.t 85) (.t 86)),q 88 (.load true 8 (.t 87))]
def R7_17:LO:=R7_17p0 ++ R7_17t1
def R7_18t8:LO:=[q 132 (.pick (.t 128) (.c (.s (.bool true))) (.t 131))]
def R7_18t7:LO:=⟨some 131,.call (.c (.fn 15 [] [])) [.t 130],some (128,false)⟩ :: R7_18t8
def R7_18t6:LO:=⟨some 130,.load false 1 (.t 129),some (128,false)⟩ :: R7_18t7
def R7_18t5:LO:=⟨some 129,.fieldAddr 7 (.t 9),some (128,false)⟩ :: R7_18t6
def R7_18p4:LO:=[q 127 (.pick (.t 123) (.c (.s (.bool true))) (.t 126)),oM 128 127]
def R7_18t4:LO:=R7_18p4 ++ R7_18t5
def R7_18t3:LO:=⟨some 126,.call (.c (.fn 15 [] [])) [.t 125],some (123,false)⟩ :: R7_18t4
def R7_18t2:LO:=⟨some 125,.load false 1 (.t 124),some (123,false)⟩ :: R7_18t3
def R7_18t1:LO:=⟨some 124,.fieldAddr 6 (.t 9),some (123,false)⟩ :: R7_18t2
def R7_18p0:LO:=[oF 89 1 9,oL 90 89,q 91 (.lenS .p (.t 90)),q 92 (.bin .gtr (.t 91) (.c (.s (.int .i64 200)))),oM 93 92,gF 94 2 9 93 false,gL 95 94 93 false,qg 96 (.lenS .p (.t 95)) 93 false,qg 97 (.bin .gtr (.t 96) (.c (.s (.int .i64 200)))) 93 false,q 98 (.pick (.t 93) (.c (.s (.bool true))) (.t 97)),oM 99 98,gF 100 3 9 99 false,gL 101 100 99 false,qg 102 (.lenS .p (.t 101)) 99 false,qg 103 (.bin .gtr (.t 102) (.c (.s (.int .i64 200)))) 99 false,q 104 (.pick (.t 99) (.c (.s (.bool true))) (.t 103)),oM 105 104,gF 106 5 9 105 false,gL 107 106 105 false,qg 108 (.lenS .p (.t 107)) 105 false,qg 109 (.bin .gtr (.t 108) (.c (.s (.int .i64 200)))) 105 false,q 110 (.pick (.t 105) (.c (.s (.bool true))) (.t 109)),oM 111 110,gF 112 6 9 111 false,gL 113 112 111 false,qg 114 (.lenS .s (.t 113)) 111 false,qg 115 (.bin .gtr (.t 114) (.c (.s (.int .i64 20)))) 111 false,q 116 (.pick (.t 111) (.c (.s (.bool true))) (.t 115)),oM 117 116,gF 118 7 9 117 false,gL 119 118 117 false,qg 120 (.lenS .s (.t 119)) 117 false,qg 121 (.bin .gtr (.t 120) (.c (.s (.int .i64 20)))) 117 false,q 122 (.pick (.t 117) (.c (.s (.bool true))) (.t 121)),oM 123 122]
def R7_18:LO:=R7_18p0 ++ R7_18t1
def R7_19:LO:=[q 2 (.move (.c (.s (.bool true))))]
def R7_20:LO:=[oM 83 8,q 84 (.bin .add (.t 83) (.c (.s (.int .i64 1)))),oM 8 84]
def ale:ACode:=
 (.seq (.seq (.regionE R7_16 [79,80,81] [82])
 (.cond (.t 82)
 .skip
 (.exit 4)))
 (.seq (.block 5
 (.seq (.region R7_17 [] [82,85,86,87,88])
 (.seq (.region R7_18 [] [9,89,90,91,92,93,94,95,96,97,98,99,100,101,102,103,104,105,106,107,108,109,110,111,112,113,114,115,116,117,118,119,120,121,122,123,124,125,126,127,128,129,130,131])
 (.cond (.t 132)
 (.seq (.regionE R7_19 [1,3,4,5,6,7,8,132] [2])
 .ret)
 .skip))))
 (.regionE R7_20 [83,84,132] [8])))
def alf:ACode:=ale
def R7_21:LO:=[oM 52 6,q 53 (.bin .add (.t 52) (.c (.s (.int .i64 1)))),oM 6 53]
def alc:ACode:=
 (.seq (.seq (.regionE R7_10 [47,48,49,50] [51])
 (.cond (.t 51)
 .skip
 (.exit 2)))
 (.seq (.block 3
 (.seq (.regionE R7_11 [51,54,55,56,57,58,59] [7])
 (.seq (.seq (.regionE R7_12 [60,61,62,63,64,65,66,67,68,69,70,71,72,73] [74])
 (.cond (.t 74)
 (.seq (.regionE R7_13 [1,3,4,5,6,7,74] [2])
 .ret)
 .skip))
 (.seq (.regionE R7_14 [74,75,76,77,78] [3])
 (.seq (.regionE R7_15 [] [8])
 (.block 4
 (.loop [] alf)))))))
 (.regionE R7_21 [7,8,52,53,82] [6])))
def ald:ACode:=alc
def R7_22:LO:=[oM 19 4,q 20 (.bin .add (.t 19) (.c (.s (.int .i64 1)))),oM 4 20]
def ala:ACode:=
 (.seq (.seq (.regionE R7_5 [14,15,16,17] [18])
 (.cond (.t 18)
 .skip
 (.exit 0)))
 (.seq (.block 1
 (.seq (.region R7_6 [] [18,21,22,23,24,25])
 (.seq (.seq (.region R7_7 [] [26,27,28,29,30,31,32,33,34,35,36,37,38,39,40,41,42,43,44,45])
 (.cond (.t 46)
 (.seq (.regionE R7_8 [1,3,4,5,46] [2])
 .ret)
 .skip))
 (.seq (.regionE R7_9 [46] [6])
 (.block 2
 (.loop [] ald))))))
 (.regionE R7_22 [5,6,19,20,51] [4])))
def alb:ACode:=ala
def R7_23:LO:=[q 2 (.move (.c (.s (.bool false))))]
def axb:ACFun:={ ntmps:=133,results:=[.tmp 2],body:=
 (.seq (.region R7_0 [] K7_0)
 (.seq (.seq (.regionE R7_1 [10,11,12] [13])
 (.cond (.t 13)
 (.seq (.regionE R7_2 [1,13] [2])
 .ret)
 .skip))
 (.seq (.regionE R7_3 [13] [3])
 (.seq (.seq (.regionE R7_4 [] [4])
 (.block 0
 (.loop [] alb)))
 (.seq (.regionE R7_23 [1,3,4,18] [2])
 .ret))))) }
theorem aie:l9 (List.range' 1 (axb.ntmps - 1)) axb.body=true:=by kernel_rfl
abbrev avv:Nat:=15
def K15_0:List Nat:=List.range' 1 15
theorem avg:y5 K15_0 (si 16 [] 1)=[]:=by kernel_rfl
def R15_0:LO:=[q 2 (.move (.c (.s (.bool false))))]
def R15_1:LO:=[q 3 (.move (.c (.s (.int .i64 0))))]
def R15_2:LO:=[oM 4 3,oM 5 0,q 6 (.lenS .s (.t 5)),q 7 (.bin .lss (.t 4) (.t 6))]
def R15_3:LO:=[oM 10 0,oM 11 3,q 12 (.indexAddr 1 (.t 10) (.t 11)),oL 13 12,q 14 (.lenS .p (.t 13)),q 15 (.bin .gtr (.t 14) (.c (.s (.int .i64 200))))]
def R15_4:LO:=[q 2 (.move (.c (.s (.bool true))))]
def R15_5:LO:=[oM 8 3,q 9 (.bin .add (.t 8) (.c (.s (.int .i64 1)))),oM 3 9]
def aiu:ACode:=
 (.seq (.seq (.regionE R15_2 [4,5,6] [7])
 (.cond (.t 7)
 .skip
 (.exit 0)))
 (.seq (.block 1
 (.seq (.regionE R15_3 [7,10,11,12,13,14] [15])
 (.cond (.t 15)
 (.seq (.regionE R15_4 [0,3,15] [2])
 .ret)
 .skip)))
 (.regionE R15_5 [8,9,15] [3])))
def ado:ACode:=aiu
def R15_6:LO:=[q 2 (.move (.c (.s (.bool false))))]
def ag8:ACFun:={ ntmps:=16,results:=[.tmp 2],body:=
 (.seq (.regionE R15_0 K15_0 [])
 (.seq (.seq (.regionE R15_1 [] [3])
 (.block 0
 (.loop [] ado)))
 (.seq (.regionE R15_6 [0,3,7] [2])
 .ret))) }
abbrev bdo:Nat:=35
def K35_0:List Nat:=List.range' 0 17
theorem au6:y5 K35_0 (si 17 [] 0)=[]:=by kernel_rfl
def R35_0:LO:=[q 0 (.move (.c (.s (.map none))))]
def R35_1t29:LO:=[oM 16 1,oM 0 16]
def R35_1t28:LO:=⟨none,.mapUpd (.int .u8) (.t 1) (.c (.s (.int .u8 14))) (.t 15),none⟩ :: R35_1t29
def R35_1p27:LO:=[q 15 (.build [.s (.bool false),.s (.bool false),.s (.bool false),.s (.bool false),.s (.bool false),.s (.bool false),.s (.bool false)] [(0,1),(1,1),(2,1),(3,1),(4,1),(5,1),(6,1)] [(1,.c (.s (.bool true)))])]
def R35_1t27:LO:=R35_1p27 ++ R35_1t28
def R35_1t26:LO:=⟨none,.mapUpd (.int .u8) (.t 1) (.c (.s (.int .u8 13))) (.t 14),none⟩ :: R35_1t27
def R35_1p25:LO:=[q 14 (.build [.s (.bool false),.s (.bool false),.s (.bool false),.s (.bool false),.s (.bool false),.s (.bool false),.s (.bool false)] [(0,1),(1,1),(2,1),(3,1),(4,1),(5,1),(6,1)] [(6,.c (.s (.bool true)))])]
def R35_1t25:LO:=R35_1p25 ++ R35_1t26
def R35_1t24:LO:=⟨none,.mapUpd (.int .u8) (.t 1) (.c (.s (.int .u8 12))) (.t 13),none⟩ :: R35_1t25
def R35_1p23:LO:=[q 13 (.build [.s (.bool false),.s (.bool false),.s (.bool false),.s (.bool false),.s (.bool false),.s (.bool false),.s (.bool false)] [(0,1),(1,1),(2,1),(3,1),(4,1),(5,1),(6,1)] [(6,.c (.s (.bool true)))])]
def R35_1t23:LO:=R35_1p23 ++ R35_1t24
def R35_1t22:LO:=⟨none,.mapUpd (.int .u8) (.t 1) (.c (.s (.int .u8 11))) (.t 12),none⟩ :: R35_1t23
def R35_1p21:LO:=[q 12 (.build [.s (.bool false),.s (.bool false),.s (.bool false),.s (.bool false),.s (.bool false),.s (.bool false),.s (.bool false)] [(0,1),(1,1),(2,1),(3,1),(4,1),(5,1),(6,1)] [(0,.c (.s (.bool true))),(1,.c (.s (.bool true))),(5,.c (.s (.bool true)))])]
def R35_1t21:LO:=R35_1p21 ++ R35_1t22
def R35_1t20:LO:=⟨none,.mapUpd (.int .u8) (.t 1) (.c (.s (.int .u8 10))) (.t 11),none⟩ :: R35_1t21
def R35_1p19:LO:=[q 11 (.build [.s (.bool false),.s (.bool false),.s (.bool false),.s (.bool false),.s (.bool false),.s (.bool false),.s (.bool false)] [(0,1),(1,1),(2,1),(3,1),(4,1),(5,1),(6,1)] [(0,.c (.s (.bool true))),(4,.c (.s (.bool true))),(5,.c (.s (.bool true)))])]
def R35_1t19:LO:=R35_1p19 ++ R35_1t20
def R35_1t18:LO:=⟨none,.mapUpd (.int .u8) (.t 1) (.c (.s (.int .u8 9))) (.t 10),none⟩ :: R35_1t19
def R35_1p17:LO:=[q 10 (.build [.s (.bool false),.s (.bool false),.s (.bool false),.s (.bool false),.s (.bool false),.s (.bool false),.s (.bool false)] [(0,1),(1,1),(2,1),(3,1),(4,1),(5,1),(6,1)] [(1,.c (.s (.bool true))),(2,.c (.s (.bool true)))])]
def R35_1t17:LO:=R35_1p17 ++ R35_1t18
def R35_1t16:LO:=⟨none,.mapUpd (.int .u8) (.t 1) (.c (.s (.int .u8 7))) (.t 9),none⟩ :: R35_1t17
def R35_1p15:LO:=[q 9 (.build [.s (.bool false),.s (.bool false),.s (.bool false),.s (.bool false),.s (.bool false),.s (.bool false),.s (.bool false)] [(0,1),(1,1),(2,1),(3,1),(4,1),(5,1),(6,1)] [(0,.c (.s (.bool true))),(1,.c (.s (.bool true))),(3,.c (.s (.bool true)))])]
def R35_1t15:LO:=R35_1p15 ++ R35_1t16
def R35_1t14:LO:=⟨none,.mapUpd (.int .u8) (.t 1) (.c (.s (.int .u8 6))) (.t 8),none⟩ :: R35_1t15
def R35_1p13:LO:=[q 8 (.build [.s (.bool false),.s (.bool false),.s (.bool false),.s (.bool false),.s (.bool false),.s (.bool false),.s (.bool false)] [(0,1),(1,1),(2,1),(3,1),(4,1),(5,1),(6,1)] [(0,.c (.s (.bool true))),(5,.c (.s (.bool true))),(6,.c (.s (.bool true)))])]
def R35_1t13:LO:=R35_1p13 ++ R35_1t14
def R35_1t12:LO:=⟨none,.mapUpd (.int .u8) (.t 1) (.c (.s (.int .u8 8))) (.t 7),none⟩ :: R35_1t13
def R35_1p11:LO:=[q 7 (.build [.s (.bool false),.s (.bool false),.s (.bool false),.s (.bool false),.s (.bool false),.s (.bool false),.s (.bool false)] [(0,1),(1,1),(2,1),(3,1),(4,1),(5,1),(6,1)] [(0,.c (.s (.bool true))),(1,.c (.s (.bool true)))])]
def R35_1t11:LO:=R35_1p11 ++ R35_1t12
def R35_1t10:LO:=⟨none,.mapUpd (.int .u8) (.t 1) (.c (.s (.int .u8 5))) (.t 6),none⟩ :: R35_1t11
def R35_1p9:LO:=[q 6 (.build [.s (.bool false),.s (.bool false),.s (.bool false),.s (.bool false),.s (.bool false),.s (.bool false),.s (.bool false)] [(0,1),(1,1),(2,1),(3,1),(4,1),(5,1),(6,1)] [(0,.c (.s (.bool true))),(1,.c (.s (.bool true)))])]
def R35_1t9:LO:=R35_1p9 ++ R35_1t10
def R35_1t8:LO:=⟨none,.mapUpd (.int .u8) (.t 1) (.c (.s (.int .u8 4))) (.t 5),none⟩ :: R35_1t9
def R35_1p7:LO:=[q 5 (.build [.s (.bool false),.s (.bool false),.s (.bool false),.s (.bool false),.s (.bool false),.s (.bool false),.s (.bool false)] [(0,1),(1,1),(2,1),(3,1),(4,1),(5,1),(6,1)] [(0,.c (.s (.bool true))),(4,.c (.s (.bool true)))])]
def R35_1t7:LO:=R35_1p7 ++ R35_1t8
def R35_1t6:LO:=⟨none,.mapUpd (.int .u8) (.t 1) (.c (.s (.int .u8 3))) (.t 4),none⟩ :: R35_1t7
def R35_1p5:LO:=[q 4 (.build [.s (.bool false),.s (.bool false),.s (.bool false),.s (.bool false),.s (.bool false),.s (.bool false),.s (.bool false)] [(0,1),(1,1),(2,1),(3,1),(4,1),(5,1),(6,1)] [(0,.c (.s (.bool true)))])]
def R35_1t5:LO:=R35_1p5 ++ R35_1t6
def R35_1t4:LO:=⟨none,.mapUpd (.int .u8) (.t 1) (.c (.s (.int .u8 2))) (.t 3),none⟩ :: R35_1t5
def R35_1p3:LO:=[q 3 (.build [.s (.bool false),.s (.bool false),.s (.bool false),.s (.bool false),.s (.bool false),.s (.bool false),.s (.bool false)] [(0,1),(1,1),(2,1),(3,1),(4,1),(5,1),(6,1)] [(0,.c (.s (.bool true))),(3,.c (.s (.bool true)))])]
def R35_1t3:LO:=R35_1p3 ++ R35_1t4
def R35_1t2:LO:=⟨none,.mapUpd (.int .u8) (.t 1) (.c (.s (.int .u8 1))) (.t 2),none⟩ :: R35_1t3
def R35_1p1:LO:=[q 2 (.build [.s (.bool false),.s (.bool false),.s (.bool false),.s (.bool false),.s (.bool false),.s (.bool false),.s (.bool false)] [(0,1),(1,1),(2,1),(3,1),(4,1),(5,1),(6,1)] [(0,.c (.s (.bool true))),(3,.c (.s (.bool true)))])]
def R35_1t1:LO:=R35_1p1 ++ R35_1t2
def R35_1:LO:=⟨some 1,.mapNew,none⟩ :: R35_1t1
def apq:ACFun:={ ntmps:=17,results:=[.tmp 0],body:=
 (.seq (.regionE R35_0 K35_0 [])
 (.seq (.region R35_1 [] [1,2,3,4,5,6,7,8,9,10,11,12,13,14,15,16])
 .ret)) }
abbrev azi:Nat:=92
def K92_0:List Nat:=List.range' 1 61
theorem auo:y5 K92_0 (si 62 [] 1)=[]:=by kernel_rfl
def R92_0:LO:=[q 2 (.move (.c (.s (.bool false))))]
def R92_1:LO:=[oM 6 0,q 7 (.bin .eql (.t 6) (.c (.s (.string ⟨#[]⟩)))),oM 8 7,gM 9 0 8 false,qg 10 (.lenS .p (.t 9)) 8 false,qg 11 (.bin .gtr (.t 10) (.c (.s (.int .i64 64)))) 8 false,q 12 (.pick (.t 8) (.c (.s (.bool true))) (.t 11)),oM 13 12,gM 14 0 13 false,qg 15 (.bin .eql (.t 14) (.c (.s (.string ⟨#[110,117,108,108]⟩)))) 13 false,q 16 (.pick (.t 13) (.c (.s (.bool true))) (.t 15))]
def R92_2:LO:=[q 2 (.move (.c (.s (.bool false))))]
def R92_3:LO:=[oM 17 0,q 18 (.lenS .p (.t 17)),q 19 (.move (.c (.s (.int .i64 0))))]
def R92_4:LO:=[q 20 (.bin .lss (.t 19) (.t 18))]
def R92_5:LO:=[oM 21 19,oM 3 21]
def R92_6:LO:=[oM 22 0,oM 23 3,q 24 (.indexStr (.t 22) (.t 23)),oM 4 24]
def R92_7:LO:=[oM 25 4,q 26 (.bin .geq (.t 25) (.c (.s (.int .u8 97)))),oM 27 26,gM 28 4 27 true,qg 29 (.bin .leq (.t 28) (.c (.s (.int .u8 122)))) 27 true,q 30 (.pick (.t 27) (.t 29) (.c (.s (.bool false)))),oM 31 30,gM 32 4 31 false,qg 33 (.bin .geq (.t 32) (.c (.s (.int .u8 65)))) 31 false,gM 34 33 31 false,gM 35 4 34 true,qg 36 (.bin .leq (.t 35) (.c (.s (.int .u8 90)))) 34 true,qg 37 (.pick (.t 34) (.t 36) (.c (.s (.bool false)))) 31 false,q 38 (.pick (.t 31) (.c (.s (.bool true))) (.t 37)),oM 39 38,gM 40 4 39 false,qg 41 (.bin .eql (.t 40) (.c (.s (.int .u8 95)))) 39 false,q 42 (.pick (.t 39) (.c (.s (.bool true))) (.t 41)),oM 5 42]
def R92_8:LO:=[oM 43 5,q 44 (.un .not (.t 43)),oM 45 44,gM 46 3 45 true,qg 47 (.bin .eql (.t 46) (.c (.s (.int .i64 0)))) 45 true,gM 48 47 45 true,gM 49 4 48 false,qg 50 (.bin .lss (.t 49) (.c (.s (.int .u8 48)))) 48 false,gM 51 50 48 false,gM 52 4 51 false,qg 53 (.bin .gtr (.t 52) (.c (.s (.int .u8 57)))) 51 false,qg 54 (.pick (.t 51) (.c (.s (.bool true))) (.t 53)) 48 false,gM 55 54 48 false,gM 56 4 55 true,qg 57 (.bin .neq (.t 56) (.c (.s (.int .u8 46)))) 55 true,qg 58 (.pick (.t 55) (.t 57) (.c (.s (.bool false)))) 48 false,qg 59 (.pick (.t 48) (.c (.s (.bool true))) (.t 58)) 45 true,q 60 (.pick (.t 45) (.t 59) (.c (.s (.bool false))))]
def R92_9:LO:=[q 2 (.move (.c (.s (.bool false))))]
def R92_10:LO:=[q 61 (.bin .add (.t 19) (.c (.s (.int .i64 1)))),oM 19 61]
def aid:ACode:=
 (.seq (.regionE R92_4 [] [20])
 (.seq (.cond (.t 20)
 .skip
 (.exit 0))
 (.seq (.block 1
 (.seq (.regionE R92_5 [20,21] [3])
 (.seq (.regionE R92_6 [22,23,24] [4])
 (.seq (.regionE R92_7 [25,26,27,28,29,30,31,32,33,34,35,36,37,38,39,40,41,42] [5])
 (.seq (.regionE R92_8 [3,4,5,43,44,45,46,47,48,49,50,51,52,53,54,55,56,57,58,59] [60])
 (.cond (.t 60)
 (.seq (.regionE R92_9 [0,18,19,60] [2])
 .ret)
 .skip))))))
 (.regionE R92_10 [60,61] [19]))))
def apn:ACode:=aid
def R92_11:LO:=[q 2 (.move (.c (.s (.bool true))))]
def ajw:ACFun:={ ntmps:=62,results:=[.tmp 2],body:=
 (.seq (.regionE R92_0 K92_0 [])
 (.seq (.seq (.regionE R92_1 [6,7,8,9,10,11,12,13,14,15] [16])
 (.cond (.t 16)
 (.seq (.regionE R92_2 [0,16] [2])
 .ret)
 .skip))
 (.seq (.seq (.regionE R92_3 [16,17] [18,19])
 (.block 0
 (.loop [] apn)))
 (.seq (.regionE R92_11 [0,18,19,20] [2])
 .ret)))) }
abbrev a8v:Nat:=93
def K93_0:List Nat:=List.range' 2 7
theorem aun:y5 K93_0 (si 9 [] 2)=[]:=by kernel_rfl
def R93_0:LO:=[q 4 (.move (.c (.s (.bool false))))]
def R93_1t2:LO:=[q 8 (.bin .geq (.t 7) (.c (.s (.int .i64 0)))),oM 4 8]
def R93_1t1:LO:=⟨some 7,.call (.c (.fn 135 [] [])) [.t 5,.t 6],none⟩ :: R93_1t2
def R93_1p0:LO:=[oM 5 0,oM 6 1]
def R93_1:LO:=R93_1p0 ++ R93_1t1
def ani:ACFun:={ ntmps:=9,results:=[.tmp 4],body:=
 (.seq (.regionE R93_0 K93_0 [])
 (.seq (.region R93_1 [] [0,1,5,6,7,8])
 .ret)) }
abbrev azh:Nat:=94
def K94_0:List Nat:=[1,2,3,4,5]
theorem aum:y5 K94_0 (si 6 [] 1)=[]:=by kernel_rfl
def R94_0:LO:=[q 2 (.move (.c (.s (.bool false))))]
def R94_1t2:LO:=[q 5 (.un .not (.t 4)),oM 2 5]
def R94_1t1:LO:=⟨some 4,.call (.c (.fn 92 [] [])) [.t 3],none⟩ :: R94_1t2
def R94_1p0:LO:=[oM 3 0]
def R94_1:LO:=R94_1p0 ++ R94_1t1
def ak9:ACFun:={ ntmps:=6,results:=[.tmp 2],body:=
 (.seq (.regionE R94_0 K94_0 [])
 (.seq (.region R94_1 [] [0,3,4,5])
 .ret)) }
abbrev a8u:Nat:=95
def K95_0:List Nat:=[0,3,4,5,6,7]
def R95_0t1:LO:=[q 4 (.move (.c (.s (.bool false))))]
def R95_0:LO:=⟨some 2,.box (.t 0),none⟩ :: R95_0t1
def R95_1t2:LO:=[oM 4 7]
def R95_1t1:LO:=⟨some 7,.call (.c (.fn 93 [] [])) [.t 5,.t 6],none⟩ :: R95_1t2
def R95_1p0:LO:=[oM 5 1,q 6 (.mkFn 136 [] [.t 2])]
def R95_1:LO:=R95_1p0 ++ R95_1t1
def anh:ACFun:={ ntmps:=8,results:=[.tmp 4],body:=
 (.seq (.region R95_0 [] K95_0)
 (.seq (.region R95_1 [] [1,2,5,6,7])
 .ret)) }
theorem aul:l9 (List.range' 2 (anh.ntmps - 2)) anh.body=true:=by kernel_rfl
abbrev azg:Nat:=96
def K96_0:List Nat:=List.range' 2 7
theorem auk:y5 K96_0 (si 9 [] 2)=[]:=by kernel_rfl
def R96_0:LO:=[q 4 (.move (.c (.s (.bool false))))]
def R96_1t2:LO:=[q 8 (.bin .geq (.t 7) (.c (.s (.int .i64 0)))),oM 4 8]
def R96_1t1:LO:=⟨some 7,.call (.c (.fn 137 [] [])) [.t 5,.t 6],none⟩ :: R96_1t2
def R96_1p0:LO:=[oM 5 0,oM 6 1]
def R96_1:LO:=R96_1p0 ++ R96_1t1
def apm:ACFun:={ ntmps:=9,results:=[.tmp 4],body:=
 (.seq (.regionE R96_0 K96_0 [])
 (.seq (.region R96_1 [] [0,1,5,6,7,8])
 .ret)) }
abbrev ast:Nat:=100
def K100_0:List Nat:=List.range' 1 8
theorem arv:y5 K100_0 (si 9 [] 1)=[]:=by kernel_rfl
def R100_0:LO:=[q 2 (.move (.c (.s (.bool false))))]
def R100_1:LO:=[oM 3 0,q 4 (.bin .eql (.t 3) (.c (.s (.int .u8 10)))),oM 5 4,gM 6 0 5 false,qg 7 (.bin .eql (.t 6) (.c (.s (.int .u8 11)))) 5 false,q 8 (.pick (.t 5) (.c (.s (.bool true))) (.t 7)),oM 2 8]
def aet:ACFun:={ ntmps:=9,results:=[.tmp 2],body:=
 (.seq (.regionE R100_0 K100_0 [])
 (.seq (.regionE R100_1 [0,3,4,5,6,7,8] [2])
 .ret)) }
abbrev a2w:Nat:=102
def K102_0:List Nat:=[1,2] ++ List.range' 6 12
def R102_0t2:LO:=[⟨some 5,.alloc [.s (.bool false)],none⟩]
def R102_0t1:LO:=⟨some 4,.alloc [.s (.int .i64 0),.s (.int .i64 0),.s (.int .i64 0)],none⟩ :: R102_0t2
def R102_0:LO:=⟨some 3,.box (.t 1),none⟩ :: R102_0t1
def R102_1t1:LO:=[⟨some 9,.call (.c (.fn 140 [] [])) [.t 8],none⟩]
def R102_1p0:LO:=[oM 8 0]
def R102_1:LO:=R102_1p0 ++ R102_1t1
def R102_2t1:LO:=[⟨none,.store 3 (.t 6) (.t 10),none⟩]
def R102_2:LO:=⟨some 6,.alloc [.s (.int .i64 0),.s (.int .i64 0),.s (.int .i64 0)],none⟩ :: R102_2t1
def R102_3t1:LO:=[⟨none,.store 8 (.t 7) (.t 11),none⟩]
def R102_3:LO:=⟨some 7,.alloc [.s (.int .u8 0),.s (.string ⟨#[]⟩),.s (.string ⟨#[]⟩),.s (.string ⟨#[]⟩),.s (.int .i64 0),.s (.string ⟨#[]⟩),.s (.slice none 0 0),.s (.slice none 0 0)],none⟩ :: R102_3t1
def R102_4t1:LO:=[⟨some 15,.call (.t 12) [.t 13,.t 14],none⟩]
def R102_4p0:LO:=[oL 12 3,q 13 (.load true 3 (.t 6)),q 14 (.load true 8 (.t 7))]
def R102_4:LO:=R102_4p0 ++ R102_4t1
def R102_5t2:LO:=[⟨none,.store 1 (.t 5) (.c (.s (.bool true))),none⟩]
def R102_5t1:LO:=⟨none,.store 3 (.t 4) (.t 16),none⟩ :: R102_5t2
def R102_5p0:LO:=[q 16 (.load true 3 (.t 6))]
def R102_5:LO:=R102_5p0 ++ R102_5t1
def qp:ACode:=
 (.seq (.region R102_2 [] [9,10])
 (.region R102_3 [] [11]))
def aa5:ACode:=
 (.block 1
 (.seq (.region R102_4 [] [3,7,12,13,14])
 (.cond (.t 15)
 (.seq (.region R102_5 [] [4,5,6,15,16])
 .ret)
 .skip)))
def R102_6t2:LO:=[⟨none,.store 1 (.t 5) (.c (.s (.bool false))),none⟩]
def R102_6t1:LO:=⟨none,.store 3 (.t 4) (.t 17),none⟩ :: R102_6t2
def R102_6p0:LO:=[q 17 (.build [.s (.int .i64 0),.s (.int .i64 0),.s (.int .i64 0)] [(0,1),(1,1),(2,1)] [])]
def R102_6:LO:=R102_6p0 ++ R102_6t1
def aes:ACFun:={ ntmps:=18,results:=[.cell 4 true 3,.cell 5 false 1],body:=
 (.seq (.region R102_0 [] K102_0)
 (.seq (.seq (.region R102_1 [] [0,8])
 (.block 0
 (.rangeFunc (.t 9) [10,11] qp aa5)))
 (.seq (.region R102_6 [] [3,9,17])
 .ret))) }
theorem ajl:l9 (List.range' 2 (aes.ntmps - 2)) aes.body=true:=by kernel_rfl
abbrev ass:Nat:=104
def K104_0:List Nat:=[0,1,3] ++ List.range' 5 182
def R104_0t2:LO:=[q 5 (.move (.c (.s (.bool false))))]
def R104_0t1:LO:=⟨some 4,.box (.t 1),none⟩ :: R104_0t2
def R104_0p0:LO:=[⟨some 3,.box (.t 0),none⟩]
def R104_0:LO:=R104_0p0 ++ R104_0t1
def K104_0p0:List Nat:=[0] ++ List.range' 3 184
theorem X104_0 (call:ni) (it:zt) (base:Nat) (f:List V) (H:Heap):evC call it base (.region R104_0 [] K104_0) f H=abl call it base (.region R104_0t1 [] K104_0) (akk [] R104_0p0 K104_0p0 (mi call base [⟨some 3,.box (.t 0),none⟩] f H)):=(abu call it base R104_0p0 R104_0t1 (kc:=K104_0p0) (by kernel_rfl) f H).trans (by rw [zh];rfl)
def R104_1t3:LO:=[oM 7 17]
def R104_1t2:LO:=⟨none,.store 7 (.t 6) (.t 16),none⟩ :: R104_1t3
def R104_1t1:LO:=⟨some 6,.alloc [.s (.bool false),.s (.bool false),.s (.bool false),.s (.bool false),.s (.bool false),.s (.bool false),.s (.bool false)],none⟩ :: R104_1t2
def R104_1p0:LO:=[oL 9 2,q 10 (.nilCheck (.t 9)),oF 11 1 10,oL 12 11,oF 13 0 4,oL 14 13,q 15 (.mapGet (.int .u8) (.agg [.s (.bool false),.s (.bool false),.s (.bool false),.s (.bool false),.s (.bool false),.s (.bool false),.s (.bool false)]) (.t 12) (.t 14) true),oM 8 15,q 16 (.extract (.t 8) 0),q 17 (.extract (.t 8) 1)]
def R104_1:LO:=R104_1p0 ++ R104_1t1
def R104_2:LO:=[oM 18 7,q 19 (.un .not (.t 18)),oM 20 19,gF 21 0 6 20 false,gL 22 21 20 false,qg 23 (.un .not (.t 22)) 20 false,gM 24 23 20 false,gF 25 1 4 24 true,gL 26 25 24 true,qg 27 (.bin .neq (.t 26) (.c (.s (.string ⟨#[]⟩)))) 24 true,qg 28 (.pick (.t 24) (.t 27) (.c (.s (.bool false)))) 20 false,q 29 (.pick (.t 20) (.c (.s (.bool true))) (.t 28)),oM 30 29,gF 31 1 6 30 false,gL 32 31 30 false,qg 33 (.un .not (.t 32)) 30 false,gM 34 33 30 false,gF 35 2 4 34 true,gL 36 35 34 true,qg 37 (.bin .neq (.t 36) (.c (.s (.string ⟨#[]⟩)))) 34 true,qg 38 (.pick (.t 34) (.t 37) (.c (.s (.bool false)))) 30 false,q 39 (.pick (.t 30) (.c (.s (.bool true))) (.t 38)),oM 40 39,gF 41 2 6 40 false,gL 42 41 40 false,qg 43 (.un .not (.t 42)) 40 false,gM 44 43 40 false,gF 45 3 4 44 true,gL 46 45 44 true,qg 47 (.bin .neq (.t 46) (.c (.s (.string ⟨#[]⟩)))) 44 true,qg 48 (.pick (.t 44) (.t 47) (.c (.s (.bool false)))) 40 false,q 49 (.pick (.t 40) (.c (.s (.bool true))) (.t 48)),oM 50 49,gF 51 3 6 50 false,gL 52 51 50 false,qg 53 (.un .not (.t 52)) 50 false,gM 54 53 50 false,gF 55 4 4 54 true,gL 56 55 54 true,qg 57 (.bin .neq (.t 56) (.c (.s (.int .i64 0)))) 54 true,qg 58 (.pick (.t 54) (.t 57) (.c (.s (.bool false)))) 50 false,q 59 (.pick (.t 50) (.c (.s (.bool true))) (.t 58)),oM 60 59,gF 61 4 6 60 false,gL 62 61 60 false,qg 63 (.un .not (.t 62)) 60 false,gM 64 63 60 false,gF 65 5 4 64 true,gL 66 65 64 true,qg 67 (.bin .neq (.t 66) (.c (.s (.string ⟨#[]⟩)))) 64 true,qg 68 (.pick (.t 64) (.t 67) (.c (.s (.bool false)))) 60 false,q 69 (.pick (.t 60) (.c (.s (.bool true))) (.t 68)),oM 70 69,gF 71 5 6 70 false,gL 72 71 70 false,qg 73 (.un .not (.t 72)) 70 false,gM 74 73 70 false,gF 75 6 4 74 true,gL 76 75 74 true,qg 77 (.lenS .s (.t 76)) 74 true,qg 78 (.bin .gtr (.t 77) (.c (.s (.int .i64 0)))) 74 true,qg 79 (.pick (.t 74) (.t 78) (.c (.s (.bool false)))) 70 false,q 80 (.pick (.t 70) (.c (.s (.bool true))) (.t 79)),oM 81 80,gF 82 6 6 81 false,gL 83 82 81 false,qg 84 (.un .not (.t 83)) 81 false,gM 85 84 81 false,gF 86 7 4 85 true,gL 87 86 85 true,qg 88 (.lenS .s (.t 87)) 85 true,qg 89 (.bin .gtr (.t 88) (.c (.s (.int .i64 0)))) 85 true,qg 90 (.pick (.t 85) (.t 89) (.c (.s (.bool false)))) 81 false,q 91 (.pick (.t 81) (.c (.s (.bool true))) (.t 90))]
def R104_3:LO:=[q 5 (.move (.c (.s (.bool true))))]
def R104_4t4:LO:=[qg 103 (.un .not (.t 102)) 99 true,q 104 (.pick (.t 99) (.t 103) (.c (.s (.bool false)))),oM 105 104,gF 106 1 6 105 false,gL 107 106 105 false,gM 108 107 105 false,gF 109 2 4 108 true,gL 110 109 108 true,qg 111 (.bin .eql (.t 110) (.c (.s (.string ⟨#[]⟩)))) 108 true,qg 112 (.pick (.t 108) (.t 111) (.c (.s (.bool false)))) 105 false,gM 113 112 105 false,gF 114 0 4 113 true,gL 115 114 113 true,qg 116 (.bin .neq (.t 115) (.c (.s (.int .u8 14)))) 113 true,qg 117 (.pick (.t 113) (.t 116) (.c (.s (.bool false)))) 105 false,q 118 (.pick (.t 105) (.c (.s (.bool true))) (.t 117)),oM 119 118,gF 120 2 6 119 false,gL 121 120 119 false,gM 122 121 119 false,gF 123 3 4 122 true,gL 124 123 122 true,qg 125 (.bin .eql (.t 124) (.c (.s (.string ⟨#[]⟩)))) 122 true,qg 126 (.pick (.t 122) (.t 125) (.c (.s (.bool false)))) 119 false,q 127 (.pick (.t 119) (.c (.s (.bool true))) (.t 126)),oM 128 127,gF 129 4 6 128 false,gL 130 129 128 false,gM 131 130 128 false,gF 132 5 4 131 true,gL 133 132 131 true,qg 134 (.bin .eql (.t 133) (.c (.s (.string ⟨#[]⟩)))) 131 true,qg 135 (.pick (.t 131) (.t 134) (.c (.s (.bool false)))) 128 false,q 136 (.pick (.t 128) (.c (.s (.bool true))) (.t 135))]
def R104_4t3:LO:=⟨some 102,.call (.c (.fn 100 [] [])) [.t 101],some (99,true)⟩ :: R104_4t4
def R104_4t2:LO:=⟨some 101,.load false 1 (.t 100),some (99,true)⟩ :: R104_4t3
def R104_4t1:LO:=⟨some 100,.fieldAddr 0 (.t 4),some (99,true)⟩ :: R104_4t2
def R104_4p0:LO:=[oF 92 0 6,oL 93 92,oM 94 93,gF 95 1 4 94 true,gL 96 95 94 true,qg 97 (.bin .eql (.t 96) (.c (.s (.string ⟨#[]⟩)))) 94 true,q 98 (.pick (.t 94) (.t 97) (.c (.s (.bool false)))),oM 99 98]
def R104_4:LO:=R104_4p0 ++ R104_4t1
def R104_5:LO:=[q 5 (.move (.c (.s (.bool true))))]
def R104_6:LO:=[oF 137 0 4,oL 138 137]
def R104_7:LO:=[q 140 (.bin .eql (.t 138) (.c (.s (.int .u8 1)))),oM 139 140]
def R104_8:LO:=[q 141 (.bin .eql (.t 138) (.c (.s (.int .u8 2)))),oM 139 141]
def R104_9:LO:=[oF 142 4 4,oL 143 142,q 144 (.bin .lss (.t 143) (.c (.s (.int .i64 1)))),oM 145 144,gF 146 4 4 145 false,gL 147 146 145 false,qg 148 (.bin .gtr (.t 147) (.c (.s (.int .i64 64)))) 145 false,q 149 (.pick (.t 145) (.c (.s (.bool true))) (.t 148)),oM 5 149]
def R104_10:LO:=[q 151 (.bin .eql (.t 138) (.c (.s (.int .u8 7)))),oM 150 151]
def R104_11:LO:=[oF 152 4 4,oL 153 152,q 154 (.bin .lss (.t 153) (.c (.s (.int .i64 0)))),oM 155 154,gF 156 4 4 155 false,gL 157 156 155 false,qg 158 (.bin .geq (.t 157) (.c (.s (.int .i64 64)))) 155 false,q 159 (.pick (.t 155) (.c (.s (.bool true))) (.t 158)),oM 5 159]
def R104_12:LO:=[q 161 (.bin .eql (.t 138) (.c (.s (.int .u8 6)))),oM 160 161]
def R104_13:LO:=[oF 162 6 4,oL 163 162,q 164 (.lenS .s (.t 163)),q 165 (.bin .eql (.t 164) (.c (.s (.int .i64 0)))),oM 166 165,gF 167 6 4 166 false,gL 168 167 166 false,qg 169 (.lenS .s (.t 168)) 166 false,gF 170 7 4 166 false,gL 171 170 166 false,qg 172 (.lenS .s (.t 171)) 166 false,qg 173 (.bin .neq (.t 169) (.t 172)) 166 false,q 174 (.pick (.t 166) (.c (.s (.bool true))) (.t 173)),oM 5 174]
def R104_14:LO:=[q 176 (.bin .eql (.t 138) (.c (.s (.int .u8 12)))),oM 175 176]
def R104_15:LO:=[oF 177 7 4,oL 178 177,q 179 (.lenS .s (.t 178)),q 180 (.bin .neq (.t 179) (.c (.s (.int .i64 2)))),oM 5 180]
def R104_16:LO:=[q 182 (.bin .eql (.t 138) (.c (.s (.int .u8 13)))),oM 181 182]
def R104_17:LO:=[oF 183 7 4,oL 184 183,q 185 (.lenS .s (.t 184)),q 186 (.bin .neq (.t 185) (.c (.s (.int .i64 1)))),oM 5 186]
def R104_18:LO:=[q 5 (.move (.c (.s (.bool false))))]
def aec:ACFun:={ ntmps:=187,results:=[.tmp 5],body:=
 (.seq (.region R104_0 [] K104_0)
 (.seq (.region R104_1 [] [2,8,9,10,11,12,13,14,15,16,17])
 (.seq (.seq (.regionE R104_2 [7,18,19,20,21,22,23,24,25,26,27,28,29,30,31,32,33,34,35,36,37,38,39,40,41,42,43,44,45,46,47,48,49,50,51,52,53,54,55,56,57,58,59,60,61,62,63,64,65,66,67,68,69,70,71,72,73,74,75,76,77,78,79,80,81,82,83,84,85,86,87,88,89,90] [91])
 (.cond (.t 91)
 (.seq (.regionE R104_3 [4,6,91] [5])
 .ret)
 .skip))
 (.seq (.seq (.region R104_4 [] [6,91,92,93,94,95,96,97,98,99,100,101,102,103,104,105,106,107,108,109,110,111,112,113,114,115,116,117,118,119,120,121,122,123,124,125,126,127,128,129,130,131,132,133,134,135])
 (.cond (.t 136)
 (.seq (.regionE R104_5 [4,136] [5])
 .ret)
 .skip))
 (.seq (.seq (.regionE R104_6 [136,137] [138])
 (.block 0
 (.seq (.seq (.regionE R104_7 [140] [139])
 (.cond (.t 139)
 .skip
 (.regionE R104_8 [141] [139])))
 (.cond (.t 139)
 (.seq (.regionE R104_9 [4,138,139,142,143,144,145,146,147,148,149] [5])
 .ret)
 (.seq (.regionE R104_10 [139,151] [150])
 (.cond (.t 150)
 (.seq (.regionE R104_11 [4,138,150,152,153,154,155,156,157,158,159] [5])
 .ret)
 (.seq (.regionE R104_12 [150,161] [160])
 (.cond (.t 160)
 (.seq (.regionE R104_13 [4,138,160,162,163,164,165,166,167,168,169,170,171,172,173,174] [5])
 .ret)
 (.seq (.regionE R104_14 [160,176] [175])
 (.cond (.t 175)
 (.seq (.regionE R104_15 [4,138,175,177,178,179,180] [5])
 .ret)
 (.seq (.regionE R104_16 [138,175,182] [181])
 (.cond (.t 181)
 (.seq (.regionE R104_17 [4,181,183,184,185,186] [5])
 .ret)
 .skip))))))))))))
 (.seq (.regionE R104_18 [4,181] [5])
 .ret)))))) }
theorem aru:l9 (List.range' 3 (aec.ntmps - 3)) aec.body=true:=by kernel_rfl
abbrev asr:Nat:=135
def K135_0:List Nat:=List.range' 2 17
theorem aro:y5 K135_0 (si 19 [] 2)=[]:=by kernel_rfl
def R135_0:LO:=[q 4 (.move (.c (.s (.int .i64 0))))]
def R135_1:LO:=[oM 6 0,q 7 (.lenS .s (.t 6)),q 8 (.move (.c (.s (.int .i64 0))))]
def R135_2:LO:=[q 9 (.bin .lss (.t 8) (.t 7))]
def R135_3:LO:=[oM 10 8,oM 5 10]
def R135_4t1:LO:=[⟨some 16,.call (.t 11) [.t 15],none⟩]
def R135_4p0:LO:=[oM 11 1,oM 12 0,oM 13 5,q 14 (.indexAddr 1 (.t 12) (.t 13)),oL 15 14]
def R135_4:LO:=R135_4p0 ++ R135_4t1
def R135_5:LO:=[oM 17 5,oM 4 17]
def R135_6:LO:=[q 18 (.bin .add (.t 8) (.c (.s (.int .i64 1)))),oM 8 18]
def age:ACode:=
 (.seq (.regionE R135_2 [] [9])
 (.seq (.cond (.t 9)
 .skip
 (.exit 0))
 (.seq (.block 1
 (.seq (.regionE R135_3 [9,10] [5])
 (.seq (.region R135_4 [] [11,12,13,14,15])
 (.cond (.t 16)
 (.seq (.regionE R135_5 [0,1,5,7,8,16,17] [4])
 .ret)
 .skip))))
 (.regionE R135_6 [5,16,18] [8]))))
def ab7:ACode:=age
def R135_7:LO:=[q 4 (.move (.c (.s (.int .i64 (-1)))))]
def acn:ACFun:={ ntmps:=19,results:=[.tmp 4],body:=
 (.seq (.regionE R135_0 K135_0 [])
 (.seq (.seq (.regionE R135_1 [6] [7,8])
 (.block 0
 (.loop [] ab7)))
 (.seq (.regionE R135_7 [0,1,7,8,9] [4])
 .ret))) }
abbrev asq:Nat:=136
def K136_0:List Nat:=List.range' 2 17
theorem arn:y5 K136_0 (si 19 [] 2)=[]:=by kernel_rfl
def R136_0:LO:=[q 3 (.move (.c (.s (.bool false))))]
def R136_1t3:LO:=[qg 9 (.un .not (.t 8)) 6 true,q 10 (.pick (.t 6) (.t 9) (.c (.s (.bool false)))),oM 11 10,gL 12 1 11 true,gM 13 12 11 true,gM 14 0 13 true,qg 15 (.bin .eql (.t 14) (.c (.s (.string ⟨#[110,117,108,108]⟩)))) 13 true,qg 16 (.pick (.t 13) (.t 15) (.c (.s (.bool false)))) 11 true,qg 17 (.un .not (.t 16)) 11 true,q 18 (.pick (.t 11) (.t 17) (.c (.s (.bool false)))),oM 3 18]
def R136_1t2:LO:=⟨some 8,.call (.c (.fn 92 [] [])) [.t 7],some (6,true)⟩ :: R136_1t3
def R136_1t1:LO:=⟨some 7,.move (.t 0),some (6,true)⟩ :: R136_1t2
def R136_1p0:LO:=[oM 4 0,q 5 (.bin .neq (.t 4) (.c (.s (.string ⟨#[]⟩)))),oM 6 5]
def R136_1:LO:=R136_1p0 ++ R136_1t1
def ade:ACFun:={ ntmps:=19,results:=[.tmp 3],body:=
 (.seq (.regionE R136_0 K136_0 [])
 (.seq (.region R136_1 [] [0,1,4,5,6,7,8,9,10,11,12,13,14,15,16,17,18])
 .ret)) }
abbrev axn:Nat:=137
def K137_0:List Nat:=List.range' 2 17
theorem arl:y5 K137_0 (si 19 [] 2)=[]:=by kernel_rfl
def R137_0:LO:=[q 4 (.move (.c (.s (.int .i64 0))))]
def R137_1:LO:=[oM 6 0,q 7 (.lenS .s (.t 6)),q 8 (.move (.c (.s (.int .i64 0))))]
def R137_2:LO:=[q 9 (.bin .lss (.t 8) (.t 7))]
def R137_3:LO:=[oM 10 8,oM 5 10]
def R137_4:LO:=[oM 11 1,oM 12 0,oM 13 5,q 14 (.indexAddr 1 (.t 12) (.t 13)),oL 15 14,q 16 (.bin .eql (.t 11) (.t 15))]
def R137_5:LO:=[oM 17 5,oM 4 17]
def R137_6:LO:=[q 18 (.bin .add (.t 8) (.c (.s (.int .i64 1)))),oM 8 18]
def agd:ACode:=
 (.seq (.regionE R137_2 [] [9])
 (.seq (.cond (.t 9)
 .skip
 (.exit 0))
 (.seq (.block 1
 (.seq (.regionE R137_3 [9,10] [5])
 (.seq (.regionE R137_4 [11,12,13,14,15] [16])
 (.cond (.t 16)
 (.seq (.regionE R137_5 [0,1,5,7,8,16,17] [4])
 .ret)
 .skip))))
 (.regionE R137_6 [5,16,18] [8]))))
def ab6:ACode:=agd
def R137_7:LO:=[q 4 (.move (.c (.s (.int .i64 (-1)))))]
def aer:ACFun:={ ntmps:=19,results:=[.tmp 4],body:=
 (.seq (.regionE R137_0 K137_0 [])
 (.seq (.seq (.regionE R137_1 [6] [7,8])
 (.block 0
 (.loop [] ab6)))
 (.seq (.regionE R137_7 [0,1,7,8,9] [4])
 .ret))) }
abbrev ba8:Nat:=140
def K140_0:List Nat:=[0,2,3]
def R140_0t1:LO:=[q 2 (.move (.c (.s .nilFunc)))]
def R140_0:LO:=⟨some 1,.box (.t 0),none⟩ :: R140_0t1
def R140_1:LO:=[q 3 (.mkFn 168 [] [.t 1]),oM 2 3]
def ahc:ACFun:={ ntmps:=4,results:=[.tmp 2],body:=
 (.seq (.region R140_0 [] K140_0)
 (.seq (.regionE R140_1 [1,3] [2])
 .ret)) }
theorem ark:l9 (List.range' 1 (ahc.ntmps - 1)) ahc.body=true:=by kernel_rfl
abbrev amj:Nat:=168
def K168_0:List Nat:=List.range' 1 12 ++ List.range' 16 31
theorem ard:y5 K168_0 (si 47 [] 2)=[(13,und),(14,und),(15,und)]:=by kernel_rfl
def R168_0:LO:=[oL 9 1,q 10 (.nilCheck (.t 9)),oF 11 0 10,oF 12 0 11,oL 13 12,q 14 (.lenS .s (.t 13)),q 15 (.move (.c (.s (.int .i64 0))))]
def R168_1:LO:=[q 16 (.bin .lss (.t 15) (.t 14))]
def R168_2t3:LO:=[⟨none,.store 3 (.t 4) (.t 19),none⟩]
def R168_2p2:LO:=[oM 3 17]
def R168_2t2:LO:=R168_2p2 ++ R168_2t3
def R168_2t1:LO:=⟨some 4,.alloc [.s (.string ⟨#[]⟩),.s (.slice none 0 0),.s (.slice none 0 0)],none⟩ :: R168_2t2
def R168_2p0:LO:=[oM 17 15,q 18 (.indexAddr 3 (.t 13) (.t 15)),q 19 (.load true 3 (.t 18))]
def R168_2:LO:=R168_2p0 ++ R168_2t1
def R168_3:LO:=[oF 20 2 4,oL 21 20,q 22 (.lenS .s (.t 21)),q 23 (.move (.c (.s (.int .i64 0))))]
def R168_4:LO:=[q 24 (.bin .lss (.t 23) (.t 22))]
def R168_5t3:LO:=[⟨none,.store 2 (.t 6) (.t 27),none⟩]
def R168_5p2:LO:=[oM 5 25]
def R168_5t2:LO:=R168_5p2 ++ R168_5t3
def R168_5t1:LO:=⟨some 6,.alloc [.s (.string ⟨#[]⟩),.s (.slice none 0 0)],none⟩ :: R168_5t2
def R168_5p0:LO:=[oM 25 23,q 26 (.indexAddr 2 (.t 21) (.t 23)),q 27 (.load true 2 (.t 26))]
def R168_5:LO:=R168_5p0 ++ R168_5t1
def R168_6:LO:=[oF 28 1 6,oL 29 28,q 30 (.lenS .s (.t 29)),q 31 (.move (.c (.s (.int .i64 0))))]
def R168_7:LO:=[q 32 (.bin .lss (.t 31) (.t 30))]
def R168_8t3:LO:=[⟨none,.store 8 (.t 8) (.t 35),none⟩]
def R168_8p2:LO:=[oM 7 33]
def R168_8t2:LO:=R168_8p2 ++ R168_8t3
def R168_8t1:LO:=⟨some 8,.alloc [.s (.int .u8 0),.s (.string ⟨#[]⟩),.s (.string ⟨#[]⟩),.s (.string ⟨#[]⟩),.s (.int .i64 0),.s (.string ⟨#[]⟩),.s (.slice none 0 0),.s (.slice none 0 0)],none⟩ :: R168_8t2
def R168_8p0:LO:=[oM 33 31,q 34 (.indexAddr 8 (.t 29) (.t 31)),q 35 (.load true 8 (.t 34))]
def R168_8:LO:=R168_8p0 ++ R168_8t1
def R168_9t2:LO:=[q 43 (.un .not (.t 42))]
def R168_9t1:LO:=⟨some 42,.call (.t 36) [.t 40,.t 41],none⟩ :: R168_9t2
def R168_9p0:LO:=[oM 36 0,oM 37 3,oM 38 5,oM 39 7,q 40 (.build [.s (.int .i64 0),.s (.int .i64 0),.s (.int .i64 0)] [(0,1),(1,1),(2,1)] [(0,.t 37),(1,.t 38),(2,.t 39)]),q 41 (.load true 8 (.t 8))]
def R168_9:LO:=R168_9p0 ++ R168_9t1
def R168_10:LO:=[q 44 (.bin .add (.t 31) (.c (.s (.int .i64 1)))),oM 31 44]
def aga:ACode:=
 (.seq (.regionE R168_7 [] [32])
 (.seq (.cond (.t 32)
 .skip
 (.exit 4))
 (.seq (.block 5
 (.seq (.region R168_8 [] [32,33,34,35])
 (.seq (.region R168_9 [] [7,8,36,37,38,39,40,41,42])
 (.cond (.t 43)
 .ret
 .skip))))
 (.regionE R168_10 [43,44] [31]))))
def aeq:ACode:=aga
def R168_11:LO:=[q 45 (.bin .add (.t 23) (.c (.s (.int .i64 1)))),oM 23 45]
def af9:ACode:=
 (.seq (.regionE R168_4 [] [24])
 (.seq (.cond (.t 24)
 .skip
 (.exit 2))
 (.seq (.block 3
 (.seq (.region R168_5 [] [24,25,26,27])
 (.seq (.regionE R168_6 [6,28] [29,30,31])
 (.block 4
 (.loop [] aeq)))))
 (.regionE R168_11 [5,29,30,31,32,45] [23]))))
def aep:ACode:=af9
def R168_12:LO:=[q 46 (.bin .add (.t 15) (.c (.s (.int .i64 1)))),oM 15 46]
def af8:ACode:=
 (.seq (.regionE R168_1 [] [16])
 (.seq (.cond (.t 16)
 .skip
 (.exit 0))
 (.seq (.block 1
 (.seq (.region R168_2 [] [16,17,18,19])
 (.seq (.regionE R168_3 [4,20] [21,22,23])
 (.block 2
 (.loop [] aep)))))
 (.regionE R168_12 [3,21,22,23,24,46] [15]))))
def aeo:ACode:=af8
def aeb:ACFun:={ ntmps:=47,results:=[],body:=
 (.seq (.regionE R168_0 K168_0 [13,14,15])
 (.block 0
 (.loop [] aeo))) }
def ato:=ai (hQ K7_0p0 0) (ai (hK K7_0p0 1) (ai (hQ K7_0p0 2) (ai X7_0 (ai (hV R7_0t1 K7_0 [] 3 [] [] [.cc (.s (.bool false))]) (ai (hQ K7_0 0) (ai (hK K7_0 1) (ai (hQ K7_0 2) (ai (hT R7_1 [10,11,12] [13] 14 [] [(13,.op (.bin .gtr (.t 0) (.c (.s (.int .i64 70)))) [.op (.lenS .s (.t 0)) [eL (eF 0 (.t 1))],.c (.s (.int .i64 70))])] [sb [0,0,0],sb [0,0],sb [0],sb []]) (ai (hT R7_2 [1,13] [2] 3 [] [(2,.c (.s (.bool true)))] [.cc (.s (.bool true))]) (ai (hT R7_3 [13] [3] 4 [] [(3,.c (.s (.int .i64 0)))] [.cc (.s (.int .i64 0))]) (ai (hT R7_4 [] [4] 5 [] [(4,.c (.s (.int .i64 0)))] [.cc (.s (.int .i64 0))]) (ai (hT R7_5 [14,15,16,17] [18] 19 [] [(18,.op (.bin .lss (.t 0) (.t 1)) [.t 4,.op (.lenS .s (.t 0)) [eL (eF 0 (.t 1))]])] [.tt 4,sb [1,0,0],sb [1,0],sb [1],sb []]) (ai (hU R7_6 [18,21,22,23,24] [25] [18,21,22,23,24,25] 26 [] [(25,.op (.load true 3 (.t 0)) [.op (.indexAddr 3 (.t 0) (.t 1)) [eL (eF 0 (.t 1)),.t 4]])] [sb [0,0,0],sb [0,0],.tt 4,sb [0],sb []]) (ai (hP R7_6t1 [] [18,21,22,23,24,25]) (ai (hX R7_6t2 [18,21,22,23,24,25]) (ai (hU R7_7 [26,27,28,29,30,31,32,33,34,35,36,37,38,39,40,41] [42] [26,27,28,29,30,31,32,33,34,35,36,37,38,39,40,41,42,43,44,45] 43 [] [(42,.pick (.pick (.op (.bin .gtr (.t 0) (.c (.s (.int .i64 200)))) [.op (.lenS .p (.t 0)) [eL (eF 0 (.t 5))],.c (.s (.int .i64 200))]) (.c (.s (.bool true))) (.op (.bin .gtr (.t 0) (.c (.s (.int .i64 20)))) [.op (.lenS .s (.t 0)) [eL (eF 1 (.t 5))],.c (.s (.int .i64 20))])) (.c (.s (.bool true))) (.op (.bin .gtr (.t 0) (.c (.s (.int .i64 70)))) [.op (.lenS .s (.t 0)) [eL (eF 2 (.t 5))],.c (.s (.int .i64 70))]))] [sb [0,0,0,0,0],sb [0,0,0,0],sb [0,0,0],sb [0,0],sb [0,0],.sub 0 [0,2,0,0,0] [30],.sub 0 [0,2,0,0] [30],.sub 0 [0,2,0] [30],.sub 0 [0,2] [30],sb [0],sb [0],.sub 0 [2,0,0,0] [36],.sub 0 [2,0,0] [36],.sub 0 [2,0] [36],.sub 0 [2] [36],sb [],sb []]) (ai (hP R7_7t1 [] [26,27,28,29,30,31,32,33,34,35,36,37,38,39,40,41,42,43,44,45]) (ai (hP R7_7t2 [43] [26,27,28,29,30,31,32,33,34,35,36,37,38,39,40,41,42,43,44,45]) (ai (hP R7_7t3 [44] [26,27,28,29,30,31,32,33,34,35,36,37,38,39,40,41,42,43,44,45]) (ai (hV R7_7t4 [26,27,28,29,30,31,32,33,34,35,36,37,38,39,40,41,42,43,44,45] [46] 47 [] [(46,.pick (.t 42) (.c (.s (.bool true))) (.t 45))] [sb []]) (ai (hT R7_8 [1,3,4,5,46] [2] 3 [] [(2,.c (.s (.bool true)))] [.cc (.s (.bool true))]) (ai (hT R7_9 [46] [6] 7 [] [(6,.c (.s (.int .i64 0)))] [.cc (.s (.int .i64 0))]) (ai (hT R7_10 [47,48,49,50] [51] 52 [] [(51,.op (.bin .lss (.t 0) (.t 1)) [.t 6,.op (.lenS .s (.t 0)) [eL (eF 2 (.t 5))]])] [.tt 6,sb [1,0,0],sb [1,0],sb [1],sb []]) (ai (hT R7_11 [51,54,55,56,57,58,59] [7] 60 [] [(7,eL (eF 1 (.op (.indexAddr 2 (.t 0) (.t 1)) [eL (eF 2 (.t 5)),.t 6])))] [sb [0,0,0,0],sb [0,0,0],.tt 6,sb [0,0],sb [0],sb [],sb []]) (ai (hT R7_12 [60,61,62,63,64,65,66,67,68,69,70,71,72,73] [74] 75 [] [(74,.pick (.op (.bin .gtr (.t 0) (.t 1)) [.op (.lenS .s (.t 0)) [.t 7],.op (.bin .sub (.c (.s (.int .i64 200))) (.t 1)) [.c (.s (.int .i64 200)),.t 3]]) (.c (.s (.bool true))) (.op (.bin .gtr (.t 0) (.c (.s (.int .i64 200)))) [.op (.lenS .p (.t 0)) [eL (eF 0 (.op (.indexAddr 2 (.t 0) (.t 1)) [eL (eF 2 (.t 5)),.t 6]))],.c (.s (.int .i64 200))]))] [.tt 7,sb [0,0],.tt 3,sb [0,1],sb [0],sb [0],.sub 0 [2,0,0,0,0,0,0] [65],.sub 0 [2,0,0,0,0,0] [65],.sub 0 [2,0,0,0,0,1] [65],.sub 0 [2,0,0,0,0] [65],.sub 0 [2,0,0,0] [65],.sub 0 [2,0,0] [65],.sub 0 [2,0] [65],.sub 0 [2] [65],sb []]) (ai (hT R7_13 [1,3,4,5,6,7,74] [2] 3 [] [(2,.c (.s (.bool true)))] [.cc (.s (.bool true))]) (ai (hT R7_14 [74,75,76,77,78] [3] 79 [] [(3,.op (.bin .add (.t 0) (.t 1)) [.t 3,.op (.lenS .s (.t 0)) [.t 7]])] [.tt 3,.tt 7,sb [1],sb [],sb []]) (ai (hT R7_15 [] [8] 9 [] [(8,.c (.s (.int .i64 0)))] [.cc (.s (.int .i64 0))]) (ai (hT R7_16 [79,80,81] [82] 83 [] [(82,.op (.bin .lss (.t 0) (.t 1)) [.t 8,.op (.lenS .s (.t 0)) [.t 7]])] [.tt 8,.tt 7,sb [1],sb []]) (ai (hU R7_17 [82,85,86,87] [88] [82,85,86,87,88] 89 [] [(88,.op (.load true 8 (.t 0)) [.op (.indexAddr 8 (.t 0) (.t 1)) [.t 7,.t 8]])] [.tt 7,.tt 8,sb [0],sb []]) (ai (hP R7_17t1 [] [82,85,86,87,88]) (ai (hX R7_17t2 [82,85,86,87,88]) (ai (hU R7_18 [89,90,91,92,93,94,95,96,97,98,99,100,101,102,103,104,105,106,107,108,109,110,111,112,113,114,115,116,117,118,119,120,121,122] [123] [9,89,90,91,92,93,94,95,96,97,98,99,100,101,102,103,104,105,106,107,108,109,110,111,112,113,114,115,116,117,118,119,120,121,122,123,124,125,126,127,128,129,130,131] 124 [] [(123,.pick (.pick (.pick (.pick (.pick (.op (.bin .gtr (.t 0) (.c (.s (.int .i64 200)))) [.op (.lenS .p (.t 0)) [eL (eF 1 (.t 9))],.c (.s (.int .i64 200))]) (.c (.s (.bool true))) (.op (.bin .gtr (.t 0) (.c (.s (.int .i64 200)))) [.op (.lenS .p (.t 0)) [eL (eF 2 (.t 9))],.c (.s (.int .i64 200))])) (.c (.s (.bool true))) (.op (.bin .gtr (.t 0) (.c (.s (.int .i64 200)))) [.op (.lenS .p (.t 0)) [eL (eF 3 (.t 9))],.c (.s (.int .i64 200))])) (.c (.s (.bool true))) (.op (.bin .gtr (.t 0) (.c (.s (.int .i64 200)))) [.op (.lenS .p (.t 0)) [eL (eF 5 (.t 9))],.c (.s (.int .i64 200))])) (.c (.s (.bool true))) (.op (.bin .gtr (.t 0) (.c (.s (.int .i64 20)))) [.op (.lenS .s (.t 0)) [eL (eF 6 (.t 9))],.c (.s (.int .i64 20))])) (.c (.s (.bool true))) (.op (.bin .gtr (.t 0) (.c (.s (.int .i64 20)))) [.op (.lenS .s (.t 0)) [eL (eF 7 (.t 9))],.c (.s (.int .i64 20))]))] [sb [0,0,0,0,0,0,0,0],sb [0,0,0,0,0,0,0],sb [0,0,0,0,0,0],sb [0,0,0,0,0],sb [0,0,0,0,0],.sub 0 [0,0,0,0,2,0,0,0] [93],.sub 0 [0,0,0,0,2,0,0] [93],.sub 0 [0,0,0,0,2,0] [93],.sub 0 [0,0,0,0,2] [93],sb [0,0,0,0],sb [0,0,0,0],.sub 0 [0,0,0,2,0,0,0] [99],.sub 0 [0,0,0,2,0,0] [99],.sub 0 [0,0,0,2,0] [99],.sub 0 [0,0,0,2] [99],sb [0,0,0],sb [0,0,0],.sub 0 [0,0,2,0,0,0] [105],.sub 0 [0,0,2,0,0] [105],.sub 0 [0,0,2,0] [105],.sub 0 [0,0,2] [105],sb [0,0],sb [0,0],.sub 0 [0,2,0,0,0] [111],.sub 0 [0,2,0,0] [111],.sub 0 [0,2,0] [111],.sub 0 [0,2] [111],sb [0],sb [0],.sub 0 [2,0,0,0] [117],.sub 0 [2,0,0] [117],.sub 0 [2,0] [117],.sub 0 [2] [117],sb [],sb []]) (ai (hP R7_18t1 [] [9,89,90,91,92,93,94,95,96,97,98,99,100,101,102,103,104,105,106,107,108,109,110,111,112,113,114,115,116,117,118,119,120,121,122,123,124,125,126,127,128,129,130,131]) (ai (hP R7_18t2 [124] [9,89,90,91,92,93,94,95,96,97,98,99,100,101,102,103,104,105,106,107,108,109,110,111,112,113,114,115,116,117,118,119,120,121,122,123,124,125,126,127,128,129,130,131]) (ai (hP R7_18t3 [125] [9,89,90,91,92,93,94,95,96,97,98,99,100,101,102,103,104,105,106,107,108,109,110,111,112,113,114,115,116,117,118,119,120,121,122,123,124,125,126,127,128,129,130,131]) (ai (hU R7_18t4 [123,126,127] [128] [9,89,90,91,92,93,94,95,96,97,98,99,100,101,102,103,104,105,106,107,108,109,110,111,112,113,114,115,116,117,118,119,120,121,122,123,124,125,126,127,128,129,130,131] 129 [] [(128,.pick (.t 123) (.c (.s (.bool true))) (.t 126))] [sb [],sb []]) (ai (hP R7_18t5 [9] [9,89,90,91,92,93,94,95,96,97,98,99,100,101,102,103,104,105,106,107,108,109,110,111,112,113,114,115,116,117,118,119,120,121,122,123,124,125,126,127,128,129,130,131]) (ai (hP R7_18t6 [129] [9,89,90,91,92,93,94,95,96,97,98,99,100,101,102,103,104,105,106,107,108,109,110,111,112,113,114,115,116,117,118,119,120,121,122,123,124,125,126,127,128,129,130,131]) (ai (hP R7_18t7 [130] [9,89,90,91,92,93,94,95,96,97,98,99,100,101,102,103,104,105,106,107,108,109,110,111,112,113,114,115,116,117,118,119,120,121,122,123,124,125,126,127,128,129,130,131]) (ai (hV R7_18t8 [9,89,90,91,92,93,94,95,96,97,98,99,100,101,102,103,104,105,106,107,108,109,110,111,112,113,114,115,116,117,118,119,120,121,122,123,124,125,126,127,128,129,130,131] [132] 133 [] [(132,.pick (.t 128) (.c (.s (.bool true))) (.t 131))] [sb []]) (ai (hT R7_19 [1,3,4,5,6,7,8,132] [2] 3 [] [(2,.c (.s (.bool true)))] [.cc (.s (.bool true))]) (ai (hT R7_20 [83,84,132] [8] 85 [] [(8,.op (.bin .add (.t 0) (.c (.s (.int .i64 1)))) [.t 8,.c (.s (.int .i64 1))])] [.tt 8,sb [],sb []]) (ai (hE alf ale) (ai (hT R7_21 [7,8,52,53,82] [6] 54 [] [(6,.op (.bin .add (.t 0) (.c (.s (.int .i64 1)))) [.t 6,.c (.s (.int .i64 1))])] [.tt 6,sb [],sb []]) (ai (hE ald alc) (ai (hT R7_22 [5,6,19,20,51] [4] 21 [] [(4,.op (.bin .add (.t 0) (.c (.s (.int .i64 1)))) [.t 4,.c (.s (.int .i64 1))])] [.tt 4,sb [],sb []]) (ai (hE alb ala) (ai (hT R7_23 [1,3,4,18] [2] 3 [] [(2,.c (.s (.bool false)))] [.cc (.s (.bool false))]) (ai alc.eq_1 (ai ale.eq_1 (ala.eq_1))))))))))))))))))))))))))))))))))))))))))))))))))))
def a6a:=ai (hT R15_0 K15_0 [] 3 [] [] [.cc (.s (.bool false))]) (ai avg (ai (hK K15_0 0) (ai (hT R15_1 [] [3] 4 [] [(3,.c (.s (.int .i64 0)))] [.cc (.s (.int .i64 0))]) (ai (hT R15_2 [4,5,6] [7] 8 [] [(7,.op (.bin .lss (.t 0) (.t 1)) [.t 3,.op (.lenS .s (.t 0)) [.t 0]])] [.tt 3,.tt 0,sb [1],sb []]) (ai (hT R15_3 [7,10,11,12,13,14] [15] 16 [] [(15,.op (.bin .gtr (.t 0) (.c (.s (.int .i64 200)))) [.op (.lenS .p (.t 0)) [eL (.op (.indexAddr 1 (.t 0) (.t 1)) [.t 0,.t 3])],.c (.s (.int .i64 200))])] [.tt 0,.tt 3,sb [0,0,0],sb [0,0],sb [0],sb []]) (ai (hT R15_4 [0,3,15] [2] 3 [] [(2,.c (.s (.bool true)))] [.cc (.s (.bool true))]) (ai (hT R15_5 [8,9,15] [3] 10 [] [(3,.op (.bin .add (.t 0) (.c (.s (.int .i64 1)))) [.t 3,.c (.s (.int .i64 1))])] [.tt 3,sb [],sb []]) (ai (hE ado aiu) (ai (hT R15_6 [0,3,7] [2] 3 [] [(2,.c (.s (.bool false)))] [.cc (.s (.bool false))]) (aiu.eq_1))))))))))
def a_f35:=ai (hT R35_0 K35_0 [] 1 [] [] [.cc (.s (.map none))]) (ai au6 (ai (hP R35_1 [] [1,2,3,4,5,6,7,8,9,10,11,12,13,14,15,16]) (ai (hU R35_1t1 [] [2] [1,2,3,4,5,6,7,8,9,10,11,12,13,14,15,16] 3 [] [(2,.op (.build [.s (.bool false),.s (.bool false),.s (.bool false),.s (.bool false),.s (.bool false),.s (.bool false),.s (.bool false)] [(0,1),(1,1),(2,1),(3,1),(4,1),(5,1),(6,1)] [(0,.c (.s (.bool true))),(3,.c (.s (.bool true)))]) [.c (.s (.bool true)),.c (.s (.bool true))])] [sb []]) (ai (hP R35_1t2 [2] [1,2,3,4,5,6,7,8,9,10,11,12,13,14,15,16]) (ai (hU R35_1t3 [] [3] [1,2,3,4,5,6,7,8,9,10,11,12,13,14,15,16] 4 [] [(3,.op (.build [.s (.bool false),.s (.bool false),.s (.bool false),.s (.bool false),.s (.bool false),.s (.bool false),.s (.bool false)] [(0,1),(1,1),(2,1),(3,1),(4,1),(5,1),(6,1)] [(0,.c (.s (.bool true))),(3,.c (.s (.bool true)))]) [.c (.s (.bool true)),.c (.s (.bool true))])] [sb []]) (ai (hP R35_1t4 [3] [1,2,3,4,5,6,7,8,9,10,11,12,13,14,15,16]) (ai (hU R35_1t5 [] [4] [1,2,3,4,5,6,7,8,9,10,11,12,13,14,15,16] 5 [] [(4,.op (.build [.s (.bool false),.s (.bool false),.s (.bool false),.s (.bool false),.s (.bool false),.s (.bool false),.s (.bool false)] [(0,1),(1,1),(2,1),(3,1),(4,1),(5,1),(6,1)] [(0,.c (.s (.bool true)))]) [.c (.s (.bool true))])] [sb []]) (ai (hP R35_1t6 [4] [1,2,3,4,5,6,7,8,9,10,11,12,13,14,15,16]) (ai (hU R35_1t7 [] [5] [1,2,3,4,5,6,7,8,9,10,11,12,13,14,15,16] 6 [] [(5,.op (.build [.s (.bool false),.s (.bool false),.s (.bool false),.s (.bool false),.s (.bool false),.s (.bool false),.s (.bool false)] [(0,1),(1,1),(2,1),(3,1),(4,1),(5,1),(6,1)] [(0,.c (.s (.bool true))),(4,.c (.s (.bool true)))]) [.c (.s (.bool true)),.c (.s (.bool true))])] [sb []]) (ai (hP R35_1t8 [5] [1,2,3,4,5,6,7,8,9,10,11,12,13,14,15,16]) (ai (hU R35_1t9 [] [6] [1,2,3,4,5,6,7,8,9,10,11,12,13,14,15,16] 7 [] [(6,.op (.build [.s (.bool false),.s (.bool false),.s (.bool false),.s (.bool false),.s (.bool false),.s (.bool false),.s (.bool false)] [(0,1),(1,1),(2,1),(3,1),(4,1),(5,1),(6,1)] [(0,.c (.s (.bool true))),(1,.c (.s (.bool true)))]) [.c (.s (.bool true)),.c (.s (.bool true))])] [sb []]) (ai (hP R35_1t10 [6] [1,2,3,4,5,6,7,8,9,10,11,12,13,14,15,16]) (ai (hU R35_1t11 [] [7] [1,2,3,4,5,6,7,8,9,10,11,12,13,14,15,16] 8 [] [(7,.op (.build [.s (.bool false),.s (.bool false),.s (.bool false),.s (.bool false),.s (.bool false),.s (.bool false),.s (.bool false)] [(0,1),(1,1),(2,1),(3,1),(4,1),(5,1),(6,1)] [(0,.c (.s (.bool true))),(1,.c (.s (.bool true)))]) [.c (.s (.bool true)),.c (.s (.bool true))])] [sb []]) (ai (hP R35_1t12 [7] [1,2,3,4,5,6,7,8,9,10,11,12,13,14,15,16]) (ai (hU R35_1t13 [] [8] [1,2,3,4,5,6,7,8,9,10,11,12,13,14,15,16] 9 [] [(8,.op (.build [.s (.bool false),.s (.bool false),.s (.bool false),.s (.bool false),.s (.bool false),.s (.bool false),.s (.bool false)] [(0,1),(1,1),(2,1),(3,1),(4,1),(5,1),(6,1)] [(0,.c (.s (.bool true))),(5,.c (.s (.bool true))),(6,.c (.s (.bool true)))]) [.c (.s (.bool true)),.c (.s (.bool true)),.c (.s (.bool true))])] [sb []]) (ai (hP R35_1t14 [8] [1,2,3,4,5,6,7,8,9,10,11,12,13,14,15,16]) (ai (hU R35_1t15 [] [9] [1,2,3,4,5,6,7,8,9,10,11,12,13,14,15,16] 10 [] [(9,.op (.build [.s (.bool false),.s (.bool false),.s (.bool false),.s (.bool false),.s (.bool false),.s (.bool false),.s (.bool false)] [(0,1),(1,1),(2,1),(3,1),(4,1),(5,1),(6,1)] [(0,.c (.s (.bool true))),(1,.c (.s (.bool true))),(3,.c (.s (.bool true)))]) [.c (.s (.bool true)),.c (.s (.bool true)),.c (.s (.bool true))])] [sb []]) (ai (hP R35_1t16 [9] [1,2,3,4,5,6,7,8,9,10,11,12,13,14,15,16]) (ai (hU R35_1t17 [] [10] [1,2,3,4,5,6,7,8,9,10,11,12,13,14,15,16] 11 [] [(10,.op (.build [.s (.bool false),.s (.bool false),.s (.bool false),.s (.bool false),.s (.bool false),.s (.bool false),.s (.bool false)] [(0,1),(1,1),(2,1),(3,1),(4,1),(5,1),(6,1)] [(1,.c (.s (.bool true))),(2,.c (.s (.bool true)))]) [.c (.s (.bool true)),.c (.s (.bool true))])] [sb []]) (ai (hP R35_1t18 [10] [1,2,3,4,5,6,7,8,9,10,11,12,13,14,15,16]) (ai (hU R35_1t19 [] [11] [1,2,3,4,5,6,7,8,9,10,11,12,13,14,15,16] 12 [] [(11,.op (.build [.s (.bool false),.s (.bool false),.s (.bool false),.s (.bool false),.s (.bool false),.s (.bool false),.s (.bool false)] [(0,1),(1,1),(2,1),(3,1),(4,1),(5,1),(6,1)] [(0,.c (.s (.bool true))),(4,.c (.s (.bool true))),(5,.c (.s (.bool true)))]) [.c (.s (.bool true)),.c (.s (.bool true)),.c (.s (.bool true))])] [sb []]) (ai (hP R35_1t20 [11] [1,2,3,4,5,6,7,8,9,10,11,12,13,14,15,16]) (ai (hU R35_1t21 [] [12] [1,2,3,4,5,6,7,8,9,10,11,12,13,14,15,16] 13 [] [(12,.op (.build [.s (.bool false),.s (.bool false),.s (.bool false),.s (.bool false),.s (.bool false),.s (.bool false),.s (.bool false)] [(0,1),(1,1),(2,1),(3,1),(4,1),(5,1),(6,1)] [(0,.c (.s (.bool true))),(1,.c (.s (.bool true))),(5,.c (.s (.bool true)))]) [.c (.s (.bool true)),.c (.s (.bool true)),.c (.s (.bool true))])] [sb []]) (ai (hP R35_1t22 [12] [1,2,3,4,5,6,7,8,9,10,11,12,13,14,15,16]) (ai (hU R35_1t23 [] [13] [1,2,3,4,5,6,7,8,9,10,11,12,13,14,15,16] 14 [] [(13,.op (.build [.s (.bool false),.s (.bool false),.s (.bool false),.s (.bool false),.s (.bool false),.s (.bool false),.s (.bool false)] [(0,1),(1,1),(2,1),(3,1),(4,1),(5,1),(6,1)] [(6,.c (.s (.bool true)))]) [.c (.s (.bool true))])] [sb []]) (ai (hP R35_1t24 [13] [1,2,3,4,5,6,7,8,9,10,11,12,13,14,15,16]) (ai (hU R35_1t25 [] [14] [1,2,3,4,5,6,7,8,9,10,11,12,13,14,15,16] 15 [] [(14,.op (.build [.s (.bool false),.s (.bool false),.s (.bool false),.s (.bool false),.s (.bool false),.s (.bool false),.s (.bool false)] [(0,1),(1,1),(2,1),(3,1),(4,1),(5,1),(6,1)] [(6,.c (.s (.bool true)))]) [.c (.s (.bool true))])] [sb []]) (ai (hP R35_1t26 [14] [1,2,3,4,5,6,7,8,9,10,11,12,13,14,15,16]) (ai (hU R35_1t27 [] [15] [1,2,3,4,5,6,7,8,9,10,11,12,13,14,15,16] 16 [] [(15,.op (.build [.s (.bool false),.s (.bool false),.s (.bool false),.s (.bool false),.s (.bool false),.s (.bool false),.s (.bool false)] [(0,1),(1,1),(2,1),(3,1),(4,1),(5,1),(6,1)] [(1,.c (.s (.bool true)))]) [.c (.s (.bool true))])] [sb []]) (ai (hP R35_1t28 [15] [1,2,3,4,5,6,7,8,9,10,11,12,13,14,15,16]) ((hV R35_1t29 [1,2,3,4,5,6,7,8,9,10,11,12,13,14,15,16] [0] 17 [] [(0,.t 1)] [.tt 1,.tt 1]))))))))))))))))))))))))))))))))
def a5z:=ai (hT R92_0 K92_0 [] 3 [] [] [.cc (.s (.bool false))]) (ai auo (ai (hK K92_0 0) (ai (hT R92_1 [6,7,8,9,10,11,12,13,14,15] [16] 17 [] [(16,.pick (.pick (.op (.bin .eql (.t 0) (.c (.s (.string ⟨#[]⟩)))) [.t 0,.c (.s (.string ⟨#[]⟩))]) (.c (.s (.bool true))) (.op (.bin .gtr (.t 0) (.c (.s (.int .i64 64)))) [.op (.lenS .p (.t 0)) [.t 0],.c (.s (.int .i64 64))])) (.c (.s (.bool true))) (.op (.bin .eql (.t 0) (.c (.s (.string ⟨#[110,117,108,108]⟩)))) [.t 0,.c (.s (.string ⟨#[110,117,108,108]⟩))]))] [.tt 0,sb [0,0],sb [0,0],.sub 0 [0,2,0,0] [8],.sub 0 [0,2,0] [8],.sub 0 [0,2] [8],sb [0],sb [0],.sub 0 [2,0] [13],.sub 0 [2] [13],sb []]) (ai (hT R92_2 [0,16] [2] 3 [] [(2,.c (.s (.bool false)))] [.cc (.s (.bool false))]) (ai (hT R92_3 [16,17] [18,19] 20 [] [(18,.op (.lenS .p (.t 0)) [.t 0]),(19,.c (.s (.int .i64 0)))] [.tt 0,sb [],.cc (.s (.int .i64 0))]) (ai (hT R92_4 [] [20] 21 [] [(20,.op (.bin .lss (.t 0) (.t 1)) [.t 19,.t 18])] [sb []]) (ai (hT R92_5 [20,21] [3] 22 [] [(3,.t 19)] [.tt 19,.tt 19]) (ai (hT R92_6 [22,23,24] [4] 25 [] [(4,.op (.indexStr (.t 0) (.t 1)) [.t 0,.t 3])] [.tt 0,.tt 3,sb [],sb []]) (ai (hT R92_7 [25,26,27,28,29,30,31,32,33,34,35,36,37,38,39,40,41,42] [5] 43 [] [(5,.pick (.pick (.pick (.op (.bin .geq (.t 0) (.c (.s (.int .u8 97)))) [.t 4,.c (.s (.int .u8 97))]) (.op (.bin .leq (.t 0) (.c (.s (.int .u8 122)))) [.t 4,.c (.s (.int .u8 122))]) (.c (.s (.bool false)))) (.c (.s (.bool true))) (.pick (.op (.bin .geq (.t 0) (.c (.s (.int .u8 65)))) [.t 4,.c (.s (.int .u8 65))]) (.op (.bin .leq (.t 0) (.c (.s (.int .u8 90)))) [.t 4,.c (.s (.int .u8 90))]) (.c (.s (.bool false))))) (.c (.s (.bool true))) (.op (.bin .eql (.t 0) (.c (.s (.int .u8 95)))) [.t 4,.c (.s (.int .u8 95))]))] [.tt 4,sb [0,0,0],sb [0,0,0],.sub 0 [0,0,1,0] [27],.sub 0 [0,0,1] [27],sb [0,0],sb [0,0],.sub 0 [0,2,0,0] [31],.sub 0 [0,2,0] [31],.sub 0 [0,2,0] [31],.sub 0 [0,2,1,0] [31,34],.sub 0 [0,2,1] [31,34],.sub 0 [0,2] [31],sb [0],sb [0],.sub 0 [2,0] [39],.sub 0 [2] [39],sb [],sb []]) (ai (hT R92_8 [3,4,5,43,44,45,46,47,48,49,50,51,52,53,54,55,56,57,58,59] [60] 61 [] [(60,.pick (.op (.un .not (.t 0)) [.t 5]) (.pick (.op (.bin .eql (.t 0) (.c (.s (.int .i64 0)))) [.t 3,.c (.s (.int .i64 0))]) (.c (.s (.bool true))) (.pick (.pick (.op (.bin .lss (.t 0) (.c (.s (.int .u8 48)))) [.t 4,.c (.s (.int .u8 48))]) (.c (.s (.bool true))) (.op (.bin .gtr (.t 0) (.c (.s (.int .u8 57)))) [.t 4,.c (.s (.int .u8 57))])) (.op (.bin .neq (.t 0) (.c (.s (.int .u8 46)))) [.t 4,.c (.s (.int .u8 46))]) (.c (.s (.bool false))))) (.c (.s (.bool false))))] [.tt 5,sb [0],sb [0],.sub 0 [1,0,0] [45],.sub 0 [1,0] [45],.sub 0 [1,0] [45],.sub 0 [1,2,0,0,0] [45,48],.sub 0 [1,2,0,0] [45,48],.sub 0 [1,2,0,0] [45,48],.sub 0 [1,2,0,2,0] [45,48,51],.sub 0 [1,2,0,2] [45,48,51],.sub 0 [1,2,0] [45,48],.sub 0 [1,2,0] [45,48],.sub 0 [1,2,1,0] [45,48,55],.sub 0 [1,2,1] [45,48,55],.sub 0 [1,2] [45,48],.sub 0 [1] [45],sb []]) (ai (hT R92_9 [0,18,19,60] [2] 3 [] [(2,.c (.s (.bool false)))] [.cc (.s (.bool false))]) (ai (hT R92_10 [60,61] [19] 62 [] [(19,.op (.bin .add (.t 0) (.c (.s (.int .i64 1)))) [.t 19,.c (.s (.int .i64 1))])] [sb [],sb []]) (ai (hE apn aid) (ai (hT R92_11 [0,18,19,20] [2] 3 [] [(2,.c (.s (.bool true)))] [.cc (.s (.bool true))]) (aid.eq_1)))))))))))))))
def a_f93:=ai (hT R93_0 K93_0 [] 5 [] [] [.cc (.s (.bool false))]) (ai aun (ai (hK K93_0 0) (ai (hK K93_0 1) (ai (hU R93_1 [0,1] [5,6] [0,1,5,6,7,8] 7 [] [(5,.t 0),(6,.t 1)] [.tt 0,.tt 1]) (ai (hP R93_1t1 [5,6] [0,1,5,6,7,8]) ((hV R93_1t2 [0,1,5,6,7,8] [4] 9 [] [(4,.op (.bin .geq (.t 0) (.c (.s (.int .i64 0)))) [.t 7,.c (.s (.int .i64 0))])] [sb [],sb []])))))))
def a_f94:=ai (hT R94_0 K94_0 [] 3 [] [] [.cc (.s (.bool false))]) (ai aum (ai (hK K94_0 0) (ai (hU R94_1 [0] [3] [0,3,4,5] 4 [] [(3,.t 0)] [.tt 0]) (ai (hP R94_1t1 [3] [0,3,4,5]) ((hV R94_1t2 [0,3,4,5] [2] 6 [] [(2,.op (.un .not (.t 0)) [.t 4])] [sb [],sb []]))))))
def a_f95:=ai (hP R95_0 [0,3,4,5,6,7] K95_0) (ai (hV R95_0t1 K95_0 [] 5 [] [] [.cc (.s (.bool false))]) (ai (hQ K95_0 0) (ai (hK K95_0 1) (ai (hK K95_0 2) (ai (hQ K95_0 4) (ai (hU R95_1 [1,2] [5,6] [1,2,5,6,7] 7 [] [(5,.t 1),(6,.op (.mkFn 136 [] [.t 0]) [.t 2])] [.tt 1,.sub 1 [] []]) (ai (hP R95_1t1 [5,6] [1,2,5,6,7]) ((hV R95_1t2 [1,2,5,6,7] [4] 5 [] [(4,.t 7)] [.tt 7])))))))))
def a_f96:=ai (hT R96_0 K96_0 [] 5 [] [] [.cc (.s (.bool false))]) (ai auk (ai (hK K96_0 0) (ai (hK K96_0 1) (ai (hU R96_1 [0,1] [5,6] [0,1,5,6,7,8] 7 [] [(5,.t 0),(6,.t 1)] [.tt 0,.tt 1]) (ai (hP R96_1t1 [5,6] [0,1,5,6,7,8]) ((hV R96_1t2 [0,1,5,6,7,8] [4] 9 [] [(4,.op (.bin .geq (.t 0) (.c (.s (.int .i64 0)))) [.t 7,.c (.s (.int .i64 0))])] [sb [],sb []])))))))
def biz:=ai (hT R100_0 K100_0 [] 3 [] [] [.cc (.s (.bool false))]) (ai arv (ai (hK K100_0 0) ((hT R100_1 [0,3,4,5,6,7,8] [2] 9 [] [(2,.pick (.op (.bin .eql (.t 0) (.c (.s (.int .u8 10)))) [.t 0,.c (.s (.int .u8 10))]) (.c (.s (.bool true))) (.op (.bin .eql (.t 0) (.c (.s (.int .u8 11)))) [.t 0,.c (.s (.int .u8 11))]))] [.tt 0,sb [0],sb [0],.sub 0 [2,0] [5],.sub 0 [2] [5],sb [],sb []]))))
def atu:=ai (hP R102_0 [1,2,4,5,6,7,8,9,10,11,12,13,14,15,16,17] K102_0) (ai (hP R102_0t1 [] K102_0) (ai (hX R102_0t2 K102_0) (ai (hK K102_0 0) (ai (hQ K102_0 1) (ai (hK K102_0 3) (ai (hK K102_0 4) (ai (hK K102_0 5) (ai (hU R102_1 [0] [8] [0,8] 9 [] [(8,.t 0)] [.tt 0]) (ai (hX R102_1t1 [0,8]) (ai (hP R102_2 [9] [9,10]) (ai (hX R102_2t1 [9,10]) (ai (hP R102_3 [] [11]) (ai (hX R102_3t1 [11]) (ai (hU R102_4 [3,7] [12,13,14] [3,7,12,13,14] 15 [] [(12,eL (.t 3)),(13,.op (.load true 3 (.t 0)) [.t 6]),(14,.op (.load true 8 (.t 0)) [.t 7])] [sb [],.sub 1 [] [],.sub 2 [] []]) (ai (hX R102_4t1 [3,7,12,13,14]) (ai (hU R102_5 [6,15] [16] [4,5,6,15,16] 17 [] [(16,.op (.load true 3 (.t 0)) [.t 6])] [sb []]) (ai (hP R102_5t1 [4,16] [4,5,6,15,16]) (ai (hX R102_5t2 [4,5,6,15,16]) (ai (hU R102_6 [3,9] [17] [3,9,17] 18 [] [(17,.op (.build [.s (.int .i64 0),.s (.int .i64 0),.s (.int .i64 0)] [(0,1),(1,1),(2,1)] []) [])] [sb []]) (ai (hP R102_6t1 [17] [3,9,17]) ((hX R102_6t2 [3,9,17]))))))))))))))))))))))
def bbh:=ai (hQ K104_0p0 0) (ai (hK K104_0p0 1) (ai (hK K104_0p0 2) (ai (hQ K104_0p0 3) (ai (hQ K104_0p0 4) (ai (hQ K104_0p0 5) (ai X104_0 (ai (hP R104_0t1 [1] K104_0) (ai (hV R104_0t2 K104_0 [] 6 [] [] [.cc (.s (.bool false))]) (ai (hQ K104_0 0) (ai (hQ K104_0 1) (ai (hK K104_0 2) (ai (hQ K104_0 3) (ai (hK K104_0 4) (ai (hQ K104_0 5) (ai (hU R104_1 [2,8,9,10,11,12,13,14,15] [16,17] [2,8,9,10,11,12,13,14,15,16,17] 18 [] [(16,.op (.extract (.t 0) 0) [.op (.mapGet (.int .u8) (.agg [.s (.bool false),.s (.bool false),.s (.bool false),.s (.bool false),.s (.bool false),.s (.bool false),.s (.bool false)]) (.t 0) (.t 1) true) [eL (eF 1 (.op (.nilCheck (.t 0)) [eL (.t 2)])),eL (eF 0 (.t 4))]]),(17,.op (.extract (.t 0) 1) [.op (.mapGet (.int .u8) (.agg [.s (.bool false),.s (.bool false),.s (.bool false),.s (.bool false),.s (.bool false),.s (.bool false),.s (.bool false)]) (.t 0) (.t 1) true) [eL (eF 1 (.op (.nilCheck (.t 0)) [eL (.t 2)])),eL (eF 0 (.t 4))]])] [sb [0,0,0,0,0],sb [0,0,0,0],sb [0,0,0],sb [0,0],sb [0,1,0],sb [0,1],sb [0],sb [0],sb [],.sub 1 [] []]) (ai (hP R104_1t1 [] [2,8,9,10,11,12,13,14,15,16,17]) (ai (hP R104_1t2 [16] [2,8,9,10,11,12,13,14,15,16,17]) (ai (hV R104_1t3 [2,8,9,10,11,12,13,14,15,16,17] [7] 8 [] [(7,.t 17)] [.tt 17]) (ai (hT R104_2 [7,18,19,20,21,22,23,24,25,26,27,28,29,30,31,32,33,34,35,36,37,38,39,40,41,42,43,44,45,46,47,48,49,50,51,52,53,54,55,56,57,58,59,60,61,62,63,64,65,66,67,68,69,70,71,72,73,74,75,76,77,78,79,80,81,82,83,84,85,86,87,88,89,90] [91] 92 [] [(91,.pick (.pick (.pick (.pick (.pick (.pick (.pick (.op (.un .not (.t 0)) [.t 7]) (.c (.s (.bool true))) (.pick (.op (.un .not (.t 0)) [eL (eF 0 (.t 6))]) (.op (.bin .neq (.t 0) (.c (.s (.string ⟨#[]⟩)))) [eL (eF 1 (.t 4)),.c (.s (.string ⟨#[]⟩))]) (.c (.s (.bool false))))) (.c (.s (.bool true))) (.pick (.op (.un .not (.t 0)) [eL (eF 1 (.t 6))]) (.op (.bin .neq (.t 0) (.c (.s (.string ⟨#[]⟩)))) [eL (eF 2 (.t 4)),.c (.s (.string ⟨#[]⟩))]) (.c (.s (.bool false))))) (.c (.s (.bool true))) (.pick (.op (.un .not (.t 0)) [eL (eF 2 (.t 6))]) (.op (.bin .neq (.t 0) (.c (.s (.string ⟨#[]⟩)))) [eL (eF 3 (.t 4)),.c (.s (.string ⟨#[]⟩))]) (.c (.s (.bool false))))) (.c (.s (.bool true))) (.pick (.op (.un .not (.t 0)) [eL (eF 3 (.t 6))]) (.op (.bin .neq (.t 0) (.c (.s (.int .i64 0)))) [eL (eF 4 (.t 4)),.c (.s (.int .i64 0))]) (.c (.s (.bool false))))) (.c (.s (.bool true))) (.pick (.op (.un .not (.t 0)) [eL (eF 4 (.t 6))]) (.op (.bin .neq (.t 0) (.c (.s (.string ⟨#[]⟩)))) [eL (eF 5 (.t 4)),.c (.s (.string ⟨#[]⟩))]) (.c (.s (.bool false))))) (.c (.s (.bool true))) (.pick (.op (.un .not (.t 0)) [eL (eF 5 (.t 6))]) (.op (.bin .gtr (.t 0) (.c (.s (.int .i64 0)))) [.op (.lenS .s (.t 0)) [eL (eF 6 (.t 4))],.c (.s (.int .i64 0))]) (.c (.s (.bool false))))) (.c (.s (.bool true))) (.pick (.op (.un .not (.t 0)) [eL (eF 6 (.t 6))]) (.op (.bin .gtr (.t 0) (.c (.s (.int .i64 0)))) [.op (.lenS .s (.t 0)) [eL (eF 7 (.t 4))],.c (.s (.int .i64 0))]) (.c (.s (.bool false)))))] [.tt 7,sb [0,0,0,0,0,0,0],sb [0,0,0,0,0,0,0],.sub 0 [0,0,0,0,0,0,2,0,0,0] [20],.sub 0 [0,0,0,0,0,0,2,0,0] [20],.sub 0 [0,0,0,0,0,0,2,0] [20],.sub 0 [0,0,0,0,0,0,2,0] [20],.sub 0 [0,0,0,0,0,0,2,1,0,0] [20,24],.sub 0 [0,0,0,0,0,0,2,1,0] [20,24],.sub 0 [0,0,0,0,0,0,2,1] [20,24],.sub 0 [0,0,0,0,0,0,2] [20],sb [0,0,0,0,0,0],sb [0,0,0,0,0,0],.sub 0 [0,0,0,0,0,2,0,0,0] [30],.sub 0 [0,0,0,0,0,2,0,0] [30],.sub 0 [0,0,0,0,0,2,0] [30],.sub 0 [0,0,0,0,0,2,0] [30],.sub 0 [0,0,0,0,0,2,1,0,0] [30,34],.sub 0 [0,0,0,0,0,2,1,0] [30,34],.sub 0 [0,0,0,0,0,2,1] [30,34],.sub 0 [0,0,0,0,0,2] [30],sb [0,0,0,0,0],sb [0,0,0,0,0],.sub 0 [0,0,0,0,2,0,0,0] [40],.sub 0 [0,0,0,0,2,0,0] [40],.sub 0 [0,0,0,0,2,0] [40],.sub 0 [0,0,0,0,2,0] [40],.sub 0 [0,0,0,0,2,1,0,0] [40,44],.sub 0 [0,0,0,0,2,1,0] [40,44],.sub 0 [0,0,0,0,2,1] [40,44],.sub 0 [0,0,0,0,2] [40],sb [0,0,0,0],sb [0,0,0,0],.sub 0 [0,0,0,2,0,0,0] [50],.sub 0 [0,0,0,2,0,0] [50],.sub 0 [0,0,0,2,0] [50],.sub 0 [0,0,0,2,0] [50],.sub 0 [0,0,0,2,1,0,0] [50,54],.sub 0 [0,0,0,2,1,0] [50,54],.sub 0 [0,0,0,2,1] [50,54],.sub 0 [0,0,0,2] [50],sb [0,0,0],sb [0,0,0],.sub 0 [0,0,2,0,0,0] [60],.sub 0 [0,0,2,0,0] [60],.sub 0 [0,0,2,0] [60],.sub 0 [0,0,2,0] [60],.sub 0 [0,0,2,1,0,0] [60,64],.sub 0 [0,0,2,1,0] [60,64],.sub 0 [0,0,2,1] [60,64],.sub 0 [0,0,2] [60],sb [0,0],sb [0,0],.sub 0 [0,2,0,0,0] [70],.sub 0 [0,2,0,0] [70],.sub 0 [0,2,0] [70],.sub 0 [0,2,0] [70],.sub 0 [0,2,1,0,0,0] [70,74],.sub 0 [0,2,1,0,0] [70,74],.sub 0 [0,2,1,0] [70,74],.sub 0 [0,2,1] [70,74],.sub 0 [0,2] [70],sb [0],sb [0],.sub 0 [2,0,0,0] [81],.sub 0 [2,0,0] [81],.sub 0 [2,0] [81],.sub 0 [2,0] [81],.sub 0 [2,1,0,0,0] [81,85],.sub 0 [2,1,0,0] [81,85],.sub 0 [2,1,0] [81,85],.sub 0 [2,1] [81,85],.sub 0 [2] [81],sb []]) (ai (hT R104_3 [4,6,91] [5] 6 [] [(5,.c (.s (.bool true)))] [.cc (.s (.bool true))]) (ai (hU R104_4 [91,92,93,94,95,96,97,98] [99] [6,91,92,93,94,95,96,97,98,99,100,101,102,103,104,105,106,107,108,109,110,111,112,113,114,115,116,117,118,119,120,121,122,123,124,125,126,127,128,129,130,131,132,133,134,135] 100 [] [(99,.pick (eL (eF 0 (.t 6))) (.op (.bin .eql (.t 0) (.c (.s (.string ⟨#[]⟩)))) [eL (eF 1 (.t 4)),.c (.s (.string ⟨#[]⟩))]) (.c (.s (.bool false))))] [sb [0,0],sb [0],sb [0],.sub 0 [1,0,0] [94],.sub 0 [1,0] [94],.sub 0 [1] [94],sb [],sb []]) (ai (hP R104_4t1 [] [6,91,92,93,94,95,96,97,98,99,100,101,102,103,104,105,106,107,108,109,110,111,112,113,114,115,116,117,118,119,120,121,122,123,124,125,126,127,128,129,130,131,132,133,134,135]) (ai (hP R104_4t2 [100] [6,91,92,93,94,95,96,97,98,99,100,101,102,103,104,105,106,107,108,109,110,111,112,113,114,115,116,117,118,119,120,121,122,123,124,125,126,127,128,129,130,131,132,133,134,135]) (ai (hP R104_4t3 [101] [6,91,92,93,94,95,96,97,98,99,100,101,102,103,104,105,106,107,108,109,110,111,112,113,114,115,116,117,118,119,120,121,122,123,124,125,126,127,128,129,130,131,132,133,134,135]) (ai (hV R104_4t4 [6,91,92,93,94,95,96,97,98,99,100,101,102,103,104,105,106,107,108,109,110,111,112,113,114,115,116,117,118,119,120,121,122,123,124,125,126,127,128,129,130,131,132,133,134,135] [136] 137 [] [(136,.pick (.pick (.pick (.pick (.t 99) (.op (.un .not (.t 0)) [.t 102]) (.c (.s (.bool false)))) (.c (.s (.bool true))) (.pick (.pick (eL (eF 1 (.t 6))) (.op (.bin .eql (.t 0) (.c (.s (.string ⟨#[]⟩)))) [eL (eF 2 (.t 4)),.c (.s (.string ⟨#[]⟩))]) (.c (.s (.bool false)))) (.op (.bin .neq (.t 0) (.c (.s (.int .u8 14)))) [eL (eF 0 (.t 4)),.c (.s (.int .u8 14))]) (.c (.s (.bool false))))) (.c (.s (.bool true))) (.pick (eL (eF 2 (.t 6))) (.op (.bin .eql (.t 0) (.c (.s (.string ⟨#[]⟩)))) [eL (eF 3 (.t 4)),.c (.s (.string ⟨#[]⟩))]) (.c (.s (.bool false))))) (.c (.s (.bool true))) (.pick (eL (eF 4 (.t 6))) (.op (.bin .eql (.t 0) (.c (.s (.string ⟨#[]⟩)))) [eL (eF 5 (.t 4)),.c (.s (.string ⟨#[]⟩))]) (.c (.s (.bool false)))))] [.sub 0 [0,0,0,1] [99],sb [0,0,0],sb [0,0,0],.sub 0 [0,0,2,0,0,0] [105],.sub 0 [0,0,2,0,0] [105],.sub 0 [0,0,2,0,0] [105],.sub 0 [0,0,2,0,1,0,0] [105,108],.sub 0 [0,0,2,0,1,0] [105,108],.sub 0 [0,0,2,0,1] [105,108],.sub 0 [0,0,2,0] [105],.sub 0 [0,0,2,0] [105],.sub 0 [0,0,2,1,0,0] [105,113],.sub 0 [0,0,2,1,0] [105,113],.sub 0 [0,0,2,1] [105,113],.sub 0 [0,0,2] [105],sb [0,0],sb [0,0],.sub 0 [0,2,0,0] [119],.sub 0 [0,2,0] [119],.sub 0 [0,2,0] [119],.sub 0 [0,2,1,0,0] [119,122],.sub 0 [0,2,1,0] [119,122],.sub 0 [0,2,1] [119,122],.sub 0 [0,2] [119],sb [0],sb [0],.sub 0 [2,0,0] [128],.sub 0 [2,0] [128],.sub 0 [2,0] [128],.sub 0 [2,1,0,0] [128,131],.sub 0 [2,1,0] [128,131],.sub 0 [2,1] [128,131],.sub 0 [2] [128],sb []]) (ai (hT R104_5 [4,136] [5] 6 [] [(5,.c (.s (.bool true)))] [.cc (.s (.bool true))]) (ai (hT R104_6 [136,137] [138] 139 [] [(138,eL (eF 0 (.t 4)))] [sb [0],sb []]) (ai (hT R104_7 [140] [139] 141 [] [(139,.op (.bin .eql (.t 0) (.c (.s (.int .u8 1)))) [.t 138,.c (.s (.int .u8 1))])] [sb [],sb []]) (ai (hT R104_8 [141] [139] 142 [] [(139,.op (.bin .eql (.t 0) (.c (.s (.int .u8 2)))) [.t 138,.c (.s (.int .u8 2))])] [sb [],sb []]) (ai (hT R104_9 [4,138,139,142,143,144,145,146,147,148,149] [5] 150 [] [(5,.pick (.op (.bin .lss (.t 0) (.c (.s (.int .i64 1)))) [eL (eF 4 (.t 4)),.c (.s (.int .i64 1))]) (.c (.s (.bool true))) (.op (.bin .gtr (.t 0) (.c (.s (.int .i64 64)))) [eL (eF 4 (.t 4)),.c (.s (.int .i64 64))]))] [sb [0,0,0],sb [0,0],sb [0],sb [0],.sub 0 [2,0,0] [145],.sub 0 [2,0] [145],.sub 0 [2] [145],sb [],sb []]) (ai (hT R104_10 [139,151] [150] 152 [] [(150,.op (.bin .eql (.t 0) (.c (.s (.int .u8 7)))) [.t 138,.c (.s (.int .u8 7))])] [sb [],sb []]) (ai (hT R104_11 [4,138,150,152,153,154,155,156,157,158,159] [5] 160 [] [(5,.pick (.op (.bin .lss (.t 0) (.c (.s (.int .i64 0)))) [eL (eF 4 (.t 4)),.c (.s (.int .i64 0))]) (.c (.s (.bool true))) (.op (.bin .geq (.t 0) (.c (.s (.int .i64 64)))) [eL (eF 4 (.t 4)),.c (.s (.int .i64 64))]))] [sb [0,0,0],sb [0,0],sb [0],sb [0],.sub 0 [2,0,0] [155],.sub 0 [2,0] [155],.sub 0 [2] [155],sb [],sb []]) (ai (hT R104_12 [150,161] [160] 162 [] [(160,.op (.bin .eql (.t 0) (.c (.s (.int .u8 6)))) [.t 138,.c (.s (.int .u8 6))])] [sb [],sb []]) (ai (hT R104_13 [4,138,160,162,163,164,165,166,167,168,169,170,171,172,173,174] [5] 175 [] [(5,.pick (.op (.bin .eql (.t 0) (.c (.s (.int .i64 0)))) [.op (.lenS .s (.t 0)) [eL (eF 6 (.t 4))],.c (.s (.int .i64 0))]) (.c (.s (.bool true))) (.op (.bin .neq (.t 0) (.t 1)) [.op (.lenS .s (.t 0)) [eL (eF 6 (.t 4))],.op (.lenS .s (.t 0)) [eL (eF 7 (.t 4))]]))] [sb [0,0,0,0],sb [0,0,0],sb [0,0],sb [0],sb [0],.sub 0 [2,0,0,0] [166],.sub 0 [2,0,0] [166],.sub 0 [2,0] [166],.sub 0 [2,1,0,0] [166],.sub 0 [2,1,0] [166],.sub 0 [2,1] [166],.sub 0 [2] [166],sb [],sb []]) (ai (hT R104_14 [160,176] [175] 177 [] [(175,.op (.bin .eql (.t 0) (.c (.s (.int .u8 12)))) [.t 138,.c (.s (.int .u8 12))])] [sb [],sb []]) (ai (hT R104_15 [4,138,175,177,178,179,180] [5] 181 [] [(5,.op (.bin .neq (.t 0) (.c (.s (.int .i64 2)))) [.op (.lenS .s (.t 0)) [eL (eF 7 (.t 4))],.c (.s (.int .i64 2))])] [sb [0,0,0],sb [0,0],sb [0],sb [],sb []]) (ai (hT R104_16 [138,175,182] [181] 183 [] [(181,.op (.bin .eql (.t 0) (.c (.s (.int .u8 13)))) [.t 138,.c (.s (.int .u8 13))])] [sb [],sb []]) (ai (hT R104_17 [4,181,183,184,185,186] [5] 187 [] [(5,.op (.bin .neq (.t 0) (.c (.s (.int .i64 1)))) [.op (.lenS .s (.t 0)) [eL (eF 7 (.t 4))],.c (.s (.int .i64 1))])] [sb [0,0,0],sb [0,0],sb [0],sb [],sb []]) ((hT R104_18 [4,181] [5] 6 [] [(5,.c (.s (.bool false)))] [.cc (.s (.bool false))]))))))))))))))))))))))))))))))))))))))))
def att:=ai (hT R135_0 K135_0 [] 5 [] [] [.cc (.s (.int .i64 0))]) (ai aro (ai (hK K135_0 0) (ai (hK K135_0 1) (ai (hT R135_1 [6] [7,8] 9 [] [(7,.op (.lenS .s (.t 0)) [.t 0]),(8,.c (.s (.int .i64 0)))] [.tt 0,sb [],.cc (.s (.int .i64 0))]) (ai (hT R135_2 [] [9] 10 [] [(9,.op (.bin .lss (.t 0) (.t 1)) [.t 8,.t 7])] [sb []]) (ai (hT R135_3 [9,10] [5] 11 [] [(5,.t 8)] [.tt 8,.tt 8]) (ai (hU R135_4 [12,13,14] [11,15] [11,12,13,14,15] 16 [] [(11,.t 1),(15,eL (.op (.indexAddr 1 (.t 0) (.t 1)) [.t 0,.t 5]))] [.tt 1,.tt 0,.tt 5,.sub 1 [0] [],.sub 1 [] []]) (ai (hX R135_4t1 [11,12,13,14,15]) (ai (hT R135_5 [0,1,5,7,8,16,17] [4] 18 [] [(4,.t 5)] [.tt 5,.tt 5]) (ai (hT R135_6 [5,16,18] [8] 19 [] [(8,.op (.bin .add (.t 0) (.c (.s (.int .i64 1)))) [.t 8,.c (.s (.int .i64 1))])] [sb [],sb []]) (ai (hE ab7 age) (ai (hT R135_7 [0,1,7,8,9] [4] 5 [] [(4,.c (.s (.int .i64 (-1))))] [.cc (.s (.int .i64 (-1)))]) (age.eq_1)))))))))))))
def ax4:=ai (hT R136_0 K136_0 [] 4 [] [] [.cc (.s (.bool false))]) (ai arn (ai (hK K136_0 0) (ai (hK K136_0 1) (ai (hU R136_1 [4,5] [6] [0,1,4,5,6,7,8,9,10,11,12,13,14,15,16,17,18] 7 [] [(6,.op (.bin .neq (.t 0) (.c (.s (.string ⟨#[]⟩)))) [.t 0,.c (.s (.string ⟨#[]⟩))])] [.tt 0,sb [],sb []]) (ai (hP R136_1t1 [] [0,1,4,5,6,7,8,9,10,11,12,13,14,15,16,17,18]) (ai (hP R136_1t2 [7] [0,1,4,5,6,7,8,9,10,11,12,13,14,15,16,17,18]) ((hV R136_1t3 [0,1,4,5,6,7,8,9,10,11,12,13,14,15,16,17,18] [3] 19 [] [(3,.pick (.pick (.t 6) (.op (.un .not (.t 0)) [.t 8]) (.c (.s (.bool false)))) (.op (.un .not (.t 0)) [.pick (eL (.t 1)) (.op (.bin .eql (.t 0) (.c (.s (.string ⟨#[110,117,108,108]⟩)))) [.t 0,.c (.s (.string ⟨#[110,117,108,108]⟩))]) (.c (.s (.bool false)))]) (.c (.s (.bool false))))] [.sub 0 [0,1] [6],sb [0],sb [0],.sub 0 [1,0,0] [11],.sub 0 [1,0,0] [11],.sub 0 [1,0,1,0] [11,13],.sub 0 [1,0,1] [11,13],.sub 0 [1,0] [11],.sub 0 [1] [11],sb [],sb []]))))))))
def atr:=ai (hT R137_0 K137_0 [] 5 [] [] [.cc (.s (.int .i64 0))]) (ai arl (ai (hK K137_0 0) (ai (hK K137_0 1) (ai (hT R137_1 [6] [7,8] 9 [] [(7,.op (.lenS .s (.t 0)) [.t 0]),(8,.c (.s (.int .i64 0)))] [.tt 0,sb [],.cc (.s (.int .i64 0))]) (ai (hT R137_2 [] [9] 10 [] [(9,.op (.bin .lss (.t 0) (.t 1)) [.t 8,.t 7])] [sb []]) (ai (hT R137_3 [9,10] [5] 11 [] [(5,.t 8)] [.tt 8,.tt 8]) (ai (hT R137_4 [11,12,13,14,15] [16] 17 [] [(16,.op (.bin .eql (.t 0) (.t 1)) [.t 1,eL (.op (.indexAddr 1 (.t 0) (.t 1)) [.t 0,.t 5])])] [.tt 1,.tt 0,.tt 5,sb [1,0],sb [1],sb []]) (ai (hT R137_5 [0,1,5,7,8,16,17] [4] 18 [] [(4,.t 5)] [.tt 5,.tt 5]) (ai (hT R137_6 [5,16,18] [8] 19 [] [(8,.op (.bin .add (.t 0) (.c (.s (.int .i64 1)))) [.t 8,.c (.s (.int .i64 1))])] [sb [],sb []]) (ai (hE ab6 agd) (ai (hT R137_7 [0,1,7,8,9] [4] 5 [] [(4,.c (.s (.int .i64 (-1))))] [.cc (.s (.int .i64 (-1)))]) (agd.eq_1))))))))))))
def biy:=ai (hP R140_0 [0,2,3] K140_0) (ai (hV R140_0t1 K140_0 [] 3 [] [] [.cc (.s .nilFunc)]) (ai (hQ K140_0 0) (ai (hK K140_0 1) (ai (hQ K140_0 2) ((hT R140_1 [1,3] [2] 4 [] [(2,.op (.mkFn 168 [] [.t 0]) [.t 1])] [sb [],sb []]))))))
def afa:=ai (hT R168_0 K168_0 [13,14,15] 16 [] [(13,eL (eF 0 (eF 0 (.op (.nilCheck (.t 0)) [eL (.t 1)])))),(14,.op (.lenS .s (.t 0)) [eL (eF 0 (eF 0 (.op (.nilCheck (.t 0)) [eL (.t 1)])))]),(15,.c (.s (.int .i64 0)))] [sb [0,0,0,0],sb [0,0,0],sb [0,0],sb [0],sb [],.sub 1 [] [],.cc (.s (.int .i64 0))]) (ai ard (ai (hK K168_0 0) (ai (hQ K168_0 1) (ai (hT R168_1 [] [16] 17 [] [(16,.op (.bin .lss (.t 0) (.t 1)) [.t 15,.t 14])] [sb []]) (ai (hU R168_2 [16,18] [17,19] [16,17,18,19] 20 [] [(17,.t 15),(19,.op (.load true 3 (.t 0)) [.op (.indexAddr 3 (.t 0) (.t 1)) [.t 13,.t 15]])] [.tt 15,.sub 1 [0] [],.sub 1 [] []]) (ai (hP R168_2t1 [] [16,17,18,19]) (ai (hU R168_2t2 [17] [3] [16,17,18,19] 4 [] [(3,.t 17)] [.tt 17]) (ai (hX R168_2t3 [16,17,18,19]) (ai (hT R168_3 [4,20] [21,22,23] 24 [] [(21,eL (eF 2 (.t 4))),(22,.op (.lenS .s (.t 0)) [eL (eF 2 (.t 4))]),(23,.c (.s (.int .i64 0)))] [sb [0],sb [],.sub 1 [] [],.cc (.s (.int .i64 0))]) (ai (hT R168_4 [] [24] 25 [] [(24,.op (.bin .lss (.t 0) (.t 1)) [.t 23,.t 22])] [sb []]) (ai (hU R168_5 [24,26] [25,27] [24,25,26,27] 28 [] [(25,.t 23),(27,.op (.load true 2 (.t 0)) [.op (.indexAddr 2 (.t 0) (.t 1)) [.t 21,.t 23]])] [.tt 23,.sub 1 [0] [],.sub 1 [] []]) (ai (hP R168_5t1 [] [24,25,26,27]) (ai (hU R168_5t2 [25] [5] [24,25,26,27] 6 [] [(5,.t 25)] [.tt 25]) (ai (hX R168_5t3 [24,25,26,27]) (ai (hT R168_6 [6,28] [29,30,31] 32 [] [(29,eL (eF 1 (.t 6))),(30,.op (.lenS .s (.t 0)) [eL (eF 1 (.t 6))]),(31,.c (.s (.int .i64 0)))] [sb [0],sb [],.sub 1 [] [],.cc (.s (.int .i64 0))]) (ai (hT R168_7 [] [32] 33 [] [(32,.op (.bin .lss (.t 0) (.t 1)) [.t 31,.t 30])] [sb []]) (ai (hU R168_8 [32,34] [33,35] [32,33,34,35] 36 [] [(33,.t 31),(35,.op (.load true 8 (.t 0)) [.op (.indexAddr 8 (.t 0) (.t 1)) [.t 29,.t 31]])] [.tt 31,.sub 1 [0] [],.sub 1 [] []]) (ai (hP R168_8t1 [] [32,33,34,35]) (ai (hU R168_8t2 [33] [7] [32,33,34,35] 8 [] [(7,.t 33)] [.tt 33]) (ai (hX R168_8t3 [32,33,34,35]) (ai (hU R168_9 [7,8,37,38,39] [36,40,41] [7,8,36,37,38,39,40,41,42] 42 [] [(36,.t 0),(40,.op (.build [.s (.int .i64 0),.s (.int .i64 0),.s (.int .i64 0)] [(0,1),(1,1),(2,1)] [(0,.t 0),(1,.t 1),(2,.t 2)]) [.t 3,.t 5,.t 7]),(41,.op (.load true 8 (.t 0)) [.t 8])] [.tt 0,.tt 3,.tt 5,.tt 7,.sub 1 [] [],.sub 2 [] []]) (ai (hP R168_9t1 [36,40,41] [7,8,36,37,38,39,40,41,42]) (ai (hV R168_9t2 [7,8,36,37,38,39,40,41,42] [43] 44 [] [(43,.op (.un .not (.t 0)) [.t 42])] [sb []]) (ai (hT R168_10 [43,44] [31] 45 [] [(31,.op (.bin .add (.t 0) (.c (.s (.int .i64 1)))) [.t 31,.c (.s (.int .i64 1))])] [sb [],sb []]) (ai (hE aeq aga) (ai (hT R168_11 [5,29,30,31,32,45] [23] 46 [] [(23,.op (.bin .add (.t 0) (.c (.s (.int .i64 1)))) [.t 23,.c (.s (.int .i64 1))])] [sb [],sb []]) (ai (hE aep af9) (ai (hT R168_12 [3,21,22,23,24,46] [15] 47 [] [(15,.op (.bin .add (.t 0) (.c (.s (.int .i64 1)))) [.t 15,.c (.s (.int .i64 1))])] [sb [],sb []]) (ai (hE aeo af8) (ai af9.eq_1 (ai af8.eq_1 (aga.eq_1))))))))))))))))))))))))))))))))
theorem bj8:qi Tryz.prog PX0 92=some (false,ajw.ntmps,ajw.results,ajw.body.bare):=by kernel_rfl
theorem SA1_7:qi Tryz.prog PX0 7=some (false,axb.ntmps,axb.results,axb.body.bare):=by kernel_rfl
theorem bka:qi Tryz.prog PX0 15=some (false,ag8.ntmps,ag8.results,ag8.body.bare):=by kernel_rfl
theorem bj9:qi Tryz.prog PX0 35=some (false,apq.ntmps,apq.results,apq.body.bare):=by kernel_rfl
theorem bj7:qi Tryz.prog PX0 93=some (false,ani.ntmps,ani.results,ani.body.bare):=by kernel_rfl
theorem bj6:qi Tryz.prog PX0 94=some (false,ak9.ntmps,ak9.results,ak9.body.bare):=by kernel_rfl
theorem bj5:qi Tryz.prog PX0 95=some (false,anh.ntmps,anh.results,anh.body.bare):=by kernel_rfl
theorem bj4:qi Tryz.prog PX0 96=some (false,apm.ntmps,apm.results,apm.body.bare):=by kernel_rfl
theorem bfe:qi Tryz.prog PX0 100=some (false,aet.ntmps,aet.results,aet.body.bare):=by kernel_rfl
theorem bfd:qi Tryz.prog PX0 102=some (false,aes.ntmps,aes.results,aes.body.bare):=by kernel_rfl
theorem bfc:qi Tryz.prog PX0 104=some (false,aec.ntmps,aec.results,aec.body.bare):=by kernel_rfl
theorem bfb:qi Tryz.prog PX0 135=some (false,acn.ntmps,acn.results,acn.body.bare):=by kernel_rfl
theorem bfa:qi Tryz.prog PX0 136=some (false,ade.ntmps,ade.results,ade.body.bare):=by kernel_rfl
theorem be9:qi Tryz.prog PX0 137=some (false,aer.ntmps,aer.results,aer.body.bare):=by kernel_rfl
theorem be8:qi Tryz.prog PX0 140=some (false,ahc.ntmps,ahc.results,ahc.body.bare):=by kernel_rfl
theorem be7:qi Tryz.prog PX0 168=some (false,aeb.ntmps,aeb.results,aeb.body.bare):=by kernel_rfl
abbrev a2r:Nat:=16
def K16_0:List Nat:=[0,3] ++ List.range' 5 50
def R16_0t2:LO:=[q 5 (.move (.c (.s (.bool false))))]
def R16_0t1:LO:=⟨some 4,.alloc [.s (.int .i64 0),.s (.int .i64 0),.s (.int .i64 0)],none⟩ :: R16_0t2
def R16_0p0:LO:=[⟨some 2,.box (.t 0),none⟩]
def R16_0:LO:=R16_0p0 ++ R16_0t1
def K16_0p0:List Nat:=[0] ++ List.range' 3 52
theorem X16_0 (call:ni) (it:zt) (base:Nat) (f:List V) (H:Heap):evC call it base (.region R16_0 [] K16_0) f H=abl call it base (.region R16_0t1 [] K16_0) (akk [] R16_0p0 K16_0p0 (mi call base [⟨some 2,.box (.t 0),none⟩] f H)):=(abu call it base R16_0p0 R16_0t1 (kc:=K16_0p0) (by kernel_rfl) f H).trans (by rw [zh];rfl)
def R16_1t4:LO:=[oM 6 11]
def R16_1t3:LO:=⟨some 11,.box (.t 10),none⟩ :: R16_1t4
def R16_1p2:LO:=[q 10 (.build [.s (.slice none 0 0),.s (.map none)] [(0,1),(1,1)] [(0,.t 8),(1,.t 9)])]
def R16_1t2:LO:=R16_1p2 ++ R16_1t3
def R16_1t1:LO:=⟨some 9,.callR (.c (.fn 35 [] [])) [],none⟩ :: R16_1t2
def R16_1p0:LO:=[q 8 (.load true 1 (.t 2))]
def R16_1:LO:=R16_1p0 ++ R16_1t1
def R16_2t33:LO:=[oM 45 12,oM 46 1,q 47 (.mapGet (.int .u8) (.s .nilFunc) (.t 45) (.t 46) false),oM 7 47]
def R16_2t32:LO:=⟨none,.mapUpd (.int .u8) (.t 12) (.c (.s (.int .u8 16))) (.t 44),none⟩ :: R16_2t33
def R16_2p31:LO:=[oM 43 6,q 44 (.mkFn 51 [.t 43] [])]
def R16_2t31:LO:=R16_2p31 ++ R16_2t32
def R16_2t30:LO:=⟨none,.mapUpd (.int .u8) (.t 12) (.c (.s (.int .u8 15))) (.t 42),none⟩ :: R16_2t31
def R16_2p29:LO:=[oM 41 6,q 42 (.mkFn 50 [.t 41] [])]
def R16_2t29:LO:=R16_2p29 ++ R16_2t30
def R16_2t28:LO:=⟨none,.mapUpd (.int .u8) (.t 12) (.c (.s (.int .u8 14))) (.t 40),none⟩ :: R16_2t29
def R16_2p27:LO:=[oM 39 6,q 40 (.mkFn 49 [.t 39] [])]
def R16_2t27:LO:=R16_2p27 ++ R16_2t28
def R16_2t26:LO:=⟨none,.mapUpd (.int .u8) (.t 12) (.c (.s (.int .u8 13))) (.t 38),none⟩ :: R16_2t27
def R16_2p25:LO:=[oM 37 6,q 38 (.mkFn 48 [.t 37] [])]
def R16_2t25:LO:=R16_2p25 ++ R16_2t26
def R16_2t24:LO:=⟨none,.mapUpd (.int .u8) (.t 12) (.c (.s (.int .u8 12))) (.t 36),none⟩ :: R16_2t25
def R16_2p23:LO:=[oM 35 6,q 36 (.mkFn 47 [.t 35] [])]
def R16_2t23:LO:=R16_2p23 ++ R16_2t24
def R16_2t22:LO:=⟨none,.mapUpd (.int .u8) (.t 12) (.c (.s (.int .u8 11))) (.t 34),none⟩ :: R16_2t23
def R16_2p21:LO:=[oM 33 6,q 34 (.mkFn 46 [.t 33] [])]
def R16_2t21:LO:=R16_2p21 ++ R16_2t22
def R16_2t20:LO:=⟨none,.mapUpd (.int .u8) (.t 12) (.c (.s (.int .u8 10))) (.t 32),none⟩ :: R16_2t21
def R16_2p19:LO:=[oM 31 6,q 32 (.mkFn 45 [.t 31] [])]
def R16_2t19:LO:=R16_2p19 ++ R16_2t20
def R16_2t18:LO:=⟨none,.mapUpd (.int .u8) (.t 12) (.c (.s (.int .u8 9))) (.t 30),none⟩ :: R16_2t19
def R16_2p17:LO:=[oM 29 6,q 30 (.mkFn 44 [.t 29] [])]
def R16_2t17:LO:=R16_2p17 ++ R16_2t18
def R16_2t16:LO:=⟨none,.mapUpd (.int .u8) (.t 12) (.c (.s (.int .u8 8))) (.t 28),none⟩ :: R16_2t17
def R16_2p15:LO:=[oM 27 6,q 28 (.mkFn 43 [.t 27] [])]
def R16_2t15:LO:=R16_2p15 ++ R16_2t16
def R16_2t14:LO:=⟨none,.mapUpd (.int .u8) (.t 12) (.c (.s (.int .u8 7))) (.t 26),none⟩ :: R16_2t15
def R16_2p13:LO:=[oM 25 6,q 26 (.mkFn 42 [.t 25] [])]
def R16_2t13:LO:=R16_2p13 ++ R16_2t14
def R16_2t12:LO:=⟨none,.mapUpd (.int .u8) (.t 12) (.c (.s (.int .u8 6))) (.t 24),none⟩ :: R16_2t13
def R16_2p11:LO:=[oM 23 6,q 24 (.mkFn 41 [.t 23] [])]
def R16_2t11:LO:=R16_2p11 ++ R16_2t12
def R16_2t10:LO:=⟨none,.mapUpd (.int .u8) (.t 12) (.c (.s (.int .u8 5))) (.t 22),none⟩ :: R16_2t11
def R16_2p9:LO:=[oM 21 6,q 22 (.mkFn 40 [.t 21] [])]
def R16_2t9:LO:=R16_2p9 ++ R16_2t10
def R16_2t8:LO:=⟨none,.mapUpd (.int .u8) (.t 12) (.c (.s (.int .u8 4))) (.t 20),none⟩ :: R16_2t9
def R16_2p7:LO:=[oM 19 6,q 20 (.mkFn 39 [.t 19] [])]
def R16_2t7:LO:=R16_2p7 ++ R16_2t8
def R16_2t6:LO:=⟨none,.mapUpd (.int .u8) (.t 12) (.c (.s (.int .u8 3))) (.t 18),none⟩ :: R16_2t7
def R16_2p5:LO:=[oM 17 6,q 18 (.mkFn 38 [.t 17] [])]
def R16_2t5:LO:=R16_2p5 ++ R16_2t6
def R16_2t4:LO:=⟨none,.mapUpd (.int .u8) (.t 12) (.c (.s (.int .u8 2))) (.t 16),none⟩ :: R16_2t5
def R16_2p3:LO:=[oM 15 6,q 16 (.mkFn 37 [.t 15] [])]
def R16_2t3:LO:=R16_2p3 ++ R16_2t4
def R16_2t2:LO:=⟨none,.mapUpd (.int .u8) (.t 12) (.c (.s (.int .u8 1))) (.t 14),none⟩ :: R16_2t3
def R16_2p1:LO:=[oM 13 6,q 14 (.mkFn 36 [.t 13] [])]
def R16_2t1:LO:=R16_2p1 ++ R16_2t2
def R16_2:LO:=⟨some 12,.mapNew,none⟩ :: R16_2t1
def R16_3:LO:=[oM 48 7,q 49 (.eqNil .f false (.t 48))]
def R16_4t2:LO:=[q 5 (.move (.c (.s (.bool false))))]
def R16_4t1:LO:=⟨none,.store 3 (.t 4) (.t 50),none⟩ :: R16_4t2
def R16_4p0:LO:=[q 50 (.build [.s (.int .i64 0),.s (.int .i64 0),.s (.int .i64 0)] [(0,1),(1,1),(2,1)] [])]
def R16_4:LO:=R16_4p0 ++ R16_4t1
def R16_5t4:LO:=[oM 5 54]
def R16_5t3:LO:=⟨none,.store 3 (.t 4) (.t 53),none⟩ :: R16_5t4
def R16_5p2:LO:=[q 53 (.extract (.t 52) 0),q 54 (.extract (.t 52) 1)]
def R16_5t2:LO:=R16_5p2 ++ R16_5t3
def R16_5t1:LO:=⟨some 52,.call (.t 51) [],none⟩ :: R16_5t2
def R16_5p0:LO:=[oM 51 7]
def R16_5:LO:=R16_5p0 ++ R16_5t1
def ag7:ACFun:={ ntmps:=55,results:=[.cell 4 true 3,.tmp 5],body:=
 (.seq (.region R16_0 [] K16_0)
 (.seq (.region R16_1 [] [2,8,9,10,11])
 (.seq (.region R16_2 [] [1,6,12,13,14,15,16,17,18,19,20,21,22,23,24,25,26,27,28,29,30,31,32,33,34,35,36,37,38,39,40,41,42,43,44,45,46,47])
 (.seq (.seq (.regionE R16_3 [48] [49])
 (.cond (.t 49)
 (.seq (.region R16_4 [] [7,49,50])
 .ret)
 .skip))
 (.seq (.region R16_5 [] [7,49,51,52,53,54])
 .ret))))) }
theorem alp:l9 (List.range' 2 (ag7.ntmps - 2)) ag7.body=true:=by kernel_rfl
abbrev bdn:Nat:=37
def K37_0:List Nat:=[1] ++ List.range' 3 137
def A37_0_0:=hK K37_0 0
def A37_0_2:=hK K37_0 2
def A37_0_3:=hQ K37_0 3
def R37_0t1:LO:=[q 3 (.move (.c (.s (.bool false))))]
def R37_0p0:LO:=[⟨some 2,.alloc [.s (.int .i64 0),.s (.int .i64 0),.s (.int .i64 0)],none⟩]
def R37_0:LO:=R37_0p0 ++ R37_0t1
def K37_0p0:List Nat:=[1] ++ List.range' 3 137
def A37_0p0_0:=hK K37_0p0 0
def A37_0p0_2:=hK K37_0p0 2
def A37_0p0_3:=hQ K37_0p0 3
theorem X37_0 (call:ni) (it:zt) (base:Nat) (f:List V) (H:Heap):evC call it base (.region R37_0 [] K37_0) f H=abl call it base (.region R37_0t1 [] K37_0) (akk [] R37_0p0 K37_0p0 (mi call base [⟨some 2,.alloc [.s (.int .i64 0),.s (.int .i64 0),.s (.int .i64 0)],none⟩] f H)):=(abu call it base R37_0p0 R37_0t1 (kc:=K37_0p0) (by kernel_rfl) f H).trans (by rw [zh];rfl)
def T37_0t1:=hT R37_0t1 K37_0 [] 4 [] [] [.cc (.s (.bool false))]
def X37_0t1:=hL R37_0t1 K37_0 []
def R37_1:LO:=[oM 12 0,q 13 (.nilCheck (.t 12)),oF 14 0 13,oF 15 0 14,oL 16 15,q 17 (.lenS .s (.t 16)),q 18 (.move (.c (.s (.int .i64 0))))]
def T37_1:=hT R37_1 [12,13,14,15] [16,17,18] 19 [] [(16,eL (eF 0 (eF 0 (.op (.nilCheck (.t 0)) [.t 0])))),(17,.op (.lenS .s (.t 0)) [eL (eF 0 (eF 0 (.op (.nilCheck (.t 0)) [.t 0])))]),(18,.c (.s (.int .i64 0)))] [.tt 0,sb [0,0,0],sb [0,0],sb [0],sb [],.sub 1 [] [],.cc (.s (.int .i64 0))]
def R37_2:LO:=[q 19 (.bin .lss (.t 18) (.t 17))]
def T37_2:=hT R37_2 [] [19] 20 [] [(19,.op (.bin .lss (.t 0) (.t 1)) [.t 18,.t 17])] [sb []]
def R37_3t3:LO:=[⟨none,.store 3 (.t 5) (.t 22),none⟩]
def R37_3p2:LO:=[oM 4 20]
def R37_3t2:LO:=R37_3p2 ++ R37_3t3
def R37_3t1:LO:=⟨some 5,.alloc [.s (.string ⟨#[]⟩),.s (.slice none 0 0),.s (.slice none 0 0)],none⟩ :: R37_3t2
def R37_3p0:LO:=[oM 20 18,q 21 (.indexAddr 3 (.t 16) (.t 18)),q 22 (.load true 3 (.t 21))]
def R37_3:LO:=R37_3p0 ++ R37_3t1
def T37_3p0:=hT R37_3p0 [19,21] [20,22] 23 [] [(20,.t 18),(22,.op (.load true 3 (.t 0)) [.op (.indexAddr 3 (.t 0) (.t 1)) [.t 16,.t 18]])] [.tt 18,.sub 1 [0] [],.sub 1 [] []]
def X37_3:=hS R37_3 [19,21] [20,22] [19,20,21,22]
def X37_3t1:=hP R37_3t1 [] [19,20,21,22]
def T37_3p2:=hT R37_3p2 [20] [4] 5 [] [(4,.t 20)] [.tt 20]
def X37_3t2:=hS R37_3t2 [20] [4] [19,20,21,22]
def X37_3t3:=hX R37_3t3 [19,20,21,22]
def R37_4t6:LO:=[q 31 (.pick (.t 27) (.c (.s (.bool true))) (.t 30))]
def R37_4t5:LO:=⟨some 30,.call (.c (.fn 93 [] [])) [.t 29,.c (.fn 94 [] [])],some (27,false)⟩ :: R37_4t6
def R37_4t4:LO:=⟨some 29,.load false 1 (.t 28),some (27,false)⟩ :: R37_4t5
def R37_4t3:LO:=⟨some 28,.fieldAddr 1 (.t 5),some (27,false)⟩ :: R37_4t4
def R37_4p2:LO:=[q 26 (.un .not (.t 25)),oM 27 26]
def R37_4t2:LO:=R37_4p2 ++ R37_4t3
def R37_4t1:LO:=⟨some 25,.call (.c (.fn 92 [] [])) [.t 24],none⟩ :: R37_4t2
def R37_4p0:LO:=[oF 23 0 5,oL 24 23]
def R37_4:LO:=R37_4p0 ++ R37_4t1
def T37_4p0:=hT R37_4p0 [23] [24] 25 [] [(24,eL (eF 0 (.t 5)))] [sb [0],sb []]
def X37_4:=hS R37_4 [23] [24] [23,24,25,26,27,28,29,30]
def X37_4t1:=hP R37_4t1 [24] [23,24,25,26,27,28,29,30]
def T37_4p2:=hT R37_4p2 [25,26] [27] 28 [] [(27,.op (.un .not (.t 0)) [.t 25])] [sb [],sb []]
def X37_4t2:=hS R37_4t2 [25,26] [27] [23,24,25,26,27,28,29,30]
def X37_4t3:=hP R37_4t3 [] [23,24,25,26,27,28,29,30]
def X37_4t4:=hP R37_4t4 [28] [23,24,25,26,27,28,29,30]
def X37_4t5:=hP R37_4t5 [29] [23,24,25,26,27,28,29,30]
def T37_4t6:=hT R37_4t6 [23,24,25,26,27,28,29,30] [31] 32 [] [(31,.pick (.t 27) (.c (.s (.bool true))) (.t 30))] [sb []]
def X37_4t6:=hL R37_4t6 [23,24,25,26,27,28,29,30] [31]
def R37_5t2:LO:=[q 3 (.move (.c (.s (.bool true))))]
def R37_5t1:LO:=⟨none,.store 3 (.t 2) (.t 33),none⟩ :: R37_5t2
def R37_5p0:LO:=[oM 32 4,q 33 (.build [.s (.int .i64 0),.s (.int .i64 0),.s (.int .i64 0)] [(0,1),(1,1),(2,1)] [(0,.t 32)])]
def R37_5:LO:=R37_5p0 ++ R37_5t1
def T37_5p0:=hT R37_5p0 [0,4,5,16,17,18,31,32] [33] 34 [] [(33,.op (.build [.s (.int .i64 0),.s (.int .i64 0),.s (.int .i64 0)] [(0,1),(1,1),(2,1)] [(0,.t 0)]) [.t 4])] [.tt 4,sb []]
def X37_5:=hS R37_5 [0,4,5,16,17,18,31,32] [33] [0,4,5,16,17,18,31,32,33]
def X37_5t1:=hP R37_5t1 [33] [0,4,5,16,17,18,31,32,33]
def T37_5t2:=hT R37_5t2 [0,4,5,16,17,18,31,32,33] [3] 4 [] [(3,.c (.s (.bool true)))] [.cc (.s (.bool true))]
def X37_5t2:=hL R37_5t2 [0,4,5,16,17,18,31,32,33] [3]
def R37_6:LO:=[oF 34 2 5,oL 35 34,q 36 (.lenS .s (.t 35)),q 37 (.move (.c (.s (.int .i64 0))))]
def T37_6:=hT R37_6 [5,31,34] [35,36,37] 38 [] [(35,eL (eF 2 (.t 5))),(36,.op (.lenS .s (.t 0)) [eL (eF 2 (.t 5))]),(37,.c (.s (.int .i64 0)))] [sb [0],sb [],.sub 1 [] [],.cc (.s (.int .i64 0))]
def R37_7:LO:=[q 38 (.bin .lss (.t 37) (.t 36))]
def T37_7:=hT R37_7 [] [38] 39 [] [(38,.op (.bin .lss (.t 0) (.t 1)) [.t 37,.t 36])] [sb []]
def R37_8t3:LO:=[⟨none,.store 2 (.t 7) (.t 41),none⟩]
def R37_8p2:LO:=[oM 6 39]
def R37_8t2:LO:=R37_8p2 ++ R37_8t3
def R37_8t1:LO:=⟨some 7,.alloc [.s (.string ⟨#[]⟩),.s (.slice none 0 0)],none⟩ :: R37_8t2
def R37_8p0:LO:=[oM 39 37,q 40 (.indexAddr 2 (.t 35) (.t 37)),q 41 (.load true 2 (.t 40))]
def R37_8:LO:=R37_8p0 ++ R37_8t1
def T37_8p0:=hT R37_8p0 [38,40] [39,41] 42 [] [(39,.t 37),(41,.op (.load true 2 (.t 0)) [.op (.indexAddr 2 (.t 0) (.t 1)) [.t 35,.t 37]])] [.tt 37,.sub 1 [0] [],.sub 1 [] []]
def X37_8:=hS R37_8 [38,40] [39,41] [38,39,40,41]
def X37_8t1:=hP R37_8t1 [] [38,39,40,41]
def T37_8p2:=hT R37_8p2 [39] [6] 7 [] [(6,.t 39)] [.tt 39]
def X37_8t2:=hS R37_8t2 [39] [6] [38,39,40,41]
def X37_8t3:=hX R37_8t3 [38,39,40,41]
def R37_9t2:LO:=[q 45 (.un .not (.t 44))]
def R37_9t1:LO:=⟨some 44,.call (.c (.fn 92 [] [])) [.t 43],none⟩ :: R37_9t2
def R37_9p0:LO:=[oF 42 0 7,oL 43 42]
def R37_9:LO:=R37_9p0 ++ R37_9t1
def T37_9p0:=hT R37_9p0 [42] [43] 44 [] [(43,eL (eF 0 (.t 7)))] [sb [0],sb []]
def X37_9:=hS R37_9 [42] [43] [42,43,44]
def X37_9t1:=hP R37_9t1 [43] [42,43,44]
def T37_9t2:=hT R37_9t2 [42,43,44] [45] 46 [] [(45,.op (.un .not (.t 0)) [.t 44])] [sb []]
def X37_9t2:=hL R37_9t2 [42,43,44] [45]
def R37_10t2:LO:=[q 3 (.move (.c (.s (.bool true))))]
def R37_10t1:LO:=⟨none,.store 3 (.t 2) (.t 48),none⟩ :: R37_10t2
def R37_10p0:LO:=[oM 46 4,oM 47 6,q 48 (.build [.s (.int .i64 0),.s (.int .i64 0),.s (.int .i64 0)] [(0,1),(1,1),(2,1)] [(0,.t 46),(1,.t 47)])]
def R37_10:LO:=R37_10p0 ++ R37_10t1
def T37_10p0:=hT R37_10p0 [0,4,6,7,16,17,18,35,36,37,45,46,47] [48] 49 [] [(48,.op (.build [.s (.int .i64 0),.s (.int .i64 0),.s (.int .i64 0)] [(0,1),(1,1),(2,1)] [(0,.t 0),(1,.t 1)]) [.t 4,.t 6])] [.tt 4,.tt 6,sb []]
def X37_10:=hS R37_10 [0,4,6,7,16,17,18,35,36,37,45,46,47] [48] [0,4,6,7,16,17,18,35,36,37,45,46,47,48]
def X37_10t1:=hP R37_10t1 [48] [0,4,6,7,16,17,18,35,36,37,45,46,47,48]
def T37_10t2:=hT R37_10t2 [0,4,6,7,16,17,18,35,36,37,45,46,47,48] [3] 4 [] [(3,.c (.s (.bool true)))] [.cc (.s (.bool true))]
def X37_10t2:=hL R37_10t2 [0,4,6,7,16,17,18,35,36,37,45,46,47,48] [3]
def R37_11:LO:=[oF 49 1 7,oL 50 49,q 51 (.lenS .s (.t 50)),q 52 (.move (.c (.s (.int .i64 0))))]
def T37_11:=hT R37_11 [7,45,49] [50,51,52] 53 [] [(50,eL (eF 1 (.t 7))),(51,.op (.lenS .s (.t 0)) [eL (eF 1 (.t 7))]),(52,.c (.s (.int .i64 0)))] [sb [0],sb [],.sub 1 [] [],.cc (.s (.int .i64 0))]
def R37_12:LO:=[q 53 (.bin .lss (.t 52) (.t 51))]
def T37_12:=hT R37_12 [] [53] 54 [] [(53,.op (.bin .lss (.t 0) (.t 1)) [.t 52,.t 51])] [sb []]
def R37_13t3:LO:=[⟨none,.store 8 (.t 9) (.t 56),none⟩]
def R37_13p2:LO:=[oM 8 54]
def R37_13t2:LO:=R37_13p2 ++ R37_13t3
def R37_13t1:LO:=⟨some 9,.alloc [.s (.int .u8 0),.s (.string ⟨#[]⟩),.s (.string ⟨#[]⟩),.s (.string ⟨#[]⟩),.s (.int .i64 0),.s (.string ⟨#[]⟩),.s (.slice none 0 0),.s (.slice none 0 0)],none⟩ :: R37_13t2
def R37_13p0:LO:=[oM 54 52,q 55 (.indexAddr 8 (.t 50) (.t 52)),q 56 (.load true 8 (.t 55))]
def R37_13:LO:=R37_13p0 ++ R37_13t1
def T37_13p0:=hT R37_13p0 [53,55] [54,56] 57 [] [(54,.t 52),(56,.op (.load true 8 (.t 0)) [.op (.indexAddr 8 (.t 0) (.t 1)) [.t 50,.t 52]])] [.tt 52,.sub 1 [0] [],.sub 1 [] []]
def X37_13:=hS R37_13 [53,55] [54,56] [53,54,55,56]
def X37_13t1:=hP R37_13t1 [] [53,54,55,56]
def T37_13p2:=hT R37_13p2 [54] [8] 9 [] [(8,.t 54)] [.tt 54]
def X37_13t2:=hS R37_13t2 [54] [8] [53,54,55,56]
def X37_13t3:=hX R37_13t3 [53,54,55,56]
def R37_14t2:LO:=[⟨none,.store 7 (.t 10) (.t 63),none⟩]
def R37_14t1:LO:=⟨some 10,.alloc [.s (.bool false),.s (.bool false),.s (.bool false),.s (.bool false),.s (.bool false),.s (.bool false),.s (.bool false)],none⟩ :: R37_14t2
def R37_14p0:LO:=[oM 57 0,q 58 (.nilCheck (.t 57)),oF 59 1 58,oL 60 59,oF 61 0 9,oL 62 61,q 63 (.mapGet (.int .u8) (.agg [.s (.bool false),.s (.bool false),.s (.bool false),.s (.bool false),.s (.bool false),.s (.bool false),.s (.bool false)]) (.t 60) (.t 62) false)]
def R37_14:LO:=R37_14p0 ++ R37_14t1
def T37_14p0:=hT R37_14p0 [57,58,59,60,61,62] [63] 64 [] [(63,.op (.mapGet (.int .u8) (.agg [.s (.bool false),.s (.bool false),.s (.bool false),.s (.bool false),.s (.bool false),.s (.bool false),.s (.bool false)]) (.t 0) (.t 1) false) [eL (eF 1 (.op (.nilCheck (.t 0)) [.t 0])),eL (eF 0 (.t 9))])] [.tt 0,sb [0,0,0],sb [0,0],sb [0],sb [1,0],sb [1],sb []]
def X37_14:=hS R37_14 [57,58,59,60,61,62] [63] [57,58,59,60,61,62,63]
def X37_14t1:=hP R37_14t1 [] [57,58,59,60,61,62,63]
def X37_14t2:=hX R37_14t2 [57,58,59,60,61,62,63]
def R37_15t29:LO:=[qg 100 (.pick (.t 95) (.t 99) (.c (.s (.bool false)))) 92 false,q 101 (.pick (.t 92) (.c (.s (.bool true))) (.t 100)),oM 11 101]
def R37_15t28:LO:=⟨some 99,.call (.c (.fn 95 [] [])) [.c (.s (.bool true)),.t 98],some (95,true)⟩ :: R37_15t29
def R37_15t27:LO:=⟨some 98,.buildSl 1 1 [.s (.string ⟨#[]⟩)] [(0,.t 97)],some (95,true)⟩ :: R37_15t28
def R37_15t26:LO:=⟨some 97,.load false 1 (.t 96),some (95,true)⟩ :: R37_15t27
def R37_15t25:LO:=⟨some 96,.fieldAddr 3 (.t 9),some (95,true)⟩ :: R37_15t26
def R37_15t24:LO:=⟨some 95,.move (.t 94),some (92,false)⟩ :: R37_15t25
def R37_15t23:LO:=⟨some 94,.load false 1 (.t 93),some (92,false)⟩ :: R37_15t24
def R37_15t22:LO:=⟨some 93,.fieldAddr 2 (.t 10),some (92,false)⟩ :: R37_15t23
def R37_15p21:LO:=[qg 90 (.pick (.t 85) (.t 89) (.c (.s (.bool false)))) 82 false,q 91 (.pick (.t 82) (.c (.s (.bool true))) (.t 90)),oM 92 91]
def R37_15t21:LO:=R37_15p21 ++ R37_15t22
def R37_15t20:LO:=⟨some 89,.call (.c (.fn 95 [] [])) [.c (.s (.bool true)),.t 88],some (85,true)⟩ :: R37_15t21
def R37_15t19:LO:=⟨some 88,.buildSl 1 1 [.s (.string ⟨#[]⟩)] [(0,.t 87)],some (85,true)⟩ :: R37_15t20
def R37_15t18:LO:=⟨some 87,.load false 1 (.t 86),some (85,true)⟩ :: R37_15t19
def R37_15t17:LO:=⟨some 86,.fieldAddr 2 (.t 9),some (85,true)⟩ :: R37_15t18
def R37_15t16:LO:=⟨some 85,.move (.t 84),some (82,false)⟩ :: R37_15t17
def R37_15t15:LO:=⟨some 84,.load false 1 (.t 83),some (82,false)⟩ :: R37_15t16
def R37_15t14:LO:=⟨some 83,.fieldAddr 1 (.t 10),some (82,false)⟩ :: R37_15t15
def R37_15p13:LO:=[qg 80 (.pick (.t 75) (.t 79) (.c (.s (.bool false)))) 72 false,q 81 (.pick (.t 72) (.c (.s (.bool true))) (.t 80)),oM 82 81]
def R37_15t13:LO:=R37_15p13 ++ R37_15t14
def R37_15t12:LO:=⟨some 79,.call (.c (.fn 95 [] [])) [.c (.s (.bool false)),.t 78],some (75,true)⟩ :: R37_15t13
def R37_15t11:LO:=⟨some 78,.buildSl 1 1 [.s (.string ⟨#[]⟩)] [(0,.t 77)],some (75,true)⟩ :: R37_15t12
def R37_15t10:LO:=⟨some 77,.load false 1 (.t 76),some (75,true)⟩ :: R37_15t11
def R37_15t9:LO:=⟨some 76,.fieldAddr 5 (.t 9),some (75,true)⟩ :: R37_15t10
def R37_15t8:LO:=⟨some 75,.move (.t 74),some (72,false)⟩ :: R37_15t9
def R37_15t7:LO:=⟨some 74,.load false 1 (.t 73),some (72,false)⟩ :: R37_15t8
def R37_15t6:LO:=⟨some 73,.fieldAddr 4 (.t 10),some (72,false)⟩ :: R37_15t7
def R37_15p5:LO:=[q 71 (.pick (.t 66) (.t 70) (.c (.s (.bool false)))),oM 72 71]
def R37_15t5:LO:=R37_15p5 ++ R37_15t6
def R37_15t4:LO:=⟨some 70,.call (.c (.fn 95 [] [])) [.c (.s (.bool false)),.t 69],some (66,true)⟩ :: R37_15t5
def R37_15t3:LO:=⟨some 69,.buildSl 1 1 [.s (.string ⟨#[]⟩)] [(0,.t 68)],some (66,true)⟩ :: R37_15t4
def R37_15t2:LO:=⟨some 68,.load false 1 (.t 67),some (66,true)⟩ :: R37_15t3
def R37_15t1:LO:=⟨some 67,.fieldAddr 1 (.t 9),some (66,true)⟩ :: R37_15t2
def R37_15p0:LO:=[oF 64 0 10,oL 65 64,oM 66 65]
def R37_15:LO:=R37_15p0 ++ R37_15t1
def R37_16t22:LO:=[⟨some 128,.pick (.t 124) (.c (.s (.bool true))) (.t 127),some (120,true)⟩,⟨some 129,.pick (.t 120) (.t 128) (.c (.s (.bool false))),some (117,false)⟩,⟨some 130,.pick (.t 117) (.c (.s (.bool true))) (.t 129),none⟩,⟨some 11,.move (.t 130),none⟩]
def R37_16p21:LO:=[⟨some 127,.call (.c (.fn 96 [] [])) [.t 126,.c (.s (.string ⟨#[]⟩))],some (124,false)⟩]
def R37_16t21:LO:=⟨some 127,.call (.c (.fn 96 [] [])) [.t 126,.c (.s (.string ⟨#[]⟩))],some (124,false)⟩ :: R37_16t22
def R37_16p20:LO:=[⟨some 126,.load false 1 (.t 125),some (124,false)⟩]
def R37_16t20:LO:=⟨some 126,.load false 1 (.t 125),some (124,false)⟩ :: R37_16t21
def R37_16p19:LO:=[⟨some 125,.fieldAddr 7 (.t 9),some (124,false)⟩]
def R37_16t19:LO:=⟨some 125,.fieldAddr 7 (.t 9),some (124,false)⟩ :: R37_16t20
def R37_16p18:LO:=[⟨some 124,.move (.t 123),some (120,true)⟩]
def R37_16t18:LO:=⟨some 124,.move (.t 123),some (120,true)⟩ :: R37_16t19
def R37_16p17:LO:=[⟨some 123,.call (.c (.fn 95 [] [])) [.c (.s (.bool false)),.t 122],some (120,true)⟩]
def R37_16t17:LO:=⟨some 123,.call (.c (.fn 95 [] [])) [.c (.s (.bool false)),.t 122],some (120,true)⟩ :: R37_16t18
def R37_16p16:LO:=[⟨some 122,.load false 1 (.t 121),some (120,true)⟩]
def R37_16t16:LO:=⟨some 122,.load false 1 (.t 121),some (120,true)⟩ :: R37_16t17
def R37_16p15:LO:=[⟨some 121,.fieldAddr 7 (.t 9),some (120,true)⟩]
def R37_16t15:LO:=⟨some 121,.fieldAddr 7 (.t 9),some (120,true)⟩ :: R37_16t16
def R37_16p14:LO:=[⟨some 120,.move (.t 119),some (117,false)⟩]
def R37_16t14:LO:=⟨some 120,.move (.t 119),some (117,false)⟩ :: R37_16t15
def R37_16p13:LO:=[⟨some 119,.load false 1 (.t 118),some (117,false)⟩]
def R37_16t13:LO:=⟨some 119,.load false 1 (.t 118),some (117,false)⟩ :: R37_16t14
def R37_16p12:LO:=[⟨some 118,.fieldAddr 6 (.t 10),some (117,false)⟩]
def R37_16t12:LO:=⟨some 118,.fieldAddr 6 (.t 10),some (117,false)⟩ :: R37_16t13
def R37_16p11:LO:=[⟨some 114,.pick (.t 110) (.c (.s (.bool true))) (.t 113),some (106,true)⟩,⟨some 115,.pick (.t 106) (.t 114) (.c (.s (.bool false))),some (103,false)⟩,⟨some 116,.pick (.t 103) (.c (.s (.bool true))) (.t 115),none⟩,⟨some 117,.move (.t 116),none⟩]
def R37_16t11:LO:=R37_16p11 ++ R37_16t12
def R37_16t10:LO:=⟨some 113,.call (.c (.fn 96 [] [])) [.t 112,.c (.s (.string ⟨#[]⟩))],some (110,false)⟩ :: R37_16t11
def R37_16t9:LO:=⟨some 112,.load false 1 (.t 111),some (110,false)⟩ :: R37_16t10
def R37_16t8:LO:=⟨some 111,.fieldAddr 6 (.t 9),some (110,false)⟩ :: R37_16t9
def R37_16t7:LO:=⟨some 110,.move (.t 109),some (106,true)⟩ :: R37_16t8
def R37_16t6:LO:=⟨some 109,.call (.c (.fn 95 [] [])) [.c (.s (.bool true)),.t 108],some (106,true)⟩ :: R37_16t7
def R37_16t5:LO:=⟨some 108,.load false 1 (.t 107),some (106,true)⟩ :: R37_16t6
def R37_16t4:LO:=⟨some 107,.fieldAddr 6 (.t 9),some (106,true)⟩ :: R37_16t5
def R37_16t3:LO:=⟨some 106,.move (.t 105),some (103,false)⟩ :: R37_16t4
def R37_16t2:LO:=⟨some 105,.load false 1 (.t 104),some (103,false)⟩ :: R37_16t3
def R37_16t1:LO:=⟨some 104,.fieldAddr 5 (.t 10),some (103,false)⟩ :: R37_16t2
def R37_16p0:LO:=[⟨some 102,.move (.t 11),none⟩,⟨some 103,.move (.t 102),none⟩]
def R37_16:LO:=R37_16p0 ++ R37_16t1
def R37_17:LO:=[oM 131 11]
def T37_17:=hT R37_17 [11] [131] 132 [] [(131,.t 11)] [.tt 11]
def R37_18t2:LO:=[q 3 (.move (.c (.s (.bool true))))]
def R37_18t1:LO:=⟨none,.store 3 (.t 2) (.t 135),none⟩ :: R37_18t2
def R37_18p0:LO:=[oM 132 4,oM 133 6,oM 134 8,q 135 (.build [.s (.int .i64 0),.s (.int .i64 0),.s (.int .i64 0)] [(0,1),(1,1),(2,1)] [(0,.t 132),(1,.t 133),(2,.t 134)])]
def R37_18:LO:=R37_18p0 ++ R37_18t1
def T37_18p0:=hT R37_18p0 [0,4,6,8,16,17,18,35,36,37,50,51,52,131,132,133,134] [135] 136 [] [(135,.op (.build [.s (.int .i64 0),.s (.int .i64 0),.s (.int .i64 0)] [(0,1),(1,1),(2,1)] [(0,.t 0),(1,.t 1),(2,.t 2)]) [.t 4,.t 6,.t 8])] [.tt 4,.tt 6,.tt 8,sb []]
def X37_18:=hS R37_18 [0,4,6,8,16,17,18,35,36,37,50,51,52,131,132,133,134] [135] [0,4,6,8,16,17,18,35,36,37,50,51,52,131,132,133,134,135]
def X37_18t1:=hP R37_18t1 [135] [0,4,6,8,16,17,18,35,36,37,50,51,52,131,132,133,134,135]
def T37_18t2:=hT R37_18t2 [0,4,6,8,16,17,18,35,36,37,50,51,52,131,132,133,134,135] [3] 4 [] [(3,.c (.s (.bool true)))] [.cc (.s (.bool true))]
def X37_18t2:=hL R37_18t2 [0,4,6,8,16,17,18,35,36,37,50,51,52,131,132,133,134,135] [3]
def R37_19:LO:=[q 136 (.bin .add (.t 52) (.c (.s (.int .i64 1)))),oM 52 136]
def T37_19:=hT R37_19 [8,131,136] [52] 137 [] [(52,.op (.bin .add (.t 0) (.c (.s (.int .i64 1)))) [.t 52,.c (.s (.int .i64 1))])] [sb [],sb []]
def adc:ACode:=
 (.seq (.regionE R37_12 [] [53])
 (.seq (.cond (.t 53)
 .skip
 (.exit 4))
 (.seq (.block 5
 (.seq (.region R37_13 [] [53,54,55,56])
 (.seq (.region R37_14 [] [57,58,59,60,61,62,63])
 (.seq (.region R37_15 [] [64,65,66,67,68,69,70,71,72,73,74,75,76,77,78,79,80,81,82,83,84,85,86,87,88,89,90,91,92,93,94,95,96,97,98,99,100,101])
 (.seq (.region R37_16 [] [9,10,102,103,104,105,106,107,108,109,110,111,112,113,114,115,116,117,118,119,120,121,122,123,124,125,126,127,128,129,130])
 (.seq (.regionE R37_17 [11] [131])
 (.cond (.t 131)
 (.seq (.region R37_18 [] [0,4,6,8,16,17,18,35,36,37,50,51,52,131,132,133,134,135])
 .ret)
 .skip)))))))
 (.regionE R37_19 [8,131,136] [52]))))
def ag3:ACode:=adc
def af7:=hE ag3 adc
def R37_20:LO:=[q 137 (.bin .add (.t 37) (.c (.s (.int .i64 1)))),oM 37 137]
def T37_20:=hT R37_20 [6,50,51,52,53,137] [37] 138 [] [(37,.op (.bin .add (.t 0) (.c (.s (.int .i64 1)))) [.t 37,.c (.s (.int .i64 1))])] [sb [],sb []]
def adb:ACode:=
 (.seq (.regionE R37_7 [] [38])
 (.seq (.cond (.t 38)
 .skip
 (.exit 2))
 (.seq (.block 3
 (.seq (.region R37_8 [] [38,39,40,41])
 (.seq (.seq (.region R37_9 [] [42,43,44])
 (.cond (.t 45)
 (.seq (.region R37_10 [] [0,4,6,7,16,17,18,35,36,37,45,46,47,48])
 .ret)
 .skip))
 (.seq (.regionE R37_11 [7,45,49] [50,51,52])
 (.block 4
 (.loop [] ag3))))))
 (.regionE R37_20 [6,50,51,52,53,137] [37]))))
def ag2:ACode:=adb
def af6:=hE ag2 adb
def R37_21:LO:=[q 138 (.bin .add (.t 18) (.c (.s (.int .i64 1)))),oM 18 138]
def T37_21:=hT R37_21 [4,35,36,37,38,138] [18] 139 [] [(18,.op (.bin .add (.t 0) (.c (.s (.int .i64 1)))) [.t 18,.c (.s (.int .i64 1))])] [sb [],sb []]
def ada:ACode:=
 (.seq (.regionE R37_2 [] [19])
 (.seq (.cond (.t 19)
 .skip
 (.exit 0))
 (.seq (.block 1
 (.seq (.region R37_3 [] [19,20,21,22])
 (.seq (.seq (.region R37_4 [] [23,24,25,26,27,28,29,30])
 (.cond (.t 31)
 (.seq (.region R37_5 [] [0,4,5,16,17,18,31,32,33])
 .ret)
 .skip))
 (.seq (.regionE R37_6 [5,31,34] [35,36,37])
 (.block 2
 (.loop [] ag2))))))
 (.regionE R37_21 [4,35,36,37,38,138] [18]))))
def ag1:ACode:=ada
def af5:=hE ag1 ada
def R37_22t2:LO:=[q 3 (.move (.c (.s (.bool false))))]
def R37_22t1:LO:=⟨none,.store 3 (.t 2) (.t 139),none⟩ :: R37_22t2
def R37_22p0:LO:=[q 139 (.build [.s (.int .i64 0),.s (.int .i64 0),.s (.int .i64 0)] [(0,1),(1,1),(2,1)] [])]
def R37_22:LO:=R37_22p0 ++ R37_22t1
def T37_22p0:=hT R37_22p0 [0,16,17,18,19] [139] 140 [] [(139,.op (.build [.s (.int .i64 0),.s (.int .i64 0),.s (.int .i64 0)] [(0,1),(1,1),(2,1)] []) [])] [sb []]
def X37_22:=hS R37_22 [0,16,17,18,19] [139] [0,16,17,18,19,139]
def X37_22t1:=hP R37_22t1 [139] [0,16,17,18,19,139]
def T37_22t2:=hT R37_22t2 [0,16,17,18,19,139] [3] 4 [] [(3,.c (.s (.bool false)))] [.cc (.s (.bool false))]
def X37_22t2:=hL R37_22t2 [0,16,17,18,19,139] [3]
def aj0:ACFun:={ ntmps:=140,results:=[.cell 2 true 3,.tmp 3],body:=
 (.seq (.region R37_0 [] K37_0)
 (.seq (.seq (.regionE R37_1 [12,13,14,15] [16,17,18])
 (.block 0
 (.loop [] ag1)))
 (.seq (.region R37_22 [] [0,16,17,18,19,139])
 .ret))) }
theorem aln:l9 (List.range' 1 (aj0.ntmps - 1)) aj0.body=true:=by kernel_rfl
abbrev bdm:Nat:=44
def K44_0:List Nat:=[0,3,4,5,6,7,8]
def R44_0t2:LO:=[q 3 (.move (.c (.s (.bool false))))]
def R44_0t1:LO:=⟨some 2,.alloc [.s (.int .i64 0),.s (.int .i64 0),.s (.int .i64 0)],none⟩ :: R44_0t2
def R44_0:LO:=⟨some 1,.box (.t 0),none⟩ :: R44_0t1
def R44_1t4:LO:=[oM 3 8]
def R44_1t3:LO:=⟨none,.store 3 (.t 2) (.t 7),none⟩ :: R44_1t4
def R44_1p2:LO:=[q 7 (.extract (.t 6) 0),q 8 (.extract (.t 6) 1)]
def R44_1t2:LO:=R44_1p2 ++ R44_1t3
def R44_1t1:LO:=⟨some 6,.call (.c (.fn 102 [] [])) [.t 4,.t 5],none⟩ :: R44_1t2
def R44_1p0:LO:=[oL 4 1,q 5 (.mkFn 104 [] [.t 1])]
def R44_1:LO:=R44_1p0 ++ R44_1t1
def ajz:ACFun:={ ntmps:=9,results:=[.cell 2 true 3,.tmp 3],body:=
 (.seq (.region R44_0 [] K44_0)
 (.seq (.region R44_1 [] [1,4,5,6,7,8])
 .ret)) }
theorem alm:l9 (List.range' 1 (ajz.ntmps - 1)) ajz.body=true:=by kernel_rfl
def biw:=ai (hQ K16_0p0 0) (ai (hK K16_0p0 1) (ai (hK K16_0p0 2) (ai (hQ K16_0p0 4) (ai (hQ K16_0p0 5) (ai X16_0 (ai (hP R16_0t1 [] K16_0) (ai (hV R16_0t2 K16_0 [] 6 [] [] [.cc (.s (.bool false))]) (ai (hQ K16_0 0) (ai (hK K16_0 1) (ai (hK K16_0 2) (ai (hK K16_0 4) (ai (hQ K16_0 5) (ai (hU R16_1 [2] [8] [2,8,9,10,11] 9 [] [(8,.op (.load true 1 (.t 0)) [.t 2])] [sb []]) (ai (hP R16_1t1 [] [2,8,9,10,11]) (ai (hU R16_1t2 [8,9] [10] [2,8,9,10,11] 11 [] [(10,.op (.build [.s (.slice none 0 0),.s (.map none)] [(0,1),(1,1)] [(0,.t 0),(1,.t 1)]) [.t 8,.t 9])] [sb []]) (ai (hP R16_1t3 [10] [2,8,9,10,11]) (ai (hV R16_1t4 [2,8,9,10,11] [6] 7 [] [(6,.t 11)] [.tt 11]) (ai (hP R16_2 [] [1,6,12,13,14,15,16,17,18,19,20,21,22,23,24,25,26,27,28,29,30,31,32,33,34,35,36,37,38,39,40,41,42,43,44,45,46,47]) (ai (hU R16_2t1 [13] [14] [1,6,12,13,14,15,16,17,18,19,20,21,22,23,24,25,26,27,28,29,30,31,32,33,34,35,36,37,38,39,40,41,42,43,44,45,46,47] 15 [] [(14,.op (.mkFn 36 [.t 0] []) [.t 6])] [.tt 6,sb []]) (ai (hP R16_2t2 [14] [1,6,12,13,14,15,16,17,18,19,20,21,22,23,24,25,26,27,28,29,30,31,32,33,34,35,36,37,38,39,40,41,42,43,44,45,46,47]) (ai (hU R16_2t3 [15] [16] [1,6,12,13,14,15,16,17,18,19,20,21,22,23,24,25,26,27,28,29,30,31,32,33,34,35,36,37,38,39,40,41,42,43,44,45,46,47] 17 [] [(16,.op (.mkFn 37 [.t 0] []) [.t 6])] [.tt 6,sb []]) (ai (hP R16_2t4 [16] [1,6,12,13,14,15,16,17,18,19,20,21,22,23,24,25,26,27,28,29,30,31,32,33,34,35,36,37,38,39,40,41,42,43,44,45,46,47]) (ai (hU R16_2t5 [17] [18] [1,6,12,13,14,15,16,17,18,19,20,21,22,23,24,25,26,27,28,29,30,31,32,33,34,35,36,37,38,39,40,41,42,43,44,45,46,47] 19 [] [(18,.op (.mkFn 38 [.t 0] []) [.t 6])] [.tt 6,sb []]) (ai (hP R16_2t6 [18] [1,6,12,13,14,15,16,17,18,19,20,21,22,23,24,25,26,27,28,29,30,31,32,33,34,35,36,37,38,39,40,41,42,43,44,45,46,47]) (ai (hU R16_2t7 [19] [20] [1,6,12,13,14,15,16,17,18,19,20,21,22,23,24,25,26,27,28,29,30,31,32,33,34,35,36,37,38,39,40,41,42,43,44,45,46,47] 21 [] [(20,.op (.mkFn 39 [.t 0] []) [.t 6])] [.tt 6,sb []]) (ai (hP R16_2t8 [20] [1,6,12,13,14,15,16,17,18,19,20,21,22,23,24,25,26,27,28,29,30,31,32,33,34,35,36,37,38,39,40,41,42,43,44,45,46,47]) (ai (hU R16_2t9 [21] [22] [1,6,12,13,14,15,16,17,18,19,20,21,22,23,24,25,26,27,28,29,30,31,32,33,34,35,36,37,38,39,40,41,42,43,44,45,46,47] 23 [] [(22,.op (.mkFn 40 [.t 0] []) [.t 6])] [.tt 6,sb []]) (ai (hP R16_2t10 [22] [1,6,12,13,14,15,16,17,18,19,20,21,22,23,24,25,26,27,28,29,30,31,32,33,34,35,36,37,38,39,40,41,42,43,44,45,46,47]) (ai (hU R16_2t11 [23] [24] [1,6,12,13,14,15,16,17,18,19,20,21,22,23,24,25,26,27,28,29,30,31,32,33,34,35,36,37,38,39,40,41,42,43,44,45,46,47] 25 [] [(24,.op (.mkFn 41 [.t 0] []) [.t 6])] [.tt 6,sb []]) (ai (hP R16_2t12 [24] [1,6,12,13,14,15,16,17,18,19,20,21,22,23,24,25,26,27,28,29,30,31,32,33,34,35,36,37,38,39,40,41,42,43,44,45,46,47]) (ai (hU R16_2t13 [25] [26] [1,6,12,13,14,15,16,17,18,19,20,21,22,23,24,25,26,27,28,29,30,31,32,33,34,35,36,37,38,39,40,41,42,43,44,45,46,47] 27 [] [(26,.op (.mkFn 42 [.t 0] []) [.t 6])] [.tt 6,sb []]) (ai (hP R16_2t14 [26] [1,6,12,13,14,15,16,17,18,19,20,21,22,23,24,25,26,27,28,29,30,31,32,33,34,35,36,37,38,39,40,41,42,43,44,45,46,47]) (ai (hU R16_2t15 [27] [28] [1,6,12,13,14,15,16,17,18,19,20,21,22,23,24,25,26,27,28,29,30,31,32,33,34,35,36,37,38,39,40,41,42,43,44,45,46,47] 29 [] [(28,.op (.mkFn 43 [.t 0] []) [.t 6])] [.tt 6,sb []]) (ai (hP R16_2t16 [28] [1,6,12,13,14,15,16,17,18,19,20,21,22,23,24,25,26,27,28,29,30,31,32,33,34,35,36,37,38,39,40,41,42,43,44,45,46,47]) (ai (hU R16_2t17 [29] [30] [1,6,12,13,14,15,16,17,18,19,20,21,22,23,24,25,26,27,28,29,30,31,32,33,34,35,36,37,38,39,40,41,42,43,44,45,46,47] 31 [] [(30,.op (.mkFn 44 [.t 0] []) [.t 6])] [.tt 6,sb []]) (ai (hP R16_2t18 [30] [1,6,12,13,14,15,16,17,18,19,20,21,22,23,24,25,26,27,28,29,30,31,32,33,34,35,36,37,38,39,40,41,42,43,44,45,46,47]) (ai (hU R16_2t19 [31] [32] [1,6,12,13,14,15,16,17,18,19,20,21,22,23,24,25,26,27,28,29,30,31,32,33,34,35,36,37,38,39,40,41,42,43,44,45,46,47] 33 [] [(32,.op (.mkFn 45 [.t 0] []) [.t 6])] [.tt 6,sb []]) (ai (hP R16_2t20 [32] [1,6,12,13,14,15,16,17,18,19,20,21,22,23,24,25,26,27,28,29,30,31,32,33,34,35,36,37,38,39,40,41,42,43,44,45,46,47]) (ai (hU R16_2t21 [33] [34] [1,6,12,13,14,15,16,17,18,19,20,21,22,23,24,25,26,27,28,29,30,31,32,33,34,35,36,37,38,39,40,41,42,43,44,45,46,47] 35 [] [(34,.op (.mkFn 46 [.t 0] []) [.t 6])] [.tt 6,sb []]) (ai (hP R16_2t22 [34] [1,6,12,13,14,15,16,17,18,19,20,21,22,23,24,25,26,27,28,29,30,31,32,33,34,35,36,37,38,39,40,41,42,43,44,45,46,47]) (ai (hU R16_2t23 [35] [36] [1,6,12,13,14,15,16,17,18,19,20,21,22,23,24,25,26,27,28,29,30,31,32,33,34,35,36,37,38,39,40,41,42,43,44,45,46,47] 37 [] [(36,.op (.mkFn 47 [.t 0] []) [.t 6])] [.tt 6,sb []]) (ai (hP R16_2t24 [36] [1,6,12,13,14,15,16,17,18,19,20,21,22,23,24,25,26,27,28,29,30,31,32,33,34,35,36,37,38,39,40,41,42,43,44,45,46,47]) (ai (hU R16_2t25 [37] [38] [1,6,12,13,14,15,16,17,18,19,20,21,22,23,24,25,26,27,28,29,30,31,32,33,34,35,36,37,38,39,40,41,42,43,44,45,46,47] 39 [] [(38,.op (.mkFn 48 [.t 0] []) [.t 6])] [.tt 6,sb []]) (ai (hP R16_2t26 [38] [1,6,12,13,14,15,16,17,18,19,20,21,22,23,24,25,26,27,28,29,30,31,32,33,34,35,36,37,38,39,40,41,42,43,44,45,46,47]) (ai (hU R16_2t27 [39] [40] [1,6,12,13,14,15,16,17,18,19,20,21,22,23,24,25,26,27,28,29,30,31,32,33,34,35,36,37,38,39,40,41,42,43,44,45,46,47] 41 [] [(40,.op (.mkFn 49 [.t 0] []) [.t 6])] [.tt 6,sb []]) (ai (hP R16_2t28 [40] [1,6,12,13,14,15,16,17,18,19,20,21,22,23,24,25,26,27,28,29,30,31,32,33,34,35,36,37,38,39,40,41,42,43,44,45,46,47]) (ai (hU R16_2t29 [41] [42] [1,6,12,13,14,15,16,17,18,19,20,21,22,23,24,25,26,27,28,29,30,31,32,33,34,35,36,37,38,39,40,41,42,43,44,45,46,47] 43 [] [(42,.op (.mkFn 50 [.t 0] []) [.t 6])] [.tt 6,sb []]) (ai (hP R16_2t30 [42] [1,6,12,13,14,15,16,17,18,19,20,21,22,23,24,25,26,27,28,29,30,31,32,33,34,35,36,37,38,39,40,41,42,43,44,45,46,47]) (ai (hU R16_2t31 [6,43] [44] [1,6,12,13,14,15,16,17,18,19,20,21,22,23,24,25,26,27,28,29,30,31,32,33,34,35,36,37,38,39,40,41,42,43,44,45,46,47] 45 [] [(44,.op (.mkFn 51 [.t 0] []) [.t 6])] [.tt 6,sb []]) (ai (hP R16_2t32 [44] [1,6,12,13,14,15,16,17,18,19,20,21,22,23,24,25,26,27,28,29,30,31,32,33,34,35,36,37,38,39,40,41,42,43,44,45,46,47]) (ai (hV R16_2t33 [1,6,12,13,14,15,16,17,18,19,20,21,22,23,24,25,26,27,28,29,30,31,32,33,34,35,36,37,38,39,40,41,42,43,44,45,46,47] [7] 48 [] [(7,.op (.mapGet (.int .u8) (.s .nilFunc) (.t 0) (.t 1) false) [.t 12,.t 1])] [.tt 12,.tt 1,sb [],sb []]) (ai (hT R16_3 [48] [49] 50 [] [(49,.op (.eqNil .f false (.t 0)) [.t 7])] [.tt 7,sb []]) (ai (hU R16_4 [7,49] [50] [7,49,50] 51 [] [(50,.op (.build [.s (.int .i64 0),.s (.int .i64 0),.s (.int .i64 0)] [(0,1),(1,1),(2,1)] []) [])] [sb []]) (ai (hP R16_4t1 [50] [7,49,50]) (ai (hV R16_4t2 [7,49,50] [5] 6 [] [(5,.c (.s (.bool false)))] [.cc (.s (.bool false))]) (ai (hU R16_5 [7,49] [51] [7,49,51,52,53,54] 52 [] [(51,.t 7)] [.tt 7]) (ai (hP R16_5t1 [51] [7,49,51,52,53,54]) (ai (hU R16_5t2 [52] [53,54] [7,49,51,52,53,54] 55 [] [(53,.op (.extract (.t 0) 0) [.t 52]),(54,.op (.extract (.t 0) 1) [.t 52])] [sb [],.sub 1 [] []]) (ai (hP R16_5t3 [53] [7,49,51,52,53,54]) ((hV R16_5t4 [7,49,51,52,53,54] [5] 6 [] [(5,.t 54)] [.tt 54])))))))))))))))))))))))))))))))))))))))))))))))))))))))))))))
def rz:=ai A37_0p0_0 (ai A37_0p0_2 (ai A37_0p0_3 (ai X37_0 (ai T37_0t1 (ai X37_0t1 (ai A37_0_0 (ai A37_0_2 (ai A37_0_3 (ai T37_1 (ai T37_2 (ai T37_3p0 (ai X37_3 (ai X37_3t1 (ai T37_3p2 (ai X37_3t2 (ai X37_3t3 (ai T37_4p0 (ai X37_4 (ai X37_4t1 (ai T37_4p2 (ai X37_4t2 (ai X37_4t3 (ai X37_4t4 (ai X37_4t5 (ai T37_4t6 (ai X37_4t6 (ai T37_5p0 (ai X37_5 (ai X37_5t1 (ai T37_5t2 (ai X37_5t2 (ai T37_6 (ai T37_7 (ai T37_8p0 (ai X37_8 (ai X37_8t1 (ai T37_8p2 (ai X37_8t2 (ai X37_8t3 (ai T37_9p0 (ai X37_9 (ai X37_9t1 (ai T37_9t2 (ai X37_9t2 (ai T37_10p0 (ai X37_10 (ai X37_10t1 (ai T37_10t2 (ai X37_10t2 (ai T37_11 (ai T37_12 (ai T37_13p0 (ai X37_13 (ai X37_13t1 (ai T37_13p2 (ai X37_13t2 (ai X37_13t3 (ai T37_14p0 (ai X37_14 (ai X37_14t1 (ai X37_14t2 (ai (hU R37_15 [64,65] [66] [64,65,66,67,68,69,70,71,72,73,74,75,76,77,78,79,80,81,82,83,84,85,86,87,88,89,90,91,92,93,94,95,96,97,98,99,100,101] 67 [] [(66,eL (eF 0 (.t 10)))] [sb [0],sb [],sb []]) (ai (hP R37_15t1 [] [64,65,66,67,68,69,70,71,72,73,74,75,76,77,78,79,80,81,82,83,84,85,86,87,88,89,90,91,92,93,94,95,96,97,98,99,100,101]) (ai (hP R37_15t2 [67] [64,65,66,67,68,69,70,71,72,73,74,75,76,77,78,79,80,81,82,83,84,85,86,87,88,89,90,91,92,93,94,95,96,97,98,99,100,101]) (ai (hP R37_15t3 [68] [64,65,66,67,68,69,70,71,72,73,74,75,76,77,78,79,80,81,82,83,84,85,86,87,88,89,90,91,92,93,94,95,96,97,98,99,100,101]) (ai (hP R37_15t4 [69] [64,65,66,67,68,69,70,71,72,73,74,75,76,77,78,79,80,81,82,83,84,85,86,87,88,89,90,91,92,93,94,95,96,97,98,99,100,101]) (ai (hU R37_15t5 [66,70,71] [72] [64,65,66,67,68,69,70,71,72,73,74,75,76,77,78,79,80,81,82,83,84,85,86,87,88,89,90,91,92,93,94,95,96,97,98,99,100,101] 73 [] [(72,.pick (.t 66) (.t 70) (.c (.s (.bool false))))] [sb [],sb []]) (ai (hP R37_15t6 [] [64,65,66,67,68,69,70,71,72,73,74,75,76,77,78,79,80,81,82,83,84,85,86,87,88,89,90,91,92,93,94,95,96,97,98,99,100,101]) (ai (hP R37_15t7 [73] [64,65,66,67,68,69,70,71,72,73,74,75,76,77,78,79,80,81,82,83,84,85,86,87,88,89,90,91,92,93,94,95,96,97,98,99,100,101]) (ai (hP R37_15t8 [74] [64,65,66,67,68,69,70,71,72,73,74,75,76,77,78,79,80,81,82,83,84,85,86,87,88,89,90,91,92,93,94,95,96,97,98,99,100,101]) (ai (hP R37_15t9 [] [64,65,66,67,68,69,70,71,72,73,74,75,76,77,78,79,80,81,82,83,84,85,86,87,88,89,90,91,92,93,94,95,96,97,98,99,100,101]) (ai (hP R37_15t10 [76] [64,65,66,67,68,69,70,71,72,73,74,75,76,77,78,79,80,81,82,83,84,85,86,87,88,89,90,91,92,93,94,95,96,97,98,99,100,101]) (ai (hP R37_15t11 [77] [64,65,66,67,68,69,70,71,72,73,74,75,76,77,78,79,80,81,82,83,84,85,86,87,88,89,90,91,92,93,94,95,96,97,98,99,100,101]) (ai (hP R37_15t12 [78] [64,65,66,67,68,69,70,71,72,73,74,75,76,77,78,79,80,81,82,83,84,85,86,87,88,89,90,91,92,93,94,95,96,97,98,99,100,101]) (ai (hU R37_15t13 [72,75,79,80,81] [82] [64,65,66,67,68,69,70,71,72,73,74,75,76,77,78,79,80,81,82,83,84,85,86,87,88,89,90,91,92,93,94,95,96,97,98,99,100,101] 83 [] [(82,.pick (.t 72) (.c (.s (.bool true))) (.pick (.t 75) (.t 79) (.c (.s (.bool false)))))] [.sub 0 [2] [72],sb [],sb []]) (ai (hP R37_15t14 [] [64,65,66,67,68,69,70,71,72,73,74,75,76,77,78,79,80,81,82,83,84,85,86,87,88,89,90,91,92,93,94,95,96,97,98,99,100,101]) (ai (hP R37_15t15 [83] [64,65,66,67,68,69,70,71,72,73,74,75,76,77,78,79,80,81,82,83,84,85,86,87,88,89,90,91,92,93,94,95,96,97,98,99,100,101]) (ai (hP R37_15t16 [84] [64,65,66,67,68,69,70,71,72,73,74,75,76,77,78,79,80,81,82,83,84,85,86,87,88,89,90,91,92,93,94,95,96,97,98,99,100,101]) (ai (hP R37_15t17 [] [64,65,66,67,68,69,70,71,72,73,74,75,76,77,78,79,80,81,82,83,84,85,86,87,88,89,90,91,92,93,94,95,96,97,98,99,100,101]) (ai (hP R37_15t18 [86] [64,65,66,67,68,69,70,71,72,73,74,75,76,77,78,79,80,81,82,83,84,85,86,87,88,89,90,91,92,93,94,95,96,97,98,99,100,101]) (ai (hP R37_15t19 [87] [64,65,66,67,68,69,70,71,72,73,74,75,76,77,78,79,80,81,82,83,84,85,86,87,88,89,90,91,92,93,94,95,96,97,98,99,100,101]) (ai (hP R37_15t20 [88] [64,65,66,67,68,69,70,71,72,73,74,75,76,77,78,79,80,81,82,83,84,85,86,87,88,89,90,91,92,93,94,95,96,97,98,99,100,101]) (ai (hU R37_15t21 [82,85,89,90,91] [92] [64,65,66,67,68,69,70,71,72,73,74,75,76,77,78,79,80,81,82,83,84,85,86,87,88,89,90,91,92,93,94,95,96,97,98,99,100,101] 93 [] [(92,.pick (.t 82) (.c (.s (.bool true))) (.pick (.t 85) (.t 89) (.c (.s (.bool false)))))] [.sub 0 [2] [82],sb [],sb []]) (ai (hP R37_15t22 [] [64,65,66,67,68,69,70,71,72,73,74,75,76,77,78,79,80,81,82,83,84,85,86,87,88,89,90,91,92,93,94,95,96,97,98,99,100,101]) (ai (hP R37_15t23 [93] [64,65,66,67,68,69,70,71,72,73,74,75,76,77,78,79,80,81,82,83,84,85,86,87,88,89,90,91,92,93,94,95,96,97,98,99,100,101]) (ai (hP R37_15t24 [94] [64,65,66,67,68,69,70,71,72,73,74,75,76,77,78,79,80,81,82,83,84,85,86,87,88,89,90,91,92,93,94,95,96,97,98,99,100,101]) (ai (hP R37_15t25 [] [64,65,66,67,68,69,70,71,72,73,74,75,76,77,78,79,80,81,82,83,84,85,86,87,88,89,90,91,92,93,94,95,96,97,98,99,100,101]) (ai (hP R37_15t26 [96] [64,65,66,67,68,69,70,71,72,73,74,75,76,77,78,79,80,81,82,83,84,85,86,87,88,89,90,91,92,93,94,95,96,97,98,99,100,101]) (ai (hP R37_15t27 [97] [64,65,66,67,68,69,70,71,72,73,74,75,76,77,78,79,80,81,82,83,84,85,86,87,88,89,90,91,92,93,94,95,96,97,98,99,100,101]) (ai (hP R37_15t28 [98] [64,65,66,67,68,69,70,71,72,73,74,75,76,77,78,79,80,81,82,83,84,85,86,87,88,89,90,91,92,93,94,95,96,97,98,99,100,101]) (ai (hV R37_15t29 [64,65,66,67,68,69,70,71,72,73,74,75,76,77,78,79,80,81,82,83,84,85,86,87,88,89,90,91,92,93,94,95,96,97,98,99,100,101] [11] 102 [] [(11,.pick (.t 92) (.c (.s (.bool true))) (.pick (.t 95) (.t 99) (.c (.s (.bool false)))))] [.sub 0 [2] [92],sb [],sb []]) (ai (hU R37_16 [11,102] [103] [9,10,102,103,104,105,106,107,108,109,110,111,112,113,114,115,116,117,118,119,120,121,122,123,124,125,126,127,128,129,130] 104 [] [(103,.t 11)] [.tt 11,.tt 11]) (ai (hP R37_16t1 [] [9,10,102,103,104,105,106,107,108,109,110,111,112,113,114,115,116,117,118,119,120,121,122,123,124,125,126,127,128,129,130]) (ai (hP R37_16t2 [104] [9,10,102,103,104,105,106,107,108,109,110,111,112,113,114,115,116,117,118,119,120,121,122,123,124,125,126,127,128,129,130]) (ai (hP R37_16t3 [105] [9,10,102,103,104,105,106,107,108,109,110,111,112,113,114,115,116,117,118,119,120,121,122,123,124,125,126,127,128,129,130]) (ai (hP R37_16t4 [] [9,10,102,103,104,105,106,107,108,109,110,111,112,113,114,115,116,117,118,119,120,121,122,123,124,125,126,127,128,129,130]) (ai (hP R37_16t5 [107] [9,10,102,103,104,105,106,107,108,109,110,111,112,113,114,115,116,117,118,119,120,121,122,123,124,125,126,127,128,129,130]) (ai (hP R37_16t6 [108] [9,10,102,103,104,105,106,107,108,109,110,111,112,113,114,115,116,117,118,119,120,121,122,123,124,125,126,127,128,129,130]) (ai (hP R37_16t7 [109] [9,10,102,103,104,105,106,107,108,109,110,111,112,113,114,115,116,117,118,119,120,121,122,123,124,125,126,127,128,129,130]) (ai (hP R37_16t8 [] [9,10,102,103,104,105,106,107,108,109,110,111,112,113,114,115,116,117,118,119,120,121,122,123,124,125,126,127,128,129,130]) (ai (hP R37_16t9 [111] [9,10,102,103,104,105,106,107,108,109,110,111,112,113,114,115,116,117,118,119,120,121,122,123,124,125,126,127,128,129,130]) (ai (hP R37_16t10 [112] [9,10,102,103,104,105,106,107,108,109,110,111,112,113,114,115,116,117,118,119,120,121,122,123,124,125,126,127,128,129,130]) (ai (hU R37_16t11 [103,106,110,113,114,115,116] [117] [9,10,102,103,104,105,106,107,108,109,110,111,112,113,114,115,116,117,118,119,120,121,122,123,124,125,126,127,128,129,130] 118 [([(106,true,.t 106)],.pick (.t 110) (.c (.s (.bool true))) (.t 113))] [(117,.pick (.t 103) (.c (.s (.bool true))) (.pick (.t 106) (.pick (.t 110) (.c (.s (.bool true))) (.t 113)) (.c (.s (.bool false)))))] [.keep [(106,true,.t 106)] (.pick (.t 110) (.c (.s (.bool true))) (.t 113)),.sub 0 [2] [103],sb [],sb []]) (ai (hP R37_16t12 [10] [9,10,102,103,104,105,106,107,108,109,110,111,112,113,114,115,116,117,118,119,120,121,122,123,124,125,126,127,128,129,130]) (ai (hP R37_16t13 [118] [9,10,102,103,104,105,106,107,108,109,110,111,112,113,114,115,116,117,118,119,120,121,122,123,124,125,126,127,128,129,130]) (ai (hP R37_16t14 [119] [9,10,102,103,104,105,106,107,108,109,110,111,112,113,114,115,116,117,118,119,120,121,122,123,124,125,126,127,128,129,130]) (ai (hP R37_16t15 [] [9,10,102,103,104,105,106,107,108,109,110,111,112,113,114,115,116,117,118,119,120,121,122,123,124,125,126,127,128,129,130]) (ai (hP R37_16t16 [121] [9,10,102,103,104,105,106,107,108,109,110,111,112,113,114,115,116,117,118,119,120,121,122,123,124,125,126,127,128,129,130]) (ai (hP R37_16t17 [122] [9,10,102,103,104,105,106,107,108,109,110,111,112,113,114,115,116,117,118,119,120,121,122,123,124,125,126,127,128,129,130]) (ai (hP R37_16t18 [123] [9,10,102,103,104,105,106,107,108,109,110,111,112,113,114,115,116,117,118,119,120,121,122,123,124,125,126,127,128,129,130]) (ai (hP R37_16t19 [9] [9,10,102,103,104,105,106,107,108,109,110,111,112,113,114,115,116,117,118,119,120,121,122,123,124,125,126,127,128,129,130]) (ai (hP R37_16t20 [125] [9,10,102,103,104,105,106,107,108,109,110,111,112,113,114,115,116,117,118,119,120,121,122,123,124,125,126,127,128,129,130]) (ai (hP R37_16t21 [126] [9,10,102,103,104,105,106,107,108,109,110,111,112,113,114,115,116,117,118,119,120,121,122,123,124,125,126,127,128,129,130]) (ai (hV R37_16t22 [9,10,102,103,104,105,106,107,108,109,110,111,112,113,114,115,116,117,118,119,120,121,122,123,124,125,126,127,128,129,130] [11] 131 [([(120,true,.t 120)],.pick (.t 124) (.c (.s (.bool true))) (.t 127))] [(11,.pick (.t 117) (.c (.s (.bool true))) (.pick (.t 120) (.pick (.t 124) (.c (.s (.bool true))) (.t 127)) (.c (.s (.bool false)))))] [.keep [(120,true,.t 120)] (.pick (.t 124) (.c (.s (.bool true))) (.t 127)),.sub 0 [2] [117],sb [],sb []]) (ai T37_17 (ai T37_18p0 (ai X37_18 (ai X37_18t1 (ai T37_18t2 (ai X37_18t2 (ai T37_19 (ai af7 (ai T37_20 (ai af6 (ai T37_21 (ai af5 (ai T37_22p0 (ai X37_22 (ai X37_22t1 (ai T37_22t2 (ai X37_22t2 (ai ada.eq_1 (ai adb.eq_1 (adc.eq_1))))))))))))))))))))))))))))))))))))))))))))))))))))))))))))))))))))))))))))))))))))))))))))))))))))))))))))))))))))))))))))))))))))))
def bis:=ai (hP R44_0 [0,2,3,4,5,6,7,8] K44_0) (ai (hP R44_0t1 [] K44_0) (ai (hV R44_0t2 K44_0 [] 4 [] [] [.cc (.s (.bool false))]) (ai (hQ K44_0 0) (ai (hK K44_0 1) (ai (hK K44_0 2) (ai (hQ K44_0 3) (ai (hU R44_1 [1] [4,5] [1,4,5,6,7,8] 6 [] [(4,eL (.t 1)),(5,.op (.mkFn 104 [] [.t 0]) [.t 1])] [sb [],.sub 1 [] []]) (ai (hP R44_1t1 [4,5] [1,4,5,6,7,8]) (ai (hU R44_1t2 [6] [7,8] [1,4,5,6,7,8] 9 [] [(7,.op (.extract (.t 0) 0) [.t 6]),(8,.op (.extract (.t 0) 1) [.t 6])] [sb [],.sub 1 [] []]) (ai (hP R44_1t3 [7] [1,4,5,6,7,8]) ((hV R44_1t4 [1,4,5,6,7,8] [3] 4 [] [(3,.t 8)] [.tt 8]))))))))))))
theorem bj3:qi Tryz.prog PX0 16=some (false,ag7.ntmps,ag7.results,ag7.body.bare):=by kernel_rfl
theorem bj2:qi Tryz.prog PX0 37=some (false,aj0.ntmps,aj0.results,aj0.body.bare):=by kernel_rfl
theorem bj1:qi Tryz.prog PX0 44=some (false,ajz.ntmps,ajz.results,ajz.body.bare):=by kernel_rfl
abbrev a2x:Nat:=10
def K10_0:List Nat:=[0] ++ List.range' 2 96
def R10_0t1:LO:=[q 2 (.move (.c (.s (.string ⟨#[]⟩)))),q 3 (.move (.c (.s (.int .i64 0))))]
def R10_0p0:LO:=[⟨some 1,.box (.t 0),none⟩]
def R10_0:LO:=R10_0p0 ++ R10_0t1
def K10_0p0:List Nat:=[0] ++ List.range' 2 96
theorem X10_0 (call:ni) (it:zt) (base:Nat) (f:List V) (H:Heap):evC call it base (.region R10_0 [] K10_0) f H=abl call it base (.region R10_0t1 [] K10_0) (akk [] R10_0p0 K10_0p0 (mi call base [⟨some 1,.box (.t 0),none⟩] f H)):=(abu call it base R10_0p0 R10_0t1 (kc:=K10_0p0) (by kernel_rfl) f H).trans (by rw [zh];rfl)
def R10_1t1:LO:=[q 19 (.lenS .s (.t 18)),q 20 (.move (.c (.s (.int .i64 0))))]
def R10_1:LO:=⟨some 18,.buildSl 1 2 [.s (.int .u8 0),.s (.int .u8 0)] [(0,.c (.s (.int .u8 2))),(1,.c (.s (.int .u8 9)))],none⟩ :: R10_1t1
def R10_2:LO:=[q 21 (.bin .lss (.t 20) (.t 19))]
def R10_3:LO:=[q 22 (.indexAddr 1 (.t 18) (.t 20)),oL 23 22,oM 5 23]
def R10_4t5:LO:=[oM 7 29]
def R10_4t4:LO:=⟨none,.store 3 (.t 6) (.t 28),none⟩ :: R10_4t5
def R10_4t3:LO:=⟨some 6,.alloc [.s (.int .i64 0),.s (.int .i64 0),.s (.int .i64 0)],none⟩ :: R10_4t4
def R10_4p2:LO:=[oM 24 27,q 28 (.extract (.t 24) 0),q 29 (.extract (.t 24) 1)]
def R10_4t2:LO:=R10_4p2 ++ R10_4t3
def R10_4t1:LO:=⟨some 27,.call (.c (.fn 16 [] [])) [.t 25,.t 26],none⟩ :: R10_4t2
def R10_4p0:LO:=[q 25 (.load true 1 (.t 1)),oM 26 5]
def R10_4:LO:=R10_4p0 ++ R10_4t1
def R10_5:LO:=[oM 30 7]
def R10_6:LO:=[q 2 (.move (.c (.s (.string ⟨#[]⟩)))),q 3 (.move (.c (.s (.int .i64 5))))]
def R10_7:LO:=[q 31 (.bin .add (.t 20) (.c (.s (.int .i64 1)))),oM 20 31]
def ai4:ACode:=
 (.seq (.regionE R10_2 [] [21])
 (.seq (.cond (.t 21)
 .skip
 (.exit 0))
 (.seq (.block 1
 (.seq (.regionE R10_3 [21,22,23] [5])
 (.seq (.region R10_4 [] [5,6,24,25,26,27,28,29])
 (.seq (.regionE R10_5 [7] [30])
 (.cond (.t 30)
 (.seq (.regionE R10_6 [1,18,19,20,30] [2,3])
 .ret)
 .skip)))))
 (.regionE R10_7 [30,31] [20]))))
def afh:ACode:=ai4
def aan:=hE afh ai4
def R10_8t1:LO:=[oM 8 32]
def R10_8:LO:=⟨some 32,.call (.c (.fn 17 [] [])) [],none⟩ :: R10_8t1
def R10_9:LO:=[⟨some 9,.alloc [.unk,.s (.slice none 0 0)],none⟩]
def R10_10:LO:=[q 33 (.mkFn 18 [] [.t 9]),oM 10 33]
def R10_11:LO:=[oF 34 0 1,oL 35 34,q 36 (.lenS .s (.t 35)),q 37 (.move (.c (.s (.int .i64 0))))]
def R10_12:LO:=[q 38 (.bin .lss (.t 37) (.t 36))]
def R10_13t2:LO:=[⟨none,.store 3 (.t 12) (.t 40),none⟩]
def R10_13t1:LO:=⟨some 12,.alloc [.s (.string ⟨#[]⟩),.s (.slice none 0 0),.s (.slice none 0 0)],none⟩ :: R10_13t2
def R10_13p0:LO:=[q 39 (.indexAddr 3 (.t 35) (.t 37)),q 40 (.load true 3 (.t 39))]
def R10_13:LO:=R10_13p0 ++ R10_13t1
def R10_14t6:LO:=[⟨some 51,.call (.t 41) [.t 50],none⟩]
def R10_14t5:LO:=⟨some 50,.buildSl 1 1 [.s (.string ⟨#[]⟩)] [(0,.t 49)],none⟩ :: R10_14t6
def R10_14t4:LO:=⟨some 49,.call (.c (.fn 21 [] [])) [.t 48],none⟩ :: R10_14t5
def R10_14t3:LO:=⟨some 48,.buildSl 1 3 [.s (.string ⟨#[]⟩),.s (.string ⟨#[]⟩),.s (.string ⟨#[]⟩)] [(0,.c (.s (.string ⟨#[102,117,110,99]⟩))),(1,.t 47),(2,.c (.s (.string ⟨#[123]⟩)))],none⟩ :: R10_14t4
def R10_14p2:LO:=[q 47 (.bin .add (.t 43) (.t 46))]
def R10_14t2:LO:=R10_14p2 ++ R10_14t3
def R10_14t1:LO:=⟨some 46,.callR (.c (.fn 22 [] [])) [.t 45],none⟩ :: R10_14t2
def R10_14p0:LO:=[oM 41 10,oF 42 0 12,oL 43 42,oF 44 1 12,oL 45 44]
def R10_14:LO:=R10_14p0 ++ R10_14t1
def R10_15:LO:=[oF 52 2 12,oL 53 52,q 54 (.lenS .s (.t 53)),q 55 (.move (.c (.s (.int .i64 0))))]
def R10_16:LO:=[q 56 (.bin .lss (.t 55) (.t 54))]
def R10_17t2:LO:=[⟨none,.store 2 (.t 14) (.t 58),none⟩]
def R10_17t1:LO:=⟨some 14,.alloc [.s (.string ⟨#[]⟩),.s (.slice none 0 0)],none⟩ :: R10_17t2
def R10_17p0:LO:=[q 57 (.indexAddr 2 (.t 53) (.t 55)),q 58 (.load true 2 (.t 57))]
def R10_17:LO:=R10_17p0 ++ R10_17t1
def R10_18t2:LO:=[⟨some 63,.call (.t 59) [.t 62],none⟩]
def R10_18t1:LO:=⟨some 62,.buildSl 1 2 [.s (.string ⟨#[]⟩),.s (.string ⟨#[]⟩)] [(0,.t 61),(1,.c (.s (.string ⟨#[58]⟩)))],none⟩ :: R10_18t2
def R10_18p0:LO:=[oM 59 10,oF 60 0 14,oL 61 60]
def R10_18:LO:=R10_18p0 ++ R10_18t1
def R10_19:LO:=[oF 64 1 14,oL 65 64,q 66 (.lenS .s (.t 65)),q 67 (.move (.c (.s (.int .i64 0))))]
def R10_20:LO:=[q 68 (.bin .lss (.t 67) (.t 66))]
def R10_21t2:LO:=[⟨none,.store 8 (.t 16) (.t 70),none⟩]
def R10_21t1:LO:=⟨some 16,.alloc [.s (.int .u8 0),.s (.string ⟨#[]⟩),.s (.string ⟨#[]⟩),.s (.string ⟨#[]⟩),.s (.int .i64 0),.s (.string ⟨#[]⟩),.s (.slice none 0 0),.s (.slice none 0 0)],none⟩ :: R10_21t2
def R10_21p0:LO:=[q 69 (.indexAddr 8 (.t 65) (.t 67)),q 70 (.load true 8 (.t 69))]
def R10_21:LO:=R10_21p0 ++ R10_21t1
def R10_22t2:LO:=[oM 17 76]
def R10_22t1:LO:=⟨some 76,.call (.t 74) [.t 75],none⟩ :: R10_22t2
def R10_22p0:LO:=[oM 71 8,oF 72 0 16,oL 73 72,q 74 (.mapGet (.int .u8) (.s .nilFunc) (.t 71) (.t 73) false),q 75 (.load true 8 (.t 16))]
def R10_22:LO:=R10_22p0 ++ R10_22t1
def R10_23:LO:=[oF 77 1 16,oL 78 77,q 79 (.bin .neq (.t 78) (.c (.s (.string ⟨#[]⟩))))]
def R10_24t3:LO:=[oM 17 84]
def R10_24t2:LO:=⟨some 84,.call (.c (.fn 21 [] [])) [.t 83],none⟩ :: R10_24t3
def R10_24t1:LO:=⟨some 83,.buildSl 1 3 [.s (.string ⟨#[]⟩),.s (.string ⟨#[]⟩),.s (.string ⟨#[]⟩)] [(0,.t 81),(1,.c (.s (.string ⟨#[61]⟩))),(2,.t 82)],none⟩ :: R10_24t2
def R10_24p0:LO:=[oF 80 1 16,oL 81 80,oM 82 17]
def R10_24:LO:=R10_24p0 ++ R10_24t1
def R10_25t2:LO:=[⟨some 88,.call (.t 85) [.t 87],none⟩]
def R10_25t1:LO:=⟨some 87,.buildSl 1 2 [.s (.string ⟨#[]⟩),.s (.string ⟨#[]⟩)] [(0,.c (.s (.string ⟨#[32,32]⟩))),(1,.t 86)],none⟩ :: R10_25t2
def R10_25p0:LO:=[oM 85 10,oM 86 17]
def R10_25:LO:=R10_25p0 ++ R10_25t1
def R10_26:LO:=[q 89 (.bin .add (.t 67) (.c (.s (.int .i64 1)))),oM 67 89]
def ai3:ACode:=
 (.seq (.regionE R10_20 [] [68])
 (.seq (.cond (.t 68)
 .skip
 (.exit 6))
 (.seq (.block 7
 (.seq (.region R10_21 [] [68,69,70])
 (.seq (.region R10_22 [] [71,72,73,74,75,76])
 (.seq (.seq (.regionE R10_23 [77,78] [79])
 (.cond (.t 79)
 (.region R10_24 [] [16,79,80,81,82,83,84])
 .skip))
 (.region R10_25 [] [16,17,79,85,86,87,88])))))
 (.regionE R10_26 [89] [67]))))
def adt:ACode:=ai3
def ads:=hE adt ai3
def R10_27:LO:=[q 90 (.bin .add (.t 55) (.c (.s (.int .i64 1)))),oM 55 90]
def ai2:ACode:=
 (.seq (.regionE R10_16 [] [56])
 (.seq (.cond (.t 56)
 .skip
 (.exit 4))
 (.seq (.block 5
 (.seq (.region R10_17 [] [56,57,58])
 (.seq (.region R10_18 [] [59,60,61,62,63])
 (.seq (.regionE R10_19 [14,64] [65,66,67])
 (.block 6
 (.loop [] adt))))))
 (.regionE R10_27 [65,66,67,68,90] [55]))))
def adr:ACode:=ai2
def adq:=hE adr ai2
def R10_28t2:LO:=[⟨some 93,.call (.t 91) [.t 92],none⟩]
def R10_28t1:LO:=⟨some 92,.buildSl 1 1 [.s (.string ⟨#[]⟩)] [(0,.c (.s (.string ⟨#[125]⟩)))],none⟩ :: R10_28t2
def R10_28p0:LO:=[oM 91 10]
def R10_28:LO:=R10_28p0 ++ R10_28t1
def R10_29:LO:=[q 94 (.bin .add (.t 37) (.c (.s (.int .i64 1)))),oM 37 94]
def ai1:ACode:=
 (.seq (.regionE R10_12 [] [38])
 (.seq (.cond (.t 38)
 .skip
 (.exit 2))
 (.seq (.block 3
 (.seq (.region R10_13 [] [38,39,40])
 (.seq (.region R10_14 [] [41,42,43,44,45,46,47,48,49,50,51])
 (.seq (.seq (.regionE R10_15 [12,52] [53,54,55])
 (.block 4
 (.loop [] adr)))
 (.region R10_28 [] [53,54,55,56,91,92,93])))))
 (.regionE R10_29 [94] [37]))))
def adp:ACode:=ai1
def ab8:=hE adp ai1
def R10_30t1:LO:=[q 96 (.bin .gtr (.t 95) (.c (.s (.int .i64 1048576))))]
def R10_30:LO:=⟨some 95,.call (.c (.fn 23 [] [])) [.t 9],none⟩ :: R10_30t1
def R10_31:LO:=[q 2 (.move (.c (.s (.string ⟨#[]⟩)))),q 3 (.move (.c (.s (.int .i64 2))))]
def R10_32t1:LO:=[oM 2 97,q 3 (.move (.c (.s (.int .i64 0))))]
def R10_32:LO:=⟨some 97,.call (.c (.fn 24 [] [])) [.t 9],none⟩ :: R10_32t1
def aeu:ACFun:={ ntmps:=98,results:=[.tmp 2,.tmp 3],body:=
 (.seq (.region R10_0 [] K10_0)
 (.seq (.seq (.region R10_1 [] [])
 (.block 0
 (.loop [] afh)))
 (.seq (.region R10_8 [] [18,19,20,21,32])
 (.seq (.region R10_9 [] [])
 (.seq (.regionE R10_10 [33] [10])
 (.seq (.seq (.regionE R10_11 [1,34] [35,36,37])
 (.block 2
 (.loop [] adp)))
 (.seq (.seq (.region R10_30 [] [8,10,35,36,37,38,95])
 (.cond (.t 96)
 (.seq (.regionE R10_31 [9,96] [2,3])
 .ret)
 .skip))
 (.seq (.region R10_32 [] [9,96,97])
 .ret)))))))) }
theorem agi:l9 (List.range' 1 (aeu.ntmps - 1)) aeu.body=true:=by kernel_rfl
abbrev bdv:Nat:=17
def K17_0:List Nat:=List.range' 0 7
theorem avf:y5 K17_0 (si 7 [] 0)=[]:=by kernel_rfl
def R17_0:LO:=[q 0 (.move (.c (.s (.map none))))]
def R17_1t1:LO:=[⟨none,.store 1 (.t 1) (.c (.fn 52 [] [])),none⟩]
def R17_1:LO:=⟨some 1,.alloc [.s .nilFunc],none⟩ :: R17_1t1
def R17_2t18:LO:=[oM 6 2,oM 0 6]
def R17_2t17:LO:=⟨none,.mapUpd (.int .u8) (.t 2) (.c (.s (.int .u8 14))) (.c (.fn 68 [] [])),none⟩ :: R17_2t18
def R17_2t16:LO:=⟨none,.mapUpd (.int .u8) (.t 2) (.c (.s (.int .u8 13))) (.c (.fn 67 [] [])),none⟩ :: R17_2t17
def R17_2t15:LO:=⟨none,.mapUpd (.int .u8) (.t 2) (.c (.s (.int .u8 12))) (.c (.fn 66 [] [])),none⟩ :: R17_2t16
def R17_2t14:LO:=⟨none,.mapUpd (.int .u8) (.t 2) (.c (.s (.int .u8 11))) (.c (.fn 65 [] [])),none⟩ :: R17_2t15
def R17_2t13:LO:=⟨none,.mapUpd (.int .u8) (.t 2) (.c (.s (.int .u8 10))) (.c (.fn 64 [] [])),none⟩ :: R17_2t14
def R17_2t12:LO:=⟨none,.mapUpd (.int .u8) (.t 2) (.c (.s (.int .u8 9))) (.c (.fn 63 [] [])),none⟩ :: R17_2t13
def R17_2t11:LO:=⟨none,.mapUpd (.int .u8) (.t 2) (.c (.s (.int .u8 8))) (.c (.fn 62 [] [])),none⟩ :: R17_2t12
def R17_2t10:LO:=⟨none,.mapUpd (.int .u8) (.t 2) (.c (.s (.int .u8 7))) (.t 5),none⟩ :: R17_2t11
def R17_2p9:LO:=[q 5 (.mkFn 61 [] [.t 1])]
def R17_2t9:LO:=R17_2p9 ++ R17_2t10
def R17_2t8:LO:=⟨none,.mapUpd (.int .u8) (.t 2) (.c (.s (.int .u8 6))) (.c (.fn 59 [] [])),none⟩ :: R17_2t9
def R17_2t7:LO:=⟨none,.mapUpd (.int .u8) (.t 2) (.c (.s (.int .u8 5))) (.c (.fn 58 [] [])),none⟩ :: R17_2t8
def R17_2t6:LO:=⟨none,.mapUpd (.int .u8) (.t 2) (.c (.s (.int .u8 4))) (.c (.fn 57 [] [])),none⟩ :: R17_2t7
def R17_2t5:LO:=⟨none,.mapUpd (.int .u8) (.t 2) (.c (.s (.int .u8 3))) (.c (.fn 56 [] [])),none⟩ :: R17_2t6
def R17_2t4:LO:=⟨none,.mapUpd (.int .u8) (.t 2) (.c (.s (.int .u8 2))) (.t 4),none⟩ :: R17_2t5
def R17_2p3:LO:=[q 4 (.mkFn 55 [] [.t 1])]
def R17_2t3:LO:=R17_2p3 ++ R17_2t4
def R17_2t2:LO:=⟨none,.mapUpd (.int .u8) (.t 2) (.c (.s (.int .u8 1))) (.t 3),none⟩ :: R17_2t3
def R17_2p1:LO:=[q 3 (.mkFn 54 [] [.t 1])]
def R17_2t1:LO:=R17_2p1 ++ R17_2t2
def R17_2:LO:=⟨some 2,.mapNew,none⟩ :: R17_2t1
def apu:ACFun:={ ntmps:=7,results:=[.tmp 0],body:=
 (.seq (.regionE R17_0 K17_0 [])
 (.seq (.region R17_1 [] [])
 (.seq (.region R17_2 [] [1,2,3,4,5,6])
 .ret))) }
abbrev a8z:Nat:=18
def K18_0:List Nat:=List.range' 0 7
def R18_0t3:LO:=[⟨some 6,.call (.c (.fn 19 [] [])) [.t 1,.t 5],none⟩]
def R18_0p2:LO:=[q 5 (.bin .add (.t 4) (.c (.s (.string ⟨#[10]⟩))))]
def R18_0t2:LO:=R18_0p2 ++ R18_0t3
def R18_0t1:LO:=⟨some 4,.call (.c (.fn 20 [] [])) [.t 3,.c (.s (.string ⟨#[]⟩))],none⟩ :: R18_0t2
def R18_0p0:LO:=[oM 3 0]
def R18_0:LO:=R18_0p0 ++ R18_0t1
def an2:ACFun:={ ntmps:=7,results:=[],body:=
 (.region R18_0 [] K18_0) }
theorem ave:l9 (List.range' 2 (an2.ntmps - 2)) an2.body=true:=by kernel_rfl
abbrev a8y:Nat:=19
def K19_0:List Nat:=List.range' 2 17
theorem avd:y5 K19_0 (si 19 [] 2)=[]:=by kernel_rfl
def R19_0:LO:=[q 4 (.move (.c (.s (.int .i64 0)))),q 5 (.move (.c (.s .nilIface)))]
def R19_1t1:LO:=[⟨some 7,.call (.c (.fn 70 [] [])) [.t 6],none⟩]
def R19_1p0:LO:=[oM 6 0]
def R19_1:LO:=R19_1p0 ++ R19_1t1
def R19_2t3:LO:=[⟨none,.store 1 (.t 16) (.t 14),none⟩]
def R19_2p2:LO:=[q 15 (.nilCheck (.t 8)),oF 16 1 15]
def R19_2t2:LO:=R19_2p2 ++ R19_2t3
def R19_2t1:LO:=⟨some 14,.append 1 1 (.t 12) (.t 13),none⟩ :: R19_2t2
def R19_2p0:LO:=[oM 8 0,oM 9 0,q 10 (.nilCheck (.t 9)),oF 11 1 10,oL 12 11,oM 13 1]
def R19_2:LO:=R19_2p0 ++ R19_2t1
def R19_3:LO:=[oM 17 1,q 18 (.lenS .p (.t 17)),oM 4 18,q 5 (.move (.c (.s .nilIface)))]
def ait:ACFun:={ ntmps:=19,results:=[.tmp 4,.tmp 5],body:=
 (.seq (.regionE R19_0 K19_0 [])
 (.seq (.region R19_1 [] [6,7])
 (.seq (.region R19_2 [] [0,8,9,10,11,12,13,14,15,16])
 (.seq (.regionE R19_3 [1,17,18] [4,5])
 .ret)))) }
abbrev bdu:Nat:=21
def K21_0:List Nat:=[1,2,3,4]
theorem avc:y5 K21_0 (si 5 [] 1)=[]:=by kernel_rfl
def R21_0:LO:=[q 2 (.move (.c (.s (.string ⟨#[]⟩))))]
def R21_1t2:LO:=[oM 2 4]
def R21_1t1:LO:=⟨some 4,.call (.c (.fn 20 [] [])) [.t 3,.c (.s (.string ⟨#[32]⟩))],none⟩ :: R21_1t2
def R21_1p0:LO:=[oM 3 0]
def R21_1:LO:=R21_1p0 ++ R21_1t1
def apt:ACFun:={ ntmps:=5,results:=[.tmp 2],body:=
 (.seq (.regionE R21_0 K21_0 [])
 (.seq (.region R21_1 [] [0,3,4])
 .ret)) }
abbrev bdt:Nat:=22
def K22_0:List Nat:=List.range' 1 6
theorem avb:y5 K22_0 (si 7 [] 1)=[]:=by kernel_rfl
def R22_0:LO:=[q 2 (.move (.c (.s (.string ⟨#[]⟩))))]
def R22_1t2:LO:=[q 5 (.bin .add (.c (.s (.string ⟨#[40]⟩))) (.t 4)),q 6 (.bin .add (.t 5) (.c (.s (.string ⟨#[41]⟩)))),oM 2 6]
def R22_1t1:LO:=⟨some 4,.call (.c (.fn 20 [] [])) [.t 3,.c (.s (.string ⟨#[44,32]⟩))],none⟩ :: R22_1t2
def R22_1p0:LO:=[oM 3 0]
def R22_1:LO:=R22_1p0 ++ R22_1t1
def aps:ACFun:={ ntmps:=7,results:=[.tmp 2],body:=
 (.seq (.regionE R22_0 K22_0 [])
 (.seq (.region R22_1 [] [0,3,4,5,6])
 .ret)) }
abbrev bds:Nat:=23
def K23_0:List Nat:=List.range' 1 7
theorem ava:y5 K23_0 (si 8 [] 1)=[]:=by kernel_rfl
def R23_0:LO:=[q 2 (.move (.c (.s (.int .i64 0))))]
def R23_1:LO:=[oM 3 0,q 4 (.nilCheck (.t 3)),oF 5 1 4,oL 6 5,q 7 (.lenS .s (.t 6)),oM 2 7]
def an1:ACFun:={ ntmps:=8,results:=[.tmp 2],body:=
 (.seq (.regionE R23_0 K23_0 [])
 (.seq (.regionE R23_1 [0,3,4,5,6,7] [2])
 .ret)) }
abbrev ap7:Nat:=52
def K52_0:List Nat:=[0,2,3,4,5]
def R52_0t1:LO:=[q 2 (.move (.c (.s (.string ⟨#[]⟩))))]
def R52_0:LO:=⟨some 1,.box (.t 0),none⟩ :: R52_0t1
def R52_1t2:LO:=[oM 2 5]
def R52_1t1:LO:=⟨some 5,.call (.c (.fn 53 [] [])) [.t 4],none⟩ :: R52_1t2
def R52_1p0:LO:=[oF 3 4 1,oL 4 3]
def R52_1:LO:=R52_1p0 ++ R52_1t1
def aim:ACFun:={ ntmps:=6,results:=[.tmp 2],body:=
 (.seq (.region R52_0 [] K52_0)
 (.seq (.region R52_1 [] [1,3,4,5])
 .ret)) }
theorem au5:l9 (List.range' 1 (aim.ntmps - 1)) aim.body=true:=by kernel_rfl
abbrev bdl:Nat:=54
def K54_0:List Nat:=[0,3,4,5,6,7,8]
def R54_0t1:LO:=[q 3 (.move (.c (.s (.string ⟨#[]⟩))))]
def R54_0:LO:=⟨some 2,.box (.t 0),none⟩ :: R54_0t1
def R54_1t4:LO:=[oM 3 8]
def R54_1t3:LO:=⟨some 8,.call (.c (.fn 21 [] [])) [.t 7],none⟩ :: R54_1t4
def R54_1t2:LO:=⟨some 7,.buildSl 1 2 [.s (.string ⟨#[]⟩),.s (.string ⟨#[]⟩)] [(0,.c (.s (.string ⟨#[97,108,108,111,99,97]⟩))),(1,.t 6)],none⟩ :: R54_1t3
def R54_1t1:LO:=⟨some 6,.call (.t 4) [.t 5],none⟩ :: R54_1t2
def R54_1p0:LO:=[oL 4 1,q 5 (.load true 8 (.t 2))]
def R54_1:LO:=R54_1p0 ++ R54_1t1
def anx:ACFun:={ ntmps:=9,results:=[.tmp 3],body:=
 (.seq (.region R54_0 [] K54_0)
 (.seq (.region R54_1 [] [1,2,4,5,6,7,8])
 .ret)) }
theorem au4:l9 (List.range' 2 (anx.ntmps - 2)) anx.body=true:=by kernel_rfl
abbrev bdk:Nat:=55
def K55_0:List Nat:=[0,3,4,5,6,7,8]
def R55_0t1:LO:=[q 3 (.move (.c (.s (.string ⟨#[]⟩))))]
def R55_0:LO:=⟨some 2,.box (.t 0),none⟩ :: R55_0t1
def R55_1t4:LO:=[oM 3 8]
def R55_1t3:LO:=⟨some 8,.call (.c (.fn 21 [] [])) [.t 7],none⟩ :: R55_1t4
def R55_1t2:LO:=⟨some 7,.buildSl 1 2 [.s (.string ⟨#[]⟩),.s (.string ⟨#[]⟩)] [(0,.c (.s (.string ⟨#[109,97,108,108,111,99]⟩))),(1,.t 6)],none⟩ :: R55_1t3
def R55_1t1:LO:=⟨some 6,.call (.t 4) [.t 5],none⟩ :: R55_1t2
def R55_1p0:LO:=[oL 4 1,q 5 (.load true 8 (.t 2))]
def R55_1:LO:=R55_1p0 ++ R55_1t1
def anw:ACFun:={ ntmps:=9,results:=[.tmp 3],body:=
 (.seq (.region R55_0 [] K55_0)
 (.seq (.region R55_1 [] [1,2,4,5,6,7,8])
 .ret)) }
theorem au3:l9 (List.range' 2 (anw.ntmps - 2)) anw.body=true:=by kernel_rfl
abbrev bdj:Nat:=56
def K56_0:List Nat:=[0,1,2]
def R56_0t1:LO:=[q 2 (.move (.c (.s (.string ⟨#[]⟩))))]
def R56_0:LO:=⟨some 1,.box (.t 0),none⟩ :: R56_0t1
def R56_1:LO:=[q 2 (.move (.c (.s (.string ⟨#[110,117,108,108]⟩))))]
def anv:ACFun:={ ntmps:=3,results:=[.tmp 2],body:=
 (.seq (.region R56_0 [] K56_0)
 (.seq (.regionE R56_1 [] [2])
 .ret)) }
theorem au2:l9 (List.range' 1 (anv.ntmps - 1)) anv.body=true:=by kernel_rfl
abbrev bdi:Nat:=57
def K57_0:List Nat:=[0,2,3,4,5,6]
def R57_0t1:LO:=[q 2 (.move (.c (.s (.string ⟨#[]⟩))))]
def R57_0:LO:=⟨some 1,.box (.t 0),none⟩ :: R57_0t1
def R57_1t3:LO:=[oM 2 6]
def R57_1t2:LO:=⟨some 6,.call (.c (.fn 21 [] [])) [.t 5],none⟩ :: R57_1t3
def R57_1t1:LO:=⟨some 5,.buildSl 1 2 [.s (.string ⟨#[]⟩),.s (.string ⟨#[]⟩)] [(0,.c (.s (.string ⟨#[97,100,100,114]⟩))),(1,.t 4)],none⟩ :: R57_1t2
def R57_1p0:LO:=[oF 3 5 1,oL 4 3]
def R57_1:LO:=R57_1p0 ++ R57_1t1
def anu:ACFun:={ ntmps:=7,results:=[.tmp 2],body:=
 (.seq (.region R57_0 [] K57_0)
 (.seq (.region R57_1 [] [1,3,4,5,6])
 .ret)) }
theorem au1:l9 (List.range' 1 (anu.ntmps - 1)) anu.body=true:=by kernel_rfl
abbrev bdh:Nat:=58
def K58_0:List Nat:=[0,2,3,4,5,6]
def R58_0t1:LO:=[q 2 (.move (.c (.s (.string ⟨#[]⟩))))]
def R58_0:LO:=⟨some 1,.box (.t 0),none⟩ :: R58_0t1
def R58_1t3:LO:=[oM 2 6]
def R58_1t2:LO:=⟨some 6,.call (.c (.fn 21 [] [])) [.t 5],none⟩ :: R58_1t3
def R58_1t1:LO:=⟨some 5,.buildSl 1 2 [.s (.string ⟨#[]⟩),.s (.string ⟨#[]⟩)] [(0,.c (.s (.string ⟨#[99,111,112,121]⟩))),(1,.t 4)],none⟩ :: R58_1t2
def R58_1p0:LO:=[oF 3 2 1,oL 4 3]
def R58_1:LO:=R58_1p0 ++ R58_1t1
def ant:ACFun:={ ntmps:=7,results:=[.tmp 2],body:=
 (.seq (.region R58_0 [] K58_0)
 (.seq (.region R58_1 [] [1,3,4,5,6])
 .ret)) }
theorem au0:l9 (List.range' 1 (ant.ntmps - 1)) ant.body=true:=by kernel_rfl
abbrev bdg:Nat:=59
def K59_0:List Nat:=[0,2,3,4,5,6]
def R59_0t1:LO:=[q 2 (.move (.c (.s (.string ⟨#[]⟩))))]
def R59_0:LO:=⟨some 1,.box (.t 0),none⟩ :: R59_0t1
def R59_1t4:LO:=[oM 2 6]
def R59_1t3:LO:=⟨some 6,.call (.c (.fn 21 [] [])) [.t 5],none⟩ :: R59_1t4
def R59_1t2:LO:=⟨some 5,.buildSl 1 2 [.s (.string ⟨#[]⟩),.s (.string ⟨#[]⟩)] [(0,.c (.s (.string ⟨#[112,104,105]⟩))),(1,.t 4)],none⟩ :: R59_1t3
def R59_1t1:LO:=⟨some 4,.call (.c (.fn 60 [] [])) [.t 3],none⟩ :: R59_1t2
def R59_1p0:LO:=[q 3 (.load true 8 (.t 1))]
def R59_1:LO:=R59_1p0 ++ R59_1t1
def anr:ACFun:={ ntmps:=7,results:=[.tmp 2],body:=
 (.seq (.region R59_0 [] K59_0)
 (.seq (.region R59_1 [] [1,3,4,5,6])
 .ret)) }
theorem auz:l9 (List.range' 1 (anr.ntmps - 1)) anr.body=true:=by kernel_rfl
abbrev a8w:Nat:=60
def K60_0:List Nat:=[0] ++ List.range' 2 28
def R60_0t1:LO:=[q 2 (.move (.c (.s (.string ⟨#[]⟩))))]
def R60_0:LO:=⟨some 1,.box (.t 0),none⟩ :: R60_0t1
def R60_1:LO:=[q 3 (.move (.c (.s (.slice none 0 0))))]
def R60_2:LO:=[oF 6 7 1,oL 7 6,q 8 (.lenS .s (.t 7)),q 9 (.move (.c (.s (.int .i64 0))))]
def R60_3:LO:=[q 10 (.bin .lss (.t 9) (.t 8))]
def R60_4:LO:=[oM 11 9,q 12 (.indexAddr 1 (.t 7) (.t 9)),oL 13 12,oM 4 11,oM 5 13]
def R60_5t3:LO:=[oM 3 24]
def R60_5t2:LO:=⟨some 24,.append 1 16 (.t 14) (.t 23),none⟩ :: R60_5t3
def R60_5t1:LO:=⟨some 23,.buildSl 1 1 [.s (.string ⟨#[]⟩)] [(0,.t 22)],none⟩ :: R60_5t2
def R60_5p0:LO:=[oM 14 3,oM 15 5,q 16 (.bin .add (.t 15) (.c (.s (.string ⟨#[58,32]⟩)))),oF 17 6 1,oL 18 17,oM 19 4,q 20 (.indexAddr 1 (.t 18) (.t 19)),oL 21 20,q 22 (.bin .add (.t 16) (.t 21))]
def R60_5:LO:=R60_5p0 ++ R60_5t1
def R60_6:LO:=[q 25 (.bin .add (.t 9) (.c (.s (.int .i64 1)))),oM 9 25]
def ail:ACode:=
 (.seq (.regionE R60_3 [] [10])
 (.seq (.cond (.t 10)
 .skip
 (.exit 0))
 (.seq (.block 1
 (.seq (.regionE R60_4 [10,11,12,13] [4,5])
 (.region R60_5 [] [4,5,14,15,16,17,18,19,20,21,22,23,24])))
 (.regionE R60_6 [25] [9]))))
def apo:ACode:=ail
def af4:=hE apo ail
def R60_7t2:LO:=[q 28 (.bin .add (.c (.s (.string ⟨#[91]⟩))) (.t 27)),q 29 (.bin .add (.t 28) (.c (.s (.string ⟨#[93]⟩)))),oM 2 29]
def R60_7t1:LO:=⟨some 27,.call (.c (.fn 20 [] [])) [.t 26,.c (.s (.string ⟨#[44,32]⟩))],none⟩ :: R60_7t2
def R60_7p0:LO:=[oM 26 3]
def R60_7:LO:=R60_7p0 ++ R60_7t1
def ajy:ACFun:={ ntmps:=30,results:=[.tmp 2],body:=
 (.seq (.region R60_0 [] K60_0)
 (.seq (.regionE R60_1 [] [3])
 (.seq (.seq (.regionE R60_2 [6] [7,8,9])
 (.block 0
 (.loop [] apo)))
 (.seq (.region R60_7 [] [1,3,7,8,9,10,26,27,28,29])
 .ret)))) }
theorem auy:l9 (List.range' 1 (ajy.ntmps - 1)) ajy.body=true:=by kernel_rfl
abbrev bdf:Nat:=61
def K61_0:List Nat:=[0] ++ List.range' 3 8
def R61_0t1:LO:=[q 3 (.move (.c (.s (.string ⟨#[]⟩))))]
def R61_0:LO:=⟨some 2,.box (.t 0),none⟩ :: R61_0t1
def R61_1t4:LO:=[oM 3 10]
def R61_1t3:LO:=⟨some 10,.call (.c (.fn 21 [] [])) [.t 9],none⟩ :: R61_1t4
def R61_1t2:LO:=⟨some 9,.buildSl 1 3 [.s (.string ⟨#[]⟩),.s (.string ⟨#[]⟩),.s (.string ⟨#[]⟩)] [(0,.c (.s (.string ⟨#[102,105,101,108,100]⟩))),(1,.t 5),(2,.t 8)],none⟩ :: R61_1t3
def R61_1t1:LO:=⟨some 8,.callR (.t 6) [.t 7],none⟩ :: R61_1t2
def R61_1p0:LO:=[oF 4 2 2,oL 5 4,oL 6 1,q 7 (.load true 8 (.t 2))]
def R61_1:LO:=R61_1p0 ++ R61_1t1
def anq:ACFun:={ ntmps:=11,results:=[.tmp 3],body:=
 (.seq (.region R61_0 [] K61_0)
 (.seq (.region R61_1 [] [1,2,4,5,6,7,8,9,10])
 .ret)) }
theorem aux:l9 (List.range' 2 (anq.ntmps - 2)) anq.body=true:=by kernel_rfl
abbrev bde:Nat:=62
def K62_0:List Nat:=[0,2,3,4,5,6]
def R62_0t1:LO:=[q 2 (.move (.c (.s (.string ⟨#[]⟩))))]
def R62_0:LO:=⟨some 1,.box (.t 0),none⟩ :: R62_0t1
def R62_1t3:LO:=[oM 2 6]
def R62_1t2:LO:=⟨some 6,.call (.c (.fn 21 [] [])) [.t 5],none⟩ :: R62_1t3
def R62_1t1:LO:=⟨some 5,.buildSl 1 2 [.s (.string ⟨#[]⟩),.s (.string ⟨#[]⟩)] [(0,.c (.s (.string ⟨#[108,111,97,100]⟩))),(1,.t 4)],none⟩ :: R62_1t2
def R62_1p0:LO:=[oF 3 2 1,oL 4 3]
def R62_1:LO:=R62_1p0 ++ R62_1t1
def anp:ACFun:={ ntmps:=7,results:=[.tmp 2],body:=
 (.seq (.region R62_0 [] K62_0)
 (.seq (.region R62_1 [] [1,3,4,5,6])
 .ret)) }
theorem auw:l9 (List.range' 1 (anp.ntmps - 1)) anp.body=true:=by kernel_rfl
abbrev bdd:Nat:=63
def K63_0:List Nat:=[0] ++ List.range' 2 8
def R63_0t1:LO:=[q 2 (.move (.c (.s (.string ⟨#[]⟩))))]
def R63_0:LO:=⟨some 1,.box (.t 0),none⟩ :: R63_0t1
def R63_1t3:LO:=[oM 2 9]
def R63_1t2:LO:=⟨some 9,.call (.c (.fn 21 [] [])) [.t 8],none⟩ :: R63_1t3
def R63_1t1:LO:=⟨some 8,.buildSl 1 3 [.s (.string ⟨#[]⟩),.s (.string ⟨#[]⟩),.s (.string ⟨#[]⟩)] [(0,.c (.s (.string ⟨#[115,116,111,114,101]⟩))),(1,.t 5),(2,.t 7)],none⟩ :: R63_1t2
def R63_1p0:LO:=[oF 3 2 1,oL 4 3,q 5 (.bin .add (.t 4) (.c (.s (.string ⟨#[44]⟩)))),oF 6 3 1,oL 7 6]
def R63_1:LO:=R63_1p0 ++ R63_1t1
def ano:ACFun:={ ntmps:=10,results:=[.tmp 2],body:=
 (.seq (.region R63_0 [] K63_0)
 (.seq (.region R63_1 [] [1,3,4,5,6,7,8,9])
 .ret)) }
theorem auv:l9 (List.range' 1 (ano.ntmps - 1)) ano.body=true:=by kernel_rfl
abbrev bdc:Nat:=64
def K64_0:List Nat:=[0] ++ List.range' 2 9
def R64_0t1:LO:=[q 2 (.move (.c (.s (.string ⟨#[]⟩))))]
def R64_0:LO:=⟨some 1,.box (.t 0),none⟩ :: R64_0t1
def R64_1t5:LO:=[oM 2 10]
def R64_1t4:LO:=⟨some 10,.call (.c (.fn 21 [] [])) [.t 9],none⟩ :: R64_1t5
def R64_1t3:LO:=⟨some 9,.buildSl 1 2 [.s (.string ⟨#[]⟩),.s (.string ⟨#[]⟩)] [(0,.c (.s (.string ⟨#[99,97,108,108]⟩))),(1,.t 8)],none⟩ :: R64_1t4
def R64_1p2:LO:=[q 8 (.bin .add (.t 4) (.t 7))]
def R64_1t2:LO:=R64_1p2 ++ R64_1t3
def R64_1t1:LO:=⟨some 7,.callR (.c (.fn 22 [] [])) [.t 6],none⟩ :: R64_1t2
def R64_1p0:LO:=[oF 3 5 1,oL 4 3,oF 5 6 1,oL 6 5]
def R64_1:LO:=R64_1p0 ++ R64_1t1
def ann:ACFun:={ ntmps:=11,results:=[.tmp 2],body:=
 (.seq (.region R64_0 [] K64_0)
 (.seq (.region R64_1 [] [1,3,4,5,6,7,8,9,10])
 .ret)) }
theorem auu:l9 (List.range' 1 (ann.ntmps - 1)) ann.body=true:=by kernel_rfl
abbrev bdb:Nat:=65
def K65_0:List Nat:=[0] ++ List.range' 2 9
def R65_0t1:LO:=[q 2 (.move (.c (.s (.string ⟨#[]⟩))))]
def R65_0:LO:=⟨some 1,.box (.t 0),none⟩ :: R65_0t1
def R65_1t5:LO:=[oM 2 10]
def R65_1t4:LO:=⟨some 10,.call (.c (.fn 21 [] [])) [.t 9],none⟩ :: R65_1t5
def R65_1t3:LO:=⟨some 9,.buildSl 1 2 [.s (.string ⟨#[]⟩),.s (.string ⟨#[]⟩)] [(0,.c (.s (.string ⟨#[105,99,97,108,108]⟩))),(1,.t 8)],none⟩ :: R65_1t4
def R65_1p2:LO:=[q 8 (.bin .add (.t 4) (.t 7))]
def R65_1t2:LO:=R65_1p2 ++ R65_1t3
def R65_1t1:LO:=⟨some 7,.callR (.c (.fn 22 [] [])) [.t 6],none⟩ :: R65_1t2
def R65_1p0:LO:=[oF 3 2 1,oL 4 3,oF 5 6 1,oL 6 5]
def R65_1:LO:=R65_1p0 ++ R65_1t1
def anm:ACFun:={ ntmps:=11,results:=[.tmp 2],body:=
 (.seq (.region R65_0 [] K65_0)
 (.seq (.region R65_1 [] [1,3,4,5,6,7,8,9,10])
 .ret)) }
theorem aut:l9 (List.range' 1 (anm.ntmps - 1)) anm.body=true:=by kernel_rfl
abbrev bda:Nat:=66
def K66_0:List Nat:=[0] ++ List.range' 2 11
def R66_0t1:LO:=[q 2 (.move (.c (.s (.string ⟨#[]⟩))))]
def R66_0:LO:=⟨some 1,.box (.t 0),none⟩ :: R66_0t1
def R66_1t3:LO:=[oM 2 12]
def R66_1t2:LO:=⟨some 12,.call (.c (.fn 21 [] [])) [.t 11],none⟩ :: R66_1t3
def R66_1t1:LO:=⟨some 11,.buildSl 1 3 [.s (.string ⟨#[]⟩),.s (.string ⟨#[]⟩),.s (.string ⟨#[]⟩)] [(0,.c (.s (.string ⟨#[98,114]⟩))),(1,.t 6),(2,.t 10)],none⟩ :: R66_1t2
def R66_1p0:LO:=[oF 3 7 1,oL 4 3,q 5 (.indexAddr 1 (.t 4) (.c (.s (.int .i64 0)))),oL 6 5,oF 7 7 1,oL 8 7,q 9 (.indexAddr 1 (.t 8) (.c (.s (.int .i64 1)))),oL 10 9]
def R66_1:LO:=R66_1p0 ++ R66_1t1
def anl:ACFun:={ ntmps:=13,results:=[.tmp 2],body:=
 (.seq (.region R66_0 [] K66_0)
 (.seq (.region R66_1 [] [1,3,4,5,6,7,8,9,10,11,12])
 .ret)) }
theorem aus:l9 (List.range' 1 (anl.ntmps - 1)) anl.body=true:=by kernel_rfl
abbrev bc9:Nat:=67
def K67_0:List Nat:=[0,2,3,4,5,6,7,8]
def R67_0t1:LO:=[q 2 (.move (.c (.s (.string ⟨#[]⟩))))]
def R67_0:LO:=⟨some 1,.box (.t 0),none⟩ :: R67_0t1
def R67_1t3:LO:=[oM 2 8]
def R67_1t2:LO:=⟨some 8,.call (.c (.fn 21 [] [])) [.t 7],none⟩ :: R67_1t3
def R67_1t1:LO:=⟨some 7,.buildSl 1 2 [.s (.string ⟨#[]⟩),.s (.string ⟨#[]⟩)] [(0,.c (.s (.string ⟨#[103,111,116,111]⟩))),(1,.t 6)],none⟩ :: R67_1t2
def R67_1p0:LO:=[oF 3 7 1,oL 4 3,q 5 (.indexAddr 1 (.t 4) (.c (.s (.int .i64 0)))),oL 6 5]
def R67_1:LO:=R67_1p0 ++ R67_1t1
def ank:ACFun:={ ntmps:=9,results:=[.tmp 2],body:=
 (.seq (.region R67_0 [] K67_0)
 (.seq (.region R67_1 [] [1,3,4,5,6,7,8])
 .ret)) }
theorem aur:l9 (List.range' 1 (ank.ntmps - 1)) ank.body=true:=by kernel_rfl
abbrev bc8:Nat:=68
def K68_0:List Nat:=[0,2,3,4,5,6,7]
def R68_0t1:LO:=[q 2 (.move (.c (.s (.string ⟨#[]⟩))))]
def R68_0:LO:=⟨some 1,.box (.t 0),none⟩ :: R68_0t1
def R68_1t4:LO:=[oM 2 7]
def R68_1t3:LO:=⟨some 7,.call (.c (.fn 69 [] [])) [.t 6,.c (.s (.string ⟨#[32]⟩))],none⟩ :: R68_1t4
def R68_1t2:LO:=⟨some 6,.call (.c (.fn 21 [] [])) [.t 5],none⟩ :: R68_1t3
def R68_1t1:LO:=⟨some 5,.buildSl 1 2 [.s (.string ⟨#[]⟩),.s (.string ⟨#[]⟩)] [(0,.c (.s (.string ⟨#[114,101,116]⟩))),(1,.t 4)],none⟩ :: R68_1t2
def R68_1p0:LO:=[oF 3 2 1,oL 4 3]
def R68_1:LO:=R68_1p0 ++ R68_1t1
def anj:ACFun:={ ntmps:=8,results:=[.tmp 2],body:=
 (.seq (.region R68_0 [] K68_0)
 (.seq (.region R68_1 [] [1,3,4,5,6,7])
 .ret)) }
theorem auq:l9 (List.range' 1 (anj.ntmps - 1)) anj.body=true:=by kernel_rfl
abbrev bhu:Nat:=20
abbrev bht:Nat:=24
abbrev bhs:Nat:=53
abbrev bhr:Nat:=69
abbrev uz:Nat:=70
def afb:=ai (hQ K10_0p0 0) (ai (hK K10_0p0 1) (ai (hQ K10_0p0 2) (ai (hQ K10_0p0 3) (ai X10_0 (ai (hV R10_0t1 K10_0 [] 4 [] [] [.cc (.s (.string ⟨#[]⟩)),.cc (.s (.int .i64 0))]) (ai (hQ K10_0 0) (ai (hK K10_0 1) (ai (hQ K10_0 2) (ai (hQ K10_0 3) (ai (hP R10_1 [] []) (ai (hV R10_1t1 [] [19,20] 21 [] [(19,.op (.lenS .s (.t 0)) [.t 18]),(20,.c (.s (.int .i64 0)))] [sb [],.cc (.s (.int .i64 0))]) (ai (hT R10_2 [] [21] 22 [] [(21,.op (.bin .lss (.t 0) (.t 1)) [.t 20,.t 19])] [sb []]) (ai (hT R10_3 [21,22,23] [5] 24 [] [(5,eL (.op (.indexAddr 1 (.t 0) (.t 1)) [.t 18,.t 20]))] [sb [0],sb [],sb []]) (ai (hU R10_4 [5] [25,26] [5,6,24,25,26,27,28,29] 27 [] [(25,.op (.load true 1 (.t 0)) [.t 1]),(26,.t 5)] [sb [],.tt 5]) (ai (hP R10_4t1 [25,26] [5,6,24,25,26,27,28,29]) (ai (hU R10_4t2 [24,27] [28,29] [5,6,24,25,26,27,28,29] 30 [] [(28,.op (.extract (.t 0) 0) [.t 27]),(29,.op (.extract (.t 0) 1) [.t 27])] [.tt 27,sb [],.sub 1 [] []]) (ai (hP R10_4t3 [] [5,6,24,25,26,27,28,29]) (ai (hP R10_4t4 [6,28] [5,6,24,25,26,27,28,29]) (ai (hV R10_4t5 [5,6,24,25,26,27,28,29] [7] 8 [] [(7,.t 29)] [.tt 29]) (ai (hT R10_5 [7] [30] 31 [] [(30,.t 7)] [.tt 7]) (ai (hT R10_6 [1,18,19,20,30] [2,3] 4 [] [(2,.c (.s (.string ⟨#[]⟩))),(3,.c (.s (.int .i64 5)))] [.cc (.s (.string ⟨#[]⟩)),.cc (.s (.int .i64 5))]) (ai (hT R10_7 [30,31] [20] 32 [] [(20,.op (.bin .add (.t 0) (.c (.s (.int .i64 1)))) [.t 20,.c (.s (.int .i64 1))])] [sb [],sb []]) (ai aan (ai (hP R10_8 [18,19,20,21] [18,19,20,21,32]) (ai (hV R10_8t1 [18,19,20,21,32] [8] 9 [] [(8,.t 32)] [.tt 32]) (ai (hX R10_9 []) (ai (hT R10_10 [33] [10] 34 [] [(10,.op (.mkFn 18 [] [.t 0]) [.t 9])] [sb [],sb []]) (ai (hT R10_11 [1,34] [35,36,37] 38 [] [(35,eL (eF 0 (.t 1))),(36,.op (.lenS .s (.t 0)) [eL (eF 0 (.t 1))]),(37,.c (.s (.int .i64 0)))] [sb [0],sb [],.sub 1 [] [],.cc (.s (.int .i64 0))]) (ai (hT R10_12 [] [38] 39 [] [(38,.op (.bin .lss (.t 0) (.t 1)) [.t 37,.t 36])] [sb []]) (ai (hU R10_13 [38,39] [40] [38,39,40] 41 [] [(40,.op (.load true 3 (.t 0)) [.op (.indexAddr 3 (.t 0) (.t 1)) [.t 35,.t 37]])] [sb [0],sb []]) (ai (hP R10_13t1 [] [38,39,40]) (ai (hX R10_13t2 [38,39,40]) (ai (hU R10_14 [42,44] [41,43,45] [41,42,43,44,45,46,47,48,49,50,51] 46 [] [(41,.t 10),(43,eL (eF 0 (.t 12))),(45,eL (eF 1 (.t 12)))] [.tt 10,.sub 1 [0] [],.sub 1 [] [],.sub 2 [0] [],.sub 2 [] []]) (ai (hP R10_14t1 [45] [41,42,43,44,45,46,47,48,49,50,51]) (ai (hU R10_14t2 [43,46] [47] [41,42,43,44,45,46,47,48,49,50,51] 48 [] [(47,.op (.bin .add (.t 0) (.t 1)) [.t 43,.t 46])] [sb []]) (ai (hP R10_14t3 [47] [41,42,43,44,45,46,47,48,49,50,51]) (ai (hP R10_14t4 [48] [41,42,43,44,45,46,47,48,49,50,51]) (ai (hP R10_14t5 [49] [41,42,43,44,45,46,47,48,49,50,51]) (ai (hX R10_14t6 [41,42,43,44,45,46,47,48,49,50,51]) (ai (hT R10_15 [12,52] [53,54,55] 56 [] [(53,eL (eF 2 (.t 12))),(54,.op (.lenS .s (.t 0)) [eL (eF 2 (.t 12))]),(55,.c (.s (.int .i64 0)))] [sb [0],sb [],.sub 1 [] [],.cc (.s (.int .i64 0))]) (ai (hT R10_16 [] [56] 57 [] [(56,.op (.bin .lss (.t 0) (.t 1)) [.t 55,.t 54])] [sb []]) (ai (hU R10_17 [56,57] [58] [56,57,58] 59 [] [(58,.op (.load true 2 (.t 0)) [.op (.indexAddr 2 (.t 0) (.t 1)) [.t 53,.t 55]])] [sb [0],sb []]) (ai (hP R10_17t1 [] [56,57,58]) (ai (hX R10_17t2 [56,57,58]) (ai (hU R10_18 [60] [59,61] [59,60,61,62,63] 62 [] [(59,.t 10),(61,eL (eF 0 (.t 14)))] [.tt 10,.sub 1 [0] [],.sub 1 [] []]) (ai (hP R10_18t1 [61] [59,60,61,62,63]) (ai (hX R10_18t2 [59,60,61,62,63]) (ai (hT R10_19 [14,64] [65,66,67] 68 [] [(65,eL (eF 1 (.t 14))),(66,.op (.lenS .s (.t 0)) [eL (eF 1 (.t 14))]),(67,.c (.s (.int .i64 0)))] [sb [0],sb [],.sub 1 [] [],.cc (.s (.int .i64 0))]) (ai (hT R10_20 [] [68] 69 [] [(68,.op (.bin .lss (.t 0) (.t 1)) [.t 67,.t 66])] [sb []]) (ai (hU R10_21 [68,69] [70] [68,69,70] 71 [] [(70,.op (.load true 8 (.t 0)) [.op (.indexAddr 8 (.t 0) (.t 1)) [.t 65,.t 67]])] [sb [0],sb []]) (ai (hP R10_21t1 [] [68,69,70]) (ai (hX R10_21t2 [68,69,70]) (ai (hU R10_22 [71,72,73] [74,75] [71,72,73,74,75,76] 76 [] [(74,.op (.mapGet (.int .u8) (.s .nilFunc) (.t 0) (.t 1) false) [.t 8,eL (eF 0 (.t 16))]),(75,.op (.load true 8 (.t 0)) [.t 16])] [.tt 8,sb [1,0],sb [1],sb [],.sub 1 [] []]) (ai (hP R10_22t1 [74,75] [71,72,73,74,75,76]) (ai (hV R10_22t2 [71,72,73,74,75,76] [17] 18 [] [(17,.t 76)] [.tt 76]) (ai (hT R10_23 [77,78] [79] 80 [] [(79,.op (.bin .neq (.t 0) (.c (.s (.string ⟨#[]⟩)))) [eL (eF 1 (.t 16)),.c (.s (.string ⟨#[]⟩))])] [sb [0,0],sb [0],sb []]) (ai (hU R10_24 [16,17,79,80] [81,82] [16,79,80,81,82,83,84] 83 [] [(81,eL (eF 1 (.t 16))),(82,.t 17)] [sb [0],sb [],.tt 17]) (ai (hP R10_24t1 [81,82] [16,79,80,81,82,83,84]) (ai (hP R10_24t2 [83] [16,79,80,81,82,83,84]) (ai (hV R10_24t3 [16,79,80,81,82,83,84] [17] 18 [] [(17,.t 84)] [.tt 84]) (ai (hU R10_25 [16,17,79] [85,86] [16,17,79,85,86,87,88] 87 [] [(85,.t 10),(86,.t 17)] [.tt 10,.tt 17]) (ai (hP R10_25t1 [86] [16,17,79,85,86,87,88]) (ai (hX R10_25t2 [16,17,79,85,86,87,88]) (ai (hT R10_26 [89] [67] 90 [] [(67,.op (.bin .add (.t 0) (.c (.s (.int .i64 1)))) [.t 67,.c (.s (.int .i64 1))])] [sb [],sb []]) (ai ads (ai (hT R10_27 [65,66,67,68,90] [55] 91 [] [(55,.op (.bin .add (.t 0) (.c (.s (.int .i64 1)))) [.t 55,.c (.s (.int .i64 1))])] [sb [],sb []]) (ai adq (ai (hU R10_28 [53,54,55,56] [91] [53,54,55,56,91,92,93] 92 [] [(91,.t 10)] [.tt 10]) (ai (hP R10_28t1 [] [53,54,55,56,91,92,93]) (ai (hX R10_28t2 [53,54,55,56,91,92,93]) (ai (hT R10_29 [94] [37] 95 [] [(37,.op (.bin .add (.t 0) (.c (.s (.int .i64 1)))) [.t 37,.c (.s (.int .i64 1))])] [sb [],sb []]) (ai ab8 (ai (hP R10_30 [8,10,35,36,37,38] [8,10,35,36,37,38,95]) (ai (hV R10_30t1 [8,10,35,36,37,38,95] [96] 97 [] [(96,.op (.bin .gtr (.t 0) (.c (.s (.int .i64 1048576)))) [.t 95,.c (.s (.int .i64 1048576))])] [sb []]) (ai (hT R10_31 [9,96] [2,3] 4 [] [(2,.c (.s (.string ⟨#[]⟩))),(3,.c (.s (.int .i64 2)))] [.cc (.s (.string ⟨#[]⟩)),.cc (.s (.int .i64 2))]) (ai (hP R10_32 [9,96] [9,96,97]) (ai (hV R10_32t1 [9,96,97] [2,3] 4 [] [(2,.t 97),(3,.c (.s (.int .i64 0)))] [.tt 97,.cc (.s (.int .i64 0))]) (ai ai1.eq_1 (ai ai3.eq_1 (ai ai4.eq_1 (ai2.eq_1)))))))))))))))))))))))))))))))))))))))))))))))))))))))))))))))))))))))))))))))))
def a_f17:=ai (hT R17_0 K17_0 [] 1 [] [] [.cc (.s (.map none))]) (ai avf (ai (hP R17_1 [] []) (ai (hX R17_1t1 []) (ai (hP R17_2 [] [1,2,3,4,5,6]) (ai (hU R17_2t1 [] [3] [1,2,3,4,5,6] 4 [] [(3,.op (.mkFn 54 [] [.t 0]) [.t 1])] [sb []]) (ai (hP R17_2t2 [3] [1,2,3,4,5,6]) (ai (hU R17_2t3 [] [4] [1,2,3,4,5,6] 5 [] [(4,.op (.mkFn 55 [] [.t 0]) [.t 1])] [sb []]) (ai (hP R17_2t4 [4] [1,2,3,4,5,6]) (ai (hP R17_2t5 [] [1,2,3,4,5,6]) (ai (hP R17_2t6 [] [1,2,3,4,5,6]) (ai (hP R17_2t7 [] [1,2,3,4,5,6]) (ai (hP R17_2t8 [] [1,2,3,4,5,6]) (ai (hU R17_2t9 [1] [5] [1,2,3,4,5,6] 6 [] [(5,.op (.mkFn 61 [] [.t 0]) [.t 1])] [sb []]) (ai (hP R17_2t10 [5] [1,2,3,4,5,6]) (ai (hP R17_2t11 [] [1,2,3,4,5,6]) (ai (hP R17_2t12 [] [1,2,3,4,5,6]) (ai (hP R17_2t13 [] [1,2,3,4,5,6]) (ai (hP R17_2t14 [] [1,2,3,4,5,6]) (ai (hP R17_2t15 [] [1,2,3,4,5,6]) (ai (hP R17_2t16 [] [1,2,3,4,5,6]) (ai (hP R17_2t17 [] [1,2,3,4,5,6]) ((hV R17_2t18 [1,2,3,4,5,6] [0] 7 [] [(0,.t 2)] [.tt 2,.tt 2])))))))))))))))))))))))
def a_f18:=ai (hU R18_0 [0,2,4,5,6] [3] K18_0 4 [] [(3,.t 0)] [.tt 0]) (ai (hP R18_0t1 [3] K18_0) (ai (hU R18_0t2 [4] [5] K18_0 6 [] [(5,.op (.bin .add (.t 0) (.c (.s (.string ⟨#[10]⟩)))) [.t 4,.c (.s (.string ⟨#[10]⟩))])] [sb []]) (ai (hX R18_0t3 K18_0) (ai (hQ K18_0 0) (ai (hQ K18_0 1) (ai (hQ K18_0 3) (ai (hQ K18_0 4) (ai (hQ K18_0 5) ((hQ K18_0 6))))))))))
def biv:=ai (hT R19_0 K19_0 [] 6 [] [] [.cc (.s (.int .i64 0)),.cc (.s .nilIface)]) (ai avd (ai (hK K19_0 0) (ai (hK K19_0 1) (ai (hU R19_1 [] [6] [6,7] 7 [] [(6,.t 0)] [.tt 0]) (ai (hX R19_1t1 [6,7]) (ai (hU R19_2 [0,9,10,11] [8,12,13] [0,8,9,10,11,12,13,14,15,16] 14 [] [(8,.t 0),(12,eL (eF 1 (.op (.nilCheck (.t 0)) [.t 0]))),(13,.t 1)] [.tt 0,.tt 0,.sub 1 [0,0] [],.sub 1 [0] [],.sub 1 [] [],.tt 1]) (ai (hP R19_2t1 [12,13] [0,8,9,10,11,12,13,14,15,16]) (ai (hU R19_2t2 [8,15] [16] [0,8,9,10,11,12,13,14,15,16] 17 [] [(16,eF 1 (.op (.nilCheck (.t 0)) [.t 8]))] [sb [0],sb []]) (ai (hX R19_2t3 [0,8,9,10,11,12,13,14,15,16]) ((hT R19_3 [1,17,18] [4,5] 19 [] [(4,.op (.lenS .p (.t 0)) [.t 1]),(5,.c (.s .nilIface))] [.tt 1,sb [],sb [],.cc (.s .nilIface)])))))))))))
def a_f21:=ai (hT R21_0 K21_0 [] 3 [] [] [.cc (.s (.string ⟨#[]⟩))]) (ai avc (ai (hK K21_0 0) (ai (hU R21_1 [0] [3] [0,3,4] 4 [] [(3,.t 0)] [.tt 0]) (ai (hP R21_1t1 [3] [0,3,4]) ((hV R21_1t2 [0,3,4] [2] 3 [] [(2,.t 4)] [.tt 4]))))))
def a_f22:=ai (hT R22_0 K22_0 [] 3 [] [] [.cc (.s (.string ⟨#[]⟩))]) (ai avb (ai (hK K22_0 0) (ai (hU R22_1 [0] [3] [0,3,4,5,6] 4 [] [(3,.t 0)] [.tt 0]) (ai (hP R22_1t1 [3] [0,3,4,5,6]) ((hV R22_1t2 [0,3,4,5,6] [2] 7 [] [(2,.op (.bin .add (.t 0) (.c (.s (.string ⟨#[41]⟩)))) [.op (.bin .add (.c (.s (.string ⟨#[40]⟩))) (.t 1)) [.c (.s (.string ⟨#[40]⟩)),.t 4],.c (.s (.string ⟨#[41]⟩))])] [sb [0],sb [],sb []]))))))
def biu:=ai (hT R23_0 K23_0 [] 3 [] [] [.cc (.s (.int .i64 0))]) (ai ava (ai (hK K23_0 0) ((hT R23_1 [0,3,4,5,6,7] [2] 8 [] [(2,.op (.lenS .s (.t 0)) [eL (eF 1 (.op (.nilCheck (.t 0)) [.t 0]))])] [.tt 0,sb [0,0,0],sb [0,0],sb [0],sb [],sb []]))))
def a_f52:=ai (hP R52_0 [0,2,3,4,5] K52_0) (ai (hV R52_0t1 K52_0 [] 3 [] [] [.cc (.s (.string ⟨#[]⟩))]) (ai (hQ K52_0 0) (ai (hK K52_0 1) (ai (hQ K52_0 2) (ai (hU R52_1 [1,3] [4] [1,3,4,5] 5 [] [(4,eL (eF 4 (.t 1)))] [sb [0],sb []]) (ai (hP R52_1t1 [4] [1,3,4,5]) ((hV R52_1t2 [1,3,4,5] [2] 3 [] [(2,.t 5)] [.tt 5]))))))))
def a_f54:=ai (hP R54_0 [0,3,4,5,6,7,8] K54_0) (ai (hV R54_0t1 K54_0 [] 4 [] [] [.cc (.s (.string ⟨#[]⟩))]) (ai (hQ K54_0 0) (ai (hK K54_0 1) (ai (hK K54_0 2) (ai (hQ K54_0 3) (ai (hU R54_1 [1,2] [4,5] [1,2,4,5,6,7,8] 6 [] [(4,eL (.t 1)),(5,.op (.load true 8 (.t 0)) [.t 2])] [sb [],.sub 1 [] []]) (ai (hP R54_1t1 [4,5] [1,2,4,5,6,7,8]) (ai (hP R54_1t2 [6] [1,2,4,5,6,7,8]) (ai (hP R54_1t3 [7] [1,2,4,5,6,7,8]) ((hV R54_1t4 [1,2,4,5,6,7,8] [3] 4 [] [(3,.t 8)] [.tt 8])))))))))))
def a_f55:=ai (hP R55_0 [0,3,4,5,6,7,8] K55_0) (ai (hV R55_0t1 K55_0 [] 4 [] [] [.cc (.s (.string ⟨#[]⟩))]) (ai (hQ K55_0 0) (ai (hK K55_0 1) (ai (hK K55_0 2) (ai (hQ K55_0 3) (ai (hU R55_1 [1,2] [4,5] [1,2,4,5,6,7,8] 6 [] [(4,eL (.t 1)),(5,.op (.load true 8 (.t 0)) [.t 2])] [sb [],.sub 1 [] []]) (ai (hP R55_1t1 [4,5] [1,2,4,5,6,7,8]) (ai (hP R55_1t2 [6] [1,2,4,5,6,7,8]) (ai (hP R55_1t3 [7] [1,2,4,5,6,7,8]) ((hV R55_1t4 [1,2,4,5,6,7,8] [3] 4 [] [(3,.t 8)] [.tt 8])))))))))))
def a_f56:=ai (hP R56_0 [0,1,2] K56_0) (ai (hV R56_0t1 K56_0 [] 3 [] [] [.cc (.s (.string ⟨#[]⟩))]) (ai (hQ K56_0 0) (ai (hQ K56_0 1) (ai (hQ K56_0 2) ((hT R56_1 [] [2] 3 [] [(2,.c (.s (.string ⟨#[110,117,108,108]⟩)))] [.cc (.s (.string ⟨#[110,117,108,108]⟩))]))))))
def a_f57:=ai (hP R57_0 [0,2,3,4,5,6] K57_0) (ai (hV R57_0t1 K57_0 [] 3 [] [] [.cc (.s (.string ⟨#[]⟩))]) (ai (hQ K57_0 0) (ai (hK K57_0 1) (ai (hQ K57_0 2) (ai (hU R57_1 [1,3] [4] [1,3,4,5,6] 5 [] [(4,eL (eF 5 (.t 1)))] [sb [0],sb []]) (ai (hP R57_1t1 [4] [1,3,4,5,6]) (ai (hP R57_1t2 [5] [1,3,4,5,6]) ((hV R57_1t3 [1,3,4,5,6] [2] 3 [] [(2,.t 6)] [.tt 6])))))))))
def a_f58:=ai (hP R58_0 [0,2,3,4,5,6] K58_0) (ai (hV R58_0t1 K58_0 [] 3 [] [] [.cc (.s (.string ⟨#[]⟩))]) (ai (hQ K58_0 0) (ai (hK K58_0 1) (ai (hQ K58_0 2) (ai (hU R58_1 [1,3] [4] [1,3,4,5,6] 5 [] [(4,eL (eF 2 (.t 1)))] [sb [0],sb []]) (ai (hP R58_1t1 [4] [1,3,4,5,6]) (ai (hP R58_1t2 [5] [1,3,4,5,6]) ((hV R58_1t3 [1,3,4,5,6] [2] 3 [] [(2,.t 6)] [.tt 6])))))))))
def a_f59:=ai (hP R59_0 [0,2,3,4,5,6] K59_0) (ai (hV R59_0t1 K59_0 [] 3 [] [] [.cc (.s (.string ⟨#[]⟩))]) (ai (hQ K59_0 0) (ai (hK K59_0 1) (ai (hQ K59_0 2) (ai (hU R59_1 [1] [3] [1,3,4,5,6] 4 [] [(3,.op (.load true 8 (.t 0)) [.t 1])] [sb []]) (ai (hP R59_1t1 [3] [1,3,4,5,6]) (ai (hP R59_1t2 [4] [1,3,4,5,6]) (ai (hP R59_1t3 [5] [1,3,4,5,6]) ((hV R59_1t4 [1,3,4,5,6] [2] 3 [] [(2,.t 6)] [.tt 6]))))))))))
def bew:=ai (hP R60_0 [0,2,3,4,5,6,7,8,9,10,11,12,13,14,15,16,17,18,19,20,21,22,23,24,25,26,27,28,29] K60_0) (ai (hV R60_0t1 K60_0 [] 3 [] [] [.cc (.s (.string ⟨#[]⟩))]) (ai (hQ K60_0 0) (ai (hK K60_0 1) (ai (hQ K60_0 2) (ai (hT R60_1 [] [3] 4 [] [(3,.c (.s (.slice none 0 0)))] [.cc (.s (.slice none 0 0))]) (ai (hT R60_2 [6] [7,8,9] 10 [] [(7,eL (eF 7 (.t 1))),(8,.op (.lenS .s (.t 0)) [eL (eF 7 (.t 1))]),(9,.c (.s (.int .i64 0)))] [sb [0],sb [],.sub 1 [] [],.cc (.s (.int .i64 0))]) (ai (hT R60_3 [] [10] 11 [] [(10,.op (.bin .lss (.t 0) (.t 1)) [.t 9,.t 8])] [sb []]) (ai (hT R60_4 [10,11,12,13] [4,5] 14 [] [(4,.t 9),(5,eL (.op (.indexAddr 1 (.t 0) (.t 1)) [.t 7,.t 9]))] [.tt 9,.sub 1 [0] [],.sub 1 [] [],.tt 9,.sub 1 [] []]) (ai (hU R60_5 [3,4,5,15,16,17,18,19,20,21] [14,22] [4,5,14,15,16,17,18,19,20,21,22,23,24] 23 [] [(14,.t 3),(22,.op (.bin .add (.t 0) (.t 1)) [.op (.bin .add (.t 0) (.c (.s (.string ⟨#[58,32]⟩)))) [.t 5,.c (.s (.string ⟨#[58,32]⟩))],eL (.op (.indexAddr 1 (.t 0) (.t 1)) [eL (eF 6 (.t 1)),.t 4])])] [.tt 3,.tt 5,.sub 1 [0] [],.sub 1 [1,0,0,0] [],.sub 1 [1,0,0] [],.tt 4,.sub 1 [1,0] [],.sub 1 [1] [],.sub 1 [] []]) (ai (hP R60_5t1 [22] [4,5,14,15,16,17,18,19,20,21,22,23,24]) (ai (hP R60_5t2 [14,23] [4,5,14,15,16,17,18,19,20,21,22,23,24]) (ai (hV R60_5t3 [4,5,14,15,16,17,18,19,20,21,22,23,24] [3] 4 [] [(3,.t 24)] [.tt 24]) (ai (hT R60_6 [25] [9] 26 [] [(9,.op (.bin .add (.t 0) (.c (.s (.int .i64 1)))) [.t 9,.c (.s (.int .i64 1))])] [sb [],sb []]) (ai af4 (ai (hU R60_7 [1,3,7,8,9,10] [26] [1,3,7,8,9,10,26,27,28,29] 27 [] [(26,.t 3)] [.tt 3]) (ai (hP R60_7t1 [26] [1,3,7,8,9,10,26,27,28,29]) (ai (hV R60_7t2 [1,3,7,8,9,10,26,27,28,29] [2] 30 [] [(2,.op (.bin .add (.t 0) (.c (.s (.string ⟨#[93]⟩)))) [.op (.bin .add (.c (.s (.string ⟨#[91]⟩))) (.t 1)) [.c (.s (.string ⟨#[91]⟩)),.t 27],.c (.s (.string ⟨#[93]⟩))])] [sb [0],sb [],sb []]) (ail.eq_1))))))))))))))))))
def a_f61:=ai (hP R61_0 [0,3,4,5,6,7,8,9,10] K61_0) (ai (hV R61_0t1 K61_0 [] 4 [] [] [.cc (.s (.string ⟨#[]⟩))]) (ai (hQ K61_0 0) (ai (hK K61_0 1) (ai (hK K61_0 2) (ai (hQ K61_0 3) (ai (hU R61_1 [1,2,4] [5,6,7] [1,2,4,5,6,7,8,9,10] 8 [] [(5,eL (eF 2 (.t 2))),(6,eL (.t 1)),(7,.op (.load true 8 (.t 0)) [.t 2])] [sb [0],sb [],.sub 1 [] [],.sub 2 [] []]) (ai (hP R61_1t1 [6,7] [1,2,4,5,6,7,8,9,10]) (ai (hP R61_1t2 [5,8] [1,2,4,5,6,7,8,9,10]) (ai (hP R61_1t3 [9] [1,2,4,5,6,7,8,9,10]) ((hV R61_1t4 [1,2,4,5,6,7,8,9,10] [3] 4 [] [(3,.t 10)] [.tt 10])))))))))))
def a_f62:=ai (hP R62_0 [0,2,3,4,5,6] K62_0) (ai (hV R62_0t1 K62_0 [] 3 [] [] [.cc (.s (.string ⟨#[]⟩))]) (ai (hQ K62_0 0) (ai (hK K62_0 1) (ai (hQ K62_0 2) (ai (hU R62_1 [1,3] [4] [1,3,4,5,6] 5 [] [(4,eL (eF 2 (.t 1)))] [sb [0],sb []]) (ai (hP R62_1t1 [4] [1,3,4,5,6]) (ai (hP R62_1t2 [5] [1,3,4,5,6]) ((hV R62_1t3 [1,3,4,5,6] [2] 3 [] [(2,.t 6)] [.tt 6])))))))))
def a_f63:=ai (hP R63_0 [0,2,3,4,5,6,7,8,9] K63_0) (ai (hV R63_0t1 K63_0 [] 3 [] [] [.cc (.s (.string ⟨#[]⟩))]) (ai (hQ K63_0 0) (ai (hK K63_0 1) (ai (hQ K63_0 2) (ai (hU R63_1 [1,3,4,6] [5,7] [1,3,4,5,6,7,8,9] 8 [] [(5,.op (.bin .add (.t 0) (.c (.s (.string ⟨#[44]⟩)))) [eL (eF 2 (.t 1)),.c (.s (.string ⟨#[44]⟩))]),(7,eL (eF 3 (.t 1)))] [sb [0,0],sb [0],sb [],.sub 1 [0] [],.sub 1 [] []]) (ai (hP R63_1t1 [5,7] [1,3,4,5,6,7,8,9]) (ai (hP R63_1t2 [8] [1,3,4,5,6,7,8,9]) ((hV R63_1t3 [1,3,4,5,6,7,8,9] [2] 3 [] [(2,.t 9)] [.tt 9])))))))))
def a_f64:=ai (hP R64_0 [0,2,3,4,5,6,7,8,9,10] K64_0) (ai (hV R64_0t1 K64_0 [] 3 [] [] [.cc (.s (.string ⟨#[]⟩))]) (ai (hQ K64_0 0) (ai (hK K64_0 1) (ai (hQ K64_0 2) (ai (hU R64_1 [1,3,5] [4,6] [1,3,4,5,6,7,8,9,10] 7 [] [(4,eL (eF 5 (.t 1))),(6,eL (eF 6 (.t 1)))] [sb [0],sb [],.sub 1 [0] [],.sub 1 [] []]) (ai (hP R64_1t1 [6] [1,3,4,5,6,7,8,9,10]) (ai (hU R64_1t2 [4,7] [8] [1,3,4,5,6,7,8,9,10] 9 [] [(8,.op (.bin .add (.t 0) (.t 1)) [.t 4,.t 7])] [sb []]) (ai (hP R64_1t3 [8] [1,3,4,5,6,7,8,9,10]) (ai (hP R64_1t4 [9] [1,3,4,5,6,7,8,9,10]) ((hV R64_1t5 [1,3,4,5,6,7,8,9,10] [2] 3 [] [(2,.t 10)] [.tt 10])))))))))))
def a_f65:=ai (hP R65_0 [0,2,3,4,5,6,7,8,9,10] K65_0) (ai (hV R65_0t1 K65_0 [] 3 [] [] [.cc (.s (.string ⟨#[]⟩))]) (ai (hQ K65_0 0) (ai (hK K65_0 1) (ai (hQ K65_0 2) (ai (hU R65_1 [1,3,5] [4,6] [1,3,4,5,6,7,8,9,10] 7 [] [(4,eL (eF 2 (.t 1))),(6,eL (eF 6 (.t 1)))] [sb [0],sb [],.sub 1 [0] [],.sub 1 [] []]) (ai (hP R65_1t1 [6] [1,3,4,5,6,7,8,9,10]) (ai (hU R65_1t2 [4,7] [8] [1,3,4,5,6,7,8,9,10] 9 [] [(8,.op (.bin .add (.t 0) (.t 1)) [.t 4,.t 7])] [sb []]) (ai (hP R65_1t3 [8] [1,3,4,5,6,7,8,9,10]) (ai (hP R65_1t4 [9] [1,3,4,5,6,7,8,9,10]) ((hV R65_1t5 [1,3,4,5,6,7,8,9,10] [2] 3 [] [(2,.t 10)] [.tt 10])))))))))))
def a_f66:=ai (hP R66_0 [0,2,3,4,5,6,7,8,9,10,11,12] K66_0) (ai (hV R66_0t1 K66_0 [] 3 [] [] [.cc (.s (.string ⟨#[]⟩))]) (ai (hQ K66_0 0) (ai (hK K66_0 1) (ai (hQ K66_0 2) (ai (hU R66_1 [1,3,4,5,7,8,9] [6,10] [1,3,4,5,6,7,8,9,10,11,12] 11 [] [(6,eL (.op (.indexAddr 1 (.t 0) (.c (.s (.int .i64 0)))) [eL (eF 7 (.t 1)),.c (.s (.int .i64 0))])),(10,eL (.op (.indexAddr 1 (.t 0) (.c (.s (.int .i64 1)))) [eL (eF 7 (.t 1)),.c (.s (.int .i64 1))]))] [sb [0,0,0],sb [0,0],sb [0],sb [],sb [0,0,0],sb [0,0],.sub 1 [0] [],.sub 1 [] []]) (ai (hP R66_1t1 [6,10] [1,3,4,5,6,7,8,9,10,11,12]) (ai (hP R66_1t2 [11] [1,3,4,5,6,7,8,9,10,11,12]) ((hV R66_1t3 [1,3,4,5,6,7,8,9,10,11,12] [2] 3 [] [(2,.t 12)] [.tt 12])))))))))
def a_f67:=ai (hP R67_0 [0,2,3,4,5,6,7,8] K67_0) (ai (hV R67_0t1 K67_0 [] 3 [] [] [.cc (.s (.string ⟨#[]⟩))]) (ai (hQ K67_0 0) (ai (hK K67_0 1) (ai (hQ K67_0 2) (ai (hU R67_1 [1,3,4,5] [6] [1,3,4,5,6,7,8] 7 [] [(6,eL (.op (.indexAddr 1 (.t 0) (.c (.s (.int .i64 0)))) [eL (eF 7 (.t 1)),.c (.s (.int .i64 0))]))] [sb [0,0,0],sb [0,0],sb [0],sb []]) (ai (hP R67_1t1 [6] [1,3,4,5,6,7,8]) (ai (hP R67_1t2 [7] [1,3,4,5,6,7,8]) ((hV R67_1t3 [1,3,4,5,6,7,8] [2] 3 [] [(2,.t 8)] [.tt 8])))))))))
def a_f68:=ai (hP R68_0 [0,2,3,4,5,6,7] K68_0) (ai (hV R68_0t1 K68_0 [] 3 [] [] [.cc (.s (.string ⟨#[]⟩))]) (ai (hQ K68_0 0) (ai (hK K68_0 1) (ai (hQ K68_0 2) (ai (hU R68_1 [1,3] [4] [1,3,4,5,6,7] 5 [] [(4,eL (eF 2 (.t 1)))] [sb [0],sb []]) (ai (hP R68_1t1 [4] [1,3,4,5,6,7]) (ai (hP R68_1t2 [5] [1,3,4,5,6,7]) (ai (hP R68_1t3 [6] [1,3,4,5,6,7]) ((hV R68_1t4 [1,3,4,5,6,7] [2] 3 [] [(2,.t 7)] [.tt 7]))))))))))
theorem bj0:qi Tryz.prog PX0 10=some (false,aeu.ntmps,aeu.results,aeu.body.bare):=by kernel_rfl
theorem bjz:qi Tryz.prog PX0 17=some (false,apu.ntmps,apu.results,apu.body.bare):=by kernel_rfl
theorem bjy:qi Tryz.prog PX0 18=some (false,an2.ntmps,an2.results,an2.body.bare):=by kernel_rfl
theorem bjx:qi Tryz.prog PX0 19=some (false,ait.ntmps,ait.results,ait.body.bare):=by kernel_rfl
theorem bjw:qi Tryz.prog PX0 21=some (false,apt.ntmps,apt.results,apt.body.bare):=by kernel_rfl
theorem bjv:qi Tryz.prog PX0 22=some (false,aps.ntmps,aps.results,aps.body.bare):=by kernel_rfl
theorem bju:qi Tryz.prog PX0 23=some (false,an1.ntmps,an1.results,an1.body.bare):=by kernel_rfl
theorem bjt:qi Tryz.prog PX0 52=some (false,aim.ntmps,aim.results,aim.body.bare):=by kernel_rfl
theorem bjs:qi Tryz.prog PX0 54=some (false,anx.ntmps,anx.results,anx.body.bare):=by kernel_rfl
theorem bjr:qi Tryz.prog PX0 55=some (false,anw.ntmps,anw.results,anw.body.bare):=by kernel_rfl
theorem bjq:qi Tryz.prog PX0 56=some (false,anv.ntmps,anv.results,anv.body.bare):=by kernel_rfl
theorem bjp:qi Tryz.prog PX0 57=some (false,anu.ntmps,anu.results,anu.body.bare):=by kernel_rfl
theorem bjo:qi Tryz.prog PX0 58=some (false,ant.ntmps,ant.results,ant.body.bare):=by kernel_rfl
theorem bjn:qi Tryz.prog PX0 59=some (false,anr.ntmps,anr.results,anr.body.bare):=by kernel_rfl
theorem bjm:qi Tryz.prog PX0 60=some (false,ajy.ntmps,ajy.results,ajy.body.bare):=by kernel_rfl
theorem bjl:qi Tryz.prog PX0 61=some (false,anq.ntmps,anq.results,anq.body.bare):=by kernel_rfl
theorem bjk:qi Tryz.prog PX0 62=some (false,anp.ntmps,anp.results,anp.body.bare):=by kernel_rfl
theorem bjj:qi Tryz.prog PX0 63=some (false,ano.ntmps,ano.results,ano.body.bare):=by kernel_rfl
theorem bji:qi Tryz.prog PX0 64=some (false,ann.ntmps,ann.results,ann.body.bare):=by kernel_rfl
theorem bjh:qi Tryz.prog PX0 65=some (false,anm.ntmps,anm.results,anm.body.bare):=by kernel_rfl
theorem bjg:qi Tryz.prog PX0 66=some (false,anl.ntmps,anl.results,anl.body.bare):=by kernel_rfl
theorem bjf:qi Tryz.prog PX0 67=some (false,ank.ntmps,ank.results,ank.body.bare):=by kernel_rfl
theorem bje:qi Tryz.prog PX0 68=some (false,anj.ntmps,anj.results,anj.body.bare):=by kernel_rfl
def bSp:ByteArray:=⟨#[32]⟩
def bCm:ByteArray:=⟨#[44,32]⟩
def ko (xs:List ByteArray):ByteArray:=abo xs bSp
def ug (xs:List ByteArray):ByteArray:=(⟨#[40]⟩ ++ abo xs bCm) ++ ⟨#[41]⟩
def ane (xs:List ByteArray) (sep:ByteArray):Prop:=xs.length≤140737488355328∧(Lib.join (xs.map (·.data.toList)) sep.data.toList).length≤140737488355328
theorem aot {xs:List ByteArray} {sep:ByteArray} (h:ane xs sep):(abo xs sep).size≤140737488355328:=h.2
theorem yn {a b:ByteArray} (h:a.size+b.size≤4611686018427387904):(((a.size+b.size:Nat):Int) > IntKind.i64.max)=False:=by
 have e:IntKind.i64.max=9223372036854775807:=rfl;rw [e]
 exact eq_false (by omega)
theorem wm (a b:ByteArray):(a ++ b).size=a.size+b.size:=ed
theorem a0v:∀ {es:List (List V)} {xs:List ByteArray},es.flatten=xs.map Sb→(∀ e∈es,e.length=1)→aib es=some xs:=by
 intro es
 induction es with
 | nil=>intro xs h _;cases xs with | nil=>rfl | cons x xs=>cases h
 | cons e es ih=>
   intro xs h hw;have he:=hw e gm
   match e,he with
   | [v],_=>
     cases xs with
     | nil=>cases h
     | cons x xs=>
       simp only [xw,bn,cu,jv,List.cons.injEq] at h;obtain ⟨rfl,h2⟩:=h;simp only [aib,ih h2 (fun e he=>hw e (fe _ he)),mf]
theorem apf {H:Heap} {v:V} {xs:List ByteArray} (h:Rd H v (xs.map Sb)) (hw:aa7 v):ang H v=some xs:=by
 rcases h.cases with ⟨h1,rfl | rfl⟩ | ⟨es,rfl,h2,_⟩ | ⟨id,g,off,n,c,rfl,hc,h2,h3⟩
 ·cases xs with | nil=>rfl | cons x xs=>cases h1
 ·cases xs with | nil=>rfl | cons x xs=>cases h1
 ·exact a0v h2 hw
 ·simp only [ang,hc]
  rw [if_pos (by rw [h2,h3]),h2]
  exact aoc xs
theorem uj (D:Heap) (xs:List ByteArray):ang (D ++ [.cells 0 (xs.map Sb)]) (.sl D.length 0 0 xs.length 1)=some xs:=by
 simp only [ang,dh,pg]
 rw [aaz (by simp),if_pos (by simp)]
 exact aoc xs
theorem avw (sep:List UInt8) {M:Nat}:∀ {xs:List (List UInt8)},(∀ x∈xs,x.length≤M)→(Lib.joinTail sep xs).length≤xs.length * (sep.length+M):=by
 intro xs
 induction xs with
 | nil=>intro _;simp [Lib.joinTail]
 | cons x xs ih=>
   intro h;have h1:=ih fun y hy=>h y (fe _ hy);have h2:=h x gm;have e:Lib.joinTail sep (x :: xs)=(sep ++ x) ++ Lib.joinTail sep xs:=rfl;rw [e,az,az,fq,Nat.succ_mul];omega
theorem bdx (sep:List UInt8) {M:Nat} {xs:List (List UInt8)} (h:∀ x∈xs,x.length≤M):(Lib.join xs sep).length≤xs.length * (sep.length+M):=by
 cases xs with
 | nil=>simp [Lib.join_nil]
 | cons x xs=>
   have h1:=avw sep fun y hy=>h y (fe _ hy);have h2:=h x gm;rw [Lib.join_cons,az,fq,Nat.succ_mul];omega
structure LibT (CT:Nat→Option CFun):Prop where
 join:CT bhu=some (.prim azj)
 bst:CT bht=some (.prim bes)
 itoa:CT bhs=some (.prim azk)
 copy:CT uz=some (.prim awn)
section
variable {CT:Nat→Option CFun}
theorem ako (h:LibT CT) (base:Nat) {H:Heap} {v:V} {xs:List ByteArray} (hv:ang H v=some xs) {sep:ByteArray} (hj:ane xs sep):dn CT (.fn bhu [] []) [v,.s (.string sep)] base H=some (.s (.string (abo xs sep)),H):=by
 refine abz ?_;simp only [zm,h.join,azj,hv,cu,oz];exact if_pos hj
theorem a81 (h:LibT CT) (base:Nat) {H:Heap} {n:Int} (h0:0≤n) (h1:n < 100):dn CT (.fn bhs [] []) [.s (.int .i64 n)] base H=some (.s (.string ⟨(Lib.decDigits n.toNat).toArray⟩),H):=by
 refine abz ?_;simp only [zm,h.itoa,azk];exact if_pos ⟨h0,h1⟩
theorem uy (h:LibT CT) (hT:CT bdu=some (.code apt)) (base:Nat) {H:Heap} {v:V} {xs:List ByteArray} (hv:ang H v=some xs) (hj:ane xs bSp):dn CT (.fn bdu [] []) [v] base H=some (.s (.string (ko xs)),H):=by
 have h1:=ako h base hv hj;simp only [bSp] at h1
 refine oo (c:=apt) hT (by simp [apt]) ?_
 simp only [apt,a_f21,aa,simprocAttr,h1];rfl
theorem aqp (h:LibT CT) (hT:CT bdt=some (.code aps)) (base:Nat) {H:Heap} {v:V} {xs:List ByteArray} (hv:ang H v=some xs) (hj:ane xs bCm):dn CT (.fn bdt [] []) [v] base H=some (.s (.string (ug xs)),H):=by
 have h1:=ako h base hv hj;simp only [bCm] at h1
 refine oo (c:=aps) hT (by simp [aps]) ?_
 have hs:=aot hj;simp only [bCm] at hs;have n1:(⟨#[40]⟩:ByteArray).size=1:=rfl;have n2:(⟨#[41]⟩:ByteArray).size=1:=rfl
 have c1:(⟨#[40]⟩:ByteArray).size+(abo xs ⟨#[44,32]⟩).size≤4611686018427387904:=by omega
 have c2:((⟨#[40]⟩:ByteArray) ++ abo xs ⟨#[44,32]⟩).size+(⟨#[41]⟩:ByteArray).size≤4611686018427387904:=by
  rw [wm];omega
 simp only [aps,a_f22,aa,simprocAttr,h1,yn c1,yn c2,if_false];rfl
end
def Bld (m:Nat) (H:Heap) (b:Nat) (txt:List UInt8):Prop:=m≤b∧((txt=[]∧jm H b 0=some [.unk,.s (.slice none 0 0)])∨∃ id g,jm H b 0=some [.ref b 0 0,.sl id g 0 txt.length 1]∧H[id]?=some (.bytes g txt)∧m≤id∧txt≠[])
def Wr (m b:Nat) (H H':Heap):Prop:=H.length≤H'.length∧(∀ i,i < m→H'[i]?=H[i]?)∧∀ i,i≠b→i < H.length→(∀ g l,H[i]?≠some (.bytes g l))→H'[i]?=H[i]?
theorem atm {H:Heap} {base:Nat} {s:ByteArray} (hs:s.size≠0) (hl:s.size≤2 ^ 47):qx H base 1 1 (.s (.slice none 0 0)) (.s (.string s))=some (.sl H.length 0 0 s.size 1,H ++ [.bytes 0 s.data.toList]):=by
 simp only [qx,elems,ae9,and_self,if_true,hs,if_false,hl]
theorem aww {H:Heap} {base id g:Nat} {l:List UInt8} {s:ByteArray} (hH:H[id]?=some (.bytes g l)) (hb:base≤id) (hs:s.size≠0) (hl:l.length+s.size≤2 ^ 47):
 qx H base 1 1 (.sl id g 0 l.length 1) (.s (.string s))=some (.sl id (g+1) 0 (l.length+s.size) 1,H.set id (.bytes (g+1) (l ++ s.data.toList))):=by
 simp only [qx,elems,ae9,and_self,if_true,hs,if_false,hl,hb,hH]
section
variable {CT:Nat→Option CFun}
theorem copy1 (h:LibT CT) {base:Nat} {H:Heap} {b:Nat} {v:V} (hg:jm H b 0=some [.unk,v]) (hb:base≤b):dn CT (.fn uz [] []) [.ref b 0 0] base H=some (und,H.set b (.cells 0 [.ref b 0 0,v])):=by
 refine abz ?_;simp only [zm,h.copy,awn,cu,oz,hg];exact if_pos hb
theorem copy2 (h:LibT CT) {base:Nat} {H:Heap} {b:Nat} {v:V} (hg:jm H b 0=some [.ref b 0 0,v]):dn CT (.fn uz [] []) [.ref b 0 0] base H=some (und,H):=by
 refine abz ?_;simp only [zm,h.copy,awn,cu,oz,hg,if_true]
theorem a0h (h:LibT CT) (hT:CT a8y=some (.code ait)) {base m:Nat} (hb:base≤m) {H:Heap} {b:Nat} {txt:List UInt8} (hB:Bld m H b txt) {s:ByteArray} (hs:s.size≠0) (hl:txt.length+s.size≤2 ^ 47):
 ∃ H',dn CT (.fn a8y [] []) [.ref b 0 0,.s (.string s)] base H=some (.tup [Iz s.size,.s .nilIface],H')∧Bld m H' b (txt ++ s.data.toList)∧Wr m b H H':=by
 have hsn:∀ l:List UInt8,l ++ s.data.toList≠[]:=fun l e=>hs (by
  have:=congrArg List.length e;rw [az] at this;have h2:s.data.toList.length=s.size:=rfl;simp only [gy] at this;omega)
 obtain ⟨hmb,⟨rfl,hg⟩ | ⟨id,g,hg,hH,hid,_⟩⟩:=hB
 ·have hlt:=acb hg
  have hc:=copy1 h (base:=base) hg (by omega)
  obtain ⟨H1,hH1⟩:∃ H1,H.set b (.cells 0 [.ref b 0 0,.s (.slice none 0 0)])=H1:=⟨_,rfl⟩
  have l1:H1.length=H.length:=by rw [← hH1,pz]
  rw [hH1] at hc;have g1:jm H1 b 0=some [.ref b 0 0,.s (.slice none 0 0)]:=hH1 ▸ afn hg _
  have ha:=atm (H:=H1) (base:=base) hs (by simpa using hl)
  have g2:=acp g1 (G:=[Ob.bytes 0 s.data.toList])
  refine ⟨(H1 ++ [Ob.bytes 0 s.data.toList]).set b (.cells 0 [.ref b 0 0,.sl H1.length 0 0 s.size 1]),oo (c:=ait) hT (by simp [ait]) ?_,?_,?_⟩
  ·simp only [ait,biv,aa,simprocAttr,hc,g1,ha,g2,show base≤b by omega]
  ·refine ⟨hmb,.inr ⟨H1.length,0,?_,?_,by omega,hsn _⟩⟩
   ·have:=afn (c':=[V.ref b 0 0,.sl H1.length 0 0 s.size 1]) g2 0
    simpa using this
   ·rw [bq (by omega)]
    simp
  ·refine ⟨by simp [l1],fun i hi=>?_,fun i hi hil _=>?_⟩
   ·rw [bq (by omega),ag (by omega),← hH1,bq (by omega)]
   ·rw [bq (su hi),ag (by omega),← hH1,bq (su hi)]
 ·have hlt:=acb hg;have hli:=(ae.1 hH).1;have hc:=copy2 h (base:=base) hg
  have hne:id≠b:=by
   intro e;subst e;unfold jm at hg;rw [hH] at hg;cases hg
  have ha:=aww (base:=base) hH (by omega) hs hl
  have g2:jm (H.set id (.bytes (g+1) (txt ++ s.data.toList))) b 0=some [.ref b 0 0,.sl id g 0 txt.length 1]:=by
   unfold jm at hg ⊢;rw [bq hne];exact hg
  refine ⟨(H.set id (.bytes (g+1) (txt ++ s.data.toList))).set b (.cells 0 [.ref b 0 0,.sl id (g+1) 0 (txt.length+s.size) 1]),oo (c:=ait) hT (by simp [ait]) ?_,?_,?_⟩
  ·simp only [ait,biv,aa,simprocAttr,hc,hg,ha,g2,show base≤b by omega]
  ·refine ⟨hmb,.inr ⟨id,g+1,?_,?_,hid,hsn _⟩⟩
   ·have:=afn (c':=[V.ref b 0 0,.sl id (g+1) 0 (txt.length+s.size) 1]) g2 0
    simpa using this
   ·rw [bq (su hne),kg hli]
  ·refine ⟨by simp,fun i hi=>?_,fun i hi hil hnb=>?_⟩
   ·rw [bq (by omega),bq (by omega)]
   ·have hni:id≠i:=by intro e;subst e;exact hnb _ _ hH
    rw [bq (su hi),bq hni]
def adi (xs:List ByteArray):ByteArray:=abo xs ⟨#[]⟩ ++ ⟨#[10]⟩
theorem akn (h:LibT CT) (hW:CT a8y=some (.code ait)) (hT:CT a8z=some (.code an2)) {base m:Nat} (hb:base≤m) {H:Heap} {b:Nat} {txt:List UInt8} (hB:Bld m H b txt) {v:V} {xs:List ByteArray} (hv:ang H v=some xs) (hj:ane xs ⟨#[]⟩) (hl:txt.length+(adi xs).size≤2 ^ 47):
 ∃ H',dn CT (.fn a8z [] [.ref b 0 0]) [v] base H=some (.tup [],H')∧Bld m H' b (txt ++ (adi xs).data.toList)∧Wr m b H H':=by
 have hjn:=ako h base hv hj;have n1:(⟨#[10]⟩:ByteArray).size=1:=rfl
 have hz:(adi xs).size=(abo xs ⟨#[]⟩).size+1:=by unfold adi;rw [wm,n1]
 have hjs:=aot hj
 have c1:(abo xs ⟨#[]⟩).size+(⟨#[10]⟩:ByteArray).size≤4611686018427387904:=by omega
 obtain ⟨H',hw,h1,h2⟩:=a0h h hW hb hB (s:=adi xs) (by omega) hl
 refine ⟨H',gp (c:=an2) (k:=2) hT rfl (by decide) ave ?_,h1,h2⟩
 simp only [adi] at hw;simp only [an2,a_f18,aa,simprocAttr,hjn,yn c1,if_false,hw]
 try rfl
end
def ba9 {α:Type} (p:α→Bool) (l:List α):Int:=match l.findIdx? p with | some i=>(i:Int) | none=>-1
theorem asv {α:Type} {p:α→Bool} {l:List α} (d:α) (h:∀ i,i < l.length→p (l.getD i d)=false):ba9 p l=-1:=by
 have:l.findIdx? p=none:=by
  rw [ah8];intro x hx;obtain ⟨i,hi⟩:=pq.1 hx;have:=h i (ae.1 hi).1
  rwa [getD_some hi] at this
 rw [ba9,this]
theorem asu {α:Type} {p:α→Bool} {l:List α} (d:α) {i:Nat} (hi:i < l.length) (h1:p (l.getD i d)=true) (h2:∀ j,j < i→p (l.getD j d)=false):ba9 p l=(i:Int):=by
 have:l.findIdx? p=some i:=by
  rw [ax7];refine ⟨hi,?_,fun j hj=>?_⟩
  ·have:=nk hi d;rw [ah hi] at this;rw [ic this];exact h1
  ·have hjl:j < l.length:=by omega
   have:=nk hjl d;rw [ah hjl] at this;rw [ic this,h2 j hj];simp
 rw [ba9,this]
theorem axt {α:Type} (p:α→Bool) (l:List α):decide (ba9 p l ≥ 0)=l.any p:=by
 unfold ba9;cases h:l.findIdx? p with
 | none=>
   rw [ah8] at h
   symm
   rw [show decide ((-1:Int) ≥ 0)=false from rfl,abj];intro x hx;rw [h x hx];simp
 | some i=>
   rw [ax7] at h;obtain ⟨h1,h2,_⟩:=h;have e1:l.any p=true:=ui.2 ⟨_,oq h1,h2⟩;rw [e1];simp
section
variable {CT:Nat→Option CFun}
theorem a5j (hT:CT ast=some (.code aet)) (base:Nat) (H:Heap) (o:Int):dn CT (.fn ast [] []) [.s (.int .u8 o)] base H=some (.s (.bool (o == 10 || o == 11)),H):=by
 refine oo (c:=aet) hT (by simp [aet]) ?_
 simp only [aet,biz,aa,simprocAttr]
theorem a9d (hT:CT asr=some (.code acn)) (base:Nat) (A:Heap) {v f:V} {l:List ByteArray} {p:ByteArray→Bool} (hv:Rd A v (l.map Sb)) (hw:aa7 v) (hp:∀ x,x∈l→∀ D,Ext A D→∃ D',dn CT f [Sb x] base D=some (.s (.bool (p x)),D')∧Ext D D') (hl:l.length < 2 ^ 40):
 ∃ H',dn CT (.fn asr [] []) [v,f] base A=some (Iz (ba9 p l),H')∧Ext A H':=by
 have step:∀ i C,i < l.length→Ext A C→∃ C',(p (l.getD i ⟨#[]⟩)=false→itW (evC (dn CT) itW base ab7) [] A.length (iw 19 [(0,v),(1,f),(7,Iz l.length),(8,Iz i)]) C=itW (evC (dn CT) itW base ab7) [] A.length (iw 19 [(0,v),(1,f),(7,Iz l.length),(8,Iz (i+1:Nat))]) (trim A.length (iw 19 [(0,v),(1,f),(7,Iz l.length),(8,Iz (i+1:Nat))]) C'))∧(p (l.getD i ⟨#[]⟩)=true→itW (evC (dn CT) itW base ab7) [] A.length (iw 19 [(0,v),(1,f),(7,Iz l.length),(8,Iz i)]) C=some (.ret,iw 19 [(4,Iz i)],trim A.length (iw 19 [(4,Iz i)]) C'))∧Ext A C':=by
  intro i C hi hE
  have hlt':((i:Int) < (l.length:Int)):=by omega
  have hwk:=w64 (n:=i) (by omega)
  obtain ⟨a,a1,a2⟩:=ab0 (hv.ext hE) hw hi;obtain ⟨C',c1,c2⟩:=hp _ (ak (nk hi ⟨#[]⟩)) C hE;simp only [Sb] at c1;refine ⟨C',fun hp=>?_,fun hp=>?_,hE.trans c2⟩
  ·rw [hp] at c1;rw [dw];simp only [Iz,att,aa,simprocAttr,hlt',a1,a2,c1,hwk]
  ·rw [hp] at c1;rw [dw];simp only [Iz,att,aa,simprocAttr,hlt',a1,a2,c1,hwk]
 have hlen:=qf hv
 rcases a88 l.length (fun i=>p (l.getD i ⟨#[]⟩)) (fun C=>Ext A C) (fun i C=>itW (evC (dn CT) itW base ab7) [] A.length (iw 19 [(0,v),(1,f),(7,Iz l.length),(8,Iz i)]) C) (fun i C hi hp hE=>by obtain ⟨C',q1,_,q3⟩:=step i C hi hE;exact ⟨_,q1 hp,q3.trim (af _) _⟩) A (Ext.refl A) with ⟨h1,C,h2,h3⟩ | ⟨i,C,hi,h1,h2,h3,h4⟩
 ·refine ⟨trim A.length (iw 19 [(0,v),(1,f),(7,Iz l.length),(8,Iz l.length),(9,bl false)]) C,oo (c:=acn) hT (by simp [acn]) ?_,h3.trim (af _) _⟩
  rw [asv ⟨#[]⟩ h1]
  have hend:itW (evC (dn CT) itW base ab7) [] A.length (iw 19 [(0,v),(1,f),(7,Iz l.length),(8,Iz l.length)]) C=some (.ext 0,iw 19 [(0,v),(1,f),(7,Iz l.length),(8,Iz l.length),(9,bl false)],trim A.length (iw 19 [(0,v),(1,f),(7,Iz l.length),(8,Iz l.length),(9,bl false)]) C):=by
   rw [dw];simp only [Iz,bl,att,aa,simprocAttr,jo]
  have h4:=h2.trans hend;simp only [Iz,bl,ry] at h4;simp only [Iz,bl,acn,att,aa,simprocAttr,hlen,h4]
 ·obtain ⟨C',_,q2,q3⟩:=step i C hi h4
  refine ⟨trim A.length (iw 19 [(4,Iz i)]) C',oo (c:=acn) hT (by simp [acn]) ?_,q3.trim (af _) _⟩
  rw [asu ⟨#[]⟩ hi h1 h2];have h5:=h3.trans (q2 h1);simp only [Iz,bl,ry] at h5;simp only [Iz,bl,acn,att,aa,simprocAttr,hlen,h5]
theorem axz (hT:CT a8v=some (.code ani)) (hI:CT asr=some (.code acn)) (base:Nat) (A:Heap) {v f:V} {l:List ByteArray} {p:ByteArray→Bool} (hv:Rd A v (l.map Sb)) (hw:aa7 v) (hp:∀ x,x∈l→∀ D,Ext A D→∃ D',dn CT f [Sb x] base D=some (.s (.bool (p x)),D')∧Ext D D') (hl:l.length < 2 ^ 40):
 ∃ H',dn CT (.fn a8v [] []) [v,f] base A=some (.s (.bool (l.any p)),H')∧Ext A H':=by
 obtain ⟨H',h1,h2⟩:=a9d hI base A hv hw hp hl
 refine ⟨H',oo (c:=ani) hT (by simp [ani]) ?_,h2⟩
 rw [← axt];simp only [Iz] at h1;simp only [ani,a_f93,aa,simprocAttr,h1]
end
def letter (c:Int):Bool:=decide (c ≥ 97) && decide (c≤122) || decide (c ≥ 65) && decide (c≤90) || c == 95
def awu (i:Nat) (c:UInt8):Bool:=!letter c.toNat && ((i:Int) == 0 || (decide ((c.toNat:Int) < 48) || decide ((c.toNat:Int) > 57)) && (c.toNat:Int) != 46)
def aee:Nat→List UInt8→Bool
 | _,[]=>true
 | i,c :: l=>!awu i c && aee (i+1) l
theorem a3m (call:ni) (base:Nat) (b:ByteArray) (hb:b.size≤64) (H:Heap):∀ (l:List UInt8) (i:Nat),b.data.toList.drop i=l→i≤b.size→
 itW (evC call itW base apn) [] H.length (iw 62 [(0,.s (.string b)),(18,.s (.int .i64 b.size)),(19,.s (.int .i64 i))]) H=
 bif aee i l then some (.ext 0,iw 62 [(0,.s (.string b)),(18,.s (.int .i64 b.size)),(19,.s (.int .i64 b.size)),(20,bl false)],H) else some (.ret,iw 62 [(2,bl false)],H):=by
 intro l;have hsz:b.data.toList.length=b.size:=rfl
 induction l with
 | nil=>
   intro i hd hi
   have hin:i=b.size:=by
    have:=congrArg List.length hd;rw [yu,hsz] at this;simp at this;omega
   subst hin;rw [dw];simp only [a5z,aa,simprocAttr,jo,aee]
 | cons c l ih=>
   intro i hd hi
   have hc:b.data.toList[i]?=some c:=by have:=congrArg (·[0]?) hd;simp only [jc] at this;exact this
   have hlt:i < b.size:=by have:=(ae.1 hc).1;omega
   have hi':((i:Int) < (b.size:Int)):=by omega
   have hd':b.data.toList.drop (i+1)=l:=by
    have:=congrArg (List.drop 1) hd
    simpa [y8,apb] using this
   have hw:IntKind.i64.wrap ((i:Int)+1)=((i+1:Nat):Int):=by rw [IntKind.wrap_i64];omega
   rw [dw];simp only [a5z,aa,simprocAttr,hi',hc,hw,aee] at ih ⊢;rw [ih (i+1) hd' hlt];cases h:awu i c <;> (unfold awu letter at h;simp only [h,aa,simprocAttr])
def mh (b:ByteArray):Bool:=!(b.data.toList == [] || decide ((b.size:Int) > 64) || b.data.toList == [110,117,108,108]) && aee 0 b.data.toList
theorem axr (CT:Nat→Option CFun) (hT:CT azi=some (.code ajw)) (b:ByteArray) (base:Nat) (H:Heap):dn CT (.fn azi [] []) [.s (.string b)] base H=some (bl (mh b),H):=by
 refine oo (c:=ajw) hT (by simp [ajw]) ?_
 have hl:=a3m (dn CT) base b;simp only [ajw,a5z,aa,simprocAttr]
 cases hz:(b.data.toList == [] || decide ((b.size:Int) > 64) || b.data.toList == [110,117,108,108]) with
 | true=>simp only [hz,mh,aa,simprocAttr]
 | false=>
   have hb:b.size≤64:=by
    simp only [jq,decide_eq_false_iff_not] at hz;have:=hz.1.2;omega
   have hl:=a3m (dn CT) base b hb H b.data.toList 0 rfl (gq _);rw [show ((0:Nat):Int)=0 from rfl] at hl;simp only [mh,hz,hl,a5z,aa,simprocAttr];cases aee 0 b.data.toList <;> simp only [a5z,aa,simprocAttr]
def acr (s:ByteArray):Bool:=s.data.toList == []
def an3 (s:ByteArray):Bool:=s.data.toList == [110,117,108,108]
def ad9 (op:Bool) (s:ByteArray):Bool:=!acr s && !mh s && !(op && an3 s)
section
variable {CT:Nat→Option CFun}
theorem ati (hI:CT azi=some (.code ajw)) (hT:CT azh=some (.code ak9)) (base:Nat) (H:Heap) (s:ByteArray):dn CT (.fn azh [] []) [Sb s] base H=some (.s (.bool (!mh s)),H):=by
 have h:=axr CT hI s base H
 refine oo (c:=ak9) hT (by simp [ak9]) ?_
 simp only [bl] at h;simp only [ak9,a_f94,aa,simprocAttr,h]
theorem bat (hI:CT azi=some (.code ajw)) (hT:CT asq=some (.code ade)) (base:Nat) {H:Heap} {id:Nat} {op:Bool} (hg:jm H id 0=some [.s (.bool op)]) (s:ByteArray):dn CT (.fn asq [] [.ref id 0 0]) [Sb s] base H=some (.s (.bool (ad9 op s)),H):=by
 have h:=axr CT hI s base H;have hx:=yj hg
 refine oo (c:=ade) hT (by simp [ade]) ?_
 simp only [bl] at h;unfold ad9 acr an3;cases h0:(s.data.toList == []) with
 | true=>simp only [ade,ax4,aa,simprocAttr,h0]
 | false=>
   cases h1:mh s with
   | true=>
     rw [h1] at h;simp only [ade,ax4,aa,simprocAttr,h0,h]
   | false=>
     rw [h1] at h;cases op with
     | true=>simp only [ade,ax4,aa,simprocAttr,h0,h,hx]
     | false=>simp only [ade,ax4,aa,simprocAttr,h0,h,hx]
theorem aqn (hI:CT azi=some (.code ajw)) (hT1:CT asq=some (.code ade)) (hT:CT a8u=some (.code anh)) (hC:CT a8v=some (.code ani)) (hX:CT asr=some (.code acn)) (base:Nat) (H:Heap) (op:Bool) {v:V} {l:List ByteArray} (hv:Rd H v (l.map Sb)) (hw:aa7 v) (hl:l.length < 2 ^ 40):
 ∃ H',dn CT (.fn a8u [] []) [.s (.bool op),v] base H=some (.s (.bool (l.any (ad9 op))),H')∧Ext H H':=by
 have e0:Ext H (H ++ [Ob.cells 0 [.s (.bool op)]]):=Ext.app _ _;obtain ⟨H',h1,h2⟩:=axz hC hX base (H ++ [Ob.cells 0 [.s (.bool op)]]) (f:=.fn asq [] [.ref H.length 0 0]) (p:=ad9 op) (hv.ext e0) hw (fun x _ D hD=>⟨D,bat hI hT1 base (cz (dh H 0 _) hD) x,Ext.refl D⟩) hl
 refine ⟨H',gp (c:=anh) (k:=2) hT rfl (by decide) aul ?_,e0.trans h2⟩
 simp only [anh,a_f95,aa,simprocAttr,aa1,h1]
theorem azm (hT:CT axn=some (.code aer)) (base:Nat) (A:Heap) {v:V} {l:List ByteArray} (s:ByteArray) (hv:Rd A v (l.map Sb)) (hw:aa7 v) (hl:l.length < 2 ^ 40):
 dn CT (.fn axn [] []) [v,Sb s] base A=some (Iz (ba9 (fun x=>s.data.toList == x.data.toList) l),A):=by
 have hlen:=qf hv
 have step:∀ i,i < l.length→(s.data.toList == (l.getD i ⟨#[]⟩).data.toList)=false→itW (evC (dn CT) itW base ab6) [] A.length (iw 19 [(0,v),(1,Sb s),(7,Iz l.length),(8,Iz i)]) A=itW (evC (dn CT) itW base ab6) [] A.length (iw 19 [(0,v),(1,Sb s),(7,Iz l.length),(8,Iz (i+1:Nat))]) A:=by
  intro i hi hp
  have hlt':((i:Int) < (l.length:Int)):=by omega
  have hwk:=w64 (n:=i) (by omega)
  obtain ⟨a,a1,a2⟩:=ab0 hv hw hi;rw [dw];simp only [Iz,Sb,atr,aa,simprocAttr,hlt',a1,a2,hp,hwk,mr rfl]
 refine oo (c:=aer) hT (by simp [aer]) ?_
 rcases amk l.length (fun i=>s.data.toList == (l.getD i ⟨#[]⟩).data.toList) (fun i=>itW (evC (dn CT) itW base ab6) [] A.length (iw 19 [(0,v),(1,Sb s),(7,Iz l.length),(8,Iz i)]) A) step with ⟨h1,h2⟩ | ⟨i,hi,h1,h2,h3⟩
 ·rw [asv ⟨#[]⟩ h1]
  have hend:itW (evC (dn CT) itW base ab6) [] A.length (iw 19 [(0,v),(1,Sb s),(7,Iz l.length),(8,Iz l.length)]) A=some (.ext 0,iw 19 [(0,v),(1,Sb s),(7,Iz l.length),(8,Iz l.length),(9,bl false)],A):=by
   rw [dw];simp only [Iz,Sb,bl,atr,aa,simprocAttr,jo,mr rfl]
  have h4:=h2.trans hend;simp only [Iz,Sb,bl,ry] at h4;simp only [Iz,Sb,aer,atr,aa,simprocAttr,hlen,h4]
 ·rw [asu ⟨#[]⟩ hi h1 h2]
  have hlt':((i:Int) < (l.length:Int)):=by omega
  obtain ⟨a,a1,a2⟩:=ab0 hv hw hi
  have hend:itW (evC (dn CT) itW base ab6) [] A.length (iw 19 [(0,v),(1,Sb s),(7,Iz l.length),(8,Iz i)]) A=some (.ret,iw 19 [(4,Iz i)],A):=by
   rw [dw];simp only [Iz,Sb,bl,atr,aa,simprocAttr,hlt',a1,a2,h1,mr rfl]
  have h4:=h3.trans hend;simp only [Iz,Sb,bl,ry] at h4;simp only [Iz,Sb,aer,atr,aa,simprocAttr,hlen,h4]
theorem ad4 (hT:CT azg=some (.code apm)) (hI:CT axn=some (.code aer)) (base:Nat) (A:Heap) {v:V} {l:List ByteArray} (s:ByteArray) (hv:Rd A v (l.map Sb)) (hw:aa7 v) (hl:l.length < 2 ^ 40):
 dn CT (.fn azg [] []) [v,Sb s] base A=some (.s (.bool (l.any fun x=>s.data.toList == x.data.toList)),A):=by
 have h:=azm hI base A s hv hw hl
 refine oo (c:=apm) hT (by simp [apm]) ?_
 rw [← axt];simp only [Iz,Sb] at h;simp only [Sb,apm,a_f96,aa,simprocAttr,h]
end
end Go.Proofs.YtngfpadeebpoeaaGreatDoor
set_option maxRecDepth 100000
namespace Go.AM
def ags {α β:Type} (f:Nat→α→Option β):List α→Nat→Option β
 | [],_=>none
 | x :: l,i=>match f i x with | some b=>some b | none=>ags f l (i+1)
theorem yh {α β:Type} {f:Nat→α→Option β}:∀ {l:List α} {k:Nat},ags f l k=none↔∀ i x,l[i]?=some x→f (k+i) x=none:=by
 intro l
 induction l with
 | nil=>intro k;simp [ags]
 | cons a l ih=>
   intro k;rw [ags];cases h:f k a with
   | some b=>
     simp only [reduceCtorEq,false_iff];intro hc;have:=hc 0 a rfl;rw [aeg,h] at this;cases this
   | none=>
     simp only;rw [ih];constructor
     ·intro hc i x hx;cases i with
      | zero=>rw [tq] at hx;rw [← ic hx];exact h
      | succ i=>rw [kw] at hx;have:=hc i x hx;rwa [show k+1+i=k+(i+1) by omega] at this
     ·intro hc i x hx
      have:=hc (i+1) x (by rw [kw];exact hx)
      rwa [show k+(i+1)=k+1+i by omega] at this
theorem ai9 {α β S T:Type} (l:List α) (d:α) (f:Nat→α→Option β) (P:Nat→S→Prop) (X:Nat→S→T) (Q:β→T→Prop) (step:∀ i s,i < l.length→P i s→(f i (l.getD i d)=none∧∃ s',X i s=X (i+1) s'∧P (i+1) s')∨∃ b,f i (l.getD i d)=some b∧Q b (X i s)):∀ s,P 0 s→(ags f l 0=none∧∃ s',X 0 s=X l.length s'∧P l.length s')∨∃ b,ags f l 0=some b∧Q b (X 0 s):=by
 have key:∀ (r:List α) (i:Nat) (s0 s:S),l.drop i=r→i≤l.length→X 0 s0=X i s→P i s→(ags f r i=none∧∃ s',X 0 s0=X l.length s'∧P l.length s')∨∃ b,ags f r i=some b∧Q b (X 0 s0):=by
  intro r
  induction r with
  | nil=>
    intro i s0 s hd hi hx hp
    have hin:i=l.length:=by
     have:=congrArg List.length hd;rw [yu] at this;simp at this;omega
    subst hin;exact .inl ⟨rfl,s,hx,hp⟩
  | cons a r ih=>
    intro i s0 s hd hi hx hp
    have hc:l[i]?=some a:=by have:=congrArg (·[0]?) hd;simp only [jc] at this;exact this
    have hlt:i < l.length:=(ae.1 hc).1
    have hd':l.drop (i+1)=r:=by
     have:=congrArg (List.drop 1) hd
     simpa [y8,apb] using this
    have hg:l.getD i d=a:=by rw [List.getD,hc];rfl
    rw [ags]
    rcases step i s hlt hp with ⟨h1,s',h2,h3⟩ | ⟨b,h1,h2⟩
    ·rw [hg] at h1;rw [h1];exact ih (i+1) s0 s' hd' hlt (hx.trans h2) h3
    ·rw [hg] at h1;rw [h1]
     exact .inr ⟨b,rfl,by rw [hx];exact h2⟩
 exact fun s hp=>key l 0 s s rfl (gq _) rfl hp
section
variable {κ:Type} [DecidableEq κ]
end
def esI (k:IntKind) (l:List (Int × V)):List (Value × V):=l.map fun p=>(.int k p.1,p.2)
theorem keyI (k:IntKind) (n:Int):ae3 (.int k) (.int k n)=true:=by simp [ae3]
theorem sameI (k:IntKind) (a b:Int):Instr.sameNow (.int k) (.int k a) (.int k b)=some (decide (a=b)):=by
 cases k <;> (first | rw [auj] | skip) <;> rfl
theorem a4f (k:IntKind) (n:Int):∀ (l:List (Int × V)) (i:Nat),afw (.int k) (.int k n) (esI k l) i=some (match l.findIdx? fun p=>decide (n=p.1) with | some j=>some (i+j,(l.getD j (0,und)).2) | none=>none):=by
 intro l
 induction l with
 | nil=>intro i;rfl
 | cons p l ih=>
   intro i;have e:esI k (p :: l)=(.int k p.1,p.2) :: esI k l:=rfl;rw [e];simp only [afw,sameI,ah0];by_cases h:n=p.1
   ·simp [h]
   ·simp only [decide_eq_false h,ih,qd,if_false,cond_false];cases l.findIdx? fun p=>decide (n=p.1) with
    | none=>rfl
    | some j=>
      simp;omega
def ae2 (l:List (Int × V)) (n:Int):Option V:=match l.findIdx? fun p=>decide (n=p.1) with | some j=>some (l.getD j (0,und)).2 | none=>none
theorem wh {H:Heap} {base:Nat} (hb:base≤H.length) (k:IntKind) (l:List (Int × V)) (n:Int) (v:V) (hn:(l.all fun p=>decide (p.1≠n))=true):bbq (H ++ [.map (esI k l)]) base (.int k) (.mp H.length) (.s (.int k n)) v=some (und,H ++ [.map (esI k (l ++ [(n,v)]))]):=by
 have hH:(H ++ [Ob.map (esI k l)])[H.length]?=some (.map (esI k l)):=by simp
 have hf:=a4f k n l 0
 have hnone:l.findIdx? (fun p=>decide (n=p.1))=none:=by
  rw [ah8];intro p hp;have:=bi.1 hn p hp
  simpa using fun e=>(of_decide_eq_true this) e.symm
 rw [hnone] at hf;simp only [bbq,hb,keyI,and_self,if_true,hH,hf];simp [esI]
theorem a9f {H:Heap} {j:Nat} (k:IntKind) {l:List (Int × V)} (hH:H[j]?=some (.map (esI k l))) (z:V) (ok:Bool) (n:Int):
 af3 H (.int k) z ok (.mp j) (.s (.int k n))=some (if ok then .tup [(ae2 l n).getD z,bl (ae2 l n).isSome] else (ae2 l n).getD z):=by
 have hf:=a4f k n l 0;simp only [af3,ku,ev,iy,j5,keyI,if_true,hH,hf,ae2];cases l.findIdx? fun p=>decide (n=p.1) with
 | none=>cases ok <;> rfl
 | some j=>cases ok <;> rfl
end Go.AM
set_option maxRecDepth 100000
namespace Go.Proofs.YtngfpadeebpoeaaGreatDoor
open Go.AM
structure ShD where
 d:Bool
 a:Bool
 b:Bool
 k:Bool
 f:Bool
 xs:Bool
 ls:Bool
def ShD.c (s:ShD):List V:=[.s (.bool s.d),.s (.bool s.a),.s (.bool s.b),.s (.bool s.k),.s (.bool s.f),.s (.bool s.xs),.s (.bool s.ls)]
def shT:List (Int × V):=[(1,.agg (ShD.c ⟨true,false,false,true,false,false,false⟩)),(2,.agg (ShD.c ⟨true,false,false,true,false,false,false⟩)),(3,.agg (ShD.c ⟨true,false,false,false,false,false,false⟩)),(4,.agg (ShD.c ⟨true,false,false,false,true,false,false⟩)),(5,.agg (ShD.c ⟨true,true,false,false,false,false,false⟩)),(8,.agg (ShD.c ⟨true,true,false,false,false,false,false⟩)),(6,.agg (ShD.c ⟨true,false,false,false,false,true,true⟩)),(7,.agg (ShD.c ⟨true,true,false,true,false,false,false⟩)),(9,.agg (ShD.c ⟨false,true,true,false,false,false,false⟩)),(10,.agg (ShD.c ⟨true,false,false,false,true,true,false⟩)),(11,.agg (ShD.c ⟨true,true,false,false,false,true,false⟩)),(12,.agg (ShD.c ⟨false,false,false,false,false,false,true⟩)),(13,.agg (ShD.c ⟨false,false,false,false,false,false,true⟩)),(14,.agg (ShD.c ⟨false,true,false,false,false,false,false⟩))]
def shp (n:Int):ShD:=if n=1 then ⟨true,false,false,true,false,false,false⟩ else if n=2 then ⟨true,false,false,true,false,false,false⟩ else if n=3 then ⟨true,false,false,false,false,false,false⟩ else if n=4 then ⟨true,false,false,false,true,false,false⟩ else if n=5 then ⟨true,true,false,false,false,false,false⟩ else if n=8 then ⟨true,true,false,false,false,false,false⟩ else if n=6 then ⟨true,false,false,false,false,true,true⟩ else if n=7 then ⟨true,true,false,true,false,false,false⟩ else if n=9 then ⟨false,true,true,false,false,false,false⟩ else if n=10 then ⟨true,false,false,false,true,true,false⟩ else if n=11 then ⟨true,true,false,false,false,true,false⟩ else if n=12 then ⟨false,false,false,false,false,false,true⟩ else if n=13 then ⟨false,false,false,false,false,false,true⟩ else if n=14 then ⟨false,true,false,false,false,false,false⟩ else ⟨false,false,false,false,false,false,false⟩
theorem a08 (n:Int):(ae2 shT n).getD (.agg (ShD.c ⟨false,false,false,false,false,false,false⟩))=.agg (shp n).c:=by
 by_cases h1:n=1
 ·subst h1;rfl
 by_cases h2:n=2
 ·subst h2;rfl
 by_cases h3:n=3
 ·subst h3;rfl
 by_cases h4:n=4
 ·subst h4;rfl
 by_cases h5:n=5
 ·subst h5;rfl
 by_cases h8:n=8
 ·subst h8;rfl
 by_cases h6:n=6
 ·subst h6;rfl
 by_cases h7:n=7
 ·subst h7;rfl
 by_cases h9:n=9
 ·subst h9;rfl
 by_cases h10:n=10
 ·subst h10;rfl
 by_cases h11:n=11
 ·subst h11;rfl
 by_cases h12:n=12
 ·subst h12;rfl
 by_cases h13:n=13
 ·subst h13;rfl
 by_cases h14:n=14
 ·subst h14;rfl
 simp [ae2,shT,shp,ah0,h1,h2,h3,h4,h5,h8,h6,h7,h9,h10,h11,h12,h13,h14]
theorem bg0 (n:Int):(ae2 shT n).isSome=(shT.any fun p=>decide (p.1=n)):=by
 by_cases h1:n=1
 ·subst h1;rfl
 by_cases h2:n=2
 ·subst h2;rfl
 by_cases h3:n=3
 ·subst h3;rfl
 by_cases h4:n=4
 ·subst h4;rfl
 by_cases h5:n=5
 ·subst h5;rfl
 by_cases h8:n=8
 ·subst h8;rfl
 by_cases h6:n=6
 ·subst h6;rfl
 by_cases h7:n=7
 ·subst h7;rfl
 by_cases h9:n=9
 ·subst h9;rfl
 by_cases h10:n=10
 ·subst h10;rfl
 by_cases h11:n=11
 ·subst h11;rfl
 by_cases h12:n=12
 ·subst h12;rfl
 by_cases h13:n=13
 ·subst h13;rfl
 by_cases h14:n=14
 ·subst h14;rfl
 have e:∀ m,¬ n=m→¬ m=n:=fun m h e=>h e.symm;simp [ae2,shT,ah0,h1,e 1 h1,h2,e 2 h2,h3,e 3 h3,h4,e 4 h4,h5,e 5 h5,h8,e 8 h8,h6,e 6 h6,h7,e 7 h7,h9,e 9 h9,h10,e 10 h10,h11,e 11 h11,h12,e 12 h12,h13,e 13 h13,h14,e 14 h14]
section
variable {CT:Nat→Option CFun}
theorem ays (hT:CT bdo=some (.code apq)) (base:Nat) (H:Heap) (hb:base≤H.length):dn CT (.fn bdo [] []) [] base H=some (.mp H.length,H ++ [.map (esI .u8 shT)]):=by
 refine oo (c:=apq) hT (by simp [apq]) ?_
 have e0:(Ob.map []:Ob)=.map (esI .u8 []):=rfl
 have u1:=wh hb .u8 (shT.take 0) 1 (.agg (ShD.c ⟨true,false,false,true,false,false,false⟩)) (by decide)
 have u2:=wh hb .u8 (shT.take 1) 2 (.agg (ShD.c ⟨true,false,false,true,false,false,false⟩)) (by decide)
 have u3:=wh hb .u8 (shT.take 2) 3 (.agg (ShD.c ⟨true,false,false,false,false,false,false⟩)) (by decide)
 have u4:=wh hb .u8 (shT.take 3) 4 (.agg (ShD.c ⟨true,false,false,false,true,false,false⟩)) (by decide)
 have u5:=wh hb .u8 (shT.take 4) 5 (.agg (ShD.c ⟨true,true,false,false,false,false,false⟩)) (by decide)
 have u8:=wh hb .u8 (shT.take 5) 8 (.agg (ShD.c ⟨true,true,false,false,false,false,false⟩)) (by decide)
 have u6:=wh hb .u8 (shT.take 6) 6 (.agg (ShD.c ⟨true,false,false,false,false,true,true⟩)) (by decide)
 have u7:=wh hb .u8 (shT.take 7) 7 (.agg (ShD.c ⟨true,true,false,true,false,false,false⟩)) (by decide)
 have u9:=wh hb .u8 (shT.take 8) 9 (.agg (ShD.c ⟨false,true,true,false,false,false,false⟩)) (by decide)
 have u10:=wh hb .u8 (shT.take 9) 10 (.agg (ShD.c ⟨true,false,false,false,true,true,false⟩)) (by decide)
 have u11:=wh hb .u8 (shT.take 10) 11 (.agg (ShD.c ⟨true,true,false,false,false,true,false⟩)) (by decide)
 have u12:=wh hb .u8 (shT.take 11) 12 (.agg (ShD.c ⟨false,false,false,false,false,false,true⟩)) (by decide)
 have u13:=wh hb .u8 (shT.take 12) 13 (.agg (ShD.c ⟨false,false,false,false,false,false,true⟩)) (by decide)
 have u14:=wh hb .u8 (shT.take 13) 14 (.agg (ShD.c ⟨false,true,false,false,false,false,false⟩)) (by decide)
 simp only [shT,bz,df,bn,cu,ShD.c] at u1;simp only [shT,bz,df,bn,cu,ShD.c] at u2;simp only [shT,bz,df,bn,cu,ShD.c] at u3;simp only [shT,bz,df,bn,cu,ShD.c] at u4;simp only [shT,bz,df,bn,cu,ShD.c] at u5;simp only [shT,bz,df,bn,cu,ShD.c] at u8;simp only [shT,bz,df,bn,cu,ShD.c] at u6;simp only [shT,bz,df,bn,cu,ShD.c] at u7;simp only [shT,bz,df,bn,cu,ShD.c] at u9;simp only [shT,bz,df,bn,cu,ShD.c] at u10;simp only [shT,bz,df,bn,cu,ShD.c] at u11;simp only [shT,bz,df,bn,cu,ShD.c] at u12;simp only [shT,bz,df,bn,cu,ShD.c] at u13;simp only [shT,bz,df,bn,cu,ShD.c] at u14;simp only [shT,ShD.c];simp only [apq,a_f35,aa,simprocAttr,ae0,aez,hb,e0,u1,u2,u3,u4,u5,u8,u6,u7,u9,u10,u11,u12,u13,u14]
end
abbrev Pt:=Nat × Nat × Nat
structure Small (fs:List FunD):Prop where
 n:fs.length < 2 ^ 20
 ps:∀ f∈fs,f.ps.length < 2 ^ 20
 nb:∀ f∈fs,f.blocks.length < 2 ^ 20
 nc:∀ f∈fs,∀ b∈f.blocks,b.code.length < 2 ^ 20
 xs:∀ f∈fs,∀ b∈f.blocks,∀ x∈b.code,x.xs.length < 2 ^ 20
 ls:∀ f∈fs,∀ b∈f.blocks,∀ x∈b.code,x.ls.length < 2 ^ 20
structure NC (A:Heap) (w sm:Nat) (fv:V) (fs:List FunD):Prop where
 gw:jm A w 0=some [fv,.mp sm]
 rd:sj A fv fs
 sml:Small fs
 sh:A[sm]?=some (.map (esI .u8 shT))
theorem Ext.at' {A B:Heap} (k:Ext A B) {i:Nat} {x:Ob} (h:A[i]?=some x):B[i]?=some x:=by
 obtain ⟨G,rfl⟩:=k;rw [ag (ae.1 h).1];exact h
theorem NC.ext {A B:Heap} {w sm:Nat} {fv:V} {fs:List FunD} (h:NC A w sm fv fs) (k:Ext A B):NC B w sm fv fs:=⟨cz h.gw k,h.rd.ext k,h.sml,Ext.at' k h.sh⟩
theorem NC.load {A B:Heap} {w sm:Nat} {fv:V} {fs:List FunD} (h:NC A w sm fv fs) (k:Ext A B):tu B false 1 (.ref w 0 0)=some fv:=by
 rw [r9,cz h.gw k];rfl
def Found (A:Heap) (n h:Nat) (t:Pt) (r:Option (Ex × List V × Heap)):Prop:=∃ D,r=some (.ret,iw n [(2,.ref h 0 0),(3,bl true)],D)∧Ext A D∧jm D h 0=some [Iz t.1,Iz t.2.1,Iz t.2.2]
theorem zi {H H':Heap} {v:V} {l:List InsD} (h:RdL 8 p9 H v l) (k:Ext H H'):RdL 8 p9 H' v l:=RdL.ext (P:=p9) p9.ext h k
theorem wz {H H':Heap} {v:V} {l:List BlkD} (h:RdL 2 aay H v l) (k:Ext H H'):RdL 2 aay H' v l:=RdL.ext (P:=aay) aay.ext h k
def axd:Option Pt→V
 | none=>.tup [.agg [Iz 0,Iz 0,Iz 0],.s (.bool false)]
 | some (i,b,k)=>.tup [.agg [Iz i,Iz b,Iz k],.s (.bool true)]
theorem y9 {C:Heap} {m:Nat} (h:C.length≤m) (fr:List V) (G:Heap):∃ G',trim m fr (C ++ G)=C ++ G':=by
 rcases auc m fr (C ++ G) with e | ⟨e,_⟩
 ·exact ⟨G,e⟩
 ·exact ⟨G.take (m - C.length),by rw [e,List.take_append,aaz h]⟩
def cI (bs:List BlkD):Nat:=(bs.map fun b=>b.code.length).sum
def cF (fs:List FunD):Nat:=(fs.map fun f=>cI f.blocks).sum
theorem a5k {bs:List BlkD} {k:Nat} {x:BlkD} (h:bs[k]?=some x):cI (bs.take (k+1))=cI (bs.take k)+x.code.length:=by
 rw [ut,h,cI,acu,List.sum_append];simp [cI]
theorem a5l {fs:List FunD} {k:Nat} {x:FunD} (h:fs[k]?=some x):cF (fs.take (k+1))=cF (fs.take k)+cI x.blocks:=by
 rw [ut,h,cF,acu,List.sum_append];simp [cF]
def giI (G:Nat→Nat→Nat→Nat→InsD→Bool) (n i b:Nat) (k:Nat) (x:InsD):Option Pt:=if G (n+k) i b k x then some (i,b,k) else none
def giB (G:Nat→Nat→Nat→Nat→InsD→Bool) (n i:Nat) (bs:List BlkD) (b:Nat) (bl:BlkD):Option Pt:=ags (giI G (n+cI (bs.take b)) i b) bl.code 0
def giF (G:Nat→Nat→Nat→Nat→InsD→Bool) (fs:List FunD) (i:Nat) (f:FunD):Option Pt:=ags (giB G (cF (fs.take i)) i f.blocks) f.blocks 0
def aj2 (G:Nat→Nat→Nat→Nat→InsD→Bool) (fs:List FunD):Option Pt:=ags (giF G fs) fs 0
section
variable {CT:Nat→Option CFun}
def Yld (CT:Nat→Option CFun) (base:Nat) (y:V) (K:Nat→Heap) (KD:Nat→Nat→Nat→Nat→Heap) (n i b k:Nat) (r:List V) (g:Bool):Prop:=∀ G,∃ G',dn CT y [.agg [Iz i,Iz b,Iz k],.agg r] base (K n ++ G)=if g then some (bl false,KD n i b k ++ G') else some (bl true,K (n+1) ++ G')
theorem cd_l0 (base:Nat) {A:Heap} {K:Nat→Heap} {KD:Nat→Nat→Nat→Nat→Heap} {Gf:Nat→Nat→Nat→Nat→InsD→Bool} {y:V} {L0 L:Nat} (hL:L0≤L) (hK:∀ n,(K n).length=L0) (hKD:∀ n i b k,(KD n i b k).length=L0) (hE:∀ n,Ext A (K n)) (hb:base≤L0) {i b n0:Nat} {v13 v21 cv:V} {n14 n15 n22 n23:Int} {l:List InsD} (hv:RdL 8 p9 A cv l) (hn:l.length < 2 ^ 20) (hy:∀ k x r,l[k]?=some x→p9 A r x→Yld CT base y K KD (n0+k) i b k r (Gf (n0+k) i b k x)):
 ∀ C,(∃ G,C=K (n0) ++ G)→(ags (giI Gf n0 i b) l 0=none∧∃ G',itW (evC (dn CT) itW base aeq) [] L (iw 47 [(0,y),(3,Iz i),(5,Iz b),(13,v13),(14,Iz n14),(15,Iz n15),(21,v21),(22,Iz n22),(23,Iz n23),(29,cv),(30,Iz l.length),(31,Iz 0)]) C=some (.ext 4,iw 47 [(0,y),(3,Iz i),(5,Iz b),(13,v13),(14,Iz n14),(15,Iz n15),(21,v21),(22,Iz n22),(23,Iz n23),(29,cv),(30,Iz l.length),(31,Iz l.length),(32,bl false)],K (n0+l.length) ++ G'))∨∃ t,ags (giI Gf n0 i b) l 0=some t∧∃ fr n G',itW (evC (dn CT) itW base aeq) [] L (iw 47 [(0,y),(3,Iz i),(5,Iz b),(13,v13),(14,Iz n14),(15,Iz n15),(21,v21),(22,Iz n22),(23,Iz n23),(29,cv),(30,Iz l.length),(31,Iz 0)]) C=some (.ret,fr,KD n t.1 t.2.1 t.2.2 ++ G'):=by
 intro C0 hC0
 rcases ai9 l a3o (giI Gf n0 i b) (fun k C=>∃ G,C=K (n0+k) ++ G) (fun k C=>itW (evC (dn CT) itW base aeq) [] L (iw 47 [(0,y),(3,Iz i),(5,Iz b),(13,v13),(14,Iz n14),(15,Iz n15),(21,v21),(22,Iz n22),(23,Iz n23),(29,cv),(30,Iz l.length),(31,Iz k)]) C) (fun t r=>∃ fr n G',r=some (.ret,fr,KD n t.1 t.2.1 t.2.2 ++ G')) (by
  intro k C hk ⟨G,hC'⟩;have hC:=hC'.symm
  have hlt':((k:Int) < (l.length:Int)):=by omega
  have hwk:=w64 (n:=k) (by omega)
  have hkx:=nk hk a3o;obtain ⟨x,hxe⟩:∃ x,l.getD k a3o=x:=⟨_,rfl⟩;rw [hxe] at hkx ⊢;have hmem:=ak hkx;obtain ⟨a,r,a1,hr,a2,_⟩:=hv.at2 hkx;have hEA:Ext A C:=hC ▸ (hE _).trans ⟨G,rfl⟩;have ld:=a2 C hEA
  have hbC:base≤C.length:=by rw [← hC,az,hK];omega
  have hgg:∀ c,jm (C ++ [Ob.cells 0 c]) C.length 0=some c:=fun c=>dh C 0 c;have hss:∀ c d,(C ++ [c]).set C.length d=C ++ [d]:=fun c d=>ny C c d;have eC:∀ c,Ext C (C ++ [Ob.cells 0 c]):=fun c=>Ext.app _ _
  have eG:∀ c:List V,C ++ [Ob.cells 0 c]=K (n0+k) ++ (G ++ [Ob.cells 0 c]):=fun c=>by rw [← hC,jh]
  obtain ⟨av,lv,rfl,q1,q2,q3,q4,_⟩:=id hr;obtain ⟨G',y1⟩:=hy k x _ hkx hr (G ++ [Ob.cells 0 (jg x av lv)]);rw [← eG] at y1;have hav:=q1.one;have hlv:=q3.one;unfold giI;cases hg:Gf (n0+k) i b k x with
  | false=>
    rw [hg,if_neg aa8] at y1
    obtain ⟨G2,hG2⟩:=y9 (C:=K (n0+(k+1))) (m:=L) (by rw [hK];exact hL) (iw 47 [(0,y),(3,Iz i),(5,Iz b),(13,v13),(14,Iz n14),(15,Iz n15),(21,v21),(22,Iz n22),(23,Iz n23),(29,cv),(30,Iz l.length),(31,Iz (k+1:Nat))]) G'
    refine .inl ⟨if_neg aa8,K (n0+(k+1)) ++ G2,?_,G2,rfl⟩;simp only [jg,Iz,bl,vg] at ld y1 hG2 ⊢;rw [dw];simp only [Iz,bl,afa,aa,simprocAttr,hlt',a1,ld,hbC,hgg,hss,hav,hlv,di,y1,hwk,hG2]
  | true=>
    rw [hg,if_pos rfl] at y1
    obtain ⟨G2,hG2⟩:=y9 (C:=KD (n0+k) i b k) (m:=L) (by rw [hKD];exact hL) (iw 47 [(0,y),(3,Iz i),(5,Iz b),(13,v13),(14,Iz n14),(15,Iz n15),(21,v21),(22,Iz n22),(23,Iz n23),(29,cv),(30,Iz l.length),(31,Iz k),(43,bl true)]) G'
    refine .inr ⟨(i,b,k),if_pos rfl,iw 47 [(0,y),(3,Iz i),(5,Iz b),(13,v13),(14,Iz n14),(15,Iz n15),(21,v21),(22,Iz n22),(23,Iz n23),(29,cv),(30,Iz l.length),(31,Iz k),(43,bl true)],n0+k,G2,?_⟩;simp only [jg,Iz,bl] at ld y1 hG2 ⊢;rw [dw]
    simp only [Iz,bl,afa,aa,simprocAttr,hlt',a1,ld,hbC,hgg,hss,hav,hlv,di,y1,hG2]) C0 (by exact hC0) with ⟨e1,C,e2,G,e3⟩ | e
 ·refine .inl ⟨e1,?_⟩;rw [show n0+l.length=n0+l.length from rfl] at e3
  obtain ⟨G',hG'⟩:=y9 (C:=K (n0+l.length)) (m:=L) (by rw [hK];exact hL) (iw 47 [(0,y),(3,Iz i),(5,Iz b),(13,v13),(14,Iz n14),(15,Iz n15),(21,v21),(22,Iz n22),(23,Iz n23),(29,cv),(30,Iz l.length),(31,Iz l.length),(32,bl false)]) G
  refine ⟨G',?_⟩;rw [ry] at e2;refine e2.trans ?_;subst e3;rw [dw];simp only [Iz,bl] at hG';simp only [Iz,bl,afa,aa,simprocAttr,jo,hG']
 ·rw [ry] at e;exact .inr e
theorem cd_l1 (base:Nat) {A:Heap} {K:Nat→Heap} {KD:Nat→Nat→Nat→Nat→Heap} {Gf:Nat→Nat→Nat→Nat→InsD→Bool} {y:V} {L0 L:Nat} (hL:L0≤L) (hK:∀ n,(K n).length=L0) (hKD:∀ n i b k,(KD n i b k).length=L0) (hE:∀ n,Ext A (K n)) (hb:base≤L0) {i n0:Nat} {v13 bv:V} {n14 n15:Int} {l:List BlkD} (hv:RdL 2 aay A bv l) (hn:l.length < 2 ^ 20) (hnc:∀ b∈l,b.code.length < 2 ^ 20) (hy:∀ b x,l[b]?=some x→∀ k z r,x.code[k]?=some z→p9 A r z→Yld CT base y K KD (n0+cI (l.take b)+k) i b k r (Gf (n0+cI (l.take b)+k) i b k z)):
 ∀ C,(∃ G,C=K (n0) ++ G)→(ags (giB Gf n0 i l) l 0=none∧∃ G',itW (evC (dn CT) itW base aep) [] L (iw 47 [(0,y),(3,Iz i),(13,v13),(14,Iz n14),(15,Iz n15),(21,bv),(22,Iz l.length),(23,Iz 0)]) C=some (.ext 2,iw 47 [(0,y),(3,Iz i),(13,v13),(14,Iz n14),(15,Iz n15),(21,bv),(22,Iz l.length),(23,Iz l.length),(24,bl false)],K (n0+cI l) ++ G'))∨∃ t,ags (giB Gf n0 i l) l 0=some t∧∃ fr n G',itW (evC (dn CT) itW base aep) [] L (iw 47 [(0,y),(3,Iz i),(13,v13),(14,Iz n14),(15,Iz n15),(21,bv),(22,Iz l.length),(23,Iz 0)]) C=some (.ret,fr,KD n t.1 t.2.1 t.2.2 ++ G'):=by
 intro C0 hC0
 rcases ai9 l a5q (giB Gf n0 i l) (fun k C=>∃ G,C=K (n0+cI (l.take k)) ++ G) (fun k C=>itW (evC (dn CT) itW base aep) [] L (iw 47 [(0,y),(3,Iz i),(13,v13),(14,Iz n14),(15,Iz n15),(21,bv),(22,Iz l.length),(23,Iz k)]) C) (fun t r=>∃ fr n G',r=some (.ret,fr,KD n t.1 t.2.1 t.2.2 ++ G')) (by
  intro k C hk ⟨G,hC'⟩;have hC:=hC'.symm
  have hlt':((k:Int) < (l.length:Int)):=by omega
  have hwk:=w64 (n:=k) (by omega)
  have hkx:=nk hk a5q;obtain ⟨x,hxe⟩:∃ x,l.getD k a5q=x:=⟨_,rfl⟩;rw [hxe] at hkx ⊢;have hmem:=ak hkx;obtain ⟨a,r,a1,hr,a2,_⟩:=hv.at2 hkx;have hEA:Ext A C:=hC ▸ (hE _).trans ⟨G,rfl⟩;have ld:=a2 C hEA
  have hbC:base≤C.length:=by rw [← hC,az,hK];omega
  have hgg:∀ c,jm (C ++ [Ob.cells 0 c]) C.length 0=some c:=fun c=>dh C 0 c;have hss:∀ c d,(C ++ [c]).set C.length d=C ++ [d]:=fun c d=>ny C c d;have eC:∀ c,Ext C (C ++ [Ob.cells 0 c]):=fun c=>Ext.app _ _
  have eG:∀ c:List V,C ++ [Ob.cells 0 c]=K (n0+cI (l.take k)) ++ (G ++ [Ob.cells 0 c]):=fun c=>by rw [← hC,jh]
  obtain ⟨cv,rfl,hcv⟩:=id hr;have hcl:=(zi hcv (hEA.trans (eC [Sb x.label,cv]))).len;have hco:=hcv.one;have hct:=a5k hkx
  have hl2:(C ++ [Ob.cells 0 [Sb x.label,cv]]).length=C.length+1:=by simp
  have hL1:L0≤C.length+1:=by rw [← hC,az,hK];omega
  have hin:=cd_l0 (CT:=CT) (Gf:=Gf) (y:=y) (v13:=v13) (v21:=bv) (i:=i) (b:=k) (n14:=n14) (n15:=n15) (n22:=l.length) (n23:=k) base (L:=C.length+1) hL1 hK hKD hE hb hcv (hnc x hmem) (n0:=n0+cI (l.take k)) (hy k x hkx) (C ++ [Ob.cells 0 [Sb x.label,cv]]) ⟨G ++ [Ob.cells 0 [Sb x.label,cv]],eG _⟩
  rw [show n0+cI (l.take k)+x.code.length=n0+cI (l.take (k+1)) by rw [hct];omega] at hin
  rcases hin with ⟨z1,G',z2⟩ | ⟨t,z1,fr,n,G',z2⟩
  ·obtain ⟨G2,hG2⟩:=y9 (C:=K (n0+cI (l.take (k+1)))) (m:=L) (by rw [hK];exact hL) (iw 47 [(0,y),(3,Iz i),(13,v13),(14,Iz n14),(15,Iz n15),(21,bv),(22,Iz l.length),(23,Iz (k+1:Nat))]) G'
   refine .inl ⟨z1,K (n0+cI (l.take (k+1))) ++ G2,?_,G2,rfl⟩;simp only [Iz,bl] at z2 hG2 ld ⊢;rw [dw];simp only [Iz,bl,afa,aa,simprocAttr,hlt',a1,ld,hbC,hgg,hss,hco,hcl,di,hl2,z2,hwk,hG2]
  ·obtain ⟨G2,hG2⟩:=y9 (C:=KD n t.1 t.2.1 t.2.2) (m:=L) (by rw [hKD];exact hL) (ru [] fr) G'
   refine .inr ⟨t,z1,ru [] fr,n,G2,?_⟩;simp only [Iz,bl] at z2 hG2 ld ⊢;rw [dw]
   simp only [Iz,bl,afa,aa,simprocAttr,hlt',a1,ld,hbC,hgg,hss,hco,hcl,di,hl2,z2,hG2]) C0 (by rw [df,show n0+cI []=n0 from rfl];exact hC0) with ⟨e1,C,e2,G,e3⟩ | e
 ·refine .inl ⟨e1,?_⟩;rw [ky] at e3
  obtain ⟨G',hG'⟩:=y9 (C:=K (n0+cI l)) (m:=L) (by rw [hK];exact hL) (iw 47 [(0,y),(3,Iz i),(13,v13),(14,Iz n14),(15,Iz n15),(21,bv),(22,Iz l.length),(23,Iz l.length),(24,bl false)]) G
  refine ⟨G',?_⟩;rw [ry] at e2;refine e2.trans ?_;subst e3;rw [dw];simp only [Iz,bl] at hG';simp only [Iz,bl,afa,aa,simprocAttr,jo,hG']
 ·rw [ry] at e;exact .inr e
theorem cd_l2 (base:Nat) {A:Heap} {K:Nat→Heap} {KD:Nat→Nat→Nat→Nat→Heap} {Gf:Nat→Nat→Nat→Nat→InsD→Bool} {y:V} {L0 L:Nat} (hL:L0≤L) (hK:∀ n,(K n).length=L0) (hKD:∀ n i b k,(KD n i b k).length=L0) (hE:∀ n,Ext A (K n)) (hb:base≤L0) {fv:V} {l:List FunD} (hv:RdL 3 agr A fv l) (hn:l.length < 2 ^ 20) (hnb:∀ f∈l,f.blocks.length < 2 ^ 20) (hnc:∀ f∈l,∀ b∈f.blocks,b.code.length < 2 ^ 20) (hy:∀ i f,l[i]?=some f→∀ b x,f.blocks[b]?=some x→∀ k z r,x.code[k]?=some z→p9 A r z→Yld CT base y K KD (cF (l.take i)+cI (f.blocks.take b)+k) i b k r (Gf (cF (l.take i)+cI (f.blocks.take b)+k) i b k z)):
 ∀ C,(∃ G,C=K (0) ++ G)→(ags (giF Gf l) l 0=none∧∃ G',itW (evC (dn CT) itW base aeo) [] L (iw 47 [(0,y),(13,fv),(14,Iz l.length),(15,Iz 0)]) C=some (.ext 0,iw 47 [(0,y),(13,fv),(14,Iz l.length),(15,Iz l.length),(16,bl false)],K (cF l) ++ G'))∨∃ t,ags (giF Gf l) l 0=some t∧∃ fr n G',itW (evC (dn CT) itW base aeo) [] L (iw 47 [(0,y),(13,fv),(14,Iz l.length),(15,Iz 0)]) C=some (.ret,fr,KD n t.1 t.2.1 t.2.2 ++ G'):=by
 intro C0 hC0
 rcases ai9 l a3y (giF Gf l) (fun k C=>∃ G,C=K (cF (l.take k)) ++ G) (fun k C=>itW (evC (dn CT) itW base aeo) [] L (iw 47 [(0,y),(13,fv),(14,Iz l.length),(15,Iz k)]) C) (fun t r=>∃ fr n G',r=some (.ret,fr,KD n t.1 t.2.1 t.2.2 ++ G')) (by
  intro k C hk ⟨G,hC'⟩;have hC:=hC'.symm
  have hlt':((k:Int) < (l.length:Int)):=by omega
  have hwk:=w64 (n:=k) (by omega)
  have hkx:=nk hk a3y;obtain ⟨x,hxe⟩:∃ x,l.getD k a3y=x:=⟨_,rfl⟩;rw [hxe] at hkx ⊢;have hmem:=ak hkx;obtain ⟨a,r,a1,hr,a2,_⟩:=hv.at2 hkx;have hEA:Ext A C:=hC ▸ (hE _).trans ⟨G,rfl⟩;have ld:=a2 C hEA
  have hbC:base≤C.length:=by rw [← hC,az,hK];omega
  have hgg:∀ c,jm (C ++ [Ob.cells 0 c]) C.length 0=some c:=fun c=>dh C 0 c;have hss:∀ c d,(C ++ [c]).set C.length d=C ++ [d]:=fun c d=>ny C c d;have eC:∀ c,Ext C (C ++ [Ob.cells 0 c]):=fun c=>Ext.app _ _
  have eG:∀ c:List V,C ++ [Ob.cells 0 c]=K (cF (l.take k)) ++ (G ++ [Ob.cells 0 c]):=fun c=>by rw [← hC,jh]
  obtain ⟨pv,bv,rfl,q1,q2,q3,hbv⟩:=id hr;have hpo:=q1.one;have hbo:=hbv.one;have hbl:=(wz hbv (hEA.trans (eC [Sb x.name,pv,bv]))).len;have hct:=a5l hkx
  have hl2:(C ++ [Ob.cells 0 [Sb x.name,pv,bv]]).length=C.length+1:=by simp
  have hL1:L0≤C.length+1:=by rw [← hC,az,hK];omega
  have hin:=cd_l1 (CT:=CT) (Gf:=Gf) (y:=y) (v13:=fv) (i:=k) (n14:=l.length) (n15:=k) base (L:=C.length+1) hL1 hK hKD hE hb hbv (hnb x hmem) (hnc x hmem) (n0:=cF (l.take k)) (hy k x hkx) (C ++ [Ob.cells 0 [Sb x.name,pv,bv]]) ⟨G ++ [Ob.cells 0 [Sb x.name,pv,bv]],eG _⟩;rw [← hct] at hin
  rcases hin with ⟨z1,G',z2⟩ | ⟨t,z1,fr,n,G',z2⟩
  ·obtain ⟨G2,hG2⟩:=y9 (C:=K (cF (l.take (k+1)))) (m:=L) (by rw [hK];exact hL) (iw 47 [(0,y),(13,fv),(14,Iz l.length),(15,Iz (k+1:Nat))]) G'
   refine .inl ⟨z1,K (cF (l.take (k+1))) ++ G2,?_,G2,rfl⟩;simp only [Iz,bl] at z2 hG2 ld ⊢;rw [dw];simp only [Iz,bl,afa,aa,simprocAttr,hlt',a1,ld,hbC,hgg,hss,hpo,hbo,hbl,di,hl2,z2,hwk,hG2]
  ·obtain ⟨G2,hG2⟩:=y9 (C:=KD n t.1 t.2.1 t.2.2) (m:=L) (by rw [hKD];exact hL) (ru [] fr) G'
   refine .inr ⟨t,z1,ru [] fr,n,G2,?_⟩;simp only [Iz,bl] at z2 hG2 ld ⊢;rw [dw]
   simp only [Iz,bl,afa,aa,simprocAttr,hlt',a1,ld,hbC,hgg,hss,hpo,hbo,hbl,di,hl2,z2,hG2]) C0 (by rw [df,show cF []=0 from rfl];exact hC0) with ⟨e1,C,e2,G,e3⟩ | e
 ·refine .inl ⟨e1,?_⟩;rw [ky] at e3
  obtain ⟨G',hG'⟩:=y9 (C:=K (cF l)) (m:=L) (by rw [hK];exact hL) (iw 47 [(0,y),(13,fv),(14,Iz l.length),(15,Iz l.length),(16,bl false)]) G
  refine ⟨G',?_⟩;rw [ry] at e2;refine e2.trans ?_;subst e3;rw [dw];simp only [Iz,bl] at hG';simp only [Iz,bl,afa,aa,simprocAttr,jo,hG']
 ·rw [ry] at e;exact .inr e
theorem a5e (hT:CT amj=some (.code aeb)) (base:Nat) {A:Heap} {K:Nat→Heap} {KD:Nat→Nat→Nat→Nat→Heap} {Gf:Nat→Nat→Nat→Nat→InsD→Bool} {y:V} {L0:Nat} (hK:∀ n,(K n).length=L0) (hKD:∀ n i b k,(KD n i b k).length=L0) (hE:∀ n,Ext A (K n)) (hb:base≤L0) {w w1 sm:Nat} {fv:V} {fs:List FunD} (hc:NC A w sm fv fs) (hw:jm (K 0) w1 0=some [.ref w 0 0])
 (hy:∀ i f,fs[i]?=some f→∀ b x,f.blocks[b]?=some x→∀ k z r,x.code[k]?=some z→p9 A r z→Yld CT base y K KD (cF (fs.take i)+cI (f.blocks.take b)+k) i b k r (Gf (cF (fs.take i)+cI (f.blocks.take b)+k) i b k z)):
 (aj2 Gf fs=none∧∃ G,dn CT (.fn amj [] [.ref w1 0 0]) [y] base (K 0)=some (.tup [],K (cF fs) ++ G))∨∃ t,aj2 Gf fs=some t∧∃ n G,dn CT (.fn amj [] [.ref w1 0 0]) [y] base (K 0)=some (.tup [],KD n t.1 t.2.1 t.2.2 ++ G):=by
 have x1:=yj hw;have x2:=hc.load (hE 0);have x3:=(hc.rd.ext (hE 0)).len
 rcases cd_l2 (CT:=CT) (Gf:=Gf) (y:=y) (L:=L0) base (af _) hK hKD hE hb hc.rd hc.sml.n hc.sml.nb hc.sml.nc hy (K 0) ⟨[],(oz _).symm⟩ with ⟨z1,G,z2⟩ | ⟨t,z1,fr,n,G,z2⟩
 ·refine .inl ⟨z1,G,oo (c:=aeb) hT (by simp [aeb]) ?_⟩
  simp only [Iz,bl] at z2 x3;simp only [aeb,afa,aa,simprocAttr,x1,x2,x3,hK,z2,a1m]
 ·refine .inr ⟨t,z1,n,G,oo (c:=aeb) hT (by simp [aeb]) ?_⟩
  simp only [Iz,bl] at z2 x3;simp only [aeb,afa,aa,simprocAttr,x1,x2,x3,hK,z2,a1m]
end
theorem uk {M:Nat} {xs:List ByteArray} {sep:ByteArray} (h1:xs.length≤1048576) (h2:∀ x∈xs,x.size≤M) (hM:M≤1048576) (h3:sep.size≤2):ane xs sep∧(abo xs sep).size≤xs.length * (M+2):=by
 have h:=bdx sep.data.toList (M:=M) (xs:=xs.map (·.data.toList)) (by
  intro x hx;obtain ⟨b,hb,rfl⟩:=xq.1 hx;exact h2 b hb)
 have h3':sep.data.toList.length≤2:=h3;rw [sw] at h
 have h4:xs.length * (sep.data.toList.length+M)≤xs.length * (M+2):=ab4 _ (by omega)
 have h5:xs.length * (M+2)≤1048576 * 1048578:=Nat.mul_le_mul h1 (by omega)
 exact ⟨⟨by omega,by omega⟩,ma h h4⟩
theorem ac8 {M:Nat} {a b:ByteArray} (ha:a.size≤M) (hb:b.size≤M):∀ x∈[a,b],x.size≤M:=by
 intro x hx;simp only [qc,aav,or_false] at hx
 rcases hx with rfl | rfl <;> assumption
theorem afg {M:Nat} {a b c:ByteArray} (ha:a.size≤M) (hb:b.size≤M) (hc:c.size≤M):∀ x∈[a,b,c],x.size≤M:=by
 intro x hx;simp only [qc,aav,or_false] at hx
 rcases hx with rfl | rfl | rfl <;> assumption
def xh:ByteArray:=⟨#[97,108,108,111,99,97]⟩
def xe:ByteArray:=⟨#[109,97,108,108,111,99]⟩
def ae8:ByteArray:=⟨#[110,117,108,108]⟩
def ac4:ByteArray:=⟨#[97,100,100,114]⟩
def ac2:ByteArray:=⟨#[99,111,112,121]⟩
def a6i:ByteArray:=⟨#[112,104,105]⟩
def aah:ByteArray:=⟨#[102,105,101,108,100]⟩
def ac0:ByteArray:=⟨#[108,111,97,100]⟩
def aaf:ByteArray:=⟨#[115,116,111,114,101]⟩
def ac3:ByteArray:=⟨#[99,97,108,108]⟩
def aag:ByteArray:=⟨#[105,99,97,108,108]⟩
def bBr:ByteArray:=⟨#[98,114]⟩
def ac1:ByteArray:=⟨#[103,111,116,111]⟩
def az9:ByteArray:=⟨#[114,101,116]⟩
def xz:ByteArray:=⟨#[44]⟩
def itB (n:Int):ByteArray:=⟨(Lib.decDigits n.toNat).toArray⟩
theorem aqh:∀ n:Nat,n < 100→(Lib.decDigits n).length≤2:=by
 intro n hn;rw [Lib.decDigits];split
 ·simp
 ·rw [Lib.decDigits,dif_pos (by omega)]
  simp
theorem afm {n:Int} (h0:0≤n) (h1:n < 100):(itB n).size≤2:=aqh n.toNat (by omega)
structure SmI (x:InsD):Prop where
 d:x.d.size≤200
 a:x.a.size≤200
 b:x.b.size≤200
 f:x.f.size≤200
 nx:x.xs.length≤20
 nl:x.ls.length≤20
 xs:∀ s∈x.xs,s.size≤200
 ls:∀ s∈x.ls,s.size≤200
structure WorT (CT:Nat→Option CFun):Prop where
 L:LibT CT
 W:CT bdu=some (.code apt)
 A:CT bdt=some (.code aps)
 T:CT bhr=some (.prim aye)
theorem adj {xs:List ByteArray} (h1:xs.length≤20) (h2:∀ x∈xs,x.size≤200):ane xs bCm∧(ug xs).size≤5000:=by
 have h:=uk (sep:=bCm) (by omega) h2 (by omega) (by decide)
 have n1:(⟨#[40]⟩:ByteArray).size=1:=rfl;have n2:(⟨#[41]⟩:ByteArray).size=1:=rfl;have h3:xs.length * (200+2)≤20 * 202:=lm _ h1;refine ⟨h.1,?_⟩;unfold ug;rw [wm,wm];omega
section
variable {CT:Nat→Option CFun}
theorem bh9 (h:WorT CT) (hT:CT bdi=some (.code anu)) (base:Nat) {A:Heap} {av lv:V} {x:InsD} (hr:p9 A (jg x av lv) x) (hx:SmI x):
 ∃ H',dn CT (.fn bdi [] []) [.agg (jg x av lv)] base A=some (Sb (ko [ac4,x.f]),H')∧Ext A H':=by
 obtain ⟨av',lv',he,q1,q2,q3,q4,_⟩:=hr;cases he;have hav:=q1.one;have hlv:=q3.one;have ha:=hx.a;have hb:=hx.b;have hf:=hx.f;have hd:=hx.d;have hl1:=eu A (Ob.cells 0 (jg x av lv));have hgg:=dh A 0 (jg x av lv);have e1:Ext A (A ++ [Ob.cells 0 (jg x av lv)]):=Ext.app _ _;have hsv:=uj (A ++ [Ob.cells 0 (jg x av lv)]) [ac4,x.f]
 have hj:=uk (xs:=[ac4,x.f]) (sep:=bSp) (by simp) (ac8 (M:=10000) (by first | decide | omega) (by first | decide | omega)) (by omega) (by decide)
 have hw:=uy h.L h.W base hsv hj.1
 refine ⟨_,gp (c:=anu) (k:=1) hT rfl (by decide) au1 ?_,e1.trans (Ext.app _ [Ob.cells 0 ([ac4,x.f].map Sb)])⟩
 rw [hl1] at hw;simp only [jg,jv,lh,fq,gy,ac4] at hw hgg hl1;simp only [jg,anu,a_f57,aa,simprocAttr,hav,hlv,di,hl1,hgg,hw];rfl
theorem bh8 (h:WorT CT) (hT:CT bdh=some (.code ant)) (base:Nat) {A:Heap} {av lv:V} {x:InsD} (hr:p9 A (jg x av lv) x) (hx:SmI x):
 ∃ H',dn CT (.fn bdh [] []) [.agg (jg x av lv)] base A=some (Sb (ko [ac2,x.a]),H')∧Ext A H':=by
 obtain ⟨av',lv',he,q1,q2,q3,q4,_⟩:=hr;cases he;have hav:=q1.one;have hlv:=q3.one;have ha:=hx.a;have hb:=hx.b;have hf:=hx.f;have hd:=hx.d;have hl1:=eu A (Ob.cells 0 (jg x av lv));have hgg:=dh A 0 (jg x av lv);have e1:Ext A (A ++ [Ob.cells 0 (jg x av lv)]):=Ext.app _ _;have hsv:=uj (A ++ [Ob.cells 0 (jg x av lv)]) [ac2,x.a]
 have hj:=uk (xs:=[ac2,x.a]) (sep:=bSp) (by simp) (ac8 (M:=10000) (by first | decide | omega) (by first | decide | omega)) (by omega) (by decide)
 have hw:=uy h.L h.W base hsv hj.1
 refine ⟨_,gp (c:=ant) (k:=1) hT rfl (by decide) au0 ?_,e1.trans (Ext.app _ [Ob.cells 0 ([ac2,x.a].map Sb)])⟩
 rw [hl1] at hw;simp only [jg,jv,lh,fq,gy,ac2] at hw hgg hl1;simp only [jg,ant,a_f58,aa,simprocAttr,hav,hlv,di,hl1,hgg,hw];rfl
theorem bh5 (h:WorT CT) (hT:CT bde=some (.code anp)) (base:Nat) {A:Heap} {av lv:V} {x:InsD} (hr:p9 A (jg x av lv) x) (hx:SmI x):
 ∃ H',dn CT (.fn bde [] []) [.agg (jg x av lv)] base A=some (Sb (ko [ac0,x.a]),H')∧Ext A H':=by
 obtain ⟨av',lv',he,q1,q2,q3,q4,_⟩:=hr;cases he;have hav:=q1.one;have hlv:=q3.one;have ha:=hx.a;have hb:=hx.b;have hf:=hx.f;have hd:=hx.d;have hl1:=eu A (Ob.cells 0 (jg x av lv));have hgg:=dh A 0 (jg x av lv);have e1:Ext A (A ++ [Ob.cells 0 (jg x av lv)]):=Ext.app _ _;have hsv:=uj (A ++ [Ob.cells 0 (jg x av lv)]) [ac0,x.a]
 have hj:=uk (xs:=[ac0,x.a]) (sep:=bSp) (by simp) (ac8 (M:=10000) (by first | decide | omega) (by first | decide | omega)) (by omega) (by decide)
 have hw:=uy h.L h.W base hsv hj.1
 refine ⟨_,gp (c:=anp) (k:=1) hT rfl (by decide) auw ?_,e1.trans (Ext.app _ [Ob.cells 0 ([ac0,x.a].map Sb)])⟩
 rw [hl1] at hw;simp only [jg,jv,lh,fq,gy,ac0] at hw hgg hl1;simp only [jg,anp,a_f62,aa,simprocAttr,hav,hlv,di,hl1,hgg,hw];rfl
theorem bec (h:WorT CT) (hT:CT bdd=some (.code ano)) (base:Nat) {A:Heap} {av lv:V} {x:InsD} (hr:p9 A (jg x av lv) x) (hx:SmI x):
 ∃ H',dn CT (.fn bdd [] []) [.agg (jg x av lv)] base A=some (Sb (ko [aaf,x.a ++ xz,x.b]),H')∧Ext A H':=by
 obtain ⟨av',lv',he,q1,q2,q3,q4,_⟩:=hr;cases he;have hav:=q1.one;have hlv:=q3.one;have ha:=hx.a;have hb:=hx.b;have hf:=hx.f;have hd:=hx.d;have hl1:=eu A (Ob.cells 0 (jg x av lv));have hgg:=dh A 0 (jg x av lv);have e1:Ext A (A ++ [Ob.cells 0 (jg x av lv)]):=Ext.app _ _;have n1:xz.size=1:=rfl
 have c1:x.a.size+xz.size≤4611686018427387904:=by omega
 have c2:(x.a ++ xz).size≤10000:=by rw [wm];omega
 have hsv:=uj (A ++ [Ob.cells 0 (jg x av lv)]) [aaf,x.a ++ xz,x.b]
 have hj:=uk (xs:=[aaf,x.a ++ xz,x.b]) (sep:=bSp) (by simp) (afg (M:=10000) (by first | decide | omega) (by first | decide | omega) (by first | decide | omega)) (by omega) (by decide)
 have hw:=uy h.L h.W base hsv hj.1
 refine ⟨_,gp (c:=ano) (k:=1) hT rfl (by decide) auv ?_,e1.trans (Ext.app _ [Ob.cells 0 ([aaf,x.a ++ xz,x.b].map Sb)])⟩
 rw [hl1] at hw;simp only [jg,jv,lh,fq,gy,aaf,xz] at hw hgg hl1 c1;simp only [jg,ano,a_f63,aa,simprocAttr,hav,hlv,di,hl1,hgg,hw,yn c1,if_false];rfl
theorem beb (h:WorT CT) (hT:CT bdc=some (.code ann)) (base:Nat) {A:Heap} {av lv:V} {x:InsD} (hr:p9 A (jg x av lv) x) (hx:SmI x):
 ∃ H',dn CT (.fn bdc [] []) [.agg (jg x av lv)] base A=some (Sb (ko [ac3,x.f ++ ug x.xs]),H')∧Ext A H':=by
 obtain ⟨av',lv',he,q1,q2,q3,q4,_⟩:=hr;cases he;have hav:=q1.one;have hlv:=q3.one;have ha:=hx.a;have hb:=hx.b;have hf:=hx.f;have hd:=hx.d;have hl1:=eu A (Ob.cells 0 (jg x av lv));have hgg:=dh A 0 (jg x av lv);have e1:Ext A (A ++ [Ob.cells 0 (jg x av lv)]):=Ext.app _ _;have hz:=adj hx.nx hx.xs;have hA:=aqp h.L h.A (A ++ [Ob.cells 0 (jg x av lv)]).length (apf (q1.ext e1) q2) hz.1;rw [hl1] at hA
 have c1:x.f.size+(ug x.xs).size≤4611686018427387904:=by omega
 have c2:(x.f ++ ug x.xs).size≤10000:=by rw [wm];omega
 have hsv:=uj (A ++ [Ob.cells 0 (jg x av lv)]) [ac3,x.f ++ ug x.xs]
 have hj:=uk (xs:=[ac3,x.f ++ ug x.xs]) (sep:=bSp) (by simp) (ac8 (M:=10000) (by first | decide | omega) (by first | decide | omega)) (by omega) (by decide)
 have hw:=uy h.L h.W base hsv hj.1
 refine ⟨_,gp (c:=ann) (k:=1) hT rfl (by decide) auu ?_,e1.trans (Ext.app _ [Ob.cells 0 ([ac3,x.f ++ ug x.xs].map Sb)])⟩
 rw [hl1] at hw;simp only [jg,jv,lh,fq,gy,ac3] at hw hgg hl1 hA;simp only [jg,ann,a_f64,aa,simprocAttr,hav,hlv,di,hl1,hgg,hw,hA,yn c1,if_false];rfl
theorem bea (h:WorT CT) (hT:CT bdb=some (.code anm)) (base:Nat) {A:Heap} {av lv:V} {x:InsD} (hr:p9 A (jg x av lv) x) (hx:SmI x):
 ∃ H',dn CT (.fn bdb [] []) [.agg (jg x av lv)] base A=some (Sb (ko [aag,x.a ++ ug x.xs]),H')∧Ext A H':=by
 obtain ⟨av',lv',he,q1,q2,q3,q4,_⟩:=hr;cases he;have hav:=q1.one;have hlv:=q3.one;have ha:=hx.a;have hb:=hx.b;have hf:=hx.f;have hd:=hx.d;have hl1:=eu A (Ob.cells 0 (jg x av lv));have hgg:=dh A 0 (jg x av lv);have e1:Ext A (A ++ [Ob.cells 0 (jg x av lv)]):=Ext.app _ _;have hz:=adj hx.nx hx.xs;have hA:=aqp h.L h.A (A ++ [Ob.cells 0 (jg x av lv)]).length (apf (q1.ext e1) q2) hz.1;rw [hl1] at hA
 have c1:x.a.size+(ug x.xs).size≤4611686018427387904:=by omega
 have c2:(x.a ++ ug x.xs).size≤10000:=by rw [wm];omega
 have hsv:=uj (A ++ [Ob.cells 0 (jg x av lv)]) [aag,x.a ++ ug x.xs]
 have hj:=uk (xs:=[aag,x.a ++ ug x.xs]) (sep:=bSp) (by simp) (ac8 (M:=10000) (by first | decide | omega) (by first | decide | omega)) (by omega) (by decide)
 have hw:=uy h.L h.W base hsv hj.1
 refine ⟨_,gp (c:=anm) (k:=1) hT rfl (by decide) aut ?_,e1.trans (Ext.app _ [Ob.cells 0 ([aag,x.a ++ ug x.xs].map Sb)])⟩
 rw [hl1] at hw;simp only [jg,jv,lh,fq,gy,aag] at hw hgg hl1 hA;simp only [jg,anm,a_f65,aa,simprocAttr,hav,hlv,di,hl1,hgg,hw,hA,yn c1,if_false];rfl
theorem bd9 (h:WorT CT) (hT:CT bda=some (.code anl)) (base:Nat) {A:Heap} {av lv:V} {x:InsD} (hr:p9 A (jg x av lv) x) (hx:SmI x) (hn:x.ls.length=2):
 ∃ H',dn CT (.fn bda [] []) [.agg (jg x av lv)] base A=some (Sb (ko [bBr,x.ls.getD 0 ⟨#[]⟩,x.ls.getD 1 ⟨#[]⟩]),H')∧Ext A H':=by
 obtain ⟨av',lv',he,q1,q2,q3,q4,_⟩:=hr;cases he;have hav:=q1.one;have hlv:=q3.one;have ha:=hx.a;have hb:=hx.b;have hf:=hx.f;have hd:=hx.d;have hl1:=eu A (Ob.cells 0 (jg x av lv));have hgg:=dh A 0 (jg x av lv);have e1:Ext A (A ++ [Ob.cells 0 (jg x av lv)]):=Ext.app _ _
 obtain ⟨a0,i0,l0⟩:=ab0 (q3.ext e1) q4 (k:=0) (by omega)
 have i0:mq 1 lv (.s (.int .i64 0))=some a0:=i0
 have z0:(x.ls.getD 0 ⟨#[]⟩).size≤200:=hx.ls _ (by rw [um,ah (by omega)];exact oq _)
 obtain ⟨a1,i1,l1⟩:=ab0 (q3.ext e1) q4 (k:=1) (by omega)
 have i1:mq 1 lv (.s (.int .i64 1))=some a1:=i1
 have z1:(x.ls.getD 1 ⟨#[]⟩).size≤200:=hx.ls _ (by rw [um,ah (by omega)];exact oq _)
 have hsv:=uj (A ++ [Ob.cells 0 (jg x av lv)]) [bBr,x.ls.getD 0 ⟨#[]⟩,x.ls.getD 1 ⟨#[]⟩]
 have hj:=uk (xs:=[bBr,x.ls.getD 0 ⟨#[]⟩,x.ls.getD 1 ⟨#[]⟩]) (sep:=bSp) (by simp) (afg (M:=10000) (by first | decide | omega) (by first | decide | omega) (by first | decide | omega)) (by omega) (by decide)
 have hw:=uy h.L h.W base hsv hj.1
 refine ⟨_,gp (c:=anl) (k:=1) hT rfl (by decide) aus ?_,e1.trans (Ext.app _ [Ob.cells 0 ([bBr,x.ls.getD 0 ⟨#[]⟩,x.ls.getD 1 ⟨#[]⟩].map Sb)])⟩
 rw [hl1] at hw;simp only [jg,jv,lh,fq,gy,bBr] at hw hgg hl1 l0 l1;simp only [jg,anl,a_f66,aa,simprocAttr,hav,hlv,di,hl1,hgg,hw,i0,l0,i1,l1];rfl
theorem bd8 (h:WorT CT) (hT:CT bc9=some (.code ank)) (base:Nat) {A:Heap} {av lv:V} {x:InsD} (hr:p9 A (jg x av lv) x) (hx:SmI x) (hn:x.ls.length=1):
 ∃ H',dn CT (.fn bc9 [] []) [.agg (jg x av lv)] base A=some (Sb (ko [ac1,x.ls.getD 0 ⟨#[]⟩]),H')∧Ext A H':=by
 obtain ⟨av',lv',he,q1,q2,q3,q4,_⟩:=hr;cases he;have hav:=q1.one;have hlv:=q3.one;have ha:=hx.a;have hb:=hx.b;have hf:=hx.f;have hd:=hx.d;have hl1:=eu A (Ob.cells 0 (jg x av lv));have hgg:=dh A 0 (jg x av lv);have e1:Ext A (A ++ [Ob.cells 0 (jg x av lv)]):=Ext.app _ _
 obtain ⟨a0,i0,l0⟩:=ab0 (q3.ext e1) q4 (k:=0) (by omega)
 have i0:mq 1 lv (.s (.int .i64 0))=some a0:=i0
 have z0:(x.ls.getD 0 ⟨#[]⟩).size≤200:=hx.ls _ (by rw [um,ah (by omega)];exact oq _)
 have hsv:=uj (A ++ [Ob.cells 0 (jg x av lv)]) [ac1,x.ls.getD 0 ⟨#[]⟩]
 have hj:=uk (xs:=[ac1,x.ls.getD 0 ⟨#[]⟩]) (sep:=bSp) (by simp) (ac8 (M:=10000) (by first | decide | omega) (by first | decide | omega)) (by omega) (by decide)
 have hw:=uy h.L h.W base hsv hj.1
 refine ⟨_,gp (c:=ank) (k:=1) hT rfl (by decide) aur ?_,e1.trans (Ext.app _ [Ob.cells 0 ([ac1,x.ls.getD 0 ⟨#[]⟩].map Sb)])⟩
 rw [hl1] at hw;simp only [jg,jv,lh,fq,gy,ac1] at hw hgg hl1 l0;simp only [jg,ank,a_f67,aa,simprocAttr,hav,hlv,di,hl1,hgg,hw,i0,l0];rfl
theorem bia (hT:CT bdj=some (.code anv)) (base:Nat) {A:Heap} {av lv:V} {x:InsD} (hr:p9 A (jg x av lv) x):
 ∃ H',dn CT (.fn bdj [] []) [.agg (jg x av lv)] base A=some (Sb ae8,H')∧Ext A H':=by
 obtain ⟨av',lv',he,q1,q2,q3,q4,_⟩:=hr;cases he;have hav:=q1.one;have hlv:=q3.one
 refine ⟨_,gp (c:=anv) (k:=1) hT rfl (by decide) au2 ?_,Ext.app A [Ob.cells 0 (jg x av lv)]⟩
 simp only [jg,anv,a_f56,aa,simprocAttr,hav,hlv,di];rfl
theorem a4h (h:WorT CT) (hT:CT ap7=some (.code aim)) (base:Nat) {A:Heap} {av lv:V} {x:InsD} (hav:av.one=true) (hlv:lv.one=true) (h0:0≤x.k) (h1:x.k < 100):
 dn CT (.fn ap7 [] []) [.agg (jg x av lv)] base A=some (Sb (itB x.k),A ++ [.cells 0 (jg x av lv)]):=by
 have hgg:=dh A 0 (jg x av lv);have hi:=a81 h.L base (H:=A ++ [.cells 0 (jg x av lv)]) h0 h1
 refine gp (c:=aim) (k:=1) hT rfl (by decide) au5 ?_
 simp only [jg] at hgg hi;simp only [jg,aim,a_f52,aa,simprocAttr,hav,hlv,di,hgg,hi];rfl
theorem bic (h:WorT CT) (hT:CT bdl=some (.code anx)) (base:Nat) {A:Heap} {av lv:V} {x:InsD} (hr:p9 A (jg x av lv) x) (hx:SmI x) (h0:0≤x.k) (h1:x.k < 100) {n:Nat} (hn:jm A n 0=some [.fn ap7 [] []]) (hN:CT ap7=some (.code aim)):
 ∃ H',dn CT (.fn bdl [] [.ref n 0 0]) [.agg (jg x av lv)] base A=some (Sb (ko [xh,itB x.k]),H')∧Ext A H':=by
 obtain ⟨av',lv',he,q1,q2,q3,q4,_⟩:=hr;cases he;have hav:=q1.one;have hlv:=q3.one;have ha:=hx.a;have hb:=hx.b;have hf:=hx.f;have hd:=hx.d;have hl1:=eu A (Ob.cells 0 (jg x av lv));have hgg:=dh A 0 (jg x av lv);have e1:Ext A (A ++ [Ob.cells 0 (jg x av lv)]):=Ext.app _ _;have hi:=a4h h hN base (A:=A ++ [Ob.cells 0 (jg x av lv)]) hav hlv h0 h1;have hz:=afm h0 h1;have hn1:=yj (cz hn e1);have hl2:=eu (A ++ [Ob.cells 0 (jg x av lv)]) (Ob.cells 0 (jg x av lv));rw [hl1] at hl2;have hsv:=uj (A ++ [Ob.cells 0 (jg x av lv)] ++ [Ob.cells 0 (jg x av lv)]) [xh,itB x.k]
 have hj:=uk (xs:=[xh,itB x.k]) (sep:=bSp) (by simp) (ac8 (M:=10000) (by first | decide | omega) (by first | decide | omega)) (by omega) (by decide)
 have hw:=uy h.L h.W base hsv hj.1
 refine ⟨_,gp (c:=anx) (k:=2) hT rfl (by decide) au4 ?_,(e1.trans (Ext.app _ [Ob.cells 0 (jg x av lv)])).trans (Ext.app _ [Ob.cells 0 ([xh,itB x.k].map Sb)])⟩
 rw [hl2] at hw;simp only [jg,jv,lh,fq,gy,xh] at hw hgg hl1 hi hn1 hl2;simp only [jg,anx,a_f54,aa,simprocAttr,hav,hlv,di,hl1,hgg,hw,hi,hn1,hl2];rfl
theorem bib (h:WorT CT) (hT:CT bdk=some (.code anw)) (base:Nat) {A:Heap} {av lv:V} {x:InsD} (hr:p9 A (jg x av lv) x) (hx:SmI x) (h0:0≤x.k) (h1:x.k < 100) {n:Nat} (hn:jm A n 0=some [.fn ap7 [] []]) (hN:CT ap7=some (.code aim)):
 ∃ H',dn CT (.fn bdk [] [.ref n 0 0]) [.agg (jg x av lv)] base A=some (Sb (ko [xe,itB x.k]),H')∧Ext A H':=by
 obtain ⟨av',lv',he,q1,q2,q3,q4,_⟩:=hr;cases he;have hav:=q1.one;have hlv:=q3.one;have ha:=hx.a;have hb:=hx.b;have hf:=hx.f;have hd:=hx.d;have hl1:=eu A (Ob.cells 0 (jg x av lv));have hgg:=dh A 0 (jg x av lv);have e1:Ext A (A ++ [Ob.cells 0 (jg x av lv)]):=Ext.app _ _;have hi:=a4h h hN base (A:=A ++ [Ob.cells 0 (jg x av lv)]) hav hlv h0 h1;have hz:=afm h0 h1;have hn1:=yj (cz hn e1);have hl2:=eu (A ++ [Ob.cells 0 (jg x av lv)]) (Ob.cells 0 (jg x av lv));rw [hl1] at hl2;have hsv:=uj (A ++ [Ob.cells 0 (jg x av lv)] ++ [Ob.cells 0 (jg x av lv)]) [xe,itB x.k]
 have hj:=uk (xs:=[xe,itB x.k]) (sep:=bSp) (by simp) (ac8 (M:=10000) (by first | decide | omega) (by first | decide | omega)) (by omega) (by decide)
 have hw:=uy h.L h.W base hsv hj.1
 refine ⟨_,gp (c:=anw) (k:=2) hT rfl (by decide) au3 ?_,(e1.trans (Ext.app _ [Ob.cells 0 (jg x av lv)])).trans (Ext.app _ [Ob.cells 0 ([xe,itB x.k].map Sb)])⟩
 rw [hl2] at hw;simp only [jg,jv,lh,fq,gy,xe] at hw hgg hl1 hi hn1 hl2;simp only [jg,anw,a_f55,aa,simprocAttr,hav,hlv,di,hl1,hgg,hw,hi,hn1,hl2];rfl
theorem bh6 (h:WorT CT) (hT:CT bdf=some (.code anq)) (base:Nat) {A:Heap} {av lv:V} {x:InsD} (hr:p9 A (jg x av lv) x) (hx:SmI x) (h0:0≤x.k) (h1:x.k < 100) {n:Nat} (hn:jm A n 0=some [.fn ap7 [] []]) (hN:CT ap7=some (.code aim)):
 ∃ H',dn CT (.fn bdf [] [.ref n 0 0]) [.agg (jg x av lv)] base A=some (Sb (ko [aah,x.a,itB x.k]),H')∧Ext A H':=by
 obtain ⟨av',lv',he,q1,q2,q3,q4,_⟩:=hr;cases he;have hav:=q1.one;have hlv:=q3.one;have ha:=hx.a;have hb:=hx.b;have hf:=hx.f;have hd:=hx.d;have hl1:=eu A (Ob.cells 0 (jg x av lv));have hgg:=dh A 0 (jg x av lv);have e1:Ext A (A ++ [Ob.cells 0 (jg x av lv)]):=Ext.app _ _;have hi:=a4h h hN (A ++ [Ob.cells 0 (jg x av lv)]).length (A:=A ++ [Ob.cells 0 (jg x av lv)]) hav hlv h0 h1;have hz:=afm h0 h1;have hn1:=yj (cz hn e1);have hl2:=eu (A ++ [Ob.cells 0 (jg x av lv)]) (Ob.cells 0 (jg x av lv));rw [hl1] at hl2 hi;have hsv:=uj (A ++ [Ob.cells 0 (jg x av lv)] ++ [Ob.cells 0 (jg x av lv)]) [aah,x.a,itB x.k]
 have hj:=uk (xs:=[aah,x.a,itB x.k]) (sep:=bSp) (by simp) (afg (M:=10000) (by first | decide | omega) (by first | decide | omega) (by first | decide | omega)) (by omega) (by decide)
 have hw:=uy h.L h.W base hsv hj.1
 refine ⟨_,gp (c:=anq) (k:=2) hT rfl (by decide) aux ?_,(e1.trans (Ext.app _ [Ob.cells 0 (jg x av lv)])).trans (Ext.app _ [Ob.cells 0 ([aah,x.a,itB x.k].map Sb)])⟩
 rw [hl2] at hw;simp only [jg,jv,lh,fq,gy,aah] at hw hgg hl1 hi hn1 hl2;simp only [jg,anq,a_f61,aa,simprocAttr,hav,hlv,di,hl1,hgg,hw,hi,hn1,hl2];rfl
def bcf (x:InsD):ByteArray:=⟨(Lib.trimSuffix (ko [az9,x.a]).data.toList [32]).toArray⟩
theorem a6t (h:WorT CT) (base:Nat) {H:Heap} {s:ByteArray} (hs:s.size≤4611686018427387904):dn CT (.fn bhr [] []) [.s (.string s),.s (.string ⟨#[32]⟩)] base H=some (.s (.string ⟨(Lib.trimSuffix s.data.toList [32]).toArray⟩),H):=by
 refine abz ?_;simp only [zm,h.T,aye,cu,oz];exact if_pos hs
theorem bd7 (h:WorT CT) (hT:CT bc8=some (.code anj)) (base:Nat) {A:Heap} {av lv:V} {x:InsD} (hr:p9 A (jg x av lv) x) (hx:SmI x):
 ∃ H',dn CT (.fn bc8 [] []) [.agg (jg x av lv)] base A=some (Sb (bcf x),H')∧Ext A H':=by
 obtain ⟨av',lv',he,q1,q2,q3,q4,_⟩:=hr;cases he;have hav:=q1.one;have hlv:=q3.one;have ha:=hx.a;have hb:=hx.b;have hf:=hx.f;have hd:=hx.d;have hl1:=eu A (Ob.cells 0 (jg x av lv));have hgg:=dh A 0 (jg x av lv);have e1:Ext A (A ++ [Ob.cells 0 (jg x av lv)]):=Ext.app _ _;have hsv:=uj (A ++ [Ob.cells 0 (jg x av lv)]) [az9,x.a]
 have hj:=uk (xs:=[az9,x.a]) (sep:=bSp) (by simp) (ac8 (M:=10000) (by first | decide | omega) (by first | decide | omega)) (by omega) (by decide)
 have hw:=uy h.L h.W base hsv hj.1
 have ht:=a6t h base (H:=A ++ [Ob.cells 0 (jg x av lv)] ++ [Ob.cells 0 ([az9,x.a].map Sb)]) (s:=ko [az9,x.a]) (by have:=hj.2;simp only [fq,gy] at this;exact ma this (by decide))
 refine ⟨_,gp (c:=anj) (k:=1) hT rfl (by decide) auq ?_,e1.trans (Ext.app _ [Ob.cells 0 ([az9,x.a].map Sb)])⟩
 rw [hl1] at hw;simp only [jg,jv,lh,fq,gy,az9] at hw hgg hl1 ht;simp only [jg,anj,a_f68,aa,simprocAttr,hav,hlv,di,hl1,hgg,hw,ht];rfl
end
end Go.Proofs.YtngfpadeebpoeaaGreatDoor
