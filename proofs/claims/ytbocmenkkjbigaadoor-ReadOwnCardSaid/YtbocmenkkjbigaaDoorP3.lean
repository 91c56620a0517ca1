/- Texts of the proof: RdS1, RdtF1, RdtF2, TokQ, RdtF3, TokG, RdtF4, RdtF5, RdtF6, RdtF7, RdS2, RdS3, RdS4, RdC1, AmPs, RdC2, RdC3. -/
import Derived.Test.YtbocmenkkjbigaaDoorP0
import Derived.Test.YtbocmenkkjbigaaDoorP1
import Derived.Test.YtbocmenkkjbigaaDoorP2
import Derived.KernelRfl
import Derived.Test.YtbocmenkkjbigaaDoorProg
import Derived.Lib.Atoi
import Derived.Lib.Bytealg
set_option linter.all false
set_option maxRecDepth 100000
namespace Go.Proofs.YtbocmenkkjbigaaDoor
open Go.AM
abbrev arl:Nat:=13
def K13_0:List Nat:=[1,2] ++ List.range' 4 102
def R13_0t2:LO:=[q 4 (.move (.c (.s (.int .i64 0))))]
def R13_0t1:LO:=⟨some 3,.alloc [.s (.int .i64 0),.s (.int .i64 0)],none⟩ :: R13_0t2
def R13_0p0:LO:=[q 2 (.move (.c (.s (.slice none 0 0))))]
def R13_0:LO:=R13_0p0 ++ R13_0t1
def K13_0p0:List Nat:=List.range' 1 105
theorem X13_0 (call:kz) (it:yn) (base:Nat) (f:List V) (H:Heap):evC call it base (.region R13_0 [] K13_0) f H=ba9 call it base R13_0t1 K13_0 H (ru (xy R13_0p0 K13_0p0 []) K13_0p0 f H) (aez call it base R13_0 K13_0 f H):=aws call it base R13_0p0 R13_0t1 (by kernel_rfl) f H
def R13_1:LO:=[oM 11 0,q 12 (.lenS .p (.t 11)),q 13 (.bin .gtr (.t 12) (.c (.s (.int .i64 1048576))))]
def R13_2t2:LO:=[q 4 (.move (.c (.s (.int .i64 2))))]
def R13_2t1:LO:=⟨none,.store 2 (.t 3) (.t 14),none⟩ :: R13_2t2
def R13_2p0:LO:=[q 14 (.build [.s (.int .i64 0),.s (.int .i64 0)] [(0,1),(1,1)] []),q 2 (.move (.c (.s (.slice none 0 0))))]
def R13_2:LO:=R13_2p0 ++ R13_2t1
def R13_3t3:LO:=[⟨none,.store 1 (.t 5) (.t 18),none⟩]
def R13_3t2:LO:=⟨some 5,.alloc [.s (.pointer none)],none⟩ :: R13_3t3
def R13_3t1:LO:=⟨some 18,.box (.t 17),none⟩ :: R13_3t2
def R13_3p0:LO:=[q 15 (.build [.s (.int .i64 0),.s (.int .i64 0)] [(0,1),(1,1)] [(0,.c (.s (.int .i64 1))),(1,.c (.s (.int .i64 1)))]),oM 16 0,q 17 (.build [.s (.int .i64 0),.s (.int .i64 0),.s (.string ⟨#[]⟩),.s (.int .i64 0)] [(0,2),(2,1),(3,1)] [(0,.t 15),(1,.t 16)])]
def R13_3:LO:=R13_3p0 ++ R13_3t1
def R13_4:LO:=[⟨some 6,.alloc [.s (.slice none 0 0)],none⟩]
def R13_5:LO:=[q 19 (.mkFn 25 [] [.t 6,.t 5]),oM 7 19]
def R13_6:LO:=[oL 20 5,q 21 (.nilCheck (.t 20)),oF 22 3 21,oL 23 22,oM 24 0,q 25 (.lenS .p (.t 24)),q 26 (.bin .lss (.t 23) (.t 25))]
def R13_7:LO:=[oM 27 0,oL 28 5,q 29 (.nilCheck (.t 28)),oF 30 3 29,oL 31 30,q 32 (.indexStr (.t 27) (.t 31)),oM 8 32]
def R13_8t2:LO:=[q 40 (.bin .geq (.t 39) (.c (.s (.int .i64 0)))),oM 37 40]
def R13_8t1:LO:=⟨some 39,.call (.c (.fn 27 [] [])) [.c (.s (.string ⟨#[32,9,13,10]⟩)),.t 38],none⟩ :: R13_8t2
def R13_8p0:LO:=[oM 38 8]
def R13_8:LO:=R13_8p0 ++ R13_8t1
def R13_9t1:LO:=[⟨some 42,.call (.c (.fn 26 [] [])) [.t 41,.c (.s (.int .i64 1))],none⟩]
def R13_9p0:LO:=[oL 41 5]
def R13_9:LO:=R13_9p0 ++ R13_9t1
def R13_10:LO:=[oM 44 8,q 45 (.bin .eql (.t 44) (.c (.s (.int .u8 59)))),oM 43 45]
def R13_11t2:LO:=[⟨some 49,.call (.c (.fn 26 [] [])) [.t 46,.t 48],none⟩]
def R13_11t1:LO:=⟨some 48,.callR (.c (.fn 28 [] [])) [.t 47,.c (.fn 29 [] [])],none⟩ :: R13_11t2
def R13_11p0:LO:=[oL 46 5,oL 47 5]
def R13_11:LO:=R13_11p0 ++ R13_11t1
def R13_12t2:LO:=[oM 50 52]
def R13_12t1:LO:=⟨some 52,.call (.c (.fn 30 [] [])) [.t 51],none⟩ :: R13_12t2
def R13_12p0:LO:=[oM 51 8]
def R13_12:LO:=R13_12p0 ++ R13_12t1
def R13_13t2:LO:=[⟨some 56,.call (.t 53) [.c (.s (.int .u8 1)),.t 55],none⟩]
def R13_13t1:LO:=⟨some 55,.call (.c (.fn 28 [] [])) [.t 54,.c (.fn 31 [] [])],none⟩ :: R13_13t2
def R13_13p0:LO:=[oM 53 7,oL 54 5]
def R13_13:LO:=R13_13p0 ++ R13_13t1
def R13_14t2:LO:=[oM 57 59]
def R13_14t1:LO:=⟨some 59,.call (.c (.fn 32 [] [])) [.t 58],none⟩ :: R13_14t2
def R13_14p0:LO:=[oM 58 8]
def R13_14:LO:=R13_14p0 ++ R13_14t1
def R13_15t2:LO:=[oM 9 61]
def R13_15t1:LO:=⟨some 61,.call (.c (.fn 28 [] [])) [.t 60,.c (.fn 32 [] [])],none⟩ :: R13_15t2
def R13_15p0:LO:=[oL 60 5]
def R13_15:LO:=R13_15p0 ++ R13_15t1
def R13_16t3:LO:=[gM 75 9 72 false,qg 76 (.bin .gtr (.t 74) (.t 75)) 72 false,q 77 (.pick (.t 72) (.c (.s (.bool true))) (.t 76))]
def R13_16t2:LO:=⟨some 74,.call (.c (.fn 28 [] [])) [.t 73,.c (.fn 31 [] [])],some (72,false)⟩ :: R13_16t3
def R13_16t1:LO:=⟨some 73,.load false 1 (.t 5),some (72,false)⟩ :: R13_16t2
def R13_16p0:LO:=[oM 62 9,q 63 (.bin .gtr (.t 62) (.c (.s (.int .i64 9)))),oM 64 63,gM 65 9 64 false,qg 66 (.bin .gtr (.t 65) (.c (.s (.int .i64 1)))) 64 false,gM 67 66 64 false,gM 68 8 67 true,qg 69 (.bin .eql (.t 68) (.c (.s (.int .u8 48)))) 67 true,qg 70 (.pick (.t 67) (.t 69) (.c (.s (.bool false)))) 64 false,q 71 (.pick (.t 64) (.c (.s (.bool true))) (.t 70)),oM 72 71]
def R13_16:LO:=R13_16p0 ++ R13_16t1
def R13_17t2:LO:=[q 4 (.move (.c (.s (.int .i64 31))))]
def R13_17t1:LO:=⟨none,.store 2 (.t 3) (.t 81),none⟩ :: R13_17t2
def R13_17p0:LO:=[oL 78 5,q 79 (.nilCheck (.t 78)),oF 80 0 79,q 81 (.load true 2 (.t 80)),q 2 (.move (.c (.s (.slice none 0 0))))]
def R13_17:LO:=R13_17p0 ++ R13_17t1
def R13_18t2:LO:=[oM 10 84]
def R13_18t1:LO:=⟨some 84,.call (.t 82) [.c (.s (.int .u8 2)),.t 83],none⟩ :: R13_18t2
def R13_18p0:LO:=[oM 82 7,oM 83 9]
def R13_18:LO:=R13_18p0 ++ R13_18t1
def R13_19t3:LO:=[⟨none,.store 1 (.t 95) (.t 92),none⟩]
def R13_19p2:LO:=[oM 85 91,q 92 (.extract (.t 85) 0),q 93 (.extract (.t 85) 1),q 94 (.nilCheck (.t 86)),oF 95 2 94]
def R13_19t2:LO:=R13_19p2 ++ R13_19t3
def R13_19t1:LO:=⟨some 91,.call (.c (.fn 33 [] [])) [.t 90],none⟩ :: R13_19t2
def R13_19p0:LO:=[oM 86 10,oM 87 10,q 88 (.nilCheck (.t 87)),oF 89 1 88,oL 90 89]
def R13_19:LO:=R13_19p0 ++ R13_19t1
def R13_20t2:LO:=[q 99 (.bin .geq (.t 98) (.c (.s (.int .i64 0)))),oM 96 99]
def R13_20t1:LO:=⟨some 98,.call (.c (.fn 27 [] [])) [.c (.s (.string ⟨#[61,44,58,40,41,123,125,91,93]⟩)),.t 97],none⟩ :: R13_20t2
def R13_20p0:LO:=[oM 97 8]
def R13_20:LO:=R13_20p0 ++ R13_20t1
def R13_21t1:LO:=[⟨some 101,.call (.t 100) [.c (.s (.int .u8 3)),.c (.s (.int .i64 1))],none⟩]
def R13_21p0:LO:=[oM 100 7]
def R13_21:LO:=R13_21p0 ++ R13_21t1
def R13_22t2:LO:=[q 4 (.move (.c (.s (.int .i64 30))))]
def R13_22t1:LO:=⟨none,.store 2 (.t 3) (.t 36),none⟩ :: R13_22t2
def R13_22p0:LO:=[oL 33 5,q 34 (.nilCheck (.t 33)),oF 35 0 34,q 36 (.load true 2 (.t 35)),q 2 (.move (.c (.s (.slice none 0 0))))]
def R13_22:LO:=R13_22p0 ++ R13_22t1
def agr:ACode:=
 (.seq (.seq (.regionE R13_6 [20,21,22,23,24,25] [26])
 (.cond (.t 26)
 .skip
 (.exit 0)))
 (.block 1
 (.seq (.regionE R13_7 [26,27,28,29,30,31,32] [8])
 (.block 2
 (.seq (.region R13_8 [] [38,39,40])
 (.cond (.t 37)
 (.region R13_9 [] [8,37,41,42])
 (.seq (.regionE R13_10 [37,44,45] [43])
 (.cond (.t 43)
 (.region R13_11 [] [8,43,46,47,48,49])
 (.seq (.region R13_12 [] [43,51,52])
 (.cond (.t 50)
 (.region R13_13 [] [8,50,53,54,55,56])
 (.seq (.region R13_14 [] [50,58,59])
 (.cond (.t 57)
 (.seq (.region R13_15 [] [57,60,61])
 (.seq (.seq (.region R13_16 [] [8,62,63,64,65,66,67,68,69,70,71,72,73,74,75,76])
 (.cond (.t 77)
 (.seq (.region R13_17 [] [0,5,6,7,9,77,78,79,80,81])
 .ret)
 .skip))
 (.seq (.region R13_18 [] [9,77,82,83,84])
 (.region R13_19 [] [10,85,86,87,88,89,90,91,92,93,94,95]))))
 (.seq (.region R13_20 [] [8,57,97,98,99])
 (.cond (.t 96)
 (.region R13_21 [] [96,100,101])
 (.seq (.region R13_22 [] [0,5,6,7,33,34,35,36,96])
 .ret)))))))))))))))
def sw:ACode:=agr
def R13_23t1:LO:=[⟨some 103,.call (.t 102) [.c (.s (.int .u8 4)),.c (.s (.int .i64 0))],none⟩]
def R13_23p0:LO:=[oM 102 7]
def R13_23:LO:=R13_23p0 ++ R13_23t1
def R13_24t2:LO:=[q 4 (.move (.c (.s (.int .i64 0))))]
def R13_24t1:LO:=⟨none,.store 2 (.t 3) (.t 105),none⟩ :: R13_24t2
def R13_24p0:LO:=[oL 104 6,q 105 (.build [.s (.int .i64 0),.s (.int .i64 0)] [(0,1),(1,1)] []),oM 2 104]
def R13_24:LO:=R13_24p0 ++ R13_24t1
def aeb:ACFun:={ ntmps:=106,results:=[.tmp 2,.cell 3 true 2,.tmp 4],body:=
 (.seq (.region R13_0 [] K13_0)
 (.seq (.seq (.regionE R13_1 [11,12] [13])
 (.cond (.t 13)
 (.seq (.region R13_2 [] [0,13,14])
 .ret)
 .skip))
 (.seq (.region R13_3 [] [13,15,16,17,18])
 (.seq (.region R13_4 [] [])
 (.seq (.regionE R13_5 [19] [7])
 (.seq (.block 0
 (.loop [] sw))
 (.seq (.region R13_23 [] [0,5,7,26,102,103])
 (.seq (.region R13_24 [] [6,104,105])
 .ret)))))))) }
theorem aew:ni (List.range' 1 (aeb.ntmps - 1)) aeb.body=true:=by kernel_rfl
abbrev a7x:Nat:=25
def K25_0:List Nat:=List.range' 4 35
theorem aqn:zi K25_0 (qb 39 [] 4)=[]:=by kernel_rfl
def R25_0:LO:=[q 6 (.move (.c (.s (.pointer none))))]
def R25_1t3:LO:=[⟨none,.store 1 (.t 2) (.t 30),none⟩]
def R25_1t2:LO:=⟨some 30,.append 5 48 (.t 7) (.t 29),none⟩ :: R25_1t3
def R25_1t1:LO:=⟨some 29,.buildSl 5 1 [.s (.int .u8 0),.s (.string ⟨#[]⟩),.s (.int .i64 0),.s (.int .i64 0),.s (.int .i64 0)] [(0,.t 28)],none⟩ :: R25_1t2
def R25_1p0:LO:=[oL 7 2,oM 8 0,oL 9 3,q 10 (.nilCheck (.t 9)),oF 11 2 10,oL 12 11,oL 13 3,q 14 (.nilCheck (.t 13)),oF 15 3 14,oL 16 15,oL 17 3,q 18 (.nilCheck (.t 17)),oF 19 3 18,oL 20 19,oM 21 1,q 22 (.bin .add (.t 20) (.t 21)),q 23 (.subStr (.t 12) (some (.t 16)) (some (.t 22))),oL 24 3,q 25 (.nilCheck (.t 24)),oF 26 0 25,q 27 (.load true 2 (.t 26)),q 28 (.build [.s (.int .u8 0),.s (.string ⟨#[]⟩),.s (.int .i64 0),.s (.int .i64 0),.s (.int .i64 0)] [(0,1),(1,1),(2,1),(3,2)] [(0,.t 8),(1,.t 23),(3,.t 27)])]
def R25_1:LO:=R25_1p0 ++ R25_1t1
def R25_2t1:LO:=[⟨some 33,.call (.c (.fn 26 [] [])) [.t 31,.t 32],none⟩]
def R25_2p0:LO:=[oL 31 3,oM 32 1]
def R25_2:LO:=R25_2p0 ++ R25_2t1
def R25_3:LO:=[oL 34 2,oL 35 2,q 36 (.lenS .s (.t 35)),q 37 (.bin .sub (.t 36) (.c (.s (.int .i64 1)))),q 38 (.indexAddr 5 (.t 34) (.t 37)),oM 6 38]
def aj4:ACFun:={ ntmps:=39,results:=[.tmp 6],body:=
 (.seq (.regionE R25_0 K25_0 [])
 (.seq (.region R25_1 [] [0,7,8,9,10,11,12,13,14,15,16,17,18,19,20,21,22,23,24,25,26,27,28,29,30])
 (.seq (.region R25_2 [] [1,3,31,32,33])
 (.seq (.regionE R25_3 [2,34,35,36,37,38] [6])
 .ret)))) }
abbrev a2n:Nat:=26
def K26_0:List Nat:=[1,2,3] ++ List.range' 6 42
theorem aqm:zi K26_0 (qb 48 [] 2)=[(4,und),(5,und)]:=by kernel_rfl
def R26_0:LO:=[oM 4 1,q 5 (.move (.c (.s (.int .i64 0))))]
def R26_1:LO:=[q 6 (.bin .lss (.t 5) (.t 4))]
def R26_2t1:LO:=[⟨none,.store 1 (.t 15) (.t 12),none⟩]
def R26_2p0:LO:=[oM 7 0,q 8 (.nilCheck (.t 7)),oF 9 0 8,oF 10 1 9,oL 11 10,q 12 (.bin .add (.t 11) (.c (.s (.int .i64 1)))),q 13 (.nilCheck (.t 7)),oF 14 0 13,oF 15 1 14]
def R26_2:LO:=R26_2p0 ++ R26_2t1
def R26_3:LO:=[oM 16 0,q 17 (.nilCheck (.t 16)),oF 18 2 17,oL 19 18,oM 20 0,q 21 (.nilCheck (.t 20)),oF 22 3 21,oL 23 22,q 24 (.indexStr (.t 19) (.t 23)),q 25 (.bin .eql (.t 24) (.c (.s (.int .u8 10))))]
def R26_4t3:LO:=[⟨none,.store 1 (.t 39) (.c (.s (.int .i64 1))),none⟩]
def R26_4p2:LO:=[q 37 (.nilCheck (.t 27)),oF 38 0 37,oF 39 1 38]
def R26_4t2:LO:=R26_4p2 ++ R26_4t3
def R26_4t1:LO:=⟨none,.store 1 (.t 36) (.t 33),none⟩ :: R26_4t2
def R26_4p0:LO:=[oM 26 0,oM 27 0,oM 28 0,q 29 (.nilCheck (.t 28)),oF 30 0 29,oF 31 0 30,oL 32 31,q 33 (.bin .add (.t 32) (.c (.s (.int .i64 1)))),q 34 (.nilCheck (.t 26)),oF 35 0 34,oF 36 0 35]
def R26_4:LO:=R26_4p0 ++ R26_4t1
def R26_5t1:LO:=[⟨none,.store 1 (.t 46) (.t 44),none⟩]
def R26_5p0:LO:=[oM 40 0,q 41 (.nilCheck (.t 40)),oF 42 3 41,oL 43 42,q 44 (.bin .add (.t 43) (.c (.s (.int .i64 1)))),q 45 (.nilCheck (.t 40)),oF 46 3 45]
def R26_5:LO:=R26_5p0 ++ R26_5t1
def R26_6:LO:=[q 47 (.bin .add (.t 5) (.c (.s (.int .i64 1)))),oM 5 47]
def agn:ACode:=
 (.seq (.regionE R26_1 [] [6])
 (.seq (.cond (.t 6)
 .skip
 (.exit 0))
 (.seq (.block 1
 (.seq (.region R26_2 [] [6,7,8,9,10,11,12,13,14,15])
 (.seq (.seq (.regionE R26_3 [16,17,18,19,20,21,22,23,24] [25])
 (.cond (.t 25)
 (.region R26_4 [] [25,26,27,28,29,30,31,32,33,34,35,36,37,38,39])
 .skip))
 (.region R26_5 [] [25,40,41,42,43,44,45,46]))))
 (.regionE R26_6 [47] [5]))))
def alr:ACode:=agn
def ai1:ACFun:={ ntmps:=48,results:=[],body:=
 (.seq (.regionE R26_0 K26_0 [4,5])
 (.block 0
 (.loop [] alr))) }
abbrev a7w:Nat:=28
def K28_0:List Nat:=List.range' 2 34
theorem aql:zi K28_0 (qb 36 [] 2)=[]:=by kernel_rfl
def R28_0:LO:=[q 4 (.move (.c (.s (.int .i64 0))))]
def R28_1:LO:=[q 5 (.move (.c (.s (.int .i64 0))))]
def R28_2t14:LO:=[q 32 (.pick (.t 18) (.t 31) (.c (.s (.bool false))))]
def R28_2t13:LO:=⟨some 31,.call (.t 19) [.t 30],some (18,true)⟩ :: R28_2t14
def R28_2t12:LO:=⟨some 30,.indexStr (.t 23) (.t 29),some (18,true)⟩ :: R28_2t13
def R28_2t11:LO:=⟨some 29,.bin .add (.t 27) (.t 28),some (18,true)⟩ :: R28_2t12
def R28_2t10:LO:=⟨some 28,.move (.t 5),some (18,true)⟩ :: R28_2t11
def R28_2t9:LO:=⟨some 27,.load false 1 (.t 26),some (18,true)⟩ :: R28_2t10
def R28_2t8:LO:=⟨some 26,.fieldAddr 3 (.t 25),some (18,true)⟩ :: R28_2t9
def R28_2t7:LO:=⟨some 25,.nilCheck (.t 24),some (18,true)⟩ :: R28_2t8
def R28_2t6:LO:=⟨some 24,.move (.t 0),some (18,true)⟩ :: R28_2t7
def R28_2t5:LO:=⟨some 23,.load false 1 (.t 22),some (18,true)⟩ :: R28_2t6
def R28_2t4:LO:=⟨some 22,.fieldAddr 2 (.t 21),some (18,true)⟩ :: R28_2t5
def R28_2t3:LO:=⟨some 21,.nilCheck (.t 20),some (18,true)⟩ :: R28_2t4
def R28_2t2:LO:=⟨some 20,.move (.t 0),some (18,true)⟩ :: R28_2t3
def R28_2t1:LO:=⟨some 19,.move (.t 1),some (18,true)⟩ :: R28_2t2
def R28_2p0:LO:=[oM 6 0,q 7 (.nilCheck (.t 6)),oF 8 3 7,oL 9 8,oM 10 5,q 11 (.bin .add (.t 9) (.t 10)),oM 12 0,q 13 (.nilCheck (.t 12)),oF 14 2 13,oL 15 14,q 16 (.lenS .p (.t 15)),q 17 (.bin .lss (.t 11) (.t 16)),oM 18 17]
def R28_2:LO:=R28_2p0 ++ R28_2t1
def R28_3:LO:=[oM 33 5,q 34 (.bin .add (.t 33) (.c (.s (.int .i64 1)))),oM 5 34]
def agm:ACode:=
 (.seq (.seq (.region R28_2 [] [6,7,8,9,10,11,12,13,14,15,16,17,18,19,20,21,22,23,24,25,26,27,28,29,30,31])
 (.cond (.t 32)
 .skip
 (.exit 0)))
 (.block 1
 (.regionE R28_3 [32,33,34] [5])))
def alq:ACode:=agm
def R28_4:LO:=[oM 35 5,oM 4 35]
def aj3:ACFun:={ ntmps:=36,results:=[.tmp 4],body:=
 (.seq (.regionE R28_0 K28_0 [])
 (.seq (.regionE R28_1 [] [5])
 (.seq (.block 0
 (.loop [] alq))
 (.seq (.regionE R28_4 [0,1,5,32,35] [4])
 .ret)))) }
abbrev a7v:Nat:=29
def K29_0:List Nat:=[1,2,3,4]
theorem aqk:zi K29_0 (qb 5 [] 1)=[]:=by kernel_rfl
def R29_0:LO:=[q 2 (.move (.c (.s (.bool false))))]
def R29_1:LO:=[oM 3 0,q 4 (.bin .neq (.t 3) (.c (.s (.int .u8 10)))),oM 2 4]
def aj2:ACFun:={ ntmps:=5,results:=[.tmp 2],body:=
 (.seq (.regionE R29_0 K29_0 [])
 (.seq (.regionE R29_1 [0,3,4] [2])
 .ret)) }
abbrev a2m:Nat:=30
def K30_0:List Nat:=List.range' 1 20
theorem aqj:zi K30_0 (qb 21 [] 1)=[]:=by kernel_rfl
def R30_0:LO:=[q 2 (.move (.c (.s (.bool false))))]
def R30_1:LO:=[oM 3 0,q 4 (.bin .geq (.t 3) (.c (.s (.int .u8 97)))),oM 5 4,gM 6 0 5 true,qg 7 (.bin .leq (.t 6) (.c (.s (.int .u8 122)))) 5 true,q 8 (.pick (.t 5) (.t 7) (.c (.s (.bool false)))),oM 9 8,gM 10 0 9 false,qg 11 (.bin .geq (.t 10) (.c (.s (.int .u8 65)))) 9 false,gM 12 11 9 false,gM 13 0 12 true,qg 14 (.bin .leq (.t 13) (.c (.s (.int .u8 90)))) 12 true,qg 15 (.pick (.t 12) (.t 14) (.c (.s (.bool false)))) 9 false,q 16 (.pick (.t 9) (.c (.s (.bool true))) (.t 15)),oM 17 16,gM 18 0 17 false,qg 19 (.bin .eql (.t 18) (.c (.s (.int .u8 95)))) 17 false,q 20 (.pick (.t 17) (.c (.s (.bool true))) (.t 19)),oM 2 20]
def aj1:ACFun:={ ntmps:=21,results:=[.tmp 2],body:=
 (.seq (.regionE R30_0 K30_0 [])
 (.seq (.regionE R30_1 [0,3,4,5,6,7,8,9,10,11,12,13,14,15,16,17,18,19,20] [2])
 .ret)) }
abbrev a7u:Nat:=31
def K31_0:List Nat:=List.range' 1 12
theorem aqi:zi K31_0 (qb 13 [] 1)=[]:=by kernel_rfl
def R31_0:LO:=[q 2 (.move (.c (.s (.bool false))))]
def R31_1t5:LO:=[q 8 (.pick (.t 5) (.c (.s (.bool true))) (.t 7)),oM 9 8,gM 10 0 9 false,qg 11 (.bin .eql (.t 10) (.c (.s (.int .u8 46)))) 9 false,q 12 (.pick (.t 9) (.c (.s (.bool true))) (.t 11)),oM 2 12]
def R31_1t4:LO:=⟨some 7,.call (.c (.fn 32 [] [])) [.t 6],some (5,false)⟩ :: R31_1t5
def R31_1t3:LO:=⟨some 6,.move (.t 0),some (5,false)⟩ :: R31_1t4
def R31_1p2:LO:=[oM 5 4]
def R31_1t2:LO:=R31_1p2 ++ R31_1t3
def R31_1t1:LO:=⟨some 4,.call (.c (.fn 30 [] [])) [.t 3],none⟩ :: R31_1t2
def R31_1p0:LO:=[oM 3 0]
def R31_1:LO:=R31_1p0 ++ R31_1t1
def aj0:ACFun:={ ntmps:=13,results:=[.tmp 2],body:=
 (.seq (.regionE R31_0 K31_0 [])
 (.seq (.region R31_1 [] [0,3,4,5,6,7,8,9,10,11,12])
 .ret)) }
abbrev a2l:Nat:=32
def K32_0:List Nat:=List.range' 1 8
theorem aqh:zi K32_0 (qb 9 [] 1)=[]:=by kernel_rfl
def R32_0:LO:=[q 2 (.move (.c (.s (.bool false))))]
def R32_1:LO:=[oM 3 0,q 4 (.bin .geq (.t 3) (.c (.s (.int .u8 48)))),oM 5 4,gM 6 0 5 true,qg 7 (.bin .leq (.t 6) (.c (.s (.int .u8 57)))) 5 true,q 8 (.pick (.t 5) (.t 7) (.c (.s (.bool false)))),oM 2 8]
def ajz:ACFun:={ ntmps:=9,results:=[.tmp 2],body:=
 (.seq (.regionE R32_0 K32_0 [])
 (.seq (.regionE R32_1 [0,3,4,5,6,7,8] [2])
 .ret)) }
abbrev ao4:Nat:=27
abbrev bbx:Nat:=33
def ae8:=ai (hK K13_0p0 0) (ai (hQ K13_0p0 2) (ai (hQ K13_0p0 3) (ai (hQ K13_0p0 4) (ai (hT R13_0p0 K13_0p0 [] 3 [] [] [.cc (.s (.slice none 0 0))]) (ai X13_0 (ai (hP R13_0t1 [] K13_0) (ai (hV R13_0t2 K13_0 [] 5 [] [] [.cc (.s (.int .i64 0))]) (ai (hK K13_0 0) (ai (hQ K13_0 2) (ai (hK K13_0 3) (ai (hQ K13_0 4) (ai (hT R13_1 [11,12] [13] 14 [] [(13,.op (.bin .gtr (.t 0) (.c (.s (.int .i64 1048576)))) [.op (.lenS .p (.t 0)) [.t 0],.c (.s (.int .i64 1048576))])] [.tt 0,sb [0],sb []]) (ai (hU R13_2 [0,13] [14,2] [0,13,14] 15 [] [(14,.op (.build [.s (.int .i64 0),.s (.int .i64 0)] [(0,1),(1,1)] []) []),(2,.c (.s (.slice none 0 0)))] [sb [],.cc (.s (.slice none 0 0))]) (ai (hP R13_2t1 [14] [0,13,14]) (ai (hV R13_2t2 [0,13,14] [4] 5 [] [(4,.c (.s (.int .i64 2)))] [.cc (.s (.int .i64 2))]) (ai (hU R13_3 [13,15,16] [17] [13,15,16,17,18] 18 [] [(17,.op (.build [.s (.int .i64 0),.s (.int .i64 0),.s (.string ⟨#[]⟩),.s (.int .i64 0)] [(0,2),(2,1),(3,1)] [(0,.t 0),(1,.t 1)]) [.op (.build [.s (.int .i64 0),.s (.int .i64 0)] [(0,1),(1,1)] [(0,.c (.s (.int .i64 1))),(1,.c (.s (.int .i64 1)))]) [.c (.s (.int .i64 1)),.c (.s (.int .i64 1))],.t 0])] [sb [0],.tt 0,sb []]) (ai (hP R13_3t1 [17] [13,15,16,17,18]) (ai (hP R13_3t2 [] [13,15,16,17,18]) (ai (hX R13_3t3 [13,15,16,17,18]) (ai (hX R13_4 []) (ai (hT R13_5 [19] [7] 20 [] [(7,.op (.mkFn 25 [] [.t 0,.t 1]) [.t 6,.t 5])] [sb [],sb []]) (ai (hT R13_6 [20,21,22,23,24,25] [26] 27 [] [(26,.op (.bin .lss (.t 0) (.t 1)) [eL (eF 3 (.op (.nilCheck (.t 0)) [eL (.t 5)])),.op (.lenS .p (.t 0)) [.t 0]])] [sb [0,0,0,0],sb [0,0,0],sb [0,0],sb [0],.tt 0,sb [1],sb []]) (ai (hT R13_7 [26,27,28,29,30,31,32] [8] 33 [] [(8,.op (.indexStr (.t 0) (.t 1)) [.t 0,eL (eF 3 (.op (.nilCheck (.t 0)) [eL (.t 5)]))])] [.tt 0,sb [1,0,0,0],sb [1,0,0],sb [1,0],sb [1],sb [],sb []]) (ai (hU R13_8 [] [38] [38,39,40] 39 [] [(38,.t 8)] [.tt 8]) (ai (hP R13_8t1 [38] [38,39,40]) (ai (hV R13_8t2 [38,39,40] [37] 41 [] [(37,.op (.bin .geq (.t 0) (.c (.s (.int .i64 0)))) [.t 39,.c (.s (.int .i64 0))])] [sb [],sb []]) (ai (hU R13_9 [8,37] [41] [8,37,41,42] 42 [] [(41,eL (.t 5))] [sb []]) (ai (hX R13_9t1 [8,37,41,42]) (ai (hT R13_10 [37,44,45] [43] 46 [] [(43,.op (.bin .eql (.t 0) (.c (.s (.int .u8 59)))) [.t 8,.c (.s (.int .u8 59))])] [.tt 8,sb [],sb []]) (ai (hU R13_11 [8,43] [46,47] [8,43,46,47,48,49] 48 [] [(46,eL (.t 5)),(47,eL (.t 5))] [sb [],sb []]) (ai (hP R13_11t1 [47] [8,43,46,47,48,49]) (ai (hX R13_11t2 [8,43,46,47,48,49]) (ai (hU R13_12 [43] [51] [43,51,52] 52 [] [(51,.t 8)] [.tt 8]) (ai (hP R13_12t1 [51] [43,51,52]) (ai (hV R13_12t2 [43,51,52] [50] 51 [] [(50,.t 52)] [.tt 52]) (ai (hU R13_13 [8,50] [53,54] [8,50,53,54,55,56] 55 [] [(53,.t 7),(54,eL (.t 5))] [.tt 7,.sub 1 [] []]) (ai (hP R13_13t1 [54] [8,50,53,54,55,56]) (ai (hX R13_13t2 [8,50,53,54,55,56]) (ai (hU R13_14 [50] [58] [50,58,59] 59 [] [(58,.t 8)] [.tt 8]) (ai (hP R13_14t1 [58] [50,58,59]) (ai (hV R13_14t2 [50,58,59] [57] 58 [] [(57,.t 59)] [.tt 59]) (ai (hU R13_15 [57] [60] [57,60,61] 61 [] [(60,eL (.t 5))] [sb []]) (ai (hP R13_15t1 [60] [57,60,61]) (ai (hV R13_15t2 [57,60,61] [9] 10 [] [(9,.t 61)] [.tt 61]) (ai (hU R13_16 [8,62,63,64,65,66,67,68,69,70,71] [72] [8,62,63,64,65,66,67,68,69,70,71,72,73,74,75,76] 73 [] [(72,.pick (.op (.bin .gtr (.t 0) (.c (.s (.int .i64 9)))) [.t 9,.c (.s (.int .i64 9))]) (.c (.s (.bool true))) (.pick (.op (.bin .gtr (.t 0) (.c (.s (.int .i64 1)))) [.t 9,.c (.s (.int .i64 1))]) (.op (.bin .eql (.t 0) (.c (.s (.int .u8 48)))) [.t 8,.c (.s (.int .u8 48))]) (.c (.s (.bool false)))))] [.tt 9,sb [0],sb [0],.sub 0 [2,0,0] [64],.sub 0 [2,0] [64],.sub 0 [2,0] [64],.sub 0 [2,1,0] [64,67],.sub 0 [2,1] [64,67],.sub 0 [2] [64],sb [],sb []]) (ai (hP R13_16t1 [] [8,62,63,64,65,66,67,68,69,70,71,72,73,74,75,76]) (ai (hP R13_16t2 [73] [8,62,63,64,65,66,67,68,69,70,71,72,73,74,75,76]) (ai (hV R13_16t3 [8,62,63,64,65,66,67,68,69,70,71,72,73,74,75,76] [77] 78 [] [(77,.pick (.t 72) (.c (.s (.bool true))) (.op (.bin .gtr (.t 0) (.t 1)) [.t 74,.t 9]))] [.sub 0 [2,1] [72],.sub 0 [2] [72],sb []]) (ai (hU R13_17 [0,5,6,7,9,77,78,79,80] [81,2] [0,5,6,7,9,77,78,79,80,81] 82 [] [(81,.op (.load true 2 (.t 0)) [eF 0 (.op (.nilCheck (.t 0)) [eL (.t 5)])]),(2,.c (.s (.slice none 0 0)))] [sb [0,0,0],sb [0,0],sb [0],sb [],.cc (.s (.slice none 0 0))]) (ai (hP R13_17t1 [81] [0,5,6,7,9,77,78,79,80,81]) (ai (hV R13_17t2 [0,5,6,7,9,77,78,79,80,81] [4] 5 [] [(4,.c (.s (.int .i64 31)))] [.cc (.s (.int .i64 31))]) (ai (hU R13_18 [9,77] [82,83] [9,77,82,83,84] 84 [] [(82,.t 7),(83,.t 9)] [.tt 7,.tt 9]) (ai (hP R13_18t1 [82,83] [9,77,82,83,84]) (ai (hV R13_18t2 [9,77,82,83,84] [10] 11 [] [(10,.t 84)] [.tt 84]) (ai (hU R13_19 [10,87,88,89] [86,90] [10,85,86,87,88,89,90,91,92,93,94,95] 91 [] [(86,.t 10),(90,eL (eF 1 (.op (.nilCheck (.t 0)) [.t 10])))] [.tt 10,.tt 10,.sub 1 [0,0] [],.sub 1 [0] [],.sub 1 [] []]) (ai (hP R13_19t1 [90] [10,85,86,87,88,89,90,91,92,93,94,95]) (ai (hU R13_19t2 [85,86,91,93,94] [92,95] [10,85,86,87,88,89,90,91,92,93,94,95] 96 [([],.op (.extract (.t 0) 1) [.t 91])] [(92,.op (.extract (.t 0) 0) [.t 91]),(95,eF 2 (.op (.nilCheck (.t 0)) [.t 86]))] [.tt 91,sb [],.keep [] (.op (.extract (.t 0) 1) [.t 91]),.sub 1 [0] [],.sub 1 [] []]) (ai (hX R13_19t3 [10,85,86,87,88,89,90,91,92,93,94,95]) (ai (hU R13_20 [8,57] [97] [8,57,97,98,99] 98 [] [(97,.t 8)] [.tt 8]) (ai (hP R13_20t1 [97] [8,57,97,98,99]) (ai (hV R13_20t2 [8,57,97,98,99] [96] 100 [] [(96,.op (.bin .geq (.t 0) (.c (.s (.int .i64 0)))) [.t 98,.c (.s (.int .i64 0))])] [sb [],sb []]) (ai (hU R13_21 [96] [100] [96,100,101] 101 [] [(100,.t 7)] [.tt 7]) (ai (hX R13_21t1 [96,100,101]) (ai (hU R13_22 [0,5,6,7,33,34,35,96] [36,2] [0,5,6,7,33,34,35,36,96] 37 [] [(36,.op (.load true 2 (.t 0)) [eF 0 (.op (.nilCheck (.t 0)) [eL (.t 5)])]),(2,.c (.s (.slice none 0 0)))] [sb [0,0,0],sb [0,0],sb [0],sb [],.cc (.s (.slice none 0 0))]) (ai (hP R13_22t1 [36] [0,5,6,7,33,34,35,36,96]) (ai (hV R13_22t2 [0,5,6,7,33,34,35,36,96] [4] 5 [] [(4,.c (.s (.int .i64 30)))] [.cc (.s (.int .i64 30))]) (ai (hE sw agr) (ai (hU R13_23 [0,5,7,26] [102] [0,5,7,26,102,103] 103 [] [(102,.t 7)] [.tt 7]) (ai (hX R13_23t1 [0,5,7,26,102,103]) (ai (hU R13_24 [6,104] [105,2] [6,104,105] 106 [] [(105,.op (.build [.s (.int .i64 0),.s (.int .i64 0)] [(0,1),(1,1)] []) []),(2,eL (.t 6))] [.sub 1 [] [],sb [],.sub 1 [] []]) (ai (hP R13_24t1 [105] [6,104,105]) (ai (hV R13_24t2 [6,104,105] [4] 5 [] [(4,.c (.s (.int .i64 0)))] [.cc (.s (.int .i64 0))]) (agr.eq_1)))))))))))))))))))))))))))))))))))))))))))))))))))))))))))))))))))))))))
def a_f25:=ai (hT R25_0 K25_0 [] 7 [] [] [.cc (.s (.pointer none))]) (ai aqn (ai (hK K25_0 0) (ai (hK K25_0 1) (ai (hK K25_0 2) (ai (hK K25_0 3) (ai (hU R25_1 [0,8,9,10,11,12,13,14,15,16,17,18,19,20,21,22,23,24,25,26,27] [7,28] [0,7,8,9,10,11,12,13,14,15,16,17,18,19,20,21,22,23,24,25,26,27,28,29,30] 29 [] [(7,eL (.t 2)),(28,.op (.build [.s (.int .u8 0),.s (.string ⟨#[]⟩),.s (.int .i64 0),.s (.int .i64 0),.s (.int .i64 0)] [(0,1),(1,1),(2,1),(3,2)] [(0,.t 0),(1,.t 1),(3,.t 2)]) [.t 0,.op (.subStr (.t 0) (some (.t 1)) (some (.t 2))) [eL (eF 2 (.op (.nilCheck (.t 0)) [eL (.t 3)])),eL (eF 3 (.op (.nilCheck (.t 0)) [eL (.t 3)])),.op (.bin .add (.t 0) (.t 1)) [eL (eF 3 (.op (.nilCheck (.t 0)) [eL (.t 3)])),.t 1]],.op (.load true 2 (.t 0)) [eF 0 (.op (.nilCheck (.t 0)) [eL (.t 3)])]])] [sb [],.tt 0,.sub 1 [1,0,0,0,0] [],.sub 1 [1,0,0,0] [],.sub 1 [1,0,0] [],.sub 1 [1,0] [],.sub 1 [1,0,0,0,0] [],.sub 1 [1,0,0,0] [],.sub 1 [1,1,0] [],.sub 1 [1,1] [],.sub 1 [1,0,0,0,0] [],.sub 1 [1,0,0,0] [],.sub 1 [1,1,0] [],.sub 1 [1,1] [],.tt 1,.sub 1 [1,2] [],.sub 1 [1] [],.sub 1 [1,0,0,0,0] [],.sub 1 [1,0,0,0] [],.sub 1 [2,0] [],.sub 1 [2] [],.sub 1 [] []]) (ai (hP R25_1t1 [28] [0,7,8,9,10,11,12,13,14,15,16,17,18,19,20,21,22,23,24,25,26,27,28,29,30]) (ai (hP R25_1t2 [7,29] [0,7,8,9,10,11,12,13,14,15,16,17,18,19,20,21,22,23,24,25,26,27,28,29,30]) (ai (hX R25_1t3 [0,7,8,9,10,11,12,13,14,15,16,17,18,19,20,21,22,23,24,25,26,27,28,29,30]) (ai (hU R25_2 [1,3] [31,32] [1,3,31,32,33] 33 [] [(31,eL (.t 3)),(32,.t 1)] [sb [],.tt 1]) (ai (hX R25_2t1 [1,3,31,32,33]) ((hT R25_3 [2,34,35,36,37,38] [6] 39 [] [(6,.op (.indexAddr 5 (.t 0) (.t 1)) [eL (.t 2),.op (.bin .sub (.t 0) (.c (.s (.int .i64 1)))) [.op (.lenS .s (.t 0)) [eL (.t 2)],.c (.s (.int .i64 1))]])] [sb [0],sb [0],sb [1,0],sb [1],sb [],sb []])))))))))))))
def a4o:=ai (hT R26_0 K26_0 [4,5] 6 [] [(4,.t 1),(5,.c (.s (.int .i64 0)))] [.tt 1,.cc (.s (.int .i64 0))]) (ai aqm (ai (hK K26_0 0) (ai (hQ K26_0 1) (ai (hT R26_1 [] [6] 7 [] [(6,.op (.bin .lss (.t 0) (.t 1)) [.t 5,.t 4])] [sb []]) (ai (hU R26_2 [6,7,8,9,10,11,13,14] [12,15] [6,7,8,9,10,11,12,13,14,15] 16 [] [(12,.op (.bin .add (.t 0) (.c (.s (.int .i64 1)))) [eL (eF 1 (eF 0 (.op (.nilCheck (.t 0)) [.t 0]))),.c (.s (.int .i64 1))]),(15,eF 1 (eF 0 (.op (.nilCheck (.t 0)) [.t 0])))] [.tt 0,sb [0,0,0,0],sb [0,0,0],sb [0,0],sb [0],sb [],sb [0,0,0,0],sb [0,0,0],sb [0,0]]) (ai (hX R26_2t1 [6,7,8,9,10,11,12,13,14,15]) (ai (hT R26_3 [16,17,18,19,20,21,22,23,24] [25] 26 [] [(25,.op (.bin .eql (.t 0) (.c (.s (.int .u8 10)))) [.op (.indexStr (.t 0) (.t 1)) [eL (eF 2 (.op (.nilCheck (.t 0)) [.t 0])),eL (eF 3 (.op (.nilCheck (.t 0)) [.t 0]))],.c (.s (.int .u8 10))])] [.tt 0,sb [0,0,0,0],sb [0,0,0],sb [0,0],.tt 0,sb [0,0,0,0],sb [0,1,0],sb [0,1],sb [0],sb []]) (ai (hU R26_4 [25,26,28,29,30,31,32,34,35] [27,33,36] [25,26,27,28,29,30,31,32,33,34,35,36,37,38,39] 37 [] [(27,.t 0),(33,.op (.bin .add (.t 0) (.c (.s (.int .i64 1)))) [eL (eF 0 (eF 0 (.op (.nilCheck (.t 0)) [.t 0]))),.c (.s (.int .i64 1))]),(36,eF 0 (eF 0 (.op (.nilCheck (.t 0)) [.t 0])))] [.tt 0,.tt 0,.tt 0,.sub 1 [0,0,0,0] [],.sub 1 [0,0,0] [],.sub 1 [0,0] [],.sub 1 [0] [],.sub 1 [] [],.sub 1 [0,0,0,0] [],.sub 1 [0,0,0] [],.sub 1 [0,0] []]) (ai (hP R26_4t1 [33,36] [25,26,27,28,29,30,31,32,33,34,35,36,37,38,39]) (ai (hU R26_4t2 [27,37,38] [39] [25,26,27,28,29,30,31,32,33,34,35,36,37,38,39] 40 [] [(39,eF 1 (eF 0 (.op (.nilCheck (.t 0)) [.t 27])))] [sb [0,0],sb [0],sb []]) (ai (hX R26_4t3 [25,26,27,28,29,30,31,32,33,34,35,36,37,38,39]) (ai (hU R26_5 [25,40,41,42,43,45] [44,46] [25,40,41,42,43,44,45,46] 47 [] [(44,.op (.bin .add (.t 0) (.c (.s (.int .i64 1)))) [eL (eF 3 (.op (.nilCheck (.t 0)) [.t 0])),.c (.s (.int .i64 1))]),(46,eF 3 (.op (.nilCheck (.t 0)) [.t 0]))] [.tt 0,sb [0,0,0],sb [0,0],sb [0],sb [],sb [0,0,0],sb [0,0]]) (ai (hX R26_5t1 [25,40,41,42,43,44,45,46]) (ai (hT R26_6 [47] [5] 48 [] [(5,.op (.bin .add (.t 0) (.c (.s (.int .i64 1)))) [.t 5,.c (.s (.int .i64 1))])] [sb [],sb []]) (ai (hE alr agn) (agn.eq_1))))))))))))))))
def a4n:=ai (hT R28_0 K28_0 [] 5 [] [] [.cc (.s (.int .i64 0))]) (ai aql (ai (hK K28_0 0) (ai (hK K28_0 1) (ai (hT R28_1 [] [5] 6 [] [(5,.c (.s (.int .i64 0)))] [.cc (.s (.int .i64 0))]) (ai (hU R28_2 [6,7,8,9,10,11,12,13,14,15,16,17] [18] [6,7,8,9,10,11,12,13,14,15,16,17,18,19,20,21,22,23,24,25,26,27,28,29,30,31] 19 [] [(18,.op (.bin .lss (.t 0) (.t 1)) [.op (.bin .add (.t 0) (.t 1)) [eL (eF 3 (.op (.nilCheck (.t 0)) [.t 0])),.t 5],.op (.lenS .p (.t 0)) [eL (eF 2 (.op (.nilCheck (.t 0)) [.t 0]))]])] [.tt 0,sb [0,0,0,0],sb [0,0,0],sb [0,0],.tt 5,sb [0],.tt 0,sb [0,0,0,0],sb [1,0,0],sb [1,0],sb [1],sb [],sb []]) (ai (hP R28_2t1 [] [6,7,8,9,10,11,12,13,14,15,16,17,18,19,20,21,22,23,24,25,26,27,28,29,30,31]) (ai (hP R28_2t2 [] [6,7,8,9,10,11,12,13,14,15,16,17,18,19,20,21,22,23,24,25,26,27,28,29,30,31]) (ai (hP R28_2t3 [20] [6,7,8,9,10,11,12,13,14,15,16,17,18,19,20,21,22,23,24,25,26,27,28,29,30,31]) (ai (hP R28_2t4 [21] [6,7,8,9,10,11,12,13,14,15,16,17,18,19,20,21,22,23,24,25,26,27,28,29,30,31]) (ai (hP R28_2t5 [22] [6,7,8,9,10,11,12,13,14,15,16,17,18,19,20,21,22,23,24,25,26,27,28,29,30,31]) (ai (hP R28_2t6 [] [6,7,8,9,10,11,12,13,14,15,16,17,18,19,20,21,22,23,24,25,26,27,28,29,30,31]) (ai (hP R28_2t7 [24] [6,7,8,9,10,11,12,13,14,15,16,17,18,19,20,21,22,23,24,25,26,27,28,29,30,31]) (ai (hP R28_2t8 [25] [6,7,8,9,10,11,12,13,14,15,16,17,18,19,20,21,22,23,24,25,26,27,28,29,30,31]) (ai (hP R28_2t9 [26] [6,7,8,9,10,11,12,13,14,15,16,17,18,19,20,21,22,23,24,25,26,27,28,29,30,31]) (ai (hP R28_2t10 [] [6,7,8,9,10,11,12,13,14,15,16,17,18,19,20,21,22,23,24,25,26,27,28,29,30,31]) (ai (hP R28_2t11 [27,28] [6,7,8,9,10,11,12,13,14,15,16,17,18,19,20,21,22,23,24,25,26,27,28,29,30,31]) (ai (hP R28_2t12 [23,29] [6,7,8,9,10,11,12,13,14,15,16,17,18,19,20,21,22,23,24,25,26,27,28,29,30,31]) (ai (hP R28_2t13 [19,30] [6,7,8,9,10,11,12,13,14,15,16,17,18,19,20,21,22,23,24,25,26,27,28,29,30,31]) (ai (hV R28_2t14 [6,7,8,9,10,11,12,13,14,15,16,17,18,19,20,21,22,23,24,25,26,27,28,29,30,31] [32] 33 [] [(32,.pick (.t 18) (.t 31) (.c (.s (.bool false))))] [sb []]) (ai (hT R28_3 [32,33,34] [5] 35 [] [(5,.op (.bin .add (.t 0) (.c (.s (.int .i64 1)))) [.t 5,.c (.s (.int .i64 1))])] [.tt 5,sb [],sb []]) (ai (hE alq agm) (ai (hT R28_4 [0,1,5,32,35] [4] 36 [] [(4,.t 5)] [.tt 5,.tt 5]) (agm.eq_1)))))))))))))))))))))))
def a_f29:=ai (hT R29_0 K29_0 [] 3 [] [] [.cc (.s (.bool false))]) (ai aqk (ai (hK K29_0 0) ((hT R29_1 [0,3,4] [2] 5 [] [(2,.op (.bin .neq (.t 0) (.c (.s (.int .u8 10)))) [.t 0,.c (.s (.int .u8 10))])] [.tt 0,sb [],sb []]))))
def a_f30:=ai (hT R30_0 K30_0 [] 3 [] [] [.cc (.s (.bool false))]) (ai aqj (ai (hK K30_0 0) ((hT R30_1 [0,3,4,5,6,7,8,9,10,11,12,13,14,15,16,17,18,19,20] [2] 21 [] [(2,.pick (.pick (.pick (.op (.bin .geq (.t 0) (.c (.s (.int .u8 97)))) [.t 0,.c (.s (.int .u8 97))]) (.op (.bin .leq (.t 0) (.c (.s (.int .u8 122)))) [.t 0,.c (.s (.int .u8 122))]) (.c (.s (.bool false)))) (.c (.s (.bool true))) (.pick (.op (.bin .geq (.t 0) (.c (.s (.int .u8 65)))) [.t 0,.c (.s (.int .u8 65))]) (.op (.bin .leq (.t 0) (.c (.s (.int .u8 90)))) [.t 0,.c (.s (.int .u8 90))]) (.c (.s (.bool false))))) (.c (.s (.bool true))) (.op (.bin .eql (.t 0) (.c (.s (.int .u8 95)))) [.t 0,.c (.s (.int .u8 95))]))] [.tt 0,sb [0,0,0],sb [0,0,0],.sub 0 [0,0,1,0] [5],.sub 0 [0,0,1] [5],sb [0,0],sb [0,0],.sub 0 [0,2,0,0] [9],.sub 0 [0,2,0] [9],.sub 0 [0,2,0] [9],.sub 0 [0,2,1,0] [9,12],.sub 0 [0,2,1] [9,12],.sub 0 [0,2] [9],sb [0],sb [0],.sub 0 [2,0] [17],.sub 0 [2] [17],sb [],sb []]))))
def a_f31:=ai (hT R31_0 K31_0 [] 3 [] [] [.cc (.s (.bool false))]) (ai aqi (ai (hK K31_0 0) (ai (hU R31_1 [] [3] [0,3,4,5,6,7,8,9,10,11,12] 4 [] [(3,.t 0)] [.tt 0]) (ai (hP R31_1t1 [3] [0,3,4,5,6,7,8,9,10,11,12]) (ai (hU R31_1t2 [4] [5] [0,3,4,5,6,7,8,9,10,11,12] 6 [] [(5,.t 4)] [.tt 4]) (ai (hP R31_1t3 [] [0,3,4,5,6,7,8,9,10,11,12]) (ai (hP R31_1t4 [6] [0,3,4,5,6,7,8,9,10,11,12]) ((hV R31_1t5 [0,3,4,5,6,7,8,9,10,11,12] [2] 13 [] [(2,.pick (.pick (.t 5) (.c (.s (.bool true))) (.t 7)) (.c (.s (.bool true))) (.op (.bin .eql (.t 0) (.c (.s (.int .u8 46)))) [.t 0,.c (.s (.int .u8 46))]))] [sb [0],sb [0],.sub 0 [2,0] [9],.sub 0 [2] [9],sb [],sb []])))))))))
def a_f32:=ai (hT R32_0 K32_0 [] 3 [] [] [.cc (.s (.bool false))]) (ai aqh (ai (hK K32_0 0) ((hT R32_1 [0,3,4,5,6,7,8] [2] 9 [] [(2,.pick (.op (.bin .geq (.t 0) (.c (.s (.int .u8 48)))) [.t 0,.c (.s (.int .u8 48))]) (.op (.bin .leq (.t 0) (.c (.s (.int .u8 57)))) [.t 0,.c (.s (.int .u8 57))]) (.c (.s (.bool false))))] [.tt 0,sb [0],sb [0],.sub 0 [1,0] [5],.sub 0 [1] [5],sb [],sb []]))))
theorem a5o:w9 Tryd.prog PX0 13=some (false,aeb.ntmps,aeb.results,aeb.body.bare):=by kernel_rfl
theorem a5n:w9 Tryd.prog PX0 25=some (false,aj4.ntmps,aj4.results,aj4.body.bare):=by kernel_rfl
theorem a5m:w9 Tryd.prog PX0 26=some (false,ai1.ntmps,ai1.results,ai1.body.bare):=by kernel_rfl
theorem a5l:w9 Tryd.prog PX0 28=some (false,aj3.ntmps,aj3.results,aj3.body.bare):=by kernel_rfl
theorem a5k:w9 Tryd.prog PX0 29=some (false,aj2.ntmps,aj2.results,aj2.body.bare):=by kernel_rfl
theorem a5j:w9 Tryd.prog PX0 30=some (false,aj1.ntmps,aj1.results,aj1.body.bare):=by kernel_rfl
theorem a5i:w9 Tryd.prog PX0 31=some (false,aj0.ntmps,aj0.results,aj0.body.bare):=by kernel_rfl
theorem a5h:w9 Tryd.prog PX0 32=some (false,ajz.ntmps,ajz.results,ajz.body.bare):=by kernel_rfl
def bV (c:UInt8):V:=.s (.int .u8 c.toNat)
def S (b:ByteArray):V:=.s (.string b)
theorem abb (c d:UInt8):(c=d)↔((c.toNat:Nat):Int)=((d.toNat:Nat):Int):=by rw [ak7,UInt8.toNat_inj]
theorem a2g (c:UInt8):(decide ((c.toNat:Int) ≥ 97) && decide ((c.toNat:Int)≤122) || decide ((c.toNat:Int) ≥ 65) && decide ((c.toNat:Int)≤90) || ((c.toNat:Int) == 95))=Tok.letter c:=by
 unfold Tok.letter;rw [ma];simp only [lg,ak,jv,jy,abb,show (UInt8.toNat 95)=95 from rfl];omega
theorem a8t (c:UInt8):(decide ((c.toNat:Int) ≥ 48) && decide ((c.toNat:Int)≤57))=Tok.digit c:=by
 unfold Tok.digit;rw [ma];simp only [lg,ak,jv,jy];omega
theorem dot_m (c:UInt8):((c.toNat:Int) == 46)=(c == 46):=by
 rw [ma,jy,jy,abb];rfl
theorem a6u (c:UInt8):((c.toNat:Int) != 10)=Tok.other c:=by
 unfold Tok.other;rw [ma];simp only [p8,Ne,abb];rfl
section
variable {CT:Nat→Option CFun}
theorem uz (hT:CT a2m=some (.code aj1)) (c:UInt8) (base:Nat) (H:Heap):dw CT (.fn a2m [] []) [.s (.int .u8 c.toNat)] base H=some (bl (Tok.letter c),H):=by
 refine oh (c:=aj1) hT (by simp [aj1]) ?_
 rw [← a2g];simp only [aj1,bV,a_f30,aa,reduceIte,reduceCtorEq,Nat.reduceEqDiff,Nat.reduceLT,Nat.reduceLeDiff,Nat.reduceBEq,Nat.reduceAdd,Nat.reduceMul]
theorem uu (hT:CT a2l=some (.code ajz)) (c:UInt8) (base:Nat) (H:Heap):dw CT (.fn a2l [] []) [.s (.int .u8 c.toNat)] base H=some (bl (Tok.digit c),H):=by
 refine oh (c:=ajz) hT (by simp [ajz]) ?_
 rw [← a8t];simp only [ajz,bV,a_f32,aa,reduceIte,reduceCtorEq,Nat.reduceEqDiff,Nat.reduceLT,Nat.reduceLeDiff,Nat.reduceBEq,Nat.reduceAdd,Nat.reduceMul]
theorem axm (hT:CT a7v=some (.code aj2)) (c:UInt8) (base:Nat) (H:Heap):dw CT (.fn a7v [] []) [.s (.int .u8 c.toNat)] base H=some (bl (Tok.other c),H):=by
 refine oh (c:=aj2) hT (by simp [aj2]) ?_
 rw [← a6u];simp only [aj2,bV,a_f29,aa,reduceIte,reduceCtorEq,Nat.reduceEqDiff,Nat.reduceLT,Nat.reduceLeDiff,Nat.reduceBEq,Nat.reduceAdd,Nat.reduceMul]
theorem agc (hT:CT a7u=some (.code aj0)) (hl:∀ (c:UInt8) (base:Nat) (H:Heap),dw CT (.fn a2m [] []) [.s (.int .u8 c.toNat)] base H=some (bl (Tok.letter c),H)) (hd:∀ (c:UInt8) (base:Nat) (H:Heap),dw CT (.fn a2l [] []) [.s (.int .u8 c.toNat)] base H=some (bl (Tok.digit c),H)) (c:UInt8) (base:Nat) (H:Heap):dw CT (.fn a7u [] []) [.s (.int .u8 c.toNat)] base H=some (bl (Tok.within c),H):=by
 refine oh (c:=aj0) hT (by simp [aj0]) ?_
 unfold Tok.within;rw [← dot_m];cases h1:Tok.letter c <;> simp only [aj0,bV,a_f31,aa,reduceIte,reduceCtorEq,Nat.reduceEqDiff,Nat.reduceLT,Nat.reduceLeDiff,Nat.reduceBEq,Nat.reduceAdd,Nat.reduceMul,hl,hd,h1]
end
abbrev I (n:Int):V:=.s (.int .i64 n)
def rC (ln cl:Nat) (b:ByteArray) (at':Nat):List V:=[I ln,I cl,.s (.string b),I at']
theorem ba4 (c:UInt8):((c.toNat:Int) == 10)=decide (c=10):=by
 rw [ma,jy,jk,abb];rfl
theorem ah8 {n:Nat} (h:n < 2 ^ 62):IntKind.i64.wrap ((n:Int)+1)=((n+1:Nat):Int):=by rw [IntKind.wrap_i64];omega
theorem a8e {H:Heap} {i g:Nat} {c:List V} (h:getC H i g=some c):H[i]?=some (.cells g c):=by
 unfold getC at h;cases ho:H[i]? with
 | none=>rw [ho] at h;cases h
 | some o=>
   rw [ho] at h;cases o with
   | cells g2 c2=>
     dsimp only at h;split at h
     ·rename_i e;cases h;rw [e]
     ·cases h
   | map _=>cases h
   | loop _ _ _ _ _ _=>cases h
   | dead=>cases h
   | bytes _ _=>cases h
theorem jr {H:Heap} {i g:Nat} {c:List V} (h:getC H i g=some c) (c':List V):getC (H.set i (.cells g c')) i g=some c':=by
 have:=oz h;unfold getC;rw [List.getElem?_set_self this];simp
theorem step_loop (call:kz) (base:Nat) (b:ByteArray) (hb:b.size≤2 ^ 40) (i:Nat) (hi:base≤i) (m q:Nat) (hq:q≤b.size) (hm:m < 2 ^ 62):∀ (n j at' ln cl:Nat) (H:Heap),getC H i 0=some (rC ln cl b at')→at'+n=q→j+n=m→ln≤at'+1→cl≤at'+1→
 itW (evC call itW base alr) [] H.length (fe 48 [(0,.ref i 0 0),(4,I m),(5,I j)]) H=
 some (.ext 0,fe 48 [(0,.ref i 0 0),(4,I m),(5,I m),(6,bl false)],H.set i (.cells 0 (rC (Tok.spotL ((b.data.toList.drop at').take n) (ln,cl)).1 (Tok.spotL ((b.data.toList.drop at').take n) (ln,cl)).2 b q))):=by
 intro n
 induction n with
 | zero=>
   intro j at' ln cl H hc h1 h4 h2 h3;have hlt:=oz hc;have e:H.set i (.cells 0 (rC ln cl b at'))=H:=ap6 (a8e hc);rw [wh] at h1 h4;subst h1 h4;rw [jo];simp only [a4o,aa,reduceIte,reduceCtorEq,Nat.reduceEqDiff,Nat.reduceLT,Nat.reduceLeDiff,Nat.reduceBEq,Nat.reduceAdd,Nat.reduceMul,I,wh,yh,dx,Tok.spotL,e]
 | succ n ih=>
   intro j at' ln cl H hc h1 h4 h2 h3;have hlt:=oz hc
   have hat:at' < b.data.toList.length:=by rw [show b.data.toList.length=b.size from rfl];omega
   have hx:b.data.toList[at']?=some b.data.toList[at']:=List.getElem?_eq_getElem hat;have hset:∀ c',getC (H.set i (.cells 0 c')) i 0=some c':=fun c'=>jr hc c';have hlen:∀ ob,(H.set i ob).length=H.length:=fun ob=>bu;have hss:∀ a b,(H.set i a).set i b=H.set i b:=fun a b=>List.set_set ..;have hd:b.data.toList.drop at'=b.data.toList[at'] :: b.data.toList.drop (at'+1):=di hat
   have hj:((j:Int) < (m:Int)):=by omega
   have w1:=ah8 (n:=cl) (by omega)
   have w2:=ah8 (n:=ln) (by omega)
   have w3:=ah8 (n:=at') (by omega)
   have w4:=ah8 (n:=j) (by omega)
   have htr:∀ fr ob,trim H.length fr (H.set i ob)=H.set i ob:=fun fr ob=>ol (hlen ob);have hrc:getC H i 0=some [I ln,I cl,.s (.string b),I at']:=hc;rw [hd,bn,Tok.spotL];rw [jo];by_cases h10:b.data.toList[at']=10
   ·rw [ed h10]
    have ih':=ih (j+1) (at'+1) (ln+1) 1 (H.set i (.cells 0 (rC (ln+1) 1 b (at'+1)))) (hset _) (by omega) (by omega) (by omega) (by omega)
    simp only [a4o,aa,reduceIte,reduceCtorEq,Nat.reduceEqDiff,Nat.reduceLT,Nat.reduceLeDiff,Nat.reduceBEq,Nat.reduceAdd,Nat.reduceMul,I,hi,hrc,hj,hx,w1,w2,w3,w4,hset,hlen,hss,ba4,h10,htr,aav,aa8];simp only [hlen,hss,rC,I] at ih' ⊢;exact ih'
   ·rw [gu h10]
    have ih':=ih (j+1) (at'+1) ln (cl+1) (H.set i (.cells 0 (rC ln (cl+1) b (at'+1)))) (hset _) (by omega) (by omega) (by omega) (by omega)
    simp only [a4o,aa,reduceIte,reduceCtorEq,Nat.reduceEqDiff,Nat.reduceLT,Nat.reduceLeDiff,Nat.reduceBEq,Nat.reduceAdd,Nat.reduceMul,I,hi,hrc,hj,hx,w1,w2,w3,w4,hset,hlen,hss,ba4,h10,htr,aav,aa8];simp only [hlen,hss,rC,I] at ih' ⊢;exact ih'
section
variable {CT:Nat→Option CFun}
theorem ald (hT:CT a2n=some (.code ai1)) (base:Nat) {b:ByteArray} (hb:b.size≤2 ^ 40) {i:Nat} (hi:base≤i) {H:Heap} {ln cl at':Nat} (hc:getC H i 0=some (rC ln cl b at')) {n:Nat} (hn:at'+n≤b.size) (h2:ln≤at'+1) (h3:cl≤at'+1):
 dw CT (.fn a2n [] []) [.ref i 0 0,I n] base H=some (.tup [],H.set i (.cells 0 (rC (Tok.spotL ((b.data.toList.drop at').take n) (ln,cl)).1 (Tok.spotL ((b.data.toList.drop at').take n) (ln,cl)).2 b (at'+n)))):=by
 refine oh (c:=ai1) hT (by simp [ai1]) ?_
 have hl:=step_loop (dw CT) base b hb i hi n (at'+n) hn (by omega) n 0 at' ln cl H hc rfl (by omega) h2 h3
 rw [I,I,show ((0:Nat):Int)=0 from rfl] at hl;simp only [ai1,a4o,aa,reduceIte,reduceCtorEq,Nat.reduceEqDiff,Nat.reduceLT,Nat.reduceLeDiff,Nat.reduceBEq,Nat.reduceAdd,Nat.reduceMul,I,hl];rfl
theorem a3a (base:Nat) {f:V} {p:UInt8→Bool} (hp:∀ (c:UInt8) (base:Nat) (H:Heap),dw CT f [.s (.int .u8 c.toNat)] base H=some (bl (p c),H)) (hf:∃ k,f=.fn k [] []) {b:ByteArray} (hb:b.size≤2 ^ 40) {i:Nat} {H:Heap} {ln cl at':Nat} (hc:getC H i 0=some (rC ln cl b at')):∀ (l:List UInt8) (j:Nat),b.data.toList.drop (at'+j)=l→at'+j≤b.size→
 itW (evC (dw CT) itW base alq) [] H.length (fe 36 [(0,.ref i 0 0),(1,f),(5,I j)]) H=some (.ext 0,fe 36 ((0,.ref i 0 0) :: (1,f) :: (5,I ((j+Tok.far p l:Nat):Int)) :: [(32,bl false)]),H):=by
 intro l
 induction l with
 | nil=>
   intro j hd hj
   have hin:at'+j=b.size:=by
    have:=lq List.length hd;rw [iy,show b.data.toList.length=b.size from rfl] at this;simp at this;omega
   rw [jo];have hrc:getC H i 0=some [I ln,I cl,.s (.string b),I at']:=hc
   have w1:IntKind.i64.wrap ((at':Int)+(j:Int))=(b.size:Int):=by rw [IntKind.wrap_i64];omega
   simp only [a4n,aa,reduceIte,reduceCtorEq,Nat.reduceEqDiff,Nat.reduceLT,Nat.reduceLeDiff,Nat.reduceBEq,Nat.reduceAdd,Nat.reduceMul,I,hrc,w1,yh,Tok.far,wh]
 | cons c l ih=>
   intro j hd hj
   have hcc:b.data.toList[at'+j]?=some c:=by have:=lq (·[0]?) hd;simp only [List.getElem?_drop] at this;exact this
   have hlt:at'+j < b.size:=by have:=(List.getElem?_eq_some_iff.1 hcc).1;exact this
   have hd':b.data.toList.drop (at'+(j+1))=l:=by
    have:=lq (List.drop 1) hd
    simpa [za,wm] using this
   have hrc:getC H i 0=some [I ln,I cl,.s (.string b),I at']:=hc
   have w1:IntKind.i64.wrap ((at':Int)+(j:Int))=((at'+j:Nat):Int):=by rw [IntKind.wrap_i64];omega
   have w2:=ah8 (n:=j) (by omega)
   have hlt':(((at'+j:Nat):Int) < (b.size:Int)):=by omega
   obtain ⟨k,rfl⟩:=hf
   have hen:=ih (j+1) hd' (by omega)
   rw [jo];cases hpc:p c with
   | true=>
     simp only [a4n,aa,reduceIte,reduceCtorEq,Nat.reduceEqDiff,Nat.reduceLT,Nat.reduceLeDiff,Nat.reduceBEq,Nat.reduceAdd,Nat.reduceMul,I,hrc,w1,w2,hlt',hcc,hp,hpc,Tok.far]
     rw [show j+(Tok.far p l+1)=j+1+Tok.far p l by omega]
     exact hen
   | false=>
     simp only [a4n,aa,reduceIte,reduceCtorEq,Nat.reduceEqDiff,Nat.reduceLT,Nat.reduceLeDiff,Nat.reduceBEq,Nat.reduceAdd,Nat.reduceMul,I,hrc,w1,w2,hlt',hcc,hp,hpc,Tok.far]
theorem ag5 (hT:CT a7w=some (.code aj3)) (base:Nat) {f:V} {p:UInt8→Bool} (hp:∀ (c:UInt8) (base:Nat) (H:Heap),dw CT f [.s (.int .u8 c.toNat)] base H=some (bl (p c),H)) (hf:∃ k,f=.fn k [] []) {b:ByteArray} (hb:b.size≤2 ^ 40) {i:Nat} {H:Heap} {ln cl at':Nat} (hc:getC H i 0=some (rC ln cl b at')) (hat:at'≤b.size):
 dw CT (.fn a7w [] []) [.ref i 0 0,f] base H=some (I (Tok.far p (b.data.toList.drop at'):Nat),H):=by
 refine oh (c:=aj3) hT (by simp [aj3]) ?_
 have hl:=a3a (CT:=CT) base hp hf hb hc (b.data.toList.drop at') 0 rfl hat;rw [I,I,show ((0:Nat):Int)=0 from rfl,lh] at hl;simp only [aj3,a4n,aa,reduceIte,reduceCtorEq,Nat.reduceEqDiff,Nat.reduceLT,Nat.reduceLeDiff,Nat.reduceBEq,Nat.reduceAdd,Nat.reduceMul,I,hl]
end
end Go.Proofs.YtbocmenkkjbigaaDoor
namespace Go.AM
theorem a0c (H:Heap) (b:ByteArray) (k k2:IntKind) (l h:Int):ace H (.subStr (.t 0) (some (.t 1)) (some (.t 2))) (some [.s (.string b),.s (.int k l),.s (.int k2 h)])=if 0≤l∧l≤h∧h≤b.size then some (.s (.string (b.extract l.toNat h.toNat))) else none:=by
 show (if 0≤l∧l≤h∧h≤(b.size:Int) then some (V.s (.string (b.extract l.toNat h.toNat)),H) else none).map (·.1)=_
 split <;> rfl
theorem extract_eq (b:ByteArray) (at' n:Nat):b.extract at' (at'+n)=⟨((b.data.toList.drop at').take n).toArray⟩:=by
 apply ByteArray.ext;apply qy;rw [ByteArray.data_extract,Array.toList_extract,List.extract_eq_drop_take];simp
theorem ama (t u w:ARes) (fr:List V) (H:Heap):qd [t,u,w] fr H=match ahh fr H t,ahh fr H u,ahh fr H w with | some x,some y,some z=>some (.tup [x,y,z]) | _,_,_=>none:=by
 simp only [qd,ll,atu];cases ahh fr H t <;> cases ahh fr H u <;> cases ahh fr H w <;> rfl
theorem ara (H:Heap) (g:Bool) (n:Nat) (a:V):aal H g n a=uj H g n a:=rfl
theorem ak8 (H:Heap) (f:Nat) (a b:V):ace H (.mkFn f [] [.t 0,.t 1]) (some [a,b])=some (.fn f [] [a,b]):=rfl
end Go.AM
set_option maxRecDepth 100000
namespace Go.Proofs.YtbocmenkkjbigaaDoor
open Go.AM
def tV (t:Tok.T):List V:=[.s (.int .u8 t.kind),.s (.string ⟨t.text.toArray⟩),I t.n,I t.line,I t.col]
structure LexSt (m:Nat) (H:Heap) (o h i:Nat) (b:ByteArray) (ln cl at':Nat) (R:List (List V)):Prop where
 hold:getC H h 0=some [.ref i 0 0]
 rd:getC H i 0=some (rC ln cl b at')
 out:∃ v,getC H o 0=some [v]∧qm m 5 H v R
 len:m≤H.length
 lt:h < m∧i < m∧o < m
 ne:o≠h∧o≠i∧h≠i
theorem qm.trim_cell {m w L o:Nat} {H:Heap} {v:V} {R:List (List V)} (h:qm m w H v R) (ho:getC H o 0=some [v]) (hL:o < L) (fr:List V):qm m w (trim L fr H) v R:=by
 rcases akc L fr H with e | ⟨e,_,hu⟩
 ·rw [e];exact h
 ·refine h.keep fun id g n ev=>?_
  have:=hu o 0 _ hL ho v (by simp)
  rw [ev] at this;simp only [lm,jv] at this;rw [e,List.getElem?_take_of_lt this]
section
variable {CT:Nat→Option CFun}
theorem amc (hT:CT a7x=some (.code aj4)) (hS:CT a2n=some (.code ai1)) {base m:Nat} {H:Heap} {o h i:Nat} {b:ByteArray} {ln cl at':Nat} {R:List (List V)} (st:LexSt m H o h i b ln cl at' R) (hb:b.size≤2 ^ 40) (hbo:base≤o) (hbi:base≤i) (hbm:base≤m) {n:Nat} (hn:at'+n≤b.size) (hl:ln≤at'+1) (hc:cl≤at'+1) (hR:R.length≤at'+1) (kind:Nat):
 ∃ id g H',dw CT (.fn a7x [] [.ref o 0 0,.ref h 0 0]) [.s (.int .u8 kind),I n] base H=some (.ref id g (R.length * 5),H')∧
   LexSt m H' o h i b (Tok.spotL ((b.data.toList.drop at').take n) (ln,cl)).1 (Tok.spotL ((b.data.toList.drop at').take n) (ln,cl)).2 (at'+n) (R ++ [tV ⟨kind,(b.data.toList.drop at').take n,0,ln,cl⟩])∧
   getC H' o 0=some [.sl id g 0 (R.length+1) 5]∧m≤id∧getC H' id g=some (R ++ [tV ⟨kind,(b.data.toList.drop at').take n,0,ln,cl⟩]).flatten∧ah m [o,i] H H':=by
 obtain ⟨v,ho,hv⟩:=st.out;have hrd:=st.rd;have hh:=st.hold;obtain ⟨hmh,hmi,hmo⟩:=st.lt;obtain ⟨noh,noi,nhi⟩:=st.ne;have hmL:=st.len;have hrc:getC H i 0=some [I ln,I cl,.s (.string b),I at']:=hrd
 have w1:IntKind.i64.wrap ((at':Int)+(n:Int))=((at'+n:Nat):Int):=by rw [IntKind.wrap_i64];omega
 have hle:(0≤(at':Int)∧(at':Int)≤((at'+n:Nat):Int)∧((at'+n:Nat):Int)≤(b.size:Int)):=by omega
 obtain ⟨row,hrow⟩:∃ row,tV ⟨kind,(b.data.toList.drop at').take n,0,ln,cl⟩=row:=⟨_,rfl⟩;have hrow':[V.s (.int .u8 kind),V.s (.string ⟨((b.data.toList.drop at').take n).toArray⟩),V.s (.int .i64 0),V.s (.int .i64 ln),V.s (.int .i64 cl)]=row:=hrow
 have hrl:row.length=5:=by rw [← hrow];rfl
 have hr1:row.all V.one=true:=by rw [← hrow];rfl
 rw [hrow];obtain ⟨B,hB⟩:∃ B,H ++ [Ob.cells 0 row]=B:=⟨_,rfl⟩
 have kB:∀ id,id < H.length→B[id]?=H[id]?:=fun id h1=>by rw [← hB,List.getElem?_append_left h1]
 have lB:B.length=H.length+1:=by rw [← hB];simp
 have cB:∀ {id g c},getC H id g=some c→getC B id g=some c:=fun {id g c} hg=>by have:=oz hg;unfold getC at hg ⊢;rw [kB id this];exact hg
 have hx:elems B 5 (.sl H.length 0 0 1 5)=some ([row].length,[row].flatten):=by
  rw [← hB];exact (RdW.sl (R:=[row]) (by simpa using ji H 0 row) (by intro r hr;simp at hr;subst hr;exact hrl)).el
 have hvB:qm m 5 B v R:=hv.keep fun id g n e=>kB id (hv.lt id g n e)
 obtain ⟨v',C,eC,aC,lC,kC⟩:=hvB.append (base:=base) (bytes:=48) (S:=[row]) hbm (by omega) (by intro r hr;simp at hr;subst hr;exact hrl) (by simp) hx (by simpa using hr1) (by simp;omega)
 obtain ⟨hRR,⟨e0,_⟩ | ⟨id,g,rfl,hcC,hid⟩⟩:=aC
 ·simp at e0
 have hap:qm m 5 C (.sl id g 0 (R ++ [row]).length 5) (R ++ [row]):=⟨hRR,.inr ⟨id,g,rfl,hcC,hid⟩⟩
 have hvne:∀ x,x < m→∀ g n,v≠.sl x g 0 n 5:=by
  intro x hx g n e
  obtain ⟨_,⟨_,rfl⟩ | ⟨id',g',rfl,_,hid'⟩⟩:=hv
  ·cases e
  ·cases e;omega
 have kCm:∀ x,x < m→C[x]?=H[x]?:=fun x hx=>by rw [kC x (by omega) (hvne x hx),kB x (by omega)]
 have cC:∀ {x g c},x < m→getC H x g=some c→getC C x g=some c:=fun {x g c} hx hg=>by unfold getC at hg ⊢;rw [kCm x hx];exact hg
 have hoC:=cC hmo ho;obtain ⟨E,hE⟩:∃ E,C.set o (.cells 0 [.sl id g 0 (R.length+1) 5])=E:=⟨_,rfl⟩
 have lE:E.length=C.length:=by rw [← hE];exact bu
 have oE:getC E o 0=some [.sl id g 0 (R.length+1) 5]:=by rw [← hE];exact jr hoC _
 have kE:∀ x,x≠o→E[x]?=C[x]?:=fun x hx=>by rw [← hE,List.getElem?_set_ne (qc hx)]
 have cE:∀ {x g c},x≠o→getC C x g=some c→getC E x g=some c:=fun {x g c} hx hg=>by unfold getC at hg ⊢;rw [kE x hx];exact hg
 have aE:qm m 5 E (.sl id g 0 (R ++ [row]).length 5) (R ++ [row]):=hap.keep fun id' g' n' e=>by cases e;exact kE id (by omega)
 have hhE:=cE (qc noh) (cC hmh hh);have hrE:=cE (qc noi) (cC hmi hrd);have stepF:=ald hS base hb hbi hrE hn hl hc;obtain ⟨rc,hrc'⟩:∃ rc,rC (Tok.spotL ((b.data.toList.drop at').take n) (ln,cl)).1 (Tok.spotL ((b.data.toList.drop at').take n) (ln,cl)).2 b (at'+n)=rc:=⟨_,rfl⟩;have lG:∀ ob,(E.set i ob).length=E.length:=fun ob=>bu;have tG:∀ fr2 ob,trim E.length fr2 (E.set i ob)=E.set i ob:=fun fr2 ob=>ol (lG ob)
 have oG:∀ ob,getC (E.set i ob) o 0=some [.sl id g 0 (R.length+1) 5]:=fun ob=>by rw [zy ob noi];exact oE
 have lR:(R ++ [row]).length=R.length+1:=by simp
 have w2:IntKind.i64.wrap (((R.length+1:Nat):Int) - 1)=(R.length:Int):=by rw [IntKind.wrap_i64];omega
 have hix:(0≤(R.length:Int)∧(R.length:Int) < ((R.length+1:Nat):Int)∧5=5):=by omega
 have hBx:H ++ [Ob.cells 0 [V.s (.int .u8 kind),V.s (.string ⟨((b.data.toList.drop at').take n).toArray⟩),V.s (.int .i64 0),V.s (.int .i64 ln),V.s (.int .i64 cl)]]=B:=by rw [hrow'];exact hB
 refine ⟨id,g,_,oh (c:=aj4) hT (r:=(.ref id g (R.length * 5),E.set i (.cells 0 rc))) (by simp [aj4]) ?_,?_⟩
 ·simp only [aj4,a_f25,aa,reduceIte,reduceCtorEq,Nat.reduceEqDiff,Nat.reduceLT,Nat.reduceLeDiff,Nat.reduceBEq,Nat.reduceAdd,Nat.reduceMul,I,ho,hh,hrc,w1,a0c,adq,hle,extract_eq,hBx,eC,hoC,hbo,hE,oE,hhE,stepF,hrc',tG,oG,lR,w2,hix]
 ·have aG:qm m 5 (E.set i (.cells 0 rc)) (.sl id g 0 (R ++ [row]).length 5) (R ++ [row]):=aE.keep fun id' g' n' e=>by cases e;exact List.getElem?_set_ne (by omega)
  have hlE:m≤E.length:=by omega
  refine ⟨⟨by rw [zy _ (fun e=>nhi e)];exact hhE,by rw [hrc'];exact jr hrE _,⟨_,oG _,by rw [← lR];exact aG⟩,by rw [bu];exact hlE,st.lt,st.ne⟩,oG _,hid,?_,⟨by rw [bu];exact hlE,fun x hx hxn=>?_⟩⟩
  ·obtain ⟨_,⟨e0,_⟩ | ⟨id',g',e,hc',_⟩⟩:=aG
   ·simp at e0
   ·cases e;exact hc'
  ·simp only [nk,yz,asx,not_or] at hxn;rw [List.getElem?_set_ne (qc hxn.2),kE x hxn.1,kCm x hx]
end
end Go.Proofs.YtbocmenkkjbigaaDoor
namespace Go.AM
def a9q:List V→Nat→Heap→Option (V × Heap):=fun vs _ H=>match vs with
 | [.s (.string b),.s (.int .u8 c)]=>some (.s (.int .i64 (Lib.indexByte b.data.toList c.toNat.toUInt8)),H)
 | _=>none
def apm:List V→Nat→Heap→Option (V × Heap):=fun vs _ H=>match vs with
 | [.s (.string b)]=>if b.size≤18 then (Lib.atoi b.data.toList).map fun n=>(.tup [.s (.int .i64 n),.s .nilIface],H) else none
 | _=>none
end Go.AM
set_option maxRecDepth 100000
namespace Go.Proofs.YtbocmenkkjbigaaDoor
open Go.AM
structure TL (CT:Nat→Option CFun):Prop where
 letter:CT a2m=some (.code aj1)
 digit:CT a2l=some (.code ajz)
 other:CT a7v=some (.code aj2)
 within:CT a7u=some (.code aj0)
 step:CT a2n=some (.code ai1)
 far:CT a7w=some (.code aj3)
 put:CT a7x=some (.code aj4)
 idx:CT ao4=some (.prim a9q)
 atoi:CT bbx=some (.prim apm)
theorem LexSt.trim {m:Nat} {H:Heap} {o h i:Nat} {b:ByteArray} {ln cl at':Nat} {R:List (List V)} (st:LexSt m H o h i b ln cl at' R) (fr:List V):LexSt m (Go.AM.trim m fr H) o h i b ln cl at' R:=by
 obtain ⟨v,ho,hv⟩:=st.out;exact ⟨ahv st.hold st.lt.1,ahv st.rd st.lt.2.1,⟨v,ahv ho st.lt.2.2,qm.trim_cell hv ho st.lt.2.2 fr⟩,ap0 st.len,st.lt,st.ne⟩
def acm (b:ByteArray) (d h o:Nat):Env:=[(0,.s (.string b)),(3,.ref d 0 0),(5,.ref h 0 0),(6,.ref o 0 0),(7,.fn 25 [] [.ref o 0 0,.ref h 0 0])]
theorem aro (c:UInt8):∀ l:List UInt8,decide (Lib.indexByte l c ≥ 0)=l.contains c
 | []=>by simp [Lib.indexByte]
 | b :: l=>by
   have ih:=aro c l;have h1:=Lib.indexByte_ge l c;rw [af7,← ih,ma,jk,lg,jk];simp only [Lib.indexByte];by_cases e:b=c
   ·subst e;simp
   ·have e1:(b == c)=false:=by simpa using e
    have e2:(c == b)=false:=by simpa using fun h=>e h.symm
    rw [e1,e2];by_cases e3:Lib.indexByte l c=-1
    ·simp [e3]
    ·have e4:(Lib.indexByte l c == -1)=false:=by simpa using e3
     simp only [e4,mr,j6,false_or];omega
theorem abe (c:UInt8):decide (Lib.indexByte [32,9,13,10] c ≥ 0)=Tok.blank c:=by
 rw [aro];unfold Tok.blank;simp only [af7,avq,ad8,Bool.or_assoc]
theorem ahg (c:UInt8):decide (Lib.indexByte [61,44,58,40,41,123,125,91,93] c ≥ 0)=Tok.sign c:=by
 rw [aro];unfold Tok.sign;simp only [af7,avq,ad8,Bool.or_assoc]
section
variable {CT:Nat→Option CFun}
theorem LexSt.put {m:Nat} {H:Heap} {o h i:Nat} {b:ByteArray} {ln cl at':Nat} {R:List (List V)} (st:LexSt m H o h i b ln cl at' R) (fr:List V) (ln2 cl2 at2:Nat):LexSt m (Go.AM.trim m fr (H.set i (.cells 0 (rC ln2 cl2 b at2)))) o h i b ln2 cl2 at2 R∧ah m [o,i] H (Go.AM.trim m fr (H.set i (.cells 0 (rC ln2 cl2 b at2)))):=by
 obtain ⟨v,ho,hv⟩:=st.out;obtain ⟨h1,h2,h3⟩:=st.lt;obtain ⟨n1,n2,n3⟩:=st.ne
 have hlen:m≤(H.set i (.cells 0 (rC ln2 cl2 b at2))).length:=by rw [bu];exact st.len
 refine ⟨LexSt.trim ⟨by rw [zy _ n3];exact st.hold,jr st.rd _,⟨v,by rw [zy _ n2];exact ho,hv.keep fun id g n e=>?_⟩,hlen,st.lt,st.ne⟩ fr,⟨ap0 hlen,fun x hx hxn=>?_⟩⟩
 ·obtain ⟨_,⟨_,rfl⟩ | ⟨id',g',rfl,_,hid⟩⟩:=hv
  ·cases e
  ·cases e
   exact List.getElem?_set_ne (by omega)
 ·simp only [nk,yz,asx,not_or] at hxn;rw [av0 _ _ _ hx,List.getElem?_set_ne (qc hxn.2)]
theorem aya (T:TL CT) {base m:Nat} {b:ByteArray} (hb:b.size≤2 ^ 40) {d o h i:Nat} (hbo:base≤o) (hbi:base≤i) (hbm:base≤m) {H:Heap} {ln cl at':Nat} {R:List (List V)} (st:LexSt m H o h i b ln cl at' R) (hl:ln≤at'+1) (hc:cl≤at'+1) (hR:R.length≤at'+1) {c:UInt8} (hx:b.data.toList[at']?=some c) (hbl:Tok.blank c=true):
 ∃ H',itW (evC (dw CT) itW base sw) [] m (fe 106 (acm b d h o)) H=itW (evC (dw CT) itW base sw) [] m (fe 106 (acm b d h o)) H'∧LexSt m H' o h i b (if c=10 then ln+1 else ln) (if c=10 then 1 else cl+1) (at'+1) R∧ah m [o,i] H H':=by
 have hrd:=st.rd;have hh:=st.hold;have hrc:getC H i 0=some [I ln,I cl,.s (.string b),I at']:=hrd;have hlt:at' < b.size:=(List.getElem?_eq_some_iff.1 hx).1
 have hlt':((at':Int) < (b.size:Int)):=by omega
 have hdr:b.data.toList.drop at'=c :: b.data.toList.drop (at'+1):=by
  rw [di hlt,(List.getElem?_eq_some_iff.1 hx).2]
 have hidx:∀ (s:ByteArray) (base:Nat) (H:Heap),dw CT (.fn ao4 [] []) [.s (.string s),.s (.int .u8 c.toNat)] base H=some (.s (.int .i64 (Lib.indexByte s.data.toList c)),H):=fun s base H=>by
  refine aae ?_;simp only [vk,T.idx];show some (V.s (.int .i64 (Lib.indexByte s.data.toList (c.toNat:Int).toNat.toUInt8)),H)=_
  rw [mq,show c.toNat.toUInt8=c by simp]
 have hlet:=fun base H=>uz T.letter c base H;have hdig:=fun base H=>uu T.digit c base H
 have hstep:=ald T.step base hb hbi hrd (n:=1) (by omega) hl hc
 rw [I,show ((1:Nat):Int)=1 from rfl,hdr,bn,dx] at hstep
 obtain ⟨s1,s2⟩:=st.put (fe 106 (acm b d h o)) (if c=10 then ln+1 else ln) (if c=10 then 1 else cl+1) (at'+1)
 refine ⟨_,?_,s1,s2⟩
 have e1:(Tok.spotL [c] (ln,cl))=((if c=10 then ln+1 else ln),(if c=10 then 1 else cl+1)):=by
  simp only [Tok.spotL];split <;> rfl
 rw [e1] at hstep;rw [jo];simp only [acm,ae8,aa,reduceIte,reduceCtorEq,Nat.reduceEqDiff,Nat.reduceLT,Nat.reduceLeDiff,Nat.reduceBEq,Nat.reduceAdd,Nat.reduceMul,hh,hrc,hlt',hx,hidx,abe,hbl,hstep]
theorem arc (T:TL CT) {base m:Nat} {b:ByteArray} (hb:b.size≤2 ^ 40) {d o h i:Nat} (hbo:base≤o) (hbi:base≤i) (hbm:base≤m) {H:Heap} {ln cl at':Nat} {R:List (List V)} (st:LexSt m H o h i b ln cl at' R) (hl:ln≤at'+1) (hc:cl≤at'+1) (hR:R.length≤at'+1) {c:UInt8} (hx:b.data.toList[at']?=some c) (hbl:Tok.blank c=false) (h59:c=59):
 ∃ H',itW (evC (dw CT) itW base sw) [] m (fe 106 (acm b d h o)) H=itW (evC (dw CT) itW base sw) [] m (fe 106 (acm b d h o)) H'∧LexSt m H' o h i b ln (cl+(Tok.far Tok.other (b.data.toList.drop (at'+1))+1)) (at'+(Tok.far Tok.other (b.data.toList.drop (at'+1))+1)) R∧ah m [o,i] H H':=by
 have hrd:=st.rd;have hh:=st.hold;have hrc:getC H i 0=some [I ln,I cl,.s (.string b),I at']:=hrd;have hlt:at' < b.size:=(List.getElem?_eq_some_iff.1 hx).1
 have hlt':((at':Int) < (b.size:Int)):=by omega
 have hdr:b.data.toList.drop at'=c :: b.data.toList.drop (at'+1):=by
  rw [di hlt,(List.getElem?_eq_some_iff.1 hx).2]
 have hidx:∀ (s:ByteArray) (base:Nat) (H:Heap),dw CT (.fn ao4 [] []) [.s (.string s),.s (.int .u8 c.toNat)] base H=some (.s (.int .i64 (Lib.indexByte s.data.toList c)),H):=fun s base H=>by
  refine aae ?_;simp only [vk,T.idx];show some (V.s (.int .i64 (Lib.indexByte s.data.toList (c.toNat:Int).toNat.toUInt8)),H)=_
  rw [mq,show c.toNat.toUInt8=c by simp]
 have hlet:=fun base H=>uz T.letter c base H;have hdig:=fun base H=>uu T.digit c base H
 have hfar:=fun base=>ag5 T.far base (fun c base H=>axm T.other c base H) ⟨_,rfl⟩ hb hrd (by omega)
 have hfl:=Tok.far_le Tok.other (b.data.toList.drop (at'+1));rw [iy,show b.data.toList.length=b.size from rfl] at hfl
 simp only [hdr,Tok.far,ed (show Tok.other c=true by rw [h59];decide)] at hfar
 have hstep:=ald T.step base hb hbi hrd (n:=Tok.far Tok.other (b.data.toList.drop (at'+1))+1) (by omega) hl hc
 rw [hdr,bn,Tok.spotL_flat _ _ (Tok.len_ne Tok.other (by decide) _ (by rw [h59];decide)),cu,Tok.far_len] at hstep
 obtain ⟨s1,s2⟩:=st.put (fe 106 (acm b d h o)) ln (cl+(Tok.far Tok.other (b.data.toList.drop (at'+1))+1)) (at'+(Tok.far Tok.other (b.data.toList.drop (at'+1))+1));refine ⟨_,?_,s1,s2⟩
 have h59':((c.toNat:Int) == 59)=true:=by rw [h59];rfl
 rw [jo];simp only [acm,I,ae8,aa,reduceIte,reduceCtorEq,Nat.reduceEqDiff,Nat.reduceLT,Nat.reduceLeDiff,Nat.reduceBEq,Nat.reduceAdd,Nat.reduceMul,hh,hrc,hlt',hx,hidx,abe,hbl,h59',hfar,hstep]
end
theorem ah.tr {m:Nat} {D:List Nat} {A B:Heap} (h:ah m D A B) (fr:List V):ah m D A (Go.AM.trim m fr B):=ah.trim h (ag _) fr
theorem azi:∀ (l:List UInt8) (acc:Nat),(∀ x∈l,Tok.digit x=true)→Lib.decFrom acc l=some (l.foldl (fun n c=>n * 10+(c.toNat - 48)) acc)
 | [],acc,_=>rfl
 | c :: l,acc,h=>by
   have hc:=h c d9;unfold Tok.digit at hc;simp only [ak,jv] at hc;simp only [Lib.decFrom,Lib.digitVal,ed hc,ak5];exact azi l _ fun x hx=>h x (dh _ hx)
theorem a4h (l:List UInt8) (h0:l≠[]) (h:∀ x∈l,Tok.digit x=true):Lib.atoi l=some (Tok.val l:Int):=by
 cases l with
 | nil=>exact absurd rfl h0
 | cons c l=>
   have hc:=h c d9
   have e1:(c == 45)=false:=by rw [gp];rintro rfl;revert hc;decide
   have e2:(c == 43)=false:=by rw [gp];rintro rfl;revert hc;decide
   simp only [Lib.atoi,e1,e2,j6,mr,Lib.decNat,List.isEmpty_cons];rw [azi _ _ h];rfl
section
variable {CT:Nat→Option CFun}
theorem a2d (T:TL CT) {base m:Nat} {b:ByteArray} (hb:b.size≤2 ^ 40) {d o h i:Nat} (hbo:base≤o) (hbi:base≤i) (hbm:base≤m) {H:Heap} {ln cl at':Nat} {R:List (List V)} (st:LexSt m H o h i b ln cl at' R) (hl:ln≤at'+1) (hc:cl≤at'+1) (hR:R.length≤at'+1) {c:UInt8} (hx:b.data.toList[at']?=some c) (hbl:Tok.blank c=false) (h59:c≠59) (hlt1:Tok.letter c=true):
 ∃ H',itW (evC (dw CT) itW base sw) [] m (fe 106 (acm b d h o)) H=itW (evC (dw CT) itW base sw) [] m (fe 106 (acm b d h o)) H'∧LexSt m H' o h i b ln (cl+(Tok.far Tok.within (b.data.toList.drop (at'+1))+1)) (at'+(Tok.far Tok.within (b.data.toList.drop (at'+1))+1)) (R ++ [tV ⟨1,c :: (b.data.toList.drop (at'+1)).take (Tok.far Tok.within (b.data.toList.drop (at'+1))),0,ln,cl⟩])∧ah m [o,i] H H':=by
 have hrd:=st.rd;have hh:=st.hold;have hrc:getC H i 0=some [I ln,I cl,.s (.string b),I at']:=hrd;have hlt:at' < b.size:=(List.getElem?_eq_some_iff.1 hx).1
 have hlt':((at':Int) < (b.size:Int)):=by omega
 have hdr:b.data.toList.drop at'=c :: b.data.toList.drop (at'+1):=by
  rw [di hlt,(List.getElem?_eq_some_iff.1 hx).2]
 have hidx:∀ (s:ByteArray) (base:Nat) (H:Heap),dw CT (.fn ao4 [] []) [.s (.string s),.s (.int .u8 c.toNat)] base H=some (.s (.int .i64 (Lib.indexByte s.data.toList c)),H):=fun s base H=>by
  refine aae ?_;simp only [vk,T.idx];show some (V.s (.int .i64 (Lib.indexByte s.data.toList (c.toNat:Int).toNat.toUInt8)),H)=_
  rw [mq,show c.toNat.toUInt8=c by simp]
 have hlet:=fun base H=>uz T.letter c base H;have hdig:=fun base H=>uu T.digit c base H;have hmL:=st.len
 have hfar:=fun base=>ag5 T.far base (fun c base H=>agc T.within (uz T.letter) (uu T.digit) c base H) ⟨_,rfl⟩ hb hrd (by omega)
 have hfl:=Tok.far_le Tok.within (b.data.toList.drop (at'+1));rw [iy,show b.data.toList.length=b.size from rfl] at hfl
 have hw:Tok.within c=true:=by unfold Tok.within;rw [hlt1];rfl
 simp only [hdr,Tok.far,ed hw] at hfar
 obtain ⟨id,g,H1,e1,s1,o1,m1,c1,k1⟩:=amc T.put T.step st hb hbo hbi hbm (n:=Tok.far Tok.within (b.data.toList.drop (at'+1))+1) (by omega) hl hc hR 1
 rw [hdr,bn,Tok.spotL_flat _ _ (Tok.len_ne Tok.within (by decide) _ (Tok.not_ten (.inl hlt1))),cu,Tok.far_len] at s1
 rw [I,show ((1:Nat):Int)=1 from rfl] at e1;refine ⟨_,?_,s1.trim (fe 106 (acm b d h o)),ah.tr k1 (fe 106 (acm b d h o))⟩
 have h59':((c.toNat:Int) == 59)=false:=by rw [gp];intro e;exact h59 ((abb c 59).2 e)
 rw [jo];simp only [acm,I,ae8,aa,reduceIte,reduceCtorEq,Nat.reduceEqDiff,Nat.reduceLT,Nat.reduceLeDiff,Nat.reduceBEq,Nat.reduceAdd,Nat.reduceMul,hh,hrc,hlt',hx,hidx,abe,hbl,h59',hlet,hlt1,hfar,e1]
theorem a2c (T:TL CT) {base m:Nat} {b:ByteArray} (hb:b.size≤2 ^ 40) {d o h i:Nat} (hbo:base≤o) (hbi:base≤i) (hbm:base≤m) {H:Heap} {ln cl at':Nat} {R:List (List V)} (st:LexSt m H o h i b ln cl at' R) (hl:ln≤at'+1) (hc:cl≤at'+1) (hR:R.length≤at'+1) {c:UInt8} (hx:b.data.toList[at']?=some c) (hbl:Tok.blank c=false) (h59:c≠59) (hlt1:Tok.letter c=false) (hdg:Tok.digit c=false) (hsg:Tok.sign c=true):
 ∃ H',itW (evC (dw CT) itW base sw) [] m (fe 106 (acm b d h o)) H=itW (evC (dw CT) itW base sw) [] m (fe 106 (acm b d h o)) H'∧LexSt m H' o h i b ln (cl+1) (at'+1) (R ++ [tV ⟨3,[c],0,ln,cl⟩])∧ah m [o,i] H H':=by
 have hrd:=st.rd;have hh:=st.hold;have hrc:getC H i 0=some [I ln,I cl,.s (.string b),I at']:=hrd;have hlt:at' < b.size:=(List.getElem?_eq_some_iff.1 hx).1
 have hlt':((at':Int) < (b.size:Int)):=by omega
 have hdr:b.data.toList.drop at'=c :: b.data.toList.drop (at'+1):=by
  rw [di hlt,(List.getElem?_eq_some_iff.1 hx).2]
 have hidx:∀ (s:ByteArray) (base:Nat) (H:Heap),dw CT (.fn ao4 [] []) [.s (.string s),.s (.int .u8 c.toNat)] base H=some (.s (.int .i64 (Lib.indexByte s.data.toList c)),H):=fun s base H=>by
  refine aae ?_;simp only [vk,T.idx];show some (V.s (.int .i64 (Lib.indexByte s.data.toList (c.toNat:Int).toNat.toUInt8)),H)=_
  rw [mq,show c.toNat.toUInt8=c by simp]
 have hlet:=fun base H=>uz T.letter c base H;have hdig:=fun base H=>uu T.digit c base H;have hmL:=st.len
 obtain ⟨id,g,H1,e1,s1,o1,m1,c1,k1⟩:=amc T.put T.step st hb hbo hbi hbm (n:=1) (by omega) hl hc hR 3
 rw [hdr,bn,dx,Tok.spotL_flat _ _ (by simpa using Tok.not_ten (.inr (.inr hsg)))] at s1
 rw [I,show ((1:Nat):Int)=1 from rfl,show ((3:Nat):Int)=3 from rfl] at e1;refine ⟨_,?_,s1.trim (fe 106 (acm b d h o)),ah.tr k1 (fe 106 (acm b d h o))⟩
 have h59':((c.toNat:Int) == 59)=false:=by rw [gp];intro e;exact h59 ((abb c 59).2 e)
 rw [jo];simp only [acm,I,ae8,aa,reduceIte,reduceCtorEq,Nat.reduceEqDiff,Nat.reduceLT,Nat.reduceLeDiff,Nat.reduceBEq,Nat.reduceAdd,Nat.reduceMul,hh,hrc,hlt',hx,hidx,abe,ahg,hbl,h59',hlet,hlt1,hdig,hdg,hsg,e1]
theorem azw {m d:Nat} {H:Heap} {x y:V} (hm:m≤H.length) (hd:getC H d 0=some [x,y]) (hdm:d < m) (fr:List V) (c:List V):getC (Go.AM.trim m fr (H.set d (.cells 0 c))) d 0=some c∧ah m [d] H (Go.AM.trim m fr (H.set d (.cells 0 c))):=
 ⟨ahv (jr hd _) hdm,ap0 (by rw [bu];exact hm),fun id h1 h2=>by rw [av0 _ _ _ h1,List.getElem?_set_ne (by simp at h2;exact qc h2)]⟩
theorem a2f (T:TL CT) {base m:Nat} {b:ByteArray} (hb:b.size≤2 ^ 40) {d o h i:Nat} (hbo:base≤o) (hbi:base≤i) (hbm:base≤m) {H:Heap} {ln cl at':Nat} {R:List (List V)} (st:LexSt m H o h i b ln cl at' R) (hl:ln≤at'+1) (hc:cl≤at'+1) (hR:R.length≤at'+1) {c:UInt8} (hx:b.data.toList[at']?=some c) (hbl:Tok.blank c=false) (h59:c≠59) (hlt1:Tok.letter c=false) (hdg:Tok.digit c=false) (hsg:Tok.sign c=false) (hd:∃ x y,getC H d 0=some [x,y]) (hbd:base≤d) (hdm:d < m):
 ∃ H',itW (evC (dw CT) itW base sw) [] m (fe 106 (acm b d h o)) H=some (.ret,fe 106 [(2,mi),(3,.ref d 0 0),(4,.s (.int .i64 30))],H')∧getC H' d 0=some [I ln,I cl]∧ah m [d] H H':=by
 have hrd:=st.rd;have hh:=st.hold;have hrc:getC H i 0=some [I ln,I cl,.s (.string b),I at']:=hrd;have hlt:at' < b.size:=(List.getElem?_eq_some_iff.1 hx).1
 have hlt':((at':Int) < (b.size:Int)):=by omega
 have hdr:b.data.toList.drop at'=c :: b.data.toList.drop (at'+1):=by
  rw [di hlt,(List.getElem?_eq_some_iff.1 hx).2]
 have hidx:∀ (s:ByteArray) (base:Nat) (H:Heap),dw CT (.fn ao4 [] []) [.s (.string s),.s (.int .u8 c.toNat)] base H=some (.s (.int .i64 (Lib.indexByte s.data.toList c)),H):=fun s base H=>by
  refine aae ?_;simp only [vk,T.idx];show some (V.s (.int .i64 (Lib.indexByte s.data.toList (c.toNat:Int).toNat.toUInt8)),H)=_
  rw [mq,show c.toNat.toUInt8=c by simp]
 have hlet:=fun base H=>uz T.letter c base H;have hdig:=fun base H=>uu T.digit c base H;have hmL:=st.len;obtain ⟨x,y,hd⟩:=hd;obtain ⟨s1,s2⟩:=azw hmL hd hdm (fe 106 [(2,mi),(3,.ref d 0 0),(4,.s (.int .i64 30))]) [I ln,I cl];refine ⟨_,?_,s1,s2⟩
 have h59':((c.toNat:Int) == 59)=false:=by rw [gp];intro e;exact h59 ((abb c 59).2 e)
 rw [jo];simp only [acm,mi,I,ae8,aa,reduceIte,reduceCtorEq,Nat.reduceEqDiff,Nat.reduceLT,Nat.reduceLeDiff,Nat.reduceBEq,Nat.reduceAdd,Nat.reduceMul,hh,hrc,hlt',hx,hidx,abe,ahg,hbl,h59',hlet,hlt1,hdig,hdg,hsg,hd,hbd]
theorem arb (T:TL CT) {base m:Nat} {b:ByteArray} (hb:b.size≤2 ^ 40) {d o h i:Nat} (hbo:base≤o) (hbi:base≤i) (hbm:base≤m) {H:Heap} {ln cl at':Nat} {R:List (List V)} (st:LexSt m H o h i b ln cl at' R) (hl:ln≤at'+1) (hc:cl≤at'+1) (hR:R.length≤at'+1) {c:UInt8} (hx:b.data.toList[at']?=some c) (hbl:Tok.blank c=false) (h59:c≠59) (hlt1:Tok.letter c=false) (hdg:Tok.digit c=true) (hd:∃ x y,getC H d 0=some [x,y]) (hbd:base≤d) (hdm:d < m) (hco:(9 < Tok.far Tok.digit (b.data.toList.drop (at'+1))+1∨(1 < Tok.far Tok.digit (b.data.toList.drop (at'+1))+1∧c=48)∨Tok.far Tok.digit (b.data.toList.drop (at'+1)) < Tok.far Tok.within (b.data.toList.drop (at'+1)))):
 ∃ H',itW (evC (dw CT) itW base sw) [] m (fe 106 (acm b d h o)) H=some (.ret,fe 106 [(2,mi),(3,.ref d 0 0),(4,.s (.int .i64 31))],H')∧getC H' d 0=some [I ln,I cl]∧ah m [d] H H':=by
 have hrd:=st.rd;have hh:=st.hold;have hrc:getC H i 0=some [I ln,I cl,.s (.string b),I at']:=hrd;have hlt:at' < b.size:=(List.getElem?_eq_some_iff.1 hx).1
 have hlt':((at':Int) < (b.size:Int)):=by omega
 have hdr:b.data.toList.drop at'=c :: b.data.toList.drop (at'+1):=by
  rw [di hlt,(List.getElem?_eq_some_iff.1 hx).2]
 have hidx:∀ (s:ByteArray) (base:Nat) (H:Heap),dw CT (.fn ao4 [] []) [.s (.string s),.s (.int .u8 c.toNat)] base H=some (.s (.int .i64 (Lib.indexByte s.data.toList c)),H):=fun s base H=>by
  refine aae ?_;simp only [vk,T.idx];show some (V.s (.int .i64 (Lib.indexByte s.data.toList (c.toNat:Int).toNat.toUInt8)),H)=_
  rw [mq,show c.toNat.toUInt8=c by simp]
 have hlet:=fun base H=>uz T.letter c base H;have hdig:=fun base H=>uu T.digit c base H;have hmL:=st.len
 have hfd:=fun base=>ag5 T.far base (fun c base H=>uu T.digit c base H) ⟨_,rfl⟩ hb hrd (by omega)
 have hfw:=fun base=>ag5 T.far base (fun c base H=>agc T.within (uz T.letter) (uu T.digit) c base H) ⟨_,rfl⟩ hb hrd (by omega)
 have hfl:=Tok.far_le Tok.digit (b.data.toList.drop (at'+1));rw [iy,show b.data.toList.length=b.size from rfl] at hfl
 have hw:Tok.within c=true:=by unfold Tok.within;rw [hdg,hlt1];rfl
 simp only [hdr,Tok.far,ed hw] at hfw;simp only [hdr,Tok.far,ed hdg] at hfd
 have h59':((c.toNat:Int) == 59)=false:=by rw [gp];intro e;exact h59 ((abb c 59).2 e)
 have h48:((c.toNat:Int) == 48)=decide (c=48):=by rw [ma,jy,jk,abb];rfl
 have q1:decide ((((Tok.far Tok.digit (b.data.toList.drop (at'+1))+1:Nat):Int)) > 9)=decide (9 < Tok.far Tok.digit (b.data.toList.drop (at'+1))+1):=by rw [ma,jk,jk];omega
 have q2:decide ((((Tok.far Tok.digit (b.data.toList.drop (at'+1))+1:Nat):Int)) > 1)=decide (1 < Tok.far Tok.digit (b.data.toList.drop (at'+1))+1):=by rw [ma,jk,jk];omega
 have q3:decide ((((Tok.far Tok.within (b.data.toList.drop (at'+1))+1:Nat):Int)) > ((Tok.far Tok.digit (b.data.toList.drop (at'+1))+1:Nat):Int))=decide (Tok.far Tok.digit (b.data.toList.drop (at'+1)) < Tok.far Tok.within (b.data.toList.drop (at'+1))):=by rw [ma,jk,jk];omega
 obtain ⟨x,y,hd⟩:=hd;obtain ⟨s1,s2⟩:=azw hmL hd hdm (fe 106 [(2,mi),(3,.ref d 0 0),(4,.s (.int .i64 31))]) [I ln,I cl];refine ⟨_,?_,s1,s2⟩;rw [jo];by_cases a1:9 < Tok.far Tok.digit (b.data.toList.drop (at'+1))+1
 ·simp only [acm,mi,I,ae8,aa,reduceIte,reduceCtorEq,Nat.reduceEqDiff,Nat.reduceLT,Nat.reduceLeDiff,Nat.reduceBEq,Nat.reduceAdd,Nat.reduceMul,hh,hrc,hlt',hx,hidx,abe,ahg,hbl,h59',hlet,hlt1,hdig,hdg,hfd,hfw,h48,q1,q2,q3,a1,aav,hd,hbd]
 ·by_cases a2:1 < Tok.far Tok.digit (b.data.toList.drop (at'+1))+1
  ·by_cases a3:c=48
   ·have a5:=af9 a3;simp only [acm,mi,I,ae8,aa,reduceIte,reduceCtorEq,Nat.reduceEqDiff,Nat.reduceLT,Nat.reduceLeDiff,Nat.reduceBEq,Nat.reduceAdd,Nat.reduceMul,hh,hrc,hlt',hx,hidx,abe,ahg,hbl,h59',hlet,hlt1,hdig,hdg,hfd,hfw,h48,q1,q2,q3,a1,a2,a5,aav,aa8,hd,hbd]
   ·have a4:Tok.far Tok.digit (b.data.toList.drop (at'+1)) < Tok.far Tok.within (b.data.toList.drop (at'+1)):=by
     rcases hco with h | ⟨_,h⟩ | h
     ·exact absurd h a1
     ·exact absurd h a3
     ·exact h
    have a5:=abp a3;simp only [acm,mi,I,ae8,aa,reduceIte,reduceCtorEq,Nat.reduceEqDiff,Nat.reduceLT,Nat.reduceLeDiff,Nat.reduceBEq,Nat.reduceAdd,Nat.reduceMul,hh,hrc,hlt',hx,hidx,abe,ahg,hbl,h59',hlet,hlt1,hdig,hdg,hfd,hfw,h48,q1,q2,q3,a1,a2,a5,a4,aav,aa8,hd,hbd]
  ·have a4:Tok.far Tok.digit (b.data.toList.drop (at'+1)) < Tok.far Tok.within (b.data.toList.drop (at'+1)):=by
    rcases hco with h | ⟨h,_⟩ | h
    ·exact absurd h a1
    ·exact absurd h a2
    ·exact h
   simp only [acm,mi,I,ae8,aa,reduceIte,reduceCtorEq,Nat.reduceEqDiff,Nat.reduceLT,Nat.reduceLeDiff,Nat.reduceBEq,Nat.reduceAdd,Nat.reduceMul,hh,hrc,hlt',hx,hidx,abe,ahg,hbl,h59',hlet,hlt1,hdig,hdg,hfd,hfw,h48,q1,q2,q3,a1,a2,a4,aav,aa8,hd,hbd]
theorem a7m (T:TL CT) {base m:Nat} {b:ByteArray} (hb:b.size≤2 ^ 40) {d o h i:Nat} (hbo:base≤o) (hbi:base≤i) (hbm:base≤m) {H:Heap} {ln cl at':Nat} {R:List (List V)} (st:LexSt m H o h i b ln cl at' R) (hl:ln≤at'+1) (hc:cl≤at'+1) (hR:R.length≤at'+1) {c:UInt8} (hx:b.data.toList[at']?=some c) (hbl:Tok.blank c=false) (h59:c≠59) (hlt1:Tok.letter c=false) (hdg:Tok.digit c=true) (hco:¬ (9 < Tok.far Tok.digit (b.data.toList.drop (at'+1))+1∨(1 < Tok.far Tok.digit (b.data.toList.drop (at'+1))+1∧c=48)∨Tok.far Tok.digit (b.data.toList.drop (at'+1)) < Tok.far Tok.within (b.data.toList.drop (at'+1)))):
 ∃ H',itW (evC (dw CT) itW base sw) [] m (fe 106 (acm b d h o)) H=itW (evC (dw CT) itW base sw) [] m (fe 106 (acm b d h o)) H'∧LexSt m H' o h i b ln (cl+(Tok.far Tok.digit (b.data.toList.drop (at'+1))+1)) (at'+(Tok.far Tok.digit (b.data.toList.drop (at'+1))+1)) (R ++ [tV ⟨2,c :: (b.data.toList.drop (at'+1)).take (Tok.far Tok.digit (b.data.toList.drop (at'+1))),Tok.val (c :: (b.data.toList.drop (at'+1)).take (Tok.far Tok.digit (b.data.toList.drop (at'+1)))),ln,cl⟩])∧ah m [o,i] H H':=by
 have hrd:=st.rd;have hh:=st.hold;have hrc:getC H i 0=some [I ln,I cl,.s (.string b),I at']:=hrd;have hlt:at' < b.size:=(List.getElem?_eq_some_iff.1 hx).1
 have hlt':((at':Int) < (b.size:Int)):=by omega
 have hdr:b.data.toList.drop at'=c :: b.data.toList.drop (at'+1):=by
  rw [di hlt,(List.getElem?_eq_some_iff.1 hx).2]
 have hidx:∀ (s:ByteArray) (base:Nat) (H:Heap),dw CT (.fn ao4 [] []) [.s (.string s),.s (.int .u8 c.toNat)] base H=some (.s (.int .i64 (Lib.indexByte s.data.toList c)),H):=fun s base H=>by
  refine aae ?_;simp only [vk,T.idx];show some (V.s (.int .i64 (Lib.indexByte s.data.toList (c.toNat:Int).toNat.toUInt8)),H)=_
  rw [mq,show c.toNat.toUInt8=c by simp]
 have hlet:=fun base H=>uz T.letter c base H;have hdig:=fun base H=>uu T.digit c base H;have hmL:=st.len
 have hfd:=fun base=>ag5 T.far base (fun c base H=>uu T.digit c base H) ⟨_,rfl⟩ hb hrd (by omega)
 have hfw:=fun base=>ag5 T.far base (fun c base H=>agc T.within (uz T.letter) (uu T.digit) c base H) ⟨_,rfl⟩ hb hrd (by omega)
 have hfl:=Tok.far_le Tok.digit (b.data.toList.drop (at'+1));rw [iy,show b.data.toList.length=b.size from rfl] at hfl
 have hw:Tok.within c=true:=by unfold Tok.within;rw [hdg,hlt1];rfl
 simp only [hdr,Tok.far,ed hw] at hfw;simp only [hdr,Tok.far,ed hdg] at hfd
 have h59':((c.toNat:Int) == 59)=false:=by rw [gp];intro e;exact h59 ((abb c 59).2 e)
 have h48:((c.toNat:Int) == 48)=decide (c=48):=by rw [ma,jy,jk,abb];rfl
 have q1:decide ((((Tok.far Tok.digit (b.data.toList.drop (at'+1))+1:Nat):Int)) > 9)=decide (9 < Tok.far Tok.digit (b.data.toList.drop (at'+1))+1):=by rw [ma,jk,jk];omega
 have q2:decide ((((Tok.far Tok.digit (b.data.toList.drop (at'+1))+1:Nat):Int)) > 1)=decide (1 < Tok.far Tok.digit (b.data.toList.drop (at'+1))+1):=by rw [ma,jk,jk];omega
 have q3:decide ((((Tok.far Tok.within (b.data.toList.drop (at'+1))+1:Nat):Int)) > ((Tok.far Tok.digit (b.data.toList.drop (at'+1))+1:Nat):Int))=decide (Tok.far Tok.digit (b.data.toList.drop (at'+1)) < Tok.far Tok.within (b.data.toList.drop (at'+1))):=by rw [ma,jk,jk];omega
 obtain ⟨id,g,H1,e1,s1,o1,m1,c1,k1⟩:=amc T.put T.step st hb hbo hbi hbm (n:=Tok.far Tok.digit (b.data.toList.drop (at'+1))+1) (by omega) hl hc hR 2
 rw [hdr,bn,Tok.spotL_flat _ _ (Tok.len_ne Tok.digit (by decide) _ (Tok.not_ten (.inr (.inl hdg)))),cu,Tok.far_len] at s1
 rw [hdr,bn] at c1;rw [I,show ((2:Nat):Int)=2 from rfl] at e1;have a1:¬ 9 < Tok.far Tok.digit (b.data.toList.drop (at'+1))+1:=fun h=>hco (.inl h);have a4:¬ Tok.far Tok.digit (b.data.toList.drop (at'+1)) < Tok.far Tok.within (b.data.toList.drop (at'+1)):=fun h=>hco (.inr (.inr h));have a3:decide (1 < Tok.far Tok.digit (b.data.toList.drop (at'+1))+1)=true→decide (c=48)=false:=fun h=>abp fun e=>hco (.inr (.inl ⟨acd h,e⟩));obtain ⟨txt,htxt⟩:∃ txt,(c :: (b.data.toList.drop (at'+1)).take (Tok.far Tok.digit (b.data.toList.drop (at'+1))))=txt:=⟨_,rfl⟩;rw [htxt] at c1 s1 ⊢
 have hix:∀ (s:ByteArray),(c :: s.data.toList)=s.data.toList→False:=fun s e=>by have:=lq List.length e;simp at this
 have hat:∀ base H,dw CT (.fn bbx [] []) [.s (.string ⟨txt.toArray⟩)] base H=some (.tup [I (Tok.val txt),.s .nilIface],H):=by
  intro base H;refine aae ?_;simp only [vk,T.atoi];show apm [.s (.string ⟨txt.toArray⟩)] base H=_
  have h9:txt.length≤9:=by rw [← htxt,cu,Tok.far_len];omega
  have hsz:(ByteArray.mk txt.toArray).size≤18:=by show txt.toArray.size≤18;rw [nz];omega
  simp only [apm,hsz,jc]
  rw [a4h txt (by rw [← htxt];simp) (by rw [← htxt];exact fun x hx=>(nk.1 hx).elim (fun e=>e ▸ hdg) (fun hx=>Tok.far_take _ _ _ hx))]
  rfl
 have hRw:∀ r∈R,r.length=5:=by obtain ⟨v,_,hv,_⟩:=st.out;exact hv
 have hfl5:=ad2 R hRw
 have hdrop:List.drop (R.length * 5+1) (R ++ [tV ⟨2,txt,0,ln,cl⟩]).flatten=[.s (.string ⟨txt.toArray⟩),I ((0:Nat):Int),I ln,I cl]:=by
  rw [qx,ac4,og (by omega),hfl5]
  rw [show R.length * 5+1 - R.length * 5=1 by omega]
  rfl
 have hbid:base≤id:=by omega
 have hlen5:(R ++ [tV ⟨2,txt,0,ln,cl⟩]).flatten.length=R.length * 5+5:=by
  rw [qx,dm,hfl5];rfl
 have hle3:R.length * 5+3≤(R ++ [tV ⟨2,txt,0,ln,cl⟩]).flatten.length:=by omega
 have hcell:List.take (R.length * 5+2) (R ++ [tV ⟨2,txt,0,ln,cl⟩]).flatten ++ [V.s (Value.int IntKind.i64 (Tok.val txt:Nat))] ++ List.drop (R.length * 5+3) (R ++ [tV ⟨2,txt,0,ln,cl⟩]).flatten=(R ++ [tV ⟨2,txt,Tok.val txt,ln,cl⟩]).flatten:=by
  rw [qx,qx,List.take_append,ac4,ab8 (by omega),og (by omega),hfl5,show R.length * 5+2 - R.length * 5=2 by omega,show R.length * 5+3 - R.length * 5=3 by omega,ja,ja]
  rfl
 obtain ⟨H2,hH2⟩:∃ H2,H1.set id (.cells g (R ++ [tV ⟨2,txt,Tok.val txt,ln,cl⟩]).flatten)=H2:=⟨_,rfl⟩
 have k2:∀ x,x < m→H2[x]?=H1[x]?:=fun x hx=>by rw [← hH2,List.getElem?_set_ne (by omega)]
 have cc:∀ {x:Nat} {c:List V},x < m→getC H1 x 0=some c→getC H2 x 0=some c:=fun {x c} hx hg=>by unfold getC at hg ⊢;rw [k2 x hx];exact hg
 have s2:LexSt m H2 o h i b ln (cl+(Tok.far Tok.digit (b.data.toList.drop (at'+1))+1)) (at'+(Tok.far Tok.digit (b.data.toList.drop (at'+1))+1)) (R ++ [tV ⟨2,txt,Tok.val txt,ln,cl⟩]):=by
  refine ⟨cc s1.lt.1 s1.hold,cc s1.lt.2.1 s1.rd,⟨_,cc s1.lt.2.2 o1,?_,.inr ⟨id,g,by simp,?_,m1⟩⟩,by rw [← hH2,bu];exact s1.len,s1.lt,s1.ne⟩
  ·intro r hr
   rcases jw.1 hr with hr | hr
   ·exact hRw r hr
   ·rw [bi] at hr;subst hr;rfl
  ·rw [← hH2];exact jr c1 _
 have k3:ah m [o,i] H H2:=⟨by rw [← hH2,bu];exact s1.len,fun x hx hn=>by rw [k2 x hx,k1.2 x hx hn]⟩
 refine ⟨_,?_,s2.trim (fe 106 (acm b d h o)),ah.tr k3 (fe 106 (acm b d h o))⟩;rw [jo];cases a2:decide (1 < Tok.far Tok.digit (b.data.toList.drop (at'+1))+1) with
 | true=>
   have a5:=a3 a2;simp only [acm,mi,I,ae8,aa,reduceIte,reduceCtorEq,Nat.reduceEqDiff,Nat.reduceLT,Nat.reduceLeDiff,Nat.reduceBEq,Nat.reduceAdd,Nat.reduceMul,hh,hrc,hlt',hx,hidx,abe,ahg,hbl,h59',hlet,hlt1,hdig,hdg,hfd,hfw,h48,q1,q2,q3,a1,a2,a5,a4,aav,aa8,e1,c1,hdrop,hat,hbid,hle3,hcell,hH2]
 | false=>
   simp only [acm,mi,I,ae8,aa,reduceIte,reduceCtorEq,Nat.reduceEqDiff,Nat.reduceLT,Nat.reduceLeDiff,Nat.reduceBEq,Nat.reduceAdd,Nat.reduceMul,hh,hrc,hlt',hx,hidx,abe,ahg,hbl,h59',hlet,hlt1,hdig,hdg,hfd,hfw,h48,q1,q2,q3,a1,a2,a4,aav,aa8,e1,c1,hdrop,hat,hbid,hle3,hcell,hH2]
end
def ab9 (m d h o i:Nat) (b:ByteArray) (R:List (List V)) (H:Heap) (out:Tok.Out) (X:Option St):Prop:=
 (∃ ts ln cl H',out=.done (ts ++ [⟨4,[],0,ln,cl⟩])∧X=some (.ext 0,fe 106 (acm b d h o ++ [(26,bl false)]),H')∧LexSt m H' o h i b ln cl b.size (R ++ ts.map tV)∧ah m [o,i] H H'∧ln≤b.size+1∧cl≤b.size+1∧R.length+ts.length≤b.size)∨
 (∃ e a q H',out=.bad e a q∧X=some (.ret,fe 106 [(2,mi),(3,.ref d 0 0),(4,.s (.int .i64 e))],H')∧getC H' d 0=some [I a,I q]∧ah m [o,i,d] H H')
theorem ab9.keep {m d h o i:Nat} {b:ByteArray} {R:List (List V)} {H H2:Heap} {out:Tok.Out} {X:Option St} (r:ab9 m d h o i b R H2 out X) (k:ah m [o,i] H H2):ab9 m d h o i b R H out X:=by
 rcases r with ⟨ts,ln,cl,H',h1,h2,h3,h4,h5⟩ | ⟨e,a,q,H',h1,h2,h3,h4⟩
 ·exact .inl ⟨ts,ln,cl,H',h1,h2,h3,k.trans h4 (ag _),h5⟩
 ·exact .inr ⟨e,a,q,H',h1,h2,h3,(ah.mono k (ag _) (fun id _ hx=>by simp at hx ⊢;rcases hx with h | h <;> simp [h])).trans h4 (ag _)⟩
theorem ab9.cons {m d h o i:Nat} {b:ByteArray} {R:List (List V)} {H H2:Heap} {out:Tok.Out} {X:Option St} {t:Tok.T} (r:ab9 m d h o i b (R ++ [tV t]) H2 out X) (k:ah m [o,i] H H2):ab9 m d h o i b R H (.cons t out) X:=by
 rcases r.keep k with ⟨ts,ln,cl,H',rfl,h2,h3,h4,h5,h6,h7⟩ | ⟨e,a,q,H',rfl,h2,h3,h4⟩
 ·refine .inl ⟨t :: ts,ln,cl,H',rfl,h2,?_,h4,h5,h6,?_⟩
  ·rw [o9,← List.singleton_append,← ja];exact h3
  ·rw [dm,bg] at h7;rw [cu];omega
 ·exact .inr ⟨e,a,q,H',rfl,h2,h3,h4⟩
section
variable {CT:Nat→Option CFun}
theorem a2e (T:TL CT) {base m:Nat} {b:ByteArray} (hb:b.size≤2 ^ 40) {d o h i:Nat} (hbo:base≤o) (hbi:base≤i) (hbm:base≤m) (hbd:base≤d) (hdm:d < m) (hdn:d ∉ [o,i]):∀ (N:Nat) (at' ln cl:Nat) (R:List (List V)) (H:Heap),b.size - at'≤N→at'≤b.size→LexSt m H o h i b ln cl at' R→ln≤at'+1→cl≤at'+1→R.length≤at'→(∃ x y,getC H d 0=some [x,y])→
 ab9 m d h o i b R H (Tok.lex (b.data.toList.drop at') ln cl) (itW (evC (dw CT) itW base sw) [] m (fe 106 (acm b d h o)) H):=by
 have hend:∀ (at' ln cl:Nat) (R:List (List V)) (H:Heap),b.size - at'=0→at'≤b.size→LexSt m H o h i b ln cl at' R→ln≤at'+1→cl≤at'+1→R.length≤at'→
  ab9 m d h o i b R H (Tok.lex (b.data.toList.drop at') ln cl) (itW (evC (dw CT) itW base sw) [] m (fe 106 (acm b d h o)) H):=by
  intro at' ln cl R H h0 h1 st hl hc hR
  obtain rfl:at'=b.size:=by omega
  have hrd:=st.rd;have hh:=st.hold;have hrc:getC H i 0=some [I ln,I cl,.s (.string b),I b.size]:=hrd;rw [og (show b.data.toList.length≤b.size from ag _),Tok.lex_nil]
  refine .inl ⟨[],ln,cl,_,rfl,?_,by simpa using st.trim (fe 106 (acm b d h o ++ [(26,bl false)])),ah.tr (A:=H) ⟨st.len,fun _ _ _=>rfl⟩ (fe 106 (acm b d h o ++ [(26,bl false)])),hl,hc,by simpa using hR⟩
  rw [jo];simp only [acm,I,ae8,aa,reduceIte,reduceCtorEq,Nat.reduceEqDiff,Nat.reduceLT,Nat.reduceLeDiff,Nat.reduceBEq,Nat.reduceAdd,Nat.reduceMul,hh,hrc,yh]
 intro N
 induction N with
 | zero=>exact fun at' ln cl R H h0 h1 st hl hc hR _=>hend at' ln cl R H (by omega) h1 st hl hc hR
 | succ N ih=>
   intro at' ln cl R H h0 h1 st hl hc hR hd;by_cases hz:at'=b.size
   ·exact hend at' ln cl R H (by omega) h1 st hl hc hR
   have hlt:at' < b.data.toList.length:=by show at' < b.size;omega
   obtain ⟨c,hx⟩:∃ c,b.data.toList[at']?=some c:=⟨_,List.getElem?_eq_getElem hlt⟩
   have hdr:b.data.toList.drop at'=c :: b.data.toList.drop (at'+1):=by
    rw [di hlt,(List.getElem?_eq_some_iff.1 hx).2]
   have hdd:∀ k,(b.data.toList.drop (at'+1)).drop k=b.data.toList.drop (at'+(k+1)):=fun k=>by rw [za];congr 1;omega
   have hfl:∀ p,at'+(Tok.far p (b.data.toList.drop (at'+1))+1)≤b.size:=fun p=>by
    have:=Tok.far_le p (b.data.toList.drop (at'+1));rw [iy,show b.data.toList.length=b.size from rfl] at this;have:at' < b.size:=hlt;omega
   have hsz:at' < b.size:=hlt
   have kd:∀ {H2:Heap},ah m [o,i] H H2→∃ x y,getC H2 d 0=some [x,y]:=fun k=>by
    obtain ⟨x,y,hd⟩:=hd;exact ⟨x,y,k.getC hd hdm hdn⟩
   rw [hdr,Tok.lex_cons];cases hbl:Tok.blank c with
   | true=>
     obtain ⟨H2,e,s,k⟩:=aya T hb hbo hbi hbm (d:=d) st hl hc (by omega) hx hbl
     rw [ed rfl,e]
     have r:=ih _ _ _ R H2 (by omega) (by omega) s (by split <;> omega) (by split <;> omega) (by omega) (kd k)
     refine ab9.keep ?_ k;split <;> rename_i h10 <;> simp only [h10,jc,mr] at r ⊢ <;> exact r
   | false=>
     rw [gu (by simp)]
     by_cases h59:c=59
     ·obtain ⟨H2,e,s,k⟩:=arc T hb hbo hbi hbm (d:=d) st hl hc (by omega) hx hbl h59
      rw [ed h59,e,hdd]
      exact ab9.keep (ih _ _ _ R H2 (by omega) (hfl _) s (by omega) (by omega) (by omega) (kd k)) k
     ·rw [gu h59];cases hlt1:Tok.letter c with
      | true=>
        obtain ⟨H2,e,s,k⟩:=a2d T hb hbo hbi hbm (d:=d) st hl hc (by omega) hx hbl h59 hlt1
        rw [ed rfl,e,hdd]
        exact ab9.cons (ih _ _ _ _ H2 (by omega) (hfl _) s (by omega) (by omega) (by simp;omega) (kd k)) k
      | false=>
        rw [gu (by simp)]
        cases hdg:Tok.digit c with
        | true=>
          rw [ed rfl];split
          ·rename_i hco
           obtain ⟨H2,e,s,k⟩:=arb T hb hbo hbi hbm st hl hc (by omega) hx hbl h59 hlt1 hdg hd hbd hdm hco
           rw [e]
           exact .inr ⟨31,ln,cl,H2,rfl,rfl,s,ah.mono k (ag _) (fun id _ hx=>by simp at hx ⊢;simp [hx])⟩
          ·rename_i hco
           obtain ⟨H2,e,s,k⟩:=a7m T hb hbo hbi hbm (d:=d) st hl hc (by omega) hx hbl h59 hlt1 hdg hco
           rw [e,hdd]
           exact ab9.cons (ih _ _ _ _ H2 (by omega) (hfl _) s (by omega) (by omega) (by simp;omega) (kd k)) k
        | false=>
          rw [gu (by simp)]
          cases hsg:Tok.sign c with
          | true=>
            obtain ⟨H2,e,s,k⟩:=a2c T hb hbo hbi hbm (d:=d) st hl hc (by omega) hx hbl h59 hlt1 hdg hsg
            rw [ed rfl,e]
            exact ab9.cons (ih _ _ _ _ H2 (by omega) (by omega) s (by omega) (by omega) (by simp;omega) (kd k)) k
          | false=>
            obtain ⟨H2,e,s,k⟩:=a2f T hb hbo hbi hbm st hl hc (by omega) hx hbl h59 hlt1 hdg hsg hd hbd hdm
            rw [gu (by simp),e]
            exact .inr ⟨30,ln,cl,H2,rfl,rfl,s,ah.mono k (ag _) (fun id _ hx=>by simp at hx ⊢;simp [hx])⟩
end
def amk (l:List UInt8):List Tok.T × (Nat × Nat) × Nat:=if 1048576 < l.length then ([],(0,0),2) else match Tok.lex l 1 1 with
 | .done ts=>(ts,(0,0),0)
 | .bad e a q=>([],(a,q),e)
section
variable {CT:Nat→Option CFun}
theorem a7n (hT:CT arl=some (.code aeb)) (T:TL CT) (base:Nat) (H:Heap) (hbase:base≤H.length) (b:ByteArray) (r:List Tok.T × (Nat × Nat) × Nat) (hr:amk b.data.toList=r):
 ∃ v H',dw CT (.fn arl [] []) [.s (.string b)] base H=some (.tup [v,.agg [I r.2.1.1,I r.2.1.2],.s (.int .i64 r.2.2)],H')∧qm H.length 5 H' v (r.1.map tV)∧ah H.length [] H H':=by
 have hb2:base≤H.length+2:=by omega
 by_cases hsz:1048576 < b.size
 ·have hr2:r=([],(0,0),2):=by rw [← hr];exact ed hsz
  have hg:decide ((b.size:Int) > 1048576)=true:=by rw [jk];omega
  have e:dw CT (.fn arl [] []) [.s (.string b)] base H=some (.tup [mi,.agg [.s (.int .i64 0),.s (.int .i64 0)],.s (.int .i64 2)],H ++ [.cells 0 [.s (.int .i64 0),.s (.int .i64 0)]]):=by
   refine ng (c:=aeb) (k:=1) hT rfl (by decide) aew ?_
   simp only [aeb,mi,ae8,aa,reduceIte,reduceCtorEq,Nat.reduceEqDiff,Nat.reduceLT,Nat.reduceLeDiff,Nat.reduceBEq,Nat.reduceAdd,Nat.reduceMul,hg,hbase,hb2,ak8,ama,ara]
  subst hr2
  exact ⟨_,_,e,qm.start _ _ _,by simp,fun id h _=>by rw [List.getElem?_append_left h]⟩
 ·have hg:decide ((b.size:Int) > 1048576)=false:=by rw [decide_eq_false_iff_not];omega
  obtain ⟨L,hL⟩:∃ L,H.length=L:=⟨_,rfl⟩;obtain ⟨H4,hH4⟩:∃ H4,H ++ [Ob.cells 0 [V.s (Value.int IntKind.i64 0),V.s (Value.int IntKind.i64 0)]] ++ [Ob.cells 0 [V.s (Value.int IntKind.i64 1),V.s (Value.int IntKind.i64 1),V.s (Value.string b),V.s (Value.int IntKind.i64 0)]] ++ [Ob.cells 0 [V.ref (List.length H+1) 0 0]] ++ [Ob.cells 0 [V.s (Value.slice none 0 0)]]=H4:=⟨_,rfl⟩
  have k4:∀ x,x < L→H4[x]?=H[x]?:=fun x hx=>by rw [← hH4];simp only [ja];rw [List.getElem?_append_left (by omega)]
  have l4:H4.length=L+4:=by rw [← hH4];simp [hL]
  have g0:getC H4 L 0=some [I 0,I 0]:=by rw [← hH4];simp [getC,hL,I]
  have g1:getC H4 (L+1) 0=some (rC 1 1 b 0):=by rw [← hH4];simp [getC,hL,rC,I]
  have g2:getC H4 (L+2) 0=some [.ref (L+1) 0 0]:=by rw [← hH4];simp [getC,hL]
  have g3:getC H4 (L+3) 0=some [mi]:=by rw [← hH4];simp [getC,hL,mi]
  have st:LexSt (L+4) H4 (L+3) (L+2) (L+1) b 1 1 0 []:=⟨g2,g1,⟨_,g3,qm.start _ _ _⟩,by omega,by omega,by omega⟩
  have hlp:=a2e T (base:=base) (m:=L+4) (b:=b) (by omega) (d:=L) (o:=L+3) (h:=L+2) (i:=L+1) (by omega) (by omega) (by omega) (by omega) (by omega) (by simp) b.size 0 1 1 [] H4 (by omega) (by omega) st (by omega) (by omega) (by simp) ⟨_,_,g0⟩
  have hr3:r=match Tok.lex b.data.toList 1 1 with
   | .done ts=>(ts,(0,0),0)
   | .bad e a q=>([],(a,q),e):=by rw [← hr];exact gu hsz
  rw [fq] at hlp
  have hbL:base≤L:=by omega
  have hbL2:base≤L+2:=by omega
  rcases hlp with ⟨ts,ln,cl,H',h1,h2,h3,h4,h5,h6,h7⟩ | ⟨e,a,q,H',h1,h2,h3,h4⟩
  ·rw [h1] at hr3;simp only at hr3;subst hr3
   obtain ⟨id,g,H2,e1,s1,o1,m1,c1,k1⟩:=amc T.put T.step h3 (base:=base) (by omega) (by omega) (by omega) (by omega) (n:=0) (by omega) h5 h6 (by simpa using Nat.le_succ_of_le h7) 4
   rw [I,show ((4:Nat):Int)=4 from rfl,show ((0:Nat):Int)=0 from rfl] at e1
   have d2:getC H2 L 0=some [I 0,I 0]:=k1.getC (h4.getC g0 (by omega) (by simp)) (by omega) (by simp)
   obtain ⟨vv,hvv⟩:∃ vv,V.sl id g 0 (([] ++ ts.map tV).length+1) 5=vv:=⟨_,rfl⟩;rw [hvv] at o1
   have o3:∀ ob,getC (H2.set L ob) (L+3) 0=some [vv]:=fun ob=>by rw [zy _ (by omega)];exact o1
   have d3:∀ c,getC (H2.set L (.cells 0 c)) L 0=some c:=fun c=>jr d2 c
   have e:dw CT (.fn arl [] []) [.s (.string b)] base H=some (.tup [vv,.agg [.s (.int .i64 0),.s (.int .i64 0)],.s (.int .i64 0)],H2.set L (.cells 0 [.s (.int .i64 0),.s (.int .i64 0)])):=by
    refine ng (c:=aeb) (k:=1) hT rfl (by decide) aew ?_
    simp only [acm,mi] at h2;rw [hL] at hH4;simp only [aeb,mi,ae8,aa,reduceIte,reduceCtorEq,Nat.reduceEqDiff,Nat.reduceLT,Nat.reduceLeDiff,Nat.reduceBEq,Nat.reduceAdd,Nat.reduceMul,hL,hg,hbL,hbL2,ak8,ama,ara,hH4,l4,h2,e1,o1,d2,d3]
   refine ⟨_,_,e,?_,?_⟩
   ·obtain ⟨v1,_,hv1,_⟩:=s1.out
    have hts:(ts ++ [(⟨4,[],0,ln,cl⟩:Tok.T)]).map tV=[] ++ ts.map tV ++ [tV ⟨4,(b.data.toList.drop b.size).take 0,0,ln,cl⟩]:=by rw [dx];simp
    rw [hts]
    refine ⟨hv1,.inr ⟨id,g,?_,?_,by omega⟩⟩
    ·rw [← hvv];simp
    ·unfold getC at c1 ⊢
     rw [List.getElem?_set_ne (by omega)]
     exact c1
   ·refine ⟨by rw [bu];have:=k1.1;omega,fun x hx _=>?_⟩
    rw [List.getElem?_set_ne (by omega),k1.2 x (by omega) (by simp;omega),h4.2 x (by omega) (by simp;omega),k4 x (by omega)]
  ·rw [h1] at hr3;simp only at hr3;subst hr3
   have e:dw CT (.fn arl [] []) [.s (.string b)] base H=some (.tup [mi,.agg [.s (.int .i64 a),.s (.int .i64 q)],.s (.int .i64 e)],H'):=by
    refine ng (c:=aeb) (k:=1) hT rfl (by decide) aew ?_
    simp only [acm,mi] at h2;rw [hL] at hH4;simp only [aeb,mi,ae8,aa,reduceIte,reduceCtorEq,Nat.reduceEqDiff,Nat.reduceLT,Nat.reduceLeDiff,Nat.reduceBEq,Nat.reduceAdd,Nat.reduceMul,hL,hg,hbL,hbL2,ak8,ama,ara,hH4,l4,h2,h3]
   exact ⟨_,_,e,qm.start _ _ _,by have:=h4.1;omega,fun id hid _=>by rw [h4.2 id (by omega) (by simp;omega),k4 id (by omega)]⟩
end
abbrev amu:Nat:=16
def K16_0:List Nat:=[1] ++ List.range' 3 10
def R16_0:LO:=[⟨some 2,.alloc [.s (.int .u8 0),.s (.string ⟨#[]⟩),.s (.int .i64 0),.s (.int .i64 0),.s (.int .i64 0)],none⟩]
def R16_1t1:LO:=[⟨none,.store 5 (.t 2) (.t 12),none⟩]
def R16_1p0:LO:=[oM 3 0,q 4 (.nilCheck (.t 3)),oF 5 0 4,oL 6 5,oM 7 0,q 8 (.nilCheck (.t 7)),oF 9 1 8,oL 10 9,q 11 (.indexAddr 5 (.t 6) (.t 10)),q 12 (.load true 5 (.t 11))]
def R16_1:LO:=R16_1p0 ++ R16_1t1
def afn:ACFun:={ ntmps:=13,results:=[.cell 2 true 5],body:=
 (.seq (.region R16_0 [] K16_0)
 (.seq (.region R16_1 [] [0,3,4,5,6,7,8,9,10,11,12])
 .ret)) }
theorem aqp:ni (List.range' 1 (afn.ntmps - 1)) afn.body=true:=by kernel_rfl
abbrev aj6:Nat:=34
def K34_0:List Nat:=[1,2,3,4,5]
theorem aqg:zi K34_0 (qb 6 [] 1)=[]:=by kernel_rfl
def R34_0:LO:=[q 2 (.move (.c (.s (.string ⟨#[]⟩))))]
def R34_1t2:LO:=[q 5 (.field false 1 1 (.t 4)),oM 2 5]
def R34_1t1:LO:=⟨some 4,.call (.c (.fn 49 [] [])) [.t 3,.c (.s (.int .u8 1))],none⟩ :: R34_1t2
def R34_1p0:LO:=[oM 3 0]
def R34_1:LO:=R34_1p0 ++ R34_1t1
def ajy:ACFun:={ ntmps:=6,results:=[.tmp 2],body:=
 (.seq (.regionE R34_0 K34_0 [])
 (.seq (.region R34_1 [] [0,3,4,5])
 .ret)) }
abbrev ayi:Nat:=35
def K35_0:List Nat:=List.range' 1 21
theorem aqf:zi K35_0 (qb 22 [] 1)=[]:=by kernel_rfl
def R35_0:LO:=[q 2 (.move (.c (.s (.slice none 0 0))))]
def R35_1:LO:=[q 3 (.move (.c (.s (.slice none 0 0))))]
def R35_2t1:LO:=[⟨some 5,.call (.c (.fn 36 [] [])) [.t 4,.c (.s (.string ⟨#[40]⟩))],none⟩]
def R35_2p0:LO:=[oM 4 0]
def R35_2:LO:=R35_2p0 ++ R35_2t1
def R35_3t2:LO:=[q 8 (.un .not (.t 7))]
def R35_3t1:LO:=⟨some 7,.call (.c (.fn 50 [] [])) [.t 6,.c (.s (.string ⟨#[41]⟩))],none⟩ :: R35_3t2
def R35_3p0:LO:=[oM 6 0]
def R35_3:LO:=R35_3p0 ++ R35_3t1
def R35_4:LO:=[oM 9 3,q 10 (.lenS .s (.t 9)),q 11 (.bin .gtr (.t 10) (.c (.s (.int .i64 0))))]
def R35_5t1:LO:=[⟨some 13,.call (.c (.fn 36 [] [])) [.t 12,.c (.s (.string ⟨#[44]⟩))],none⟩]
def R35_5p0:LO:=[oM 12 0]
def R35_5:LO:=R35_5p0 ++ R35_5t1
def R35_6t4:LO:=[oM 3 18]
def R35_6t3:LO:=⟨some 18,.append 1 16 (.t 14) (.t 17),none⟩ :: R35_6t4
def R35_6t2:LO:=⟨some 17,.buildSl 1 1 [.s (.string ⟨#[]⟩)] [(0,.t 16)],none⟩ :: R35_6t3
def R35_6t1:LO:=⟨some 16,.call (.c (.fn 34 [] [])) [.t 15],none⟩ :: R35_6t2
def R35_6p0:LO:=[oM 14 3,oM 15 0]
def R35_6:LO:=R35_6p0 ++ R35_6t1
def agl:ACode:=
 (.seq (.seq (.region R35_3 [] [6,7])
 (.cond (.t 8)
 .skip
 (.exit 0)))
 (.block 1
 (.seq (.seq (.regionE R35_4 [8,9,10] [11])
 (.cond (.t 11)
 (.region R35_5 [] [11,12,13])
 .skip))
 (.region R35_6 [] [11,14,15,16,17,18]))))
def abl:ACode:=agl
def R35_7t1:LO:=[⟨some 20,.call (.c (.fn 36 [] [])) [.t 19,.c (.s (.string ⟨#[41]⟩))],none⟩]
def R35_7p0:LO:=[oM 19 0]
def R35_7:LO:=R35_7p0 ++ R35_7t1
def R35_8:LO:=[oM 21 3,oM 2 21]
def afm:ACFun:={ ntmps:=22,results:=[.tmp 2],body:=
 (.seq (.regionE R35_0 K35_0 [])
 (.seq (.regionE R35_1 [] [3])
 (.seq (.region R35_2 [] [4,5])
 (.seq (.block 0
 (.loop [] abl))
 (.seq (.region R35_7 [] [0,8,19,20])
 (.seq (.regionE R35_8 [3,21] [2])
 .ret)))))) }
abbrev a2k:Nat:=36
def K36_0:List Nat:=List.range' 1 6 ++ List.range' 8 9
def R36_0t2:LO:=[q 7 (.un .not (.t 6))]
def R36_0t1:LO:=⟨some 6,.call (.c (.fn 50 [] [])) [.t 4,.t 5],none⟩ :: R36_0t2
def R36_0p0:LO:=[oM 4 0,oM 5 1]
def R36_0:LO:=R36_0p0 ++ R36_0t1
def R36_1t1:LO:=[⟨some 9,.call (.c (.fn 17 [] [])) [.t 8],none⟩]
def R36_1p0:LO:=[oM 8 0]
def R36_1:LO:=R36_1p0 ++ R36_1t1
def R36_2t1:LO:=[⟨none,.store 1 (.t 16) (.t 14),none⟩]
def R36_2p0:LO:=[oM 10 0,q 11 (.nilCheck (.t 10)),oF 12 1 11,oL 13 12,q 14 (.bin .add (.t 13) (.c (.s (.int .i64 1)))),q 15 (.nilCheck (.t 10)),oF 16 1 15]
def R36_2:LO:=R36_2p0 ++ R36_2t1
def ai0:ACFun:={ ntmps:=17,results:=[],body:=
 (.seq (.seq (.region R36_0 [] K36_0)
 (.cond (.t 7)
 (.region R36_1 [] [7,8,9])
 .skip))
 (.region R36_2 [] [0,7,10,11,12,13,14,15,16])) }
theorem aiz:ni (List.range' 2 (ai0.ntmps - 2)) ai0.body=true:=by kernel_rfl
abbrev a2j:Nat:=37
def K37_0:List Nat:=List.range' 1 8 ++ [10,11]
def R37_0t5:LO:=[qg 7 (.field false 0 1 (.t 6)) 4 true,qg 8 (.bin .neq (.t 7) (.c (.s (.int .u8 4)))) 4 true,q 9 (.pick (.t 4) (.t 8) (.c (.s (.bool false))))]
def R37_0t4:LO:=⟨some 6,.call (.c (.fn 16 [] [])) [.t 5],some (4,true)⟩ :: R37_0t5
def R37_0t3:LO:=⟨some 5,.move (.t 0),some (4,true)⟩ :: R37_0t4
def R37_0p2:LO:=[oM 4 3]
def R37_0t2:LO:=R37_0p2 ++ R37_0t3
def R37_0t1:LO:=⟨some 3,.call (.c (.fn 51 [] [])) [.t 2],none⟩ :: R37_0t2
def R37_0p0:LO:=[oM 2 0]
def R37_0:LO:=R37_0p0 ++ R37_0t1
def R37_1t1:LO:=[⟨some 11,.call (.c (.fn 17 [] [])) [.t 10],none⟩]
def R37_1p0:LO:=[oM 10 0]
def R37_1:LO:=R37_1p0 ++ R37_1t1
def agk:ACFun:={ ntmps:=12,results:=[],body:=
 (.seq (.region R37_0 [] K37_0)
 (.cond (.t 9)
 (.region R37_1 [] [0,9,10,11])
 .skip)) }
theorem aev:ni (List.range' 1 (agk.ntmps - 1)) agk.body=true:=by kernel_rfl
abbrev a7t:Nat:=38
def K38_0:List Nat:=List.range' 2 38
theorem aqe:zi K38_0 (qb 40 [] 2)=[]:=by kernel_rfl
def R38_0:LO:=[q 4 (.move (.c (.s (.bool false))))]
def R38_1t2:LO:=[q 8 (.field false 0 1 (.t 7)),q 9 (.bin .neq (.t 8) (.c (.s (.int .u8 1))))]
def R38_1t1:LO:=⟨some 7,.call (.c (.fn 16 [] [])) [.t 6],none⟩ :: R38_1t2
def R38_1p0:LO:=[oM 6 0]
def R38_1:LO:=R38_1p0 ++ R38_1t1
def R38_2:LO:=[q 4 (.move (.c (.s (.bool false))))]
def R38_3t2:LO:=[⟨none,.store 5 (.t 5) (.t 20),none⟩]
def R38_3t1:LO:=⟨some 5,.alloc [.s (.int .u8 0),.s (.string ⟨#[]⟩),.s (.int .i64 0),.s (.int .i64 0),.s (.int .i64 0)],none⟩ :: R38_3t2
def R38_3p0:LO:=[oM 10 0,q 11 (.nilCheck (.t 10)),oF 12 0 11,oL 13 12,oM 14 0,q 15 (.nilCheck (.t 14)),oF 16 1 15,oL 17 16,q 18 (.bin .add (.t 17) (.c (.s (.int .i64 1)))),q 19 (.indexAddr 5 (.t 13) (.t 18)),q 20 (.load true 5 (.t 19))]
def R38_3:LO:=R38_3p0 ++ R38_3t1
def R38_4t6:LO:=[qg 36 (.field true 3 2 (.t 35)) 30 true,qg 37 (.field false 0 1 (.t 36)) 30 true,qg 38 (.bin .eql (.t 33) (.t 37)) 30 true,q 39 (.pick (.t 30) (.t 38) (.c (.s (.bool false)))),oM 4 39]
def R38_4t5:LO:=⟨some 35,.callR (.c (.fn 16 [] [])) [.t 34],some (30,true)⟩ :: R38_4t6
def R38_4t4:LO:=⟨some 34,.move (.t 0),some (30,true)⟩ :: R38_4t5
def R38_4t3:LO:=⟨some 33,.load false 1 (.t 32),some (30,true)⟩ :: R38_4t4
def R38_4t2:LO:=⟨some 32,.fieldAddr 0 (.t 31),some (30,true)⟩ :: R38_4t3
def R38_4t1:LO:=⟨some 31,.fieldAddr 3 (.t 5),some (30,true)⟩ :: R38_4t2
def R38_4p0:LO:=[oF 21 0 5,oL 22 21,q 23 (.bin .eql (.t 22) (.c (.s (.int .u8 3)))),oM 24 23,gF 25 1 5 24 true,gL 26 25 24 true,gM 27 1 24 true,qg 28 (.bin .eql (.t 26) (.t 27)) 24 true,q 29 (.pick (.t 24) (.t 28) (.c (.s (.bool false)))),oM 30 29]
def R38_4:LO:=R38_4p0 ++ R38_4t1
def ac1:ACFun:={ ntmps:=40,results:=[.tmp 4],body:=
 (.seq (.regionE R38_0 K38_0 [])
 (.seq (.seq (.region R38_1 [] [6,7,8])
 (.cond (.t 9)
 (.seq (.regionE R38_2 [0,1,9] [4])
 .ret)
 .skip))
 (.seq (.region R38_3 [] [9,10,11,12,13,14,15,16,17,18,19,20])
 (.seq (.region R38_4 [] [0,1,5,21,22,23,24,25,26,27,28,29,30,31,32,33,34,35,36,37,38,39])
 .ret)))) }
abbrev ayh:Nat:=49
def K49_0:List Nat:=[2,3] ++ List.range' 5 30
def R49_0:LO:=[⟨some 4,.alloc [.s (.int .u8 0),.s (.string ⟨#[]⟩),.s (.int .i64 0),.s (.int .i64 0),.s (.int .i64 0)],none⟩]
def R49_1t5:LO:=[qg 11 (.field false 0 1 (.t 10)) 8 false,gM 12 1 8 false,qg 13 (.bin .neq (.t 11) (.t 12)) 8 false,q 14 (.pick (.t 8) (.c (.s (.bool true))) (.t 13))]
def R49_1t4:LO:=⟨some 10,.call (.c (.fn 16 [] [])) [.t 9],some (8,false)⟩ :: R49_1t5
def R49_1t3:LO:=⟨some 9,.move (.t 0),some (8,false)⟩ :: R49_1t4
def R49_1p2:LO:=[q 7 (.un .not (.t 6)),oM 8 7]
def R49_1t2:LO:=R49_1p2 ++ R49_1t3
def R49_1t1:LO:=⟨some 6,.call (.c (.fn 51 [] [])) [.t 5],none⟩ :: R49_1t2
def R49_1p0:LO:=[oM 5 0]
def R49_1:LO:=R49_1p0 ++ R49_1t1
def R49_2t1:LO:=[⟨some 16,.call (.c (.fn 17 [] [])) [.t 15],none⟩]
def R49_2p0:LO:=[oM 15 0]
def R49_2:LO:=R49_2p0 ++ R49_2t1
def R49_3t1:LO:=[⟨none,.store 1 (.t 23) (.t 21),none⟩]
def R49_3p0:LO:=[oM 17 0,q 18 (.nilCheck (.t 17)),oF 19 1 18,oL 20 19,q 21 (.bin .add (.t 20) (.c (.s (.int .i64 1)))),q 22 (.nilCheck (.t 17)),oF 23 1 22]
def R49_3:LO:=R49_3p0 ++ R49_3t1
def R49_4t1:LO:=[⟨none,.store 5 (.t 4) (.t 34),none⟩]
def R49_4p0:LO:=[oM 24 0,q 25 (.nilCheck (.t 24)),oF 26 0 25,oL 27 26,oM 28 0,q 29 (.nilCheck (.t 28)),oF 30 1 29,oL 31 30,q 32 (.bin .sub (.t 31) (.c (.s (.int .i64 1)))),q 33 (.indexAddr 5 (.t 27) (.t 32)),q 34 (.load true 5 (.t 33))]
def R49_4:LO:=R49_4p0 ++ R49_4t1
def aiy:ACFun:={ ntmps:=35,results:=[.cell 4 true 5],body:=
 (.seq (.region R49_0 [] K49_0)
 (.seq (.seq (.region R49_1 [] [1,5,6,7,8,9,10,11,12,13])
 (.cond (.t 14)
 (.region R49_2 [] [14,15,16])
 .skip))
 (.seq (.region R49_3 [] [14,17,18,19,20,21,22,23])
 (.seq (.region R49_4 [] [0,24,25,26,27,28,29,30,31,32,33,34])
 .ret)))) }
theorem aix:ni (List.range' 2 (aiy.ntmps - 2)) aiy.body=true:=by kernel_rfl
abbrev a7s:Nat:=50
def K50_0:List Nat:=List.range' 2 18
theorem aqd:zi K50_0 (qb 20 [] 2)=[]:=by kernel_rfl
def R50_0:LO:=[q 4 (.move (.c (.s (.bool false))))]
def R50_1t8:LO:=[qg 16 (.field false 1 1 (.t 15)) 13 true,gM 17 1 13 true,qg 18 (.bin .eql (.t 16) (.t 17)) 13 true,q 19 (.pick (.t 13) (.t 18) (.c (.s (.bool false)))),oM 4 19]
def R50_1t7:LO:=⟨some 15,.call (.c (.fn 16 [] [])) [.t 14],some (13,true)⟩ :: R50_1t8
def R50_1t6:LO:=⟨some 14,.move (.t 0),some (13,true)⟩ :: R50_1t7
def R50_1p5:LO:=[qg 10 (.field false 0 1 (.t 9)) 7 true,qg 11 (.bin .eql (.t 10) (.c (.s (.int .u8 3)))) 7 true,q 12 (.pick (.t 7) (.t 11) (.c (.s (.bool false)))),oM 13 12]
def R50_1t5:LO:=R50_1p5 ++ R50_1t6
def R50_1t4:LO:=⟨some 9,.call (.c (.fn 16 [] [])) [.t 8],some (7,true)⟩ :: R50_1t5
def R50_1t3:LO:=⟨some 8,.move (.t 0),some (7,true)⟩ :: R50_1t4
def R50_1p2:LO:=[oM 7 6]
def R50_1t2:LO:=R50_1p2 ++ R50_1t3
def R50_1t1:LO:=⟨some 6,.call (.c (.fn 51 [] [])) [.t 5],none⟩ :: R50_1t2
def R50_1p0:LO:=[oM 5 0]
def R50_1:LO:=R50_1p0 ++ R50_1t1
def aeu:ACFun:={ ntmps:=20,results:=[.tmp 4],body:=
 (.seq (.regionE R50_0 K50_0 [])
 (.seq (.region R50_1 [] [0,1,5,6,7,8,9,10,11,12,13,14,15,16,17,18,19])
 .ret)) }
abbrev a2i:Nat:=51
def K51_0:List Nat:=List.range' 1 27
theorem aqc:zi K51_0 (qb 28 [] 1)=[]:=by kernel_rfl
def R51_0:LO:=[q 2 (.move (.c (.s (.bool false))))]
def R51_1t16:LO:=[qg 24 (.field true 3 2 (.t 23)) 8 true,qg 25 (.field false 0 1 (.t 24)) 8 true,qg 26 (.bin .eql (.t 21) (.t 25)) 8 true,q 27 (.pick (.t 8) (.t 26) (.c (.s (.bool false)))),oM 2 27]
def R51_1t15:LO:=⟨some 23,.callR (.c (.fn 16 [] [])) [.t 22],some (8,true)⟩ :: R51_1t16
def R51_1t14:LO:=⟨some 22,.move (.t 0),some (8,true)⟩ :: R51_1t15
def R51_1t13:LO:=⟨some 21,.load false 1 (.t 20),some (8,true)⟩ :: R51_1t14
def R51_1t12:LO:=⟨some 20,.fieldAddr 0 (.t 19),some (8,true)⟩ :: R51_1t13
def R51_1t11:LO:=⟨some 19,.fieldAddr 3 (.t 18),some (8,true)⟩ :: R51_1t12
def R51_1t10:LO:=⟨some 18,.indexAddr 5 (.t 12) (.t 17),some (8,true)⟩ :: R51_1t11
def R51_1t9:LO:=⟨some 17,.bin .sub (.t 16) (.c (.s (.int .i64 1))),some (8,true)⟩ :: R51_1t10
def R51_1t8:LO:=⟨some 16,.load false 1 (.t 15),some (8,true)⟩ :: R51_1t9
def R51_1t7:LO:=⟨some 15,.fieldAddr 1 (.t 14),some (8,true)⟩ :: R51_1t8
def R51_1t6:LO:=⟨some 14,.nilCheck (.t 13),some (8,true)⟩ :: R51_1t7
def R51_1t5:LO:=⟨some 13,.move (.t 0),some (8,true)⟩ :: R51_1t6
def R51_1t4:LO:=⟨some 12,.load false 1 (.t 11),some (8,true)⟩ :: R51_1t5
def R51_1t3:LO:=⟨some 11,.fieldAddr 0 (.t 10),some (8,true)⟩ :: R51_1t4
def R51_1t2:LO:=⟨some 10,.nilCheck (.t 9),some (8,true)⟩ :: R51_1t3
def R51_1t1:LO:=⟨some 9,.move (.t 0),some (8,true)⟩ :: R51_1t2
def R51_1p0:LO:=[oM 3 0,q 4 (.nilCheck (.t 3)),oF 5 1 4,oL 6 5,q 7 (.bin .gtr (.t 6) (.c (.s (.int .i64 0)))),oM 8 7]
def R51_1:LO:=R51_1p0 ++ R51_1t1
def agj:ACFun:={ ntmps:=28,results:=[.tmp 2],body:=
 (.seq (.regionE R51_0 K51_0 [])
 (.seq (.region R51_1 [] [0,3,4,5,6,7,8,9,10,11,12,13,14,15,16,17,18,19,20,21,22,23,24,25,26,27])
 .ret)) }
abbrev ark:Nat:=60
def K60_0:List Nat:=List.range' 2 12
def R60_0t1:LO:=[⟨some 6,.call (.c (.fn 69 [] [])) [.t 4,.t 5],none⟩]
def R60_0p0:LO:=[oM 4 0,oM 5 1]
def R60_0:LO:=R60_0p0 ++ R60_0t1
def R60_1t1:LO:=[⟨some 8,.call (.c (.fn 36 [] [])) [.t 7,.c (.s (.string ⟨#[44]⟩))],none⟩]
def R60_1p0:LO:=[oM 7 0]
def R60_1:LO:=R60_1p0 ++ R60_1t1
def R60_2t3:LO:=[⟨none,.store 1 (.t 13) (.t 11),none⟩]
def R60_2p2:LO:=[q 12 (.nilCheck (.t 9)),oF 13 3 12]
def R60_2t2:LO:=R60_2p2 ++ R60_2t3
def R60_2t1:LO:=⟨some 11,.call (.c (.fn 34 [] [])) [.t 10],none⟩ :: R60_2t2
def R60_2p0:LO:=[oM 9 1,oM 10 0]
def R60_2:LO:=R60_2p0 ++ R60_2t1
def ac0:ACFun:={ ntmps:=14,results:=[],body:=
 (.seq (.region R60_0 [] K60_0)
 (.seq (.region R60_1 [] [7,8])
 (.region R60_2 [] [0,1,9,10,11,12,13]))) }
theorem aci:ni (List.range' 2 (ac0.ntmps - 2)) ac0.body=true:=by kernel_rfl
abbrev amt:Nat:=61
def K61_0:List Nat:=List.range' 2 10
def R61_0t1:LO:=[⟨some 6,.call (.c (.fn 68 [] [])) [.t 4,.t 5],none⟩]
def R61_0p0:LO:=[oM 4 0,oM 5 1]
def R61_0:LO:=R61_0p0 ++ R61_0t1
def R61_1t3:LO:=[⟨none,.store 1 (.t 11) (.t 9),none⟩]
def R61_1p2:LO:=[q 10 (.nilCheck (.t 7)),oF 11 6 10]
def R61_1t2:LO:=R61_1p2 ++ R61_1t3
def R61_1t1:LO:=⟨some 9,.call (.c (.fn 35 [] [])) [.t 8],none⟩ :: R61_1t2
def R61_1p0:LO:=[oM 7 1,oM 8 0]
def R61_1:LO:=R61_1p0 ++ R61_1t1
def afl:ACFun:={ ntmps:=12,results:=[],body:=
 (.seq (.region R61_0 [] K61_0)
 (.region R61_1 [] [0,1,7,8,9,10,11])) }
theorem aet:ni (List.range' 2 (afl.ntmps - 2)) afl.body=true:=by kernel_rfl
abbrev ams:Nat:=62
def K62_0:List Nat:=List.range' 2 10
def R62_0t1:LO:=[⟨some 6,.call (.c (.fn 69 [] [])) [.t 4,.t 5],none⟩]
def R62_0p0:LO:=[oM 4 0,oM 5 1]
def R62_0:LO:=R62_0p0 ++ R62_0t1
def R62_1t3:LO:=[⟨none,.store 1 (.t 11) (.t 9),none⟩]
def R62_1p2:LO:=[q 10 (.nilCheck (.t 7)),oF 11 6 10]
def R62_1t2:LO:=R62_1p2 ++ R62_1t3
def R62_1t1:LO:=⟨some 9,.call (.c (.fn 35 [] [])) [.t 8],none⟩ :: R62_1t2
def R62_1p0:LO:=[oM 7 1,oM 8 0]
def R62_1:LO:=R62_1p0 ++ R62_1t1
def afk:ACFun:={ ntmps:=12,results:=[],body:=
 (.seq (.region R62_0 [] K62_0)
 (.region R62_1 [] [0,1,7,8,9,10,11])) }
theorem aes:ni (List.range' 2 (afk.ntmps - 2)) afk.body=true:=by kernel_rfl
abbrev arj:Nat:=63
def K63_0:List Nat:=List.range' 0 12
def R63_0t6:LO:=[⟨none,.store 1 (.t 11) (.t 9),none⟩]
def R63_0p5:LO:=[q 10 (.nilCheck (.t 4)),oF 11 7 10]
def R63_0t5:LO:=R63_0p5 ++ R63_0t6
def R63_0t4:LO:=⟨some 9,.buildSl 1 2 [.s (.string ⟨#[]⟩),.s (.string ⟨#[]⟩)] [(0,.t 6),(1,.t 8)],none⟩ :: R63_0t5
def R63_0t3:LO:=⟨some 8,.call (.c (.fn 34 [] [])) [.t 7],none⟩ :: R63_0t4
def R63_0p2:LO:=[oM 7 0]
def R63_0t2:LO:=R63_0p2 ++ R63_0t3
def R63_0t1:LO:=⟨some 6,.call (.c (.fn 34 [] [])) [.t 5],none⟩ :: R63_0t2
def R63_0p0:LO:=[oM 4 1,oM 5 0]
def R63_0:LO:=R63_0p0 ++ R63_0t1
def aer:ACFun:={ ntmps:=12,results:=[],body:=
 (.region R63_0 [] K63_0) }
theorem aeq:ni (List.range' 2 (aer.ntmps - 2)) aer.body=true:=by kernel_rfl
abbrev ari:Nat:=64
def K64_0:List Nat:=List.range' 0 10
def R64_0t4:LO:=[⟨none,.store 1 (.t 9) (.t 7),none⟩]
def R64_0p3:LO:=[q 8 (.nilCheck (.t 4)),oF 9 7 8]
def R64_0t3:LO:=R64_0p3 ++ R64_0t4
def R64_0t2:LO:=⟨some 7,.buildSl 1 1 [.s (.string ⟨#[]⟩)] [(0,.t 6)],none⟩ :: R64_0t3
def R64_0t1:LO:=⟨some 6,.call (.c (.fn 34 [] [])) [.t 5],none⟩ :: R64_0t2
def R64_0p0:LO:=[oM 4 1,oM 5 0]
def R64_0:LO:=R64_0p0 ++ R64_0t1
def aiw:ACFun:={ ntmps:=10,results:=[],body:=
 (.region R64_0 [] K64_0) }
theorem aiv:ni (List.range' 2 (aiw.ntmps - 2)) aiw.body=true:=by kernel_rfl
abbrev ayg:Nat:=65
def K65_0:List Nat:=List.range' 2 9 ++ [12,13,14]
def R65_0t5:LO:=[qg 9 (.field false 0 1 (.t 8)) 6 true,qg 10 (.bin .eql (.t 9) (.c (.s (.int .u8 1)))) 6 true,q 11 (.pick (.t 6) (.t 10) (.c (.s (.bool false))))]
def R65_0t4:LO:=⟨some 8,.call (.c (.fn 16 [] [])) [.t 7],some (6,true)⟩ :: R65_0t5
def R65_0t3:LO:=⟨some 7,.move (.t 0),some (6,true)⟩ :: R65_0t4
def R65_0p2:LO:=[oM 6 5]
def R65_0t2:LO:=R65_0p2 ++ R65_0t3
def R65_0t1:LO:=⟨some 5,.call (.c (.fn 51 [] [])) [.t 4],none⟩ :: R65_0t2
def R65_0p0:LO:=[oM 4 0]
def R65_0:LO:=R65_0p0 ++ R65_0t1
def R65_1t1:LO:=[⟨some 14,.call (.c (.fn 69 [] [])) [.t 12,.t 13],none⟩]
def R65_1p0:LO:=[oM 12 0,oM 13 1]
def R65_1:LO:=R65_1p0 ++ R65_1t1
def agi:ACFun:={ ntmps:=15,results:=[],body:=
 (.seq (.region R65_0 [] K65_0)
 (.cond (.t 11)
 (.region R65_1 [] [0,1,11,12,13,14])
 .skip)) }
theorem aep:ni (List.range' 2 (agi.ntmps - 2)) agi.body=true:=by kernel_rfl
abbrev amr:Nat:=66
def K66_0:List Nat:=List.range' 0 10
def R66_0t3:LO:=[⟨none,.store 1 (.t 9) (.t 7),none⟩]
def R66_0p2:LO:=[q 7 (.field false 2 1 (.t 6)),q 8 (.nilCheck (.t 4)),oF 9 4 8]
def R66_0t2:LO:=R66_0p2 ++ R66_0t3
def R66_0t1:LO:=⟨some 6,.call (.c (.fn 49 [] [])) [.t 5,.c (.s (.int .u8 2))],none⟩ :: R66_0t2
def R66_0p0:LO:=[oM 4 1,oM 5 0]
def R66_0:LO:=R66_0p0 ++ R66_0t1
def aiu:ACFun:={ ntmps:=10,results:=[],body:=
 (.region R66_0 [] K66_0) }
theorem ait:ni (List.range' 2 (aiu.ntmps - 2)) aiu.body=true:=by kernel_rfl
abbrev ayf:Nat:=67
def ap9:ACFun:={ ntmps:=4,results:=[],body:=
 .skip }
abbrev arh:Nat:=68
def K68_0:List Nat:=List.range' 0 9
def R68_0t3:LO:=[⟨none,.store 1 (.t 8) (.t 6),none⟩]
def R68_0p2:LO:=[q 7 (.nilCheck (.t 4)),oF 8 5 7]
def R68_0t2:LO:=R68_0p2 ++ R68_0t3
def R68_0t1:LO:=⟨some 6,.call (.c (.fn 34 [] [])) [.t 5],none⟩ :: R68_0t2
def R68_0p0:LO:=[oM 4 1,oM 5 0]
def R68_0:LO:=R68_0p0 ++ R68_0t1
def ais:ACFun:={ ntmps:=9,results:=[],body:=
 (.region R68_0 [] K68_0) }
theorem air:ni (List.range' 2 (ais.ntmps - 2)) ais.body=true:=by kernel_rfl
abbrev amq:Nat:=69
def K69_0:List Nat:=List.range' 0 9
def R69_0t3:LO:=[⟨none,.store 1 (.t 8) (.t 6),none⟩]
def R69_0p2:LO:=[q 7 (.nilCheck (.t 4)),oF 8 2 7]
def R69_0t2:LO:=R69_0p2 ++ R69_0t3
def R69_0t1:LO:=⟨some 6,.call (.c (.fn 34 [] [])) [.t 5],none⟩ :: R69_0t2
def R69_0p0:LO:=[oM 4 1,oM 5 0]
def R69_0:LO:=R69_0p0 ++ R69_0t1
def aiq:ACFun:={ ntmps:=9,results:=[],body:=
 (.region R69_0 [] K69_0) }
theorem aip:ni (List.range' 2 (aiq.ntmps - 2)) aiq.body=true:=by kernel_rfl
abbrev arf:Nat:=70
def K70_0:List Nat:=List.range' 2 8
def R70_0t1:LO:=[⟨some 6,.call (.c (.fn 69 [] [])) [.t 4,.t 5],none⟩]
def R70_0p0:LO:=[oM 4 0,oM 5 1]
def R70_0:LO:=R70_0p0 ++ R70_0t1
def R70_1t1:LO:=[⟨some 9,.call (.c (.fn 66 [] [])) [.t 7,.t 8],none⟩]
def R70_1p0:LO:=[oM 7 0,oM 8 1]
def R70_1:LO:=R70_1p0 ++ R70_1t1
def afj:ACFun:={ ntmps:=10,results:=[],body:=
 (.seq (.region R70_0 [] K70_0)
 (.region R70_1 [] [0,1,7,8,9])) }
theorem aeo:ni (List.range' 2 (afj.ntmps - 2)) afj.body=true:=by kernel_rfl
abbrev ard:Nat:=71
def K71_0:List Nat:=List.range' 2 35
def R71_0t1:LO:=[⟨some 5,.call (.c (.fn 36 [] [])) [.t 4,.c (.s (.string ⟨#[91]⟩))],none⟩]
def R71_0p0:LO:=[oM 4 0]
def R71_0:LO:=R71_0p0 ++ R71_0t1
def R71_1:LO:=[⟨some 6,.move (.t 1),none⟩,⟨some 7,.move (.t 1),none⟩,⟨some 8,.nilCheck (.t 7),none⟩,⟨some 9,.fieldAddr 7 (.t 8),none⟩,⟨some 10,.load false 1 (.t 9),none⟩,⟨some 11,.move (.t 0),none⟩,⟨some 12,.call (.c (.fn 34 [] [])) [.t 11],none⟩,⟨some 13,.buildSl 1 1 [.s (.string ⟨#[]⟩)] [(0,.t 12)],none⟩,⟨some 14,.append 1 16 (.t 10) (.t 13),none⟩,⟨some 15,.nilCheck (.t 6),none⟩,⟨some 16,.fieldAddr 7 (.t 15),none⟩,⟨none,.store 1 (.t 16) (.t 14),none⟩]
def R71_2t1:LO:=[⟨some 18,.call (.c (.fn 36 [] [])) [.t 17,.c (.s (.string ⟨#[58]⟩))],none⟩]
def R71_2p0:LO:=[oM 17 0]
def R71_2:LO:=R71_2p0 ++ R71_2t1
def R71_3:LO:=[⟨some 19,.move (.t 1),none⟩,⟨some 20,.move (.t 1),none⟩,⟨some 21,.nilCheck (.t 20),none⟩,⟨some 22,.fieldAddr 6 (.t 21),none⟩,⟨some 23,.load false 1 (.t 22),none⟩,⟨some 24,.move (.t 0),none⟩,⟨some 25,.call (.c (.fn 34 [] [])) [.t 24],none⟩,⟨some 26,.buildSl 1 1 [.s (.string ⟨#[]⟩)] [(0,.t 25)],none⟩,⟨some 27,.append 1 16 (.t 23) (.t 26),none⟩,⟨some 28,.nilCheck (.t 19),none⟩,⟨some 29,.fieldAddr 6 (.t 28),none⟩,⟨none,.store 1 (.t 29) (.t 27),none⟩]
def R71_4t2:LO:=[q 32 (.un .not (.t 31))]
def R71_4t1:LO:=⟨some 31,.call (.c (.fn 50 [] [])) [.t 30,.c (.s (.string ⟨#[44]⟩))],none⟩ :: R71_4t2
def R71_4p0:LO:=[oM 30 0]
def R71_4:LO:=R71_4p0 ++ R71_4t1
def R71_5t1:LO:=[⟨some 34,.call (.c (.fn 36 [] [])) [.t 33,.c (.s (.string ⟨#[44]⟩))],none⟩]
def R71_5p0:LO:=[oM 33 0]
def R71_5:LO:=R71_5p0 ++ R71_5t1
def agh:ACode:=
 (.block 1
 (.seq (.region R71_1 [(4,6)] [6,7,8,9,10,11,12,13,14,15,16])
 (.seq (.region R71_2 [] [17,18])
 (.seq (.region R71_3 [(4,6)] [19,20,21,22,23,24,25,26,27,28,29])
 (.seq (.seq (.region R71_4 [] [30,31])
 (.cond (.t 32)
 (.exit 0)
 .skip))
 (.region R71_5 [] [32,33,34]))))))
def abk:ACode:=agh
def R71_6t1:LO:=[⟨some 36,.call (.c (.fn 36 [] [])) [.t 35,.c (.s (.string ⟨#[93]⟩))],none⟩]
def R71_6p0:LO:=[oM 35 0]
def R71_6:LO:=R71_6p0 ++ R71_6t1
def aen:ACFun:={ ntmps:=37,results:=[],body:=
 (.seq (.region R71_0 [] K71_0)
 (.seq (.block 0
 (.loop [] abk))
 (.region R71_6 [] [0,1,32,35,36]))) }
theorem ach:ni (List.range' 2 (aen.ntmps - 2)) aen.body=true:=by kernel_rfl
abbrev bby:Nat:=17
def a_f16:=ai (hX R16_0 K16_0) (ai (hK K16_0 0) (ai (hK K16_0 2) (ai (hU R16_1 [0,3,4,5,6,7,8,9,10,11] [12] [0,3,4,5,6,7,8,9,10,11,12] 13 [] [(12,.op (.load true 5 (.t 0)) [.op (.indexAddr 5 (.t 0) (.t 1)) [eL (eF 0 (.op (.nilCheck (.t 0)) [.t 0])),eL (eF 1 (.op (.nilCheck (.t 0)) [.t 0]))]])] [.tt 0,sb [0,0,0,0],sb [0,0,0],sb [0,0],.tt 0,sb [0,0,0,0],sb [0,1,0],sb [0,1],sb [0],sb []]) ((hX R16_1t1 [0,3,4,5,6,7,8,9,10,11,12])))))
def a9b:=ai (hT R34_0 K34_0 [] 3 [] [] [.cc (.s (.string ⟨#[]⟩))]) (ai aqg (ai (hK K34_0 0) (ai (hU R34_1 [0] [3] [0,3,4,5] 4 [] [(3,.t 0)] [.tt 0]) (ai (hP R34_1t1 [3] [0,3,4,5]) ((hV R34_1t2 [0,3,4,5] [2] 6 [] [(2,.op (.field false 1 1 (.t 0)) [.t 4])] [sb [],sb []]))))))
def ahb:=ai (hT R35_0 K35_0 [] 3 [] [] [.cc (.s (.slice none 0 0))]) (ai aqf (ai (hK K35_0 0) (ai (hT R35_1 [] [3] 4 [] [(3,.c (.s (.slice none 0 0)))] [.cc (.s (.slice none 0 0))]) (ai (hU R35_2 [] [4] [4,5] 5 [] [(4,.t 0)] [.tt 0]) (ai (hX R35_2t1 [4,5]) (ai (hU R35_3 [] [6] [6,7] 7 [] [(6,.t 0)] [.tt 0]) (ai (hP R35_3t1 [6] [6,7]) (ai (hV R35_3t2 [6,7] [8] 9 [] [(8,.op (.un .not (.t 0)) [.t 7])] [sb []]) (ai (hT R35_4 [8,9,10] [11] 12 [] [(11,.op (.bin .gtr (.t 0) (.c (.s (.int .i64 0)))) [.op (.lenS .s (.t 0)) [.t 3],.c (.s (.int .i64 0))])] [.tt 3,sb [0],sb []]) (ai (hU R35_5 [11] [12] [11,12,13] 13 [] [(12,.t 0)] [.tt 0]) (ai (hX R35_5t1 [11,12,13]) (ai (hU R35_6 [3,11] [14,15] [11,14,15,16,17,18] 16 [] [(14,.t 3),(15,.t 0)] [.tt 3,.tt 0]) (ai (hP R35_6t1 [15] [11,14,15,16,17,18]) (ai (hP R35_6t2 [16] [11,14,15,16,17,18]) (ai (hP R35_6t3 [14,17] [11,14,15,16,17,18]) (ai (hV R35_6t4 [11,14,15,16,17,18] [3] 4 [] [(3,.t 18)] [.tt 18]) (ai (hE abl agl) (ai (hU R35_7 [0,8] [19] [0,8,19,20] 20 [] [(19,.t 0)] [.tt 0]) (ai (hX R35_7t1 [0,8,19,20]) (ai (hT R35_8 [3,21] [2] 22 [] [(2,.t 3)] [.tt 3,.tt 3]) (agl.eq_1)))))))))))))))))))))
def a9a:=ai (hU R36_0 [1,2,3,6,7,8,9,10,11,12,13,14,15,16] [4,5] K36_0 6 [] [(4,.t 0),(5,.t 1)] [.tt 0,.tt 1]) (ai (hP R36_0t1 [4,5] K36_0) (ai (hV R36_0t2 K36_0 [7] 8 [] [(7,.op (.un .not (.t 0)) [.t 6])] [sb []]) (ai (hK K36_0 0) (ai (hQ K36_0 1) (ai (hQ K36_0 4) (ai (hQ K36_0 5) (ai (hQ K36_0 6) (ai (hK K36_0 7) (ai (hU R36_1 [7] [8] [7,8,9] 9 [] [(8,.t 0)] [.tt 0]) (ai (hX R36_1t1 [7,8,9]) (ai (hU R36_2 [0,7,10,11,12,13,15] [14,16] [0,7,10,11,12,13,14,15,16] 17 [] [(14,.op (.bin .add (.t 0) (.c (.s (.int .i64 1)))) [eL (eF 1 (.op (.nilCheck (.t 0)) [.t 0])),.c (.s (.int .i64 1))]),(16,eF 1 (.op (.nilCheck (.t 0)) [.t 0]))] [.tt 0,sb [0,0,0],sb [0,0],sb [0],sb [],sb [0,0,0],sb [0,0]]) ((hX R36_2t1 [0,7,10,11,12,13,14,15,16])))))))))))))
def a4m:=ai (hU R37_0 [1,3,4,5,6,7,8,9,10,11] [2] K37_0 3 [] [(2,.t 0)] [.tt 0]) (ai (hP R37_0t1 [2] K37_0) (ai (hU R37_0t2 [3] [4] K37_0 5 [] [(4,.t 3)] [.tt 3]) (ai (hP R37_0t3 [] K37_0) (ai (hP R37_0t4 [5] K37_0) (ai (hV R37_0t5 K37_0 [9] 10 [] [(9,.pick (.t 4) (.op (.bin .neq (.t 0) (.c (.s (.int .u8 4)))) [.op (.field false 0 1 (.t 0)) [.t 6],.c (.s (.int .u8 4))]) (.c (.s (.bool false))))] [.sub 0 [1,0] [4],.sub 0 [1] [4],sb []]) (ai (hK K37_0 0) (ai (hQ K37_0 2) (ai (hQ K37_0 3) (ai (hQ K37_0 4) (ai (hQ K37_0 5) (ai (hQ K37_0 6) (ai (hQ K37_0 7) (ai (hQ K37_0 8) (ai (hK K37_0 9) (ai (hU R37_1 [0,9] [10] [0,9,10,11] 11 [] [(10,.t 0)] [.tt 0]) ((hX R37_1t1 [0,9,10,11])))))))))))))))))
def a4l:=ai (hT R38_0 K38_0 [] 5 [] [] [.cc (.s (.bool false))]) (ai aqe (ai (hK K38_0 0) (ai (hK K38_0 1) (ai (hU R38_1 [] [6] [6,7,8] 7 [] [(6,.t 0)] [.tt 0]) (ai (hP R38_1t1 [6] [6,7,8]) (ai (hV R38_1t2 [6,7,8] [9] 10 [] [(9,.op (.bin .neq (.t 0) (.c (.s (.int .u8 1)))) [.op (.field false 0 1 (.t 0)) [.t 7],.c (.s (.int .u8 1))])] [sb [0],sb []]) (ai (hT R38_2 [0,1,9] [4] 5 [] [(4,.c (.s (.bool false)))] [.cc (.s (.bool false))]) (ai (hU R38_3 [9,10,11,12,13,14,15,16,17,18,19] [20] [9,10,11,12,13,14,15,16,17,18,19,20] 21 [] [(20,.op (.load true 5 (.t 0)) [.op (.indexAddr 5 (.t 0) (.t 1)) [eL (eF 0 (.op (.nilCheck (.t 0)) [.t 0])),.op (.bin .add (.t 0) (.c (.s (.int .i64 1)))) [eL (eF 1 (.op (.nilCheck (.t 0)) [.t 0])),.c (.s (.int .i64 1))]]])] [.tt 0,sb [0,0,0,0],sb [0,0,0],sb [0,0],.tt 0,sb [0,0,0,0],sb [0,1,0,0],sb [0,1,0],sb [0,1],sb [0],sb []]) (ai (hP R38_3t1 [] [9,10,11,12,13,14,15,16,17,18,19,20]) (ai (hX R38_3t2 [9,10,11,12,13,14,15,16,17,18,19,20]) (ai (hU R38_4 [1,21,22,23,24,25,26,27,28,29] [30] [0,1,5,21,22,23,24,25,26,27,28,29,30,31,32,33,34,35,36,37,38,39] 31 [] [(30,.pick (.op (.bin .eql (.t 0) (.c (.s (.int .u8 3)))) [eL (eF 0 (.t 5)),.c (.s (.int .u8 3))]) (.op (.bin .eql (.t 0) (.t 1)) [eL (eF 1 (.t 5)),.t 1]) (.c (.s (.bool false))))] [sb [0,0,0],sb [0,0],sb [0],sb [0],.sub 0 [1,0,0] [24],.sub 0 [1,0] [24],.sub 0 [1,1] [24],.sub 0 [1] [24],sb [],sb []]) (ai (hP R38_4t1 [5] [0,1,5,21,22,23,24,25,26,27,28,29,30,31,32,33,34,35,36,37,38,39]) (ai (hP R38_4t2 [31] [0,1,5,21,22,23,24,25,26,27,28,29,30,31,32,33,34,35,36,37,38,39]) (ai (hP R38_4t3 [32] [0,1,5,21,22,23,24,25,26,27,28,29,30,31,32,33,34,35,36,37,38,39]) (ai (hP R38_4t4 [0] [0,1,5,21,22,23,24,25,26,27,28,29,30,31,32,33,34,35,36,37,38,39]) (ai (hP R38_4t5 [34] [0,1,5,21,22,23,24,25,26,27,28,29,30,31,32,33,34,35,36,37,38,39]) ((hV R38_4t6 [0,1,5,21,22,23,24,25,26,27,28,29,30,31,32,33,34,35,36,37,38,39] [4] 40 [] [(4,.pick (.t 30) (.op (.bin .eql (.t 0) (.t 1)) [.t 33,.op (.field false 0 1 (.t 0)) [.op (.field true 3 2 (.t 0)) [.t 35]]]) (.c (.s (.bool false))))] [.sub 0 [1,1,0] [30],.sub 0 [1,1] [30],.sub 0 [1] [30],sb [],sb []]))))))))))))))))))
def azy:=ai (hX R49_0 K49_0) (ai (hK K49_0 0) (ai (hK K49_0 1) (ai (hK K49_0 4) (ai (hU R49_1 [] [5] [1,5,6,7,8,9,10,11,12,13] 6 [] [(5,.t 0)] [.tt 0]) (ai (hP R49_1t1 [5] [1,5,6,7,8,9,10,11,12,13]) (ai (hU R49_1t2 [6,7] [8] [1,5,6,7,8,9,10,11,12,13] 9 [] [(8,.op (.un .not (.t 0)) [.t 6])] [sb [],sb []]) (ai (hP R49_1t3 [] [1,5,6,7,8,9,10,11,12,13]) (ai (hP R49_1t4 [9] [1,5,6,7,8,9,10,11,12,13]) (ai (hV R49_1t5 [1,5,6,7,8,9,10,11,12,13] [14] 15 [] [(14,.pick (.t 8) (.c (.s (.bool true))) (.op (.bin .neq (.t 0) (.t 1)) [.op (.field false 0 1 (.t 0)) [.t 10],.t 1]))] [.sub 0 [2,0] [8],.sub 0 [2,1] [8],.sub 0 [2] [8],sb []]) (ai (hU R49_2 [14] [15] [14,15,16] 16 [] [(15,.t 0)] [.tt 0]) (ai (hX R49_2t1 [14,15,16]) (ai (hU R49_3 [14,17,18,19,20,22] [21,23] [14,17,18,19,20,21,22,23] 24 [] [(21,.op (.bin .add (.t 0) (.c (.s (.int .i64 1)))) [eL (eF 1 (.op (.nilCheck (.t 0)) [.t 0])),.c (.s (.int .i64 1))]),(23,eF 1 (.op (.nilCheck (.t 0)) [.t 0]))] [.tt 0,sb [0,0,0],sb [0,0],sb [0],sb [],sb [0,0,0],sb [0,0]]) (ai (hX R49_3t1 [14,17,18,19,20,21,22,23]) (ai (hU R49_4 [0,24,25,26,27,28,29,30,31,32,33] [34] [0,24,25,26,27,28,29,30,31,32,33,34] 35 [] [(34,.op (.load true 5 (.t 0)) [.op (.indexAddr 5 (.t 0) (.t 1)) [eL (eF 0 (.op (.nilCheck (.t 0)) [.t 0])),.op (.bin .sub (.t 0) (.c (.s (.int .i64 1)))) [eL (eF 1 (.op (.nilCheck (.t 0)) [.t 0])),.c (.s (.int .i64 1))]]])] [.tt 0,sb [0,0,0,0],sb [0,0,0],sb [0,0],.tt 0,sb [0,0,0,0],sb [0,1,0,0],sb [0,1,0],sb [0,1],sb [0],sb []]) ((hX R49_4t1 [0,24,25,26,27,28,29,30,31,32,33,34]))))))))))))))))
def a88:=ai (hT R50_0 K50_0 [] 5 [] [] [.cc (.s (.bool false))]) (ai aqd (ai (hK K50_0 0) (ai (hK K50_0 1) (ai (hU R50_1 [] [5] [0,1,5,6,7,8,9,10,11,12,13,14,15,16,17,18,19] 6 [] [(5,.t 0)] [.tt 0]) (ai (hP R50_1t1 [5] [0,1,5,6,7,8,9,10,11,12,13,14,15,16,17,18,19]) (ai (hU R50_1t2 [6] [7] [0,1,5,6,7,8,9,10,11,12,13,14,15,16,17,18,19] 8 [] [(7,.t 6)] [.tt 6]) (ai (hP R50_1t3 [] [0,1,5,6,7,8,9,10,11,12,13,14,15,16,17,18,19]) (ai (hP R50_1t4 [8] [0,1,5,6,7,8,9,10,11,12,13,14,15,16,17,18,19]) (ai (hU R50_1t5 [7,9,10,11,12] [13] [0,1,5,6,7,8,9,10,11,12,13,14,15,16,17,18,19] 14 [] [(13,.pick (.t 7) (.op (.bin .eql (.t 0) (.c (.s (.int .u8 3)))) [.op (.field false 0 1 (.t 0)) [.t 9],.c (.s (.int .u8 3))]) (.c (.s (.bool false))))] [.sub 0 [1,0] [7],.sub 0 [1] [7],sb [],sb []]) (ai (hP R50_1t6 [0] [0,1,5,6,7,8,9,10,11,12,13,14,15,16,17,18,19]) (ai (hP R50_1t7 [14] [0,1,5,6,7,8,9,10,11,12,13,14,15,16,17,18,19]) ((hV R50_1t8 [0,1,5,6,7,8,9,10,11,12,13,14,15,16,17,18,19] [4] 20 [] [(4,.pick (.t 13) (.op (.bin .eql (.t 0) (.t 1)) [.op (.field false 1 1 (.t 0)) [.t 15],.t 1]) (.c (.s (.bool false))))] [.sub 0 [1,0] [13],.sub 0 [1,1] [13],.sub 0 [1] [13],sb [],sb []])))))))))))))
def bcl:=ai (hT R51_0 K51_0 [] 3 [] [] [.cc (.s (.bool false))]) (ai aqc (ai (hK K51_0 0) (ai (hU R51_1 [3,4,5,6,7] [8] [0,3,4,5,6,7,8,9,10,11,12,13,14,15,16,17,18,19,20,21,22,23,24,25,26,27] 9 [] [(8,.op (.bin .gtr (.t 0) (.c (.s (.int .i64 0)))) [eL (eF 1 (.op (.nilCheck (.t 0)) [.t 0])),.c (.s (.int .i64 0))])] [.tt 0,sb [0,0,0],sb [0,0],sb [0],sb [],sb []]) (ai (hP R51_1t1 [] [0,3,4,5,6,7,8,9,10,11,12,13,14,15,16,17,18,19,20,21,22,23,24,25,26,27]) (ai (hP R51_1t2 [9] [0,3,4,5,6,7,8,9,10,11,12,13,14,15,16,17,18,19,20,21,22,23,24,25,26,27]) (ai (hP R51_1t3 [10] [0,3,4,5,6,7,8,9,10,11,12,13,14,15,16,17,18,19,20,21,22,23,24,25,26,27]) (ai (hP R51_1t4 [11] [0,3,4,5,6,7,8,9,10,11,12,13,14,15,16,17,18,19,20,21,22,23,24,25,26,27]) (ai (hP R51_1t5 [] [0,3,4,5,6,7,8,9,10,11,12,13,14,15,16,17,18,19,20,21,22,23,24,25,26,27]) (ai (hP R51_1t6 [13] [0,3,4,5,6,7,8,9,10,11,12,13,14,15,16,17,18,19,20,21,22,23,24,25,26,27]) (ai (hP R51_1t7 [14] [0,3,4,5,6,7,8,9,10,11,12,13,14,15,16,17,18,19,20,21,22,23,24,25,26,27]) (ai (hP R51_1t8 [15] [0,3,4,5,6,7,8,9,10,11,12,13,14,15,16,17,18,19,20,21,22,23,24,25,26,27]) (ai (hP R51_1t9 [16] [0,3,4,5,6,7,8,9,10,11,12,13,14,15,16,17,18,19,20,21,22,23,24,25,26,27]) (ai (hP R51_1t10 [12,17] [0,3,4,5,6,7,8,9,10,11,12,13,14,15,16,17,18,19,20,21,22,23,24,25,26,27]) (ai (hP R51_1t11 [18] [0,3,4,5,6,7,8,9,10,11,12,13,14,15,16,17,18,19,20,21,22,23,24,25,26,27]) (ai (hP R51_1t12 [19] [0,3,4,5,6,7,8,9,10,11,12,13,14,15,16,17,18,19,20,21,22,23,24,25,26,27]) (ai (hP R51_1t13 [20] [0,3,4,5,6,7,8,9,10,11,12,13,14,15,16,17,18,19,20,21,22,23,24,25,26,27]) (ai (hP R51_1t14 [0] [0,3,4,5,6,7,8,9,10,11,12,13,14,15,16,17,18,19,20,21,22,23,24,25,26,27]) (ai (hP R51_1t15 [22] [0,3,4,5,6,7,8,9,10,11,12,13,14,15,16,17,18,19,20,21,22,23,24,25,26,27]) ((hV R51_1t16 [0,3,4,5,6,7,8,9,10,11,12,13,14,15,16,17,18,19,20,21,22,23,24,25,26,27] [2] 28 [] [(2,.pick (.t 8) (.op (.bin .eql (.t 0) (.t 1)) [.t 21,.op (.field false 0 1 (.t 0)) [.op (.field true 3 2 (.t 0)) [.t 23]]]) (.c (.s (.bool false))))] [.sub 0 [1,1,0] [8],.sub 0 [1,1] [8],.sub 0 [1] [8],sb [],sb []]))))))))))))))))))))
def avo:=ai (hU R60_0 [2,3,6,7,8,9,10,11,12,13] [4,5] K60_0 6 [] [(4,.t 0),(5,.t 1)] [.tt 0,.tt 1]) (ai (hX R60_0t1 K60_0) (ai (hK K60_0 0) (ai (hK K60_0 1) (ai (hQ K60_0 4) (ai (hQ K60_0 5) (ai (hQ K60_0 6) (ai (hU R60_1 [] [7] [7,8] 8 [] [(7,.t 0)] [.tt 0]) (ai (hX R60_1t1 [7,8]) (ai (hU R60_2 [0,1] [9,10] [0,1,9,10,11,12,13] 11 [] [(9,.t 1),(10,.t 0)] [.tt 1,.tt 0]) (ai (hP R60_2t1 [10] [0,1,9,10,11,12,13]) (ai (hU R60_2t2 [9,12] [13] [0,1,9,10,11,12,13] 14 [] [(13,eF 3 (.op (.nilCheck (.t 0)) [.t 9]))] [sb [0],sb []]) ((hX R60_2t3 [0,1,9,10,11,12,13])))))))))))))
def a4k:=ai (hU R61_0 [2,3,6,7,8,9,10,11] [4,5] K61_0 6 [] [(4,.t 0),(5,.t 1)] [.tt 0,.tt 1]) (ai (hX R61_0t1 K61_0) (ai (hK K61_0 0) (ai (hK K61_0 1) (ai (hQ K61_0 4) (ai (hQ K61_0 5) (ai (hQ K61_0 6) (ai (hU R61_1 [0,1] [7,8] [0,1,7,8,9,10,11] 9 [] [(7,.t 1),(8,.t 0)] [.tt 1,.tt 0]) (ai (hP R61_1t1 [8] [0,1,7,8,9,10,11]) (ai (hU R61_1t2 [7,10] [11] [0,1,7,8,9,10,11] 12 [] [(11,eF 6 (.op (.nilCheck (.t 0)) [.t 7]))] [sb [0],sb []]) ((hX R61_1t3 [0,1,7,8,9,10,11])))))))))))
def a4j:=ai (hU R62_0 [2,3,6,7,8,9,10,11] [4,5] K62_0 6 [] [(4,.t 0),(5,.t 1)] [.tt 0,.tt 1]) (ai (hX R62_0t1 K62_0) (ai (hK K62_0 0) (ai (hK K62_0 1) (ai (hQ K62_0 4) (ai (hQ K62_0 5) (ai (hQ K62_0 6) (ai (hU R62_1 [0,1] [7,8] [0,1,7,8,9,10,11] 9 [] [(7,.t 1),(8,.t 0)] [.tt 1,.tt 0]) (ai (hP R62_1t1 [8] [0,1,7,8,9,10,11]) (ai (hU R62_1t2 [7,10] [11] [0,1,7,8,9,10,11] 12 [] [(11,eF 6 (.op (.nilCheck (.t 0)) [.t 7]))] [sb [0],sb []]) ((hX R62_1t3 [0,1,7,8,9,10,11])))))))))))
def bck:=ai (hU R63_0 [1,2,3,6,7,8,9,10,11] [4,5] K63_0 6 [] [(4,.t 1),(5,.t 0)] [.tt 1,.tt 0]) (ai (hP R63_0t1 [5] K63_0) (ai (hU R63_0t2 [0] [7] K63_0 8 [] [(7,.t 0)] [.tt 0]) (ai (hP R63_0t3 [7] K63_0) (ai (hP R63_0t4 [6,8] K63_0) (ai (hU R63_0t5 [4,10] [11] K63_0 12 [] [(11,eF 7 (.op (.nilCheck (.t 0)) [.t 4]))] [sb [0],sb []]) (ai (hX R63_0t6 K63_0) (ai (hQ K63_0 0) (ai (hQ K63_0 1) (ai (hQ K63_0 4) (ai (hQ K63_0 5) (ai (hQ K63_0 6) (ai (hQ K63_0 7) (ai (hQ K63_0 8) (ai (hQ K63_0 9) (ai (hQ K63_0 10) ((hQ K63_0 11)))))))))))))))))
def bcj:=ai (hU R64_0 [0,1,2,3,6,7,8,9] [4,5] K64_0 6 [] [(4,.t 1),(5,.t 0)] [.tt 1,.tt 0]) (ai (hP R64_0t1 [5] K64_0) (ai (hP R64_0t2 [6] K64_0) (ai (hU R64_0t3 [4,8] [9] K64_0 10 [] [(9,eF 7 (.op (.nilCheck (.t 0)) [.t 4]))] [sb [0],sb []]) (ai (hX R64_0t4 K64_0) (ai (hQ K64_0 0) (ai (hQ K64_0 1) (ai (hQ K64_0 4) (ai (hQ K64_0 5) (ai (hQ K64_0 6) (ai (hQ K64_0 7) (ai (hQ K64_0 8) ((hQ K64_0 9)))))))))))))
def a81:=ai (hU R65_0 [2,3,5,6,7,8,9,10,11,12,13,14] [4] K65_0 5 [] [(4,.t 0)] [.tt 0]) (ai (hP R65_0t1 [4] K65_0) (ai (hU R65_0t2 [5] [6] K65_0 7 [] [(6,.t 5)] [.tt 5]) (ai (hP R65_0t3 [] K65_0) (ai (hP R65_0t4 [7] K65_0) (ai (hV R65_0t5 K65_0 [11] 12 [] [(11,.pick (.t 6) (.op (.bin .eql (.t 0) (.c (.s (.int .u8 1)))) [.op (.field false 0 1 (.t 0)) [.t 8],.c (.s (.int .u8 1))]) (.c (.s (.bool false))))] [.sub 0 [1,0] [6],.sub 0 [1] [6],sb []]) (ai (hK K65_0 0) (ai (hK K65_0 1) (ai (hQ K65_0 4) (ai (hQ K65_0 5) (ai (hQ K65_0 6) (ai (hQ K65_0 7) (ai (hQ K65_0 8) (ai (hQ K65_0 9) (ai (hQ K65_0 10) (ai (hK K65_0 11) (ai (hU R65_1 [0,1,11] [12,13] [0,1,11,12,13,14] 14 [] [(12,.t 0),(13,.t 1)] [.tt 0,.tt 1]) ((hX R65_1t1 [0,1,11,12,13,14]))))))))))))))))))
def bci:=ai (hU R66_0 [0,1,2,3,6,7,8,9] [4,5] K66_0 6 [] [(4,.t 1),(5,.t 0)] [.tt 1,.tt 0]) (ai (hP R66_0t1 [5] K66_0) (ai (hU R66_0t2 [4,6,8] [7,9] K66_0 10 [] [(7,.op (.field false 2 1 (.t 0)) [.t 6]),(9,eF 4 (.op (.nilCheck (.t 0)) [.t 4]))] [sb [],.sub 1 [0] [],.sub 1 [] []]) (ai (hX R66_0t3 K66_0) (ai (hQ K66_0 0) (ai (hQ K66_0 1) (ai (hQ K66_0 4) (ai (hQ K66_0 5) (ai (hQ K66_0 6) (ai (hQ K66_0 7) (ai (hQ K66_0 8) ((hQ K66_0 9))))))))))))
def bch:=ai (hU R68_0 [0,1,2,3,6,7,8] [4,5] K68_0 6 [] [(4,.t 1),(5,.t 0)] [.tt 1,.tt 0]) (ai (hP R68_0t1 [5] K68_0) (ai (hU R68_0t2 [4,7] [8] K68_0 9 [] [(8,eF 5 (.op (.nilCheck (.t 0)) [.t 4]))] [sb [0],sb []]) (ai (hX R68_0t3 K68_0) (ai (hQ K68_0 0) (ai (hQ K68_0 1) (ai (hQ K68_0 4) (ai (hQ K68_0 5) (ai (hQ K68_0 6) (ai (hQ K68_0 7) ((hQ K68_0 8)))))))))))
def bcg:=ai (hU R69_0 [0,1,2,3,6,7,8] [4,5] K69_0 6 [] [(4,.t 1),(5,.t 0)] [.tt 1,.tt 0]) (ai (hP R69_0t1 [5] K69_0) (ai (hU R69_0t2 [4,7] [8] K69_0 9 [] [(8,eF 2 (.op (.nilCheck (.t 0)) [.t 4]))] [sb [0],sb []]) (ai (hX R69_0t3 K69_0) (ai (hQ K69_0 0) (ai (hQ K69_0 1) (ai (hQ K69_0 4) (ai (hQ K69_0 5) (ai (hQ K69_0 6) (ai (hQ K69_0 7) ((hQ K69_0 8)))))))))))
def a4i:=ai (hU R70_0 [2,3,6,7,8,9] [4,5] K70_0 6 [] [(4,.t 0),(5,.t 1)] [.tt 0,.tt 1]) (ai (hX R70_0t1 K70_0) (ai (hK K70_0 0) (ai (hK K70_0 1) (ai (hQ K70_0 4) (ai (hQ K70_0 5) (ai (hQ K70_0 6) (ai (hU R70_1 [0,1] [7,8] [0,1,7,8,9] 9 [] [(7,.t 0),(8,.t 1)] [.tt 0,.tt 1]) ((hX R70_1t1 [0,1,7,8,9])))))))))
def ae7:=ai (hU R71_0 [2,3,5,6,7,8,9,10,11,12,13,14,15,16,17,18,19,20,21,22,23,24,25,26,27,28,29,30,31,32,33,34,35,36] [4] K71_0 5 [] [(4,.t 0)] [.tt 0]) (ai (hX R71_0t1 K71_0) (ai (hK K71_0 0) (ai (hK K71_0 1) (ai (hQ K71_0 4) (ai (hQ K71_0 5) (ai (hU R71_2 [] [17] [17,18] 18 [] [(17,.t 0)] [.tt 0]) (ai (hX R71_2t1 [17,18]) (ai (hU R71_4 [] [30] [30,31] 31 [] [(30,.t 0)] [.tt 0]) (ai (hP R71_4t1 [30] [30,31]) (ai (hV R71_4t2 [30,31] [32] 33 [] [(32,.op (.un .not (.t 0)) [.t 31])] [sb []]) (ai (hU R71_5 [32] [33] [32,33,34] 34 [] [(33,.t 0)] [.tt 0]) (ai (hX R71_5t1 [32,33,34]) (ai (hE abk agh) (ai (hU R71_6 [0,1,32] [35] [0,1,32,35,36] 36 [] [(35,.t 0)] [.tt 0]) (ai (hX R71_6t1 [0,1,32,35,36]) (agh.eq_1))))))))))))))))
theorem bdl:w9 Tryd.prog PX0 16=some (false,afn.ntmps,afn.results,afn.body.bare):=by kernel_rfl
theorem bdk:w9 Tryd.prog PX0 34=some (false,ajy.ntmps,ajy.results,ajy.body.bare):=by kernel_rfl
theorem bdj:w9 Tryd.prog PX0 35=some (false,afm.ntmps,afm.results,afm.body.bare):=by kernel_rfl
theorem bdi:w9 Tryd.prog PX0 36=some (false,ai0.ntmps,ai0.results,ai0.body.bare):=by kernel_rfl
theorem bdh:w9 Tryd.prog PX0 37=some (false,agk.ntmps,agk.results,agk.body.bare):=by kernel_rfl
theorem bdg:w9 Tryd.prog PX0 38=some (false,ac1.ntmps,ac1.results,ac1.body.bare):=by kernel_rfl
theorem bdf:w9 Tryd.prog PX0 49=some (false,aiy.ntmps,aiy.results,aiy.body.bare):=by kernel_rfl
theorem bde:w9 Tryd.prog PX0 50=some (false,aeu.ntmps,aeu.results,aeu.body.bare):=by kernel_rfl
theorem bdd:w9 Tryd.prog PX0 51=some (false,agj.ntmps,agj.results,agj.body.bare):=by kernel_rfl
theorem bdc:w9 Tryd.prog PX0 60=some (false,ac0.ntmps,ac0.results,ac0.body.bare):=by kernel_rfl
theorem bdb:w9 Tryd.prog PX0 61=some (false,afl.ntmps,afl.results,afl.body.bare):=by kernel_rfl
theorem bda:w9 Tryd.prog PX0 62=some (false,afk.ntmps,afk.results,afk.body.bare):=by kernel_rfl
theorem bc9:w9 Tryd.prog PX0 63=some (false,aer.ntmps,aer.results,aer.body.bare):=by kernel_rfl
theorem bc8:w9 Tryd.prog PX0 64=some (false,aiw.ntmps,aiw.results,aiw.body.bare):=by kernel_rfl
theorem bc7:w9 Tryd.prog PX0 65=some (false,agi.ntmps,agi.results,agi.body.bare):=by kernel_rfl
theorem bc6:w9 Tryd.prog PX0 66=some (false,aiu.ntmps,aiu.results,aiu.body.bare):=by kernel_rfl
theorem bc5:w9 Tryd.prog PX0 67=some (false,ap9.ntmps,ap9.results,ap9.body.bare):=by kernel_rfl
theorem bc4:w9 Tryd.prog PX0 68=some (false,ais.ntmps,ais.results,ais.body.bare):=by kernel_rfl
theorem bcz:w9 Tryd.prog PX0 69=some (false,aiq.ntmps,aiq.results,aiq.body.bare):=by kernel_rfl
theorem bcy:w9 Tryd.prog PX0 70=some (false,afj.ntmps,afj.results,afj.body.bare):=by kernel_rfl
theorem bcx:aho [34] Tryd.prog PX0 71=some (false,aen.ntmps,aen.results,aen.body.bare):=by kernel_rfl
abbrev a9o:Nat:=9
def K9_0:List Nat:=[1] ++ List.range' 5 43
def R9_0t2:LO:=[⟨some 4,.alloc [.s (.int .i64 0)],none⟩]
def R9_0t1:LO:=⟨some 3,.alloc [.s (.int .i64 0),.s (.int .i64 0)],none⟩ :: R9_0t2
def R9_0p0:LO:=[⟨some 2,.alloc [.s (.slice none 0 0)],none⟩]
def R9_0:LO:=R9_0p0 ++ R9_0t1
def K9_0p0:List Nat:=[1] ++ List.range' 3 45
theorem X9_0 (call:kz) (it:yn) (base:Nat) (f:List V) (H:Heap):evC call it base (.region R9_0 [] K9_0) f H=agd call it base (.region R9_0t1 [] K9_0) (axp [] R9_0p0 K9_0p0 (jl call base [⟨some 2,.alloc [.s (.slice none 0 0)],none⟩] f H)):=(awt call it base R9_0p0 R9_0t1 (kc:=K9_0p0) (by kernel_rfl) f H).trans (by rw [aly];rfl)
def R9_1t4:LO:=[⟨none,.store 1 (.t 4) (.t 13),none⟩]
def R9_1t3:LO:=⟨none,.store 2 (.t 3) (.t 12),none⟩ :: R9_1t4
def R9_1p2:LO:=[oM 8 10,q 11 (.extract (.t 8) 0),q 12 (.extract (.t 8) 1),q 13 (.extract (.t 8) 2),oM 5 11]
def R9_1t2:LO:=R9_1p2 ++ R9_1t3
def R9_1t1:LO:=⟨some 10,.call (.c (.fn 13 [] [])) [.t 9],none⟩ :: R9_1t2
def R9_1p0:LO:=[oM 9 0]
def R9_1:LO:=R9_1p0 ++ R9_1t1
def R9_2:LO:=[oL 14 4,q 15 (.bin .neq (.t 14) (.c (.s (.int .i64 0))))]
def R9_3:LO:=[⟨some 16,.build [.s (.slice none 0 0)] [(0,1)] [],none⟩,⟨some 17,.load true 2 (.t 3),none⟩,⟨some 18,.load false 1 (.t 4),none⟩,⟨none,.store 1 (.t 2) (.t 16),none⟩,⟨none,.store 2 (.t 3) (.t 17),none⟩,⟨none,.store 1 (.t 4) (.t 18),none⟩]
def R9_4t1:LO:=[⟨none,.stuck,none⟩]
def R9_4p0:LO:=[q 19 (.mkFn 15 [] [.t 2,.t 3,.t 4])]
def R9_4:LO:=R9_4p0 ++ R9_4t1
def R9_5t2:LO:=[oM 6 22]
def R9_5t1:LO:=⟨some 22,.box (.t 21),none⟩ :: R9_5t2
def R9_5p0:LO:=[oM 20 5,q 21 (.build [.s (.slice none 0 0),.s (.int .i64 0)] [(0,1),(1,1)] [(0,.t 20)])]
def R9_5:LO:=R9_5p0 ++ R9_5t1
def R9_6t2:LO:=[q 25 (.field false 0 1 (.t 24)),q 26 (.bin .neq (.t 25) (.c (.s (.int .u8 4))))]
def R9_6t1:LO:=⟨some 24,.call (.c (.fn 16 [] [])) [.t 23],none⟩ :: R9_6t2
def R9_6p0:LO:=[oM 23 6]
def R9_6:LO:=R9_6p0 ++ R9_6t1
def R9_7t3:LO:=[⟨none,.store 5 (.t 7) (.t 28),none⟩]
def R9_7t2:LO:=⟨some 7,.alloc [.s (.int .u8 0),.s (.string ⟨#[]⟩),.s (.int .i64 0),.s (.int .i64 0),.s (.int .i64 0)],none⟩ :: R9_7t3
def R9_7t1:LO:=⟨some 28,.call (.c (.fn 16 [] [])) [.t 27],none⟩ :: R9_7t2
def R9_7p0:LO:=[oM 27 6]
def R9_7:LO:=R9_7p0 ++ R9_7t1
def R9_8:LO:=[oF 29 0 7,oL 30 29,q 31 (.bin .neq (.t 30) (.c (.s (.int .u8 1)))),oM 32 31,gF 33 1 7 32 false,gL 34 33 32 false,qg 35 (.bin .neq (.t 34) (.c (.s (.string ⟨#[102,117,110,99]⟩)))) 32 false,q 36 (.pick (.t 32) (.c (.s (.bool true))) (.t 35))]
def R9_9t1:LO:=[⟨some 38,.call (.c (.fn 17 [] [])) [.t 37],none⟩]
def R9_9p0:LO:=[oM 37 6]
def R9_9:LO:=R9_9p0 ++ R9_9t1
def R9_10:LO:=[⟨some 39,.fieldAddr 0 (.t 2),none⟩,⟨some 40,.load false 1 (.t 39),none⟩,⟨some 41,.move (.t 6),none⟩,⟨some 42,.call (.c (.fn 18 [] [])) [.t 41],none⟩,⟨some 43,.buildSl 3 1 [.s (.string ⟨#[]⟩),.s (.slice none 0 0),.s (.slice none 0 0)] [(0,.t 42)],none⟩,⟨some 44,.append 3 64 (.t 40) (.t 43),none⟩,⟨some 45,.fieldAddr 0 (.t 2),none⟩,⟨none,.store 1 (.t 45) (.t 44),none⟩]
def aii:ACode:=
 (.seq (.seq (.region R9_6 [] [23,24,25])
 (.cond (.t 26)
 .skip
 (.exit 0)))
 (.block 1
 (.seq (.seq (.region R9_7 [] [26,27,28])
 (.seq (.regionE R9_8 [7,29,30,31,32,33,34,35] [36])
 (.cond (.t 36)
 (.region R9_9 [] [36,37,38])
 .skip)))
 (.region R9_10 [(1,3)] [36,39,40,41,42,43,44,45]))))
def abv:ACode:=aii
def R9_11t3:LO:=[⟨none,.store 1 (.t 4) (.c (.s (.int .i64 0))),none⟩]
def R9_11t2:LO:=⟨none,.store 2 (.t 3) (.t 47),none⟩ :: R9_11t3
def R9_11t1:LO:=⟨none,.store 1 (.t 2) (.t 46),none⟩ :: R9_11t2
def R9_11p0:LO:=[q 46 (.load true 1 (.t 2)),q 47 (.build [.s (.int .i64 0),.s (.int .i64 0)] [(0,1),(1,1)] [])]
def R9_11:LO:=R9_11p0 ++ R9_11t1
def a4u:ACFun:={ ntmps:=48,results:=[.cell 2 true 1,.cell 3 true 2,.cell 4 false 1],body:=
 (.seq (.region R9_0 [] K9_0)
 (.seq (.region R9_1 [] [0,8,9,10,11,12,13])
 (.seq (.seq (.regionE R9_2 [14] [15])
 (.cond (.t 15)
 (.seq (.region R9_3 [(1,3),(2,3),(2,4)] [5,15,16,17,18])
 .ret)
 .skip))
 (.seq (.region R9_4 [] [15,19])
 (.seq (.region R9_5 [] [5,20,21,22])
 (.seq (.block 0
 (.loop [] abv))
 (.seq (.region R9_11 [] [6,26,46,47])
 .ret))))))) }
theorem aum:ni (List.range' 1 (a4u.ntmps - 1)) a4u.body=true:=by kernel_rfl
abbrev bbz:Nat:=15
def K15_0:List Nat:=List.range' 5 14
def R15_0t5:LO:=[oM 4 9]
def R15_0t4:LO:=⟨none,.store 5 (.t 3) (.t 8),none⟩ :: R15_0t5
def R15_0t3:LO:=⟨some 3,.alloc [.s (.int .u8 0),.s (.string ⟨#[]⟩),.s (.int .i64 0),.s (.int .i64 0),.s (.int .i64 0)],none⟩ :: R15_0t4
def R15_0p2:LO:=[oM 5 7,q 8 (.extract (.t 5) 0),q 9 (.extract (.t 5) 1)]
def R15_0t2:LO:=R15_0p2 ++ R15_0t3
def R15_0t1:LO:=⟨some 7,.stuck,none⟩ :: R15_0t2
def R15_0:LO:=⟨some 6,.stuck,none⟩ :: R15_0t1
def R15_1:LO:=[oM 10 4]
def R15_2:LO:=[⟨some 11,.build [.s (.slice none 0 0)] [(0,1)] [],none⟩,⟨some 12,.fieldAddr 0 (.t 3),none⟩,⟨some 13,.fieldAddr 3 (.t 12),none⟩,⟨some 14,.load true 2 (.t 13),none⟩,⟨none,.store 1 (.t 0) (.t 11),none⟩,⟨none,.store 2 (.t 1) (.t 14),none⟩,⟨none,.store 1 (.t 2) (.c (.s (.int .i64 40))),none⟩]
def R15_3:LO:=[oF 15 0 3,oF 16 0 15,oL 17 16,q 18 (.bin .eql (.t 17) (.c (.s (.int .u8 4))))]
def R15_4:LO:=[⟨none,.store 1 (.t 2) (.c (.s (.int .i64 41))),none⟩]
abbrev ao5:Nat:=18
def K18_0:List Nat:=[1] ++ List.range' 3 98
def R18_0:LO:=[⟨some 2,.alloc [.s (.string ⟨#[]⟩),.s (.slice none 0 0),.s (.slice none 0 0)],none⟩]
def R18_1t1:LO:=[⟨none,.store 1 (.t 12) (.t 10),none⟩]
def R18_1p0:LO:=[oM 6 0,q 7 (.nilCheck (.t 6)),oF 8 1 7,oL 9 8,q 10 (.bin .add (.t 9) (.c (.s (.int .i64 1)))),q 11 (.nilCheck (.t 6)),oF 12 1 11]
def R18_1:LO:=R18_1p0 ++ R18_1t1
def R18_2t6:LO:=[⟨none,.store 3 (.t 3) (.t 17),none⟩]
def R18_2t5:LO:=⟨some 3,.alloc [.s (.string ⟨#[]⟩),.s (.slice none 0 0),.s (.slice none 0 0)],none⟩ :: R18_2t6
def R18_2p4:LO:=[q 17 (.build [.s (.string ⟨#[]⟩),.s (.slice none 0 0),.s (.slice none 0 0)] [(0,1),(1,1),(2,1)] [(0,.t 14),(1,.t 16)])]
def R18_2t4:LO:=R18_2p4 ++ R18_2t5
def R18_2t3:LO:=⟨some 16,.call (.c (.fn 35 [] [])) [.t 15],none⟩ :: R18_2t4
def R18_2p2:LO:=[oM 15 0]
def R18_2t2:LO:=R18_2p2 ++ R18_2t3
def R18_2t1:LO:=⟨some 14,.call (.c (.fn 34 [] [])) [.t 13],none⟩ :: R18_2t2
def R18_2p0:LO:=[oM 13 0]
def R18_2:LO:=R18_2p0 ++ R18_2t1
def R18_3t1:LO:=[⟨some 19,.call (.c (.fn 36 [] [])) [.t 18,.c (.s (.string ⟨#[123]⟩))],none⟩]
def R18_3p0:LO:=[oM 18 0]
def R18_3:LO:=R18_3p0 ++ R18_3t1
def R18_4t1:LO:=[⟨some 21,.call (.c (.fn 37 [] [])) [.t 20],none⟩]
def R18_4p0:LO:=[oM 20 0]
def R18_4:LO:=R18_4p0 ++ R18_4t1
def R18_5t3:LO:=[⟨none,.store 5 (.t 4) (.t 23),none⟩]
def R18_5t2:LO:=⟨some 4,.alloc [.s (.int .u8 0),.s (.string ⟨#[]⟩),.s (.int .i64 0),.s (.int .i64 0),.s (.int .i64 0)],none⟩ :: R18_5t3
def R18_5t1:LO:=⟨some 23,.call (.c (.fn 16 [] [])) [.t 22],none⟩ :: R18_5t2
def R18_5p0:LO:=[oM 22 0]
def R18_5:LO:=R18_5p0 ++ R18_5t1
def R18_6:LO:=[oF 43 0 4,oL 44 43,q 45 (.bin .eql (.t 44) (.c (.s (.int .u8 3)))),oM 46 45,gF 47 1 4 46 true,gL 48 47 46 true,qg 49 (.bin .eql (.t 48) (.c (.s (.string ⟨#[125]⟩)))) 46 true,q 50 (.pick (.t 46) (.t 49) (.c (.s (.bool false)))),oM 42 50]
def R18_7t1:LO:=[⟨none,.store 1 (.t 57) (.t 55),none⟩]
def R18_7p0:LO:=[oM 51 0,q 52 (.nilCheck (.t 51)),oF 53 1 52,oL 54 53,q 55 (.bin .add (.t 54) (.c (.s (.int .i64 1)))),q 56 (.nilCheck (.t 51)),oF 57 1 56]
def R18_7:LO:=R18_7p0 ++ R18_7t1
def R18_8t1:LO:=[⟨some 59,.call (.c (.fn 37 [] [])) [.t 58],none⟩]
def R18_8p0:LO:=[oM 58 0]
def R18_8:LO:=R18_8p0 ++ R18_8t1
def R18_9t1:LO:=[⟨none,.store 3 (.t 2) (.t 60),none⟩]
def R18_9p0:LO:=[q 60 (.load true 3 (.t 3))]
def R18_9:LO:=R18_9p0 ++ R18_9t1
def R18_10t2:LO:=[oM 61 63]
def R18_10t1:LO:=⟨some 63,.call (.c (.fn 38 [] [])) [.t 62,.c (.s (.string ⟨#[58]⟩))],none⟩ :: R18_10t2
def R18_10p0:LO:=[oM 62 0]
def R18_10:LO:=R18_10p0 ++ R18_10t1
def R18_11t4:LO:=[⟨none,.store 1 (.t 71) (.t 70),none⟩]
def R18_11p3:LO:=[oF 71 2 3]
def R18_11t3:LO:=R18_11p3 ++ R18_11t4
def R18_11t2:LO:=⟨some 70,.append 2 40 (.t 65) (.t 69),none⟩ :: R18_11t3
def R18_11t1:LO:=⟨some 69,.buildSl 2 1 [.s (.string ⟨#[]⟩),.s (.slice none 0 0)] [(0,.t 68)],none⟩ :: R18_11t2
def R18_11p0:LO:=[oF 64 2 3,oL 65 64,oF 66 1 4,oL 67 66,q 68 (.build [.s (.string ⟨#[]⟩),.s (.slice none 0 0)] [(0,1),(1,1)] [(0,.t 67)])]
def R18_11:LO:=R18_11p0 ++ R18_11t1
def R18_12t1:LO:=[⟨none,.store 1 (.t 78) (.t 76),none⟩]
def R18_12p0:LO:=[oM 72 0,q 73 (.nilCheck (.t 72)),oF 74 1 73,oL 75 74,q 76 (.bin .add (.t 75) (.c (.s (.int .i64 2)))),q 77 (.nilCheck (.t 72)),oF 78 1 77]
def R18_12:LO:=R18_12p0 ++ R18_12t1
def R18_13:LO:=[oF 80 0 4,oL 81 80,q 82 (.bin .neq (.t 81) (.c (.s (.int .u8 1)))),oM 83 82,gF 84 2 3 83 false,gL 85 84 83 false,qg 86 (.lenS .s (.t 85)) 83 false,qg 87 (.bin .eql (.t 86) (.c (.s (.int .i64 0)))) 83 false,q 88 (.pick (.t 83) (.c (.s (.bool true))) (.t 87)),oM 79 88]
def R18_14:LO:=[oF 89 0 4,oL 90 89,q 91 (.bin .eql (.t 90) (.c (.s (.int .u8 1))))]
def R18_15t1:LO:=[⟨none,.store 1 (.t 98) (.t 96),none⟩]
def R18_15p0:LO:=[oM 92 0,q 93 (.nilCheck (.t 92)),oF 94 1 93,oL 95 94,q 96 (.bin .add (.t 95) (.c (.s (.int .i64 1)))),q 97 (.nilCheck (.t 92)),oF 98 1 97]
def R18_15:LO:=R18_15p0 ++ R18_15t1
def R18_16t1:LO:=[⟨some 100,.call (.c (.fn 17 [] [])) [.t 99],none⟩]
def R18_16p0:LO:=[oM 99 0]
def R18_16:LO:=R18_16p0 ++ R18_16t1
def R18_17:LO:=[oF 24 2 3,oL 25 24,oF 26 2 3,oL 27 26,q 28 (.lenS .s (.t 27)),q 29 (.bin .sub (.t 28) (.c (.s (.int .i64 1)))),q 30 (.indexAddr 2 (.t 25) (.t 29)),oM 5 30]
def R18_18:LO:=[⟨some 31,.move (.t 5),none⟩,⟨some 32,.move (.t 5),none⟩,⟨some 33,.nilCheck (.t 32),none⟩,⟨some 34,.fieldAddr 1 (.t 33),none⟩,⟨some 35,.load false 1 (.t 34),none⟩,⟨some 36,.move (.t 0),none⟩,⟨some 37,.call (.c (.fn 39 [] [])) [.t 36],none⟩,⟨some 38,.buildSl 8 1 [.s (.int .u8 0),.s (.string ⟨#[]⟩),.s (.string ⟨#[]⟩),.s (.string ⟨#[]⟩),.s (.int .i64 0),.s (.string ⟨#[]⟩),.s (.slice none 0 0),.s (.slice none 0 0)] [(0,.t 37)],none⟩,⟨some 39,.append 8 128 (.t 35) (.t 38),none⟩,⟨some 40,.nilCheck (.t 31),none⟩,⟨some 41,.fieldAddr 1 (.t 40),none⟩,⟨none,.store 1 (.t 41) (.t 39),none⟩]
def agq:ACode:=
 (.block 1
 (.seq (.region R18_4 [] [20,21])
 (.seq (.region R18_5 [] [22,23])
 (.block 2
 (.seq (.regionE R18_6 [43,44,45,46,47,48,49,50] [42])
 (.cond (.t 42)
 (.seq (.region R18_7 [] [4,42,51,52,53,54,55,56,57])
 (.seq (.region R18_8 [] [0,58,59])
 (.seq (.region R18_9 [] [3,60])
 .ret)))
 (.seq (.region R18_10 [] [42,62,63])
 (.cond (.t 61)
 (.seq (.region R18_11 [] [4,61,64,65,66,67,68,69,70,71])
 (.region R18_12 [] [72,73,74,75,76,77,78]))
 (.seq (.regionE R18_13 [61,80,81,82,83,84,85,86,87,88] [79])
 (.cond (.t 79)
 (.seq (.seq (.regionE R18_14 [4,79,89,90] [91])
 (.cond (.t 91)
 (.region R18_15 [] [91,92,93,94,95,96,97,98])
 .skip))
 (.region R18_16 [] [91,99,100]))
 (.seq (.regionE R18_17 [4,24,25,26,27,28,29,30,79] [5])
 (.region R18_18 [(4,6)] [5,31,32,33,34,35,36,37,38,39,40,41]))))))))))))
def abm:ACode:=agq
def adc:ACFun:={ ntmps:=101,results:=[.cell 2 true 3],body:=
 (.seq (.region R18_0 [] K18_0)
 (.seq (.region R18_1 [] [6,7,8,9,10,11,12])
 (.seq (.region R18_2 [] [13,14,15,16,17])
 (.seq (.region R18_3 [] [18,19])
 (.block 0
 (.loop [] abm)))))) }
theorem aaz:ni (List.range' 1 (adc.ntmps - 1)) adc.body=true:=by kernel_rfl
abbrev ao3:Nat:=39
def K39_0:List Nat:=[1] ++ List.range' 3 73
def R39_0:LO:=[⟨some 2,.alloc [.s (.int .u8 0),.s (.string ⟨#[]⟩),.s (.string ⟨#[]⟩),.s (.string ⟨#[]⟩),.s (.int .i64 0),.s (.string ⟨#[]⟩),.s (.slice none 0 0),.s (.slice none 0 0)],none⟩]
def R39_1:LO:=[⟨some 3,.alloc [.s (.int .u8 0),.s (.string ⟨#[]⟩),.s (.string ⟨#[]⟩),.s (.string ⟨#[]⟩),.s (.int .i64 0),.s (.string ⟨#[]⟩),.s (.slice none 0 0),.s (.slice none 0 0)],none⟩]
def R39_2t1:LO:=[oM 4 7]
def R39_2:LO:=⟨some 7,.call (.c (.fn 52 [] [])) [],none⟩ :: R39_2t1
def R39_3t1:LO:=[⟨some 9,.call (.c (.fn 38 [] [])) [.t 8,.c (.s (.string ⟨#[61]⟩))],none⟩]
def R39_3p0:LO:=[oM 8 0]
def R39_3:LO:=R39_3p0 ++ R39_3t1
def R39_4t3:LO:=[⟨none,.store 1 (.t 13) (.t 12),none⟩]
def R39_4p2:LO:=[q 12 (.field false 1 1 (.t 11)),oF 13 1 3]
def R39_4t2:LO:=R39_4p2 ++ R39_4t3
def R39_4t1:LO:=⟨some 11,.call (.c (.fn 16 [] [])) [.t 10],none⟩ :: R39_4t2
def R39_4p0:LO:=[oM 10 0]
def R39_4:LO:=R39_4p0 ++ R39_4t1
def R39_5t1:LO:=[⟨none,.store 1 (.t 20) (.t 18),none⟩]
def R39_5p0:LO:=[oM 14 0,q 15 (.nilCheck (.t 14)),oF 16 1 15,oL 17 16,q 18 (.bin .add (.t 17) (.c (.s (.int .i64 1)))),q 19 (.nilCheck (.t 14)),oF 20 1 19]
def R39_5:LO:=R39_5p0 ++ R39_5t1
def R39_6t1:LO:=[⟨some 22,.call (.c (.fn 36 [] [])) [.t 21,.c (.s (.string ⟨#[61]⟩))],none⟩]
def R39_6p0:LO:=[oM 21 0]
def R39_6:LO:=R39_6p0 ++ R39_6t1
def R39_7t2:LO:=[q 25 (.un .not (.t 24))]
def R39_7t1:LO:=⟨some 24,.call (.c (.fn 51 [] [])) [.t 23],none⟩ :: R39_7t2
def R39_7p0:LO:=[oM 23 0]
def R39_7:LO:=R39_7p0 ++ R39_7t1
def R39_8t1:LO:=[⟨some 27,.call (.c (.fn 17 [] [])) [.t 26],none⟩]
def R39_8p0:LO:=[oM 26 0]
def R39_8:LO:=R39_8p0 ++ R39_8t1
def R39_9t1:LO:=[oM 4 28]
def R39_9:LO:=⟨some 28,.call (.c (.fn 53 [] [])) [],none⟩ :: R39_9t1
def R39_10t5:LO:=[oM 6 36]
def R39_10t4:LO:=⟨none,.store 2 (.t 5) (.t 35),none⟩ :: R39_10t5
def R39_10t3:LO:=⟨some 5,.alloc [.s (.int .u8 0),.s .nilFunc],none⟩ :: R39_10t4
def R39_10p2:LO:=[q 33 (.field false 1 1 (.t 32)),q 34 (.mapGet .string (.agg [.s (.int .u8 0),.s .nilFunc]) (.t 30) (.t 33) true),oM 29 34,q 35 (.extract (.t 29) 0),q 36 (.extract (.t 29) 1)]
def R39_10t2:LO:=R39_10p2 ++ R39_10t3
def R39_10t1:LO:=⟨some 32,.call (.c (.fn 16 [] [])) [.t 31],none⟩ :: R39_10t2
def R39_10p0:LO:=[oM 30 4,oM 31 0]
def R39_10:LO:=R39_10p0 ++ R39_10t1
def R39_11:LO:=[oM 37 6,q 38 (.un .not (.t 37)),oM 39 38,gF 40 1 3 39 true,gL 41 40 39 true,qg 42 (.bin .eql (.t 41) (.c (.s (.string ⟨#[]⟩)))) 39 true,q 43 (.pick (.t 39) (.t 42) (.c (.s (.bool false))))]
def R39_12t1:LO:=[⟨none,.store 1 (.t 50) (.t 48),none⟩]
def R39_12p0:LO:=[oM 44 0,q 45 (.nilCheck (.t 44)),oF 46 1 45,oL 47 46,q 48 (.bin .add (.t 47) (.c (.s (.int .i64 1)))),q 49 (.nilCheck (.t 44)),oF 50 1 49]
def R39_12:LO:=R39_12p0 ++ R39_12t1
def R39_13t3:LO:=[qg 56 (.field false 0 1 (.t 55)) 53 false,qg 57 (.bin .neq (.t 56) (.c (.s (.int .u8 1)))) 53 false,q 58 (.pick (.t 53) (.c (.s (.bool true))) (.t 57))]
def R39_13t2:LO:=⟨some 55,.call (.c (.fn 16 [] [])) [.t 54],some (53,false)⟩ :: R39_13t3
def R39_13t1:LO:=⟨some 54,.move (.t 0),some (53,false)⟩ :: R39_13t2
def R39_13p0:LO:=[oM 51 6,q 52 (.un .not (.t 51)),oM 53 52]
def R39_13:LO:=R39_13p0 ++ R39_13t1
def R39_14t1:LO:=[⟨some 60,.call (.c (.fn 17 [] [])) [.t 59],none⟩]
def R39_14p0:LO:=[oM 59 0]
def R39_14:LO:=R39_14p0 ++ R39_14t1
def R39_15t1:LO:=[⟨none,.store 1 (.t 67) (.t 65),none⟩]
def R39_15p0:LO:=[oM 61 0,q 62 (.nilCheck (.t 61)),oF 63 1 62,oL 64 63,q 65 (.bin .add (.t 64) (.c (.s (.int .i64 1)))),q 66 (.nilCheck (.t 61)),oF 67 1 66]
def R39_15:LO:=R39_15p0 ++ R39_15t1
def R39_16t1:LO:=[⟨none,.store 1 (.t 70) (.t 69),none⟩]
def R39_16p0:LO:=[oF 68 0 5,oL 69 68,oF 70 0 3]
def R39_16:LO:=R39_16p0 ++ R39_16t1
def R39_17t1:LO:=[⟨some 74,.call (.t 72) [.t 73,.t 3],none⟩]
def R39_17p0:LO:=[⟨some 71,.fieldAddr 1 (.t 5),none⟩,⟨some 72,.load false 1 (.t 71),none⟩,⟨some 73,.move (.t 0),none⟩]
def R39_17:LO:=R39_17p0 ++ R39_17t1
def R39_18t1:LO:=[⟨none,.store 8 (.t 2) (.t 75),none⟩]
def R39_18p0:LO:=[q 75 (.load true 8 (.t 3))]
def R39_18:LO:=R39_18p0 ++ R39_18t1
def aea:ACFun:={ ntmps:=76,results:=[.cell 2 true 8],body:=
 (.seq (.region R39_0 [] K39_0)
 (.seq (.region R39_1 [] [])
 (.seq (.region R39_2 [] [7])
 (.seq (.seq (.region R39_3 [] [8])
 (.cond (.t 9)
 (.seq (.region R39_4 [] [4,9,10,11,12,13])
 (.seq (.region R39_5 [] [14,15,16,17,18,19,20])
 (.seq (.region R39_6 [] [21,22])
 (.seq (.seq (.region R39_7 [] [23,24])
 (.cond (.t 25)
 (.region R39_8 [] [25,26,27])
 .skip))
 (.region R39_9 [] [25,28])))))
 .skip))
 (.seq (.region R39_10 [] [4,9,29,30,31,32,33,34,35,36])
 (.seq (.seq (.regionE R39_11 [37,38,39,40,41,42] [43])
 (.cond (.t 43)
 (.region R39_12 [] [43,44,45,46,47,48,49,50])
 .skip))
 (.seq (.seq (.region R39_13 [] [6,43,51,52,53,54,55,56,57])
 (.cond (.t 58)
 (.region R39_14 [] [58,59,60])
 .skip))
 (.seq (.region R39_15 [] [58,61,62,63,64,65,66,67])
 (.seq (.region R39_16 [] [68,69,70])
 (.seq (.region R39_17 [] [0,5,71,72,73,74])
 (.seq (.region R39_18 [] [3,75])
 .ret))))))))))) }
theorem acj:ni (List.range' 1 (aea.ntmps - 1)) aea.body=true:=by kernel_rfl
abbrev a7r:Nat:=52
def K52_0:List Nat:=List.range' 0 9
theorem aqb:zi K52_0 (qb 9 [] 0)=[]:=by kernel_rfl
def R52_0:LO:=[q 0 (.move (.c (.s (.map none))))]
def R52_1t13:LO:=[oM 8 1,oM 0 8]
def R52_1t12:LO:=⟨none,.mapUpd .string (.t 1) (.c (.s (.string ⟨#[114,101,116]⟩))) (.t 7),none⟩ :: R52_1t13
def R52_1p11:LO:=[q 7 (.build [.s (.int .u8 0),.s .nilFunc] [(0,1),(1,1)] [(0,.c (.s (.int .u8 14))),(1,.c (.fn 65 [] []))])]
def R52_1t11:LO:=R52_1p11 ++ R52_1t12
def R52_1t10:LO:=⟨none,.mapUpd .string (.t 1) (.c (.s (.string ⟨#[103,111,116,111]⟩))) (.t 6),none⟩ :: R52_1t11
def R52_1p9:LO:=[q 6 (.build [.s (.int .u8 0),.s .nilFunc] [(0,1),(1,1)] [(0,.c (.s (.int .u8 13))),(1,.c (.fn 64 [] []))])]
def R52_1t9:LO:=R52_1p9 ++ R52_1t10
def R52_1t8:LO:=⟨none,.mapUpd .string (.t 1) (.c (.s (.string ⟨#[98,114]⟩))) (.t 5),none⟩ :: R52_1t9
def R52_1p7:LO:=[q 5 (.build [.s (.int .u8 0),.s .nilFunc] [(0,1),(1,1)] [(0,.c (.s (.int .u8 12))),(1,.c (.fn 63 [] []))])]
def R52_1t7:LO:=R52_1p7 ++ R52_1t8
def R52_1t6:LO:=⟨none,.mapUpd .string (.t 1) (.c (.s (.string ⟨#[105,99,97,108,108]⟩))) (.t 4),none⟩ :: R52_1t7
def R52_1p5:LO:=[q 4 (.build [.s (.int .u8 0),.s .nilFunc] [(0,1),(1,1)] [(0,.c (.s (.int .u8 11))),(1,.c (.fn 62 [] []))])]
def R52_1t5:LO:=R52_1p5 ++ R52_1t6
def R52_1t4:LO:=⟨none,.mapUpd .string (.t 1) (.c (.s (.string ⟨#[99,97,108,108]⟩))) (.t 3),none⟩ :: R52_1t5
def R52_1p3:LO:=[q 3 (.build [.s (.int .u8 0),.s .nilFunc] [(0,1),(1,1)] [(0,.c (.s (.int .u8 10))),(1,.c (.fn 61 [] []))])]
def R52_1t3:LO:=R52_1p3 ++ R52_1t4
def R52_1t2:LO:=⟨none,.mapUpd .string (.t 1) (.c (.s (.string ⟨#[115,116,111,114,101]⟩))) (.t 2),none⟩ :: R52_1t3
def R52_1p1:LO:=[q 2 (.build [.s (.int .u8 0),.s .nilFunc] [(0,1),(1,1)] [(0,.c (.s (.int .u8 9))),(1,.c (.fn 60 [] []))])]
def R52_1t1:LO:=R52_1p1 ++ R52_1t2
def R52_1:LO:=⟨some 1,.mapNew,none⟩ :: R52_1t1
def alp:ACFun:={ ntmps:=9,results:=[.tmp 0],body:=
 (.seq (.regionE R52_0 K52_0 [])
 (.seq (.region R52_1 [] [1,2,3,4,5,6,7,8])
 .ret)) }
abbrev a7q:Nat:=53
def K53_0:List Nat:=List.range' 0 13
theorem aqa:zi K53_0 (qb 13 [] 0)=[]:=by kernel_rfl
def R53_0:LO:=[q 0 (.move (.c (.s (.map none))))]
def R53_1t21:LO:=[oM 12 1,oM 0 12]
def R53_1t20:LO:=⟨none,.mapUpd .string (.t 1) (.c (.s (.string ⟨#[105,99,97,108,108]⟩))) (.t 11),none⟩ :: R53_1t21
def R53_1p19:LO:=[q 11 (.build [.s (.int .u8 0),.s .nilFunc] [(0,1),(1,1)] [(0,.c (.s (.int .u8 11))),(1,.c (.fn 62 [] []))])]
def R53_1t19:LO:=R53_1p19 ++ R53_1t20
def R53_1t18:LO:=⟨none,.mapUpd .string (.t 1) (.c (.s (.string ⟨#[99,97,108,108]⟩))) (.t 10),none⟩ :: R53_1t19
def R53_1p17:LO:=[q 10 (.build [.s (.int .u8 0),.s .nilFunc] [(0,1),(1,1)] [(0,.c (.s (.int .u8 10))),(1,.c (.fn 61 [] []))])]
def R53_1t17:LO:=R53_1p17 ++ R53_1t18
def R53_1t16:LO:=⟨none,.mapUpd .string (.t 1) (.c (.s (.string ⟨#[112,104,105]⟩))) (.t 9),none⟩ :: R53_1t17
def R53_1p15:LO:=[q 9 (.build [.s (.int .u8 0),.s .nilFunc] [(0,1),(1,1)] [(0,.c (.s (.int .u8 6))),(1,.c (.fn 71 [] []))])]
def R53_1t15:LO:=R53_1p15 ++ R53_1t16
def R53_1t14:LO:=⟨none,.mapUpd .string (.t 1) (.c (.s (.string ⟨#[102,105,101,108,100]⟩))) (.t 8),none⟩ :: R53_1t15
def R53_1p13:LO:=[q 8 (.build [.s (.int .u8 0),.s .nilFunc] [(0,1),(1,1)] [(0,.c (.s (.int .u8 7))),(1,.c (.fn 70 [] []))])]
def R53_1t13:LO:=R53_1p13 ++ R53_1t14
def R53_1t12:LO:=⟨none,.mapUpd .string (.t 1) (.c (.s (.string ⟨#[108,111,97,100]⟩))) (.t 7),none⟩ :: R53_1t13
def R53_1p11:LO:=[q 7 (.build [.s (.int .u8 0),.s .nilFunc] [(0,1),(1,1)] [(0,.c (.s (.int .u8 8))),(1,.c (.fn 69 [] []))])]
def R53_1t11:LO:=R53_1p11 ++ R53_1t12
def R53_1t10:LO:=⟨none,.mapUpd .string (.t 1) (.c (.s (.string ⟨#[99,111,112,121]⟩))) (.t 6),none⟩ :: R53_1t11
def R53_1p9:LO:=[q 6 (.build [.s (.int .u8 0),.s .nilFunc] [(0,1),(1,1)] [(0,.c (.s (.int .u8 5))),(1,.c (.fn 69 [] []))])]
def R53_1t9:LO:=R53_1p9 ++ R53_1t10
def R53_1t8:LO:=⟨none,.mapUpd .string (.t 1) (.c (.s (.string ⟨#[97,100,100,114]⟩))) (.t 5),none⟩ :: R53_1t9
def R53_1p7:LO:=[q 5 (.build [.s (.int .u8 0),.s .nilFunc] [(0,1),(1,1)] [(0,.c (.s (.int .u8 4))),(1,.c (.fn 68 [] []))])]
def R53_1t7:LO:=R53_1p7 ++ R53_1t8
def R53_1t6:LO:=⟨none,.mapUpd .string (.t 1) (.c (.s (.string ⟨#[110,117,108,108]⟩))) (.t 4),none⟩ :: R53_1t7
def R53_1p5:LO:=[q 4 (.build [.s (.int .u8 0),.s .nilFunc] [(0,1),(1,1)] [(0,.c (.s (.int .u8 3))),(1,.c (.fn 67 [] []))])]
def R53_1t5:LO:=R53_1p5 ++ R53_1t6
def R53_1t4:LO:=⟨none,.mapUpd .string (.t 1) (.c (.s (.string ⟨#[109,97,108,108,111,99]⟩))) (.t 3),none⟩ :: R53_1t5
def R53_1p3:LO:=[q 3 (.build [.s (.int .u8 0),.s .nilFunc] [(0,1),(1,1)] [(0,.c (.s (.int .u8 2))),(1,.c (.fn 66 [] []))])]
def R53_1t3:LO:=R53_1p3 ++ R53_1t4
def R53_1t2:LO:=⟨none,.mapUpd .string (.t 1) (.c (.s (.string ⟨#[97,108,108,111,99,97]⟩))) (.t 2),none⟩ :: R53_1t3
def R53_1p1:LO:=[q 2 (.build [.s (.int .u8 0),.s .nilFunc] [(0,1),(1,1)] [(0,.c (.s (.int .u8 1))),(1,.c (.fn 66 [] []))])]
def R53_1t1:LO:=R53_1p1 ++ R53_1t2
def R53_1:LO:=⟨some 1,.mapNew,none⟩ :: R53_1t1
def alo:ACFun:={ ntmps:=13,results:=[.tmp 0],body:=
 (.seq (.regionE R53_0 K53_0 [])
 (.seq (.region R53_1 [] [1,2,3,4,5,6,7,8,9,10,11,12])
 .ret)) }
def ann:=ai (hK K9_0p0 0) (ai (hK K9_0p0 2) (ai (hQ K9_0p0 3) (ai (hQ K9_0p0 4) (ai X9_0 (ai (hP R9_0t1 [] K9_0) (ai (hX R9_0t2 K9_0) (ai (hK K9_0 0) (ai (hK K9_0 2) (ai (hK K9_0 3) (ai (hK K9_0 4) (ai (hU R9_1 [0] [9] [0,8,9,10,11,12,13] 10 [] [(9,.t 0)] [.tt 0]) (ai (hP R9_1t1 [9] [0,8,9,10,11,12,13]) (ai (hU R9_1t2 [8,10,11] [12,13,5] [0,8,9,10,11,12,13] 14 [] [(12,.op (.extract (.t 0) 1) [.t 10]),(13,.op (.extract (.t 0) 2) [.t 10]),(5,.op (.extract (.t 0) 0) [.t 10])] [.tt 10,.sub 2 [] [],sb [],.sub 1 [] [],.sub 2 [] []]) (ai (hP R9_1t3 [12] [0,8,9,10,11,12,13]) (ai (hX R9_1t4 [0,8,9,10,11,12,13]) (ai (hT R9_2 [14] [15] 16 [] [(15,.op (.bin .neq (.t 0) (.c (.s (.int .i64 0)))) [eL (.t 4),.c (.s (.int .i64 0))])] [sb [0],sb []]) (ai (hU R9_4 [15,19] [] [15,19] 20 [([],.op (.mkFn 15 [] [.t 0,.t 1,.t 2]) [.t 2,.t 3,.t 4])] [] [.keep [] (.op (.mkFn 15 [] [.t 0,.t 1,.t 2]) [.t 2,.t 3,.t 4])]) (ai (hX R9_4t1 [15,19]) (ai (hU R9_5 [5,20] [21] [5,20,21,22] 22 [] [(21,.op (.build [.s (.slice none 0 0),.s (.int .i64 0)] [(0,1),(1,1)] [(0,.t 0)]) [.t 5])] [.tt 5,sb []]) (ai (hP R9_5t1 [21] [5,20,21,22]) (ai (hV R9_5t2 [5,20,21,22] [6] 7 [] [(6,.t 22)] [.tt 22]) (ai (hU R9_6 [] [23] [23,24,25] 24 [] [(23,.t 6)] [.tt 6]) (ai (hP R9_6t1 [23] [23,24,25]) (ai (hV R9_6t2 [23,24,25] [26] 27 [] [(26,.op (.bin .neq (.t 0) (.c (.s (.int .u8 4)))) [.op (.field false 0 1 (.t 0)) [.t 24],.c (.s (.int .u8 4))])] [sb [0],sb []]) (ai (hU R9_7 [26] [27] [26,27,28] 28 [] [(27,.t 6)] [.tt 6]) (ai (hP R9_7t1 [27] [26,27,28]) (ai (hP R9_7t2 [] [26,27,28]) (ai (hX R9_7t3 [26,27,28]) (ai (hT R9_8 [7,29,30,31,32,33,34,35] [36] 37 [] [(36,.pick (.op (.bin .neq (.t 0) (.c (.s (.int .u8 1)))) [eL (eF 0 (.t 7)),.c (.s (.int .u8 1))]) (.c (.s (.bool true))) (.op (.bin .neq (.t 0) (.c (.s (.string ⟨#[102,117,110,99]⟩)))) [eL (eF 1 (.t 7)),.c (.s (.string ⟨#[102,117,110,99]⟩))]))] [sb [0,0,0],sb [0,0],sb [0],sb [0],.sub 0 [2,0,0] [32],.sub 0 [2,0] [32],.sub 0 [2] [32],sb []]) (ai (hU R9_9 [36] [37] [36,37,38] 38 [] [(37,.t 6)] [.tt 6]) (ai (hX R9_9t1 [36,37,38]) (ai (hE abv aii) (ai (hU R9_11 [6,26] [46,47] [6,26,46,47] 48 [] [(46,.op (.load true 1 (.t 0)) [.t 2]),(47,.op (.build [.s (.int .i64 0),.s (.int .i64 0)] [(0,1),(1,1)] []) [])] [sb [],.sub 1 [] []]) (ai (hP R9_11t1 [46] [6,26,46,47]) (ai (hP R9_11t2 [47] [6,26,46,47]) (ai (hX R9_11t3 [6,26,46,47]) (aii.eq_1)))))))))))))))))))))))))))))))))))))
def azz:=ai (hP R15_0 [3,4,5,6,7,8,9,10,11,12,13,14,15,16,17,18] K15_0) (ai (hP R15_0t1 [] K15_0) (ai (hU R15_0t2 [5,7] [8,9] K15_0 10 [] [(8,.op (.extract (.t 0) 0) [.t 7]),(9,.op (.extract (.t 0) 1) [.t 7])] [.tt 7,sb [],.sub 1 [] []]) (ai (hP R15_0t3 [] K15_0) (ai (hP R15_0t4 [8] K15_0) (ai (hV R15_0t5 K15_0 [4] 5 [] [(4,.t 9)] [.tt 9]) (ai (hK K15_0 0) (ai (hK K15_0 1) (ai (hK K15_0 2) (ai (hQ K15_0 6) (ai (hQ K15_0 7) (ai (hQ K15_0 5) (ai (hQ K15_0 8) (ai (hQ K15_0 9) (ai (hK K15_0 3) (ai (hK K15_0 4) (ai (hT R15_1 [4] [10] 11 [] [(10,.t 4)] [.tt 4]) (ai (hT R15_3 [3,15,16,17] [18] 19 [] [(18,.op (.bin .eql (.t 0) (.c (.s (.int .u8 4)))) [eL (eF 0 (eF 0 (.t 3))),.c (.s (.int .u8 4))])] [sb [0,0,0],sb [0,0],sb [0],sb []]) ((hX R15_4 [2,18])))))))))))))))))))
def y9:=ai (hX R18_0 K18_0) (ai (hK K18_0 0) (ai (hK K18_0 2) (ai (hU R18_1 [6,7,8,9,11] [10,12] [6,7,8,9,10,11,12] 13 [] [(10,.op (.bin .add (.t 0) (.c (.s (.int .i64 1)))) [eL (eF 1 (.op (.nilCheck (.t 0)) [.t 0])),.c (.s (.int .i64 1))]),(12,eF 1 (.op (.nilCheck (.t 0)) [.t 0]))] [.tt 0,sb [0,0,0],sb [0,0],sb [0],sb [],sb [0,0,0],sb [0,0]]) (ai (hX R18_1t1 [6,7,8,9,10,11,12]) (ai (hU R18_2 [] [13] [13,14,15,16,17] 14 [] [(13,.t 0)] [.tt 0]) (ai (hP R18_2t1 [13] [13,14,15,16,17]) (ai (hU R18_2t2 [] [15] [13,14,15,16,17] 16 [] [(15,.t 0)] [.tt 0]) (ai (hP R18_2t3 [15] [13,14,15,16,17]) (ai (hU R18_2t4 [14,16] [17] [13,14,15,16,17] 18 [] [(17,.op (.build [.s (.string ⟨#[]⟩),.s (.slice none 0 0),.s (.slice none 0 0)] [(0,1),(1,1),(2,1)] [(0,.t 0),(1,.t 1)]) [.t 14,.t 16])] [sb []]) (ai (hP R18_2t5 [] [13,14,15,16,17]) (ai (hX R18_2t6 [13,14,15,16,17]) (ai (hU R18_3 [] [18] [18,19] 19 [] [(18,.t 0)] [.tt 0]) (ai (hX R18_3t1 [18,19]) (ai (hU R18_4 [] [20] [20,21] 21 [] [(20,.t 0)] [.tt 0]) (ai (hX R18_4t1 [20,21]) (ai (hU R18_5 [] [22] [22,23] 23 [] [(22,.t 0)] [.tt 0]) (ai (hP R18_5t1 [22] [22,23]) (ai (hP R18_5t2 [] [22,23]) (ai (hX R18_5t3 [22,23]) (ai (hT R18_6 [43,44,45,46,47,48,49,50] [42] 51 [] [(42,.pick (.op (.bin .eql (.t 0) (.c (.s (.int .u8 3)))) [eL (eF 0 (.t 4)),.c (.s (.int .u8 3))]) (.op (.bin .eql (.t 0) (.c (.s (.string ⟨#[125]⟩)))) [eL (eF 1 (.t 4)),.c (.s (.string ⟨#[125]⟩))]) (.c (.s (.bool false))))] [sb [0,0,0],sb [0,0],sb [0],sb [0],.sub 0 [1,0,0] [46],.sub 0 [1,0] [46],.sub 0 [1] [46],sb [],sb []]) (ai (hU R18_7 [4,42,51,52,53,54,56] [55,57] [4,42,51,52,53,54,55,56,57] 58 [] [(55,.op (.bin .add (.t 0) (.c (.s (.int .i64 1)))) [eL (eF 1 (.op (.nilCheck (.t 0)) [.t 0])),.c (.s (.int .i64 1))]),(57,eF 1 (.op (.nilCheck (.t 0)) [.t 0]))] [.tt 0,sb [0,0,0],sb [0,0],sb [0],sb [],sb [0,0,0],sb [0,0]]) (ai (hX R18_7t1 [4,42,51,52,53,54,55,56,57]) (ai (hU R18_8 [0] [58] [0,58,59] 59 [] [(58,.t 0)] [.tt 0]) (ai (hX R18_8t1 [0,58,59]) (ai (hU R18_9 [3] [60] [3,60] 61 [] [(60,.op (.load true 3 (.t 0)) [.t 3])] [sb []]) (ai (hX R18_9t1 [3,60]) (ai (hU R18_10 [42] [62] [42,62,63] 63 [] [(62,.t 0)] [.tt 0]) (ai (hP R18_10t1 [62] [42,62,63]) (ai (hV R18_10t2 [42,62,63] [61] 62 [] [(61,.t 63)] [.tt 63]) (ai (hU R18_11 [4,61,64,66,67] [65,68] [4,61,64,65,66,67,68,69,70,71] 69 [] [(65,eL (eF 2 (.t 3))),(68,.op (.build [.s (.string ⟨#[]⟩),.s (.slice none 0 0)] [(0,1),(1,1)] [(0,.t 0)]) [eL (eF 1 (.t 4))])] [sb [0],sb [],.sub 1 [0,0] [],.sub 1 [0] [],.sub 1 [] []]) (ai (hP R18_11t1 [68] [4,61,64,65,66,67,68,69,70,71]) (ai (hP R18_11t2 [65,69] [4,61,64,65,66,67,68,69,70,71]) (ai (hU R18_11t3 [] [71] [4,61,64,65,66,67,68,69,70,71] 72 [] [(71,eF 2 (.t 3))] [sb []]) (ai (hX R18_11t4 [4,61,64,65,66,67,68,69,70,71]) (ai (hU R18_12 [72,73,74,75,77] [76,78] [72,73,74,75,76,77,78] 79 [] [(76,.op (.bin .add (.t 0) (.c (.s (.int .i64 2)))) [eL (eF 1 (.op (.nilCheck (.t 0)) [.t 0])),.c (.s (.int .i64 2))]),(78,eF 1 (.op (.nilCheck (.t 0)) [.t 0]))] [.tt 0,sb [0,0,0],sb [0,0],sb [0],sb [],sb [0,0,0],sb [0,0]]) (ai (hX R18_12t1 [72,73,74,75,76,77,78]) (ai (hT R18_13 [61,80,81,82,83,84,85,86,87,88] [79] 89 [] [(79,.pick (.op (.bin .neq (.t 0) (.c (.s (.int .u8 1)))) [eL (eF 0 (.t 4)),.c (.s (.int .u8 1))]) (.c (.s (.bool true))) (.op (.bin .eql (.t 0) (.c (.s (.int .i64 0)))) [.op (.lenS .s (.t 0)) [eL (eF 2 (.t 3))],.c (.s (.int .i64 0))]))] [sb [0,0,0],sb [0,0],sb [0],sb [0],.sub 0 [2,0,0,0] [83],.sub 0 [2,0,0] [83],.sub 0 [2,0] [83],.sub 0 [2] [83],sb [],sb []]) (ai (hT R18_14 [4,79,89,90] [91] 92 [] [(91,.op (.bin .eql (.t 0) (.c (.s (.int .u8 1)))) [eL (eF 0 (.t 4)),.c (.s (.int .u8 1))])] [sb [0,0],sb [0],sb []]) (ai (hU R18_15 [91,92,93,94,95,97] [96,98] [91,92,93,94,95,96,97,98] 99 [] [(96,.op (.bin .add (.t 0) (.c (.s (.int .i64 1)))) [eL (eF 1 (.op (.nilCheck (.t 0)) [.t 0])),.c (.s (.int .i64 1))]),(98,eF 1 (.op (.nilCheck (.t 0)) [.t 0]))] [.tt 0,sb [0,0,0],sb [0,0],sb [0],sb [],sb [0,0,0],sb [0,0]]) (ai (hX R18_15t1 [91,92,93,94,95,96,97,98]) (ai (hU R18_16 [91] [99] [91,99,100] 100 [] [(99,.t 0)] [.tt 0]) (ai (hX R18_16t1 [91,99,100]) (ai (hT R18_17 [4,24,25,26,27,28,29,30,79] [5] 31 [] [(5,.op (.indexAddr 2 (.t 0) (.t 1)) [eL (eF 2 (.t 3)),.op (.bin .sub (.t 0) (.c (.s (.int .i64 1)))) [.op (.lenS .s (.t 0)) [eL (eF 2 (.t 3))],.c (.s (.int .i64 1))]])] [sb [0,0],sb [0],sb [0,0],sb [0],sb [1,0],sb [1],sb [],sb []]) (ai (hE abm agq) (agq.eq_1)))))))))))))))))))))))))))))))))))))))))))))
def zk:=ai (hX R39_0 K39_0) (ai (hK K39_0 0) (ai (hK K39_0 2) (ai (hX R39_1 []) (ai (hP R39_2 [] [7]) (ai (hV R39_2t1 [7] [4] 5 [] [(4,.t 7)] [.tt 7]) (ai (hU R39_3 [] [8] [8] 9 [] [(8,.t 0)] [.tt 0]) (ai (hX R39_3t1 [8]) (ai (hU R39_4 [4,9] [10] [4,9,10,11,12,13] 11 [] [(10,.t 0)] [.tt 0]) (ai (hP R39_4t1 [10] [4,9,10,11,12,13]) (ai (hU R39_4t2 [11] [12,13] [4,9,10,11,12,13] 14 [] [(12,.op (.field false 1 1 (.t 0)) [.t 11]),(13,eF 1 (.t 3))] [sb [],.sub 1 [] []]) (ai (hX R39_4t3 [4,9,10,11,12,13]) (ai (hU R39_5 [14,15,16,17,19] [18,20] [14,15,16,17,18,19,20] 21 [] [(18,.op (.bin .add (.t 0) (.c (.s (.int .i64 1)))) [eL (eF 1 (.op (.nilCheck (.t 0)) [.t 0])),.c (.s (.int .i64 1))]),(20,eF 1 (.op (.nilCheck (.t 0)) [.t 0]))] [.tt 0,sb [0,0,0],sb [0,0],sb [0],sb [],sb [0,0,0],sb [0,0]]) (ai (hX R39_5t1 [14,15,16,17,18,19,20]) (ai (hU R39_6 [] [21] [21,22] 22 [] [(21,.t 0)] [.tt 0]) (ai (hX R39_6t1 [21,22]) (ai (hU R39_7 [] [23] [23,24] 24 [] [(23,.t 0)] [.tt 0]) (ai (hP R39_7t1 [23] [23,24]) (ai (hV R39_7t2 [23,24] [25] 26 [] [(25,.op (.un .not (.t 0)) [.t 24])] [sb []]) (ai (hU R39_8 [25] [26] [25,26,27] 27 [] [(26,.t 0)] [.tt 0]) (ai (hX R39_8t1 [25,26,27]) (ai (hP R39_9 [25] [25,28]) (ai (hV R39_9t1 [25,28] [4] 5 [] [(4,.t 28)] [.tt 28]) (ai (hU R39_10 [4,9] [30,31] [4,9,29,30,31,32,33,34,35,36] 32 [] [(30,.t 4),(31,.t 0)] [.tt 4,.tt 0]) (ai (hP R39_10t1 [31] [4,9,29,30,31,32,33,34,35,36]) (ai (hU R39_10t2 [29,30,32,33,34] [35,36] [4,9,29,30,31,32,33,34,35,36] 37 [] [(35,.op (.extract (.t 0) 0) [.op (.mapGet .string (.agg [.s (.int .u8 0),.s .nilFunc]) (.t 0) (.t 1) true) [.t 30,.op (.field false 1 1 (.t 0)) [.t 32]]]),(36,.op (.extract (.t 0) 1) [.op (.mapGet .string (.agg [.s (.int .u8 0),.s .nilFunc]) (.t 0) (.t 1) true) [.t 30,.op (.field false 1 1 (.t 0)) [.t 32]]])] [sb [0,1],sb [0],sb [0],sb [],.sub 1 [] []]) (ai (hP R39_10t3 [] [4,9,29,30,31,32,33,34,35,36]) (ai (hP R39_10t4 [35] [4,9,29,30,31,32,33,34,35,36]) (ai (hV R39_10t5 [4,9,29,30,31,32,33,34,35,36] [6] 7 [] [(6,.t 36)] [.tt 36]) (ai (hT R39_11 [37,38,39,40,41,42] [43] 44 [] [(43,.pick (.op (.un .not (.t 0)) [.t 6]) (.op (.bin .eql (.t 0) (.c (.s (.string ⟨#[]⟩)))) [eL (eF 1 (.t 3)),.c (.s (.string ⟨#[]⟩))]) (.c (.s (.bool false))))] [.tt 6,sb [0],sb [0],.sub 0 [1,0,0] [39],.sub 0 [1,0] [39],.sub 0 [1] [39],sb []]) (ai (hU R39_12 [43,44,45,46,47,49] [48,50] [43,44,45,46,47,48,49,50] 51 [] [(48,.op (.bin .add (.t 0) (.c (.s (.int .i64 1)))) [eL (eF 1 (.op (.nilCheck (.t 0)) [.t 0])),.c (.s (.int .i64 1))]),(50,eF 1 (.op (.nilCheck (.t 0)) [.t 0]))] [.tt 0,sb [0,0,0],sb [0,0],sb [0],sb [],sb [0,0,0],sb [0,0]]) (ai (hX R39_12t1 [43,44,45,46,47,48,49,50]) (ai (hU R39_13 [6,43,51,52] [53] [6,43,51,52,53,54,55,56,57] 54 [] [(53,.op (.un .not (.t 0)) [.t 6])] [.tt 6,sb [],sb []]) (ai (hP R39_13t1 [] [6,43,51,52,53,54,55,56,57]) (ai (hP R39_13t2 [54] [6,43,51,52,53,54,55,56,57]) (ai (hV R39_13t3 [6,43,51,52,53,54,55,56,57] [58] 59 [] [(58,.pick (.t 53) (.c (.s (.bool true))) (.op (.bin .neq (.t 0) (.c (.s (.int .u8 1)))) [.op (.field false 0 1 (.t 0)) [.t 55],.c (.s (.int .u8 1))]))] [.sub 0 [2,0] [53],.sub 0 [2] [53],sb []]) (ai (hU R39_14 [58] [59] [58,59,60] 60 [] [(59,.t 0)] [.tt 0]) (ai (hX R39_14t1 [58,59,60]) (ai (hU R39_15 [58,61,62,63,64,66] [65,67] [58,61,62,63,64,65,66,67] 68 [] [(65,.op (.bin .add (.t 0) (.c (.s (.int .i64 1)))) [eL (eF 1 (.op (.nilCheck (.t 0)) [.t 0])),.c (.s (.int .i64 1))]),(67,eF 1 (.op (.nilCheck (.t 0)) [.t 0]))] [.tt 0,sb [0,0,0],sb [0,0],sb [0],sb [],sb [0,0,0],sb [0,0]]) (ai (hX R39_15t1 [58,61,62,63,64,65,66,67]) (ai (hU R39_16 [68] [69,70] [68,69,70] 71 [] [(69,eL (eF 0 (.t 5))),(70,eF 0 (.t 3))] [sb [0],sb [],.sub 1 [] []]) (ai (hX R39_16t1 [68,69,70]) (ai (hU R39_17 [0,5,71] [72,73] [0,5,71,72,73,74] 74 [] [(72,eL (eF 1 (.t 5))),(73,.t 0)] [sb [0],sb [],.tt 0]) (ai (hX R39_17t1 [0,5,71,72,73,74]) (ai (hU R39_18 [3] [75] [3,75] 76 [] [(75,.op (.load true 8 (.t 0)) [.t 3])] [sb []]) ((hX R39_18t1 [3,75]))))))))))))))))))))))))))))))))))))))))))))))
def a_f52:=ai (hT R52_0 K52_0 [] 1 [] [] [.cc (.s (.map none))]) (ai aqb (ai (hP R52_1 [] [1,2,3,4,5,6,7,8]) (ai (hU R52_1t1 [] [2] [1,2,3,4,5,6,7,8] 3 [] [(2,.op (.build [.s (.int .u8 0),.s .nilFunc] [(0,1),(1,1)] [(0,.c (.s (.int .u8 9))),(1,.c (.fn 60 [] []))]) [.c (.s (.int .u8 9)),.c (.fn 60 [] [])])] [sb []]) (ai (hP R52_1t2 [2] [1,2,3,4,5,6,7,8]) (ai (hU R52_1t3 [] [3] [1,2,3,4,5,6,7,8] 4 [] [(3,.op (.build [.s (.int .u8 0),.s .nilFunc] [(0,1),(1,1)] [(0,.c (.s (.int .u8 10))),(1,.c (.fn 61 [] []))]) [.c (.s (.int .u8 10)),.c (.fn 61 [] [])])] [sb []]) (ai (hP R52_1t4 [3] [1,2,3,4,5,6,7,8]) (ai (hU R52_1t5 [] [4] [1,2,3,4,5,6,7,8] 5 [] [(4,.op (.build [.s (.int .u8 0),.s .nilFunc] [(0,1),(1,1)] [(0,.c (.s (.int .u8 11))),(1,.c (.fn 62 [] []))]) [.c (.s (.int .u8 11)),.c (.fn 62 [] [])])] [sb []]) (ai (hP R52_1t6 [4] [1,2,3,4,5,6,7,8]) (ai (hU R52_1t7 [] [5] [1,2,3,4,5,6,7,8] 6 [] [(5,.op (.build [.s (.int .u8 0),.s .nilFunc] [(0,1),(1,1)] [(0,.c (.s (.int .u8 12))),(1,.c (.fn 63 [] []))]) [.c (.s (.int .u8 12)),.c (.fn 63 [] [])])] [sb []]) (ai (hP R52_1t8 [5] [1,2,3,4,5,6,7,8]) (ai (hU R52_1t9 [] [6] [1,2,3,4,5,6,7,8] 7 [] [(6,.op (.build [.s (.int .u8 0),.s .nilFunc] [(0,1),(1,1)] [(0,.c (.s (.int .u8 13))),(1,.c (.fn 64 [] []))]) [.c (.s (.int .u8 13)),.c (.fn 64 [] [])])] [sb []]) (ai (hP R52_1t10 [6] [1,2,3,4,5,6,7,8]) (ai (hU R52_1t11 [] [7] [1,2,3,4,5,6,7,8] 8 [] [(7,.op (.build [.s (.int .u8 0),.s .nilFunc] [(0,1),(1,1)] [(0,.c (.s (.int .u8 14))),(1,.c (.fn 65 [] []))]) [.c (.s (.int .u8 14)),.c (.fn 65 [] [])])] [sb []]) (ai (hP R52_1t12 [7] [1,2,3,4,5,6,7,8]) ((hV R52_1t13 [1,2,3,4,5,6,7,8] [0] 9 [] [(0,.t 1)] [.tt 1,.tt 1]))))))))))))))))
def a_f53:=ai (hT R53_0 K53_0 [] 1 [] [] [.cc (.s (.map none))]) (ai aqa (ai (hP R53_1 [] [1,2,3,4,5,6,7,8,9,10,11,12]) (ai (hU R53_1t1 [] [2] [1,2,3,4,5,6,7,8,9,10,11,12] 3 [] [(2,.op (.build [.s (.int .u8 0),.s .nilFunc] [(0,1),(1,1)] [(0,.c (.s (.int .u8 1))),(1,.c (.fn 66 [] []))]) [.c (.s (.int .u8 1)),.c (.fn 66 [] [])])] [sb []]) (ai (hP R53_1t2 [2] [1,2,3,4,5,6,7,8,9,10,11,12]) (ai (hU R53_1t3 [] [3] [1,2,3,4,5,6,7,8,9,10,11,12] 4 [] [(3,.op (.build [.s (.int .u8 0),.s .nilFunc] [(0,1),(1,1)] [(0,.c (.s (.int .u8 2))),(1,.c (.fn 66 [] []))]) [.c (.s (.int .u8 2)),.c (.fn 66 [] [])])] [sb []]) (ai (hP R53_1t4 [3] [1,2,3,4,5,6,7,8,9,10,11,12]) (ai (hU R53_1t5 [] [4] [1,2,3,4,5,6,7,8,9,10,11,12] 5 [] [(4,.op (.build [.s (.int .u8 0),.s .nilFunc] [(0,1),(1,1)] [(0,.c (.s (.int .u8 3))),(1,.c (.fn 67 [] []))]) [.c (.s (.int .u8 3)),.c (.fn 67 [] [])])] [sb []]) (ai (hP R53_1t6 [4] [1,2,3,4,5,6,7,8,9,10,11,12]) (ai (hU R53_1t7 [] [5] [1,2,3,4,5,6,7,8,9,10,11,12] 6 [] [(5,.op (.build [.s (.int .u8 0),.s .nilFunc] [(0,1),(1,1)] [(0,.c (.s (.int .u8 4))),(1,.c (.fn 68 [] []))]) [.c (.s (.int .u8 4)),.c (.fn 68 [] [])])] [sb []]) (ai (hP R53_1t8 [5] [1,2,3,4,5,6,7,8,9,10,11,12]) (ai (hU R53_1t9 [] [6] [1,2,3,4,5,6,7,8,9,10,11,12] 7 [] [(6,.op (.build [.s (.int .u8 0),.s .nilFunc] [(0,1),(1,1)] [(0,.c (.s (.int .u8 5))),(1,.c (.fn 69 [] []))]) [.c (.s (.int .u8 5)),.c (.fn 69 [] [])])] [sb []]) (ai (hP R53_1t10 [6] [1,2,3,4,5,6,7,8,9,10,11,12]) (ai (hU R53_1t11 [] [7] [1,2,3,4,5,6,7,8,9,10,11,12] 8 [] [(7,.op (.build [.s (.int .u8 0),.s .nilFunc] [(0,1),(1,1)] [(0,.c (.s (.int .u8 8))),(1,.c (.fn 69 [] []))]) [.c (.s (.int .u8 8)),.c (.fn 69 [] [])])] [sb []]) (ai (hP R53_1t12 [7] [1,2,3,4,5,6,7,8,9,10,11,12]) (ai (hU R53_1t13 [] [8] [1,2,3,4,5,6,7,8,9,10,11,12] 9 [] [(8,.op (.build [.s (.int .u8 0),.s .nilFunc] [(0,1),(1,1)] [(0,.c (.s (.int .u8 7))),(1,.c (.fn 70 [] []))]) [.c (.s (.int .u8 7)),.c (.fn 70 [] [])])] [sb []]) (ai (hP R53_1t14 [8] [1,2,3,4,5,6,7,8,9,10,11,12]) (ai (hU R53_1t15 [] [9] [1,2,3,4,5,6,7,8,9,10,11,12] 10 [] [(9,.op (.build [.s (.int .u8 0),.s .nilFunc] [(0,1),(1,1)] [(0,.c (.s (.int .u8 6))),(1,.c (.fn 71 [] []))]) [.c (.s (.int .u8 6)),.c (.fn 71 [] [])])] [sb []]) (ai (hP R53_1t16 [9] [1,2,3,4,5,6,7,8,9,10,11,12]) (ai (hU R53_1t17 [] [10] [1,2,3,4,5,6,7,8,9,10,11,12] 11 [] [(10,.op (.build [.s (.int .u8 0),.s .nilFunc] [(0,1),(1,1)] [(0,.c (.s (.int .u8 10))),(1,.c (.fn 61 [] []))]) [.c (.s (.int .u8 10)),.c (.fn 61 [] [])])] [sb []]) (ai (hP R53_1t18 [10] [1,2,3,4,5,6,7,8,9,10,11,12]) (ai (hU R53_1t19 [] [11] [1,2,3,4,5,6,7,8,9,10,11,12] 12 [] [(11,.op (.build [.s (.int .u8 0),.s .nilFunc] [(0,1),(1,1)] [(0,.c (.s (.int .u8 11))),(1,.c (.fn 62 [] []))]) [.c (.s (.int .u8 11)),.c (.fn 62 [] [])])] [sb []]) (ai (hP R53_1t20 [11] [1,2,3,4,5,6,7,8,9,10,11,12]) ((hV R53_1t21 [1,2,3,4,5,6,7,8,9,10,11,12] [0] 13 [] [(0,.t 1)] [.tt 1,.tt 1]))))))))))))))))))))))))
theorem bcw:aho [39] Tryd.prog PX0 18=some (false,adc.ntmps,adc.results,adc.body.bare):=by kernel_rfl
theorem bcv:w9 Tryd.prog PX0 39=some (false,aea.ntmps,aea.results,aea.body.bare):=by kernel_rfl
theorem bcu:w9 Tryd.prog PX0 52=some (false,alp.ntmps,alp.results,alp.body.bare):=by kernel_rfl
theorem bct:w9 Tryd.prog PX0 53=some (false,alo.ntmps,alo.results,alo.body.bare):=by kernel_rfl
abbrev bb4:Nat:=11
def K11_0:List Nat:=[0,1] ++ List.range' 4 160
def R11_0t2:LO:=[q 4 (.move (.c (.s (.bool false))))]
def R11_0t1:LO:=⟨some 3,.box (.t 1),none⟩ :: R11_0t2
def R11_0p0:LO:=[⟨some 2,.box (.t 0),none⟩]
def R11_0:LO:=R11_0p0 ++ R11_0t1
def K11_0p0:List Nat:=[0] ++ List.range' 3 161
theorem X11_0 (call:kz) (it:yn) (base:Nat) (f:List V) (H:Heap):evC call it base (.region R11_0 [] K11_0) f H=agd call it base (.region R11_0t1 [] K11_0) (axp [] R11_0p0 K11_0p0 (jl call base [⟨some 2,.box (.t 0),none⟩] f H)):=(awt call it base R11_0p0 R11_0t1 (kc:=K11_0p0) (by kernel_rfl) f H).trans (by rw [aly];rfl)
def R11_1:LO:=[oF 14 0 2,oL 15 14,q 16 (.lenS .s (.t 15)),oF 17 0 3,oL 18 17,q 19 (.lenS .s (.t 18)),q 20 (.bin .neq (.t 16) (.t 19))]
def R11_2:LO:=[q 4 (.move (.c (.s (.bool false))))]
def R11_3:LO:=[q 5 (.move (.c (.s (.int .i64 0))))]
def R11_4:LO:=[oM 21 5,oF 22 0 2,oL 23 22,q 24 (.lenS .s (.t 23)),q 25 (.bin .lss (.t 21) (.t 24))]
def R11_5t4:LO:=[⟨none,.store 3 (.t 7) (.t 37),none⟩]
def R11_5t3:LO:=⟨none,.store 3 (.t 6) (.t 32),none⟩ :: R11_5t4
def R11_5t2:LO:=⟨some 7,.alloc [.s (.string ⟨#[]⟩),.s (.slice none 0 0),.s (.slice none 0 0)],none⟩ :: R11_5t3
def R11_5t1:LO:=⟨some 6,.alloc [.s (.string ⟨#[]⟩),.s (.slice none 0 0),.s (.slice none 0 0)],none⟩ :: R11_5t2
def R11_5p0:LO:=[oF 28 0 2,oL 29 28,oM 30 5,q 31 (.indexAddr 3 (.t 29) (.t 30)),q 32 (.load true 3 (.t 31)),oF 33 0 3,oL 34 33,oM 35 5,q 36 (.indexAddr 3 (.t 34) (.t 35)),q 37 (.load true 3 (.t 36))]
def R11_5:LO:=R11_5p0 ++ R11_5t1
def R11_6t6:LO:=[qg 49 (.un .not (.t 48)) 43 false,q 50 (.pick (.t 43) (.c (.s (.bool true))) (.t 49)),oM 51 50,gF 52 2 6 51 false,gL 53 52 51 false,qg 54 (.lenS .s (.t 53)) 51 false,gF 55 2 7 51 false,gL 56 55 51 false,qg 57 (.lenS .s (.t 56)) 51 false,qg 58 (.bin .neq (.t 54) (.t 57)) 51 false,q 59 (.pick (.t 51) (.c (.s (.bool true))) (.t 58))]
def R11_6t5:LO:=⟨some 48,.call (.c (.fn 24 [] [])) [.t 45,.t 47],some (43,false)⟩ :: R11_6t6
def R11_6t4:LO:=⟨some 47,.load false 1 (.t 46),some (43,false)⟩ :: R11_6t5
def R11_6t3:LO:=⟨some 46,.fieldAddr 1 (.t 7),some (43,false)⟩ :: R11_6t4
def R11_6t2:LO:=⟨some 45,.load false 1 (.t 44),some (43,false)⟩ :: R11_6t3
def R11_6t1:LO:=⟨some 44,.fieldAddr 1 (.t 6),some (43,false)⟩ :: R11_6t2
def R11_6p0:LO:=[oF 38 0 6,oL 39 38,oF 40 0 7,oL 41 40,q 42 (.bin .neq (.t 39) (.t 41)),oM 43 42]
def R11_6:LO:=R11_6p0 ++ R11_6t1
def R11_7:LO:=[q 4 (.move (.c (.s (.bool false))))]
def R11_8:LO:=[q 8 (.move (.c (.s (.int .i64 0))))]
def R11_9:LO:=[oM 60 8,oF 61 2 6,oL 62 61,q 63 (.lenS .s (.t 62)),q 64 (.bin .lss (.t 60) (.t 63))]
def R11_10t4:LO:=[⟨none,.store 2 (.t 10) (.t 76),none⟩]
def R11_10t3:LO:=⟨none,.store 2 (.t 9) (.t 71),none⟩ :: R11_10t4
def R11_10t2:LO:=⟨some 10,.alloc [.s (.string ⟨#[]⟩),.s (.slice none 0 0)],none⟩ :: R11_10t3
def R11_10t1:LO:=⟨some 9,.alloc [.s (.string ⟨#[]⟩),.s (.slice none 0 0)],none⟩ :: R11_10t2
def R11_10p0:LO:=[oF 67 2 6,oL 68 67,oM 69 8,q 70 (.indexAddr 2 (.t 68) (.t 69)),q 71 (.load true 2 (.t 70)),oF 72 2 7,oL 73 72,oM 74 8,q 75 (.indexAddr 2 (.t 73) (.t 74)),q 76 (.load true 2 (.t 75))]
def R11_10:LO:=R11_10p0 ++ R11_10t1
def R11_11:LO:=[oF 77 0 9,oL 78 77,oF 79 0 10,oL 80 79,q 81 (.bin .neq (.t 78) (.t 80)),oM 82 81,gF 83 1 9 82 false,gL 84 83 82 false,qg 85 (.lenS .s (.t 84)) 82 false,gF 86 1 10 82 false,gL 87 86 82 false,qg 88 (.lenS .s (.t 87)) 82 false,qg 89 (.bin .neq (.t 85) (.t 88)) 82 false,q 90 (.pick (.t 82) (.c (.s (.bool true))) (.t 89))]
def R11_12:LO:=[q 4 (.move (.c (.s (.bool false))))]
def R11_13:LO:=[q 11 (.move (.c (.s (.int .i64 0))))]
def R11_14:LO:=[oM 91 11,oF 92 1 9,oL 93 92,q 94 (.lenS .s (.t 93)),q 95 (.bin .lss (.t 91) (.t 94))]
def R11_15t4:LO:=[⟨none,.store 8 (.t 13) (.t 107),none⟩]
def R11_15t3:LO:=⟨none,.store 8 (.t 12) (.t 102),none⟩ :: R11_15t4
def R11_15t2:LO:=⟨some 13,.alloc [.s (.int .u8 0),.s (.string ⟨#[]⟩),.s (.string ⟨#[]⟩),.s (.string ⟨#[]⟩),.s (.int .i64 0),.s (.string ⟨#[]⟩),.s (.slice none 0 0),.s (.slice none 0 0)],none⟩ :: R11_15t3
def R11_15t1:LO:=⟨some 12,.alloc [.s (.int .u8 0),.s (.string ⟨#[]⟩),.s (.string ⟨#[]⟩),.s (.string ⟨#[]⟩),.s (.int .i64 0),.s (.string ⟨#[]⟩),.s (.slice none 0 0),.s (.slice none 0 0)],none⟩ :: R11_15t2
def R11_15p0:LO:=[oF 98 1 9,oL 99 98,oM 100 11,q 101 (.indexAddr 8 (.t 99) (.t 100)),q 102 (.load true 8 (.t 101)),oF 103 1 10,oL 104 103,oM 105 11,q 106 (.indexAddr 8 (.t 104) (.t 105)),q 107 (.load true 8 (.t 106))]
def R11_15:LO:=R11_15p0 ++ R11_15t1
def R11_16t12:LO:=[qg 162 (.un .not (.t 161)) 156 false,q 163 (.pick (.t 156) (.c (.s (.bool true))) (.t 162))]
def R11_16t11:LO:=⟨some 161,.call (.c (.fn 24 [] [])) [.t 158,.t 160],some (156,false)⟩ :: R11_16t12
def R11_16t10:LO:=⟨some 160,.load false 1 (.t 159),some (156,false)⟩ :: R11_16t11
def R11_16t9:LO:=⟨some 159,.fieldAddr 7 (.t 13),some (156,false)⟩ :: R11_16t10
def R11_16t8:LO:=⟨some 158,.load false 1 (.t 157),some (156,false)⟩ :: R11_16t9
def R11_16t7:LO:=⟨some 157,.fieldAddr 7 (.t 12),some (156,false)⟩ :: R11_16t8
def R11_16p6:LO:=[qg 154 (.un .not (.t 153)) 148 false,q 155 (.pick (.t 148) (.c (.s (.bool true))) (.t 154)),oM 156 155]
def R11_16t6:LO:=R11_16p6 ++ R11_16t7
def R11_16t5:LO:=⟨some 153,.call (.c (.fn 24 [] [])) [.t 150,.t 152],some (148,false)⟩ :: R11_16t6
def R11_16t4:LO:=⟨some 152,.load false 1 (.t 151),some (148,false)⟩ :: R11_16t5
def R11_16t3:LO:=⟨some 151,.fieldAddr 6 (.t 13),some (148,false)⟩ :: R11_16t4
def R11_16t2:LO:=⟨some 150,.load false 1 (.t 149),some (148,false)⟩ :: R11_16t3
def R11_16t1:LO:=⟨some 149,.fieldAddr 6 (.t 12),some (148,false)⟩ :: R11_16t2
def R11_16p0:LO:=[oF 108 0 12,oL 109 108,oF 110 0 13,oL 111 110,q 112 (.bin .neq (.t 109) (.t 111)),oM 113 112,gF 114 1 12 113 false,gL 115 114 113 false,gF 116 1 13 113 false,gL 117 116 113 false,qg 118 (.bin .neq (.t 115) (.t 117)) 113 false,q 119 (.pick (.t 113) (.c (.s (.bool true))) (.t 118)),oM 120 119,gF 121 2 12 120 false,gL 122 121 120 false,gF 123 2 13 120 false,gL 124 123 120 false,qg 125 (.bin .neq (.t 122) (.t 124)) 120 false,q 126 (.pick (.t 120) (.c (.s (.bool true))) (.t 125)),oM 127 126,gF 128 3 12 127 false,gL 129 128 127 false,gF 130 3 13 127 false,gL 131 130 127 false,qg 132 (.bin .neq (.t 129) (.t 131)) 127 false,q 133 (.pick (.t 127) (.c (.s (.bool true))) (.t 132)),oM 134 133,gF 135 4 12 134 false,gL 136 135 134 false,gF 137 4 13 134 false,gL 138 137 134 false,qg 139 (.bin .neq (.t 136) (.t 138)) 134 false,q 140 (.pick (.t 134) (.c (.s (.bool true))) (.t 139)),oM 141 140,gF 142 5 12 141 false,gL 143 142 141 false,gF 144 5 13 141 false,gL 145 144 141 false,qg 146 (.bin .neq (.t 143) (.t 145)) 141 false,q 147 (.pick (.t 141) (.c (.s (.bool true))) (.t 146)),oM 148 147]
def R11_16:LO:=R11_16p0 ++ R11_16t1
def R11_17:LO:=[q 4 (.move (.c (.s (.bool false))))]
def R11_18:LO:=[oM 96 11,q 97 (.bin .add (.t 96) (.c (.s (.int .i64 1)))),oM 11 97]
def agu:ACode:=
 (.seq (.seq (.regionE R11_14 [91,92,93,94] [95])
 (.cond (.t 95)
 .skip
 (.exit 4)))
 (.seq (.block 5
 (.seq (.region R11_15 [] [95,98,99,100,101,102,103,104,105,106,107])
 (.seq (.region R11_16 [] [12,13,108,109,110,111,112,113,114,115,116,117,118,119,120,121,122,123,124,125,126,127,128,129,130,131,132,133,134,135,136,137,138,139,140,141,142,143,144,145,146,147,148,149,150,151,152,153,154,155,156,157,158,159,160,161,162])
 (.cond (.t 163)
 (.seq (.regionE R11_17 [2,3,5,6,7,8,9,10,11,163] [4])
 .ret)
 .skip))))
 (.regionE R11_18 [96,97,163] [11])))
def ahz:ACode:=agu
def R11_19:LO:=[oM 65 8,q 66 (.bin .add (.t 65) (.c (.s (.int .i64 1)))),oM 8 66]
def agt:ACode:=
 (.seq (.seq (.regionE R11_9 [60,61,62,63] [64])
 (.cond (.t 64)
 .skip
 (.exit 2)))
 (.seq (.block 3
 (.seq (.region R11_10 [] [64,67,68,69,70,71,72,73,74,75,76])
 (.seq (.seq (.regionE R11_11 [77,78,79,80,81,82,83,84,85,86,87,88,89] [90])
 (.cond (.t 90)
 (.seq (.regionE R11_12 [2,3,5,6,7,8,9,10,90] [4])
 .ret)
 .skip))
 (.seq (.regionE R11_13 [90] [11])
 (.block 4
 (.loop [] ahz))))))
 (.regionE R11_19 [9,10,11,65,66,95] [8])))
def ahy:ACode:=agt
def R11_20:LO:=[oM 26 5,q 27 (.bin .add (.t 26) (.c (.s (.int .i64 1)))),oM 5 27]
def ags:ACode:=
 (.seq (.seq (.regionE R11_4 [21,22,23,24] [25])
 (.cond (.t 25)
 .skip
 (.exit 0)))
 (.seq (.block 1
 (.seq (.region R11_5 [] [25,28,29,30,31,32,33,34,35,36,37])
 (.seq (.seq (.region R11_6 [] [38,39,40,41,42,43,44,45,46,47,48,49,50,51,52,53,54,55,56,57,58])
 (.cond (.t 59)
 (.seq (.regionE R11_7 [2,3,5,6,7,59] [4])
 .ret)
 .skip))
 (.seq (.regionE R11_8 [59] [8])
 (.block 2
 (.loop [] ahy))))))
 (.regionE R11_20 [6,7,8,26,27,64] [5])))
def ahx:ACode:=ags
def R11_21:LO:=[q 4 (.move (.c (.s (.bool true))))]
def alv:ACFun:={ ntmps:=164,results:=[.tmp 4],body:=
 (.seq (.region R11_0 [] K11_0)
 (.seq (.seq (.regionE R11_1 [14,15,16,17,18,19] [20])
 (.cond (.t 20)
 (.seq (.regionE R11_2 [2,3,20] [4])
 .ret)
 .skip))
 (.seq (.seq (.regionE R11_3 [20] [5])
 (.block 0
 (.loop [] ahx)))
 (.seq (.regionE R11_21 [2,3,5,25] [4])
 .ret)))) }
theorem aqs:ni (List.range' 2 (alv.ntmps - 2)) alv.body=true:=by kernel_rfl
abbrev a7z:Nat:=12
def K12_0:List Nat:=List.range' 0 75
theorem aqr:zi K12_0 (qb 75 [] 0)=[]:=by kernel_rfl
def R12_0:LO:=[q 0 (.move (.c (.s (.bool false))))]
def R12_1t6:LO:=[oM 3 8]
def R12_1t5:LO:=⟨none,.store 2 (.t 2) (.t 7),none⟩ :: R12_1t6
def R12_1t4:LO:=⟨none,.store 1 (.t 1) (.t 6),none⟩ :: R12_1t5
def R12_1t3:LO:=⟨some 2,.alloc [.s (.int .i64 0),.s (.int .i64 0)],none⟩ :: R12_1t4
def R12_1t2:LO:=⟨some 1,.alloc [.s (.slice none 0 0)],none⟩ :: R12_1t3
def R12_1p1:LO:=[oM 4 5,q 6 (.extract (.t 4) 0),q 7 (.extract (.t 4) 1),q 8 (.extract (.t 4) 2)]
def R12_1t1:LO:=R12_1p1 ++ R12_1t2
def R12_1:LO:=⟨some 5,.call (.c (.fn 9 [] [])) [.c (.s (.string ⟨#[102,117,110,99,32,109,97,105,110,40,112,41,32,123,10,97,58,32,59,32,120,10,32,32,120,32,61,32,102,105,101,108,100,32,112,32,51,10,32,32,114,101,116,10,125,10]⟩))],none⟩ :: R12_1t1
def R12_2:LO:=[oM 9 3,q 10 (.bin .eql (.t 9) (.c (.s (.int .i64 0)))),oM 11 10,gF 12 0 1 11 true,gL 13 12 11 true,qg 14 (.lenS .s (.t 13)) 11 true,qg 15 (.bin .eql (.t 14) (.c (.s (.int .i64 1)))) 11 true,q 16 (.pick (.t 11) (.t 15) (.c (.s (.bool false)))),oM 17 16,gF 18 0 1 17 true,gL 19 18 17 true,qg 20 (.indexAddr 3 (.t 19) (.c (.s (.int .i64 0)))) 17 true,gF 21 1 20 17 true,gL 22 21 17 true,qg 23 (.lenS .s (.t 22)) 17 true,qg 24 (.bin .eql (.t 23) (.c (.s (.int .i64 1)))) 17 true,q 25 (.pick (.t 17) (.t 24) (.c (.s (.bool false)))),oM 26 25,gF 27 0 1 26 true,gL 28 27 26 true,qg 29 (.indexAddr 3 (.t 28) (.c (.s (.int .i64 0)))) 26 true,gF 30 2 29 26 true,gL 31 30 26 true,qg 32 (.lenS .s (.t 31)) 26 true,qg 33 (.bin .eql (.t 32) (.c (.s (.int .i64 1)))) 26 true,q 34 (.pick (.t 26) (.t 33) (.c (.s (.bool false)))),oM 35 34,gF 36 0 1 35 true,gL 37 36 35 true,qg 38 (.indexAddr 3 (.t 37) (.c (.s (.int .i64 0)))) 35 true,gF 39 2 38 35 true,gL 40 39 35 true,qg 41 (.indexAddr 2 (.t 40) (.c (.s (.int .i64 0)))) 35 true,gF 42 1 41 35 true,gL 43 42 35 true,qg 44 (.lenS .s (.t 43)) 35 true,qg 45 (.bin .eql (.t 44) (.c (.s (.int .i64 2)))) 35 true,q 46 (.pick (.t 35) (.t 45) (.c (.s (.bool false)))),oM 47 46,gF 48 0 1 47 true,gL 49 48 47 true,qg 50 (.indexAddr 3 (.t 49) (.c (.s (.int .i64 0)))) 47 true,gF 51 2 50 47 true,gL 52 51 47 true,qg 53 (.indexAddr 2 (.t 52) (.c (.s (.int .i64 0)))) 47 true,gF 54 1 53 47 true,gL 55 54 47 true,qg 56 (.indexAddr 8 (.t 55) (.c (.s (.int .i64 0)))) 47 true,gF 57 4 56 47 true,gL 58 57 47 true,qg 59 (.bin .eql (.t 58) (.c (.s (.int .i64 3)))) 47 true,q 60 (.pick (.t 47) (.t 59) (.c (.s (.bool false)))),oM 61 60,gF 62 0 1 61 true,gL 63 62 61 true,qg 64 (.indexAddr 3 (.t 63) (.c (.s (.int .i64 0)))) 61 true,gF 65 2 64 61 true,gL 66 65 61 true,qg 67 (.indexAddr 2 (.t 66) (.c (.s (.int .i64 0)))) 61 true,gF 68 1 67 61 true,gL 69 68 61 true,qg 70 (.indexAddr 8 (.t 69) (.c (.s (.int .i64 0)))) 61 true,gF 71 2 70 61 true,gL 72 71 61 true,qg 73 (.bin .eql (.t 72) (.c (.s (.string ⟨#[112]⟩)))) 61 true,q 74 (.pick (.t 61) (.t 73) (.c (.s (.bool false)))),oM 0 74]
def alu:ACFun:={ ntmps:=75,results:=[.tmp 0],body:=
 (.seq (.regionE R12_0 K12_0 [])
 (.seq (.region R12_1 [] [2,4,5,6,7,8])
 (.seq (.regionE R12_2 [1,3,9,10,11,12,13,14,15,16,17,18,19,20,21,22,23,24,25,26,27,28,29,30,31,32,33,34,35,36,37,38,39,40,41,42,43,44,45,46,47,48,49,50,51,52,53,54,55,56,57,58,59,60,61,62,63,64,65,66,67,68,69,70,71,72,73,74] [0])
 .ret))) }
abbrev a7y:Nat:=24
def K24_0:List Nat:=List.range' 2 24
theorem aqo:zi K24_0 (qb 26 [] 2)=[]:=by kernel_rfl
def R24_0:LO:=[q 4 (.move (.c (.s (.bool false))))]
def R24_1:LO:=[oM 6 0,q 7 (.lenS .s (.t 6)),oM 8 1,q 9 (.lenS .s (.t 8)),q 10 (.bin .neq (.t 7) (.t 9))]
def R24_2:LO:=[q 4 (.move (.c (.s (.bool false))))]
def R24_3:LO:=[q 5 (.move (.c (.s (.int .i64 0))))]
def R24_4:LO:=[oM 11 5,oM 12 0,q 13 (.lenS .s (.t 12)),q 14 (.bin .lss (.t 11) (.t 13))]
def R24_5:LO:=[oM 17 0,oM 18 5,q 19 (.indexAddr 1 (.t 17) (.t 18)),oL 20 19,oM 21 1,oM 22 5,q 23 (.indexAddr 1 (.t 21) (.t 22)),oL 24 23,q 25 (.bin .neq (.t 20) (.t 24))]
def R24_6:LO:=[q 4 (.move (.c (.s (.bool false))))]
def R24_7:LO:=[oM 15 5,q 16 (.bin .add (.t 15) (.c (.s (.int .i64 1)))),oM 5 16]
def agp:ACode:=
 (.seq (.seq (.regionE R24_4 [11,12,13] [14])
 (.cond (.t 14)
 .skip
 (.exit 0)))
 (.seq (.block 1
 (.seq (.regionE R24_5 [14,17,18,19,20,21,22,23,24] [25])
 (.cond (.t 25)
 (.seq (.regionE R24_6 [0,1,5,25] [4])
 .ret)
 .skip)))
 (.regionE R24_7 [15,16,25] [5])))
def ahw:ACode:=agp
def R24_8:LO:=[q 4 (.move (.c (.s (.bool true))))]
def als:ACFun:={ ntmps:=26,results:=[.tmp 4],body:=
 (.seq (.regionE R24_0 K24_0 [])
 (.seq (.seq (.regionE R24_1 [6,7,8,9] [10])
 (.cond (.t 10)
 (.seq (.regionE R24_2 [0,1,10] [4])
 .ret)
 .skip))
 (.seq (.seq (.regionE R24_3 [10] [5])
 (.block 0
 (.loop [] ahw)))
 (.seq (.regionE R24_8 [0,1,5,14] [4])
 .ret)))) }
def ase:=ai (hQ K11_0p0 0) (ai (hK K11_0p0 1) (ai (hK K11_0p0 2) (ai (hQ K11_0p0 3) (ai (hQ K11_0p0 4) (ai X11_0 (ai (hP R11_0t1 [1] K11_0) (ai (hV R11_0t2 K11_0 [] 5 [] [] [.cc (.s (.bool false))]) (ai (hQ K11_0 0) (ai (hQ K11_0 1) (ai (hK K11_0 2) (ai (hK K11_0 3) (ai (hQ K11_0 4) (ai (hT R11_1 [14,15,16,17,18,19] [20] 21 [] [(20,.op (.bin .neq (.t 0) (.t 1)) [.op (.lenS .s (.t 0)) [eL (eF 0 (.t 2))],.op (.lenS .s (.t 0)) [eL (eF 0 (.t 3))]])] [sb [0,0,0],sb [0,0],sb [0],sb [1,0,0],sb [1,0],sb [1],sb []]) (ai (hT R11_2 [2,3,20] [4] 5 [] [(4,.c (.s (.bool false)))] [.cc (.s (.bool false))]) (ai (hT R11_3 [20] [5] 6 [] [(5,.c (.s (.int .i64 0)))] [.cc (.s (.int .i64 0))]) (ai (hT R11_4 [21,22,23,24] [25] 26 [] [(25,.op (.bin .lss (.t 0) (.t 1)) [.t 5,.op (.lenS .s (.t 0)) [eL (eF 0 (.t 2))]])] [.tt 5,sb [1,0,0],sb [1,0],sb [1],sb []]) (ai (hU R11_5 [25,28,29,30,31,33,34,35,36] [32,37] [25,28,29,30,31,32,33,34,35,36,37] 38 [] [(32,.op (.load true 3 (.t 0)) [.op (.indexAddr 3 (.t 0) (.t 1)) [eL (eF 0 (.t 2)),.t 5]]),(37,.op (.load true 3 (.t 0)) [.op (.indexAddr 3 (.t 0) (.t 1)) [eL (eF 0 (.t 3)),.t 5]])] [sb [0,0,0],sb [0,0],.tt 5,sb [0],sb [],.sub 1 [0,0,0] [],.sub 1 [0,0] [],.tt 5,.sub 1 [0] [],.sub 1 [] []]) (ai (hP R11_5t1 [] [25,28,29,30,31,32,33,34,35,36,37]) (ai (hP R11_5t2 [] [25,28,29,30,31,32,33,34,35,36,37]) (ai (hP R11_5t3 [32] [25,28,29,30,31,32,33,34,35,36,37]) (ai (hX R11_5t4 [25,28,29,30,31,32,33,34,35,36,37]) (ai (hU R11_6 [38,39,40,41,42] [43] [38,39,40,41,42,43,44,45,46,47,48,49,50,51,52,53,54,55,56,57,58] 44 [] [(43,.op (.bin .neq (.t 0) (.t 1)) [eL (eF 0 (.t 6)),eL (eF 0 (.t 7))])] [sb [0,0],sb [0],sb [1,0],sb [1],sb [],sb []]) (ai (hP R11_6t1 [] [38,39,40,41,42,43,44,45,46,47,48,49,50,51,52,53,54,55,56,57,58]) (ai (hP R11_6t2 [44] [38,39,40,41,42,43,44,45,46,47,48,49,50,51,52,53,54,55,56,57,58]) (ai (hP R11_6t3 [] [38,39,40,41,42,43,44,45,46,47,48,49,50,51,52,53,54,55,56,57,58]) (ai (hP R11_6t4 [46] [38,39,40,41,42,43,44,45,46,47,48,49,50,51,52,53,54,55,56,57,58]) (ai (hP R11_6t5 [45,47] [38,39,40,41,42,43,44,45,46,47,48,49,50,51,52,53,54,55,56,57,58]) (ai (hV R11_6t6 [38,39,40,41,42,43,44,45,46,47,48,49,50,51,52,53,54,55,56,57,58] [59] 60 [] [(59,.pick (.pick (.t 43) (.c (.s (.bool true))) (.op (.un .not (.t 0)) [.t 48])) (.c (.s (.bool true))) (.op (.bin .neq (.t 0) (.t 1)) [.op (.lenS .s (.t 0)) [eL (eF 2 (.t 6))],.op (.lenS .s (.t 0)) [eL (eF 2 (.t 7))]]))] [.sub 0 [0,2] [43],sb [0],sb [0],.sub 0 [2,0,0,0] [51],.sub 0 [2,0,0] [51],.sub 0 [2,0] [51],.sub 0 [2,1,0,0] [51],.sub 0 [2,1,0] [51],.sub 0 [2,1] [51],.sub 0 [2] [51],sb []]) (ai (hT R11_7 [2,3,5,6,7,59] [4] 5 [] [(4,.c (.s (.bool false)))] [.cc (.s (.bool false))]) (ai (hT R11_8 [59] [8] 9 [] [(8,.c (.s (.int .i64 0)))] [.cc (.s (.int .i64 0))]) (ai (hT R11_9 [60,61,62,63] [64] 65 [] [(64,.op (.bin .lss (.t 0) (.t 1)) [.t 8,.op (.lenS .s (.t 0)) [eL (eF 2 (.t 6))]])] [.tt 8,sb [1,0,0],sb [1,0],sb [1],sb []]) (ai (hU R11_10 [64,67,68,69,70,72,73,74,75] [71,76] [64,67,68,69,70,71,72,73,74,75,76] 77 [] [(71,.op (.load true 2 (.t 0)) [.op (.indexAddr 2 (.t 0) (.t 1)) [eL (eF 2 (.t 6)),.t 8]]),(76,.op (.load true 2 (.t 0)) [.op (.indexAddr 2 (.t 0) (.t 1)) [eL (eF 2 (.t 7)),.t 8]])] [sb [0,0,0],sb [0,0],.tt 8,sb [0],sb [],.sub 1 [0,0,0] [],.sub 1 [0,0] [],.tt 8,.sub 1 [0] [],.sub 1 [] []]) (ai (hP R11_10t1 [] [64,67,68,69,70,71,72,73,74,75,76]) (ai (hP R11_10t2 [] [64,67,68,69,70,71,72,73,74,75,76]) (ai (hP R11_10t3 [71] [64,67,68,69,70,71,72,73,74,75,76]) (ai (hX R11_10t4 [64,67,68,69,70,71,72,73,74,75,76]) (ai (hT R11_11 [77,78,79,80,81,82,83,84,85,86,87,88,89] [90] 91 [] [(90,.pick (.op (.bin .neq (.t 0) (.t 1)) [eL (eF 0 (.t 9)),eL (eF 0 (.t 10))]) (.c (.s (.bool true))) (.op (.bin .neq (.t 0) (.t 1)) [.op (.lenS .s (.t 0)) [eL (eF 1 (.t 9))],.op (.lenS .s (.t 0)) [eL (eF 1 (.t 10))]]))] [sb [0,0,0],sb [0,0],sb [0,1,0],sb [0,1],sb [0],sb [0],.sub 0 [2,0,0,0] [82],.sub 0 [2,0,0] [82],.sub 0 [2,0] [82],.sub 0 [2,1,0,0] [82],.sub 0 [2,1,0] [82],.sub 0 [2,1] [82],.sub 0 [2] [82],sb []]) (ai (hT R11_12 [2,3,5,6,7,8,9,10,90] [4] 5 [] [(4,.c (.s (.bool false)))] [.cc (.s (.bool false))]) (ai (hT R11_13 [90] [11] 12 [] [(11,.c (.s (.int .i64 0)))] [.cc (.s (.int .i64 0))]) (ai (hT R11_14 [91,92,93,94] [95] 96 [] [(95,.op (.bin .lss (.t 0) (.t 1)) [.t 11,.op (.lenS .s (.t 0)) [eL (eF 1 (.t 9))]])] [.tt 11,sb [1,0,0],sb [1,0],sb [1],sb []]) (ai (hU R11_15 [95,98,99,100,101,103,104,105,106] [102,107] [95,98,99,100,101,102,103,104,105,106,107] 108 [] [(102,.op (.load true 8 (.t 0)) [.op (.indexAddr 8 (.t 0) (.t 1)) [eL (eF 1 (.t 9)),.t 11]]),(107,.op (.load true 8 (.t 0)) [.op (.indexAddr 8 (.t 0) (.t 1)) [eL (eF 1 (.t 10)),.t 11]])] [sb [0,0,0],sb [0,0],.tt 11,sb [0],sb [],.sub 1 [0,0,0] [],.sub 1 [0,0] [],.tt 11,.sub 1 [0] [],.sub 1 [] []]) (ai (hP R11_15t1 [] [95,98,99,100,101,102,103,104,105,106,107]) (ai (hP R11_15t2 [] [95,98,99,100,101,102,103,104,105,106,107]) (ai (hP R11_15t3 [102] [95,98,99,100,101,102,103,104,105,106,107]) (ai (hX R11_15t4 [95,98,99,100,101,102,103,104,105,106,107]) (ai (hU R11_16 [108,109,110,111,112,113,114,115,116,117,118,119,120,121,122,123,124,125,126,127,128,129,130,131,132,133,134,135,136,137,138,139,140,141,142,143,144,145,146,147] [148] [12,13,108,109,110,111,112,113,114,115,116,117,118,119,120,121,122,123,124,125,126,127,128,129,130,131,132,133,134,135,136,137,138,139,140,141,142,143,144,145,146,147,148,149,150,151,152,153,154,155,156,157,158,159,160,161,162] 149 [] [(148,.pick (.pick (.pick (.pick (.pick (.op (.bin .neq (.t 0) (.t 1)) [eL (eF 0 (.t 12)),eL (eF 0 (.t 13))]) (.c (.s (.bool true))) (.op (.bin .neq (.t 0) (.t 1)) [eL (eF 1 (.t 12)),eL (eF 1 (.t 13))])) (.c (.s (.bool true))) (.op (.bin .neq (.t 0) (.t 1)) [eL (eF 2 (.t 12)),eL (eF 2 (.t 13))])) (.c (.s (.bool true))) (.op (.bin .neq (.t 0) (.t 1)) [eL (eF 3 (.t 12)),eL (eF 3 (.t 13))])) (.c (.s (.bool true))) (.op (.bin .neq (.t 0) (.t 1)) [eL (eF 4 (.t 12)),eL (eF 4 (.t 13))])) (.c (.s (.bool true))) (.op (.bin .neq (.t 0) (.t 1)) [eL (eF 5 (.t 12)),eL (eF 5 (.t 13))]))] [sb [0,0,0,0,0,0,0],sb [0,0,0,0,0,0],sb [0,0,0,0,0,1,0],sb [0,0,0,0,0,1],sb [0,0,0,0,0],sb [0,0,0,0,0],.sub 0 [0,0,0,0,2,0,0] [113],.sub 0 [0,0,0,0,2,0] [113],.sub 0 [0,0,0,0,2,1,0] [113],.sub 0 [0,0,0,0,2,1] [113],.sub 0 [0,0,0,0,2] [113],sb [0,0,0,0],sb [0,0,0,0],.sub 0 [0,0,0,2,0,0] [120],.sub 0 [0,0,0,2,0] [120],.sub 0 [0,0,0,2,1,0] [120],.sub 0 [0,0,0,2,1] [120],.sub 0 [0,0,0,2] [120],sb [0,0,0],sb [0,0,0],.sub 0 [0,0,2,0,0] [127],.sub 0 [0,0,2,0] [127],.sub 0 [0,0,2,1,0] [127],.sub 0 [0,0,2,1] [127],.sub 0 [0,0,2] [127],sb [0,0],sb [0,0],.sub 0 [0,2,0,0] [134],.sub 0 [0,2,0] [134],.sub 0 [0,2,1,0] [134],.sub 0 [0,2,1] [134],.sub 0 [0,2] [134],sb [0],sb [0],.sub 0 [2,0,0] [141],.sub 0 [2,0] [141],.sub 0 [2,1,0] [141],.sub 0 [2,1] [141],.sub 0 [2] [141],sb [],sb []]) (ai (hP R11_16t1 [] [12,13,108,109,110,111,112,113,114,115,116,117,118,119,120,121,122,123,124,125,126,127,128,129,130,131,132,133,134,135,136,137,138,139,140,141,142,143,144,145,146,147,148,149,150,151,152,153,154,155,156,157,158,159,160,161,162]) (ai (hP R11_16t2 [149] [12,13,108,109,110,111,112,113,114,115,116,117,118,119,120,121,122,123,124,125,126,127,128,129,130,131,132,133,134,135,136,137,138,139,140,141,142,143,144,145,146,147,148,149,150,151,152,153,154,155,156,157,158,159,160,161,162]) (ai (hP R11_16t3 [] [12,13,108,109,110,111,112,113,114,115,116,117,118,119,120,121,122,123,124,125,126,127,128,129,130,131,132,133,134,135,136,137,138,139,140,141,142,143,144,145,146,147,148,149,150,151,152,153,154,155,156,157,158,159,160,161,162]) (ai (hP R11_16t4 [151] [12,13,108,109,110,111,112,113,114,115,116,117,118,119,120,121,122,123,124,125,126,127,128,129,130,131,132,133,134,135,136,137,138,139,140,141,142,143,144,145,146,147,148,149,150,151,152,153,154,155,156,157,158,159,160,161,162]) (ai (hP R11_16t5 [150,152] [12,13,108,109,110,111,112,113,114,115,116,117,118,119,120,121,122,123,124,125,126,127,128,129,130,131,132,133,134,135,136,137,138,139,140,141,142,143,144,145,146,147,148,149,150,151,152,153,154,155,156,157,158,159,160,161,162]) (ai (hU R11_16t6 [148,153,154,155] [156] [12,13,108,109,110,111,112,113,114,115,116,117,118,119,120,121,122,123,124,125,126,127,128,129,130,131,132,133,134,135,136,137,138,139,140,141,142,143,144,145,146,147,148,149,150,151,152,153,154,155,156,157,158,159,160,161,162] 157 [] [(156,.pick (.t 148) (.c (.s (.bool true))) (.op (.un .not (.t 0)) [.t 153]))] [.sub 0 [2] [148],sb [],sb []]) (ai (hP R11_16t7 [12] [12,13,108,109,110,111,112,113,114,115,116,117,118,119,120,121,122,123,124,125,126,127,128,129,130,131,132,133,134,135,136,137,138,139,140,141,142,143,144,145,146,147,148,149,150,151,152,153,154,155,156,157,158,159,160,161,162]) (ai (hP R11_16t8 [157] [12,13,108,109,110,111,112,113,114,115,116,117,118,119,120,121,122,123,124,125,126,127,128,129,130,131,132,133,134,135,136,137,138,139,140,141,142,143,144,145,146,147,148,149,150,151,152,153,154,155,156,157,158,159,160,161,162]) (ai (hP R11_16t9 [13] [12,13,108,109,110,111,112,113,114,115,116,117,118,119,120,121,122,123,124,125,126,127,128,129,130,131,132,133,134,135,136,137,138,139,140,141,142,143,144,145,146,147,148,149,150,151,152,153,154,155,156,157,158,159,160,161,162]) (ai (hP R11_16t10 [159] [12,13,108,109,110,111,112,113,114,115,116,117,118,119,120,121,122,123,124,125,126,127,128,129,130,131,132,133,134,135,136,137,138,139,140,141,142,143,144,145,146,147,148,149,150,151,152,153,154,155,156,157,158,159,160,161,162]) (ai (hP R11_16t11 [158,160] [12,13,108,109,110,111,112,113,114,115,116,117,118,119,120,121,122,123,124,125,126,127,128,129,130,131,132,133,134,135,136,137,138,139,140,141,142,143,144,145,146,147,148,149,150,151,152,153,154,155,156,157,158,159,160,161,162]) (ai (hV R11_16t12 [12,13,108,109,110,111,112,113,114,115,116,117,118,119,120,121,122,123,124,125,126,127,128,129,130,131,132,133,134,135,136,137,138,139,140,141,142,143,144,145,146,147,148,149,150,151,152,153,154,155,156,157,158,159,160,161,162] [163] 164 [] [(163,.pick (.t 156) (.c (.s (.bool true))) (.op (.un .not (.t 0)) [.t 161]))] [.sub 0 [2] [156],sb []]) (ai (hT R11_17 [2,3,5,6,7,8,9,10,11,163] [4] 5 [] [(4,.c (.s (.bool false)))] [.cc (.s (.bool false))]) (ai (hT R11_18 [96,97,163] [11] 98 [] [(11,.op (.bin .add (.t 0) (.c (.s (.int .i64 1)))) [.t 11,.c (.s (.int .i64 1))])] [.tt 11,sb [],sb []]) (ai (hE ahz agu) (ai (hT R11_19 [9,10,11,65,66,95] [8] 67 [] [(8,.op (.bin .add (.t 0) (.c (.s (.int .i64 1)))) [.t 8,.c (.s (.int .i64 1))])] [.tt 8,sb [],sb []]) (ai (hE ahy agt) (ai (hT R11_20 [6,7,8,26,27,64] [5] 28 [] [(5,.op (.bin .add (.t 0) (.c (.s (.int .i64 1)))) [.t 5,.c (.s (.int .i64 1))])] [.tt 5,sb [],sb []]) (ai (hE ahx ags) (ai (hT R11_21 [2,3,5,25] [4] 5 [] [(4,.c (.s (.bool true)))] [.cc (.s (.bool true))]) (ai agt.eq_1 (ai agu.eq_1 (ags.eq_1)))))))))))))))))))))))))))))))))))))))))))))))))))))))))))))))))))))
def a_f12:=ai (hT R12_0 K12_0 [] 1 [] [] [.cc (.s (.bool false))]) (ai aqr (ai (hP R12_1 [] [2,4,5,6,7,8]) (ai (hU R12_1t1 [4,5] [6,7,8] [2,4,5,6,7,8] 9 [] [(6,.op (.extract (.t 0) 0) [.t 5]),(7,.op (.extract (.t 0) 1) [.t 5]),(8,.op (.extract (.t 0) 2) [.t 5])] [.tt 5,sb [],.sub 1 [] [],.sub 2 [] []]) (ai (hP R12_1t2 [] [2,4,5,6,7,8]) (ai (hP R12_1t3 [] [2,4,5,6,7,8]) (ai (hP R12_1t4 [6] [2,4,5,6,7,8]) (ai (hP R12_1t5 [2,7] [2,4,5,6,7,8]) (ai (hV R12_1t6 [2,4,5,6,7,8] [3] 4 [] [(3,.t 8)] [.tt 8]) ((hT R12_2 [1,3,9,10,11,12,13,14,15,16,17,18,19,20,21,22,23,24,25,26,27,28,29,30,31,32,33,34,35,36,37,38,39,40,41,42,43,44,45,46,47,48,49,50,51,52,53,54,55,56,57,58,59,60,61,62,63,64,65,66,67,68,69,70,71,72,73,74] [0] 75 [] [(0,.pick (.pick (.pick (.pick (.pick (.pick (.op (.bin .eql (.t 0) (.c (.s (.int .i64 0)))) [.t 3,.c (.s (.int .i64 0))]) (.op (.bin .eql (.t 0) (.c (.s (.int .i64 1)))) [.op (.lenS .s (.t 0)) [eL (eF 0 (.t 1))],.c (.s (.int .i64 1))]) (.c (.s (.bool false)))) (.op (.bin .eql (.t 0) (.c (.s (.int .i64 1)))) [.op (.lenS .s (.t 0)) [eL (eF 1 (.op (.indexAddr 3 (.t 0) (.c (.s (.int .i64 0)))) [eL (eF 0 (.t 1)),.c (.s (.int .i64 0))]))],.c (.s (.int .i64 1))]) (.c (.s (.bool false)))) (.op (.bin .eql (.t 0) (.c (.s (.int .i64 1)))) [.op (.lenS .s (.t 0)) [eL (eF 2 (.op (.indexAddr 3 (.t 0) (.c (.s (.int .i64 0)))) [eL (eF 0 (.t 1)),.c (.s (.int .i64 0))]))],.c (.s (.int .i64 1))]) (.c (.s (.bool false)))) (.op (.bin .eql (.t 0) (.c (.s (.int .i64 2)))) [.op (.lenS .s (.t 0)) [eL (eF 1 (.op (.indexAddr 2 (.t 0) (.c (.s (.int .i64 0)))) [eL (eF 2 (.op (.indexAddr 3 (.t 0) (.c (.s (.int .i64 0)))) [eL (eF 0 (.t 1)),.c (.s (.int .i64 0))])),.c (.s (.int .i64 0))]))],.c (.s (.int .i64 2))]) (.c (.s (.bool false)))) (.op (.bin .eql (.t 0) (.c (.s (.int .i64 3)))) [eL (eF 4 (.op (.indexAddr 8 (.t 0) (.c (.s (.int .i64 0)))) [eL (eF 1 (.op (.indexAddr 2 (.t 0) (.c (.s (.int .i64 0)))) [eL (eF 2 (.op (.indexAddr 3 (.t 0) (.c (.s (.int .i64 0)))) [eL (eF 0 (.t 1)),.c (.s (.int .i64 0))])),.c (.s (.int .i64 0))])),.c (.s (.int .i64 0))])),.c (.s (.int .i64 3))]) (.c (.s (.bool false)))) (.op (.bin .eql (.t 0) (.c (.s (.string ⟨#[112]⟩)))) [eL (eF 2 (.op (.indexAddr 8 (.t 0) (.c (.s (.int .i64 0)))) [eL (eF 1 (.op (.indexAddr 2 (.t 0) (.c (.s (.int .i64 0)))) [eL (eF 2 (.op (.indexAddr 3 (.t 0) (.c (.s (.int .i64 0)))) [eL (eF 0 (.t 1)),.c (.s (.int .i64 0))])),.c (.s (.int .i64 0))])),.c (.s (.int .i64 0))])),.c (.s (.string ⟨#[112]⟩))]) (.c (.s (.bool false))))] [.tt 3,sb [0,0,0,0,0,0],sb [0,0,0,0,0,0],.sub 0 [0,0,0,0,0,1,0,0,0] [11],.sub 0 [0,0,0,0,0,1,0,0] [11],.sub 0 [0,0,0,0,0,1,0] [11],.sub 0 [0,0,0,0,0,1] [11],sb [0,0,0,0,0],sb [0,0,0,0,0],.sub 0 [0,0,0,0,1,0,0,0,0,0,0] [17],.sub 0 [0,0,0,0,1,0,0,0,0,0] [17],.sub 0 [0,0,0,0,1,0,0,0,0] [17],.sub 0 [0,0,0,0,1,0,0,0] [17],.sub 0 [0,0,0,0,1,0,0] [17],.sub 0 [0,0,0,0,1,0] [17],.sub 0 [0,0,0,0,1] [17],sb [0,0,0,0],sb [0,0,0,0],.sub 0 [0,0,0,1,0,0,0,0,0,0] [26],.sub 0 [0,0,0,1,0,0,0,0,0] [26],.sub 0 [0,0,0,1,0,0,0,0] [26],.sub 0 [0,0,0,1,0,0,0] [26],.sub 0 [0,0,0,1,0,0] [26],.sub 0 [0,0,0,1,0] [26],.sub 0 [0,0,0,1] [26],sb [0,0,0],sb [0,0,0],.sub 0 [0,0,1,0,0,0,0,0,0,0,0,0] [35],.sub 0 [0,0,1,0,0,0,0,0,0,0,0] [35],.sub 0 [0,0,1,0,0,0,0,0,0,0] [35],.sub 0 [0,0,1,0,0,0,0,0,0] [35],.sub 0 [0,0,1,0,0,0,0,0] [35],.sub 0 [0,0,1,0,0,0,0] [35],.sub 0 [0,0,1,0,0,0] [35],.sub 0 [0,0,1,0,0] [35],.sub 0 [0,0,1,0] [35],.sub 0 [0,0,1] [35],sb [0,0],sb [0,0],.sub 0 [0,1,0,0,0,0,0,0,0,0,0,0,0] [47],.sub 0 [0,1,0,0,0,0,0,0,0,0,0,0] [47],.sub 0 [0,1,0,0,0,0,0,0,0,0,0] [47],.sub 0 [0,1,0,0,0,0,0,0,0,0] [47],.sub 0 [0,1,0,0,0,0,0,0,0] [47],.sub 0 [0,1,0,0,0,0,0,0] [47],.sub 0 [0,1,0,0,0,0,0] [47],.sub 0 [0,1,0,0,0,0] [47],.sub 0 [0,1,0,0,0] [47],.sub 0 [0,1,0,0] [47],.sub 0 [0,1,0] [47],.sub 0 [0,1] [47],sb [0],sb [0],.sub 0 [1,0,0,0,0,0,0,0,0,0,0,0] [61],.sub 0 [1,0,0,0,0,0,0,0,0,0,0] [61],.sub 0 [1,0,0,0,0,0,0,0,0,0] [61],.sub 0 [1,0,0,0,0,0,0,0,0] [61],.sub 0 [1,0,0,0,0,0,0,0] [61],.sub 0 [1,0,0,0,0,0,0] [61],.sub 0 [1,0,0,0,0,0] [61],.sub 0 [1,0,0,0,0] [61],.sub 0 [1,0,0,0] [61],.sub 0 [1,0,0] [61],.sub 0 [1,0] [61],.sub 0 [1] [61],sb [],sb []]))))))))))
def a9c:=ai (hT R24_0 K24_0 [] 5 [] [] [.cc (.s (.bool false))]) (ai aqo (ai (hK K24_0 0) (ai (hK K24_0 1) (ai (hT R24_1 [6,7,8,9] [10] 11 [] [(10,.op (.bin .neq (.t 0) (.t 1)) [.op (.lenS .s (.t 0)) [.t 0],.op (.lenS .s (.t 0)) [.t 1]])] [.tt 0,sb [0],.tt 1,sb [1],sb []]) (ai (hT R24_2 [0,1,10] [4] 5 [] [(4,.c (.s (.bool false)))] [.cc (.s (.bool false))]) (ai (hT R24_3 [10] [5] 6 [] [(5,.c (.s (.int .i64 0)))] [.cc (.s (.int .i64 0))]) (ai (hT R24_4 [11,12,13] [14] 15 [] [(14,.op (.bin .lss (.t 0) (.t 1)) [.t 5,.op (.lenS .s (.t 0)) [.t 0]])] [.tt 5,.tt 0,sb [1],sb []]) (ai (hT R24_5 [14,17,18,19,20,21,22,23,24] [25] 26 [] [(25,.op (.bin .neq (.t 0) (.t 1)) [eL (.op (.indexAddr 1 (.t 0) (.t 1)) [.t 0,.t 5]),eL (.op (.indexAddr 1 (.t 0) (.t 1)) [.t 1,.t 5])])] [.tt 0,.tt 5,sb [0,0],sb [0],.tt 1,.tt 5,sb [1,0],sb [1],sb []]) (ai (hT R24_6 [0,1,5,25] [4] 5 [] [(4,.c (.s (.bool false)))] [.cc (.s (.bool false))]) (ai (hT R24_7 [15,16,25] [5] 17 [] [(5,.op (.bin .add (.t 0) (.c (.s (.int .i64 1)))) [.t 5,.c (.s (.int .i64 1))])] [.tt 5,sb [],sb []]) (ai (hE ahw agp) (ai (hT R24_8 [0,1,5,14] [4] 5 [] [(4,.c (.s (.bool true)))] [.cc (.s (.bool true))]) (agp.eq_1)))))))))))))
theorem bcs:w9 Tryd.prog PX0 11=some (false,alv.ntmps,alv.results,alv.body.bare):=by kernel_rfl
theorem bcr:w9 Tryd.prog PX0 12=some (false,alu.ntmps,alu.results,alu.body.bare):=by kernel_rfl
theorem bcq:w9 Tryd.prog PX0 24=some (false,als.ntmps,als.results,als.body.bare):=by kernel_rfl
structure St (ρ:Nat) (lv:V) (ts:List Tok.T) (H:Heap) (a:Nat):Prop where
 g:getC H ρ 0=some [lv,Iz a]
 w:∃ m,qm m 5 H lv (ts.map tV)
 old:∀ id g n,lv=.sl id g 0 n 5→id < ρ
 lt:a < ts.length
 n:ts.length < 2 ^ 21
section
variable {ρ:Nat} {lv:V} {ts:List Tok.T} {H H':Heap} {a b:Nat}
theorem St.ne (h:St ρ lv ts H a):∀ id g n,lv=.sl id g 0 n 5→id≠ρ:=fun id g n e=>Nat.ne_of_lt (h.old id g n e)
theorem St.pos (h:St ρ lv ts H a):ρ < H.length:=oz h.g
theorem St.ext (h:St ρ lv ts H a) (e:Ext H H'):St ρ lv ts H' a:=by
 obtain ⟨m,w⟩:=h.w;refine ⟨gy h.g e,⟨m,w.keep fun id g n hv=>?_⟩,h.old,h.lt,h.n⟩;exact e.get (w.lt id g n hv)
theorem St.keep (h:St ρ lv ts H a) (k:ah H.length [ρ] H H') (g:getC H' ρ 0=some [lv,Iz b]) (hb:b < ts.length):St ρ lv ts H' b:=by
 obtain ⟨m,w⟩:=h.w;refine ⟨g,⟨m,w.keep fun id g n hv=>?_⟩,h.old,hb,h.n⟩
 exact k.2 id (w.lt id g n hv) (by rw [bi];exact h.ne id g n hv)
theorem St.keepL {L:Nat} (h:St ρ lv ts H a) (hL:ρ < L) (k:ah L [ρ] H H') (g:getC H' ρ 0=some [lv,Iz b]) (hb:b < ts.length):St ρ lv ts H' b:=by
 obtain ⟨m,w⟩:=h.w;refine ⟨g,⟨m,w.keep fun id g n hv=>?_⟩,h.old,hb,h.n⟩;have:=h.old id g n hv
 exact k.2 id (by omega) (by rw [bi];omega)
theorem St.tok (h:St ρ lv ts H a) (hb:b < ts.length):∃ id g o,kr 5 lv (.s (.int .i64 b))=some (.ref id g o)∧(∀ H',Ext H H'→uj H' true 5 (.ref id g o)=some (.agg (tV (ts.getD b tkE))))∧∀ H',Ext H H'→uj H' false 1 (.ref id g (o+3))=some (Iz (ts.getD b tkE).line):=by
 obtain ⟨m,w⟩:=h.w
 have hr:(ts.map tV)[b]?=some (tV (ts.getD b tkE)):=by rw [List.getElem?_map,aie hb tkE];rfl
 obtain ⟨x,h1,h2,h3⟩:=w.rd.at' b _ hr
 obtain ⟨_,⟨e,_⟩ | ⟨id,g,rfl,hc,_⟩⟩:=id w
 ·rw [e] at hr;cases hr
 ·have hx:=h1
  rw [atz,ed ⟨by omega,by rw [zu];omega,rfl⟩] at hx
  cases hx;obtain ⟨y,h4,h5⟩:=h3 3 _ rfl;rw [a4s] at h4;cases h4;exact ⟨_,_,_,h1,fun H' e=>afa e h2,fun H' e=>afa e h5⟩
end
section
variable {CT:Nat→Option CFun} {ρ:Nat} {lv:V} {ts:List Tok.T} {H:Heap} {a:Nat}
theorem xw (hT:CT amu=some (.code afn)) (base:Nat) (hb:base≤H.length) (h:St ρ lv ts H a):
 ∃ H',dw CT (.fn amu [] []) [.ref ρ 0 0] base H=some (.agg (tV (ts.getD a tkE)),H')∧Ext H H':=by
 obtain ⟨id,g,o,h1,h2,_⟩:=h.tok h.lt;obtain ⟨t,ht⟩:∃ t,ts.getD a tkE=t:=⟨_,rfl⟩;rw [ht] at h2 ⊢;have eH:∀ c,Ext H (H ++ [Ob.cells 0 c]):=fun c=>Ext.app _ _;have hg:=fun c=>gy h.g (eH c);have hl:=fun c=>h2 _ (eH c);have hgg:∀ c,getC (H ++ [Ob.cells 0 c]) H.length 0=some c:=fun c=>ji H 0 c;have hss:∀ c d,(H ++ [c]).set H.length d=H ++ [d]:=fun c d=>qo H c d
 have ldE:aal (H ++ [Ob.cells 0 (tV t)]) true 5 (.ref H.length 0 0)=some (.agg (tV t)):=by
  show uj _ true 5 _=_;rw [zl,hgg];rfl
 refine ⟨H ++ [Ob.cells 0 (tV t)],ng (c:=afn) (k:=1) hT rfl (by decide) aqp ?_,eH _⟩
 simp only [tV,Iz] at hg hl h1 ldE;simp only [tV,Iz,bl,afn,a_f16,aa,reduceIte,reduceCtorEq,Nat.reduceEqDiff,Nat.reduceLT,Nat.reduceLeDiff,Nat.reduceBEq,Nat.reduceAdd,Nat.reduceMul,hg,h1,hl,hb,hgg,hss]
 try (rw [ldE];rfl)
theorem adt (hN:CT amu=some (.code afn)) (hT:CT a2i=some (.code agj)) (base:Nat) (h:St ρ lv ts H a):
 ∃ H',dw CT (.fn a2i [] []) [.ref ρ 0 0] base H=some (bl ((Vw.of ts).same a),H')∧Ext H H':=by
 have hg:=h.g;have hlt:=h.lt;have hn:=h.n;by_cases h0:a=0
 ·subst h0
  refine ⟨H,oh (c:=agj) hT (by simp [agj]) ?_,Ext.refl _⟩
  have hc:¬ ((0:Nat):Int) > 0:=by omega
  simp only [Iz] at hg;simp only [Vw.of,Iz,bl,agj,bcl,aa,reduceIte,reduceCtorEq,Nat.reduceEqDiff,Nat.reduceLT,Nat.reduceLeDiff,Nat.reduceBEq,Nat.reduceAdd,Nat.reduceMul,hg,hc];rfl
 ·obtain ⟨H',n1,n2⟩:=xw hN H.length (ag _) h
  obtain ⟨id,g,o,h1,_,h2⟩:=h.tok (b:=a - 1) (by omega)
  have h3:=h2 H (Ext.refl _)
  refine ⟨H',oh (c:=agj) hT (by simp [agj]) ?_,n2⟩
  have hc:((a:Int) > 0):=by omega
  have hw:IntKind.i64.wrap ((a:Int) - 1)=((a - 1:Nat):Int):=by rw [IntKind.wrap_i64];omega
  simp only [Iz,tV] at hg n1 h1 h3;simp only [Vw.of,Iz,bl,agj,bcl,aa,reduceIte,reduceCtorEq,Nat.reduceEqDiff,Nat.reduceLT,Nat.reduceLeDiff,Nat.reduceBEq,Nat.reduceAdd,Nat.reduceMul,hg,hc,hw,h1,h3,n1,wh]
  have e1:(decide (a > 0) && (ts.getD (a - 1) tkE).line == (ts.getD a tkE).line)=(((ts.getD (a - 1) tkE).line:Int) == ((ts.getD a tkE).line:Int)):=by
   rw [af9 (by omega),pg,ma,jy,jy,ak7]
  rw [e1]
theorem ayk (hN:CT amu=some (.code afn)) (hS:CT a2i=some (.code agj)) (hT:CT a7s=some (.code aeu)) (base:Nat) (hb:base≤H.length) (h:St ρ lv ts H a) (s:ByteArray):
 ∃ H',dw CT (.fn a7s [] []) [.ref ρ 0 0,Sb s] base H=some (bl (isT (Vw.of ts) s.data.toList a),H')∧Ext H H':=by
 obtain ⟨H1,s1,s2⟩:=adt hN hS base h
 obtain ⟨H2,n1,n2⟩:=xw hN base (H:=H1) (by have:=s2.le;omega) (h.ext s2)
 obtain ⟨H3,m1,m2⟩:=xw hN base (H:=H2) (by have:=s2.le;have:=n2.le;omega) (h.ext (s2.trans n2))
 obtain ⟨t,ht⟩:∃ t,ts.getD a tkE=t:=⟨_,rfl⟩;obtain ⟨c,hc⟩:∃ c,(Vw.of ts).same a=c:=⟨_,rfl⟩
 have hk:(Vw.of ts).kind a=t.kind:=by rw [← ht];rfl
 have hx:(Vw.of ts).text a=t.text:=by rw [← ht];rfl
 unfold isT;rw [ht] at n1 m1;rw [hc] at s1 ⊢;rw [hk,hx];simp only [tV,Iz,bl] at s1 n1 m1;cases c with
 | false=>
   refine ⟨H1,oh (c:=aeu) hT (by simp [aeu]) ?_,s2⟩
   simp only [Iz,Sb,bl,aeu,a88,aa,reduceIte,reduceCtorEq,Nat.reduceEqDiff,Nat.reduceLT,Nat.reduceLeDiff,Nat.reduceBEq,Nat.reduceAdd,Nat.reduceMul,s1,ug]
 | true=>
   by_cases h3:t.kind=3
   ·refine ⟨H3,oh (c:=aeu) hT (by simp [aeu]) ?_,s2.trans (n2.trans m2)⟩
    have k1:(((t.kind:Nat):Int) == 3)=true:=by rw [h3];rfl
    have k2:(t.kind == 3)=true:=by rw [h3];rfl
    simp only [Iz,Sb,bl,aeu,a88,aa,reduceIte,reduceCtorEq,Nat.reduceEqDiff,Nat.reduceLT,Nat.reduceLeDiff,Nat.reduceBEq,Nat.reduceAdd,Nat.reduceMul,s1,n1,m1,k1,k2,pg]
   ·refine ⟨H2,oh (c:=aeu) hT (by simp [aeu]) ?_,s2.trans n2⟩
    have k1:(((t.kind:Nat):Int) == 3)=false:=by rw [gp];omega
    have k2:(t.kind == 3)=false:=by rw [gp];exact h3
    simp only [Iz,Sb,bl,aeu,a88,aa,reduceIte,reduceCtorEq,Nat.reduceEqDiff,Nat.reduceLT,Nat.reduceLeDiff,Nat.reduceBEq,Nat.reduceAdd,Nat.reduceMul,s1,n1,k1,k2,ug,apr]
theorem akg (hN:CT amu=some (.code afn)) (hT:CT a7t=some (.code ac1)) (base:Nat) (hb:base≤H.length) (h:St ρ lv ts H a) (h1:(ts.getD a tkE).kind=1→a+1 < ts.length) (s:ByteArray):
 ∃ H',dw CT (.fn a7t [] []) [.ref ρ 0 0,Sb s] base H=some (bl (auk (Vw.of ts) s.data.toList a),H')∧Ext H H':=by
 obtain ⟨H1,n1,n2⟩:=xw hN base hb h;obtain ⟨t,ht⟩:∃ t,ts.getD a tkE=t:=⟨_,rfl⟩;obtain ⟨w,hw⟩:∃ w,ts.getD (a+1) tkE=w:=⟨_,rfl⟩
 have hk:(Vw.of ts).kind a=t.kind:=by rw [← ht];rfl
 have hk':(Vw.of ts).kind (a+1)=w.kind:=by rw [← hw];rfl
 have hx':(Vw.of ts).text (a+1)=w.text:=by rw [← hw];rfl
 have hs':(Vw.of ts).same (a+1)=((w.line:Int) == (t.line:Int)):=by
  show (decide (a+1 > 0) && (ts.getD (a+1 - 1) tkE).line == (ts.getD (a+1) tkE).line)=_
  rw [af9 (by omega),pg,Nat.add_sub_cancel,ht,hw,ma,jy,jy,ak7,eq_comm]
 unfold auk;rw [ht] at n1 h1;rw [hk,hk',hx',hs'];simp only [tV,Iz,bl] at n1;by_cases hq:t.kind=1
 ·have k1:(((t.kind:Nat):Int) != 1)=false:=by rw [bd0];omega
  have k2:(t.kind == 1)=true:=by rw [hq];rfl
  have hlt:=h1 hq;have h':=h.ext n2;have hg:=h'.g;have hn:=h.n
  have hwr:IntKind.i64.wrap ((a:Int)+1)=((a+1:Nat):Int):=w64 (by omega)
  obtain ⟨id,g,o,y1,y2,y3⟩:=h'.tok hlt;rw [hw] at y2;have y4:=y2 H1 (Ext.refl _);obtain ⟨H2,hH2⟩:∃ X,H1 ++ [Ob.cells 0 (tV w)]=X:=⟨_,rfl⟩;have e2:Ext H1 H2:=hH2 ▸ Ext.app _ _
  have l2:H2.length=H1.length+1:=by rw [← hH2,jf]
  have g2:getC H2 H1.length 0=some (tV w):=hH2 ▸ ji H1 0 _;have hss:∀ c d,(H1 ++ [c]).set H1.length d=H1 ++ [d]:=fun c d=>qo H1 c d;have hgg:∀ c,getC (H1 ++ [Ob.cells 0 c]) H1.length 0=some c:=fun c=>ji H1 0 c
  have hb1:base≤H1.length:=by have:=n2.le;omega
  obtain ⟨H3,m1,m2⟩:=xw hN H2.length (H:=H2) (ag _) (h'.ext e2);rw [ht,l2] at m1;simp only [tV,Iz] at hg y1 y4 hH2 g2 m1;by_cases h3:w.kind=3
  ·have k3:(((w.kind:Nat):Int) == 3)=true:=by rw [h3];rfl
   have k4:(w.kind == 3)=true:=by rw [h3];rfl
   cases hz:(w.text == s.data.toList) with
   | true=>
     refine ⟨H3,oh (c:=ac1) hT (by simp [ac1]) ?_,n2.trans (e2.trans m2)⟩
     simp only [Iz,Sb,bl,ac1,a4l,aa,reduceIte,reduceCtorEq,Nat.reduceEqDiff,Nat.reduceLT,Nat.reduceLeDiff,Nat.reduceBEq,Nat.reduceAdd,Nat.reduceMul,n1,k1,k2,hg,hwr,y1,y4,hgg,hss,hb1,hH2,g2,k3,k4,hz,l2,m1,pg,wh]
   | false=>
     refine ⟨H2,oh (c:=ac1) hT (by simp [ac1]) ?_,n2.trans e2⟩
     simp only [Iz,Sb,bl,ac1,a4l,aa,reduceIte,reduceCtorEq,Nat.reduceEqDiff,Nat.reduceLT,Nat.reduceLeDiff,Nat.reduceBEq,Nat.reduceAdd,Nat.reduceMul,n1,k1,k2,hg,hwr,y1,y4,hgg,hss,hb1,hH2,g2,k3,k4,hz,pg,ug,apr]
  ·have k3:(((w.kind:Nat):Int) == 3)=false:=by rw [gp];omega
   have k4:(w.kind == 3)=false:=by rw [gp];exact h3
   refine ⟨H2,oh (c:=ac1) hT (by simp [ac1]) ?_,n2.trans e2⟩
   simp only [Iz,Sb,bl,ac1,a4l,aa,reduceIte,reduceCtorEq,Nat.reduceEqDiff,Nat.reduceLT,Nat.reduceLeDiff,Nat.reduceBEq,Nat.reduceAdd,Nat.reduceMul,n1,k1,k2,hg,hwr,y1,y4,hgg,hss,hb1,hH2,g2,k3,k4,pg,ug,apr]
 ·have k1:(((t.kind:Nat):Int) != 1)=true:=by rw [p8];omega
  have k2:(t.kind == 1)=false:=by rw [gp];exact hq
  refine ⟨H1,oh (c:=ac1) hT (by simp [ac1]) ?_,n2⟩
  simp only [Iz,Sb,bl,ac1,a4l,aa,reduceIte,reduceCtorEq,Nat.reduceEqDiff,Nat.reduceLT,Nat.reduceLeDiff,Nat.reduceBEq,Nat.reduceAdd,Nat.reduceMul,n1,k1,k2,ug]
end
end Go.Proofs.YtbocmenkkjbigaaDoor
namespace Go.AM
open Go.RowKit
section
variable {call:kz} {pan:atr} {it it':yn} {base:Nat} {CP:Nat→Option CFun} {PP:Nat→List V→Nat→Heap→aaj→Prop} {X:Nat→Bool}
theorem af3 {vs:List V} {k n:Nat} (hk:vs.length=k) (hl:k≤n):AgD (List.range' k (n - k)) (fe n (qb n vs 0)) (fe n (yt vs 0)):=by
 refine ⟨by rw [qf,qf],fun s hs=>?_⟩
 by_cases hn:s < n
 ·rw [acp hn,acp hn]
  have hs':s < k:=by
   apply Nat.lt_of_not_le;intro h;apply hs;rw [List.mem_range']
   exact ⟨s - k,by omega,by omega⟩
  rw [ag4 _ _ 0 s (iw _) hn (by omega),ed (by omega),ajg _ 0 s (iw _) (by omega)]
 ·simp [fe,List.getD,hn]
theorem asy {post:List AOper} (i:Nat):∀ {pre:List AOper} {fr fr1:List V} {H H1:Heap},jl call base pre fr H=some (fr1,H1)→ajw call base (pre.length+i) (pre ++ post) fr H=ajw call base i post fr1 H1:=by
 intro pre
 induction pre with
 | nil=>
   intro fr fr1 H H1 h;cases h;rw [gq,lh];rfl
 | cons o os ih=>
   intro fr fr1 H H1 h
   rw [cu,show os.length+1+i=(os.length+i)+1 by omega]
   show ajw call base ((os.length+i)+1) (o :: (os ++ post)) fr H=_;simp only [jl] at h;simp only [ajw];cases hw:want o fr with
   | none=>rw [hw] at h;cases h
   | some b=>
     rw [hw] at h;cases b with
     | false=>exact ih h
     | true=>
       simp only at h ⊢;cases he:je call base fr H o.op with
       | none=>rw [he] at h;cases h
       | some p=>
         obtain ⟨v,H'⟩:=p;rw [he] at h;exact ih h
theorem ky {a b:ACode} {fr fr1:List V} {H H1:Heap} (h:evC call it base a fr H=some (.nrm,fr1,H1)):evC call it base (.seq a b) fr H=evC call it base b fr1 H1:=by simp only [evC,h]
theorem adn {i:Nat} {a:ACode} {fr fr1:List V} {H H1:Heap} (h:evC call it base a fr H=some (.nrm,fr1,H1)):evC call it base (.block i a) fr H=some (.nrm,fr1,H1):=by simp only [evC,h]
theorem a3s {i j:Nat} {a:ACode} {fr fr1:List V} {H H1:Heap} (hj:(j == i)=false) (h:evC call it base a fr H=some (.ext j,fr1,H1)):evC call it base (.block i a) fr H=some (.ext j,fr1,H1):=by simp [evC,h,hj,gp.1 hj,qc (gp.1 hj)]
theorem ane {i:Nat} {a:ACode} {fr fr1:List V} {H H1:Heap} (h:evC call it base a fr H=some (.ret,fr1,H1)):evC call it base (.block i a) fr H=some (.ret,fr1,H1):=by simp only [evC,h]
theorem ah5 {c:Opd} {a b:ACode} {fr:List V} {H:Heap} (h:ev fr c=.s (.bool true)):evC call it base (.cond c a b) fr H=evC call it base a fr H:=by simp only [evC,h]
theorem ah6 {c:Opd} {a b:ACode} {fr:List V} {H:Heap} (h:ev fr c=.s (.bool false)):evC call it base (.cond c a b) fr H=evC call it base b fr H:=by simp only [evC,h]
theorem jg (u v:V) (args:List V) (b:Nat) (H:Heap):yx u v args b H=some (u,H):=rfl
theorem afx {A B:List AOper} {o:AOper} {chk:List (Nat × Nat)} {kill:List Nat} {fr f1 f2 f3:List V} {H H1 H2 H3:Heap} (hA:jl call base A fr H=some (f1,H1)) (ho:jl call base [o] f1 H1=some (f2,H2)) (hB:jl call base B f2 H2=some (f3,H3)) (hc:o.op.isCallB=true)
 (hchk:∀ p∈chk,p.2=A.length∧∃ q,ax5 f3 ((A ++ o :: B).getD p.1 default).op=some q∧∀ id,q=some id→H2[id]?=H1[id]?):evC call it base (.region (A ++ o :: B) chk kill) fr H=some (.nrm,ou kill f3,H3):=by
 have h2:jl call base (A ++ [o]) fr H=some (f2,H2):=by rw [adm,hA];exact ho
 have h3:jl call base (A ++ o :: B) fr H=some (f3,H3):=by
  rw [show A ++ o :: B=(A ++ [o]) ++ B by simp,adm,h2];exact hB
 refine atg h3 ?_;rw [aj];intro p hp;obtain ⟨e,q,hq,hk⟩:=hchk p hp
 have t1:(A ++ o :: B).take p.2=A:=by rw [e];simp
 have t2:(A ++ o :: B).take (p.2+1)=A ++ [o]:=by
  rw [e,show A ++ o :: B=(A ++ [o]) ++ B by simp,show A.length+1=(A ++ [o]).length by simp,List.take_left]
 have t3:(A ++ o :: B).getD p.2 default=o:=by rw [e];simp
 have key:aba call base (A ++ o :: B) fr H f3 p.2 p.1=true:=by
  unfold aba;rw [t1,t2,hA,h2,hq];cases q with
  | none=>rfl
  | some id=>exact @af9 _ (Classical.propDecidable _) (hk id rfl)
 simp only [aa5,t3,hc,key,yj,bdx,az2]
theorem aoh {C:aca} {ops pre post:List AOper} {chk:List (Nat × Nat)} {kill:List Nat} {fr fr1:List V} {H H1:Heap} {d:Option Nat} {f:Opd} {xs:List Opd} {r:aaj} (u:V) (hC:C ops fr) (e:ops=pre ++ ⟨d,.call f xs,none⟩ :: post) (h1:jl call base pre fr H=some (fr1,H1)) (h2:pan (ev fr1 f) (xs.map (ev fr1)) base H1 r) (h3:(evC (yx u) it' base (.region ops chk kill) fr H).isSome=true):abf call pan it base C (.region ops chk kill) fr H r:=by
 refine ⟨hC,⟨pre.length+0,_,_,_,?_,h2⟩,?_⟩
 ·rw [e,asy 0 h1];rfl
 ·simp only [evC] at h3;cases he:jl (yx u) base ops fr H with
  | none=>rw [he] at h3;cases h3
  | some p=>
    obtain ⟨fr',H'⟩:=p;rw [he] at h3;simp only at h3;refine ⟨u,fr',H',he,?_⟩;cases hc:chk.all (aa5 (yx u) base ops fr H fr') with
    | true=>rfl
    | false=>rw [hc] at h3;cases h3
theorem mh {ops pre post:List AOper} {chk:List (Nat × Nat)} {kill:List Nat} {fr fr1:List V} {H H1:Heap} {d:Option Nat} {f:Opd} {xs:List Opd} {r:aaj} (u:V) (e:ops=pre ++ ⟨d,.call f xs,none⟩ :: post) (h1:jl call base pre fr H=some (fr1,H1)) (h2:pan (ev fr1 f) (xs.map (ev fr1)) base H1 r) (h3:(evC (yx u) it' base (.region ops chk kill) fr H).isSome=true):abf call pan it base (fun _ _=>True) (.region ops chk kill) fr H r:=by
 refine ⟨trivial,⟨pre.length+0,_,_,_,?_,h2⟩,?_⟩
 ·rw [e,asy 0 h1];rfl
 ·simp only [evC] at h3;cases he:jl (yx u) base ops fr H with
  | none=>rw [he] at h3;cases h3
  | some p=>
    obtain ⟨fr',H'⟩:=p;rw [he] at h3;simp only at h3;refine ⟨u,fr',H',he,?_⟩;cases hc:chk.all (aa5 (yx u) base ops fr H fr') with
    | true=>rfl
    | false=>rw [hc] at h3;cases h3
theorem aoi {ops pre1 pre2 post:List AOper} {chk:List (Nat × Nat)} {kill:List Nat} {fr fr1 fr3:List V} {H H1 H2 H3:Heap} {d d1:Option Nat} {f f1:Opd} {xs xs1:List Opd} {v:V} {r:aaj} (u:V) (e:ops=pre1 ++ ⟨d1,.call f1 xs1,none⟩ :: (pre2 ++ ⟨d,.call f xs,none⟩ :: post)) (h1:jl call base pre1 fr H=some (fr1,H1)) (c1:call (ev fr1 f1) (xs1.map (ev fr1)) base H1=some (v,H2)) (h2:jl call base pre2 (put d1 v fr1) H2=some (fr3,H3)) (hp:pan (ev fr3 f) (xs.map (ev fr3)) base H3 r) (h3:(evC (yx u) it' base (.region ops chk kill) fr H).isSome=true):abf call pan it base (fun _ _=>True) (.region ops chk kill) fr H r:=by
 have e':ops=(pre1 ++ ⟨d1,.call f1 xs1,none⟩ :: pre2) ++ ⟨d,.call f xs,none⟩ :: post:=by rw [e,ja,au]
 refine mh (it':=it') (pre:=pre1 ++ ⟨d1,.call f1 xs1,none⟩ :: pre2) (post:=post) (d:=d) (fr1:=fr3) (H1:=H3) u e' ?_ hp h3;rw [ajl,h1];simp only [jl,want,je,c1];exact h2
theorem uf {C:aca} {c:Opd} {a b:ACode} {fr:List V} {H:Heap} {r:aaj} (hc:ev fr c=.s (.bool true)) (h:abf call pan it base C a fr H r):abf call pan it base C (.cond c a b) fr H r:=.inl ⟨hc,h⟩
theorem aa3 {C:aca} {c:Opd} {a b:ACode} {fr:List V} {H:Heap} {r:aaj} (hc:ev fr c=.s (.bool false)) (h:abf call pan it base C b fr H r):abf call pan it base C (.cond c a b) fr H r:=.inr ⟨hc,h⟩
theorem qi {f:Nat} {c:ACFun} (hX:X f=true) (hf:CP f=some (.code c)) {fst args cap:List V} {k:Nat} (hk:(fst ++ args ++ cap).length=k) (hl:k≤c.ntmps) (hfirst:ni (List.range' k (c.ntmps - k)) c.body=true) {H H1:Heap} {fr1:List V} {r:aaj} {a b:ACode} (hb:c.body=.seq a b)
 (h1:evC (dw CP) itW base a (fe c.ntmps (yt (fst ++ args ++ cap) 0)) H=some (.nrm,fr1,H1)) (h2:abf (dw CP) (anm CP PP X) itW base (fun _ _=>True) b fr1 H1 r):anm CP PP X (.fn f fst cap) args base H r:=by
 refine aa2 hX hf (by omega) ?_
 rw [hb];refine eu ?_ h2;rw [hb] at hfirst;rw [zz a H hfirst (af3 hk hl)];exact h1
theorem axd {f:Nat} {c:ACFun} (hX:X f=true) (hf:CP f=some (.code c)) {fst args cap:List V} {k:Nat} (hk:(fst ++ args ++ cap).length=k) (hl:k≤c.ntmps) (hfirst:ni (List.range' k (c.ntmps - k)) c.body=true) {H H1:Heap} {fr1:List V} {r:aaj} {a b d:ACode} (hb:c.body=.seq (.seq a b) d)
 (h1:evC (dw CP) itW base a (fe c.ntmps (yt (fst ++ args ++ cap) 0)) H=some (.nrm,fr1,H1)) (h2:abf (dw CP) (anm CP PP X) itW base (fun _ _=>True) b fr1 H1 r):anm CP PP X (.fn f fst cap) args base H r:=by
 refine aa2 hX hf (by omega) ?_
 rw [hb];refine mf (eu ?_ h2);rw [hb] at hfirst;rw [zz a H hfirst (af3 hk hl)];exact h1
theorem xz {f:Nat} {c:ACFun} (hX:X f=true) (hf:CP f=some (.code c)) {fst args cap:List V} {k:Nat} (hk:(fst ++ args ++ cap).length=k) (hl:k≤c.ntmps) (hfirst:ni (List.range' k (c.ntmps - k)) c.body=true) {H H1:Heap} {fr1:List V} {r:aaj} {ops pre post:List AOper} {kill:List Nat} {d:Option Nat} {g:Opd} {xs:List Opd} (hb:c.body=.region ops [] kill∨∃ b,c.body=.seq (.region ops [] kill) b) (u:V) (e:ops=pre ++ ⟨d,.call g xs,none⟩ :: post) (h1:jl (dw CP) base pre (fe c.ntmps (qb c.ntmps (fst ++ args ++ cap) 0)) H=some (fr1,H1)) (h2:anm CP PP X (ev fr1 g) (xs.map (ev fr1)) base H1 r)
 (h3:(evC (yx u) itW base (.region ops [] kill) (fe c.ntmps (yt (fst ++ args ++ cap) 0)) H).isSome=true):anm CP PP X (.fn f fst cap) args base H r:=by
 refine aa2 hX hf (by omega) ?_
 have hfr:ni (List.range' k (c.ntmps - k)) (.region ops [] kill)=true:=by
  rcases hb with hb | ⟨b,hb⟩ <;> (rw [hb] at hfirst;exact hfirst)
 have key:abf (dw CP) (anm CP PP X) itW base (fun _ _=>True) (.region ops [] kill) (fe c.ntmps (qb c.ntmps (fst ++ args ++ cap) 0)) H r:=by
  refine mh (it':=itW) u e h1 h2 ?_;rw [zz (.region ops [] kill) H hfr (af3 hk hl)];exact h3
 rcases hb with hb | ⟨b,hb⟩
 ·rw [hb];exact key
 ·rw [hb];exact mf key
theorem axe {f:Nat} {c:ACFun} (hX:X f=true) (hf:CP f=some (.code c)) {fst args cap:List V} (hl:(fst ++ args ++ cap).length≤c.ntmps) {H:Heap} {r:aaj} {a:ACode} (hb:c.body=a∨∃ b,c.body=.seq a b) (key:abf (dw CP) (anm CP PP X) itW base (fun _ _=>True) a (fe c.ntmps (qb c.ntmps (fst ++ args ++ cap) 0)) H r):anm CP PP X (.fn f fst cap) args base H r:=by
 refine aa2 hX hf hl ?_
 rcases hb with hb | ⟨b,hb⟩
 ·rw [hb];exact key
 ·rw [hb];exact mf key
theorem au7 {c:ACFun} {vs:List V} {k:Nat} (hk:vs.length=k) (hl:k≤c.ntmps) (hfirst:ni (List.range' k (c.ntmps - k)) c.body=true) {a:ACode} (hb:c.body=a∨∃ b,c.body=.seq a b) {H:Heap} (h:(evC call it base a (fe c.ntmps (yt vs 0)) H).isSome=true):(evC call it base a (fe c.ntmps (qb c.ntmps vs 0)) H).isSome=true:=by
 have hfr:ni (List.range' k (c.ntmps - k)) a=true:=by
  rcases hb with hb | ⟨b,hb⟩ <;> (rw [hb] at hfirst;exact hfirst)
 rw [zz a H hfr (af3 hk hl)];exact h
end
end Go.AM
set_option maxRecDepth 100000
namespace Go.Proofs.YtbocmenkkjbigaaDoor
open Go.AM
abbrev aaq:Nat:=57
abbrev tk0:List V:=[V.s (.int .u8 0),.s (.string ⟨#[]⟩),.s (.int .i64 0),.s (.int .i64 0),.s (.int .i64 0)]
def bca (CT:Nat→Option CFun):Nat→List V→Nat→Heap→aaj→Prop:=fun k vs base H r=>k=bby∧∃ v cs H1 n,vs=[v]∧xh CT n (.fn amu [] []) [v] base H=some (.agg cs,H1)∧cs.length=5∧cs.all V.one=true∧r=(aaq,.agg cs,H1)
def Xr:Nat→Bool:=fun k=>[ayh,a2k,a2j,aj6,ayi,amr,arh,amq,arf,ard,amt,ams,ark,arj,ari,ao3,ao5].contains k
abbrev Pn (CT:Nat→Option CFun):atr:=anm CT (bca CT) Xr
structure Wf (ts:List Tok.T):Prop where
 nx:∀ a,a < ts.length→(ts.getD a tkE).kind≠4→a+1 < ts.length
 nm:∀ a,a < ts.length→(ts.getD a tkE).kind=1→(ts.getD a tkE).text≠[]
structure RdT (CT:Nat→Option CFun):Prop where
 now:CT amu=some (.code afn)
 same:CT a2i=some (.code agj)
 is':CT a7s=some (.code aeu)
 second:CT a7t=some (.code ac1)
 take:CT ayh=some (.code aiy)
 name:CT aj6=some (.code ajy)
 sign:CT a2k=some (.code ai0)
 begin':CT a2j=some (.code agk)
theorem ah.of_ext {H H':Heap} {ρ:Nat} (e:Ext H H'):ah H.length [ρ] H H':=e.d _
theorem ah.setr {H H':Heap} {ρ:Nat} (k:ah H.length [ρ] H H') (ob:Ob):ah H.length [ρ] H (H'.set ρ ob):=⟨by rw [bu];exact k.1,fun id h1 h2=>by
 rw [bi] at h2;rw [List.getElem?_set_ne (qc h2)]
 exact k.2 id h1 (by rw [bi];exact h2)⟩
theorem ah.setn {H H':Heap} {ρ q:Nat} (k:ah H.length [ρ] H H') (hq:H.length≤q) (ob:Ob):ah H.length [ρ] H (H'.set q ob):=⟨by rw [bu];exact k.1,fun id h1 h2=>by
 rw [List.getElem?_set_ne (by omega)]
 exact k.2 id h1 h2⟩
theorem ah.then' {A B C:Heap} {ρ:Nat} (h:ah A.length [ρ] A B) (k:ah B.length [ρ] B C):ah A.length [ρ] A C:=ah.trans h k h.1
section
variable {CT:Nat→Option CFun} {ρ:Nat} {lv:V} {ts:List Tok.T} {H:Heap} {a:Nat}
theorem aad (hN:CT amu=some (.code afn)) (base:Nat) (hb:base≤H.length) (h:St ρ lv ts H a):
 ∃ H',Pn CT (.fn bby [] []) [.ref ρ 0 0] base H (aaq,.agg (tV (ts.getD a tkE)),H')∧Ext H H':=by
 obtain ⟨H',n1,n2⟩:=xw hN base hb h;obtain ⟨n,hn⟩:=acu n1;exact ⟨H',axf ⟨rfl,_,_,_,n,rfl,hn,rfl,rfl,rfl⟩,n2⟩
theorem av5 (hR:RdT CT) (base:Nat) (hb:base≤ρ) (h:St ρ lv ts H a) (k:Nat) (hk:((Vw.of ts).same a && (Vw.of ts).kind a == k)=true):
 ∃ H',dw CT (.fn ayh [] []) [.ref ρ 0 0,.s (.int .u8 k)] base H=some (.agg (tV (ts.getD a tkE)),H')∧ah H.length [ρ] H H'∧getC H' ρ 0=some [lv,Iz (a+1:Nat)]:=by
 rw [ak,jy] at hk;obtain ⟨k1,k2⟩:=hk;have hρ:=h.pos;have hlt:=h.lt;have hn:=h.n;obtain ⟨H0,hH0⟩:∃ X,H ++ [Ob.cells 0 tk0]=X:=⟨_,rfl⟩;have e0:Ext H H0:=hH0 ▸ Ext.app _ _
 have l0:H0.length=H.length+1:=by rw [← hH0,jf]
 have g0:getC H0 H.length 0=some tk0:=hH0 ▸ ji H 0 _;obtain ⟨H1,s1,s2⟩:=adt hR.now hR.same base (h.ext e0);rw [k1] at s1
 obtain ⟨H2,n1,n2⟩:=xw hR.now base (H:=H1) (by have:=s2.le;omega) (h.ext (e0.trans s2))
 obtain ⟨t,ht⟩:∃ t,ts.getD a tkE=t:=⟨_,rfl⟩
 have hkt:t.kind=k:=by rw [← ht];exact k2
 have e2:Ext H H2:=e0.trans (s2.trans n2);have h2:=h.ext e2;have g2:=h2.g;have gb:getC H2 H.length 0=some tk0:=gy g0 (s2.trans n2);obtain ⟨H3,hH3⟩:∃ X,H2.set ρ (Ob.cells 0 [lv,Iz (a+1:Nat)])=X:=⟨_,rfl⟩;have g3:getC H3 ρ 0=some [lv,Iz (a+1:Nat)]:=hH3 ▸ jr g2 _
 have gb3:getC H3 H.length 0=some tk0:=by
  unfold getC
  rw [← hH3,List.getElem?_set_ne (by omega)]
  exact gb
 have K3:ah H.length [ρ] H H3:=hH3 ▸ ah.setr (ah.of_ext e2) _;obtain ⟨id,g,o,y1,y2,_⟩:=h2.tok h2.lt;have hne:=h.ne;obtain ⟨m,w⟩:=h2.w
 have y3:uj H3 true 5 (.ref id g o)=some (.agg (tV t)):=by
  have hz:=y2 H2 (Ext.refl _)
  have:getC H3 id g=getC H2 id g:=by
   unfold getC
   obtain ⟨_,⟨e,_⟩ | ⟨id',g',rfl,hc,_⟩⟩:=w
   ·have:=h.lt;rw [List.map_eq_nil_iff] at e;rw [e] at this;cases this
   ·rw [atz] at y1;split at y1
    ·cases y1
     rw [← hH3,List.getElem?_set_ne (by have:=hne _ _ _ rfl;omega)]
    ·cases y1
  rw [zl] at hz ⊢;rw [this,hz,ht]
 obtain ⟨H4,hH4⟩:∃ X,H3.set H.length (Ob.cells 0 (tV t))=X:=⟨_,rfl⟩
 have g4:getC H4 ρ 0=some [lv,Iz (a+1:Nat)]:=by
  unfold getC at g3 ⊢
  rw [← hH4,List.getElem?_set_ne (by omega)]
  exact g3
 have gb4:getC H4 H.length 0=some (tV t):=hH4 ▸ jr gb3 _
 have ldE:aal H4 true 5 (.ref H.length 0 0)=some (.agg (tV t)):=by
  show uj _ true 5 _=_;rw [zl,gb4];rfl
 have w1:IntKind.i64.wrap ((a:Int)+1)=((a+1:Nat):Int):=w64 (by omega)
 have w2:IntKind.i64.wrap (((a+1:Nat):Int) - 1)=(a:Int):=by rw [IntKind.wrap_i64];omega
 have hbH:base≤H.length:=by omega
 have hne1:(((t.kind:Nat):Int) != ((k:Nat):Int))=false:=by rw [bd0,hkt]
 have b4:(((t.kind:Nat):Int) != ((t.kind:Nat):Int))=false:=by simp
 refine ⟨H4,ng (c:=aiy) (k:=2) hR.take rfl (by decide) aix ?_,hH4 ▸ ah.setn K3 (ag _) _,g4⟩
 rw [ht] at n1;simp only [tV,tk0,Iz,bl] at s1 n1 g2 hH3 g3 y1 y3 hH4 ldE gb gb3 hH0;subst hkt;simp only [tV,Iz,bl,aiy,azy,aa,reduceIte,reduceCtorEq,Nat.reduceEqDiff,Nat.reduceLT,Nat.reduceLeDiff,Nat.reduceBEq,Nat.reduceAdd,Nat.reduceMul,hH0,s1,n1,hne1,b4,g2,w1,hb,hbH,hH3,g3,w2,y1,y3,gb3,hH4];rw [ldE,ht];rfl
theorem ash (hR:RdT CT) (base:Nat) (hb:base≤ρ) (h:St ρ lv ts H a) (k:Nat) (hk:((Vw.of ts).same a && (Vw.of ts).kind a == k)=false):
 ∃ H',Pn CT (.fn ayh [] []) [.ref ρ 0 0,.s (.int .u8 k)] base H (aaq,.agg (tV (ts.getD a tkE)),H')∧Ext H H':=by
 have hρ:=h.pos;obtain ⟨H0,hH0⟩:∃ X,H ++ [Ob.cells 0 tk0]=X:=⟨_,rfl⟩;have e0:Ext H H0:=hH0 ▸ Ext.app _ _;obtain ⟨H1,s1,s2⟩:=adt hR.now hR.same base (h.ext e0);obtain ⟨c,hc⟩:∃ c,(Vw.of ts).same a=c:=⟨_,rfl⟩;rw [hc] at s1 hk
 obtain ⟨H2,r1,e2⟩:∃ H2,evC (dw CT) itW base (.region R49_1 [] [1,5,6,7,8,9,10,11,12,13]) (fe 35 [(0,.ref ρ 0 0),(1,.s (.int .u8 k)),(4,.ref H.length 0 0)]) H0=some (.nrm,fe 35 [(0,.ref ρ 0 0),(4,.ref H.length 0 0),(14,bl true)],H2)∧Ext H0 H2:=by
  cases c with
  | false=>
    refine ⟨H1,?_,s2⟩;simp only [Iz,bl] at s1;simp only [Iz,bl,azy,aa,reduceIte,reduceCtorEq,Nat.reduceEqDiff,Nat.reduceLT,Nat.reduceLeDiff,Nat.reduceBEq,Nat.reduceAdd,Nat.reduceMul,s1]
  | true=>
    obtain ⟨H2,n1,n2⟩:=xw hR.now base (H:=H1) (by have:=s2.le;have:=e0.le;omega) (h.ext (e0.trans s2))
    obtain ⟨t,ht⟩:∃ t,ts.getD a tkE=t:=⟨_,rfl⟩
    have hkt:(((t.kind:Nat):Int) != ((k:Nat):Int))=true:=by
     rw [pg,gp] at hk;rw [p8,← ht];intro e;exact hk (ak7.1 e)
    rw [ht] at n1;refine ⟨H2,?_,s2.trans n2⟩;simp only [tV,Iz,bl] at s1 n1;simp only [Iz,bl,azy,aa,reduceIte,reduceCtorEq,Nat.reduceEqDiff,Nat.reduceLT,Nat.reduceLeDiff,Nat.reduceBEq,Nat.reduceAdd,Nat.reduceMul,s1,n1,hkt]
 obtain ⟨H3,f1,f2⟩:=aad hR.now base (H:=H2) (by have:=e0.le;have:=e2.le;omega) (h.ext (e0.trans e2))
 refine ⟨H3,qi (c:=aiy) (k:=2) rfl hR.take rfl (by decide) aix rfl (H1:=H0) (fr1:=fe 35 [(0,.ref ρ 0 0),(1,.s (.int .u8 k)),(4,.ref H.length 0 0)]) ?_ (mf (eu r1 (uf rfl (mh (it':=itW) (pre:=R49_2p0) (post:=[]) (.tup []) rfl rfl f1 ?_)))),e0.trans (e2.trans f2)⟩
 ·simp only [tk0] at hH0;simp only [Iz,bl,aiy,azy,aa,reduceIte,reduceCtorEq,Nat.reduceEqDiff,Nat.reduceLT,Nat.reduceLeDiff,Nat.reduceBEq,Nat.reduceAdd,Nat.reduceMul,hH0]
 ·simp only [Iz,bl,azy,aa,reduceIte,reduceCtorEq,Nat.reduceEqDiff,Nat.reduceLT,Nat.reduceLeDiff,Nat.reduceBEq,Nat.reduceAdd,Nat.reduceMul,jg,bz]
end
def RdC {α:Type} (CT:Nat→Option CFun) (base k:Nat) (args:List V) (ρ:Nat) (lv:V) (ts:List Tok.T) (D:List Nat) (H:Heap) (res:Except Nat (α × Nat)) (Q:α→V→Heap→Prop):Prop:=match res with
 | .ok (x,b)=>b < ts.length∧∃ v H',dw CT (.fn k [] []) args base H=some (v,H')∧ah H.length D H H'∧getC H' ρ 0=some [lv,Iz b]∧Q x v H'
 | .error e=>e < ts.length∧∃ H',Pn CT (.fn k [] []) args base H (aaq,.agg (tV (ts.getD e tkE)),H')∧ah H.length D H H'
section
variable {CT:Nat→Option CFun} {ρ:Nat} {lv:V} {ts:List Tok.T} {H:Heap} {a:Nat}
theorem aac (hR:RdT CT) (wf:Wf ts) (base:Nat) (hb:base≤ρ) (h:St ρ lv ts H a):RdC CT base aj6 [.ref ρ 0 0] ρ lv ts [ρ] H (ow (Vw.of ts) a) (fun s v _=>v=Sb s):=by
 unfold ow;obtain ⟨t,ht⟩:∃ t,ts.getD a tkE=t:=⟨_,rfl⟩;by_cases hk:((Vw.of ts).same a && (Vw.of ts).kind a == 1)=true
 ·rw [ed hk];obtain ⟨H',c1,c2,c3⟩:=av5 hR base hb h 1 hk;rw [ak,jy] at hk
  refine ⟨wf.nx a h.lt (by rw [show (ts.getD a tkE).kind=1 from hk.2];decide),Sb (bOf ((Vw.of ts).text a)),H',oh (c:=ajy) hR.name (by simp [ajy]) ?_,c2,c3,rfl⟩
  have hx:(Vw.of ts).text a=t.text:=by rw [← ht];rfl
  have c1n:((1:Nat):Int)=1:=rfl;rw [ht] at c1;rw [hx];simp only [tV,Iz,bl,c1n] at c1;simp only [bOf,Iz,Sb,bl,ajy,a9b,aa,reduceIte,reduceCtorEq,Nat.reduceEqDiff,Nat.reduceLT,Nat.reduceLeDiff,Nat.reduceBEq,Nat.reduceAdd,Nat.reduceMul,c1]
 ·rw [gu hk];rw [oo] at hk;obtain ⟨H',c1,c2⟩:=ash hR base hb h 1 hk;refine ⟨h.lt,H',?_,ah.of_ext c2⟩
  refine aa2 rfl hR.name (by simp [ajy]) (eu (H1:=H) (fr1:=fe 6 [(0,.ref ρ 0 0)]) ?_ (mf (mh (it':=itW) (pre:=R34_1p0) (post:=R34_1t2) (.agg tk0) rfl rfl c1 ?_)))
  ·simp only [Iz,bl,ajy,a9b,aa,reduceIte,reduceCtorEq,Nat.reduceEqDiff,Nat.reduceLT,Nat.reduceLeDiff,Nat.reduceBEq,Nat.reduceAdd,Nat.reduceMul]
  ·simp only [tk0,Iz,bl,a9b,aa,reduceIte,reduceCtorEq,Nat.reduceEqDiff,Nat.reduceLT,Nat.reduceLeDiff,Nat.reduceBEq,Nat.reduceAdd,Nat.reduceMul,jg,bz]
theorem aab (hR:RdT CT) (wf:Wf ts) (base:Nat) (hb:base≤ρ) (h:St ρ lv ts H a) (s:ByteArray):RdC CT base a2k [.ref ρ 0 0,Sb s] ρ lv ts [ρ] H (sj (Vw.of ts) s.data.toList a) (fun _ v _=>v=.tup []):=by
 unfold sj;have hρ:=h.pos;have hn:=h.n;have hlt:=h.lt
 obtain ⟨H1,c1,c2⟩:=ayk hR.now hR.same hR.is' base (by omega) h s
 by_cases hk:isT (Vw.of ts) s.data.toList a=true
 ·rw [ed hk];rw [hk] at c1
  have hk3:(Vw.of ts).kind a=3:=by
   unfold isT at hk;rw [ak,ak,jy] at hk;exact hk.1.2
  have g1:=(h.ext c2).g
  have w1:IntKind.i64.wrap ((a:Int)+1)=((a+1:Nat):Int):=w64 (by omega)
  refine ⟨wf.nx a h.lt (by rw [show (ts.getD a tkE).kind=3 from hk3];decide),.tup [],H1.set ρ (.cells 0 [lv,Iz (a+1:Nat)]),ng (c:=ai0) (k:=2) hR.sign rfl (by decide) aiz ?_,ah.setr (ah.of_ext c2) _,jr g1 _,rfl⟩
  simp only [Iz,bl,Sb] at c1 g1;simp only [Iz,Sb,bl,ai0,a9a,aa,reduceIte,reduceCtorEq,Nat.reduceEqDiff,Nat.reduceLT,Nat.reduceLeDiff,Nat.reduceBEq,Nat.reduceAdd,Nat.reduceMul,c1,g1,w1,hb]
  try rfl
 ·rw [gu hk];rw [oo] at hk;rw [hk] at c1
  obtain ⟨H2,f1,f2⟩:=aad hR.now base (H:=H1) (by have:=c2.le;omega) (h.ext c2)
  refine ⟨h.lt,H2,?_,ah.of_ext (c2.trans f2)⟩;simp only [Iz,bl,Sb] at c1
  refine axd (c:=ai0) (k:=2) rfl hR.sign rfl (by decide) aiz rfl (H1:=H1) (fr1:=fe 17 [(0,.ref ρ 0 0),(7,bl true)]) ?_ (uf rfl (mh (it':=itW) (pre:=R36_1p0) (post:=[]) (.tup []) rfl rfl f1 ?_))
  ·simp only [Iz,Sb,bl,ai0,a9a,aa,reduceIte,reduceCtorEq,Nat.reduceEqDiff,Nat.reduceLT,Nat.reduceLeDiff,Nat.reduceBEq,Nat.reduceAdd,Nat.reduceMul,c1]
  ·simp only [Iz,bl,a9a,aa,reduceIte,reduceCtorEq,Nat.reduceEqDiff,Nat.reduceLT,Nat.reduceLeDiff,Nat.reduceBEq,Nat.reduceAdd,Nat.reduceMul,jg,bz]
theorem apj (hR:RdT CT) (base:Nat) (hb:base≤ρ) (h:St ρ lv ts H a):RdC CT base a2j [.ref ρ 0 0] ρ lv ts [ρ] H (bds (Vw.of ts) a) (fun _ v _=>v=.tup []):=by
 unfold bds az4;have hρ:=h.pos;obtain ⟨t,ht⟩:∃ t,ts.getD a tkE=t:=⟨_,rfl⟩
 have hkt:(Vw.of ts).kind a=t.kind:=by rw [← ht];rfl
 obtain ⟨c,hc⟩:∃ c,(Vw.of ts).same a=c:=⟨_,rfl⟩;obtain ⟨H1,s1,s2⟩:=adt hR.now hR.same base h
 obtain ⟨H2,n1,n2⟩:=xw hR.now base (H:=H1) (by have:=s2.le;omega) (h.ext s2)
 rw [hc] at s1 ⊢;rw [hkt];rw [ht] at n1;simp only [tV,Iz,bl] at s1 n1;cases c with
 | false=>
   rw [gu (by rw [ug];decide)]
   refine ⟨h.lt,.tup [],H1,ng (c:=agk) (k:=1) hR.begin' rfl (by decide) aev ?_,ah.of_ext s2,(h.ext s2).g,rfl⟩
   simp only [Iz,Sb,bl,agk,a4m,aa,reduceIte,reduceCtorEq,Nat.reduceEqDiff,Nat.reduceLT,Nat.reduceLeDiff,Nat.reduceBEq,Nat.reduceAdd,Nat.reduceMul,s1]
   try rfl
 | true=>
   by_cases h4:t.kind=4
   ·rw [gu (by rw [h4];decide)]
    have k1:(((t.kind:Nat):Int) != 4)=false:=by rw [h4];rfl
    refine ⟨h.lt,.tup [],H2,ng (c:=agk) (k:=1) hR.begin' rfl (by decide) aev ?_,ah.of_ext (s2.trans n2),(h.ext (s2.trans n2)).g,rfl⟩
    simp only [Iz,Sb,bl,agk,a4m,aa,reduceIte,reduceCtorEq,Nat.reduceEqDiff,Nat.reduceLT,Nat.reduceLeDiff,Nat.reduceBEq,Nat.reduceAdd,Nat.reduceMul,s1,n1,k1]
    try rfl
   ·rw [ed (by rw [pg,p8];exact h4)]
    have k1:(((t.kind:Nat):Int) != 4)=true:=by rw [p8];omega
    obtain ⟨H3,f1,f2⟩:=aad hR.now base (H:=H2) (by have:=s2.le;have:=n2.le;omega) (h.ext (s2.trans n2))
    refine ⟨h.lt,H3,?_,ah.of_ext (s2.trans (n2.trans f2))⟩
    refine qi (c:=agk) (k:=1) rfl hR.begin' rfl (by decide) aev rfl (H1:=H2) (fr1:=fe 12 [(0,.ref ρ 0 0),(9,bl true)]) ?_ (uf rfl (mh (it':=itW) (pre:=R37_1p0) (post:=[]) (.tup []) rfl rfl f1 ?_))
    ·simp only [Iz,bl,agk,a4m,aa,reduceIte,reduceCtorEq,Nat.reduceEqDiff,Nat.reduceLT,Nat.reduceLeDiff,Nat.reduceBEq,Nat.reduceAdd,Nat.reduceMul,s1,n1,k1]
    ·simp only [Iz,bl,a4m,aa,reduceIte,reduceCtorEq,Nat.reduceEqDiff,Nat.reduceLT,Nat.reduceLeDiff,Nat.reduceBEq,Nat.reduceAdd,Nat.reduceMul,jg,bz]
end
end Go.Proofs.YtbocmenkkjbigaaDoor
