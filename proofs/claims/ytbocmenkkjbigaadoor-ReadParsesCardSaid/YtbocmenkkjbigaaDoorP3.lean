/- Texts of the proof: RdS1, RdtF1, RdtF2, TokQ, RdtF3, TokG, RdtF4, RdtF5, RdtF6, RdtF7, RdS2, RdS3, RdS4, RdC1, AmPs, RdC2, RdC3. -/
import Derived.Test.YtbocmenkkjbigaaDoorP0
import Derived.Test.YtbocmenkkjbigaaDoorP1
import Derived.Test.YtbocmenkkjbigaaDoorP2
import Derived.KernelRfl
import Derived.Test.YtbocmenkkjbigaaDoorProg
import Derived.Lib.Atoi
import Derived.Lib.Bytealg
set_option linter.all false
set_option maxRecDepth 100000
namespace Go.Proofs.YtbocmenkkjbigaaDoor
open Go.AM
abbrev aw6:Nat:=13
def K13_0:=[1,2]++List.range' 4 102
def R13_0t2:=[bm2 4 (bml 0)]
def R13_0t1:=q 3 (.alloc [bmu,bmu])::R13_0t2
def R13_0p0:=[bm2 2 bmq]
def R13_0:=R13_0p0++R13_0t1
def K13_0p0:=List.range' 1 105
def X13_0(call:o8)(it:zn)(base f H):evC call it base (.region R13_0 [] K13_0) f H=bg6 call it base R13_0t1 K13_0 H (yc (aaw R13_0p0 K13_0p0 []) K13_0p0 f H) (agb call it base R13_0 K13_0 f H):=awf call it base R13_0p0 R13_0t1 (by kernel_rfl) f H
def R13_1:=[oM 11 0,q 12 (.lenS .p (.t 11)),q 13 (.bin .gtr (.t 12) (bml 1048576))]
def R13_2t2:=[bm2 4 (bml 2)]
def R13_2t1:=bmy 2 3 14::R13_2t2
def R13_2p0:=[q 14 (.build [bmu,bmu] [(0,1),(1,1)] []),bm2 2 bmq]
def R13_2:=R13_2p0++R13_2t1
def R13_3t3:=[bmy 1 5 18]
def R13_3t2:=q 5 (.alloc [.s (.pointer none)])::R13_3t3
def R13_3t1:=q 18 (.box (.t 17))::R13_3t2
def R13_3p0:=[q 15 (.build [bmu,bmu] [(0,1),(1,1)] [(0,bml 1),(1,bml 1)]),oM 16 0,q 17 (.build [bmu,bmu,bmr,bmu] [(0,2),(2,1),(3,1)] [(0,.t 15),(1,.t 16)])]
def R13_3:=R13_3p0++R13_3t1
def R13_4:=[q 6 (.alloc [bms])]
def R13_5:=[q 19 (.mkFn 25 [] [.t 6,.t 5]),oM 7 19]
def R13_6:=[oL 20 5,bm3 21 20,oF 22 3 21,oL 23 22,oM 24 0,q 25 (.lenS .p (.t 24)),q 26 (.bin .lss (.t 23) (.t 25))]
def R13_7:=[oM 27 0,oL 28 5,bm3 29 28,oF 30 3 29,oL 31 30,q 32 (.indexStr (.t 27) (.t 31)),oM 8 32]
def R13_8t2:=[q 40 (.bin .geq (.t 39) (bml 0)),oM 37 40]
def R13_8t1:=bmz 39 27 [bmp #[32,9,13,10],.t 38]::R13_8t2
def R13_8p0:=[oM 38 8]
def R13_8:=R13_8p0++R13_8t1
def R13_9t1:=[bmz 42 26 [.t 41,bml 1]]
def R13_9p0:=[oL 41 5]
def R13_9:=R13_9p0++R13_9t1
def R13_10:=[oM 44 8,q 45 (.bin .eql (.t 44) (bmm 59)),oM 43 45]
def R13_11t2:=[bmz 49 26 [.t 46,.t 48]]
def R13_11t1:=q 48 (.callR (.c (.fn 28 [] [])) [.t 47,.c (.fn 29 [] [])])::R13_11t2
def R13_11p0:=[oL 46 5,oL 47 5]
def R13_11:=R13_11p0++R13_11t1
def R13_12t2:=[oM 50 52]
def R13_12t1:=bmz 52 30 [.t 51]::R13_12t2
def R13_12p0:=[oM 51 8]
def R13_12:=R13_12p0++R13_12t1
def R13_13t2:=[q 56 (.call (.t 53) [bmm 1,.t 55])]
def R13_13t1:=bmz 55 28 [.t 54,.c (.fn 31 [] [])]::R13_13t2
def R13_13p0:=[oM 53 7,oL 54 5]
def R13_13:=R13_13p0++R13_13t1
def R13_14t2:=[oM 57 59]
def R13_14t1:=bmz 59 32 [.t 58]::R13_14t2
def R13_14p0:=[oM 58 8]
def R13_14:=R13_14p0++R13_14t1
def R13_15t2:=[oM 9 61]
def R13_15t1:=bmz 61 28 [.t 60,.c (.fn 32 [] [])]::R13_15t2
def R13_15p0:=[oL 60 5]
def R13_15:=R13_15p0++R13_15t1
def R13_16t3:=[gM 75 9 72 false,qg 76 (.bin .gtr (.t 74) (.t 75)) 72 false,bm6 77 (.t 72) bmn (.t 76)]
def R13_16t2:=qg 74 (.call (.c (.fn 28 [] [])) [.t 73,.c (.fn 31 [] [])]) 72 false::R13_16t3
def R13_16t1:=gL 73 5 72 false::R13_16t2
def R13_16p0:=[oM 62 9,q 63 (.bin .gtr (.t 62) (bml 9)),oM 64 63,gM 65 9 64 false,qg 66 (.bin .gtr (.t 65) (bml 1)) 64 false,gM 67 66 64 false,gM 68 8 67 true,qg 69 (.bin .eql (.t 68) (bmm 48)) 67 true,qg 70 (.pick (.t 67) (.t 69) bmo) 64 false,bm6 71 (.t 64) bmn (.t 70),oM 72 71]
def R13_16:=R13_16p0++R13_16t1
def R13_17t2:=[bm2 4 (bml 31)]
def R13_17t1:=bmy 2 3 81::R13_17t2
def R13_17p0:=[oL 78 5,bm3 79 78,oF 80 0 79,q 81 (.load true 2 (.t 80)),bm2 2 bmq]
def R13_17:=R13_17p0++R13_17t1
def R13_18t2:=[oM 10 84]
def R13_18t1:=q 84 (.call (.t 82) [bmm 2,.t 83])::R13_18t2
def R13_18p0:=[oM 82 7,oM 83 9]
def R13_18:=R13_18p0++R13_18t1
def R13_19t3:=[bmy 1 95 92]
def R13_19p2:=[oM 85 91,bm5 92 85 0,bm5 93 85 1,bm3 94 86,oF 95 2 94]
def R13_19t2:=R13_19p2++R13_19t3
def R13_19t1:=bmz 91 33 [.t 90]::R13_19t2
def R13_19p0:=[oM 86 10,oM 87 10,bm3 88 87,oF 89 1 88,oL 90 89]
def R13_19:=R13_19p0++R13_19t1
def R13_20t2:=[q 99 (.bin .geq (.t 98) (bml 0)),oM 96 99]
def R13_20t1:=bmz 98 27 [bmp #[61,44,58,40,41,123,125,91,93],.t 97]::R13_20t2
def R13_20p0:=[oM 97 8]
def R13_20:=R13_20p0++R13_20t1
def R13_21t1:=[q 101 (.call (.t 100) [bmm 3,bml 1])]
def R13_21p0:=[oM 100 7]
def R13_21:=R13_21p0++R13_21t1
def R13_22t2:=[bm2 4 (bml 30)]
def R13_22t1:=bmy 2 3 36::R13_22t2
def R13_22p0:=[oL 33 5,bm3 34 33,oF 35 0 34,q 36 (.load true 2 (.t 35)),bm2 2 bmq]
def R13_22:=R13_22p0++R13_22t1
def aj8:ACode:=
 (.seq (.seq (.regionE R13_6 [20,21,22,23,24,25] [26])
 (.cond (.t 26)
 .skip
 (.exit 0)))
 (.block 1
 (.seq (.regionE R13_7 [26,27,28,29,30,31,32] [8])
 (.block 2
 (.seq (.region R13_8 [] [38,39,40])
 (.cond (.t 37)
 (.region R13_9 [] [8,37,41,42])
 (.seq (.regionE R13_10 [37,44,45] [43])
 (.cond (.t 43)
 (.region R13_11 [] [8,43,46,47,48,49])
 (.seq (.region R13_12 [] [43,51,52])
 (.cond (.t 50)
 (.region R13_13 [] [8,50,53,54,55,56])
 (.seq (.region R13_14 [] [50,58,59])
 (.cond (.t 57)
 (.seq (.region R13_15 [] [57,60,61])
 (.seq (.seq (.region R13_16 [] [8,62,63,64,65,66,67,68,69,70,71,72,73,74,75,76])
 (.cond (.t 77)
 (.seq (.region R13_17 [] [0,5,6,7,9,77,78,79,80,81])
 .ret)
 .skip))
 (.seq (.region R13_18 [] [9,77,82,83,84])
 (.region R13_19 [] [10,85,86,87,88,89,90,91,92,93,94,95]))))
 (.seq (.region R13_20 [] [8,57,97,98,99])
 (.cond (.t 96)
 (.region R13_21 [] [96,100,101])
 (.seq (.region R13_22 [] [0,5,6,7,33,34,35,36,96])
 .ret)))))))))))))))
def ze:ACode:=aj8
def R13_23t1:=[q 103 (.call (.t 102) [bmm 4,bml 0])]
def R13_23p0:=[oM 102 7]
def R13_23:=R13_23p0++R13_23t1
def R13_24t2:=[bm2 4 (bml 0)]
def R13_24t1:=bmy 2 3 105::R13_24t2
def R13_24p0:=[oL 104 6,q 105 (.build [bmu,bmu] [(0,1),(1,1)] []),oM 2 104]
def R13_24:=R13_24p0++R13_24t1
def ag5:ACFun:={ ntmps:=106,results:=[.tmp 2,.cell 3 true 2,.tmp 4],body:=
 (.seq (.region R13_0 [] K13_0)
 (.seq (.seq (.regionE R13_1 [11,12] [13])
 (.cond (.t 13)
 (.seq (.region R13_2 [] [0,13,14])
 .ret)
 .skip))
 (.seq (.region R13_3 [] [13,15,16,17,18])
 (.seq (.region R13_4 [] [])
 (.seq (.regionE R13_5 [19] [7])
 (.seq (.block 0
 (.loop [] ze))
 (.seq (.region R13_23 [] [0,5,7,26,102,103])
 (.seq (.region R13_24 [] [6,104,105])
 .ret)))))))) }
theorem ahv:ql (List.range' 1 (ag5.ntmps-1)) ag5.body=true:=by kernel_rfl
abbrev bfm:Nat:=25
def K25_0:=List.range' 4 35
theorem avz:aam K25_0 (uq 39 [] 4)=[]:=by kernel_rfl
def R25_0:=[q 6 (.move (.c (.s (.pointer none))))]
def R25_1t3:=[bmy 1 2 30]
def R25_1t2:=q 30 (.append 5 48 (.t 7) (.t 29))::R25_1t3
def R25_1t1:=q 29 (.buildSl 5 1 [bmt,bmr,bmu,bmu,bmu] [(0,.t 28)])::R25_1t2
def R25_1p0:=[oL 7 2,oM 8 0,oL 9 3,bm3 10 9,oF 11 2 10,oL 12 11,oL 13 3,bm3 14 13,oF 15 3 14,oL 16 15,oL 17 3,bm3 18 17,oF 19 3 18,oL 20 19,oM 21 1,q 22 (.bin .add (.t 20) (.t 21)),q 23 (.subStr (.t 12) (some (.t 16)) (some (.t 22))),oL 24 3,bm3 25 24,oF 26 0 25,q 27 (.load true 2 (.t 26)),q 28 (.build [bmt,bmr,bmu,bmu,bmu] [(0,1),(1,1),(2,1),(3,2)] [(0,.t 8),(1,.t 23),(3,.t 27)])]
def R25_1:=R25_1p0++R25_1t1
def R25_2t1:=[bmz 33 26 [.t 31,.t 32]]
def R25_2p0:=[oL 31 3,oM 32 1]
def R25_2:=R25_2p0++R25_2t1
def R25_3:=[oL 34 2,oL 35 2,q 36 (.lenS .s (.t 35)),q 37 (.bin .sub (.t 36) (bml 1)),bm4 38 5 34 37,oM 6 38]
def aov:ACFun:={ ntmps:=39,results:=[.tmp 6],body:=
 (.seq (.regionE R25_0 K25_0 [])
 (.seq (.region R25_1 [] [0,7,8,9,10,11,12,13,14,15,16,17,18,19,20,21,22,23,24,25,26,27,28,29,30])
 (.seq (.region R25_2 [] [1,3,31,32,33])
 (.seq (.regionE R25_3 [2,34,35,36,37,38] [6])
 .ret)))) }
abbrev ba2:Nat:=26
def K26_0:=[1,2,3]++List.range' 6 42
theorem avy:aam K26_0 (uq 48 [] 2)=[(4,und),(5,und)]:=by kernel_rfl
def R26_0:=[oM 4 1,bm2 5 (bml 0)]
def R26_1:=[q 6 (.bin .lss (.t 5) (.t 4))]
def R26_2t1:=[bmy 1 15 12]
def R26_2p0:=[oM 7 0,bm3 8 7,oF 9 0 8,oF 10 1 9,oL 11 10,q 12 (.bin .add (.t 11) (bml 1)),bm3 13 7,oF 14 0 13,oF 15 1 14]
def R26_2:=R26_2p0++R26_2t1
def R26_3:=[oM 16 0,bm3 17 16,oF 18 2 17,oL 19 18,oM 20 0,bm3 21 20,oF 22 3 21,oL 23 22,q 24 (.indexStr (.t 19) (.t 23)),q 25 (.bin .eql (.t 24) (bmm 10))]
def R26_4t3:=[bmx (.store 1 (.t 39) (bml 1))]
def R26_4p2:=[bm3 37 27,oF 38 0 37,oF 39 1 38]
def R26_4t2:=R26_4p2++R26_4t3
def R26_4t1:=bmy 1 36 33::R26_4t2
def R26_4p0:=[oM 26 0,oM 27 0,oM 28 0,bm3 29 28,oF 30 0 29,oF 31 0 30,oL 32 31,q 33 (.bin .add (.t 32) (bml 1)),bm3 34 26,oF 35 0 34,oF 36 0 35]
def R26_4:=R26_4p0++R26_4t1
def R26_5t1:=[bmy 1 46 44]
def R26_5p0:=[oM 40 0,bm3 41 40,oF 42 3 41,oL 43 42,q 44 (.bin .add (.t 43) (bml 1)),bm3 45 40,oF 46 3 45]
def R26_5:=R26_5p0++R26_5t1
def R26_6:=[q 47 (.bin .add (.t 5) (bml 1)),oM 5 47]
def ajy:ACode:=
 (.seq (.regionE R26_1 [] [6])
 (.seq (.cond (.t 6)
 .skip
 (.exit 0))
 (.seq (.block 1
 (.seq (.region R26_2 [] [6,7,8,9,10,11,12,13,14,15])
 (.seq (.seq (.regionE R26_3 [16,17,18,19,20,21,22,23,24] [25])
 (.cond (.t 25)
 (.region R26_4 [] [25,26,27,28,29,30,31,32,33,34,35,36,37,38,39])
 .skip))
 (.region R26_5 [] [25,40,41,42,43,44,45,46]))))
 (.regionE R26_6 [47] [5]))))
def aqs:ACode:=ajy
def ang:ACFun:={ ntmps:=48,results:=[],body:=
 (.seq (.regionE R26_0 K26_0 [4,5])
 (.block 0
 (.loop [] aqs))) }
abbrev bfl:Nat:=28
def K28_0:=List.range' 2 34
theorem avx:aam K28_0 (uq 36 [] 2)=[]:=by kernel_rfl
def R28_0:=[bm2 4 (bml 0)]
def R28_1:=[bm2 5 (bml 0)]
def R28_2t14:=[bm6 32 (.t 18) (.t 31) bmo]
def R28_2t13:=qg 31 (.call (.t 19) [.t 30]) 18 true::R28_2t14
def R28_2t12:=qg 30 (.indexStr (.t 23) (.t 29)) 18 true::R28_2t13
def R28_2t11:=qg 29 (.bin .add (.t 27) (.t 28)) 18 true::R28_2t12
def R28_2t10:=gM 28 5 18 true::R28_2t11
def R28_2t9:=gL 27 26 18 true::R28_2t10
def R28_2t8:=gF 26 3 25 18 true::R28_2t9
def R28_2t7:=qg 25 (.nilCheck (.t 24)) 18 true::R28_2t8
def R28_2t6:=gM 24 0 18 true::R28_2t7
def R28_2t5:=gL 23 22 18 true::R28_2t6
def R28_2t4:=gF 22 2 21 18 true::R28_2t5
def R28_2t3:=qg 21 (.nilCheck (.t 20)) 18 true::R28_2t4
def R28_2t2:=gM 20 0 18 true::R28_2t3
def R28_2t1:=gM 19 1 18 true::R28_2t2
def R28_2p0:=[oM 6 0,bm3 7 6,oF 8 3 7,oL 9 8,oM 10 5,q 11 (.bin .add (.t 9) (.t 10)),oM 12 0,bm3 13 12,oF 14 2 13,oL 15 14,q 16 (.lenS .p (.t 15)),q 17 (.bin .lss (.t 11) (.t 16)),oM 18 17]
def R28_2:=R28_2p0++R28_2t1
def R28_3:=[oM 33 5,q 34 (.bin .add (.t 33) (bml 1)),oM 5 34]
def ajx:ACode:=
 (.seq (.seq (.region R28_2 [] [6,7,8,9,10,11,12,13,14,15,16,17,18,19,20,21,22,23,24,25,26,27,28,29,30,31])
 (.cond (.t 32)
 .skip
 (.exit 0)))
 (.block 1
 (.regionE R28_3 [32,33,34] [5])))
def aqr:ACode:=ajx
def R28_4:=[oM 35 5,oM 4 35]
def aou:ACFun:={ ntmps:=36,results:=[.tmp 4],body:=
 (.seq (.regionE R28_0 K28_0 [])
 (.seq (.regionE R28_1 [] [5])
 (.seq (.block 0
 (.loop [] aqr))
 (.seq (.regionE R28_4 [0,1,5,32,35] [4])
 .ret)))) }
abbrev bfk:Nat:=29
def K29_0:=[1,2,3,4]
theorem avw:aam K29_0 (uq 5 [] 1)=[]:=by kernel_rfl
def R29_0:=[bm2 2 bmo]
def R29_1:=[oM 3 0,q 4 (.bin .neq (.t 3) (bmm 10)),oM 2 4]
def aot:ACFun:={ ntmps:=5,results:=[.tmp 2],body:=
 (.seq (.regionE R29_0 K29_0 [])
 (.seq (.regionE R29_1 [0,3,4] [2])
 .ret)) }
abbrev ba0:Nat:=30
def K30_0:=List.range' 1 20
theorem avv:aam K30_0 (uq 21 [] 1)=[]:=by kernel_rfl
def R30_0:=[bm2 2 bmo]
def R30_1:=[oM 3 0,q 4 (.bin .geq (.t 3) (bmm 97)),oM 5 4,gM 6 0 5 true,qg 7 (.bin .leq (.t 6) (bmm 122)) 5 true,bm6 8 (.t 5) (.t 7) bmo,oM 9 8,gM 10 0 9 false,qg 11 (.bin .geq (.t 10) (bmm 65)) 9 false,gM 12 11 9 false,gM 13 0 12 true,qg 14 (.bin .leq (.t 13) (bmm 90)) 12 true,qg 15 (.pick (.t 12) (.t 14) bmo) 9 false,bm6 16 (.t 9) bmn (.t 15),oM 17 16,gM 18 0 17 false,qg 19 (.bin .eql (.t 18) (bmm 95)) 17 false,bm6 20 (.t 17) bmn (.t 19),oM 2 20]
def aos:ACFun:={ ntmps:=21,results:=[.tmp 2],body:=
 (.seq (.regionE R30_0 K30_0 [])
 (.seq (.regionE R30_1 [0,3,4,5,6,7,8,9,10,11,12,13,14,15,16,17,18,19,20] [2])
 .ret)) }
abbrev bfj:Nat:=31
def K31_0:=List.range' 1 12
theorem avu:aam K31_0 (uq 13 [] 1)=[]:=by kernel_rfl
def R31_0:=[bm2 2 bmo]
def R31_1t5:=[bm6 8 (.t 5) bmn (.t 7),oM 9 8,gM 10 0 9 false,qg 11 (.bin .eql (.t 10) (bmm 46)) 9 false,bm6 12 (.t 9) bmn (.t 11),oM 2 12]
def R31_1t4:=qg 7 (.call (.c (.fn 32 [] [])) [.t 6]) 5 false::R31_1t5
def R31_1t3:=gM 6 0 5 false::R31_1t4
def R31_1p2:=[oM 5 4]
def R31_1t2:=R31_1p2++R31_1t3
def R31_1t1:=bmz 4 30 [.t 3]::R31_1t2
def R31_1p0:=[oM 3 0]
def R31_1:=R31_1p0++R31_1t1
def aor:ACFun:={ ntmps:=13,results:=[.tmp 2],body:=
 (.seq (.regionE R31_0 K31_0 [])
 (.seq (.region R31_1 [] [0,3,4,5,6,7,8,9,10,11,12])
 .ret)) }
abbrev baz:Nat:=32
def K32_0:=List.range' 1 8
theorem avt:aam K32_0 (uq 9 [] 1)=[]:=by kernel_rfl
def R32_0:=[bm2 2 bmo]
def R32_1:=[oM 3 0,q 4 (.bin .geq (.t 3) (bmm 48)),oM 5 4,gM 6 0 5 true,qg 7 (.bin .leq (.t 6) (bmm 57)) 5 true,bm6 8 (.t 5) (.t 7) bmo,oM 2 8]
def aoq:ACFun:={ ntmps:=9,results:=[.tmp 2],body:=
 (.seq (.regionE R32_0 K32_0 [])
 (.seq (.regionE R32_1 [0,3,4,5,6,7,8] [2])
 .ret)) }
abbrev at5:Nat:=27
abbrev bjq:Nat:=33
def ah7:=ai (hK K13_0p0 0) (ai (hQ K13_0p0 2) (ai (hQ K13_0p0 3) (ai (hQ K13_0p0 4) (ai (hT R13_0p0 K13_0p0 [] 3 [] [] [.cc (.s (.slice none 0 0))]) (ai X13_0 (ai (hP R13_0t1 [] K13_0) (ai (hV R13_0t2 K13_0 [] 5 [] [] [.cc (.s (.int .i64 0))]) (ai (hK K13_0 0) (ai (hQ K13_0 2) (ai (hK K13_0 3) (ai (hQ K13_0 4) (ai (hT R13_1 [11,12] [13] 14 [] [(13,bnq .gtr 1048576 (.op (.lenS .p (.t 0)) [.t 0]))] [.tt 0,sb [0],sb []]) (ai (hU R13_2 [0,13] [14,2] [0,13,14] 15 [] [(14,.op (.build [.s (.int .i64 0),.s (.int .i64 0)] [(0,1),(1,1)] []) []),(2,.c (.s (.slice none 0 0)))] [sb [],.cc (.s (.slice none 0 0))]) (ai (hP R13_2t1 [14] [0,13,14]) (ai (hV R13_2t2 [0,13,14] [4] 5 [] [(4,bm8 2)] [.cc (.s (.int .i64 2))]) (ai (hU R13_3 [13,15,16] [17] [13,15,16,17,18] 18 [] [(17,.op (.build [.s (.int .i64 0),.s (.int .i64 0),.s (.string ⟨#[]⟩),.s (.int .i64 0)] [(0,2),(2,1),(3,1)] [(0,.t 0),(1,.t 1)]) [.op (.build [.s (.int .i64 0),.s (.int .i64 0)] [(0,1),(1,1)] [(0,.c (.s (.int .i64 1))),(1,.c (.s (.int .i64 1)))]) [.c (.s (.int .i64 1)),.c (.s (.int .i64 1))],.t 0])] [sb [0],.tt 0,sb []]) (ai (hP R13_3t1 [17] [13,15,16,17,18]) (ai (hP R13_3t2 [] [13,15,16,17,18]) (ai (hX R13_3t3 [13,15,16,17,18]) (ai (hX R13_4 []) (ai (hT R13_5 [19] [7] 20 [] [(7,.op (.mkFn 25 [] [.t 0,.t 1]) [.t 6,.t 5])] [sb [],sb []]) (ai (hT R13_6 [20,21,22,23,24,25] [26] 27 [] [(26,bno .lss (eL (eF 3 (bng (eL (.t 5))))) (.op (.lenS .p (.t 0)) [.t 0]))] [sb [0,0,0,0],sb [0,0,0],sb [0,0],sb [0],.tt 0,sb [1],sb []]) (ai (hT R13_7 [26,27,28,29,30,31,32] [8] 33 [] [(8,.op (.indexStr (.t 0) (.t 1)) [.t 0,eL (eF 3 (bng (eL (.t 5))))])] [.tt 0,sb [1,0,0,0],sb [1,0,0],sb [1,0],sb [1],sb [],sb []]) (ai (hU R13_8 [] [38] [38,39,40] 39 [] [(38,.t 8)] [.tt 8]) (ai (hP R13_8t1 [38] [38,39,40]) (ai (hV R13_8t2 [38,39,40] [37] 41 [] [(37,bnq .geq 0 (.t 39))] [sb [],sb []]) (ai (hU R13_9 [8,37] [41] [8,37,41,42] 42 [] [(41,eL (.t 5))] [sb []]) (ai (hX R13_9t1 [8,37,41,42]) (ai (hT R13_10 [37,44,45] [43] 46 [] [(43,bni 59 (.t 8))] [.tt 8,sb [],sb []]) (ai (hU R13_11 [8,43] [46,47] [8,43,46,47,48,49] 48 [] [(46,eL (.t 5)),(47,eL (.t 5))] [sb [],sb []]) (ai (hP R13_11t1 [47] [8,43,46,47,48,49]) (ai (hX R13_11t2 [8,43,46,47,48,49]) (ai (hU R13_12 [43] [51] [43,51,52] 52 [] [(51,.t 8)] [.tt 8]) (ai (hP R13_12t1 [51] [43,51,52]) (ai (hV R13_12t2 [43,51,52] [50] 51 [] [(50,.t 52)] [.tt 52]) (ai (hU R13_13 [8,50] [53,54] [8,50,53,54,55,56] 55 [] [(53,.t 7),(54,eL (.t 5))] [.tt 7,.sub 1 [] []]) (ai (hP R13_13t1 [54] [8,50,53,54,55,56]) (ai (hX R13_13t2 [8,50,53,54,55,56]) (ai (hU R13_14 [50] [58] [50,58,59] 59 [] [(58,.t 8)] [.tt 8]) (ai (hP R13_14t1 [58] [50,58,59]) (ai (hV R13_14t2 [50,58,59] [57] 58 [] [(57,.t 59)] [.tt 59]) (ai (hU R13_15 [57] [60] [57,60,61] 61 [] [(60,eL (.t 5))] [sb []]) (ai (hP R13_15t1 [60] [57,60,61]) (ai (hV R13_15t2 [57,60,61] [9] 10 [] [(9,.t 61)] [.tt 61]) (ai (hU R13_16 [8,62,63,64,65,66,67,68,69,70,71] [72] bnr 73 [] [(72,.pick (bnq .gtr 9 (.t 9)) bna (.pick (bnq .gtr 1 (.t 9)) (bni 48 (.t 8)) bnb))] [.tt 9,sb [0],sb [0],.sub 0 [2,0,0] [64],.sub 0 [2,0] [64],.sub 0 [2,0] [64],.sub 0 [2,1,0] [64,67],.sub 0 [2,1] [64,67],.sub 0 [2] [64],sb [],sb []]) (ai (hP R13_16t1 [] bnr) (ai (hP R13_16t2 [73] bnr) (ai (hV R13_16t3 [8,62,63,64,65,66,67,68,69,70,71,72,73,74,75,76] [77] 78 [] [(77,.pick (.t 72) bna (bno .gtr (.t 74) (.t 9)))] [.sub 0 [2,1] [72],.sub 0 [2] [72],sb []]) (ai (hU R13_17 [0,5,6,7,9,77,78,79,80] [81,2] [0,5,6,7,9,77,78,79,80,81] 82 [] [(81,bnm 2 (eF 0 (bng (eL (.t 5))))),(2,.c (.s (.slice none 0 0)))] [sb [0,0,0],sb [0,0],sb [0],sb [],.cc (.s (.slice none 0 0))]) (ai (hP R13_17t1 [81] [0,5,6,7,9,77,78,79,80,81]) (ai (hV R13_17t2 [0,5,6,7,9,77,78,79,80,81] [4] 5 [] [(4,bm8 31)] [.cc (.s (.int .i64 31))]) (ai (hU R13_18 [9,77] [82,83] [9,77,82,83,84] 84 [] [(82,.t 7),(83,.t 9)] [.tt 7,.tt 9]) (ai (hP R13_18t1 [82,83] [9,77,82,83,84]) (ai (hV R13_18t2 [9,77,82,83,84] [10] 11 [] [(10,.t 84)] [.tt 84]) (ai (hU R13_19 [10,87,88,89] [86,90] bns 91 [] [(86,.t 10),(90,eL (eF 1 (bng (.t 10))))] [.tt 10,.tt 10,.sub 1 [0,0] [],.sub 1 [0] [],.sub 1 [] []]) (ai (hP R13_19t1 [90] bns) (ai (hU R13_19t2 [85,86,91,93,94] [92,95] bns 96 [([],.op (.extract (.t 0) 1) [.t 91])] [(92,bnh 0 (.t 91)),(95,eF 2 (bng (.t 86)))] [.tt 91,sb [],.keep [] (.op (.extract (.t 0) 1) [.t 91]),.sub 1 [0] [],.sub 1 [] []]) (ai (hX R13_19t3 [10,85,86,87,88,89,90,91,92,93,94,95]) (ai (hU R13_20 [8,57] [97] [8,57,97,98,99] 98 [] [(97,.t 8)] [.tt 8]) (ai (hP R13_20t1 [97] [8,57,97,98,99]) (ai (hV R13_20t2 [8,57,97,98,99] [96] 100 [] [(96,bnq .geq 0 (.t 98))] [sb [],sb []]) (ai (hU R13_21 [96] [100] [96,100,101] 101 [] [(100,.t 7)] [.tt 7]) (ai (hX R13_21t1 [96,100,101]) (ai (hU R13_22 [0,5,6,7,33,34,35,96] [36,2] [0,5,6,7,33,34,35,36,96] 37 [] [(36,bnm 2 (eF 0 (bng (eL (.t 5))))),(2,.c (.s (.slice none 0 0)))] [sb [0,0,0],sb [0,0],sb [0],sb [],.cc (.s (.slice none 0 0))]) (ai (hP R13_22t1 [36] [0,5,6,7,33,34,35,36,96]) (ai (hV R13_22t2 [0,5,6,7,33,34,35,36,96] [4] 5 [] [(4,bm8 30)] [.cc (.s (.int .i64 30))]) (ai (hE ze aj8) (ai (hU R13_23 [0,5,7,26] [102] [0,5,7,26,102,103] 103 [] [(102,.t 7)] [.tt 7]) (ai (hX R13_23t1 [0,5,7,26,102,103]) (ai (hU R13_24 [6,104] [105,2] [6,104,105] 106 [] [(105,.op (.build [.s (.int .i64 0),.s (.int .i64 0)] [(0,1),(1,1)] []) []),(2,eL (.t 6))] [.sub 1 [] [],sb [],.sub 1 [] []]) (ai (hP R13_24t1 [105] [6,104,105]) (ai (hV R13_24t2 [6,104,105] [4] 5 [] [(4,bm8 0)] [.cc (.s (.int .i64 0))]) (aj8.eq_1)))))))))))))))))))))))))))))))))))))))))))))))))))))))))))))))))))))))))
def a_f25:=ai (hT R25_0 K25_0 [] 7 [] [] [.cc (.s (.pointer none))]) (ai avz (ai (hK K25_0 0) (ai (hK K25_0 1) (ai (hK K25_0 2) (ai (hK K25_0 3) (ai (hU R25_1 [0,8,9,10,11,12,13,14,15,16,17,18,19,20,21,22,23,24,25,26,27] [7,28] bnt 29 [] [(7,eL (.t 2)),(28,.op (.build [.s (.int .u8 0),.s (.string ⟨#[]⟩),.s (.int .i64 0),.s (.int .i64 0),.s (.int .i64 0)] [(0,1),(1,1),(2,1),(3,2)] [(0,.t 0),(1,.t 1),(3,.t 2)]) [.t 0,.op (.subStr (.t 0) (some (.t 1)) (some (.t 2))) [eL (eF 2 (bng (eL (.t 3)))),eL (eF 3 (bng (eL (.t 3)))),bno .add (eL (eF 3 (bng (eL (.t 3))))) (.t 1)],bnm 2 (eF 0 (bng (eL (.t 3))))])] [sb [],.tt 0,.sub 1 [1,0,0,0,0] [],.sub 1 [1,0,0,0] [],.sub 1 [1,0,0] [],.sub 1 [1,0] [],.sub 1 [1,0,0,0,0] [],.sub 1 [1,0,0,0] [],.sub 1 [1,1,0] [],.sub 1 [1,1] [],.sub 1 [1,0,0,0,0] [],.sub 1 [1,0,0,0] [],.sub 1 [1,1,0] [],.sub 1 [1,1] [],.tt 1,.sub 1 [1,2] [],.sub 1 [1] [],.sub 1 [1,0,0,0,0] [],.sub 1 [1,0,0,0] [],.sub 1 [2,0] [],.sub 1 [2] [],.sub 1 [] []]) (ai (hP R25_1t1 [28] bnt) (ai (hP R25_1t2 [7,29] bnt) (ai (hX R25_1t3 [0,7,8,9,10,11,12,13,14,15,16,17,18,19,20,21,22,23,24,25,26,27,28,29,30]) (ai (hU R25_2 [1,3] [31,32] [1,3,31,32,33] 33 [] [(31,eL (.t 3)),(32,.t 1)] [sb [],.tt 1]) (ai (hX R25_2t1 [1,3,31,32,33]) ((hT R25_3 [2,34,35,36,37,38] [6] 39 [] [(6,bnj 5 (eL (.t 2)) (bnq .sub 1 (bnl (eL (.t 2)))))] [sb [0],sb [0],sb [1,0],sb [1],sb [],sb []])))))))))))))
def bcr:=ai (hT R26_0 K26_0 [4,5] 6 [] [(4,.t 1),(5,bm8 0)] [.tt 1,.cc (.s (.int .i64 0))]) (ai avy (ai (hK K26_0 0) (ai (hQ K26_0 1) (ai (hT R26_1 [] [6] 7 [] [(6,bno .lss (.t 5) (.t 4))] [sb []]) (ai (hU R26_2 [6,7,8,9,10,11,13,14] [12,15] [6,7,8,9,10,11,12,13,14,15] 16 [] [(12,bnf 1 (eL (eF 1 (eF 0 (bng (.t 0)))))),(15,eF 1 (eF 0 (bng (.t 0))))] [.tt 0,sb [0,0,0,0],sb [0,0,0],sb [0,0],sb [0],sb [],sb [0,0,0,0],sb [0,0,0],sb [0,0]]) (ai (hX R26_2t1 [6,7,8,9,10,11,12,13,14,15]) (ai (hT R26_3 [16,17,18,19,20,21,22,23,24] [25] 26 [] [(25,bni 10 (.op (.indexStr (.t 0) (.t 1)) [eL (eF 2 (bng (.t 0))),eL (eF 3 (bng (.t 0)))]))] [.tt 0,sb [0,0,0,0],sb [0,0,0],sb [0,0],.tt 0,sb [0,0,0,0],sb [0,1,0],sb [0,1],sb [0],sb []]) (ai (hU R26_4 [25,26,28,29,30,31,32,34,35] [27,33,36] bnu 37 [] [(27,.t 0),(33,bnf 1 (eL (eF 0 (eF 0 (bng (.t 0)))))),(36,eF 0 (eF 0 (bng (.t 0))))] [.tt 0,.tt 0,.tt 0,.sub 1 [0,0,0,0] [],.sub 1 [0,0,0] [],.sub 1 [0,0] [],.sub 1 [0] [],.sub 1 [] [],.sub 1 [0,0,0,0] [],.sub 1 [0,0,0] [],.sub 1 [0,0] []]) (ai (hP R26_4t1 [33,36] bnu) (ai (hU R26_4t2 [27,37,38] [39] bnu 40 [] [(39,eF 1 (eF 0 (bng (.t 27))))] [sb [0,0],sb [0],sb []]) (ai (hX R26_4t3 [25,26,27,28,29,30,31,32,33,34,35,36,37,38,39]) (ai (hU R26_5 [25,40,41,42,43,45] [44,46] [25,40,41,42,43,44,45,46] 47 [] [(44,bnf 1 (eL (eF 3 (bng (.t 0))))),(46,eF 3 (bng (.t 0)))] [.tt 0,sb [0,0,0],sb [0,0],sb [0],sb [],sb [0,0,0],sb [0,0]]) (ai (hX R26_5t1 [25,40,41,42,43,44,45,46]) (ai (hT R26_6 [47] [5] 48 [] [(5,bnf 1 (.t 5))] [sb [],sb []]) (ai (hE aqs ajy) (ajy.eq_1))))))))))))))))
def bcq:=ai (hT R28_0 K28_0 [] 5 [] [] [.cc (.s (.int .i64 0))]) (ai avx (ai (hK K28_0 0) (ai (hK K28_0 1) (ai (hT R28_1 [] [5] 6 [] [(5,bm8 0)] [.cc (.s (.int .i64 0))]) (ai (hU R28_2 [6,7,8,9,10,11,12,13,14,15,16,17] [18] bnv 19 [] [(18,bno .lss (bno .add (eL (eF 3 (bng (.t 0)))) (.t 5)) (.op (.lenS .p (.t 0)) [eL (eF 2 (bng (.t 0)))]))] [.tt 0,sb [0,0,0,0],sb [0,0,0],sb [0,0],.tt 5,sb [0],.tt 0,sb [0,0,0,0],sb [1,0,0],sb [1,0],sb [1],sb [],sb []]) (ai (hP R28_2t1 [] bnv) (ai (hP R28_2t2 [] bnv) (ai (hP R28_2t3 [20] bnv) (ai (hP R28_2t4 [21] bnv) (ai (hP R28_2t5 [22] bnv) (ai (hP R28_2t6 [] bnv) (ai (hP R28_2t7 [24] bnv) (ai (hP R28_2t8 [25] bnv) (ai (hP R28_2t9 [26] bnv) (ai (hP R28_2t10 [] bnv) (ai (hP R28_2t11 [27,28] bnv) (ai (hP R28_2t12 [23,29] bnv) (ai (hP R28_2t13 [19,30] bnv) (ai (hV R28_2t14 [6,7,8,9,10,11,12,13,14,15,16,17,18,19,20,21,22,23,24,25,26,27,28,29,30,31] [32] 33 [] [(32,.pick (.t 18) (.t 31) bnb)] [sb []]) (ai (hT R28_3 [32,33,34] [5] 35 [] [(5,bnf 1 (.t 5))] [.tt 5,sb [],sb []]) (ai (hE aqr ajx) (ai (hT R28_4 [0,1,5,32,35] [4] 36 [] [(4,.t 5)] [.tt 5,.tt 5]) (ajx.eq_1)))))))))))))))))))))))
def a_f29:=ai (hT R29_0 K29_0 [] 3 [] [] [.cc (.s (.bool false))]) (ai avw (ai (hK K29_0 0) ((hT R29_1 [0,3,4] [2] 5 [] [(2,bnp .neq 10 (.t 0))] [.tt 0,sb [],sb []]))))
def a_f30:=ai (hT R30_0 K30_0 [] 3 [] [] [.cc (.s (.bool false))]) (ai avv (ai (hK K30_0 0) ((hT R30_1 [0,3,4,5,6,7,8,9,10,11,12,13,14,15,16,17,18,19,20] [2] 21 [] [(2,.pick (.pick (.pick (bnp .geq 97 (.t 0)) (bnp .leq 122 (.t 0)) bnb) bna (.pick (bnp .geq 65 (.t 0)) (bnp .leq 90 (.t 0)) bnb)) bna (bni 95 (.t 0)))] [.tt 0,sb [0,0,0],sb [0,0,0],.sub 0 [0,0,1,0] [5],.sub 0 [0,0,1] [5],sb [0,0],sb [0,0],.sub 0 [0,2,0,0] [9],.sub 0 [0,2,0] [9],.sub 0 [0,2,0] [9],.sub 0 [0,2,1,0] [9,12],.sub 0 [0,2,1] [9,12],.sub 0 [0,2] [9],sb [0],sb [0],.sub 0 [2,0] [17],.sub 0 [2] [17],sb [],sb []]))))
def a_f31:=ai (hT R31_0 K31_0 [] 3 [] [] [.cc (.s (.bool false))]) (ai avu (ai (hK K31_0 0) (ai (hU R31_1 [] [3] bnw 4 [] [(3,.t 0)] [.tt 0]) (ai (hP R31_1t1 [3] bnw) (ai (hU R31_1t2 [4] [5] bnw 6 [] [(5,.t 4)] [.tt 4]) (ai (hP R31_1t3 [] bnw) (ai (hP R31_1t4 [6] bnw) ((hV R31_1t5 [0,3,4,5,6,7,8,9,10,11,12] [2] 13 [] [(2,.pick (.pick (.t 5) bna (.t 7)) bna (bni 46 (.t 0)))] [sb [0],sb [0],.sub 0 [2,0] [9],.sub 0 [2] [9],sb [],sb []])))))))))
def a_f32:=ai (hT R32_0 K32_0 [] 3 [] [] [.cc (.s (.bool false))]) (ai avt (ai (hK K32_0 0) ((hT R32_1 [0,3,4,5,6,7,8] [2] 9 [] [(2,.pick (bnp .geq 48 (.t 0)) (bnp .leq 57 (.t 0)) bnb)] [.tt 0,sb [0],sb [0],.sub 0 [1,0] [5],.sub 0 [1] [5],sb [],sb []]))))
theorem bdl:yf Tryd.prog PX0 13=some (false,ag5.ntmps,ag5.results,ag5.body.bare):=by kernel_rfl
theorem bdk:yf Tryd.prog PX0 25=some (false,aov.ntmps,aov.results,aov.body.bare):=by kernel_rfl
theorem bdj:yf Tryd.prog PX0 26=some (false,ang.ntmps,ang.results,ang.body.bare):=by kernel_rfl
theorem bdi:yf Tryd.prog PX0 28=some (false,aou.ntmps,aou.results,aou.body.bare):=by kernel_rfl
theorem bdh:yf Tryd.prog PX0 29=some (false,aot.ntmps,aot.results,aot.body.bare):=by kernel_rfl
theorem bdg:yf Tryd.prog PX0 30=some (false,aos.ntmps,aos.results,aos.body.bare):=by kernel_rfl
theorem bdf:yf Tryd.prog PX0 31=some (false,aor.ntmps,aor.results,aor.body.bare):=by kernel_rfl
theorem bde:yf Tryd.prog PX0 32=some (false,aoq.ntmps,aoq.results,aoq.body.bare):=by kernel_rfl
def bV(c:UInt8):V:=.s (.int .u8 c.toNat)
def S(b:ByteArray):V:=.s (.string b)
def p9(c d:UInt8):(c=d)↔((c.toNat:Nat):Int)=((d.toNat:Nat):Int):=by rw[ap5,UInt8.toNat_inj]
def ayl(c:UInt8):(decide ((c.toNat:Int) ≥ 97)&&decide ((c.toNat:Int)<=122)||decide ((c.toNat:Int) ≥ 65)&&decide ((c.toNat:Int)<=90)||((c.toNat:Int)==95))=Tok.letter c:=by
 unfold Tok.letter;rw[ib];simp only[kr,au,lm,dz,p9,show(UInt8.toNat 95)=95 from rfl];omega
def a6m(c):(decide ((c.toNat:Int) ≥ 48)&&decide ((c.toNat:Int)<=57))=Tok.digit c:=by
 unfold Tok.digit;rw[ib];simp only[au,lm];omega
theorem a00(c:UInt8):((c.toNat:Int)==46)=(c==46):=by
 rw[ib,dz,dz,p9];rfl
theorem awl(c:UInt8):((c.toNat:Int) != 10)=Tok.other c:=by
 unfold Tok.other;rw[ib];simp only[ny,Ne,p9];rfl
section
variable {CT:Nat->Option CFun}
def aad(hT:CT ba0=some (.code aos))(c base H):gq CT (.fn ba0 [] []) [.s (.int .u8 c.toNat)] base H=some (bl (Tok.letter c),H):=by
 refine qi (c:=aos) hT (by simp[aos]) ?_
 rw[<- ayl];simp only[aos,simprocAttr,a_f30,aa]
def aaa(hT:CT baz=some (.code aoq))(c base H):gq CT (.fn baz [] []) [.s (.int .u8 c.toNat)] base H=some (bl (Tok.digit c),H):=by
 refine qi (c:=aoq) hT (by simp[aoq]) ?_
 rw[<- a6m];simp only[aoq,simprocAttr,a_f32,aa]
def a3l(hT:CT bfk=some (.code aot))(c base H):gq CT (.fn bfk [] []) [.s (.int .u8 c.toNat)] base H=some (bl (Tok.other c),H):=by
 refine qi (c:=aot) hT (by simp[aot]) ?_
 rw[<- awl];simp only[aot,simprocAttr,a_f29,aa]
def ajk(hT:CT bfj=some (.code aor))(hl:∀(c:UInt8) (base:Nat) (H:Heap),gq CT (.fn ba0 [] []) [.s (.int .u8 c.toNat)] base H=some (bl (Tok.letter c),H))(hd:∀(c:UInt8) (base:Nat) (H:Heap),gq CT (.fn baz [] []) [.s (.int .u8 c.toNat)] base H=some (bl (Tok.digit c),H))(c:UInt8)(base:Nat)(H:Heap):gq CT (.fn bfj [] []) [.s (.int .u8 c.toNat)] base H=some (bl (Tok.within c),H):=by
 refine qi (c:=aor) hT (by simp[aor]) ?_
 unfold Tok.within;rw[<- a00];cases h1:Tok.letter c<;>simp only[aor,simprocAttr,a_f31,aa,hl,hd,h1]
end
abbrev I(n:Int):V:=.s (.int .i64 n)
def rC(ln cl:Nat)(b:ByteArray)(at':Nat):List V:=[I ln,I cl,.s (.string b),I at']
theorem amk(c:UInt8):((c.toNat:Int)==10)=decide (c=10):=by
 rw[ib,dz,jg,p9];rfl
def uf{n:Nat}(h:n<2^62):IntKind.i64.wrap ((n:Int)+1)=((n+1:Nat):Int):=by rw[IntKind.wrap_i64];omega
def bf4{H i g c}(h:getC H i g=some c):H[i]?=some (.cells g c):=by
 unfold getC at h;cases ho:H[i]? with
 |none=>rw[ho]at h;cases h
 |some o=>
   rw[ho]at h;cases o with
   |cells g2 c2=>
     dsimp only at h;split at h
     .rename_i e;cases h;rw[e]
     .cases h
   |map _=>cases h
   |loop _ _ _ _ _ _=>cases h
   |dead=>cases h
   |bytes _ _=>cases h
def kz{H i g c}(h:getC H i g=some c)(c'):getC (H.set i (.cells g c')) i g=some c':=by
 have:=su h;unfold getC;rw[ma this];simp
def step_loop(call:o8)(base b)(hb:b.size<=2^40)(i)(hi:base<=i)(m q)(hq:q<=b.size)(hm:m<2^62):∀(n j at' ln cl:Nat) (H:Heap),getC H i 0=some (rC ln cl b at')->at'+n=q->j+n=m->ln<=at'+1->cl<=at'+1->
 itW (evC call itW base aqs) [] H.length (ja 48 [(0,.ref i 0 0),(4,I m),(5,I j)]) H=
 some (.ext 0,ja 48 [(0,.ref i 0 0),(4,I m),(5,I m),(6,bl false)],H.set i (.cells 0 (rC (Tok.spotL ((b.data.toList.drop at').take n) (ln,cl)).1 (Tok.spotL ((b.data.toList.drop at').take n) (ln,cl)).2 b q))):=by
 intro n
 induction n with
 |zero=>
   intro j at' ln cl H hc h1 h4 h2 h3;have hlt:=su hc;have e:H.set i (.cells 0 (rC ln cl b at'))=H:=avc (bf4 hc);rw[o7]at h1 h4;subst h1 h4;rw[kg];simp only[bcr,simprocAttr,aa,I,qm,Tok.spotL,e]
 |succ n ih=>
   intro j at' ln cl H hc h1 h4 h2 h3;have hlt:=su hc
   have hat:at'<b.data.toList.length:=by rw[show b.data.toList.length=b.size from rfl];omega
   have hx:b.data.toList[at']?=some b.data.toList[at']:=af hat;have hset:∀c',getC (H.set i (.cells 0 c')) i 0=some c':=fun c'=>kz hc c';have hlen:∀ob,(H.set i ob).length=H.length:=fun ob=>fe;have hss:∀a b,(H.set i a).set i b=H.set i b:=fun a b=>List.set_set ..;have hd:b.data.toList.drop at'=b.data.toList[at']::b.data.toList.drop (at'+1):=ed hat
   have hj:((j:Int)<(m:Int)):=by omega
   have w1:=uf (n:=cl) (by omega)
   have w2:=uf (n:=ln) (by omega)
   have w3:=uf (n:=at') (by omega)
   have w4:=uf (n:=j) (by omega)
   have htr:∀fr ob,trim H.length fr (H.set i ob)=H.set i ob:=fun fr ob=>ach (hlen ob);have hrc:getC H i 0=some [I ln,I cl,.s (.string b),I at']:=hc;rw[hd,az,Tok.spotL];rw[kg];by_cases h10:b.data.toList[at']=10
   .rw[dw h10]
    have ih':=ih (j+1) (at'+1) (ln+1) 1 (H.set i (.cells 0 (rC (ln+1) 1 b (at'+1)))) (hset _) (by omega) (by omega) (by omega) (by omega)
    simp only[bcr,simprocAttr,aa,I,hi,hrc,hj,hx,w1,w2,w3,w4,hset,hss,amk,h10,htr];simp only[hlen,hss,rC,I]at ih' |-;exact ih'
   .rw[fu h10]
    have ih':=ih (j+1) (at'+1) ln (cl+1) (H.set i (.cells 0 (rC ln (cl+1) b (at'+1)))) (hset _) (by omega) (by omega) (by omega) (by omega)
    simp only[bcr,simprocAttr,aa,I,hi,hrc,hj,hx,w1,w2,w3,w4,hset,hss,amk,h10,htr];simp only[hlen,hss,rC,I]at ih' |-;exact ih'
section
variable {CT:Nat->Option CFun}
theorem aqd(hT:CT ba2=some (.code ang))(base){b}(hb:b.size<=2^40){i}(hi:base<=i){H ln cl at'}(hc:getC H i 0=some (rC ln cl b at')){n}(hn:at'+n<=b.size)(h2:ln<=at'+1)(h3:cl<=at'+1):
 gq CT (.fn ba2 [] []) [.ref i 0 0,I n] base H=some (.tup [],H.set i (.cells 0 (rC (Tok.spotL ((b.data.toList.drop at').take n) (ln,cl)).1 (Tok.spotL ((b.data.toList.drop at').take n) (ln,cl)).2 b (at'+n)))):=by
 refine qi (c:=ang) hT (by simp[ang]) ?_
 have hl:=step_loop (gq CT) base b hb i hi n (at'+n) hn (by omega) n 0 at' ln cl H hc rfl (by omega) h2 h3
 rw[I,I,show((0:Nat):Int)=0 from rfl]at hl;simp only[ang,simprocAttr,bcr,aa,I,hl];rfl
def bbi(base){f}{p:UInt8->Bool}(hp:∀(c:UInt8) (base:Nat) (H:Heap),gq CT f [.s (.int .u8 c.toNat)] base H=some (bl (p c),H))(hf:∃k,f=.fn k [] []){b}(hb:b.size<=2^40){i H ln cl at'}(hc:getC H i 0=some (rC ln cl b at')):∀(l:List UInt8) (j:Nat),b.data.toList.drop (at'+j)=l->at'+j<=b.size->
 itW (evC (gq CT) itW base aqr) [] H.length (ja 36 [(0,.ref i 0 0),(1,f),(5,I j)]) H=some (.ext 0,ja 36 ((0,.ref i 0 0)::(1,f)::(5,I ((j+Tok.far p l:Nat):Int))::[(32,bl false)]),H):=by
 intro l
 induction l with
 |nil=>
   intro j hd hj
   have hin:at'+j=b.size:=by
    have:=jv List.length hd;rw[ig,show b.data.toList.length=b.size from rfl]at this;simp at this;omega
   rw[kg];have hrc:getC H i 0=some [I ln,I cl,.s (.string b),I at']:=hc
   have w1:IntKind.i64.wrap ((at':Int)+(j:Int))=(b.size:Int):=by rw[IntKind.wrap_i64];omega
   simp only[bcq,simprocAttr,aa,I,hrc,w1,qm,Tok.far]
 |cons c l ih=>
   intro j hd hj
   have hcc:b.data.toList[at'+j]?=some c:=by have:=jv (·[0]?) hd;simp only[jc]at this;exact this
   have hlt:at'+j<b.size:=by have:=(bmk.1 hcc).1;exact this
   have hd':b.data.toList.drop (at'+(j+1))=l:=by
    have:=jv (List.drop 1) hd
    simpa[qc,yh]using this
   have hrc:getC H i 0=some [I ln,I cl,.s (.string b),I at']:=hc
   have w1:IntKind.i64.wrap ((at':Int)+(j:Int))=((at'+j:Nat):Int):=by rw[IntKind.wrap_i64];omega
   have w2:=uf (n:=j) (by omega)
   have hlt':(((at'+j:Nat):Int)<(b.size:Int)):=by omega
   obtain⟨k,rfl⟩:=hf
   have hen:=ih (j+1) hd' (by omega)
   rw[kg];cases hpc:p c with
   |true=>
     simp only[bcq,simprocAttr,aa,I,hrc,w1,w2,hlt',hcc,hp,hpc,Tok.far]
     rw[show j+(Tok.far p l+1)=j+1+Tok.far p l by omega]
     exact hen
   |false=>
     simp only[bcq,simprocAttr,aa,I,hrc,w1,hlt',hcc,hp,hpc,Tok.far]
def aks(hT:CT bfl=some (.code aou))(base){f}{p:UInt8->Bool}(hp:∀(c:UInt8) (base:Nat) (H:Heap),gq CT f [.s (.int .u8 c.toNat)] base H=some (bl (p c),H))(hf:∃k,f=.fn k [] []){b}(hb:b.size<=2^40){i H ln cl at'}(hc:getC H i 0=some (rC ln cl b at'))(hat:at'<=b.size):
 gq CT (.fn bfl [] []) [.ref i 0 0,f] base H=some (I (Tok.far p (b.data.toList.drop at'):Nat),H):=by
 refine qi (c:=aou) hT (by simp[aou]) ?_
 have hl:=bbi (CT:=CT) base hp hf hb hc (b.data.toList.drop at') 0 rfl hat;rw[I,I,show((0:Nat):Int)=0 from rfl,ng]at hl;simp only[aou,simprocAttr,bcq,aa,I,hl]
end
end Go.Proofs.YtbocmenkkjbigaaDoor
namespace Go.AM
theorem aia(H b k k2 l h):ae0 H (.subStr (.t 0) (some (.t 1)) (some (.t 2))) (some [.s (.string b),.s (.int k l),.s (.int k2 h)])=if 0<=l/\l<=h/\h<=b.size then some (.s (.string (b.extract l.toNat h.toNat)))else none:=by
 show(if 0<=l/\l<=h/\h<=(b.size:Int)then some (V.s (.string (b.extract l.toNat h.toNat)),H)else none).map (·.1)=_
 split<;>rfl
def extract_eq(b:ByteArray)(at' n:Nat):b.extract at' (at'+n)=⟨((b.data.toList.drop at').take n).toArray⟩:=by
 apply ByteArray.ext;apply xz;rw[ByteArray.data_extract,Array.toList_extract,List.extract_eq_drop_take];simp
theorem aa7(t u w:ARes)(fr H):w9 [t,u,w] fr H=match ak5 fr H t,ak5 fr H u,ak5 fr H w with|some x,some y,some z=>some (.tup [x,y,z])|_,_,_=>none:=by
 simp only[w9,qf,ay8];cases ak5 fr H t<;>cases ak5 fr H u<;>cases ak5 fr H w<;>rfl
theorem afa(H g n a):abf H g n a=y5 H g n a:=rfl
theorem ap8(H f a b):ae0 H (.mkFn f [] [.t 0,.t 1]) (some [a,b])=some (.fn f [] [a,b]):=rfl
end Go.AM
set_option maxRecDepth 100000
namespace Go.Proofs.YtbocmenkkjbigaaDoor
open Go.AM
def tV(t:Tok.T):List V:=[.s (.int .u8 t.kind),.s (.string ⟨t.text.toArray⟩),I t.n,I t.line,I t.col]
structure LexSt (m:Nat) (H:Heap) (o h i:Nat) (b:ByteArray) (ln cl at':Nat) (R:List (List V)):Prop where
 hold:getC H h 0=some [.ref i 0 0]
 rd:getC H i 0=some (rC ln cl b at')
 out:∃v,getC H o 0=some [v]/\uj m 5 H v R
 len:m<=H.length
 lt:h<m/\i<m/\o<m
 ne:o≠h/\o≠i/\h≠i
def uj.trim_cell{m w L o H v R}(h:uj m w H v R)(ho:getC H o 0=some [v])(hL:o<L)(fr):uj m w (trim L fr H) v R:=by
 rcases ao6 L fr H with e|⟨e,_,hu⟩
 .rw[e];exact h
 .refine h.keep fun id g n ev=>?_
  have:=hu o 0 _ hL ho v (by simp)
  rw[ev]at this;simp only[qh,lm]at this;rw[e,gu this]
section
variable {CT:Nat->Option CFun}
def aq6(hT:CT bfm=some (.code aov))(hS:CT ba2=some (.code ang)){base m:Nat}{H}{o h i:Nat}{b}{ln cl at':Nat}{R}(st:LexSt m H o h i b ln cl at' R)(hb:b.size<=2^40)(hbo:base<=o)(hbi:base<=i)(hbm:base<=m){n:Nat}(hn:at'+n<=b.size)(hl:ln<=at'+1)(hc:cl<=at'+1)(hR:R.length<=at'+1)(kind:Nat):
 ∃id g H',gq CT (.fn bfm [] [.ref o 0 0,.ref h 0 0]) [.s (.int .u8 kind),I n] base H=some (.ref id g (R.length*5),H')/\
   LexSt m H' o h i b (Tok.spotL ((b.data.toList.drop at').take n) (ln,cl)).1 (Tok.spotL ((b.data.toList.drop at').take n) (ln,cl)).2 (at'+n) (R++[tV ⟨kind,(b.data.toList.drop at').take n,0,ln,cl⟩])/\
   getC H' o 0=some [.sl id g 0 (R.length+1) 5]/\m<=id/\getC H' id g=some (R++[tV ⟨kind,(b.data.toList.drop at').take n,0,ln,cl⟩]).flatten/\dn m [o,i] H H':=by
 obtain⟨v,ho,hv⟩:=st.out;have hrd:=st.rd;have hh:=st.hold;obtain⟨hmh,hmi,hmo⟩:=st.lt;obtain⟨noh,noi,nhi⟩:=st.ne;have hmL:=st.len;have hrc:getC H i 0=some [I ln,I cl,.s (.string b),I at']:=hrd
 have w1:IntKind.i64.wrap ((at':Int)+(n:Int))=((at'+n:Nat):Int):=by rw[IntKind.wrap_i64];omega
 have hle:(0<=(at':Int)/\(at':Int)<=((at'+n:Nat):Int)/\((at'+n:Nat):Int)<=(b.size:Int)):=by omega
 obtain⟨row,hrow⟩:∃row,tV ⟨kind,(b.data.toList.drop at').take n,0,ln,cl⟩=row:=⟨_,rfl⟩;have hrow':[V.s (.int .u8 kind),V.s (.string ⟨((b.data.toList.drop at').take n).toArray⟩),V.s (.int .i64 0),V.s (.int .i64 ln),V.s (.int .i64 cl)]=row:=hrow
 have hrl:row.length=5:=by rw[<- hrow];rfl
 have hr1:row.all V.one=true:=by rw[<- hrow];rfl
 rw[hrow];obtain⟨B,hB⟩:∃B,H++[Ob.cells 0 row]=B:=⟨_,rfl⟩
 have kB:∀id,id<H.length->B[id]?=H[id]?:=fun id h1=>by rw[<- hB,ah h1]
 have lB:B.length=H.length+1:=by rw[<- hB];simp
 have cB:∀{id g c},getC H id g=some c->getC B id g=some c:=fun {id g c} hg=>by have:=su hg;unfold getC at hg |-;rw[kB id this];exact hg
 have hx:elems B 5 (.sl H.length 0 0 1 5)=some ([row].length,[row].flatten):=by
  rw[<- hB];exact(RdW.sl (R:=[row]) (by simpa using jl H 0 row) (by intro r hr;simp at hr;subst hr;exact hrl)).el
 have hvB:uj m 5 B v R:=hv.keep fun id g n e=>kB id (hv.lt id g n e)
 obtain⟨v',C,eC,aC,lC,kC⟩:=hvB.append (base:=base) (bytes:=48) (S:=[row]) hbm (by omega) (by intro r hr;simp at hr;subst hr;exact hrl) (by simp) hx (by simpa using hr1) (by simp;omega)
 obtain⟨hRR,⟨e0,_⟩|⟨id,g,rfl,hcC,hid⟩⟩:=aC
 .simp at e0
 have hap:uj m 5 C (.sl id g 0 (R++[row]).length 5) (R++[row]):=⟨hRR,.inr ⟨id,g,rfl,hcC,hid⟩⟩
 have hvne:∀x,x<m->∀g n,v≠.sl x g 0 n 5:=by
  intro x hx g n e
  obtain⟨_,⟨_,rfl⟩|⟨id',g',rfl,_,hid'⟩⟩:=hv
  .cases e
  .cases e;omega
 have kCm:∀x,x<m->C[x]?=H[x]?:=fun x hx=>by rw[kC x (by omega) (hvne x hx),kB x (by omega)]
 have cC:∀{x g c},x<m->getC H x g=some c->getC C x g=some c:=fun {x g c} hx hg=>by unfold getC at hg |-;rw[kCm x hx];exact hg
 have hoC:=cC hmo ho;obtain⟨E,hE⟩:∃E,C.set o (.cells 0 [.sl id g 0 (R.length+1) 5])=E:=⟨_,rfl⟩
 have lE:E.length=C.length:=by rw[<- hE];exact fe
 have oE:getC E o 0=some [.sl id g 0 (R.length+1) 5]:=by rw[<- hE];exact kz hoC _
 have kE:∀x,x≠o->E[x]?=C[x]?:=fun x hx=>by rw[<- hE,ae (sj hx)]
 have cE:∀{x g c},x≠o->getC C x g=some c->getC E x g=some c:=fun {x g c} hx hg=>by unfold getC at hg |-;rw[kE x hx];exact hg
 have aE:uj m 5 E (.sl id g 0 (R++[row]).length 5) (R++[row]):=hap.keep fun id' g' n' e=>by cases e;exact kE id (by omega)
 have hhE:=cE (sj noh) (cC hmh hh);have hrE:=cE (sj noi) (cC hmi hrd);have stepF:=aqd hS base hb hbi hrE hn hl hc;obtain⟨rc,hrc'⟩:∃rc,rC (Tok.spotL ((b.data.toList.drop at').take n) (ln,cl)).1 (Tok.spotL ((b.data.toList.drop at').take n) (ln,cl)).2 b (at'+n)=rc:=⟨_,rfl⟩;have lG:∀ob,(E.set i ob).length=E.length:=fun ob=>fe;have tG:∀fr2 ob,trim E.length fr2 (E.set i ob)=E.set i ob:=fun fr2 ob=>ach (lG ob)
 have oG:∀ob,getC (E.set i ob) o 0=some [.sl id g 0 (R.length+1) 5]:=fun ob=>by rw[xc ob noi];exact oE
 have lR:(R++[row]).length=R.length+1:=by simp
 have w2:IntKind.i64.wrap (((R.length+1:Nat):Int)-1)=(R.length:Int):=by rw[IntKind.wrap_i64];omega
 have hix:(0<=(R.length:Int)/\(R.length:Int)<((R.length+1:Nat):Int)/\5=5):=by omega
 have hBx:H++[Ob.cells 0 [V.s (.int .u8 kind),V.s (.string ⟨((b.data.toList.drop at').take n).toArray⟩),V.s (.int .i64 0),V.s (.int .i64 ln),V.s (.int .i64 cl)]]=B:=by rw[hrow'];exact hB
 refine⟨id,g,_,qi (c:=aov) hT (r:=(.ref id g (R.length*5),E.set i (.cells 0 rc))) (by simp[aov]) ?_,?_⟩
 .simp only[aov,simprocAttr,a_f25,aa,I,ho,hh,hrc,w1,aia,hle,extract_eq,hBx,eC,hoC,hbo,hE,hhE,stepF,hrc',oG,lR,w2,hix]
 .have aG:uj m 5 (E.set i (.cells 0 rc)) (.sl id g 0 (R++[row]).length 5) (R++[row]):=aE.keep fun id' g' n' e=>by cases e;exact ae (by omega)
  have hlE:m<=E.length:=by omega
  refine⟨⟨by rw[xc _ (fun e=>nhi e)];exact hhE,by rw[hrc'];exact kz hrE _,⟨_,oG _,by rw[<- lR];exact aG⟩,by rw[fe];exact hlE,st.lt,st.ne⟩,oG _,hid,?_,⟨by rw[fe];exact hlE,fun x hx hxn=>?_⟩⟩
  .obtain⟨_,⟨e0,_⟩|⟨id',g',e,hc',_⟩⟩:=aG
   .simp at e0
   .cases e;exact hc'
  .simp only[mq,xq,aiu,bjj]at hxn;rw[ae (sj hxn.2),kE x hxn.1,kCm x hx]
end
end Go.Proofs.YtbocmenkkjbigaaDoor
namespace Go.AM
def bhb:List V->Nat->Heap->Option (V × Heap):=fun vs _ H=>match vs with
 | [.s (.string b),.s (.int .u8 c)]=>some (.s (.int .i64 (Lib.indexByte b.data.toList c.toNat.toUInt8)),H)
 |_=>none
def auw:List V->Nat->Heap->Option (V × Heap):=fun vs _ H=>match vs with
 | [.s (.string b)]=>if b.size<=18 then(Lib.atoi b.data.toList).map fun n=>(.tup [.s (.int .i64 n),.s .nilIface],H)else none
 |_=>none
end Go.AM
set_option maxRecDepth 100000
namespace Go.Proofs.YtbocmenkkjbigaaDoor
open Go.AM
structure TL (CT:Nat->Option CFun):Prop where
 letter:CT ba0=some (.code aos)
 digit:CT baz=some (.code aoq)
 other:CT bfk=some (.code aot)
 within:CT bfj=some (.code aor)
 step:CT ba2=some (.code ang)
 far:CT bfl=some (.code aou)
 put:CT bfm=some (.code aov)
 idx:CT at5=some (.prim bhb)
 atoi:CT bjq=some (.prim auw)
def LexSt.trim{m H o h i b ln cl at' R}(st:LexSt m H o h i b ln cl at' R)(fr):LexSt m (Go.AM.trim m fr H) o h i b ln cl at' R:=by
 obtain⟨v,ho,hv⟩:=st.out;exact⟨aii st.hold st.lt.1,aii st.rd st.lt.2.1,⟨v,aii ho st.lt.2.2,uj.trim_cell hv ho st.lt.2.2 fr⟩,aqc st.len,st.lt,st.ne⟩
def acn(b:ByteArray)(d h o:Nat):Env:=[(0,.s (.string b)),(3,.ref d 0 0),(5,.ref h 0 0),(6,.ref o 0 0),(7,.fn 25 [] [.ref o 0 0,.ref h 0 0])]
def axa(c):∀l:List UInt8,decide (Lib.indexByte l c ≥ 0)=l.contains c
 | []=>by simp[Lib.indexByte]
 |b::l=>by
   have ih:=axa c l;have h1:=Lib.indexByte_ge l c;rw[abw,<- ih,ib,jg,kr,jg];simp only[Lib.indexByte];by_cases e:b=c
   .subst e;simp
   .have e1:(b==c)=false:=by simpa using e
    have e2:(c==b)=false:=by simpa using fun h=>e h.symm
    rw[e1,e2];by_cases e3:Lib.indexByte l c=-1
    .simp[e3]
    .have e4:(Lib.indexByte l c == -1)=false:=by simpa using e3
     simp only[e4,ky,ic,false_or];omega
def adq(c):decide (Lib.indexByte [32,9,13,10] c ≥ 0)=Tok.blank c:=by
 rw[axa];unfold Tok.blank;simp only[abw,aey,zi,bl6]
def ak4(c):decide (Lib.indexByte [61,44,58,40,41,123,125,91,93] c ≥ 0)=Tok.sign c:=by
 rw[axa];unfold Tok.sign;simp only[abw,aey,zi,bl6]
section
variable {CT:Nat->Option CFun}
def LexSt.put{m H o h i b ln cl at' R}(st:LexSt m H o h i b ln cl at' R)(fr ln2 cl2 at2):LexSt m (Go.AM.trim m fr (H.set i (.cells 0 (rC ln2 cl2 b at2)))) o h i b ln2 cl2 at2 R/\dn m [o,i] H (Go.AM.trim m fr (H.set i (.cells 0 (rC ln2 cl2 b at2)))):=by
 obtain⟨v,ho,hv⟩:=st.out;obtain⟨h1,h2,h3⟩:=st.lt;obtain⟨n1,n2,n3⟩:=st.ne
 have hlen:m<=(H.set i (.cells 0 (rC ln2 cl2 b at2))).length:=by rw[fe];exact st.len
 refine⟨LexSt.trim ⟨by rw[xc _ n3];exact st.hold,kz st.rd _,⟨v,by rw[xc _ n2];exact ho,hv.keep fun id g n e=>?_⟩,hlen,st.lt,st.ne⟩ fr,⟨aqc hlen,fun x hx hxn=>?_⟩⟩
 .obtain⟨_,⟨_,rfl⟩|⟨id',g',rfl,_,hid⟩⟩:=hv
  .cases e
  .cases e
   exact ae (by omega)
 .simp only[mq,xq,aiu,bjj]at hxn;rw[acr _ _ _ hx,ae (sj hxn.2)]
def a4m(T:TL CT){base m b}(hb:b.size<=2^40){d o h i}(hbo:base<=o)(hbi:base<=i)(hbm:base<=m){H ln cl at' R}(st:LexSt m H o h i b ln cl at' R)(hl:ln<=at'+1)(hc:cl<=at'+1)(hR:R.length<=at'+1){c}(hx:b.data.toList[at']?=some c)(hbl:Tok.blank c=true):
 ∃H',itW (evC (gq CT) itW base ze) [] m (ja 106 (acn b d h o)) H=itW (evC (gq CT) itW base ze) [] m (ja 106 (acn b d h o)) H'/\LexSt m H' o h i b (if c=10 then ln+1 else ln) (if c=10 then 1 else cl+1) (at'+1) R/\dn m [o,i] H H':=by
 have hrd:=st.rd;have hh:=st.hold;have hrc:getC H i 0=some [I ln,I cl,.s (.string b),I at']:=hrd;have hlt:at'<b.size:=(bmk.1 hx).1
 have hlt':((at':Int)<(b.size:Int)):=by omega
 have hdr:b.data.toList.drop at'=c::b.data.toList.drop (at'+1):=by
  rw[ed hlt,(bmk.1 hx).2]
 have hidx:∀(s:ByteArray) (base:Nat) (H:Heap),gq CT (.fn at5 [] []) [.s (.string s),.s (.int .u8 c.toNat)] base H=some (.s (.int .i64 (Lib.indexByte s.data.toList c)),H):=fun s base H=>by
  refine acf ?_;simp only[aag,T.idx];show some (V.s (.int .i64 (Lib.indexByte s.data.toList (c.toNat:Int).toNat.toUInt8)),H)=_
  rw[og,show c.toNat.toUInt8=c by simp]
 have hlet:=fun base H=>aad T.letter c base H;have hdig:=fun base H=>aaa T.digit c base H
 have hstep:=aqd T.step base hb hbi hrd (n:=1) (by omega) hl hc
 rw[I,show((1:Nat):Int)=1 from rfl,hdr,az,fq]at hstep
 obtain⟨s1,s2⟩:=st.put (ja 106 (acn b d h o)) (if c=10 then ln+1 else ln) (if c=10 then 1 else cl+1) (at'+1)
 refine⟨_,?_,s1,s2⟩
 have e1:(Tok.spotL [c] (ln,cl))=((if c=10 then ln+1 else ln),(if c=10 then 1 else cl+1)):=by
  simp only[Tok.spotL];split<;>rfl
 rw[e1]at hstep;rw[kg];simp only[acn,simprocAttr,ah7,aa,hh,hrc,hlt',hx,hidx,adq,hbl,hstep]
def awy(T:TL CT){base m b}(hb:b.size<=2^40){d o h i}(hbo:base<=o)(hbi:base<=i)(hbm:base<=m){H ln cl at' R}(st:LexSt m H o h i b ln cl at' R)(hl:ln<=at'+1)(hc:cl<=at'+1)(hR:R.length<=at'+1){c}(hx:b.data.toList[at']?=some c)(hbl:Tok.blank c=false)(h59:c=59):
 ∃H',itW (evC (gq CT) itW base ze) [] m (ja 106 (acn b d h o)) H=itW (evC (gq CT) itW base ze) [] m (ja 106 (acn b d h o)) H'/\LexSt m H' o h i b ln (cl+(Tok.far Tok.other (b.data.toList.drop (at'+1))+1)) (at'+(Tok.far Tok.other (b.data.toList.drop (at'+1))+1)) R/\dn m [o,i] H H':=by
 have hrd:=st.rd;have hh:=st.hold;have hrc:getC H i 0=some [I ln,I cl,.s (.string b),I at']:=hrd;have hlt:at'<b.size:=(bmk.1 hx).1
 have hlt':((at':Int)<(b.size:Int)):=by omega
 have hdr:b.data.toList.drop at'=c::b.data.toList.drop (at'+1):=by
  rw[ed hlt,(bmk.1 hx).2]
 have hidx:∀(s:ByteArray) (base:Nat) (H:Heap),gq CT (.fn at5 [] []) [.s (.string s),.s (.int .u8 c.toNat)] base H=some (.s (.int .i64 (Lib.indexByte s.data.toList c)),H):=fun s base H=>by
  refine acf ?_;simp only[aag,T.idx];show some (V.s (.int .i64 (Lib.indexByte s.data.toList (c.toNat:Int).toNat.toUInt8)),H)=_
  rw[og,show c.toNat.toUInt8=c by simp]
 have hlet:=fun base H=>aad T.letter c base H;have hdig:=fun base H=>aaa T.digit c base H
 have hfar:=fun base=>aks T.far base (fun c base H=>a3l T.other c base H) ⟨_,rfl⟩ hb hrd (by omega)
 have hfl:=Tok.far_le Tok.other (b.data.toList.drop (at'+1));rw[ig,show b.data.toList.length=b.size from rfl]at hfl
 simp only[hdr,Tok.far,dw (show Tok.other c=true by rw[h59];decide)]at hfar
 have hstep:=aqd T.step base hb hbi hrd (n:=Tok.far Tok.other (b.data.toList.drop (at'+1))+1) (by omega) hl hc
 rw[hdr,az,Tok.spotL_flat _ _ (Tok.len_ne Tok.other (by decide) _ (by rw[h59];decide)),bn,Tok.far_len]at hstep
 obtain⟨s1,s2⟩:=st.put (ja 106 (acn b d h o)) ln (cl+(Tok.far Tok.other (b.data.toList.drop (at'+1))+1)) (at'+(Tok.far Tok.other (b.data.toList.drop (at'+1))+1));refine⟨_,?_,s1,s2⟩
 have h59':((c.toNat:Int)==59)=true:=by rw[h59];rfl
 rw[kg];simp only[acn,simprocAttr,I,ah7,aa,hh,hrc,hlt',hx,hidx,adq,hbl,h59',hfar,hstep]
end
def dn.tr{m D A B}(h:dn m D A B)(fr):dn m D A (Go.AM.trim m fr B):=dn.trim h (aj _) fr
def a6n:∀(l:List UInt8) (acc:Nat),(∀x∈l,Tok.digit x=true)->Lib.decFrom acc l=some (l.foldl (fun n c=>n*10+(c.toNat-48)) acc)
 | [],acc,_=>rfl
 |c::l,acc,h=>by
   have hc:=h c jh;unfold Tok.digit at hc;simp only[au,lm]at hc;simp only[Lib.decFrom,Lib.digitVal,dw hc,ahf];exact a6n l _ fun x hx=>h x (il _ hx)
theorem bci(l)(h0:l≠[])(h:∀x∈l,Tok.digit x=true):Lib.atoi l=some (Tok.val l:Int):=by
 cases l with
 |nil=>exact absurd rfl h0
 |cons c l=>
   have hc:=h c jh
   have e1:(c==45)=false:=by rw[cz];rintro rfl;revert hc;decide
   have e2:(c==43)=false:=by rw[cz];rintro rfl;revert hc;decide
   simp only[Lib.atoi,e1,e2,ic,ky,Lib.decNat,List.isEmpty_cons];rw[a6n _ _ h];rfl
section
variable {CT:Nat->Option CFun}
def bao(T:TL CT){base m:Nat}{b}(hb:b.size<=2^40){d o h i:Nat}(hbo:base<=o)(hbi:base<=i)(hbm:base<=m){H}{ln cl at':Nat}{R}(st:LexSt m H o h i b ln cl at' R)(hl:ln<=at'+1)(hc:cl<=at'+1)(hR:R.length<=at'+1){c:UInt8}(hx:b.data.toList[at']?=some c)(hbl:Tok.blank c=false)(h59:c≠59)(hlt1:Tok.letter c=true):
 ∃H',itW (evC (gq CT) itW base ze) [] m (ja 106 (acn b d h o)) H=itW (evC (gq CT) itW base ze) [] m (ja 106 (acn b d h o)) H'/\LexSt m H' o h i b ln (cl+(Tok.far Tok.within (b.data.toList.drop (at'+1))+1)) (at'+(Tok.far Tok.within (b.data.toList.drop (at'+1))+1)) (R++[tV ⟨1,c::(b.data.toList.drop (at'+1)).take (Tok.far Tok.within (b.data.toList.drop (at'+1))),0,ln,cl⟩])/\dn m [o,i] H H':=by
 have hrd:=st.rd;have hh:=st.hold;have hrc:getC H i 0=some [I ln,I cl,.s (.string b),I at']:=hrd;have hlt:at'<b.size:=(bmk.1 hx).1
 have hlt':((at':Int)<(b.size:Int)):=by omega
 have hdr:b.data.toList.drop at'=c::b.data.toList.drop (at'+1):=by
  rw[ed hlt,(bmk.1 hx).2]
 have hidx:∀(s:ByteArray) (base:Nat) (H:Heap),gq CT (.fn at5 [] []) [.s (.string s),.s (.int .u8 c.toNat)] base H=some (.s (.int .i64 (Lib.indexByte s.data.toList c)),H):=fun s base H=>by
  refine acf ?_;simp only[aag,T.idx];show some (V.s (.int .i64 (Lib.indexByte s.data.toList (c.toNat:Int).toNat.toUInt8)),H)=_
  rw[og,show c.toNat.toUInt8=c by simp]
 have hlet:=fun base H=>aad T.letter c base H;have hdig:=fun base H=>aaa T.digit c base H;have hmL:=st.len
 have hfar:=fun base=>aks T.far base (fun c base H=>ajk T.within (aad T.letter) (aaa T.digit) c base H) ⟨_,rfl⟩ hb hrd (by omega)
 have hfl:=Tok.far_le Tok.within (b.data.toList.drop (at'+1));rw[ig,show b.data.toList.length=b.size from rfl]at hfl
 have hw:Tok.within c=true:=by unfold Tok.within;rw[hlt1];rfl
 simp only[hdr,Tok.far,dw hw]at hfar
 obtain⟨id,g,H1,e1,s1,o1,m1,c1,k1⟩:=aq6 T.put T.step st hb hbo hbi hbm (n:=Tok.far Tok.within (b.data.toList.drop (at'+1))+1) (by omega) hl hc hR 1
 rw[hdr,az,Tok.spotL_flat _ _ (Tok.len_ne Tok.within (by decide) _ (Tok.not_ten (.inl hlt1))),bn,Tok.far_len]at s1
 rw[I,show((1:Nat):Int)=1 from rfl]at e1;refine⟨_,?_,s1.trim (ja 106 (acn b d h o)),dn.tr k1 (ja 106 (acn b d h o))⟩
 have h59':((c.toNat:Int)==59)=false:=by rw[cz];intro e;exact h59 ((p9 c 59).2 e)
 rw[kg];simp only[acn,simprocAttr,I,ah7,aa,hh,hrc,hlt',hx,hidx,adq,hbl,h59',hlet,hlt1,hfar,e1]
def ban(T:TL CT){base m:Nat}{b}(hb:b.size<=2^40){d o h i:Nat}(hbo:base<=o)(hbi:base<=i)(hbm:base<=m){H}{ln cl at':Nat}{R}(st:LexSt m H o h i b ln cl at' R)(hl:ln<=at'+1)(hc:cl<=at'+1)(hR:R.length<=at'+1){c:UInt8}(hx:b.data.toList[at']?=some c)(hbl:Tok.blank c=false)(h59:c≠59)(hlt1:Tok.letter c=false)(hdg:Tok.digit c=false)(hsg:Tok.sign c=true):
 ∃H',itW (evC (gq CT) itW base ze) [] m (ja 106 (acn b d h o)) H=itW (evC (gq CT) itW base ze) [] m (ja 106 (acn b d h o)) H'/\LexSt m H' o h i b ln (cl+1) (at'+1) (R++[tV ⟨3,[c],0,ln,cl⟩])/\dn m [o,i] H H':=by
 have hrd:=st.rd;have hh:=st.hold;have hrc:getC H i 0=some [I ln,I cl,.s (.string b),I at']:=hrd;have hlt:at'<b.size:=(bmk.1 hx).1
 have hlt':((at':Int)<(b.size:Int)):=by omega
 have hdr:b.data.toList.drop at'=c::b.data.toList.drop (at'+1):=by
  rw[ed hlt,(bmk.1 hx).2]
 have hidx:∀(s:ByteArray) (base:Nat) (H:Heap),gq CT (.fn at5 [] []) [.s (.string s),.s (.int .u8 c.toNat)] base H=some (.s (.int .i64 (Lib.indexByte s.data.toList c)),H):=fun s base H=>by
  refine acf ?_;simp only[aag,T.idx];show some (V.s (.int .i64 (Lib.indexByte s.data.toList (c.toNat:Int).toNat.toUInt8)),H)=_
  rw[og,show c.toNat.toUInt8=c by simp]
 have hlet:=fun base H=>aad T.letter c base H;have hdig:=fun base H=>aaa T.digit c base H;have hmL:=st.len
 obtain⟨id,g,H1,e1,s1,o1,m1,c1,k1⟩:=aq6 T.put T.step st hb hbo hbi hbm (n:=1) (by omega) hl hc hR 3
 rw[hdr,az,fq,Tok.spotL_flat _ _ (by simpa using Tok.not_ten (.inr (.inr hsg)))]at s1
 rw[I,show((1:Nat):Int)=1 from rfl,show((3:Nat):Int)=3 from rfl]at e1;refine⟨_,?_,s1.trim (ja 106 (acn b d h o)),dn.tr k1 (ja 106 (acn b d h o))⟩
 have h59':((c.toNat:Int)==59)=false:=by rw[cz];intro e;exact h59 ((p9 c 59).2 e)
 rw[kg];simp only[acn,simprocAttr,I,ah7,aa,hh,hrc,hlt',hx,hidx,adq,ak4,hbl,h59',hlet,hlt1,hdig,hdg,hsg,e1]
def ar8{m d H x y}(hm:m<=H.length)(hd:getC H d 0=some [x,y])(hdm:d<m)(fr c):getC (Go.AM.trim m fr (H.set d (.cells 0 c))) d 0=some c/\dn m [d] H (Go.AM.trim m fr (H.set d (.cells 0 c))):=
 ⟨aii (kz hd _) hdm,aqc (by rw[fe];exact hm),fun id h1 h2=>by rw[acr _ _ _ h1,ae (by simp at h2;exact sj h2)]⟩
def bas(T:TL CT){base m b}(hb:b.size<=2^40){d o h i}(hbo:base<=o)(hbi:base<=i)(hbm:base<=m){H ln cl at' R}(st:LexSt m H o h i b ln cl at' R)(hl:ln<=at'+1)(hc:cl<=at'+1)(hR:R.length<=at'+1){c}(hx:b.data.toList[at']?=some c)(hbl:Tok.blank c=false)(h59:c≠59)(hlt1:Tok.letter c=false)(hdg:Tok.digit c=false)(hsg:Tok.sign c=false)(hd:∃x y,getC H d 0=some [x,y])(hbd:base<=d)(hdm:d<m):
 ∃H',itW (evC (gq CT) itW base ze) [] m (ja 106 (acn b d h o)) H=some (.ret,ja 106 [(2,ow),(3,.ref d 0 0),(4,.s (.int .i64 30))],H')/\getC H' d 0=some [I ln,I cl]/\dn m [d] H H':=by
 have hrd:=st.rd;have hh:=st.hold;have hrc:getC H i 0=some [I ln,I cl,.s (.string b),I at']:=hrd;have hlt:at'<b.size:=(bmk.1 hx).1
 have hlt':((at':Int)<(b.size:Int)):=by omega
 have hdr:b.data.toList.drop at'=c::b.data.toList.drop (at'+1):=by
  rw[ed hlt,(bmk.1 hx).2]
 have hidx:∀(s:ByteArray) (base:Nat) (H:Heap),gq CT (.fn at5 [] []) [.s (.string s),.s (.int .u8 c.toNat)] base H=some (.s (.int .i64 (Lib.indexByte s.data.toList c)),H):=fun s base H=>by
  refine acf ?_;simp only[aag,T.idx];show some (V.s (.int .i64 (Lib.indexByte s.data.toList (c.toNat:Int).toNat.toUInt8)),H)=_
  rw[og,show c.toNat.toUInt8=c by simp]
 have hlet:=fun base H=>aad T.letter c base H;have hdig:=fun base H=>aaa T.digit c base H;have hmL:=st.len;obtain⟨x,y,hd⟩:=hd;obtain⟨s1,s2⟩:=ar8 hmL hd hdm (ja 106 [(2,ow),(3,.ref d 0 0),(4,.s (.int .i64 30))]) [I ln,I cl];refine⟨_,?_,s1,s2⟩
 have h59':((c.toNat:Int)==59)=false:=by rw[cz];intro e;exact h59 ((p9 c 59).2 e)
 rw[kg];simp only[acn,simprocAttr,ow,I,ah7,aa,hh,hrc,hlt',hx,hidx,adq,ak4,hbl,h59',hlet,hlt1,hdig,hdg,hsg,hd,hbd]
def awx(T:TL CT){base m b}(hb:b.size<=2^40){d o h i}(hbo:base<=o)(hbi:base<=i)(hbm:base<=m){H ln cl at' R}(st:LexSt m H o h i b ln cl at' R)(hl:ln<=at'+1)(hc:cl<=at'+1)(hR:R.length<=at'+1){c}(hx:b.data.toList[at']?=some c)(hbl:Tok.blank c=false)(h59:c≠59)(hlt1:Tok.letter c=false)(hdg:Tok.digit c=true)(hd:∃x y,getC H d 0=some [x,y])(hbd:base<=d)(hdm:d<m)(hco:(9<Tok.far Tok.digit (b.data.toList.drop (at'+1))+1\/(1<Tok.far Tok.digit (b.data.toList.drop (at'+1))+1/\c=48)\/Tok.far Tok.digit (b.data.toList.drop (at'+1))<Tok.far Tok.within (b.data.toList.drop (at'+1)))):
 ∃H',itW (evC (gq CT) itW base ze) [] m (ja 106 (acn b d h o)) H=some (.ret,ja 106 [(2,ow),(3,.ref d 0 0),(4,.s (.int .i64 31))],H')/\getC H' d 0=some [I ln,I cl]/\dn m [d] H H':=by
 have hrd:=st.rd;have hh:=st.hold;have hrc:getC H i 0=some [I ln,I cl,.s (.string b),I at']:=hrd;have hlt:at'<b.size:=(bmk.1 hx).1
 have hlt':((at':Int)<(b.size:Int)):=by omega
 have hdr:b.data.toList.drop at'=c::b.data.toList.drop (at'+1):=by
  rw[ed hlt,(bmk.1 hx).2]
 have hidx:∀(s:ByteArray) (base:Nat) (H:Heap),gq CT (.fn at5 [] []) [.s (.string s),.s (.int .u8 c.toNat)] base H=some (.s (.int .i64 (Lib.indexByte s.data.toList c)),H):=fun s base H=>by
  refine acf ?_;simp only[aag,T.idx];show some (V.s (.int .i64 (Lib.indexByte s.data.toList (c.toNat:Int).toNat.toUInt8)),H)=_
  rw[og,show c.toNat.toUInt8=c by simp]
 have hlet:=fun base H=>aad T.letter c base H;have hdig:=fun base H=>aaa T.digit c base H;have hmL:=st.len
 have hfd:=fun base=>aks T.far base (fun c base H=>aaa T.digit c base H) ⟨_,rfl⟩ hb hrd (by omega)
 have hfw:=fun base=>aks T.far base (fun c base H=>ajk T.within (aad T.letter) (aaa T.digit) c base H) ⟨_,rfl⟩ hb hrd (by omega)
 have hfl:=Tok.far_le Tok.digit (b.data.toList.drop (at'+1));rw[ig,show b.data.toList.length=b.size from rfl]at hfl
 have hw:Tok.within c=true:=by unfold Tok.within;rw[hdg,hlt1];rfl
 simp only[hdr,Tok.far,dw hw]at hfw;simp only[hdr,Tok.far,dw hdg]at hfd
 have h59':((c.toNat:Int)==59)=false:=by rw[cz];intro e;exact h59 ((p9 c 59).2 e)
 have h48:((c.toNat:Int)==48)=decide (c=48):=by rw[ib,dz,jg,p9];rfl
 have q1:decide ((((Tok.far Tok.digit (b.data.toList.drop (at'+1))+1:Nat):Int)) > 9)=decide (9<Tok.far Tok.digit (b.data.toList.drop (at'+1))+1):=by rw[ib,jg,jg];omega
 have q2:decide ((((Tok.far Tok.digit (b.data.toList.drop (at'+1))+1:Nat):Int)) > 1)=decide (1<Tok.far Tok.digit (b.data.toList.drop (at'+1))+1):=by rw[ib,jg,jg];omega
 have q3:decide ((((Tok.far Tok.within (b.data.toList.drop (at'+1))+1:Nat):Int)) > ((Tok.far Tok.digit (b.data.toList.drop (at'+1))+1:Nat):Int))=decide (Tok.far Tok.digit (b.data.toList.drop (at'+1))<Tok.far Tok.within (b.data.toList.drop (at'+1))):=by rw[ib,jg,jg];omega
 obtain⟨x,y,hd⟩:=hd;obtain⟨s1,s2⟩:=ar8 hmL hd hdm (ja 106 [(2,ow),(3,.ref d 0 0),(4,.s (.int .i64 31))]) [I ln,I cl];refine⟨_,?_,s1,s2⟩;rw[kg];by_cases a1:9<Tok.far Tok.digit (b.data.toList.drop (at'+1))+1
 .simp only[acn,simprocAttr,ow,I,ah7,aa,hh,hrc,hlt',hx,hidx,adq,ak4,hbl,h59',hlet,hlt1,hdig,hdg,hfd,hfw,h48,q1,q2,a1,hd,hbd]
 .by_cases a2:1<Tok.far Tok.digit (b.data.toList.drop (at'+1))+1
  .by_cases a3:c=48
   .have a5:=yg a3;simp only[acn,simprocAttr,ow,I,ah7,aa,hh,hrc,hlt',hx,hidx,adq,ak4,hbl,h59',hlet,hlt1,hdig,hdg,hfd,hfw,h48,q1,q2,a1,a2,a5,hd,hbd]
   .have a4:Tok.far Tok.digit (b.data.toList.drop (at'+1))<Tok.far Tok.within (b.data.toList.drop (at'+1)):=by
     rcases hco with h|⟨_,h⟩|h
     .exact absurd h a1
     .exact absurd h a3
     .exact h
    have a5:=uz a3;simp only[acn,simprocAttr,ow,I,ah7,aa,hh,hrc,hlt',hx,hidx,adq,ak4,hbl,h59',hlet,hlt1,hdig,hdg,hfd,hfw,h48,q1,q2,q3,a1,a2,a5,a4,hd,hbd]
  .have a4:Tok.far Tok.digit (b.data.toList.drop (at'+1))<Tok.far Tok.within (b.data.toList.drop (at'+1)):=by
    rcases hco with h|⟨h,_⟩|h
    .exact absurd h a1
    .exact absurd h a2
    .exact h
   simp only[acn,simprocAttr,ow,I,ah7,aa,hh,hrc,hlt',hx,hidx,adq,ak4,hbl,h59',hlet,hlt1,hdig,hdg,hfd,hfw,h48,q1,q2,q3,a1,a2,a4,hd,hbd]
def bfa(T:TL CT){base m:Nat}{b}(hb:b.size<=2^40){d o h i:Nat}(hbo:base<=o)(hbi:base<=i)(hbm:base<=m){H}{ln cl at':Nat}{R}(st:LexSt m H o h i b ln cl at' R)(hl:ln<=at'+1)(hc:cl<=at'+1)(hR:R.length<=at'+1){c:UInt8}(hx:b.data.toList[at']?=some c)(hbl:Tok.blank c=false)(h59:c≠59)(hlt1:Tok.letter c=false)(hdg:Tok.digit c=true)(hco:¬(9<Tok.far Tok.digit (b.data.toList.drop (at'+1))+1\/(1<Tok.far Tok.digit (b.data.toList.drop (at'+1))+1/\c=48)\/Tok.far Tok.digit (b.data.toList.drop (at'+1))<Tok.far Tok.within (b.data.toList.drop (at'+1)))):
 ∃H',itW (evC (gq CT) itW base ze) [] m (ja 106 (acn b d h o)) H=itW (evC (gq CT) itW base ze) [] m (ja 106 (acn b d h o)) H'/\LexSt m H' o h i b ln (cl+(Tok.far Tok.digit (b.data.toList.drop (at'+1))+1)) (at'+(Tok.far Tok.digit (b.data.toList.drop (at'+1))+1)) (R++[tV ⟨2,c::(b.data.toList.drop (at'+1)).take (Tok.far Tok.digit (b.data.toList.drop (at'+1))),Tok.val (c::(b.data.toList.drop (at'+1)).take (Tok.far Tok.digit (b.data.toList.drop (at'+1)))),ln,cl⟩])/\dn m [o,i] H H':=by
 have hrd:=st.rd;have hh:=st.hold;have hrc:getC H i 0=some [I ln,I cl,.s (.string b),I at']:=hrd;have hlt:at'<b.size:=(bmk.1 hx).1
 have hlt':((at':Int)<(b.size:Int)):=by omega
 have hdr:b.data.toList.drop at'=c::b.data.toList.drop (at'+1):=by
  rw[ed hlt,(bmk.1 hx).2]
 have hidx:∀(s:ByteArray) (base:Nat) (H:Heap),gq CT (.fn at5 [] []) [.s (.string s),.s (.int .u8 c.toNat)] base H=some (.s (.int .i64 (Lib.indexByte s.data.toList c)),H):=fun s base H=>by
  refine acf ?_;simp only[aag,T.idx];show some (V.s (.int .i64 (Lib.indexByte s.data.toList (c.toNat:Int).toNat.toUInt8)),H)=_
  rw[og,show c.toNat.toUInt8=c by simp]
 have hlet:=fun base H=>aad T.letter c base H;have hdig:=fun base H=>aaa T.digit c base H;have hmL:=st.len
 have hfd:=fun base=>aks T.far base (fun c base H=>aaa T.digit c base H) ⟨_,rfl⟩ hb hrd (by omega)
 have hfw:=fun base=>aks T.far base (fun c base H=>ajk T.within (aad T.letter) (aaa T.digit) c base H) ⟨_,rfl⟩ hb hrd (by omega)
 have hfl:=Tok.far_le Tok.digit (b.data.toList.drop (at'+1));rw[ig,show b.data.toList.length=b.size from rfl]at hfl
 have hw:Tok.within c=true:=by unfold Tok.within;rw[hdg,hlt1];rfl
 simp only[hdr,Tok.far,dw hw]at hfw;simp only[hdr,Tok.far,dw hdg]at hfd
 have h59':((c.toNat:Int)==59)=false:=by rw[cz];intro e;exact h59 ((p9 c 59).2 e)
 have h48:((c.toNat:Int)==48)=decide (c=48):=by rw[ib,dz,jg,p9];rfl
 have q1:decide ((((Tok.far Tok.digit (b.data.toList.drop (at'+1))+1:Nat):Int)) > 9)=decide (9<Tok.far Tok.digit (b.data.toList.drop (at'+1))+1):=by rw[ib,jg,jg];omega
 have q2:decide ((((Tok.far Tok.digit (b.data.toList.drop (at'+1))+1:Nat):Int)) > 1)=decide (1<Tok.far Tok.digit (b.data.toList.drop (at'+1))+1):=by rw[ib,jg,jg];omega
 have q3:decide ((((Tok.far Tok.within (b.data.toList.drop (at'+1))+1:Nat):Int)) > ((Tok.far Tok.digit (b.data.toList.drop (at'+1))+1:Nat):Int))=decide (Tok.far Tok.digit (b.data.toList.drop (at'+1))<Tok.far Tok.within (b.data.toList.drop (at'+1))):=by rw[ib,jg,jg];omega
 obtain⟨id,g,H1,e1,s1,o1,m1,c1,k1⟩:=aq6 T.put T.step st hb hbo hbi hbm (n:=Tok.far Tok.digit (b.data.toList.drop (at'+1))+1) (by omega) hl hc hR 2
 rw[hdr,az,Tok.spotL_flat _ _ (Tok.len_ne Tok.digit (by decide) _ (Tok.not_ten (.inr (.inl hdg)))),bn,Tok.far_len]at s1
 rw[hdr,az]at c1;rw[I,show((2:Nat):Int)=2 from rfl]at e1;have a1:¬9<Tok.far Tok.digit (b.data.toList.drop (at'+1))+1:=fun h=>hco (.inl h);have a4:¬Tok.far Tok.digit (b.data.toList.drop (at'+1))<Tok.far Tok.within (b.data.toList.drop (at'+1)):=fun h=>hco (.inr (.inr h));have a3:decide (1<Tok.far Tok.digit (b.data.toList.drop (at'+1))+1)=true->decide (c=48)=false:=fun h=>uz fun e=>hco (.inr (.inl ⟨acb h,e⟩));obtain⟨txt,htxt⟩:∃txt,(c::(b.data.toList.drop (at'+1)).take (Tok.far Tok.digit (b.data.toList.drop (at'+1))))=txt:=⟨_,rfl⟩;rw[htxt]at c1 s1 |-
 have hix:∀(s:ByteArray),(c::s.data.toList)=s.data.toList->False:=fun s e=>by have:=jv List.length e;simp at this
 have hat:∀base H,gq CT (.fn bjq [] []) [.s (.string ⟨txt.toArray⟩)] base H=some (.tup [I (Tok.val txt),.s .nilIface],H):=by
  intro base H;refine acf ?_;simp only[aag,T.atoi];show auw [.s (.string ⟨txt.toArray⟩)] base H=_
  have h9:txt.length<=9:=by rw[<- htxt,bn,Tok.far_len];omega
  have hsz:(ByteArray.mk txt.toArray).size<=18:=by show txt.toArray.size<=18;rw[ug];omega
  simp only[auw,hsz,jf]
  rw[bci txt (by rw[<- htxt];simp) (by rw[<- htxt];exact fun x hx=>(mq.1 hx).elim (fun e=>e▸hdg) (fun hx=>Tok.far_take _ _ _ hx))]
  rfl
 have hRw:∀r∈R,r.length=5:=by obtain⟨v,_,hv,_⟩:=st.out;exact hv
 have hfl5:=ac5 R hRw
 have hdrop:List.drop (R.length*5+1) (R++[tV ⟨2,txt,0,ln,cl⟩]).flatten=[.s (.string ⟨txt.toArray⟩),I ((0:Nat):Int),I ln,I cl]:=by
  rw[qx,aae,mf (by omega),hfl5]
  rw[show R.length*5+1-R.length*5=1 by omega]
  rfl
 have hbid:base<=id:=by omega
 have hlen5:(R++[tV ⟨2,txt,0,ln,cl⟩]).flatten.length=R.length*5+5:=by
  rw[qx,gm,hfl5];rfl
 have hle3:R.length*5+3<=(R++[tV ⟨2,txt,0,ln,cl⟩]).flatten.length:=by omega
 have hcell:List.take (R.length*5+2) (R++[tV ⟨2,txt,0,ln,cl⟩]).flatten++[V.s (Value.int IntKind.i64 (Tok.val txt:Nat))]++List.drop (R.length*5+3) (R++[tV ⟨2,txt,0,ln,cl⟩]).flatten=(R++[tV ⟨2,txt,Tok.val txt,ln,cl⟩]).flatten:=by
  rw[qx,qx,afv,aae,rq (by omega),mf (by omega),hfl5,show R.length*5+2-R.length*5=2 by omega,show R.length*5+3-R.length*5=3 by omega,ku,ku]
  rfl
 obtain⟨H2,hH2⟩:∃H2,H1.set id (.cells g (R++[tV ⟨2,txt,Tok.val txt,ln,cl⟩]).flatten)=H2:=⟨_,rfl⟩
 have k2:∀x,x<m->H2[x]?=H1[x]?:=fun x hx=>by rw[<- hH2,ae (by omega)]
 have cc:∀{x:Nat} {c:List V},x<m->getC H1 x 0=some c->getC H2 x 0=some c:=fun {x c} hx hg=>by unfold getC at hg |-;rw[k2 x hx];exact hg
 have s2:LexSt m H2 o h i b ln (cl+(Tok.far Tok.digit (b.data.toList.drop (at'+1))+1)) (at'+(Tok.far Tok.digit (b.data.toList.drop (at'+1))+1)) (R++[tV ⟨2,txt,Tok.val txt,ln,cl⟩]):=by
  refine⟨cc s1.lt.1 s1.hold,cc s1.lt.2.1 s1.rd,⟨_,cc s1.lt.2.2 o1,?_,.inr ⟨id,g,by simp,?_,m1⟩⟩,by rw[<- hH2,fe];exact s1.len,s1.lt,s1.ne⟩
  .intro r hr
   rcases mo.1 hr with hr|hr
   .exact hRw r hr
   .rw[eu]at hr;subst hr;rfl
  .rw[<- hH2];exact kz c1 _
 have k3:dn m [o,i] H H2:=⟨by rw[<- hH2,fe];exact s1.len,fun x hx hn=>by rw[k2 x hx,k1.2 x hx hn]⟩
 refine⟨_,?_,s2.trim (ja 106 (acn b d h o)),dn.tr k3 (ja 106 (acn b d h o))⟩;rw[kg];cases a2:decide (1<Tok.far Tok.digit (b.data.toList.drop (at'+1))+1)with
 |true=>
   have a5:=a3 a2;simp only[acn,simprocAttr,I,ah7,aa,hh,hrc,hlt',hx,hidx,adq,ak4,hbl,h59',hlet,hlt1,hdig,hdg,hfd,hfw,h48,q1,q2,q3,a1,a2,a5,a4,e1,c1,hdrop,hat,hbid,hle3,hcell,hH2]
 |false=>
   simp only[acn,simprocAttr,I,ah7,aa,hh,hrc,hlt',hx,hidx,adq,ak4,hbl,h59',hlet,hlt1,hdig,hdg,hfd,hfw,h48,q1,q2,q3,a1,a2,a4,e1,c1,hdrop,hat,hbid,hle3,hcell,hH2]
end
def aeu(m d h o i:Nat)(b:ByteArray)(R:List (List V))(H:Heap)(out:Tok.Out)(X:Option St):Prop:=
 (∃ts ln cl H',out=.done (ts++[⟨4,[],0,ln,cl⟩])/\X=some (.ext 0,ja 106 (acn b d h o++[(26,bl false)]),H')/\LexSt m H' o h i b ln cl b.size (R++ts.map tV)/\dn m [o,i] H H'/\ln<=b.size+1/\cl<=b.size+1/\R.length+ts.length<=b.size)\/
 (∃e a q H',out=.bad e a q/\X=some (.ret,ja 106 [(2,ow),(3,.ref d 0 0),(4,.s (.int .i64 e))],H')/\getC H' d 0=some [I a,I q]/\dn m [o,i,d] H H')
def aeu.keep{m d h o i b R H H2}{out:Tok.Out}{X}(r:aeu m d h o i b R H2 out X)(k:dn m [o,i] H H2):aeu m d h o i b R H out X:=by
 rcases r with⟨ts,ln,cl,H',h1,h2,h3,h4,h5⟩|⟨e,a,q,H',h1,h2,h3,h4⟩
 .exact .inl ⟨ts,ln,cl,H',h1,h2,h3,k.trans h4 (aj _),h5⟩
 .exact .inr ⟨e,a,q,H',h1,h2,h3,(dn.mono k (aj _) (fun id _ hx=>by simp at hx |-;rcases hx with h|h<;>simp[h])).trans h4 (aj _)⟩
def aeu.cons{m d h o i b R H H2}{out:Tok.Out}{X t}(r:aeu m d h o i b (R++[tV t]) H2 out X)(k:dn m [o,i] H H2):aeu m d h o i b R H (.cons t out) X:=by
 rcases r.keep k with⟨ts,ln,cl,H',rfl,h2,h3,h4,h5,h6,h7⟩|⟨e,a,q,H',rfl,h2,h3,h4⟩
 .refine .inl ⟨t::ts,ln,cl,H',rfl,h2,?_,h4,h5,h6,?_⟩
  .rw[pq,<- bma,<- ku];exact h3
  .rw[gm,bi]at h7;rw[bn];omega
 .exact .inr ⟨e,a,q,H',rfl,h2,h3,h4⟩
section
variable {CT:Nat->Option CFun}
def bap(T:TL CT){base m b}(hb:b.size<=2^40){d o h i}(hbo:base<=o)(hbi:base<=i)(hbm:base<=m)(hbd:base<=d)(hdm:d<m)(hdn:d ∉ [o,i]):∀(N:Nat) (at' ln cl:Nat) (R:List (List V)) (H:Heap),b.size-at'<=N->at'<=b.size->LexSt m H o h i b ln cl at' R->ln<=at'+1->cl<=at'+1->R.length<=at'->(∃x y,getC H d 0=some [x,y])->
 aeu m d h o i b R H (Tok.lex (b.data.toList.drop at') ln cl) (itW (evC (gq CT) itW base ze) [] m (ja 106 (acn b d h o)) H):=by
 have hend:∀(at' ln cl:Nat) (R:List (List V)) (H:Heap),b.size-at'=0->at'<=b.size->LexSt m H o h i b ln cl at' R->ln<=at'+1->cl<=at'+1->R.length<=at'->
  aeu m d h o i b R H (Tok.lex (b.data.toList.drop at') ln cl) (itW (evC (gq CT) itW base ze) [] m (ja 106 (acn b d h o)) H):=by
  intro at' ln cl R H h0 h1 st hl hc hR
  obtain rfl:at'=b.size:=by omega
  have hrd:=st.rd;have hh:=st.hold;have hrc:getC H i 0=some [I ln,I cl,.s (.string b),I b.size]:=hrd;rw[mf (show b.data.toList.length<=b.size from aj _),Tok.lex_nil]
  refine .inl ⟨[],ln,cl,_,rfl,?_,by simpa using st.trim (ja 106 (acn b d h o++[(26,bl false)])),dn.tr (A:=H) ⟨st.len,fun _ _ _=>rfl⟩ (ja 106 (acn b d h o++[(26,bl false)])),hl,hc,by simpa using hR⟩
  rw[kg];simp only[acn,simprocAttr,I,ah7,aa,hh,hrc,qm]
 intro N
 induction N with
 |zero=>exact fun at' ln cl R H h0 h1 st hl hc hR _=>hend at' ln cl R H (by omega) h1 st hl hc hR
 |succ N ih=>
   intro at' ln cl R H h0 h1 st hl hc hR hd;by_cases hz:at'=b.size
   .exact hend at' ln cl R H (by omega) h1 st hl hc hR
   have hlt:at'<b.data.toList.length:=by show at'<b.size;omega
   obtain⟨c,hx⟩:∃c,b.data.toList[at']?=some c:=⟨_,af hlt⟩
   have hdr:b.data.toList.drop at'=c::b.data.toList.drop (at'+1):=by
    rw[ed hlt,(bmk.1 hx).2]
   have hdd:∀k,(b.data.toList.drop (at'+1)).drop k=b.data.toList.drop (at'+(k+1)):=fun k=>by rw[qc];congr 1;omega
   have hfl:∀p,at'+(Tok.far p (b.data.toList.drop (at'+1))+1)<=b.size:=fun p=>by
    have:=Tok.far_le p (b.data.toList.drop (at'+1));rw[ig,show b.data.toList.length=b.size from rfl]at this;have:at'<b.size:=hlt;omega
   have hsz:at'<b.size:=hlt
   have kd:∀{H2:Heap},dn m [o,i] H H2->∃x y,getC H2 d 0=some [x,y]:=fun k=>by
    obtain⟨x,y,hd⟩:=hd;exact⟨x,y,k.getC hd hdm hdn⟩
   rw[hdr,Tok.lex_cons];cases hbl:Tok.blank c with
   |true=>
     obtain⟨H2,e,s,k⟩:=a4m T hb hbo hbi hbm (d:=d) st hl hc (by omega) hx hbl
     rw[dw rfl,e]
     have r:=ih _ _ _ R H2 (by omega) (by omega) s (by split<;>omega) (by split<;>omega) (by omega) (kd k)
     refine aeu.keep ?_ k;split<;>rename_i h10<;>simp only[h10,jf,ky]at r |-<;>exact r
   |false=>
     rw[fu (by simp)]
     by_cases h59:c=59
     .obtain⟨H2,e,s,k⟩:=awy T hb hbo hbi hbm (d:=d) st hl hc (by omega) hx hbl h59
      rw[dw h59,e,hdd]
      exact aeu.keep (ih _ _ _ R H2 (by omega) (hfl _) s (by omega) (by omega) (by omega) (kd k)) k
     .rw[fu h59];cases hlt1:Tok.letter c with
      |true=>
        obtain⟨H2,e,s,k⟩:=bao T hb hbo hbi hbm (d:=d) st hl hc (by omega) hx hbl h59 hlt1
        rw[dw rfl,e,hdd]
        exact aeu.cons (ih _ _ _ _ H2 (by omega) (hfl _) s (by omega) (by omega) (by simp;omega) (kd k)) k
      |false=>
        rw[fu (by simp)]
        cases hdg:Tok.digit c with
        |true=>
          rw[dw rfl];split
          .rename_i hco
           obtain⟨H2,e,s,k⟩:=awx T hb hbo hbi hbm st hl hc (by omega) hx hbl h59 hlt1 hdg hd hbd hdm hco
           rw[e]
           exact .inr ⟨31,ln,cl,H2,rfl,rfl,s,dn.mono k (aj _) (fun id _ hx=>by simp at hx |-;simp[hx])⟩
          .rename_i hco
           obtain⟨H2,e,s,k⟩:=bfa T hb hbo hbi hbm (d:=d) st hl hc (by omega) hx hbl h59 hlt1 hdg hco
           rw[e,hdd]
           exact aeu.cons (ih _ _ _ _ H2 (by omega) (hfl _) s (by omega) (by omega) (by simp;omega) (kd k)) k
        |false=>
          rw[fu (by simp)]
          cases hsg:Tok.sign c with
          |true=>
            obtain⟨H2,e,s,k⟩:=ban T hb hbo hbi hbm (d:=d) st hl hc (by omega) hx hbl h59 hlt1 hdg hsg
            rw[dw rfl,e]
            exact aeu.cons (ih _ _ _ _ H2 (by omega) (by omega) s (by omega) (by omega) (by simp;omega) (kd k)) k
          |false=>
            obtain⟨H2,e,s,k⟩:=bas T hb hbo hbi hbm st hl hc (by omega) hx hbl h59 hlt1 hdg hsg hd hbd hdm
            rw[fu (by simp),e]
            exact .inr ⟨30,ln,cl,H2,rfl,rfl,s,dn.mono k (aj _) (fun id _ hx=>by simp at hx |-;simp[hx])⟩
end
def aep(l:List UInt8):List Tok.T × (Nat × Nat) × Nat:=if 1048576<l.length then([],(0,0),2)else match Tok.lex l 1 1 with
 |.done ts=>(ts,(0,0),0)
 |.bad e a q=>([],(a,q),e)
section
variable {CT:Nat->Option CFun}
def bfb(hT:CT aw6=some (.code ag5))(T:TL CT)(base:Nat)(H:Heap)(hbase:base<=H.length)(b:ByteArray)(r:List Tok.T × (Nat × Nat) × Nat)(hr:aep b.data.toList=r):
 ∃v H',gq CT (.fn aw6 [] []) [.s (.string b)] base H=some (.tup [v,.agg [I r.2.1.1,I r.2.1.2],.s (.int .i64 r.2.2)],H')/\uj H.length 5 H' v (r.1.map tV)/\dn H.length [] H H':=by
 have hb2:base<=H.length+2:=by omega
 by_cases hsz:1048576<b.size
 .have hr2:r=([],(0,0),2):=by rw[<- hr];exact dw hsz
  have hg:decide ((b.size:Int) > 1048576)=true:=by rw[jg];omega
  have e:gq CT (.fn aw6 [] []) [.s (.string b)] base H=some (.tup [ow,.agg [.s (.int .i64 0),.s (.int .i64 0)],.s (.int .i64 2)],H++[.cells 0 [.s (.int .i64 0),.s (.int .i64 0)]]):=by
   refine p8 (c:=ag5) (k:=1) hT rfl (by decide) ahv ?_
   simp only[ag5,simprocAttr,ow,ah7,aa,hg,hbase,aa7,afa]
  subst hr2
  exact⟨_,_,e,uj.start _ _ _,by simp,fun id h _=>by rw[ah h]⟩
 .have hg:decide ((b.size:Int) > 1048576)=false:=by rw[zg];omega
  obtain⟨L,hL⟩:∃L,H.length=L:=⟨_,rfl⟩;obtain⟨H4,hH4⟩:∃H4,H++[Ob.cells 0 [V.s (Value.int IntKind.i64 0),V.s (Value.int IntKind.i64 0)]]++[Ob.cells 0 [V.s (Value.int IntKind.i64 1),V.s (Value.int IntKind.i64 1),V.s (Value.string b),V.s (Value.int IntKind.i64 0)]]++[Ob.cells 0 [V.ref (List.length H+1) 0 0]]++[Ob.cells 0 [V.s (Value.slice none 0 0)]]=H4:=⟨_,rfl⟩
  have k4:∀x,x<L->H4[x]?=H[x]?:=fun x hx=>by rw[<- hH4];simp only[ku];rw[ah (by omega)]
  have l4:H4.length=L+4:=by rw[<- hH4];simp[hL]
  have g0:getC H4 L 0=some [I 0,I 0]:=by rw[<- hH4];simp[getC,hL,I]
  have g1:getC H4 (L+1) 0=some (rC 1 1 b 0):=by rw[<- hH4];simp[getC,hL,rC,I]
  have g2:getC H4 (L+2) 0=some [.ref (L+1) 0 0]:=by rw[<- hH4];simp[getC,hL]
  have g3:getC H4 (L+3) 0=some [ow]:=by rw[<- hH4];simp[getC,hL,ow]
  have st:LexSt (L+4) H4 (L+3) (L+2) (L+1) b 1 1 0 []:=⟨g2,g1,⟨_,g3,uj.start _ _ _⟩,by omega,by omega,by omega⟩
  have hlp:=bap T (base:=base) (m:=L+4) (b:=b) (by omega) (d:=L) (o:=L+3) (h:=L+2) (i:=L+1) (by omega) (by omega) (by omega) (by omega) (by omega) (by simp) b.size 0 1 1 [] H4 (by omega) (by omega) st (by omega) (by omega) (by simp) ⟨_,_,g0⟩
  have hr3:r=match Tok.lex b.data.toList 1 1 with
   |.done ts=>(ts,(0,0),0)
   |.bad e a q=>([],(a,q),e):=by rw[<- hr];exact fu hsz
  rw[dx]at hlp
  have hbL:base<=L:=by omega
  have hbL2:base<=L+2:=by omega
  rcases hlp with⟨ts,ln,cl,H',h1,h2,h3,h4,h5,h6,h7⟩|⟨e,a,q,H',h1,h2,h3,h4⟩
  .rw[h1]at hr3;simp only at hr3;subst hr3
   obtain⟨id,g,H2,e1,s1,o1,m1,c1,k1⟩:=aq6 T.put T.step h3 (base:=base) (by omega) (by omega) (by omega) (by omega) (n:=0) (by omega) h5 h6 (by simpa using Nat.le_succ_of_le h7) 4
   rw[I,show((4:Nat):Int)=4 from rfl,show((0:Nat):Int)=0 from rfl]at e1
   have d2:getC H2 L 0=some [I 0,I 0]:=k1.getC (h4.getC g0 (by omega) (by simp)) (by omega) (by simp)
   obtain⟨vv,hvv⟩:∃vv,V.sl id g 0 (([]++ts.map tV).length+1) 5=vv:=⟨_,rfl⟩;rw[hvv]at o1
   have o3:∀ob,getC (H2.set L ob) (L+3) 0=some [vv]:=fun ob=>by rw[xc _ (by omega)];exact o1
   have d3:∀c,getC (H2.set L (.cells 0 c)) L 0=some c:=fun c=>kz d2 c
   have e:gq CT (.fn aw6 [] []) [.s (.string b)] base H=some (.tup [vv,.agg [.s (.int .i64 0),.s (.int .i64 0)],.s (.int .i64 0)],H2.set L (.cells 0 [.s (.int .i64 0),.s (.int .i64 0)])):=by
    refine p8 (c:=ag5) (k:=1) hT rfl (by decide) ahv ?_
    simp only[acn]at h2;rw[hL]at hH4;simp only[ag5,simprocAttr,ah7,aa,hL,hg,hbL,hbL2,ap8,aa7,afa,hH4,l4,h2,e1,o1,d2,d3]
   refine⟨_,_,e,?_,?_⟩
   .obtain⟨v1,_,hv1,_⟩:=s1.out
    have hts:(ts++[(⟨4,[],0,ln,cl⟩:Tok.T)]).map tV=[]++ts.map tV++[tV ⟨4,(b.data.toList.drop b.size).take 0,0,ln,cl⟩]:=by rw[fq];simp
    rw[hts]
    refine⟨hv1,.inr ⟨id,g,?_,?_,by omega⟩⟩
    .rw[<- hvv];simp
    .unfold getC at c1 |-
     rw[ae (by omega)]
     exact c1
   .refine⟨by rw[fe];have:=k1.1;omega,fun x hx _=>?_⟩
    rw[ae (by omega),k1.2 x (by omega) (by simp;omega),h4.2 x (by omega) (by simp;omega),k4 x (by omega)]
  .rw[h1]at hr3;simp only at hr3;subst hr3
   have e:gq CT (.fn aw6 [] []) [.s (.string b)] base H=some (.tup [ow,.agg [.s (.int .i64 a),.s (.int .i64 q)],.s (.int .i64 e)],H'):=by
    refine p8 (c:=ag5) (k:=1) hT rfl (by decide) ahv ?_
    simp only[acn,ow]at h2;rw[hL]at hH4;simp only[ag5,simprocAttr,ow,ah7,aa,hL,hg,hbL,hbL2,ap8,aa7,afa,hH4,l4,h2,h3]
   exact⟨_,_,e,uj.start _ _ _,by have:=h4.1;omega,fun id hid _=>by rw[h4.2 id (by omega) (by simp;omega),k4 id (by omega)]⟩
end
abbrev arq:Nat:=16
def K16_0:=[1]++List.range' 3 10
def R16_0:=[q 2 (.alloc [bmt,bmr,bmu,bmu,bmu])]
def R16_1t1:=[bmy 5 2 12]
def R16_1p0:=[oM 3 0,bm3 4 3,oF 5 0 4,oL 6 5,oM 7 0,bm3 8 7,oF 9 1 8,oL 10 9,bm4 11 5 6 10,q 12 (.load true 5 (.t 11))]
def R16_1:=R16_1p0++R16_1t1
def aiq:ACFun:={ ntmps:=13,results:=[.cell 2 true 5],body:=
 (.seq (.region R16_0 [] K16_0)
 (.seq (.region R16_1 [] [0,3,4,5,6,7,8,9,10,11,12])
 .ret)) }
theorem av7:ql (List.range' 1 (aiq.ntmps-1)) aiq.body=true:=by kernel_rfl
abbrev aoz:Nat:=34
def K34_0:=[1,2,3,4,5]
theorem avs:aam K34_0 (uq 6 [] 1)=[]:=by kernel_rfl
def R34_0:=[bm2 2 (bmp #[])]
def R34_1t2:=[q 5 (.field false 1 1 (.t 4)),oM 2 5]
def R34_1t1:=bmz 4 49 [.t 3,bmm 1]::R34_1t2
def R34_1p0:=[oM 3 0]
def R34_1:=R34_1p0++R34_1t1
def aoo:ACFun:={ ntmps:=6,results:=[.tmp 2],body:=
 (.seq (.regionE R34_0 K34_0 [])
 (.seq (.region R34_1 [] [0,3,4,5])
 .ret)) }
abbrev a4x:Nat:=35
def K35_0:=List.range' 1 21
theorem avr:aam K35_0 (uq 22 [] 1)=[]:=by kernel_rfl
def R35_0:=[bm2 2 bmq]
def R35_1:=[bm2 3 bmq]
def R35_2t1:=[bmz 5 36 [.t 4,bmp #[40]]]
def R35_2p0:=[oM 4 0]
def R35_2:=R35_2p0++R35_2t1
def R35_3t2:=[q 8 (.un .not (.t 7))]
def R35_3t1:=bmz 7 50 [.t 6,bmp #[41]]::R35_3t2
def R35_3p0:=[oM 6 0]
def R35_3:=R35_3p0++R35_3t1
def R35_4:=[oM 9 3,q 10 (.lenS .s (.t 9)),q 11 (.bin .gtr (.t 10) (bml 0))]
def R35_5t1:=[bmz 13 36 [.t 12,bmp #[44]]]
def R35_5p0:=[oM 12 0]
def R35_5:=R35_5p0++R35_5t1
def R35_6t4:=[oM 3 18]
def R35_6t3:=q 18 (.append 1 16 (.t 14) (.t 17))::R35_6t4
def R35_6t2:=q 17 (.buildSl 1 1 [bmr] [(0,.t 16)])::R35_6t3
def R35_6t1:=bmz 16 34 [.t 15]::R35_6t2
def R35_6p0:=[oM 14 3,oM 15 0]
def R35_6:=R35_6p0++R35_6t1
def ajw:ACode:=
 (.seq (.seq (.region R35_3 [] [6,7])
 (.cond (.t 8)
 .skip
 (.exit 0)))
 (.block 1
 (.seq (.seq (.regionE R35_4 [8,9,10] [11])
 (.cond (.t 11)
 (.region R35_5 [] [11,12,13])
 .skip))
 (.region R35_6 [] [11,14,15,16,17,18]))))
def adz:ACode:=ajw
def R35_7t1:=[bmz 20 36 [.t 19,bmp #[41]]]
def R35_7p0:=[oM 19 0]
def R35_7:=R35_7p0++R35_7t1
def R35_8:=[oM 21 3,oM 2 21]
def aio:ACFun:={ ntmps:=22,results:=[.tmp 2],body:=
 (.seq (.regionE R35_0 K35_0 [])
 (.seq (.regionE R35_1 [] [3])
 (.seq (.region R35_2 [] [4,5])
 (.seq (.block 0
 (.loop [] adz))
 (.seq (.region R35_7 [] [0,8,19,20])
 (.seq (.regionE R35_8 [3,21] [2])
 .ret)))))) }
abbrev bay:Nat:=36
def K36_0:=List.range' 1 6++List.range' 8 9
def R36_0t2:=[q 7 (.un .not (.t 6))]
def R36_0t1:=bmz 6 50 [.t 4,.t 5]::R36_0t2
def R36_0p0:=[oM 4 0,oM 5 1]
def R36_0:=R36_0p0++R36_0t1
def R36_1t1:=[bmz 9 17 [.t 8]]
def R36_1p0:=[oM 8 0]
def R36_1:=R36_1p0++R36_1t1
def R36_2t1:=[bmy 1 16 14]
def R36_2p0:=[oM 10 0,bm3 11 10,oF 12 1 11,oL 13 12,q 14 (.bin .add (.t 13) (bml 1)),bm3 15 10,oF 16 1 15]
def R36_2:=R36_2p0++R36_2t1
def anf:ACFun:={ ntmps:=17,results:=[],body:=
 (.seq (.seq (.region R36_0 [] K36_0)
 (.cond (.t 7)
 (.region R36_1 [] [7,8,9])
 .skip))
 (.region R36_2 [] [0,7,10,11,12,13,14,15,16])) }
theorem ane:ql (List.range' 2 (anf.ntmps-2)) anf.body=true:=by kernel_rfl
abbrev bax:Nat:=37
def K37_0:=List.range' 1 8++[10,11]
def R37_0t5:=[qg 7 (.field false 0 1 (.t 6)) 4 true,qg 8 (.bin .neq (.t 7) (bmm 4)) 4 true,bm6 9 (.t 4) (.t 8) bmo]
def R37_0t4:=qg 6 (.call (.c (.fn 16 [] [])) [.t 5]) 4 true::R37_0t5
def R37_0t3:=gM 5 0 4 true::R37_0t4
def R37_0p2:=[oM 4 3]
def R37_0t2:=R37_0p2++R37_0t3
def R37_0t1:=bmz 3 51 [.t 2]::R37_0t2
def R37_0p0:=[oM 2 0]
def R37_0:=R37_0p0++R37_0t1
def R37_1t1:=[bmz 11 17 [.t 10]]
def R37_1p0:=[oM 10 0]
def R37_1:=R37_1p0++R37_1t1
def ajv:ACFun:={ ntmps:=12,results:=[],body:=
 (.seq (.region R37_0 [] K37_0)
 (.cond (.t 9)
 (.region R37_1 [] [0,9,10,11])
 .skip)) }
theorem aht:ql (List.range' 1 (ajv.ntmps-1)) ajv.body=true:=by kernel_rfl
abbrev bfi:Nat:=38
def K38_0:=List.range' 2 38
theorem avq:aam K38_0 (uq 40 [] 2)=[]:=by kernel_rfl
def R38_0:=[bm2 4 bmo]
def R38_1t2:=[q 8 (.field false 0 1 (.t 7)),q 9 (.bin .neq (.t 8) (bmm 1))]
def R38_1t1:=bmz 7 16 [.t 6]::R38_1t2
def R38_1p0:=[oM 6 0]
def R38_1:=R38_1p0++R38_1t1
def R38_2:=[bm2 4 bmo]
def R38_3t2:=[bmy 5 5 20]
def R38_3t1:=q 5 (.alloc [bmt,bmr,bmu,bmu,bmu])::R38_3t2
def R38_3p0:=[oM 10 0,bm3 11 10,oF 12 0 11,oL 13 12,oM 14 0,bm3 15 14,oF 16 1 15,oL 17 16,q 18 (.bin .add (.t 17) (bml 1)),bm4 19 5 13 18,q 20 (.load true 5 (.t 19))]
def R38_3:=R38_3p0++R38_3t1
def R38_4t6:=[qg 36 (.field true 3 2 (.t 35)) 30 true,qg 37 (.field false 0 1 (.t 36)) 30 true,qg 38 (.bin .eql (.t 33) (.t 37)) 30 true,bm6 39 (.t 30) (.t 38) bmo,oM 4 39]
def R38_4t5:=qg 35 (.callR (.c (.fn 16 [] [])) [.t 34]) 30 true::R38_4t6
def R38_4t4:=gM 34 0 30 true::R38_4t5
def R38_4t3:=gL 33 32 30 true::R38_4t4
def R38_4t2:=gF 32 0 31 30 true::R38_4t3
def R38_4t1:=gF 31 3 5 30 true::R38_4t2
def R38_4p0:=[oF 21 0 5,oL 22 21,q 23 (.bin .eql (.t 22) (bmm 3)),oM 24 23,gF 25 1 5 24 true,gL 26 25 24 true,gM 27 1 24 true,qg 28 (.bin .eql (.t 26) (.t 27)) 24 true,bm6 29 (.t 24) (.t 28) bmo,oM 30 29]
def R38_4:=R38_4p0++R38_4t1
def afq:ACFun:={ ntmps:=40,results:=[.tmp 4],body:=
 (.seq (.regionE R38_0 K38_0 [])
 (.seq (.seq (.region R38_1 [] [6,7,8])
 (.cond (.t 9)
 (.seq (.regionE R38_2 [0,1,9] [4])
 .ret)
 .skip))
 (.seq (.region R38_3 [] [9,10,11,12,13,14,15,16,17,18,19,20])
 (.seq (.region R38_4 [] [0,1,5,21,22,23,24,25,26,27,28,29,30,31,32,33,34,35,36,37,38,39])
 .ret)))) }
abbrev a4v:Nat:=49
def K49_0:=[2,3]++List.range' 5 30
def R49_0:=[q 4 (.alloc [bmt,bmr,bmu,bmu,bmu])]
def R49_1t5:=[qg 11 (.field false 0 1 (.t 10)) 8 false,gM 12 1 8 false,qg 13 (.bin .neq (.t 11) (.t 12)) 8 false,bm6 14 (.t 8) bmn (.t 13)]
def R49_1t4:=qg 10 (.call (.c (.fn 16 [] [])) [.t 9]) 8 false::R49_1t5
def R49_1t3:=gM 9 0 8 false::R49_1t4
def R49_1p2:=[q 7 (.un .not (.t 6)),oM 8 7]
def R49_1t2:=R49_1p2++R49_1t3
def R49_1t1:=bmz 6 51 [.t 5]::R49_1t2
def R49_1p0:=[oM 5 0]
def R49_1:=R49_1p0++R49_1t1
def R49_2t1:=[bmz 16 17 [.t 15]]
def R49_2p0:=[oM 15 0]
def R49_2:=R49_2p0++R49_2t1
def R49_3t1:=[bmy 1 23 21]
def R49_3p0:=[oM 17 0,bm3 18 17,oF 19 1 18,oL 20 19,q 21 (.bin .add (.t 20) (bml 1)),bm3 22 17,oF 23 1 22]
def R49_3:=R49_3p0++R49_3t1
def R49_4t1:=[bmy 5 4 34]
def R49_4p0:=[oM 24 0,bm3 25 24,oF 26 0 25,oL 27 26,oM 28 0,bm3 29 28,oF 30 1 29,oL 31 30,q 32 (.bin .sub (.t 31) (bml 1)),bm4 33 5 27 32,q 34 (.load true 5 (.t 33))]
def R49_4:=R49_4p0++R49_4t1
def anc:ACFun:={ ntmps:=35,results:=[.cell 4 true 5],body:=
 (.seq (.region R49_0 [] K49_0)
 (.seq (.seq (.region R49_1 [] [1,5,6,7,8,9,10,11,12,13])
 (.cond (.t 14)
 (.region R49_2 [] [14,15,16])
 .skip))
 (.seq (.region R49_3 [] [14,17,18,19,20,21,22,23])
 (.seq (.region R49_4 [] [0,24,25,26,27,28,29,30,31,32,33,34])
 .ret)))) }
theorem anb:ql (List.range' 2 (anc.ntmps-2)) anc.body=true:=by kernel_rfl
abbrev bff:Nat:=50
def K50_0:=List.range' 2 18
theorem avj:aam K50_0 (uq 20 [] 2)=[]:=by kernel_rfl
def R50_0:=[bm2 4 bmo]
def R50_1t8:=[qg 16 (.field false 1 1 (.t 15)) 13 true,gM 17 1 13 true,qg 18 (.bin .eql (.t 16) (.t 17)) 13 true,bm6 19 (.t 13) (.t 18) bmo,oM 4 19]
def R50_1t7:=qg 15 (.call (.c (.fn 16 [] [])) [.t 14]) 13 true::R50_1t8
def R50_1t6:=gM 14 0 13 true::R50_1t7
def R50_1p5:=[qg 10 (.field false 0 1 (.t 9)) 7 true,qg 11 (.bin .eql (.t 10) (bmm 3)) 7 true,bm6 12 (.t 7) (.t 11) bmo,oM 13 12]
def R50_1t5:=R50_1p5++R50_1t6
def R50_1t4:=qg 9 (.call (.c (.fn 16 [] [])) [.t 8]) 7 true::R50_1t5
def R50_1t3:=gM 8 0 7 true::R50_1t4
def R50_1p2:=[oM 7 6]
def R50_1t2:=R50_1p2++R50_1t3
def R50_1t1:=bmz 6 51 [.t 5]::R50_1t2
def R50_1p0:=[oM 5 0]
def R50_1:=R50_1p0++R50_1t1
def ahs:ACFun:={ ntmps:=20,results:=[.tmp 4],body:=
 (.seq (.regionE R50_0 K50_0 [])
 (.seq (.region R50_1 [] [0,1,5,6,7,8,9,10,11,12,13,14,15,16,17,18,19])
 .ret)) }
abbrev bau:Nat:=51
def K51_0:=List.range' 1 27
theorem avi:aam K51_0 (uq 28 [] 1)=[]:=by kernel_rfl
def R51_0:=[bm2 2 bmo]
def R51_1t16:=[qg 24 (.field true 3 2 (.t 23)) 8 true,qg 25 (.field false 0 1 (.t 24)) 8 true,qg 26 (.bin .eql (.t 21) (.t 25)) 8 true,bm6 27 (.t 8) (.t 26) bmo,oM 2 27]
def R51_1t15:=qg 23 (.callR (.c (.fn 16 [] [])) [.t 22]) 8 true::R51_1t16
def R51_1t14:=gM 22 0 8 true::R51_1t15
def R51_1t13:=gL 21 20 8 true::R51_1t14
def R51_1t12:=gF 20 0 19 8 true::R51_1t13
def R51_1t11:=gF 19 3 18 8 true::R51_1t12
def R51_1t10:=qg 18 (.indexAddr 5 (.t 12) (.t 17)) 8 true::R51_1t11
def R51_1t9:=qg 17 (.bin .sub (.t 16) (bml 1)) 8 true::R51_1t10
def R51_1t8:=gL 16 15 8 true::R51_1t9
def R51_1t7:=gF 15 1 14 8 true::R51_1t8
def R51_1t6:=qg 14 (.nilCheck (.t 13)) 8 true::R51_1t7
def R51_1t5:=gM 13 0 8 true::R51_1t6
def R51_1t4:=gL 12 11 8 true::R51_1t5
def R51_1t3:=gF 11 0 10 8 true::R51_1t4
def R51_1t2:=qg 10 (.nilCheck (.t 9)) 8 true::R51_1t3
def R51_1t1:=gM 9 0 8 true::R51_1t2
def R51_1p0:=[oM 3 0,bm3 4 3,oF 5 1 4,oL 6 5,q 7 (.bin .gtr (.t 6) (bml 0)),oM 8 7]
def R51_1:=R51_1p0++R51_1t1
def ajq:ACFun:={ ntmps:=28,results:=[.tmp 2],body:=
 (.seq (.regionE R51_0 K51_0 [])
 (.seq (.region R51_1 [] [0,3,4,5,6,7,8,9,10,11,12,13,14,15,16,17,18,19,20,21,22,23,24,25,26,27])
 .ret)) }
abbrev aw5:Nat:=60
def K60_0:=List.range' 2 12
def R60_0t1:=[bmz 6 69 [.t 4,.t 5]]
def R60_0p0:=[oM 4 0,oM 5 1]
def R60_0:=R60_0p0++R60_0t1
def R60_1t1:=[bmz 8 36 [.t 7,bmp #[44]]]
def R60_1p0:=[oM 7 0]
def R60_1:=R60_1p0++R60_1t1
def R60_2t3:=[bmy 1 13 11]
def R60_2p2:=[bm3 12 9,oF 13 3 12]
def R60_2t2:=R60_2p2++R60_2t3
def R60_2t1:=bmz 11 34 [.t 10]::R60_2t2
def R60_2p0:=[oM 9 1,oM 10 0]
def R60_2:=R60_2p0++R60_2t1
def afp:ACFun:={ ntmps:=14,results:=[],body:=
 (.seq (.region R60_0 [] K60_0)
 (.seq (.region R60_1 [] [7,8])
 (.region R60_2 [] [0,1,9,10,11,12,13]))) }
theorem ae5:ql (List.range' 2 (afp.ntmps-2)) afp.body=true:=by kernel_rfl
abbrev arp:Nat:=61
def K61_0:=List.range' 2 10
def R61_0t1:=[bmz 6 68 [.t 4,.t 5]]
def R61_0p0:=[oM 4 0,oM 5 1]
def R61_0:=R61_0p0++R61_0t1
def R61_1t3:=[bmy 1 11 9]
def R61_1p2:=[bm3 10 7,oF 11 6 10]
def R61_1t2:=R61_1p2++R61_1t3
def R61_1t1:=bmz 9 35 [.t 8]::R61_1t2
def R61_1p0:=[oM 7 1,oM 8 0]
def R61_1:=R61_1p0++R61_1t1
def ain:ACFun:={ ntmps:=12,results:=[],body:=
 (.seq (.region R61_0 [] K61_0)
 (.region R61_1 [] [0,1,7,8,9,10,11])) }
theorem ahr:ql (List.range' 2 (ain.ntmps-2)) ain.body=true:=by kernel_rfl
abbrev aro:Nat:=62
def K62_0:=List.range' 2 10
def R62_0t1:=[bmz 6 69 [.t 4,.t 5]]
def R62_0p0:=[oM 4 0,oM 5 1]
def R62_0:=R62_0p0++R62_0t1
def R62_1t3:=[bmy 1 11 9]
def R62_1p2:=[bm3 10 7,oF 11 6 10]
def R62_1t2:=R62_1p2++R62_1t3
def R62_1t1:=bmz 9 35 [.t 8]::R62_1t2
def R62_1p0:=[oM 7 1,oM 8 0]
def R62_1:=R62_1p0++R62_1t1
def aim:ACFun:={ ntmps:=12,results:=[],body:=
 (.seq (.region R62_0 [] K62_0)
 (.region R62_1 [] [0,1,7,8,9,10,11])) }
theorem ahq:ql (List.range' 2 (aim.ntmps-2)) aim.body=true:=by kernel_rfl
abbrev aw4:Nat:=63
def K63_0:=List.range' 0 12
def R63_0t6:=[bmy 1 11 9]
def R63_0p5:=[bm3 10 4,oF 11 7 10]
def R63_0t5:=R63_0p5++R63_0t6
def R63_0t4:=q 9 (.buildSl 1 2 [bmr,bmr] [(0,.t 6),(1,.t 8)])::R63_0t5
def R63_0t3:=bmz 8 34 [.t 7]::R63_0t4
def R63_0p2:=[oM 7 0]
def R63_0t2:=R63_0p2++R63_0t3
def R63_0t1:=bmz 6 34 [.t 5]::R63_0t2
def R63_0p0:=[oM 4 1,oM 5 0]
def R63_0:=R63_0p0++R63_0t1
def ahp:ACFun:={ ntmps:=12,results:=[],body:=
 (.region R63_0 [] K63_0) }
theorem aho:ql (List.range' 2 (ahp.ntmps-2)) ahp.body=true:=by kernel_rfl
abbrev aw3:Nat:=64
def K64_0:=List.range' 0 10
def R64_0t4:=[bmy 1 9 7]
def R64_0p3:=[bm3 8 4,oF 9 7 8]
def R64_0t3:=R64_0p3++R64_0t4
def R64_0t2:=q 7 (.buildSl 1 1 [bmr] [(0,.t 6)])::R64_0t3
def R64_0t1:=bmz 6 34 [.t 5]::R64_0t2
def R64_0p0:=[oM 4 1,oM 5 0]
def R64_0:=R64_0p0++R64_0t1
def ana:ACFun:={ ntmps:=10,results:=[],body:=
 (.region R64_0 [] K64_0) }
theorem am9:ql (List.range' 2 (ana.ntmps-2)) ana.body=true:=by kernel_rfl
abbrev a4u:Nat:=65
def K65_0:=List.range' 2 9++[12,13,14]
def R65_0t5:=[qg 9 (.field false 0 1 (.t 8)) 6 true,qg 10 (.bin .eql (.t 9) (bmm 1)) 6 true,bm6 11 (.t 6) (.t 10) bmo]
def R65_0t4:=qg 8 (.call (.c (.fn 16 [] [])) [.t 7]) 6 true::R65_0t5
def R65_0t3:=gM 7 0 6 true::R65_0t4
def R65_0p2:=[oM 6 5]
def R65_0t2:=R65_0p2++R65_0t3
def R65_0t1:=bmz 5 51 [.t 4]::R65_0t2
def R65_0p0:=[oM 4 0]
def R65_0:=R65_0p0++R65_0t1
def R65_1t1:=[bmz 14 69 [.t 12,.t 13]]
def R65_1p0:=[oM 12 0,oM 13 1]
def R65_1:=R65_1p0++R65_1t1
def ajp:ACFun:={ ntmps:=15,results:=[],body:=
 (.seq (.region R65_0 [] K65_0)
 (.cond (.t 11)
 (.region R65_1 [] [0,1,11,12,13,14])
 .skip)) }
theorem ahn:ql (List.range' 2 (ajp.ntmps-2)) ajp.body=true:=by kernel_rfl
abbrev arn:Nat:=66
def K66_0:=List.range' 0 10
def R66_0t3:=[bmy 1 9 7]
def R66_0p2:=[q 7 (.field false 2 1 (.t 6)),bm3 8 4,oF 9 4 8]
def R66_0t2:=R66_0p2++R66_0t3
def R66_0t1:=bmz 6 49 [.t 5,bmm 2]::R66_0t2
def R66_0p0:=[oM 4 1,oM 5 0]
def R66_0:=R66_0p0++R66_0t1
def am8:ACFun:={ ntmps:=10,results:=[],body:=
 (.region R66_0 [] K66_0) }
theorem amz:ql (List.range' 2 (am8.ntmps-2)) am8.body=true:=by kernel_rfl
abbrev a4t:Nat:=67
def avf:ACFun:={ ntmps:=4,results:=[],body:=
 .skip }
abbrev aw2:Nat:=68
def K68_0:=List.range' 0 9
def R68_0t3:=[bmy 1 8 6]
def R68_0p2:=[bm3 7 4,oF 8 5 7]
def R68_0t2:=R68_0p2++R68_0t3
def R68_0t1:=bmz 6 34 [.t 5]::R68_0t2
def R68_0p0:=[oM 4 1,oM 5 0]
def R68_0:=R68_0p0++R68_0t1
def amy:ACFun:={ ntmps:=9,results:=[],body:=
 (.region R68_0 [] K68_0) }
theorem amx:ql (List.range' 2 (amy.ntmps-2)) amy.body=true:=by kernel_rfl
abbrev arl:Nat:=69
def K69_0:=List.range' 0 9
def R69_0t3:=[bmy 1 8 6]
def R69_0p2:=[bm3 7 4,oF 8 2 7]
def R69_0t2:=R69_0p2++R69_0t3
def R69_0t1:=bmz 6 34 [.t 5]::R69_0t2
def R69_0p0:=[oM 4 1,oM 5 0]
def R69_0:=R69_0p0++R69_0t1
def amw:ACFun:={ ntmps:=9,results:=[],body:=
 (.region R69_0 [] K69_0) }
theorem amv:ql (List.range' 2 (amw.ntmps-2)) amw.body=true:=by kernel_rfl
abbrev aw1:Nat:=70
def K70_0:=List.range' 2 8
def R70_0t1:=[bmz 6 69 [.t 4,.t 5]]
def R70_0p0:=[oM 4 0,oM 5 1]
def R70_0:=R70_0p0++R70_0t1
def R70_1t1:=[bmz 9 66 [.t 7,.t 8]]
def R70_1p0:=[oM 7 0,oM 8 1]
def R70_1:=R70_1p0++R70_1t1
def ail:ACFun:={ ntmps:=10,results:=[],body:=
 (.seq (.region R70_0 [] K70_0)
 (.region R70_1 [] [0,1,7,8,9])) }
theorem ahm:ql (List.range' 2 (ail.ntmps-2)) ail.body=true:=by kernel_rfl
abbrev aw0:Nat:=71
def K71_0:=List.range' 2 35
def R71_0t1:=[bmz 5 36 [.t 4,bmp #[91]]]
def R71_0p0:=[oM 4 0]
def R71_0:=R71_0p0++R71_0t1
def R71_1:LO:=[⟨some 6,.move (.t 1),none⟩,⟨some 7,.move (.t 1),none⟩,⟨some 8,.nilCheck (.t 7),none⟩,⟨some 9,.fieldAddr 7 (.t 8),none⟩,⟨some 10,.load false 1 (.t 9),none⟩,⟨some 11,.move (.t 0),none⟩,⟨some 12,.call (.c (.fn 34 [] [])) [.t 11],none⟩,⟨some 13,.buildSl 1 1 [.s (.string ⟨#[]⟩)] [(0,.t 12)],none⟩,⟨some 14,.append 1 16 (.t 10) (.t 13),none⟩,⟨some 15,.nilCheck (.t 6),none⟩,⟨some 16,.fieldAddr 7 (.t 15),none⟩,⟨none,.store 1 (.t 16) (.t 14),none⟩]
def R71_2t1:=[bmz 18 36 [.t 17,bmp #[58]]]
def R71_2p0:=[oM 17 0]
def R71_2:=R71_2p0++R71_2t1
def R71_3:LO:=[⟨some 19,.move (.t 1),none⟩,⟨some 20,.move (.t 1),none⟩,⟨some 21,.nilCheck (.t 20),none⟩,⟨some 22,.fieldAddr 6 (.t 21),none⟩,⟨some 23,.load false 1 (.t 22),none⟩,⟨some 24,.move (.t 0),none⟩,⟨some 25,.call (.c (.fn 34 [] [])) [.t 24],none⟩,⟨some 26,.buildSl 1 1 [.s (.string ⟨#[]⟩)] [(0,.t 25)],none⟩,⟨some 27,.append 1 16 (.t 23) (.t 26),none⟩,⟨some 28,.nilCheck (.t 19),none⟩,⟨some 29,.fieldAddr 6 (.t 28),none⟩,⟨none,.store 1 (.t 29) (.t 27),none⟩]
def R71_4t2:=[q 32 (.un .not (.t 31))]
def R71_4t1:=bmz 31 50 [.t 30,bmp #[44]]::R71_4t2
def R71_4p0:=[oM 30 0]
def R71_4:=R71_4p0++R71_4t1
def R71_5t1:=[bmz 34 36 [.t 33,bmp #[44]]]
def R71_5p0:=[oM 33 0]
def R71_5:=R71_5p0++R71_5t1
def ajo:ACode:=
 (.block 1
 (.seq (.region R71_1 [(4,6)] [6,7,8,9,10,11,12,13,14,15,16])
 (.seq (.region R71_2 [] [17,18])
 (.seq (.region R71_3 [(4,6)] [19,20,21,22,23,24,25,26,27,28,29])
 (.seq (.seq (.region R71_4 [] [30,31])
 (.cond (.t 32)
 (.exit 0)
 .skip))
 (.region R71_5 [] [32,33,34]))))))
def ady:ACode:=ajo
def R71_6t1:=[bmz 36 36 [.t 35,bmp #[93]]]
def R71_6p0:=[oM 35 0]
def R71_6:=R71_6p0++R71_6t1
def ahl:ACFun:={ ntmps:=37,results:=[],body:=
 (.seq (.region R71_0 [] K71_0)
 (.seq (.block 0
 (.loop [] ady))
 (.region R71_6 [] [0,1,32,35,36]))) }
theorem ae4:ql (List.range' 2 (ahl.ntmps-2)) ahl.body=true:=by kernel_rfl
abbrev bjr:Nat:=17
def a_f16:=ai (hX R16_0 K16_0) (ai (hK K16_0 0) (ai (hK K16_0 2) (ai (hU R16_1 [0,3,4,5,6,7,8,9,10,11] [12] bnw 13 [] [(12,bnm 5 (bnj 5 (eL (eF 0 (bng (.t 0)))) (eL (eF 1 (bng (.t 0))))))] [.tt 0,sb [0,0,0,0],sb [0,0,0],sb [0,0],.tt 0,sb [0,0,0,0],sb [0,1,0],sb [0,1],sb [0],sb []]) ((hX R16_1t1 [0,3,4,5,6,7,8,9,10,11,12])))))
def bgu:=ai (hT R34_0 K34_0 [] 3 [] [] [.cc (.s (.string ⟨#[]⟩))]) (ai avs (ai (hK K34_0 0) (ai (hU R34_1 [0] [3] [0,3,4,5] 4 [] [(3,.t 0)] [.tt 0]) (ai (hP R34_1t1 [3] [0,3,4,5]) ((hV R34_1t2 [0,3,4,5] [2] 6 [] [(2,.op (.field false 1 1 (.t 0)) [.t 4])] [sb [],sb []]))))))
def ak0:=ai (hT R35_0 K35_0 [] 3 [] [] [.cc (.s (.slice none 0 0))]) (ai avr (ai (hK K35_0 0) (ai (hT R35_1 [] [3] 4 [] [(3,.c (.s (.slice none 0 0)))] [.cc (.s (.slice none 0 0))]) (ai (hU R35_2 [] [4] bnx 5 [] [(4,.t 0)] [.tt 0]) (ai (hX R35_2t1 [4,5]) (ai (hU R35_3 [] [6] [6,7] 7 [] [(6,.t 0)] [.tt 0]) (ai (hP R35_3t1 [6] [6,7]) (ai (hV R35_3t2 [6,7] [8] 9 [] [(8,bnn (.t 7))] [sb []]) (ai (hT R35_4 [8,9,10] [11] 12 [] [(11,bnq .gtr 0 (bnl (.t 3)))] [.tt 3,sb [0],sb []]) (ai (hU R35_5 [11] [12] [11,12,13] 13 [] [(12,.t 0)] [.tt 0]) (ai (hX R35_5t1 [11,12,13]) (ai (hU R35_6 [3,11] [14,15] bny 16 [] [(14,.t 3),(15,.t 0)] [.tt 3,.tt 0]) (ai (hP R35_6t1 [15] bny) (ai (hP R35_6t2 [16] bny) (ai (hP R35_6t3 [14,17] bny) (ai (hV R35_6t4 [11,14,15,16,17,18] [3] 4 [] [(3,.t 18)] [.tt 18]) (ai (hE adz ajw) (ai (hU R35_7 [0,8] [19] [0,8,19,20] 20 [] [(19,.t 0)] [.tt 0]) (ai (hX R35_7t1 [0,8,19,20]) (ai (hT R35_8 [3,21] [2] 22 [] [(2,.t 3)] [.tt 3,.tt 3]) (ajw.eq_1)))))))))))))))))))))
def bgt:=ai (hU R36_0 [1,2,3,6,7,8,9,10,11,12,13,14,15,16] bnx K36_0 6 [] [(4,.t 0),(5,.t 1)] [.tt 0,.tt 1]) (ai (hP R36_0t1 [4,5] K36_0) (ai (hV R36_0t2 K36_0 [7] 8 [] [(7,bnn (.t 6))] [sb []]) (ai (hK K36_0 0) (ai (hQ K36_0 1) (ai (hQ K36_0 4) (ai (hQ K36_0 5) (ai (hQ K36_0 6) (ai (hK K36_0 7) (ai (hU R36_1 [7] [8] [7,8,9] 9 [] [(8,.t 0)] [.tt 0]) (ai (hX R36_1t1 [7,8,9]) (ai (hU R36_2 [0,7,10,11,12,13,15] [14,16] [0,7,10,11,12,13,14,15,16] 17 [] [(14,bnf 1 (eL (eF 1 (bng (.t 0))))),(16,eF 1 (bng (.t 0)))] [.tt 0,sb [0,0,0],sb [0,0],sb [0],sb [],sb [0,0,0],sb [0,0]]) ((hX R36_2t1 [0,7,10,11,12,13,14,15,16])))))))))))))
def bcp:=ai (hU R37_0 [1,3,4,5,6,7,8,9,10,11] [2] K37_0 3 [] [(2,.t 0)] [.tt 0]) (ai (hP R37_0t1 [2] K37_0) (ai (hU R37_0t2 [3] [4] K37_0 5 [] [(4,.t 3)] [.tt 3]) (ai (hP R37_0t3 [] K37_0) (ai (hP R37_0t4 [5] K37_0) (ai (hV R37_0t5 K37_0 [9] 10 [] [(9,.pick (.t 4) (bnp .neq 4 (.op (.field false 0 1 (.t 0)) [.t 6])) (.c (.s (.bool false))))] [.sub 0 [1,0] [4],.sub 0 [1] [4],sb []]) (ai (hK K37_0 0) (ai (hQ K37_0 2) (ai (hQ K37_0 3) (ai (hQ K37_0 4) (ai (hQ K37_0 5) (ai (hQ K37_0 6) (ai (hQ K37_0 7) (ai (hQ K37_0 8) (ai (hK K37_0 9) (ai (hU R37_1 [0,9] [10] [0,9,10,11] 11 [] [(10,.t 0)] [.tt 0]) ((hX R37_1t1 [0,9,10,11])))))))))))))))))
def bco:=ai (hT R38_0 K38_0 [] 5 [] [] [.cc (.s (.bool false))]) (ai avq (ai (hK K38_0 0) (ai (hK K38_0 1) (ai (hU R38_1 [] [6] [6,7,8] 7 [] [(6,.t 0)] [.tt 0]) (ai (hP R38_1t1 [6] [6,7,8]) (ai (hV R38_1t2 [6,7,8] [9] 10 [] [(9,bnp .neq 1 (.op (.field false 0 1 (.t 0)) [.t 7]))] [sb [0],sb []]) (ai (hT R38_2 [0,1,9] [4] 5 [] [(4,bnb)] [.cc (.s (.bool false))]) (ai (hU R38_3 [9,10,11,12,13,14,15,16,17,18,19] [20] bnz 21 [] [(20,bnm 5 (bnj 5 (eL (eF 0 (bng (.t 0)))) (bnf 1 (eL (eF 1 (bng (.t 0)))))))] [.tt 0,sb [0,0,0,0],sb [0,0,0],sb [0,0],.tt 0,sb [0,0,0,0],sb [0,1,0,0],sb [0,1,0],sb [0,1],sb [0],sb []]) (ai (hP R38_3t1 [] bnz) (ai (hX R38_3t2 [9,10,11,12,13,14,15,16,17,18,19,20]) (ai (hU R38_4 [1,21,22,23,24,25,26,27,28,29] [30] bn0 31 [] [(30,.pick (bni 3 (eL (eF 0 (.t 5)))) (bno .eql (eL (eF 1 (.t 5))) (.t 1)) bnb)] [sb [0,0,0],sb [0,0],sb [0],sb [0],.sub 0 [1,0,0] [24],.sub 0 [1,0] [24],.sub 0 [1,1] [24],.sub 0 [1] [24],sb [],sb []]) (ai (hP R38_4t1 [5] bn0) (ai (hP R38_4t2 [31] bn0) (ai (hP R38_4t3 [32] bn0) (ai (hP R38_4t4 [0] bn0) (ai (hP R38_4t5 [34] bn0) ((hV R38_4t6 [0,1,5,21,22,23,24,25,26,27,28,29,30,31,32,33,34,35,36,37,38,39] [4] 40 [] [(4,.pick (.t 30) (bno .eql (.t 33) (.op (.field false 0 1 (.t 0)) [.op (.field true 3 2 (.t 0)) [.t 35]])) (.c (.s (.bool false))))] [.sub 0 [1,1,0] [30],.sub 0 [1,1] [30],.sub 0 [1] [30],sb [],sb []]))))))))))))))))))
def a7b:=ai (hX R49_0 K49_0) (ai (hK K49_0 0) (ai (hK K49_0 1) (ai (hK K49_0 4) (ai (hU R49_1 [] [5] bn1 6 [] [(5,.t 0)] [.tt 0]) (ai (hP R49_1t1 [5] bn1) (ai (hU R49_1t2 [6,7] [8] bn1 9 [] [(8,bnn (.t 6))] [sb [],sb []]) (ai (hP R49_1t3 [] bn1) (ai (hP R49_1t4 [9] bn1) (ai (hV R49_1t5 [1,5,6,7,8,9,10,11,12,13] [14] 15 [] [(14,.pick (.t 8) (.c (.s (.bool true))) (bno .neq (.op (.field false 0 1 (.t 0)) [.t 10]) (.t 1)))] [.sub 0 [2,0] [8],.sub 0 [2,1] [8],.sub 0 [2] [8],sb []]) (ai (hU R49_2 [14] [15] [14,15,16] 16 [] [(15,.t 0)] [.tt 0]) (ai (hX R49_2t1 [14,15,16]) (ai (hU R49_3 [14,17,18,19,20,22] [21,23] [14,17,18,19,20,21,22,23] 24 [] [(21,bnf 1 (eL (eF 1 (bng (.t 0))))),(23,eF 1 (bng (.t 0)))] [.tt 0,sb [0,0,0],sb [0,0],sb [0],sb [],sb [0,0,0],sb [0,0]]) (ai (hX R49_3t1 [14,17,18,19,20,21,22,23]) (ai (hU R49_4 [0,24,25,26,27,28,29,30,31,32,33] [34] [0,24,25,26,27,28,29,30,31,32,33,34] 35 [] [(34,bnm 5 (bnj 5 (eL (eF 0 (bng (.t 0)))) (bnq .sub 1 (eL (eF 1 (bng (.t 0)))))))] [.tt 0,sb [0,0,0,0],sb [0,0,0],sb [0,0],.tt 0,sb [0,0,0,0],sb [0,1,0,0],sb [0,1,0],sb [0,1],sb [0],sb []]) ((hX R49_4t1 [0,24,25,26,27,28,29,30,31,32,33,34]))))))))))))))))
def bgs:=ai (hT R50_0 K50_0 [] 5 [] [] [.cc (.s (.bool false))]) (ai avj (ai (hK K50_0 0) (ai (hK K50_0 1) (ai (hU R50_1 [] [5] bn2 6 [] [(5,.t 0)] [.tt 0]) (ai (hP R50_1t1 [5] bn2) (ai (hU R50_1t2 [6] [7] bn2 8 [] [(7,.t 6)] [.tt 6]) (ai (hP R50_1t3 [] bn2) (ai (hP R50_1t4 [8] bn2) (ai (hU R50_1t5 [7,9,10,11,12] [13] bn2 14 [] [(13,.pick (.t 7) (bni 3 (.op (.field false 0 1 (.t 0)) [.t 9])) (.c (.s (.bool false))))] [.sub 0 [1,0] [7],.sub 0 [1] [7],sb [],sb []]) (ai (hP R50_1t6 [0] bn2) (ai (hP R50_1t7 [14] bn2) ((hV R50_1t8 [0,1,5,6,7,8,9,10,11,12,13,14,15,16,17,18,19] [4] 20 [] [(4,.pick (.t 13) (bno .eql (.op (.field false 1 1 (.t 0)) [.t 15]) (.t 1)) (.c (.s (.bool false))))] [.sub 0 [1,0] [13],.sub 0 [1,1] [13],.sub 0 [1] [13],sb [],sb []])))))))))))))
def bkj:=ai (hT R51_0 K51_0 [] 3 [] [] [.cc (.s (.bool false))]) (ai avi (ai (hK K51_0 0) (ai (hU R51_1 [3,4,5,6,7] [8] bn3 9 [] [(8,bnq .gtr 0 (eL (eF 1 (bng (.t 0)))))] [.tt 0,sb [0,0,0],sb [0,0],sb [0],sb [],sb []]) (ai (hP R51_1t1 [] bn3) (ai (hP R51_1t2 [9] bn3) (ai (hP R51_1t3 [10] bn3) (ai (hP R51_1t4 [11] bn3) (ai (hP R51_1t5 [] bn3) (ai (hP R51_1t6 [13] bn3) (ai (hP R51_1t7 [14] bn3) (ai (hP R51_1t8 [15] bn3) (ai (hP R51_1t9 [16] bn3) (ai (hP R51_1t10 [12,17] bn3) (ai (hP R51_1t11 [18] bn3) (ai (hP R51_1t12 [19] bn3) (ai (hP R51_1t13 [20] bn3) (ai (hP R51_1t14 [0] bn3) (ai (hP R51_1t15 [22] bn3) ((hV R51_1t16 [0,3,4,5,6,7,8,9,10,11,12,13,14,15,16,17,18,19,20,21,22,23,24,25,26,27] [2] 28 [] [(2,.pick (.t 8) (bno .eql (.t 21) (.op (.field false 0 1 (.t 0)) [.op (.field true 3 2 (.t 0)) [.t 23]])) (.c (.s (.bool false))))] [.sub 0 [1,1,0] [8],.sub 0 [1,1] [8],.sub 0 [1] [8],sb [],sb []]))))))))))))))))))))
def a07:=ai (hU R60_0 [2,3,6,7,8,9,10,11,12,13] bnx K60_0 6 [] [(4,.t 0),(5,.t 1)] [.tt 0,.tt 1]) (ai (hX R60_0t1 K60_0) (ai (hK K60_0 0) (ai (hK K60_0 1) (ai (hQ K60_0 4) (ai (hQ K60_0 5) (ai (hQ K60_0 6) (ai (hU R60_1 [] [7] [7,8] 8 [] [(7,.t 0)] [.tt 0]) (ai (hX R60_1t1 [7,8]) (ai (hU R60_2 [0,1] [9,10] bn4 11 [] [(9,.t 1),(10,.t 0)] [.tt 1,.tt 0]) (ai (hP R60_2t1 [10] bn4) (ai (hU R60_2t2 [9,12] [13] bn4 14 [] [(13,eF 3 (bng (.t 9)))] [sb [0],sb []]) ((hX R60_2t3 [0,1,9,10,11,12,13])))))))))))))
def bcl:=ai (hU R61_0 [2,3,6,7,8,9,10,11] bnx K61_0 6 [] [(4,.t 0),(5,.t 1)] [.tt 0,.tt 1]) (ai (hX R61_0t1 K61_0) (ai (hK K61_0 0) (ai (hK K61_0 1) (ai (hQ K61_0 4) (ai (hQ K61_0 5) (ai (hQ K61_0 6) (ai (hU R61_1 [0,1] [7,8] bn5 9 [] [(7,.t 1),(8,.t 0)] [.tt 1,.tt 0]) (ai (hP R61_1t1 [8] bn5) (ai (hU R61_1t2 [7,10] [11] bn5 12 [] [(11,eF 6 (bng (.t 7)))] [sb [0],sb []]) ((hX R61_1t3 [0,1,7,8,9,10,11])))))))))))
def bck:=ai (hU R62_0 [2,3,6,7,8,9,10,11] bnx K62_0 6 [] [(4,.t 0),(5,.t 1)] [.tt 0,.tt 1]) (ai (hX R62_0t1 K62_0) (ai (hK K62_0 0) (ai (hK K62_0 1) (ai (hQ K62_0 4) (ai (hQ K62_0 5) (ai (hQ K62_0 6) (ai (hU R62_1 [0,1] [7,8] bn5 9 [] [(7,.t 1),(8,.t 0)] [.tt 1,.tt 0]) (ai (hP R62_1t1 [8] bn5) (ai (hU R62_1t2 [7,10] [11] bn5 12 [] [(11,eF 6 (bng (.t 7)))] [sb [0],sb []]) ((hX R62_1t3 [0,1,7,8,9,10,11])))))))))))
def bki:=ai (hU R63_0 [1,2,3,6,7,8,9,10,11] bnx K63_0 6 [] [(4,.t 1),(5,.t 0)] [.tt 1,.tt 0]) (ai (hP R63_0t1 [5] K63_0) (ai (hU R63_0t2 [0] [7] K63_0 8 [] [(7,.t 0)] [.tt 0]) (ai (hP R63_0t3 [7] K63_0) (ai (hP R63_0t4 [6,8] K63_0) (ai (hU R63_0t5 [4,10] [11] K63_0 12 [] [(11,eF 7 (bng (.t 4)))] [sb [0],sb []]) (ai (hX R63_0t6 K63_0) (ai (hQ K63_0 0) (ai (hQ K63_0 1) (ai (hQ K63_0 4) (ai (hQ K63_0 5) (ai (hQ K63_0 6) (ai (hQ K63_0 7) (ai (hQ K63_0 8) (ai (hQ K63_0 9) (ai (hQ K63_0 10) ((hQ K63_0 11)))))))))))))))))
def bkh:=ai (hU R64_0 [0,1,2,3,6,7,8,9] bnx K64_0 6 [] [(4,.t 1),(5,.t 0)] [.tt 1,.tt 0]) (ai (hP R64_0t1 [5] K64_0) (ai (hP R64_0t2 [6] K64_0) (ai (hU R64_0t3 [4,8] [9] K64_0 10 [] [(9,eF 7 (bng (.t 4)))] [sb [0],sb []]) (ai (hX R64_0t4 K64_0) (ai (hQ K64_0 0) (ai (hQ K64_0 1) (ai (hQ K64_0 4) (ai (hQ K64_0 5) (ai (hQ K64_0 6) (ai (hQ K64_0 7) (ai (hQ K64_0 8) ((hQ K64_0 9)))))))))))))
def bgr:=ai (hU R65_0 [2,3,5,6,7,8,9,10,11,12,13,14] [4] K65_0 5 [] [(4,.t 0)] [.tt 0]) (ai (hP R65_0t1 [4] K65_0) (ai (hU R65_0t2 [5] [6] K65_0 7 [] [(6,.t 5)] [.tt 5]) (ai (hP R65_0t3 [] K65_0) (ai (hP R65_0t4 [7] K65_0) (ai (hV R65_0t5 K65_0 [11] 12 [] [(11,.pick (.t 6) (bni 1 (.op (.field false 0 1 (.t 0)) [.t 8])) (.c (.s (.bool false))))] [.sub 0 [1,0] [6],.sub 0 [1] [6],sb []]) (ai (hK K65_0 0) (ai (hK K65_0 1) (ai (hQ K65_0 4) (ai (hQ K65_0 5) (ai (hQ K65_0 6) (ai (hQ K65_0 7) (ai (hQ K65_0 8) (ai (hQ K65_0 9) (ai (hQ K65_0 10) (ai (hK K65_0 11) (ai (hU R65_1 [0,1,11] [12,13] [0,1,11,12,13,14] 14 [] [(12,.t 0),(13,.t 1)] [.tt 0,.tt 1]) ((hX R65_1t1 [0,1,11,12,13,14]))))))))))))))))))
def bkg:=ai (hU R66_0 [0,1,2,3,6,7,8,9] bnx K66_0 6 [] [(4,.t 1),(5,.t 0)] [.tt 1,.tt 0]) (ai (hP R66_0t1 [5] K66_0) (ai (hU R66_0t2 [4,6,8] [7,9] K66_0 10 [] [(7,.op (.field false 2 1 (.t 0)) [.t 6]),(9,eF 4 (bng (.t 4)))] [sb [],.sub 1 [0] [],.sub 1 [] []]) (ai (hX R66_0t3 K66_0) (ai (hQ K66_0 0) (ai (hQ K66_0 1) (ai (hQ K66_0 4) (ai (hQ K66_0 5) (ai (hQ K66_0 6) (ai (hQ K66_0 7) (ai (hQ K66_0 8) ((hQ K66_0 9))))))))))))
def bkf:=ai (hU R68_0 [0,1,2,3,6,7,8] bnx K68_0 6 [] [(4,.t 1),(5,.t 0)] [.tt 1,.tt 0]) (ai (hP R68_0t1 [5] K68_0) (ai (hU R68_0t2 [4,7] [8] K68_0 9 [] [(8,eF 5 (bng (.t 4)))] [sb [0],sb []]) (ai (hX R68_0t3 K68_0) (ai (hQ K68_0 0) (ai (hQ K68_0 1) (ai (hQ K68_0 4) (ai (hQ K68_0 5) (ai (hQ K68_0 6) (ai (hQ K68_0 7) ((hQ K68_0 8)))))))))))
def bke:=ai (hU R69_0 [0,1,2,3,6,7,8] bnx K69_0 6 [] [(4,.t 1),(5,.t 0)] [.tt 1,.tt 0]) (ai (hP R69_0t1 [5] K69_0) (ai (hU R69_0t2 [4,7] [8] K69_0 9 [] [(8,eF 2 (bng (.t 4)))] [sb [0],sb []]) (ai (hX R69_0t3 K69_0) (ai (hQ K69_0 0) (ai (hQ K69_0 1) (ai (hQ K69_0 4) (ai (hQ K69_0 5) (ai (hQ K69_0 6) (ai (hQ K69_0 7) ((hQ K69_0 8)))))))))))
def bcj:=ai (hU R70_0 [2,3,6,7,8,9] bnx K70_0 6 [] [(4,.t 0),(5,.t 1)] [.tt 0,.tt 1]) (ai (hX R70_0t1 K70_0) (ai (hK K70_0 0) (ai (hK K70_0 1) (ai (hQ K70_0 4) (ai (hQ K70_0 5) (ai (hQ K70_0 6) (ai (hU R70_1 [0,1] [7,8] [0,1,7,8,9] 9 [] [(7,.t 0),(8,.t 1)] [.tt 0,.tt 1]) ((hX R70_1t1 [0,1,7,8,9])))))))))
def ah6:=ai (hU R71_0 [2,3,5,6,7,8,9,10,11,12,13,14,15,16,17,18,19,20,21,22,23,24,25,26,27,28,29,30,31,32,33,34,35,36] [4] K71_0 5 [] [(4,.t 0)] [.tt 0]) (ai (hX R71_0t1 K71_0) (ai (hK K71_0 0) (ai (hK K71_0 1) (ai (hQ K71_0 4) (ai (hQ K71_0 5) (ai (hU R71_2 [] [17] [17,18] 18 [] [(17,.t 0)] [.tt 0]) (ai (hX R71_2t1 [17,18]) (ai (hU R71_4 [] [30] [30,31] 31 [] [(30,.t 0)] [.tt 0]) (ai (hP R71_4t1 [30] [30,31]) (ai (hV R71_4t2 [30,31] [32] 33 [] [(32,bnn (.t 31))] [sb []]) (ai (hU R71_5 [32] [33] [32,33,34] 34 [] [(33,.t 0)] [.tt 0]) (ai (hX R71_5t1 [32,33,34]) (ai (hE ady ajo) (ai (hU R71_6 [0,1,32] [35] [0,1,32,35,36] 36 [] [(35,.t 0)] [.tt 0]) (ai (hX R71_6t1 [0,1,32,35,36]) (ajo.eq_1))))))))))))))))
theorem blu:yf Tryd.prog PX0 16=some (false,aiq.ntmps,aiq.results,aiq.body.bare):=by kernel_rfl
theorem blt:yf Tryd.prog PX0 34=some (false,aoo.ntmps,aoo.results,aoo.body.bare):=by kernel_rfl
theorem bls:yf Tryd.prog PX0 35=some (false,aio.ntmps,aio.results,aio.body.bare):=by kernel_rfl
theorem blr:yf Tryd.prog PX0 36=some (false,anf.ntmps,anf.results,anf.body.bare):=by kernel_rfl
theorem blq:yf Tryd.prog PX0 37=some (false,ajv.ntmps,ajv.results,ajv.body.bare):=by kernel_rfl
theorem blp:yf Tryd.prog PX0 38=some (false,afq.ntmps,afq.results,afq.body.bare):=by kernel_rfl
theorem blo:yf Tryd.prog PX0 49=some (false,anc.ntmps,anc.results,anc.body.bare):=by kernel_rfl
theorem bln:yf Tryd.prog PX0 50=some (false,ahs.ntmps,ahs.results,ahs.body.bare):=by kernel_rfl
theorem blm:yf Tryd.prog PX0 51=some (false,ajq.ntmps,ajq.results,ajq.body.bare):=by kernel_rfl
theorem bll:yf Tryd.prog PX0 60=some (false,afp.ntmps,afp.results,afp.body.bare):=by kernel_rfl
theorem blj:yf Tryd.prog PX0 61=some (false,ain.ntmps,ain.results,ain.body.bare):=by kernel_rfl
theorem bli:yf Tryd.prog PX0 62=some (false,aim.ntmps,aim.results,aim.body.bare):=by kernel_rfl
theorem blh:yf Tryd.prog PX0 63=some (false,ahp.ntmps,ahp.results,ahp.body.bare):=by kernel_rfl
theorem blg:yf Tryd.prog PX0 64=some (false,ana.ntmps,ana.results,ana.body.bare):=by kernel_rfl
theorem blf:yf Tryd.prog PX0 65=some (false,ajp.ntmps,ajp.results,ajp.body.bare):=by kernel_rfl
theorem ble:yf Tryd.prog PX0 66=some (false,am8.ntmps,am8.results,am8.body.bare):=by kernel_rfl
theorem bld:yf Tryd.prog PX0 67=some (false,avf.ntmps,avf.results,avf.body.bare):=by kernel_rfl
theorem blc:yf Tryd.prog PX0 68=some (false,amy.ntmps,amy.results,amy.body.bare):=by kernel_rfl
theorem blb:yf Tryd.prog PX0 69=some (false,amw.ntmps,amw.results,amw.body.bare):=by kernel_rfl
theorem bla:yf Tryd.prog PX0 70=some (false,ail.ntmps,ail.results,ail.body.bare):=by kernel_rfl
theorem bk9:alb [34] Tryd.prog PX0 71=some (false,ahl.ntmps,ahl.results,ahl.body.bare):=by kernel_rfl
abbrev bg9:Nat:=9
def K9_0:=[1]++List.range' 5 43
def R9_0t2:=[q 4 (.alloc [bmu])]
def R9_0t1:=q 3 (.alloc [bmu,bmu])::R9_0t2
def R9_0p0:=[q 2 (.alloc [bms])]
def R9_0:LO:=R9_0p0++R9_0t1
def K9_0p0:=[1]++List.range' 3 45
def X9_0(call:o8)(it:zn)(base f H):evC call it base (.region R9_0 [] K9_0) f H=ahk call it base (.region R9_0t1 [] K9_0) (a0a [] R9_0p0 K9_0p0 (mg call base [⟨some 2,.alloc [.s (.slice none 0 0)],none⟩] f H)):=(as2 call it base R9_0p0 R9_0t1 (kc:=K9_0p0) (by kernel_rfl) f H).trans (by rw[akg];rfl)
def R9_1t4:=[bmy 1 4 13]
def R9_1t3:=bmy 2 3 12::R9_1t4
def R9_1p2:=[oM 8 10,bm5 11 8 0,bm5 12 8 1,bm5 13 8 2,oM 5 11]
def R9_1t2:=R9_1p2++R9_1t3
def R9_1t1:=bmz 10 13 [.t 9]::R9_1t2
def R9_1p0:=[oM 9 0]
def R9_1:=R9_1p0++R9_1t1
def R9_2:=[oL 14 4,q 15 (.bin .neq (.t 14) (bml 0))]
def R9_3:LO:=[⟨some 16,.build [.s (.slice none 0 0)] [(0,1)] [],none⟩,⟨some 17,.load true 2 (.t 3),none⟩,⟨some 18,.load false 1 (.t 4),none⟩,⟨none,.store 1 (.t 2) (.t 16),none⟩,⟨none,.store 2 (.t 3) (.t 17),none⟩,⟨none,.store 1 (.t 4) (.t 18),none⟩]
def R9_4t1:=[bmx (.stuck)]
def R9_4p0:=[q 19 (.mkFn 15 [] [.t 2,.t 3,.t 4])]
def R9_4:=R9_4p0++R9_4t1
def R9_5t2:=[oM 6 22]
def R9_5t1:=q 22 (.box (.t 21))::R9_5t2
def R9_5p0:=[oM 20 5,q 21 (.build [bms,bmu] [(0,1),(1,1)] [(0,.t 20)])]
def R9_5:=R9_5p0++R9_5t1
def R9_6t2:=[q 25 (.field false 0 1 (.t 24)),q 26 (.bin .neq (.t 25) (bmm 4))]
def R9_6t1:=bmz 24 16 [.t 23]::R9_6t2
def R9_6p0:=[oM 23 6]
def R9_6:=R9_6p0++R9_6t1
def R9_7t3:=[bmy 5 7 28]
def R9_7t2:=q 7 (.alloc [bmt,bmr,bmu,bmu,bmu])::R9_7t3
def R9_7t1:=bmz 28 16 [.t 27]::R9_7t2
def R9_7p0:=[oM 27 6]
def R9_7:=R9_7p0++R9_7t1
def R9_8:=[oF 29 0 7,oL 30 29,q 31 (.bin .neq (.t 30) (bmm 1)),oM 32 31,gF 33 1 7 32 false,gL 34 33 32 false,qg 35 (.bin .neq (.t 34) (bmp #[102,117,110,99])) 32 false,bm6 36 (.t 32) bmn (.t 35)]
def R9_9t1:=[bmz 38 17 [.t 37]]
def R9_9p0:=[oM 37 6]
def R9_9:=R9_9p0++R9_9t1
def R9_10:LO:=[⟨some 39,.fieldAddr 0 (.t 2),none⟩,⟨some 40,.load false 1 (.t 39),none⟩,⟨some 41,.move (.t 6),none⟩,⟨some 42,.call (.c (.fn 18 [] [])) [.t 41],none⟩,⟨some 43,.buildSl 3 1 [.s (.string ⟨#[]⟩),.s (.slice none 0 0),.s (.slice none 0 0)] [(0,.t 42)],none⟩,⟨some 44,.append 3 64 (.t 40) (.t 43),none⟩,⟨some 45,.fieldAddr 0 (.t 2),none⟩,⟨none,.store 1 (.t 45) (.t 44),none⟩]
def amu:ACode:=
 (.seq (.seq (.region R9_6 [] [23,24,25])
 (.cond (.t 26)
 .skip
 (.exit 0)))
 (.block 1
 (.seq (.seq (.region R9_7 [] [26,27,28])
 (.seq (.regionE R9_8 [7,29,30,31,32,33,34,35] [36])
 (.cond (.t 36)
 (.region R9_9 [] [36,37,38])
 .skip)))
 (.region R9_10 [(1,3)] [36,39,40,41,42,43,44,45]))))
def aea:ACode:=amu
def R9_11t3:=[bmx (.store 1 (.t 4) (bml 0))]
def R9_11t2:=bmy 2 3 47::R9_11t3
def R9_11t1:=bmy 1 2 46::R9_11t2
def R9_11p0:=[q 46 (.load true 1 (.t 2)),q 47 (.build [bmu,bmu] [(0,1),(1,1)] [])]
def R9_11:=R9_11p0++R9_11t1
def bcx:ACFun:={ ntmps:=48,results:=[.cell 2 true 1,.cell 3 true 2,.cell 4 false 1],body:=
 (.seq (.region R9_0 [] K9_0)
 (.seq (.region R9_1 [] [0,8,9,10,11,12,13])
 (.seq (.seq (.regionE R9_2 [14] [15])
 (.cond (.t 15)
 (.seq (.region R9_3 [(1,3),(2,3),(2,4)] [5,15,16,17,18])
 .ret)
 .skip))
 (.seq (.region R9_4 [] [15,19])
 (.seq (.region R9_5 [] [5,20,21,22])
 (.seq (.block 0
 (.loop [] aea))
 (.seq (.region R9_11 [] [6,26,46,47])
 .ret))))))) }
theorem azt:ql (List.range' 1 (bcx.ntmps-1)) bcx.body=true:=by kernel_rfl
abbrev bjs:Nat:=15
def K15_0:=List.range' 5 14
def R15_0t5:=[oM 4 9]
def R15_0t4:=bmy 5 3 8::R15_0t5
def R15_0t3:=q 3 (.alloc [bmt,bmr,bmu,bmu,bmu])::R15_0t4
def R15_0p2:=[oM 5 7,bm5 8 5 0,bm5 9 5 1]
def R15_0t2:=R15_0p2++R15_0t3
def R15_0t1:=q 7 (.stuck)::R15_0t2
def R15_0:=q 6 (.stuck)::R15_0t1
def R15_1:=[oM 10 4]
def R15_2:LO:=[⟨some 11,.build [.s (.slice none 0 0)] [(0,1)] [],none⟩,⟨some 12,.fieldAddr 0 (.t 3),none⟩,⟨some 13,.fieldAddr 3 (.t 12),none⟩,⟨some 14,.load true 2 (.t 13),none⟩,⟨none,.store 1 (.t 0) (.t 11),none⟩,⟨none,.store 2 (.t 1) (.t 14),none⟩,⟨none,.store 1 (.t 2) (.c (.s (.int .i64 40))),none⟩]
def R15_3:=[oF 15 0 3,oF 16 0 15,oL 17 16,q 18 (.bin .eql (.t 17) (bmm 4))]
def R15_4:=[bmx (.store 1 (.t 2) (bml 41))]
abbrev at6:Nat:=18
def K18_0:=[1]++List.range' 3 98
def R18_0:=[q 2 (.alloc [bmr,bms,bms])]
def R18_1t1:=[bmy 1 12 10]
def R18_1p0:=[oM 6 0,bm3 7 6,oF 8 1 7,oL 9 8,q 10 (.bin .add (.t 9) (bml 1)),bm3 11 6,oF 12 1 11]
def R18_1:=R18_1p0++R18_1t1
def R18_2t6:=[bmy 3 3 17]
def R18_2t5:=q 3 (.alloc [bmr,bms,bms])::R18_2t6
def R18_2p4:=[q 17 (.build [bmr,bms,bms] [(0,1),(1,1),(2,1)] [(0,.t 14),(1,.t 16)])]
def R18_2t4:=R18_2p4++R18_2t5
def R18_2t3:=bmz 16 35 [.t 15]::R18_2t4
def R18_2p2:=[oM 15 0]
def R18_2t2:=R18_2p2++R18_2t3
def R18_2t1:=bmz 14 34 [.t 13]::R18_2t2
def R18_2p0:=[oM 13 0]
def R18_2:=R18_2p0++R18_2t1
def R18_3t1:=[bmz 19 36 [.t 18,bmp #[123]]]
def R18_3p0:=[oM 18 0]
def R18_3:=R18_3p0++R18_3t1
def R18_4t1:=[bmz 21 37 [.t 20]]
def R18_4p0:=[oM 20 0]
def R18_4:=R18_4p0++R18_4t1
def R18_5t3:=[bmy 5 4 23]
def R18_5t2:=q 4 (.alloc [bmt,bmr,bmu,bmu,bmu])::R18_5t3
def R18_5t1:=bmz 23 16 [.t 22]::R18_5t2
def R18_5p0:=[oM 22 0]
def R18_5:=R18_5p0++R18_5t1
def R18_6:=[oF 43 0 4,oL 44 43,q 45 (.bin .eql (.t 44) (bmm 3)),oM 46 45,gF 47 1 4 46 true,gL 48 47 46 true,qg 49 (.bin .eql (.t 48) (bmp #[125])) 46 true,bm6 50 (.t 46) (.t 49) bmo,oM 42 50]
def R18_7t1:=[bmy 1 57 55]
def R18_7p0:=[oM 51 0,bm3 52 51,oF 53 1 52,oL 54 53,q 55 (.bin .add (.t 54) (bml 1)),bm3 56 51,oF 57 1 56]
def R18_7:=R18_7p0++R18_7t1
def R18_8t1:=[bmz 59 37 [.t 58]]
def R18_8p0:=[oM 58 0]
def R18_8:=R18_8p0++R18_8t1
def R18_9t1:=[bmy 3 2 60]
def R18_9p0:=[q 60 (.load true 3 (.t 3))]
def R18_9:=R18_9p0++R18_9t1
def R18_10t2:=[oM 61 63]
def R18_10t1:=bmz 63 38 [.t 62,bmp #[58]]::R18_10t2
def R18_10p0:=[oM 62 0]
def R18_10:=R18_10p0++R18_10t1
def R18_11t4:=[bmy 1 71 70]
def R18_11p3:=[oF 71 2 3]
def R18_11t3:=R18_11p3++R18_11t4
def R18_11t2:=q 70 (.append 2 40 (.t 65) (.t 69))::R18_11t3
def R18_11t1:=q 69 (.buildSl 2 1 [bmr,bms] [(0,.t 68)])::R18_11t2
def R18_11p0:=[oF 64 2 3,oL 65 64,oF 66 1 4,oL 67 66,q 68 (.build [bmr,bms] [(0,1),(1,1)] [(0,.t 67)])]
def R18_11:=R18_11p0++R18_11t1
def R18_12t1:=[bmy 1 78 76]
def R18_12p0:=[oM 72 0,bm3 73 72,oF 74 1 73,oL 75 74,q 76 (.bin .add (.t 75) (bml 2)),bm3 77 72,oF 78 1 77]
def R18_12:=R18_12p0++R18_12t1
def R18_13:=[oF 80 0 4,oL 81 80,q 82 (.bin .neq (.t 81) (bmm 1)),oM 83 82,gF 84 2 3 83 false,gL 85 84 83 false,qg 86 (.lenS .s (.t 85)) 83 false,qg 87 (.bin .eql (.t 86) (bml 0)) 83 false,bm6 88 (.t 83) bmn (.t 87),oM 79 88]
def R18_14:=[oF 89 0 4,oL 90 89,q 91 (.bin .eql (.t 90) (bmm 1))]
def R18_15t1:=[bmy 1 98 96]
def R18_15p0:=[oM 92 0,bm3 93 92,oF 94 1 93,oL 95 94,q 96 (.bin .add (.t 95) (bml 1)),bm3 97 92,oF 98 1 97]
def R18_15:=R18_15p0++R18_15t1
def R18_16t1:=[bmz 100 17 [.t 99]]
def R18_16p0:=[oM 99 0]
def R18_16:=R18_16p0++R18_16t1
def R18_17:=[oF 24 2 3,oL 25 24,oF 26 2 3,oL 27 26,q 28 (.lenS .s (.t 27)),q 29 (.bin .sub (.t 28) (bml 1)),bm4 30 2 25 29,oM 5 30]
def R18_18:LO:=[⟨some 31,.move (.t 5),none⟩,⟨some 32,.move (.t 5),none⟩,⟨some 33,.nilCheck (.t 32),none⟩,⟨some 34,.fieldAddr 1 (.t 33),none⟩,⟨some 35,.load false 1 (.t 34),none⟩,⟨some 36,.move (.t 0),none⟩,⟨some 37,.call (.c (.fn 39 [] [])) [.t 36],none⟩,⟨some 38,.buildSl 8 1 [.s (.int .u8 0),.s (.string ⟨#[]⟩),.s (.string ⟨#[]⟩),.s (.string ⟨#[]⟩),.s (.int .i64 0),.s (.string ⟨#[]⟩),.s (.slice none 0 0),.s (.slice none 0 0)] [(0,.t 37)],none⟩,⟨some 39,.append 8 128 (.t 35) (.t 38),none⟩,⟨some 40,.nilCheck (.t 31),none⟩,⟨some 41,.fieldAddr 1 (.t 40),none⟩,⟨none,.store 1 (.t 41) (.t 39),none⟩]
def aj7:ACode:=
 (.block 1
 (.seq (.region R18_4 [] [20,21])
 (.seq (.region R18_5 [] [22,23])
 (.block 2
 (.seq (.regionE R18_6 [43,44,45,46,47,48,49,50] [42])
 (.cond (.t 42)
 (.seq (.region R18_7 [] [4,42,51,52,53,54,55,56,57])
 (.seq (.region R18_8 [] [0,58,59])
 (.seq (.region R18_9 [] [3,60])
 .ret)))
 (.seq (.region R18_10 [] [42,62,63])
 (.cond (.t 61)
 (.seq (.region R18_11 [] [4,61,64,65,66,67,68,69,70,71])
 (.region R18_12 [] [72,73,74,75,76,77,78]))
 (.seq (.regionE R18_13 [61,80,81,82,83,84,85,86,87,88] [79])
 (.cond (.t 79)
 (.seq (.seq (.regionE R18_14 [4,79,89,90] [91])
 (.cond (.t 91)
 (.region R18_15 [] [91,92,93,94,95,96,97,98])
 .skip))
 (.region R18_16 [] [91,99,100]))
 (.seq (.regionE R18_17 [4,24,25,26,27,28,29,30,79] [5])
 (.region R18_18 [(4,6)] [5,31,32,33,34,35,36,37,38,39,40,41]))))))))))))
def ad1:ACode:=aj7
def af3:ACFun:={ ntmps:=101,results:=[.cell 2 true 3],body:=
 (.seq (.region R18_0 [] K18_0)
 (.seq (.region R18_1 [] [6,7,8,9,10,11,12])
 (.seq (.region R18_2 [] [13,14,15,16,17])
 (.seq (.region R18_3 [] [18,19])
 (.block 0
 (.loop [] ad1)))))) }
theorem ade:ql (List.range' 1 (af3.ntmps-1)) af3.body=true:=by kernel_rfl
abbrev at1:Nat:=39
def K39_0:=[1]++List.range' 3 73
def R39_0:=[q 2 (.alloc [bmt,bmr,bmr,bmr,bmu,bmr,bms,bms])]
def R39_1:=[q 3 (.alloc [bmt,bmr,bmr,bmr,bmu,bmr,bms,bms])]
def R39_2t1:=[oM 4 7]
def R39_2:=bmz 7 52 []::R39_2t1
def R39_3t1:=[bmz 9 38 [.t 8,bmp #[61]]]
def R39_3p0:=[oM 8 0]
def R39_3:=R39_3p0++R39_3t1
def R39_4t3:=[bmy 1 13 12]
def R39_4p2:=[q 12 (.field false 1 1 (.t 11)),oF 13 1 3]
def R39_4t2:=R39_4p2++R39_4t3
def R39_4t1:=bmz 11 16 [.t 10]::R39_4t2
def R39_4p0:=[oM 10 0]
def R39_4:=R39_4p0++R39_4t1
def R39_5t1:=[bmy 1 20 18]
def R39_5p0:=[oM 14 0,bm3 15 14,oF 16 1 15,oL 17 16,q 18 (.bin .add (.t 17) (bml 1)),bm3 19 14,oF 20 1 19]
def R39_5:=R39_5p0++R39_5t1
def R39_6t1:=[bmz 22 36 [.t 21,bmp #[61]]]
def R39_6p0:=[oM 21 0]
def R39_6:=R39_6p0++R39_6t1
def R39_7t2:=[q 25 (.un .not (.t 24))]
def R39_7t1:=bmz 24 51 [.t 23]::R39_7t2
def R39_7p0:=[oM 23 0]
def R39_7:=R39_7p0++R39_7t1
def R39_8t1:=[bmz 27 17 [.t 26]]
def R39_8p0:=[oM 26 0]
def R39_8:=R39_8p0++R39_8t1
def R39_9t1:=[oM 4 28]
def R39_9:=bmz 28 53 []::R39_9t1
def R39_10t5:=[oM 6 36]
def R39_10t4:=bmy 2 5 35::R39_10t5
def R39_10t3:=q 5 (.alloc [bmt,.s .nilFunc])::R39_10t4
def R39_10p2:=[q 33 (.field false 1 1 (.t 32)),q 34 (.mapGet .string (.agg [bmt,.s .nilFunc]) (.t 30) (.t 33) true),oM 29 34,bm5 35 29 0,bm5 36 29 1]
def R39_10t2:=R39_10p2++R39_10t3
def R39_10t1:=bmz 32 16 [.t 31]::R39_10t2
def R39_10p0:=[oM 30 4,oM 31 0]
def R39_10:=R39_10p0++R39_10t1
def R39_11:=[oM 37 6,q 38 (.un .not (.t 37)),oM 39 38,gF 40 1 3 39 true,gL 41 40 39 true,qg 42 (.bin .eql (.t 41) (bmp #[])) 39 true,bm6 43 (.t 39) (.t 42) bmo]
def R39_12t1:=[bmy 1 50 48]
def R39_12p0:=[oM 44 0,bm3 45 44,oF 46 1 45,oL 47 46,q 48 (.bin .add (.t 47) (bml 1)),bm3 49 44,oF 50 1 49]
def R39_12:=R39_12p0++R39_12t1
def R39_13t3:=[qg 56 (.field false 0 1 (.t 55)) 53 false,qg 57 (.bin .neq (.t 56) (bmm 1)) 53 false,bm6 58 (.t 53) bmn (.t 57)]
def R39_13t2:=qg 55 (.call (.c (.fn 16 [] [])) [.t 54]) 53 false::R39_13t3
def R39_13t1:=gM 54 0 53 false::R39_13t2
def R39_13p0:=[oM 51 6,q 52 (.un .not (.t 51)),oM 53 52]
def R39_13:=R39_13p0++R39_13t1
def R39_14t1:=[bmz 60 17 [.t 59]]
def R39_14p0:=[oM 59 0]
def R39_14:=R39_14p0++R39_14t1
def R39_15t1:=[bmy 1 67 65]
def R39_15p0:=[oM 61 0,bm3 62 61,oF 63 1 62,oL 64 63,q 65 (.bin .add (.t 64) (bml 1)),bm3 66 61,oF 67 1 66]
def R39_15:=R39_15p0++R39_15t1
def R39_16t1:=[bmy 1 70 69]
def R39_16p0:=[oF 68 0 5,oL 69 68,oF 70 0 3]
def R39_16:=R39_16p0++R39_16t1
def R39_17t1:=[q 74 (.call (.t 72) [.t 73,.t 3])]
def R39_17p0:LO:=[⟨some 71,.fieldAddr 1 (.t 5),none⟩,⟨some 72,.load false 1 (.t 71),none⟩,⟨some 73,.move (.t 0),none⟩]
def R39_17:=R39_17p0++R39_17t1
def R39_18t1:=[bmy 8 2 75]
def R39_18p0:=[q 75 (.load true 8 (.t 3))]
def R39_18:=R39_18p0++R39_18t1
def ag4:ACFun:={ ntmps:=76,results:=[.cell 2 true 8],body:=
 (.seq (.region R39_0 [] K39_0)
 (.seq (.region R39_1 [] [])
 (.seq (.region R39_2 [] [7])
 (.seq (.seq (.region R39_3 [] [8])
 (.cond (.t 9)
 (.seq (.region R39_4 [] [4,9,10,11,12,13])
 (.seq (.region R39_5 [] [14,15,16,17,18,19,20])
 (.seq (.region R39_6 [] [21,22])
 (.seq (.seq (.region R39_7 [] [23,24])
 (.cond (.t 25)
 (.region R39_8 [] [25,26,27])
 .skip))
 (.region R39_9 [] [25,28])))))
 .skip))
 (.seq (.region R39_10 [] [4,9,29,30,31,32,33,34,35,36])
 (.seq (.seq (.regionE R39_11 [37,38,39,40,41,42] [43])
 (.cond (.t 43)
 (.region R39_12 [] [43,44,45,46,47,48,49,50])
 .skip))
 (.seq (.seq (.region R39_13 [] [6,43,51,52,53,54,55,56,57])
 (.cond (.t 58)
 (.region R39_14 [] [58,59,60])
 .skip))
 (.seq (.region R39_15 [] [58,61,62,63,64,65,66,67])
 (.seq (.region R39_16 [] [68,69,70])
 (.seq (.region R39_17 [] [0,5,71,72,73,74])
 (.seq (.region R39_18 [] [3,75])
 .ret))))))))))) }
theorem ae6:ql (List.range' 1 (ag4.ntmps-1)) ag4.body=true:=by kernel_rfl
abbrev bfe:Nat:=52
def K52_0:=List.range' 0 9
theorem avh:aam K52_0 (uq 9 [] 0)=[]:=by kernel_rfl
def R52_0:=[q 0 (.move (.c (.s (.map none))))]
def R52_1t13:=[oM 8 1,oM 0 8]
def R52_1t12:=bmx (.mapUpd .string (.t 1) (bmp #[114,101,116]) (.t 7))::R52_1t13
def R52_1p11:=[q 7 (.build [bmt,.s .nilFunc] [(0,1),(1,1)] [(0,bmm 14),(1,.c (.fn 65 [] []))])]
def R52_1t11:=R52_1p11++R52_1t12
def R52_1t10:=bmx (.mapUpd .string (.t 1) (bmp #[103,111,116,111]) (.t 6))::R52_1t11
def R52_1p9:=[q 6 (.build [bmt,.s .nilFunc] [(0,1),(1,1)] [(0,bmm 13),(1,.c (.fn 64 [] []))])]
def R52_1t9:=R52_1p9++R52_1t10
def R52_1t8:=bmx (.mapUpd .string (.t 1) (bmp #[98,114]) (.t 5))::R52_1t9
def R52_1p7:=[q 5 (.build [bmt,.s .nilFunc] [(0,1),(1,1)] [(0,bmm 12),(1,.c (.fn 63 [] []))])]
def R52_1t7:=R52_1p7++R52_1t8
def R52_1t6:=bmx (.mapUpd .string (.t 1) (bmp #[105,99,97,108,108]) (.t 4))::R52_1t7
def R52_1p5:=[q 4 (.build [bmt,.s .nilFunc] [(0,1),(1,1)] [(0,bmm 11),(1,.c (.fn 62 [] []))])]
def R52_1t5:=R52_1p5++R52_1t6
def R52_1t4:=bmx (.mapUpd .string (.t 1) (bmp #[99,97,108,108]) (.t 3))::R52_1t5
def R52_1p3:=[q 3 (.build [bmt,.s .nilFunc] [(0,1),(1,1)] [(0,bmm 10),(1,.c (.fn 61 [] []))])]
def R52_1t3:=R52_1p3++R52_1t4
def R52_1t2:=bmx (.mapUpd .string (.t 1) (bmp #[115,116,111,114,101]) (.t 2))::R52_1t3
def R52_1p1:=[q 2 (.build [bmt,.s .nilFunc] [(0,1),(1,1)] [(0,bmm 9),(1,.c (.fn 60 [] []))])]
def R52_1t1:=R52_1p1++R52_1t2
def R52_1:=q 1 (.mapNew)::R52_1t1
def aqj:ACFun:={ ntmps:=9,results:=[.tmp 0],body:=
 (.seq (.regionE R52_0 K52_0 [])
 (.seq (.region R52_1 [] [1,2,3,4,5,6,7,8])
 .ret)) }
abbrev bfd:Nat:=53
def K53_0:=List.range' 0 13
theorem avg:aam K53_0 (uq 13 [] 0)=[]:=by kernel_rfl
def R53_0:=[q 0 (.move (.c (.s (.map none))))]
def R53_1t21:=[oM 12 1,oM 0 12]
def R53_1t20:=bmx (.mapUpd .string (.t 1) (bmp #[105,99,97,108,108]) (.t 11))::R53_1t21
def R53_1p19:=[q 11 (.build [bmt,.s .nilFunc] [(0,1),(1,1)] [(0,bmm 11),(1,.c (.fn 62 [] []))])]
def R53_1t19:=R53_1p19++R53_1t20
def R53_1t18:=bmx (.mapUpd .string (.t 1) (bmp #[99,97,108,108]) (.t 10))::R53_1t19
def R53_1p17:=[q 10 (.build [bmt,.s .nilFunc] [(0,1),(1,1)] [(0,bmm 10),(1,.c (.fn 61 [] []))])]
def R53_1t17:=R53_1p17++R53_1t18
def R53_1t16:=bmx (.mapUpd .string (.t 1) (bmp #[112,104,105]) (.t 9))::R53_1t17
def R53_1p15:=[q 9 (.build [bmt,.s .nilFunc] [(0,1),(1,1)] [(0,bmm 6),(1,.c (.fn 71 [] []))])]
def R53_1t15:=R53_1p15++R53_1t16
def R53_1t14:=bmx (.mapUpd .string (.t 1) (bmp #[102,105,101,108,100]) (.t 8))::R53_1t15
def R53_1p13:=[q 8 (.build [bmt,.s .nilFunc] [(0,1),(1,1)] [(0,bmm 7),(1,.c (.fn 70 [] []))])]
def R53_1t13:=R53_1p13++R53_1t14
def R53_1t12:=bmx (.mapUpd .string (.t 1) (bmp #[108,111,97,100]) (.t 7))::R53_1t13
def R53_1p11:=[q 7 (.build [bmt,.s .nilFunc] [(0,1),(1,1)] [(0,bmm 8),(1,.c (.fn 69 [] []))])]
def R53_1t11:=R53_1p11++R53_1t12
def R53_1t10:=bmx (.mapUpd .string (.t 1) (bmp #[99,111,112,121]) (.t 6))::R53_1t11
def R53_1p9:=[q 6 (.build [bmt,.s .nilFunc] [(0,1),(1,1)] [(0,bmm 5),(1,.c (.fn 69 [] []))])]
def R53_1t9:=R53_1p9++R53_1t10
def R53_1t8:=bmx (.mapUpd .string (.t 1) (bmp #[97,100,100,114]) (.t 5))::R53_1t9
def R53_1p7:=[q 5 (.build [bmt,.s .nilFunc] [(0,1),(1,1)] [(0,bmm 4),(1,.c (.fn 68 [] []))])]
def R53_1t7:=R53_1p7++R53_1t8
def R53_1t6:=bmx (.mapUpd .string (.t 1) (bmp #[110,117,108,108]) (.t 4))::R53_1t7
def R53_1p5:=[q 4 (.build [bmt,.s .nilFunc] [(0,1),(1,1)] [(0,bmm 3),(1,.c (.fn 67 [] []))])]
def R53_1t5:=R53_1p5++R53_1t6
def R53_1t4:=bmx (.mapUpd .string (.t 1) (bmp #[109,97,108,108,111,99]) (.t 3))::R53_1t5
def R53_1p3:=[q 3 (.build [bmt,.s .nilFunc] [(0,1),(1,1)] [(0,bmm 2),(1,.c (.fn 66 [] []))])]
def R53_1t3:=R53_1p3++R53_1t4
def R53_1t2:=bmx (.mapUpd .string (.t 1) (bmp #[97,108,108,111,99,97]) (.t 2))::R53_1t3
def R53_1p1:=[q 2 (.build [bmt,.s .nilFunc] [(0,1),(1,1)] [(0,bmm 1),(1,.c (.fn 66 [] []))])]
def R53_1t1:=R53_1p1++R53_1t2
def R53_1:=q 1 (.mapNew)::R53_1t1
def aqi:ACFun:={ ntmps:=13,results:=[.tmp 0],body:=
 (.seq (.regionE R53_0 K53_0 [])
 (.seq (.region R53_1 [] [1,2,3,4,5,6,7,8,9,10,11,12])
 .ret)) }
def asf:=ai (hK K9_0p0 0) (ai (hK K9_0p0 2) (ai (hQ K9_0p0 3) (ai (hQ K9_0p0 4) (ai X9_0 (ai (hP R9_0t1 [] K9_0) (ai (hX R9_0t2 K9_0) (ai (hK K9_0 0) (ai (hK K9_0 2) (ai (hK K9_0 3) (ai (hK K9_0 4) (ai (hU R9_1 [0] [9] bn6 10 [] [(9,.t 0)] [.tt 0]) (ai (hP R9_1t1 [9] bn6) (ai (hU R9_1t2 [8,10,11] [12,13,5] bn6 14 [] [(12,bnh 1 (.t 10)),(13,bnh 2 (.t 10)),(5,bnh 0 (.t 10))] [.tt 10,.sub 2 [] [],sb [],.sub 1 [] [],.sub 2 [] []]) (ai (hP R9_1t3 [12] bn6) (ai (hX R9_1t4 [0,8,9,10,11,12,13]) (ai (hT R9_2 [14] [15] 16 [] [(15,bnq .neq 0 (eL (.t 4)))] [sb [0],sb []]) (ai (hU R9_4 [15,19] [] [15,19] 20 [([],.op (.mkFn 15 [] [.t 0,.t 1,.t 2]) [.t 2,.t 3,.t 4])] [] [.keep [] (.op (.mkFn 15 [] [.t 0,.t 1,.t 2]) [.t 2,.t 3,.t 4])]) (ai (hX R9_4t1 [15,19]) (ai (hU R9_5 [5,20] [21] [5,20,21,22] 22 [] [(21,.op (.build [.s (.slice none 0 0),.s (.int .i64 0)] [(0,1),(1,1)] [(0,.t 0)]) [.t 5])] [.tt 5,sb []]) (ai (hP R9_5t1 [21] [5,20,21,22]) (ai (hV R9_5t2 [5,20,21,22] [6] 7 [] [(6,.t 22)] [.tt 22]) (ai (hU R9_6 [] [23] [23,24,25] 24 [] [(23,.t 6)] [.tt 6]) (ai (hP R9_6t1 [23] [23,24,25]) (ai (hV R9_6t2 [23,24,25] [26] 27 [] [(26,bnp .neq 4 (.op (.field false 0 1 (.t 0)) [.t 24]))] [sb [0],sb []]) (ai (hU R9_7 [26] [27] [26,27,28] 28 [] [(27,.t 6)] [.tt 6]) (ai (hP R9_7t1 [27] [26,27,28]) (ai (hP R9_7t2 [] [26,27,28]) (ai (hX R9_7t3 [26,27,28]) (ai (hT R9_8 [7,29,30,31,32,33,34,35] [36] 37 [] [(36,.pick (bnp .neq 1 (eL (eF 0 (.t 7)))) (.c (.s (.bool true))) (.op (.bin .neq (.t 0) (.c (.s (.string ⟨#[102,117,110,99]⟩)))) [eL (eF 1 (.t 7)),.c (.s (.string ⟨#[102,117,110,99]⟩))]))] [sb [0,0,0],sb [0,0],sb [0],sb [0],.sub 0 [2,0,0] [32],.sub 0 [2,0] [32],.sub 0 [2] [32],sb []]) (ai (hU R9_9 [36] [37] [36,37,38] 38 [] [(37,.t 6)] [.tt 6]) (ai (hX R9_9t1 [36,37,38]) (ai (hE aea amu) (ai (hU R9_11 [6,26] [46,47] [6,26,46,47] 48 [] [(46,bnm 1 (.t 2)),(47,.op (.build [.s (.int .i64 0),.s (.int .i64 0)] [(0,1),(1,1)] []) [])] [sb [],.sub 1 [] []]) (ai (hP R9_11t1 [46] [6,26,46,47]) (ai (hP R9_11t2 [47] [6,26,46,47]) (ai (hX R9_11t3 [6,26,46,47]) (amu.eq_1)))))))))))))))))))))))))))))))))))))
def a7d:=ai (hP R15_0 [3,4,5,6,7,8,9,10,11,12,13,14,15,16,17,18] K15_0) (ai (hP R15_0t1 [] K15_0) (ai (hU R15_0t2 [5,7] [8,9] K15_0 10 [] [(8,bnh 0 (.t 7)),(9,bnh 1 (.t 7))] [.tt 7,sb [],.sub 1 [] []]) (ai (hP R15_0t3 [] K15_0) (ai (hP R15_0t4 [8] K15_0) (ai (hV R15_0t5 K15_0 [4] 5 [] [(4,.t 9)] [.tt 9]) (ai (hK K15_0 0) (ai (hK K15_0 1) (ai (hK K15_0 2) (ai (hQ K15_0 6) (ai (hQ K15_0 7) (ai (hQ K15_0 5) (ai (hQ K15_0 8) (ai (hQ K15_0 9) (ai (hK K15_0 3) (ai (hK K15_0 4) (ai (hT R15_1 [4] [10] 11 [] [(10,.t 4)] [.tt 4]) (ai (hT R15_3 [3,15,16,17] [18] 19 [] [(18,bni 4 (eL (eF 0 (eF 0 (.t 3)))))] [sb [0,0,0],sb [0,0],sb [0],sb []]) ((hX R15_4 [2,18])))))))))))))))))))
def abn:=ai (hX R18_0 K18_0) (ai (hK K18_0 0) (ai (hK K18_0 2) (ai (hU R18_1 [6,7,8,9,11] [10,12] [6,7,8,9,10,11,12] 13 [] [(10,bnf 1 (eL (eF 1 (bng (.t 0))))),(12,eF 1 (bng (.t 0)))] [.tt 0,sb [0,0,0],sb [0,0],sb [0],sb [],sb [0,0,0],sb [0,0]]) (ai (hX R18_1t1 [6,7,8,9,10,11,12]) (ai (hU R18_2 [] [13] bn7 14 [] [(13,.t 0)] [.tt 0]) (ai (hP R18_2t1 [13] bn7) (ai (hU R18_2t2 [] [15] bn7 16 [] [(15,.t 0)] [.tt 0]) (ai (hP R18_2t3 [15] bn7) (ai (hU R18_2t4 [14,16] [17] bn7 18 [] [(17,.op (.build [.s (.string ⟨#[]⟩),.s (.slice none 0 0),.s (.slice none 0 0)] [(0,1),(1,1),(2,1)] [(0,.t 0),(1,.t 1)]) [.t 14,.t 16])] [sb []]) (ai (hP R18_2t5 [] bn7) (ai (hX R18_2t6 [13,14,15,16,17]) (ai (hU R18_3 [] [18] [18,19] 19 [] [(18,.t 0)] [.tt 0]) (ai (hX R18_3t1 [18,19]) (ai (hU R18_4 [] [20] [20,21] 21 [] [(20,.t 0)] [.tt 0]) (ai (hX R18_4t1 [20,21]) (ai (hU R18_5 [] [22] [22,23] 23 [] [(22,.t 0)] [.tt 0]) (ai (hP R18_5t1 [22] [22,23]) (ai (hP R18_5t2 [] [22,23]) (ai (hX R18_5t3 [22,23]) (ai (hT R18_6 [43,44,45,46,47,48,49,50] [42] 51 [] [(42,.pick (bni 3 (eL (eF 0 (.t 4)))) (.op (.bin .eql (.t 0) (.c (.s (.string ⟨#[125]⟩)))) [eL (eF 1 (.t 4)),.c (.s (.string ⟨#[125]⟩))]) (.c (.s (.bool false))))] [sb [0,0,0],sb [0,0],sb [0],sb [0],.sub 0 [1,0,0] [46],.sub 0 [1,0] [46],.sub 0 [1] [46],sb [],sb []]) (ai (hU R18_7 [4,42,51,52,53,54,56] [55,57] [4,42,51,52,53,54,55,56,57] 58 [] [(55,bnf 1 (eL (eF 1 (bng (.t 0))))),(57,eF 1 (bng (.t 0)))] [.tt 0,sb [0,0,0],sb [0,0],sb [0],sb [],sb [0,0,0],sb [0,0]]) (ai (hX R18_7t1 [4,42,51,52,53,54,55,56,57]) (ai (hU R18_8 [0] [58] [0,58,59] 59 [] [(58,.t 0)] [.tt 0]) (ai (hX R18_8t1 [0,58,59]) (ai (hU R18_9 [3] [60] [3,60] 61 [] [(60,bnm 3 (.t 3))] [sb []]) (ai (hX R18_9t1 [3,60]) (ai (hU R18_10 [42] [62] [42,62,63] 63 [] [(62,.t 0)] [.tt 0]) (ai (hP R18_10t1 [62] [42,62,63]) (ai (hV R18_10t2 [42,62,63] [61] 62 [] [(61,.t 63)] [.tt 63]) (ai (hU R18_11 [4,61,64,66,67] [65,68] bn8 69 [] [(65,eL (eF 2 (.t 3))),(68,.op (.build [.s (.string ⟨#[]⟩),.s (.slice none 0 0)] [(0,1),(1,1)] [(0,.t 0)]) [eL (eF 1 (.t 4))])] [sb [0],sb [],.sub 1 [0,0] [],.sub 1 [0] [],.sub 1 [] []]) (ai (hP R18_11t1 [68] bn8) (ai (hP R18_11t2 [65,69] bn8) (ai (hU R18_11t3 [] [71] bn8 72 [] [(71,eF 2 (.t 3))] [sb []]) (ai (hX R18_11t4 [4,61,64,65,66,67,68,69,70,71]) (ai (hU R18_12 [72,73,74,75,77] [76,78] [72,73,74,75,76,77,78] 79 [] [(76,bnf 2 (eL (eF 1 (bng (.t 0))))),(78,eF 1 (bng (.t 0)))] [.tt 0,sb [0,0,0],sb [0,0],sb [0],sb [],sb [0,0,0],sb [0,0]]) (ai (hX R18_12t1 [72,73,74,75,76,77,78]) (ai (hT R18_13 [61,80,81,82,83,84,85,86,87,88] [79] 89 [] [(79,.pick (bnp .neq 1 (eL (eF 0 (.t 4)))) bna (bnq .eql 0 (bnl (eL (eF 2 (.t 3))))))] [sb [0,0,0],sb [0,0],sb [0],sb [0],.sub 0 [2,0,0,0] [83],.sub 0 [2,0,0] [83],.sub 0 [2,0] [83],.sub 0 [2] [83],sb [],sb []]) (ai (hT R18_14 [4,79,89,90] [91] 92 [] [(91,bni 1 (eL (eF 0 (.t 4))))] [sb [0,0],sb [0],sb []]) (ai (hU R18_15 [91,92,93,94,95,97] [96,98] [91,92,93,94,95,96,97,98] 99 [] [(96,bnf 1 (eL (eF 1 (bng (.t 0))))),(98,eF 1 (bng (.t 0)))] [.tt 0,sb [0,0,0],sb [0,0],sb [0],sb [],sb [0,0,0],sb [0,0]]) (ai (hX R18_15t1 [91,92,93,94,95,96,97,98]) (ai (hU R18_16 [91] [99] [91,99,100] 100 [] [(99,.t 0)] [.tt 0]) (ai (hX R18_16t1 [91,99,100]) (ai (hT R18_17 [4,24,25,26,27,28,29,30,79] [5] 31 [] [(5,bnj 2 (eL (eF 2 (.t 3))) (bnq .sub 1 (bnl (eL (eF 2 (.t 3))))))] [sb [0,0],sb [0],sb [0,0],sb [0],sb [1,0],sb [1],sb [],sb []]) (ai (hE ad1 aj7) (aj7.eq_1)))))))))))))))))))))))))))))))))))))))))))))
def abx:=ai (hX R39_0 K39_0) (ai (hK K39_0 0) (ai (hK K39_0 2) (ai (hX R39_1 []) (ai (hP R39_2 [] [7]) (ai (hV R39_2t1 [7] [4] 5 [] [(4,.t 7)] [.tt 7]) (ai (hU R39_3 [] [8] [8] 9 [] [(8,.t 0)] [.tt 0]) (ai (hX R39_3t1 [8]) (ai (hU R39_4 [4,9] [10] bn9 11 [] [(10,.t 0)] [.tt 0]) (ai (hP R39_4t1 [10] bn9) (ai (hU R39_4t2 [11] [12,13] bn9 14 [] [(12,.op (.field false 1 1 (.t 0)) [.t 11]),(13,eF 1 (.t 3))] [sb [],.sub 1 [] []]) (ai (hX R39_4t3 [4,9,10,11,12,13]) (ai (hU R39_5 [14,15,16,17,19] [18,20] [14,15,16,17,18,19,20] 21 [] [(18,bnf 1 (eL (eF 1 (bng (.t 0))))),(20,eF 1 (bng (.t 0)))] [.tt 0,sb [0,0,0],sb [0,0],sb [0],sb [],sb [0,0,0],sb [0,0]]) (ai (hX R39_5t1 [14,15,16,17,18,19,20]) (ai (hU R39_6 [] [21] [21,22] 22 [] [(21,.t 0)] [.tt 0]) (ai (hX R39_6t1 [21,22]) (ai (hU R39_7 [] [23] [23,24] 24 [] [(23,.t 0)] [.tt 0]) (ai (hP R39_7t1 [23] [23,24]) (ai (hV R39_7t2 [23,24] [25] 26 [] [(25,bnn (.t 24))] [sb []]) (ai (hU R39_8 [25] [26] [25,26,27] 27 [] [(26,.t 0)] [.tt 0]) (ai (hX R39_8t1 [25,26,27]) (ai (hP R39_9 [25] [25,28]) (ai (hV R39_9t1 [25,28] [4] 5 [] [(4,.t 28)] [.tt 28]) (ai (hU R39_10 [4,9] [30,31] boa 32 [] [(30,.t 4),(31,.t 0)] [.tt 4,.tt 0]) (ai (hP R39_10t1 [31] boa) (ai (hU R39_10t2 [29,30,32,33,34] [35,36] boa 37 [] [(35,bnh 0 (.op (.mapGet .string (.agg [.s (.int .u8 0),.s .nilFunc]) (.t 0) (.t 1) true) [.t 30,.op (.field false 1 1 (.t 0)) [.t 32]])),(36,bnh 1 (.op (.mapGet .string (.agg [.s (.int .u8 0),.s .nilFunc]) (.t 0) (.t 1) true) [.t 30,.op (.field false 1 1 (.t 0)) [.t 32]]))] [sb [0,1],sb [0],sb [0],sb [],.sub 1 [] []]) (ai (hP R39_10t3 [] boa) (ai (hP R39_10t4 [35] boa) (ai (hV R39_10t5 [4,9,29,30,31,32,33,34,35,36] [6] 7 [] [(6,.t 36)] [.tt 36]) (ai (hT R39_11 [37,38,39,40,41,42] [43] 44 [] [(43,.pick (bnn (.t 6)) (.op (.bin .eql (.t 0) (.c (.s (.string ⟨#[]⟩)))) [eL (eF 1 (.t 3)),.c (.s (.string ⟨#[]⟩))]) (.c (.s (.bool false))))] [.tt 6,sb [0],sb [0],.sub 0 [1,0,0] [39],.sub 0 [1,0] [39],.sub 0 [1] [39],sb []]) (ai (hU R39_12 [43,44,45,46,47,49] [48,50] [43,44,45,46,47,48,49,50] 51 [] [(48,bnf 1 (eL (eF 1 (bng (.t 0))))),(50,eF 1 (bng (.t 0)))] [.tt 0,sb [0,0,0],sb [0,0],sb [0],sb [],sb [0,0,0],sb [0,0]]) (ai (hX R39_12t1 [43,44,45,46,47,48,49,50]) (ai (hU R39_13 [6,43,51,52] [53] bob 54 [] [(53,bnn (.t 6))] [.tt 6,sb [],sb []]) (ai (hP R39_13t1 [] bob) (ai (hP R39_13t2 [54] bob) (ai (hV R39_13t3 [6,43,51,52,53,54,55,56,57] [58] 59 [] [(58,.pick (.t 53) (.c (.s (.bool true))) (bnp .neq 1 (.op (.field false 0 1 (.t 0)) [.t 55])))] [.sub 0 [2,0] [53],.sub 0 [2] [53],sb []]) (ai (hU R39_14 [58] [59] [58,59,60] 60 [] [(59,.t 0)] [.tt 0]) (ai (hX R39_14t1 [58,59,60]) (ai (hU R39_15 [58,61,62,63,64,66] [65,67] [58,61,62,63,64,65,66,67] 68 [] [(65,bnf 1 (eL (eF 1 (bng (.t 0))))),(67,eF 1 (bng (.t 0)))] [.tt 0,sb [0,0,0],sb [0,0],sb [0],sb [],sb [0,0,0],sb [0,0]]) (ai (hX R39_15t1 [58,61,62,63,64,65,66,67]) (ai (hU R39_16 [68] [69,70] [68,69,70] 71 [] [(69,eL (eF 0 (.t 5))),(70,eF 0 (.t 3))] [sb [0],sb [],.sub 1 [] []]) (ai (hX R39_16t1 [68,69,70]) (ai (hU R39_17 [0,5,71] [72,73] [0,5,71,72,73,74] 74 [] [(72,eL (eF 1 (.t 5))),(73,.t 0)] [sb [0],sb [],.tt 0]) (ai (hX R39_17t1 [0,5,71,72,73,74]) (ai (hU R39_18 [3] [75] [3,75] 76 [] [(75,bnm 8 (.t 3))] [sb []]) ((hX R39_18t1 [3,75]))))))))))))))))))))))))))))))))))))))))))))))
def a_f52:=ai (hT R52_0 K52_0 [] 1 [] [] [.cc (.s (.map none))]) (ai avh (ai (hP R52_1 [] boc) (ai (hU R52_1t1 [] [2] boc 3 [] [(2,.op (.build [.s (.int .u8 0),.s .nilFunc] [(0,1),(1,1)] [(0,.c (.s (.int .u8 9))),(1,.c (.fn 60 [] []))]) [.c (.s (.int .u8 9)),.c (.fn 60 [] [])])] [sb []]) (ai (hP R52_1t2 [2] boc) (ai (hU R52_1t3 [] [3] boc 4 [] [(3,.op (.build [.s (.int .u8 0),.s .nilFunc] [(0,1),(1,1)] [(0,.c (.s (.int .u8 10))),(1,.c (.fn 61 [] []))]) [.c (.s (.int .u8 10)),.c (.fn 61 [] [])])] [sb []]) (ai (hP R52_1t4 [3] boc) (ai (hU R52_1t5 [] [4] boc 5 [] [(4,.op (.build [.s (.int .u8 0),.s .nilFunc] [(0,1),(1,1)] [(0,.c (.s (.int .u8 11))),(1,.c (.fn 62 [] []))]) [.c (.s (.int .u8 11)),.c (.fn 62 [] [])])] [sb []]) (ai (hP R52_1t6 [4] boc) (ai (hU R52_1t7 [] [5] boc 6 [] [(5,.op (.build [.s (.int .u8 0),.s .nilFunc] [(0,1),(1,1)] [(0,.c (.s (.int .u8 12))),(1,.c (.fn 63 [] []))]) [.c (.s (.int .u8 12)),.c (.fn 63 [] [])])] [sb []]) (ai (hP R52_1t8 [5] boc) (ai (hU R52_1t9 [] [6] boc 7 [] [(6,.op (.build [.s (.int .u8 0),.s .nilFunc] [(0,1),(1,1)] [(0,.c (.s (.int .u8 13))),(1,.c (.fn 64 [] []))]) [.c (.s (.int .u8 13)),.c (.fn 64 [] [])])] [sb []]) (ai (hP R52_1t10 [6] boc) (ai (hU R52_1t11 [] [7] boc 8 [] [(7,.op (.build [.s (.int .u8 0),.s .nilFunc] [(0,1),(1,1)] [(0,.c (.s (.int .u8 14))),(1,.c (.fn 65 [] []))]) [.c (.s (.int .u8 14)),.c (.fn 65 [] [])])] [sb []]) (ai (hP R52_1t12 [7] boc) ((hV R52_1t13 [1,2,3,4,5,6,7,8] [0] 9 [] [(0,.t 1)] [.tt 1,.tt 1]))))))))))))))))
def a_f53:=ai (hT R53_0 K53_0 [] 1 [] [] [.cc (.s (.map none))]) (ai avg (ai (hP R53_1 [] bod) (ai (hU R53_1t1 [] [2] bod 3 [] [(2,.op (.build [.s (.int .u8 0),.s .nilFunc] [(0,1),(1,1)] [(0,.c (.s (.int .u8 1))),(1,.c (.fn 66 [] []))]) [.c (.s (.int .u8 1)),.c (.fn 66 [] [])])] [sb []]) (ai (hP R53_1t2 [2] bod) (ai (hU R53_1t3 [] [3] bod 4 [] [(3,.op (.build [.s (.int .u8 0),.s .nilFunc] [(0,1),(1,1)] [(0,.c (.s (.int .u8 2))),(1,.c (.fn 66 [] []))]) [.c (.s (.int .u8 2)),.c (.fn 66 [] [])])] [sb []]) (ai (hP R53_1t4 [3] bod) (ai (hU R53_1t5 [] [4] bod 5 [] [(4,.op (.build [.s (.int .u8 0),.s .nilFunc] [(0,1),(1,1)] [(0,.c (.s (.int .u8 3))),(1,.c (.fn 67 [] []))]) [.c (.s (.int .u8 3)),.c (.fn 67 [] [])])] [sb []]) (ai (hP R53_1t6 [4] bod) (ai (hU R53_1t7 [] [5] bod 6 [] [(5,.op (.build [.s (.int .u8 0),.s .nilFunc] [(0,1),(1,1)] [(0,.c (.s (.int .u8 4))),(1,.c (.fn 68 [] []))]) [.c (.s (.int .u8 4)),.c (.fn 68 [] [])])] [sb []]) (ai (hP R53_1t8 [5] bod) (ai (hU R53_1t9 [] [6] bod 7 [] [(6,.op (.build [.s (.int .u8 0),.s .nilFunc] [(0,1),(1,1)] [(0,.c (.s (.int .u8 5))),(1,.c (.fn 69 [] []))]) [.c (.s (.int .u8 5)),.c (.fn 69 [] [])])] [sb []]) (ai (hP R53_1t10 [6] bod) (ai (hU R53_1t11 [] [7] bod 8 [] [(7,.op (.build [.s (.int .u8 0),.s .nilFunc] [(0,1),(1,1)] [(0,.c (.s (.int .u8 8))),(1,.c (.fn 69 [] []))]) [.c (.s (.int .u8 8)),.c (.fn 69 [] [])])] [sb []]) (ai (hP R53_1t12 [7] bod) (ai (hU R53_1t13 [] [8] bod 9 [] [(8,.op (.build [.s (.int .u8 0),.s .nilFunc] [(0,1),(1,1)] [(0,.c (.s (.int .u8 7))),(1,.c (.fn 70 [] []))]) [.c (.s (.int .u8 7)),.c (.fn 70 [] [])])] [sb []]) (ai (hP R53_1t14 [8] bod) (ai (hU R53_1t15 [] [9] bod 10 [] [(9,.op (.build [.s (.int .u8 0),.s .nilFunc] [(0,1),(1,1)] [(0,.c (.s (.int .u8 6))),(1,.c (.fn 71 [] []))]) [.c (.s (.int .u8 6)),.c (.fn 71 [] [])])] [sb []]) (ai (hP R53_1t16 [9] bod) (ai (hU R53_1t17 [] [10] bod 11 [] [(10,.op (.build [.s (.int .u8 0),.s .nilFunc] [(0,1),(1,1)] [(0,.c (.s (.int .u8 10))),(1,.c (.fn 61 [] []))]) [.c (.s (.int .u8 10)),.c (.fn 61 [] [])])] [sb []]) (ai (hP R53_1t18 [10] bod) (ai (hU R53_1t19 [] [11] bod 12 [] [(11,.op (.build [.s (.int .u8 0),.s .nilFunc] [(0,1),(1,1)] [(0,.c (.s (.int .u8 11))),(1,.c (.fn 62 [] []))]) [.c (.s (.int .u8 11)),.c (.fn 62 [] [])])] [sb []]) (ai (hP R53_1t20 [11] bod) ((hV R53_1t21 [1,2,3,4,5,6,7,8,9,10,11,12] [0] 13 [] [(0,.t 1)] [.tt 1,.tt 1]))))))))))))))))))))))))
theorem bk8:alb [39] Tryd.prog PX0 18=some (false,af3.ntmps,af3.results,af3.body.bare):=by kernel_rfl
theorem bk7:yf Tryd.prog PX0 39=some (false,ag4.ntmps,ag4.results,ag4.body.bare):=by kernel_rfl
theorem bk6:yf Tryd.prog PX0 52=some (false,aqj.ntmps,aqj.results,aqj.body.bare):=by kernel_rfl
theorem bk5:yf Tryd.prog PX0 53=some (false,aqi.ntmps,aqi.results,aqi.body.bare):=by kernel_rfl
abbrev bjt:Nat:=11
def K11_0:=[0,1]++List.range' 4 160
def R11_0t2:=[bm2 4 bmo]
def R11_0t1:=q 3 (.box (.t 1))::R11_0t2
def R11_0p0:=[q 2 (.box (.t 0))]
def R11_0:=R11_0p0++R11_0t1
def K11_0p0:=[0]++List.range' 3 161
def X11_0(call:o8)(it:zn)(base f H):evC call it base (.region R11_0 [] K11_0) f H=ahk call it base (.region R11_0t1 [] K11_0) (a0a [] R11_0p0 K11_0p0 (mg call base [⟨some 2,.box (.t 0),none⟩] f H)):=(as2 call it base R11_0p0 R11_0t1 (kc:=K11_0p0) (by kernel_rfl) f H).trans (by rw[akg];rfl)
def R11_1:=[oF 14 0 2,oL 15 14,q 16 (.lenS .s (.t 15)),oF 17 0 3,oL 18 17,q 19 (.lenS .s (.t 18)),q 20 (.bin .neq (.t 16) (.t 19))]
def R11_2:=[bm2 4 bmo]
def R11_3:=[bm2 5 (bml 0)]
def R11_4:=[oM 21 5,oF 22 0 2,oL 23 22,q 24 (.lenS .s (.t 23)),q 25 (.bin .lss (.t 21) (.t 24))]
def R11_5t4:=[bmy 3 7 37]
def R11_5t3:=bmy 3 6 32::R11_5t4
def R11_5t2:=q 7 (.alloc [bmr,bms,bms])::R11_5t3
def R11_5t1:=q 6 (.alloc [bmr,bms,bms])::R11_5t2
def R11_5p0:=[oF 28 0 2,oL 29 28,oM 30 5,bm4 31 3 29 30,q 32 (.load true 3 (.t 31)),oF 33 0 3,oL 34 33,oM 35 5,bm4 36 3 34 35,q 37 (.load true 3 (.t 36))]
def R11_5:=R11_5p0++R11_5t1
def R11_6t6:=[qg 49 (.un .not (.t 48)) 43 false,bm6 50 (.t 43) bmn (.t 49),oM 51 50,gF 52 2 6 51 false,gL 53 52 51 false,qg 54 (.lenS .s (.t 53)) 51 false,gF 55 2 7 51 false,gL 56 55 51 false,qg 57 (.lenS .s (.t 56)) 51 false,qg 58 (.bin .neq (.t 54) (.t 57)) 51 false,bm6 59 (.t 51) bmn (.t 58)]
def R11_6t5:=qg 48 (.call (.c (.fn 24 [] [])) [.t 45,.t 47]) 43 false::R11_6t6
def R11_6t4:=gL 47 46 43 false::R11_6t5
def R11_6t3:=gF 46 1 7 43 false::R11_6t4
def R11_6t2:=gL 45 44 43 false::R11_6t3
def R11_6t1:=gF 44 1 6 43 false::R11_6t2
def R11_6p0:=[oF 38 0 6,oL 39 38,oF 40 0 7,oL 41 40,q 42 (.bin .neq (.t 39) (.t 41)),oM 43 42]
def R11_6:=R11_6p0++R11_6t1
def R11_7:=[bm2 4 bmo]
def R11_8:=[bm2 8 (bml 0)]
def R11_9:=[oM 60 8,oF 61 2 6,oL 62 61,q 63 (.lenS .s (.t 62)),q 64 (.bin .lss (.t 60) (.t 63))]
def R11_10t4:=[bmy 2 10 76]
def R11_10t3:=bmy 2 9 71::R11_10t4
def R11_10t2:=q 10 (.alloc [bmr,bms])::R11_10t3
def R11_10t1:=q 9 (.alloc [bmr,bms])::R11_10t2
def R11_10p0:=[oF 67 2 6,oL 68 67,oM 69 8,bm4 70 2 68 69,q 71 (.load true 2 (.t 70)),oF 72 2 7,oL 73 72,oM 74 8,bm4 75 2 73 74,q 76 (.load true 2 (.t 75))]
def R11_10:=R11_10p0++R11_10t1
def R11_11:=[oF 77 0 9,oL 78 77,oF 79 0 10,oL 80 79,q 81 (.bin .neq (.t 78) (.t 80)),oM 82 81,gF 83 1 9 82 false,gL 84 83 82 false,qg 85 (.lenS .s (.t 84)) 82 false,gF 86 1 10 82 false,gL 87 86 82 false,qg 88 (.lenS .s (.t 87)) 82 false,qg 89 (.bin .neq (.t 85) (.t 88)) 82 false,bm6 90 (.t 82) bmn (.t 89)]
def R11_12:=[bm2 4 bmo]
def R11_13:=[bm2 11 (bml 0)]
def R11_14:=[oM 91 11,oF 92 1 9,oL 93 92,q 94 (.lenS .s (.t 93)),q 95 (.bin .lss (.t 91) (.t 94))]
def R11_15t4:=[bmy 8 13 107]
def R11_15t3:=bmy 8 12 102::R11_15t4
def R11_15t2:=q 13 (.alloc [bmt,bmr,bmr,bmr,bmu,bmr,bms,bms])::R11_15t3
def R11_15t1:=q 12 (.alloc [bmt,bmr,bmr,bmr,bmu,bmr,bms,bms])::R11_15t2
def R11_15p0:=[oF 98 1 9,oL 99 98,oM 100 11,bm4 101 8 99 100,q 102 (.load true 8 (.t 101)),oF 103 1 10,oL 104 103,oM 105 11,bm4 106 8 104 105,q 107 (.load true 8 (.t 106))]
def R11_15:=R11_15p0++R11_15t1
def R11_16t12:=[qg 162 (.un .not (.t 161)) 156 false,bm6 163 (.t 156) bmn (.t 162)]
def R11_16t11:=qg 161 (.call (.c (.fn 24 [] [])) [.t 158,.t 160]) 156 false::R11_16t12
def R11_16t10:=gL 160 159 156 false::R11_16t11
def R11_16t9:=gF 159 7 13 156 false::R11_16t10
def R11_16t8:=gL 158 157 156 false::R11_16t9
def R11_16t7:=gF 157 7 12 156 false::R11_16t8
def R11_16p6:=[qg 154 (.un .not (.t 153)) 148 false,bm6 155 (.t 148) bmn (.t 154),oM 156 155]
def R11_16t6:=R11_16p6++R11_16t7
def R11_16t5:=qg 153 (.call (.c (.fn 24 [] [])) [.t 150,.t 152]) 148 false::R11_16t6
def R11_16t4:=gL 152 151 148 false::R11_16t5
def R11_16t3:=gF 151 6 13 148 false::R11_16t4
def R11_16t2:=gL 150 149 148 false::R11_16t3
def R11_16t1:=gF 149 6 12 148 false::R11_16t2
def R11_16p0:=[oF 108 0 12,oL 109 108,oF 110 0 13,oL 111 110,q 112 (.bin .neq (.t 109) (.t 111)),oM 113 112,gF 114 1 12 113 false,gL 115 114 113 false,gF 116 1 13 113 false,gL 117 116 113 false,qg 118 (.bin .neq (.t 115) (.t 117)) 113 false,bm6 119 (.t 113) bmn (.t 118),oM 120 119,gF 121 2 12 120 false,gL 122 121 120 false,gF 123 2 13 120 false,gL 124 123 120 false,qg 125 (.bin .neq (.t 122) (.t 124)) 120 false,bm6 126 (.t 120) bmn (.t 125),oM 127 126,gF 128 3 12 127 false,gL 129 128 127 false,gF 130 3 13 127 false,gL 131 130 127 false,qg 132 (.bin .neq (.t 129) (.t 131)) 127 false,bm6 133 (.t 127) bmn (.t 132),oM 134 133,gF 135 4 12 134 false,gL 136 135 134 false,gF 137 4 13 134 false,gL 138 137 134 false,qg 139 (.bin .neq (.t 136) (.t 138)) 134 false,bm6 140 (.t 134) bmn (.t 139),oM 141 140,gF 142 5 12 141 false,gL 143 142 141 false,gF 144 5 13 141 false,gL 145 144 141 false,qg 146 (.bin .neq (.t 143) (.t 145)) 141 false,bm6 147 (.t 141) bmn (.t 146),oM 148 147]
def R11_16:=R11_16p0++R11_16t1
def R11_17:=[bm2 4 bmo]
def R11_18:=[oM 96 11,q 97 (.bin .add (.t 96) (bml 1)),oM 11 97]
def akb:ACode:=
 (.seq (.seq (.regionE R11_14 [91,92,93,94] [95])
 (.cond (.t 95)
 .skip
 (.exit 4)))
 (.seq (.block 5
 (.seq (.region R11_15 [] [95,98,99,100,101,102,103,104,105,106,107])
 (.seq (.region R11_16 [] [12,13,108,109,110,111,112,113,114,115,116,117,118,119,120,121,122,123,124,125,126,127,128,129,130,131,132,133,134,135,136,137,138,139,140,141,142,143,144,145,146,147,148,149,150,151,152,153,154,155,156,157,158,159,160,161,162])
 (.cond (.t 163)
 (.seq (.regionE R11_17 [2,3,5,6,7,8,9,10,11,163] [4])
 .ret)
 .skip))))
 (.regionE R11_18 [96,97,163] [11])))
def als:ACode:=akb
def R11_19:=[oM 65 8,q 66 (.bin .add (.t 65) (bml 1)),oM 8 66]
def aka:ACode:=
 (.seq (.seq (.regionE R11_9 [60,61,62,63] [64])
 (.cond (.t 64)
 .skip
 (.exit 2)))
 (.seq (.block 3
 (.seq (.region R11_10 [] [64,67,68,69,70,71,72,73,74,75,76])
 (.seq (.seq (.regionE R11_11 [77,78,79,80,81,82,83,84,85,86,87,88,89] [90])
 (.cond (.t 90)
 (.seq (.regionE R11_12 [2,3,5,6,7,8,9,10,90] [4])
 .ret)
 .skip))
 (.seq (.regionE R11_13 [90] [11])
 (.block 4
 (.loop [] als))))))
 (.regionE R11_19 [9,10,11,65,66,95] [8])))
def alr:ACode:=aka
def R11_20:=[oM 26 5,q 27 (.bin .add (.t 26) (bml 1)),oM 5 27]
def aj9:ACode:=
 (.seq (.seq (.regionE R11_4 [21,22,23,24] [25])
 (.cond (.t 25)
 .skip
 (.exit 0)))
 (.seq (.block 1
 (.seq (.region R11_5 [] [25,28,29,30,31,32,33,34,35,36,37])
 (.seq (.seq (.region R11_6 [] [38,39,40,41,42,43,44,45,46,47,48,49,50,51,52,53,54,55,56,57,58])
 (.cond (.t 59)
 (.seq (.regionE R11_7 [2,3,5,6,7,59] [4])
 .ret)
 .skip))
 (.seq (.regionE R11_8 [59] [8])
 (.block 2
 (.loop [] alr))))))
 (.regionE R11_20 [6,7,8,26,27,64] [5])))
def alq:ACode:=aj9
def R11_21:=[bm2 4 bmn]
def aq0:ACFun:={ ntmps:=164,results:=[.tmp 4],body:=
 (.seq (.region R11_0 [] K11_0)
 (.seq (.seq (.regionE R11_1 [14,15,16,17,18,19] [20])
 (.cond (.t 20)
 (.seq (.regionE R11_2 [2,3,20] [4])
 .ret)
 .skip))
 (.seq (.seq (.regionE R11_3 [20] [5])
 (.block 0
 (.loop [] alq)))
 (.seq (.regionE R11_21 [2,3,5,25] [4])
 .ret)))) }
theorem av9:ql (List.range' 2 (aq0.ntmps-2)) aq0.body=true:=by kernel_rfl
abbrev bfq:Nat:=12
def K12_0:=List.range' 0 75
theorem av8:aam K12_0 (uq 75 [] 0)=[]:=by kernel_rfl
def R12_0:=[bm2 0 bmo]
def R12_1t6:=[oM 3 8]
def R12_1t5:=bmy 2 2 7::R12_1t6
def R12_1t4:=bmy 1 1 6::R12_1t5
def R12_1t3:=q 2 (.alloc [bmu,bmu])::R12_1t4
def R12_1t2:=q 1 (.alloc [bms])::R12_1t3
def R12_1p1:=[oM 4 5,bm5 6 4 0,bm5 7 4 1,bm5 8 4 2]
def R12_1t1:=R12_1p1++R12_1t2
def R12_1:=bmz 5 9 [bmp #[102,117,110,99,32,109,97,105,110,40,112,41,32,123,10,97,58,32,59,32,120,10,32,32,120,32,61,32,102,105,101,108,100,32,112,32,51,10,32,32,114,101,116,10,125,10]]::R12_1t1
def R12_2:=[oM 9 3,q 10 (.bin .eql (.t 9) (bml 0)),oM 11 10,gF 12 0 1 11 true,gL 13 12 11 true,qg 14 (.lenS .s (.t 13)) 11 true,qg 15 (.bin .eql (.t 14) (bml 1)) 11 true,bm6 16 (.t 11) (.t 15) bmo,oM 17 16,gF 18 0 1 17 true,gL 19 18 17 true,qg 20 (.indexAddr 3 (.t 19) (bml 0)) 17 true,gF 21 1 20 17 true,gL 22 21 17 true,qg 23 (.lenS .s (.t 22)) 17 true,qg 24 (.bin .eql (.t 23) (bml 1)) 17 true,bm6 25 (.t 17) (.t 24) bmo,oM 26 25,gF 27 0 1 26 true,gL 28 27 26 true,qg 29 (.indexAddr 3 (.t 28) (bml 0)) 26 true,gF 30 2 29 26 true,gL 31 30 26 true,qg 32 (.lenS .s (.t 31)) 26 true,qg 33 (.bin .eql (.t 32) (bml 1)) 26 true,bm6 34 (.t 26) (.t 33) bmo,oM 35 34,gF 36 0 1 35 true,gL 37 36 35 true,qg 38 (.indexAddr 3 (.t 37) (bml 0)) 35 true,gF 39 2 38 35 true,gL 40 39 35 true,qg 41 (.indexAddr 2 (.t 40) (bml 0)) 35 true,gF 42 1 41 35 true,gL 43 42 35 true,qg 44 (.lenS .s (.t 43)) 35 true,qg 45 (.bin .eql (.t 44) (bml 2)) 35 true,bm6 46 (.t 35) (.t 45) bmo,oM 47 46,gF 48 0 1 47 true,gL 49 48 47 true,qg 50 (.indexAddr 3 (.t 49) (bml 0)) 47 true,gF 51 2 50 47 true,gL 52 51 47 true,qg 53 (.indexAddr 2 (.t 52) (bml 0)) 47 true,gF 54 1 53 47 true,gL 55 54 47 true,qg 56 (.indexAddr 8 (.t 55) (bml 0)) 47 true,gF 57 4 56 47 true,gL 58 57 47 true,qg 59 (.bin .eql (.t 58) (bml 3)) 47 true,bm6 60 (.t 47) (.t 59) bmo,oM 61 60,gF 62 0 1 61 true,gL 63 62 61 true,qg 64 (.indexAddr 3 (.t 63) (bml 0)) 61 true,gF 65 2 64 61 true,gL 66 65 61 true,qg 67 (.indexAddr 2 (.t 66) (bml 0)) 61 true,gF 68 1 67 61 true,gL 69 68 61 true,qg 70 (.indexAddr 8 (.t 69) (bml 0)) 61 true,gF 71 2 70 61 true,gL 72 71 61 true,qg 73 (.bin .eql (.t 72) (bmp #[112])) 61 true,bm6 74 (.t 61) (.t 73) bmo,oM 0 74]
def aqz:ACFun:={ ntmps:=75,results:=[.tmp 0],body:=
 (.seq (.regionE R12_0 K12_0 [])
 (.seq (.region R12_1 [] [2,4,5,6,7,8])
 (.seq (.regionE R12_2 [1,3,9,10,11,12,13,14,15,16,17,18,19,20,21,22,23,24,25,26,27,28,29,30,31,32,33,34,35,36,37,38,39,40,41,42,43,44,45,46,47,48,49,50,51,52,53,54,55,56,57,58,59,60,61,62,63,64,65,66,67,68,69,70,71,72,73,74] [0])
 .ret))) }
abbrev bfn:Nat:=24
def K24_0:=List.range' 2 24
theorem av0:aam K24_0 (uq 26 [] 2)=[]:=by kernel_rfl
def R24_0:=[bm2 4 bmo]
def R24_1:=[oM 6 0,q 7 (.lenS .s (.t 6)),oM 8 1,q 9 (.lenS .s (.t 8)),q 10 (.bin .neq (.t 7) (.t 9))]
def R24_2:=[bm2 4 bmo]
def R24_3:=[bm2 5 (bml 0)]
def R24_4:=[oM 11 5,oM 12 0,q 13 (.lenS .s (.t 12)),q 14 (.bin .lss (.t 11) (.t 13))]
def R24_5:=[oM 17 0,oM 18 5,bm4 19 1 17 18,oL 20 19,oM 21 1,oM 22 5,bm4 23 1 21 22,oL 24 23,q 25 (.bin .neq (.t 20) (.t 24))]
def R24_6:=[bm2 4 bmo]
def R24_7:=[oM 15 5,q 16 (.bin .add (.t 15) (bml 1)),oM 5 16]
def ajz:ACode:=
 (.seq (.seq (.regionE R24_4 [11,12,13] [14])
 (.cond (.t 14)
 .skip
 (.exit 0)))
 (.seq (.block 1
 (.seq (.regionE R24_5 [14,17,18,19,20,21,22,23,24] [25])
 (.cond (.t 25)
 (.seq (.regionE R24_6 [0,1,5,25] [4])
 .ret)
 .skip)))
 (.regionE R24_7 [15,16,25] [5])))
def alm:ACode:=ajz
def R24_8:=[bm2 4 bmn]
def aqt:ACFun:={ ntmps:=26,results:=[.tmp 4],body:=
 (.seq (.regionE R24_0 K24_0 [])
 (.seq (.seq (.regionE R24_1 [6,7,8,9] [10])
 (.cond (.t 10)
 (.seq (.regionE R24_2 [0,1,10] [4])
 .ret)
 .skip))
 (.seq (.seq (.regionE R24_3 [10] [5])
 (.block 0
 (.loop [] alm)))
 (.seq (.regionE R24_8 [0,1,5,14] [4])
 .ret)))) }
def axw:=ai (hQ K11_0p0 0) (ai (hK K11_0p0 1) (ai (hK K11_0p0 2) (ai (hQ K11_0p0 3) (ai (hQ K11_0p0 4) (ai X11_0 (ai (hP R11_0t1 [1] K11_0) (ai (hV R11_0t2 K11_0 [] 5 [] [] [.cc (.s (.bool false))]) (ai (hQ K11_0 0) (ai (hQ K11_0 1) (ai (hK K11_0 2) (ai (hK K11_0 3) (ai (hQ K11_0 4) (ai (hT R11_1 [14,15,16,17,18,19] [20] 21 [] [(20,bno .neq (bnl (eL (eF 0 (.t 2)))) (bnl (eL (eF 0 (.t 3)))))] [sb [0,0,0],sb [0,0],sb [0],sb [1,0,0],sb [1,0],sb [1],sb []]) (ai (hT R11_2 [2,3,20] [4] 5 [] [(4,bnb)] [.cc (.s (.bool false))]) (ai (hT R11_3 [20] [5] 6 [] [(5,bm8 0)] [.cc (.s (.int .i64 0))]) (ai (hT R11_4 [21,22,23,24] [25] 26 [] [(25,bno .lss (.t 5) (bnl (eL (eF 0 (.t 2)))))] [.tt 5,sb [1,0,0],sb [1,0],sb [1],sb []]) (ai (hU R11_5 [25,28,29,30,31,33,34,35,36] [32,37] boe 38 [] [(32,bnm 3 (bnj 3 (eL (eF 0 (.t 2))) (.t 5))),(37,bnm 3 (bnj 3 (eL (eF 0 (.t 3))) (.t 5)))] [sb [0,0,0],sb [0,0],.tt 5,sb [0],sb [],.sub 1 [0,0,0] [],.sub 1 [0,0] [],.tt 5,.sub 1 [0] [],.sub 1 [] []]) (ai (hP R11_5t1 [] boe) (ai (hP R11_5t2 [] boe) (ai (hP R11_5t3 [32] boe) (ai (hX R11_5t4 [25,28,29,30,31,32,33,34,35,36,37]) (ai (hU R11_6 [38,39,40,41,42] [43] bof 44 [] [(43,bno .neq (eL (eF 0 (.t 6))) (eL (eF 0 (.t 7))))] [sb [0,0],sb [0],sb [1,0],sb [1],sb [],sb []]) (ai (hP R11_6t1 [] bof) (ai (hP R11_6t2 [44] bof) (ai (hP R11_6t3 [] bof) (ai (hP R11_6t4 [46] bof) (ai (hP R11_6t5 [45,47] bof) (ai (hV R11_6t6 [38,39,40,41,42,43,44,45,46,47,48,49,50,51,52,53,54,55,56,57,58] [59] 60 [] [(59,.pick (.pick (.t 43) bna (bnn (.t 48))) bna (bno .neq (bnl (eL (eF 2 (.t 6)))) (bnl (eL (eF 2 (.t 7))))))] [.sub 0 [0,2] [43],sb [0],sb [0],.sub 0 [2,0,0,0] [51],.sub 0 [2,0,0] [51],.sub 0 [2,0] [51],.sub 0 [2,1,0,0] [51],.sub 0 [2,1,0] [51],.sub 0 [2,1] [51],.sub 0 [2] [51],sb []]) (ai (hT R11_7 [2,3,5,6,7,59] [4] 5 [] [(4,bnb)] [.cc (.s (.bool false))]) (ai (hT R11_8 [59] [8] 9 [] [(8,bm8 0)] [.cc (.s (.int .i64 0))]) (ai (hT R11_9 [60,61,62,63] [64] 65 [] [(64,bno .lss (.t 8) (bnl (eL (eF 2 (.t 6)))))] [.tt 8,sb [1,0,0],sb [1,0],sb [1],sb []]) (ai (hU R11_10 [64,67,68,69,70,72,73,74,75] [71,76] bog 77 [] [(71,bnm 2 (bnj 2 (eL (eF 2 (.t 6))) (.t 8))),(76,bnm 2 (bnj 2 (eL (eF 2 (.t 7))) (.t 8)))] [sb [0,0,0],sb [0,0],.tt 8,sb [0],sb [],.sub 1 [0,0,0] [],.sub 1 [0,0] [],.tt 8,.sub 1 [0] [],.sub 1 [] []]) (ai (hP R11_10t1 [] bog) (ai (hP R11_10t2 [] bog) (ai (hP R11_10t3 [71] bog) (ai (hX R11_10t4 [64,67,68,69,70,71,72,73,74,75,76]) (ai (hT R11_11 [77,78,79,80,81,82,83,84,85,86,87,88,89] [90] 91 [] [(90,.pick (bno .neq (eL (eF 0 (.t 9))) (eL (eF 0 (.t 10)))) bna (bno .neq (bnl (eL (eF 1 (.t 9)))) (bnl (eL (eF 1 (.t 10))))))] [sb [0,0,0],sb [0,0],sb [0,1,0],sb [0,1],sb [0],sb [0],.sub 0 [2,0,0,0] [82],.sub 0 [2,0,0] [82],.sub 0 [2,0] [82],.sub 0 [2,1,0,0] [82],.sub 0 [2,1,0] [82],.sub 0 [2,1] [82],.sub 0 [2] [82],sb []]) (ai (hT R11_12 [2,3,5,6,7,8,9,10,90] [4] 5 [] [(4,bnb)] [.cc (.s (.bool false))]) (ai (hT R11_13 [90] [11] 12 [] [(11,bm8 0)] [.cc (.s (.int .i64 0))]) (ai (hT R11_14 [91,92,93,94] [95] 96 [] [(95,bno .lss (.t 11) (bnl (eL (eF 1 (.t 9)))))] [.tt 11,sb [1,0,0],sb [1,0],sb [1],sb []]) (ai (hU R11_15 [95,98,99,100,101,103,104,105,106] [102,107] boh 108 [] [(102,bnm 8 (bnj 8 (eL (eF 1 (.t 9))) (.t 11))),(107,bnm 8 (bnj 8 (eL (eF 1 (.t 10))) (.t 11)))] [sb [0,0,0],sb [0,0],.tt 11,sb [0],sb [],.sub 1 [0,0,0] [],.sub 1 [0,0] [],.tt 11,.sub 1 [0] [],.sub 1 [] []]) (ai (hP R11_15t1 [] boh) (ai (hP R11_15t2 [] boh) (ai (hP R11_15t3 [102] boh) (ai (hX R11_15t4 [95,98,99,100,101,102,103,104,105,106,107]) (ai (hU R11_16 [108,109,110,111,112,113,114,115,116,117,118,119,120,121,122,123,124,125,126,127,128,129,130,131,132,133,134,135,136,137,138,139,140,141,142,143,144,145,146,147] [148] boi 149 [] [(148,.pick (.pick (.pick (.pick (.pick (bno .neq (eL (eF 0 (.t 12))) (eL (eF 0 (.t 13)))) bna (bno .neq (eL (eF 1 (.t 12))) (eL (eF 1 (.t 13))))) bna (bno .neq (eL (eF 2 (.t 12))) (eL (eF 2 (.t 13))))) bna (bno .neq (eL (eF 3 (.t 12))) (eL (eF 3 (.t 13))))) bna (bno .neq (eL (eF 4 (.t 12))) (eL (eF 4 (.t 13))))) bna (bno .neq (eL (eF 5 (.t 12))) (eL (eF 5 (.t 13)))))] [sb [0,0,0,0,0,0,0],sb [0,0,0,0,0,0],sb [0,0,0,0,0,1,0],sb [0,0,0,0,0,1],sb [0,0,0,0,0],sb [0,0,0,0,0],.sub 0 [0,0,0,0,2,0,0] [113],.sub 0 [0,0,0,0,2,0] [113],.sub 0 [0,0,0,0,2,1,0] [113],.sub 0 [0,0,0,0,2,1] [113],.sub 0 [0,0,0,0,2] [113],sb [0,0,0,0],sb [0,0,0,0],.sub 0 [0,0,0,2,0,0] [120],.sub 0 [0,0,0,2,0] [120],.sub 0 [0,0,0,2,1,0] [120],.sub 0 [0,0,0,2,1] [120],.sub 0 [0,0,0,2] [120],sb [0,0,0],sb [0,0,0],.sub 0 [0,0,2,0,0] [127],.sub 0 [0,0,2,0] [127],.sub 0 [0,0,2,1,0] [127],.sub 0 [0,0,2,1] [127],.sub 0 [0,0,2] [127],sb [0,0],sb [0,0],.sub 0 [0,2,0,0] [134],.sub 0 [0,2,0] [134],.sub 0 [0,2,1,0] [134],.sub 0 [0,2,1] [134],.sub 0 [0,2] [134],sb [0],sb [0],.sub 0 [2,0,0] [141],.sub 0 [2,0] [141],.sub 0 [2,1,0] [141],.sub 0 [2,1] [141],.sub 0 [2] [141],sb [],sb []]) (ai (hP R11_16t1 [] boi) (ai (hP R11_16t2 [149] boi) (ai (hP R11_16t3 [] boi) (ai (hP R11_16t4 [151] boi) (ai (hP R11_16t5 [150,152] boi) (ai (hU R11_16t6 [148,153,154,155] [156] boi 157 [] [(156,.pick (.t 148) bna (bnn (.t 153)))] [.sub 0 [2] [148],sb [],sb []]) (ai (hP R11_16t7 [12] boi) (ai (hP R11_16t8 [157] boi) (ai (hP R11_16t9 [13] boi) (ai (hP R11_16t10 [159] boi) (ai (hP R11_16t11 [158,160] boi) (ai (hV R11_16t12 [12,13,108,109,110,111,112,113,114,115,116,117,118,119,120,121,122,123,124,125,126,127,128,129,130,131,132,133,134,135,136,137,138,139,140,141,142,143,144,145,146,147,148,149,150,151,152,153,154,155,156,157,158,159,160,161,162] [163] 164 [] [(163,.pick (.t 156) bna (bnn (.t 161)))] [.sub 0 [2] [156],sb []]) (ai (hT R11_17 [2,3,5,6,7,8,9,10,11,163] [4] 5 [] [(4,bnb)] [.cc (.s (.bool false))]) (ai (hT R11_18 [96,97,163] [11] 98 [] [(11,bnf 1 (.t 11))] [.tt 11,sb [],sb []]) (ai (hE als akb) (ai (hT R11_19 [9,10,11,65,66,95] [8] 67 [] [(8,bnf 1 (.t 8))] [.tt 8,sb [],sb []]) (ai (hE alr aka) (ai (hT R11_20 [6,7,8,26,27,64] [5] 28 [] [(5,bnf 1 (.t 5))] [.tt 5,sb [],sb []]) (ai (hE alq aj9) (ai (hT R11_21 [2,3,5,25] [4] 5 [] [(4,bna)] [.cc (.s (.bool true))]) (ai akb.eq_1 (ai aj9.eq_1 (aka.eq_1)))))))))))))))))))))))))))))))))))))))))))))))))))))))))))))))))))))
def a_f12:=ai (hT R12_0 K12_0 [] 1 [] [] [.cc (.s (.bool false))]) (ai av8 (ai (hP R12_1 [] boj) (ai (hU R12_1t1 [4,5] [6,7,8] boj 9 [] [(6,bnh 0 (.t 5)),(7,bnh 1 (.t 5)),(8,bnh 2 (.t 5))] [.tt 5,sb [],.sub 1 [] [],.sub 2 [] []]) (ai (hP R12_1t2 [] boj) (ai (hP R12_1t3 [] boj) (ai (hP R12_1t4 [6] boj) (ai (hP R12_1t5 [2,7] boj) (ai (hV R12_1t6 [2,4,5,6,7,8] [3] 4 [] [(3,.t 8)] [.tt 8]) ((hT R12_2 [1,3,9,10,11,12,13,14,15,16,17,18,19,20,21,22,23,24,25,26,27,28,29,30,31,32,33,34,35,36,37,38,39,40,41,42,43,44,45,46,47,48,49,50,51,52,53,54,55,56,57,58,59,60,61,62,63,64,65,66,67,68,69,70,71,72,73,74] [0] 75 [] [(0,.pick (.pick (.pick (.pick (.pick (.pick (bnq .eql 0 (.t 3)) (bnq .eql 1 (bnl (eL (eF 0 (.t 1))))) (.c (.s (.bool false)))) (bnq .eql 1 (bnl (eL (eF 1 (bnk 3 0 (eL (eF 0 (.t 1)))))))) (.c (.s (.bool false)))) (bnq .eql 1 (bnl (eL (eF 2 (bnk 3 0 (eL (eF 0 (.t 1)))))))) (.c (.s (.bool false)))) (bnq .eql 2 (bnl (eL (eF 1 (bnk 2 0 (eL (eF 2 (bnk 3 0 (eL (eF 0 (.t 1))))))))))) (.c (.s (.bool false)))) (bnq .eql 3 (eL (eF 4 (bnk 8 0 (eL (eF 1 (bnk 2 0 (eL (eF 2 (bnk 3 0 (eL (eF 0 (.t 1))))))))))))) (.c (.s (.bool false)))) (.op (.bin .eql (.t 0) (.c (.s (.string ⟨#[112]⟩)))) [eL (eF 2 (bnk 8 0 (eL (eF 1 (bnk 2 0 (eL (eF 2 (bnk 3 0 (eL (eF 0 (.t 1))))))))))),.c (.s (.string ⟨#[112]⟩))]) (.c (.s (.bool false))))] [.tt 3,sb [0,0,0,0,0,0],sb [0,0,0,0,0,0],.sub 0 [0,0,0,0,0,1,0,0,0] [11],.sub 0 [0,0,0,0,0,1,0,0] [11],.sub 0 [0,0,0,0,0,1,0] [11],.sub 0 [0,0,0,0,0,1] [11],sb [0,0,0,0,0],sb [0,0,0,0,0],.sub 0 [0,0,0,0,1,0,0,0,0,0,0] [17],.sub 0 [0,0,0,0,1,0,0,0,0,0] [17],.sub 0 [0,0,0,0,1,0,0,0,0] [17],.sub 0 [0,0,0,0,1,0,0,0] [17],.sub 0 [0,0,0,0,1,0,0] [17],.sub 0 [0,0,0,0,1,0] [17],.sub 0 [0,0,0,0,1] [17],sb [0,0,0,0],sb [0,0,0,0],.sub 0 [0,0,0,1,0,0,0,0,0,0] [26],.sub 0 [0,0,0,1,0,0,0,0,0] [26],.sub 0 [0,0,0,1,0,0,0,0] [26],.sub 0 [0,0,0,1,0,0,0] [26],.sub 0 [0,0,0,1,0,0] [26],.sub 0 [0,0,0,1,0] [26],.sub 0 [0,0,0,1] [26],sb [0,0,0],sb [0,0,0],.sub 0 [0,0,1,0,0,0,0,0,0,0,0,0] [35],.sub 0 [0,0,1,0,0,0,0,0,0,0,0] [35],.sub 0 [0,0,1,0,0,0,0,0,0,0] [35],.sub 0 [0,0,1,0,0,0,0,0,0] [35],.sub 0 [0,0,1,0,0,0,0,0] [35],.sub 0 [0,0,1,0,0,0,0] [35],.sub 0 [0,0,1,0,0,0] [35],.sub 0 [0,0,1,0,0] [35],.sub 0 [0,0,1,0] [35],.sub 0 [0,0,1] [35],sb [0,0],sb [0,0],.sub 0 [0,1,0,0,0,0,0,0,0,0,0,0,0] [47],.sub 0 [0,1,0,0,0,0,0,0,0,0,0,0] [47],.sub 0 [0,1,0,0,0,0,0,0,0,0,0] [47],.sub 0 [0,1,0,0,0,0,0,0,0,0] [47],.sub 0 [0,1,0,0,0,0,0,0,0] [47],.sub 0 [0,1,0,0,0,0,0,0] [47],.sub 0 [0,1,0,0,0,0,0] [47],.sub 0 [0,1,0,0,0,0] [47],.sub 0 [0,1,0,0,0] [47],.sub 0 [0,1,0,0] [47],.sub 0 [0,1,0] [47],.sub 0 [0,1] [47],sb [0],sb [0],.sub 0 [1,0,0,0,0,0,0,0,0,0,0,0] [61],.sub 0 [1,0,0,0,0,0,0,0,0,0,0] [61],.sub 0 [1,0,0,0,0,0,0,0,0,0] [61],.sub 0 [1,0,0,0,0,0,0,0,0] [61],.sub 0 [1,0,0,0,0,0,0,0] [61],.sub 0 [1,0,0,0,0,0,0] [61],.sub 0 [1,0,0,0,0,0] [61],.sub 0 [1,0,0,0,0] [61],.sub 0 [1,0,0,0] [61],.sub 0 [1,0,0] [61],.sub 0 [1,0] [61],.sub 0 [1] [61],sb [],sb []]))))))))))
def bgv:=ai (hT R24_0 K24_0 [] 5 [] [] [.cc (.s (.bool false))]) (ai av0 (ai (hK K24_0 0) (ai (hK K24_0 1) (ai (hT R24_1 [6,7,8,9] [10] 11 [] [(10,bno .neq (bnl (.t 0)) (bnl (.t 1)))] [.tt 0,sb [0],.tt 1,sb [1],sb []]) (ai (hT R24_2 [0,1,10] [4] 5 [] [(4,bnb)] [.cc (.s (.bool false))]) (ai (hT R24_3 [10] [5] 6 [] [(5,bm8 0)] [.cc (.s (.int .i64 0))]) (ai (hT R24_4 [11,12,13] [14] 15 [] [(14,bno .lss (.t 5) (bnl (.t 0)))] [.tt 5,.tt 0,sb [1],sb []]) (ai (hT R24_5 [14,17,18,19,20,21,22,23,24] [25] 26 [] [(25,bno .neq (eL (bnj 1 (.t 0) (.t 5))) (eL (bnj 1 (.t 1) (.t 5))))] [.tt 0,.tt 5,sb [0,0],sb [0],.tt 1,.tt 5,sb [1,0],sb [1],sb []]) (ai (hT R24_6 [0,1,5,25] [4] 5 [] [(4,bnb)] [.cc (.s (.bool false))]) (ai (hT R24_7 [15,16,25] [5] 17 [] [(5,bnf 1 (.t 5))] [.tt 5,sb [],sb []]) (ai (hE alm ajz) (ai (hT R24_8 [0,1,5,14] [4] 5 [] [(4,bna)] [.cc (.s (.bool true))]) (ajz.eq_1)))))))))))))
theorem bk4:yf Tryd.prog PX0 11=some (false,aq0.ntmps,aq0.results,aq0.body.bare):=by kernel_rfl
theorem bk3:yf Tryd.prog PX0 12=some (false,aqz.ntmps,aqz.results,aqz.body.bare):=by kernel_rfl
theorem bk0:yf Tryd.prog PX0 24=some (false,aqt.ntmps,aqt.results,aqt.body.bare):=by kernel_rfl
structure St (ρ:Nat) (lv:V) (ts:List Tok.T) (H:Heap) (a:Nat):Prop where
 g:getC H ρ 0=some [lv,Iz a]
 w:∃m,uj m 5 H lv (ts.map tV)
 old:∀id g n,lv=.sl id g 0 n 5->id<ρ
 lt:a<ts.length
 n:ts.length<2^21
section
variable {ρ:Nat} {lv:V} {ts:List Tok.T} {H H':Heap} {a b:Nat}
def St.ne(h:St ρ lv ts H a):∀id g n,lv=.sl id g 0 n 5->id≠ρ:=fun id g n e=>Nat.ne_of_lt (h.old id g n e)
def St.pos(h:St ρ lv ts H a):ρ<H.length:=su h.g
def St.ext(h:St ρ lv ts H a)(e:Ext H H'):St ρ lv ts H' a:=by
 obtain⟨m,w⟩:=h.w;refine⟨jd h.g e,⟨m,w.keep fun id g n hv=>?_⟩,h.old,h.lt,h.n⟩;exact e.get (w.lt id g n hv)
def St.keep(h:St ρ lv ts H a)(k:dn H.length [ρ] H H')(g:getC H' ρ 0=some [lv,Iz b])(hb:b<ts.length):St ρ lv ts H' b:=by
 obtain⟨m,w⟩:=h.w;refine⟨g,⟨m,w.keep fun id g n hv=>?_⟩,h.old,hb,h.n⟩
 exact k.2 id (w.lt id g n hv) (by rw[eu];exact h.ne id g n hv)
def St.keepL{L}(h:St ρ lv ts H a)(hL:ρ<L)(k:dn L [ρ] H H')(g:getC H' ρ 0=some [lv,Iz b])(hb:b<ts.length):St ρ lv ts H' b:=by
 obtain⟨m,w⟩:=h.w;refine⟨g,⟨m,w.keep fun id g n hv=>?_⟩,h.old,hb,h.n⟩;have:=h.old id g n hv
 exact k.2 id (by omega) (by rw[eu];omega)
def St.tok(h:St ρ lv ts H a)(hb:b<ts.length):∃id g o,pg 5 lv (.s (.int .i64 b))=some (.ref id g o)/\(∀H',Ext H H'->y5 H' true 5 (.ref id g o)=some (.agg (tV (ts.getD b tkE))))/\∀H',Ext H H'->y5 H' false 1 (.ref id g (o+3))=some (Iz (ts.getD b tkE).line):=by
 obtain⟨m,w⟩:=h.w
 have hr:(ts.map tV)[b]?=some (tV (ts.getD b tkE)):=by rw[nz,amq hb tkE];rfl
 obtain⟨x,h1,h2,h3⟩:=w.rd.at' b _ hr
 obtain⟨_,⟨e,_⟩|⟨id,g,rfl,hc,_⟩⟩:=id w
 .rw[e]at hr;cases hr
 .have hx:=h1
  rw[alh,dw ⟨by omega,by rw[aay];omega,rfl⟩]at hx
  cases hx;obtain⟨y,h4,h5⟩:=h3 3 _ rfl;rw[bcv]at h4;cases h4;exact⟨_,_,_,h1,fun H' e=>aib e h2,fun H' e=>aib e h5⟩
end
section
variable {CT:Nat->Option CFun} {ρ:Nat} {lv:V} {ts:List Tok.T} {H:Heap} {a:Nat}
def aa0(hT:CT arq=some (.code aiq))(base)(hb:base<=H.length)(h:St ρ lv ts H a):
 ∃H',gq CT (.fn arq [] []) [.ref ρ 0 0] base H=some (.agg (tV (ts.getD a tkE)),H')/\Ext H H':=by
 obtain⟨id,g,o,h1,h2,_⟩:=h.tok h.lt;obtain⟨t,ht⟩:∃t,ts.getD a tkE=t:=⟨_,rfl⟩;rw[ht]at h2 |-;have eH:∀c,Ext H (H++[Ob.cells 0 c]):=fun c=>Ext.app _ _;have hg:=fun c=>jd h.g (eH c);have hl:=fun c=>h2 _ (eH c);have hgg:∀c,getC (H++[Ob.cells 0 c]) H.length 0=some c:=fun c=>jl H 0 c;have hss:∀c d,(H++[c]).set H.length d=H++[d]:=fun c d=>uw H c d
 have ldE:abf (H++[Ob.cells 0 (tV t)]) true 5 (.ref H.length 0 0)=some (.agg (tV t)):=by
  show y5 _ true 5 _=_;rw[aav,hgg];rfl
 refine⟨H++[Ob.cells 0 (tV t)],p8 (c:=aiq) (k:=1) hT rfl (by decide) av7 ?_,eH _⟩
 simp only[tV,Iz]at hg hl h1 ldE;simp only[tV,simprocAttr,aiq,a_f16,aa,hg,h1,hl,hb,hgg,hss]
 try (rw[ldE];rfl)
def agq(hN:CT arq=some (.code aiq))(hT:CT bau=some (.code ajq))(base)(h:St ρ lv ts H a):
 ∃H',gq CT (.fn bau [] []) [.ref ρ 0 0] base H=some (bl ((Vw.of ts).same a),H')/\Ext H H':=by
 have hg:=h.g;have hlt:=h.lt;have hn:=h.n;by_cases h0:a=0
 .subst h0
  refine⟨H,qi (c:=ajq) hT (by simp[ajq]) ?_,Ext.refl _⟩
  have hc:¬((0:Nat):Int) > 0:=by omega
  simp only[Iz]at hg;simp only[Vw.of,bl,ajq,bkj,aa,reduceCtorEq,Nat.reduceEqDiff,Nat.reduceLT,Nat.reduceLeDiff,Nat.reduceBEq,hg];rfl
 .obtain⟨H',n1,n2⟩:=aa0 hN H.length (aj _) h
  obtain⟨id,g,o,h1,_,h2⟩:=h.tok (b:=a-1) (by omega)
  have h3:=h2 H (Ext.refl _)
  refine⟨H',qi (c:=ajq) hT (by simp[ajq]) ?_,n2⟩
  have hc:((a:Int) > 0):=by omega
  have hw:IntKind.i64.wrap ((a:Int)-1)=((a-1:Nat):Int):=by rw[IntKind.wrap_i64];omega
  simp only[Iz,tV]at hg n1 h1 h3;simp only[Vw.of,bl,ajq,bkj,aa,reduceCtorEq,Nat.reduceEqDiff,Nat.reduceLT,Nat.reduceLeDiff,Nat.reduceBEq,Nat.reduceAdd,hg,hc,hw,h1,h3,n1]
  have e1:(decide (a > 0)&&(ts.getD (a-1) tkE).line==(ts.getD a tkE).line)=(((ts.getD (a-1) tkE).line:Int)==((ts.getD a tkE).line:Int)):=by
   rw[yg (by omega),nk,ib,dz,dz,ap5]
  rw[e1]
def a4z(hN:CT arq=some (.code aiq))(hS:CT bau=some (.code ajq))(hT:CT bff=some (.code ahs))(base)(hb:base<=H.length)(h:St ρ lv ts H a)(s):
 ∃H',gq CT (.fn bff [] []) [.ref ρ 0 0,Sb s] base H=some (bl (isT (Vw.of ts) s.data.toList a),H')/\Ext H H':=by
 obtain⟨H1,s1,s2⟩:=agq hN hS base h
 obtain⟨H2,n1,n2⟩:=aa0 hN base (H:=H1) (by have:=s2.le;omega) (h.ext s2)
 obtain⟨H3,m1,m2⟩:=aa0 hN base (H:=H2) (by have:=s2.le;have:=n2.le;omega) (h.ext (s2.trans n2))
 obtain⟨t,ht⟩:∃t,ts.getD a tkE=t:=⟨_,rfl⟩;obtain⟨c,hc⟩:∃c,(Vw.of ts).same a=c:=⟨_,rfl⟩
 have hk:(Vw.of ts).kind a=t.kind:=by rw[<- ht];rfl
 have hx:(Vw.of ts).text a=t.text:=by rw[<- ht];rfl
 unfold isT;rw[ht]at n1 m1;rw[hc]at s1 |-;rw[hk,hx];simp only[tV,bl]at s1 n1 m1;cases c with
 |false=>
   refine⟨H1,qi (c:=ahs) hT (by simp[ahs]) ?_,s2⟩
   simp only[Sb,simprocAttr,bl,ahs,bgs,aa,s1]
 |true=>
   by_cases h3:t.kind=3
   .refine⟨H3,qi (c:=ahs) hT (by simp[ahs]) ?_,s2.trans (n2.trans m2)⟩
    have k1:(((t.kind:Nat):Int)==3)=true:=by rw[h3];rfl
    have k2:(t.kind==3)=true:=by rw[h3];rfl
    simp only[Sb,simprocAttr,bl,ahs,bgs,aa,s1,n1,m1,k1,k2]
   .refine⟨H2,qi (c:=ahs) hT (by simp[ahs]) ?_,s2.trans n2⟩
    have k1:(((t.kind:Nat):Int)==3)=false:=by rw[cz];omega
    have k2:(t.kind==3)=false:=by rw[cz];exact h3
    simp only[Sb,simprocAttr,bl,ahs,bgs,aa,s1,n1,k1,k2]
def apa(hN:CT arq=some (.code aiq))(hT:CT bfi=some (.code afq))(base)(hb:base<=H.length)(h:St ρ lv ts H a)(h1:(ts.getD a tkE).kind=1->a+1<ts.length)(s):
 ∃H',gq CT (.fn bfi [] []) [.ref ρ 0 0,Sb s] base H=some (bl (aqh (Vw.of ts) s.data.toList a),H')/\Ext H H':=by
 obtain⟨H1,n1,n2⟩:=aa0 hN base hb h;obtain⟨t,ht⟩:∃t,ts.getD a tkE=t:=⟨_,rfl⟩;obtain⟨w,hw⟩:∃w,ts.getD (a+1) tkE=w:=⟨_,rfl⟩
 have hk:(Vw.of ts).kind a=t.kind:=by rw[<- ht];rfl
 have hk':(Vw.of ts).kind (a+1)=w.kind:=by rw[<- hw];rfl
 have hx':(Vw.of ts).text (a+1)=w.text:=by rw[<- hw];rfl
 have hs':(Vw.of ts).same (a+1)=((w.line:Int)==(t.line:Int)):=by
  show(decide (a+1 > 0)&&(ts.getD (a+1-1) tkE).line==(ts.getD (a+1) tkE).line)=_
  rw[yg (by omega),nk,Nat.add_sub_cancel,ht,hw,ib,dz,dz,ap5,eq_comm]
 unfold aqh;rw[ht]at n1 h1;rw[hk,hk',hx',hs'];simp only[tV]at n1;by_cases hq:t.kind=1
 .have k1:(((t.kind:Nat):Int) != 1)=false:=by rw[bme];omega
  have k2:(t.kind==1)=true:=by rw[hq];rfl
  have hlt:=h1 hq;have h':=h.ext n2;have hg:=h'.g;have hn:=h.n
  have hwr:IntKind.i64.wrap ((a:Int)+1)=((a+1:Nat):Int):=w64 (by omega)
  obtain⟨id,g,o,y1,y2,y3⟩:=h'.tok hlt;rw[hw]at y2;have y4:=y2 H1 (Ext.refl _);obtain⟨H2,hH2⟩:∃X,H1++[Ob.cells 0 (tV w)]=X:=⟨_,rfl⟩;have e2:Ext H1 H2:=hH2▸Ext.app _ _
  have l2:H2.length=H1.length+1:=by rw[<- hH2,kw]
  have g2:getC H2 H1.length 0=some (tV w):=hH2▸jl H1 0 _;have hss:∀c d,(H1++[c]).set H1.length d=H1++[d]:=fun c d=>uw H1 c d;have hgg:∀c,getC (H1++[Ob.cells 0 c]) H1.length 0=some c:=fun c=>jl H1 0 c
  have hb1:base<=H1.length:=by have:=n2.le;omega
  obtain⟨H3,m1,m2⟩:=aa0 hN H2.length (H:=H2) (aj _) (h'.ext e2);rw[ht,l2]at m1;simp only[tV,Iz]at hg y1 y4 hH2 g2 m1;by_cases h3:w.kind=3
  .have k3:(((w.kind:Nat):Int)==3)=true:=by rw[h3];rfl
   have k4:(w.kind==3)=true:=by rw[h3];rfl
   cases hz:(w.text==s.data.toList)with
   |true=>
     refine⟨H3,qi (c:=afq) hT (by simp[afq]) ?_,n2.trans (e2.trans m2)⟩
     simp only[Sb,simprocAttr,bl,afq,bco,aa,n1,k1,k2,hg,hwr,y1,y4,hgg,hss,hb1,hH2,g2,k3,k4,hz,l2,m1]
   |false=>
     refine⟨H2,qi (c:=afq) hT (by simp[afq]) ?_,n2.trans e2⟩
     simp only[Sb,simprocAttr,bl,afq,bco,aa,n1,k1,k2,hg,hwr,y1,y4,hgg,hss,hb1,hH2,g2,k3,k4,hz]
  .have k3:(((w.kind:Nat):Int)==3)=false:=by rw[cz];omega
   have k4:(w.kind==3)=false:=by rw[cz];exact h3
   refine⟨H2,qi (c:=afq) hT (by simp[afq]) ?_,n2.trans e2⟩
   simp only[Sb,simprocAttr,bl,afq,bco,aa,n1,k1,k2,hg,hwr,y1,y4,hgg,hss,hb1,hH2,g2,k3,k4]
 .have k1:(((t.kind:Nat):Int) != 1)=true:=by rw[ny];omega
  have k2:(t.kind==1)=false:=by rw[cz];exact hq
  refine⟨H1,qi (c:=afq) hT (by simp[afq]) ?_,n2⟩
  simp only[Sb,simprocAttr,bl,afq,bco,aa,n1,k1,k2]
end
end Go.Proofs.YtbocmenkkjbigaaDoor
namespace Go.AM
open Go.RowKit
section
variable {call:o8} {pan:ay7} {it it':zn} {base:Nat} {CP:Nat->Option CFun} {PP:Nat->List V->Nat->Heap->aco->Prop} {X:Nat->Bool}
def aja{vs k n}(hk:vs.length=k)(hl:k<=n):AgD (List.range' k (n-k)) (ja n (uq n vs 0)) (ja n (abh vs 0)):=by
 refine⟨by rw[xe,xe],fun s hs=>?_⟩
 by_cases hn:s<n
 .rw[afd hn,afd hn]
  have hs':s<k:=by
   apply Nat.lt_of_not_le;intro h;apply hs;rw[List.mem_range']
   exact⟨s-k,by omega,by omega⟩
  rw[akr _ _ 0 s (jo _) hn (by omega),dw (by omega),an1 _ 0 s (jo _) (by omega)]
 .simp[ja,List.getD,hn]
def aye{post}(i):∀{pre:List AOper} {fr fr1:List V} {H H1:Heap},mg call base pre fr H=some (fr1,H1)->aok call base (pre.length+i) (pre++post) fr H=aok call base i post fr1 H1:=by
 intro pre
 induction pre with
 |nil=>
   intro fr fr1 H H1 h;cases h;rw[d9,ng];rfl
 |cons o os ih=>
   intro fr fr1 H H1 h
   rw[bn,show os.length+1+i=(os.length+i)+1 by omega]
   show aok call base ((os.length+i)+1) (o::(os++post)) fr H=_;simp only[mg]at h;simp only[aok];cases hw:want o fr with
   |none=>rw[hw]at h;cases h
   |some b=>
     rw[hw]at h;cases b with
     |false=>exact ih h
     |true=>
       simp only at h |-;cases he:l8 call base fr H o.op with
       |none=>rw[he]at h;cases h
       |some p=>
         obtain⟨v,H'⟩:=p;rw[he]at h;exact ih h
def om{a b fr fr1 H H1}(h:evC call it base a fr H=some (.nrm,fr1,H1)):evC call it base (.seq a b) fr H=evC call it base b fr1 H1:=by simp only[evC,h]
def agj{i a fr fr1 H H1}(h:evC call it base a fr H=some (.nrm,fr1,H1)):evC call it base (.block i a) fr H=some (.nrm,fr1,H1):=by simp only[evC,h]
def ayx{i j a fr fr1 H H1}(hj:(j==i)=false)(h:evC call it base a fr H=some (.ext j,fr1,H1)):evC call it base (.block i a) fr H=some (.ext j,fr1,H1):=by simp[evC,h,cz.1 hj]
def ar2{i a fr fr1 H H1}(h:evC call it base a fr H=some (.ret,fr1,H1)):evC call it base (.block i a) fr H=some (.ret,fr1,H1):=by simp only[evC,h]
def ai3{c a b fr H}(h:ev fr c=.s (.bool true)):evC call it base (.cond c a b) fr H=evC call it base a fr H:=by simp only[evC,h]
def amf{c a b fr H}(h:ev fr c=.s (.bool false)):evC call it base (.cond c a b) fr H=evC call it base b fr H:=by simp only[evC,h]
theorem mi(u v args b H):abl u v args b H=some (u,H):=rfl
def ai4{A B o chk kill fr f1 f2 f3 H H1 H2 H3}(hA:mg call base A fr H=some (f1,H1))(ho:mg call base [o] f1 H1=some (f2,H2))(hB:mg call base B f2 H2=some (f3,H3))(hc:o.op.isCallB=true)(hchk:∀p∈chk,p.2=A.length/\∃q,a4f f3 ((A++o::B).getD p.1 default).op=some q/\∀id,q=some id->H2[id]?=H1[id]?):evC call it base (.region (A++o::B) chk kill) fr H=some (.nrm,ut kill f3,H3):=by
 have h2:mg call base (A++[o]) fr H=some (f2,H2):=by rw[agi,hA];exact ho
 have h3:mg call base (A++o::B) fr H=some (f3,H3):=by
  rw[show A++o::B=(A++[o])++B by simp,agi,h2];exact hB
 refine ayw h3 ?_;rw[bq];intro p hp;obtain⟨e,q,hq,hk⟩:=hchk p hp
 have t1:(A++o::B).take p.2=A:=by rw[e];simp
 have t2:(A++o::B).take (p.2+1)=A++[o]:=by
  rw[e,show A++o::B=(A++[o])++B by simp,show A.length+1=(A++[o]).length by simp,List.take_left]
 have t3:(A++o::B).getD p.2 default=o:=by rw[e];simp
 have key:ado call base (A++o::B) fr H f3 p.2 p.1=true:=by
  unfold ado;rw[t1,t2,hA,h2,hq];cases q with
  |none=>rfl
  |some id=>exact @yg _ (Classical.propDecidable _) (hk id rfl)
 simp only[zm,t3,hc,key,lq,afm]
def atc{C:aev}{ops pre post chk kill fr fr1 H H1 d f xs}{r:aco}(u)(hC:C ops fr)(e:ops=pre++⟨d,.call f xs,none⟩::post)(h1:mg call base pre fr H=some (fr1,H1))(h2:pan (ev fr1 f) (xs.map (ev fr1)) base H1 r)(h3:(evC (abl u) it' base (.region ops chk kill) fr H).isSome=true):ads call pan it base C (.region ops chk kill) fr H r:=by
 refine⟨hC,⟨pre.length+0,_,_,_,?_,h2⟩,?_⟩
 .rw[e,aye 0 h1];rfl
 .simp only[evC]at h3;cases he:mg (abl u) base ops fr H with
  |none=>rw[he]at h3;cases h3
  |some p=>
    obtain⟨fr',H'⟩:=p;rw[he]at h3;simp only at h3;refine⟨u,fr',H',he,?_⟩;cases hc:chk.all (zm (abl u) base ops fr H fr')with
    |true=>rfl
    |false=>rw[hc]at h3;cases h3
def rz{ops pre post chk kill fr fr1 H H1 d f xs}{r:aco}(u)(e:ops=pre++⟨d,.call f xs,none⟩::post)(h1:mg call base pre fr H=some (fr1,H1))(h2:pan (ev fr1 f) (xs.map (ev fr1)) base H1 r)(h3:(evC (abl u) it' base (.region ops chk kill) fr H).isSome=true):ads call pan it base (fun _ _=>True) (.region ops chk kill) fr H r:=by
 refine⟨trivial,⟨pre.length+0,_,_,_,?_,h2⟩,?_⟩
 .rw[e,aye 0 h1];rfl
 .simp only[evC]at h3;cases he:mg (abl u) base ops fr H with
  |none=>rw[he]at h3;cases h3
  |some p=>
    obtain⟨fr',H'⟩:=p;rw[he]at h3;simp only at h3;refine⟨u,fr',H',he,?_⟩;cases hc:chk.all (zm (abl u) base ops fr H fr')with
    |true=>rfl
    |false=>rw[hc]at h3;cases h3
def atd{ops pre1 pre2 post chk kill fr fr1 fr3 H H1 H2 H3 d d1 f f1 xs xs1 v}{r:aco}(u)(e:ops=pre1++⟨d1,.call f1 xs1,none⟩::(pre2++⟨d,.call f xs,none⟩::post))(h1:mg call base pre1 fr H=some (fr1,H1))(c1:call (ev fr1 f1) (xs1.map (ev fr1)) base H1=some (v,H2))(h2:mg call base pre2 (put d1 v fr1) H2=some (fr3,H3))(hp:pan (ev fr3 f) (xs.map (ev fr3)) base H3 r)(h3:(evC (abl u) it' base (.region ops chk kill) fr H).isSome=true):ads call pan it base (fun _ _=>True) (.region ops chk kill) fr H r:=by
 have e':ops=(pre1++⟨d1,.call f1 xs1,none⟩::pre2)++⟨d,.call f xs,none⟩::post:=by rw[e,ku,bg]
 refine rz (it':=it') (pre:=pre1++⟨d1,.call f1 xs1,none⟩::pre2) (post:=post) (d:=d) (fr1:=fr3) (H1:=H3) u e' ?_ hp h3;rw[an7,h1];simp only[mg,want,l8,c1];exact h2
def zl{C:aev}{c a b fr H}{r:aco}(hc:ev fr c=.s (.bool true))(h:ads call pan it base C a fr H r):ads call pan it base C (.cond c a b) fr H r:=.inl ⟨hc,h⟩
def adi{C:aev}{c a b fr H}{r:aco}(hc:ev fr c=.s (.bool false))(h:ads call pan it base C b fr H r):ads call pan it base C (.cond c a b) fr H r:=.inr ⟨hc,h⟩
def xk{f}{c:ACFun}(hX:X f=true)(hf:CP f=some (.code c)){fst args cap k}(hk:(fst++args++cap).length=k)(hl:k<=c.ntmps)(hfirst:ql (List.range' k (c.ntmps-k)) c.body=true){H H1 fr1}{r:aco}{a b}(hb:c.body=.seq a b)(h1:evC (gq CP) itW base a (ja c.ntmps (abh (fst++args++cap) 0)) H=some (.nrm,fr1,H1))(h2:ads (gq CP) (ase CP PP X) itW base (fun _ _=>True) b fr1 H1 r):ase CP PP X (.fn f fst cap) args base H r:=by
 refine adh hX hf (by omega) ?_
 rw[hb];refine jq ?_ h2;rw[hb]at hfirst;rw[ab7 a H hfirst (aja hk hl)];exact h1
def a3c{f}{c:ACFun}(hX:X f=true)(hf:CP f=some (.code c)){fst args cap k}(hk:(fst++args++cap).length=k)(hl:k<=c.ntmps)(hfirst:ql (List.range' k (c.ntmps-k)) c.body=true){H H1 fr1}{r:aco}{a b d}(hb:c.body=.seq (.seq a b) d)(h1:evC (gq CP) itW base a (ja c.ntmps (abh (fst++args++cap) 0)) H=some (.nrm,fr1,H1))(h2:ads (gq CP) (ase CP PP X) itW base (fun _ _=>True) b fr1 H1 r):ase CP PP X (.fn f fst cap) args base H r:=by
 refine adh hX hf (by omega) ?_
 rw[hb];refine qw (jq ?_ h2);rw[hb]at hfirst;rw[ab7 a H hfirst (aja hk hl)];exact h1
def aa2{f}{c:ACFun}(hX:X f=true)(hf:CP f=some (.code c)){fst args cap k}(hk:(fst++args++cap).length=k)(hl:k<=c.ntmps)(hfirst:ql (List.range' k (c.ntmps-k)) c.body=true){H H1 fr1}{r:aco}{ops pre post kill d g xs}(hb:c.body=.region ops [] kill\/∃b,c.body=.seq (.region ops [] kill) b)(u)(e:ops=pre++⟨d,.call g xs,none⟩::post)(h1:mg (gq CP) base pre (ja c.ntmps (uq c.ntmps (fst++args++cap) 0)) H=some (fr1,H1))(h2:ase CP PP X (ev fr1 g) (xs.map (ev fr1)) base H1 r)(h3:(evC (abl u) itW base (.region ops [] kill) (ja c.ntmps (abh (fst++args++cap) 0)) H).isSome=true):ase CP PP X (.fn f fst cap) args base H r:=by
 refine adh hX hf (by omega) ?_
 have hfr:ql (List.range' k (c.ntmps-k)) (.region ops [] kill)=true:=by
  rcases hb with hb|⟨b,hb⟩<;>(rw[hb]at hfirst;exact hfirst)
 have key:ads (gq CP) (ase CP PP X) itW base (fun _ _=>True) (.region ops [] kill) (ja c.ntmps (uq c.ntmps (fst++args++cap) 0)) H r:=by
  refine rz (it':=itW) u e h1 h2 ?_;rw[ab7 (.region ops [] kill) H hfr (aja hk hl)];exact h3
 rcases hb with hb|⟨b,hb⟩
 .rw[hb];exact key
 .rw[hb];exact qw key
def a3d{f}{c:ACFun}(hX:X f=true)(hf:CP f=some (.code c)){fst args cap}(hl:(fst++args++cap).length<=c.ntmps){H}{r:aco}{a}(hb:c.body=a\/∃b,c.body=.seq a b)(key:ads (gq CP) (ase CP PP X) itW base (fun _ _=>True) a (ja c.ntmps (uq c.ntmps (fst++args++cap) 0)) H r):ase CP PP X (.fn f fst cap) args base H r:=by
 refine adh hX hf hl ?_
 rcases hb with hb|⟨b,hb⟩
 .rw[hb];exact key
 .rw[hb];exact qw key
def a0p{c:ACFun}{vs k}(hk:vs.length=k)(hl:k<=c.ntmps)(hfirst:ql (List.range' k (c.ntmps-k)) c.body=true){a}(hb:c.body=a\/∃b,c.body=.seq a b){H}(h:(evC call it base a (ja c.ntmps (abh vs 0)) H).isSome=true):(evC call it base a (ja c.ntmps (uq c.ntmps vs 0)) H).isSome=true:=by
 have hfr:ql (List.range' k (c.ntmps-k)) a=true:=by
  rcases hb with hb|⟨b,hb⟩<;>(rw[hb]at hfirst;exact hfirst)
 rw[ab7 a H hfr (aja hk hl)];exact h
end
end Go.AM
set_option maxRecDepth 100000
namespace Go.Proofs.YtbocmenkkjbigaaDoor
open Go.AM
abbrev acy:Nat:=57
abbrev tk0:List V:=[V.s (.int .u8 0),.s (.string ⟨#[]⟩),.s (.int .i64 0),.s (.int .i64 0),.s (.int .i64 0)]
def bj5(CT:Nat->Option CFun):Nat->List V->Nat->Heap->aco->Prop:=fun k vs base H r=>k=bjr/\∃v cs H1 n,vs=[v]/\aao CT n (.fn arq [] []) [v] base H=some (.agg cs,H1)/\cs.length=5/\cs.all V.one=true/\r=(acy,.agg cs,H1)
def Xr:Nat->Bool:=fun k=>[a4v,bay,bax,aoz,a4x,arn,aw2,arl,aw1,aw0,arp,aro,aw5,aw4,aw3,at1,at6].contains k
abbrev Pn(CT:Nat->Option CFun):ay7:=ase CT (bj5 CT) Xr
structure Wf (ts:List Tok.T):Prop where
 nx:∀a,a<ts.length->(ts.getD a tkE).kind≠4->a+1<ts.length
 nm:∀a,a<ts.length->(ts.getD a tkE).kind=1->(ts.getD a tkE).text≠[]
structure RdT (CT:Nat->Option CFun):Prop where
 now:CT arq=some (.code aiq)
 same:CT bau=some (.code ajq)
 is':CT bff=some (.code ahs)
 second:CT bfi=some (.code afq)
 take:CT a4v=some (.code anc)
 name:CT aoz=some (.code aoo)
 sign:CT bay=some (.code anf)
 begin':CT bax=some (.code ajv)
def dn.of_ext{H H' ρ}(e:Ext H H'):dn H.length [ρ] H H':=e.d _
def dn.setr{H H' ρ}(k:dn H.length [ρ] H H')(ob):dn H.length [ρ] H (H'.set ρ ob):=⟨by rw[fe];exact k.1,fun id h1 h2=>by
 rw[eu]at h2;rw[ae (sj h2)]
 exact k.2 id h1 (by rw[eu];exact h2)⟩
def dn.setn{H H' ρ q}(k:dn H.length [ρ] H H')(hq:H.length<=q)(ob):dn H.length [ρ] H (H'.set q ob):=⟨by rw[fe];exact k.1,fun id h1 h2=>by
 rw[ae (by omega)]
 exact k.2 id h1 h2⟩
def dn.then'{A B C ρ}(h:dn A.length [ρ] A B)(k:dn B.length [ρ] B C):dn A.length [ρ] A C:=dn.trans h k h.1
section
variable {CT:Nat->Option CFun} {ρ:Nat} {lv:V} {ts:List Tok.T} {H:Heap} {a:Nat}
def ace(hN:CT arq=some (.code aiq))(base)(hb:base<=H.length)(h:St ρ lv ts H a):
 ∃H',Pn CT (.fn bjr [] []) [.ref ρ 0 0] base H (acy,.agg (tV (ts.getD a tkE)),H')/\Ext H H':=by
 obtain⟨H',n1,n2⟩:=aa0 hN base hb h;obtain⟨n,hn⟩:=afg n1;exact⟨H',a3e ⟨rfl,_,_,_,n,rfl,hn,rfl,rfl,rfl⟩,n2⟩
theorem a1q(hR:RdT CT)(base)(hb:base<=ρ)(h:St ρ lv ts H a)(k)(hk:((Vw.of ts).same a&&(Vw.of ts).kind a==k)=true):
 ∃H',gq CT (.fn a4v [] []) [.ref ρ 0 0,.s (.int .u8 k)] base H=some (.agg (tV (ts.getD a tkE)),H')/\dn H.length [ρ] H H'/\getC H' ρ 0=some [lv,Iz (a+1:Nat)]:=by
 rw[au,dz]at hk;obtain⟨k1,k2⟩:=hk;have hρ:=h.pos;have hlt:=h.lt;have hn:=h.n;obtain⟨H0,hH0⟩:∃X,H++[Ob.cells 0 tk0]=X:=⟨_,rfl⟩;have e0:Ext H H0:=hH0▸Ext.app _ _
 have l0:H0.length=H.length+1:=by rw[<- hH0,kw]
 have g0:getC H0 H.length 0=some tk0:=hH0▸jl H 0 _;obtain⟨H1,s1,s2⟩:=agq hR.now hR.same base (h.ext e0);rw[k1]at s1
 obtain⟨H2,n1,n2⟩:=aa0 hR.now base (H:=H1) (by have:=s2.le;omega) (h.ext (e0.trans s2))
 obtain⟨t,ht⟩:∃t,ts.getD a tkE=t:=⟨_,rfl⟩
 have hkt:t.kind=k:=by rw[<- ht];exact k2
 have e2:Ext H H2:=e0.trans (s2.trans n2);have h2:=h.ext e2;have g2:=h2.g;have gb:getC H2 H.length 0=some tk0:=jd g0 (s2.trans n2);obtain⟨H3,hH3⟩:∃X,H2.set ρ (Ob.cells 0 [lv,Iz (a+1:Nat)])=X:=⟨_,rfl⟩;have g3:getC H3 ρ 0=some [lv,Iz (a+1:Nat)]:=hH3▸kz g2 _
 have gb3:getC H3 H.length 0=some tk0:=by
  unfold getC
  rw[<- hH3,ae (by omega)]
  exact gb
 have K3:dn H.length [ρ] H H3:=hH3▸dn.setr (dn.of_ext e2) _;obtain⟨id,g,o,y1,y2,_⟩:=h2.tok h2.lt;have hne:=h.ne;obtain⟨m,w⟩:=h2.w
 have y3:y5 H3 true 5 (.ref id g o)=some (.agg (tV t)):=by
  have hz:=y2 H2 (Ext.refl _)
  have:getC H3 id g=getC H2 id g:=by
   unfold getC
   obtain⟨_,⟨e,_⟩|⟨id',g',rfl,hc,_⟩⟩:=w
   .have:=h.lt;rw[bmh]at e;rw[e]at this;cases this
   .rw[alh]at y1;split at y1
    .cases y1
     rw[<- hH3,ae (by have:=hne _ _ _ rfl;omega)]
    .cases y1
  rw[aav]at hz |-;rw[this,hz,ht]
 obtain⟨H4,hH4⟩:∃X,H3.set H.length (Ob.cells 0 (tV t))=X:=⟨_,rfl⟩
 have g4:getC H4 ρ 0=some [lv,Iz (a+1:Nat)]:=by
  unfold getC at g3 |-
  rw[<- hH4,ae (by omega)]
  exact g3
 have gb4:getC H4 H.length 0=some (tV t):=hH4▸kz gb3 _
 have ldE:abf H4 true 5 (.ref H.length 0 0)=some (.agg (tV t)):=by
  show y5 _ true 5 _=_;rw[aav,gb4];rfl
 have w1:IntKind.i64.wrap ((a:Int)+1)=((a+1:Nat):Int):=w64 (by omega)
 have w2:IntKind.i64.wrap (((a+1:Nat):Int)-1)=(a:Int):=by rw[IntKind.wrap_i64];omega
 have hbH:base<=H.length:=by omega
 have hne1:(((t.kind:Nat):Int) != ((k:Nat):Int))=false:=by rw[bme,hkt]
 have b4:(((t.kind:Nat):Int) != ((t.kind:Nat):Int))=false:=by simp
 refine⟨H4,p8 (c:=anc) (k:=2) hR.take rfl (by decide) anb ?_,hH4▸dn.setn K3 (aj _) _,g4⟩
 rw[ht]at n1;simp only[tV,tk0,Iz,bl]at s1 n1 g2 hH3 g3 y1 y3 hH4 ldE gb gb3 hH0;subst hkt;simp only[tV,simprocAttr,anc,a7b,aa,hH0,s1,n1,g2,w1,hb,hbH,hH3,g3,w2,y1,y3,gb3,hH4];rw[ldE,ht];rfl
def axz(hR:RdT CT)(base)(hb:base<=ρ)(h:St ρ lv ts H a)(k)(hk:((Vw.of ts).same a&&(Vw.of ts).kind a==k)=false):
 ∃H',Pn CT (.fn a4v [] []) [.ref ρ 0 0,.s (.int .u8 k)] base H (acy,.agg (tV (ts.getD a tkE)),H')/\Ext H H':=by
 have hρ:=h.pos;obtain⟨H0,hH0⟩:∃X,H++[Ob.cells 0 tk0]=X:=⟨_,rfl⟩;have e0:Ext H H0:=hH0▸Ext.app _ _;obtain⟨H1,s1,s2⟩:=agq hR.now hR.same base (h.ext e0);obtain⟨c,hc⟩:∃c,(Vw.of ts).same a=c:=⟨_,rfl⟩;rw[hc]at s1 hk
 obtain⟨H2,r1,e2⟩:∃H2,evC (gq CT) itW base (.region R49_1 [] [1,5,6,7,8,9,10,11,12,13]) (ja 35 [(0,.ref ρ 0 0),(1,.s (.int .u8 k)),(4,.ref H.length 0 0)]) H0=some (.nrm,ja 35 [(0,.ref ρ 0 0),(4,.ref H.length 0 0),(14,bl true)],H2)/\Ext H0 H2:=by
  cases c with
  |false=>
    refine⟨H1,?_,s2⟩;simp only[bl]at s1;simp only[bl,simprocAttr,a7b,aa,s1]
  |true=>
    obtain⟨H2,n1,n2⟩:=aa0 hR.now base (H:=H1) (by have:=s2.le;have:=e0.le;omega) (h.ext (e0.trans s2))
    obtain⟨t,ht⟩:∃t,ts.getD a tkE=t:=⟨_,rfl⟩
    have hkt:(((t.kind:Nat):Int) != ((k:Nat):Int))=true:=by
     rw[nk,cz]at hk;rw[ny,<- ht];intro e;exact hk (ap5.1 e)
    rw[ht]at n1;refine⟨H2,?_,s2.trans n2⟩;simp only[tV,bl]at s1 n1;simp only[bl,simprocAttr,a7b,aa,s1,n1,hkt]
 obtain⟨H3,f1,f2⟩:=ace hR.now base (H:=H2) (by have:=e0.le;have:=e2.le;omega) (h.ext (e0.trans e2))
 refine⟨H3,xk (c:=anc) (k:=2) rfl hR.take rfl (by decide) anb rfl (H1:=H0) (fr1:=ja 35 [(0,.ref ρ 0 0),(1,.s (.int .u8 k)),(4,.ref H.length 0 0)]) ?_ (qw (jq r1 (zl rfl (rz (it':=itW) (pre:=R49_2p0) (post:=[]) (.tup []) rfl rfl f1 ?_)))),e0.trans (e2.trans f2)⟩
 .simp only[tk0]at hH0;simp only[anc,simprocAttr,a7b,aa,hH0]
 .simp only[bl,simprocAttr,a7b,aa,mi]
end
def RdC{α:Type}(CT:Nat->Option CFun)(base k:Nat)(args:List V)(ρ:Nat)(lv:V)(ts:List Tok.T)(D:List Nat)(H:Heap)(res:Except Nat (α × Nat))(Q:α->V->Heap->Prop):Prop:=match res with
 |.ok (x,b)=>b<ts.length/\∃v H',gq CT (.fn k [] []) args base H=some (v,H')/\dn H.length D H H'/\getC H' ρ 0=some [lv,Iz b]/\Q x v H'
 |.error e=>e<ts.length/\∃H',Pn CT (.fn k [] []) args base H (acy,.agg (tV (ts.getD e tkE)),H')/\dn H.length D H H'
section
variable {CT:Nat->Option CFun} {ρ:Nat} {lv:V} {ts:List Tok.T} {H:Heap} {a:Nat}
def acd(hR:RdT CT)(wf:Wf ts)(base)(hb:base<=ρ)(h:St ρ lv ts H a):RdC CT base aoz [.ref ρ 0 0] ρ lv ts [ρ] H (q9 (Vw.of ts) a) (fun s v _=>v=Sb s):=by
 unfold q9;obtain⟨t,ht⟩:∃t,ts.getD a tkE=t:=⟨_,rfl⟩;by_cases hk:((Vw.of ts).same a&&(Vw.of ts).kind a==1)=true
 .rw[dw hk];obtain⟨H',c1,c2,c3⟩:=a1q hR base hb h 1 hk;rw[au,dz]at hk
  refine⟨wf.nx a h.lt (by rw[show(ts.getD a tkE).kind=1 from hk.2];decide),Sb (bOf ((Vw.of ts).text a)),H',qi (c:=aoo) hR.name (by simp[aoo]) ?_,c2,c3,rfl⟩
  have hx:(Vw.of ts).text a=t.text:=by rw[<- ht];rfl
  have c1n:((1:Nat):Int)=1:=rfl;rw[ht]at c1;rw[hx];simp only[tV,c1n]at c1;simp only[bOf,simprocAttr,Sb,aoo,bgu,aa,c1]
 .rw[fu hk];rw[oh]at hk;obtain⟨H',c1,c2⟩:=axz hR base hb h 1 hk;refine⟨h.lt,H',?_,dn.of_ext c2⟩
  refine adh rfl hR.name (by simp[aoo]) (jq (H1:=H) (fr1:=ja 6 [(0,.ref ρ 0 0)]) ?_ (qw (rz (it':=itW) (pre:=R34_1p0) (post:=R34_1t2) (.agg tk0) rfl rfl c1 ?_)))
  .simp only[aoo,simprocAttr,bgu,aa]
  .simp only[tk0,simprocAttr,bgu,aa,mi]
def aca(hR:RdT CT)(wf:Wf ts)(base)(hb:base<=ρ)(h:St ρ lv ts H a)(s):RdC CT base bay [.ref ρ 0 0,Sb s] ρ lv ts [ρ] H (ul (Vw.of ts) s.data.toList a) (fun _ v _=>v=.tup []):=by
 unfold ul;have hρ:=h.pos;have hn:=h.n;have hlt:=h.lt
 obtain⟨H1,c1,c2⟩:=a4z hR.now hR.same hR.is' base (by omega) h s
 by_cases hk:isT (Vw.of ts) s.data.toList a=true
 .rw[dw hk];rw[hk]at c1
  have hk3:(Vw.of ts).kind a=3:=by
   unfold isT at hk;rw[au,au,dz]at hk;exact hk.1.2
  have g1:=(h.ext c2).g
  have w1:IntKind.i64.wrap ((a:Int)+1)=((a+1:Nat):Int):=w64 (by omega)
  refine⟨wf.nx a h.lt (by rw[show(ts.getD a tkE).kind=3 from hk3];decide),.tup [],H1.set ρ (.cells 0 [lv,Iz (a+1:Nat)]),p8 (c:=anf) (k:=2) hR.sign rfl (by decide) ane ?_,dn.setr (dn.of_ext c2) _,kz g1 _,rfl⟩
  simp only[Iz,bl,Sb]at c1 g1;simp only[Iz,simprocAttr,Sb,anf,bgt,aa,c1,g1,w1,hb]
  try rfl
 .rw[fu hk];rw[oh]at hk;rw[hk]at c1
  obtain⟨H2,f1,f2⟩:=ace hR.now base (H:=H1) (by have:=c2.le;omega) (h.ext c2)
  refine⟨h.lt,H2,?_,dn.of_ext (c2.trans f2)⟩;simp only[bl,Sb]at c1
  refine a3c (c:=anf) (k:=2) rfl hR.sign rfl (by decide) ane rfl (H1:=H1) (fr1:=ja 17 [(0,.ref ρ 0 0),(7,bl true)]) ?_ (zl rfl (rz (it':=itW) (pre:=R36_1p0) (post:=[]) (.tup []) rfl rfl f1 ?_))
  .simp only[Sb,simprocAttr,bl,anf,bgt,aa,c1]
  .simp only[bl,simprocAttr,bgt,aa,mi]
def aut(hR:RdT CT)(base)(hb:base<=ρ)(h:St ρ lv ts H a):RdC CT base bax [.ref ρ 0 0] ρ lv ts [ρ] H (bl2 (Vw.of ts) a) (fun _ v _=>v=.tup []):=by
 unfold bl2 ap0;have hρ:=h.pos;obtain⟨t,ht⟩:∃t,ts.getD a tkE=t:=⟨_,rfl⟩
 have hkt:(Vw.of ts).kind a=t.kind:=by rw[<- ht];rfl
 obtain⟨c,hc⟩:∃c,(Vw.of ts).same a=c:=⟨_,rfl⟩;obtain⟨H1,s1,s2⟩:=agq hR.now hR.same base h
 obtain⟨H2,n1,n2⟩:=aa0 hR.now base (H:=H1) (by have:=s2.le;omega) (h.ext s2)
 rw[hc]at s1 |-;rw[hkt];rw[ht]at n1;simp only[tV,bl]at s1 n1;cases c with
 |false=>
   rw[fu (by rw[ll];decide)]
   refine⟨h.lt,.tup [],H1,p8 (c:=ajv) (k:=1) hR.begin' rfl (by decide) aht ?_,dn.of_ext s2,(h.ext s2).g,rfl⟩
   simp only[ajv,simprocAttr,bcp,aa,s1]
   try rfl
 |true=>
   by_cases h4:t.kind=4
   .rw[fu (by rw[h4];decide)]
    have k1:(((t.kind:Nat):Int) != 4)=false:=by rw[h4];rfl
    refine⟨h.lt,.tup [],H2,p8 (c:=ajv) (k:=1) hR.begin' rfl (by decide) aht ?_,dn.of_ext (s2.trans n2),(h.ext (s2.trans n2)).g,rfl⟩
    simp only[ajv,simprocAttr,bcp,aa,s1,n1,k1]
    try rfl
   .rw[dw (by rw[nk,ny];exact h4)]
    have k1:(((t.kind:Nat):Int) != 4)=true:=by rw[ny];omega
    obtain⟨H3,f1,f2⟩:=ace hR.now base (H:=H2) (by have:=s2.le;have:=n2.le;omega) (h.ext (s2.trans n2))
    refine⟨h.lt,H3,?_,dn.of_ext (s2.trans (n2.trans f2))⟩
    refine xk (c:=ajv) (k:=1) rfl hR.begin' rfl (by decide) aht rfl (H1:=H2) (fr1:=ja 12 [(0,.ref ρ 0 0),(9,bl true)]) ?_ (zl rfl (rz (it':=itW) (pre:=R37_1p0) (post:=[]) (.tup []) rfl rfl f1 ?_))
    .simp only[bl,simprocAttr,ajv,bcp,aa,s1,n1,k1]
    .simp only[bl,simprocAttr,bcp,aa,mi]
end
end Go.Proofs.YtbocmenkkjbigaaDoor
