/- Texts of the proof: RdS1, RdtF1, RdtF2, TokQ, RdtF3, TokG, RdtF4, RdtF5, RdtF6, RdtF7, RdS2, RdS3, RdS4, RdC1, AmPs, RdC2, RdC3. -/
import Derived.Test.YtbocmenkkjbigaaDoorP0
import Derived.Test.YtbocmenkkjbigaaDoorP1
import Derived.Test.YtbocmenkkjbigaaDoorP2
import Derived.KernelRfl
import Derived.Test.YtbocmenkkjbigaaDoorProg
import Derived.Lib.Atoi
import Derived.Lib.Bytealg
set_option linter.all false
set_option maxRecDepth 100000
namespace Go.Proofs.YtbocmenkkjbigaaDoor
open Go.dO
abbrev BX:Nat:=13
def v8:=[1,2]++List.range' 4 102
def WU:=[c0 4 (b1 0)]
def Jc:=q 3 (.alloc [dc,dc])::WU
def Jx:=[c0 2 rM]
def Rt:=Jx++Jc
def A5:=List.range' 1 105
def aEm(call:c5)(it:gS)(base f H):aC call it base (.region Rt [] v8) f H=Em call it base Jc v8 H (iO (lZ Jx A5 []) A5 f H) (Aq call it base Rt v8 f H):=MX call it base Jx Jc (by kernel_rfl) f H
def alv:=[ai 11 0,q 12 (.dD .p (.t 11)),q 13 (.bin .gtr (.t 12) (b1 1048576))]
def abi:=[c0 4 (b1 2)]
def abC:=dt 2 3 14::abi
def awh:=[q 14 (.build [dc,dc] [(0,1),(1,1)] []),c0 2 rM]
def abt:=awh++abC
def ain:=[dt 1 5 18]
def aix:=q 5 (.alloc [.s (.pointer none)])::ain
def aj8:=q 18 (.box (.t 17))::aix
def aEb:=[q 15 (.build [dc,dc] [(0,1),(1,1)] [(0,b1 1),(1,b1 1)]),ai 16 0,q 17 (.build [dc,dc,cm,dc] [(0,2),(2,1),(3,1)] [(0,.t 15),(1,.t 16)])]
def UW:=aEb++aj8
def TO:=[q 6 (.alloc [dV])]
def afQ:=[q 19 (.mu 25 [] [.t 6,.t 5]),ai 7 19]
def Vx:=[cL 20 5,fb 21 20,b2 22 3 21,cL 23 22,ai 24 0,q 25 (.dD .p (.t 24)),q 26 (.bin .lss (.t 23) (.t 25))]
def an9:=[ai 27 0,cL 28 5,fb 29 28,b2 30 3 29,cL 31 30,q 32 (.h6 (.t 27) (.t 31)),ai 8 32]
def aiQ:=[q 40 (.bin .geq (.t 39) (b1 0)),ai 37 40]
def acs:=c2 39 27 [cv #[32,9,13,10],.t 38]::aiQ
def azw:=[ai 38 8]
def TM:=azw++acs
def ZW:=[c2 42 26 [.t 41,b1 1]]
def aGt:=[cL 41 5]
def Xs:=aGt++ZW
def ae9:=[ai 44 8,q 45 (.bin .eql (.t 44) (cK 59)),ai 43 45]
def amn:=[c2 49 26 [.t 46,.t 48]]
def Zj:=q 48 (.oe (.c (.fn 28 [] [])) [.t 47,.c (.fn 29 [] [])])::amn
def aoy:=[cL 46 5,cL 47 5]
def amD:=aoy++Zj
def Za:=[ai 50 52]
def aeR:=c2 52 30 [.t 51]::Za
def ayf:=[ai 51 8]
def acv:=ayf++aeR
def ab7:=[q 56 (.call (.t 53) [cK 1,.t 55])]
def Z9:=c2 55 28 [.t 54,.c (.fn 31 [] [])]::ab7
def avk:=[ai 53 7,cL 54 5]
def Yw:=avk++Z9
def agt:=[ai 57 59]
def ahe:=c2 59 32 [.t 58]::agt
def aIm:=[ai 58 8]
def V8:=aIm++ahe
def amd:=[ai 9 61]
def abk:=c2 61 28 [.t 60,.c (.fn 32 [] [])]::amd
def ao2:=[cL 60 5]
def aa7:=ao2++abk
def Vk:=[da 75 9 72 false,bQ 76 (.bin .gtr (.t 74) (.t 75)) 72 false,ev 77 (.t 72) gk (.t 76)]
def Zw:=bQ 74 (.call (.c (.fn 28 [] [])) [.t 73,.c (.fn 31 [] [])]) 72 false::Vk
def als:=e7 73 5 72 false::Zw
def asS:=[ai 62 9,q 63 (.bin .gtr (.t 62) (b1 9)),ai 64 63,da 65 9 64 false,bQ 66 (.bin .gtr (.t 65) (b1 1)) 64 false,da 67 66 64 false,da 68 8 67 true,bQ 69 (.bin .eql (.t 68) (cK 48)) 67 true,bQ 70 (.pick (.t 67) (.t 69) dP) 64 false,ev 71 (.t 64) gk (.t 70),ai 72 71]
def Xd:=asS++als
def US:=[c0 4 (b1 31)]
def aap:=dt 2 3 81::US
def aqo:=[cL 78 5,fb 79 78,b2 80 0 79,q 81 (.load true 2 (.t 80)),c0 2 rM]
def abl:=aqo++aap
def ahT:=[ai 10 84]
def agQ:=q 84 (.call (.t 82) [cK 2,.t 83])::ahT
def auq:=[ai 82 7,ai 83 9]
def aaE:=auq++agQ
def agY:=[dt 1 95 92]
def aH3:=[ai 85 91,gJ 92 85 0,gJ 93 85 1,fb 94 86,b2 95 2 94]
def ajp:=aH3++agY
def ae2:=c2 91 33 [.t 90]::ajp
def aIx:=[ai 86 10,ai 87 10,fb 88 87,b2 89 1 88,cL 90 89]
def XN:=aIx++ae2
def acL:=[q 99 (.bin .geq (.t 98) (b1 0)),ai 96 99]
def aiB:=c2 98 27 [cv #[61,44,58,40,41,123,125,91,93],.t 97]::acL
def asm:=[ai 97 8]
def V7:=asm++aiB
def X0:=[q 101 (.call (.t 100) [cK 3,b1 1])]
def aHy:=[ai 100 7]
def VZ:=aHy++X0
def Ye:=[c0 4 (b1 30)]
def Uk:=dt 2 3 36::Ye
def aqm:=[cL 33 5,fb 34 33,b2 35 0 34,q 36 (.load true 2 (.t 35)),c0 2 rM]
def VM:=aqm++Uk
def MW:cM:=
 (.seq (.seq (.bc Vx [20,21,22,23,24,25] [26])
 (.cond (.t 26)
 .skip
 (.exit 0)))
 (.block 1
 (.seq (.bc an9 [26,27,28,29,30,31,32] [8])
 (.block 2
 (.seq (.region TM [] [38,39,40])
 (.cond (.t 37)
 (.region Xs [] [8,37,41,42])
 (.seq (.bc ae9 [37,44,45] [43])
 (.cond (.t 43)
 (.region amD [] [8,43,46,47,48,49])
 (.seq (.region acv [] [43,51,52])
 (.cond (.t 50)
 (.region Yw [] [8,50,53,54,55,56])
 (.seq (.region V8 [] [50,58,59])
 (.cond (.t 57)
 (.seq (.region aa7 [] [57,60,61])
 (.seq (.seq (.region Xd [] [8,62,63,64,65,66,67,68,69,70,71,72,73,74,75,76])
 (.cond (.t 77)
 (.seq (.region abl [] [0,5,6,7,9,77,78,79,80,81])
 .ret)
 .skip))
 (.seq (.region aaE [] [9,77,82,83,84])
 (.region XN [] [10,85,86,87,88,89,90,91,92,93,94,95]))))
 (.seq (.region V7 [] [8,57,97,98,99])
 (.cond (.t 96)
 (.region VZ [] [96,100,101])
 (.seq (.region VM [] [0,5,6,7,33,34,35,36,96])
 .ret)))))))))))))))
def p8:cM:=MW
def aec:=[q 103 (.call (.t 102) [cK 4,b1 0])]
def aCk:=[ai 102 7]
def YS:=aCk++aec
def adn:=[c0 4 (b1 0)]
def U4:=dt 2 3 105::adn
def as5:=[cL 104 6,q 105 (.build [dc,dc] [(0,1),(1,1)] []),ai 2 104]
def amh:=as5++U4
def p0:eI:={ ntmps:=106,results:=[.tmp 2,.cell 3 true 2,.tmp 4],body:=
 (.seq (.region Rt [] v8)
 (.seq (.seq (.bc alv [11,12] [13])
 (.cond (.t 13)
 (.seq (.region abt [] [0,13,14])
 .ret)
 .skip))
 (.seq (.region UW [] [13,15,16,17,18])
 (.seq (.region TO [] [])
 (.seq (.bc afQ [19] [7])
 (.seq (.block 0
 (.loop [] p8))
 (.seq (.region YS [] [0,5,7,26,102,103])
 (.seq (.region amh [] [6,104,105])
 .ret)))))))) }
theorem NT:gF (List.range' 1 (p0.ntmps-1)) p0.body=true:=by kernel_rfl
abbrev Rm:Nat:=25
def BF:=List.range' 4 35
theorem aEw:hV BF (gC 39 [] 4)=[]:=by kernel_rfl
def UL:=[q 6 (.move (.c (.s (.pointer none))))]
def al1:=[dt 1 2 30]
def TQ:=q 30 (.append 5 48 (.t 7) (.t 29))::al1
def afp:=q 29 (.fy 5 1 [ec,cm,dc,dc,dc] [(0,.t 28)])::TQ
def aCf:=[cL 7 2,ai 8 0,cL 9 3,fb 10 9,b2 11 2 10,cL 12 11,cL 13 3,fb 14 13,b2 15 3 14,cL 16 15,cL 17 3,fb 18 17,b2 19 3 18,cL 20 19,ai 21 1,q 22 (.bin .add (.t 20) (.t 21)),q 23 (.mT (.t 12) (some (.t 16)) (some (.t 22))),cL 24 3,fb 25 24,b2 26 0 25,q 27 (.load true 2 (.t 26)),q 28 (.build [ec,cm,dc,dc,dc] [(0,1),(1,1),(2,1),(3,2)] [(0,.t 8),(1,.t 23),(3,.t 27)])]
def alp:=aCf++afp
def agm:=[c2 33 26 [.t 31,.t 32]]
def axI:=[cL 31 3,ai 32 1]
def acp:=axI++agm
def al0:=[cL 34 2,cL 35 2,q 36 (.dD .s (.t 35)),q 37 (.bin .sub (.t 36) (b1 1)),iJ 38 5 34 37,ai 6 38]
def w8:eI:={ ntmps:=39,results:=[.tmp 6],body:=
 (.seq (.bc UL BF [])
 (.seq (.region alp [] [0,7,8,9,10,11,12,13,14,15,16,17,18,19,20,21,22,23,24,25,26,27,28,29,30])
 (.seq (.region acp [] [1,3,31,32,33])
 (.seq (.bc al0 [2,34,35,36,37,38] [6])
 .ret)))) }
abbrev L3:Nat:=26
def EZ:=[1,2,3]++List.range' 6 42
theorem aE6:hV EZ (gC 48 [] 2)=[(4,bR),(5,bR)]:=by kernel_rfl
def ahh:=[ai 4 1,c0 5 (b1 0)]
def Ys:=[q 6 (.bin .lss (.t 5) (.t 4))]
def Vn:=[dt 1 15 12]
def as9:=[ai 7 0,fb 8 7,b2 9 0 8,b2 10 1 9,cL 11 10,q 12 (.bin .add (.t 11) (b1 1)),fb 13 7,b2 14 0 13,b2 15 1 14]
def ah3:=as9++Vn
def aeB:=[ai 16 0,fb 17 16,b2 18 2 17,cL 19 18,ai 20 0,fb 21 20,b2 22 3 21,cL 23 22,q 24 (.h6 (.t 19) (.t 23)),q 25 (.bin .eql (.t 24) (cK 10))]
def U6:=[mO (.store 1 (.t 39) (b1 1))]
def aF8:=[fb 37 27,b2 38 0 37,b2 39 1 38]
def acr:=aF8++U6
def abP:=dt 1 36 33::acr
def auT:=[ai 26 0,ai 27 0,ai 28 0,fb 29 28,b2 30 0 29,b2 31 0 30,cL 32 31,q 33 (.bin .add (.t 32) (b1 1)),fb 34 26,b2 35 0 34,b2 36 0 35]
def UE:=auT++abP
def ajU:=[dt 1 46 44]
def aAr:=[ai 40 0,fb 41 40,b2 42 3 41,cL 43 42,q 44 (.bin .add (.t 43) (b1 1)),fb 45 40,b2 46 3 45]
def aly:=aAr++ajU
def ab4:=[q 47 (.bin .add (.t 5) (b1 1)),ai 5 47]
def OD:cM:=
 (.seq (.bc Ys [] [6])
 (.seq (.cond (.t 6)
 .skip
 (.exit 0))
 (.seq (.block 1
 (.seq (.region ah3 [] [6,7,8,9,10,11,12,13,14,15])
 (.seq (.seq (.bc aeB [16,17,18,19,20,21,22,23,24] [25])
 (.cond (.t 25)
 (.region UE [] [25,26,27,28,29,30,31,32,33,34,35,36,37,38,39])
 .skip))
 (.region aly [] [25,40,41,42,43,44,45,46]))))
 (.bc ab4 [47] [5]))))
def S8:cM:=OD
def uZ:eI:={ ntmps:=48,results:=[],body:=
 (.seq (.bc ahh EZ [4,5])
 (.block 0
 (.loop [] S8))) }
abbrev St:Nat:=28
def Gs:=List.range' 2 34
theorem aFO:hV Gs (gC 36 [] 2)=[]:=by kernel_rfl
def Wc:=[c0 4 (b1 0)]
def akF:=[c0 5 (b1 0)]
def anO:=[ev 32 (.t 18) (.t 31) dP]
def TF:=bQ 31 (.call (.t 19) [.t 30]) 18 true::anO
def aeq:=bQ 30 (.h6 (.t 23) (.t 29)) 18 true::TF
def YW:=bQ 29 (.bin .add (.t 27) (.t 28)) 18 true::aeq
def Yu:=da 28 5 18 true::YW
def YV:=e7 27 26 18 true::Yu
def akw:=ef 26 3 25 18 true::YV
def acI:=bQ 25 (.nilCheck (.t 24)) 18 true::akw
def ZS:=da 24 0 18 true::acI
def XI:=e7 23 22 18 true::ZS
def acH:=ef 22 2 21 18 true::XI
def YR:=bQ 21 (.nilCheck (.t 20)) 18 true::acH
def akM:=da 20 0 18 true::YR
def alB:=da 19 1 18 true::akM
def aAF:=[ai 6 0,fb 7 6,b2 8 3 7,cL 9 8,ai 10 5,q 11 (.bin .add (.t 9) (.t 10)),ai 12 0,fb 13 12,b2 14 2 13,cL 15 14,q 16 (.dD .p (.t 15)),q 17 (.bin .lss (.t 11) (.t 16)),ai 18 17]
def Ue:=aAF++alB
def YZ:=[ai 33 5,q 34 (.bin .add (.t 33) (b1 1)),ai 5 34]
def Oq:cM:=
 (.seq (.seq (.region Ue [] [6,7,8,9,10,11,12,13,14,15,16,17,18,19,20,21,22,23,24,25,26,27,28,29,30,31])
 (.cond (.t 32)
 .skip
 (.exit 0)))
 (.block 1
 (.bc YZ [32,33,34] [5])))
def Oh:cM:=Oq
def amX:=[ai 35 5,ai 4 35]
def wM:eI:={ ntmps:=36,results:=[.tmp 4],body:=
 (.seq (.bc Wc Gs [])
 (.seq (.bc akF [] [5])
 (.seq (.block 0
 (.loop [] Oh))
 (.seq (.bc amX [0,1,5,32,35] [4])
 .ret)))) }
abbrev OH:Nat:=29
def LP:=[1,2,3,4]
theorem aq0:hV LP (gC 5 [] 1)=[]:=by kernel_rfl
def ac5:=[c0 2 dP]
def ajC:=[ai 3 0,q 4 (.bin .neq (.t 3) (cK 10)),ai 2 4]
def wJ:eI:={ ntmps:=5,results:=[.tmp 2],body:=
 (.seq (.bc ac5 LP [])
 (.seq (.bc ajC [0,3,4] [2])
 .ret)) }
abbrev Kd:Nat:=30
def LH:=List.range' 1 20
theorem apd:hV LH (gC 21 [] 1)=[]:=by kernel_rfl
def X6:=[c0 2 dP]
def Wx:=[ai 3 0,q 4 (.bin .geq (.t 3) (cK 97)),ai 5 4,da 6 0 5 true,bQ 7 (.bin .leq (.t 6) (cK 122)) 5 true,ev 8 (.t 5) (.t 7) dP,ai 9 8,da 10 0 9 false,bQ 11 (.bin .geq (.t 10) (cK 65)) 9 false,da 12 11 9 false,da 13 0 12 true,bQ 14 (.bin .leq (.t 13) (cK 90)) 12 true,bQ 15 (.pick (.t 12) (.t 14) dP) 9 false,ev 16 (.t 9) gk (.t 15),ai 17 16,da 18 0 17 false,bQ 19 (.bin .eql (.t 18) (cK 95)) 17 false,ev 20 (.t 17) gk (.t 19),ai 2 20]
def xb:eI:={ ntmps:=21,results:=[.tmp 2],body:=
 (.seq (.bc X6 LH [])
 (.seq (.bc Wx [0,3,4,5,6,7,8,9,10,11,12,13,14,15,16,17,18,19,20] [2])
 .ret)) }
abbrev Nk:Nat:=31
def IU:=List.range' 1 12
theorem aFs:hV IU (gC 13 [] 1)=[]:=by kernel_rfl
def ag7:=[c0 2 dP]
def acy:=[ev 8 (.t 5) gk (.t 7),ai 9 8,da 10 0 9 false,bQ 11 (.bin .eql (.t 10) (cK 46)) 9 false,ev 12 (.t 9) gk (.t 11),ai 2 12]
def Zh:=bQ 7 (.call (.c (.fn 32 [] [])) [.t 6]) 5 false::acy
def ama:=da 6 0 5 false::Zh
def azb:=[ai 5 4]
def YJ:=azb++ama
def VH:=c2 4 30 [.t 3]::YJ
def axJ:=[ai 3 0]
def ajW:=axJ++VH
def wT:eI:={ ntmps:=13,results:=[.tmp 2],body:=
 (.seq (.bc ag7 IU [])
 (.seq (.region ajW [] [0,3,4,5,6,7,8,9,10,11,12])
 .ret)) }
abbrev KG:Nat:=32
def Ky:=List.range' 1 8
theorem ayH:hV Ky (gC 9 [] 1)=[]:=by kernel_rfl
def TU:=[c0 2 dP]
def aht:=[ai 3 0,q 4 (.bin .geq (.t 3) (cK 48)),ai 5 4,da 6 0 5 true,bQ 7 (.bin .leq (.t 6) (cK 57)) 5 true,ev 8 (.t 5) (.t 7) dP,ai 2 8]
def wF:eI:={ ntmps:=9,results:=[.tmp 2],body:=
 (.seq (.bc TU Ky [])
 (.seq (.bc aht [0,3,4,5,6,7,8] [2])
 .ret)) }
abbrev zQ:Nat:=27
abbrev aaU:Nat:=33
def qb:=I (bE A5 0) (I (bn A5 2) (I (bn A5 3) (I (bn A5 4) (I (aR Jx A5 [] 3 [] [] [.cI (.s (.slice none 0 0))]) (I aEm (I (aS Jc [] v8) (I (dB WU v8 [] 5 [] [] [.cI (.s (.int .i64 0))]) (I (bE v8 0) (I (bn v8 2) (I (bE v8 3) (I (bn v8 4) (I (aR alv [11,12] [13] 14 [] [(13,jK .gtr 1048576 (.op (.dD .p (.t 0)) [.t 0]))] [.ay 0,ad [0],ad []]) (I (bl abt [0,13] [14,2] [0,13,14] 15 [] [(14,.op (.build [.s (.int .i64 0),.s (.int .i64 0)] [(0,1),(1,1)] []) []),(2,.c (.s (.slice none 0 0)))] [ad [],.cI (.s (.slice none 0 0))]) (I (aS abC [14] [0,13,14]) (I (dB abi [0,13,14] [4] 5 [] [(4,jz 2)] [.cI (.s (.int .i64 2))]) (I (bl UW [13,15,16] [17] [13,15,16,17,18] 18 [] [(17,.op (.build [.s (.int .i64 0),.s (.int .i64 0),.s (.string ⟨#[]⟩),.s (.int .i64 0)] [(0,2),(2,1),(3,1)] [(0,.t 0),(1,.t 1)]) [.op (.build [.s (.int .i64 0),.s (.int .i64 0)] [(0,1),(1,1)] [(0,.c (.s (.int .i64 1))),(1,.c (.s (.int .i64 1)))]) [.c (.s (.int .i64 1)),.c (.s (.int .i64 1))],.t 0])] [ad [0],.ay 0,ad []]) (I (aS aj8 [17] [13,15,16,17,18]) (I (aS aix [] [13,15,16,17,18]) (I (cx ain [13,15,16,17,18]) (I (cx TO []) (I (aR afQ [19] [7] 20 [] [(7,.op (.mu 25 [] [.t 0,.t 1]) [.t 6,.t 5])] [ad [],ad []]) (I (aR Vx [20,21,22,23,24,25] [26] 27 [] [(26,eS .lss (bO (bI 3 (fe (bO (.t 5))))) (.op (.dD .p (.t 0)) [.t 0]))] [ad [0,0,0,0],ad [0,0,0],ad [0,0],ad [0],.ay 0,ad [1],ad []]) (I (aR an9 [26,27,28,29,30,31,32] [8] 33 [] [(8,.op (.h6 (.t 0) (.t 1)) [.t 0,bO (bI 3 (fe (bO (.t 5))))])] [.ay 0,ad [1,0,0,0],ad [1,0,0],ad [1,0],ad [1],ad [],ad []]) (I (bl TM [] [38] [38,39,40] 39 [] [(38,.t 8)] [.ay 8]) (I (aS acs [38] [38,39,40]) (I (dB aiQ [38,39,40] [37] 41 [] [(37,jK .geq 0 (.t 39))] [ad [],ad []]) (I (bl Xs [8,37] [41] [8,37,41,42] 42 [] [(41,bO (.t 5))] [ad []]) (I (cx ZW [8,37,41,42]) (I (aR ae9 [37,44,45] [43] 46 [] [(43,hj 59 (.t 8))] [.ay 8,ad [],ad []]) (I (bl amD [8,43] [46,47] [8,43,46,47,48,49] 48 [] [(46,bO (.t 5)),(47,bO (.t 5))] [ad [],ad []]) (I (aS Zj [47] [8,43,46,47,48,49]) (I (cx amn [8,43,46,47,48,49]) (I (bl acv [43] [51] [43,51,52] 52 [] [(51,.t 8)] [.ay 8]) (I (aS aeR [51] [43,51,52]) (I (dB Za [43,51,52] [50] 51 [] [(50,.t 52)] [.ay 52]) (I (bl Yw [8,50] [53,54] [8,50,53,54,55,56] 55 [] [(53,.t 7),(54,bO (.t 5))] [.ay 7,.sub 1 [] []]) (I (aS Z9 [54] [8,50,53,54,55,56]) (I (cx ab7 [8,50,53,54,55,56]) (I (bl V8 [50] [58] [50,58,59] 59 [] [(58,.t 8)] [.ay 8]) (I (aS ahe [58] [50,58,59]) (I (dB agt [50,58,59] [57] 58 [] [(57,.t 59)] [.ay 59]) (I (bl aa7 [57] [60] [57,60,61] 61 [] [(60,bO (.t 5))] [ad []]) (I (aS abk [60] [57,60,61]) (I (dB amd [57,60,61] [9] 10 [] [(9,.t 61)] [.ay 61]) (I (bl Xd [8,62,63,64,65,66,67,68,69,70,71] [72] On 73 [] [(72,.pick (jK .gtr 9 (.t 9)) hH (.pick (jK .gtr 1 (.t 9)) (hj 48 (.t 8)) ht))] [.ay 9,ad [0],ad [0],.sub 0 [2,0,0] [64],.sub 0 [2,0] [64],.sub 0 [2,0] [64],.sub 0 [2,1,0] [64,67],.sub 0 [2,1] [64,67],.sub 0 [2] [64],ad [],ad []]) (I (aS als [] On) (I (aS Zw [73] On) (I (dB Vk [8,62,63,64,65,66,67,68,69,70,71,72,73,74,75,76] [77] 78 [] [(77,.pick (.t 72) hH (eS .gtr (.t 74) (.t 9)))] [.sub 0 [2,1] [72],.sub 0 [2] [72],ad []]) (I (bl abl [0,5,6,7,9,77,78,79,80] [81,2] [0,5,6,7,9,77,78,79,80,81] 82 [] [(81,kA 2 (bI 0 (fe (bO (.t 5))))),(2,.c (.s (.slice none 0 0)))] [ad [0,0,0],ad [0,0],ad [0],ad [],.cI (.s (.slice none 0 0))]) (I (aS aap [81] [0,5,6,7,9,77,78,79,80,81]) (I (dB US [0,5,6,7,9,77,78,79,80,81] [4] 5 [] [(4,jz 31)] [.cI (.s (.int .i64 31))]) (I (bl aaE [9,77] [82,83] [9,77,82,83,84] 84 [] [(82,.t 7),(83,.t 9)] [.ay 7,.ay 9]) (I (aS agQ [82,83] [9,77,82,83,84]) (I (dB ahT [9,77,82,83,84] [10] 11 [] [(10,.t 84)] [.ay 84]) (I (bl XN [10,87,88,89] [86,90] Pv 91 [] [(86,.t 10),(90,bO (bI 1 (fe (.t 10))))] [.ay 10,.ay 10,.sub 1 [0,0] [],.sub 1 [0] [],.sub 1 [] []]) (I (aS ae2 [90] Pv) (I (bl ajp [85,86,91,93,94] [92,95] Pv 96 [([],.op (.extract (.t 0) 1) [.t 91])] [(92,gY 0 (.t 91)),(95,bI 2 (fe (.t 86)))] [.ay 91,ad [],.bT [] (.op (.extract (.t 0) 1) [.t 91]),.sub 1 [0] [],.sub 1 [] []]) (I (cx agY [10,85,86,87,88,89,90,91,92,93,94,95]) (I (bl V7 [8,57] [97] [8,57,97,98,99] 98 [] [(97,.t 8)] [.ay 8]) (I (aS aiB [97] [8,57,97,98,99]) (I (dB acL [8,57,97,98,99] [96] 100 [] [(96,jK .geq 0 (.t 98))] [ad [],ad []]) (I (bl VZ [96] [100] [96,100,101] 101 [] [(100,.t 7)] [.ay 7]) (I (cx X0 [96,100,101]) (I (bl VM [0,5,6,7,33,34,35,96] [36,2] [0,5,6,7,33,34,35,36,96] 37 [] [(36,kA 2 (bI 0 (fe (bO (.t 5))))),(2,.c (.s (.slice none 0 0)))] [ad [0,0,0],ad [0,0],ad [0],ad [],.cI (.s (.slice none 0 0))]) (I (aS Uk [36] [0,5,6,7,33,34,35,36,96]) (I (dB Ye [0,5,6,7,33,34,35,36,96] [4] 5 [] [(4,jz 30)] [.cI (.s (.int .i64 30))]) (I (bx p8 MW) (I (bl YS [0,5,7,26] [102] [0,5,7,26,102,103] 103 [] [(102,.t 7)] [.ay 7]) (I (cx aec [0,5,7,26,102,103]) (I (bl amh [6,104] [105,2] [6,104,105] 106 [] [(105,.op (.build [.s (.int .i64 0),.s (.int .i64 0)] [(0,1),(1,1)] []) []),(2,bO (.t 6))] [.sub 1 [] [],ad [],.sub 1 [] []]) (I (aS U4 [105] [6,104,105]) (I (dB adn [6,104,105] [4] 5 [] [(4,jz 0)] [.cI (.s (.int .i64 0))]) (MW.eq_1)))))))))))))))))))))))))))))))))))))))))))))))))))))))))))))))))))))))))
def arp:=I (aR UL BF [] 7 [] [] [.cI (.s (.pointer none))]) (I aEw (I (bE BF 0) (I (bE BF 1) (I (bE BF 2) (I (bE BF 3) (I (bl alp [0,8,9,10,11,12,13,14,15,16,17,18,19,20,21,22,23,24,25,26,27] [7,28] PA 29 [] [(7,bO (.t 2)),(28,.op (.build [.s (.int .u8 0),.s (.string ⟨#[]⟩),.s (.int .i64 0),.s (.int .i64 0),.s (.int .i64 0)] [(0,1),(1,1),(2,1),(3,2)] [(0,.t 0),(1,.t 1),(3,.t 2)]) [.t 0,.op (.mT (.t 0) (some (.t 1)) (some (.t 2))) [bO (bI 2 (fe (bO (.t 3)))),bO (bI 3 (fe (bO (.t 3)))),eS .add (bO (bI 3 (fe (bO (.t 3))))) (.t 1)],kA 2 (bI 0 (fe (bO (.t 3))))])] [ad [],.ay 0,.sub 1 [1,0,0,0,0] [],.sub 1 [1,0,0,0] [],.sub 1 [1,0,0] [],.sub 1 [1,0] [],.sub 1 [1,0,0,0,0] [],.sub 1 [1,0,0,0] [],.sub 1 [1,1,0] [],.sub 1 [1,1] [],.sub 1 [1,0,0,0,0] [],.sub 1 [1,0,0,0] [],.sub 1 [1,1,0] [],.sub 1 [1,1] [],.ay 1,.sub 1 [1,2] [],.sub 1 [1] [],.sub 1 [1,0,0,0,0] [],.sub 1 [1,0,0,0] [],.sub 1 [2,0] [],.sub 1 [2] [],.sub 1 [] []]) (I (aS afp [28] PA) (I (aS TQ [7,29] PA) (I (cx al1 [0,7,8,9,10,11,12,13,14,15,16,17,18,19,20,21,22,23,24,25,26,27,28,29,30]) (I (bl acp [1,3] [31,32] [1,3,31,32,33] 33 [] [(31,bO (.t 3)),(32,.t 1)] [ad [],.ay 1]) (I (cx agm [1,3,31,32,33]) ((aR al0 [2,34,35,36,37,38] [6] 39 [] [(6,gU 5 (bO (.t 2)) (jK .sub 1 (ig (bO (.t 2)))))] [ad [0],ad [0],ad [1,0],ad [1],ad [],ad []])))))))))))))
def It:=I (aR ahh EZ [4,5] 6 [] [(4,.t 1),(5,jz 0)] [.ay 1,.cI (.s (.int .i64 0))]) (I aE6 (I (bE EZ 0) (I (bn EZ 1) (I (aR Ys [] [6] 7 [] [(6,eS .lss (.t 5) (.t 4))] [ad []]) (I (bl ah3 [6,7,8,9,10,11,13,14] [12,15] [6,7,8,9,10,11,12,13,14,15] 16 [] [(12,fV 1 (bO (bI 1 (bI 0 (fe (.t 0)))))),(15,bI 1 (bI 0 (fe (.t 0))))] [.ay 0,ad [0,0,0,0],ad [0,0,0],ad [0,0],ad [0],ad [],ad [0,0,0,0],ad [0,0,0],ad [0,0]]) (I (cx Vn [6,7,8,9,10,11,12,13,14,15]) (I (aR aeB [16,17,18,19,20,21,22,23,24] [25] 26 [] [(25,hj 10 (.op (.h6 (.t 0) (.t 1)) [bO (bI 2 (fe (.t 0))),bO (bI 3 (fe (.t 0)))]))] [.ay 0,ad [0,0,0,0],ad [0,0,0],ad [0,0],.ay 0,ad [0,0,0,0],ad [0,1,0],ad [0,1],ad [0],ad []]) (I (bl UE [25,26,28,29,30,31,32,34,35] [27,33,36] NF 37 [] [(27,.t 0),(33,fV 1 (bO (bI 0 (bI 0 (fe (.t 0)))))),(36,bI 0 (bI 0 (fe (.t 0))))] [.ay 0,.ay 0,.ay 0,.sub 1 [0,0,0,0] [],.sub 1 [0,0,0] [],.sub 1 [0,0] [],.sub 1 [0] [],.sub 1 [] [],.sub 1 [0,0,0,0] [],.sub 1 [0,0,0] [],.sub 1 [0,0] []]) (I (aS abP [33,36] NF) (I (bl acr [27,37,38] [39] NF 40 [] [(39,bI 1 (bI 0 (fe (.t 27))))] [ad [0,0],ad [0],ad []]) (I (cx U6 [25,26,27,28,29,30,31,32,33,34,35,36,37,38,39]) (I (bl aly [25,40,41,42,43,45] [44,46] [25,40,41,42,43,44,45,46] 47 [] [(44,fV 1 (bO (bI 3 (fe (.t 0))))),(46,bI 3 (fe (.t 0)))] [.ay 0,ad [0,0,0],ad [0,0],ad [0],ad [],ad [0,0,0],ad [0,0]]) (I (cx ajU [25,40,41,42,43,44,45,46]) (I (aR ab4 [47] [5] 48 [] [(5,fV 1 (.t 5))] [ad [],ad []]) (I (bx S8 OD) (OD.eq_1))))))))))))))))
def JS:=I (aR Wc Gs [] 5 [] [] [.cI (.s (.int .i64 0))]) (I aFO (I (bE Gs 0) (I (bE Gs 1) (I (aR akF [] [5] 6 [] [(5,jz 0)] [.cI (.s (.int .i64 0))]) (I (bl Ue [6,7,8,9,10,11,12,13,14,15,16,17] [18] q6 19 [] [(18,eS .lss (eS .add (bO (bI 3 (fe (.t 0)))) (.t 5)) (.op (.dD .p (.t 0)) [bO (bI 2 (fe (.t 0)))]))] [.ay 0,ad [0,0,0,0],ad [0,0,0],ad [0,0],.ay 5,ad [0],.ay 0,ad [0,0,0,0],ad [1,0,0],ad [1,0],ad [1],ad [],ad []]) (I (aS alB [] q6) (I (aS akM [] q6) (I (aS YR [20] q6) (I (aS acH [21] q6) (I (aS XI [22] q6) (I (aS ZS [] q6) (I (aS acI [24] q6) (I (aS akw [25] q6) (I (aS YV [26] q6) (I (aS Yu [] q6) (I (aS YW [27,28] q6) (I (aS aeq [23,29] q6) (I (aS TF [19,30] q6) (I (dB anO [6,7,8,9,10,11,12,13,14,15,16,17,18,19,20,21,22,23,24,25,26,27,28,29,30,31] [32] 33 [] [(32,.pick (.t 18) (.t 31) ht)] [ad []]) (I (aR YZ [32,33,34] [5] 35 [] [(5,fV 1 (.t 5))] [.ay 5,ad [],ad []]) (I (bx Oh Oq) (I (aR amX [0,1,5,32,35] [4] 36 [] [(4,.t 5)] [.ay 5,.ay 5]) (Oq.eq_1)))))))))))))))))))))))
def aIn:=I (aR ac5 LP [] 3 [] [] [.cI (.s (.bool false))]) (I aq0 (I (bE LP 0) ((aR ajC [0,3,4] [2] 5 [] [(2,lF .neq 10 (.t 0))] [.ay 0,ad [],ad []]))))
def aC3:=I (aR X6 LH [] 3 [] [] [.cI (.s (.bool false))]) (I apd (I (bE LH 0) ((aR Wx [0,3,4,5,6,7,8,9,10,11,12,13,14,15,16,17,18,19,20] [2] 21 [] [(2,.pick (.pick (.pick (lF .geq 97 (.t 0)) (lF .leq 122 (.t 0)) ht) hH (.pick (lF .geq 65 (.t 0)) (lF .leq 90 (.t 0)) ht)) hH (hj 95 (.t 0)))] [.ay 0,ad [0,0,0],ad [0,0,0],.sub 0 [0,0,1,0] [5],.sub 0 [0,0,1] [5],ad [0,0],ad [0,0],.sub 0 [0,2,0,0] [9],.sub 0 [0,2,0] [9],.sub 0 [0,2,0] [9],.sub 0 [0,2,1,0] [9,12],.sub 0 [0,2,1] [9,12],.sub 0 [0,2] [9],ad [0],ad [0],.sub 0 [2,0] [17],.sub 0 [2] [17],ad [],ad []]))))
def aBW:=I (aR ag7 IU [] 3 [] [] [.cI (.s (.bool false))]) (I aFs (I (bE IU 0) (I (bl ajW [] [3] Ex 4 [] [(3,.t 0)] [.ay 0]) (I (aS VH [3] Ex) (I (bl YJ [4] [5] Ex 6 [] [(5,.t 4)] [.ay 4]) (I (aS ama [] Ex) (I (aS Zh [6] Ex) ((dB acy [0,3,4,5,6,7,8,9,10,11,12] [2] 13 [] [(2,.pick (.pick (.t 5) hH (.t 7)) hH (hj 46 (.t 0)))] [ad [0],ad [0],.sub 0 [2,0] [9],.sub 0 [2] [9],ad [],ad []])))))))))
def azl:=I (aR TU Ky [] 3 [] [] [.cI (.s (.bool false))]) (I ayH (I (bE Ky 0) ((aR aht [0,3,4,5,6,7,8] [2] 9 [] [(2,.pick (lF .geq 48 (.t 0)) (lF .leq 57 (.t 0)) ht)] [.ay 0,ad [0],ad [0],.sub 0 [1,0] [5],.sub 0 [1] [5],ad [],ad []]))))
theorem ahm:fN Tryd.prog fm 13=some (false,p0.ntmps,p0.results,p0.body.bare):=by kernel_rfl
theorem alL:fN Tryd.prog fm 25=some (false,w8.ntmps,w8.results,w8.body.bare):=by kernel_rfl
theorem aiY:fN Tryd.prog fm 26=some (false,uZ.ntmps,uZ.results,uZ.body.bare):=by kernel_rfl
theorem ajs:fN Tryd.prog fm 28=some (false,wM.ntmps,wM.results,wM.body.bare):=by kernel_rfl
theorem YC:fN Tryd.prog fm 29=some (false,wJ.ntmps,wJ.results,wJ.body.bare):=by kernel_rfl
theorem adQ:fN Tryd.prog fm 30=some (false,xb.ntmps,xb.results,xb.body.bare):=by kernel_rfl
theorem ajb:fN Tryd.prog fm 31=some (false,wT.ntmps,wT.results,wT.body.bare):=by kernel_rfl
theorem adM:fN Tryd.prog fm 32=some (false,wF.ntmps,wF.results,wF.body.bare):=by kernel_rfl
def aDR(c:UInt8):V:=.s (.int .u8 c.toNat)
def S(b:ByteArray):V:=.s (.string b)
def fQ(c d:UInt8):(c=d)↔((c.toNat:Nat):Int)=((d.toNat:Nat):Int):=by rw[JO,UInt8.toNat_inj]
def U7(c:UInt8):(decide ((c.toNat:Int) ≥ 97)&&decide ((c.toNat:Int)<=122)||decide ((c.toNat:Int) ≥ 65)&&decide ((c.toNat:Int)<=90)||((c.toNat:Int)==95))=Tok.letter c:=by
 unfold Tok.letter;rw[fc];simp only[jq,dr,lm,cG,fQ,show(UInt8.toNat 95)=95 from rfl];omega
def Z3(c):(decide ((c.toNat:Int) ≥ 48)&&decide ((c.toNat:Int)<=57))=Tok.digit c:=by
 unfold Tok.digit;rw[fc];simp only[dr,lm];omega
theorem CF(c:UInt8):((c.toNat:Int)==46)=(c==46):=by
 rw[fc,cG,cG,fQ];rfl
theorem NN(c:UInt8):((c.toNat:Int) != 10)=Tok.other c:=by
 unfold Tok.other;rw[fc];simp only[hU,Ne,fQ];rfl
section
variable {ah:Nat->Option c7}
def vX(aR:ah Kd=some (.code xb))(c base H):aU ah (.fn Kd [] []) [.s (.int .u8 c.toNat)] base H=some (aL (Tok.letter c),H):=by
 refine ih (c:=xb) aR (by simp[xb]) ?_
 rw[<- U7];simp only[xb,simprocAttr,aC3,aM]
def s4(aR:ah KG=some (.code wF))(c base H):aU ah (.fn KG [] []) [.s (.int .u8 c.toNat)] base H=some (aL (Tok.digit c),H):=by
 refine ih (c:=wF) aR (by simp[wF]) ?_
 rw[<- Z3];simp only[wF,simprocAttr,azl,aM]
def aD0(aR:ah OH=some (.code wJ))(c base H):aU ah (.fn OH [] []) [.s (.int .u8 c.toNat)] base H=some (aL (Tok.other c),H):=by
 refine ih (c:=wJ) aR (by simp[wJ]) ?_
 rw[<- NN];simp only[wJ,simprocAttr,aIn,aM]
def Nr(aR:ah Nk=some (.code wT))(ak:∀(c:UInt8) (base:Nat) (H:az),aU ah (.fn Kd [] []) [.s (.int .u8 c.toNat)] base H=some (aL (Tok.letter c),H))(aQ:∀(c:UInt8) (base:Nat) (H:az),aU ah (.fn KG [] []) [.s (.int .u8 c.toNat)] base H=some (aL (Tok.digit c),H))(c:UInt8)(base:Nat)(H:az):aU ah (.fn Nk [] []) [.s (.int .u8 c.toNat)] base H=some (aL (Tok.within c),H):=by
 refine ih (c:=wT) aR (by simp[wT]) ?_
 unfold Tok.within;rw[<- CF];cases J:Tok.letter c<;>simp only[wT,simprocAttr,aBW,aM,ak,aQ,J]
end
abbrev bd(n:Int):V:=.s (.int .i64 n)
def n9(a6 aZ:Nat)(b:ByteArray)(at':Nat):List V:=[bd a6,bd aZ,.s (.string b),bd at']
theorem u4(c:UInt8):((c.toNat:Int)==10)=decide (c=10):=by
 rw[fc,cG,iA,fQ];rfl
def ie{n:Nat}(h:n<2^62):IntKind.i64.wrap ((n:Int)+1)=((n+1:Nat):Int):=by rw[IntKind.wrap_i64];omega
def arH{H i g c}(h:ao H i g=some c):H[i]?=some (.cells g c):=by
 unfold ao at h;cases aT:H[i]? with
 |none=>rw[aT]at h;cases h
 |some o=>
   rw[aT]at h;cases o with
   |cells g2 cN=>
     dsimp only at h;split at h
     .rename_i e;cases h;rw[e]
     .cases h
   |map _=>cases h
   |loop _ _ _ _ _ _=>cases h
   |dead=>cases h
   |bytes _ _=>cases h
def e4{H i g c}(h:ao H i g=some c)(c'):ao (H.set i (.cells g c')) i g=some c':=by
 have:=hL h;unfold ao;rw[qq this];simp
def step_loop(call:c5)(base b)(af:b.size<=2^40)(i)(hi:base<=i)(m q)(bD:q<=b.size)(hm:m<2^62):∀(n j at' a6 aZ:Nat) (H:az),ao H i 0=some (n9 a6 aZ b at')->at'+n=q->j+n=m->a6<=at'+1->aZ<=at'+1->
 aG (aC call aG base S8) [] H.length (au 48 [(0,.ref i 0 0),(4,bd m),(5,bd j)]) H=
 some (.ext 0,au 48 [(0,.ref i 0 0),(4,bd m),(5,bd m),(6,aL false)],H.set i (.cells 0 (n9 (Tok.e2 ((b.data.toList.drop at').take n) (a6,aZ)).1 (Tok.e2 ((b.data.toList.drop at').take n) (a6,aZ)).2 b q))):=by
 intro n
 induction n with
 |zero=>
   intro j at' a6 aZ H aa J aY U ax;have bt:=hL aa;have e:H.set i (.cells 0 (n9 a6 aZ b at'))=H:=awX (arH aa);rw[oL]at J aY;subst J aY;rw[eo];simp only[It,simprocAttr,aM,bd,nq,Tok.e2,e]
 |succ n aw=>
   intro j at' a6 aZ H aa J aY U ax;have bt:=hL aa
   have lC:at'<b.data.toList.length:=by rw[show b.data.toList.length=b.size from rfl];omega
   have ae:b.data.toList[at']?=some b.data.toList[at']:=dy lC;have jX:∀c',ao (H.set i (.cells 0 c')) i 0=some c':=fun c'=>e4 aa c';have dd:∀bo,(H.set i bo).length=H.length:=fun bo=>eF;have k5:∀a b,(H.set i a).set i b=H.set i b:=fun a b=>List.set_set ..;have aQ:b.data.toList.drop at'=b.data.toList[at']::b.data.toList.drop (at'+1):=hN lC
   have br:((j:Int)<(m:Int)):=by omega
   have aV:=ie (n:=aZ) (by omega)
   have b4:=ie (n:=a6) (by omega)
   have dJ:=ie (n:=at') (by omega)
   have eO:=ie (n:=j) (by omega)
   have jC:∀fr bo,trim H.length fr (H.set i bo)=H.set i bo:=fun fr bo=>Aa (dd bo);have ju:ao H i 0=some [bd a6,bd aZ,.s (.string b),bd at']:=aa;rw[aQ,fI,Tok.e2];rw[eo];by_cases gm:b.data.toList[at']=10
   .rw[a' gm]
    have uB:=aw (j+1) (at'+1) (a6+1) 1 (H.set i (.cells 0 (n9 (a6+1) 1 b (at'+1)))) (jX _) (by omega) (by omega) (by omega) (by omega)
    simp only[It,simprocAttr,aM,bd,hi,ju,br,ae,aV,b4,dJ,eO,jX,k5,u4,gm,jC];simp only[dd,k5,n9,bd]at uB |-;exact uB
   .rw[bm gm]
    have uB:=aw (j+1) (at'+1) a6 (aZ+1) (H.set i (.cells 0 (n9 a6 (aZ+1) b (at'+1)))) (jX _) (by omega) (by omega) (by omega) (by omega)
    simp only[It,simprocAttr,aM,bd,hi,ju,br,ae,aV,b4,dJ,eO,jX,k5,u4,gm,jC];simp only[dd,k5,n9,bd]at uB |-;exact uB
section
variable {ah:Nat->Option c7}
theorem OL(aR:ah L3=some (.code uZ))(base){b}(af:b.size<=2^40){i}(hi:base<=i){H a6 aZ at'}(aa:ao H i 0=some (n9 a6 aZ b at')){n}(aN:at'+n<=b.size)(U:a6<=at'+1)(ax:aZ<=at'+1):
 aU ah (.fn L3 [] []) [.ref i 0 0,bd n] base H=some (.bV [],H.set i (.cells 0 (n9 (Tok.e2 ((b.data.toList.drop at').take n) (a6,aZ)).1 (Tok.e2 ((b.data.toList.drop at').take n) (a6,aZ)).2 b (at'+n)))):=by
 refine ih (c:=uZ) aR (by simp[uZ]) ?_
 have ak:=step_loop (aU ah) base b af i hi n (at'+n) aN (by omega) n 0 at' a6 aZ H aa rfl (by omega) U ax
 rw[bd,bd,show((0:Nat):Int)=0 from rfl]at ak;simp only[uZ,simprocAttr,It,aM,bd,ak];rfl
def aFR(base){f}{p:UInt8->Bool}(aj:∀(c:UInt8) (base:Nat) (H:az),aU ah f [.s (.int .u8 c.toNat)] base H=some (aL (p c),H))(al:∃k,f=.fn k [] []){b}(af:b.size<=2^40){i H a6 aZ at'}(aa:ao H i 0=some (n9 a6 aZ b at')):∀(l:List UInt8) (j:Nat),b.data.toList.drop (at'+j)=l->at'+j<=b.size->
 aG (aC (aU ah) aG base Oh) [] H.length (au 36 [(0,.ref i 0 0),(1,f),(5,bd j)]) H=some (.ext 0,au 36 ((0,.ref i 0 0)::(1,f)::(5,bd ((j+Tok.ba p l:Nat):Int))::[(32,aL false)]),H):=by
 intro l
 induction l with
 |nil=>
   intro j aQ br
   have h9:at'+j=b.size:=by
    have:=dX List.length aQ;rw[fJ,show b.data.toList.length=b.size from rfl]at this;simp at this;omega
   rw[eo];have ju:ao H i 0=some [bd a6,bd aZ,.s (.string b),bd at']:=aa
   have aV:IntKind.i64.wrap ((at':Int)+(j:Int))=(b.size:Int):=by rw[IntKind.wrap_i64];omega
   simp only[JS,simprocAttr,aM,bd,ju,aV,nq,Tok.ba]
 |cons c l aw=>
   intro j aQ br
   have mg:b.data.toList[at'+j]?=some c:=by have:=dX (·[0]?) aQ;simp only[h4]at this;exact this
   have bt:at'+j<b.size:=by have:=(cC.1 mg).1;exact this
   have fz:b.data.toList.drop (at'+(j+1))=l:=by
    have:=dX (List.drop 1) aQ
    simpa[nL,tF]using this
   have ju:ao H i 0=some [bd a6,bd aZ,.s (.string b),bd at']:=aa
   have aV:IntKind.i64.wrap ((at':Int)+(j:Int))=((at'+j:Nat):Int):=by rw[IntKind.wrap_i64];omega
   have b4:=ie (n:=j) (by omega)
   have eD:(((at'+j:Nat):Int)<(b.size:Int)):=by omega
   obtain⟨k,rfl⟩:=al
   have kP:=aw (j+1) fz (by omega)
   rw[eo];cases CZ:p c with
   |true=>
     simp only[JS,simprocAttr,aM,bd,ju,aV,b4,eD,mg,aj,CZ,Tok.ba]
     rw[show j+(Tok.ba p l+1)=j+1+Tok.ba p l by omega]
     exact kP
   |false=>
     simp only[JS,simprocAttr,aM,bd,ju,aV,eD,mg,aj,CZ,Tok.ba]
def Ei(aR:ah St=some (.code wM))(base){f}{p:UInt8->Bool}(aj:∀(c:UInt8) (base:Nat) (H:az),aU ah f [.s (.int .u8 c.toNat)] base H=some (aL (p c),H))(al:∃k,f=.fn k [] []){b}(af:b.size<=2^40){i H a6 aZ at'}(aa:ao H i 0=some (n9 a6 aZ b at'))(lC:at'<=b.size):
 aU ah (.fn St [] []) [.ref i 0 0,f] base H=some (bd (Tok.ba p (b.data.toList.drop at'):Nat),H):=by
 refine ih (c:=wM) aR (by simp[wM]) ?_
 have ak:=aFR (ah:=ah) base aj al af aa (b.data.toList.drop at') 0 rfl lC;rw[bd,bd,show((0:Nat):Int)=0 from rfl,j2]at ak;simp only[wM,simprocAttr,JS,aM,bd,ak]
end
end Go.Proofs.YtbocmenkkjbigaaDoor
namespace Go.dO
theorem Gd(H b k k2 l h):hk H (.mT (.t 0) (some (.t 1)) (some (.t 2))) (some [.s (.string b),.s (.int k l),.s (.int k2 h)])=if 0<=l/\l<=h/\h<=b.size then some (.s (.string (b.extract l.toNat h.toNat)))else none:=by
 show(if 0<=l/\l<=h/\h<=(b.size:Int)then some (V.s (.string (b.extract l.toNat h.toNat)),H)else none).map (·.1)=_
 split<;>rfl
def extract_eq(b:ByteArray)(at' n:Nat):b.extract at' (at'+n)=⟨((b.data.toList.drop at').take n).toArray⟩:=by
 apply ByteArray.ext;apply pq;rw[ByteArray.data_extract,Array.toList_extract,List.extract_eq_drop_take];simp
theorem tI(t u w:lj)(fr H):kB [t,u,w] fr H=match j' fr H t,j' fr H u,j' fr H w with|some x,some y,some z=>some (.bV [x,y,z])|_,_,_=>none:=by
 simp only[kB,n1,IE];cases j' fr H t<;>cases j' fr H u<;>cases j' fr H w<;>rfl
theorem yp(H g n a):iT H g n a=gl H g n a:=rfl
theorem alc(H f a b):hk H (.mu f [] [.t 0,.t 1]) (some [a,b])=some (.fn f [] [a,b]):=rfl
end Go.dO
set_option maxRecDepth 100000
namespace Go.Proofs.YtbocmenkkjbigaaDoor
open Go.dO
def cP(t:Tok.T):List V:=[.s (.int .u8 t.kind),.s (.string ⟨t.text.toArray⟩),bd t.n,bd t.line,bd t.jB]
structure kj (m:Nat) (H:az) (o h i:Nat) (b:ByteArray) (a6 aZ at':Nat) (R:List (List V)):Prop where
 hold:ao H h 0=some [.ref i 0 0]
 rd:ao H i 0=some (n9 a6 aZ b at')
 out:∃v,ao H o 0=some [v]/\cp m 5 H v R
 len:m<=H.length
 lt:h<m/\i<m/\o<m
 ne:o≠h/\o≠i/\h≠i
def cp.aoC{m w L o H v R}(h:cp m w H v R)(aT:ao H o 0=some [v])(dw:o<L)(fr):cp m w (trim L fr H) v R:=by
 rcases af6 L fr H with e|⟨e,_,hu⟩
 .rw[e];exact h
 .refine h.bT fun id g n aX=>?_
  have:=hu o 0 _ dw aT v (by simp)
  rw[aX]at this;simp only[im,lm]at this;rw[e,iB this]
section
variable {ah:Nat->Option c7}
def Ir(aR:ah Rm=some (.code w8))(e5:ah L3=some (.code uZ)){base m:Nat}{H}{o h i:Nat}{b}{a6 aZ at':Nat}{R}(st:kj m H o h i b a6 aZ at' R)(af:b.size<=2^40)(ns:base<=o)(iZ:base<=i)(gZ:base<=m){n:Nat}(aN:at'+n<=b.size)(ak:a6<=at'+1)(aa:aZ<=at'+1)(b8:R.length<=at'+1)(kind:Nat):
 ∃id g H',aU ah (.fn Rm [] [.ref o 0 0,.ref h 0 0]) [.s (.int .u8 kind),bd n] base H=some (.ref id g (R.length*5),H')/\
   kj m H' o h i b (Tok.e2 ((b.data.toList.drop at').take n) (a6,aZ)).1 (Tok.e2 ((b.data.toList.drop at').take n) (a6,aZ)).2 (at'+n) (R++[cP ⟨kind,(b.data.toList.drop at').take n,0,a6,aZ⟩])/\
   ao H' o 0=some [.aB id g 0 (R.length+1) 5]/\m<=id/\ao H' id g=some (R++[cP ⟨kind,(b.data.toList.drop at').take n,0,a6,aZ⟩]).flatten/\aA m [o,i] H H':=by
 obtain⟨v,aT,av⟩:=st.out;have gg:=st.rd;have hh:=st.hold;obtain⟨apA,aF6,azk⟩:=st.lt;obtain⟨auj,ahC,aDE⟩:=st.ne;have o6:=st.len;have ju:ao H i 0=some [bd a6,bd aZ,.s (.string b),bd at']:=gg
 have aV:IntKind.i64.wrap ((at':Int)+(n:Int))=((at'+n:Nat):Int):=by rw[IntKind.wrap_i64];omega
 have hI:(0<=(at':Int)/\(at':Int)<=((at'+n:Nat):Int)/\((at'+n:Nat):Int)<=(b.size:Int)):=by omega
 obtain⟨row,jZ⟩:∃row,cP ⟨kind,(b.data.toList.drop at').take n,0,a6,aZ⟩=row:=⟨_,rfl⟩;have aAh:[V.s (.int .u8 kind),V.s (.string ⟨((b.data.toList.drop at').take n).toArray⟩),V.s (.int .i64 0),V.s (.int .i64 a6),V.s (.int .i64 aZ)]=row:=jZ
 have FM:row.length=5:=by rw[<- jZ];rfl
 have C':row.all V.one=true:=by rw[<- jZ];rfl
 rw[jZ];obtain⟨B,aI⟩:∃B,H++[bq.cells 0 row]=B:=⟨_,rfl⟩
 have EC:∀id,id<H.length->B[id]?=H[id]?:=fun id J=>by rw[<- aI,d' J]
 have arW:B.length=H.length+1:=by rw[<- aI];simp
 have G8:∀{id g c},ao H id g=some c->ao B id g=some c:=fun {id g c} bb=>by have:=hL bb;unfold ao at bb |-;rw[EC id this];exact bb
 have ae:elems B 5 (.aB H.length 0 0 1 5)=some ([row].length,[row].flatten):=by
  rw[<- aI];exact(RdW.aB (R:=[row]) (by simpa using dz H 0 row) (by intro r ar;simp at ar;subst ar;exact FM)).el
 have OS:cp m 5 B v R:=av.bT fun id g n e=>EC id (av.lt id g n e)
 obtain⟨dQ,C,uQ,PX,J3,tE⟩:=OS.append (base:=base) (bytes:=48) (S:=[row]) gZ (by omega) (by intro r ar;simp at ar;subst ar;exact FM) (by simp) ae (by simpa using C') (by simp;omega)
 obtain⟨aun,⟨ck,_⟩|⟨id,g,rfl,atU,hid⟩⟩:=PX
 .simp at ck
 have aFU:cp m 5 C (.aB id g 0 (R++[row]).length 5) (R++[row]):=⟨aun,.inr ⟨id,g,rfl,atU,hid⟩⟩
 have aBZ:∀x,x<m->∀g n,v≠.aB x g 0 n 5:=by
  intro x ae g n e
  obtain⟨_,⟨_,rfl⟩|⟨eX,g',rfl,_,IC⟩⟩:=av
  .cases e
  .cases e;omega
 have abf:∀x,x<m->C[x]?=H[x]?:=fun x ae=>by rw[tE x (by omega) (aBZ x ae),EC x (by omega)]
 have P7:∀{x g c},x<m->ao H x g=some c->ao C x g=some c:=fun {x g c} ae bb=>by unfold ao at bb |-;rw[abf x ae];exact bb
 have akC:=P7 azk aT;obtain⟨E,bx⟩:∃E,C.set o (.cells 0 [.aB id g 0 (R.length+1) 5])=E:=⟨_,rfl⟩
 have J7:E.length=C.length:=by rw[<- bx];exact eF
 have aF2:ao E o 0=some [.aB id g 0 (R.length+1) 5]:=by rw[<- bx];exact e4 akC _
 have q9:∀x,x≠o->E[x]?=C[x]?:=fun x ae=>by rw[<- bx,cf (gG ae)]
 have xX:∀{x g c},x≠o->ao C x g=some c->ao E x g=some c:=fun {x g c} ae bb=>by unfold ao at bb |-;rw[q9 x ae];exact bb
 have aDC:cp m 5 E (.aB id g 0 (R++[row]).length 5) (R++[row]):=aFU.bT fun eX g' c3 e=>by cases e;exact q9 id (by omega)
 have al5:=xX (gG auj) (P7 apA hh);have acX:=xX (gG ahC) (P7 aF6 gg);have aEX:=OL e5 base af iZ acX aN ak aa;obtain⟨rc,alM⟩:∃rc,n9 (Tok.e2 ((b.data.toList.drop at').take n) (a6,aZ)).1 (Tok.e2 ((b.data.toList.drop at').take n) (a6,aZ)).2 b (at'+n)=rc:=⟨_,rfl⟩;have ahk:∀bo,(E.set i bo).length=E.length:=fun bo=>eF;have aI0:∀nM bo,trim E.length nM (E.set i bo)=E.set i bo:=fun nM bo=>Aa (ahk bo)
 have NQ:∀bo,ao (E.set i bo) o 0=some [.aB id g 0 (R.length+1) 5]:=fun bo=>by rw[tv bo ahC];exact aF2
 have aek:(R++[row]).length=R.length+1:=by simp
 have b4:IntKind.i64.wrap (((R.length+1:Nat):Int)-1)=(R.length:Int):=by rw[IntKind.wrap_i64];omega
 have Dk:(0<=(R.length:Int)/\(R.length:Int)<((R.length+1:Nat):Int)/\5=5):=by omega
 have aw9:H++[bq.cells 0 [V.s (.int .u8 kind),V.s (.string ⟨((b.data.toList.drop at').take n).toArray⟩),V.s (.int .i64 0),V.s (.int .i64 a6),V.s (.int .i64 aZ)]]=B:=by rw[aAh];exact aI
 refine⟨id,g,_,ih (c:=w8) aR (r:=(.ref id g (R.length*5),E.set i (.cells 0 rc))) (by simp[w8]) ?_,?_⟩
 .simp only[w8,simprocAttr,arp,aM,bd,aT,hh,ju,aV,Gd,hI,extract_eq,aw9,uQ,akC,ns,bx,al5,aEX,alM,NQ,aek,b4,Dk]
 .have ahJ:cp m 5 (E.set i (.cells 0 rc)) (.aB id g 0 (R++[row]).length 5) (R++[row]):=aDC.bT fun eX g' c3 e=>by cases e;exact cf (by omega)
  have ac4:m<=E.length:=by omega
  refine⟨⟨by rw[tv _ (fun e=>aDE e)];exact al5,by rw[alM];exact e4 acX _,⟨_,NQ _,by rw[<- aek];exact ahJ⟩,by rw[eF];exact ac4,st.lt,st.ne⟩,NQ _,hid,?_,⟨by rw[eF];exact ac4,fun x ae DX=>?_⟩⟩
  .obtain⟨_,⟨ck,_⟩|⟨eX,g',e,k0,_⟩⟩:=ahJ
   .simp at ck
   .cases e;exact k0
  .simp only[kf,xa,vN,zU]at DX;rw[cf (gG DX.2),q9 x DX.1,abf x ae]
end
end Go.Proofs.YtbocmenkkjbigaaDoor
namespace Go.dO
def C4:List V->Nat->az->Option (V × az):=fun vs _ H=>match vs with
 | [.s (.string b),.s (.int .u8 c)]=>some (.s (.int .i64 (Lib.indexByte b.data.toList c.toNat.toUInt8)),H)
 |_=>none
def y0:List V->Nat->az->Option (V × az):=fun vs _ H=>match vs with
 | [.s (.string b)]=>if b.size<=18 then(Lib.atoi b.data.toList).map fun n=>(.bV [.s (.int .i64 n),.s .nilIface],H)else none
 |_=>none
end Go.dO
set_option maxRecDepth 100000
namespace Go.Proofs.YtbocmenkkjbigaaDoor
open Go.dO
structure rT (ah:Nat->Option c7):Prop where
 letter:ah Kd=some (.code xb)
 digit:ah KG=some (.code wF)
 other:ah OH=some (.code wJ)
 within:ah Nk=some (.code wT)
 step:ah L3=some (.code uZ)
 ba:ah St=some (.code wM)
 put:ah Rm=some (.code w8)
 idx:ah zQ=some (.oD C4)
 atoi:ah aaU=some (.oD y0)
def kj.trim{m H o h i b a6 aZ at' R}(st:kj m H o h i b a6 aZ at' R)(fr):kj m (Go.dO.trim m fr H) o h i b a6 aZ at' R:=by
 obtain⟨v,aT,av⟩:=st.out;exact⟨Gm st.hold st.lt.1,Gm st.rd st.lt.2.1,⟨v,Gm aT st.lt.2.2,cp.aoC av aT st.lt.2.2 fr⟩,J4 st.len,st.lt,st.ne⟩
def hd(b:ByteArray)(d h o:Nat):Env:=[(0,.s (.string b)),(3,.ref d 0 0),(5,.ref h 0 0),(6,.ref o 0 0),(7,.fn 25 [] [.ref o 0 0,.ref h 0 0])]
def NA(c):∀l:List UInt8,decide (Lib.indexByte l c ≥ 0)=l.contains c
 | []=>by simp[Lib.indexByte]
 |b::l=>by
   have aw:=NA c l;have J:=Lib.indexByte_ge l c;rw[EJ,<- aw,fc,iA,jq,iA];simp only[Lib.indexByte];by_cases e:b=c
   .subst e;simp
   .have aF:(b==c)=false:=by simpa using e
    have aK:(c==b)=false:=by simpa using fun h=>e h.symm
    rw[aF,aK];by_cases dS:Lib.indexByte l c=-1
    .simp[dS]
    .have e3:(Lib.indexByte l c == -1)=false:=by simpa using dS
     simp only[e3,gx,lk,false_or];omega
def t'(c):decide (Lib.indexByte [32,9,13,10] c ≥ 0)=Tok.blank c:=by
 rw[NA];unfold Tok.blank;simp only[EJ,Kt,uE,SY]
def zq(c):decide (Lib.indexByte [61,44,58,40,41,123,125,91,93] c ≥ 0)=Tok.sign c:=by
 rw[NA];unfold Tok.sign;simp only[EJ,Kt,uE,SY]
section
variable {ah:Nat->Option c7}
def kj.put{m H o h i b a6 aZ at' R}(st:kj m H o h i b a6 aZ at' R)(fr I8 KH pC):kj m (Go.dO.trim m fr (H.set i (.cells 0 (n9 I8 KH b pC)))) o h i b I8 KH pC R/\aA m [o,i] H (Go.dO.trim m fr (H.set i (.cells 0 (n9 I8 KH b pC)))):=by
 obtain⟨v,aT,av⟩:=st.out;obtain⟨J,U,ax⟩:=st.lt;obtain⟨cw,bN,po⟩:=st.ne
 have dd:m<=(H.set i (.cells 0 (n9 I8 KH b pC))).length:=by rw[eF];exact st.len
 refine⟨kj.trim ⟨by rw[tv _ po];exact st.hold,e4 st.rd _,⟨v,by rw[tv _ bN];exact aT,av.bT fun id g n e=>?_⟩,dd,st.lt,st.ne⟩ fr,⟨J4 dd,fun x ae DX=>?_⟩⟩
 .obtain⟨_,⟨_,rfl⟩|⟨eX,g',rfl,_,hid⟩⟩:=av
  .cases e
  .cases e
   exact cf (by omega)
 .simp only[kf,xa,vN,zU]at DX;rw[tQ _ _ _ ae,cf (gG DX.2)]
def aq3(T:rT ah){base m b}(af:b.size<=2^40){d o h i}(ns:base<=o)(iZ:base<=i)(gZ:base<=m){H a6 aZ at' R}(st:kj m H o h i b a6 aZ at' R)(ak:a6<=at'+1)(aa:aZ<=at'+1)(b8:R.length<=at'+1){c}(ae:b.data.toList[at']?=some c)(ds:Tok.blank c=true):
 ∃H',aG (aC (aU ah) aG base p8) [] m (au 106 (hd b d h o)) H=aG (aC (aU ah) aG base p8) [] m (au 106 (hd b d h o)) H'/\kj m H' o h i b (if c=10 then a6+1 else a6) (if c=10 then 1 else aZ+1) (at'+1) R/\aA m [o,i] H H':=by
 have gg:=st.rd;have hh:=st.hold;have ju:ao H i 0=some [bd a6,bd aZ,.s (.string b),bd at']:=gg;have bt:at'<b.size:=(cC.1 ae).1
 have eD:((at':Int)<(b.size:Int)):=by omega
 have fi:b.data.toList.drop at'=c::b.data.toList.drop (at'+1):=by
  rw[hN bt,(cC.1 ae).2]
 have oZ:∀(s:ByteArray) (base:Nat) (H:az),aU ah (.fn zQ [] []) [.s (.string s),.s (.int .u8 c.toNat)] base H=some (.s (.int .i64 (Lib.indexByte s.data.toList c)),H):=fun s base H=>by
  refine wV ?_;simp only[kN,T.idx];show some (V.s (.int .i64 (Lib.indexByte s.data.toList (c.toNat:Int).toNat.toUInt8)),H)=_
  rw[oH,show c.toNat.toUInt8=c by simp]
 have oQ:=fun base H=>vX T.letter c base H;have rk:=fun base H=>s4 T.digit c base H
 have zO:=OL T.step base af iZ gg (n:=1) (by omega) ak aa
 rw[bd,show((1:Nat):Int)=1 from rfl,fi,fI,gq]at zO
 obtain⟨s1,s2⟩:=st.put (au 106 (hd b d h o)) (if c=10 then a6+1 else a6) (if c=10 then 1 else aZ+1) (at'+1)
 refine⟨_,?_,s1,s2⟩
 have aF:(Tok.e2 [c] (a6,aZ))=((if c=10 then a6+1 else a6),(if c=10 then 1 else aZ+1)):=by
  simp only[Tok.e2];split<;>rfl
 rw[aF]at zO;rw[eo];simp only[hd,simprocAttr,qb,aM,hh,ju,eD,ae,oZ,t',ds,zO]
def ao4(T:rT ah){base m b}(af:b.size<=2^40){d o h i}(ns:base<=o)(iZ:base<=i)(gZ:base<=m){H a6 aZ at' R}(st:kj m H o h i b a6 aZ at' R)(ak:a6<=at'+1)(aa:aZ<=at'+1)(b8:R.length<=at'+1){c}(ae:b.data.toList[at']?=some c)(ds:Tok.blank c=false)(eR:c=59):
 ∃H',aG (aC (aU ah) aG base p8) [] m (au 106 (hd b d h o)) H=aG (aC (aU ah) aG base p8) [] m (au 106 (hd b d h o)) H'/\kj m H' o h i b a6 (aZ+(Tok.ba Tok.other (b.data.toList.drop (at'+1))+1)) (at'+(Tok.ba Tok.other (b.data.toList.drop (at'+1))+1)) R/\aA m [o,i] H H':=by
 have gg:=st.rd;have hh:=st.hold;have ju:ao H i 0=some [bd a6,bd aZ,.s (.string b),bd at']:=gg;have bt:at'<b.size:=(cC.1 ae).1
 have eD:((at':Int)<(b.size:Int)):=by omega
 have fi:b.data.toList.drop at'=c::b.data.toList.drop (at'+1):=by
  rw[hN bt,(cC.1 ae).2]
 have oZ:∀(s:ByteArray) (base:Nat) (H:az),aU ah (.fn zQ [] []) [.s (.string s),.s (.int .u8 c.toNat)] base H=some (.s (.int .i64 (Lib.indexByte s.data.toList c)),H):=fun s base H=>by
  refine wV ?_;simp only[kN,T.idx];show some (V.s (.int .i64 (Lib.indexByte s.data.toList (c.toNat:Int).toNat.toUInt8)),H)=_
  rw[oH,show c.toNat.toUInt8=c by simp]
 have oQ:=fun base H=>vX T.letter c base H;have rk:=fun base H=>s4 T.digit c base H
 have F3:=fun base=>Ei T.ba base (fun c base H=>aD0 T.other c base H) ⟨_,rfl⟩ af gg (by omega)
 have ei:=Tok.sD Tok.other (b.data.toList.drop (at'+1));rw[fJ,show b.data.toList.length=b.size from rfl]at ei
 simp only[fi,Tok.ba,a' (show Tok.other c=true by rw[eR];decide)]at F3
 have zO:=OL T.step base af iZ gg (n:=Tok.ba Tok.other (b.data.toList.drop (at'+1))+1) (by omega) ak aa
 rw[fi,fI,Tok.ur _ _ (Tok.vL Tok.other (by decide) _ (by rw[eR];decide)),gP,Tok.qn]at zO
 obtain⟨s1,s2⟩:=st.put (au 106 (hd b d h o)) a6 (aZ+(Tok.ba Tok.other (b.data.toList.drop (at'+1))+1)) (at'+(Tok.ba Tok.other (b.data.toList.drop (at'+1))+1));refine⟨_,?_,s1,s2⟩
 have jj:((c.toNat:Int)==59)=true:=by rw[eR];rfl
 rw[eo];simp only[hd,simprocAttr,bd,qb,aM,hh,ju,eD,ae,oZ,t',ds,jj,F3,zO]
end
def aA.cj{m D A B}(h:aA m D A B)(fr):aA m D A (Go.dO.trim m fr B):=aA.trim h (bS _) fr
def ajN:∀(l:List UInt8) (acc:Nat),(∀x∈l,Tok.digit x=true)->Lib.decFrom acc l=some (l.foldl (fun n c=>n*10+(c.toNat-48)) acc)
 | [],acc,_=>rfl
 |c::l,acc,h=>by
   have aa:=h c iH;unfold Tok.digit at aa;simp only[dr,lm]at aa;simp only[Lib.decFrom,Lib.digitVal,a' aa,Gz];exact ajN l _ fun x ae=>h x (hP _ ae)
theorem aqH(l)(a1:l≠[])(h:∀x∈l,Tok.digit x=true):Lib.atoi l=some (Tok.val l:Int):=by
 cases l with
 |nil=>exact absurd rfl a1
 |cons c l=>
   have aa:=h c iH
   have aF:(c==45)=false:=by rw[eZ];rintro rfl;revert aa;decide
   have aK:(c==43)=false:=by rw[eZ];rintro rfl;revert aa;decide
   simp only[Lib.atoi,aF,aK,lk,gx,Lib.decNat,List.isEmpty_cons];rw[ajN _ _ h];rfl
section
variable {ah:Nat->Option c7}
def aAU(T:rT ah){base m:Nat}{b}(af:b.size<=2^40){d o h i:Nat}(ns:base<=o)(iZ:base<=i)(gZ:base<=m){H}{a6 aZ at':Nat}{R}(st:kj m H o h i b a6 aZ at' R)(ak:a6<=at'+1)(aa:aZ<=at'+1)(b8:R.length<=at'+1){c:UInt8}(ae:b.data.toList[at']?=some c)(ds:Tok.blank c=false)(eR:c≠59)(eJ:Tok.letter c=true):
 ∃H',aG (aC (aU ah) aG base p8) [] m (au 106 (hd b d h o)) H=aG (aC (aU ah) aG base p8) [] m (au 106 (hd b d h o)) H'/\kj m H' o h i b a6 (aZ+(Tok.ba Tok.within (b.data.toList.drop (at'+1))+1)) (at'+(Tok.ba Tok.within (b.data.toList.drop (at'+1))+1)) (R++[cP ⟨1,c::(b.data.toList.drop (at'+1)).take (Tok.ba Tok.within (b.data.toList.drop (at'+1))),0,a6,aZ⟩])/\aA m [o,i] H H':=by
 have gg:=st.rd;have hh:=st.hold;have ju:ao H i 0=some [bd a6,bd aZ,.s (.string b),bd at']:=gg;have bt:at'<b.size:=(cC.1 ae).1
 have eD:((at':Int)<(b.size:Int)):=by omega
 have fi:b.data.toList.drop at'=c::b.data.toList.drop (at'+1):=by
  rw[hN bt,(cC.1 ae).2]
 have oZ:∀(s:ByteArray) (base:Nat) (H:az),aU ah (.fn zQ [] []) [.s (.string s),.s (.int .u8 c.toNat)] base H=some (.s (.int .i64 (Lib.indexByte s.data.toList c)),H):=fun s base H=>by
  refine wV ?_;simp only[kN,T.idx];show some (V.s (.int .i64 (Lib.indexByte s.data.toList (c.toNat:Int).toNat.toUInt8)),H)=_
  rw[oH,show c.toNat.toUInt8=c by simp]
 have oQ:=fun base H=>vX T.letter c base H;have rk:=fun base H=>s4 T.digit c base H;have o6:=st.len
 have F3:=fun base=>Ei T.ba base (fun c base H=>Nr T.within (vX T.letter) (s4 T.digit) c base H) ⟨_,rfl⟩ af gg (by omega)
 have ei:=Tok.sD Tok.within (b.data.toList.drop (at'+1));rw[fJ,show b.data.toList.length=b.size from rfl]at ei
 have hw:Tok.within c=true:=by unfold Tok.within;rw[eJ];rfl
 simp only[fi,Tok.ba,a' hw]at F3
 obtain⟨id,g,H1,aF,s1,fK,m1,cq,k1⟩:=Ir T.put T.step st af ns iZ gZ (n:=Tok.ba Tok.within (b.data.toList.drop (at'+1))+1) (by omega) ak aa b8 1
 rw[fi,fI,Tok.ur _ _ (Tok.vL Tok.within (by decide) _ (Tok.s3 (.inl eJ))),gP,Tok.qn]at s1
 rw[bd,show((1:Nat):Int)=1 from rfl]at aF;refine⟨_,?_,s1.trim (au 106 (hd b d h o)),aA.cj k1 (au 106 (hd b d h o))⟩
 have jj:((c.toNat:Int)==59)=false:=by rw[eZ];intro e;exact eR ((fQ c 59).2 e)
 rw[eo];simp only[hd,simprocAttr,bd,qb,aM,hh,ju,eD,ae,oZ,t',ds,jj,oQ,eJ,F3,aF]
def aHM(T:rT ah){base m:Nat}{b}(af:b.size<=2^40){d o h i:Nat}(ns:base<=o)(iZ:base<=i)(gZ:base<=m){H}{a6 aZ at':Nat}{R}(st:kj m H o h i b a6 aZ at' R)(ak:a6<=at'+1)(aa:aZ<=at'+1)(b8:R.length<=at'+1){c:UInt8}(ae:b.data.toList[at']?=some c)(ds:Tok.blank c=false)(eR:c≠59)(eJ:Tok.letter c=false)(fk:Tok.digit c=false)(nP:Tok.sign c=true):
 ∃H',aG (aC (aU ah) aG base p8) [] m (au 106 (hd b d h o)) H=aG (aC (aU ah) aG base p8) [] m (au 106 (hd b d h o)) H'/\kj m H' o h i b a6 (aZ+1) (at'+1) (R++[cP ⟨3,[c],0,a6,aZ⟩])/\aA m [o,i] H H':=by
 have gg:=st.rd;have hh:=st.hold;have ju:ao H i 0=some [bd a6,bd aZ,.s (.string b),bd at']:=gg;have bt:at'<b.size:=(cC.1 ae).1
 have eD:((at':Int)<(b.size:Int)):=by omega
 have fi:b.data.toList.drop at'=c::b.data.toList.drop (at'+1):=by
  rw[hN bt,(cC.1 ae).2]
 have oZ:∀(s:ByteArray) (base:Nat) (H:az),aU ah (.fn zQ [] []) [.s (.string s),.s (.int .u8 c.toNat)] base H=some (.s (.int .i64 (Lib.indexByte s.data.toList c)),H):=fun s base H=>by
  refine wV ?_;simp only[kN,T.idx];show some (V.s (.int .i64 (Lib.indexByte s.data.toList (c.toNat:Int).toNat.toUInt8)),H)=_
  rw[oH,show c.toNat.toUInt8=c by simp]
 have oQ:=fun base H=>vX T.letter c base H;have rk:=fun base H=>s4 T.digit c base H;have o6:=st.len
 obtain⟨id,g,H1,aF,s1,fK,m1,cq,k1⟩:=Ir T.put T.step st af ns iZ gZ (n:=1) (by omega) ak aa b8 3
 rw[fi,fI,gq,Tok.ur _ _ (by simpa using Tok.s3 (.inr (.inr nP)))]at s1
 rw[bd,show((1:Nat):Int)=1 from rfl,show((3:Nat):Int)=3 from rfl]at aF;refine⟨_,?_,s1.trim (au 106 (hd b d h o)),aA.cj k1 (au 106 (hd b d h o))⟩
 have jj:((c.toNat:Int)==59)=false:=by rw[eZ];intro e;exact eR ((fQ c 59).2 e)
 rw[eo];simp only[hd,simprocAttr,bd,qb,aM,hh,ju,eD,ae,oZ,t',zq,ds,jj,oQ,eJ,rk,fk,nP,aF]
def Md{m d H x y}(hm:m<=H.length)(aQ:ao H d 0=some [x,y])(l2:d<m)(fr c):ao (Go.dO.trim m fr (H.set d (.cells 0 c))) d 0=some c/\aA m [d] H (Go.dO.trim m fr (H.set d (.cells 0 c))):=
 ⟨Gm (e4 aQ _) l2,J4 (by rw[eF];exact hm),fun id J U=>by rw[tQ _ _ _ J,cf (by simp at U;exact gG U)]⟩
def axL(T:rT ah){base m b}(af:b.size<=2^40){d o h i}(ns:base<=o)(iZ:base<=i)(gZ:base<=m){H a6 aZ at' R}(st:kj m H o h i b a6 aZ at' R)(ak:a6<=at'+1)(aa:aZ<=at'+1)(b8:R.length<=at'+1){c}(ae:b.data.toList[at']?=some c)(ds:Tok.blank c=false)(eR:c≠59)(eJ:Tok.letter c=false)(fk:Tok.digit c=false)(nP:Tok.sign c=false)(aQ:∃x y,ao H d 0=some [x,y])(jl:base<=d)(l2:d<m):
 ∃H',aG (aC (aU ah) aG base p8) [] m (au 106 (hd b d h o)) H=some (.ret,au 106 [(2,bz),(3,.ref d 0 0),(4,.s (.int .i64 30))],H')/\ao H' d 0=some [bd a6,bd aZ]/\aA m [d] H H':=by
 have gg:=st.rd;have hh:=st.hold;have ju:ao H i 0=some [bd a6,bd aZ,.s (.string b),bd at']:=gg;have bt:at'<b.size:=(cC.1 ae).1
 have eD:((at':Int)<(b.size:Int)):=by omega
 have fi:b.data.toList.drop at'=c::b.data.toList.drop (at'+1):=by
  rw[hN bt,(cC.1 ae).2]
 have oZ:∀(s:ByteArray) (base:Nat) (H:az),aU ah (.fn zQ [] []) [.s (.string s),.s (.int .u8 c.toNat)] base H=some (.s (.int .i64 (Lib.indexByte s.data.toList c)),H):=fun s base H=>by
  refine wV ?_;simp only[kN,T.idx];show some (V.s (.int .i64 (Lib.indexByte s.data.toList (c.toNat:Int).toNat.toUInt8)),H)=_
  rw[oH,show c.toNat.toUInt8=c by simp]
 have oQ:=fun base H=>vX T.letter c base H;have rk:=fun base H=>s4 T.digit c base H;have o6:=st.len;obtain⟨x,y,aQ⟩:=aQ;obtain⟨s1,s2⟩:=Md o6 aQ l2 (au 106 [(2,bz),(3,.ref d 0 0),(4,.s (.int .i64 30))]) [bd a6,bd aZ];refine⟨_,?_,s1,s2⟩
 have jj:((c.toNat:Int)==59)=false:=by rw[eZ];intro e;exact eR ((fQ c 59).2 e)
 rw[eo];simp only[hd,simprocAttr,bz,bd,qb,aM,hh,ju,eD,ae,oZ,t',zq,ds,jj,oQ,eJ,rk,fk,nP,aQ,jl]
def aqL(T:rT ah){base m b}(af:b.size<=2^40){d o h i}(ns:base<=o)(iZ:base<=i)(gZ:base<=m){H a6 aZ at' R}(st:kj m H o h i b a6 aZ at' R)(ak:a6<=at'+1)(aa:aZ<=at'+1)(b8:R.length<=at'+1){c}(ae:b.data.toList[at']?=some c)(ds:Tok.blank c=false)(eR:c≠59)(eJ:Tok.letter c=false)(fk:Tok.digit c=true)(aQ:∃x y,ao H d 0=some [x,y])(jl:base<=d)(l2:d<m)(jo:(9<Tok.ba Tok.digit (b.data.toList.drop (at'+1))+1\/(1<Tok.ba Tok.digit (b.data.toList.drop (at'+1))+1/\c=48)\/Tok.ba Tok.digit (b.data.toList.drop (at'+1))<Tok.ba Tok.within (b.data.toList.drop (at'+1)))):
 ∃H',aG (aC (aU ah) aG base p8) [] m (au 106 (hd b d h o)) H=some (.ret,au 106 [(2,bz),(3,.ref d 0 0),(4,.s (.int .i64 31))],H')/\ao H' d 0=some [bd a6,bd aZ]/\aA m [d] H H':=by
 have gg:=st.rd;have hh:=st.hold;have ju:ao H i 0=some [bd a6,bd aZ,.s (.string b),bd at']:=gg;have bt:at'<b.size:=(cC.1 ae).1
 have eD:((at':Int)<(b.size:Int)):=by omega
 have fi:b.data.toList.drop at'=c::b.data.toList.drop (at'+1):=by
  rw[hN bt,(cC.1 ae).2]
 have oZ:∀(s:ByteArray) (base:Nat) (H:az),aU ah (.fn zQ [] []) [.s (.string s),.s (.int .u8 c.toNat)] base H=some (.s (.int .i64 (Lib.indexByte s.data.toList c)),H):=fun s base H=>by
  refine wV ?_;simp only[kN,T.idx];show some (V.s (.int .i64 (Lib.indexByte s.data.toList (c.toNat:Int).toNat.toUInt8)),H)=_
  rw[oH,show c.toNat.toUInt8=c by simp]
 have oQ:=fun base H=>vX T.letter c base H;have rk:=fun base H=>s4 T.digit c base H;have o6:=st.len
 have rQ:=fun base=>Ei T.ba base (fun c base H=>s4 T.digit c base H) ⟨_,rfl⟩ af gg (by omega)
 have xu:=fun base=>Ei T.ba base (fun c base H=>Nr T.within (vX T.letter) (s4 T.digit) c base H) ⟨_,rfl⟩ af gg (by omega)
 have ei:=Tok.sD Tok.digit (b.data.toList.drop (at'+1));rw[fJ,show b.data.toList.length=b.size from rfl]at ei
 have hw:Tok.within c=true:=by unfold Tok.within;rw[fk,eJ];rfl
 simp only[fi,Tok.ba,a' hw]at xu;simp only[fi,Tok.ba,a' fk]at rQ
 have jj:((c.toNat:Int)==59)=false:=by rw[eZ];intro e;exact eR ((fQ c 59).2 e)
 have qu:((c.toNat:Int)==48)=decide (c=48):=by rw[fc,cG,iA,fQ];rfl
 have bp:decide ((((Tok.ba Tok.digit (b.data.toList.drop (at'+1))+1:Nat):Int)) > 9)=decide (9<Tok.ba Tok.digit (b.data.toList.drop (at'+1))+1):=by rw[fc,iA,iA];omega
 have aP:decide ((((Tok.ba Tok.digit (b.data.toList.drop (at'+1))+1:Nat):Int)) > 1)=decide (1<Tok.ba Tok.digit (b.data.toList.drop (at'+1))+1):=by rw[fc,iA,iA];omega
 have bj:decide ((((Tok.ba Tok.within (b.data.toList.drop (at'+1))+1:Nat):Int)) > ((Tok.ba Tok.digit (b.data.toList.drop (at'+1))+1:Nat):Int))=decide (Tok.ba Tok.digit (b.data.toList.drop (at'+1))<Tok.ba Tok.within (b.data.toList.drop (at'+1))):=by rw[fc,iA,iA];omega
 obtain⟨x,y,aQ⟩:=aQ;obtain⟨s1,s2⟩:=Md o6 aQ l2 (au 106 [(2,bz),(3,.ref d 0 0),(4,.s (.int .i64 31))]) [bd a6,bd aZ];refine⟨_,?_,s1,s2⟩;rw[eo];by_cases cy:9<Tok.ba Tok.digit (b.data.toList.drop (at'+1))+1
 .simp only[hd,simprocAttr,bz,bd,qb,aM,hh,ju,eD,ae,oZ,t',zq,ds,jj,oQ,eJ,rk,fk,rQ,xu,qu,bp,aP,cy,aQ,jl]
 .by_cases a2:1<Tok.ba Tok.digit (b.data.toList.drop (at'+1))+1
  .by_cases a3:c=48
   .have a5:=u1 a3;simp only[hd,simprocAttr,bz,bd,qb,aM,hh,ju,eD,ae,oZ,t',zq,ds,jj,oQ,eJ,rk,fk,rQ,xu,qu,bp,aP,cy,a2,a5,aQ,jl]
   .have a4:Tok.ba Tok.digit (b.data.toList.drop (at'+1))<Tok.ba Tok.within (b.data.toList.drop (at'+1)):=by
     rcases jo with h|⟨_,h⟩|h
     .exact absurd h cy
     .exact absurd h a3
     .exact h
    have a5:=tD a3;simp only[hd,simprocAttr,bz,bd,qb,aM,hh,ju,eD,ae,oZ,t',zq,ds,jj,oQ,eJ,rk,fk,rQ,xu,qu,bp,aP,bj,cy,a2,a5,a4,aQ,jl]
  .have a4:Tok.ba Tok.digit (b.data.toList.drop (at'+1))<Tok.ba Tok.within (b.data.toList.drop (at'+1)):=by
    rcases jo with h|⟨h,_⟩|h
    .exact absurd h cy
    .exact absurd h a2
    .exact h
   simp only[hd,simprocAttr,bz,bd,qb,aM,hh,ju,eD,ae,oZ,t',zq,ds,jj,oQ,eJ,rk,fk,rQ,xu,qu,bp,aP,bj,cy,a2,a4,aQ,jl]
def aHn(T:rT ah){base m:Nat}{b}(af:b.size<=2^40){d o h i:Nat}(ns:base<=o)(iZ:base<=i)(gZ:base<=m){H}{a6 aZ at':Nat}{R}(st:kj m H o h i b a6 aZ at' R)(ak:a6<=at'+1)(aa:aZ<=at'+1)(b8:R.length<=at'+1){c:UInt8}(ae:b.data.toList[at']?=some c)(ds:Tok.blank c=false)(eR:c≠59)(eJ:Tok.letter c=false)(fk:Tok.digit c=true)(jo:¬(9<Tok.ba Tok.digit (b.data.toList.drop (at'+1))+1\/(1<Tok.ba Tok.digit (b.data.toList.drop (at'+1))+1/\c=48)\/Tok.ba Tok.digit (b.data.toList.drop (at'+1))<Tok.ba Tok.within (b.data.toList.drop (at'+1)))):
 ∃H',aG (aC (aU ah) aG base p8) [] m (au 106 (hd b d h o)) H=aG (aC (aU ah) aG base p8) [] m (au 106 (hd b d h o)) H'/\kj m H' o h i b a6 (aZ+(Tok.ba Tok.digit (b.data.toList.drop (at'+1))+1)) (at'+(Tok.ba Tok.digit (b.data.toList.drop (at'+1))+1)) (R++[cP ⟨2,c::(b.data.toList.drop (at'+1)).take (Tok.ba Tok.digit (b.data.toList.drop (at'+1))),Tok.val (c::(b.data.toList.drop (at'+1)).take (Tok.ba Tok.digit (b.data.toList.drop (at'+1)))),a6,aZ⟩])/\aA m [o,i] H H':=by
 have gg:=st.rd;have hh:=st.hold;have ju:ao H i 0=some [bd a6,bd aZ,.s (.string b),bd at']:=gg;have bt:at'<b.size:=(cC.1 ae).1
 have eD:((at':Int)<(b.size:Int)):=by omega
 have fi:b.data.toList.drop at'=c::b.data.toList.drop (at'+1):=by
  rw[hN bt,(cC.1 ae).2]
 have oZ:∀(s:ByteArray) (base:Nat) (H:az),aU ah (.fn zQ [] []) [.s (.string s),.s (.int .u8 c.toNat)] base H=some (.s (.int .i64 (Lib.indexByte s.data.toList c)),H):=fun s base H=>by
  refine wV ?_;simp only[kN,T.idx];show some (V.s (.int .i64 (Lib.indexByte s.data.toList (c.toNat:Int).toNat.toUInt8)),H)=_
  rw[oH,show c.toNat.toUInt8=c by simp]
 have oQ:=fun base H=>vX T.letter c base H;have rk:=fun base H=>s4 T.digit c base H;have o6:=st.len
 have rQ:=fun base=>Ei T.ba base (fun c base H=>s4 T.digit c base H) ⟨_,rfl⟩ af gg (by omega)
 have xu:=fun base=>Ei T.ba base (fun c base H=>Nr T.within (vX T.letter) (s4 T.digit) c base H) ⟨_,rfl⟩ af gg (by omega)
 have ei:=Tok.sD Tok.digit (b.data.toList.drop (at'+1));rw[fJ,show b.data.toList.length=b.size from rfl]at ei
 have hw:Tok.within c=true:=by unfold Tok.within;rw[fk,eJ];rfl
 simp only[fi,Tok.ba,a' hw]at xu;simp only[fi,Tok.ba,a' fk]at rQ
 have jj:((c.toNat:Int)==59)=false:=by rw[eZ];intro e;exact eR ((fQ c 59).2 e)
 have qu:((c.toNat:Int)==48)=decide (c=48):=by rw[fc,cG,iA,fQ];rfl
 have bp:decide ((((Tok.ba Tok.digit (b.data.toList.drop (at'+1))+1:Nat):Int)) > 9)=decide (9<Tok.ba Tok.digit (b.data.toList.drop (at'+1))+1):=by rw[fc,iA,iA];omega
 have aP:decide ((((Tok.ba Tok.digit (b.data.toList.drop (at'+1))+1:Nat):Int)) > 1)=decide (1<Tok.ba Tok.digit (b.data.toList.drop (at'+1))+1):=by rw[fc,iA,iA];omega
 have bj:decide ((((Tok.ba Tok.within (b.data.toList.drop (at'+1))+1:Nat):Int)) > ((Tok.ba Tok.digit (b.data.toList.drop (at'+1))+1:Nat):Int))=decide (Tok.ba Tok.digit (b.data.toList.drop (at'+1))<Tok.ba Tok.within (b.data.toList.drop (at'+1))):=by rw[fc,iA,iA];omega
 obtain⟨id,g,H1,aF,s1,fK,m1,cq,k1⟩:=Ir T.put T.step st af ns iZ gZ (n:=Tok.ba Tok.digit (b.data.toList.drop (at'+1))+1) (by omega) ak aa b8 2
 rw[fi,fI,Tok.ur _ _ (Tok.vL Tok.digit (by decide) _ (Tok.s3 (.inr (.inl fk)))),gP,Tok.qn]at s1
 rw[fi,fI]at cq;rw[bd,show((2:Nat):Int)=2 from rfl]at aF;have cy:¬9<Tok.ba Tok.digit (b.data.toList.drop (at'+1))+1:=fun h=>jo (.inl h);have a4:¬Tok.ba Tok.digit (b.data.toList.drop (at'+1))<Tok.ba Tok.within (b.data.toList.drop (at'+1)):=fun h=>jo (.inr (.inr h));have a3:decide (1<Tok.ba Tok.digit (b.data.toList.drop (at'+1))+1)=true->decide (c=48)=false:=fun h=>tD fun e=>jo (.inr (.inl ⟨EG h,e⟩));obtain⟨lY,Jb⟩:∃lY,(c::(b.data.toList.drop (at'+1)).take (Tok.ba Tok.digit (b.data.toList.drop (at'+1))))=lY:=⟨_,rfl⟩;rw[Jb]at cq s1 |-
 have Dk:∀(s:ByteArray),(c::s.data.toList)=s.data.toList->False:=fun s e=>by have:=dX List.length e;simp at this
 have lC:∀base H,aU ah (.fn aaU [] []) [.s (.string ⟨lY.toArray⟩)] base H=some (.bV [bd (Tok.val lY),.s .nilIface],H):=by
  intro base H;refine wV ?_;simp only[kN,T.atoi];show y0 [.s (.string ⟨lY.toArray⟩)] base H=_
  have oR:lY.length<=9:=by rw[<- Jb,gP,Tok.qn];omega
  have de:(ByteArray.mk lY.toArray).size<=18:=by show lY.toArray.size<=18;rw[s0];omega
  simp only[y0,de,fl]
  rw[aqH lY (by rw[<- Jb];simp) (by rw[<- Jb];exact fun x ae=>(kf.1 ae).elim (fun e=>e▸fk) (fun ae=>Tok.GP _ _ _ ae))]
  rfl
 have TR:∀r∈R,r.length=5:=by obtain⟨v,_,av,_⟩:=st.out;exact av
 have Pw:=xz R TR
 have Fu:List.drop (R.length*5+1) (R++[cP ⟨2,lY,0,a6,aZ⟩]).flatten=[.s (.string ⟨lY.toArray⟩),bd ((0:Nat):Int),bd a6,bd aZ]:=by
  rw[tl,zF,qO (by omega),Pw]
  rw[show R.length*5+1-R.length*5=1 by omega]
  rfl
 have ahz:base<=id:=by omega
 have aKk:(R++[cP ⟨2,lY,0,a6,aZ⟩]).flatten.length=R.length*5+5:=by
  rw[tl,fU,Pw];rfl
 have amq:R.length*5+3<=(R++[cP ⟨2,lY,0,a6,aZ⟩]).flatten.length:=by omega
 have As:List.take (R.length*5+2) (R++[cP ⟨2,lY,0,a6,aZ⟩]).flatten++[V.s (Value.int IntKind.i64 (Tok.val lY:Nat))]++List.drop (R.length*5+3) (R++[cP ⟨2,lY,0,a6,aZ⟩]).flatten=(R++[cP ⟨2,lY,Tok.val lY,a6,aZ⟩]).flatten:=by
  rw[tl,tl,Ho,zF,wW (by omega),qO (by omega),Pw,show R.length*5+2-R.length*5=2 by omega,show R.length*5+3-R.length*5=3 by omega,kG,kG]
  rfl
 obtain⟨bK,iN⟩:∃bK,H1.set id (.cells g (R++[cP ⟨2,lY,Tok.val lY,a6,aZ⟩]).flatten)=bK:=⟨_,rfl⟩
 have k2:∀x,x<m->bK[x]?=H1[x]?:=fun x ae=>by rw[<- iN,cf (by omega)]
 have cI:∀{x:Nat} {c:List V},x<m->ao H1 x 0=some c->ao bK x 0=some c:=fun {x c} ae bb=>by unfold ao at bb |-;rw[k2 x ae];exact bb
 have s2:kj m bK o h i b a6 (aZ+(Tok.ba Tok.digit (b.data.toList.drop (at'+1))+1)) (at'+(Tok.ba Tok.digit (b.data.toList.drop (at'+1))+1)) (R++[cP ⟨2,lY,Tok.val lY,a6,aZ⟩]):=by
  refine⟨cI s1.lt.1 s1.hold,cI s1.lt.2.1 s1.rd,⟨_,cI s1.lt.2.2 fK,?_,.inr ⟨id,g,by simp,?_,m1⟩⟩,by rw[<- iN,eF];exact s1.len,s1.lt,s1.ne⟩
  .intro r ar
   rcases l1.1 ar with ar|ar
   .exact TR r ar
   .rw[fj]at ar;subst ar;rfl
  .rw[<- iN];exact e4 cq _
 have dx:aA m [o,i] H bK:=⟨by rw[<- iN,eF];exact s1.len,fun x ae aN=>by rw[k2 x ae,k1.2 x ae aN]⟩
 refine⟨_,?_,s2.trim (au 106 (hd b d h o)),aA.cj dx (au 106 (hd b d h o))⟩;rw[eo];cases a2:decide (1<Tok.ba Tok.digit (b.data.toList.drop (at'+1))+1)with
 |true=>
   have a5:=a3 a2;simp only[hd,simprocAttr,bd,qb,aM,hh,ju,eD,ae,oZ,t',zq,ds,jj,oQ,eJ,rk,fk,rQ,xu,qu,bp,aP,bj,cy,a2,a5,a4,aF,cq,Fu,lC,ahz,amq,As,iN]
 |false=>
   simp only[hd,simprocAttr,bd,qb,aM,hh,ju,eD,ae,oZ,t',zq,ds,jj,oQ,eJ,rk,fk,rQ,xu,qu,bp,aP,bj,cy,a2,a4,aF,cq,Fu,lC,ahz,amq,As,iN]
end
def rO(m d h o i:Nat)(b:ByteArray)(R:List (List V))(H:az)(out:Tok.Out)(X:Option cJ):Prop:=
 (∃ts a6 aZ H',out=.done (ts++[⟨4,[],0,a6,aZ⟩])/\X=some (.ext 0,au 106 (hd b d h o++[(26,aL false)]),H')/\kj m H' o h i b a6 aZ b.size (R++ts.map cP)/\aA m [o,i] H H'/\a6<=b.size+1/\aZ<=b.size+1/\R.length+ts.length<=b.size)\/
 (∃e a q H',out=.bad e a q/\X=some (.ret,au 106 [(2,bz),(3,.ref d 0 0),(4,.s (.int .i64 e))],H')/\ao H' d 0=some [bd a,bd q]/\aA m [o,i,d] H H')
def rO.bT{m d h o i b R H bK}{out:Tok.Out}{X}(r:rO m d h o i b R bK out X)(k:aA m [o,i] H bK):rO m d h o i b R H out X:=by
 rcases r with⟨ts,a6,aZ,H',J,U,ax,aY,cl⟩|⟨e,a,q,H',J,U,ax,aY⟩
 .exact .inl ⟨ts,a6,aZ,H',J,U,ax,k.trans aY (bS _),cl⟩
 .exact .inr ⟨e,a,q,H',J,U,ax,(aA.mono k (bS _) (fun id _ ae=>by simp at ae |-;rcases ae with h|h<;>simp[h])).trans aY (bS _)⟩
def rO.cons{m d h o i b R H bK}{out:Tok.Out}{X t}(r:rO m d h o i b (R++[cP t]) bK out X)(k:aA m [o,i] H bK):rO m d h o i b R H (.cons t out) X:=by
 rcases r.bT k with⟨ts,a6,aZ,H',rfl,U,ax,aY,cl,eM,ks⟩|⟨e,a,q,H',rfl,U,ax,aY⟩
 .refine .inl ⟨t::ts,a6,aZ,H',rfl,U,?_,aY,cl,eM,?_⟩
  .rw[lL,<- amo,<- kG];exact ax
  .rw[fU,bi]at ks;rw[gP];omega
 .exact .inr ⟨e,a,q,H',rfl,U,ax,aY⟩
section
variable {ah:Nat->Option c7}
def ard(T:rT ah){base m b}(af:b.size<=2^40){d o h i}(ns:base<=o)(iZ:base<=i)(gZ:base<=m)(jl:base<=d)(l2:d<m)(ark:d ∉ [o,i]):∀(N:Nat) (at' a6 aZ:Nat) (R:List (List V)) (H:az),b.size-at'<=N->at'<=b.size->kj m H o h i b a6 aZ at' R->a6<=at'+1->aZ<=at'+1->R.length<=at'->(∃x y,ao H d 0=some [x,y])->
 rO m d h o i b R H (Tok.lex (b.data.toList.drop at') a6 aZ) (aG (aC (aU ah) aG base p8) [] m (au 106 (hd b d h o)) H):=by
 have tW:∀(at' a6 aZ:Nat) (R:List (List V)) (H:az),b.size-at'=0->at'<=b.size->kj m H o h i b a6 aZ at' R->a6<=at'+1->aZ<=at'+1->R.length<=at'->
  rO m d h o i b R H (Tok.lex (b.data.toList.drop at') a6 aZ) (aG (aC (aU ah) aG base p8) [] m (au 106 (hd b d h o)) H):=by
  intro at' a6 aZ R H a1 J st ak aa b8
  obtain rfl:at'=b.size:=by omega
  have gg:=st.rd;have hh:=st.hold;have ju:ao H i 0=some [bd a6,bd aZ,.s (.string b),bd b.size]:=gg;rw[qO (show b.data.toList.length<=b.size from bS _),Tok.lex_nil]
  refine .inl ⟨[],a6,aZ,_,rfl,?_,by simpa using st.trim (au 106 (hd b d h o++[(26,aL false)])),aA.cj (A:=H) ⟨st.len,fun _ _ _=>rfl⟩ (au 106 (hd b d h o++[(26,aL false)])),ak,aa,by simpa using b8⟩
  rw[eo];simp only[hd,simprocAttr,bd,qb,aM,hh,ju,nq]
 intro N
 induction N with
 |zero=>exact fun at' a6 aZ R H a1 J st ak aa b8 _=>tW at' a6 aZ R H (by omega) J st ak aa b8
 |succ N aw=>
   intro at' a6 aZ R H a1 J st ak aa b8 aQ;by_cases b5:at'=b.size
   .exact tW at' a6 aZ R H (by omega) J st ak aa b8
   have bt:at'<b.data.toList.length:=by show at'<b.size;omega
   obtain⟨c,ae⟩:∃c,b.data.toList[at']?=some c:=⟨_,dy bt⟩
   have fi:b.data.toList.drop at'=c::b.data.toList.drop (at'+1):=by
    rw[hN bt,(cC.1 ae).2]
   have vl:∀k,(b.data.toList.drop (at'+1)).drop k=b.data.toList.drop (at'+(k+1)):=fun k=>by rw[nL];congr 1;omega
   have ei:∀p,at'+(Tok.ba p (b.data.toList.drop (at'+1))+1)<=b.size:=fun p=>by
    have:=Tok.sD p (b.data.toList.drop (at'+1));rw[fJ,show b.data.toList.length=b.size from rfl]at this;have:at'<b.size:=bt;omega
   have de:at'<b.size:=bt
   have me:∀{bK:az},aA m [o,i] H bK->∃x y,ao bK d 0=some [x,y]:=fun k=>by
    obtain⟨x,y,aQ⟩:=aQ;exact⟨x,y,k.ao aQ l2 ark⟩
   rw[fi,Tok.sq];cases ds:Tok.blank c with
   |true=>
     obtain⟨bK,e,s,k⟩:=aq3 T af ns iZ gZ (d:=d) st ak aa (by omega) ae ds
     rw[a' rfl,e]
     have r:=aw _ _ _ R bK (by omega) (by omega) s (by split<;>omega) (by split<;>omega) (by omega) (me k)
     refine rO.bT ?_ k;split<;>rename_i gm<;>simp only[gm,fl,gx]at r |-<;>exact r
   |false=>
     rw[bm (by simp)]
     by_cases eR:c=59
     .obtain⟨bK,e,s,k⟩:=ao4 T af ns iZ gZ (d:=d) st ak aa (by omega) ae ds eR
      rw[a' eR,e,vl]
      exact rO.bT (aw _ _ _ R bK (by omega) (ei _) s (by omega) (by omega) (by omega) (me k)) k
     .rw[bm eR];cases eJ:Tok.letter c with
      |true=>
        obtain⟨bK,e,s,k⟩:=aAU T af ns iZ gZ (d:=d) st ak aa (by omega) ae ds eR eJ
        rw[a' rfl,e,vl]
        exact rO.cons (aw _ _ _ _ bK (by omega) (ei _) s (by omega) (by omega) (by simp;omega) (me k)) k
      |false=>
        rw[bm (by simp)]
        cases fk:Tok.digit c with
        |true=>
          rw[a' rfl];split
          .rename_i jo
           obtain⟨bK,e,s,k⟩:=aqL T af ns iZ gZ st ak aa (by omega) ae ds eR eJ fk aQ jl l2 jo
           rw[e]
           exact .inr ⟨31,a6,aZ,bK,rfl,rfl,s,aA.mono k (bS _) (fun id _ ae=>by simp at ae |-;simp[ae])⟩
          .rename_i jo
           obtain⟨bK,e,s,k⟩:=aHn T af ns iZ gZ (d:=d) st ak aa (by omega) ae ds eR eJ fk jo
           rw[e,vl]
           exact rO.cons (aw _ _ _ _ bK (by omega) (ei _) s (by omega) (by omega) (by simp;omega) (me k)) k
        |false=>
          rw[bm (by simp)]
          cases nP:Tok.sign c with
          |true=>
            obtain⟨bK,e,s,k⟩:=aHM T af ns iZ gZ (d:=d) st ak aa (by omega) ae ds eR eJ fk nP
            rw[a' rfl,e]
            exact rO.cons (aw _ _ _ _ bK (by omega) (by omega) s (by omega) (by omega) (by simp;omega) (me k)) k
          |false=>
            obtain⟨bK,e,s,k⟩:=axL T af ns iZ gZ st ak aa (by omega) ae ds eR eJ fk nP aQ jl l2
            rw[bm (by simp),e]
            exact .inr ⟨30,a6,aZ,bK,rfl,rfl,s,aA.mono k (bS _) (fun id _ ae=>by simp at ae |-;simp[ae])⟩
end
def gA(l:List UInt8):List Tok.T × (Nat × Nat) × Nat:=if 1048576<l.length then([],(0,0),2)else match Tok.lex l 1 1 with
 |.done ts=>(ts,(0,0),0)
 |.bad e a q=>([],(a,q),e)
section
variable {ah:Nat->Option c7}
def aDX(aR:ah BX=some (.code p0))(T:rT ah)(base:Nat)(H:az)(xj:base<=H.length)(b:ByteArray)(r:List Tok.T × (Nat × Nat) × Nat)(ar:gA b.data.toList=r):
 ∃v H',aU ah (.fn BX [] []) [.s (.string b)] base H=some (.bV [v,.agg [bd r.2.1.1,bd r.2.1.2],.s (.int .i64 r.2.2)],H')/\cp H.length 5 H' v (r.1.map cP)/\aA H.length [] H H':=by
 have fM:base<=H.length+2:=by omega
 by_cases de:1048576<b.size
 .have xr:r=([],(0,0),2):=by rw[<- ar];exact a' de
  have bb:decide ((b.size:Int) > 1048576)=true:=by rw[iA];omega
  have e:aU ah (.fn BX [] []) [.s (.string b)] base H=some (.bV [bz,.agg [.s (.int .i64 0),.s (.int .i64 0)],.s (.int .i64 2)],H++[.cells 0 [.s (.int .i64 0),.s (.int .i64 0)]]):=by
   refine iY (c:=p0) (k:=1) aR rfl (by decide) NT ?_
   simp only[p0,simprocAttr,bz,qb,aM,bb,xj,tI,yp]
  subst xr
  exact⟨_,_,e,cp.start _ _ _,by simp,fun id h _=>by rw[d' h]⟩
 .have bb:decide ((b.size:Int) > 1048576)=false:=by rw[CR];omega
  obtain⟨L,dw⟩:∃L,H.length=L:=⟨_,rfl⟩;obtain⟨gj,jN⟩:∃gj,H++[bq.cells 0 [V.s (Value.int IntKind.i64 0),V.s (Value.int IntKind.i64 0)]]++[bq.cells 0 [V.s (Value.int IntKind.i64 1),V.s (Value.int IntKind.i64 1),V.s (Value.string b),V.s (Value.int IntKind.i64 0)]]++[bq.cells 0 [V.ref (List.length H+1) 0 0]]++[bq.cells 0 [V.s (Value.slice none 0 0)]]=gj:=⟨_,rfl⟩
  have hs:∀x,x<L->gj[x]?=H[x]?:=fun x ae=>by rw[<- jN];simp only[kG];rw[d' (by omega)]
  have sY:gj.length=L+4:=by rw[<- jN];simp[dw]
  have g0:ao gj L 0=some [bd 0,bd 0]:=by rw[<- jN];simp[ao,dw,bd]
  have g1:ao gj (L+1) 0=some (n9 1 1 b 0):=by rw[<- jN];simp[ao,dw,n9,bd]
  have g2:ao gj (L+2) 0=some [.ref (L+1) 0 0]:=by rw[<- jN];simp[ao,dw]
  have g3:ao gj (L+3) 0=some [bz]:=by rw[<- jN];simp[ao,dw,bz]
  have st:kj (L+4) gj (L+3) (L+2) (L+1) b 1 1 0 []:=⟨g2,g1,⟨_,g3,cp.start _ _ _⟩,by omega,by omega,by omega⟩
  have Ax:=ard T (base:=base) (m:=L+4) (b:=b) (by omega) (d:=L) (o:=L+3) (h:=L+2) (i:=L+1) (by omega) (by omega) (by omega) (by omega) (by omega) (by simp) b.size 0 1 1 [] gj (by omega) (by omega) st (by omega) (by omega) (by simp) ⟨_,_,g0⟩
  have kV:r=match Tok.lex b.data.toList 1 1 with
   |.done ts=>(ts,(0,0),0)
   |.bad e a q=>([],(a,q),e):=by rw[<- ar];exact bm de
  rw[l3]at Ax
  have oT:base<=L:=by omega
  have abN:base<=L+2:=by omega
  rcases Ax with⟨ts,a6,aZ,H',J,U,ax,aY,cl,eM,ks⟩|⟨e,a,q,H',J,U,ax,aY⟩
  .rw[J]at kV;simp only at kV;subst kV
   obtain⟨id,g,bK,aF,s1,fK,m1,cq,k1⟩:=Ir T.put T.step ax (base:=base) (by omega) (by omega) (by omega) (by omega) (n:=0) (by omega) cl eM (by simpa using Nat.le_succ_of_le ks) 4
   rw[bd,show((4:Nat):Int)=4 from rfl,show((0:Nat):Int)=0 from rfl]at aF
   have d2:ao bK L 0=some [bd 0,bd 0]:=k1.ao (aY.ao g0 (by omega) (by simp)) (by omega) (by simp)
   obtain⟨yS,qz⟩:∃yS,V.aB id g 0 (([]++ts.map cP).length+1) 5=yS:=⟨_,rfl⟩;rw[qz]at fK
   have oM:∀bo,ao (bK.set L bo) (L+3) 0=some [yS]:=fun bo=>by rw[tv _ (by omega)];exact fK
   have d3:∀c,ao (bK.set L (.cells 0 c)) L 0=some c:=fun c=>e4 d2 c
   have e:aU ah (.fn BX [] []) [.s (.string b)] base H=some (.bV [yS,.agg [.s (.int .i64 0),.s (.int .i64 0)],.s (.int .i64 0)],bK.set L (.cells 0 [.s (.int .i64 0),.s (.int .i64 0)])):=by
    refine iY (c:=p0) (k:=1) aR rfl (by decide) NT ?_
    simp only[hd]at U;rw[dw]at jN;simp only[p0,simprocAttr,qb,aM,dw,bb,oT,abN,alc,tI,yp,jN,sY,U,aF,fK,d2,d3]
   refine⟨_,_,e,?_,?_⟩
   .obtain⟨v1,_,uH,_⟩:=s1.out
    have rV:(ts++[(⟨4,[],0,a6,aZ⟩:Tok.T)]).map cP=[]++ts.map cP++[cP ⟨4,(b.data.toList.drop b.size).take 0,0,a6,aZ⟩]:=by rw[gq];simp
    rw[rV]
    refine⟨uH,.inr ⟨id,g,?_,?_,by omega⟩⟩
    .rw[<- qz];simp
    .unfold ao at cq |-
     rw[cf (by omega)]
     exact cq
   .refine⟨by rw[eF];have:=k1.1;omega,fun x ae _=>?_⟩
    rw[cf (by omega),k1.2 x (by omega) (by simp;omega),aY.2 x (by omega) (by simp;omega),hs x (by omega)]
  .rw[J]at kV;simp only at kV;subst kV
   have e:aU ah (.fn BX [] []) [.s (.string b)] base H=some (.bV [bz,.agg [.s (.int .i64 a),.s (.int .i64 q)],.s (.int .i64 e)],H'):=by
    refine iY (c:=p0) (k:=1) aR rfl (by decide) NT ?_
    simp only[hd,bz]at U;rw[dw]at jN;simp only[p0,simprocAttr,bz,qb,aM,dw,bb,oT,abN,alc,tI,yp,jN,sY,U,ax]
   exact⟨_,_,e,cp.start _ _ _,by have:=aY.1;omega,fun id hid _=>by rw[aY.2 id (by omega) (by simp;omega),hs id (by omega)]⟩
end
abbrev x3:Nat:=16
def IN:=[1]++List.range' 3 10
def XJ:=[q 2 (.alloc [ec,cm,dc,dc,dc])]
def akf:=[dt 5 2 12]
def aEq:=[ai 3 0,fb 4 3,b2 5 0 4,cL 6 5,ai 7 0,fb 8 7,b2 9 1 8,cL 10 9,iJ 11 5 6 10,q 12 (.load true 5 (.t 11))]
def ajj:=aEq++akf
def ri:eI:={ ntmps:=13,results:=[.cell 2 true 5],body:=
 (.seq (.region XJ [] IN)
 (.seq (.region ajj [] [0,3,4,5,6,7,8,9,10,11,12])
 .ret)) }
theorem aB3:gF (List.range' 1 (ri.ntmps-1)) ri.body=true:=by kernel_rfl
abbrev wC:Nat:=34
def Mj:=[1,2,3,4,5]
theorem aIH:hV Mj (gC 6 [] 1)=[]:=by kernel_rfl
def Xf:=[c0 2 (cv #[])]
def Po:=[q 5 (.field false 1 1 (.t 4)),ai 2 5]
def adp:=c2 4 49 [.t 3,cK 1]::Po
def amG:=[ai 3 0]
def Yp:=amG++adp
def vF:eI:={ ntmps:=6,results:=[.tmp 2],body:=
 (.seq (.bc Xf Mj [])
 (.seq (.region Yp [] [0,3,4,5])
 .ret)) }
abbrev FO:Nat:=35
def HG:=List.range' 1 21
theorem azg:hV HG (gC 22 [] 1)=[]:=by kernel_rfl
def QE:=[c0 2 rM]
def Qc:=[c0 3 rM]
def W':=[c2 5 36 [.t 4,cv #[40]]]
def acd:=[ai 4 0]
def OO:=acd++W'
def abS:=[q 8 (.un .not (.t 7))]
def Wl:=c2 7 50 [.t 6,cv #[41]]::abS
def aoN:=[ai 6 0]
def P5:=aoN++Wl
def FR:=[ai 9 3,q 10 (.dD .s (.t 9)),q 11 (.bin .gtr (.t 10) (b1 0))]
def aio:=[c2 13 36 [.t 12,cv #[44]]]
def U9:=[ai 12 0]
def Ic:=U9++aio
def alY:=[ai 3 18]
def adq:=q 18 (.append 1 16 (.t 14) (.t 17))::alY
def P':=q 17 (.fy 1 1 [cm] [(0,.t 16)])::adq
def adt:=c2 16 34 [.t 15]::P'
def agj:=[ai 14 3,ai 15 0]
def IG:=agj++adt
def M9:cM:=
 (.seq (.seq (.region P5 [] [6,7])
 (.cond (.t 8)
 .skip
 (.exit 0)))
 (.block 1
 (.seq (.seq (.bc FR [8,9,10] [11])
 (.cond (.t 11)
 (.region Ic [] [11,12,13])
 .skip))
 (.region IG [] [11,14,15,16,17,18]))))
def zb:cM:=M9
def abz:=[c2 20 36 [.t 19,cv #[41]]]
def ao0:=[ai 19 0]
def aee:=ao0++abz
def ane:=[ai 21 3,ai 2 21]
def rJ:eI:={ ntmps:=22,results:=[.tmp 2],body:=
 (.seq (.bc QE HG [])
 (.seq (.bc Qc [] [3])
 (.seq (.region OO [] [4,5])
 (.seq (.block 0
 (.loop [] zb))
 (.seq (.region aee [] [0,8,19,20])
 (.seq (.bc ane [3,21] [2])
 .ret)))))) }
abbrev Js:Nat:=36
def vG:=List.range' 1 6++List.range' 8 9
def Wg:=[q 7 (.un .not (.t 6))]
def Vg:=c2 6 50 [.t 4,.t 5]::Wg
def avl:=[ai 4 0,ai 5 1]
def afX:=avl++Vg
def WO:=[c2 9 17 [.t 8]]
def ab2:=[ai 8 0]
def Wz:=ab2++WO
def agR:=[dt 1 16 14]
def axw:=[ai 10 0,fb 11 10,b2 12 1 11,cL 13 12,q 14 (.bin .add (.t 13) (b1 1)),fb 15 10,b2 16 1 15]
def amU:=axw++agR
def vk:eI:={ ntmps:=17,results:=[],body:=
 (.seq (.seq (.region afX [] vG)
 (.cond (.t 7)
 (.region Wz [] [7,8,9])
 .skip))
 (.region amU [] [0,7,10,11,12,13,14,15,16])) }
theorem af9:gF (List.range' 2 (vk.ntmps-2)) vk.body=true:=by kernel_rfl
abbrev Ja:Nat:=37
def pI:=List.range' 1 8++[10,11]
def Xc:=[bQ 7 (.field false 0 1 (.t 6)) 4 true,bQ 8 (.bin .neq (.t 7) (cK 4)) 4 true,ev 9 (.t 4) (.t 8) dP]
def aaM:=bQ 6 (.call (.c (.fn 16 [] [])) [.t 5]) 4 true::Xc
def UQ:=da 5 0 4 true::aaM
def aBs:=[ai 4 3]
def VQ:=aBs++UQ
def U0:=c2 3 51 [.t 2]::VQ
def aFD:=[ai 2 0]
def VB:=aFD++U0
def afu:=[c2 11 17 [.t 10]]
def adL:=[ai 10 0]
def akv:=adL++afu
def sM:eI:={ ntmps:=12,results:=[],body:=
 (.seq (.region VB [] pI)
 (.cond (.t 9)
 (.region akv [] [0,9,10,11])
 .skip)) }
theorem MR:gF (List.range' 1 (sM.ntmps-1)) sM.body=true:=by kernel_rfl
abbrev Pk:Nat:=38
def HY:=List.range' 2 38
theorem aHh:hV HY (gC 40 [] 2)=[]:=by kernel_rfl
def aeU:=[c0 4 dP]
def aaF:=[q 8 (.field false 0 1 (.t 7)),q 9 (.bin .neq (.t 8) (cK 1))]
def T9:=c2 7 16 [.t 6]::aaF
def apC:=[ai 6 0]
def anv:=apC++T9
def ajf:=[c0 4 dP]
def Z':=[dt 5 5 20]
def amQ:=q 5 (.alloc [ec,cm,dc,dc,dc])::Z'
def aAo:=[ai 10 0,fb 11 10,b2 12 0 11,cL 13 12,ai 14 0,fb 15 14,b2 16 1 15,cL 17 16,q 18 (.bin .add (.t 17) (b1 1)),iJ 19 5 13 18,q 20 (.load true 5 (.t 19))]
def ac8:=aAo++amQ
def aaY:=[bQ 36 (.field true 3 2 (.t 35)) 30 true,bQ 37 (.field false 0 1 (.t 36)) 30 true,bQ 38 (.bin .eql (.t 33) (.t 37)) 30 true,ev 39 (.t 30) (.t 38) dP,ai 4 39]
def alD:=bQ 35 (.oe (.c (.fn 16 [] [])) [.t 34]) 30 true::aaY
def aiH:=da 34 0 30 true::alD
def W1:=e7 33 32 30 true::aiH
def ab6:=ef 32 0 31 30 true::W1
def acW:=ef 31 3 5 30 true::ab6
def aqp:=[b2 21 0 5,cL 22 21,q 23 (.bin .eql (.t 22) (cK 3)),ai 24 23,ef 25 1 5 24 true,e7 26 25 24 true,da 27 1 24 true,bQ 28 (.bin .eql (.t 26) (.t 27)) 24 true,ev 29 (.t 24) (.t 28) dP,ai 30 29]
def abo:=aqp++acW
def nX:eI:={ ntmps:=40,results:=[.tmp 4],body:=
 (.seq (.bc aeU HY [])
 (.seq (.seq (.region anv [] [6,7,8])
 (.cond (.t 9)
 (.seq (.bc ajf [0,1,9] [4])
 .ret)
 .skip))
 (.seq (.region ac8 [] [9,10,11,12,13,14,15,16,17,18,19,20])
 (.seq (.region abo [] [0,1,5,21,22,23,24,25,26,27,28,29,30,31,32,33,34,35,36,37,38,39])
 .ret)))) }
abbrev FP:Nat:=49
def H3:=[2,3]++List.range' 5 30
def akS:=[q 4 (.alloc [ec,cm,dc,dc,dc])]
def ad2:=[bQ 11 (.field false 0 1 (.t 10)) 8 false,da 12 1 8 false,bQ 13 (.bin .neq (.t 11) (.t 12)) 8 false,ev 14 (.t 8) gk (.t 13)]
def akV:=bQ 10 (.call (.c (.fn 16 [] [])) [.t 9]) 8 false::ad2
def aeA:=da 9 0 8 false::akV
def aDv:=[q 7 (.un .not (.t 6)),ai 8 7]
def ac0:=aDv++aeA
def aeY:=c2 6 51 [.t 5]::ac0
def aDm:=[ai 5 0]
def NV:=aDm++aeY
def afJ:=[c2 16 17 [.t 15]]
def anp:=[ai 15 0]
def Ym:=anp++afJ
def TP:=[dt 1 23 21]
def aBw:=[ai 17 0,fb 18 17,b2 19 1 18,cL 20 19,q 21 (.bin .add (.t 20) (b1 1)),fb 22 17,b2 23 1 22]
def ajt:=aBw++TP
def aeb:=[dt 5 4 34]
def aoI:=[ai 24 0,fb 25 24,b2 26 0 25,cL 27 26,ai 28 0,fb 29 28,b2 30 1 29,cL 31 30,q 32 (.bin .sub (.t 31) (b1 1)),iJ 33 5 27 32,q 34 (.load true 5 (.t 33))]
def aoq:=aoI++aeb
def uP:eI:={ ntmps:=35,results:=[.cell 4 true 5],body:=
 (.seq (.region akS [] H3)
 (.seq (.seq (.region NV [] [1,5,6,7,8,9,10,11,12,13])
 (.cond (.t 14)
 (.region Ym [] [14,15,16])
 .skip))
 (.seq (.region ajt [] [14,17,18,19,20,21,22,23])
 (.seq (.region aoq [] [0,24,25,26,27,28,29,30,31,32,33,34])
 .ret)))) }
theorem alf:gF (List.range' 2 (uP.ntmps-2)) uP.body=true:=by kernel_rfl
abbrev NS:Nat:=50
def Gu:=List.range' 2 18
theorem aDZ:hV Gu (gC 20 [] 2)=[]:=by kernel_rfl
def Xy:=[c0 4 dP]
def VV:=[bQ 16 (.field false 1 1 (.t 15)) 13 true,da 17 1 13 true,bQ 18 (.bin .eql (.t 16) (.t 17)) 13 true,ev 19 (.t 13) (.t 18) dP,ai 4 19]
def ad5:=bQ 15 (.call (.c (.fn 16 [] [])) [.t 14]) 13 true::VV
def agd:=da 14 0 13 true::ad5
def aEj:=[bQ 10 (.field false 0 1 (.t 9)) 7 true,bQ 11 (.bin .eql (.t 10) (cK 3)) 7 true,ev 12 (.t 7) (.t 11) dP,ai 13 12]
def alT:=aEj++agd
def agH:=bQ 9 (.call (.c (.fn 16 [] [])) [.t 8]) 7 true::alT
def Vs:=da 8 0 7 true::agH
def avb:=[ai 7 6]
def adu:=avb++Vs
def agU:=c2 6 51 [.t 5]::adu
def aAJ:=[ai 5 0]
def T0:=aAJ++agU
def qI:eI:={ ntmps:=20,results:=[.tmp 4],body:=
 (.seq (.bc Xy Gu [])
 (.seq (.region T0 [] [0,1,5,6,7,8,9,10,11,12,13,14,15,16,17,18,19])
 .ret)) }
abbrev Ip:Nat:=51
def Mx:=List.range' 1 27
theorem aw6:hV Mx (gC 28 [] 1)=[]:=by kernel_rfl
def aiA:=[c0 2 dP]
def anf:=[bQ 24 (.field true 3 2 (.t 23)) 8 true,bQ 25 (.field false 0 1 (.t 24)) 8 true,bQ 26 (.bin .eql (.t 21) (.t 25)) 8 true,ev 27 (.t 8) (.t 26) dP,ai 2 27]
def Vu:=bQ 23 (.oe (.c (.fn 16 [] [])) [.t 22]) 8 true::anf
def agq:=da 22 0 8 true::Vu
def aiR:=e7 21 20 8 true::agq
def W7:=ef 20 0 19 8 true::aiR
def ani:=ef 19 3 18 8 true::W7
def ZU:=bQ 18 (.indexAddr 5 (.t 12) (.t 17)) 8 true::ani
def aew:=bQ 17 (.bin .sub (.t 16) (b1 1)) 8 true::ZU
def aok:=e7 16 15 8 true::aew
def ajX:=ef 15 1 14 8 true::aok
def aim:=bQ 14 (.nilCheck (.t 13)) 8 true::ajX
def Zm:=da 13 0 8 true::aim
def Up:=e7 12 11 8 true::Zm
def WN:=ef 11 0 10 8 true::Up
def Wp:=bQ 10 (.nilCheck (.t 9)) 8 true::WN
def ant:=da 9 0 8 true::Wp
def as1:=[ai 3 0,fb 4 3,b2 5 1 4,cL 6 5,q 7 (.bin .gtr (.t 6) (b1 0)),ai 8 7]
def ah6:=as1++ant
def sG:eI:={ ntmps:=28,results:=[.tmp 2],body:=
 (.seq (.bc aiA Mx [])
 (.seq (.region ah6 [] [0,3,4,5,6,7,8,9,10,11,12,13,14,15,16,17,18,19,20,21,22,23,24,25,26,27])
 .ret)) }
abbrev AM:Nat:=60
def xw:=List.range' 2 12
def an3:=[c2 6 69 [.t 4,.t 5]]
def Wb:=[ai 4 0,ai 5 1]
def M':=Wb++an3
def Vq:=[c2 8 36 [.t 7,cv #[44]]]
def UO:=[ai 7 0]
def Py:=UO++Vq
def aeW:=[dt 1 13 11]
def aGr:=[fb 12 9,b2 13 3 12]
def MU:=aGr++aeW
def Vc:=c2 11 34 [.t 10]::MU
def afP:=[ai 9 1,ai 10 0]
def aeK:=afP++Vc
def qx:eI:={ ntmps:=14,results:=[],body:=
 (.seq (.region M' [] xw)
 (.seq (.region Py [] [7,8])
 (.region aeK [] [0,1,9,10,11,12,13]))) }
theorem Kp:gF (List.range' 2 (qx.ntmps-2)) qx.body=true:=by kernel_rfl
abbrev xo:Nat:=61
def Ab:=List.range' 2 10
def aoo:=[c2 6 68 [.t 4,.t 5]]
def anI:=[ai 4 0,ai 5 1]
def acn:=anI++aoo
def aed:=[dt 1 11 9]
def aB5:=[fb 10 7,b2 11 6 10]
def Sv:=aB5++aed
def TH:=c2 9 35 [.t 8]::Sv
def adT:=[ai 7 1,ai 8 0]
def abW:=adT++TH
def r1:eI:={ ntmps:=12,results:=[],body:=
 (.seq (.region acn [] Ab)
 (.region abW [] [0,1,7,8,9,10,11])) }
theorem Ng:gF (List.range' 2 (r1.ntmps-2)) r1.body=true:=by kernel_rfl
abbrev xc:Nat:=62
def yQ:=List.range' 2 10
def akQ:=[c2 6 69 [.t 4,.t 5]]
def amu:=[ai 4 0,ai 5 1]
def adC:=amu++akQ
def Zc:=[dt 1 11 9]
def auO:=[fb 10 7,b2 11 6 10]
def R6:=auO++Zc
def ajH:=c2 9 35 [.t 8]::R6
def Y':=[ai 7 1,ai 8 0]
def amg:=Y'++ajH
def sP:eI:={ ntmps:=12,results:=[],body:=
 (.seq (.region adC [] yQ)
 (.region amg [] [0,1,7,8,9,10,11])) }
theorem Sk:gF (List.range' 2 (sP.ntmps-2)) sP.body=true:=by kernel_rfl
abbrev Bb:Nat:=63
def mZ:=List.range' 0 12
def WW:=[dt 1 11 9]
def axS:=[fb 10 4,b2 11 7 10]
def ahP:=axS++WW
def S7:=q 9 (.fy 1 2 [cm,cm] [(0,.t 6),(1,.t 8)])::ahP
def amL:=c2 8 34 [.t 7]::S7
def ad4:=[ai 7 0]
def R2:=ad4++amL
def ZQ:=c2 6 34 [.t 5]::R2
def SI:=[ai 4 1,ai 5 0]
def KC:=SI++ZQ
def qf:eI:={ ntmps:=12,results:=[],body:=
 (.region KC [] mZ) }
theorem RB:gF (List.range' 2 (qf.ntmps-2)) qf.body=true:=by kernel_rfl
abbrev BY:Nat:=64
def qX:=List.range' 0 10
def afZ:=[dt 1 9 7]
def apl:=[fb 8 4,b2 9 7 8]
def Ui:=apl++afZ
def SW:=q 7 (.fy 1 1 [cm] [(0,.t 6)])::Ui
def Y8:=c2 6 34 [.t 5]::SW
def akq:=[ai 4 1,ai 5 0]
def aci:=akq++Y8
def uk:eI:={ ntmps:=10,results:=[],body:=
 (.region aci [] qX) }
theorem ajg:gF (List.range' 2 (uk.ntmps-2)) uk.body=true:=by kernel_rfl
abbrev G7:Nat:=65
def oP:=List.range' 2 9++[12,13,14]
def akI:=[bQ 9 (.field false 0 1 (.t 8)) 6 true,bQ 10 (.bin .eql (.t 9) (cK 1)) 6 true,ev 11 (.t 6) (.t 10) dP]
def akG:=bQ 8 (.call (.c (.fn 16 [] [])) [.t 7]) 6 true::akI
def TJ:=da 7 0 6 true::akG
def axY:=[ai 6 5]
def agV:=axY++TJ
def acf:=c2 5 51 [.t 4]::agV
def aF1:=[ai 4 0]
def Uj:=aF1++acf
def Y4:=[c2 14 69 [.t 12,.t 13]]
def aoJ:=[ai 12 0,ai 13 1]
def Z1:=aoJ++Y4
def sf:eI:={ ntmps:=15,results:=[],body:=
 (.seq (.region Uj [] oP)
 (.cond (.t 11)
 (.region Z1 [] [0,1,11,12,13,14])
 .skip)) }
theorem PG:gF (List.range' 2 (sf.ntmps-2)) sf.body=true:=by kernel_rfl
abbrev xF:Nat:=66
def rS:=List.range' 0 10
def adF:=[dt 1 9 7]
def aGT:=[q 7 (.field false 2 1 (.t 6)),fb 8 4,b2 9 4 8]
def MC:=aGT++adF
def ahI:=c2 6 49 [.t 5,cK 2]::MC
def amW:=[ai 4 1,ai 5 0]
def aj6:=amW++ahI
def uq:eI:={ ntmps:=10,results:=[],body:=
 (.region aj6 [] rS) }
theorem Yk:gF (List.range' 2 (uq.ntmps-2)) uq.body=true:=by kernel_rfl
abbrev FH:Nat:=67
def BM:eI:={ ntmps:=4,results:=[],body:=
 .skip }
abbrev AH:Nat:=68
def sU:=List.range' 0 9
def ahn:=[dt 1 8 6]
def aIr:=[fb 7 4,b2 8 5 7]
def QJ:=aIr++ahn
def ahx:=c2 6 34 [.t 5]::QJ
def acw:=[ai 4 1,ai 5 0]
def ZT:=acw++ahx
def ue:eI:={ ntmps:=9,results:=[],body:=
 (.region ZT [] sU) }
theorem ZB:gF (List.range' 2 (ue.ntmps-2)) ue.body=true:=by kernel_rfl
abbrev x6:Nat:=69
def tC:=List.range' 0 9
def ZD:=[dt 1 8 6]
def aAR:=[fb 7 4,b2 8 2 7]
def P1:=aAR++ZD
def amI:=c2 6 34 [.t 5]::P1
def adV:=[ai 4 1,ai 5 0]
def abK:=adV++amI
def ve:eI:={ ntmps:=9,results:=[],body:=
 (.region abK [] tC) }
theorem af5:gF (List.range' 2 (ve.ntmps-2)) ve.body=true:=by kernel_rfl
abbrev Cp:Nat:=70
def zA:=List.range' 2 8
def aoh:=[c2 6 69 [.t 4,.t 5]]
def Yh:=[ai 4 0,ai 5 1]
def abZ:=Yh++aoh
def ahw:=[c2 9 66 [.t 7,.t 8]]
def alC:=[ai 7 0,ai 8 1]
def ae7:=alC++ahw
def sF:eI:={ ntmps:=10,results:=[],body:=
 (.seq (.region abZ [] zA)
 (.region ae7 [] [0,1,7,8,9])) }
theorem Sn:gF (List.range' 2 (sF.ntmps-2)) sF.body=true:=by kernel_rfl
abbrev Bd:Nat:=71
def zi:=List.range' 2 35
def V0:=[c2 5 36 [.t 4,cv #[91]]]
def akW:=[ai 4 0]
def Tx:=akW++V0
def s6:r5:=[⟨some 6,.move (.t 1),none⟩,⟨some 7,.move (.t 1),none⟩,⟨some 8,.nilCheck (.t 7),none⟩,⟨some 9,.fieldAddr 7 (.t 8),none⟩,⟨some 10,.load false 1 (.t 9),none⟩,⟨some 11,.move (.t 0),none⟩,⟨some 12,.call (.c (.fn 34 [] [])) [.t 11],none⟩,⟨some 13,.fy 1 1 [.s (.string ⟨#[]⟩)] [(0,.t 12)],none⟩,⟨some 14,.append 1 16 (.t 10) (.t 13),none⟩,⟨some 15,.nilCheck (.t 6),none⟩,⟨some 16,.fieldAddr 7 (.t 15),none⟩,⟨none,.store 1 (.t 16) (.t 14),none⟩]
def Uy:=[c2 18 36 [.t 17,cv #[58]]]
def aju:=[ai 17 0]
def I7:=aju++Uy
def q1:r5:=[⟨some 19,.move (.t 1),none⟩,⟨some 20,.move (.t 1),none⟩,⟨some 21,.nilCheck (.t 20),none⟩,⟨some 22,.fieldAddr 6 (.t 21),none⟩,⟨some 23,.load false 1 (.t 22),none⟩,⟨some 24,.move (.t 0),none⟩,⟨some 25,.call (.c (.fn 34 [] [])) [.t 24],none⟩,⟨some 26,.fy 1 1 [.s (.string ⟨#[]⟩)] [(0,.t 25)],none⟩,⟨some 27,.append 1 16 (.t 23) (.t 26),none⟩,⟨some 28,.nilCheck (.t 19),none⟩,⟨some 29,.fieldAddr 6 (.t 28),none⟩,⟨none,.store 1 (.t 29) (.t 27),none⟩]
def anA:=[q 32 (.un .not (.t 31))]
def ajV:=c2 31 50 [.t 30,cv #[44]]::anA
def aAW:=[ai 30 0]
def Mu:=aAW++ajV
def WA:=[c2 34 36 [.t 33,cv #[44]]]
def aqc:=[ai 33 0]
def LZ:=aqc++WA
def Rn:cM:=
 (.block 1
 (.seq (.region s6 [(4,6)] [6,7,8,9,10,11,12,13,14,15,16])
 (.seq (.region I7 [] [17,18])
 (.seq (.region q1 [(4,6)] [19,20,21,22,23,24,25,26,27,28,29])
 (.seq (.seq (.region Mu [] [30,31])
 (.cond (.t 32)
 (.exit 0)
 .skip))
 (.region LZ [] [32,33,34]))))))
def zg:cM:=Rn
def VX:=[c2 36 36 [.t 35,cv #[93]]]
def aic:=[ai 35 0]
def alo:=aic++VX
def qB:eI:={ ntmps:=37,results:=[],body:=
 (.seq (.region Tx [] zi)
 (.seq (.block 0
 (.loop [] zg))
 (.region alo [] [0,1,32,35,36]))) }
theorem JF:gF (List.range' 2 (qB.ntmps-2)) qB.body=true:=by kernel_rfl
abbrev U2:Nat:=17
def aGQ:=I (cx XJ IN) (I (bE IN 0) (I (bE IN 2) (I (bl ajj [0,3,4,5,6,7,8,9,10,11] [12] Ex 13 [] [(12,kA 5 (gU 5 (bO (bI 0 (fe (.t 0)))) (bO (bI 1 (fe (.t 0))))))] [.ay 0,ad [0,0,0,0],ad [0,0,0],ad [0,0],.ay 0,ad [0,0,0,0],ad [0,1,0],ad [0,1],ad [0],ad []]) ((cx akf [0,3,4,5,6,7,8,9,10,11,12])))))
def Rb:=I (aR Xf Mj [] 3 [] [] [.cI (.s (.string ⟨#[]⟩))]) (I aIH (I (bE Mj 0) (I (bl Yp [0] [3] [0,3,4,5] 4 [] [(3,.t 0)] [.ay 0]) (I (aS adp [3] [0,3,4,5]) ((dB Po [0,3,4,5] [2] 6 [] [(2,.op (.field false 1 1 (.t 0)) [.t 4])] [ad [],ad []]))))))
def r7:=I (aR QE HG [] 3 [] [] [.cI (.s (.slice none 0 0))]) (I azg (I (bE HG 0) (I (aR Qc [] [3] 4 [] [(3,.c (.s (.slice none 0 0)))] [.cI (.s (.slice none 0 0))]) (I (bl OO [] [4] pK 5 [] [(4,.t 0)] [.ay 0]) (I (cx W' [4,5]) (I (bl P5 [] [6] [6,7] 7 [] [(6,.t 0)] [.ay 0]) (I (aS Wl [6] [6,7]) (I (dB abS [6,7] [8] 9 [] [(8,mv (.t 7))] [ad []]) (I (aR FR [8,9,10] [11] 12 [] [(11,jK .gtr 0 (ig (.t 3)))] [.ay 3,ad [0],ad []]) (I (bl Ic [11] [12] [11,12,13] 13 [] [(12,.t 0)] [.ay 0]) (I (cx aio [11,12,13]) (I (bl IG [3,11] [14,15] Mq 16 [] [(14,.t 3),(15,.t 0)] [.ay 3,.ay 0]) (I (aS adt [15] Mq) (I (aS P' [16] Mq) (I (aS adq [14,17] Mq) (I (dB alY [11,14,15,16,17,18] [3] 4 [] [(3,.t 18)] [.ay 18]) (I (bx zb M9) (I (bl aee [0,8] [19] [0,8,19,20] 20 [] [(19,.t 0)] [.ay 0]) (I (cx abz [0,8,19,20]) (I (aR ane [3,21] [2] 22 [] [(2,.t 3)] [.ay 3,.ay 3]) (M9.eq_1)))))))))))))))))))))
def PM:=I (bl afX [1,2,3,6,7,8,9,10,11,12,13,14,15,16] pK vG 6 [] [(4,.t 0),(5,.t 1)] [.ay 0,.ay 1]) (I (aS Vg [4,5] vG) (I (dB Wg vG [7] 8 [] [(7,mv (.t 6))] [ad []]) (I (bE vG 0) (I (bn vG 1) (I (bn vG 4) (I (bn vG 5) (I (bn vG 6) (I (bE vG 7) (I (bl Wz [7] [8] [7,8,9] 9 [] [(8,.t 0)] [.ay 0]) (I (cx WO [7,8,9]) (I (bl amU [0,7,10,11,12,13,15] [14,16] [0,7,10,11,12,13,14,15,16] 17 [] [(14,fV 1 (bO (bI 1 (fe (.t 0))))),(16,bI 1 (fe (.t 0)))] [.ay 0,ad [0,0,0],ad [0,0],ad [0],ad [],ad [0,0,0],ad [0,0]]) ((cx agR [0,7,10,11,12,13,14,15,16])))))))))))))
def Iy:=I (bl VB [1,3,4,5,6,7,8,9,10,11] [2] pI 3 [] [(2,.t 0)] [.ay 0]) (I (aS U0 [2] pI) (I (bl VQ [3] [4] pI 5 [] [(4,.t 3)] [.ay 3]) (I (aS UQ [] pI) (I (aS aaM [5] pI) (I (dB Xc pI [9] 10 [] [(9,.pick (.t 4) (lF .neq 4 (.op (.field false 0 1 (.t 0)) [.t 6])) (.c (.s (.bool false))))] [.sub 0 [1,0] [4],.sub 0 [1] [4],ad []]) (I (bE pI 0) (I (bn pI 2) (I (bn pI 3) (I (bn pI 4) (I (bn pI 5) (I (bn pI 6) (I (bn pI 7) (I (bn pI 8) (I (bE pI 9) (I (bl akv [0,9] [10] [0,9,10,11] 11 [] [(10,.t 0)] [.ay 0]) ((cx afu [0,9,10,11])))))))))))))))))
def JT:=I (aR aeU HY [] 5 [] [] [.cI (.s (.bool false))]) (I aHh (I (bE HY 0) (I (bE HY 1) (I (bl anv [] [6] [6,7,8] 7 [] [(6,.t 0)] [.ay 0]) (I (aS T9 [6] [6,7,8]) (I (dB aaF [6,7,8] [9] 10 [] [(9,lF .neq 1 (.op (.field false 0 1 (.t 0)) [.t 7]))] [ad [0],ad []]) (I (aR ajf [0,1,9] [4] 5 [] [(4,ht)] [.cI (.s (.bool false))]) (I (bl ac8 [9,10,11,12,13,14,15,16,17,18,19] [20] UJ 21 [] [(20,kA 5 (gU 5 (bO (bI 0 (fe (.t 0)))) (fV 1 (bO (bI 1 (fe (.t 0)))))))] [.ay 0,ad [0,0,0,0],ad [0,0,0],ad [0,0],.ay 0,ad [0,0,0,0],ad [0,1,0,0],ad [0,1,0],ad [0,1],ad [0],ad []]) (I (aS amQ [] UJ) (I (cx Z' [9,10,11,12,13,14,15,16,17,18,19,20]) (I (bl abo [1,21,22,23,24,25,26,27,28,29] [30] C8 31 [] [(30,.pick (hj 3 (bO (bI 0 (.t 5)))) (eS .eql (bO (bI 1 (.t 5))) (.t 1)) ht)] [ad [0,0,0],ad [0,0],ad [0],ad [0],.sub 0 [1,0,0] [24],.sub 0 [1,0] [24],.sub 0 [1,1] [24],.sub 0 [1] [24],ad [],ad []]) (I (aS acW [5] C8) (I (aS ab6 [31] C8) (I (aS W1 [32] C8) (I (aS aiH [0] C8) (I (aS alD [34] C8) ((dB aaY [0,1,5,21,22,23,24,25,26,27,28,29,30,31,32,33,34,35,36,37,38,39] [4] 40 [] [(4,.pick (.t 30) (eS .eql (.t 33) (.op (.field false 0 1 (.t 0)) [.op (.field true 3 2 (.t 0)) [.t 35]])) (.c (.s (.bool false))))] [.sub 0 [1,1,0] [30],.sub 0 [1,1] [30],.sub 0 [1] [30],ad [],ad []]))))))))))))))))))
def FK:=I (cx akS H3) (I (bE H3 0) (I (bE H3 1) (I (bE H3 4) (I (bl NV [] [5] Gv 6 [] [(5,.t 0)] [.ay 0]) (I (aS aeY [5] Gv) (I (bl ac0 [6,7] [8] Gv 9 [] [(8,mv (.t 6))] [ad [],ad []]) (I (aS aeA [] Gv) (I (aS akV [9] Gv) (I (dB ad2 [1,5,6,7,8,9,10,11,12,13] [14] 15 [] [(14,.pick (.t 8) (.c (.s (.bool true))) (eS .neq (.op (.field false 0 1 (.t 0)) [.t 10]) (.t 1)))] [.sub 0 [2,0] [8],.sub 0 [2,1] [8],.sub 0 [2] [8],ad []]) (I (bl Ym [14] [15] [14,15,16] 16 [] [(15,.t 0)] [.ay 0]) (I (cx afJ [14,15,16]) (I (bl ajt [14,17,18,19,20,22] [21,23] [14,17,18,19,20,21,22,23] 24 [] [(21,fV 1 (bO (bI 1 (fe (.t 0))))),(23,bI 1 (fe (.t 0)))] [.ay 0,ad [0,0,0],ad [0,0],ad [0],ad [],ad [0,0,0],ad [0,0]]) (I (cx TP [14,17,18,19,20,21,22,23]) (I (bl aoq [0,24,25,26,27,28,29,30,31,32,33] [34] [0,24,25,26,27,28,29,30,31,32,33,34] 35 [] [(34,kA 5 (gU 5 (bO (bI 0 (fe (.t 0)))) (jK .sub 1 (bO (bI 1 (fe (.t 0)))))))] [.ay 0,ad [0,0,0,0],ad [0,0,0],ad [0,0],.ay 0,ad [0,0,0,0],ad [0,1,0,0],ad [0,1,0],ad [0,1],ad [0],ad []]) ((cx aeb [0,24,25,26,27,28,29,30,31,32,33,34]))))))))))))))))
def NC:=I (aR Xy Gu [] 5 [] [] [.cI (.s (.bool false))]) (I aDZ (I (bE Gu 0) (I (bE Gu 1) (I (bl T0 [] [5] zy 6 [] [(5,.t 0)] [.ay 0]) (I (aS agU [5] zy) (I (bl adu [6] [7] zy 8 [] [(7,.t 6)] [.ay 6]) (I (aS Vs [] zy) (I (aS agH [8] zy) (I (bl alT [7,9,10,11,12] [13] zy 14 [] [(13,.pick (.t 7) (hj 3 (.op (.field false 0 1 (.t 0)) [.t 9])) (.c (.s (.bool false))))] [.sub 0 [1,0] [7],.sub 0 [1] [7],ad [],ad []]) (I (aS agd [0] zy) (I (aS ad5 [14] zy) ((dB VV [0,1,5,6,7,8,9,10,11,12,13,14,15,16,17,18,19] [4] 20 [] [(4,.pick (.t 13) (eS .eql (.op (.field false 1 1 (.t 0)) [.t 15]) (.t 1)) (.c (.s (.bool false))))] [.sub 0 [1,0] [13],.sub 0 [1,1] [13],.sub 0 [1] [13],ad [],ad []])))))))))))))
def YO:=I (aR aiA Mx [] 3 [] [] [.cI (.s (.bool false))]) (I aw6 (I (bE Mx 0) (I (bl ah6 [3,4,5,6,7] [8] pJ 9 [] [(8,jK .gtr 0 (bO (bI 1 (fe (.t 0)))))] [.ay 0,ad [0,0,0],ad [0,0],ad [0],ad [],ad []]) (I (aS ant [] pJ) (I (aS Wp [9] pJ) (I (aS WN [10] pJ) (I (aS Up [11] pJ) (I (aS Zm [] pJ) (I (aS aim [13] pJ) (I (aS ajX [14] pJ) (I (aS aok [15] pJ) (I (aS aew [16] pJ) (I (aS ZU [12,17] pJ) (I (aS ani [18] pJ) (I (aS W7 [19] pJ) (I (aS aiR [20] pJ) (I (aS agq [0] pJ) (I (aS Vu [22] pJ) ((dB anf [0,3,4,5,6,7,8,9,10,11,12,13,14,15,16,17,18,19,20,21,22,23,24,25,26,27] [2] 28 [] [(2,.pick (.t 8) (eS .eql (.t 21) (.op (.field false 0 1 (.t 0)) [.op (.field true 3 2 (.t 0)) [.t 23]])) (.c (.s (.bool false))))] [.sub 0 [1,1,0] [8],.sub 0 [1,1] [8],.sub 0 [1] [8],ad [],ad []]))))))))))))))))))))
def Eb:=I (bl M' [2,3,6,7,8,9,10,11,12,13] pK xw 6 [] [(4,.t 0),(5,.t 1)] [.ay 0,.ay 1]) (I (cx an3 xw) (I (bE xw 0) (I (bE xw 1) (I (bn xw 4) (I (bn xw 5) (I (bn xw 6) (I (bl Py [] [7] [7,8] 8 [] [(7,.t 0)] [.ay 0]) (I (cx Vq [7,8]) (I (bl aeK [0,1] [9,10] NU 11 [] [(9,.t 1),(10,.t 0)] [.ay 1,.ay 0]) (I (aS Vc [10] NU) (I (bl MU [9,12] [13] NU 14 [] [(13,bI 3 (fe (.t 9)))] [ad [0],ad []]) ((cx aeW [0,1,9,10,11,12,13])))))))))))))
def Ix:=I (bl acn [2,3,6,7,8,9,10,11] pK Ab 6 [] [(4,.t 0),(5,.t 1)] [.ay 0,.ay 1]) (I (cx aoo Ab) (I (bE Ab 0) (I (bE Ab 1) (I (bn Ab 4) (I (bn Ab 5) (I (bn Ab 6) (I (bl abW [0,1] [7,8] CJ 9 [] [(7,.t 1),(8,.t 0)] [.ay 1,.ay 0]) (I (aS TH [8] CJ) (I (bl Sv [7,10] [11] CJ 12 [] [(11,bI 6 (fe (.t 7)))] [ad [0],ad []]) ((cx aed [0,1,7,8,9,10,11])))))))))))
def Is:=I (bl adC [2,3,6,7,8,9,10,11] pK yQ 6 [] [(4,.t 0),(5,.t 1)] [.ay 0,.ay 1]) (I (cx akQ yQ) (I (bE yQ 0) (I (bE yQ 1) (I (bn yQ 4) (I (bn yQ 5) (I (bn yQ 6) (I (bl amg [0,1] [7,8] CJ 9 [] [(7,.t 1),(8,.t 0)] [.ay 1,.ay 0]) (I (aS ajH [8] CJ) (I (bl R6 [7,10] [11] CJ 12 [] [(11,bI 6 (fe (.t 7)))] [ad [0],ad []]) ((cx Zc [0,1,7,8,9,10,11])))))))))))
def WT:=I (bl KC [1,2,3,6,7,8,9,10,11] pK mZ 6 [] [(4,.t 1),(5,.t 0)] [.ay 1,.ay 0]) (I (aS ZQ [5] mZ) (I (bl R2 [0] [7] mZ 8 [] [(7,.t 0)] [.ay 0]) (I (aS amL [7] mZ) (I (aS S7 [6,8] mZ) (I (bl ahP [4,10] [11] mZ 12 [] [(11,bI 7 (fe (.t 4)))] [ad [0],ad []]) (I (cx WW mZ) (I (bn mZ 0) (I (bn mZ 1) (I (bn mZ 4) (I (bn mZ 5) (I (bn mZ 6) (I (bn mZ 7) (I (bn mZ 8) (I (bn mZ 9) (I (bn mZ 10) ((bn mZ 11)))))))))))))))))
def abg:=I (bl aci [0,1,2,3,6,7,8,9] pK qX 6 [] [(4,.t 1),(5,.t 0)] [.ay 1,.ay 0]) (I (aS Y8 [5] qX) (I (aS SW [6] qX) (I (bl Ui [4,8] [9] qX 10 [] [(9,bI 7 (fe (.t 4)))] [ad [0],ad []]) (I (cx afZ qX) (I (bn qX 0) (I (bn qX 1) (I (bn qX 4) (I (bn qX 5) (I (bn qX 6) (I (bn qX 7) (I (bn qX 8) ((bn qX 9)))))))))))))
def Th:=I (bl Uj [2,3,5,6,7,8,9,10,11,12,13,14] [4] oP 5 [] [(4,.t 0)] [.ay 0]) (I (aS acf [4] oP) (I (bl agV [5] [6] oP 7 [] [(6,.t 5)] [.ay 5]) (I (aS TJ [] oP) (I (aS akG [7] oP) (I (dB akI oP [11] 12 [] [(11,.pick (.t 6) (hj 1 (.op (.field false 0 1 (.t 0)) [.t 8])) (.c (.s (.bool false))))] [.sub 0 [1,0] [6],.sub 0 [1] [6],ad []]) (I (bE oP 0) (I (bE oP 1) (I (bn oP 4) (I (bn oP 5) (I (bn oP 6) (I (bn oP 7) (I (bn oP 8) (I (bn oP 9) (I (bn oP 10) (I (bE oP 11) (I (bl Z1 [0,1,11] [12,13] [0,1,11,12,13,14] 14 [] [(12,.t 0),(13,.t 1)] [.ay 0,.ay 1]) ((cx Y4 [0,1,11,12,13,14]))))))))))))))))))
def YG:=I (bl aj6 [0,1,2,3,6,7,8,9] pK rS 6 [] [(4,.t 1),(5,.t 0)] [.ay 1,.ay 0]) (I (aS ahI [5] rS) (I (bl MC [4,6,8] [7,9] rS 10 [] [(7,.op (.field false 2 1 (.t 0)) [.t 6]),(9,bI 4 (fe (.t 4)))] [ad [],.sub 1 [0] [],.sub 1 [] []]) (I (cx adF rS) (I (bn rS 0) (I (bn rS 1) (I (bn rS 4) (I (bn rS 5) (I (bn rS 6) (I (bn rS 7) (I (bn rS 8) ((bn rS 9))))))))))))
def alA:=I (bl ZT [0,1,2,3,6,7,8] pK sU 6 [] [(4,.t 1),(5,.t 0)] [.ay 1,.ay 0]) (I (aS ahx [5] sU) (I (bl QJ [4,7] [8] sU 9 [] [(8,bI 5 (fe (.t 4)))] [ad [0],ad []]) (I (cx ahn sU) (I (bn sU 0) (I (bn sU 1) (I (bn sU 4) (I (bn sU 5) (I (bn sU 6) (I (bn sU 7) ((bn sU 8)))))))))))
def amP:=I (bl abK [0,1,2,3,6,7,8] pK tC 6 [] [(4,.t 1),(5,.t 0)] [.ay 1,.ay 0]) (I (aS amI [5] tC) (I (bl P1 [4,7] [8] tC 9 [] [(8,bI 2 (fe (.t 4)))] [ad [0],ad []]) (I (cx ZD tC) (I (bn tC 0) (I (bn tC 1) (I (bn tC 4) (I (bn tC 5) (I (bn tC 6) (I (bn tC 7) ((bn tC 8)))))))))))
def Ks:=I (bl abZ [2,3,6,7,8,9] pK zA 6 [] [(4,.t 0),(5,.t 1)] [.ay 0,.ay 1]) (I (cx aoh zA) (I (bE zA 0) (I (bE zA 1) (I (bn zA 4) (I (bn zA 5) (I (bn zA 6) (I (bl ae7 [0,1] [7,8] [0,1,7,8,9] 9 [] [(7,.t 0),(8,.t 1)] [.ay 0,.ay 1]) ((cx ahw [0,1,7,8,9])))))))))
def zE:=I (bl Tx [2,3,5,6,7,8,9,10,11,12,13,14,15,16,17,18,19,20,21,22,23,24,25,26,27,28,29,30,31,32,33,34,35,36] [4] zi 5 [] [(4,.t 0)] [.ay 0]) (I (cx V0 zi) (I (bE zi 0) (I (bE zi 1) (I (bn zi 4) (I (bn zi 5) (I (bl I7 [] [17] [17,18] 18 [] [(17,.t 0)] [.ay 0]) (I (cx Uy [17,18]) (I (bl Mu [] [30] [30,31] 31 [] [(30,.t 0)] [.ay 0]) (I (aS ajV [30] [30,31]) (I (dB anA [30,31] [32] 33 [] [(32,mv (.t 31))] [ad []]) (I (bl LZ [32] [33] [32,33,34] 34 [] [(33,.t 0)] [.ay 0]) (I (cx WA [32,33,34]) (I (bx zg Rn) (I (bl alo [0,1,32] [35] [0,1,32,35,36] 36 [] [(35,.t 0)] [.ay 0]) (I (cx VX [0,1,32,35,36]) (Rn.eq_1))))))))))))))))
theorem aIU:fN Tryd.prog fm 16=some (false,ri.ntmps,ri.results,ri.body.bare):=by kernel_rfl
theorem blt:fN Tryd.prog fm 34=some (false,vF.ntmps,vF.results,vF.body.bare):=by kernel_rfl
theorem aDq:fN Tryd.prog fm 35=some (false,rJ.ntmps,rJ.results,rJ.body.bare):=by kernel_rfl
theorem aBG:fN Tryd.prog fm 36=some (false,vk.ntmps,vk.results,vk.body.bare):=by kernel_rfl
theorem azv:fN Tryd.prog fm 37=some (false,sM.ntmps,sM.results,sM.body.bare):=by kernel_rfl
theorem aB4:fN Tryd.prog fm 38=some (false,nX.ntmps,nX.results,nX.body.bare):=by kernel_rfl
theorem atB:fN Tryd.prog fm 49=some (false,uP.ntmps,uP.results,uP.body.bare):=by kernel_rfl
theorem aB9:fN Tryd.prog fm 50=some (false,qI.ntmps,qI.results,qI.body.bare):=by kernel_rfl
theorem avc:fN Tryd.prog fm 51=some (false,sG.ntmps,sG.results,sG.body.bare):=by kernel_rfl
theorem az1:fN Tryd.prog fm 60=some (false,qx.ntmps,qx.results,qx.body.bare):=by kernel_rfl
theorem aBM:fN Tryd.prog fm 61=some (false,r1.ntmps,r1.results,r1.body.bare):=by kernel_rfl
theorem aG6:fN Tryd.prog fm 62=some (false,sP.ntmps,sP.results,sP.body.bare):=by kernel_rfl
theorem aFE:fN Tryd.prog fm 63=some (false,qf.ntmps,qf.results,qf.body.bare):=by kernel_rfl
theorem axe:fN Tryd.prog fm 64=some (false,uk.ntmps,uk.results,uk.body.bare):=by kernel_rfl
theorem aBa:fN Tryd.prog fm 65=some (false,sf.ntmps,sf.results,sf.body.bare):=by kernel_rfl
theorem ble:fN Tryd.prog fm 66=some (false,uq.ntmps,uq.results,uq.body.bare):=by kernel_rfl
theorem ayD:fN Tryd.prog fm 67=some (false,BM.ntmps,BM.results,BM.body.bare):=by kernel_rfl
theorem aEO:fN Tryd.prog fm 68=some (false,ue.ntmps,ue.results,ue.body.bare):=by kernel_rfl
theorem aFv:fN Tryd.prog fm 69=some (false,ve.ntmps,ve.results,ve.body.bare):=by kernel_rfl
theorem aD9:fN Tryd.prog fm 70=some (false,sF.ntmps,sF.results,sF.body.bare):=by kernel_rfl
theorem aAf:yL [34] Tryd.prog fm 71=some (false,qB.ntmps,qB.results,qB.body.bare):=by kernel_rfl
abbrev CE:Nat:=9
def se:=[1]++List.range' 5 43
def anD:=[q 4 (.alloc [dc])]
def Lb:=q 3 (.alloc [dc,dc])::anD
def Oy:=[q 2 (.alloc [dV])]
def D6:r5:=Oy++Lb
def ED:=[1]++List.range' 3 45
def apP(call:c5)(it:gS)(base f H):aC call it base (.region D6 [] se) f H=qc call it base (.region Lb [] se) (sd [] Oy ED (cu call base [⟨some 2,.alloc [.s (.slice none 0 0)],none⟩] f H)):=(E6 call it base Oy Lb (kc:=ED) (by kernel_rfl) f H).trans (by rw[Ee];rfl)
def adU:=[dt 1 4 13]
def ab0:=dt 2 3 12::adU
def aqS:=[ai 8 10,gJ 11 8 0,gJ 12 8 1,gJ 13 8 2,ai 5 11]
def aip:=aqS++ab0
def agO:=c2 10 13 [.t 9]::aip
def ap2:=[ai 9 0]
def P9:=ap2++agO
def Lk:=[cL 14 4,q 15 (.bin .neq (.t 14) (b1 0))]
def LU:r5:=[⟨some 16,.build [.s (.slice none 0 0)] [(0,1)] [],none⟩,⟨some 17,.load true 2 (.t 3),none⟩,⟨some 18,.load false 1 (.t 4),none⟩,⟨none,.store 1 (.t 2) (.t 16),none⟩,⟨none,.store 2 (.t 3) (.t 17),none⟩,⟨none,.store 1 (.t 4) (.t 18),none⟩]
def ZI:=[mO (.stuck)]
def atC:=[q 19 (.mu 15 [] [.t 2,.t 3,.t 4])]
def WE:=atC++ZI
def aii:=[ai 6 22]
def aiE:=q 22 (.box (.t 21))::aii
def aqI:=[ai 20 5,q 21 (.build [dV,dc] [(0,1),(1,1)] [(0,.t 20)])]
def IT:=aqI++aiE
def adR:=[q 25 (.field false 0 1 (.t 24)),q 26 (.bin .neq (.t 25) (cK 4))]
def ahF:=c2 24 16 [.t 23]::adR
def apM:=[ai 23 6]
def MF:=apM++ahF
def amw:=[dt 5 7 28]
def Yt:=q 7 (.alloc [ec,cm,dc,dc,dc])::amw
def alx:=c2 28 16 [.t 27]::Yt
def aCY:=[ai 27 6]
def Mt:=aCY++alx
def Gx:=[b2 29 0 7,cL 30 29,q 31 (.bin .neq (.t 30) (cK 1)),ai 32 31,ef 33 1 7 32 false,e7 34 33 32 false,bQ 35 (.bin .neq (.t 34) (cv #[102,117,110,99])) 32 false,ev 36 (.t 32) gk (.t 35)]
def afm:=[c2 38 17 [.t 37]]
def adg:=[ai 37 6]
def Iq:=adg++afm
def tm:r5:=[⟨some 39,.fieldAddr 0 (.t 2),none⟩,⟨some 40,.load false 1 (.t 39),none⟩,⟨some 41,.move (.t 6),none⟩,⟨some 42,.call (.c (.fn 18 [] [])) [.t 41],none⟩,⟨some 43,.fy 3 1 [.s (.string ⟨#[]⟩),.s (.slice none 0 0),.s (.slice none 0 0)] [(0,.t 42)],none⟩,⟨some 44,.append 3 64 (.t 40) (.t 43),none⟩,⟨some 45,.fieldAddr 0 (.t 2),none⟩,⟨none,.store 1 (.t 45) (.t 44),none⟩]
def Ni:cM:=
 (.seq (.seq (.region MF [] [23,24,25])
 (.cond (.t 26)
 .skip
 (.exit 0)))
 (.block 1
 (.seq (.seq (.region Mt [] [26,27,28])
 (.seq (.bc Gx [7,29,30,31,32,33,34,35] [36])
 (.cond (.t 36)
 (.region Iq [] [36,37,38])
 .skip)))
 (.region tm [(1,3)] [36,39,40,41,42,43,44,45]))))
def wL:cM:=Ni
def VW:=[mO (.store 1 (.t 4) (b1 0))]
def ale:=dt 2 3 47::VW
def aaw:=dt 1 2 46::ale
def av6:=[q 46 (.load true 1 (.t 2)),q 47 (.build [dc,dc] [(0,1),(1,1)] [])]
def LI:=av6++aaw
def yP:eI:={ ntmps:=48,results:=[.cell 2 true 1,.cell 3 true 2,.cell 4 false 1],body:=
 (.seq (.region D6 [] se)
 (.seq (.region P9 [] [0,8,9,10,11,12,13])
 (.seq (.seq (.bc Lk [14] [15])
 (.cond (.t 15)
 (.seq (.region LU [(1,3),(2,3),(2,4)] [5,15,16,17,18])
 .ret)
 .skip))
 (.seq (.region WE [] [15,19])
 (.seq (.region IT [] [5,20,21,22])
 (.seq (.block 0
 (.loop [] wL))
 (.seq (.region LI [] [6,26,46,47])
 .ret))))))) }
theorem ayn:gF (List.range' 1 (yP.ntmps-1)) yP.body=true:=by kernel_rfl
abbrev an1:Nat:=15
def pT:=List.range' 5 14
def Xe:=[ai 4 9]
def ah5:=dt 5 3 8::Xe
def ang:=q 3 (.alloc [ec,cm,dc,dc,dc])::ah5
def aHN:=[ai 5 7,gJ 8 5 0,gJ 9 5 1]
def ako:=aHN++ang
def X5:=q 7 (.stuck)::ako
def alF:=q 6 (.stuck)::X5
def Rp:=[ai 10 4]
def Qv:r5:=[⟨some 11,.build [.s (.slice none 0 0)] [(0,1)] [],none⟩,⟨some 12,.fieldAddr 0 (.t 3),none⟩,⟨some 13,.fieldAddr 3 (.t 12),none⟩,⟨some 14,.load true 2 (.t 13),none⟩,⟨none,.store 1 (.t 0) (.t 11),none⟩,⟨none,.store 2 (.t 1) (.t 14),none⟩,⟨none,.store 1 (.t 2) (.c (.s (.int .i64 40))),none⟩]
def Nw:=[b2 15 0 3,b2 16 0 15,cL 17 16,q 18 (.bin .eql (.t 17) (cK 4))]
def Q0:=[mO (.store 1 (.t 2) (b1 41))]
abbrev yK:Nat:=18
def G6:=[1]++List.range' 3 98
def Rf:=[q 2 (.alloc [cm,dV,dV])]
def Ur:=[dt 1 12 10]
def aGX:=[ai 6 0,fb 7 6,b2 8 1 7,cL 9 8,q 10 (.bin .add (.t 9) (b1 1)),fb 11 6,b2 12 1 11]
def Oe:=aGX++Ur
def ahM:=[dt 3 3 17]
def abE:=q 3 (.alloc [cm,dV,dV])::ahM
def aFr:=[q 17 (.build [cm,dV,dV] [(0,1),(1,1),(2,1)] [(0,.t 14),(1,.t 16)])]
def MH:=aFr++abE
def Xv:=c2 16 35 [.t 15]::MH
def VT:=[ai 15 0]
def QR:=VT++Xv
def YE:=c2 14 34 [.t 13]::QR
def RY:=[ai 13 0]
def IW:=RY++YE
def adl:=[c2 19 36 [.t 18,cv #[123]]]
def VO:=[ai 18 0]
def QC:=VO++adl
def Vl:=[c2 21 37 [.t 20]]
def V5:=[ai 20 0]
def M5:=V5++Vl
def amV:=[dt 5 4 23]
def agf:=q 4 (.alloc [ec,cm,dc,dc,dc])::amV
def ago:=c2 23 16 [.t 22]::agf
def auk:=[ai 22 0]
def Qr:=auk++ago
def LV:=[b2 43 0 4,cL 44 43,q 45 (.bin .eql (.t 44) (cK 3)),ai 46 45,ef 47 1 4 46 true,e7 48 47 46 true,bQ 49 (.bin .eql (.t 48) (cv #[125])) 46 true,ev 50 (.t 46) (.t 49) dP,ai 42 50]
def anQ:=[dt 1 57 55]
def ay6:=[ai 51 0,fb 52 51,b2 53 1 52,cL 54 53,q 55 (.bin .add (.t 54) (b1 1)),fb 56 51,b2 57 1 56]
def PQ:=ay6++anQ
def alN:=[c2 59 37 [.t 58]]
def VR:=[ai 58 0]
def Sx:=VR++alN
def afa:=[dt 3 2 60]
def aoE:=[q 60 (.load true 3 (.t 3))]
def NY:=aoE++afa
def Yi:=[ai 61 63]
def afl:=c2 63 38 [.t 62,cv #[58]]::Yi
def aHS:=[ai 62 0]
def Pq:=aHS++afl
def abR:=[dt 1 71 70]
def aAl:=[b2 71 2 3]
def an6:=aAl++abR
def abB:=q 70 (.append 2 40 (.t 65) (.t 69))::an6
def amS:=q 69 (.fy 2 1 [cm,dV] [(0,.t 68)])::abB
def atY:=[b2 64 2 3,cL 65 64,b2 66 1 4,cL 67 66,q 68 (.build [cm,dV] [(0,1),(1,1)] [(0,.t 67)])]
def RA:=atY++amS
def aaZ:=[dt 1 78 76]
def ayJ:=[ai 72 0,fb 73 72,b2 74 1 73,cL 75 74,q 76 (.bin .add (.t 75) (b1 2)),fb 77 72,b2 78 1 77]
def RX:=ayJ++aaZ
def Jm:=[b2 80 0 4,cL 81 80,q 82 (.bin .neq (.t 81) (cK 1)),ai 83 82,ef 84 2 3 83 false,e7 85 84 83 false,bQ 86 (.dD .s (.t 85)) 83 false,bQ 87 (.bin .eql (.t 86) (b1 0)) 83 false,ev 88 (.t 83) gk (.t 87),ai 79 88]
def Jk:=[b2 89 0 4,cL 90 89,q 91 (.bin .eql (.t 90) (cK 1))]
def abw:=[dt 1 98 96]
def ara:=[ai 92 0,fb 93 92,b2 94 1 93,cL 95 94,q 96 (.bin .add (.t 95) (b1 1)),fb 97 92,b2 98 1 97]
def Lp:=ara++abw
def aiO:=[c2 100 17 [.t 99]]
def OG:=[ai 99 0]
def alR:=OG++aiO
def QI:=[b2 24 2 3,cL 25 24,b2 26 2 3,cL 27 26,q 28 (.dD .s (.t 27)),q 29 (.bin .sub (.t 28) (b1 1)),iJ 30 2 25 29,ai 5 30]
def tG:r5:=[⟨some 31,.move (.t 5),none⟩,⟨some 32,.move (.t 5),none⟩,⟨some 33,.nilCheck (.t 32),none⟩,⟨some 34,.fieldAddr 1 (.t 33),none⟩,⟨some 35,.load false 1 (.t 34),none⟩,⟨some 36,.move (.t 0),none⟩,⟨some 37,.call (.c (.fn 39 [] [])) [.t 36],none⟩,⟨some 38,.fy 8 1 [.s (.int .u8 0),.s (.string ⟨#[]⟩),.s (.string ⟨#[]⟩),.s (.string ⟨#[]⟩),.s (.int .i64 0),.s (.string ⟨#[]⟩),.s (.slice none 0 0),.s (.slice none 0 0)] [(0,.t 37)],none⟩,⟨some 39,.append 8 128 (.t 35) (.t 38),none⟩,⟨some 40,.nilCheck (.t 31),none⟩,⟨some 41,.fieldAddr 1 (.t 40),none⟩,⟨none,.store 1 (.t 41) (.t 39),none⟩]
def OT:cM:=
 (.block 1
 (.seq (.region M5 [] [20,21])
 (.seq (.region Qr [] [22,23])
 (.block 2
 (.seq (.bc LV [43,44,45,46,47,48,49,50] [42])
 (.cond (.t 42)
 (.seq (.region PQ [] [4,42,51,52,53,54,55,56,57])
 (.seq (.region Sx [] [0,58,59])
 (.seq (.region NY [] [3,60])
 .ret)))
 (.seq (.region Pq [] [42,62,63])
 (.cond (.t 61)
 (.seq (.region RA [] [4,61,64,65,66,67,68,69,70,71])
 (.region RX [] [72,73,74,75,76,77,78]))
 (.seq (.bc Jm [61,80,81,82,83,84,85,86,87,88] [79])
 (.cond (.t 79)
 (.seq (.seq (.bc Jk [4,79,89,90] [91])
 (.cond (.t 91)
 (.region Lp [] [91,92,93,94,95,96,97,98])
 .skip))
 (.region alR [] [91,99,100]))
 (.seq (.bc QI [4,24,25,26,27,28,29,30,79] [5])
 (.region tG [(4,6)] [5,31,32,33,34,35,36,37,38,39,40,41]))))))))))))
def zo:cM:=OT
def oV:eI:={ ntmps:=101,results:=[.cell 2 true 3],body:=
 (.seq (.region Rf [] G6)
 (.seq (.region Oe [] [6,7,8,9,10,11,12])
 (.seq (.region IW [] [13,14,15,16,17])
 (.seq (.region QC [] [18,19])
 (.block 0
 (.loop [] zo)))))) }
theorem Ff:gF (List.range' 1 (oV.ntmps-1)) oV.body=true:=by kernel_rfl
abbrev Ah:Nat:=39
def EX:=[1]++List.range' 3 73
def R5:=[q 2 (.alloc [ec,cm,cm,cm,dc,cm,dV,dV])]
def Ow:=[q 3 (.alloc [ec,cm,cm,cm,dc,cm,dV,dV])]
def anb:=[ai 4 7]
def O3:=c2 7 52 []::anb
def anT:=[c2 9 38 [.t 8,cv #[61]]]
def aEv:=[ai 8 0]
def HX:=aEv++anT
def acz:=[dt 1 13 12]
def avi:=[q 12 (.field false 1 1 (.t 11)),b2 13 1 3]
def XV:=avi++acz
def ZH:=c2 11 16 [.t 10]::XV
def aD5:=[ai 10 0]
def J9:=aD5++ZH
def Zx:=[dt 1 20 18]
def ar0:=[ai 14 0,fb 15 14,b2 16 1 15,cL 17 16,q 18 (.bin .add (.t 17) (b1 1)),fb 19 14,b2 20 1 19]
def JZ:=ar0++Zx
def anK:=[c2 22 36 [.t 21,cv #[61]]]
def avu:=[ai 21 0]
def KM:=avu++anK
def agy:=[q 25 (.un .not (.t 24))]
def aaH:=c2 24 51 [.t 23]::agy
def aGY:=[ai 23 0]
def HS:=aGY++aaH
def ah2:=[c2 27 17 [.t 26]]
def Yo:=[ai 26 0]
def J2:=Yo++ah2
def XC:=[ai 4 28]
def Pm:=c2 28 53 []::XC
def agX:=[ai 6 36]
def aeP:=dt 2 5 35::agX
def aor:=q 5 (.alloc [ec,.s .nilFunc])::aeP
def aHB:=[q 33 (.field false 1 1 (.t 32)),q 34 (.j6 .string (.agg [ec,.s .nilFunc]) (.t 30) (.t 33) true),ai 29 34,gJ 35 29 0,gJ 36 29 1]
def aom:=aHB++aor
def YK:=c2 32 16 [.t 31]::aom
def aDi:=[ai 30 4,ai 31 0]
def F8:=aDi++YK
def DK:=[ai 37 6,q 38 (.un .not (.t 37)),ai 39 38,ef 40 1 3 39 true,e7 41 40 39 true,bQ 42 (.bin .eql (.t 41) (cv #[])) 39 true,ev 43 (.t 39) (.t 42) dP]
def XH:=[dt 1 50 48]
def avL:=[ai 44 0,fb 45 44,b2 46 1 45,cL 47 46,q 48 (.bin .add (.t 47) (b1 1)),fb 49 44,b2 50 1 49]
def DY:=avL++XH
def Zl:=[bQ 56 (.field false 0 1 (.t 55)) 53 false,bQ 57 (.bin .neq (.t 56) (cK 1)) 53 false,ev 58 (.t 53) gk (.t 57)]
def am8:=bQ 55 (.call (.c (.fn 16 [] [])) [.t 54]) 53 false::Zl
def YA:=da 54 0 53 false::am8
def auG:=[ai 51 6,q 52 (.un .not (.t 51)),ai 53 52]
def BQ:=auG++YA
def ac1:=[c2 60 17 [.t 59]]
def IP:=[ai 59 0]
def Le:=IP++ac1
def afA:=[dt 1 67 65]
def aBY:=[ai 61 0,fb 62 61,b2 63 1 62,cL 64 63,q 65 (.bin .add (.t 64) (b1 1)),fb 66 61,b2 67 1 66]
def JJ:=aBY++afA
def anr:=[dt 1 70 69]
def aCb:=[b2 68 0 5,cL 69 68,b2 70 0 3]
def LJ:=aCb++anr
def UR:=[q 74 (.call (.t 72) [.t 73,.t 3])]
def PK:r5:=[⟨some 71,.fieldAddr 1 (.t 5),none⟩,⟨some 72,.load false 1 (.t 71),none⟩,⟨some 73,.move (.t 0),none⟩]
def K6:=PK++UR
def aaA:=[dt 8 2 75]
def auY:=[q 75 (.load true 8 (.t 3))]
def IM:=auY++aaA
def pU:eI:={ ntmps:=76,results:=[.cell 2 true 8],body:=
 (.seq (.region R5 [] EX)
 (.seq (.region Ow [] [])
 (.seq (.region O3 [] [7])
 (.seq (.seq (.region HX [] [8])
 (.cond (.t 9)
 (.seq (.region J9 [] [4,9,10,11,12,13])
 (.seq (.region JZ [] [14,15,16,17,18,19,20])
 (.seq (.region KM [] [21,22])
 (.seq (.seq (.region HS [] [23,24])
 (.cond (.t 25)
 (.region J2 [] [25,26,27])
 .skip))
 (.region Pm [] [25,28])))))
 .skip))
 (.seq (.region F8 [] [4,9,29,30,31,32,33,34,35,36])
 (.seq (.seq (.bc DK [37,38,39,40,41,42] [43])
 (.cond (.t 43)
 (.region DY [] [43,44,45,46,47,48,49,50])
 .skip))
 (.seq (.seq (.region BQ [] [6,43,51,52,53,54,55,56,57])
 (.cond (.t 58)
 (.region Le [] [58,59,60])
 .skip))
 (.seq (.region JJ [] [58,61,62,63,64,65,66,67])
 (.seq (.region LJ [] [68,69,70])
 (.seq (.region K6 [] [0,5,71,72,73,74])
 (.seq (.region IM [] [3,75])
 .ret))))))))))) }
theorem KN:gF (List.range' 1 (pU.ntmps-1)) pU.body=true:=by kernel_rfl
abbrev Q5:Nat:=52
def Tk:=List.range' 0 9
theorem avD:hV Tk (gC 9 [] 0)=[]:=by kernel_rfl
def Um:=[q 0 (.move (.c (.s (.map none))))]
def aeL:=[ai 8 1,ai 0 8]
def Xa:=mO (.l8 .string (.t 1) (cv #[114,101,116]) (.t 7))::aeL
def aGM:=[q 7 (.build [ec,.s .nilFunc] [(0,1),(1,1)] [(0,cK 14),(1,.c (.fn 65 [] []))])]
def Xm:=aGM++Xa
def al3:=mO (.l8 .string (.t 1) (cv #[103,111,116,111]) (.t 6))::Xm
def awG:=[q 6 (.build [ec,.s .nilFunc] [(0,1),(1,1)] [(0,cK 13),(1,.c (.fn 64 [] []))])]
def ahU:=awG++al3
def Xl:=mO (.l8 .string (.t 1) (cv #[98,114]) (.t 5))::ahU
def att:=[q 5 (.build [ec,.s .nilFunc] [(0,1),(1,1)] [(0,cK 12),(1,.c (.fn 63 [] []))])]
def V4:=att++Xl
def aaz:=mO (.l8 .string (.t 1) (cv #[105,99,97,108,108]) (.t 4))::V4
def aDH:=[q 4 (.build [ec,.s .nilFunc] [(0,1),(1,1)] [(0,cK 11),(1,.c (.fn 62 [] []))])]
def Wk:=aDH++aaz
def agT:=mO (.l8 .string (.t 1) (cv #[99,97,108,108]) (.t 3))::Wk
def avK:=[q 3 (.build [ec,.s .nilFunc] [(0,1),(1,1)] [(0,cK 10),(1,.c (.fn 61 [] []))])]
def TV:=avK++agT
def X1:=mO (.l8 .string (.t 1) (cv #[115,116,111,114,101]) (.t 2))::TV
def aDs:=[q 2 (.build [ec,.s .nilFunc] [(0,1),(1,1)] [(0,cK 9),(1,.c (.fn 60 [] []))])]
def afR:=aDs++X1
def VU:=q 1 (.zr)::afR
def xe:eI:={ ntmps:=9,results:=[.tmp 0],body:=
 (.seq (.bc Um Tk [])
 (.seq (.region VU [] [1,2,3,4,5,6,7,8])
 .ret)) }
abbrev R':Nat:=53
def Su:=List.range' 0 13
theorem aBB:hV Su (gC 13 [] 0)=[]:=by kernel_rfl
def aaj:=[q 0 (.move (.c (.s (.map none))))]
def agM:=[ai 12 1,ai 0 12]
def amk:=mO (.l8 .string (.t 1) (cv #[105,99,97,108,108]) (.t 11))::agM
def aGq:=[q 11 (.build [ec,.s .nilFunc] [(0,1),(1,1)] [(0,cK 11),(1,.c (.fn 62 [] []))])]
def ajP:=aGq++amk
def agc:=mO (.l8 .string (.t 1) (cv #[99,97,108,108]) (.t 10))::ajP
def aGG:=[q 10 (.build [ec,.s .nilFunc] [(0,1),(1,1)] [(0,cK 10),(1,.c (.fn 61 [] []))])]
def Yl:=aGG++agc
def Uz:=mO (.l8 .string (.t 1) (cv #[112,104,105]) (.t 9))::Yl
def aqT:=[q 9 (.build [ec,.s .nilFunc] [(0,1),(1,1)] [(0,cK 6),(1,.c (.fn 71 [] []))])]
def acj:=aqT++Uz
def Wm:=mO (.l8 .string (.t 1) (cv #[102,105,101,108,100]) (.t 8))::acj
def aEh:=[q 8 (.build [ec,.s .nilFunc] [(0,1),(1,1)] [(0,cK 7),(1,.c (.fn 70 [] []))])]
def ad8:=aEh++Wm
def ahO:=mO (.l8 .string (.t 1) (cv #[108,111,97,100]) (.t 7))::ad8
def aG7:=[q 7 (.build [ec,.s .nilFunc] [(0,1),(1,1)] [(0,cK 8),(1,.c (.fn 69 [] []))])]
def aou:=aG7++ahO
def aiu:=mO (.l8 .string (.t 1) (cv #[99,111,112,121]) (.t 6))::aou
def aw2:=[q 6 (.build [ec,.s .nilFunc] [(0,1),(1,1)] [(0,cK 5),(1,.c (.fn 69 [] []))])]
def ZV:=aw2++aiu
def ahy:=mO (.l8 .string (.t 1) (cv #[97,100,100,114]) (.t 5))::ZV
def aAj:=[q 5 (.build [ec,.s .nilFunc] [(0,1),(1,1)] [(0,cK 4),(1,.c (.fn 68 [] []))])]
def abX:=aAj++ahy
def WQ:=mO (.l8 .string (.t 1) (cv #[110,117,108,108]) (.t 4))::abX
def aIQ:=[q 4 (.build [ec,.s .nilFunc] [(0,1),(1,1)] [(0,cK 3),(1,.c (.fn 67 [] []))])]
def aa2:=aIQ++WQ
def ad3:=mO (.l8 .string (.t 1) (cv #[109,97,108,108,111,99]) (.t 3))::aa2
def avf:=[q 3 (.build [ec,.s .nilFunc] [(0,1),(1,1)] [(0,cK 2),(1,.c (.fn 66 [] []))])]
def abM:=avf++ad3
def Wt:=mO (.l8 .string (.t 1) (cv #[97,108,108,111,99,97]) (.t 2))::abM
def aGD:=[q 2 (.build [ec,.s .nilFunc] [(0,1),(1,1)] [(0,cK 1),(1,.c (.fn 66 [] []))])]
def akY:=aGD++Wt
def aae:=q 1 (.zr)::akY
def x2:eI:={ ntmps:=13,results:=[.tmp 0],body:=
 (.seq (.bc aaj Su [])
 (.seq (.region aae [] [1,2,3,4,5,6,7,8,9,10,11,12])
 .ret)) }
def rX:=I (bE ED 0) (I (bE ED 2) (I (bn ED 3) (I (bn ED 4) (I apP (I (aS Lb [] se) (I (cx anD se) (I (bE se 0) (I (bE se 2) (I (bE se 3) (I (bE se 4) (I (bl P9 [0] [9] Kx 10 [] [(9,.t 0)] [.ay 0]) (I (aS agO [9] Kx) (I (bl aip [8,10,11] [12,13,5] Kx 14 [] [(12,gY 1 (.t 10)),(13,gY 2 (.t 10)),(5,gY 0 (.t 10))] [.ay 10,.sub 2 [] [],ad [],.sub 1 [] [],.sub 2 [] []]) (I (aS ab0 [12] Kx) (I (cx adU [0,8,9,10,11,12,13]) (I (aR Lk [14] [15] 16 [] [(15,jK .neq 0 (bO (.t 4)))] [ad [0],ad []]) (I (bl WE [15,19] [] [15,19] 20 [([],.op (.mu 15 [] [.t 0,.t 1,.t 2]) [.t 2,.t 3,.t 4])] [] [.bT [] (.op (.mu 15 [] [.t 0,.t 1,.t 2]) [.t 2,.t 3,.t 4])]) (I (cx ZI [15,19]) (I (bl IT [5,20] [21] [5,20,21,22] 22 [] [(21,.op (.build [.s (.slice none 0 0),.s (.int .i64 0)] [(0,1),(1,1)] [(0,.t 0)]) [.t 5])] [.ay 5,ad []]) (I (aS aiE [21] [5,20,21,22]) (I (dB aii [5,20,21,22] [6] 7 [] [(6,.t 22)] [.ay 22]) (I (bl MF [] [23] [23,24,25] 24 [] [(23,.t 6)] [.ay 6]) (I (aS ahF [23] [23,24,25]) (I (dB adR [23,24,25] [26] 27 [] [(26,lF .neq 4 (.op (.field false 0 1 (.t 0)) [.t 24]))] [ad [0],ad []]) (I (bl Mt [26] [27] [26,27,28] 28 [] [(27,.t 6)] [.ay 6]) (I (aS alx [27] [26,27,28]) (I (aS Yt [] [26,27,28]) (I (cx amw [26,27,28]) (I (aR Gx [7,29,30,31,32,33,34,35] [36] 37 [] [(36,.pick (lF .neq 1 (bO (bI 0 (.t 7)))) (.c (.s (.bool true))) (.op (.bin .neq (.t 0) (.c (.s (.string ⟨#[102,117,110,99]⟩)))) [bO (bI 1 (.t 7)),.c (.s (.string ⟨#[102,117,110,99]⟩))]))] [ad [0,0,0],ad [0,0],ad [0],ad [0],.sub 0 [2,0,0] [32],.sub 0 [2,0] [32],.sub 0 [2] [32],ad []]) (I (bl Iq [36] [37] [36,37,38] 38 [] [(37,.t 6)] [.ay 6]) (I (cx afm [36,37,38]) (I (bx wL Ni) (I (bl LI [6,26] [46,47] [6,26,46,47] 48 [] [(46,kA 1 (.t 2)),(47,.op (.build [.s (.int .i64 0),.s (.int .i64 0)] [(0,1),(1,1)] []) [])] [ad [],.sub 1 [] []]) (I (aS aaw [46] [6,26,46,47]) (I (aS ale [47] [6,26,46,47]) (I (cx VW [6,26,46,47]) (Ni.eq_1)))))))))))))))))))))))))))))))))))))
def KP:=I (aS alF [3,4,5,6,7,8,9,10,11,12,13,14,15,16,17,18] pT) (I (aS X5 [] pT) (I (bl ako [5,7] [8,9] pT 10 [] [(8,gY 0 (.t 7)),(9,gY 1 (.t 7))] [.ay 7,ad [],.sub 1 [] []]) (I (aS ang [] pT) (I (aS ah5 [8] pT) (I (dB Xe pT [4] 5 [] [(4,.t 9)] [.ay 9]) (I (bE pT 0) (I (bE pT 1) (I (bE pT 2) (I (bn pT 6) (I (bn pT 7) (I (bn pT 5) (I (bn pT 8) (I (bn pT 9) (I (bE pT 3) (I (bE pT 4) (I (aR Rp [4] [10] 11 [] [(10,.t 4)] [.ay 4]) (I (aR Nw [3,15,16,17] [18] 19 [] [(18,hj 4 (bO (bI 0 (bI 0 (.t 3)))))] [ad [0,0,0],ad [0,0],ad [0],ad []]) ((cx Q0 [2,18])))))))))))))))))))
def jT:=I (cx Rf G6) (I (bE G6 0) (I (bE G6 2) (I (bl Oe [6,7,8,9,11] [10,12] [6,7,8,9,10,11,12] 13 [] [(10,fV 1 (bO (bI 1 (fe (.t 0))))),(12,bI 1 (fe (.t 0)))] [.ay 0,ad [0,0,0],ad [0,0],ad [0],ad [],ad [0,0,0],ad [0,0]]) (I (cx Ur [6,7,8,9,10,11,12]) (I (bl IW [] [13] CL 14 [] [(13,.t 0)] [.ay 0]) (I (aS YE [13] CL) (I (bl QR [] [15] CL 16 [] [(15,.t 0)] [.ay 0]) (I (aS Xv [15] CL) (I (bl MH [14,16] [17] CL 18 [] [(17,.op (.build [.s (.string ⟨#[]⟩),.s (.slice none 0 0),.s (.slice none 0 0)] [(0,1),(1,1),(2,1)] [(0,.t 0),(1,.t 1)]) [.t 14,.t 16])] [ad []]) (I (aS abE [] CL) (I (cx ahM [13,14,15,16,17]) (I (bl QC [] [18] [18,19] 19 [] [(18,.t 0)] [.ay 0]) (I (cx adl [18,19]) (I (bl M5 [] [20] [20,21] 21 [] [(20,.t 0)] [.ay 0]) (I (cx Vl [20,21]) (I (bl Qr [] [22] [22,23] 23 [] [(22,.t 0)] [.ay 0]) (I (aS ago [22] [22,23]) (I (aS agf [] [22,23]) (I (cx amV [22,23]) (I (aR LV [43,44,45,46,47,48,49,50] [42] 51 [] [(42,.pick (hj 3 (bO (bI 0 (.t 4)))) (.op (.bin .eql (.t 0) (.c (.s (.string ⟨#[125]⟩)))) [bO (bI 1 (.t 4)),.c (.s (.string ⟨#[125]⟩))]) (.c (.s (.bool false))))] [ad [0,0,0],ad [0,0],ad [0],ad [0],.sub 0 [1,0,0] [46],.sub 0 [1,0] [46],.sub 0 [1] [46],ad [],ad []]) (I (bl PQ [4,42,51,52,53,54,56] [55,57] [4,42,51,52,53,54,55,56,57] 58 [] [(55,fV 1 (bO (bI 1 (fe (.t 0))))),(57,bI 1 (fe (.t 0)))] [.ay 0,ad [0,0,0],ad [0,0],ad [0],ad [],ad [0,0,0],ad [0,0]]) (I (cx anQ [4,42,51,52,53,54,55,56,57]) (I (bl Sx [0] [58] [0,58,59] 59 [] [(58,.t 0)] [.ay 0]) (I (cx alN [0,58,59]) (I (bl NY [3] [60] [3,60] 61 [] [(60,kA 3 (.t 3))] [ad []]) (I (cx afa [3,60]) (I (bl Pq [42] [62] [42,62,63] 63 [] [(62,.t 0)] [.ay 0]) (I (aS afl [62] [42,62,63]) (I (dB Yi [42,62,63] [61] 62 [] [(61,.t 63)] [.ay 63]) (I (bl RA [4,61,64,66,67] [65,68] IA 69 [] [(65,bO (bI 2 (.t 3))),(68,.op (.build [.s (.string ⟨#[]⟩),.s (.slice none 0 0)] [(0,1),(1,1)] [(0,.t 0)]) [bO (bI 1 (.t 4))])] [ad [0],ad [],.sub 1 [0,0] [],.sub 1 [0] [],.sub 1 [] []]) (I (aS amS [68] IA) (I (aS abB [65,69] IA) (I (bl an6 [] [71] IA 72 [] [(71,bI 2 (.t 3))] [ad []]) (I (cx abR [4,61,64,65,66,67,68,69,70,71]) (I (bl RX [72,73,74,75,77] [76,78] [72,73,74,75,76,77,78] 79 [] [(76,fV 2 (bO (bI 1 (fe (.t 0))))),(78,bI 1 (fe (.t 0)))] [.ay 0,ad [0,0,0],ad [0,0],ad [0],ad [],ad [0,0,0],ad [0,0]]) (I (cx aaZ [72,73,74,75,76,77,78]) (I (aR Jm [61,80,81,82,83,84,85,86,87,88] [79] 89 [] [(79,.pick (lF .neq 1 (bO (bI 0 (.t 4)))) hH (jK .eql 0 (ig (bO (bI 2 (.t 3))))))] [ad [0,0,0],ad [0,0],ad [0],ad [0],.sub 0 [2,0,0,0] [83],.sub 0 [2,0,0] [83],.sub 0 [2,0] [83],.sub 0 [2] [83],ad [],ad []]) (I (aR Jk [4,79,89,90] [91] 92 [] [(91,hj 1 (bO (bI 0 (.t 4))))] [ad [0,0],ad [0],ad []]) (I (bl Lp [91,92,93,94,95,97] [96,98] [91,92,93,94,95,96,97,98] 99 [] [(96,fV 1 (bO (bI 1 (fe (.t 0))))),(98,bI 1 (fe (.t 0)))] [.ay 0,ad [0,0,0],ad [0,0],ad [0],ad [],ad [0,0,0],ad [0,0]]) (I (cx abw [91,92,93,94,95,96,97,98]) (I (bl alR [91] [99] [91,99,100] 100 [] [(99,.t 0)] [.ay 0]) (I (cx aiO [91,99,100]) (I (aR QI [4,24,25,26,27,28,29,30,79] [5] 31 [] [(5,gU 2 (bO (bI 2 (.t 3))) (jK .sub 1 (ig (bO (bI 2 (.t 3))))))] [ad [0,0],ad [0],ad [0,0],ad [0],ad [1,0],ad [1],ad [],ad []]) (I (bx zo OT) (OT.eq_1)))))))))))))))))))))))))))))))))))))))))))))
def jE:=I (cx R5 EX) (I (bE EX 0) (I (bE EX 2) (I (cx Ow []) (I (aS O3 [] [7]) (I (dB anb [7] [4] 5 [] [(4,.t 7)] [.ay 7]) (I (bl HX [] [8] [8] 9 [] [(8,.t 0)] [.ay 0]) (I (cx anT [8]) (I (bl J9 [4,9] [10] PN 11 [] [(10,.t 0)] [.ay 0]) (I (aS ZH [10] PN) (I (bl XV [11] [12,13] PN 14 [] [(12,.op (.field false 1 1 (.t 0)) [.t 11]),(13,bI 1 (.t 3))] [ad [],.sub 1 [] []]) (I (cx acz [4,9,10,11,12,13]) (I (bl JZ [14,15,16,17,19] [18,20] [14,15,16,17,18,19,20] 21 [] [(18,fV 1 (bO (bI 1 (fe (.t 0))))),(20,bI 1 (fe (.t 0)))] [.ay 0,ad [0,0,0],ad [0,0],ad [0],ad [],ad [0,0,0],ad [0,0]]) (I (cx Zx [14,15,16,17,18,19,20]) (I (bl KM [] [21] [21,22] 22 [] [(21,.t 0)] [.ay 0]) (I (cx anK [21,22]) (I (bl HS [] [23] [23,24] 24 [] [(23,.t 0)] [.ay 0]) (I (aS aaH [23] [23,24]) (I (dB agy [23,24] [25] 26 [] [(25,mv (.t 24))] [ad []]) (I (bl J2 [25] [26] [25,26,27] 27 [] [(26,.t 0)] [.ay 0]) (I (cx ah2 [25,26,27]) (I (aS Pm [25] [25,28]) (I (dB XC [25,28] [4] 5 [] [(4,.t 28)] [.ay 28]) (I (bl F8 [4,9] [30,31] FB 32 [] [(30,.t 4),(31,.t 0)] [.ay 4,.ay 0]) (I (aS YK [31] FB) (I (bl aom [29,30,32,33,34] [35,36] FB 37 [] [(35,gY 0 (.op (.j6 .string (.agg [.s (.int .u8 0),.s .nilFunc]) (.t 0) (.t 1) true) [.t 30,.op (.field false 1 1 (.t 0)) [.t 32]])),(36,gY 1 (.op (.j6 .string (.agg [.s (.int .u8 0),.s .nilFunc]) (.t 0) (.t 1) true) [.t 30,.op (.field false 1 1 (.t 0)) [.t 32]]))] [ad [0,1],ad [0],ad [0],ad [],.sub 1 [] []]) (I (aS aor [] FB) (I (aS aeP [35] FB) (I (dB agX [4,9,29,30,31,32,33,34,35,36] [6] 7 [] [(6,.t 36)] [.ay 36]) (I (aR DK [37,38,39,40,41,42] [43] 44 [] [(43,.pick (mv (.t 6)) (.op (.bin .eql (.t 0) (.c (.s (.string ⟨#[]⟩)))) [bO (bI 1 (.t 3)),.c (.s (.string ⟨#[]⟩))]) (.c (.s (.bool false))))] [.ay 6,ad [0],ad [0],.sub 0 [1,0,0] [39],.sub 0 [1,0] [39],.sub 0 [1] [39],ad []]) (I (bl DY [43,44,45,46,47,49] [48,50] [43,44,45,46,47,48,49,50] 51 [] [(48,fV 1 (bO (bI 1 (fe (.t 0))))),(50,bI 1 (fe (.t 0)))] [.ay 0,ad [0,0,0],ad [0,0],ad [0],ad [],ad [0,0,0],ad [0,0]]) (I (cx XH [43,44,45,46,47,48,49,50]) (I (bl BQ [6,43,51,52] [53] ME 54 [] [(53,mv (.t 6))] [.ay 6,ad [],ad []]) (I (aS YA [] ME) (I (aS am8 [54] ME) (I (dB Zl [6,43,51,52,53,54,55,56,57] [58] 59 [] [(58,.pick (.t 53) (.c (.s (.bool true))) (lF .neq 1 (.op (.field false 0 1 (.t 0)) [.t 55])))] [.sub 0 [2,0] [53],.sub 0 [2] [53],ad []]) (I (bl Le [58] [59] [58,59,60] 60 [] [(59,.t 0)] [.ay 0]) (I (cx ac1 [58,59,60]) (I (bl JJ [58,61,62,63,64,66] [65,67] [58,61,62,63,64,65,66,67] 68 [] [(65,fV 1 (bO (bI 1 (fe (.t 0))))),(67,bI 1 (fe (.t 0)))] [.ay 0,ad [0,0,0],ad [0,0],ad [0],ad [],ad [0,0,0],ad [0,0]]) (I (cx afA [58,61,62,63,64,65,66,67]) (I (bl LJ [68] [69,70] [68,69,70] 71 [] [(69,bO (bI 0 (.t 5))),(70,bI 0 (.t 3))] [ad [0],ad [],.sub 1 [] []]) (I (cx anr [68,69,70]) (I (bl K6 [0,5,71] [72,73] [0,5,71,72,73,74] 74 [] [(72,bO (bI 1 (.t 5))),(73,.t 0)] [ad [0],ad [],.ay 0]) (I (cx UR [0,5,71,72,73,74]) (I (bl IM [3] [75] [3,75] 76 [] [(75,kA 8 (.t 3))] [ad []]) ((cx aaA [3,75]))))))))))))))))))))))))))))))))))))))))))))))
def atA:=I (aR Um Tk [] 1 [] [] [.cI (.s (.map none))]) (I avD (I (aS VU [] sn) (I (bl afR [] [2] sn 3 [] [(2,.op (.build [.s (.int .u8 0),.s .nilFunc] [(0,1),(1,1)] [(0,.c (.s (.int .u8 9))),(1,.c (.fn 60 [] []))]) [.c (.s (.int .u8 9)),.c (.fn 60 [] [])])] [ad []]) (I (aS X1 [2] sn) (I (bl TV [] [3] sn 4 [] [(3,.op (.build [.s (.int .u8 0),.s .nilFunc] [(0,1),(1,1)] [(0,.c (.s (.int .u8 10))),(1,.c (.fn 61 [] []))]) [.c (.s (.int .u8 10)),.c (.fn 61 [] [])])] [ad []]) (I (aS agT [3] sn) (I (bl Wk [] [4] sn 5 [] [(4,.op (.build [.s (.int .u8 0),.s .nilFunc] [(0,1),(1,1)] [(0,.c (.s (.int .u8 11))),(1,.c (.fn 62 [] []))]) [.c (.s (.int .u8 11)),.c (.fn 62 [] [])])] [ad []]) (I (aS aaz [4] sn) (I (bl V4 [] [5] sn 6 [] [(5,.op (.build [.s (.int .u8 0),.s .nilFunc] [(0,1),(1,1)] [(0,.c (.s (.int .u8 12))),(1,.c (.fn 63 [] []))]) [.c (.s (.int .u8 12)),.c (.fn 63 [] [])])] [ad []]) (I (aS Xl [5] sn) (I (bl ahU [] [6] sn 7 [] [(6,.op (.build [.s (.int .u8 0),.s .nilFunc] [(0,1),(1,1)] [(0,.c (.s (.int .u8 13))),(1,.c (.fn 64 [] []))]) [.c (.s (.int .u8 13)),.c (.fn 64 [] [])])] [ad []]) (I (aS al3 [6] sn) (I (bl Xm [] [7] sn 8 [] [(7,.op (.build [.s (.int .u8 0),.s .nilFunc] [(0,1),(1,1)] [(0,.c (.s (.int .u8 14))),(1,.c (.fn 65 [] []))]) [.c (.s (.int .u8 14)),.c (.fn 65 [] [])])] [ad []]) (I (aS Xa [7] sn) ((dB aeL [1,2,3,4,5,6,7,8] [0] 9 [] [(0,.t 1)] [.ay 1,.ay 1]))))))))))))))))
def aFL:=I (aR aaj Su [] 1 [] [] [.cI (.s (.map none))]) (I aBB (I (aS aae [] mB) (I (bl akY [] [2] mB 3 [] [(2,.op (.build [.s (.int .u8 0),.s .nilFunc] [(0,1),(1,1)] [(0,.c (.s (.int .u8 1))),(1,.c (.fn 66 [] []))]) [.c (.s (.int .u8 1)),.c (.fn 66 [] [])])] [ad []]) (I (aS Wt [2] mB) (I (bl abM [] [3] mB 4 [] [(3,.op (.build [.s (.int .u8 0),.s .nilFunc] [(0,1),(1,1)] [(0,.c (.s (.int .u8 2))),(1,.c (.fn 66 [] []))]) [.c (.s (.int .u8 2)),.c (.fn 66 [] [])])] [ad []]) (I (aS ad3 [3] mB) (I (bl aa2 [] [4] mB 5 [] [(4,.op (.build [.s (.int .u8 0),.s .nilFunc] [(0,1),(1,1)] [(0,.c (.s (.int .u8 3))),(1,.c (.fn 67 [] []))]) [.c (.s (.int .u8 3)),.c (.fn 67 [] [])])] [ad []]) (I (aS WQ [4] mB) (I (bl abX [] [5] mB 6 [] [(5,.op (.build [.s (.int .u8 0),.s .nilFunc] [(0,1),(1,1)] [(0,.c (.s (.int .u8 4))),(1,.c (.fn 68 [] []))]) [.c (.s (.int .u8 4)),.c (.fn 68 [] [])])] [ad []]) (I (aS ahy [5] mB) (I (bl ZV [] [6] mB 7 [] [(6,.op (.build [.s (.int .u8 0),.s .nilFunc] [(0,1),(1,1)] [(0,.c (.s (.int .u8 5))),(1,.c (.fn 69 [] []))]) [.c (.s (.int .u8 5)),.c (.fn 69 [] [])])] [ad []]) (I (aS aiu [6] mB) (I (bl aou [] [7] mB 8 [] [(7,.op (.build [.s (.int .u8 0),.s .nilFunc] [(0,1),(1,1)] [(0,.c (.s (.int .u8 8))),(1,.c (.fn 69 [] []))]) [.c (.s (.int .u8 8)),.c (.fn 69 [] [])])] [ad []]) (I (aS ahO [7] mB) (I (bl ad8 [] [8] mB 9 [] [(8,.op (.build [.s (.int .u8 0),.s .nilFunc] [(0,1),(1,1)] [(0,.c (.s (.int .u8 7))),(1,.c (.fn 70 [] []))]) [.c (.s (.int .u8 7)),.c (.fn 70 [] [])])] [ad []]) (I (aS Wm [8] mB) (I (bl acj [] [9] mB 10 [] [(9,.op (.build [.s (.int .u8 0),.s .nilFunc] [(0,1),(1,1)] [(0,.c (.s (.int .u8 6))),(1,.c (.fn 71 [] []))]) [.c (.s (.int .u8 6)),.c (.fn 71 [] [])])] [ad []]) (I (aS Uz [9] mB) (I (bl Yl [] [10] mB 11 [] [(10,.op (.build [.s (.int .u8 0),.s .nilFunc] [(0,1),(1,1)] [(0,.c (.s (.int .u8 10))),(1,.c (.fn 61 [] []))]) [.c (.s (.int .u8 10)),.c (.fn 61 [] [])])] [ad []]) (I (aS agc [10] mB) (I (bl ajP [] [11] mB 12 [] [(11,.op (.build [.s (.int .u8 0),.s .nilFunc] [(0,1),(1,1)] [(0,.c (.s (.int .u8 11))),(1,.c (.fn 62 [] []))]) [.c (.s (.int .u8 11)),.c (.fn 62 [] [])])] [ad []]) (I (aS amk [11] mB) ((dB agM [1,2,3,4,5,6,7,8,9,10,11,12] [0] 13 [] [(0,.t 1)] [.ay 1,.ay 1]))))))))))))))))))))))))
theorem aqa:yL [39] Tryd.prog fm 18=some (false,oV.ntmps,oV.results,oV.body.bare):=by kernel_rfl
theorem aqx:fN Tryd.prog fm 39=some (false,pU.ntmps,pU.results,pU.body.bare):=by kernel_rfl
theorem aA7:fN Tryd.prog fm 52=some (false,xe.ntmps,xe.results,xe.body.bare):=by kernel_rfl
theorem aDO:fN Tryd.prog fm 53=some (false,x2.ntmps,x2.results,x2.body.bare):=by kernel_rfl
abbrev Zq:Nat:=11
def wP:=[0,1]++List.range' 4 160
def Us:=[c0 4 dP]
def Ji:=q 3 (.box (.t 1))::Us
def To:=[q 2 (.box (.t 0))]
def T6:=To++Ji
def BU:=[0]++List.range' 3 161
def aEp(call:c5)(it:gS)(base f H):aC call it base (.region T6 [] wP) f H=qc call it base (.region Ji [] wP) (sd [] To BU (cu call base [⟨some 2,.box (.t 0),none⟩] f H)):=(E6 call it base To Ji (kc:=BU) (by kernel_rfl) f H).trans (by rw[Ee];rfl)
def Y5:=[b2 14 0 2,cL 15 14,q 16 (.dD .s (.t 15)),b2 17 0 3,cL 18 17,q 19 (.dD .s (.t 18)),q 20 (.bin .neq (.t 16) (.t 19))]
def ahY:=[c0 4 dP]
def aid:=[c0 5 (b1 0)]
def Yg:=[ai 21 5,b2 22 0 2,cL 23 22,q 24 (.dD .s (.t 23)),q 25 (.bin .lss (.t 21) (.t 24))]
def alX:=[dt 3 7 37]
def Zi:=dt 3 6 32::alX
def WB:=q 7 (.alloc [cm,dV,dV])::Zi
def am6:=q 6 (.alloc [cm,dV,dV])::WB
def awK:=[b2 28 0 2,cL 29 28,ai 30 5,iJ 31 3 29 30,q 32 (.load true 3 (.t 31)),b2 33 0 3,cL 34 33,ai 35 5,iJ 36 3 34 35,q 37 (.load true 3 (.t 36))]
def akp:=awK++am6
def afT:=[bQ 49 (.un .not (.t 48)) 43 false,ev 50 (.t 43) gk (.t 49),ai 51 50,ef 52 2 6 51 false,e7 53 52 51 false,bQ 54 (.dD .s (.t 53)) 51 false,ef 55 2 7 51 false,e7 56 55 51 false,bQ 57 (.dD .s (.t 56)) 51 false,bQ 58 (.bin .neq (.t 54) (.t 57)) 51 false,ev 59 (.t 51) gk (.t 58)]
def abV:=bQ 48 (.call (.c (.fn 24 [] [])) [.t 45,.t 47]) 43 false::afT
def Xb:=e7 47 46 43 false::abV
def aeu:=ef 46 1 7 43 false::Xb
def ahS:=e7 45 44 43 false::aeu
def Uo:=ef 44 1 6 43 false::ahS
def aq4:=[b2 38 0 6,cL 39 38,b2 40 0 7,cL 41 40,q 42 (.bin .neq (.t 39) (.t 41)),ai 43 42]
def VE:=aq4++Uo
def Xg:=[c0 4 dP]
def WI:=[c0 8 (b1 0)]
def Y0:=[ai 60 8,b2 61 2 6,cL 62 61,q 63 (.dD .s (.t 62)),q 64 (.bin .lss (.t 60) (.t 63))]
def aln:=[dt 2 10 76]
def abb:=dt 2 9 71::aln
def abQ:=q 10 (.alloc [cm,dV])::abb
def Xt:=q 9 (.alloc [cm,dV])::abQ
def aoZ:=[b2 67 2 6,cL 68 67,ai 69 8,iJ 70 2 68 69,q 71 (.load true 2 (.t 70)),b2 72 2 7,cL 73 72,ai 74 8,iJ 75 2 73 74,q 76 (.load true 2 (.t 75))]
def am5:=aoZ++Xt
def acF:=[b2 77 0 9,cL 78 77,b2 79 0 10,cL 80 79,q 81 (.bin .neq (.t 78) (.t 80)),ai 82 81,ef 83 1 9 82 false,e7 84 83 82 false,bQ 85 (.dD .s (.t 84)) 82 false,ef 86 1 10 82 false,e7 87 86 82 false,bQ 88 (.dD .s (.t 87)) 82 false,bQ 89 (.bin .neq (.t 85) (.t 88)) 82 false,ev 90 (.t 82) gk (.t 89)]
def acY:=[c0 4 dP]
def ahj:=[c0 11 (b1 0)]
def aaP:=[ai 91 11,b2 92 1 9,cL 93 92,q 94 (.dD .s (.t 93)),q 95 (.bin .lss (.t 91) (.t 94))]
def TZ:=[dt 8 13 107]
def T8:=dt 8 12 102::TZ
def X':=q 13 (.alloc [ec,cm,cm,cm,dc,cm,dV,dV])::T8
def akK:=q 12 (.alloc [ec,cm,cm,cm,dc,cm,dV,dV])::X'
def aBk:=[b2 98 1 9,cL 99 98,ai 100 11,iJ 101 8 99 100,q 102 (.load true 8 (.t 101)),b2 103 1 10,cL 104 103,ai 105 11,iJ 106 8 104 105,q 107 (.load true 8 (.t 106))]
def abd:=aBk++akK
def X9:=[bQ 162 (.un .not (.t 161)) 156 false,ev 163 (.t 156) gk (.t 162)]
def UB:=bQ 161 (.call (.c (.fn 24 [] [])) [.t 158,.t 160]) 156 false::X9
def agp:=e7 160 159 156 false::UB
def al7:=ef 159 7 13 156 false::agp
def Vf:=e7 158 157 156 false::al7
def afw:=ef 157 7 12 156 false::Vf
def ayZ:=[bQ 154 (.un .not (.t 153)) 148 false,ev 155 (.t 148) gk (.t 154),ai 156 155]
def al2:=ayZ++afw
def XZ:=bQ 153 (.call (.c (.fn 24 [] [])) [.t 150,.t 152]) 148 false::al2
def air:=e7 152 151 148 false::XZ
def ad0:=ef 151 6 13 148 false::air
def ahQ:=e7 150 149 148 false::ad0
def ZE:=ef 149 6 12 148 false::ahQ
def apO:=[b2 108 0 12,cL 109 108,b2 110 0 13,cL 111 110,q 112 (.bin .neq (.t 109) (.t 111)),ai 113 112,ef 114 1 12 113 false,e7 115 114 113 false,ef 116 1 13 113 false,e7 117 116 113 false,bQ 118 (.bin .neq (.t 115) (.t 117)) 113 false,ev 119 (.t 113) gk (.t 118),ai 120 119,ef 121 2 12 120 false,e7 122 121 120 false,ef 123 2 13 120 false,e7 124 123 120 false,bQ 125 (.bin .neq (.t 122) (.t 124)) 120 false,ev 126 (.t 120) gk (.t 125),ai 127 126,ef 128 3 12 127 false,e7 129 128 127 false,ef 130 3 13 127 false,e7 131 130 127 false,bQ 132 (.bin .neq (.t 129) (.t 131)) 127 false,ev 133 (.t 127) gk (.t 132),ai 134 133,ef 135 4 12 134 false,e7 136 135 134 false,ef 137 4 13 134 false,e7 138 137 134 false,bQ 139 (.bin .neq (.t 136) (.t 138)) 134 false,ev 140 (.t 134) gk (.t 139),ai 141 140,ef 142 5 12 141 false,e7 143 142 141 false,ef 144 5 13 141 false,e7 145 144 141 false,bQ 146 (.bin .neq (.t 143) (.t 145)) 141 false,ev 147 (.t 141) gk (.t 146),ai 148 147]
def ak7:=apO++ZE
def abI:=[c0 4 dP]
def aad:=[ai 96 11,q 97 (.bin .add (.t 96) (b1 1)),ai 11 97]
def NK:cM:=
 (.seq (.seq (.bc aaP [91,92,93,94] [95])
 (.cond (.t 95)
 .skip
 (.exit 4)))
 (.seq (.block 5
 (.seq (.region abd [] [95,98,99,100,101,102,103,104,105,106,107])
 (.seq (.region ak7 [] [12,13,108,109,110,111,112,113,114,115,116,117,118,119,120,121,122,123,124,125,126,127,128,129,130,131,132,133,134,135,136,137,138,139,140,141,142,143,144,145,146,147,148,149,150,151,152,153,154,155,156,157,158,159,160,161,162])
 (.cond (.t 163)
 (.seq (.bc abI [2,3,5,6,7,8,9,10,11,163] [4])
 .ret)
 .skip))))
 (.bc aad [96,97,163] [11])))
def IZ:cM:=NK
def X2:=[ai 65 8,q 66 (.bin .add (.t 65) (b1 1)),ai 8 66]
def PC:cM:=
 (.seq (.seq (.bc Y0 [60,61,62,63] [64])
 (.cond (.t 64)
 .skip
 (.exit 2)))
 (.seq (.block 3
 (.seq (.region am5 [] [64,67,68,69,70,71,72,73,74,75,76])
 (.seq (.seq (.bc acF [77,78,79,80,81,82,83,84,85,86,87,88,89] [90])
 (.cond (.t 90)
 (.seq (.bc acY [2,3,5,6,7,8,9,10,90] [4])
 .ret)
 .skip))
 (.seq (.bc ahj [90] [11])
 (.block 4
 (.loop [] IZ))))))
 (.bc X2 [9,10,11,65,66,95] [8])))
def Mw:cM:=PC
def abu:=[ai 26 5,q 27 (.bin .add (.t 26) (b1 1)),ai 5 27]
def RD:cM:=
 (.seq (.seq (.bc Yg [21,22,23,24] [25])
 (.cond (.t 25)
 .skip
 (.exit 0)))
 (.seq (.block 1
 (.seq (.region akp [] [25,28,29,30,31,32,33,34,35,36,37])
 (.seq (.seq (.region VE [] [38,39,40,41,42,43,44,45,46,47,48,49,50,51,52,53,54,55,56,57,58])
 (.cond (.t 59)
 (.seq (.bc Xg [2,3,5,6,7,59] [4])
 .ret)
 .skip))
 (.seq (.bc WI [59] [8])
 (.block 2
 (.loop [] Mw))))))
 (.bc abu [6,7,8,26,27,64] [5])))
def Li:cM:=RD
def aeg:=[c0 4 gk]
def xW:eI:={ ntmps:=164,results:=[.tmp 4],body:=
 (.seq (.region T6 [] wP)
 (.seq (.seq (.bc Y5 [14,15,16,17,18,19] [20])
 (.cond (.t 20)
 (.seq (.bc ahY [2,3,20] [4])
 .ret)
 .skip))
 (.seq (.seq (.bc aid [20] [5])
 (.block 0
 (.loop [] Li)))
 (.seq (.bc aeg [2,3,5,25] [4])
 .ret)))) }
theorem apG:gF (List.range' 2 (xW.ntmps-2)) xW.body=true:=by kernel_rfl
abbrev O1:Nat:=12
def Tq:=List.range' 0 75
theorem aqX:hV Tq (gC 75 [] 0)=[]:=by kernel_rfl
def afv:=[c0 0 dP]
def aiF:=[ai 3 8]
def aa5:=dt 2 2 7::aiF
def aog:=dt 1 1 6::aa5
def UG:=q 2 (.alloc [dc,dc])::aog
def aiz:=q 1 (.alloc [dV])::UG
def auL:=[ai 4 5,gJ 6 4 0,gJ 7 4 1,gJ 8 4 2]
def aao:=auL++aiz
def Wy:=c2 5 9 [cv #[102,117,110,99,32,109,97,105,110,40,112,41,32,123,10,97,58,32,59,32,120,10,32,32,120,32,61,32,102,105,101,108,100,32,112,32,51,10,32,32,114,101,116,10,125,10]]::aao
def an8:=[ai 9 3,q 10 (.bin .eql (.t 9) (b1 0)),ai 11 10,ef 12 0 1 11 true,e7 13 12 11 true,bQ 14 (.dD .s (.t 13)) 11 true,bQ 15 (.bin .eql (.t 14) (b1 1)) 11 true,ev 16 (.t 11) (.t 15) dP,ai 17 16,ef 18 0 1 17 true,e7 19 18 17 true,bQ 20 (.indexAddr 3 (.t 19) (b1 0)) 17 true,ef 21 1 20 17 true,e7 22 21 17 true,bQ 23 (.dD .s (.t 22)) 17 true,bQ 24 (.bin .eql (.t 23) (b1 1)) 17 true,ev 25 (.t 17) (.t 24) dP,ai 26 25,ef 27 0 1 26 true,e7 28 27 26 true,bQ 29 (.indexAddr 3 (.t 28) (b1 0)) 26 true,ef 30 2 29 26 true,e7 31 30 26 true,bQ 32 (.dD .s (.t 31)) 26 true,bQ 33 (.bin .eql (.t 32) (b1 1)) 26 true,ev 34 (.t 26) (.t 33) dP,ai 35 34,ef 36 0 1 35 true,e7 37 36 35 true,bQ 38 (.indexAddr 3 (.t 37) (b1 0)) 35 true,ef 39 2 38 35 true,e7 40 39 35 true,bQ 41 (.indexAddr 2 (.t 40) (b1 0)) 35 true,ef 42 1 41 35 true,e7 43 42 35 true,bQ 44 (.dD .s (.t 43)) 35 true,bQ 45 (.bin .eql (.t 44) (b1 2)) 35 true,ev 46 (.t 35) (.t 45) dP,ai 47 46,ef 48 0 1 47 true,e7 49 48 47 true,bQ 50 (.indexAddr 3 (.t 49) (b1 0)) 47 true,ef 51 2 50 47 true,e7 52 51 47 true,bQ 53 (.indexAddr 2 (.t 52) (b1 0)) 47 true,ef 54 1 53 47 true,e7 55 54 47 true,bQ 56 (.indexAddr 8 (.t 55) (b1 0)) 47 true,ef 57 4 56 47 true,e7 58 57 47 true,bQ 59 (.bin .eql (.t 58) (b1 3)) 47 true,ev 60 (.t 47) (.t 59) dP,ai 61 60,ef 62 0 1 61 true,e7 63 62 61 true,bQ 64 (.indexAddr 3 (.t 63) (b1 0)) 61 true,ef 65 2 64 61 true,e7 66 65 61 true,bQ 67 (.indexAddr 2 (.t 66) (b1 0)) 61 true,ef 68 1 67 61 true,e7 69 68 61 true,bQ 70 (.indexAddr 8 (.t 69) (b1 0)) 61 true,ef 71 2 70 61 true,e7 72 71 61 true,bQ 73 (.bin .eql (.t 72) (cv #[112])) 61 true,ev 74 (.t 61) (.t 73) dP,ai 0 74]
def x8:eI:={ ntmps:=75,results:=[.tmp 0],body:=
 (.seq (.bc afv Tq [])
 (.seq (.region Wy [] [2,4,5,6,7,8])
 (.seq (.bc an8 [1,3,9,10,11,12,13,14,15,16,17,18,19,20,21,22,23,24,25,26,27,28,29,30,31,32,33,34,35,36,37,38,39,40,41,42,43,44,45,46,47,48,49,50,51,52,53,54,55,56,57,58,59,60,61,62,63,64,65,66,67,68,69,70,71,72,73,74] [0])
 .ret))) }
abbrev Qn:Nat:=24
def Hk:=List.range' 2 24
theorem atl:hV Hk (gC 26 [] 2)=[]:=by kernel_rfl
def ahB:=[c0 4 dP]
def agn:=[ai 6 0,q 7 (.dD .s (.t 6)),ai 8 1,q 9 (.dD .s (.t 8)),q 10 (.bin .neq (.t 7) (.t 9))]
def aa1:=[c0 4 dP]
def Xo:=[c0 5 (b1 0)]
def abU:=[ai 11 5,ai 12 0,q 13 (.dD .s (.t 12)),q 14 (.bin .lss (.t 11) (.t 13))]
def aau:=[ai 17 0,ai 18 5,iJ 19 1 17 18,cL 20 19,ai 21 1,ai 22 5,iJ 23 1 21 22,cL 24 23,q 25 (.bin .neq (.t 20) (.t 24))]
def ad7:=[c0 4 dP]
def am1:=[ai 15 5,q 16 (.bin .add (.t 15) (b1 1)),ai 5 16]
def RN:cM:=
 (.seq (.seq (.bc abU [11,12,13] [14])
 (.cond (.t 14)
 .skip
 (.exit 0)))
 (.seq (.block 1
 (.seq (.bc aau [14,17,18,19,20,21,22,23,24] [25])
 (.cond (.t 25)
 (.seq (.bc ad7 [0,1,5,25] [4])
 .ret)
 .skip)))
 (.bc am1 [15,16,25] [5])))
def Ms:cM:=RN
def Xr:=[c0 4 gk]
def xd:eI:={ ntmps:=26,results:=[.tmp 4],body:=
 (.seq (.bc ahB Hk [])
 (.seq (.seq (.bc agn [6,7,8,9] [10])
 (.cond (.t 10)
 (.seq (.bc aa1 [0,1,10] [4])
 .ret)
 .skip))
 (.seq (.seq (.bc Xo [10] [5])
 (.block 0
 (.loop [] Ms)))
 (.seq (.bc Xr [0,1,5,14] [4])
 .ret)))) }
def AD:=I (bn BU 0) (I (bE BU 1) (I (bE BU 2) (I (bn BU 3) (I (bn BU 4) (I aEp (I (aS Ji [1] wP) (I (dB Us wP [] 5 [] [] [.cI (.s (.bool false))]) (I (bn wP 0) (I (bn wP 1) (I (bE wP 2) (I (bE wP 3) (I (bn wP 4) (I (aR Y5 [14,15,16,17,18,19] [20] 21 [] [(20,eS .neq (ig (bO (bI 0 (.t 2)))) (ig (bO (bI 0 (.t 3)))))] [ad [0,0,0],ad [0,0],ad [0],ad [1,0,0],ad [1,0],ad [1],ad []]) (I (aR ahY [2,3,20] [4] 5 [] [(4,ht)] [.cI (.s (.bool false))]) (I (aR aid [20] [5] 6 [] [(5,jz 0)] [.cI (.s (.int .i64 0))]) (I (aR Yg [21,22,23,24] [25] 26 [] [(25,eS .lss (.t 5) (ig (bO (bI 0 (.t 2)))))] [.ay 5,ad [1,0,0],ad [1,0],ad [1],ad []]) (I (bl akp [25,28,29,30,31,33,34,35,36] [32,37] Jy 38 [] [(32,kA 3 (gU 3 (bO (bI 0 (.t 2))) (.t 5))),(37,kA 3 (gU 3 (bO (bI 0 (.t 3))) (.t 5)))] [ad [0,0,0],ad [0,0],.ay 5,ad [0],ad [],.sub 1 [0,0,0] [],.sub 1 [0,0] [],.ay 5,.sub 1 [0] [],.sub 1 [] []]) (I (aS am6 [] Jy) (I (aS WB [] Jy) (I (aS Zi [32] Jy) (I (cx alX [25,28,29,30,31,32,33,34,35,36,37]) (I (bl VE [38,39,40,41,42] [43] DR 44 [] [(43,eS .neq (bO (bI 0 (.t 6))) (bO (bI 0 (.t 7))))] [ad [0,0],ad [0],ad [1,0],ad [1],ad [],ad []]) (I (aS Uo [] DR) (I (aS ahS [44] DR) (I (aS aeu [] DR) (I (aS Xb [46] DR) (I (aS abV [45,47] DR) (I (dB afT [38,39,40,41,42,43,44,45,46,47,48,49,50,51,52,53,54,55,56,57,58] [59] 60 [] [(59,.pick (.pick (.t 43) hH (mv (.t 48))) hH (eS .neq (ig (bO (bI 2 (.t 6)))) (ig (bO (bI 2 (.t 7))))))] [.sub 0 [0,2] [43],ad [0],ad [0],.sub 0 [2,0,0,0] [51],.sub 0 [2,0,0] [51],.sub 0 [2,0] [51],.sub 0 [2,1,0,0] [51],.sub 0 [2,1,0] [51],.sub 0 [2,1] [51],.sub 0 [2] [51],ad []]) (I (aR Xg [2,3,5,6,7,59] [4] 5 [] [(4,ht)] [.cI (.s (.bool false))]) (I (aR WI [59] [8] 9 [] [(8,jz 0)] [.cI (.s (.int .i64 0))]) (I (aR Y0 [60,61,62,63] [64] 65 [] [(64,eS .lss (.t 8) (ig (bO (bI 2 (.t 6)))))] [.ay 8,ad [1,0,0],ad [1,0],ad [1],ad []]) (I (bl am5 [64,67,68,69,70,72,73,74,75] [71,76] KQ 77 [] [(71,kA 2 (gU 2 (bO (bI 2 (.t 6))) (.t 8))),(76,kA 2 (gU 2 (bO (bI 2 (.t 7))) (.t 8)))] [ad [0,0,0],ad [0,0],.ay 8,ad [0],ad [],.sub 1 [0,0,0] [],.sub 1 [0,0] [],.ay 8,.sub 1 [0] [],.sub 1 [] []]) (I (aS Xt [] KQ) (I (aS abQ [] KQ) (I (aS abb [71] KQ) (I (cx aln [64,67,68,69,70,71,72,73,74,75,76]) (I (aR acF [77,78,79,80,81,82,83,84,85,86,87,88,89] [90] 91 [] [(90,.pick (eS .neq (bO (bI 0 (.t 9))) (bO (bI 0 (.t 10)))) hH (eS .neq (ig (bO (bI 1 (.t 9)))) (ig (bO (bI 1 (.t 10))))))] [ad [0,0,0],ad [0,0],ad [0,1,0],ad [0,1],ad [0],ad [0],.sub 0 [2,0,0,0] [82],.sub 0 [2,0,0] [82],.sub 0 [2,0] [82],.sub 0 [2,1,0,0] [82],.sub 0 [2,1,0] [82],.sub 0 [2,1] [82],.sub 0 [2] [82],ad []]) (I (aR acY [2,3,5,6,7,8,9,10,90] [4] 5 [] [(4,ht)] [.cI (.s (.bool false))]) (I (aR ahj [90] [11] 12 [] [(11,jz 0)] [.cI (.s (.int .i64 0))]) (I (aR aaP [91,92,93,94] [95] 96 [] [(95,eS .lss (.t 11) (ig (bO (bI 1 (.t 9)))))] [.ay 11,ad [1,0,0],ad [1,0],ad [1],ad []]) (I (bl abd [95,98,99,100,101,103,104,105,106] [102,107] Kn 108 [] [(102,kA 8 (gU 8 (bO (bI 1 (.t 9))) (.t 11))),(107,kA 8 (gU 8 (bO (bI 1 (.t 10))) (.t 11)))] [ad [0,0,0],ad [0,0],.ay 11,ad [0],ad [],.sub 1 [0,0,0] [],.sub 1 [0,0] [],.ay 11,.sub 1 [0] [],.sub 1 [] []]) (I (aS akK [] Kn) (I (aS X' [] Kn) (I (aS T8 [102] Kn) (I (cx TZ [95,98,99,100,101,102,103,104,105,106,107]) (I (bl ak7 [108,109,110,111,112,113,114,115,116,117,118,119,120,121,122,123,124,125,126,127,128,129,130,131,132,133,134,135,136,137,138,139,140,141,142,143,144,145,146,147] [148] th 149 [] [(148,.pick (.pick (.pick (.pick (.pick (eS .neq (bO (bI 0 (.t 12))) (bO (bI 0 (.t 13)))) hH (eS .neq (bO (bI 1 (.t 12))) (bO (bI 1 (.t 13))))) hH (eS .neq (bO (bI 2 (.t 12))) (bO (bI 2 (.t 13))))) hH (eS .neq (bO (bI 3 (.t 12))) (bO (bI 3 (.t 13))))) hH (eS .neq (bO (bI 4 (.t 12))) (bO (bI 4 (.t 13))))) hH (eS .neq (bO (bI 5 (.t 12))) (bO (bI 5 (.t 13)))))] [ad [0,0,0,0,0,0,0],ad [0,0,0,0,0,0],ad [0,0,0,0,0,1,0],ad [0,0,0,0,0,1],ad [0,0,0,0,0],ad [0,0,0,0,0],.sub 0 [0,0,0,0,2,0,0] [113],.sub 0 [0,0,0,0,2,0] [113],.sub 0 [0,0,0,0,2,1,0] [113],.sub 0 [0,0,0,0,2,1] [113],.sub 0 [0,0,0,0,2] [113],ad [0,0,0,0],ad [0,0,0,0],.sub 0 [0,0,0,2,0,0] [120],.sub 0 [0,0,0,2,0] [120],.sub 0 [0,0,0,2,1,0] [120],.sub 0 [0,0,0,2,1] [120],.sub 0 [0,0,0,2] [120],ad [0,0,0],ad [0,0,0],.sub 0 [0,0,2,0,0] [127],.sub 0 [0,0,2,0] [127],.sub 0 [0,0,2,1,0] [127],.sub 0 [0,0,2,1] [127],.sub 0 [0,0,2] [127],ad [0,0],ad [0,0],.sub 0 [0,2,0,0] [134],.sub 0 [0,2,0] [134],.sub 0 [0,2,1,0] [134],.sub 0 [0,2,1] [134],.sub 0 [0,2] [134],ad [0],ad [0],.sub 0 [2,0,0] [141],.sub 0 [2,0] [141],.sub 0 [2,1,0] [141],.sub 0 [2,1] [141],.sub 0 [2] [141],ad [],ad []]) (I (aS ZE [] th) (I (aS ahQ [149] th) (I (aS ad0 [] th) (I (aS air [151] th) (I (aS XZ [150,152] th) (I (bl al2 [148,153,154,155] [156] th 157 [] [(156,.pick (.t 148) hH (mv (.t 153)))] [.sub 0 [2] [148],ad [],ad []]) (I (aS afw [12] th) (I (aS Vf [157] th) (I (aS al7 [13] th) (I (aS agp [159] th) (I (aS UB [158,160] th) (I (dB X9 [12,13,108,109,110,111,112,113,114,115,116,117,118,119,120,121,122,123,124,125,126,127,128,129,130,131,132,133,134,135,136,137,138,139,140,141,142,143,144,145,146,147,148,149,150,151,152,153,154,155,156,157,158,159,160,161,162] [163] 164 [] [(163,.pick (.t 156) hH (mv (.t 161)))] [.sub 0 [2] [156],ad []]) (I (aR abI [2,3,5,6,7,8,9,10,11,163] [4] 5 [] [(4,ht)] [.cI (.s (.bool false))]) (I (aR aad [96,97,163] [11] 98 [] [(11,fV 1 (.t 11))] [.ay 11,ad [],ad []]) (I (bx IZ NK) (I (aR X2 [9,10,11,65,66,95] [8] 67 [] [(8,fV 1 (.t 8))] [.ay 8,ad [],ad []]) (I (bx Mw PC) (I (aR abu [6,7,8,26,27,64] [5] 28 [] [(5,fV 1 (.t 5))] [.ay 5,ad [],ad []]) (I (bx Li RD) (I (aR aeg [2,3,5,25] [4] 5 [] [(4,hH)] [.cI (.s (.bool true))]) (I NK.eq_1 (I RD.eq_1 (PC.eq_1)))))))))))))))))))))))))))))))))))))))))))))))))))))))))))))))))))))
def aIs:=I (aR afv Tq [] 1 [] [] [.cI (.s (.bool false))]) (I aqX (I (aS Wy [] CP) (I (bl aao [4,5] [6,7,8] CP 9 [] [(6,gY 0 (.t 5)),(7,gY 1 (.t 5)),(8,gY 2 (.t 5))] [.ay 5,ad [],.sub 1 [] [],.sub 2 [] []]) (I (aS aiz [] CP) (I (aS UG [] CP) (I (aS aog [6] CP) (I (aS aa5 [2,7] CP) (I (dB aiF [2,4,5,6,7,8] [3] 4 [] [(3,.t 8)] [.ay 8]) ((aR an8 [1,3,9,10,11,12,13,14,15,16,17,18,19,20,21,22,23,24,25,26,27,28,29,30,31,32,33,34,35,36,37,38,39,40,41,42,43,44,45,46,47,48,49,50,51,52,53,54,55,56,57,58,59,60,61,62,63,64,65,66,67,68,69,70,71,72,73,74] [0] 75 [] [(0,.pick (.pick (.pick (.pick (.pick (.pick (jK .eql 0 (.t 3)) (jK .eql 1 (ig (bO (bI 0 (.t 1))))) (.c (.s (.bool false)))) (jK .eql 1 (ig (bO (bI 1 (oA 3 0 (bO (bI 0 (.t 1)))))))) (.c (.s (.bool false)))) (jK .eql 1 (ig (bO (bI 2 (oA 3 0 (bO (bI 0 (.t 1)))))))) (.c (.s (.bool false)))) (jK .eql 2 (ig (bO (bI 1 (oA 2 0 (bO (bI 2 (oA 3 0 (bO (bI 0 (.t 1))))))))))) (.c (.s (.bool false)))) (jK .eql 3 (bO (bI 4 (oA 8 0 (bO (bI 1 (oA 2 0 (bO (bI 2 (oA 3 0 (bO (bI 0 (.t 1))))))))))))) (.c (.s (.bool false)))) (.op (.bin .eql (.t 0) (.c (.s (.string ⟨#[112]⟩)))) [bO (bI 2 (oA 8 0 (bO (bI 1 (oA 2 0 (bO (bI 2 (oA 3 0 (bO (bI 0 (.t 1))))))))))),.c (.s (.string ⟨#[112]⟩))]) (.c (.s (.bool false))))] [.ay 3,ad [0,0,0,0,0,0],ad [0,0,0,0,0,0],.sub 0 [0,0,0,0,0,1,0,0,0] [11],.sub 0 [0,0,0,0,0,1,0,0] [11],.sub 0 [0,0,0,0,0,1,0] [11],.sub 0 [0,0,0,0,0,1] [11],ad [0,0,0,0,0],ad [0,0,0,0,0],.sub 0 [0,0,0,0,1,0,0,0,0,0,0] [17],.sub 0 [0,0,0,0,1,0,0,0,0,0] [17],.sub 0 [0,0,0,0,1,0,0,0,0] [17],.sub 0 [0,0,0,0,1,0,0,0] [17],.sub 0 [0,0,0,0,1,0,0] [17],.sub 0 [0,0,0,0,1,0] [17],.sub 0 [0,0,0,0,1] [17],ad [0,0,0,0],ad [0,0,0,0],.sub 0 [0,0,0,1,0,0,0,0,0,0] [26],.sub 0 [0,0,0,1,0,0,0,0,0] [26],.sub 0 [0,0,0,1,0,0,0,0] [26],.sub 0 [0,0,0,1,0,0,0] [26],.sub 0 [0,0,0,1,0,0] [26],.sub 0 [0,0,0,1,0] [26],.sub 0 [0,0,0,1] [26],ad [0,0,0],ad [0,0,0],.sub 0 [0,0,1,0,0,0,0,0,0,0,0,0] [35],.sub 0 [0,0,1,0,0,0,0,0,0,0,0] [35],.sub 0 [0,0,1,0,0,0,0,0,0,0] [35],.sub 0 [0,0,1,0,0,0,0,0,0] [35],.sub 0 [0,0,1,0,0,0,0,0] [35],.sub 0 [0,0,1,0,0,0,0] [35],.sub 0 [0,0,1,0,0,0] [35],.sub 0 [0,0,1,0,0] [35],.sub 0 [0,0,1,0] [35],.sub 0 [0,0,1] [35],ad [0,0],ad [0,0],.sub 0 [0,1,0,0,0,0,0,0,0,0,0,0,0] [47],.sub 0 [0,1,0,0,0,0,0,0,0,0,0,0] [47],.sub 0 [0,1,0,0,0,0,0,0,0,0,0] [47],.sub 0 [0,1,0,0,0,0,0,0,0,0] [47],.sub 0 [0,1,0,0,0,0,0,0,0] [47],.sub 0 [0,1,0,0,0,0,0,0] [47],.sub 0 [0,1,0,0,0,0,0] [47],.sub 0 [0,1,0,0,0,0] [47],.sub 0 [0,1,0,0,0] [47],.sub 0 [0,1,0,0] [47],.sub 0 [0,1,0] [47],.sub 0 [0,1] [47],ad [0],ad [0],.sub 0 [1,0,0,0,0,0,0,0,0,0,0,0] [61],.sub 0 [1,0,0,0,0,0,0,0,0,0,0] [61],.sub 0 [1,0,0,0,0,0,0,0,0,0] [61],.sub 0 [1,0,0,0,0,0,0,0,0] [61],.sub 0 [1,0,0,0,0,0,0,0] [61],.sub 0 [1,0,0,0,0,0,0] [61],.sub 0 [1,0,0,0,0,0] [61],.sub 0 [1,0,0,0,0] [61],.sub 0 [1,0,0,0] [61],.sub 0 [1,0,0] [61],.sub 0 [1,0] [61],.sub 0 [1] [61],ad [],ad []]))))))))))
def S4:=I (aR ahB Hk [] 5 [] [] [.cI (.s (.bool false))]) (I atl (I (bE Hk 0) (I (bE Hk 1) (I (aR agn [6,7,8,9] [10] 11 [] [(10,eS .neq (ig (.t 0)) (ig (.t 1)))] [.ay 0,ad [0],.ay 1,ad [1],ad []]) (I (aR aa1 [0,1,10] [4] 5 [] [(4,ht)] [.cI (.s (.bool false))]) (I (aR Xo [10] [5] 6 [] [(5,jz 0)] [.cI (.s (.int .i64 0))]) (I (aR abU [11,12,13] [14] 15 [] [(14,eS .lss (.t 5) (ig (.t 0)))] [.ay 5,.ay 0,ad [1],ad []]) (I (aR aau [14,17,18,19,20,21,22,23,24] [25] 26 [] [(25,eS .neq (bO (gU 1 (.t 0) (.t 5))) (bO (gU 1 (.t 1) (.t 5))))] [.ay 0,.ay 5,ad [0,0],ad [0],.ay 1,.ay 5,ad [1,0],ad [1],ad []]) (I (aR ad7 [0,1,5,25] [4] 5 [] [(4,ht)] [.cI (.s (.bool false))]) (I (aR am1 [15,16,25] [5] 17 [] [(5,fV 1 (.t 5))] [.ay 5,ad [],ad []]) (I (bx Ms RN) (I (aR Xr [0,1,5,14] [4] 5 [] [(4,hH)] [.cI (.s (.bool true))]) (RN.eq_1)))))))))))))
theorem aEu:fN Tryd.prog fm 11=some (false,xW.ntmps,xW.results,xW.body.bare):=by kernel_rfl
theorem arD:fN Tryd.prog fm 12=some (false,x8.ntmps,x8.results,x8.body.bare):=by kernel_rfl
theorem axP:fN Tryd.prog fm 24=some (false,xd.ntmps,xd.results,xd.body.bare):=by kernel_rfl
structure cJ (ρ:Nat) (bB:V) (ts:List Tok.T) (H:az) (a:Nat):Prop where
 g:ao H ρ 0=some [bB,bg a]
 w:∃m,cp m 5 H bB (ts.map cP)
 ed:∀id g n,bB=.aB id g 0 n 5->id<ρ
 lt:a<ts.length
 n:ts.length<2^21
section
variable {ρ:Nat} {bB:V} {ts:List Tok.T} {H H':az} {a b:Nat}
def cJ.ne(h:cJ ρ bB ts H a):∀id g n,bB=.aB id g 0 n 5->id≠ρ:=fun id g n e=>Nat.ne_of_lt (h.ed id g n e)
def cJ.pos(h:cJ ρ bB ts H a):ρ<H.length:=hL h.g
def cJ.ext(h:cJ ρ bB ts H a)(e:Ext H H'):cJ ρ bB ts H' a:=by
 obtain⟨m,w⟩:=h.w;refine⟨df h.g e,⟨m,w.bT fun id g n av=>?_⟩,h.ed,h.lt,h.n⟩;exact e.get (w.lt id g n av)
def cJ.bT(h:cJ ρ bB ts H a)(k:aA H.length [ρ] H H')(g:ao H' ρ 0=some [bB,bg b])(af:b<ts.length):cJ ρ bB ts H' b:=by
 obtain⟨m,w⟩:=h.w;refine⟨g,⟨m,w.bT fun id g n av=>?_⟩,h.ed,af,h.n⟩
 exact k.2 id (w.lt id g n av) (by rw[fj];exact h.ne id g n av)
def cJ.SG{L}(h:cJ ρ bB ts H a)(dw:ρ<L)(k:aA L [ρ] H H')(g:ao H' ρ 0=some [bB,bg b])(af:b<ts.length):cJ ρ bB ts H' b:=by
 obtain⟨m,w⟩:=h.w;refine⟨g,⟨m,w.bT fun id g n av=>?_⟩,h.ed,af,h.n⟩;have:=h.ed id g n av
 exact k.2 id (by omega) (by rw[fj];omega)
def cJ.tok(h:cJ ρ bB ts H a)(af:b<ts.length):∃id g o,j9 5 bB (.s (.int .i64 b))=some (.ref id g o)/\(∀H',Ext H H'->gl H' true 5 (.ref id g o)=some (.agg (cP (ts.getD b cU))))/\∀H',Ext H H'->gl H' false 1 (.ref id g (o+3))=some (bg (ts.getD b cU).line):=by
 obtain⟨m,w⟩:=h.w
 have ar:(ts.map cP)[b]?=some (cP (ts.getD b cU)):=by rw[oi,R0 af cU];rfl
 obtain⟨x,J,U,ax⟩:=w.rd.at' b _ ar
 obtain⟨_,⟨e,_⟩|⟨id,g,rfl,aa,_⟩⟩:=id w
 .rw[e]at ar;cases ar
 .have ae:=J
  rw[sX,a' ⟨by omega,by rw[zw];omega,rfl⟩]at ae
  cases ae;obtain⟨y,aY,cl⟩:=ax 3 _ rfl;rw[Vw]at aY;cases aY;exact⟨_,_,_,J,fun H' e=>Kq e U,fun H' e=>Kq e cl⟩
end
section
variable {ah:Nat->Option c7} {ρ:Nat} {bB:V} {ts:List Tok.T} {H:az} {a:Nat}
def pW(aR:ah x3=some (.code ri))(base)(af:base<=H.length)(h:cJ ρ bB ts H a):
 ∃H',aU ah (.fn x3 [] []) [.ref ρ 0 0] base H=some (.agg (cP (ts.getD a cU)),H')/\Ext H H':=by
 obtain⟨id,g,o,J,U,_⟩:=h.tok h.lt;obtain⟨t,aO⟩:∃t,ts.getD a cU=t:=⟨_,rfl⟩;rw[aO]at U |-;have S1:∀c,Ext H (H++[bq.cells 0 c]):=fun c=>Ext.app _ _;have bb:=fun c=>df h.g (S1 c);have ak:=fun c=>U _ (S1 c);have jV:∀c,ao (H++[bq.cells 0 c]) H.length 0=some c:=fun c=>dz H 0 c;have k5:∀c d,(H++[c]).set H.length d=H++[d]:=fun c d=>ln H c d
 have yu:iT (H++[bq.cells 0 (cP t)]) true 5 (.ref H.length 0 0)=some (.agg (cP t)):=by
  show gl _ true 5 _=_;rw[lW,jV];rfl
 refine⟨H++[bq.cells 0 (cP t)],iY (c:=ri) (k:=1) aR rfl (by decide) aB3 ?_,S1 _⟩
 simp only[cP,bg]at bb ak J yu;simp only[cP,simprocAttr,ri,aGQ,aM,bb,J,ak,af,jV,k5]
 try (rw[yu];rfl)
def D4(dv:ah x3=some (.code ri))(aR:ah Ip=some (.code sG))(base)(h:cJ ρ bB ts H a):
 ∃H',aU ah (.fn Ip [] []) [.ref ρ 0 0] base H=some (aL ((aJ.of ts).same a),H')/\Ext H H':=by
 have bb:=h.g;have bt:=h.lt;have aN:=h.n;by_cases a1:a=0
 .subst a1
  refine⟨H,ih (c:=sG) aR (by simp[sG]) ?_,Ext.refl _⟩
  have aa:¬((0:Nat):Int) > 0:=by omega
  simp only[bg]at bb;simp only[aJ.of,aL,sG,YO,aM,reduceCtorEq,Nat.reduceEqDiff,Nat.reduceLT,Nat.reduceLeDiff,Nat.reduceBEq,bb];rfl
 .obtain⟨H',cw,bN⟩:=pW dv H.length (bS _) h
  obtain⟨id,g,o,J,_,U⟩:=h.tok (b:=a-1) (by omega)
  have ax:=U H (Ext.refl _)
  refine⟨H',ih (c:=sG) aR (by simp[sG]) ?_,bN⟩
  have aa:((a:Int) > 0):=by omega
  have hw:IntKind.i64.wrap ((a:Int)-1)=((a-1:Nat):Int):=by rw[IntKind.wrap_i64];omega
  simp only[bg,cP]at bb cw J ax;simp only[aJ.of,aL,sG,YO,aM,reduceCtorEq,Nat.reduceEqDiff,Nat.reduceLT,Nat.reduceLeDiff,Nat.reduceBEq,Nat.reduceAdd,bb,aa,hw,J,ax,cw]
  have aF:(decide (a > 0)&&(ts.getD (a-1) cU).line==(ts.getD a cU).line)=(((ts.getD (a-1) cU).line:Int)==((ts.getD a cU).line:Int)):=by
   rw[u1 (by omega),px,fc,cG,cG,JO]
  rw[aF]
def R9(dv:ah x3=some (.code ri))(e5:ah Ip=some (.code sG))(aR:ah NS=some (.code qI))(base)(af:base<=H.length)(h:cJ ρ bB ts H a)(s):
 ∃H',aU ah (.fn NS [] []) [.ref ρ 0 0,a7 s] base H=some (aL (lP (aJ.of ts) s.data.toList a),H')/\Ext H H':=by
 obtain⟨H1,s1,s2⟩:=D4 dv e5 base h
 obtain⟨bK,cw,bN⟩:=pW dv base (H:=H1) (by have:=s2.le;omega) (h.ext s2)
 obtain⟨c6,m1,m2⟩:=pW dv base (H:=bK) (by have:=s2.le;have:=bN.le;omega) (h.ext (s2.trans bN))
 obtain⟨t,aO⟩:∃t,ts.getD a cU=t:=⟨_,rfl⟩;obtain⟨c,aa⟩:∃c,(aJ.of ts).same a=c:=⟨_,rfl⟩
 have an:(aJ.of ts).kind a=t.kind:=by rw[<- aO];rfl
 have ae:(aJ.of ts).text a=t.text:=by rw[<- aO];rfl
 unfold lP;rw[aO]at cw m1;rw[aa]at s1 |-;rw[an,ae];simp only[cP,aL]at s1 cw m1;cases c with
 |false=>
   refine⟨H1,ih (c:=qI) aR (by simp[qI]) ?_,s2⟩
   simp only[a7,simprocAttr,aL,qI,NC,aM,s1]
 |true=>
   by_cases ax:t.kind=3
   .refine⟨c6,ih (c:=qI) aR (by simp[qI]) ?_,s2.trans (bN.trans m2)⟩
    have k1:(((t.kind:Nat):Int)==3)=true:=by rw[ax];rfl
    have k2:(t.kind==3)=true:=by rw[ax];rfl
    simp only[a7,simprocAttr,aL,qI,NC,aM,s1,cw,m1,k1,k2]
   .refine⟨bK,ih (c:=qI) aR (by simp[qI]) ?_,s2.trans bN⟩
    have k1:(((t.kind:Nat):Int)==3)=false:=by rw[eZ];omega
    have k2:(t.kind==3)=false:=by rw[eZ];exact ax
    simp only[a7,simprocAttr,aL,qI,NC,aM,s1,cw,k1,k2]
def an7(dv:ah x3=some (.code ri))(aR:ah Pk=some (.code nX))(base)(af:base<=H.length)(h:cJ ρ bB ts H a)(J:(ts.getD a cU).kind=1->a+1<ts.length)(s):
 ∃H',aU ah (.fn Pk [] []) [.ref ρ 0 0,a7 s] base H=some (aL (nA (aJ.of ts) s.data.toList a),H')/\Ext H H':=by
 obtain⟨H1,cw,bN⟩:=pW dv base af h;obtain⟨t,aO⟩:∃t,ts.getD a cU=t:=⟨_,rfl⟩;obtain⟨w,hw⟩:∃w,ts.getD (a+1) cU=w:=⟨_,rfl⟩
 have an:(aJ.of ts).kind a=t.kind:=by rw[<- aO];rfl
 have kQ:(aJ.of ts).kind (a+1)=w.kind:=by rw[<- hw];rfl
 have er:(aJ.of ts).text (a+1)=w.text:=by rw[<- hw];rfl
 have hC:(aJ.of ts).same (a+1)=((w.line:Int)==(t.line:Int)):=by
  show(decide (a+1 > 0)&&(ts.getD (a+1-1) cU).line==(ts.getD (a+1) cU).line)=_
  rw[u1 (by omega),px,Nat.add_sub_cancel,aO,hw,fc,cG,cG,JO,eq_comm]
 unfold nA;rw[aO]at cw J;rw[an,kQ,er,hC];simp only[cP]at cw;by_cases bD:t.kind=1
 .have k1:(((t.kind:Nat):Int) != 1)=false:=by rw[afn];omega
  have k2:(t.kind==1)=true:=by rw[bD];rfl
  have bt:=J bD;have lh:=h.ext bN;have bb:=lh.g;have aN:=h.n
  have OE:IntKind.i64.wrap ((a:Int)+1)=((a+1:Nat):Int):=yr (by omega)
  obtain⟨id,g,o,ea,ey,nO⟩:=lh.tok bt;rw[hw]at ey;have zV:=ey H1 (Ext.refl _);obtain⟨bK,iN⟩:∃X,H1++[bq.cells 0 (cP w)]=X:=⟨_,rfl⟩;have aK:Ext H1 bK:=iN▸Ext.app _ _
  have e8:bK.length=H1.length+1:=by rw[<- iN,kw]
  have g2:ao bK H1.length 0=some (cP w):=iN▸dz H1 0 _;have k5:∀c d,(H1++[c]).set H1.length d=H1++[d]:=fun c d=>ln H1 c d;have jV:∀c,ao (H1++[bq.cells 0 c]) H1.length 0=some c:=fun c=>dz H1 0 c
  have jk:base<=H1.length:=by have:=bN.le;omega
  obtain⟨c6,m1,m2⟩:=pW dv bK.length (H:=bK) (bS _) (lh.ext aK);rw[aO,e8]at m1;simp only[cP,bg]at bb ea zV iN g2 m1;by_cases ax:w.kind=3
  .have dx:(((w.kind:Nat):Int)==3)=true:=by rw[ax];rfl
   have hs:(w.kind==3)=true:=by rw[ax];rfl
   cases b5:(w.text==s.data.toList)with
   |true=>
     refine⟨c6,ih (c:=nX) aR (by simp[nX]) ?_,bN.trans (aK.trans m2)⟩
     simp only[a7,simprocAttr,aL,nX,JT,aM,cw,k1,k2,bb,OE,ea,zV,jV,k5,jk,iN,g2,dx,hs,b5,e8,m1]
   |false=>
     refine⟨bK,ih (c:=nX) aR (by simp[nX]) ?_,bN.trans aK⟩
     simp only[a7,simprocAttr,aL,nX,JT,aM,cw,k1,k2,bb,OE,ea,zV,jV,k5,jk,iN,g2,dx,hs,b5]
  .have dx:(((w.kind:Nat):Int)==3)=false:=by rw[eZ];omega
   have hs:(w.kind==3)=false:=by rw[eZ];exact ax
   refine⟨bK,ih (c:=nX) aR (by simp[nX]) ?_,bN.trans aK⟩
   simp only[a7,simprocAttr,aL,nX,JT,aM,cw,k1,k2,bb,OE,ea,zV,jV,k5,jk,iN,g2,dx,hs]
 .have k1:(((t.kind:Nat):Int) != 1)=true:=by rw[hU];omega
  have k2:(t.kind==1)=false:=by rw[eZ];exact bD
  refine⟨H1,ih (c:=nX) aR (by simp[nX]) ?_,bN⟩
  simp only[a7,simprocAttr,aL,nX,JT,aM,cw,k1,k2]
end
end Go.Proofs.YtbocmenkkjbigaaDoor
namespace Go.dO
open Go.RowKit
section
variable {call:c5} {fA:qT} {it it':gS} {base:Nat} {bX:Nat->Option c7} {PP:Nat->List V->Nat->az->fh->Prop} {X:Nat->Bool}
def GJ{vs k n}(an:vs.length=k)(ak:k<=n):zt (List.range' k (n-k)) (au n (gC n vs 0)) (au n (mJ vs 0)):=by
 refine⟨by rw[sZ,sZ],fun s aq=>?_⟩
 by_cases aN:s<n
 .rw[BN aN,BN aN]
  have hC:s<k:=by
   apply Nat.lt_of_not_le;intro h;apply aq;rw[List.mem_range']
   exact⟨s-k,by omega,by omega⟩
  rw[Qq _ _ 0 s (fa _) aN (by omega),a' (by omega),al8 _ 0 s (fa _) (by omega)]
 .simp[au,List.getD,aN]
def TS{post}(i):∀{pre:List cF} {fr cg:List V} {H H1:az},cu call base pre fr H=some (cg,H1)->lR call base (pre.length+i) (pre++post) fr H=lR call base i post cg H1:=by
 intro pre
 induction pre with
 |nil=>
   intro fr cg H H1 h;cases h;rw[d9,j2];rfl
 |cons o os aw=>
   intro fr cg H H1 h
   rw[gP,show os.length+1+i=(os.length+i)+1 by omega]
   show lR call base ((os.length+i)+1) (o::(os++post)) fr H=_;simp only[cu]at h;simp only[lR];cases hw:want o fr with
   |none=>rw[hw]at h;cases h
   |some b=>
     rw[hw]at h;cases b with
     |false=>exact aw h
     |true=>
       simp only at h |-;cases he:bf call base fr H o.op with
       |none=>rw[he]at h;cases h
       |some p=>
         obtain⟨v,H'⟩:=p;rw[he]at h;exact aw h
def eh{a b fr cg H H1}(h:aC call it base a fr H=some (.bH,cg,H1)):aC call it base (.seq a b) fr H=aC call it base b cg H1:=by simp only[aC,h]
def yG{i a fr cg H H1}(h:aC call it base a fr H=some (.bH,cg,H1)):aC call it base (.block i a) fr H=some (.bH,cg,H1):=by simp only[aC,h]
def afx{i j a fr cg H H1}(br:(j==i)=false)(h:aC call it base a fr H=some (.ext j,cg,H1)):aC call it base (.block i a) fr H=some (.ext j,cg,H1):=by simp[aC,h,eZ.1 br]
def MV{i a fr cg H H1}(h:aC call it base a fr H=some (.ret,cg,H1)):aC call it base (.block i a) fr H=some (.ret,cg,H1):=by simp only[aC,h]
def Fk{c a b fr H}(h:aX fr c=.s (.bool true)):aC call it base (.cond c a b) fr H=aC call it base a fr H:=by simp only[aC,h]
def Jj{c a b fr H}(h:aX fr c=.s (.bool false)):aC call it base (.cond c a b) fr H=aC call it base b fr H:=by simp only[aC,h]
theorem gQ(u v args b H):na u v args b H=some (u,H):=rfl
def K2{A B o b9 kill fr f1 f2 f3 H H1 bK c6}(ib:cu call base A fr H=some (f1,H1))(aT:cu call base [o] f1 H1=some (f2,bK))(aI:cu call base B f2 bK=some (f3,c6))(aa:o.op.z1=true)(sQ:∀p∈b9,p.2=A.length/\∃q,Nd f3 ((A++o::B).getD p.1 default).op=some q/\∀id,q=some id->bK[id]?=H1[id]?):aC call it base (.region (A++o::B) b9 kill) fr H=some (.bH,ut kill f3,c6):=by
 have U:cu call base (A++[o]) fr H=some (f2,bK):=by rw[Ia,ib];exact aT
 have ax:cu call base (A++o::B) fr H=some (f3,c6):=by
  rw[show A++o::B=(A++[o])++B by simp,Ia,U];exact aI
 refine ahq ax ?_;rw[dU];intro p aj;obtain⟨e,q,bD,an⟩:=sQ p aj
 have t1:(A++o::B).take p.2=A:=by rw[e];simp
 have t2:(A++o::B).take (p.2+1)=A++[o]:=by
  rw[e,show A++o::B=(A++[o])++B by simp,show A.length+1=(A++[o]).length by simp,List.take_left]
 have t3:(A++o::B).getD p.2 default=o:=by rw[e];simp
 have key:AB call base (A++o::B) fr H f3 p.2 p.1=true:=by
  unfold AB;rw[t1,t2,ib,U,bD];cases q with
  |none=>rfl
  |some id=>exact @u1 _ (Classical.propDecidable _) (an id rfl)
 simp only[j8,t3,aa,key,k7,B8]
def akT{C:mK}{ops pre post b9 kill fr cg H H1 d f xs}{r:fh}(u)(EW:C ops fr)(e:ops=pre++⟨d,.call f xs,none⟩::post)(J:cu call base pre fr H=some (cg,H1))(U:fA (aX cg f) (xs.map (aX cg)) base H1 r)(ax:(aC (na u) it' base (.region ops b9 kill) fr H).isSome=true):fP call fA it base C (.region ops b9 kill) fr H r:=by
 refine⟨EW,⟨pre.length+0,_,_,_,?_,U⟩,?_⟩
 .rw[e,TS 0 J];rfl
 .simp only[aC]at ax;cases he:cu (na u) base ops fr H with
  |none=>rw[he]at ax;cases ax
  |some p=>
    obtain⟨aW,H'⟩:=p;rw[he]at ax;simp only at ax;refine⟨u,aW,H',he,?_⟩;cases aa:b9.all (j8 (na u) base ops fr H aW)with
    |true=>rfl
    |false=>rw[aa]at ax;cases ax
def jm{ops pre post b9 kill fr cg H H1 d f xs}{r:fh}(u)(e:ops=pre++⟨d,.call f xs,none⟩::post)(J:cu call base pre fr H=some (cg,H1))(U:fA (aX cg f) (xs.map (aX cg)) base H1 r)(ax:(aC (na u) it' base (.region ops b9 kill) fr H).isSome=true):fP call fA it base (fun _ _=>True) (.region ops b9 kill) fr H r:=by
 refine⟨trivial,⟨pre.length+0,_,_,_,?_,U⟩,?_⟩
 .rw[e,TS 0 J];rfl
 .simp only[aC]at ax;cases he:cu (na u) base ops fr H with
  |none=>rw[he]at ax;cases ax
  |some p=>
    obtain⟨aW,H'⟩:=p;rw[he]at ax;simp only at ax;refine⟨u,aW,H',he,?_⟩;cases aa:b9.all (j8 (na u) base ops fr H aW)with
    |true=>rfl
    |false=>rw[aa]at ax;cases ax
def Zz{ops EB Dz post b9 kill fr cg ik H H1 bK c6 d d1 f f1 xs KL v}{r:fh}(u)(e:ops=EB++⟨d1,.call f1 KL,none⟩::(Dz++⟨d,.call f xs,none⟩::post))(J:cu call base EB fr H=some (cg,H1))(cq:call (aX cg f1) (KL.map (aX cg)) base H1=some (v,bK))(U:cu call base Dz (put d1 v cg) bK=some (ik,c6))(aj:fA (aX ik f) (xs.map (aX ik)) base c6 r)(ax:(aC (na u) it' base (.region ops b9 kill) fr H).isSome=true):fP call fA it base (fun _ _=>True) (.region ops b9 kill) fr H r:=by
 have bw:ops=(EB++⟨d1,.call f1 KL,none⟩::Dz)++⟨d,.call f xs,none⟩::post:=by rw[e,kG,h5]
 refine jm (it':=it') (pre:=EB++⟨d1,.call f1 KL,none⟩::Dz) (post:=post) (d:=d) (cg:=ik) (H1:=c6) u bw ?_ aj ax;rw[Ra,J];simp only[cu,want,bf,cq];exact U
def sw{C:mK}{c a b fr H}{r:fh}(aa:aX fr c=.s (.bool true))(h:fP call fA it base C a fr H r):fP call fA it base C (.cond c a b) fr H r:=.inl ⟨aa,h⟩
def BG{C:mK}{c a b fr H}{r:fh}(aa:aX fr c=.s (.bool false))(h:fP call fA it base C b fr H r):fP call fA it base C (.cond c a b) fr H r:=.inr ⟨aa,h⟩
def pH{f}{c:eI}(cx:X f=true)(al:bX f=some (.code c)){fst args cap k}(an:(fst++args++cap).length=k)(ak:k<=c.ntmps)(pM:gF (List.range' k (c.ntmps-k)) c.body=true){H H1 cg}{r:fh}{a b}(af:c.body=.seq a b)(J:aC (aU bX) aG base a (au c.ntmps (mJ (fst++args++cap) 0)) H=some (.bH,cg,H1))(U:fP (aU bX) (n3 bX PP X) aG base (fun _ _=>True) b cg H1 r):n3 bX PP X (.fn f fst cap) args base H r:=by
 refine AV cx al (by omega) ?_
 rw[af];refine dG ?_ U;rw[af]at pM;rw[A7 a H pM (GJ an ak)];exact J
def ax8{f}{c:eI}(cx:X f=true)(al:bX f=some (.code c)){fst args cap k}(an:(fst++args++cap).length=k)(ak:k<=c.ntmps)(pM:gF (List.range' k (c.ntmps-k)) c.body=true){H H1 cg}{r:fh}{a b d}(af:c.body=.seq (.seq a b) d)(J:aC (aU bX) aG base a (au c.ntmps (mJ (fst++args++cap) 0)) H=some (.bH,cg,H1))(U:fP (aU bX) (n3 bX PP X) aG base (fun _ _=>True) b cg H1 r):n3 bX PP X (.fn f fst cap) args base H r:=by
 refine AV cx al (by omega) ?_
 rw[af];refine kb (dG ?_ U);rw[af]at pM;rw[A7 a H pM (GJ an ak)];exact J
def wx{f}{c:eI}(cx:X f=true)(al:bX f=some (.code c)){fst args cap k}(an:(fst++args++cap).length=k)(ak:k<=c.ntmps)(pM:gF (List.range' k (c.ntmps-k)) c.body=true){H H1 cg}{r:fh}{ops pre post kill d g xs}(af:c.body=.region ops [] kill\/∃b,c.body=.seq (.region ops [] kill) b)(u)(e:ops=pre++⟨d,.call g xs,none⟩::post)(J:cu (aU bX) base pre (au c.ntmps (gC c.ntmps (fst++args++cap) 0)) H=some (cg,H1))(U:n3 bX PP X (aX cg g) (xs.map (aX cg)) base H1 r)(ax:(aC (na u) aG base (.region ops [] kill) (au c.ntmps (mJ (fst++args++cap) 0)) H).isSome=true):n3 bX PP X (.fn f fst cap) args base H r:=by
 refine AV cx al (by omega) ?_
 have qg:gF (List.range' k (c.ntmps-k)) (.region ops [] kill)=true:=by
  rcases af with af|⟨b,af⟩<;>(rw[af]at pM;exact pM)
 have key:fP (aU bX) (n3 bX PP X) aG base (fun _ _=>True) (.region ops [] kill) (au c.ntmps (gC c.ntmps (fst++args++cap) 0)) H r:=by
  refine jm (it':=aG) u e J U ?_;rw[A7 (.region ops [] kill) H qg (GJ an ak)];exact ax
 rcases af with af|⟨b,af⟩
 .rw[af];exact key
 .rw[af];exact kb key
def asL{f}{c:eI}(cx:X f=true)(al:bX f=some (.code c)){fst args cap}(ak:(fst++args++cap).length<=c.ntmps){H}{r:fh}{a}(af:c.body=a\/∃b,c.body=.seq a b)(key:fP (aU bX) (n3 bX PP X) aG base (fun _ _=>True) a (au c.ntmps (gC c.ntmps (fst++args++cap) 0)) H r):n3 bX PP X (.fn f fst cap) args base H r:=by
 refine AV cx al ak ?_
 rcases af with af|⟨b,af⟩
 .rw[af];exact key
 .rw[af];exact kb key
def ayC{c:eI}{vs k}(an:vs.length=k)(ak:k<=c.ntmps)(pM:gF (List.range' k (c.ntmps-k)) c.body=true){a}(af:c.body=a\/∃b,c.body=.seq a b){H}(h:(aC call it base a (au c.ntmps (mJ vs 0)) H).isSome=true):(aC call it base a (au c.ntmps (gC c.ntmps vs 0)) H).isSome=true:=by
 have qg:gF (List.range' k (c.ntmps-k)) a=true:=by
  rcases af with af|⟨b,af⟩<;>(rw[af]at pM;exact pM)
 rw[A7 a H qg (GJ an ak)];exact h
end
end Go.dO
set_option maxRecDepth 100000
namespace Go.Proofs.YtbocmenkkjbigaaDoor
open Go.dO
abbrev p9:Nat:=57
abbrev mE:List V:=[V.s (.int .u8 0),.s (.string ⟨#[]⟩),.s (.int .i64 0),.s (.int .i64 0),.s (.int .i64 0)]
def ajF(ah:Nat->Option c7):Nat->List V->Nat->az->fh->Prop:=fun k vs base H r=>k=U2/\∃v cs H1 n,vs=[v]/\hZ ah n (.fn x3 [] []) [v] base H=some (.agg cs,H1)/\cs.length=5/\cs.all V.one=true/\r=(p9,.agg cs,H1)
def Sm:Nat->Bool:=fun k=>[FP,Js,Ja,wC,FO,xF,AH,x6,Cp,Bd,xo,xc,AM,Bb,BY,Ah,yK].contains k
abbrev nn(ah:Nat->Option c7):qT:=n3 ah (ajF ah) Sm
structure jb (ts:List Tok.T):Prop where
 qw:∀a,a<ts.length->(ts.getD a cU).kind≠4->a+1<ts.length
 nm:∀a,a<ts.length->(ts.getD a cU).kind=1->(ts.getD a cU).text≠[]
structure uD (ah:Nat->Option c7):Prop where
 now:ah x3=some (.code ri)
 same:ah Ip=some (.code sG)
 RU:ah NS=some (.code qI)
 second:ah Pk=some (.code nX)
 take:ah FP=some (.code uP)
 name:ah wC=some (.code vF)
 sign:ah Js=some (.code vk)
 PO:ah Ja=some (.code sM)
def aA.gn{H H' ρ}(e:Ext H H'):aA H.length [ρ] H H':=e.d _
def aA.zP{H H' ρ}(k:aA H.length [ρ] H H')(bo):aA H.length [ρ] H (H'.set ρ bo):=⟨by rw[eF];exact k.1,fun id J U=>by
 rw[fj]at U;rw[cf (gG U)]
 exact k.2 id J (by rw[fj];exact U)⟩
def aA.axX{H H' ρ q}(k:aA H.length [ρ] H H')(bD:H.length<=q)(bo):aA H.length [ρ] H (H'.set q bo):=⟨by rw[eF];exact k.1,fun id J U=>by
 rw[cf (by omega)]
 exact k.2 id J U⟩
def aA.then'{A B C ρ}(h:aA A.length [ρ] A B)(k:aA B.length [ρ] B C):aA A.length [ρ] A C:=aA.trans h k h.1
section
variable {ah:Nat->Option c7} {ρ:Nat} {bB:V} {ts:List Tok.T} {H:az} {a:Nat}
def v7(dv:ah x3=some (.code ri))(base)(af:base<=H.length)(h:cJ ρ bB ts H a):
 ∃H',nn ah (.fn U2 [] []) [.ref ρ 0 0] base H (p9,.agg (cP (ts.getD a cU)),H')/\Ext H H':=by
 obtain⟨H',cw,bN⟩:=pW dv base af h;obtain⟨n,aN⟩:=Cq cw;exact⟨H',aFj ⟨rfl,_,_,_,n,rfl,aN,rfl,rfl,rfl⟩,bN⟩
theorem ank(b8:uD ah)(base)(af:base<=ρ)(h:cJ ρ bB ts H a)(k)(an:((aJ.of ts).same a&&(aJ.of ts).kind a==k)=true):
 ∃H',aU ah (.fn FP [] []) [.ref ρ 0 0,.s (.int .u8 k)] base H=some (.agg (cP (ts.getD a cU)),H')/\aA H.length [ρ] H H'/\ao H' ρ 0=some [bB,bg (a+1:Nat)]:=by
 rw[dr,cG]at an;obtain⟨k1,k2⟩:=an;have iV:=h.pos;have bt:=h.lt;have aN:=h.n;obtain⟨b7,qK⟩:∃X,H++[bq.cells 0 mE]=X:=⟨_,rfl⟩;have ck:Ext H b7:=qK▸Ext.app _ _
 have ij:b7.length=H.length+1:=by rw[<- qK,kw]
 have g0:ao b7 H.length 0=some mE:=qK▸dz H 0 _;obtain⟨H1,s1,s2⟩:=D4 b8.now b8.same base (h.ext ck);rw[k1]at s1
 obtain⟨bK,cw,bN⟩:=pW b8.now base (H:=H1) (by have:=s2.le;omega) (h.ext (ck.trans s2))
 obtain⟨t,aO⟩:∃t,ts.getD a cU=t:=⟨_,rfl⟩
 have xP:t.kind=k:=by rw[<- aO];exact k2
 have aK:Ext H bK:=ck.trans (s2.trans bN);have U:=h.ext aK;have g2:=U.g;have Kk:ao bK H.length 0=some mE:=df g0 (s2.trans bN);obtain⟨c6,mj⟩:∃X,bK.set ρ (bq.cells 0 [bB,bg (a+1:Nat)])=X:=⟨_,rfl⟩;have g3:ao c6 ρ 0=some [bB,bg (a+1:Nat)]:=mj▸e4 g2 _
 have ML:ao c6 H.length 0=some mE:=by
  unfold ao
  rw[<- mj,cf (by omega)]
  exact Kk
 have i':aA H.length [ρ] H c6:=mj▸aA.zP (aA.gn aK) _;obtain⟨id,g,o,ea,ey,_⟩:=U.tok U.lt;have dq:=h.ne;obtain⟨m,w⟩:=U.w
 have nO:gl c6 true 5 (.ref id g o)=some (.agg (cP t)):=by
  have b5:=ey bK (Ext.refl _)
  have:ao c6 id g=ao bK id g:=by
   unfold ao
   obtain⟨_,⟨e,_⟩|⟨eX,g',rfl,aa,_⟩⟩:=w
   .have:=h.lt;rw[Xh]at e;rw[e]at this;cases this
   .rw[sX]at ea;split at ea
    .cases ea
     rw[<- mj,cf (by have:=dq _ _ _ rfl;omega)]
    .cases ea
  rw[lW]at b5 |-;rw[this,b5,aO]
 obtain⟨gj,jN⟩:∃X,c6.set H.length (bq.cells 0 (cP t))=X:=⟨_,rfl⟩
 have g4:ao gj ρ 0=some [bB,bg (a+1:Nat)]:=by
  unfold ao at g3 |-
  rw[<- jN,cf (by omega)]
  exact g3
 have aqw:ao gj H.length 0=some (cP t):=jN▸e4 ML _
 have yu:iT gj true 5 (.ref H.length 0 0)=some (.agg (cP t)):=by
  show gl _ true 5 _=_;rw[lW,aqw];rfl
 have aV:IntKind.i64.wrap ((a:Int)+1)=((a+1:Nat):Int):=yr (by omega)
 have b4:IntKind.i64.wrap (((a+1:Nat):Int)-1)=(a:Int):=by rw[IntKind.wrap_i64];omega
 have jH:base<=H.length:=by omega
 have aI9:(((t.kind:Nat):Int) != ((k:Nat):Int))=false:=by rw[afn,xP]
 have hD:(((t.kind:Nat):Int) != ((t.kind:Nat):Int))=false:=by simp
 refine⟨gj,iY (c:=uP) (k:=2) b8.take rfl (by decide) alf ?_,jN▸aA.axX i' (bS _) _,g4⟩
 rw[aO]at cw;simp only[cP,mE,bg,aL]at s1 cw g2 mj g3 ea nO jN yu Kk ML qK;subst xP;simp only[cP,simprocAttr,uP,FK,aM,qK,s1,cw,g2,aV,af,jH,mj,g3,b4,ea,nO,ML,jN];rw[yu,aO];rfl
def Vj(b8:uD ah)(base)(af:base<=ρ)(h:cJ ρ bB ts H a)(k)(an:((aJ.of ts).same a&&(aJ.of ts).kind a==k)=false):
 ∃H',nn ah (.fn FP [] []) [.ref ρ 0 0,.s (.int .u8 k)] base H (p9,.agg (cP (ts.getD a cU)),H')/\Ext H H':=by
 have iV:=h.pos;obtain⟨b7,qK⟩:∃X,H++[bq.cells 0 mE]=X:=⟨_,rfl⟩;have ck:Ext H b7:=qK▸Ext.app _ _;obtain⟨H1,s1,s2⟩:=D4 b8.now b8.same base (h.ext ck);obtain⟨c,aa⟩:∃c,(aJ.of ts).same a=c:=⟨_,rfl⟩;rw[aa]at s1 an
 obtain⟨bK,bC,aK⟩:∃bK,aC (aU ah) aG base (.region NV [] [1,5,6,7,8,9,10,11,12,13]) (au 35 [(0,.ref ρ 0 0),(1,.s (.int .u8 k)),(4,.ref H.length 0 0)]) b7=some (.bH,au 35 [(0,.ref ρ 0 0),(4,.ref H.length 0 0),(14,aL true)],bK)/\Ext b7 bK:=by
  cases c with
  |false=>
    refine⟨H1,?_,s2⟩;simp only[aL]at s1;simp only[aL,simprocAttr,FK,aM,s1]
  |true=>
    obtain⟨bK,cw,bN⟩:=pW b8.now base (H:=H1) (by have:=s2.le;have:=ck.le;omega) (h.ext (ck.trans s2))
    obtain⟨t,aO⟩:∃t,ts.getD a cU=t:=⟨_,rfl⟩
    have xP:(((t.kind:Nat):Int) != ((k:Nat):Int))=true:=by
     rw[px,eZ]at an;rw[hU,<- aO];intro e;exact an (JO.1 e)
    rw[aO]at cw;refine⟨bK,?_,s2.trans bN⟩;simp only[cP,aL]at s1 cw;simp only[aL,simprocAttr,FK,aM,s1,cw,xP]
 obtain⟨c6,f1,f2⟩:=v7 b8.now base (H:=bK) (by have:=ck.le;have:=aK.le;omega) (h.ext (ck.trans aK))
 refine⟨c6,pH (c:=uP) (k:=2) rfl b8.take rfl (by decide) alf rfl (H1:=b7) (cg:=au 35 [(0,.ref ρ 0 0),(1,.s (.int .u8 k)),(4,.ref H.length 0 0)]) ?_ (kb (dG bC (sw rfl (jm (it':=aG) (pre:=anp) (post:=[]) (.bV []) rfl rfl f1 ?_)))),ck.trans (aK.trans f2)⟩
 .simp only[mE]at qK;simp only[uP,simprocAttr,FK,aM,qK]
 .simp only[aL,simprocAttr,FK,aM,gQ]
end
def eE{α:Type}(ah:Nat->Option c7)(base k:Nat)(args:List V)(ρ:Nat)(bB:V)(ts:List Tok.T)(D:List Nat)(H:az)(res:Except Nat (α × Nat))(Q:α->V->az->Prop):Prop:=match res with
 |.ok (x,b)=>b<ts.length/\∃v H',aU ah (.fn k [] []) args base H=some (v,H')/\aA H.length D H H'/\ao H' ρ 0=some [bB,bg b]/\Q x v H'
 |.error e=>e<ts.length/\∃H',nn ah (.fn k [] []) args base H (p9,.agg (cP (ts.getD e cU)),H')/\aA H.length D H H'
section
variable {ah:Nat->Option c7} {ρ:Nat} {bB:V} {ts:List Tok.T} {H:az} {a:Nat}
def vY(b8:uD ah)(wf:jb ts)(base)(af:base<=ρ)(h:cJ ρ bB ts H a):eE ah base wC [.ref ρ 0 0] ρ bB ts [ρ] H (dN (aJ.of ts) a) (fun s v _=>v=a7 s):=by
 unfold dN;obtain⟨t,aO⟩:∃t,ts.getD a cU=t:=⟨_,rfl⟩;by_cases an:((aJ.of ts).same a&&(aJ.of ts).kind a==1)=true
 .rw[a' an];obtain⟨H',cq,cN,et⟩:=ank b8 base af h 1 an;rw[dr,cG]at an
  refine⟨wf.qw a h.lt (by rw[show(ts.getD a cU).kind=1 from an.2];decide),a7 (kI ((aJ.of ts).text a)),H',ih (c:=vF) b8.name (by simp[vF]) ?_,cN,et,rfl⟩
  have ae:(aJ.of ts).text a=t.text:=by rw[<- aO];rfl
  have ava:((1:Nat):Int)=1:=rfl;rw[aO]at cq;rw[ae];simp only[cP,ava]at cq;simp only[kI,simprocAttr,a7,vF,Rb,aM,cq]
 .rw[bm an];rw[nz]at an;obtain⟨H',cq,cN⟩:=Vj b8 base af h 1 an;refine⟨h.lt,H',?_,aA.gn cN⟩
  refine AV rfl b8.name (by simp[vF]) (dG (H1:=H) (cg:=au 6 [(0,.ref ρ 0 0)]) ?_ (kb (jm (it':=aG) (pre:=amG) (post:=Po) (.agg mE) rfl rfl cq ?_)))
  .simp only[vF,simprocAttr,Rb,aM]
  .simp only[mE,simprocAttr,Rb,aM,gQ]
def vv(b8:uD ah)(wf:jb ts)(base)(af:base<=ρ)(h:cJ ρ bB ts H a)(s):eE ah base Js [.ref ρ 0 0,a7 s] ρ bB ts [ρ] H (ul (aJ.of ts) s.data.toList a) (fun _ v _=>v=.bV []):=by
 unfold ul;have iV:=h.pos;have aN:=h.n;have bt:=h.lt
 obtain⟨H1,cq,cN⟩:=R9 b8.now b8.same b8.RU base (by omega) h s
 by_cases an:lP (aJ.of ts) s.data.toList a=true
 .rw[a' an];rw[an]at cq
  have ayP:(aJ.of ts).kind a=3:=by
   unfold lP at an;rw[dr,dr,cG]at an;exact an.1.2
  have g1:=(h.ext cN).g
  have aV:IntKind.i64.wrap ((a:Int)+1)=((a+1:Nat):Int):=yr (by omega)
  refine⟨wf.qw a h.lt (by rw[show(ts.getD a cU).kind=3 from ayP];decide),.bV [],H1.set ρ (.cells 0 [bB,bg (a+1:Nat)]),iY (c:=vk) (k:=2) b8.sign rfl (by decide) af9 ?_,aA.zP (aA.gn cN) _,e4 g1 _,rfl⟩
  simp only[bg,aL,a7]at cq g1;simp only[bg,simprocAttr,a7,vk,PM,aM,cq,g1,aV,af]
  try rfl
 .rw[bm an];rw[nz]at an;rw[an]at cq
  obtain⟨bK,f1,f2⟩:=v7 b8.now base (H:=H1) (by have:=cN.le;omega) (h.ext cN)
  refine⟨h.lt,bK,?_,aA.gn (cN.trans f2)⟩;simp only[aL,a7]at cq
  refine ax8 (c:=vk) (k:=2) rfl b8.sign rfl (by decide) af9 rfl (H1:=H1) (cg:=au 17 [(0,.ref ρ 0 0),(7,aL true)]) ?_ (sw rfl (jm (it':=aG) (pre:=ab2) (post:=[]) (.bV []) rfl rfl f1 ?_))
  .simp only[a7,simprocAttr,aL,vk,PM,aM,cq]
  .simp only[aL,simprocAttr,PM,aM,gQ]
def adk(b8:uD ah)(base)(af:base<=ρ)(h:cJ ρ bB ts H a):eE ah base Ja [.ref ρ 0 0] ρ bB ts [ρ] H (LB (aJ.of ts) a) (fun _ v _=>v=.bV []):=by
 unfold LB nf;have iV:=h.pos;obtain⟨t,aO⟩:∃t,ts.getD a cU=t:=⟨_,rfl⟩
 have xP:(aJ.of ts).kind a=t.kind:=by rw[<- aO];rfl
 obtain⟨c,aa⟩:∃c,(aJ.of ts).same a=c:=⟨_,rfl⟩;obtain⟨H1,s1,s2⟩:=D4 b8.now b8.same base h
 obtain⟨bK,cw,bN⟩:=pW b8.now base (H:=H1) (by have:=s2.le;omega) (h.ext s2)
 rw[aa]at s1 |-;rw[xP];rw[aO]at cw;simp only[cP,aL]at s1 cw;cases c with
 |false=>
   rw[bm (by rw[nv];decide)]
   refine⟨h.lt,.bV [],H1,iY (c:=sM) (k:=1) b8.PO rfl (by decide) MR ?_,aA.gn s2,(h.ext s2).g,rfl⟩
   simp only[sM,simprocAttr,Iy,aM,s1]
   try rfl
 |true=>
   by_cases aY:t.kind=4
   .rw[bm (by rw[aY];decide)]
    have k1:(((t.kind:Nat):Int) != 4)=false:=by rw[aY];rfl
    refine⟨h.lt,.bV [],bK,iY (c:=sM) (k:=1) b8.PO rfl (by decide) MR ?_,aA.gn (s2.trans bN),(h.ext (s2.trans bN)).g,rfl⟩
    simp only[sM,simprocAttr,Iy,aM,s1,cw,k1]
    try rfl
   .rw[a' (by rw[px,hU];exact aY)]
    have k1:(((t.kind:Nat):Int) != 4)=true:=by rw[hU];omega
    obtain⟨c6,f1,f2⟩:=v7 b8.now base (H:=bK) (by have:=s2.le;have:=bN.le;omega) (h.ext (s2.trans bN))
    refine⟨h.lt,c6,?_,aA.gn (s2.trans (bN.trans f2))⟩
    refine pH (c:=sM) (k:=1) rfl b8.PO rfl (by decide) MR rfl (H1:=bK) (cg:=au 12 [(0,.ref ρ 0 0),(9,aL true)]) ?_ (sw rfl (jm (it':=aG) (pre:=adL) (post:=[]) (.bV []) rfl rfl f1 ?_))
    .simp only[aL,simprocAttr,sM,Iy,aM,s1,cw,k1]
    .simp only[aL,simprocAttr,Iy,aM,gQ]
end
end Go.Proofs.YtbocmenkkjbigaaDoor
