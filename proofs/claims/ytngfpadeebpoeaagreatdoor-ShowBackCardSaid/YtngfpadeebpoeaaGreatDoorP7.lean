/- Texts of the proof: ShS7, ShoSA, ShoSB, ShoSC, ShS4, ShoM1, ShS8, SbM, SbX, SbN, SbO. -/
import Derived.Test.YtngfpadeebpoeaaGreatDoorP0
import Derived.Test.YtngfpadeebpoeaaGreatDoorP1
import Derived.Test.YtngfpadeebpoeaaGreatDoorP2
import Derived.Test.YtngfpadeebpoeaaGreatDoorP3
import Derived.Test.YtngfpadeebpoeaaGreatDoorP4
import Derived.Test.YtngfpadeebpoeaaGreatDoorP5
import Derived.Test.YtngfpadeebpoeaaGreatDoorP6
import Derived.LaidMore
import Derived.Stop.Joined
import Derived.SevenTiedAt
import Derived.Test.YtngfpadeebpoeaaGreatDoorRows
import Derived.Test.YtngfpadeebpoeaaGreatDoorCards
import Derived.Test.YtngfpadeebpoeaaGreatDoorTie
set_option linter.all false
set_option maxRecDepth 100000
namespace Go.Proofs.YtngfpadeebpoeaaGreatDoor
open Go.ea
abbrev OY:Nat:=12
def xf:=[0,1]++List.range' 4 104
def arT:=[bws 4 dd]
def LX:=q 3 (.box (.t 1))::arT
def XE:=[q 2 (.box (.t 0))]
def asY:=XE++LX
def CV:=[0]++List.range' 3 105
def aEc(call:c5)(it:hE)(base:Nat)(f:List V)(H:ad):aL call it base (.region asY [] xf) f H=nZ call it base (.region LX [] xf) (oH [] XE CV (cI call base [⟨some 2,.box (.t 0),none⟩] f H)):=(xu call it base XE LX (kc:=CV) (by kernel_rfl) f H).trans (by rw[vK];rfl)
def ag4:=[bM 12 0 2,b3 13 12,q 14 (.da .s (.t 13)),bM 15 0 3,b3 16 15,q 17 (.da .s (.t 16)),q 18 (.bin .neq (.t 14) (.t 17))]
def ap8:=[bws 4 dd]
def atK:=[bws 5 (cc 0)]
def avy:=[aw 19 5,bM 20 0 2,b3 21 20,q 22 (.da .s (.t 21)),q 23 (.bin .lss (.t 19) (.t 22))]
def aqe:=[dO 3 6 30]
def atb:=q 6 (.alloc [cF,e9,e9])::aqe
def aNI:=[bM 26 0 2,b3 27 26,aw 28 5,ji 29 3 27 28,q 30 (.load true 3 (.t 29))]
def adU:=aNI++atb
def agm:=[dO 3 7 35]
def av8:=q 7 (.alloc [cF,e9,e9])::agm
def aRx:=[bM 31 0 3,b3 32 31,aw 33 5,ji 34 3 32 33,q 35 (.load true 3 (.t 34))]
def ayv:=aRx++av8
def aqD:=[bD 47 (.un .not (.t 46)) 41 false,dF 48 (.t 41) bwd (.t 47),aw 49 48,dp 50 2 6 49 false,dN 51 50 49 false,bD 52 (.da .s (.t 51)) 49 false,dp 53 2 7 49 false,dN 54 53 49 false,bD 55 (.da .s (.t 54)) 49 false,bD 56 (.bin .neq (.t 52) (.t 55)) 49 false,dF 57 (.t 49) bwd (.t 56)]
def abe:=bD 46 (.call (.c (.fn 28 [] [])) [.t 43,.t 45]) 41 false::aqD
def auQ:=dN 45 44 41 false::abe
def ad7:=dp 44 1 7 41 false::auQ
def Zz:=dN 43 42 41 false::ad7
def ai0:=dp 42 1 6 41 false::Zz
def aVB:=[bM 36 0 6,b3 37 36,bM 38 0 7,b3 39 38,q 40 (.bin .neq (.t 37) (.t 39)),aw 41 40]
def ar3:=aVB++ai0
def aoo:=[bws 4 dd]
def ars:=[bws 8 (cc 0)]
def aaY:=[aw 58 8,bM 59 2 6,b3 60 59,q 61 (.da .s (.t 60)),q 62 (.bin .lss (.t 58) (.t 61))]
def aoP:=[dO 2 9 69]
def aaX:=q 9 (.alloc [cF,e9])::aoP
def aCA:=[bM 65 2 6,b3 66 65,aw 67 8,ji 68 2 66 67,q 69 (.load true 2 (.t 68))]
def awT:=aCA++aaX
def asV:=[dO 2 10 74]
def atU:=q 10 (.alloc [cF,e9])::asV
def aL2:=[bM 70 2 7,b3 71 70,aw 72 8,ji 73 2 71 72,q 74 (.load true 2 (.t 73))]
def ajU:=aL2++atU
def avu:=[bM 75 0 9,b3 76 75,bM 77 0 10,b3 78 77,q 79 (.bin .neq (.t 76) (.t 78)),aw 80 79,dp 81 1 9 80 false,dN 82 81 80 false,bD 83 (.da .s (.t 82)) 80 false,dp 84 1 10 80 false,dN 85 84 80 false,bD 86 (.da .s (.t 85)) 80 false,bD 87 (.bin .neq (.t 83) (.t 86)) 80 false,dF 88 (.t 80) bwd (.t 87)]
def afj:=[bws 4 dd]
def adK:=[bws 11 (cc 0)]
def ahc:=[aw 89 11,bM 90 1 9,b3 91 90,q 92 (.da .s (.t 91)),q 93 (.bin .lss (.t 89) (.t 92))]
def atM:=[q 107 (.un .not (.t 106))]
def anF:=cL 106 29 [.t 100,.t 105]::atM
def aJU:=[bM 96 1 9,b3 97 96,aw 98 11,ji 99 8 97 98,q 100 (.load true 8 (.t 99)),bM 101 1 10,b3 102 101,aw 103 11,ji 104 8 102 103,q 105 (.load true 8 (.t 104))]
def akD:=aJU++anF
def YF:=[bws 4 dd]
def ac3:=[aw 94 11,q 95 (.bin .add (.t 94) (cc 1)),aw 11 95]
def Xu:bZ:=
 (.seq (.seq (.bh ahc [89,90,91,92] [93])
 (.cond (.t 93)
 .skip
 (.exit 4)))
 (.seq (.block 5
 (.seq (.region akD [] [93,96,97,98,99,100,101,102,103,104,105,106])
 (.cond (.t 107)
 (.seq (.bh YF [2,3,5,6,7,8,9,10,11,107] [4])
 .ret)
 .skip)))
 (.bh ac3 [94,95,107] [11])))
def Oh:bZ:=Xu
def avE:=[aw 63 8,q 64 (.bin .add (.t 63) (cc 1)),aw 8 64]
def Ts:bZ:=
 (.seq (.seq (.bh aaY [58,59,60,61] [62])
 (.cond (.t 62)
 .skip
 (.exit 2)))
 (.seq (.block 3
 (.seq (.region awT [] [62,65,66,67,68,69])
 (.seq (.region ajU [] [70,71,72,73,74])
 (.seq (.seq (.bh avu [75,76,77,78,79,80,81,82,83,84,85,86,87] [88])
 (.cond (.t 88)
 (.seq (.bh afj [2,3,5,6,7,8,9,10,88] [4])
 .ret)
 .skip))
 (.seq (.bh adK [88] [11])
 (.block 4
 (.loop [] Oh)))))))
 (.bh avE [9,10,11,63,64,93] [8])))
def MU:bZ:=Ts
def avq:=[aw 24 5,q 25 (.bin .add (.t 24) (cc 1)),aw 5 25]
def Vr:bZ:=
 (.seq (.seq (.bh avy [19,20,21,22] [23])
 (.cond (.t 23)
 .skip
 (.exit 0)))
 (.seq (.block 1
 (.seq (.region adU [] [23,26,27,28,29,30])
 (.seq (.region ayv [] [31,32,33,34,35])
 (.seq (.seq (.region ar3 [] [36,37,38,39,40,41,42,43,44,45,46,47,48,49,50,51,52,53,54,55,56])
 (.cond (.t 57)
 (.seq (.bh aoo [2,3,5,6,7,57] [4])
 .ret)
 .skip))
 (.seq (.bh ars [57] [8])
 (.block 2
 (.loop [] MU)))))))
 (.bh avq [6,7,8,24,25,62] [5])))
def O2:bZ:=Vr
def YK:=[bws 4 bwd]
def y6:dm:={ ntmps:=108,results:=[.tmp 4],body:=
 (.seq (.region asY [] xf)
 (.seq (.seq (.bh ag4 [12,13,14,15,16,17] [18])
 (.cond (.t 18)
 (.seq (.bh ap8 [2,3,18] [4])
 .ret)
 .skip))
 (.seq (.seq (.bh atK [18] [5])
 (.block 0
 (.loop [] O2)))
 (.seq (.bh YK [2,3,5,23] [4])
 .ret)))) }
theorem aD5:eL (List.range' 2 (y6.ntmps-2)) y6.body=true:=by kernel_rfl
abbrev P5:Nat:=28
def KD:=List.range' 2 24
theorem aSC:gN KD (fL 26 [] 2)=[]:=by kernel_rfl
def adC:=[bws 4 dd]
def arp:=[aw 6 0,q 7 (.da .s (.t 6)),aw 8 1,q 9 (.da .s (.t 8)),q 10 (.bin .neq (.t 7) (.t 9))]
def ach:=[bws 4 dd]
def ahT:=[bws 5 (cc 0)]
def ahV:=[aw 11 5,aw 12 0,q 13 (.da .s (.t 12)),q 14 (.bin .lss (.t 11) (.t 13))]
def af8:=[aw 17 0,aw 18 5,ji 19 1 17 18,b3 20 19,aw 21 1,aw 22 5,ji 23 1 21 22,b3 24 23,q 25 (.bin .neq (.t 20) (.t 24))]
def atP:=[bws 4 dd]
def adY:=[aw 15 5,q 16 (.bin .add (.t 15) (cc 1)),aw 5 16]
def Ww:bZ:=
 (.seq (.seq (.bh ahV [11,12,13] [14])
 (.cond (.t 14)
 .skip
 (.exit 0)))
 (.seq (.block 1
 (.seq (.bh af8 [14,17,18,19,20,21,22,23,24] [25])
 (.cond (.t 25)
 (.seq (.bh atP [0,1,5,25] [4])
 .ret)
 .skip)))
 (.bh adY [15,16,25] [5])))
def Og:bZ:=Ww
def aif:=[bws 4 bwd]
def x3:dm:={ ntmps:=26,results:=[.tmp 4],body:=
 (.seq (.bh adC KD [])
 (.seq (.seq (.bh arp [6,7,8,9] [10])
 (.cond (.t 10)
 (.seq (.bh ach [0,1,10] [4])
 .ret)
 .skip))
 (.seq (.seq (.bh ahT [10] [5])
 (.block 0
 (.loop [] Og)))
 (.seq (.bh aif [0,1,5,14] [4])
 .ret)))) }
abbrev Xa:Nat:=29
def xM:=[0,1]++List.range' 4 55
def asE:=[bws 4 dd]
def PX:=q 3 (.box (.t 1))::asE
def QZ:=[q 2 (.box (.t 0))]
def au4:=QZ++PX
def DG:=[0]++List.range' 3 56
def aDS(call:c5)(it:hE)(base:Nat)(f:List V)(H:ad):aL call it base (.region au4 [] xM) f H=nZ call it base (.region PX [] xM) (oH [] QZ DG (cI call base [⟨some 2,.box (.t 0),none⟩] f H)):=(xu call it base QZ PX (kc:=DG) (by kernel_rfl) f H).trans (by rw[vK];rfl)
def adH:=[dF 58 (.t 52) (.t 57) dd,aw 4 58]
def afO:=bD 57 (.call (.c (.fn 28 [] [])) [.t 54,.t 56]) 52 true::adH
def aiQ:=dN 56 55 52 true::afO
def arh:=dp 55 7 3 52 true::aiQ
def ahI:=dN 54 53 52 true::arh
def arC:=dp 53 7 2 52 true::ahI
def aGI:=[dF 51 (.t 45) (.t 50) dd,aw 52 51]
def agM:=aGI++arC
def alm:=bD 50 (.call (.c (.fn 28 [] [])) [.t 47,.t 49]) 45 true::agM
def awh:=dN 49 48 45 true::alm
def aoR:=dp 48 6 3 45 true::awh
def ag5:=dN 47 46 45 true::aoR
def apn:=dp 46 6 2 45 true::ag5
def aQS:=[bM 5 0 2,b3 6 5,bM 7 0 3,b3 8 7,q 9 (.bin .eql (.t 6) (.t 8)),aw 10 9,dp 11 1 2 10 true,dN 12 11 10 true,dp 13 1 3 10 true,dN 14 13 10 true,bD 15 (.bin .eql (.t 12) (.t 14)) 10 true,dF 16 (.t 10) (.t 15) dd,aw 17 16,dp 18 2 2 17 true,dN 19 18 17 true,dp 20 2 3 17 true,dN 21 20 17 true,bD 22 (.bin .eql (.t 19) (.t 21)) 17 true,dF 23 (.t 17) (.t 22) dd,aw 24 23,dp 25 3 2 24 true,dN 26 25 24 true,dp 27 3 3 24 true,dN 28 27 24 true,bD 29 (.bin .eql (.t 26) (.t 28)) 24 true,dF 30 (.t 24) (.t 29) dd,aw 31 30,dp 32 4 2 31 true,dN 33 32 31 true,dp 34 4 3 31 true,dN 35 34 31 true,bD 36 (.bin .eql (.t 33) (.t 35)) 31 true,dF 37 (.t 31) (.t 36) dd,aw 38 37,dp 39 5 2 38 true,dN 40 39 38 true,dp 41 5 3 38 true,dN 42 41 38 true,bD 43 (.bin .eql (.t 40) (.t 42)) 38 true,dF 44 (.t 38) (.t 43) dd,aw 45 44]
def aax:=aQS++apn
def x':dm:={ ntmps:=59,results:=[.tmp 4],body:=
 (.seq (.region au4 [] xM)
 (.seq (.region aax [] [2,3,5,6,7,8,9,10,11,12,13,14,15,16,17,18,19,20,21,22,23,24,25,26,27,28,29,30,31,32,33,34,35,36,37,38,39,40,41,42,43,44,45,46,47,48,49,50,51,52,53,54,55,56,57,58])
 .ret)) }
theorem aLj:eL (List.range' 2 (x'.ntmps-2)) x'.body=true:=by kernel_rfl
def C7:=I (a6 CV 0) (I (bk CV 1) (I (bk CV 2) (I (a6 CV 3) (I (a6 CV 4) (I aEc (I (aC LX [1] xf) (I (cA arT xf [] 5 [] [] [.cb (.s (.bool false))]) (I (a6 xf 0) (I (a6 xf 1) (I (bk xf 2) (I (bk xf 3) (I (a6 xf 4) (I (aB ag4 [12,13,14,15,16,17] [18] 19 [] [(18,fj .neq (fX (bn (bq 0 (.t 2)))) (fX (bn (bq 0 (.t 3)))))] [ee,dx,bT,Bz,q2,mN,az]) (I (aB ap8 [2,3,18] [4] 5 [] [(4,gV)] [.cb (.s (.bool false))]) (I (aB atK [18] [5] 6 [] [(5,iE 0)] [.cb (.s (.int .i64 0))]) (I (aB avy [19,20,21,22] [23] 24 [] [(23,fj .lss (.t 5) (fX (bn (bq 0 (.t 2)))))] [.aS 5,Bz,q2,mN,az]) (I (bb adU [23,26,27,28,29] [30] [23,26,27,28,29,30] 31 [] [(30,gZ 3 (je 3 (bn (bq 0 (.t 2))) (.t 5)))] [ee,dx,.aS 5,bT,az]) (I (aC atb [] [23,26,27,28,29,30]) (I (cl aqe [23,26,27,28,29,30]) (I (bb ayv [31,32,33,34] [35] [31,32,33,34,35] 36 [] [(35,gZ 3 (je 3 (bn (bq 0 (.t 3))) (.t 5)))] [ee,dx,.aS 5,bT,az]) (I (aC av8 [] [31,32,33,34,35]) (I (cl agm [31,32,33,34,35]) (I (bb ar3 [36,37,38,39,40] [41] FB 42 [] [(41,fj .neq (bn (bq 0 (.t 6))) (bn (bq 0 (.t 7))))] [dx,bT,q2,mN,az,az]) (I (aC ai0 [] FB) (I (aC Zz [42] FB) (I (aC ad7 [] FB) (I (aC auQ [44] FB) (I (aC abe [43,45] FB) (I (cA aqD [36,37,38,39,40,41,42,43,44,45,46,47,48,49,50,51,52,53,54,55,56] [57] 58 [] [(57,.pick (.pick (.t 41) gA (kO (.t 46))) gA (fj .neq (fX (bn (bq 2 (.t 6)))) (fX (bn (bq 2 (.t 7))))))] [.sub 0 [0,2] [41],bT,bT,.sub 0 [2,0,0,0] [49],.sub 0 [2,0,0] [49],.sub 0 [2,0] [49],.sub 0 [2,1,0,0] [49],.sub 0 [2,1,0] [49],.sub 0 [2,1] [49],.sub 0 [2] [49],az]) (I (aB aoo [2,3,5,6,7,57] [4] 5 [] [(4,gV)] [.cb (.s (.bool false))]) (I (aB ars [57] [8] 9 [] [(8,iE 0)] [.cb (.s (.int .i64 0))]) (I (aB aaY [58,59,60,61] [62] 63 [] [(62,fj .lss (.t 8) (fX (bn (bq 2 (.t 6)))))] [.aS 8,Bz,q2,mN,az]) (I (bb awT [62,65,66,67,68] [69] [62,65,66,67,68,69] 70 [] [(69,gZ 2 (je 2 (bn (bq 2 (.t 6))) (.t 8)))] [ee,dx,.aS 8,bT,az]) (I (aC aaX [] [62,65,66,67,68,69]) (I (cl aoP [62,65,66,67,68,69]) (I (bb ajU [70,71,72,73] [74] [70,71,72,73,74] 75 [] [(74,gZ 2 (je 2 (bn (bq 2 (.t 7))) (.t 8)))] [ee,dx,.aS 8,bT,az]) (I (aC atU [] [70,71,72,73,74]) (I (cl asV [70,71,72,73,74]) (I (aB avu [75,76,77,78,79,80,81,82,83,84,85,86,87] [88] 89 [] [(88,.pick (fj .neq (bn (bq 0 (.t 9))) (bn (bq 0 (.t 10)))) gA (fj .neq (fX (bn (bq 1 (.t 9)))) (fX (bn (bq 1 (.t 10))))))] [ee,dx,Hx,AT,bT,bT,.sub 0 [2,0,0,0] [80],.sub 0 [2,0,0] [80],.sub 0 [2,0] [80],.sub 0 [2,1,0,0] [80],.sub 0 [2,1,0] [80],.sub 0 [2,1] [80],.sub 0 [2] [80],az]) (I (aB afj [2,3,5,6,7,8,9,10,88] [4] 5 [] [(4,gV)] [.cb (.s (.bool false))]) (I (aB adK [88] [11] 12 [] [(11,iE 0)] [.cb (.s (.int .i64 0))]) (I (aB ahc [89,90,91,92] [93] 94 [] [(93,fj .lss (.t 11) (fX (bn (bq 1 (.t 9)))))] [.aS 11,Bz,q2,mN,az]) (I (bb akD [93,96,97,98,99,101,102,103,104] [100,105] aoK 106 [] [(100,gZ 8 (je 8 (bn (bq 1 (.t 9))) (.t 11))),(105,gZ 8 (je 8 (bn (bq 1 (.t 10))) (.t 11)))] [ee,dx,.aS 11,bT,az,Yd,Fw,.aS 11,me,eE]) (I (aC anF [100,105] aoK) (I (cA atM [93,96,97,98,99,100,101,102,103,104,105,106] [107] 108 [] [(107,kO (.t 106))] [az]) (I (aB YF [2,3,5,6,7,8,9,10,11,107] [4] 5 [] [(4,gV)] [.cb (.s (.bool false))]) (I (aB ac3 [94,95,107] [11] 96 [] [(11,h2 1 (.t 11))] [.aS 11,az,az]) (I (bp Oh Xu) (I (aB avE [9,10,11,63,64,93] [8] 65 [] [(8,h2 1 (.t 8))] [.aS 8,az,az]) (I (bp MU Ts) (I (aB avq [6,7,8,24,25,62] [5] 26 [] [(5,h2 1 (.t 5))] [.aS 5,az,az]) (I (bp O2 Vr) (I (aB YK [2,3,5,23] [4] 5 [] [(4,gA)] [.cb (.s (.bool true))]) (I Ts.eq_1 (I Xu.eq_1 (Vr.eq_1))))))))))))))))))))))))))))))))))))))))))))))))))))))))
def Rb:=I (aB adC KD [] 5 [] [] [.cb (.s (.bool false))]) (I aSC (I (bk KD 0) (I (bk KD 1) (I (aB arp [6,7,8,9] [10] 11 [] [(10,fj .neq (fX (.t 0)) (fX (.t 1)))] [.aS 0,bT,.aS 1,mN,az]) (I (aB ach [0,1,10] [4] 5 [] [(4,gV)] [.cb (.s (.bool false))]) (I (aB ahT [10] [5] 6 [] [(5,iE 0)] [.cb (.s (.int .i64 0))]) (I (aB ahV [11,12,13] [14] 15 [] [(14,fj .lss (.t 5) (fX (.t 0)))] [.aS 5,.aS 0,mN,az]) (I (aB af8 [14,17,18,19,20,21,22,23,24] [25] 26 [] [(25,fj .neq (bn (je 1 (.t 0) (.t 5))) (bn (je 1 (.t 1) (.t 5))))] [.aS 0,.aS 5,dx,bT,.aS 1,.aS 5,q2,mN,az]) (I (aB atP [0,1,5,25] [4] 5 [] [(4,gV)] [.cb (.s (.bool false))]) (I (aB adY [15,16,25] [5] 17 [] [(5,h2 1 (.t 5))] [.aS 5,az,az]) (I (bp Og Ww) (I (aB aif [0,1,5,14] [4] 5 [] [(4,gA)] [.cb (.s (.bool true))]) (Ww.eq_1)))))))))))))
def aJA:=I (a6 DG 0) (I (bk DG 1) (I (bk DG 2) (I (a6 DG 3) (I (a6 DG 4) (I aDS (I (aC PX [1] xM) (I (cA asE xM [] 5 [] [] [.cb (.s (.bool false))]) (I (a6 xM 0) (I (a6 xM 1) (I (bk xM 2) (I (bk xM 3) (I (a6 xM 4) (I (bb aax [5,6,7,8,9,10,11,12,13,14,15,16,17,18,19,20,21,22,23,24,25,26,27,28,29,30,31,32,33,34,35,36,37,38,39,40,41,42,43,44] [45] ub 46 [] [(45,.pick (.pick (.pick (.pick (.pick (fj .eql (bn (bq 0 (.t 2))) (bn (bq 0 (.t 3)))) (fj .eql (bn (bq 1 (.t 2))) (bn (bq 1 (.t 3)))) gV) (fj .eql (bn (bq 2 (.t 2))) (bn (bq 2 (.t 3)))) gV) (fj .eql (bn (bq 3 (.t 2))) (bn (bq 3 (.t 3)))) gV) (fj .eql (bn (bq 4 (.t 2))) (bn (bq 4 (.t 3)))) gV) (fj .eql (bn (bq 5 (.t 2))) (bn (bq 5 (.t 3)))) gV)] [MW,MM,r7 [0,0,0,0,0,1,0],r7 [0,0,0,0,0,1],Bd,Bd,.sub 0 [0,0,0,0,1,0,0] [10],.sub 0 [0,0,0,0,1,0] [10],.sub 0 [0,0,0,0,1,1,0] [10],.sub 0 [0,0,0,0,1,1] [10],.sub 0 [0,0,0,0,1] [10],lG,lG,.sub 0 [0,0,0,1,0,0] [17],.sub 0 [0,0,0,1,0] [17],.sub 0 [0,0,0,1,1,0] [17],.sub 0 [0,0,0,1,1] [17],.sub 0 [0,0,0,1] [17],ee,ee,.sub 0 [0,0,1,0,0] [24],.sub 0 [0,0,1,0] [24],.sub 0 [0,0,1,1,0] [24],.sub 0 [0,0,1,1] [24],.sub 0 [0,0,1] [24],dx,dx,.sub 0 [0,1,0,0] [31],.sub 0 [0,1,0] [31],.sub 0 [0,1,1,0] [31],.sub 0 [0,1,1] [31],.sub 0 [0,1] [31],bT,bT,.sub 0 [1,0,0] [38],.sub 0 [1,0] [38],.sub 0 [1,1,0] [38],.sub 0 [1,1] [38],.sub 0 [1] [38],az,az]) (I (aC apn [] ub) (I (aC ag5 [46] ub) (I (aC aoR [] ub) (I (aC awh [48] ub) (I (aC alm [47,49] ub) (I (bb agM [45,50,51] [52] ub 53 [] [(52,.pick (.t 45) (.t 50) gV)] [az,az]) (I (aC arC [2] ub) (I (aC ahI [53] ub) (I (aC arh [3] ub) (I (aC aiQ [55] ub) (I (aC afO [54,56] ub) ((cA adH [2,3,5,6,7,8,9,10,11,12,13,14,15,16,17,18,19,20,21,22,23,24,25,26,27,28,29,30,31,32,33,34,35,36,37,38,39,40,41,42,43,44,45,46,47,48,49,50,51,52,53,54,55,56,57,58] [4] 59 [] [(4,.pick (.t 52) (.t 57) gV)] [az,az]))))))))))))))))))))))))))
theorem azx:dS Tryz.prog dH 28=some (false,x3.ntmps,x3.results,x3.body.bare):=by kernel_rfl
theorem aRF:dS Tryz.prog dH 29=some (false,x'.ntmps,x'.results,x'.body.bare):=by kernel_rfl
theorem aGp:dS Tryz.prog dH 12=some (false,y6.ntmps,y6.results,y6.body.bare):=by kernel_rfl
section
variable {ag:Nat->Option cz}
def aMd(base:Nat){D:ad}{v w:V}{l:List ByteArray}(bj:Rd D v (l.map aA))(aT:mq v)(bP:Rd D w (l.map aA))(ca:mq w)(aJ:l.length<2^62):
 aN (aL (aR ag) aN base Og) [] D.length (ax 26 [(0,v),(1,w),(5,U 0)]) D=some (.ext 0,ax 26 [(0,v),(1,w),(5,U l.length),(14,ar false)],D):=by
 have gp:=so bj
 have h:=aTD l.length (fun k=>aN (aL (aR ag) aN base Og) [] D.length (ax 26 [(0,v),(1,w),(5,U k)]) D) (fun k an=>by
  have eb:((k:Int)<((l.length:Nat):Int)):=by omega
  have jf:=jB (n:=k) (by omega)
  obtain⟨y,jG,rL⟩:=ui bj aT an;obtain⟨z,eO,z2⟩:=ui bP ca an;have e:((l.getD k ⟨#[]⟩).data.toList==(l.getD k ⟨#[]⟩).data.toList)=true:=mu _;rw[dt];simp only[U,simprocAttr,aA,ar,Rb,aG,gp,eb,jG,rL,eO,z2,e,jf,vF rfl]) 0 (gY _)
 rw[j0]at h;refine h.trans ?_;rw[dt];simp only[U,simprocAttr,aA,ar,Rb,aG,gp,nH,vF rfl]
def QJ(aB:ag P5=some (.code x3))(base:Nat){D:ad}{v w:V}{l:List ByteArray}(bj:Rd D v (l.map aA))(aT:mq v)(bP:Rd D w (l.map aA))(ca:mq w)(aJ:l.length<2^62):
 aR ag (.fn P5 [] []) [v,w] base D=some (ar true,D):=by
 have f0:=aMd (ag:=ag) base bj aT bP ca aJ;have ye:=so bj;have ou:=so bP;have e:(((l.length:Nat):Int)==((l.length:Nat):Int))=true:=mu _
 refine gR (c:=x3) aB (by simp[x3]) ?_
 simp only[U,aA,ar]at f0;simp only[U,simprocAttr,aA,ar,x3,Rb,aG,ye,ou,e,f0]
def aJT(fl:ag P5=some (.code x3))(aB:ag Xa=some (.code x'))(base:Nat){A:ad}{r s:List V}{x:bI}(ak:fc A r x)(ai:fc A s x)(iJ:x.xs.length<2^62)(lL:x.ls.length<2^62):
 ∃H',aR ag (.fn Xa [] []) [.agg r,.agg s] base A=some (ar true,H')/\Ext A H':=by
 obtain⟨a',lv,rfl,bj,aT,a1,cB,_⟩:=ak;obtain⟨arO,lw,rfl,cn,dP,gn,rj,_⟩:=ai;obtain⟨bX,gE⟩:∃D,A++[aM.cells 0 (bg x a' lv)]=D:=⟨_,rfl⟩;obtain⟨D,d'⟩:∃D,bX++[aM.cells 0 (bg x arO lw)]=D:=⟨_,rfl⟩
 have cW:bX.length=A.length+1:=by rw[<- gE,dh]
 have aE:Ext A bX:=gE▸Ext.app _ _;have aU:Ext bX D:=d'▸Ext.app _ _;have e:=aE.trans aU;have C4:au D A.length 0=some (bg x a' lv):=b7 (gE▸cQ A 0 _) aU
 have wA:au D (A.length+1) 0=some (bg x arO lw):=by rw[<- cW,<- d'];exact cQ bX 0 _
 have f1:=QJ fl base (bj.ext e) aT (cn.ext e) dP iJ;have f2:=QJ fl base (a1.ext e) cB (gn.ext e) rj lL;have e0:(x.op==x.op:Bool)=true:=mu _;have fe:(x.d.data.toList==x.d.data.toList:Bool)=true:=mu _;have eI:(x.a.data.toList==x.a.data.toList:Bool)=true:=mu _;have jQ:(x.b.data.toList==x.b.data.toList:Bool)=true:=mu _;have pf:(x.k==x.k:Bool)=true:=mu _;have C9:(x.f.data.toList==x.f.data.toList:Bool)=true:=mu _;have gz:=bj.one;have lO:=a1.one;have pR:=cn.one;have vO:=gn.one
 refine⟨D,eF (c:=x') (k:=2) aB rfl (by decide) aLj ?_,e⟩
 simp only[bg,aA]at gE d' C4 wA;simp only[ar]at f1 f2;simp only[U,simprocAttr,aA,ar,bg,x',aJA,aG,gz,lO,pR,vO,gE,cW,d',C4,wA,e0,fe,eI,jQ,pf,C9,f1,f2]
end
structure Gk (ag:Nat->Option cz):Prop where
 texts:ag P5=some (.code x3)
 instr:ag Xa=some (.code x')
 same:ag OY=some (.code y6)
section
variable {ag:Nat->Option cz}
set_option maxHeartbeats 1000000 in
def aT9(h:Gk ag)(base:Nat){dU:ad}(ah:base<=dU.length){z9 HL:Nat}{gP bA Lz:V}{l:List bI}(amI:au dU z9 0=some [gP,bA])(aFr:au dU HL 0=some [gP,Lz])(ab:fb 8 fc dU bA l)(aQ:fb 8 fc dU Lz l)(aJ:l.length<2^20)(af:∀x∈l,x.xs.length<2^20/\x.ls.length<2^20){v2 v3 v6 A4:V}{n5 n8:Int}:
 ∃a7,aN (aL (aR ag) aN base Oh) [] dU.length (ax 108 [(2,v2),(3,v3),(5,U n5),(6,v6),(7,A4),(8,U n8),(9,.ref z9 0 0),(10,.ref HL 0 0),(11,U 0)]) dU=some (.ext 4,ax 108 [(2,v2),(3,v3),(5,U n5),(6,v6),(7,A4),(8,U n8),(9,.ref z9 0 0),(10,.ref HL 0 0),(11,U l.length),(93,ar false)],a7)/\Ext dU a7:=by
 obtain⟨C,aU,cd⟩:=BH l.length (fun _ C=>Ext dU C) (fun k C=>aN (aL (aR ag) aN base Oh) [] dU.length (ax 108 [(2,v2),(3,v3),(5,U n5),(6,v6),(7,A4),(8,U n8),(9,.ref z9 0 0),(10,.ref HL 0 0),(11,U k)]) C) (by
  intro k C an bp
  have eb:((k:Int)<((l.length:Nat):Int)):=by omega
  have jf:=jB (n:=k) (by omega)
  have g9:=b7 amI bp;have g10:=b7 aFr bp;have gp:=(wg ab bp).len;have rN:l[k]?=some (l[k]):=eP an;obtain⟨x,kt⟩:∃x,l[k]=x:=⟨_,rfl⟩;rw[kt]at rN;have aft:=af x (ib rN);obtain⟨y,aiA,jG,rL,vu,_⟩:=ab.l4 rN;obtain⟨z,Hj,eO,z2,z3,_⟩:=aQ.l4 rN;have Ez:=vu C bp;have Ds:=z3 C bp
  obtain⟨H1,f1,dX⟩:=aJT h.texts h.instr base (rL.ext bp) (z2.ext bp) (by omega) (by omega)
  refine⟨trim dU.length (ax 108 [(2,v2),(3,v3),(5,U n5),(6,v6),(7,A4),(8,U n8),(9,.ref z9 0 0),(10,.ref HL 0 0),(11,U (k+1:Nat))]) H1,?_,(bp.trans dX).trim (cq _) _⟩;simp only[ar]at f1;rw[dt];simp only[U,simprocAttr,ar,C7,aG,g9,g10,gp,eb,jG,eO,Ez,Ds,f1,jf]) 0 dU (gY _) (Ext.refl _)
 rw[j0]at aU;refine⟨trim dU.length (ax 108 [(2,v2),(3,v3),(5,U n5),(6,v6),(7,A4),(8,U n8),(9,.ref z9 0 0),(10,.ref HL 0 0),(11,U l.length),(93,ar false)]) C,aU.trans ?_,cd.trim (cq _) _⟩;have g9:=b7 amI cd;have gp:=(wg ab cd).len;rw[dt];simp only[U,simprocAttr,ar,C7,aG,g9,gp,nH]
set_option maxHeartbeats 1000000 in
def aSm(h:Gk ag)(base:Nat){dU:ad}(ah:base<=dU.length){hA nN:Nat}{nm pv Ny bv Lg:V}{l:List ey}(asB:au dU hA 0=some [nm,pv,bv])(aCZ:au dU nN 0=some [nm,Ny,Lg])(ab:fb 2 lx dU bv l)(aQ:fb 2 lx dU Lg l)(aJ:l.length<2^20)(af:∀b∈l,b.code.length<2^20/\∀x∈b.code,x.xs.length<2^20/\x.ls.length<2^20){v2 v3:V}{n5:Int}:
 ∃a7,aN (aL (aR ag) aN base MU) [] dU.length (ax 108 [(2,v2),(3,v3),(5,U n5),(6,.ref hA 0 0),(7,.ref nN 0 0),(8,U 0)]) dU=some (.ext 2,ax 108 [(2,v2),(3,v3),(5,U n5),(6,.ref hA 0 0),(7,.ref nN 0 0),(8,U l.length),(62,ar false)],a7)/\Ext dU a7:=by
 obtain⟨C,aU,cd⟩:=BH l.length (fun _ C=>Ext dU C) (fun k C=>aN (aL (aR ag) aN base MU) [] dU.length (ax 108 [(2,v2),(3,v3),(5,U n5),(6,.ref hA 0 0),(7,.ref nN 0 0),(8,U k)]) C) (by
  intro k C an bp
  have eb:((k:Int)<((l.length:Nat):Int)):=by omega
  have jf:=jB (n:=k) (by omega)
  have gr:base<=C.length:=by have:=bp.le;omega
  have g6:=b7 asB bp;have gp:=(vQ ab bp).len;have rN:l[k]?=some (l[k]):=eP an;obtain⟨B,kt⟩:∃x,l[k]=x:=⟨_,rfl⟩;rw[kt]at rN;obtain⟨aIX,aft⟩:=af B (ib rN);obtain⟨y,aiA,jG,rL,vu,_⟩:=ab.l4 rN;obtain⟨z,Hj,eO,z2,z3,_⟩:=aQ.l4 rN;obtain⟨bA,rfl,fm⟩:=rL;obtain⟨Lz,rfl,K5⟩:=z2;have ko:=fm.one;have aTX:=K5.one;obtain⟨bG,ha⟩:∃X,C++[aM.cells 0 [aA B.label,bA]]=X:=⟨_,rfl⟩;obtain⟨cx,gb⟩:∃X,bG++[aM.cells 0 [aA B.label,Lz]]=X:=⟨_,rfl⟩
  have cW:bG.length=C.length+1:=by rw[<- ha,dh]
  have fZ:cx.length=C.length+2:=by rw[<- gb,dh,cW]
  have dX:Ext C bG:=ha▸Ext.app _ _;have fx:Ext bG cx:=gb▸Ext.app _ _;have Ez:=vu C bp;have Ds:=z3 bG (bp.trans dX);have g7:=b7 aCZ (bp.trans dX);have We:au cx C.length 0=some [aA B.label,bA]:=b7 (ha▸cQ C 0 _) fx
  have VG:au cx (C.length+1) 0=some [aA B.label,Lz]:=by rw[<- cW,<- gb];exact cQ bG 0 _
  have lE:=bp.trans (dX.trans fx)
  obtain⟨a7,f1,gy⟩:=aT9 h base (dU:=cx) (by omega) (v2:=v2) (v3:=v3) (v6:=.ref hA 0 0) (A4:=.ref nN 0 0) (n5:=n5) (n8:=k) We VG (wg fm lE) (wg K5 lE) aIX aft
  have Sq:=(wg fm lE).len;have TP:=(wg K5 lE).len;have WT:au (C++[aM.cells 0 [V.s (.string ⟨#[]⟩),.s (.slice none 0 0)]]) C.length 0=some [V.s (.string ⟨#[]⟩),.s (.slice none 0 0)]:=cQ C 0 _
  have E3:au (bG++[aM.cells 0 [V.s (.string ⟨#[]⟩),.s (.slice none 0 0)]]) (C.length+1) 0=some [V.s (.string ⟨#[]⟩),.s (.slice none 0 0)]:=by rw[<- cW];exact cQ bG 0 _
  have S5:∀o,(C++[aM.cells 0 [V.s (.string ⟨#[]⟩),.s (.slice none 0 0)]]).set C.length o=C++[o]:=fun o=>iI C _ _
  have U7:∀o,(bG++[aM.cells 0 [V.s (.string ⟨#[]⟩),.s (.slice none 0 0)]]).set (C.length+1) o=bG++[o]:=fun o=>by rw[<- cW];exact iI bG _ _
  have eg:base<=C.length+1:=by omega
  have fe:(B.label.data.toList==B.label.data.toList:Bool)=true:=mu _;have eI:(((B.code.length:Nat):Int)==((B.code.length:Nat):Int))=true:=mu _;refine⟨trim dU.length (ax 108 [(2,v2),(3,v3),(5,U n5),(6,.ref hA 0 0),(7,.ref nN 0 0),(8,U (k+1:Nat))]) a7,?_,(lE.trans gy).trim (cq _) _⟩;rw[fZ]at f1;simp only[ar,U,aA]at f1 Ez Ds ha gb We VG;rw[dt];simp only[U,simprocAttr,aA,ar,C7,aG,g6,g7,gp,eb,jG,eO,Ez,Ds,WT,E3,S5,U7,gr,eg,ko,aTX,ha,cW,gb,fZ,We,VG,Sq,TP,fe,eI,f1,jf]) 0 dU (gY _) (Ext.refl _)
 rw[j0]at aU;refine⟨trim dU.length (ax 108 [(2,v2),(3,v3),(5,U n5),(6,.ref hA 0 0),(7,.ref nN 0 0),(8,U l.length),(62,ar false)]) C,aU.trans ?_,cd.trim (cq _) _⟩;have g6:=b7 asB cd;have gp:=(vQ ab cd).len;rw[dt];simp only[U,simprocAttr,ar,C7,aG,g6,gp,nH]
end
section
variable {ag:Nat->Option cz}
set_option maxHeartbeats 1000000 in
def aP7(h:Gk ag)(base:Nat){dU:ad}(ah:base<=dU.length){dP gn:Nat}{cr D5:V}{fs:List cT}(wA:au dU dP 0=some [cr])(aIH:au dU gn 0=some [D5])(ab:iF dU cr fs)(aQ:iF dU D5 fs)(ai:Small fs):
 ∃a7,aN (aL (aR ag) aN base O2) [] dU.length (ax 108 [(2,.ref dP 0 0),(3,.ref gn 0 0),(5,U 0)]) dU=some (.ext 0,ax 108 [(2,.ref dP 0 0),(3,.ref gn 0 0),(5,U fs.length),(23,ar false)],a7)/\Ext dU a7:=by
 obtain⟨C,aU,cd⟩:=BH fs.length (fun _ C=>Ext dU C) (fun k C=>aN (aL (aR ag) aN base O2) [] dU.length (ax 108 [(2,.ref dP 0 0),(3,.ref gn 0 0),(5,U k)]) C) (by
  intro k C an bp
  have eb:((k:Int)<((fs.length:Nat):Int)):=by omega
  have jf:=jB (n:=k) (by have:=ai.n;omega)
  have gr:base<=C.length:=by have:=bp.le;omega
  have g2:=b7 wA bp;have gp:=fb.len (ab.ext bp);have rN:fs[k]?=some (fs[k]):=eP an;obtain⟨f,kt⟩:∃x,fs[k]=x:=⟨_,rfl⟩;rw[kt]at rN;have IS:=ib rN;obtain⟨y,aiA,jG,rL,vu,_⟩:=ab.l4 rN;obtain⟨z,Hj,eO,z2,z3,_⟩:=aQ.l4 rN;obtain⟨pv,bv,rfl,jY,ks,jW,lT⟩:=rL;obtain⟨Ny,Lg,rfl,bc,dJ,fI,jF⟩:=z2;have gz:=jY.one;have lO:=lT.one;have pR:=bc.one;have vO:=jF.one;obtain⟨bG,ha⟩:∃X,C++[aM.cells 0 [aA f.name,pv,bv]]=X:=⟨_,rfl⟩;obtain⟨cx,gb⟩:∃X,bG++[aM.cells 0 [aA f.name,Ny,Lg]]=X:=⟨_,rfl⟩
  have cW:bG.length=C.length+1:=by rw[<- ha,dh]
  have fZ:cx.length=C.length+2:=by rw[<- gb,dh,cW]
  have dX:Ext C bG:=ha▸Ext.app _ _;have fx:Ext bG cx:=gb▸Ext.app _ _;have Ez:=vu C bp;have Ds:=z3 bG (bp.trans dX);have g3:=b7 aIH (bp.trans dX);have TB:au cx C.length 0=some [aA f.name,pv,bv]:=b7 (ha▸cQ C 0 _) fx
  have RF:au cx (C.length+1) 0=some [aA f.name,Ny,Lg]:=by rw[<- cW,<- gb];exact cQ bG 0 _
  have lE:=bp.trans (dX.trans fx)
  have ajx:=QJ h.texts base (D:=cx) (jY.ext lE) ks (bc.ext lE) dJ (by have:=ai.ps f IS;omega)
  obtain⟨a7,f1,gy⟩:=aSm h base (dU:=cx) (by omega) (v2:=.ref dP 0 0) (v3:=.ref gn 0 0) (n5:=k) TB RF (vQ lT lE) (vQ jF lE) (ai.Jr f IS) (fun b ah=>⟨ai.Uk f IS b ah,fun x af=>⟨ai.xs f IS b ah x af,ai.ls f IS b ah x af⟩⟩)
  have Sq:=(vQ lT lE).len;have TP:=(vQ jF lE).len;have WT:au (C++[aM.cells 0 [V.s (.string ⟨#[]⟩),.s (.slice none 0 0),.s (.slice none 0 0)]]) C.length 0=some [V.s (.string ⟨#[]⟩),.s (.slice none 0 0),.s (.slice none 0 0)]:=cQ C 0 _
  have E3:au (bG++[aM.cells 0 [V.s (.string ⟨#[]⟩),.s (.slice none 0 0),.s (.slice none 0 0)]]) (C.length+1) 0=some [V.s (.string ⟨#[]⟩),.s (.slice none 0 0),.s (.slice none 0 0)]:=by rw[<- cW];exact cQ bG 0 _
  have S5:∀o,(C++[aM.cells 0 [V.s (.string ⟨#[]⟩),.s (.slice none 0 0),.s (.slice none 0 0)]]).set C.length o=C++[o]:=fun o=>iI C _ _
  have U7:∀o,(bG++[aM.cells 0 [V.s (.string ⟨#[]⟩),.s (.slice none 0 0),.s (.slice none 0 0)]]).set (C.length+1) o=bG++[o]:=fun o=>by rw[<- cW];exact iI bG _ _
  have eg:base<=C.length+1:=by omega
  have fe:(f.name.data.toList==f.name.data.toList:Bool)=true:=mu _;have eI:(((f.blocks.length:Nat):Int)==((f.blocks.length:Nat):Int))=true:=mu _;refine⟨trim dU.length (ax 108 [(2,.ref dP 0 0),(3,.ref gn 0 0),(5,U (k+1:Nat))]) a7,?_,(lE.trans gy).trim (cq _) _⟩;rw[fZ]at f1;simp only[ar,U,aA]at f1 Ez Ds ha gb TB RF ajx;rw[dt];simp only[U,simprocAttr,aA,ar,C7,aG,g2,g3,gp,eb,jG,eO,Ez,Ds,WT,E3,S5,U7,gr,eg,gz,lO,pR,vO,ha,cW,gb,fZ,TB,RF,Sq,TP,fe,eI,ajx,f1,jf]) 0 dU (gY _) (Ext.refl _)
 rw[j0]at aU;refine⟨trim dU.length (ax 108 [(2,.ref dP 0 0),(3,.ref gn 0 0),(5,U fs.length),(23,ar false)]) C,aU.trans ?_,cd.trim (cq _) _⟩;have g2:=b7 wA cd;have gp:=fb.len (ab.ext cd);rw[dt];simp only[U,simprocAttr,ar,C7,aG,g2,gp,nH]
def zv(h:Gk ag)(base:Nat){A:ad}(ah:base<=A.length){cr D5:V}{fs:List cT}(ab:iF A cr fs)(aQ:iF A D5 fs)(ai:Small fs):
 ∃H',aR ag (.fn OY [] []) [.agg [cr],.agg [D5]] base A=some (ar true,H')/\Ext A H':=by
 have gz:=ab.one;have lO:=aQ.one;obtain⟨bG,ha⟩:∃X,A++[aM.cells 0 [cr]]=X:=⟨_,rfl⟩;obtain⟨cx,gb⟩:∃X,bG++[aM.cells 0 [D5]]=X:=⟨_,rfl⟩
 have cW:bG.length=A.length+1:=by rw[<- ha,dh]
 have fZ:cx.length=A.length+2:=by rw[<- gb,dh,cW]
 have dX:Ext A bG:=ha▸Ext.app _ _;have fx:Ext bG cx:=gb▸Ext.app _ _;have e:=dX.trans fx;have g2:au cx A.length 0=some [cr]:=b7 (ha▸cQ A 0 _) fx
 have g3:au cx (A.length+1) 0=some [D5]:=by rw[<- cW,<- gb];exact cQ bG 0 _
 have cn:=fb.len (ab.ext e);have dP:=fb.len (aQ.ext e);have eI:(((fs.length:Nat):Int)==((fs.length:Nat):Int))=true:=mu _
 obtain⟨a7,f1,gy⟩:=aP7 h base (dU:=cx) (by omega) g2 g3 (ab.ext e) (aQ.ext e) ai
 refine⟨a7,eF (c:=y6) (k:=2) h.same rfl (by decide) aD5 ?_,e.trans gy⟩
 rw[fZ]at f1;simp only[ar,U]at f1;simp only[U,aA,ar,y6,C7,aG,reduceIte,reduceCtorEq,Nat.reduceEqDiff,Nat.reduceLT,Nat.reduceLeDiff,Nat.reduceBEq,Nat.reduceAdd,Nat.reduceMul,gz,lO,ha,cW,gb,fZ,g2,g3,cn,dP,eI,f1]
end
abbrev HC:Nat:=8
def Xx:=List.range' 0 23
theorem aA3:gN Xx (fL 23 [] 0)=[]:=by kernel_rfl
def ady:=[bws 0 dd]
def aeu:=[aw 3 14,iD 15 3 0,iD 16 3 1,aw 1 15,aw 2 16]
def aq6:=cL 14 10 [.t 13]::aeu
def aGO:=[q 13 (.build [e9] [(0,1)] [(0,.t 12)])]
def ays:=aGO++aq6
def agC:=q 12 (.gh 3 1 [cF,e9,e9] [(0,.t 11)])::ays
def aGS:=[q 11 (.build [cF,e9,e9] [(0,1),(1,1),(2,1)] [(0,cM #[102]),(1,.t 4),(2,.t 10)])]
def YS:=aGS++agC
def am0:=q 10 (.gh 2 1 [cF,e9] [(0,.t 9)])::YS
def aRG:=[q 9 (.build [cF,e9] [(0,1),(1,1)] [(0,cM #[97]),(1,.t 8)])]
def akP:=aRG++am0
def afh:=q 8 (.gh 8 1 [h9,cF,cF,cF,c9,cF,e9,e9] [(0,.t 7)])::akP
def aA8:=[q 7 (.build [h9,cF,cF,cF,c9,cF,e9,e9] [(0,1),(1,1),(2,1),(3,1),(4,1),(5,1),(6,1),(7,1)] [(0,cR 6),(1,cM #[104]),(6,.t 5),(7,.t 6)])]
def amS:=aA8++afh
def aeO:=q 6 (.gh 1 2 [cF,cF] [(0,cM #[97]),(1,cM #[98])])::amS
def ah7:=q 5 (.gh 1 2 [cF,cF] [(0,cM #[120]),(1,cM #[110,117,108,108])])::aeO
def asd:=q 4 (.gh 1 2 [cF,cF] [(0,cM #[112]),(1,cM #[113])])::ah7
def apm:=[aw 17 2,q 18 (.bin .eql (.t 17) (cc 0)),aw 19 18,ew 20 1 19 true,bD 21 (.bin .eql (.t 20) (cM #[102,117,110,99,32,102,40,112,44,32,113,41,32,123,10,97,58,10,32,32,104,32,61,32,112,104,105,32,91,97,58,32,120,44,32,98,58,32,110,117,108,108,93,10,125,10])) 19 true,dF 22 (.t 19) (.t 21) dd,aw 0 22]
def y7:dm:={ ntmps:=23,results:=[.tmp 0],body:=
 (.seq (.bh ady Xx [])
 (.seq (.region asd [] [3,4,5,6,7,8,9,10,11,12,13,14,15,16])
 (.seq (.bh apm [1,2,17,18,19,20,21,22] [0])
 .ret))) }
def aLA:=I (aB ady Xx [] 1 [] [] [.cb (.s (.bool false))]) (I aA3 (I (aC asd [] vP) (I (aC ah7 [] vP) (I (aC aeO [] vP) (I (bb amS [5,6] [7] vP 8 [] [(7,.op (.build [.s (.int .u8 0),.s (.string ⟨#[]⟩),.s (.string ⟨#[]⟩),.s (.string ⟨#[]⟩),.s (.int .i64 0),.s (.string ⟨#[]⟩),.s (.slice none 0 0),.s (.slice none 0 0)] [(0,1),(1,1),(2,1),(3,1),(4,1),(5,1),(6,1),(7,1)] [(0,.c (.s (.int .u8 6))),(1,.c (.s (.string ⟨#[104]⟩))),(6,.t 2),(7,.t 3)]) [.c (.s (.int .u8 6)),.c (.s (.string ⟨#[104]⟩)),.t 5,.t 6])] [az]) (I (aC afh [7] vP) (I (bb akP [8] [9] vP 10 [] [(9,.op (.build [.s (.string ⟨#[]⟩),.s (.slice none 0 0)] [(0,1),(1,1)] [(0,.c (.s (.string ⟨#[97]⟩))),(1,.t 1)]) [.c (.s (.string ⟨#[97]⟩)),.t 8])] [az]) (I (aC am0 [9] vP) (I (bb YS [4,10] [11] vP 12 [] [(11,.op (.build [.s (.string ⟨#[]⟩),.s (.slice none 0 0),.s (.slice none 0 0)] [(0,1),(1,1),(2,1)] [(0,.c (.s (.string ⟨#[102]⟩))),(1,.t 1),(2,.t 2)]) [.c (.s (.string ⟨#[102]⟩)),.t 4,.t 10])] [az]) (I (aC agC [11] vP) (I (bb ays [12] [13] vP 14 [] [(13,.op (.build [.s (.slice none 0 0)] [(0,1)] [(0,.t 0)]) [.t 12])] [az]) (I (aC aq6 [13] vP) (I (cA aeu [3,4,5,6,7,8,9,10,11,12,13,14,15,16] [1,2] 17 [] [(1,iH 0 (.t 14)),(2,iH 1 (.t 14))] [.aS 14,az,eE,az,eE]) ((aB apm [1,2,17,18,19,20,21,22] [0] 23 [] [(0,.pick (fY .eql 0 (.t 2)) (.op (.bin .eql (.t 0) (.c (.s (.string ⟨#[102,117,110,99,32,102,40,112,44,32,113,41,32,123,10,97,58,10,32,32,104,32,61,32,112,104,105,32,91,97,58,32,120,44,32,98,58,32,110,117,108,108,93,10,125,10]⟩)))) [.t 1,.c (.s (.string ⟨#[102,117,110,99,32,102,40,112,44,32,113,41,32,123,10,97,58,10,32,32,104,32,61,32,112,104,105,32,91,97,58,32,120,44,32,98,58,32,110,117,108,108,93,10,125,10]⟩))]) (.c (.s (.bool false))))] [.aS 2,bT,bT,.sub 0 [1,0] [19],.sub 0 [1] [19],az,az])))))))))))))))
theorem aOj:dS Tryz.prog dH 8=some (false,y7.ntmps,y7.results,y7.body.bare):=by kernel_rfl
def F5:List ByteArray:=[⟨#[120]⟩,⟨#[110,117,108,108]⟩]
def FA:List ByteArray:=[⟨#[97]⟩,⟨#[98]⟩]
def GG:List ByteArray:=[⟨#[112]⟩,⟨#[113]⟩]
def A7:bI:=⟨6,⟨#[104]⟩,⟨#[]⟩,⟨#[]⟩,0,⟨#[]⟩,F5,FA⟩
def Cw:List cT:=[⟨⟨#[102]⟩,GG,[⟨⟨#[97]⟩,[A7]⟩]⟩]
def aEf:Small Cw:=by
 refine⟨by decide,fun f al=>?_,fun f al=>?_,fun f al b ah=>?_,fun f al b ah x af=>?_,fun f al b ah x af=>?_⟩<;>(obtain rfl:=eQ.1 al)
 .decide
 .decide
 .obtain rfl:=eQ.1 ah;decide
 .obtain rfl:=eQ.1 ah;obtain rfl:=eQ.1 af;decide
 .obtain rfl:=eQ.1 ah;obtain rfl:=eQ.1 af;decide
def aGw:mY Cw 2=none:=by decide
def aDY:mY Cw 9=none:=by decide
def aEv:∀f∈Cw,A1 f:=by
 intro f al;obtain rfl:=eQ.1 al
 refine⟨by decide,by decide,by decide,fun b ah=>?_,by decide⟩
 obtain rfl:=eQ.1 ah
 refine⟨by decide,fun x af=>?_,by decide⟩
 obtain rfl:=eQ.1 af
 exact⟨⟨by decide,by decide,by decide,by decide,by decide,by decide,by decide,by decide⟩,aaH (by decide)⟩
def M1:List UInt8:=[102,117,110,99,32,102,40,112,44,32,113,41,32,123,10,97,58,10,32,32,104,32,61,32,112,104,105,32,91,97,58,32,120,44,32,98,58,32,110,117,108,108,93,10,125,10]
def atF:h6 Cw=M1:=by decide
section
variable {ag:Nat->Option cz}
def Mq(h:Hl ag)(aB:ag HC=some (.code y7))(base:Nat){A:ad}(ah:base<=A.length):
 ∃H',aR ag (.fn HC [] []) [] base A=some (.s (.bool true),H')/\Ext A H':=by
 obtain⟨b4,er⟩:∃b4,A++[aM.cells 0 (GG.map aA)]=b4:=⟨_,rfl⟩
 have cW:b4.length=A.length+1:=by rw[<- er,dh]
 obtain⟨dZ,ju⟩:∃dZ,b4++[aM.cells 0 (F5.map aA)]=dZ:=⟨_,rfl⟩
 have fZ:dZ.length=A.length+2:=by rw[<- ju,dh,cW]
 obtain⟨mS,yj⟩:∃mS,dZ++[aM.cells 0 (FA.map aA)]=mS:=⟨_,rfl⟩
 have qM:mS.length=A.length+3:=by rw[<- yj,dh,fZ]
 obtain⟨q9,vl⟩:∃q9,mS++[aM.cells 0 (bg A7 (.aZ (A.length+1) 0 0 2 1) (.aZ (A.length+2) 0 0 2 1))]=q9:=⟨_,rfl⟩
 have iM:q9.length=A.length+4:=by rw[<- vl,dh,qM]
 obtain⟨qb,xw⟩:∃qb,q9++[aM.cells 0 [aA ⟨#[97]⟩,.aZ (A.length+3) 0 0 1 8]]=qb:=⟨_,rfl⟩
 have T4:qb.length=A.length+5:=by rw[<- xw,dh,iM]
 obtain⟨pU,NA⟩:∃pU,qb++[aM.cells 0 [aA ⟨#[102]⟩,.aZ A.length 0 0 2 1,.aZ (A.length+4) 0 0 1 2]]=pU:=⟨_,rfl⟩;have aE:Ext A b4:=er▸Ext.app _ _;have aU:Ext b4 dZ:=ju▸Ext.app _ _;have cd:Ext dZ mS:=yj▸Ext.app _ _;have fG:Ext mS q9:=vl▸Ext.app _ _;have l6:Ext q9 qb:=xw▸Ext.app _ _;have A6:Ext qb pU:=NA▸Ext.app _ _;have g1:au pU A.length 0=some (GG.map aA):=b7 (er▸cQ A 0 _) (aU.trans (cd.trans (fG.trans (l6.trans A6))))
 have g2:au pU (A.length+1) 0=some (F5.map aA):=b7 (by rw[<- cW,<- ju];exact cQ b4 0 _) (cd.trans (fG.trans (l6.trans A6)))
 have g3:au pU (A.length+2) 0=some (FA.map aA):=b7 (by rw[<- fZ,<- yj];exact cQ dZ 0 _) (fG.trans (l6.trans A6))
 have g4:au pU (A.length+3) 0=some (bg A7 (.aZ (A.length+1) 0 0 2 1) (.aZ (A.length+2) 0 0 2 1)):=b7 (by rw[<- qM,<- vl];exact cQ mS 0 _) (l6.trans A6)
 have g5:au pU (A.length+4) 0=some [aA ⟨#[97]⟩,.aZ (A.length+3) 0 0 1 8]:=b7 (by rw[<- iM,<- xw];exact cQ q9 0 _) A6
 have g6:au pU (A.length+5) 0=some [aA ⟨#[102]⟩,.aZ A.length 0 0 2 1,.aZ (A.length+4) 0 0 1 2]:=by rw[<- T4,<- NA];exact cQ qb 0 _
 have bP:Rd pU (.aZ A.length 0 0 2 1) (GG.map aA):=Rd.aZ g1 (off:=0) (n:=2) (by simp[GG])
 have ca:Rd pU (.aZ (A.length+1) 0 0 2 1) (F5.map aA):=Rd.aZ g2 (off:=0) (n:=2) (by simp[F5])
 have dw:Rd pU (.aZ (A.length+2) 0 0 2 1) (FA.map aA):=Rd.aZ g3 (off:=0) (n:=2) (by simp[FA])
 have kM:fb 8 fc pU (.aZ (A.length+3) 0 0 1 8) [A7]:=
  ⟨[bg A7 (.aZ (A.length+1) 0 0 2 1) (.aZ (A.length+2) 0 0 2 1)],lJ.aZ (R:=[bg A7 (.aZ (A.length+1) 0 0 2 1) (.aZ (A.length+2) 0 0 2 1)]) (by rw[g4];rfl) (fun r ak=>by rw[eQ.1 ak];rfl),rfl,by decide,fun i x af=>by
   cases i with
   |zero=>cases af;exact⟨_,rfl,_,_,rfl,ca,trivial,dw,trivial,by decide⟩
   |succ i=>simp at af⟩
 have aD:fb 2 lx pU (.aZ (A.length+4) 0 0 1 2) [⟨⟨#[97]⟩,[A7]⟩]:=
  ⟨[[aA ⟨#[97]⟩,.aZ (A.length+3) 0 0 1 8]],lJ.aZ (R:=[[aA ⟨#[97]⟩,.aZ (A.length+3) 0 0 1 8]]) (by rw[g5];rfl) (fun r ak=>by rw[eQ.1 ak];rfl),rfl,by decide,fun i x af=>by
   cases i with
   |zero=>cases af;exact⟨_,rfl,_,rfl,kM⟩
   |succ i=>simp at af⟩
 have aC:iF pU (.aZ (A.length+5) 0 0 1 3) Cw:=
  ⟨[[aA ⟨#[102]⟩,.aZ A.length 0 0 2 1,.aZ (A.length+4) 0 0 1 2]],lJ.aZ (R:=[[aA ⟨#[102]⟩,.aZ A.length 0 0 2 1,.aZ (A.length+4) 0 0 1 2]]) (by rw[g6];rfl) (fun r ak=>by rw[eQ.1 ak];rfl),rfl,by decide,fun i x af=>by
   cases i with
   |zero=>cases af;exact⟨_,rfl,_,_,rfl,bP,trivial,by decide,aD⟩
   |succ i=>exact absurd af (by simp[Cw])⟩
 have PA:Ext A pU:=aE.trans (aU.trans (cd.trans (fG.trans (l6.trans A6))))
 obtain⟨H',ab,bp⟩:=XW h base (A:=pU) (by have:=PA.le;omega) aC aEf aGw aDY aEv (by rw[atF];decide)
 rw[atF,bV (by decide)]at ab
 refine⟨H',gR (c:=y7) aB (by simp[y7]) ?_,PA.trans bp⟩
 simp only[aA,U]at ab;simp only[bg,A7,aA,U,cm,GG,F5,FA,dW,hC]at er ju yj vl xw NA
 have bJ:(M1.toArray.toList==M1)=true:=by decide
 simp only[M1]at ab bJ;simp only[U,simprocAttr,aA,ar,cm,y7,aLA,aG,er,cW,ju,fZ,yj,qM,vl,iM,xw,T4,NA,ab,bJ]
end
abbrev aib:Nat:=6
def BW:=[0]++List.range' 3 108
def Mp:=[bws 4 dd]
def QX:=[q 2 (.box (.t 0))]
def apf:=QX++Mp
def GN:=[0]++List.range' 3 108
def aLy(call:c5)(it:hE)(base:Nat)(f:List V)(H:ad):aL call it base (.region apf [] BW) f H=nZ call it base (.region Mp [] BW) (oH [] QX GN (cI call base [⟨some 2,.box (.t 0),none⟩] f H)):=(xu call it base QX Mp (kc:=GN) (by kernel_rfl) f H).trans (by rw[vK];rfl)
def ax1:=[aw 22 21,ew 23 1 22 false,bD 24 (.da .p (.t 23)) 22 false,bD 25 (.bin .gtr (.t 24) (cc 1500)) 22 false,dF 26 (.t 22) bwd (.t 25)]
def ae9:=cL 21 7 [.t 20]::ax1
def azb:=[q 20 (.load true 1 (.t 2))]
def aaz:=azb++ae9
def ah4:=[aw 4 27]
def ahQ:=cL 27 8 []::ah4
def amG:=[aw 28 30,iD 31 28 0,iD 32 28 1,aw 5 31,aw 6 32]
def aeG:=cL 30 10 [.t 29]::amG
def aK6:=[q 29 (.load true 1 (.t 2))]
def aak:=aK6++aeG
def atV:=[aw 33 6,q 34 (.bin .eql (.t 33) (cc 0))]
def avO:=[aw 9 40]
def avw:=dO 2 8 39::avO
def aiJ:=dO 1 7 38::avw
def avL:=q 8 (.alloc [c9,c9])::aiJ
def aiu:=q 7 (.alloc [e9])::avL
def aQo:=[aw 35 37,iD 38 35 0,iD 39 35 1,iD 40 35 2]
def atn:=aQo++aiu
def aj8:=cL 37 14 [.t 36]::atn
def ayJ:=[aw 36 5]
def afu:=ayJ++aj8
def Y3:=[aw 41 43,iD 44 41 0,iD 45 41 1,aw 10 44,aw 11 45]
def aeM:=cL 43 10 [.t 42]::Y3
def aGZ:=[q 42 (.load true 1 (.t 7))]
def aiD:=aGZ++aeM
def amv:=[bD 57 (.un .not (.t 56)) 53 false,dF 58 (.t 53) bwd (.t 57),aw 59 58,ew 60 11 59 false,bD 61 (.bin .neq (.t 60) (cc 0)) 59 false,dF 62 (.t 59) bwd (.t 61),aw 63 62,ew 64 10 63 false,ew 65 5 63 false,bD 66 (.bin .neq (.t 64) (.t 65)) 63 false,dF 67 (.t 63) bwd (.t 66)]
def avJ:=bD 56 (.call (.c (.fn 12 [] [])) [.t 54,.t 55]) 53 false::amv
def avs:=bD 55 (.load true 1 (.t 7)) 53 false::avJ
def amP:=bD 54 (.load true 1 (.t 2)) 53 false::avs
def aFH:=[aw 46 9,q 47 (.bin .neq (.t 46) (cc 0)),aw 48 47,bD 49 (.load true 2 (.t 8)) 48 false,bD 50 (.build [c9,c9] [(0,1),(1,1)] []) 48 false,bD 51 (.s8 true [.int .i64,.int .i64] (.t 49) (.t 50)) 48 false,dF 52 (.t 48) bwd (.t 51),aw 53 52]
def alE:=aFH++amP
def avg:=[bws 4 dd]
def acn:=[aw 68 5,q 69 (.bin .neq (.t 68) (cM #[]))]
def YB:=[bws 4 dd]
def acY:=[aw 14 75]
def aao:=dO 2 13 74::acY
def abZ:=dO 1 12 73::aao
def aaR:=q 13 (.alloc [c9,c9])::abZ
def apN:=q 12 (.alloc [e9])::aaR
def aEM:=[aw 70 72,iD 73 70 0,iD 74 70 1,iD 75 70 2]
def abN:=aEM++apN
def agf:=cL 72 14 [.t 71]::abN
def aP9:=[aw 71 1]
def axI:=aP9++agf
def awX:=[aw 76 14,q 77 (.bin .neq (.t 76) (cc 0))]
def aii:=[aw 4 78]
def aqv:=cL 78 8 []::aii
def alp:=[aw 79 81,iD 82 79 0,iD 83 79 1,aw 15 82,aw 16 83]
def ax8:=cL 81 10 [.t 80]::alp
def aI6:=[q 80 (.load true 1 (.t 12))]
def akO:=aI6++ax8
def auo:=[aw 84 16,q 85 (.bin .neq (.t 84) (cc 0))]
def aog:=[dF 94 (.t 92) (.t 93) dd,aw 4 94]
def ajl:=bD 93 (.call (.c (.fn 8 [] [])) []) 92 true::aog
def aAI:=[aw 86 16,q 87 (.bin .eql (.t 86) (cc 5)),aw 88 87,ew 89 15 88 true,bD 90 (.bin .eql (.t 89) (cM #[])) 88 true,dF 91 (.t 88) (.t 90) dd,aw 92 91]
def ar2:=aAI++ajl
def Yy:=[aw 19 100]
def acI:=dO 2 18 99::Yy
def am5:=dO 1 17 98::acI
def aoO:=q 18 (.alloc [c9,c9])::am5
def aum:=q 17 (.alloc [e9])::aoO
def aHw:=[aw 95 97,iD 98 95 0,iD 99 95 1,iD 100 95 2]
def Y6:=aHw++aum
def aqB:=cL 97 14 [.t 96]::Y6
def aDv:=[aw 96 15]
def at2:=aDv++aqB
def afm:=[dF 110 (.t 108) (.t 109) dd,aw 4 110]
def agT:=bD 109 (.call (.c (.fn 8 [] [])) []) 108 true::afm
def aEi:=[dF 107 (.t 103) (.t 106) dd,aw 108 107]
def ajs:=aEi++agT
def aoH:=bD 106 (.call (.c (.fn 12 [] [])) [.t 104,.t 105]) 103 true::ajs
def akY:=bD 105 (.load true 1 (.t 17)) 103 true::aoH
def ai6:=bD 104 (.load true 1 (.t 12)) 103 true::akY
def aQR:=[aw 101 19,q 102 (.bin .eql (.t 101) (cc 0)),aw 103 102]
def akX:=aQR++ai6
def m':dm:={ ntmps:=111,results:=[.tmp 4],body:=
 (.seq (.region apf [] BW)
 (.seq (.seq (.region aaz [] [20,21,22,23,24,25])
 (.cond (.t 26)
 (.seq (.region ahQ [] [1,2,26,27])
 .ret)
 .skip))
 (.seq (.region aak [] [26,28,29,30,31,32])
 (.seq (.seq (.bh atV [6,33] [34])
 (.cond (.t 34)
 (.seq (.region afu [] [34,35,36,37,38,39,40])
 (.seq (.region aiD [] [41,42,43,44,45])
 (.seq (.region alE [] [2,5,7,8,9,10,11,46,47,48,49,50,51,52,53,54,55,56,57,58,59,60,61,62,63,64,65,66])
 (.cond (.t 67)
 (.seq (.bh avg [1,67] [4])
 .ret)
 .skip))))
 (.seq (.bh acn [2,5,34,68] [69])
 (.cond (.t 69)
 (.seq (.bh YB [1,69] [4])
 .ret)
 .skip))))
 (.seq (.region axI [] [1,13,67,69,70,71,72,73,74,75])
 (.seq (.seq (.bh awX [14,76] [77])
 (.cond (.t 77)
 (.seq (.region aqv [] [12,77,78])
 .ret)
 .skip))
 (.seq (.region akO [] [77,79,80,81,82,83])
 (.seq (.seq (.bh auo [84] [85])
 (.cond (.t 85)
 (.seq (.region ar2 [] [12,15,16,85,86,87,88,89,90,91,92,93,94])
 .ret)
 .skip))
 (.seq (.region at2 [] [15,16,18,85,95,96,97,98,99,100])
 (.seq (.region akX [] [12,17,19,101,102,103,104,105,106,107,108,109,110])
 .ret)))))))))) }
theorem De:eL (List.range' 2 (m'.ntmps-2)) m'.body=true:=by kernel_rfl
def D9:=I (a6 GN 0) (I (bk GN 1) (I (bk GN 2) (I (a6 GN 4) (I aLy (I (cA Mp BW [] 5 [] [] [.cb (.s (.bool false))]) (I (a6 BW 0) (I (bk BW 1) (I (bk BW 2) (I (a6 BW 4) (I (bb aaz [] [20] [20,21,22,23,24,25] 21 [] [(20,gZ 1 (.t 2))] [az]) (I (aC ae9 [20] [20,21,22,23,24,25]) (I (cA ax1 [20,21,22,23,24,25] [26] 27 [] [(26,.pick (.t 21) (.c (.s (.bool true))) (fY .gtr 1500 (.op (.da .p (.t 0)) [.t 1])))] [.aS 21,.sub 0 [2,0,0] [22],.sub 0 [2,0] [22],.sub 0 [2] [22],az]) (I (aC ahQ [1,2,26] [1,2,26,27]) (I (cA ah4 [1,2,26,27] [4] 5 [] [(4,.t 27)] [.aS 27]) (I (bb aak [26] [29] [26,28,29,30,31,32] 30 [] [(29,gZ 1 (.t 2))] [az]) (I (aC aeG [29] [26,28,29,30,31,32]) (I (cA amG [26,28,29,30,31,32] [5,6] 33 [] [(5,iH 0 (.t 30)),(6,iH 1 (.t 30))] [.aS 30,az,eE,az,eE]) (I (aB atV [6,33] [34] 35 [] [(34,fY .eql 0 (.t 6))] [.aS 6,az]) (I (bb afu [34] [36] CS 37 [] [(36,.t 5)] [.aS 5]) (I (aC aj8 [36] CS) (I (bb atn [35,37] I6 CS 41 [] [(38,iH 0 (.t 37)),(39,iH 1 (.t 37)),(40,iH 2 (.t 37))] [.aS 37,az,eE,Ae]) (I (aC aiu [] CS) (I (aC avL [] CS) (I (aC aiJ [38] CS) (I (aC avw [39] CS) (I (cA avO [34,35,36,37,38,39,40] [9] 10 [] [(9,.t 40)] [.aS 40]) (I (bb aiD [] [42] [41,42,43,44,45] 43 [] [(42,gZ 1 (.t 7))] [az]) (I (aC aeM [42] [41,42,43,44,45]) (I (cA Y3 [41,42,43,44,45] [10,11] 46 [] [(10,iH 0 (.t 43)),(11,iH 1 (.t 43))] [.aS 43,az,eE,az,eE]) (I (bb alE [8,9,46,47,48,49,50,51,52] [53] Qb 54 [] [(53,.pick (fY .neq 0 (.t 9)) (.c (.s (.bool true))) (.op (.s8 true [.int .i64,.int .i64] (.t 0) (.t 1)) [gZ 2 (.t 8),.op (.build [.s (.int .i64 0),.s (.int .i64 0)] [(0,1),(1,1)] []) []]))] [.aS 9,bT,bT,.sub 0 [2,0] [48],.sub 0 [2,1] [48],.sub 0 [2] [48],az,az]) (I (aC amP [2] Qb) (I (aC avs [7] Qb) (I (aC avJ [54,55] Qb) (I (cA amv [2,5,7,8,9,10,11,46,47,48,49,50,51,52,53,54,55,56,57,58,59,60,61,62,63,64,65,66] [67] 68 [] [(67,.pick (.pick (.pick (.t 53) gA (kO (.t 56))) gA (fY .neq 0 (.t 11))) gA (fj .neq (.t 10) (.t 5)))] [.sub 0 [0,0,2] [53],dx,dx,.sub 0 [0,2,0] [59],.sub 0 [0,2] [59],bT,bT,.sub 0 [2,0] [63],.sub 0 [2,1] [63],.sub 0 [2] [63],az]) (I (aB avg [1,67] [4] 5 [] [(4,gV)] [.cb (.s (.bool false))]) (I (aB acn [2,5,34,68] [69] 70 [] [(69,.op (.bin .neq (.t 0) (.c (.s (.string ⟨#[]⟩)))) [.t 5,.c (.s (.string ⟨#[]⟩))])] [.aS 5,az]) (I (aB YB [1,69] [4] 5 [] [(4,gV)] [.cb (.s (.bool false))]) (I (bb axI [1,67,69] [71] DE 72 [] [(71,.t 1)] [.aS 1]) (I (aC agf [71] DE) (I (bb abN [70,72] [73,74,75] DE 76 [] [(73,iH 0 (.t 72)),(74,iH 1 (.t 72)),(75,iH 2 (.t 72))] [.aS 72,az,eE,Ae]) (I (aC apN [] DE) (I (aC aaR [] DE) (I (aC abZ [73] DE) (I (aC aao [13,74] DE) (I (cA acY [1,13,67,69,70,71,72,73,74,75] [14] 15 [] [(14,.t 75)] [.aS 75]) (I (aB awX [14,76] [77] 78 [] [(77,fY .neq 0 (.t 14))] [.aS 14,az]) (I (aC aqv [12,77] [12,77,78]) (I (cA aii [12,77,78] [4] 5 [] [(4,.t 78)] [.aS 78]) (I (bb akO [77] [80] [77,79,80,81,82,83] 81 [] [(80,gZ 1 (.t 12))] [az]) (I (aC ax8 [80] [77,79,80,81,82,83]) (I (cA alp [77,79,80,81,82,83] [15,16] 84 [] [(15,iH 0 (.t 81)),(16,iH 1 (.t 81))] [.aS 81,az,eE,az,eE]) (I (aB auo [84] [85] 86 [] [(85,fY .neq 0 (.t 16))] [.aS 16,az]) (I (bb ar2 [12,15,16,85,86,87,88,89,90,91] [92] ar1 93 [] [(92,.pick (fY .eql 5 (.t 16)) (.op (.bin .eql (.t 0) (.c (.s (.string ⟨#[]⟩)))) [.t 15,.c (.s (.string ⟨#[]⟩))]) (.c (.s (.bool false))))] [.aS 16,bT,bT,.sub 0 [1,0] [88],.sub 0 [1] [88],az,az]) (I (aC ajl [] ar1) (I (cA aog [12,15,16,85,86,87,88,89,90,91,92,93,94] [4] 95 [] [(4,.pick (.t 92) (.t 93) gV)] [az,az]) (I (bb at2 [15,16,85] [96] EB 97 [] [(96,.t 15)] [.aS 15]) (I (aC aqB [96] EB) (I (bb Y6 [95,97] [98,99,100] EB 101 [] [(98,iH 0 (.t 97)),(99,iH 1 (.t 97)),(100,iH 2 (.t 97))] [.aS 97,az,eE,Ae]) (I (aC aum [] EB) (I (aC aoO [] EB) (I (aC am5 [98] EB) (I (aC acI [18,99] EB) (I (cA Yy [15,16,18,85,95,96,97,98,99,100] [19] 20 [] [(19,.t 100)] [.aS 100]) (I (bb akX [19,101,102] [103] Fq 104 [] [(103,fY .eql 0 (.t 19))] [.aS 19,az,az]) (I (aC ai6 [12] Fq) (I (aC akY [17] Fq) (I (aC aoH [104,105] Fq) (I (bb ajs [103,106,107] [108] Fq 109 [] [(108,.pick (.t 103) (.t 106) gV)] [az,az]) (I (aC agT [] Fq) ((cA afm [12,17,19,101,102,103,104,105,106,107,108,109,110] [4] 111 [] [(4,.pick (.t 108) (.t 109) gV)] [az,az])))))))))))))))))))))))))))))))))))))))))))))))))))))))))))))))))))))))
theorem aSa:dS Tryz.prog dH 6=some (false,m'.ntmps,m'.results,m'.body.bare):=by kernel_rfl
open Go.ea gO
def EC(H:ad)(a:V)(c:aM):au (H++[.cells 0 [a]]++[c]) H.length 0=some [a]:=b7 (cQ H 0 [a]) (Ext.app _ _)
def E8(H:ad)(a b:aM)(c:aM):(H++[a]++[c]).set H.length b=H++[b]++[c]:=by
 rw[List.set_append_left _ _ (by rw[dh];omega),iI]
def Dd(H:ad)(a:aM)(c:List V):au (H++[a]++[.cells 0 c]) (H.length+1) 0=some c:=by
 have:=cQ (H++[a]) 0 c
 rwa[dh]at this
def Dh(H:ad)(a:aM)(b c:aM):(H++[a]++[b]).set (H.length+1) c=H++[a]++[c]:=by
 have:=iI (H++[a]) b c
 rwa[dh]at this
def Hn(H:ad)(a:aM):(H++[a]).length=H.length+1:=dh H a
def Ht(a b c d:Int):kX [mW.int IntKind.i64,mW.int IntKind.i64] [.s (.int .i64 a),.s (.int .i64 b)] [.s (.int .i64 c),.s (.int .i64 d)]=some (a==c&&b==d):=by
 simp only[kX,Lk,qW,eW,kw]
def I3{α:Type}{c:α->Nat}{k:Nat}:∀{l:List α},(∀x∈l,c x<=k)->(l.map c).sum<=k*l.length
 | [],_=>gY _
 |x::l,h=>by
   have J:=h x hJ;have aa:=I3 (l:=l) fun y bC=>h y (d9 _ bC);rw[dW,ti,c3,Nat.mul_succ];omega
def VM{xs:List ByteArray}(J:xs.length<=20)(aa:∀s∈xs,s.size<=200):gu xs<=4020:=by
 have:=I3 (c:=fun s:ByteArray=>s.size+1) (k:=201) (l:=xs) fun s ai=>by have:=aa s ai;omega
 unfold gu;omega
def aBK{fs:List cT}(h:A5 fs):mA fs<=10000000000:=by
 have J:mA fs<=130000000*fs.length:=I3 fun f al=>by
  obtain⟨bw,a2,a3,a4,a5⟩:=h.f f al
  have aa:po f.blocks<=1800000*f.blocks.length:=I3 fun b ah=>by
   obtain⟨fe,eI,jQ⟩:=a5 b ah
   have aI:wP b.code<=8900*b.code.length:=I3 fun x af=>by
    obtain⟨cj,cZ,hN,lV,KU,HR,I7,Jz⟩:=jQ x af;have:=VM KU I7;have:=VM HR Jz;unfold i';omega
   unfold rZ;omega
  have:=VM a2 a3;unfold gO.kV;omega
 have:=h.n;omega
def aH0{fs:List cT}(h:A5 fs)(t:∀f∈fs,yq f):∀f∈fs,A1 f:=by
 intro f al;obtain⟨bw,a2,a3,a4,a5⟩:=h.f f al
 refine⟨by omega,by omega,fun s ai=>by have:=a3 s ai;omega,fun b ah=>?_,by omega⟩
 obtain⟨fe,eI,jQ⟩:=a5 b ah
 refine⟨by omega,fun x af=>⟨?_,(((t f al).b b ah).2 x af).vo⟩,by omega⟩
 obtain⟨cj,cZ,hN,lV,KU,HR,I7,Jz⟩:=jQ x af
 exact⟨by omega,by omega,by omega,by omega,by omega,by omega,fun s ai=>by have:=I7 s ai;omega,fun s ai=>by have:=Jz s ai;omega⟩
def MT(ag:Nat->Option cz):Prop:=∀(base:Nat) (H:ad) (b:ByteArray),base<=H.length->∃v H',aR ag (.fn BG [] []) [.s (.string b)] base H=some (.bQ [.agg [v],.agg [U (kq b.data.toList).2.1.1,U (kq b.data.toList).2.1.2],U (kq b.data.toList).2.2],H')/\Ext H H'/\∀kh,(∀id,H.length<=id->id<H'.length->kh[id]?=H'[id]?)->iF kh v (kq b.data.toList).1
structure Om (ag:Nat->Option cz):Prop where
 P:Hl ag
 Q:MT ag
 S:Gk ag
 OA:ag HC=some (.code y7)
 aQr:ag CB=some (.code sy)
 aDr:ag Uf=some (.code sn)
section
variable {ag:Nat->Option cz}
def asm(aC:MT ag)(base:Nat){H:ad}(ah:base<=H.length)(b:ByteArray){p:List cT × (Nat × Nat) × Nat}(ay:kq b.data.toList=p):∃v H1 bH,aR ag (.fn BG [] []) [.s (.string b)] base H=some (.bQ [.agg [v],.agg [.s (.int .i64 p.2.1.1),.s (.int .i64 p.2.1.2)],.s (.int .i64 p.2.2)],H1)/\
 H1++[aM.cells 0 [v]]++[aM.cells 0 [.s (.int .i64 p.2.1.1),.s (.int .i64 p.2.1.2)]]=bH/\Ext H bH/\base<=H1.length/\base<=H1.length+1/\base<=bH.length/\v.one=true/\iF bH v p.1/\au bH H1.length 0=some [v]/\au bH (H1.length+1) 0=some [.s (.int .i64 p.2.1.1),.s (.int .i64 p.2.1.2)]:=by
 obtain⟨v,H1,J,aE,aI⟩:=aC base H b ah;rw[ay]at J aI;have ak:=aI H1 fun _ _ _=>rfl;obtain⟨bH,k8⟩:∃X,H1++[aM.cells 0 [v]]++[aM.cells 0 [.s (.int .i64 p.2.1.1),.s (.int .i64 p.2.1.2)]]=X:=⟨_,rfl⟩;have aU:Ext H1 bH:=k8▸(Ext.app _ _).trans (Ext.app _ _);have aq:=aE.le;have gS:=aU.le
 exact⟨v,H1,bH,J,k8,aE.trans aU,by omega,by omega,by omega,ak.one,ak.ext aU,k8▸EC _ _ _,k8▸Dd _ _ _⟩
def avY(h:Hl ag){fs:List cT}(an:mA fs<=4000\/A5 fs):
 (∃n:Int,(n=2/\¬mA fs<=4000\/n=5)/\∀(base:Nat) (A:ad) (cr:V),base<=A.length->iF A cr fs->∃H',aR ag (.fn vX [] []) [.agg [cr]] base A=some (.bQ [aA ⟨#[]⟩,U n],H')/\Ext A H')\/
 (kq (h6 fs)=(fs,(0,0),0)/\∀(base:Nat) (A:ad) (cr:V),base<=A.length->iF A cr fs->∃H',aR ag (.fn vX [] []) [.agg [cr]] base A=some (.bQ [aA ⟨(h6 fs).toArray⟩,U 0],H')/\Ext A H'):=by
 have ai:Small fs:=an.elim aaL A5.small;by_cases rv:(mY fs 2).isSome=true\/(mY fs 9).isSome=true
 .exact .inl ⟨5,.inr rfl,fun base A cr ah ak=>aDy h base ah ak ai rv⟩
 .have aa:mY fs 2=none:=by
   cases e:mY fs 2 with
   |none=>rfl
   |some t=>exact absurd (.inl (by rw[e];rfl)) rv
  have oz:mY fs 9=none:=by
   cases e:mY fs 9 with
   |none=>rfl
   |some t=>exact absurd (.inr (by rw[e];rfl)) rv
  have Mn:=yq.of aa oz;have aq:=aSu Mn
  have kn:(∀f∈fs,A1 f)/\(h6 fs).length<=140737488355328:=by
   rcases an with an|an
   .exact⟨aMe Mn an,by omega⟩
   .exact⟨aH0 an Mn,jn aq (by have:=aBK an;omega)⟩
  by_cases IT:1048576<(h6 fs).length
  .exact .inl ⟨2,.inl ⟨rfl,by omega⟩,fun base A cr ah ak=>by
    have:=XW h base ah ak ai aa oz kn.1 kn.2
    rwa[bE IT]at this⟩
  .exact .inr ⟨aDO Mn (by omega),fun base A cr ah ak=>by
    have:=XW h base ah ak ai aa oz kn.1 kn.2
    rwa[bV IT]at this⟩
end
open Go.ChangeShapes Go.WideShapes Go.ChangeAt Go.RowKit Go.ea Go.Shelf gO
theorem mixed:Tryz.prog.follows .mixedOrders=true:=by kernel_rfl
def aU4{q8:fA}:iP Tryz.prog q8 69 (.hP HF):=
 aT5 (Go.Proofs.enters_of Tryz.func69 (by kernel_rfl) rfl) (fun s p w h=>Any.strings_TrimSuffix Tryz.aSJ s p w h)
def acQ{q8:fA}:iP Tryz.prog q8 79 (.hP Fu):=aBC (Go.Proofs.enters_of Tryz.func79 (by kernel_rfl) rfl) (fun s c w=>Any.strings_IndexByte Tryz.aVl s c w)
def akT{q8:fA}:iP Tryz.prog q8 85 (.hP Cs):=aWr (t:=Tryz.apW.t 5) (Go.Proofs.enters_of Tryz.func85 (by kernel_rfl) rfl) (fun s n J aa w=>Any.strconv_Atoi Tryz.aMp s n J aa w)
def oF:Nat->Option cz
 |30=>some (.code qY)
 |32=>some (.code rT)
 |34=>some (.code pF)
 |77=>some (.code Aq)
 |78=>some (.code xo)
 |79=>some (.hP Fu)
 |80=>some (.code Af)
 |81=>some (.code Ac)
 |82=>some (.code zC)
 |83=>some (.code zi)
 |84=>some (.code Al)
 |85=>some (.hP Cs)
 |86=>some (.code yn)
 |87=>some (.code r2)
 |88=>some (.code wx)
 |89=>some (.code tJ)
 |90=>some (.code oU)
 |91=>some (.code qi)
 |130=>some (.code wk)
 |131=>some (.code q3)
 |132=>some (.code tk)
 |133=>some (.code Ay)
 |134=>some (.code zZ)
 |156=>some (.code qZ)
 |157=>some (.code te)
 |158=>some (.code tT)
 |159=>some (.code q5)
 |160=>some (.code wv)
 |161=>some (.code tO)
 |162=>some (.code vB)
 |163=>some (.code Ek)
 |164=>some (.code vw)
 |165=>some (.code vg)
 |166=>some (.code sI)
 |167=>some (.code rC)
 |_=>none
def aUu:∀k c,oF k=some c->iP Tryz.prog (nJ (fun _=>none)) k c:=by
 intro k c h;unfold oF at h;split at h
 .cases h;exact dM (fun _=>none) aWn
 .cases h;exact dM (fun _=>none) aGb
 .cases h;exact dM (fun _=>none) aVj
 .cases h;exact dM (fun _=>none) aHA
 .cases h;exact dM (fun _=>none) aDq
 .cases h;exact acQ
 .cases h;exact dM (fun _=>none) aRJ
 .cases h;exact dM (fun _=>none) aHJ
 .cases h;exact dM (fun _=>none) aEd
 .cases h;exact dM (fun _=>none) aR1
 .cases h;exact dM (fun _=>none) aVF
 .cases h;exact akT
 .cases h;exact dM (fun _=>none) aMg
 .cases h;exact dM (fun _=>none) aRK
 .cases h;exact dM (fun _=>none) aAF
 .cases h;exact dM (fun _=>none) aMD
 .cases h;exact dM (fun _=>none) aQq
 .cases h;exact dM (fun _=>none) aAl
 .cases h;exact dM (fun _=>none) aLm
 .cases h;exact dM (fun _=>none) aHF
 .cases h;exact dM (fun _=>none) aLg
 .cases h;exact dM (fun _=>none) aFY
 .cases h;exact dM (fun _=>none) aTV
 .cases h;exact dM (fun _=>none) aFk
 .cases h;exact dM (fun _=>none) aHn
 .cases h;exact dM (fun _=>none) az0
 .cases h;exact dM (fun _=>none) aMW
 .cases h;exact dM (fun _=>none) aV5
 .cases h;exact dM (fun _=>none) aOt
 .cases h;exact dM (fun _=>none) aNk
 .cases h;exact dM (fun _=>none) aU5
 .cases h;exact dM (fun _=>none) aLY
 .cases h;exact dM (fun _=>none) aCd
 .cases h;exact dM (fun _=>none) aUJ
 .cases h;exact dM (fun _=>none) aQE
 .cases h
def aDT:uh oF:=⟨rfl,rfl,rfl,rfl,rfl,rfl,rfl,rfl,rfl⟩
theorem aWW:vR oF:=by constructor<;>rfl
theorem aCp:pB oF:=by constructor<;>first|exact aWW|rfl
theorem ayX:H4 oF:=by constructor<;>first|exact aCp|rfl
theorem aWq:AJ oF:=by constructor<;>first|exact ayX|rfl
def aKY:iP Tryz.prog (nJ (fun _=>none)) 14 (.hP (AQ oF)):=aTJ mixed aUu aFD
def aQn{ag:Nat->Option cz}(aB:ag BG=some (.hP (AQ oF))):MT ag:=fun base _ b ah=>aM4 aB aWq rfl aDT base ah b
def aBV(os:Os)(args:Array Value):laidMetH Tryz.prog Rows.showBackRow.laid ((World.doorLaid Tryz.prog 400 os).forCall (fun _ _=>0) ⟨#[],args,[]⟩).memory:=by
 rw[MakeChecks.laidMetH_plain _ _ _ (by kernel_rfl)]
 exact laidMet_of_run' 8 (by kernel_rfl) (by kernel_rfl)
open Go.ea gO
section
variable {ag:Nat->Option cz}
structure Boxed (ag:Nat->Option cz) (base:Nat) (H:ad) (b:ByteArray) (fs:List cT) (v:V) (H1 bH:ad):Prop where
 e:aR ag (.fn BG [] []) [.s (.string b)] base H=some (.bQ [.agg [v],.agg [.s (.int .i64 0),.s (.int .i64 0)],.s (.int .i64 0)],H1)
 h:H1++[aM.cells 0 [v]]++[aM.cells 0 [.s (.int .i64 0),.s (.int .i64 0)]]=bH
 x:Ext H bH
 e0:base<=H1.length
 fe:base<=H1.length+1
 eI:base<=bH.length
 o:v.one=true
 r:iF bH v fs
 g:au bH H1.length 0=some [v]
 g1:au bH (H1.length+1) 0=some [.s (.int .i64 0),.s (.int .i64 0)]
 s:bH.set (H1.length+1) (.cells 0 [.s (.int .i64 0),.s (.int .i64 0)])=bH
def boxed(aC:MT ag)(base:Nat){H:ad}(ah:base<=H.length)(b:ByteArray){fs:List cT}(ay:kq b.data.toList=(fs,(0,0),0)):∃v H1 bH,Boxed ag base H b fs v H1 bH:=by
 obtain⟨v,H1,bH,bw,a2,a3,a4,a5,ka,I9,R9,a9,aSI⟩:=asm aC base ah b ay
 exact⟨v,H1,bH,bw,a2,a3,a4,a5,ka,I9,R9,a9,aSI,by rw[<- a2];exact Dh _ _ _ _⟩
def aLu(h:Om ag)(base:Nat){A:ad}(ah:base<=A.length){cr:V}{fs:List cT}(ak:iF A cr fs)(cU:A5 fs):
 (∃(n:Int) (H:ad),(n==0)=false/\aR ag (.fn vX [] []) [.agg [cr]] base A=some (.bQ [aA ⟨#[]⟩,U n],H)/\Ext A H)\/
 ∃(t:ByteArray) (H:ad) (v:V) (H1 bH cV gv:ad),aR ag (.fn vX [] []) [.agg [cr]] base A=some (.bQ [aA t,U 0],H)/\Boxed ag base H t fs v H1 bH/\aR ag (.fn vX [] []) [.agg [v]] base bH=some (.bQ [aA t,U 0],cV)/\aR ag (.fn OY [] []) [.agg [cr],.agg [v]] base cV=some (ar true,gv)/\Ext A bH/\Ext bH cV/\Ext cV gv:=by
 rcases avY h.P (.inr cU)with⟨n,aJ,k⟩|⟨ay,k⟩
 .obtain⟨H,e,dX⟩:=k base A cr ah ak
  exact .inl ⟨n,H,by rcases aJ with⟨rfl,_⟩|rfl<;>rfl,e,dX⟩
 .right;obtain⟨H,e,dX⟩:=k base A cr ah ak;have aq:=dX.le
  obtain⟨v,H1,bH,B⟩:=boxed h.Q base (H:=H) (by omega) ⟨(h6 fs).toArray⟩ (fs:=fs) ay
  have eI:=B.eI;obtain⟨cV,cd,gy⟩:=k base bH v eI B.r;have at4:=gy.le
  obtain⟨gv,fG,ov⟩:=zv h.S base (A:=cV) (by omega) (ak.ext (dX.trans (B.x.trans gy))) (B.r.ext gy) cU.small
  exact⟨_,H,v,H1,bH,cV,gv,e,B,cd,fG,dX.trans B.x,gy,ov⟩
def alc(h:Om ag)(base:Nat){A:ad}(ah:base<=A.length)(a:ByteArray)(aO:a.size<=1500):
 ∃(p:List cT × (Nat × Nat) × Nat) (v:V) (H1 bH:ad),aR ag (.fn BG [] []) [.s (.string a)] base A=some (.bQ [.agg [v],.agg [.s (.int .i64 p.2.1.1),.s (.int .i64 p.2.1.2)],.s (.int .i64 p.2.2)],H1)/\H1++[aM.cells 0 [v]]++[aM.cells 0 [.s (.int .i64 p.2.1.1),.s (.int .i64 p.2.1.2)]]=bH/\base<=H1.length/\base<=H1.length+1/\v.one=true/\au bH H1.length 0=some [v]/\
 (((((p.2.2:Nat):Int) != 0)=true/\∃cV,aR ag (.fn HC [] []) [] base bH=some (.s (.bool true),cV))\/
 ((((p.2.2:Nat):Int) != 0)=false/\∃cV,aR ag (.fn vX [] []) [.agg [v]] base bH=some (.bQ [aA ⟨#[]⟩,U 5],cV)/\∃gv,aR ag (.fn HC [] []) [] base cV=some (.s (.bool true),gv))\/
 ((((p.2.2:Nat):Int) != 0)=false/\∃(t:ByteArray) (cV:ad) (w:V) (bX bU S T:ad),aR ag (.fn vX [] []) [.agg [v]] base bH=some (.bQ [aA t,U 0],cV)/\Boxed ag base cV t p.1 w bX bU/\au bU H1.length 0=some [v]/\aR ag (.fn OY [] []) [.agg [v],.agg [w]] base bU=some (ar true,S)/\aR ag (.fn HC [] []) [] base S=some (.s (.bool true),T))):=by
 obtain⟨p,ay⟩:∃x,kq a.data.toList=x:=⟨_,rfl⟩;obtain⟨v,H1,bH,bj,aT,a1,cB,gj,hA,nN,La,adz,aXp⟩:=asm h.Q base ah a ay;refine⟨p,v,H1,bH,bj,aT,cB,gj,nN,adz,?_⟩;by_cases bd:p.2.2=0
 .have an:mA p.1<=4000:=by
   have:=(aRo (l:=a.data.toList) aO (by rw[ay];exact bd)).1
   rw[ay]at this;omega
  have bK:((((p.2.2:Nat):Int) != 0)=false):=by rw[bd];rfl
  rcases avY h.P (.inl an)with⟨n,aJ,k⟩|⟨aBq,k⟩
  .obtain rfl:n=5:=by
    rcases aJ with⟨_,aJ⟩|aJ
    .exact absurd an aJ
    .exact aJ
   obtain⟨cV,cd,gy⟩:=k base bH v hA La;have aq:=gy.le
   obtain⟨gv,fG,_⟩:=Mq h.P h.OA base (A:=cV) (by omega)
   exact .inr (.inl ⟨bK,cV,cd,gv,fG⟩)
  .obtain⟨cV,cd,gy⟩:=k base bH v hA La;have aq:=gy.le
   obtain⟨w,bX,bU,B⟩:=boxed h.Q base (H:=cV) (by omega) ⟨(h6 p.1).toArray⟩ (fs:=p.1) aBq
   obtain⟨S,fG,ov⟩:=zv h.S base (A:=bU) B.eI (La.ext (gy.trans B.x)) B.r (aaL an);have eI:=B.eI;have aYB:=ov.le
   obtain⟨T,l6,_⟩:=Mq h.P h.OA base (A:=S) (by omega)
   exact .inr (.inr ⟨bK,_,cV,w,bX,bU,S,T,cd,B,b7 adz (gy.trans B.x),fG,l6⟩)
 .obtain⟨cV,cd,_⟩:=Mq h.P h.OA base (A:=bH) hA
  exact .inl ⟨by rw[mw];omega,cV,cd⟩
end
open Go.ea gO
section
variable {ag:Nat->Option cz}
set_option maxHeartbeats 4000000 in
theorem aGD(h:Om ag)(aB:ag aib=some (.code m'))(base:Nat){A:ad}(ah:base<=A.length){cr:V}{fs:List cT}(ak:iF A cr fs)(a:ByteArray):
 ∃H',aR ag (.fn aib [] []) [.agg [cr],.s (.string a)] base A=some (.s (.bool true),H'):=by
 have n':=ak.one;obtain⟨b4,er⟩:∃b4,A++[aM.cells 0 [cr]]=b4:=⟨_,rfl⟩
 have cW:b4.length=A.length+1:=by rw[<- er,dh]
 have aE:Ext A b4:=er▸Ext.app _ _;have dX:au b4 A.length 0=some [cr]:=er▸cQ A 0 _
 have gl:∀{B:ad},Ext b4 B->fa B true 1 (.ref A.length 0 0)=some (.agg [cr]):=fun e=>by rw[h1,b7 dX e];rfl
 have xk:=gl (Ext.refl b4)
 obtain⟨b,H1,hh,rD,b8⟩:=aIw h.aQr h.aDr base (A:=b4) (by omega) (ak.ext aE)
 have eg:base<=H1.length:=by have:=rD.le;omega
 by_cases KY:b=true\/1500<a.size
 .obtain⟨bH,aY,_⟩:=Mq h.P h.OA base (A:=H1) eg
  have cg:(bif b then true else decide (((a.size:Nat):Int) > 1500))=true:=by
   cases b with
   |true=>rfl
   |false=>
     have:1500<a.size:=KY.resolve_left (by decide)
     show decide _=true;rw[l8];omega
  refine⟨bH,eF (c:=m') (k:=2) aB rfl (by decide) De ?_⟩
  simp only[U,simprocAttr,ar,m',D9,aG,n',eG,er,xk,hh,cg,aY]
 .rw[not_or]at KY
  obtain rfl:b=false:=by simpa using KY.1
  have aO:a.size<=1500:=by omega
  have cg:(bif false then true else decide (((a.size:Nat):Int) > 1500))=false:=by
   show decide _=false;rw[xz];omega
  have cU:=b8 rfl;have GI:=gl rD;have n50:((5:Int) != 0)=true:=rfl;have n55:((5:Int)==5)=true:=rfl;have G8:((0:Int)==0)=true:=rfl;have Hf:((0:Int) != 0)=false:=rfl
  have bK:((⟨#[]⟩:ByteArray).data.toList==(⟨#[]⟩:ByteArray).data.toList)=true:=by decide
  have kn:∀t:ByteArray,(t.data.toList==t.data.toList)=true:=fun t=>mu _
  rcases aLu h base eg (ak.ext (aE.trans rD)) cU with⟨n,X,aJ,k1,LW⟩|⟨t,X,v,aYK,aYq,aXZ,aP3,k1,B,k2,eN,LW,LZ,aGR⟩
  .simp only[U,aA]at k1
   obtain⟨p,v2,oh,o8,bj,aT,a1,cB,gj,hA,nN⟩:=alc h base (A:=X) (by have:=LW.le;omega) a aO
   rcases nN with⟨hg,hQ,cj⟩|⟨hg,hQ,cj,q',cZ⟩|⟨hg,u,hQ,w,bX,bU,S,T,cj,nM,cZ,hN,lV⟩
   .refine⟨hQ,eF (c:=m') (k:=2) aB rfl (by decide) De ?_⟩
    simp only[U,simprocAttr,aA,ar,m',D9,aG,n',eG,CO,er,xk,hh,cg,GI,n50,n55,G8,Hf,bK,kn,Ht,mu,kw,EC,E8,Dd,Dh,Hn,du,dB,jd,pq,qo,qW,eW,u3,nR,k1,aJ,bj,aT,a1,cB,gj,hA,hg,cj]
    try rfl
   .simp only[U,aA]at cj
    refine⟨q',eF (c:=m') (k:=2) aB rfl (by decide) De ?_⟩
    simp only[U,simprocAttr,aA,ar,m',D9,aG,n',eG,CO,er,xk,hh,cg,GI,n50,n55,G8,Hf,bK,kn,Ht,mu,kw,EC,E8,Dd,Dh,Hn,du,dB,jd,pq,qo,qW,eW,u3,nR,k1,aJ,bj,aT,a1,cB,gj,hA,hg,cj,cZ]
    try rfl
   .have Ui:=nM.e;have TS:=nM.h;have WL:=nM.e0;have Se:=nM.fe;have Ra:=nM.o;have Ur:=nM.g;have Yo:=nM.g1;have X8:=nM.s;simp only[U,aA,ar]at hN;simp only[U,aA]at cj
    refine⟨T,eF (c:=m') (k:=2) aB rfl (by decide) De ?_⟩
    simp only[U,simprocAttr,aA,ar,m',D9,aG,n',eG,CO,er,xk,hh,cg,GI,n50,n55,G8,Hf,bK,kn,Ht,mu,kw,EC,E8,Dd,Dh,Hn,du,dB,jd,pq,qo,qW,eW,u3,nR,k1,aJ,bj,aT,a1,cB,gj,hA,hg,cj,cZ,hN,lV,Ui,TS,WL,Se,Ra,Ur,Yo,X8]
    try rfl
  .have be:=B.e;have Tz:=B.h;have e0:=B.e0;have fe:=B.fe;have VE:=B.o;have XS:=b7 B.g LZ;have Si:=b7 B.g1 LZ;have X9:=B.g;have Tl:=B.g1;have bs:=B.s;have Gp:=gl (rD.trans (LW.trans LZ));simp only[U,aA,ar]at k1 k2 eN
   obtain⟨p,v2,oh,o8,bj,aT,a1,cB,gj,hA,nN⟩:=alc h base (A:=aP3) (by have:=LW.le;have:=LZ.le;have:=aGR.le;omega) a aO
   rcases nN with⟨hg,hQ,cj⟩|⟨hg,hQ,cj,q',cZ⟩|⟨hg,u,hQ,w,bX,bU,S,T,cj,nM,cZ,hN,lV⟩
   .refine⟨hQ,eF (c:=m') (k:=2) aB rfl (by decide) De ?_⟩
    simp only[U,simprocAttr,aA,ar,m',D9,aG,n',eG,CO,er,xk,hh,cg,GI,n50,n55,G8,Hf,bK,kn,Ht,mu,kw,EC,E8,Dd,Dh,Hn,du,dB,jd,pq,qo,qW,eW,u3,nR,k1,be,Tz,e0,fe,VE,XS,X9,Si,Tl,bs,Gp,k2,eN,bj,aT,a1,cB,gj,hA,hg,cj]
    try rfl
   .simp only[U,aA]at cj
    refine⟨q',eF (c:=m') (k:=2) aB rfl (by decide) De ?_⟩
    simp only[U,simprocAttr,aA,ar,m',D9,aG,n',eG,CO,er,xk,hh,cg,GI,n50,n55,G8,Hf,bK,kn,Ht,mu,kw,EC,E8,Dd,Dh,Hn,du,dB,jd,pq,qo,qW,eW,u3,nR,k1,be,Tz,e0,fe,VE,XS,X9,Si,Tl,bs,Gp,k2,eN,bj,aT,a1,cB,gj,hA,hg,cj,cZ]
    try rfl
   .have Ui:=nM.e;have TS:=nM.h;have WL:=nM.e0;have Se:=nM.fe;have Ra:=nM.o;have Ur:=nM.g;have Yo:=nM.g1;have X8:=nM.s;simp only[U,aA,ar]at hN;simp only[U,aA]at cj
    refine⟨T,eF (c:=m') (k:=2) aB rfl (by decide) De ?_⟩
    simp only[U,simprocAttr,aA,ar,m',D9,aG,n',eG,CO,er,xk,hh,cg,GI,n50,n55,G8,Hf,bK,kn,Ht,mu,kw,EC,E8,Dd,Dh,Hn,du,dB,jd,pq,qo,qW,eW,u3,nR,k1,be,Tz,e0,fe,VE,XS,X9,Si,Tl,bs,Gp,k2,eN,bj,aT,a1,cB,gj,hA,hg,cj,cZ,hN,lV,Ui,TS,WL,Se,Ra,Ur,Yo,X8]
    try rfl
end
end Go.Proofs.YtngfpadeebpoeaaGreatDoor
