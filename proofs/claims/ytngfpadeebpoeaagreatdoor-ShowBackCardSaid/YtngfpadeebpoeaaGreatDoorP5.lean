/- Texts of the proof: SbB, ShS1, ShS2, ShS3, ShoF1, ShoF5, ShnA2, ShnF1, ShnA3, ShnP1, ShnP2, ShnSh, ShnB1, ShnC1. -/
import Derived.Test.YtngfpadeebpoeaaGreatDoorP0
import Derived.Test.YtngfpadeebpoeaaGreatDoorP1
import Derived.Test.YtngfpadeebpoeaaGreatDoorP2
import Derived.Test.YtngfpadeebpoeaaGreatDoorP3
import Derived.Test.YtngfpadeebpoeaaGreatDoorP4
import Derived.KernelRfl
import Derived.Test.YtngfpadeebpoeaaGreatDoorProg
set_option linter.all false
set_option maxRecDepth 100000
namespace Go.Proofs.YtngfpadeebpoeaaGreatDoor.gO
open Go.Proofs.YtngfpadeebpoeaaGreatDoor Go.ea Go.ea.Tok
def jE(V:bt):Nat->List (gT × Bool)->Prop
 |_,[]=>True
 |a,w::l=>(V.kind a=w.1.1/\V.text a=w.1.2.1/\V.num a=w.1.2.2/\V.same a=w.2)/\jE V (a+1) l
def jE.app{V:bt}:∀{u v:List (gT × Bool)} {a:Nat},jE V a (u++v)->jE V (a+u.length) v
 | [],_,_,h=>h
 |w::u,v,a,h=>by
   have:=jE.app (u:=u) h.2
   rwa[c3,Qg u.length,<- qs]
def yH:Option Nat->List (gT × Nat)->List (gT × Bool)
 |_,[]=>[]
 |p,k::l=>(k.1,p==some k.2)::yH (some k.2) l
def adj:∀(post pre:List T),jE (bt.of (pre++post)) pre.length (yH (pre.getLast?.map T.line) (post.map XN))
 | [],_=>trivial
 |t::post,pre=>by
   have h:=adj post (pre++[t]);rw[gi,Jb,c0,jd,ZA]at h
   have e:(pre++t::post).getD pre.length ef=t:=by simp
   refine⟨⟨?_,?_,?_,?_⟩,h⟩
   .show((pre++t::post).getD pre.length ef).kind=_;rw[e];rfl
   .show((pre++t::post).getD pre.length ef).text=_;rw[e];rfl
   .show((pre++t::post).getD pre.length ef).n=_;rw[e];rfl
   .show(decide (pre.length > 0)&&((pre++t::post).getD (pre.length-1) ef).line==((pre++t::post).getD pre.length ef).line)=(pre.getLast?.map T.line==some t.line);rw[e];cases ay:pre.getLast? with
    |none=>rw[List.getLast?_eq_none_iff.1 ay];rfl
    |some u=>
      obtain⟨q,rfl⟩:=List.getLast?_eq_some_iff.1 ay
      have aU:((q++[u])++t::post).getD ((q++[u]).length-1) ef=u:=by simp
      rw[aU];simp
def K0:List gT->List (gT × Bool)
 | []=>[]
 |w::l=>(w,false)::l.map fun x=>(x,true)
def aij(bo:Nat):∀(l:List gT) (r:List (gT × Nat)),yH (some bo) (l.map (fun w=>(w,bo))++r)=l.map (fun x=>(x,true))++yH (some bo) r
 | [],_=>rfl
 |w::l,r=>by
   rw[dW,du,yH,aij bo l r];simp
def Me:gT:=(4,[],0)
def al1:∀(L:List (List dD)),(∀l∈L,h7 l≠[])->∀(bo:Nat) (p:Option Nat),(∀q,p=some q->q<bo)->yH p (KB L bo)=L.flatMap (fun l=>K0 (h7 l))++[(Me,false)]
 | [],_,bo,p,ay=>by
   have:(p==some bo)=false:=by
    rw[kp];intro e;exact Ua _ (ay bo e)
   simp[KB,yH,this,Me]
 |l::L,h,bo,p,ay=>by
   have ou:(p==some bo)=false:=by
    rw[kp];intro e;exact Ua _ (ay bo e)
   have aF:=al1 L (fun x af=>h x (d9 _ af)) (bo+1) (some bo) (fun q e=>by cases e;exact Nat.lt_succ_self _)
   rw[KB];cases e:h7 l with
   |nil=>exact absurd e (h l hJ)
   |cons w ws=>
     rw[dW,du,yH,ou,aij,aF,FZ,e,K0,du,du,gi]
def fC(V:bt){α:Type}(r:eA α)(ws:List (gT × Bool))(x:α):Prop:=∀(a:Nat) (l:List (gT × Bool)),jE V a (ws++l)->r a=.ok (x,a+ws.length)
section
variable {V:bt}
def fC.bind{α β:Type}{r:eA α}{g:α->eA β}{u v:List (gT × Bool)}{x:α}{y:β}(h:fC V r u x)(k:fC V (g x) v y):fC V (r.bind g) (u++v) y:=by
 intro a l ai;rw[gi]at ai;unfold eA.bind;rw[h a _ ai];show g x (a+u.length)=_;rw[k _ _ ai.app,c0,qs]
theorem fC.ret{α:Type}(x:α):fC V (fun a=>.ok (x,a)) [] x:=fun _ _ _=>rfl
abbrev j6(s:List UInt8):gT × Bool:=((1,s,0),true)
abbrev gC(c:UInt8):gT × Bool:=((3,[c],0),true)
abbrev aV6(t:List UInt8)(n:Nat):gT × Bool:=((2,t,n),true)
theorem anJ(b:ByteArray):kL b.data.toList=b:=rfl
theorem fC.name(b:ByteArray):fC V (eC V) [j6 b.data.toList] b:=by
 intro a l h;obtain⟨⟨J,aa,_,bl⟩,_⟩:=h;unfold eC;rw[J,bl,aa];rfl
theorem fC.size(t:List UInt8)(n:Nat):fC V (gq V) [aV6 t n] n:=by
 intro a l h;obtain⟨⟨J,_,aI,bl⟩,_⟩:=h;unfold gq;rw[J,bl,aI];rfl
def Mw{c:UInt8}{a:Nat}{l:List (gT × Bool)}(h:jE V a (gC c::l)):nY V [c] a=true:=by
 obtain⟨⟨J,aa,_,bl⟩,_⟩:=h;unfold nY;rw[J,aa,bl];simp
def V2{c:UInt8}{w:gT × Bool}{a:Nat}{l:List (gT × Bool)}(h:jE V a (w::l))(hw:w.1.1≠3\/w.1.2.1≠[c]):nY V [c] a=false:=by
 obtain⟨⟨J,aa,_,_⟩,_⟩:=h;unfold nY;rw[J,aa]
 rcases hw with h|h
 .rw[kp.2 h,IN,sK]
 .rw[kp.2 h,IN]
theorem fC.sign(c:UInt8):fC V (fO V [c]) [gC c] ():=by
 intro a l h;unfold fO;rw[bE (Mw h)];rfl
def vq(xs:List ByteArray):List (gT × Bool):=xs.flatMap fun s=>[gC 44,j6 s.data.toList]
def tG:List ByteArray->List (gT × Bool)
 | []=>[]
 |x::xs=>j6 x.data.toList::vq xs
def aps{N:Nat}:∀(xs:List ByteArray) (n:Nat) (acc:List ByteArray),acc≠[]->xs.length<n->∀(a:Nat) (l:List (gT × Bool)),jE V a (vq xs++gC 41::l)->lD V n acc a=.ok (acc++xs,a+(vq xs).length)
 | [],n+1,acc,_,_,a,l,h=>by
   rw[lD,bE (Mw h),nn];rfl
 |x::xs,n+1,acc,aO,aJ,a,l,h=>by
   have lz:jE V a ([gC 44]++([j6 x.data.toList]++(vq xs++gC 41::l))):=h;have aE:=fC.sign 44 a _ lz;have aU:=fC.name x _ _ lz.app
   have aF:=aps (N:=N) xs n (acc++[x]) (by simp) (by simpa using aJ) _ l lz.app.app
   rw[lD,V2 h (.inr (by decide)),bV (by decide),bE (List.length_pos_iff.2 aO)]
   unfold eA.bind;rw[aE];dsimp only;rw[aU];dsimp only;rw[aF];simp only[vq,FZ,c0,c3,eh,gi,Jb]
   congr 2
   omega
def azj{N:Nat}{xs:List ByteArray}{n:Nat}(aJ:xs.length<n){a:Nat}{l:List (gT × Bool)}(h:jE V a (tG xs++gC 41::l)):lD V n [] a=.ok (xs,a+(tG xs).length):=by
 obtain⟨m,rfl⟩:∃m,n=m+1:=⟨n-1,by omega⟩
 cases xs with
 |nil=>rw[lD,bE (Mw h)];rfl
 |cons x xs=>
   have lz:jE V a ([j6 x.data.toList]++(vq xs++gC 41::l)):=h;have aU:=fC.name x a _ lz
   have aF:=aps (N:=N) xs m [x] (by simp) (by simpa using aJ) _ l lz.app
   rw[lD,V2 h (.inl (show(1:Nat)≠3 by decide)),bV (by decide),bV (by simp)]
   unfold eA.bind;rw[aU];dsimp only;rw[dB,aF];simp only[tG,c3,eh,Jb]
   congr 2
   omega
def fC.list{N:Nat}{xs:List ByteArray}(aJ:xs.length<N):fC V (p' V N) (gC 40::(tG xs++[gC 41])) xs:=by
 refine fC.bind (u:=[gC 40]) (v:=tG xs++[gC 41]) (fC.sign 40) ?_;intro a l h;rw[gi]at h;unfold eA.bind;rw[azj (N:=N) aJ h];dsimp only;rw[fC.sign 41 _ _ h.app];dsimp only;rw[c0,qs]
def q7:List (ByteArray × ByteArray)->List (gT × Bool)
 | []=>[]
 |p::l=>gC 44::j6 p.1.data.toList::gC 58::j6 p.2.data.toList::q7 l
def atT:∀(l:List (ByteArray × ByteArray)) (p:ByteArray × ByteArray) (n:Nat) (ls xs:List ByteArray),l.length<n->∀(a:Nat) (r:List (gT × Bool)),jE V a (j6 p.1.data.toList::gC 58::j6 p.2.data.toList::(q7 l++gC 93::r))->qE V n ls xs a=.ok ((ls++(p::l).map (·.1),xs++(p::l).map (·.2)),a+3+(q7 l).length)
 |l,p,0,ls,xs,aJ,a,r,h=>by omega
 |l,p,n+1,ls,xs,aJ,a,r,h=>by
   have J:jE V a ([j6 p.1.data.toList]++([gC 58]++([j6 p.2.data.toList]++(q7 l++gC 93::r)))):=h;have aE:=fC.name p.1 a _ J;have aU:=fC.sign 58 _ _ J.app;have cd:=fC.name p.2 _ _ J.app.app;have bl:=J.app.app.app;rw[qE];unfold eA.bind;rw[aE];dsimp only;rw[aU];dsimp only;rw[cd];dsimp only;cases l with
   |nil=>
     rw[V2 bl (.inr (by decide)),bV (by decide)]
     simp[q7]
   |cons q l=>
     have cO:jE V _ ([gC 44]++(j6 q.1.data.toList::gC 58::j6 q.2.data.toList::(q7 l++gC 93::r))):=bl;rw[Mw bl,bE rfl,fC.sign 44 _ _ cO];dsimp only
     rw[atT l q n _ _ (by simpa using aJ) _ r cO.app]
     simp only[dW,gi,Jb,q7,c3,eh]
     congr 2
     omega
end
end Go.Proofs.YtngfpadeebpoeaaGreatDoor.gO
set_option maxRecDepth 100000
namespace Go.Proofs.YtngfpadeebpoeaaGreatDoor
open Go.ea
abbrev Uf:Nat:=7
def Dk:=[0]++List.range' 2 131
def LL:=[bws 2 dd]
def Wd:=[q 1 (.box (.t 0))]
def YQ:=Wd++LL
def J5:=[0]++List.range' 2 131
def aNc(call:c5)(it:hE)(base:Nat)(f:List V)(H:ad):aL call it base (.region YQ [] Dk) f H=nZ call it base (.region LL [] Dk) (oH [] Wd J5 (cI call base [⟨some 1,.box (.t 0),none⟩] f H)):=(xu call it base Wd LL (kc:=J5) (by kernel_rfl) f H).trans (by rw[vK];rfl)
def avm:=[bM 10 0 1,b3 11 10,q 12 (.da .s (.t 11)),q 13 (.bin .gtr (.t 12) (cc 70))]
def anr:=[bws 2 bwd]
def aqY:=[bws 3 (cc 0)]
def auw:=[bws 4 (cc 0)]
def alN:=[aw 14 4,bM 15 0 1,b3 16 15,q 17 (.da .s (.t 16)),q 18 (.bin .lss (.t 14) (.t 17))]
def axV:=[dO 3 5 25]
def amk:=q 5 (.alloc [cF,e9,e9])::axV
def aNG:=[bM 21 0 1,b3 22 21,aw 23 4,ji 24 3 22 23,q 25 (.load true 3 (.t 24))]
def aqm:=aNG++amk
def axD:=[dF 46 (.t 42) bwd (.t 45)]
def aex:=bD 45 (.call (.c (.fn 15 [] [])) [.t 44]) 42 false::axD
def awb:=dN 44 43 42 false::aex
def aiC:=dp 43 1 5 42 false::awb
def aGP:=[bM 26 0 5,b3 27 26,q 28 (.da .p (.t 27)),q 29 (.bin .gtr (.t 28) (cc 200)),aw 30 29,dp 31 1 5 30 false,dN 32 31 30 false,bD 33 (.da .s (.t 32)) 30 false,bD 34 (.bin .gtr (.t 33) (cc 20)) 30 false,dF 35 (.t 30) bwd (.t 34),aw 36 35,dp 37 2 5 36 false,dN 38 37 36 false,bD 39 (.da .s (.t 38)) 36 false,bD 40 (.bin .gtr (.t 39) (cc 70)) 36 false,dF 41 (.t 36) bwd (.t 40),aw 42 41]
def anp:=aGP++aiC
def afp:=[bws 2 bwd]
def aiy:=[bws 6 (cc 0)]
def aeh:=[aw 47 6,bM 48 2 5,b3 49 48,q 50 (.da .s (.t 49)),q 51 (.bin .lss (.t 47) (.t 50))]
def atx:=[bM 54 2 5,b3 55 54,aw 56 6,ji 57 2 55 56,bM 58 1 57,b3 59 58,aw 7 59]
def ahx:=[aw 60 7,q 61 (.da .s (.t 60)),aw 62 3,q 63 (.bin .sub (cc 200) (.t 62)),q 64 (.bin .gtr (.t 61) (.t 63)),aw 65 64,dp 66 2 5 65 false,dN 67 66 65 false,ew 68 6 65 false,bD 69 (.indexAddr 2 (.t 67) (.t 68)) 65 false,dp 70 0 69 65 false,dN 71 70 65 false,bD 72 (.da .p (.t 71)) 65 false,bD 73 (.bin .gtr (.t 72) (cc 200)) 65 false,dF 74 (.t 65) bwd (.t 73)]
def aoB:=[bws 2 bwd]
def ahH:=[aw 75 3,aw 76 7,q 77 (.da .s (.t 76)),q 78 (.bin .add (.t 75) (.t 77)),aw 3 78]
def arG:=[bws 8 (cc 0)]
def aox:=[aw 79 8,aw 80 7,q 81 (.da .s (.t 80)),q 82 (.bin .lss (.t 79) (.t 81))]
def ans:=[dO 8 9 88]
def aw4:=q 9 (.alloc [h9,cF,cF,cF,c9,cF,e9,e9])::ans
def aNA:=[aw 85 7,aw 86 8,ji 87 8 85 86,q 88 (.load true 8 (.t 87))]
def anK:=aNA++aw4
def avN:=[dF 132 (.t 128) bwd (.t 131)]
def amj:=bD 131 (.call (.c (.fn 15 [] [])) [.t 130]) 128 false::avN
def ah2:=dN 130 129 128 false::amj
def aws:=dp 129 7 9 128 false::ah2
def aT2:=[dF 127 (.t 123) bwd (.t 126),aw 128 127]
def ad1:=aT2++aws
def af9:=bD 126 (.call (.c (.fn 15 [] [])) [.t 125]) 123 false::ad1
def atq:=dN 125 124 123 false::af9
def avc:=dp 124 6 9 123 false::atq
def ayz:=[bM 89 1 9,b3 90 89,q 91 (.da .p (.t 90)),q 92 (.bin .gtr (.t 91) (cc 200)),aw 93 92,dp 94 2 9 93 false,dN 95 94 93 false,bD 96 (.da .p (.t 95)) 93 false,bD 97 (.bin .gtr (.t 96) (cc 200)) 93 false,dF 98 (.t 93) bwd (.t 97),aw 99 98,dp 100 3 9 99 false,dN 101 100 99 false,bD 102 (.da .p (.t 101)) 99 false,bD 103 (.bin .gtr (.t 102) (cc 200)) 99 false,dF 104 (.t 99) bwd (.t 103),aw 105 104,dp 106 5 9 105 false,dN 107 106 105 false,bD 108 (.da .p (.t 107)) 105 false,bD 109 (.bin .gtr (.t 108) (cc 200)) 105 false,dF 110 (.t 105) bwd (.t 109),aw 111 110,dp 112 6 9 111 false,dN 113 112 111 false,bD 114 (.da .s (.t 113)) 111 false,bD 115 (.bin .gtr (.t 114) (cc 20)) 111 false,dF 116 (.t 111) bwd (.t 115),aw 117 116,dp 118 7 9 117 false,dN 119 118 117 false,bD 120 (.da .s (.t 119)) 117 false,bD 121 (.bin .gtr (.t 120) (cc 20)) 117 false,dF 122 (.t 117) bwd (.t 121),aw 123 122]
def asl:=ayz++avc
def ZC:=[bws 2 bwd]
def ajE:=[aw 83 8,q 84 (.bin .add (.t 83) (cc 1)),aw 8 84]
def SU:bZ:=
 (.seq (.seq (.bh aox [79,80,81] [82])
 (.cond (.t 82)
 .skip
 (.exit 4)))
 (.seq (.block 5
 (.seq (.region anK [] [82,85,86,87,88])
 (.seq (.region asl [] [9,89,90,91,92,93,94,95,96,97,98,99,100,101,102,103,104,105,106,107,108,109,110,111,112,113,114,115,116,117,118,119,120,121,122,123,124,125,126,127,128,129,130,131])
 (.cond (.t 132)
 (.seq (.bh ZC [1,3,4,5,6,7,8,132] [2])
 .ret)
 .skip))))
 (.bh ajE [83,84,132] [8])))
def Kw:bZ:=SU
def amw:=[aw 52 6,q 53 (.bin .add (.t 52) (cc 1)),aw 6 53]
def RM:bZ:=
 (.seq (.seq (.bh aeh [47,48,49,50] [51])
 (.cond (.t 51)
 .skip
 (.exit 2)))
 (.seq (.block 3
 (.seq (.bh atx [51,54,55,56,57,58,59] [7])
 (.seq (.seq (.bh ahx [60,61,62,63,64,65,66,67,68,69,70,71,72,73] [74])
 (.cond (.t 74)
 (.seq (.bh aoB [1,3,4,5,6,7,74] [2])
 .ret)
 .skip))
 (.seq (.bh ahH [74,75,76,77,78] [3])
 (.seq (.bh arG [] [8])
 (.block 4
 (.loop [] Kw)))))))
 (.bh amw [7,8,52,53,82] [6])))
def KG:bZ:=RM
def aev:=[aw 19 4,q 20 (.bin .add (.t 19) (cc 1)),aw 4 20]
def VR:bZ:=
 (.seq (.seq (.bh alN [14,15,16,17] [18])
 (.cond (.t 18)
 .skip
 (.exit 0)))
 (.seq (.block 1
 (.seq (.region aqm [] [18,21,22,23,24,25])
 (.seq (.seq (.region anp [] [26,27,28,29,30,31,32,33,34,35,36,37,38,39,40,41,42,43,44,45])
 (.cond (.t 46)
 (.seq (.bh afp [1,3,4,5,46] [2])
 .ret)
 .skip))
 (.seq (.bh aiy [46] [6])
 (.block 2
 (.loop [] KG))))))
 (.bh aev [5,6,19,20,51] [4])))
def KF:bZ:=VR
def aeq:=[bws 2 dd]
def sn:dm:={ ntmps:=133,results:=[.tmp 2],body:=
 (.seq (.region YQ [] Dk)
 (.seq (.seq (.bh avm [10,11,12] [13])
 (.cond (.t 13)
 (.seq (.bh anr [1,13] [2])
 .ret)
 .skip))
 (.seq (.bh aqY [13] [3])
 (.seq (.seq (.bh auw [] [4])
 (.block 0
 (.loop [] KF)))
 (.seq (.bh aeq [1,3,4,18] [2])
 .ret))))) }
theorem To:eL (List.range' 1 (sn.ntmps-1)) sn.body=true:=by kernel_rfl
abbrev CB:Nat:=15
def Ob:=List.range' 1 15
theorem aUd:gN Ob (fL 16 [] 1)=[]:=by kernel_rfl
def ajJ:=[bws 2 dd]
def ab8:=[bws 3 (cc 0)]
def aix:=[aw 4 3,aw 5 0,q 6 (.da .s (.t 5)),q 7 (.bin .lss (.t 4) (.t 6))]
def ajv:=[aw 10 0,aw 11 3,ji 12 1 10 11,b3 13 12,q 14 (.da .p (.t 13)),q 15 (.bin .gtr (.t 14) (cc 200))]
def adJ:=[bws 2 bwd]
def anz:=[aw 8 3,q 9 (.bin .add (.t 8) (cc 1)),aw 3 9]
def TX:bZ:=
 (.seq (.seq (.bh aix [4,5,6] [7])
 (.cond (.t 7)
 .skip
 (.exit 0)))
 (.seq (.block 1
 (.seq (.bh ajv [7,10,11,12,13,14] [15])
 (.cond (.t 15)
 (.seq (.bh adJ [0,3,15] [2])
 .ret)
 .skip)))
 (.bh anz [8,9,15] [3])))
def CX:bZ:=TX
def avD:=[bws 2 dd]
def sy:dm:={ ntmps:=16,results:=[.tmp 2],body:=
 (.seq (.bh ajJ Ob [])
 (.seq (.seq (.bh ab8 [] [3])
 (.block 0
 (.loop [] CX)))
 (.seq (.bh avD [0,3,7] [2])
 .ret))) }
abbrev TN:Nat:=35
def Ry:=List.range' 0 17
theorem aVk:gN Ry (fL 17 [] 0)=[]:=by kernel_rfl
def aq7:=[q 0 (.move (.c (.s (.map none))))]
def alP:=[aw 16 1,aw 0 16]
def auh:=eB (.eJ (.int .u8) (.t 1) (cR 14) (.t 15))::alP
def aKg:=[q 15 (.build [cu,cu,cu,cu,cu,cu,cu] [(0,1),(1,1),(2,1),(3,1),(4,1),(5,1),(6,1)] [(1,bwd)])]
def ajL:=aKg++auh
def arE:=eB (.eJ (.int .u8) (.t 1) (cR 13) (.t 14))::ajL
def aMZ:=[q 14 (.build [cu,cu,cu,cu,cu,cu,cu] [(0,1),(1,1),(2,1),(3,1),(4,1),(5,1),(6,1)] [(6,bwd)])]
def ana:=aMZ++arE
def auN:=eB (.eJ (.int .u8) (.t 1) (cR 12) (.t 13))::ana
def aEF:=[q 13 (.build [cu,cu,cu,cu,cu,cu,cu] [(0,1),(1,1),(2,1),(3,1),(4,1),(5,1),(6,1)] [(6,bwd)])]
def asW:=aEF++auN
def axu:=eB (.eJ (.int .u8) (.t 1) (cR 11) (.t 12))::asW
def aHs:=[q 12 (.build [cu,cu,cu,cu,cu,cu,cu] [(0,1),(1,1),(2,1),(3,1),(4,1),(5,1),(6,1)] [(0,bwd),(1,bwd),(5,bwd)])]
def aid:=aHs++axu
def amx:=eB (.eJ (.int .u8) (.t 1) (cR 10) (.t 11))::aid
def aDV:=[q 11 (.build [cu,cu,cu,cu,cu,cu,cu] [(0,1),(1,1),(2,1),(3,1),(4,1),(5,1),(6,1)] [(0,bwd),(4,bwd),(5,bwd)])]
def anH:=aDV++amx
def aeY:=eB (.eJ (.int .u8) (.t 1) (cR 9) (.t 10))::anH
def aBe:=[q 10 (.build [cu,cu,cu,cu,cu,cu,cu] [(0,1),(1,1),(2,1),(3,1),(4,1),(5,1),(6,1)] [(1,bwd),(2,bwd)])]
def ayf:=aBe++aeY
def alu:=eB (.eJ (.int .u8) (.t 1) (cR 7) (.t 9))::ayf
def aOk:=[q 9 (.build [cu,cu,cu,cu,cu,cu,cu] [(0,1),(1,1),(2,1),(3,1),(4,1),(5,1),(6,1)] [(0,bwd),(1,bwd),(3,bwd)])]
def as8:=aOk++alu
def ap9:=eB (.eJ (.int .u8) (.t 1) (cR 6) (.t 8))::as8
def aGy:=[q 8 (.build [cu,cu,cu,cu,cu,cu,cu] [(0,1),(1,1),(2,1),(3,1),(4,1),(5,1),(6,1)] [(0,bwd),(5,bwd),(6,bwd)])]
def av6:=aGy++ap9
def avM:=eB (.eJ (.int .u8) (.t 1) (cR 8) (.t 7))::av6
def aWd:=[q 7 (.build [cu,cu,cu,cu,cu,cu,cu] [(0,1),(1,1),(2,1),(3,1),(4,1),(5,1),(6,1)] [(0,bwd),(1,bwd)])]
def ayt:=aWd++avM
def ad8:=eB (.eJ (.int .u8) (.t 1) (cR 5) (.t 6))::ayt
def aLa:=[q 6 (.build [cu,cu,cu,cu,cu,cu,cu] [(0,1),(1,1),(2,1),(3,1),(4,1),(5,1),(6,1)] [(0,bwd),(1,bwd)])]
def amQ:=aLa++ad8
def anL:=eB (.eJ (.int .u8) (.t 1) (cR 4) (.t 5))::amQ
def aEp:=[q 5 (.build [cu,cu,cu,cu,cu,cu,cu] [(0,1),(1,1),(2,1),(3,1),(4,1),(5,1),(6,1)] [(0,bwd),(4,bwd)])]
def Zv:=aEp++anL
def aaV:=eB (.eJ (.int .u8) (.t 1) (cR 3) (.t 4))::Zv
def aRR:=[q 4 (.build [cu,cu,cu,cu,cu,cu,cu] [(0,1),(1,1),(2,1),(3,1),(4,1),(5,1),(6,1)] [(0,bwd)])]
def ax7:=aRR++aaV
def ZN:=eB (.eJ (.int .u8) (.t 1) (cR 2) (.t 3))::ax7
def azO:=[q 3 (.build [cu,cu,cu,cu,cu,cu,cu] [(0,1),(1,1),(2,1),(3,1),(4,1),(5,1),(6,1)] [(0,bwd),(3,bwd)])]
def ayc:=azO++ZN
def as6:=eB (.eJ (.int .u8) (.t 1) (cR 1) (.t 2))::ayc
def aOi:=[q 2 (.build [cu,cu,cu,cu,cu,cu,cu] [(0,1),(1,1),(2,1),(3,1),(4,1),(5,1),(6,1)] [(0,bwd),(3,bwd)])]
def an4:=aOi++as6
def aaE:=q 1 (.vN)::an4
def zQ:dm:={ ntmps:=17,results:=[.tmp 0],body:=
 (.seq (.bh aq7 Ry [])
 (.seq (.region aaE [] [1,2,3,4,5,6,7,8,9,10,11,12,13,14,15,16])
 .ret)) }
abbrev F2:Nat:=92
def OV:=List.range' 1 61
theorem aA4:gN OV (fL 62 [] 1)=[]:=by kernel_rfl
def axv:=[bws 2 dd]
def awi:=[aw 6 0,q 7 (.bin .eql (.t 6) (cM #[])),aw 8 7,ew 9 0 8 false,bD 10 (.da .p (.t 9)) 8 false,bD 11 (.bin .gtr (.t 10) (cc 64)) 8 false,dF 12 (.t 8) bwd (.t 11),aw 13 12,ew 14 0 13 false,bD 15 (.bin .eql (.t 14) (cM #[110,117,108,108])) 13 false,dF 16 (.t 13) bwd (.t 15)]
def ahB:=[bws 2 dd]
def ane:=[aw 17 0,q 18 (.da .p (.t 17)),bws 19 (cc 0)]
def adE:=[q 20 (.bin .lss (.t 19) (.t 18))]
def aqa:=[aw 21 19,aw 3 21]
def abp:=[aw 22 0,aw 23 3,q 24 (.pk (.t 22) (.t 23)),aw 4 24]
def ajf:=[aw 25 4,q 26 (.bin .geq (.t 25) (cR 97)),aw 27 26,ew 28 4 27 true,bD 29 (.bin .leq (.t 28) (cR 122)) 27 true,dF 30 (.t 27) (.t 29) dd,aw 31 30,ew 32 4 31 false,bD 33 (.bin .geq (.t 32) (cR 65)) 31 false,ew 34 33 31 false,ew 35 4 34 true,bD 36 (.bin .leq (.t 35) (cR 90)) 34 true,bD 37 (.pick (.t 34) (.t 36) dd) 31 false,dF 38 (.t 31) bwd (.t 37),aw 39 38,ew 40 4 39 false,bD 41 (.bin .eql (.t 40) (cR 95)) 39 false,dF 42 (.t 39) bwd (.t 41),aw 5 42]
def ayp:=[aw 43 5,q 44 (.un .not (.t 43)),aw 45 44,ew 46 3 45 true,bD 47 (.bin .eql (.t 46) (cc 0)) 45 true,ew 48 47 45 true,ew 49 4 48 false,bD 50 (.bin .lss (.t 49) (cR 48)) 48 false,ew 51 50 48 false,ew 52 4 51 false,bD 53 (.bin .gtr (.t 52) (cR 57)) 51 false,bD 54 (.pick (.t 51) bwd (.t 53)) 48 false,ew 55 54 48 false,ew 56 4 55 true,bD 57 (.bin .neq (.t 56) (cR 46)) 55 true,bD 58 (.pick (.t 55) (.t 57) dd) 48 false,bD 59 (.pick (.t 48) bwd (.t 58)) 45 true,dF 60 (.t 45) (.t 59) dd]
def ahF:=[bws 2 dd]
def abY:=[q 61 (.bin .add (.t 19) (cc 1)),aw 19 61]
def Sc:bZ:=
 (.seq (.bh adE [] [20])
 (.seq (.cond (.t 20)
 .skip
 (.exit 0))
 (.seq (.block 1
 (.seq (.bh aqa [20,21] [3])
 (.seq (.bh abp [22,23,24] [4])
 (.seq (.bh ajf [25,26,27,28,29,30,31,32,33,34,35,36,37,38,39,40,41,42] [5])
 (.seq (.bh ayp [3,4,5,43,44,45,46,47,48,49,50,51,52,53,54,55,56,57,58,59] [60])
 (.cond (.t 60)
 (.seq (.bh ahF [0,18,19,60] [2])
 .ret)
 .skip))))))
 (.bh abY [60,61] [19]))))
def Vy:bZ:=Sc
def ags:=[bws 2 bwd]
def uM:dm:={ ntmps:=62,results:=[.tmp 2],body:=
 (.seq (.bh axv OV [])
 (.seq (.seq (.bh awi [6,7,8,9,10,11,12,13,14,15] [16])
 (.cond (.t 16)
 (.seq (.bh ahB [0,16] [2])
 .ret)
 .skip))
 (.seq (.seq (.bh ane [16,17] [18,19])
 (.block 0
 (.loop [] Vy)))
 (.seq (.bh ags [0,18,19,20] [2])
 .ret)))) }
abbrev Mh:Nat:=93
def J1:=List.range' 2 7
theorem aLb:gN J1 (fL 9 [] 2)=[]:=by kernel_rfl
def amW:=[bws 4 dd]
def acE:=[q 8 (.bin .geq (.t 7) (cc 0)),aw 4 8]
def aut:=cL 7 135 [.t 5,.t 6]::acE
def aTz:=[aw 5 0,aw 6 1]
def acz:=aTz++aut
def xR:dm:={ ntmps:=9,results:=[.tmp 4],body:=
 (.seq (.bh amW J1 [])
 (.seq (.region acz [] [0,1,5,6,7,8])
 .ret)) }
abbrev Gl:Nat:=94
def Oq:=[1,2,3,4,5]
theorem aBI:gN Oq (fL 6 [] 1)=[]:=by kernel_rfl
def anG:=[bws 2 dd]
def awU:=[q 5 (.un .not (.t 4)),aw 2 5]
def avT:=cL 4 92 [.t 3]::awU
def az2:=[aw 3 0]
def as1:=az2++avT
def vS:dm:={ ntmps:=6,results:=[.tmp 2],body:=
 (.seq (.bh anG Oq [])
 (.seq (.region as1 [] [0,3,4,5])
 .ret)) }
abbrev PI:Nat:=95
def Er:=[0,3,4,5,6,7]
def Zt:=[bws 4 dd]
def amy:=q 2 (.box (.t 0))::Zt
def ao0:=[aw 4 7]
def alo:=cL 7 93 [.t 5,.t 6]::ao0
def aTf:=[aw 5 1,q 6 (.ez 136 [] [.t 2])]
def avH:=aTf++alo
def x4:dm:={ ntmps:=8,results:=[.tmp 4],body:=
 (.seq (.region amy [] Er)
 (.seq (.region avH [] [1,2,5,6,7])
 .ret)) }
theorem aB4:eL (List.range' 2 (x4.ntmps-2)) x4.body=true:=by kernel_rfl
abbrev Fx:Nat:=96
def Jk:=List.range' 2 7
theorem aOE:gN Jk (fL 9 [] 2)=[]:=by kernel_rfl
def aoW:=[bws 4 dd]
def aw3:=[q 8 (.bin .geq (.t 7) (cc 0)),aw 4 8]
def ard:=cL 7 137 [.t 5,.t 6]::aw3
def aKG:=[aw 5 0,aw 6 1]
def acx:=aKG++ard
def AB:dm:={ ntmps:=9,results:=[.tmp 4],body:=
 (.seq (.bh aoW Jk [])
 (.seq (.region acx [] [0,1,5,6,7,8])
 .ret)) }
abbrev JL:Nat:=100
def Pl:=List.range' 1 8
theorem aRe:gN Pl (fL 9 [] 1)=[]:=by kernel_rfl
def amn:=[bws 2 dd]
def apF:=[aw 3 0,q 4 (.bin .eql (.t 3) (cR 10)),aw 5 4,ew 6 0 5 false,bD 7 (.bin .eql (.t 6) (cR 11)) 5 false,dF 8 (.t 5) bwd (.t 7),aw 2 8]
def vU:dm:={ ntmps:=9,results:=[.tmp 2],body:=
 (.seq (.bh amn Pl [])
 (.seq (.bh apF [0,3,4,5,6,7,8] [2])
 .ret)) }
abbrev Ug:Nat:=102
def z7:=[1,2]++List.range' 6 12
def ah0:=[q 5 (.alloc [cu])]
def aas:=q 4 (.alloc [c9,c9,c9])::ah0
def aqh:=q 3 (.box (.t 1))::aas
def anU:=[cL 9 140 [.t 8]]
def aFU:=[aw 8 0]
def auZ:=aFU++anU
def acr:=[dO 3 6 10]
def ak4:=q 6 (.alloc [c9,c9,c9])::acr
def agK:=[dO 8 7 11]
def abH:=q 7 (.alloc [h9,cF,cF,cF,c9,cF,e9,e9])::agK
def ahb:=[q 15 (.call (.t 12) [.t 13,.t 14])]
def aFy:=[b3 12 3,q 13 (.load true 3 (.t 6)),q 14 (.load true 8 (.t 7))]
def axi:=aFy++ahb
def auU:=[eB (.store 1 (.t 5) bwd)]
def an0:=dO 3 4 16::auU
def aAj:=[q 16 (.load true 3 (.t 6))]
def abg:=aAj++an0
def Fg:bZ:=
 (.seq (.region ak4 [] [9,10])
 (.region abH [] [11]))
def Az:bZ:=
 (.block 1
 (.seq (.region axi [] [3,7,12,13,14])
 (.cond (.t 15)
 (.seq (.region abg [] [4,5,6,15,16])
 .ret)
 .skip)))
def agh:=[eB (.store 1 (.t 5) dd)]
def awE:=dO 3 4 17::agh
def aRU:=[q 17 (.build [c9,c9,c9] [(0,1),(1,1),(2,1)] [])]
def akl:=aRU++awE
def wI:dm:={ ntmps:=18,results:=[.cell 4 true 3,.cell 5 false 1],body:=
 (.seq (.region aqh [] z7)
 (.seq (.seq (.region auZ [] [0,8])
 (.block 0
 (.rangeFunc (.t 9) [10,11] Fg Az)))
 (.seq (.region akl [] [3,9,17])
 .ret))) }
theorem aud:eL (List.range' 2 (wI.ntmps-2)) wI.body=true:=by kernel_rfl
abbrev H7:Nat:=104
def v8:=[0,1,3]++List.range' 5 182
def amE:=[bws 5 dd]
def NP:=q 4 (.box (.t 1))::amE
def Rx:=[q 3 (.box (.t 0))]
def axP:=Rx++NP
def Br:=[0]++List.range' 3 184
def aWT(call:c5)(it:hE)(base:Nat)(f:List V)(H:ad):aL call it base (.region axP [] v8) f H=nZ call it base (.region NP [] v8) (oH [] Rx Br (cI call base [⟨some 3,.box (.t 0),none⟩] f H)):=(xu call it base Rx NP (kc:=Br) (by kernel_rfl) f H).trans (by rw[vK];rfl)
def ajo:=[aw 7 17]
def adT:=dO 7 6 16::ajo
def ajF:=q 6 (.alloc [cu,cu,cu,cu,cu,cu,cu])::adT
def aGe:=[b3 9 2,eV 10 9,bM 11 1 10,b3 12 11,bM 13 0 4,b3 14 13,q 15 (.ik (.int .u8) (.agg [cu,cu,cu,cu,cu,cu,cu]) (.t 12) (.t 14) true),aw 8 15,iD 16 8 0,iD 17 8 1]
def aof:=aGe++ajF
def aun:=[aw 18 7,q 19 (.un .not (.t 18)),aw 20 19,dp 21 0 6 20 false,dN 22 21 20 false,bD 23 (.un .not (.t 22)) 20 false,ew 24 23 20 false,dp 25 1 4 24 true,dN 26 25 24 true,bD 27 (.bin .neq (.t 26) (cM #[])) 24 true,bD 28 (.pick (.t 24) (.t 27) dd) 20 false,dF 29 (.t 20) bwd (.t 28),aw 30 29,dp 31 1 6 30 false,dN 32 31 30 false,bD 33 (.un .not (.t 32)) 30 false,ew 34 33 30 false,dp 35 2 4 34 true,dN 36 35 34 true,bD 37 (.bin .neq (.t 36) (cM #[])) 34 true,bD 38 (.pick (.t 34) (.t 37) dd) 30 false,dF 39 (.t 30) bwd (.t 38),aw 40 39,dp 41 2 6 40 false,dN 42 41 40 false,bD 43 (.un .not (.t 42)) 40 false,ew 44 43 40 false,dp 45 3 4 44 true,dN 46 45 44 true,bD 47 (.bin .neq (.t 46) (cM #[])) 44 true,bD 48 (.pick (.t 44) (.t 47) dd) 40 false,dF 49 (.t 40) bwd (.t 48),aw 50 49,dp 51 3 6 50 false,dN 52 51 50 false,bD 53 (.un .not (.t 52)) 50 false,ew 54 53 50 false,dp 55 4 4 54 true,dN 56 55 54 true,bD 57 (.bin .neq (.t 56) (cc 0)) 54 true,bD 58 (.pick (.t 54) (.t 57) dd) 50 false,dF 59 (.t 50) bwd (.t 58),aw 60 59,dp 61 4 6 60 false,dN 62 61 60 false,bD 63 (.un .not (.t 62)) 60 false,ew 64 63 60 false,dp 65 5 4 64 true,dN 66 65 64 true,bD 67 (.bin .neq (.t 66) (cM #[])) 64 true,bD 68 (.pick (.t 64) (.t 67) dd) 60 false,dF 69 (.t 60) bwd (.t 68),aw 70 69,dp 71 5 6 70 false,dN 72 71 70 false,bD 73 (.un .not (.t 72)) 70 false,ew 74 73 70 false,dp 75 6 4 74 true,dN 76 75 74 true,bD 77 (.da .s (.t 76)) 74 true,bD 78 (.bin .gtr (.t 77) (cc 0)) 74 true,bD 79 (.pick (.t 74) (.t 78) dd) 70 false,dF 80 (.t 70) bwd (.t 79),aw 81 80,dp 82 6 6 81 false,dN 83 82 81 false,bD 84 (.un .not (.t 83)) 81 false,ew 85 84 81 false,dp 86 7 4 85 true,dN 87 86 85 true,bD 88 (.da .s (.t 87)) 85 true,bD 89 (.bin .gtr (.t 88) (cc 0)) 85 true,bD 90 (.pick (.t 85) (.t 89) dd) 81 false,dF 91 (.t 81) bwd (.t 90)]
def ani:=[bws 5 bwd]
def air:=[bD 103 (.un .not (.t 102)) 99 true,dF 104 (.t 99) (.t 103) dd,aw 105 104,dp 106 1 6 105 false,dN 107 106 105 false,ew 108 107 105 false,dp 109 2 4 108 true,dN 110 109 108 true,bD 111 (.bin .eql (.t 110) (cM #[])) 108 true,bD 112 (.pick (.t 108) (.t 111) dd) 105 false,ew 113 112 105 false,dp 114 0 4 113 true,dN 115 114 113 true,bD 116 (.bin .neq (.t 115) (cR 14)) 113 true,bD 117 (.pick (.t 113) (.t 116) dd) 105 false,dF 118 (.t 105) bwd (.t 117),aw 119 118,dp 120 2 6 119 false,dN 121 120 119 false,ew 122 121 119 false,dp 123 3 4 122 true,dN 124 123 122 true,bD 125 (.bin .eql (.t 124) (cM #[])) 122 true,bD 126 (.pick (.t 122) (.t 125) dd) 119 false,dF 127 (.t 119) bwd (.t 126),aw 128 127,dp 129 4 6 128 false,dN 130 129 128 false,ew 131 130 128 false,dp 132 5 4 131 true,dN 133 132 131 true,bD 134 (.bin .eql (.t 133) (cM #[])) 131 true,bD 135 (.pick (.t 131) (.t 134) dd) 128 false,dF 136 (.t 128) bwd (.t 135)]
def aeH:=bD 102 (.call (.c (.fn 100 [] [])) [.t 101]) 99 true::air
def aad:=dN 101 100 99 true::aeH
def aoX:=dp 100 0 4 99 true::aad
def aR4:=[bM 92 0 6,b3 93 92,aw 94 93,dp 95 1 4 94 true,dN 96 95 94 true,bD 97 (.bin .eql (.t 96) (cM #[])) 94 true,dF 98 (.t 94) (.t 97) dd,aw 99 98]
def arJ:=aR4++aoX
def asQ:=[bws 5 bwd]
def akg:=[bM 137 0 4,b3 138 137]
def agJ:=[q 140 (.bin .eql (.t 138) (cR 1)),aw 139 140]
def ayd:=[q 141 (.bin .eql (.t 138) (cR 2)),aw 139 141]
def afa:=[bM 142 4 4,b3 143 142,q 144 (.bin .lss (.t 143) (cc 1)),aw 145 144,dp 146 4 4 145 false,dN 147 146 145 false,bD 148 (.bin .gtr (.t 147) (cc 64)) 145 false,dF 149 (.t 145) bwd (.t 148),aw 5 149]
def auy:=[q 151 (.bin .eql (.t 138) (cR 7)),aw 150 151]
def anD:=[bM 152 4 4,b3 153 152,q 154 (.bin .lss (.t 153) (cc 0)),aw 155 154,dp 156 4 4 155 false,dN 157 156 155 false,bD 158 (.bin .geq (.t 157) (cc 64)) 155 false,dF 159 (.t 155) bwd (.t 158),aw 5 159]
def akc:=[q 161 (.bin .eql (.t 138) (cR 6)),aw 160 161]
def anN:=[bM 162 6 4,b3 163 162,q 164 (.da .s (.t 163)),q 165 (.bin .eql (.t 164) (cc 0)),aw 166 165,dp 167 6 4 166 false,dN 168 167 166 false,bD 169 (.da .s (.t 168)) 166 false,dp 170 7 4 166 false,dN 171 170 166 false,bD 172 (.da .s (.t 171)) 166 false,bD 173 (.bin .neq (.t 169) (.t 172)) 166 false,dF 174 (.t 166) bwd (.t 173),aw 5 174]
def at7:=[q 176 (.bin .eql (.t 138) (cR 12)),aw 175 176]
def aug:=[bM 177 7 4,b3 178 177,q 179 (.da .s (.t 178)),q 180 (.bin .neq (.t 179) (cc 2)),aw 5 180]
def apa:=[q 182 (.bin .eql (.t 138) (cR 13)),aw 181 182]
def ax4:=[bM 183 7 4,b3 184 183,q 185 (.da .s (.t 184)),q 186 (.bin .neq (.t 185) (cc 1)),aw 5 186]
def aie:=[bws 5 dd]
def uY:dm:={ ntmps:=187,results:=[.tmp 5],body:=
 (.seq (.region axP [] v8)
 (.seq (.region aof [] [2,8,9,10,11,12,13,14,15,16,17])
 (.seq (.seq (.bh aun [7,18,19,20,21,22,23,24,25,26,27,28,29,30,31,32,33,34,35,36,37,38,39,40,41,42,43,44,45,46,47,48,49,50,51,52,53,54,55,56,57,58,59,60,61,62,63,64,65,66,67,68,69,70,71,72,73,74,75,76,77,78,79,80,81,82,83,84,85,86,87,88,89,90] [91])
 (.cond (.t 91)
 (.seq (.bh ani [4,6,91] [5])
 .ret)
 .skip))
 (.seq (.seq (.region arJ [] [6,91,92,93,94,95,96,97,98,99,100,101,102,103,104,105,106,107,108,109,110,111,112,113,114,115,116,117,118,119,120,121,122,123,124,125,126,127,128,129,130,131,132,133,134,135])
 (.cond (.t 136)
 (.seq (.bh asQ [4,136] [5])
 .ret)
 .skip))
 (.seq (.seq (.bh akg [136,137] [138])
 (.block 0
 (.seq (.seq (.bh agJ [140] [139])
 (.cond (.t 139)
 .skip
 (.bh ayd [141] [139])))
 (.cond (.t 139)
 (.seq (.bh afa [4,138,139,142,143,144,145,146,147,148,149] [5])
 .ret)
 (.seq (.bh auy [139,151] [150])
 (.cond (.t 150)
 (.seq (.bh anD [4,138,150,152,153,154,155,156,157,158,159] [5])
 .ret)
 (.seq (.bh akc [150,161] [160])
 (.cond (.t 160)
 (.seq (.bh anN [4,138,160,162,163,164,165,166,167,168,169,170,171,172,173,174] [5])
 .ret)
 (.seq (.bh at7 [160,176] [175])
 (.cond (.t 175)
 (.seq (.bh aug [4,138,175,177,178,179,180] [5])
 .ret)
 (.seq (.bh apa [138,175,182] [181])
 (.cond (.t 181)
 (.seq (.bh ax4 [4,181,183,184,185,186] [5])
 .ret)
 .skip))))))))))))
 (.seq (.bh aie [4,181] [5])
 .ret)))))) }
theorem aSW:eL (List.range' 3 (uY.ntmps-3)) uY.body=true:=by kernel_rfl
abbrev JN:Nat:=135
def Is:=List.range' 2 17
theorem aSD:gN Is (fL 19 [] 2)=[]:=by kernel_rfl
def ahd:=[bws 4 (cc 0)]
def Zg:=[aw 6 0,q 7 (.da .s (.t 6)),bws 8 (cc 0)]
def aeJ:=[q 9 (.bin .lss (.t 8) (.t 7))]
def aeA:=[aw 10 8,aw 5 10]
def am6:=[q 16 (.call (.t 11) [.t 15])]
def aIp:=[aw 11 1,aw 12 0,aw 13 5,ji 14 1 12 13,b3 15 14]
def aho:=aIp++am6
def anS:=[aw 17 5,aw 4 17]
def ahA:=[q 18 (.bin .add (.t 8) (cc 1)),aw 8 18]
def R6:bZ:=
 (.seq (.bh aeJ [] [9])
 (.seq (.cond (.t 9)
 .skip
 (.exit 0))
 (.seq (.block 1
 (.seq (.bh aeA [9,10] [5])
 (.seq (.region aho [] [11,12,13,14,15])
 (.cond (.t 16)
 (.seq (.bh anS [0,1,5,7,8,16,17] [4])
 .ret)
 .skip))))
 (.bh ahA [5,16,18] [8]))))
def C6:bZ:=R6
def YT:=[q 4 (.move (cc (-1)))]
def r':dm:={ ntmps:=19,results:=[.tmp 4],body:=
 (.seq (.bh ahd Is [])
 (.seq (.seq (.bh Zg [6] [7,8])
 (.block 0
 (.loop [] C6)))
 (.seq (.bh YT [0,1,7,8,9] [4])
 .ret))) }
abbrev Je:Nat:=136
def Ja:=List.range' 2 17
theorem aJ9:gN Ja (fL 19 [] 2)=[]:=by kernel_rfl
def afA:=[bws 3 dd]
def ZO:=[bD 9 (.un .not (.t 8)) 6 true,dF 10 (.t 6) (.t 9) dd,aw 11 10,dN 12 1 11 true,ew 13 12 11 true,ew 14 0 13 true,bD 15 (.bin .eql (.t 14) (cM #[110,117,108,108])) 13 true,bD 16 (.pick (.t 13) (.t 15) dd) 11 true,bD 17 (.un .not (.t 16)) 11 true,dF 18 (.t 11) (.t 17) dd,aw 3 18]
def ann:=bD 8 (.call (.c (.fn 92 [] [])) [.t 7]) 6 true::ZO
def aaW:=ew 7 0 6 true::ann
def aPn:=[aw 4 0,q 5 (.bin .neq (.t 4) (cM #[])),aw 6 5]
def awC:=aPn++aaW
def sE:dm:={ ntmps:=19,results:=[.tmp 3],body:=
 (.seq (.bh afA Ja [])
 (.seq (.region awC [] [0,1,4,5,6,7,8,9,10,11,12,13,14,15,16,17,18])
 .ret)) }
abbrev Ps:Nat:=137
def Jp:=List.range' 2 17
theorem aUM:gN Jp (fL 19 [] 2)=[]:=by kernel_rfl
def ain:=[bws 4 (cc 0)]
def anc:=[aw 6 0,q 7 (.da .s (.t 6)),bws 8 (cc 0)]
def apt:=[q 9 (.bin .lss (.t 8) (.t 7))]
def abC:=[aw 10 8,aw 5 10]
def anM:=[aw 11 1,aw 12 0,aw 13 5,ji 14 1 12 13,b3 15 14,q 16 (.bin .eql (.t 11) (.t 15))]
def au6:=[aw 17 5,aw 4 17]
def apC:=[q 18 (.bin .add (.t 8) (cc 1)),aw 8 18]
def V3:bZ:=
 (.seq (.bh apt [] [9])
 (.seq (.cond (.t 9)
 .skip
 (.exit 0))
 (.seq (.block 1
 (.seq (.bh abC [9,10] [5])
 (.seq (.bh anM [11,12,13,14,15] [16])
 (.cond (.t 16)
 (.seq (.bh au6 [0,1,5,7,8,16,17] [4])
 .ret)
 .skip))))
 (.bh apC [5,16,18] [8]))))
def Ec:bZ:=V3
def ade:=[q 4 (.move (cc (-1)))]
def vT:dm:={ ntmps:=19,results:=[.tmp 4],body:=
 (.seq (.bh ain Jp [])
 (.seq (.seq (.bh anc [6] [7,8])
 (.block 0
 (.loop [] Ec)))
 (.seq (.bh ade [0,1,7,8,9] [4])
 .ret))) }
abbrev arl:Nat:=140
def Gv:=[0,2,3]
def ano:=[q 2 (.move (.c (.s .nilFunc)))]
def abT:=q 1 (.box (.t 0))::ano
def auC:=[q 3 (.ez 168 [] [.t 1]),aw 2 3]
def yV:dm:={ ntmps:=4,results:=[.tmp 2],body:=
 (.seq (.region abT [] Gv)
 (.seq (.bh auC [1,3] [2])
 .ret)) }
theorem aEg:eL (List.range' 1 (yV.ntmps-1)) yV.body=true:=by kernel_rfl
abbrev EI:Nat:=168
def Jh:=List.range' 1 12++List.range' 16 31
theorem aAe:gN Jh (fL 47 [] 2)=[(13,bF),(14,bF),(15,bF)]:=by kernel_rfl
def aw8:=[b3 9 1,eV 10 9,bM 11 0 10,bM 12 0 11,b3 13 12,q 14 (.da .s (.t 13)),bws 15 (cc 0)]
def ajI:=[q 16 (.bin .lss (.t 15) (.t 14))]
def aqc:=[dO 3 4 19]
def aDk:=[aw 3 17]
def ahK:=aDk++aqc
def agz:=q 4 (.alloc [cF,e9,e9])::ahK
def aQK:=[aw 17 15,ji 18 3 13 15,q 19 (.load true 3 (.t 18))]
def adr:=aQK++agz
def agU:=[bM 20 2 4,b3 21 20,q 22 (.da .s (.t 21)),bws 23 (cc 0)]
def ad9:=[q 24 (.bin .lss (.t 23) (.t 22))]
def anY:=[dO 2 6 27]
def aOw:=[aw 5 25]
def ax5:=aOw++anY
def aal:=q 6 (.alloc [cF,e9])::ax5
def aAR:=[aw 25 23,ji 26 2 21 23,q 27 (.load true 2 (.t 26))]
def af7:=aAR++aal
def awS:=[bM 28 1 6,b3 29 28,q 30 (.da .s (.t 29)),bws 31 (cc 0)]
def an3:=[q 32 (.bin .lss (.t 31) (.t 30))]
def acB:=[dO 8 8 35]
def aCl:=[aw 7 33]
def arL:=aCl++acB
def asg:=q 8 (.alloc [h9,cF,cF,cF,c9,cF,e9,e9])::arL
def aQm:=[aw 33 31,ji 34 8 29 31,q 35 (.load true 8 (.t 34))]
def ang:=aQm++asg
def avQ:=[q 43 (.un .not (.t 42))]
def atu:=q 42 (.call (.t 36) [.t 40,.t 41])::avQ
def aT3:=[aw 36 0,aw 37 3,aw 38 5,aw 39 7,q 40 (.build [c9,c9,c9] [(0,1),(1,1),(2,1)] [(0,.t 37),(1,.t 38),(2,.t 39)]),q 41 (.load true 8 (.t 8))]
def aih:=aT3++atu
def an8:=[q 44 (.bin .add (.t 31) (cc 1)),aw 31 44]
def Sb:bZ:=
 (.seq (.bh an3 [] [32])
 (.seq (.cond (.t 32)
 .skip
 (.exit 4))
 (.seq (.block 5
 (.seq (.region ang [] [32,33,34,35])
 (.seq (.region aih [] [7,8,36,37,38,39,40,41,42])
 (.cond (.t 43)
 .ret
 .skip))))
 (.bh an8 [43,44] [31]))))
def ID:bZ:=Sb
def auP:=[q 45 (.bin .add (.t 23) (cc 1)),aw 23 45]
def WU:bZ:=
 (.seq (.bh ad9 [] [24])
 (.seq (.cond (.t 24)
 .skip
 (.exit 2))
 (.seq (.block 3
 (.seq (.region af7 [] [24,25,26,27])
 (.seq (.bh awS [6,28] [29,30,31])
 (.block 4
 (.loop [] ID)))))
 (.bh auP [5,29,30,31,32,45] [23]))))
def Iq:bZ:=WU
def aey:=[q 46 (.bin .add (.t 15) (cc 1)),aw 15 46]
def V1:bZ:=
 (.seq (.bh ajI [] [16])
 (.seq (.cond (.t 16)
 .skip
 (.exit 0))
 (.seq (.block 1
 (.seq (.region adr [] [16,17,18,19])
 (.seq (.bh agU [4,20] [21,22,23])
 (.block 2
 (.loop [] Iq)))))
 (.bh aey [3,21,22,23,24,46] [15]))))
def Kr:bZ:=V1
def ue:dm:={ ntmps:=47,results:=[],body:=
 (.seq (.bh aw8 Jh [13,14,15])
 (.block 0
 (.loop [] Kr))) }
def pS:=I (a6 J5 0) (I (bk J5 1) (I (a6 J5 2) (I aNc (I (cA LL Dk [] 3 [] [] [.cb (.s (.bool false))]) (I (a6 Dk 0) (I (bk Dk 1) (I (a6 Dk 2) (I (aB avm [10,11,12] [13] 14 [] [(13,fY .gtr 70 (fX (bn (bq 0 (.t 1)))))] [ee,dx,bT,az]) (I (aB anr [1,13] [2] 3 [] [(2,gA)] [.cb (.s (.bool true))]) (I (aB aqY [13] [3] 4 [] [(3,iE 0)] [.cb (.s (.int .i64 0))]) (I (aB auw [] [4] 5 [] [(4,iE 0)] [.cb (.s (.int .i64 0))]) (I (aB alN [14,15,16,17] [18] 19 [] [(18,fj .lss (.t 4) (fX (bn (bq 0 (.t 1)))))] [.aS 4,Bz,q2,mN,az]) (I (bb aqm [18,21,22,23,24] [25] [18,21,22,23,24,25] 26 [] [(25,gZ 3 (je 3 (bn (bq 0 (.t 1))) (.t 4)))] [ee,dx,.aS 4,bT,az]) (I (aC amk [] [18,21,22,23,24,25]) (I (cl axV [18,21,22,23,24,25]) (I (bb anp [26,27,28,29,30,31,32,33,34,35,36,37,38,39,40,41] [42] LD 43 [] [(42,.pick (.pick (fY .gtr 200 (.op (.da .p (.t 0)) [bn (bq 0 (.t 5))])) (.c (.s (.bool true))) (fY .gtr 20 (fX (bn (bq 1 (.t 5)))))) (.c (.s (.bool true))) (fY .gtr 70 (fX (bn (bq 2 (.t 5))))))] [Bd,lG,ee,dx,dx,.sub 0 [0,2,0,0,0] [30],.sub 0 [0,2,0,0] [30],.sub 0 [0,2,0] [30],.sub 0 [0,2] [30],bT,bT,.sub 0 [2,0,0,0] [36],.sub 0 [2,0,0] [36],.sub 0 [2,0] [36],.sub 0 [2] [36],az,az]) (I (aC aiC [] LD) (I (aC awb [43] LD) (I (aC aex [44] LD) (I (cA axD [26,27,28,29,30,31,32,33,34,35,36,37,38,39,40,41,42,43,44,45] [46] 47 [] [(46,.pick (.t 42) gA (.t 45))] [az]) (I (aB afp [1,3,4,5,46] [2] 3 [] [(2,gA)] [.cb (.s (.bool true))]) (I (aB aiy [46] [6] 7 [] [(6,iE 0)] [.cb (.s (.int .i64 0))]) (I (aB aeh [47,48,49,50] [51] 52 [] [(51,fj .lss (.t 6) (fX (bn (bq 2 (.t 5)))))] [.aS 6,Bz,q2,mN,az]) (I (aB atx [51,54,55,56,57,58,59] [7] 60 [] [(7,bn (bq 1 (je 2 (bn (bq 2 (.t 5))) (.t 6))))] [lG,ee,.aS 6,dx,bT,az,az]) (I (aB ahx [60,61,62,63,64,65,66,67,68,69,70,71,72,73] [74] 75 [] [(74,.pick (fj .gtr (fX (.t 7)) (.op (.bin .sub (.c (.s (.int .i64 200))) (.t 1)) [.c (.s (.int .i64 200)),.t 3])) (.c (.s (.bool true))) (fY .gtr 200 (.op (.da .p (.t 0)) [bn (bq 0 (je 2 (bn (bq 2 (.t 5))) (.t 6)))])))] [.aS 7,dx,.aS 3,AT,bT,bT,.sub 0 [2,0,0,0,0,0,0] [65],.sub 0 [2,0,0,0,0,0] [65],.sub 0 [2,0,0,0,0,1] [65],.sub 0 [2,0,0,0,0] [65],.sub 0 [2,0,0,0] [65],.sub 0 [2,0,0] [65],.sub 0 [2,0] [65],.sub 0 [2] [65],az]) (I (aB aoB [1,3,4,5,6,7,74] [2] 3 [] [(2,gA)] [.cb (.s (.bool true))]) (I (aB ahH [74,75,76,77,78] [3] 79 [] [(3,fj .add (.t 3) (fX (.t 7)))] [.aS 3,.aS 7,mN,az,az]) (I (aB arG [] [8] 9 [] [(8,iE 0)] [.cb (.s (.int .i64 0))]) (I (aB aox [79,80,81] [82] 83 [] [(82,fj .lss (.t 8) (fX (.t 7)))] [.aS 8,.aS 7,mN,az]) (I (bb anK [82,85,86,87] [88] [82,85,86,87,88] 89 [] [(88,gZ 8 (je 8 (.t 7) (.t 8)))] [.aS 7,.aS 8,bT,az]) (I (aC aw4 [] [82,85,86,87,88]) (I (cl ans [82,85,86,87,88]) (I (bb asl [89,90,91,92,93,94,95,96,97,98,99,100,101,102,103,104,105,106,107,108,109,110,111,112,113,114,115,116,117,118,119,120,121,122] [123] BQ 124 [] [(123,.pick (.pick (.pick (.pick (.pick (fY .gtr 200 (.op (.da .p (.t 0)) [bn (bq 1 (.t 9))])) (.c (.s (.bool true))) (fY .gtr 200 (.op (.da .p (.t 0)) [bn (bq 2 (.t 9))]))) (.c (.s (.bool true))) (fY .gtr 200 (.op (.da .p (.t 0)) [bn (bq 3 (.t 9))]))) (.c (.s (.bool true))) (fY .gtr 200 (.op (.da .p (.t 0)) [bn (bq 5 (.t 9))]))) (.c (.s (.bool true))) (fY .gtr 20 (fX (bn (bq 6 (.t 9)))))) (.c (.s (.bool true))) (fY .gtr 20 (fX (bn (bq 7 (.t 9))))))] [r7 [0,0,0,0,0,0,0,0],MW,MM,Bd,Bd,.sub 0 [0,0,0,0,2,0,0,0] [93],.sub 0 [0,0,0,0,2,0,0] [93],.sub 0 [0,0,0,0,2,0] [93],.sub 0 [0,0,0,0,2] [93],lG,lG,.sub 0 [0,0,0,2,0,0,0] [99],.sub 0 [0,0,0,2,0,0] [99],.sub 0 [0,0,0,2,0] [99],.sub 0 [0,0,0,2] [99],ee,ee,.sub 0 [0,0,2,0,0,0] [105],.sub 0 [0,0,2,0,0] [105],.sub 0 [0,0,2,0] [105],.sub 0 [0,0,2] [105],dx,dx,.sub 0 [0,2,0,0,0] [111],.sub 0 [0,2,0,0] [111],.sub 0 [0,2,0] [111],.sub 0 [0,2] [111],bT,bT,.sub 0 [2,0,0,0] [117],.sub 0 [2,0,0] [117],.sub 0 [2,0] [117],.sub 0 [2] [117],az,az]) (I (aC avc [] BQ) (I (aC atq [124] BQ) (I (aC af9 [125] BQ) (I (bb ad1 [123,126,127] [128] BQ 129 [] [(128,.pick (.t 123) gA (.t 126))] [az,az]) (I (aC aws [9] BQ) (I (aC ah2 [129] BQ) (I (aC amj [130] BQ) (I (cA avN [9,89,90,91,92,93,94,95,96,97,98,99,100,101,102,103,104,105,106,107,108,109,110,111,112,113,114,115,116,117,118,119,120,121,122,123,124,125,126,127,128,129,130,131] [132] 133 [] [(132,.pick (.t 128) gA (.t 131))] [az]) (I (aB ZC [1,3,4,5,6,7,8,132] [2] 3 [] [(2,gA)] [.cb (.s (.bool true))]) (I (aB ajE [83,84,132] [8] 85 [] [(8,h2 1 (.t 8))] [.aS 8,az,az]) (I (bp Kw SU) (I (aB amw [7,8,52,53,82] [6] 54 [] [(6,h2 1 (.t 6))] [.aS 6,az,az]) (I (bp KG RM) (I (aB aev [5,6,19,20,51] [4] 21 [] [(4,h2 1 (.t 4))] [.aS 4,az,az]) (I (bp KF VR) (I (aB aeq [1,3,4,18] [2] 3 [] [(2,gV)] [.cb (.s (.bool false))]) (I SU.eq_1 (I RM.eq_1 (VR.eq_1))))))))))))))))))))))))))))))))))))))))))))))))))))
def Ki:=I (aB ajJ Ob [] 3 [] [] [.cb (.s (.bool false))]) (I aUd (I (bk Ob 0) (I (aB ab8 [] [3] 4 [] [(3,iE 0)] [.cb (.s (.int .i64 0))]) (I (aB aix [4,5,6] [7] 8 [] [(7,fj .lss (.t 3) (fX (.t 0)))] [.aS 3,.aS 0,mN,az]) (I (aB ajv [7,10,11,12,13,14] [15] 16 [] [(15,fY .gtr 200 (.op (.da .p (.t 0)) [bn (je 1 (.t 0) (.t 3))]))] [.aS 0,.aS 3,ee,dx,bT,az]) (I (aB adJ [0,3,15] [2] 3 [] [(2,gA)] [.cb (.s (.bool true))]) (I (aB anz [8,9,15] [3] 10 [] [(3,h2 1 (.t 3))] [.aS 3,az,az]) (I (bp CX TX) (I (aB avD [0,3,7] [2] 3 [] [(2,gV)] [.cb (.s (.bool false))]) (TX.eq_1))))))))))
def aQd:=I (aB aq7 Ry [] 1 [] [] [.cb (.s (.map none))]) (I aVk (I (aC aaE [] jT) (I (bb an4 [] [2] jT 3 [] [(2,.op (.build [.s (.bool false),.s (.bool false),.s (.bool false),.s (.bool false),.s (.bool false),.s (.bool false),.s (.bool false)] [(0,1),(1,1),(2,1),(3,1),(4,1),(5,1),(6,1)] [(0,.c (.s (.bool true))),(3,.c (.s (.bool true)))]) [.c (.s (.bool true)),.c (.s (.bool true))])] [az]) (I (aC as6 [2] jT) (I (bb ayc [] [3] jT 4 [] [(3,.op (.build [.s (.bool false),.s (.bool false),.s (.bool false),.s (.bool false),.s (.bool false),.s (.bool false),.s (.bool false)] [(0,1),(1,1),(2,1),(3,1),(4,1),(5,1),(6,1)] [(0,.c (.s (.bool true))),(3,.c (.s (.bool true)))]) [.c (.s (.bool true)),.c (.s (.bool true))])] [az]) (I (aC ZN [3] jT) (I (bb ax7 [] [4] jT 5 [] [(4,.op (.build [.s (.bool false),.s (.bool false),.s (.bool false),.s (.bool false),.s (.bool false),.s (.bool false),.s (.bool false)] [(0,1),(1,1),(2,1),(3,1),(4,1),(5,1),(6,1)] [(0,.c (.s (.bool true)))]) [.c (.s (.bool true))])] [az]) (I (aC aaV [4] jT) (I (bb Zv [] [5] jT 6 [] [(5,.op (.build [.s (.bool false),.s (.bool false),.s (.bool false),.s (.bool false),.s (.bool false),.s (.bool false),.s (.bool false)] [(0,1),(1,1),(2,1),(3,1),(4,1),(5,1),(6,1)] [(0,.c (.s (.bool true))),(4,.c (.s (.bool true)))]) [.c (.s (.bool true)),.c (.s (.bool true))])] [az]) (I (aC anL [5] jT) (I (bb amQ [] [6] jT 7 [] [(6,.op (.build [.s (.bool false),.s (.bool false),.s (.bool false),.s (.bool false),.s (.bool false),.s (.bool false),.s (.bool false)] [(0,1),(1,1),(2,1),(3,1),(4,1),(5,1),(6,1)] [(0,.c (.s (.bool true))),(1,.c (.s (.bool true)))]) [.c (.s (.bool true)),.c (.s (.bool true))])] [az]) (I (aC ad8 [6] jT) (I (bb ayt [] [7] jT 8 [] [(7,.op (.build [.s (.bool false),.s (.bool false),.s (.bool false),.s (.bool false),.s (.bool false),.s (.bool false),.s (.bool false)] [(0,1),(1,1),(2,1),(3,1),(4,1),(5,1),(6,1)] [(0,.c (.s (.bool true))),(1,.c (.s (.bool true)))]) [.c (.s (.bool true)),.c (.s (.bool true))])] [az]) (I (aC avM [7] jT) (I (bb av6 [] [8] jT 9 [] [(8,.op (.build [.s (.bool false),.s (.bool false),.s (.bool false),.s (.bool false),.s (.bool false),.s (.bool false),.s (.bool false)] [(0,1),(1,1),(2,1),(3,1),(4,1),(5,1),(6,1)] [(0,.c (.s (.bool true))),(5,.c (.s (.bool true))),(6,.c (.s (.bool true)))]) [.c (.s (.bool true)),.c (.s (.bool true)),.c (.s (.bool true))])] [az]) (I (aC ap9 [8] jT) (I (bb as8 [] [9] jT 10 [] [(9,.op (.build [.s (.bool false),.s (.bool false),.s (.bool false),.s (.bool false),.s (.bool false),.s (.bool false),.s (.bool false)] [(0,1),(1,1),(2,1),(3,1),(4,1),(5,1),(6,1)] [(0,.c (.s (.bool true))),(1,.c (.s (.bool true))),(3,.c (.s (.bool true)))]) [.c (.s (.bool true)),.c (.s (.bool true)),.c (.s (.bool true))])] [az]) (I (aC alu [9] jT) (I (bb ayf [] [10] jT 11 [] [(10,.op (.build [.s (.bool false),.s (.bool false),.s (.bool false),.s (.bool false),.s (.bool false),.s (.bool false),.s (.bool false)] [(0,1),(1,1),(2,1),(3,1),(4,1),(5,1),(6,1)] [(1,.c (.s (.bool true))),(2,.c (.s (.bool true)))]) [.c (.s (.bool true)),.c (.s (.bool true))])] [az]) (I (aC aeY [10] jT) (I (bb anH [] [11] jT 12 [] [(11,.op (.build [.s (.bool false),.s (.bool false),.s (.bool false),.s (.bool false),.s (.bool false),.s (.bool false),.s (.bool false)] [(0,1),(1,1),(2,1),(3,1),(4,1),(5,1),(6,1)] [(0,.c (.s (.bool true))),(4,.c (.s (.bool true))),(5,.c (.s (.bool true)))]) [.c (.s (.bool true)),.c (.s (.bool true)),.c (.s (.bool true))])] [az]) (I (aC amx [11] jT) (I (bb aid [] [12] jT 13 [] [(12,.op (.build [.s (.bool false),.s (.bool false),.s (.bool false),.s (.bool false),.s (.bool false),.s (.bool false),.s (.bool false)] [(0,1),(1,1),(2,1),(3,1),(4,1),(5,1),(6,1)] [(0,.c (.s (.bool true))),(1,.c (.s (.bool true))),(5,.c (.s (.bool true)))]) [.c (.s (.bool true)),.c (.s (.bool true)),.c (.s (.bool true))])] [az]) (I (aC axu [12] jT) (I (bb asW [] [13] jT 14 [] [(13,.op (.build [.s (.bool false),.s (.bool false),.s (.bool false),.s (.bool false),.s (.bool false),.s (.bool false),.s (.bool false)] [(0,1),(1,1),(2,1),(3,1),(4,1),(5,1),(6,1)] [(6,.c (.s (.bool true)))]) [.c (.s (.bool true))])] [az]) (I (aC auN [13] jT) (I (bb ana [] [14] jT 15 [] [(14,.op (.build [.s (.bool false),.s (.bool false),.s (.bool false),.s (.bool false),.s (.bool false),.s (.bool false),.s (.bool false)] [(0,1),(1,1),(2,1),(3,1),(4,1),(5,1),(6,1)] [(6,.c (.s (.bool true)))]) [.c (.s (.bool true))])] [az]) (I (aC arE [14] jT) (I (bb ajL [] [15] jT 16 [] [(15,.op (.build [.s (.bool false),.s (.bool false),.s (.bool false),.s (.bool false),.s (.bool false),.s (.bool false),.s (.bool false)] [(0,1),(1,1),(2,1),(3,1),(4,1),(5,1),(6,1)] [(1,.c (.s (.bool true)))]) [.c (.s (.bool true))])] [az]) (I (aC auh [15] jT) ((cA alP [1,2,3,4,5,6,7,8,9,10,11,12,13,14,15,16] [0] 17 [] [(0,.t 1)] [.aS 1,.aS 1]))))))))))))))))))))))))))))))))
def NH:=I (aB axv OV [] 3 [] [] [.cb (.s (.bool false))]) (I aA4 (I (bk OV 0) (I (aB awi [6,7,8,9,10,11,12,13,14,15] [16] 17 [] [(16,.pick (.pick (.op (.bin .eql (.t 0) (.c (.s (.string ⟨#[]⟩)))) [.t 0,.c (.s (.string ⟨#[]⟩))]) (.c (.s (.bool true))) (fY .gtr 64 (.op (.da .p (.t 0)) [.t 0]))) (.c (.s (.bool true))) (.op (.bin .eql (.t 0) (.c (.s (.string ⟨#[110,117,108,108]⟩)))) [.t 0,.c (.s (.string ⟨#[110,117,108,108]⟩))]))] [.aS 0,dx,dx,.sub 0 [0,2,0,0] [8],.sub 0 [0,2,0] [8],.sub 0 [0,2] [8],bT,bT,.sub 0 [2,0] [13],.sub 0 [2] [13],az]) (I (aB ahB [0,16] [2] 3 [] [(2,gV)] [.cb (.s (.bool false))]) (I (aB ane [16,17] [18,19] 20 [] [(18,.op (.da .p (.t 0)) [.t 0]),(19,iE 0)] [.aS 0,az,.cb (.s (.int .i64 0))]) (I (aB adE [] [20] 21 [] [(20,fj .lss (.t 19) (.t 18))] [az]) (I (aB aqa [20,21] [3] 22 [] [(3,.t 19)] [.aS 19,.aS 19]) (I (aB abp [22,23,24] [4] 25 [] [(4,.op (.pk (.t 0) (.t 1)) [.t 0,.t 3])] [.aS 0,.aS 3,az,az]) (I (aB ajf [25,26,27,28,29,30,31,32,33,34,35,36,37,38,39,40,41,42] [5] 43 [] [(5,.pick (.pick (.pick (mR .geq 97 (.t 4)) (mR .leq 122 (.t 4)) gV) gA (.pick (mR .geq 65 (.t 4)) (mR .leq 90 (.t 4)) gV)) gA (nv 95 (.t 4)))] [.aS 4,ee,ee,.sub 0 [0,0,1,0] [27],.sub 0 [0,0,1] [27],dx,dx,.sub 0 [0,2,0,0] [31],.sub 0 [0,2,0] [31],.sub 0 [0,2,0] [31],.sub 0 [0,2,1,0] [31,34],.sub 0 [0,2,1] [31,34],.sub 0 [0,2] [31],bT,bT,.sub 0 [2,0] [39],.sub 0 [2] [39],az,az]) (I (aB ayp [3,4,5,43,44,45,46,47,48,49,50,51,52,53,54,55,56,57,58,59] [60] 61 [] [(60,.pick (kO (.t 5)) (.pick (fY .eql 0 (.t 3)) gA (.pick (.pick (mR .lss 48 (.t 4)) gA (mR .gtr 57 (.t 4))) (mR .neq 46 (.t 4)) gV)) gV)] [.aS 5,bT,bT,.sub 0 [1,0,0] [45],.sub 0 [1,0] [45],.sub 0 [1,0] [45],.sub 0 [1,2,0,0,0] [45,48],.sub 0 [1,2,0,0] [45,48],.sub 0 [1,2,0,0] [45,48],.sub 0 [1,2,0,2,0] [45,48,51],.sub 0 [1,2,0,2] [45,48,51],.sub 0 [1,2,0] [45,48],.sub 0 [1,2,0] [45,48],.sub 0 [1,2,1,0] [45,48,55],.sub 0 [1,2,1] [45,48,55],.sub 0 [1,2] [45,48],.sub 0 [1] [45],az]) (I (aB ahF [0,18,19,60] [2] 3 [] [(2,gV)] [.cb (.s (.bool false))]) (I (aB abY [60,61] [19] 62 [] [(19,h2 1 (.t 19))] [az,az]) (I (bp Vy Sc) (I (aB ags [0,18,19,20] [2] 3 [] [(2,gA)] [.cb (.s (.bool true))]) (Sc.eq_1)))))))))))))))
def aDu:=I (aB amW J1 [] 5 [] [] [.cb (.s (.bool false))]) (I aLb (I (bk J1 0) (I (bk J1 1) (I (bb acz [0,1] [5,6] NR 7 [] [(5,.t 0),(6,.t 1)] [.aS 0,.aS 1]) (I (aC aut [5,6] NR) ((cA acE [0,1,5,6,7,8] [4] 9 [] [(4,fY .geq 0 (.t 7))] [az,az])))))))
def ayM:=I (aB anG Oq [] 3 [] [] [.cb (.s (.bool false))]) (I aBI (I (bk Oq 0) (I (bb as1 [0] [3] [0,3,4,5] 4 [] [(3,.t 0)] [.aS 0]) (I (aC avT [3] [0,3,4,5]) ((cA awU [0,3,4,5] [2] 6 [] [(2,kO (.t 4))] [az,az]))))))
def aRW:=I (aC amy [0,3,4,5,6,7] Er) (I (cA Zt Er [] 5 [] [] [.cb (.s (.bool false))]) (I (a6 Er 0) (I (bk Er 1) (I (bk Er 2) (I (a6 Er 4) (I (bb avH [1,2] [5,6] [1,2,5,6,7] 7 [] [(5,.t 1),(6,.op (.ez 136 [] [.t 0]) [.t 2])] [.aS 1,eE]) (I (aC alo [5,6] [1,2,5,6,7]) ((cA ao0 [1,2,5,6,7] [4] 5 [] [(4,.t 7)] [.aS 7])))))))))
def aRq:=I (aB aoW Jk [] 5 [] [] [.cb (.s (.bool false))]) (I aOE (I (bk Jk 0) (I (bk Jk 1) (I (bb acx [0,1] [5,6] NR 7 [] [(5,.t 0),(6,.t 1)] [.aS 0,.aS 1]) (I (aC ard [5,6] NR) ((cA aw3 [0,1,5,6,7,8] [4] 9 [] [(4,fY .geq 0 (.t 7))] [az,az])))))))
def aWj:=I (aB amn Pl [] 3 [] [] [.cb (.s (.bool false))]) (I aRe (I (bk Pl 0) ((aB apF [0,3,4,5,6,7,8] [2] 9 [] [(2,.pick (nv 10 (.t 0)) gA (nv 11 (.t 0)))] [.aS 0,bT,bT,.sub 0 [2,0] [5],.sub 0 [2] [5],az,az]))))
def JW:=I (aC aqh [1,2,4,5,6,7,8,9,10,11,12,13,14,15,16,17] z7) (I (aC aas [] z7) (I (cl ah0 z7) (I (bk z7 0) (I (a6 z7 1) (I (bk z7 3) (I (bk z7 4) (I (bk z7 5) (I (bb auZ [0] [8] [0,8] 9 [] [(8,.t 0)] [.aS 0]) (I (cl anU [0,8]) (I (aC ak4 [9] [9,10]) (I (cl acr [9,10]) (I (aC abH [] [11]) (I (cl agK [11]) (I (bb axi [3,7] [12,13,14] [3,7,12,13,14] 15 [] [(12,bn (.t 3)),(13,gZ 3 (.t 6)),(14,gZ 8 (.t 7))] [az,eE,Ae]) (I (cl ahb [3,7,12,13,14]) (I (bb abg [6,15] [16] [4,5,6,15,16] 17 [] [(16,gZ 3 (.t 6))] [az]) (I (aC an0 [4,16] [4,5,6,15,16]) (I (cl auU [4,5,6,15,16]) (I (bb akl [3,9] [17] [3,9,17] 18 [] [(17,.op (.build [.s (.int .i64 0),.s (.int .i64 0),.s (.int .i64 0)] [(0,1),(1,1),(2,1)] []) [])] [az]) (I (aC awE [17] [3,9,17]) ((cl agh [3,9,17]))))))))))))))))))))))
def alz:=I (a6 Br 0) (I (bk Br 1) (I (bk Br 2) (I (a6 Br 3) (I (a6 Br 4) (I (a6 Br 5) (I aWT (I (aC NP [1] v8) (I (cA amE v8 [] 6 [] [] [.cb (.s (.bool false))]) (I (a6 v8 0) (I (a6 v8 1) (I (bk v8 2) (I (a6 v8 3) (I (bk v8 4) (I (a6 v8 5) (I (bb aof [2,8,9,10,11,12,13,14,15] [16,17] W2 18 [] [(16,iH 0 (.op (.ik (.int .u8) (.agg [.s (.bool false),.s (.bool false),.s (.bool false),.s (.bool false),.s (.bool false),.s (.bool false),.s (.bool false)]) (.t 0) (.t 1) true) [bn (bq 1 (eM (bn (.t 2)))),bn (bq 0 (.t 4))])),(17,iH 1 (.op (.ik (.int .u8) (.agg [.s (.bool false),.s (.bool false),.s (.bool false),.s (.bool false),.s (.bool false),.s (.bool false),.s (.bool false)]) (.t 0) (.t 1) true) [bn (bq 1 (eM (bn (.t 2)))),bn (bq 0 (.t 4))]))] [Bd,lG,ee,dx,Hx,AT,bT,bT,az,eE]) (I (aC ajF [] W2) (I (aC adT [16] W2) (I (cA ajo [2,8,9,10,11,12,13,14,15,16,17] [7] 8 [] [(7,.t 17)] [.aS 17]) (I (aB aun [7,18,19,20,21,22,23,24,25,26,27,28,29,30,31,32,33,34,35,36,37,38,39,40,41,42,43,44,45,46,47,48,49,50,51,52,53,54,55,56,57,58,59,60,61,62,63,64,65,66,67,68,69,70,71,72,73,74,75,76,77,78,79,80,81,82,83,84,85,86,87,88,89,90] [91] 92 [] [(91,.pick (.pick (.pick (.pick (.pick (.pick (.pick (kO (.t 7)) (.c (.s (.bool true))) (.pick (kO (bn (bq 0 (.t 6)))) (.op (.bin .neq (.t 0) (.c (.s (.string ⟨#[]⟩)))) [bn (bq 1 (.t 4)),.c (.s (.string ⟨#[]⟩))]) (.c (.s (.bool false))))) (.c (.s (.bool true))) (.pick (kO (bn (bq 1 (.t 6)))) (.op (.bin .neq (.t 0) (.c (.s (.string ⟨#[]⟩)))) [bn (bq 2 (.t 4)),.c (.s (.string ⟨#[]⟩))]) (.c (.s (.bool false))))) (.c (.s (.bool true))) (.pick (kO (bn (bq 2 (.t 6)))) (.op (.bin .neq (.t 0) (.c (.s (.string ⟨#[]⟩)))) [bn (bq 3 (.t 4)),.c (.s (.string ⟨#[]⟩))]) (.c (.s (.bool false))))) (.c (.s (.bool true))) (.pick (kO (bn (bq 3 (.t 6)))) (fY .neq 0 (bn (bq 4 (.t 4)))) (.c (.s (.bool false))))) (.c (.s (.bool true))) (.pick (kO (bn (bq 4 (.t 6)))) (.op (.bin .neq (.t 0) (.c (.s (.string ⟨#[]⟩)))) [bn (bq 5 (.t 4)),.c (.s (.string ⟨#[]⟩))]) (.c (.s (.bool false))))) (.c (.s (.bool true))) (.pick (kO (bn (bq 5 (.t 6)))) (fY .gtr 0 (fX (bn (bq 6 (.t 4))))) (.c (.s (.bool false))))) (.c (.s (.bool true))) (.pick (kO (bn (bq 6 (.t 6)))) (fY .gtr 0 (fX (bn (bq 7 (.t 4))))) (.c (.s (.bool false)))))] [.aS 7,MW,MW,.sub 0 [0,0,0,0,0,0,2,0,0,0] [20],.sub 0 [0,0,0,0,0,0,2,0,0] [20],.sub 0 [0,0,0,0,0,0,2,0] [20],.sub 0 [0,0,0,0,0,0,2,0] [20],.sub 0 [0,0,0,0,0,0,2,1,0,0] [20,24],.sub 0 [0,0,0,0,0,0,2,1,0] [20,24],.sub 0 [0,0,0,0,0,0,2,1] [20,24],.sub 0 [0,0,0,0,0,0,2] [20],MM,MM,.sub 0 [0,0,0,0,0,2,0,0,0] [30],.sub 0 [0,0,0,0,0,2,0,0] [30],.sub 0 [0,0,0,0,0,2,0] [30],.sub 0 [0,0,0,0,0,2,0] [30],.sub 0 [0,0,0,0,0,2,1,0,0] [30,34],.sub 0 [0,0,0,0,0,2,1,0] [30,34],.sub 0 [0,0,0,0,0,2,1] [30,34],.sub 0 [0,0,0,0,0,2] [30],Bd,Bd,.sub 0 [0,0,0,0,2,0,0,0] [40],.sub 0 [0,0,0,0,2,0,0] [40],.sub 0 [0,0,0,0,2,0] [40],.sub 0 [0,0,0,0,2,0] [40],.sub 0 [0,0,0,0,2,1,0,0] [40,44],.sub 0 [0,0,0,0,2,1,0] [40,44],.sub 0 [0,0,0,0,2,1] [40,44],.sub 0 [0,0,0,0,2] [40],lG,lG,.sub 0 [0,0,0,2,0,0,0] [50],.sub 0 [0,0,0,2,0,0] [50],.sub 0 [0,0,0,2,0] [50],.sub 0 [0,0,0,2,0] [50],.sub 0 [0,0,0,2,1,0,0] [50,54],.sub 0 [0,0,0,2,1,0] [50,54],.sub 0 [0,0,0,2,1] [50,54],.sub 0 [0,0,0,2] [50],ee,ee,.sub 0 [0,0,2,0,0,0] [60],.sub 0 [0,0,2,0,0] [60],.sub 0 [0,0,2,0] [60],.sub 0 [0,0,2,0] [60],.sub 0 [0,0,2,1,0,0] [60,64],.sub 0 [0,0,2,1,0] [60,64],.sub 0 [0,0,2,1] [60,64],.sub 0 [0,0,2] [60],dx,dx,.sub 0 [0,2,0,0,0] [70],.sub 0 [0,2,0,0] [70],.sub 0 [0,2,0] [70],.sub 0 [0,2,0] [70],.sub 0 [0,2,1,0,0,0] [70,74],.sub 0 [0,2,1,0,0] [70,74],.sub 0 [0,2,1,0] [70,74],.sub 0 [0,2,1] [70,74],.sub 0 [0,2] [70],bT,bT,.sub 0 [2,0,0,0] [81],.sub 0 [2,0,0] [81],.sub 0 [2,0] [81],.sub 0 [2,0] [81],.sub 0 [2,1,0,0,0] [81,85],.sub 0 [2,1,0,0] [81,85],.sub 0 [2,1,0] [81,85],.sub 0 [2,1] [81,85],.sub 0 [2] [81],az]) (I (aB ani [4,6,91] [5] 6 [] [(5,gA)] [.cb (.s (.bool true))]) (I (bb arJ [91,92,93,94,95,96,97,98] [99] NZ 100 [] [(99,.pick (bn (bq 0 (.t 6))) (.op (.bin .eql (.t 0) (.c (.s (.string ⟨#[]⟩)))) [bn (bq 1 (.t 4)),.c (.s (.string ⟨#[]⟩))]) (.c (.s (.bool false))))] [dx,bT,bT,.sub 0 [1,0,0] [94],.sub 0 [1,0] [94],.sub 0 [1] [94],az,az]) (I (aC aoX [] NZ) (I (aC aad [100] NZ) (I (aC aeH [101] NZ) (I (cA air [6,91,92,93,94,95,96,97,98,99,100,101,102,103,104,105,106,107,108,109,110,111,112,113,114,115,116,117,118,119,120,121,122,123,124,125,126,127,128,129,130,131,132,133,134,135] [136] 137 [] [(136,.pick (.pick (.pick (.pick (.t 99) (kO (.t 102)) (.c (.s (.bool false)))) (.c (.s (.bool true))) (.pick (.pick (bn (bq 1 (.t 6))) (.op (.bin .eql (.t 0) (.c (.s (.string ⟨#[]⟩)))) [bn (bq 2 (.t 4)),.c (.s (.string ⟨#[]⟩))]) (.c (.s (.bool false)))) (mR .neq 14 (bn (bq 0 (.t 4)))) (.c (.s (.bool false))))) (.c (.s (.bool true))) (.pick (bn (bq 2 (.t 6))) (.op (.bin .eql (.t 0) (.c (.s (.string ⟨#[]⟩)))) [bn (bq 3 (.t 4)),.c (.s (.string ⟨#[]⟩))]) (.c (.s (.bool false))))) (.c (.s (.bool true))) (.pick (bn (bq 4 (.t 6))) (.op (.bin .eql (.t 0) (.c (.s (.string ⟨#[]⟩)))) [bn (bq 5 (.t 4)),.c (.s (.string ⟨#[]⟩))]) (.c (.s (.bool false)))))] [.sub 0 [0,0,0,1] [99],ee,ee,.sub 0 [0,0,2,0,0,0] [105],.sub 0 [0,0,2,0,0] [105],.sub 0 [0,0,2,0,0] [105],.sub 0 [0,0,2,0,1,0,0] [105,108],.sub 0 [0,0,2,0,1,0] [105,108],.sub 0 [0,0,2,0,1] [105,108],.sub 0 [0,0,2,0] [105],.sub 0 [0,0,2,0] [105],.sub 0 [0,0,2,1,0,0] [105,113],.sub 0 [0,0,2,1,0] [105,113],.sub 0 [0,0,2,1] [105,113],.sub 0 [0,0,2] [105],dx,dx,.sub 0 [0,2,0,0] [119],.sub 0 [0,2,0] [119],.sub 0 [0,2,0] [119],.sub 0 [0,2,1,0,0] [119,122],.sub 0 [0,2,1,0] [119,122],.sub 0 [0,2,1] [119,122],.sub 0 [0,2] [119],bT,bT,.sub 0 [2,0,0] [128],.sub 0 [2,0] [128],.sub 0 [2,0] [128],.sub 0 [2,1,0,0] [128,131],.sub 0 [2,1,0] [128,131],.sub 0 [2,1] [128,131],.sub 0 [2] [128],az]) (I (aB asQ [4,136] [5] 6 [] [(5,gA)] [.cb (.s (.bool true))]) (I (aB akg [136,137] [138] 139 [] [(138,bn (bq 0 (.t 4)))] [bT,az]) (I (aB agJ [140] [139] 141 [] [(139,nv 1 (.t 138))] [az,az]) (I (aB ayd [141] [139] 142 [] [(139,nv 2 (.t 138))] [az,az]) (I (aB afa [4,138,139,142,143,144,145,146,147,148,149] [5] 150 [] [(5,.pick (fY .lss 1 (bn (bq 4 (.t 4)))) gA (fY .gtr 64 (bn (bq 4 (.t 4)))))] [ee,dx,bT,bT,.sub 0 [2,0,0] [145],.sub 0 [2,0] [145],.sub 0 [2] [145],az,az]) (I (aB auy [139,151] [150] 152 [] [(150,nv 7 (.t 138))] [az,az]) (I (aB anD [4,138,150,152,153,154,155,156,157,158,159] [5] 160 [] [(5,.pick (fY .lss 0 (bn (bq 4 (.t 4)))) gA (fY .geq 64 (bn (bq 4 (.t 4)))))] [ee,dx,bT,bT,.sub 0 [2,0,0] [155],.sub 0 [2,0] [155],.sub 0 [2] [155],az,az]) (I (aB akc [150,161] [160] 162 [] [(160,nv 6 (.t 138))] [az,az]) (I (aB anN [4,138,160,162,163,164,165,166,167,168,169,170,171,172,173,174] [5] 175 [] [(5,.pick (fY .eql 0 (fX (bn (bq 6 (.t 4))))) gA (fj .neq (fX (bn (bq 6 (.t 4)))) (fX (bn (bq 7 (.t 4))))))] [lG,ee,dx,bT,bT,.sub 0 [2,0,0,0] [166],.sub 0 [2,0,0] [166],.sub 0 [2,0] [166],.sub 0 [2,1,0,0] [166],.sub 0 [2,1,0] [166],.sub 0 [2,1] [166],.sub 0 [2] [166],az,az]) (I (aB at7 [160,176] [175] 177 [] [(175,nv 12 (.t 138))] [az,az]) (I (aB aug [4,138,175,177,178,179,180] [5] 181 [] [(5,fY .neq 2 (fX (bn (bq 7 (.t 4)))))] [ee,dx,bT,az,az]) (I (aB apa [138,175,182] [181] 183 [] [(181,nv 13 (.t 138))] [az,az]) (I (aB ax4 [4,181,183,184,185,186] [5] 187 [] [(5,fY .neq 1 (fX (bn (bq 7 (.t 4)))))] [ee,dx,bT,az,az]) ((aB aie [4,181] [5] 6 [] [(5,gV)] [.cb (.s (.bool false))]))))))))))))))))))))))))))))))))))))))))
def HZ:=I (aB ahd Is [] 5 [] [] [.cb (.s (.int .i64 0))]) (I aSD (I (bk Is 0) (I (bk Is 1) (I (aB Zg [6] [7,8] 9 [] [(7,fX (.t 0)),(8,iE 0)] [.aS 0,az,.cb (.s (.int .i64 0))]) (I (aB aeJ [] [9] 10 [] [(9,fj .lss (.t 8) (.t 7))] [az]) (I (aB aeA [9,10] [5] 11 [] [(5,.t 8)] [.aS 8,.aS 8]) (I (bb aho [12,13,14] [11,15] [11,12,13,14,15] 16 [] [(11,.t 1),(15,bn (je 1 (.t 0) (.t 5)))] [.aS 1,.aS 0,.aS 5,me,eE]) (I (cl am6 [11,12,13,14,15]) (I (aB anS [0,1,5,7,8,16,17] [4] 18 [] [(4,.t 5)] [.aS 5,.aS 5]) (I (aB ahA [5,16,18] [8] 19 [] [(8,h2 1 (.t 8))] [az,az]) (I (bp C6 R6) (I (aB YT [0,1,7,8,9] [4] 5 [] [(4,iE (-1))] [.cb (.s (.int .i64 (-1)))]) (R6.eq_1)))))))))))))
def NL:=I (aB afA Ja [] 4 [] [] [.cb (.s (.bool false))]) (I aJ9 (I (bk Ja 0) (I (bk Ja 1) (I (bb awC [4,5] [6] Wk 7 [] [(6,.op (.bin .neq (.t 0) (.c (.s (.string ⟨#[]⟩)))) [.t 0,.c (.s (.string ⟨#[]⟩))])] [.aS 0,az,az]) (I (aC aaW [] Wk) (I (aC ann [7] Wk) ((cA ZO [0,1,4,5,6,7,8,9,10,11,12,13,14,15,16,17,18] [3] 19 [] [(3,.pick (.pick (.t 6) (kO (.t 8)) (.c (.s (.bool false)))) (kO (.pick (bn (.t 1)) (.op (.bin .eql (.t 0) (.c (.s (.string ⟨#[110,117,108,108]⟩)))) [.t 0,.c (.s (.string ⟨#[110,117,108,108]⟩))]) (.c (.s (.bool false))))) (.c (.s (.bool false))))] [.sub 0 [0,1] [6],bT,bT,.sub 0 [1,0,0] [11],.sub 0 [1,0,0] [11],.sub 0 [1,0,1,0] [11,13],.sub 0 [1,0,1] [11,13],.sub 0 [1,0] [11],.sub 0 [1] [11],az,az]))))))))
def KM:=I (aB ain Jp [] 5 [] [] [.cb (.s (.int .i64 0))]) (I aUM (I (bk Jp 0) (I (bk Jp 1) (I (aB anc [6] [7,8] 9 [] [(7,fX (.t 0)),(8,iE 0)] [.aS 0,az,.cb (.s (.int .i64 0))]) (I (aB apt [] [9] 10 [] [(9,fj .lss (.t 8) (.t 7))] [az]) (I (aB abC [9,10] [5] 11 [] [(5,.t 8)] [.aS 8,.aS 8]) (I (aB anM [11,12,13,14,15] [16] 17 [] [(16,fj .eql (.t 1) (bn (je 1 (.t 0) (.t 5))))] [.aS 1,.aS 0,.aS 5,q2,mN,az]) (I (aB au6 [0,1,5,7,8,16,17] [4] 18 [] [(4,.t 5)] [.aS 5,.aS 5]) (I (aB apC [5,16,18] [8] 19 [] [(8,h2 1 (.t 8))] [az,az]) (I (bp Ec V3) (I (aB ade [0,1,7,8,9] [4] 5 [] [(4,iE (-1))] [.cb (.s (.int .i64 (-1)))]) (V3.eq_1))))))))))))
def aVV:=I (aC abT [0,2,3] Gv) (I (cA ano Gv [] 3 [] [] [.cb (.s .nilFunc)]) (I (a6 Gv 0) (I (bk Gv 1) (I (a6 Gv 2) ((aB auC [1,3] [2] 4 [] [(2,.op (.ez 168 [] [.t 0]) [.t 1])] [az,az]))))))
def wc:=I (aB aw8 Jh [13,14,15] 16 [] [(13,bn (bq 0 (bq 0 (eM (bn (.t 1)))))),(14,fX (bn (bq 0 (bq 0 (eM (bn (.t 1))))))),(15,iE 0)] [lG,ee,dx,bT,az,eE,.cb (.s (.int .i64 0))]) (I aAe (I (bk Jh 0) (I (a6 Jh 1) (I (aB ajI [] [16] 17 [] [(16,fj .lss (.t 15) (.t 14))] [az]) (I (bb adr [16,18] [17,19] [16,17,18,19] 20 [] [(17,.t 15),(19,gZ 3 (je 3 (.t 13) (.t 15)))] [.aS 15,me,eE]) (I (aC agz [] [16,17,18,19]) (I (bb ahK [17] [3] [16,17,18,19] 4 [] [(3,.t 17)] [.aS 17]) (I (cl aqc [16,17,18,19]) (I (aB agU [4,20] [21,22,23] 24 [] [(21,bn (bq 2 (.t 4))),(22,fX (bn (bq 2 (.t 4)))),(23,iE 0)] [bT,az,eE,.cb (.s (.int .i64 0))]) (I (aB ad9 [] [24] 25 [] [(24,fj .lss (.t 23) (.t 22))] [az]) (I (bb af7 [24,26] [25,27] [24,25,26,27] 28 [] [(25,.t 23),(27,gZ 2 (je 2 (.t 21) (.t 23)))] [.aS 23,me,eE]) (I (aC aal [] [24,25,26,27]) (I (bb ax5 [25] [5] [24,25,26,27] 6 [] [(5,.t 25)] [.aS 25]) (I (cl anY [24,25,26,27]) (I (aB awS [6,28] [29,30,31] 32 [] [(29,bn (bq 1 (.t 6))),(30,fX (bn (bq 1 (.t 6)))),(31,iE 0)] [bT,az,eE,.cb (.s (.int .i64 0))]) (I (aB an3 [] [32] 33 [] [(32,fj .lss (.t 31) (.t 30))] [az]) (I (bb ang [32,34] [33,35] [32,33,34,35] 36 [] [(33,.t 31),(35,gZ 8 (je 8 (.t 29) (.t 31)))] [.aS 31,me,eE]) (I (aC asg [] [32,33,34,35]) (I (bb arL [33] [7] [32,33,34,35] 8 [] [(7,.t 33)] [.aS 33]) (I (cl acB [32,33,34,35]) (I (bb aih [7,8,37,38,39] [36,40,41] [7,8,36,37,38,39,40,41,42] 42 [] [(36,.t 0),(40,.op (.build [.s (.int .i64 0),.s (.int .i64 0),.s (.int .i64 0)] [(0,1),(1,1),(2,1)] [(0,.t 0),(1,.t 1),(2,.t 2)]) [.t 3,.t 5,.t 7]),(41,gZ 8 (.t 8))] [.aS 0,.aS 3,.aS 5,.aS 7,eE,Ae]) (I (aC atu [36,40,41] [7,8,36,37,38,39,40,41,42]) (I (cA avQ [7,8,36,37,38,39,40,41,42] [43] 44 [] [(43,kO (.t 42))] [az]) (I (aB an8 [43,44] [31] 45 [] [(31,h2 1 (.t 31))] [az,az]) (I (bp ID Sb) (I (aB auP [5,29,30,31,32,45] [23] 46 [] [(23,h2 1 (.t 23))] [az,az]) (I (bp Iq WU) (I (aB aey [3,21,22,23,24,46] [15] 47 [] [(15,h2 1 (.t 15))] [az,az]) (I (bp Kr V1) (I Sb.eq_1 (I V1.eq_1 (WU.eq_1))))))))))))))))))))))))))))))))
theorem ay2:dS Tryz.prog dH 92=some (false,uM.ntmps,uM.results,uM.body.bare):=by kernel_rfl
theorem aK8:dS Tryz.prog dH 7=some (false,sn.ntmps,sn.results,sn.body.bare):=by kernel_rfl
theorem aCX:dS Tryz.prog dH 15=some (false,sy.ntmps,sy.results,sy.body.bare):=by kernel_rfl
theorem aQM:dS Tryz.prog dH 35=some (false,zQ.ntmps,zQ.results,zQ.body.bare):=by kernel_rfl
theorem aB8:dS Tryz.prog dH 93=some (false,xR.ntmps,xR.results,xR.body.bare):=by kernel_rfl
theorem aL4:dS Tryz.prog dH 94=some (false,vS.ntmps,vS.results,vS.body.bare):=by kernel_rfl
theorem aFN:dS Tryz.prog dH 95=some (false,x4.ntmps,x4.results,x4.body.bare):=by kernel_rfl
theorem aLW:dS Tryz.prog dH 96=some (false,AB.ntmps,AB.results,AB.body.bare):=by kernel_rfl
theorem aUc:dS Tryz.prog dH 100=some (false,vU.ntmps,vU.results,vU.body.bare):=by kernel_rfl
theorem aHc:dS Tryz.prog dH 102=some (false,wI.ntmps,wI.results,wI.body.bare):=by kernel_rfl
theorem aCN:dS Tryz.prog dH 104=some (false,uY.ntmps,uY.results,uY.body.bare):=by kernel_rfl
theorem aDa:dS Tryz.prog dH 135=some (false,r'.ntmps,r'.results,r'.body.bare):=by kernel_rfl
theorem aBT:dS Tryz.prog dH 136=some (false,sE.ntmps,sE.results,sE.body.bare):=by kernel_rfl
theorem aKm:dS Tryz.prog dH 137=some (false,vT.ntmps,vT.results,vT.body.bare):=by kernel_rfl
theorem aW5:dS Tryz.prog dH 140=some (false,yV.ntmps,yV.results,yV.body.bare):=by kernel_rfl
theorem aPS:dS Tryz.prog dH 168=some (false,ue.ntmps,ue.results,ue.body.bare):=by kernel_rfl
abbrev Ju:Nat:=16
def w0:=[0,3]++List.range' 5 50
def ai8:=[bws 5 dd]
def OI:=q 4 (.alloc [c9,c9,c9])::ai8
def TG:=[q 2 (.box (.t 0))]
def aye:=TG++OI
def Es:=[0]++List.range' 3 52
def azJ(call:c5)(it:hE)(base:Nat)(f:List V)(H:ad):aL call it base (.region aye [] w0) f H=nZ call it base (.region OI [] w0) (oH [] TG Es (cI call base [⟨some 2,.box (.t 0),none⟩] f H)):=(xu call it base TG OI (kc:=Es) (by kernel_rfl) f H).trans (by rw[vK];rfl)
def ahe:=[aw 6 11]
def aon:=q 11 (.box (.t 10))::ahe
def aVZ:=[q 10 (.build [e9,.s (.map none)] [(0,1),(1,1)] [(0,.t 8),(1,.t 9)])]
def apj:=aVZ++aon
def afC:=q 9 (.mK (.c (.fn 35 [] [])) [])::apj
def aFI:=[q 8 (.load true 1 (.t 2))]
def ad6:=aFI++afC
def auz:=[aw 45 12,aw 46 1,q 47 (.ik (.int .u8) (.s .nilFunc) (.t 45) (.t 46) false),aw 7 47]
def ao2:=eB (.eJ (.int .u8) (.t 12) (cR 16) (.t 44))::auz
def aHo:=[aw 43 6,q 44 (.ez 51 [.t 43] [])]
def ZM:=aHo++ao2
def avp:=eB (.eJ (.int .u8) (.t 12) (cR 15) (.t 42))::ZM
def aJy:=[aw 41 6,q 42 (.ez 50 [.t 41] [])]
def ad0:=aJy++avp
def aan:=eB (.eJ (.int .u8) (.t 12) (cR 14) (.t 40))::ad0
def aCU:=[aw 39 6,q 40 (.ez 49 [.t 39] [])]
def arB:=aCU++aan
def aol:=eB (.eJ (.int .u8) (.t 12) (cR 13) (.t 38))::arB
def aMX:=[aw 37 6,q 38 (.ez 48 [.t 37] [])]
def asK:=aMX++aol
def aac:=eB (.eJ (.int .u8) (.t 12) (cR 12) (.t 36))::asK
def aTF:=[aw 35 6,q 36 (.ez 47 [.t 35] [])]
def abb:=aTF++aac
def awd:=eB (.eJ (.int .u8) (.t 12) (cR 11) (.t 34))::abb
def aT0:=[aw 33 6,q 34 (.ez 46 [.t 33] [])]
def akp:=aT0++awd
def amV:=eB (.eJ (.int .u8) (.t 12) (cR 10) (.t 32))::akp
def aSo:=[aw 31 6,q 32 (.ez 45 [.t 31] [])]
def ZS:=aSo++amV
def ZB:=eB (.eJ (.int .u8) (.t 12) (cR 9) (.t 30))::ZS
def aWv:=[aw 29 6,q 30 (.ez 44 [.t 29] [])]
def aae:=aWv++ZB
def agN:=eB (.eJ (.int .u8) (.t 12) (cR 8) (.t 28))::aae
def aJj:=[aw 27 6,q 28 (.ez 43 [.t 27] [])]
def aym:=aJj++agN
def arW:=eB (.eJ (.int .u8) (.t 12) (cR 7) (.t 26))::aym
def aRr:=[aw 25 6,q 26 (.ez 42 [.t 25] [])]
def ahr:=aRr++arW
def awg:=eB (.eJ (.int .u8) (.t 12) (cR 6) (.t 24))::ahr
def aJQ:=[aw 23 6,q 24 (.ez 41 [.t 23] [])]
def aur:=aJQ++awg
def ah3:=eB (.eJ (.int .u8) (.t 12) (cR 5) (.t 22))::aur
def aUU:=[aw 21 6,q 22 (.ez 40 [.t 21] [])]
def aot:=aUU++ah3
def adS:=eB (.eJ (.int .u8) (.t 12) (cR 4) (.t 20))::aot
def aHk:=[aw 19 6,q 20 (.ez 39 [.t 19] [])]
def af5:=aHk++adS
def aat:=eB (.eJ (.int .u8) (.t 12) (cR 3) (.t 18))::af5
def aSc:=[aw 17 6,q 18 (.ez 38 [.t 17] [])]
def acN:=aSc++aat
def atf:=eB (.eJ (.int .u8) (.t 12) (cR 2) (.t 16))::acN
def aTP:=[aw 15 6,q 16 (.ez 37 [.t 15] [])]
def afo:=aTP++atf
def ae2:=eB (.eJ (.int .u8) (.t 12) (cR 1) (.t 14))::afo
def aOC:=[aw 13 6,q 14 (.ez 36 [.t 13] [])]
def auV:=aOC++ae2
def amu:=q 12 (.vN)::auV
def atZ:=[aw 48 7,q 49 (.uq .f false (.t 48))]
def YV:=[bws 5 dd]
def ayn:=dO 3 4 50::YV
def aVn:=[q 50 (.build [c9,c9,c9] [(0,1),(1,1),(2,1)] [])]
def afQ:=aVn++ayn
def ajy:=[aw 5 54]
def afs:=dO 3 4 53::ajy
def aGn:=[iD 53 52 0,iD 54 52 1]
def abv:=aGn++afs
def ahR:=q 52 (.call (.t 51) [])::abv
def aG3:=[aw 51 7]
def ahn:=aG3++ahR
def rS:dm:={ ntmps:=55,results:=[.cell 4 true 3,.tmp 5],body:=
 (.seq (.region aye [] w0)
 (.seq (.region ad6 [] [2,8,9,10,11])
 (.seq (.region amu [] [1,6,12,13,14,15,16,17,18,19,20,21,22,23,24,25,26,27,28,29,30,31,32,33,34,35,36,37,38,39,40,41,42,43,44,45,46,47])
 (.seq (.seq (.bh atZ [48] [49])
 (.cond (.t 49)
 (.seq (.region afQ [] [7,49,50])
 .ret)
 .skip))
 (.seq (.region ahn [] [7,49,51,52,53,54])
 .ret))))) }
theorem al8:eL (List.range' 2 (rS.ntmps-2)) rS.body=true:=by kernel_rfl
abbrev UM:Nat:=37
def Ca:=[1]++List.range' 3 137
def aSy:=bk Ca 0
def aGH:=bk Ca 2
def aRz:=a6 Ca 3
def IC:=[bws 3 dd]
def Vn:=[q 2 (.alloc [c9,c9,c9])]
def akb:=Vn++IC
def JA:=[1]++List.range' 3 137
def aSz:=bk JA 0
def aCm:=bk JA 2
def aBN:=a6 JA 3
def aPE(call:c5)(it:hE)(base:Nat)(f:List V)(H:ad):aL call it base (.region akb [] Ca) f H=nZ call it base (.region IC [] Ca) (oH [] Vn JA (cI call base [⟨some 2,.alloc [.s (.int .i64 0),.s (.int .i64 0),.s (.int .i64 0)],none⟩] f H)):=(xu call it base Vn IC (kc:=JA) (by kernel_rfl) f H).trans (by rw[vK];rfl)
def aVY:=aB IC Ca [] 4 [] [] [.cb (.s (.bool false))]
def az4:=cU IC Ca []
def agB:=[aw 12 0,eV 13 12,bM 14 0 13,bM 15 0 14,b3 16 15,q 17 (.da .s (.t 16)),bws 18 (cc 0)]
def aDl:=aB agB [12,13,14,15] [16,17,18] 19 [] [(16,bn (bq 0 (bq 0 (eM (.t 0))))),(17,fX (bn (bq 0 (bq 0 (eM (.t 0)))))),(18,iE 0)] [.aS 0,ee,dx,bT,az,eE,.cb (.s (.int .i64 0))]
def acU:=[q 19 (.bin .lss (.t 18) (.t 17))]
def aQg:=aB acU [] [19] 20 [] [(19,fj .lss (.t 18) (.t 17))] [az]
def ako:=[dO 3 5 22]
def aic:=[aw 4 20]
def aj9:=aic++ako
def ahw:=q 5 (.alloc [cF,e9,e9])::aj9
def ajw:=[aw 20 18,ji 21 3 16 18,q 22 (.load true 3 (.t 21))]
def axj:=ajw++ahw
def aHr:=aB ajw [19,21] [20,22] 23 [] [(20,.t 18),(22,gZ 3 (je 3 (.t 16) (.t 18)))] [.aS 18,me,eE]
def aPI:=fl axj [19,21] [20,22] [19,20,21,22]
def aKb:=aC ahw [] [19,20,21,22]
def aBu:=aB aic [20] [4] 5 [] [(4,.t 20)] [.aS 20]
def aRA:=fl aj9 [20] [4] [19,20,21,22]
def aLp:=cl ako [19,20,21,22]
def Uy:=[dF 31 (.t 27) bwd (.t 30)]
def ab6:=bD 30 (.call (.c (.fn 93 [] [])) [.t 29,.c (.fn 94 [] [])]) 27 false::Uy
def api:=dN 29 28 27 false::ab6
def av1:=dp 28 1 5 27 false::api
def afK:=[q 26 (.un .not (.t 25)),aw 27 26]
def ahS:=afK++av1
def alX:=cL 25 92 [.t 24]::ahS
def agI:=[bM 23 0 5,b3 24 23]
def ad3:=agI++alX
def aKS:=aB agI [23] [24] 25 [] [(24,bn (bq 0 (.t 5)))] [bT,az]
def aVt:=fl ad3 [23] [24] FI
def aCz:=aC alX [24] FI
def aOO:=aB afK [25,26] [27] 28 [] [(27,kO (.t 25))] [az,az]
def azf:=fl ahS [25,26] [27] FI
def aUb:=aC av1 [] FI
def aQT:=aC api [28] FI
def aUp:=aC ab6 [29] FI
def aIR:=aB Uy [23,24,25,26,27,28,29,30] [31] 32 [] [(31,.pick (.t 27) gA (.t 30))] [az]
def aIA:=cU Uy [23,24,25,26,27,28,29,30] [31]
def WM:=[bws 3 bwd]
def acW:=dO 3 2 33::WM
def Zh:=[aw 32 4,q 33 (.build [c9,c9,c9] [(0,1),(1,1),(2,1)] [(0,.t 32)])]
def Y9:=Zh++acW
def aWA:=aB Zh [0,4,5,16,17,18,31,32] [33] 34 [] [(33,.op (.build [.s (.int .i64 0),.s (.int .i64 0),.s (.int .i64 0)] [(0,1),(1,1),(2,1)] [(0,.t 0)]) [.t 4])] [.aS 4,az]
def aUT:=fl Y9 [0,4,5,16,17,18,31,32] [33] [0,4,5,16,17,18,31,32,33]
def aRg:=aC acW [33] [0,4,5,16,17,18,31,32,33]
def aGQ:=aB WM [0,4,5,16,17,18,31,32,33] [3] 4 [] [(3,gA)] [.cb (.s (.bool true))]
def aPd:=cU WM [0,4,5,16,17,18,31,32,33] [3]
def asU:=[bM 34 2 5,b3 35 34,q 36 (.da .s (.t 35)),bws 37 (cc 0)]
def aCV:=aB asU [5,31,34] [35,36,37] 38 [] [(35,bn (bq 2 (.t 5))),(36,fX (bn (bq 2 (.t 5)))),(37,iE 0)] [bT,az,eE,.cb (.s (.int .i64 0))]
def aia:=[q 38 (.bin .lss (.t 37) (.t 36))]
def aOH:=aB aia [] [38] 39 [] [(38,fj .lss (.t 37) (.t 36))] [az]
def ajA:=[dO 2 7 41]
def av0:=[aw 6 39]
def auW:=av0++ajA
def ab3:=q 7 (.alloc [cF,e9])::auW
def ag9:=[aw 39 37,ji 40 2 35 37,q 41 (.load true 2 (.t 40))]
def aaG:=ag9++ab3
def aLN:=aB ag9 [38,40] [39,41] 42 [] [(39,.t 37),(41,gZ 2 (je 2 (.t 35) (.t 37)))] [.aS 37,me,eE]
def aPu:=fl aaG [38,40] [39,41] [38,39,40,41]
def aKB:=aC ab3 [] [38,39,40,41]
def aNo:=aB av0 [39] [6] 7 [] [(6,.t 39)] [.aS 39]
def aAh:=fl auW [39] [6] [38,39,40,41]
def aAP:=cl ajA [38,39,40,41]
def Rw:=[q 45 (.un .not (.t 44))]
def aki:=cL 44 92 [.t 43]::Rw
def arP:=[bM 42 0 7,b3 43 42]
def amf:=arP++aki
def aDo:=aB arP [42] [43] 44 [] [(43,bn (bq 0 (.t 7)))] [bT,az]
def aNN:=fl amf [42] [43] [42,43,44]
def aKV:=aC aki [43] [42,43,44]
def aDj:=aB Rw [42,43,44] [45] 46 [] [(45,kO (.t 44))] [az]
def aLT:=cU Rw [42,43,44] [45]
def XJ:=[bws 3 bwd]
def Z1:=dO 3 2 48::XJ
def arU:=[aw 46 4,aw 47 6,q 48 (.build [c9,c9,c9] [(0,1),(1,1),(2,1)] [(0,.t 46),(1,.t 47)])]
def arD:=arU++Z1
def aEN:=aB arU [0,4,6,7,16,17,18,35,36,37,45,46,47] [48] 49 [] [(48,.op (.build [.s (.int .i64 0),.s (.int .i64 0),.s (.int .i64 0)] [(0,1),(1,1),(2,1)] [(0,.t 0),(1,.t 1)]) [.t 4,.t 6])] [.aS 4,.aS 6,az]
def aJZ:=fl arD [0,4,6,7,16,17,18,35,36,37,45,46,47] [48] alw
def aK3:=aC Z1 [48] alw
def azq:=aB XJ [0,4,6,7,16,17,18,35,36,37,45,46,47,48] [3] 4 [] [(3,gA)] [.cb (.s (.bool true))]
def aPt:=cU XJ [0,4,6,7,16,17,18,35,36,37,45,46,47,48] [3]
def acX:=[bM 49 1 7,b3 50 49,q 51 (.da .s (.t 50)),bws 52 (cc 0)]
def aNz:=aB acX [7,45,49] [50,51,52] 53 [] [(50,bn (bq 1 (.t 7))),(51,fX (bn (bq 1 (.t 7)))),(52,iE 0)] [bT,az,eE,.cb (.s (.int .i64 0))]
def aq5:=[q 53 (.bin .lss (.t 52) (.t 51))]
def UP:=aB aq5 [] [53] 54 [] [(53,fj .lss (.t 52) (.t 51))] [az]
def awG:=[dO 8 9 56]
def apr:=[aw 8 54]
def axE:=apr++awG
def anX:=q 9 (.alloc [h9,cF,cF,cF,c9,cF,e9,e9])::axE
def al7:=[aw 54 52,ji 55 8 50 52,q 56 (.load true 8 (.t 55))]
def aaU:=al7++anX
def TI:=aB al7 [53,55] [54,56] 57 [] [(54,.t 52),(56,gZ 8 (je 8 (.t 50) (.t 52)))] [.aS 52,me,eE]
def X7:=fl aaU [53,55] [54,56] [53,54,55,56]
def Vm:=aC anX [] [53,54,55,56]
def QL:=aB apr [54] [8] 9 [] [(8,.t 54)] [.aS 54]
def TF:=fl axE [54] [8] [53,54,55,56]
def Q8:=cl awG [53,54,55,56]
def aaj:=[dO 7 10 63]
def aqn:=q 10 (.alloc [cu,cu,cu,cu,cu,cu,cu])::aaj
def aiI:=[aw 57 0,eV 58 57,bM 59 1 58,b3 60 59,bM 61 0 9,b3 62 61,q 63 (.ik (.int .u8) (.agg [cu,cu,cu,cu,cu,cu,cu]) (.t 60) (.t 62) false)]
def Z2:=aiI++aqn
def U6:=aB aiI [57,58,59,60,61,62] [63] 64 [] [(63,.op (.ik (.int .u8) (.agg [.s (.bool false),.s (.bool false),.s (.bool false),.s (.bool false),.s (.bool false),.s (.bool false),.s (.bool false)]) (.t 0) (.t 1) false) [bn (bq 1 (eM (.t 0))),bn (bq 0 (.t 9))])] [.aS 0,ee,dx,bT,q2,mN,az]
def Yq:=fl Z2 [57,58,59,60,61,62] [63] [57,58,59,60,61,62,63]
def Xv:=aC aqn [] [57,58,59,60,61,62,63]
def Wr:=cl aaj [57,58,59,60,61,62,63]
def ZF:=[bD 100 (.pick (.t 95) (.t 99) dd) 92 false,dF 101 (.t 92) bwd (.t 100),aw 11 101]
def abL:=bD 99 (.call (.c (.fn 95 [] [])) [bwd,.t 98]) 95 true::ZF
def auA:=bD 98 (.gh 1 1 [cF] [(0,.t 97)]) 95 true::abL
def aaq:=dN 97 96 95 true::auA
def Y0:=dp 96 3 9 95 true::aaq
def axk:=ew 95 94 92 false::Y0
def apU:=dN 94 93 92 false::axk
def ac0:=dp 93 2 10 92 false::apU
def aOr:=[bD 90 (.pick (.t 85) (.t 89) dd) 82 false,dF 91 (.t 82) bwd (.t 90),aw 92 91]
def agq:=aOr++ac0
def asq:=bD 89 (.call (.c (.fn 95 [] [])) [bwd,.t 88]) 85 true::agq
def acZ:=bD 88 (.gh 1 1 [cF] [(0,.t 87)]) 85 true::asq
def ai5:=dN 87 86 85 true::acZ
def aj7:=dp 86 2 9 85 true::ai5
def ah5:=ew 85 84 82 false::aj7
def avi:=dN 84 83 82 false::ah5
def Z0:=dp 83 1 10 82 false::avi
def aQ6:=[bD 80 (.pick (.t 75) (.t 79) dd) 72 false,dF 81 (.t 72) bwd (.t 80),aw 82 81]
def aqk:=aQ6++Z0
def agx:=bD 79 (.call (.c (.fn 95 [] [])) [dd,.t 78]) 75 true::aqk
def ald:=bD 78 (.gh 1 1 [cF] [(0,.t 77)]) 75 true::agx
def ar5:=dN 77 76 75 true::ald
def aj5:=dp 76 5 9 75 true::ar5
def avz:=ew 75 74 72 false::aj5
def aei:=dN 74 73 72 false::avz
def ari:=dp 73 4 10 72 false::aei
def aGM:=[dF 71 (.t 66) (.t 70) dd,aw 72 71]
def apY:=aGM++ari
def ajB:=bD 70 (.call (.c (.fn 95 [] [])) [dd,.t 69]) 66 true::apY
def afN:=bD 69 (.gh 1 1 [cF] [(0,.t 68)]) 66 true::ajB
def aep:=dN 68 67 66 true::afN
def ah9:=dp 67 1 9 66 true::aep
def aIM:=[bM 64 0 10,b3 65 64,aw 66 65]
def TD:=aIM++ah9
def H5:gQ:=[⟨some 128,.pick (.t 124) (.c (.s (.bool true))) (.t 127),some (120,true)⟩,⟨some 129,.pick (.t 120) (.t 128) (.c (.s (.bool false))),some (117,false)⟩,⟨some 130,.pick (.t 117) (.c (.s (.bool true))) (.t 129),none⟩,⟨some 11,.move (.t 130),none⟩]
def aIQ:gQ:=[⟨some 127,.call (.c (.fn 96 [] [])) [.t 126,.c (.s (.string ⟨#[]⟩))],some (124,false)⟩]
def U4:gQ:=⟨some 127,.call (.c (.fn 96 [] [])) [.t 126,.c (.s (.string ⟨#[]⟩))],some (124,false)⟩::H5
def ayT:gQ:=[⟨some 126,.load false 1 (.t 125),some (124,false)⟩]
def Tv:gQ:=⟨some 126,.load false 1 (.t 125),some (124,false)⟩::U4
def aUN:gQ:=[⟨some 125,.fieldAddr 7 (.t 9),some (124,false)⟩]
def U5:gQ:=⟨some 125,.fieldAddr 7 (.t 9),some (124,false)⟩::Tv
def aRV:gQ:=[⟨some 124,.move (.t 123),some (120,true)⟩]
def Vu:gQ:=⟨some 124,.move (.t 123),some (120,true)⟩::U5
def aSR:gQ:=[⟨some 123,.call (.c (.fn 95 [] [])) [.c (.s (.bool false)),.t 122],some (120,true)⟩]
def Sn:gQ:=⟨some 123,.call (.c (.fn 95 [] [])) [.c (.s (.bool false)),.t 122],some (120,true)⟩::Vu
def aQF:gQ:=[⟨some 122,.load false 1 (.t 121),some (120,true)⟩]
def Qs:gQ:=⟨some 122,.load false 1 (.t 121),some (120,true)⟩::Sn
def aCu:gQ:=[⟨some 121,.fieldAddr 7 (.t 9),some (120,true)⟩]
def Tw:gQ:=⟨some 121,.fieldAddr 7 (.t 9),some (120,true)⟩::Qs
def aAy:gQ:=[⟨some 120,.move (.t 119),some (117,false)⟩]
def Wu:gQ:=⟨some 120,.move (.t 119),some (117,false)⟩::Tw
def aID:gQ:=[⟨some 119,.load false 1 (.t 118),some (117,false)⟩]
def WX:gQ:=⟨some 119,.load false 1 (.t 118),some (117,false)⟩::Wu
def aUE:gQ:=[⟨some 118,.fieldAddr 6 (.t 10),some (117,false)⟩]
def Vq:gQ:=⟨some 118,.fieldAddr 6 (.t 10),some (117,false)⟩::WX
def asi:gQ:=[⟨some 114,.pick (.t 110) (.c (.s (.bool true))) (.t 113),some (106,true)⟩,⟨some 115,.pick (.t 106) (.t 114) (.c (.s (.bool false))),some (103,false)⟩,⟨some 116,.pick (.t 103) (.c (.s (.bool true))) (.t 115),none⟩,⟨some 117,.move (.t 116),none⟩]
def Oc:gQ:=asi++Vq
def YL:gQ:=⟨some 113,.call (.c (.fn 96 [] [])) [.t 112,.c (.s (.string ⟨#[]⟩))],some (110,false)⟩::Oc
def ash:gQ:=⟨some 112,.load false 1 (.t 111),some (110,false)⟩::YL
def avn:gQ:=⟨some 111,.fieldAddr 6 (.t 9),some (110,false)⟩::ash
def akI:gQ:=⟨some 110,.move (.t 109),some (106,true)⟩::avn
def am8:gQ:=⟨some 109,.call (.c (.fn 95 [] [])) [.c (.s (.bool true)),.t 108],some (106,true)⟩::akI
def aoT:gQ:=⟨some 108,.load false 1 (.t 107),some (106,true)⟩::am8
def awH:gQ:=⟨some 107,.fieldAddr 6 (.t 9),some (106,true)⟩::aoT
def atw:gQ:=⟨some 106,.move (.t 105),some (103,false)⟩::awH
def ad4:gQ:=⟨some 105,.load false 1 (.t 104),some (103,false)⟩::atw
def aov:gQ:=⟨some 104,.fieldAddr 5 (.t 10),some (103,false)⟩::ad4
def aNh:gQ:=[⟨some 102,.move (.t 11),none⟩,⟨some 103,.move (.t 102),none⟩]
def Xh:gQ:=aNh++aov
def aiV:=[aw 131 11]
def Su:=aB aiV [11] [131] 132 [] [(131,.t 11)] [.aS 11]
def S3:=[bws 3 bwd]
def ap3:=dO 3 2 135::S3
def arM:=[aw 132 4,aw 133 6,aw 134 8,q 135 (.build [c9,c9,c9] [(0,1),(1,1),(2,1)] [(0,.t 132),(1,.t 133),(2,.t 134)])]
def YI:=arM++ap3
def Yw:=aB arM [0,4,6,8,16,17,18,35,36,37,50,51,52,131,132,133,134] [135] 136 [] [(135,.op (.build [.s (.int .i64 0),.s (.int .i64 0),.s (.int .i64 0)] [(0,1),(1,1),(2,1)] [(0,.t 0),(1,.t 1),(2,.t 2)]) [.t 4,.t 6,.t 8])] [.aS 4,.aS 6,.aS 8,az]
def S':=fl YI [0,4,6,8,16,17,18,35,36,37,50,51,52,131,132,133,134] [135] aoM
def UA:=aC ap3 [135] aoM
def anW:=aB S3 [0,4,6,8,16,17,18,35,36,37,50,51,52,131,132,133,134,135] [3] 4 [] [(3,gA)] [.cb (.s (.bool true))]
def aju:=cU S3 [0,4,6,8,16,17,18,35,36,37,50,51,52,131,132,133,134,135] [3]
def atB:=[q 136 (.bin .add (.t 52) (cc 1)),aw 52 136]
def axc:=aB atB [8,131,136] [52] 137 [] [(52,h2 1 (.t 52))] [az,az]
def Lm:bZ:=
 (.seq (.bh aq5 [] [53])
 (.seq (.cond (.t 53)
 .skip
 (.exit 4))
 (.seq (.block 5
 (.seq (.region aaU [] [53,54,55,56])
 (.seq (.region Z2 [] [57,58,59,60,61,62,63])
 (.seq (.region TD [] [64,65,66,67,68,69,70,71,72,73,74,75,76,77,78,79,80,81,82,83,84,85,86,87,88,89,90,91,92,93,94,95,96,97,98,99,100,101])
 (.seq (.region Xh [] [9,10,102,103,104,105,106,107,108,109,110,111,112,113,114,115,116,117,118,119,120,121,122,123,124,125,126,127,128,129,130])
 (.seq (.bh aiV [11] [131])
 (.cond (.t 131)
 (.seq (.region YI [] [0,4,6,8,16,17,18,35,36,37,50,51,52,131,132,133,134,135])
 .ret)
 .skip)))))))
 (.bh atB [8,131,136] [52]))))
def Ld:bZ:=Lm
def Rh:=bp Ld Lm
def agG:=[q 137 (.bin .add (.t 37) (cc 1)),aw 37 137]
def aJD:=aB agG [6,50,51,52,53,137] [37] 138 [] [(37,h2 1 (.t 37))] [az,az]
def T3:bZ:=
 (.seq (.bh aia [] [38])
 (.seq (.cond (.t 38)
 .skip
 (.exit 2))
 (.seq (.block 3
 (.seq (.region aaG [] [38,39,40,41])
 (.seq (.seq (.region amf [] [42,43,44])
 (.cond (.t 45)
 (.seq (.region arD [] [0,4,6,7,16,17,18,35,36,37,45,46,47,48])
 .ret)
 .skip))
 (.seq (.bh acX [7,45,49] [50,51,52])
 (.block 4
 (.loop [] Ld))))))
 (.bh agG [6,50,51,52,53,137] [37]))))
def IV:bZ:=T3
def aCS:=bp IV T3
def akh:=[q 138 (.bin .add (.t 18) (cc 1)),aw 18 138]
def aPJ:=aB akh [4,35,36,37,38,138] [18] 139 [] [(18,h2 1 (.t 18))] [az,az]
def Ty:bZ:=
 (.seq (.bh acU [] [19])
 (.seq (.cond (.t 19)
 .skip
 (.exit 0))
 (.seq (.block 1
 (.seq (.region axj [] [19,20,21,22])
 (.seq (.seq (.region ad3 [] [23,24,25,26,27,28,29,30])
 (.cond (.t 31)
 (.seq (.region Y9 [] [0,4,5,16,17,18,31,32,33])
 .ret)
 .skip))
 (.seq (.bh asU [5,31,34] [35,36,37])
 (.block 2
 (.loop [] IV))))))
 (.bh akh [4,35,36,37,38,138] [18]))))
def I':bZ:=Ty
def aV2:=bp I' Ty
def SW:=[bws 3 dd]
def amR:=dO 3 2 139::SW
def atk:=[q 139 (.build [c9,c9,c9] [(0,1),(1,1),(2,1)] [])]
def aav:=atk++amR
def azp:=aB atk [0,16,17,18,19] [139] 140 [] [(139,.op (.build [.s (.int .i64 0),.s (.int .i64 0),.s (.int .i64 0)] [(0,1),(1,1),(2,1)] []) [])] [az]
def aNC:=fl aav [0,16,17,18,19] [139] [0,16,17,18,19,139]
def aNd:=aC amR [139] [0,16,17,18,19,139]
def aH9:=aB SW [0,16,17,18,19,139] [3] 4 [] [(3,gV)] [.cb (.s (.bool false))]
def aDB:=cU SW [0,16,17,18,19,139] [3]
def u2:dm:={ ntmps:=140,results:=[.cell 2 true 3,.tmp 3],body:=
 (.seq (.region akb [] Ca)
 (.seq (.seq (.bh agB [12,13,14,15] [16,17,18])
 (.block 0
 (.loop [] I')))
 (.seq (.region aav [] [0,16,17,18,19,139])
 .ret))) }
theorem akZ:eL (List.range' 1 (u2.ntmps-1)) u2.body=true:=by kernel_rfl
abbrev RO:Nat:=44
def AW:=[0,3,4,5,6,7,8]
def aw2:=[bws 3 dd]
def ajR:=q 2 (.alloc [c9,c9,c9])::aw2
def ark:=q 1 (.box (.t 0))::ajR
def ae4:=[aw 3 8]
def aqV:=dO 3 2 7::ae4
def aF8:=[iD 7 6 0,iD 8 6 1]
def axW:=aF8++aqV
def arv:=cL 6 102 [.t 4,.t 5]::axW
def aML:=[b3 4 1,q 5 (.ez 104 [] [.t 1])]
def aeN:=aML++arv
def uB:dm:={ ntmps:=9,results:=[.cell 2 true 3,.tmp 3],body:=
 (.seq (.region ark [] AW)
 (.seq (.region aeN [] [1,4,5,6,7,8])
 .ret)) }
theorem arX:eL (List.range' 1 (uB.ntmps-1)) uB.body=true:=by kernel_rfl
def ZD:=I (a6 Es 0) (I (bk Es 1) (I (bk Es 2) (I (a6 Es 4) (I (a6 Es 5) (I azJ (I (aC OI [] w0) (I (cA ai8 w0 [] 6 [] [] [.cb (.s (.bool false))]) (I (a6 w0 0) (I (bk w0 1) (I (bk w0 2) (I (bk w0 4) (I (a6 w0 5) (I (bb ad6 [2] [8] LS 9 [] [(8,gZ 1 (.t 2))] [az]) (I (aC afC [] LS) (I (bb apj [8,9] [10] LS 11 [] [(10,.op (.build [.s (.slice none 0 0),.s (.map none)] [(0,1),(1,1)] [(0,.t 0),(1,.t 1)]) [.t 8,.t 9])] [az]) (I (aC aon [10] LS) (I (cA ahe [2,8,9,10,11] [6] 7 [] [(6,.t 11)] [.aS 11]) (I (aC amu [] iO) (I (bb auV [13] [14] iO 15 [] [(14,.op (.ez 36 [.t 0] []) [.t 6])] [.aS 6,az]) (I (aC ae2 [14] iO) (I (bb afo [15] [16] iO 17 [] [(16,.op (.ez 37 [.t 0] []) [.t 6])] [.aS 6,az]) (I (aC atf [16] iO) (I (bb acN [17] [18] iO 19 [] [(18,.op (.ez 38 [.t 0] []) [.t 6])] [.aS 6,az]) (I (aC aat [18] iO) (I (bb af5 [19] [20] iO 21 [] [(20,.op (.ez 39 [.t 0] []) [.t 6])] [.aS 6,az]) (I (aC adS [20] iO) (I (bb aot [21] [22] iO 23 [] [(22,.op (.ez 40 [.t 0] []) [.t 6])] [.aS 6,az]) (I (aC ah3 [22] iO) (I (bb aur [23] [24] iO 25 [] [(24,.op (.ez 41 [.t 0] []) [.t 6])] [.aS 6,az]) (I (aC awg [24] iO) (I (bb ahr [25] [26] iO 27 [] [(26,.op (.ez 42 [.t 0] []) [.t 6])] [.aS 6,az]) (I (aC arW [26] iO) (I (bb aym [27] [28] iO 29 [] [(28,.op (.ez 43 [.t 0] []) [.t 6])] [.aS 6,az]) (I (aC agN [28] iO) (I (bb aae [29] [30] iO 31 [] [(30,.op (.ez 44 [.t 0] []) [.t 6])] [.aS 6,az]) (I (aC ZB [30] iO) (I (bb ZS [31] [32] iO 33 [] [(32,.op (.ez 45 [.t 0] []) [.t 6])] [.aS 6,az]) (I (aC amV [32] iO) (I (bb akp [33] [34] iO 35 [] [(34,.op (.ez 46 [.t 0] []) [.t 6])] [.aS 6,az]) (I (aC awd [34] iO) (I (bb abb [35] [36] iO 37 [] [(36,.op (.ez 47 [.t 0] []) [.t 6])] [.aS 6,az]) (I (aC aac [36] iO) (I (bb asK [37] [38] iO 39 [] [(38,.op (.ez 48 [.t 0] []) [.t 6])] [.aS 6,az]) (I (aC aol [38] iO) (I (bb arB [39] [40] iO 41 [] [(40,.op (.ez 49 [.t 0] []) [.t 6])] [.aS 6,az]) (I (aC aan [40] iO) (I (bb ad0 [41] [42] iO 43 [] [(42,.op (.ez 50 [.t 0] []) [.t 6])] [.aS 6,az]) (I (aC avp [42] iO) (I (bb ZM [6,43] [44] iO 45 [] [(44,.op (.ez 51 [.t 0] []) [.t 6])] [.aS 6,az]) (I (aC ao2 [44] iO) (I (cA auz [1,6,12,13,14,15,16,17,18,19,20,21,22,23,24,25,26,27,28,29,30,31,32,33,34,35,36,37,38,39,40,41,42,43,44,45,46,47] [7] 48 [] [(7,.op (.ik (.int .u8) (.s .nilFunc) (.t 0) (.t 1) false) [.t 12,.t 1])] [.aS 12,.aS 1,az,az]) (I (aB atZ [48] [49] 50 [] [(49,.op (.uq .f false (.t 0)) [.t 7])] [.aS 7,az]) (I (bb afQ [7,49] [50] [7,49,50] 51 [] [(50,.op (.build [.s (.int .i64 0),.s (.int .i64 0),.s (.int .i64 0)] [(0,1),(1,1),(2,1)] []) [])] [az]) (I (aC ayn [50] [7,49,50]) (I (cA YV [7,49,50] [5] 6 [] [(5,gV)] [.cb (.s (.bool false))]) (I (bb ahn [7,49] [51] ME 52 [] [(51,.t 7)] [.aS 7]) (I (aC ahR [51] ME) (I (bb abv [52] [53,54] ME 55 [] [(53,iH 0 (.t 52)),(54,iH 1 (.t 52))] [az,eE]) (I (aC afs [53] ME) ((cA ajy [7,49,51,52,53,54] [5] 6 [] [(5,.t 54)] [.aS 54])))))))))))))))))))))))))))))))))))))))))))))))))))))))))))))
def fo:=I aSz (I aCm (I aBN (I aPE (I aVY (I az4 (I aSy (I aGH (I aRz (I aDl (I aQg (I aHr (I aPI (I aKb (I aBu (I aRA (I aLp (I aKS (I aVt (I aCz (I aOO (I azf (I aUb (I aQT (I aUp (I aIR (I aIA (I aWA (I aUT (I aRg (I aGQ (I aPd (I aCV (I aOH (I aLN (I aPu (I aKB (I aNo (I aAh (I aAP (I aDo (I aNN (I aKV (I aDj (I aLT (I aEN (I aJZ (I aK3 (I azq (I aPt (I aNz (I UP (I TI (I X7 (I Vm (I QL (I TF (I Q8 (I U6 (I Yq (I Xv (I Wr (I (bb TD [64,65] [66] j4 67 [] [(66,bn (bq 0 (.t 10)))] [bT,az,az]) (I (aC ah9 [] j4) (I (aC aep [67] j4) (I (aC afN [68] j4) (I (aC ajB [69] j4) (I (bb apY [66,70,71] [72] j4 73 [] [(72,.pick (.t 66) (.t 70) gV)] [az,az]) (I (aC ari [] j4) (I (aC aei [73] j4) (I (aC avz [74] j4) (I (aC aj5 [] j4) (I (aC ar5 [76] j4) (I (aC ald [77] j4) (I (aC agx [78] j4) (I (bb aqk [72,75,79,80,81] [82] j4 83 [] [(82,.pick (.t 72) gA (.pick (.t 75) (.t 79) gV))] [.sub 0 [2] [72],az,az]) (I (aC Z0 [] j4) (I (aC avi [83] j4) (I (aC ah5 [84] j4) (I (aC aj7 [] j4) (I (aC ai5 [86] j4) (I (aC acZ [87] j4) (I (aC asq [88] j4) (I (bb agq [82,85,89,90,91] [92] j4 93 [] [(92,.pick (.t 82) gA (.pick (.t 85) (.t 89) gV))] [.sub 0 [2] [82],az,az]) (I (aC ac0 [] j4) (I (aC apU [93] j4) (I (aC axk [94] j4) (I (aC Y0 [] j4) (I (aC aaq [96] j4) (I (aC auA [97] j4) (I (aC abL [98] j4) (I (cA ZF [64,65,66,67,68,69,70,71,72,73,74,75,76,77,78,79,80,81,82,83,84,85,86,87,88,89,90,91,92,93,94,95,96,97,98,99,100,101] [11] 102 [] [(11,.pick (.t 92) gA (.pick (.t 95) (.t 99) gV))] [.sub 0 [2] [92],az,az]) (I (bb Xh [11,102] [103] mC 104 [] [(103,.t 11)] [.aS 11,.aS 11]) (I (aC aov [] mC) (I (aC ad4 [104] mC) (I (aC atw [105] mC) (I (aC awH [] mC) (I (aC aoT [107] mC) (I (aC am8 [108] mC) (I (aC akI [109] mC) (I (aC avn [] mC) (I (aC ash [111] mC) (I (aC YL [112] mC) (I (bb Oc [103,106,110,113,114,115,116] [117] mC 118 [([(106,true,.t 106)],.pick (.t 110) (.c (.s (.bool true))) (.t 113))] [(117,.pick (.t 103) gA (.pick (.t 106) (.pick (.t 110) gA (.t 113)) gV))] [.cD [(106,true,.t 106)] (.pick (.t 110) (.c (.s (.bool true))) (.t 113)),.sub 0 [2] [103],az,az]) (I (aC Vq [10] mC) (I (aC WX [118] mC) (I (aC Wu [119] mC) (I (aC Tw [] mC) (I (aC Qs [121] mC) (I (aC Sn [122] mC) (I (aC Vu [123] mC) (I (aC U5 [9] mC) (I (aC Tv [125] mC) (I (aC U4 [126] mC) (I (cA H5 [9,10,102,103,104,105,106,107,108,109,110,111,112,113,114,115,116,117,118,119,120,121,122,123,124,125,126,127,128,129,130] [11] 131 [([(120,true,.t 120)],.pick (.t 124) (.c (.s (.bool true))) (.t 127))] [(11,.pick (.t 117) gA (.pick (.t 120) (.pick (.t 124) gA (.t 127)) gV))] [.cD [(120,true,.t 120)] (.pick (.t 124) (.c (.s (.bool true))) (.t 127)),.sub 0 [2] [117],az,az]) (I Su (I Yw (I S' (I UA (I anW (I aju (I axc (I Rh (I aJD (I aCS (I aPJ (I aV2 (I azp (I aNC (I aNd (I aH9 (I aDB (I Lm.eq_1 (I T3.eq_1 (Ty.eq_1))))))))))))))))))))))))))))))))))))))))))))))))))))))))))))))))))))))))))))))))))))))))))))))))))))))))))))))))))))))))))))))))))))))
def axw:=I (aC ark [0,2,3,4,5,6,7,8] AW) (I (aC ajR [] AW) (I (cA aw2 AW [] 4 [] [] [.cb (.s (.bool false))]) (I (a6 AW 0) (I (bk AW 1) (I (bk AW 2) (I (a6 AW 3) (I (bb aeN [1] qU Md 6 [] [(4,bn (.t 1)),(5,.op (.ez 104 [] [.t 0]) [.t 1])] [az,eE]) (I (aC arv [4,5] Md) (I (bb axW [6] [7,8] Md 9 [] [(7,iH 0 (.t 6)),(8,iH 1 (.t 6))] [az,eE]) (I (aC aqV [7] Md) ((cA ae4 [1,4,5,6,7,8] [3] 4 [] [(3,.t 8)] [.aS 8]))))))))))))
theorem aAC:dS Tryz.prog dH 16=some (false,rS.ntmps,rS.results,rS.body.bare):=by kernel_rfl
theorem aDp:dS Tryz.prog dH 37=some (false,u2.ntmps,u2.results,u2.body.bare):=by kernel_rfl
theorem ayA:dS Tryz.prog dH 44=some (false,uB.ntmps,uB.results,uB.body.bare):=by kernel_rfl
abbrev vX:Nat:=10
def BZ:=[0]++List.range' 2 96
def Pj:=[bws 2 (cM #[]),bws 3 (cc 0)]
def RJ:=[q 1 (.box (.t 0))]
def abl:=RJ++Pj
def E4:=[0]++List.range' 2 96
def aIa(call:c5)(it:hE)(base:Nat)(f:List V)(H:ad):aL call it base (.region abl [] BZ) f H=nZ call it base (.region Pj [] BZ) (oH [] RJ E4 (cI call base [⟨some 1,.box (.t 0),none⟩] f H)):=(xu call it base RJ Pj (kc:=E4) (by kernel_rfl) f H).trans (by rw[vK];rfl)
def auc:=[q 19 (.da .s (.t 18)),bws 20 (cc 0)]
def akn:=q 18 (.gh 1 2 [h9,h9] [(0,cR 2),(1,cR 9)])::auc
def asD:=[q 21 (.bin .lss (.t 20) (.t 19))]
def Yz:=[ji 22 1 18 20,b3 23 22,aw 5 23]
def ajj:=[aw 7 29]
def amK:=dO 3 6 28::ajj
def at1:=q 6 (.alloc [c9,c9,c9])::amK
def aMc:=[aw 24 27,iD 28 24 0,iD 29 24 1]
def atE:=aMc++at1
def apA:=cL 27 16 [.t 25,.t 26]::atE
def aSS:=[q 25 (.load true 1 (.t 1)),aw 26 5]
def au8:=aSS++apA
def aqx:=[aw 30 7]
def agp:=[bws 2 (cM #[]),bws 3 (cc 5)]
def ace:=[q 31 (.bin .add (.t 20) (cc 1)),aw 20 31]
def Uv:bZ:=
 (.seq (.bh asD [] [21])
 (.seq (.cond (.t 21)
 .skip
 (.exit 0))
 (.seq (.block 1
 (.seq (.bh Yz [21,22,23] [5])
 (.seq (.region au8 [] [5,6,24,25,26,27,28,29])
 (.seq (.bh aqx [7] [30])
 (.cond (.t 30)
 (.seq (.bh agp [1,18,19,20,30] [2,3])
 .ret)
 .skip)))))
 (.bh ace [30,31] [20]))))
def F3:bZ:=Uv
def DF:=bp F3 Uv
def akE:=[aw 8 32]
def aq8:=cL 32 17 []::akE
def aqf:=[q 9 (.alloc [.bu,e9])]
def am2:=[q 33 (.ez 18 [] [.t 9]),aw 10 33]
def alS:=[bM 34 0 1,b3 35 34,q 36 (.da .s (.t 35)),bws 37 (cc 0)]
def amL:=[q 38 (.bin .lss (.t 37) (.t 36))]
def aiM:=[dO 3 12 40]
def acA:=q 12 (.alloc [cF,e9,e9])::aiM
def aQ5:=[ji 39 3 35 37,q 40 (.load true 3 (.t 39))]
def axs:=aQ5++acA
def aeb:=[q 51 (.call (.t 41) [.t 50])]
def ap1:=q 50 (.gh 1 1 [cF] [(0,.t 49)])::aeb
def axf:=cL 49 21 [.t 48]::ap1
def aau:=q 48 (.gh 1 3 [cF,cF,cF] [(0,cM #[102,117,110,99]),(1,.t 47),(2,cM #[123])])::axf
def aBW:=[q 47 (.bin .add (.t 43) (.t 46))]
def akB:=aBW++aau
def abt:=q 46 (.mK (.c (.fn 22 [] [])) [.t 45])::akB
def aGg:=[aw 41 10,bM 42 0 12,b3 43 42,bM 44 1 12,b3 45 44]
def ao5:=aGg++abt
def an7:=[bM 52 2 12,b3 53 52,q 54 (.da .s (.t 53)),bws 55 (cc 0)]
def aty:=[q 56 (.bin .lss (.t 55) (.t 54))]
def agn:=[dO 2 14 58]
def awe:=q 14 (.alloc [cF,e9])::agn
def aQv:=[ji 57 2 53 55,q 58 (.load true 2 (.t 57))]
def au2:=aQv++awe
def atY:=[q 63 (.call (.t 59) [.t 62])]
def aqN:=q 62 (.gh 1 2 [cF,cF] [(0,.t 61),(1,cM #[58])])::atY
def aOx:=[aw 59 10,bM 60 0 14,b3 61 60]
def axr:=aOx++aqN
def agw:=[bM 64 1 14,b3 65 64,q 66 (.da .s (.t 65)),bws 67 (cc 0)]
def YU:=[q 68 (.bin .lss (.t 67) (.t 66))]
def adg:=[dO 8 16 70]
def axh:=q 16 (.alloc [h9,cF,cF,cF,c9,cF,e9,e9])::adg
def aC6:=[ji 69 8 65 67,q 70 (.load true 8 (.t 69))]
def agV:=aC6++axh
def aeU:=[aw 17 76]
def arj:=q 76 (.call (.t 74) [.t 75])::aeU
def aLL:=[aw 71 8,bM 72 0 16,b3 73 72,q 74 (.ik (.int .u8) (.s .nilFunc) (.t 71) (.t 73) false),q 75 (.load true 8 (.t 16))]
def ajZ:=aLL++arj
def afx:=[bM 77 1 16,b3 78 77,q 79 (.bin .neq (.t 78) (cM #[]))]
def aiP:=[aw 17 84]
def aeP:=cL 84 21 [.t 83]::aiP
def YN:=q 83 (.gh 1 3 [cF,cF,cF] [(0,.t 81),(1,cM #[61]),(2,.t 82)])::aeP
def aOf:=[bM 80 1 16,b3 81 80,aw 82 17]
def YZ:=aOf++YN
def arb:=[q 88 (.call (.t 85) [.t 87])]
def ab9:=q 87 (.gh 1 2 [cF,cF] [(0,cM #[32,32]),(1,.t 86)])::arb
def aVG:=[aw 85 10,aw 86 17]
def ali:=aVG++ab9
def aaS:=[q 89 (.bin .add (.t 67) (cc 1)),aw 67 89]
def VJ:bZ:=
 (.seq (.bh YU [] [68])
 (.seq (.cond (.t 68)
 .skip
 (.exit 6))
 (.seq (.block 7
 (.seq (.region agV [] [68,69,70])
 (.seq (.region ajZ [] [71,72,73,74,75,76])
 (.seq (.seq (.bh afx [77,78] [79])
 (.cond (.t 79)
 (.region YZ [] [16,79,80,81,82,83,84])
 .skip))
 (.region ali [] [16,17,79,85,86,87,88])))))
 (.bh aaS [89] [67]))))
def CG:bZ:=VJ
def Oa:=bp CG VJ
def aqF:=[q 90 (.bin .add (.t 55) (cc 1)),aw 55 90]
def QI:bZ:=
 (.seq (.bh aty [] [56])
 (.seq (.cond (.t 56)
 .skip
 (.exit 4))
 (.seq (.block 5
 (.seq (.region au2 [] [56,57,58])
 (.seq (.region axr [] [59,60,61,62,63])
 (.seq (.bh agw [14,64] [65,66,67])
 (.block 6
 (.loop [] CG))))))
 (.bh aqF [65,66,67,68,90] [55]))))
def EA:bZ:=QI
def Va:=bp EA QI
def aqj:=[q 93 (.call (.t 91) [.t 92])]
def aj1:=q 92 (.gh 1 1 [cF] [(0,cM #[125])])::aqj
def aJh:=[aw 91 10]
def ahX:=aJh++aj1
def akS:=[q 94 (.bin .add (.t 37) (cc 1)),aw 37 94]
def Ql:bZ:=
 (.seq (.bh amL [] [38])
 (.seq (.cond (.t 38)
 .skip
 (.exit 2))
 (.seq (.block 3
 (.seq (.region axs [] [38,39,40])
 (.seq (.region ao5 [] [41,42,43,44,45,46,47,48,49,50,51])
 (.seq (.seq (.bh an7 [12,52] [53,54,55])
 (.block 4
 (.loop [] EA)))
 (.region ahX [] [53,54,55,56,91,92,93])))))
 (.bh akS [94] [37]))))
def Dx:bZ:=Ql
def Nb:=bp Dx Ql
def acC:=[q 96 (.bin .gtr (.t 95) (cc 1048576))]
def avx:=cL 95 23 [.t 9]::acC
def acJ:=[bws 2 (cM #[]),bws 3 (cc 2)]
def acy:=[aw 2 97,bws 3 (cc 0)]
def apO:=cL 97 24 [.t 9]::acy
def sC:dm:={ ntmps:=98,results:=[.tmp 2,.tmp 3],body:=
 (.seq (.region abl [] BZ)
 (.seq (.seq (.region akn [] [])
 (.block 0
 (.loop [] F3)))
 (.seq (.region aq8 [] [18,19,20,21,32])
 (.seq (.region aqf [] [])
 (.seq (.bh am2 [33] [10])
 (.seq (.seq (.bh alS [1,34] [35,36,37])
 (.block 2
 (.loop [] Dx)))
 (.seq (.seq (.region avx [] [8,10,35,36,37,38,95])
 (.cond (.t 96)
 (.seq (.bh acJ [9,96] [2,3])
 .ret)
 .skip))
 (.seq (.region apO [] [9,96,97])
 .ret)))))))) }
theorem UL:eL (List.range' 1 (sC.ntmps-1)) sC.body=true:=by kernel_rfl
abbrev Xc:Nat:=17
def Q4:=List.range' 0 7
theorem aVs:gN Q4 (fL 7 [] 0)=[]:=by kernel_rfl
def amO:=[q 0 (.move (.c (.s (.map none))))]
def ab2:=[eB (.store 1 (.t 1) (.c (.fn 52 [] [])))]
def ah6:=q 1 (.alloc [.s .nilFunc])::ab2
def amD:=[aw 6 2,aw 0 6]
def avC:=eB (.eJ (.int .u8) (.t 2) (cR 14) (.c (.fn 68 [] [])))::amD
def ZH:=eB (.eJ (.int .u8) (.t 2) (cR 13) (.c (.fn 67 [] [])))::avC
def agd:=eB (.eJ (.int .u8) (.t 2) (cR 12) (.c (.fn 66 [] [])))::ZH
def apT:=eB (.eJ (.int .u8) (.t 2) (cR 11) (.c (.fn 65 [] [])))::agd
def ar7:=eB (.eJ (.int .u8) (.t 2) (cR 10) (.c (.fn 64 [] [])))::apT
def aed:=eB (.eJ (.int .u8) (.t 2) (cR 9) (.c (.fn 63 [] [])))::ar7
def avA:=eB (.eJ (.int .u8) (.t 2) (cR 8) (.c (.fn 62 [] [])))::aed
def alA:=eB (.eJ (.int .u8) (.t 2) (cR 7) (.t 5))::avA
def aBo:=[q 5 (.ez 61 [] [.t 1])]
def aaN:=aBo++alA
def awq:=eB (.eJ (.int .u8) (.t 2) (cR 6) (.c (.fn 59 [] [])))::aaN
def ata:=eB (.eJ (.int .u8) (.t 2) (cR 5) (.c (.fn 58 [] [])))::awq
def al9:=eB (.eJ (.int .u8) (.t 2) (cR 4) (.c (.fn 57 [] [])))::ata
def adA:=eB (.eJ (.int .u8) (.t 2) (cR 3) (.c (.fn 56 [] [])))::al9
def atX:=eB (.eJ (.int .u8) (.t 2) (cR 2) (.t 4))::adA
def aR6:=[q 4 (.ez 55 [] [.t 1])]
def adt:=aR6++atX
def atm:=eB (.eJ (.int .u8) (.t 2) (cR 1) (.t 3))::adt
def aSL:=[q 3 (.ez 54 [] [.t 1])]
def agO:=aSL++atm
def ae7:=q 2 (.vN)::agO
def yP:dm:={ ntmps:=7,results:=[.tmp 0],body:=
 (.seq (.bh amO Q4 [])
 (.seq (.region ah6 [] [])
 (.seq (.region ae7 [] [1,2,3,4,5,6])
 .ret))) }
abbrev Ou:Nat:=18
def wz:=List.range' 0 7
def axn:=[cL 6 19 [.t 1,.t 5]]
def aWi:=[q 5 (.bin .add (.t 4) (cM #[10]))]
def avU:=aWi++axn
def avI:=cL 4 20 [.t 3,cM #[]]::avU
def aIl:=[aw 3 0]
def aaO:=aIl++avI
def yc:dm:={ ntmps:=7,results:=[],body:=
 (.region aaO [] wz) }
theorem aOs:eL (List.range' 2 (yc.ntmps-2)) yc.body=true:=by kernel_rfl
abbrev OM:Nat:=19
def K2:=List.range' 2 17
theorem aNj:gN K2 (fL 19 [] 2)=[]:=by kernel_rfl
def avZ:=[bws 4 (cc 0),q 5 (.move (.c (.s .nilIface)))]
def ahz:=[cL 7 70 [.t 6]]
def aF3:=[aw 6 0]
def asN:=aF3++ahz
def arY:=[dO 1 16 14]
def aJW:=[eV 15 8,bM 16 1 15]
def Z5:=aJW++arY
def abc:=q 14 (.append 1 1 (.t 12) (.t 13))::Z5
def aC7:=[aw 8 0,aw 9 0,eV 10 9,bM 11 1 10,b3 12 11,aw 13 1]
def ak8:=aC7++abc
def avh:=[aw 17 1,q 18 (.da .p (.t 17)),aw 4 18,q 5 (.move (.c (.s .nilIface)))]
def sD:dm:={ ntmps:=19,results:=[.tmp 4,.tmp 5],body:=
 (.seq (.bh avZ K2 [])
 (.seq (.region asN [] [6,7])
 (.seq (.region ak8 [] [0,8,9,10,11,12,13,14,15,16])
 (.seq (.bh avh [1,17,18] [4,5])
 .ret)))) }
abbrev VN:Nat:=21
def PE:=[1,2,3,4]
theorem aTL:gN PE (fL 5 [] 1)=[]:=by kernel_rfl
def atz:=[bws 2 (cM #[])]
def akV:=[aw 2 4]
def ahk:=cL 4 20 [.t 3,cM #[32]]::akV
def aWU:=[aw 3 0]
def axS:=aWU++ahk
def zh:dm:={ ntmps:=5,results:=[.tmp 2],body:=
 (.seq (.bh atz PE [])
 (.seq (.region axS [] [0,3,4])
 .ret)) }
abbrev Rf:Nat:=22
def M6:=List.range' 1 6
theorem aPR:gN M6 (fL 7 [] 1)=[]:=by kernel_rfl
def Zo:=[bws 2 (cM #[])]
def Y5:=[q 5 (.bin .add (cM #[40]) (.t 4)),q 6 (.bin .add (.t 5) (cM #[41])),aw 2 6]
def aea:=cL 4 20 [.t 3,cM #[44,32]]::Y5
def aNl:=[aw 3 0]
def alj:=aNl++aea
def za:dm:={ ntmps:=7,results:=[.tmp 2],body:=
 (.seq (.bh Zo M6 [])
 (.seq (.region alj [] [0,3,4,5,6])
 .ret)) }
abbrev RB:Nat:=23
def MG:=List.range' 1 7
theorem aE0:gN MG (fL 8 [] 1)=[]:=by kernel_rfl
def awn:=[bws 2 (cc 0)]
def au1:=[aw 3 0,eV 4 3,bM 5 1 4,b3 6 5,q 7 (.da .s (.t 6)),aw 2 7]
def x8:dm:={ ntmps:=8,results:=[.tmp 2],body:=
 (.seq (.bh awn MG [])
 (.seq (.bh au1 [0,3,4,5,6,7] [2])
 .ret)) }
abbrev zq:Nat:=52
def GK:=[0,2,3,4,5]
def aap:=[bws 2 (cM #[])]
def av4:=q 1 (.box (.t 0))::aap
def ak1:=[aw 2 5]
def ahD:=cL 5 53 [.t 4]::ak1
def aUm:=[bM 3 4 1,b3 4 3]
def aoe:=aUm++ahD
def tU:dm:={ ntmps:=6,results:=[.tmp 2],body:=
 (.seq (.region av4 [] GK)
 (.seq (.region aoe [] [1,3,4,5])
 .ret)) }
theorem aTr:eL (List.range' 1 (tU.ntmps-1)) tU.body=true:=by kernel_rfl
abbrev Vi:Nat:=54
def Ea:=[0,3,4,5,6,7,8]
def adm:=[bws 3 (cM #[])]
def aci:=q 2 (.box (.t 0))::adm
def anR:=[aw 3 8]
def ahP:=cL 8 21 [.t 7]::anR
def aby:=q 7 (.gh 1 2 [cF,cF] [(0,cM #[97,108,108,111,99,97]),(1,.t 6)])::ahP
def aiW:=q 6 (.call (.t 4) [.t 5])::aby
def aLG:=[b3 4 1,q 5 (.load true 8 (.t 2))]
def anT:=aLG++aiW
def yr:dm:={ ntmps:=9,results:=[.tmp 3],body:=
 (.seq (.region aci [] Ea)
 (.seq (.region anT [] [1,2,4,5,6,7,8])
 .ret)) }
theorem azT:eL (List.range' 2 (yr.ntmps-2)) yr.body=true:=by kernel_rfl
abbrev QQ:Nat:=55
def Ei:=[0,3,4,5,6,7,8]
def ao8:=[bws 3 (cM #[])]
def anB:=q 2 (.box (.t 0))::ao8
def Zu:=[aw 3 8]
def adZ:=cL 8 21 [.t 7]::Zu
def ahq:=q 7 (.gh 1 2 [cF,cF] [(0,cM #[109,97,108,108,111,99]),(1,.t 6)])::adZ
def awO:=q 6 (.call (.t 4) [.t 5])::ahq
def aRa:=[b3 4 1,q 5 (.load true 8 (.t 2))]
def aqs:=aRa++awO
def yo:dm:={ ntmps:=9,results:=[.tmp 3],body:=
 (.seq (.region anB [] Ei)
 (.seq (.region aqs [] [1,2,4,5,6,7,8])
 .ret)) }
theorem aGY:eL (List.range' 2 (yo.ntmps-2)) yo.body=true:=by kernel_rfl
abbrev QY:Nat:=56
def HB:=[0,1,2]
def aoA:=[bws 2 (cM #[])]
def apH:=q 1 (.box (.t 0))::aoA
def adN:=[bws 2 (cM #[110,117,108,108])]
def yk:dm:={ ntmps:=3,results:=[.tmp 2],body:=
 (.seq (.region apH [] HB)
 (.seq (.bh adN [] [2])
 .ret)) }
theorem aPQ:eL (List.range' 1 (yk.ntmps-1)) yk.body=true:=by kernel_rfl
abbrev WG:Nat:=57
def E':=[0,2,3,4,5,6]
def adB:=[bws 2 (cM #[])]
def aj6:=q 1 (.box (.t 0))::adB
def aim:=[aw 2 6]
def al3:=cL 6 21 [.t 5]::aim
def avb:=q 5 (.gh 1 2 [cF,cF] [(0,cM #[97,100,100,114]),(1,.t 4)])::al3
def aV3:=[bM 3 5 1,b3 4 3]
def aqQ:=aV3++avb
def xm:dm:={ ntmps:=7,results:=[.tmp 2],body:=
 (.seq (.region aj6 [] E')
 (.seq (.region aqQ [] [1,3,4,5,6])
 .ret)) }
theorem aCk:eL (List.range' 1 (xm.ntmps-1)) xm.body=true:=by kernel_rfl
abbrev UZ:Nat:=58
def G1:=[0,2,3,4,5,6]
def axU:=[bws 2 (cM #[])]
def ax2:=q 1 (.box (.t 0))::axU
def agl:=[aw 2 6]
def apM:=cL 6 21 [.t 5]::agl
def abi:=q 5 (.gh 1 2 [cF,cF] [(0,cM #[99,111,112,121]),(1,.t 4)])::apM
def aNg:=[bM 3 2 1,b3 4 3]
def ama:=aNg++abi
def xZ:dm:={ ntmps:=7,results:=[.tmp 2],body:=
 (.seq (.region ax2 [] G1)
 (.seq (.region ama [] [1,3,4,5,6])
 .ret)) }
theorem aTa:eL (List.range' 1 (xZ.ntmps-1)) xZ.body=true:=by kernel_rfl
abbrev Tc:Nat:=59
def GM:=[0,2,3,4,5,6]
def aqi:=[bws 2 (cM #[])]
def art:=q 1 (.box (.t 0))::aqi
def aoc:=[aw 2 6]
def am9:=cL 6 21 [.t 5]::aoc
def YW:=q 5 (.gh 1 2 [cF,cF] [(0,cM #[112,104,105]),(1,.t 4)])::am9
def auK:=cL 4 60 [.t 3]::YW
def aNE:=[q 3 (.load true 8 (.t 1))]
def ar4:=aNE++auK
def xF:dm:={ ntmps:=7,results:=[.tmp 2],body:=
 (.seq (.region art [] GM)
 (.seq (.region ar4 [] [1,3,4,5,6])
 .ret)) }
theorem aKf:eL (List.range' 1 (xF.ntmps-1)) xF.body=true:=by kernel_rfl
abbrev Mf:Nat:=60
def G2:=[0]++List.range' 2 28
def ac2:=[bws 2 (cM #[])]
def ahu:=q 1 (.box (.t 0))::ac2
def aec:=[bws 3 EL]
def abn:=[bM 6 7 1,b3 7 6,q 8 (.da .s (.t 7)),bws 9 (cc 0)]
def ac4:=[q 10 (.bin .lss (.t 9) (.t 8))]
def ajh:=[aw 11 9,ji 12 1 7 9,b3 13 12,aw 4 11,aw 5 13]
def alW:=[aw 3 24]
def apd:=q 24 (.append 1 16 (.t 14) (.t 23))::alW
def ajH:=q 23 (.gh 1 1 [cF] [(0,.t 22)])::apd
def aMo:=[aw 14 3,aw 15 5,q 16 (.bin .add (.t 15) (cM #[58,32])),bM 17 6 1,b3 18 17,aw 19 4,ji 20 1 18 19,b3 21 20,q 22 (.bin .add (.t 16) (.t 21))]
def awr:=aMo++ajH
def abM:=[q 25 (.bin .add (.t 9) (cc 1)),aw 9 25]
def Ta:bZ:=
 (.seq (.bh ac4 [] [10])
 (.seq (.cond (.t 10)
 .skip
 (.exit 0))
 (.seq (.block 1
 (.seq (.bh ajh [10,11,12,13] [4,5])
 (.region awr [] [4,5,14,15,16,17,18,19,20,21,22,23,24])))
 (.bh abM [25] [9]))))
def UQ:bZ:=Ta
def RA:=bp UQ Ta
def anZ:=[q 28 (.bin .add (cM #[91]) (.t 27)),q 29 (.bin .add (.t 28) (cM #[93])),aw 2 29]
def akF:=cL 27 20 [.t 26,cM #[44,32]]::anZ
def aME:=[aw 26 3]
def aqo:=aME++akF
def wu:dm:={ ntmps:=30,results:=[.tmp 2],body:=
 (.seq (.region ahu [] G2)
 (.seq (.bh aec [] [3])
 (.seq (.seq (.bh abn [6] [7,8,9])
 (.block 0
 (.loop [] UQ)))
 (.seq (.region aqo [] [1,3,7,8,9,10,26,27,28,29])
 .ret)))) }
theorem aIq:eL (List.range' 1 (wu.ntmps-1)) wu.body=true:=by kernel_rfl
abbrev UO:Nat:=61
def CZ:=[0]++List.range' 3 8
def al0:=[bws 3 (cM #[])]
def abP:=q 2 (.box (.t 0))::al0
def asI:=[aw 3 10]
def ae8:=cL 10 21 [.t 9]::asI
def amB:=q 9 (.gh 1 3 [cF,cF,cF] [(0,cM #[102,105,101,108,100]),(1,.t 5),(2,.t 8)])::ae8
def afY:=q 8 (.mK (.t 6) [.t 7])::amB
def aER:=[bM 4 2 2,b3 5 4,b3 6 1,q 7 (.load true 8 (.t 2))]
def awR:=aER++afY
def x9:dm:={ ntmps:=11,results:=[.tmp 3],body:=
 (.seq (.region abP [] CZ)
 (.seq (.region awR [] [1,2,4,5,6,7,8,9,10])
 .ret)) }
theorem aCC:eL (List.range' 2 (x9.ntmps-2)) x9.body=true:=by kernel_rfl
abbrev R8:Nat:=62
def HS:=[0,2,3,4,5,6]
def acO:=[bws 2 (cM #[])]
def ab1:=q 1 (.box (.t 0))::acO
def aqg:=[aw 2 6]
def ary:=cL 6 21 [.t 5]::aqg
def ah1:=q 5 (.gh 1 2 [cF,cF] [(0,cM #[108,111,97,100]),(1,.t 4)])::ary
def aMh:=[bM 3 2 1,b3 4 3]
def agj:=aMh++ah1
def xe:dm:={ ntmps:=7,results:=[.tmp 2],body:=
 (.seq (.region ab1 [] HS)
 (.seq (.region agj [] [1,3,4,5,6])
 .ret)) }
theorem aKa:eL (List.range' 1 (xe.ntmps-1)) xe.body=true:=by kernel_rfl
abbrev Rv:Nat:=63
def E5:=[0]++List.range' 2 8
def aiR:=[bws 2 (cM #[])]
def amd:=q 1 (.box (.t 0))::aiR
def atO:=[aw 2 9]
def atr:=cL 9 21 [.t 8]::atO
def auY:=q 8 (.gh 1 3 [cF,cF,cF] [(0,cM #[115,116,111,114,101]),(1,.t 5),(2,.t 7)])::atr
def aMw:=[bM 3 2 1,b3 4 3,q 5 (.bin .add (.t 4) (cM #[44])),bM 6 3 1,b3 7 6]
def arx:=aMw++auY
def w2:dm:={ ntmps:=10,results:=[.tmp 2],body:=
 (.seq (.region amd [] E5)
 (.seq (.region arx [] [1,3,4,5,6,7,8,9])
 .ret)) }
theorem aW7:eL (List.range' 1 (w2.ntmps-1)) w2.body=true:=by kernel_rfl
abbrev VU:Nat:=64
def Fs:=[0]++List.range' 2 9
def att:=[bws 2 (cM #[])]
def axB:=q 1 (.box (.t 0))::att
def aoJ:=[aw 2 10]
def amX:=cL 10 21 [.t 9]::aoJ
def afk:=q 9 (.gh 1 2 [cF,cF] [(0,cM #[99,97,108,108]),(1,.t 8)])::amX
def aSZ:=[q 8 (.bin .add (.t 4) (.t 7))]
def asf:=aSZ++afk
def agH:=q 7 (.mK (.c (.fn 22 [] [])) [.t 6])::asf
def aTd:=[bM 3 5 1,b3 4 3,bM 5 6 1,b3 6 5]
def akH:=aTd++agH
def wV:dm:={ ntmps:=11,results:=[.tmp 2],body:=
 (.seq (.region axB [] Fs)
 (.seq (.region akH [] [1,3,4,5,6,7,8,9,10])
 .ret)) }
theorem aNw:eL (List.range' 1 (wV.ntmps-1)) wV.body=true:=by kernel_rfl
abbrev QO:Nat:=65
def FQ:=[0]++List.range' 2 9
def acq:=[bws 2 (cM #[])]
def agi:=q 1 (.box (.t 0))::acq
def ake:=[aw 2 10]
def aj3:=cL 10 21 [.t 9]::ake
def anl:=q 9 (.gh 1 2 [cF,cF] [(0,cM #[105,99,97,108,108]),(1,.t 8)])::aj3
def aLX:=[q 8 (.bin .add (.t 4) (.t 7))]
def apZ:=aLX++anl
def axF:=q 7 (.mK (.c (.fn 22 [] [])) [.t 6])::apZ
def aEo:=[bM 3 2 1,b3 4 3,bM 5 6 1,b3 6 5]
def abV:=aEo++axF
def wX:dm:={ ntmps:=11,results:=[.tmp 2],body:=
 (.seq (.region agi [] FQ)
 (.seq (.region abV [] [1,3,4,5,6,7,8,9,10])
 .ret)) }
theorem aCx:eL (List.range' 1 (wX.ntmps-1)) wX.body=true:=by kernel_rfl
abbrev UJ:Nat:=66
def Fy:=[0]++List.range' 2 11
def abw:=[bws 2 (cM #[])]
def agE:=q 1 (.box (.t 0))::abw
def auq:=[aw 2 12]
def alL:=cL 12 21 [.t 11]::auq
def aoS:=q 11 (.gh 1 3 [cF,cF,cF] [(0,cM #[98,114]),(1,.t 6),(2,.t 10)])::alL
def aFw:=[bM 3 7 1,b3 4 3,q 5 (.indexAddr 1 (.t 4) (cc 0)),b3 6 5,bM 7 7 1,b3 8 7,q 9 (.indexAddr 1 (.t 8) (cc 1)),b3 10 9]
def auX:=aFw++aoS
def xj:dm:={ ntmps:=13,results:=[.tmp 2],body:=
 (.seq (.region agE [] Fy)
 (.seq (.region auX [] [1,3,4,5,6,7,8,9,10,11,12])
 .ret)) }
theorem aAp:eL (List.range' 1 (xj.ntmps-1)) xj.body=true:=by kernel_rfl
abbrev Q7:Nat:=67
def FF:=[0,2,3,4,5,6,7,8]
def ahG:=[bws 2 (cM #[])]
def ajz:=q 1 (.box (.t 0))::ahG
def asz:=[aw 2 8]
def Zf:=cL 8 21 [.t 7]::asz
def afq:=q 7 (.gh 1 2 [cF,cF] [(0,cM #[103,111,116,111]),(1,.t 6)])::Zf
def aRZ:=[bM 3 7 1,b3 4 3,q 5 (.indexAddr 1 (.t 4) (cc 0)),b3 6 5]
def ahJ:=aRZ++afq
def xH:dm:={ ntmps:=9,results:=[.tmp 2],body:=
 (.seq (.region ajz [] FF)
 (.seq (.region ahJ [] [1,3,4,5,6,7,8])
 .ret)) }
theorem aDh:eL (List.range' 1 (xH.ntmps-1)) xH.body=true:=by kernel_rfl
abbrev Us:Nat:=68
def HE:=[0,2,3,4,5,6,7]
def ZR:=[bws 2 (cM #[])]
def auD:=q 1 (.box (.t 0))::ZR
def au5:=[aw 2 7]
def abf:=cL 7 69 [.t 6,cM #[32]]::au5
def au3:=cL 6 21 [.t 5]::abf
def ajb:=q 5 (.gh 1 2 [cF,cF] [(0,cM #[114,101,116]),(1,.t 4)])::au3
def aVR:=[bM 3 2 1,b3 4 3]
def av9:=aVR++ajb
def ys:dm:={ ntmps:=8,results:=[.tmp 2],body:=
 (.seq (.region auD [] HE)
 (.seq (.region av9 [] [1,3,4,5,6,7])
 .ret)) }
theorem aA5:eL (List.range' 1 (ys.ntmps-1)) ys.body=true:=by kernel_rfl
abbrev ahO:Nat:=20
abbrev ajp:Nat:=24
abbrev ahv:Nat:=53
abbrev awp:Nat:=69
abbrev WO:Nat:=70
def pM:=I (a6 E4 0) (I (bk E4 1) (I (a6 E4 2) (I (a6 E4 3) (I aIa (I (cA Pj BZ [] 4 [] [] [.cb (.s (.string ⟨#[]⟩)),.cb (.s (.int .i64 0))]) (I (a6 BZ 0) (I (bk BZ 1) (I (a6 BZ 2) (I (a6 BZ 3) (I (aC akn [] []) (I (cA auc [] [19,20] 21 [] [(19,fX (.t 18)),(20,iE 0)] [az,.cb (.s (.int .i64 0))]) (I (aB asD [] [21] 22 [] [(21,fj .lss (.t 20) (.t 19))] [az]) (I (aB Yz [21,22,23] [5] 24 [] [(5,bn (je 1 (.t 18) (.t 20)))] [bT,az,az]) (I (bb au8 [5] [25,26] JM 27 [] [(25,gZ 1 (.t 1)),(26,.t 5)] [az,.aS 5]) (I (aC apA [25,26] JM) (I (bb atE [24,27] [28,29] JM 30 [] [(28,iH 0 (.t 27)),(29,iH 1 (.t 27))] [.aS 27,az,eE]) (I (aC at1 [] JM) (I (aC amK [6,28] JM) (I (cA ajj [5,6,24,25,26,27,28,29] [7] 8 [] [(7,.t 29)] [.aS 29]) (I (aB aqx [7] [30] 31 [] [(30,.t 7)] [.aS 7]) (I (aB agp [1,18,19,20,30] [2,3] 4 [] [(2,.c (.s (.string ⟨#[]⟩))),(3,iE 5)] [.cb (.s (.string ⟨#[]⟩)),.cb (.s (.int .i64 5))]) (I (aB ace [30,31] [20] 32 [] [(20,h2 1 (.t 20))] [az,az]) (I DF (I (aC aq8 [18,19,20,21] [18,19,20,21,32]) (I (cA akE [18,19,20,21,32] [8] 9 [] [(8,.t 32)] [.aS 32]) (I (cl aqf []) (I (aB am2 [33] [10] 34 [] [(10,.op (.ez 18 [] [.t 0]) [.t 9])] [az,az]) (I (aB alS [1,34] [35,36,37] 38 [] [(35,bn (bq 0 (.t 1))),(36,fX (bn (bq 0 (.t 1)))),(37,iE 0)] [bT,az,eE,.cb (.s (.int .i64 0))]) (I (aB amL [] [38] 39 [] [(38,fj .lss (.t 37) (.t 36))] [az]) (I (bb axs [38,39] [40] I6 41 [] [(40,gZ 3 (je 3 (.t 35) (.t 37)))] [bT,az]) (I (aC acA [] I6) (I (cl aiM [38,39,40]) (I (bb ao5 [42,44] [41,43,45] GJ 46 [] [(41,.t 10),(43,bn (bq 0 (.t 12))),(45,bn (bq 1 (.t 12)))] [.aS 10,me,eE,.sub 2 [0] [],Ae]) (I (aC abt [45] GJ) (I (bb akB [43,46] [47] GJ 48 [] [(47,fj .add (.t 43) (.t 46))] [az]) (I (aC aau [47] GJ) (I (aC axf [48] GJ) (I (aC ap1 [49] GJ) (I (cl aeb [41,42,43,44,45,46,47,48,49,50,51]) (I (aB an7 [12,52] [53,54,55] 56 [] [(53,bn (bq 2 (.t 12))),(54,fX (bn (bq 2 (.t 12)))),(55,iE 0)] [bT,az,eE,.cb (.s (.int .i64 0))]) (I (aB aty [] [56] 57 [] [(56,fj .lss (.t 55) (.t 54))] [az]) (I (bb au2 [56,57] [58] [56,57,58] 59 [] [(58,gZ 2 (je 2 (.t 53) (.t 55)))] [bT,az]) (I (aC awe [] [56,57,58]) (I (cl agn [56,57,58]) (I (bb axr [60] [59,61] [59,60,61,62,63] 62 [] [(59,.t 10),(61,bn (bq 0 (.t 14)))] [.aS 10,me,eE]) (I (aC aqN [61] [59,60,61,62,63]) (I (cl atY [59,60,61,62,63]) (I (aB agw [14,64] [65,66,67] 68 [] [(65,bn (bq 1 (.t 14))),(66,fX (bn (bq 1 (.t 14)))),(67,iE 0)] [bT,az,eE,.cb (.s (.int .i64 0))]) (I (aB YU [] [68] 69 [] [(68,fj .lss (.t 67) (.t 66))] [az]) (I (bb agV [68,69] [70] [68,69,70] 71 [] [(70,gZ 8 (je 8 (.t 65) (.t 67)))] [bT,az]) (I (aC axh [] [68,69,70]) (I (cl adg [68,69,70]) (I (bb ajZ [71,72,73] [74,75] [71,72,73,74,75,76] 76 [] [(74,.op (.ik (.int .u8) (.s .nilFunc) (.t 0) (.t 1) false) [.t 8,bn (bq 0 (.t 16))]),(75,gZ 8 (.t 16))] [.aS 8,q2,mN,az,eE]) (I (aC arj [74,75] [71,72,73,74,75,76]) (I (cA aeU [71,72,73,74,75,76] [17] 18 [] [(17,.t 76)] [.aS 76]) (I (aB afx [77,78] [79] 80 [] [(79,.op (.bin .neq (.t 0) (.c (.s (.string ⟨#[]⟩)))) [bn (bq 1 (.t 16)),.c (.s (.string ⟨#[]⟩))])] [dx,bT,az]) (I (bb YZ [16,17,79,80] [81,82] Xe 83 [] [(81,bn (bq 1 (.t 16))),(82,.t 17)] [bT,az,.aS 17]) (I (aC YN [81,82] Xe) (I (aC aeP [83] Xe) (I (cA aiP [16,79,80,81,82,83,84] [17] 18 [] [(17,.t 84)] [.aS 84]) (I (bb ali [16,17,79] [85,86] [16,17,79,85,86,87,88] 87 [] [(85,.t 10),(86,.t 17)] [.aS 10,.aS 17]) (I (aC ab9 [86] [16,17,79,85,86,87,88]) (I (cl arb [16,17,79,85,86,87,88]) (I (aB aaS [89] [67] 90 [] [(67,h2 1 (.t 67))] [az,az]) (I Oa (I (aB aqF [65,66,67,68,90] [55] 91 [] [(55,h2 1 (.t 55))] [az,az]) (I Va (I (bb ahX [53,54,55,56] [91] [53,54,55,56,91,92,93] 92 [] [(91,.t 10)] [.aS 10]) (I (aC aj1 [] [53,54,55,56,91,92,93]) (I (cl aqj [53,54,55,56,91,92,93]) (I (aB akS [94] [37] 95 [] [(37,h2 1 (.t 37))] [az,az]) (I Nb (I (aC avx [8,10,35,36,37,38] [8,10,35,36,37,38,95]) (I (cA acC [8,10,35,36,37,38,95] [96] 97 [] [(96,fY .gtr 1048576 (.t 95))] [az]) (I (aB acJ [9,96] [2,3] 4 [] [(2,.c (.s (.string ⟨#[]⟩))),(3,iE 2)] [.cb (.s (.string ⟨#[]⟩)),.cb (.s (.int .i64 2))]) (I (aC apO [9,96] [9,96,97]) (I (cA acy [9,96,97] [2,3] 4 [] [(2,.t 97),(3,iE 0)] [.aS 97,.cb (.s (.int .i64 0))]) (I QI.eq_1 (I Uv.eq_1 (I VJ.eq_1 (Ql.eq_1)))))))))))))))))))))))))))))))))))))))))))))))))))))))))))))))))))))))))))))))))
def aVC:=I (aB amO Q4 [] 1 [] [] [.cb (.s (.map none))]) (I aVs (I (aC ah6 [] []) (I (cl ab2 []) (I (aC ae7 [] o4) (I (bb agO [] [3] o4 4 [] [(3,.op (.ez 54 [] [.t 0]) [.t 1])] [az]) (I (aC atm [3] o4) (I (bb adt [] [4] o4 5 [] [(4,.op (.ez 55 [] [.t 0]) [.t 1])] [az]) (I (aC atX [4] o4) (I (aC adA [] o4) (I (aC al9 [] o4) (I (aC ata [] o4) (I (aC awq [] o4) (I (bb aaN [1] [5] o4 6 [] [(5,.op (.ez 61 [] [.t 0]) [.t 1])] [az]) (I (aC alA [5] o4) (I (aC avA [] o4) (I (aC aed [] o4) (I (aC ar7 [] o4) (I (aC apT [] o4) (I (aC agd [] o4) (I (aC ZH [] o4) (I (aC avC [] o4) ((cA amD [1,2,3,4,5,6] [0] 7 [] [(0,.t 2)] [.aS 2,.aS 2])))))))))))))))))))))))
def aKQ:=I (bb aaO [0,2,4,5,6] [3] wz 4 [] [(3,.t 0)] [.aS 0]) (I (aC avI [3] wz) (I (bb avU [4] [5] wz 6 [] [(5,.op (.bin .add (.t 0) (.c (.s (.string ⟨#[10]⟩)))) [.t 4,.c (.s (.string ⟨#[10]⟩))])] [az]) (I (cl axn wz) (I (a6 wz 0) (I (a6 wz 1) (I (a6 wz 3) (I (a6 wz 4) (I (a6 wz 5) ((a6 wz 6))))))))))
def aer:=I (aB avZ K2 [] 6 [] [] [.cb (.s (.int .i64 0)),.cb (.s .nilIface)]) (I aNj (I (bk K2 0) (I (bk K2 1) (I (bb asN [] [6] [6,7] 7 [] [(6,.t 0)] [.aS 0]) (I (cl ahz [6,7]) (I (bb ak8 [0,9,10,11] [8,12,13] Qn 14 [] [(8,.t 0),(12,bn (bq 1 (eM (.t 0)))),(13,.t 1)] [.aS 0,.aS 0,Fw,me,eE,.aS 1]) (I (aC abc [12,13] Qn) (I (bb Z5 [8,15] [16] Qn 17 [] [(16,bq 1 (eM (.t 8)))] [bT,az]) (I (cl arY [0,8,9,10,11,12,13,14,15,16]) ((aB avh [1,17,18] qU 19 [] [(4,.op (.da .p (.t 0)) [.t 1]),(5,.c (.s .nilIface))] [.aS 1,az,az,.cb (.s .nilIface)])))))))))))
def aKz:=I (aB atz PE [] 3 [] [] [.cb (.s (.string ⟨#[]⟩))]) (I aTL (I (bk PE 0) (I (bb axS [0] [3] [0,3,4] 4 [] [(3,.t 0)] [.aS 0]) (I (aC ahk [3] [0,3,4]) ((cA akV [0,3,4] [2] 3 [] [(2,.t 4)] [.aS 4]))))))
def aHE:=I (aB Zo M6 [] 3 [] [] [.cb (.s (.string ⟨#[]⟩))]) (I aPR (I (bk M6 0) (I (bb alj [0] [3] [0,3,4,5,6] 4 [] [(3,.t 0)] [.aS 0]) (I (aC aea [3] [0,3,4,5,6]) ((cA Y5 [0,3,4,5,6] [2] 7 [] [(2,.op (.bin .add (.t 0) (.c (.s (.string ⟨#[41]⟩)))) [.op (.bin .add (.c (.s (.string ⟨#[40]⟩))) (.t 1)) [.c (.s (.string ⟨#[40]⟩)),.t 4],.c (.s (.string ⟨#[41]⟩))])] [bT,az,az]))))))
def Zp:=I (aB awn MG [] 3 [] [] [.cb (.s (.int .i64 0))]) (I aE0 (I (bk MG 0) ((aB au1 [0,3,4,5,6,7] [2] 8 [] [(2,fX (bn (bq 1 (eM (.t 0)))))] [.aS 0,ee,dx,bT,az,az]))))
def aVx:=I (aC av4 [0,2,3,4,5] GK) (I (cA aap GK [] 3 [] [] [.cb (.s (.string ⟨#[]⟩))]) (I (a6 GK 0) (I (bk GK 1) (I (a6 GK 2) (I (bb aoe [1,3] [4] [1,3,4,5] 5 [] [(4,bn (bq 4 (.t 1)))] [bT,az]) (I (aC ahD [4] [1,3,4,5]) ((cA ak1 [1,3,4,5] [2] 3 [] [(2,.t 5)] [.aS 5]))))))))
def aET:=I (aC aci [0,3,4,5,6,7,8] Ea) (I (cA adm Ea [] 4 [] [] [.cb (.s (.string ⟨#[]⟩))]) (I (a6 Ea 0) (I (bk Ea 1) (I (bk Ea 2) (I (a6 Ea 3) (I (bb anT [1,2] qU AP 6 [] [(4,bn (.t 1)),(5,gZ 8 (.t 2))] [az,eE]) (I (aC aiW [4,5] AP) (I (aC aby [6] AP) (I (aC ahP [7] AP) ((cA anR [1,2,4,5,6,7,8] [3] 4 [] [(3,.t 8)] [.aS 8])))))))))))
def aBx:=I (aC anB [0,3,4,5,6,7,8] Ei) (I (cA ao8 Ei [] 4 [] [] [.cb (.s (.string ⟨#[]⟩))]) (I (a6 Ei 0) (I (bk Ei 1) (I (bk Ei 2) (I (a6 Ei 3) (I (bb aqs [1,2] qU AP 6 [] [(4,bn (.t 1)),(5,gZ 8 (.t 2))] [az,eE]) (I (aC awO [4,5] AP) (I (aC ahq [6] AP) (I (aC adZ [7] AP) ((cA Zu [1,2,4,5,6,7,8] [3] 4 [] [(3,.t 8)] [.aS 8])))))))))))
def aHv:=I (aC apH [0,1,2] HB) (I (cA aoA HB [] 3 [] [] [.cb (.s (.string ⟨#[]⟩))]) (I (a6 HB 0) (I (a6 HB 1) (I (a6 HB 2) ((aB adN [] [2] 3 [] [(2,.c (.s (.string ⟨#[110,117,108,108]⟩)))] [.cb (.s (.string ⟨#[110,117,108,108]⟩))]))))))
def aJg:=I (aC aj6 [0,2,3,4,5,6] E') (I (cA adB E' [] 3 [] [] [.cb (.s (.string ⟨#[]⟩))]) (I (a6 E' 0) (I (bk E' 1) (I (a6 E' 2) (I (bb aqQ [1,3] [4] sB 5 [] [(4,bn (bq 5 (.t 1)))] [bT,az]) (I (aC avb [4] sB) (I (aC al3 [5] sB) ((cA aim [1,3,4,5,6] [2] 3 [] [(2,.t 6)] [.aS 6])))))))))
def aP6:=I (aC ax2 [0,2,3,4,5,6] G1) (I (cA axU G1 [] 3 [] [] [.cb (.s (.string ⟨#[]⟩))]) (I (a6 G1 0) (I (bk G1 1) (I (a6 G1 2) (I (bb ama [1,3] [4] sB 5 [] [(4,bn (bq 2 (.t 1)))] [bT,az]) (I (aC abi [4] sB) (I (aC apM [5] sB) ((cA agl [1,3,4,5,6] [2] 3 [] [(2,.t 6)] [.aS 6])))))))))
def aEC:=I (aC art [0,2,3,4,5,6] GM) (I (cA aqi GM [] 3 [] [] [.cb (.s (.string ⟨#[]⟩))]) (I (a6 GM 0) (I (bk GM 1) (I (a6 GM 2) (I (bb ar4 [1] [3] sB 4 [] [(3,gZ 8 (.t 1))] [az]) (I (aC auK [3] sB) (I (aC YW [4] sB) (I (aC am9 [5] sB) ((cA aoc [1,3,4,5,6] [2] 3 [] [(2,.t 6)] [.aS 6]))))))))))
def WA:=I (aC ahu [0,2,3,4,5,6,7,8,9,10,11,12,13,14,15,16,17,18,19,20,21,22,23,24,25,26,27,28,29] G2) (I (cA ac2 G2 [] 3 [] [] [.cb (.s (.string ⟨#[]⟩))]) (I (a6 G2 0) (I (bk G2 1) (I (a6 G2 2) (I (aB aec [] [3] 4 [] [(3,.c (.s (.slice none 0 0)))] [.cb (.s (.slice none 0 0))]) (I (aB abn [6] [7,8,9] 10 [] [(7,bn (bq 7 (.t 1))),(8,fX (bn (bq 7 (.t 1)))),(9,iE 0)] [bT,az,eE,.cb (.s (.int .i64 0))]) (I (aB ac4 [] [10] 11 [] [(10,fj .lss (.t 9) (.t 8))] [az]) (I (aB ajh [10,11,12,13] qU 14 [] [(4,.t 9),(5,bn (je 1 (.t 7) (.t 9)))] [.aS 9,me,eE,.aS 9,eE]) (I (bb awr [3,4,5,15,16,17,18,19,20,21] [14,22] Tg 23 [] [(14,.t 3),(22,fj .add (.op (.bin .add (.t 0) (.c (.s (.string ⟨#[58,32]⟩)))) [.t 5,.c (.s (.string ⟨#[58,32]⟩))]) (bn (je 1 (bn (bq 6 (.t 1))) (.t 4))))] [.aS 3,.aS 5,me,Ko,.sub 1 [1,0,0] [],.aS 4,.sub 1 [1,0] [],.sub 1 [1] [],eE]) (I (aC ajH [22] Tg) (I (aC apd [14,23] Tg) (I (cA alW [4,5,14,15,16,17,18,19,20,21,22,23,24] [3] 4 [] [(3,.t 24)] [.aS 24]) (I (aB abM [25] [9] 26 [] [(9,h2 1 (.t 9))] [az,az]) (I RA (I (bb aqo [1,3,7,8,9,10] [26] [1,3,7,8,9,10,26,27,28,29] 27 [] [(26,.t 3)] [.aS 3]) (I (aC akF [26] [1,3,7,8,9,10,26,27,28,29]) (I (cA anZ [1,3,7,8,9,10,26,27,28,29] [2] 30 [] [(2,.op (.bin .add (.t 0) (.c (.s (.string ⟨#[93]⟩)))) [.op (.bin .add (.c (.s (.string ⟨#[91]⟩))) (.t 1)) [.c (.s (.string ⟨#[91]⟩)),.t 27],.c (.s (.string ⟨#[93]⟩))])] [bT,az,az]) (Ta.eq_1))))))))))))))))))
def azQ:=I (aC abP [0,3,4,5,6,7,8,9,10] CZ) (I (cA al0 CZ [] 4 [] [] [.cb (.s (.string ⟨#[]⟩))]) (I (a6 CZ 0) (I (bk CZ 1) (I (bk CZ 2) (I (a6 CZ 3) (I (bb awR [1,2,4] [5,6,7] N9 8 [] [(5,bn (bq 2 (.t 2))),(6,bn (.t 1)),(7,gZ 8 (.t 2))] [bT,az,eE,Ae]) (I (aC afY [6,7] N9) (I (aC amB [5,8] N9) (I (aC ae8 [9] N9) ((cA asI [1,2,4,5,6,7,8,9,10] [3] 4 [] [(3,.t 10)] [.aS 10])))))))))))
def aGz:=I (aC ab1 [0,2,3,4,5,6] HS) (I (cA acO HS [] 3 [] [] [.cb (.s (.string ⟨#[]⟩))]) (I (a6 HS 0) (I (bk HS 1) (I (a6 HS 2) (I (bb agj [1,3] [4] sB 5 [] [(4,bn (bq 2 (.t 1)))] [bT,az]) (I (aC ah1 [4] sB) (I (aC ary [5] sB) ((cA aqg [1,3,4,5,6] [2] 3 [] [(2,.t 6)] [.aS 6])))))))))
def aEG:=I (aC amd [0,2,3,4,5,6,7,8,9] E5) (I (cA aiR E5 [] 3 [] [] [.cb (.s (.string ⟨#[]⟩))]) (I (a6 E5 0) (I (bk E5 1) (I (a6 E5 2) (I (bb arx [1,3,4,6] [5,7] Xj 8 [] [(5,.op (.bin .add (.t 0) (.c (.s (.string ⟨#[44]⟩)))) [bn (bq 2 (.t 1)),.c (.s (.string ⟨#[44]⟩))]),(7,bn (bq 3 (.t 1)))] [dx,bT,az,me,eE]) (I (aC auY [5,7] Xj) (I (aC atr [8] Xj) ((cA atO [1,3,4,5,6,7,8,9] [2] 3 [] [(2,.t 9)] [.aS 9])))))))))
def aVH:=I (aC axB [0,2,3,4,5,6,7,8,9,10] Fs) (I (cA att Fs [] 3 [] [] [.cb (.s (.string ⟨#[]⟩))]) (I (a6 Fs 0) (I (bk Fs 1) (I (a6 Fs 2) (I (bb akH [1,3,5] [4,6] xx 7 [] [(4,bn (bq 5 (.t 1))),(6,bn (bq 6 (.t 1)))] [bT,az,me,eE]) (I (aC agH [6] xx) (I (bb asf [4,7] [8] xx 9 [] [(8,fj .add (.t 4) (.t 7))] [az]) (I (aC afk [8] xx) (I (aC amX [9] xx) ((cA aoJ [1,3,4,5,6,7,8,9,10] [2] 3 [] [(2,.t 10)] [.aS 10])))))))))))
def aF5:=I (aC agi [0,2,3,4,5,6,7,8,9,10] FQ) (I (cA acq FQ [] 3 [] [] [.cb (.s (.string ⟨#[]⟩))]) (I (a6 FQ 0) (I (bk FQ 1) (I (a6 FQ 2) (I (bb abV [1,3,5] [4,6] xx 7 [] [(4,bn (bq 2 (.t 1))),(6,bn (bq 6 (.t 1)))] [bT,az,me,eE]) (I (aC axF [6] xx) (I (bb apZ [4,7] [8] xx 9 [] [(8,fj .add (.t 4) (.t 7))] [az]) (I (aC anl [8] xx) (I (aC aj3 [9] xx) ((cA ake [1,3,4,5,6,7,8,9,10] [2] 3 [] [(2,.t 10)] [.aS 10])))))))))))
def aAD:=I (aC agE [0,2,3,4,5,6,7,8,9,10,11,12] Fy) (I (cA abw Fy [] 3 [] [] [.cb (.s (.string ⟨#[]⟩))]) (I (a6 Fy 0) (I (bk Fy 1) (I (a6 Fy 2) (I (bb auX [1,3,4,5,7,8,9] [6,10] Vg 11 [] [(6,bn (VD 1 0 (bn (bq 7 (.t 1))))),(10,bn (VD 1 1 (bn (bq 7 (.t 1)))))] [ee,dx,bT,az,ee,dx,me,eE]) (I (aC aoS [6,10] Vg) (I (aC alL [11] Vg) ((cA auq [1,3,4,5,6,7,8,9,10,11,12] [2] 3 [] [(2,.t 12)] [.aS 12])))))))))
def aW3:=I (aC ajz [0,2,3,4,5,6,7,8] FF) (I (cA ahG FF [] 3 [] [] [.cb (.s (.string ⟨#[]⟩))]) (I (a6 FF 0) (I (bk FF 1) (I (a6 FF 2) (I (bb ahJ [1,3,4,5] [6] [1,3,4,5,6,7,8] 7 [] [(6,bn (VD 1 0 (bn (bq 7 (.t 1)))))] [ee,dx,bT,az]) (I (aC afq [6] [1,3,4,5,6,7,8]) (I (aC Zf [7] [1,3,4,5,6,7,8]) ((cA asz [1,3,4,5,6,7,8] [2] 3 [] [(2,.t 8)] [.aS 8])))))))))
def aM2:=I (aC auD [0,2,3,4,5,6,7] HE) (I (cA ZR HE [] 3 [] [] [.cb (.s (.string ⟨#[]⟩))]) (I (a6 HE 0) (I (bk HE 1) (I (a6 HE 2) (I (bb av9 [1,3] [4] M5 5 [] [(4,bn (bq 2 (.t 1)))] [bT,az]) (I (aC ajb [4] M5) (I (aC au3 [5] M5) (I (aC abf [6] M5) ((cA au5 [1,3,4,5,6,7] [2] 3 [] [(2,.t 7)] [.aS 7]))))))))))
theorem aGk:dS Tryz.prog dH 10=some (false,sC.ntmps,sC.results,sC.body.bare):=by kernel_rfl
theorem aSY:dS Tryz.prog dH 17=some (false,yP.ntmps,yP.results,yP.body.bare):=by kernel_rfl
theorem aFg:dS Tryz.prog dH 18=some (false,yc.ntmps,yc.results,yc.body.bare):=by kernel_rfl
theorem azK:dS Tryz.prog dH 19=some (false,sD.ntmps,sD.results,sD.body.bare):=by kernel_rfl
theorem aFu:dS Tryz.prog dH 21=some (false,zh.ntmps,zh.results,zh.body.bare):=by kernel_rfl
theorem aM9:dS Tryz.prog dH 22=some (false,za.ntmps,za.results,za.body.bare):=by kernel_rfl
theorem aPU:dS Tryz.prog dH 23=some (false,x8.ntmps,x8.results,x8.body.bare):=by kernel_rfl
theorem aLd:dS Tryz.prog dH 52=some (false,tU.ntmps,tU.results,tU.body.bare):=by kernel_rfl
theorem aHS:dS Tryz.prog dH 54=some (false,yr.ntmps,yr.results,yr.body.bare):=by kernel_rfl
theorem aPb:dS Tryz.prog dH 55=some (false,yo.ntmps,yo.results,yo.body.bare):=by kernel_rfl
theorem aIG:dS Tryz.prog dH 56=some (false,yk.ntmps,yk.results,yk.body.bare):=by kernel_rfl
theorem aKA:dS Tryz.prog dH 57=some (false,xm.ntmps,xm.results,xm.body.bare):=by kernel_rfl
theorem aRu:dS Tryz.prog dH 58=some (false,xZ.ntmps,xZ.results,xZ.body.bare):=by kernel_rfl
theorem aAM:dS Tryz.prog dH 59=some (false,xF.ntmps,xF.results,xF.body.bare):=by kernel_rfl
theorem aHd:dS Tryz.prog dH 60=some (false,wu.ntmps,wu.results,wu.body.bare):=by kernel_rfl
theorem aUn:dS Tryz.prog dH 61=some (false,x9.ntmps,x9.results,x9.body.bare):=by kernel_rfl
theorem aHj:dS Tryz.prog dH 62=some (false,xe.ntmps,xe.results,xe.body.bare):=by kernel_rfl
theorem aST:dS Tryz.prog dH 63=some (false,w2.ntmps,w2.results,w2.body.bare):=by kernel_rfl
theorem aJz:dS Tryz.prog dH 64=some (false,wV.ntmps,wV.results,wV.body.bare):=by kernel_rfl
theorem aDQ:dS Tryz.prog dH 65=some (false,wX.ntmps,wX.results,wX.body.bare):=by kernel_rfl
theorem aDL:dS Tryz.prog dH 66=some (false,xj.ntmps,xj.results,xj.body.bare):=by kernel_rfl
theorem aKK:dS Tryz.prog dH 67=some (false,xH.ntmps,xH.results,xH.body.bare):=by kernel_rfl
theorem az3:dS Tryz.prog dH 68=some (false,ys.ntmps,ys.results,ys.body.bare):=by kernel_rfl
def mE:ByteArray:=⟨#[32]⟩
def pV:ByteArray:=⟨#[44,32]⟩
def dy(xs:List ByteArray):ByteArray:=jK xs mE
def hT(xs:List ByteArray):ByteArray:=(⟨#[40]⟩++jK xs pV)++⟨#[41]⟩
def C'(xs:List ByteArray)(sep:ByteArray):Prop:=xs.length<=140737488355328/\(Lib.join (xs.map (·.data.toList)) sep.data.toList).length<=140737488355328
def alG{xs:List ByteArray}{sep:ByteArray}(h:C' xs sep):(jK xs sep).size<=140737488355328:=h.2
def vV{a b:ByteArray}(h:a.size+b.size<=4611686018427387904):(((a.size+b.size:Nat):Int) > IntKind.i64.max)=False:=by
 have e:IntKind.i64.max=9223372036854775807:=rfl;rw[e]
 exact eq_false (by omega)
def o5(a b:ByteArray):(a++b).size=a.size+b.size:=ByteArray.size_append
def aNp:∀{es:List (List V)} {xs:List ByteArray},es.flatten=xs.map aA->(∀e∈es,e.length=1)->E2 es=some xs:=by
 intro es
 induction es with
 |nil=>intro xs h _;cases xs with|nil=>rfl|cons x xs=>cases h
 |cons e es aF=>
   intro xs h hw;have he:=hw e hJ
   match e,he with
   | [v],_=>
     cases xs with
     |nil=>cases h
     |cons x xs=>
       simp only[GY,du,dB,dW,List.cons.injEq]at h;obtain⟨rfl,aa⟩:=h;simp only[E2,aF aa (fun e he=>hw e (d9 _ he)),o7]
def Nq{H:ad}{v:V}{xs:List ByteArray}(h:Rd H v (xs.map aA))(hw:mq v):wU H v=some xs:=by
 rcases h.cases with⟨J,rfl|rfl⟩|⟨es,rfl,aa,_⟩|⟨id,g,off,n,c,rfl,ab,aa,aI⟩
 .cases xs with|nil=>rfl|cons x xs=>cases J
 .cases xs with|nil=>rfl|cons x xs=>cases J
 .exact aNp aa hw
 .simp only[wU,ab]
  rw[bE (by rw[aa,aI]),aa]
  exact ala xs
def oo(D:ad)(xs:List ByteArray):wU (D++[.cells 0 (xs.map aA)]) (.aZ D.length 0 0 xs.length 1)=some xs:=by
 simp only[wU,cQ,nR]
 rw[Hk (by simp),bE (by simp)]
 exact ala xs
def aNH(sep:List UInt8){M:Nat}:∀{xs:List (List UInt8)},(∀x∈xs,x.length<=M)->(Lib.joinTail sep xs).length<=xs.length*(sep.length+M):=by
 intro xs
 induction xs with
 |nil=>intro _;simp[Lib.joinTail]
 |cons x xs aF=>
   intro h;have J:=aF fun y bC=>h y (d9 _ bC);have aa:=h x hJ;have e:Lib.joinTail sep (x::xs)=(sep++x)++Lib.joinTail sep xs:=rfl;rw[e,c0,c0,c3,Nat.succ_mul];omega
def aIF(sep:List UInt8){M:Nat}{xs:List (List UInt8)}(h:∀x∈xs,x.length<=M):(Lib.join xs sep).length<=xs.length*(sep.length+M):=by
 cases xs with
 |nil=>simp[Lib.join_nil]
 |cons x xs=>
   have J:=aNH sep fun y bC=>h y (d9 _ bC);have aa:=h x hJ;rw[Lib.join_cons,c0,c3,Nat.succ_mul];omega
structure v' (ag:Nat->Option cz):Prop where
 join:ag ahO=some (.hP Gw)
 ap5:ag ajp=some (.hP C3)
 itoa:ag ahv=some (.hP Gi)
 copy:ag WO=some (.hP Dt)
section
variable {ag:Nat->Option cz}
def Nx(h:v' ag)(base:Nat){H:ad}{v:V}{xs:List ByteArray}(av:wU H v=some xs){sep:ByteArray}(bz:C' xs sep):aR ag (.fn ahO [] []) [v,.s (.string sep)] base H=some (.s (.string (jK xs sep)),H):=by
 refine oD ?_;simp only[iT,h.join,Gw,av,dB,nn];exact bE bz
def aEV(h:v' ag)(base:Nat){H:ad}{n:Int}(bd:0<=n)(J:n<100):aR ag (.fn ahv [] []) [.s (.int .i64 n)] base H=some (.s (.string ⟨(Lib.decDigits n.toNat).toArray⟩),H):=by
 refine oD ?_;simp only[iT,h.itoa,Gi];exact bE ⟨bd,J⟩
theorem qX(h:v' ag)(aB:ag VN=some (.code zh))(base:Nat){H:ad}{v:V}{xs:List ByteArray}(av:wU H v=some xs)(bz:C' xs mE):aR ag (.fn VN [] []) [v] base H=some (.s (.string (dy xs)),H):=by
 have J:=Nx h base av bz;simp only[mE]at J
 refine gR (c:=zh) aB (by simp[zh]) ?_
 simp only[zh,simprocAttr,aKz,aG,J];rfl
theorem Ya(h:v' ag)(aB:ag Rf=some (.code za))(base:Nat){H:ad}{v:V}{xs:List ByteArray}(av:wU H v=some xs)(bz:C' xs pV):aR ag (.fn Rf [] []) [v] base H=some (.s (.string (hT xs)),H):=by
 have J:=Nx h base av bz;simp only[pV]at J
 refine gR (c:=za) aB (by simp[za]) ?_
 have ai:=alG bz;simp only[pV]at ai;have cC:(⟨#[40]⟩:ByteArray).size=1:=rfl;have b5:(⟨#[41]⟩:ByteArray).size=1:=rfl
 have cj:(⟨#[40]⟩:ByteArray).size+(jK xs ⟨#[44,32]⟩).size<=4611686018427387904:=by omega
 have cZ:((⟨#[40]⟩:ByteArray)++jK xs ⟨#[44,32]⟩).size+(⟨#[41]⟩:ByteArray).size<=4611686018427387904:=by
  rw[o5];omega
 simp only[za,simprocAttr,aHE,aG,J,vV cj,vV cZ];rfl
end
def iZ(m:Nat)(H:ad)(b:Nat)(di:List UInt8):Prop:=m<=b/\((di=[]/\au H b 0=some [.bu,.s (.slice none 0 0)])\/∃id g,au H b 0=some [.ref b 0 0,.aZ id g 0 di.length 1]/\H[id]?=some (.bytes g di)/\m<=id/\di≠[])
def OB(m b:Nat)(H H':ad):Prop:=H.length<=H'.length/\(∀i,i<m->H'[i]?=H[i]?)/\∀i,i≠b->i<H.length->(∀g l,H[i]?≠some (.bytes g l))->H'[i]?=H[i]?
def aLK{H:ad}{base:Nat}{s:ByteArray}(ai:s.size≠0)(aq:s.size<=2^47):h5 H base 1 1 (.s (.slice none 0 0)) (.s (.string s))=some (.aZ H.length 0 0 s.size 1,H++[.bytes 0 s.data.toList]):=by
 simp only[h5,elems,BT,qW,eW,ai,hp,aq]
def aQI{H:ad}{base id g:Nat}{l:List UInt8}{s:ByteArray}(bm:H[id]?=some (.bytes g l))(ah:base<=id)(ai:s.size≠0)(aq:l.length+s.size<=2^47):
 h5 H base 1 1 (.aZ id g 0 l.length 1) (.s (.string s))=some (.aZ id (g+1) 0 (l.length+s.size) 1,H.set id (.bytes (g+1) (l++s.data.toList))):=by
 simp only[h5,elems,BT,qW,eW,ai,hp,aq,ah,bm]
section
variable {ag:Nat->Option cz}
def aRD(h:v' ag){base:Nat}{H:ad}{b:Nat}{v:V}(a8:au H b 0=some [.bu,v])(ah:base<=b):aR ag (.fn WO [] []) [.ref b 0 0] base H=some (bF,H.set b (.cells 0 [.ref b 0 0,v])):=by
 refine oD ?_;simp only[iT,h.copy,Dt,dB,nn,a8];exact bE ah
def aWM(h:v' ag){base:Nat}{H:ad}{b:Nat}{v:V}(a8:au H b 0=some [.ref b 0 0,v]):aR ag (.fn WO [] []) [.ref b 0 0] base H=some (bF,H):=by
 refine oD ?_;simp only[iT,h.copy,Dt,dB,nn,a8,eW]
def aI1(h:v' ag)(aB:ag OM=some (.code sD)){base m:Nat}(ah:base<=m){H:ad}{b:Nat}{di:List UInt8}(aD:iZ m H b di){s:ByteArray}(ai:s.size≠0)(aq:di.length+s.size<=2^47):
 ∃H',aR ag (.fn OM [] []) [.ref b 0 0,.s (.string s)] base H=some (.bQ [U s.size,.s .nilIface],H')/\iZ m H' b (di++s.data.toList)/\OB m b H H':=by
 have asH:∀l:List UInt8,l++s.data.toList≠[]:=fun l e=>ai (by
  have:=dV List.length e;rw[c0]at this;have aa:s.data.toList.length=s.size:=rfl;simp only[eh]at this;omega)
 obtain⟨asp,⟨rfl,a8⟩|⟨id,g,a8,bm,hid,_⟩⟩:=aD
 .have b8:=iC a8
  have ab:=aRD h (base:=base) a8 (by omega)
  obtain⟨H1,k0⟩:∃H1,H.set b (.cells 0 [.ref b 0 0,.s (.slice none 0 0)])=H1:=⟨_,rfl⟩
  have cW:H1.length=H.length:=by rw[<- k0,fP]
  rw[k0]at ab;have g1:au H1 b 0=some [.ref b 0 0,.s (.slice none 0 0)]:=k0▸EX a8 _
  have aO:=aLK (H:=H1) (base:=base) ai (by simpa using aq)
  have g2:=H9 g1 (G:=[aM.bytes 0 s.data.toList])
  refine⟨(H1++[aM.bytes 0 s.data.toList]).set b (.cells 0 [.ref b 0 0,.aZ H1.length 0 0 s.size 1]),gR (c:=sD) aB (by simp[sD]) ?_,?_,?_⟩
  .simp only[sD,simprocAttr,aer,aG,ab,g1,aO,g2,show base<=b by omega]
  .refine⟨asp,.inr ⟨H1.length,0,?_,?_,by omega,asH _⟩⟩
   .have:=EX (c':=[V.ref b 0 0,.aZ H1.length 0 0 s.size 1]) g2 0
    simpa using this
   .rw[cG (by omega)]
    simp
  .refine⟨by simp[cW],fun i hi=>?_,fun i hi pE _=>?_⟩
   .rw[cG (by omega),bi (by omega),<- k0,cG (by omega)]
   .rw[cG (iV hi),bi (by omega),<- k0,cG (iV hi)]
 .have b8:=iC a8;have JK:=(dQ.1 bm).1;have ab:=aWM h (base:=base) a8
  have eS:id≠b:=by
   intro e;subst e;unfold au at a8;rw[bm]at a8;cases a8
  have aO:=aQI (base:=base) bm (by omega) ai aq
  have g2:au (H.set id (.bytes (g+1) (di++s.data.toList))) b 0=some [.ref b 0 0,.aZ id g 0 di.length 1]:=by
   unfold au at a8 |-;rw[cG eS];exact a8
  refine⟨(H.set id (.bytes (g+1) (di++s.data.toList))).set b (.cells 0 [.ref b 0 0,.aZ id (g+1) 0 (di.length+s.size) 1]),gR (c:=sD) aB (by simp[sD]) ?_,?_,?_⟩
  .simp only[sD,simprocAttr,aer,aG,ab,a8,aO,g2,show base<=b by omega]
  .refine⟨asp,.inr ⟨id,g+1,?_,?_,hid,asH _⟩⟩
   .have:=EX (c':=[V.ref b 0 0,.aZ id (g+1) 0 (di.length+s.size) 1]) g2 0
    simpa using this
   .rw[cG (iV eS),w8 JK]
  .refine⟨by simp,fun i hi=>?_,fun i hi pE oL=>?_⟩
   .rw[cG (by omega),cG (by omega)]
   .have aS7:id≠i:=by intro e;subst e;exact oL _ _ bm
    rw[cG (iV hi),cG aS7]
def lH(xs:List ByteArray):ByteArray:=jK xs ⟨#[]⟩++⟨#[10]⟩
theorem O9(h:v' ag)(ta:ag OM=some (.code sD))(aB:ag Ou=some (.code yc)){base m:Nat}(ah:base<=m){H:ad}{b:Nat}{di:List UInt8}(aD:iZ m H b di){v:V}{xs:List ByteArray}(av:wU H v=some xs)(bz:C' xs ⟨#[]⟩)(aq:di.length+(lH xs).size<=2^47):
 ∃H',aR ag (.fn Ou [] [.ref b 0 0]) [v] base H=some (.bQ [],H')/\iZ m H' b (di++(lH xs).data.toList)/\OB m b H H':=by
 have OE:=Nx h base av bz;have cC:(⟨#[10]⟩:ByteArray).size=1:=rfl
 have bK:(lH xs).size=(jK xs ⟨#[]⟩).size+1:=by unfold lH;rw[o5,cC]
 have Fz:=alG bz
 have cj:(jK xs ⟨#[]⟩).size+(⟨#[10]⟩:ByteArray).size<=4611686018427387904:=by omega
 obtain⟨H',hw,J,aa⟩:=aI1 h ta ah aD (s:=lH xs) (by omega) aq
 refine⟨H',eF (c:=yc) (k:=2) aB rfl (by decide) aOs ?_,J,aa⟩
 simp only[lH]at hw;simp only[yc,simprocAttr,aKQ,aG,OE,vV cj,hw]
 try rfl
end
def Cf{α:Type}(p:α->Bool)(l:List α):Int:=match l.findIdx? p with|some i=>(i:Int)|none=>-1
def aru{α:Type}{p:α->Bool}{l:List α}(d:α)(h:∀i,i<l.length->p (l.getD i d)=false):Cf p l=-1:=by
 have:l.findIdx? p=none:=by
  rw[PQ];intro x af;obtain⟨i,hi⟩:=List.mem_iff_getElem?.1 af;have:=h i (dQ.1 hi).1
  rwa[getD_some hi]at this
 rw[Cf,this]
def alU{α:Type}{p:α->Bool}{l:List α}(d:α){i:Nat}(hi:i<l.length)(J:p (l.getD i d)=true)(aa:∀j,j<i->p (l.getD j d)=false):Cf p l=(i:Int):=by
 have:l.findIdx? p=some i:=by
  rw[agk];refine⟨hi,?_,fun j bz=>?_⟩
  .have:=q6 hi d;rw[eP hi]at this;rw[kI this];exact J
  .have sZ:j<l.length:=by omega
   have:=q6 sZ d;rw[eP sZ]at this;rw[kI this,aa j bz];simp
 rw[Cf,this]
def aqA{α:Type}(p:α->Bool)(l:List α):decide (Cf p l ≥ 0)=l.any p:=by
 unfold Cf;cases h:l.findIdx? p with
 |none=>
   rw[PQ]at h
   symm
   rw[show decide ((-1:Int) ≥ 0)=false from rfl,G9];intro x af;rw[h x af];simp
 |some i=>
   rw[agk]at h;obtain⟨J,aa,_⟩:=h;have aE:l.any p=true:=Kp.2 ⟨_,rU J,aa⟩;rw[aE];simp
section
variable {ag:Nat->Option cz}
def aJb(aB:ag JL=some (.code vU))(base:Nat)(H:ad)(o:Int):aR ag (.fn JL [] []) [.s (.int .u8 o)] base H=some (.s (.bool (o==10||o==11)),H):=by
 refine gR (c:=vU) aB (by simp[vU]) ?_
 simp only[vU,simprocAttr,aWj,aG]
def aO9(aB:ag JN=some (.code r'))(base:Nat)(A:ad){v f:V}{l:List ByteArray}{p:ByteArray->Bool}(av:Rd A v (l.map aA))(hw:mq v)(ay:∀x,x∈l->∀D,Ext A D->∃jJ,aR ag f [aA x] base D=some (.s (.bool (p x)),jJ)/\Ext D jJ)(aq:l.length<2^40):
 ∃H',aR ag (.fn JN [] []) [v,f] base A=some (U (Cf p l),H')/\Ext A H':=by
 have step:∀i C,i<l.length->Ext A C->∃a7,(p (l.getD i ⟨#[]⟩)=false->aN (aL (aR ag) aN base C6) [] A.length (ax 19 [(0,v),(1,f),(7,U l.length),(8,U i)]) C=aN (aL (aR ag) aN base C6) [] A.length (ax 19 [(0,v),(1,f),(7,U l.length),(8,U (i+1:Nat))]) (trim A.length (ax 19 [(0,v),(1,f),(7,U l.length),(8,U (i+1:Nat))]) a7))/\(p (l.getD i ⟨#[]⟩)=true->aN (aL (aR ag) aN base C6) [] A.length (ax 19 [(0,v),(1,f),(7,U l.length),(8,U i)]) C=some (.ret,ax 19 [(4,U i)],trim A.length (ax 19 [(4,U i)]) a7))/\Ext A a7:=by
  intro i C hi bp
  have eb:((i:Int)<(l.length:Int)):=by omega
  have jf:=jB (n:=i) (by omega)
  obtain⟨a,bw,a2⟩:=ui (av.ext bp) hw hi;obtain⟨a7,cj,cZ⟩:=ay _ (ib (q6 hi ⟨#[]⟩)) C bp;simp only[aA]at cj;refine⟨a7,fun ay=>?_,fun ay=>?_,bp.trans cZ⟩
  .rw[ay]at cj;rw[dt];simp only[U,simprocAttr,HZ,aG,eb,bw,a2,cj,jf]
  .rw[ay]at cj;rw[dt];simp only[U,simprocAttr,HZ,aG,eb,bw,a2,cj]
 have dn:=so av
 rcases aQL l.length (fun i=>p (l.getD i ⟨#[]⟩)) (fun C=>Ext A C) (fun i C=>aN (aL (aR ag) aN base C6) [] A.length (ax 19 [(0,v),(1,f),(7,U l.length),(8,U i)]) C) (fun i C hi ay bp=>by obtain⟨a7,bj,_,a1⟩:=step i C hi bp;exact⟨_,bj ay,a1.trim (cq _) _⟩) A (Ext.refl A)with⟨J,C,aa,aI⟩|⟨i,C,hi,J,aa,aI,bl⟩
 .refine⟨trim A.length (ax 19 [(0,v),(1,f),(7,U l.length),(8,U l.length),(9,ar false)]) C,gR (c:=r') aB (by simp[r']) ?_,aI.trim (cq _) _⟩
  rw[aru ⟨#[]⟩ J]
  have qg:aN (aL (aR ag) aN base C6) [] A.length (ax 19 [(0,v),(1,f),(7,U l.length),(8,U l.length)]) C=some (.ext 0,ax 19 [(0,v),(1,f),(7,U l.length),(8,U l.length),(9,ar false)],trim A.length (ax 19 [(0,v),(1,f),(7,U l.length),(8,U l.length),(9,ar false)]) C):=by
   rw[dt];simp only[U,simprocAttr,ar,HZ,aG,nH]
  have bl:=aa.trans qg;simp only[U,ar,j0]at bl;simp only[U,simprocAttr,ar,r',HZ,aG,dn,bl]
 .obtain⟨a7,_,aT,a1⟩:=step i C hi bl
  refine⟨trim A.length (ax 19 [(4,U i)]) a7,gR (c:=r') aB (by simp[r']) ?_,a1.trim (cq _) _⟩
  rw[alU ⟨#[]⟩ hi J aa];have cO:=aI.trans (aT J);simp only[U,j0]at cO;simp only[U,simprocAttr,r',HZ,aG,dn,cO]
def YO(aB:ag Mh=some (.code xR))(kM:ag JN=some (.code r'))(base:Nat)(A:ad){v f:V}{l:List ByteArray}{p:ByteArray->Bool}(av:Rd A v (l.map aA))(hw:mq v)(ay:∀x,x∈l->∀D,Ext A D->∃jJ,aR ag f [aA x] base D=some (.s (.bool (p x)),jJ)/\Ext D jJ)(aq:l.length<2^40):
 ∃H',aR ag (.fn Mh [] []) [v,f] base A=some (.s (.bool (l.any p)),H')/\Ext A H':=by
 obtain⟨H',J,aa⟩:=aO9 kM base A av hw ay aq
 refine⟨H',gR (c:=xR) aB (by simp[xR]) ?_,aa⟩
 rw[<- aqA];simp only[U]at J;simp only[xR,simprocAttr,aDu,aG,J]
end
def letter(c:Int):Bool:=decide (c ≥ 97)&&decide (c<=122)||decide (c ≥ 65)&&decide (c<=90)||c==95
def Hy(i:Nat)(c:UInt8):Bool:=!letter c.toNat&&((i:Int)==0||(decide ((c.toNat:Int)<48)||decide ((c.toNat:Int) > 57))&&(c.toNat:Int) != 46)
def AA:Nat->List UInt8->Bool
 |_,[]=>true
 |i,c::l=>!Hy i c&&AA (i+1) l
def aiN(call:c5)(base:Nat)(b:ByteArray)(ah:b.size<=64)(H:ad):∀(l:List UInt8) (i:Nat),b.data.toList.drop i=l->i<=b.size->
 aN (aL call aN base Vy) [] H.length (ax 62 [(0,.s (.string b)),(18,.s (.int .i64 b.size)),(19,.s (.int .i64 i))]) H=
 bif AA i l then some (.ext 0,ax 62 [(0,.s (.string b)),(18,.s (.int .i64 b.size)),(19,.s (.int .i64 b.size)),(20,ar false)],H)else some (.ret,ax 62 [(2,ar false)],H):=by
 intro l;have dk:b.data.toList.length=b.size:=rfl
 induction l with
 |nil=>
   intro i aQ hi
   have pL:i=b.size:=by
    have:=dV List.length aQ;rw[lm,dk]at this;simp at this;omega
   subst pL;rw[dt];simp only[NH,simprocAttr,aG,nH,AA]
 |cons c l aF=>
   intro i aQ hi
   have ab:b.data.toList[i]?=some c:=by have:=dV (·[0]?) aQ;simp only[qP]at this;exact this
   have b8:i<b.size:=by have:=(dQ.1 ab).1;omega
   have pc:((i:Int)<(b.size:Int)):=by omega
   have k5:b.data.toList.drop (i+1)=l:=by
    have:=dV (List.drop 1) aQ
    simpa[Df,Qg]using this
   have hw:IntKind.i64.wrap ((i:Int)+1)=((i+1:Nat):Int):=by rw[IntKind.wrap_i64];omega
   rw[dt];simp only[NH,simprocAttr,aG,pc,ab,hw,AA]at aF |-;rw[aF (i+1) k5 b8];cases h:Hy i c<;>(unfold Hy letter at h;simp only[h,aG])
def pZ(b:ByteArray):Bool:=!(b.data.toList==[]||decide ((b.size:Int) > 64)||b.data.toList==[110,117,108,108])&&AA 0 b.data.toList
def Bl(ag:Nat->Option cz)(aB:ag F2=some (.code uM))(b:ByteArray)(base:Nat)(H:ad):aR ag (.fn F2 [] []) [.s (.string b)] base H=some (ar (pZ b),H):=by
 refine gR (c:=uM) aB (by simp[uM]) ?_
 have aq:=aiN (aR ag) base b;simp only[uM,simprocAttr,NH,aG]
 cases bK:(b.data.toList==[]||decide ((b.size:Int) > 64)||b.data.toList==[110,117,108,108])with
 |true=>simp only[bK,pZ,aG]
 |false=>
   have ah:b.size<=64:=by
    simp only[nS,xz]at bK;have:=bK.1.2;omega
   have aq:=aiN (aR ag) base b ah H b.data.toList 0 rfl (gY _);rw[show((0:Nat):Int)=0 from rfl]at aq;simp only[pZ,simprocAttr,bK,aq,NH,aG];cases AA 0 b.data.toList<;>simp only[aG]
def U0(s:ByteArray):Bool:=s.data.toList==[]
def Mx(s:ByteArray):Bool:=s.data.toList==[110,117,108,108]
def jz(op:Bool)(s:ByteArray):Bool:=!U0 s&&!pZ s&&!(op&&Mx s)
section
variable {ag:Nat->Option cz}
def aWe(kM:ag F2=some (.code uM))(aB:ag Gl=some (.code vS))(base:Nat)(H:ad)(s:ByteArray):aR ag (.fn Gl [] []) [aA s] base H=some (.s (.bool (!pZ s)),H):=by
 have h:=Bl ag kM s base H
 refine gR (c:=vS) aB (by simp[vS]) ?_
 simp only[ar]at h;simp only[vS,simprocAttr,ayM,aG,h]
def aHV(kM:ag F2=some (.code uM))(aB:ag Je=some (.code sE))(base:Nat){H:ad}{id:Nat}{op:Bool}(a8:au H id 0=some [.s (.bool op)])(s:ByteArray):aR ag (.fn Je [] [.ref id 0 0]) [aA s] base H=some (.s (.bool (jz op s)),H):=by
 have h:=Bl ag kM s base H;have af:=u5 a8
 refine gR (c:=sE) aB (by simp[sE]) ?_
 simp only[ar]at h;unfold jz U0 Mx;cases bd:(s.data.toList==[])with
 |true=>simp only[sE,simprocAttr,NL,aG,bd]
 |false=>
   cases J:pZ s with
   |true=>
     rw[J]at h;simp only[sE,simprocAttr,NL,aG,bd,h]
   |false=>
     rw[J]at h;cases op with
     |true=>simp only[sE,simprocAttr,NL,aG,bd,h,af]
     |false=>simp only[sE,simprocAttr,NL,aG,bd,h,af]
def O'(kM:ag F2=some (.code uM))(TV:ag Je=some (.code sE))(aB:ag PI=some (.code x4))(kG:ag Mh=some (.code xR))(cl:ag JN=some (.code r'))(base:Nat)(H:ad)(op:Bool){v:V}{l:List ByteArray}(av:Rd H v (l.map aA))(hw:mq v)(aq:l.length<2^40):
 ∃H',aR ag (.fn PI [] []) [.s (.bool op),v] base H=some (.s (.bool (l.any (jz op))),H')/\Ext H H':=by
 have cX:Ext H (H++[aM.cells 0 [.s (.bool op)]]):=Ext.app _ _;obtain⟨H',J,aa⟩:=YO kG cl base (H++[aM.cells 0 [.s (.bool op)]]) (f:=.fn Je [] [.ref H.length 0 0]) (p:=jz op) (av.ext cX) hw (fun x _ D d'=>⟨D,aHV kM TV base (b7 (cQ H 0 _) d') x,Ext.refl D⟩) aq
 refine⟨H',eF (c:=x4) (k:=2) aB rfl (by decide) aB4 ?_,cX.trans aa⟩
 simp only[x4,simprocAttr,aRW,aG,zb,J]
def aIc(aB:ag Ps=some (.code vT))(base:Nat)(A:ad){v:V}{l:List ByteArray}(s:ByteArray)(av:Rd A v (l.map aA))(hw:mq v)(aq:l.length<2^40):
 aR ag (.fn Ps [] []) [v,aA s] base A=some (U (Cf (fun x=>s.data.toList==x.data.toList) l),A):=by
 have dn:=so av
 have step:∀i,i<l.length->(s.data.toList==(l.getD i ⟨#[]⟩).data.toList)=false->aN (aL (aR ag) aN base Ec) [] A.length (ax 19 [(0,v),(1,aA s),(7,U l.length),(8,U i)]) A=aN (aL (aR ag) aN base Ec) [] A.length (ax 19 [(0,v),(1,aA s),(7,U l.length),(8,U (i+1:Nat))]) A:=by
  intro i hi ay
  have eb:((i:Int)<(l.length:Int)):=by omega
  have jf:=jB (n:=i) (by omega)
  obtain⟨a,bw,a2⟩:=ui av hw hi;rw[dt];simp only[U,simprocAttr,aA,KM,aG,eb,bw,a2,ay,jf,vF rfl]
 refine gR (c:=vT) aB (by simp[vT]) ?_
 rcases abK l.length (fun i=>s.data.toList==(l.getD i ⟨#[]⟩).data.toList) (fun i=>aN (aL (aR ag) aN base Ec) [] A.length (ax 19 [(0,v),(1,aA s),(7,U l.length),(8,U i)]) A) step with⟨J,aa⟩|⟨i,hi,J,aa,aI⟩
 .rw[aru ⟨#[]⟩ J]
  have qg:aN (aL (aR ag) aN base Ec) [] A.length (ax 19 [(0,v),(1,aA s),(7,U l.length),(8,U l.length)]) A=some (.ext 0,ax 19 [(0,v),(1,aA s),(7,U l.length),(8,U l.length),(9,ar false)],A):=by
   rw[dt];simp only[U,simprocAttr,aA,ar,KM,aG,nH,vF rfl]
  have bl:=aa.trans qg;simp only[U,aA,ar,j0]at bl;simp only[U,simprocAttr,aA,vT,KM,aG,dn,bl]
 .rw[alU ⟨#[]⟩ hi J aa]
  have eb:((i:Int)<(l.length:Int)):=by omega
  obtain⟨a,bw,a2⟩:=ui av hw hi
  have qg:aN (aL (aR ag) aN base Ec) [] A.length (ax 19 [(0,v),(1,aA s),(7,U l.length),(8,U i)]) A=some (.ret,ax 19 [(4,U i)],A):=by
   rw[dt];simp only[U,simprocAttr,aA,KM,aG,eb,bw,a2,J,vF rfl]
  have bl:=aI.trans qg;simp only[U,aA,j0]at bl;simp only[U,simprocAttr,aA,vT,KM,aG,dn,bl]
def Qu(aB:ag Fx=some (.code AB))(kM:ag Ps=some (.code vT))(base:Nat)(A:ad){v:V}{l:List ByteArray}(s:ByteArray)(av:Rd A v (l.map aA))(hw:mq v)(aq:l.length<2^40):
 aR ag (.fn Fx [] []) [v,aA s] base A=some (.s (.bool (l.any fun x=>s.data.toList==x.data.toList)),A):=by
 have h:=aIc kM base A s av hw aq
 refine gR (c:=AB) aB (by simp[AB]) ?_
 rw[<- aqA];simp only[U,aA]at h;simp only[aA,simprocAttr,AB,aRq,aG,h]
end
end Go.Proofs.YtngfpadeebpoeaaGreatDoor
set_option maxRecDepth 100000
namespace Go.ea
def j1{α β:Type}(f:Nat->α->Option β):List α->Nat->Option β
 | [],_=>none
 |x::l,i=>match f i x with|some b=>some b|none=>j1 f l (i+1)
def Fj{α β:Type}{f:Nat->α->Option β}:∀{l:List α} {k:Nat},j1 f l k=none↔∀i x,l[i]?=some x->f (k+i) x=none:=by
 intro l
 induction l with
 |nil=>intro k;simp[j1]
 |cons a l aF=>
   intro k;rw[j1];cases h:f k a with
   |some b=>
     simp only[false_iff,simprocAttr];intro ab;have:=ab 0 a rfl;rw[Du,h]at this;cases this
   |none=>
     simp only;rw[aF];constructor
     .intro ab i x af;cases i with
      |zero=>rw[EG]at af;rw[<- kI af];exact h
      |succ i=>rw[ze]at af;have:=ab i x af;rwa[show k+1+i=k+(i+1) by omega]at this
     .intro ab i x af
      have:=ab (i+1) x (by rw[ze];exact af)
      rwa[show k+(i+1)=k+1+i by omega]at this
def E0{α β S T:Type}(l:List α)(d:α)(f:Nat->α->Option β)(P:Nat->S->Prop)(X:Nat->S->T)(Q:β->T->Prop)(step:∀i s,i<l.length->P i s->(f i (l.getD i d)=none/\∃fW,X i s=X (i+1) fW/\P (i+1) fW)\/∃b,f i (l.getD i d)=some b/\Q b (X i s)):∀s,P 0 s->(j1 f l 0=none/\∃fW,X 0 s=X l.length fW/\P l.length fW)\/∃b,j1 f l 0=some b/\Q b (X 0 s):=by
 have key:∀(r:List α) (i:Nat) (lk s:S),l.drop i=r->i<=l.length->X 0 lk=X i s->P i s->(j1 f r i=none/\∃fW,X 0 lk=X l.length fW/\P l.length fW)\/∃b,j1 f r i=some b/\Q b (X 0 lk):=by
  intro r
  induction r with
  |nil=>
    intro i lk s aQ hi af ay
    have pL:i=l.length:=by
     have:=dV List.length aQ;rw[lm]at this;simp at this;omega
    subst pL;exact .inl ⟨rfl,s,af,ay⟩
  |cons a r aF=>
    intro i lk s aQ hi af ay
    have ab:l[i]?=some a:=by have:=dV (·[0]?) aQ;simp only[qP]at this;exact this
    have b8:i<l.length:=(dQ.1 ab).1
    have k5:l.drop (i+1)=r:=by
     have:=dV (List.drop 1) aQ
     simpa[Df,Qg]using this
    have a8:l.getD i d=a:=by rw[List.getD,ab];rfl
    rw[j1]
    rcases step i s b8 ay with⟨J,fW,aa,aI⟩|⟨b,J,aa⟩
    .rw[a8]at J;rw[J];exact aF (i+1) lk fW k5 b8 (af.trans aa) aI
    .rw[a8]at J;rw[J]
     exact .inr ⟨b,rfl,by rw[af];exact aa⟩
 exact fun s ay=>key l 0 s s rfl (gY _) rfl ay
section
variable {It:Type} [DecidableEq It]
end
def kk(k:IntKind)(l:List (Int × V)):List (Value × V):=l.map fun p=>(.int k p.1,p.2)
def agc(k:IntKind)(n:Int):n1 (.int k) (.int k n)=true:=by simp[n1]
theorem aN6(k:IntKind)(a b:Int):Instr.sameNow (.int k) (.int k a) (.int k b)=some (decide (a=b)):=by
 cases k<;>(first|rw[aTg]|skip)<;>rfl
def aaC(k:IntKind)(n:Int):∀(l:List (Int × V)) (i:Nat),oC (.int k) (.int k n) (kk k l) i=some (match l.findIdx? fun p=>decide (n=p.1)with|some j=>some (i+j,(l.getD j (0,bF)).2)|none=>none):=by
 intro l
 induction l with
 |nil=>intro i;rfl
 |cons p l aF=>
   intro i;have e:kk k (p::l)=(.int k p.1,p.2)::kk k l:=rfl;rw[e];simp only[oC,aN6,Ks];by_cases h:n=p.1
   .simp[h]
   .simp only[Dm h,aF,pD,hp];cases l.findIdx? fun p=>decide (n=p.1)with
    |none=>rfl
    |some j=>
      simp;omega
def sT(l:List (Int × V))(n:Int):Option V:=match l.findIdx? fun p=>decide (n=p.1)with|some j=>some (l.getD j (0,bF)).2|none=>none
def gH{H:ad}{base:Nat}(ah:base<=H.length)(k:IntKind)(l:List (Int × V))(n:Int)(v:V)(aJ:(l.all fun p=>decide (p.1≠n))=true):LA (H++[.map (kk k l)]) base (.int k) (.mp H.length) (.s (.int k n)) v=some (bF,H++[.map (kk k (l++[(n,v)]))]):=by
 have bm:(H++[aM.map (kk k l)])[H.length]?=some (.map (kk k l)):=by simp
 have al:=aaC k n l 0
 have J':l.findIdx? (fun p=>decide (n=p.1))=none:=by
  rw[PQ];intro p ay;have:=fp.1 aJ p ay
  simpa using fun e=>(I8 this) e.symm
 rw[J']at al;simp only[LA,ah,agc,qW,eW,bm,al];simp[kk]
theorem N2{H:ad}{j:Nat}(k:IntKind){l:List (Int × V)}(bm:H[j]?=some (.map (kk k l)))(z:V)(ok:Bool)(n:Int):
 zY H (.int k) z ok (.mp j) (.s (.int k n))=some (if ok then .bQ [(sT l n).getD z,ar (sT l n).isSome]else(sT l n).getD z):=by
 have al:=aaC k n l 0;simp only[zY,bf,aV,kK,qt,agc,eW,bm,al,sT];cases l.findIdx? fun p=>decide (n=p.1)with
 |none=>cases ok<;>rfl
 |some j=>cases ok<;>rfl
end Go.ea
set_option maxRecDepth 100000
namespace Go.Proofs.YtngfpadeebpoeaaGreatDoor
open Go.ea
structure e6 where
 d:Bool
 a:Bool
 b:Bool
 k:Bool
 f:Bool
 xs:Bool
 ls:Bool
def e6.c(s:e6):List V:=[.s (.bool s.d),.s (.bool s.a),.s (.bool s.b),.s (.bool s.k),.s (.bool s.f),.s (.bool s.xs),.s (.bool s.ls)]
def hK:List (Int × V):=[(1,.agg (e6.c ⟨true,false,false,true,false,false,false⟩)),(2,.agg (e6.c ⟨true,false,false,true,false,false,false⟩)),(3,.agg (e6.c ⟨true,false,false,false,false,false,false⟩)),(4,.agg (e6.c ⟨true,false,false,false,true,false,false⟩)),(5,.agg (e6.c ⟨true,true,false,false,false,false,false⟩)),(8,.agg (e6.c ⟨true,true,false,false,false,false,false⟩)),(6,.agg (e6.c ⟨true,false,false,false,false,true,true⟩)),(7,.agg (e6.c ⟨true,true,false,true,false,false,false⟩)),(9,.agg (e6.c ⟨false,true,true,false,false,false,false⟩)),(10,.agg (e6.c ⟨true,false,false,false,true,true,false⟩)),(11,.agg (e6.c ⟨true,true,false,false,false,true,false⟩)),(12,.agg (e6.c ⟨false,false,false,false,false,false,true⟩)),(13,.agg (e6.c ⟨false,false,false,false,false,false,true⟩)),(14,.agg (e6.c ⟨false,true,false,false,false,false,false⟩))]
def e7(n:Int):e6:=if n=1 then⟨true,false,false,true,false,false,false⟩else if n=2 then⟨true,false,false,true,false,false,false⟩else if n=3 then⟨true,false,false,false,false,false,false⟩else if n=4 then⟨true,false,false,false,true,false,false⟩else if n=5 then⟨true,true,false,false,false,false,false⟩else if n=8 then⟨true,true,false,false,false,false,false⟩else if n=6 then⟨true,false,false,false,false,true,true⟩else if n=7 then⟨true,true,false,true,false,false,false⟩else if n=9 then⟨false,true,true,false,false,false,false⟩else if n=10 then⟨true,false,false,false,true,true,false⟩else if n=11 then⟨true,true,false,false,false,true,false⟩else if n=12 then⟨false,false,false,false,false,false,true⟩else if n=13 then⟨false,false,false,false,false,false,true⟩else if n=14 then⟨false,true,false,false,false,false,false⟩else⟨false,false,false,false,false,false,false⟩
def ar6(n:Int):(sT hK n).getD (.agg (e6.c ⟨false,false,false,false,false,false,false⟩))=.agg (e7 n).c:=by
 by_cases J:n=1
 .subst J;rfl
 by_cases aa:n=2
 .subst aa;rfl
 by_cases aI:n=3
 .subst aI;rfl
 by_cases bl:n=4
 .subst bl;rfl
 by_cases cO:n=5
 .subst cO;rfl
 by_cases tw:n=8
 .subst tw;rfl
 by_cases fQ:n=6
 .subst fQ;rfl
 by_cases qB:n=7
 .subst qB;rfl
 by_cases oz:n=9
 .subst oz;rfl
 by_cases j8:n=10
 .subst j8;rfl
 by_cases P4:n=11
 .subst P4;rfl
 by_cases aqZ:n=12
 .subst aqZ;rfl
 by_cases asM:n=13
 .subst asM;rfl
 by_cases KJ:n=14
 .subst KJ;rfl
 simp[sT,hK,e7,Ks,J,aa,aI,bl,cO,tw,fQ,qB,oz,j8,P4,aqZ,asM,KJ]
section
variable {ag:Nat->Option cz}
def aWH(aB:ag TN=some (.code zQ))(base:Nat)(H:ad)(ah:base<=H.length):aR ag (.fn TN [] []) [] base H=some (.mp H.length,H++[.map (kk .u8 hK)]):=by
 refine gR (c:=zQ) aB (by simp[zQ]) ?_
 have cX:(aM.map []:aM)=.map (kk .u8 []):=rfl
 have jY:=gH ah .u8 (hK.take 0) 1 (.agg (e6.c ⟨true,false,false,true,false,false,false⟩)) (by decide)
 have ks:=gH ah .u8 (hK.take 1) 2 (.agg (e6.c ⟨true,false,false,true,false,false,false⟩)) (by decide)
 have jW:=gH ah .u8 (hK.take 2) 3 (.agg (e6.c ⟨true,false,false,false,false,false,false⟩)) (by decide)
 have lT:=gH ah .u8 (hK.take 3) 4 (.agg (e6.c ⟨true,false,false,false,true,false,false⟩)) (by decide)
 have om:=gH ah .u8 (hK.take 4) 5 (.agg (e6.c ⟨true,true,false,false,false,false,false⟩)) (by decide)
 have u8:=gH ah .u8 (hK.take 5) 8 (.agg (e6.c ⟨true,true,false,false,false,false,false⟩)) (by decide)
 have p8:=gH ah .u8 (hK.take 6) 6 (.agg (e6.c ⟨true,false,false,false,false,true,true⟩)) (by decide)
 have um:=gH ah .u8 (hK.take 7) 7 (.agg (e6.c ⟨true,true,false,true,false,false,false⟩)) (by decide)
 have r8:=gH ah .u8 (hK.take 8) 9 (.agg (e6.c ⟨false,true,true,false,false,false,false⟩)) (by decide)
 have uz:=gH ah .u8 (hK.take 9) 10 (.agg (e6.c ⟨true,false,false,false,true,true,false⟩)) (by decide)
 have zV:=gH ah .u8 (hK.take 10) 11 (.agg (e6.c ⟨true,true,false,false,false,true,false⟩)) (by decide)
 have Aa:=gH ah .u8 (hK.take 11) 12 (.agg (e6.c ⟨false,false,false,false,false,false,true⟩)) (by decide)
 have yZ:=gH ah .u8 (hK.take 12) 13 (.agg (e6.c ⟨false,false,false,false,false,false,true⟩)) (by decide)
 have xN:=gH ah .u8 (hK.take 13) 14 (.agg (e6.c ⟨false,true,false,false,false,false,false⟩)) (by decide)
 simp only[hK,dj,dB,e6.c]at jY;simp only[hK,dK,dj,du,dB,e6.c]at ks;simp only[hK,dK,dj,du,dB,e6.c]at jW;simp only[hK,dK,dj,du,dB,e6.c]at lT;simp only[hK,dK,dj,du,dB,e6.c]at om;simp only[hK,dK,dj,du,dB,e6.c]at u8;simp only[hK,dK,dj,du,dB,e6.c]at p8;simp only[hK,dK,dj,du,dB,e6.c]at um;simp only[hK,dK,dj,du,dB,e6.c]at r8;simp only[hK,dK,dj,du,dB,e6.c]at uz;simp only[hK,dK,dj,du,dB,e6.c]at zV;simp only[hK,dK,dj,du,dB,e6.c]at Aa;simp only[hK,dK,dj,du,dB,e6.c]at yZ;simp only[hK,dK,dj,du,dB,e6.c]at xN;simp only[hK,e6.c];simp only[zQ,simprocAttr,aQd,aG,cX,jY,ks,jW,lT,om,u8,p8,um,r8,uz,zV,Aa,yZ,xN]
end
abbrev tS:=Nat × Nat × Nat
structure Small (fs:List cT):Prop where
 n:fs.length<2^20
 ps:∀f∈fs,f.ps.length<2^20
 Jr:∀f∈fs,f.blocks.length<2^20
 Uk:∀f∈fs,∀b∈f.blocks,b.code.length<2^20
 xs:∀f∈fs,∀b∈f.blocks,∀x∈b.code,x.xs.length<2^20
 ls:∀f∈fs,∀b∈f.blocks,∀x∈b.code,x.ls.length<2^20
structure qm (A:ad) (w sm:Nat) (cr:V) (fs:List cT):Prop where
 NF:au A w 0=some [cr,.mp sm]
 rd:iF A cr fs
 x5:Small fs
 VQ:A[sm]?=some (.map (kk .u8 hK))
def Ext.at'{A B:ad}(k:Ext A B){i:Nat}{x:aM}(h:A[i]?=some x):B[i]?=some x:=by
 obtain⟨G,rfl⟩:=k;rw[bi (dQ.1 h).1];exact h
def qm.ext{A B:ad}{w sm:Nat}{cr:V}{fs:List cT}(h:qm A w sm cr fs)(k:Ext A B):qm B w sm cr fs:=⟨b7 h.NF k,h.rd.ext k,h.x5,Ext.at' k h.VQ⟩
theorem qm.load{A B:ad}{w sm:Nat}{cr:V}{fs:List cT}(h:qm A w sm cr fs)(k:Ext A B):fa B false 1 (.ref w 0 0)=some cr:=by
 rw[h1,b7 h.NF k];rfl
def Found(A:ad)(n h:Nat)(t:tS)(r:Option (nE × List V × ad)):Prop:=∃D,r=some (.ret,ax n [(2,.ref h 0 0),(3,ar true)],D)/\Ext A D/\au D h 0=some [U t.1,U t.2.1,U t.2.2]
def wg{H H':ad}{v:V}{l:List bI}(h:fb 8 fc H v l)(k:Ext H H'):fb 8 fc H' v l:=fb.ext (P:=fc) fc.ext h k
def vQ{H H':ad}{v:V}{l:List ey}(h:fb 2 lx H v l)(k:Ext H H'):fb 2 lx H' v l:=fb.ext (P:=lx) lx.ext h k
def sr:Option tS->V
 |none=>.bQ [.agg [U 0,U 0,U 0],.s (.bool false)]
 |some (i,b,k)=>.bQ [.agg [U i,U b,U k],.s (.bool true)]
def vE{C:ad}{m:Nat}(h:C.length<=m)(fr:List V)(G:ad):∃eH,trim m fr (C++G)=C++eH:=by
 rcases zH m fr (C++G)with e|⟨e,_⟩
 .exact⟨G,e⟩
 .exact⟨G.take (m-C.length),by rw[e,Wb,Hk h]⟩
def hW(bs:List ey):Nat:=(bs.map fun b=>b.code.length).sum
def ga(fs:List cT):Nat:=(fs.map fun f=>hW f.blocks).sum
def al5{bs:List ey}{k:Nat}{x:ey}(h:bs[k]?=some x):hW (bs.take (k+1))=hW (bs.take k)+x.code.length:=by
 rw[By,h,hW,zL,NI];simp[hW]
def arn{fs:List cT}{k:Nat}{x:cT}(h:fs[k]?=some x):ga (fs.take (k+1))=ga (fs.take k)+hW x.blocks:=by
 rw[By,h,ga,zL,NI];simp[ga]
def F4(G:Nat->Nat->Nat->Nat->bI->Bool)(n i b:Nat)(k:Nat)(x:bI):Option tS:=if G (n+k) i b k x then some (i,b,k)else none
def P8(G:Nat->Nat->Nat->Nat->bI->Bool)(n i:Nat)(bs:List ey)(b:Nat)(ar:ey):Option tS:=j1 (F4 G (n+hW (bs.take b)) i b) ar.code 0
def L'(G:Nat->Nat->Nat->Nat->bI->Bool)(fs:List cT)(i:Nat)(f:cT):Option tS:=j1 (P8 G (ga (fs.take i)) i f.blocks) f.blocks 0
def y5(G:Nat->Nat->Nat->Nat->bI->Bool)(fs:List cT):Option tS:=j1 (L' G fs) fs 0
section
variable {ag:Nat->Option cz}
def Iv(ag:Nat->Option cz)(base:Nat)(y:V)(K:Nat->ad)(l7:Nat->Nat->Nat->Nat->ad)(n i b k:Nat)(r:List V)(g:Bool):Prop:=∀G,∃eH,aR ag y [.agg [U i,U b,U k],.agg r] base (K n++G)=if g then some (ar false,l7 n i b k++eH)else some (ar true,K (n+1)++eH)
def aGU(base:Nat){A:ad}{K:Nat->ad}{l7:Nat->Nat->Nat->Nat->ad}{jy:Nat->Nat->Nat->Nat->bI->Bool}{y:V}{mM L:Nat}(cU:mM<=L)(bk:∀n,(K n).length=mM)(wC:∀n i b k,(l7 n i b k).length=mM)(bp:∀n,Ext A (K n))(ah:base<=mM){i b n0:Nat}{oN v21 bA:V}{o9 pt zn zk:Int}{l:List bI}(av:fb 8 fc A bA l)(aJ:l.length<2^20)(bC:∀k x r,l[k]?=some x->fc A r x->Iv ag base y K l7 (n0+k) i b k r (jy (n0+k) i b k x)):
 ∀C,(∃G,C=K (n0)++G)->(j1 (F4 jy n0 i b) l 0=none/\∃eH,aN (aL (aR ag) aN base ID) [] L (ax 47 [(0,y),(3,U i),(5,U b),(13,oN),(14,U o9),(15,U pt),(21,v21),(22,U zn),(23,U zk),(29,bA),(30,U l.length),(31,U 0)]) C=some (.ext 4,ax 47 [(0,y),(3,U i),(5,U b),(13,oN),(14,U o9),(15,U pt),(21,v21),(22,U zn),(23,U zk),(29,bA),(30,U l.length),(31,U l.length),(32,ar false)],K (n0+l.length)++eH))\/∃t,j1 (F4 jy n0 i b) l 0=some t/\∃fr n eH,aN (aL (aR ag) aN base ID) [] L (ax 47 [(0,y),(3,U i),(5,U b),(13,oN),(14,U o9),(15,U pt),(21,v21),(22,U zn),(23,U zk),(29,bA),(30,U l.length),(31,U 0)]) C=some (.ret,fr,l7 n t.1 t.2.1 t.2.2++eH):=by
 intro dU lM
 rcases E0 l fE (F4 jy n0 i b) (fun k C=>∃G,C=K (n0+k)++G) (fun k C=>aN (aL (aR ag) aN base ID) [] L (ax 47 [(0,y),(3,U i),(5,U b),(13,oN),(14,U o9),(15,U pt),(21,v21),(22,U zn),(23,U zk),(29,bA),(30,U l.length),(31,U k)]) C) (fun t r=>∃fr n eH,r=some (.ret,fr,l7 n t.1 t.2.1 t.2.2++eH)) (by
  intro k C an ⟨G,KR⟩;have kG:=KR.symm
  have eb:((k:Int)<(l.length:Int)):=by omega
  have jf:=jB (n:=k) (by omega)
  have hv:=q6 an fE;obtain⟨x,kt⟩:∃x,l.getD k fE=x:=⟨_,rfl⟩;rw[kt]at hv |-;have iv:=ib hv;obtain⟨a,r,bw,ak,a2,_⟩:=av.l4 hv;have ho:Ext A C:=kG▸(bp _).trans ⟨G,rfl⟩;have gl:=a2 C ho
  have gr:base<=C.length:=by rw[<- kG,c0,bk];omega
  have cg:∀c,au (C++[aM.cells 0 c]) C.length 0=some c:=fun c=>cQ C 0 c;have dE:∀c d,(C++[c]).set C.length d=C++[d]:=fun c d=>iI C c d;have l9:∀c,Ext C (C++[aM.cells 0 c]):=fun c=>Ext.app _ _
  have Lc:∀c:List V,C++[aM.cells 0 c]=K (n0+k)++(G++[aM.cells 0 c]):=fun c=>by rw[<- kG,gi]
  obtain⟨a',lv,rfl,bj,aT,a1,cB,_⟩:=id ak;obtain⟨eH,jG⟩:=bC k x _ hv ak (G++[aM.cells 0 (bg x a' lv)]);rw[<- Lc]at jG;have ft:=bj.one;have fq:=a1.one;unfold F4;cases a8:jy (n0+k) i b k x with
  |false=>
    rw[a8,bV GQ]at jG
    obtain⟨hq,mH⟩:=vE (C:=K (n0+(k+1))) (m:=L) (by rw[bk];exact cU) (ax 47 [(0,y),(3,U i),(5,U b),(13,oN),(14,U o9),(15,U pt),(21,v21),(22,U zn),(23,U zk),(29,bA),(30,U l.length),(31,U (k+1:Nat))]) eH
    refine .inl ⟨bV GQ,K (n0+(k+1))++hq,?_,hq,rfl⟩;simp only[bg,U,ar,qs]at gl jG mH |-;rw[dt];simp only[wc,simprocAttr,aG,eb,bw,gl,gr,cg,dE,ft,fq,eG,jG,jf,mH]
  |true=>
    rw[a8,bE rfl]at jG
    obtain⟨hq,mH⟩:=vE (C:=l7 (n0+k) i b k) (m:=L) (by rw[wC];exact cU) (ax 47 [(0,y),(3,U i),(5,U b),(13,oN),(14,U o9),(15,U pt),(21,v21),(22,U zn),(23,U zk),(29,bA),(30,U l.length),(31,U k),(43,ar true)]) eH
    refine .inr ⟨(i,b,k),bE rfl,ax 47 [(0,y),(3,U i),(5,U b),(13,oN),(14,U o9),(15,U pt),(21,v21),(22,U zn),(23,U zk),(29,bA),(30,U l.length),(31,U k),(43,ar true)],n0+k,hq,?_⟩;simp only[bg,U,ar]at gl jG mH |-;rw[dt]
    simp only[wc,simprocAttr,aG,eb,bw,gl,gr,cg,dE,ft,fq,eG,jG,mH]) dU (by exact lM)with⟨aE,C,aU,G,cd⟩|e
 .refine .inl ⟨aE,?_⟩;rw[show n0+l.length=n0+l.length from rfl]at cd
  obtain⟨eH,B2⟩:=vE (C:=K (n0+l.length)) (m:=L) (by rw[bk];exact cU) (ax 47 [(0,y),(3,U i),(5,U b),(13,oN),(14,U o9),(15,U pt),(21,v21),(22,U zn),(23,U zk),(29,bA),(30,U l.length),(31,U l.length),(32,ar false)]) G
  refine⟨eH,?_⟩;rw[j0]at aU;refine aU.trans ?_;subst cd;rw[dt];simp only[U,ar]at B2;simp only[U,simprocAttr,ar,wc,aG,nH,B2]
 .rw[j0]at e;exact .inr e
def aT6(base:Nat){A:ad}{K:Nat->ad}{l7:Nat->Nat->Nat->Nat->ad}{jy:Nat->Nat->Nat->Nat->bI->Bool}{y:V}{mM L:Nat}(cU:mM<=L)(bk:∀n,(K n).length=mM)(wC:∀n i b k,(l7 n i b k).length=mM)(bp:∀n,Ext A (K n))(ah:base<=mM){i n0:Nat}{oN bv:V}{o9 pt:Int}{l:List ey}(av:fb 2 lx A bv l)(aJ:l.length<2^20)(ht:∀b∈l,b.code.length<2^20)(bC:∀b x,l[b]?=some x->∀k z r,x.code[k]?=some z->fc A r z->Iv ag base y K l7 (n0+hW (l.take b)+k) i b k r (jy (n0+hW (l.take b)+k) i b k z)):
 ∀C,(∃G,C=K (n0)++G)->(j1 (P8 jy n0 i l) l 0=none/\∃eH,aN (aL (aR ag) aN base Iq) [] L (ax 47 [(0,y),(3,U i),(13,oN),(14,U o9),(15,U pt),(21,bv),(22,U l.length),(23,U 0)]) C=some (.ext 2,ax 47 [(0,y),(3,U i),(13,oN),(14,U o9),(15,U pt),(21,bv),(22,U l.length),(23,U l.length),(24,ar false)],K (n0+hW l)++eH))\/∃t,j1 (P8 jy n0 i l) l 0=some t/\∃fr n eH,aN (aL (aR ag) aN base Iq) [] L (ax 47 [(0,y),(3,U i),(13,oN),(14,U o9),(15,U pt),(21,bv),(22,U l.length),(23,U 0)]) C=some (.ret,fr,l7 n t.1 t.2.1 t.2.2++eH):=by
 intro dU lM
 rcases E0 l zj (P8 jy n0 i l) (fun k C=>∃G,C=K (n0+hW (l.take k))++G) (fun k C=>aN (aL (aR ag) aN base Iq) [] L (ax 47 [(0,y),(3,U i),(13,oN),(14,U o9),(15,U pt),(21,bv),(22,U l.length),(23,U k)]) C) (fun t r=>∃fr n eH,r=some (.ret,fr,l7 n t.1 t.2.1 t.2.2++eH)) (by
  intro k C an ⟨G,KR⟩;have kG:=KR.symm
  have eb:((k:Int)<(l.length:Int)):=by omega
  have jf:=jB (n:=k) (by omega)
  have hv:=q6 an zj;obtain⟨x,kt⟩:∃x,l.getD k zj=x:=⟨_,rfl⟩;rw[kt]at hv |-;have iv:=ib hv;obtain⟨a,r,bw,ak,a2,_⟩:=av.l4 hv;have ho:Ext A C:=kG▸(bp _).trans ⟨G,rfl⟩;have gl:=a2 C ho
  have gr:base<=C.length:=by rw[<- kG,c0,bk];omega
  have cg:∀c,au (C++[aM.cells 0 c]) C.length 0=some c:=fun c=>cQ C 0 c;have dE:∀c d,(C++[c]).set C.length d=C++[d]:=fun c d=>iI C c d;have l9:∀c,Ext C (C++[aM.cells 0 c]):=fun c=>Ext.app _ _
  have Lc:∀c:List V,C++[aM.cells 0 c]=K (n0+hW (l.take k))++(G++[aM.cells 0 c]):=fun c=>by rw[<- kG,gi]
  obtain⟨bA,rfl,fm⟩:=id ak;have fk:=(wg fm (ho.trans (l9 [aA x.label,bA]))).len;have ko:=fm.one;have y2:=al5 hv
  have gS:(C++[aM.cells 0 [aA x.label,bA]]).length=C.length+1:=by simp
  have nz:mM<=C.length+1:=by rw[<- kG,c0,bk];omega
  have pL:=aGU (ag:=ag) (jy:=jy) (y:=y) (oN:=oN) (v21:=bv) (i:=i) (b:=k) (o9:=o9) (pt:=pt) (zn:=l.length) (zk:=k) base (L:=C.length+1) nz bk wC bp ah fm (ht x iv) (n0:=n0+hW (l.take k)) (bC k x hv) (C++[aM.cells 0 [aA x.label,bA]]) ⟨G++[aM.cells 0 [aA x.label,bA]],Lc _⟩
  rw[show n0+hW (l.take k)+x.code.length=n0+hW (l.take (k+1)) by rw[y2];omega]at pL
  rcases pL with⟨eO,eH,z2⟩|⟨t,eO,fr,n,eH,z2⟩
  .obtain⟨hq,mH⟩:=vE (C:=K (n0+hW (l.take (k+1)))) (m:=L) (by rw[bk];exact cU) (ax 47 [(0,y),(3,U i),(13,oN),(14,U o9),(15,U pt),(21,bv),(22,U l.length),(23,U (k+1:Nat))]) eH
   refine .inl ⟨eO,K (n0+hW (l.take (k+1)))++hq,?_,hq,rfl⟩;simp only[U,ar]at z2 mH gl |-;rw[dt];simp only[wc,simprocAttr,aG,eb,bw,gl,gr,cg,dE,ko,fk,eG,gS,z2,jf,mH]
  .obtain⟨hq,mH⟩:=vE (C:=l7 n t.1 t.2.1 t.2.2) (m:=L) (by rw[wC];exact cU) (ul [] fr) eH
   refine .inr ⟨t,eO,ul [] fr,n,hq,?_⟩;simp only[U]at z2 mH gl |-;rw[dt]
   simp only[wc,simprocAttr,aG,eb,bw,gl,gr,cg,dE,ko,fk,eG,gS,z2,mH]) dU (by rw[dj,show n0+hW []=n0 from rfl];exact lM)with⟨aE,C,aU,G,cd⟩|e
 .refine .inl ⟨aE,?_⟩;rw[xD]at cd
  obtain⟨eH,B2⟩:=vE (C:=K (n0+hW l)) (m:=L) (by rw[bk];exact cU) (ax 47 [(0,y),(3,U i),(13,oN),(14,U o9),(15,U pt),(21,bv),(22,U l.length),(23,U l.length),(24,ar false)]) G
  refine⟨eH,?_⟩;rw[j0]at aU;refine aU.trans ?_;subst cd;rw[dt];simp only[U,ar]at B2;simp only[U,simprocAttr,ar,wc,aG,nH,B2]
 .rw[j0]at e;exact .inr e
def aUi(base:Nat){A:ad}{K:Nat->ad}{l7:Nat->Nat->Nat->Nat->ad}{jy:Nat->Nat->Nat->Nat->bI->Bool}{y:V}{mM L:Nat}(cU:mM<=L)(bk:∀n,(K n).length=mM)(wC:∀n i b k,(l7 n i b k).length=mM)(bp:∀n,Ext A (K n))(ah:base<=mM){cr:V}{l:List cT}(av:fb 3 p6 A cr l)(aJ:l.length<2^20)(oL:∀f∈l,f.blocks.length<2^20)(ht:∀f∈l,∀b∈f.blocks,b.code.length<2^20)(bC:∀i f,l[i]?=some f->∀b x,f.blocks[b]?=some x->∀k z r,x.code[k]?=some z->fc A r z->Iv ag base y K l7 (ga (l.take i)+hW (f.blocks.take b)+k) i b k r (jy (ga (l.take i)+hW (f.blocks.take b)+k) i b k z)):
 ∀C,(∃G,C=K (0)++G)->(j1 (L' jy l) l 0=none/\∃eH,aN (aL (aR ag) aN base Kr) [] L (ax 47 [(0,y),(13,cr),(14,U l.length),(15,U 0)]) C=some (.ext 0,ax 47 [(0,y),(13,cr),(14,U l.length),(15,U l.length),(16,ar false)],K (ga l)++eH))\/∃t,j1 (L' jy l) l 0=some t/\∃fr n eH,aN (aL (aR ag) aN base Kr) [] L (ax 47 [(0,y),(13,cr),(14,U l.length),(15,U 0)]) C=some (.ret,fr,l7 n t.1 t.2.1 t.2.2++eH):=by
 intro dU lM
 rcases E0 l u9 (L' jy l) (fun k C=>∃G,C=K (ga (l.take k))++G) (fun k C=>aN (aL (aR ag) aN base Kr) [] L (ax 47 [(0,y),(13,cr),(14,U l.length),(15,U k)]) C) (fun t r=>∃fr n eH,r=some (.ret,fr,l7 n t.1 t.2.1 t.2.2++eH)) (by
  intro k C an ⟨G,KR⟩;have kG:=KR.symm
  have eb:((k:Int)<(l.length:Int)):=by omega
  have jf:=jB (n:=k) (by omega)
  have hv:=q6 an u9;obtain⟨x,kt⟩:∃x,l.getD k u9=x:=⟨_,rfl⟩;rw[kt]at hv |-;have iv:=ib hv;obtain⟨a,r,bw,ak,a2,_⟩:=av.l4 hv;have ho:Ext A C:=kG▸(bp _).trans ⟨G,rfl⟩;have gl:=a2 C ho
  have gr:base<=C.length:=by rw[<- kG,c0,bk];omega
  have cg:∀c,au (C++[aM.cells 0 c]) C.length 0=some c:=fun c=>cQ C 0 c;have dE:∀c d,(C++[c]).set C.length d=C++[d]:=fun c d=>iI C c d;have l9:∀c,Ext C (C++[aM.cells 0 c]):=fun c=>Ext.app _ _
  have Lc:∀c:List V,C++[aM.cells 0 c]=K (ga (l.take k))++(G++[aM.cells 0 c]):=fun c=>by rw[<- kG,gi]
  obtain⟨pv,bv,rfl,bj,aT,a1,qG⟩:=id ak;have qT:=bj.one;have jc:=qG.one;have eZ:=(vQ qG (ho.trans (l9 [aA x.name,pv,bv]))).len;have y2:=arn hv
  have gS:(C++[aM.cells 0 [aA x.name,pv,bv]]).length=C.length+1:=by simp
  have nz:mM<=C.length+1:=by rw[<- kG,c0,bk];omega
  have pL:=aT6 (ag:=ag) (jy:=jy) (y:=y) (oN:=cr) (i:=k) (o9:=l.length) (pt:=k) base (L:=C.length+1) nz bk wC bp ah qG (oL x iv) (ht x iv) (n0:=ga (l.take k)) (bC k x hv) (C++[aM.cells 0 [aA x.name,pv,bv]]) ⟨G++[aM.cells 0 [aA x.name,pv,bv]],Lc _⟩;rw[<- y2]at pL
  rcases pL with⟨eO,eH,z2⟩|⟨t,eO,fr,n,eH,z2⟩
  .obtain⟨hq,mH⟩:=vE (C:=K (ga (l.take (k+1)))) (m:=L) (by rw[bk];exact cU) (ax 47 [(0,y),(13,cr),(14,U l.length),(15,U (k+1:Nat))]) eH
   refine .inl ⟨eO,K (ga (l.take (k+1)))++hq,?_,hq,rfl⟩;simp only[U,ar]at z2 mH gl |-;rw[dt];simp only[wc,simprocAttr,aG,eb,bw,gl,gr,cg,dE,qT,jc,eZ,eG,gS,z2,jf,mH]
  .obtain⟨hq,mH⟩:=vE (C:=l7 n t.1 t.2.1 t.2.2) (m:=L) (by rw[wC];exact cU) (ul [] fr) eH
   refine .inr ⟨t,eO,ul [] fr,n,hq,?_⟩;simp only[U]at z2 mH gl |-;rw[dt]
   simp only[wc,simprocAttr,aG,eb,bw,gl,gr,cg,dE,qT,jc,eZ,eG,gS,z2,mH]) dU (by rw[dj,show ga []=0 from rfl];exact lM)with⟨aE,C,aU,G,cd⟩|e
 .refine .inl ⟨aE,?_⟩;rw[xD]at cd
  obtain⟨eH,B2⟩:=vE (C:=K (ga l)) (m:=L) (by rw[bk];exact cU) (ax 47 [(0,y),(13,cr),(14,U l.length),(15,U l.length),(16,ar false)]) G
  refine⟨eH,?_⟩;rw[j0]at aU;refine aU.trans ?_;subst cd;rw[dt];simp only[U,ar]at B2;simp only[U,simprocAttr,ar,wc,aG,nH,B2]
 .rw[j0]at e;exact .inr e
def aMB(aB:ag EI=some (.code ue))(base:Nat){A:ad}{K:Nat->ad}{l7:Nat->Nat->Nat->Nat->ad}{jy:Nat->Nat->Nat->Nat->bI->Bool}{y:V}{mM:Nat}(bk:∀n,(K n).length=mM)(wC:∀n i b k,(l7 n i b k).length=mM)(bp:∀n,Ext A (K n))(ah:base<=mM){w bc sm:Nat}{cr:V}{fs:List cT}(ab:qm A w sm cr fs)(hw:au (K 0) bc 0=some [.ref w 0 0])(bC:∀i f,fs[i]?=some f->∀b x,f.blocks[b]?=some x->∀k z r,x.code[k]?=some z->fc A r z->Iv ag base y K l7 (ga (fs.take i)+hW (f.blocks.take b)+k) i b k r (jy (ga (fs.take i)+hW (f.blocks.take b)+k) i b k z)):
 (y5 jy fs=none/\∃G,aR ag (.fn EI [] [.ref bc 0 0]) [y] base (K 0)=some (.bQ [],K (ga fs)++G))\/∃t,y5 jy fs=some t/\∃n G,aR ag (.fn EI [] [.ref bc 0 0]) [y] base (K 0)=some (.bQ [],l7 n t.1 t.2.1 t.2.2++G):=by
 have dX:=u5 hw;have fx:=ab.load (bp 0);have gy:=(ab.rd.ext (bp 0)).len
 rcases aUi (ag:=ag) (jy:=jy) (y:=y) (L:=mM) base (cq _) bk wC bp ah ab.rd ab.x5.n ab.x5.Jr ab.x5.Uk bC (K 0) ⟨[],(nn _).symm⟩with⟨eO,G,z2⟩|⟨t,eO,fr,n,G,z2⟩
 .refine .inl ⟨eO,G,gR (c:=ue) aB (by simp[ue]) ?_⟩
  simp only[U,ar]at z2 gy;simp only[ue,simprocAttr,wc,aG,dX,fx,gy,bk,z2,amH]
 .refine .inr ⟨t,eO,n,G,gR (c:=ue) aB (by simp[ue]) ?_⟩
  simp only[U]at z2 gy;simp only[ue,simprocAttr,wc,aG,dX,fx,gy,bk,z2,amH]
end
end Go.Proofs.YtngfpadeebpoeaaGreatDoor
