/- Texts of the proof: ShoF2, ShoF3, ShoF4, ShnC2, ShnD1, ShnD2, ShnD4, ShoF6, ShoF7, ShoF8, ShoF9, ShoF10, ShnH1, ShnH2, ShnH3, ShnD5, ShnI1, ShoF11, ShoF12, ShoF13, SbC, SbD, SbE, SbF, SbG, SbH, SbI, SbJ, ShnJ1, SbK, SbL, ShS6, ShoR1, ShoR2, ShoR3, ShoR4, ShoR5, ShoR6, ShoR7, ShoR8, ShoR9, ShoRA, ShoRB. -/
import Derived.Test.YtngfpadeebpoeaaGreatDoorP0
import Derived.Test.YtngfpadeebpoeaaGreatDoorP1
import Derived.Test.YtngfpadeebpoeaaGreatDoorP2
import Derived.Test.YtngfpadeebpoeaaGreatDoorP3
import Derived.Test.YtngfpadeebpoeaaGreatDoorP4
import Derived.Test.YtngfpadeebpoeaaGreatDoorP5
set_option linter.all false
set_option maxRecDepth 100000
namespace Go.Proofs.YtngfpadeebpoeaaGreatDoor
open Go.ea
def ln{M:Nat}{xs:List ByteArray}{sep:ByteArray}(J:xs.length<=4096)(aa:∀x∈xs,x.size<=M)(cS:M<=17179869184)(aI:sep.size<=2):C' xs sep/\(jK xs sep).size<=xs.length*(M+2):=by
 have h:=aIF sep.data.toList (M:=M) (xs:=xs.map (·.data.toList)) (by
  intro x af;obtain⟨b,ah,rfl⟩:=wJ.1 af;exact aa b ah)
 have aX7:sep.data.toList.length<=2:=aI;rw[pY]at h
 have bl:xs.length*(sep.data.toList.length+M)<=xs.length*(M+2):=Iy _ (by omega)
 have cO:xs.length*(M+2)<=4096*17179869186:=Nat.mul_le_mul J (by omega)
 exact⟨⟨by omega,by omega⟩,jn h bl⟩
def tt{M:Nat}{a b:ByteArray}(aO:a.size<=M)(ah:b.size<=M):∀x∈[a,b],x.size<=M:=by
 intro x af;simp only[nj,xn,xv]at af
 rcases af with rfl|rfl<;>assumption
def GL{M:Nat}{a b c:ByteArray}(aO:a.size<=M)(ah:b.size<=M)(ab:c.size<=M):∀x∈[a,b,c],x.size<=M:=by
 intro x af;simp only[nj,xn,xv]at af
 rcases af with rfl|rfl|rfl<;>assumption
def wh:ByteArray:=⟨#[97,108,108,111,99,97]⟩
def wE:ByteArray:=⟨#[109,97,108,108,111,99]⟩
def CT:ByteArray:=⟨#[110,117,108,108]⟩
def uc:ByteArray:=⟨#[97,100,100,114]⟩
def we:ByteArray:=⟨#[99,111,112,121]⟩
def ur:ByteArray:=⟨#[112,104,105]⟩
def uW:ByteArray:=⟨#[102,105,101,108,100]⟩
def vm:ByteArray:=⟨#[108,111,97,100]⟩
def uU:ByteArray:=⟨#[115,116,111,114,101]⟩
def u4:ByteArray:=⟨#[99,97,108,108]⟩
def tY:ByteArray:=⟨#[105,99,97,108,108]⟩
def uE:ByteArray:=⟨#[98,114]⟩
def uD:ByteArray:=⟨#[103,111,116,111]⟩
def tj:ByteArray:=⟨#[114,101,116]⟩
def p7:ByteArray:=⟨#[44]⟩
def iG(n:Int):ByteArray:=⟨(Lib.decDigits n.toNat).toArray⟩
def aMY:∀n:Nat,n<100->(Lib.decDigits n).length<=2:=by
 intro n aJ;rw[Lib.decDigits];split
 .simp
 .rw[Lib.decDigits,IY (by omega)]
  simp
def EK{n:Int}(bd:0<=n)(J:n<100):(iG n).size<=2:=aMY n.toNat (by omega)
structure ml (x:bI):Prop where
 d:x.d.size<=4000
 a:x.a.size<=4000
 b:x.b.size<=4000
 f:x.f.size<=4000
 pn:x.xs.length<=4000
 nl:x.ls.length<=4000
 xs:∀s∈x.xs,s.size<=4000
 ls:∀s∈x.ls,s.size<=4000
structure oZ (ag:Nat->Option cz):Prop where
 L:v' ag
 W:ag VN=some (.code zh)
 A:ag Rf=some (.code za)
 T:ag awp=some (.hP HF)
def IP{xs:List ByteArray}(J:xs.length<=4000)(aa:∀x∈xs,x.size<=4000):C' xs pV/\(hT xs).size<=17000000:=by
 have h:=ln (sep:=pV) (by omega) aa (by omega) (by decide)
 have cC:(⟨#[40]⟩:ByteArray).size=1:=rfl;have b5:(⟨#[41]⟩:ByteArray).size=1:=rfl;have aI:xs.length*(4000+2)<=4000*4002:=rk _ J;refine⟨h.1,?_⟩;unfold hT;rw[o5,o5];omega
section
variable {ag:Nat->Option cz}
theorem aFd(h:oZ ag)(aB:ag WG=some (.code xm))(base:Nat){A:ad}{a' lv:V}{x:bI}(ak:fc A (bg x a' lv) x)(af:ml x):
 ∃H',aR ag (.fn WG [] []) [.agg (bg x a' lv)] base A=some (aA (dy [uc,x.f]),H')/\Ext A H':=by
 obtain⟨nK,rJ,he,bj,aT,a1,cB,_⟩:=ak;cases he;have ft:=bj.one;have fq:=a1.one;have aO:=af.a;have ah:=af.b;have al:=af.f;have aQ:=af.d;have dr:=dh A (aM.cells 0 (bg x a' lv));have cg:=cQ A 0 (bg x a' lv);have aE:Ext A (A++[aM.cells 0 (bg x a' lv)]):=Ext.app _ _;have lh:=oo (A++[aM.cells 0 (bg x a' lv)]) [uc,x.f]
 have bz:=ln (xs:=[uc,x.f]) (sep:=mE) (by simp) (tt (M:=40000000) (by first|decide|omega) (by first|decide|omega)) (by omega) (by decide)
 have hw:=qX h.L h.W base lh bz.1
 refine⟨_,eF (c:=xm) (k:=1) aB rfl (by decide) aCk ?_,aE.trans (Ext.app _ [aM.cells 0 ([uc,x.f].map aA)])⟩
 rw[dr]at hw;simp only[bg,dW,hC,c3,eh,uc]at hw cg dr;simp only[bg,simprocAttr,xm,aJg,aG,ft,fq,eG,dr,cg,hw];rfl
theorem aN3(h:oZ ag)(aB:ag UZ=some (.code xZ))(base:Nat){A:ad}{a' lv:V}{x:bI}(ak:fc A (bg x a' lv) x)(af:ml x):
 ∃H',aR ag (.fn UZ [] []) [.agg (bg x a' lv)] base A=some (aA (dy [we,x.a]),H')/\Ext A H':=by
 obtain⟨nK,rJ,he,bj,aT,a1,cB,_⟩:=ak;cases he;have ft:=bj.one;have fq:=a1.one;have aO:=af.a;have ah:=af.b;have al:=af.f;have aQ:=af.d;have dr:=dh A (aM.cells 0 (bg x a' lv));have cg:=cQ A 0 (bg x a' lv);have aE:Ext A (A++[aM.cells 0 (bg x a' lv)]):=Ext.app _ _;have lh:=oo (A++[aM.cells 0 (bg x a' lv)]) [we,x.a]
 have bz:=ln (xs:=[we,x.a]) (sep:=mE) (by simp) (tt (M:=40000000) (by first|decide|omega) (by first|decide|omega)) (by omega) (by decide)
 have hw:=qX h.L h.W base lh bz.1
 refine⟨_,eF (c:=xZ) (k:=1) aB rfl (by decide) aTa ?_,aE.trans (Ext.app _ [aM.cells 0 ([we,x.a].map aA)])⟩
 rw[dr]at hw;simp only[bg,dW,hC,c3,eh,we]at hw cg dr;simp only[bg,simprocAttr,xZ,aP6,aG,ft,fq,eG,dr,cg,hw];rfl
theorem aPo(h:oZ ag)(aB:ag R8=some (.code xe))(base:Nat){A:ad}{a' lv:V}{x:bI}(ak:fc A (bg x a' lv) x)(af:ml x):
 ∃H',aR ag (.fn R8 [] []) [.agg (bg x a' lv)] base A=some (aA (dy [vm,x.a]),H')/\Ext A H':=by
 obtain⟨nK,rJ,he,bj,aT,a1,cB,_⟩:=ak;cases he;have ft:=bj.one;have fq:=a1.one;have aO:=af.a;have ah:=af.b;have al:=af.f;have aQ:=af.d;have dr:=dh A (aM.cells 0 (bg x a' lv));have cg:=cQ A 0 (bg x a' lv);have aE:Ext A (A++[aM.cells 0 (bg x a' lv)]):=Ext.app _ _;have lh:=oo (A++[aM.cells 0 (bg x a' lv)]) [vm,x.a]
 have bz:=ln (xs:=[vm,x.a]) (sep:=mE) (by simp) (tt (M:=40000000) (by first|decide|omega) (by first|decide|omega)) (by omega) (by decide)
 have hw:=qX h.L h.W base lh bz.1
 refine⟨_,eF (c:=xe) (k:=1) aB rfl (by decide) aKa ?_,aE.trans (Ext.app _ [aM.cells 0 ([vm,x.a].map aA)])⟩
 rw[dr]at hw;simp only[bg,dW,hC,c3,eh,vm]at hw cg dr;simp only[bg,simprocAttr,xe,aGz,aG,ft,fq,eG,dr,cg,hw];rfl
theorem aHi(h:oZ ag)(aB:ag Rv=some (.code w2))(base:Nat){A:ad}{a' lv:V}{x:bI}(ak:fc A (bg x a' lv) x)(af:ml x):
 ∃H',aR ag (.fn Rv [] []) [.agg (bg x a' lv)] base A=some (aA (dy [uU,x.a++p7,x.b]),H')/\Ext A H':=by
 obtain⟨nK,rJ,he,bj,aT,a1,cB,_⟩:=ak;cases he;have ft:=bj.one;have fq:=a1.one;have aO:=af.a;have ah:=af.b;have al:=af.f;have aQ:=af.d;have dr:=dh A (aM.cells 0 (bg x a' lv));have cg:=cQ A 0 (bg x a' lv);have aE:Ext A (A++[aM.cells 0 (bg x a' lv)]):=Ext.app _ _;have cC:p7.size=1:=rfl
 have cj:x.a.size+p7.size<=4611686018427387904:=by omega
 have cZ:(x.a++p7).size<=40000000:=by rw[o5];omega
 have lh:=oo (A++[aM.cells 0 (bg x a' lv)]) [uU,x.a++p7,x.b]
 have bz:=ln (xs:=[uU,x.a++p7,x.b]) (sep:=mE) (by simp) (GL (M:=40000000) (by first|decide|omega) (by first|decide|omega) (by first|decide|omega)) (by omega) (by decide)
 have hw:=qX h.L h.W base lh bz.1
 refine⟨_,eF (c:=w2) (k:=1) aB rfl (by decide) aW7 ?_,aE.trans (Ext.app _ [aM.cells 0 ([uU,x.a++p7,x.b].map aA)])⟩
 rw[dr]at hw;simp only[bg,dW,hC,c3,eh,uU,p7]at hw cg dr cj;simp only[bg,simprocAttr,w2,aEG,aG,ft,fq,eG,dr,cg,hw,vV cj];rfl
theorem aWk(h:oZ ag)(aB:ag VU=some (.code wV))(base:Nat){A:ad}{a' lv:V}{x:bI}(ak:fc A (bg x a' lv) x)(af:ml x):
 ∃H',aR ag (.fn VU [] []) [.agg (bg x a' lv)] base A=some (aA (dy [u4,x.f++hT x.xs]),H')/\Ext A H':=by
 obtain⟨nK,rJ,he,bj,aT,a1,cB,_⟩:=ak;cases he;have ft:=bj.one;have fq:=a1.one;have aO:=af.a;have ah:=af.b;have al:=af.f;have aQ:=af.d;have dr:=dh A (aM.cells 0 (bg x a' lv));have cg:=cQ A 0 (bg x a' lv);have aE:Ext A (A++[aM.cells 0 (bg x a' lv)]):=Ext.app _ _;have bK:=IP af.pn af.xs;have gU:=Ya h.L h.A (A++[aM.cells 0 (bg x a' lv)]).length (Nq (bj.ext aE) aT) bK.1;rw[dr]at gU
 have cj:x.f.size+(hT x.xs).size<=4611686018427387904:=by omega
 have cZ:(x.f++hT x.xs).size<=40000000:=by rw[o5];omega
 have lh:=oo (A++[aM.cells 0 (bg x a' lv)]) [u4,x.f++hT x.xs]
 have bz:=ln (xs:=[u4,x.f++hT x.xs]) (sep:=mE) (by simp) (tt (M:=40000000) (by first|decide|omega) (by first|decide|omega)) (by omega) (by decide)
 have hw:=qX h.L h.W base lh bz.1
 refine⟨_,eF (c:=wV) (k:=1) aB rfl (by decide) aNw ?_,aE.trans (Ext.app _ [aM.cells 0 ([u4,x.f++hT x.xs].map aA)])⟩
 rw[dr]at hw;simp only[bg,dW,hC,c3,eh,u4]at hw cg dr gU;simp only[bg,simprocAttr,wV,aVH,aG,ft,fq,eG,dr,cg,hw,gU,vV cj];rfl
theorem aWK(h:oZ ag)(aB:ag QO=some (.code wX))(base:Nat){A:ad}{a' lv:V}{x:bI}(ak:fc A (bg x a' lv) x)(af:ml x):
 ∃H',aR ag (.fn QO [] []) [.agg (bg x a' lv)] base A=some (aA (dy [tY,x.a++hT x.xs]),H')/\Ext A H':=by
 obtain⟨nK,rJ,he,bj,aT,a1,cB,_⟩:=ak;cases he;have ft:=bj.one;have fq:=a1.one;have aO:=af.a;have ah:=af.b;have al:=af.f;have aQ:=af.d;have dr:=dh A (aM.cells 0 (bg x a' lv));have cg:=cQ A 0 (bg x a' lv);have aE:Ext A (A++[aM.cells 0 (bg x a' lv)]):=Ext.app _ _;have bK:=IP af.pn af.xs;have gU:=Ya h.L h.A (A++[aM.cells 0 (bg x a' lv)]).length (Nq (bj.ext aE) aT) bK.1;rw[dr]at gU
 have cj:x.a.size+(hT x.xs).size<=4611686018427387904:=by omega
 have cZ:(x.a++hT x.xs).size<=40000000:=by rw[o5];omega
 have lh:=oo (A++[aM.cells 0 (bg x a' lv)]) [tY,x.a++hT x.xs]
 have bz:=ln (xs:=[tY,x.a++hT x.xs]) (sep:=mE) (by simp) (tt (M:=40000000) (by first|decide|omega) (by first|decide|omega)) (by omega) (by decide)
 have hw:=qX h.L h.W base lh bz.1
 refine⟨_,eF (c:=wX) (k:=1) aB rfl (by decide) aCx ?_,aE.trans (Ext.app _ [aM.cells 0 ([tY,x.a++hT x.xs].map aA)])⟩
 rw[dr]at hw;simp only[bg,dW,hC,c3,eh,tY]at hw cg dr gU;simp only[bg,simprocAttr,wX,aF5,aG,ft,fq,eG,dr,cg,hw,gU,vV cj];rfl
theorem aOP(h:oZ ag)(aB:ag UJ=some (.code xj))(base:Nat){A:ad}{a' lv:V}{x:bI}(ak:fc A (bg x a' lv) x)(af:ml x)(aJ:x.ls.length=2):
 ∃H',aR ag (.fn UJ [] []) [.agg (bg x a' lv)] base A=some (aA (dy [uE,x.ls.getD 0 ⟨#[]⟩,x.ls.getD 1 ⟨#[]⟩]),H')/\Ext A H':=by
 obtain⟨nK,rJ,he,bj,aT,a1,cB,_⟩:=ak;cases he;have ft:=bj.one;have fq:=a1.one;have aO:=af.a;have ah:=af.b;have al:=af.f;have aQ:=af.d;have dr:=dh A (aM.cells 0 (bg x a' lv));have cg:=cQ A 0 (bg x a' lv);have aE:Ext A (A++[aM.cells 0 (bg x a' lv)]):=Ext.app _ _
 obtain⟨a0,i0,fN⟩:=ui (a1.ext aE) cB (k:=0) (by omega)
 have i0:kB 1 lv (.s (.int .i64 0))=some a0:=i0
 have z0:(x.ls.getD 0 ⟨#[]⟩).size<=4000:=af.ls _ (by rw[Gz,eP (by omega)];exact rU _)
 obtain⟨bw,i1,cW⟩:=ui (a1.ext aE) cB (k:=1) (by omega)
 have i1:kB 1 lv (.s (.int .i64 1))=some bw:=i1
 have eO:(x.ls.getD 1 ⟨#[]⟩).size<=4000:=af.ls _ (by rw[Gz,eP (by omega)];exact rU _)
 have lh:=oo (A++[aM.cells 0 (bg x a' lv)]) [uE,x.ls.getD 0 ⟨#[]⟩,x.ls.getD 1 ⟨#[]⟩]
 have bz:=ln (xs:=[uE,x.ls.getD 0 ⟨#[]⟩,x.ls.getD 1 ⟨#[]⟩]) (sep:=mE) (by simp) (GL (M:=40000000) (by first|decide|omega) (by first|decide|omega) (by first|decide|omega)) (by omega) (by decide)
 have hw:=qX h.L h.W base lh bz.1
 refine⟨_,eF (c:=xj) (k:=1) aB rfl (by decide) aAp ?_,aE.trans (Ext.app _ [aM.cells 0 ([uE,x.ls.getD 0 ⟨#[]⟩,x.ls.getD 1 ⟨#[]⟩].map aA)])⟩
 rw[dr]at hw;simp only[bg,dW,hC,c3,eh,uE]at hw cg dr fN cW;simp only[bg,simprocAttr,xj,aAD,aG,ft,fq,eG,dr,cg,hw,i0,fN,i1,cW];rfl
theorem aOB(h:oZ ag)(aB:ag Q7=some (.code xH))(base:Nat){A:ad}{a' lv:V}{x:bI}(ak:fc A (bg x a' lv) x)(af:ml x)(aJ:x.ls.length=1):
 ∃H',aR ag (.fn Q7 [] []) [.agg (bg x a' lv)] base A=some (aA (dy [uD,x.ls.getD 0 ⟨#[]⟩]),H')/\Ext A H':=by
 obtain⟨nK,rJ,he,bj,aT,a1,cB,_⟩:=ak;cases he;have ft:=bj.one;have fq:=a1.one;have aO:=af.a;have ah:=af.b;have al:=af.f;have aQ:=af.d;have dr:=dh A (aM.cells 0 (bg x a' lv));have cg:=cQ A 0 (bg x a' lv);have aE:Ext A (A++[aM.cells 0 (bg x a' lv)]):=Ext.app _ _
 obtain⟨a0,i0,fN⟩:=ui (a1.ext aE) cB (k:=0) (by omega)
 have i0:kB 1 lv (.s (.int .i64 0))=some a0:=i0
 have z0:(x.ls.getD 0 ⟨#[]⟩).size<=4000:=af.ls _ (by rw[Gz,eP (by omega)];exact rU _)
 have lh:=oo (A++[aM.cells 0 (bg x a' lv)]) [uD,x.ls.getD 0 ⟨#[]⟩]
 have bz:=ln (xs:=[uD,x.ls.getD 0 ⟨#[]⟩]) (sep:=mE) (by simp) (tt (M:=40000000) (by first|decide|omega) (by first|decide|omega)) (by omega) (by decide)
 have hw:=qX h.L h.W base lh bz.1
 refine⟨_,eF (c:=xH) (k:=1) aB rfl (by decide) aDh ?_,aE.trans (Ext.app _ [aM.cells 0 ([uD,x.ls.getD 0 ⟨#[]⟩].map aA)])⟩
 rw[dr]at hw;simp only[bg,dW,hC,c3,eh,uD]at hw cg dr fN;simp only[bg,simprocAttr,xH,aW3,aG,ft,fq,eG,dr,cg,hw,i0,fN];rfl
theorem aAf(aB:ag QY=some (.code yk))(base:Nat){A:ad}{a' lv:V}{x:bI}(ak:fc A (bg x a' lv) x):
 ∃H',aR ag (.fn QY [] []) [.agg (bg x a' lv)] base A=some (aA CT,H')/\Ext A H':=by
 obtain⟨nK,rJ,he,bj,aT,a1,cB,_⟩:=ak;cases he;have ft:=bj.one;have fq:=a1.one
 refine⟨_,eF (c:=yk) (k:=1) aB rfl (by decide) aPQ ?_,Ext.app A [aM.cells 0 (bg x a' lv)]⟩
 simp only[bg,simprocAttr,yk,aHv,aG,ft,fq,eG];rfl
theorem X6(h:oZ ag)(aB:ag zq=some (.code tU))(base:Nat){A:ad}{a' lv:V}{x:bI}(ft:a'.one=true)(fq:lv.one=true)(bd:0<=x.k)(J:x.k<100):
 aR ag (.fn zq [] []) [.agg (bg x a' lv)] base A=some (aA (iG x.k),A++[.cells 0 (bg x a' lv)]):=by
 have cg:=cQ A 0 (bg x a' lv);have hi:=aEV h.L base (H:=A++[.cells 0 (bg x a' lv)]) bd J
 refine eF (c:=tU) (k:=1) aB rfl (by decide) aTr ?_
 simp only[bg]at cg hi;simp only[bg,simprocAttr,tU,aVx,aG,ft,fq,eG,cg,hi];rfl
theorem aUe(h:oZ ag)(aB:ag Vi=some (.code yr))(base:Nat){A:ad}{a' lv:V}{x:bI}(ak:fc A (bg x a' lv) x)(af:ml x)(bd:0<=x.k)(J:x.k<100){n:Nat}(aJ:au A n 0=some [.fn zq [] []])(eo:ag zq=some (.code tU)):
 ∃H',aR ag (.fn Vi [] [.ref n 0 0]) [.agg (bg x a' lv)] base A=some (aA (dy [wh,iG x.k]),H')/\Ext A H':=by
 obtain⟨nK,rJ,he,bj,aT,a1,cB,_⟩:=ak;cases he;have ft:=bj.one;have fq:=a1.one;have aO:=af.a;have ah:=af.b;have al:=af.f;have aQ:=af.d;have dr:=dh A (aM.cells 0 (bg x a' lv));have cg:=cQ A 0 (bg x a' lv);have aE:Ext A (A++[aM.cells 0 (bg x a' lv)]):=Ext.app _ _;have hi:=X6 h eo base (A:=A++[aM.cells 0 (bg x a' lv)]) ft fq bd J;have bK:=EK bd J;have iJ:=u5 (b7 aJ aE);have gS:=dh (A++[aM.cells 0 (bg x a' lv)]) (aM.cells 0 (bg x a' lv));rw[dr]at gS;have lh:=oo (A++[aM.cells 0 (bg x a' lv)]++[aM.cells 0 (bg x a' lv)]) [wh,iG x.k]
 have bz:=ln (xs:=[wh,iG x.k]) (sep:=mE) (by simp) (tt (M:=40000000) (by first|decide|omega) (by first|decide|omega)) (by omega) (by decide)
 have hw:=qX h.L h.W base lh bz.1
 refine⟨_,eF (c:=yr) (k:=2) aB rfl (by decide) azT ?_,(aE.trans (Ext.app _ [aM.cells 0 (bg x a' lv)])).trans (Ext.app _ [aM.cells 0 ([wh,iG x.k].map aA)])⟩
 rw[gS]at hw;simp only[bg,dW,hC,c3,eh,wh]at hw cg dr hi iJ gS;simp only[bg,simprocAttr,yr,aET,aG,ft,fq,eG,cg,hw,hi,iJ,gS];rfl
theorem aD7(h:oZ ag)(aB:ag QQ=some (.code yo))(base:Nat){A:ad}{a' lv:V}{x:bI}(ak:fc A (bg x a' lv) x)(af:ml x)(bd:0<=x.k)(J:x.k<100){n:Nat}(aJ:au A n 0=some [.fn zq [] []])(eo:ag zq=some (.code tU)):
 ∃H',aR ag (.fn QQ [] [.ref n 0 0]) [.agg (bg x a' lv)] base A=some (aA (dy [wE,iG x.k]),H')/\Ext A H':=by
 obtain⟨nK,rJ,he,bj,aT,a1,cB,_⟩:=ak;cases he;have ft:=bj.one;have fq:=a1.one;have aO:=af.a;have ah:=af.b;have al:=af.f;have aQ:=af.d;have dr:=dh A (aM.cells 0 (bg x a' lv));have cg:=cQ A 0 (bg x a' lv);have aE:Ext A (A++[aM.cells 0 (bg x a' lv)]):=Ext.app _ _;have hi:=X6 h eo base (A:=A++[aM.cells 0 (bg x a' lv)]) ft fq bd J;have bK:=EK bd J;have iJ:=u5 (b7 aJ aE);have gS:=dh (A++[aM.cells 0 (bg x a' lv)]) (aM.cells 0 (bg x a' lv));rw[dr]at gS;have lh:=oo (A++[aM.cells 0 (bg x a' lv)]++[aM.cells 0 (bg x a' lv)]) [wE,iG x.k]
 have bz:=ln (xs:=[wE,iG x.k]) (sep:=mE) (by simp) (tt (M:=40000000) (by first|decide|omega) (by first|decide|omega)) (by omega) (by decide)
 have hw:=qX h.L h.W base lh bz.1
 refine⟨_,eF (c:=yo) (k:=2) aB rfl (by decide) aGY ?_,(aE.trans (Ext.app _ [aM.cells 0 (bg x a' lv)])).trans (Ext.app _ [aM.cells 0 ([wE,iG x.k].map aA)])⟩
 rw[gS]at hw;simp only[bg,dW,hC,c3,eh,wE]at hw cg dr hi iJ gS;simp only[bg,simprocAttr,yo,aBx,aG,ft,fq,eG,cg,hw,hi,iJ,gS];rfl
theorem aR0(h:oZ ag)(aB:ag UO=some (.code x9))(base:Nat){A:ad}{a' lv:V}{x:bI}(ak:fc A (bg x a' lv) x)(af:ml x)(bd:0<=x.k)(J:x.k<100){n:Nat}(aJ:au A n 0=some [.fn zq [] []])(eo:ag zq=some (.code tU)):
 ∃H',aR ag (.fn UO [] [.ref n 0 0]) [.agg (bg x a' lv)] base A=some (aA (dy [uW,x.a,iG x.k]),H')/\Ext A H':=by
 obtain⟨nK,rJ,he,bj,aT,a1,cB,_⟩:=ak;cases he;have ft:=bj.one;have fq:=a1.one;have aO:=af.a;have ah:=af.b;have al:=af.f;have aQ:=af.d;have dr:=dh A (aM.cells 0 (bg x a' lv));have cg:=cQ A 0 (bg x a' lv);have aE:Ext A (A++[aM.cells 0 (bg x a' lv)]):=Ext.app _ _;have hi:=X6 h eo (A++[aM.cells 0 (bg x a' lv)]).length (A:=A++[aM.cells 0 (bg x a' lv)]) ft fq bd J;have bK:=EK bd J;have iJ:=u5 (b7 aJ aE);have gS:=dh (A++[aM.cells 0 (bg x a' lv)]) (aM.cells 0 (bg x a' lv));rw[dr]at gS hi;have lh:=oo (A++[aM.cells 0 (bg x a' lv)]++[aM.cells 0 (bg x a' lv)]) [uW,x.a,iG x.k]
 have bz:=ln (xs:=[uW,x.a,iG x.k]) (sep:=mE) (by simp) (GL (M:=40000000) (by first|decide|omega) (by first|decide|omega) (by first|decide|omega)) (by omega) (by decide)
 have hw:=qX h.L h.W base lh bz.1
 refine⟨_,eF (c:=x9) (k:=2) aB rfl (by decide) aCC ?_,(aE.trans (Ext.app _ [aM.cells 0 (bg x a' lv)])).trans (Ext.app _ [aM.cells 0 ([uW,x.a,iG x.k].map aA)])⟩
 rw[gS]at hw;simp only[bg,dW,hC,c3,eh,uW]at hw cg dr hi iJ gS;simp only[bg,simprocAttr,x9,azQ,aG,ft,fq,eG,dr,cg,hw,hi,iJ,gS];rfl
def Bt(x:bI):ByteArray:=⟨(Lib.trimSuffix (dy [tj,x.a]).data.toList [32]).toArray⟩
def aVL(h:oZ ag)(base:Nat){H:ad}{s:ByteArray}(ai:s.size<=4611686018427387904):aR ag (.fn awp [] []) [.s (.string s),.s (.string ⟨#[32]⟩)] base H=some (.s (.string ⟨(Lib.trimSuffix s.data.toList [32]).toArray⟩),H):=by
 refine oD ?_;simp only[iT,h.T,HF,dB,nn];exact bE ai
theorem aL7(h:oZ ag)(aB:ag Us=some (.code ys))(base:Nat){A:ad}{a' lv:V}{x:bI}(ak:fc A (bg x a' lv) x)(af:ml x):
 ∃H',aR ag (.fn Us [] []) [.agg (bg x a' lv)] base A=some (aA (Bt x),H')/\Ext A H':=by
 obtain⟨nK,rJ,he,bj,aT,a1,cB,_⟩:=ak;cases he;have ft:=bj.one;have fq:=a1.one;have aO:=af.a;have ah:=af.b;have al:=af.f;have aQ:=af.d;have dr:=dh A (aM.cells 0 (bg x a' lv));have cg:=cQ A 0 (bg x a' lv);have aE:Ext A (A++[aM.cells 0 (bg x a' lv)]):=Ext.app _ _;have lh:=oo (A++[aM.cells 0 (bg x a' lv)]) [tj,x.a]
 have bz:=ln (xs:=[tj,x.a]) (sep:=mE) (by simp) (tt (M:=40000000) (by first|decide|omega) (by first|decide|omega)) (by omega) (by decide)
 have hw:=qX h.L h.W base lh bz.1
 have aY:=aVL h base (H:=A++[aM.cells 0 (bg x a' lv)]++[aM.cells 0 ([tj,x.a].map aA)]) (s:=dy [tj,x.a]) (by have:=bz.2;simp only[c3,eh]at this;exact jn this (by decide))
 refine⟨_,eF (c:=ys) (k:=1) aB rfl (by decide) aA5 ?_,aE.trans (Ext.app _ [aM.cells 0 ([tj,x.a].map aA)])⟩
 rw[dr]at hw;simp only[bg,dW,hC,c3,eh,tj]at hw cg dr aY;simp only[bg,simprocAttr,ys,aM2,aG,ft,fq,eG,dr,cg,hw,aY];rfl
end
def z6:ByteArray:=⟨#[58,32]⟩
def e0:ByteArray:=⟨#[]⟩
def sH(l s:ByteArray):ByteArray:=(l++z6)++s
def oQ(x:bI)(i:Nat):List ByteArray:=(List.range i).map fun j=>sH (x.ls.getD j ⟨#[]⟩) (x.xs.getD j ⟨#[]⟩)
def qV(x:bI):ByteArray:=(⟨#[91]⟩++jK (oQ x x.ls.length) pV)++⟨#[93]⟩
def aRS(x:bI)(i:Nat):oQ x (i+1)=oQ x i++[sH (x.ls.getD i ⟨#[]⟩) (x.xs.getD i ⟨#[]⟩)]:=by
 simp only[oQ,List.range_succ,zL,dW,hC]
def IE(x:bI)(i:Nat):(oQ x i).length=i:=by simp[oQ]
def BM{M:Nat}{l:List ByteArray}(h:∀s∈l,s.size<=M)(i:Nat):(l.getD i ⟨#[]⟩).size<=M:=by
 rw[Gz];cases e:l[i]? with
 |none=>exact gY _
 |some s=>exact h s (ib e)
def adD{M:Nat}{l s:ByteArray}(J:l.size<=M)(aa:s.size<=M):(sH l s).size<=2*M+2:=by
 have cC:z6.size=2:=rfl;unfold sH;rw[o5,o5];omega
section
variable {ag:Nat->Option cz}
theorem aLc(h:oZ ag)(aB:ag Mf=some (.code wu))(base:Nat){A:ad}(ah:base<=A.length){a' lv:V}{x:bI}(ak:fc A (bg x a' lv) x)(af:ml x)(aJ:x.xs.length=x.ls.length):
 ∃H',aR ag (.fn Mf [] []) [.agg (bg x a' lv)] base A=some (aA (qV x),H')/\Ext A H':=by
 obtain⟨nK,rJ,he,bj,aT,a1,cB,_⟩:=ak;cases he;have ft:=bj.one;have fq:=a1.one;obtain⟨b4,er⟩:∃b4,A++[aM.cells 0 (bg x a' lv)]=b4:=⟨_,rfl⟩;have aE:Ext A b4:=er▸Ext.app _ _
 have dr:b4.length=A.length+1:=by rw[<- er,dh]
 have cg:au b4 A.length 0=some (bg x a' lv):=er▸cQ A 0 _;have lq:=so (a1.ext aE);have nl:=af.nl
 obtain⟨⟨v,C⟩,aU,cd⟩:=BH (S:=V × ad) x.ls.length (fun i s=>Acc b4 s.2 s.1 ((oQ x i).map aA)) (fun i s=>aN (aL (aR ag) aN base UQ) [] (A.length+1) (ax 30 [(1,.ref A.length 0 0),(3,s.1),(7,lv),(8,U x.ls.length),(9,U i)]) s.2) (by
  rintro i ⟨v,C⟩ hi UR;have l9:=aE.trans UR.1;obtain⟨a0,i0,fN⟩:=ui (a1.ext l9) cB hi
  obtain⟨bw,i1,cW⟩:=ui (bj.ext l9) aT (k:=i) (by omega)
  have auj:=b7 cg UR.1;have z0:=BM af.ls i;have eO:=BM af.xs i;have cC:z6.size=2:=rfl
  have cj:(x.ls.getD i ⟨#[]⟩).size+z6.size<=4611686018427387904:=by omega
  have cZ:(x.ls.getD i ⟨#[]⟩++z6).size+(x.xs.getD i ⟨#[]⟩).size<=4611686018427387904:=by rw[o5];omega
  obtain⟨gx,D,MB,aDU⟩:=UR.append (base:=base) (bytes:=16) (by omega) (x:=aA (sH (x.ls.getD i ⟨#[]⟩) (x.xs.getD i ⟨#[]⟩))) rfl (by rw[pY,IE];omega)
  have b8:decide ((i:Int)<(x.ls.length:Int))=true:=by simpa using hi
  refine⟨(gx,trim (A.length+1) (ax 30 [(1,.ref A.length 0 0),(3,gx),(7,lv),(8,U x.ls.length),(9,U ((i+1:Nat):Int))]) D),?_,?_⟩
  .rw[dt];simp only[bg,sH,z6]at auj MB cj cZ
   simp only[U,simprocAttr,RA,WA,aG,auj,i0,fN,i1,cW,vV cj,vV cZ,MB,b8,jB (show i<2^62 by omega)]
  .rw[aRS,zL]
   refine Acc.trim aDU (by omega) ?_
   simp[ax]
   exact⟨3,by omega,rfl⟩) 0 (cm,b4) (gY _) (Acc.start b4)
 have cd:Acc b4 C v ((oQ x x.ls.length).map aA):=cd;obtain⟨cx,gb⟩:∃cx,trim (A.length+1) (ax 30 [(1,.ref A.length 0 0),(3,v),(7,lv),(8,.s (.int .i64 x.ls.length)),(9,.s (.int .i64 x.ls.length)),(10,.s (.bool false))]) C=cx:=⟨_,rfl⟩
 have cd:Acc b4 cx v ((oQ x x.ls.length).map aA):=by
  rw[<- gb]
  refine Acc.trim cd (by omega) ?_
  simp[ax]
  exact⟨3,by omega,rfl⟩
 have bz:=ln (xs:=oQ x x.ls.length) (sep:=pV) (by rw[IE];omega) (M:=8002) (fun s ai=>by
  obtain⟨j,_,rfl⟩:=wJ.1 ai
  exact adD (BM af.ls j) (BM af.xs j)) (by omega) (by decide)
 have OE:=Nx h.L base (Nq cd.rd cd.wide) bz.1;have aG8:x.ls.length*(8002+2)<=4000*8004:=rk _ nl;have Fz:=bz.2;rw[IE]at Fz;have cC:(⟨#[91]⟩:ByteArray).size=1:=rfl;have b5:(⟨#[93]⟩:ByteArray).size=1:=rfl
 have cj:(⟨#[91]⟩:ByteArray).size+(jK (oQ x x.ls.length) pV).size<=4611686018427387904:=by omega
 have cZ:((⟨#[91]⟩:ByteArray)++jK (oQ x x.ls.length) pV).size+(⟨#[93]⟩:ByteArray).size<=4611686018427387904:=by rw[o5];omega
 have rh:decide ((x.ls.length:Int)<(x.ls.length:Int))=false:=by simp
 refine⟨cx,eF (c:=wu) (k:=1) aB rfl (by decide) aIq ?_,aE.trans cd.1⟩
 simp only[bg,U,pV,cm]at cg OE cj cZ aU er;rw[show(((0:Nat):Int))=0 from rfl]at aU;simp only[bg,simprocAttr,wu,WA,aG,ft,fq,eG,er,dr,cg,lq,aU];rw[dt];simp only[RA,simprocAttr,WA,aG,rh,gb,OE,vV cj,vV cZ];rfl
def awL{x:bI}(af:ml x):(qV x).size<=33000000:=by
 have nl:=af.nl
 have bz:=ln (xs:=oQ x x.ls.length) (sep:=pV) (by rw[IE];omega) (M:=8002) (fun s ai=>by
  obtain⟨j,_,rfl⟩:=wJ.1 ai
  exact adD (BM af.ls j) (BM af.xs j)) (by omega) (by decide)
 have aG8:x.ls.length*(8002+2)<=4000*8004:=rk _ nl;have Fz:=bz.2;rw[IE]at Fz;have cC:(⟨#[91]⟩:ByteArray).size=1:=rfl;have b5:(⟨#[93]⟩:ByteArray).size=1:=rfl;unfold qV;rw[o5,o5];omega
theorem aRb(h:oZ ag)(aC:ag Mf=some (.code wu))(aB:ag Tc=some (.code xF))(base:Nat){A:ad}(ah:base<=A.length){a' lv:V}{x:bI}(ak:fc A (bg x a' lv) x)(af:ml x)(aJ:x.xs.length=x.ls.length):
 ∃H',aR ag (.fn Tc [] []) [.agg (bg x a' lv)] base A=some (aA (dy [ur,qV x]),H')/\Ext A H':=by
 obtain⟨b4,er⟩:∃b4,A++[aM.cells 0 (bg x a' lv)]=b4:=⟨_,rfl⟩;have aE:Ext A b4:=er▸Ext.app _ _
 have dr:b4.length=A.length+1:=by rw[<- er,dh]
 have cg:au b4 A.length 0=some (bg x a' lv):=er▸cQ A 0 _
 obtain⟨D,ay,aU⟩:=aLc h aC base (by omega) (ak.ext aE) af aJ
 obtain⟨nK,rJ,he,bj,aT,a1,cB,_⟩:=ak;cases he;have ft:=bj.one;have fq:=a1.one;have bK:=awL af;have lh:=oo D [ur,qV x]
 have bz:=ln (xs:=[ur,qV x]) (sep:=mE) (by simp) (tt (M:=40000000) (by decide) (by omega)) (by omega) (by decide)
 have hw:=qX h.L h.W base lh bz.1
 refine⟨_,eF (c:=xF) (k:=1) aB rfl (by decide) aKf ?_,(aE.trans aU).trans (Ext.app _ [aM.cells 0 ([ur,qV x].map aA)])⟩
 simp only[bg,dW,hC,c3,eh,ur]at hw cg ay er;simp only[bg,simprocAttr,xF,aEC,aG,ft,fq,eG,er,cg,ay,hw];rfl
end
def hf(n:Nat):List (Int × V):=[(1,.fn 54 [] [.ref n 0 0]),(2,.fn 55 [] [.ref n 0 0]),(3,.fn 56 [] []),(4,.fn 57 [] []),(5,.fn 58 [] []),(6,.fn 59 [] []),(7,.fn 61 [] [.ref n 0 0]),(8,.fn 62 [] []),(9,.fn 63 [] []),(10,.fn 64 [] []),(11,.fn 65 [] []),(12,.fn 66 [] []),(13,.fn 67 [] []),(14,.fn 68 [] [])]
section
variable {ag:Nat->Option cz}
def aJF(aB:ag Xc=some (.code yP))(base:Nat){A:ad}(ah:base<=A.length):
 aR ag (.fn Xc [] []) [] base A=some (.mp (A.length+1),A++[.cells 0 [.fn 52 [] []]]++[.map (kk .u8 (hf A.length))]):=by
 obtain⟨n,aJ⟩:∃n,A.length=n:=⟨_,rfl⟩;obtain⟨b4,er⟩:∃b4,A++[aM.cells 0 [.fn 52 [] []]]=b4:=⟨_,rfl⟩
 have cW:b4.length=n+1:=by rw[<- er,dh,aJ]
 obtain⟨dZ,ju⟩:∃dZ,b4++[aM.map (kk .u8 (hf n))]=dZ:=⟨_,rfl⟩
 have eg:base<=b4.length:=by omega
 have cX:(aM.map []:aM)=.map (kk .u8 []):=rfl
 have ai:(A++[aM.cells 0 [.s .nilFunc]]).set n (aM.cells 0 [.fn 52 [] []])=b4:=by rw[<- aJ,iI,er]
 have a8:au (A++[aM.cells 0 [.s .nilFunc]]) n 0=some [.s .nilFunc]:=by rw[<- aJ];exact cQ A 0 _
 have ay1:base<=n:=by omega
 have aXO:base<=n+1:=by omega
 have jY:=gH eg .u8 ((hf n).take 0) 1 (.fn 54 [] [.ref n 0 0]) (by rfl)
 have ks:=gH eg .u8 ((hf n).take 1) 2 (.fn 55 [] [.ref n 0 0]) (by rfl)
 have jW:=gH eg .u8 ((hf n).take 2) 3 (.fn 56 [] []) (by rfl)
 have lT:=gH eg .u8 ((hf n).take 3) 4 (.fn 57 [] []) (by rfl)
 have om:=gH eg .u8 ((hf n).take 4) 5 (.fn 58 [] []) (by rfl)
 have p8:=gH eg .u8 ((hf n).take 5) 6 (.fn 59 [] []) (by rfl)
 have um:=gH eg .u8 ((hf n).take 6) 7 (.fn 61 [] [.ref n 0 0]) (by rfl)
 have u8:=gH eg .u8 ((hf n).take 7) 8 (.fn 62 [] []) (by rfl)
 have r8:=gH eg .u8 ((hf n).take 8) 9 (.fn 63 [] []) (by rfl)
 have uz:=gH eg .u8 ((hf n).take 9) 10 (.fn 64 [] []) (by rfl)
 have zV:=gH eg .u8 ((hf n).take 10) 11 (.fn 65 [] []) (by rfl)
 have Aa:=gH eg .u8 ((hf n).take 11) 12 (.fn 66 [] []) (by rfl)
 have yZ:=gH eg .u8 ((hf n).take 12) 13 (.fn 67 [] []) (by rfl)
 have xN:=gH eg .u8 ((hf n).take 13) 14 (.fn 68 [] []) (by rfl)
 rw[show(hf n).take 13++[(14,.fn 68 [] [])]=hf n from rfl,ju]at xN;simp only[hf,dj,dB,cW]at jY;simp only[hf,dK,dj,du,dB,cW]at ks;simp only[hf,dK,dj,du,dB,cW]at jW;simp only[hf,dK,dj,du,dB,cW]at lT;simp only[hf,dK,dj,du,dB,cW]at om;simp only[hf,dK,dj,du,dB,cW]at p8;simp only[hf,dK,dj,du,dB,cW]at um;simp only[hf,dK,dj,du,dB,cW]at u8;simp only[hf,dK,dj,du,dB,cW]at r8;simp only[hf,dK,dj,du,dB,cW]at uz;simp only[hf,dK,dj,du,dB,cW]at zV;simp only[hf,dK,dj,du,dB,cW]at Aa;simp only[hf,dK,dj,du,dB,cW]at yZ;simp only[hf,dK,dj,cW]at xN;have ug:(V.fn 52 [] []).cells=[V.fn 52 [] []]:=rfl;have Jv:[V.fn 52 [] []].all V.one=true:=rfl;have azz:List.drop 1 [V.s .nilFunc]=[]:=rfl;rw[aJ,er,ju]
 refine gR (c:=yP) aB (by simp[yP]) ?_
 simp only[yP,simprocAttr,aVC,aG,zb,aJ,a8,ai,ay1,cW,cX,ug,Jv,azz,jY,ks,jW,lT,om,p8,um,u8,r8,uz,zV,Aa,yZ,xN]
end
abbrev Dr(m:Nat):List V:=ax 18 [(3,.ref m 0 0),(4,.ref (m+1) 0 0),(5,.ref (m+2) 0 0),(9,.fn EI [] [.ref (m+3) 0 0])]
def s'(m:Nat):aM:=.loop .ready none (Dr m) [10,11] Fg Az
def ly(m:Nat):aM:=.loop .busy none (Dr m) [10,11] Fg Az
def Ix(m:Nat):aM:=.loop .done (F7 .ret) (Dr m) [10,11] Fg Az
def gB(B:ad)(f:V)(p:List V)(q:Bool)(w:Nat)(jM:aM):ad:=B++[.cells 0 [f]]++[.cells 0 p]++[.cells 0 [.s (.bool q)]]++[.cells 0 [.ref w 0 0]]++[jM]
def GO(B:ad)(f:V)(p:List V)(q:Bool)(w:Nat)(jM:aM):(gB B f p q w jM).length=B.length+5:=by simp[gB]
def aVK(B:ad)(f:V)(p:List V)(q:Bool)(w:Nat)(jM:aM)(G:ad):Ext B (gB B f p q w jM++G):=⟨[.cells 0 [f]]++[.cells 0 p]++[.cells 0 [.s (.bool q)]]++[.cells 0 [.ref w 0 0]]++[jM]++G,by simp[gB]⟩
def aQ4(B:ad)(f:V)(p:List V)(q:Bool)(w:Nat)(jM:aM)(G:ad):au (gB B f p q w jM++G) B.length 0=some [f]:=by simp[gB,au]
def aOY(B:ad)(f:V)(p:List V)(q:Bool)(w:Nat)(jM:aM)(G:ad):au (gB B f p q w jM++G) (B.length+1) 0=some p:=by simp[gB,au]
def aD1(B:ad)(f:V)(p:List V)(q:Bool)(w:Nat)(jM:aM)(G:ad):au (gB B f p q w jM++G) (B.length+2) 0=some [.s (.bool q)]:=by simp[gB,au]
def aKH(B:ad)(f:V)(p:List V)(q:Bool)(w:Nat)(jM:aM)(G:ad):au (gB B f p q w jM++G) (B.length+3) 0=some [.ref w 0 0]:=by simp[gB,au]
def FU(B:ad)(f:V)(p:List V)(q:Bool)(w:Nat)(jM:aM)(G:ad):(gB B f p q w jM++G)[B.length+4]?=some jM:=by simp[gB]
def aCI(B:ad)(f:V)(p hG:List V)(q:Bool)(w:Nat)(jM:aM)(G:ad):(gB B f p q w jM++G).set (B.length+1) (.cells 0 hG)=gB B f hG q w jM++G:=by simp[gB]
def aMv(B:ad)(f:V)(p:List V)(q gL:Bool)(w:Nat)(jM:aM)(G:ad):(gB B f p q w jM++G).set (B.length+2) (.cells 0 [.s (.bool gL)])=gB B f p gL w jM++G:=by simp[gB]
def Sk(B:ad)(f:V)(p:List V)(q:Bool)(w:Nat)(jM Kx:aM)(G:ad):(gB B f p q w jM++G).set (B.length+4) Kx=gB B f p q w Kx++G:=by simp[gB]
def aFF(B:ad)(f:V)(p:List V)(q:Bool)(w:Nat)(jM:aM)(G:ad):gB B f p q w jM++G=B++([.cells 0 [f]]++[.cells 0 p]++[.cells 0 [.s (.bool q)]]++[.cells 0 [.ref w 0 0]]++[jM]++G):=by simp[gB]
def kd(B:ad)(f:V)(p:List V)(q:Bool)(w:Nat):ad:=B++[.cells 0 [f]]++[.cells 0 p]++[.cells 0 [.s (.bool q)]]++[.cells 0 [.ref w 0 0]]
def apD(B:ad)(f:V)(p:List V)(q:Bool)(w:Nat):(kd B f p q w).length=B.length+4:=by simp[kd]
def apc(B:ad)(f:V)(p:List V)(q:Bool)(w:Nat)(jM Kx:aM)(G:ad):(gB B f p q w jM++G).set (B.length+4) Kx=kd B f p q w++(Kx::G):=by simp[gB,kd]
def asZ(B:ad)(f:V)(p:List V)(q:Bool)(w:Nat)(G:ad):au (kd B f p q w++G) (B.length+1) 0=some p:=by simp[kd,au]
def avj(B:ad)(f:V)(p:List V)(q:Bool)(w:Nat)(G:ad):au (kd B f p q w++G) (B.length+2) 0=some [.s (.bool q)]:=by simp[kd,au]
def aVp(B:ad)(f:V)(p hG:List V)(q:Bool)(w:Nat)(G:ad):(kd B f p q w++G).set (B.length+1) (.cells 0 hG)=kd B f hG q w++G:=by simp[kd]
def aKp(B:ad)(f:V)(p:List V)(q gL:Bool)(w:Nat)(G:ad):(kd B f p q w++G).set (B.length+2) (.cells 0 [.s (.bool gL)])=kd B f p gL w++G:=by simp[kd]
def an5(B:ad)(f:V)(p:List V)(q:Bool)(w:Nat)(G:ad):∃eH,kd B f p q w++G=B++eH:=⟨[.cells 0 [f]]++[.cells 0 p]++[.cells 0 [.s (.bool q)]]++[.cells 0 [.ref w 0 0]]++G,by simp[kd]⟩
section
variable {ag:Nat->Option cz}
def kV(B:Nat->ad)(m:Nat)(f:V)(w n:Nat):ad:=gB (B n) f [U 0,U 0,U 0] false w (s' m)
def FE(B:Nat->ad)(m:Nat)(f:V)(w n i b k:Nat):ad:=gB (B (n+1)) f [U i,U b,U k] true w (Ix m)
def Pred(ag:Nat->Option cz)(base:Nat)(f:V)(B:Nat->ad)(n i b k:Nat)(r:List V)(g:Bool):Prop:=∀G,∃eH,aR ag f [.agg [U i,U b,U k],.agg r] base (B n++G)=some (ar g,B (n+1)++G++eH)
def aBS(base m:Nat){B:Nat->ad}(aD:∀n,(B n).length=m)(ah:base<=m){f:V}(al:f.one=true){w n i b k:Nat}{A:ad}{r:List V}{x:bI}(ak:fc A r x){g:Bool}(ay:Pred ag base f B n i b k r g):
 Iv ag base (.ff (m+4)) (kV B m f w) (FE B m f w) n i b k r g:=by
 intro G;obtain⟨a',lv,rfl,bj,aT,a1,cB,_⟩:=id ak;have ft:=bj.one;have fq:=a1.one;obtain⟨C,kG⟩:∃C,kV B m f w n++G=C:=⟨_,rfl⟩;obtain⟨c,jZ⟩:∃c,m+(5+G.length)=c:=⟨_,rfl⟩
 have B3:C.length=c:=by rw[<- jZ];rw[<- kG,c0,kV,GO,aD];omega
 obtain⟨fT,B6⟩:∃fT,G++[aM.cells 0 [U i,U b,U k]]++[aM.cells 0 (bg x a' lv)]=fT:=⟨_,rfl⟩
 have aro:C++[aM.cells 0 [U i,U b,U k]]++[aM.cells 0 (bg x a' lv)]=kV B m f w n++fT:=by rw[<- kG,<- B6];simp
 have hm:=aD n;have bd:=FU (B n) f [U 0,U 0,U 0] false w (s' m) G;have J:=FU (B n) f [U 0,U 0,U 0] false w (s' m) fT;have aU:=Sk (B n) f [U 0,U 0,U 0] false w (s' m) (ly m) fT;have SS:=aQ4 (B n) f [U 0,U 0,U 0] false w (ly m) fT;rw[hm]at bd J aU SS
 have g6:au (gB (B n) f [U 0,U 0,U 0] false w (ly m)++fT) c 0=some [U i,U b,U k]:=by
  rw[<- B6,<- gi,<- gi];refine b7 ?_ (Ext.app _ _);have:=cQ (gB (B n) f [U 0,U 0,U 0] false w (ly m)++G) 0 [U i,U b,U k]
  rwa[c0,GO,hm,qs,jZ]at this
 have g7:au (gB (B n) f [U 0,U 0,U 0] false w (ly m)++fT) (c+1) 0=some (bg x a' lv):=by
  rw[<- B6,<- gi,<- gi];have:=cQ (gB (B n) f [U 0,U 0,U 0] false w (ly m)++G++[aM.cells 0 [U i,U b,U k]]) 0 (bg x a' lv)
  rwa[dh,show(gB (B n) f [U 0,U 0,U 0] false w (ly m)++G).length=c by rw[<- jZ,c0,GO,hm];omega]at this
 obtain⟨hq,ay⟩:=ay ([.cells 0 [f]]++[.cells 0 [U 0,U 0,U 0]]++[.cells 0 [.s (.bool false)]]++[.cells 0 [.ref w 0 0]]++[ly m]++fT);rw[<- aFF]at ay
 have XF:B (n+1)++([.cells 0 [f]]++[.cells 0 [U 0,U 0,U 0]]++[.cells 0 [.s (.bool false)]]++[.cells 0 [.ref w 0 0]]++[ly m]++fT)++hq=gB (B (n+1)) f [U 0,U 0,U 0] false w (ly m)++(fT++hq):=by simp[gB]
 rw[XF]at ay;have qa:=aD (n+1);refine⟨fT++hq,?_⟩;rw[kG]
 rw[show(if g=true then some (ar false,FE B m f w n i b k++(fT++hq))else some (ar true,kV B m f w (n+1)++(fT++hq)))=some (if g=true then(ar false,FE B m f w n i b k++(fT++hq))else(ar true,kV B m f w (n+1)++(fT++hq))) by cases g<;>rfl]
 have bm:C[m+4]?=some (s' m):=by rw[<- kG];exact bd
 refine aLU (id:=m+4) (by omega) bm (fr:=ax 18 [(3,.ref m 0 0),(4,.ref (m+1) 0 0),(5,.ref (m+2) 0 0),(9,.fn EI [] [.ref (m+3) 0 0]),(10,.agg [U i,U b,U k]),(11,.agg (bg x a' lv))]) (cw:=ax 18 [(3,.ref m 0 0),(4,.ref (m+1) 0 0),(5,.ref (m+2) 0 0),(6,.ref c 0 0),(7,.ref (c+1) 0 0)]) (H1:=C++[aM.cells 0 [U i,U b,U k]]++[aM.cells 0 (bg x a' lv)]) ?_ ?_ (by rw[aro];exact J) ?_
 .simp only[Dr,simprocAttr,aG]
 .have fQ:base<=c:=by omega
  have qB:base<=c+1:=by omega
  have cg:∀e,au (C++[aM.cells 0 e]) c 0=some e:=fun e=>by have:=cQ C 0 e;rwa[B3]at this
  have dE:∀e d,(C++[e]).set c d=C++[d]:=fun e d=>by have:=iI C e d;rwa[B3]at this
  have gS:∀d,(C++[d]).length=c+1:=fun d=>by rw[dh,B3]
  have si:∀a e,au (C++[a]++[aM.cells 0 e]) (c+1) 0=some e:=fun a e=>by have:=cQ (C++[a]) 0 e;rwa[gS]at this
  have aWC:∀a e d,(C++[a]++[e]).set (c+1) d=C++[a]++[d]:=fun a e d=>by have:=iI (C++[a]) e d;rwa[gS]at this
  simp only[bg,simprocAttr,U,Fg,JW,aG,B3,fQ,qB,cg,dE,gS,si,aWC,ft,fq,eG]
 .rw[aro];have nB:(kV B m f w n++fT).set (m+4) (aM.loop .busy none (Dr m) [10,11] Fg Az)=gB (B n) f [U 0,U 0,U 0] false w (ly m)++fT:=aU;rw[nB];obtain⟨D,d'⟩:∃D,gB (B n) f [U 0,U 0,U 0] false w (ly m)++fT=D:=⟨_,rfl⟩;rw[d']at SS g6 g7 ay |-;have MK:fa D false 1 (.ref m 0 0)=some f:=u5 SS;cases g with
  |false=>
    have qg:aL (aR ag) aN base Az (ax 18 [(3,.ref m 0 0),(4,.ref (m+1) 0 0),(5,.ref (m+2) 0 0),(6,.ref c 0 0),(7,.ref (c+1) 0 0)]) D=some (.bR,ax 18 [(4,.ref (m+1) 0 0),(5,.ref (m+2) 0 0),(6,.ref c 0 0),(15,ar false)],gB (B (n+1)) f [U 0,U 0,U 0] false w (ly m)++(fT++hq)):=by
     simp only[bg,U,ar]at g6 g7 ay MK;simp only[U,simprocAttr,ar,Az,JW,aG,g6,g7,MK,ay]
    have aq:=FU (B (n+1)) f [U 0,U 0,U 0] false w (ly m) (fT++hq);have cd:=Sk (B (n+1)) f [U 0,U 0,U 0] false w (ly m) (s' m) (fT++hq);rw[qa]at aq cd;rw[qg,ahZ aq];exact dV some (Prod.ext rfl cd)
  |true=>
    have qg:aL (aR ag) aN base Az (ax 18 [(3,.ref m 0 0),(4,.ref (m+1) 0 0),(5,.ref (m+2) 0 0),(6,.ref c 0 0),(7,.ref (c+1) 0 0)]) D=some (.ret,ax 18 [],gB (B (n+1)) f [U i,U b,U k] true w (ly m)++(fT++hq)):=by
     have eg:base<=m+1:=by omega
     have km:base<=m+2:=by omega
     have cn:=aOY (B (n+1)) f [U 0,U 0,U 0] false w (ly m) (fT++hq);have dP:=aCI (B (n+1)) f [U 0,U 0,U 0] [U i,U b,U k] false w (ly m) (fT++hq);have gn:=aD1 (B (n+1)) f [U i,U b,U k] false w (ly m) (fT++hq);have rj:=aMv (B (n+1)) f [U i,U b,U k] false true w (ly m) (fT++hq)
     have anx:au (gB (B (n+1)) f [U 0,U 0,U 0] false w (ly m)++(fT++hq)) c 0=some [U i,U b,U k]:=by
      have:=cQ (gB (B (n+1)) f [U 0,U 0,U 0] false w (ly m)++G) 0 [U i,U b,U k];rw[c0,GO,qa,qs,jZ]at this
      exact b7 this ⟨[aM.cells 0 (bg x a' lv)]++hq,by rw[<- B6];simp⟩
     rw[qa]at cn dP gn rj;simp only[bg,U,ar]at g6 g7 ay MK cn dP gn rj anx;simp only[U,simprocAttr,Az,JW,aG,g6,g7,MK,ay,anx,cn,dP,gn,rj,eg,km]
    have aq:=FU (B (n+1)) f [U i,U b,U k] true w (ly m) (fT++hq);have cd:=Sk (B (n+1)) f [U i,U b,U k] true w (ly m) (Ix m) (fT++hq);rw[qa]at aq cd;rw[qg,ahZ aq];exact dV some (Prod.ext rfl cd)
structure Hs (ag:Nat->Option cz):Prop where
 find:ag Ug=some (.code wI)
 code:ag arl=some (.code yV)
 aF1:ag EI=some (.code ue)
def azh(aB:Hs ag)(base:Nat)(H:ad)(w:Nat):aR ag (.fn arl [] []) [.ref w 0 0] base H=some (.fn EI [] [.ref H.length 0 0],H++[.cells 0 [.ref w 0 0]]):=by
 refine eF (c:=yV) (k:=1) aB.code rfl (by decide) aEg ?_
 simp only[yV,simprocAttr,aVV,aG,zb]
theorem aNM(aB:Hs ag)(base:Nat){A:ad}(ah:base<=A.length){w sm:Nat}{cr:V}{fs:List cT}(ab:qm A w sm cr fs){f:V}(al:f.one=true){B:Nat->ad}{m:Nat}(aD:∀n,(B n).length=m)(bp:∀n,Ext A (B n)){jy:Nat->Nat->Nat->Nat->bI->Bool}(ay:∀i f1,fs[i]?=some f1->∀b x,f1.blocks[b]?=some x->∀k z r,x.code[k]?=some z->fc A r z->Pred ag base f B (ga (fs.take i)+hW (f1.blocks.take b)+k) i b k r (jy (ga (fs.take i)+hW (f1.blocks.take b)+k) i b k z)):
 ∃n G,aR ag (.fn Ug [] []) [.ref w 0 0,f] base (B 0)=some (sr (y5 jy fs),B n++G):=by
 have mT:base<=m:=by have:=(bp 0).le;rw[aD]at this;omega
 have hm:=aD 0
 have bk:∀n,(kV B m f w n).length=m+5:=fun n=>by rw[kV,GO,aD]
 have wC:∀n i b k,(FE B m f w n i b k).length=m+5:=fun n i b k=>by rw[FE,GO,aD]
 have aH7:∀n,Ext A (kV B m f w n):=fun n=>(bp n).trans (by have:=aVK (B n) f [U 0,U 0,U 0] false w (s' m) [];rwa[nn]at this)
 have hw:au (kV B m f w 0) (m+3) 0=some [.ref w 0 0]:=by
  have:=aKH (B 0) f [U 0,U 0,U 0] false w (s' m) []
  rwa[nn,hm]at this
 have uk:=aRY al;have Kc:=azh aB base
 have eg:base<=m+1:=by omega
 have km:base<=m+2:=by omega
 have cX:B 0++[.cells 0 [f]]++[.cells 0 [U 0,U 0,U 0]]++[.cells 0 [.s (.bool false)]]++[.cells 0 [.ref w 0 0]]++[s' m]=kV B m f w 0:=rfl
 rcases aMB (ag:=ag) aB.aF1 base bk wC aH7 (show base<=m+5 by omega) ab hw (y:=.ff (m+4)) (jy:=jy) (fun i f1 hi b x af k z r bK ak=>aBS base m aD mT al ak (ay i f1 hi b x af k z r bK ak))with⟨eO,G,z2⟩|⟨⟨i,b,k⟩,eO,n,G,z2⟩
 .obtain⟨fT,t1⟩:=vE (C:=kd (B (ga fs)) f [U 0,U 0,U 0] false w) (m:=m+4) (by rw[apD,aD];omega) (Dr m) (.dead::G)
  have Sl:=aD (ga fs);have aq:=FU (B (ga fs)) f [U 0,U 0,U 0] false w (s' m) G;have aQ:=apc (B (ga fs)) f [U 0,U 0,U 0] false w (s' m) .dead G;have cn:=asZ (B (ga fs)) f [U 0,U 0,U 0] false w fT;have dP:=aVp (B (ga fs)) f [U 0,U 0,U 0] [U 0,U 0,U 0] false w fT;have gn:=avj (B (ga fs)) f [U 0,U 0,U 0] false w fT;have rj:=aKp (B (ga fs)) f [U 0,U 0,U 0] false false w fT;rw[Sl]at aq aQ cn dP gn rj;rw[<- aQ]at t1;have rP:=fun fr v=>aNJ (L:=m+4) (fr:=fr) (v:=v) aq;obtain⟨hq,mH⟩:=an5 (B (ga fs)) f [U 0,U 0,U 0] false w fT
  refine⟨ga fs,hq,eF (c:=wI) (k:=2) aB.find rfl (by decide) aud ?_⟩
  rw[eO,<- mH];simp only[kV,gB,s']at z2 rP t1 aq;simp only[U]at z2 rP t1 cn dP gn rj;simp only[U,simprocAttr,wI,JW,aG,hm,uk,al,Kc,z2,rP,t1,cn,dP,gn,rj,eg,km]
  have l3:iu (kd (B (ga fs)) f [U 0,U 0,U 0] false w++fT) true 3 (.ref (m+1) 0 0)=some (.agg [U 0,U 0,U 0]):=by
   show fa _ true 3 _=_;rw[h1,cn];rfl
  have KK:iu (kd (B (ga fs)) f [U 0,U 0,U 0] false w++fT) false 1 (.ref (m+2) 0 0)=some (ar false):=by
   show fa _ false 1 _=_;exact u5 gn
  simp only[U,ar]at l3 KK;rw[l3,KK];rfl
 .obtain⟨fT,t1⟩:=vE (C:=kd (B (n+1)) f [U i,U b,U k] true w) (m:=m+4) (by rw[apD,aD];omega) (Dr m) (.dead::G)
  have Sl:=aD (n+1);have aq:=FU (B (n+1)) f [U i,U b,U k] true w (Ix m) G;have aQ:=apc (B (n+1)) f [U i,U b,U k] true w (Ix m) .dead G;have cn:=asZ (B (n+1)) f [U i,U b,U k] true w fT;have gn:=avj (B (n+1)) f [U i,U b,U k] true w fT;rw[Sl]at aq aQ cn gn;rw[<- aQ]at t1;have rP:=fun fr v=>ayC (L:=m+4) (fr:=fr) (v:=v) (e:=.ret) aq;obtain⟨hq,mH⟩:=an5 (B (n+1)) f [U i,U b,U k] true w fT
  refine⟨n+1,hq,eF (c:=wI) (k:=2) aB.find rfl (by decide) aud ?_⟩
  rw[eO,<- mH];simp only[kV,FE,gB,s',Ix]at z2 rP t1 aq;simp only[U]at z2 rP t1 cn gn;simp only[U,simprocAttr,wI,JW,aG,hm,uk,al,Kc,z2,rP,t1]
  have l3:iu (kd (B (n+1)) f [U i,U b,U k] true w++fT) true 3 (.ref (m+1) 0 0)=some (.agg [U i,U b,U k]):=by
   show fa _ true 3 _=_;rw[h1,cn];rfl
  have KK:iu (kd (B (n+1)) f [U i,U b,U k] true w++fT) false 1 (.ref (m+2) 0 0)=some (ar true):=by
   show fa _ false 1 _=_;exact u5 gn
  simp only[U,ar]at l3 KK;rw[l3,KK];rfl
end
def u6(a b:ByteArray):Bool:=a.data.toList==b.data.toList
section
variable {ag:Nat->Option cz}
def aDn(aB:Hs ag)(base:Nat){A:ad}(ah:base<=A.length){w sm:Nat}{cr:V}{fs:List cT}(ab:qm A w sm cr fs){f:V}(al:f.one=true){g:Nat->Nat->Nat->bI->Bool}(ay:∀(i:Nat) (f1:cT),fs[i]?=some f1->∀(b:Nat) (x:ey),f1.blocks[b]?=some x->∀(k:Nat) (z:bI) (r:List V),x.code[k]?=some z->fc A r z->∀D,Ext A D->∃jJ,aR ag f [.agg [U i,U b,U k],.agg r] base D=some (ar (g i b k z),jJ)/\Ext D jJ):
 ∃H',aR ag (.fn Ug [] []) [.ref w 0 0,f] base A=some (sr (y5 (fun _=>g) fs),H')/\Ext A H':=by
 obtain⟨n,G,J⟩:=aNM aB base ah ab al (B:=fun _=>A) (m:=A.length) (fun _=>rfl) (fun _=>Ext.refl A) (jy:=fun _=>g) (fun i f1 hi b x af k z r bK ak G=>by
  obtain⟨jJ,d1,eH,rfl⟩:=ay i f1 hi b x af k z r bK ak (A++G) ⟨G,rfl⟩;exact⟨eH,d1⟩)
 exact⟨A++G,J,G,rfl⟩
end
section
variable {ag:Nat->Option cz}
end
def Am(x:bI):Bool:=!(sT hK x.op).isSome||!(e7 x.op).d&&!x.d.data.toList==[]||!(e7 x.op).a&&!x.a.data.toList==[]||!(e7 x.op).b&&!x.b.data.toList==[]||!(e7 x.op).k&&x.k != 0||!(e7 x.op).f&&!x.f.data.toList==[]||!(e7 x.op).xs&&decide ((x.xs.length:Int) > 0)||!(e7 x.op).ls&&decide ((x.ls.length:Int) > 0)
def B9(x:bI):Bool:=(e7 x.op).d&&x.d.data.toList==[]&&!(x.op==10||x.op==11)||(e7 x.op).a&&x.a.data.toList==[]&&x.op != 14||(e7 x.op).b&&x.b.data.toList==[]||(e7 x.op).f&&x.f.data.toList==[]
def zF(x:bI):Bool:=bif x.op==1||x.op==2 then decide (x.k<1)||decide (x.k > 64)else bif x.op==7 then decide (x.k<0)||decide (x.k ≥ 64)else bif x.op==6 then(x.xs.length:Int)==0||(x.xs.length:Int) != (x.ls.length:Int)else bif x.op==12 then(x.ls.length:Int) != 2 else bif x.op==13 then(x.ls.length:Int) != 1 else false
def wF(x:bI):Bool:=Am x||(B9 x||zF x)
section
variable {ag:Nat->Option cz}
def azX(B3:ag JL=some (.code vU))(aB:ag H7=some (.code uY))(base:Nat){A:ad}(ah:base<=A.length){w bc sm:Nat}{cr:V}{fs:List cT}(ab:qm A w sm cr fs)(hw:au A bc 0=some [.ref w 0 0]){i b k:Nat}{r:List V}{x:bI}(ak:fc A r x)(D:ad)(d':Ext A D):
 ∃jJ,aR ag (.fn H7 [] [.ref bc 0 0]) [.agg [U i,U b,U k],.agg r] base D=some (ar (wF x),jJ)/\Ext D jJ:=by
 obtain⟨a',lv,rfl,bj,aT,a1,cB,_⟩:=ak;have ft:=bj.one;have fq:=a1.one
 have GR:base<=D.length:=by have:=d'.le;omega
 obtain⟨bX,gE⟩:∃bX,D++[aM.cells 0 [U i,U b,U k]]++[aM.cells 0 (bg x a' lv)]=bX:=⟨_,rfl⟩;have aE:Ext D bX:=gE▸(Ext.app _ _).trans (Ext.app _ _);have ahs:=u5 (b7 hw (d'.trans aE))
 have cg:au bX (D.length+1) 0=some (bg x a' lv):=by
  have:=cQ (D++[aM.cells 0 [U i,U b,U k]]) 0 (bg x a' lv)
  rwa[dh,gE]at this
 have AX:au bX D.length 0=some [U i,U b,U k]:=gE▸b7 (cQ D 0 [U i,U b,U k]) (Ext.app _ _);have dr:=dh D (aM.cells 0 [U i,U b,U k]);have oy:=so (bj.ext (d'.trans aE));have lq:=so (a1.ext (d'.trans aE));have ta:=(ab.ext (d'.trans aE)).load (Ext.refl _);have aKZ:=(b7 ab.NF (d'.trans aE))
 have HQ:fa bX false 1 (.ref w 0 1)=some (.mp sm):=by rw[h1,aKZ];rfl
 have nP:=N2 .u8 (Ext.at' (d'.trans aE) ab.VQ) (.agg (e6.c ⟨false,false,false,false,false,false,false⟩)) true x.op;rw[bE rfl,ar6]at nP
 have gS:bX.length=D.length+2:=by rw[<- gE,dh,dh]
 have NW:base<=D.length+2:=by omega
 have si:=b7 cg (Ext.app bX [aM.cells 0 (e7 x.op).c]);have yJ:=cQ bX 0 (e7 x.op).c;have dE:∀c d,(bX++[c]).set bX.length d=bX++[d]:=fun c d=>iI bX c d;have k4:∀c,au (bX++[aM.cells 0 c]) bX.length 0=some c:=fun c=>cQ bX 0 c;rw[gS]at yJ dE k4;have aU:Ext D (bX++[aM.cells 0 (e7 x.op).c]):=aE.trans (Ext.app _ _);have TE:=so (bj.ext (d'.trans aU));have TY:=so (a1.ext (d'.trans aU));have nD:=fun E=>aJb B3 base E x.op
 refine⟨bX++[aM.cells 0 (e7 x.op).c],eF (c:=uY) (k:=3) aB rfl (by decide) aSW ?_,aU⟩
 simp only[bg,U,ar,e6.c]at cg si yJ gE dr nP nD k4 dE TE TY;unfold wF;cases aQ:((e7 x.op).d&&x.d.data.toList==[])with
 |true=>
   simp only[bg,simprocAttr,U,e6.c,uY,alz,aG,ft,fq,eG,dr,gE,gS,cg,si,yJ,ahs,HQ,nP,NW,dE,k4,nD,TE,TY,aQ];cases aE:Am x with
   |true=>
     unfold Am at aE;simp only[aE,Ee,zK]
   |false=>
     unfold Am at aE;simp only[aE,EH,wS];cases aU:B9 x with
     |true=>
       unfold B9 at aU;rw[aQ]at aU;simp only[ol]at aU;simp only[aU,Ee,zK]
     |false=>
       unfold B9 at aU;rw[aQ]at aU;simp only[ol]at aU;simp only[aU,EH,wS];unfold zF;cases gz:(x.op==1)<;>cases lO:(x.op==2)<;>cases aHM:(x.op==7)<;>cases Le:(x.op==6)<;>cases azD:(x.op==12)<;>cases aLe:(x.op==13)<;>simp only[Ee,EH,BX,AN]
 |false=>
   simp only[bg,simprocAttr,U,e6.c,uY,alz,aG,ft,fq,eG,dr,gE,gS,cg,si,yJ,ahs,HQ,nP,NW,dE,k4,TE,TY,aQ];cases aE:Am x with
   |true=>
     unfold Am at aE;simp only[aE,Ee,zK]
   |false=>
     unfold Am at aE;simp only[aE,EH,wS];cases aU:B9 x with
     |true=>
       unfold B9 at aU;rw[aQ]at aU;simp only[sK,wS]at aU;simp only[aU,Ee,zK]
     |false=>
       unfold B9 at aU;rw[aQ]at aU;simp only[sK,wS]at aU;simp only[aU,EH,wS];unfold zF;cases gz:(x.op==1)<;>cases lO:(x.op==2)<;>cases aHM:(x.op==7)<;>cases Le:(x.op==6)<;>cases azD:(x.op==12)<;>cases aLe:(x.op==13)<;>simp only[Ee,EH,BX,AN]
end
structure yv (x:bI):Prop where
 op:x.op=1\/x.op=2\/x.op=3\/x.op=4\/x.op=5\/x.op=6\/x.op=7\/x.op=8\/x.op=9\/x.op=10\/x.op=11\/x.op=12\/x.op=13\/x.op=14
 k:x.op=1\/x.op=2\/x.op=7->0<=x.k/\x.k<100
 Cu:x.op=6->x.xs.length=x.ls.length
 DP:x.op=12->x.ls.length=2
 go:x.op=13->x.ls.length=1
def aKv{r:Int}(h:(sT hK r).isSome=true):r=1\/r=2\/r=3\/r=4\/r=5\/r=6\/r=7\/r=8\/r=9\/r=10\/r=11\/r=12\/r=13\/r=14:=by
 refine Od fun aJ=>?_;simp only[not_or]at aJ;obtain⟨aE,aU,cd,fG,l6,A6,yL,aMl,aDF,az6,aJq,Px,aRh,aH4⟩:=aJ;simp only[sT,hK,Ks,List.findIdx?_nil,aE,aU,cd,fG,l6,A6,yL,aMl,aDF,az6,aJq,Px,aRh,aH4,anO,pD,hp,Bc,T0]at h
def aaH{x:bI}(h:wF x=false):yv x:=by
 unfold wF at h;rw[nS,nS]at h;obtain⟨J,_,aI⟩:=h
 have dz:(sT hK x.op).isSome=true:=by
  cases e:(sT hK x.op).isSome with
  |true=>rfl
  |false=>simp[Am,e]at J
 refine⟨aKv dz,fun an=>?_,fun an=>?_,fun an=>?_,fun an=>?_⟩
 .rcases an with e|e|e<;>simp[zF,e]at aI<;>omega
 .simp[zF,an]at aI;omega
 .simp[zF,an]at aI;omega
 .simp[zF,an]at aI;omega
def cv(x:bI):ByteArray:=
 if x.op=1 then dy [wh,iG x.k]else
 if x.op=2 then dy [wE,iG x.k]else
 if x.op=3 then CT else
 if x.op=4 then dy [uc,x.f]else
 if x.op=5 then dy [we,x.a]else
 if x.op=6 then dy [ur,qV x]else
 if x.op=7 then dy [uW,x.a,iG x.k]else
 if x.op=8 then dy [vm,x.a]else
 if x.op=9 then dy [uU,x.a++p7,x.b]else
 if x.op=10 then dy [u4,x.f++hT x.xs]else
 if x.op=11 then dy [tY,x.a++hT x.xs]else
 if x.op=12 then dy [uE,x.ls.getD 0 ⟨#[]⟩,x.ls.getD 1 ⟨#[]⟩]else
 if x.op=13 then dy [uD,x.ls.getD 0 ⟨#[]⟩]else
 if x.op=14 then Bt x else
 ⟨#[]⟩
structure SV (ag:Nat->Option cz):Prop where
 W:oZ ag
 P:ag Mf=some (.code wu)
 f1:ag zq=some (.code tU)
 f2:ag Vi=some (.code yr)
 f3:ag QQ=some (.code yo)
 f4:ag QY=some (.code yk)
 f5:ag WG=some (.code xm)
 f6:ag UZ=some (.code xZ)
 f7:ag Tc=some (.code xF)
 f8:ag UO=some (.code x9)
 f9:ag R8=some (.code xe)
 f10:ag Rv=some (.code w2)
 f11:ag VU=some (.code wV)
 f12:ag QO=some (.code wX)
 f13:ag UJ=some (.code xj)
 f14:ag Q7=some (.code xH)
 f15:ag Us=some (.code ys)
section
variable {ag:Nat->Option cz}
def aOJ(h:SV ag)(base:Nat){A:ad}(ah:base<=A.length){a' lv:V}{x:bI}(ak:fc A (bg x a' lv) x)(af:ml x)(al:yv x){n:Nat}(aJ:au A n 0=some [.fn 52 [] []]):
 ∃f H',sT (hf n) x.op=some f/\aR ag f [.agg (bg x a' lv)] base A=some (aA (cv x),H')/\Ext A H':=by
 rcases al.op with e|e|e|e|e|e|e|e|e|e|e|e|e|e
 .have an:=al.k (by omega)
  obtain⟨H',J,aa⟩:=aUe h.W h.f2 base ak af an.1 an.2 aJ h.f1
  refine⟨_,H',by rw[e];rfl,?_,aa⟩
  rw[show cv x=dy [wh,iG x.k] by simp[cv,e]]
  exact J
 .have an:=al.k (by omega)
  obtain⟨H',J,aa⟩:=aD7 h.W h.f3 base ak af an.1 an.2 aJ h.f1
  refine⟨_,H',by rw[e];rfl,?_,aa⟩
  rw[show cv x=dy [wE,iG x.k] by simp[cv,e]]
  exact J
 .obtain⟨H',J,aa⟩:=aAf h.f4 base ak
  refine⟨_,H',by rw[e];rfl,?_,aa⟩
  rw[show cv x=CT by simp[cv,e]]
  exact J
 .obtain⟨H',J,aa⟩:=aFd h.W h.f5 base ak af
  refine⟨_,H',by rw[e];rfl,?_,aa⟩
  rw[show cv x=dy [uc,x.f] by simp[cv,e]]
  exact J
 .obtain⟨H',J,aa⟩:=aN3 h.W h.f6 base ak af
  refine⟨_,H',by rw[e];rfl,?_,aa⟩
  rw[show cv x=dy [we,x.a] by simp[cv,e]]
  exact J
 .obtain⟨H',J,aa⟩:=aRb h.W h.P h.f7 base ah ak af (al.Cu e)
  refine⟨_,H',by rw[e];rfl,?_,aa⟩
  rw[show cv x=dy [ur,qV x] by simp[cv,e]]
  exact J
 .have an:=al.k (by omega)
  obtain⟨H',J,aa⟩:=aR0 h.W h.f8 base ak af an.1 an.2 aJ h.f1
  refine⟨_,H',by rw[e];rfl,?_,aa⟩
  rw[show cv x=dy [uW,x.a,iG x.k] by simp[cv,e]]
  exact J
 .obtain⟨H',J,aa⟩:=aPo h.W h.f9 base ak af
  refine⟨_,H',by rw[e];rfl,?_,aa⟩
  rw[show cv x=dy [vm,x.a] by simp[cv,e]]
  exact J
 .obtain⟨H',J,aa⟩:=aHi h.W h.f10 base ak af
  refine⟨_,H',by rw[e];rfl,?_,aa⟩
  rw[show cv x=dy [uU,x.a++p7,x.b] by simp[cv,e]]
  exact J
 .obtain⟨H',J,aa⟩:=aWk h.W h.f11 base ak af
  refine⟨_,H',by rw[e];rfl,?_,aa⟩
  rw[show cv x=dy [u4,x.f++hT x.xs] by simp[cv,e]]
  exact J
 .obtain⟨H',J,aa⟩:=aWK h.W h.f12 base ak af
  refine⟨_,H',by rw[e];rfl,?_,aa⟩
  rw[show cv x=dy [tY,x.a++hT x.xs] by simp[cv,e]]
  exact J
 .obtain⟨H',J,aa⟩:=aOP h.W h.f13 base ak af (al.DP e)
  refine⟨_,H',by rw[e];rfl,?_,aa⟩
  rw[show cv x=dy [uE,x.ls.getD 0 ⟨#[]⟩,x.ls.getD 1 ⟨#[]⟩] by simp[cv,e]]
  exact J
 .obtain⟨H',J,aa⟩:=aOB h.W h.f14 base ak af (al.go e)
  refine⟨_,H',by rw[e];rfl,?_,aa⟩
  rw[show cv x=dy [uD,x.ls.getD 0 ⟨#[]⟩] by simp[cv,e]]
  exact J
 .obtain⟨H',J,aa⟩:=aL7 h.W h.f15 base ak af
  refine⟨_,H',by rw[e];rfl,?_,aa⟩
  rw[show cv x=Bt x by simp[cv,e]]
  exact J
end
def iZ.ext{m b:Nat}{H H':ad}{di:List UInt8}(h:iZ m H b di)(k:Ext H H'):iZ m H' b di:=by
 obtain⟨J,⟨aa,aI⟩|⟨id,g,aa,aI,bl⟩⟩:=h
 .exact⟨J,.inl ⟨aa,b7 aI k⟩⟩
 .exact⟨J,.inr ⟨id,g,b7 aa k,by rw[k.get (dQ.1 aI).1];exact aI,bl⟩⟩
def OB.ext{m b:Nat}{A H H':ad}(h:OB m b H H')(gU:A.length=m)(k:Ext A H):Ext A H':=by
 refine⟨H'.drop A.length,?_⟩;apply yb;intro i;by_cases hi:i<A.length
 .rw[bi hi,h.2.1 i (by omega),k.get hi]
 .rw[jA (by omega),qP]
  congr 1
  omega
def iZ.trim{m b:Nat}{H:ad}{di:List UInt8}(h:iZ m H b di){L:Nat}(ah:b<L)(fr:List V):iZ m (trim L fr H) b di:=by
 unfold ea.trim;split
 .rename_i ab;rw[dR]at ab;have pQ:=fp.1 ab.2
  have gt:∀{c:List V},au H b 0=some c->au (H.take L) b 0=some c:=by
   intro c a8;unfold au at a8 |-;rw[mr ah];exact a8
  obtain⟨J,⟨aa,aI⟩|⟨id,g,aa,aI,bl⟩⟩:=h
  .exact⟨J,.inl ⟨aa,gt aI⟩⟩
  .refine⟨J,.inr ⟨id,g,gt aa,?_,bl⟩⟩;have hm:aM.cells 0 [V.ref b 0 0,.aZ id g 0 di.length 1]∈H.take L:=ib (oX (gt aa));have hu:=pQ _ hm;simp only[aM.under,pq,qo,kw,dR,ir,l8]at hu;rw[mr hu.2];exact aI
 .exact h
def tE(x:bI):ByteArray:=if x.d.size=0 then cv x else dy [x.d,⟨#[61]⟩,cv x]
def vJ(x:bI):ByteArray:=lH [⟨#[32,32]⟩,tE x]
def aNa{M:Nat}{a b:ByteArray}(aO:a.size<=M)(ah:b.size<=M)(cS:M<=17179869184):(dy [a,b]).size<=2*(M+2):=(ln (xs:=[a,b]) (sep:=mE) (by simp) (tt aO ah) cS (by decide)).2
def X'{M:Nat}{a b c:ByteArray}(aO:a.size<=M)(ah:b.size<=M)(ab:c.size<=M)(cS:M<=17179869184):(dy [a,b,c]).size<=3*(M+2):=(ln (xs:=[a,b,c]) (sep:=mE) (by simp) (GL aO ah ab) cS (by decide)).2
def agR(s p:List UInt8):(Lib.trimSuffix s p).length<=s.length:=by
 unfold Lib.trimSuffix;split
 .rw[EP];omega
 .exact cq _
def apu{x:bI}(af:ml x)(al:yv x):(cv x).size<=120000006:=by
 have aO:=af.a;have ah:=af.b;have H8:=af.f;have aQ:=af.d;have bK:=(IP af.pn af.xs).2;have ay:=awL af;have cC:p7.size=1:=rfl
 have cj:(x.a++p7).size<=40000000:=by rw[o5];omega
 have cZ:(x.f++hT x.xs).size<=40000000:=by rw[o5];omega
 have hN:(x.a++hT x.xs).size<=40000000:=by rw[o5];omega
 have d0:=BM af.ls 0;have d1:=BM af.ls 1
 have L:∀a b:ByteArray,a.size<=40000000->b.size<=40000000->(dy [a,b]).size<=120000006:=fun a b J aa=>jn (aNa J aa (by omega)) (by omega)
 have RU:∀a b c:ByteArray,a.size<=40000000->b.size<=40000000->c.size<=40000000->(dy [a,b,c]).size<=120000006:=fun a b c J aa aI=>jn (X' J aa aI (by omega)) (by omega)
 rcases al.op with e|e|e|e|e|e|e|e|e|e|e|e|e|e
 .have an:=al.k (by omega)
  have:=EK an.1 an.2
  rw[show cv x=dy [wh,iG x.k] by simp[cv,e]]
  exact L _ _ (by decide) (by omega)
 .have an:=al.k (by omega)
  have:=EK an.1 an.2
  rw[show cv x=dy [wE,iG x.k] by simp[cv,e]]
  exact L _ _ (by decide) (by omega)
 .rw[show cv x=CT by simp[cv,e]]
  decide
 .rw[show cv x=dy [uc,x.f] by simp[cv,e]]
  exact L _ _ (by decide) (by omega)
 .rw[show cv x=dy [we,x.a] by simp[cv,e]]
  exact L _ _ (by decide) (by omega)
 .rw[show cv x=dy [ur,qV x] by simp[cv,e]]
  exact L _ _ (by decide) (by omega)
 .have an:=al.k (by omega)
  have:=EK an.1 an.2
  rw[show cv x=dy [uW,x.a,iG x.k] by simp[cv,e]]
  exact RU _ _ _ (by decide) (by omega) (by omega)
 .rw[show cv x=dy [vm,x.a] by simp[cv,e]]
  exact L _ _ (by decide) (by omega)
 .rw[show cv x=dy [uU,x.a++p7,x.b] by simp[cv,e]]
  exact RU _ _ _ (by decide) cj (by omega)
 .rw[show cv x=dy [u4,x.f++hT x.xs] by simp[cv,e]]
  exact L _ _ (by decide) cZ
 .rw[show cv x=dy [tY,x.a++hT x.xs] by simp[cv,e]]
  exact L _ _ (by decide) hN
 .rw[show cv x=dy [uE,x.ls.getD 0 ⟨#[]⟩,x.ls.getD 1 ⟨#[]⟩] by simp[cv,e]]
  exact RU _ _ _ (by decide) (by omega) (by omega)
 .rw[show cv x=dy [uD,x.ls.getD 0 ⟨#[]⟩] by simp[cv,e]]
  exact L _ _ (by decide) (by omega)
 .rw[show cv x=Bt x by simp[cv,e]]
  have J:=L tj x.a (by decide) (by omega)
  exact jn (agR _ _) J
def aPv{x:bI}(af:ml x)(al:yv x):(tE x).size<=360000024:=by
 have J:=apu af al;have aQ:=af.d;unfold tE;split
 .omega
 .exact X' (M:=120000006) (by omega) (by decide) J (by omega)
structure B1 (ag:Nat->Option cz):Prop where
 F:SV ag
 W:ag OM=some (.code sD)
 L:ag Ou=some (.code yc)
def nU(l:List bI):List UInt8:=l.flatMap fun x=>(vJ x).data.toList
def avf{l:List bI}{i:Nat}{x:bI}(h:l[i]?=some x):nU (l.take (i+1))=nU (l.take i)++(vJ x).data.toList:=by
 rw[By,h];simp[nU]
section
variable {ag:Nat->Option cz}
theorem aHt(h:B1 ag)(base:Nat){bO:ad}(ah:base<=bO.length){n jb:Nat}(aJ:au bO n 0=some [.fn 52 [] []])(hm:bO[jb]?=some (.map (kk .u8 (hf n)))){bA:V}{code:List bI}(ab:fb 8 fc bO bA code){L:Nat}(cU:bO.length<L){v35 v53:V}{n36 n37 n54 n55:Int}{k:Nat}{x:bI}(an:code[k]?=some x)(af:ml x)(al:yv x){di:List UInt8}{C:ad}(bp:Ext bO C)(aD:iZ bO.length C bO.length di)(aq:di.length+(vJ x).size<=2^47)(zd:k<2^62):
 ∃a7,aN (aL (aR ag) aN base CG) [] L (ax 98 [(8,.mp jb),(9,.ref bO.length 0 0),(10,.fn 18 [] [.ref bO.length 0 0]),(35,v35),(36,U n36),(37,U n37),(53,v53),(54,U n54),(55,U n55),(65,bA),(66,U code.length),(67,U k)]) C=aN (aL (aR ag) aN base CG) [] L (ax 98 [(8,.mp jb),(9,.ref bO.length 0 0),(10,.fn 18 [] [.ref bO.length 0 0]),(35,v35),(36,U n36),(37,U n37),(53,v53),(54,U n54),(55,U n55),(65,bA),(66,U code.length),(67,U ((k+1:Nat):Int))]) a7/\Ext bO a7/\iZ bO.length a7 bO.length (di++(vJ x).data.toList):=by
 have tI:=(dQ.1 an).1;obtain⟨a,r,i0,ak,fN,_⟩:=ab.l4 an;obtain⟨a',lv,rfl,bj,aT,a1,cB,gj⟩:=ak;have ft:=bj.one;have fq:=a1.one;have kZ:=fN C bp;obtain⟨bG,ha⟩:∃bG,C++[aM.cells 0 (bg x a' lv)]=bG:=⟨_,rfl⟩;have aE:Ext C bG:=ha▸Ext.app _ _;have nu:=bp.trans aE;have cg:au bG C.length 0=some (bg x a' lv):=ha▸cQ C 0 _
 obtain⟨f,cx,tK,ug,aU⟩:=aOJ h.F base (A:=bG) (by have:=nu.le;omega) (fc.ext ⟨a',lv,rfl,bj,aT,a1,cB,gj⟩ nu) af al (b7 aJ nu)
 have nP:=N2 .u8 (Ext.at' nu hm) (.s .nilFunc) false x.op;rw[bV GQ,tK,MR]at nP;have dE:∀c d,(C++[c]).set C.length d=C++[d]:=fun c d=>iI C c d;have k4:∀c,au (C++[aM.cells 0 c]) C.length 0=some c:=fun c=>cQ C 0 c
 have b8:decide ((k:Int)<(code.length:Int))=true:=by simpa using tI
 have si:=b7 cg aU;have aKL:=apu af al;have aTN:=aPv af al;have aXz:=af.d
 have gr:∀H',Ext C H'->base<=H'.length:=fun H' e=>by have:=(bp.trans e).le;omega
 have Ba:base<=C.length:=gr C (Ext.refl C)
 have uK:∀t:ByteArray,t=tE x->∀D,Ext cx D->∃a7,aR ag (.fn Ou [] [.ref bO.length 0 0]) [.aZ D.length 0 0 2 1] base (D++[.cells 0 [aA ⟨#[32,32]⟩,aA t]])=some (.bQ [],a7)/\iZ bO.length a7 bO.length (di++(vJ x).data.toList)/\Ext bO a7:=by
  rintro t rfl D p5;have Ai:Ext C (D++[.cells 0 [aA ⟨#[32,32]⟩,aA (tE x)]]):=(aE.trans aU).trans (p5.trans (Ext.app _ _))
  have bz:=ln (xs:=[⟨#[32,32]⟩,tE x]) (sep:=⟨#[]⟩) (by simp) (tt (M:=360000024) (by decide) aTN) (by omega) (by decide)
  obtain⟨a7,bc,dJ,fI⟩:=O9 h.F.W.L h.W h.L ah (aD.ext Ai) (oo D [⟨#[32,32]⟩,tE x]) bz.1 aq;exact⟨a7,bc,dJ,fI.ext rfl (bp.trans Ai)⟩
 cases aQ:(x.d.data.toList==[])with
 |true=>
   have vZ:x.d.size=0:=by
    have:x.d.data.toList=[]:=by simpa using aQ
    have aa:x.d.data.toList.length=0:=by rw[this];rfl
    exact aa
   obtain⟨a7,bc,dJ,fI⟩:=uK (cv x) (by unfold tE;rw[bE vZ]) cx (Ext.refl _)
   refine⟨trim L (ax 98 [(8,.mp jb),(9,.ref bO.length 0 0),(10,.fn 18 [] [.ref bO.length 0 0]),(35,v35),(36,U n36),(37,U n37),(53,v53),(54,U n54),(55,U n55),(65,bA),(66,U code.length),(67,U ((k+1:Nat):Int))]) a7,?_,fI.trim (by omega) _,dJ.trim cU _⟩
   rw[dt];simp only[bg]at cg si ug nP dE k4 bc kZ ha i0;simp only[U,simprocAttr,Oa,pM,aG,b8,Ba,i0,kZ,ft,fq,eG,dE,k4,ha,cg,nP,ug,si,aQ,bc,jB zd]
   try rfl
 |false=>
   have vZ:x.d.size≠0:=by
    intro e;have:x.d.data.toList=[]:=lX e;rw[this]at aQ;cases aQ
   have Rg:=ln (xs:=[x.d,⟨#[61]⟩,cv x]) (sep:=mE) (by simp) (GL (M:=120000006) (by omega) (by decide) aKL) (by omega) (by decide)
   have Ag:=qX h.F.W.L h.F.W.W base (oo cx [x.d,⟨#[61]⟩,cv x]) Rg.1;have qM:=dh cx (aM.cells 0 ([x.d,⟨#[61]⟩,cv x].map aA));have MF:=b7 si (Ext.app cx [aM.cells 0 ([x.d,⟨#[61]⟩,cv x].map aA)])
   obtain⟨a7,bc,dJ,fI⟩:=uK (dy [x.d,⟨#[61]⟩,cv x]) (by unfold tE;rw[bV vZ]) (cx++[aM.cells 0 ([x.d,⟨#[61]⟩,cv x].map aA)]) (Ext.app _ _)
   refine⟨trim L (ax 98 [(8,.mp jb),(9,.ref bO.length 0 0),(10,.fn 18 [] [.ref bO.length 0 0]),(35,v35),(36,U n36),(37,U n37),(53,v53),(54,U n54),(55,U n55),(65,bA),(66,U code.length),(67,U ((k+1:Nat):Int))]) a7,?_,fI.trim (by omega) _,dJ.trim cU _⟩
   rw[dt];rw[qM]at bc;simp only[bg,dW,hC,c3,eh]at cg si MF ug nP dE k4 bc kZ ha i0 Ag qM;simp only[U,simprocAttr,Oa,pM,aG,b8,Ba,i0,kZ,ft,fq,eG,dE,k4,ha,cg,nP,ug,si,aQ,Ag,qM,bc,jB zd]
   try rfl
def aUX{l:List bI}(i:Nat):(nU (l.take i)).length<=(nU l).length:=by
 have:nU l=nU (l.take i)++nU (l.drop i):=by
  unfold nU;rw[<- yK,uH]
 rw[this,c0];omega
def aJa(h:B1 ag)(base:Nat){bO:ad}(ah:base<=bO.length){n jb:Nat}(aJ:au bO n 0=some [.fn 52 [] []])(hm:bO[jb]?=some (.map (kk .u8 (hf n)))){bA:V}{code:List bI}(ab:fb 8 fc bO bA code)(ai:∀x∈code,ml x/\yv x)(fk:code.length<2^62){L:Nat}(cU:bO.length<L){v35 v53:V}{n36 n37 n54 n55:Int}{di:List UInt8}{C:ad}(bp:Ext bO C)(aD:iZ bO.length C bO.length di)(aq:di.length+(nU code).length<=2^47):
 ∃a7,aN (aL (aR ag) aN base CG) [] L (ax 98 [(8,.mp jb),(9,.ref bO.length 0 0),(10,.fn 18 [] [.ref bO.length 0 0]),(35,v35),(36,U n36),(37,U n37),(53,v53),(54,U n54),(55,U n55),(65,bA),(66,U code.length),(67,U ((0:Nat):Int))]) C=aN (aL (aR ag) aN base CG) [] L (ax 98 [(8,.mp jb),(9,.ref bO.length 0 0),(10,.fn 18 [] [.ref bO.length 0 0]),(35,v35),(36,U n36),(37,U n37),(53,v53),(54,U n54),(55,U n55),(65,bA),(66,U code.length),(67,U code.length)]) a7/\Ext bO a7/\iZ bO.length a7 bO.length (di++nU code):=by
 obtain⟨a7,aE,aU,cd⟩:=BH code.length (fun k C=>Ext bO C/\iZ bO.length C bO.length (di++nU (code.take k))) (fun k C=>aN (aL (aR ag) aN base CG) [] L (ax 98 [(8,.mp jb),(9,.ref bO.length 0 0),(10,.fn 18 [] [.ref bO.length 0 0]),(35,v35),(36,U n36),(37,U n37),(53,v53),(54,U n54),(55,U n55),(65,bA),(66,U code.length),(67,U (k:Int))]) C) (by
  rintro k C an ⟨bp,aD⟩;have af:=eP an;have FN:=ai _ (rU an);have nO:(nU (code.take (k+1))).length<=(nU code).length:=aUX _;rw[avf af,c0]at nO;have bK:(vJ code[k]).data.toList.length=(vJ code[k]).size:=rfl
  obtain⟨a7,bj,aT,a1⟩:=aHt h base ah aJ hm ab cU (v35:=v35) (v53:=v53) (n36:=n36) (n37:=n37) (n54:=n54) (n55:=n55) af FN.1 FN.2 bp aD (by rw[c0];omega) (by omega)
  exact⟨a7,bj,aT,by rw[avf af,<- gi];exact a1⟩) 0 C (gY _) ⟨bp,by simpa[nU]using aD⟩
 rw[xD]at cd;exact⟨a7,aE,aU,cd⟩
end
def Gn(b:ey):ByteArray:=lH [b.label,⟨#[58]⟩]
def yA(b:ey):List UInt8:=(Gn b).data.toList++nU b.code
def iZ.lt{m b:Nat}{H:ad}{di:List UInt8}(h:iZ m H b di):b<H.length:=by
 obtain⟨_,⟨_,aI⟩|⟨id,g,aa,_⟩⟩:=h
 .exact iC aI
 .exact iC aa
structure Sr (b:ey):Prop where
 l:b.label.size<=4000
 x:∀x∈b.code,ml x/\yv x
 n:b.code.length<2^62
section
variable {ag:Nat->Option cz}
def aD4(h:B1 ag)(base:Nat){bO:ad}(ah:base<=bO.length){n jb:Nat}(aJ:au bO n 0=some [.fn 52 [] []])(hm:bO[jb]?=some (.map (kk .u8 (hf n)))){bv:V}{bs:List ey}(ab:fb 2 lx bO bv bs){L:Nat}(cU:bO.length<L){v35:V}{n36 n37:Int}{k:Nat}{x:ey}(an:bs[k]?=some x)(af:Sr x){di:List UInt8}{C:ad}(bp:Ext bO C)(aD:iZ bO.length C bO.length di)(aq:di.length+(yA x).length<=2^47)(zd:k<2^62):
 ∃a7,aN (aL (aR ag) aN base EA) [] L (ax 98 [(8,.mp jb),(9,.ref bO.length 0 0),(10,.fn 18 [] [.ref bO.length 0 0]),(35,v35),(36,U n36),(37,U n37),(53,bv),(54,U bs.length),(55,U k)]) C=aN (aL (aR ag) aN base EA) [] L (ax 98 [(8,.mp jb),(9,.ref bO.length 0 0),(10,.fn 18 [] [.ref bO.length 0 0]),(35,v35),(36,U n36),(37,U n37),(53,bv),(54,U bs.length),(55,U ((k+1:Nat):Int))]) a7/\Ext bO a7/\iZ bO.length a7 bO.length (di++yA x):=by
 have tI:=(dQ.1 an).1;obtain⟨a,r,i0,ak,fN,_⟩:=ab.l4 an;obtain⟨bA,rfl,Xf⟩:=ak;have fm:=Xf.one;have kZ:=fN C bp;obtain⟨bG,ha⟩:∃bG,C++[aM.cells 0 [aA x.label,bA]]=bG:=⟨_,rfl⟩;have aE:Ext C bG:=ha▸Ext.app _ _;have nu:=bp.trans aE;have cg:au bG C.length 0=some [aA x.label,bA]:=ha▸cQ C 0 _
 have dr:bG.length=C.length+1:=by rw[<- ha,dh]
 have dE:∀c d,(C++[c]).set C.length d=C++[d]:=fun c d=>iI C c d;have k4:∀c,au (C++[aM.cells 0 c]) C.length 0=some c:=fun c=>cQ C 0 c
 have b8:decide ((k:Int)<(bs.length:Int))=true:=by simpa using tI
 have Ba:base<=C.length:=by have:=bp.le;omega
 have LH:=af.l
 have EM:(yA x).length=(Gn x).size+(nU x.code).length:=by unfold yA;rw[c0];rfl
 have bz:=ln (xs:=[x.label,⟨#[58]⟩]) (sep:=⟨#[]⟩) (by simp) (tt (M:=4000) LH (by decide)) (by omega) (by decide)
 have Ai:Ext C (bG++[.cells 0 [aA x.label,aA ⟨#[58]⟩]]):=aE.trans (Ext.app _ _)
 obtain⟨cx,bc,dJ,fI⟩:=O9 h.F.W.L h.W h.L ah (aD.ext Ai) (oo bG [x.label,⟨#[58]⟩]) bz.1 (by have:(lH [x.label,⟨#[58]⟩]).size=(Gn x).size:=rfl;omega)
 have mL:=fI.ext rfl (bp.trans Ai);have aNn:=H9 cg (G:=[aM.cells 0 [aA x.label,aA ⟨#[58]⟩]])
 have si:au cx C.length 0=some [aA x.label,bA]:=by
  have Ef:=oX aNn
  have:cx[C.length]?=some (.cells 0 [aA x.label,bA]):=by
   rw[fI.2.2 C.length (by have:=aD.lt;omega) (by have:=Ai.le;have:=(dQ.1 Ef).1;exact this) (fun g l e=>by rw[Ef]at e;cases e)]
   exact Ef
  unfold au;rw[this];rfl
 obtain⟨gI,g1,g2,g3⟩:=aJa h base ah aJ hm Xf af.x af.n (L:=cx.length) dJ.lt (v35:=v35) (v53:=bv) (n36:=n36) (n37:=n37) (n54:=bs.length) (n55:=k) mL dJ (by rw[c0];have:(lH [x.label,⟨#[58]⟩]).data.toList.length=(Gn x).size:=rfl;omega)
 have lq:=fb.len (fb.ext (P:=fc) fc.ext Xf mL)
 have rh:decide ((x.code.length:Int)<(x.code.length:Int))=false:=by simp
 refine⟨trim L (ax 98 [(8,.mp jb),(9,.ref bO.length 0 0),(10,.fn 18 [] [.ref bO.length 0 0]),(35,v35),(36,U n36),(37,U n37),(53,bv),(54,U bs.length),(55,U ((k+1:Nat):Int))]) (trim cx.length (ax 98 [(8,.mp jb),(9,.ref bO.length 0 0),(10,.fn 18 [] [.ref bO.length 0 0]),(35,v35),(36,U n36),(37,U n37),(53,bv),(54,U bs.length),(55,U k),(65,bA),(66,U x.code.length),(67,U x.code.length),(68,.s (.bool false))]) gI),?_,?_,?_⟩
 .rw[dt];simp only[U,c3,eh]at cg si dE k4 bc kZ ha i0 lq g1 dr;rw[dr]at bc;rw[show(((0:Nat):Int))=0 from rfl]at g1;simp only[U,simprocAttr,Va,pM,aG,b8,Ba,i0,kZ,fm,eG,dE,k4,ha,cg,dr,bc,si,lq,g1];rw[dt];simp only[Oa,simprocAttr,pM,aG,rh,jB zd]
 .exact(g2.trim (by have:=dJ.lt;omega) _).trim (by omega) _
 .have:di++yA x=di++(Gn x).data.toList++nU x.code:=by unfold yA;rw[gi]
  rw[this];exact(g3.trim dJ.lt _).trim cU _
def nV(l:List ey):List UInt8:=l.flatMap yA
def akw{l:List ey}{i:Nat}{x:ey}(h:l[i]?=some x):nV (l.take (i+1))=nV (l.take i)++yA x:=by
 rw[By,h];simp[nV]
def aAH{l:List ey}(i:Nat):(nV (l.take i)).length<=(nV l).length:=by
 have:nV l=nV (l.take i)++nV (l.drop i):=by
  unfold nV;rw[<- yK,uH]
 rw[this,c0];omega
def aI7(h:B1 ag)(base:Nat){bO:ad}(ah:base<=bO.length){n jb:Nat}(aJ:au bO n 0=some [.fn 52 [] []])(hm:bO[jb]?=some (.map (kk .u8 (hf n)))){bv:V}{bs:List ey}(ab:fb 2 lx bO bv bs)(ai:∀x∈bs,Sr x)(fk:bs.length<2^62){L:Nat}(cU:bO.length<L){v35:V}{n36 n37:Int}{di:List UInt8}{C:ad}(bp:Ext bO C)(aD:iZ bO.length C bO.length di)(aq:di.length+(nV bs).length<=2^47):
 ∃a7,aN (aL (aR ag) aN base EA) [] L (ax 98 [(8,.mp jb),(9,.ref bO.length 0 0),(10,.fn 18 [] [.ref bO.length 0 0]),(35,v35),(36,U n36),(37,U n37),(53,bv),(54,U bs.length),(55,U ((0:Nat):Int))]) C=aN (aL (aR ag) aN base EA) [] L (ax 98 [(8,.mp jb),(9,.ref bO.length 0 0),(10,.fn 18 [] [.ref bO.length 0 0]),(35,v35),(36,U n36),(37,U n37),(53,bv),(54,U bs.length),(55,U bs.length)]) a7/\Ext bO a7/\iZ bO.length a7 bO.length (di++nV bs):=by
 obtain⟨a7,aE,aU,cd⟩:=BH bs.length (fun k C=>Ext bO C/\iZ bO.length C bO.length (di++nV (bs.take k))) (fun k C=>aN (aL (aR ag) aN base EA) [] L (ax 98 [(8,.mp jb),(9,.ref bO.length 0 0),(10,.fn 18 [] [.ref bO.length 0 0]),(35,v35),(36,U n36),(37,U n37),(53,bv),(54,U bs.length),(55,U (k:Int))]) C) (by
  rintro k C an ⟨bp,aD⟩;have af:=eP an;have FN:=ai _ (rU an);have nO:(nV (bs.take (k+1))).length<=(nV bs).length:=aAH _;rw[akw af,c0]at nO
  obtain⟨a7,bj,aT,a1⟩:=aD4 h base ah aJ hm ab cU (v35:=v35) (n36:=n36) (n37:=n37) af FN bp aD (by rw[c0];omega) (by omega)
  exact⟨a7,bj,aT,by rw[akw af,<- gi];exact a1⟩) 0 C (gY _) ⟨bp,by simpa[nV]using aD⟩
 rw[xD]at cd;exact⟨a7,aE,aU,cd⟩
end
def DL:ByteArray:=⟨#[102,117,110,99]⟩
def uJ(f:cT):ByteArray:=dy [DL,f.name++hT f.ps,⟨#[123]⟩]
def B5(f:cT):ByteArray:=lH [uJ f]
def Fe:ByteArray:=lH [⟨#[125]⟩]
def lr(f:cT):List UInt8:=(B5 f).data.toList++nV f.blocks++Fe.data.toList
structure A1 (f:cT):Prop where
 n:f.name.size<=4000
 Jm:f.ps.length<=4000
 ps:∀s∈f.ps,s.size<=4000
 b:∀b∈f.blocks,Sr b
 Jr:f.blocks.length<2^62
def aCo{f:cT}(h:A1 f):(f.name++hT f.ps).size<=40000000/\(uJ f).size<=120000006:=by
 have bK:=(IP h.Jm h.ps).2;have aJ:=h.n
 have cj:(f.name++hT f.ps).size<=40000000:=by rw[o5];omega
 exact⟨cj,X' (M:=40000000) (by decide) cj (by decide) (by omega)⟩
def aes{M:Nat}{a:ByteArray}(aO:a.size<=M):∀x∈[a],x.size<=M:=by
 intro x af;simp only[nj,xn,xv]at af;subst af;exact aO
section
variable {ag:Nat->Option cz}
def Rs(h:B1 ag)(base:Nat){bO:ad}(ah:base<=bO.length){n jb:Nat}(aJ:au bO n 0=some [.fn 52 [] []])(hm:bO[jb]?=some (.map (kk .u8 (hf n)))){cr:V}{fs:List cT}(ab:iF bO cr fs){L:Nat}(cU:bO.length<L){k:Nat}{x:cT}(an:fs[k]?=some x)(af:A1 x){di:List UInt8}{C:ad}(bp:Ext bO C)(aD:iZ bO.length C bO.length di)(aq:di.length+(lr x).length<=2^47)(zd:k<2^62):
 ∃a7,aN (aL (aR ag) aN base Dx) [] L (ax 98 [(8,.mp jb),(9,.ref bO.length 0 0),(10,.fn 18 [] [.ref bO.length 0 0]),(35,cr),(36,U fs.length),(37,U k)]) C=aN (aL (aR ag) aN base Dx) [] L (ax 98 [(8,.mp jb),(9,.ref bO.length 0 0),(10,.fn 18 [] [.ref bO.length 0 0]),(35,cr),(36,U fs.length),(37,U ((k+1:Nat):Int))]) a7/\Ext bO a7/\iZ bO.length a7 bO.length (di++lr x):=by
 have tI:=(dQ.1 an).1;obtain⟨a,r,i0,ak,fN,_⟩:=ab.l4 an;obtain⟨pv,bv,rfl,ay,aVc,_,S4⟩:=ak;have uN:=ay.one;have qG:=S4.one;have kZ:=fN C bp;obtain⟨bG,ha⟩:∃bG,C++[aM.cells 0 [aA x.name,pv,bv]]=bG:=⟨_,rfl⟩;have aE:Ext C bG:=ha▸Ext.app _ _;have nu:=bp.trans aE;have cg:au bG C.length 0=some [aA x.name,pv,bv]:=ha▸cQ C 0 _
 have dr:bG.length=C.length+1:=by rw[<- ha,dh]
 have dE:∀c d,(C++[c]).set C.length d=C++[d]:=fun c d=>iI C c d;have k4:∀c,au (C++[aM.cells 0 c]) C.length 0=some c:=fun c=>cQ C 0 c
 have b8:decide ((k:Int)<(fs.length:Int))=true:=by simpa using tI
 have Ba:base<=C.length:=by have:=bp.le;omega
 have LH:=af.n;obtain⟨bK,aCa⟩:=aCo af;have alh:=IP af.Jm af.ps;have gU:=Ya h.F.W.L h.F.W.A bG.length (Nq (ay.ext nu) aVc) alh.1;rw[dr]at gU
 have cj:x.name.size+(hT x.ps).size<=4611686018427387904:=by have:=alh.2;omega
 obtain⟨cx,gb⟩:∃cx,bG++[aM.cells 0 [aA DL,aA (x.name++hT x.ps),aA ⟨#[123]⟩]]=cx:=⟨_,rfl⟩;have aU:Ext bG cx:=gb▸Ext.app _ _
 have gS:cx.length=C.length+2:=by rw[<- gb,dh,dr]
 have Rg:=ln (xs:=[DL,x.name++hT x.ps,⟨#[123]⟩]) (sep:=mE) (by simp) (GL (M:=40000000) (by decide) bK (by decide)) (by omega) (by decide)
 have Ag:=qX h.F.W.L h.F.W.W base (oo bG [DL,x.name++hT x.ps,⟨#[123]⟩]) Rg.1
 have azC:=ln (xs:=[uJ x]) (sep:=⟨#[]⟩) (by simp) (aes (M:=120000006) aCa) (by omega) (by decide)
 have Ai:Ext C (cx++[.cells 0 ([uJ x].map aA)]):=(aE.trans aU).trans (Ext.app _ _)
 have e2:(lr x).length=(B5 x).size+(nV x.blocks).length+Fe.size:=by unfold lr;rw[c0,c0];rfl
 obtain⟨lo,bc,dJ,fI⟩:=O9 h.F.W.L h.W h.L ah (aD.ext Ai) (oo cx [uJ x]) azC.1 (by have:(lH [uJ x]).size=(B5 x).size:=rfl;omega)
 have M0:=fI.ext rfl (bp.trans Ai)
 have Zw:au lo C.length 0=some [aA x.name,pv,bv]:=by
  have Ef:=oX (b7 cg (aU.trans (Ext.app cx [aM.cells 0 ([uJ x].map aA)])))
  have:lo[C.length]?=some (.cells 0 [aA x.name,pv,bv]):=by
   rw[fI.2.2 C.length (by have:=aD.lt;omega) (dQ.1 Ef).1 (fun g l e=>by rw[Ef]at e;cases e)]
   exact Ef
  unfold au;rw[this];rfl
 obtain⟨pj,g1,g2,g3⟩:=aI7 h base ah aJ hm S4 af.b af.Jr (L:=lo.length) dJ.lt (v35:=cr) (n36:=fs.length) (n37:=k) M0 dJ (by rw[c0];have:(lH [uJ x]).data.toList.length=(B5 x).size:=rfl;omega)
 have lq:=fb.len (fb.ext (P:=lx) lx.ext S4 M0)
 have rh:decide ((x.blocks.length:Int)<(x.blocks.length:Int))=false:=by simp
 obtain⟨pI,Mo⟩:∃pI,trim lo.length (ax 98 [(8,.mp jb),(9,.ref bO.length 0 0),(10,.fn 18 [] [.ref bO.length 0 0]),(35,cr),(36,U fs.length),(37,U k),(53,bv),(54,U x.blocks.length),(55,U x.blocks.length),(56,.s (.bool false))]) pj=pI:=⟨_,rfl⟩
 have J4:Ext bO pI:=Mo▸g2.trim (by have:=dJ.lt;omega) _
 have aB0:iZ bO.length pI bO.length _:=Mo▸g3.trim dJ.lt _
 have aEB:=ln (xs:=[⟨#[125]⟩]) (sep:=⟨#[]⟩) (by simp) (aes (M:=4000) (by decide)) (by omega) (by decide)
 obtain⟨M3,jG,rL,vu⟩:=O9 h.F.W.L h.W h.L ah (aB0.ext (Ext.app pI [.cells 0 ([⟨#[125]⟩].map aA)])) (oo pI [⟨#[125]⟩]) aEB.1 (by
  rw[c0,c0];have aE:(lH [uJ x]).data.toList.length=(B5 x).size:=rfl;have aU:(lH [⟨#[125]⟩]).size=Fe.size:=rfl;omega)
 have aMx:=vu.ext rfl (J4.trans (Ext.app _ _))
 refine⟨trim L (ax 98 [(8,.mp jb),(9,.ref bO.length 0 0),(10,.fn 18 [] [.ref bO.length 0 0]),(35,cr),(36,U fs.length),(37,U ((k+1:Nat):Int))]) M3,?_,aMx.trim (by omega) _,?_⟩
 .rw[dt];simp only[U,dW,hC,c3,eh,DL,uJ]at cg Zw dE k4 bc kZ ha gb Mo i0 lq g1 dr gS Ag gU jG;rw[gS]at bc;rw[dr,gb]at Ag;rw[show(((0:Nat):Int))=0 from rfl]at g1;simp only[U,simprocAttr,Nb,pM,aG,b8,Ba,i0,kZ,uN,qG,eG,dE,k4,ha,cg,dr,gU,vV cj,gb,Ag,gS,bc,Zw,lq,g1];rw[dt];simp only[Va,simprocAttr,pM,aG,rh,Mo,jG,jB zd]
  try rfl
 .have:di++lr x=di++(B5 x).data.toList++nV x.blocks++Fe.data.toList:=by unfold lr;simp only[gi]
  rw[this];exact rL.trim cU _
def h6(l:List cT):List UInt8:=l.flatMap lr
def awZ{l:List cT}{i:Nat}{x:cT}(h:l[i]?=some x):h6 (l.take (i+1))=h6 (l.take i)++lr x:=by
 rw[By,h];simp[h6]
def aLr{l:List cT}(i:Nat):(h6 (l.take i)).length<=(h6 l).length:=by
 have:h6 l=h6 (l.take i)++h6 (l.drop i):=by
  unfold h6;rw[<- yK,uH]
 rw[this,c0];omega
def Xt(h:B1 ag)(base:Nat){bO:ad}(ah:base<=bO.length){n jb:Nat}(aJ:au bO n 0=some [.fn 52 [] []])(hm:bO[jb]?=some (.map (kk .u8 (hf n)))){cr:V}{fs:List cT}(ab:iF bO cr fs)(ai:∀x∈fs,A1 x)(fk:fs.length<2^62){L:Nat}(cU:bO.length<L){di:List UInt8}{C:ad}(bp:Ext bO C)(aD:iZ bO.length C bO.length di)(aq:di.length+(h6 fs).length<=2^47):
 ∃a7,aN (aL (aR ag) aN base Dx) [] L (ax 98 [(8,.mp jb),(9,.ref bO.length 0 0),(10,.fn 18 [] [.ref bO.length 0 0]),(35,cr),(36,U fs.length),(37,U ((0:Nat):Int))]) C=aN (aL (aR ag) aN base Dx) [] L (ax 98 [(8,.mp jb),(9,.ref bO.length 0 0),(10,.fn 18 [] [.ref bO.length 0 0]),(35,cr),(36,U fs.length),(37,U fs.length)]) a7/\Ext bO a7/\iZ bO.length a7 bO.length (di++h6 fs):=by
 obtain⟨a7,aE,aU,cd⟩:=BH fs.length (fun k C=>Ext bO C/\iZ bO.length C bO.length (di++h6 (fs.take k))) (fun k C=>aN (aL (aR ag) aN base Dx) [] L (ax 98 [(8,.mp jb),(9,.ref bO.length 0 0),(10,.fn 18 [] [.ref bO.length 0 0]),(35,cr),(36,U fs.length),(37,U (k:Int))]) C) (by
  rintro k C an ⟨bp,aD⟩;have af:=eP an;have FN:=ai _ (rU an);have nO:(h6 (fs.take (k+1))).length<=(h6 fs).length:=aLr _;rw[awZ af,c0]at nO
  obtain⟨a7,bj,aT,a1⟩:=Rs h base ah aJ hm ab cU af FN bp aD (by rw[c0];omega) (by omega)
  exact⟨a7,bj,aT,by rw[awZ af,<- gi];exact a1⟩) 0 C (gY _) ⟨bp,by simpa[h6]using aD⟩
 rw[xD]at cd;exact⟨a7,aE,aU,cd⟩
end
structure zu (ag:Nat->Option cz):Prop where
 vk:ag F2=some (.code uM)
 LC:ag Je=some (.code sE)
 bad:ag PI=some (.code x4)
 zy:ag Mh=some (.code xR)
 idx:ag JN=some (.code r')
def h8(s:e6)(x:bI):Bool:=(((s.d&&jz false x.d)||(s.f&&jz false x.f))||(s.a&&jz true x.a))||(s.b&&jz true x.b)
section
variable {ag:Nat->Option cz}
def ra(aB:zu ag)(base:Nat)(D:ad)(op:Bool)(s:ByteArray):∃E,aR ag (.fn PI [] []) [.s (.bool op),.aZ D.length 0 0 1 1] base (D++[aM.cells 0 [aA s]])=some (ar (jz op s),E)/\Ext D E:=by
 have ak:Rd (D++[aM.cells 0 [aA s]]) (.aZ D.length 0 0 1 1) ([s].map aA):=Rd.aZ (cQ D 0 [aA s]) (off:=0) (n:=1) (by simp)
 obtain⟨E,J,aa⟩:=O' aB.vk aB.LC aB.bad aB.zy aB.idx base (D++[aM.cells 0 [aA s]]) op ak trivial (by simp)
 refine⟨E,?_,(Ext.app _ _).trans aa⟩;rw[J];simp[ar]
set_option maxHeartbeats 8000000 in
def aJJ(aB:zu ag)(base:Nat){D0:ad}(ah:base<=D0.length){p q:Nat}{x:bI}{a' lv:V}{s:e6}(fR:au D0 p 0=some (bg x a' lv))(fH:au D0 q 0=some s.c){v0 v2 v4 v6 rz iX s6 tc v35 v36 v37 td v51 sS:V}:
 ∃jJ,aL (aR ag) aN base (.region TD [] [64,65,66,67,68,69,70,71,72,73,74,75,76,77,78,79,80,81,82,83,84,85,86,87,88,89,90,91,92,93,94,95,96,97,98,99,100,101]) (ax 140 [(0,v0),(2,v2),(4,v4),(6,v6),(8,rz),(9,.ref p 0 0),(10,.ref q 0 0),(16,iX),(17,s6),(18,tc),(35,v35),(36,v36),(37,v37),(50,td),(51,v51),(52,sS)]) D0=some (.bR,ax 140 [(0,v0),(2,v2),(4,v4),(6,v6),(8,rz),(9,.ref p 0 0),(10,.ref q 0 0),(11,ar (h8 s x)),(16,iX),(17,s6),(18,tc),(35,v35),(36,v36),(37,v37),(50,td),(51,v51),(52,sS)],jJ)/\Ext D0 jJ:=by
 have uR:Ext D0 D0:=Ext.refl _;simp only[bg,e6.c]at fR fH;cases jl:s.d with
 |false=>
   cases jr:s.f with
   |false=>
     cases jh:s.a with
     |false=>
       cases jt:s.b with
       |false=>
         refine⟨D0,?_,uR⟩;simp only[h8,simprocAttr,fo,aG,fH,jl,jr,jh,jt]
       |true=>
         obtain⟨bX,e5,lY⟩:=ra aB base D0 true x.b;have jU:=uR.trans lY;have hd:=b7 fR lY;have hb:=b7 fH lY;simp only[ar,aA]at e5;cases hI:jz true x.b with
         |true=>
           rw[hI]at e5;refine⟨bX,?_,jU⟩;simp only[h8,simprocAttr,aA,fo,aG,fR,fH,jl,jr,jh,jt,hI,e5]
         |false=>
           rw[hI]at e5;refine⟨bX,?_,jU⟩;simp only[h8,simprocAttr,aA,fo,aG,fR,fH,jl,jr,jh,jt,hI,e5]
     |true=>
       obtain⟨bX,e5,lY⟩:=ra aB base D0 true x.a;have jU:=uR.trans lY;have hd:=b7 fR lY;have hb:=b7 fH lY;simp only[ar,aA]at e5;cases kC:jz true x.a with
       |true=>
         rw[kC]at e5;refine⟨bX,?_,jU⟩;simp only[h8,simprocAttr,aA,fo,aG,fR,fH,jl,jr,jh,kC,e5]
       |false=>
         rw[kC]at e5;cases jt:s.b with
         |false=>
           refine⟨bX,?_,jU⟩;simp only[h8,simprocAttr,aA,fo,aG,fR,fH,jl,jr,jh,kC,e5,hb,jt]
         |true=>
           obtain⟨bU,fB,kx⟩:=ra aB base bX true x.b;have kE:=jU.trans kx;have mz:=b7 hd kx;have lW:=b7 hb kx;simp only[ar,aA]at fB;cases hI:jz true x.b with
           |true=>
             rw[hI]at fB;refine⟨bU,?_,kE⟩;simp only[h8,simprocAttr,aA,fo,aG,fR,fH,jl,jr,jh,kC,e5,hd,hb,jt,hI,fB]
           |false=>
             rw[hI]at fB;refine⟨bU,?_,kE⟩;simp only[h8,simprocAttr,aA,fo,aG,fR,fH,jl,jr,jh,kC,e5,hd,hb,jt,hI,fB]
   |true=>
     obtain⟨bX,e5,lY⟩:=ra aB base D0 false x.f;have jU:=uR.trans lY;have hd:=b7 fR lY;have hb:=b7 fH lY;simp only[ar,aA]at e5;cases ng:jz false x.f with
     |true=>
       rw[ng]at e5;refine⟨bX,?_,jU⟩;simp only[h8,simprocAttr,aA,fo,aG,fR,fH,jl,jr,ng,e5]
     |false=>
       rw[ng]at e5;cases jh:s.a with
       |false=>
         cases jt:s.b with
         |false=>
           refine⟨bX,?_,jU⟩;simp only[h8,simprocAttr,aA,fo,aG,fR,fH,jl,jr,ng,e5,hb,jh,jt]
         |true=>
           obtain⟨bU,fB,kx⟩:=ra aB base bX true x.b;have kE:=jU.trans kx;have mz:=b7 hd kx;have lW:=b7 hb kx;simp only[ar,aA]at fB;cases hI:jz true x.b with
           |true=>
             rw[hI]at fB;refine⟨bU,?_,kE⟩;simp only[h8,simprocAttr,aA,fo,aG,fR,fH,jl,jr,ng,e5,hd,hb,jh,jt,hI,fB]
           |false=>
             rw[hI]at fB;refine⟨bU,?_,kE⟩;simp only[h8,simprocAttr,aA,fo,aG,fR,fH,jl,jr,ng,e5,hd,hb,jh,jt,hI,fB]
       |true=>
         obtain⟨bU,fB,kx⟩:=ra aB base bX true x.a;have kE:=jU.trans kx;have mz:=b7 hd kx;have lW:=b7 hb kx;simp only[ar,aA]at fB;cases kC:jz true x.a with
         |true=>
           rw[kC]at fB;refine⟨bU,?_,kE⟩;simp only[h8,simprocAttr,aA,fo,aG,fR,fH,jl,jr,ng,e5,hd,hb,jh,kC,fB]
         |false=>
           rw[kC]at fB;cases jt:s.b with
           |false=>
             refine⟨bU,?_,kE⟩;simp only[h8,simprocAttr,aA,fo,aG,fR,fH,jl,jr,ng,e5,hd,hb,jh,kC,fB,lW,jt]
           |true=>
             obtain⟨dq,la,rq⟩:=ra aB base bU true x.b;have uC:=kE.trans rq;have Ha:=b7 mz rq;have ER:=b7 lW rq;simp only[ar,aA]at la;cases hI:jz true x.b with
             |true=>
               rw[hI]at la;refine⟨dq,?_,uC⟩;simp only[h8,simprocAttr,aA,fo,aG,fR,fH,jl,jr,ng,e5,hd,hb,jh,kC,fB,mz,lW,jt,hI,la]
             |false=>
               rw[hI]at la;refine⟨dq,?_,uC⟩;simp only[h8,simprocAttr,aA,fo,aG,fR,fH,jl,jr,ng,e5,hd,hb,jh,kC,fB,mz,lW,jt,hI,la]
 |true=>
   obtain⟨bX,e5,lY⟩:=ra aB base D0 false x.d;have jU:=uR.trans lY;have hd:=b7 fR lY;have hb:=b7 fH lY;simp only[ar,aA]at e5;cases oV:jz false x.d with
   |true=>
     rw[oV]at e5;refine⟨bX,?_,jU⟩;simp only[h8,simprocAttr,aA,fo,aG,fR,fH,jl,oV,e5]
   |false=>
     rw[oV]at e5;cases jr:s.f with
     |false=>
       cases jh:s.a with
       |false=>
         cases jt:s.b with
         |false=>
           refine⟨bX,?_,jU⟩;simp only[h8,simprocAttr,aA,fo,aG,fR,fH,jl,oV,e5,hb,jr,jh,jt]
         |true=>
           obtain⟨bU,fB,kx⟩:=ra aB base bX true x.b;have kE:=jU.trans kx;have mz:=b7 hd kx;have lW:=b7 hb kx;simp only[ar,aA]at fB;cases hI:jz true x.b with
           |true=>
             rw[hI]at fB;refine⟨bU,?_,kE⟩;simp only[h8,simprocAttr,aA,fo,aG,fR,fH,jl,oV,e5,hd,hb,jr,jh,jt,hI,fB]
           |false=>
             rw[hI]at fB;refine⟨bU,?_,kE⟩;simp only[h8,simprocAttr,aA,fo,aG,fR,fH,jl,oV,e5,hd,hb,jr,jh,jt,hI,fB]
       |true=>
         obtain⟨bU,fB,kx⟩:=ra aB base bX true x.a;have kE:=jU.trans kx;have mz:=b7 hd kx;have lW:=b7 hb kx;simp only[ar,aA]at fB;cases kC:jz true x.a with
         |true=>
           rw[kC]at fB;refine⟨bU,?_,kE⟩;simp only[h8,simprocAttr,aA,fo,aG,fR,fH,jl,oV,e5,hd,hb,jr,jh,kC,fB]
         |false=>
           rw[kC]at fB;cases jt:s.b with
           |false=>
             refine⟨bU,?_,kE⟩;simp only[h8,simprocAttr,aA,fo,aG,fR,fH,jl,oV,e5,hd,hb,jr,jh,kC,fB,lW,jt]
           |true=>
             obtain⟨dq,la,rq⟩:=ra aB base bU true x.b;have uC:=kE.trans rq;have Ha:=b7 mz rq;have ER:=b7 lW rq;simp only[ar,aA]at la;cases hI:jz true x.b with
             |true=>
               rw[hI]at la;refine⟨dq,?_,uC⟩;simp only[h8,simprocAttr,aA,fo,aG,fR,fH,jl,oV,e5,hd,hb,jr,jh,kC,fB,mz,lW,jt,hI,la]
             |false=>
               rw[hI]at la;refine⟨dq,?_,uC⟩;simp only[h8,simprocAttr,aA,fo,aG,fR,fH,jl,oV,e5,hd,hb,jr,jh,kC,fB,mz,lW,jt,hI,la]
     |true=>
       obtain⟨bU,fB,kx⟩:=ra aB base bX false x.f;have kE:=jU.trans kx;have mz:=b7 hd kx;have lW:=b7 hb kx;simp only[ar,aA]at fB;cases ng:jz false x.f with
       |true=>
         rw[ng]at fB;refine⟨bU,?_,kE⟩;simp only[h8,simprocAttr,aA,fo,aG,fR,fH,jl,oV,e5,hd,hb,jr,ng,fB]
       |false=>
         rw[ng]at fB;cases jh:s.a with
         |false=>
           cases jt:s.b with
           |false=>
             refine⟨bU,?_,kE⟩;simp only[h8,simprocAttr,aA,fo,aG,fR,fH,jl,oV,e5,hd,hb,jr,ng,fB,lW,jh,jt]
           |true=>
             obtain⟨dq,la,rq⟩:=ra aB base bU true x.b;have uC:=kE.trans rq;have Ha:=b7 mz rq;have ER:=b7 lW rq;simp only[ar,aA]at la;cases hI:jz true x.b with
             |true=>
               rw[hI]at la;refine⟨dq,?_,uC⟩;simp only[h8,simprocAttr,aA,fo,aG,fR,fH,jl,oV,e5,hd,hb,jr,ng,fB,mz,lW,jh,jt,hI,la]
             |false=>
               rw[hI]at la;refine⟨dq,?_,uC⟩;simp only[h8,simprocAttr,aA,fo,aG,fR,fH,jl,oV,e5,hd,hb,jr,ng,fB,mz,lW,jh,jt,hI,la]
         |true=>
           obtain⟨dq,la,rq⟩:=ra aB base bU true x.a;have uC:=kE.trans rq;have Ha:=b7 mz rq;have ER:=b7 lW rq;simp only[ar,aA]at la;cases kC:jz true x.a with
           |true=>
             rw[kC]at la;refine⟨dq,?_,uC⟩;simp only[h8,simprocAttr,aA,fo,aG,fR,fH,jl,oV,e5,hd,hb,jr,ng,fB,mz,lW,jh,kC,la]
           |false=>
             rw[kC]at la;cases jt:s.b with
             |false=>
               refine⟨dq,?_,uC⟩;simp only[h8,simprocAttr,aA,fo,aG,fR,fH,jl,oV,e5,hd,hb,jr,ng,fB,mz,lW,jh,kC,la,ER,jt]
             |true=>
               obtain⟨wm,Ln,UN⟩:=ra aB base dq true x.b;have ahM:=uC.trans UN;have aXk:=b7 Ha UN;have aXV:=b7 ER UN;simp only[ar,aA]at Ln;cases hI:jz true x.b with
               |true=>
                 rw[hI]at Ln;refine⟨wm,?_,ahM⟩;simp only[h8,simprocAttr,aA,fo,aG,fR,fH,jl,oV,e5,hd,hb,jr,ng,fB,mz,lW,jh,kC,la,Ha,ER,jt,hI,Ln]
               |false=>
                 rw[hI]at Ln;refine⟨wm,?_,ahM⟩;simp only[h8,simprocAttr,aA,fo,aG,fR,fH,jl,oV,e5,hd,hb,jr,ng,fB,mz,lW,jh,kC,la,Ha,ER,jt,hI,Ln]
end
structure DW (ag:Nat->Option cz):Prop where
 zy:ag Fx=some (.code AB)
 idx:ag Ps=some (.code vT)
def Ak(l:List ByteArray):Bool:=l.any fun y=>(⟨#[]⟩:ByteArray).data.toList==y.data.toList
def qf(v:Bool)(s:e6)(x:bI):Bool:=(v||(s.xs&&(x.xs.any (jz true)||Ak x.xs)))||(s.ls&&(x.ls.any (jz false)||Ak x.ls))
section
variable {ag:Nat->Option cz}
theorem UF(fr:List V)(H:ad)(os:List (Nat × E))(kill:List Nat):HV fr H os kill false=none:=rfl
theorem aaa(H:ad)(o:Option cy):KC H none o=o:=rfl
theorem aBg(call:c5)(it:hE)(base:Nat)(b:List bx)(kill:List Nat)(H:ad)(o:Option cy):HP call it base b kill H none o=o:=rfl
theorem WQ(b r:Bool):yw (some bF) b r=false:=rfl
def aCL(base:Nat)(H:ad){v0 v2 v4 v6 rz v9 v10 iX s6 tc v35 v36 v37 td v51 sS:V}:vA (aR ag) aN base Oc [9,10,102,103,104,105,106,107,108,109,110,111,112,113,114,115,116,117,118,119,120,121,122,123,124,125,126,127,128,129,130] (ax 140 [(0,v0),(2,v2),(4,v4),(6,v6),(8,rz),(9,v9),(10,v10),(16,iX),(17,s6),(18,tc),(35,v35),(36,v36),(37,v37),(50,td),(51,v51),(52,sS),(103,V.s (Value.bool true)),(106,bF),(110,bF),(113,bF)]) H=some (.bR,ax 140 [(0,v0),(2,v2),(4,v4),(6,v6),(8,rz),(11,V.s (Value.bool true)),(16,iX),(17,s6),(18,tc),(35,v35),(36,v36),(37,v37),(50,td),(51,v51),(52,sS)],H):=by
 simp only[vA,simprocAttr,Oc,Vq,WX,Wu,Tw,Qs,Sn,Vu,U5,Tv,U4,H5,asi,aUE,aID,aAy,aCu,aQF,aSR,aRV,aUN,ayT,aIQ,du,dB,aG,Oi,Yj,Rj,XO,Re,Rz,Xp,Xk,VO,KN,QW,T5,WR,U3,Qq]
def Z8(base:Nat)(H:ad){v0 v2 v4 v6 rz iX s6 tc v35 v36 v37 td v51 sS:V}:vA (aR ag) aN base H5 [9,10,102,103,104,105,106,107,108,109,110,111,112,113,114,115,116,117,118,119,120,121,122,123,124,125,126,127,128,129,130] (ax 140 [(0,v0),(2,v2),(4,v4),(6,v6),(8,rz),(16,iX),(17,s6),(18,tc),(35,v35),(36,v36),(37,v37),(50,td),(51,v51),(52,sS),(117,V.s (Value.bool true)),(120,bF),(124,bF),(127,bF)]) H=some (.bR,ax 140 [(0,v0),(2,v2),(4,v4),(6,v6),(8,rz),(11,V.s (Value.bool true)),(16,iX),(17,s6),(18,tc),(35,v35),(36,v36),(37,v37),(50,td),(51,v51),(52,sS)],H):=by
 simp only[vA,simprocAttr,H5,du,dB,aG,Oi,Yj,Rj,XO,Re,Rz,Xp,Xk,VO,KN,QW,T5,WR,U3,Qq]
set_option maxHeartbeats 8000000 in
def aLS(aB:zu ag)(eo:DW ag)(base:Nat){D0:ad}(ah:base<=D0.length){p q:Nat}{x:bI}{a' lv:V}{s:e6}{v:Bool}(fR:au D0 p 0=some (bg x a' lv))(fH:au D0 q 0=some s.c)(jL:Rd D0 a' (x.xs.map aA))(IU:mq a')(qR:Rd D0 lv (x.ls.map aA))(PJ:mq lv)(ajP:x.xs.length<2^20)(Hq:x.ls.length<2^20){v0 v2 v4 v6 rz iX s6 tc v35 v36 v37 td v51 sS:V}:
 ∃jJ,aL (aR ag) aN base (.region Xh [] [9,10,102,103,104,105,106,107,108,109,110,111,112,113,114,115,116,117,118,119,120,121,122,123,124,125,126,127,128,129,130]) (ax 140 [(0,v0),(2,v2),(4,v4),(6,v6),(8,rz),(9,.ref p 0 0),(10,.ref q 0 0),(11,ar v),(16,iX),(17,s6),(18,tc),(35,v35),(36,v36),(37,v37),(50,td),(51,v51),(52,sS)]) D0=some (.bR,ax 140 [(0,v0),(2,v2),(4,v4),(6,v6),(8,rz),(11,ar (qf v s x)),(16,iX),(17,s6),(18,tc),(35,v35),(36,v36),(37,v37),(50,td),(51,v51),(52,sS)],jJ)/\Ext D0 jJ:=by
 have uR:Ext D0 D0:=Ext.refl _;simp only[bg,e6.c]at fR fH;cases v with
 |true=>
   refine⟨D0,?_,uR⟩;simp only[qf,simprocAttr,fo,aG,aCL,WQ,UF,aBg]
 |false=>
   cases yz:s.xs with
   |false=>
     cases z1:s.ls with
     |false=>
       refine⟨D0,?_,uR⟩;simp only[qf,simprocAttr,fo,aG,fH,yz,z1]
     |true=>
       obtain⟨bX,e5,lY⟩:=O' aB.vk aB.LC aB.bad aB.zy aB.idx base D0 false (qR.ext uR) PJ (l:=x.ls) (by omega)
       have jU:=uR.trans lY;have hd:=b7 fR lY;have hb:=b7 fH lY
       have W3:=Qu eo.zy eo.idx base bX (⟨#[]⟩:ByteArray) (qR.ext jU) PJ (l:=x.ls) (by omega)
       have uL:aR ag (.fn Fx [] []) [lv,.s (.string ⟨#[]⟩)] base bX=some (.s (.bool (Ak x.ls)),bX):=W3;cases vx:x.ls.any (jz false)with
       |true=>
         rw[vx]at e5;refine⟨bX,?_,jU⟩;simp only[qf,simprocAttr,aA,fo,aG,fR,fH,yz,z1,vx,e5]
       |false=>
         rw[vx]at e5;cases Ab:Ak x.ls with
         |true=>
           rw[Ab]at uL;refine⟨bX,?_,jU⟩;simp only[qf,simprocAttr,aA,fo,aG,fR,fH,yz,z1,vx,e5,hd,Ab,uL]
         |false=>
           rw[Ab]at uL;refine⟨bX,?_,jU⟩;simp only[qf,simprocAttr,aA,fo,aG,fR,fH,yz,z1,vx,e5,hd,Ab,uL]
   |true=>
     obtain⟨bX,e5,lY⟩:=O' aB.vk aB.LC aB.bad aB.zy aB.idx base D0 true (jL.ext uR) IU (l:=x.xs) (by omega)
     have jU:=uR.trans lY;have hd:=b7 fR lY;have hb:=b7 fH lY
     have W3:=Qu eo.zy eo.idx base bX (⟨#[]⟩:ByteArray) (jL.ext jU) IU (l:=x.xs) (by omega)
     have uL:aR ag (.fn Fx [] []) [a',.s (.string ⟨#[]⟩)] base bX=some (.s (.bool (Ak x.xs)),bX):=W3;cases BV:x.xs.any (jz true)with
     |true=>
       rw[BV]at e5;refine⟨bX,?_,jU⟩;simp only[qf,simprocAttr,aA,fo,aG,Z8,WQ,UF,aaa,fR,fH,yz,BV,e5]
     |false=>
       rw[BV]at e5;cases CM:Ak x.xs with
       |true=>
         rw[CM]at uL;refine⟨bX,?_,jU⟩;simp only[qf,simprocAttr,aA,fo,aG,Z8,WQ,UF,aaa,fR,fH,yz,BV,e5,hd,CM,uL]
       |false=>
         rw[CM]at uL;cases z1:s.ls with
         |false=>
           refine⟨bX,?_,jU⟩;simp only[qf,simprocAttr,aA,fo,aG,fR,fH,yz,BV,e5,hd,hb,CM,uL,z1]
         |true=>
           obtain⟨bU,fB,kx⟩:=O' aB.vk aB.LC aB.bad aB.zy aB.idx base bX false (qR.ext jU) PJ (l:=x.ls) (by omega)
           have kE:=jU.trans kx;have mz:=b7 hd kx;have lW:=b7 hb kx
           have aPi:=Qu eo.zy eo.idx base bU (⟨#[]⟩:ByteArray) (qR.ext kE) PJ (l:=x.ls) (by omega)
           have Pt:aR ag (.fn Fx [] []) [lv,.s (.string ⟨#[]⟩)] base bU=some (.s (.bool (Ak x.ls)),bU):=aPi;cases vx:x.ls.any (jz false)with
           |true=>
             rw[vx]at fB;refine⟨bU,?_,kE⟩;simp only[qf,simprocAttr,aA,fo,aG,fR,fH,yz,BV,e5,hd,hb,CM,uL,z1,vx,fB]
           |false=>
             rw[vx]at fB;cases Ab:Ak x.ls with
             |true=>
               rw[Ab]at Pt;refine⟨bU,?_,kE⟩;simp only[qf,simprocAttr,aA,fo,aG,fR,fH,yz,BV,e5,hd,hb,CM,uL,z1,vx,fB,mz,Ab,Pt]
             |false=>
               rw[Ab]at Pt;refine⟨bU,?_,kE⟩;simp only[qf,simprocAttr,aA,fo,aG,fR,fH,yz,BV,e5,hd,hb,CM,uL,z1,vx,fB,mz,Ab,Pt]
end
def KV(i b:Nat)(k:Nat)(x:bI):Option tS:=if qf (h8 (e7 x.op) x) (e7 x.op) x=true then some (i,b,k)else none
def JX(i:Nat)(b:Nat)(ar:ey):Option tS:=if(!pZ ar.label)=true then some (i,b,0)else j1 (KV i b) ar.code 0
def C8(i:Nat)(f:cT):Option tS:=if(!pZ f.name||f.ps.any fun s=>!pZ s)=true then some (i,0,0)else j1 (JX i) f.blocks 0
section
variable {ag:Nat->Option cz}
def aQA(aB:zu ag)(eo:DW ag)(base:Nat){A b4:ad}{w sm:Nat}{J6:V}{Kk:List cT}(ab:qm A w sm J6 Kk)(J:Ext A b4)(ah:base<=A.length)(a8:au b4 A.length 0=some [U 0,U 0,U 0]){iX v35 bA:V}{i b:Nat}{oO oM n36 n37:Int}{l:List bI}(av:fb 8 fc A bA l)(aJ:l.length<2^20)(jL:∀x∈l,x.xs.length<2^20)(qR:∀x∈l,x.ls.length<2^20){L:Nat}(cU:b4.length<=L)(er:A.length<b4.length):
 ∀C,Ext b4 C->(j1 (KV i b) l 0=none/\∃a7,aN (aL (aR ag) aN base Ld) [] L (ax 140 [(0,.ref w 0 0),(2,.ref A.length 0 0),(4,U i),(6,U b),(16,iX),(17,U oO),(18,U oM),(35,v35),(36,U n36),(37,U n37),(50,bA),(51,U l.length),(52,U 0)]) C=some (.ext 4,ax 140 [(0,.ref w 0 0),(2,.ref A.length 0 0),(4,U i),(6,U b),(16,iX),(17,U oO),(18,U oM),(35,v35),(36,U n36),(37,U n37),(50,bA),(51,U l.length),(52,U l.length),(53,ar false)],a7)/\Ext b4 a7)\/∃t,j1 (KV i b) l 0=some t/\Found A 140 A.length t (aN (aL (aR ag) aN base Ld) [] L (ax 140 [(0,.ref w 0 0),(2,.ref A.length 0 0),(4,U i),(6,U b),(16,iX),(17,U oO),(18,U oM),(35,v35),(36,U n36),(37,U n37),(50,bA),(51,U l.length),(52,U 0)]) C):=by
 intro dU lM
 rcases E0 l fE (KV i b) (fun _ C=>Ext b4 C) (fun k C=>aN (aL (aR ag) aN base Ld) [] L (ax 140 [(0,.ref w 0 0),(2,.ref A.length 0 0),(4,U i),(6,U b),(16,iX),(17,U oO),(18,U oM),(35,v35),(36,U n36),(37,U n37),(50,bA),(51,U l.length),(52,U k)]) C) (Found A 140 A.length) (by
  intro k C an bp
  have eb:((k:Int)<(l.length:Int)):=by omega
  have jf:=jB (n:=k) (by omega)
  have nO:=bp.le;have hv:=q6 an fE;obtain⟨x,kt⟩:∃x,l.getD k fE=x:=⟨_,rfl⟩;rw[kt]at hv |-;have iv:=ib hv;obtain⟨a,r,bw,ak,a2,_⟩:=av.l4 hv;have ho:=J.trans bp;have gl:=a2 C ho
  have gr:base<=C.length:=by omega
  have cg:∀c,au (C++[aM.cells 0 c]) C.length 0=some c:=fun c=>cQ C 0 c;have dE:∀c d,(C++[c]).set C.length d=C++[d]:=fun c d=>iI C c d;have l9:∀c,Ext C (C++[aM.cells 0 c]):=fun c=>Ext.app _ _;have g2:∀D,Ext b4 D->au D A.length 0=some [U 0,U 0,U 0]:=fun D h=>b7 a8 h;obtain⟨a',lv,rfl,bj,aT,a1,cB,_⟩:=ak;have ft:=bj.one;have fq:=a1.one;obtain⟨bG,ha⟩:∃bG,C++[aM.cells 0 (bg x a' lv)]=bG:=⟨_,rfl⟩;have aE:Ext C bG:=ha▸l9 _
  have dr:bG.length=C.length+1:=by rw[<- ha,dh]
  have HQ:fa bG false 1 (.ref w 0 1)=some (.mp sm):=by rw[h1,b7 ab.NF (ho.trans aE)];rfl
  have nP:=N2 .u8 (Ext.at' (ho.trans aE) ab.VQ) (.agg (e6.c ⟨false,false,false,false,false,false,false⟩)) false x.op;rw[bV GQ,ar6]at nP;have C4:au bG C.length 0=some (bg x a' lv):=ha▸cg _;obtain⟨cx,gb⟩:∃cx,bG++[aM.cells 0 (e7 x.op).c]=cx:=⟨_,rfl⟩;have aU:Ext bG cx:=gb▸Ext.app _ _
  have gS:cx.length=C.length+2:=by rw[<- gb,dh,dr]
  have Bg:∀c d,(bG++[c]).set bG.length d=bG++[d]:=fun c d=>iI bG c d;have EM:∀c,au (bG++[aM.cells 0 c]) bG.length 0=some c:=fun c=>cQ bG 0 c;rw[dr]at Bg EM
  have eg:base<=C.length+1:=by omega
  have oz:=b7 C4 aU
  have j8:au cx (C.length+1) 0=some (e7 x.op).c:=by rw[<- gb];exact EM _
  obtain⟨bX,GU,d1⟩:=aJJ aB base (D0:=cx) (by omega) (p:=C.length) (q:=C.length+1) (x:=x) (a':=a') (lv:=lv) (s:=e7 x.op) oz j8 (v0:=.ref w 0 0) (v2:=.ref A.length 0 0) (v4:=U i) (v6:=U b) (rz:=U k) (iX:=iX) (s6:=U oO) (tc:=U oM) (v35:=v35) (v36:=U n36) (v37:=U n37) (td:=bA) (v51:=U l.length) (sS:=U k)
  have U8:=ho.trans (aE.trans (aU.trans d1))
  obtain⟨bU,Ce,d2⟩:=aLS aB eo base (D0:=bX) (by have:=U8.le;omega) (p:=C.length) (q:=C.length+1) (x:=x) (a':=a') (lv:=lv) (s:=e7 x.op) (v:=h8 (e7 x.op) x) (b7 oz d1) (b7 j8 d1) (bj.ext U8) aT (a1.ext U8) cB (jL x iv) (qR x iv) (v0:=.ref w 0 0) (v2:=.ref A.length 0 0) (v4:=U i) (v6:=U b) (rz:=U k) (iX:=iX) (s6:=U oO) (tc:=U oM) (v35:=v35) (v36:=U n36) (v37:=U n37) (td:=bA) (v51:=U l.length) (sS:=U k)
  have OF:Ext b4 bU:=bp.trans (aE.trans (aU.trans (d1.trans d2)));unfold KV;have v7:=g2 bU OF;simp only[bg]at gl ha C4;simp only[U,ar,e6.c]at nP gb GU Ce v7;cases bJ:qf (h8 (e7 x.op) x) (e7 x.op) x with
  |false=>
    rw[bJ]at Ce
    refine .inl ⟨bV GQ,trim L (ax 140 [(0,.ref w 0 0),(2,.ref A.length 0 0),(4,U i),(6,U b),(16,iX),(17,U oO),(18,U oM),(35,v35),(36,U n36),(37,U n37),(50,bA),(51,U l.length),(52,U (k+1:Nat))]) bU,?_,OF.trim (by omega) _⟩
    rw[dt];simp only[U,simprocAttr,UP,TI,X7,Vm,QL,TF,Q8,U6,Yq,Xv,Wr,Su,Yw,S',UA,axc,Lm,Rh,aG,eb,bw,gl,gr,eg,cg,dE,Bg,EM,ft,fq,eG,ha,dr,HQ,nP,gb,C4,GU,Ce,jf]
  |true=>
    rw[bJ]at Ce;refine .inr ⟨(i,b,k),bE rfl,trim L (ax 140 [(2,.ref A.length 0 0),(3,ar true)]) (bU.set A.length (.cells 0 [U i,U b,U k])),?_,?_,?_⟩
    .rw[dt];simp only[U,simprocAttr,ar,UP,TI,X7,Vm,QL,TF,Q8,U6,Yq,Xv,Wr,Su,Yw,S',UA,anW,aju,Lm,Rh,aG,eb,bw,gl,gr,eg,cg,dE,Bg,EM,ft,fq,eG,ha,dr,HQ,nP,gb,C4,GU,Ce,v7,ah]
    .exact((J.trans OF).set (cq _) _).trim (by omega) _
    .exact xB (fJ (g2 _ OF)) (by omega)) dU lM with⟨aE,C,aU,cd⟩|e
 .refine .inl ⟨aE,trim L (ax 140 [(0,.ref w 0 0),(2,.ref A.length 0 0),(4,U i),(6,U b),(16,iX),(17,U oO),(18,U oM),(35,v35),(36,U n36),(37,U n37),(50,bA),(51,U l.length),(52,U l.length),(53,ar false)]) C,?_,cd.trim (by omega) _⟩
  rw[j0]at aU;refine aU.trans ?_;rw[dt];simp only[U,simprocAttr,ar,fo,aG,nH]
 .rw[j0]at e;exact .inr e
def aKI(aB:zu ag)(eo:DW ag)(base:Nat){A b4:ad}{w sm:Nat}{J6:V}{Kk:List cT}(ab:qm A w sm J6 Kk)(J:Ext A b4)(ah:base<=A.length)(a8:au b4 A.length 0=some [U 0,U 0,U 0]){iX bv:V}{i:Nat}{oO oM:Int}{l:List ey}(av:fb 2 lx A bv l)(aJ:l.length<2^20)(ht:∀b∈l,b.code.length<2^20)(jL:∀b∈l,∀x∈b.code,x.xs.length<2^20)(qR:∀b∈l,∀x∈b.code,x.ls.length<2^20){L:Nat}(cU:b4.length<=L)(er:A.length<b4.length):
 ∀C,Ext b4 C->(j1 (JX i) l 0=none/\∃a7,aN (aL (aR ag) aN base IV) [] L (ax 140 [(0,.ref w 0 0),(2,.ref A.length 0 0),(4,U i),(16,iX),(17,U oO),(18,U oM),(35,bv),(36,U l.length),(37,U 0)]) C=some (.ext 2,ax 140 [(0,.ref w 0 0),(2,.ref A.length 0 0),(4,U i),(16,iX),(17,U oO),(18,U oM),(35,bv),(36,U l.length),(37,U l.length),(38,ar false)],a7)/\Ext b4 a7)\/∃t,j1 (JX i) l 0=some t/\Found A 140 A.length t (aN (aL (aR ag) aN base IV) [] L (ax 140 [(0,.ref w 0 0),(2,.ref A.length 0 0),(4,U i),(16,iX),(17,U oO),(18,U oM),(35,bv),(36,U l.length),(37,U 0)]) C):=by
 intro dU lM
 rcases E0 l zj (JX i) (fun _ C=>Ext b4 C) (fun k C=>aN (aL (aR ag) aN base IV) [] L (ax 140 [(0,.ref w 0 0),(2,.ref A.length 0 0),(4,U i),(16,iX),(17,U oO),(18,U oM),(35,bv),(36,U l.length),(37,U k)]) C) (Found A 140 A.length) (by
  intro k C an bp
  have eb:((k:Int)<(l.length:Int)):=by omega
  have jf:=jB (n:=k) (by omega)
  have nO:=bp.le;have hv:=q6 an zj;obtain⟨x,kt⟩:∃x,l.getD k zj=x:=⟨_,rfl⟩;rw[kt]at hv |-;have iv:=ib hv;obtain⟨a,r,bw,ak,a2,_⟩:=av.l4 hv;have ho:=J.trans bp;have gl:=a2 C ho
  have gr:base<=C.length:=by omega
  have cg:∀c,au (C++[aM.cells 0 c]) C.length 0=some c:=fun c=>cQ C 0 c;have dE:∀c d,(C++[c]).set C.length d=C++[d]:=fun c d=>iI C c d;have l9:∀c,Ext C (C++[aM.cells 0 c]):=fun c=>Ext.app _ _;have g2:∀D,Ext b4 D->au D A.length 0=some [U 0,U 0,U 0]:=fun D h=>b7 a8 h;obtain⟨bA,rfl,fm⟩:=ak;have fk:=(wg fm (ho.trans (l9 [aA x.label,bA]))).len;have ko:=fm.one
  have gS:(C++[aM.cells 0 [aA x.label,bA]]).length=C.length+1:=by simp
  have nD:=fun D=>Bl ag aB.vk x.label base D;unfold JX;cases bJ:pZ x.label with
  |false=>
    rw[bJ]at nD;refine .inr ⟨(i,k,0),bE rfl,trim L (ax 140 [(2,.ref A.length 0 0),(3,ar true)]) ((C++[aM.cells 0 [aA x.label,bA]]).set A.length (.cells 0 [U i,U k,U 0])),?_,?_,?_⟩
    .have v7:=g2 (C++[aM.cells 0 [aA x.label,bA]]) (bp.trans (l9 _));rw[dt];simp only[U,ar]at v7 nD;simp only[U,simprocAttr,ar,fo,aG,eb,bw,gl,gr,cg,dE,ko,eG,nD,v7,ah]
    .exact((ho.trans (l9 _)).set (cq _) _).trim (by omega) _
    .exact xB (fJ (g2 _ (bp.trans (l9 _)))) (by omega)
  |true=>
    rw[bJ]at nD;simp only[ar]at nD
    rw[bV (show ¬(!true)=true by decide)]
    have pL:=aQA (ag:=ag) aB eo base ab J ah a8 (iX:=iX) (v35:=bv) (i:=i) (b:=k) (oO:=oO) (oM:=oM) (n36:=l.length) (n37:=k) fm (ht x iv) (jL x iv) (qR x iv) (L:=(C++[aM.cells 0 [aA x.label,bA]]).length) (by rw[dh];omega) er (C++[aM.cells 0 [aA x.label,bA]]) (bp.trans (l9 _))
    rw[gS]at pL
    rcases pL with⟨eO,cx,z2,z3⟩|⟨t,eO,D,z2,z3,z4⟩
    .refine .inl ⟨eO,trim L (ax 140 [(0,.ref w 0 0),(2,.ref A.length 0 0),(4,U i),(16,iX),(17,U oO),(18,U oM),(35,bv),(36,U l.length),(37,U (k+1:Nat))]) cx,?_,z3.trim (by omega) _⟩
     rw[dt];simp only[U,ar]at z2;simp only[U,simprocAttr,fo,aG,eb,bw,gl,gr,cg,dE,ko,eG,fk,nD,gS,z2,jf]
    .refine .inr ⟨t,eO,trim L (ax 140 [(2,.ref A.length 0 0),(3,ar true)]) D,?_,z3.trim (by omega) _,xB z4 (by omega)⟩
     rw[dt];simp only[U,ar]at z2
     simp only[U,simprocAttr,ar,fo,aG,eb,bw,gl,gr,cg,dE,ko,eG,fk,nD,gS,z2]) dU lM with⟨aE,C,aU,cd⟩|e
 .refine .inl ⟨aE,trim L (ax 140 [(0,.ref w 0 0),(2,.ref A.length 0 0),(4,U i),(16,iX),(17,U oO),(18,U oM),(35,bv),(36,U l.length),(37,U l.length),(38,ar false)]) C,?_,cd.trim (by omega) _⟩
  rw[j0]at aU;refine aU.trans ?_;rw[dt];simp only[U,simprocAttr,ar,fo,aG,nH]
 .rw[j0]at e;exact .inr e
def aDC(aB:zu ag)(eo:DW ag)(base:Nat){A b4:ad}{w sm:Nat}{J6:V}{Kk:List cT}(ab:qm A w sm J6 Kk)(J:Ext A b4)(ah:base<=A.length)(a8:au b4 A.length 0=some [U 0,U 0,U 0]){cr:V}{l:List cT}(av:fb 3 p6 A cr l)(aJ:l.length<2^20)(qn:ag Gl=some (.code vS))(zc:∀f∈l,f.ps.length<2^20)(oL:∀f∈l,f.blocks.length<2^20)(ht:∀f∈l,∀b∈f.blocks,b.code.length<2^20)(jL:∀f∈l,∀b∈f.blocks,∀x∈b.code,x.xs.length<2^20)(qR:∀f∈l,∀b∈f.blocks,∀x∈b.code,x.ls.length<2^20){L:Nat}(cU:b4.length<=L)(er:A.length<b4.length):
 ∀C,Ext b4 C->(j1 (C8) l 0=none/\∃a7,aN (aL (aR ag) aN base I') [] L (ax 140 [(0,.ref w 0 0),(2,.ref A.length 0 0),(16,cr),(17,U l.length),(18,U 0)]) C=some (.ext 0,ax 140 [(0,.ref w 0 0),(2,.ref A.length 0 0),(16,cr),(17,U l.length),(18,U l.length),(19,ar false)],a7)/\Ext b4 a7)\/∃t,j1 (C8) l 0=some t/\Found A 140 A.length t (aN (aL (aR ag) aN base I') [] L (ax 140 [(0,.ref w 0 0),(2,.ref A.length 0 0),(16,cr),(17,U l.length),(18,U 0)]) C):=by
 intro dU lM
 rcases E0 l u9 (C8) (fun _ C=>Ext b4 C) (fun k C=>aN (aL (aR ag) aN base I') [] L (ax 140 [(0,.ref w 0 0),(2,.ref A.length 0 0),(16,cr),(17,U l.length),(18,U k)]) C) (Found A 140 A.length) (by
  intro k C an bp
  have eb:((k:Int)<(l.length:Int)):=by omega
  have jf:=jB (n:=k) (by omega)
  have nO:=bp.le;have hv:=q6 an u9;obtain⟨x,kt⟩:∃x,l.getD k u9=x:=⟨_,rfl⟩;rw[kt]at hv |-;have iv:=ib hv;obtain⟨a,r,bw,ak,a2,_⟩:=av.l4 hv;have ho:=J.trans bp;have gl:=a2 C ho
  have gr:base<=C.length:=by omega
  have cg:∀c,au (C++[aM.cells 0 c]) C.length 0=some c:=fun c=>cQ C 0 c;have dE:∀c d,(C++[c]).set C.length d=C++[d]:=fun c d=>iI C c d;have l9:∀c,Ext C (C++[aM.cells 0 c]):=fun c=>Ext.app _ _;have g2:∀D,Ext b4 D->au D A.length 0=some [U 0,U 0,U 0]:=fun D h=>b7 a8 h;obtain⟨pv,bv,rfl,cn,dP,gn,qG⟩:=ak;have qT:=cn.one;have jc:=qG.one
  have gS:(C++[aM.cells 0 [aA x.name,pv,bv]]).length=C.length+1:=by simp
  have nD:=fun D=>Bl ag aB.vk x.name base D;unfold C8;cases bJ:pZ x.name with
  |false=>
    rw[bJ]at nD;refine .inr ⟨(k,0,0),bE rfl,trim L (ax 140 [(2,.ref A.length 0 0),(3,ar true)]) ((C++[aM.cells 0 [aA x.name,pv,bv]]).set A.length (.cells 0 [U k,U 0,U 0])),?_,?_,?_⟩
    .have v7:=g2 (C++[aM.cells 0 [aA x.name,pv,bv]]) (bp.trans (l9 _));rw[dt];simp only[U,ar]at v7 nD;simp only[U,simprocAttr,ar,fo,aG,eb,bw,gl,gr,cg,dE,qT,jc,eG,nD,v7,ah]
    .exact((ho.trans (l9 _)).set (cq _) _).trim (by omega) _
    .exact xB (fJ (g2 _ (bp.trans (l9 _)))) (by omega)
  |true=>
    rw[bJ]at nD
    obtain⟨gI,En,cd⟩:=YO aB.zy aB.idx base (C++[aM.cells 0 [aA x.name,pv,bv]]) (f:=.fn Gl [] []) (p:=fun s=>!pZ s) (cn.ext (ho.trans (l9 _))) dP (fun s _ D _=>⟨D,aWe aB.vk qn base D s,Ext.refl D⟩) (by have:=zc x iv;omega)
    have at4:=cd.le;rw[gS]at at4;have MF:=b7 (cg [aA x.name,pv,bv]) cd;have xV:=bp.trans ((l9 _).trans cd);cases au0:x.ps.any (fun s=>!pZ s)with
    |true=>
      rw[au0]at En;refine .inr ⟨(k,0,0),bE rfl,trim L (ax 140 [(2,.ref A.length 0 0),(3,ar true)]) (gI.set A.length (.cells 0 [U k,U 0,U 0])),?_,?_,?_⟩
      .have v7:=g2 gI xV;rw[dt];simp only[U,ar]at v7 nD En;simp only[U,simprocAttr,ar,fo,aG,eb,bw,gl,gr,cg,dE,qT,jc,eG,nD,En,v7,ah]
      .exact((J.trans xV).set (cq _) _).trim (by omega) _
      .exact xB (fJ (g2 _ xV)) (by omega)
    |false=>
      rw[au0]at En
      rw[bV (show ¬(!true||false)=true by decide)]
      have eZ:=(vQ qG (J.trans xV)).len
      have pL:=aKI (ag:=ag) aB eo base ab J ah a8 (iX:=cr) (i:=k) (oO:=l.length) (oM:=k) qG (oL x iv) (ht x iv) (jL x iv) (qR x iv) (L:=gI.length) (by have:=xV.le;omega) er gI xV
      simp only[ar]at nD En
      rcases pL with⟨eO,cx,z2,z3⟩|⟨t,eO,D,z2,z3,z4⟩
      .refine .inl ⟨eO,trim L (ax 140 [(0,.ref w 0 0),(2,.ref A.length 0 0),(16,cr),(17,U l.length),(18,U (k+1:Nat))]) cx,?_,z3.trim (by omega) _⟩
       rw[dt];simp only[U,ar]at z2;simp only[U,simprocAttr,fo,aG,eb,bw,gl,gr,cg,dE,qT,jc,eG,nD,En,MF,eZ,z2,jf]
      .refine .inr ⟨t,eO,trim L (ax 140 [(2,.ref A.length 0 0),(3,ar true)]) D,?_,z3.trim (by omega) _,xB z4 (by omega)⟩
       rw[dt];simp only[U,ar]at z2
       simp only[U,simprocAttr,ar,fo,aG,eb,bw,gl,gr,cg,dE,qT,jc,eG,nD,En,MF,eZ,z2]) dU lM with⟨aE,C,aU,cd⟩|e
 .refine .inl ⟨aE,trim L (ax 140 [(0,.ref w 0 0),(2,.ref A.length 0 0),(16,cr),(17,U l.length),(18,U l.length),(19,ar false)]) C,?_,cd.trim (by omega) _⟩
  rw[j0]at aU;refine aU.trans ?_;rw[dt];simp only[U,simprocAttr,ar,fo,aG,nH]
 .rw[j0]at e;exact .inr e
theorem aEj(aB:ag UM=some (.code u2))(qn:ag Gl=some (.code vS))(aD:zu ag)(eo:DW ag)(base:Nat){A:ad}(ah:base<=A.length){w sm:Nat}{cr:V}{fs:List cT}(ab:qm A w sm cr fs):
 ∃H',aR ag (.fn UM [] []) [.ref w 0 0] base A=some (sr (j1 C8 fs 0),H')/\Ext A H':=by
 have aE:Ext A (A++[aM.cells 0 [U 0,U 0,U 0]]):=Ext.app _ _;have dX:=ab.load aE;have aq:=(ab.rd.ext aE).len;have g1:au (A++[aM.cells 0 [U 0,U 0,U 0]]) A.length 0=some [U 0,U 0,U 0]:=cQ A 0 _
 have dr:(A++[aM.cells 0 [U 0,U 0,U 0]]).length=A.length+1:=by simp
 rcases aDC (ag:=ag) aD eo base ab aE ah g1 ab.rd ab.x5.n qn ab.x5.ps ab.x5.Jr ab.x5.Uk ab.x5.xs ab.x5.ls (L:=A.length+1) (by omega) (by omega) (A++[aM.cells 0 [U 0,U 0,U 0]]) (Ext.refl _)with⟨bj,C,aT,a1⟩|⟨⟨i,b,k⟩,bj,D,aT,a1,cB⟩
 .have g2:=b7 g1 a1;have g3:=fJ (c':=[U 0,U 0,U 0]) g2
  refine⟨C.set A.length (.cells 0 [U 0,U 0,U 0]),eF (c:=u2) (k:=1) aB rfl (by decide) akZ ?_,(aE.trans a1).set (cq _) _⟩
  rw[bj]
  have l3:iu (C.set A.length (.cells 0 [U 0,U 0,U 0])) true 3 (.ref A.length 0 0)=some (.agg [U 0,U 0,U 0]):=by
   show fa _ true 3 _=_;rw[h1,g3];rfl
  simp only[U,ar]at dX aq dr aT g2 l3;simp only[U,simprocAttr,u2,fo,aG,dX,aq,dr,aT,g2,ah];rw[l3];rfl
 .refine⟨D,eF (c:=u2) (k:=1) aB rfl (by decide) akZ ?_,a1⟩
  rw[bj]
  have l3:iu D true 3 (.ref A.length 0 0)=some (.agg [U i,U b,U k]):=by
   show fa _ true 3 _=_;rw[h1,cB];rfl
  simp only[U,ar]at dX aq dr aT l3;simp only[u2,simprocAttr,fo,aG,dX,aq,dr,aT];rw[l3];rfl
end
section
variable {ag:Nat->Option cz}
theorem aG1(iR:Hs ag)(B3:ag JL=some (.code vU))(TV:ag H7=some (.code uY))(aB:ag RO=some (.code uB))(base:Nat){A:ad}(ah:base<=A.length){w sm:Nat}{cr:V}{fs:List cT}(ab:qm A w sm cr fs):
 ∃H',aR ag (.fn RO [] []) [.ref w 0 0] base A=some (sr (y5 (fun _=>fun _ _ _ x=>wF x) fs),H')/\Ext A H':=by
 have aE:Ext A (A++[aM.cells 0 [.ref w 0 0]]):=Ext.app _ _;have aU:Ext (A++[aM.cells 0 [.ref w 0 0]]) (A++[aM.cells 0 [.ref w 0 0]]++[aM.cells 0 [U 0,U 0,U 0]]):=Ext.app _ _;have hw:au (A++[aM.cells 0 [.ref w 0 0]]++[aM.cells 0 [U 0,U 0,U 0]]) A.length 0=some [.ref w 0 0]:=b7 (cQ A 0 _) aU;have aq:=dh A (aM.cells 0 [.ref w 0 0])
 have eg:base<=A.length+1:=by omega
 have km:base<=(A++[aM.cells 0 [.ref w 0 0]]++[aM.cells 0 [U 0,U 0,U 0]]).length:=by rw[dh,dh];omega
 obtain⟨H1,J,aa⟩:=aDn iR base km (ab.ext (aE.trans aU)) (f:=.fn H7 [] [.ref A.length 0 0]) rfl (g:=fun _ _ _ x=>wF x) (fun i f1 hi b x af k z r bK ak D d'=>azX B3 TV base km (ab.ext (aE.trans aU)) hw ak D d')
 have g2:au H1 (A.length+1) 0=some [U 0,U 0,U 0]:=by
  have:=cQ (A++[aM.cells 0 [.ref w 0 0]]) 0 [U 0,U 0,U 0];rw[dh]at this;exact b7 this aa
 have IU:=u5 hw;cases aX:y5 (fun _=>fun _ _ _ x=>wF x) fs with
 |none=>
   rw[aX]at J;have g3:=fJ (c':=[U 0,U 0,U 0]) g2
   refine⟨H1.set (A.length+1) (.cells 0 [U 0,U 0,U 0]),eF (c:=uB) (k:=1) aB rfl (by decide) arX ?_,((aE.trans aU).trans aa).set (GA _) _⟩
   have l3:iu (H1.set (A.length+1) (.cells 0 [U 0,U 0,U 0])) true 3 (.ref (A.length+1) 0 0)=some (.agg [U 0,U 0,U 0]):=by
    show fa _ true 3 _=_;rw[h1,g3];rfl
   simp only[sr,U]at J g2 l3;simp only[U,simprocAttr,uB,axw,aG,zb,aq,IU,J,g2,eg];rw[l3];rfl
 |some t=>
   obtain⟨i,b,k⟩:=t;rw[aX]at J;have g3:=fJ (c':=[U i,U b,U k]) g2
   refine⟨H1.set (A.length+1) (.cells 0 [U i,U b,U k]),eF (c:=uB) (k:=1) aB rfl (by decide) arX ?_,((aE.trans aU).trans aa).set (GA _) _⟩
   have l3:iu (H1.set (A.length+1) (.cells 0 [U i,U b,U k])) true 3 (.ref (A.length+1) 0 0)=some (.agg [U i,U b,U k]):=by
    show fa _ true 3 _=_;rw[h1,g3];rfl
   simp only[sr,U]at J g2 l3;simp only[U,simprocAttr,uB,axw,aG,zb,aq,IU,J,g2,eg];rw[l3];rfl
end
theorem ajN{b1:Nat->Option cz}{k:Nat}{a:V}{args:List V}{base:Nat}{H:ad}{r:V × ad}(h:aR b1 (.fn k [] []) (a::args) base H=some r):aR b1 (.fn k [a] []) args base H=some r:=by
 obtain⟨n,aJ⟩:=Co h;refine Un (n:=n) ?_;rw[<- aJ];cases n<;>rfl
structure Hz (ag:Nat->Option cz):Prop where
 F:Hs ag
 B:zu ag
 N:DW ag
 aBP:ag UM=some (.code u2)
 azL:ag RO=some (.code uB)
 aRn:ag H7=some (.code uY)
 aG7:ag Gl=some (.code vS)
 calls:ag JL=some (.code vU)
 aD2:ag TN=some (.code zQ)
def mY(fs:List cT):Nat->Option tS
 |2=>j1 C8 fs 0
 |9=>y5 (fun _=>fun _ _ _ x=>wF x) fs
 |_=>none
def h3(w:Nat):List (Int × V):=[(1,.fn 36 [.ref w 0 0] []),(2,.fn 37 [.ref w 0 0] []),(3,.fn 38 [.ref w 0 0] []),(4,.fn 39 [.ref w 0 0] []),(5,.fn 40 [.ref w 0 0] []),(6,.fn 41 [.ref w 0 0] []),(7,.fn 42 [.ref w 0 0] []),(8,.fn 43 [.ref w 0 0] []),(9,.fn 44 [.ref w 0 0] []),(10,.fn 45 [.ref w 0 0] []),(11,.fn 46 [.ref w 0 0] []),(12,.fn 47 [.ref w 0 0] []),(13,.fn 48 [.ref w 0 0] []),(14,.fn 49 [.ref w 0 0] []),(15,.fn 50 [.ref w 0 0] []),(16,.fn 51 [.ref w 0 0] [])]
section
variable {ag:Nat->Option cz}
def aK9(h:Hz ag)(base:Nat){A:ad}(ah:base<=A.length){w sm:Nat}{cr:V}{fs:List cT}(ab:qm A w sm cr fs){r:Nat}(ak:r=2\/r=9):
 ∃k H',sT (h3 w) r=some (.fn k [.ref w 0 0] [])/\aR ag (.fn k [.ref w 0 0] []) [] base A=some (sr (mY fs r),H')/\Ext A H':=by
 rcases ak with rfl|rfl
 .obtain⟨H',aE,aU⟩:=aEj h.aBP h.aG7 h.B h.N base ah ab;exact⟨_,H',rfl,ajN aE,aU⟩
 .obtain⟨H',aE,aU⟩:=aG1 h.F h.calls h.aRn h.azL base ah ab;exact⟨_,H',rfl,ajN aE,aU⟩
theorem ajk(h:Hz ag)(aB:ag Ju=some (.code rS))(base:Nat){A:ad}(ah:base<=A.length){cr:V}{fs:List cT}(ak:iF A cr fs)(ai:Small fs){r:Nat}(tz:r=2\/r=9):
 ∃H',aR ag (.fn Ju [] []) [.agg [cr],.s (.int .u8 r)] base A=some (sr (mY fs r),H')/\Ext A H':=by
 have n':=ak.one;obtain⟨b4,er⟩:∃b4,A++[aM.cells 0 [cr]]=b4:=⟨_,rfl⟩
 have cW:b4.length=A.length+1:=by rw[<- er,dh]
 obtain⟨dZ,ju⟩:∃dZ,b4++[aM.cells 0 [U 0,U 0,U 0]]=dZ:=⟨_,rfl⟩
 have fZ:dZ.length=A.length+2:=by rw[<- ju,dh,cW]
 obtain⟨mS,yj⟩:∃mS,dZ++[aM.map (kk .u8 hK)]=mS:=⟨_,rfl⟩
 have qM:mS.length=A.length+3:=by rw[<- yj,dh,fZ]
 obtain⟨q9,vl⟩:∃q9,mS++[aM.cells 0 [cr,.mp (A.length+2)]]=q9:=⟨_,rfl⟩
 have iM:q9.length=A.length+4:=by rw[<- vl,dh,qM]
 have aE:Ext A b4:=er▸Ext.app _ _;have aU:Ext b4 dZ:=ju▸Ext.app _ _;have cd:Ext dZ mS:=yj▸Ext.app _ _;have fG:Ext mS q9:=vl▸Ext.app _ _;obtain⟨w,hw⟩:∃w,A.length+3=w:=⟨_,rfl⟩;obtain⟨qb,xw⟩:∃qb,q9++[aM.map (kk .u8 (h3 w))]=qb:=⟨_,rfl⟩
 have T4:qb.length=A.length+5:=by rw[<- xw,dh,iM]
 have l6:Ext q9 qb:=xw▸Ext.app _ _;have dX:au b4 A.length 0=some [cr]:=er▸cQ A 0 _
 have fx:au dZ (A.length+1) 0=some [U 0,U 0,U 0]:=by rw[<- cW,<- ju];exact cQ b4 0 _
 have aXP:=u5 (b7 dX aU)
 have xk:fa dZ true 1 (.ref A.length 0 0)=some (.agg [cr]):=by rw[h1,b7 dX aU];rfl
 have gG:=aWH h.aD2 dZ.length dZ (cq _);rw[yj,fZ]at gG
 have ab:qm qb w (A.length+2) cr fs:=by
  refine⟨?_,ak.ext (aE.trans (aU.trans (cd.trans (fG.trans l6)))),ai,?_⟩
  .rw[<- hw,<- qM]
   exact b7 (by rw[<- vl];exact cQ mS 0 _) l6
  .refine Ext.at' (fG.trans l6) ?_;rw[<- yj,<- fZ];simp
 have aAx:qb[A.length+4]?=some (.map (kk .u8 (h3 w))):=by rw[<- xw,<- iM];simp
 have nP:=N2 .u8 aAx (.s .nilFunc) false (r:Int);rw[bV GQ]at nP
 have qD:base<=q9.length:=by omega
 have cX:(aM.map []:aM)=.map (kk .u8 []):=rfl
 have jY:=gH qD .u8 ((h3 w).take 0) 1 (.fn 36 [.ref w 0 0] []) (by rfl)
 have ks:=gH qD .u8 ((h3 w).take 1) 2 (.fn 37 [.ref w 0 0] []) (by rfl)
 have jW:=gH qD .u8 ((h3 w).take 2) 3 (.fn 38 [.ref w 0 0] []) (by rfl)
 have lT:=gH qD .u8 ((h3 w).take 3) 4 (.fn 39 [.ref w 0 0] []) (by rfl)
 have om:=gH qD .u8 ((h3 w).take 4) 5 (.fn 40 [.ref w 0 0] []) (by rfl)
 have p8:=gH qD .u8 ((h3 w).take 5) 6 (.fn 41 [.ref w 0 0] []) (by rfl)
 have um:=gH qD .u8 ((h3 w).take 6) 7 (.fn 42 [.ref w 0 0] []) (by rfl)
 have u8:=gH qD .u8 ((h3 w).take 7) 8 (.fn 43 [.ref w 0 0] []) (by rfl)
 have r8:=gH qD .u8 ((h3 w).take 8) 9 (.fn 44 [.ref w 0 0] []) (by rfl)
 have uz:=gH qD .u8 ((h3 w).take 9) 10 (.fn 45 [.ref w 0 0] []) (by rfl)
 have zV:=gH qD .u8 ((h3 w).take 10) 11 (.fn 46 [.ref w 0 0] []) (by rfl)
 have Aa:=gH qD .u8 ((h3 w).take 11) 12 (.fn 47 [.ref w 0 0] []) (by rfl)
 have yZ:=gH qD .u8 ((h3 w).take 12) 13 (.fn 48 [.ref w 0 0] []) (by rfl)
 have xN:=gH qD .u8 ((h3 w).take 13) 14 (.fn 49 [.ref w 0 0] []) (by rfl)
 have Wi:=gH qD .u8 ((h3 w).take 14) 15 (.fn 50 [.ref w 0 0] []) (by rfl)
 have u16:=gH qD .u8 ((h3 w).take 15) 16 (.fn 51 [.ref w 0 0] []) (by rfl)
 rw[show(h3 w).take 15++[(16,.fn 51 [.ref w 0 0] [])]=h3 w from rfl,xw]at u16;simp only[h3,dj,dB,iM]at jY;simp only[h3,dK,dj,du,dB,iM]at ks;simp only[h3,dK,dj,du,dB,iM]at jW;simp only[h3,dK,dj,du,dB,iM]at lT;simp only[h3,dK,dj,du,dB,iM]at om;simp only[h3,dK,dj,du,dB,iM]at p8;simp only[h3,dK,dj,du,dB,iM]at um;simp only[h3,dK,dj,du,dB,iM]at u8;simp only[h3,dK,dj,du,dB,iM]at r8;simp only[h3,dK,dj,du,dB,iM]at uz;simp only[h3,dK,dj,du,dB,iM]at zV;simp only[h3,dK,dj,du,dB,iM]at Aa;simp only[h3,dK,dj,du,dB,iM]at yZ;simp only[h3,dK,dj,du,dB,iM]at xN;simp only[h3,dK,dj,du,dB,iM]at Wi;simp only[h3,dK,dj,iM]at u16;have yU:=b7 fx (cd.trans (fG.trans l6))
 have eg:base<=A.length+1:=by omega
 have aYG:base<=A.length+4:=by omega
 have agb:Ext A qb:=aE.trans (aU.trans (cd.trans (fG.trans l6)));have AR:Ext A b4:=aE;simp only[U]at ju yU
 .obtain⟨k,H1,k1,k2,eN⟩:=aK9 h base (A:=qb) (by omega) ab tz
  rw[k1,MR]at nP;have g2:=b7 yU eN;cases aX:mY fs r with
  |none=>
    rw[aX]at k2;have g3:=fJ (c':=[U 0,U 0,U 0]) g2
    have l3:iu (H1.set (A.length+1) (.cells 0 [U 0,U 0,U 0])) true 3 (.ref (A.length+1) 0 0)=some (.agg [U 0,U 0,U 0]):=by
     show fa _ true 3 _=_;rw[h1,g3];rfl
    refine⟨H1.set (A.length+1) (.cells 0 [U 0,U 0,U 0]),eF (c:=rS) (k:=2) aB rfl (by decide) al8 ?_,(agb.trans eN).set (GA _) _⟩
    simp only[sr,U]at k2 g2 l3;simp only[U,simprocAttr,rS,ZD,aG,zb,n',eG,er,cW,ju,fZ,xk,gG,qM,vl,iM,hw,cX,jY,ks,jW,lT,om,p8,um,u8,r8,uz,zV,Aa,yZ,xN,Wi,u16,nP,k2,g2,eg];rw[l3];rfl
  |some t=>
    obtain⟨i,b,q⟩:=t;rw[aX]at k2;have g3:=fJ (c':=[U i,U b,U q]) g2
    have l3:iu (H1.set (A.length+1) (.cells 0 [U i,U b,U q])) true 3 (.ref (A.length+1) 0 0)=some (.agg [U i,U b,U q]):=by
     show fa _ true 3 _=_;rw[h1,g3];rfl
    refine⟨H1.set (A.length+1) (.cells 0 [U i,U b,U q]),eF (c:=rS) (k:=2) aB rfl (by decide) al8 ?_,(agb.trans eN).set (GA _) _⟩
    simp only[sr,U]at k2 g2 l3;simp only[U,simprocAttr,rS,ZD,aG,zb,n',eG,er,cW,ju,fZ,xk,gG,qM,vl,iM,hw,cX,jY,ks,jW,lT,om,p8,um,u8,r8,uz,zV,Aa,yZ,xN,Wi,u16,nP,k2,g2,eg];rw[l3];rfl
end
section
variable {ag:Nat->Option cz}
theorem aGd(aB:ag RB=some (.code x8))(base:Nat){m b:Nat}{H:ad}{di:List UInt8}(aD:iZ m H b di):aR ag (.fn RB [] []) [.ref b 0 0] base H=some (U di.length,H):=by
 refine gR (c:=x8) aB (by simp[x8]) ?_
 obtain⟨_,⟨rfl,a8⟩|⟨id,g,a8,_⟩⟩:=aD
 .simp only[x8,simprocAttr,Zp,aG,a8]
 .simp only[x8,simprocAttr,Zp,aG,a8]
  try rfl
def bot(h:v' ag){base m b:Nat}(ah:base<=m){H:ad}{di:List UInt8}(aD:iZ m H b di)(aq:di.length<=140737488355328):∃H',aR ag (.fn ajp [] []) [.ref b 0 0] base H=some (.s (.string ⟨di.toArray⟩),H')/\H.length<=H'.length/\∀i,i<m->H'[i]?=H[i]?:=by
 obtain⟨hm,⟨rfl,a8⟩|⟨id,g,a8,bm,hid,eS⟩⟩:=aD
 .refine⟨H,oD ?_,cq _,fun _ _=>rfl⟩;simp only[iT,h.ap5,C3,dB,nn,a8]
 .by_cases bd:di.length=0
  .have aY:di=[]:=lX bd;exact absurd aY eS
  .refine⟨H.set id .dead,oD ?_,by simp,fun i hi=>by rw[cG (by omega)]⟩
   simp only[iT,h.ap5,C3,dB,nn,a8,bm]
   rw[bE ⟨by omega,bd,aq⟩]
   simp only[qW,eW]
end
section
variable {ag:Nat->Option cz}
theorem VW(h:Hz ag)(aB:ag Ju=some (.code rS))(base:Nat){dZ:ad}(ah:base<=dZ.length){p q:Nat}{cr:V}{fs:List cT}(ak:iF dZ cr fs)(ai:Small fs)(ay:au dZ p 0=some [cr])(bJ:au dZ q 0=some [.s (.int .u8 2),.s (.int .u8 9)]){i r:Nat}(hi:i=0/\r=2\/i=1/\r=9)(aX:mY fs r=none){C:ad}(bp:Ext dZ C):
 ∃a7,aN (aL (aR ag) aN base F3) [] dZ.length (ax 98 [(1,.ref p 0 0),(18,.aZ q 0 0 2 1),(19,U 2),(20,U i)]) C=aN (aL (aR ag) aN base F3) [] dZ.length (ax 98 [(1,.ref p 0 0),(18,.aZ q 0 0 2 1),(19,U 2),(20,U ((i+1:Nat):Int))]) a7/\Ext dZ a7:=by
 have tz:r=2\/r=9:=by omega
 obtain⟨D,J,aa⟩:=ajk h aB base (A:=C) (by have:=bp.le;omega) (ak.ext bp) ai tz
 rw[aX]at J
 have gp:fa C true 1 (.ref p 0 0)=some (.agg [cr]):=by rw[h1,b7 ay bp];rfl
 have Kz:=b7 bJ bp;have dE:∀c d,(D++[c]).set D.length d=D++[d]:=fun c d=>iI D c d;have k4:∀c,au (D++[aM.cells 0 c]) D.length 0=some c:=fun c=>cQ D 0 c
 have GR:base<=D.length:=by have:=(bp.trans aa).le;omega
 refine⟨trim dZ.length (ax 98 [(1,.ref p 0 0),(18,.aZ q 0 0 2 1),(19,U 2),(20,U ((i+1:Nat):Int))]) (D++[aM.cells 0 [U 0,U 0,U 0]]),?_,((bp.trans aa).trans (Ext.app _ _)).trim (cq _) _⟩;have d0:decide ((0:Int)<2)=true:=rfl;have d1:decide ((1:Int)<2)=true:=rfl
 have ym:((0:Int)<((2:Nat):Int))=True:=eq_true (by decide)
 have jY:((1:Int)<((2:Nat):Int))=True:=eq_true (by decide)
 have i0:kB 1 (.aZ q 0 0 2 1) (.s (.int .i64 ((0:Nat):Int)))=some (.ref q 0 0):=rfl;have i1:kB 1 (.aZ q 0 0 2 1) (.s (.int .i64 ((1:Nat):Int)))=some (.ref q 0 1):=rfl
 have fN:fa C false 1 (.ref q 0 0)=some (.s (.int .u8 2)):=by rw[h1,Kz];rfl
 have cW:fa C false 1 (.ref q 0 1)=some (.s (.int .u8 9)):=by rw[h1,Kz];rfl
 rw[dt]
 rcases hi with⟨rfl,rfl⟩|⟨rfl,rfl⟩
 .simp only[sr,U]at J dE k4;rw[show((2:Nat):Int)=2 from rfl]at J
  simp only[U,simprocAttr,DF,pM,aG,gp,d0,ym,fN,J,dE,k4,GR]
  try rfl
 .simp only[sr,U]at J dE k4;rw[show((9:Nat):Int)=9 from rfl]at J
  simp only[U,simprocAttr,DF,pM,aG,gp,i1,cW,J,dE,k4,GR,jB (show 1<2^62 by decide)]
  try rfl
theorem agu(h:Hz ag)(aB:ag Ju=some (.code rS))(base:Nat){dZ:ad}(ah:base<=dZ.length){p q:Nat}{cr:V}{fs:List cT}(ak:iF dZ cr fs)(ai:Small fs)(ay:au dZ p 0=some [cr])(bJ:au dZ q 0=some [.s (.int .u8 2),.s (.int .u8 9)]){i r:Nat}(hi:i=0/\r=2\/i=1/\r=9){t:tS}(aX:mY fs r=some t){C:ad}(bp:Ext dZ C):
 ∃a7,aN (aL (aR ag) aN base F3) [] dZ.length (ax 98 [(1,.ref p 0 0),(18,.aZ q 0 0 2 1),(19,U 2),(20,U i)]) C=some (.ret,ax 98 [(2,aA ⟨#[]⟩),(3,U 5)],a7)/\Ext dZ a7:=by
 have tz:r=2\/r=9:=by omega
 obtain⟨D,J,aa⟩:=ajk h aB base (A:=C) (by have:=bp.le;omega) (ak.ext bp) ai tz
 rw[aX]at J
 have gp:fa C true 1 (.ref p 0 0)=some (.agg [cr]):=by rw[h1,b7 ay bp];rfl
 have Kz:=b7 bJ bp;have dE:∀c d,(D++[c]).set D.length d=D++[d]:=fun c d=>iI D c d;have k4:∀c,au (D++[aM.cells 0 c]) D.length 0=some c:=fun c=>cQ D 0 c
 have GR:base<=D.length:=by have:=(bp.trans aa).le;omega
 obtain⟨dX,fx,gy⟩:=t;refine⟨trim dZ.length (ax 98 [(2,aA ⟨#[]⟩),(3,U 5)]) (D++[aM.cells 0 [U dX,U fx,U gy]]),?_,((bp.trans aa).trans (Ext.app _ _)).trim (cq _) _⟩;have d0:decide ((0:Int)<2)=true:=rfl;have d1:decide ((1:Int)<2)=true:=rfl
 have ym:((0:Int)<((2:Nat):Int))=True:=eq_true (by decide)
 have jY:((1:Int)<((2:Nat):Int))=True:=eq_true (by decide)
 have i0:kB 1 (.aZ q 0 0 2 1) (.s (.int .i64 ((0:Nat):Int)))=some (.ref q 0 0):=rfl;have i1:kB 1 (.aZ q 0 0 2 1) (.s (.int .i64 ((1:Nat):Int)))=some (.ref q 0 1):=rfl
 have fN:fa C false 1 (.ref q 0 0)=some (.s (.int .u8 2)):=by rw[h1,Kz];rfl
 have cW:fa C false 1 (.ref q 0 1)=some (.s (.int .u8 9)):=by rw[h1,Kz];rfl
 rw[dt]
 rcases hi with⟨rfl,rfl⟩|⟨rfl,rfl⟩
 .simp only[sr,U]at J dE k4;rw[show((2:Nat):Int)=2 from rfl]at J
  simp only[U,simprocAttr,DF,pM,aG,gp,d0,ym,fN,J,dE,k4,GR]
  try rfl
 .simp only[sr,U]at J dE k4;rw[show((9:Nat):Int)=9 from rfl]at J
  simp only[U,simprocAttr,DF,pM,aG,gp,i1,cW,J,dE,k4,GR]
  try rfl
end
structure Hl (ag:Nat->Option cz):Prop where
 P:B1 ag
 R:Hz ag
 first:ag Ju=some (.code rS)
 ayG:ag Xc=some (.code yP)
 len:ag RB=some (.code x8)
 print:ag vX=some (.code sC)
section
variable {ag:Nat->Option cz}
theorem aDy(h:Hl ag)(base:Nat){A:ad}(ah:base<=A.length){cr:V}{fs:List cT}(ak:iF A cr fs)(ai:Small fs)(rv:(mY fs 2).isSome=true\/(mY fs 9).isSome=true):
 ∃H',aR ag (.fn vX [] []) [.agg [cr]] base A=some (.bQ [aA ⟨#[]⟩,U 5],H')/\Ext A H':=by
 have n':=ak.one;obtain⟨b4,er⟩:∃b4,A++[aM.cells 0 [cr]]=b4:=⟨_,rfl⟩;obtain⟨dZ,ju⟩:∃dZ,b4++[aM.cells 0 [V.s (.int .u8 2),.s (.int .u8 9)]]=dZ:=⟨_,rfl⟩
 have cW:b4.length=A.length+1:=by rw[<- er,dh]
 have fZ:dZ.length=A.length+2:=by rw[<- ju,dh,cW]
 have aE:Ext A b4:=er▸Ext.app _ _;have aU:Ext b4 dZ:=ju▸Ext.app _ _;have dX:au dZ A.length 0=some [cr]:=b7 (er▸cQ A 0 _) aU
 have fx:au dZ (A.length+1) 0=some [V.s (.int .u8 2),.s (.int .u8 9)]:=by rw[<- cW,<- ju];exact cQ b4 0 _
 have fv:∃a7,aN (aL (aR ag) aN base F3) [] dZ.length (ax 98 [(1,.ref A.length 0 0),(18,.aZ (A.length+1) 0 0 2 1),(19,U 2),(20,U ((0:Nat):Int))]) dZ=some (.ret,ax 98 [(2,aA ⟨#[]⟩),(3,U 5)],a7)/\Ext dZ a7:=by
  cases aa:mY fs 2 with
  |some t=>exact agu h.R h.first base (by omega) (ak.ext (aE.trans aU)) ai dX fx (.inl ⟨rfl,rfl⟩) aa (Ext.refl _)
  |none=>
    obtain⟨C,bj,aT⟩:=VW h.R h.first base (by omega) (ak.ext (aE.trans aU)) ai dX fx (.inl ⟨rfl,rfl⟩) aa (Ext.refl _)
    cases oz:mY fs 9 with
    |none=>rw[aa,oz]at rv;simp at rv
    |some t=>
      rw[bj]
      exact agu h.R h.first base (by omega) (ak.ext (aE.trans aU)) ai dX fx (.inr ⟨rfl,rfl⟩) oz aT
 obtain⟨a7,bj,aT⟩:=fv
 refine⟨a7,eF (c:=sC) (k:=1) h.print rfl (by decide) UL ?_,(aE.trans aU).trans aT⟩
 rw[fZ,show((0:Nat):Int)=0 from rfl]at bj;simp only[U]at bj;simp only[U,simprocAttr,sC,pM,aG,n',eG,er,cW,ju,fZ,show((2:Nat):Int)=2 from rfl,bj]
 try rfl
def aI8{A H H':ad}(aq:H.length<=H'.length)(an:∀i,i<A.length->H'[i]?=H[i]?)(k:Ext A H):Ext A H':=by
 refine⟨H'.drop A.length,?_⟩;apply yb;intro i;by_cases hi:i<A.length
 .rw[bi hi,an i hi,k.get hi]
 .rw[jA (by omega),qP]
  congr 1
  omega
def XW(h:Hl ag)(base:Nat){A:ad}(ah:base<=A.length){cr:V}{fs:List cT}(ak:iF A cr fs)(ai:Small fs)(aa:mY fs 2=none)(oz:mY fs 9=none)(kn:∀f∈fs,A1 f)(aq:(h6 fs).length<=140737488355328):
 ∃H',aR ag (.fn vX [] []) [.agg [cr]] base A=some (if 1048576<(h6 fs).length then .bQ [aA ⟨#[]⟩,U 2]else .bQ [aA ⟨(h6 fs).toArray⟩,U 0],H')/\Ext A H':=by
 have n':=ak.one;have th:=ai.n;obtain⟨b4,er⟩:∃b4,A++[aM.cells 0 [cr]]=b4:=⟨_,rfl⟩;obtain⟨dZ,ju⟩:∃dZ,b4++[aM.cells 0 [V.s (.int .u8 2),.s (.int .u8 9)]]=dZ:=⟨_,rfl⟩
 have cW:b4.length=A.length+1:=by rw[<- er,dh]
 have fZ:dZ.length=A.length+2:=by rw[<- ju,dh,cW]
 have aE:Ext A b4:=er▸Ext.app _ _;have aU:Ext b4 dZ:=ju▸Ext.app _ _;have dX:au dZ A.length 0=some [cr]:=b7 (er▸cQ A 0 _) aU
 have fx:au dZ (A.length+1) 0=some [V.s (.int .u8 2),.s (.int .u8 9)]:=by rw[<- cW,<- ju];exact cQ b4 0 _
 have tz:=ak.ext (aE.trans aU)
 obtain⟨aYa,bj,aT⟩:=VW h.R h.first base (by omega) tz ai dX fx (.inl ⟨rfl,rfl⟩) aa (Ext.refl _)
 obtain⟨azR,a1,cB⟩:=VW h.R h.first base (by omega) tz ai dX fx (.inr ⟨rfl,rfl⟩) oz aT
 have gj:=bj.trans a1;rw[fZ,show((0:Nat):Int)=0 from rfl,show((1+1:Nat):Int)=2 from rfl]at gj;obtain⟨dU,lM⟩:∃dU,trim (A.length+2) (ax 98 [(1,.ref A.length 0 0),(18,.aZ (A.length+1) 0 0 2 1),(19,.s (.int .i64 2)),(20,.s (.int .i64 2)),(21,.s (.bool false))]) azR=dU:=⟨_,rfl⟩
 have Fi:Ext dZ dU:=lM▸cB.trim (by omega) _
 have Ba:base<=dU.length:=by have:=Fi.le;omega
 have An:=aJF h.ayG base Ba;obtain⟨bO,nC⟩:∃bO,dU++[aM.cells 0 [V.fn 52 [] []]]++[aM.map (kk .u8 (hf dU.length))]=bO:=⟨_,rfl⟩
 have fN:bO.length=dU.length+2:=by rw[<- nC,dh,dh]
 have Tn:Ext dU bO:=nC▸(Ext.app dU [aM.cells 0 [V.fn 52 [] []]]).trans (Ext.app _ _);rw[nC]at An;have aJ:au bO dU.length 0=some [.fn 52 [] []]:=nC▸b7 (cQ dU 0 _) (Ext.app _ _)
 have hm:bO[dU.length+1]?=some (.map (kk .u8 (hf dU.length))):=by
  rw[<- nC,<- dh dU (aM.cells 0 [V.fn 52 [] []])];simp
 have ai7:=tz.ext (Fi.trans Tn);obtain⟨Nj,yp⟩:∃Nj,bO++[aM.cells 0 [V.bu,.s (.slice none 0 0)]]=Nj:=⟨_,rfl⟩;have WY:Ext bO Nj:=yp▸Ext.app _ _
 have Q0:Nj.length=bO.length+1:=by rw[<- yp,dh]
 have ap4:base<=bO.length:=by omega
 obtain⟨D,g1,g2,g3⟩:=Xt h.P base ap4 aJ hm ai7 kn (by omega) (L:=bO.length+1) (by omega) (di:=[]) WY (⟨cq _,.inl ⟨rfl,yp▸cQ bO 0 _⟩⟩) (by simp only[eh];omega)
 rw[show((0:Nat):Int)=0 from rfl]at g1;rw[dB]at g3;obtain⟨bX,gE⟩:∃bX,trim (bO.length+1) (ax 98 [(8,.mp (dU.length+1)),(9,.ref bO.length 0 0),(10,.fn 18 [] [.ref bO.length 0 0]),(35,cr),(36,.s (.int .i64 fs.length)),(37,.s (.int .i64 fs.length)),(38,.s (.bool false))]) D=bX:=⟨_,rfl⟩
 have L0:Ext bO bX:=gE▸g2.trim (by omega) _
 have aiL:iZ bO.length bX bO.length (h6 fs):=gE▸g3.trim (by omega) _
 have uK:=aGd h.len base aiL;obtain⟨bU,ig,s1,s2⟩:=bot h.P.F.W.L ap4 aiL aq;have SY:Ext A bO:=(aE.trans aU).trans (Fi.trans Tn)
 have aEP:Ext A bU:=aI8 s1 (fun i hi=>s2 i (by have:=SY.le;omega)) (SY.trans L0)
 have am7:=u5 (b7 dX (Fi.trans (Tn.trans WY)));have lq:=fb.len (fb.ext (P:=p6) p6.ext ai7 WY)
 have rh:decide ((fs.length:Int)<(fs.length:Int))=false:=by simp
 have d2:decide ((2:Int)<2)=false:=rfl
 have Xl:(∃H',aR ag (.fn vX [] []) [.agg [cr]] base A=some (if 1048576<(h6 fs).length then .bQ [aA ⟨#[]⟩,U 2]else .bQ [aA ⟨(h6 fs).toArray⟩,U 0],H')/\Ext A H'):=by
  by_cases IT:1048576<(h6 fs).length
  .have aQ:decide (((h6 fs).length:Int) > 1048576)=true:=by rw[l8];omega
   refine⟨bX,eF (c:=sC) (k:=1) h.print rfl (by decide) UL ?_,SY.trans L0⟩
   rw[bE IT];simp only[U]at gj g1 lq uK gE yp lM;simp only[U,simprocAttr,sC,pM,aG,n',eG,er,cW,ju,fZ,show((2:Nat):Int)=2 from rfl,gj];rw[dt];simp only[DF,simprocAttr,pM,aG,d2,lM,An,zb,yp,am7,lq,Q0,g1];rw[dt];simp only[Nb,simprocAttr,pM,aG,rh,gE,uK,aQ]
   try rfl
  .have aQ:decide (((h6 fs).length:Int) > 1048576)=false:=by rw[xz];omega
   refine⟨bU,eF (c:=sC) (k:=1) h.print rfl (by decide) UL ?_,aEP⟩
   rw[bV IT];simp only[U]at gj g1 lq uK gE yp lM;simp only[U,simprocAttr,sC,pM,aG,n',eG,er,cW,ju,fZ,show((2:Nat):Int)=2 from rfl,gj];rw[dt];simp only[DF,simprocAttr,pM,aG,d2,lM,An,zb,yp,am7,lq,Q0,g1];rw[dt];simp only[Nb,simprocAttr,pM,aG,rh,gE,uK,aQ,ig]
   try rfl
 exact Xl
end
abbrev jv(b:ByteArray):Prop:=Tok.G3 b.data.toList
def agD{c:UInt8}(h:letter c.toNat=true):Tok.letter c=true:=by
 unfold letter at h;unfold Tok.letter;simp only[oi,dR,l8,lc]at h |-
 rcases h with(h|h)|h
 .exact .inl (.inl (by omega))
 .exact .inl (.inr (by omega))
 .exact .inr (Uw.1 (by show c.toNat=95;omega))
def aPw{i:Nat}{c:UInt8}(h:Hy i c=false):Tok.within c=true:=by
 unfold Hy at h;unfold Tok.within;cases e:letter c.toNat with
 |true=>rw[agD e];rfl
 |false=>
   rw[e]at h;simp only[aaw,ol,nS,Bool.and_eq_false_iff,xz,WI]at h
   obtain⟨_,⟨J,aa⟩|J⟩:=h
   .have:Tok.digit c=true:=by unfold Tok.digit;rw[dR,l8,l8];omega
    rw[this,BX,zK]
   .have:(c==46)=true:=lc.2 (Uw.1 (by show c.toNat=46;omega))
    rw[this,BX]
def aCh:∀{l:List UInt8} {i:Nat},AA i l=true->∀c∈l,Tok.within c=true:=by
 intro l
 induction l with
 |nil=>intro i _ c ab;cases ab
 |cons a l aF=>
   intro i h c ab;rw[AA,dR,wY]at h
   rcases nj.1 ab with rfl|ab
   .exact aPw h.1
   .exact aF h.2 c ab
def Ov{b:ByteArray}(h:pZ b=true):jv b:=by
 unfold pZ at h;rw[dR,wY,nS,nS]at h;obtain⟨⟨⟨bd,_⟩,_⟩,J⟩:=h;unfold jv;cases e:b.data.toList with
 |nil=>rw[e]at bd;simp at bd
 |cons c m=>
   rw[e,AA,dR,wY]at J;refine⟨c,m,rfl,agD ?_,aCh J.2⟩;have:=J.1;unfold Hy at this;cases el:letter c.toNat with
   |true=>rfl
   |false=>rw[el]at this;simp at this
def aVW:Tok.G3 [110,117,108,108]:=⟨110,_,rfl,by decide,by decide⟩
def Di{op:Bool}{b:ByteArray}(h:jz op b=false)(aJ:b.data.toList≠[]):jv b:=by
 unfold jz U0 at h
 have bd:(b.data.toList==[])=false:=by simpa using aJ
 rw[bd]at h;cases hi:pZ b with
 |true=>exact Ov hi
 |false=>
   rw[hi]at h
   have:Mx b=true:=by
    cases op<;>simp at h;exact h
   unfold Mx at this;rw[lc]at this;unfold jv;rw[this];exact aVW
structure mJ (x:bI):Prop where
 vo:yv x
 d:x.d.data.toList≠[]->jv x.d
 a:x.op=5\/x.op=7\/x.op=8\/x.op=9\/x.op=11->jv x.a
 r:x.op=14->x.a.data.toList=[]\/jv x.a
 b:x.op=9->jv x.b
 f:x.op=4\/x.op=10->jv x.f
 xs:x.op=6\/x.op=10\/x.op=11->∀s∈x.xs,jv s
 ls:x.op=6\/x.op=12\/x.op=13->∀s∈x.ls,jv s
 JV:(e7 x.op).d=false->x.d=⟨#[]⟩
 AR:(e7 x.op).a=false->x.a=⟨#[]⟩
 vh:(e7 x.op).b=false->x.b=⟨#[]⟩
 ua:(e7 x.op).k=false->x.k=0
 yE:(e7 x.op).f=false->x.f=⟨#[]⟩
 ex:(e7 x.op).xs=false->x.xs=[]
 el:(e7 x.op).ls=false->x.ls=[]
 FW:(e7 x.op).d=true->x.op≠10->x.op≠11->x.d.data.toList≠[]
 q8:x.op=6->x.xs≠[]
theorem asT{l:List ByteArray}(h:Ak l=false):∀s∈l,s.data.toList≠[]:=by
 intro s ai e;have:=G9.1 h s ai;rw[e]at this;exact this rfl
theorem L9{b:ByteArray}(h:b.data.toList=[]):b=⟨#[]⟩:=by
 cases b with
 |mk d=>cases d with
   |mk l=>cases h;rfl
def mJ.of{x:bI}(J:qf (h8 (e7 x.op) x) (e7 x.op) x=false)(aa:wF x=false):mJ x:=by
 have vo:=aaH aa;unfold qf h8 at J;simp only[nS]at J;obtain⟨⟨⟨⟨⟨aQ,al⟩,aO⟩,ah⟩,af⟩,aq⟩:=J;unfold wF Am B9 at aa;simp only[nS]at aa
 obtain⟨⟨⟨⟨⟨⟨⟨⟨_,id⟩,aLk⟩,aS4⟩,agA⟩,aMC⟩,aWf⟩,aAn⟩,⟨⟨⟨axG,SR⟩,awW⟩,ahf⟩,al2⟩:=aa
 have fd:x.d.data.toList≠[]->jv x.d:=fun aJ=>by
  cases e:(e7 x.op).d with
  |true=>rw[e]at aQ;exact Di (by simpa using aQ) aJ
  |false=>rw[e]at id;exact absurd (by simpa using id) aJ
 have aHO:(e7 x.op).a=true->x.op≠14->jv x.a:=fun e KJ=>by
  rw[e]at aO SR;have aN2:(x.op != 14)=true:=mw.2 KJ;rw[aN2]at SR
  exact Di (by simpa using aO) (by simpa using SR)
 have aOK:(e7 x.op).b=true->jv x.b:=fun e=>by
  rw[e]at ah awW
  exact Di (by simpa using ah) (by simpa using awW)
 have Lo:(e7 x.op).f=true->jv x.f:=fun e=>by
  rw[e]at al ahf
  exact Di (by simpa using al) (by simpa using ahf)
 have rI:(e7 x.op).xs=true->∀s∈x.xs,jv s:=fun e s ai=>by
  rw[e,ol,nS]at af
  exact Di (by have:=G9.1 af.1 s ai;simpa using this) (asT af.2 s ai)
 have aDi:(e7 x.op).ls=true->∀s∈x.ls,jv s:=fun e s ai=>by
  rw[e,ol,nS]at aq
  exact Di (by have:=G9.1 aq.1 s ai;simpa using this) (asT aq.2 s ai)
 have LP:∀{s:Bool} {b:ByteArray},(!s&&!b.data.toList==[])=false->s=false->b=⟨#[]⟩:=fun h e=>L9 (by rw[e]at h;simpa using h)
 have afL:∀{s:Bool} {l:List ByteArray},(!s&&decide ((l.length:Int) > 0))=false->s=false->l=[]:=fun h e=>by rw[e]at h;simpa using h
 refine⟨vo,fd,fun hh=>?_,fun hh=>?_,fun hh=>?_,fun hh=>?_,fun hh=>?_,fun hh=>?_,LP id,LP aLk,LP aS4,fun e=>by rw[e]at agA;simpa using agA,LP aMC,afL aWf,afL aAn,fun e j8 P4=>by rw[e]at axG;simpa[j8,P4]using axG,fun e af=>by rw[show zF x=_ from rfl]at al2;simp[zF,e,af]at al2⟩
 .rcases hh with e|e|e|e|e<;>exact aHO (by rw[e];rfl) (by rw[e];decide)
 .by_cases aJ:x.a.data.toList=[]
  .exact .inl aJ
  .refine .inr (Di (op:=true) ?_ aJ);rw[hh]at aO
   simpa[e7]using aO
 .exact aOK (by rw[hh];rfl)
 .rcases hh with e|e<;>exact Lo (by rw[e];rfl)
 .rcases hh with e|e|e<;>exact rI (by rw[e];rfl)
 .rcases hh with e|e|e<;>exact aDi (by rw[e];rfl)
structure yq (f:cT):Prop where
 n:jv f.name
 ps:∀s∈f.ps,jv s
 b:∀b∈f.blocks,jv b.label/\∀x∈b.code,mJ x
def aL8{G:Nat->Nat->Nat->Nat->bI->Bool}{fs:List cT}(h:y5 G fs=none){i:Nat}{f:cT}(al:fs[i]?=some f){b:Nat}{x:ey}(ah:f.blocks[b]?=some x){k:Nat}{y:bI}(bC:x.code[k]?=some y):G (ga (fs.take i)+hW (f.blocks.take b)+k) i b k y=false:=by
 have J:=Fj.1 h i f al;have aa:=Fj.1 J b x ah;have aI:=Fj.1 aa k y bC;simp only[mx]at aI;unfold F4 at aI;rw[ite_eq_right_iff]at aI;cases e:G (ga (fs.take i)+hW (f.blocks.take b)+k) i b k y with
 |false=>rfl
 |true=>cases aI e
def X1{c:Prop}[Decidable c]{t:tS}{r:Option tS}(h:(if c then some t else r)=none):¬c/\r=none:=by
 split at h
 .cases h
 .exact⟨by assumption,h⟩
def amz{b:Bool}(h:¬(!b)=true):b=true:=by cases b<;>simp_all
def yq.of{fs:List cT}(aa:mY fs 2=none)(oz:mY fs 9=none):∀f∈fs,yq f:=by
 intro f al;obtain⟨i,hi⟩:=List.mem_iff_getElem?.1 al
 have fe:=X1 (by have:=Fj.1 (show j1 C8 fs 0=none from aa) i f hi;exact this)
 have XM:=fe.1;rw[oi,not_or]at XM;refine⟨Ov (amz XM.1),fun s ai=>Ov ?_,fun b ah=>?_⟩
 .cases e:pZ s with
  |true=>rfl
  |false=>exact absurd (Kp.2 ⟨s,ai,by rw[e];rfl⟩) XM.2
 .obtain⟨j,bz⟩:=List.mem_iff_getElem?.1 ah;have eI:=X1 (Fj.1 fe.2 j b bz);refine⟨Ov (amz eI.1),fun x af=>?_⟩;obtain⟨k,an⟩:=List.mem_iff_getElem?.1 af;have jQ:=(X1 (Fj.1 eI.2 k x an)).1;exact .of (sY _▸jQ) (aL8 (show y5 (fun _=>fun _ _ _ x=>wF x) fs=none from oz) hi bz an)
open Go.ea Go.ea.Tok gO
abbrev nT(l:List dD):List (gT × Bool):=(h7 l).map fun w=>(w,true)
def zI(l:List (gT × Bool)):Prop:=∃w m,l=(w,false)::m
def lu(a b:ByteArray):(a++b).data.toList=a.data.toList++b.data.toList:=by
 rw[ByteArray.data_append,Lx]
def xd{α:Type}(s a b:List α)(l:List (List α)):s.intercalate (a::b::l)=a++(s++s.intercalate (b::l)):=by
 simp[List.intercalate,List.intersperse]
def tX{α:Type}(s a:List α):s.intercalate [a]=a:=by
 simp[List.intercalate,List.intersperse]
theorem nI(a b:ByteArray):(dy [a,b]).data.toList=a.data.toList++(32::b.data.toList):=by
 unfold dy jK Lib.join mE;rw[qj,dW,dW,hC,xd,tX];rfl
theorem xY(a b c:ByteArray):(dy [a,b,c]).data.toList=a.data.toList++(32::(b.data.toList++(32::c.data.toList))):=by
 unfold dy jK Lib.join mE;rw[qj,dW,dW,dW,hC,xd,xd,tX];rfl
theorem awt(p:dD)(l:List dD):gm (p::l)=p.kS++gm l:=rfl
def aiT(a b:List dD):gm (a++b)=gm a++gm b:=yK ..
def JQ(a b:List dD):nT (a++b)=nT a++nT b:=by simp[nT,h7]
def z8(xs:List ByteArray):List dD:=xs.flatMap fun s=>[.hl 44,.ar,.nm s.data.toList]
def vG:List ByteArray->List dD
 | []=>[]
 |x::xs=>.nm x.data.toList::z8 xs
def aNF:∀xs:List ByteArray,gm (vG xs)=(jK xs pV).data.toList:=by
 intro xs
 have key:∀(xs:List ByteArray) (x:ByteArray),gm (vG (x::xs))=[44,32].intercalate ((x::xs).map (·.data.toList)):=by
  intro xs
  induction xs with
  |nil=>intro x;rw[dW,hC,tX];simp[vG,z8,gm,dD.kS]
  |cons y fw aF=>
    intro x;rw[dW,dW,xd,<- dW (f:=fun b:ByteArray=>b.data.toList) (a:=y) (l:=fw),<- aF y];simp[vG,z8,gm,dD.kS]
 unfold jK Lib.join pV;rw[qj];cases xs with
 |nil=>simp[vG,gm,List.intercalate]
 |cons x xs=>exact key xs x
theorem aBj(xs:List ByteArray):nT (z8 xs)=vq xs:=by
 induction xs with
 |nil=>rfl
 |cons x xs aF=>
   have e:z8 (x::xs)=[.hl 44,.ar,.nm x.data.toList]++z8 xs:=rfl;rw[e,JQ,aF];rfl
theorem aWS(xs:List ByteArray):nT (vG xs)=tG xs:=by
 cases xs with
 |nil=>rfl
 |cons x xs=>
   have e:vG (x::xs)=[.nm x.data.toList]++z8 xs:=rfl;rw[e,JQ,aBj];rfl
def amZ{r:List dD}(ak:js r)(hw:∀q m,r=q::m->q.rE=false):∀{xs:List ByteArray},(∀s∈xs,jv s)->js (z8 xs++r)/\∀q m,z8 xs++r=q::m->q.rE=false
 | [],_=>⟨ak,hw⟩
 |x::xs,h=>by
   obtain⟨J,aa⟩:=amZ ak hw (xs:=xs) fun s ai=>h s (d9 _ ai)
   exact⟨⟨(by decide:sign 44=true),(fun e=>by cases e),trivial,(fun e=>by cases e),h x hJ,fun _=>aa,J⟩,fun q m e=>by cases e;rfl⟩
def aM3{r:List dD}(ak:js r)(hw:∀q m,r=q::m->q.rE=false){xs:List ByteArray}(h:∀s∈xs,jv s):js (vG xs++r):=by
 cases xs with
 |nil=>exact ak
 |cons x xs=>
   obtain⟨J,aa⟩:=amZ ak hw (xs:=xs) fun s ai=>h s (d9 _ ai);exact⟨h x hJ,fun _=>aa,J⟩
def w1(xs:List ByteArray):List dD:=.hl 40::(vG xs++[.hl 41])
theorem V0(xs:List ByteArray):gm (w1 xs)=(hT xs).data.toList:=by
 unfold w1 hT;rw[awt,aiT,aNF,lu,lu];rfl
theorem QV(xs:List ByteArray):nT (w1 xs)=gC 40::(tG xs++[gC 41]):=by
 have e:w1 xs=[.hl 40]++(vG xs++[.hl 41]):=rfl;rw[e,JQ,JQ,aWS];rfl
def SG{xs:List ByteArray}(h:∀s∈xs,jv s){r:List dD}(ak:js r):js (w1 xs++r):=by
 show js (.hl 40::((vG xs++[.hl 41])++r));rw[gi]
 exact⟨(by decide:sign 40=true),(fun e=>by cases e),aM3 (r:=.hl 41::r) ⟨(by decide:sign 41=true),(fun e=>by cases e),ak⟩ (fun q m e=>by cases e;rfl) h⟩
def SJ:∀xs:List ByteArray,xs.length<=(tG xs).length:=by
 have:∀xs:List ByteArray,(vq xs).length=2*xs.length:=by
  intro xs
  induction xs with
  |nil=>rfl
  |cons x xs aF=>
    have e:vq (x::xs)=[gC 44,j6 x.data.toList]++vq xs:=rfl;rw[e,c0,aF,c3];simp only[c3,eh];omega
 intro xs;cases xs with
 |nil=>exact cq _
 |cons x xs=>
   have e:tG (x::xs)=j6 x.data.toList::vq xs:=rfl;rw[e,c3,c3,this];omega
open Go.ea Go.ea.Tok gO
def zz:List (ByteArray × ByteArray)->List dD
 | []=>[]
 |p::l=>.hl 44::.ar::.nm p.1.data.toList::.hl 58::.ar::.nm p.2.data.toList::zz l
def BD(p:ByteArray × ByteArray)(l:List (ByteArray × ByteArray)):List dD:=.nm p.1.data.toList::.hl 58::.ar::.nm p.2.data.toList::zz l
def ai4:∀(l:List (ByteArray × ByteArray)) (p:ByteArray × ByteArray),gm (BD p l)=[44,32].intercalate ((p::l).map fun q=>(sH q.1 q.2).data.toList)
 | [],p=>by
   rw[dW,hC,tX];simp[BD,zz,gm,dD.kS,sH,z6]
 |q::l,p=>by
   rw[dW,dW,xd,<- dW (f:=fun q:ByteArray × ByteArray=>(sH q.1 q.2).data.toList) (a:=q) (l:=l),<- ai4 l q];simp[BD,zz,gm,dD.kS,sH,z6]
theorem aos:∀l:List (ByteArray × ByteArray),nT (zz l)=q7 l
 | []=>rfl
 |p::l=>by
   have e:zz (p::l)=[.hl 44,.ar,.nm p.1.data.toList,.hl 58,.ar,.nm p.2.data.toList]++zz l:=rfl;rw[e,JQ,aos l];rfl
def ag7{r:List dD}(ak:js r)(hw:∀q m,r=q::m->q.rE=false):∀{l:List (ByteArray × ByteArray)},(∀p∈l,jv p.1/\jv p.2)->js (zz l++r)/\∀q m,zz l++r=q::m->q.rE=false
 | [],_=>⟨ak,hw⟩
 |p::l,h=>by
   obtain⟨J,aa⟩:=ag7 ak hw (l:=l) fun s ai=>h s (d9 _ ai);obtain⟨cC,b5⟩:=h p hJ
   exact⟨⟨(by decide:sign 44=true),(fun e=>by cases e),trivial,(fun e=>by cases e),cC,(fun _ q m e=>by cases e;rfl),(by decide:sign 58=true),(fun e=>by cases e),trivial,(fun e=>by cases e),b5,fun _=>aa,J⟩,fun q m e=>by cases e;rfl⟩
def awF:∀l:List (ByteArray × ByteArray),l.length<=(q7 l).length
 | []=>cq _
 |p::l=>by
   have:=awF l;simp only[q7,c3];omega
def UD{x:bI}(h:x.xs.length=x.ls.length):oQ x x.ls.length=(x.ls.zip x.xs).map fun q=>sH q.1 q.2:=by
 apply Nt
 .simp[oQ,h]
 .intro i J aa
  have hi:i<x.ls.length:=by simpa[oQ]using J
  simp[oQ,hi,h]
theorem aC9{x:bI}{p:ByteArray × ByteArray}{l:List (ByteArray × ByteArray)}(h:x.xs.length=x.ls.length)(e:x.ls.zip x.xs=p::l):(qV x).data.toList=gm (.hl 91::(BD p l++[.hl 93])):=by
 unfold qV jK Lib.join pV;rw[lu,lu,UD h,e,qj,awt,aiT,ai4,RL];rfl
def auJ(n:Int):(iG n).data.toList=Lib.decDigits n.toNat:=by
 unfold iG;rw[qj]
def aRm{l:List UInt8}(h:∀c∈l,c≠32)(p:List UInt8)(aJ:l≠[]):Lib.trimSuffix (p++l) [32]=p++l:=by
 unfold Lib.trimSuffix;rw[bV];intro ai;unfold Lib.hasSuffix at ai;obtain⟨t,aY⟩:=List.isSuffixOf_iff_suffix.1 ai
 have aa:(p++l).getLast?=some 32:=by rw[<- aY];simp
 rw[List.getLast?_append]at aa;cases e:l.getLast? with
 |none=>exact aJ (List.getLast?_eq_none_iff.1 e)
 |some c=>
   rw[e]at aa
   exact h c (List.mem_of_getLast? e) (by simpa using aa)
def aMy{l:List UInt8}(h:G3 l):∀c∈l,c≠32:=by
 obtain⟨c,m,rfl,J,aa⟩:=h;intro d aQ e;subst e
 rcases nj.1 aQ with rfl|aQ
 .exact absurd J (by decide)
 .exact absurd (aa _ aQ) (by decide)
def aCy{l:List UInt8}(h:G3 l):l≠[]:=by
 obtain⟨c,m,rfl,_⟩:=h;simp
open Go.ea Go.ea.Tok gO
def sU(x:bI):Prop:=∃(o:Nat) (w:List UInt8) (ps:List dD),x.op=(o:Int)/\js (.nm w::ps)/\(cv x).data.toList=w++gm ps/\y1 (if x.d.size=0 then AK else yG) w=some o/\(x.d.size=0->∀k m,h7 ps=k::m->k.1=1)/\∀(V:bt) (N a:Nat) (l:List (gT × Bool)),(h7 ps).length<N->jE V a (nT ps++l)->zI l->BY V N o { fE with op:=o,d:=x.d } a=.ok (x,a+(h7 ps).length)
def Gu{b:ByteArray}(h:b.data.toList≠[]):b.size≠0:=fun e=>h (lX e)
def Lv:List UInt8->Bool
 | []=>false
 |c::m=>Tok.letter c&&m.all Tok.within
def aGX{w:List UInt8}(h:Lv w=true):G3 w:=by
 cases w with
 |nil=>cases h
 |cons c m=>
   rw[Lv,dR,fp]at h;exact⟨c,m,rfl,h.1,h.2⟩
def sw{w:List UInt8}(h:Lv w=true){ps:List dD}(ay:js ps)(ah:∀q m,ps=q::m->q.rE=false):js (.nm w::ps):=⟨aGX h,fun _=>ah,ay⟩
def l5{ps:List dD}(ay:js ps):js (.ar::ps):=⟨trivial,(fun e=>by cases e),ay⟩
def AS{c:UInt8}(h:sign c=true){ps:List dD}(ay:js ps):js (.hl c::ps):=⟨h,(fun e=>by cases e),ay⟩
def qc{b:ByteArray}(h:jv b){ps:List dD}(ay:js ps)(ah:∀q m,ps=q::m->q.rE=false):js (.nm b.data.toList::ps):=⟨h,fun _=>ah,ay⟩
def aou{n:Nat}(h:n<100):js [.As n]:=⟨h,(fun _ q m e=>by cases e),trivial⟩
def eg{p:dD}{l:List dD}(h:p.rE=false):∀q m,p::l=q::m->q.rE=false:=fun q m e=>by cases e;exact h
def nr:∀(q:dD) (m:List dD),[]=q::m->q.rE=false:=fun q m e=>by cases e
def gO.fC.get{V:bt}{α:Type}{r:eA α}{ws:List (gT × Bool)}{x:α}(h:fC V r ws x){y:α}(e:x=y){a:Nat}{l:List (gT × Bool)}{n:Nat}(aJ:ws.length=n)(ai:jE V a (ws++l)):r a=.ok (y,a+n):=by
 subst e aJ;exact h a l ai
def gO.fC.map{V:bt}{α β:Type}{r:eA α}{ws:List (gT × Bool)}{x:α}(h:fC V r ws x)(f:α->β):fC V (r.bind fun y a=>.ok (f y,a)) ws (f x):=by
 have:=h.bind (g:=fun y a=>.ok (f y,a)) (fC.ret (f x))
 rwa[nn]at this
def acj{x:bI}(t:mJ x){o:Nat}(aX:x.op=(o:Int)){w:List UInt8}(hw:Lv w=true)(aq:y1 yG w=some o)(al:(cv x).data.toList=w++(32::(iG x.k).data.toList))(h:o=1\/o=2):sU x:=by
 have an:=t.vo.k (by omega)
 have aE:(e7 x.op).d=true/\(e7 x.op).a=false/\(e7 x.op).b=false/\(e7 x.op).f=false/\(e7 x.op).xs=false/\(e7 x.op).ls=false:=by
  rw[aX]
  rcases h with rfl|rfl<;>decide
 obtain⟨s1,s2,KA,K4,Im,IH⟩:=aE
 have aQ:=Gu (t.FW s1 (by omega) (by omega))
 refine⟨o,w,[.ar,.As x.k.toNat],aX,sw hw (l5 (aou (by omega))) (eg rfl),?_,by rw[bV aQ];exact aq,fun h=>absurd h aQ,fun V N a l aJ ai _=>?_⟩
 .rw[al,auJ];simp[gm,dD.kS]
 .have r:=(fC.size (V:=V) (Lib.decDigits x.k.toNat) x.k.toNat).map (fun n=>{ fE with op:=(o:Int),d:=x.d,k:=(n:Int) })
  have af:({ fE with op:=(o:Int),d:=x.d,k:=(x.k.toNat:Int) }:bI)=x:=by
   have bw:=t.AR s2;have a2:=t.vh KA;have a3:=t.yE K4;have a4:=t.ex Im;have a5:=t.el IH
   have ka:((x.k.toNat:Nat):Int)=x.k:=by omega
   rw[ka,<- aX];cases x;dsimp only at bw a2 a3 a4 a5;subst bw a2 a3 a4 a5;rfl
  rcases h with rfl|rfl<;>exact r.get af rfl ai
def aaP{x:bI}(t:mJ x){o:Nat}(aX:x.op=(o:Int)){w:List UInt8}(hw:Lv w=true)(aq:y1 yG w=some o)(al:(cv x).data.toList=w++(32::x.a.data.toList))(h:o=5\/o=8):sU x:=by
 have aE:(e7 x.op).d=true/\(e7 x.op).k=false/\(e7 x.op).b=false/\(e7 x.op).f=false/\(e7 x.op).xs=false/\(e7 x.op).ls=false:=by
  rw[aX]
  rcases h with rfl|rfl<;>decide
 obtain⟨s1,s2,KA,K4,Im,IH⟩:=aE
 have aQ:=Gu (t.FW s1 (by omega) (by omega))
 have aO:=t.a (by omega)
 refine⟨o,w,[.ar,.nm x.a.data.toList],aX,sw hw (l5 (qc aO trivial nr)) (eg rfl),?_,by rw[bV aQ];exact aq,fun h=>absurd h aQ,fun V N a l aJ ai _=>?_⟩
 .rw[al];simp[gm,dD.kS]
 .have r:=(fC.name (V:=V) x.a).map (fun s=>{ fE with op:=(o:Int),d:=x.d,a:=s })
  have af:({ fE with op:=(o:Int),d:=x.d,a:=x.a }:bI)=x:=by
   have bw:=t.ua s2;have a2:=t.vh KA;have a3:=t.yE K4;have a4:=t.ex Im;have a5:=t.el IH;rw[<- aX];cases x;dsimp only at bw a2 a3 a4 a5;subst bw a2 a3 a4 a5;rfl
  rcases h with rfl|rfl<;>exact r.get af rfl ai
open Go.ea Go.ea.Tok gO
def aSx{α:Type}{l:List α}(h:l.length=2):∃a b,l=[a,b]:=by
 match l,h with
 | [a,b],_=>exact⟨a,b,rfl⟩
theorem aI2{x:bI}(t:mJ x)(e:x.op=3):sU x:=by
 have s1:(e7 x.op).d=true:=by rw[e];rfl
 have aQ:=Gu (t.FW s1 (by omega) (by omega))
 have bw:=t.AR (by rw[e];rfl)
 have a2:=t.vh (by rw[e];rfl)
 have a3:=t.ua (by rw[e];rfl)
 have a4:=t.yE (by rw[e];rfl)
 have a5:=t.ex (by rw[e];rfl)
 have ka:=t.el (by rw[e];rfl)
 refine⟨3,[110,117,108,108],[],e,sw (by decide) trivial nr,by simp[cv,e,CT,gm],by rw[bV aQ];rfl,fun h=>absurd h aQ,fun V N a l aJ ai _=>?_⟩
 have af:({ fE with op:=((3:Nat):Int),d:=x.d }:bI)=x:=by
  cases x;dsimp only at bw a2 a3 a4 a5 ka e;subst bw a2 a3 a4 a5 ka e;rfl
 show Except.ok _=_;rw[af];rfl
def aSO{x:bI}(t:mJ x)(e:x.op=4):sU x:=by
 have s1:(e7 x.op).d=true:=by rw[e];rfl
 have aQ:=Gu (t.FW s1 (by omega) (by omega))
 have bw:=t.AR (by rw[e];rfl)
 have a2:=t.vh (by rw[e];rfl)
 have a3:=t.ua (by rw[e];rfl)
 have a5:=t.ex (by rw[e];rfl)
 have ka:=t.el (by rw[e];rfl)
 refine⟨4,[97,100,100,114],[.ar,.nm x.f.data.toList],e,sw (by decide) (l5 (qc (t.f (by omega)) trivial nr)) (eg rfl),?_,by rw[bV aQ];rfl,fun h=>absurd h aQ,fun V N a l aJ ai _=>?_⟩
 .rw[show cv x=dy [uc,x.f] by simp[cv,e],nI]
  simp[gm,dD.kS,uc]
 .have af:({ fE with op:=((4:Nat):Int),d:=x.d,f:=x.f }:bI)=x:=by
   cases x;dsimp only at bw a2 a3 a5 ka e;subst bw a2 a3 a5 ka e;rfl
  exact((fC.name (V:=V) x.f).map (fun s=>{ fE with op:=((4:Nat):Int),d:=x.d,f:=s })).get af rfl ai
def az9{x:bI}(t:mJ x)(e:x.op=7):sU x:=by
 have an:=t.vo.k (by omega)
 have s1:(e7 x.op).d=true:=by rw[e];rfl
 have aQ:=Gu (t.FW s1 (by omega) (by omega))
 have a2:=t.vh (by rw[e];rfl)
 have a4:=t.yE (by rw[e];rfl)
 have a5:=t.ex (by rw[e];rfl)
 have ka:=t.el (by rw[e];rfl)
 refine⟨7,[102,105,101,108,100],[.ar,.nm x.a.data.toList,.ar,.As x.k.toNat],e,sw (by decide) (l5 (qc (t.a (by omega)) (l5 (aou (by omega))) (eg rfl))) (eg rfl),?_,by rw[bV aQ];rfl,fun h=>absurd h aQ,fun V N a l aJ ai _=>?_⟩
 .rw[show cv x=dy [uW,x.a,iG x.k] by simp[cv,e],xY,auJ]
  simp[gm,dD.kS,uW]
 .have af:({ fE with op:=((7:Nat):Int),d:=x.d,a:=x.a,k:=(x.k.toNat:Int) }:bI)=x:=by
   have I9:((x.k.toNat:Nat):Int)=x.k:=by omega
   rw[I9];cases x;dsimp only at a2 a4 a5 ka e;subst a2 a4 a5 ka e;rfl
  exact((fC.name (V:=V) x.a).bind (g:=fun s=>(gq V).bind fun n a=>.ok ({ fE with op:=((7:Nat):Int),d:=x.d,a:=s,k:=n },a)) ((fC.size (Lib.decDigits x.k.toNat) x.k.toNat).map _)).get af rfl ai
def aRp{x:bI}(t:mJ x)(e:x.op=9):sU x:=by
 have aQ:x.d.size=0:=by rw[t.JV (by rw[e];rfl)];rfl
 have bw:=t.JV (by rw[e];rfl)
 have a3:=t.ua (by rw[e];rfl)
 have a4:=t.yE (by rw[e];rfl)
 have a5:=t.ex (by rw[e];rfl)
 have ka:=t.el (by rw[e];rfl)
 refine⟨9,[115,116,111,114,101],[.ar,.nm x.a.data.toList,.hl 44,.ar,.nm x.b.data.toList],e,sw (by decide) (l5 (qc (t.a (by omega)) (AS (by decide) (l5 (qc (t.b e) trivial nr))) (eg rfl))) (eg rfl),?_,by rw[bE aQ];rfl,fun _ k m h=>by cases h;rfl,fun V N a l aJ ai _=>?_⟩
 .rw[show cv x=dy [uU,x.a++p7,x.b] by simp[cv,e],xY,lu]
  simp[gm,dD.kS,uU,p7]
 .have af:({ fE with op:=((9:Nat):Int),d:=x.d,a:=x.a,b:=x.b }:bI)=x:=by
   cases x;dsimp only at bw a3 a4 a5 ka e;subst bw a3 a4 a5 ka e;rfl
  exact((fC.name (V:=V) x.a).bind (g:=fun s=>(fO V [44]).bind fun _=>(eC V).bind fun t a=>.ok ({ fE with op:=((9:Nat):Int),d:=x.d,a:=s,b:=t },a)) ((fC.sign 44).bind ((fC.name x.b).map _))).get af rfl ai
def aOX{x:bI}(t:mJ x)(e:x.op=10):sU x:=by
 have bw:=t.AR (by rw[e];rfl)
 have a2:=t.vh (by rw[e];rfl)
 have a3:=t.ua (by rw[e];rfl)
 have ka:=t.el (by rw[e];rfl)
 have ah:=SG (t.xs (by omega)) (r:=[]) trivial
 rw[nn]at ah
 refine⟨10,[99,97,108,108],.ar::.nm x.f.data.toList::w1 x.xs,e,sw (by decide) (l5 (qc (t.f (by omega)) ah (eg rfl))) (eg rfl),?_,by split<;>rfl,fun _ k m h=>by cases h;rfl,fun V N a l aJ ai _=>?_⟩
 .rw[show cv x=dy [u4,x.f++hT x.xs] by simp[cv,e],nI,lu,<- V0]
  simp[gm,dD.kS,u4]
 .have af:({ fE with op:=((10:Nat):Int),d:=x.d,f:=x.f,xs:=x.xs }:bI)=x:=by
   cases x;dsimp only at bw a2 a3 ka e;subst bw a2 a3 ka e;rfl
  have wT:nT (.ar::.nm x.f.data.toList::w1 x.xs)=[j6 x.f.data.toList]++(gC 40::(tG x.xs++[gC 41])):=by rw[<- QV];rfl
  have eo:x.xs.length<N:=by
   have:=SJ x.xs;have aa:=dV List.length wT;simp only[pY,c0,c3,eh]at aa;omega
  rw[wT]at ai
  exact((fC.name (V:=V) x.f).bind (g:=fun s=>(p' V N).bind fun l a=>.ok ({ fE with op:=((10:Nat):Int),d:=x.d,f:=s,xs:=l },a)) ((fC.list eo).map _)).get af (by rw[<- wT,pY]) ai
def aBf{x:bI}(t:mJ x)(e:x.op=11):sU x:=by
 have bw:=t.yE (by rw[e];rfl)
 have a2:=t.vh (by rw[e];rfl)
 have a3:=t.ua (by rw[e];rfl)
 have ka:=t.el (by rw[e];rfl)
 have ah:=SG (t.xs (by omega)) (r:=[]) trivial
 rw[nn]at ah
 refine⟨11,[105,99,97,108,108],.ar::.nm x.a.data.toList::w1 x.xs,e,sw (by decide) (l5 (qc (t.a (by omega)) ah (eg rfl))) (eg rfl),?_,by split<;>rfl,fun _ k m h=>by cases h;rfl,fun V N a l aJ ai _=>?_⟩
 .rw[show cv x=dy [tY,x.a++hT x.xs] by simp[cv,e],nI,lu,<- V0]
  simp[gm,dD.kS,tY]
 .have af:({ fE with op:=((11:Nat):Int),d:=x.d,a:=x.a,xs:=x.xs }:bI)=x:=by
   cases x;dsimp only at bw a2 a3 ka e;subst bw a2 a3 ka e;rfl
  have wT:nT (.ar::.nm x.a.data.toList::w1 x.xs)=[j6 x.a.data.toList]++(gC 40::(tG x.xs++[gC 41])):=by rw[<- QV];rfl
  have eo:x.xs.length<N:=by
   have:=SJ x.xs;have aa:=dV List.length wT;simp only[pY,c0,c3,eh]at aa;omega
  rw[wT]at ai
  exact((fC.name (V:=V) x.a).bind (g:=fun s=>(p' V N).bind fun l a=>.ok ({ fE with op:=((11:Nat):Int),d:=x.d,a:=s,xs:=l },a)) ((fC.list eo).map _)).get af (by rw[<- wT,pY]) ai
def aWo{x:bI}(t:mJ x)(e:x.op=12):sU x:=by
 have a0:=t.JV (by rw[e];rfl)
 have aQ:x.d.size=0:=by rw[a0];rfl
 have bw:=t.AR (by rw[e];rfl)
 have a2:=t.vh (by rw[e];rfl)
 have a3:=t.ua (by rw[e];rfl)
 have a4:=t.yE (by rw[e];rfl)
 have a5:=t.ex (by rw[e];rfl)
 obtain⟨u,v,aq⟩:=aSx (t.vo.DP e)
 have fS:=t.ls (by omega)
 refine⟨12,[98,114],[.ar,.nm u.data.toList,.ar,.nm v.data.toList],e,sw (by decide) (l5 (qc (fS u (by rw[aq];simp)) (l5 (qc (fS v (by rw[aq];simp)) trivial nr)) (eg rfl))) (eg rfl),?_,by rw[bE aQ];rfl,fun _ k m h=>by cases h;rfl,fun V N a l aJ ai _=>?_⟩
 .rw[show cv x=dy [uE,x.ls.getD 0 ⟨#[]⟩,x.ls.getD 1 ⟨#[]⟩] by simp[cv,e],xY,aq]
  simp[gm,dD.kS,uE]
 .have af:({ fE with op:=((12:Nat):Int),d:=x.d,ls:=[u,v] }:bI)=x:=by
   rw[<- aq];cases x;dsimp only at a0 bw a2 a3 a4 a5 e;subst a0 bw a2 a3 a4 a5 e;rfl
  exact((fC.name (V:=V) u).bind (g:=fun s=>(eC V).bind fun t a=>.ok ({ fE with op:=((12:Nat):Int),d:=x.d,ls:=[s,t] },a)) ((fC.name v).map _)).get af rfl ai
def aVh{x:bI}(t:mJ x)(e:x.op=13):sU x:=by
 have a0:=t.JV (by rw[e];rfl)
 have aQ:x.d.size=0:=by rw[a0];rfl
 have bw:=t.AR (by rw[e];rfl)
 have a2:=t.vh (by rw[e];rfl)
 have a3:=t.ua (by rw[e];rfl)
 have a4:=t.yE (by rw[e];rfl)
 have a5:=t.ex (by rw[e];rfl)
 obtain⟨u,aq⟩:=List.length_eq_one_iff.1 (t.vo.go e)
 have fS:=t.ls (by omega)
 refine⟨13,[103,111,116,111],[.ar,.nm u.data.toList],e,sw (by decide) (l5 (qc (fS u (by rw[aq];simp)) trivial nr)) (eg rfl),?_,by rw[bE aQ];rfl,fun _ k m h=>by cases h;rfl,fun V N a l aJ ai _=>?_⟩
 .rw[show cv x=dy [uD,x.ls.getD 0 ⟨#[]⟩] by simp[cv,e],nI,aq]
  simp[gm,dD.kS,uD]
 .have af:({ fE with op:=((13:Nat):Int),d:=x.d,ls:=[u] }:bI)=x:=by
   rw[<- aq];cases x;dsimp only at a0 bw a2 a3 a4 a5 e;subst a0 bw a2 a3 a4 a5 e;rfl
  exact((fC.name (V:=V) u).map (fun s=>{ fE with op:=((13:Nat):Int),d:=x.d,ls:=[s] })).get af rfl ai
def aEL{x:bI}(t:mJ x)(e:x.op=14):sU x:=by
 have a0:=t.JV (by rw[e];rfl)
 have aQ:x.d.size=0:=by rw[a0];rfl
 have a2:=t.vh (by rw[e];rfl)
 have a3:=t.ua (by rw[e];rfl)
 have a4:=t.yE (by rw[e];rfl)
 have a5:=t.ex (by rw[e];rfl)
 have ka:=t.el (by rw[e];rfl)
 have al:(cv x).data.toList=Lib.trimSuffix (tj.data.toList++(32::x.a.data.toList)) [32]:=by
  rw[show cv x=Bt x by simp[cv,e]]
  unfold Bt;rw[qj,nI]
 rcases t.r e with aO|aO
 .have bw:=L9 aO
  refine⟨14,[114,101,116],[],e,sw (by decide) trivial nr,?_,by rw[bE aQ];rfl,fun _ k m h=>(by cases h),fun V N a l aJ ai aq=>?_⟩
  .rw[al,aO];decide
  .obtain⟨w,m,rfl⟩:=aq;have kn:V.same a=false:=ai.1.2.2.2
   have af:({ fE with op:=((14:Nat):Int),d:=x.d }:bI)=x:=by
    cases x;dsimp only at a0 bw a2 a3 a4 a5 ka e;subst a0 bw a2 a3 a4 a5 ka e;rfl
   show(if(V.same a&&V.kind a==1)=true then _ else _)=_
   rw[kn,sK,bV (by decide),af]
   rfl
 .refine⟨14,[114,101,116],[.ar,.nm x.a.data.toList],e,sw (by decide) (l5 (qc aO trivial nr)) (eg rfl),?_,by rw[bE aQ];rfl,fun _ k m h=>by cases h;rfl,fun V N a l aJ ai aq=>?_⟩
  .rw[al,show tj.data.toList++(32::x.a.data.toList)=(tj.data.toList++[32])++x.a.data.toList by simp,aRm (aMy aO) _ (aCy aO)]
   simp[gm,dD.kS,tj]
  .have af:({ fE with op:=((14:Nat):Int),d:=x.d,a:=x.a }:bI)=x:=by
    cases x;dsimp only at a0 a2 a3 a4 a5 ka e;subst a0 a2 a3 a4 a5 ka e;rfl
   have J:V.kind a=1:=ai.1.1;have aa:V.same a=true:=ai.1.2.2.2
   show(if(V.same a&&V.kind a==1)=true then _ else _)=_
   rw[J,aa];exact((fC.name (V:=V) x.a).map (fun s=>{ fE with op:=((14:Nat):Int),d:=x.d,a:=s })).get af rfl ai
def aBc{x:bI}(t:mJ x)(e:x.op=6):sU x:=by
 have aQ:=Gu (t.FW (by rw[e];rfl) (by omega) (by omega))
 have bw:=t.AR (by rw[e];rfl)
 have a2:=t.vh (by rw[e];rfl)
 have a3:=t.ua (by rw[e];rfl)
 have a4:=t.yE (by rw[e];rfl)
 have nO:=t.vo.Cu e
 have cC:=t.ls (by omega)
 have b5:=t.xs (by omega)
 have iv:∀p∈x.ls.zip x.xs,jv p.1/\jv p.2:=fun p ay=>⟨cC _ (List.of_mem_zip ay).1,b5 _ (List.of_mem_zip ay).2⟩;cases bK:x.ls.zip x.xs with
 |nil=>
   have:=dV List.length bK;rw[List.length_zip,nO,TZ]at this;exact absurd (lX (nO.trans this)) (t.q8 e)
 |cons p l=>
   rw[bK]at iv;obtain⟨m1,m2⟩:=iv p hJ
   obtain⟨gz,lO⟩:=ag7 (r:=[.hl 93]) (AS (by decide) trivial) (eg rfl) (l:=l) fun q bJ=>iv q (d9 _ bJ)
   have fU:js (BD p l++[.hl 93]):=qc m1 (AS (by decide) (l5 (qc m2 gz lO))) (eg rfl)
   refine⟨6,[112,104,105],.ar::.hl 91::(BD p l++[.hl 93]),e,sw (by decide) (l5 (AS (by decide) fU)) (eg rfl),?_,by rw[bV aQ];rfl,fun h=>absurd h aQ,fun V N a r aJ ai _=>?_⟩
   .rw[show cv x=dy [ur,qV x] by simp[cv,e],nI,aC9 nO bK]
    simp[gm,dD.kS,ur]
   .have qR:(p::l).map (·.1)=x.ls:=by rw[<- bK];exact List.map_fst_zip (by omega)
    have jL:(p::l).map (·.2)=x.xs:=by rw[<- bK];exact List.map_snd_zip (by omega)
    have af:({ fE with op:=((6:Nat):Int),d:=x.d,ls:=x.ls,xs:=x.xs }:bI)=x:=by
     cases x;dsimp only at bw a2 a3 a4 e;subst bw a2 a3 a4 e;rfl
    have wT:nT (.ar::.hl 91::(BD p l++[.hl 93]))=[gC 91]++(j6 p.1.data.toList::gC 58::j6 p.2.data.toList::(q7 l++[gC 93])):=by
     rw[<- aos];simp[nT,h7,dD.wd,BD]
    have aa:=dV List.length wT
    have eo:l.length<N:=by
     have:=awF l;simp only[pY,c0,c3,eh]at aa;omega
    rw[wT,gi]at ai;have aE:=fC.sign 91 a _ ai
    have sL:jE V (a+1) (j6 p.1.data.toList::gC 58::j6 p.2.data.toList::(q7 l++gC 93::r)):=by
     have:=ai.app
     simpa using this
    have aU:=atT l p N [] [] eo (a+1) r sL;have aHy:jE V (a+1) ((j6 p.1.data.toList::gC 58::j6 p.2.data.toList::q7 l)++([gC 93]++r)):=sL;have cd:=fC.sign 93 _ _ aHy.app;show((fO V [91]).bind fun _=>(qE V N [] []).bind fun p=>(fO V [93]).bind fun _ a=>.ok ({ fE with op:=((6:Nat):Int),d:=x.d,ls:=p.1,xs:=p.2 },a)) a=_;unfold eA.bind;rw[aE]; simp only[jd];rw[aU]; simp only[dB]
    rw[show a+1+3+(q7 l).length=a+1+(j6 p.1.data.toList::gC 58::j6 p.2.data.toList::q7 l).length by simp only[c3];omega,cd]
    dsimp only;rw[qR,jL,af];simp only[pY,c0,c3,eh]at aa;rw[aa];simp only[c3,eh]
    congr 2
    omega
def back{x:bI}(t:mJ x):sU x:=by
 rcases t.vo.op with e|e|e|e|e|e|e|e|e|e|e|e|e|e
 .exact acj t (o:=1) e (w:=[97,108,108,111,99,97]) (by decide) rfl (by rw[show cv x=dy [wh,iG x.k] by simp[cv,e],nI];rfl) (.inl rfl)
 .exact acj t (o:=2) e (w:=[109,97,108,108,111,99]) (by decide) rfl (by rw[show cv x=dy [wE,iG x.k] by simp[cv,e],nI];rfl) (.inr rfl)
 .exact aI2 t e
 .exact aSO t e
 .exact aaP t (o:=5) e (w:=[99,111,112,121]) (by decide) rfl (by rw[show cv x=dy [we,x.a] by simp[cv,e],nI];rfl) (.inl rfl)
 .exact aBc t e
 .exact az9 t e
 .exact aaP t (o:=8) e (w:=[108,111,97,100]) (by decide) rfl (by rw[show cv x=dy [vm,x.a] by simp[cv,e],nI];rfl) (.inr rfl)
 .exact aRp t e
 .exact aOX t e
 .exact aBf t e
 .exact aWo t e
 .exact aVh t e
 .exact aEL t e
open Go.ea Go.ea.Tok gO
abbrev lw(l:List dD):List (gT × Bool):=K0 (h7 l)
def aVX(x:bI)(ps:List dD):Prop:=js ps/\gm ps=32::32::(tE x).data.toList/\h7 ps≠[]/\∀(V:bt) (N a:Nat) (l:List (gT × Bool)),(h7 ps).length<N->jE V a (lw ps++l)->zI l->sR V N a=.ok (x,a+(h7 ps).length)/\V.same a=false/\V.kind a=1/\mD V [58] a=false
def agQ{V:bt}{a:Nat}{l:List (gT × Bool)}(h:jE V a l)(aq:zI l):V.same a=false:=by
 obtain⟨w,m,rfl⟩:=aq;exact h.1.2.2.2
def aGl{x:bI}(t:mJ x):∃ps,aVX x ps:=by
 obtain⟨o,w,ps,aX,fU,al,tK,aIC,fz⟩:=back t;by_cases aQ:x.d.size=0
 .have I1:x.d=⟨#[]⟩:=L9 (lX aQ)
  refine⟨.ar::.ar::.nm w::ps,l5 (l5 fU),?_,by simp[h7,dD.wd],fun V N a l aJ ai aq=>?_⟩
  .unfold tE;rw[bE aQ,al];rfl
  .have hw:h7 (.ar::.ar::.nm w::ps)=(1,w,0)::h7 ps:=rfl;rw[hw]at aJ |-;have hV:jE V a (((1,w,0),false)::(nT ps++l)):=ai;obtain⟨⟨k1,k2,_,j5⟩,sL⟩:=hV;rw[c3]at aJ |-
   have ak:=fz V N (a+1) l (by omega) sL aq
   have mX:∀c:UInt8,mD V [c] a=false:=fun c=>by
    unfold mD;cases ay:h7 ps with
    |nil=>
      have bK:nT ps=[]:=by simp[nT,ay]
      rw[bK]at sL;rw[agQ sL aq,IN,IN]
    |cons k m=>
      have J:=aIC aQ k m ay
      have bK:nT ps=(k,true)::m.map fun w=>(w,true):=by simp[nT,ay]
      rw[bK]at sL;have aa:V.kind (a+1)=1:=sL.1.1.trans J;rw[aa];simp
   refine⟨?_,j5,k1,mX 58⟩;unfold sR uV
   rw[mX 61,bV (by decide),k2,k1]
   rw[bE aQ]at tK;rw[tK,<- I1];dsimp only;rw[bE rfl,ak]
   congr 2
   omega
 .have I1:x.d.data.toList≠[]:=fun e=>aQ (by rw[L9 e];rfl)
  have lN:=t.d I1
  refine⟨.ar::.ar::.nm x.d.data.toList::.ar::.hl 61::.ar::.nm w::ps,l5 (l5 (qc lN (l5 (AS (by decide) (l5 fU))) (eg rfl))),?_,by simp[h7,dD.wd],fun V N a l aJ ai aq=>?_⟩
  .unfold tE;rw[bV aQ,xY,al];simp[gm,dD.kS]
  .have hw:h7 (.ar::.ar::.nm x.d.data.toList::.ar::.hl 61::.ar::.nm w::ps)=(1,x.d.data.toList,0)::(3,[61],0)::(1,w,0)::h7 ps:=rfl;rw[hw]at aJ |-;have hV:jE V a (((1,x.d.data.toList,0),false)::gC 61::j6 w::(nT ps++l)):=ai;obtain⟨⟨k1,k2,_,j5⟩,⟨oj,oK,_,wO⟩,⟨i1,i2,_,i4⟩,sL⟩:=hV;rw[c3,c3,c3]at aJ |-
   have ak:=fz V N (a+1+1+1) l (by omega) sL aq
   refine⟨?_,j5,k1,?_⟩
   .unfold sR mD uV;dsimp only at k1 k2 j5 oj oK wO i1 i2 i4
    rw[k1,oj,oK,wO,bE (by decide),show a+2=a+1+1 from rfl,i4,bE rfl,i2,i1]
    rw[bV aQ]at tK;rw[tK,k2,anJ];dsimp only;rw[bE rfl,ak]
    congr 2
    omega
   .unfold mD;dsimp only at k1 oj oK wO;rw[k1,oj,oK];simp
def wH(L:List (List dD))(di:List UInt8)(R:List ey->List ey->Prop):Prop:=(∀l∈L,js l/\h7 l≠[])/\oP L=di/\∀(V:bt) (N m:Nat) (nm:ByteArray) (ps:List ByteArray) (bs lP:List ey) (a:Nat) (l:List (gT × Bool)),R bs lP->(L.flatMap lw).length<N->jE V a (L.flatMap lw++l)->zI l->oR V N nm ps (m+L.length) bs a=oR V N nm ps m lP (a+(L.flatMap lw).length)
def aOd{ps:List dD}(h:h7 ps≠[])(r:List (gT × Bool)):zI (lw ps++r):=by
 cases e:h7 ps with
 |nil=>exact absurd e h
 |cons w m=>exact⟨w,m.map (fun x=>(x,true))++r,by unfold lw;rw[e];rfl⟩
def aj0:∀{L:List (List dD)} {r:List (gT × Bool)},(∀l∈L,h7 l≠[])->zI r->zI (L.flatMap lw++r)
 | [],_,_,h=>h
 |l::L,r,h,_=>by
   rw[FZ,gi];exact aOd (h l hJ) _
def awu{ps:List dD}:(lw ps).length=(h7 ps).length:=by
 unfold lw;cases h7 ps<;>simp[K0]
def wH.nil{R:List ey->List ey->Prop}(h:∀b c,R b c->b=c):wH [] [] R:=⟨fun _ h=>(by cases h),rfl,fun _ _ _ _ _ bs lP _ _ ak _ _ _=>by rw[h bs lP ak];rfl⟩
def wH.cat{L M:List (List dD)}{s t:List UInt8}{R Q S:List ey->List ey->Prop}(h:wH L s R)(k:wH M t Q)(e:∀b d,S b d->∃c,R b c/\Q c d):wH (L++M) (s++t) S:=by
 obtain⟨J,aa,aI⟩:=h;obtain⟨k1,k2,eN⟩:=k
 refine⟨fun l aq=>(pu.1 aq).elim (J l) (k1 l),by rw[oP,yK,<- aa,<- k2];rfl,fun V N m nm ps bs lP a l ak aJ ai aq=>?_⟩
 obtain⟨c,bP,ca⟩:=e bs lP ak;rw[yK,c0]at aJ |-;rw[yK,gi]at ai
 rw[c0,show m+(L.length+M.length)=(m+M.length)+L.length by omega,aI V N _ nm ps bs c a _ bP (by omega) ai (aj0 (fun l aq=>(k1 l aq).2) aq),eN V N m nm ps c lP _ l ca (by omega) ai.app aq,qs]
def aoE(xs:List bI)(b d:List ey):Prop:=∃q yu c,b=q++[⟨yu,c⟩]/\d=q++[⟨yu,c++xs⟩]
def afJ(ps:List dD):[ps].flatMap lw=lw ps:=by simp
def are(ps:List dD):oP [ps]=gm ps++[10]:=by simp[oP]
def ayD{x:bI}(t:mJ x):∃L,wH L (vJ x).data.toList (aoE [x]):=by
 obtain⟨ps,J,aa,aI,bl⟩:=aGl t;refine⟨[ps],fun l aq=>?_,?_,fun V N m nm mi bs lP a l ak aJ ai aq=>?_⟩
 .rw[eQ.1 aq];exact⟨J,aI⟩
 .rw[are,aa];unfold vJ lH jK Lib.join;rw[lu,qj,dW,dW,hC,xd,tX];rfl
 .obtain⟨q,yu,c,rfl,rfl⟩:=ak;rw[afJ]at aJ ai |-;rw[awu]at aJ |-;obtain⟨g1,g2,g3,g4⟩:=bl V N a l aJ ai aq;rw[jd,oR]
  have fe:ry V a=false:=by unfold ry;rw[g2,sK]
  rw[fe,bV (by decide),g3,bV (by simp),g4,bV (by decide),bV (by simp)]
  unfold eA.bind;rw[g1];dsimp only
  congr 1
  simp[gO.yy]
def apv:∀{xs:List bI},(∀x∈xs,mJ x)->∃L,wH L (nU xs) (aoE xs)
 | [],_=>⟨[],.nil fun b c h=>by obtain⟨q,yu,k,rfl,rfl⟩:=h;rw[nn]⟩
 |x::xs,h=>by
   obtain⟨L,cU⟩:=ayD (h x hJ);obtain⟨M,cS⟩:=apv (xs:=xs) fun y bC=>h y (d9 _ bC)
   exact⟨L++M,cU.cat cS fun b d ak=>by
    obtain⟨q,yu,c,rfl,rfl⟩:=ak
    exact⟨q++[⟨yu,c++[x]⟩],⟨q,yu,c,rfl,rfl⟩,q,yu,c++[x],rfl,by rw[gi];rfl⟩⟩
theorem aKq{b:ByteArray}(h:jv b):wH [[.nm b.data.toList,.hl 58]] (lH [b,⟨#[58]⟩]).data.toList (fun bs lP=>lP=bs++[⟨b,[]⟩]):=by
 refine⟨fun l aq=>?_,?_,fun V N m nm mi bs lP a l ak aJ ai aq=>?_⟩
 .rw[eQ.1 aq]
  exact⟨qc h (AS (by decide) trivial) (eg rfl),by simp[h7,dD.wd]⟩
 .rw[are];unfold lH jK Lib.join;rw[lu,qj,dW,dW,hC,xd,tX];simp[gm,dD.kS]
 .subst ak;rw[afJ]at ai |-;have hV:jE V a (((1,b.data.toList,0),false)::gC 58::l):=ai;obtain⟨⟨k1,k2,_,j5⟩,⟨oj,oK,_,wO⟩,_⟩:=hV;dsimp only at k1 k2 j5 oj oK wO;rw[jd,oR]
  have fe:ry V a=false:=by unfold ry;rw[j5,sK]
  have s1:mD V [58] a=true:=by unfold mD;rw[k1,oj,oK,wO];rfl
  rw[fe,bV (by decide),k1,bV (by simp),s1,bE rfl,k2,anJ]
  rfl
def aWE{b:ey}(aJ:jv b.label)(h:∀x∈b.code,mJ x):∃L,wH L (yA b) (fun bs lP=>lP=bs++[b]):=by
 obtain⟨M,cS⟩:=apv h;refine⟨_,(aKq aJ).cat cS fun c d ak=>?_⟩;exact⟨c++[⟨b.label,[]⟩],rfl,c,b.label,[],rfl,ak⟩
def aqt:∀{bs:List ey},(∀b∈bs,jv b.label/\∀x∈b.code,mJ x)->∃L,wH L (nV bs) (fun c d=>d=c++bs)
 | [],_=>⟨[],.nil fun b c h=>by rw[h,nn]⟩
 |b::bs,h=>by
   obtain⟨J,aa⟩:=h b hJ;obtain⟨L,cU⟩:=aWE J aa;obtain⟨M,cS⟩:=aqt (bs:=bs) fun y bC=>h y (d9 _ bC)
   exact⟨L++M,cU.cat cS fun c d ak=>⟨c++[b],rfl,by rw[ak,gi];rfl⟩⟩
open Go.ea Go.ea.Tok gO
def S6:∀{L:List (List dD)},(∀l∈L,js l/\h7 l≠[])->L.length<=(L.flatMap lw).length
 | [],_=>cq _
 |l::L,h=>by
   have J:=S6 (L:=L) fun x af=>h x (d9 _ af);have aa:0<(h7 l).length:=List.length_pos_iff.2 (h l hJ).2;rw[FZ,c0,awu,c3];omega
def aKP(L:List (List dD))(f:cT):Prop:=(∀l∈L,js l/\h7 l≠[])/\oP L=lr f/\1<=L.length/\∀(V:bt) (N a:Nat) (l:List (gT × Bool)),(L.flatMap lw).length<N->jE V a (L.flatMap lw++l)->zI l->V.kind a=1/\V.text a=[102,117,110,99]/\gO.lr V N a=.ok (f,a+(L.flatMap lw).length)
def aE9{f:cT}(t:yq f):∃L,aKP L f:=by
 obtain⟨M,m1,m2,m3⟩:=aqt t.b
 have ah:=SG t.ps (r:=[.ar,.hl 123]) (l5 (AS (by decide) trivial))
 obtain⟨aQ,T7⟩:∃x,dD.nm [102,117,110,99]::.ar::.nm f.name.data.toList::(w1 f.ps++[.ar,.hl 123])=x:=⟨_,rfl⟩
 have aTG:js aQ:=T7▸sw (by decide) (l5 (qc t.n ah (eg rfl))) (eg rfl)
 have Fk:lw aQ=((1,[102,117,110,99],0),false)::([j6 f.name.data.toList]++((gC 40::(tG f.ps++[gC 41]))++[gC 123])):=by
  rw[<- QV,<- T7];simp[lw,h7,K0,dD.wd,nT]
 have r9:lw [.hl 125]=[((3,[125],0),false)]:=rfl
 have key:(aQ::(M++[[.hl 125]])).flatMap lw=lw aQ++(M.flatMap lw++lw [.hl 125]):=by simp
 have hM:∀l∈aQ::(M++[[.hl 125]]),js l/\h7 l≠[]:=by
  intro l aq
  rcases nj.1 aq with rfl|aq
  .refine⟨aTG,fun e=>?_⟩
   have:lw l=[]:=by unfold lw;rw[e];rfl
   rw[this]at Fk;cases Fk
  .rcases pu.1 aq with aq|aq
   .exact m1 l aq
   .rw[eQ.1 aq]
    exact⟨AS (by decide) trivial,by simp[h7,dD.wd]⟩
 refine⟨aQ::(M++[[.hl 125]]),hM,?_,by simp,fun V N a l aJ ai aq=>?_⟩
 .have aE:oP (aQ::(M++[[.hl 125]]))=gm aQ++10::(oP M++[125,10]):=by simp[oP,gm,dD.kS]
  rw[aE,m2,<- T7];unfold lr B5 Fe lH jK Lib.join uJ;rw[lu,lu,qj,qj,dW,hC,tX,dW,hC,tX,xY,lu,<- V0];simp[gm,dD.kS,DL]
 .have cS:M.length<=(M.flatMap lw).length:=S6 m1;rw[key]at aJ ai |-;rw[Fk,r9]at aJ ai |-;rw[gi]at ai
  have aKl:jE V a (((1,[102,117,110,99],0),false)::([j6 f.name.data.toList]++((gC 40::(tG f.ps++[gC 41]))++([gC 123]++(M.flatMap lw++(((3,[125],0),false)::l)))))):=by
   simpa using ai
  obtain⟨⟨k1,k2,_,_⟩,Bg⟩:=aKl;have eo:=SJ f.ps;simp only[c3,c0,eh]at aJ;have bP:=fC.name f.name _ _ Bg
  have ca:=fC.list (N:=N) (by omega) _ _ Bg.app
  have dw:=fC.sign 123 _ _ Bg.app.app;have aiO:=Bg.app.app.app
  obtain⟨m,rfl⟩:∃m,N=(m+1)+M.length:=⟨N-M.length-1,by omega⟩
  have e':=m3 V (m+1+M.length) (m+1) f.name f.ps [] f.blocks _ _ rfl (by omega) aiO ⟨_,_,rfl⟩
  have aN1:=aiO.app;obtain⟨⟨oj,oK,_,wO⟩,aQB⟩:=aN1;dsimp only at oj oK wO k1 k2;refine⟨k1,k2,?_⟩;unfold gO.lr eA.bind;rw[bP];dsimp only;rw[ca];dsimp only;rw[dw];dsimp only;rw[e',oR];have fe:=agQ aQB aq;unfold ry
  rw[wO,sK,bV (by decide),oj,oK,bE (by simp),fe,sK,bV (by decide)]
  congr 2
  simp only[c3,c0,eh];omega
theorem aom:∀{fs:List cT},(∀f∈fs,yq f)->∃L:List (List dD),(∀l∈L,js l/\h7 l≠[])/\oP L=h6 fs/\fs.length<=L.length/\∀(V:bt) (N m:Nat) (gs:List cT) (a:Nat) (l:List (gT × Bool)),(L.flatMap lw).length<N->jE V a (L.flatMap lw++l)->zI l->rX V N (m+fs.length) gs a=rX V N m (gs++fs) (a+(L.flatMap lw).length)
 | [],_=>⟨[],fun _ h=>(by cases h),rfl,cq _,fun V N m gs a l _ _ _=>by rw[nn];rfl⟩
 |f::fs,h=>by
   obtain⟨L,cW,fZ,qM,iM⟩:=aE9 (h f hJ);obtain⟨M,m1,m2,m3,m4⟩:=aom (fs:=fs) fun y bC=>h y (d9 _ bC)
   refine⟨L++M,fun l aq=>(pu.1 aq).elim (cW l) (m1 l),?_,by rw[c0,c3];omega,fun V N m gs a l aJ ai aq=>?_⟩
   .rw[oP,yK];show oP L++oP M=_;rw[fZ,m2];rfl
   .rw[yK,c0]at aJ |-;rw[yK,gi]at ai
    obtain⟨g1,g2,g3⟩:=iM V N a _ (by omega) ai (aj0 (fun l aq=>(m1 l aq).2) aq)
    rw[c3,show m+(fs.length+1)=(m+fs.length)+1 by omega,rX,g1,bV (by decide),g2,bV (by simp)]
    unfold eA.bind;rw[g3];dsimp only
    rw[m4 V N m _ _ l (by omega) ai.app aq,gi,qs]
    rfl
def aq1:∀(l:List (gT × Nat)) (p:Option Nat),(yH p l).length=l.length
 | [],_=>rfl
 |k::l,p=>by rw[yH,c3,aq1 l,c3]
def ayL{fs:List cT}(h:∀f∈fs,yq f):∃ao,Tok.lex (h6 fs) 1 1=.done ao/\GH ao=.ok fs:=by
 obtain⟨L,cW,fZ,qM,iM⟩:=aom h;obtain⟨ao,t1,t2⟩:=asx L (fun l aq=>(cW l aq).1) 1;rw[fZ]at t1;refine⟨ao,t1,?_⟩;have ai:=adj ao [];rw[dB,t2]at ai
 have kn:=al1 L (fun l aq=>(cW l aq).2) 1 none (fun q e=>by cases e)
 have dn:(L.flatMap lw).length+1=ao.length:=by
  have aE:=dV List.length kn;rw[aq1,<- t2,pY,c0]at aE;exact aE.symm
 have awm:jE (bt.of ao) 0 (L.flatMap lw++[(Me,false)]):=by
  have e:(([]:List T).getLast?.map T.line)=none:=rfl;rw[e,kn]at ai;exact ai
 have nO:=S6 cW
 have:=iM (bt.of ao) (ao.length+1) (ao.length+1-fs.length) [] 0 [(Me,false)] (by omega) awm ⟨_,_,rfl⟩
 rw[show ao.length+1-fs.length+fs.length=ao.length+1 by omega,dB,mx]at this
 unfold GH;rw[this]
 obtain⟨m,hm⟩:∃m,ao.length+1-fs.length=m+1:=⟨ao.length-fs.length,by omega⟩
 have an:(bt.of ao).kind (L.flatMap lw).length=4:=by
  have:=awm.app;rw[mx]at this;exact this.1.1
 rw[hm,rX,an,bE rfl]
end Go.Proofs.YtngfpadeebpoeaaGreatDoor
set_option maxRecDepth 100000
namespace Go.Proofs.YtngfpadeebpoeaaGreatDoor.gO
open Go.Proofs.YtngfpadeebpoeaaGreatDoor Go.ea
def gu(xs:List ByteArray):Nat:=(xs.map fun s=>s.size+1).sum
def i'(x:bI):Nat:=x.d.size+x.a.size+x.b.size+x.f.size+gu x.xs+gu x.ls+1
def wP(l:List bI):Nat:=(l.map i').sum
def rZ(b:ey):Nat:=b.label.size+1+wP b.code
def po(l:List ey):Nat:=(l.map rZ).sum
def kV(f:cT):Nat:=f.name.size+1+gu f.ps+po f.blocks
def mA(l:List cT):Nat:=(l.map kV).sum
def F0(a b:List ByteArray):gu (a++b)=gu a+gu b:=by simp[gu]
def aIJ(a b:List ey):po (a++b)=po a+po b:=by simp[po]
def aJm(a b:List cT):mA (a++b)=mA a+mA b:=by simp[mA]
def GC(s:ByteArray):gu [s]=s.size+1:=by simp[gu]
section
variable (V:bt)
def wt(i:Nat):Nat:=if V.kind i=4 then 0 else(V.text i).length+1
def W:Nat->Nat
 |0=>0
 |n+1=>W n+wt V n
end
section
variable {V:bt}
def xc{a:Nat}(h:V.kind a≠4):W V (a+1)=W V a+((V.text a).length+1):=by rw[W,wt,bV h]
def ih{α β:Type}{r:eA α}{g:α->eA β}{a c:Nat}{y:β}(h:r.bind g a=.ok (y,c)):∃x b,r a=.ok (x,b)/\g x b=.ok (y,c):=by
 unfold eA.bind at h;cases e:r a with
 |error j=>rw[e]at h;cases h
 |ok p=>rw[e]at h;exact⟨p.1,p.2,rfl,h⟩
def p1{a b:Nat}{s:ByteArray}(h:eC V a=.ok (s,b)):W V a+(s.size+1)<=W V b:=by
 unfold eC at h;split at h
 .rename_i ab;cases h;rw[dR,lc]at ab
  rw[xc (by rw[ab.2];decide)]
  exact cq _
 .cases h
def Qy{a b n:Nat}(h:gq V a=.ok (n,b)):W V a+1<=W V b:=by
 unfold gq at h;split at h
 .rename_i ab;cases h;rw[dR,lc]at ab
  rw[xc (by rw[ab.2];decide)]
  omega
 .cases h
def zl{a b:Nat}{c:List UInt8}{u:Unit}(h:fO V c a=.ok (u,b)):W V a+1<=W V b:=by
 unfold fO nY at h;split at h
 .rename_i ab;cases h;rw[dR,dR,lc]at ab
  rw[xc (by rw[ab.1.2];decide)]
  omega
 .cases h
def Vh:∀(n:Nat) (acc:List ByteArray) (a b:Nat) (l:List ByteArray),lD V n acc a=.ok (l,b)->W V a+gu l<=W V b+gu acc
 |0,_,_,_,_,h=>by cases h
 |n+1,acc,a,b,l,h=>by
   rw[lD]at h;split at h
   .cases h;exact cq _
   .split at h
    .obtain⟨_,bw,J,h⟩:=ih h;obtain⟨s,a2,aa,h⟩:=ih h;have:=zl J;have:=p1 aa;have:=Vh n _ _ _ _ h;rw[F0,GC]at this;omega
    .obtain⟨s,a2,aa,h⟩:=ih h;have:=p1 aa;have:=Vh n _ _ _ _ h;rw[F0,GC]at this;omega
def R5{N a b:Nat}{l:List ByteArray}(h:p' V N a=.ok (l,b)):W V a+gu l<=W V b:=by
 obtain⟨_,bw,J,h⟩:=ih h;obtain⟨s,a2,aa,h⟩:=ih h;obtain⟨_,a3,aI,h⟩:=ih h;cases h;have:=zl J;have:=Vh _ _ _ _ _ aa;have:=zl aI;rw[show gu []=0 from rfl]at *;omega
def an1:∀(n:Nat) (ls xs:List ByteArray) (a b:Nat) (p:List ByteArray × List ByteArray),qE V n ls xs a=.ok (p,b)->W V a+gu p.1+gu p.2<=W V b+gu ls+gu xs
 |0,_,_,_,_,_,h=>by cases h
 |n+1,ls,xs,a,b,p,h=>by
   rw[qE]at h;obtain⟨s,bw,J,h⟩:=ih h;obtain⟨_,a2,aa,h⟩:=ih h;obtain⟨t,a3,aI,h⟩:=ih h;have:=p1 J;have:=zl aa;have:=p1 aI;split at h
   .obtain⟨_,a4,bl,h⟩:=ih h;have:=zl bl;have:=an1 n _ _ _ _ _ h;rw[F0,F0,GC,GC]at this;omega
   .cases h;rw[F0,F0,GC,GC];omega
def aD8{N:Nat}:∀(o:Nat) (x y:bI) (a b:Nat),BY V N o x a=.ok (y,b)->W V a+i' y<=W V b+i' x:=by
 intro o x y a b h;unfold BY at h;split at h
 .obtain⟨lk,a0,bd,h⟩:=ih h;cases h;have:=Qy bd;simp only[i',gu]at *;omega
 .obtain⟨lk,a0,bd,h⟩:=ih h;cases h;have:=Qy bd;simp only[i',gu]at *;omega
 .cases h;exact cq _
 .obtain⟨lk,a0,bd,h⟩:=ih h;cases h;have:=p1 bd;simp only[i',gu]at *;omega
 .obtain⟨lk,a0,bd,h⟩:=ih h;cases h;have:=p1 bd;simp only[i',gu]at *;omega
 .obtain⟨lk,a0,bd,h⟩:=ih h;cases h;have:=p1 bd;simp only[i',gu]at *;omega
 .obtain⟨lk,a0,bd,h⟩:=ih h;obtain⟨s1,bw,J,h⟩:=ih h;obtain⟨s2,a2,aa,h⟩:=ih h;cases h;have:=zl bd;have:=an1 _ _ _ _ _ _ J;have:=zl aa;simp only[i',gu]at *;omega
 .obtain⟨lk,a0,bd,h⟩:=ih h;obtain⟨s1,bw,J,h⟩:=ih h;cases h;have:=p1 bd;have:=Qy J;simp only[i',gu]at *;omega
 .obtain⟨lk,a0,bd,h⟩:=ih h;obtain⟨s1,bw,J,h⟩:=ih h;obtain⟨s2,a2,aa,h⟩:=ih h;cases h;have:=p1 bd;have:=zl J;have:=p1 aa;simp only[i',gu]at *;omega
 .obtain⟨lk,a0,bd,h⟩:=ih h;obtain⟨s1,bw,J,h⟩:=ih h;cases h;have:=p1 bd;have:=R5 J;simp only[i',gu]at *;omega
 .obtain⟨lk,a0,bd,h⟩:=ih h;obtain⟨s1,bw,J,h⟩:=ih h;cases h;have:=p1 bd;have:=R5 J;simp only[i',gu]at *;omega
 .obtain⟨lk,a0,bd,h⟩:=ih h;obtain⟨s1,bw,J,h⟩:=ih h;cases h;have:=p1 bd;have:=p1 J;simp only[i',gu,dW,hC,ti,Zr]at *;omega
 .obtain⟨lk,a0,bd,h⟩:=ih h;cases h;have:=p1 bd;simp only[i',gu,dW,hC,ti,Zr]at *;omega
 .dsimp only at h;split at h
  .obtain⟨lk,a0,bd,h⟩:=ih h;cases h;have:=p1 bd;simp only[i',gu]at *;omega
  .cases h;exact cq _
 .cases h
def ak9{N a b:Nat}{d:ByteArray}{l:List (List UInt8 × Nat)}{y:bI}(h:uV V N d l a=.ok (y,b)):W V a+i' y<=W V b+d.size:=by
 unfold uV at h;split at h
 .split at h<;>cases h
 .split at h
  .rename_i an;have:=aD8 _ _ _ _ _ h
   rw[xc (by rw[an];decide)]at this
   have e:∀o:Int,i' { fE with op:=o,d:=d }=d.size+1:=fun o=>by
    simp[i',fE,gu];rfl
   rw[e]at this;omega
  .cases h
def aEy{N a b:Nat}{y:bI}(h:sR V N a=.ok (y,b)):W V a+i' y<=W V b:=by
 unfold sR at h;split at h
 .rename_i ai;split at h
  .have:=ak9 h;unfold mD at ai;rw[dR,dR,dR,lc,lc]at ai
   have aE:=xc (V:=V) (a:=a) (by rw[ai.1];decide)
   have aU:=xc (V:=V) (a:=a+1) (by rw[ai.2.1.1];decide)
   have cd:(kL (V.text a)).size=(V.text a).length:=tr ..;rw[show a+1+1=a+2 from rfl]at aU;omega
  .cases h
 .have:=ak9 h;have cd:(⟨#[]⟩:ByteArray).size=0:=rfl;omega
def aCK(bs:List ey)(x:bI):po (gO.yy bs x)<=po bs+i' x:=by
 rcases List.eq_nil_or_concat bs with rfl|⟨q,b,rfl⟩
 .exact gY _
 .simp[gO.yy,po,rZ,wP];omega
def X0{N:Nat}{nm:ByteArray}{ps:List ByteArray}:∀(n:Nat) (bs:List ey) (a b:Nat) (f:cT),oR V N nm ps n bs a=.ok (f,b)->f.name=nm/\f.ps=ps/\W V a+po f.blocks<=W V b+po bs
 |0,_,_,_,_,h=>by cases h
 |n+1,bs,a,b,f,h=>by
   rw[oR]at h;split at h
   .cases h
   split at h
   .rename_i an;split at h
    .cases h
    .cases h;rw[dR,lc]at an
     have aE:=xc (V:=V) (a:=a) (by rw[an.1];decide)
     exact⟨rfl,rfl,by dsimp only;omega⟩
   split at h
   .rename_i ai;obtain⟨J,aa,aI⟩:=X0 n _ _ _ _ h;refine⟨J,aa,?_⟩;unfold mD at ai;rw[dR,dR,dR,lc,lc]at ai
    have aE:=xc (V:=V) (a:=a) (by rw[ai.1];decide)
    have aU:=xc (V:=V) (a:=a+1) (by rw[ai.2.1.1];decide)
    have cd:(kL (V.text a)).size=(V.text a).length:=tr ..;rw[show a+1+1=a+2 from rfl]at aU;rw[aIJ]at aI
    have fG:po [⟨kL (V.text a),[]⟩]=(kL (V.text a)).size+1:=by simp[po,rZ,wP]
    omega
   split at h
   .split at h<;>cases h
   .obtain⟨x,bw,J,h⟩:=ih h;obtain⟨g1,g2,g3⟩:=X0 n _ _ _ _ h;refine⟨g1,g2,?_⟩;have:=aEy J;have:=aCK bs x;omega
def aT8{N a b:Nat}{f:cT}(an:V.kind a=1)(h:gO.lr V N a=.ok (f,b)):W V a+kV f<=W V b:=by
 unfold gO.lr at h;obtain⟨s,bw,J,h⟩:=ih h;obtain⟨l,a2,aa,h⟩:=ih h;obtain⟨_,a3,aI,h⟩:=ih h;obtain⟨g1,g2,g3⟩:=X0 _ _ _ _ _ h
 have aE:=xc (V:=V) (a:=a) (by rw[an];decide)
 have:=p1 J;have:=R5 aa;have:=zl aI;have aU:po []=0:=rfl;unfold kV;rw[g1,g2];omega
def akm{N:Nat}:∀(n:Nat) (fs:List cT) (a b:Nat) (gs:List cT),rX V N n fs a=.ok (gs,b)->W V a+mA gs<=W V b+mA fs
 |0,_,_,_,_,h=>by cases h
 |n+1,fs,a,b,gs,h=>by
   rw[rX]at h;split at h
   .cases h;exact cq _
   split at h
   .cases h
   .rename_i an;obtain⟨f,bw,J,h⟩:=ih h;have aa:=akm n _ _ _ _ h
    have aI:=aT8 (by
     rw[oi,not_or]at an
     simpa using an.1) J
    rw[aJm]at aa
    have fG:mA [f]=kV f:=by simp[mA]
    omega
end
end Go.Proofs.YtngfpadeebpoeaaGreatDoor.gO
set_option maxRecDepth 100000
namespace Go.Proofs.YtngfpadeebpoeaaGreatDoor
open Go.ea
def Wv{S T:Type}(n:Nat)(P:Nat->S->Prop)(Q:Nat->Prop)(X:Nat->S->T)(R:T->Prop)(step:∀i s,i<n->P i s->(Q i/\∃fW,X i s=X (i+1) fW/\P (i+1) fW)\/R (X i s)):∀s,P 0 s->((∀i,i<n->Q i)/\∃fW,X 0 s=X n fW/\P n fW)\/R (X 0 s):=by
 have key:∀d i s,i+d=n->P i s->(∀j,j<i->Q j)->((∀j,j<n->Q j)/\∃fW,X i s=X n fW/\P n fW)\/R (X i s):=by
  intro d
  induction d with
  |zero=>
    intro i s hi ay bJ
    obtain rfl:i=n:=by omega
    exact .inl ⟨bJ,s,rfl,ay⟩
  |succ d aF=>
    intro i s hi ay bJ
    rcases step i s (by omega) ay with⟨J,s1,aa,aI⟩|h
    .rw[aa]
     exact aF (i+1) s1 (by omega) aI fun j bz=>by
      by_cases e:j=i
      .rw[e];exact J
      .exact bJ j (by omega)
    .exact .inr h
 exact fun s ay=>key n 0 s (by omega) ay fun j bz=>absurd bz (Yv _)
def tC(s:ByteArray):Bool:=decide ((s.size:Int) > 200)
def X5(x:bI):Prop:=x.d.size<=200/\x.a.size<=200/\x.b.size<=200/\x.f.size<=200/\x.xs.length<=20/\x.ls.length<=20/\(∀s∈x.xs,s.size<=200)/\∀s∈x.ls,s.size<=200
def Qt(b:ey):Prop:=b.label.size<=200/\b.code.length<=200/\∀x∈b.code,X5 x
def Yh(f:cT):Prop:=f.name.size<=200/\f.ps.length<=20/\(∀s∈f.ps,s.size<=200)/\f.blocks.length<=70/\∀b∈f.blocks,Qt b
structure A5 (fs:List cT):Prop where
 n:fs.length<=70
 f:∀f∈fs,Yh f
 c:ga fs<=200
def A5.small{fs:List cT}(h:A5 fs):Small fs:=by
 refine⟨by have:=h.n;omega,fun f al=>?_,fun f al=>?_,fun f al b ah=>?_,fun f al b ah x af=>?_,fun f al b ah x af=>?_⟩
 .have:=(h.f f al).2.1;omega
 .have:=(h.f f al).2.2.2.1;omega
 .have:=((h.f f al).2.2.2.2 b ah).2.1;omega
 .have:=(((h.f f al).2.2.2.2 b ah).2.2 x af).2.2.2.2.1;omega
 .have:=(((h.f f al).2.2.2.2 b ah).2.2 x af).2.2.2.2.2.1;omega
def LG{α:Type}{l:List α}{d:α}{P:α->Prop}(h:∀i,i<l.length->P (l.getD i d)):∀x∈l,P x:=by
 intro x af;obtain⟨i,hi⟩:=List.mem_iff_getElem?.1 af;have:=h i (dQ.1 hi).1
 rwa[getD_some hi]at this
def VA{l:List ByteArray}(h:l.any tC=false):∀s∈l,s.size<=200:=by
 intro s ai;have:=G9.1 h s ai;unfold tC at this;rw[ox]at this;omega
section
variable {ag:Nat->Option cz}
def WN(aB:ag CB=some (.code sy))(base:Nat)(A:ad){v:V}{l:List ByteArray}(av:Rd A v (l.map aA))(hw:mq v)(aq:l.length<2^63):
 aR ag (.fn CB [] []) [v] base A=some (ar (l.any tC),A):=by
 have dn:=so av
 have step:∀i,i<l.length->tC (l.getD i ⟨#[]⟩)=false->aN (aL (aR ag) aN base CX) [] A.length (ax 16 [(0,v),(3,U i)]) A=aN (aL (aR ag) aN base CX) [] A.length (ax 16 [(0,v),(3,U (i+1:Nat))]) A:=by
  intro i hi ay
  have eb:((i:Int)<(l.length:Int)):=by omega
  have jf:IntKind.i64.wrap ((i:Int)+1)=((i+1:Nat):Int):=by rw[IntKind.wrap_i64];omega
  obtain⟨a,bw,a2⟩:=ui av hw hi;unfold tC at ay;rw[dt];simp only[U,simprocAttr,Ki,aG,dn,eb,bw,a2,ay,jf,vF rfl]
 refine gR (c:=sy) aB (by simp[sy]) ?_
 rcases abK l.length (fun i=>tC (l.getD i ⟨#[]⟩)) (fun i=>aN (aL (aR ag) aN base CX) [] A.length (ax 16 [(0,v),(3,U i)]) A) step with⟨J,aa⟩|⟨i,hi,J,aa,aI⟩
 .have hM:l.any tC=false:=by
   rw[G9];intro x af;have:=LG (P:=fun s=>tC s=false) J x af;rw[this];decide
  rw[hM]
  have qg:aN (aL (aR ag) aN base CX) [] A.length (ax 16 [(0,v),(3,U l.length)]) A=some (.ext 0,ax 16 [(0,v),(3,U l.length),(7,ar false)],A):=by
   rw[dt];simp only[U,simprocAttr,ar,Ki,aG,dn,nH,vF rfl]
  have bl:=aa.trans qg;simp only[U,ar,j0]at bl;simp only[sy,simprocAttr,Ki,aG,bl]
 .have aJC:l.any tC=true:=Kp.2 ⟨_,ib (q6 hi ⟨#[]⟩),J⟩;rw[aJC]
  have eb:((i:Int)<(l.length:Int)):=by omega
  obtain⟨a,bw,a2⟩:=ui av hw hi
  have qg:aN (aL (aR ag) aN base CX) [] A.length (ax 16 [(0,v),(3,U i)]) A=some (.ret,ax 16 [(2,ar true)],A):=by
   unfold tC at J;rw[dt];simp only[U,simprocAttr,ar,Ki,aG,dn,eb,bw,a2,J,vF rfl]
  have bl:=aI.trans qg;simp only[U,ar,j0]at bl;simp only[sy,simprocAttr,Ki,aG,bl]
def Fp(A:ad)(r:Option (nE × List V × ad)):Prop:=∃D,r=some (.ret,ax 133 [(2,ar true)],D)/\Ext A D
def aS9(cU:ag CB=some (.code sy))(base:Nat){A b4:ad}(J:Ext A b4)(ah:base<=b4.length){p q i b:Nat}{n3:Int}{bA:V}{l:List bI}(av:fb 8 fc A bA l)(aJ:l.length<2^62){L:Nat}(nz:b4.length<=L):
 ∀C,Ext b4 C->((∀x∈l,X5 x)/\∃a7,aN (aL (aR ag) aN base Kw) [] L (ax 133 [(1,.ref p 0 0),(3,U n3),(4,U i),(5,.ref q 0 0),(6,U b),(7,bA),(8,U 0)]) C=some (.ext 4,ax 133 [(1,.ref p 0 0),(3,U n3),(4,U i),(5,.ref q 0 0),(6,U b),(7,bA),(8,U l.length),(82,ar false)],a7)/\Ext b4 a7)\/Fp b4 (aN (aL (aR ag) aN base Kw) [] L (ax 133 [(1,.ref p 0 0),(3,U n3),(4,U i),(5,.ref q 0 0),(6,U b),(7,bA),(8,U 0)]) C):=by
 intro dU lM
 rcases Wv l.length (fun _ C=>Ext b4 C) (fun k=>X5 (l.getD k fE)) (fun k C=>aN (aL (aR ag) aN base Kw) [] L (ax 133 [(1,.ref p 0 0),(3,U n3),(4,U i),(5,.ref q 0 0),(6,U b),(7,bA),(8,U k)]) C) (Fp b4) (by
  intro k C an bp
  have eb:((k:Int)<(l.length:Int)):=by omega
  have jf:=jB (n:=k) (by omega)
  have hv:=q6 an fE;obtain⟨x,kt⟩:∃x,l.getD k fE=x:=⟨_,rfl⟩;rw[kt]at hv |-;obtain⟨a,r,bw,ak,a2,_⟩:=av.l4 hv;have ho:=J.trans bp;have gl:=a2 C ho
  have gr:base<=C.length:=by have:=bp.le;omega
  have fk:=(wg av ho).len;obtain⟨a',lv,rfl,bj,aT,a1,cB,gj,hA⟩:=ak;have ft:=bj.one;have fq:=a1.one;obtain⟨D,d'⟩:∃D,C++[aM.cells 0 (bg x a' lv)]=D:=⟨_,rfl⟩;have p5:Ext C D:=d'▸Ext.app _ _;have cg:au D C.length 0=some (bg x a' lv):=d'▸cQ C 0 _;have zw:∀c,au (C++[aM.cells 0 c]) C.length 0=some c:=fun c=>cQ C 0 c;have dE:∀c d,(C++[c]).set C.length d=C++[d]:=fun c d=>iI C c d;have oy:=so (bj.ext (ho.trans p5));have lq:=so (a1.ext (ho.trans p5));have s4:=WN cU base D (bj.ext (ho.trans p5)) aT gj;have FC:=WN cU base D (a1.ext (ho.trans p5)) cB hA;have zt:Ext b4 D:=bp.trans p5;simp only[bg,ar]at gl d' cg s4 FC
  cases g1:(((((decide ((x.d.size:Int) > 200)||decide ((x.a.size:Int) > 200))||decide ((x.b.size:Int) > 200))||decide ((x.f.size:Int) > 200))||decide ((x.xs.length:Int) > 20))||decide ((x.ls.length:Int) > 20))with
  |true=>
    refine .inr ⟨trim L (ax 133 [(2,ar true)]) D,?_,zt.trim nz _⟩;rw[dt];simp only[U,simprocAttr,ar,pS,aG,fk,eb,bw,gl,gr,d',cg,zw,dE,ft,fq,eG,oy,lq,g1]
  |false=>
    cases g2:x.xs.any tC with
    |true=>
      rw[g2]at s4;refine .inr ⟨trim L (ax 133 [(2,ar true)]) D,?_,zt.trim nz _⟩;rw[dt];simp only[U,simprocAttr,ar,pS,aG,fk,eb,bw,gl,gr,d',cg,zw,dE,ft,fq,eG,oy,lq,g1,s4]
    |false=>
      rw[g2]at s4;cases g3:x.ls.any tC with
      |true=>
        rw[g3]at FC;refine .inr ⟨trim L (ax 133 [(2,ar true)]) D,?_,zt.trim nz _⟩;rw[dt];simp only[U,simprocAttr,ar,pS,aG,fk,eb,bw,gl,gr,d',cg,zw,dE,ft,fq,eG,oy,lq,g1,s4,FC]
      |false=>
        rw[g3]at FC;refine .inl ⟨?_,trim L (ax 133 [(1,.ref p 0 0),(3,U n3),(4,U i),(5,.ref q 0 0),(6,U b),(7,bA),(8,U (k+1:Nat))]) D,?_,zt.trim nz _⟩
        .simp only[nS,xz]at g1;obtain⟨⟨⟨⟨⟨bc,dJ⟩,fI⟩,jF⟩,Ho⟩,zX⟩:=g1
         exact⟨by omega,by omega,by omega,by omega,by omega,by omega,VA g2,VA g3⟩
        .rw[dt]
         simp only[U,simprocAttr,pS,aG,fk,eb,bw,gl,gr,d',cg,zw,dE,ft,fq,eG,oy,lq,g1,s4,FC,jf]) dU lM with⟨aE,C,aU,cd⟩|e
 .refine .inl ⟨LG aE,trim L (ax 133 [(1,.ref p 0 0),(3,U n3),(4,U i),(5,.ref q 0 0),(6,U b),(7,bA),(8,U l.length),(82,ar false)]) C,?_,cd.trim nz _⟩;rw[j0]at aU;refine aU.trans ?_;have fk:=(wg av (J.trans cd)).len;rw[dt];simp only[U,simprocAttr,ar,pS,aG,fk,nH]
 .rw[j0]at e;exact .inr e
def aTm(cU:ag CB=some (.code sy))(base:Nat){A b4:ad}(J:Ext A b4)(ah:base<=b4.length){p q i:Nat}{nm:ByteArray}{pv bv:V}(bJ:au b4 q 0=some [aA nm,pv,bv]){l:List ey}(av:fb 2 lx A bv l)(aJ:l.length<2^20){L:Nat}(nz:b4.length<=L){n0:Nat}(uO:n0<=200):
 ∀C,Ext b4 C->(((∀x∈l,Qt x)/\n0+hW l<=200)/\∃a7,aN (aL (aR ag) aN base KG) [] L (ax 133 [(1,.ref p 0 0),(3,U n0),(4,U i),(5,.ref q 0 0),(6,U 0)]) C=some (.ext 2,ax 133 [(1,.ref p 0 0),(3,U (n0+hW l:Nat)),(4,U i),(5,.ref q 0 0),(6,U l.length),(51,ar false)],a7)/\Ext b4 a7)\/Fp b4 (aN (aL (aR ag) aN base KG) [] L (ax 133 [(1,.ref p 0 0),(3,U n0),(4,U i),(5,.ref q 0 0),(6,U 0)]) C):=by
 intro dU lM
 rcases Wv l.length (fun k (s:ad)=>Ext b4 s/\n0+hW (l.take k)<=200) (fun k=>Qt (l.getD k zj)) (fun k (s:ad)=>aN (aL (aR ag) aN base KG) [] L (ax 133 [(1,.ref p 0 0),(3,U (n0+hW (l.take k):Nat)),(4,U i),(5,.ref q 0 0),(6,U k)]) s) (Fp b4) (by
  intro k C an ⟨bp,My⟩
  have eb:((k:Int)<(l.length:Int)):=by omega
  have jf:=jB (n:=k) (by omega)
  have hv:=q6 an zj;obtain⟨x,kt⟩:∃x,l.getD k zj=x:=⟨_,rfl⟩;rw[kt]at hv |-;have y2:=al5 hv;obtain⟨m,hm⟩:∃m,n0+hW (l.take k)=m:=⟨_,rfl⟩
  have BP:n0+hW (l.take (k+1))=m+x.code.length:=by omega
  rw[hm]at My;rw[hm,BP];obtain⟨a,r,bw,ak,_,a3⟩:=av.l4 hv;have ho:=J.trans bp
  have gr:base<=C.length:=by have:=bp.le;omega
  have DB:=b7 bJ bp;have eZ:=(vQ av ho).len;obtain⟨bA,rfl,fm⟩:=ak;obtain⟨e0,fe,eI⟩:=a3 0 _ rfl;obtain⟨hg,cj,cZ⟩:=a3 1 _ rfl;have Mt:=eI C ho;have Ky:=cZ C ho;have fk:=(wg fm ho).len
  have zS:IntKind.i64.wrap (200-(m:Int))=200-(m:Int):=by rw[IntKind.wrap_i64];omega
  simp only[aA]at DB Mt
  cases g1:(decide ((x.code.length:Int) > 200-(m:Int))||decide ((x.label.size:Int) > 200))with
  |true=>
    refine .inr ⟨trim L (ax 133 [(2,ar true)]) C,?_,bp.trim nz _⟩;rw[dt];simp only[U,simprocAttr,ar,pS,aG,DB,eZ,eb,bw,fe,Mt,cj,Ky,fk,zS,g1]
  |false=>
    simp only[nS,xz]at g1
    have HN:(decide ((x.code.length:Int) > 200-(m:Int))||decide ((x.label.size:Int) > 200))=false:=by simp only[nS,xz];exact g1
    have Ag:IntKind.i64.wrap ((m:Int)+(x.code.length:Int))=((m+x.code.length:Nat):Int):=by rw[IntKind.wrap_i64];omega
    rcases aS9 cU base ho gr (p:=p) (q:=q) (i:=i) (b:=k) (n3:=(m+x.code.length:Nat)) fm (by omega) (cq C.length) C (Ext.refl C)with⟨eO,D,z2,z3⟩|⟨D,z2,z3⟩
    .refine .inl ⟨⟨by omega,by omega,eO⟩,trim L (ax 133 [(1,.ref p 0 0),(3,U (m+x.code.length:Nat)),(4,U i),(5,.ref q 0 0),(6,U (k+1:Nat))]) D,?_,(bp.trans z3).trim nz _,by omega⟩
     rw[dt];simp only[U,ar]at z2;simp only[U,simprocAttr,pS,aG,DB,eZ,eb,bw,fe,Mt,cj,Ky,fk,zS,Ag,HN,z2,jf]
    .refine .inr ⟨trim L (ax 133 [(2,ar true)]) D,?_,(bp.trans z3).trim nz _⟩;rw[dt];simp only[U,ar]at z2
     simp only[U,simprocAttr,ar,pS,aG,DB,eZ,eb,bw,fe,Mt,cj,Ky,fk,zS,Ag,HN,z2]) dU ⟨lM,by rw[dj];exact uO⟩with⟨aE,C,aU,cd,fG⟩|e
 .rw[xD]at aU fG;refine .inl ⟨⟨LG aE,fG⟩,trim L (ax 133 [(1,.ref p 0 0),(3,U (n0+hW l:Nat)),(4,U i),(5,.ref q 0 0),(6,U l.length),(51,ar false)]) C,?_,cd.trim nz _⟩;rw[j0,dj,show n0+hW []=n0 from rfl]at aU;refine aU.trans ?_;have fk:=(vQ av (J.trans cd)).len;have DB:=b7 bJ cd;rw[dt];simp only[aA]at DB;simp only[U,simprocAttr,ar,pS,aG,DB,fk,nH]
 .rw[j0,dj,show n0+hW []=n0 from rfl]at e;exact .inr e
def aNR(cU:ag CB=some (.code sy))(base:Nat){A b4:ad}(J:Ext A b4)(ah:base<=b4.length){p:Nat}{cr:V}(ay:au b4 p 0=some [cr]){l:List cT}(av:fb 3 p6 A cr l)(aJ:l.length<=70){L:Nat}(nz:b4.length<=L):
 ∀C,Ext b4 C->(((∀x∈l,Yh x)/\ga l<=200)/\∃a7,aN (aL (aR ag) aN base KF) [] L (ax 133 [(1,.ref p 0 0),(3,U 0),(4,U 0)]) C=some (.ext 0,ax 133 [(1,.ref p 0 0),(3,U (ga l:Nat)),(4,U l.length),(18,ar false)],a7)/\Ext b4 a7)\/Fp b4 (aN (aL (aR ag) aN base KF) [] L (ax 133 [(1,.ref p 0 0),(3,U 0),(4,U 0)]) C):=by
 intro dU lM
 rcases Wv l.length (fun k (s:ad)=>Ext b4 s/\ga (l.take k)<=200) (fun k=>Yh (l.getD k u9)) (fun k (s:ad)=>aN (aL (aR ag) aN base KF) [] L (ax 133 [(1,.ref p 0 0),(3,U (ga (l.take k):Nat)),(4,U k)]) s) (Fp b4) (by
  intro k C an ⟨bp,My⟩
  have eb:((k:Int)<(l.length:Int)):=by omega
  have jf:=jB (n:=k) (by omega)
  have hv:=q6 an u9;obtain⟨x,kt⟩:∃x,l.getD k u9=x:=⟨_,rfl⟩;rw[kt]at hv |-;have y2:=arn hv;obtain⟨m,hm⟩:∃m,ga (l.take k)=m:=⟨_,rfl⟩
  have BP:ga (l.take (k+1))=m+hW x.blocks:=by omega
  rw[hm]at My;rw[hm,BP];obtain⟨a,r,bw,ak,a2,_⟩:=av.l4 hv;have ho:=J.trans bp;have gl:=a2 C ho
  have gr:base<=C.length:=by have:=bp.le;omega
  have AX:=b7 ay bp;have e2:=(iF.ext av ho).len;obtain⟨pv,bv,rfl,bj,aT,a1,qG⟩:=ak;have qT:=bj.one;have jc:=qG.one;obtain⟨D,d'⟩:∃D,C++[aM.cells 0 [aA x.name,pv,bv]]=D:=⟨_,rfl⟩;have p5:Ext C D:=d'▸Ext.app _ _
  have Be:D.length=C.length+1:=by rw[<- d',dh]
  have cg:au D C.length 0=some [aA x.name,pv,bv]:=d'▸cQ C 0 _;have zw:∀c,au (C++[aM.cells 0 c]) C.length 0=some c:=fun c=>cQ C 0 c;have dE:∀c d,(C++[c]).set C.length d=C++[d]:=fun c d=>iI C c d;have gp:=so (bj.ext (ho.trans p5));have eZ:=(vQ qG (ho.trans p5)).len;have s4:=WN cU base D (bj.ext (ho.trans p5)) aT a1;have zt:Ext b4 D:=bp.trans p5;simp only[ar,aA]at gl d' cg s4 AX
  cases g1:((decide ((x.name.size:Int) > 200)||decide ((x.ps.length:Int) > 20))||decide ((x.blocks.length:Int) > 70))with
  |true=>
    refine .inr ⟨trim L (ax 133 [(2,ar true)]) D,?_,zt.trim nz _⟩;rw[dt];simp only[U,simprocAttr,ar,pS,aG,AX,e2,eb,bw,gl,gr,d',cg,zw,dE,qT,jc,eG,gp,eZ,g1]
  |false=>
    simp only[nS,xz]at g1
    have HN:((decide ((x.name.size:Int) > 200)||decide ((x.ps.length:Int) > 20))||decide ((x.blocks.length:Int) > 70))=false:=by simp only[nS,xz];exact g1
    cases g2:x.ps.any tC with
    |true=>
      rw[g2]at s4;refine .inr ⟨trim L (ax 133 [(2,ar true)]) D,?_,zt.trim nz _⟩;rw[dt];simp only[U,simprocAttr,ar,pS,aG,AX,e2,eb,bw,gl,gr,d',cg,zw,dE,qT,jc,eG,gp,eZ,HN,s4]
    |false=>
      rw[g2]at s4
      rcases aTm cU base (ho.trans p5) (by omega) (p:=p) (q:=C.length) (i:=k) (d'▸cQ C 0 _) qG (by omega) (cq D.length) My D (Ext.refl D)with⟨⟨z0,eO⟩,E,z2,z3⟩|⟨E,z2,z3⟩
      .refine .inl ⟨⟨by omega,by omega,VA g2,by omega,z0⟩,trim L (ax 133 [(1,.ref p 0 0),(3,U (m+hW x.blocks:Nat)),(4,U (k+1:Nat))]) E,?_,(zt.trans z3).trim nz _,by omega⟩
       rw[dt];simp only[U,ar,Be]at z2;simp only[U,simprocAttr,pS,aG,AX,e2,eb,bw,gl,gr,d',Be,cg,zw,dE,qT,jc,eG,gp,eZ,HN,s4,z2,jf]
      .refine .inr ⟨trim L (ax 133 [(2,ar true)]) E,?_,(zt.trans z3).trim nz _⟩;rw[dt];simp only[U,ar,Be]at z2
       simp only[U,simprocAttr,ar,pS,aG,AX,e2,eb,bw,gl,gr,d',Be,cg,zw,dE,qT,jc,eG,gp,eZ,HN,s4,z2]) dU ⟨lM,by rw[dj];exact gY _⟩with⟨aE,C,aU,cd,fG⟩|e
 .rw[xD]at aU fG;refine .inl ⟨⟨LG aE,fG⟩,trim L (ax 133 [(1,.ref p 0 0),(3,U (ga l:Nat)),(4,U l.length),(18,ar false)]) C,?_,cd.trim nz _⟩;rw[dj,show ga []=0 from rfl,j0]at aU;refine aU.trans ?_;have fk:=(iF.ext av (J.trans cd)).len;have AX:=b7 ay cd;rw[dt];simp only[U,simprocAttr,ar,pS,aG,AX,fk,nH]
 .rw[dj,show ga []=0 from rfl,j0]at e;exact .inr e
def aIw(cU:ag CB=some (.code sy))(aB:ag Uf=some (.code sn))(base:Nat){A:ad}(ah:base<=A.length){cr:V}{fs:List cT}(ak:iF A cr fs):
 ∃b H',aR ag (.fn Uf [] []) [.agg [cr]] base A=some (.s (.bool b),H')/\Ext A H'/\(b=false->A5 fs):=by
 have n':=ak.one;obtain⟨b4,er⟩:∃b4,A++[aM.cells 0 [cr]]=b4:=⟨_,rfl⟩
 have cW:b4.length=A.length+1:=by rw[<- er,dh]
 have aE:Ext A b4:=er▸Ext.app _ _;have dX:au b4 A.length 0=some [cr]:=er▸cQ A 0 _;have e2:=(ak.ext aE).len;by_cases XL:(fs.length:Int) > 70
 .refine⟨true,b4,eF (c:=sn) (k:=1) aB rfl (by decide) To ?_,aE,fun e=>by cases e⟩
  simp only[sn,simprocAttr,pS,aG,n',eG,er,dX,e2,XL]
 .rcases aNR cU base aE (by omega) (p:=A.length) dX ak (by omega) (cq b4.length) b4 (Ext.refl b4)with⟨⟨z0,eO⟩,E,z2,z3⟩|⟨E,z2,z3⟩
  .refine⟨false,E,eF (c:=sn) (k:=1) aB rfl (by decide) To ?_,aE.trans z3,fun _=>⟨by omega,z0,eO⟩⟩
   simp only[U,ar,cW]at z2;simp only[sn,simprocAttr,pS,aG,n',eG,er,cW,dX,e2,XL,z2]
  .refine⟨true,E,eF (c:=sn) (k:=1) aB rfl (by decide) To ?_,aE.trans z3,fun e=>by cases e⟩
   simp only[U,ar,cW]at z2;simp only[sn,simprocAttr,pS,aG,n',eG,er,cW,dX,e2,XL,z2]
end
open Go.ea gO
theorem CD(b:ByteArray):b.data.toList.length=b.size:=rfl
def ase(s:List UInt8):∀xs:List (List UInt8),(s.intercalate xs).length<=(xs.map fun x=>x.length+s.length).sum
 | []=>by simp[List.intercalate,List.intersperse]
 | [x]=>by rw[tX];simp
 |x::y::xs=>by
   have:=ase s (y::xs);rw[xd,c0,c0,dW,ti];omega
def apG(xs:List ByteArray):(jK xs pV).data.toList.length<=(xs.map fun s=>s.size+2).sum:=by
 unfold jK Lib.join pV;rw[qj];refine jn (ase _ _) ?_;rw[RL];exact cq _
def aFz(xs:List ByteArray):(xs.map fun s=>s.size+2).sum<=2*gu xs:=by
 induction xs with
 |nil=>exact cq _
 |cons x xs aF=>
   simp only[gu,dW,ti]at aF |-;omega
def avX(xs:List ByteArray):(hT xs).data.toList.length<=2*gu xs+2:=by
 have J:=apG xs;have aa:=aFz xs;unfold hT;rw[lu,lu,c0,c0];simp only[c3,eh];omega
def abU:∀(l m:List ByteArray),((l.zip m).map fun q=>q.1.size+q.2.size+4).sum<=4*(gu l+gu m)
 | [],_=>gY _
 |_::_,[]=>gY _
 |x::l,y::m=>by
   have:=abU l m;simp only[gu,List.zip_cons_cons,dW,ti]at this |-;omega
def ayB{x:bI}(h:x.xs.length=x.ls.length):(qV x).data.toList.length<=4*(gu x.ls+gu x.xs)+2:=by
 have J:=apG (oQ x x.ls.length);have aa:=abU x.ls x.xs;rw[UD h,RL]at J
 have e:((fun s:ByteArray=>s.size+2) ∘ fun q:ByteArray × ByteArray=>sH q.1 q.2)=fun q=>q.1.size+q.2.size+4:=by
  funext q
  simp only[Function.comp,sH,o5];rw[show z6.size=2 from rfl];omega
 rw[e]at J;unfold qV;rw[lu,lu,c0,c0,UD h];simp only[c3,eh];omega
def PF{xs:List ByteArray}{s:ByteArray}(h:s∈xs):s.size+1<=gu xs:=by
 induction xs with
 |nil=>cases h
 |cons x xs aF=>
   simp only[gu,dW,ti]at aF |-
   rcases nj.1 h with rfl|h
   .omega
   .have:=aF h;omega
def aQ2{x:bI}(h:yv x):(cv x).data.toList.length<=10*i' x:=by
 have an:=h.k
 have g:∀i,i<x.ls.length->(x.ls.getD i ⟨#[]⟩).data.toList.length<=gu x.ls:=fun i hi=>by
  have:=PF (xs:=x.ls) (s:=x.ls.getD i ⟨#[]⟩) (by rw[Gz,eP hi];exact rU _)
  rw[CD];omega
 have aO:=CD x.a;have ah:=CD x.b;have al:=CD x.f;have jL:=avX x.xs;have TR:0<=x.k/\x.k<100->(iG x.k).data.toList.length<=2:=fun h=>EK h.1 h.2;unfold i'
 rcases h.op with e|e|e|e|e|e|e|e|e|e|e|e|e|e
 .rw[show cv x=dy [wh,iG x.k] by simp[cv,e],nI]
  have:=TR (an (by omega))
  simp only[c0,c3,eh,wh];omega
 .rw[show cv x=dy [wE,iG x.k] by simp[cv,e],nI]
  have:=TR (an (by omega))
  simp only[c0,c3,eh,wE];omega
 .rw[show cv x=CT by simp[cv,e]]
  simp only[c3,eh,CT];omega
 .rw[show cv x=dy [uc,x.f] by simp[cv,e],nI]
  simp only[c0,c3,eh,uc];omega
 .rw[show cv x=dy [we,x.a] by simp[cv,e],nI]
  simp only[c0,c3,eh,we];omega
 .rw[show cv x=dy [ur,qV x] by simp[cv,e],nI]
  have:=ayB (h.Cu e);simp only[c0,c3,eh,ur];omega
 .rw[show cv x=dy [uW,x.a,iG x.k] by simp[cv,e],xY]
  have:=TR (an (by omega))
  simp only[c0,c3,eh,uW];omega
 .rw[show cv x=dy [vm,x.a] by simp[cv,e],nI]
  simp only[c0,c3,eh,vm];omega
 .rw[show cv x=dy [uU,x.a++p7,x.b] by simp[cv,e],xY,lu]
  simp only[c0,c3,eh,uU,p7];omega
 .rw[show cv x=dy [u4,x.f++hT x.xs] by simp[cv,e],nI,lu]
  simp only[c0,c3,eh,u4];omega
 .rw[show cv x=dy [tY,x.a++hT x.xs] by simp[cv,e],nI,lu]
  simp only[c0,c3,eh,tY];omega
 .rw[show cv x=dy [uE,x.ls.getD 0 ⟨#[]⟩,x.ls.getD 1 ⟨#[]⟩] by simp[cv,e],xY]
  have:=h.DP e
  have:=g 0 (by omega)
  have:=g 1 (by omega)
  simp only[c0,c3,eh,uE];omega
 .rw[show cv x=dy [uD,x.ls.getD 0 ⟨#[]⟩] by simp[cv,e],nI]
  have:=h.go e
  have:=g 0 (by omega)
  simp only[c0,c3,eh,uD];omega
 .rw[show cv x=Bt x by simp[cv,e]]
  unfold Bt;rw[qj];refine jn (agR _ _) ?_;rw[nI];simp only[c0,c3,eh,tj];omega
def aBi{x:bI}(h:yv x):(vJ x).data.toList.length<=20*i' x:=by
 have J:=aQ2 h;unfold vJ lH jK Lib.join;rw[lu,qj,dW,dW,hC,xd,tX];simp only[c0,c3,eh];have aQ:=CD x.d;unfold tE;split
 .unfold i' at J |-;omega
 .rw[xY];simp only[c0,c3,eh];unfold i' at J |-;omega
def P0{α:Type}{f:α->List UInt8}{c:α->Nat}{k:Nat}:∀{l:List α},(∀x∈l,(f x).length<=k*c x)->(l.flatMap f).length<=k*(l.map c).sum
 | [],_=>by simp
 |x::l,h=>by
   have J:=h x hJ;have aa:=P0 (l:=l) fun y bC=>h y (d9 _ bC);rw[FZ,c0,dW,ti,Nat.mul_add];omega
def aSu{fs:List cT}(h:∀f∈fs,yq f):(h6 fs).length<=20*mA fs:=by
 refine P0 fun f al=>?_;have Q':=h f al
 have J:(nV f.blocks).length<=20*po f.blocks:=P0 fun b ah=>by
  have aa:(nU b.code).length<=20*wP b.code:=P0 fun x af=>aBi ((Q'.b b ah).2 x af).vo;unfold yA Gn lH jK Lib.join;rw[lu,qj,dW,dW,hC,xd,tX];simp only[c0,c3,eh];have aQ:=CD b.label;unfold rZ;omega
 have aI:=avX f.ps;have aQ:=CD f.name;unfold lr B5 Fe lH jK Lib.join uJ;rw[lu,lu,qj,qj,dW,hC,tX,dW,hC,tX,xY,lu];simp only[c0,c3,eh,DL];unfold gO.kV;omega
def FD{α:Type}{c:α->Nat}{l:List α}{x:α}(h:x∈l):c x<=(l.map c).sum:=by
 induction l with
 |nil=>cases h
 |cons y l aF=>
   rw[dW,ti]
   rcases nj.1 h with rfl|h
   .omega
   .have:=aF h;omega
def JS{α:Type}{c:α->Nat}(J:∀x,1<=c x):∀l:List α,l.length<=(l.map c).sum
 | []=>cq _
 |x::l=>by
   have:=J x;have:=JS J l;rw[c3,dW,ti];omega
def EU(xs:List ByteArray):xs.length<=gu xs:=JS (fun _=>Nat.le_add_left _ _) xs
def aww(xs:List bI):xs.length<=wP xs:=JS (fun _=>Nat.le_add_left _ _) xs
def ait(xs:List ey):xs.length<=po xs:=JS (fun b=>by unfold rZ;omega) xs
def aEx(xs:List cT):xs.length<=mA xs:=JS (fun b=>by unfold gO.kV;omega) xs
def aTj{x:bI}(h:i' x<=4000):ml x:=by
 unfold i' at h;have J:=EU x.xs;have aa:=EU x.ls
 exact⟨by omega,by omega,by omega,by omega,by omega,by omega,fun s ai=>by have:=PF ai;omega,fun s ai=>by have:=PF ai;omega⟩
def aMe{fs:List cT}(t:∀f∈fs,yq f)(h:mA fs<=4000):∀f∈fs,A1 f:=by
 intro f al;have J:gO.kV f<=mA fs:=FD al;unfold gO.kV at J;have aa:=EU f.ps;have aI:=ait f.blocks
 refine⟨by omega,by omega,fun s ai=>by have:=PF ai;omega,fun b ah=>?_,by omega⟩
 have bl:rZ b<=po f.blocks:=FD ah;unfold rZ at bl;have cO:=aww b.code
 refine⟨by omega,fun x af=>⟨aTj ?_,((t f al).b b ah |>.2 x af).vo⟩,by omega⟩
 have fQ:i' x<=wP b.code:=FD af;omega
def aaL{fs:List cT}(h:mA fs<=4000):Small fs:=by
 have bd:=aEx fs
 have F:∀f∈fs,f.ps.length<=4000/\f.blocks.length<=4000/\∀b∈f.blocks,b.code.length<=4000/\∀x∈b.code,x.xs.length<=4000/\x.ls.length<=4000:=fun f al=>by
  have J:gO.kV f<=mA fs:=FD al;unfold gO.kV at J;have aa:=EU f.ps;have aI:=ait f.blocks
  refine⟨by omega,by omega,fun b ah=>?_⟩
  have bl:rZ b<=po f.blocks:=FD ah;unfold rZ at bl;have cO:=aww b.code
  refine⟨by omega,fun x af=>?_⟩
  have fQ:i' x<=wP b.code:=FD af;unfold i' at fQ;have qB:=EU x.xs;have tw:=EU x.ls
  exact⟨by omega,by omega⟩
 exact⟨by omega,fun f al=>by have:=(F f al).1;omega,fun f al=>by have:=(F f al).2.1;omega,fun f al b ah=>by have:=((F f al).2.2 b ah).1;omega,fun f al b ah x af=>by have:=(((F f al).2.2 b ah).2 x af).1;omega,fun f al b ah x af=>by have:=(((F f al).2.2 b ah).2 x af).2;omega⟩
open Go.ea gO
def xK(t:Tok.T):Nat:=if t.kind=4 then 0 else t.text.length+1
def aiq(ao:List Tok.T):∀b,W (bt.of ao) b<=((ao.take b).map xK).sum
 |0=>gY _
 |b+1=>by
   have aF:=aiq ao b;have e:wt (bt.of ao) b=xK (ao.getD b ef):=rfl;rw[W,e,By,zL,NI];rw[Gz];cases ao[b]? with
   |none=>
     show _+0<=_+0;omega
   |some t=>
     show _+xK t<=_+(xK t+0);omega
def aSw:∀(n:Nat) (l:List UInt8) (bo bB:Nat) (ao:List Tok.T),l.length<=n->Tok.lex l bo bB=.done ao->(ao.map xK).sum<=2*l.length:=by
 intro n
 induction n with
 |zero=>
   intro l bo bB ao h e
   obtain rfl:l=[]:=lX (by omega)
   rw[Tok.lex_nil]at e;cases e;exact cq _
 |succ n aF=>
   intro l bo bB ao h e;cases l with
   |nil=>rw[Tok.lex_nil]at e;cases e;exact cq _
   |cons c l=>
     rw[c3]at h |-
     have aQ:∀m,(l.drop m).length<=n:=fun m=>by rw[lm];omega
     rw[Tok.qy]at e;split at e
     .split at e<;>(have:=aF _ _ _ _ (by omega) e;omega)
     split at e
     .have:=aF _ _ _ _ (aQ _) e;rw[lm]at this;omega
     split at e
     .obtain⟨us,aE,rfl⟩:=Tok.Aw e;have:=aF _ _ _ _ (aQ _) aE;have al:=Tok.zO Tok.within l;have J:=Tok.rH Tok.within l;rw[lm]at this
      rw[dW,ti,xK,bV (by simp),c3,J]
      omega
     split at e
     .split at e
      .cases e
      .obtain⟨us,aE,rfl⟩:=Tok.Aw e;have:=aF _ _ _ _ (aQ _) aE;have al:=Tok.zO Tok.digit l;have J:=Tok.rH Tok.digit l;rw[lm]at this
       rw[dW,ti,xK,bV (by simp),c3,J]
       omega
     split at e
     .obtain⟨us,aE,rfl⟩:=Tok.Aw e
      have:=aF _ _ _ _ (by omega) aE
      rw[dW,ti,xK,bV (by simp),jd]
      omega
     .cases e
def aDO{fs:List cT}(t:∀f∈fs,yq f)(h:(h6 fs).length<=1048576):kq (h6 fs)=(fs,(0,0),0):=by
 obtain⟨ao,J,aa⟩:=ayL t
 have e:kR (h6 fs)=(ao,(0,0),0):=by
  unfold kR
  rw[bV (by omega),J]
 unfold kq;rw[e,bE rfl,aa]
def aRo{l:List UInt8}(h:l.length<=1500)(e:(kq l).2.2=0):mA (kq l).1<=3000/\(kq l).2.1=(0,0):=by
 unfold kq at e |-;by_cases aq:(kR l).2.2=0
 .rw[bE aq]at e |-;obtain⟨_,J,_⟩:=WW aq;have hw:=aSw l.length l 1 1 _ (cq _) J;cases ay:GH (kR l).1 with
  |error j=>rw[ay]at e;dsimp only at e;split at e<;>cases e
  |ok fs=>
    refine⟨?_,rfl⟩;unfold GH at ay;split at ay
    .cases ay
    .rename_i gs b bJ;cases ay;have bj:=akm _ _ _ _ _ bJ;have aT:=aiq (kR l).1 b
     have a1:(((kR l).1.take b).map xK).sum<=((kR l).1.map xK).sum:=by
      conv=>rhs;rw[<- uH b (kR l).1]
      rw[zL,NI];omega
     have cB:mA ([]:List cT)=0:=rfl;have gj:W (bt.of (kR l).1) 0=0:=rfl;show mA fs<=3000;omega
 .rw[bV aq]at e;exact absurd e aq
section
variable {ag:Nat->Option cz}
def aNW(l:List UInt8)(c:Int):Bool:=l.any fun x=>(x.toNat:Int)==c||(x.toNat:Int)==c-32
def aJd(l:List UInt8)(c:Int):Bool:=l.any fun x=>(x.toNat:Int)==c
end
def agS(n:Int):ByteArray:=if n=1 then⟨#[100,110]⟩else if n=2 then⟨#[100,110]⟩else if n=3 then⟨#[100,46]⟩else if n=4 then⟨#[100,102]⟩else if n=5 then⟨#[100,97]⟩else if n=8 then⟨#[100,97]⟩else if n=6 then⟨#[100,103,108]⟩else if n=7 then⟨#[100,97,110]⟩else if n=9 then⟨#[97,98]⟩else if n=10 then⟨#[68,102,103]⟩else if n=11 then⟨#[68,97,103]⟩else if n=12 then⟨#[108,46]⟩else if n=13 then⟨#[108,46]⟩else if n=14 then⟨#[65,46]⟩else⟨#[]⟩
section
variable {ag:Nat->Option cz}
end
def cP(n:Int)(c:Int):Bool:=aNW (agS n).data.toList c
def xl(n:Int)(c:Int):Bool:=aJd (agS n).data.toList c
section
variable {ag:Nat->Option cz}
end
section
variable {ag:Nat->Option cz}
end
section
variable {ag:Nat->Option cz}
end
section
variable {ag:Nat->Option cz}
end
section
variable {ag:Nat->Option cz}
end
section
variable {ag:Nat->Option cz}
end
section
variable {ag:Nat->Option cz}
end
section
variable {ag:Nat->Option cz}
end
section
variable {ag:Nat->Option cz}
end
end Go.Proofs.YtngfpadeebpoeaaGreatDoor
