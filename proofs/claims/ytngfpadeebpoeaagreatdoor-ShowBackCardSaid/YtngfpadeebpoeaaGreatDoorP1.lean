/- Texts of the proof: Am11, Am12, Am13, Am14, Am15, Am16, Am17, AmE, AmA, AmA2, AmA3, AmA4, AmA5, Am18, Am19, Am20, Am21. -/
import Derived.Test.YtngfpadeebpoeaaGreatDoorP0
import Derived.OrdersIn
import Derived.LoopNIn
import Derived.RangeFuncLeaves
import Derived.RangeFuncNested
import Derived.Laws.Sem
import Derived.Shelf.Abstract
set_option linter.all false
namespace Go.ea
open Go.RowKit
section
variable {aK:eX} {μ cf:cp} {ae b9:Nat->Prop} {w w':World} {H H':ad} {P:Program} [oS aK P]
def aBd(h:cE aK μ ae w H){t:TypeId}{agg:Bool}{n:Nat}(ai:wa P t=some (agg,n)){x v:V}{c:Value}(af:bS μ ae w x c)(av:iu H agg n x=some v):
 df aK μ ae w H ((do pure (.value (<- Instr.loadAt t c)):Sem Next).run P w) v H:=by
 obtain⟨r,J,aa⟩:=asJ (P:=P) ai h af av
 exact df.still h aa (by simp_all)
def aAw(h:cE aK μ ae w H){t:TypeId}{agg:Bool}{n base:Nat}(ai:wa P t=some (agg,n)){x y:V}{c d:Value}(af:bS μ ae w x c)(bC:bS μ ae w y d)(av:A2 H base n y x=some H'):
 df aK μ ae w H ((do Instr.storeAt t c d;pure .skip:Sem Next).run P w) bF H':=by
 obtain⟨_,aa,_⟩:=TW ai;unfold A2 at av;split at av
 case h_2=>cases av
 rename_i id g off;split at av
 case isFalse=>cases av
 split at av
 case h_2=>cases av
 rename_i row kl;split at av
 case isFalse=>cases av
 rename_i gK;obtain⟨aJ,aq,jj⟩:=gK;cases av;obtain⟨B,b,hm,rfl⟩:=H0 af;have fm:=xC bC jj
 obtain⟨bc,ak,ay⟩:=Mi (P:=P) h kl hm (by rw[aJ];exact aq) fm jj
 refine⟨Go.undef,bc,_,_,.inr ⟨?_,rfl⟩,.s _,ay⟩
 have dk:d.cells.size=n:=by rw[<- aJ,fm.1];simp
 simp only[Instr.storeAt,Instr.sureAddr,storeVar,Sem.run_bind,Sem.run_pure,ev,run_sizeOf aa,Sem.run_ite,dk,ne_eq,Wh,hp,ak]
def vC{a:Act}{fr:List V}(al:c7 μ ae w fr a.tmps){x:Option Operand}{y:Option b0}(ab:uG x=some y){d:Nat}{l:Int}(h:hY fr d y=some l):oa (x.map a.eval) d l:=by
 cases x with
 |none=>simp[uG]at ab;subst ab;simp[hY]at h;exact .inl ⟨rfl,h.symm⟩
 |some x=>
   simp only[uG,fy]at ab;obtain⟨z,bK,rfl⟩:=ab;have av:=ec al bK;simp only[hY]at h;unfold DC at h;split at h
   .rename_i k n e;rw[e]at av;cases h
    exact .inr ⟨k,by simp[ei av]⟩
   .cases h
def arR{x:V}{c:Value}{n:Int}(af:bS μ ae w x c)(h:DC x=some n):∃k,c=.int k n:=by
 unfold DC at h;split at h
 .cases h;exact⟨_,ei af⟩
 .cases h
set_option maxHeartbeats 1000000 in
def D2(h:cE aK μ ae w H){a:Act}{fr:List V}(al:c7 μ ae w fr a.tmps){pure':fA}{o:Oper}{qJ:bY}{call:c5}{base:Nat}{v:V}(ab:t' P pure' o=some qJ)(ht:qJ.kP=false)(aj:bf call base fr H qJ=some (v,H')):df aK μ ae w H ((execOp a.eval o).run P w) v H':=by
 obtain⟨dst,op,type,pos,after,guard⟩:=o;cases op<;>simp only[t']at ab
 case move x=>
  rw[fy]at ab;obtain⟨y,bC,rfl⟩:=ab;cases aj;exact df.still h (ec al bC) rfl
 case assign x=>
  rw[fy]at ab;obtain⟨y,bC,rfl⟩:=ab;cases aj;exact df.still h (ec al bC) rfl
 case pick c x y=>
  simp only[gk,e4,fV]at ab;obtain⟨c',kN,hH,et,yx,kA,e⟩:=ab;cases e;have fm:=ec al kN;simp only[bf]at aj;split at aj
  .rename_i e;rw[e]at fm;cases aj
   exact df.still h (ec al et) (by simp[execOp,ei fm,asBool])
  .rename_i e;rw[e]at fm;cases aj
   exact df.still h (ec al kA) (by simp[execOp,ei fm,asBool])
  .cases aj
 case alloc t=>
  split at ab
  .rename_i z bK;split at ab
   .rename_i WB;rw[fy]at ab;obtain⟨c,ab,rfl⟩:=ab;cases aj;exact(auG bK ab (oS.ok _ WB)).op h
   .cases ab;cases aj;exact aRc h bK
  .cases ab
 case box t x=>
  rw[fy]at ab;obtain⟨y,bC,rfl⟩:=ab;simp only[bf]at aj;split at aj
  .rename_i J;cases aj;exact aSQ h (ec al bC) J
  .cases aj
 case build t parts=>
  simp only[gk,e4]at ab;obtain⟨z,bK,ab⟩:=ab;split at ab
  .rename_i fs aY;simp only[fV,e4]at ab;obtain⟨pl,gp,mi,wQ,e⟩:=ab;cases e;simp only[bf]at aj;split at aj
   .rename_i cs tq;cases aj;exact aCP h al bK aY gp wQ tq
   .cases aj
  .cases ab
 case buildSlice t len parts=>
  simp only[gk,e4]at ab;obtain⟨e,he,sz,dk,z,bK,ab⟩:=ab
  have aY:P.underlying t=some (.slice e):=by
   unfold r6 at he;split at he
   .grind
   .cases he
  split at ab
  .rename_i gK;obtain⟨bd,ah,pT⟩:=gK;simp only[fV,e4]at ab;obtain⟨mi,wQ,e⟩:=ab;cases e;simp only[bf]at aj;split at aj
   .rename_i cs tq;cases aj;exact aEZ h al aY dk bK bd ah pT wQ tq
   .cases aj
  .cases ab
 case insert t m k x=>
  split at ab
  .rename_i og e aY;simp only[gk,e4,fV]at ab;obtain⟨kind,an,yD,hL,ia,nf,hH,et,e⟩:=ab;cases e;simp only[bf]at aj;split at aj
   .rename_i id key aE aU;split at aj
    .rename_i gK;split at aj
     .rename_i es bm;have Bb:=ec al hL;have wo:=ec al nf;rw[aE]at Bb;rw[aU]at wo;have:=asb h aY an Bb (ec al et) gK.2 bm aj
      simpa only[execOp,ei wo]using this
     .cases aj
    .cases aj
   .cases aj
  .cases ab
 case mapUpdate t m k x=>
  split at ab
  .rename_i og e aY;simp only[gk,e4,fV]at ab;obtain⟨kind,an,yD,hL,ia,nf,hH,et,e⟩:=ab;cases e;simp only[bf]at aj;split at aj
   .rename_i id key aE aU;split at aj
    .rename_i gK;split at aj
     .rename_i es bm;have Bb:=ec al hL;have wo:=ec al nf;rw[aE]at Bb;rw[aU]at wo;have:=asb h aY an Bb (ec al et) gK.2 bm aj
      simpa only[execOp,ei wo]using this
     .cases aj
    .cases aj
   .cases aj
  .cases ab
 case lookup t m k ok=>
  split at ab
  .rename_i og e aY;simp only[gk,e4,fV]at ab;obtain⟨kind,an,z,bK,yD,hL,ia,nf,e⟩:=ab;cases e;simp only[bf]at aj;split at aj
   .rename_i key aU;split at aj
    .rename_i rY;have wo:=ec al nf;rw[aU]at wo;have:=aOZ h aY an bK (ec al hL) rY aj
     simpa only[execOp,ei wo]using this
    .cases aj
   .cases aj
  .cases ab
 case load t x=>
  simp only[gk,e4,fV]at ab;obtain⟨⟨agg,n⟩,ai,hH,et,e⟩:=ab;cases e;simp only[bf,fy]at aj;obtain⟨r,ak,e⟩:=aj;cases e;exact aBd h ai (ec al et) ak
 case store t x y=>
  simp only[gk,e4,fV]at ab;obtain⟨⟨agg,n⟩,ai,hH,et,yx,kA,e⟩:=ab;cases e;simp only[bf,fy]at aj;obtain⟨r,ak,e⟩:=aj;cases e;exact aAw h ai (ec al et) (ec al kA) ak
 case nilCheck x=>
  rw[fy]at ab;obtain⟨y,bC,rfl⟩:=ab;have av:=ec al bC;simp only[bf]at aj;split at aj
  .rename_i e;rw[e]at av;cases aj;obtain⟨B,b,hm,Ao⟩:=H0 av
   exact df.still h av (by simp[execOp,Ao])
  .rename_i e;rw[e]at av;cases aj;obtain⟨p,Ao,_⟩:=Sz av
   exact df.still h av (by simp[execOp,Ao])
  .rename_i f fst cap e;rw[e]at av;cases aj;generalize fm:a.eval x=c at av;cases av with
   |fn _ _ _ fF e8 J aa aI bl=>exact df.still h (.fn f fst cap fF e8 J aa aI bl) (by simp[execOp,fm])
  .rename_i id e;rw[e]at av;cases aj;generalize fm:a.eval x=c at av;cases av with
   |ff _ B hm=>exact df.still h (.ff id B hm) (by simp[execOp,fm])
  .cases aj
 case binOp op t x y ty=>
  unfold PV at ab;split at ab
  .rename_i neg k aX aJ;rw[fy]at ab;obtain⟨hH,et,rfl⟩:=ab;simp only[bf]at aj;split at aj
   .rename_i b ah;cases aj;exact df.still h (.s _) (aiG aX (ec al et) ah a.eval (fun _=>rfl) (.inl ⟨aJ,rfl⟩))
   .cases aj
  .rename_i neg k aX _ aJ;rw[fy]at ab;obtain⟨hH,et,rfl⟩:=ab;simp only[bf]at aj;split at aj
   .rename_i b ah;cases aj;exact df.still h (.s _) (aiG aX (ec al et) ah a.eval (fun _=>rfl) (.inr ⟨aJ,rfl⟩))
   .cases aj
  .split at ab
   .rename_i hH yx aY et kA;cases ab;simp only[bf]at aj;split at aj
    .rename_i p q aE aU;rw[fy]at aj;obtain⟨r,ak,e⟩:=aj;cases e;have J:=ec al et;have aa:=ec al kA;rw[aE]at J;rw[aU]at aa
     exact df.still h (.s _) (by simp only[execOp,ei J,ei aa];exact amg ak)
    .cases aj
   .rename_i hH yx aY et kA;cases ab;simp only[bf]at aj;split at aj
    .rename_i p q aE aU;rw[fy]at aj;obtain⟨r,ak,e⟩:=aj;cases e;have J:=ec al et;have aa:=ec al kA;rw[aE]at J;rw[aU]at aa
     exact df.still h (.s _) (by simp only[execOp,ei J,ei aa];exact amg ak)
    .cases aj
   .rename_i hH yx aY et kA;split at ab
    .rename_i neg aX;cases ab;simp only[bf]at aj;split at aj
     .rename_i p q aE aU;cases aj;have J:=ec al et;have aa:=ec al kA;rw[aE]at J;rw[aU]at aa
      exact df.still h (.s _) (by simp only[execOp,ei J,ei aa];exact aTS aX aY)
     .cases aj
    .cases ab
   .rename_i bN hH yx aY et kA;split at ab
    .rename_i neg n aX aJ;split at ab
     .rename_i bd;cases ab;simp only[bf]at aj;split at aj
      .rename_i i g gz j apL lO aE aU;split at aj
       .cases aj
       .rename_i Iz;split at aj
        .rename_i cj cZ Fv pQ;cases aj;have J:=ec al et;have aa:=ec al kA;rw[aE]at J;rw[aU]at aa;generalize k1:a.eval x=v1 at J;generalize k2:a.eval y=v2 at aa;cases J with
         |ref _ _ _ B b hm=>cases aa with
           |ref _ _ _ zs b' hL=>
             obtain⟨arr,ty,aD,_⟩:=h.row Fv hm;obtain⟨eK,aXJ,oJ,_⟩:=h.row pQ hL
             have eS:(⟨B,b+gz,none⟩:Addr)≠⟨zs,b'+lO,none⟩:=by
              intro e;have:B=zs:=dV Addr.block e;subst this;exact Iz (h.inj _ _ _ _ _ _ _ hm hL)
             exact df.still h (.s _) (by simp only[execOp,k1,k2];exact aRI aX aY aJ bd eS aD oJ)
        .cases aj
      .cases aj
     .cases ab
    .cases ab
   .rename_i fs hH yx aY et kA;split at ab
    .rename_i neg ls aX qR;split at ab
     .cases ab
     .rename_i a8;cases ab;simp only[bf]at aj;split at aj
      .rename_i xs fw aE aU;split at aj
       .rename_i b ah;cases aj;have J:=ec al et;have aa:=ec al kA;rw[aE]at J;rw[aU]at aa;obtain⟨cj,k1,v1⟩:=Xd J;obtain⟨cZ,k2,v2⟩:=Xd aa
        exact df.still h (.s _) (by simp only[execOp,k1,k2];exact aPp aX aY (by simpa using a8) qR v1 v2 ah)
       .cases aj
      .cases aj
    .cases ab
   .cases ab
 case unOp op t x=>
  simp only[gk]at ab
  have key:∀hH,en x=some hH->qJ=.un op hH->df aK μ ae w H ((execOp a.eval ⟨dst,.unOp op t x,type,pos,after,guard⟩).run P w) v H':=by
   intro hH et he;subst he;have av:=ec al et;simp only[bf]at aj;split at aj
   .rename_i b e;rw[e]at av;cases aj
    exact df.still h (.s _) (by simp[execOp,ei av,Op.unary])
   .rename_i k n e;rw[e]at av;cases aj
    exact df.still h (.s _) (by simp[execOp,ei av,Op.unary,Op.intArith])
   .rename_i k n e;rw[e]at av;rw[fy]at aj;obtain⟨r,ak,e⟩:=aj;cases e;simp only[iL,ne_eq,Wh,hp,jI]at ak;subst ak
    exact df.still h (.s _) (by simp[execOp,ei av,Op.unary,Op.intBits])
   .cases aj
  cases op
  case plus=>cases ab
  all_goals
   rw[e4]at ab
   grind
 case convert src aXM x=>
  split at ab
  .rename_i k1 k2 ai aQ;rw[fy]at ab;obtain⟨hH,et,rfl⟩:=ab;have av:=ec al et;simp only[bf]at aj;split at aj
   .rename_i q n e;rw[e]at av;cases aj
    exact df.still h (.s _) (by simp[execOp,ei av,convert,run_underlying ai,run_underlying aQ,Conv.intToInt])
   .cases aj
  .rename_i ai aQ;rw[fy]at ab;obtain⟨hH,et,rfl⟩:=ab;have av:=ec al et;simp only[bf]at aj;split at aj
   .rename_i q e;rw[e]at av;cases aj
    exact df.still h (.s _) (by simp[execOp,ei av,convert,run_underlying ai,run_underlying aQ])
   .cases aj
  .rename_i e ai aQ;split at ab
   .rename_i he;rw[fy]at ab;obtain⟨hH,et,rfl⟩:=ab;have av:=ec al et;simp only[bf,fy]at aj;obtain⟨r,ak,cX⟩:=aj;cases cX;exact aLZ h ai aQ he av ak rfl rfl
   .cases ab
  .cases ab
 case makeFunc fn first cap=>
  cases fn<;>simp only at ab
  case func f=>
   simp only[gk,e4,fV]at ab;obtain⟨x,af,y,bC,e⟩:=ab;cases e;cases aj;have J:=GZ al af;have aa:=GZ al bC
   refine df.still h (c:=.func (.func f) (first.map a.eval) (cap.map a.eval)) (.fn f _ _ _ _ (by simpa using J.1) (by simpa using aa.1) (fun i p q ay bJ=>J.2 i p q ay (by simpa using bJ)) (fun i p q ay bJ=>aa.2 i p q ay (by simpa using bJ))) rfl
  all_goals cases ab
 case makeMap t r=>
  cases r<;>simp only at ab
  .cases ab;cases aj;exact aGG h t
  .cases ab
 case makeSlice t x y=>
  simp only[gk,e4]at ab;obtain⟨e,he,i,hi,z,bK,ab⟩:=ab
  have aY:P.underlying t=some (.slice e):=by
   unfold r6 at he;split at he
   .grind
   .cases he
  split at ab
  .rename_i gK;simp only[fV,e4]at ab;obtain⟨hH,et,yx,kA,e⟩:=ab;cases e;simp only[bf]at aj;split at aj
   .rename_i k1 l k2 c aE aU;split at aj
    .rename_i ah;cases aj;have J:=ec al et;have aa:=ec al kA;rw[aE]at J;rw[aU]at aa;have:=aL1 (k1:=k1) (k2:=k2) h aY hi bK gK.1 gK.2.1 gK.2.2 ah.1 ah.2.1 ah.2.2
     simpa only[execOp,ei J,ei aa]using this
    .cases aj
   .cases aj
  .cases ab
 case slice t x cN hi gJ=>
  split at ab
  .rename_i aY;cases gJ<;>simp only at ab
   .simp only[gk,e4,fV]at ab;obtain⟨hH,et,aBh,CN,pc,zr,e⟩:=ab;cases e;simp only[bf]at aj;split at aj
    .rename_i b aE;split at aj
     .rename_i l hh el yt;split at aj
      .rename_i gK;cases aj;have J:=ec al et;rw[aE]at J;have:=aHW (P:=P) (w:=w) aY (vC al CN el) (vC al zr yt) gK.1 gK.2.1 gK.2.2
       exact df.still h (.s _) (by simpa only[execOp,ei J,Bc]using this)
      .cases aj
     .cases aj
    .cases aj
   .cases ab
  .rename_i e aY;simp only[gk,e4]at ab;obtain⟨sz,dk,ab⟩:=ab;split at ab
   .simp only[fV,e4]at ab;obtain⟨hH,et,aBh,CN,pc,zr,aYE,PC,e⟩:=ab;cases e;have J:=ec al et;simp only[bf]at aj;cases gJ with
    |none=>
      simp[uG]at PC;subst PC;simp only at aj
      haveI:∀(d hh:Int),Decidable (oa (hi.map a.eval) d hh):=fun _ _=>Classical.propDecidable _
      have run:∀(l hh:Int) (u:V),oa (cN.map a.eval) 0 l->(match aV fr hH with
       |.s (.slice none 0 0)=>if oa (hi.map a.eval) 0 hh/\l=0/\hh=0 then some cm else none
       |.c6=>if oa (hi.map a.eval) 0 hh/\l=0/\hh=0 then some .c6 else none
       |.dc es dC=>if oa (hi.map a.eval) es.length hh/\0<=l/\l<=hh/\hh<=es.length/\dC=sz then some (V.dc ((es.drop l.toNat).take (hh-l).toNat) sz)else none
       |.aZ id g off len dC=>if oa (hi.map a.eval) len hh/\0<=l/\l<=hh/\hh<=len/\dC=sz then some (V.aZ id g (off+l.toNat*sz) (hh-l).toNat sz)else none
       |_=>none)=some u->df aK μ ae w H ((execOp a.eval ⟨dst,.slice t x cN hi none,type,pos,after,guard⟩).run P w) u H:=by
       intro l hh u aq he;have:=aSl h aY dk J aq (hi:=hi.map a.eval) (hh:=hh) he
       simpa only[execOp,Bc]using this
      split at aj
      .rename_i aE;split at aj
       .rename_i el yt;cases aj
        exact run 0 0 _ (vC al CN el) (by rw[aE];simp only;rw[bE ⟨vC al zr yt,by trivial,by trivial⟩])
       .cases aj
      .rename_i aE;split at aj
       .rename_i el yt;cases aj
        exact run 0 0 _ (vC al CN el) (by rw[aE];simp only;rw[bE ⟨vC al zr yt,by trivial,by trivial⟩])
       .cases aj
      .rename_i es dC aE;split at aj
       .rename_i l hh el yt;split at aj
        .rename_i gK;cases aj
         exact run l hh _ (vC al CN el) (by rw[aE];simp only;rw[bE ⟨vC al zr yt,gK⟩])
        .cases aj
       .cases aj
      .rename_i id g off len dC aE;split at aj
       .rename_i l hh el yt;split at aj
        .rename_i gK;cases aj
         exact run l hh _ (vC al CN el) (by rw[aE];simp only;rw[bE ⟨vC al zr yt,gK⟩])
        .cases aj
       .cases aj
      .cases aj
    |some m=>
      simp only[uG,fy]at PC;obtain⟨yD,hL,rfl⟩:=PC;simp only at aj;split at aj
      .rename_i lz yt el;cases hi with
       |none=>simp[uG]at zr
       |some hi=>
         simp only[uG,fy]at zr;obtain⟨aYx,azI,e⟩:=zr;cases e;split at aj
         .rename_i aE aU;obtain⟨k1,cj⟩:=arR (ec al azI) aE;obtain⟨k2,cZ⟩:=arR (ec al hL) aU;have:=aJv (k1:=k1) (k2:=k2) h aY dk J (vC al CN el) aj
          simpa only[execOp,o7,cj,cZ]using this
         .cases aj
      .cases aj
   .cases ab
  .cases ab
 case fieldAddr t x f=>
  split at ab
  .rename_i fs aY;simp only[gk,e4]at ab;obtain⟨fd,sO,n,aJ,ab⟩:=ab;split at ab
   .rename_i bd;simp only[fV,e4]at ab;obtain⟨hH,et,e⟩:=ab;cases e;simp only[bf]at aj;exact aJH h aY sO aJ bd (ec al et) aj
   .cases ab
  .cases ab
 case field t x f=>
  split at ab
  .rename_i fs aY;simp only[gk,e4,fV]at ab;obtain⟨fd,sO,⟨agg,n⟩,ai,hH,et,e⟩:=ab;cases e;simp only[bf]at aj;split at aj
   .rename_i cs aE;split at aj
    .rename_i aq;rw[fy]at aj;obtain⟨u,hu,e⟩:=aj;cases e;have J:=ec al et;rw[aE]at J;exact aCb h aY sO ai J aq hu
    .cases aj
   .cases aj
  .cases ab
 case indexAddr t x i=>
  simp only[gk,e4]at ab;obtain⟨e,he,sz,dk,ab⟩:=ab
  have aY:P.underlying t=some (.slice e):=by
   unfold r6 at he;split at he
   .grind
   .cases he
  split at ab
  .simp only[fV,e4]at ab;obtain⟨hH,et,xb,pc,e⟩:=ab;cases e;have J:=ec al et;have aa:=ec al pc;simp only[bf]at aj;split at aj
   .rename_i id g off len dC k n aE aU;rw[aE]at J;rw[aU]at aa;have:=aaA (k:=k) (n:=n) h aY dk J aj
    simpa only[execOp,ei aa]using this
   .rename_i es dC k n aE aU;rw[aE]at J;rw[aU]at aa;have:=aaA (k:=k) (n:=n) h aY dk J aj
    simpa only[execOp,ei aa]using this
   .cases aj
  .cases ab
 case index t x i=>
  split at ab
  .rename_i aY;simp only[gk,e4,fV]at ab;obtain⟨hH,et,xb,pc,e⟩:=ab;cases e;have J:=ec al et;have aa:=ec al pc;simp only[bf]at aj;split at aj
   .rename_i b k n aE aU;rw[aE]at J;rw[aU]at aa;split at aj
    .rename_i bd;split at aj
     .rename_i c jZ;cases aj;have:=aTR (P:=P) (w:=w) (k:=k) aY bd jZ
      exact df.still h (.s _) (by simpa only[execOp,ei J,ei aa]using this)
     .cases aj
    .cases aj
   .cases aj
  .cases ab
 case extract x i=>
  rw[fy]at ab;obtain⟨y,bC,rfl⟩:=ab;have av:=ec al bC;simp only[bf]at aj;split at aj
  .rename_i vs aE;rw[aE]at av;split at aj
   .rename_i u hu;cases aj;obtain⟨cs,Ao,lR⟩:=aTs av;obtain⟨b,ah,aSf⟩:=lR.get hu
    have kj:cs[i]?=some b:=by simpa using ah
    exact df.still h aSf (by simp[execOp,Ao,Instr.extract,kj])
   .cases aj
  .cases aj
 case call c=>
  obtain⟨callee,args,argTypes⟩:=c;cases callee<;>simp only at ab
  case value f=>
   simp only[gk,e4]at ab;obtain⟨xs,jL,ab⟩:=ab;split at ab
   .split at ab
    .cases ab;simp[bY.kP]at ht
    .simp only[fV,e4]at ab;obtain⟨y,bC,e⟩:=ab;cases e;simp[bY.kP]at ht
   .simp only[fV,e4]at ab;obtain⟨y,bC,e⟩:=ab;cases e;simp[bY.kP]at ht
  case invoke=>cases ab
  case builtin b=>
   have vI:∀b,execOp a.eval ⟨dst,.call { callee:=.builtin b,args,argTypes },type,pos,after,guard⟩=builtin b argTypes type (args.map fun|.const _=>true|_=>false) (args.map a.eval):=fun _=>rfl
   rw[vI];split at ab
   .rename_i x t aO pw
    have nb:args.map a.eval=#[a.eval x]:=by
     apply tf;simp[aO]
    have pG:argTypes[0]?=some t:=by
     have:argTypes.toList[0]?=some t:=by rw[pw];rfl
     simpa using this
    rw[nb];have zD:∀(d:TypeDesc) (c:Value) (n:Int),P.underlying t=some d->a.eval x=c->(Builtin.len_ argTypes type #[c]).run P w=.ok (goInt n) w->
     df aK μ ae w H ((builtin .len argTypes type (args.map fun|.const _=>true|_=>false) #[a.eval x]).run P w) (i64 n) H:=by
     intro d c n _ wi ak;refine df.still h (c:=.int .i64 n) (.s _) ?_;rw[wi]
     show((do pure (.value (<- Builtin.len_ argTypes type #[c])):Sem Next).run P w)=_
     simp only[Sem.run_bind,ak,ev,Sem.run_pure];rfl
    split at ab
    .rename_i aY;rw[fy]at ab;obtain⟨hH,et,rfl⟩:=ab;have av:=ec al et;simp only[bf]at aj
     split at aj<;>try cases aj
     all_goals rename_i aE aU;try cases aE
     all_goals
      rw[aU]at av
      exact zD _ _ _ aY (ei av) (by simp[Builtin.len_,pG,run_underlying aY])
    .rename_i el aY;rw[fy]at ab;obtain⟨hH,et,rfl⟩:=ab;have av:=ec al et;simp only[bf]at aj;split at aj
     .simp_all
     .rename_i aU;rw[aU]at av;cases aj
      exact zD _ _ _ aY (ei av) (by simp[Builtin.len_,pG,run_underlying aY])
     .simp_all
     .rename_i aU;rw[aU]at av;cases aj;generalize fm:a.eval x=c at av;cases av with
      |c6 aka=>rw[<- fm];exact zD _ _ _ aY fm (by simp[Builtin.len_,pG,run_underlying aY])
     .rename_i es sz aU;rw[aU]at av;cases aj;generalize fm:a.eval x=c at av;cases av with
      |dc _ _ B o cap arr e fr aD cS ab bK ai p3=>rw[<- fm];exact zD _ _ _ aY fm (by simp[Builtin.len_,pG,run_underlying aY])
      |iy _ cap aka=>rw[<- fm];exact zD _ _ _ aY fm (by simp[Builtin.len_,pG,run_underlying aY])
     .rename_i id g off len sz aU;rw[aU]at av;cases aj;generalize fm:a.eval x=c at av;cases av with
      |aZ _ _ _ _ _ B b cap arr e hm aD lZ ai=>rw[<- fm];exact zD _ _ _ aY fm (by simp[Builtin.len_,pG,run_underlying aY])
      |jw _ _ _ _ B b aka hm=>rw[<- fm];exact zD _ _ _ aY fm (by simp[Builtin.len_,pG,run_underlying aY])
     .simp_all
     .cases aj
    .rename_i k el aY;rw[fy]at ab;obtain⟨hH,et,rfl⟩:=ab;have av:=ec al et;simp only[bf]at aj;split at aj
     .simp_all
     .simp_all
     .rename_i aU;rw[aU]at av;cases aj
      exact zD _ _ _ aY (ei av) (by simp[Builtin.len_,pG,run_underlying aY])
     .simp_all
     .simp_all
     .simp_all
     .rename_i id aU;rw[aU]at av;split at aj
      .rename_i es bm;cases aj;obtain⟨B,hm,Ao⟩:=OG av;obtain⟨arr,lj,aD,cP⟩:=h.PZ bm hm
       have aq:es.length=arr.size:=by simpa using cP.1
       exact zD _ _ _ aY Ao (by simp[Builtin.len_,pG,run_underlying aY,run_getObj_map aD,aq])
      .cases aj
     .cases aj
    .cases ab
   .rename_i s x t kT aO pw
    have nb:args.map a.eval=#[a.eval s,a.eval x]:=by
     apply tf;simp[aO]
    have pG:argTypes[0]?=some t:=by
     have:argTypes.toList[0]?=some t:=by rw[pw];rfl
     simpa using this
    have aTb:argTypes[1]?=some kT:=by
     have:argTypes.toList[1]?=some kT:=by rw[pw];rfl
     simpa using this
    rw[nb];simp only[gk,e4]at ab;obtain⟨e,he,i,hi,z,bK,ab⟩:=ab
    have aY:P.underlying t=some (.slice e):=by
     unfold r6 at he;split at he
     .cases he;assumption
     .cases he
    have fin:((∃bN,P.underlying kT=some (.slice bN))\/P.underlying kT=some .string)->(if 0<i.size/\0<i.bytes/\z.cells.length=i.size then(do return bY.append i.size (GV P e i.bytes) (<- en s) (<- en x))else none)=some qJ->
     df aK μ ae w H ((builtin .append argTypes type (args.map fun|.const _=>true|_=>false) #[a.eval s,a.eval x]).run P w) v H':=by
     intro jX ab;split at ab
     .rename_i gK;simp only[gk,fV,e4]at ab;obtain⟨fW,hV,hH,et,e⟩:=ab;cases e;exact azi h pG aTb aY jX hi bK gK.2.2 gK.1 gK.2.1 (aQx P e i.bytes) (aVu P gK.2.1) (ec al hV) (ec al et) aj
     .cases ab
    split at ab
    .rename_i bN jX;exact fin (.inl ⟨bN,jX⟩) ab
    .rename_i jX;exact fin (.inr jX) ab
    .cases ab
   .rename_i m k t kT aO pw
    have nb:args.map a.eval=#[a.eval m,a.eval k]:=by
     apply tf;simp[aO]
    have pG:argTypes[0]?=some t:=by
     have:argTypes.toList[0]?=some t:=by rw[pw];rfl
     simpa using this
    rw[nb];split at ab
    .rename_i og e aY;simp only[gk,e4,fV]at ab;obtain⟨kind,an,yD,hL,ia,nf,e⟩:=ab;cases e;simp only[bf]at aj;split at aj
     .rename_i id key aE aU;split at aj
      .rename_i gK;split at aj
       .rename_i es bm;have Bb:=ec al hL;have wo:=ec al nf;rw[aE]at Bb;rw[aU]at wo;rw[ei wo];exact aPW h pG aY an Bb gK.2 bm aj
       .cases aj
      .cases aj
     .cases aj
    .cases ab
   .rename_i x t aO pw
    have nb:args.map a.eval=#[a.eval x]:=by
     apply tf;simp[aO]
    have pG:argTypes[0]?=some t:=by
     have:argTypes.toList[0]?=some t:=by rw[pw];rfl
     simpa using this
    rw[nb];simp only[gk,e4,fV]at ab;obtain⟨e,he,sz,dk,z,bK,ab⟩:=ab;split at ab
    .rename_i gK;simp only[e4]at ab;obtain⟨hH,et,aE⟩:=ab;cases aE
     have aY:P.underlying t=some (.slice e):=by
      unfold r6 at he;split at he
      .rename_i aU aa;cases he;exact aa
      .cases he
     exact aEz h pG aY bK gK.1 gK.2 (base:=base) aj (ec al et)
    .cases ab
   .rename_i d s t kT aO pw
    have nb:args.map a.eval=#[a.eval d,a.eval s]:=by
     apply tf;simp[aO]
    have pG:argTypes[0]?=some t:=by
     have:argTypes.toList[0]?=some t:=by rw[pw];rfl
     simpa using this
    rw[nb];simp only[gk,e4,fV]at ab;obtain⟨e,he,sz,dk,ab⟩:=ab;split at ab
    .split at ab
     .rename_i gK;simp only[e4]at ab;obtain⟨aX6,k5,fW,hV,aE⟩:=ab;cases aE
      have aY:P.underlying t=some (.slice e):=by
       unfold r6 at he;split at he
       .rename_i aU aa;cases he;exact aa
       .cases he
      exact aM8 h pG aY dk gK (base:=base) aj (ec al k5) (ec al hV)
     .cases ab
    .cases ab
   .rename_i x y aO
    have nb:args.map a.eval=#[a.eval x,a.eval y]:=by
     apply tf;simp[aO]
    rw[nb];simp only[gk,e4,fV]at ab;obtain⟨hH,et,yx,kA,e⟩:=ab;cases e;have J:=ec al et;have aa:=ec al kA;simp only[bf]at aj;split at aj
    .rename_i k p ia q aE aU;split at aj
     .rename_i an;cases aj;rw[aE]at J;rw[aU]at aa;rw[ei J,ei aa]
      exact df.still h (.s _) (by simp[builtin,Builtin.min_,Builtin.min2])
     .cases aj
    .cases aj
   .rename_i x y aO
    have nb:args.map a.eval=#[a.eval x,a.eval y]:=by
     apply tf;simp[aO]
    rw[nb];simp only[gk,e4,fV]at ab;obtain⟨hH,et,yx,kA,e⟩:=ab;cases e;have J:=ec al et;have aa:=ec al kA;simp only[bf]at aj;split at aj
    .rename_i k p ia q aE aU;split at aj
     .rename_i an;cases aj;rw[aE]at J;rw[aU]at aa;rw[ei J,ei aa]
      exact df.still h (.s _) (by simp[builtin,Builtin.max_,Builtin.max2])
     .cases aj
    .cases aj
   .cases ab
 all_goals cases ab
def aMK{a:Act}{fr:List V}(al:c7 μ ae w fr a.tmps){pure':fA}{o:Oper}{qJ:bY}{call:c5}{base:Nat}{v:V}(ab:t' P pure' o=some qJ)(aJ:qJ.A8=true)(aj:bf call base fr H qJ=some (v,H')):∃zp br,v=zp H.length/\H'=H++[br]/\br.cur 0/\(∀m id,id<m->fi m (zp id))/\w7 aK μ ae w ((execOp a.eval o).run P w) zp br:=by
 obtain⟨dst,op,type,pos,after,guard⟩:=o;have Hj:∀m id,id<m->fi m (V.ref id 0 0):=fun m id h=>.ref _ _ _ h;have hR:t' P pure' { dst:=dst,op:=op,type:=type,pos:=pos,after:=after,guard:=guard }=some qJ:=ab;cases op<;>simp only[t']at ab
 case alloc t=>
  split at ab
  .rename_i z bK;split at ab
   .rename_i WB;rw[fy]at ab;obtain⟨c,ab,rfl⟩:=ab;cases aj;exact⟨_,_,rfl,rfl,rfl,Hj,auG bK ab (oS.ok _ WB)⟩
   .cases ab;cases aj;exact⟨_,_,rfl,rfl,rfl,Hj,Zb bK⟩
  .cases ab
 case box t x=>
  rw[fy]at ab;obtain⟨y,bC,rfl⟩:=ab;simp only[bf]at aj;split at aj
  .rename_i J;cases aj;exact⟨_,_,rfl,rfl,rfl,Hj,aku (ec al bC) J⟩
  .cases aj
 case buildSlice t len parts=>
  simp only[gk,e4]at ab;obtain⟨e,he,sz,dk,z,bK,ab⟩:=ab
  have aY:P.underlying t=some (.slice e):=by
   unfold r6 at he;split at he
   .grind
   .cases he
  split at ab
  .rename_i gK;obtain⟨bd,ah,pT⟩:=gK;simp only[fV,e4]at ab;obtain⟨mi,wQ,e⟩:=ab;cases e;simp only[bf]at aj;split at aj
   .rename_i cs tq;cases aj
    exact⟨fun id=>if len=0 then .c6 else .aZ id 0 0 len sz,_,rfl,rfl,rfl,fun m id h=>by dsimp only;split;exact .c6;exact .aZ _ _ _ _ _ h,amt al aY dk bK bd ah pT wQ tq⟩
   .cases aj
  .cases ab
 case makeMap t r=>
  cases r<;>simp only at ab
  .cases ab;cases aj;exact⟨_,_,rfl,rfl,rfl,fun m id h=>.mp _ h,aoy t⟩
  .cases ab
 case makeSlice t x y=>
  simp only[gk,e4]at ab;obtain⟨e,he,i,hi,z,bK,ab⟩:=ab
  have aY:P.underlying t=some (.slice e):=by
   unfold r6 at he;split at he
   .grind
   .cases he
  split at ab
  .rename_i gK;simp only[fV,e4]at ab;obtain⟨hH,et,yx,kA,e⟩:=ab;cases e;simp only[bf]at aj;split at aj
   .rename_i k1 l k2 c aE aU;split at aj
    .rename_i ah;cases aj;have J:=ec al et;have aa:=ec al kA;rw[aE]at J;rw[aU]at aa;have:=ac7 (aK:=aK) (μ:=μ) (ae:=ae) (w:=w) (k1:=k1) (k2:=k2) aY hi bK gK.1 gK.2.1 gK.2.2 ah.1 ah.2.1 ah.2.2;refine⟨fun id=>.aZ id 0 0 l.toNat i.size,_,rfl,rfl,rfl,fun m id h=>.aZ _ _ _ _ _ h,?_⟩
     simpa only[execOp,ei J,ei aa]using this
    .cases aj
   .cases aj
  .cases ab
 all_goals
  exfalso;revert aJ
  have an:qJ.A8=false:=by
   clear aj hR
   repeat' (first|contradiction|rfl|(unfold PV at ab)|(cases ab;done)|(cases ab;rfl)|(rw[fy]at ab;obtain⟨_,_,rfl⟩:=ab)|(obtain⟨_,_,ab⟩:=ab)|(split at ab)|(simp only[gk,e4,fV,jI]at ab))
  rw[an];intro h;cases h
def aTe{pure':fA}{o:Oper}{qJ:bY}(ab:t' P pure' o=some qJ)(aJ:qJ.im=true):∃n a x y,qJ=.store n a x/\en y=some a:=by
 obtain⟨dst,op,type,pos,after,guard⟩:=o;cases op<;>simp only[t']at ab
 case store t a x=>
  simp only[gk,e4,fV,jI]at ab
  grind
 all_goals
  exfalso;revert aJ
  have an:qJ.im=false:=by
   repeat' (first|contradiction|rfl|(unfold PV at ab)|(cases ab;done)|(cases ab;rfl)|(rw[fy]at ab;obtain⟨_,_,rfl⟩:=ab)|(obtain⟨_,_,ab⟩:=ab)|(split at ab)|(simp only[gk,e4,fV,jI]at ab))
  rw[an];intro h;cases h
end
def ix(ro:Option Nat):Fence:={ fn:=fun _=>True,depth:=none,alive:=false,round:=ro }
section
variable {aK:eX} {μ cf:cp} {ae b9:Nat->Prop} {w w':World} {H H':ad} {P:Program} [oS aK P]
def mZ(aK:eX)(μ:cp)(ae:Nat->Prop)(w:World)(H:ad)(r:V)(H':ad)(e:Ending)(w':World):Prop:=
 ∃c cf b9,e=.returned c/\bS cf b9 w' r c/\c8 aK μ ae w H cf b9 w' H'
structure o3 (P:Program) (aK:eX) (call:c5):Prop where
 fn:∀(f:Nat) (fst cap args:List V) (base:Nat) (H:ad) (r:V) (H':ad),call (.fn f fst cap) args base H=some (r,H')->
  (∀xs w,(callFunc f xs).run P w=.ok (.enter f xs) w)/\
  ∀(μ:cp) (ae:Nat->Prop) (w:World) (cs:List Value),cE aK μ ae w H->b6 μ ae w (fst++args++cap) cs->∀n,CallsIn Fence.wide n P f cs.toArray w (mZ aK μ ae w H r H')
 ff:∀(id:Nat) (args:List V) (base:Nat) (H:ad) (r:V) (H':ad),call (.ff id) args base H=some (r,H')->
  ∀(μ:cp) (ae:Nat->Prop) (w:World) (cs:List Value) (B:Nat),cE aK μ ae w H->b6 μ ae w args cs->μ id 0=some (B,0)->
    ∃f tmps assign body,(Instr.yield B cs.toArray).run P w=.ok (.round B f tmps assign body) w/\∀n,RoundIn Fence.wide n P B f tmps assign body w (mZ aK μ ae w H r H')
 other:∀v args base H,(∀f a b,v≠.fn f a b)->(∀id,v≠.ff id)->call v args base H=none
 floor:∀v args base H r H',call v args base H=some (r,H')->H.length<=H'.length/\∀id,id<base->id<H.length->H'[id]?=H[id]?
def aQw{call:c5}(ai:o3 P aK call)(h:cE aK μ ae w H){f:V}{LV:Value}{args:List V}{Kt:Array Value}{base:Nat}{v:V}(al:bS μ ae w f LV)(aO:b6 μ ae w args Kt.toList)(aj:call f args base H=some (v,H')){ro:Option Nat}{n:Nat}{o:Oper}{a:Act}{c:Call}{next:Act->World->Prop}{Q:Exit->Act->World->Prop}(aX:o.op=.call c){g:Operand}(a8:c.callee=.value g)(axH:a.eval g=LV)(nb:c.args.map a.eval=Kt)(rp:∀r w',mZ aK μ ae w H v H' (.returned r) w'->next (a.put o.dst r) w'):o.wpIn (ix ro) n P a w next Q:=by
 refine⟨fun _ _=>trivial,?_⟩
 rw[Oper.semAt_eq _ _ _ (by simp[aX])]
 have vI:execOp a.eval o=(do let d <- resolve a.eval c o.type;invoke d.target d.args):=by
  unfold execOp;rw[aX]
 rw[vI];by_cases tF:∃k x y,f=.fn k x y
 .obtain⟨k,x,y,rfl⟩:=tF;cases al with
  |fn _ _ _ fF e8 J aa aI bl=>
    obtain⟨k6,jx⟩:=ai.fn k x y args base H v H' aj
    have db:b6 μ ae w (x++args++y) (fF++Kt++e8).toList:=by
     have af:b6 μ ae w x fF.toList:=⟨by simpa using J,fun i p q ay bJ=>aI i p q ay (by simpa using bJ)⟩
     have bC:b6 μ ae w y e8.toList:=⟨by simpa using aa,fun i p q ay bJ=>bl i p q ay (by simpa using bJ)⟩
     simpa using(af.append aO).append bC
    have fv:(do let d <- resolve a.eval c o.type;invoke d.target d.args:Sem Next).run P w=.ok (.enter k (fF++Kt++e8)) w:=by
     simp only[resolve,a8,axH,nb,Deferred.ofValue,Sem.run_bind,Sem.run_pure,ev,invoke,k6]
    rw[fv];have ab:=jx μ ae w _ h db (n-1);simp only[Cb]at ab
    refine⟨fun h=>by simp[ix]at h,ab.mono ?_⟩
    rintro e bc ⟨r,cH,cJ,rfl,ak,ay⟩;exact rp r bc ⟨r,cH,cJ,rfl,ak,ay⟩
 .by_cases N3:∃id,f=.ff id
  .obtain⟨id,rfl⟩:=N3;cases al with
   |ff _ B hm=>
     obtain⟨k,tmps,assign,body,bC,aE7⟩:=ai.ff id args base H v H' aj μ ae w Kt.toList B h aO hm
     have fv:(do let d <- resolve a.eval c o.type;invoke d.target d.args:Sem Next).run P w=.ok (.round B k tmps assign body) w:=by
      simp only[resolve,a8,axH,nb,Deferred.ofValue,Sem.run_bind,Sem.run_pure,ev,invoke,Array.empty_append]
      simpa using bC
     rw[fv]
     refine⟨fun h=>by simp[ix]at h,(aE7 (n-1)).mono ?_⟩
     rintro e bc ⟨r,cH,cJ,rfl,ak,ay⟩;exact rp r bc ⟨r,cH,cJ,rfl,ak,ay⟩
  .have:=ai.other f args base H (fun k x y e=>tF ⟨k,x,y,e⟩) (fun id e=>N3 ⟨id,e⟩)
   simp_all
def Ir{f:V->Option V}:∀{l us:List V},l.mapM f=some us->us.length=l.length/\∀(i:Nat) (u:V),us[i]?=some u->∃v,l[i]?=some v/\f v=some u:=by
 intro l
 induction l with
 |nil=>simp_all
 |cons x l aF=>
   intro us h;simp only[rA,fV,gk,e4]at h
   grind
def Wm(h:cE aK μ ae w H)(cS:∀B,¬ae B->¬b9 B)(aJ:∀id g B b,μ id g=some (B,b)->¬b9 B):∀(n:Nat) {v u:V} {c:Value},bS μ ae w v c->hr H n v=some u->gW b9 w u c:=by
 intro n
 induction n with
 |zero=>intro v u c _ al;simp[hr]at al
 |succ n aF=>
   intro v u c av al;have lists:∀{cs us:List V} {vs:Array Value},cs.length=vs.size->(∀(i:Nat) (a:V) (b:Value),cs[i]?=some a->vs[i]?=some b->bS μ ae w a b)->cs.mapM (hr H n)=some us->
    us.length=vs.size/\∀(i:Nat) (a:V) (b:Value),us[i]?=some a->vs[i]?=some b->gW b9 w a b:=by
    intro cs us vs aq db hm;obtain⟨J,aa⟩:=Ir hm
    refine⟨by rw[J,aq],fun i a b aO ah=>?_⟩
    obtain⟨x,af,Dn⟩:=aa i a aO;exact aF (db i x b af ah) Dn
   cases av with
   |s x=>simp[hr]at al;subst al;exact .s _
   |bu=>simp[hr]at al
   |agg cs vs aq db=>
     simp only[hr,fy]at al;obtain⟨us,lB,rfl⟩:=al;obtain⟨J,aa⟩:=lists aq db lB;exact .agg us vs J aa
   |bQ cs vs aq db=>
     simp only[hr,fy]at al;obtain⟨us,lB,rfl⟩:=al;obtain⟨J,aa⟩:=lists aq db lB;exact .bQ us vs J aa
   |ref id g off B b hm=>
     simp only[hr]at al;split at al
     .rename_i row kl;split at al
      case isFalse=>cases al
      rename_i SK;simp only[fy]at al;obtain⟨us,lB,rfl⟩:=al;obtain⟨arr,e,aD,ai,ak⟩:=h.row kl hm;obtain⟨J,aa⟩:=Ir lB
      refine .eu us B (b+off) arr e (0,0) aD (aJ _ _ _ _ hm) (by simp at J;omega) (fun i a x aO af=>?_)
      grind
     .cases al
   |aZ id g off len sz B b cap arr e hm aD ab ai=>
     simp only[hr]at al;split at al
     .rename_i row kl;split at al
      .rename_i dn;split at al
       .rename_i us lB;cases al;obtain⟨eK,bN,oJ,hV,ak⟩:=h.row kl hm;rw[aD]at oJ;cases oJ;obtain⟨J,aa⟩:=Ir lB
        have PH:us.length=len*sz:=by rw[J,dn]
        have wD:∀(i:Nat) (el:List V),((List.range len).map fun i=>(us.drop (i*sz)).take sz)[i]?=some el->i<len/\el=(us.drop (i*sz)).take sz:=by
         intro i el he
         have hi:i<len:=by have:=(dQ.1 he).1;simpa using this
         refine⟨hi,?_⟩;rw[ut,alq hi]at he;exact(kI he).symm
        have hmul:∀i,i<len->i*sz+sz<=len*sz:=by
         intro i hi;have:(i+1)*sz<=len*sz:=rk _ hi
         grind
        have lZ:len*sz<=cap*sz:=rk _ ab
        have lq:((List.range len).map fun i=>(us.drop (i*sz)).take sz).length=len:=by simp
        have key:gW b9 w (.dc ((List.range len).map fun i=>(us.drop (i*sz)).take sz) sz) (.slice (some ⟨B,b+off,none⟩) ((List.range len).map fun i=>(us.drop (i*sz)).take sz).length cap):=by
         refine .dc _ sz B (b+off) cap arr e (0,0) aD (aJ _ _ _ _ hm) (by omega) (fun i el he=>?_) (by rw[lq];omega) (fun i el j a x he aO af=>?_)
         .obtain⟨hi,rfl⟩:=wD i el he;have:=hmul i hi;simp;omega
         .obtain⟨hi,rfl⟩:=wD i el he
          have bz:j<sz:=by have:=(dQ.1 aO).1;simp at this;omega
          rw[mr bz,qP]at aO
          grind
        grind
       .cases al
      .cases al
     .cases al
   |jw id g off sz B b a hm=>
     simp only[hr]at al;split at al
     .split at al
      .split at al
       .cases al;exact .iy _ _ _
       .cases al
      .cases al
     .cases al
   |eu cs B o arr e fr aD il ai p3=>simp[hr]at al;subst al;exact(gW.eu cs B o arr e fr aD il ai p3).mono (fun B _ hm=>Ws fun ab=>cS B ab hm) (fun _ _ _=>rfl)
   |dc es sz B o cap arr e fr aD il ab bK ai p3=>simp[hr]at al;subst al;exact(gW.dc es sz B o cap arr e fr aD il ab bK ai p3).mono (fun B _ hm=>Ws fun ab=>cS B ab hm) (fun _ _ _=>rfl)
   |iy sz cap a=>simp[hr]at al;subst al;exact .iy _ _ _
   |c6 a=>simp[hr]at al;subst al;exact .c6 _
   |mp=>simp[hr]at al
   |fn f fst cap fF e8 J aa aI bl=>
     simp only[hr]at al;split at al
     .rename_i a b aO ah;cases al;obtain⟨cn,dP⟩:=lists J aI aO;obtain⟨bj,aT⟩:=lists aa bl ah;exact .fn f a b fF e8 cn bj dP aT
     .cases al
   |ff=>simp[hr]at al
def aKh:∀(n:Nat) {v:V} {c:Value},jD n v=true->bS μ ae w v c->gW ae w v c:=by
 intro n
 induction n with
 |zero=>intro v c h;simp[jD]at h
 |succ n aF=>
   intro v c h av;have all:∀{cs:List V} {vs:Array Value},cs.all (jD n)=true->(∀(i:Nat) (a:V) (b:Value),cs[i]?=some a->vs[i]?=some b->bS μ ae w a b)->
    ∀(i:Nat) (a:V) (b:Value),cs[i]?=some a->vs[i]?=some b->gW ae w a b:=fun aO av i a b J aa=>aF (by grind) (av i a b J aa)
   cases av with
   |s=>exact .s _
   |bu=>simp[jD]at h
   |agg cs vs aq db=>exact .agg cs vs aq (all (by simpa[jD]using h) db)
   |bQ cs vs aq db=>exact .bQ cs vs aq (all (by simpa[jD]using h) db)
   |ref=>simp[jD]at h
   |eu cs B o arr e fr aD il ai p3=>exact .eu cs B o arr e fr aD il ai p3
   |aZ=>simp[jD]at h
   |jw=>simp[jD]at h
   |dc es sz B o cap arr e fr aD il ab bK ai p3=>exact .dc es sz B o cap arr e fr aD il ab bK ai p3
   |iy sz cap a=>exact .iy _ _ _
   |c6 a=>exact .c6 _
   |mp=>simp[jD]at h
   |fn f fst cap fF e8 J aa aI bl=>
     simp only[jD,dR]at h;exact .fn f fst cap fF e8 J aa (all h.1 aI) (all h.2 bl)
   |ff=>simp[jD]at h
def aKF:∀(m:Nat) {n:Nat} {v u:V},jD n v=true->hr H m v=some u->u=v:=by
 intro m
 induction m with
 |zero=>intro n v u _ h;simp[hr]at h
 |succ m aF=>
   intro n v u ay h;cases n with
   |zero=>simp[jD]at ay
   |succ n=>
     have all:∀{cs us:List V},cs.all (jD n)=true->cs.mapM (hr H m)=some us->us=cs:=by
      intro cs us aO hm;obtain⟨J,aa⟩:=Ir hm;apply yb;intro i;by_cases hi:i<us.length
      .obtain⟨v,av,C5⟩:=aa i us[i] (eP hi);rw[eP hi,av]
       congr 1
       exact aF (by rw[fp]at aO;exact aO v (ib av)) C5
      .simp_all
     cases v<;>simp only[jD,hr,fy,dR]at ay h<;>first|(cases h;rfl)|(cases ay;done)|skip
     case agg cs=>grind
     case bQ cs=>grind
     grind
def aNq{u:V}{c:Value}(h:gW ae w u c)(al:u.Dq=true):gW b9 w u c:=by
 have one:∀{u:V} {c:Value},gW ae w u c->u.flat=true->gW b9 w u c:=by
  intro u c h al
  cases h<;>first|exact .s _|(simp[V.flat]at al;done)
 cases h with
 |s x=>exact .s _
 |agg cs vs aq db=>
   refine .agg cs vs aq (fun i a b aO ah=>one (db i a b aO ah) ?_);simp only[V.Dq,fp]at al
   grind
 |bQ cs vs aq db=>
   refine .bQ cs vs aq (fun i a b aO ah=>?_);have av:=db i a b aO ah;simp only[V.Dq,fp]at al;have:=al a (ib aO);cases av with
   |s x=>exact .s _
   |agg cs vs aq db=>
     refine .agg cs vs aq (fun i a b aO ah=>one (db i a b aO ah) ?_)
     grind
   |_=>simp at this
 |_=>simp[V.Dq]at al
def aok{n:Nat}{vs us:List V}{cs:List Value}(av:b6 μ ae w vs cs)(hm:vs.mapM (hr H n)=some us){Q:V->Value->Prop}(bJ:∀v u c,bS μ ae w v c->v∈vs->hr H n v=some u->Q u c):
 us.length=cs.length/\∀(i:Nat) (a:V) (b:Value),us[i]?=some a->cs[i]?=some b->Q a b:=by
 obtain⟨J,aa⟩:=Ir hm
 refine⟨by rw[J,av.1],fun i a b aO ah=>?_⟩
 obtain⟨x,af,Dn⟩:=aa i a aO;exact bJ x a b (av.2 i x b af ah) (ib af) Dn
def aor{call:c5}(ai:o3 P aK call)(h:cE aK μ ae w H){k:Nat}{vs us:List V}{cs:List Value}(av:b6 μ ae w vs cs)(hm:vs.mapM (hr H 12)=some us){v u:V}{cK:ad}(ab:call (.fn k [] []) us 0 []=some (v,cK))(hu:hr cK 12 v=some u)(ay:(vs.all (jD 12)||u.Dq)=true)(n:Nat):
 (∀xs w,(callFunc k xs).run P w=.ok (.enter k xs) w)/\CallsIn Fence.wide n P k cs.toArray w (mZ aK μ ae w H u H):=by
 obtain⟨k6,jx⟩:=ai.fn k [] [] us 0 [] v cK ab;refine⟨k6,?_⟩;have main:∀dY:Nat->Prop,(∀B,B<w.heap.size->¬ae B->¬dY B)->b6 (fun _ _=>none) dY w us cs->
  (∀cH cJ bc c,c8 aK (fun _ _=>none) dY w [] cH cJ bc cK->bS cH cJ bc v c->gW (fun B=>ae B/\B<w.heap.size) bc u c)->CallsIn Fence.wide n P k cs.toArray w (mZ aK μ ae w H u H):=by
  intro dY aUx db j2
  have bd:cE aK (fun _ _=>none) dY w []:=⟨fun _ _ _ h=>by simp at h,fun _ _ _ _ h=>by simp at h,fun _ _ _ _ _ h=>by simp at h,fun _ _ _ _ _ _ _ h=>by simp at h,fun _ _ _ _ _ h=>by simp at h,fun _ _ _ _ h=>by simp at h,fun B o e=>⟨(h.fix B o e).1,aUx B (hZ (h.fix B o e).1) (h.fix B o e).2⟩,fun _ _ _ h=>by simp at h⟩
  refine(jx _ dY w cs bd (by simpa using db) n).mono ?_
  rintro e bc ⟨c,cH,cJ,rfl,ak,h0⟩;have aGB:=j2 cH cJ bc c h0 ak
  have D3:∀B,B<w.heap.size->bc.heap[B]?=w.heap[B]?:=fun B aD=>h0.c4.cD B aD (fun _ _ _ h=>by simp at h)
  have gG:=h0.c4.shape;refine⟨c,μ,fun B=>ae B/\B<w.heap.size,rfl,aGB.vr,cq _,⟨h.hz,fun id g B b e=>⟨⟨(h.gF id g B b e).1,(h.gF id g B b e).2⟩,mm (h.gF id g B b e).2 h0.c4.size⟩,fun id br g B b bm ab e=>?_,h.inj,h.mQ,h.wf,h.fixed (fun B _ hm=>hm.1) (fun B aD _=>D3 B aD),h.zero⟩,
   fun _ _ _ h=>h,fun B aD=>⟨fun h=>h.1,fun h=>⟨h,aD⟩⟩,⟨h0.c4.size,gG,h0.c4.loops,fun B aD _=>D3 B aD,h0.c4.back,h0.c4.os,h0.c4.tape,h0.c4.output⟩,fun id g _ b e _=>⟨id,g,b,e⟩,fun _ g p e _=>⟨g,p,e⟩⟩
  obtain⟨o,aX,ak⟩:=h.kY id br g B b bm ab e;exact⟨o,(D3 B (hZ aX)).trans aX,ak.mono (fun _ _ _ h=>h) (fun B _ hm=>hm.1) (fun B aD _=>D3 B aD) gG⟩
 by_cases Gq:vs.all (jD 12)=true
 .refine main ae (fun _ _ h=>h) ?_ ?_
  .refine aok (Q:=fun a b=>bS _ _ _ a b) av hm (fun x u c af iv al=>?_)
   have aqM:jD 12 x=true:=by rw[fp]at Gq;exact Gq x iv
   rw[aKF 12 aqM al];exact(aKh 12 aqM af).vr
  .intro cH cJ bc c h0 ak;refine Wm h0.ak (fun B aJ hm=>?_) (fun id g B b e hm=>?_) 12 ak hu
   .exact aJ ((h0.mt B hm.2).2 hm.1)
   .obtain⟨uw,g0,e0,cX⟩:=h0.hR id g B b e hm.2;simp at cX
 .have e2:u.Dq=true:=by simpa[Gq]using ay
  refine main (fun _=>False) (fun _ _ _ h=>h) ?_ ?_
  .refine aok (Q:=fun a b=>bS _ _ _ a b) av hm (fun x u c af iv al=>?_);exact(Wm h (b9:=fun _=>False) (fun _ _ h=>h) (fun _ _ _ _ _ h=>h) 12 af al).vr
  .intro cH cJ bc c h0 ak;exact aNq (Wm h0.ak (b9:=fun _=>False) (fun _ _ h=>h) (fun _ _ _ _ _ h=>h) 12 ak hu) e2
def xA{pure':fA}{o:Oper}{iB:bY}(h:qh P pure' o=some iB):
 (∃f args jS xs y,o.op=.call { callee:=.value f,args,argTypes:=jS }/\Cd args=some xs/\en f=some y/\((∃k,f=.func k/\iB=.sq k xs)\/iB=.call y xs))\/
 (t' P pure' o=some iB/\iB.kP=false/\∀c,o.op≠.defer c):=by
 unfold qh at h;split at h
 .grind
 .split at h
  .rename_i zN axJ;split at h
   .cases h
   .rename_i ht;cases h
    refine .inr ⟨axJ,by simpa using ht,fun c ab=>?_⟩
    simp[t',ab]at axJ
  .cases h
def aU7(H:ad):∀(n:Nat) (v:V),jD n v=true->hr H n v=some v:=by
 intro n
 induction n with
 |zero=>intro v h;simp[jD]at h
 |succ n aF=>
   have all:∀l:List V,l.all (jD n)=true->l.mapM (hr H n)=some l:=by
    intro l
    induction l with
    |nil=>intro _;rfl
    |cons x l aXS=>
      simp_all
   intro v h
   cases v<;>simp only[jD]at h<;>first|(cases h;done)|rfl|skip
   case agg cs=>simp only[hr,all cs h];rfl
   case bQ cs=>simp only[hr,all cs h];rfl
   case fn f a b=>
    simp only[dR]at h;simp only[hr,all a h.1,all b h.2]
theorem aWp(H:ad)(n:Nat):∀{l:List V},l.all (jD n)=true->l.mapM (hr H n)=some l:=by
 intro l
 induction l with
 |nil=>intro _;rfl
 |cons x l aF=>
   intro h;simp only[pq,dR]at h;simp only[rA,aU7 H n x h.1,aF h.2];rfl
def xi{call:c5}(ai:o3 P aK call)(h:cE aK μ ae w H){a:Act}{fr:List V}(al:c7 μ ae w fr a.tmps){pure':fA}{o:Oper}{iB:bY}{base:Nat}{v:V}(ab:DK P pure' o iB)(aj:bf call base fr H iB=some (v,H')){ro:Option Nat}{n:Nat}{next:Act->World->Prop}{Q:Exit->Act->World->Prop}(rp:∀r w',mZ aK μ ae w H v H' (.returned r) w'->next (a.put o.dst r) w'):o.wpIn (ix ro) n P a w next Q:=by
 have plain:∀(f:Operand) (args:Array Operand) (jS:Array TypeId) (xs:List b0) (y:b0) (b:Nat),o.op=.call { callee:=.value f,args,argTypes:=jS }->Cd args=some xs->en f=some y->
  call (aV fr y) (xs.map (aV fr)) b H=some (v,H')->o.wpIn (ix ro) n P a w next Q:=by
  intro f args jS xs y b aX jL bC fk;exact aQw ai h (ec al bC) (GZ al jL) fk aX (g:=f) rfl rfl rfl rp
 rcases ab with ab|⟨f,xs,ab,rfl⟩|⟨k,xs,ab,rfl⟩|⟨sz,aXw,s,x,ab,rfl⟩|rfl
 case inr.inr.inr.inr=>cases aj
 case inr.inr.inr.inl=>
  rcases xA ab with⟨_,_,_,_,_,_,_,_,⟨_,_,e⟩|e⟩|⟨kN,ht,lN⟩
  .cases e
  .cases e
  .obtain⟨bA,bc,cH,cJ,ak,l0,ay⟩:=D2 (call:=call) (base:=H.length) h al kN ht aj;refine⟨fun _ _=>trivial,?_⟩;rw[Oper.semAt_eq _ _ _ lN]
   rcases ak with ak|⟨ak,rfl⟩
   .rw[ak];exact rp bA bc ⟨bA,cH,cJ,rfl,l0,ay⟩
   .rw[ak];exact rp _ bc ⟨_,cH,cJ,rfl,l0,ay⟩
 rcases xA ab with⟨f,args,jS,xs,y,aX,jL,bC,⟨k,rfl,rfl⟩|rfl⟩|⟨kN,ht,lN⟩
 .
  simp only[bf]at aj;split at aj
  .rename_i us lB;split at aj
   .rename_i r cK fk;split at aj
    .rename_i u hu;split at aj
     .rename_i ay;cases aj;obtain⟨k6,K3⟩:=aor ai h (GZ al jL) lB fk hu ay (n-1);refine⟨fun _ _=>trivial,?_⟩
      rw[Oper.semAt_eq _ _ _ (by simp[aX])]
      have vI:execOp a.eval o=(do let d <- resolve a.eval { callee:=.value (.func k),args,argTypes:=jS } o.type;invoke d.target d.args):=by
       unfold execOp;rw[aX]
      have fv:(execOp a.eval o).run P w=.ok (.enter k (args.map a.eval)) w:=by
       rw[vI];have aE:a.eval (.func k)=.func (.func k) #[] #[]:=rfl;simp only[resolve,aE,Deferred.ofValue,Sem.run_bind,Sem.run_pure,ev,invoke,k6];simp
      rw[fv];simp only[Cb]at K3
      refine⟨fun h=>by simp[ix]at h,K3.mono ?_⟩
      rintro e bc ⟨r,cH,cJ,rfl,ak,ay⟩;exact rp r bc ⟨r,cH,cJ,rfl,ak,ay⟩
     .cases aj
    .cases aj
   .cases aj
  .cases aj
 .exact plain f args jS xs y base aX jL bC aj
 .obtain⟨bA,bc,cH,cJ,ak,l0,ay⟩:=D2 h al kN ht aj;refine⟨fun _ _=>trivial,?_⟩;rw[Oper.semAt_eq _ _ _ lN]
  rcases ak with ak|⟨ak,rfl⟩
  .rw[ak];exact rp bA bc ⟨bA,cH,cJ,rfl,l0,ay⟩
  .rw[ak];exact rp _ bc ⟨_,cH,cJ,rfl,l0,ay⟩
 .rcases xA ab with⟨hk,args,jS,vt,y,aX,jL,bC,⟨k,_,e⟩|e⟩|⟨_,ht,_⟩
  .cases e
  .cases e;exact plain hk args jS xs f H.length aX jL bC aj
  .simp[bY.kP]at ht
 .rcases xA ab with⟨hk,args,jS,vt,y,aX,jL,bC,⟨ia,rfl,e⟩|e⟩|⟨_,ht,_⟩
  .cases e;simp only[bf]at aj;split at aj
   .rename_i Gq;split at aj
    .rename_i r cK fk;split at aj
     .rename_i u hu;cases aj
      obtain⟨k6,K3⟩:=aor ai h (GZ al jL) (aWp H 12 Gq) fk hu (by rw[Gq];rfl) (n-1)
      refine⟨fun _ _=>trivial,?_⟩
      rw[Oper.semAt_eq _ _ _ (by simp[aX])]
      have vI:execOp a.eval o=(do let d <- resolve a.eval { callee:=.value (.func k),args,argTypes:=jS } o.type;invoke d.target d.args):=by
       unfold execOp;rw[aX]
      have fv:(execOp a.eval o).run P w=.ok (.enter k (args.map a.eval)) w:=by
       rw[vI];have aE:a.eval (.func k)=.func (.func k) #[] #[]:=rfl;simp only[resolve,aE,Deferred.ofValue,Sem.run_bind,Sem.run_pure,ev,invoke,k6];simp
      rw[fv];simp only[Cb]at K3
      refine⟨fun h=>by simp[ix]at h,K3.mono ?_⟩
      rintro e bc ⟨r,cH,cJ,rfl,ak,ay⟩;exact rp r bc ⟨r,cH,cJ,rfl,ak,ay⟩
     .cases aj
    .cases aj
   .cases aj
  .cases e
  .simp[bY.kP]at ht
end
section
variable {aK:eX} {μ cf:cp} {ae b9:Nat->Prop} {w w':World} {H H':ad} {P:Program} [oS aK P] {pure':fA}
def c7.put{fr:List V}{a:Act}(al:c7 μ ae w fr a.tmps)(dst:Option Nat){v:V}{c:Value}(av:bS μ ae w v c):c7 μ ae w (put dst v fr) (a.put dst c).tmps:=by
 cases dst with
 |none=>exact al
 |some d=>
   have:=b6.set al d av
   simpa[c7,ea.put,Act.put]using this
def c7.post{ej:cp}{dY:Nat->Prop}{dv:World}{cK:ad}(bd:cE aK ej dY dv cK)(ay:c8 aK ej dY dv cK μ ae w H){fr:List V}{t:Array Value}(al:c7 ej dY dv fr t):c7 μ ae w fr t:=ay.J3 bd al
def c7.aSj{fr:List V}{t:Array Value}(al:c7 μ ae w fr t)(i:Nat):c7 μ ae w (fr.set i .bu) t:=by
 refine⟨by simpa using al.1,fun j a b aO ah=>?_⟩
 by_cases bz:i=j
 .subst bz
  rw[w8 (by grind)]at aO
  cases aO;exact .bu _
 .rw[cG bz]at aO;exact al.2 j a b aO ah
def c7.kill{t:Array Value}:∀(hc:List Nat) {fr:List V},c7 μ ae w fr t->c7 μ ae w (ul hc fr) t:=by
 intro hc
 induction hc with
 |nil=>intro fr h;exact h
 |cons k hc aF=>intro fr h;exact aF (h.aSj k)
def uX{ops:Array Oper}{o:Oper}{iB:bx}(a8:IA ops o.guard=some iB.guard){fr:List V}{t:Array Value}(al:c7 μ ae w fr t){b:Bool}(h:want iB fr=some b):Region.wanted o (yielded ops t)=b:=by
 unfold IA at a8;split at a8
 .rename_i aE;cases cg:iB.guard with
  |none=>simp[want,cg]at h;subst h;simp[Region.wanted,aE]
  |some p=>simp_all
 .rename_i j x aE;split at a8
  .rename_i aTk apV;split at a8
   .rename_i d aQ;cases cg:iB.guard with
    |none=>simp_all
    |some p=>
      rw[cg]at a8;cases a8;simp only[want,cg]at h;have av:=al.getD d
      have bC:yielded ops t j=match t[d]? with|some (.bool b)=>some b|_=>none:=by
       simp only[yielded,apV,Option.bind_some,aQ];rfl
      have Cr:∀u,fr.getD d .bu=.s u->t[d]?=some u:=by
       intro u hu;rw[hu]at av;have av:=ei av;by_cases aq:d<t.size
       .simp_all
       .exfalso
        have:fr.getD d .bu=.bu:=by
         have:¬d<fr.length:=by rw[al.1];simpa using aq
         simp[List.getD,this]
        simp_all
      split at h
      .rename_i y kA;cases h;have:=Cr _ kA;simp only[Region.wanted,aE,bC,this]
       simp_all
      .rename_i y kA;cases h;have:=Cr _ kA;simp only[Region.wanted,aE,bC,this];rfl
      .cases h
   .cases a8
  .cases a8
def pb(aK:eX)(μ:cp)(ae:Nat->Prop)(w:World)(H:ad)(de:List Deferred)(aW:List V)(H':ad)(bW:Act)(w':World):Prop:=
 ∃cf b9,c8 aK μ ae w H cf b9 w' H'/\c7 cf b9 w' aW bW.tmps/\bW.defers=de
theorem put_defers(a:Act)(d:Option Tmp)(v:Value):(a.put d v).defers=a.defers:=by cases d<;>rfl
def aux{call:c5}(ai:o3 P aK call){ops:Array Oper}{l:List bx}(ak:pP P pure' ops l){base:Nat}{ro:Option Nat}{n:Nat}{Q:Exit->Act->World->Prop}{aW:List V}{H':ad}:
 ∀(j k:Nat) (fr:List V) (H:ad) (a:Act) (w:World) (μ:cp) (ae:Nat->Prop),j+k=ops.size->cE aK μ ae w H->c7 μ ae w fr a.tmps->cI call base (l.drop k) fr H=some (aW,H')->
   (∀bW w',pb aK μ ae w H a.defers aW H' bW w'->Q .normal bW w')->wpOpsIn (ix ro) n P ops Q ((List.range ops.size).drop k) a w:=by
 intro j
 induction j with
 |zero=>
   intro k fr H a w μ ae an h al aj a6
   have nf:k=ops.size:=by omega
   subst nf
   rw[Gh (by simp)]
   rw[Gh (by rw[ak.1];omega)]at aj
   cases aj;exact a6 a w ⟨μ,ae,c8.refl h,al,rfl⟩
 |succ j aF=>
   intro k fr H a w μ ae an h al aj a6
   have b8:k<ops.size:=by omega
   have C1:k<l.length:=by rw[ak.1];exact b8
   have aE:(List.range ops.size).drop k=k::(List.range ops.size).drop (k+1):=by
    rw[mF (by simpa using b8)];simp
   rw[aE];rw[mF C1]at aj;have aX:ops[k]?=some ops[k]:=mO b8;obtain⟨aQ,ab,a8⟩:=ak.2 k ops[k] l[k] aX (eP C1);rw[wpOpsIn_cons];unfold wpOpIn;simp only[aX];simp only[cI]at aj;split at aj
   .cases aj
   .rename_i hw;rw[uX a8 al hw];simp only[pD,hp];refine⟨fun _ _=>trivial,?_⟩
    refine aF (k+1) _ H _ w μ ae (by omega) h (aQ▸al.put _ (.s _)) aj (fun bW w' bJ=>a6 bW w' ?_)
    rw[put_defers]at bJ;exact bJ
   .rename_i hw;rw[uX a8 al hw];simp only[eW];split at aj
    .rename_i v H1 dz;refine xi ai h al ab dz ?_;rintro r bc ⟨c,cH,cJ,e,av,ay⟩;cases e
     refine aF (k+1) _ H1 _ bc cH cJ (by omega) ay.ak (aQ▸(al.post h ay).put _ av) aj (fun bW w' bJ=>a6 bW w' ?_)
     rw[put_defers]at bJ;obtain⟨h',lU,ou,aGL,aF9⟩:=bJ;exact⟨h',lU,ay.trans ou,aGL,aF9⟩
    .cases aj
def mV(m:Nat)(μ:cp):cp:=fun id g=>if id<m then μ id g else none
def ic{m id g:Nat}{p:Nat × Nat}(h:mV m μ id g=some p):id<m/\μ id g=some p:=by
 unfold mV at h
 simp_all
def ss{m id g:Nat}(h:id<m):mV m μ id g=μ id g:=by simp[mV,h]
def Wo{m:Nat}:∀(n:Nat) {v:V} {c:Value},ir m n v=true->bS μ ae w v c->bS (mV m μ) ae w v c:=by
 intro n
 induction n with
 |zero=>intro v c h;simp[ir]at h
 |succ n aF=>
   intro v c h av;have all:∀{cs:List V} {vs:Array Value},cs.all (ir m n)=true->(∀(i:Nat) (a:V) (b:Value),cs[i]?=some a->vs[i]?=some b->bS μ ae w a b)->
    ∀(i:Nat) (a:V) (b:Value),cs[i]?=some a->vs[i]?=some b->bS (mV m μ) ae w a b:=fun aO av i a b J aa=>aF (by grind) (av i a b J aa)
   cases av with
   |s=>exact .s _
   |bu=>exact .bu _
   |agg cs vs aq db=>exact .agg cs vs aq (all (by simpa[ir]using h) db)
   |bQ cs vs aq db=>exact .bQ cs vs aq (all (by simpa[ir]using h) db)
   |ref id g off B b hm=>simp[ir]at h;exact .ref id g off B b (by rw[ss h];exact hm)
   |eu cs B o arr e fr aD il ai p3=>exact .eu cs B o arr e fr aD il ai p3
   |aZ id g off len sz B b cap arr e hm aD ab ai=>simp[ir]at h;exact .aZ id g off len sz B b cap arr e (by rw[ss h];exact hm) aD ab ai
   |jw id g off sz B b a hm=>simp[ir]at h;exact .jw id g off sz B b a (by rw[ss h];exact hm)
   |dc es sz B o cap arr e fr aD il ab bK ai p3=>exact .dc es sz B o cap arr e fr aD il ab bK ai p3
   |iy sz cap a=>exact .iy _ _ _
   |c6 a=>exact .c6 _
   |mp id B hm=>simp[ir]at h;exact .mp id B (by rw[ss h];exact hm)
   |fn f fst cap fF e8 J aa aI bl=>
     simp only[ir,dR]at h;exact .fn f fst cap fF e8 J aa (all h.1 aI) (all h.2 bl)
   |ff id B hm=>simp[ir]at h;exact .ff id B (by rw[ss h];exact hm)
def anQ{m n:Nat}{vs:List V}{cs:List Value}(h:vs.all (ir m n)=true)(av:b6 μ ae w vs cs):b6 (mV m μ) ae w vs cs:=
 ⟨av.1,fun i a b aO ah=>Wo n (by grind) (av.2 i a b aO ah)⟩
def aMF{m:Nat}{br:aM}{b:Nat}{o:Obj}(h:aM.under m br=true)(ak:kz aK μ ae w br b o):kz aK (mV m μ) ae w br b o:=by
 cases br with
 |cells g c=>
   cases o<;>first|exact ak.elim|skip
   exact⟨ak.1,ak.2.1,fun i a v aO av=>Wo 8 (by simp only[aM.under,fp]at h;grind) (ak.2.2.1 i a v aO av),ak.2.2.2⟩
 |map es=>
   cases o<;>first|exact ak.elim|skip
   exact⟨ak.1,ak.2.1,fun i k v e he av=>⟨(ak.2.2 i k v e he av).1,Wo 8 (by simp only[aM.under,fp]at h;grind) (ak.2.2 i k v e he av).2⟩⟩
 |loop st tn tmps params assign body=>
   cases o<;>first|exact ak.elim|skip
   obtain⟨bd,J,aa,aI,bl,cO,fQ⟩:=ak;exact⟨bd,J,aa,anQ h aI,bl,cO,fQ⟩
 |dead=>cases o<;>exact ak.elim
 |bytes g l=>cases o<;>first|exact ak.elim|exact ak
def Ys{m:Nat}:∀(n:Nat) {v:V},ir m n v=true->fi m v:=by
 intro n
 induction n with
 |zero=>intro v h;simp[ir]at h
 |succ n aF=>
   intro v h
   have all:∀{cs:List V},cs.all (ir m n)=true->∀v∈cs,fi m v:=fun aO v av=>aF (by simp_all)
   cases v<;>simp only[ir,dR,l8]at h
   case s=>exact .s _
   case agg=>exact .agg _ (all h)
   case bQ=>exact .bQ _ (all h)
   case ref=>exact .ref _ _ _ h
   case eu=>exact .eu _
   case aZ=>exact .aZ _ _ _ _ _ h
   case dc=>exact .dc _ _
   case c6=>exact .c6
   case mp=>exact .mp _ h
   case fn=>exact .fn _ _ _ (all h.1) (all h.2)
   case ff=>exact .ff _ h
   case aoG=>cases h
   case bu=>exact .bu
def aHg{m:Nat}{br:aM}(h:aM.under m br=true):ob m br:=by
 cases br with
 |cells g c=>simp only[aM.under,fp]at h;exact fun v av=>Ys 8 (h v av)
 |map es=>simp only[aM.under,fp]at h;exact fun e he=>Ys 8 (h e he)
 |loop st LJ t ps a b=>simp only[aM.under,fp]at h;exact fun v av=>Ys 8 (h v av)
 |dead=>trivial
 |bytes g l=>trivial
def P1{ej:cp}{dY:Nat->Prop}{dv:World}{cK:ad}(ay:c8 aK ej dY dv cK μ ae w H)(vZ:∀id g p,ej id g=some p->id<cK.length){m:Nat}(ts:cK.length<=m)(hm:m<=H.length){fr:List V}{t:Array Value}(al:c7 μ ae w fr t):
 ∃h',c8 aK ej dY dv cK h' ae w (trim m fr H)/\c7 h' ae w fr t/\(∀id g p,h' id g=some p->μ id g=some p)/\m<=(trim m fr H).length:=by
 unfold trim;split
 .rename_i ab;simp only[dR]at ab
  have dn:(H.take m).length=m:=by simp;omega
  have uZ:∀(id:Nat) (br:aM),(H.take m)[id]?=some br->id<m/\H[id]?=some br:=by
   intro id br h
   have hi:id<m:=by have:=(dQ.1 h).1;omega
   exact⟨hi,by rwa[mr hi]at h⟩
  refine⟨mV m μ,⟨by omega,⟨fun id g p e=>by rw[dn];exact(ic e).1,fun id g B b e=>ay.ak.gF id g B b (ic e).2,fun id br g B b bm Ed e=>?_,
   fun id g gw g' B b b' e bN=>ay.ak.inj _ _ _ _ _ _ _ (ic e).2 (ic bN).2,fun id g g' c p e bm=>ay.ak.mQ _ _ _ _ _ (ic e).2 (uZ _ _ bm).2,fun id g p br e bm=>by
    rw[dn];have aa:=ab.2;rw[fp]at aa;exact aHg (aa br (ib bm)),ay.ak.fix,fun id B b e=>ay.ak.zero _ _ _ (ic e).2⟩,
   fun id g p e=>by rw[ss (mm (vZ _ _ _ e) ts)];exact ay.ext _ _ _ e,ay.mt,ay.c4,fun id g B b e aD=>ay.hR _ _ _ _ (ic e).2 aD,fun id g p e hid=>ay.news _ _ _ (ic e).2 hid⟩,
   anQ ab.1 al,fun id g p e=>(ic e).2,by omega⟩
  obtain⟨o,aX,ak⟩:=ay.ak.kY id br g B b (uZ _ _ bm).2 Ed (ic e).2;refine⟨o,aX,aMF ?_ ak⟩
  grind
 grind
def Pw(D:Nat):Deferred:={ target:=.collected D,args:=#[] }
def Marks(cN:Nat)(μ:cp)(w:World)(Qa de:List Deferred):Prop:=
 ∃L:List Nat,Qa=L.map Pw++de/\L.Nodup/\∀D∈L,cN<=D/\w.heap[D]?=some (.deferred (some []))/\∀id g b,μ id g≠some (D,b)
def Marks.refl(cN:Nat)(μ:cp)(w:World)(de:List Deferred):Marks cN μ w de de:=⟨[],rfl,List.nodup_nil,fun _ h=>by cases h⟩
def Marks.sub{cN:Nat}{Qa de:List Deferred}(h:Marks cN μ w Qa de)(ai:∀id g p,cf id g=some p->μ id g=some p):Marks cN cf w Qa de:=by
 obtain⟨L,J,aa,aI⟩:=h;exact⟨L,J,aa,fun D d'=>⟨(aI D d').1,(aI D d').2.1,fun id g b e=>(aI D d').2.2 id g b (ai _ _ _ e)⟩⟩
def Marks.trans{cN:Nat}{cH h':cp}{cJ lU:Nat->Prop}{bc dJ:World}{H1 bH:ad}{de ud amY:List Deferred}(h:Marks cN cH bc ud de)(ay:c8 aK cH cJ bc H1 h' lU dJ bH)(uv:cN<=bc.heap.size)(k:Marks bc.heap.size h' dJ amY ud):Marks cN h' dJ amY de:=by
 obtain⟨L,rfl,aa,aI⟩:=h;obtain⟨K,rfl,k2,eN⟩:=k
 refine⟨K++L,by simp,?_,?_⟩
 .grind
 .intro D d'
  rcases pu.1 d' with d'|d'
  .grind
  .obtain⟨bj,aT,a1⟩:=aI D d';refine⟨bj,(ay.c4.cD D (hZ aT) a1).trans aT,fun id g b e=>?_⟩;obtain⟨uw,g0,e0,cX⟩:=ay.hR id g D b e (hZ aT)
   grind
def o6(aK:eX)(μ:cp)(ae:Nat->Prop)(w:World)(H:ad)(de:List Deferred)(aW:List V)(H':ad)(bW:Act)(w':World):Prop:=
 ∃cf b9,c8 aK μ ae w H cf b9 w' H'/\c7 cf b9 w' aW bW.tmps/\Marks w.heap.size cf w' bW.defers de
def o6.trans{cH:cp}{cJ:Nat->Prop}{bc:World}{H1:ad}{de ud:List Deferred}{aW:List V}{bW:Act}(ay:c8 aK μ ae w H cH cJ bc H1)(hm:Marks w.heap.size cH bc ud de)(h:o6 aK cH cJ bc H1 ud aW H' bW w'):
 o6 aK μ ae w H de aW H' bW w':=by
 obtain⟨h',lU,dP,f2,m2⟩:=h;exact⟨h',lU,ay.trans dP,f2,hm.trans dP ay.c4.size m2⟩
def Nv:nE->Exit
 |.bR=>.normal
 |.ext id=>.exit id
 |.ret=>.ret
def N1(P:Program)(aK:eX)(ro:Option Nat)(n:Nat)(c:Code)(b:List V->ad->Option cy):Prop:=
 ∀(fr:List V) (H:ad) (e:nE) (aW:List V) (H':ad),b fr H=some (e,aW,H')->
   ∀(μ:cp) (ae:Nat->Prop) (w:World) (a:Act) (Q:Exit->Act->World->Prop),cE aK μ ae w H->c7 μ ae w fr a.tmps->(∀l,ro=some l->∃r,w.heap[l]?=some (.loop r))->
     (∀bW w',o6 aK μ ae w H a.defers aW H' bW w'->Q (Nv e) bW w')->c.wpIn (ix ro) n P Q a w
def aUC{ro:Option Nat}{n:Nat}{c:Code}{b:List V->ad->Option cy}(ah:N1 P aK ro n c b)(kill:List Nat)(m:Nat):∀(k:Nat) (fr:List V) (H:ad) (e:nE) (aW:List V) (H':ad),gd b kill m k fr H=some (e,aW,H')->
 ∀(μ:cp) (ae:Nat->Prop) (w:World) (a:Act) (Q:Exit->Act->World->Prop) (ej:cp) (dY:Nat->Prop) (dv:World) (cK:ad) (de:List Deferred),cE aK ej dY dv cK->cK.length<=m->m<=H.length->
   c8 aK ej dY dv cK μ ae w H->Marks dv.heap.size μ w a.defers de->c7 μ ae w fr a.tmps->(∀l,ro=some l->∃r,w.heap[l]?=some (.loop r))->
   (∀bW w',o6 aK ej dY dv cK de aW H' bW w'->Q (Nv e) bW w')->Code.roundsIn (ix ro) n P c Q k a w:=by
 intro k
 induction k with
 |zero=>intro fr H e aW H' h;simp[gd]at h
 |succ k aF=>
   intro fr H e aW H' aj μ ae w a Q ej dY dv cK de bd ts hm ay nt al eR a6;rw[roundsIn_succ];simp only[gd]at aj;split at aj
   .rename_i cw H1 eg;refine ah fr H .bR cw H1 eg μ ae w a _ ay.ak al eR ?_;rintro bw bc ⟨cH,cJ,cn,f1,m1⟩;have hX:=ay.trans cn;obtain⟨h',dP,f2,s2,fZ⟩:=P1 hX bd.hz ts (jn hm cn.len) (f1.kill kill);have IZ:=(nt.trans cn ay.c4.size m1).sub s2;refine aF _ _ e aW H' aj h' cJ bc bw Q ej dY dv cK de bd ts fZ dP IZ f2 (fun l aq=>?_) a6;obtain⟨r,ak⟩:=eR l aq;exact cn.c4.loops l r ak
   .rename_i aE cw H1 eS eg;cases aj;refine ah fr H e cw H1 eg μ ae w a _ ay.ak al eR ?_;rintro bw bc ⟨cH,cJ,cn,f1,m1⟩;have hX:=ay.trans cn;obtain⟨h',dP,f2,s2,_⟩:=P1 hX bd.hz ts (jn hm cn.len) (f1.kill kill);have IZ:=(nt.trans cn ay.c4.size m1).sub s2;have:=a6 bw bc ⟨h',cJ,dP,f2,IZ⟩;cases e with
    |bR=>grind
    |ext id=>exact this
    |ret=>exact this
   .cases aj
end
section
variable {call:c5} {base:Nat} {fr aW:List V} {H H':ad}
def P2{d:Nat}{o:Option b0}(h:∀x∈o.toList,aV fr x=aV aW x):hY fr d o=hY aW d o:=by
 cases o with
 |none=>rfl
 |some x=>simp only[hY,h x (by simp)]
def M8(op:bY)(h:∀x∈op.rF,aV fr x=aV aW x):bf call base fr H op=bf call base aW H op:=by
 cases op
 case ez f a b=>
  have aO:a.map (aV fr)=a.map (aV aW):=zP fun x af=>h x (qQ _ af);have ah:b.map (aV fr)=b.map (aV aW):=zP fun x af=>h x (xa _ af);simp only[bf,aO,ah]
 case build z pl ps=>
  have ay:ps.map (fun p=>(p.1,aV fr p.2))=ps.map (fun p=>(p.1,aV aW p.2)):=zP fun p ay=>by rw[h p.2 (atl ay)]
  simp only[bf,ay]
 case gh a b c ps=>
  have ay:ps.map (fun p=>(p.1,aV fr p.2))=ps.map (fun p=>(p.1,aV aW p.2)):=zP fun p ay=>by rw[h p.2 (atl ay)]
  simp only[bf,ay]
 case call f xs=>
  have af:xs.map (aV fr)=xs.map (aV aW):=zP fun x af=>h x (d9 _ af);simp only[bf,af,h f hJ]
 case mK f xs=>
  have af:xs.map (aV fr)=xs.map (aV aW):=zP fun x af=>h x (d9 _ af);simp only[bf,af,h f hJ]
 case sq f xs=>
  have af:xs.map (aV fr)=xs.map (aV aW):=zP fun x af=>h x af;simp only[bf,af]
 case xI f xs=>
  have af:xs.map (aV fr)=xs.map (aV aW):=zP fun x af=>h x af;simp only[bf,af]
 case sk x cN hi=>
  have J:hY fr 0 cN=hY aW 0 cN:=P2 fun y bC=>h y (d9 _ (qQ _ bC));have aa:∀d,hY fr d hi=hY aW d hi:=fun d=>P2 fun y bC=>h y (d9 _ (xa _ bC));simp only[bf,h x hJ,J,aa]
 case tP sz x cN hi gJ=>
  have bd:∀y∈cN.toList++hi.toList++gJ.toList,aV fr y=aV aW y:=fun y bC=>h y (d9 _ bC);have J:hY fr 0 cN=hY aW 0 cN:=P2 fun y bC=>bd y (qQ _ (qQ _ bC));have aa:∀d,hY fr d hi=hY aW d hi:=fun d=>P2 fun y bC=>bd y (qQ _ (xa _ bC));have af:=h x hJ;cases gJ with
  |none=>simp only[bf,af,J,aa]
  |some m=>
    have hm:=bd m (by simp)
    cases hi with
    |none=>simp only[bf]
    |some y=>
      have bC:=bd y (by simp)
      simp only[bf,af,J,hm]
      grind
 all_goals simp only[bY.rF,nj,xn,xv,forall_eq_or_imp,forall_eq]at h
 all_goals first|(simp only[bf];done)|(simp only[bf,h];done)|(simp only[bf,h.1,h.2];done)|(simp only[bf,h.1,h.2.1,h.2.2];done)
def EO{op:bY}(aY:op.cls=.t){v:V}(h:bf call base fr H op=some (v,H')):H'=H/\∀bH,bf call base fr bH op=some (v,bH):=by
 cases op<;>first|(simp[bY.cls]at aY;done)|skip
 case un op x=>
  simp only[bf]at h |-
  split at h<;>first|(cases h;done)|(cases h;exact⟨rfl,fun _=>rfl⟩)|skip
  rename_i af;simp only[fy]at h;obtain⟨b,ah,e⟩:=h;cases e
  exact⟨rfl,fun bH=>by rw[ah];rfl⟩
 case bin op x y=>
  simp only[bf]at h |-
  split at h<;>first|(cases h;done)|skip
  simp only[fy]at h;obtain⟨b,ah,e⟩:=h;cases e
  exact⟨rfl,fun bH=>by rw[ah];rfl⟩
 case field agg off n x=>
  simp only[bf]at h |-
  split at h<;>first|(cases h;done)|skip
  split at h<;>first|(cases h;done)|skip
  rename_i af aq;simp only[fy]at h;obtain⟨b,ah,e⟩:=h;cases e;refine⟨rfl,fun bH=>?_⟩;rw[bE aq,ah];rfl
 case sW gJ x y=>
  simp only[bf]at h |-
  split at h<;>first|(cases h;done)|skip
  split at h<;>first|(cases h;done)|skip
  rename_i k a ia b J aa aI;cases h;refine⟨rfl,fun bH=>?_⟩;simp only[aI,eW]
 all_goals
  simp only[bf]at h |-
  repeat' (split at h)
  all_goals first|(cases h;done)|(cases h;refine⟨rfl,fun bH=>?_⟩;first|rfl|(simp_all;done))
def BE{op:bY}(aY:op.cls=.r){v:V}(h:bf call base fr H op=some (v,H')):
 H'=H/\∃x,op.place=some x/\(∀id,(aV fr x).lI=some (some id)->id<H.length)/\
  ∀bH,(∀id,(aV fr x).lI=some (some id)->bH[id]?=H[id]?)->bf call base fr bH op=some (v,bH):=by
 cases op<;>first|(simp[bY.cls]at aY;done)|skip
 case load agg n a=>
  simp only[bf,fy]at h;obtain⟨b,ah,e⟩:=h;cases e;refine⟨rfl,a,rfl,fun id hid=>?_,fun bH bm=>?_⟩
  .cases av:aV fr a<;>rw[av]at hid ah<;>simp[V.lI]at hid
   .subst hid;simp only[iu]at ah;split at ah
    .rename_i c ab;unfold au at ab
     grind
    .cases ah
   .simp[iu]at ah
  .have:iu bH agg n (aV fr a)=iu H agg n (aV fr a):=by
    cases av:aV fr a<;>simp only[iu];rename_i id g off
    have:=bm id (by rw[av];rfl)
    simp only[au,this]
   simp only[bf,this,ah];rfl
 case da k x=>
  simp only[bf]at h;refine⟨?_,x,rfl,?_⟩
  .grind
  .cases av:aV fr x
   case mp m=>
    rw[av]at h;refine⟨fun id hid=>?_,fun bH bm=>?_⟩
    .simp[V.lI]at hid
     grind
    .have hm:=bm m rfl;simp only[bf,av]
     grind
   case ref=>
    simp_all
   all_goals
    rw[av]at h
    refine⟨fun id hid=>by simp[V.lI]at hid,fun bH _=>?_⟩
    simp only[bf,av]
    grind
 case ik kind z m k ok=>
  simp only[bf]at h;split at h
  .rename_i key rY;split at h
   .rename_i fU;split at h
    .rename_i hm;cases h
     refine⟨rfl,m,rfl,fun id hid=>by rw[hm]at hid;simp[V.lI]at hid,fun bH _=>?_⟩
     simp only[bf,rY,fU,hm,eW]
    .rename_i id hm;split at h
     .rename_i es wD;have b8:=(dQ.1 wD).1
      have he:H'=H:=by
       repeat' (split at h)
       all_goals first|(cases h;done)|(cases h;rfl)
      subst he
      refine⟨rfl,m,rfl,fun i hid=>by rw[hm]at hid;simp[V.lI]at hid;omega,fun bH bm=>?_⟩
      have:=bm id (by rw[hm];rfl)
      simp only[bf,rY,fU,hm,eW,this,wD]
      grind
     .cases h
    .cases h
   .cases h
  .cases h
def aVM{sz bytes:Nat}{s x v:V}(h:h5 H H.length sz bytes s x=some (v,H')):H.length<=H'.length/\∀id,id<H.length->H'[id]?=H[id]?:=by
 have app:∀(o:aM),H.length<=(H++[o]).length/\∀id,id<H.length->(H++[o])[id]?=H[id]?:=fun o=>⟨by simp,fun id hid=>by grind⟩
 have same:H.length<=H.length/\∀id,id<H.length->H[id]?=H[id]?:=⟨cq _,fun _ _=>rfl⟩
 have mX:∀{id g:Nat} {c:List V},H.length<=id->au H id g=some c->False:=fun nO a8=>by
  unfold au at a8
  simp_all
 unfold h5 at h;split at h
 .unfold BT at h
  grind
 grind
def Tb(e2:∀v args base H r H',call v args base H=some (r,H')->H.length<=H'.length/\∀id,id<base->id<H.length->H'[id]?=H[id]?){op:bY}(aY:op.cls=.a){v:V}(h:bf call base fr H op=some (v,H')):
 H.length<=H'.length/\∀id,id<H.length->H'[id]?=H[id]?:=by
 have app:∀(o:aM),H.length<=(H++[o]).length/\∀id,id<H.length->(H++[o])[id]?=H[id]?:=fun o=>⟨by simp,fun id hid=>by grind⟩
 cases op<;>first|(simp[bY.cls]at aY;done)|skip
 case mK f xs=>
  simp only[bf]at h
  grind
 case y9 sz b s x=>
  simp only[bf]at h;exact aVM h
 all_goals
  simp only[bf]at h
  grind
def Pd{n:Nat}{a x:b0}{v:V}(h:bf call base fr H (.store n a x)=some (v,H')):∃id,(aV fr a).lI=some (some id)/\H'.length=H.length/\∀i,i≠id->H'[i]?=H[i]?:=by
 simp only[bf,fy]at h;obtain⟨H1,J,e⟩:=h;cases e;unfold A2 at J;split at J
 .rename_i id g off av;split at J
  .split at J
   .split at J
    .cases J
     exact⟨id,by rw[av];rfl,by simp,fun i hi=>by grind⟩
    .cases J
   .cases J
  .cases J
 .cases J
def ZK{sz bytes:Nat}{s x v:V}(h:BT H base sz bytes s x=some (v,H')):H'=H\/(∃o,H'=H++[o])\/∃id g len o,s=.aZ id g 0 len 1/\base<=id/\H'=H.set id o:=by
 unfold BT at h
 grind
def aI9{sz bytes:Nat}{s x:b0}{v:V}(h:bf call base fr H (.append sz bytes s x)=some (v,H')):∀i,i<H.length->(aV fr s).aoC≠some (some i)->H'[i]?=H[i]?:=by
 intro i hi eS;simp only[bf,h5]at h;split at h
 .rcases ZK h with rfl|⟨o,rfl⟩|⟨id,g,len,o,av,_,rfl⟩
  .rfl
  .grind
  .refine cG fun e=>eS ?_;rw[av,<- e];rfl
 .split at h
  .split at h
   .grind
   .grind
   .simp_all
   .rename_i id g off len dC av;split at h
    .split at h
     .split at h
      .split at h
       .cases h;rfl
       .split at h
        .cases h;refine cG fun e=>eS ?_;rw[av,<- e];rfl
        .cases h
      .cases h
     .cases h
    .cases h
   .cases h
  .cases h
def aq9(e2:∀v args base H r H',call v args base H=some (r,H')->H.length<=H'.length/\∀id,id<base->id<H.length->H'[id]?=H[id]?){op:bY}{v:V}(h:bf call base fr H op=some (v,H')):
 H.length<=H'.length/\∀id,id<base->id<H.length->H'[id]?=H[id]?:=by
 have stay:H.length<=H.length/\∀id,id<base->id<H.length->H[id]?=H[id]?:=⟨cq _,fun _ _ _=>rfl⟩
 have app:∀(o:aM),H.length<=(H++[o]).length/\∀id,id<base->id<H.length->(H++[o])[id]?=H[id]?:=fun o=>⟨by simp,fun id _ hid=>by grind⟩
 have set:∀(i:Nat) (o:aM),base<=i->H.length<=(H.set i o).length/\∀id,id<base->id<H.length->(H.set i o)[id]?=H[id]?:=fun i o hi=>⟨by simp,fun id hid _=>by grind⟩
 cases ab:op.cls with
 |t=>obtain⟨rfl,_⟩:=EO ab h;exact stay
 |r=>obtain⟨rfl,_⟩:=BE ab h;exact stay
 |a=>obtain⟨J,aa⟩:=Tb e2 ab h;simp_all
 |w=>
   cases op<;>first|(simp[bY.cls]at ab;done)|skip
   case call f xs=>exact e2 _ _ _ _ _ _ (by simpa only[bf]using h)
   case sq f xs=>
    simp only[bf]at h
    grind
   case store n a x=>
    simp only[bf,fy]at h;obtain⟨H1,J,e⟩:=h;cases e;unfold A2 at J
    grind
   case Jg x=>
    simp only[bf,fy]at h
    grind
   case copy sz d s=>
    simp only[bf,copyV]at h
    grind
   case append sz bytes s x=>
    simp only[bf,h5]at h;split at h
    .rcases ZK h with rfl|⟨o,rfl⟩|⟨id,g,len,o,_,ah,rfl⟩
     .exact stay
     .exact app _
     grind
    grind
   all_goals
    simp only[bf]at h
    grind
def DM{op:bY}(aY:op.hn=false){v:V}(h:bf call base fr H op=some (v,H')):H'=H:=by
 cases ab:op.cls with
 |t=>exact(EO ab h).1
 |r=>exact(BE ab h).1
 |a=>simp[bY.hn,ab]at aY
 |w=>simp[bY.hn,ab]at aY
end
section
variable {ops:Array Oper}
def bitsOf(acc:Array Nat)(o:Oper):Nat:=o.after.foldl (fun s e=>if Region.binds .any e then s ||| 2^e.on ||| acc.getD e.on 0 else s) 0
theorem aob:Region.before ops=ops.toList.foldl (fun acc o=>acc.push (bitsOf acc o)) #[]:=by
 unfold Region.before;rw[<- PB];rfl
def aUy(acc:Array Nat)(o:Oper){i:Nat}(h:(bitsOf acc o).testBit i=true):∃e∈o.after,Region.binds .any e=true/\(i=e.on\/(acc.getD e.on 0).testBit i=true):=by
 unfold bitsOf at h;rw[<- PB]at h
 have key:∀(l:List Edge) (s:Nat),(l.foldl (fun s e=>if Region.binds .any e then s ||| 2^e.on ||| acc.getD e.on 0 else s) s).testBit i=true->s.testBit i=true\/∃e∈l,Region.binds .any e=true/\(i=e.on\/(acc.getD e.on 0).testBit i=true):=by
  intro l
  induction l with
  |nil=>simp_all
  |cons e l aF=>
    intro s h;rw[Mc]at h
    rcases aF _ h with h|⟨bN,UE,h⟩
    .grind
    grind
 grind
def aCq:∀(l:List Oper) (acc:Array Nat),
 (∀(j v:Nat),acc[j]?=some v->(l.foldl (fun acc o=>acc.push (bitsOf acc o)) acc)[j]?=some v)/\
 ∀(j v:Nat),(l.foldl (fun acc o=>acc.push (bitsOf acc o)) acc)[j]?=some v->acc[j]?=some v\/(acc.size<=j/\∃(o:Oper) (pre:Array Nat),l[j-acc.size]?=some o/\v=bitsOf pre o/\
   ∀(m x:Nat),pre[m]?=some x->(l.foldl (fun acc o=>acc.push (bitsOf acc o)) acc)[m]?=some x):=by
 intro l
 induction l with
 |nil=>simp_all
 |cons o l aF=>
   intro acc;rw[Mc];obtain⟨J,aa⟩:=aF (acc.push (bitsOf acc o))
   have ay:∀(j v:Nat),acc[j]?=some v->(acc.push (bitsOf acc o))[j]?=some v:=by
    intro j v h;have:=(tA.1 h).1
    rw[ND,bV (by omega)];exact h
   refine⟨fun j v h=>J j v (ay j v h),fun j v h=>?_⟩
   rcases aa j v h with h|⟨bz,o',pre,aE,aU,cd⟩
   .rw[ND]at h
    grind
   .simp only[Ke]at bz aE
    refine .inr ⟨by omega,o',pre,?_,aU,cd⟩
    grind
def aOp{i j:Nat}(h:jm (Region.before ops).toList i j=true):∃o,ops[j]?=some o/\∃e∈o.after,Region.binds .any e=true/\(i=e.on\/jm (Region.before ops).toList i e.on=true):=by
 unfold jm at h
 have uZ:∃v,(Region.before ops)[j]?=some v/\v.testBit i=true:=by
  cases e:(Region.before ops)[j]? with
  |none=>
    have:(Region.before ops).toList.getD j 0=0:=by simp[List.getD,e]
    rw[this]at h;simp at h
  |some v=>
    have:(Region.before ops).toList.getD j 0=v:=by simp[List.getD,e]
    rw[this]at h;exact⟨v,rfl,h⟩
 obtain⟨v,av,ah⟩:=uZ;rw[aob]at av
 rcases(aCq ops.toList #[]).2 j v av with bd|⟨_,o,pre,aE,aU,cd⟩
 .simp at bd
 .subst aU;obtain⟨e,he,aOg,hi⟩:=aUy pre o ah
  refine⟨o,by simpa using aE,e,he,aOg,hi.imp id fun hi=>?_⟩
  unfold jm;cases ac6:pre[e.on]? with
  |none=>
    simp_all
  |some x=>
    have:pre.getD e.on 0=x:=by simp[ac6]
    rw[this]at hi;have af:=cd _ _ ac6;rw[<- aob]at af
    simp_all
def nQ(ops:Array Oper)(S:Nat->Bool):Prop:=∀j,S j=true->∀i,jm (Region.before ops).toList i j=true->S i=true
def ins(S:Nat->Bool)(i:Nat):Nat->Bool:=fun k=>S k||k==i
def S9{S:Nat->Bool}(aQ:nQ ops S){j:Nat}{o:Oper}(aX:ops[j]?=some o)(hM:∀e∈o.after,Region.binds .any e=true->S e.on=true){i:Nat}(h:jm (Region.before ops).toList i j=true):S i=true:=by
 obtain⟨o',py,e,he,ah,hi⟩:=aOp h;rw[aX]at py;cases py;have:=hM e he ah
 rcases hi with rfl|hi
 .exact this
 .exact aQ _ this _ hi
def alB{S:Nat->Bool}(aQ:nQ ops S){j:Nat}{o:Oper}(aX:ops[j]?=some o)(hM:∀e∈o.after,Region.binds .any e=true->S e.on=true):nQ ops (ins S j):=by
 intro k an i hi;unfold ins at an |-;simp only[oi,lc]at an |-
 rcases an with an|rfl
 .exact .inl (aQ k an i hi)
 .exact .inl (S9 aQ aX hM hi)
end
section
variable {call:c5} {base:Nat}
def tx(call:c5)(base:Nat)(o:bx)(F:List V)(G:ad)(v:V)(aBY:List V)(eH:ad):Prop:=
 aBY=put o.dst v F/\((want o F=some false/\v=bF/\eH=G)\/(want o F=some true/\bf call base F G o.op=some (v,eH)))
def aoq:∀(l:List bx) (fr:List V) (H:ad) (aW:List V) (H':ad),cI call base l fr H=some (aW,H')->
 ∃(F:Nat->List V) (G:Nat->ad) (val:Nat->V),F 0=fr/\G 0=H/\F l.length=aW/\G l.length=H'/\
   ∀k o,l[k]?=some o->tx call base o (F k) (G k) (val k) (F (k+1)) (G (k+1)):=by
 intro l
 induction l with
 |nil=>intro fr H aW H' h;cases h;exact⟨fun _=>fr,fun _=>H,fun _=>bF,rfl,rfl,rfl,rfl,fun k o h=>by simp at h⟩
 |cons o l aF=>
   intro fr H aW H' h;have build:∀(v:V) (H1:ad),cI call base l (put o.dst v fr) H1=some (aW,H')->tx call base o fr H v (put o.dst v fr) H1->
    ∃(F:Nat->List V) (G:Nat->ad) (val:Nat->V),F 0=fr/\G 0=H/\F (o::l).length=aW/\G (o::l).length=H'/\
      ∀k o',(o::l)[k]?=some o'->tx call base o' (F k) (G k) (val k) (F (k+1)) (G (k+1)):=by
    intro v H1 J ai;obtain⟨F,G,val,bw,a2,a3,a4,a5⟩:=aF _ _ _ _ J
    refine⟨fun k=>match k with|0=>fr|k+1=>F k,fun k=>match k with|0=>H|k+1=>G k,fun k=>match k with|0=>v|k+1=>val k,rfl,rfl,a3,a4,?_⟩
    intro k o' an;cases k with
    |zero=>simp_all
    |succ k=>simp_all
   simp only[cI]at h;split at h
   .cases h
   .rename_i hw;exact build bF H h ⟨rfl,.inl ⟨hw,rfl,rfl⟩⟩
   .rename_i hw;split at h
    .rename_i v H1 dz;exact build v H1 h ⟨rfl,.inr ⟨hw,dz⟩⟩
    .cases h
def lw(dst:Nat->Option Nat)(val:Nat->V)(f0:V)(S:Nat->Bool)(s:Nat):Nat->V
 |0=>f0
 |k+1=>if S k=true/\dst k=some s then val k else lw dst val f0 S s k
variable {dst:Nat->Option Nat} {val:Nat->V} {f0:V} {S:Nat->Bool} {s i:Nat}
def B4:∀m,(∀k,k<m->dst k=some s->(S k=true↔k<i))->lw dst val f0 S s m=lw dst val f0 (fun _=>true) s (min m i):=by
 intro m
 induction m with
 |zero=>intro _;simp[lw]
 |succ m aF=>
   intro h
   have lz:=aF fun k an=>h k (by omega)
   by_cases aQ:dst m=some s
   .have hm:=h m (by omega) aQ
    by_cases ai:S m=true
    .have hi:=hm.1 ai
     have e:min (m+1) i=m+1:=by omega
     rw[e];simp[lw,ai,aQ]
    .have hi:¬m<i:=fun hi=>ai (hm.2 hi)
     have e:min (m+1) i=min m i:=by omega
     rw[e,<- lz];simp[lw,ai]
   .have aE:lw dst val f0 S s (m+1)=lw dst val f0 S s m:=by simp[lw,aQ]
    rw[aE,lz];by_cases hi:m<i
    .have aU:min (m+1) i=m+1:=by omega
     have cd:min m i=m:=by omega
     rw[aU,cd];simp[lw,aQ]
    grind
def Z4(h:dst i≠some s):∀m,lw dst val f0 (ins S i) s m=lw dst val f0 S s m:=by
 intro m
 induction m with
 |zero=>rfl
 |succ m aF=>
   simp only[lw,aF];by_cases hm:m=i
   .subst hm;simp[h]
   .simp[ins,hm]
def adf(h:dst i=some s):∀m,i<m->(∀k,i<k->k<m->dst k=some s->S k=false)->lw dst val f0 (ins S i) s m=val i:=by
 intro m
 induction m with
 |zero=>omega
 |succ m aF=>
   intro hi an;by_cases hm:m=i
   .subst hm;simp[lw,ins,h]
   .have e:lw dst val f0 (ins S i) s (m+1)=lw dst val f0 (ins S i) s m:=by
     have:¬(ins S i m=true/\dst m=some s):=by
      rintro⟨J,aa⟩
      have:=an m (by omega) (by omega) aa
      simp[ins,this,hm]at J
     simp only[lw,bV this]
    grind
def h4(dst:Nat->Option Nat)(val:Nat->V)(fr:List V)(N:Nat)(S:Nat->Bool):List V:=(List.range fr.length).map fun s=>lw dst val (fr.getD s .bu) S s N
def uP{fr:List V}{N:Nat}(s:Nat):(h4 dst val fr N S).getD s .bu=if s<fr.length then lw dst val (fr.getD s .bu) S s N else .bu:=by
 unfold h4
 grind
def pd{fr:List V}{N:Nat}:(h4 dst val fr N S).length=fr.length:=by simp[h4]
def BK{x y:List V}(aq:x.length=y.length)(h:∀s,s<x.length->x.getD s .bu=y.getD s .bu):x=y:=by
 apply Nt aq
 simp_all
def CR(d:Option Nat)(v:V)(fr:List V):(put d v fr).length=fr.length:=by cases d<;>simp[put]
def Hu(d:Option Nat)(v:V)(fr:List V)(s:Nat)(ai:s<fr.length):(put d v fr).getD s .bu=if d=some s then v else fr.getD s .bu:=by
 cases d with
 |none=>simp[put]
 |some d=>
   by_cases h:d=s
   .subst h;simp[put,ai]
   .simp[put,h]
end
section
variable {aK:eX} {μ:cp} {ae:Nat->Prop} {w:World} {H:ad} {P:Program} [oS aK P] {pure':fA} {call:c5} {base:Nat}
def fi.obj{m:Nat}{v:V}(h:fi m v){id:Nat}(aX:v.lI=some (some id)):id<m:=by
 cases h<;>simp[V.lI]at aX<;>omega
def aa2{p q:Nat->Bool}:∀{l:List Nat},(∀k∈l,q k=true->p k=true)->(∃k∈l,p k=true/\q k=false)->l.countP q<l.countP p:=by
 intro l
 induction l with
 |nil=>simp_all
 |cons x l aF=>
   intro h af;have nO:∀(l:List Nat),(∀k∈l,q k=true->p k=true)->l.countP q<=l.countP p:=fun l h=>List.countP_mono_left h;rw[List.countP_cons,List.countP_cons];obtain⟨k,an,J,aa⟩:=af
   rcases nj.1 an with rfl|an
   .grind
   .have:=aF (fun k an=>h k (d9 _ an)) ⟨k,an,J,aa⟩
    grind
structure Row (P:Program) (pure':fA) (call:c5) (base:Nat) (ops:Array Oper) (l:List bx) (ct:List (Nat × Nat)) (fr aW:List V) (H H':ad) (F:Nat->List V) (G:Nat->ad) (val:Nat->V):Prop where
 Lf:pP P pure' ops l
 ord:wy (Region.before ops).toList ct l=true
 back:pr ops=true
 f0:F 0=fr
 g0:G 0=H
 ON:F l.length=aW
 Q2:G l.length=H'
 steps:∀k o,l[k]?=some o->tx call base o (F k) (G k) (val k) (F (k+1)) (G (k+1))
 apart:ct.all (tD call base l fr H aW)=true
 floor:∀v args base H r H',call v args base H=some (r,H')->H.length<=H'.length/\∀id,id<base->id<H.length->H'[id]?=H[id]?
variable {ops:Array Oper} {l:List bx} {ct:List (Nat × Nat)} {fr aW:List V} {H H':ad} {F:Nat->List V} {G:Nat->ad} {val:Nat->V}
abbrev f'(l:List bx)(k:Nat):Option Nat:=(l.getD k default).dst
def vv{k:Nat}{o:bx}(h:l[k]?=some o):l.getD k default=o:=by grind
def Row.ya(R:Row P pure' call base ops l ct fr aW H H' F G val):∀k,k<=l.length->(F k).length=fr.length/\∀s,s<fr.length->(F k).getD s .bu=lw (f' l) val (fr.getD s .bu) (fun _=>true) s k:=by
 intro k
 induction k with
 |zero=>intro _;rw[R.f0];exact⟨rfl,fun s _=>rfl⟩
 |succ k aF=>
   intro an
   obtain⟨J,aa⟩:=aF (by omega)
   have aq:l[k]?=some l[k]:=eP (by omega)
   have ai:=(R.steps k _ aq).1;rw[ai]
   refine⟨by rw[CR,J],fun s hV=>?_⟩
   rw[Hu _ _ _ _ (by omega),aa s hV]
   have aQ:f' l k=l[k].dst:=by rw[f',vv aq]
   simp only[lw,aQ,wG]
def Row.ordered(R:Row P pure' call base ops l ct fr aW H H' F G val){i j:Nat}(Iz:i<j)(bz:j<l.length):
 tZ (l.getD i default) (l.getD j default)=false\/jm (Region.before ops).toList i j=true\/(sj (l.getD i default) (l.getD j default)=true/\(i,j)∈ct):=by
 have h:=R.ord;unfold wy at h
 grind
def Ll:∀(a b:List bx) (fr:List V) (H:ad),cI call base (a++b) fr H=match cI call base a fr H with|some (aW,H')=>cI call base b aW H' | none=>none:=by
 intro a
 induction a with
 |nil=>intro b fr H;rfl
 |cons o a aF=>
   intro b fr H;simp only[du,cI];cases want o fr with
   |none=>rfl
   |some q=>cases q with
     |false=>exact aF _ _ _
     |true=>
       cases bf call base fr H o.op with
       |none=>rfl
       |some r=>exact aF _ _ _
def Row.upto(R:Row P pure' call base ops l ct fr aW H H' F G val):∀k,k<=l.length->cI call base (l.take k) fr H=some (F k,G k):=by
 intro k
 induction k with
 |zero=>intro _;rw[dj,R.f0,R.g0];rfl
 |succ k aF=>
   intro an
   have aq:l[k]?=some l[k]:=eP (by omega)
   rw[List.take_succ,aq,Option.toList_some,Ll,aF (by omega)]
   obtain⟨J,aa⟩:=R.steps k _ aq;rw[J]
   rcases aa with⟨w,v,g⟩|⟨w,e⟩
   .simp only[cI,w,v,g]
   .simp only[cI,w,e]
def Row.pair(R:Row P pure' call base ops l ct fr aW H H' F G val){S:Nat->Bool}(aQ:nQ ops S){i k:Nat}(Yp:k≠i)(hi:i<l.length)(an:k<l.length)(fD:S i=false)(hj:∀j,jm (Region.before ops).toList j i=true->S j=true)(Fv:tZ (l.getD i default) (l.getD k default)=true)(pQ:tZ (l.getD k default) (l.getD i default)=true):
 (S k=true↔k<i)\/(k<i/\sj (l.getD k default) (l.getD i default)=true/\(k,i)∈ct)\/(i<k/\sj (l.getD i default) (l.getD k default)=true/\(i,k)∈ct):=by
 by_cases h:k<i
 .rcases R.ordered h hi with J|J|J
  .simp_all
  .simp_all
  simp_all
 .have lz:i<k:=by omega
  rcases R.ordered lz an with J|J|J
  .simp_all
  .exact .inl ⟨fun ai=>(by have:=aQ k ai i J;simp_all),fun b8=>absurd b8 h⟩
  simp_all
def ag6{a b:bx}(h:sA a b=true):tZ a b=true:=by simp[tZ,h]
def afy{a b:bx}(h:sA a b=true):sj a b=false:=by simp[sj,h]
def ajq{a b:bx}(h:a.op.cls=.w)(k:b.op.cls=.r):tZ a b=true/\tZ b a=true:=by simp[tZ,h,k]
def Sy{o:bY}(h:o.cls=.t):o.hn=false:=by simp[bY.hn,h]
def WH{o:bY}(h:o.cls=.r):o.hn=false:=by simp[bY.hn,h]
def aF2{o:bY}(h:o.cls=.a):o.hn=true:=by simp[bY.hn,h]
def am3{o:bY}(h:o.cls=.w):o.hn=true:=by simp[bY.hn,h]
def Ol{a b:bx}(h:a.op.hn=true)(k:b.op.hn=true):tZ a b=true:=by simp[tZ,h,k]
def Pf{a b:bx}(h:a.op.hn=true)(k:b.op.hn=true):sj a b=false:=by
 obtain⟨_,pA,_⟩:=a;obtain⟨_,br,_⟩:=b
 cases pA<;>first|(simp[bY.hn,bY.cls]at h;done)|(cases br<;>first|(simp[bY.hn,bY.cls]at k;done)|(simp[sj];done))
def aH8{a b:bx}(h:a.op.cls=.w)(k:b.op.cls=.r)(aq:sj a b=true\/sj b a=true):(∃n x v,a.op=.store n x v)\/(∃sz bytes s x,a.op=.append sz bytes s x)\/∃f xs,a.op=.call f xs:=by
 obtain⟨_,pA,_⟩:=a;obtain⟨_,br,_⟩:=b
 cases pA<;>first|(simp[bY.cls]at h;done)|exact .inl ⟨_,_,_,rfl⟩|exact .inr (.inl ⟨_,_,_,_,rfl⟩)|exact .inr (.inr ⟨_,_,rfl⟩)|(cases br<;>first|(simp[bY.cls]at k;done)|(simp[sj]at aq;done))
def ajV{o:bx}{s:Nat}(h:o.dst=some s):s∈o.names:=by simp[bx.names,h]
def aqI(a b:bx):sA a b=sA b a:=by unfold sA;rw[Bool.or_comm]
def Row.DT(R:Row P pure' call base ops l ct fr aW H H' F G val){S:Nat->Bool}(aQ:nQ ops S){i k:Nat}(Yp:k≠i)(hi:i<l.length)(an:k<l.length)(fD:S i=false)(hj:∀j,jm (Region.before ops).toList j i=true->S j=true)(ab:sA (l.getD k default) (l.getD i default)=true):S k=true↔k<i:=by
 have kN:sA (l.getD i default) (l.getD k default)=true:=by rw[aqI];exact ab
 rcases R.pair aQ Yp hi an fD hj (ag6 kN) (ag6 ab)with h|⟨_,h,_⟩|⟨_,h,_⟩
 .exact h
 .rw[afy ab]at h;cases h
 .rw[afy kN]at h;cases h
def Q5{o:bx}{s:Nat}(h:s∈o.names){a:bx}(aO:a.dst=some s):sA a o=true:=by
 simp[sA,aO,h]
def Row.slot(R:Row P pure' call base ops l ct fr aW H H' F G val){S:Nat->Bool}(aQ:nQ ops S){i:Nat}(hi:i<l.length)(fD:S i=false)(hj:∀j,jm (Region.before ops).toList j i=true->S j=true){s:Nat}(ai:s∈(l.getD i default).reads):(h4 (f' l) val fr l.length S).getD s .bu=(F i).getD s .bu:=by
 obtain⟨dn,iR⟩:=R.ya i (by omega)
 rw[uP];split
 .rename_i b8;rw[iR s b8,B4 (i:=i) l.length fun k an JE=>?_]
  .grind
  .by_cases sN:k=i
   .simp_all
   .exact R.DT aQ sN hi an fD hj (Q5 (xa _ ai) JE)
 simp_all
def Row.after(R:Row P pure' call base ops l ct fr aW H H' F G val){S:Nat->Bool}(aQ:nQ ops S){i:Nat}(hi:i<l.length)(fD:S i=false)(hj:∀j,jm (Region.before ops).toList j i=true->S j=true):h4 (f' l) val fr l.length (ins S i)=put (f' l i) (val i) (h4 (f' l) val fr l.length S):=by
 refine BK (by rw[CR,pd,pd]) fun s ai=>?_
 rw[pd]at ai
 rw[Hu _ _ _ _ (by rw[pd];exact ai),uP,uP,bE ai,bE ai]
 split
 .rename_i k5;refine adf k5 _ hi fun k J aa aI=>?_;cases Xr:S k with
  |false=>rfl
  |true=>
    have aJ:s∈(l.getD i default).names:=by
     exact ajV k5
    have:=(R.DT aQ (by omega) hi aa fD hj (Q5 aJ aI)).1 Xr
    omega
 .rename_i k5;exact Z4 k5 _
def JO{o:bx}{x:b0}(af:x∈o.op.rF){f1 f2:List V}(h:∀s∈o.reads,f1.getD s .bu=f2.getD s .bu):aV f1 x=aV f2 x:=by
 cases x with
 |c v=>rfl
 |t s=>exact h s (qQ _ (PN.2 ⟨_,af,by simp[b0.wL]⟩))
def KS{o:bx}{f1 f2:List V}(h:∀s∈o.reads,f1.getD s .bu=f2.getD s .bu):want o f1=want o f2:=by
 unfold want;cases a8:o.guard with
 |none=>rfl
 |some p=>
   obtain⟨t,b⟩:=p
   have:=h t (by simp[bx.reads,a8])
   simp only[this]
def tx.same{o:bx}{A UG:List V}{B zs:ad}{v:V}(h:tx call base o A B v UG zs)(hm:o.op.hn=false):zs=B:=by
 rcases h.2 with⟨_,_,e⟩|⟨_,e⟩
 .exact e
 .exact DM hm e
def tx.len(e2:∀v args base H r H',call v args base H=some (r,H')->H.length<=H'.length/\∀id,id<base->id<H.length->H'[id]?=H[id]?){o:bx}{A UG:List V}{B zs:ad}{v:V}(h:tx call base o A B v UG zs):B.length<=zs.length:=by
 rcases h.2 with⟨_,_,e⟩|⟨_,e⟩
 .simp_all
 .exact(aq9 e2 e).1
def Row.step(R:Row P pure' call base ops l ct fr aW H H' F G val){k:Nat}(an:k<l.length):tx call base (l.getD k default) (F k) (G k) (val k) (F (k+1)) (G (k+1)):=by
 have aq:l[k]?=some l[k]:=eP an;rw[vv aq];exact R.steps k _ aq
theorem Row.lens (R:Row P pure' call base ops l ct fr aW H H' F G val) {a b:Nat} (yF:a≤b) (ah:b≤l.length):(G a).length≤(G b).length:=by
 induction b with
 | zero=>simp_all
 | succ b aF=>
   by_cases h:a=b+1
   ·simp_all
   ·exact jn (aF (by omega) (by omega)) ((R.step (by omega)).len R.floor)
theorem Row.Zx (R:Row P pure' call base ops l ct fr aW H H' F G val) {a b:Nat} (yF:a≤b) (ah:b≤l.length) (h:∀ k,a≤k→k < b→(l.getD k default).op.hn=false):G b=G a:=by
 induction b with
 | zero=>simp_all
 | succ b aF=>
   by_cases ab:a=b+1
   ·subst ab;rfl
   ·rw [(R.step (by omega)).same (h b (by omega) (by omega))]
    grind
def Row.stay(R:Row P pure' call base ops l ct fr aW H H' F G val){i:Nat}(hi:i<l.length)(ai:JI l i=true){x:b0}(af:(l.getD i default).op.place=some x):aV aW x=aV (F i) x:=by
 unfold JI at ai;rw[af]at ai;cases x with
 |c v=>rfl
 |t s=>
   simp only[b0.wL,pq,qo,kw,fp,OO,oi,l8,mw,ne_eq]at ai
   obtain⟨J,aa⟩:=R.ya i (by omega)
   obtain⟨aI,bl⟩:=R.ya l.length (cq _);rw[<- R.ON];show(F l.length).getD s .bu=(F i).getD s .bu;by_cases b8:s<fr.length
   .rw[aa s b8,bl s b8,B4 (S:=fun _=>true) (i:=i) l.length fun k an aQ=>?_,Nat.min_eq_right (by omega)]
    grind
   simp_all
def Row.late(R:Row P pure' call base ops l ct fr aW H H' F G val){i j:Nat}(hm:(i,j)∈ct)(hi:i<l.length)(bz:j<l.length){x y:b0}(af:(l.getD i default).op.place=some x)(bC:(l.getD j default).op.place=some y){a b:Nat}(aO:(l.getD i default).op.obj (aV (F i) x)=some (some a))(ah:(l.getD j default).op.obj (aV (F j) y)=some (some b)):a≠b:=by
 have J:=R.apart;rw[fp]at J;have J:=J _ hm;have aa:=R.ord;unfold wy at aa;simp only[dR,fp]at aa;have aa:=aa.1.1 _ hm
 have cC:(l.getD i default).op.AH=false:=by cases dz:(l.getD i default).op<;>first|rfl|(rw[dz]at af;cases af)
 have b5:(l.getD j default).op.AH=false:=by cases dz:(l.getD j default).op<;>first|rfl|(rw[dz]at bC;cases bC)
 simp only[tD,cC,b5,sK,AN]at J;simp only[FO,af,bC,R.stay hi aa.1 af,R.stay bz aa.2 bC,aO,ah]at J
 simpa using J
def Row.keeps(R:Row P pure' call base ops l ct fr aW H H' F G val){c i:Nat}(hm:(c,i)∈ct\/(i,c)∈ct)(ab:c<l.length)(hi:i<l.length){f:b0}{xs:List b0}(dz:(l.getD c default).op=.call f xs){x:b0}(af:(l.getD i default).op.place=some x){id:Nat}(hid:(l.getD i default).op.obj (aV (F i) x)=some (some id)):(G (c+1))[id]?=(G c)[id]?:=by
 have J:=R.apart;rw[fp]at J;have aa:=R.ord;unfold wy at aa;simp only[dR,fp]at aa
 have cC:(l.getD c default).op.AH=true:=by rw[dz];rfl
 have b5:(l.getD i default).op.AH=false:=by cases dz:(l.getD i default).op<;>first|rfl|(rw[dz]at af;cases af)
 have Jm:(l.getD c default).op.place=none:=by rw[dz];rfl
 have ai:JI l i=true:=by
  rcases hm with hm|hm
  .exact(aa.1.1 _ hm).2
  .exact(aa.1.1 _ hm).1
 have key:Da call base l fr H aW c i=true:=by
  rcases hm with hm|hm
  .have:=J _ hm;simp only[tD,FO,Jm,cC,b5,sK,ol,AN,wS]at this;exact this
  .have:=J _ hm;simp only[tD,FO,Jm,cC,b5,sK,ol,AN]at this
   simp_all
 unfold Da at key
 rw[R.upto c (by omega),R.upto (c+1) (by omega)]at key
 simp only[TU,af,R.stay hi ai af,hid]at key
 simp_all
theorem Row.look (R:Row P pure' call base ops l ct fr aW H H' F G val) {S:Nat→Bool} (aQ:nQ ops S) {i p:Nat} (hi:i < l.length) (ay:p≤l.length) (fD:S i=false)
 (hj:∀ j,jm (Region.before ops).toList j i=true→S j=true) (ye:∀ k,k < p→(l.getD k default).op.hn=true→S k=true) (ou:∀ k,p≤k→k < l.length→(l.getD k default).op.hn=true→S k=false)
 (ak:(l.getD i default).op.cls=.r) {x:b0} (af:(l.getD i default).op.place=some x) {id:Nat} (hid:(aV (F i) x).lI=some (some id)) (b8:i≤p→id < (G i).length) (zE:p≤i→id < (G p).length):(G p)[id]?=(G i)[id]?:=by
 have one:∀ k,k < l.length→(i≤k∧k < p∨p≤k∧k < i)→id < (G k).length→(G (k+1))[id]?=(G k)[id]?:=by
  intro k an ah tK;have ai:=R.step an
  rcases ai.2 with ⟨_,_,e⟩ | ⟨_,e⟩
  ·rw [e]
  ·cases ab:(l.getD k default).op.cls with
   | t=>rw [DM (Sy ab) e]
   | r=>rw [DM (WH ab) e]
   | a=>exact (Tb R.floor ab e).2 id tK
   | w=>
     have sN:k≠i:=fun h=>by simp_all
     have cS:(l.getD k default).op.hn=true:=am3 ab
     have fin:(sj (l.getD k default) (l.getD i default)=true∨sj (l.getD i default) (l.getD k default)=true)→((k,i)∈ct∨(i,k)∈ct)→(G (k+1))[id]?=(G k)[id]?:=by
      intro LH vp
      have fg:(l.getD i default).op.obj (aV (F i) x)=some (some id):=by
       rw [← hid]
       cases dz:(l.getD i default).op <;> first | rfl | (rw [dz] at ak;simp [bY.cls] at ak;done)
      rcases aH8 ab ak LH with ⟨n,a,v,dz⟩ | ⟨sz,bytes,s,y,dz⟩ | ⟨f,xs,dz⟩
      ·rw [dz] at e;obtain ⟨gw,J,_,aI⟩:=Pd e;refine aI id ?_
       have qn:(l.getD k default).op.obj (aV (F k) a)=some (some gw):=by rw [dz];exact J
       rcases vp with vp | vp
       ·exact (R.late vp an hi (by rw [dz];rfl) af qn fg).symm
       ·exact R.late vp hi an af (by rw [dz];rfl) fg qn
      ·rw [dz] at e;refine aI9 e id tK fun J=>?_
       have qn:(l.getD k default).op.obj (aV (F k) s)=some (some id):=by rw [dz];exact J
       rcases vp with vp | vp
       ·exact R.late vp an hi (by rw [dz];rfl) af qn fg rfl
       ·exact R.late vp hi an af (by rw [dz];rfl) fg qn rfl
      ·exact R.keeps vp an hi dz af fg
     rcases R.pair aQ sN hi an fD hj (ajq ab ak).2 (ajq ab ak).1 with h | ⟨_,h,hm⟩ | ⟨_,h,hm⟩
     ·grind
     ·simp_all
     simp_all
 have run:∀ n a b,b=a+n→b≤l.length→id < (G a).length→(∀ k,a≤k→k < b→(i≤k∧k < p∨p≤k∧k < i))→(G b)[id]?=(G a)[id]?:=by
  intro n
  induction n with
  | zero=>simp_all
  | succ n aF=>
    intro a b ah eZ aq an
    have J:=aF (a+1) b (by omega) eZ (mm aq (R.lens (by omega) (by omega))) fun k J aa=>an k (by omega) aa
    rw [J]
    exact one a (by omega) (an a (cq _) (by omega)) aq
 by_cases h:i≤p
 ·exact run (p - i) i p (by omega) ay (b8 h) fun k J aa=>.inl ⟨J,aa⟩
 ·exact (run (i - p) p i (by omega) (by omega) (zE (by omega)) fun k J aa=>.inr ⟨J,aa⟩).symm
end
section
variable {aK:eX} {μ:cp} {ae:Nat→Prop} {w:World} {H:ad} {P:Program} [oS aK P] {pure':fA} {call:c5} {base:Nat}
variable {ops:Array Oper} {l:List bx} {ct:List (Nat × Nat)} {fr aW:List V} {H H':ad} {F:Nat→List V} {G:Nat→ad} {val:Nat→V}
def qK(cY:Array Bool)(N:Nat):Nat:=(List.range N).countP fun k=>!(cY.getD k false)
def Row.QK(R:Row P pure' call base ops l ct fr aW H H' F G val){S:Nat->Bool}(aQ:nQ ops S){i p:Nat}(hi:i<l.length)(ay:p<=l.length)(fD:S i=false)(hj:∀j,jm (Region.before ops).toList j i=true->S j=true)(ye:∀k,k<p->(l.getD k default).op.hn=true->S k=true)(ou:∀k,p<=k->k<l.length->(l.getD k default).op.hn=true->S k=false)(hh:cE aK μ ae w (G p)){t:Array Value}(al:c7 μ ae w (h4 (f' l) val fr l.length S) t):
 ∃hG,hG<=l.length/\(∀k,k<hG->(l.getD k default).op.hn=true->ins S i k=true)/\(∀k,hG<=k->k<l.length->(l.getD k default).op.hn=true->ins S i k=false)/\
   tx call base (l.getD i default) (h4 (f' l) val fr l.length S) (G p) (val i) (h4 (f' l) val fr l.length (ins S i)) (G hG)/\
   (∀s∈(l.getD i default).reads,(h4 (f' l) val fr l.length S).getD s .bu=(F i).getD s .bu)/\((l.getD i default).op.hn=true->G p=G i):=by
 have ai:=R.step hi;have fz:∀s∈(l.getD i default).reads,(h4 (f' l) val fr l.length S).getD s .bu=(F i).getD s .bu:=fun s ai=>R.slot aQ hi fD hj ai;have hw:=KS fz;have DI:=R.after aQ hi fD hj;have Ii:∀B,bf call base (h4 (f' l) val fr l.length S) B (l.getD i default).op=bf call base (F i) B (l.getD i default).op:=fun B=>M8 _ fun x af=>JO af fz;by_cases cS:(l.getD i default).op.hn=true
 .have EF:p<=i:=by
   apply Nat.le_of_not_lt;intro h;have:=ye i h cS;rw[fD]at this;cases this
  have yl:G i=G p:=by
   refine R.Zx EF (by omega) fun k J aa=>?_
   cases an:(l.getD k default).op.hn with
   |false=>rfl
   |true=>
     exfalso
     have aI:=ou k J (by omega) an
     rcases R.pair aQ (by omega:k≠i) hi (by omega) fD hj (Ol cS an) (Ol an cS)with h|⟨_,h,_⟩|⟨_,h,_⟩
     .have:=h.2 aa;rw[aI]at this;cases this
     .rw[Pf an cS]at h;cases h
     .rw[Pf cS an]at h;cases h
  refine⟨i+1,by omega,fun k J aa=>?_,fun k J aa aI=>?_,⟨DI,?_⟩,fz,fun _=>yl.symm⟩
  .by_cases an:k=i
   .subst an;simp[ins]
   .by_cases SM:k<p
    .simp[ins,ye k SM aa]
    .exfalso
     have aI:=ou k (by omega) (by omega) aa
     rcases R.pair aQ an hi (by omega) fD hj (Ol cS aa) (Ol aa cS)with h|⟨_,h,_⟩|⟨_,h,_⟩
     .have:=h.2 (by omega);rw[aI]at this;cases this
     .rw[Pf aa cS]at h;cases h
     .rw[Pf cS aa]at h;cases h
  .have:k≠i:=by omega
   simp[ins,ou k (by omega) aa aI,this]
  .rw[hw,Ii,<- yl];exact ai.2
 .have aYl:(l.getD i default).op.hn=false:=by simpa using cS
  refine⟨p,ay,fun k J aa=>by simp[ins,ye k J aa],fun k J aa aI=>?_,⟨DI,?_⟩,fz,fun h=>absurd h cS⟩
  .have:k≠i:=fun e=>by subst e;exact cS aI
   simp[ins,ou k J aa aI,this]
  .rw[hw,Ii]
   rcases ai.2 with⟨J,aa,_⟩|⟨J,aa⟩
   .exact .inl ⟨J,aa,rfl⟩
   .refine .inr ⟨J,?_⟩;cases ab:(l.getD i default).op.cls with
    |t=>exact(EO ab aa).2 _
    |a=>exact absurd (aF2 ab) cS
    |w=>exact absurd (am3 ab) cS
    |r=>
      obtain⟨_,x,af,ah,a8⟩:=BE ab aa;refine a8 _ fun id hid=>R.look aQ hi ay fD hj ye ou ab af hid (fun _=>ah id hid) (fun _=>?_)
      have gp:Dp (l.getD i default)=true:=by
       have h:=R.ord;unfold wy at h;simp only[dR]at h;have h:=h.1.2;rw[fp]at h;refine h _ ?_;have:l[i]?=some l[i]:=eP hi;rw[vv this];exact rU hi
      unfold Dp at gp;rw[ab,af]at gp;cases x with
      |c v=>cases v<;>first|(simp at gp;done)|(simp[aV,V.lI]at hid;done)
      |t s=>
        have Cn:s∈(l.getD i default).reads:=by
         refine qQ _ (PN.2 ⟨.t s,?_,by simp[b0.wL]⟩)
         cases dz:(l.getD i default).op<;>rw[dz]at af<;>simp[bY.place]at af<;>simp[bY.rF,af]
        have av:=(al.getD s).q0 hh.hz;rw[fz s Cn]at av;exact av.obj hid
def aOR{d:Nat->Option Nat}{v:Nat->V}{x:V}{S:Nat->Bool}{s:Nat}:∀(m:Nat),(∀k,k<m->d k≠some s)->lw d v x S s m=x:=by
 intro m
 induction m with
 |zero=>intro _;rfl
 |succ m aF=>
   intro h;simp only[lw]
   grind
def azd{d:Nat->Option Nat}{v:Nat->V}{f:List V}{N:Nat}{S:Nat->Bool}{s:Nat}(h:∀k,k<N->d k≠some s):(h4 d v f N S).getD s .bu=f.getD s .bu:=by
 rw[uP];split
 .exact aOR N h
 simp_all
def aet(R:Row P pure' call base ops l ct fr aW H H' F G val){ro:Option Nat}{n:Nat}{Q:Exit->Act->World->Prop}{dv:World}{de:List Deferred}(bd:cE aK μ ae dv H)(i0:Option Nat)(aQV:∀i,i0=some i->i<l.length)(hw:∀(i:Nat) (o:Oper),ops[i]?=some o->i<l.length->i0≠some i->DK P pure' o (l.getD i default).op->∀(ve:List V) (cH:cp) (cJ:Nat->Prop) (bc:World) (a:Act) (p:Nat) (v:V) (K:ad) (next:Act->World->Prop),cE aK cH cJ bc (G p)->c7 cH cJ bc ve a.tmps->
  bf call base ve (G p) (l.getD i default).op=some (v,K)->(∀r w',mZ aK cH cJ bc (G p) v K (.returned r) w'->next (a.put o.dst r) w')->o.wpIn (ix ro) n P a bc next Q)(ay:∀(i:Nat) (o:Oper),i0=some i->ops[i]?=some o->DK P pure' o (l.getD i default).op->(l.getD i default).op.hn=true/\want (l.getD i default) (F i)=some true/\∀(ve:List V) (cH:cp) (cJ:Nat->Prop) (bc:World) (a:Act) (next:Act->World->Prop),c8 aK μ ae dv H cH cJ bc (G i)->c7 cH cJ bc ve a.tmps->(∀s∈(l.getD i default).reads,ve.getD s .bu=(F i).getD s .bu)->(∀s,(∀k,k<l.length->f' l k≠some s)->ve.getD s .bu=fr.getD s .bu)->a.defers=de->o.wpIn (ix ro) n P a bc next Q):
 ∀(fuel:Nat) (cY:Array Bool) (a:Act) (w:World) (cf:cp) (b9:Nat->Prop) (p:Nat),cY.size=l.length->qK cY l.length<=fuel->nQ ops (fun k=>cY.getD k false)->(∀i,i0=some i->cY.getD i false=false)->p<=l.length->
   (∀k,k<p->(l.getD k default).op.hn=true->cY.getD k false=true)->(∀k,p<=k->k<l.length->(l.getD k default).op.hn=true->cY.getD k false=false)->
   c8 aK μ ae dv H cf b9 w (G p)->c7 cf b9 w (h4 (f' l) val fr l.length fun k=>cY.getD k false) a.tmps->a.defers=de->
   (i0=none->∀bW w',pb aK μ ae dv H de aW H' bW w'->Q .normal bW w')->wpAnyIn (ix ro) n P .any ops Q fuel cY a w:=by
 have eo:l.length=ops.size:=R.Lf.1;have done:∀(cY:Array Bool) (a:Act) (w:World) (cf:cp) (b9:Nat->Prop) (p:Nat),(∀k,k<l.length->cY.getD k false=true)->p<=l.length->
  (∀k,p<=k->k<l.length->(l.getD k default).op.hn=true->cY.getD k false=false)->
  c8 aK μ ae dv H cf b9 w (G p)->c7 cf b9 w (h4 (f' l) val fr l.length fun k=>cY.getD k false) a.tmps->a.defers=de->pb aK μ ae dv H de aW H' a w:=by
  intro cY a w cf b9 p hM ay ou h0 al ph
  have yl:G l.length=G p:=R.Zx ay (cq _) fun k J aa=>by
   cases an:(l.getD k default).op.hn with
   |false=>rfl
   |true=>have:=ou k J aa an;rw[hM k aa]at this;cases this
  have iR:(h4 (f' l) val fr l.length fun k=>cY.getD k false)=F l.length:=by
   obtain⟨J,aa⟩:=R.ya l.length (cq _)
   refine BK (by rw[pd,J]) fun s ai=>?_
   rw[pd]at ai;rw[uP,bE ai,aa s ai,B4 (i:=l.length) l.length fun k an _=>?_,TZ];simp[hM k an,an]
  rw[iR,R.ON]at al;rw[<- yl,R.Q2]at h0;exact⟨cf,b9,h0,al,ph⟩
 have Mm:∀cY:Array Bool,cY.size=l.length->Region.ready .any ops cY=[]->∀k,k<l.length->cY.getD k false=true:=by
  intro cY dk ak k
  induction k using Nat.strongRecOn with
  |ind k aF=>
    intro an;cases aq:cY.getD k false with
    |true=>rfl
    |false=>
      exfalso
      have aX:ops[k]?=some ops[k]:=mO (by omega)
      have iv:k∈Region.ready .any ops cY:=by
       refine mem_ready.2 ⟨?_,_,aX,fun e he ah=>?_⟩
       .have:k<cY.size:=by omega
        simp[this]at aq |-;exact aq
       .have aD:=R.back;unfold pr at aD;rw[fp]at aD
        have aD:=aD k (by simp;omega)
        rw[aX]at aD;simp only[Yn,oi,wY,l8]at aD
        rcases aD e he with h|h
        .rw[ah]at h;cases h
        .exact aF e.on h (by omega)
      rw[ak]at iv;cases iv
 have atL:∀cY:Array Bool,(∀i,i0=some i->cY.getD i false=false)->(∀k,k<l.length->cY.getD k false=true)->i0=none:=by
  intro cY aq hM;cases hi:i0 with
  |none=>rfl
  |some i=>
    have J:=aq i hi;rw[hM i (aQV i hi)]at J;cases J
 intro fuel
 induction fuel with
 |zero=>
   intro cY a w cf b9 p dk y2 aQ OH ay ye ou h0 al ph a6
   have hM:∀k,k<l.length->cY.getD k false=true:=by
    intro k an
    have bd:qK cY l.length=0:=by omega
    unfold qK at bd;rw[aca]at bd
    have:=bd k (by simpa using an)
    simpa using this
   refine⟨?_,a6 (atL cY OH hM) a w (done cY a w cf b9 p hM ay ou h0 al ph)⟩;cases ak:Region.ready .any ops cY with
   |nil=>rfl
   |cons j aIj=>
     exfalso
     obtain⟨J,o,aX,_⟩:=mem_ready.1 (show j∈Region.ready .any ops cY by rw[ak];exact hJ)
     have bz:j<l.length:=by have:=(tA.1 aX).1;omega
     have aa:=hM j bz
     have:j<cY.size:=by omega
     simp[this]at J aa;rw[J]at aa;cases aa
 |succ fuel aF=>
   intro cY a w cf b9 p dk y2 aQ OH gp ye ou h0 al ph a6;refine⟨fun ak=>a6 (atL cY OH (Mm cY dk ak)) a w (done cY a w cf b9 p (Mm cY dk ak) gp ou h0 al ph),fun i Ux=>?_⟩;obtain⟨J,o,aX,hM⟩:=mem_ready.1 Ux
   have hi:i<l.length:=by have:=(tA.1 aX).1;omega
   have Ls:i<cY.size:=by omega
   have fD:cY.getD i false=false:=by simp[Ls]at J |-;exact J
   have hj:∀j,jm (Region.before ops).toList j i=true->cY.getD j false=true:=fun j bz=>S9 aQ aX hM bz
   have kv:(fun k=>(cY.setIfInBounds i true).getD k false)=ins (fun k=>cY.getD k false) i:=by
    funext k
    by_cases an:k=i
    .subst an;simp[ins,Ls]
    .rw[getD_set_ne false (iV an)];simp[ins,an]
   obtain⟨hG,bj,aT,a1,j9,ar8,aBt⟩:=R.QK aQ hi gp fD hj ye ou h0.ak al
   have JK:l[i]?=some (l.getD i default):=by rw[eP hi,vv (eP hi)]
   obtain⟨Ev,BF,EV⟩:=R.Lf.2 i o _ aX JK
   have Tr:qK (cY.setIfInBounds i true) l.length<=fuel:=by
    have:qK (cY.setIfInBounds i true) l.length<qK cY l.length:=by
     refine aa2 (fun k _ an=>?_) ⟨i,by simpa using hi,by simp[fD],?_⟩
     .have:=Eb kv k;simp only[wY]at an |-;rw[this]at an;simp only[ins,nS]at an;exact an.1
     .have:=Eb kv i;simp only[this,ins];simp
    omega
   by_cases Hm:i0=some i
   .obtain⟨t1,t2,t3⟩:=ay i o Hm aX BF;have aMV:=aBt t1;unfold wpOpIn;simp only[aX]
    have IB:want (l.getD i default) (h4 (f' l) val fr l.length fun k=>cY.getD k false)=some true:=by rw[KS ar8];exact t2
    rw[uX EV al IB];simp only[eW];rw[aMV]at h0;exact t3 _ cf b9 w a _ h0 al ar8 (fun s ai=>azd ai) ph
   have next:∀(c:Value) (bc:World) (cH:cp) (cJ:Nat->Prop),bS cH cJ bc (val i) c->c8 aK cf b9 w (G p) cH cJ bc (G hG)->wpAnyIn (ix ro) n P .any ops Q fuel (cY.setIfInBounds i true) (a.put o.dst c) bc:=by
    intro c bc cH cJ av hX
    refine aF _ _ _ cH cJ hG (by simpa using dk) Tr (by rw[kv];exact alB aQ aX hM) (fun j bz=>by have:=Eb kv j;rw[this];simp only[ins,nS];exact⟨OH j bz,by simp;intro e;subst e;exact Hm bz⟩) bj (fun k J aa=>(Eb kv k).trans (aT k J aa)) (fun k J aa aI=>(Eb kv k).trans (a1 k J aa aI))
     (h0.trans hX) ?_ (by rw[put_defers];exact ph) a6
    rw[kv,j9.1];rw[<- Ev];exact(al.post h0.ak hX).put _ av
   unfold wpOpIn;simp only[aX]
   rcases j9.2 with⟨zS,av,a8⟩|⟨zS,dz⟩
   .rw[uX EV al zS];simp only[pD,hp]
    refine⟨fun _ _=>trivial,next _ w cf b9 ?_ (by rw[a8];exact c8.refl h0.ak)⟩
    rw[av];exact .s _
   .rw[uX EV al zS];simp only[eW];refine hw i o aX hi Hm BF _ cf b9 w a p _ _ _ h0.ak al dz ?_;rintro r bc ⟨c,cH,cJ,e,av,hX⟩;cases e
    exact next r bc cH cJ av hX
def aNr(R:Row P pure' call base ops l ct fr aW H H' F G val)(ai:o3 P aK call){ro:Option Nat}{n:Nat}{Q:Exit->Act->World->Prop}{dv:World}{de:List Deferred}(bd:cE aK μ ae dv H):
 ∀(fuel:Nat) (cY:Array Bool) (a:Act) (w:World) (cf:cp) (b9:Nat->Prop) (p:Nat),cY.size=l.length->qK cY l.length<=fuel->nQ ops (fun k=>cY.getD k false)->p<=l.length->
   (∀k,k<p->(l.getD k default).op.hn=true->cY.getD k false=true)->(∀k,p<=k->k<l.length->(l.getD k default).op.hn=true->cY.getD k false=false)->
   c8 aK μ ae dv H cf b9 w (G p)->c7 cf b9 w (h4 (f' l) val fr l.length fun k=>cY.getD k false) a.tmps->a.defers=de->
   (∀bW w',pb aK μ ae dv H de aW H' bW w'->Q .normal bW w')->wpAnyIn (ix ro) n P .any ops Q fuel cY a w:=
 fun fuel cY a w cf b9 p J aa aI bl cO fQ qB tw oz j8=>
  aet R bd none (fun _ e=>by cases e) (fun _ _ _ _ _ ab _ _ _ _ _ _ _ _ _ hh al he aJ=>xi ai hh al ab he aJ) (fun _ _ e=>by cases e) fuel cY a w cf b9 p J aa aI (fun _ e=>by cases e) bl cO fQ qB tw oz (fun _=>j8)
end
section
variable {call:c5} {base:Nat} {fr aW vs:List V} {H H':ad}
theorem k3{x:b0}{k:Nat}(h:vs.getD k .bu=aV fr x):aV vs (x.num k)=aV fr x:=by
 cases x with
 |t i=>exact h
 |c v=>rfl
def arc:∀(l:List b0) (k:Nat),(∀j x,l[j]?=some x->vs.getD (k+j) .bu=aV fr x)->(Ij k l).map (aV vs)=l.map (aV fr):=by
 intro l
 induction l with
 |nil=>intro k _;rfl
 |cons x l aF=>
   intro k h;simp only[Ij,dW]
   rw[k3 (by simpa using h 0 x rfl),aF (k+1) fun j y bz=>by have:=h (j+1) y (by simpa using bz);grind]
def aQD:∀(l:List (Nat × b0)) (k:Nat),(∀j x,l[j]?=some x->vs.getD (k+j) .bu=aV fr x.2)->(PY k l).map (fun p=>(p.1,aV vs p.2))=l.map (fun p=>(p.1,aV fr p.2)):=by
 intro l
 induction l with
 |nil=>intro k _;rfl
 |cons x l aF=>
   intro k h;simp only[PY,dW]
   rw[k3 (by simpa using h 0 x rfl),aF (k+1) fun j y bz=>by have:=h (j+1) y (by simpa using bz);grind]
def Mg{d:Nat}{o:Option b0}{k:Nat}(h:∀x,o=some x->vs.getD k .bu=aV fr x):hY vs d (qk o k)=hY fr d o:=by
 cases o with
 |none=>rfl
 |some x=>simp only[qk,o7,hY,k3 (h x rfl)]
def aNv{c':c5}{b':Nat}(op:bY)(bJ:op.quiet=true)(h:∀k x,op.rF[k]?=some x->vs.getD k .bu=aV fr x):bf c' b' vs H op.nF=bf call base fr H op:=by
 cases op<;>first|(simp[bY.quiet]at bJ;done)|skip
 case build z pl ps=>
  have:=aQD (vs:=vs) (fr:=fr) ps 0 fun j x af=>by
   rw[mx]
   exact h j x.2 (by simp only[bY.rF,ut,af,o7])
  simp only[bY.nF,bf,this]
 case ez f a b=>
  have J:=arc (vs:=vs) (fr:=fr) a 0 fun j x af=>by
   rw[mx];refine h j x ?_;simp only[bY.rF]
   grind
  have aa:=arc (vs:=vs) (fr:=fr) b a.length fun j x af=>by
   refine h (a.length+j) x ?_;simp only[bY.rF]
   grind
  simp only[bY.nF,bf,J,aa]
 case sk x cN hi=>
  have bd:=k3 (vs:=vs) (k:=0) (h 0 x rfl)
  have J:∀d,hY vs d (qk cN 1)=hY fr d cN:=fun d=>Mg fun y bC=>h 1 y (by subst bC;rfl)
  have aa:∀d,hY vs d (qk hi (1+cN.toList.length))=hY fr d hi:=fun d=>Mg fun y bC=>h _ y (by subst bC;cases cN<;>rfl)
  simp only[bY.nF,bf,bd,J,aa]
 case tP sz x cN hi gJ=>
  have bd:=k3 (vs:=vs) (k:=0) (h 0 x rfl)
  have J:∀d,hY vs d (qk cN 1)=hY fr d cN:=fun d=>Mg fun y bC=>h 1 y (by subst bC;rfl)
  have aa:∀d,hY vs d (qk hi (1+cN.toList.length))=hY fr d hi:=fun d=>Mg fun y bC=>h _ y (by subst bC;cases cN<;>rfl)
  cases gJ with
  |none=>simp only[bY.nF,qk,Bc,bf,bd];simp only[qk]at J aa;simp only[J,aa]
  |some m=>
    have aI:=k3 (vs:=vs) (k:=1+cN.toList.length+hi.toList.length) (h _ m (by cases cN<;>cases hi<;>rfl))
    cases hi with
    |none=>simp only[bY.nF,qk,Bc,o7,bf]
    |some y=>
      have bl:=k3 (vs:=vs) (k:=1+cN.toList.length) (h _ y (by cases cN<;>rfl))
      have qn:=J 0;simp only[qk]at qn;simp only[bY.nF,qk,o7,bf,bd,qn]
      grind
 case pick c a b=>simp only[bY.nF,bf,k3 (h 0 c rfl),k3 (h 1 a rfl),k3 (h 2 b rfl)]
 all_goals first
  |(rename_i x;simp only[bY.nF,bf,k3 (h 0 x rfl)];done)
  |(rename_i x y;simp only[bY.nF,bf,k3 (h 0 x rfl),k3 (h 1 y rfl)];done)
  |(rename_i x y;simp only[bY.nF,bf,k3 (h 0 y rfl)];done)
  |(rename_i x y;simp only[bY.nF,bf,k3 (h 0 x rfl)];done)
  |(rename_i x y z;simp only[bY.nF,bf,k3 (h 0 x rfl),k3 (h 1 y rfl)];done)
  |(rename_i x y z;simp only[bY.nF,bf,k3 (h 0 y rfl),k3 (h 1 z rfl)];done)
  |(rename_i x y z;simp only[bY.nF,bf,k3 (h 0 z rfl)];done)
  |(rename_i x y z u;simp only[bY.nF,bf,k3 (h 0 z rfl),k3 (h 1 u rfl)];done)
  |(rename_i x y z u;simp only[bY.nF,bf,k3 (h 0 u rfl)];done)
  |(rename_i x y z u q;simp only[bY.nF,bf,k3 (h 0 z rfl),k3 (h 1 u rfl)];done)
def aQG{op:bY}(bJ:op.quiet=true){v:V}(h:bf call base fr H op=some (v,H')):H'=H:=by
 cases ab:op.cls with
 |t=>exact(EO ab h).1
 |r=>exact(BE ab h).1
 |a=>cases op<;>simp[bY.cls]at ab<;>simp[bY.quiet]at bJ
 |w=>cases op<;>simp[bY.cls]at ab<;>simp[bY.quiet]at bJ
def mo(G:List (Nat × Bool × E))(f:List V):Prop:=∀p∈G,f.getD p.1 .bu=ar p.2.1
def Inv(fr:List V)(H:ad)(ds:List (Nat × n4))(f:List V):Prop:=
 ∀s,(mo (kH ds s).g f->ch fr H (kH ds s).e=some (f.getD s .bu))/\(¬mo (kH ds s).g f->f.getD s .bu=bF)
def aFa{G K:List (Nat × Bool × E)}{f:List V}(h:under G K=true)(an:mo K f):mo G f:=by
 intro p ay;unfold under at h;rw[fp]at h;have:=h p ay;rw[Kp]at this;obtain⟨q,bJ,W8⟩:=this;simp only[dR,lc]at W8;rw[W8.1,W8.2];exact an q bJ
def I5{ds:List (Nat × n4)}{G:List (Nat × Bool × E)}{f:List V}(hi:Inv fr H ds f)(a8:mo G f){x:b0}{e:E}(h:CE ds G x=some e):ch fr H e=some (aV f x):=by
 cases x with
 |c v=>cases h;rfl
 |t s=>
   simp only[CE]at h;split at h
   .rename_i hu;cases h;exact(hi s).1 (aFa hu a8)
   .cases h
def aPg{ds:List (Nat × n4)}{G:List (Nat × Bool × E)}{f:List V}(hi:Inv fr H ds f)(a8:mo G f):∀{xs:List b0} {es:List E},Jo ds G xs=some es->oT fr H es=some (xs.map (aV f)):=by
 intro xs
 induction xs with
 |nil=>intro es h;cases h;rfl
 |cons x xs aF=>
   intro es h;simp only[Jo]at h;split at h
   .rename_i e es' J aa;cases h;simp only[oT,I5 hi a8 J,aF aa,dW]
   .cases h
def aqb{ds:List (Nat × n4)}{G:List (Nat × Bool × E)}{f:List V}(hi:Inv fr H ds f)(a8:mo G f){o:bY}{e:E}(h:Pc ds G o=some e){v:V}(he:ch fr H e=some v):bf call base f H o=some (v,H):=by
 have gen:∀o:bY,(if o.quiet then match Jo ds G o.rF with|some xs=>some (.op o.nF xs)|none=>none else none)=some e->bf call base f H o=some (v,H):=by
  intro o h;split at h
  .rename_i bJ;split at h
   .rename_i xs jL;cases h;simp only[ch,aPg hi a8 jL]at he
    have ak:=aNv (call:=call) (base:=base) (c':=fun _ _ _ _=>none) (b':=0) (vs:=o.rF.map (aV f)) (fr:=f) (H:=H) o bJ (fun k x af=>by grind)
    rw[ak]at he;split at he
    .rename_i gx H1 dz;cases he;rw[dz,aQG bJ dz]
    .cases he
   .cases h
  .cases h
 unfold Pc at h;split at h
 .rename_i x;have:=I5 hi a8 h;rw[he]at this;simp only[bf,<- kI this]
 .rename_i c a b;split at h
  .rename_i x y z af bC bK;cases h;have J:=I5 hi a8 af;simp only[ch,J,Ap]at he;have ab:aV f (.t c)=f.getD c .bu:=rfl;split at he
   .rename_i heq;have fm:aV f (.t c)=ar true:=kI heq
    have wA:mo (G++[(c,true,(kH ds c).e)]) f:=by
     intro p ay
     rcases pu.1 ay with ay|ay
     .exact a8 p ay
     .simp_all
    have aa:=I5 hi wA bC;rw[he]at aa;simp only[bf,fm,ar]
    simp_all
   .rename_i heq;have fm:aV f (.t c)=ar false:=kI heq
    have wA:mo (G++[(c,false,(kH ds c).e)]) f:=by
     intro p ay
     rcases pu.1 ay with ay|ay
     .exact a8 p ay
     .simp_all
    have aa:=I5 hi wA bK;rw[he]at aa;simp only[bf,fm,ar]
    simp_all
   .cases he
  .cases h
 .exact gen _ h
def y'(fr:List V)(H:ad)(ds:List (Nat × n4))(f:List V):Prop:=
 Inv fr H ds f/\∀s,mo (kH ds s).g f->∀p∈(kH ds s).g,ch fr H p.2.2=some (f.getD p.1 .bu)
def y'.start:y' fr H [] fr:=
 ⟨fun _=>⟨fun _=>rfl,fun h=>absurd (fun p ay=>by cases ay) h⟩,fun _ _ p ay=>by cases ay⟩
def TM{d:Option Nat}{v:V}{f:List V}{s:Nat}(h:d≠some s):(put d v f).getD s .bu=f.getD s .bu:=by
 cases d with
 |none=>rfl
 |some k=>
   have aNU:¬k=s:=fun e=>h (by rw[e])
   simp[put,cG aNU]
def Sm{G:List (Nat × Bool × E)}{f:List V}{d:Nat}{v:V}(h:G.all (fun p=>p.1 != d)=true):(mo G (put (some d) v f)↔mo G f)/\∀p∈G,(put (some d) v f).getD p.1 .bu=f.getD p.1 .bu:=by
 rw[fp]at h
 have:∀p∈G,(put (some d) v f).getD p.1 .bu=f.getD p.1 .bu:=by
  intro p ay;have eS:=h p ay;simp only[mw,ne_eq]at eS;exact TM (fun e=>eS (kI e).symm)
 exact⟨⟨fun h p ay=>by rw[<- this p ay];exact h p ay,fun h p ay=>by rw[this p ay];exact h p ay⟩,this⟩
def aQe{e:E}{K:List (Nat × Bool × E)}:∀(G:List (Nat × Bool × E)),(∀p∈G,ch fr H p.2.2=some (ar p.2.1))->lb fr H (G++K) e=lb fr H K e:=by
 intro G
 induction G with
 |nil=>intro _;rfl
 |cons p G aF=>
   intro h;have J:=h p hJ;simp only[du,lb,J,ar,yw,eW]
   simp_all
def aa6{ds:List (Nat × n4)}{f:List V}(hi:y' fr H ds f){o:bx}{e:E}(he:Pc ds (nd ds o.guard) o.op=some e)(vn:lb fr H (nd ds o.guard) e=true):
 (∃v,want o f=some true/\bf call base f H o.op=some (v,H)/\ch fr H e=some v/\mo (nd ds o.guard) f)\/(want o f=some false/\¬mo (nd ds o.guard) f):=by
 cases a8:o.guard with
 |none=>
   rw[a8]at he vn;simp only[nd,lb]at he vn;obtain⟨v,av⟩:=Option.isSome_iff_exists.1 vn
   have hh:mo [] f:=fun p ay=>by cases ay
   exact .inl ⟨v,by simp[want,a8],aqb hi.1 hh he av,av,hh⟩
 |some tb=>
   obtain⟨t,b⟩:=tb;rw[a8]at he vn;simp only[nd]at he vn |-;by_cases hh:mo (kH ds t).g f
   .have bp:=(hi.1 t).1 hh
    rw[aQe _ (fun p ay=>by rw[hi.2 t hh p ay,hh p ay])]at vn
    simp only[lb,bp,yw]at vn;split at vn
    .rename_i z bK;have bK:f.getD t .bu=ar z:=kI bK;split at vn
     .rename_i Ox;obtain⟨v,av⟩:=Option.isSome_iff_exists.1 vn
      have agW:mo ((kH ds t).g++[(t,b,(kH ds t).e)]) f:=by
       intro p ay
       rcases pu.1 ay with ay|ay
       .exact hh p ay
       .simp_all
      exact .inl ⟨v,by simp only[want,a8,bK,ar,Ox,mu],aqb hi.1 agW he av,av,agW⟩
     .rename_i Ox
      refine .inr ⟨by simp only[want,a8,bK,ar];simp[Ox],fun aa=>Ox ?_⟩
      have:=aa (t,b,(kH ds t).e) (xa _ (by simp))
      simp only[bK,ar]at this
      simpa using this
    .cases vn
   .have hu:=(hi.1 t).2 hh
    refine .inr ⟨by simp only[want,a8,hu,bF];rfl,fun aa=>hh fun p ay=>aa p (qQ _ ay)⟩
def an6:∀(os:List bx) {Nc XQ:List (Nat × n4)} {Q M':List (List (Nat × Bool × E) × E)},DO Nc Q os=some (XQ,M')->∀r∈Q,r∈M':=by
 intro os
 induction os with
 |nil=>intro Nc XQ Q M' h r ak;cases h;exact ak
 |cons o' os ago=>
   intro Nc XQ Q M' h r ak;simp only[DO]at h;split at h
   .split at h
    .split at h
     .exact ago h r (qQ _ ak)
     .cases h
    .exact ago h r (qQ _ ak)
   .cases h
def aeI{d:Nat}{ds:List (Nat × n4)}(h:(ds.all fun q=>q.2.g.all fun p=>p.1 != d)=true)(s:Nat):(kH ds s).g.all (fun p=>p.1 != d)=true:=by
 induction ds with
 |nil=>rfl
 |cons q Nc aXY=>
   obtain⟨k,dT⟩:=q;simp only[pq,dR]at h;simp only[kH]
   grind
def aRB{ds:List (Nat × n4)}{f:List V}(hi:y' fr H ds f){o:bx}{e:E}{d:Nat}(Cr:d<f.length)(H6:(nd ds o.guard).all (fun p=>p.1 != d)=true)(au7:(ds.all fun q=>q.2.g.all fun p=>p.1 != d)=true){v:V}(J:mo (nd ds o.guard) f->ch fr H e=some v)(aa:¬mo (nd ds o.guard) f->v=bF):y' fr H ((d,⟨nd ds o.guard,e⟩)::ds) (put (some d) v f):=by
 have yl:=Sm (G:=nd ds o.guard) (f:=f) (v:=v) H6;refine⟨fun s=>?_,fun s=>?_⟩
 .simp only[kH];by_cases ai:d=s
  .rw[bE ai];subst ai
   have av:(put (some d) v f).getD d .bu=v:=by simp[put,Cr]
   grind
  .rw[bV ai];have bm:=Sm (f:=f) (v:=v) (aeI au7 s);rw[TM (fun e=>ai (kI e))];exact⟨fun hh=>(hi.1 s).1 (bm.1.1 hh),fun hh=>(hi.1 s).2 fun aI=>hh (bm.1.2 aI)⟩
 .simp only[kH];by_cases ai:d=s
  .rw[bE ai];intro hh p ay;rw[yl.2 p ay];have VP:=yl.1.1 hh;cases a8:o.guard with
   |none=>rw[a8]at ay;cases ay
   |some tb=>
     obtain⟨t,b⟩:=tb;rw[a8]at ay VP;simp only[nd]at ay VP;have aY:mo (kH ds t).g f:=fun q bJ=>VP q (qQ _ bJ)
     rcases pu.1 ay with ay|ay
     .exact hi.2 t aY p ay
     .simp at ay;subst ay;exact(hi.1 t).1 aY
  .rw[bV ai];have bm:=Sm (f:=f) (v:=v) (aeI au7 s);intro hh p ay;rw[bm.2 p ay];exact hi.2 s (bm.1.1 hh) p ay
def aCe:∀(ops:List bx) (ds:List (Nat × n4)) (R:List (List (Nat × Bool × E) × E)) (f:List V) {JC:List (Nat × n4)} {Nd:List (List (Nat × Bool × E) × E)},DO ds R ops=some (JC,Nd)->y' fr H ds f->Eo ops<=f.length->
 (∀r∈Nd,lb fr H r.1 r.2=true)->∃hk,cI call base ops f H=some (hk,H)/\y' fr H JC hk/\hk.length=f.length/\∀s,(∀o∈ops,o.dst≠some s)->hk.getD s .bu=f.getD s .bu:=by
 intro ops
 induction ops with
 |nil=>intro ds R f JC Nd h hi _ _;cases h;exact⟨f,rfl,hi,rfl,fun _ _=>rfl⟩
 |cons o ops aF=>
   intro ds R f JC Nd h hi dn cP;simp only[DO]at h;split at h
   case h_2=>cases h
   rename_i e he;split at h
   .rename_i d aQ;split at h
    case isFalse=>cases h
    rename_i fU;simp only[dR]at fU;simp only[Eo,aQ]at dn
    have Cr:d<f.length:=by omega
    have Yu:Eo ops<=f.length:=by omega
    have iv:=an6 ops h (nd ds o.guard,e) (xa _ (by simp))
    have fin:∀v,(mo (nd ds o.guard) f->ch fr H e=some v)->(¬mo (nd ds o.guard) f->v=bF)->
     ∃hk,cI call base ops (put o.dst v f) H=some (hk,H)/\y' fr H JC hk/\hk.length=f.length/\∀s,(∀o'∈o::ops,o'.dst≠some s)->hk.getD s .bu=f.getD s .bu:=by
     intro v J aa
     obtain⟨hk,bj,aT,a1,cB⟩:=aF _ _ _ h (aRB hi Cr fU.1 fU.2 J aa) (by rw[CR];exact Yu) cP
     rw[aQ]
     refine⟨hk,bj,aT,by rw[a1,CR],fun s ai=>?_⟩
     rw[cB s fun o' py=>ai o' (d9 _ py)]
     exact TM (by simp_all)
    rcases aa6 (call:=call) (base:=base) hi he (cP _ iv)with⟨v,bc,dJ,fI,jF⟩|⟨bc,jF⟩
    .obtain⟨hk,bj,aT⟩:=fin v (fun _=>fI) (fun h=>absurd jF h)
     exact⟨hk,by simp only[cI,bc,dJ];exact bj,aT⟩
    .obtain⟨hk,bj,aT⟩:=fin bF (fun h=>absurd h jF) (fun _=>rfl)
     exact⟨hk,by simp only[cI,bc];exact bj,aT⟩
   .rename_i aQ;simp only[Eo,aQ]at dn
    have iv:=an6 ops h (nd ds o.guard,e) (xa _ (by simp))
    obtain⟨hk,bj,aT,a1,cB⟩:=aF _ _ _ h hi dn cP;have YG:∀s,(∀o'∈o::ops,o'.dst≠some s)->hk.getD s .bu=f.getD s .bu:=fun s ai=>cB s fun o' py=>ai o' (d9 _ py)
    rcases aa6 (call:=call) (base:=base) hi he (cP _ iv)with⟨v,bc,dJ,fI,jF⟩|⟨bc,jF⟩
    .exact⟨hk,by simp only[cI,bc,dJ,aQ,put];exact bj,aT,a1,YG⟩
    .exact⟨hk,by simp only[cI,bc,aQ,put];exact bj,aT,a1,YG⟩
def BO(hc:List Nat):∀(f:List V),(ul hc f).length=f.length:=by
 induction hc with
 |nil=>intro f;rfl
 |cons k hc aF=>intro f;exact(aF _).trans (by simp)
def FJ(hc:List Nat):∀(f:List V) (s:Nat),(ul hc f).getD s .bu=if s∈hc then .bu else f.getD s .bu:=by
 induction hc with
 |nil=>intro f s;simp[ul]
 |cons k hc aF=>
   intro f s;show(ul hc (f.set k .bu)).getD s .bu=_
   grind
def aVU:∀(os:List (Nat × E)) (g g':List V),rB fr H os g=some g'->g'.length=g.length/\(∀s,(∀p∈os,p.1≠s)->g'.getD s .bu=g.getD s .bu)/\
 (∀(val:Nat->V),(∀p∈os,ch fr H p.2=some (val p.1))->∀s,s<g.length->(∃p∈os,p.1=s)->g'.getD s .bu=val s):=by
 intro os
 induction os with
 |nil=>intro g g' h;cases h;simp_all
 |cons p os aF=>
   intro g g' h;obtain⟨lk,cX⟩:=p;simp only[rB]at h;split at h
   case h_2=>cases h
   rename_i v av;obtain⟨J,aa,aI⟩:=aF _ _ h
   refine⟨by rw[J];simp,fun s ai=>?_,fun val xO s Vt hex=>?_⟩
   .rw[aa s fun q bJ=>ai q (d9 _ bJ)]
    simp_all
   .by_cases pL:∃q∈os,q.1=s
    .exact aI val (fun q bJ=>xO q (d9 _ bJ)) s (by simpa using Vt) pL
    grind
def G5{ops:List bx}{kill j7:List Nat}{f2:List V}(h:jN (nh ops kill j7) kill fr H=some f2):∃f1,cI call base ops fr H=some (f1,H)/\ul kill f1=f2:=by
 unfold nh at h;split at h
 case h_2=>cases h
 rename_i ds R kl;split at h
 case isFalse=>cases h
 rename_i fU;simp only[dR,fp]at fU;obtain⟨⟨k1,k2⟩,eN⟩:=fU;simp only[jN]at h;split at h
 case isFalse=>cases h
 rename_i dn;split at h
 case isFalse=>cases h
 rename_i cP;rw[fp]at cP;obtain⟨f1,bj,aT,a1,cB⟩:=aCe (call:=call) (base:=base) ops [] [] fr kl y'.start dn cP;refine⟨f1,bj,?_⟩;obtain⟨g1,g2,g3⟩:=aVU _ _ _ h
 refine BK (by rw[BO,a1,g1,BO]) fun s ai=>?_
 rw[BO,a1]at ai;rw[FJ];by_cases aX:s∈j7
 .have SX:s ∉ kill:=by have:=eN s aX;simpa using this
  rw[bV SX]
  have xO:∀p∈j7.map (fun s=>(s,(kH ds s).e)),ch fr H p.2=some ((fun s=>f1.getD s .bu) p.1):=by
   intro p ay;obtain⟨fW,hV,rfl⟩:=wJ.1 ay;refine(aT.1 fW).1 ?_;have:=k1 fW hV;rw[List.isEmpty_iff]at this;rw[this]
   exact fun p ay=>by cases ay
  exact(g3 (fun s=>f1.getD s .bu) xO s (by rw[BO];exact ai) ⟨_,wJ.2 ⟨s,aX,rfl⟩,rfl⟩).symm
 .have aa:=g2 s fun p ay e=>by
   grind
  rw[aa,FJ]
  grind
end
section
variable {aK:eX} {μ ej cH:cp} {ae dY cJ:Nat->Prop} {w w' dv bc:World} {H cK K G eH:ad} {P:Program}
def MX{m:Nat}{v:V}{c:Value}(av:bS μ ae w v c):fi m v->bS (mV m μ) ae w v c:=by
 induction av with
 |s v=>intro _;exact .s v
 |bu v=>intro _;exact .bu v
 |agg cs vs aq _ aF=>
   intro h;cases h with
   |agg _ h=>exact .agg cs vs aq fun i a b aO ah=>aF i a b aO ah (h a (ib aO))
 |bQ cs vs aq _ aF=>
   intro h;cases h with
   |bQ _ h=>exact .bQ cs vs aq fun i a b aO ah=>aF i a b aO ah (h a (ib aO))
 |ref id g off B b hm=>
   intro h;cases h with
   |ref _ _ _ h=>exact .ref id g off B b (by rw[ss h];exact hm)
 |eu cs B o arr e fr aD cS ai h=>intro _;exact .eu cs B o arr e fr aD cS ai h
 |aZ id g off len sz B b cap arr e hm aD ab ai=>
   intro h;cases h with
   |aZ _ _ _ _ _ h=>exact .aZ id g off len sz B b cap arr e (by rw[ss h];exact hm) aD ab ai
 |jw id g off sz B b a hm=>
   intro h;cases h with
   |aZ _ _ _ _ _ h=>exact .jw id g off sz B b a (by rw[ss h];exact hm)
 |dc es sz B o cap arr e fr aD cS ab bK ai h=>intro _;exact .dc es sz B o cap arr e fr aD cS ab bK ai h
 |iy sz cap a=>intro _;exact .iy sz cap a
 |c6 a=>intro _;exact .c6 a
 |mp id B hm=>
   intro h;cases h with
   |mp _ h=>exact .mp id B (by rw[ss h];exact hm)
 |fn f fst cap fF e8 al ab _ _ re ot=>
   intro h;cases h with
   |fn _ _ _ aO ah=>exact .fn f fst cap fF e8 al ab (fun i a b J aa=>re i a b J aa (aO a (ib J))) (fun i a b J aa=>ot i a b J aa (ah a (ib J)))
 |ff id B hm=>
   intro h;cases h with
   |ff _ h=>exact .ff id B (by rw[ss h];exact hm)
def aNx{m:Nat}{vs:List V}{cs:List Value}(av:b6 μ ae w vs cs)(h:∀v∈vs,fi m v):b6 (mV m μ) ae w vs cs:=
 ⟨av.1,fun i a b aO ah=>MX (av.2 i a b aO ah) (h a (ib aO))⟩
def aIo{m:Nat}{br:aM}{b:Nat}{o:Obj}(h:ob m br)(ak:kz aK μ ae w br b o):kz aK (mV m μ) ae w br b o:=by
 cases br with
 |cells g c=>
   cases o<;>first|exact ak.elim|skip
   exact⟨ak.1,ak.2.1,fun i a v aO av=>MX (ak.2.2.1 i a v aO av) (h a (ib aO)),ak.2.2.2⟩
 |map es=>
   cases o<;>first|exact ak.elim|skip
   exact⟨ak.1,ak.2.1,fun i k v e he av=>⟨(ak.2.2 i k v e he av).1,MX (ak.2.2 i k v e he av).2 (h _ (ib he))⟩⟩
 |loop st tn tmps params assign body=>
   cases o<;>first|exact ak.elim|skip
   obtain⟨bd,J,aa,aI,bl,cO,fQ⟩:=ak;exact⟨bd,J,aa,aNx aI h,bl,cO,fQ⟩
 |dead=>cases o<;>exact ak.elim
 |bytes g l=>cases o<;>first|exact ak.elim|exact ak
def aCv{m:Nat}:∀id g p,mV m μ id g=some p->μ id g=some p:=fun _ _ _ h=>(ic h).2
def AG(m:Nat):ad:=List.replicate m .dead
def abx(h:cE aK μ ae w K)(m:Nat):cE aK (mV m μ) ae w (AG m):=by
 have aQ:∀(id:Nat) (br:aM),(AG m)[id]?=some br->br=.dead:=fun id br e=>by
  have:=ib e;simp[AG]at this;exact this.2
 refine⟨fun id g p e=>by simpa[AG]using(ic e).1,fun id g B b e=>h.gF id g B b (ic e).2,fun id br g B b bm ab _=>?_,fun id g gw g' B b b' e bN=>h.inj _ _ _ _ _ _ _ (ic e).2 (ic bN).2,
  fun id g g' c p _ bm=>?_,fun id g p br _ bm=>?_,h.fix,fun id B b e=>h.zero _ _ _ (ic e).2⟩
 .rw[aQ _ _ bm]at ab;exact ab.elim
 .intro a8;rw[aQ _ _ bm]at a8;cases a8
 .rw[aQ _ _ bm];trivial
def Um(h:cE aK μ ae w K)(a8:∀id,id<G.length->K[id]?=G[id]?)(hw:∀id g q br,μ id g=some q->id<G.length->K[id]?=some br->ob G.length br):cE aK (mV G.length μ) ae w G:=by
 have lt:∀(id:Nat) (br:aM),G[id]?=some br->id<G.length:=fun id br e=>(dQ.1 e).1;refine⟨fun id g p e=>(ic e).1,fun id g B b e=>h.gF id g B b (ic e).2,fun id br g B b bm ab e=>?_,fun id g gw g' B b b' e bN=>h.inj _ _ _ _ _ _ _ (ic e).2 (ic bN).2,
  fun id g g' c p e bm=>h.mQ _ _ _ _ _ (ic e).2 ((a8 id (lt _ _ bm)).trans bm),fun id g p br e bm=>hw id g p br (ic e).2 (lt _ _ bm) ((a8 id (lt _ _ bm)).trans bm),h.fix,fun id B b e=>h.zero _ _ _ (ic e).2⟩
 have bk:=(a8 id (lt _ _ bm)).trans bm;obtain⟨o,aX,ak⟩:=h.kY id br g B b bk ab (ic e).2;exact⟨o,aX,aIo (hw id g _ br (ic e).2 (lt _ _ bm) bk) ak⟩
def x6(rd:List Nat)(f:List V):List V:=(List.range f.length).map fun s=>if rd.contains s then f.getD s .bu else .bu
def ak0{rd:List Nat}{f:List V}{s:Nat}(ai:s∈rd):(x6 rd f).getD s .bu=f.getD s .bu:=by
 by_cases h:s<f.length
 .simp[x6,List.getD,h,ai]
 .simp[x6,List.getD,h]
def axt{m:Nat}{rd:List Nat}{f:List V}{t:Array Value}(al:c7 μ ae w f t)(h:∀s∈rd,fi m (f.getD s .bu)):c7 (mV m μ) ae w (x6 rd f) t:=by
 refine⟨by simpa[x6]using al.1,fun i a b aO ah=>?_⟩
 have hi:i<f.length:=by have:=(dQ.1 aO).1;simpa[x6]using this
 simp only[x6,ut,alq hi,o7,jI]at aO;subst aO;split
 .rename_i ab
  have hm:i∈rd:=by simpa using ab
  have a8:f[i]?=some (f.getD i .bu):=by simp[List.getD,hi]
  exact MX (al.2 i _ b a8 ah) (h i hm)
 .exact .bu _
def c8.go{Bs:cp}{Fb:Nat->Prop}{Gd:World}{GX:ad}(h:c8 aK ej dY dv cK μ ae w K)(aq:cK.length<=GX.length)(ak:cE aK Bs Fb Gd GX)(ext:∀id g p,μ id g=some p->Bs id g=some p)(mt:∀B,B<w.heap.size->(Fb B↔ae B))(c4:DR μ w Gd)(hR:∀id g B b,Bs id g=some (B,b)->B<w.heap.size->∃uw g0 e0,μ uw g0=some (B,e0))(news:∀id g p,Bs id g=some p->id<cK.length->∃g0 k7,μ id g0=some k7):
 c8 aK ej dY dv cK Bs Fb Gd GX where
 len:=aq
 ak:=ak
 ext id g p e:=ext id g p (h.ext id g p e)
 mt B aD:=(mt B (mm aD h.c4.size)).trans (h.mt B aD)
 c4:={
  size:=jn h.c4.size c4.size
  shape:=fun B arr e fr aD=>by
   obtain⟨DY,cw,J,aa⟩:=h.c4.shape B arr e fr aD;obtain⟨az5,qu,aI,bl⟩:=c4.shape B DY e cw J
   simp_all
  loops:=fun B l aD=>by
   obtain⟨cW,J⟩:=h.c4.loops B l aD;exact c4.loops B cW J
  cD:=fun B aD aJ=>by
   refine(c4.cD B (mm aD h.c4.size) ?_).trans (h.c4.cD B aD aJ);intro id g b e;obtain⟨uw,g0,e0,cX⟩:=h.hR id g B b e aD
   grind
  back:=fun B arr e aD=>by
   rcases c4.back B arr e aD with⟨DY,J⟩|J
   .exact h.c4.back B DY e J
   .exact .inr (jn h.c4.size J)
  os:=c4.os.trans h.c4.os
  tape:=c4.tape.trans h.c4.tape
  output:=c4.output.trans h.c4.output }
 hR id g B b e aD:=by
  obtain⟨Oy,g1,fe,aE⟩:=hR id g B b e (mm aD h.c4.size);exact h.hR Oy g1 B fe aE aD
 news id g p e hid:=by
  obtain⟨g1,cn,aE⟩:=news id g p e hid;exact h.news id g1 cn aE hid
def post_at(ay:c8 aK ej dY dv cK μ ae w K){id:Nat}{br:aM}(aJ:∀g,μ id g=none)(hid:cK.length<=id)(bk:K[id]?=some br)(o:Obj)(fg:kz aK μ ae w br 0 o):
 c8 aK ej dY dv cK (my μ id 0 (w.heap.size,0)) (fun B=>ae B\/B=w.heap.size) (w.alloc o) K:=by
 have h:=ay.ak;have hh:(w.alloc o).heap=w.heap.push o:=rfl;have gD:=Fc (p:=(w.heap.size,0)) (aJ 0)
 have cS:∀B,B<w.heap.size->(ae B\/B=w.heap.size)->ae B:=fun B aD hm=>hm.resolve_right (by omega)
 have an:∀B,B<w.heap.size->¬ae B->(w.alloc o).heap[B]?=w.heap[B]?:=fun B aD _=>lg hh aD;have gG:∀(B:Nat) (arr:Array Value) (e:TypeId) (fr:Nat × Nat),w.heap[B]?=some (.cells arr e fr)->∃eK aW,(w.alloc o).heap[B]?=some (.cells eK e aW)/\eK.size=arr.size:=
  fun B arr e fr aD=>⟨arr,fr,(lg hh (hZ aD)).trans aD,rfl⟩
 have tV:∀(B:Nat) (arr:Array Value) (e:TypeId) (fr:Nat × Nat),(w.alloc o).heap[B]?=some (.cells arr e fr)->(∃nG,w.heap[B]?=some (.cells nG e fr))\/w.heap.size<=B:=by
  intro B arr e fr aD;by_cases b8:B<w.heap.size
  .exact .inl ⟨arr,(lg hh b8).symm.trans aD⟩
  .exact .inr (by omega)
 have dk:(w.alloc o).heap.size=w.heap.size+1:=by rw[hh,Ke]
 have b8:id<K.length:=(dQ.1 bk).1
 have iW:∀i g p,my μ id 0 (w.heap.size,0) i g=some p->(i=id/\g=0/\p=(w.heap.size,0))\/(i≠id/\μ i g=some p):=by
  intro i g p e;by_cases c:i=id/\g=0
  .obtain⟨rfl,rfl⟩:=c;rw[n2]at e
   simp_all
  .rw[x1 c]at e
   grind
 refine ay.go ay.len ⟨?_,?_,?_,?_,?_,?_,h.fixed cS an,h.LK (fun _=>rfl)⟩ gD (fun B aD=>⟨cS B aD,.inl⟩) ⟨by omega,gG,fun B l aD=>⟨l,(lg hh (hZ aD)).trans aD⟩,fun B aD _=>lg hh aD,fun B arr e aD=>tV B arr e _ aD,rfl,rfl,rfl⟩ ?_ ?_
 .intro i g p e
  rcases iW i g p e with⟨rfl,_,_⟩|⟨_,bN⟩
  .exact b8
  .exact h.hz _ _ _ bN
 .intro i g B b e
  rcases iW i g _ e with⟨_,_,ay⟩|⟨_,bN⟩
  .simp_all
  .exact⟨.inl (h.gF _ _ _ _ bN).1,by have:=(h.gF _ _ _ _ bN).2;omega⟩
 .intro i ja g B b bm ab e
  rcases iW i g _ e with⟨rfl,rfl,ay⟩|⟨_,bN⟩
  .cases ay;rw[bk]at bm;cases bm;exact⟨o,yW hh,fg.mono gD cS an gG⟩
  .obtain⟨o',py,ak⟩:=h.kY i ja g B b bm ab bN;exact⟨o',(lg hh (hZ py)).trans py,ak.mono gD cS an gG⟩
 .intro i g xb g' B b b' aE aU
  rcases iW i g _ aE with⟨bP,_,cn⟩|⟨cW,oI⟩<;>rcases iW xb g' _ aU with⟨ca,_,dP⟩|⟨fZ,nB⟩
  .rw[bP,ca]
  .cases cn;have:=(h.gF _ _ _ _ nB).2;omega
  .cases dP;have:=(h.gF _ _ _ _ oI).2;omega
  .exact h.inj _ _ _ _ _ _ _ oI nB
 .intro i g g' c p e bm
  rcases iW i g _ e with⟨rfl,rfl,_⟩|⟨_,bN⟩
  .omega
  .exact h.mQ _ _ _ _ _ bN bm
 .intro i g p ja e bm
  rcases iW i g _ e with⟨rfl,_,_⟩|⟨_,bN⟩
  .rw[bk]at bm;cases bm;exact fg.JG h.hz
  .exact h.wf i g _ ja bN bm
 .grind
 grind
def aMO{K':ad}(ay:c8 aK ej dY dv cK μ ae w K)(k:c8 aK (mV G.length μ) ae w G cH cJ bc eH)(aq:cK.length<=G.length)(bk:∀id,id<eH.length->K'[id]?=eH[id]?)(y4:∀id,eH.length<=id->K'[id]?=K[id]?)(ax6:K'.length=K.length)(aYv:eH.length<=K.length)(mX:∀id g q,μ id g=some q->G.length<=id->eH.length<=id):
 c8 aK ej dY dv cK (fun id g=>if id<eH.length then cH id g else μ id g) cJ bc K':=by
 have h:=ay.ak;have aW0:=k.len
 have OU:∀id g p,cH id g=some p->(fun id g=>if id<eH.length then cH id g else μ id g) id g=some p:=fun id g p e=>by
  have:=k.ak.hz _ _ _ e
  simp_all
 have gD:∀id g p,μ id g=some p->(fun id g=>if id<eH.length then cH id g else μ id g) id g=some p:=fun id g p e=>by
  by_cases hi:id<G.length
  .exact OU _ _ _ (k.ext id g p (by rw[ss hi];exact e))
  grind
 have cs:∀id g p,(fun id g=>if id<eH.length then cH id g else μ id g) id g=some p->(id<eH.length/\cH id g=some p)\/(eH.length<=id/\μ id g=some p):=fun id g p e=>by
  grind
 have cS:∀B,B<w.heap.size->cJ B->ae B:=fun B aD hm=>(k.mt B aD).1 hm;have an:∀B,B<w.heap.size->¬ae B->bc.heap[B]?=w.heap[B]?:=fun B aD aJ=>k.c4.cD B aD fun id g b e=>aJ (h.gF _ _ _ _ (ic e).2).1
 have b2:∀id g B b,μ id g=some (B,b)->eH.length<=id->bc.heap[B]?=w.heap[B]?:=fun id g B b e hi=>k.c4.cD B (h.gF _ _ _ _ e).2 fun gw g' b' bN=>by
  obtain⟨J,aa⟩:=ic bN;have:=h.inj _ _ _ _ _ _ _ e aa;omega
 refine ay.go (by omega) ⟨?_,?_,?_,?_,?_,?_,k.ak.fix,?_⟩ gD k.mt ⟨k.c4.size,k.c4.shape,k.c4.loops,fun B aD aJ=>k.c4.cD B aD fun id g b e=>aJ _ _ _ (ic e).2,k.c4.back,k.c4.os,k.c4.tape,k.c4.output⟩ ?_ ?_
 .intro id g p e
  rcases cs id g p e with⟨hi,_⟩|⟨_,bN⟩
  .omega
  .rw[ax6];exact h.hz _ _ _ bN
 .intro id g B b e
  rcases cs id g _ e with⟨_,bN⟩|⟨_,bN⟩
  .exact k.ak.gF _ _ _ _ bN
  .obtain⟨J,aa⟩:=h.gF _ _ _ _ bN;exact⟨(k.mt B aa).2 J,mm aa k.c4.size⟩
 .intro id br g B b bm ab e
  rcases cs id g _ e with⟨hi,bN⟩|⟨hi,bN⟩
  .rw[bk id hi]at bm;obtain⟨o,aX,ak⟩:=k.ak.kY id br g B b bm ab bN;exact⟨o,aX,ak.mono OU (fun _ _ hm=>hm) (fun _ _ _=>rfl) (fun B arr e fr aD=>⟨arr,fr,aD,rfl⟩)⟩
  .rw[y4 id hi]at bm;obtain⟨o,aX,ak⟩:=h.kY id br g B b bm ab bN;exact⟨o,(b2 _ _ _ _ bN hi).trans aX,ak.mono gD cS an k.c4.shape⟩
 .intro id g gw g' B b b' aE aU
  rcases cs id g _ aE with⟨i1,oI⟩|⟨i1,oI⟩<;>rcases cs gw g' _ aU with⟨i2,nB⟩|⟨i2,nB⟩
  .exact k.ak.inj _ _ _ _ _ _ _ oI nB
  .obtain⟨uw,g0,e0,cX⟩:=k.hR id g B b oI (h.gF _ _ _ _ nB).2;obtain⟨J,aa⟩:=ic cX;have:=h.inj _ _ _ _ _ _ _ aa nB;omega
  .obtain⟨uw,g0,e0,cX⟩:=k.hR gw g' B b' nB (h.gF _ _ _ _ oI).2;obtain⟨J,aa⟩:=ic cX;have:=h.inj _ _ _ _ _ _ _ aa oI;omega
  .exact h.inj _ _ _ _ _ _ _ oI nB
 .intro id g g' c p e bm
  rcases cs id g _ e with⟨hi,bN⟩|⟨hi,bN⟩
  .rw[bk id hi]at bm;exact k.ak.mQ _ _ _ _ _ bN bm
  .rw[y4 id hi]at bm;exact h.mQ _ _ _ _ _ bN bm
 .intro id g p br e bm
  rcases cs id g _ e with⟨hi,bN⟩|⟨hi,bN⟩
  .rw[bk id hi]at bm;exact(k.ak.wf id g p br bN bm).mono (by omega)
  .rw[y4 id hi]at bm;rw[ax6];exact h.wf id g p br bN bm
 .intro id B b e
  rcases cs id 0 _ e with⟨_,bN⟩|⟨_,bN⟩
  .exact k.ak.zero _ _ _ bN
  .exact h.zero _ _ _ bN
 .intro id g B b e aD
  rcases cs id g _ e with⟨_,bN⟩|⟨_,bN⟩
  .obtain⟨uw,g0,e0,cX⟩:=k.hR id g B b bN aD;exact⟨_,_,_,(ic cX).2⟩
  grind
 .intro id g p e hi
  rcases cs id g _ e with⟨_,bN⟩|⟨_,bN⟩
  .obtain⟨g0,k7,cX⟩:=k.news id g p bN (by omega)
   exact⟨_,_,(ic cX).2⟩
  omega
def aBs(ay:c8 aK ej dY dv cK μ ae w K)(k:c8 aK (mV G.length μ) ae w G cH cJ bc eH)(mX:∀id g q,μ id g=some q->G.length<=id->eH.length<=id){v:V}{c:Value}(av:bS μ ae w v c):bS (fun id g=>if id<eH.length then cH id g else μ id g) cJ bc v c:=by
 have h:=ay.ak;have aW0:=k.len;refine av.mono (fun id g p e=>?_) (fun B aD hm=>(k.mt B aD).1 hm) (fun B aD aJ=>k.c4.cD B aD fun id g b e=>aJ (h.gF _ _ _ _ (ic e).2).1) k.c4.shape;by_cases hi:id<G.length
 .have aE:=k.ext id g p (by rw[ss hi];exact e)
  simp_all
 grind
def azu(h:cE aK μ ae w K){id:Nat}(aJ:μ id 0=none)(o:Obj){v:V}{c:Value}(av:bS μ ae w v c):bS (my μ id 0 (w.heap.size,0)) (fun B=>ae B\/B=w.heap.size) (w.alloc o) v c:=by
 have hh:(w.alloc o).heap=w.heap.push o:=rfl
 exact av.mono (Fc aJ) (fun B aD hm=>hm.resolve_right (by omega)) (fun B aD _=>lg hh aD) (fun B arr e fr aD=>⟨arr,fr,(lg hh (hZ aD)).trans aD,rfl⟩)
def aQy{v:V}{c:Value}(h:bS μ ae w v c){id:Nat}(aX:v.lI=some (some id)):∃g q,μ id g=some q:=by
 cases h<;>simp[V.lI]at aX
 .grind
 grind
def zA(G:Nat->ad):Nat->Nat->ad
 |0,j=>G j
 |d+1,j=>G j++(zA G d (j+1)).drop (G j).length
def aQW{G:Nat->ad}:∀(d j:Nat),(∀k,j<=k->k<j+d->(G k).length<=(G (k+1)).length)->(zA G d j).length=(G (j+d)).length/\(G j).length<=(G (j+d)).length:=by
 intro d
 induction d with
 |zero=>intro j _;exact⟨rfl,cq _⟩
 |succ d aF=>
   intro j h
   obtain⟨J,aa⟩:=aF (j+1) fun k vj zd=>h k (by omega) (by omega)
   have aI:=h j (cq _) (by omega)
   have e:j+(d+1)=j+1+d:=by omega
   rw[e]
   refine⟨?_,by omega⟩
   simp only[zA,c0,lm,J];omega
def RX{G:Nat->ad}(d j:Nat){id:Nat}(h:id<(G j).length):(zA G d j)[id]?=(G j)[id]?:=by
 cases d with
 |zero=>rfl
 |succ d=>exact bi h
def axx{G:Nat->ad}(d j:Nat){id:Nat}(h:(G j).length<=id):(zA G (d+1) j)[id]?=(zA G d (j+1))[id]?:=by
 show(G j++_)[id]?=_
 grind
def apI{G:Nat->ad}(d j:Nat)(aq:(G j).length<=(G (j+1)).length)(h:∀id,id<(G j).length->(G (j+1))[id]?=(G j)[id]?):zA G (d+1) j=zA G d (j+1):=by
 apply yb;intro id;by_cases hi:id<(G j).length
 .rw[RX _ _ hi,RX _ _ (by omega),h id hi]
 .exact axx d j (by omega)
end
def aQH(ops:List bx)(i j:Nat):Ad ops i j=Ad ops j i:=by
 unfold Ad;rw[aqI]
 grind
structure eY (P:Program) (pure':fA) (call:c5) (base:Nat) (ops:Array Oper) (l:List bx) (fr aW:List V) (H H':ad) (F:Nat->List V) (G:Nat->ad) (val:Nat->V):Prop where
 Lf:pP P pure' ops l
 ord:Hp (Region.before ops).toList l=true
 back:pr ops=true
 f0:F 0=fr
 g0:G 0=H
 ON:F l.length=aW
 Q2:G l.length=H'
 steps:∀k o,l[k]?=some o->tx call base o (F k) (G k) (val k) (F (k+1)) (G (k+1))
 floor:∀v args base H r H',call v args base H=some (r,H')->H.length<=H'.length/\∀id,id<base->id<H.length->H'[id]?=H[id]?
section
variable {aK:eX} {μ ej:cp} {ae dY:Nat->Prop} {w dv:World} {P:Program} [oS aK P] {pure':fA} {call:c5} {base:Nat}
variable {ops:Array Oper} {l:List bx} {fr aW:List V} {H H':ad} {F:Nat->List V} {G:Nat->ad} {val:Nat->V}
abbrev dL(l:List bx)(k:Nat):bx:=l.getD k default
def eY.ya(R:eY P pure' call base ops l fr aW H H' F G val):∀k,k<=l.length->(F k).length=fr.length/\∀s,s<fr.length->(F k).getD s .bu=lw (f' l) val (fr.getD s .bu) (fun _=>true) s k:=by
 intro k
 induction k with
 |zero=>intro _;rw[R.f0];exact⟨rfl,fun s _=>rfl⟩
 |succ k aF=>
   intro an
   obtain⟨J,aa⟩:=aF (by omega)
   have aq:l[k]?=some l[k]:=eP (by omega)
   have ai:=(R.steps k _ aq).1;rw[ai]
   refine⟨by rw[CR,J],fun s hV=>?_⟩
   rw[Hu _ _ _ _ (by omega),aa s hV]
   have aQ:f' l k=l[k].dst:=by rw[f',vv aq]
   simp only[lw,aQ,wG]
def eY.step(R:eY P pure' call base ops l fr aW H H' F G val){k:Nat}(an:k<l.length):tx call base (dL l k) (F k) (G k) (val k) (F (k+1)) (G (k+1)):=by
 have aq:l[k]?=some l[k]:=eP an;show tx call base (l.getD k default) _ _ _ _ _;rw[vv aq];exact R.steps k _ aq
def eY.parts(R:eY P pure' call base ops l fr aW H H' F G val):(∀k,k<l.length->Dp (dL l k)=true/\FM (dL l k).op=true)/\
 ∀i j,i<j->j<l.length->Ad l i j=false\/jm (Region.before ops).toList i j=true:=by
 have h:=R.ord;unfold Hp at h
 simp_all
def eY.sep(R:eY P pure' call base ops l fr aW H H' F G val){S:Nat->Bool}(aQ:nQ ops S){i k:Nat}(Yp:k≠i)(hi:i<l.length)(an:k<l.length)(fD:S i=false)(hj:∀j,jm (Region.before ops).toList j i=true->S j=true)(ab:Ad l k i=true):S k=true↔k<i:=by
 by_cases h:k<i
 .rcases R.parts.2 k i h hi with J|J
  .simp_all
  simp_all
 .have lz:i<k:=by omega
  rcases R.parts.2 i k lz an with J|J
  .rw[aQH,ab]at J;cases J
  .exact⟨fun ai=>(by have:=aQ k ai i J;simp_all),fun b8=>absurd b8 h⟩
theorem aFC{l:List bx}{i j:Nat}(h:sA (dL l i) (dL l j)=true):Ad l i j=true:=by
 have lz:sA (l.getD i default) (l.getD j default)=true:=h;unfold Ad;rw[lz];rfl
def eY.DT(R:eY P pure' call base ops l fr aW H H' F G val){S:Nat->Bool}(aQ:nQ ops S){i k:Nat}(hi:i<l.length)(an:k<l.length)(fD:S i=false)(hj:∀j,jm (Region.before ops).toList j i=true->S j=true){s:Nat}(ai:s∈(dL l i).names)(JE:f' l k=some s):S k=true↔k<i:=by
 by_cases sN:k=i
 .simp_all
 .exact R.sep aQ sN hi an fD hj (aFC (Q5 ai JE))
def eY.slot(R:eY P pure' call base ops l fr aW H H' F G val){S:Nat->Bool}(aQ:nQ ops S){i:Nat}(hi:i<l.length)(fD:S i=false)(hj:∀j,jm (Region.before ops).toList j i=true->S j=true){s:Nat}(ai:s∈(dL l i).reads):(h4 (f' l) val fr l.length S).getD s .bu=(F i).getD s .bu:=by
 obtain⟨dn,iR⟩:=R.ya i (by omega)
 rw[uP];split
 .rename_i b8;rw[iR s b8,B4 (i:=i) l.length fun k an JE=>R.DT aQ hi an fD hj (xa _ ai) JE]
  grind
 simp_all
def eY.after(R:eY P pure' call base ops l fr aW H H' F G val){S:Nat->Bool}(aQ:nQ ops S){i:Nat}(hi:i<l.length)(fD:S i=false)(hj:∀j,jm (Region.before ops).toList j i=true->S j=true):h4 (f' l) val fr l.length (ins S i)=put (f' l i) (val i) (h4 (f' l) val fr l.length S):=by
 refine BK (by rw[CR,pd,pd]) fun s ai=>?_
 rw[pd]at ai
 rw[Hu _ _ _ _ (by rw[pd];exact ai),uP,uP,bE ai,bE ai]
 split
 .rename_i k5;refine adf k5 _ hi fun k J aa aI=>?_;cases Xr:S k with
  |false=>rfl
  |true=>
    have:=(R.DT aQ hi aa fD hj (ajV k5) aI).1 Xr;omega
 .rename_i k5;exact Z4 k5 _
def eY.FV(R:eY P pure' call base ops l fr aW H H' F G val){k:Nat}(an:k<l.length):(G k).length<=(G (k+1)).length:=(R.step an).len R.floor
theorem eY.lens (R:eY P pure' call base ops l fr aW H H' F G val) {a b:Nat} (yF:a≤b) (ah:b≤l.length):(G a).length≤(G b).length:=by
 induction b with
 | zero=>simp_all
 | succ b aF=>
   by_cases h:a=b+1
   ·simp_all
   ·exact jn (aF (by omega) (by omega)) (R.FV (by omega))
def eY.PR(R:eY P pure' call base ops l fr aW H H' F G val){k:Nat}(an:k<l.length)(ai:(dL l k).op.im=false):∀id,id<(G k).length->(G (k+1))[id]?=(G k)[id]?:=by
 intro id hid
 rcases(R.step an).2 with⟨_,_,e⟩|⟨_,e⟩
 .rw[e]
 .cases ab:(dL l k).op.cls with
  |t=>rw[DM (Sy ab) e]
  |r=>rw[DM (WH ab) e]
  |a=>exact(Tb R.floor ab e).2 id hid
  |w=>
    exfalso;have vi:=(R.parts.1 k an).2;simp only[FM,ai,ab,oi,dR]at vi
    rcases vi with(((h|h)|h)|h)|h
    .cases h.1
    .cases h
    .cases dz:(dL l k).op<;>rw[dz]at h ab<;>simp[bY.A8]at h<;>simp[bY.cls]at ab
    .cases h
    .cases dz:(dL l k).op<;>rw[dz]at h ab<;>simp[bY.sl]at h<;>simp[bY.cls]at ab
def eY.A(_:eY P pure' call base ops l fr aW H H' F G val)(j:Nat):ad:=zA G (l.length-j) j
def eY.UK(R:eY P pure' call base ops l fr aW H H' F G val){j:Nat}(bz:j<=l.length):(R.A j).length=(G l.length).length:=by
 have:=(aQW (G:=G) (l.length-j) j fun k _ aa=>R.FV (by omega)).1
 rw[show j+(l.length-j)=l.length by omega]at this
 exact this
def eY.wM(R:eY P pure' call base ops l fr aW H H' F G val){j:Nat}{id:Nat}(h:id<(G j).length):(R.A j)[id]?=(G j)[id]?:=RX _ _ h
def eY.QM(R:eY P pure' call base ops l fr aW H H' F G val){j:Nat}(bz:j<l.length){id:Nat}(h:(G j).length<=id):(R.A j)[id]?=(R.A (j+1))[id]?:=by
 unfold eY.A
 rw[show l.length-j=(l.length-(j+1))+1 by omega]
 exact axx _ _ h
def eY.aEe(R:eY P pure' call base ops l fr aW H H' F G val){j:Nat}(bz:j<l.length)(ai:(dL l j).op.im=false):R.A j=R.A (j+1):=by
 unfold eY.A
 rw[show l.length-j=(l.length-(j+1))+1 by omega]
 exact apI _ _ (R.FV bz) (R.PR bz ai)
theorem eY.agF (R:eY P pure' call base ops l fr aW H H' F G val) {a b:Nat} (yF:a≤b) (ah:b≤l.length) (h:∀ k,a≤k→k < b→(dL l k).op.im=false):R.A a=R.A b:=by
 induction b with
 | zero=>simp_all
 | succ b aF=>
   by_cases ab:a=b+1
   ·subst ab;rfl
   ·rw [aF (by omega) (by omega) fun k J aa=>h k J (by omega),R.aEe (by omega) (h b (by omega) (by omega))]
theorem eY.aLh (R:eY P pure' call base ops l fr aW H H' F G val) {a b:Nat} (yF:a≤b) (ah:b≤l.length) {id:Nat} (hid:∀ k,a≤k→k < b→(G k).length≤id):(R.A a)[id]?=(R.A b)[id]?:=by
 induction b with
 | zero=>simp_all
 | succ b aF=>
   by_cases ab:a=b+1
   ·subst ab;rfl
   ·rw [aF (by omega) (by omega) fun k J aa=>hid k J (by omega),R.QM (by omega) (hid b (by omega) (by omega))]
def xQ(l:List bx)(S:Nat->Bool)(p:Nat):Prop:=∀k,k<l.length->(dL l k).op.im=true->(S k=true↔k<p)
def eY.On(R:eY P pure' call base ops l fr aW H H' F G val){S:Nat->Bool}{p i:Nat}(ay:p<=l.length)(hi:i<=l.length)(J:xQ l S p)(aa:xQ l S i):R.A p=R.A i:=by
 have no:∀k,k<l.length->(p<=k/\k<i\/i<=k/\k<p)->(dL l k).op.im=false:=by
  intro k an ah;cases ai:(dL l k).op.im with
  |false=>rfl
  |true=>
    exfalso;have a:=J k an ai;have b:=aa k an ai
    grind
 by_cases h:p<=i
 .exact R.agF h hi fun k aI bl=>no k (by omega) (.inl ⟨aI,bl⟩)
 .exact(R.agF (by omega) ay fun k aI bl=>no k (by omega) (.inr ⟨aI,bl⟩)).symm
def eY.Rn(R:eY P pure' call base ops l fr aW H H' F G val){S:Nat->Bool}(aQ:nQ ops S){i:Nat}(hi:i<l.length)(fD:S i=false)(hj:∀j,jm (Region.before ops).toList j i=true->S j=true)(an:(dL l i).op.im=true\/((dL l i).op.cls=.r/\AF l i=false)\/(dL l i).op.sl=true):xQ l S i:=by
 intro k tI ai;by_cases sN:k=i
 .simp_all
 .refine R.sep aQ sN hi tI fD hj ?_;have hV:(l.getD k default).op.im=true:=ai;have nf:(l.getD i default).op.im=true\/((l.getD i default).op.cls=.r/\AF l i=false)\/(l.getD i default).op.sl=true:=an;unfold Ad
  grind
def Old(l:List bx)(i:Nat):Prop:=∃n,Jq l n i=true
def Old.cls{i:Nat}(h:Old l i):((dL l i).op.cls=.t/\(dL l i).op.kP=false)\/(dL l i).op.cls=.r:=by
 obtain⟨n,h⟩:=h;cases n with
 |zero=>cases h
 |succ n=>
   simp only[Jq,dR,oi,lc,wY]at h;exact h.1
def Old.reads{i s k:Nat}(h:Old l i)(ai:s∈(dL l i).reads)(an:k<l.length)(aQ:f' l k=some s):k<i/\Old l k:=by
 obtain⟨n,h⟩:=h;cases n with
 |zero=>cases h
 |succ n=>
   simp only[Jq,dR,fp,OO,oi,mw,l8]at h
   rcases h.2 s ai k an with J|J
   .exact absurd aQ J
   .exact⟨J.1,n,J.2⟩
def aKy{i:Nat}(h:AF l i=true):Bj l=true/\Old l i:=by
 unfold AF at h;simp only[dR]at h;exact⟨h.1.2,_,h.2⟩
def aC1{op:bY}(aY:op.Sa=true){fr:List V}{K K':ad}{v:V}(h:bf call base fr K op=some (v,K')):v=.ref K.length 0 0:=by
 cases op<;>first|(simp[bY.Sa]at aY;done)|skip
 all_goals
  simp only[bf]at h
  simp_all
def eY.aCc(R:eY P pure' call base ops l fr aW H H' F G val)(aJ:Bj l=true){k:Nat}(an:k<l.length){n:Nat}{a x:b0}(aX:(dL l k).op=.store n a x){r:V × ad}(he:bf call base (F k) (G k) (.store n a x)=some r):
 ∃id,(aV (F k) a).lI=some (some id)/\H.length<=id:=by
 have J:=fp.1 aJ k (by simpa using an)
 unfold ab5 at J;have py:(l.getD k default).op=.store n a x:=aX;rw[py]at J;cases a with
 |c v=>cases J
 |t s=>
   simp only[dR,Kp,fp,OO,l8,lc,oi,mw]at J;obtain⟨⟨aFJ,S1,Kh,aFl⟩,hM⟩:=J
   obtain⟨aE,aU⟩:=R.ya k (by omega)
   have Vt:s<fr.length:=by
    refine Od fun ab=>?_;obtain⟨H3,aXm⟩:=r;obtain⟨id,hid,_⟩:=Pd he
    have J':(F k)[s]?=none:=FH (by rw[aE];omega)
    simp[aV,List.getD,J',V.lI]at hid
   have key:∀m,m<=k->(∃j,j<m/\f' l j=some s)->∃id,(lw (f' l) val (fr.getD s .bu) (fun _=>true) s m).lI=some (some id)/\H.length<=id:=by
    intro m
    induction m with
    |zero=>omega
    |succ m aF=>
      rintro hm ⟨j,bz,Fz⟩;simp only[lw,wG];split
      .rename_i pC
       rcases hM m (by omega)with h|⟨aI,bl⟩
       .exact absurd pC h
       .have ig:=R.step (show m<l.length by omega)
        rcases ig.2 with⟨hw,_,_⟩|⟨_,he⟩
        .have:(dL l m).guard=none:=by
          have:(l.getD m default).guard=none:=by simpa using bl
          exact this
         unfold want at hw
         simp_all
        .have:=aC1 aI he;rw[this];refine⟨_,rfl,?_⟩
         have bd:=R.lens (gY m) (by omega)
         rwa[R.g0]at bd
      .rename_i pC
       refine aF (by omega) ⟨j,?_,Fz⟩
       grind
   have:=key k (cq _) ⟨aFJ,Kh,aFl⟩;rw[<- aU s Vt]at this;exact this
def eY.UY(R:eY P pure' call base ops l fr aW H H' F G val)(aJ:Bj l=true):∀k,k<=l.length->∀id,id<H.length->(G k)[id]?=H[id]?:=by
 intro k
 induction k with
 |zero=>intro _ id _;rw[R.g0]
 |succ k aF=>
   intro an id hid
   rw[<- aF (by omega) id hid]
   have dn:=R.lens (gY k) (by omega)
   rw[R.g0]at dn;cases ai:(dL l k).op.im with
   |false=>exact R.PR (by omega) ai id (by omega)
   |true=>
     rcases(R.step (show k<l.length by omega)).2 with⟨_,_,e⟩|⟨_,e⟩
     .rw[e]
     .obtain⟨ek,bW,hH,dz⟩:∃n a x,(dL l k).op=.store n a x:=by
       cases aX:(dL l k).op<;>rw[aX]at ai<;>first|exact⟨_,_,_,rfl⟩|(simp[bY.im]at ai;done)
      rw[dz]at e
      obtain⟨Oy,bj,aT⟩:=R.aCc aJ (by omega) dz e
      obtain⟨ni,aE,_,cd⟩:=Pd e
      grind
def eY.Xz(R:eY P pure' call base ops l fr aW H H' F G val)(aJ:Bj l=true){p:Nat}(ay:p<=l.length){id:Nat}(hid:id<H.length):(R.A p)[id]?=H[id]?:=by
 have dn:=R.lens (gY p) ay;rw[R.g0]at dn
 rw[R.wM (by omega)]
 exact R.UY aJ p ay id hid
structure wB (R:eY P pure' call base ops l fr aW H H' F G val) (aK:eX) (ej:cp) (dY:Nat->Prop) (dv:World) (S:Nat->Bool) (p:Nat) (μ:cp) (ae:Nat->Prop) (w:World):Prop where
 ay:p<=l.length
 post:c8 aK ej dY dv H μ ae w (R.A p)
 st:xQ l S p
 cC:∀id g q,μ id g=some q->H.length<=id->∃k,k<l.length/\S k=true/\(G k).length<=id/\id<(G (k+1)).length
 b5:∀k,k<l.length->S k=true->∀n a v,(dL l k).op=.store n a v->want (dL l k) (F k)=some true->∀id,(aV (F k) a).lI=some (some id)->∃g q,μ id g=some q
 BI:∀m,m<l.length->S m=true->fi (G (m+1)).length (val m)
 XY:Bj l=true->∀m,m<l.length->S m=true->Old l m->fi H.length (val m)
 ww:∀id g q br,μ id g=some q->(R.A p)[id]?=some br->∀j,j<=l.length->(∀k,k<l.length->S k=true->(dL l k).op.im=true->k<j)->id<(G j).length->ob (G j).length br
def eY.aO0(R:eY P pure' call base ops l fr aW H H' F G val){S:Nat->Bool}(aQ:nQ ops S){i:Nat}(hi:i<l.length)(fD:S i=false)(hj:∀j,jm (Region.before ops).toList j i=true->S j=true)(bd:∀s,fi H.length (fr.getD s .bu))(av:∀m,m<l.length->S m=true->fi (G (m+1)).length (val m)):
 ∀s∈(dL l i).reads,fi (G i).length ((F i).getD s .bu):=by
 intro s ai
 obtain⟨J,aa⟩:=R.ya i (by omega)
 by_cases b8:s<fr.length
 .rw[aa s b8]
  have key:∀m,m<=i->fi (G i).length (lw (f' l) val (fr.getD s .bu) (fun _=>true) s m):=by
   intro m
   induction m with
   |zero=>
     intro _;refine(bd s).mono ?_
     have:=R.lens (gY i) (by omega)
     rwa[R.g0]at this
   |succ m aF=>
     intro hm;simp only[lw,wG];split
     .rename_i pC
      have:=(R.DT aQ hi (show m<l.length by omega) fD hj (xa _ ai) pC).2 (by omega)
      exact(av m (by omega) this).mono (R.lens (by omega) (by omega))
     grind
  simp_all
 .simp only[List.getD,FH (by omega:(F i).length<=s)]
  exact .bu
def eY.abu(R:eY P pure' call base ops l fr aW H H' F G val){S:Nat->Bool}(aQ:nQ ops S){i:Nat}(hi:i<l.length)(fD:S i=false)(hj:∀j,jm (Region.before ops).toList j i=true->S j=true)(bd:∀s,fi H.length (fr.getD s .bu))(av:∀m,m<l.length->S m=true->Old l m->fi H.length (val m))(aX:Old l i):
 ∀s∈(dL l i).reads,fi H.length ((F i).getD s .bu):=by
 intro s ai
 obtain⟨J,aa⟩:=R.ya i (by omega)
 by_cases b8:s<fr.length
 .rw[aa s b8]
  have key:∀m,m<=i->fi H.length (lw (f' l) val (fr.getD s .bu) (fun _=>true) s m):=by
   intro m
   induction m with
   |zero=>intro _;exact bd s
   |succ m aF=>
     intro hm;simp only[lw,wG];split
     .rename_i pC
      have:=(R.DT aQ hi (show m<l.length by omega) fD hj (xa _ ai) pC).2 (by omega)
      exact av m (by omega) this (aX.reads ai (by omega) pC).2
     grind
  simp_all
 grind
end
section
variable {aK:eX} {μ ej:cp} {ae dY:Nat->Prop} {w dv:World} {P:Program} [oS aK P] {pure':fA} {call:c5} {base:Nat}
variable {ops:Array Oper} {l:List bx} {fr aW:List V} {H H':ad} {F:Nat->List V} {G:Nat->ad} {val:Nat->V}
def V4{S:Nat->Bool}{p i:Nat}(h:xQ l S p)(ai:(dL l i).op.im=false):xQ l (ins S i) p:=by
 intro k an Jy
 have sN:k≠i:=fun e=>by simp_all
 have:ins S i k=S k:=by simp[ins,sN]
 rw[this];exact h k an Jy
def axA{S:Nat->Bool}{i:Nat}(h:xQ l S i):xQ l (ins S i) (i+1):=by
 intro k an Jy;have:=h k an Jy;by_cases sN:k=i
 .subst sN;simp[ins]
 .have e:ins S i k=S k:=by simp[ins,sN]
  grind
def eY.aJp(R:eY P pure' call base ops l fr aW H H' F G val){j:Nat}(bz:j<l.length)(ai:∀id,id<(G j).length->(G (j+1))[id]?=(G j)[id]?):R.A j=R.A (j+1):=by
 unfold eY.A
 rw[show l.length-j=(l.length-(j+1))+1 by omega]
 exact apI _ _ (R.FV bz) ai
def wB.push{R:eY P pure' call base ops l fr aW H H' F G val}{S:Nat->Bool}{p:Nat}(bL:wB R aK ej dY dv S p μ ae w){i:Nat}(hi:i<l.length)(fD:S i=false){hG:Nat}{cf:cp}{b9:Nat->Prop}{w':World}(WV:hG<=l.length)(aMJ:c8 aK ej dY dv H cf b9 w' (R.A hG))(aB5:xQ l (ins S i) hG)(ext:∀id g q,μ id g=some q->∃g q,cf id g=some q)(aJ8:∀id g q,cf id g=some q->H.length<=id->(∃g0 vf,μ id g0=some vf)\/((G i).length<=id/\id<(G (i+1)).length))(aYr:∀n a v,(dL l i).op=.store n a v->want (dL l i) (F i)=some true->∀id,(aV (F i) a).lI=some (some id)->∃g q,cf id g=some q)(aHD:fi (G (i+1)).length (val i))(aNT:Bj l=true->Old l i->fi H.length (val i))(aPY:∀id g q br,cf id g=some q->(R.A hG)[id]?=some br->∀j,j<=l.length->(∀k,k<l.length->ins S i k=true->(dL l k).op.im=true->k<j)->id<(G j).length->ob (G j).length br):
 wB R aK ej dY dv (ins S i) hG cf b9 w':=by
 have Lu:∀k,ins S i k=true->k=i\/S k=true:=fun k h=>by
  simp only[ins,oi,lc]at h
  grind
 have aXA:∀k,S k=true->ins S i k=true:=fun k h=>by simp[ins,h]
 refine⟨WV,aMJ,aB5,fun id g q e hid=>?_,fun k an fl n a v dz hw id hid=>?_,fun m hm fl=>?_,fun aJ m hm fl aX=>?_,aPY⟩
 .rcases aJ8 id g q e hid with⟨g0,vf,cX⟩|⟨J,aa⟩
  .obtain⟨k,k1,k2,eN,j5⟩:=bL.cC id g0 vf cX hid
   grind
  .exact⟨i,hi,by simp[ins],J,aa⟩
 .rcases Lu k fl with rfl|fl
  .simp_all
  .obtain⟨g,q,e⟩:=bL.b5 k an fl n a v dz hw id hid;exact ext id g q e
 .rcases Lu m fl with rfl|fl
  .exact aHD
  .exact bL.BI m hm fl
 .rcases Lu m fl with rfl|fl
  .exact aNT aJ aX
  .exact bL.XY aJ m hm fl aX
def wB.fresh{R:eY P pure' call base ops l fr aW H H' F G val}{S:Nat->Bool}{p:Nat}(bL:wB R aK ej dY dv S p μ ae w){i:Nat}(hi:i<l.length)(fD:S i=false):∀id g q,μ id g=some q->(G i).length<=id->(G (i+1)).length<=id:=by
 intro id g q e hid
 have bd:=R.lens (gY i) (by omega)
 rw[R.g0]at bd
 obtain⟨k,k1,k2,eN,j5⟩:=bL.cC id g q e (by omega)
 have sN:k≠i:=fun e=>by simp_all
 by_cases h:k<i
 .have:=R.lens (show k+1<=i by omega) (by omega);omega
 .have:=R.lens (show i+1<=k by omega) (by omega);omega
def ajg{f:List V}{o:bx}{m:Nat}{x:b0}(ak:o.op.cls=.r)(ay:Dp o=true)(af:o.op.place=some x)(h:∀s∈o.reads,fi m (f.getD s .bu)){id:Nat}(hid:(aV f x).lI=some (some id)):id<m:=by
 unfold Dp at ay;rw[ak,af]at ay;cases x with
 |c v=>cases v<;>first|(simp at ay;done)|(simp[aV,V.lI]at hid;done)
 |t s=>
   have Cn:s∈o.reads:=by
    refine qQ _ (PN.2 ⟨.t s,?_,by simp[b0.wL]⟩)
    cases dz:o.op<;>rw[dz]at af<;>simp[bY.place]at af<;>simp[bY.rF,af]
   exact(h s Cn).obj hid
def eY.QK(R:eY P pure' call base ops l fr aW H H' F G val)(ai:o3 P aK call){S:Nat->Bool}(aQ:nQ ops S){i p:Nat}(hi:i<l.length)(fD:S i=false)(hj:∀j,jm (Region.before ops).toList j i=true->S j=true)(bL:wB R aK ej dY dv S p μ ae w)(bd:∀s,fi H.length (fr.getD s .bu))(VF:∀id g q br,ej id g=some q->H[id]?=some br->ob H.length br){a:Act}(al:c7 μ ae w (h4 (f' l) val fr l.length S) a.tmps){o:Oper}(aX:ops[i]?=some o){ro:Option Nat}{n:Nat}{Q:Exit->Act->World->Prop}{next:Act->World->Prop}(rp:∀c bc cH cJ hG,wB R aK ej dY dv (ins S i) hG cH cJ bc->c7 cH cJ bc (h4 (f' l) val fr l.length (ins S i)) (a.put o.dst c).tmps->next (a.put o.dst c) bc):
 (if Region.wanted o (yielded ops a.tmps)=true then o.wpIn (ix ro) n P a w next Q else next (a.put o.dst Go.undef) w):=by
 have Cc:=R.step hi;have fz:∀s∈(dL l i).reads,(h4 (f' l) val fr l.length S).getD s .bu=(F i).getD s .bu:=fun s ai=>R.slot aQ hi fD hj ai;have aXR:=R.aO0 aQ hi fD hj bd bL.BI;have DI:=R.after aQ hi fD hj;have Ii:∀B,bf call base (h4 (f' l) val fr l.length S) B (dL l i).op=bf call base (F i) B (dL l i).op:=fun B=>M8 _ fun x af=>JO af fz
 have nt:∀B,bf call base (x6 (dL l i).reads (h4 (f' l) val fr l.length S)) B (dL l i).op=bf call base (F i) B (dL l i).op:=fun B=>by
  rw[<- Ii B];exact M8 _ fun x af=>JO af fun s ai=>ak0 ai
 have An:=axt (m:=(G i).length) (rd:=(dL l i).reads) al fun s ai=>by simp_all
 have JK:l[i]?=some (dL l i):=by show l[i]?=some (l.getD i default);rw[eP hi,vv (eP hi)]
 obtain⟨Ev,BF,EV⟩:=R.Lf.2 i o _ aX JK;have P':f' l i=o.dst:=Ev;have A3:=bL.post.ak
 have LY:=R.lens (gY i) (by omega)
 rw[R.g0]at LY;have vi:=(R.parts.1 i hi).2;have aXE:=R.FV hi;have aHT:=R.UK bL.ay
 have aYs:=R.lens (show i+1<=l.length by omega) (cq _)
 rcases Cc.2 with⟨hw,av,a8⟩|⟨hw,dz⟩
 .
  have IB:want (dL l i) (h4 (f' l) val fr l.length S)=some false:=by rw[KS fz];exact hw
  rw[uX EV al IB];simp only[pD,hp]
  have Nh:∀id,id<(G i).length->(G (i+1))[id]?=(G i)[id]?:=fun id _=>by rw[a8]
  have fin:∀hG,hG<=l.length->R.A hG=R.A p->xQ l (ins S i) hG->next (a.put o.dst Go.undef) w:=by
   intro hG WV gU ig
   refine rp _ w μ ae hG (bL.push hi fD WV (by rw[gU];exact bL.post) ig (fun id g q e=>⟨g,q,e⟩) (fun id g q e _=>.inl ⟨g,q,e⟩) (fun n a v _ zS=>by simp_all) (by rw[av];exact .s _) (fun _ _=>by rw[av];exact .s _) ?_) ?_
   .intro id g q br e fg j bz wb hid;rw[gU]at fg
    exact bL.ww id g q br e fg j bz (fun k an fl ai=>wb k an (by simp[ins,fl]) ai) hid
   .rw[DI,P',av];exact al.put _ (.s _)
  cases ig:(dL l i).op.im with
  |false=>exact fin p bL.ay rfl (V4 bL.st ig)
  |true=>
    have J:=R.Rn aQ hi fD hj (.inl ig)
    refine fin (i+1) (by omega) ?_ (axA J)
    rw[<- R.aJp hi Nh]
    exact(R.On bL.ay (by omega) bL.st J).symm
 .have IB:want (dL l i) (h4 (f' l) val fr l.length S)=some true:=by rw[KS fz];exact hw
  rw[uX EV al IB];simp only[eW];by_cases lR:(dL l i).op.im=true\/(dL l i).op.sl=true
  .
   have Gf:=R.Rn aQ hi fD hj (lR.imp id .inr)
   have aDZ:Old l i->(dL l i).op.im=true\/(dL l i).op.sl=true->False:=fun aX ab=>by
    rcases aX.cls with⟨h,_⟩|h<;>rcases ab with aa|aa<;>(cases wW:(dL l i).op<;>rw[wW]at h aa<;>simp[bY.cls,bY.im,bY.sl]at h aa)
   have HO:=R.On bL.ay (by omega) bL.st Gf
   have Ku:cE aK (mV (G i).length μ) ae w (G i):=Um A3 (fun id hid=>by rw[HO];exact R.wM hid) (fun id g q br e hid fg=>bL.ww id g q br e fg i (by omega) (fun k an fl ai=>(Gf k an ai).1 fl) hid)
   refine xi ai Ku An BF (by rw[nt];exact dz) ?_
   rintro r bc ⟨c,cH,cJ,e,l0,hX⟩;cases e;have mX:=bL.fresh hi fD;have bk:∀id,id<(G (i+1)).length->(R.A (i+1))[id]?=(G (i+1))[id]?:=fun id hid=>R.wM hid
   have y4:∀id,(G (i+1)).length<=id->(R.A (i+1))[id]?=(R.A p)[id]?:=fun id hid=>by rw[HO];exact(R.QM hi (by omega)).symm
   have pm:=aMO (K':=R.A (i+1)) bL.post hX LY bk y4 (by rw[R.UK (by omega),aHT]) (by omega) mX
   refine rp r bc _ cJ (i+1) (bL.push hi fD (by omega) pm (axA Gf) (fun id g q e=>⟨g,q,?_⟩) (fun id g q e hid=>?_) (fun ek bW gx wW zS id hid=>?_) (l0.q0 hX.ak.hz) (fun _ aX=>(aDZ aX lR).elim) ?_) ?_
   .by_cases hid:id<(G i).length
    .have aE:=hX.ext id g q (by rw[ss hid];exact e)
     simp_all
    grind
   .by_cases J:id<(G (i+1)).length
    .simp only[bE J]at e;by_cases aa:id<(G i).length
     .obtain⟨g0,k7,cX⟩:=hX.news id g q e aa;exact .inl ⟨g0,k7,(ic cX).2⟩
     omega
    grind
   .obtain⟨y,bC⟩:∃y,en y=some bW:=by
     have ig:(dL l i).op.im=true:=by rw[wW];rfl
     have J:t' P pure' o=some (dL l i).op:=by
      rcases BF with h|⟨f,xs,_,h⟩|⟨k,xs,_,h⟩|⟨_,_,_,_,_,h⟩|h
      .rcases xA h with⟨f,args,jS,xs,y,_,_,_,⟨k,_,e⟩|e⟩|⟨J,_,_⟩
       .simp_all
       .simp_all
       .exact J
      .simp_all
      .simp_all
      .simp_all
      .simp_all
     obtain⟨_,_,_,y,e,bC⟩:=aTe J ig
     grind
    have aj:aV (x6 (dL l i).reads (h4 (f' l) val fr l.length S)) bW=aV (F i) bW:=by
     cases bW with
     |c v=>rfl
     |t s=>
       have hm:s∈(dL l i).reads:=qQ _ (PN.2 ⟨.t s,by rw[wW];simp[bY.rF],by simp[b0.wL]⟩)
       show(x6 _ _).getD s .bu=(F i).getD s .bu;rw[ak0 hm];exact fz s hm
    have av:=ec An bC;rw[aj]at av;obtain⟨g,q,e⟩:=aQy av hid;have aE:=hX.ext _ _ _ e;refine⟨g,q,?_⟩;simp only[bE (hX.ak.hz _ _ _ aE)];exact aE
   .intro id g q br e fg j bz wb hid;by_cases J:id<(G (i+1)).length
    .simp only[bE J]at e;rw[bk id J]at fg;have Ng:=hX.ak.wf id g q br e fg;by_cases Vp:i<j
     .exact Ng.mono (R.lens (by omega) bz)
     .have th:(dL l i).op.im=false:=by
       cases dE:(dL l i).op.im with
       |false=>rfl
       |true=>have:=wb i hi (by simp[ins]) dE;omega
      have b8:id<(G i).length:=mm hid (R.lens (by omega) (by omega))
      rw[R.PR hi th id b8]at fg;obtain⟨g0,k7,cX⟩:=hX.news id g q e b8
      exact bL.ww id g0 k7 br (ic cX).2 (by rw[HO,R.wM b8];exact fg) j bz (fun k an fl ai=>wb k an (by simp[ins,fl]) ai) hid
    .simp only[bV J]at e
     rw[y4 id (by omega)]at fg
     exact bL.ww id g q br e fg j bz (fun k an fl ai=>wb k an (by simp[ins,fl]) ai) hid
   .rw[DI,P'];refine c7.put ⟨al.1,fun j x y af bC=>aBs bL.post hX mX (al.2 j x y af bC)⟩ _ ?_
    exact l0.mono (fun id g q e=>by simp only[bE (hX.ak.hz _ _ _ e)];exact e) (fun _ _ h=>h) (fun _ _ _=>rfl) (fun B arr e fr aD=>⟨arr,fr,aD,rfl⟩)
  .have th:(dL l i).op.im=false:=by cases h:(dL l i).op.im with|false=>rfl|true=>exact absurd (.inl h) lR
   have ht:(dL l i).op.sl=false:=by cases h:(dL l i).op.sl with|false=>rfl|true=>exact absurd (.inr h) lR
   have jx:(dL l i).op.kP=false:=by
    cases wW:(dL l i).op<;>rw[wW]at vi ht<;>first|rfl|(simp[FM,bY.cls,bY.kP,bY.A8,bY.im,bY.sl]at vi;done)|(simp[bY.sl]at ht;done)
   have pQ:t' P pure' o=some (dL l i).op:=by
    rcases BF with h|⟨f,xs,_,h⟩|⟨k,xs,_,h⟩|⟨_,_,_,_,_,h⟩|h
    .rcases xA h with⟨f,args,jS,xs,y,_,_,_,⟨k,_,e⟩|e⟩|⟨J,_,_⟩
     .rw[e]at jx;cases jx
     .rw[e]at jx;cases jx
     .exact J
    .rw[h]at jx;cases jx
    .rw[h]at jx;cases jx
    .rw[h]at ht;cases ht
    .rw[h]at dz;cases dz
   have lN:∀c,o.op≠.defer c:=by
    rcases BF with h|⟨f,xs,_,h⟩|⟨k,xs,_,h⟩|⟨_,_,_,_,_,h⟩|h
    .rcases xA h with⟨f,args,jS,xs,y,_,_,_,⟨k,_,e⟩|e⟩|⟨_,_,J⟩
     .rw[e]at jx;cases jx
     .rw[e]at jx;cases jx
     .exact J
    .rw[h]at jx;cases jx
    .rw[h]at jx;cases jx
    .rw[h]at ht;cases ht
    .rw[h]at dz;cases dz
   have aez:∀(cf:cp) ek bW gx,(dL l i).op=.store ek bW gx->want (dL l i) (F i)=some true->∀id,(aV (F i) bW).lI=some (some id)->∃g q,cf id g=some q:=fun cf ek bW gx e=>by
    rw[e]at th;cases th
   have aqd:∀id g q br,μ id g=some q->(R.A p)[id]?=some br->∀j,j<=l.length->(∀k,k<l.length->ins S i k=true->(dL l k).op.im=true->k<j)->id<(G j).length->ob (G j).length br:=
    fun id g q br e fg j bz wb hid=>bL.ww id g q br e fg j bz (fun k an fl ai=>wb k an (by simp[ins,fl]) ai) hid
   by_cases yR:(dL l i).op.A8=true
   .
    obtain⟨zp,br,alR,B6,Ed,aK4,bA,Xq,fv,fg,l0⟩:=aMK (aK:=aK) An pQ yR (by rw[nt];exact dz)
    have Qe:∀g,μ (G i).length g=none:=fun g=>by
     cases e:μ (G i).length g with
     |none=>rfl
     |some q=>
       have:=bL.fresh hi fD _ _ _ e (cq _);rw[B6,c0,jd]at this;omega
    have aOo:(G (i+1)).length=(G i).length+1:=by rw[B6];simp
    have ahN:(R.A (i+1))[(G i).length]?=some br:=by
     rw[R.wM (by omega),B6];simp
    have ax3:(R.A p)[(G i).length]?=some br:=by
     by_cases EF:p<=i
     .rw[R.aLh EF (by omega) (fun k _ aa=>R.lens (by omega) (by omega)),R.QM hi (cq _)]
      exact ahN
     .have key:∀q,i+1<=q->q<=p->(R.A q)[(G i).length]?=some br:=by
       intro q
       induction q with
       |zero=>intro h;omega
       |succ q aF=>
         intro J aa;by_cases aSn:q=i
         .subst aSn;exact ahN
         .have aI:=aF (by omega) (by omega)
          have aXX:=bL.ay
          have b8:(G i).length<(G q).length:=by have:=R.lens (show i+1<=q by omega) (by omega);omega
          have zE:(G i).length<(G (q+1)).length:=by have:=R.FV (show q<l.length by omega);omega
          rw[R.wM b8]at aI;rw[R.wM zE];cases wQ:(dL l q).op.im with
          |false=>rw[R.PR (by omega) wQ _ b8];exact aI
          |true=>
            rcases(R.step (show q<l.length by omega)).2 with⟨_,_,e⟩|⟨aU2,e⟩
            .rw[e];exact aI
            .obtain⟨ek,bW,hH,aml⟩:∃n a x,(dL l q).op=.store n a x:=by
              cases aC3:(dL l q).op<;>rw[aC3]at wQ<;>first|exact⟨_,_,_,rfl⟩|(simp[bY.im]at wQ;done)
             rw[aml]at e;obtain⟨aNB,aE,_,cd⟩:=Pd e
             have aPh:S q=true:=(bL.st q (by omega) wQ).2 (by omega)
             obtain⟨g,aW9,em⟩:=bL.b5 q (by omega) aPh _ _ _ aml aU2 aNB aE
             rw[cd _ (fun e=>by subst e;rw[Qe]at em;cases em)]
             exact aI
      exact key p (by omega) (cq _)
    have Kq:kz aK μ ae w br 0 Xq:=fg.mono aCv (fun _ _ h=>h) (fun _ _ _=>rfl) (fun B arr e fr aD=>⟨arr,fr,aD,rfl⟩);have aQc:ob (G i).length br:=fg.JG fun id g p e=>(ic e).1;have pat:=post_at bL.post Qe LY ax3 Xq Kq;refine⟨fun _ _=>trivial,?_⟩;rw[Oper.semAt_eq _ _ _ lN,fv]
    refine rp bA _ _ _ p (bL.push hi fD bL.ay pat (V4 bL.st th) (fun id g q e=>⟨g,q,Fc (Qe 0) _ _ _ e⟩) (fun id g q e hid=>?_) (aez _) (by rw[alR,aOo];exact aK4 _ _ (by omega)) (fun _ aX=>by rcases aX.cls with⟨h,_⟩|h<;>(cases wW:(dL l i).op<;>rw[wW]at h yR<;>simp[bY.cls,bY.A8]at h yR)) ?_) ?_
    .by_cases ab:id=(G i).length/\g=0
     .exact .inr ⟨by omega,by omega⟩
     .rw[x1 ab]at e;exact .inl ⟨g,q,e⟩
    .intro id g q ja e Kq j bz wb hid;by_cases ab:id=(G i).length/\g=0
     .obtain⟨rfl,rfl⟩:=ab;rw[ax3]at Kq;cases Kq;exact aQc.mono (Nat.le_of_lt hid)
     .rw[x1 ab]at e;exact aqd id g q ja e Kq j bz wb hid
    .rw[DI,P',alR];refine c7.put ⟨al.1,fun j x y af bC=>azu A3 (Qe 0) Xq (al.2 j x y af bC)⟩ _ ?_;exact l0 _ _ _ (n2 _ _ _ _)
   .
    have j9:(dL l i).op.cls=.t\/(dL l i).op.cls=.r:=by
     simp only[FM,th,ht,oi,dR,lc,wY]at vi
     rcases vi with(((h|h)|h)|h)|h
     .exact .inl h.1
     .exact .inr h
     .exact absurd h yR
     .cases h
     .cases h
    have Nh:G (i+1)=G i:=by
     rcases j9 with h|h
     .exact DM (Sy h) dz
     .exact DM (WH h) dz
    have ahp:Bj l=true->Old l i->fi H.length (val i):=fun aJ aX=>by
     have MV:=R.abu aQ hi fD hj bd (bL.XY aJ) aX
     have awB:=axt (m:=H.length) (rd:=(dL l i).reads) al fun s ai=>by rw[fz s ai];exact MV s ai
     have aXs:=nt
     rcases j9 with h|h
     .have CL:=abx (aK:=aK) A3 H.length
      obtain⟨bA,wd,WS,Rt,_,CP,D6⟩:=D2 (call:=call) (base:=base) (H':=AG H.length) (v:=val i) CL awB pQ jx (by rw[nt];exact(EO h dz).2 _)
      have:=CP.q0 D6.ak.hz
      simpa[AG]using this
     .obtain⟨_,x,af,ah,a8⟩:=BE h dz
      have Ku:cE aK (mV H.length μ) ae w H:=Um A3 (fun id hid=>R.Xz aJ bL.ay hid) (fun id g q br e hid fg=>by
       obtain⟨g0,vf,cX⟩:=bL.post.news id g q e hid;rw[R.Xz aJ bL.ay hid]at fg;exact VF id g0 vf br cX fg)
      have aHG:bf call base (F i) H (dL l i).op=some (val i,H):=a8 H fun id hid=>by
       have rW:id<H.length:=ajg (by assumption) (R.parts.1 i hi).1 af (fun s ai=>MV s ai) hid
       rw[R.UY aJ i (by omega) id rW]
      obtain⟨bA,wd,WS,Rt,_,CP,D6⟩:=D2 (call:=call) (base:=base) (H':=H) (v:=val i) Ku awB pQ jx (by rw[nt];exact aHG)
      exact CP.q0 D6.ak.hz
    have both:(∀K,R.A p=K->bf call base (F i) K (dL l i).op=some (val i,K))/\fi (G i).length (val i):=by
     by_cases uv:AF l i=true
     .obtain⟨aJ,aX⟩:=aKy uv
      have ak:(dL l i).op.cls=.r:=by
       unfold AF at uv;simp only[dR,lc]at uv;exact uv.1.1
      have MV:=R.abu aQ hi fD hj bd (bL.XY aJ) aX;obtain⟨_,x,af,ah,a8⟩:=BE ak dz;refine⟨fun K bk=>a8 K fun id hid=>?_,(ahp aJ aX).mono LY⟩
      have rW:id<H.length:=ajg (by assumption) (R.parts.1 i hi).1 af (fun s ai=>MV s ai) hid
      rw[<- bk,R.Xz aJ bL.ay rW,R.UY aJ i (by omega) id rW]
     rcases j9 with h|h
     .refine⟨fun K _=>(EO h dz).2 K,?_⟩;have CL:=abx (aK:=aK) A3 (G i).length
      obtain⟨bA,wd,WS,Rt,_,CP,D6⟩:=D2 (call:=call) (base:=base) (H':=AG (G i).length) (v:=val i) CL An pQ jx (by rw[nt];exact(EO h dz).2 _)
      have:=CP.q0 D6.ak.hz
      simpa[AG]using this
     .have Gf:=R.Rn aQ hi fD hj (.inr (.inl ⟨h,by simpa using uv⟩))
      have HO:=R.On bL.ay (by omega) bL.st Gf
      obtain⟨_,x,af,ah,a8⟩:=BE h dz
      refine⟨fun K bk=>a8 K fun id hid=>by rw[<- bk,HO,R.wM (ah id hid)],?_⟩
      have Ku:cE aK (mV (G i).length μ) ae w (G i):=Um A3 (fun id hid=>by rw[HO];exact R.wM hid) (fun id g q br e hid fg=>bL.ww id g q br e fg i (by omega) (fun k an fl ai=>(Gf k an ai).1 fl) hid)
      have aw7:=dz;rw[Nh]at aw7
      obtain⟨bA,wd,WS,Rt,_,CP,D6⟩:=D2 (call:=call) (base:=base) (H':=G i) (v:=val i) Ku An pQ jx (by rw[nt];exact aw7)
      exact CP.q0 D6.ak.hz
    refine xi ai A3 al BF (by rw[Ii];exact both.1 _ rfl) ?_
    rintro r bc ⟨c,cH,cJ,e,l0,hX⟩;cases e;have r0:∀id g q,cH id g=some q->∃g0 vf,μ id g0=some vf:=fun id g q e=>hX.news id g q e (hX.ak.hz _ _ _ e)
    refine rp r bc cH cJ p (bL.push hi fD bL.ay (bL.post.trans hX) (V4 bL.st th) (fun id g q e=>⟨g,q,hX.ext _ _ _ e⟩) (fun id g q e _=>.inl (r0 id g q e)) (aez _) (by rw[Nh];exact both.2) ahp ?_) ?_
    .intro id g q br e fg j bz wb hid;obtain⟨g0,vf,cX⟩:=r0 id g q e;exact aqd id g0 vf br cX fg j bz wb hid
    .rw[DI,P'];exact(al.post A3 hX).put _ l0
end
section
variable {aK:eX} {ej:cp} {dY:Nat->Prop} {dv:World} {P:Program} [oS aK P] {pure':fA} {call:c5} {base:Nat}
variable {ops:Array Oper} {l:List bx} {fr aW:List V} {H H':ad} {F:Nat->List V} {G:Nat->ad} {val:Nat->V}
def aKJ(R:eY P pure' call base ops l fr aW H H' F G val)(ai:o3 P aK call){ro:Option Nat}{n:Nat}{Q:Exit->Act->World->Prop}{de:List Deferred}(bd:∀s,fi H.length (fr.getD s .bu))(VF:∀id g q br,ej id g=some q->H[id]?=some br->ob H.length br):
 ∀(fuel:Nat) (cY:Array Bool) (a:Act) (w:World) (μ:cp) (ae:Nat->Prop) (p:Nat),cY.size=l.length->qK cY l.length<=fuel->nQ ops (fun k=>cY.getD k false)->
   wB R aK ej dY dv (fun k=>cY.getD k false) p μ ae w->c7 μ ae w (h4 (f' l) val fr l.length fun k=>cY.getD k false) a.tmps->a.defers=de->
   (∀bW w',pb aK ej dY dv H de aW H' bW w'->Q .normal bW w')->wpAnyIn (ix ro) n P .any ops Q fuel cY a w:=by
 have eo:l.length=ops.size:=R.Lf.1;have done:∀(cY:Array Bool) (a:Act) (w:World) (μ:cp) (ae:Nat->Prop) (p:Nat),(∀k,k<l.length->cY.getD k false=true)->wB R aK ej dY dv (fun k=>cY.getD k false) p μ ae w->
  c7 μ ae w (h4 (f' l) val fr l.length fun k=>cY.getD k false) a.tmps->a.defers=de->pb aK ej dY dv H de aW H' a w:=by
  intro cY a w μ ae p hM bL al ph
  have yl:R.A p=G l.length:=by
   rw[R.On bL.ay (cq _) bL.st (fun k an _=>⟨fun _=>an,fun _=>hM k an⟩)];unfold eY.A;rw[w3];rfl
  have iR:(h4 (f' l) val fr l.length fun k=>cY.getD k false)=F l.length:=by
   obtain⟨J,aa⟩:=R.ya l.length (cq _)
   refine BK (by rw[pd,J]) fun s ai=>?_
   rw[pd]at ai;rw[uP,bE ai,aa s ai,B4 (i:=l.length) l.length fun k an _=>?_,TZ];simp[hM k an,an]
  rw[iR,R.ON]at al;have h0:=bL.post;rw[yl,R.Q2]at h0;exact⟨μ,ae,h0,al,ph⟩
 have Mm:∀cY:Array Bool,cY.size=l.length->Region.ready .any ops cY=[]->∀k,k<l.length->cY.getD k false=true:=by
  intro cY dk ak k
  induction k using Nat.strongRecOn with
  |ind k aF=>
    intro an;cases aq:cY.getD k false with
    |true=>rfl
    |false=>
      exfalso
      have aX:ops[k]?=some ops[k]:=mO (by omega)
      have iv:k∈Region.ready .any ops cY:=by
       refine mem_ready.2 ⟨?_,_,aX,fun e he ah=>?_⟩
       .have:k<cY.size:=by omega
        simp[this]at aq |-;exact aq
       .have aD:=R.back;unfold pr at aD;rw[fp]at aD
        have aD:=aD k (by simp;omega)
        rw[aX]at aD;simp only[Yn,oi,wY,l8]at aD
        rcases aD e he with h|h
        .rw[ah]at h;cases h
        .exact aF e.on h (by omega)
      rw[ak]at iv;cases iv
 intro fuel
 induction fuel with
 |zero=>
   intro cY a w μ ae p dk y2 aQ bL al ph a6
   have hM:∀k,k<l.length->cY.getD k false=true:=by
    intro k an
    have bd:qK cY l.length=0:=by omega
    unfold qK at bd;rw[aca]at bd
    have:=bd k (by simpa using an)
    simpa using this
   refine⟨?_,a6 a w (done cY a w μ ae p hM bL al ph)⟩;cases ak:Region.ready .any ops cY with
   |nil=>rfl
   |cons j aIj=>
     exfalso
     obtain⟨J,o,aX,_⟩:=mem_ready.1 (show j∈Region.ready .any ops cY by rw[ak];exact hJ)
     have bz:j<l.length:=by have:=(tA.1 aX).1;omega
     have aa:=hM j bz
     have:j<cY.size:=by omega
     simp[this]at J aa;rw[J]at aa;cases aa
 |succ fuel aF=>
   intro cY a w μ ae p dk y2 aQ bL al ph a6;refine⟨fun ak=>a6 a w (done cY a w μ ae p (Mm cY dk ak) bL al ph),fun i Ux=>?_⟩;obtain⟨J,o,aX,hM⟩:=mem_ready.1 Ux
   have hi:i<l.length:=by have:=(tA.1 aX).1;omega
   have Ls:i<cY.size:=by omega
   have fD:cY.getD i false=false:=by simp[Ls]at J |-;exact J
   have hj:∀j,jm (Region.before ops).toList j i=true->cY.getD j false=true:=fun j bz=>S9 aQ aX hM bz
   have kv:(fun k=>(cY.setIfInBounds i true).getD k false)=ins (fun k=>cY.getD k false) i:=by
    funext k
    by_cases an:k=i
    .subst an;simp[ins,Ls]
    .rw[getD_set_ne false (iV an)];simp[ins,an]
   have Tr:qK (cY.setIfInBounds i true) l.length<=fuel:=by
    have:qK (cY.setIfInBounds i true) l.length<qK cY l.length:=by
     refine aa2 (fun k _ an=>?_) ⟨i,by simpa using hi,by simp[fD],?_⟩
     .have:=Eb kv k;simp only[wY]at an |-;rw[this]at an;simp only[ins,nS]at an;exact an.1
     .have:=Eb kv i;simp only[this,ins];simp
    omega
   unfold wpOpIn;simp only[aX]
   have next:∀(c:Value) (bc:World) (cH:cp) (cJ:Nat->Prop) (hG:Nat),wB R aK ej dY dv (ins (fun k=>cY.getD k false) i) hG cH cJ bc->c7 cH cJ bc (h4 (f' l) val fr l.length (ins (fun k=>cY.getD k false) i)) (a.put o.dst c).tmps->
    wpAnyIn (ix ro) n P .any ops Q fuel (cY.setIfInBounds i true) (a.put o.dst c) bc:=by
    intro c bc cH cJ hG aF4 f1
    refine aF _ _ _ cH cJ hG (by simpa using dk) Tr (by rw[kv];exact alB aQ aX hM) (by rw[kv];exact aF4) (by rw[kv];exact f1) (by rw[put_defers];exact ph) a6
   have:=R.QK ai aQ hi fD hj bL bd VF al aX (ro:=ro) (n:=n) (Q:=Q) (next:=fun bW w'=>wpAnyIn (ix ro) n P .any ops Q fuel (cY.setIfInBounds i true) bW w') next
   cases hw:Region.wanted o (yielded ops a.tmps)with
   |true=>
     rw[hw]at this
     simpa using this
   |false=>
     rw[hw]at this;simp only[pD,hp]at this |-;exact⟨fun _ _=>trivial,this⟩
end
def aJ7{F:Fence}{n:Nat}{P:Program}{c2:List Nat}{o:Oper}{a:Act}{w:World}{K:Act->World->Prop}{Q:Exit->Act->World->Prop}(h:(B7 c2 o).wpIn F n P a w K Q):o.wpIn F n P a w K Q:=h
section
variable {ops:Array Oper} {c2:List Nat}
structure T6 (c2:List Nat) (ops:Array Oper):Prop where
 len:c2.length=ops.size
 lt:∀i∈c2,i<ops.size
 all:∀i,i<ops.size->i∈c2
 TC:c2.Nodup
 on:∀o∈ops.toList,∀e∈o.after,e.on<ops.size
 aD6:∀o∈ops.toList,∀p,o.guard=some p->p.1<ops.size
def amo(h:EZ c2 ops=true):T6 c2 ops:=by
 unfold EZ at h;simp only[dR,lc,fp,l8,OO,List.contains_eq_mem,Yn]at h;obtain⟨⟨⟨⟨J,aa⟩,aI⟩,bl⟩,cO⟩:=h;refine⟨J,aa,aI,bl,fun o aX=>(cO o aX).1,fun o aX p ay=>?_⟩
 grind
def NK{c2:List Nat}{i:Nat}(h:i∈c2):sc c2 i<c2.length:=by
 unfold sc
 simp_all
def JZ{c2:List Nat}{i:Nat}(h:i∈c2):c2[sc c2 i]?=some i:=by
 have aq:=NK h;rw[eP aq];unfold sc at aq |-
 grind
def Th{c2:List Nat}(aJ:c2.Nodup){j i:Nat}(h:c2[j]?=some i):sc c2 i=j:=by
 have hm:i∈c2:=ib h;have J:=JZ hm;have bz:=(dQ.1 h).1;have ay:=NK hm;rw[eP bz]at h;rw[eP ay]at J;exact(List.getElem_inj aJ).1 ((kI J).trans (kI h).symm)
def UH:(lS c2 ops).size=c2.length:=by simp[lS]
def KO{j i:Nat}(h:c2[j]?=some i){o:Oper}(aX:ops[i]?=some o):(lS c2 ops)[j]?=some (B7 c2 o):=by
 unfold lS
 simp_all
def NV(c2:List Nat)(a b:Array Bool):Prop:=∀(j i:Nat),c2[j]?=some i->a.getD i false=b.getD j false
def aBp(ay:T6 c2 ops){F:Fence}{n:Nat}{P:Program}{Q:Exit->Act->World->Prop}:∀(fuel:Nat) (mn gP:Array Bool) (a:Act) (w:World),mn.size=ops.size->gP.size=ops.size->NV c2 mn gP->
 wpAnyIn F n P .any (lS c2 ops) Q fuel gP a w->wpAnyIn F n P .any ops Q fuel mn a w:=by
 have auH:∀(mn gP:Array Bool),mn.size=ops.size->gP.size=ops.size->NV c2 mn gP->∀i,i∈Region.ready .any ops mn->sc c2 i∈Region.ready .any (lS c2 ops) gP/\c2[sc c2 i]?=some i/\∃o,ops[i]?=some o:=by
  intro mn gP CI r7 aY i hi;obtain⟨J,o,aX,aa⟩:=mem_ready.1 hi;have pE:i<ops.size:=(tA.1 aX).1;have a8:=JZ (ay.all i pE);have b8:=NK (ay.all i pE);have dn:=ay.len;refine⟨mem_ready.2 ⟨?_,_,KO a8 aX,fun e he ah=>?_⟩,a8,o,aX⟩
  .have aI:=aY _ _ a8
   simp_all
  .simp only[B7,Array.mem_map]at he;obtain⟨cX,HA,rfl⟩:=he
   have J7:o∈ops.toList:=by
    rw[Xb];exact OZ aX
   have RC:=ay.on o J7 cX HA;rw[<- aY _ _ (JZ (ay.all _ RC))];exact aa cX HA ah
 have aGN:∀(mn gP:Array Bool),mn.size=ops.size->gP.size=ops.size->NV c2 mn gP->Region.ready .any ops mn=[]->Region.ready .any (lS c2 ops) gP=[]:=by
  intro mn gP CI r7 aY he;rw[List.eq_nil_iff_forall_not_mem];intro j bz;obtain⟨J,o',py,aa⟩:=mem_ready.1 bz
  have sZ:j<c2.length:=by rw[<- UH (ops:=ops)];exact(tA.1 py).1
  have a8:c2[j]?=some c2[j]:=eP sZ;have pE:c2[j]<ops.size:=ay.lt _ (rU sZ);have aX:ops[c2[j]]?=some ops[c2[j]]:=mO pE;have dn:=ay.len;have e:=KO a8 aX;rw[py]at e;have e:=kI e;subst e
  have:c2[j]∈Region.ready .any ops mn:=by
   refine mem_ready.2 ⟨?_,_,aX,fun cX HA ah=>?_⟩
   .have aI:=aY _ _ a8
    grind
   .have J7:ops[c2[j]]∈ops.toList:=by
     rw[Xb];exact OZ aX
    have RC:=ay.on _ J7 cX HA
    have:=aa { cX with on:=sc c2 cX.on } (by simp only[B7,Array.mem_map];grind) ah
    rw[<- aY _ _ (JZ (ay.all _ RC))]at this;exact this
  rw[he]at this;cases this
 intro fuel
 induction fuel with
 |zero=>
   intro mn gP a w CI r7 aY h;refine⟨?_,h.2⟩;cases ak:Region.ready .any ops mn with
   |nil=>rfl
   |cons i l=>
     obtain⟨J,_⟩:=auH mn gP CI r7 aY i (by simp_all)
     rw[h.1]at J;cases J
 |succ fuel aF=>
   intro mn gP a w CI r7 aY h;refine⟨fun ak=>h.1 (aGN mn gP CI r7 aY ak),fun i hi=>?_⟩;obtain⟨J,a8,o,aX⟩:=auH mn gP CI r7 aY i hi;have pE:i<ops.size:=(tA.1 aX).1;have b8:=NK (ay.all i pE);have dn:=ay.len;have aa:=h.2 _ J
   have aTx:NV c2 (mn.setIfInBounds i true) (gP.setIfInBounds (sc c2 i) true):=by
    intro j k Kh;by_cases an:k=i
    .subst an;rw[Th ay.TC Kh]
     have bz:j<gP.size:=by have:=(dQ.1 Kh).1;omega
     simp_all
    .have bz:j≠sc c2 i:=fun e=>by simp_all
     rw[getD_set_ne false (iV an),getD_set_ne false (iV bz)];exact aY j k Kh
   have cont:∀a w,wpAnyIn F n P .any (lS c2 ops) Q fuel (gP.setIfInBounds (sc c2 i) true) a w->wpAnyIn F n P .any ops Q fuel (mn.setIfInBounds i true) a w:=fun a w hh=>aF _ _ a w (by simpa using CI) (by simpa using r7) aTx hh
   unfold wpOpIn at aa |-;simp only[KO a8 aX]at aa;simp only[aX]
   have hw:Region.wanted (B7 c2 o) (yielded (lS c2 ops) a.tmps)=Region.wanted o (yielded ops a.tmps):=by
    unfold Region.wanted B7;cases KY:o.guard with
    |none=>rfl
    |some p=>
      simp only[o7]
      have J7:o∈ops.toList:=by
       rw[Xb];exact OZ aX
      have gp:=ay.aD6 o J7 p KY;have ac5:ops[p.1]?=some ops[p.1]:=mO gp
      have:yielded (lS c2 ops) a.tmps (sc c2 p.1)=yielded ops a.tmps p.1:=by
       unfold yielded;rw[KO (JZ (ay.all _ gp)) ac5,ac5];rfl
      rw[this]
   rw[hw]at aa;split
   .rename_i RI;rw[bE RI]at aa;exact Oper.wpIn_mono cont (aJ7 aa)
   .rename_i RI;rw[bV RI]at aa;exact⟨aa.1,cont _ _ aa.2⟩
def KQ(ay:EZ c2 ops=true){F:Fence}{n:Nat}{P:Program}{Q:Exit->Act->World->Prop}{a:Act}{w:World}(h:wpAnyIn F n P .any (lS c2 ops) Q (lS c2 ops).size (Array.replicate (lS c2 ops).size false) a w):
 wpAnyIn F n P .any ops Q ops.size (Array.replicate ops.size false) a w:=by
 have an:=amo ay;have ai:(lS c2 ops).size=ops.size:=UH.trans an.len;rw[ai]at h
 refine aBp an _ _ _ a w (by simp) (by simp) (fun j i Vp=>?_) h
 have bz:j<ops.size:=by have:=(dQ.1 Vp).1;rw[an.len]at this;exact this
 have hi:i<ops.size:=an.lt _ (ib Vp)
 simp_all
end
section
variable {call:c5} {base:Nat}
def jC(base:Nat)(H H':ad):Prop:=H.length<=H'.length/\∀id,id<base->id<H.length->H'[id]?=H[id]?
def jC.refl(base:Nat)(H:ad):jC base H H:=⟨cq _,fun _ _ _=>rfl⟩
def jC.trans{A B C:ad}(h:jC base A B)(k:jC base B C):jC base A C:=
 ⟨jn h.1 k.1,fun id J aa=>(k.2 id J (mm aa h.1)).trans (h.2 id J aa)⟩
def M4{m:Nat}{fr:List V}{H:ad}(hm:m<=H.length):m<=(trim m fr H).length/\∀id,id<m->(trim m fr H)[id]?=H[id]?:=by
 unfold trim
 grind
def SD(e2:∀v args base H r H',call v args base H=some (r,H')->H.length<=H'.length/\∀id,id<base->id<H.length->H'[id]?=H[id]?):∀(l:List bx) {fr aW:List V} {H H':ad},cI call base l fr H=some (aW,H')->jC base H H':=by
 intro l
 induction l with
 |nil=>intro fr aW H H' h;cases h;exact .refl _ _
 |cons o l aF=>
   intro fr aW H H' h;simp only[cI]at h;split at h
   .cases h
   .exact aF h
   .split at h
    .rename_i v H1 dz;exact jC.trans (aq9 e2 dz) (aF h)
    .cases h
def aQQ{b:List V->ad->Option cy}(ah:∀fr H e aW H',b fr H=some (e,aW,H')->jC base H H')(kill:List Nat)(m:Nat):∀(k:Nat) {fr:List V} {H:ad} {e:nE} {aW:List V} {H':ad},m<=H.length->
 gd b kill m k fr H=some (e,aW,H')->m<=H'.length/\∀id,id<base->id<m->H'[id]?=H[id]?:=by
 intro k
 induction k with
 |zero=>intro fr H e aW H' _ h;simp[gd]at h
 |succ k aF=>
   intro fr H e aW H' hm h;simp only[gd]at h;split at h
   .rename_i cw H1 J;have f:=ah _ _ _ _ _ J;obtain⟨t1,t2⟩:=M4 (fr:=ul kill cw) (jn hm f.1);obtain⟨bP,ca⟩:=aF t1 h;exact⟨bP,fun id J aa=>(ca id J aa).trans ((t2 id aa).trans (f.2 id J (mm aa hm)))⟩
   .rename_i aE cw H1 _ J;cases h;have f:=ah _ _ _ _ _ J;obtain⟨t1,t2⟩:=M4 (fr:=ul kill cw) (jn hm f.1);exact⟨t1,fun id J aa=>(t2 id aa).trans (f.2 id J (mm aa hm))⟩
   .cases h
def uA(e2:∀v args base H r H',call v args base H=some (r,H')->H.length<=H'.length/\∀id,id<base->id<H.length->H'[id]?=H[id]?)(fS:Nat)(c:bZ):∀{fr:List V} {H:ad} {e:nE} {aW:List V} {H':ad},aL call (fun b k m=>gd b k m fS) base c fr H=some (e,aW,H')->jC base H H':=by
 induction c with
 |skip=>intro fr H e aW H' h;simp only[aL]at h;cases h;exact .refl _ _
 |region ops ct kill=>
   intro fr H e aW H' h;simp only[aL]at h;split at h
   .rename_i cw H1 J;split at h
    .cases h;exact SD e2 ops J
    .cases h
   .cases h
 |bh ops kill j7=>
   intro fr H e aW H' h;simp only[aL]at h;split at h
   .cases h;exact .refl _ _
   .cases h
 |seq a b iU kb=>
   intro fr H e aW H' h;simp only[aL]at h;split at h
   .rename_i cw H1 J;exact(iU J).trans (kb h)
   .exact iU h
 |cond c a b iU kb=>
   intro fr H e aW H' h;simp only[aL]at h
   grind
 |block id c aF=>
   intro fr H e aW H' h;simp only[aL]at h
   grind
 |loop kill c aF=>
   intro fr H e aW H' h;simp only[aL]at h;obtain⟨J,aa⟩:=aQQ (fun fr H e aW H' h=>aF h) kill H.length fS (cq _) h;exact⟨J,fun id a b=>aa id a b⟩
 |rangeFunc f ps a b _ _=>
   intro fr H e aW H' h
   have fin:∀(bH:ad) (v:V) (x:V),call x [.ff H.length] base (H++[.loop .ready none fr ps a b])=some (v,bH)->jC base H (trim H.length fr (bH.set H.length .dead)):=by
    intro bH v x ab;obtain⟨f1,f2⟩:=e2 _ _ _ _ _ _ ab;simp only[c0,c3,eh]at f1 f2
    obtain⟨t1,t2⟩:=M4 (m:=H.length) (fr:=fr) (H:=bH.set H.length .dead) (by simp;omega)
    refine⟨t1,fun id J aa=>(t2 id aa).trans ?_⟩
    grind
   simp only[aL]at h
   grind
 |exit id=>intro fr H e aW H' h;simp only[aL]at h;cases h;exact .refl _ _
 |ret=>intro fr H e aW H' h;simp only[aL]at h;cases h;exact .refl _ _
end
section
variable {μ cf:cp} {ae b9:Nat->Prop} {w w':World} {H H':ad} {P:Program} {pure':fA} {call:c5}
def o6.alf{aK:eX}{de:List Deferred}{aW:List V}{bW:Act}(kill:List Nat)(h:pb aK μ ae w H de aW H' bW w'):o6 aK μ ae w H de (ul kill aW) H' bW w':=by
 obtain⟨cf,b9,J,aa,aI⟩:=h
 exact⟨cf,b9,J,aa.kill kill,by rw[aI];exact Marks.refl _ _ _ _⟩
def o6.refl{aK:eX}(h:cE aK μ ae w H){a:Act}{fr:List V}(al:c7 μ ae w fr a.tmps):o6 aK μ ae w H a.defers fr H a w:=⟨μ,ae,c8.refl h,al,Marks.refl _ _ _ _⟩
def aND(h:cE (eU P pure') μ ae w H){a:Act}{fr:List V}(al:c7 μ ae w fr a.tmps){ro:Option Nat}(eR:∀l,ro=some l->∃r,w.heap[l]?=some (.loop r))(fn:FuncId)(ps:Array Tmp){x y:Code}{oE r4:bZ}(af:hD P pure' x oE)(bC:hD P pure' y r4):
 ∃l mark bc cH cJ,(Instr.enterLoop fn a.tmps ps x y ro).run P w=.ok (l,mark) bc/\c8 (eU P pure') μ ae w H cH cJ bc (H++[.loop .ready none fr ps.toList oE r4])/\cH H.length 0=some (l,0)/\Marks w.heap.size cH bc (mark++a.defers) a.defers:=by
 have mk:∀{bc:World} {cJ:Nat->Prop} (D:Nat),cE (eU P pure') μ cJ bc H->b6 μ cJ bc fr a.tmps.toList->kz (eU P pure') μ cJ bc (.loop .ready none fr ps.toList oE r4) 0 (.loop { state:=.ready,pending:=none,fn,tmps:=a.tmps,params:=ps,assign:=x,body:=y,defers:=D }):=
  fun D _ av=>⟨rfl,rfl,rfl,av,rfl,af,bC⟩
 cases ro with
 |none=>
   have cn:c8 (eU P pure') μ ae w H μ ae (w.alloc (.deferred (some []))) H:=apS h _ rfl rfl rfl rfl;have dP:=HY cn.ak (.loop { state:=.ready,pending:=none,fn,tmps:=a.tmps,params:=ps,assign:=x,body:=y,defers:=w.heap.size }) (.loop .ready none fr ps.toList oE r4) (mk _ cn.ak (cn.J3 h al)) (w':=(w.alloc (.deferred (some []))).alloc (.loop { state:=.ready,pending:=none,fn,tmps:=a.tmps,params:=ps,assign:=x,body:=y,defers:=w.heap.size })) rfl rfl rfl rfl;refine⟨_,_,_,_,_,run_enterLoop_outer fn a.tmps ps x y,cn.trans dP,?_,?_⟩
   .have:(w.alloc (.deferred (some []))).heap.size=w.heap.size+1:=World.size_alloc ..;rw[this];exact n2 _ _ _ _
   .refine⟨[w.heap.size],rfl,by simp,fun D d'=>?_⟩
    simp at d';subst d';have ai:(w.alloc (.deferred (some []))).heap.size=w.heap.size+1:=World.size_alloc ..;have J:(w.alloc (.deferred (some []))).heap[w.heap.size]?=some (.deferred (some [])):=World.alloc_heap_new ..
    refine⟨cq _,(lg (w:=w.alloc (.deferred (some []))) rfl (by rw[ai];omega)).trans J,fun id g b e=>?_⟩
    by_cases ab:id=H.length/\g=0
    .obtain⟨rfl,rfl⟩:=ab;rw[n2]at e
     simp_all
    .rw[x1 ab]at e;have:=(h.gF _ _ _ _ e).2;omega
 |some fN=>
   obtain⟨hU,Bq⟩:=eR fN rfl;have dP:=HY h (.loop { state:=.ready,pending:=none,fn,tmps:=a.tmps,params:=ps,assign:=x,body:=y,defers:=hU.defers }) (.loop .ready none fr ps.toList oE r4) (mk _ h al) (w':=w.alloc (.loop { state:=.ready,pending:=none,fn,tmps:=a.tmps,params:=ps,assign:=x,body:=y,defers:=hU.defers })) rfl rfl rfl rfl;exact⟨_,_,_,_,_,run_enterLoop_inner Bq fn a.tmps ps x y,dP,n2 _ _ _ _,Marks.refl _ _ _ _⟩
def apB{ej:cp}{dY:Nat->Prop}{dv:World}{cK:ad}{aK:eX}(bd:cE aK ej dY dv cK)(ay:c8 aK ej dY dv cK μ ae w H){l:Nat}(hm:μ cK.length 0=some (l,0)){st:LoopState}{tn:Option nE}{t:List V}{ps:List Nat}{oE r4:bZ}(bm:H[cK.length]?=some (.loop st tn t ps oE r4))(ig:st≠.busy){fr:List V}{a:Act}(al:c7 μ ae w fr a.tmps){de:List Deferred}(nt:Marks dv.heap.size μ w a.defers de):
 ∃r w',(Instr.endLoop l).run P w=.ok r w'/\Nw st tn r/\o6 aK ej dY dv cK de fr (trim cK.length fr (H.set cK.length .dead)) a w':=by
 obtain⟨o,aX,ak⟩:=ay.ak.kY _ _ 0 _ _ bm rfl hm
 cases o<;>first|exact ak.elim|skip
 rename_i r;obtain⟨_,J,aa,aI,bl,cO,fQ⟩:=ak;subst J;have fv:=run_endLoop (P:=P) aX ig;have cn:c8 aK μ ae w H (my μ cK.length 0 (l,0)) ae (w.putObj l (.loop { r with state:=.exhausted })) (H.set cK.length .dead):=
  GD ay.ak 0 0 bm rfl hm aX (fun _ _ _ e=>by cases e) (fun _ _=>⟨_,rfl⟩) (.inl ⟨rfl,rfl⟩) (fun j bz=>bz.elim) (fun _ _ e=>by cases e) rfl rfl rfl rfl trivial (fun ab=>ab.elim)
 have hX:=ay.trans cn;have rW:cK.length<H.length:=(dQ.1 bm).1
 obtain⟨h',dP,f2,s2,_⟩:=P1 hX bd.hz (cq _) (by simp;omega) (al.post ay.ak cn)
 refine⟨_,_,fv,aa,h',ae,dP,f2,?_⟩;exact(nt.trans cn ay.c4.size (Marks.refl _ _ _ _)).sub s2
def KI(ai:o3 P (eU P pure') call){base:Nat}{ops:Array Oper}{l:List bx}{ct:List (Nat × Nat)}(ak:pP P pure' ops l)(aQ:qv (Region.before ops).toList ct l=true/\pr ops=true){ro:Option Nat}{n:Nat}{fr:List V}{H:ad}{cw:List V}{H':ad}(J:cI call base l fr H=some (cw,H'))(uQ:ct.all (tD call base l fr H cw)=true){μ:cp}{ae:Nat->Prop}{w:World}{a:Act}{Q:Exit->Act->World->Prop}(h:cE (eU P pure') μ ae w H)(al:c7 μ ae w fr a.tmps)(a6:∀bW w',pb (eU P pure') μ ae w H a.defers cw H' bW w'->Q .normal bW w'):wpAnyIn (ix ro) n P .any ops Q ops.size (Array.replicate ops.size false) a { w with drawn:=w.drawn+1 }:=by
 obtain⟨aX,ah⟩:=aQ;obtain⟨F,G,val,bw,a2,a3,a4,a5⟩:=aoq _ _ _ _ _ J;by_cases EY:wy (Region.before ops).toList ct l=true
 case neg=>
  have EY:wy (Region.before ops).toList ct l=false:=by simpa using EY
  simp only[qv,EY,wS,dR]at aX;have R:eY P pure' call base ops l fr _ H H' F G val:=⟨ak,aX.2,ah,bw,a2,a3,a4,a5,ai.floor⟩;have cn:c8 (eU P pure') μ ae w H μ ae { w with drawn:=w.drawn+1 } H:=L7 h rfl rfl rfl rfl
  have Ar:∀k,(Array.replicate ops.size false).getD k false=false:=by
   intro k;by_cases an:k<ops.size<;>simp[an]
  have mX:(fun k=>(Array.replicate ops.size false).getD k false)=fun _=>false:=funext Ar
  have aQh:(h4 (f' l) val fr l.length fun k=>(Array.replicate ops.size false).getD k false)=fr:=by
   refine BK pd fun s ai=>?_;rw[pd]at ai;rw[uP,bE ai,B4 (i:=0) l.length fun k _ _=>?_]
   .simp[lw]
   .rw[Ar k];simp
  have rP:=(R.lens (gY l.length) (cq _))
  have nC:∀id,id<H.length->(R.A 0)[id]?=H[id]?:=fun id hid=>by
   have:=R.wM (j:=0) (id:=id) (by rw[a2];exact hid)
   simp_all
  have aLw:∀s,fi H.length (fr.getD s .bu):=fun s=>(al.getD s).q0 h.hz
  have dP:c8 (eU P pure') μ ae w H μ ae { w with drawn:=w.drawn+1 } (R.A 0):=by
   have aq:H.length<=(R.A 0).length:=by rw[R.UK (gY _)];rw[a2]at rP;exact rP
   have q:=cn.ak;refine⟨aq,⟨fun id g p e=>mm (q.hz _ _ _ e) aq,q.gF,fun id br g B b bm ab e=>q.kY id br g B b ((nC id (q.hz _ _ _ e)).symm.trans bm) ab e,q.inj,fun id g g' c p e bm=>q.mQ id g g' c p e ((nC id (q.hz _ _ _ e)).symm.trans bm),fun id g p br e bm=>(q.wf id g p br e ((nC id (q.hz _ _ _ e)).symm.trans bm)).mono aq,q.fix,q.zero⟩,cn.ext,cn.mt,cn.c4,cn.hR,cn.news⟩
  have aO2:wB R (eU P pure') μ ae w (fun k=>(Array.replicate ops.size false).getD k false) 0 μ ae { w with drawn:=w.drawn+1 }:=by
   rw[mX]
   refine⟨gY _,dP,fun k _ _=>⟨fun h=>(by cases h),fun h=>absurd h (Yv _)⟩,fun id g q e hid=>?_,fun k _ fl=>(by cases fl),fun m _ fl=>(by cases fl),fun _ m _ fl=>(by cases fl),fun id g q br e fg j bz _ hid=>?_⟩
   .have:=h.hz _ _ _ e;omega
   .have aQ:=h.hz _ _ _ e;have S1:=R.lens (gY j) bz;rw[a2]at S1;rw[nC id aQ]at fg;exact(h.wf id g q br e fg).mono S1
  refine aKJ R ai aLw (fun id g q br e bm=>h.wf id g q br e bm) ops.size _ a _ μ ae 0 (by simp[ak.1]) ?_ ?_ aO2 (by rw[aQh];exact al.post h cn) rfl (fun bW w' bJ=>a6 bW w' bJ)
  .unfold qK;refine jn VZ ?_;simp[ak.1]
  .intro j bz
   simp_all
 have aX:=EY;have R:Row P pure' call base ops l ct fr _ H H' F G val:=⟨ak,aX,ah,bw,a2,a3,a4,a5,uQ,ai.floor⟩;have cn:c8 (eU P pure') μ ae w H μ ae { w with drawn:=w.drawn+1 } H:=L7 h rfl rfl rfl rfl
 have Ar:∀k,(Array.replicate ops.size false).getD k false=false:=by
  intro k;by_cases an:k<ops.size<;>simp[an]
 refine aNr R ai h ops.size _ a _ μ ae 0 (by simp[ak.1]) ?_ ?_ (gY _) (fun k an=>by omega) (fun k _ _ _=>Ar k) (by rw[a2];exact cn) ?_ rfl (fun bW w' bJ=>a6 bW w' bJ)
 .unfold qK;refine jn VZ ?_;simp[ak.1]
 .intro j bz
  simp_all
 .have:(h4 (f' l) val fr l.length fun k=>(Array.replicate ops.size false).getD k false)=fr:=by
   refine BK pd fun s ai=>?_;rw[pd]at ai;rw[uP,bE ai,B4 (i:=0) l.length fun k _ _=>?_]
   .simp[lw]
   .rw[Ar k];simp
  rw[this];exact al.post h cn
def HI(ai:o3 P (eU P pure') call)(fh:P.follows .mixedOrders=true)(fS base:Nat){c:Code}{ac:bZ}(ab:hD P pure' c ac):
 ∀(ro:Option Nat) (n:Nat),N1 P (eU P pure') ro n c (aL call (fun b k m=>gd b k m fS) base ac):=by
 have RV:∀(ops:Array Oper) (l:List bx) (ct:List (Nat × Nat)) (kill:List Nat),pP P pure' ops l->(qv (Region.before ops).toList ct l=true/\pr ops=true)->
  ∀(ro:Option Nat) (n:Nat) (fr:List V) (H:ad) (e:nE) (aW:List V) (H':ad),aL call (fun b k m=>gd b k m fS) base (.region l ct kill) fr H=some (e,aW,H')->
    ∀(μ:cp) (ae:Nat->Prop) (w:World) (a:Act) (Q:Exit->Act->World->Prop),cE (eU P pure') μ ae w H->c7 μ ae w fr a.tmps->
      (∀bW w',o6 (eU P pure') μ ae w H a.defers aW H' bW w'->Q (Nv e) bW w')->wpAnyIn (ix ro) n P .any ops Q ops.size (Array.replicate ops.size false) a { w with drawn:=w.drawn+1 }:=by
  intro ops l ct kill ak aQ;intro ro n fr H e aW H' aj μ ae w a Q h al a6;simp only[aL]at aj;split at aj
  .rename_i cw H1 J;split at aj
   .rename_i uQ;cases aj;exact KI ai ak aQ J uQ h al fun bW w' bJ=>a6 bW w' (o6.alf kill bJ)
   .cases aj
  .cases aj
 have rows:∀(id:Nat) (ops:Array Oper) (draw:Bool) (l:List bx) (ct:List (Nat × Nat)) (kill:List Nat),pP P pure' ops l->(draw=true->qv (Region.before ops).toList ct l=true/\pr ops=true)->
  ∀(ro:Option Nat) (n:Nat),N1 P (eU P pure') ro n (.region id ops draw) (aL call (fun b k m=>gd b k m fS) base (.region l ct kill)):=by
  intro id ops draw l ct kill ak aQ;intro ro n fr H e aW H' aj μ ae w a Q h al eR a6;cases draw with
  |true=>exact wpIn_region_any fh (RV ops l ct kill ak (aQ rfl) ro n fr H e aW H' aj μ ae w a Q h al a6)
  |false=>
    simp only[aL]at aj;split at aj
    .rename_i cw H1 J;split at aj
     .rename_i uQ;cases aj;refine wpIn_region ?_
      have:=aux (Q:=Q) (ro:=ro) (n:=n) ai ak ops.size 0 fr H a w μ ae (by omega) h al (by simpa using J) (fun bW w' bJ=>a6 bW w' (o6.alf kill bJ))
      simpa using this
     .cases aj
    .cases aj
 induction ab with
 |skip=>
   intro ro n fr H e aW H' aj μ ae w a Q h al eR a6;simp only[aL]at aj;cases aj;exact wpIn_skip (a6 a w (o6.refl h al))
 |label l=>
   intro ro n fr H e aW H' aj μ ae w a Q h al eR a6;simp only[aL]at aj;cases aj;exact wpIn_label (a6 a w (o6.refl h al))
 |exit id=>
   intro ro n fr H e aW H' aj μ ae w a Q h al eR a6;simp only[aL]at aj;cases aj;exact wpIn_exit (a6 a w (o6.refl h al))
 |ret=>
   intro ro n fr H e aW H' aj μ ae w a Q h al eR a6;simp only[aL]at aj;cases aj;exact wpIn_ret (a6 a w (o6.refl h al))
 |region id ops draw l ct kill ak aQ=>grind
 |bh id ops draw l kill j7 ak aQ=>
   intro ro n fr H e aW H' aj;simp only[aL]at aj;split at aj
   .rename_i f2 aa;cases aj;obtain⟨f1,J,rfl⟩:=G5 (call:=call) (base:=base) aa
    exact rows id ops draw l [] kill ak aQ ro n fr _ .bR _ _ (by simp only[aL,J];rfl)
   .cases aj
 |O4 id ops c2 l ct kill ay ak aQ=>
   intro ro n fr H e aW H' aj μ ae w a Q h al eR a6;exact wpIn_region_any fh (KQ ay (RV _ l ct kill ak aQ ro n fr H e aW H' aj μ ae w a Q h al a6))
 |OS id ops c2 l kill j7 ay ak aQ=>
   intro ro n fr H e aW H' aj μ ae w a Q h al eR a6;simp only[aL]at aj;split at aj
   .rename_i f2 aa;cases aj;obtain⟨f1,J,rfl⟩:=G5 (call:=call) (base:=base) aa
    exact wpIn_region_any fh (KQ ay (RV _ l [] kill ak aQ ro n fr _ .bR _ _ (by simp only[aL,J];rfl) μ ae w a Q h al a6))
   .cases aj
 |seq x y oE r4 _ _ tl vH=>
   intro ro n fr H e aW H' aj μ ae w a Q h al eR a6;simp only[aL]at aj;refine wpIn_seq ?_;split at aj
   .rename_i cw H1 J;refine tl ro n _ _ _ _ _ J μ ae w a _ h al eR ?_;rintro bw bc ⟨cH,cJ,cn,f1,m1⟩;refine vH ro n _ _ _ _ _ aj cH cJ bc bw Q cn.ak f1 (fun l aq=>?_) (fun a2 dJ aa=>a6 a2 dJ (o6.trans cn m1 aa));obtain⟨r,ak⟩:=eR l aq;exact cn.c4.loops l r ak
   .rename_i eS;refine tl ro n _ _ _ _ _ aj μ ae w a _ h al eR ?_;intro bw bc J;have:=a6 bw bc J;cases e with
    |bR=>simp_all
    |ext id=>exact this
    |ret=>exact this
 |cond c o x y oE r4 ko _ _ tl vH=>
   intro ro n fr H e aW H' aj μ ae w a Q h al eR a6;simp only[aL]at aj;have av:=ec al ko;split at aj
   .rename_i he;rw[he]at av;exact wpIn_cond_true (ei av) (tl ro n _ _ _ _ _ aj μ ae w a Q h al eR a6)
   .rename_i he;rw[he]at av;exact wpIn_cond_false (ei av) (vH ro n _ _ _ _ _ aj μ ae w a Q h al eR a6)
   .cases aj
 |block id c x _ aF=>
   intro ro n fr H e aW H' aj μ ae w a Q h al eR a6;simp only[aL]at aj;refine wpIn_block ?_;split at aj
   .rename_i gw cw H1 J;cases aj;refine aF ro n _ _ _ _ _ J μ ae w a _ h al eR ?_;intro bw bc ak;have:=a6 bw bc ak
    show(if gw=id then Q .normal bw bc else Q (.exit gw) bw bc)
    split
    .rename_i hid;rw[bE hid]at this;exact this
    .rename_i hid;rw[bV hid]at this;exact this
   .rename_i eS;refine aF ro n _ _ _ _ _ aj μ ae w a _ h al eR ?_;intro bw bc ak;have:=a6 bw bc ak;cases e with
    |bR=>exact this
    |ext gw=>simp_all
    |ret=>exact this
 |loop c kill x _ aF=>
   intro ro n fr H e aW H' aj μ ae w a Q h al eR a6;simp only[aL]at aj;refine wpIn_loop_rounds fS ?_;exact aUC (aF ro n) kill H.length fS _ H e aW H' aj μ ae w a Q μ ae w H a.defers h (cq _) (cq _) (c8.refl h) (Marks.refl _ _ _ _) (al.kill kill) eR a6
 |rangeFunc f o ps x y oE r4 ko af bC _ _=>
   intro ro n fr H e aW H' aj μ ae w a Q h al eR a6;simp only[aL]at aj;have av:=ec al ko;split at aj
   case h_2=>cases aj
   rename_i k u z he;rw[he]at av;refine wpIn_rangeFunc ?_;intro fn _;obtain⟨l,mark,bc,cH,cJ,r9,cn,qa,aEl⟩:=aND h al eR fn ps af bC;have ru:=cn.vr h av;split at aj
   case h_2=>cases aj
   rename_i H3 bH fk;generalize uk:a.eval f=LV at ru;cases ru with
   |fn _ _ _ fF e8 J aa aI bl=>
     obtain⟨k6,jx⟩:=ai.fn k u z _ base _ H3 bH fk
     have db:b6 cH cJ bc (u++[.ff H.length]++z) (fF++#[Value.func (.yield l) #[] #[]]++e8).toList:=by
      have hu:b6 cH cJ bc u fF.toList:=⟨by simpa using J,fun i p q ay bJ=>aI i p q ay (by simpa using bJ)⟩
      have bK:b6 cH cJ bc z e8.toList:=⟨by simpa using aa,fun i p q ay bJ=>bl i p q ay (by simpa using bJ)⟩
      have bC:b6 cH cJ bc [.ff H.length] [Value.func (.yield l) #[] #[]]:=⟨rfl,fun i p q ay bJ=>by
       cases i with
       |zero=>simp at ay bJ;subst ay;subst bJ;exact .ff _ _ qa
       |succ i=>simp at ay⟩
      simpa using(hu.append bC).append bK
     have jZ:=jx cH cJ bc _ cn.ak db (n-1);simp only[Cb]at jZ
     refine⟨l,mark,bc,⟨.fn (.func k) e8,fF++#[Value.func (.yield l) #[] #[]]⟩,bc,k,fF++#[Value.func (.yield l) #[] #[]]++e8,bc,r9,?_,fun _ _=>trivial,?_,fun h=>by simp[ix]at h,?_⟩
     .have aE:a.eval (.const (.func (.yield l) #[] #[]))=Value.func (.yield l) #[] #[]:=rfl;simp only[resolve,uk,Deferred.ofValue,Sem.run_pure,List.map_toArray,dW,hC,aE]
     .simp only[invoke,k6]
     .refine CallsIn.mono jZ ?_;rintro cd fI ⟨hN,Gb,O1,rfl,_,gn⟩;have D8:=gn.ext _ _ _ qa;have pp:=cn.trans gn;have aeR:Marks w.heap.size Gb fI (mark++a.defers) a.defers:=aEl.trans gn cn.c4.size (Marks.refl _ _ _ _);have Zc:c7 Gb O1 fI fr a.tmps:=al.post h pp;split at aj
      .rename_i bm;cases aj
       obtain⟨r,jF,fv,fU,j2⟩:=apB (P:=P) (a:={ a with defers:=mark++a.defers }) h pp D8 bm (by simp) Zc aeR
       refine⟨r,jF,fv,?_⟩;cases r with
       |none=>exact a6 _ _ j2
       |some c=>simp[Nw]at fU
      .rename_i bN bm;cases aj
       obtain⟨r,jF,fv,fU,j2⟩:=apB (P:=P) (a:={ a with defers:=mark++a.defers }) h pp D8 bm (by simp) Zc aeR
       refine⟨r,jF,fv,?_⟩;cases e with
       |bR=>exact fU.elim
       |ext id=>
         have fU:r=some (.exit id):=fU;subst fU;exact wpIn_exit (a6 _ _ j2)
       |ret=>
         have fU:r=some .ret:=fU;subst fU;exact wpIn_ret (a6 _ _ j2)
      .cases aj
end
section
variable {aK:eX} {μ cf:cp} {ae b9:Nat->Prop} {w w':World} {H H':ad} {P:Program} {pure':fA} {call:c5}
def gW.zJ(cS:∀B,B<w.heap.size->b9 B->ae B)(an:∀(B:Nat) (arr:Array Value) (e:TypeId) (fr:Nat × Nat),w.heap[B]?=some (.cells arr e fr)->w'.heap[B]?=w.heap[B]?){v:V}{c:Value}(h:gW ae w v c):gW b9 w' v c:=by
 induction h with
 |s v=>exact .s v
 |agg cs vs aq _ aF=>exact .agg cs vs aq aF
 |bQ cs vs aq _ aF=>exact .bQ cs vs aq aF
 |eu cs B o arr e fr aD il ai _ aF=>exact .eu cs B o arr e fr ((an B _ _ _ aD).trans aD) (fun h=>il (cS B (hZ aD) h)) ai aF
 |dc es sz B o cap arr e fr aD il ab bK ai _ aF=>exact .dc es sz B o cap arr e fr ((an B _ _ _ aD).trans aD) (fun h=>il (cS B (hZ aD) h)) ab bK ai aF
 |iy sz cap a=>exact .iy sz cap a
 |c6 a=>exact .c6 a
 |fn f fst cap fF e8 al ab _ _ re ot=>exact .fn f fst cap fF e8 al ab re ot
def bS.zJ(cS:∀B,B<w.heap.size->b9 B->ae B)(an:∀(B:Nat) (arr:Array Value) (e:TypeId) (fr:Nat × Nat),w.heap[B]?=some (.cells arr e fr)->w'.heap[B]?=w.heap[B]?){v:V}{c:Value}(h:bS μ ae w v c):bS μ b9 w' v c:=by
 induction h with
 |s v=>exact .s v
 |bu v=>exact .bu v
 |agg cs vs aq _ aF=>exact .agg cs vs aq aF
 |bQ cs vs aq _ aF=>exact .bQ cs vs aq aF
 |ref id g off B b hm=>exact .ref id g off B b hm
 |eu cs B o arr e fr aD il ai h=>exact .eu cs B o arr e fr ((an B _ _ _ aD).trans aD) (fun h=>il (cS B (hZ aD) h)) ai (fun i a b aO ah=>(h i a b aO ah).zJ cS an)
 |aZ id g off len sz B b cap arr e hm aD ab ai=>exact .aZ id g off len sz B b cap arr e hm ((an B _ _ _ aD).trans aD) ab ai
 |jw id g off sz B b a hm=>exact .jw id g off sz B b a hm
 |dc es sz B o cap arr e fr aD il ab bK ai h=>exact .dc es sz B o cap arr e fr ((an B _ _ _ aD).trans aD) (fun h=>il (cS B (hZ aD) h)) ab bK ai (fun i el j a b he aO ah=>(h i el j a b he aO ah).zJ cS an)
 |iy sz cap a=>exact .iy sz cap a
 |c6 a=>exact .c6 a
 |mp id B hm=>exact .mp id B hm
 |fn f fst cap fF e8 al ab _ _ re ot=>exact .fn f fst cap fF e8 al ab re ot
 |ff id B hm=>exact .ff id B hm
def kz.zJ(cS:∀B,B<w.heap.size->b9 B->ae B)(an:∀(B:Nat) (arr:Array Value) (e:TypeId) (fr:Nat × Nat),w.heap[B]?=some (.cells arr e fr)->w'.heap[B]?=w.heap[B]?){br:aM}{b:Nat}{o:Obj}(h:kz aK μ ae w br b o):kz aK μ b9 w' br b o:=by
 cases br with
 |cells g c=>cases o<;>first|exact h.elim|exact⟨h.1,h.2.1,fun i a v aO av=>(h.2.2.1 i a v aO av).zJ cS an,h.2.2.2⟩
 |map es=>cases o<;>first|exact h.elim|exact⟨h.1,h.2.1,fun i k v e he av=>⟨(h.2.2 i k v e he av).1,(h.2.2 i k v e he av).2.zJ cS an⟩⟩
 |loop st tn tmps params assign body=>
   cases o<;>first|exact h.elim|skip
   obtain⟨bd,J,aa,aI,bl,cO,fQ⟩:=h;exact⟨bd,J,aa,⟨aI.1,fun i a b aO ah=>(aI.2 i a b aO ah).zJ cS an⟩,bl,cO,fQ⟩
 |dead=>cases o<;>exact h.elim
 |bytes g l=>cases o<;>first|exact h.elim|exact h
def Tm{ej:cp}{dY:Nat->Prop}{dv:World}{cK:ad}(ay:c8 aK ej dY dv cK μ ae w H){D:Nat}{x y:Option (List Deferred)}(d':dv.heap.size<=D)(aQ:w.heap[D]?=some (.deferred x))(aJ:∀id g b,μ id g≠some (D,b)):
 c8 aK ej dY dv cK μ ae (w.putObj D (.deferred y)) H/\∀{v:V} {c:Value},bS μ ae w v c->bS μ ae (w.putObj D (.deferred y)) v c:=by
 have an:∀(B:Nat) (arr:Array Value) (e:TypeId) (fr:Nat × Nat),w.heap[B]?=some (.cells arr e fr)->(w.putObj D (.deferred y)).heap[B]?=w.heap[B]?:=by
  intro B arr e fr aD;refine World.putObj_heap_other (fun e=>?_);subst e;rw[aQ]at aD;cases aD
 have dk:(w.putObj D (.deferred y)).heap.size=w.heap.size:=World.putObj_size
 have eS:∀K,K<dv.heap.size->(w.putObj D (.deferred y)).heap[K]?=w.heap[K]?:=fun K bk=>World.putObj_heap_other (by omega)
 refine⟨⟨ay.len,⟨ay.ak.hz,fun id g B b e=>by rw[dk];exact ay.ak.gF id g B b e,fun id br g B b bm ab e=>?_,ay.ak.inj,ay.ak.mQ,ay.ak.wf,fun B o e=>⟨(an B _ _ _ (ay.ak.fix B o e).1).trans (ay.ak.fix B o e).1,(ay.ak.fix B o e).2⟩,ay.ak.zero⟩,ay.ext,ay.mt,
  ⟨by grind,fun B arr e fr aD=>?_,fun B l aD=>?_,fun B aD hu=>(eS B aD).trans (ay.c4.cD B aD hu),fun B arr e aD=>?_,ay.c4.os,ay.c4.tape,ay.c4.output⟩,ay.hR,ay.news⟩,fun h=>h.zJ (fun _ _ h=>h) an⟩
 .obtain⟨o,aX,ak⟩:=ay.ak.kY id br g B b bm ab e;refine⟨o,(World.putObj_heap_other (fun eq=>?_)).trans aX,ak.zJ (fun _ _ h=>h) an⟩
  simp_all
 .obtain⟨eK,aW,J,aa⟩:=ay.c4.shape B arr e fr aD
  grind
 .obtain⟨s3,J⟩:=ay.c4.loops B l aD
  grind
 .by_cases aSq:B=D
  .omega
  .rw[World.putObj_heap_other aSq]at aD;exact ay.c4.back B arr e aD
def aUz{ej:cp}{dY:Nat->Prop}{dv:World}{cK:ad}{fn:Func}{tmps:Array Value}{fr:List V}{R:Ending->World->Prop}{n:Nat}(MY:∀w',c8 aK ej dY dv cK μ ae w' H->c7 μ ae w' fr tmps->∃v,(results fn tmps).run P w'=.ok v w'/\R (.returned v) w'):
 ∀(L:List Nat) (w:World),c8 aK ej dY dv cK μ ae w H->c7 μ ae w fr tmps->L.Nodup->(∀D∈L,dv.heap.size<=D/\w.heap[D]?=some (.deferred (some []))/\∀id g b,μ id g≠some (D,b))->
   LeavesInM Fence.wide n P fn tmps R (L.map Pw) .returning w:=by
 intro L
 induction L with
 |nil=>intro w ay al _ _;exact MY w ay al
 |cons D L aF=>
   intro w ay al lN cU;obtain⟨J,aa,aI⟩:=cU D hJ
   refine⟨by simp,.inl ⟨D,_,rfl,run_takeDeferred aa,?_⟩⟩
   obtain⟨cn,av⟩:=Tm (y:=none) ay J aa aI;refine aF _ cn ⟨al.1,fun i a b aO ah=>av (al.2 i a b aO ah)⟩ (ble.1 lN).2 (fun E bp=>?_);obtain⟨k1,k2,eN⟩:=cU E (d9 _ bp)
   have eS:E≠D:=fun e=>by simp_all
   exact⟨k1,(World.putObj_heap_other eS).trans k2,eN⟩
def aDJ(h:cE aK μ ae w H){fr:List V}{tmps:Array Value}(al:c7 μ ae w fr tmps):∀(rs:List ResultVar) (xL:List l2) (vs:List V),rs.mapM (CW P)=some xL->xL.mapM (kJ fr H)=some vs->
 ∃cs:List Value,(rs.mapM (fun|.tmp t=>pure (tmps.getD t Go.undef)|.cell a t=>do loadVar t (<- asAddr (tmps.getD a Go.undef)):ResultVar->Sem Value)).run P w=.ok cs w/\b6 μ ae w vs cs:=by
 intro rs
 induction rs with
 |nil=>
   intro xL vs J aa;simp at J;subst J;simp at aa;subst aa
   exact⟨[],by simp[Sem.run_pure],rfl,fun i a b aO=>by simp at aO⟩
 |cons r rs aF=>
   intro xL vs J aa;simp only[rA,fV,gk,e4]at J;obtain⟨a,aO,aIB,has,e⟩:=J;cases e;simp only[rA,fV,gk,e4]at aa;obtain⟨v,av,aLt,db,e⟩:=aa;cases e;obtain⟨cs,lR,ak⟩:=aF aIB aLt has db
   have one:∃c,((fun|.tmp t=>pure (tmps.getD t Go.undef)|.cell a t=>do loadVar t (<- asAddr (tmps.getD a Go.undef)):ResultVar->Sem Value) r).run P w=.ok c w/\bS μ ae w v c:=by
    cases r with
    |tmp t=>
      simp only[CW]at aO;cases aO;simp only[kJ]at av;cases av;exact⟨_,rfl,al.getD t⟩
    |cell t ty=>
      simp only[CW,fy]at aO;obtain⟨⟨agg,k⟩,ai,e⟩:=aO;cases e;simp only[kJ]at av;obtain⟨c,J,aa⟩:=asJ (P:=P) ai h (al.getD t) av;refine⟨c,?_,aa⟩;have af:=al.getD t;unfold iu at av;split at av
      .rename_i C5;rw[C5]at af;obtain⟨B,b,hm,Yf⟩:=H0 af
       show Sem.run P (do loadVar ty (<- asAddr (tmps.getD t Go.undef))) w=_
       rw[Yf]at J |-
       simpa[Instr.loadAt,Instr.sureAddr,asAddr,Sem.run_bind,Sem.run_pure]using J
      .rename_i C5;rw[C5]at af;obtain⟨bW,Yf,_⟩:=Sz af
       show Sem.run P (do loadVar ty (<- asAddr (tmps.getD t Go.undef))) w=_
       rw[Yf]at J |-
       simpa[Instr.loadAt,Instr.sureAddr,asAddr,Sem.run_bind,Sem.run_pure]using J
      .cases av
   obtain⟨c,ab,l0⟩:=one
   refine⟨c::cs,?_,by simpa using b6.append (a:=[v]) (c:=[c]) ⟨rfl,fun i p q ay bJ=>by
    cases i with
    |zero=>simp at ay bJ;subst ay;subst bJ;exact l0
    |succ i=>simp at ay⟩ ak⟩
   simp_all
def Pz(h:cE aK μ ae w H){fr:List V}{tmps:Array Value}(al:c7 μ ae w fr tmps){fn:Func}{xL:List l2}(ab:fn.results.toList.mapM (CW P)=some xL){r:V}(ak:ky xL fr H=some r):
 ∃v,(results fn tmps).run P w=.ok v w/\bS μ ae w r v:=by
 unfold ky at ak
 have main:∀vs,xL.mapM (kJ fr H)=some vs->∃cs:List Value,(results fn tmps).run P w=.ok (if h:cs.toArray.size=1 then cs.toArray[0]else .tuple cs.toArray) w/\b6 μ ae w vs cs:=by
  intro vs db;obtain⟨cs,J,aa⟩:=aDJ (P:=P) h al fn.results.toList xL vs ab db;refine⟨cs,?_,aa⟩;unfold results;rw[ajr];simp only[Sem.run_bind,map_eq_pure_bind,bind_assoc,pure_bind]
  erw [J]
  simp only[ev,Sem.run_pure]
 split at ak
 .rename_i v db;cases ak;obtain⟨cs,J,aa⟩:=main _ db
  have aq:cs.length=1:=by have:=aa.1;simp at this;exact this.symm
  match cs,aq with
  | [c],_=>exact⟨c,by simpa using J,aa.2 0 r c rfl rfl⟩
 .rename_i vs eS db;cases ak;obtain⟨cs,J,aa⟩:=main _ db
  have aq:cs.toArray.size≠1:=by
   intro aq;have aI:=aa.1;simp at aq;rw[aq]at aI
   match vs,aI with
   | [v],_=>exact eS v rfl
  rw[dif_neg aq]at J
  exact⟨_,J,.bQ vs cs.toArray (by simpa using aa.1) (fun i a b aO ah=>aa.2 i a b aO (by simpa using ah))⟩
 .cases ak
end
section
variable {μ cf:cp} {ae b9:Nat->Prop} {w w':World} {H H':ad} {P:Program} {pure':fA} {call:c5}
def iP(P:Program)(pure':fA)(k:Nat):cz->Prop
 |.code c => ∃fn body, P.funcs[k]? = some fn /\ fn.body = some body /\ (fn.name == "runtime.NumGoroutine") = false /\ hD P pure' body c.body /\ fn.ntmps = c.ntmps /\ fn.results.toList.mapM (CW P) = some c.results
 |.hP g=>(∀xs w,(callFunc k xs).run P w=.ok (.enter k xs) w)/\∀vs base H r H',g vs base H=some (r,H')->jC base H H'/\
    ∀μ ae w cs,cE (eU P pure') μ ae w H->b6 μ ae w vs cs->∀n,CallsIn Fence.wide n P k cs.toArray w (mZ (eU P pure') μ ae w H r H')
def aUj:∀(ps:List Nat) (vs:List V) (cs:List Value) {fr aW:List V} {t:Array Value},Bf ps vs fr=some aW->b6 μ ae w vs cs->c7 μ ae w fr t->
 ps.length=cs.length/\c7 μ ae w aW ((ps.zip cs).foldl (fun t p=>t.setIfInBounds p.1 p.2) t):=by
 intro ps
 induction ps with
 |nil=>
   intro vs cs fr aW t h av al;cases vs with
   |nil=>
     cases h
     have:cs=[]:=by have:=av.1;grind
     simp_all
   |cons v vs=>cases h
 |cons p ps aF=>
   intro vs cs fr aW t h av al;cases vs with
   |nil=>cases h
   |cons v vs=>
     cases cs with
     |nil=>have:=av.1;simp at this
     |cons c cs=>
       have Rc:b6 μ ae w vs cs:=⟨by have:=av.1;simpa using this,fun i a b aO ah=>av.2 (i+1) a b (by simpa using aO) (by simpa using ah)⟩
       have Dz:c7 μ ae w (fr.set p v) (t.setIfInBounds p c):=by
        have:=b6.set al p (av.2 0 v c rfl rfl)
        simpa[c7]using this
       obtain⟨J,aa⟩:=aF vs cs h Rc Dz
       simp_all
def IM(n:Nat):b6 μ ae w (List.replicate n bF) (List.replicate n Go.undef):=
 ⟨by simp,fun i a b aO ah=>by
  have J:=ib aO;have aa:=ib ah;rw[Mz]at J aa;rw[J.2,aa.2];exact .s _⟩
variable {b1:Nat->Option cz}
def afZ(ai:o3 P (eU P pure') call)(fh:P.follows .mixedOrders=true)(fS:Nat)(jg:∀k c,b1 k=some c->iP P pure' k c){f:Nat}{fst cap args:List V}{base:Nat}{r:V}(aj:iT b1 call (fun b k m=>gd b k m fS) (.fn f fst cap) args base H=some (r,H')):
 (∀xs w,(callFunc f xs).run P w=.ok (.enter f xs) w)/\jC base H H'/\
 ∀(μ:cp) (ae:Nat->Prop) (w:World) (cs:List Value),cE (eU P pure') μ ae w H->b6 μ ae w (fst++args++cap) cs->∀n,CallsIn Fence.wide n P f cs.toArray w (mZ (eU P pure') μ ae w H r H'):=by
 simp only[iT]at aj;split at aj
 .rename_i c ab;obtain⟨fn,body,J,aa,aI,bl,cO,fQ⟩:=jg f _ ab;have fin:∀(e:nE) (aW:List V) (H1:ad),(e=.bR\/e=.ret)->aL call (fun b k m=>gd b k m fS) base c.body (fst++args++cap++List.replicate (c.ntmps-(fst++args++cap).length) bF) H=some (e,aW,H1)->
   (ky c.results aW H1).map (fun v=>(v,H1))=some (r,H')->(∀xs w,(callFunc f xs).run P w=.ok (.enter f xs) w)/\jC base H H'/\
   ∀(μ:cp) (ae:Nat->Prop) (w:World) (cs:List Value),cE (eU P pure') μ ae w H->b6 μ ae w (fst++args++cap) cs->∀n,CallsIn Fence.wide n P f cs.toArray w (mZ (eU P pure') μ ae w H r H'):=by
   intro e aW H1 he ah j2;rw[fy]at j2;obtain⟨v,av,aE⟩:=j2;cases aE;refine⟨Go.Proofs.enters_of J aI aa,uA ai.floor fS _ ah,fun μ ae w cs h db n=>?_⟩;refine callsIn_of_wp_marks J aa trivial ?_
   have qq:c7 μ ae w (fst++args++cap++List.replicate (c.ntmps-(fst++args++cap).length) bF) (cs.toArray++Array.replicate (fn.ntmps-cs.toArray.size) Go.undef):=by
    unfold c7;have:=db.append (IM (μ:=μ) (ae:=ae) (w:=w) (c.ntmps-(fst++args++cap).length));simp only[Lx,PG,tr,cO];rw[db.1]at this |-;exact this
   refine HI ai fh fS base bl none n _ H e aW H' ah μ ae w { tmps:=cs.toArray++Array.replicate (fn.ntmps-cs.toArray.size) Go.undef,defers:=[] } _ h qq (fun l aq=>by cases aq) ?_
   rintro bW w' ⟨cH,cJ,cn,f1,L,cU,lN,ES⟩
   have key:LeavesInM Fence.wide n P fn bW.tmps (mZ (eU P pure') μ ae w H r H') bW.defers .returning w':=by
    rw[cU,nn];refine aUz (μ:=cH) (ae:=cJ) (fr:=aW) (fun dJ dP f2=>?_) L w' cn f1 lN ES;obtain⟨bA,k1,k2⟩:=Pz dP.ak f2 fQ av;exact⟨bA,k1,bA,cH,cJ,rfl,k2,dP⟩
   rcases he with rfl|rfl
   .exact key
   .exact key
  grind
 .rename_i g ab;obtain⟨J,aa⟩:=jg f _ ab
  grind
 .cases aj
theorem aqq(ai:o3 P (eU P pure') call)(fh:P.follows .mixedOrders=true)(fS:Nat){id:Nat}{args:List V}{base:Nat}{r:V}(aj:iT b1 call (fun b k m=>gd b k m fS) (.ff id) args base H=some (r,H')):
 jC base H H'/\∀(μ:cp) (ae:Nat->Prop) (w:World) (cs:List Value) (B:Nat),cE (eU P pure') μ ae w H->b6 μ ae w args cs->μ id 0=some (B,0)->
  ∃f tmps assign body,(Instr.yield B cs.toArray).run P w=.ok (.round B f tmps assign body) w/\∀n,RoundIn Fence.wide n P B f tmps assign body w (mZ (eU P pure') μ ae w H r H'):=by
 simp only[iT]at aj;split at aj
 case isFalse=>cases aj
 rename_i Ge;split at aj
 case h_2=>cases aj
 rename_i tmps params assign body bm;split at aj
 case h_2=>cases aj
 rename_i IX kv;split at aj
 case h_2=>cases aj
 rename_i cw H1 aoL;split at aj
 case h_2=>cases aj
 rename_i t1 atN ayr fe k0;split at aj
 case h_2=>cases aj
 rename_i e qu cV ael;split at aj
 case h_2=>cases aj
 rename_i t3 auI axa jQ qS;cases aj
 have asn:∀(G:ad) (o:aM),jC base G (G.set id o):=fun G o=>⟨by simp,fun i J _=>by rw[cG (by omega)]⟩
 refine⟨(uA ai.floor fS _ aoL).trans ((asn _ _).trans ((uA ai.floor fS _ ael).trans (asn _ _))),?_⟩;intro μ ae w cs B h db hm;obtain⟨o,aX,ak⟩:=h.kY _ _ 0 _ _ bm rfl hm
 cases o<;>first|exact ak.elim|skip
 rename_i rec;obtain⟨_,bj,aT,a1,cB,gj,hA⟩:=ak;obtain⟨dn,qq⟩:=aUj params args cs kv db (t:=rec.tmps) a1
 have dk:cs.toArray.size=rec.params.size:=by
  rw[<- cB]at dn;simpa using dn.symm
 have aJX:(rec.params.zip cs.toArray).foldl (fun tmps (t,a)=>tmps.setIfInBounds t a) rec.tmps=(params.zip cs).foldl (fun t p=>t.setIfInBounds p.1 p.2) rec.tmps:=by
  rw[<- PB,Array.toList_zip,cB]
 refine⟨_,_,_,_,run_yield aX dk,fun n=>?_⟩;refine roundIn_of_wpIn (F:=Fence.wide) trivial ?_;rw[aJX]
 refine HI ai fh fS base gj (some B) n IX H .bR cw H1 aoL μ ae w { tmps:=(params.zip cs).foldl (fun t p=>t.setIfInBounds p.1 p.2) rec.tmps,defers:=[] } _ h qq (fun l aq=>by cases aq;exact⟨rec,aX⟩) ?_
 rintro bw bc ⟨cH,cJ,cn,f1,_⟩;have qa:=cn.ext _ _ _ hm;obtain⟨gz,mv,Pk⟩:=cn.ak.kY _ _ 0 _ _ k0 rfl qa
 cases gz<;>first|exact Pk.elim|skip
 rename_i XA;obtain⟨_,s1,s2,KA,K4,Im,IH⟩:=Pk
 have aLQ:ob H1.length (.loop .busy none t1 atN ayr fe):=by have:=cn.ak.P7 k0 rfl qa;exact this
 have dP:c8 (eU P pure') cH cJ bc H1 (my cH id 0 (B,0)) cJ (bc.putObj B (.loop { XA with state:=.busy })) (H1.set id (.loop .busy none t1 atN ayr fe)):=by
  refine GD cn.ak 0 0 k0 rfl qa mv (fun _ _ _ e=>by cases e) (fun _ _=>⟨_,rfl⟩) (.inl ⟨rfl,rfl⟩) (fun j bz=>bz) (fun _ _ e=>by cases e) rfl rfl rfl rfl aLQ ?_
  intro _ cf b9 gD cS;have eS:∀K,K≠B->(bc.putObj B (.loop { XA with state:=.busy })).heap[K]?=bc.heap[K]?:=fun K bk=>World.putObj_heap_other bk;refine⟨rfl,rfl,trivial,?_,K4,Im,IH⟩;refine b6.mono gD (fun K bk hm=>(cS K bk).1 hm) (fun K _ aJ=>eS K (fun e=>aJ (e▸(cn.ak.gF _ _ _ _ qa).1))) (fun K a0 cX IX bk=>?_) KA
  have:K≠B:=fun e=>by subst e;rw[mv]at bk;cases bk
  exact⟨a0,_,(eS K this).trans bk,rfl⟩
 refine⟨_,run_beginRound mv s1,?_⟩;have pp:=cn.trans dP;have xG:∃r,(bc.putObj B (.loop { XA with state:=.busy })).heap[B]?=some (.loop r):=⟨_,World.putObj_heap_same (hZ mv)⟩
 refine HI ai fh fS base hA (some B) n cw _ e qu cV ?_ _ _ _ bw _ dP.ak (f1.post cn.ak dP) (fun l aq=>by cases aq;exact xG) ?_
 .exact ael
 .rintro a3 fI ⟨Gb,O1,gn,_,_⟩;have D8:Gb id 0=some (B,0):=gn.ext _ _ _ (n2 _ _ _ _);obtain⟨pR,Tf,rO⟩:=gn.ak.kY _ _ 0 _ _ qS rfl D8
  cases pR<;>first|exact rO.elim|skip
  rename_i aIu;obtain⟨_,jY,ks,jW,lT,om,p8⟩:=rO
  have aPN:∀st LJ,ob cV.length (.loop st LJ t3 auI axa jQ):=fun _ _=>by have:=gn.ak.P7 qS rfl D8;exact this
  have fin:∀(jump:Option Code),Nw (if e=.bR then .ready else .done) (F7 e) jump->jump.isNone=decide (e=.bR)->(if jump.isNone then LoopState.ready else .done)=(if e=.bR then .ready else .done)->
   ∃v w',(Instr.endRound B jump).run P fI=.ok v w'/\mZ (eU P pure') μ ae w H (ar (decide (e=.bR))) (cV.set id (.loop (if e=.bR then .ready else .done) (F7 e) t3 auI axa jQ)) (.returned v) w':=by
   intro jump fU bz ig
   refine⟨_,_,run_endRound jump Tf,_,_,_,rfl,by rw[bz];exact .s _,(pp.trans gn).trans (GD (g':=0) (b':=0) gn.ak qS rfl D8 Tf (fun _ _ _ e=>by cases e) (fun _ _=>⟨_,rfl⟩) (.inl ⟨rfl,rfl⟩) (fun j bz=>bz) (fun _ _ e=>by cases e) rfl rfl rfl rfl (aPN _ _) ?_)⟩
   intro _ cf b9 gD cS
   have eS:∀K,K≠B->(fI.putObj B (.loop { aIu with state:=if jump.isNone then .ready else .done,pending:=jump })).heap[K]?=fI.heap[K]?:=fun K bk=>World.putObj_heap_other bk
   refine⟨rfl,ig,fU,?_,lT,om,p8⟩;refine b6.mono gD (fun K bk hm=>(cS K bk).1 hm) (fun K _ aJ=>eS K (fun e=>aJ (e▸(gn.ak.gF _ _ _ _ D8).1))) (fun K a0 cX IX bk=>?_) jW
   have:K≠B:=fun e=>by subst e;rw[Tf]at bk;cases bk
   exact⟨a0,_,(eS K this).trans bk,rfl⟩
  cases e with
  |bR=>exact fin none rfl rfl rfl
  |ext i=>exact fin (some (.exit i)) rfl rfl rfl
  |ret=>exact fin (some .ret) rfl rfl rfl
def aBJ(ai:o3 P (eU P pure') call)(fh:P.follows .mixedOrders=true)(fS:Nat)(jg:∀k c,b1 k=some c->iP P pure' k c):o3 P (eU P pure') (iT b1 call (fun b k m=>gd b k m fS)) where
 fn f fst cap args base H r H' h:=by
  obtain⟨J,_,aI⟩:=afZ ai fh fS jg h;exact⟨J,aI⟩
 ff id args base H r H' h:=(aqq ai fh fS h).2
 other v args base H J aa:=by
  cases v<;>first|rfl|exact absurd rfl (J _ _ _)|exact absurd rfl (aa _)
 floor v args base H r H' h:=by
  by_cases J:∃f a b,v=.fn f a b
  .obtain⟨f,a,b,rfl⟩:=J;exact(afZ ai fh fS jg h).2.1
  .by_cases aa:∃id,v=.ff id
   .obtain⟨id,rfl⟩:=aa;exact(aqq ai fh fS h).1
   .exfalso
    cases v<;>first|exact J ⟨_,_,_,rfl⟩|exact aa ⟨_,rfl⟩|(simp[iT]at h;done)
def DS(fh:P.follows .mixedOrders=true)(jg:∀k c,b1 k=some c->iP P pure' k c):∀n,o3 P (eU P pure') (iq b1 n)
 |0=>⟨fun _ _ _ _ _ _ _ _ h=>(by cases h),fun _ _ _ _ _ _ h=>(by cases h),fun _ _ _ _ _ _=>rfl,fun _ _ _ _ _ _ h=>(by cases h)⟩
 |n+1=>aBJ (DS fh jg n) fh n jg
def azU(fh:P.follows .mixedOrders=true)(jg:∀k c,b1 k=some c->iP P pure' k c){n k:Nat}{args:List V}{r:V}(h:iq b1 n (.fn k [] []) args 0 []=some (r,H')){w:World}{cs:Array Value}(nb:b6 (fun _ _=>none) (fun _=>False) w args cs.toList)(Dn:∀(B:Nat) (o:Array Value × TypeId × Nat × Nat),pure'.rI B=some o->w.heap[B]?=some (.cells o.1 o.2.1 o.2.2)):
 Calls P k cs w fun e w'=>∃c cf b9,e=.returned c/\bS cf b9 w' r c/\(∀B,B<w.heap.size->w'.heap[B]?=w.heap[B]?)/\DR (fun _ _=>none) w w':=by
 have bd:cE (eU P pure') (fun _ _=>none) (fun _=>False) w []:=⟨fun _ _ _ h=>by simp at h,fun _ _ _ _ h=>by simp at h,fun _ _ _ _ _ h=>by simp at h,fun _ _ _ _ _ _ _ h=>by simp at h,fun _ _ _ _ _ h=>by simp at h,fun _ _ _ _ h=>by simp at h,fun B o e=>⟨Dn B o e,fun h=>h⟩,fun _ _ _ h=>by simp at h⟩
 have:=((DS fh jg n).fn k [] [] args 0 [] r H' h).2 _ _ w cs.toList bd (by simpa using nb) 0
 simp only[Cb]at this;refine callsIn_wide.1 (CallsIn.mono this ?_);rintro e w' ⟨c,cf,b9,rfl,av,ay⟩
 exact⟨c,cf,b9,rfl,av,fun B aD=>ay.c4.cD B aD (fun _ _ _ h=>by simp at h),ay.c4⟩
end
section
variable {P:Program} {pure':fA}
def apq{α β:Type}{f:α->Option β}:∀{l:List α} {us:List β},l.mapM f=some us->us.length=l.length/\∀(i:Nat) (v:α) (u:β),l[i]?=some v->us[i]?=some u->f v=some u:=by
 intro l
 induction l with
 |nil=>simp_all
 |cons x l aF=>
   intro us h;simp only[rA,fV,gk,e4]at h
   grind
def anw{lt:List Nat}{ld:List Nat}{l:List bx}{i:Nat}{a:bx}(h:(Cg lt ld l)[i]?=some a):∃b,l[i]?=some b/\(a=b\/(∃f xs,b.op=.call f xs/\a={ b with op:=.mK f xs })\/∃k xs,b.op=.sq k xs/\a={ b with op:=.xI k xs }):=by
 unfold Cg at h
 grind
def aIh{l:List bx}{i:Nat}{a:bx}(h:(Gc l)[i]?=some a):∃b,l[i]?=some b/\(a=b\/∃sz n s x,b.op=.append sz n s x/\a={ b with op:=.y9 sz n s x }):=by
 unfold Gc at h
 grind
def aSk(l:List bx):(Gc l).length=l.length:=by simp[Gc]
def aya{lt:List Nat}{ld:List Nat}{l:List bx}:(Cg lt ld l).length=l.length:=by simp[Cg]
def W1{lt:List Nat}{ops:Array Oper}{draw:Bool}{l:List bx}{ct:List (Nat × Nat)}(h:PD P lt pure' ops draw=some (l,ct)):
 pP P pure' ops l/\(draw=true->qv (Region.before ops).toList ct l=true/\pr ops=true):=by
 unfold PD at h;simp only[gk,e4]at h;obtain⟨fN,kZ,h⟩:=h;obtain⟨J,aa⟩:=apq kZ
 have one:∀(i:Nat) (o:Oper) (a:bx),ops[i]?=some o->fN[i]?=some a->a.dst=o.dst/\(qh P pure' o=some a.op\/a.op=.stuck)/\IA ops o.guard=some a.guard:=by
  intro i o a aX aO
  have:=aa i o a (by simpa using aX) aO
  unfold ajn at this;simp only[gk,e4,fV,jI]at this;obtain⟨g,a8,e⟩:=this;subst e;refine⟨rfl,?_,a8⟩;cases dz:qh P pure' o with
  |none=>exact .inr rfl
  |some op=>exact .inl rfl
 split at h
 .rename_i aQ
  have fin:∀c,qv (Region.before ops).toList c (Cg lt (Region.before ops).toList fN)=true->pr ops=true->pP P pure' ops (Cg lt (Region.before ops).toList fN)/\(draw=true->qv (Region.before ops).toList c (Cg lt (Region.before ops).toList fN)=true/\pr ops=true):=by
   intro c fU tV
   refine⟨⟨by rw[aya,J];simp,fun i o a aX aO=>?_⟩,fun _=>⟨fU,tV⟩⟩
   obtain⟨b,ah,e⟩:=anw aO;obtain⟨k1,k2,eN⟩:=one i o b aX ah
   rcases e with rfl|⟨f,xs,dz,rfl⟩|⟨f,xs,dz,rfl⟩
   .exact⟨k1,k2.imp id fun h=>.inr (.inr (.inr h)),eN⟩
   .exact⟨k1,.inr (.inl ⟨f,xs,by simp_all,rfl⟩),eN⟩
   .exact⟨k1,.inr (.inr (.inl ⟨f,xs,by simp_all,rfl⟩)),eN⟩
  split at h
  .rename_i fU;simp only[dR]at fU;simp only[fV,jI]at h;cases h
   exact fin _ (by simp[qv,fU.1]) fU.2
  .split at h
   .rename_i fU;simp only[dR]at fU;simp only[fV,jI]at h;cases h
    exact fin _ (by simp[qv,fU.1]) fU.2
   .split at h
    .rename_i fU;simp only[dR]at fU;simp only[fV,jI]at h;cases h
     refine⟨⟨by rw[aSk,aya,J];simp,fun i o a aX aO=>?_⟩,fun _=>⟨by simp[qv,fU.1],fU.2⟩⟩
     obtain⟨e0,nr,cX⟩:=aIh aO;obtain⟨b,ah,e⟩:=anw nr;obtain⟨k1,k2,eN⟩:=one i o b aX ah
     rcases cX with rfl|⟨sz,n,s,x,dz,rfl⟩
     .rcases e with rfl|⟨f,xs,dz,rfl⟩|⟨f,xs,dz,rfl⟩
      .exact⟨k1,k2.imp id fun h=>.inr (.inr (.inr h)),eN⟩
      .exact⟨k1,.inr (.inl ⟨f,xs,by simp_all,rfl⟩),eN⟩
      .exact⟨k1,.inr (.inr (.inl ⟨f,xs,by simp_all,rfl⟩)),eN⟩
     .rcases e with rfl|⟨f,xs,wW,rfl⟩|⟨f,xs,wW,rfl⟩
      .exact⟨k1,.inr (.inr (.inr (.inl ⟨sz,n,s,x,by simp_all,rfl⟩))),eN⟩
      .cases dz
      .cases dz
    .cases h
 .rename_i aQ;simp only[fV,jI]at h;cases h
  refine⟨⟨by rw[J];simp,fun i o a aX aO=>?_⟩,fun e=>absurd e aQ⟩
  obtain⟨k1,k2,eN⟩:=one i o a aX aO;exact⟨k1,k2.imp id fun h=>.inr (.inr (.inr h)),eN⟩
def GF{lt:List Nat}:∀(c:Code) (ac:bZ),l1 P lt pure' c=some ac.bare->hD P pure' c ac:=by
 intro c
 induction c with
 |skip=>intro ac h;simp only[l1,jI]at h;cases ac<;>simp only[bZ.bare]at h<;>first|exact .skip|cases h
 |exit id=>intro ac h;simp only[l1,jI]at h;cases ac<;>simp only[bZ.bare]at h<;>first|(cases h;done)|(cases h;exact .exit _)
 |label l=>intro ac h;simp only[l1,jI]at h;cases ac<;>simp only[bZ.bare]at h<;>first|exact .label _|cases h
 |ret=>intro ac h;simp only[l1,jI]at h;cases ac<;>simp only[bZ.bare]at h<;>first|exact .ret|cases h
 |scope c=>intro ac h;simp[l1]at h
 |goto l=>intro ac h;simp[l1]at h
 |refuse w=>intro ac h;simp[l1]at h
 |region id ops draw=>
   intro ac h;simp only[l1]at h;split at h
   .rename_i q ak;obtain⟨l,ct⟩:=q;simp only[jI]at h;obtain⟨J,aa⟩:=W1 ak;have e:=h
    cases ac<;>simp only[bZ.bare]at e<;>first|(cases e;done)|(cases e;exact .region _ _ _ _ _ _ J aa)|(cases e;exact .bh _ _ _ _ _ _ J aa)
   .split at h
    .rename_i abA;rw[dR]at abA;obtain⟨rfl,ay⟩:=abA;rw[fy]at h;obtain⟨⟨l,ct⟩,ak,e⟩:=h;obtain⟨J,aa⟩:=W1 ak
     cases ac<;>simp only[bZ.bare]at e<;>first|(cases e;done)|(cases e;exact .O4 _ _ _ _ _ _ ay J (aa rfl))|(cases e;exact .OS _ _ _ _ _ _ ay J (aa rfl))
    .cases h
 |seq a b iU kb=>
   intro ac h;simp only[l1,gk,e4,fV,jI]at h;obtain⟨x,af,y,bC,e⟩:=h
   cases ac<;>simp only[bZ.bare]at e<;>first|(cases e;done)|(cases e;exact .seq _ _ _ _ (iU _ af) (kb _ bC))
 |cond c a b iU kb=>
   intro ac h;simp only[l1,gk,e4,fV,jI]at h;obtain⟨o,aX,x,af,y,bC,e⟩:=h
   cases ac<;>simp only[bZ.bare]at e<;>first|(cases e;done)|(cases e;exact .cond _ _ _ _ _ _ aX (iU _ af) (kb _ bC))
 |block id c aF=>
   intro ac h;simp only[l1,gk,e4,fV,jI]at h;obtain⟨x,af,e⟩:=h
   cases ac<;>simp only[bZ.bare]at e<;>first|(cases e;done)|(cases e;exact .block _ _ _ (aF _ af))
 |loop c aF=>
   intro ac h;simp only[l1,gk,e4,fV,jI]at h;obtain⟨x,af,e⟩:=h
   cases ac<;>simp only[bZ.bare]at e<;>first|(cases e;done)|(cases e;exact .loop _ _ _ (aF _ af))
 |rangeFunc f ps a b iU kb=>
   intro ac h;simp only[l1,gk,e4,fV,jI]at h;obtain⟨o,aX,x,af,y,bC,e⟩:=h
   cases ac<;>simp only[bZ.bare]at e<;>first|(cases e;done)|(cases e;exact .rangeFunc _ _ _ _ _ _ _ aX (iU _ af) (kb _ bC))
def BS(lt:List Nat)(P:Program)(pure':fA)(k:Nat):Option (Bool × Nat × List l2 × bZ):=
 match P.funcs[k]? with
 |some fn=>match fn.body with
   |some body=>match l1 P lt pure' body,fn.results.toList.mapM (CW P)with
     |some a, some rs => some (fn.name == "runtime.NumGoroutine", fn.ntmps, rs, a)
     |_,_=>none
   |none=>none
 |none=>none
abbrev dS(P:Program)(pure':fA)(k:Nat):Option (Bool × Nat × List l2 × bZ):=BS [] P pure' k
def aFV{lt:List Nat}{k:Nat}{c:dm}(h:BS lt P pure' k=some (false,c.ntmps,c.results,c.body.bare)):iP P pure' k (.code c):=by
 unfold BS at h;split at h
 .rename_i fn tF;split at h
  .rename_i body ah;split at h
   .rename_i a rs aO Cn;simp only[jI,Prod.mk.injEq]at h;obtain⟨J,aa,aI,bl⟩:=h
    exact⟨fn,body,tF,ah,J,GF _ _ (by rw[aO,bl]),aa,by rw[Cn,aI]⟩
   .cases h
  .cases h
 .cases h
end
end Go.ea
