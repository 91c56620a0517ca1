/- Texts of the proof: Am11, Am12, Am13, Am14, Am15, Am16, Am17, AmE, AmA, AmA2, AmA3, AmA4, AmA5, Am18, Am19. -/
import Derived.Test.YtbocmenkkjbigaaDoorP0
import Derived.OrdersIn
import Derived.LoopNIn
import Derived.RangeFuncLeaves
import Derived.RangeFuncNested
import Derived.Laws.Sem
import Derived.Shelf.Abstract
set_option linter.all false
namespace Go.dO
open Go.RowKit
section
variable {aE:fD} {μ ca:dn} {ab b6:Nat->Prop} {w w':World} {H H':az} {P:Program} [oG aE P]
def aHX(h:cB aE μ ab w H){t agg n}(aq:uK P t=some (agg,n)){x v c}(ae:bM μ ab w x c)(av:iT H agg n x=some v):
 di aE μ ab w H ((do pure (.value (<- Instr.loadAt t c)):Sem Next).run P w) v H:=by
 obtain⟨r,J,U⟩:=aep (P:=P) aq h ae av
 exact di.still h U (by simp only[Sem.run_bind,J,eb,Sem.run_pure])
def auX(h:cB aE μ ab w H){t agg n base}(aq:uK P t=some (agg,n)){x y c d}(ae:bM μ ab w x c)(bA:bM μ ab w y d)(av:Am H base n y x=some H'):
 di aE μ ab w H ((do Instr.storeAt t c d;pure .skip:Sem Next).run P w) bR H':=by
 obtain⟨_,U,_⟩:=QV aq;unfold Am at av;split at av
 case h_2=>cases av
 rename_i id g off;split at av
 case isFalse=>cases av
 split at av
 case h_2=>cases av
 rename_i row jZ;split at av
 case isFalse=>cases av
 rename_i gi;obtain⟨aN,ak,hE⟩:=gi;cases av;obtain⟨B,b,hm,rfl⟩:=G1 ae;have gv:=wG bA hE
 obtain⟨aV,ar,aj⟩:=SN (P:=P) h jZ hm (by rw[aN];exact ak) gv hE
 refine⟨Go.undef,aV,_,_,.inr ⟨?_,rfl⟩,.s _,aj⟩
 have de:d.cells.size=n:=by rw[<- aN,gv.1];simp
 simp only[Instr.storeAt,Instr.sureAddr,storeVar,Sem.run_bind,Sem.run_pure,eb,run_sizeOf U,Sem.run_ite,de,ne_eq,MP,gx,ar]
def uc{a:Act}{fr:List V}(al:c9 μ ab w fr a.tmps){x:Option Operand}{y:Option cY}(aa:tN x=some y){d:Nat}{l:Int}(h:hg fr d y=some l):nN (x.map a.eval) d l:=by
 cases x with
 |none=>simp[tN]at aa;subst aa;simp[hg]at h;exact .inl ⟨rfl,h.symm⟩
 |some x=>
   simp only[tN,fo]at aa;obtain⟨z,b5,rfl⟩:=aa;have av:=dY al b5;simp only[hg]at h;unfold Bi at h;split at h
   .rename_i k n e;rw[e]at av;cases h
    exact .inr ⟨k,by simp[eA av]⟩
   .cases h
def Yb{x c n}(ae:bM μ ab w x c)(h:Bi x=some n):∃k,c=.int k n:=by
 unfold Bi at h;split at h
 .cases h;exact⟨_,eA ae⟩
 .cases h
set_option maxHeartbeats 1000000 in
def Au(h:cB aE μ ab w H){a:Act}{fr:List V}(al:c9 μ ab w fr a.tmps){pure':gH}{o:Oper}{pN:b3}{call:c5}{base:Nat}{v:V}(aa:tR P pure' o=some pN)(ix:pN.kh=false)(ag:bf call base fr H pN=some (v,H')):di aE μ ab w H ((execOp a.eval o).run P w) v H':=by
 obtain⟨dst,op,type,pos,after,guard⟩:=o;cases op<;>simp only[tR]at aa
 case move x=>
  rw[fo]at aa;obtain⟨y,bA,rfl⟩:=aa;cases ag;exact di.still h (dY al bA) rfl
 case assign x=>
  rw[fo]at aa;obtain⟨y,bA,rfl⟩:=aa;cases ag;exact di.still h (dY al bA) rfl
 case pick c x y=>
  simp only[fW,eL,fF]at aa;obtain⟨c',k0,gw,er,w6,jR,e⟩:=aa;cases e;have gv:=dY al k0;simp only[bf]at ag;split at ag
  .rename_i e;rw[e]at gv;cases ag
   exact di.still h (dY al er) (by simp[execOp,eA gv,asBool])
  .rename_i e;rw[e]at gv;cases ag
   exact di.still h (dY al jR) (by simp[execOp,eA gv,asBool])
  .cases ag
 case alloc t=>
  split at aa
  .rename_i z b5;split at aa
   .rename_i MK;rw[fo]at aa;obtain⟨c,aa,rfl⟩:=aa;cases ag;exact(WZ b5 aa (oG.ok _ MK)).op h
   .cases aa;cases ag;exact aC4 h b5
  .cases aa
 case box t x=>
  rw[fo]at aa;obtain⟨y,bA,rfl⟩:=aa;simp only[bf]at ag;split at ag
  .rename_i J;cases ag;exact aFF h (dY al bA) J
  .cases ag
 case build t parts=>
  simp only[fW,eL]at aa;obtain⟨z,b5,aa⟩:=aa;split at aa
  .rename_i bG aO;simp only[fF,eL]at aa;obtain⟨pl,e0,mW,qp,e⟩:=aa;cases e;simp only[bf]at ag;split at ag
   .rename_i cs r8;cases ag;exact aBi h al b5 aO e0 qp r8
   .cases ag
  .cases aa
 case buildSlice t len parts=>
  simp only[fW,eL]at aa;obtain⟨e,he,sz,de,z,b5,aa⟩:=aa
  have aO:P.underlying t=some (.slice e):=by
   unfold ry at he;split at he
   .cases he;assumption
   .cases he
  split at aa
  .rename_i gi;obtain⟨a1,af,oN⟩:=gi;simp only[fF,eL]at aa;obtain⟨mW,qp,e⟩:=aa;cases e;simp only[bf]at ag;split at ag
   .rename_i cs r8;cases ag;exact aFB h al aO de b5 a1 af oN qp r8
   .cases ag
  .cases aa
 case insert t m k x=>
  split at aa
  .rename_i nK e aO;simp only[fW,eL,fF]at aa;obtain⟨kind,an,jw,gL,gT,kQ,gw,er,e⟩:=aa;cases e;simp only[bf]at ag;split at ag
   .rename_i id key aF aK;split at ag
    .rename_i gi;split at ag
     .rename_i es bu;have zk:=dY al gL;have tZ:=dY al kQ;rw[aF]at zk;rw[aK]at tZ;have:=adO h aO an zk (dY al er) gi.2 bu ag
      simpa only[execOp,eA tZ]using this
     .cases ag
    .cases ag
   .cases ag
  .cases aa
 case mapUpdate t m k x=>
  split at aa
  .rename_i nK e aO;simp only[fW,eL,fF]at aa;obtain⟨kind,an,jw,gL,gT,kQ,gw,er,e⟩:=aa;cases e;simp only[bf]at ag;split at ag
   .rename_i id key aF aK;split at ag
    .rename_i gi;split at ag
     .rename_i es bu;have zk:=dY al gL;have tZ:=dY al kQ;rw[aF]at zk;rw[aK]at tZ;have:=adO h aO an zk (dY al er) gi.2 bu ag
      simpa only[execOp,eA tZ]using this
     .cases ag
    .cases ag
   .cases ag
  .cases aa
 case lookup t m k ok=>
  split at aa
  .rename_i nK e aO;simp only[fW,eL,fF]at aa;obtain⟨kind,an,z,b5,jw,gL,gT,kQ,e⟩:=aa;cases e;simp only[bf]at ag;split at ag
   .rename_i key aK;split at ag
    .rename_i q0;have tZ:=dY al kQ;rw[aK]at tZ;have:=ayX h aO an b5 (dY al gL) q0 ag
     simpa only[execOp,eA tZ]using this
    .cases ag
   .cases ag
  .cases aa
 case load t x=>
  simp only[fW,eL,fF]at aa;obtain⟨⟨agg,n⟩,aq,gw,er,e⟩:=aa;cases e;simp only[bf,fo]at ag;obtain⟨r,ar,e⟩:=ag;cases e;exact aHX h aq (dY al er) ar
 case store t x y=>
  simp only[fW,eL,fF]at aa;obtain⟨⟨agg,n⟩,aq,gw,er,w6,jR,e⟩:=aa;cases e;simp only[bf,fo]at ag;obtain⟨r,ar,e⟩:=ag;cases e;exact auX h aq (dY al er) (dY al jR) ar
 case nilCheck x=>
  rw[fo]at aa;obtain⟨y,bA,rfl⟩:=aa;have av:=dY al bA;simp only[bf]at ag;split at ag
  .rename_i e;rw[e]at av;cases ag;obtain⟨B,b,hm,u9⟩:=G1 av
   exact di.still h av (by simp[execOp,u9])
  .rename_i e;rw[e]at av;cases ag;obtain⟨p,u9,_⟩:=Rx av
   exact di.still h av (by simp[execOp,u9])
  .rename_i f fst cap e;rw[e]at av;cases ag;generalize gv:a.eval x=c at av;cases av with
   |fn _ _ _ fs eP J U ax aY=>exact di.still h (.fn f fst cap fs eP J U ax aY) (by simp[execOp,gv])
  .rename_i id e;rw[e]at av;cases ag;generalize gv:a.eval x=c at av;cases av with
   |fg _ B hm=>exact di.still h (.fg id B hm) (by simp[execOp,gv])
  .cases ag
 case binOp op t x y ty=>
  unfold Jg at aa;split at aa
  .rename_i neg k aT aN;rw[fo]at aa;obtain⟨gw,er,rfl⟩:=aa;simp only[bf]at ag;split at ag
   .rename_i b af;cases ag;exact di.still h (.s _) (akk aT (dY al er) af a.eval (fun _=>rfl) (.inl ⟨aN,rfl⟩))
   .cases ag
  .rename_i neg k aT _ aN;rw[fo]at aa;obtain⟨gw,er,rfl⟩:=aa;simp only[bf]at ag;split at ag
   .rename_i b af;cases ag;exact di.still h (.s _) (akk aT (dY al er) af a.eval (fun _=>rfl) (.inr ⟨aN,rfl⟩))
   .cases ag
  .split at aa
   .rename_i gw w6 aO er jR;cases aa;simp only[bf]at ag;split at ag
    .rename_i p q aF aK;rw[fo]at ag;obtain⟨r,ar,e⟩:=ag;cases e;have J:=dY al er;have U:=dY al jR;rw[aF]at J;rw[aK]at U
     exact di.still h (.s _) (by simp only[execOp,eA J,eA U];exact Y1 ar)
    .cases ag
   .rename_i gw w6 aO er jR;cases aa;simp only[bf]at ag;split at ag
    .rename_i p q aF aK;rw[fo]at ag;obtain⟨r,ar,e⟩:=ag;cases e;have J:=dY al er;have U:=dY al jR;rw[aF]at J;rw[aK]at U
     exact di.still h (.s _) (by simp only[execOp,eA J,eA U];exact Y1 ar)
    .cases ag
   .rename_i gw w6 aO er jR;split at aa
    .rename_i neg aT;cases aa;simp only[bf]at ag;split at ag
     .rename_i p q aF aK;cases ag;have J:=dY al er;have U:=dY al jR;rw[aF]at J;rw[aK]at U
      exact di.still h (.s _) (by simp only[execOp,eA J,eA U];exact avN aT aO)
     .cases ag
    .cases aa
   .rename_i bw gw w6 aO er jR;split at aa
    .rename_i neg n aT aN;split at aa
     .rename_i a1;cases aa;simp only[bf]at ag;split at ag
      .rename_i i g fK j EM jU aF aK;split at ag
       .cases ag
       .rename_i vK;split at ag
        .rename_i cq cN FI oC;cases ag;have J:=dY al er;have U:=dY al jR;rw[aF]at J;rw[aK]at U;generalize k1:a.eval x=v1 at J;generalize k2:a.eval y=v2 at U;cases J with
         |ref _ _ _ B b hm=>cases U with
           |ref _ _ _ Ai b' gL=>
             obtain⟨arr,ty,aI,_⟩:=h.row FI hm;obtain⟨eB,aJV,nB,_⟩:=h.row oC gL
             have dq:(⟨B,b+fK,none⟩:Addr)≠⟨Ai,b'+jU,none⟩:=by
              intro e;have:B=Ai:=dX Addr.block e;subst this;exact vK (h.inj _ _ _ _ _ _ _ hm gL)
             exact di.still h (.s _) (by simp only[execOp,k1,k2];exact aHl aT aO aN a1 dq aI nB)
        .cases ag
      .cases ag
     .cases aa
    .cases aa
   .rename_i bG gw w6 aO er jR;split at aa
    .rename_i neg ls aT O5;split at aa
     .cases aa
     .rename_i bb;cases aa;simp only[bf]at ag;split at ag
      .rename_i xs dW aF aK;split at ag
       .rename_i b af;cases ag;have J:=dY al er;have U:=dY al jR;rw[aF]at J;rw[aK]at U;obtain⟨cq,k1,v1⟩:=SV J;obtain⟨cN,k2,v2⟩:=SV U
        exact di.still h (.s _) (by simp only[execOp,k1,k2];exact aHE aT aO (by simpa using bb) O5 v1 v2 af)
       .cases ag
      .cases ag
    .cases aa
   .cases aa
 case unOp op t x=>
  simp only[fW]at aa
  have key:∀gw,lc x=some gw->pN=.un op gw->di aE μ ab w H ((execOp a.eval ⟨dst,.unOp op t x,type,pos,after,guard⟩).run P w) v H':=by
   intro gw er he;subst he;have av:=dY al er;simp only[bf]at ag;split at ag
   .rename_i b e;rw[e]at av;cases ag
    exact di.still h (.s _) (by simp[execOp,eA av,Op.unary])
   .rename_i k n e;rw[e]at av;cases ag
    exact di.still h (.s _) (by simp[execOp,eA av,Op.unary,Op.intArith])
   .rename_i k n e;rw[e]at av;rw[fo]at ag;obtain⟨r,ar,e⟩:=ag;cases e;simp only[ir,ne_eq,MP,gx,hW]at ar;subst ar
    exact di.still h (.s _) (by simp[execOp,eA av,Op.unary,Op.intBits])
   .cases ag
  cases op
  case plus=>cases aa
  all_goals
   rw[eL]at aa;obtain⟨gw,er,e⟩:=aa;cases e;exact key gw er rfl
 case convert src aJr x=>
  split at aa
  .rename_i k1 k2 aq aQ;rw[fo]at aa;obtain⟨gw,er,rfl⟩:=aa;have av:=dY al er;simp only[bf]at ag;split at ag
   .rename_i q n e;rw[e]at av;cases ag
    exact di.still h (.s _) (by simp[execOp,eA av,convert,run_underlying aq,run_underlying aQ,Conv.intToInt])
   .cases ag
  .rename_i aq aQ;rw[fo]at aa;obtain⟨gw,er,rfl⟩:=aa;have av:=dY al er;simp only[bf]at ag;split at ag
   .rename_i q e;rw[e]at av;cases ag
    exact di.still h (.s _) (by simp[execOp,eA av,convert,run_underlying aq,run_underlying aQ])
   .cases ag
  .rename_i e aq aQ;split at aa
   .rename_i he;rw[fo]at aa;obtain⟨gw,er,rfl⟩:=aa;have av:=dY al er;simp only[bf,fo]at ag;obtain⟨r,ar,ck⟩:=ag;cases ck;exact auH h aq aQ he av ar rfl rfl
   .cases aa
  .cases aa
 case makeFunc fn first cap=>
  cases fn<;>simp only at aa
  case func f=>
   simp only[fW,eL,fF]at aa;obtain⟨x,ae,y,bA,e⟩:=aa;cases e;cases ag;have J:=Di al ae;have U:=Di al bA
   refine di.still h (c:=.func (.func f) (first.map a.eval) (cap.map a.eval)) (.fn f _ _ _ _ (by simpa using J.1) (by simpa using U.1) (fun i p q aj bD=>J.2 i p q aj (by simpa using bD)) (fun i p q aj bD=>U.2 i p q aj (by simpa using bD))) rfl
  all_goals cases aa
 case makeMap t r=>
  cases r<;>simp only at aa
  .cases aa;cases ag;exact aDz h t
  .cases aa
 case makeSlice t x y=>
  simp only[fW,eL]at aa;obtain⟨e,he,i,hi,z,b5,aa⟩:=aa
  have aO:P.underlying t=some (.slice e):=by
   unfold ry at he;split at he
   .cases he;assumption
   .cases he
  split at aa
  .rename_i gi;simp only[fF,eL]at aa;obtain⟨gw,er,w6,jR,e⟩:=aa;cases e;simp only[bf]at ag;split at ag
   .rename_i k1 l k2 c aF aK;split at ag
    .rename_i af;cases ag;have J:=dY al er;have U:=dY al jR;rw[aF]at J;rw[aK]at U;have:=aCT (k1:=k1) (k2:=k2) h aO hi b5 gi.1 gi.2.1 gi.2.2 af.1 af.2.1 af.2.2
     simpa only[execOp,eA J,eA U]using this
    .cases ag
   .cases ag
  .cases aa
 case slice t x cz hi ft=>
  split at aa
  .rename_i aO;cases ft<;>simp only at aa
   .simp only[fW,eL,fF]at aa;obtain⟨gw,er,aCE,A1,ot,xm,e⟩:=aa;cases e;simp only[bf]at ag;split at ag
    .rename_i b aF;split at ag
     .rename_i l hh el wz;split at ag
      .rename_i gi;cases ag;have J:=dY al er;rw[aF]at J;have:=aCt (P:=P) (w:=w) aO (uc al A1 el) (uc al xm wz) gi.1 gi.2.1 gi.2.2
       exact di.still h (.s _) (by simpa only[execOp,eA J,AX]using this)
      .cases ag
     .cases ag
    .cases ag
   .cases aa
  .rename_i e aO;simp only[fW,eL]at aa;obtain⟨sz,de,aa⟩:=aa;split at aa
   .simp only[fF,eL]at aa;obtain⟨gw,er,aCE,A1,ot,xm,aJI,JA,e⟩:=aa;cases e;have J:=dY al er;simp only[bf]at ag;cases ft with
    |none=>
      simp[tN]at JA;subst JA;simp only at ag
      haveI:∀(d hh:Int),Decidable (nN (hi.map a.eval) d hh):=fun _ _=>Classical.propDecidable _
      have run:∀(l hh:Int) (u:V),nN (cz.map a.eval) 0 l->(match aX fr gw with
       |.s (.slice none 0 0)=>if nN (hi.map a.eval) 0 hh/\l=0/\hh=0 then some bz else none
       |.db=>if nN (hi.map a.eval) 0 hh/\l=0/\hh=0 then some .db else none
       |.du es dF=>if nN (hi.map a.eval) es.length hh/\0<=l/\l<=hh/\hh<=es.length/\dF=sz then some (V.du ((es.drop l.toNat).take (hh-l).toNat) sz)else none
       |.aB id g off len dF=>if nN (hi.map a.eval) len hh/\0<=l/\l<=hh/\hh<=len/\dF=sz then some (V.aB id g (off+l.toNat*sz) (hh-l).toNat sz)else none
       |_=>none)=some u->di aE μ ab w H ((execOp a.eval ⟨dst,.slice t x cz hi none,type,pos,after,guard⟩).run P w) u H:=by
       intro l hh u ak he;have:=aAq h aO de J ak (hi:=hi.map a.eval) (hh:=hh) he
       simpa only[execOp,AX]using this
      split at ag
      .rename_i aF;split at ag
       .rename_i el wz;cases ag
        exact run 0 0 _ (uc al A1 el) (by rw[aF];simp only;rw[a' ⟨uc al xm wz,by trivial,by trivial⟩])
       .cases ag
      .rename_i aF;split at ag
       .rename_i el wz;cases ag
        exact run 0 0 _ (uc al A1 el) (by rw[aF];simp only;rw[a' ⟨uc al xm wz,by trivial,by trivial⟩])
       .cases ag
      .rename_i es dF aF;split at ag
       .rename_i l hh el wz;split at ag
        .rename_i gi;cases ag
         exact run l hh _ (uc al A1 el) (by rw[aF];simp only;rw[a' ⟨uc al xm wz,gi⟩])
        .cases ag
       .cases ag
      .rename_i id g off len dF aF;split at ag
       .rename_i l hh el wz;split at ag
        .rename_i gi;cases ag
         exact run l hh _ (uc al A1 el) (by rw[aF];simp only;rw[a' ⟨uc al xm wz,gi⟩])
        .cases ag
       .cases ag
      .cases ag
    |some m=>
      simp only[tN,fo]at JA;obtain⟨jw,gL,rfl⟩:=JA;simp only at ag;split at ag
      .rename_i lh wz el;cases hi with
       |none=>simp[tN]at xm
       |some hi=>
         simp only[tN,fo]at xm;obtain⟨aKo,axM,e⟩:=xm;cases e;split at ag
         .rename_i aF aK;obtain⟨k1,cq⟩:=Yb (dY al axM) aF;obtain⟨k2,cN⟩:=Yb (dY al gL) aK;have:=aqn (k1:=k1) (k2:=k2) h aO de J (uc al A1 el) ag
          simpa only[execOp,mD,cq,cN]using this
         .cases ag
      .cases ag
   .cases aa
  .cases aa
 case fieldAddr t x f=>
  split at aa
  .rename_i bG aO;simp only[fW,eL]at aa;obtain⟨fd,rQ,n,aN,aa⟩:=aa;split at aa
   .rename_i a1;simp only[fF,eL]at aa;obtain⟨gw,er,e⟩:=aa;cases e;simp only[bf]at ag;exact aH6 h aO rQ aN a1 (dY al er) ag
   .cases aa
  .cases aa
 case field t x f=>
  split at aa
  .rename_i bG aO;simp only[fW,eL,fF]at aa;obtain⟨fd,rQ,⟨agg,n⟩,aq,gw,er,e⟩:=aa;cases e;simp only[bf]at ag;split at ag
   .rename_i cs aF;split at ag
    .rename_i ak;rw[fo]at ag;obtain⟨u,hu,e⟩:=ag;cases e;have J:=dY al er;rw[aF]at J;exact aEE h aO rQ aq J ak hu
    .cases ag
   .cases ag
  .cases aa
 case indexAddr t x i=>
  simp only[fW,eL]at aa;obtain⟨e,he,sz,de,aa⟩:=aa
  have aO:P.underlying t=some (.slice e):=by
   unfold ry at he;split at he
   .cases he;assumption
   .cases he
  split at aa
  .simp only[fF,eL]at aa;obtain⟨gw,er,wk,ot,e⟩:=aa;cases e;have J:=dY al er;have U:=dY al ot;simp only[bf]at ag;split at ag
   .rename_i id g off len dF k n aF aK;rw[aF]at J;rw[aK]at U;have:=aaG (k:=k) (n:=n) h aO de J ag
    simpa only[execOp,eA U]using this
   .rename_i es dF k n aF aK;rw[aF]at J;rw[aK]at U;have:=aaG (k:=k) (n:=n) h aO de J ag
    simpa only[execOp,eA U]using this
   .cases ag
  .cases aa
 case index t x i=>
  split at aa
  .rename_i aO;simp only[fW,eL,fF]at aa;obtain⟨gw,er,wk,ot,e⟩:=aa;cases e;have J:=dY al er;have U:=dY al ot;simp only[bf]at ag;split at ag
   .rename_i b k n aF aK;rw[aF]at J;rw[aK]at U;split at ag
    .rename_i a1;split at ag
     .rename_i c mg;cases ag;have:=azJ (P:=P) (w:=w) (k:=k) aO a1 mg
      exact di.still h (.s _) (by simpa only[execOp,eA J,eA U]using this)
     .cases ag
    .cases ag
   .cases ag
  .cases aa
 case extract x i=>
  rw[fo]at aa;obtain⟨y,bA,rfl⟩:=aa;have av:=dY al bA;simp only[bf]at ag;split at ag
  .rename_i vs aF;rw[aF]at av;split at ag
   .rename_i u hu;cases ag;obtain⟨cs,u9,kS⟩:=aBm av;obtain⟨b,af,aqV⟩:=kS.get hu
    have fY:cs[i]?=some b:=by simpa using af
    exact di.still h aqV (by simp[execOp,u9,Instr.extract,fY])
   .cases ag
  .cases ag
 case call c=>
  obtain⟨callee,args,argTypes⟩:=c;cases callee<;>simp only at aa
  case value f=>
   simp only[fW,eL]at aa;obtain⟨xs,qQ,aa⟩:=aa;split at aa
   .split at aa
    .cases aa;simp[b3.kh]at ix
    .simp only[fF,eL]at aa;obtain⟨y,bA,e⟩:=aa;cases e;simp[b3.kh]at ix
   .simp only[fF,eL]at aa;obtain⟨y,bA,e⟩:=aa;cases e;simp[b3.kh]at ix
  case invoke=>cases aa
  case builtin b=>
   have uv:∀b,execOp a.eval ⟨dst,.call { callee:=.builtin b,args,argTypes },type,pos,after,guard⟩=builtin b argTypes type (args.map fun|.const _=>true|_=>false) (args.map a.eval):=fun _=>rfl
   rw[uv];split at aa
   .rename_i x t aD lC
    have ma:args.map a.eval=#[a.eval x]:=by
     apply pq;simp[aD]
    have pd:argTypes[0]?=some t:=by
     have:argTypes.toList[0]?=some t:=by rw[lC];rfl
     simpa using this
    rw[ma];have x':∀(d:TypeDesc) (c:Value) (n:Int),P.underlying t=some d->a.eval x=c->(Builtin.len_ argTypes type #[c]).run P w=.ok (goInt n) w->
     di aE μ ab w H ((builtin .len argTypes type (args.map fun|.const _=>true|_=>false) #[a.eval x]).run P w) (i64 n) H:=by
     intro d c n _ rf ar;refine di.still h (c:=.int .i64 n) (.s _) ?_;rw[rf]
     show((do pure (.value (<- Builtin.len_ argTypes type #[c])):Sem Next).run P w)=_
     simp only[Sem.run_bind,ar,eb,Sem.run_pure];rfl
    split at aa
    .rename_i aO;rw[fo]at aa;obtain⟨gw,er,rfl⟩:=aa;have av:=dY al er;simp only[bf]at ag
     split at ag<;>try cases ag
     all_goals rename_i aF aK;try cases aF
     all_goals
      rw[aK]at av
      exact x' _ _ _ aO (eA av) (by simp[Builtin.len_,pd,run_underlying aO])
    .rename_i el aO;rw[fo]at aa;obtain⟨gw,er,rfl⟩:=aa;have av:=dY al er;simp only[bf]at ag;split at ag
     .rename_i aF _;cases aF
     .rename_i aK;rw[aK]at av;cases ag
      exact x' _ _ _ aO (eA av) (by simp[Builtin.len_,pd,run_underlying aO])
     .rename_i aF _;cases aF
     .rename_i aK;rw[aK]at av;cases ag;generalize gv:a.eval x=c at av;cases av with
      |db acT=>rw[<- gv];exact x' _ _ _ aO gv (by simp[Builtin.len_,pd,run_underlying aO])
     .rename_i es sz aK;rw[aK]at av;cases ag;generalize gv:a.eval x=c at av;cases av with
      |du _ _ B o cap arr e fr aI bJ aa b5 aq qz=>rw[<- gv];exact x' _ _ _ aO gv (by simp[Builtin.len_,pd,run_underlying aO])
      |il _ cap acT=>rw[<- gv];exact x' _ _ _ aO gv (by simp[Builtin.len_,pd,run_underlying aO])
     .rename_i id g off len sz aK;rw[aK]at av;cases ag;generalize gv:a.eval x=c at av;cases av with
      |aB _ _ _ _ _ B b cap arr e hm aI oq aq=>rw[<- gv];exact x' _ _ _ aO gv (by simp[Builtin.len_,pd,run_underlying aO])
      |js _ _ _ _ B b acT hm=>rw[<- gv];exact x' _ _ _ aO gv (by simp[Builtin.len_,pd,run_underlying aO])
     .rename_i aF _;cases aF
     .cases ag
    .rename_i k el aO;rw[fo]at aa;obtain⟨gw,er,rfl⟩:=aa;have av:=dY al er;simp only[bf]at ag;split at ag
     .rename_i aF _;cases aF
     .rename_i aF _;cases aF
     .rename_i aK;rw[aK]at av;cases ag
      exact x' _ _ _ aO (eA av) (by simp[Builtin.len_,pd,run_underlying aO])
     .rename_i aF _;cases aF
     .rename_i aF _;cases aF
     .rename_i aF _;cases aF
     .rename_i id aK;rw[aK]at av;split at ag
      .rename_i es bu;cases ag;obtain⟨B,hm,u9⟩:=Lv av;obtain⟨arr,kp,aI,b8⟩:=h.IS bu hm
       have ak:es.length=arr.size:=by simpa using b8.1
       exact x' _ _ _ aO u9 (by simp[Builtin.len_,pd,run_underlying aO,run_getObj_map aI,ak])
      .cases ag
     .cases ag
    .cases aa
   .rename_i s x t jt aD lC
    have ma:args.map a.eval=#[a.eval s,a.eval x]:=by
     apply pq;simp[aD]
    have pd:argTypes[0]?=some t:=by
     have:argTypes.toList[0]?=some t:=by rw[lC];rfl
     simpa using this
    have aIX:argTypes[1]?=some jt:=by
     have:argTypes.toList[1]?=some jt:=by rw[lC];rfl
     simpa using this
    rw[ma];simp only[fW,eL]at aa;obtain⟨e,he,i,hi,z,b5,aa⟩:=aa
    have aO:P.underlying t=some (.slice e):=by
     unfold ry at he;split at he
     .cases he;assumption
     .cases he
    have fin:((∃bw,P.underlying jt=some (.slice bw))\/P.underlying jt=some .string)->(if 0<i.size/\0<i.bytes/\z.cells.length=i.size then(do return b3.append i.size (CA P e i.bytes) (<- lc s) (<- lc x))else none)=some pN->
     di aE μ ab w H ((builtin .append argTypes type (args.map fun|.const _=>true|_=>false) #[a.eval s,a.eval x]).run P w) v H':=by
     intro jx aa;split at aa
     .rename_i gi;simp only[fW,fF,eL]at aa;obtain⟨lQ,hC,gw,er,e⟩:=aa;cases e;exact avM h pd aIX aO jx hi b5 gi.2.2 gi.1 gi.2.1 (ayy P e i.bytes) (aD2 P gi.2.1) (dY al hC) (dY al er) ag
     .cases aa
    split at aa
    .rename_i bw jx;exact fin (.inl ⟨bw,jx⟩) aa
    .rename_i jx;exact fin (.inr jx) aa
    .cases aa
   .rename_i m k t jt aD lC
    have ma:args.map a.eval=#[a.eval m,a.eval k]:=by
     apply pq;simp[aD]
    have pd:argTypes[0]?=some t:=by
     have:argTypes.toList[0]?=some t:=by rw[lC];rfl
     simpa using this
    rw[ma];split at aa
    .rename_i nK e aO;simp only[fW,eL,fF]at aa;obtain⟨kind,an,jw,gL,gT,kQ,e⟩:=aa;cases e;simp only[bf]at ag;split at ag
     .rename_i id key aF aK;split at ag
      .rename_i gi;split at ag
       .rename_i es bu;have zk:=dY al gL;have tZ:=dY al kQ;rw[aF]at zk;rw[aK]at tZ;rw[eA tZ];exact aFQ h pd aO an zk gi.2 bu ag
       .cases ag
      .cases ag
     .cases ag
    .cases aa
   .rename_i x t aD lC
    have ma:args.map a.eval=#[a.eval x]:=by
     apply pq;simp[aD]
    have pd:argTypes[0]?=some t:=by
     have:argTypes.toList[0]?=some t:=by rw[lC];rfl
     simpa using this
    rw[ma];simp only[fW,eL,fF]at aa;obtain⟨e,he,sz,de,z,b5,aa⟩:=aa;split at aa
    .rename_i gi;simp only[eL]at aa;obtain⟨gw,er,aF⟩:=aa;cases aF
     have aO:P.underlying t=some (.slice e):=by
      unfold ry at he;split at he
      .rename_i aK U;cases he;exact U
      .cases he
     exact aFb h pd aO b5 gi.1 gi.2 (base:=base) ag (dY al er)
    .cases aa
   .rename_i d s t jt aD lC
    have ma:args.map a.eval=#[a.eval d,a.eval s]:=by
     apply pq;simp[aD]
    have pd:argTypes[0]?=some t:=by
     have:argTypes.toList[0]?=some t:=by rw[lC];rfl
     simpa using this
    rw[ma];simp only[fW,eL,fF]at aa;obtain⟨e,he,sz,de,aa⟩:=aa;split at aa
    .split at aa
     .rename_i gi;simp only[eL]at aa;obtain⟨aKt,fz,lQ,hC,aF⟩:=aa;cases aF
      have aO:P.underlying t=some (.slice e):=by
       unfold ry at he;split at he
       .rename_i aK U;cases he;exact U
       .cases he
      exact atp h pd aO de gi (base:=base) ag (dY al fz) (dY al hC)
     .cases aa
    .cases aa
   .rename_i x y aD
    have ma:args.map a.eval=#[a.eval x,a.eval y]:=by
     apply pq;simp[aD]
    rw[ma];simp only[fW,eL,fF]at aa;obtain⟨gw,er,w6,jR,e⟩:=aa;cases e;have J:=dY al er;have U:=dY al jR;simp only[bf]at ag;split at ag
    .rename_i k p gT q aF aK;split at ag
     .rename_i an;cases ag;rw[aF]at J;rw[aK]at U;rw[eA J,eA U]
      exact di.still h (.s _) (by simp[builtin,Builtin.min_,Builtin.min2])
     .cases ag
    .cases ag
   .rename_i x y aD
    have ma:args.map a.eval=#[a.eval x,a.eval y]:=by
     apply pq;simp[aD]
    rw[ma];simp only[fW,eL,fF]at aa;obtain⟨gw,er,w6,jR,e⟩:=aa;cases e;have J:=dY al er;have U:=dY al jR;simp only[bf]at ag;split at ag
    .rename_i k p gT q aF aK;split at ag
     .rename_i an;cases ag;rw[aF]at J;rw[aK]at U;rw[eA J,eA U]
      exact di.still h (.s _) (by simp[builtin,Builtin.max_,Builtin.max2])
     .cases ag
    .cases ag
   .cases aa
 all_goals cases aa
def ayc{a:Act}{fr:List V}(al:c9 μ ab w fr a.tmps){pure':gH}{o:Oper}{pN:b3}{call:c5}{base:Nat}{v:V}(aa:tR P pure' o=some pN)(aN:pN.Aj=true)(ag:bf call base fr H pN=some (v,H')):∃yv bo,v=yv H.length/\H'=H++[bo]/\bo.cur 0/\(∀m id,id<m->e' m (yv id))/\vV aE μ ab w ((execOp a.eval o).run P w) yv bo:=by
 obtain⟨dst,op,type,pos,after,guard⟩:=o;have Bz:∀m id,id<m->e' m (V.ref id 0 0):=fun m id h=>.ref _ _ _ h;have ed:tR P pure' { dst:=dst,op:=op,type:=type,pos:=pos,after:=after,guard:=guard }=some pN:=aa;cases op<;>simp only[tR]at aa
 case alloc t=>
  split at aa
  .rename_i z b5;split at aa
   .rename_i MK;rw[fo]at aa;obtain⟨c,aa,rfl⟩:=aa;cases ag;exact⟨_,_,rfl,rfl,rfl,Bz,WZ b5 aa (oG.ok _ MK)⟩
   .cases aa;cases ag;exact⟨_,_,rfl,rfl,rfl,Bz,afd b5⟩
  .cases aa
 case box t x=>
  rw[fo]at aa;obtain⟨y,bA,rfl⟩:=aa;simp only[bf]at ag;split at ag
  .rename_i J;cases ag;exact⟨_,_,rfl,rfl,rfl,Bz,ael (dY al bA) J⟩
  .cases ag
 case buildSlice t len parts=>
  simp only[fW,eL]at aa;obtain⟨e,he,sz,de,z,b5,aa⟩:=aa
  have aO:P.underlying t=some (.slice e):=by
   unfold ry at he;split at he
   .cases he;assumption
   .cases he
  split at aa
  .rename_i gi;obtain⟨a1,af,oN⟩:=gi;simp only[fF,eL]at aa;obtain⟨mW,qp,e⟩:=aa;cases e;simp only[bf]at ag;split at ag
   .rename_i cs r8;cases ag
    exact⟨fun id=>if len=0 then .db else .aB id 0 0 len sz,_,rfl,rfl,rfl,fun m id h=>by dsimp only;split;exact .db;exact .aB _ _ _ _ _ h,acK al aO de b5 a1 af oN qp r8⟩
   .cases ag
  .cases aa
 case makeMap t r=>
  cases r<;>simp only at aa
  .cases aa;cases ag;exact⟨_,_,rfl,rfl,rfl,fun m id h=>.mp _ h,ah1 t⟩
  .cases aa
 case makeSlice t x y=>
  simp only[fW,eL]at aa;obtain⟨e,he,i,hi,z,b5,aa⟩:=aa
  have aO:P.underlying t=some (.slice e):=by
   unfold ry at he;split at he
   .cases he;assumption
   .cases he
  split at aa
  .rename_i gi;simp only[fF,eL]at aa;obtain⟨gw,er,w6,jR,e⟩:=aa;cases e;simp only[bf]at ag;split at ag
   .rename_i k1 l k2 c aF aK;split at ag
    .rename_i af;cases ag;have J:=dY al er;have U:=dY al jR;rw[aF]at J;rw[aK]at U;have:=abO (aE:=aE) (μ:=μ) (ab:=ab) (w:=w) (k1:=k1) (k2:=k2) aO hi b5 gi.1 gi.2.1 gi.2.2 af.1 af.2.1 af.2.2;refine⟨fun id=>.aB id 0 0 l.toNat i.size,_,rfl,rfl,rfl,fun m id h=>.aB _ _ _ _ _ h,?_⟩
     simpa only[execOp,eA J,eA U]using this
    .cases ag
   .cases ag
  .cases aa
 all_goals
  exfalso;revert aN
  have an:pN.Aj=false:=by
   clear ag ed
   repeat' (first|contradiction|rfl|(unfold Jg at aa)|(cases aa;done)|(cases aa;rfl)|(rw[fo]at aa;obtain⟨_,_,rfl⟩:=aa)|(obtain⟨_,_,aa⟩:=aa)|(split at aa)|(simp only[fW,eL,fF,hW]at aa))
  rw[an];intro h;cases h
def az8{pure':gH}{o pN}(aa:tR P pure' o=some pN)(aN:pN.hB=true):∃n a x y,pN=.store n a x/\lc y=some a:=by
 obtain⟨dst,op,type,pos,after,guard⟩:=o;cases op<;>simp only[tR]at aa
 case store t a x=>
  simp only[fW,eL,fF,hW]at aa;obtain⟨_,_,bL,aD,gw,ae,rfl⟩:=aa;exact⟨_,_,_,_,rfl,aD⟩
 all_goals
  exfalso;revert aN
  have an:pN.hB=false:=by
   repeat' (first|contradiction|rfl|(unfold Jg at aa)|(cases aa;done)|(cases aa;rfl)|(rw[fo]at aa;obtain⟨_,_,rfl⟩:=aa)|(obtain⟨_,_,aa⟩:=aa)|(split at aa)|(simp only[fW,eL,fF,hW]at aa))
  rw[an];intro h;cases h
end
def hX(ro:Option Nat):Fence:={ fn:=fun _=>True,depth:=none,alive:=false,round:=ro }
section
variable {aE:fD} {μ ca:dn} {ab b6:Nat->Prop} {w w':World} {H H':az} {P:Program} [oG aE P]
def nr(aE:fD)(μ:dn)(ab:Nat->Prop)(w:World)(H:az)(r:V)(H':az)(e:Ending)(w':World):Prop:=
 ∃c ca b6,e=.returned c/\bM ca b6 w' r c/\dm aE μ ab w H ca b6 w' H'
structure oz (P:Program) (aE:fD) (call:c5):Prop where
 fn:∀(f:Nat) (fst cap args:List V) (base:Nat) (H:az) (r:V) (H':az),call (.fn f fst cap) args base H=some (r,H')->
  (∀xs w,(callFunc f xs).run P w=.ok (.enter f xs) w)/\
  ∀(μ:dn) (ab:Nat->Prop) (w:World) (cs:List Value),cB aE μ ab w H->b0 μ ab w (fst++args++cap) cs->∀n,CallsIn Fence.wide n P f cs.toArray w (nr aE μ ab w H r H')
 fg:∀(id:Nat) (args:List V) (base:Nat) (H:az) (r:V) (H':az),call (.fg id) args base H=some (r,H')->
  ∀(μ:dn) (ab:Nat->Prop) (w:World) (cs:List Value) (B:Nat),cB aE μ ab w H->b0 μ ab w args cs->μ id 0=some (B,0)->
    ∃f tmps assign body,(Instr.yield B cs.toArray).run P w=.ok (.round B f tmps assign body) w/\∀n,RoundIn Fence.wide n P B f tmps assign body w (nr aE μ ab w H r H')
 other:∀v args base H,(∀f a b,v≠.fn f a b)->(∀id,v≠.fg id)->call v args base H=none
 floor:∀v args base H r H',call v args base H=some (r,H')->H.length<=H'.length/\∀id,id<base->id<H.length->H'[id]?=H[id]?
def aBE{call:c5}(aq:oz P aE call)(h:cB aE μ ab w H){f:V}{IL:Value}{args:List V}{GK:Array Value}{base:Nat}{v:V}(al:bM μ ab w f IL)(aD:b0 μ ab w args GK.toList)(ag:call f args base H=some (v,H')){ro:Option Nat}{n:Nat}{o:Oper}{a:Act}{c:Call}{next:Act->World->Prop}{Q:Exit->Act->World->Prop}(aT:o.op=.call c){g:Operand}(bb:c.callee=.value g)(aa4:a.eval g=IL)(ma:c.args.map a.eval=GK)(o2:∀r w',nr aE μ ab w H v H' (.returned r) w'->next (a.put o.dst r) w'):o.wpIn (hX ro) n P a w next Q:=by
 refine⟨fun _ _=>trivial,?_⟩
 rw[Oper.semAt_eq _ _ _ (by simp[aT])]
 have uv:execOp a.eval o=(do let d <- resolve a.eval c o.type;invoke d.target d.args):=by
  unfold execOp;rw[aT]
 rw[uv];by_cases r2:∃k x y,f=.fn k x y
 .obtain⟨k,x,y,rfl⟩:=r2;cases al with
  |fn _ _ _ fs eP J U ax aY=>
    obtain⟨qE,iQ⟩:=aq.fn k x y args base H v H' ag
    have dE:b0 μ ab w (x++args++y) (fs++GK++eP).toList:=by
     have ae:b0 μ ab w x fs.toList:=⟨by simpa using J,fun i p q aj bD=>ax i p q aj (by simpa using bD)⟩
     have bA:b0 μ ab w y eP.toList:=⟨by simpa using U,fun i p q aj bD=>aY i p q aj (by simpa using bD)⟩
     simpa using(ae.append aD).append bA
    have fp:(do let d <- resolve a.eval c o.type;invoke d.target d.args:Sem Next).run P w=.ok (.enter k (fs++GK++eP)) w:=by
     simp only[resolve,bb,aa4,ma,Deferred.ofValue,Sem.run_bind,Sem.run_pure,eb,invoke,qE]
    rw[fp];have aa:=iQ μ ab w _ h dE (n-1);simp only[yF]at aa
    refine⟨fun h=>by simp[hX]at h,aa.mono ?_⟩
    rintro e aV ⟨r,cA,cH,rfl,ar,aj⟩;exact o2 r aV ⟨r,cA,cH,rfl,ar,aj⟩
 .by_cases Lm:∃id,f=.fg id
  .obtain⟨id,rfl⟩:=Lm;cases al with
   |fg _ B hm=>
     obtain⟨k,tmps,assign,body,bA,apF⟩:=aq.fg id args base H v H' ag μ ab w GK.toList B h aD hm
     have fp:(do let d <- resolve a.eval c o.type;invoke d.target d.args:Sem Next).run P w=.ok (.round B k tmps assign body) w:=by
      simp only[resolve,bb,aa4,ma,Deferred.ofValue,Sem.run_bind,Sem.run_pure,eb,invoke,Array.empty_append]
      simpa using bA
     rw[fp]
     refine⟨fun h=>by simp[hX]at h,(apF (n-1)).mono ?_⟩
     rintro e aV ⟨r,cA,cH,rfl,ar,aj⟩;exact o2 r aV ⟨r,cA,cH,rfl,ar,aj⟩
  .have:=aq.other f args base H (fun k x y e=>r2 ⟨k,x,y,e⟩) (fun id e=>Lm ⟨id,e⟩);rw[this]at ag;cases ag
def FY{f:V->Option V}:∀{l us:List V},l.mapM f=some us->us.length=l.length/\∀(i:Nat) (u:V),us[i]?=some u->∃v,l[i]?=some v/\f v=some u:=by
 intro l
 induction l with
 |nil=>intro us h;simp at h;subst h;exact⟨rfl,fun i u h=>by simp at h⟩
 |cons x l aw=>
   intro us h;simp only[n1,fF,fW,eL]at h;obtain⟨v,av,aIf,ic,e⟩:=h;cases e;obtain⟨J,U⟩:=aw ic
   refine⟨by simp[J],fun i u hu=>?_⟩
   cases i with
   |zero=>simp at hu;subst hu;exact⟨x,rfl,av⟩
   |succ i=>simp at hu;obtain⟨dQ,aF,aK⟩:=U i u hu;exact⟨dQ,by simpa using aF,aK⟩
def Nh(h:cB aE μ ab w H)(bJ:∀B,¬ab B->¬b6 B)(aN:∀id g B b,μ id g=some (B,b)->¬b6 B):∀(n:Nat) {v u:V} {c:Value},bM μ ab w v c->gV H n v=some u->gE b6 w u c:=by
 intro n
 induction n with
 |zero=>intro v u c _ al;simp[gV]at al
 |succ n aw=>
   intro v u c av al;have lists:∀{cs us:List V} {vs:Array Value},cs.length=vs.size->(∀(i:Nat) (a:V) (b:Value),cs[i]?=some a->vs[i]?=some b->bM μ ab w a b)->cs.mapM (gV H n)=some us->
    us.length=vs.size/\∀(i:Nat) (a:V) (b:Value),us[i]?=some a->vs[i]?=some b->gE b6 w a b:=by
    intro cs us vs ak dE hm;obtain⟨J,U⟩:=FY hm
    refine⟨by rw[J,ak],fun i a b aD af=>?_⟩
    obtain⟨x,ae,Bl⟩:=U i a aD;exact aw (dE i x b ae af) Bl
   cases av with
   |s x=>simp[gV]at al;subst al;exact .s _
   |bs=>simp[gV]at al
   |agg cs vs ak dE=>
     simp only[gV,fo]at al;obtain⟨us,ic,rfl⟩:=al;obtain⟨J,U⟩:=lists ak dE ic;exact .agg us vs J U
   |bV cs vs ak dE=>
     simp only[gV,fo]at al;obtain⟨us,ic,rfl⟩:=al;obtain⟨J,U⟩:=lists ak dE ic;exact .bV us vs J U
   |ref id g off B b hm=>
     simp only[gV]at al;split at al
     .rename_i row jZ;split at al
      case isFalse=>cases al
      rename_i Sq;simp only[fo]at al;obtain⟨us,ic,rfl⟩:=al;obtain⟨arr,e,aI,aq,ar⟩:=h.row jZ hm;obtain⟨J,U⟩:=FY ic
      refine .eu us B (b+off) arr e (0,0) aI (aN _ _ _ _ hm) (by simp at J;omega) (fun i a x aD ae=>?_)
      obtain⟨y,bA,M4⟩:=U i a aD;rw[h4]at bA
      exact aw (ar _ y x bA (by rw[<- tF];exact ae)) M4
     .cases al
   |aB id g off len sz B b cap arr e hm aI aa aq=>
     simp only[gV]at al;split at al
     .rename_i row jZ;split at al
      .rename_i dd;split at al
       .rename_i us ic;cases al;obtain⟨eB,bw,nB,hC,ar⟩:=h.row jZ hm;rw[aI]at nB;cases nB;obtain⟨J,U⟩:=FY ic
        have L5:us.length=len*sz:=by rw[J,dd]
        have Cl:∀(i:Nat) (el:List V),((List.range len).map fun i=>(us.drop (i*sz)).take sz)[i]?=some el->i<len/\el=(us.drop (i*sz)).take sz:=by
         intro i el he
         have hi:i<len:=by have:=(cC.1 he).1;simpa using this
         refine⟨hi,?_⟩;rw[oi,FA hi]at he;exact(hc he).symm
        have hmul:∀i,i<len->i*sz+sz<=len*sz:=by
         intro i hi;have:(i+1)*sz<=len*sz:=tu _ hi
         rwa[sv,LC]at this
        have oq:len*sz<=cap*sz:=tu _ aa
        have qm:((List.range len).map fun i=>(us.drop (i*sz)).take sz).length=len:=by simp
        have key:gE b6 w (.du ((List.range len).map fun i=>(us.drop (i*sz)).take sz) sz) (.slice (some ⟨B,b+off,none⟩) ((List.range len).map fun i=>(us.drop (i*sz)).take sz).length cap):=by
         refine .du _ sz B (b+off) cap arr e (0,0) aI (aN _ _ _ _ hm) (by rw[qm];exact aa) (fun i el he=>?_) (by rw[qm];omega) (fun i el j a x he aD ae=>?_)
         .obtain⟨hi,rfl⟩:=Cl i el he;have:=hmul i hi;simp;omega
         .obtain⟨hi,rfl⟩:=Cl i el he
          have br:j<sz:=by have:=(cC.1 aD).1;simp at this;omega
          rw[iB br,h4]at aD;obtain⟨y,bA,M4⟩:=U _ a aD;have vK:=hmul i hi
          rw[iB (by omega),h4]at bA
          refine aw (ar _ y x bA ?_) M4;rw[<- ae]
          congr 1
          omega
        rw[qm]at key;exact key
       .cases al
      .cases al
     .cases al
   |js id g off sz B b a hm=>
     simp only[gV]at al;split at al
     .split at al
      .split at al
       .cases al;exact .il _ _ _
       .cases al
      .cases al
     .cases al
   |eu cs B o arr e fr aI hQ aq qz=>simp[gV]at al;subst al;exact(gE.eu cs B o arr e fr aI hQ aq qz).mono (fun B _ hm=>RJ fun aa=>bJ B aa hm) (fun _ _ _=>rfl)
   |du es sz B o cap arr e fr aI hQ aa b5 aq qz=>simp[gV]at al;subst al;exact(gE.du es sz B o cap arr e fr aI hQ aa b5 aq qz).mono (fun B _ hm=>RJ fun aa=>bJ B aa hm) (fun _ _ _=>rfl)
   |il sz cap a=>simp[gV]at al;subst al;exact .il _ _ _
   |db a=>simp[gV]at al;subst al;exact .db _
   |mp=>simp[gV]at al
   |fn f fst cap fs eP J U ax aY=>
     simp only[gV]at al;split at al
     .rename_i a b aD af;cases al;obtain⟨cn,dK⟩:=lists J ax aD;obtain⟨bp,aP⟩:=lists U aY af;exact .fn f a b fs eP cn bp dK aP
     .cases al
   |fg=>simp[gV]at al
def ar4:∀(n:Nat) {v:V} {c:Value},ji n v=true->bM μ ab w v c->gE ab w v c:=by
 intro n
 induction n with
 |zero=>intro v c h;simp[ji]at h
 |succ n aw=>
   intro v c h av;have all:∀{cs:List V} {vs:Array Value},cs.all (ji n)=true->(∀(i:Nat) (a:V) (b:Value),cs[i]?=some a->vs[i]?=some b->bM μ ab w a b)->
    ∀(i:Nat) (a:V) (b:Value),cs[i]?=some a->vs[i]?=some b->gE ab w a b:=fun aD av i a b J U=>aw (by rw[dU]at aD;exact aD a (hR J)) (av i a b J U)
   cases av with
   |s=>exact .s _
   |bs=>simp[ji]at h
   |agg cs vs ak dE=>exact .agg cs vs ak (all (by simpa[ji]using h) dE)
   |bV cs vs ak dE=>exact .bV cs vs ak (all (by simpa[ji]using h) dE)
   |ref=>simp[ji]at h
   |eu cs B o arr e fr aI hQ aq qz=>exact .eu cs B o arr e fr aI hQ aq qz
   |aB=>simp[ji]at h
   |js=>simp[ji]at h
   |du es sz B o cap arr e fr aI hQ aa b5 aq qz=>exact .du es sz B o cap arr e fr aI hQ aa b5 aq qz
   |il sz cap a=>exact .il _ _ _
   |db a=>exact .db _
   |mp=>simp[ji]at h
   |fn f fst cap fs eP J U ax aY=>
     simp only[ji,dr]at h;exact .fn f fst cap fs eP J U (all h.1 ax) (all h.2 aY)
   |fg=>simp[ji]at h
def aA2:∀(m:Nat) {n:Nat} {v u:V},ji n v=true->gV H m v=some u->u=v:=by
 intro m
 induction m with
 |zero=>intro n v u _ h;simp[gV]at h
 |succ m aw=>
   intro n v u aj h;cases n with
   |zero=>simp[ji]at aj
   |succ n=>
     have all:∀{cs us:List V},cs.all (ji n)=true->cs.mapM (gV H m)=some us->us=cs:=by
      intro cs us aD hm;obtain⟨J,U⟩:=FY hm;apply vU;intro i;by_cases hi:i<us.length
      .obtain⟨v,av,Cd⟩:=U i us[i] (dy hi);rw[dy hi,av]
       congr 1
       exact aw (by rw[dU]at aD;exact aD v (hR av)) Cd
      .rw[mm (by omega),mm (by omega)]
     cases v<;>simp only[ji,gV,fo,dr]at aj h<;>first|(cases h;rfl)|(cases aj;done)|skip
     case agg cs=>obtain⟨us,ic,rfl⟩:=h;rw[all aj ic]
     case bV cs=>obtain⟨us,ic,rfl⟩:=h;rw[all aj ic]
     case fn f a b=>
      split at h
      .rename_i x y ae bA;cases h;rw[all aj.1 ae,all aj.2 bA]
      .cases h
def atd{u c}(h:gE ab w u c)(al:u.oY=true):gE b6 w u c:=by
 have one:∀{u:V} {c:Value},gE ab w u c->u.flat=true->gE b6 w u c:=by
  intro u c h al
  cases h<;>first|exact .s _|(simp[V.flat]at al;done)
 cases h with
 |s x=>exact .s _
 |agg cs vs ak dE=>
   refine .agg cs vs ak (fun i a b aD af=>one (dE i a b aD af) ?_);simp only[V.oY,dU]at al;exact al a (hR aD)
 |bV cs vs ak dE=>
   refine .bV cs vs ak (fun i a b aD af=>?_);have av:=dE i a b aD af;simp only[V.oY,dU]at al;have:=al a (hR aD);cases av with
   |s x=>exact .s _
   |agg cs vs ak dE=>
     refine .agg cs vs ak (fun i a b aD af=>one (dE i a b aD af) ?_);simp only[dU]at this;exact this a (hR aD)
   |_=>simp at this
 |_=>simp[V.oY]at al
def ace{n vs us cs}(av:b0 μ ab w vs cs)(hm:vs.mapM (gV H n)=some us){Q:V->Value->Prop}(bD:∀v u c,bM μ ab w v c->v∈vs->gV H n v=some u->Q u c):
 us.length=cs.length/\∀(i:Nat) (a:V) (b:Value),us[i]?=some a->cs[i]?=some b->Q a b:=by
 obtain⟨J,U⟩:=FY hm
 refine⟨by rw[J,av.1],fun i a b aD af=>?_⟩
 obtain⟨x,ae,Bl⟩:=U i a aD;exact bD x a b (av.2 i x b ae af) (hR ae) Bl
def aiP{call:c5}(aq:oz P aE call)(h:cB aE μ ab w H){k vs us cs}(av:b0 μ ab w vs cs)(hm:vs.mapM (gV H 12)=some us){v u b7}(aa:call (.fn k [] []) us 0 []=some (v,b7))(hu:gV b7 12 v=some u)(aj:(vs.all (ji 12)||u.oY)=true)(n):
 (∀xs w,(callFunc k xs).run P w=.ok (.enter k xs) w)/\CallsIn Fence.wide n P k cs.toArray w (nr aE μ ab w H u H):=by
 obtain⟨qE,iQ⟩:=aq.fn k [] [] us 0 [] v b7 aa;refine⟨qE,?_⟩;have main:∀dT:Nat->Prop,(∀B,B<w.heap.size->¬ab B->¬dT B)->b0 (fun _ _=>none) dT w us cs->
  (∀cA cH aV c,dm aE (fun _ _=>none) dT w [] cA cH aV b7->bM cA cH aV v c->gE (fun B=>ab B/\B<w.heap.size) aV u c)->CallsIn Fence.wide n P k cs.toArray w (nr aE μ ab w H u H):=by
  intro dT aGj dE jn
  have a1:cB aE (fun _ _=>none) dT w []:=⟨fun _ _ _ h=>by simp at h,fun _ _ _ _ h=>by simp at h,fun _ _ _ _ _ h=>by simp at h,fun _ _ _ _ _ _ _ h=>by simp at h,fun _ _ _ _ _ h=>by simp at h,fun _ _ _ _ h=>by simp at h,fun B o e=>⟨(h.fix B o e).1,aGj B (hl (h.fix B o e).1) (h.fix B o e).2⟩,fun _ _ _ h=>by simp at h⟩
  refine(iQ _ dT w cs a1 (by simpa using dE) n).mono ?_
  rintro e aV ⟨c,cA,cH,rfl,ar,hO⟩;have as2:=jn cA cH aV c hO ar
  have B':∀B,B<w.heap.size->aV.heap[B]?=w.heap[B]?:=fun B aI=>hO.cj.bT B aI (fun _ _ _ h=>by simp at h)
  have h1:=hO.cj.shape;refine⟨c,μ,fun B=>ab B/\B<w.heap.size,rfl,as2.vy,bS _,⟨h.gR,fun id g B b e=>⟨⟨(h.gu id g B b e).1,(h.gu id g B b e).2⟩,lX (h.gu id g B b e).2 hO.cj.size⟩,fun id bo g B b bu aa e=>?_,h.inj,h.nb,h.wf,h.fixed (fun B _ hm=>hm.1) (fun B aI _=>B' B aI),h.zero⟩,
   fun _ _ _ h=>h,fun B aI=>⟨fun h=>h.1,fun h=>⟨h,aI⟩⟩,⟨hO.cj.size,h1,hO.cj.loops,fun B aI _=>B' B aI,hO.cj.back,hO.cj.os,hO.cj.tape,hO.cj.output⟩,fun id g _ b e _=>⟨id,g,b,e⟩,fun _ g p e _=>⟨g,p,e⟩⟩
  obtain⟨o,aT,ar⟩:=h.ly id bo g B b bu aa e;exact⟨o,(B' B (hl aT)).trans aT,ar.mono (fun _ _ _ h=>h) (fun B _ hm=>hm.1) (fun B aI _=>B' B aI) h1⟩
 by_cases Dm:vs.all (ji 12)=true
 .refine main ab (fun _ _ h=>h) ?_ ?_
  .refine ace (Q:=fun a b=>bM _ _ _ a b) av hm (fun x u c ae p' al=>?_)
   have anu:ji 12 x=true:=by rw[dU]at Dm;exact Dm x p'
   rw[aA2 12 anu al];exact(ar4 12 anu ae).vy
  .intro cA cH aV c hO ar;refine Nh hO.ar (fun B aN hm=>?_) (fun id g B b e hm=>?_) 12 ar hu
   .exact aN ((hO.mt B hm.2).2 hm.1)
   .obtain⟨qa,g0,dj,ck⟩:=hO.ed id g B b e hm.2;simp at ck
 .have ei:u.oY=true:=by simpa[Dm]using aj
  refine main (fun _=>False) (fun _ _ _ h=>h) ?_ ?_
  .refine ace (Q:=fun a b=>bM _ _ _ a b) av hm (fun x u c ae p' al=>?_);exact(Nh h (b6:=fun _=>False) (fun _ _ h=>h) (fun _ _ _ _ _ h=>h) 12 ae al).vy
  .intro cA cH aV c hO ar;exact atd (Nh hO.ar (b6:=fun _=>False) (fun _ _ h=>h) (fun _ _ _ _ _ h=>h) 12 ar hu) ei
def wg{pure':gH}{o h7}(h:p4 P pure' o=some h7):
 (∃f args iL xs y,o.op=.call { callee:=.value f,args,argTypes:=iL }/\zj args=some xs/\lc f=some y/\((∃k,f=.func k/\h7=.rA k xs)\/h7=.call y xs))\/
 (tR P pure' o=some h7/\h7.kh=false/\∀c,o.op≠.defer c):=by
 unfold p4 at h;split at h
 .rename_i f args iL aT;split at h
  .rename_i xs y qQ bA;refine .inl ⟨f,args,iL,xs,y,aT,qQ,bA,?_⟩;split at h
   .rename_i k;split at h
    .cases h;exact .inl ⟨k,rfl,rfl⟩
    .cases h;exact .inr rfl
   .cases h;exact .inr rfl
  .cases h
 .split at h
  .rename_i xl anH;split at h
   .cases h
   .rename_i ix;cases h
    refine .inr ⟨anH,by simpa using ix,fun c aa=>?_⟩
    simp[tR,aa]at anH
  .cases h
def avt(H):∀(n:Nat) (v:V),ji n v=true->gV H n v=some v:=by
 intro n
 induction n with
 |zero=>intro v h;simp[ji]at h
 |succ n aw=>
   have all:∀l:List V,l.all (ji n)=true->l.mapM (gV H n)=some l:=by
    intro l
    induction l with
    |nil=>intro _;rfl
    |cons x l azR=>
      intro h;simp only[qM,dr]at h;simp only[n1,aw x h.1,azR h.2];rfl
   intro v h
   cases v<;>simp only[ji]at h<;>first|(cases h;done)|rfl|skip
   case agg cs=>simp only[gV,all cs h];rfl
   case bV cs=>simp only[gV,all cs h];rfl
   case fn f a b=>
    simp only[dr]at h;simp only[gV,all a h.1,all b h.2]
theorem aHQ(H n):∀{l:List V},l.all (ji n)=true->l.mapM (gV H n)=some l:=by
 intro l
 induction l with
 |nil=>intro _;rfl
 |cons x l aw=>
   intro h;simp only[qM,dr]at h;simp only[n1,avt H n x h.1,aw h.2];rfl
def vJ{call:c5}(aq:oz P aE call)(h:cB aE μ ab w H){a:Act}{fr:List V}(al:c9 μ ab w fr a.tmps){pure':gH}{o:Oper}{h7:b3}{base:Nat}{v:V}(aa:BZ P pure' o h7)(ag:bf call base fr H h7=some (v,H')){ro:Option Nat}{n:Nat}{next:Act->World->Prop}{Q:Exit->Act->World->Prop}(o2:∀r w',nr aE μ ab w H v H' (.returned r) w'->next (a.put o.dst r) w'):o.wpIn (hX ro) n P a w next Q:=by
 have plain:∀(f:Operand) (args:Array Operand) (iL:Array TypeId) (xs:List cY) (y:cY) (b:Nat),o.op=.call { callee:=.value f,args,argTypes:=iL }->zj args=some xs->lc f=some y->
  call (aX fr y) (xs.map (aX fr)) b H=some (v,H')->o.wpIn (hX ro) n P a w next Q:=by
  intro f args iL xs y b aT qQ bA iX;exact aBE aq h (dY al bA) (Di al qQ) iX aT (g:=f) rfl rfl rfl o2
 rcases aa with aa|⟨f,xs,aa,rfl⟩|⟨k,xs,aa,rfl⟩|⟨sz,aJO,s,x,aa,rfl⟩|rfl
 case inr.inr.inr.inr=>cases ag
 case inr.inr.inr.inl=>
  rcases wg aa with⟨_,_,_,_,_,_,_,_,⟨_,_,e⟩|e⟩|⟨k0,ix,ki⟩
  .cases e
  .cases e
  .obtain⟨bZ,aV,cA,cH,ar,my,aj⟩:=Au (call:=call) (base:=H.length) h al k0 ix ag;refine⟨fun _ _=>trivial,?_⟩;rw[Oper.semAt_eq _ _ _ ki]
   rcases ar with ar|⟨ar,rfl⟩
   .rw[ar];exact o2 bZ aV ⟨bZ,cA,cH,rfl,my,aj⟩
   .rw[ar];exact o2 _ aV ⟨_,cA,cH,rfl,my,aj⟩
 rcases wg aa with⟨f,args,iL,xs,y,aT,qQ,bA,⟨k,rfl,rfl⟩|rfl⟩|⟨k0,ix,ki⟩
 .
  simp only[bf]at ag;split at ag
  .rename_i us ic;split at ag
   .rename_i r b7 iX;split at ag
    .rename_i u hu;split at ag
     .rename_i aj;cases ag;obtain⟨qE,Fq⟩:=aiP aq h (Di al qQ) ic iX hu aj (n-1);refine⟨fun _ _=>trivial,?_⟩
      rw[Oper.semAt_eq _ _ _ (by simp[aT])]
      have uv:execOp a.eval o=(do let d <- resolve a.eval { callee:=.value (.func k),args,argTypes:=iL } o.type;invoke d.target d.args):=by
       unfold execOp;rw[aT]
      have fp:(execOp a.eval o).run P w=.ok (.enter k (args.map a.eval)) w:=by
       rw[uv];have aF:a.eval (.func k)=.func (.func k) #[] #[]:=rfl;simp only[resolve,aF,Deferred.ofValue,Sem.run_bind,Sem.run_pure,eb,invoke,qE];simp
      rw[fp];simp only[yF]at Fq
      refine⟨fun h=>by simp[hX]at h,Fq.mono ?_⟩
      rintro e aV ⟨r,cA,cH,rfl,ar,aj⟩;exact o2 r aV ⟨r,cA,cH,rfl,ar,aj⟩
     .cases ag
    .cases ag
   .cases ag
  .cases ag
 .exact plain f args iL xs y base aT qQ bA ag
 .obtain⟨bZ,aV,cA,cH,ar,my,aj⟩:=Au h al k0 ix ag;refine⟨fun _ _=>trivial,?_⟩;rw[Oper.semAt_eq _ _ _ ki]
  rcases ar with ar|⟨ar,rfl⟩
  .rw[ar];exact o2 bZ aV ⟨bZ,cA,cH,rfl,my,aj⟩
  .rw[ar];exact o2 _ aV ⟨_,cA,cH,rfl,my,aj⟩
 .rcases wg aa with⟨eU,args,iL,ui,y,aT,qQ,bA,⟨k,_,e⟩|e⟩|⟨_,ix,_⟩
  .cases e
  .cases e;exact plain eU args iL xs f H.length aT qQ bA ag
  .simp[b3.kh]at ix
 .rcases wg aa with⟨eU,args,iL,ui,y,aT,qQ,bA,⟨gT,rfl,e⟩|e⟩|⟨_,ix,_⟩
  .cases e;simp only[bf]at ag;split at ag
   .rename_i Dm;split at ag
    .rename_i r b7 iX;split at ag
     .rename_i u hu;cases ag
      obtain⟨qE,Fq⟩:=aiP aq h (Di al qQ) (aHQ H 12 Dm) iX hu (by rw[Dm];rfl) (n-1)
      refine⟨fun _ _=>trivial,?_⟩
      rw[Oper.semAt_eq _ _ _ (by simp[aT])]
      have uv:execOp a.eval o=(do let d <- resolve a.eval { callee:=.value (.func k),args,argTypes:=iL } o.type;invoke d.target d.args):=by
       unfold execOp;rw[aT]
      have fp:(execOp a.eval o).run P w=.ok (.enter k (args.map a.eval)) w:=by
       rw[uv];have aF:a.eval (.func k)=.func (.func k) #[] #[]:=rfl;simp only[resolve,aF,Deferred.ofValue,Sem.run_bind,Sem.run_pure,eb,invoke,qE];simp
      rw[fp];simp only[yF]at Fq
      refine⟨fun h=>by simp[hX]at h,Fq.mono ?_⟩
      rintro e aV ⟨r,cA,cH,rfl,ar,aj⟩;exact o2 r aV ⟨r,cA,cH,rfl,ar,aj⟩
     .cases ag
    .cases ag
   .cases ag
  .cases e
  .simp[b3.kh]at ix
end
section
variable {aE:fD} {μ ca:dn} {ab b6:Nat->Prop} {w w':World} {H H':az} {P:Program} [oG aE P] {pure':gH}
def c9.put{fr:List V}{a:Act}(al:c9 μ ab w fr a.tmps)(dst:Option Nat){v:V}{c:Value}(av:bM μ ab w v c):c9 μ ab w (put dst v fr) (a.put dst c).tmps:=by
 cases dst with
 |none=>exact al
 |some d=>
   have:=b0.set al d av
   simpa[c9,dO.put,Act.put]using this
def c9.post{eg}{dT:Nat->Prop}{ct b7}(a1:cB aE eg dT ct b7)(aj:dm aE eg dT ct b7 μ ab w H){fr t}(al:c9 eg dT ct fr t):c9 μ ab w fr t:=aj.F4 a1 al
def c9.atJ{fr t}(al:c9 μ ab w fr t)(i):c9 μ ab w (fr.set i .bs) t:=by
 refine⟨by simpa using al.1,fun j a b aD af=>?_⟩
 by_cases br:i=j
 .subst br
  rw[qq (by have:=(cC.1 aD).1;simpa using this)]at aD
  cases aD;exact .bs _
 .rw[cf br]at aD;exact al.2 j a b aD af
def c9.kill{t}:∀(gp:List Nat) {fr:List V},c9 μ ab w fr t->c9 μ ab w (ut gp fr) t:=by
 intro gp
 induction gp with
 |nil=>intro fr h;exact h
 |cons k gp aw=>intro fr h;exact aw (h.atJ k)
def tK{ops o h7}(bb:Hc ops o.guard=some h7.guard){fr t}(al:c9 μ ab w fr t){b}(h:want h7 fr=some b):Region.wanted o (yielded ops t)=b:=by
 unfold Hc at bb;split at bb
 .rename_i aF;cases jV:h7.guard with
  |none=>simp[want,jV]at h;subst h;simp[Region.wanted,aF]
  |some p=>rw[jV]at bb;cases bb
 .rename_i j x aF;split at bb
  .rename_i aoA adP;split at bb
   .rename_i d aQ;cases jV:h7.guard with
    |none=>rw[jV]at bb;cases bb
    |some p=>
      rw[jV]at bb;cases bb;simp only[want,jV]at h;have av:=al.getD d
      have bA:yielded ops t j=match t[d]? with|some (.bool b)=>some b|_=>none:=by
       simp only[yielded,adP,Option.bind_some,aQ];rfl
      have zT:∀u,fr.getD d .bs=.s u->t[d]?=some u:=by
       intro u hu;rw[hu]at av;have av:=eA av;by_cases ak:d<t.size
       .simp[ak]at av |-;exact av
       .exfalso
        have:fr.getD d .bs=.bs:=by
         have:¬d<fr.length:=by rw[al.1];simpa using ak
         simp[List.getD,this]
        rw[this]at hu;cases hu
      split at h
      .rename_i y jR;cases h;have:=zT _ jR;simp only[Region.wanted,aF,bA,this];cases y<;>cases x<;>rfl
      .rename_i y jR;cases h;have:=zT _ jR;simp only[Region.wanted,aF,bA,this];rfl
      .cases h
   .cases bb
  .cases bb
def ox(aE:fD)(μ:dn)(ab:Nat->Prop)(w:World)(H:az)(dh:List Deferred)(aW:List V)(H':az)(bL:Act)(w':World):Prop:=
 ∃ca b6,dm aE μ ab w H ca b6 w' H'/\c9 ca b6 w' aW bL.tmps/\bL.defers=dh
theorem put_defers(a:Act)(d:Option Tmp)(v:Value):(a.put d v).defers=a.defers:=by cases d<;>rfl
def SU{call:c5}(aq:oz P aE call){ops:Array Oper}{l:List cF}(ar:pb P pure' ops l){base:Nat}{ro:Option Nat}{n:Nat}{Q:Exit->Act->World->Prop}{aW:List V}{H':az}:
 ∀(j k:Nat) (fr:List V) (H:az) (a:Act) (w:World) (μ:dn) (ab:Nat->Prop),j+k=ops.size->cB aE μ ab w H->c9 μ ab w fr a.tmps->cu call base (l.drop k) fr H=some (aW,H')->
   (∀bL w',ox aE μ ab w H a.defers aW H' bL w'->Q .normal bL w')->wpOpsIn (hX ro) n P ops Q ((List.range ops.size).drop k) a w:=by
 intro j
 induction j with
 |zero=>
   intro k fr H a w μ ab an h al ag bn
   have kQ:k=ops.size:=by omega
   subst kQ
   rw[zW (by simp)]
   rw[zW (by rw[ar.1];exact bS _)]at ag
   cases ag;exact bn a w ⟨μ,ab,dm.refl h,al,rfl⟩
 |succ j aw=>
   intro k fr H a w μ ab an h al ag bn
   have bt:k<ops.size:=by omega
   have AQ:k<l.length:=by rw[ar.1];exact bt
   have aF:(List.range ops.size).drop k=k::(List.range ops.size).drop (k+1):=by
    rw[hN (by simpa using bt)];simp
   rw[aF];rw[hN AQ]at ag;have aT:ops[k]?=some ops[k]:=o8 bt;obtain⟨aQ,aa,bb⟩:=ar.2 k ops[k] l[k] aT (dy AQ);rw[wpOpsIn_cons];unfold wpOpIn;simp only[aT];simp only[cu]at ag;split at ag
   .cases ag
   .rename_i hw;rw[tK bb al hw];simp only[lk,gx];refine⟨fun _ _=>trivial,?_⟩
    refine aw (k+1) _ H _ w μ ab (by omega) h (aQ▸al.put _ (.s _)) ag (fun bL w' bD=>bn bL w' ?_)
    rw[put_defers]at bD;exact bD
   .rename_i hw;rw[tK bb al hw];simp only[fl];split at ag
    .rename_i v H1 cE;refine vJ aq h al aa cE ?_;rintro r aV ⟨c,cA,cH,e,av,aj⟩;cases e
     refine aw (k+1) _ H1 _ aV cA cH (by omega) aj.ar (aQ▸(al.post h aj).put _ av) ag (fun bL w' bD=>bn bL w' ?_)
     rw[put_defers]at bD;obtain⟨hy,lu,nh,arP,aw5⟩:=bD;exact⟨hy,lu,aj.trans nh,arP,aw5⟩
    .cases ag
def mx(m:Nat)(μ:dn):dn:=fun id g=>if id<m then μ id g else none
def hG{m id g p}(h:mx m μ id g=some p):id<m/\μ id g=some p:=by
 unfold mx at h;split at h
 .exact⟨‹_›,h⟩
 .cases h
def rI{m id g}(h:id<m):mx m μ id g=μ id g:=by simp[mx,h]
def PR{m}:∀(n:Nat) {v:V} {c:Value},im m n v=true->bM μ ab w v c->bM (mx m μ) ab w v c:=by
 intro n
 induction n with
 |zero=>intro v c h;simp[im]at h
 |succ n aw=>
   intro v c h av;have all:∀{cs:List V} {vs:Array Value},cs.all (im m n)=true->(∀(i:Nat) (a:V) (b:Value),cs[i]?=some a->vs[i]?=some b->bM μ ab w a b)->
    ∀(i:Nat) (a:V) (b:Value),cs[i]?=some a->vs[i]?=some b->bM (mx m μ) ab w a b:=fun aD av i a b J U=>aw (by rw[dU]at aD;exact aD a (hR J)) (av i a b J U)
   cases av with
   |s=>exact .s _
   |bs=>exact .bs _
   |agg cs vs ak dE=>exact .agg cs vs ak (all (by simpa[im]using h) dE)
   |bV cs vs ak dE=>exact .bV cs vs ak (all (by simpa[im]using h) dE)
   |ref id g off B b hm=>simp[im]at h;exact .ref id g off B b (by rw[rI h];exact hm)
   |eu cs B o arr e fr aI hQ aq qz=>exact .eu cs B o arr e fr aI hQ aq qz
   |aB id g off len sz B b cap arr e hm aI aa aq=>simp[im]at h;exact .aB id g off len sz B b cap arr e (by rw[rI h];exact hm) aI aa aq
   |js id g off sz B b a hm=>simp[im]at h;exact .js id g off sz B b a (by rw[rI h];exact hm)
   |du es sz B o cap arr e fr aI hQ aa b5 aq qz=>exact .du es sz B o cap arr e fr aI hQ aa b5 aq qz
   |il sz cap a=>exact .il _ _ _
   |db a=>exact .db _
   |mp id B hm=>simp[im]at h;exact .mp id B (by rw[rI h];exact hm)
   |fn f fst cap fs eP J U ax aY=>
     simp only[im,dr]at h;exact .fn f fst cap fs eP J U (all h.1 ax) (all h.2 aY)
   |fg id B hm=>simp[im]at h;exact .fg id B (by rw[rI h];exact hm)
def aiT{m n vs cs}(h:vs.all (im m n)=true)(av:b0 μ ab w vs cs):b0 (mx m μ) ab w vs cs:=
 ⟨av.1,fun i a b aD af=>PR n (by rw[dU]at h;exact h a (hR aD)) (av.2 i a b aD af)⟩
def aIv{m bo b}{o:Obj}(h:bq.under m bo=true)(ar:jQ aE μ ab w bo b o):jQ aE (mx m μ) ab w bo b o:=by
 cases bo with
 |cells g c=>
   cases o<;>first|exact ar.elim|skip
   exact⟨ar.1,ar.2.1,fun i a v aD av=>PR 8 (by simp only[bq.under,dU]at h;exact h a (hR aD)) (ar.2.2.1 i a v aD av),ar.2.2.2⟩
 |map es=>
   cases o<;>first|exact ar.elim|skip
   exact⟨ar.1,ar.2.1,fun i k v e he av=>⟨(ar.2.2 i k v e he av).1,PR 8 (by simp only[bq.under,dU]at h;exact h _ (hR he)) (ar.2.2 i k v e he av).2⟩⟩
 |loop st rP tmps params assign body=>
   cases o<;>first|exact ar.elim|skip
   obtain⟨a1,J,U,ax,aY,cl,eM⟩:=ar;exact⟨a1,J,U,aiT h ax,aY,cl,eM⟩
 |dead=>cases o<;>exact ar.elim
 |bytes g l=>cases o<;>first|exact ar.elim|exact ar
def N4{m}:∀(n:Nat) {v:V},im m n v=true->e' m v:=by
 intro n
 induction n with
 |zero=>intro v h;simp[im]at h
 |succ n aw=>
   intro v h
   have all:∀{cs:List V},cs.all (im m n)=true->∀v∈cs,e' m v:=fun aD v av=>aw (by rw[dU]at aD;exact aD v av)
   cases v<;>simp only[im,dr,lm]at h
   case s=>exact .s _
   case agg=>exact .agg _ (all h)
   case bV=>exact .bV _ (all h)
   case ref=>exact .ref _ _ _ h
   case eu=>exact .eu _
   case aB=>exact .aB _ _ _ _ _ h
   case du=>exact .du _ _
   case db=>exact .db
   case mp=>exact .mp _ h
   case fn=>exact .fn _ _ _ (all h.1) (all h.2)
   case fg=>exact .fg _ h
   case Yy=>cases h
   case bs=>exact .bs
def ar6{m bo}(h:bq.under m bo=true):nG m bo:=by
 cases bo with
 |cells g c=>simp only[bq.under,dU]at h;exact fun v av=>N4 8 (h v av)
 |map es=>simp only[bq.under,dU]at h;exact fun e he=>N4 8 (h e he)
 |loop st I0 t ps a b=>simp only[bq.under,dU]at h;exact fun v av=>N4 8 (h v av)
 |dead=>trivial
 |bytes g l=>trivial
def aig{eg}{dT:Nat->Prop}{ct b7}(aj:dm aE eg dT ct b7 μ ab w H)(Bs:∀id g p,eg id g=some p->id<b7.length){m}(qV:b7.length<=m)(hm:m<=H.length){fr t}(al:c9 μ ab w fr t):
 ∃hy,dm aE eg dT ct b7 hy ab w (trim m fr H)/\c9 hy ab w fr t/\(∀id g p,hy id g=some p->μ id g=some p)/\m<=(trim m fr H).length:=by
 unfold trim;split
 .rename_i aa;simp only[dr]at aa
  have dd:(H.take m).length=m:=by simp;omega
  have tc:∀(id:Nat) (bo:bq),(H.take m)[id]?=some bo->id<m/\H[id]?=some bo:=by
   intro id bo h
   have hi:id<m:=by have:=(cC.1 h).1;omega
   exact⟨hi,by rwa[iB hi]at h⟩
  refine⟨mx m μ,⟨by rw[dd];exact qV,⟨fun id g p e=>by rw[dd];exact(hG e).1,fun id g B b e=>aj.ar.gu id g B b (hG e).2,fun id bo g B b bu Hq e=>?_,
   fun id g eX g' B b b' e bw=>aj.ar.inj _ _ _ _ _ _ _ (hG e).2 (hG bw).2,fun id g g' c p e bu=>aj.ar.nb _ _ _ _ _ (hG e).2 (tc _ _ bu).2,fun id g p bo e bu=>by
    rw[dd];have U:=aa.2;rw[dU]at U;exact ar6 (U bo (hR bu)),aj.ar.fix,fun id B b e=>aj.ar.zero _ _ _ (hG e).2⟩,
   fun id g p e=>by rw[rI (lX (Bs _ _ _ e) qV)];exact aj.ext _ _ _ e,aj.mt,aj.cj,fun id g B b e aI=>aj.ed _ _ _ _ (hG e).2 aI,fun id g p e hid=>aj.news _ _ _ (hG e).2 hid⟩,
   aiT aa.1 al,fun id g p e=>(hG e).2,by rw[dd];exact bS _⟩
  obtain⟨o,aT,ar⟩:=aj.ar.ly id bo g B b (tc _ _ bu).2 Hq (hG e).2;refine⟨o,aT,aIv ?_ ar⟩;have:=aa.2;rw[dU]at this;exact this bo (hR bu)
 .exact⟨μ,aj,al,fun _ _ _ h=>h,hm⟩
def Iz(D:Nat):Deferred:={ target:=.collected D,args:=#[] }
def Marks(cz:Nat)(μ:dn)(w:World)(Mo dh:List Deferred):Prop:=
 ∃L:List Nat,Mo=L.map Iz++dh/\L.Nodup/\∀D∈L,cz<=D/\w.heap[D]?=some (.deferred (some []))/\∀id g b,μ id g≠some (D,b)
def Marks.refl(cz μ w dh):Marks cz μ w dh dh:=⟨[],rfl,List.nodup_nil,fun _ h=>by cases h⟩
def Marks.sub{cz Mo dh}(h:Marks cz μ w Mo dh)(aq:∀id g p,ca id g=some p->μ id g=some p):Marks cz ca w Mo dh:=by
 obtain⟨L,J,U,ax⟩:=h;exact⟨L,J,U,fun D cX=>⟨(ax D cX).1,(ax D cX).2.1,fun id g b e=>(ax D cX).2.2 id g b (aq _ _ _ e)⟩⟩
def Marks.trans{cz cA hy}{cH lu:Nat->Prop}{aV b4 H1 bK dh vc aiN}(h:Marks cz cA aV vc dh)(aj:dm aE cA cH aV H1 hy lu b4 bK)(qt:cz<=aV.heap.size)(k:Marks aV.heap.size hy b4 aiN vc):Marks cz hy b4 aiN dh:=by
 obtain⟨L,rfl,U,ax⟩:=h;obtain⟨K,rfl,k2,dx⟩:=k
 refine⟨K++L,by simp,?_,?_⟩
 .refine List.nodup_append.2 ⟨k2,U,?_⟩;intro x ae y bA e;subst e;have J:=(dx x ae).1;have aY:=hl (ax x bA).2.1;omega
 .intro D cX
  rcases l1.1 cX with cX|cX
  .exact⟨k9 qt (dx D cX).1,(dx D cX).2⟩
  .obtain⟨bp,aP,bj⟩:=ax D cX;refine⟨bp,(aj.cj.bT D (hl aP) bj).trans aP,fun id g b e=>?_⟩;obtain⟨qa,g0,dj,ck⟩:=aj.ed id g D b e (hl aP);exact bj qa g0 dj ck
def oo(aE:fD)(μ:dn)(ab:Nat->Prop)(w:World)(H:az)(dh:List Deferred)(aW:List V)(H':az)(bL:Act)(w':World):Prop:=
 ∃ca b6,dm aE μ ab w H ca b6 w' H'/\c9 ca b6 w' aW bL.tmps/\Marks w.heap.size ca w' bL.defers dh
def oo.trans{cA}{cH:Nat->Prop}{aV H1 dh vc aW bL}(aj:dm aE μ ab w H cA cH aV H1)(hm:Marks w.heap.size cA aV vc dh)(h:oo aE cA cH aV H1 vc aW H' bL w'):
 oo aE μ ab w H dh aW H' bL w':=by
 obtain⟨hy,lu,dK,f2,m2⟩:=h;exact⟨hy,lu,aj.trans dK,f2,hm.trans dK aj.cj.size m2⟩
def Ka:rC->Exit
 |.bH=>.normal
 |.ext id=>.exit id
 |.ret=>.ret
def L7(P:Program)(aE:fD)(ro:Option Nat)(n:Nat)(c:Code)(b:List V->az->Option cJ):Prop:=
 ∀(fr:List V) (H:az) (e:rC) (aW:List V) (H':az),b fr H=some (e,aW,H')->
   ∀(μ:dn) (ab:Nat->Prop) (w:World) (a:Act) (Q:Exit->Act->World->Prop),cB aE μ ab w H->c9 μ ab w fr a.tmps->(∀l,ro=some l->∃r,w.heap[l]?=some (.loop r))->
     (∀bL w',oo aE μ ab w H a.defers aW H' bL w'->Q (Ka e) bL w')->c.wpIn (hX ro) n P Q a w
def av4{ro n c}{b:List V->az->Option cJ}(af:L7 P aE ro n c b)(kill m):∀(k:Nat) (fr:List V) (H:az) (e:rC) (aW:List V) (H':az),fR b kill m k fr H=some (e,aW,H')->
 ∀(μ:dn) (ab:Nat->Prop) (w:World) (a:Act) (Q:Exit->Act->World->Prop) (eg:dn) (dT:Nat->Prop) (ct:World) (b7:az) (dh:List Deferred),cB aE eg dT ct b7->b7.length<=m->m<=H.length->
   dm aE eg dT ct b7 μ ab w H->Marks ct.heap.size μ w a.defers dh->c9 μ ab w fr a.tmps->(∀l,ro=some l->∃r,w.heap[l]?=some (.loop r))->
   (∀bL w',oo aE eg dT ct b7 dh aW H' bL w'->Q (Ka e) bL w')->Code.roundsIn (hX ro) n P c Q k a w:=by
 intro k
 induction k with
 |zero=>intro fr H e aW H' h;simp[fR]at h
 |succ k aw=>
   intro fr H e aW H' ag μ ab w a Q eg dT ct b7 dh a1 qV hm aj mH al ez bn;rw[roundsIn_succ];simp only[fR]at ag;split at ag
   .rename_i cg H1 jk;refine af fr H .bH cg H1 jk μ ab w a _ aj.ar al ez ?_;rintro cy aV ⟨cA,cH,cn,f1,m1⟩;have hn:=aj.trans cn;obtain⟨hy,dK,f2,s2,e8⟩:=aig hn a1.gR qV (k9 hm cn.len) (f1.kill kill);have Gi:=(mH.trans cn aj.cj.size m1).sub s2;refine aw _ _ e aW H' ag hy cH aV cy Q eg dT ct b7 dh a1 qV e8 dK Gi f2 (fun l ak=>?_) bn;obtain⟨r,ar⟩:=ez l ak;exact cn.cj.loops l r ar
   .rename_i aF cg H1 dq jk;cases ag;refine af fr H e cg H1 jk μ ab w a _ aj.ar al ez ?_;rintro cy aV ⟨cA,cH,cn,f1,m1⟩;have hn:=aj.trans cn;obtain⟨hy,dK,f2,s2,_⟩:=aig hn a1.gR qV (k9 hm cn.len) (f1.kill kill);have Gi:=(mH.trans cn aj.cj.size m1).sub s2;have:=bn cy aV ⟨hy,cH,dK,f2,Gi⟩;cases e with
    |bH=>exact(dq rfl).elim
    |ext id=>exact this
    |ret=>exact this
   .cases ag
end
section
variable {call:c5} {base:Nat} {fr aW:List V} {H H':az}
def L9{d o}(h:∀x∈o.toList,aX fr x=aX aW x):hg fr d o=hg aW d o:=by
 cases o with
 |none=>rfl
 |some x=>simp only[hg,h x (by simp)]
def JK(op)(h:∀x∈op.qo,aX fr x=aX aW x):bf call base fr H op=bf call base aW H op:=by
 cases op
 case mu f a b=>
  have aD:a.map (aX fr)=a.map (aX aW):=wb fun x ae=>h x (lH _ ae);have af:b.map (aX fr)=b.map (aX aW):=wb fun x ae=>h x (pf _ ae);simp only[bf,aD,af]
 case build z pl ps=>
  have aj:ps.map (fun p=>(p.1,aX fr p.2))=ps.map (fun p=>(p.1,aX aW p.2)):=wb fun p aj=>by rw[h p.2 (agK aj)]
  simp only[bf,aj]
 case fy a b c ps=>
  have aj:ps.map (fun p=>(p.1,aX fr p.2))=ps.map (fun p=>(p.1,aX aW p.2)):=wb fun p aj=>by rw[h p.2 (agK aj)]
  simp only[bf,aj]
 case call f xs=>
  have ae:xs.map (aX fr)=xs.map (aX aW):=wb fun x ae=>h x (hP _ ae);simp only[bf,ae,h f iH]
 case oe f xs=>
  have ae:xs.map (aX fr)=xs.map (aX aW):=wb fun x ae=>h x (hP _ ae);simp only[bf,ae,h f iH]
 case rA f xs=>
  have ae:xs.map (aX fr)=xs.map (aX aW):=wb fun x ae=>h x ae;simp only[bf,ae]
 case wK f xs=>
  have ae:xs.map (aX fr)=xs.map (aX aW):=wb fun x ae=>h x ae;simp only[bf,ae]
 case mT x cz hi=>
  have J:hg fr 0 cz=hg aW 0 cz:=L9 fun y bA=>h y (hP _ (lH _ bA));have U:∀d,hg fr d hi=hg aW d hi:=fun d=>L9 fun y bA=>h y (hP _ (pf _ bA));simp only[bf,h x iH,J,U]
 case ll sz x cz hi ft=>
  have a1:∀y∈cz.toList++hi.toList++ft.toList,aX fr y=aX aW y:=fun y bA=>h y (hP _ bA);have J:hg fr 0 cz=hg aW 0 cz:=L9 fun y bA=>a1 y (lH _ (lH _ bA));have U:∀d,hg fr d hi=hg aW d hi:=fun d=>L9 fun y bA=>a1 y (lH _ (pf _ bA));have ae:=h x iH;cases ft with
  |none=>simp only[bf,ae,J,U]
  |some m=>
    have hm:=a1 m (by simp)
    cases hi with
    |none=>simp only[bf]
    |some y=>
      have bA:=a1 y (by simp)
      simp only[bf,ae,J,hm];cases hg aW 0 cz with
      |none=>rfl
      |some k=>first|(rw[bA];done)|(simp only[bA];done)|(split<;>first|rfl|(rename_i aF aK;cases aF;rw[bA];done))
 all_goals simp only[b3.qo,kf,xa,vN,forall_eq_or_imp,forall_eq]at h
 all_goals first|(simp only[bf];done)|(simp only[bf,h];done)|(simp only[bf,h.1,h.2];done)|(simp only[bf,h.1,h.2.1,h.2.2];done)
def Bk{op}(aO:op.cls=.t){v}(h:bf call base fr H op=some (v,H')):H'=H/\∀bK,bf call base fr bK op=some (v,bK):=by
 cases op<;>first|(simp[b3.cls]at aO;done)|skip
 case un op x=>
  simp only[bf]at h |-
  split at h<;>first|(cases h;done)|(cases h;exact⟨rfl,fun _=>rfl⟩)|skip
  rename_i ae;simp only[fo]at h;obtain⟨b,af,e⟩:=h;cases e
  exact⟨rfl,fun bK=>by rw[af];rfl⟩
 case bin op x y=>
  simp only[bf]at h |-
  split at h<;>first|(cases h;done)|skip
  simp only[fo]at h;obtain⟨b,af,e⟩:=h;cases e
  exact⟨rfl,fun bK=>by rw[af];rfl⟩
 case field agg off n x=>
  simp only[bf]at h |-
  split at h<;>first|(cases h;done)|skip
  split at h<;>first|(cases h;done)|skip
  rename_i ae ak;simp only[fo]at h;obtain⟨b,af,e⟩:=h;cases e;refine⟨rfl,fun bK=>?_⟩;rw[a' ak,af];rfl
 case pk ft x y=>
  simp only[bf]at h |-
  split at h<;>first|(cases h;done)|skip
  split at h<;>first|(cases h;done)|skip
  rename_i k a gT b J U ax;cases h;refine⟨rfl,fun bK=>?_⟩;simp only[ax,fl]
 all_goals
  simp only[bf]at h |-
  repeat' (split at h)
  all_goals first|(cases h;done)|(cases h;refine⟨rfl,fun bK=>?_⟩;first|rfl|(simp_all;done))
def zC{op}(aO:op.cls=.r){v}(h:bf call base fr H op=some (v,H')):
 H'=H/\∃x,op.place=some x/\(∀id,(aX fr x).jM=some (some id)->id<H.length)/\
  ∀bK,(∀id,(aX fr x).jM=some (some id)->bK[id]?=H[id]?)->bf call base fr bK op=some (v,bK):=by
 cases op<;>first|(simp[b3.cls]at aO;done)|skip
 case load agg n a=>
  simp only[bf,fo]at h;obtain⟨b,af,e⟩:=h;cases e;refine⟨rfl,a,rfl,fun id hid=>?_,fun bK bu=>?_⟩
  .cases av:aX fr a<;>rw[av]at hid af<;>simp[V.jM]at hid
   .subst hid;simp only[iT]at af;split at af
    .rename_i c aa;unfold ao at aa;split at aa
     .rename_i J;exact(cC.1 J).1
     .cases aa
    .cases af
   .simp[iT]at af
  .have:iT bK agg n (aX fr a)=iT H agg n (aX fr a):=by
    cases av:aX fr a<;>simp only[iT];rename_i id g off
    have:=bu id (by rw[av];rfl)
    simp only[ao,this]
   simp only[bf,this,af];rfl
 case dD k x=>
  simp only[bf]at h;refine⟨?_,x,rfl,?_⟩
  .repeat' (split at h)
   all_goals first|(cases h;done)|(cases h;rfl)
  .cases av:aX fr x
   case mp m=>
    rw[av]at h;refine⟨fun id hid=>?_,fun bK bu=>?_⟩
    .simp[V.jM]at hid;subst hid
     cases k<;>first|(simp at h;done)|skip
     change(match H[m]? with|some (.map es)=>some (i64 es.length,H)|_=>none)=_ at h
     split at h
     .rename_i J;exact(cC.1 J).1
     .cases h
    .have hm:=bu m rfl;simp only[bf,av]
     cases k<;>first|(simp at h;done)|skip
     change(match H[m]? with|some (.map es)=>some (i64 es.length,H)|_=>none)=_ at h
     change(match bK[m]? with|some (.map es)=>some (i64 es.length,bK)|_=>none)=_
     rw[hm];split at h
     .cases h;rfl
     .cases h
   case ref=>
    exfalso;rw[av]at h;cases k<;>simp at h
   all_goals
    rw[av]at h
    refine⟨fun id hid=>by simp[V.jM]at hid,fun bK _=>?_⟩
    simp only[bf,av]
    cases k<;>first|(simp at h;done)|(cases h;rfl)|skip
    all_goals
     repeat' (split at h)
    all_goals first|(cases h;done)|(cases h;rfl)|(cases h;simp_all;done)
 case j6 kind z m k ok=>
  simp only[bf]at h;split at h
  .rename_i key q0;split at h
   .rename_i eQ;split at h
    .rename_i hm;cases h
     refine⟨rfl,m,rfl,fun id hid=>by rw[hm]at hid;simp[V.jM]at hid,fun bK _=>?_⟩
     simp only[bf,q0,eQ,hm,fl]
    .rename_i id hm;split at h
     .rename_i es Cl;have bt:=(cC.1 Cl).1
      have he:H'=H:=by
       repeat' (split at h)
       all_goals first|(cases h;done)|(cases h;rfl)
      subst he
      refine⟨rfl,m,rfl,fun i hid=>by rw[hm]at hid;simp[V.jM]at hid;subst hid;exact bt,fun bK bu=>?_⟩
      have:=bu id (by rw[hm];rfl)
      simp only[bf,q0,eQ,hm,fl,this,Cl];split at h
      .cases h;rfl
      .cases h;rfl
      .cases h
     .cases h
    .cases h
   .cases h
  .cases h
def axr{sz bytes s x v}(h:gW H H.length sz bytes s x=some (v,H')):H.length<=H'.length/\∀id,id<H.length->H'[id]?=H[id]?:=by
 have app:∀(o:bq),H.length<=(H++[o]).length/\∀id,id<H.length->(H++[o])[id]?=H[id]?:=fun o=>⟨by simp,fun id hid=>by rw[d' hid]⟩
 have same:H.length<=H.length/\∀id,id<H.length->H[id]?=H[id]?:=⟨bS _,fun _ _=>rfl⟩
 have jf:∀{id g:Nat} {c:List V},H.length<=id->ao H id g=some c->False:=fun hI bb=>by
  unfold ao at bb
  rw[mm (by omega)]at bb
  cases bb
 unfold gW at h;split at h
 .unfold D9 at h;split at h
  .split at h
   .split at h
    .split at h
     .cases h;exact same
     .split at h
      .cases h;exact app _
      .cases h
    .split at h
     .rename_i hI;rw[mm hI]at h;cases h
     .cases h
    .cases h
   .cases h
  .cases h
 .split at h
  .split at h
   .split at h
    .cases h;exact same
    .split at h
     .cases h;exact app _
     .cases h
   .split at h
    .cases h;exact same
    .split at h
     .cases h;exact app _
     .cases h
   .split at h
    .cases h;exact same
    .cases h
   .split at h
    .rename_i aa;split at h
     .rename_i c bb;exact(jf aa.2 bb).elim
     .cases h
    .cases h
   .cases h
  .cases h
def Pj(ei:∀v args base H r H',call v args base H=some (r,H')->H.length<=H'.length/\∀id,id<base->id<H.length->H'[id]?=H[id]?){op}(aO:op.cls=.a){v}(h:bf call base fr H op=some (v,H')):
 H.length<=H'.length/\∀id,id<H.length->H'[id]?=H[id]?:=by
 have app:∀(o:bq),H.length<=(H++[o]).length/\∀id,id<H.length->(H++[o])[id]?=H[id]?:=fun o=>⟨by simp,fun id hid=>by rw[d' hid]⟩
 cases op<;>first|(simp[b3.cls]at aO;done)|skip
 case oe f xs=>
  simp only[bf]at h;obtain⟨J,U⟩:=ei _ _ _ _ _ _ h;exact⟨J,fun id hid=>U id hid hid⟩
 case xT sz b s x=>
  simp only[bf]at h;exact axr h
 all_goals
  simp only[bf]at h
  repeat' (split at h)
  all_goals first|(cases h;done)|(cases h;exact app _)
def Lz{n a x v}(h:bf call base fr H (.store n a x)=some (v,H')):∃id,(aX fr a).jM=some (some id)/\H'.length=H.length/\∀i,i≠id->H'[i]?=H[i]?:=by
 simp only[bf,fo]at h;obtain⟨H1,J,e⟩:=h;cases e;unfold Am at J;split at J
 .rename_i id g off av;split at J
  .split at J
   .split at J
    .cases J
     exact⟨id,by rw[av];rfl,by simp,fun i hi=>by rw[cf (gG hi)]⟩
    .cases J
   .cases J
  .cases J
 .cases J
def an2{sz bytes s x v}(h:D9 H base sz bytes s x=some (v,H')):H'=H\/(∃o,H'=H++[o])\/∃id g len o,s=.aB id g 0 len 1/\base<=id/\H'=H.set id o:=by
 unfold D9 at h;split at h
 case h_2=>cases h
 split at h
 case isFalse=>cases h
 split at h
 .split at h
  .cases h;exact .inl rfl
  .split at h
   .cases h;exact .inr (.inl ⟨_,rfl⟩)
   .cases h
 .split at h
  case isFalse=>cases h
  rename_i af;split at h
  case h_2=>cases h
  split at h
  case isFalse=>cases h
  split at h
  .cases h;exact .inl rfl
  .split at h
   .cases h;exact .inr (.inr ⟨_,_,_,_,rfl,af,rfl⟩)
   .cases h
 .cases h
def awZ{sz bytes s x v}(h:bf call base fr H (.append sz bytes s x)=some (v,H')):∀i,i<H.length->(aX fr s).y6≠some (some i)->H'[i]?=H[i]?:=by
 intro i hi dq;simp only[bf,gW]at h;split at h
 .rcases an2 h with rfl|⟨o,rfl⟩|⟨id,g,len,o,av,_,rfl⟩
  .rfl
  .exact d' hi
  .refine cf fun e=>dq ?_;rw[av,<- e];rfl
 .split at h
  .split at h
   .split at h
    .cases h;rfl
    .split at h
     .cases h;exact d' hi
     .cases h
   .split at h
    .cases h;rfl
    .split at h
     .cases h;exact d' hi
     .cases h
   .split at h
    .cases h;rfl
    .cases h
   .rename_i id g off len dF av;split at h
    .split at h
     .split at h
      .split at h
       .cases h;rfl
       .split at h
        .cases h;refine cf fun e=>dq ?_;rw[av,<- e];rfl
        .cases h
      .cases h
     .cases h
    .cases h
   .cases h
  .cases h
def ajo(ei:∀v args base H r H',call v args base H=some (r,H')->H.length<=H'.length/\∀id,id<base->id<H.length->H'[id]?=H[id]?){op v}(h:bf call base fr H op=some (v,H')):
 H.length<=H'.length/\∀id,id<base->id<H.length->H'[id]?=H[id]?:=by
 have stay:H.length<=H.length/\∀id,id<base->id<H.length->H[id]?=H[id]?:=⟨bS _,fun _ _ _=>rfl⟩
 have app:∀(o:bq),H.length<=(H++[o]).length/\∀id,id<base->id<H.length->(H++[o])[id]?=H[id]?:=fun o=>⟨by simp,fun id _ hid=>by rw[d' hid]⟩
 have set:∀(i:Nat) (o:bq),base<=i->H.length<=(H.set i o).length/\∀id,id<base->id<H.length->(H.set i o)[id]?=H[id]?:=fun i o hi=>⟨by simp,fun id hid _=>by rw[cf (by omega)]⟩
 cases aa:op.cls with
 |t=>obtain⟨rfl,_⟩:=Bk aa h;exact stay
 |r=>obtain⟨rfl,_⟩:=zC aa h;exact stay
 |a=>obtain⟨J,U⟩:=Pj ei aa h;exact⟨J,fun id _ hid=>U id hid⟩
 |w=>
   cases op<;>first|(simp[b3.cls]at aa;done)|skip
   case call f xs=>exact ei _ _ _ _ _ _ (by simpa only[bf]using h)
   case rA f xs=>
    simp only[bf]at h
    repeat' (split at h)
    all_goals first|(cases h;done)|(cases h;exact stay)
   case store n a x=>
    simp only[bf,fo]at h;obtain⟨H1,J,e⟩:=h;cases e;unfold Am at J
    repeat' (split at J)
    all_goals first|(cases J;done)|(cases J;exact set _ _ (by assumption))
   case HI x=>
    simp only[bf,fo]at h;obtain⟨_,_,e⟩:=h;cases e;exact stay
   case copy sz d s=>
    simp only[bf,copyV]at h
    repeat' (split at h)
    all_goals first|(cases h;done)|(cases h;first|exact stay|(refine set _ _ ?_;rename_i hh _ _ _ ;exact hh.2)|(refine set _ _ ?_;simp_all;done))
   case append sz bytes s x=>
    simp only[bf,gW]at h;split at h
    .rcases an2 h with rfl|⟨o,rfl⟩|⟨id,g,len,o,_,af,rfl⟩
     .exact stay
     .exact app _
     .exact set _ _ af
    repeat' (split at h)
    all_goals first|(cases h;done)|(cases h;first|exact stay|exact app _|(refine set _ _ ?_;rename_i hh _ _ _ _ _ _ ;exact hh.2)|(refine set _ _ ?_;simp_all;done))
   all_goals
    simp only[bf]at h
    repeat' (split at h)
    all_goals first|(cases h;done)|(cases h;first|exact stay|exact app _|(refine set _ _ ?_;simp_all;done))
def Ct{op}(aO:op.gN=false){v}(h:bf call base fr H op=some (v,H')):H'=H:=by
 cases aa:op.cls with
 |t=>exact(Bk aa h).1
 |r=>exact(zC aa h).1
 |a=>simp[b3.gN,aa]at aO
 |w=>simp[b3.gN,aa]at aO
end
section
variable {ops:Array Oper}
def bitsOf(acc:Array Nat)(o:Oper):Nat:=o.after.foldl (fun s e=>if Region.binds .any e then s ||| 2^e.on ||| acc.getD e.on 0 else s) 0
theorem alG:Region.before ops=ops.toList.foldl (fun acc o=>acc.push (bitsOf acc o)) #[]:=by
 unfold Region.before;rw[<- Mc];rfl
def aE5(acc o){i}(h:(bitsOf acc o).testBit i=true):∃e∈o.after,Region.binds .any e=true/\(i=e.on\/(acc.getD e.on 0).testBit i=true):=by
 unfold bitsOf at h;rw[<- Mc]at h
 have key:∀(l:List Edge) (s:Nat),(l.foldl (fun s e=>if Region.binds .any e then s ||| 2^e.on ||| acc.getD e.on 0 else s) s).testBit i=true->s.testBit i=true\/∃e∈l,Region.binds .any e=true/\(i=e.on\/(acc.getD e.on 0).testBit i=true):=by
  intro l
  induction l with
  |nil=>intro s h;exact .inl h
  |cons e l aw=>
    intro s h;rw[Gz]at h
    rcases aw _ h with h|⟨bw,zY,h⟩
    .by_cases af:Region.binds .any e=true
     .rw[a' af,Nat.testBit_or,Nat.testBit_or,Nat.testBit_two_pow]at h;simp only[jq,lm]at h
      rcases h with(h|h)|h
      .exact .inl h
      .exact .inr ⟨e,iH,af,.inl h.symm⟩
      .exact .inr ⟨e,iH,af,.inr h⟩
     .rw[bm af]at h;exact .inl h
    .exact .inr ⟨bw,hP _ zY,h⟩
 rcases key _ _ h with h|⟨e,he,h⟩
 .simp at h
 .exact⟨e,by simpa using he,h⟩
def aFm:∀(l:List Oper) (acc:Array Nat),
 (∀(j v:Nat),acc[j]?=some v->(l.foldl (fun acc o=>acc.push (bitsOf acc o)) acc)[j]?=some v)/\
 ∀(j v:Nat),(l.foldl (fun acc o=>acc.push (bitsOf acc o)) acc)[j]?=some v->acc[j]?=some v\/(acc.size<=j/\∃(o:Oper) (pre:Array Nat),l[j-acc.size]?=some o/\v=bitsOf pre o/\
   ∀(m x:Nat),pre[m]?=some x->(l.foldl (fun acc o=>acc.push (bitsOf acc o)) acc)[m]?=some x):=by
 intro l
 induction l with
 |nil=>intro acc;exact⟨fun j v h=>h,fun j v h=>.inl h⟩
 |cons o l aw=>
   intro acc;rw[Gz];obtain⟨J,U⟩:=aw (acc.push (bitsOf acc o))
   have aj:∀(j v:Nat),acc[j]?=some v->(acc.push (bitsOf acc o))[j]?=some v:=by
    intro j v h;have:=(qS.1 h).1
    rw[C7,bm (by omega)];exact h
   refine⟨fun j v h=>J j v (aj j v h),fun j v h=>?_⟩
   rcases U j v h with h|⟨br,o',pre,aF,aK,dS⟩
   .rw[C7]at h;split at h
    .rename_i JU;cases h
     refine .inr ⟨by omega,o,acc,by simp[JU],rfl,fun m x hm=>J m x (aj m x hm)⟩
    .exact .inl h
   .simp only[GM]at br aF
    refine .inr ⟨by omega,o',pre,?_,aK,dS⟩
    have:j-acc.size=j-(acc.size+1)+1:=by omega
    rw[this,Av];exact aF
def az6{i j}(h:iP (Region.before ops).toList i j=true):∃o,ops[j]?=some o/\∃e∈o.after,Region.binds .any e=true/\(i=e.on\/iP (Region.before ops).toList i e.on=true):=by
 unfold iP at h
 have tc:∃v,(Region.before ops)[j]?=some v/\v.testBit i=true:=by
  cases e:(Region.before ops)[j]? with
  |none=>
    have:(Region.before ops).toList.getD j 0=0:=by simp[List.getD,e]
    rw[this]at h;simp at h
  |some v=>
    have:(Region.before ops).toList.getD j 0=v:=by simp[List.getD,e]
    rw[this]at h;exact⟨v,rfl,h⟩
 obtain⟨v,av,af⟩:=tc;rw[alG]at av
 rcases(aFm ops.toList #[]).2 j v av with a1|⟨_,o,pre,aF,aK,dS⟩
 .simp at a1
 .subst aK;obtain⟨e,he,H4,hi⟩:=aE5 pre o af
  refine⟨o,by simpa using aF,e,he,H4,hi.imp id fun hi=>?_⟩
  unfold iP;cases MA:pre[e.on]? with
  |none=>
    have:pre.getD e.on 0=0:=by simp[MA]
    rw[this]at hi;simp at hi
  |some x=>
    have:pre.getD e.on 0=x:=by simp[MA]
    rw[this]at hi;have ae:=dS _ _ MA;rw[<- alG]at ae
    have:(Region.before ops).toList.getD e.on 0=x:=by simp[List.getD,ae]
    rw[this];exact hi
def nj(ops:Array Oper)(S:Nat->Bool):Prop:=∀j,S j=true->∀i,iP (Region.before ops).toList i j=true->S i=true
def ins(S:Nat->Bool)(i:Nat):Nat->Bool:=fun k=>S k||k==i
def Sb{S:Nat->Bool}(aQ:nj ops S){j o}(aT:ops[j]?=some o)(f':∀e∈o.after,Region.binds .any e=true->S e.on=true){i}(h:iP (Region.before ops).toList i j=true):S i=true:=by
 obtain⟨o',oS,e,he,af,hi⟩:=az6 h;rw[aT]at oS;cases oS;have:=f' e he af
 rcases hi with rfl|hi
 .exact this
 .exact aQ _ this _ hi
def WX{S:Nat->Bool}(aQ:nj ops S){j o}(aT:ops[j]?=some o)(f':∀e∈o.after,Region.binds .any e=true->S e.on=true):nj ops (ins S j):=by
 intro k an i hi;unfold ins at an |-;simp only[jq,cG]at an |-
 rcases an with an|rfl
 .exact .inl (aQ k an i hi)
 .exact .inl (Sb aQ aT f' hi)
end
section
variable {call:c5} {base:Nat}
def sl(call:c5)(base:Nat)(o:cF)(F:List V)(G:az)(v:V)(axg:List V)(lV:az):Prop:=
 axg=put o.dst v F/\((want o F=some false/\v=bR/\lV=G)\/(want o F=some true/\bf call base F G o.op=some (v,lV)))
def ajY:∀(l:List cF) (fr:List V) (H:az) (aW:List V) (H':az),cu call base l fr H=some (aW,H')->
 ∃(F:Nat->List V) (G:Nat->az) (val:Nat->V),F 0=fr/\G 0=H/\F l.length=aW/\G l.length=H'/\
   ∀k o,l[k]?=some o->sl call base o (F k) (G k) (val k) (F (k+1)) (G (k+1)):=by
 intro l
 induction l with
 |nil=>intro fr H aW H' h;cases h;exact⟨fun _=>fr,fun _=>H,fun _=>bR,rfl,rfl,rfl,rfl,fun k o h=>by simp at h⟩
 |cons o l aw=>
   intro fr H aW H' h;have build:∀(v:V) (H1:az),cu call base l (put o.dst v fr) H1=some (aW,H')->sl call base o fr H v (put o.dst v fr) H1->
    ∃(F:Nat->List V) (G:Nat->az) (val:Nat->V),F 0=fr/\G 0=H/\F (o::l).length=aW/\G (o::l).length=H'/\
      ∀k o',(o::l)[k]?=some o'->sl call base o' (F k) (G k) (val k) (F (k+1)) (G (k+1)):=by
    intro v H1 J aq;obtain⟨F,G,val,cy,a2,a3,a4,a5⟩:=aw _ _ _ _ J
    refine⟨fun k=>match k with|0=>fr|k+1=>F k,fun k=>match k with|0=>H|k+1=>G k,fun k=>match k with|0=>v|k+1=>val k,rfl,rfl,a3,a4,?_⟩
    intro k o' an;cases k with
    |zero=>simp at an;subst an;simp only[cy,a2];exact aq
    |succ k=>exact a5 k o' (by simpa using an)
   simp only[cu]at h;split at h
   .cases h
   .rename_i hw;exact build bR H h ⟨rfl,.inl ⟨hw,rfl,rfl⟩⟩
   .rename_i hw;split at h
    .rename_i v H1 cE;exact build v H1 h ⟨rfl,.inr ⟨hw,cE⟩⟩
    .cases h
def lw(dst:Nat->Option Nat)(val:Nat->V)(f0:V)(S:Nat->Bool)(s:Nat):Nat->V
 |0=>f0
 |k+1=>if S k=true/\dst k=some s then val k else lw dst val f0 S s k
variable {dst:Nat->Option Nat} {val:Nat->V} {f0:V} {S:Nat->Bool} {s i:Nat}
def zH:∀m,(∀k,k<m->dst k=some s->(S k=true↔k<i))->lw dst val f0 S s m=lw dst val f0 (fun _=>true) s (min m i):=by
 intro m
 induction m with
 |zero=>intro _;simp[lw]
 |succ m aw=>
   intro h
   have lh:=aw fun k an=>h k (by omega)
   by_cases aQ:dst m=some s
   .have hm:=h m (by omega) aQ
    by_cases aq:S m=true
    .have hi:=hm.1 aq
     have e:min (m+1) i=m+1:=by omega
     rw[e];simp[lw,aq,aQ]
    .have hi:¬m<i:=fun hi=>aq (hm.2 hi)
     have e:min (m+1) i=min m i:=by omega
     rw[e,<- lh];simp[lw,aq]
   .have aF:lw dst val f0 S s (m+1)=lw dst val f0 S s m:=by simp[lw,aQ]
    rw[aF,lh];by_cases hi:m<i
    .have aK:min (m+1) i=m+1:=by omega
     have dS:min m i=m:=by omega
     rw[aK,dS];simp[lw,aQ]
    .have aK:min (m+1) i=min m i:=by omega
     rw[aK]
def Uh(h:dst i≠some s):∀m,lw dst val f0 (ins S i) s m=lw dst val f0 S s m:=by
 intro m
 induction m with
 |zero=>rfl
 |succ m aw=>
   simp only[lw,aw];by_cases hm:m=i
   .subst hm;simp[h]
   .simp[ins,hm]
def ahA(h:dst i=some s):∀m,i<m->(∀k,i<k->k<m->dst k=some s->S k=false)->lw dst val f0 (ins S i) s m=val i:=by
 intro m
 induction m with
 |zero=>intro hi;omega
 |succ m aw=>
   intro hi an;by_cases hm:m=i
   .subst hm;simp[lw,ins,h]
   .have e:lw dst val f0 (ins S i) s (m+1)=lw dst val f0 (ins S i) s m:=by
     have:¬(ins S i m=true/\dst m=some s):=by
      rintro⟨J,U⟩
      have:=an m (by omega) (by omega) U
      simp[ins,this,hm]at J
     simp only[lw,bm this]
    rw[e]
    exact aw (by omega) fun k J U=>an k J (by omega)
def hz(dst:Nat->Option Nat)(val:Nat->V)(fr:List V)(N:Nat)(S:Nat->Bool):List V:=(List.range fr.length).map fun s=>lw dst val (fr.getD s .bs) S s N
def tk{fr N}(s):(hz dst val fr N S).getD s .bs=if s<fr.length then lw dst val (fr.getD s .bs) S s N else .bs:=by
 unfold hz;by_cases h:s<fr.length
 .simp[h]
 .simp[h]
def ou{fr N}:(hz dst val fr N S).length=fr.length:=by simp[hz]
def yN{x y:List V}(ak:x.length=y.length)(h:∀s,s<x.length->x.getD s .bs=y.getD s .bs):x=y:=by
 apply MS ak;intro s J U;have:=h s J
 simpa[List.getD,J,U]using this
def Bm(d v fr):(put d v fr).length=fr.length:=by cases d<;>simp[put]
def CK(d v fr s)(aq:s<fr.length):(put d v fr).getD s .bs=if d=some s then v else fr.getD s .bs:=by
 cases d with
 |none=>simp[put]
 |some d=>
   by_cases h:d=s
   .subst h;simp[put,aq]
   .simp[put,h]
end
section
variable {aE:fD} {μ:dn} {ab:Nat->Prop} {w:World} {H:az} {P:Program} [oG aE P] {pure':gH} {call:c5} {base:Nat}
def e'.obj{m v}(h:e' m v){id}(aT:v.jM=some (some id)):id<m:=by
 cases h<;>simp[V.jM]at aT<;>(subst aT;assumption)
def WM{p q:Nat->Bool}:∀{l:List Nat},(∀k∈l,q k=true->p k=true)->(∃k∈l,p k=true/\q k=false)->l.countP q<l.countP p:=by
 intro l
 induction l with
 |nil=>rintro _ ⟨k,an,_⟩;cases an
 |cons x l aw=>
   intro h ae;have hI:∀(l:List Nat),(∀k∈l,q k=true->p k=true)->l.countP q<=l.countP p:=fun l h=>List.countP_mono_left h;rw[List.countP_cons,List.countP_cons];obtain⟨k,an,J,U⟩:=ae
   rcases kf.1 an with rfl|an
   .have:=hI l fun k an=>h k (hP _ an);simp[J,U];omega
   .have:=aw (fun k an=>h k (hP _ an)) ⟨k,an,J,U⟩;have ae:=h x iH;by_cases bD:q x=true
    .simp[bD,ae bD];omega
    .simp[bD];split<;>omega
structure Row (P:Program) (pure':gH) (call:c5) (base:Nat) (ops:Array Oper) (l:List cF) (b9:List (Nat × Nat)) (fr aW:List V) (H H':az) (F:Nat->List V) (G:Nat->az) (val:Nat->V):Prop where
 Hz:pb P pure' ops l
 ord:uU (Region.before ops).toList b9 l=true
 back:oh ops=true
 f0:F 0=fr
 g0:G 0=H
 L4:F l.length=aW
 p6:G l.length=H'
 steps:∀k o,l[k]?=some o->sl call base o (F k) (G k) (val k) (F (k+1)) (G (k+1))
 apart:b9.all (j8 call base l fr H aW)=true
 floor:∀v args base H r H',call v args base H=some (r,H')->H.length<=H'.length/\∀id,id<base->id<H.length->H'[id]?=H[id]?
variable {ops:Array Oper} {l:List cF} {b9:List (Nat × Nat)} {fr aW:List V} {H H':az} {F:Nat->List V} {G:Nat->az} {val:Nat->V}
abbrev fC(l:List cF)(k:Nat):Option Nat:=(l.getD k default).dst
def ra{k o}(h:l[k]?=some o):l.getD k default=o:=by simp[List.getD,h]
def Row.vA(R:Row P pure' call base ops l b9 fr aW H H' F G val):∀k,k<=l.length->(F k).length=fr.length/\∀s,s<fr.length->(F k).getD s .bs=lw (fC l) val (fr.getD s .bs) (fun _=>true) s k:=by
 intro k
 induction k with
 |zero=>intro _;rw[R.f0];exact⟨rfl,fun s _=>rfl⟩
 |succ k aw=>
   intro an
   obtain⟨J,U⟩:=aw (by omega)
   have ak:l[k]?=some l[k]:=dy (by omega)
   have aq:=(R.steps k _ ak).1;rw[aq]
   refine⟨by rw[Bm,J],fun s hC=>?_⟩
   rw[CK _ _ _ _ (by rw[J];exact hC),U s hC]
   have aQ:fC l k=l[k].dst:=by rw[fC,ra ak]
   simp only[lw,aQ,wR]
def Row.ordered(R:Row P pure' call base ops l b9 fr aW H H' F G val){i j}(vK:i<j)(br:j<l.length):
 tM (l.getD i default) (l.getD j default)=false\/iP (Region.before ops).toList i j=true\/(rv (l.getD i default) (l.getD j default)=true/\(i,j)∈b9):=by
 have h:=R.ord;unfold uU at h;simp only[dr]at h;have h:=h.2;rw[dU]at h
 have h:=h j (by simpa using br)
 rw[dU]at h
 have h:=h i (by simpa using vK)
 simp only[jq,xy,dr]at h
 rcases h with(h|h)|h
 .exact .inl h
 .exact .inr (.inl h)
 .exact .inr (.inr ⟨h.1,by simpa using h.2⟩)
def Ia:∀(a b:List cF) (fr:List V) (H:az),cu call base (a++b) fr H=match cu call base a fr H with|some (aW,H')=>cu call base b aW H' | none=>none:=by
 intro a
 induction a with
 |nil=>intro b fr H;rfl
 |cons o a aw=>
   intro b fr H;simp only[h5,cu];cases want o fr with
   |none=>rfl
   |some q=>cases q with
     |false=>exact aw _ _ _
     |true=>
       cases bf call base fr H o.op with
       |none=>rfl
       |some r=>exact aw _ _ _
def Row.upto(R:Row P pure' call base ops l b9 fr aW H H' F G val):∀k,k<=l.length->cu call base (l.take k) fr H=some (F k,G k):=by
 intro k
 induction k with
 |zero=>intro _;rw[gq,R.f0,R.g0];rfl
 |succ k aw=>
   intro an
   have ak:l[k]?=some l[k]:=dy (by omega)
   rw[List.take_succ,ak,LD,Ia,aw (by omega)]
   obtain⟨J,U⟩:=R.steps k _ ak;rw[J]
   rcases U with⟨w,v,g⟩|⟨w,e⟩
   .simp only[cu,w,v,g]
   .simp only[cu,w,e]
def Row.pair(R:Row P pure' call base ops l b9 fr aW H H' F G val){S:Nat->Bool}(aQ:nj ops S){i k}(Gq:k≠i)(hi:i<l.length)(an:k<l.length)(eV:S i=false)(gr:∀j,iP (Region.before ops).toList j i=true->S j=true)(FI:tM (l.getD i default) (l.getD k default)=true)(oC:tM (l.getD k default) (l.getD i default)=true):
 (S k=true↔k<i)\/(k<i/\rv (l.getD k default) (l.getD i default)=true/\(k,i)∈b9)\/(i<k/\rv (l.getD i default) (l.getD k default)=true/\(i,k)∈b9):=by
 by_cases h:k<i
 .rcases R.ordered h hi with J|J|J
  .rw[oC]at J;cases J
  .exact .inl ⟨fun _=>h,fun _=>gr k J⟩
  .exact .inr (.inl ⟨h,J⟩)
 .have lh:i<k:=by omega
  rcases R.ordered lh an with J|J|J
  .rw[FI]at J;cases J
  .exact .inl ⟨fun aq=>(by have:=aQ k aq i J;rw[eV]at this;cases this),fun bt=>absurd bt h⟩
  .exact .inr (.inr ⟨lh,J⟩)
def ajd{a b}(h:qe a b=true):tM a b=true:=by simp[tM,h]
def amf{a b}(h:qe a b=true):rv a b=false:=by simp[rv,h]
def T'{a b}(h:a.op.cls=.w)(k:b.op.cls=.r):tM a b=true/\tM b a=true:=by simp[tM,h,k]
def SF{o:b3}(h:o.cls=.t):o.gN=false:=by simp[b3.gN,h]
def MM{o:b3}(h:o.cls=.r):o.gN=false:=by simp[b3.gN,h]
def azp{o:b3}(h:o.cls=.a):o.gN=true:=by simp[b3.gN,h]
def acS{o:b3}(h:o.cls=.w):o.gN=true:=by simp[b3.gN,h]
def JG{a b}(h:a.op.gN=true)(k:b.op.gN=true):tM a b=true:=by simp[tM,h,k]
def Ig{a b}(h:a.op.gN=true)(k:b.op.gN=true):rv a b=false:=by
 obtain⟨_,mF,_⟩:=a;obtain⟨_,bo,_⟩:=b
 cases mF<;>first|(simp[b3.gN,b3.cls]at h;done)|(cases bo<;>first|(simp[b3.gN,b3.cls]at k;done)|(simp[rv];done))
def as0{a b}(h:a.op.cls=.w)(k:b.op.cls=.r)(ak:rv a b=true\/rv b a=true):(∃n x v,a.op=.store n x v)\/(∃sz bytes s x,a.op=.append sz bytes s x)\/∃f xs,a.op=.call f xs:=by
 obtain⟨_,mF,_⟩:=a;obtain⟨_,bo,_⟩:=b
 cases mF<;>first|(simp[b3.cls]at h;done)|exact .inl ⟨_,_,_,rfl⟩|exact .inr (.inl ⟨_,_,_,_,rfl⟩)|exact .inr (.inr ⟨_,_,rfl⟩)|(cases bo<;>first|(simp[b3.cls]at k;done)|(simp[rv]at ak;done))
def alK{o:cF}{s:Nat}(h:o.dst=some s):s∈o.names:=by simp[cF.names,h]
def Zp(a b):qe a b=qe b a:=by unfold qe;rw[Bool.or_comm]
def Row.AG(R:Row P pure' call base ops l b9 fr aW H H' F G val){S:Nat->Bool}(aQ:nj ops S){i k}(Gq:k≠i)(hi:i<l.length)(an:k<l.length)(eV:S i=false)(gr:∀j,iP (Region.before ops).toList j i=true->S j=true)(aa:qe (l.getD k default) (l.getD i default)=true):S k=true↔k<i:=by
 have k0:qe (l.getD i default) (l.getD k default)=true:=by rw[Zp];exact aa
 rcases R.pair aQ Gq hi an eV gr (ajd k0) (ajd aa)with h|⟨_,h,_⟩|⟨_,h,_⟩
 .exact h
 .rw[amf aa]at h;cases h
 .rw[amf k0]at h;cases h
def OX{o s}(h:s∈o.names){a}(aD:a.dst=some s):qe a o=true:=by
 simp[qe,aD,h]
def Row.slot(R:Row P pure' call base ops l b9 fr aW H H' F G val){S:Nat->Bool}(aQ:nj ops S){i}(hi:i<l.length)(eV:S i=false)(gr:∀j,iP (Region.before ops).toList j i=true->S j=true){s}(aq:s∈(l.getD i default).reads):(hz (fC l) val fr l.length S).getD s .bs=(F i).getD s .bs:=by
 obtain⟨dd,hJ⟩:=R.vA i (by omega)
 rw[tk];split
 .rename_i bt;rw[hJ s bt,zH (i:=i) l.length fun k an GU=>?_]
  .rw[J0 (by omega)]
  .by_cases p5:k=i
   .subst p5;rw[eV]
    exact⟨fun h=>(by cases h),fun h=>absurd h (y1 _)⟩
   .exact R.AG aQ p5 hi an eV gr (OX (pf _ aq) GU)
 .rename_i bt;simp[List.getD,dd,bt]
def Row.after(R:Row P pure' call base ops l b9 fr aW H H' F G val){S:Nat->Bool}(aQ:nj ops S){i:Nat}(hi:i<l.length)(eV:S i=false)(gr:∀j,iP (Region.before ops).toList j i=true->S j=true):hz (fC l) val fr l.length (ins S i)=put (fC l i) (val i) (hz (fC l) val fr l.length S):=by
 refine yN (by rw[Bm,ou,ou]) fun s aq=>?_
 rw[ou]at aq
 rw[CK _ _ _ _ (by rw[ou];exact aq),tk,tk,a' aq,a' aq]
 split
 .rename_i fz;refine ahA fz _ hi fun k J U ax=>?_;cases Ph:S k with
  |false=>rfl
  |true=>
    have aN:s∈(l.getD i default).names:=by
     exact alK fz
    have:=(R.AG aQ (by omega) hi U eV gr (OX aN ax)).1 Ph
    omega
 .rename_i fz;exact Uh fz _
def Fs{o:cF}{x:cY}(ae:x∈o.op.qo){f1 f2:List V}(h:∀s∈o.reads,f1.getD s .bs=f2.getD s .bs):aX f1 x=aX f2 x:=by
 cases x with
 |c v=>rfl
 |t s=>exact h s (lH _ (List.mem_flatMap.2 ⟨_,ae,by simp[cY.vq]⟩))
def HC{o f1 f2}(h:∀s∈o.reads,f1.getD s .bs=f2.getD s .bs):want o f1=want o f2:=by
 unfold want;cases bb:o.guard with
 |none=>rfl
 |some p=>
   obtain⟨t,b⟩:=p
   have:=h t (by simp[cF.reads,bb])
   simp only[this]
def sl.same{o A N3 B Ai v}(h:sl call base o A B v N3 Ai)(hm:o.op.gN=false):Ai=B:=by
 rcases h.2 with⟨_,_,e⟩|⟨_,e⟩
 .exact e
 .exact Ct hm e
def sl.len(ei:∀v args base H r H',call v args base H=some (r,H')->H.length<=H'.length/\∀id,id<base->id<H.length->H'[id]?=H[id]?){o A N3 B Ai v}(h:sl call base o A B v N3 Ai):B.length<=Ai.length:=by
 rcases h.2 with⟨_,_,e⟩|⟨_,e⟩
 .rw[e];exact bS _
 .exact(ajo ei e).1
def Row.step(R:Row P pure' call base ops l b9 fr aW H H' F G val){k}(an:k<l.length):sl call base (l.getD k default) (F k) (G k) (val k) (F (k+1)) (G (k+1)):=by
 have ak:l[k]?=some l[k]:=dy an;rw[ra ak];exact R.steps k _ ak
theorem Row.lens (R:Row P pure' call base ops l b9 fr aW H H' F G val) {a b:Nat} (sI:a≤b) (af:b≤l.length):(G a).length≤(G b).length:=by
 induction b with
 | zero=>have:a=0:=by omega
         subst this;exact bS _
 | succ b aw=>
   by_cases h:a=b+1
   ·subst h;exact bS _
   ·exact k9 (aw (by omega) (by omega)) ((R.step (by omega)).len R.floor)
theorem Row.afE (R:Row P pure' call base ops l b9 fr aW H H' F G val) {a b:Nat} (sI:a≤b) (af:b≤l.length) (h:∀ k,a≤k→k < b→(l.getD k default).op.gN=false):G b=G a:=by
 induction b with
 | zero=>have:a=0:=by omega
         subst this;rfl
 | succ b aw=>
   by_cases aa:a=b+1
   ·subst aa;rfl
   ·rw [(R.step (by omega)).same (h b (by omega) (by omega))]
    exact aw (by omega) (by omega) fun k J U=>h k J (by omega)
def Row.stay(R:Row P pure' call base ops l b9 fr aW H H' F G val){i}(hi:i<l.length)(aq:HT l i=true){x}(ae:(l.getD i default).op.place=some x):aX aW x=aX (F i) x:=by
 unfold HT at aq;rw[ae]at aq;cases x with
 |c v=>rfl
 |t s=>
   simp only[cY.vq,qM,s7,oX,dU,I',jq,lm,hU,ne_eq]at aq
   obtain⟨J,U⟩:=R.vA i (by omega)
   obtain⟨ax,aY⟩:=R.vA l.length (bS _);rw[<- R.L4];show(F l.length).getD s .bs=(F i).getD s .bs;by_cases bt:s<fr.length
   .rw[U s bt,aY s bt,zH (S:=fun _=>true) (i:=i) l.length fun k an aQ=>?_,J0 (by omega)]
    rcases aq k an with h|h
    .simp[h]
    .exact absurd aQ h
   .simp[List.getD,J,ax,bt]
def Row.late(R:Row P pure' call base ops l b9 fr aW H H' F G val){i j}(hm:(i,j)∈b9)(hi:i<l.length)(br:j<l.length){x y}(ae:(l.getD i default).op.place=some x)(bA:(l.getD j default).op.place=some y){a b}(aD:(l.getD i default).op.obj (aX (F i) x)=some (some a))(af:(l.getD j default).op.obj (aX (F j) y)=some (some b)):a≠b:=by
 have J:=R.apart;rw[dU]at J;have J:=J _ hm;have U:=R.ord;unfold uU at U;simp only[dr,dU]at U;have U:=U.1.1 _ hm
 have cw:(l.getD i default).op.z1=false:=by cases cE:(l.getD i default).op<;>first|rfl|(rw[cE]at ae;cases ae)
 have bN:(l.getD j default).op.z1=false:=by cases cE:(l.getD j default).op<;>first|rfl|(rw[cE]at bA;cases bA)
 simp only[j8,cw,bN,nv,uE]at J;simp only[y8,ae,bA,R.stay hi U.1 ae,R.stay br U.2 bA,aD,af]at J
 simpa using J
def Row.keeps(R:Row P pure' call base ops l b9 fr aW H H' F G val){c i}(hm:(c,i)∈b9\/(i,c)∈b9)(aa:c<l.length)(hi:i<l.length){f xs}(cE:(l.getD c default).op=.call f xs){x}(ae:(l.getD i default).op.place=some x){id}(hid:(l.getD i default).op.obj (aX (F i) x)=some (some id)):(G (c+1))[id]?=(G c)[id]?:=by
 have J:=R.apart;rw[dU]at J;have U:=R.ord;unfold uU at U;simp only[dr,dU]at U
 have cw:(l.getD c default).op.z1=true:=by rw[cE];rfl
 have bN:(l.getD i default).op.z1=false:=by cases cE:(l.getD i default).op<;>first|rfl|(rw[cE]at ae;cases ae)
 have Iw:(l.getD c default).op.place=none:=by rw[cE];rfl
 have aq:HT l i=true:=by
  rcases hm with hm|hm
  .exact(U.1.1 _ hm).2
  .exact(U.1.1 _ hm).1
 have key:AB call base l fr H aW c i=true:=by
  rcases hm with hm|hm
  .have:=J _ hm;simp only[j8,y8,Iw,cw,bN,nv,px,uE,o5]at this;exact this
  .have:=J _ hm;simp only[j8,y8,Iw,cw,bN,nv,px,uE]at this
   cases aj:(l.getD i default).op.place<;>rw[aj]at this<;>simpa using this
 unfold AB at key
 rw[R.upto c (by omega),R.upto (c+1) (by omega)]at key
 simp only[Nd,ae,R.stay hi aq ae,hid]at key;exact @EG _ (Classical.propDecidable _) key
theorem Row.look (R:Row P pure' call base ops l b9 fr aW H H' F G val) {S:Nat→Bool} (aQ:nj ops S) {i p:Nat} (hi:i < l.length) (aj:p≤l.length) (eV:S i=false)
 (gr:∀ j,iP (Region.before ops).toList j i=true→S j=true) (qU:∀ k,k < p→(l.getD k default).op.gN=true→S k=true) (nh:∀ k,p≤k→k < l.length→(l.getD k default).op.gN=true→S k=false)
 (ar:(l.getD i default).op.cls=.r) {x:cY} (ae:(l.getD i default).op.place=some x) {id:Nat} (hid:(aX (F i) x).jM=some (some id)) (bt:i≤p→id < (G i).length) (xG:p≤i→id < (G p).length):(G p)[id]?=(G i)[id]?:=by
 have one:∀ k,k < l.length→(i≤k∧k < p∨p≤k∧k < i)→id < (G k).length→(G (k+1))[id]?=(G k)[id]?:=by
  intro k an af tS;have aq:=R.step an
  rcases aq.2 with ⟨_,_,e⟩ | ⟨_,e⟩
  ·rw [e]
  ·cases aa:(l.getD k default).op.cls with
   | t=>rw [Ct (SF aa) e]
   | r=>rw [Ct (MM aa) e]
   | a=>exact (Pj R.floor aa e).2 id tS
   | w=>
     have p5:k≠i:=fun h=>by subst h;rw [ar] at aa;cases aa
     have bJ:(l.getD k default).op.gN=true:=acS aa
     have fin:(rv (l.getD k default) (l.getD i default)=true∨rv (l.getD i default) (l.getD k default)=true)→((k,i)∈b9∨(i,k)∈b9)→(G (k+1))[id]?=(G k)[id]?:=by
      intro aCV uS
      have e1:(l.getD i default).op.obj (aX (F i) x)=some (some id):=by
       rw [← hid]
       cases cE:(l.getD i default).op <;> first | rfl | (rw [cE] at ar;simp [b3.cls] at ar;done)
      rcases as0 aa ar aCV with ⟨n,a,v,cE⟩ | ⟨sz,bytes,s,y,cE⟩ | ⟨f,xs,cE⟩
      ·rw [cE] at e;obtain ⟨eX,J,_,ax⟩:=Lz e;refine ax id ?_
       have rj:(l.getD k default).op.obj (aX (F k) a)=some (some eX):=by rw [cE];exact J
       rcases uS with uS | uS
       ·exact (R.late uS an hi (by rw [cE];rfl) ae rj e1).symm
       ·exact R.late uS hi an ae (by rw [cE];rfl) e1 rj
      ·rw [cE] at e;refine awZ e id tS fun J=>?_
       have rj:(l.getD k default).op.obj (aX (F k) s)=some (some id):=by rw [cE];exact J
       rcases uS with uS | uS
       ·exact R.late uS an hi (by rw [cE];rfl) ae rj e1 rfl
       ·exact R.late uS hi an ae (by rw [cE];rfl) e1 rj rfl
      ·exact R.keeps uS an hi cE ae e1
     rcases R.pair aQ p5 hi an eV gr (T' aa ar).2 (T' aa ar).1 with h | ⟨_,h,hm⟩ | ⟨_,h,hm⟩
     ·exfalso
      rcases af with ⟨J,U⟩ | ⟨J,U⟩
      ·have:=h.1 (qU k U bJ);omega
      ·have:=h.2 U;rw [nh k J an bJ] at this;cases this
     ·exact fin (.inl h) (.inl hm)
     ·exact fin (.inr h) (.inr hm)
 have run:∀ n a b,b=a+n→b≤l.length→id < (G a).length→(∀ k,a≤k→k < b→(i≤k∧k < p∨p≤k∧k < i))→(G b)[id]?=(G a)[id]?:=by
  intro n
  induction n with
  | zero=>intro a b af _ _ _;have:b=a:=by omega
          rw [this]
  | succ n aw=>
    intro a b af ds ak an
    have J:=aw (a+1) b (by omega) ds (lX ak (R.lens (by omega) (by omega))) fun k J U=>an k (by omega) U
    rw [J]
    exact one a (by omega) (an a (bS _) (by omega)) ak
 by_cases h:i≤p
 ·exact run (p - i) i p (by omega) aj (bt h) fun k J U=>.inl ⟨J,U⟩
 ·exact (run (i - p) p i (by omega) (by omega) (xG (by omega)) fun k J U=>.inr ⟨J,U⟩).symm
end
section
variable {aE:fD} {μ:dn} {ab:Nat→Prop} {w:World} {H:az} {P:Program} [oG aE P] {pure':gH} {call:c5} {base:Nat}
variable {ops:Array Oper} {l:List cF} {b9:List (Nat × Nat)} {fr aW:List V} {H H':az} {F:Nat→List V} {G:Nat→az} {val:Nat→V}
def pP(cW:Array Bool)(N:Nat):Nat:=(List.range N).countP fun k=>!(cW.getD k false)
def Row.PB(R:Row P pure' call base ops l b9 fr aW H H' F G val){S:Nat->Bool}(aQ:nj ops S){i p:Nat}(hi:i<l.length)(aj:p<=l.length)(eV:S i=false)(gr:∀j,iP (Region.before ops).toList j i=true->S j=true)(qU:∀k,k<p->(l.getD k default).op.gN=true->S k=true)(nh:∀k,p<=k->k<l.length->(l.getD k default).op.gN=true->S k=false)(hh:cB aE μ ab w (G p)){t:Array Value}(al:c9 μ ab w (hz (fC l) val fr l.length S) t):
 ∃ia,ia<=l.length/\(∀k,k<ia->(l.getD k default).op.gN=true->ins S i k=true)/\(∀k,ia<=k->k<l.length->(l.getD k default).op.gN=true->ins S i k=false)/\
   sl call base (l.getD i default) (hz (fC l) val fr l.length S) (G p) (val i) (hz (fC l) val fr l.length (ins S i)) (G ia)/\
   (∀s∈(l.getD i default).reads,(hz (fC l) val fr l.length S).getD s .bs=(F i).getD s .bs)/\((l.getD i default).op.gN=true->G p=G i):=by
 have aq:=R.step hi;have gg:∀s∈(l.getD i default).reads,(hz (fC l) val fr l.length S).getD s .bs=(F i).getD s .bs:=fun s aq=>R.slot aQ hi eV gr aq;have hw:=HC gg;have By:=R.after aQ hi eV gr;have Fo:∀B,bf call base (hz (fC l) val fr l.length S) B (l.getD i default).op=bf call base (F i) B (l.getD i default).op:=fun B=>JK _ fun x ae=>Fs ae gg;by_cases bJ:(l.getD i default).op.gN=true
 .have EE:p<=i:=by
   apply Nat.le_of_not_lt;intro h;have:=qU i h bJ;rw[eV]at this;cases this
  have jr:G i=G p:=by
   refine R.afE EE (by omega) fun k J U=>?_
   cases an:(l.getD k default).op.gN with
   |false=>rfl
   |true=>
     exfalso
     have ax:=nh k J (by omega) an
     rcases R.pair aQ (by omega:k≠i) hi (by omega) eV gr (JG bJ an) (JG an bJ)with h|⟨_,h,_⟩|⟨_,h,_⟩
     .have:=h.2 U;rw[ax]at this;cases this
     .rw[Ig an bJ]at h;cases h
     .rw[Ig bJ an]at h;cases h
  refine⟨i+1,by omega,fun k J U=>?_,fun k J U ax=>?_,⟨By,?_⟩,gg,fun _=>jr.symm⟩
  .by_cases an:k=i
   .subst an;simp[ins]
   .by_cases P3:k<p
    .simp[ins,qU k P3 U]
    .exfalso
     have ax:=nh k (by omega) (by omega) U
     rcases R.pair aQ an hi (by omega) eV gr (JG bJ U) (JG U bJ)with h|⟨_,h,_⟩|⟨_,h,_⟩
     .have:=h.2 (by omega);rw[ax]at this;cases this
     .rw[Ig U bJ]at h;cases h
     .rw[Ig bJ U]at h;cases h
  .have:k≠i:=by omega
   simp[ins,nh k (by omega) U ax,this]
  .rw[hw,Fo,<- jr];exact aq.2
 .have Tv:(l.getD i default).op.gN=false:=by simpa using bJ
  refine⟨p,aj,fun k J U=>by simp[ins,qU k J U],fun k J U ax=>?_,⟨By,?_⟩,gg,fun h=>absurd h bJ⟩
  .have:k≠i:=fun e=>by subst e;exact bJ ax
   simp[ins,nh k J U ax,this]
  .rw[hw,Fo]
   rcases aq.2 with⟨J,U,_⟩|⟨J,U⟩
   .exact .inl ⟨J,U,rfl⟩
   .refine .inr ⟨J,?_⟩;cases aa:(l.getD i default).op.cls with
    |t=>exact(Bk aa U).2 _
    |a=>exact absurd (azp aa) bJ
    |w=>exact absurd (acS aa) bJ
    |r=>
      obtain⟨_,x,ae,af,bb⟩:=zC aa U;refine bb _ fun id hid=>R.look aQ hi aj eV gr qU nh aa ae hid (fun _=>af id hid) (fun _=>?_)
      have e0:Ck (l.getD i default)=true:=by
       have h:=R.ord;unfold uU at h;simp only[dr]at h;have h:=h.1.2;rw[dU]at h;refine h _ ?_;have:l[i]?=some l[i]:=dy hi;rw[ra this];exact wa hi
      unfold Ck at e0;rw[aa,ae]at e0;cases x with
      |c v=>cases v<;>first|(simp at e0;done)|(simp[aX,V.jM]at hid;done)
      |t s=>
        have zZ:s∈(l.getD i default).reads:=by
         refine lH _ (List.mem_flatMap.2 ⟨.t s,?_,by simp[cY.vq]⟩)
         cases cE:(l.getD i default).op<;>rw[cE]at ae<;>simp[b3.place]at ae<;>simp[b3.qo,ae]
        have av:=(al.getD s).qL hh.gR;rw[gg s zZ]at av;exact av.obj hid
def aFf{d:Nat->Option Nat}{v:Nat->V}{x}{S:Nat->Bool}{s}:∀(m:Nat),(∀k,k<m->d k≠some s)->lw d v x S s m=x:=by
 intro m
 induction m with
 |zero=>intro _;rfl
 |succ m aw=>
   intro h;simp only[lw]
   rw[bm (fun aa=>h m (by omega) aa.2)]
   exact aw fun k an=>h k (by omega)
def aEy{d:Nat->Option Nat}{v:Nat->V}{f N}{S:Nat->Bool}{s}(h:∀k,k<N->d k≠some s):(hz d v f N S).getD s .bs=f.getD s .bs:=by
 rw[tk];split
 .exact aFf N h
 .rename_i bt
  simp[List.getD,mm (by omega:f.length<=s)]
def ajT(R:Row P pure' call base ops l b9 fr aW H H' F G val){ro:Option Nat}{n:Nat}{Q:Exit->Act->World->Prop}{ct:World}{dh:List Deferred}(a1:cB aE μ ab ct H)(i0:Option Nat)(D1:∀i,i0=some i->i<l.length)(hw:∀(i:Nat) (o:Oper),ops[i]?=some o->i<l.length->i0≠some i->BZ P pure' o (l.getD i default).op->∀(vn:List V) (cA:dn) (cH:Nat->Prop) (aV:World) (a:Act) (p:Nat) (v:V) (K:az) (next:Act->World->Prop),cB aE cA cH aV (G p)->c9 cA cH aV vn a.tmps->
  bf call base vn (G p) (l.getD i default).op=some (v,K)->(∀r w',nr aE cA cH aV (G p) v K (.returned r) w'->next (a.put o.dst r) w')->o.wpIn (hX ro) n P a aV next Q)(aj:∀(i:Nat) (o:Oper),i0=some i->ops[i]?=some o->BZ P pure' o (l.getD i default).op->(l.getD i default).op.gN=true/\want (l.getD i default) (F i)=some true/\∀(vn:List V) (cA:dn) (cH:Nat->Prop) (aV:World) (a:Act) (next:Act->World->Prop),dm aE μ ab ct H cA cH aV (G i)->c9 cA cH aV vn a.tmps->(∀s∈(l.getD i default).reads,vn.getD s .bs=(F i).getD s .bs)->(∀s,(∀k,k<l.length->fC l k≠some s)->vn.getD s .bs=fr.getD s .bs)->a.defers=dh->o.wpIn (hX ro) n P a aV next Q):
 ∀(fuel:Nat) (cW:Array Bool) (a:Act) (w:World) (ca:dn) (b6:Nat->Prop) (p:Nat),cW.size=l.length->pP cW l.length<=fuel->nj ops (fun k=>cW.getD k false)->(∀i,i0=some i->cW.getD i false=false)->p<=l.length->
   (∀k,k<p->(l.getD k default).op.gN=true->cW.getD k false=true)->(∀k,p<=k->k<l.length->(l.getD k default).op.gN=true->cW.getD k false=false)->
   dm aE μ ab ct H ca b6 w (G p)->c9 ca b6 w (hz (fC l) val fr l.length fun k=>cW.getD k false) a.tmps->a.defers=dh->
   (i0=none->∀bL w',ox aE μ ab ct H dh aW H' bL w'->Q .normal bL w')->wpAnyIn (hX ro) n P .any ops Q fuel cW a w:=by
 have dv:l.length=ops.size:=R.Hz.1;have done:∀(cW:Array Bool) (a:Act) (w:World) (ca:dn) (b6:Nat->Prop) (p:Nat),(∀k,k<l.length->cW.getD k false=true)->p<=l.length->
  (∀k,p<=k->k<l.length->(l.getD k default).op.gN=true->cW.getD k false=false)->
  dm aE μ ab ct H ca b6 w (G p)->c9 ca b6 w (hz (fC l) val fr l.length fun k=>cW.getD k false) a.tmps->a.defers=dh->ox aE μ ab ct H dh aW H' a w:=by
  intro cW a w ca b6 p f' aj nh hO al n'
  have jr:G l.length=G p:=R.afE aj (bS _) fun k J U=>by
   cases an:(l.getD k default).op.gN with
   |false=>rfl
   |true=>have:=nh k J U an;rw[f' k U]at this;cases this
  have hJ:(hz (fC l) val fr l.length fun k=>cW.getD k false)=F l.length:=by
   obtain⟨J,U⟩:=R.vA l.length (bS _)
   refine yN (by rw[ou,J]) fun s aq=>?_
   rw[ou]at aq;rw[tk,a' aq,U s aq,zH (i:=l.length) l.length fun k an _=>?_,Nat.min_self];simp[f' k an,an]
  rw[hJ,R.L4]at al;rw[<- jr,R.p6]at hO;exact⟨ca,b6,hO,al,n'⟩
 have K3:∀cW:Array Bool,cW.size=l.length->Region.ready .any ops cW=[]->∀k,k<l.length->cW.getD k false=true:=by
  intro cW de ar k
  induction k using Nat.strongRecOn with
  |ind k aw=>
    intro an;cases ak:cW.getD k false with
    |true=>rfl
    |false=>
      exfalso
      have aT:ops[k]?=some ops[k]:=o8 (by omega)
      have p':k∈Region.ready .any ops cW:=by
       refine mem_ready.2 ⟨?_,_,aT,fun e he af=>?_⟩
       .have:k<cW.size:=by omega
        simp[this]at ak |-;exact ak
       .have aI:=R.back;unfold oh at aI;rw[dU]at aI
        have aI:=aI k (by simp;omega)
        rw[aT]at aI;simp only[Tc,jq,xy,lm]at aI
        rcases aI e he with h|h
        .rw[af]at h;cases h
        .exact aw e.on h (by omega)
      rw[ar]at p';cases p'
 have Hd:∀cW:Array Bool,(∀i,i0=some i->cW.getD i false=false)->(∀k,k<l.length->cW.getD k false=true)->i0=none:=by
  intro cW ak f';cases hi:i0 with
  |none=>rfl
  |some i=>
    have J:=ak i hi;rw[f' i (D1 i hi)]at J;cases J
 intro fuel
 induction fuel with
 |zero=>
   intro cW a w ca b6 p de Ek aQ Mm aj qU nh hO al n' bn
   have f':∀k,k<l.length->cW.getD k false=true:=by
    intro k an
    have a1:pP cW l.length=0:=by omega
    unfold pP at a1;rw[alq]at a1
    have:=a1 k (by simpa using an)
    simpa using this
   refine⟨?_,bn (Hd cW Mm f') a w (done cW a w ca b6 p f' aj nh hO al n')⟩;cases ar:Region.ready .any ops cW with
   |nil=>rfl
   |cons j arq=>
     exfalso
     obtain⟨J,o,aT,_⟩:=mem_ready.1 (show j∈Region.ready .any ops cW by rw[ar];exact iH)
     have br:j<l.length:=by have:=(qS.1 aT).1;omega
     have U:=f' j br
     have:j<cW.size:=by omega
     simp[this]at J U;rw[J]at U;cases U
 |succ fuel aw=>
   intro cW a w ca b6 p de Ek aQ Mm e0 qU nh hO al n' bn;refine⟨fun ar=>bn (Hd cW Mm (K3 cW de ar)) a w (done cW a w ca b6 p (K3 cW de ar) e0 nh hO al n'),fun i PH=>?_⟩;obtain⟨J,o,aT,f'⟩:=mem_ready.1 PH
   have hi:i<l.length:=by have:=(qS.1 aT).1;omega
   have E5:i<cW.size:=by omega
   have eV:cW.getD i false=false:=by simp[E5]at J |-;exact J
   have gr:∀j,iP (Region.before ops).toList j i=true->cW.getD j false=true:=fun j br=>Sb aQ aT f' br
   have jX:(fun k=>(cW.setIfInBounds i true).getD k false)=ins (fun k=>cW.getD k false) i:=by
    funext k
    by_cases an:k=i
    .subst an;simp[ins,E5]
    .rw[getD_set_ne false (gG an)];simp[ins,an]
   obtain⟨ia,bp,aP,bj,jC,alz,aGP⟩:=R.PB aQ hi e0 eV gr qU nh hO.ar al
   have Sd:l[i]?=some (l.getD i default):=by rw[dy hi,ra (dy hi)]
   obtain⟨A',Af,CH⟩:=R.Hz.2 i o _ aT Sd
   have MD:pP (cW.setIfInBounds i true) l.length<=fuel:=by
    have:pP (cW.setIfInBounds i true) l.length<pP cW l.length:=by
     refine WM (fun k _ an=>?_) ⟨i,by simpa using hi,by simp[eV],?_⟩
     .have:=AJ jX k;simp only[xy]at an |-;rw[this]at an;simp only[ins,rq]at an;exact an.1
     .have:=AJ jX i;simp only[this,ins];simp
    omega
   by_cases Dk:i0=some i
   .obtain⟨t1,t2,t3⟩:=aj i o Dk aT Af;have aza:=aGP t1;unfold wpOpIn;simp only[aT]
    have Gb:want (l.getD i default) (hz (fC l) val fr l.length fun k=>cW.getD k false)=some true:=by rw[HC alz];exact t2
    rw[tK CH al Gb];simp only[fl];rw[aza]at hO;exact t3 _ ca b6 w a _ hO al alz (fun s aq=>aEy aq) n'
   have next:∀(c:Value) (aV:World) (cA:dn) (cH:Nat->Prop),bM cA cH aV (val i) c->dm aE ca b6 w (G p) cA cH aV (G ia)->wpAnyIn (hX ro) n P .any ops Q fuel (cW.setIfInBounds i true) (a.put o.dst c) aV:=by
    intro c aV cA cH av hn
    refine aw _ _ _ cA cH ia (by simpa using de) MD (by rw[jX];exact WX aQ aT f') (fun j br=>by have:=AJ jX j;rw[this];simp only[ins,rq];exact⟨Mm j br,by simp;intro e;subst e;exact Dk br⟩) bp (fun k J U=>(AJ jX k).trans (aP k J U)) (fun k J U ax=>(AJ jX k).trans (bj k J U ax))
     (hO.trans hn) ?_ (by rw[put_defers];exact n') bn
    rw[jX,jC.1];rw[<- A'];exact(al.post hO.ar hn).put _ av
   unfold wpOpIn;simp only[aT]
   rcases jC.2 with⟨uy,av,bb⟩|⟨uy,cE⟩
   .rw[tK CH al uy];simp only[lk,gx]
    refine⟨fun _ _=>trivial,next _ w ca b6 ?_ (by rw[bb];exact dm.refl hO.ar)⟩
    rw[av];exact .s _
   .rw[tK CH al uy];simp only[fl];refine hw i o aT hi Dk Af _ ca b6 w a p _ _ _ hO.ar al cE ?_;rintro r aV ⟨c,cA,cH,e,av,hn⟩;cases e
    exact next r aV cA cH av hn
def aoz(R:Row P pure' call base ops l b9 fr aW H H' F G val)(aq:oz P aE call){ro n}{Q:Exit->Act->World->Prop}{ct dh}(a1:cB aE μ ab ct H):
 ∀(fuel:Nat) (cW:Array Bool) (a:Act) (w:World) (ca:dn) (b6:Nat->Prop) (p:Nat),cW.size=l.length->pP cW l.length<=fuel->nj ops (fun k=>cW.getD k false)->p<=l.length->
   (∀k,k<p->(l.getD k default).op.gN=true->cW.getD k false=true)->(∀k,p<=k->k<l.length->(l.getD k default).op.gN=true->cW.getD k false=false)->
   dm aE μ ab ct H ca b6 w (G p)->c9 ca b6 w (hz (fC l) val fr l.length fun k=>cW.getD k false) a.tmps->a.defers=dh->
   (∀bL w',ox aE μ ab ct H dh aW H' bL w'->Q .normal bL w')->wpAnyIn (hX ro) n P .any ops Q fuel cW a w:=
 fun fuel cW a w ca b6 p J U ax aY cl eM ks mR oR gm=>
  ajT R a1 none (fun _ e=>by cases e) (fun _ _ _ _ _ aa _ _ _ _ _ _ _ _ _ hh al he aN=>vJ aq hh al aa he aN) (fun _ _ e=>by cases e) fuel cW a w ca b6 p J U ax (fun _ e=>by cases e) aY cl eM ks mR oR (fun _=>gm)
end
section
variable {call:c5} {base:Nat} {fr aW vs:List V} {H H':az}
theorem ky{x k}(h:vs.getD k .bs=aX fr x):aX vs (x.num k)=aX fr x:=by
 cases x with
 |t i=>exact h
 |c v=>rfl
def alb:∀(l:List cY) (k:Nat),(∀j x,l[j]?=some x->vs.getD (k+j) .bs=aX fr x)->(F7 k l).map (aX vs)=l.map (aX fr):=by
 intro l
 induction l with
 |nil=>intro k _;rfl
 |cons x l aw=>
   intro k h;simp only[F7,lL]
   rw[ky (by simpa using h 0 x rfl),aw (k+1) fun j y br=>by have:=h (j+1) y (by simpa using br);rw[<- this];congr 1;omega]
def ars:∀(l:List (Nat × cY)) (k:Nat),(∀j x,l[j]?=some x->vs.getD (k+j) .bs=aX fr x.2)->(Jo k l).map (fun p=>(p.1,aX vs p.2))=l.map (fun p=>(p.1,aX fr p.2)):=by
 intro l
 induction l with
 |nil=>intro k _;rfl
 |cons x l aw=>
   intro k h;simp only[Jo,lL]
   rw[ky (by simpa using h 0 x rfl),aw (k+1) fun j y br=>by have:=h (j+1) y (by simpa using br);rw[<- this];congr 1;omega]
def L8{d o k}(h:∀x,o=some x->vs.getD k .bs=aX fr x):hg vs d (pF o k)=hg fr d o:=by
 cases o with
 |none=>rfl
 |some x=>simp only[pF,mD,hg,ky (h x rfl)]
def aB0{c':c5}{b'}(op)(bD:op.quiet=true)(h:∀k x,op.qo[k]?=some x->vs.getD k .bs=aX fr x):bf c' b' vs H op.mN=bf call base fr H op:=by
 cases op<;>first|(simp[b3.quiet]at bD;done)|skip
 case build z pl ps=>
  have:=ars (vs:=vs) (fr:=fr) ps 0 fun j x ae=>by
   rw[j2]
   exact h j x.2 (by simp only[b3.qo,oi,ae,mD])
  simp only[b3.mN,bf,this]
 case mu f a b=>
  have J:=alb (vs:=vs) (fr:=fr) a 0 fun j x ae=>by
   rw[j2];refine h j x ?_;simp only[b3.qo];rw[d' (cC.1 ae).1];exact ae
  have U:=alb (vs:=vs) (fr:=fr) b a.length fun j x ae=>by
   refine h (a.length+j) x ?_;simp only[b3.qo]
   rw[gB (by omega)]
   simpa using ae
  simp only[b3.mN,bf,J,U]
 case mT x cz hi=>
  have a1:=ky (vs:=vs) (k:=0) (h 0 x rfl)
  have J:∀d,hg vs d (pF cz 1)=hg fr d cz:=fun d=>L8 fun y bA=>h 1 y (by subst bA;rfl)
  have U:∀d,hg vs d (pF hi (1+cz.toList.length))=hg fr d hi:=fun d=>L8 fun y bA=>h _ y (by subst bA;cases cz<;>rfl)
  simp only[b3.mN,bf,a1,J,U]
 case ll sz x cz hi ft=>
  have a1:=ky (vs:=vs) (k:=0) (h 0 x rfl)
  have J:∀d,hg vs d (pF cz 1)=hg fr d cz:=fun d=>L8 fun y bA=>h 1 y (by subst bA;rfl)
  have U:∀d,hg vs d (pF hi (1+cz.toList.length))=hg fr d hi:=fun d=>L8 fun y bA=>h _ y (by subst bA;cases cz<;>rfl)
  cases ft with
  |none=>simp only[b3.mN,pF,AX,bf,a1];simp only[pF]at J U;simp only[J,U]
  |some m=>
    have ax:=ky (vs:=vs) (k:=1+cz.toList.length+hi.toList.length) (h _ m (by cases cz<;>cases hi<;>rfl))
    cases hi with
    |none=>simp only[b3.mN,pF,AX,mD,bf]
    |some y=>
      have aY:=ky (vs:=vs) (k:=1+cz.toList.length) (h _ y (by cases cz<;>rfl))
      have rj:=J 0;simp only[pF]at rj;simp only[b3.mN,pF,mD,bf,a1,rj];simp only[LD,gP,d9]at ax aY;cases hg fr 0 cz with
      |none=>rfl
      |some z=>
        simp only[LD,gP,d9,ax];by_cases b5:z=0
        .subst b5;simp only[aY]
        .split
         .rename_i aF aK;exact absurd (hc aK) b5
         .split
          .rename_i aF aK;exact absurd (hc aK) b5
          .rfl
 case pick c a b=>simp only[b3.mN,bf,ky (h 0 c rfl),ky (h 1 a rfl),ky (h 2 b rfl)]
 all_goals first
  |(rename_i x;simp only[b3.mN,bf,ky (h 0 x rfl)];done)
  |(rename_i x y;simp only[b3.mN,bf,ky (h 0 x rfl),ky (h 1 y rfl)];done)
  |(rename_i x y;simp only[b3.mN,bf,ky (h 0 y rfl)];done)
  |(rename_i x y;simp only[b3.mN,bf,ky (h 0 x rfl)];done)
  |(rename_i x y z;simp only[b3.mN,bf,ky (h 0 x rfl),ky (h 1 y rfl)];done)
  |(rename_i x y z;simp only[b3.mN,bf,ky (h 0 y rfl),ky (h 1 z rfl)];done)
  |(rename_i x y z;simp only[b3.mN,bf,ky (h 0 z rfl)];done)
  |(rename_i x y z u;simp only[b3.mN,bf,ky (h 0 z rfl),ky (h 1 u rfl)];done)
  |(rename_i x y z u;simp only[b3.mN,bf,ky (h 0 u rfl)];done)
  |(rename_i x y z u q;simp only[b3.mN,bf,ky (h 0 z rfl),ky (h 1 u rfl)];done)
def awA{op}(bD:op.quiet=true){v}(h:bf call base fr H op=some (v,H')):H'=H:=by
 cases aa:op.cls with
 |t=>exact(Bk aa h).1
 |r=>exact(zC aa h).1
 |a=>cases op<;>simp[b3.cls]at aa<;>simp[b3.quiet]at bD
 |w=>cases op<;>simp[b3.cls]at aa<;>simp[b3.quiet]at bD
def l0(G:List (Nat × Bool × E))(f:List V):Prop:=∀p∈G,f.getD p.1 .bs=aL p.2.1
def Inv(fr:List V)(H:az)(dp:List (Nat × rz))(f:List V):Prop:=
 ∀s,(l0 (kl dp s).g f->cc fr H (kl dp s).e=some (f.getD s .bs))/\(¬l0 (kl dp s).g f->f.getD s .bs=bR)
def aBt{G K f}(h:under G K=true)(an:l0 K f):l0 G f:=by
 intro p aj;unfold under at h;rw[dU]at h;have:=h p aj;rw[Dw]at this;obtain⟨q,bD,Oo⟩:=this;simp only[dr,cG]at Oo;rw[Oo.1,Oo.2];exact an q bD
def Fj{dp G f}(hi:Inv fr H dp f)(bb:l0 G f){x e}(h:Bq dp G x=some e):cc fr H e=some (aX f x):=by
 cases x with
 |c v=>cases h;rfl
 |t s=>
   simp only[Bq]at h;split at h
   .rename_i hu;cases h;exact(hi s).1 (aBt hu bb)
   .cases h
def apN{dp G f}(hi:Inv fr H dp f)(bb:l0 G f):∀{xs:List cY} {es:List E},HN dp G xs=some es->nT fr H es=some (xs.map (aX f)):=by
 intro xs
 induction xs with
 |nil=>intro es h;cases h;rfl
 |cons x xs aw=>
   intro es h;simp only[HN]at h;split at h
   .rename_i e es' J U;cases h;simp only[nT,Fj hi bb J,aw U,lL]
   .cases h
def VJ{dp G f}(hi:Inv fr H dp f)(bb:l0 G f){o e}(h:KE dp G o=some e){v}(he:cc fr H e=some v):bf call base f H o=some (v,H):=by
 have gen:∀o:b3,(if o.quiet then match HN dp G o.qo with|some xs=>some (.op o.mN xs)|none=>none else none)=some e->bf call base f H o=some (v,H):=by
  intro o h;split at h
  .rename_i bD;split at h
   .rename_i xs qQ;cases h;simp only[cc,apN hi bb qQ]at he
    have ar:=aB0 (call:=call) (base:=base) (c':=fun _ _ _ _=>none) (b':=0) (vs:=o.qo.map (aX f)) (fr:=f) (H:=H) o bD (fun k x ae=>by simp[List.getD,ae])
    rw[ar]at he;split at he
    .rename_i dQ H1 cE;cases he;rw[cE,awA bD cE]
    .cases he
   .cases h
  .cases h
 unfold KE at h;split at h
 .rename_i x;have:=Fj hi bb h;rw[he]at this;simp only[bf,<- hc this]
 .rename_i c a b;split at h
  .rename_i x y z ae bA b5;cases h;have J:=Fj hi bb ae;simp only[cc,J,yt]at he;have aa:aX f (.t c)=f.getD c .bs:=rfl;split at he
   .rename_i heq;have gv:aX f (.t c)=aL true:=hc heq
    have u6:l0 (G++[(c,true,(kl dp c).e)]) f:=by
     intro p aj
     rcases l1.1 aj with aj|aj
     .exact bb p aj
     .simp at aj;subst aj;exact gv
    have U:=Fj hi u6 bA;rw[he]at U;simp only[bf,gv,aL];rw[<- hc U]
   .rename_i heq;have gv:aX f (.t c)=aL false:=hc heq
    have u6:l0 (G++[(c,false,(kl dp c).e)]) f:=by
     intro p aj
     rcases l1.1 aj with aj|aj
     .exact bb p aj
     .simp at aj;subst aj;exact gv
    have U:=Fj hi u6 b5;rw[he]at U;simp only[bf,gv,aL];rw[<- hc U]
   .cases he
  .cases h
 .exact gen _ h
def xq(fr:List V)(H:az)(dp:List (Nat × rz))(f:List V):Prop:=
 Inv fr H dp f/\∀s,l0 (kl dp s).g f->∀p∈(kl dp s).g,cc fr H p.2.2=some (f.getD p.1 .bs)
def xq.start:xq fr H [] fr:=
 ⟨fun _=>⟨fun _=>rfl,fun h=>absurd (fun p aj=>by cases aj) h⟩,fun _ _ p aj=>by cases aj⟩
def PF{d v f s}(h:d≠some s):(put d v f).getD s .bs=f.getD s .bs:=by
 cases d with
 |none=>rfl
 |some k=>
   have aBy:¬k=s:=fun e=>h (by rw[e])
   simp[put,cf aBy]
def Ss{G f d v}(h:G.all (fun p=>p.1 != d)=true):(l0 G (put (some d) v f)↔l0 G f)/\∀p∈G,(put (some d) v f).getD p.1 .bs=f.getD p.1 .bs:=by
 rw[dU]at h
 have:∀p∈G,(put (some d) v f).getD p.1 .bs=f.getD p.1 .bs:=by
  intro p aj;have dq:=h p aj;simp only[hU,ne_eq]at dq;exact PF (fun e=>dq (hc e).symm)
 exact⟨⟨fun h p aj=>by rw[<- this p aj];exact h p aj,fun h p aj=>by rw[this p aj];exact h p aj⟩,this⟩
def aFt{e K}:∀(G:List (Nat × Bool × E)),(∀p∈G,cc fr H p.2.2=some (aL p.2.1))->ka fr H (G++K) e=ka fr H K e:=by
 intro G
 induction G with
 |nil=>intro _;rfl
 |cons p G aw=>
   intro h;have J:=h p iH;simp only[h5,ka,J,aL,xL,fl];exact aw fun q bD=>h q (hP _ bD)
def aj9{dp f}(hi:xq fr H dp f){o e}(he:KE dp (l5 dp o.guard) o.op=some e)(uG:ka fr H (l5 dp o.guard) e=true):
 (∃v,want o f=some true/\bf call base f H o.op=some (v,H)/\cc fr H e=some v/\l0 (l5 dp o.guard) f)\/(want o f=some false/\¬l0 (l5 dp o.guard) f):=by
 cases bb:o.guard with
 |none=>
   rw[bb]at he uG;simp only[l5,ka]at he uG;obtain⟨v,av⟩:=Option.isSome_iff_exists.1 uG
   have hh:l0 [] f:=fun p aj=>by cases aj
   exact .inl ⟨v,by simp[want,bb],VJ hi.1 hh he av,av,hh⟩
 |some tb=>
   obtain⟨t,b⟩:=tb;rw[bb]at he uG;simp only[l5]at he uG |-;by_cases hh:l0 (kl dp t).g f
   .have bx:=(hi.1 t).1 hh
    rw[aFt _ (fun p aj=>by rw[hi.2 t hh p aj,hh p aj])]at uG
    simp only[ka,bx,xL]at uG;split at uG
    .rename_i z b5;have b5:f.getD t .bs=aL z:=hc b5;split at uG
     .rename_i Hn;obtain⟨v,av⟩:=Option.isSome_iff_exists.1 uG
      have ZC:l0 ((kl dp t).g++[(t,b,(kl dp t).e)]) f:=by
       intro p aj
       rcases l1.1 aj with aj|aj
       .exact hh p aj
       .simp at aj;subst aj;rw[b5,Hn]
      exact .inl ⟨v,by simp only[want,bb,b5,aL,Hn,lz],VJ hi.1 ZC he av,av,ZC⟩
     .rename_i Hn
      refine .inr ⟨by simp only[want,bb,b5,aL];simp[Hn],fun U=>Hn ?_⟩
      have:=U (t,b,(kl dp t).e) (pf _ (by simp))
      simp only[b5,aL]at this
      simpa using this
    .cases uG
   .have hu:=(hi.1 t).2 hh
    refine .inr ⟨by simp only[want,bb,hu,bR];rfl,fun U=>hh fun p aj=>U p (lH _ aj)⟩
def alJ:∀(os:List cF) {JM QM:List (Nat × rz)} {Q JR:List (List (Nat × Bool × E) × E)},Br JM Q os=some (QM,JR)->∀r∈Q,r∈JR:=by
 intro os
 induction os with
 |nil=>intro JM QM Q JR h r ar;cases h;exact ar
 |cons o' os afz=>
   intro JM QM Q JR h r ar;simp only[Br]at h;split at h
   .split at h
    .split at h
     .exact afz h r (lH _ ar)
     .cases h
    .exact afz h r (lH _ ar)
   .cases h
def anC{d dp}(h:(dp.all fun q=>q.2.g.all fun p=>p.1 != d)=true)(s):(kl dp s).g.all (fun p=>p.1 != d)=true:=by
 induction dp with
 |nil=>rfl
 |cons q JM avZ=>
   obtain⟨k,dM⟩:=q;simp only[qM,dr]at h;simp only[kl];split
   .exact h.1
   .exact avZ h.2
def atO{dp:List (Nat × rz)}{f:List V}(hi:xq fr H dp f){o:cF}{e:E}{d:Nat}(zT:d<f.length)(awu:(l5 dp o.guard).all (fun p=>p.1 != d)=true)(aeE:(dp.all fun q=>q.2.g.all fun p=>p.1 != d)=true){v:V}(J:l0 (l5 dp o.guard) f->cc fr H e=some v)(U:¬l0 (l5 dp o.guard) f->v=bR):xq fr H ((d,⟨l5 dp o.guard,e⟩)::dp) (put (some d) v f):=by
 have jr:=Ss (G:=l5 dp o.guard) (f:=f) (v:=v) awu;refine⟨fun s=>?_,fun s=>?_⟩
 .simp only[kl];by_cases aq:d=s
  .rw[a' aq];subst aq
   have av:(put (some d) v f).getD d .bs=v:=by simp[put,zT]
   rw[av];exact⟨fun hh=>J (jr.1.1 hh),fun hh=>U fun ax=>hh (jr.1.2 ax)⟩
  .rw[bm aq];have bu:=Ss (f:=f) (v:=v) (anC aeE s);rw[PF (fun e=>aq (hc e))];exact⟨fun hh=>(hi.1 s).1 (bu.1.1 hh),fun hh=>(hi.1 s).2 fun ax=>hh (bu.1.2 ax)⟩
 .simp only[kl];by_cases aq:d=s
  .rw[a' aq];intro hh p aj;rw[jr.2 p aj];have SX:=jr.1.1 hh;cases bb:o.guard with
   |none=>rw[bb]at aj;cases aj
   |some tb=>
     obtain⟨t,b⟩:=tb;rw[bb]at aj SX;simp only[l5]at aj SX;have aO:l0 (kl dp t).g f:=fun q bD=>SX q (lH _ bD)
     rcases l1.1 aj with aj|aj
     .exact hi.2 t aO p aj
     .simp at aj;subst aj;exact(hi.1 t).1 aO
  .rw[bm aq];have bu:=Ss (f:=f) (v:=v) (anC aeE s);intro hh p aj;rw[bu.2 p aj];exact hi.2 s (bu.1.1 hh) p aj
def asg:∀(ops:List cF) (dp:List (Nat × rz)) (R:List (List (Nat × Bool × E) × E)) (f:List V) {E9:List (Nat × rz)} {La:List (List (Nat × Bool × E) × E)},Br dp R ops=some (E9,La)->xq fr H dp f->Cx ops<=f.length->
 (∀r∈La,ka fr H r.1 r.2=true)->∃eU,cu call base ops f H=some (eU,H)/\xq fr H E9 eU/\eU.length=f.length/\∀s,(∀o∈ops,o.dst≠some s)->eU.getD s .bs=f.getD s .bs:=by
 intro ops
 induction ops with
 |nil=>intro dp R f E9 La h hi _ _;cases h;exact⟨f,rfl,hi,rfl,fun _ _=>rfl⟩
 |cons o ops aw=>
   intro dp R f E9 La h hi dd b8;simp only[Br]at h;split at h
   case h_2=>cases h
   rename_i e he;split at h
   .rename_i d aQ;split at h
    case isFalse=>cases h
    rename_i eQ;simp only[dr]at eQ;simp only[Cx,aQ]at dd
    have zT:d<f.length:=by omega
    have Nt:Cx ops<=f.length:=by omega
    have p':=alJ ops h (l5 dp o.guard,e) (pf _ (by simp))
    have fin:∀v,(l0 (l5 dp o.guard) f->cc fr H e=some v)->(¬l0 (l5 dp o.guard) f->v=bR)->
     ∃eU,cu call base ops (put o.dst v f) H=some (eU,H)/\xq fr H E9 eU/\eU.length=f.length/\∀s,(∀o'∈o::ops,o'.dst≠some s)->eU.getD s .bs=f.getD s .bs:=by
     intro v J U
     obtain⟨eU,bp,aP,bj,c4⟩:=aw _ _ _ h (atO hi zT eQ.1 eQ.2 J U) (by rw[Bm];exact Nt) b8
     rw[aQ]
     refine⟨eU,bp,aP,by rw[bj,Bm],fun s aq=>?_⟩
     rw[c4 s fun o' oS=>aq o' (hP _ oS)]
     exact PF (by rw[<- aQ];exact aq o iH)
    rcases aj9 (call:=call) (base:=base) hi he (b8 _ p')with⟨v,aV,b4,dJ,eO⟩|⟨aV,eO⟩
    .obtain⟨eU,bp,aP⟩:=fin v (fun _=>dJ) (fun h=>absurd eO h)
     exact⟨eU,by simp only[cu,aV,b4];exact bp,aP⟩
    .obtain⟨eU,bp,aP⟩:=fin bR (fun h=>absurd h eO) (fun _=>rfl)
     exact⟨eU,by simp only[cu,aV];exact bp,aP⟩
   .rename_i aQ;simp only[Cx,aQ]at dd
    have p':=alJ ops h (l5 dp o.guard,e) (pf _ (by simp))
    obtain⟨eU,bp,aP,bj,c4⟩:=aw _ _ _ h hi dd b8;have ak6:∀s,(∀o'∈o::ops,o'.dst≠some s)->eU.getD s .bs=f.getD s .bs:=fun s aq=>c4 s fun o' oS=>aq o' (hP _ oS)
    rcases aj9 (call:=call) (base:=base) hi he (b8 _ p')with⟨v,aV,b4,dJ,eO⟩|⟨aV,eO⟩
    .exact⟨eU,by simp only[cu,aV,b4,aQ,put];exact bp,aP,bj,ak6⟩
    .exact⟨eU,by simp only[cu,aV,aQ,put];exact bp,aP,bj,ak6⟩
def zL(gp):∀(f:List V),(ut gp f).length=f.length:=by
 induction gp with
 |nil=>intro f;rfl
 |cons k gp aw=>intro f;exact(aw _).trans (by simp)
def Dr(gp):∀(f:List V) (s:Nat),(ut gp f).getD s .bs=if s∈gp then .bs else f.getD s .bs:=by
 induction gp with
 |nil=>intro f s;simp[ut]
 |cons k gp aw=>
   intro f s;show(ut gp (f.set k .bs)).getD s .bs=_;rw[aw];by_cases h:s∈gp
   .simp[h]
   .by_cases an:k=s
    .subst an;by_cases ak:k<f.length
     .simp[h,ak]
     .simp[h,ak]
    .have kQ:¬s=k:=fun e=>an e.symm;simp[h,an,kQ]
def aIL:∀(os:List (Nat × E)) (g g':List V),qi fr H os g=some g'->g'.length=g.length/\(∀s,(∀p∈os,p.1≠s)->g'.getD s .bs=g.getD s .bs)/\
 (∀(val:Nat->V),(∀p∈os,cc fr H p.2=some (val p.1))->∀s,s<g.length->(∃p∈os,p.1=s)->g'.getD s .bs=val s):=by
 intro os
 induction os with
 |nil=>intro g g' h;cases h;exact⟨rfl,fun _ _=>rfl,fun _ _ s _ ⟨p,aj,_⟩=>by cases aj⟩
 |cons p os aw=>
   intro g g' h;obtain⟨Kv,ck⟩:=p;simp only[qi]at h;split at h
   case h_2=>cases h
   rename_i v av;obtain⟨J,U,ax⟩:=aw _ _ h
   refine⟨by rw[J];simp,fun s aq=>?_,fun val s5 s JP hex=>?_⟩
   .rw[U s fun q bD=>aq q (hP _ bD)];have dq:Kv≠s:=aq _ iH;simp[dq]
   .by_cases h9:∃q∈os,q.1=s
    .exact ax val (fun q bD=>s5 q (hP _ bD)) s (by simpa using JP) h9
    .obtain⟨q,bD,qp⟩:=hex
     rcases kf.1 bD with rfl|bD
     .have qp:Kv=s:=qp;subst qp;rw[U Kv fun q bD e=>h9 ⟨q,bD,e⟩];have:=s5 (Kv,ck) iH;simp only at this;rw[av]at this;simp[JP,hc this]
     .exact absurd ⟨q,bD,qp⟩ h9
def De{ops:List cF}{kill jL:List Nat}{f2:List V}(h:iO (lZ ops kill jL) kill fr H=some f2):∃f1,cu call base ops fr H=some (f1,H)/\ut kill f1=f2:=by
 unfold lZ at h;split at h
 case h_2=>cases h
 rename_i dp R jZ;split at h
 case isFalse=>cases h
 rename_i eQ;simp only[dr,dU]at eQ;obtain⟨⟨k1,k2⟩,dx⟩:=eQ;simp only[iO]at h;split at h
 case isFalse=>cases h
 rename_i dd;split at h
 case isFalse=>cases h
 rename_i b8;rw[dU]at b8;obtain⟨f1,bp,aP,bj,c4⟩:=asg (call:=call) (base:=base) ops [] [] fr jZ xq.start dd b8;refine⟨f1,bp,?_⟩;obtain⟨g1,g2,g3⟩:=aIL _ _ _ h
 refine yN (by rw[zL,bj,g1,zL]) fun s aq=>?_
 rw[zL,bj]at aq;rw[Dr];by_cases aT:s∈jL
 .have Nz:s ∉ kill:=by have:=dx s aT;simpa using this
  rw[bm Nz]
  have s5:∀p∈jL.map (fun s=>(s,(kl dp s).e)),cc fr H p.2=some ((fun s=>f1.getD s .bs) p.1):=by
   intro p aj;obtain⟨lQ,hC,rfl⟩:=vE.1 aj;refine(aP.1 lQ).1 ?_;have:=k1 lQ hC;rw[List.isEmpty_iff]at this;rw[this]
   exact fun p aj=>by cases aj
  exact(g3 (fun s=>f1.getD s .bs) s5 s (by rw[zL];exact aq) ⟨_,vE.2 ⟨s,aT,rfl⟩,rfl⟩).symm
 .have U:=g2 s fun p aj e=>by
   obtain⟨lQ,hC,rfl⟩:=vE.1 aj;exact aT (e▸hC)
  rw[U,Dr];by_cases an:s∈kill
  .rw[a' an,a' an]
  .rw[bm an,bm an];refine c4 s fun o hm aQ=>?_;have:=k2 o hm;rw[aQ]at this;simp only[jq,Zr,lm]at this
   rcases this with h|h
   .exact an h
   .exact aT h
end
section
variable {aE:fD} {μ eg cA:dn} {ab dT cH:Nat->Prop} {w w' ct aV:World} {H b7 K G lV:az} {P:Program}
def K9{m v c}(av:bM μ ab w v c):e' m v->bM (mx m μ) ab w v c:=by
 induction av with
 |s v=>intro _;exact .s v
 |bs v=>intro _;exact .bs v
 |agg cs vs ak _ aw=>
   intro h;cases h with
   |agg _ h=>exact .agg cs vs ak fun i a b aD af=>aw i a b aD af (h a (hR aD))
 |bV cs vs ak _ aw=>
   intro h;cases h with
   |bV _ h=>exact .bV cs vs ak fun i a b aD af=>aw i a b aD af (h a (hR aD))
 |ref id g off B b hm=>
   intro h;cases h with
   |ref _ _ _ h=>exact .ref id g off B b (by rw[rI h];exact hm)
 |eu cs B o arr e fr aI bJ aq h=>intro _;exact .eu cs B o arr e fr aI bJ aq h
 |aB id g off len sz B b cap arr e hm aI aa aq=>
   intro h;cases h with
   |aB _ _ _ _ _ h=>exact .aB id g off len sz B b cap arr e (by rw[rI h];exact hm) aI aa aq
 |js id g off sz B b a hm=>
   intro h;cases h with
   |aB _ _ _ _ _ h=>exact .js id g off sz B b a (by rw[rI h];exact hm)
 |du es sz B o cap arr e fr aI bJ aa b5 aq h=>intro _;exact .du es sz B o cap arr e fr aI bJ aa b5 aq h
 |il sz cap a=>intro _;exact .il sz cap a
 |db a=>intro _;exact .db a
 |mp id B hm=>
   intro h;cases h with
   |mp _ h=>exact .mp id B (by rw[rI h];exact hm)
 |fn f fst cap fs eP al aa _ _ qJ nt=>
   intro h;cases h with
   |fn _ _ _ aD af=>exact .fn f fst cap fs eP al aa (fun i a b J U=>qJ i a b J U (aD a (hR J))) (fun i a b J U=>nt i a b J U (af a (hR J)))
 |fg id B hm=>
   intro h;cases h with
   |fg _ h=>exact .fg id B (by rw[rI h];exact hm)
def ar2{m vs cs}(av:b0 μ ab w vs cs)(h:∀v∈vs,e' m v):b0 (mx m μ) ab w vs cs:=
 ⟨av.1,fun i a b aD af=>K9 (av.2 i a b aD af) (h a (hR aD))⟩
def aIZ{m bo b}{o:Obj}(h:nG m bo)(ar:jQ aE μ ab w bo b o):jQ aE (mx m μ) ab w bo b o:=by
 cases bo with
 |cells g c=>
   cases o<;>first|exact ar.elim|skip
   exact⟨ar.1,ar.2.1,fun i a v aD av=>K9 (ar.2.2.1 i a v aD av) (h a (hR aD)),ar.2.2.2⟩
 |map es=>
   cases o<;>first|exact ar.elim|skip
   exact⟨ar.1,ar.2.1,fun i k v e he av=>⟨(ar.2.2 i k v e he av).1,K9 (ar.2.2 i k v e he av).2 (h _ (hR he))⟩⟩
 |loop st rP tmps params assign body=>
   cases o<;>first|exact ar.elim|skip
   obtain⟨a1,J,U,ax,aY,cl,eM⟩:=ar;exact⟨a1,J,U,ar2 ax h,aY,cl,eM⟩
 |dead=>cases o<;>exact ar.elim
 |bytes g l=>cases o<;>first|exact ar.elim|exact ar
def aph{m}:∀id g p,mx m μ id g=some p->μ id g=some p:=fun _ _ _ h=>(hG h).2
def Ar(m:Nat):az:=List.replicate m .dead
def ae5(h:cB aE μ ab w K)(m):cB aE (mx m μ) ab w (Ar m):=by
 have aQ:∀(id:Nat) (bo:bq),(Ar m)[id]?=some bo->bo=.dead:=fun id bo e=>by
  have:=hR e;simp[Ar]at this;exact this.2
 refine⟨fun id g p e=>by simpa[Ar]using(hG e).1,fun id g B b e=>h.gu id g B b (hG e).2,fun id bo g B b bu aa _=>?_,fun id g eX g' B b b' e bw=>h.inj _ _ _ _ _ _ _ (hG e).2 (hG bw).2,
  fun id g g' c p _ bu=>?_,fun id g p bo _ bu=>?_,h.fix,fun id B b e=>h.zero _ _ _ (hG e).2⟩
 .rw[aQ _ _ bu]at aa;exact aa.elim
 .intro bb;rw[aQ _ _ bu]at bb;cases bb
 .rw[aQ _ _ bu];trivial
def Rc(h:cB aE μ ab w K)(bb:∀id,id<G.length->K[id]?=G[id]?)(hw:∀id g q bo,μ id g=some q->id<G.length->K[id]?=some bo->nG G.length bo):cB aE (mx G.length μ) ab w G:=by
 have lt:∀(id:Nat) (bo:bq),G[id]?=some bo->id<G.length:=fun id bo e=>(cC.1 e).1;refine⟨fun id g p e=>(hG e).1,fun id g B b e=>h.gu id g B b (hG e).2,fun id bo g B b bu aa e=>?_,fun id g eX g' B b b' e bw=>h.inj _ _ _ _ _ _ _ (hG e).2 (hG bw).2,
  fun id g g' c p e bu=>h.nb _ _ _ _ _ (hG e).2 ((bb id (lt _ _ bu)).trans bu),fun id g p bo e bu=>hw id g p bo (hG e).2 (lt _ _ bu) ((bb id (lt _ _ bu)).trans bu),h.fix,fun id B b e=>h.zero _ _ _ (hG e).2⟩
 have bE:=(bb id (lt _ _ bu)).trans bu;obtain⟨o,aT,ar⟩:=h.ly id bo g B b bE aa (hG e).2;exact⟨o,aT,aIZ (hw id g _ bo (hG e).2 (lt _ _ bu) bE) ar⟩
def vB(rd:List Nat)(f:List V):List V:=(List.range f.length).map fun s=>if rd.contains s then f.getD s .bs else .bs
def TW{rd f s}(aq:s∈rd):(vB rd f).getD s .bs=f.getD s .bs:=by
 by_cases h:s<f.length
 .simp[vB,List.getD,h,aq]
 .simp[vB,List.getD,h]
def ahE{m rd f t}(al:c9 μ ab w f t)(h:∀s∈rd,e' m (f.getD s .bs)):c9 (mx m μ) ab w (vB rd f) t:=by
 refine⟨by simpa[vB]using al.1,fun i a b aD af=>?_⟩
 have hi:i<f.length:=by have:=(cC.1 aD).1;simpa[vB]using this
 simp only[vB,oi,FA hi,mD,hW]at aD;subst aD;split
 .rename_i aa
  have hm:i∈rd:=by simpa using aa
  have bb:f[i]?=some (f.getD i .bs):=by simp[List.getD,hi]
  exact K9 (al.2 i _ b bb af) (h i hm)
 .exact .bs _
def dm.go{zM}{Df:Nat->Prop}{DL DA}(h:dm aE eg dT ct b7 μ ab w K)(ak:b7.length<=DA.length)(ar:cB aE zM Df DL DA)(ext:∀id g p,μ id g=some p->zM id g=some p)(mt:∀B,B<w.heap.size->(Df B↔ab B))(cj:Cb μ w DL)(ed:∀id g B b,zM id g=some (B,b)->B<w.heap.size->∃qa g0 dj,μ qa g0=some (B,dj))(news:∀id g p,zM id g=some p->id<b7.length->∃g0 ku,μ id g0=some ku):
 dm aE eg dT ct b7 zM Df DL DA where
 len:=ak
 ar:=ar
 ext id g p e:=ext id g p (h.ext id g p e)
 mt B aI:=(mt B (lX aI h.cj.size)).trans (h.mt B aI)
 cj:={
  size:=k9 h.cj.size cj.size
  shape:=fun B arr e fr aI=>by
   obtain⟨yM,cg,J,U⟩:=h.cj.shape B arr e fr aI;obtain⟨Pd,nM,ax,aY⟩:=cj.shape B yM e cg J;exact⟨Pd,nM,ax,aY.trans U⟩
  loops:=fun B l aI=>by
   obtain⟨en,J⟩:=h.cj.loops B l aI;exact cj.loops B en J
  bT:=fun B aI aN=>by
   refine(cj.bT B (lX aI h.cj.size) ?_).trans (h.cj.bT B aI aN);intro id g b e;obtain⟨qa,g0,dj,ck⟩:=h.ed id g B b e aI;exact aN qa g0 dj ck
  back:=fun B arr e aI=>by
   rcases cj.back B arr e aI with⟨yM,J⟩|J
   .exact h.cj.back B yM e J
   .exact .inr (k9 h.cj.size J)
  os:=cj.os.trans h.cj.os
  tape:=cj.tape.trans h.cj.tape
  output:=cj.output.trans h.cj.output }
 ed id g B b e aI:=by
  obtain⟨sa,g1,dA,aF⟩:=ed id g B b e (lX aI h.cj.size);exact h.ed sa g1 B dA aF aI
 news id g p e hid:=by
  obtain⟨g1,cn,aF⟩:=news id g p e hid;exact h.news id g1 cn aF hid
def post_at(aj:dm aE eg dT ct b7 μ ab w K){id bo}(aN:∀g,μ id g=none)(hid:b7.length<=id)(bE:K[id]?=some bo)(o:Obj)(e1:jQ aE μ ab w bo 0 o):
 dm aE eg dT ct b7 (l7 μ id 0 (w.heap.size,0)) (fun B=>ab B\/B=w.heap.size) (w.alloc o) K:=by
 have h:=aj.ar;have hh:(w.alloc o).heap=w.heap.push o:=rfl;have gd:=Db (p:=(w.heap.size,0)) (aN 0)
 have bJ:∀B,B<w.heap.size->(ab B\/B=w.heap.size)->ab B:=fun B aI hm=>hm.resolve_right (by omega)
 have an:∀B,B<w.heap.size->¬ab B->(w.alloc o).heap[B]?=w.heap[B]?:=fun B aI _=>jS hh aI;have h1:∀(B:Nat) (arr:Array Value) (e:TypeId) (fr:Nat × Nat),w.heap[B]?=some (.cells arr e fr)->∃eB aW,(w.alloc o).heap[B]?=some (.cells eB e aW)/\eB.size=arr.size:=
  fun B arr e fr aI=>⟨arr,fr,(jS hh (hl aI)).trans aI,rfl⟩
 have vb:∀(B:Nat) (arr:Array Value) (e:TypeId) (fr:Nat × Nat),(w.alloc o).heap[B]?=some (.cells arr e fr)->(∃nQ,w.heap[B]?=some (.cells nQ e fr))\/w.heap.size<=B:=by
  intro B arr e fr aI;by_cases bt:B<w.heap.size
  .exact .inl ⟨arr,(jS hh bt).symm.trans aI⟩
  .exact .inr (by omega)
 have de:(w.alloc o).heap.size=w.heap.size+1:=by rw[hh,GM]
 have bt:id<K.length:=(cC.1 bE).1
 have gz:∀i g p,l7 μ id 0 (w.heap.size,0) i g=some p->(i=id/\g=0/\p=(w.heap.size,0))\/(i≠id/\μ i g=some p):=by
  intro i g p e;by_cases c:i=id/\g=0
  .obtain⟨rfl,rfl⟩:=c;rw[mS]at e;exact .inl ⟨rfl,rfl,(hc e).symm⟩
  .rw[wO c]at e;refine .inr ⟨fun hi=>?_,e⟩;subst hi;rw[aN]at e;cases e
 refine aj.go aj.len ⟨?_,?_,?_,?_,?_,?_,h.fixed bJ an,h.L1 (fun _=>rfl)⟩ gd (fun B aI=>⟨bJ B aI,.inl⟩) ⟨by omega,h1,fun B l aI=>⟨l,(jS hh (hl aI)).trans aI⟩,fun B aI _=>jS hh aI,fun B arr e aI=>vb B arr e _ aI,rfl,rfl,rfl⟩ ?_ ?_
 .intro i g p e
  rcases gz i g p e with⟨rfl,_,_⟩|⟨_,bw⟩
  .exact bt
  .exact h.gR _ _ _ bw
 .intro i g B b e
  rcases gz i g _ e with⟨_,_,aj⟩|⟨_,bw⟩
  .cases aj;exact⟨.inr rfl,by omega⟩
  .exact⟨.inl (h.gu _ _ _ _ bw).1,by have:=(h.gu _ _ _ _ bw).2;omega⟩
 .intro i iF g B b bu aa e
  rcases gz i g _ e with⟨rfl,rfl,aj⟩|⟨_,bw⟩
  .cases aj;rw[bE]at bu;cases bu;exact⟨o,x4 hh,e1.mono gd bJ an h1⟩
  .obtain⟨o',oS,ar⟩:=h.ly i iF g B b bu aa bw;exact⟨o',(jS hh (hl oS)).trans oS,ar.mono gd bJ an h1⟩
 .intro i g wk g' B b b' aF aK
  rcases gz i g _ aF with⟨bC,_,cn⟩|⟨en,ob⟩<;>rcases gz wk g' _ aK with⟨bP,_,dK⟩|⟨e8,nY⟩
  .rw[bC,bP]
  .cases cn;have:=(h.gu _ _ _ _ nY).2;omega
  .cases dK;have:=(h.gu _ _ _ _ ob).2;omega
  .exact h.inj _ _ _ _ _ _ _ ob nY
 .intro i g g' c p e bu
  rcases gz i g _ e with⟨rfl,rfl,_⟩|⟨_,bw⟩
  .exact fun _=>fa _
  .exact h.nb _ _ _ _ _ bw bu
 .intro i g p iF e bu
  rcases gz i g _ e with⟨rfl,_,_⟩|⟨_,bw⟩
  .rw[bE]at bu;cases bu;exact e1.HM h.gR
  .exact h.wf i g _ iF bw bu
 .intro i g B b e aI
  rcases gz i g _ e with⟨_,_,aj⟩|⟨_,bw⟩
  .cases aj;omega
  .exact⟨_,_,_,bw⟩
 .intro i g p e hi
  rcases gz i g _ e with⟨rfl,_,_⟩|⟨_,bw⟩
  .omega
  .exact⟨_,_,bw⟩
def atv{K'}(aj:dm aE eg dT ct b7 μ ab w K)(k:dm aE (mx G.length μ) ab w G cA cH aV lV)(ak:b7.length<=G.length)(bE:∀id,id<lV.length->K'[id]?=lV[id]?)(xg:∀id,lV.length<=id->K'[id]?=K[id]?)(K1:K'.length=K.length)(aG2:lV.length<=K.length)(jf:∀id g q,μ id g=some q->G.length<=id->lV.length<=id):
 dm aE eg dT ct b7 (fun id g=>if id<lV.length then cA id g else μ id g) cH aV K':=by
 have h:=aj.ar;have aC5:=k.len
 have Mg:∀id g p,cA id g=some p->(fun id g=>if id<lV.length then cA id g else μ id g) id g=some p:=fun id g p e=>by
  have:=k.ar.gR _ _ _ e;simp only[a' this];exact e
 have gd:∀id g p,μ id g=some p->(fun id g=>if id<lV.length then cA id g else μ id g) id g=some p:=fun id g p e=>by
  by_cases hi:id<G.length
  .exact Mg _ _ _ (k.ext id g p (by rw[rI hi];exact e))
  .have:=jf _ _ _ e (by omega)
   simp only[bm (show ¬id<lV.length by omega)];exact e
 have cs:∀id g p,(fun id g=>if id<lV.length then cA id g else μ id g) id g=some p->(id<lV.length/\cA id g=some p)\/(lV.length<=id/\μ id g=some p):=fun id g p e=>by
  by_cases hi:id<lV.length
  .simp only[a' hi]at e;exact .inl ⟨hi,e⟩
  .simp only[bm hi]at e;exact .inr ⟨by omega,e⟩
 have bJ:∀B,B<w.heap.size->cH B->ab B:=fun B aI hm=>(k.mt B aI).1 hm;have an:∀B,B<w.heap.size->¬ab B->aV.heap[B]?=w.heap[B]?:=fun B aI aN=>k.cj.bT B aI fun id g b e=>aN (h.gu _ _ _ _ (hG e).2).1
 have ba:∀id g B b,μ id g=some (B,b)->lV.length<=id->aV.heap[B]?=w.heap[B]?:=fun id g B b e hi=>k.cj.bT B (h.gu _ _ _ _ e).2 fun eX g' b' bw=>by
  obtain⟨J,U⟩:=hG bw;have:=h.inj _ _ _ _ _ _ _ e U;omega
 refine aj.go (by rw[K1];exact aj.len) ⟨?_,?_,?_,?_,?_,?_,k.ar.fix,?_⟩ gd k.mt ⟨k.cj.size,k.cj.shape,k.cj.loops,fun B aI aN=>k.cj.bT B aI fun id g b e=>aN _ _ _ (hG e).2,k.cj.back,k.cj.os,k.cj.tape,k.cj.output⟩ ?_ ?_
 .intro id g p e
  rcases cs id g p e with⟨hi,_⟩|⟨_,bw⟩
  .omega
  .rw[K1];exact h.gR _ _ _ bw
 .intro id g B b e
  rcases cs id g _ e with⟨_,bw⟩|⟨_,bw⟩
  .exact k.ar.gu _ _ _ _ bw
  .obtain⟨J,U⟩:=h.gu _ _ _ _ bw;exact⟨(k.mt B U).2 J,lX U k.cj.size⟩
 .intro id bo g B b bu aa e
  rcases cs id g _ e with⟨hi,bw⟩|⟨hi,bw⟩
  .rw[bE id hi]at bu;obtain⟨o,aT,ar⟩:=k.ar.ly id bo g B b bu aa bw;exact⟨o,aT,ar.mono Mg (fun _ _ hm=>hm) (fun _ _ _=>rfl) (fun B arr e fr aI=>⟨arr,fr,aI,rfl⟩)⟩
  .rw[xg id hi]at bu;obtain⟨o,aT,ar⟩:=h.ly id bo g B b bu aa bw;exact⟨o,(ba _ _ _ _ bw hi).trans aT,ar.mono gd bJ an k.cj.shape⟩
 .intro id g eX g' B b b' aF aK
  rcases cs id g _ aF with⟨i1,ob⟩|⟨i1,ob⟩<;>rcases cs eX g' _ aK with⟨i2,nY⟩|⟨i2,nY⟩
  .exact k.ar.inj _ _ _ _ _ _ _ ob nY
  .obtain⟨qa,g0,dj,ck⟩:=k.ed id g B b ob (h.gu _ _ _ _ nY).2;obtain⟨J,U⟩:=hG ck;have:=h.inj _ _ _ _ _ _ _ U nY;omega
  .obtain⟨qa,g0,dj,ck⟩:=k.ed eX g' B b' nY (h.gu _ _ _ _ ob).2;obtain⟨J,U⟩:=hG ck;have:=h.inj _ _ _ _ _ _ _ U ob;omega
  .exact h.inj _ _ _ _ _ _ _ ob nY
 .intro id g g' c p e bu
  rcases cs id g _ e with⟨hi,bw⟩|⟨hi,bw⟩
  .rw[bE id hi]at bu;exact k.ar.nb _ _ _ _ _ bw bu
  .rw[xg id hi]at bu;exact h.nb _ _ _ _ _ bw bu
 .intro id g p bo e bu
  rcases cs id g _ e with⟨hi,bw⟩|⟨hi,bw⟩
  .rw[bE id hi]at bu;exact(k.ar.wf id g p bo bw bu).mono (by rw[K1];exact aG2)
  .rw[xg id hi]at bu;rw[K1];exact h.wf id g p bo bw bu
 .intro id B b e
  rcases cs id 0 _ e with⟨_,bw⟩|⟨_,bw⟩
  .exact k.ar.zero _ _ _ bw
  .exact h.zero _ _ _ bw
 .intro id g B b e aI
  rcases cs id g _ e with⟨_,bw⟩|⟨_,bw⟩
  .obtain⟨qa,g0,dj,ck⟩:=k.ed id g B b bw aI;exact⟨_,_,_,(hG ck).2⟩
  .exact⟨_,_,_,bw⟩
 .intro id g p e hi
  rcases cs id g _ e with⟨_,bw⟩|⟨_,bw⟩
  .obtain⟨g0,ku,ck⟩:=k.news id g p bw (by omega)
   exact⟨_,_,(hG ck).2⟩
  .exact⟨_,_,bw⟩
def awj(aj:dm aE eg dT ct b7 μ ab w K)(k:dm aE (mx G.length μ) ab w G cA cH aV lV)(jf:∀id g q,μ id g=some q->G.length<=id->lV.length<=id){v c}(av:bM μ ab w v c):bM (fun id g=>if id<lV.length then cA id g else μ id g) cH aV v c:=by
 have h:=aj.ar;have aC5:=k.len;refine av.mono (fun id g p e=>?_) (fun B aI hm=>(k.mt B aI).1 hm) (fun B aI aN=>k.cj.bT B aI fun id g b e=>aN (h.gu _ _ _ _ (hG e).2).1) k.cj.shape;by_cases hi:id<G.length
 .have aF:=k.ext id g p (by rw[rI hi];exact e)
  have:=k.ar.gR _ _ _ aF;simp only[a' this];exact aF
 .have:=jf _ _ _ e (by omega)
  simp only[bm (show ¬id<lV.length by omega)];exact e
def aHU(h:cB aE μ ab w K){id}(aN:μ id 0=none)(o:Obj){v c}(av:bM μ ab w v c):bM (l7 μ id 0 (w.heap.size,0)) (fun B=>ab B\/B=w.heap.size) (w.alloc o) v c:=by
 have hh:(w.alloc o).heap=w.heap.push o:=rfl
 exact av.mono (Db aN) (fun B aI hm=>hm.resolve_right (by omega)) (fun B aI _=>jS hh aI) (fun B arr e fr aI=>⟨arr,fr,(jS hh (hl aI)).trans aI,rfl⟩)
def asU{v c}(h:bM μ ab w v c){id}(aT:v.jM=some (some id)):∃g q,μ id g=some q:=by
 cases h<;>simp[V.jM]at aT
 .subst aT;exact⟨_,_,‹_›⟩
 .subst aT;exact⟨_,_,‹_›⟩
def yi(G:Nat->az):Nat->Nat->az
 |0,j=>G j
 |d+1,j=>G j++(yi G d (j+1)).drop (G j).length
def as3{G:Nat->az}:∀(d j:Nat),(∀k,j<=k->k<j+d->(G k).length<=(G (k+1)).length)->(yi G d j).length=(G (j+d)).length/\(G j).length<=(G (j+d)).length:=by
 intro d
 induction d with
 |zero=>intro j _;exact⟨rfl,bS _⟩
 |succ d aw=>
   intro j h
   obtain⟨J,U⟩:=aw (j+1) fun k pE uC=>h k (by omega) (by omega)
   have ax:=h j (bS _) (by omega)
   have e:j+(d+1)=j+1+d:=by omega
   rw[e]
   refine⟨?_,by omega⟩
   simp only[yi,fU,fJ,J];omega
def PS{G:Nat->az}(d j){id}(h:id<(G j).length):(yi G d j)[id]?=(G j)[id]?:=by
 cases d with
 |zero=>rfl
 |succ d=>exact d' h
def aaI{G:Nat->az}(d j){id}(h:(G j).length<=id):(yi G (d+1) j)[id]?=(yi G d (j+1))[id]?:=by
 show(G j++_)[id]?=_;rw[gB h,h4]
 congr 1
 omega
def YN{G:Nat->az}(d j)(ak:(G j).length<=(G (j+1)).length)(h:∀id,id<(G j).length->(G (j+1))[id]?=(G j)[id]?):yi G (d+1) j=yi G d (j+1):=by
 apply vU;intro id;by_cases hi:id<(G j).length
 .rw[PS _ _ hi,PS _ _ (by omega),h id hi]
 .exact aaI d j (by omega)
end
theorem aIA(ops i j):yq ops i j=yq ops j i:=by
 unfold yq;rw[Zp];generalize qe _ _=c;generalize((ops.getD i default).op.hB&&_)=x;generalize((ops.getD j default).op.hB&&_)=y;cases c<;>cases x<;>cases y<;>rfl
structure eH (P:Program) (pure':gH) (call:c5) (base:Nat) (ops:Array Oper) (l:List cF) (fr aW:List V) (H H':az) (F:Nat->List V) (G:Nat->az) (val:Nat->V):Prop where
 Hz:pb P pure' ops l
 ord:Ep (Region.before ops).toList l=true
 back:oh ops=true
 f0:F 0=fr
 g0:G 0=H
 L4:F l.length=aW
 p6:G l.length=H'
 steps:∀k o,l[k]?=some o->sl call base o (F k) (G k) (val k) (F (k+1)) (G (k+1))
 floor:∀v args base H r H',call v args base H=some (r,H')->H.length<=H'.length/\∀id,id<base->id<H.length->H'[id]?=H[id]?
section
variable {aE:fD} {μ eg:dn} {ab dT:Nat->Prop} {w ct:World} {P:Program} [oG aE P] {pure':gH} {call:c5} {base:Nat}
variable {ops:Array Oper} {l:List cF} {fr aW:List V} {H H':az} {F:Nat->List V} {G:Nat->az} {val:Nat->V}
abbrev dI(l:List cF)(k:Nat):cF:=l.getD k default
def eH.vA(R:eH P pure' call base ops l fr aW H H' F G val):∀k,k<=l.length->(F k).length=fr.length/\∀s,s<fr.length->(F k).getD s .bs=lw (fC l) val (fr.getD s .bs) (fun _=>true) s k:=by
 intro k
 induction k with
 |zero=>intro _;rw[R.f0];exact⟨rfl,fun s _=>rfl⟩
 |succ k aw=>
   intro an
   obtain⟨J,U⟩:=aw (by omega)
   have ak:l[k]?=some l[k]:=dy (by omega)
   have aq:=(R.steps k _ ak).1;rw[aq]
   refine⟨by rw[Bm,J],fun s hC=>?_⟩
   rw[CK _ _ _ _ (by rw[J];exact hC),U s hC]
   have aQ:fC l k=l[k].dst:=by rw[fC,ra ak]
   simp only[lw,aQ,wR]
def eH.step(R:eH P pure' call base ops l fr aW H H' F G val){k}(an:k<l.length):sl call base (dI l k) (F k) (G k) (val k) (F (k+1)) (G (k+1)):=by
 have ak:l[k]?=some l[k]:=dy an;show sl call base (l.getD k default) _ _ _ _ _;rw[ra ak];exact R.steps k _ ak
def eH.parts(R:eH P pure' call base ops l fr aW H H' F G val):(∀k,k<l.length->Ck (dI l k)=true/\D5 (dI l k).op=true)/\
 ∀i j,i<j->j<l.length->yq l i j=false\/iP (Region.before ops).toList i j=true:=by
 have h:=R.ord;unfold Ep at h;simp only[dr,dU]at h;obtain⟨⟨J,U⟩,ax⟩:=h;refine⟨fun k an=>?_,fun i j vK br=>?_⟩
 .have ak:l[k]?=some l[k]:=dy an
  have hm:dI l k∈l:=by
   show l.getD k default∈l;rw[ra ak];exact wa an
  exact⟨J _ hm,U _ hm⟩
 .have:=ax j (by simpa using br) i (by simpa using vK)
  simp only[jq,xy]at this;exact this
def eH.sep(R:eH P pure' call base ops l fr aW H H' F G val){S:Nat->Bool}(aQ:nj ops S){i k}(Gq:k≠i)(hi:i<l.length)(an:k<l.length)(eV:S i=false)(gr:∀j,iP (Region.before ops).toList j i=true->S j=true)(aa:yq l k i=true):S k=true↔k<i:=by
 by_cases h:k<i
 .rcases R.parts.2 k i h hi with J|J
  .rw[aa]at J;cases J
  .exact⟨fun _=>h,fun _=>gr k J⟩
 .have lh:i<k:=by omega
  rcases R.parts.2 i k lh an with J|J
  .rw[aIA,aa]at J;cases J
  .exact⟨fun aq=>(by have:=aQ k aq i J;rw[eV]at this;cases this),fun bt=>absurd bt h⟩
theorem ao5{l i j}(h:qe (dI l i) (dI l j)=true):yq l i j=true:=by
 have lh:qe (l.getD i default) (l.getD j default)=true:=h;unfold yq;rw[lh];rfl
def eH.AG(R:eH P pure' call base ops l fr aW H H' F G val){S:Nat->Bool}(aQ:nj ops S){i k}(hi:i<l.length)(an:k<l.length)(eV:S i=false)(gr:∀j,iP (Region.before ops).toList j i=true->S j=true){s}(aq:s∈(dI l i).names)(GU:fC l k=some s):S k=true↔k<i:=by
 by_cases p5:k=i
 .subst p5;rw[eV]
  exact⟨fun h=>(by cases h),fun h=>absurd h (y1 _)⟩
 .exact R.sep aQ p5 hi an eV gr (ao5 (OX aq GU))
def eH.slot(R:eH P pure' call base ops l fr aW H H' F G val){S:Nat->Bool}(aQ:nj ops S){i}(hi:i<l.length)(eV:S i=false)(gr:∀j,iP (Region.before ops).toList j i=true->S j=true){s}(aq:s∈(dI l i).reads):(hz (fC l) val fr l.length S).getD s .bs=(F i).getD s .bs:=by
 obtain⟨dd,hJ⟩:=R.vA i (by omega)
 rw[tk];split
 .rename_i bt;rw[hJ s bt,zH (i:=i) l.length fun k an GU=>R.AG aQ hi an eV gr (pf _ aq) GU]
  rw[J0 (by omega)]
 .rename_i bt;simp[List.getD,dd,bt]
def eH.after(R:eH P pure' call base ops l fr aW H H' F G val){S:Nat->Bool}(aQ:nj ops S){i:Nat}(hi:i<l.length)(eV:S i=false)(gr:∀j,iP (Region.before ops).toList j i=true->S j=true):hz (fC l) val fr l.length (ins S i)=put (fC l i) (val i) (hz (fC l) val fr l.length S):=by
 refine yN (by rw[Bm,ou,ou]) fun s aq=>?_
 rw[ou]at aq
 rw[CK _ _ _ _ (by rw[ou];exact aq),tk,tk,a' aq,a' aq]
 split
 .rename_i fz;refine ahA fz _ hi fun k J U ax=>?_;cases Ph:S k with
  |false=>rfl
  |true=>
    have:=(R.AG aQ hi U eV gr (alK fz) ax).1 Ph;omega
 .rename_i fz;exact Uh fz _
def eH.Dg(R:eH P pure' call base ops l fr aW H H' F G val){k}(an:k<l.length):(G k).length<=(G (k+1)).length:=(R.step an).len R.floor
theorem eH.lens (R:eH P pure' call base ops l fr aW H H' F G val) {a b:Nat} (sI:a≤b) (af:b≤l.length):(G a).length≤(G b).length:=by
 induction b with
 | zero=>have:a=0:=by omega
         subst this;exact bS _
 | succ b aw=>
   by_cases h:a=b+1
   ·subst h;exact bS _
   ·exact k9 (aw (by omega) (by omega)) (R.Dg (by omega))
def eH.Mr(R:eH P pure' call base ops l fr aW H H' F G val){k:Nat}(an:k<l.length)(aq:(dI l k).op.hB=false):∀id,id<(G k).length->(G (k+1))[id]?=(G k)[id]?:=by
 intro id hid
 rcases(R.step an).2 with⟨_,_,e⟩|⟨_,e⟩
 .rw[e]
 .cases aa:(dI l k).op.cls with
  |t=>rw[Ct (SF aa) e]
  |r=>rw[Ct (MM aa) e]
  |a=>exact(Pj R.floor aa e).2 id hid
  |w=>
    exfalso;have vh:=(R.parts.1 k an).2;simp only[D5,aq,aa,jq,dr]at vh
    rcases vh with(((h|h)|h)|h)|h
    .cases h.1
    .cases h
    .cases cE:(dI l k).op<;>rw[cE]at h aa<;>simp[b3.Aj]at h<;>simp[b3.cls]at aa
    .cases h
    .cases cE:(dI l k).op<;>rw[cE]at h aa<;>simp[b3.rL]at h<;>simp[b3.cls]at aa
def eH.A(_:eH P pure' call base ops l fr aW H H' F G val)(j:Nat):az:=yi G (l.length-j) j
def eH.Rs(R:eH P pure' call base ops l fr aW H H' F G val){j}(br:j<=l.length):(R.A j).length=(G l.length).length:=by
 have:=(as3 (G:=G) (l.length-j) j fun k _ U=>R.Dg (by omega)).1
 rw[show j+(l.length-j)=l.length by omega]at this
 exact this
def eH.vM(R:eH P pure' call base ops l fr aW H H' F G val){j id}(h:id<(G j).length):(R.A j)[id]?=(G j)[id]?:=PS _ _ h
def eH.Nf(R:eH P pure' call base ops l fr aW H H' F G val){j}(br:j<l.length){id}(h:(G j).length<=id):(R.A j)[id]?=(R.A (j+1))[id]?:=by
 unfold eH.A
 rw[show l.length-j=(l.length-(j+1))+1 by omega]
 exact aaI _ _ h
def eH.aBX(R:eH P pure' call base ops l fr aW H H' F G val){j}(br:j<l.length)(aq:(dI l j).op.hB=false):R.A j=R.A (j+1):=by
 unfold eH.A
 rw[show l.length-j=(l.length-(j+1))+1 by omega]
 exact YN _ _ (R.Dg br) (R.Mr br aq)
theorem eH.aif (R:eH P pure' call base ops l fr aW H H' F G val) {a b:Nat} (sI:a≤b) (af:b≤l.length) (h:∀ k,a≤k→k < b→(dI l k).op.hB=false):R.A a=R.A b:=by
 induction b with
 | zero=>have:a=0:=by omega
         subst this;rfl
 | succ b aw=>
   by_cases aa:a=b+1
   ·subst aa;rfl
   ·rw [aw (by omega) (by omega) fun k J U=>h k J (by omega),R.aBX (by omega) (h b (by omega) (by omega))]
theorem eH.aCr (R:eH P pure' call base ops l fr aW H H' F G val) {a b:Nat} (sI:a≤b) (af:b≤l.length) {id:Nat} (hid:∀ k,a≤k→k < b→(G k).length≤id):(R.A a)[id]?=(R.A b)[id]?:=by
 induction b with
 | zero=>have:a=0:=by omega
         subst this;rfl
 | succ b aw=>
   by_cases aa:a=b+1
   ·subst aa;rfl
   ·rw [aw (by omega) (by omega) fun k J U=>hid k J (by omega),R.Nf (by omega) (hid b (by omega) (by omega))]
def vP(l:List cF)(S:Nat->Bool)(p:Nat):Prop:=∀k,k<l.length->(dI l k).op.hB=true->(S k=true↔k<p)
def eH.KO(R:eH P pure' call base ops l fr aW H H' F G val){S:Nat->Bool}{p i}(aj:p<=l.length)(hi:i<=l.length)(J:vP l S p)(U:vP l S i):R.A p=R.A i:=by
 have no:∀k,k<l.length->(p<=k/\k<i\/i<=k/\k<p)->(dI l k).op.hB=false:=by
  intro k an af;cases aq:(dI l k).op.hB with
  |false=>rfl
  |true=>
    exfalso;have a:=J k an aq;have b:=U k an aq;have:k<p↔k<i:=a.symm.trans b;omega
 by_cases h:p<=i
 .exact R.aif h hi fun k ax aY=>no k (by omega) (.inl ⟨ax,aY⟩)
 .exact(R.aif (by omega) aj fun k ax aY=>no k (by omega) (.inr ⟨ax,aY⟩)).symm
def eH.P2(R:eH P pure' call base ops l fr aW H H' F G val){S:Nat->Bool}(aQ:nj ops S){i}(hi:i<l.length)(eV:S i=false)(gr:∀j,iP (Region.before ops).toList j i=true->S j=true)(an:(dI l i).op.hB=true\/((dI l i).op.cls=.r/\zc l i=false)\/(dI l i).op.rL=true):vP l S i:=by
 intro k Aw aq;by_cases p5:k=i
 .subst p5;rw[eV]
  exact⟨fun h=>(by cases h),fun h=>absurd h (y1 _)⟩
 .refine R.sep aQ p5 hi Aw eV gr ?_;have hC:(l.getD k default).op.hB=true:=aq;have kQ:(l.getD i default).op.hB=true\/((l.getD i default).op.cls=.r/\zc l i=false)\/(l.getD i default).op.rL=true:=an;unfold yq;rw[hC]
  rcases kQ with h|⟨h,U⟩|h
  .rw[h];simp
  .rw[h,U];simp
  .rw[h];simp
def Old(l:List cF)(i:Nat):Prop:=∃n,HL l n i=true
def Old.cls{i}(h:Old l i):((dI l i).op.cls=.t/\(dI l i).op.kh=false)\/(dI l i).op.cls=.r:=by
 obtain⟨n,h⟩:=h;cases n with
 |zero=>cases h
 |succ n=>
   simp only[HL,dr,jq,cG,xy]at h;exact h.1
def Old.reads{i s k}(h:Old l i)(aq:s∈(dI l i).reads)(an:k<l.length)(aQ:fC l k=some s):k<i/\Old l k:=by
 obtain⟨n,h⟩:=h;cases n with
 |zero=>cases h
 |succ n=>
   simp only[HL,dr,dU,I',jq,hU,lm]at h
   rcases h.2 s aq k an with J|J
   .exact absurd aQ J
   .exact⟨J.1,n,J.2⟩
def aHc{i}(h:zc l i=true):zR l=true/\Old l i:=by
 unfold zc at h;simp only[dr]at h;exact⟨h.1.2,_,h.2⟩
def aAd{op}(aO:op.Tf=true){fr K K' v}(h:bf call base fr K op=some (v,K')):v=.ref K.length 0 0:=by
 cases op<;>first|(simp[b3.Tf]at aO;done)|skip
 all_goals
  simp only[bf]at h
  repeat' (split at h)
  all_goals first|(cases h;done)|(cases h;rfl)
def eH.aIR(R:eH P pure' call base ops l fr aW H H' F G val)(aN:zR l=true){k}(an:k<l.length){n a x}(aT:(dI l k).op=.store n a x){r}(he:bf call base (F k) (G k) (.store n a x)=some r):
 ∃id,(aX (F k) a).jM=some (some id)/\H.length<=id:=by
 have J:=dU.1 aN k (by simpa using an)
 unfold Xp at J;have oS:(l.getD k default).op=.store n a x:=aT;rw[oS]at J;cases a with
 |c v=>cases J
 |t s=>
   simp only[dr,Dw,dU,I',lm,cG,jq,hU]at J;obtain⟨⟨awN,FW,rY,asP⟩,f'⟩:=J
   obtain⟨aF,aK⟩:=R.vA k (by omega)
   have JP:s<fr.length:=by
    refine Oj fun aa=>?_;obtain⟨E3,aJL⟩:=r;obtain⟨id,hid,_⟩:=Lz he
    have RP:(F k)[s]?=none:=mm (by rw[aF];omega)
    simp[aX,List.getD,RP,V.jM]at hid
   have key:∀m,m<=k->(∃j,j<m/\fC l j=some s)->∃id,(lw (fC l) val (fr.getD s .bs) (fun _=>true) s m).jM=some (some id)/\H.length<=id:=by
    intro m
    induction m with
    |zero=>rintro _ ⟨j,br,_⟩;omega
    |succ m aw=>
      rintro hm ⟨j,br,JU⟩;simp only[lw,wR];split
      .rename_i l2
       rcases f' m (by omega)with h|⟨ax,aY⟩
       .exact absurd l2 h
       .have fE:=R.step (show m<l.length by omega)
        rcases fE.2 with⟨hw,_,_⟩|⟨_,he⟩
        .have:(dI l m).guard=none:=by
          have:(l.getD m default).guard=none:=by simpa using aY
          exact this
         unfold want at hw;rw[this]at hw;cases hw
        .have:=aAd ax he;rw[this];refine⟨_,rfl,?_⟩
         have a1:=R.lens (fa m) (by omega)
         rwa[R.g0]at a1
      .rename_i l2
       refine aw (by omega) ⟨j,?_,JU⟩
       have:j≠m:=fun e=>by subst e;exact l2 JU
       omega
   have:=key k (bS _) ⟨awN,rY,asP⟩;rw[<- aK s JP]at this;exact this
def eH.QY(R:eH P pure' call base ops l fr aW H H' F G val)(aN:zR l=true):∀k,k<=l.length->∀id,id<H.length->(G k)[id]?=H[id]?:=by
 intro k
 induction k with
 |zero=>intro _ id _;rw[R.g0]
 |succ k aw=>
   intro an id hid
   rw[<- aw (by omega) id hid]
   have dd:=R.lens (fa k) (by omega)
   rw[R.g0]at dd;cases aq:(dI l k).op.hB with
   |false=>exact R.Mr (by omega) aq id (by omega)
   |true=>
     rcases(R.step (show k<l.length by omega)).2 with⟨_,_,e⟩|⟨_,e⟩
     .rw[e]
     .obtain⟨c3,bL,gw,cE⟩:∃n a x,(dI l k).op=.store n a x:=by
       cases aT:(dI l k).op<;>rw[aT]at aq<;>first|exact⟨_,_,_,rfl⟩|(simp[b3.hB]at aq;done)
      rw[cE]at e
      obtain⟨sa,bp,aP⟩:=R.aIR aN (by omega) cE e
      obtain⟨nJ,aF,_,dS⟩:=Lz e;rw[bp]at aF;cases aF
      exact dS _ (by omega)
def eH.QG(R:eH P pure' call base ops l fr aW H H' F G val)(aN:zR l=true){p}(aj:p<=l.length){id}(hid:id<H.length):(R.A p)[id]?=H[id]?:=by
 have dd:=R.lens (fa p) aj;rw[R.g0]at dd
 rw[R.vM (by omega)]
 exact R.QY aN p aj id hid
structure vo (R:eH P pure' call base ops l fr aW H H' F G val) (aE:fD) (eg:dn) (dT:Nat->Prop) (ct:World) (S:Nat->Bool) (p:Nat) (μ:dn) (ab:Nat->Prop) (w:World):Prop where
 aj:p<=l.length
 post:dm aE eg dT ct H μ ab w (R.A p)
 st:vP l S p
 cw:∀id g q,μ id g=some q->H.length<=id->∃k,k<l.length/\S k=true/\(G k).length<=id/\id<(G (k+1)).length
 bN:∀k,k<l.length->S k=true->∀n a v,(dI l k).op=.store n a v->want (dI l k) (F k)=some true->∀id,(aX (F k) a).jM=some (some id)->∃g q,μ id g=some q
 yS:∀m,m<l.length->S m=true->e' (G (m+1)).length (val m)
 iM:zR l=true->∀m,m<l.length->S m=true->Old l m->e' H.length (val m)
 ww:∀id g q bo,μ id g=some q->(R.A p)[id]?=some bo->∀j,j<=l.length->(∀k,k<l.length->S k=true->(dI l k).op.hB=true->k<j)->id<(G j).length->nG (G j).length bo
def eH.aE1(R:eH P pure' call base ops l fr aW H H' F G val){S:Nat->Bool}(aQ:nj ops S){i}(hi:i<l.length)(eV:S i=false)(gr:∀j,iP (Region.before ops).toList j i=true->S j=true)(a1:∀s,e' H.length (fr.getD s .bs))(av:∀m,m<l.length->S m=true->e' (G (m+1)).length (val m)):
 ∀s∈(dI l i).reads,e' (G i).length ((F i).getD s .bs):=by
 intro s aq
 obtain⟨J,U⟩:=R.vA i (by omega)
 by_cases bt:s<fr.length
 .rw[U s bt]
  have key:∀m,m<=i->e' (G i).length (lw (fC l) val (fr.getD s .bs) (fun _=>true) s m):=by
   intro m
   induction m with
   |zero=>
     intro _;refine(a1 s).mono ?_
     have:=R.lens (fa i) (by omega)
     rwa[R.g0]at this
   |succ m aw=>
     intro hm;simp only[lw,wR];split
     .rename_i l2
      have:=(R.AG aQ hi (show m<l.length by omega) eV gr (pf _ aq) l2).2 (by omega)
      exact(av m (by omega) this).mono (R.lens (by omega) (by omega))
     .exact aw (by omega)
  exact key i (bS _)
 .simp only[List.getD,mm (by omega:(F i).length<=s)]
  exact .bs
def eH.afc(R:eH P pure' call base ops l fr aW H H' F G val){S:Nat->Bool}(aQ:nj ops S){i}(hi:i<l.length)(eV:S i=false)(gr:∀j,iP (Region.before ops).toList j i=true->S j=true)(a1:∀s,e' H.length (fr.getD s .bs))(av:∀m,m<l.length->S m=true->Old l m->e' H.length (val m))(aT:Old l i):
 ∀s∈(dI l i).reads,e' H.length ((F i).getD s .bs):=by
 intro s aq
 obtain⟨J,U⟩:=R.vA i (by omega)
 by_cases bt:s<fr.length
 .rw[U s bt]
  have key:∀m,m<=i->e' H.length (lw (fC l) val (fr.getD s .bs) (fun _=>true) s m):=by
   intro m
   induction m with
   |zero=>intro _;exact a1 s
   |succ m aw=>
     intro hm;simp only[lw,wR];split
     .rename_i l2
      have:=(R.AG aQ hi (show m<l.length by omega) eV gr (pf _ aq) l2).2 (by omega)
      exact av m (by omega) this (aT.reads aq (by omega) l2).2
     .exact aw (by omega)
  exact key i (bS _)
 .simp only[List.getD,mm (by omega:(F i).length<=s)]
  exact .bs
end
section
variable {aE:fD} {μ eg:dn} {ab dT:Nat->Prop} {w ct:World} {P:Program} [oG aE P] {pure':gH} {call:c5} {base:Nat}
variable {ops:Array Oper} {l:List cF} {fr aW:List V} {H H':az} {F:Nat->List V} {G:Nat->az} {val:Nat->V}
def PW{S:Nat->Bool}{p i}(h:vP l S p)(aq:(dI l i).op.hB=false):vP l (ins S i) p:=by
 intro k an Ca
 have p5:k≠i:=fun e=>by subst e;rw[aq]at Ca;cases Ca
 have:ins S i k=S k:=by simp[ins,p5]
 rw[this];exact h k an Ca
def adx{S:Nat->Bool}{i}(h:vP l S i):vP l (ins S i) (i+1):=by
 intro k an Ca;have:=h k an Ca;by_cases p5:k=i
 .subst p5;simp[ins]
 .have e:ins S i k=S k:=by simp[ins,p5]
  rw[e,this];omega
def eH.awk(R:eH P pure' call base ops l fr aW H H' F G val){j}(br:j<l.length)(aq:∀id,id<(G j).length->(G (j+1))[id]?=(G j)[id]?):R.A j=R.A (j+1):=by
 unfold eH.A
 rw[show l.length-j=(l.length-(j+1))+1 by omega]
 exact YN _ _ (R.Dg br) aq
def vo.push{R:eH P pure' call base ops l fr aW H H' F G val}{S:Nat->Bool}{p}(bd:vo R aE eg dT ct S p μ ab w){i}(hi:i<l.length)(eV:S i=false){ia ca}{b6:Nat->Prop}{w'}(Pa:ia<=l.length)(auE:dm aE eg dT ct H ca b6 w' (R.A ia))(azQ:vP l (ins S i) ia)(ext:∀id g q,μ id g=some q->∃g q,ca id g=some q)(arx:∀id g q,ca id g=some q->H.length<=id->(∃g0 kK,μ id g0=some kK)\/((G i).length<=id/\id<(G (i+1)).length))(aAN:∀n a v,(dI l i).op=.store n a v->want (dI l i) (F i)=some true->∀id,(aX (F i) a).jM=some (some id)->∃g q,ca id g=some q)(apn:e' (G (i+1)).length (val i))(ata:zR l=true->Old l i->e' H.length (val i))(aCP:∀id g q bo,ca id g=some q->(R.A ia)[id]?=some bo->∀j,j<=l.length->(∀k,k<l.length->ins S i k=true->(dI l k).op.hB=true->k<j)->id<(G j).length->nG (G j).length bo):
 vo R aE eg dT ct (ins S i) ia ca b6 w':=by
 have G0:∀k,ins S i k=true->k=i\/S k=true:=fun k h=>by
  simp only[ins,jq,cG]at h
  rcases h with h|h
  .exact .inr h
  .exact .inl h
 have aAQ:∀k,S k=true->ins S i k=true:=fun k h=>by simp[ins,h]
 refine⟨Pa,auE,azQ,fun id g q e hid=>?_,fun k an e5 n a v cE hw id hid=>?_,fun m hm e5=>?_,fun aN m hm e5 aT=>?_,aCP⟩
 .rcases arx id g q e hid with⟨g0,kK,ck⟩|⟨J,U⟩
  .obtain⟨k,k1,k2,dx,hs⟩:=bd.cw id g0 kK ck hid;exact⟨k,k1,aAQ k k2,dx,hs⟩
  .exact⟨i,hi,by simp[ins],J,U⟩
 .rcases G0 k e5 with rfl|e5
  .exact aAN n a v cE hw id hid
  .obtain⟨g,q,e⟩:=bd.bN k an e5 n a v cE hw id hid;exact ext id g q e
 .rcases G0 m e5 with rfl|e5
  .exact apn
  .exact bd.yS m hm e5
 .rcases G0 m e5 with rfl|e5
  .exact ata aN aT
  .exact bd.iM aN m hm e5 aT
def vo.fresh{R:eH P pure' call base ops l fr aW H H' F G val}{S:Nat->Bool}{p}(bd:vo R aE eg dT ct S p μ ab w){i}(hi:i<l.length)(eV:S i=false):∀id g q,μ id g=some q->(G i).length<=id->(G (i+1)).length<=id:=by
 intro id g q e hid
 have a1:=R.lens (fa i) (by omega)
 rw[R.g0]at a1
 obtain⟨k,k1,k2,dx,hs⟩:=bd.cw id g q e (by omega)
 have p5:k≠i:=fun e=>by subst e;rw[eV]at k2;cases k2
 by_cases h:k<i
 .have:=R.lens (show k+1<=i by omega) (by omega);omega
 .have:=R.lens (show i+1<=k by omega) (by omega);omega
def ah8{f o m x}(ar:o.op.cls=.r)(aj:Ck o=true)(ae:o.op.place=some x)(h:∀s∈o.reads,e' m (f.getD s .bs)){id}(hid:(aX f x).jM=some (some id)):id<m:=by
 unfold Ck at aj;rw[ar,ae]at aj;cases x with
 |c v=>cases v<;>first|(simp at aj;done)|(simp[aX,V.jM]at hid;done)
 |t s=>
   have zZ:s∈o.reads:=by
    refine lH _ (List.mem_flatMap.2 ⟨.t s,?_,by simp[cY.vq]⟩)
    cases cE:o.op<;>rw[cE]at ae<;>simp[b3.place]at ae<;>simp[b3.qo,ae]
   exact(h s zZ).obj hid
def eH.PB(R:eH P pure' call base ops l fr aW H H' F G val)(aq:oz P aE call){S:Nat->Bool}(aQ:nj ops S){i p:Nat}(hi:i<l.length)(eV:S i=false)(gr:∀j,iP (Region.before ops).toList j i=true->S j=true)(bd:vo R aE eg dT ct S p μ ab w)(a1:∀s,e' H.length (fr.getD s .bs))(Pu:∀id g q bo,eg id g=some q->H[id]?=some bo->nG H.length bo){a:Act}(al:c9 μ ab w (hz (fC l) val fr l.length S) a.tmps){o:Oper}(aT:ops[i]?=some o){ro:Option Nat}{n:Nat}{Q:Exit->Act->World->Prop}{next:Act->World->Prop}(o2:∀c aV cA cH ia,vo R aE eg dT ct (ins S i) ia cA cH aV->c9 cA cH aV (hz (fC l) val fr l.length (ins S i)) (a.put o.dst c).tmps->next (a.put o.dst c) aV):
 (if Region.wanted o (yielded ops a.tmps)=true then o.wpIn (hX ro) n P a w next Q else next (a.put o.dst Go.undef) w):=by
 have zO:=R.step hi;have gg:∀s∈(dI l i).reads,(hz (fC l) val fr l.length S).getD s .bs=(F i).getD s .bs:=fun s aq=>R.slot aQ hi eV gr aq;have arj:=R.aE1 aQ hi eV gr a1 bd.yS;have By:=R.after aQ hi eV gr;have Fo:∀B,bf call base (hz (fC l) val fr l.length S) B (dI l i).op=bf call base (F i) B (dI l i).op:=fun B=>JK _ fun x ae=>Fs ae gg
 have mH:∀B,bf call base (vB (dI l i).reads (hz (fC l) val fr l.length S)) B (dI l i).op=bf call base (F i) B (dI l i).op:=fun B=>by
  rw[<- Fo B];exact JK _ fun x ae=>Fs ae fun s aq=>TW aq
 have Hm:=ahE (m:=(G i).length) (rd:=(dI l i).reads) al fun s aq=>by rw[gg s aq];exact arj s aq
 have Sd:l[i]?=some (dI l i):=by show l[i]?=some (l.getD i default);rw[dy hi,ra (dy hi)]
 obtain⟨A',Af,CH⟩:=R.Hz.2 i o _ aT Sd;have J8:fC l i=o.dst:=A';have zm:=bd.post.ar
 have Ml:=R.lens (fa i) (by omega)
 rw[R.g0]at Ml;have vh:=(R.parts.1 i hi).2;have aJ6:=R.Dg hi;have aje:=R.Rs bd.aj
 have ayE:=R.lens (show i+1<=l.length by omega) (bS _)
 rcases zO.2 with⟨hw,av,bb⟩|⟨hw,cE⟩
 .
  have Gb:want (dI l i) (hz (fC l) val fr l.length S)=some false:=by rw[HC gg];exact hw
  rw[tK CH al Gb];simp only[lk,gx]
  have JW:∀id,id<(G i).length->(G (i+1))[id]?=(G i)[id]?:=fun id _=>by rw[bb]
  have fin:∀ia,ia<=l.length->R.A ia=R.A p->vP l (ins S i) ia->next (a.put o.dst Go.undef) w:=by
   intro ia Pa ib fE
   refine o2 _ w μ ab ia (bd.push hi eV Pa (by rw[ib];exact bd.post) fE (fun id g q e=>⟨g,q,e⟩) (fun id g q e _=>.inl ⟨g,q,e⟩) (fun n a v _ uy=>by rw[hw]at uy;cases uy) (by rw[av];exact .s _) (fun _ _=>by rw[av];exact .s _) ?_) ?_
   .intro id g q bo e e1 j br uX hid;rw[ib]at e1
    exact bd.ww id g q bo e e1 j br (fun k an e5 aq=>uX k an (by simp[ins,e5]) aq) hid
   .rw[By,J8,av];exact al.put _ (.s _)
  cases fE:(dI l i).op.hB with
  |false=>exact fin p bd.aj rfl (PW bd.st fE)
  |true=>
    have J:=R.P2 aQ hi eV gr (.inl fE)
    refine fin (i+1) (by omega) ?_ (adx J)
    rw[<- R.awk hi JW]
    exact(R.KO bd.aj (by omega) bd.st J).symm
 .have Gb:want (dI l i) (hz (fC l) val fr l.length S)=some true:=by rw[HC gg];exact hw
  rw[tK CH al Gb];simp only[fl];by_cases kS:(dI l i).op.hB=true\/(dI l i).op.rL=true
  .
   have Dx:=R.P2 aQ hi eV gr (kS.imp id .inr)
   have ax0:Old l i->(dI l i).op.hB=true\/(dI l i).op.rL=true->False:=fun aT aa=>by
    rcases aT.cls with⟨h,_⟩|h<;>rcases aa with U|U<;>(cases uz:(dI l i).op<;>rw[uz]at h U<;>simp[b3.cls,b3.hB,b3.rL]at h U)
   have D3:=R.KO bd.aj (by omega) bd.st Dx
   have HE:cB aE (mx (G i).length μ) ab w (G i):=Rc zm (fun id hid=>by rw[D3];exact R.vM hid) (fun id g q bo e hid e1=>bd.ww id g q bo e e1 i (by omega) (fun k an e5 aq=>(Dx k an aq).1 e5) hid)
   refine vJ aq HE Hm Af (by rw[mH];exact cE) ?_
   rintro r aV ⟨c,cA,cH,e,my,hn⟩;cases e;have jf:=bd.fresh hi eV;have bE:∀id,id<(G (i+1)).length->(R.A (i+1))[id]?=(G (i+1))[id]?:=fun id hid=>R.vM hid
   have xg:∀id,(G (i+1)).length<=id->(R.A (i+1))[id]?=(R.A p)[id]?:=fun id hid=>by rw[D3];exact(R.Nf hi (by omega)).symm
   have pm:=atv (K':=R.A (i+1)) bd.post hn Ml bE xg (by rw[R.Rs (by omega),aje]) (by rw[aje];exact ayE) jf
   refine o2 r aV _ cH (i+1) (bd.push hi eV (by omega) pm (adx Dx) (fun id g q e=>⟨g,q,?_⟩) (fun id g q e hid=>?_) (fun c3 bL dQ uz uy id hid=>?_) (my.qL hn.ar.gR) (fun _ aT=>(ax0 aT kS).elim) ?_) ?_
   .by_cases hid:id<(G i).length
    .have aF:=hn.ext id g q (by rw[rI hid];exact e)
     simp only[a' (hn.ar.gR _ _ _ aF)];exact aF
    .have:=jf _ _ _ e (by omega)
     simp only[bm (show ¬id<(G (i+1)).length by omega)];exact e
   .by_cases J:id<(G (i+1)).length
    .simp only[a' J]at e;by_cases U:id<(G i).length
     .obtain⟨g0,ku,ck⟩:=hn.news id g q e U;exact .inl ⟨g0,ku,(hG ck).2⟩
     .exact .inr ⟨by omega,J⟩
    .simp only[bm J]at e;exact .inl ⟨g,q,e⟩
   .obtain⟨y,bA⟩:∃y,lc y=some bL:=by
     have fE:(dI l i).op.hB=true:=by rw[uz];rfl
     have J:tR P pure' o=some (dI l i).op:=by
      rcases Af with h|⟨f,xs,_,h⟩|⟨k,xs,_,h⟩|⟨_,_,_,_,_,h⟩|h
      .rcases wg h with⟨f,args,iL,xs,y,_,_,_,⟨k,_,e⟩|e⟩|⟨J,_,_⟩
       .rw[e]at fE;cases fE
       .rw[e]at fE;cases fE
       .exact J
      .rw[h]at fE;cases fE
      .rw[h]at fE;cases fE
      .rw[h]at fE;cases fE
      .rw[h]at fE;cases fE
     obtain⟨_,_,_,y,e,bA⟩:=az8 J fE;rw[uz]at e;cases e;exact⟨y,bA⟩
    have ag:aX (vB (dI l i).reads (hz (fC l) val fr l.length S)) bL=aX (F i) bL:=by
     cases bL with
     |c v=>rfl
     |t s=>
       have hm:s∈(dI l i).reads:=lH _ (List.mem_flatMap.2 ⟨.t s,by rw[uz];simp[b3.qo],by simp[cY.vq]⟩)
       show(vB _ _).getD s .bs=(F i).getD s .bs;rw[TW hm];exact gg s hm
    have av:=dY Hm bA;rw[ag]at av;obtain⟨g,q,e⟩:=asU av hid;have aF:=hn.ext _ _ _ e;refine⟨g,q,?_⟩;simp only[a' (hn.ar.gR _ _ _ aF)];exact aF
   .intro id g q bo e e1 j br uX hid;by_cases J:id<(G (i+1)).length
    .simp only[a' J]at e;rw[bE id J]at e1;have FN:=hn.ar.wf id g q bo e e1;by_cases BW:i<j
     .exact FN.mono (R.lens (by omega) br)
     .have mw:(dI l i).op.hB=false:=by
       cases k5:(dI l i).op.hB with
       |false=>rfl
       |true=>have:=uX i hi (by simp[ins]) k5;omega
      have bt:id<(G i).length:=lX hid (R.lens (by omega) (by omega))
      rw[R.Mr hi mw id bt]at e1;obtain⟨g0,ku,ck⟩:=hn.news id g q e bt
      exact bd.ww id g0 ku bo (hG ck).2 (by rw[D3,R.vM bt];exact e1) j br (fun k an e5 aq=>uX k an (by simp[ins,e5]) aq) hid
    .simp only[bm J]at e
     rw[xg id (by omega)]at e1
     exact bd.ww id g q bo e e1 j br (fun k an e5 aq=>uX k an (by simp[ins,e5]) aq) hid
   .rw[By,J8];refine c9.put ⟨al.1,fun j x y ae bA=>awj bd.post hn jf (al.2 j x y ae bA)⟩ _ ?_
    exact my.mono (fun id g q e=>by simp only[a' (hn.ar.gR _ _ _ e)];exact e) (fun _ _ h=>h) (fun _ _ _=>rfl) (fun B arr e fr aI=>⟨arr,fr,aI,rfl⟩)
  .have mw:(dI l i).op.hB=false:=by cases h:(dI l i).op.hB with|false=>rfl|true=>exact absurd (.inl h) kS
   have ix:(dI l i).op.rL=false:=by cases h:(dI l i).op.rL with|false=>rfl|true=>exact absurd (.inr h) kS
   have iQ:(dI l i).op.kh=false:=by
    cases uz:(dI l i).op<;>rw[uz]at vh ix<;>first|rfl|(simp[D5,b3.cls,b3.kh,b3.Aj,b3.hB,b3.rL]at vh;done)|(simp[b3.rL]at ix;done)
   have oC:tR P pure' o=some (dI l i).op:=by
    rcases Af with h|⟨f,xs,_,h⟩|⟨k,xs,_,h⟩|⟨_,_,_,_,_,h⟩|h
    .rcases wg h with⟨f,args,iL,xs,y,_,_,_,⟨k,_,e⟩|e⟩|⟨J,_,_⟩
     .rw[e]at iQ;cases iQ
     .rw[e]at iQ;cases iQ
     .exact J
    .rw[h]at iQ;cases iQ
    .rw[h]at iQ;cases iQ
    .rw[h]at ix;cases ix
    .rw[h]at cE;cases cE
   have ki:∀c,o.op≠.defer c:=by
    rcases Af with h|⟨f,xs,_,h⟩|⟨k,xs,_,h⟩|⟨_,_,_,_,_,h⟩|h
    .rcases wg h with⟨f,args,iL,xs,y,_,_,_,⟨k,_,e⟩|e⟩|⟨_,_,J⟩
     .rw[e]at iQ;cases iQ
     .rw[e]at iQ;cases iQ
     .exact J
    .rw[h]at iQ;cases iQ
    .rw[h]at iQ;cases iQ
    .rw[h]at ix;cases ix
    .rw[h]at cE;cases cE
   have UN:∀(ca:dn) c3 bL dQ,(dI l i).op=.store c3 bL dQ->want (dI l i) (F i)=some true->∀id,(aX (F i) bL).jM=some (some id)->∃g q,ca id g=some q:=fun ca c3 bL dQ e=>by
    rw[e]at mw;cases mw
   have V2:∀id g q bo,μ id g=some q->(R.A p)[id]?=some bo->∀j,j<=l.length->(∀k,k<l.length->ins S i k=true->(dI l k).op.hB=true->k<j)->id<(G j).length->nG (G j).length bo:=
    fun id g q bo e e1 j br uX hid=>bd.ww id g q bo e e1 j br (fun k an e5 aq=>uX k an (by simp[ins,e5]) aq) hid
   by_cases yh:(dI l i).op.Aj=true
   .
    obtain⟨yv,bo,Ud,GX,Hq,arn,bZ,Om,fp,e1,my⟩:=ayc (aE:=aE) Hm oC yh (by rw[mH];exact cE)
    have KA:∀g,μ (G i).length g=none:=fun g=>by
     cases e:μ (G i).length g with
     |none=>rfl
     |some q=>
       have:=bd.fresh hi eV _ _ _ e (bS _);rw[GX,fU,bi]at this;omega
    have at4:(G (i+1)).length=(G i).length+1:=by rw[GX];simp
    have abq:(R.A (i+1))[(G i).length]?=some bo:=by
     rw[R.vM (by omega),GX];simp
    have aos:(R.A p)[(G i).length]?=some bo:=by
     by_cases EE:p<=i
     .rw[R.aCr EE (by omega) (fun k _ U=>R.lens (by omega) (by omega)),R.Nf hi (bS _)]
      exact abq
     .have key:∀q,i+1<=q->q<=p->(R.A q)[(G i).length]?=some bo:=by
       intro q
       induction q with
       |zero=>intro h;omega
       |succ q aw=>
         intro J U;by_cases aAD:q=i
         .subst aAD;exact abq
         .have ax:=aw (by omega) (by omega)
          have aKw:=bd.aj
          have bt:(G i).length<(G q).length:=by have:=R.lens (show i+1<=q by omega) (by omega);omega
          have xG:(G i).length<(G (q+1)).length:=by have:=R.Dg (show q<l.length by omega);omega
          rw[R.vM bt]at ax;rw[R.vM xG];cases qp:(dI l q).op.hB with
          |false=>rw[R.Mr (by omega) qp _ bt];exact ax
          |true=>
            rcases(R.step (show q<l.length by omega)).2 with⟨_,_,e⟩|⟨aCs,e⟩
            .rw[e];exact ax
            .obtain⟨c3,bL,gw,an5⟩:∃n a x,(dI l q).op=.store n a x:=by
              cases asN:(dI l q).op<;>rw[asN]at qp<;>first|exact⟨_,_,_,rfl⟩|(simp[b3.hB]at qp;done)
             rw[an5]at e;obtain⟨awn,aF,_,dS⟩:=Lz e
             have auf:S q=true:=(bd.st q (by omega) qp).2 (by omega)
             obtain⟨g,aJ7,em⟩:=bd.bN q (by omega) auf _ _ _ an5 aCs awn aF
             rw[dS _ (fun e=>by subst e;rw[KA]at em;cases em)]
             exact ax
      exact key p (by omega) (bS _)
    have Fg:jQ aE μ ab w bo 0 Om:=e1.mono aph (fun _ _ h=>h) (fun _ _ _=>rfl) (fun B arr e fr aI=>⟨arr,fr,aI,rfl⟩);have aEg:nG (G i).length bo:=e1.HM fun id g p e=>(hG e).1;have pat:=post_at bd.post KA Ml aos Om Fg;refine⟨fun _ _=>trivial,?_⟩;rw[Oper.semAt_eq _ _ _ ki,fp]
    refine o2 bZ _ _ _ p (bd.push hi eV bd.aj pat (PW bd.st mw) (fun id g q e=>⟨g,q,Db (KA 0) _ _ _ e⟩) (fun id g q e hid=>?_) (UN _) (by rw[Ud,at4];exact arn _ _ (by omega)) (fun _ aT=>by rcases aT.cls with⟨h,_⟩|h<;>(cases uz:(dI l i).op<;>rw[uz]at h yh<;>simp[b3.cls,b3.Aj]at h yh)) ?_) ?_
    .by_cases aa:id=(G i).length/\g=0
     .exact .inr ⟨by omega,by omega⟩
     .rw[wO aa]at e;exact .inl ⟨g,q,e⟩
    .intro id g q iF e Fg j br uX hid;by_cases aa:id=(G i).length/\g=0
     .obtain⟨rfl,rfl⟩:=aa;rw[aos]at Fg;cases Fg;exact aEg.mono (Nat.le_of_lt hid)
     .rw[wO aa]at e;exact V2 id g q iF e Fg j br uX hid
    .rw[By,J8,Ud];refine c9.put ⟨al.1,fun j x y ae bA=>aHU zm (KA 0) Om (al.2 j x y ae bA)⟩ _ ?_;exact my _ _ _ (mS _ _ _ _)
   .
    have jC:(dI l i).op.cls=.t\/(dI l i).op.cls=.r:=by
     simp only[D5,mw,ix,jq,dr,cG,xy]at vh
     rcases vh with(((h|h)|h)|h)|h
     .exact .inl h.1
     .exact .inr h
     .exact absurd h yh
     .cases h
     .cases h
    have JW:G (i+1)=G i:=by
     rcases jC with h|h
     .exact Ct (SF h) cE
     .exact Ct (MM h) cE
    have am7:zR l=true->Old l i->e' H.length (val i):=fun aN aT=>by
     have JN:=R.afc aQ hi eV gr a1 (bd.iM aN) aT
     have aa0:=ahE (m:=H.length) (rd:=(dI l i).reads) al fun s aq=>by rw[gg s aq];exact JN s aq
     have aKq:=mH
     rcases jC with h|h
     .have vl:=ae5 (aE:=aE) zm H.length
      obtain⟨bZ,wd,Tl,QN,_,Bh,AS⟩:=Au (call:=call) (base:=base) (H':=Ar H.length) (v:=val i) vl aa0 oC iQ (by rw[mH];exact(Bk h cE).2 _)
      have:=Bh.qL AS.ar.gR
      simpa[Ar]using this
     .obtain⟨_,x,ae,af,bb⟩:=zC h cE
      have HE:cB aE (mx H.length μ) ab w H:=Rc zm (fun id hid=>R.QG aN bd.aj hid) (fun id g q bo e hid e1=>by
       obtain⟨g0,kK,ck⟩:=bd.post.news id g q e hid;rw[R.QG aN bd.aj hid]at e1;exact Pu id g0 kK bo ck e1)
      have apu:bf call base (F i) H (dI l i).op=some (val i,H):=bb H fun id hid=>by
       have o0:id<H.length:=ah8 (by assumption) (R.parts.1 i hi).1 ae (fun s aq=>JN s aq) hid
       rw[R.QY aN i (by omega) id o0]
      obtain⟨bZ,wd,Tl,QN,_,Bh,AS⟩:=Au (call:=call) (base:=base) (H':=H) (v:=val i) HE aa0 oC iQ (by rw[mH];exact apu)
      exact Bh.qL AS.ar.gR
    have both:(∀K,R.A p=K->bf call base (F i) K (dI l i).op=some (val i,K))/\e' (G i).length (val i):=by
     by_cases qt:zc l i=true
     .obtain⟨aN,aT⟩:=aHc qt
      have ar:(dI l i).op.cls=.r:=by
       unfold zc at qt;simp only[dr,cG]at qt;exact qt.1.1
      have JN:=R.afc aQ hi eV gr a1 (bd.iM aN) aT;obtain⟨_,x,ae,af,bb⟩:=zC ar cE;refine⟨fun K bE=>bb K fun id hid=>?_,(am7 aN aT).mono Ml⟩
      have o0:id<H.length:=ah8 (by assumption) (R.parts.1 i hi).1 ae (fun s aq=>JN s aq) hid
      rw[<- bE,R.QG aN bd.aj o0,R.QY aN i (by omega) id o0]
     rcases jC with h|h
     .refine⟨fun K _=>(Bk h cE).2 K,?_⟩;have vl:=ae5 (aE:=aE) zm (G i).length
      obtain⟨bZ,wd,Tl,QN,_,Bh,AS⟩:=Au (call:=call) (base:=base) (H':=Ar (G i).length) (v:=val i) vl Hm oC iQ (by rw[mH];exact(Bk h cE).2 _)
      have:=Bh.qL AS.ar.gR
      simpa[Ar]using this
     .have Dx:=R.P2 aQ hi eV gr (.inr (.inl ⟨h,by simpa using qt⟩))
      have D3:=R.KO bd.aj (by omega) bd.st Dx
      obtain⟨_,x,ae,af,bb⟩:=zC h cE
      refine⟨fun K bE=>bb K fun id hid=>by rw[<- bE,D3,R.vM (af id hid)],?_⟩
      have HE:cB aE (mx (G i).length μ) ab w (G i):=Rc zm (fun id hid=>by rw[D3];exact R.vM hid) (fun id g q bo e hid e1=>bd.ww id g q bo e e1 i (by omega) (fun k an e5 aq=>(Dx k an aq).1 e5) hid)
      have Wn:=cE;rw[JW]at Wn
      obtain⟨bZ,wd,Tl,QN,_,Bh,AS⟩:=Au (call:=call) (base:=base) (H':=G i) (v:=val i) HE Hm oC iQ (by rw[mH];exact Wn)
      exact Bh.qL AS.ar.gR
    refine vJ aq zm al Af (by rw[Fo];exact both.1 _ rfl) ?_
    rintro r aV ⟨c,cA,cH,e,my,hn⟩;cases e;have oF:∀id g q,cA id g=some q->∃g0 kK,μ id g0=some kK:=fun id g q e=>hn.news id g q e (hn.ar.gR _ _ _ e)
    refine o2 r aV cA cH p (bd.push hi eV bd.aj (bd.post.trans hn) (PW bd.st mw) (fun id g q e=>⟨g,q,hn.ext _ _ _ e⟩) (fun id g q e _=>.inl (oF id g q e)) (UN _) (by rw[JW];exact both.2) am7 ?_) ?_
    .intro id g q bo e e1 j br uX hid;obtain⟨g0,kK,ck⟩:=oF id g q e;exact V2 id g0 kK bo ck e1 j br uX hid
    .rw[By,J8];exact(al.post zm hn).put _ my
end
section
variable {aE:fD} {eg:dn} {dT:Nat->Prop} {ct:World} {P:Program} [oG aE P] {pure':gH} {call:c5} {base:Nat}
variable {ops:Array Oper} {l:List cF} {fr aW:List V} {H H':az} {F:Nat->List V} {G:Nat->az} {val:Nat->V}
def aDr(R:eH P pure' call base ops l fr aW H H' F G val)(aq:oz P aE call){ro:Option Nat}{n:Nat}{Q:Exit->Act->World->Prop}{dh:List Deferred}(a1:∀s,e' H.length (fr.getD s .bs))(Pu:∀id g q bo,eg id g=some q->H[id]?=some bo->nG H.length bo):
 ∀(fuel:Nat) (cW:Array Bool) (a:Act) (w:World) (μ:dn) (ab:Nat->Prop) (p:Nat),cW.size=l.length->pP cW l.length<=fuel->nj ops (fun k=>cW.getD k false)->
   vo R aE eg dT ct (fun k=>cW.getD k false) p μ ab w->c9 μ ab w (hz (fC l) val fr l.length fun k=>cW.getD k false) a.tmps->a.defers=dh->
   (∀bL w',ox aE eg dT ct H dh aW H' bL w'->Q .normal bL w')->wpAnyIn (hX ro) n P .any ops Q fuel cW a w:=by
 have dv:l.length=ops.size:=R.Hz.1;have done:∀(cW:Array Bool) (a:Act) (w:World) (μ:dn) (ab:Nat->Prop) (p:Nat),(∀k,k<l.length->cW.getD k false=true)->vo R aE eg dT ct (fun k=>cW.getD k false) p μ ab w->
  c9 μ ab w (hz (fC l) val fr l.length fun k=>cW.getD k false) a.tmps->a.defers=dh->ox aE eg dT ct H dh aW H' a w:=by
  intro cW a w μ ab p f' bd al n'
  have jr:R.A p=G l.length:=by
   rw[R.KO bd.aj (bS _) bd.st (fun k an _=>⟨fun _=>an,fun _=>f' k an⟩)];unfold eH.A;rw[r0];rfl
  have hJ:(hz (fC l) val fr l.length fun k=>cW.getD k false)=F l.length:=by
   obtain⟨J,U⟩:=R.vA l.length (bS _)
   refine yN (by rw[ou,J]) fun s aq=>?_
   rw[ou]at aq;rw[tk,a' aq,U s aq,zH (i:=l.length) l.length fun k an _=>?_,Nat.min_self];simp[f' k an,an]
  rw[hJ,R.L4]at al;have hO:=bd.post;rw[jr,R.p6]at hO;exact⟨μ,ab,hO,al,n'⟩
 have K3:∀cW:Array Bool,cW.size=l.length->Region.ready .any ops cW=[]->∀k,k<l.length->cW.getD k false=true:=by
  intro cW de ar k
  induction k using Nat.strongRecOn with
  |ind k aw=>
    intro an;cases ak:cW.getD k false with
    |true=>rfl
    |false=>
      exfalso
      have aT:ops[k]?=some ops[k]:=o8 (by omega)
      have p':k∈Region.ready .any ops cW:=by
       refine mem_ready.2 ⟨?_,_,aT,fun e he af=>?_⟩
       .have:k<cW.size:=by omega
        simp[this]at ak |-;exact ak
       .have aI:=R.back;unfold oh at aI;rw[dU]at aI
        have aI:=aI k (by simp;omega)
        rw[aT]at aI;simp only[Tc,jq,xy,lm]at aI
        rcases aI e he with h|h
        .rw[af]at h;cases h
        .exact aw e.on h (by omega)
      rw[ar]at p';cases p'
 intro fuel
 induction fuel with
 |zero=>
   intro cW a w μ ab p de Ek aQ bd al n' bn
   have f':∀k,k<l.length->cW.getD k false=true:=by
    intro k an
    have a1:pP cW l.length=0:=by omega
    unfold pP at a1;rw[alq]at a1
    have:=a1 k (by simpa using an)
    simpa using this
   refine⟨?_,bn a w (done cW a w μ ab p f' bd al n')⟩;cases ar:Region.ready .any ops cW with
   |nil=>rfl
   |cons j arq=>
     exfalso
     obtain⟨J,o,aT,_⟩:=mem_ready.1 (show j∈Region.ready .any ops cW by rw[ar];exact iH)
     have br:j<l.length:=by have:=(qS.1 aT).1;omega
     have U:=f' j br
     have:j<cW.size:=by omega
     simp[this]at J U;rw[J]at U;cases U
 |succ fuel aw=>
   intro cW a w μ ab p de Ek aQ bd al n' bn;refine⟨fun ar=>bn a w (done cW a w μ ab p (K3 cW de ar) bd al n'),fun i PH=>?_⟩;obtain⟨J,o,aT,f'⟩:=mem_ready.1 PH
   have hi:i<l.length:=by have:=(qS.1 aT).1;omega
   have E5:i<cW.size:=by omega
   have eV:cW.getD i false=false:=by simp[E5]at J |-;exact J
   have gr:∀j,iP (Region.before ops).toList j i=true->cW.getD j false=true:=fun j br=>Sb aQ aT f' br
   have jX:(fun k=>(cW.setIfInBounds i true).getD k false)=ins (fun k=>cW.getD k false) i:=by
    funext k
    by_cases an:k=i
    .subst an;simp[ins,E5]
    .rw[getD_set_ne false (gG an)];simp[ins,an]
   have MD:pP (cW.setIfInBounds i true) l.length<=fuel:=by
    have:pP (cW.setIfInBounds i true) l.length<pP cW l.length:=by
     refine WM (fun k _ an=>?_) ⟨i,by simpa using hi,by simp[eV],?_⟩
     .have:=AJ jX k;simp only[xy]at an |-;rw[this]at an;simp only[ins,rq]at an;exact an.1
     .have:=AJ jX i;simp only[this,ins];simp
    omega
   unfold wpOpIn;simp only[aT]
   have next:∀(c:Value) (aV:World) (cA:dn) (cH:Nat->Prop) (ia:Nat),vo R aE eg dT ct (ins (fun k=>cW.getD k false) i) ia cA cH aV->c9 cA cH aV (hz (fC l) val fr l.length (ins (fun k=>cW.getD k false) i)) (a.put o.dst c).tmps->
    wpAnyIn (hX ro) n P .any ops Q fuel (cW.setIfInBounds i true) (a.put o.dst c) aV:=by
    intro c aV cA cH ia aH7 f1
    refine aw _ _ _ cA cH ia (by simpa using de) MD (by rw[jX];exact WX aQ aT f') (by rw[jX];exact aH7) (by rw[jX];exact f1) (by rw[put_defers];exact n') bn
   have:=R.PB aq aQ hi eV gr bd a1 Pu al aT (ro:=ro) (n:=n) (Q:=Q) (next:=fun bL w'=>wpAnyIn (hX ro) n P .any ops Q fuel (cW.setIfInBounds i true) bL w') next
   cases hw:Region.wanted o (yielded ops a.tmps)with
   |true=>
     rw[hw]at this
     simpa using this
   |false=>
     rw[hw]at this;simp only[lk,gx]at this |-;exact⟨fun _ _=>trivial,this⟩
end
def aGo{F:Fence}{n P cR o a w}{K:Act->World->Prop}{Q:Exit->Act->World->Prop}(h:(zX cR o).wpIn F n P a w K Q):o.wpIn F n P a w K Q:=h
section
variable {ops:Array Oper} {cR:List Nat}
structure QA (cR:List Nat) (ops:Array Oper):Prop where
 len:cR.length=ops.size
 lt:∀i∈cR,i<ops.size
 all:∀i,i<ops.size->i∈cR
 Ru:cR.Nodup
 on:∀o∈ops.toList,∀e∈o.after,e.on<ops.size
 C5:∀o∈ops.toList,∀p,o.guard=some p->p.1<ops.size
def anM(h:Dt cR ops=true):QA cR ops:=by
 unfold Dt at h;simp only[dr,cG,dU,lm,I',Zr,Tc]at h;obtain⟨⟨⟨⟨J,U⟩,ax⟩,aY⟩,cl⟩:=h;refine⟨J,U,ax,aY,fun o aT=>(cl o aT).1,fun o aT p aj=>?_⟩;have:=(cl o aT).2;rw[aj]at this
 simpa using this
def Lj{cR i}(h:i∈cR):oU cR i<cR.length:=by
 unfold oU
 exact List.findIdx_lt_length_of_exists ⟨i,h,by simp⟩
def He{cR i}(h:i∈cR):cR[oU cR i]?=some i:=by
 have ak:=Lj h;rw[dy ak];unfold oU at ak |-;have:=List.findIdx_getElem (w:=ak)
 simpa using this
def Qy{cR}(aN:cR.Nodup){j i}(h:cR[j]?=some i):oU cR i=j:=by
 have hm:i∈cR:=hR h;have J:=He hm;have br:=(cC.1 h).1;have aj:=Lj hm;rw[dy br]at h;rw[dy aj]at J;exact(List.getElem_inj aN).1 ((hc J).trans (hc h).symm)
def Sp:(lA cR ops).size=cR.length:=by simp[lA]
theorem HU{j i:Nat}(h:cR[j]?=some i){o}(aT:ops[i]?=some o):(lA cR ops)[j]?=some (zX cR o):=by
 unfold lA;rw[zn,oi,h];simp only[mD];rw[Qd,aT];rfl
def Lr(cR:List Nat)(a b:Array Bool):Prop:=∀(j i:Nat),cR[j]?=some i->a.getD i false=b.getD j false
def ay0(aj:QA cR ops){F:Fence}{n:Nat}{P}{Q:Exit->Act->World->Prop}:∀(fuel:Nat) (jc eY:Array Bool) (a:Act) (w:World),jc.size=ops.size->eY.size=ops.size->Lr cR jc eY->
 wpAnyIn F n P .any (lA cR ops) Q fuel eY a w->wpAnyIn F n P .any ops Q fuel jc a w:=by
 have ala:∀(jc eY:Array Bool),jc.size=ops.size->eY.size=ops.size->Lr cR jc eY->∀i,i∈Region.ready .any ops jc->oU cR i∈Region.ready .any (lA cR ops) eY/\cR[oU cR i]?=some i/\∃o,ops[i]?=some o:=by
  intro jc eY Bj ad aO i hi;obtain⟨J,o,aT,U⟩:=mem_ready.1 hi;have fG:i<ops.size:=(qS.1 aT).1;have bb:=He (aj.all i fG);have bt:=Lj (aj.all i fG);have dd:=aj.len;refine⟨mem_ready.2 ⟨?_,_,HU bb aT,fun e he af=>?_⟩,bb,o,aT⟩
  .have ax:=aO _ _ bb
   have aF:jc.getD i true=jc.getD i false:=by simp[Array.getD,show i<jc.size by omega]
   have aK:eY.getD (oU cR i) true=eY.getD (oU cR i) false:=by simp[Array.getD,show oU cR i<eY.size by omega]
   rw[aK,<- ax,<- aF];exact J
  .simp only[zX,Array.mem_map]at he;obtain⟨ck,Ch,rfl⟩:=he
   have Hs:o∈ops.toList:=by
    rw[QO];exact Ma aT
   have MY:=aj.on o Hs ck Ch;rw[<- aO _ _ (He (aj.all _ MY))];exact U ck Ch af
 have atS:∀(jc eY:Array Bool),jc.size=ops.size->eY.size=ops.size->Lr cR jc eY->Region.ready .any ops jc=[]->Region.ready .any (lA cR ops) eY=[]:=by
  intro jc eY Bj ad aO he;rw[List.eq_nil_iff_forall_not_mem];intro j br;obtain⟨J,o',oS,U⟩:=mem_ready.1 br
  have mb:j<cR.length:=by rw[<- Sp (ops:=ops)];exact(qS.1 oS).1
  have bb:cR[j]?=some cR[j]:=dy mb;have fG:cR[j]<ops.size:=aj.lt _ (wa mb);have aT:ops[cR[j]]?=some ops[cR[j]]:=o8 fG;have dd:=aj.len;have e:=HU bb aT;rw[oS]at e;have e:=hc e;subst e
  have:cR[j]∈Region.ready .any ops jc:=by
   refine mem_ready.2 ⟨?_,_,aT,fun ck Ch af=>?_⟩
   .have ax:=aO _ _ bb
    have aF:jc.getD cR[j] true=jc.getD cR[j] false:=by simp[Array.getD,show cR[j]<jc.size by omega]
    have aK:eY.getD j true=eY.getD j false:=by simp[Array.getD,show j<eY.size by omega]
    rw[aF,ax,<- aK];exact J
   .have Hs:ops[cR[j]]∈ops.toList:=by
     rw[QO];exact Ma aT
    have MY:=aj.on _ Hs ck Ch
    have:=U { ck with on:=oU cR ck.on } (by simp only[zX,Array.mem_map];exact⟨ck,Ch,rfl⟩) af
    rw[<- aO _ _ (He (aj.all _ MY))]at this;exact this
  rw[he]at this;cases this
 intro fuel
 induction fuel with
 |zero=>
   intro jc eY a w Bj ad aO h;refine⟨?_,h.2⟩;cases ar:Region.ready .any ops jc with
   |nil=>rfl
   |cons i l=>
     obtain⟨J,_⟩:=ala jc eY Bj ad aO i (by rw[ar];exact iH)
     rw[h.1]at J;cases J
 |succ fuel aw=>
   intro jc eY a w Bj ad aO h;refine⟨fun ar=>h.1 (atS jc eY Bj ad aO ar),fun i hi=>?_⟩;obtain⟨J,bb,o,aT⟩:=ala jc eY Bj ad aO i hi;have fG:i<ops.size:=(qS.1 aT).1;have bt:=Lj (aj.all i fG);have dd:=aj.len;have U:=h.2 _ J
   have aqK:Lr cR (jc.setIfInBounds i true) (eY.setIfInBounds (oU cR i) true):=by
    intro j k rY;by_cases an:k=i
    .subst an;rw[Qy aj.Ru rY]
     have br:j<eY.size:=by have:=(cC.1 rY).1;omega
     simp[Array.getD,show k<jc.size by omega,br]
    .have br:j≠oU cR i:=fun e=>by subst e;rw[bb]at rY;exact an (hc rY).symm
     rw[getD_set_ne false (gG an),getD_set_ne false (gG br)];exact aO j k rY
   have cont:∀a w,wpAnyIn F n P .any (lA cR ops) Q fuel (eY.setIfInBounds (oU cR i) true) a w->wpAnyIn F n P .any ops Q fuel (jc.setIfInBounds i true) a w:=fun a w hh=>aw _ _ a w (by simpa using Bj) (by simpa using ad) aqK hh
   unfold wpOpIn at U |-;simp only[HU bb aT]at U;simp only[aT]
   have hw:Region.wanted (zX cR o) (yielded (lA cR ops) a.tmps)=Region.wanted o (yielded ops a.tmps):=by
    unfold Region.wanted zX;cases Ht:o.guard with
    |none=>rfl
    |some p=>
      simp only[mD]
      have Hs:o∈ops.toList:=by
       rw[QO];exact Ma aT
      have e0:=aj.C5 o Hs p Ht;have ahD:ops[p.1]?=some ops[p.1]:=o8 e0
      have:yielded (lA cR ops) a.tmps (oU cR p.1)=yielded ops a.tmps p.1:=by
       unfold yielded;rw[HU (He (aj.all _ e0)) ahD,ahD];rfl
      rw[this]
   rw[hw]at U;split
   .rename_i Sa;rw[a' Sa]at U;exact Oper.wpIn_mono cont (aGo U)
   .rename_i Sa;rw[bm Sa]at U;exact⟨U.1,cont _ _ U.2⟩
def adc(aj:Dt cR ops=true){F:Fence}{n P}{Q:Exit->Act->World->Prop}{a w}(h:wpAnyIn F n P .any (lA cR ops) Q (lA cR ops).size (Array.replicate (lA cR ops).size false) a w):
 wpAnyIn F n P .any ops Q ops.size (Array.replicate ops.size false) a w:=by
 have an:=anM aj;have aq:(lA cR ops).size=ops.size:=Sp.trans an.len;rw[aq]at h
 refine ay0 an _ _ _ a w (by simp) (by simp) (fun j i BW=>?_) h
 have br:j<ops.size:=by have:=(cC.1 BW).1;rw[an.len]at this;exact this
 have hi:i<ops.size:=an.lt _ (hR BW);simp[Array.getD,hi,br]
end
section
variable {call:c5} {base:Nat}
def kE(base:Nat)(H H':az):Prop:=H.length<=H'.length/\∀id,id<base->id<H.length->H'[id]?=H[id]?
def kE.refl(base H):kE base H H:=⟨bS _,fun _ _ _=>rfl⟩
def kE.trans{A B C}(h:kE base A B)(k:kE base B C):kE base A C:=
 ⟨k9 h.1 k.1,fun id J U=>(k.2 id J (lX U h.1)).trans (h.2 id J U)⟩
def Jr{m fr H}(hm:m<=H.length):m<=(trim m fr H).length/\∀id,id<m->(trim m fr H)[id]?=H[id]?:=by
 unfold trim;split
 .refine⟨by simp;omega,fun id h=>by rw[iB h]⟩
 .exact⟨hm,fun _ _=>rfl⟩
def O9(ei:∀v args base H r H',call v args base H=some (r,H')->H.length<=H'.length/\∀id,id<base->id<H.length->H'[id]?=H[id]?):∀(l:List cF) {fr aW:List V} {H H':az},cu call base l fr H=some (aW,H')->kE base H H':=by
 intro l
 induction l with
 |nil=>intro fr aW H H' h;cases h;exact .refl _ _
 |cons o l aw=>
   intro fr aW H H' h;simp only[cu]at h;split at h
   .cases h
   .exact aw h
   .split at h
    .rename_i v H1 cE;exact kE.trans (ajo ei cE) (aw h)
    .cases h
def aB7{b:List V->az->Option cJ}(af:∀fr H e aW H',b fr H=some (e,aW,H')->kE base H H')(kill m):∀(k:Nat) {fr:List V} {H:az} {e:rC} {aW:List V} {H':az},m<=H.length->
 fR b kill m k fr H=some (e,aW,H')->m<=H'.length/\∀id,id<base->id<m->H'[id]?=H[id]?:=by
 intro k
 induction k with
 |zero=>intro fr H e aW H' _ h;simp[fR]at h
 |succ k aw=>
   intro fr H e aW H' hm h;simp only[fR]at h;split at h
   .rename_i cg H1 J;have f:=af _ _ _ _ _ J;obtain⟨t1,t2⟩:=Jr (fr:=ut kill cg) (k9 hm f.1);obtain⟨bC,bP⟩:=aw t1 h;exact⟨bC,fun id J U=>(bP id J U).trans ((t2 id U).trans (f.2 id J (lX U hm)))⟩
   .rename_i aF cg H1 _ J;cases h;have f:=af _ _ _ _ _ J;obtain⟨t1,t2⟩:=Jr (fr:=ut kill cg) (k9 hm f.1);exact⟨t1,fun id J U=>(t2 id U).trans (f.2 id J (lX U hm))⟩
   .cases h
def s'(ei:∀v args base H r H',call v args base H=some (r,H')->H.length<=H'.length/\∀id,id<base->id<H.length->H'[id]?=H[id]?)(fx c):∀{fr:List V} {H:az} {e:rC} {aW:List V} {H':az},aC call (fun b k m=>fR b k m fx) base c fr H=some (e,aW,H')->kE base H H':=by
 induction c with
 |skip=>intro fr H e aW H' h;simp only[aC]at h;cases h;exact .refl _ _
 |region ops b9 kill=>
   intro fr H e aW H' h;simp only[aC]at h;split at h
   .rename_i cg H1 J;split at h
    .cases h;exact O9 ei ops J
    .cases h
   .cases h
 |bc ops kill jL=>
   intro fr H e aW H' h;simp only[aC]at h;split at h
   .cases h;exact .refl _ _
   .cases h
 |seq a b hK iK=>
   intro fr H e aW H' h;simp only[aC]at h;split at h
   .rename_i cg H1 J;exact(hK J).trans (iK h)
   .exact hK h
 |cond c a b hK iK=>
   intro fr H e aW H' h;simp only[aC]at h;split at h
   .exact hK h
   .exact iK h
   .cases h
 |block id c aw=>
   intro fr H e aW H' h;simp only[aC]at h;split at h
   .rename_i eX cg H1 J;cases h;exact aw J
   .exact aw h
 |loop kill c aw=>
   intro fr H e aW H' h;simp only[aC]at h;obtain⟨J,U⟩:=aB7 (fun fr H e aW H' h=>aw h) kill H.length fx (bS _) h;exact⟨J,fun id a b=>U id a b⟩
 |rangeFunc f ps a b _ _=>
   intro fr H e aW H' h
   have fin:∀(bK:az) (v:V) (x:V),call x [.fg H.length] base (H++[.loop .ready none fr ps a b])=some (v,bK)->kE base H (trim H.length fr (bK.set H.length .dead)):=by
    intro bK v x aa;obtain⟨f1,f2⟩:=ei _ _ _ _ _ _ aa;simp only[fU,gP,d9]at f1 f2
    obtain⟨t1,t2⟩:=Jr (m:=H.length) (fr:=fr) (H:=bK.set H.length .dead) (by simp;omega)
    refine⟨t1,fun id J U=>(t2 id U).trans ?_⟩
    rw[cf (by omega),f2 id J (by omega),d' U]
   simp only[aC]at h;split at h
   .split at h
    .rename_i v bK aa;split at h
     .cases h;exact fin _ _ _ aa
     .cases h;exact fin _ _ _ aa
     .cases h
    .cases h
   .cases h
 |exit id=>intro fr H e aW H' h;simp only[aC]at h;cases h;exact .refl _ _
 |ret=>intro fr H e aW H' h;simp only[aC]at h;cases h;exact .refl _ _
end
section
variable {μ ca:dn} {ab b6:Nat->Prop} {w w':World} {H H':az} {P:Program} {pure':gH} {call:c5}
def oo.W3{aE dh aW bL}(kill)(h:ox aE μ ab w H dh aW H' bL w'):oo aE μ ab w H dh (ut kill aW) H' bL w':=by
 obtain⟨ca,b6,J,U,ax⟩:=h
 exact⟨ca,b6,J,U.kill kill,by rw[ax];exact Marks.refl _ _ _ _⟩
def oo.refl{aE}(h:cB aE μ ab w H){a fr}(al:c9 μ ab w fr a.tmps):oo aE μ ab w H a.defers fr H a w:=⟨μ,ab,dm.refl h,al,Marks.refl _ _ _ _⟩
def apR(h:cB (eT P pure') μ ab w H){a:Act}{fr:List V}(al:c9 μ ab w fr a.tmps){ro:Option Nat}(ez:∀l,ro=some l->∃r,w.heap[l]?=some (.loop r))(fn:FuncId)(ps:Array Tmp){x y:Code}{oI q':cM}(ae:ha P pure' x oI)(bA:ha P pure' y q'):
 ∃l mark aV cA cH,(Instr.enterLoop fn a.tmps ps x y ro).run P w=.ok (l,mark) aV/\dm (eT P pure') μ ab w H cA cH aV (H++[.loop .ready none fr ps.toList oI q'])/\cA H.length 0=some (l,0)/\Marks w.heap.size cA aV (mark++a.defers) a.defers:=by
 have mk:∀{aV:World} {cH:Nat->Prop} (D:Nat),cB (eT P pure') μ cH aV H->b0 μ cH aV fr a.tmps.toList->jQ (eT P pure') μ cH aV (.loop .ready none fr ps.toList oI q') 0 (.loop { state:=.ready,pending:=none,fn,tmps:=a.tmps,params:=ps,assign:=x,body:=y,defers:=D }):=
  fun D _ av=>⟨rfl,rfl,rfl,av,rfl,ae,bA⟩
 cases ro with
 |none=>
   have cn:dm (eT P pure') μ ab w H μ ab (w.alloc (.deferred (some []))) H:=Xz h _ rfl rfl rfl rfl;have dK:=Hi cn.ar (.loop { state:=.ready,pending:=none,fn,tmps:=a.tmps,params:=ps,assign:=x,body:=y,defers:=w.heap.size }) (.loop .ready none fr ps.toList oI q') (mk _ cn.ar (cn.F4 h al)) (w':=(w.alloc (.deferred (some []))).alloc (.loop { state:=.ready,pending:=none,fn,tmps:=a.tmps,params:=ps,assign:=x,body:=y,defers:=w.heap.size })) rfl rfl rfl rfl;refine⟨_,_,_,_,_,run_enterLoop_outer fn a.tmps ps x y,cn.trans dK,?_,?_⟩
   .have:(w.alloc (.deferred (some []))).heap.size=w.heap.size+1:=World.size_alloc ..;rw[this];exact mS _ _ _ _
   .refine⟨[w.heap.size],rfl,by simp,fun D cX=>?_⟩
    simp at cX;subst cX;have aq:(w.alloc (.deferred (some []))).heap.size=w.heap.size+1:=World.size_alloc ..;have J:(w.alloc (.deferred (some []))).heap[w.heap.size]?=some (.deferred (some [])):=World.alloc_heap_new ..
    refine⟨bS _,(jS (w:=w.alloc (.deferred (some []))) rfl (by rw[aq];omega)).trans J,fun id g b e=>?_⟩
    by_cases aa:id=H.length/\g=0
    .obtain⟨rfl,rfl⟩:=aa;rw[mS]at e;have:=(GG (hc e)).1;rw[aq]at this;omega
    .rw[wO aa]at e;have:=(h.gu _ _ _ _ e).2;omega
 |some ij=>
   obtain⟨hq,Ad⟩:=ez ij rfl;have dK:=Hi h (.loop { state:=.ready,pending:=none,fn,tmps:=a.tmps,params:=ps,assign:=x,body:=y,defers:=hq.defers }) (.loop .ready none fr ps.toList oI q') (mk _ h al) (w':=w.alloc (.loop { state:=.ready,pending:=none,fn,tmps:=a.tmps,params:=ps,assign:=x,body:=y,defers:=hq.defers })) rfl rfl rfl rfl;exact⟨_,_,_,_,_,run_enterLoop_inner Ad fn a.tmps ps x y,dK,mS _ _ _ _,Marks.refl _ _ _ _⟩
def abT{eg}{dT:Nat->Prop}{ct b7 aE}(a1:cB aE eg dT ct b7)(aj:dm aE eg dT ct b7 μ ab w H){l}(hm:μ b7.length 0=some (l,0)){st:LoopState}{rP t ps oI q'}(bu:H[b7.length]?=some (.loop st rP t ps oI q'))(fE:st≠.busy){fr a}(al:c9 μ ab w fr a.tmps){dh}(mH:Marks ct.heap.size μ w a.defers dh):
 ∃r w',(Instr.endLoop l).run P w=.ok r w'/\KV st rP r/\oo aE eg dT ct b7 dh fr (trim b7.length fr (H.set b7.length .dead)) a w':=by
 obtain⟨o,aT,ar⟩:=aj.ar.ly _ _ 0 _ _ bu rfl hm
 cases o<;>first|exact ar.elim|skip
 rename_i r;obtain⟨_,J,U,ax,aY,cl,eM⟩:=ar;subst J;have fp:=run_endLoop (P:=P) aT fE;have cn:dm aE μ ab w H (l7 μ b7.length 0 (l,0)) ab (w.putObj l (.loop { r with state:=.exhausted })) (H.set b7.length .dead):=
  EA aj.ar 0 0 bu rfl hm aT (fun _ _ _ e=>by cases e) (fun _ _=>⟨_,rfl⟩) (.inl ⟨rfl,rfl⟩) (fun j br=>br.elim) (fun _ _ e=>by cases e) rfl rfl rfl rfl trivial (fun aa=>aa.elim)
 have hn:=aj.trans cn;have o0:b7.length<H.length:=(cC.1 bu).1
 obtain⟨hy,dK,f2,s2,_⟩:=aig hn a1.gR (bS _) (by simp;omega) (al.post aj.ar cn)
 refine⟨_,_,fp,U,hy,ab,dK,f2,?_⟩;exact(mH.trans cn aj.cj.size (Marks.refl _ _ _ _)).sub s2
def Hl(aq:oz P (eT P pure') call){base:Nat}{ops:Array Oper}{l:List cF}{b9:List (Nat × Nat)}(ar:pb P pure' ops l)(aQ:pG (Region.before ops).toList b9 l=true/\oh ops=true){ro:Option Nat}{n:Nat}{fr:List V}{H:az}{cg:List V}{H':az}(J:cu call base l fr H=some (cg,H'))(sQ:b9.all (j8 call base l fr H cg)=true){μ:dn}{ab:Nat->Prop}{w:World}{a:Act}{Q:Exit->Act->World->Prop}(h:cB (eT P pure') μ ab w H)(al:c9 μ ab w fr a.tmps)(bn:∀bL w',ox (eT P pure') μ ab w H a.defers cg H' bL w'->Q .normal bL w'):wpAnyIn (hX ro) n P .any ops Q ops.size (Array.replicate ops.size false) a { w with drawn:=w.drawn+1 }:=by
 obtain⟨aT,af⟩:=aQ;obtain⟨F,G,val,cy,a2,a3,a4,a5⟩:=ajY _ _ _ _ _ J;by_cases EF:uU (Region.before ops).toList b9 l=true
 case neg=>
  have EF:uU (Region.before ops).toList b9 l=false:=by simpa using EF
  simp only[pG,EF,o5,dr]at aT;have R:eH P pure' call base ops l fr _ H H' F G val:=⟨ar,aT.2,af,cy,a2,a3,a4,a5,aq.floor⟩;have cn:dm (eT P pure') μ ab w H μ ab { w with drawn:=w.drawn+1 } H:=KT h rfl rfl rfl rfl
  have tJ:∀k,(Array.replicate ops.size false).getD k false=false:=by
   intro k;by_cases an:k<ops.size<;>simp[an]
  have jf:(fun k=>(Array.replicate ops.size false).getD k false)=fun _=>false:=funext tJ
  have aqh:(hz (fC l) val fr l.length fun k=>(Array.replicate ops.size false).getD k false)=fr:=by
   refine yN ou fun s aq=>?_;rw[ou]at aq;rw[tk,a' aq,zH (i:=0) l.length fun k _ _=>?_]
   .simp[lw]
   .rw[tJ k];simp
  have Dq:=(R.lens (fa l.length) (bS _))
  have rp:∀id,id<H.length->(R.A 0)[id]?=H[id]?:=fun id hid=>by
   have:=R.vM (j:=0) (id:=id) (by rw[a2];exact hid)
   rw[a2]at this;exact this
  have awi:∀s,e' H.length (fr.getD s .bs):=fun s=>(al.getD s).qL h.gR
  have dK:dm (eT P pure') μ ab w H μ ab { w with drawn:=w.drawn+1 } (R.A 0):=by
   have ak:H.length<=(R.A 0).length:=by rw[R.Rs (fa _)];rw[a2]at Dq;exact Dq
   have q:=cn.ar;refine⟨ak,⟨fun id g p e=>lX (q.gR _ _ _ e) ak,q.gu,fun id bo g B b bu aa e=>q.ly id bo g B b ((rp id (q.gR _ _ _ e)).symm.trans bu) aa e,q.inj,fun id g g' c p e bu=>q.nb id g g' c p e ((rp id (q.gR _ _ _ e)).symm.trans bu),fun id g p bo e bu=>(q.wf id g p bo e ((rp id (q.gR _ _ _ e)).symm.trans bu)).mono ak,q.fix,q.zero⟩,cn.ext,cn.mt,cn.cj,cn.ed,cn.news⟩
  have ap4:vo R (eT P pure') μ ab w (fun k=>(Array.replicate ops.size false).getD k false) 0 μ ab { w with drawn:=w.drawn+1 }:=by
   rw[jf]
   refine⟨fa _,dK,fun k _ _=>⟨fun h=>(by cases h),fun h=>absurd h (K4 _)⟩,fun id g q e hid=>?_,fun k _ e5=>(by cases e5),fun m _ e5=>(by cases e5),fun _ m _ e5=>(by cases e5),fun id g q bo e e1 j br _ hid=>?_⟩
   .have:=h.gR _ _ _ e;omega
   .have aQ:=h.gR _ _ _ e;have FW:=R.lens (fa j) br;rw[a2]at FW;rw[rp id aQ]at e1;exact(h.wf id g q bo e e1).mono FW
  refine aDr R aq awi (fun id g q bo e bu=>h.wf id g q bo e bu) ops.size _ a _ μ ab 0 (by simp[ar.1]) ?_ ?_ ap4 (by rw[aqh];exact al.post h cn) rfl (fun bL w' bD=>bn bL w' bD)
  .unfold pP;refine k9 Tr ?_;simp[ar.1]
  .intro j br
   exact absurd ((tJ j).symm.trans br) (by simp)
 have aT:=EF;have R:Row P pure' call base ops l b9 fr _ H H' F G val:=⟨ar,aT,af,cy,a2,a3,a4,a5,sQ,aq.floor⟩;have cn:dm (eT P pure') μ ab w H μ ab { w with drawn:=w.drawn+1 } H:=KT h rfl rfl rfl rfl
 have tJ:∀k,(Array.replicate ops.size false).getD k false=false:=by
  intro k;by_cases an:k<ops.size<;>simp[an]
 refine aoz R aq h ops.size _ a _ μ ab 0 (by simp[ar.1]) ?_ ?_ (fa _) (fun k an=>by omega) (fun k _ _ _=>tJ k) (by rw[a2];exact cn) ?_ rfl (fun bL w' bD=>bn bL w' bD)
 .unfold pP;refine k9 Tr ?_;simp[ar.1]
 .intro j br
  exact absurd ((tJ j).symm.trans br) (by simp)
 .have:(hz (fC l) val fr l.length fun k=>(Array.replicate ops.size false).getD k false)=fr:=by
   refine yN ou fun s aq=>?_;rw[ou]at aq;rw[tk,a' aq,zH (i:=0) l.length fun k _ _=>?_]
   .simp[lw]
   .rw[tJ k];simp
  rw[this];exact al.post h cn
def C3(aq:oz P (eT P pure') call)(e6:P.follows .mixedOrders=true)(fx base){c ac}(aa:ha P pure' c ac):
 ∀(ro:Option Nat) (n:Nat),L7 P (eT P pure') ro n c (aC call (fun b k m=>fR b k m fx) base ac):=by
 have Qb:∀(ops:Array Oper) (l:List cF) (b9:List (Nat × Nat)) (kill:List Nat),pb P pure' ops l->(pG (Region.before ops).toList b9 l=true/\oh ops=true)->
  ∀(ro:Option Nat) (n:Nat) (fr:List V) (H:az) (e:rC) (aW:List V) (H':az),aC call (fun b k m=>fR b k m fx) base (.region l b9 kill) fr H=some (e,aW,H')->
    ∀(μ:dn) (ab:Nat->Prop) (w:World) (a:Act) (Q:Exit->Act->World->Prop),cB (eT P pure') μ ab w H->c9 μ ab w fr a.tmps->
      (∀bL w',oo (eT P pure') μ ab w H a.defers aW H' bL w'->Q (Ka e) bL w')->wpAnyIn (hX ro) n P .any ops Q ops.size (Array.replicate ops.size false) a { w with drawn:=w.drawn+1 }:=by
  intro ops l b9 kill ar aQ;intro ro n fr H e aW H' ag μ ab w a Q h al bn;simp only[aC]at ag;split at ag
  .rename_i cg H1 J;split at ag
   .rename_i sQ;cases ag;exact Hl aq ar aQ J sQ h al fun bL w' bD=>bn bL w' (oo.W3 kill bD)
   .cases ag
  .cases ag
 have rows:∀(id:Nat) (ops:Array Oper) (draw:Bool) (l:List cF) (b9:List (Nat × Nat)) (kill:List Nat),pb P pure' ops l->(draw=true->pG (Region.before ops).toList b9 l=true/\oh ops=true)->
  ∀(ro:Option Nat) (n:Nat),L7 P (eT P pure') ro n (.region id ops draw) (aC call (fun b k m=>fR b k m fx) base (.region l b9 kill)):=by
  intro id ops draw l b9 kill ar aQ;intro ro n fr H e aW H' ag μ ab w a Q h al ez bn;cases draw with
  |true=>exact wpIn_region_any e6 (Qb ops l b9 kill ar (aQ rfl) ro n fr H e aW H' ag μ ab w a Q h al bn)
  |false=>
    simp only[aC]at ag;split at ag
    .rename_i cg H1 J;split at ag
     .rename_i sQ;cases ag;refine wpIn_region ?_
      have:=SU (Q:=Q) (ro:=ro) (n:=n) aq ar ops.size 0 fr H a w μ ab (by omega) h al (by simpa using J) (fun bL w' bD=>bn bL w' (oo.W3 kill bD))
      simpa using this
     .cases ag
    .cases ag
 induction aa with
 |skip=>
   intro ro n fr H e aW H' ag μ ab w a Q h al ez bn;simp only[aC]at ag;cases ag;exact wpIn_skip (bn a w (oo.refl h al))
 |label l=>
   intro ro n fr H e aW H' ag μ ab w a Q h al ez bn;simp only[aC]at ag;cases ag;exact wpIn_label (bn a w (oo.refl h al))
 |exit id=>
   intro ro n fr H e aW H' ag μ ab w a Q h al ez bn;simp only[aC]at ag;cases ag;exact wpIn_exit (bn a w (oo.refl h al))
 |ret=>
   intro ro n fr H e aW H' ag μ ab w a Q h al ez bn;simp only[aC]at ag;cases ag;exact wpIn_ret (bn a w (oo.refl h al))
 |region id ops draw l b9 kill ar aQ=>exact rows id ops draw l b9 kill ar aQ
 |bc id ops draw l kill jL ar aQ=>
   intro ro n fr H e aW H' ag;simp only[aC]at ag;split at ag
   .rename_i f2 U;cases ag;obtain⟨f1,J,rfl⟩:=De (call:=call) (base:=base) U
    exact rows id ops draw l [] kill ar aQ ro n fr _ .bH _ _ (by simp only[aC,J];rfl)
   .cases ag
 |LY id ops cR l b9 kill aj ar aQ=>
   intro ro n fr H e aW H' ag μ ab w a Q h al ez bn;exact wpIn_region_any e6 (adc aj (Qb _ l b9 kill ar aQ ro n fr H e aW H' ag μ ab w a Q h al bn))
 |KR id ops cR l kill jL aj ar aQ=>
   intro ro n fr H e aW H' ag μ ab w a Q h al ez bn;simp only[aC]at ag;split at ag
   .rename_i f2 U;cases ag;obtain⟨f1,J,rfl⟩:=De (call:=call) (base:=base) U
    exact wpIn_region_any e6 (adc aj (Qb _ l [] kill ar aQ ro n fr _ .bH _ _ (by simp only[aC,J];rfl) μ ab w a Q h al bn))
   .cases ag
 |seq x y oI q' _ _ sc uh=>
   intro ro n fr H e aW H' ag μ ab w a Q h al ez bn;simp only[aC]at ag;refine wpIn_seq ?_;split at ag
   .rename_i cg H1 J;refine sc ro n _ _ _ _ _ J μ ab w a _ h al ez ?_;rintro cy aV ⟨cA,cH,cn,f1,m1⟩;refine uh ro n _ _ _ _ _ ag cA cH aV cy Q cn.ar f1 (fun l ak=>?_) (fun a2 b4 U=>bn a2 b4 (oo.trans cn m1 U));obtain⟨r,ar⟩:=ez l ak;exact cn.cj.loops l r ar
   .rename_i dq;refine sc ro n _ _ _ _ _ ag μ ab w a _ h al ez ?_;intro cy aV J;have:=bn cy aV J;cases e with
    |bH=>exact(dq _ _ ag).elim
    |ext id=>exact this
    |ret=>exact this
 |cond c o x y oI q' jo _ _ sc uh=>
   intro ro n fr H e aW H' ag μ ab w a Q h al ez bn;simp only[aC]at ag;have av:=dY al jo;split at ag
   .rename_i he;rw[he]at av;exact wpIn_cond_true (eA av) (sc ro n _ _ _ _ _ ag μ ab w a Q h al ez bn)
   .rename_i he;rw[he]at av;exact wpIn_cond_false (eA av) (uh ro n _ _ _ _ _ ag μ ab w a Q h al ez bn)
   .cases ag
 |block id c x _ aw=>
   intro ro n fr H e aW H' ag μ ab w a Q h al ez bn;simp only[aC]at ag;refine wpIn_block ?_;split at ag
   .rename_i eX cg H1 J;cases ag;refine aw ro n _ _ _ _ _ J μ ab w a _ h al ez ?_;intro cy aV ar;have:=bn cy aV ar
    show(if eX=id then Q .normal cy aV else Q (.exit eX) cy aV)
    split
    .rename_i hid;rw[a' hid]at this;exact this
    .rename_i hid;rw[bm hid]at this;exact this
   .rename_i dq;refine aw ro n _ _ _ _ _ ag μ ab w a _ h al ez ?_;intro cy aV ar;have:=bn cy aV ar;cases e with
    |bH=>exact this
    |ext eX=>exact(dq _ _ _ ag).elim
    |ret=>exact this
 |loop c kill x _ aw=>
   intro ro n fr H e aW H' ag μ ab w a Q h al ez bn;simp only[aC]at ag;refine wpIn_loop_rounds fx ?_;exact av4 (aw ro n) kill H.length fx _ H e aW H' ag μ ab w a Q μ ab w H a.defers h (bS _) (bS _) (dm.refl h) (Marks.refl _ _ _ _) (al.kill kill) ez bn
 |rangeFunc f o ps x y oI q' jo ae bA _ _=>
   intro ro n fr H e aW H' ag μ ab w a Q h al ez bn;simp only[aC]at ag;have av:=dY al jo;split at ag
   case h_2=>cases ag
   rename_i k u z he;rw[he]at av;refine wpIn_rangeFunc ?_;intro fn _;obtain⟨l,mark,aV,cA,cH,kP,cn,u7,aqe⟩:=apR h al ez fn ps ae bA;have uH:=cn.vy h av;split at ag
   case h_2=>cases ag
   rename_i E3 bK iX;generalize x5:a.eval f=IL at uH;cases uH with
   |fn _ _ _ fs eP J U ax aY=>
     obtain⟨qE,iQ⟩:=aq.fn k u z _ base _ E3 bK iX
     have dE:b0 cA cH aV (u++[.fg H.length]++z) (fs++#[Value.func (.yield l) #[] #[]]++eP).toList:=by
      have hu:b0 cA cH aV u fs.toList:=⟨by simpa using J,fun i p q aj bD=>ax i p q aj (by simpa using bD)⟩
      have b5:b0 cA cH aV z eP.toList:=⟨by simpa using U,fun i p q aj bD=>aY i p q aj (by simpa using bD)⟩
      have bA:b0 cA cH aV [.fg H.length] [Value.func (.yield l) #[] #[]]:=⟨rfl,fun i p q aj bD=>by
       cases i with
       |zero=>simp at aj bD;subst aj;subst bD;exact .fg _ _ u7
       |succ i=>simp at aj⟩
      simpa using(hu.append bA).append b5
     have mg:=iQ cA cH aV _ cn.ar dE (n-1);simp only[yF]at mg
     refine⟨l,mark,aV,⟨.fn (.func k) eP,fs++#[Value.func (.yield l) #[] #[]]⟩,aV,k,fs++#[Value.func (.yield l) #[] #[]]++eP,aV,kP,?_,fun _ _=>trivial,?_,fun h=>by simp[hX]at h,?_⟩
     .have aF:a.eval (.const (.func (.yield l) #[] #[]))=Value.func (.yield l) #[] #[]:=rfl;simp only[resolve,x5,Deferred.ofValue,Sem.run_pure,List.map_toArray,lL,x7,aF]
     .simp only[invoke,qE]
     .refine CallsIn.mono mg ?_;rintro dS dJ ⟨et,Dp,JC,rfl,_,iE⟩;have Cv:=iE.ext _ _ _ u7;have pp:=cn.trans iE;have VI:Marks w.heap.size Dp dJ (mark++a.defers) a.defers:=aqe.trans iE cn.cj.size (Marks.refl _ _ _ _);have VF:c9 Dp JC dJ fr a.tmps:=al.post h pp;split at ag
      .rename_i bu;cases ag
       obtain⟨r,eO,fp,eQ,jn⟩:=abT (P:=P) (a:={ a with defers:=mark++a.defers }) h pp Cv bu (by simp) VF VI
       refine⟨r,eO,fp,?_⟩;cases r with
       |none=>exact bn _ _ jn
       |some c=>simp[KV]at eQ
      .rename_i bw bu;cases ag
       obtain⟨r,eO,fp,eQ,jn⟩:=abT (P:=P) (a:={ a with defers:=mark++a.defers }) h pp Cv bu (by simp) VF VI
       refine⟨r,eO,fp,?_⟩;cases e with
       |bH=>exact eQ.elim
       |ext id=>
         have eQ:r=some (.exit id):=eQ;subst eQ;exact wpIn_exit (bn _ _ jn)
       |ret=>
         have eQ:r=some .ret:=eQ;subst eQ;exact wpIn_ret (bn _ _ jn)
      .cases ag
end
section
variable {aE:fD} {μ ca:dn} {ab b6:Nat->Prop} {w w':World} {H H':az} {P:Program} {pure':gH} {call:c5}
def gE.xH(bJ:∀B,B<w.heap.size->b6 B->ab B)(an:∀(B:Nat) (arr:Array Value) (e:TypeId) (fr:Nat × Nat),w.heap[B]?=some (.cells arr e fr)->w'.heap[B]?=w.heap[B]?){v c}(h:gE ab w v c):gE b6 w' v c:=by
 induction h with
 |s v=>exact .s v
 |agg cs vs ak _ aw=>exact .agg cs vs ak aw
 |bV cs vs ak _ aw=>exact .bV cs vs ak aw
 |eu cs B o arr e fr aI hQ aq _ aw=>exact .eu cs B o arr e fr ((an B _ _ _ aI).trans aI) (fun h=>hQ (bJ B (hl aI) h)) aq aw
 |du es sz B o cap arr e fr aI hQ aa b5 aq _ aw=>exact .du es sz B o cap arr e fr ((an B _ _ _ aI).trans aI) (fun h=>hQ (bJ B (hl aI) h)) aa b5 aq aw
 |il sz cap a=>exact .il sz cap a
 |db a=>exact .db a
 |fn f fst cap fs eP al aa _ _ qJ nt=>exact .fn f fst cap fs eP al aa qJ nt
def bM.xH(bJ:∀B,B<w.heap.size->b6 B->ab B)(an:∀(B:Nat) (arr:Array Value) (e:TypeId) (fr:Nat × Nat),w.heap[B]?=some (.cells arr e fr)->w'.heap[B]?=w.heap[B]?){v c}(h:bM μ ab w v c):bM μ b6 w' v c:=by
 induction h with
 |s v=>exact .s v
 |bs v=>exact .bs v
 |agg cs vs ak _ aw=>exact .agg cs vs ak aw
 |bV cs vs ak _ aw=>exact .bV cs vs ak aw
 |ref id g off B b hm=>exact .ref id g off B b hm
 |eu cs B o arr e fr aI hQ aq h=>exact .eu cs B o arr e fr ((an B _ _ _ aI).trans aI) (fun h=>hQ (bJ B (hl aI) h)) aq (fun i a b aD af=>(h i a b aD af).xH bJ an)
 |aB id g off len sz B b cap arr e hm aI aa aq=>exact .aB id g off len sz B b cap arr e hm ((an B _ _ _ aI).trans aI) aa aq
 |js id g off sz B b a hm=>exact .js id g off sz B b a hm
 |du es sz B o cap arr e fr aI hQ aa b5 aq h=>exact .du es sz B o cap arr e fr ((an B _ _ _ aI).trans aI) (fun h=>hQ (bJ B (hl aI) h)) aa b5 aq (fun i el j a b he aD af=>(h i el j a b he aD af).xH bJ an)
 |il sz cap a=>exact .il sz cap a
 |db a=>exact .db a
 |mp id B hm=>exact .mp id B hm
 |fn f fst cap fs eP al aa _ _ qJ nt=>exact .fn f fst cap fs eP al aa qJ nt
 |fg id B hm=>exact .fg id B hm
def jQ.xH(bJ:∀B,B<w.heap.size->b6 B->ab B)(an:∀(B:Nat) (arr:Array Value) (e:TypeId) (fr:Nat × Nat),w.heap[B]?=some (.cells arr e fr)->w'.heap[B]?=w.heap[B]?){bo b}{o:Obj}(h:jQ aE μ ab w bo b o):jQ aE μ b6 w' bo b o:=by
 cases bo with
 |cells g c=>cases o<;>first|exact h.elim|exact⟨h.1,h.2.1,fun i a v aD av=>(h.2.2.1 i a v aD av).xH bJ an,h.2.2.2⟩
 |map es=>cases o<;>first|exact h.elim|exact⟨h.1,h.2.1,fun i k v e he av=>⟨(h.2.2 i k v e he av).1,(h.2.2 i k v e he av).2.xH bJ an⟩⟩
 |loop st rP tmps params assign body=>
   cases o<;>first|exact h.elim|skip
   obtain⟨a1,J,U,ax,aY,cl,eM⟩:=h;exact⟨a1,J,U,⟨ax.1,fun i a b aD af=>(ax.2 i a b aD af).xH bJ an⟩,aY,cl,eM⟩
 |dead=>cases o<;>exact h.elim
 |bytes g l=>cases o<;>first|exact h.elim|exact h
def N5{eg}{dT:Nat->Prop}{ct b7}(aj:dm aE eg dT ct b7 μ ab w H){D x y}(cX:ct.heap.size<=D)(aQ:w.heap[D]?=some (.deferred x))(aN:∀id g b,μ id g≠some (D,b)):
 dm aE eg dT ct b7 μ ab (w.putObj D (.deferred y)) H/\∀{v:V} {c:Value},bM μ ab w v c->bM μ ab (w.putObj D (.deferred y)) v c:=by
 have an:∀(B:Nat) (arr:Array Value) (e:TypeId) (fr:Nat × Nat),w.heap[B]?=some (.cells arr e fr)->(w.putObj D (.deferred y)).heap[B]?=w.heap[B]?:=by
  intro B arr e fr aI;refine World.putObj_heap_other (fun e=>?_);subst e;rw[aQ]at aI;cases aI
 have de:(w.putObj D (.deferred y)).heap.size=w.heap.size:=World.putObj_size
 have dq:∀K,K<ct.heap.size->(w.putObj D (.deferred y)).heap[K]?=w.heap[K]?:=fun K bE=>World.putObj_heap_other (by omega)
 refine⟨⟨aj.len,⟨aj.ar.gR,fun id g B b e=>by rw[de];exact aj.ar.gu id g B b e,fun id bo g B b bu aa e=>?_,aj.ar.inj,aj.ar.nb,aj.ar.wf,fun B o e=>⟨(an B _ _ _ (aj.ar.fix B o e).1).trans (aj.ar.fix B o e).1,(aj.ar.fix B o e).2⟩,aj.ar.zero⟩,aj.ext,aj.mt,
  ⟨by rw[de];exact aj.cj.size,fun B arr e fr aI=>?_,fun B l aI=>?_,fun B aI hu=>(dq B aI).trans (aj.cj.bT B aI hu),fun B arr e aI=>?_,aj.cj.os,aj.cj.tape,aj.cj.output⟩,aj.ed,aj.news⟩,fun h=>h.xH (fun _ _ h=>h) an⟩
 .obtain⟨o,aT,ar⟩:=aj.ar.ly id bo g B b bu aa e;refine⟨o,(World.putObj_heap_other (fun eq=>?_)).trans aT,ar.xH (fun _ _ h=>h) an⟩;subst eq;exact aN id g b e
 .obtain⟨eB,aW,J,U⟩:=aj.cj.shape B arr e fr aI;exact⟨eB,aW,(dq B (hl aI)).trans J,U⟩
 .obtain⟨tx,J⟩:=aj.cj.loops B l aI;exact⟨tx,(dq B (hl aI)).trans J⟩
 .by_cases anX:B=D
  .subst anX;rw[World.putObj_heap_same (hl aQ)]at aI;cases aI
  .rw[World.putObj_heap_other anX]at aI;exact aj.cj.back B arr e aI
def aAE{eg}{dT:Nat->Prop}{ct b7}{fn:Func}{tmps fr}{R:Ending->World->Prop}{n}(ER:∀w',dm aE eg dT ct b7 μ ab w' H->c9 μ ab w' fr tmps->∃v,(results fn tmps).run P w'=.ok v w'/\R (.returned v) w'):
 ∀(L:List Nat) (w:World),dm aE eg dT ct b7 μ ab w H->c9 μ ab w fr tmps->L.Nodup->(∀D∈L,ct.heap.size<=D/\w.heap[D]?=some (.deferred (some []))/\∀id g b,μ id g≠some (D,b))->
   LeavesInM Fence.wide n P fn tmps R (L.map Iz) .returning w:=by
 intro L
 induction L with
 |nil=>intro w aj al _ _;exact ER w aj al
 |cons D L aw=>
   intro w aj al ki dw;obtain⟨J,U,ax⟩:=dw D iH
   refine⟨by simp,.inl ⟨D,_,rfl,run_takeDeferred U,?_⟩⟩
   obtain⟨cn,av⟩:=N5 (y:=none) aj J U ax;refine aw _ cn ⟨al.1,fun i a b aD af=>av (al.2 i a b aD af)⟩ (DI.1 ki).2 (fun E bx=>?_);obtain⟨k1,k2,dx⟩:=dw E (hP _ bx)
   have dq:E≠D:=fun e=>by subst e;exact(DI.1 ki).1 bx
   exact⟨k1,(World.putObj_heap_other dq).trans k2,dx⟩
def aGL(h:cB aE μ ab w H){fr tmps}(al:c9 μ ab w fr tmps):∀(rs:List ResultVar) (wo:List lj) (vs:List V),rs.mapM (AK P)=some wo->wo.mapM (j' fr H)=some vs->
 ∃cs:List Value,(rs.mapM (fun|.tmp t=>pure (tmps.getD t Go.undef)|.cell a t=>do loadVar t (<- asAddr (tmps.getD a Go.undef)):ResultVar->Sem Value)).run P w=.ok cs w/\b0 μ ab w vs cs:=by
 intro rs
 induction rs with
 |nil=>
   intro wo vs J U;simp at J;subst J;simp at U;subst U
   exact⟨[],by simp[Sem.run_pure],rfl,fun i a b aD=>by simp at aD⟩
 |cons r rs aw=>
   intro wo vs J U;simp only[n1,fF,fW,eL]at J;obtain⟨a,aD,aq2,has,e⟩:=J;cases e;simp only[n1,fF,fW,eL]at U;obtain⟨v,av,aoL,dE,e⟩:=U;cases e;obtain⟨cs,kS,ar⟩:=aw aq2 aoL has dE
   have one:∃c,((fun|.tmp t=>pure (tmps.getD t Go.undef)|.cell a t=>do loadVar t (<- asAddr (tmps.getD a Go.undef)):ResultVar->Sem Value) r).run P w=.ok c w/\bM μ ab w v c:=by
    cases r with
    |tmp t=>
      simp only[AK]at aD;cases aD;simp only[j']at av;cases av;exact⟨_,rfl,al.getD t⟩
    |cell t ty=>
      simp only[AK,fo]at aD;obtain⟨⟨agg,k⟩,aq,e⟩:=aD;cases e;simp only[j']at av;obtain⟨c,J,U⟩:=aep (P:=P) aq h (al.getD t) av;refine⟨c,?_,U⟩;have ae:=al.getD t;unfold iT at av;split at av
      .rename_i Cd;rw[Cd]at ae;obtain⟨B,b,hm,QB⟩:=G1 ae
       show Sem.run P (do loadVar ty (<- asAddr (tmps.getD t Go.undef))) w=_
       rw[QB]at J |-
       simpa[Instr.loadAt,Instr.sureAddr,asAddr,Sem.run_bind,Sem.run_pure]using J
      .rename_i Cd;rw[Cd]at ae;obtain⟨bL,QB,_⟩:=Rx ae
       show Sem.run P (do loadVar ty (<- asAddr (tmps.getD t Go.undef))) w=_
       rw[QB]at J |-
       simpa[Instr.loadAt,Instr.sureAddr,asAddr,Sem.run_bind,Sem.run_pure]using J
      .cases av
   obtain⟨c,aa,my⟩:=one
   refine⟨c::cs,?_,by simpa using b0.append (a:=[v]) (c:=[c]) ⟨rfl,fun i p q aj bD=>by
    cases i with
    |zero=>simp at aj bD;subst aj;subst bD;exact my
    |succ i=>simp at aj⟩ ar⟩
   rw[n1];simp only[Sem.run_bind];rw[aa];simp only[eb,kS,Sem.run_pure]
def Il(h:cB aE μ ab w H){fr tmps}(al:c9 μ ab w fr tmps){fn:Func}{wo:List lj}(aa:fn.results.toList.mapM (AK P)=some wo){r}(ar:kB wo fr H=some r):
 ∃v,(results fn tmps).run P w=.ok v w/\bM μ ab w r v:=by
 unfold kB at ar
 have main:∀vs,wo.mapM (j' fr H)=some vs->∃cs:List Value,(results fn tmps).run P w=.ok (if h:cs.toArray.size=1 then cs.toArray[0]else .tuple cs.toArray) w/\b0 μ ab w vs cs:=by
  intro vs dE;obtain⟨cs,J,U⟩:=aGL (P:=P) h al fn.results.toList wo vs aa dE;refine⟨cs,?_,U⟩;unfold results;rw[Yx];simp only[Sem.run_bind,map_eq_pure_bind,bind_assoc,pure_bind]
  erw [J]
  simp only[eb,Sem.run_pure]
 split at ar
 .rename_i v dE;cases ar;obtain⟨cs,J,U⟩:=main _ dE
  have ak:cs.length=1:=by have:=U.1;simp at this;exact this.symm
  match cs,ak with
  | [c],_=>exact⟨c,by simpa using J,U.2 0 r c rfl rfl⟩
 .rename_i vs dq dE;cases ar;obtain⟨cs,J,U⟩:=main _ dE
  have ak:cs.toArray.size≠1:=by
   intro ak;have ax:=U.1;simp at ak;rw[ak]at ax
   match vs,ax with
   | [v],_=>exact dq v rfl
  rw[dif_neg ak]at J
  exact⟨_,J,.bV vs cs.toArray (by simpa using U.1) (fun i a b aD af=>U.2 i a b aD (by simpa using af))⟩
 .cases ar
end
end Go.dO
