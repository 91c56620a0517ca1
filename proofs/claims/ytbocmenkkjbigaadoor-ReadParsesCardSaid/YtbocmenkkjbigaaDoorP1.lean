/- Texts of the proof: Am11, Am12, Am13, Am14, Am15, Am16, Am17, AmE, AmA, AmA2, AmA3, AmA4, AmA5, Am18, Am19. -/
import Derived.Test.YtbocmenkkjbigaaDoorP0
import Derived.OrdersIn
import Derived.LoopNIn
import Derived.RangeFuncLeaves
import Derived.RangeFuncNested
import Derived.Laws.Sem
import Derived.Shelf.Abstract
set_option linter.all false
namespace Go.AM
open Go.RowKit
section
variable {CC:CX} {μ μ':Mu} {Mt Mt':Nat->Prop} {w w':World} {H H':Heap} {P:Program} [BtOk CC P]
def bai(h:HR CC μ Mt w H){t agg n}(hs:af2 P t=some (agg,n)){x v c}(hx:VR μ Mt w x c)(hv:abf H agg n x=some v):
 qb CC μ Mt w H ((do pure (.value (<- Instr.loadAt t c)):Sem Next).run P w) v H:=by
 obtain⟨r,h1,h2⟩:=atu (P:=P) hs h hx hv
 exact qb.still h h2 (by simp only[Sem.run_bind,h1,bm0,Sem.run_pure])
def a1s(h:HR CC μ Mt w H){t agg n base}(hs:af2 P t=some (agg,n)){x y c d}(hx:VR μ Mt w x c)(hy:VR μ Mt w y d)(hv:ak3 H base n y x=some H'):
 qb CC μ Mt w H ((do Instr.storeAt t c d;pure .skip:Sem Next).run P w) und H':=by
 obtain⟨_,h2,_⟩:=ajn hs;unfold ak3 at hv;split at hv
 case h_2=>cases hv
 rename_i id g off;split at hv
 case isFalse=>cases hv
 split at hv
 case h_2=>cases hv
 rename_i row hrow;split at hv
 case isFalse=>cases hv
 rename_i hcond;obtain⟨hn,hl,hone⟩:=hcond;cases hv;obtain⟨B,b,hm,rfl⟩:=aso hx;have hcv:=ab9 hy hone
 obtain⟨w1,hr,hp⟩:=akk (P:=P) h hrow hm (by rw[hn];exact hl) hcv hone
 refine⟨Go.undef,w1,_,_,.inr ⟨?_,rfl⟩,.s _,hp⟩
 have hsz:d.cells.size=n:=by rw[<- hn,hcv.1];simp
 simp only[Instr.storeAt,Instr.sureAddr,storeVar,Sem.run_bind,Sem.run_pure,bm0,run_sizeOf h2,Sem.run_ite,hsz,ne_eq,a1a,ky,hr]
def adp{a:Act}{fr:List V}(hf:FR μ Mt w fr a.tmps){x:Option Operand}{y:Option Opd}(hc:acv x=some y){d:Nat}{l:Int}(h:afh fr d y=some l):asc (x.map a.eval) d l:=by
 cases x with
 |none=>simp[acv]at hc;subst hc;simp[afh]at h;exact .inl ⟨rfl,h.symm⟩
 |some x=>
   simp only[acv,bu]at hc;obtain⟨z,hz,rfl⟩:=hc;have hv:=ni hf hz;simp only[afh]at h;unfold anz at h;split at h
   .rename_i k n e;rw[e]at hv;cases h
    exact .inr ⟨k,by simp[aa6 hv]⟩
   .cases h
def ayo{x c n}(hx:VR μ Mt w x c)(h:anz x=some n):∃k,c=.int k n:=by
 unfold anz at h;split at h
 .cases h;exact⟨_,aa6 hx⟩
 .cases h
set_option maxHeartbeats 1000000 in
def ann(h:HR CC μ Mt w H){a:Act}{fr:List V}(hf:FR μ Mt w fr a.tmps){pure':PX}{o:Oper}{aop:AOp}{call:o8}{base:Nat}{v:V}(hc:afk P pure' o=some aop)(hnc:aop.isCall=false)(hev:l8 call base fr H aop=some (v,H')):qb CC μ Mt w H ((execOp a.eval o).run P w) v H':=by
 obtain⟨dst,op,type,pos,after,guard⟩:=o;cases op<;>simp only[afk]at hc
 case move x=>
  rw[bu]at hc;obtain⟨y,hy,rfl⟩:=hc;cases hev;exact qb.still h (ni hf hy) rfl
 case assign x=>
  rw[bu]at hc;obtain⟨y,hy,rfl⟩:=hc;cases hev;exact qb.still h (ni hf hy) rfl
 case pick c x y=>
  simp only[fo,ak,iw]at hc;obtain⟨c',hc',x',hx',y',hy',e⟩:=hc;cases e;have hcv:=ni hf hc';simp only[l8]at hev;split at hev
  .rename_i e;rw[e]at hcv;cases hev
   exact qb.still h (ni hf hx') (by simp[execOp,aa6 hcv,asBool])
  .rename_i e;rw[e]at hcv;cases hev
   exact qb.still h (ni hf hy') (by simp[execOp,aa6 hcv,asBool])
  .cases hev
 case alloc t=>
  split at hc
  .rename_i z hz;split at hc
   .rename_i hbt;rw[bu]at hc;obtain⟨c,hc,rfl⟩:=hc;cases hev;exact(api hz hc (BtOk.ok _ hbt)).op h
   .cases hc;cases hev;exact a11 h hz
  .cases hc
 case box t x=>
  rw[bu]at hc;obtain⟨y,hy,rfl⟩:=hc;simp only[l8]at hev;split at hev
  .rename_i h1;cases hev;exact bd3 h (ni hf hy) h1
  .cases hev
 case build t parts=>
  simp only[fo,ak]at hc;obtain⟨z,hz,hc⟩:=hc;split at hc
  .rename_i fs ht;simp only[iw,ak]at hc;obtain⟨pl,hpl,qs,hqs,e⟩:=hc;cases e;simp only[l8]at hev;split at hev
   .rename_i cs hfill;cases hev;exact a10 h hf hz ht hpl hqs hfill
   .cases hev
  .cases hc
 case buildSlice t len parts=>
  simp only[fo,ak]at hc;obtain⟨e,he,sz,hsz,z,hz,hc⟩:=hc
  have ht:P.underlying t=some (.slice e):=by
   unfold ai6 at he;split at he
   .cases he;assumption
   .cases he
  split at hc
  .rename_i hcond;obtain⟨h0,hb,hzl⟩:=hcond;simp only[iw,ak]at hc;obtain⟨qs,hqs,e⟩:=hc;cases e;simp only[l8]at hev;split at hev
   .rename_i cs hfill;cases hev;exact ava h hf ht hsz hz h0 hb hzl hqs hfill
   .cases hev
  .cases hc
 case insert t m k x=>
  split at hc
  .rename_i kt e ht;simp only[fo,ak,iw]at hc;obtain⟨kind,hk,m',hm',k',hk',x',hx',e⟩:=hc;cases e;simp only[l8]at hev;split at hev
   .rename_i id key e1 e2;split at hev
    .rename_i hcond;split at hev
     .rename_i es hH;have hmv:=ni hf hm';have hkv:=ni hf hk';rw[e1]at hmv;rw[e2]at hkv;have:=ao8 h ht hk hmv (ni hf hx') hcond.2 hH hev
      simpa only[execOp,aa6 hkv]using this
     .cases hev
    .cases hev
   .cases hev
  .cases hc
 case mapUpdate t m k x=>
  split at hc
  .rename_i kt e ht;simp only[fo,ak,iw]at hc;obtain⟨kind,hk,m',hm',k',hk',x',hx',e⟩:=hc;cases e;simp only[l8]at hev;split at hev
   .rename_i id key e1 e2;split at hev
    .rename_i hcond;split at hev
     .rename_i es hH;have hmv:=ni hf hm';have hkv:=ni hf hk';rw[e1]at hmv;rw[e2]at hkv;have:=ao8 h ht hk hmv (ni hf hx') hcond.2 hH hev
      simpa only[execOp,aa6 hkv]using this
     .cases hev
    .cases hev
   .cases hev
  .cases hc
 case lookup t m k ok=>
  split at hc
  .rename_i kt e ht;simp only[fo,ak,iw]at hc;obtain⟨kind,hk,z,hz,m',hm',k',hk',e⟩:=hc;cases e;simp only[l8]at hev;split at hev
   .rename_i key e2;split at hev
    .rename_i hkey;have hkv:=ni hf hk';rw[e2]at hkv;have:=azo h ht hk hz (ni hf hm') hkey hev
     simpa only[execOp,aa6 hkv]using this
    .cases hev
   .cases hev
  .cases hc
 case load t x=>
  simp only[fo,ak,iw]at hc;obtain⟨⟨agg,n⟩,hs,x',hx',e⟩:=hc;cases e;simp only[l8,bu]at hev;obtain⟨r,hr,e⟩:=hev;cases e;exact bai h hs (ni hf hx') hr
 case store t x y=>
  simp only[fo,ak,iw]at hc;obtain⟨⟨agg,n⟩,hs,x',hx',y',hy',e⟩:=hc;cases e;simp only[l8,bu]at hev;obtain⟨r,hr,e⟩:=hev;cases e;exact a1s h hs (ni hf hx') (ni hf hy') hr
 case nilCheck x=>
  rw[bu]at hc;obtain⟨y,hy,rfl⟩:=hc;have hv:=ni hf hy;simp only[l8]at hev;split at hev
  .rename_i e;rw[e]at hv;cases hev;obtain⟨B,b,hm,ec⟩:=aso hv
   exact qb.still h hv (by simp[execOp,ec])
  .rename_i e;rw[e]at hv;cases hev;obtain⟨p,ec,_⟩:=akj hv
   exact qb.still h hv (by simp[execOp,ec])
  .rename_i f fst cap e;rw[e]at hv;cases hev;generalize hcv:a.eval x=c at hv;cases hv with
   |fn _ _ _ fst' cap' h1 h2 h3 h4=>exact qb.still h (.fn f fst cap fst' cap' h1 h2 h3 h4) (by simp[execOp,hcv])
  .rename_i id e;rw[e]at hv;cases hev;generalize hcv:a.eval x=c at hv;cases hv with
   |yld _ B hm=>exact qb.still h (.yld id B hm) (by simp[execOp,hcv])
  .cases hev
 case binOp op t x y ty=>
  unfold ar5 at hc;split at hc
  .rename_i neg k ho hn;rw[bu]at hc;obtain⟨x',hx',rfl⟩:=hc;simp only[l8]at hev;split at hev
   .rename_i b hb;cases hev;exact qb.still h (.s _) (as0 ho (ni hf hx') hb a.eval (fun _=>rfl) (.inl ⟨hn,rfl⟩))
   .cases hev
  .rename_i neg k ho _ hn;rw[bu]at hc;obtain⟨x',hx',rfl⟩:=hc;simp only[l8]at hev;split at hev
   .rename_i b hb;cases hev;exact qb.still h (.s _) (as0 ho (ni hf hx') hb a.eval (fun _=>rfl) (.inr ⟨hn,rfl⟩))
   .cases hev
  .split at hc
   .rename_i x' y' ht hx' hy';cases hc;simp only[l8]at hev;split at hev
    .rename_i p q e1 e2;rw[bu]at hev;obtain⟨r,hr,e⟩:=hev;cases e;have h1:=ni hf hx';have h2:=ni hf hy';rw[e1]at h1;rw[e2]at h2
     exact qb.still h (.s _) (by simp only[execOp,aa6 h1,aa6 h2];exact a2g hr)
    .cases hev
   .rename_i x' y' ht hx' hy';cases hc;simp only[l8]at hev;split at hev
    .rename_i p q e1 e2;rw[bu]at hev;obtain⟨r,hr,e⟩:=hev;cases e;have h1:=ni hf hx';have h2:=ni hf hy';rw[e1]at h1;rw[e2]at h2
     exact qb.still h (.s _) (by simp only[execOp,aa6 h1,aa6 h2];exact a2g hr)
    .cases hev
   .rename_i x' y' ht hx' hy';split at hc
    .rename_i neg ho;cases hc;simp only[l8]at hev;split at hev
     .rename_i p q e1 e2;cases hev;have h1:=ni hf hx';have h2:=ni hf hy';rw[e1]at h1;rw[e2]at h2
      exact qb.still h (.s _) (by simp only[execOp,aa6 h1,aa6 h2];exact bd6 ho ht)
     .cases hev
    .cases hc
   .rename_i e' x' y' ht hx' hy';split at hc
    .rename_i neg n ho hn;split at hc
     .rename_i h0;cases hc;simp only[l8]at hev;split at hev
      .rename_i i g o1 j h2' o2 e1 e2;split at hev
       .cases hev
       .rename_i hij;split at hev
        .rename_i c1 c2 hc1 hc2;cases hev;have h1:=ni hf hx';have h2:=ni hf hy';rw[e1]at h1;rw[e2]at h2;generalize k1:a.eval x=v1 at h1;generalize k2:a.eval y=v2 at h2;cases h1 with
         |ref _ _ _ B b hm=>cases h2 with
           |ref _ _ _ B' b' hm'=>
             obtain⟨arr,ty,hB,_⟩:=h.row hc1 hm;obtain⟨arr',ty',hB',_⟩:=h.row hc2 hm'
             have hne:(⟨B,b+o1,none⟩:Addr)≠⟨B',b'+o2,none⟩:=by
              intro e;have:B=B':=jv Addr.block e;subst this;exact hij (h.inj _ _ _ _ _ _ _ hm hm')
             exact qb.still h (.s _) (by simp only[execOp,k1,k2];exact bd5 ho ht hn h0 hne hB hB')
        .cases hev
      .cases hev
     .cases hc
    .cases hc
   .rename_i fs x' y' ht hx' hy';split at hc
    .rename_i neg ls ho hls;split at hc
     .cases hc
     .rename_i hg;cases hc;simp only[l8]at hev;split at hev
      .rename_i xs ys e1 e2;split at hev
       .rename_i b hb;cases hev;have h1:=ni hf hx';have h2:=ni hf hy';rw[e1]at h1;rw[e2]at h2;obtain⟨c1,k1,v1⟩:=a1l h1;obtain⟨c2,k2,v2⟩:=a1l h2
        exact qb.still h (.s _) (by simp only[execOp,k1,k2];exact a2f ho ht (by simpa using hg) hls v1 v2 hb)
       .cases hev
      .cases hev
    .cases hc
   .cases hc
 case unOp op t x=>
  simp only[fo]at hc
  have key:∀x',lc x=some x'->aop=.un op x'->qb CC μ Mt w H ((execOp a.eval ⟨dst,.unOp op t x,type,pos,after,guard⟩).run P w) v H':=by
   intro x' hx' he;subst he;have hv:=ni hf hx';simp only[l8]at hev;split at hev
   .rename_i b e;rw[e]at hv;cases hev
    exact qb.still h (.s _) (by simp[execOp,aa6 hv,Op.unary])
   .rename_i k n e;rw[e]at hv;cases hev
    exact qb.still h (.s _) (by simp[execOp,aa6 hv,Op.unary,Op.intArith])
   .rename_i k n e;rw[e]at hv;rw[bu]at hev;obtain⟨r,hr,e⟩:=hev;cases e;simp only[ag9,ne_eq,a1a,ky,je]at hr;subst hr
    exact qb.still h (.s _) (by simp[execOp,aa6 hv,Op.unary,Op.intBits])
   .cases hev
  cases op
  case plus=>cases hc
  all_goals
   rw[ak]at hc;obtain⟨x',hx',e⟩:=hc;cases e;exact key x' hx' rfl
 case convert src dst' x=>
  split at hc
  .rename_i k1 k2 hs hd;rw[bu]at hc;obtain⟨x',hx',rfl⟩:=hc;have hv:=ni hf hx';simp only[l8]at hev;split at hev
   .rename_i q n e;rw[e]at hv;cases hev
    exact qb.still h (.s _) (by simp[execOp,aa6 hv,convert,run_underlying hs,run_underlying hd,Conv.intToInt])
   .cases hev
  .rename_i hs hd;rw[bu]at hc;obtain⟨x',hx',rfl⟩:=hc;have hv:=ni hf hx';simp only[l8]at hev;split at hev
   .rename_i q e;rw[e]at hv;cases hev
    exact qb.still h (.s _) (by simp[execOp,aa6 hv,convert,run_underlying hs,run_underlying hd])
   .cases hev
  .rename_i e hs hd;split at hc
   .rename_i he;rw[bu]at hc;obtain⟨x',hx',rfl⟩:=hc;have hv:=ni hf hx';simp only[l8,bu]at hev;obtain⟨r,hr,e0⟩:=hev;cases e0;exact a8d h hs hd he hv hr rfl rfl
   .cases hc
  .cases hc
 case makeFunc fn first cap=>
  cases fn<;>simp only at hc
  case func f=>
   simp only[fo,ak,iw]at hc;obtain⟨x,hx,y,hy,e⟩:=hc;cases e;cases hev;have h1:=akn hf hx;have h2:=akn hf hy
   refine qb.still h (c:=.func (.func f) (first.map a.eval) (cap.map a.eval)) (.fn f _ _ _ _ (by simpa using h1.1) (by simpa using h2.1) (fun i p q hp hq=>h1.2 i p q hp (by simpa using hq)) (fun i p q hp hq=>h2.2 i p q hp (by simpa using hq))) rfl
  all_goals cases hc
 case makeMap t r=>
  cases r<;>simp only at hc
  .cases hc;cases hev;exact azn h t
  .cases hc
 case makeSlice t x y=>
  simp only[fo,ak]at hc;obtain⟨e,he,i,hi,z,hz,hc⟩:=hc
  have ht:P.underlying t=some (.slice e):=by
   unfold ai6 at he;split at he
   .cases he;assumption
   .cases he
  split at hc
  .rename_i hcond;simp only[iw,ak]at hc;obtain⟨x',hx',y',hy',e⟩:=hc;cases e;simp only[l8]at hev;split at hev
   .rename_i k1 l k2 c e1 e2;split at hev
    .rename_i hb;cases hev;have h1:=ni hf hx';have h2:=ni hf hy';rw[e1]at h1;rw[e2]at h2;have:=a8b (k1:=k1) (k2:=k2) h ht hi hz hcond.1 hcond.2.1 hcond.2.2 hb.1 hb.2.1 hb.2.2
     simpa only[execOp,aa6 h1,aa6 h2]using this
    .cases hev
   .cases hev
  .cases hc
 case slice t x lo hi mx=>
  split at hc
  .rename_i ht;cases mx<;>simp only at hc
   .simp only[fo,ak,iw]at hc;obtain⟨x',hx',lo',hlo',hi',hhi',e⟩:=hc;cases e;simp only[l8]at hev;split at hev
    .rename_i b e1;split at hev
     .rename_i l hh el eh;split at hev
      .rename_i hcond;cases hev;have h1:=ni hf hx';rw[e1]at h1;have:=azv (P:=P) (w:=w) ht (adp hf hlo' el) (adp hf hhi' eh) hcond.1 hcond.2.1 hcond.2.2
       exact qb.still h (.s _) (by simpa only[execOp,aa6 h1,ab0]using this)
      .cases hev
     .cases hev
    .cases hev
   .cases hc
  .rename_i e ht;simp only[fo,ak]at hc;obtain⟨sz,hsz,hc⟩:=hc;split at hc
   .simp only[iw,ak]at hc;obtain⟨x',hx',lo',hlo',hi',hhi',mx',hmx',e⟩:=hc;cases e;have h1:=ni hf hx';simp only[l8]at hev;cases mx with
    |none=>
      simp[acv]at hmx';subst hmx';simp only at hev
      haveI:∀(d hh:Int),Decidable (asc (hi.map a.eval) d hh):=fun _ _=>Classical.propDecidable _
      have run:∀(l hh:Int) (u:V),asc (lo.map a.eval) 0 l->(match ev fr x' with
       |.s (.slice none 0 0)=>if asc (hi.map a.eval) 0 hh/\l=0/\hh=0 then some ow else none
       |.esl=>if asc (hi.map a.eval) 0 hh/\l=0/\hh=0 then some .esl else none
       |.psl es sz'=>if asc (hi.map a.eval) es.length hh/\0<=l/\l<=hh/\hh<=es.length/\sz'=sz then some (V.psl ((es.drop l.toNat).take (hh-l).toNat) sz)else none
       |.sl id g off len sz'=>if asc (hi.map a.eval) len hh/\0<=l/\l<=hh/\hh<=len/\sz'=sz then some (V.sl id g (off+l.toNat*sz) (hh-l).toNat sz)else none
       |_=>none)=some u->qb CC μ Mt w H ((execOp a.eval ⟨dst,.slice t x lo hi none,type,pos,after,guard⟩).run P w) u H:=by
       intro l hh u hl he;have:=a1x h ht hsz h1 hl (hi:=hi.map a.eval) (hh:=hh) he
       simpa only[execOp,ab0]using this
      split at hev
      .rename_i e1;split at hev
       .rename_i el eh;cases hev
        exact run 0 0 _ (adp hf hlo' el) (by rw[e1];simp only;rw[dw ⟨adp hf hhi' eh,by trivial,by trivial⟩])
       .cases hev
      .rename_i e1;split at hev
       .rename_i el eh;cases hev
        exact run 0 0 _ (adp hf hlo' el) (by rw[e1];simp only;rw[dw ⟨adp hf hhi' eh,by trivial,by trivial⟩])
       .cases hev
      .rename_i es sz' e1;split at hev
       .rename_i l hh el eh;split at hev
        .rename_i hcond;cases hev
         exact run l hh _ (adp hf hlo' el) (by rw[e1];simp only;rw[dw ⟨adp hf hhi' eh,hcond⟩])
        .cases hev
       .cases hev
      .rename_i id g off len sz' e1;split at hev
       .rename_i l hh el eh;split at hev
        .rename_i hcond;cases hev
         exact run l hh _ (adp hf hlo' el) (by rw[e1];simp only;rw[dw ⟨adp hf hhi' eh,hcond⟩])
        .cases hev
       .cases hev
      .cases hev
    |some m=>
      simp only[acv,bu]at hmx';obtain⟨m',hm',rfl⟩:=hmx';simp only at hev;split at hev
      .rename_i h' eh el;cases hi with
       |none=>simp[acv]at hhi'
       |some hi=>
         simp only[acv,bu]at hhi';obtain⟨h'',hh'',e⟩:=hhi';cases e;split at hev
         .rename_i e1 e2;obtain⟨k1,c1⟩:=ayo (ni hf hh'') e1;obtain⟨k2,c2⟩:=ayo (ni hf hm') e2;have:=azm (k1:=k1) (k2:=k2) h ht hsz h1 (adp hf hlo' el) hev
          simpa only[execOp,mh,c1,c2]using this
         .cases hev
      .cases hev
   .cases hc
  .cases hc
 case fieldAddr t x f=>
  split at hc
  .rename_i fs ht;simp only[fo,ak]at hc;obtain⟨fd,hfd,n,hn,hc⟩:=hc;split at hc
   .rename_i h0;simp only[iw,ak]at hc;obtain⟨x',hx',e⟩:=hc;cases e;simp only[l8]at hev;exact aqf h ht hfd hn h0 (ni hf hx') hev
   .cases hc
  .cases hc
 case field t x f=>
  split at hc
  .rename_i fs ht;simp only[fo,ak,iw]at hc;obtain⟨fd,hfd,⟨agg,n⟩,hs,x',hx',e⟩:=hc;cases e;simp only[l8]at hev;split at hev
   .rename_i cs e1;split at hev
    .rename_i hl;rw[bu]at hev;obtain⟨u,hu,e⟩:=hev;cases e;have h1:=ni hf hx';rw[e1]at h1;exact a1y h ht hfd hs h1 hl hu
    .cases hev
   .cases hev
  .cases hc
 case indexAddr t x i=>
  simp only[fo,ak]at hc;obtain⟨e,he,sz,hsz,hc⟩:=hc
  have ht:P.underlying t=some (.slice e):=by
   unfold ai6 at he;split at he
   .cases he;assumption
   .cases he
  split at hc
  .simp only[iw,ak]at hc;obtain⟨x',hx',i',hi',e⟩:=hc;cases e;have h1:=ni hf hx';have h2:=ni hf hi';simp only[l8]at hev;split at hev
   .rename_i id g off len sz' k n e1 e2;rw[e1]at h1;rw[e2]at h2;have:=aij (k:=k) (n:=n) h ht hsz h1 hev
    simpa only[execOp,aa6 h2]using this
   .rename_i es sz' k n e1 e2;rw[e1]at h1;rw[e2]at h2;have:=aij (k:=k) (n:=n) h ht hsz h1 hev
    simpa only[execOp,aa6 h2]using this
   .cases hev
  .cases hc
 case index t x i=>
  split at hc
  .rename_i ht;simp only[fo,ak,iw]at hc;obtain⟨x',hx',i',hi',e⟩:=hc;cases e;have h1:=ni hf hx';have h2:=ni hf hi';simp only[l8]at hev;split at hev
   .rename_i b k n e1 e2;rw[e1]at h1;rw[e2]at h2;split at hev
    .rename_i h0;split at hev
     .rename_i c hcc;cases hev;have:=asz (P:=P) (w:=w) (k:=k) ht h0 hcc
      exact qb.still h (.s _) (by simpa only[execOp,aa6 h1,aa6 h2]using this)
     .cases hev
    .cases hev
   .cases hev
  .cases hc
 case extract x i=>
  rw[bu]at hc;obtain⟨y,hy,rfl⟩:=hc;have hv:=ni hf hy;simp only[l8]at hev;split at hev
  .rename_i vs e1;rw[e1]at hv;split at hev
   .rename_i u hu;cases hev;obtain⟨cs,ec,hcs⟩:=bih hv;obtain⟨b,hb,hvb⟩:=hcs.get hu
    have hb':cs[i]?=some b:=by simpa using hb
    exact qb.still h hvb (by simp[execOp,ec,Instr.extract,hb'])
   .cases hev
  .cases hev
 case call c=>
  obtain⟨callee,args,argTypes⟩:=c;cases callee<;>simp only at hc
  case value f=>
   simp only[fo,ak]at hc;obtain⟨xs,hxs,hc⟩:=hc;split at hc
   .split at hc
    .cases hc;simp[AOp.isCall]at hnc
    .simp only[iw,ak]at hc;obtain⟨y,hy,e⟩:=hc;cases e;simp[AOp.isCall]at hnc
   .simp only[iw,ak]at hc;obtain⟨y,hy,e⟩:=hc;cases e;simp[AOp.isCall]at hnc
  case invoke=>cases hc
  case builtin b=>
   have hexec:∀b,execOp a.eval ⟨dst,.call { callee:=.builtin b,args,argTypes },type,pos,after,guard⟩=builtin b argTypes type (args.map fun|.const _=>true|_=>false) (args.map a.eval):=fun _=>rfl
   rw[hexec];split at hc
   .rename_i x t ha hat
    have hargs:args.map a.eval=#[a.eval x]:=by
     apply xz;simp[ha]
    have hat0:argTypes[0]?=some t:=by
     have:argTypes.toList[0]?=some t:=by rw[hat];rfl
     simpa using this
    rw[hargs];have len1:∀(d:TypeDesc) (c:Value) (n:Int),P.underlying t=some d->a.eval x=c->(Builtin.len_ argTypes type #[c]).run P w=.ok (goInt n) w->
     qb CC μ Mt w H ((builtin .len argTypes type (args.map fun|.const _=>true|_=>false) #[a.eval x]).run P w) (i64 n) H:=by
     intro d c n _ hcx hr;refine qb.still h (c:=.int .i64 n) (.s _) ?_;rw[hcx]
     show((do pure (.value (<- Builtin.len_ argTypes type #[c])):Sem Next).run P w)=_
     simp only[Sem.run_bind,hr,bm0,Sem.run_pure];rfl
    split at hc
    .rename_i ht;rw[bu]at hc;obtain⟨x',hx',rfl⟩:=hc;have hv:=ni hf hx';simp only[l8]at hev
     split at hev<;>try cases hev
     all_goals rename_i e1 e2;try cases e1
     all_goals
      rw[e2]at hv
      exact len1 _ _ _ ht (aa6 hv) (by simp[Builtin.len_,hat0,run_underlying ht])
    .rename_i el ht;rw[bu]at hc;obtain⟨x',hx',rfl⟩:=hc;have hv:=ni hf hx';simp only[l8]at hev;split at hev
     .rename_i e1 _;cases e1
     .rename_i e2;rw[e2]at hv;cases hev
      exact len1 _ _ _ ht (aa6 hv) (by simp[Builtin.len_,hat0,run_underlying ht])
     .rename_i e1 _;cases e1
     .rename_i e2;rw[e2]at hv;cases hev;generalize hcv:a.eval x=c at hv;cases hv with
      |esl ad=>rw[<- hcv];exact len1 _ _ _ ht hcv (by simp[Builtin.len_,hat0,run_underlying ht])
     .rename_i es sz e2;rw[e2]at hv;cases hev;generalize hcv:a.eval x=c at hv;cases hv with
      |psl _ _ B o cap arr e fr hB hM hc hz hs hvv=>rw[<- hcv];exact len1 _ _ _ ht hcv (by simp[Builtin.len_,hat0,run_underlying ht])
      |psl0 _ cap ad=>rw[<- hcv];exact len1 _ _ _ ht hcv (by simp[Builtin.len_,hat0,run_underlying ht])
     .rename_i id g off len sz e2;rw[e2]at hv;cases hev;generalize hcv:a.eval x=c at hv;cases hv with
      |sl _ _ _ _ _ B b cap arr e hm hB hcap hs=>rw[<- hcv];exact len1 _ _ _ ht hcv (by simp[Builtin.len_,hat0,run_underlying ht])
      |sl0 _ _ _ _ B b ad hm=>rw[<- hcv];exact len1 _ _ _ ht hcv (by simp[Builtin.len_,hat0,run_underlying ht])
     .rename_i e1 _;cases e1
     .cases hev
    .rename_i k el ht;rw[bu]at hc;obtain⟨x',hx',rfl⟩:=hc;have hv:=ni hf hx';simp only[l8]at hev;split at hev
     .rename_i e1 _;cases e1
     .rename_i e1 _;cases e1
     .rename_i e2;rw[e2]at hv;cases hev
      exact len1 _ _ _ ht (aa6 hv) (by simp[Builtin.len_,hat0,run_underlying ht])
     .rename_i e1 _;cases e1
     .rename_i e1 _;cases e1
     .rename_i e1 _;cases e1
     .rename_i id e2;rw[e2]at hv;split at hev
      .rename_i es hH;cases hev;obtain⟨B,hm,ec⟩:=a7t hv;obtain⟨arr,clock,hB,hR⟩:=h.mapAt hH hm
       have hl:es.length=arr.size:=by simpa using hR.1
       exact len1 _ _ _ ht ec (by simp[Builtin.len_,hat0,run_underlying ht,run_getObj_map hB,hl])
      .cases hev
     .cases hev
    .cases hc
   .rename_i s x t t' ha hat
    have hargs:args.map a.eval=#[a.eval s,a.eval x]:=by
     apply xz;simp[ha]
    have hat0:argTypes[0]?=some t:=by
     have:argTypes.toList[0]?=some t:=by rw[hat];rfl
     simpa using this
    have hat1:argTypes[1]?=some t':=by
     have:argTypes.toList[1]?=some t':=by rw[hat];rfl
     simpa using this
    rw[hargs];simp only[fo,ak]at hc;obtain⟨e,he,i,hi,z,hz,hc⟩:=hc
    have ht:P.underlying t=some (.slice e):=by
     unfold ai6 at he;split at he
     .cases he;assumption
     .cases he
    have fin:((∃e',P.underlying t'=some (.slice e'))\/P.underlying t'=some .string)->(if 0<i.size/\0<i.bytes/\z.cells.length=i.size then(do return AOp.append i.size (apy P e i.bytes) (<- lc s) (<- lc x))else none)=some aop->
     qb CC μ Mt w H ((builtin .append argTypes type (args.map fun|.const _=>true|_=>false) #[a.eval s,a.eval x]).run P w) v H':=by
     intro ht' hc;split at hc
     .rename_i hcond;simp only[fo,iw,ak]at hc;obtain⟨s',hs',x',hx',e⟩:=hc;cases e;exact azq h hat0 hat1 ht ht' hi hz hcond.2.2 hcond.1 hcond.2.1 (a6w P e i.bytes) (a6v P hcond.2.1) (ni hf hs') (ni hf hx') hev
     .cases hc
    split at hc
    .rename_i e' ht';exact fin (.inl ⟨e',ht'⟩) hc
    .rename_i ht';exact fin (.inr ht') hc
    .cases hc
   .rename_i m k t t' ha hat
    have hargs:args.map a.eval=#[a.eval m,a.eval k]:=by
     apply xz;simp[ha]
    have hat0:argTypes[0]?=some t:=by
     have:argTypes.toList[0]?=some t:=by rw[hat];rfl
     simpa using this
    rw[hargs];split at hc
    .rename_i kt e ht;simp only[fo,ak,iw]at hc;obtain⟨kind,hk,m',hm',k',hk',e⟩:=hc;cases e;simp only[l8]at hev;split at hev
     .rename_i id key e1 e2;split at hev
      .rename_i hcond;split at hev
       .rename_i es hH;have hmv:=ni hf hm';have hkv:=ni hf hk';rw[e1]at hmv;rw[e2]at hkv;rw[aa6 hkv];exact azp h hat0 ht hk hmv hcond.2 hH hev
       .cases hev
      .cases hev
     .cases hev
    .cases hc
   .rename_i x t ha hat
    have hargs:args.map a.eval=#[a.eval x]:=by
     apply xz;simp[ha]
    have hat0:argTypes[0]?=some t:=by
     have:argTypes.toList[0]?=some t:=by rw[hat];rfl
     simpa using this
    rw[hargs];simp only[fo,ak,iw]at hc;obtain⟨e,he,sz,hsz,z,hz,hc⟩:=hc;split at hc
    .rename_i hcond;simp only[ak]at hc;obtain⟨x',hx',e1⟩:=hc;cases e1
     have ht:P.underlying t=some (.slice e):=by
      unfold ai6 at he;split at he
      .rename_i e2 h2;cases he;exact h2
      .cases he
     exact a1z h hat0 ht hz hcond.1 hcond.2 (base:=base) hev (ni hf hx')
    .cases hc
   .rename_i d s t t' ha hat
    have hargs:args.map a.eval=#[a.eval d,a.eval s]:=by
     apply xz;simp[ha]
    have hat0:argTypes[0]?=some t:=by
     have:argTypes.toList[0]?=some t:=by rw[hat];rfl
     simpa using this
    rw[hargs];simp only[fo,ak,iw]at hc;obtain⟨e,he,sz,hsz,hc⟩:=hc;split at hc
    .split at hc
     .rename_i hcond;simp only[ak]at hc;obtain⟨d',hd',s',hs',e1⟩:=hc;cases e1
      have ht:P.underlying t=some (.slice e):=by
       unfold ai6 at he;split at he
       .rename_i e2 h2;cases he;exact h2
       .cases he
      exact a8c h hat0 ht hsz hcond (base:=base) hev (ni hf hd') (ni hf hs')
     .cases hc
    .cases hc
   .rename_i x y ha
    have hargs:args.map a.eval=#[a.eval x,a.eval y]:=by
     apply xz;simp[ha]
    rw[hargs];simp only[fo,ak,iw]at hc;obtain⟨x',hx',y',hy',e⟩:=hc;cases e;have h1:=ni hf hx';have h2:=ni hf hy';simp only[l8]at hev;split at hev
    .rename_i k p k' q e1 e2;split at hev
     .rename_i hk;cases hev;rw[e1]at h1;rw[e2]at h2;rw[aa6 h1,aa6 h2]
      exact qb.still h (.s _) (by simp[builtin,Builtin.min_,Builtin.min2])
     .cases hev
    .cases hev
   .rename_i x y ha
    have hargs:args.map a.eval=#[a.eval x,a.eval y]:=by
     apply xz;simp[ha]
    rw[hargs];simp only[fo,ak,iw]at hc;obtain⟨x',hx',y',hy',e⟩:=hc;cases e;have h1:=ni hf hx';have h2:=ni hf hy';simp only[l8]at hev;split at hev
    .rename_i k p k' q e1 e2;split at hev
     .rename_i hk;cases hev;rw[e1]at h1;rw[e2]at h2;rw[aa6 h1,aa6 h2]
      exact qb.still h (.s _) (by simp[builtin,Builtin.max_,Builtin.max2])
     .cases hev
    .cases hev
   .cases hc
 all_goals cases hc
def bja{a:Act}{fr:List V}(hf:FR μ Mt w fr a.tmps){pure':PX}{o:Oper}{aop:AOp}{call:o8}{base:Nat}{v:V}(hc:afk P pure' o=some aop)(hn:aop.isNew=true)(hev:l8 call base fr H aop=some (v,H')):∃vf ob,v=vf H.length/\H'=H++[ob]/\ob.cur 0/\(∀m id,id<m->VW m (vf id))/\ahc CC μ Mt w ((execOp a.eval o).run P w) vf ob:=by
 obtain⟨dst,op,type,pos,after,guard⟩:=o;have rf:∀m id,id<m->VW m (V.ref id 0 0):=fun m id h=>.ref _ _ _ h;have old:afk P pure' { dst:=dst,op:=op,type:=type,pos:=pos,after:=after,guard:=guard }=some aop:=hc;cases op<;>simp only[afk]at hc
 case alloc t=>
  split at hc
  .rename_i z hz;split at hc
   .rename_i hbt;rw[bu]at hc;obtain⟨c,hc,rfl⟩:=hc;cases hev;exact⟨_,_,rfl,rfl,rfl,rf,api hz hc (BtOk.ok _ hbt)⟩
   .cases hc;cases hev;exact⟨_,_,rfl,rfl,rfl,rf,atl hz⟩
  .cases hc
 case box t x=>
  rw[bu]at hc;obtain⟨y,hy,rfl⟩:=hc;simp only[l8]at hev;split at hev
  .rename_i h1;cases hev;exact⟨_,_,rfl,rfl,rfl,rf,a3z (ni hf hy) h1⟩
  .cases hev
 case buildSlice t len parts=>
  simp only[fo,ak]at hc;obtain⟨e,he,sz,hsz,z,hz,hc⟩:=hc
  have ht:P.underlying t=some (.slice e):=by
   unfold ai6 at he;split at he
   .cases he;assumption
   .cases he
  split at hc
  .rename_i hcond;obtain⟨h0,hb,hzl⟩:=hcond;simp only[iw,ak]at hc;obtain⟨qs,hqs,e⟩:=hc;cases e;simp only[l8]at hev;split at hev
   .rename_i cs hfill;cases hev
    exact⟨fun id=>if len=0 then .esl else .sl id 0 0 len sz,_,rfl,rfl,rfl,fun m id h=>by dsimp only;split;exact .esl;exact .sl _ _ _ _ _ h,ant hf ht hsz hz h0 hb hzl hqs hfill⟩
   .cases hev
  .cases hc
 case makeMap t r=>
  cases r<;>simp only at hc
  .cases hc;cases hev;exact⟨_,_,rfl,rfl,rfl,fun m id h=>.mp _ h,aph t⟩
  .cases hc
 case makeSlice t x y=>
  simp only[fo,ak]at hc;obtain⟨e,he,i,hi,z,hz,hc⟩:=hc
  have ht:P.underlying t=some (.slice e):=by
   unfold ai6 at he;split at he
   .cases he;assumption
   .cases he
  split at hc
  .rename_i hcond;simp only[iw,ak]at hc;obtain⟨x',hx',y',hy',e⟩:=hc;cases e;simp only[l8]at hev;split at hev
   .rename_i k1 l k2 c e1 e2;split at hev
    .rename_i hb;cases hev;have h1:=ni hf hx';have h2:=ni hf hy';rw[e1]at h1;rw[e2]at h2;have:=ayi (CC:=CC) (μ:=μ) (Mt:=Mt) (w:=w) (k1:=k1) (k2:=k2) ht hi hz hcond.1 hcond.2.1 hcond.2.2 hb.1 hb.2.1 hb.2.2;refine⟨fun id=>.sl id 0 0 l.toNat i.size,_,rfl,rfl,rfl,fun m id h=>.sl _ _ _ _ _ h,?_⟩
     simpa only[execOp,aa6 h1,aa6 h2]using this
    .cases hev
   .cases hev
  .cases hc
 all_goals
  exfalso;revert hn
  have hk:aop.isNew=false:=by
   clear hev old
   repeat' (first|contradiction|rfl|(unfold ar5 at hc)|(cases hc;done)|(cases hc;rfl)|(rw[bu]at hc;obtain⟨_,_,rfl⟩:=hc)|(obtain⟨_,_,hc⟩:=hc)|(split at hc)|(simp only[fo,ak,iw,je]at hc))
  rw[hk];intro h;cases h
def a03{pure':PX}{o aop}(hc:afk P pure' o=some aop)(hn:aop.isSt=true):∃n a x y,aop=.store n a x/\lc y=some a:=by
 obtain⟨dst,op,type,pos,after,guard⟩:=o;cases op<;>simp only[afk]at hc
 case store t a x=>
  simp only[fo,ak,iw,je]at hc;obtain⟨_,_,a',ha,x',hx,rfl⟩:=hc;exact⟨_,_,_,_,rfl,ha⟩
 all_goals
  exfalso;revert hn
  have hk:aop.isSt=false:=by
   repeat' (first|contradiction|rfl|(unfold ar5 at hc)|(cases hc;done)|(cases hc;rfl)|(rw[bu]at hc;obtain⟨_,_,rfl⟩:=hc)|(obtain⟨_,_,hc⟩:=hc)|(split at hc)|(simp only[fo,ak,iw,je]at hc))
  rw[hk];intro h;cases h
end
def Fw(ro:Option Nat):Fence:={ fn:=fun _=>True,depth:=none,alive:=false,round:=ro }
section
variable {CC:CX} {μ μ':Mu} {Mt Mt':Nat->Prop} {w w':World} {H H':Heap} {P:Program} [BtOk CC P]
def ar9(CC:CX)(μ:Mu)(Mt:Nat->Prop)(w:World)(H:Heap)(r:V)(H':Heap)(e:Ending)(w':World):Prop:=
 ∃c μ' Mt',e=.returned c/\VR μ' Mt' w' r c/\Post CC μ Mt w H μ' Mt' w' H'
structure SimCall (P:Program) (CC:CX) (call:o8):Prop where
 fn:∀(f:Nat) (fst cap args:List V) (base:Nat) (H:Heap) (r:V) (H':Heap),call (.fn f fst cap) args base H=some (r,H')->
  (∀xs w,(callFunc f xs).run P w=.ok (.enter f xs) w)/\
  ∀(μ:Mu) (Mt:Nat->Prop) (w:World) (cs:List Value),HR CC μ Mt w H->VRs μ Mt w (fst++args++cap) cs->∀n,CallsIn Fence.wide n P f cs.toArray w (ar9 CC μ Mt w H r H')
 yld:∀(id:Nat) (args:List V) (base:Nat) (H:Heap) (r:V) (H':Heap),call (.yld id) args base H=some (r,H')->
  ∀(μ:Mu) (Mt:Nat->Prop) (w:World) (cs:List Value) (B:Nat),HR CC μ Mt w H->VRs μ Mt w args cs->μ id 0=some (B,0)->
    ∃f tmps assign body,(Instr.yield B cs.toArray).run P w=.ok (.round B f tmps assign body) w/\∀n,RoundIn Fence.wide n P B f tmps assign body w (ar9 CC μ Mt w H r H')
 other:∀v args base H,(∀f a b,v≠.fn f a b)->(∀id,v≠.yld id)->call v args base H=none
 floor:∀v args base H r H',call v args base H=some (r,H')->H.length<=H'.length/\∀id,id<base->id<H.length->H'[id]?=H[id]?
def a7r{call:o8}(hs:SimCall P CC call)(h:HR CC μ Mt w H){f:V}{fc:Value}{args:List V}{cargs:Array Value}{base:Nat}{v:V}(hf:VR μ Mt w f fc)(ha:VRs μ Mt w args cargs.toList)(hev:call f args base H=some (v,H')){ro:Option Nat}{n:Nat}{o:Oper}{a:Act}{c:Call}{next:Act->World->Prop}{Q:Exit->Act->World->Prop}(ho:o.op=.call c){g:Operand}(hg:c.callee=.value g)(hgv:a.eval g=fc)(hargs:c.args.map a.eval=cargs)(hnext:∀r w',ar9 CC μ Mt w H v H' (.returned r) w'->next (a.put o.dst r) w'):o.wpIn (Fw ro) n P a w next Q:=by
 refine⟨fun _ _=>trivial,?_⟩
 rw[Oper.semAt_eq _ _ _ (by simp[ho])]
 have hexec:execOp a.eval o=(do let d <- resolve a.eval c o.type;invoke d.target d.args):=by
  unfold execOp;rw[ho]
 rw[hexec];by_cases hfn:∃k x y,f=.fn k x y
 .obtain⟨k,x,y,rfl⟩:=hfn;cases hf with
  |fn _ _ _ fst' cap' h1 h2 h3 h4=>
    obtain⟨hent,hcall⟩:=hs.fn k x y args base H v H' hev
    have hvs:VRs μ Mt w (x++args++y) (fst'++cargs++cap').toList:=by
     have hx:VRs μ Mt w x fst'.toList:=⟨by simpa using h1,fun i p q hp hq=>h3 i p q hp (by simpa using hq)⟩
     have hy:VRs μ Mt w y cap'.toList:=⟨by simpa using h2,fun i p q hp hq=>h4 i p q hp (by simpa using hq)⟩
     simpa using(hx.append ha).append hy
    have hrun:(do let d <- resolve a.eval c o.type;invoke d.target d.args:Sem Next).run P w=.ok (.enter k (fst'++cargs++cap')) w:=by
     simp only[resolve,hg,hgv,hargs,Deferred.ofValue,Sem.run_bind,Sem.run_pure,bm0,invoke,hent]
    rw[hrun];have hc:=hcall μ Mt w _ h hvs (n-1);simp only[xh]at hc
    refine⟨fun h=>by simp[Fw]at h,hc.mono ?_⟩
    rintro e w1 ⟨r,μ1,Mt1,rfl,hr,hp⟩;exact hnext r w1 ⟨r,μ1,Mt1,rfl,hr,hp⟩
 .by_cases hyl:∃id,f=.yld id
  .obtain⟨id,rfl⟩:=hyl;cases hf with
   |yld _ B hm=>
     obtain⟨k,tmps,assign,body,hy,hround⟩:=hs.yld id args base H v H' hev μ Mt w cargs.toList B h ha hm
     have hrun:(do let d <- resolve a.eval c o.type;invoke d.target d.args:Sem Next).run P w=.ok (.round B k tmps assign body) w:=by
      simp only[resolve,hg,hgv,hargs,Deferred.ofValue,Sem.run_bind,Sem.run_pure,bm0,invoke,Array.empty_append]
      simpa using hy
     rw[hrun]
     refine⟨fun h=>by simp[Fw]at h,(hround (n-1)).mono ?_⟩
     rintro e w1 ⟨r,μ1,Mt1,rfl,hr,hp⟩;exact hnext r w1 ⟨r,μ1,Mt1,rfl,hr,hp⟩
  .have:=hs.other f args base H (fun k x y e=>hfn ⟨k,x,y,e⟩) (fun id e=>hyl ⟨id,e⟩);rw[this]at hev;cases hev
def aiv{f:V->Option V}:∀{l us:List V},l.mapM f=some us->us.length=l.length/\∀(i:Nat) (u:V),us[i]?=some u->∃v,l[i]?=some v/\f v=some u:=by
 intro l
 induction l with
 |nil=>intro us h;simp at h;subst h;exact⟨rfl,fun i u h=>by simp at h⟩
 |cons x l ih=>
   intro us h;simp only[qf,iw,fo,ak]at h;obtain⟨v,hv,us',hus,e⟩:=h;cases e;obtain⟨h1,h2⟩:=ih hus
   refine⟨by simp[h1],fun i u hu=>?_⟩
   cases i with
   |zero=>simp at hu;subst hu;exact⟨x,rfl,hv⟩
   |succ i=>simp at hu;obtain⟨v',e1,e2⟩:=h2 i u hu;exact⟨v',by simpa using e1,e2⟩
def a5k(h:HR CC μ Mt w H)(hM:∀B,¬Mt B->¬Mt' B)(hn:∀id g B b,μ id g=some (B,b)->¬Mt' B):∀(n:Nat) {v u:V} {c:Value},VR μ Mt w v c->frz H n v=some u->PR Mt' w u c:=by
 intro n
 induction n with
 |zero=>intro v u c _ hf;simp[frz]at hf
 |succ n ih=>
   intro v u c hv hf;have lists:∀{cs us:List V} {vs:Array Value},cs.length=vs.size->(∀(i:Nat) (a:V) (b:Value),cs[i]?=some a->vs[i]?=some b->VR μ Mt w a b)->cs.mapM (frz H n)=some us->
    us.length=vs.size/\∀(i:Nat) (a:V) (b:Value),us[i]?=some a->vs[i]?=some b->PR Mt' w a b:=by
    intro cs us vs hl hvs hm;obtain⟨h1,h2⟩:=aiv hm
    refine⟨by rw[h1,hl],fun i a b ha hb=>?_⟩
    obtain⟨x,hx,hfx⟩:=h2 i a ha;exact ih (hvs i x b hx hb) hfx
   cases hv with
   |s x=>simp[frz]at hf;subst hf;exact .s _
   |unk=>simp[frz]at hf
   |agg cs vs hl hvs=>
     simp only[frz,bu]at hf;obtain⟨us,hus,rfl⟩:=hf;obtain⟨h1,h2⟩:=lists hl hvs hus;exact .agg us vs h1 h2
   |tup cs vs hl hvs=>
     simp only[frz,bu]at hf;obtain⟨us,hus,rfl⟩:=hf;obtain⟨h1,h2⟩:=lists hl hvs hus;exact .tup us vs h1 h2
   |ref id g off B b hm=>
     simp only[frz]at hf;split at hf
     .rename_i row hrow;split at hf
      case isFalse=>cases hf
      rename_i hoff;simp only[bu]at hf;obtain⟨us,hus,rfl⟩:=hf;obtain⟨arr,e,hB,hs,hr⟩:=h.row hrow hm;obtain⟨h1,h2⟩:=aiv hus
      refine .pref us B (b+off) arr e (0,0) hB (hn _ _ _ _ hm) (by simp at h1;omega) (fun i a x ha hx=>?_)
      obtain⟨y,hy,hfy⟩:=h2 i a ha;rw[jc]at hy
      exact ih (hr _ y x hy (by rw[<- yh];exact hx)) hfy
     .cases hf
   |sl id g off len sz B b cap arr e hm hB hc hs=>
     simp only[frz]at hf;split at hf
     .rename_i row hrow;split at hf
      .rename_i hlen;split at hf
       .rename_i us hus;cases hf;obtain⟨arr',e',hB',hs',hr⟩:=h.row hrow hm;rw[hB]at hB';cases hB';obtain⟨h1,h2⟩:=aiv hus
        have hul:us.length=len*sz:=by rw[h1,hlen]
        have hes:∀(i:Nat) (el:List V),((List.range len).map fun i=>(us.drop (i*sz)).take sz)[i]?=some el->i<len/\el=(us.drop (i*sz)).take sz:=by
         intro i el he
         have hi:i<len:=by have:=(bmk.1 he).1;simpa using this
         refine⟨hi,?_⟩;rw[nz,ada hi]at he;exact(jk he).symm
        have hmul:∀i,i<len->i*sz+sz<=len*sz:=by
         intro i hi;have:(i+1)*sz<=len*sz:=qd _ hi
         rwa[zu,bdm]at this
        have hcap:len*sz<=cap*sz:=qd _ hc
        have hll:((List.range len).map fun i=>(us.drop (i*sz)).take sz).length=len:=by simp
        have key:PR Mt' w (.psl ((List.range len).map fun i=>(us.drop (i*sz)).take sz) sz) (.slice (some ⟨B,b+off,none⟩) ((List.range len).map fun i=>(us.drop (i*sz)).take sz).length cap):=by
         refine .psl _ sz B (b+off) cap arr e (0,0) hB (hn _ _ _ _ hm) (by rw[hll];exact hc) (fun i el he=>?_) (by rw[hll];omega) (fun i el j a x he ha hx=>?_)
         .obtain⟨hi,rfl⟩:=hes i el he;have:=hmul i hi;simp;omega
         .obtain⟨hi,rfl⟩:=hes i el he
          have hj:j<sz:=by have:=(bmk.1 ha).1;simp at this;omega
          rw[gu hj,jc]at ha;obtain⟨y,hy,hfy⟩:=h2 _ a ha;have hij:=hmul i hi
          rw[gu (by omega),jc]at hy
          refine ih (hr _ y x hy ?_) hfy;rw[<- hx]
          congr 1
          omega
        rw[hll]at key;exact key
       .cases hf
      .cases hf
     .cases hf
   |sl0 id g off sz B b a hm=>
     simp only[frz]at hf;split at hf
     .split at hf
      .split at hf
       .cases hf;exact .psl0 _ _ _
       .cases hf
      .cases hf
     .cases hf
   |pref cs B o arr e fr hB hMB hs hvv=>simp[frz]at hf;subst hf;exact(PR.pref cs B o arr e fr hB hMB hs hvv).mono (fun B _ hm=>ajj fun hc=>hM B hc hm) (fun _ _ _=>rfl)
   |psl es sz B o cap arr e fr hB hMB hc hz hs hvv=>simp[frz]at hf;subst hf;exact(PR.psl es sz B o cap arr e fr hB hMB hc hz hs hvv).mono (fun B _ hm=>ajj fun hc=>hM B hc hm) (fun _ _ _=>rfl)
   |psl0 sz cap a=>simp[frz]at hf;subst hf;exact .psl0 _ _ _
   |esl a=>simp[frz]at hf;subst hf;exact .esl _
   |mp=>simp[frz]at hf
   |fn f fst cap fst' cap' h1 h2 h3 h4=>
     simp only[frz]at hf;split at hf
     .rename_i a b ha hb;cases hf;obtain⟨p1,p2⟩:=lists h1 h3 ha;obtain⟨q1,q2⟩:=lists h2 h4 hb;exact .fn f a b fst' cap' p1 q1 p2 q2
     .cases hf
   |yld=>simp[frz]at hf
def bem:∀(n:Nat) {v:V} {c:Value},ym n v=true->VR μ Mt w v c->PR Mt w v c:=by
 intro n
 induction n with
 |zero=>intro v c h;simp[ym]at h
 |succ n ih=>
   intro v c h hv;have all:∀{cs:List V} {vs:Array Value},cs.all (ym n)=true->(∀(i:Nat) (a:V) (b:Value),cs[i]?=some a->vs[i]?=some b->VR μ Mt w a b)->
    ∀(i:Nat) (a:V) (b:Value),cs[i]?=some a->vs[i]?=some b->PR Mt w a b:=fun ha hv i a b h1 h2=>ih (by rw[bq]at ha;exact ha a (ik h1)) (hv i a b h1 h2)
   cases hv with
   |s=>exact .s _
   |unk=>simp[ym]at h
   |agg cs vs hl hvs=>exact .agg cs vs hl (all (by simpa[ym]using h) hvs)
   |tup cs vs hl hvs=>exact .tup cs vs hl (all (by simpa[ym]using h) hvs)
   |ref=>simp[ym]at h
   |pref cs B o arr e fr hB hMB hs hvv=>exact .pref cs B o arr e fr hB hMB hs hvv
   |sl=>simp[ym]at h
   |sl0=>simp[ym]at h
   |psl es sz B o cap arr e fr hB hMB hc hz hs hvv=>exact .psl es sz B o cap arr e fr hB hMB hc hz hs hvv
   |psl0 sz cap a=>exact .psl0 _ _ _
   |esl a=>exact .esl _
   |mp=>simp[ym]at h
   |fn f fst cap fst' cap' h1 h2 h3 h4=>
     simp only[ym,au]at h;exact .fn f fst cap fst' cap' h1 h2 (all h.1 h3) (all h.2 h4)
   |yld=>simp[ym]at h
def bbe:∀(m:Nat) {n:Nat} {v u:V},ym n v=true->frz H m v=some u->u=v:=by
 intro m
 induction m with
 |zero=>intro n v u _ h;simp[frz]at h
 |succ m ih=>
   intro n v u hp h;cases n with
   |zero=>simp[ym]at hp
   |succ n=>
     have all:∀{cs us:List V},cs.all (ym n)=true->cs.mapM (frz H m)=some us->us=cs:=by
      intro cs us ha hm;obtain⟨h1,h2⟩:=aiv hm;apply wh;intro i;by_cases hi:i<us.length
      .obtain⟨v,hv,hfv⟩:=h2 i us[i] (af hi);rw[af hi,hv]
       congr 1
       exact ih (by rw[bq]at ha;exact ha v (ik hv)) hfv
      .rw[jw (by omega),jw (by omega)]
     cases v<;>simp only[ym,frz,bu,au]at hp h<;>first|(cases h;rfl)|(cases hp;done)|skip
     case agg cs=>obtain⟨us,hus,rfl⟩:=h;rw[all hp hus]
     case tup cs=>obtain⟨us,hus,rfl⟩:=h;rw[all hp hus]
     case fn f a b=>
      split at h
      .rename_i x y hx hy;cases h;rw[all hp.1 hx,all hp.2 hy]
      .cases h
def bbg{u c}(h:PR Mt w u c)(hf:u.flat2=true):PR Mt' w u c:=by
 have one:∀{u:V} {c:Value},PR Mt w u c->u.flat=true->PR Mt' w u c:=by
  intro u c h hf
  cases h<;>first|exact .s _|(simp[V.flat]at hf;done)
 cases h with
 |s x=>exact .s _
 |agg cs vs hl hvs=>
   refine .agg cs vs hl (fun i a b ha hb=>one (hvs i a b ha hb) ?_);simp only[V.flat2,bq]at hf;exact hf a (ik ha)
 |tup cs vs hl hvs=>
   refine .tup cs vs hl (fun i a b ha hb=>?_);have hv:=hvs i a b ha hb;simp only[V.flat2,bq]at hf;have:=hf a (ik ha);cases hv with
   |s x=>exact .s _
   |agg cs vs hl hvs=>
     refine .agg cs vs hl (fun i a b ha hb=>one (hvs i a b ha hb) ?_);simp only[bq]at this;exact this a (ik ha)
   |_=>simp at this
 |_=>simp[V.flat2]at hf
def ato{n vs us cs}(hv:VRs μ Mt w vs cs)(hm:vs.mapM (frz H n)=some us){Q:V->Value->Prop}(hq:∀v u c,VR μ Mt w v c->v∈vs->frz H n v=some u->Q u c):
 us.length=cs.length/\∀(i:Nat) (a:V) (b:Value),us[i]?=some a->cs[i]?=some b->Q a b:=by
 obtain⟨h1,h2⟩:=aiv hm
 refine⟨by rw[h1,hv.1],fun i a b ha hb=>?_⟩
 obtain⟨x,hx,hfx⟩:=h2 i a ha;exact hq x a b (hv.2 i x b hx hb) (ik hx) hfx
def apx{call:o8}(hs:SimCall P CC call)(h:HR CC μ Mt w H){k vs us cs}(hv:VRs μ Mt w vs cs)(hm:vs.mapM (frz H 12)=some us){v u H0}(hc:call (.fn k [] []) us 0 []=some (v,H0))(hu:frz H0 12 v=some u)(hp:(vs.all (ym 12)||u.flat2)=true)(n):
 (∀xs w,(callFunc k xs).run P w=.ok (.enter k xs) w)/\CallsIn Fence.wide n P k cs.toArray w (ar9 CC μ Mt w H u H):=by
 obtain⟨hent,hcall⟩:=hs.fn k [] [] us 0 [] v H0 hc;refine⟨hent,?_⟩;have main:∀Mt0:Nat->Prop,(∀B,B<w.heap.size->¬Mt B->¬Mt0 B)->VRs (fun _ _=>none) Mt0 w us cs->
  (∀μ1 Mt1 w1 c,Post CC (fun _ _=>none) Mt0 w [] μ1 Mt1 w1 H0->VR μ1 Mt1 w1 v c->PR (fun B=>Mt B/\B<w.heap.size) w1 u c)->CallsIn Fence.wide n P k cs.toArray w (ar9 CC μ Mt w H u H):=by
  intro Mt0 hmt hvs hres
  have h0:HR CC (fun _ _=>none) Mt0 w []:=⟨fun _ _ _ h=>by simp at h,fun _ _ _ _ h=>by simp at h,fun _ _ _ _ _ h=>by simp at h,fun _ _ _ _ _ _ _ h=>by simp at h,fun _ _ _ _ _ h=>by simp at h,fun _ _ _ _ h=>by simp at h,fun B o e=>⟨(h.fix B o e).1,hmt B (lt_of_some (h.fix B o e).1) (h.fix B o e).2⟩,fun _ _ _ h=>by simp at h⟩
  refine(hcall _ Mt0 w cs h0 (by simpa using hvs) n).mono ?_
  rintro e w1 ⟨c,μ1,Mt1,rfl,hr,hpost⟩;have hpr:=hres μ1 Mt1 w1 c hpost hr
  have hkeep:∀B,B<w.heap.size->w1.heap[B]?=w.heap[B]?:=fun B hB=>hpost.tr.keep B hB (fun _ _ _ h=>by simp at h)
  have hsh:=hpost.tr.shape;refine⟨c,μ,fun B=>Mt B/\B<w.heap.size,rfl,hpr.vr,aj _,⟨h.dom,fun id g B b e=>⟨⟨(h.isMut id g B b e).1,(h.isMut id g B b e).2⟩,kv (h.isMut id g B b e).2 hpost.tr.size⟩,fun id ob g B b hH hc e=>?_,h.inj,h.gens,h.wf,h.fixed (fun B _ hm=>hm.1) (fun B hB _=>hkeep B hB),h.zero⟩,
   fun _ _ _ h=>h,fun B hB=>⟨fun h=>h.1,fun h=>⟨h,hB⟩⟩,⟨hpost.tr.size,hsh,hpost.tr.loops,fun B hB _=>hkeep B hB,hpost.tr.back,hpost.tr.os,hpost.tr.tape,hpost.tr.output⟩,fun id g _ b e _=>⟨id,g,b,e⟩,fun _ g p e _=>⟨g,p,e⟩⟩
  obtain⟨o,ho,hr⟩:=h.objs id ob g B b hH hc e;exact⟨o,(hkeep B (lt_of_some ho)).trans ho,hr.mono (fun _ _ _ h=>h) (fun B _ hm=>hm.1) (fun B hB _=>hkeep B hB) hsh⟩
 by_cases hpure:vs.all (ym 12)=true
 .refine main Mt (fun _ _ h=>h) ?_ ?_
  .refine ato (Q:=fun a b=>VR _ _ _ a b) hv hm (fun x u c hx hmem hf=>?_)
   have hpx:ym 12 x=true:=by rw[bq]at hpure;exact hpure x hmem
   rw[bbe 12 hpx hf];exact(bem 12 hpx hx).vr
  .intro μ1 Mt1 w1 c hpost hr;refine a5k hpost.hr (fun B hn hm=>?_) (fun id g B b e hm=>?_) 12 hr hu
   .exact hn ((hpost.mt B hm.2).2 hm.1)
   .obtain⟨id0,g0,b0,e0⟩:=hpost.old id g B b e hm.2;simp at e0
 .have hfl:u.flat2=true:=by simpa[hpure]using hp
  refine main (fun _=>False) (fun _ _ _ h=>h) ?_ ?_
  .refine ato (Q:=fun a b=>VR _ _ _ a b) hv hm (fun x u c hx hmem hf=>?_);exact(a5k h (Mt':=fun _=>False) (fun _ _ h=>h) (fun _ _ _ _ _ h=>h) 12 hx hf).vr
  .intro μ1 Mt1 w1 c hpost hr;exact bbg (a5k hpost.hr (Mt':=fun _=>False) (fun _ _ h=>h) (fun _ _ _ _ _ h=>h) 12 hr hu) hfl
def wo{pure':PX}{o ao}(h:aa1 P pure' o=some ao):
 (∃f args ats xs y,o.op=.call { callee:=.value f,args,argTypes:=ats }/\ad7 args=some xs/\lc f=some y/\((∃k,f=.func k/\ao=.callP k xs)\/ao=.call y xs))\/
 (afk P pure' o=some ao/\ao.isCall=false/\∀c,o.op≠.defer c):=by
 unfold aa1 at h;split at h
 .rename_i f args ats ho;split at h
  .rename_i xs y hxs hy;refine .inl ⟨f,args,ats,xs,y,ho,hxs,hy,?_⟩;split at h
   .rename_i k;split at h
    .cases h;exact .inl ⟨k,rfl,rfl⟩
    .cases h;exact .inr rfl
   .cases h;exact .inr rfl
  .cases h
 .split at h
  .rename_i ao' hao;split at h
   .cases h
   .rename_i hnc;cases h
    refine .inr ⟨hao,by simpa using hnc,fun c hc=>?_⟩
    simp[afk,hc]at hao
  .cases h
def axb(H):∀(n:Nat) (v:V),ym n v=true->frz H n v=some v:=by
 intro n
 induction n with
 |zero=>intro v h;simp[ym]at h
 |succ n ih=>
   have all:∀l:List V,l.all (ym n)=true->l.mapM (frz H n)=some l:=by
    intro l
    induction l with
    |nil=>intro _;rfl
    |cons x l ihl=>
      intro h;simp only[gp,au]at h;simp only[qf,ih x h.1,ihl h.2];rfl
   intro v h
   cases v<;>simp only[ym]at h<;>first|(cases h;done)|rfl|skip
   case agg cs=>simp only[frz,all cs h];rfl
   case tup cs=>simp only[frz,all cs h];rfl
   case fn f a b=>
    simp only[au]at h;simp only[frz,all a h.1,all b h.2]
theorem bf7(H n):∀{l:List V},l.all (ym n)=true->l.mapM (frz H n)=some l:=by
 intro l
 induction l with
 |nil=>intro _;rfl
 |cons x l ih=>
   intro h;simp only[gp,au]at h;simp only[qf,axb H n x h.1,ih h.2];rfl
def aed{call:o8}(hs:SimCall P CC call)(h:HR CC μ Mt w H){a:Act}{fr:List V}(hf:FR μ Mt w fr a.tmps){pure':PX}{o:Oper}{ao:AOp}{base:Nat}{v:V}(hc:axy P pure' o ao)(hev:l8 call base fr H ao=some (v,H')){ro:Option Nat}{n:Nat}{next:Act->World->Prop}{Q:Exit->Act->World->Prop}(hnext:∀r w',ar9 CC μ Mt w H v H' (.returned r) w'->next (a.put o.dst r) w'):o.wpIn (Fw ro) n P a w next Q:=by
 have plain:∀(f:Operand) (args:Array Operand) (ats:Array TypeId) (xs:List Opd) (y:Opd) (b:Nat),o.op=.call { callee:=.value f,args,argTypes:=ats }->ad7 args=some xs->lc f=some y->
  call (ev fr y) (xs.map (ev fr)) b H=some (v,H')->o.wpIn (Fw ro) n P a w next Q:=by
  intro f args ats xs y b ho hxs hy hcl;exact a7r hs h (ni hf hy) (akn hf hxs) hcl ho (g:=f) rfl rfl rfl hnext
 rcases hc with hc|⟨f,xs,hc,rfl⟩|⟨k,xs,hc,rfl⟩|⟨sz,by',s,x,hc,rfl⟩|rfl
 case inr.inr.inr.inr=>cases hev
 case inr.inr.inr.inl=>
  rcases wo hc with⟨_,_,_,_,_,_,_,_,⟨_,_,e⟩|e⟩|⟨hc',hnc,hnd⟩
  .cases e
  .cases e
  .obtain⟨cv,w1,μ1,Mt1,hr,hvr,hp⟩:=ann (call:=call) (base:=H.length) h hf hc' hnc hev;refine⟨fun _ _=>trivial,?_⟩;rw[Oper.semAt_eq _ _ _ hnd]
   rcases hr with hr|⟨hr,rfl⟩
   .rw[hr];exact hnext cv w1 ⟨cv,μ1,Mt1,rfl,hvr,hp⟩
   .rw[hr];exact hnext _ w1 ⟨_,μ1,Mt1,rfl,hvr,hp⟩
 rcases wo hc with⟨f,args,ats,xs,y,ho,hxs,hy,⟨k,rfl,rfl⟩|rfl⟩|⟨hc',hnc,hnd⟩
 .
  simp only[l8]at hev;split at hev
  .rename_i us hus;split at hev
   .rename_i r H0 hcl;split at hev
    .rename_i u hu;split at hev
     .rename_i hp;cases hev;obtain⟨hent,hcalls⟩:=apx hs h (akn hf hxs) hus hcl hu hp (n-1);refine⟨fun _ _=>trivial,?_⟩
      rw[Oper.semAt_eq _ _ _ (by simp[ho])]
      have hexec:execOp a.eval o=(do let d <- resolve a.eval { callee:=.value (.func k),args,argTypes:=ats } o.type;invoke d.target d.args):=by
       unfold execOp;rw[ho]
      have hrun:(execOp a.eval o).run P w=.ok (.enter k (args.map a.eval)) w:=by
       rw[hexec];have e1:a.eval (.func k)=.func (.func k) #[] #[]:=rfl;simp only[resolve,e1,Deferred.ofValue,Sem.run_bind,Sem.run_pure,bm0,invoke,hent];simp
      rw[hrun];simp only[xh]at hcalls
      refine⟨fun h=>by simp[Fw]at h,hcalls.mono ?_⟩
      rintro e w1 ⟨r,μ1,Mt1,rfl,hr,hp⟩;exact hnext r w1 ⟨r,μ1,Mt1,rfl,hr,hp⟩
     .cases hev
    .cases hev
   .cases hev
  .cases hev
 .exact plain f args ats xs y base ho hxs hy hev
 .obtain⟨cv,w1,μ1,Mt1,hr,hvr,hp⟩:=ann h hf hc' hnc hev;refine⟨fun _ _=>trivial,?_⟩;rw[Oper.semAt_eq _ _ _ hnd]
  rcases hr with hr|⟨hr,rfl⟩
  .rw[hr];exact hnext cv w1 ⟨cv,μ1,Mt1,rfl,hvr,hp⟩
  .rw[hr];exact hnext _ w1 ⟨_,μ1,Mt1,rfl,hvr,hp⟩
 .rcases wo hc with⟨f',args,ats,xs',y,ho,hxs,hy,⟨k,_,e⟩|e⟩|⟨_,hnc,_⟩
  .cases e
  .cases e;exact plain f' args ats xs f H.length ho hxs hy hev
  .simp[AOp.isCall]at hnc
 .rcases wo hc with⟨f',args,ats,xs',y,ho,hxs,hy,⟨k',rfl,e⟩|e⟩|⟨_,hnc,_⟩
  .cases e;simp only[l8]at hev;split at hev
   .rename_i hpure;split at hev
    .rename_i r H0 hcl;split at hev
     .rename_i u hu;cases hev
      obtain⟨hent,hcalls⟩:=apx hs h (akn hf hxs) (bf7 H 12 hpure) hcl hu (by rw[hpure];rfl) (n-1)
      refine⟨fun _ _=>trivial,?_⟩
      rw[Oper.semAt_eq _ _ _ (by simp[ho])]
      have hexec:execOp a.eval o=(do let d <- resolve a.eval { callee:=.value (.func k),args,argTypes:=ats } o.type;invoke d.target d.args):=by
       unfold execOp;rw[ho]
      have hrun:(execOp a.eval o).run P w=.ok (.enter k (args.map a.eval)) w:=by
       rw[hexec];have e1:a.eval (.func k)=.func (.func k) #[] #[]:=rfl;simp only[resolve,e1,Deferred.ofValue,Sem.run_bind,Sem.run_pure,bm0,invoke,hent];simp
      rw[hrun];simp only[xh]at hcalls
      refine⟨fun h=>by simp[Fw]at h,hcalls.mono ?_⟩
      rintro e w1 ⟨r,μ1,Mt1,rfl,hr,hp⟩;exact hnext r w1 ⟨r,μ1,Mt1,rfl,hr,hp⟩
     .cases hev
    .cases hev
   .cases hev
  .cases e
  .simp[AOp.isCall]at hnc
end
section
variable {CC:CX} {μ μ':Mu} {Mt Mt':Nat->Prop} {w w':World} {H H':Heap} {P:Program} [BtOk CC P] {pure':PX}
def FR.put{fr:List V}{a:Act}(hf:FR μ Mt w fr a.tmps)(dst:Option Nat){v:V}{c:Value}(hv:VR μ Mt w v c):FR μ Mt w (put dst v fr) (a.put dst c).tmps:=by
 cases dst with
 |none=>exact hf
 |some d=>
   have:=VRs.set hf d hv
   simpa[FR,AM.put,Act.put]using this
def FR.post{μ0}{Mt0:Nat->Prop}{w0 H0}(h0:HR CC μ0 Mt0 w0 H0)(hp:Post CC μ0 Mt0 w0 H0 μ Mt w H){fr t}(hf:FR μ0 Mt0 w0 fr t):FR μ Mt w fr t:=hp.vrs h0 hf
def FR.set_unk{fr t}(hf:FR μ Mt w fr t)(i):FR μ Mt w (fr.set i .unk) t:=by
 refine⟨by simpa using hf.1,fun j a b ha hb=>?_⟩
 by_cases hj:i=j
 .subst hj
  rw[ma (by have:=(bmk.1 ha).1;simpa using this)]at ha
  cases ha;exact .unk _
 .rw[ae hj]at ha;exact hf.2 j a b ha hb
def FR.kill{t}:∀(ks:List Nat) {fr:List V},FR μ Mt w fr t->FR μ Mt w (ut ks fr) t:=by
 intro ks
 induction ks with
 |nil=>intro fr h;exact h
 |cons k ks ih=>intro fr h;exact ih (h.set_unk k)
def aa5{ops o ao}(hg:agk ops o.guard=some ao.guard){fr t}(hf:FR μ Mt w fr t){b}(h:want ao fr=some b):Region.wanted o (yielded ops t)=b:=by
 unfold agk at hg;split at hg
 .rename_i e1;cases hgg:ao.guard with
  |none=>simp[want,hgg]at h;subst h;simp[Region.wanted,e1]
  |some p=>rw[hgg]at hg;cases hg
 .rename_i j x e1;split at hg
  .rename_i oj hoj;split at hg
   .rename_i d hd;cases hgg:ao.guard with
    |none=>rw[hgg]at hg;cases hg
    |some p=>
      rw[hgg]at hg;cases hg;simp only[want,hgg]at h;have hv:=hf.getD d
      have hy:yielded ops t j=match t[d]? with|some (.bool b)=>some b|_=>none:=by
       simp only[yielded,hoj,Option.bind_some,hd];rfl
      have hdl:∀u,fr.getD d .unk=.s u->t[d]?=some u:=by
       intro u hu;rw[hu]at hv;have hv:=aa6 hv;by_cases hl:d<t.size
       .simp[hl]at hv |-;exact hv
       .exfalso
        have:fr.getD d .unk=.unk:=by
         have:¬d<fr.length:=by rw[hf.1];simpa using hl
         simp[List.getD,this]
        rw[this]at hu;cases hu
      split at h
      .rename_i y hy';cases h;have:=hdl _ hy';simp only[Region.wanted,e1,hy,this];cases y<;>cases x<;>rfl
      .rename_i y hy';cases h;have:=hdl _ hy';simp only[Region.wanted,e1,hy,this];rfl
      .cases h
   .cases hg
  .cases hg
def asg(CC:CX)(μ:Mu)(Mt:Nat->Prop)(w:World)(H:Heap)(ds:List Deferred)(fr':List V)(H':Heap)(a':Act)(w':World):Prop:=
 ∃μ' Mt',Post CC μ Mt w H μ' Mt' w' H'/\FR μ' Mt' w' fr' a'.tmps/\a'.defers=ds
theorem put_defers(a:Act)(d:Option Tmp)(v:Value):(a.put d v).defers=a.defers:=by cases d<;>rfl
def aq4{call:o8}(hs:SimCall P CC call){ops:Array Oper}{l:List AOper}(hr:auz P pure' ops l){base:Nat}{ro:Option Nat}{n:Nat}{Q:Exit->Act->World->Prop}{fr':List V}{H':Heap}:
 ∀(j k:Nat) (fr:List V) (H:Heap) (a:Act) (w:World) (μ:Mu) (Mt:Nat->Prop),j+k=ops.size->HR CC μ Mt w H->FR μ Mt w fr a.tmps->mg call base (l.drop k) fr H=some (fr',H')->
   (∀a' w',asg CC μ Mt w H a.defers fr' H' a' w'->Q .normal a' w')->wpOpsIn (Fw ro) n P ops Q ((List.range ops.size).drop k) a w:=by
 intro j
 induction j with
 |zero=>
   intro k fr H a w μ Mt hk h hf hev hQ
   have hk':k=ops.size:=by omega
   subst hk'
   rw[uy (by simp)]
   rw[uy (by rw[hr.1];exact aj _)]at hev
   cases hev;exact hQ a w ⟨μ,Mt,Post.refl h,hf,rfl⟩
 |succ j ih=>
   intro k fr H a w μ Mt hk h hf hev hQ
   have hlt:k<ops.size:=by omega
   have hltl:k<l.length:=by rw[hr.1];exact hlt
   have e1:(List.range ops.size).drop k=k::(List.range ops.size).drop (k+1):=by
    rw[ed (by simpa using hlt)];simp
   rw[e1];rw[ed hltl]at hev;have ho:ops[k]?=some ops[k]:=ko hlt;obtain⟨hd,hc,hg⟩:=hr.2 k ops[k] l[k] ho (af hltl);rw[wpOpsIn_cons];unfold wpOpIn;simp only[ho];simp only[mg]at hev;split at hev
   .cases hev
   .rename_i hw;rw[aa5 hg hf hw];simp only[ic,ky];refine⟨fun _ _=>trivial,?_⟩
    refine ih (k+1) _ H _ w μ Mt (by omega) h (hd▸hf.put _ (.s _)) hev (fun a' w' hq=>hQ a' w' ?_)
    rw[put_defers]at hq;exact hq
   .rename_i hw;rw[aa5 hg hf hw];simp only[jf];split at hev
    .rename_i v H1 hop;refine aed hs h hf hc hop ?_;rintro r w1 ⟨c,μ1,Mt1,e,hv,hp⟩;cases e
     refine ih (k+1) _ H1 _ w1 μ1 Mt1 (by omega) hp.hr (hd▸(hf.post h hp).put _ hv) hev (fun a' w' hq=>hQ a' w' ?_)
     rw[put_defers]at hq;obtain⟨μ2,Mt2,hp2,hf2,hd2⟩:=hq;exact⟨μ2,Mt2,hp.trans hp2,hf2,hd2⟩
    .cases hev
def aeb(m:Nat)(μ:Mu):Mu:=fun id g=>if id<m then μ id g else none
def lu{m id g p}(h:aeb m μ id g=some p):id<m/\μ id g=some p:=by
 unfold aeb at h;split at h
 .exact⟨‹_›,h⟩
 .cases h
def aaf{m id g}(h:id<m):aeb m μ id g=μ id g:=by simp[aeb,h]
def aqa{m}:∀(n:Nat) {v:V} {c:Value},qh m n v=true->VR μ Mt w v c->VR (aeb m μ) Mt w v c:=by
 intro n
 induction n with
 |zero=>intro v c h;simp[qh]at h
 |succ n ih=>
   intro v c h hv;have all:∀{cs:List V} {vs:Array Value},cs.all (qh m n)=true->(∀(i:Nat) (a:V) (b:Value),cs[i]?=some a->vs[i]?=some b->VR μ Mt w a b)->
    ∀(i:Nat) (a:V) (b:Value),cs[i]?=some a->vs[i]?=some b->VR (aeb m μ) Mt w a b:=fun ha hv i a b h1 h2=>ih (by rw[bq]at ha;exact ha a (ik h1)) (hv i a b h1 h2)
   cases hv with
   |s=>exact .s _
   |unk=>exact .unk _
   |agg cs vs hl hvs=>exact .agg cs vs hl (all (by simpa[qh]using h) hvs)
   |tup cs vs hl hvs=>exact .tup cs vs hl (all (by simpa[qh]using h) hvs)
   |ref id g off B b hm=>simp[qh]at h;exact .ref id g off B b (by rw[aaf h];exact hm)
   |pref cs B o arr e fr hB hMB hs hvv=>exact .pref cs B o arr e fr hB hMB hs hvv
   |sl id g off len sz B b cap arr e hm hB hc hs=>simp[qh]at h;exact .sl id g off len sz B b cap arr e (by rw[aaf h];exact hm) hB hc hs
   |sl0 id g off sz B b a hm=>simp[qh]at h;exact .sl0 id g off sz B b a (by rw[aaf h];exact hm)
   |psl es sz B o cap arr e fr hB hMB hc hz hs hvv=>exact .psl es sz B o cap arr e fr hB hMB hc hz hs hvv
   |psl0 sz cap a=>exact .psl0 _ _ _
   |esl a=>exact .esl _
   |mp id B hm=>simp[qh]at h;exact .mp id B (by rw[aaf h];exact hm)
   |fn f fst cap fst' cap' h1 h2 h3 h4=>
     simp only[qh,au]at h;exact .fn f fst cap fst' cap' h1 h2 (all h.1 h3) (all h.2 h4)
   |yld id B hm=>simp[qh]at h;exact .yld id B (by rw[aaf h];exact hm)
def asn{m n vs cs}(h:vs.all (qh m n)=true)(hv:VRs μ Mt w vs cs):VRs (aeb m μ) Mt w vs cs:=
 ⟨hv.1,fun i a b ha hb=>aqa n (by rw[bq]at h;exact h a (ik ha)) (hv.2 i a b ha hb)⟩
def a3x{m ob b}{o:Obj}(h:Ob.under m ob=true)(hr:ObR CC μ Mt w ob b o):ObR CC (aeb m μ) Mt w ob b o:=by
 cases ob with
 |cells g c=>
   cases o<;>first|exact hr.elim|skip
   exact⟨hr.1,hr.2.1,fun i a v ha hv=>aqa 8 (by simp only[Ob.under,bq]at h;exact h a (ik ha)) (hr.2.2.1 i a v ha hv),hr.2.2.2⟩
 |map es=>
   cases o<;>first|exact hr.elim|skip
   exact⟨hr.1,hr.2.1,fun i k v e he hv=>⟨(hr.2.2 i k v e he hv).1,aqa 8 (by simp only[Ob.under,bq]at h;exact h _ (ik he)) (hr.2.2 i k v e he hv).2⟩⟩
 |loop st pend tmps params assign body=>
   cases o<;>first|exact hr.elim|skip
   obtain⟨h0,h1,h2,h3,h4,h5,h6⟩:=hr;exact⟨h0,h1,h2,asn h h3,h4,h5,h6⟩
 |dead=>cases o<;>exact hr.elim
 |bytes g l=>cases o<;>first|exact hr.elim|exact hr
def ap9{m}:∀(n:Nat) {v:V},qh m n v=true->VW m v:=by
 intro n
 induction n with
 |zero=>intro v h;simp[qh]at h
 |succ n ih=>
   intro v h
   have all:∀{cs:List V},cs.all (qh m n)=true->∀v∈cs,VW m v:=fun ha v hv=>ih (by rw[bq]at ha;exact ha v hv)
   cases v<;>simp only[qh,au,lm]at h
   case s=>exact .s _
   case agg=>exact .agg _ (all h)
   case tup=>exact .tup _ (all h)
   case ref=>exact .ref _ _ _ h
   case pref=>exact .pref _
   case sl=>exact .sl _ _ _ _ _ h
   case psl=>exact .psl _ _
   case esl=>exact .esl
   case mp=>exact .mp _ h
   case fn=>exact .fn _ _ _ (all h.1) (all h.2)
   case yld=>exact .yld _ h
   case ifc=>cases h
   case unk=>exact .unk
def a3w{m ob}(h:Ob.under m ob=true):ObW m ob:=by
 cases ob with
 |cells g c=>simp only[Ob.under,bq]at h;exact fun v hv=>ap9 8 (h v hv)
 |map es=>simp only[Ob.under,bq]at h;exact fun e he=>ap9 8 (h e he)
 |loop st pe t ps a b=>simp only[Ob.under,bq]at h;exact fun v hv=>ap9 8 (h v hv)
 |dead=>trivial
 |bytes g l=>trivial
def aig{μ0}{Mt0:Nat->Prop}{w0 H0}(hp:Post CC μ0 Mt0 w0 H0 μ Mt w H)(hd0:∀id g p,μ0 id g=some p->id<H0.length){m}(hm0:H0.length<=m)(hm:m<=H.length){fr t}(hf:FR μ Mt w fr t):
 ∃μ2,Post CC μ0 Mt0 w0 H0 μ2 Mt w (trim m fr H)/\FR μ2 Mt w fr t/\(∀id g p,μ2 id g=some p->μ id g=some p)/\m<=(trim m fr H).length:=by
 unfold trim;split
 .rename_i hc;simp only[au]at hc
  have hlen:(H.take m).length=m:=by simp;omega
  have hget:∀(id:Nat) (ob:Ob),(H.take m)[id]?=some ob->id<m/\H[id]?=some ob:=by
   intro id ob h
   have hi:id<m:=by have:=(bmk.1 h).1;omega
   exact⟨hi,by rwa[gu hi]at h⟩
  refine⟨aeb m μ,⟨by rw[hlen];exact hm0,⟨fun id g p e=>by rw[hlen];exact(lu e).1,fun id g B b e=>hp.hr.isMut id g B b (lu e).2,fun id ob g B b hH hcur e=>?_,
   fun id g id' g' B b b' e e'=>hp.hr.inj _ _ _ _ _ _ _ (lu e).2 (lu e').2,fun id g g' c p e hH=>hp.hr.gens _ _ _ _ _ (lu e).2 (hget _ _ hH).2,fun id g p ob e hH=>by
    rw[hlen];have h2:=hc.2;rw[bq]at h2;exact a3w (h2 ob (ik hH)),hp.hr.fix,fun id B b e=>hp.hr.zero _ _ _ (lu e).2⟩,
   fun id g p e=>by rw[aaf (kv (hd0 _ _ _ e) hm0)];exact hp.ext _ _ _ e,hp.mt,hp.tr,fun id g B b e hB=>hp.old _ _ _ _ (lu e).2 hB,fun id g p e hid=>hp.news _ _ _ (lu e).2 hid⟩,
   asn hc.1 hf,fun id g p e=>(lu e).2,by rw[hlen];exact aj _⟩
  obtain⟨o,ho,hr⟩:=hp.hr.objs id ob g B b (hget _ _ hH).2 hcur (lu e).2;refine⟨o,ho,a3x ?_ hr⟩;have:=hc.2;rw[bq]at this;exact this ob (ik hH)
 .exact⟨μ,hp,hf,fun _ _ _ h=>h,hm⟩
def ayj(D:Nat):Deferred:={ target:=.collected D,args:=#[] }
def Marks(lo:Nat)(μ:Mu)(w:World)(ds' ds:List Deferred):Prop:=
 ∃L:List Nat,ds'=L.map ayj++ds/\L.Nodup/\∀D∈L,lo<=D/\w.heap[D]?=some (.deferred (some []))/\∀id g b,μ id g≠some (D,b)
def Marks.refl(lo μ w ds):Marks lo μ w ds ds:=⟨[],rfl,List.nodup_nil,fun _ h=>by cases h⟩
def Marks.sub{lo ds' ds}(h:Marks lo μ w ds' ds)(hs:∀id g p,μ' id g=some p->μ id g=some p):Marks lo μ' w ds' ds:=by
 obtain⟨L,h1,h2,h3⟩:=h;exact⟨L,h1,h2,fun D hD=>⟨(h3 D hD).1,(h3 D hD).2.1,fun id g b e=>(h3 D hD).2.2 id g b (hs _ _ _ e)⟩⟩
def Marks.trans{lo μ1 μ2}{Mt1 Mt2:Nat->Prop}{w1 w2 H1 H2 ds ds1 ds2}(h:Marks lo μ1 w1 ds1 ds)(hp:Post CC μ1 Mt1 w1 H1 μ2 Mt2 w2 H2)(hlo:lo<=w1.heap.size)(k:Marks w1.heap.size μ2 w2 ds2 ds1):Marks lo μ2 w2 ds2 ds:=by
 obtain⟨L,rfl,h2,h3⟩:=h;obtain⟨K,rfl,k2,k3⟩:=k
 refine⟨K++L,by simp,?_,?_⟩
 .refine List.nodup_append.2 ⟨k2,h2,?_⟩;intro x hx y hy e;subst e;have h1:=(k3 x hx).1;have h4:=lt_of_some (h3 x hy).2.1;omega
 .intro D hD
  rcases mo.1 hD with hD|hD
  .exact⟨qa hlo (k3 D hD).1,(k3 D hD).2⟩
  .obtain⟨q1,q2,q3⟩:=h3 D hD;refine⟨q1,(hp.tr.keep D (lt_of_some q2) q3).trans q2,fun id g b e=>?_⟩;obtain⟨id0,g0,b0,e0⟩:=hp.old id g D b e (lt_of_some q2);exact q3 id0 g0 b0 e0
def ash(CC:CX)(μ:Mu)(Mt:Nat->Prop)(w:World)(H:Heap)(ds:List Deferred)(fr':List V)(H':Heap)(a':Act)(w':World):Prop:=
 ∃μ' Mt',Post CC μ Mt w H μ' Mt' w' H'/\FR μ' Mt' w' fr' a'.tmps/\Marks w.heap.size μ' w' a'.defers ds
def ash.trans{μ1}{Mt1:Nat->Prop}{w1 H1 ds ds1 fr' a'}(hp:Post CC μ Mt w H μ1 Mt1 w1 H1)(hm:Marks w.heap.size μ1 w1 ds1 ds)(h:ash CC μ1 Mt1 w1 H1 ds1 fr' H' a' w'):
 ash CC μ Mt w H ds fr' H' a' w':=by
 obtain⟨μ2,Mt2,p2,f2,m2⟩:=h;exact⟨μ2,Mt2,hp.trans p2,f2,hm.trans p2 hp.tr.size m2⟩
def bl1:Ex->Exit
 |.nrm=>.normal
 |.ext id=>.exit id
 |.ret=>.ret
def bl3(P:Program)(CC:CX)(ro:Option Nat)(n:Nat)(c:Code)(b:List V->Heap->Option St):Prop:=
 ∀(fr:List V) (H:Heap) (e:Ex) (fr':List V) (H':Heap),b fr H=some (e,fr',H')->
   ∀(μ:Mu) (Mt:Nat->Prop) (w:World) (a:Act) (Q:Exit->Act->World->Prop),HR CC μ Mt w H->FR μ Mt w fr a.tmps->(∀l,ro=some l->∃r,w.heap[l]?=some (.loop r))->
     (∀a' w',ash CC μ Mt w H a.defers fr' H' a' w'->Q (bl1 e) a' w')->c.wpIn (Fw ro) n P Q a w
def bah{ro n c}{b:List V->Heap->Option St}(hb:bl3 P CC ro n c b)(kill m):∀(k:Nat) (fr:List V) (H:Heap) (e:Ex) (fr':List V) (H':Heap),x9 b kill m k fr H=some (e,fr',H')->
 ∀(μ:Mu) (Mt:Nat->Prop) (w:World) (a:Act) (Q:Exit->Act->World->Prop) (μ0:Mu) (Mt0:Nat->Prop) (w0:World) (H0:Heap) (ds:List Deferred),HR CC μ0 Mt0 w0 H0->H0.length<=m->m<=H.length->
   Post CC μ0 Mt0 w0 H0 μ Mt w H->Marks w0.heap.size μ w a.defers ds->FR μ Mt w fr a.tmps->(∀l,ro=some l->∃r,w.heap[l]?=some (.loop r))->
   (∀a' w',ash CC μ0 Mt0 w0 H0 ds fr' H' a' w'->Q (bl1 e) a' w')->Code.roundsIn (Fw ro) n P c Q k a w:=by
 intro k
 induction k with
 |zero=>intro fr H e fr' H' h;simp[x9]at h
 |succ k ih=>
   intro fr H e fr' H' hev μ Mt w a Q μ0 Mt0 w0 H0 ds h0 hm0 hm hp hmk hf hro hQ;rw[roundsIn_succ];simp only[x9]at hev;split at hev
   .rename_i fr1 H1 hb1;refine hb fr H .nrm fr1 H1 hb1 μ Mt w a _ hp.hr hf hro ?_;rintro a1 w1 ⟨μ1,Mt1,p1,f1,m1⟩;have hpp:=hp.trans p1;obtain⟨μ2,p2,f2,s2,l2⟩:=aig hpp h0.dom hm0 (qa hm p1.len) (f1.kill kill);have mk2:=(hmk.trans p1 hp.tr.size m1).sub s2;refine ih _ _ e fr' H' hev μ2 Mt1 w1 a1 Q μ0 Mt0 w0 H0 ds h0 hm0 l2 p2 mk2 f2 (fun l hl=>?_) hQ;obtain⟨r,hr⟩:=hro l hl;exact p1.tr.loops l r hr
   .rename_i e1 fr1 H1 hne hb1;cases hev;refine hb fr H e fr1 H1 hb1 μ Mt w a _ hp.hr hf hro ?_;rintro a1 w1 ⟨μ1,Mt1,p1,f1,m1⟩;have hpp:=hp.trans p1;obtain⟨μ2,p2,f2,s2,_⟩:=aig hpp h0.dom hm0 (qa hm p1.len) (f1.kill kill);have mk2:=(hmk.trans p1 hp.tr.size m1).sub s2;have:=hQ a1 w1 ⟨μ2,Mt1,p2,f2,mk2⟩;cases e with
    |nrm=>exact(hne rfl).elim
    |ext id=>exact this
    |ret=>exact this
   .cases hev
end
section
variable {call:o8} {base:Nat} {fr fr':List V} {H H':Heap}
def ag0{d o}(h:∀x∈o.toList,ev fr x=ev fr' x):afh fr d o=afh fr' d o:=by
 cases o with
 |none=>rfl
 |some x=>simp only[afh,h x (by simp)]
def agz(op)(h:∀x∈op.opds,ev fr x=ev fr' x):l8 call base fr H op=l8 call base fr' H op:=by
 cases op
 case mkFn f a b=>
  have ha:a.map (ev fr)=a.map (ev fr'):=uk fun x hx=>h x (jy _ hx);have hb:b.map (ev fr)=b.map (ev fr'):=uk fun x hx=>h x (lh _ hx);simp only[l8,ha,hb]
 case build z pl ps=>
  have hp:ps.map (fun p=>(p.1,ev fr p.2))=ps.map (fun p=>(p.1,ev fr' p.2)):=uk fun p hp=>by rw[h p.2 (bmg hp)]
  simp only[l8,hp]
 case buildSl a b c ps=>
  have hp:ps.map (fun p=>(p.1,ev fr p.2))=ps.map (fun p=>(p.1,ev fr' p.2)):=uk fun p hp=>by rw[h p.2 (bmg hp)]
  simp only[l8,hp]
 case call f xs=>
  have hx:xs.map (ev fr)=xs.map (ev fr'):=uk fun x hx=>h x (il _ hx);simp only[l8,hx,h f jh]
 case callR f xs=>
  have hx:xs.map (ev fr)=xs.map (ev fr'):=uk fun x hx=>h x (il _ hx);simp only[l8,hx,h f jh]
 case callP f xs=>
  have hx:xs.map (ev fr)=xs.map (ev fr'):=uk fun x hx=>h x hx;simp only[l8,hx]
 case callQ f xs=>
  have hx:xs.map (ev fr)=xs.map (ev fr'):=uk fun x hx=>h x hx;simp only[l8,hx]
 case subStr x lo hi=>
  have h1:afh fr 0 lo=afh fr' 0 lo:=ag0 fun y hy=>h y (il _ (jy _ hy));have h2:∀d,afh fr d hi=afh fr' d hi:=fun d=>ag0 fun y hy=>h y (il _ (lh _ hy));simp only[l8,h x jh,h1,h2]
 case subSl sz x lo hi mx=>
  have h0:∀y∈lo.toList++hi.toList++mx.toList,ev fr y=ev fr' y:=fun y hy=>h y (il _ hy);have h1:afh fr 0 lo=afh fr' 0 lo:=ag0 fun y hy=>h0 y (jy _ (jy _ hy));have h2:∀d,afh fr d hi=afh fr' d hi:=fun d=>ag0 fun y hy=>h0 y (jy _ (lh _ hy));have hx:=h x jh;cases mx with
  |none=>simp only[l8,hx,h1,h2]
  |some m=>
    have hm:=h0 m (by simp)
    cases hi with
    |none=>simp only[l8]
    |some y=>
      have hy:=h0 y (by simp)
      simp only[l8,hx,h1,hm];cases afh fr' 0 lo with
      |none=>rfl
      |some k=>first|(rw[hy];done)|(simp only[hy];done)|(split<;>first|rfl|(rename_i e1 e2;cases e1;rw[hy];done))
 all_goals simp only[AOp.opds,mq,xq,aiu,forall_eq_or_imp,forall_eq]at h
 all_goals first|(simp only[l8];done)|(simp only[l8,h];done)|(simp only[l8,h.1,h.2];done)|(simp only[l8,h.1,h.2.1,h.2.2];done)
def an8{op}(ht:op.cls=.t){v}(h:l8 call base fr H op=some (v,H')):H'=H/\∀H2,l8 call base fr H2 op=some (v,H2):=by
 cases op<;>first|(simp[AOp.cls]at ht;done)|skip
 case un op x=>
  simp only[l8]at h |-
  split at h<;>first|(cases h;done)|(cases h;exact⟨rfl,fun _=>rfl⟩)|skip
  rename_i hx;simp only[bu]at h;obtain⟨b,hb,e⟩:=h;cases e
  exact⟨rfl,fun H2=>by rw[hb];rfl⟩
 case bin op x y=>
  simp only[l8]at h |-
  split at h<;>first|(cases h;done)|skip
  simp only[bu]at h;obtain⟨b,hb,e⟩:=h;cases e
  exact⟨rfl,fun H2=>by rw[hb];rfl⟩
 case field agg off n x=>
  simp only[l8]at h |-
  split at h<;>first|(cases h;done)|skip
  split at h<;>first|(cases h;done)|skip
  rename_i hx hl;simp only[bu]at h;obtain⟨b,hb,e⟩:=h;cases e;refine⟨rfl,fun H2=>?_⟩;rw[dw hl,hb];rfl
 case minmax mx x y=>
  simp only[l8]at h |-
  split at h<;>first|(cases h;done)|skip
  split at h<;>first|(cases h;done)|skip
  rename_i k a k' b h1 h2 h3;cases h;refine⟨rfl,fun H2=>?_⟩;simp only[h3,jf]
 all_goals
  simp only[l8]at h |-
  repeat' (split at h)
  all_goals first|(cases h;done)|(cases h;refine⟨rfl,fun H2=>?_⟩;first|rfl|(simp_all;done))
def ak8{op}(ht:op.cls=.r){v}(h:l8 call base fr H op=some (v,H')):
 H'=H/\∃x,op.place=some x/\(∀id,(ev fr x).obj?=some (some id)->id<H.length)/\
  ∀H2,(∀id,(ev fr x).obj?=some (some id)->H2[id]?=H[id]?)->l8 call base fr H2 op=some (v,H2):=by
 cases op<;>first|(simp[AOp.cls]at ht;done)|skip
 case load agg n a=>
  simp only[l8,bu]at h;obtain⟨b,hb,e⟩:=h;cases e;refine⟨rfl,a,rfl,fun id hid=>?_,fun H2 hH=>?_⟩
  .cases hv:ev fr a<;>rw[hv]at hid hb<;>simp[V.obj?]at hid
   .subst hid;simp only[abf]at hb;split at hb
    .rename_i c hc;unfold getC at hc;split at hc
     .rename_i h1;exact(bmk.1 h1).1
     .cases hc
    .cases hb
   .simp[abf]at hb
  .have:abf H2 agg n (ev fr a)=abf H agg n (ev fr a):=by
    cases hv:ev fr a<;>simp only[abf];rename_i id g off
    have:=hH id (by rw[hv];rfl)
    simp only[getC,this]
   simp only[l8,this,hb];rfl
 case lenS k x=>
  simp only[l8]at h;refine⟨?_,x,rfl,?_⟩
  .repeat' (split at h)
   all_goals first|(cases h;done)|(cases h;rfl)
  .cases hv:ev fr x
   case mp m=>
    rw[hv]at h;refine⟨fun id hid=>?_,fun H2 hH=>?_⟩
    .simp[V.obj?]at hid;subst hid
     cases k<;>first|(simp at h;done)|skip
     change(match H[m]? with|some (.map es)=>some (i64 es.length,H)|_=>none)=_ at h
     split at h
     .rename_i h1;exact(bmk.1 h1).1
     .cases h
    .have hm:=hH m rfl;simp only[l8,hv]
     cases k<;>first|(simp at h;done)|skip
     change(match H[m]? with|some (.map es)=>some (i64 es.length,H)|_=>none)=_ at h
     change(match H2[m]? with|some (.map es)=>some (i64 es.length,H2)|_=>none)=_
     rw[hm];split at h
     .cases h;rfl
     .cases h
   case ref=>
    exfalso;rw[hv]at h;cases k<;>simp at h
   all_goals
    rw[hv]at h
    refine⟨fun id hid=>by simp[V.obj?]at hid,fun H2 _=>?_⟩
    simp only[l8,hv]
    cases k<;>first|(simp at h;done)|(cases h;rfl)|skip
    all_goals
     repeat' (split at h)
    all_goals first|(cases h;done)|(cases h;rfl)|(cases h;simp_all;done)
 case mapGet kind z m k ok=>
  simp only[l8]at h;split at h
  .rename_i key hkey;split at h
   .rename_i hok;split at h
    .rename_i hm;cases h
     refine⟨rfl,m,rfl,fun id hid=>by rw[hm]at hid;simp[V.obj?]at hid,fun H2 _=>?_⟩
     simp only[l8,hkey,hok,hm,jf]
    .rename_i id hm;split at h
     .rename_i es hes;have hlt:=(bmk.1 hes).1
      have he:H'=H:=by
       repeat' (split at h)
       all_goals first|(cases h;done)|(cases h;rfl)
      subst he
      refine⟨rfl,m,rfl,fun i hid=>by rw[hm]at hid;simp[V.obj?]at hid;subst hid;exact hlt,fun H2 hH=>?_⟩
      have:=hH id (by rw[hm];rfl)
      simp only[l8,hkey,hok,hm,jf,this,hes];split at h
      .cases h;rfl
      .cases h;rfl
      .cases h
     .cases h
    .cases h
   .cases h
  .cases h
def axv{sz bytes s x v}(h:qp H H.length sz bytes s x=some (v,H')):H.length<=H'.length/\∀id,id<H.length->H'[id]?=H[id]?:=by
 have app:∀(o:Ob),H.length<=(H++[o]).length/\∀id,id<H.length->(H++[o])[id]?=H[id]?:=fun o=>⟨by simp,fun id hid=>by rw[ah hid]⟩
 have same:H.length<=H.length/\∀id,id<H.length->H[id]?=H[id]?:=⟨aj _,fun _ _=>rfl⟩
 have hno:∀{id g:Nat} {c:List V},H.length<=id->getC H id g=some c->False:=fun hle hg=>by
  unfold getC at hg
  rw[jw (by omega)]at hg
  cases hg
 unfold qp at h;split at h
 .unfold aky at h;split at h
  .split at h
   .split at h
    .split at h
     .cases h;exact same
     .split at h
      .cases h;exact app _
      .cases h
    .split at h
     .rename_i hle;rw[jw hle]at h;cases h
     .cases h
    .cases h
   .cases h
  .cases h
 .split at h
  .split at h
   .split at h
    .cases h;exact same
    .split at h
     .cases h;exact app _
     .cases h
   .split at h
    .cases h;exact same
    .split at h
     .cases h;exact app _
     .cases h
   .split at h
    .cases h;exact same
    .cases h
   .split at h
    .rename_i hc;split at h
     .rename_i c hg;exact(hno hc.2 hg).elim
     .cases h
    .cases h
   .cases h
  .cases h
def a5v(hfl:∀v args base H r H',call v args base H=some (r,H')->H.length<=H'.length/\∀id,id<base->id<H.length->H'[id]?=H[id]?){op}(ht:op.cls=.a){v}(h:l8 call base fr H op=some (v,H')):
 H.length<=H'.length/\∀id,id<H.length->H'[id]?=H[id]?:=by
 have app:∀(o:Ob),H.length<=(H++[o]).length/\∀id,id<H.length->(H++[o])[id]?=H[id]?:=fun o=>⟨by simp,fun id hid=>by rw[ah hid]⟩
 cases op<;>first|(simp[AOp.cls]at ht;done)|skip
 case callR f xs=>
  simp only[l8]at h;obtain⟨h1,h2⟩:=hfl _ _ _ _ _ _ h;exact⟨h1,fun id hid=>h2 id hid hid⟩
 case appR sz b s x=>
  simp only[l8]at h;exact axv h
 all_goals
  simp only[l8]at h
  repeat' (split at h)
  all_goals first|(cases h;done)|(cases h;exact app _)
def agy{n a x v}(h:l8 call base fr H (.store n a x)=some (v,H')):∃id,(ev fr a).obj?=some (some id)/\H'.length=H.length/\∀i,i≠id->H'[i]?=H[i]?:=by
 simp only[l8,bu]at h;obtain⟨H1,h1,e⟩:=h;cases e;unfold ak3 at h1;split at h1
 .rename_i id g off hv;split at h1
  .split at h1
   .split at h1
    .cases h1
     exact⟨id,by rw[hv];rfl,by simp,fun i hi=>by rw[ae (sj hi)]⟩
    .cases h1
   .cases h1
  .cases h1
 .cases h1
def ai9{sz bytes s x v}(h:aky H base sz bytes s x=some (v,H')):H'=H\/(∃o,H'=H++[o])\/∃id g len o,s=.sl id g 0 len 1/\base<=id/\H'=H.set id o:=by
 unfold aky at h;split at h
 case h_2=>cases h
 split at h
 case isFalse=>cases h
 split at h
 .split at h
  .cases h;exact .inl rfl
  .split at h
   .cases h;exact .inr (.inl ⟨_,rfl⟩)
   .cases h
 .split at h
  case isFalse=>cases h
  rename_i hb;split at h
  case h_2=>cases h
  split at h
  case isFalse=>cases h
  split at h
  .cases h;exact .inl rfl
  .split at h
   .cases h;exact .inr (.inr ⟨_,_,_,_,rfl,hb,rfl⟩)
   .cases h
 .cases h
def axj{sz bytes s x v}(h:l8 call base fr H (.append sz bytes s x)=some (v,H')):∀i,i<H.length->(ev fr s).appObj≠some (some i)->H'[i]?=H[i]?:=by
 intro i hi hne;simp only[l8,qp]at h;split at h
 .rcases ai9 h with rfl|⟨o,rfl⟩|⟨id,g,len,o,hv,_,rfl⟩
  .rfl
  .exact ah hi
  .refine ae fun e=>hne ?_;rw[hv,<- e];rfl
 .split at h
  .split at h
   .split at h
    .cases h;rfl
    .split at h
     .cases h;exact ah hi
     .cases h
   .split at h
    .cases h;rfl
    .split at h
     .cases h;exact ah hi
     .cases h
   .split at h
    .cases h;rfl
    .cases h
   .rename_i id g off len sz' hv;split at h
    .split at h
     .split at h
      .split at h
       .cases h;rfl
       .split at h
        .cases h;refine ae fun e=>hne ?_;rw[hv,<- e];rfl
        .cases h
      .cases h
     .cases h
    .cases h
   .cases h
  .cases h
def apr(hfl:∀v args base H r H',call v args base H=some (r,H')->H.length<=H'.length/\∀id,id<base->id<H.length->H'[id]?=H[id]?){op v}(h:l8 call base fr H op=some (v,H')):
 H.length<=H'.length/\∀id,id<base->id<H.length->H'[id]?=H[id]?:=by
 have stay:H.length<=H.length/\∀id,id<base->id<H.length->H[id]?=H[id]?:=⟨aj _,fun _ _ _=>rfl⟩
 have app:∀(o:Ob),H.length<=(H++[o]).length/\∀id,id<base->id<H.length->(H++[o])[id]?=H[id]?:=fun o=>⟨by simp,fun id _ hid=>by rw[ah hid]⟩
 have set:∀(i:Nat) (o:Ob),base<=i->H.length<=(H.set i o).length/\∀id,id<base->id<H.length->(H.set i o)[id]?=H[id]?:=fun i o hi=>⟨by simp,fun id hid _=>by rw[ae (by omega)]⟩
 cases hc:op.cls with
 |t=>obtain⟨rfl,_⟩:=an8 hc h;exact stay
 |r=>obtain⟨rfl,_⟩:=ak8 hc h;exact stay
 |a=>obtain⟨h1,h2⟩:=a5v hfl hc h;exact⟨h1,fun id _ hid=>h2 id hid⟩
 |w=>
   cases op<;>first|(simp[AOp.cls]at hc;done)|skip
   case call f xs=>exact hfl _ _ _ _ _ _ (by simpa only[l8]using h)
   case callP f xs=>
    simp only[l8]at h
    repeat' (split at h)
    all_goals first|(cases h;done)|(cases h;exact stay)
   case store n a x=>
    simp only[l8,bu]at h;obtain⟨H1,h1,e⟩:=h;cases e;unfold ak3 at h1
    repeat' (split at h1)
    all_goals first|(cases h1;done)|(cases h1;exact set _ _ (by assumption))
   case bstr x=>
    simp only[l8,bu]at h;obtain⟨_,_,e⟩:=h;cases e;exact stay
   case copy sz d s=>
    simp only[l8,copyV]at h
    repeat' (split at h)
    all_goals first|(cases h;done)|(cases h;first|exact stay|(refine set _ _ ?_;rename_i hh _ _ _ ;exact hh.2)|(refine set _ _ ?_;simp_all;done))
   case append sz bytes s x=>
    simp only[l8,qp]at h;split at h
    .rcases ai9 h with rfl|⟨o,rfl⟩|⟨id,g,len,o,_,hb,rfl⟩
     .exact stay
     .exact app _
     .exact set _ _ hb
    repeat' (split at h)
    all_goals first|(cases h;done)|(cases h;first|exact stay|exact app _|(refine set _ _ ?_;rename_i hh _ _ _ _ _ _ ;exact hh.2)|(refine set _ _ ?_;simp_all;done))
   all_goals
    simp only[l8]at h
    repeat' (split at h)
    all_goals first|(cases h;done)|(cases h;first|exact stay|exact app _|(refine set _ _ ?_;simp_all;done))
def adl{op}(ht:op.isM=false){v}(h:l8 call base fr H op=some (v,H')):H'=H:=by
 cases hc:op.cls with
 |t=>exact(an8 hc h).1
 |r=>exact(ak8 hc h).1
 |a=>simp[AOp.isM,hc]at ht
 |w=>simp[AOp.isM,hc]at ht
end
section
variable {ops:Array Oper}
def bitsOf(acc:Array Nat)(o:Oper):Nat:=o.after.foldl (fun s e=>if Region.binds .any e then s ||| 2^e.on ||| acc.getD e.on 0 else s) 0
theorem auu:Region.before ops=ops.toList.foldl (fun acc o=>acc.push (bitsOf acc o)) #[]:=by
 unfold Region.before;rw[<- ajg];rfl
def a6z(acc o){i}(h:(bitsOf acc o).testBit i=true):∃e∈o.after,Region.binds .any e=true/\(i=e.on\/(acc.getD e.on 0).testBit i=true):=by
 unfold bitsOf at h;rw[<- ajg]at h
 have key:∀(l:List Edge) (s:Nat),(l.foldl (fun s e=>if Region.binds .any e then s ||| 2^e.on ||| acc.getD e.on 0 else s) s).testBit i=true->s.testBit i=true\/∃e∈l,Region.binds .any e=true/\(i=e.on\/(acc.getD e.on 0).testBit i=true):=by
  intro l
  induction l with
  |nil=>intro s h;exact .inl h
  |cons e l ih=>
    intro s h;rw[ahf]at h
    rcases ih _ h with h|⟨e',he',h⟩
    .by_cases hb:Region.binds .any e=true
     .rw[dw hb,Nat.testBit_or,Nat.testBit_or,Nat.testBit_two_pow]at h;simp only[kr,lm]at h
      rcases h with(h|h)|h
      .exact .inl h
      .exact .inr ⟨e,jh,hb,.inl h.symm⟩
      .exact .inr ⟨e,jh,hb,.inr h⟩
     .rw[fu hb]at h;exact .inl h
    .exact .inr ⟨e',il _ he',h⟩
 rcases key _ _ h with h|⟨e,he,h⟩
 .simp at h
 .exact⟨e,by simpa using he,h⟩
def axu:∀(l:List Oper) (acc:Array Nat),
 (∀(j v:Nat),acc[j]?=some v->(l.foldl (fun acc o=>acc.push (bitsOf acc o)) acc)[j]?=some v)/\
 ∀(j v:Nat),(l.foldl (fun acc o=>acc.push (bitsOf acc o)) acc)[j]?=some v->acc[j]?=some v\/(acc.size<=j/\∃(o:Oper) (pre:Array Nat),l[j-acc.size]?=some o/\v=bitsOf pre o/\
   ∀(m x:Nat),pre[m]?=some x->(l.foldl (fun acc o=>acc.push (bitsOf acc o)) acc)[m]?=some x):=by
 intro l
 induction l with
 |nil=>intro acc;exact⟨fun j v h=>h,fun j v h=>.inl h⟩
 |cons o l ih=>
   intro acc;rw[ahf];obtain⟨h1,h2⟩:=ih (acc.push (bitsOf acc o))
   have hp:∀(j v:Nat),acc[j]?=some v->(acc.push (bitsOf acc o))[j]?=some v:=by
    intro j v h;have:=(bmv.1 h).1
    rw[aba,fu (by omega)];exact h
   refine⟨fun j v h=>h1 j v (hp j v h),fun j v h=>?_⟩
   rcases h2 j v h with h|⟨hj,o',pre,e1,e2,e3⟩
   .rw[aba]at h;split at h
    .rename_i hjs;cases h
     refine .inr ⟨by omega,o,acc,by simp[hjs],rfl,fun m x hm=>h1 m x (hp m x hm)⟩
    .exact .inl h
   .simp only[ahh]at hj e1
    refine .inr ⟨by omega,o',pre,?_,e2,e3⟩
    have:j-acc.size=j-(acc.size+1)+1:=by omega
    rw[this,wu];exact e1
def a06{i j}(h:qz (Region.before ops).toList i j=true):∃o,ops[j]?=some o/\∃e∈o.after,Region.binds .any e=true/\(i=e.on\/qz (Region.before ops).toList i e.on=true):=by
 unfold qz at h
 have hget:∃v,(Region.before ops)[j]?=some v/\v.testBit i=true:=by
  cases e:(Region.before ops)[j]? with
  |none=>
    have:(Region.before ops).toList.getD j 0=0:=by simp[List.getD,e]
    rw[this]at h;simp at h
  |some v=>
    have:(Region.before ops).toList.getD j 0=v:=by simp[List.getD,e]
    rw[this]at h;exact⟨v,rfl,h⟩
 obtain⟨v,hv,hb⟩:=hget;rw[auu]at hv
 rcases(axu ops.toList #[]).2 j v hv with h0|⟨_,o,pre,e1,e2,e3⟩
 .simp at h0
 .subst e2;obtain⟨e,he,hbe,hi⟩:=a6z pre o hb
  refine⟨o,by simpa using e1,e,he,hbe,hi.imp id fun hi=>?_⟩
  unfold qz;cases ep:pre[e.on]? with
  |none=>
    have:pre.getD e.on 0=0:=by simp[ep]
    rw[this]at hi;simp at hi
  |some x=>
    have:pre.getD e.on 0=x:=by simp[ep]
    rw[this]at hi;have hx:=e3 _ _ ep;rw[<- auu]at hx
    have:(Region.before ops).toList.getD e.on 0=x:=by simp[List.getD,hx]
    rw[this];exact hi
def Dn(ops:Array Oper)(S:Nat->Bool):Prop:=∀j,S j=true->∀i,qz (Region.before ops).toList i j=true->S i=true
def ins(S:Nat->Bool)(i:Nat):Nat->Bool:=fun k=>S k||k==i
def ahx{S:Nat->Bool}(hd:Dn ops S){j o}(ho:ops[j]?=some o)(hall:∀e∈o.after,Region.binds .any e=true->S e.on=true){i}(h:qz (Region.before ops).toList i j=true):S i=true:=by
 obtain⟨o',ho',e,he,hb,hi⟩:=a06 h;rw[ho]at ho';cases ho';have:=hall e he hb
 rcases hi with rfl|hi
 .exact this
 .exact hd _ this _ hi
def bdc{S:Nat->Bool}(hd:Dn ops S){j o}(ho:ops[j]?=some o)(hall:∀e∈o.after,Region.binds .any e=true->S e.on=true):Dn ops (ins S j):=by
 intro k hk i hi;unfold ins at hk |-;simp only[kr,dz]at hk |-
 rcases hk with hk|rfl
 .exact .inl (hd k hk i hi)
 .exact .inl (ahx hd ho hall hi)
end
section
variable {call:o8} {base:Nat}
def aes(call:o8)(base:Nat)(o:AOper)(F:List V)(G:Heap)(v:V)(F':List V)(G':Heap):Prop:=
 F'=put o.dst v F/\((want o F=some false/\v=und/\G'=G)\/(want o F=some true/\l8 call base F G o.op=some (v,G')))
def an5:∀(l:List AOper) (fr:List V) (H:Heap) (fr':List V) (H':Heap),mg call base l fr H=some (fr',H')->
 ∃(F:Nat->List V) (G:Nat->Heap) (val:Nat->V),F 0=fr/\G 0=H/\F l.length=fr'/\G l.length=H'/\
   ∀k o,l[k]?=some o->aes call base o (F k) (G k) (val k) (F (k+1)) (G (k+1)):=by
 intro l
 induction l with
 |nil=>intro fr H fr' H' h;cases h;exact⟨fun _=>fr,fun _=>H,fun _=>und,rfl,rfl,rfl,rfl,fun k o h=>by simp at h⟩
 |cons o l ih=>
   intro fr H fr' H' h;have build:∀(v:V) (H1:Heap),mg call base l (put o.dst v fr) H1=some (fr',H')->aes call base o fr H v (put o.dst v fr) H1->
    ∃(F:Nat->List V) (G:Nat->Heap) (val:Nat->V),F 0=fr/\G 0=H/\F (o::l).length=fr'/\G (o::l).length=H'/\
      ∀k o',(o::l)[k]?=some o'->aes call base o' (F k) (G k) (val k) (F (k+1)) (G (k+1)):=by
    intro v H1 h1 hs;obtain⟨F,G,val,a1,a2,a3,a4,a5⟩:=ih _ _ _ _ h1
    refine⟨fun k=>match k with|0=>fr|k+1=>F k,fun k=>match k with|0=>H|k+1=>G k,fun k=>match k with|0=>v|k+1=>val k,rfl,rfl,a3,a4,?_⟩
    intro k o' hk;cases k with
    |zero=>simp at hk;subst hk;simp only[a1,a2];exact hs
    |succ k=>exact a5 k o' (by simpa using hk)
   simp only[mg]at h;split at h
   .cases h
   .rename_i hw;exact build und H h ⟨rfl,.inl ⟨hw,rfl,rfl⟩⟩
   .rename_i hw;split at h
    .rename_i v H1 hop;exact build v H1 h ⟨rfl,.inr ⟨hw,hop⟩⟩
    .cases h
def lw(dst:Nat->Option Nat)(val:Nat->V)(f0:V)(S:Nat->Bool)(s:Nat):Nat->V
 |0=>f0
 |k+1=>if S k=true/\dst k=some s then val k else lw dst val f0 S s k
variable {dst:Nat->Option Nat} {val:Nat->V} {f0:V} {S:Nat->Bool} {s i:Nat}
def ad5:∀m,(∀k,k<m->dst k=some s->(S k=true↔k<i))->lw dst val f0 S s m=lw dst val f0 (fun _=>true) s (min m i):=by
 intro m
 induction m with
 |zero=>intro _;simp[lw]
 |succ m ih=>
   intro h
   have h':=ih fun k hk=>h k (by omega)
   by_cases hd:dst m=some s
   .have hm:=h m (by omega) hd
    by_cases hs:S m=true
    .have hi:=hm.1 hs
     have e:min (m+1) i=m+1:=by omega
     rw[e];simp[lw,hs,hd]
    .have hi:¬m<i:=fun hi=>hs (hm.2 hi)
     have e:min (m+1) i=min m i:=by omega
     rw[e,<- h'];simp[lw,hs]
   .have e1:lw dst val f0 S s (m+1)=lw dst val f0 S s m:=by simp[lw,hd]
    rw[e1,h'];by_cases hi:m<i
    .have e2:min (m+1) i=m+1:=by omega
     have e3:min m i=m:=by omega
     rw[e2,e3];simp[lw,hd]
    .have e2:min (m+1) i=min m i:=by omega
     rw[e2]
def atp(h:dst i≠some s):∀m,lw dst val f0 (ins S i) s m=lw dst val f0 S s m:=by
 intro m
 induction m with
 |zero=>rfl
 |succ m ih=>
   simp only[lw,ih];by_cases hm:m=i
   .subst hm;simp[h]
   .simp[ins,hm]
def atq(h:dst i=some s):∀m,i<m->(∀k,i<k->k<m->dst k=some s->S k=false)->lw dst val f0 (ins S i) s m=val i:=by
 intro m
 induction m with
 |zero=>intro hi;omega
 |succ m ih=>
   intro hi hk;by_cases hm:m=i
   .subst hm;simp[lw,ins,h]
   .have e:lw dst val f0 (ins S i) s (m+1)=lw dst val f0 (ins S i) s m:=by
     have:¬(ins S i m=true/\dst m=some s):=by
      rintro⟨h1,h2⟩
      have:=hk m (by omega) (by omega) h2
      simp[ins,this,hm]at h1
     simp only[lw,fu this]
    rw[e]
    exact ih (by omega) fun k h1 h2=>hk k h1 (by omega)
def SF(dst:Nat->Option Nat)(val:Nat->V)(fr:List V)(N:Nat)(S:Nat->Bool):List V:=(List.range fr.length).map fun s=>lw dst val (fr.getD s .unk) S s N
def acw{fr N}(s):(SF dst val fr N S).getD s .unk=if s<fr.length then lw dst val (fr.getD s .unk) S s N else .unk:=by
 unfold SF;by_cases h:s<fr.length
 .simp[h]
 .simp[h]
def vg{fr N}:(SF dst val fr N S).length=fr.length:=by simp[SF]
def ad6{x y:List V}(hl:x.length=y.length)(h:∀s,s<x.length->x.getD s .unk=y.getD s .unk):x=y:=by
 apply a7o hl;intro s h1 h2;have:=h s h1
 simpa[List.getD,h1,h2]using this
def ab5(d v fr):(put d v fr).length=fr.length:=by cases d<;>simp[put]
def ags(d v fr s)(hs:s<fr.length):(put d v fr).getD s .unk=if d=some s then v else fr.getD s .unk:=by
 cases d with
 |none=>simp[put]
 |some d=>
   by_cases h:d=s
   .subst h;simp[put,hs]
   .simp[put,h]
end
section
variable {CC:CX} {μ:Mu} {Mt:Nat->Prop} {w:World} {H:Heap} {P:Program} [BtOk CC P] {pure':PX} {call:o8} {base:Nat}
def VW.obj{m v}(h:VW m v){id}(ho:v.obj?=some (some id)):id<m:=by
 cases h<;>simp[V.obj?]at ho<;>(subst ho;assumption)
def auq{p q:Nat->Bool}:∀{l:List Nat},(∀k∈l,q k=true->p k=true)->(∃k∈l,p k=true/\q k=false)->l.countP q<l.countP p:=by
 intro l
 induction l with
 |nil=>rintro _ ⟨k,hk,_⟩;cases hk
 |cons x l ih=>
   intro h hx;have hle:∀(l:List Nat),(∀k∈l,q k=true->p k=true)->l.countP q<=l.countP p:=fun l h=>List.countP_mono_left h;rw[List.countP_cons,List.countP_cons];obtain⟨k,hk,h1,h2⟩:=hx
   rcases mq.1 hk with rfl|hk
   .have:=hle l fun k hk=>h k (il _ hk);simp[h1,h2];omega
   .have:=ih (fun k hk=>h k (il _ hk)) ⟨k,hk,h1,h2⟩;have hx:=h x jh;by_cases hq:q x=true
    .simp[hq,hx hq];omega
    .simp[hq];split<;>omega
structure Row (P:Program) (pure':PX) (call:o8) (base:Nat) (ops:Array Oper) (l:List AOper) (chk:List (Nat × Nat)) (fr fr':List V) (H H':Heap) (F:Nat->List V) (G:Nat->Heap) (val:Nat->V):Prop where
 reg:auz P pure' ops l
 ord:adj (Region.before ops).toList chk l=true
 back:afs ops=true
 f0:F 0=fr
 g0:G 0=H
 fN:F l.length=fr'
 gN:G l.length=H'
 steps:∀k o,l[k]?=some o->aes call base o (F k) (G k) (val k) (F (k+1)) (G (k+1))
 apart:chk.all (zm call base l fr H fr')=true
 floor:∀v args base H r H',call v args base H=some (r,H')->H.length<=H'.length/\∀id,id<base->id<H.length->H'[id]?=H[id]?
variable {ops:Array Oper} {l:List AOper} {chk:List (Nat × Nat)} {fr fr':List V} {H H':Heap} {F:Nat->List V} {G:Nat->Heap} {val:Nat->V}
abbrev xx(l:List AOper)(k:Nat):Option Nat:=(l.getD k default).dst
def abu{k o}(h:l[k]?=some o):l.getD k default=o:=by simp[List.getD,h]
def Row.frames(R:Row P pure' call base ops l chk fr fr' H H' F G val):∀k,k<=l.length->(F k).length=fr.length/\∀s,s<fr.length->(F k).getD s .unk=lw (xx l) val (fr.getD s .unk) (fun _=>true) s k:=by
 intro k
 induction k with
 |zero=>intro _;rw[R.f0];exact⟨rfl,fun s _=>rfl⟩
 |succ k ih=>
   intro hk
   obtain⟨h1,h2⟩:=ih (by omega)
   have hl:l[k]?=some l[k]:=af (by omega)
   have hs:=(R.steps k _ hl).1;rw[hs]
   refine⟨by rw[ab5,h1],fun s hs'=>?_⟩
   rw[ags _ _ _ _ (by rw[h1];exact hs'),h2 s hs']
   have hd:xx l k=l[k].dst:=by rw[xx,abu hl]
   simp only[lw,hd,aie]
def Row.ordered(R:Row P pure' call base ops l chk fr fr' H H' F G val){i j}(hij:i<j)(hj:j<l.length):
 aab (l.getD i default) (l.getD j default)=false\/qz (Region.before ops).toList i j=true\/(aiy (l.getD i default) (l.getD j default)=true/\(i,j)∈chk):=by
 have h:=R.ord;unfold adj at h;simp only[au]at h;have h:=h.2;rw[bq]at h
 have h:=h j (by simpa using hj)
 rw[bq]at h
 have h:=h i (by simpa using hij)
 simp only[kr,xy,au]at h
 rcases h with(h|h)|h
 .exact .inl h
 .exact .inr (.inl h)
 .exact .inr (.inr ⟨h.1,by simpa using h.2⟩)
def agi:∀(a b:List AOper) (fr:List V) (H:Heap),mg call base (a++b) fr H=match mg call base a fr H with|some (fr',H')=>mg call base b fr' H' | none=>none:=by
 intro a
 induction a with
 |nil=>intro b fr H;rfl
 |cons o a ih=>
   intro b fr H;simp only[bg,mg];cases want o fr with
   |none=>rfl
   |some q=>cases q with
     |false=>exact ih _ _ _
     |true=>
       cases l8 call base fr H o.op with
       |none=>rfl
       |some r=>exact ih _ _ _
def Row.upto(R:Row P pure' call base ops l chk fr fr' H H' F G val):∀k,k<=l.length->mg call base (l.take k) fr H=some (F k,G k):=by
 intro k
 induction k with
 |zero=>intro _;rw[fq,R.f0,R.g0];rfl
 |succ k ih=>
   intro hk
   have hl:l[k]?=some l[k]:=af (by omega)
   rw[List.take_succ,hl,aje,agi,ih (by omega)]
   obtain⟨h1,h2⟩:=R.steps k _ hl;rw[h1]
   rcases h2 with⟨w,v,g⟩|⟨w,e⟩
   .simp only[mg,w,v,g]
   .simp only[mg,w,e]
def Row.pair(R:Row P pure' call base ops l chk fr fr' H H' F G val){S:Nat->Bool}(hd:Dn ops S){i k}(hik:k≠i)(hi:i<l.length)(hk:k<l.length)(hSi:S i=false)(hah:∀j,qz (Region.before ops).toList j i=true->S j=true)(hc1:aab (l.getD i default) (l.getD k default)=true)(hc2:aab (l.getD k default) (l.getD i default)=true):
 (S k=true↔k<i)\/(k<i/\aiy (l.getD k default) (l.getD i default)=true/\(k,i)∈chk)\/(i<k/\aiy (l.getD i default) (l.getD k default)=true/\(i,k)∈chk):=by
 by_cases h:k<i
 .rcases R.ordered h hi with h1|h1|h1
  .rw[hc2]at h1;cases h1
  .exact .inl ⟨fun _=>h,fun _=>hah k h1⟩
  .exact .inr (.inl ⟨h,h1⟩)
 .have h':i<k:=by omega
  rcases R.ordered h' hk with h1|h1|h1
  .rw[hc1]at h1;cases h1
  .exact .inl ⟨fun hs=>(by have:=hd k hs i h1;rw[hSi]at this;cases this),fun hlt=>absurd hlt h⟩
  .exact .inr (.inr ⟨h',h1⟩)
def apt{a b}(h:clash a b=true):aab a b=true:=by simp[aab,h]
def apl{a b}(h:clash a b=true):aiy a b=false:=by simp[aiy,h]
def a6o{a b}(h:a.op.cls=.w)(k:b.op.cls=.r):aab a b=true/\aab b a=true:=by simp[aab,h,k]
def bfs{o:AOp}(h:o.cls=.t):o.isM=false:=by simp[AOp.isM,h]
def bft{o:AOp}(h:o.cls=.r):o.isM=false:=by simp[AOp.isM,h]
def isM_a{o:AOp}(h:o.cls=.a):o.isM=true:=by simp[AOp.isM,h]
def bjx{o:AOp}(h:o.cls=.w):o.isM=true:=by simp[AOp.isM,h]
def ar4{a b}(h:a.op.isM=true)(k:b.op.isM=true):aab a b=true:=by simp[aab,h,k]
def arj{a b}(h:a.op.isM=true)(k:b.op.isM=true):aiy a b=false:=by
 obtain⟨_,oa,_⟩:=a;obtain⟨_,ob,_⟩:=b
 cases oa<;>first|(simp[AOp.isM,AOp.cls]at h;done)|(cases ob<;>first|(simp[AOp.isM,AOp.cls]at k;done)|(simp[aiy];done))
def a0h{a b}(h:a.op.cls=.w)(k:b.op.cls=.r)(hl:aiy a b=true\/aiy b a=true):(∃n x v,a.op=.store n x v)\/(∃sz bytes s x,a.op=.append sz bytes s x)\/∃f xs,a.op=.call f xs:=by
 obtain⟨_,oa,_⟩:=a;obtain⟨_,ob,_⟩:=b
 cases oa<;>first|(simp[AOp.cls]at h;done)|exact .inl ⟨_,_,_,rfl⟩|exact .inr (.inl ⟨_,_,_,_,rfl⟩)|exact .inr (.inr ⟨_,_,rfl⟩)|(cases ob<;>first|(simp[AOp.cls]at k;done)|(simp[aiy]at hl;done))
def aun{o:AOper}{s:Nat}(h:o.dst=some s):s∈o.names:=by simp[AOper.names,h]
def apw(a b):clash a b=clash b a:=by unfold clash;rw[Bool.or_comm]
def Row.clashes(R:Row P pure' call base ops l chk fr fr' H H' F G val){S:Nat->Bool}(hd:Dn ops S){i k}(hik:k≠i)(hi:i<l.length)(hk:k<l.length)(hSi:S i=false)(hah:∀j,qz (Region.before ops).toList j i=true->S j=true)(hc:clash (l.getD k default) (l.getD i default)=true):S k=true↔k<i:=by
 have hc':clash (l.getD i default) (l.getD k default)=true:=by rw[apw];exact hc
 rcases R.pair hd hik hi hk hSi hah (apt hc') (apt hc)with h|⟨_,h,_⟩|⟨_,h,_⟩
 .exact h
 .rw[apl hc]at h;cases h
 .rw[apl hc']at h;cases h
def anw{o s}(h:s∈o.names){a}(ha:a.dst=some s):clash a o=true:=by
 simp[clash,ha,h]
def Row.slot(R:Row P pure' call base ops l chk fr fr' H H' F G val){S:Nat->Bool}(hd:Dn ops S){i}(hi:i<l.length)(hSi:S i=false)(hah:∀j,qz (Region.before ops).toList j i=true->S j=true){s}(hs:s∈(l.getD i default).reads):(SF (xx l) val fr l.length S).getD s .unk=(F i).getD s .unk:=by
 obtain⟨hlen,hF⟩:=R.frames i (by omega)
 rw[acw];split
 .rename_i hlt;rw[hF s hlt,ad5 (i:=i) l.length fun k hk hdk=>?_]
  .rw[aoi (by omega)]
  .by_cases hki:k=i
   .subst hki;rw[hSi]
    exact⟨fun h=>(by cases h),fun h=>absurd h (acg _)⟩
   .exact R.clashes hd hki hi hk hSi hah (anw (lh _ hs) hdk)
 .rename_i hlt;simp[List.getD,hlen,hlt]
def Row.after(R:Row P pure' call base ops l chk fr fr' H H' F G val){S:Nat->Bool}(hd:Dn ops S){i:Nat}(hi:i<l.length)(hSi:S i=false)(hah:∀j,qz (Region.before ops).toList j i=true->S j=true):SF (xx l) val fr l.length (ins S i)=put (xx l i) (val i) (SF (xx l) val fr l.length S):=by
 refine ad6 (by rw[ab5,vg,vg]) fun s hs=>?_
 rw[vg]at hs
 rw[ags _ _ _ _ (by rw[vg];exact hs),acw,acw,dw hs,dw hs]
 split
 .rename_i hd';refine atq hd' _ hi fun k h1 h2 h3=>?_;cases hSk:S k with
  |false=>rfl
  |true=>
    have hn:s∈(l.getD i default).names:=by
     exact aun hd'
    have:=(R.clashes hd (by omega) hi h2 hSi hah (anw hn h3)).1 hSk
    omega
 .rename_i hd';exact atp hd' _
def af6{o:AOper}{x:Opd}(hx:x∈o.op.opds){f1 f2:List V}(h:∀s∈o.reads,f1.getD s .unk=f2.getD s .unk):ev f1 x=ev f2 x:=by
 cases x with
 |c v=>rfl
 |t s=>exact h s (jy _ (List.mem_flatMap.2 ⟨_,hx,by simp[Opd.slots]⟩))
def aeo{o f1 f2}(h:∀s∈o.reads,f1.getD s .unk=f2.getD s .unk):want o f1=want o f2:=by
 unfold want;cases hg:o.guard with
 |none=>rfl
 |some p=>
   obtain⟨t,b⟩:=p
   have:=h t (by simp[AOper.reads,hg])
   simp only[this]
def aes.same{o A A' B B' v}(h:aes call base o A B v A' B')(hm:o.op.isM=false):B'=B:=by
 rcases h.2 with⟨_,_,e⟩|⟨_,e⟩
 .exact e
 .exact adl hm e
def aes.len(hfl:∀v args base H r H',call v args base H=some (r,H')->H.length<=H'.length/\∀id,id<base->id<H.length->H'[id]?=H[id]?){o A A' B B' v}(h:aes call base o A B v A' B'):B.length<=B'.length:=by
 rcases h.2 with⟨_,_,e⟩|⟨_,e⟩
 .rw[e];exact aj _
 .exact(apr hfl e).1
def Row.step(R:Row P pure' call base ops l chk fr fr' H H' F G val){k}(hk:k<l.length):aes call base (l.getD k default) (F k) (G k) (val k) (F (k+1)) (G (k+1)):=by
 have hl:l[k]?=some l[k]:=af hk;rw[abu hl];exact R.steps k _ hl
theorem Row.lens (R:Row P pure' call base ops l chk fr fr' H H' F G val) {a b:Nat} (hab:a≤b) (hb:b≤l.length):(G a).length≤(G b).length:=by
 induction b with
 | zero=>have:a=0:=by omega
         subst this;exact aj _
 | succ b ih=>
   by_cases h:a=b+1
   ·subst h;exact aj _
   ·exact qa (ih (by omega) (by omega)) ((R.step (by omega)).len R.floor)
theorem Row.heaps (R:Row P pure' call base ops l chk fr fr' H H' F G val) {a b:Nat} (hab:a≤b) (hb:b≤l.length) (h:∀ k,a≤k→k < b→(l.getD k default).op.isM=false):G b=G a:=by
 induction b with
 | zero=>have:a=0:=by omega
         subst this;rfl
 | succ b ih=>
   by_cases hc:a=b+1
   ·subst hc;rfl
   ·rw [(R.step (by omega)).same (h b (by omega) (by omega))]
    exact ih (by omega) (by omega) fun k h1 h2=>h k h1 (by omega)
def Row.stay(R:Row P pure' call base ops l chk fr fr' H H' F G val){i}(hi:i<l.length)(hs:a1u l i=true){x}(hx:(l.getD i default).op.place=some x):ev fr' x=ev (F i) x:=by
 unfold a1u at hs;rw[hx]at hs;cases x with
 |c v=>rfl
 |t s=>
   simp only[Opd.slots,gp,iq,gy,bq,au0,kr,lm,ny,ne_eq]at hs
   obtain⟨h1,h2⟩:=R.frames i (by omega)
   obtain⟨h3,h4⟩:=R.frames l.length (aj _);rw[<- R.fN];show(F l.length).getD s .unk=(F i).getD s .unk;by_cases hlt:s<fr.length
   .rw[h2 s hlt,h4 s hlt,ad5 (S:=fun _=>true) (i:=i) l.length fun k hk hd=>?_,aoi (by omega)]
    rcases hs k hk with h|h
    .simp[h]
    .exact absurd hd h
   .simp[List.getD,h1,h3,hlt]
def Row.late(R:Row P pure' call base ops l chk fr fr' H H' F G val){i j}(hm:(i,j)∈chk)(hi:i<l.length)(hj:j<l.length){x y}(hx:(l.getD i default).op.place=some x)(hy:(l.getD j default).op.place=some y){a b}(ha:(l.getD i default).op.obj (ev (F i) x)=some (some a))(hb:(l.getD j default).op.obj (ev (F j) y)=some (some b)):a≠b:=by
 have h1:=R.apart;rw[bq]at h1;have h1:=h1 _ hm;have h2:=R.ord;unfold adj at h2;simp only[au,bq]at h2;have h2:=h2.1.1 _ hm
 have n1:(l.getD i default).op.isCallB=false:=by cases hop:(l.getD i default).op<;>first|rfl|(rw[hop]at hx;cases hx)
 have n2:(l.getD j default).op.isCallB=false:=by cases hop:(l.getD j default).op<;>first|rfl|(rw[hop]at hy;cases hy)
 simp only[zm,n1,n2,ll,zi]at h1;simp only[agl,hx,hy,R.stay hi h2.1 hx,R.stay hj h2.2 hy,ha,hb]at h1
 simpa using h1
def Row.keeps(R:Row P pure' call base ops l chk fr fr' H H' F G val){c i}(hm:(c,i)∈chk\/(i,c)∈chk)(hc:c<l.length)(hi:i<l.length){f xs}(hop:(l.getD c default).op=.call f xs){x}(hx:(l.getD i default).op.place=some x){id}(hid:(l.getD i default).op.obj (ev (F i) x)=some (some id)):(G (c+1))[id]?=(G c)[id]?:=by
 have h1:=R.apart;rw[bq]at h1;have h2:=R.ord;unfold adj at h2;simp only[au,bq]at h2
 have n1:(l.getD c default).op.isCallB=true:=by rw[hop];rfl
 have n2:(l.getD i default).op.isCallB=false:=by cases hop:(l.getD i default).op<;>first|rfl|(rw[hop]at hx;cases hx)
 have np:(l.getD c default).op.place=none:=by rw[hop];rfl
 have hs:a1u l i=true:=by
  rcases hm with hm|hm
  .exact(h2.1.1 _ hm).2
  .exact(h2.1.1 _ hm).1
 have key:ado call base l fr H fr' c i=true:=by
  rcases hm with hm|hm
  .have:=h1 _ hm;simp only[zm,agl,np,n1,n2,ll,nk,zi,qo]at this;exact this
  .have:=h1 _ hm;simp only[zm,agl,np,n1,n2,ll,nk,zi]at this
   cases hp:(l.getD i default).op.place<;>rw[hp]at this<;>simpa using this
 unfold ado at key
 rw[R.upto c (by omega),R.upto (c+1) (by omega)]at key
 simp only[a4f,hx,R.stay hi hs hx,hid]at key;exact @acb _ (Classical.propDecidable _) key
theorem Row.look (R:Row P pure' call base ops l chk fr fr' H H' F G val) {S:Nat→Bool} (hd:Dn ops S) {i p:Nat} (hi:i < l.length) (hp:p≤l.length) (hSi:S i=false)
 (hah:∀ j,qz (Region.before ops).toList j i=true→S j=true) (hp1:∀ k,k < p→(l.getD k default).op.isM=true→S k=true) (hp2:∀ k,p≤k→k < l.length→(l.getD k default).op.isM=true→S k=false)
 (hr:(l.getD i default).op.cls=.r) {x:Opd} (hx:(l.getD i default).op.place=some x) {id:Nat} (hid:(ev (F i) x).obj?=some (some id)) (hlt:i≤p→id < (G i).length) (hlt2:p≤i→id < (G p).length):(G p)[id]?=(G i)[id]?:=by
 have one:∀ k,k < l.length→(i≤k∧k < p∨p≤k∧k < i)→id < (G k).length→(G (k+1))[id]?=(G k)[id]?:=by
  intro k hk hb hlk;have hs:=R.step hk
  rcases hs.2 with ⟨_,_,e⟩ | ⟨_,e⟩
  ·rw [e]
  ·cases hc:(l.getD k default).op.cls with
   | t=>rw [adl (bfs hc) e]
   | r=>rw [adl (bft hc) e]
   | a=>exact (a5v R.floor hc e).2 id hlk
   | w=>
     have hki:k≠i:=fun h=>by subst h;rw [hr] at hc;cases hc
     have hM:(l.getD k default).op.isM=true:=bjx hc
     have fin:(aiy (l.getD k default) (l.getD i default)=true∨aiy (l.getD i default) (l.getD k default)=true)→((k,i)∈chk∨(i,k)∈chk)→(G (k+1))[id]?=(G k)[id]?:=by
      intro hla hch
      have hob:(l.getD i default).op.obj (ev (F i) x)=some (some id):=by
       rw [← hid]
       cases hop:(l.getD i default).op <;> first | rfl | (rw [hop] at hr;simp [AOp.cls] at hr;done)
      rcases a0h hc hr hla with ⟨n,a,v,hop⟩ | ⟨sz,bytes,s,y,hop⟩ | ⟨f,xs,hop⟩
      ·rw [hop] at e;obtain ⟨id',h1,_,h3⟩:=agy e;refine h3 id ?_
       have h1':(l.getD k default).op.obj (ev (F k) a)=some (some id'):=by rw [hop];exact h1
       rcases hch with hch | hch
       ·exact (R.late hch hk hi (by rw [hop];rfl) hx h1' hob).symm
       ·exact R.late hch hi hk hx (by rw [hop];rfl) hob h1'
      ·rw [hop] at e;refine axj e id hlk fun h1=>?_
       have h1':(l.getD k default).op.obj (ev (F k) s)=some (some id):=by rw [hop];exact h1
       rcases hch with hch | hch
       ·exact R.late hch hk hi (by rw [hop];rfl) hx h1' hob rfl
       ·exact R.late hch hi hk hx (by rw [hop];rfl) hob h1' rfl
      ·exact R.keeps hch hk hi hop hx hob
     rcases R.pair hd hki hi hk hSi hah (a6o hc hr).2 (a6o hc hr).1 with h | ⟨_,h,hm⟩ | ⟨_,h,hm⟩
     ·exfalso
      rcases hb with ⟨h1,h2⟩ | ⟨h1,h2⟩
      ·have:=h.1 (hp1 k h2 hM);omega
      ·have:=h.2 h2;rw [hp2 k h1 hk hM] at this;cases this
     ·exact fin (.inl h) (.inl hm)
     ·exact fin (.inr h) (.inr hm)
 have run:∀ n a b,b=a+n→b≤l.length→id < (G a).length→(∀ k,a≤k→k < b→(i≤k∧k < p∨p≤k∧k < i))→(G b)[id]?=(G a)[id]?:=by
  intro n
  induction n with
  | zero=>intro a b hb _ _ _;have:b=a:=by omega
          rw [this]
  | succ n ih=>
    intro a b hb hbl hl hk
    have h1:=ih (a+1) b (by omega) hbl (kv hl (R.lens (by omega) (by omega))) fun k h1 h2=>hk k (by omega) h2
    rw [h1]
    exact one a (by omega) (hk a (aj _) (by omega)) hl
 by_cases h:i≤p
 ·exact run (p - i) i p (by omega) hp (hlt h) fun k h1 h2=>.inl ⟨h1,h2⟩
 ·exact (run (i - p) p i (by omega) (by omega) (hlt2 (by omega)) fun k h1 h2=>.inr ⟨h1,h2⟩).symm
end
section
variable {CC:CX} {μ:Mu} {Mt:Nat→Prop} {w:World} {H:Heap} {P:Program} [BtOk CC P] {pure':PX} {call:o8} {base:Nat}
variable {ops:Array Oper} {l:List AOper} {chk:List (Nat × Nat)} {fr fr':List V} {H H':Heap} {F:Nat→List V} {G:Nat→Heap} {val:Nat→V}
def za(listed:Array Bool)(N:Nat):Nat:=(List.range N).countP fun k=>!(listed.getD k false)
def Row.turn(R:Row P pure' call base ops l chk fr fr' H H' F G val){S:Nat->Bool}(hd:Dn ops S){i p:Nat}(hi:i<l.length)(hp:p<=l.length)(hSi:S i=false)(hah:∀j,qz (Region.before ops).toList j i=true->S j=true)(hp1:∀k,k<p->(l.getD k default).op.isM=true->S k=true)(hp2:∀k,p<=k->k<l.length->(l.getD k default).op.isM=true->S k=false)(hh:HR CC μ Mt w (G p)){t:Array Value}(hf:FR μ Mt w (SF (xx l) val fr l.length S) t):
 ∃p',p'<=l.length/\(∀k,k<p'->(l.getD k default).op.isM=true->ins S i k=true)/\(∀k,p'<=k->k<l.length->(l.getD k default).op.isM=true->ins S i k=false)/\
   aes call base (l.getD i default) (SF (xx l) val fr l.length S) (G p) (val i) (SF (xx l) val fr l.length (ins S i)) (G p')/\
   (∀s∈(l.getD i default).reads,(SF (xx l) val fr l.length S).getD s .unk=(F i).getD s .unk)/\((l.getD i default).op.isM=true->G p=G i):=by
 have hs:=R.step hi;have hrd:∀s∈(l.getD i default).reads,(SF (xx l) val fr l.length S).getD s .unk=(F i).getD s .unk:=fun s hs=>R.slot hd hi hSi hah hs;have hw:=aeo hrd;have haf:=R.after hd hi hSi hah;have hcg:∀B,l8 call base (SF (xx l) val fr l.length S) B (l.getD i default).op=l8 call base (F i) B (l.getD i default).op:=fun B=>agz _ fun x hx=>af6 hx hrd;by_cases hM:(l.getD i default).op.isM=true
 .have hpi:p<=i:=by
   apply Nat.le_of_not_lt;intro h;have:=hp1 i h hM;rw[hSi]at this;cases this
  have hG:G i=G p:=by
   refine R.heaps hpi (by omega) fun k h1 h2=>?_
   cases hk:(l.getD k default).op.isM with
   |false=>rfl
   |true=>
     exfalso
     have h3:=hp2 k h1 (by omega) hk
     rcases R.pair hd (by omega:k≠i) hi (by omega) hSi hah (ar4 hM hk) (ar4 hk hM)with h|⟨_,h,_⟩|⟨_,h,_⟩
     .have:=h.2 h2;rw[h3]at this;cases this
     .rw[arj hk hM]at h;cases h
     .rw[arj hM hk]at h;cases h
  refine⟨i+1,by omega,fun k h1 h2=>?_,fun k h1 h2 h3=>?_,⟨haf,?_⟩,hrd,fun _=>hG.symm⟩
  .by_cases hk:k=i
   .subst hk;simp[ins]
   .by_cases hkp:k<p
    .simp[ins,hp1 k hkp h2]
    .exfalso
     have h3:=hp2 k (by omega) (by omega) h2
     rcases R.pair hd hk hi (by omega) hSi hah (ar4 hM h2) (ar4 h2 hM)with h|⟨_,h,_⟩|⟨_,h,_⟩
     .have:=h.2 (by omega);rw[h3]at this;cases this
     .rw[arj h2 hM]at h;cases h
     .rw[arj hM h2]at h;cases h
  .have:k≠i:=by omega
   simp[ins,hp2 k (by omega) h2 h3,this]
  .rw[hw,hcg,<- hG];exact hs.2
 .have hM':(l.getD i default).op.isM=false:=by simpa using hM
  refine⟨p,hp,fun k h1 h2=>by simp[ins,hp1 k h1 h2],fun k h1 h2 h3=>?_,⟨haf,?_⟩,hrd,fun h=>absurd h hM⟩
  .have:k≠i:=fun e=>by subst e;exact hM h3
   simp[ins,hp2 k h1 h2 h3,this]
  .rw[hw,hcg]
   rcases hs.2 with⟨h1,h2,_⟩|⟨h1,h2⟩
   .exact .inl ⟨h1,h2,rfl⟩
   .refine .inr ⟨h1,?_⟩;cases hc:(l.getD i default).op.cls with
    |t=>exact(an8 hc h2).2 _
    |a=>exact absurd (isM_a hc) hM
    |w=>exact absurd (bjx hc) hM
    |r=>
      obtain⟨_,x,hx,hb,hg⟩:=ak8 hc h2;refine hg _ fun id hid=>R.look hd hi hp hSi hah hp1 hp2 hc hx hid (fun _=>hb id hid) (fun _=>?_)
      have hpl:ahy (l.getD i default)=true:=by
       have h:=R.ord;unfold adj at h;simp only[au]at h;have h:=h.1.2;rw[bq]at h;refine h _ ?_;have:l[i]?=some l[i]:=af hi;rw[abu this];exact xu hi
      unfold ahy at hpl;rw[hc,hx]at hpl;cases x with
      |c v=>cases v<;>first|(simp at hpl;done)|(simp[ev,V.obj?]at hid;done)
      |t s=>
        have hrs:s∈(l.getD i default).reads:=by
         refine jy _ (List.mem_flatMap.2 ⟨.t s,?_,by simp[Opd.slots]⟩)
         cases hop:(l.getD i default).op<;>rw[hop]at hx<;>simp[AOp.place]at hx<;>simp[AOp.opds,hx]
        have hv:=(hf.getD s).vw hh.dom;rw[hrd s hrs]at hv;exact hv.obj hid
def bag{d:Nat->Option Nat}{v:Nat->V}{x}{S:Nat->Bool}{s}:∀(m:Nat),(∀k,k<m->d k≠some s)->lw d v x S s m=x:=by
 intro m
 induction m with
 |zero=>intro _;rfl
 |succ m ih=>
   intro h;simp only[lw]
   rw[fu (fun hc=>h m (by omega) hc.2)]
   exact ih fun k hk=>h k (by omega)
def bcs{d:Nat->Option Nat}{v:Nat->V}{f N}{S:Nat->Bool}{s}(h:∀k,k<N->d k≠some s):(SF d v f N S).getD s .unk=f.getD s .unk:=by
 rw[acw];split
 .exact bag N h
 .rename_i hlt
  simp[List.getD,jw (by omega:f.length<=s)]
def ax7(R:Row P pure' call base ops l chk fr fr' H H' F G val){ro:Option Nat}{n:Nat}{Q:Exit->Act->World->Prop}{w0:World}{ds:List Deferred}(h0:HR CC μ Mt w0 H)(i0:Option Nat)(hi0:∀i,i0=some i->i<l.length)(hw:∀(i:Nat) (o:Oper),ops[i]?=some o->i<l.length->i0≠some i->axy P pure' o (l.getD i default).op->∀(frX:List V) (μ1:Mu) (Mt1:Nat->Prop) (w1:World) (a:Act) (p:Nat) (v:V) (K:Heap) (next:Act->World->Prop),HR CC μ1 Mt1 w1 (G p)->FR μ1 Mt1 w1 frX a.tmps->
  l8 call base frX (G p) (l.getD i default).op=some (v,K)->(∀r w',ar9 CC μ1 Mt1 w1 (G p) v K (.returned r) w'->next (a.put o.dst r) w')->o.wpIn (Fw ro) n P a w1 next Q)(hp:∀(i:Nat) (o:Oper),i0=some i->ops[i]?=some o->axy P pure' o (l.getD i default).op->(l.getD i default).op.isM=true/\want (l.getD i default) (F i)=some true/\∀(frX:List V) (μ1:Mu) (Mt1:Nat->Prop) (w1:World) (a:Act) (next:Act->World->Prop),Post CC μ Mt w0 H μ1 Mt1 w1 (G i)->FR μ1 Mt1 w1 frX a.tmps->(∀s∈(l.getD i default).reads,frX.getD s .unk=(F i).getD s .unk)->(∀s,(∀k,k<l.length->xx l k≠some s)->frX.getD s .unk=fr.getD s .unk)->a.defers=ds->o.wpIn (Fw ro) n P a w1 next Q):
 ∀(fuel:Nat) (listed:Array Bool) (a:Act) (w:World) (μ':Mu) (Mt':Nat->Prop) (p:Nat),listed.size=l.length->za listed l.length<=fuel->Dn ops (fun k=>listed.getD k false)->(∀i,i0=some i->listed.getD i false=false)->p<=l.length->
   (∀k,k<p->(l.getD k default).op.isM=true->listed.getD k false=true)->(∀k,p<=k->k<l.length->(l.getD k default).op.isM=true->listed.getD k false=false)->
   Post CC μ Mt w0 H μ' Mt' w (G p)->FR μ' Mt' w (SF (xx l) val fr l.length fun k=>listed.getD k false) a.tmps->a.defers=ds->
   (i0=none->∀a' w',asg CC μ Mt w0 H ds fr' H' a' w'->Q .normal a' w')->wpAnyIn (Fw ro) n P .any ops Q fuel listed a w:=by
 have hN:l.length=ops.size:=R.reg.1;have done:∀(listed:Array Bool) (a:Act) (w:World) (μ':Mu) (Mt':Nat->Prop) (p:Nat),(∀k,k<l.length->listed.getD k false=true)->p<=l.length->
  (∀k,p<=k->k<l.length->(l.getD k default).op.isM=true->listed.getD k false=false)->
  Post CC μ Mt w0 H μ' Mt' w (G p)->FR μ' Mt' w (SF (xx l) val fr l.length fun k=>listed.getD k false) a.tmps->a.defers=ds->asg CC μ Mt w0 H ds fr' H' a w:=by
  intro listed a w μ' Mt' p hall hp hp2 hpost hf hds
  have hG:G l.length=G p:=R.heaps hp (aj _) fun k h1 h2=>by
   cases hk:(l.getD k default).op.isM with
   |false=>rfl
   |true=>have:=hp2 k h1 h2 hk;rw[hall k h2]at this;cases this
  have hF:(SF (xx l) val fr l.length fun k=>listed.getD k false)=F l.length:=by
   obtain⟨h1,h2⟩:=R.frames l.length (aj _)
   refine ad6 (by rw[vg,h1]) fun s hs=>?_
   rw[vg]at hs;rw[acw,dw hs,h2 s hs,ad5 (i:=l.length) l.length fun k hk _=>?_,Nat.min_self];simp[hall k hk,hk]
  rw[hF,R.fN]at hf;rw[<- hG,R.gN]at hpost;exact⟨μ',Mt',hpost,hf,hds⟩
 have none_ready:∀listed:Array Bool,listed.size=l.length->Region.ready .any ops listed=[]->∀k,k<l.length->listed.getD k false=true:=by
  intro listed hsz hr k
  induction k using Nat.strongRecOn with
  |ind k ih=>
    intro hk;cases hl:listed.getD k false with
    |true=>rfl
    |false=>
      exfalso
      have ho:ops[k]?=some ops[k]:=ko (by omega)
      have hmem:k∈Region.ready .any ops listed:=by
       refine mem_ready.2 ⟨?_,_,ho,fun e he hb=>?_⟩
       .have:k<listed.size:=by omega
        simp[this]at hl |-;exact hl
       .have hB:=R.back;unfold afs at hB;rw[bq]at hB
        have hB:=hB k (by simp;omega)
        rw[ho]at hB;simp only[aei,kr,xy,lm]at hB
        rcases hB e he with h|h
        .rw[hb]at h;cases h
        .exact ih e.on h (by omega)
      rw[hr]at hmem;cases hmem
 have no0:∀listed:Array Bool,(∀i,i0=some i->listed.getD i false=false)->(∀k,k<l.length->listed.getD k false=true)->i0=none:=by
  intro listed hl hall;cases hi:i0 with
  |none=>rfl
  |some i=>
    have h1:=hl i hi;rw[hall i (hi0 i hi)]at h1;cases h1
 intro fuel
 induction fuel with
 |zero=>
   intro listed a w μ' Mt' p hsz hct hd hli0 hp hp1 hp2 hpost hf hds hQ
   have hall:∀k,k<l.length->listed.getD k false=true:=by
    intro k hk
    have h0:za listed l.length=0:=by omega
    unfold za at h0;rw[bmi]at h0
    have:=h0 k (by simpa using hk)
    simpa using this
   refine⟨?_,hQ (no0 listed hli0 hall) a w (done listed a w μ' Mt' p hall hp hp2 hpost hf hds)⟩;cases hr:Region.ready .any ops listed with
   |nil=>rfl
   |cons j js=>
     exfalso
     obtain⟨h1,o,ho,_⟩:=mem_ready.1 (show j∈Region.ready .any ops listed by rw[hr];exact jh)
     have hj:j<l.length:=by have:=(bmv.1 ho).1;omega
     have h2:=hall j hj
     have:j<listed.size:=by omega
     simp[this]at h1 h2;rw[h1]at h2;cases h2
 |succ fuel ih=>
   intro listed a w μ' Mt' p hsz hct hd hli0 hpl hp1 hp2 hpost hf hds hQ;refine⟨fun hr=>hQ (no0 listed hli0 (none_ready listed hsz hr)) a w (done listed a w μ' Mt' p (none_ready listed hsz hr) hpl hp2 hpost hf hds),fun i hir=>?_⟩;obtain⟨h1,o,ho,hall⟩:=mem_ready.1 hir
   have hi:i<l.length:=by have:=(bmv.1 ho).1;omega
   have hilt:i<listed.size:=by omega
   have hSi:listed.getD i false=false:=by simp[hilt]at h1 |-;exact h1
   have hah:∀j,qz (Region.before ops).toList j i=true->listed.getD j false=true:=fun j hj=>ahx hd ho hall hj
   have hset:(fun k=>(listed.setIfInBounds i true).getD k false)=ins (fun k=>listed.getD k false) i:=by
    funext k
    by_cases hk:k=i
    .subst hk;simp[ins,hilt]
    .rw[getD_set_ne false (sj hk)];simp[ins,hk]
   obtain⟨p',q1,q2,q3,htr,hreads,hGM⟩:=R.turn hd hi hpl hSi hah hp1 hp2 hpost.hr hf
   have hli:l[i]?=some (l.getD i default):=by rw[af hi,abu (af hi)]
   obtain⟨hdst,hcomp,hguard⟩:=R.reg.2 i o _ ho hli
   have hct':za (listed.setIfInBounds i true) l.length<=fuel:=by
    have:za (listed.setIfInBounds i true) l.length<za listed l.length:=by
     refine auq (fun k _ hk=>?_) ⟨i,by simpa using hi,by simp[hSi],?_⟩
     .have:=ay0 hset k;simp only[xy]at hk |-;rw[this]at hk;simp only[ins,oz]at hk;exact hk.1
     .have:=ay0 hset i;simp only[this,ins];simp
    omega
   by_cases hix:i0=some i
   .obtain⟨t1,t2,t3⟩:=hp i o hix ho hcomp;have hGi:=hGM t1;unfold wpOpIn;simp only[ho]
    have hw':want (l.getD i default) (SF (xx l) val fr l.length fun k=>listed.getD k false)=some true:=by rw[aeo hreads];exact t2
    rw[aa5 hguard hf hw'];simp only[jf];rw[hGi]at hpost;exact t3 _ μ' Mt' w a _ hpost hf hreads (fun s hs=>bcs hs) hds
   have next:∀(c:Value) (w1:World) (μ1:Mu) (Mt1:Nat->Prop),VR μ1 Mt1 w1 (val i) c->Post CC μ' Mt' w (G p) μ1 Mt1 w1 (G p')->wpAnyIn (Fw ro) n P .any ops Q fuel (listed.setIfInBounds i true) (a.put o.dst c) w1:=by
    intro c w1 μ1 Mt1 hv hpp
    refine ih _ _ _ μ1 Mt1 p' (by simpa using hsz) hct' (by rw[hset];exact bdc hd ho hall) (fun j hj=>by have:=ay0 hset j;rw[this];simp only[ins,oz];exact⟨hli0 j hj,by simp;intro e;subst e;exact hix hj⟩) q1 (fun k h1 h2=>(ay0 hset k).trans (q2 k h1 h2)) (fun k h1 h2 h3=>(ay0 hset k).trans (q3 k h1 h2 h3))
     (hpost.trans hpp) ?_ (by rw[put_defers];exact hds) hQ
    rw[hset,htr.1];rw[<- hdst];exact(hf.post hpost.hr hpp).put _ hv
   unfold wpOpIn;simp only[ho]
   rcases htr.2 with⟨hw2,hv,hg⟩|⟨hw2,hop⟩
   .rw[aa5 hguard hf hw2];simp only[ic,ky]
    refine⟨fun _ _=>trivial,next _ w μ' Mt' ?_ (by rw[hg];exact Post.refl hpost.hr)⟩
    rw[hv];exact .s _
   .rw[aa5 hguard hf hw2];simp only[jf];refine hw i o ho hi hix hcomp _ μ' Mt' w a p _ _ _ hpost.hr hf hop ?_;rintro r w1 ⟨c,μ1,Mt1,e,hv,hpp⟩;cases e
    exact next r w1 μ1 Mt1 hv hpp
def bee(R:Row P pure' call base ops l chk fr fr' H H' F G val)(hs:SimCall P CC call){ro n}{Q:Exit->Act->World->Prop}{w0 ds}(h0:HR CC μ Mt w0 H):
 ∀(fuel:Nat) (listed:Array Bool) (a:Act) (w:World) (μ':Mu) (Mt':Nat->Prop) (p:Nat),listed.size=l.length->za listed l.length<=fuel->Dn ops (fun k=>listed.getD k false)->p<=l.length->
   (∀k,k<p->(l.getD k default).op.isM=true->listed.getD k false=true)->(∀k,p<=k->k<l.length->(l.getD k default).op.isM=true->listed.getD k false=false)->
   Post CC μ Mt w0 H μ' Mt' w (G p)->FR μ' Mt' w (SF (xx l) val fr l.length fun k=>listed.getD k false) a.tmps->a.defers=ds->
   (∀a' w',asg CC μ Mt w0 H ds fr' H' a' w'->Q .normal a' w')->wpAnyIn (Fw ro) n P .any ops Q fuel listed a w:=
 fun fuel listed a w μ' Mt' p h1 h2 h3 h4 h5 h6 h7 h8 h9 h10=>
  ax7 R h0 none (fun _ e=>by cases e) (fun _ _ _ _ _ hc _ _ _ _ _ _ _ _ _ hh hf he hn=>aed hs hh hf hc he hn) (fun _ _ e=>by cases e) fuel listed a w μ' Mt' p h1 h2 h3 (fun _ e=>by cases e) h4 h5 h6 h7 h8 h9 (fun _=>h10)
end
section
variable {call:o8} {base:Nat} {fr fr' vs:List V} {H H':Heap}
theorem zy{x k}(h:vs.getD k .unk=ev fr x):ev vs (x.num k)=ev fr x:=by
 cases x with
 |t i=>exact h
 |c v=>rfl
def apf:∀(l:List Opd) (k:Nat),(∀j x,l[j]?=some x->vs.getD (k+j) .unk=ev fr x)->(anq k l).map (ev vs)=l.map (ev fr):=by
 intro l
 induction l with
 |nil=>intro k _;rfl
 |cons x l ih=>
   intro k h;simp only[anq,pq]
   rw[zy (by simpa using h 0 x rfl),ih (k+1) fun j y hj=>by have:=h (j+1) y (by simpa using hj);rw[<- this];congr 1;omega]
def awt:∀(l:List (Nat × Opd)) (k:Nat),(∀j x,l[j]?=some x->vs.getD (k+j) .unk=ev fr x.2)->(amc k l).map (fun p=>(p.1,ev vs p.2))=l.map (fun p=>(p.1,ev fr p.2)):=by
 intro l
 induction l with
 |nil=>intro k _;rfl
 |cons x l ih=>
   intro k h;simp only[amc,pq]
   rw[zy (by simpa using h 0 x rfl),ih (k+1) fun j y hj=>by have:=h (j+1) y (by simpa using hj);rw[<- this];congr 1;omega]
def ar6{d o k}(h:∀x,o=some x->vs.getD k .unk=ev fr x):afh vs d (acz o k)=afh fr d o:=by
 cases o with
 |none=>rfl
 |some x=>simp only[acz,mh,afh,zy (h x rfl)]
def biz{c':o8}{b'}(op)(hq:op.quiet=true)(h:∀k x,op.opds[k]?=some x->vs.getD k .unk=ev fr x):l8 c' b' vs H op.ren=l8 call base fr H op:=by
 cases op<;>first|(simp[AOp.quiet]at hq;done)|skip
 case build z pl ps=>
  have:=awt (vs:=vs) (fr:=fr) ps 0 fun j x hx=>by
   rw[ng]
   exact h j x.2 (by simp only[AOp.opds,nz,hx,mh])
  simp only[AOp.ren,l8,this]
 case mkFn f a b=>
  have h1:=apf (vs:=vs) (fr:=fr) a 0 fun j x hx=>by
   rw[ng];refine h j x ?_;simp only[AOp.opds];rw[ah (bmk.1 hx).1];exact hx
  have h2:=apf (vs:=vs) (fr:=fr) b a.length fun j x hx=>by
   refine h (a.length+j) x ?_;simp only[AOp.opds]
   rw[bz (by omega)]
   simpa using hx
  simp only[AOp.ren,l8,h1,h2]
 case subStr x lo hi=>
  have h0:=zy (vs:=vs) (k:=0) (h 0 x rfl)
  have h1:∀d,afh vs d (acz lo 1)=afh fr d lo:=fun d=>ar6 fun y hy=>h 1 y (by subst hy;rfl)
  have h2:∀d,afh vs d (acz hi (1+lo.toList.length))=afh fr d hi:=fun d=>ar6 fun y hy=>h _ y (by subst hy;cases lo<;>rfl)
  simp only[AOp.ren,l8,h0,h1,h2]
 case subSl sz x lo hi mx=>
  have h0:=zy (vs:=vs) (k:=0) (h 0 x rfl)
  have h1:∀d,afh vs d (acz lo 1)=afh fr d lo:=fun d=>ar6 fun y hy=>h 1 y (by subst hy;rfl)
  have h2:∀d,afh vs d (acz hi (1+lo.toList.length))=afh fr d hi:=fun d=>ar6 fun y hy=>h _ y (by subst hy;cases lo<;>rfl)
  cases mx with
  |none=>simp only[AOp.ren,acz,ab0,l8,h0];simp only[acz]at h1 h2;simp only[h1,h2]
  |some m=>
    have h3:=zy (vs:=vs) (k:=1+lo.toList.length+hi.toList.length) (h _ m (by cases lo<;>cases hi<;>rfl))
    cases hi with
    |none=>simp only[AOp.ren,acz,ab0,mh,l8]
    |some y=>
      have h4:=zy (vs:=vs) (k:=1+lo.toList.length) (h _ y (by cases lo<;>rfl))
      have h1':=h1 0;simp only[acz]at h1';simp only[AOp.ren,acz,mh,l8,h0,h1'];simp only[aje,bn,d9]at h3 h4;cases afh fr 0 lo with
      |none=>rfl
      |some z=>
        simp only[aje,bn,d9,h3];by_cases hz:z=0
        .subst hz;simp only[h4]
        .split
         .rename_i e1 e2;exact absurd (jk e2) hz
         .split
          .rename_i e1 e2;exact absurd (jk e2) hz
          .rfl
 case pick c a b=>simp only[AOp.ren,l8,zy (h 0 c rfl),zy (h 1 a rfl),zy (h 2 b rfl)]
 all_goals first
  |(rename_i x;simp only[AOp.ren,l8,zy (h 0 x rfl)];done)
  |(rename_i x y;simp only[AOp.ren,l8,zy (h 0 x rfl),zy (h 1 y rfl)];done)
  |(rename_i x y;simp only[AOp.ren,l8,zy (h 0 y rfl)];done)
  |(rename_i x y;simp only[AOp.ren,l8,zy (h 0 x rfl)];done)
  |(rename_i x y z;simp only[AOp.ren,l8,zy (h 0 x rfl),zy (h 1 y rfl)];done)
  |(rename_i x y z;simp only[AOp.ren,l8,zy (h 0 y rfl),zy (h 1 z rfl)];done)
  |(rename_i x y z;simp only[AOp.ren,l8,zy (h 0 z rfl)];done)
  |(rename_i x y z u;simp only[AOp.ren,l8,zy (h 0 z rfl),zy (h 1 u rfl)];done)
  |(rename_i x y z u;simp only[AOp.ren,l8,zy (h 0 u rfl)];done)
  |(rename_i x y z u q;simp only[AOp.ren,l8,zy (h 0 z rfl),zy (h 1 u rfl)];done)
def azz{op}(hq:op.quiet=true){v}(h:l8 call base fr H op=some (v,H')):H'=H:=by
 cases hc:op.cls with
 |t=>exact(an8 hc h).1
 |r=>exact(ak8 hc h).1
 |a=>cases op<;>simp[AOp.cls]at hc<;>simp[AOp.quiet]at hq
 |w=>cases op<;>simp[AOp.cls]at hc<;>simp[AOp.quiet]at hq
def aax(G:List (Nat × Bool × E))(f:List V):Prop:=∀p∈G,f.getD p.1 .unk=bl p.2.1
def Inv(fr:List V)(H:Heap)(σ:List (Nat × Ent))(f:List V):Prop:=
 ∀s,(aax (zo σ s).g f->evE fr H (zo σ s).e=some (f.getD s .unk))/\(¬aax (zo σ s).g f->f.getD s .unk=und)
def au6{G K f}(h:under G K=true)(hk:aax K f):aax G f:=by
 intro p hp;unfold under at h;rw[bq]at h;have:=h p hp;rw[ac8]at this;obtain⟨q,hq,hpq⟩:=this;simp only[au,dz]at hpq;rw[hpq.1,hpq.2];exact hk q hq
def af0{σ G f}(hi:Inv fr H σ f)(hg:aax G f){x e}(h:amo σ G x=some e):evE fr H e=some (ev f x):=by
 cases x with
 |c v=>cases h;rfl
 |t s=>
   simp only[amo]at h;split at h
   .rename_i hu;cases h;exact(hi s).1 (au6 hu hg)
   .cases h
def azi{σ G f}(hi:Inv fr H σ f)(hg:aax G f):∀{xs:List Opd} {es:List E},amn σ G xs=some es->arx fr H es=some (xs.map (ev f)):=by
 intro xs
 induction xs with
 |nil=>intro es h;cases h;rfl
 |cons x xs ih=>
   intro es h;simp only[amn]at h;split at h
   .rename_i e es' h1 h2;cases h;simp only[arx,af0 hi hg h1,ih h2,pq]
   .cases h
def ax1{σ G f}(hi:Inv fr H σ f)(hg:aax G f){o e}(h:a8a σ G o=some e){v}(he:evE fr H e=some v):l8 call base f H o=some (v,H):=by
 have gen:∀o:AOp,(if o.quiet then match amn σ G o.opds with|some xs=>some (.op o.ren xs)|none=>none else none)=some e->l8 call base f H o=some (v,H):=by
  intro o h;split at h
  .rename_i hq;split at h
   .rename_i xs hxs;cases h;simp only[evE,azi hi hg hxs]at he
    have hr:=biz (call:=call) (base:=base) (c':=fun _ _ _ _=>none) (b':=0) (vs:=o.opds.map (ev f)) (fr:=f) (H:=H) o hq (fun k x hx=>by simp[List.getD,hx])
    rw[hr]at he;split at he
    .rename_i v' H1 hop;cases he;rw[hop,azz hq hop]
    .cases he
   .cases h
  .cases h
 unfold a8a at h;split at h
 .rename_i x;have:=af0 hi hg h;rw[he]at this;simp only[l8,<- jk this]
 .rename_i c a b;split at h
  .rename_i x y z hx hy hz;cases h;have h1:=af0 hi hg hx;simp only[evE,h1,aq8]at he;have hc:ev f (.t c)=f.getD c .unk:=rfl;split at he
   .rename_i heq;have hcv:ev f (.t c)=bl true:=jk heq
    have hg2:aax (G++[(c,true,(zo σ c).e)]) f:=by
     intro p hp
     rcases mo.1 hp with hp|hp
     .exact hg p hp
     .simp at hp;subst hp;exact hcv
    have h2:=af0 hi hg2 hy;rw[he]at h2;simp only[l8,hcv,bl];rw[<- jk h2]
   .rename_i heq;have hcv:ev f (.t c)=bl false:=jk heq
    have hg2:aax (G++[(c,false,(zo σ c).e)]) f:=by
     intro p hp
     rcases mo.1 hp with hp|hp
     .exact hg p hp
     .simp at hp;subst hp;exact hcv
    have h2:=af0 hi hg2 hz;rw[he]at h2;simp only[l8,hcv,bl];rw[<- jk h2]
   .cases he
  .cases h
 .exact gen _ h
def bct(fr:List V)(H:Heap)(σ:List (Nat × Ent))(f:List V):Prop:=
 Inv fr H σ f/\∀s,aax (zo σ s).g f->∀p∈(zo σ s).g,evE fr H p.2.2=some (f.getD p.1 .unk)
def bct.start:bct fr H [] fr:=
 ⟨fun _=>⟨fun _=>rfl,fun h=>absurd (fun p hp=>by cases hp) h⟩,fun _ _ p hp=>by cases hp⟩
def anl{d v f s}(h:d≠some s):(put d v f).getD s .unk=f.getD s .unk:=by
 cases d with
 |none=>rfl
 |some k=>
   have hne':¬k=s:=fun e=>h (by rw[e])
   simp[put,ae hne']
def akq{G f d v}(h:G.all (fun p=>p.1 != d)=true):(aax G (put (some d) v f)↔aax G f)/\∀p∈G,(put (some d) v f).getD p.1 .unk=f.getD p.1 .unk:=by
 rw[bq]at h
 have:∀p∈G,(put (some d) v f).getD p.1 .unk=f.getD p.1 .unk:=by
  intro p hp;have hne:=h p hp;simp only[ny,ne_eq]at hne;exact anl (fun e=>hne (jk e).symm)
 exact⟨⟨fun h p hp=>by rw[<- this p hp];exact h p hp,fun h p hp=>by rw[this p hp];exact h p hp⟩,this⟩
def a8u{e K}:∀(G:List (Nat × Bool × E)),(∀p∈G,evE fr H p.2.2=some (bl p.2.1))->ak6 fr H (G++K) e=ak6 fr H K e:=by
 intro G
 induction G with
 |nil=>intro _;rfl
 |cons p G ih=>
   intro h;have h1:=h p jh;simp only[bg,ak6,h1,bl,a8w,jf];exact ih fun q hq=>h q (il _ hq)
def ax0{σ f}(hi:bct fr H σ f){o e}(he:a8a σ (wm σ o.guard) o.op=some e)(hreq:ak6 fr H (wm σ o.guard) e=true):
 (∃v,want o f=some true/\l8 call base f H o.op=some (v,H)/\evE fr H e=some v/\aax (wm σ o.guard) f)\/(want o f=some false/\¬aax (wm σ o.guard) f):=by
 cases hg:o.guard with
 |none=>
   rw[hg]at he hreq;simp only[wm,ak6]at he hreq;obtain⟨v,hv⟩:=Option.isSome_iff_exists.1 hreq
   have hh:aax [] f:=fun p hp=>by cases hp
   exact .inl ⟨v,by simp[want,hg],ax1 hi.1 hh he hv,hv,hh⟩
 |some tb=>
   obtain⟨t,b⟩:=tb;rw[hg]at he hreq;simp only[wm]at he hreq |-;by_cases hh:aax (zo σ t).g f
   .have hE:=(hi.1 t).1 hh
    rw[a8u _ (fun p hp=>by rw[hi.2 t hh p hp,hh p hp])]at hreq
    simp only[ak6,hE,a8w]at hreq;split at hreq
    .rename_i z hz;have hz:f.getD t .unk=bl z:=jk hz;split at hreq
     .rename_i hzb;obtain⟨v,hv⟩:=Option.isSome_iff_exists.1 hreq
      have hh2:aax ((zo σ t).g++[(t,b,(zo σ t).e)]) f:=by
       intro p hp
       rcases mo.1 hp with hp|hp
       .exact hh p hp
       .simp at hp;subst hp;rw[hz,hzb]
      exact .inl ⟨v,by simp only[want,hg,hz,bl,hzb,lg],ax1 hi.1 hh2 he hv,hv,hh2⟩
     .rename_i hzb
      refine .inr ⟨by simp only[want,hg,hz,bl];simp[hzb],fun h2=>hzb ?_⟩
      have:=h2 (t,b,(zo σ t).e) (lh _ (by simp))
      simp only[hz,bl]at this
      simpa using this
    .cases hreq
   .have hu:=(hi.1 t).2 hh
    refine .inr ⟨by simp only[want,hg,hu,und];rfl,fun h2=>hh fun p hp=>h2 p (jy _ hp)⟩
def aml:∀(os:List AOper) {τ τ':List (Nat × Ent)} {Q Q':List (List (Nat × Bool × E) × E)},amm τ Q os=some (τ',Q')->∀r∈Q,r∈Q':=by
 intro os
 induction os with
 |nil=>intro τ τ' Q Q' h r hr;cases h;exact hr
 |cons o' os ihos=>
   intro τ τ' Q Q' h r hr;simp only[amm]at h;split at h
   .split at h
    .split at h
     .exact ihos h r (jy _ hr)
     .cases h
    .exact ihos h r (jy _ hr)
   .cases h
def ao7{d σ}(h:(σ.all fun q=>q.2.g.all fun p=>p.1 != d)=true)(s):(zo σ s).g.all (fun p=>p.1 != d)=true:=by
 induction σ with
 |nil=>rfl
 |cons q τ ihτ=>
   obtain⟨k,en⟩:=q;simp only[gp,au]at h;simp only[zo];split
   .exact h.1
   .exact ihτ h.2
def bfv{σ:List (Nat × Ent)}{f:List V}(hi:bct fr H σ f){o:AOper}{e:E}{d:Nat}(hdl:d<f.length)(hok1:(wm σ o.guard).all (fun p=>p.1 != d)=true)(hok2:(σ.all fun q=>q.2.g.all fun p=>p.1 != d)=true){v:V}(h1:aax (wm σ o.guard) f->evE fr H e=some v)(h2:¬aax (wm σ o.guard) f->v=und):bct fr H ((d,⟨wm σ o.guard,e⟩)::σ) (put (some d) v f):=by
 have hG:=akq (G:=wm σ o.guard) (f:=f) (v:=v) hok1;refine⟨fun s=>?_,fun s=>?_⟩
 .simp only[zo];by_cases hs:d=s
  .rw[dw hs];subst hs
   have hv:(put (some d) v f).getD d .unk=v:=by simp[put,hdl]
   rw[hv];exact⟨fun hh=>h1 (hG.1.1 hh),fun hh=>h2 fun h3=>hh (hG.1.2 h3)⟩
  .rw[fu hs];have hH:=akq (f:=f) (v:=v) (ao7 hok2 s);rw[anl (fun e=>hs (jk e))];exact⟨fun hh=>(hi.1 s).1 (hH.1.1 hh),fun hh=>(hi.1 s).2 fun h3=>hh (hH.1.2 h3)⟩
 .simp only[zo];by_cases hs:d=s
  .rw[dw hs];intro hh p hp;rw[hG.2 p hp];have hh':=hG.1.1 hh;cases hg:o.guard with
   |none=>rw[hg]at hp;cases hp
   |some tb=>
     obtain⟨t,b⟩:=tb;rw[hg]at hp hh';simp only[wm]at hp hh';have ht:aax (zo σ t).g f:=fun q hq=>hh' q (jy _ hq)
     rcases mo.1 hp with hp|hp
     .exact hi.2 t ht p hp
     .simp at hp;subst hp;exact(hi.1 t).1 ht
  .rw[fu hs];have hH:=akq (f:=f) (v:=v) (ao7 hok2 s);intro hh p hp;rw[hH.2 p hp];exact hi.2 s (hH.1.1 hh) p hp
def a1r:∀(ops:List AOper) (σ:List (Nat × Ent)) (R:List (List (Nat × Bool × E) × E)) (f:List V) {σ':List (Nat × Ent)} {R':List (List (Nat × Bool × E) × E)},amm σ R ops=some (σ',R')->bct fr H σ f->amj ops<=f.length->
 (∀r∈R',ak6 fr H r.1 r.2=true)->∃f',mg call base ops f H=some (f',H)/\bct fr H σ' f'/\f'.length=f.length/\∀s,(∀o∈ops,o.dst≠some s)->f'.getD s .unk=f.getD s .unk:=by
 intro ops
 induction ops with
 |nil=>intro σ R f σ' R' h hi _ _;cases h;exact⟨f,rfl,hi,rfl,fun _ _=>rfl⟩
 |cons o ops ih=>
   intro σ R f σ' R' h hi hlen hR;simp only[amm]at h;split at h
   case h_2=>cases h
   rename_i e he;split at h
   .rename_i d hd;split at h
    case isFalse=>cases h
    rename_i hok;simp only[au]at hok;simp only[amj,hd]at hlen
    have hdl:d<f.length:=by omega
    have hol:amj ops<=f.length:=by omega
    have hmem:=aml ops h (wm σ o.guard,e) (lh _ (by simp))
    have fin:∀v,(aax (wm σ o.guard) f->evE fr H e=some v)->(¬aax (wm σ o.guard) f->v=und)->
     ∃f',mg call base ops (put o.dst v f) H=some (f',H)/\bct fr H σ' f'/\f'.length=f.length/\∀s,(∀o'∈o::ops,o'.dst≠some s)->f'.getD s .unk=f.getD s .unk:=by
     intro v h1 h2
     obtain⟨f',q1,q2,q3,q4⟩:=ih _ _ _ h (bfv hi hdl hok.1 hok.2 h1 h2) (by rw[ab5];exact hol) hR
     rw[hd]
     refine⟨f',q1,q2,by rw[q3,ab5],fun s hs=>?_⟩
     rw[q4 s fun o' ho'=>hs o' (il _ ho')]
     exact anl (by rw[<- hd];exact hs o jh)
    rcases ax0 (call:=call) (base:=base) hi he (hR _ hmem)with⟨v,w1,w2,w3,w4⟩|⟨w1,w4⟩
    .obtain⟨f',q1,q2⟩:=fin v (fun _=>w3) (fun h=>absurd w4 h)
     exact⟨f',by simp only[mg,w1,w2];exact q1,q2⟩
    .obtain⟨f',q1,q2⟩:=fin und (fun h=>absurd h w4) (fun _=>rfl)
     exact⟨f',by simp only[mg,w1];exact q1,q2⟩
   .rename_i hd;simp only[amj,hd]at hlen
    have hmem:=aml ops h (wm σ o.guard,e) (lh _ (by simp))
    obtain⟨f',q1,q2,q3,q4⟩:=ih _ _ _ h hi hlen hR;have q4':∀s,(∀o'∈o::ops,o'.dst≠some s)->f'.getD s .unk=f.getD s .unk:=fun s hs=>q4 s fun o' ho'=>hs o' (il _ ho')
    rcases ax0 (call:=call) (base:=base) hi he (hR _ hmem)with⟨v,w1,w2,w3,w4⟩|⟨w1,w4⟩
    .exact⟨f',by simp only[mg,w1,w2,hd,put];exact q1,q2,q3,q4'⟩
    .exact⟨f',by simp only[mg,w1,hd,put];exact q1,q2,q3,q4'⟩
def zq(ks):∀(f:List V),(ut ks f).length=f.length:=by
 induction ks with
 |nil=>intro f;rfl
 |cons k ks ih=>intro f;exact(ih _).trans (by simp)
def ac9(ks):∀(f:List V) (s:Nat),(ut ks f).getD s .unk=if s∈ks then .unk else f.getD s .unk:=by
 induction ks with
 |nil=>intro f s;simp[ut]
 |cons k ks ih=>
   intro f s;show(ut ks (f.set k .unk)).getD s .unk=_;rw[ih];by_cases h:s∈ks
   .simp[h]
   .by_cases hk:k=s
    .subst hk;by_cases hl:k<f.length
     .simp[h,hl]
     .simp[h,hl]
    .have hk':¬s=k:=fun e=>hk e.symm;simp[h,hk,hk']
def asu:∀(os:List (Nat × E)) (g g':List V),abb fr H os g=some g'->g'.length=g.length/\(∀s,(∀p∈os,p.1≠s)->g'.getD s .unk=g.getD s .unk)/\
 (∀(val:Nat->V),(∀p∈os,evE fr H p.2=some (val p.1))->∀s,s<g.length->(∃p∈os,p.1=s)->g'.getD s .unk=val s):=by
 intro os
 induction os with
 |nil=>intro g g' h;cases h;exact⟨rfl,fun _ _=>rfl,fun _ _ s _ ⟨p,hp,_⟩=>by cases hp⟩
 |cons p os ih=>
   intro g g' h;obtain⟨s0,e0⟩:=p;simp only[abb]at h;split at h
   case h_2=>cases h
   rename_i v hv;obtain⟨h1,h2,h3⟩:=ih _ _ h
   refine⟨by rw[h1];simp,fun s hs=>?_,fun val hval s hsl hex=>?_⟩
   .rw[h2 s fun q hq=>hs q (il _ hq)];have hne:s0≠s:=hs _ jh;simp[hne]
   .by_cases hin:∃q∈os,q.1=s
    .exact h3 val (fun q hq=>hval q (il _ hq)) s (by simpa using hsl) hin
    .obtain⟨q,hq,hqs⟩:=hex
     rcases mq.1 hq with rfl|hq
     .have hqs:s0=s:=hqs;subst hqs;rw[h2 s0 fun q hq e=>hin ⟨q,hq,e⟩];have:=hval (s0,e0) jh;simp only at this;rw[hv]at this;simp[hsl,jk this]
     .exact absurd ⟨q,hq,hqs⟩ hin
def aeq{ops:List AOper}{kill outs:List Nat}{f2:List V}(h:yc (aaw ops kill outs) kill fr H=some f2):∃f1,mg call base ops fr H=some (f1,H)/\ut kill f1=f2:=by
 unfold aaw at h;split at h
 case h_2=>cases h
 rename_i σ R hrow;split at h
 case isFalse=>cases h
 rename_i hok;simp only[au,bq]at hok;obtain⟨⟨k1,k2⟩,k3⟩:=hok;simp only[yc]at h;split at h
 case isFalse=>cases h
 rename_i hlen;split at h
 case isFalse=>cases h
 rename_i hR;rw[bq]at hR;obtain⟨f1,q1,q2,q3,q4⟩:=a1r (call:=call) (base:=base) ops [] [] fr hrow bct.start hlen hR;refine⟨f1,q1,?_⟩;obtain⟨g1,g2,g3⟩:=asu _ _ _ h
 refine ad6 (by rw[zq,q3,g1,zq]) fun s hs=>?_
 rw[zq,q3]at hs;rw[ac9];by_cases ho:s∈outs
 .have hnk:s ∉ kill:=by have:=k3 s ho;simpa using this
  rw[fu hnk]
  have hval:∀p∈outs.map (fun s=>(s,(zo σ s).e)),evE fr H p.2=some ((fun s=>f1.getD s .unk) p.1):=by
   intro p hp;obtain⟨s',hs',rfl⟩:=aa4.1 hp;refine(q2.1 s').1 ?_;have:=k1 s' hs';rw[List.isEmpty_iff]at this;rw[this]
   exact fun p hp=>by cases hp
  exact(g3 (fun s=>f1.getD s .unk) hval s (by rw[zq];exact hs) ⟨_,aa4.2 ⟨s,ho,rfl⟩,rfl⟩).symm
 .have h2:=g2 s fun p hp e=>by
   obtain⟨s',hs',rfl⟩:=aa4.1 hp;exact ho (e▸hs')
  rw[h2,ac9];by_cases hk:s∈kill
  .rw[dw hk,dw hk]
  .rw[fu hk,fu hk];refine q4 s fun o hm hd=>?_;have:=k2 o hm;rw[hd]at this;simp only[kr,bmd,lm]at this
   rcases this with h|h
   .exact hk h
   .exact ho h
end
section
variable {CC:CX} {μ μ0 μ1:Mu} {Mt Mt0 Mt1:Nat->Prop} {w w' w0 w1:World} {H H0 K G G':Heap} {P:Program}
def agn{m v c}(hv:VR μ Mt w v c):VW m v->VR (aeb m μ) Mt w v c:=by
 induction hv with
 |s v=>intro _;exact .s v
 |unk v=>intro _;exact .unk v
 |agg cs vs hl _ ih=>
   intro h;cases h with
   |agg _ h=>exact .agg cs vs hl fun i a b ha hb=>ih i a b ha hb (h a (ik ha))
 |tup cs vs hl _ ih=>
   intro h;cases h with
   |tup _ h=>exact .tup cs vs hl fun i a b ha hb=>ih i a b ha hb (h a (ik ha))
 |ref id g off B b hm=>
   intro h;cases h with
   |ref _ _ _ h=>exact .ref id g off B b (by rw[aaf h];exact hm)
 |pref cs B o arr e fr hB hM hs h=>intro _;exact .pref cs B o arr e fr hB hM hs h
 |sl id g off len sz B b cap arr e hm hB hc hs=>
   intro h;cases h with
   |sl _ _ _ _ _ h=>exact .sl id g off len sz B b cap arr e (by rw[aaf h];exact hm) hB hc hs
 |sl0 id g off sz B b a hm=>
   intro h;cases h with
   |sl _ _ _ _ _ h=>exact .sl0 id g off sz B b a (by rw[aaf h];exact hm)
 |psl es sz B o cap arr e fr hB hM hc hz hs h=>intro _;exact .psl es sz B o cap arr e fr hB hM hc hz hs h
 |psl0 sz cap a=>intro _;exact .psl0 sz cap a
 |esl a=>intro _;exact .esl a
 |mp id B hm=>
   intro h;cases h with
   |mp _ h=>exact .mp id B (by rw[aaf h];exact hm)
 |fn f fst cap fst' cap' hf hc _ _ ih1 ih2=>
   intro h;cases h with
   |fn _ _ _ ha hb=>exact .fn f fst cap fst' cap' hf hc (fun i a b h1 h2=>ih1 i a b h1 h2 (ha a (ik h1))) (fun i a b h1 h2=>ih2 i a b h1 h2 (hb a (ik h1)))
 |yld id B hm=>
   intro h;cases h with
   |yld _ h=>exact .yld id B (by rw[aaf h];exact hm)
def au4{m vs cs}(hv:VRs μ Mt w vs cs)(h:∀v∈vs,VW m v):VRs (aeb m μ) Mt w vs cs:=
 ⟨hv.1,fun i a b ha hb=>agn (hv.2 i a b ha hb) (h a (ik ha))⟩
def aws{m ob b}{o:Obj}(h:ObW m ob)(hr:ObR CC μ Mt w ob b o):ObR CC (aeb m μ) Mt w ob b o:=by
 cases ob with
 |cells g c=>
   cases o<;>first|exact hr.elim|skip
   exact⟨hr.1,hr.2.1,fun i a v ha hv=>agn (hr.2.2.1 i a v ha hv) (h a (ik ha)),hr.2.2.2⟩
 |map es=>
   cases o<;>first|exact hr.elim|skip
   exact⟨hr.1,hr.2.1,fun i k v e he hv=>⟨(hr.2.2 i k v e he hv).1,agn (hr.2.2 i k v e he hv).2 (h _ (ik he))⟩⟩
 |loop st pend tmps params assign body=>
   cases o<;>first|exact hr.elim|skip
   obtain⟨h0,h1,h2,h3,h4,h5,h6⟩:=hr;exact⟨h0,h1,h2,au4 h3 h,h4,h5,h6⟩
 |dead=>cases o<;>exact hr.elim
 |bytes g l=>cases o<;>first|exact hr.elim|exact hr
def a2l{m}:∀id g p,aeb m μ id g=some p->μ id g=some p:=fun _ _ _ h=>(lu h).2
def auo(m:Nat):Heap:=List.replicate m .dead
def a5d(h:HR CC μ Mt w K)(m):HR CC (aeb m μ) Mt w (auo m):=by
 have hd:∀(id:Nat) (ob:Ob),(auo m)[id]?=some ob->ob=.dead:=fun id ob e=>by
  have:=ik e;simp[auo]at this;exact this.2
 refine⟨fun id g p e=>by simpa[auo]using(lu e).1,fun id g B b e=>h.isMut id g B b (lu e).2,fun id ob g B b hH hc _=>?_,fun id g id' g' B b b' e e'=>h.inj _ _ _ _ _ _ _ (lu e).2 (lu e').2,
  fun id g g' c p _ hH=>?_,fun id g p ob _ hH=>?_,h.fix,fun id B b e=>h.zero _ _ _ (lu e).2⟩
 .rw[hd _ _ hH]at hc;exact hc.elim
 .intro hg;rw[hd _ _ hH]at hg;cases hg
 .rw[hd _ _ hH];trivial
def a5e(h:HR CC μ Mt w K)(hg:∀id,id<G.length->K[id]?=G[id]?)(hw:∀id g q ob,μ id g=some q->id<G.length->K[id]?=some ob->ObW G.length ob):HR CC (aeb G.length μ) Mt w G:=by
 have lt:∀(id:Nat) (ob:Ob),G[id]?=some ob->id<G.length:=fun id ob e=>(bmk.1 e).1;refine⟨fun id g p e=>(lu e).1,fun id g B b e=>h.isMut id g B b (lu e).2,fun id ob g B b hH hc e=>?_,fun id g id' g' B b b' e e'=>h.inj _ _ _ _ _ _ _ (lu e).2 (lu e').2,
  fun id g g' c p e hH=>h.gens _ _ _ _ _ (lu e).2 ((hg id (lt _ _ hH)).trans hH),fun id g p ob e hH=>hw id g p ob (lu e).2 (lt _ _ hH) ((hg id (lt _ _ hH)).trans hH),h.fix,fun id B b e=>h.zero _ _ _ (lu e).2⟩
 have hK:=(hg id (lt _ _ hH)).trans hH;obtain⟨o,ho,hr⟩:=h.objs id ob g B b hK hc (lu e).2;exact⟨o,ho,aws (hw id g _ ob (lu e).2 (lt _ _ hH) hK) hr⟩
def aoy(rd:List Nat)(f:List V):List V:=(List.range f.length).map fun s=>if rd.contains s then f.getD s .unk else .unk
def atm{rd f s}(hs:s∈rd):(aoy rd f).getD s .unk=f.getD s .unk:=by
 by_cases h:s<f.length
 .simp[aoy,List.getD,h,hs]
 .simp[aoy,List.getD,h]
def a4c{m rd f t}(hf:FR μ Mt w f t)(h:∀s∈rd,VW m (f.getD s .unk)):FR (aeb m μ) Mt w (aoy rd f) t:=by
 refine⟨by simpa[aoy]using hf.1,fun i a b ha hb=>?_⟩
 have hi:i<f.length:=by have:=(bmk.1 ha).1;simpa[aoy]using this
 simp only[aoy,nz,ada hi,mh,je]at ha;subst ha;split
 .rename_i hc
  have hm:i∈rd:=by simpa using hc
  have hg:f[i]?=some (f.getD i .unk):=by simp[List.getD,hi]
  exact agn (hf.2 i _ b hg hb) (h i hm)
 .exact .unk _
def Post.go{μ₂}{Mt₂:Nat->Prop}{w₂ H₂}(h:Post CC μ0 Mt0 w0 H0 μ Mt w K)(hl:H0.length<=H₂.length)(hr:HR CC μ₂ Mt₂ w₂ H₂)(ext:∀id g p,μ id g=some p->μ₂ id g=some p)(mt:∀B,B<w.heap.size->(Mt₂ B↔Mt B))(tr:Tr μ w w₂)(old:∀id g B b,μ₂ id g=some (B,b)->B<w.heap.size->∃id0 g0 b0,μ id0 g0=some (B,b0))(news:∀id g p,μ₂ id g=some p->id<H0.length->∃g0 p0,μ id g0=some p0):
 Post CC μ0 Mt0 w0 H0 μ₂ Mt₂ w₂ H₂ where
 len:=hl
 hr:=hr
 ext id g p e:=ext id g p (h.ext id g p e)
 mt B hB:=(mt B (kv hB h.tr.size)).trans (h.mt B hB)
 tr:={
  size:=qa h.tr.size tr.size
  shape:=fun B arr e fr hB=>by
   obtain⟨arr1,fr1,h1,h2⟩:=h.tr.shape B arr e fr hB;obtain⟨arr2,fr2,h3,h4⟩:=tr.shape B arr1 e fr1 h1;exact⟨arr2,fr2,h3,h4.trans h2⟩
  loops:=fun B l hB=>by
   obtain⟨l1,h1⟩:=h.tr.loops B l hB;exact tr.loops B l1 h1
  keep:=fun B hB hn=>by
   refine(tr.keep B (kv hB h.tr.size) ?_).trans (h.tr.keep B hB hn);intro id g b e;obtain⟨id0,g0,b0,e0⟩:=h.old id g B b e hB;exact hn id0 g0 b0 e0
  back:=fun B arr e hB=>by
   rcases tr.back B arr e hB with⟨arr1,h1⟩|h1
   .exact h.tr.back B arr1 e h1
   .exact .inr (qa h.tr.size h1)
  os:=tr.os.trans h.tr.os
  tape:=tr.tape.trans h.tr.tape
  output:=tr.output.trans h.tr.output }
 old id g B b e hB:=by
  obtain⟨id1,g1,b1,e1⟩:=old id g B b e (kv hB h.tr.size);exact h.old id1 g1 B b1 e1 hB
 news id g p e hid:=by
  obtain⟨g1,p1,e1⟩:=news id g p e hid;exact h.news id g1 p1 e1 hid
def post_at(hp:Post CC μ0 Mt0 w0 H0 μ Mt w K){id ob}(hn:∀g,μ id g=none)(hid:H0.length<=id)(hK:K[id]?=some ob)(o:Obj)(hob:ObR CC μ Mt w ob 0 o):
 Post CC μ0 Mt0 w0 H0 (aol μ id 0 (w.heap.size,0)) (fun B=>Mt B\/B=w.heap.size) (w.alloc o) K:=by
 have h:=hp.hr;have hh:(w.alloc o).heap=w.heap.push o:=rfl;have hμ:=agp (p:=(w.heap.size,0)) (hn 0)
 have hM:∀B,B<w.heap.size->(Mt B\/B=w.heap.size)->Mt B:=fun B hB hm=>hm.resolve_right (by omega)
 have hk:∀B,B<w.heap.size->¬Mt B->(w.alloc o).heap[B]?=w.heap[B]?:=fun B hB _=>qj hh hB;have hsh:∀(B:Nat) (arr:Array Value) (e:TypeId) (fr:Nat × Nat),w.heap[B]?=some (.cells arr e fr)->∃arr' fr',(w.alloc o).heap[B]?=some (.cells arr' e fr')/\arr'.size=arr.size:=
  fun B arr e fr hB=>⟨arr,fr,(qj hh (lt_of_some hB)).trans hB,rfl⟩
 have hbk:∀(B:Nat) (arr:Array Value) (e:TypeId) (fr:Nat × Nat),(w.alloc o).heap[B]?=some (.cells arr e fr)->(∃arr0,w.heap[B]?=some (.cells arr0 e fr))\/w.heap.size<=B:=by
  intro B arr e fr hB;by_cases hlt:B<w.heap.size
  .exact .inl ⟨arr,(qj hh hlt).symm.trans hB⟩
  .exact .inr (by omega)
 have hsz:(w.alloc o).heap.size=w.heap.size+1:=by rw[hh,ahh]
 have hlt:id<K.length:=(bmk.1 hK).1
 have cases_mu:∀i g p,aol μ id 0 (w.heap.size,0) i g=some p->(i=id/\g=0/\p=(w.heap.size,0))\/(i≠id/\μ i g=some p):=by
  intro i g p e;by_cases c:i=id/\g=0
  .obtain⟨rfl,rfl⟩:=c;rw[uo]at e;exact .inl ⟨rfl,rfl,(jk e).symm⟩
  .rw[aac c]at e;refine .inr ⟨fun hi=>?_,e⟩;subst hi;rw[hn]at e;cases e
 refine hp.go hp.len ⟨?_,?_,?_,?_,?_,?_,h.fixed hM hk,h.zero_upd (fun _=>rfl)⟩ hμ (fun B hB=>⟨hM B hB,.inl⟩) ⟨by omega,hsh,fun B l hB=>⟨l,(qj hh (lt_of_some hB)).trans hB⟩,fun B hB _=>qj hh hB,fun B arr e hB=>hbk B arr e _ hB,rfl,rfl,rfl⟩ ?_ ?_
 .intro i g p e
  rcases cases_mu i g p e with⟨rfl,_,_⟩|⟨_,e'⟩
  .exact hlt
  .exact h.dom _ _ _ e'
 .intro i g B b e
  rcases cases_mu i g _ e with⟨_,_,hp⟩|⟨_,e'⟩
  .cases hp;exact⟨.inr rfl,by omega⟩
  .exact⟨.inl (h.isMut _ _ _ _ e').1,by have:=(h.isMut _ _ _ _ e').2;omega⟩
 .intro i ob' g B b hH hc e
  rcases cases_mu i g _ e with⟨rfl,rfl,hp⟩|⟨_,e'⟩
  .cases hp;rw[hK]at hH;cases hH;exact⟨o,xw hh,hob.mono hμ hM hk hsh⟩
  .obtain⟨o',ho',hr⟩:=h.objs i ob' g B b hH hc e';exact⟨o',(qj hh (lt_of_some ho')).trans ho',hr.mono hμ hM hk hsh⟩
 .intro i g i' g' B b b' e1 e2
  rcases cases_mu i g _ e1 with⟨r1,_,p1⟩|⟨l1,e1'⟩<;>rcases cases_mu i' g' _ e2 with⟨r2,_,p2⟩|⟨l2,e2'⟩
  .rw[r1,r2]
  .cases p1;have:=(h.isMut _ _ _ _ e2').2;omega
  .cases p2;have:=(h.isMut _ _ _ _ e1').2;omega
  .exact h.inj _ _ _ _ _ _ _ e1' e2'
 .intro i g g' c p e hH
  rcases cases_mu i g _ e with⟨rfl,rfl,_⟩|⟨_,e'⟩
  .exact fun _=>jo _
  .exact h.gens _ _ _ _ _ e' hH
 .intro i g p ob' e hH
  rcases cases_mu i g _ e with⟨rfl,_,_⟩|⟨_,e'⟩
  .rw[hK]at hH;cases hH;exact hob.obw h.dom
  .exact h.wf i g _ ob' e' hH
 .intro i g B b e hB
  rcases cases_mu i g _ e with⟨_,_,hp⟩|⟨_,e'⟩
  .cases hp;omega
  .exact⟨_,_,_,e'⟩
 .intro i g p e hi
  rcases cases_mu i g _ e with⟨rfl,_,_⟩|⟨_,e'⟩
  .omega
  .exact⟨_,_,e'⟩
def az0{K'}(hp:Post CC μ0 Mt0 w0 H0 μ Mt w K)(k:Post CC (aeb G.length μ) Mt w G μ1 Mt1 w1 G')(hl:H0.length<=G.length)(hK:∀id,id<G'.length->K'[id]?=G'[id]?)(hK2:∀id,G'.length<=id->K'[id]?=K[id]?)(hKK:K'.length=K.length)(hGK:G'.length<=K.length)(hno:∀id g q,μ id g=some q->G.length<=id->G'.length<=id):
 Post CC μ0 Mt0 w0 H0 (fun id g=>if id<G'.length then μ1 id g else μ id g) Mt1 w1 K':=by
 have h:=hp.hr;have hGG:=k.len
 have hμ1:∀id g p,μ1 id g=some p->(fun id g=>if id<G'.length then μ1 id g else μ id g) id g=some p:=fun id g p e=>by
  have:=k.hr.dom _ _ _ e;simp only[dw this];exact e
 have hμ:∀id g p,μ id g=some p->(fun id g=>if id<G'.length then μ1 id g else μ id g) id g=some p:=fun id g p e=>by
  by_cases hi:id<G.length
  .exact hμ1 _ _ _ (k.ext id g p (by rw[aaf hi];exact e))
  .have:=hno _ _ _ e (by omega)
   simp only[fu (show ¬id<G'.length by omega)];exact e
 have cs:∀id g p,(fun id g=>if id<G'.length then μ1 id g else μ id g) id g=some p->(id<G'.length/\μ1 id g=some p)\/(G'.length<=id/\μ id g=some p):=fun id g p e=>by
  by_cases hi:id<G'.length
  .simp only[dw hi]at e;exact .inl ⟨hi,e⟩
  .simp only[fu hi]at e;exact .inr ⟨by omega,e⟩
 have hM:∀B,B<w.heap.size->Mt1 B->Mt B:=fun B hB hm=>(k.mt B hB).1 hm;have hk:∀B,B<w.heap.size->¬Mt B->w1.heap[B]?=w.heap[B]?:=fun B hB hn=>k.tr.keep B hB fun id g b e=>hn (h.isMut _ _ _ _ (lu e).2).1
 have far:∀id g B b,μ id g=some (B,b)->G'.length<=id->w1.heap[B]?=w.heap[B]?:=fun id g B b e hi=>k.tr.keep B (h.isMut _ _ _ _ e).2 fun id' g' b' e'=>by
  obtain⟨h1,h2⟩:=lu e';have:=h.inj _ _ _ _ _ _ _ e h2;omega
 refine hp.go (by rw[hKK];exact hp.len) ⟨?_,?_,?_,?_,?_,?_,k.hr.fix,?_⟩ hμ k.mt ⟨k.tr.size,k.tr.shape,k.tr.loops,fun B hB hn=>k.tr.keep B hB fun id g b e=>hn _ _ _ (lu e).2,k.tr.back,k.tr.os,k.tr.tape,k.tr.output⟩ ?_ ?_
 .intro id g p e
  rcases cs id g p e with⟨hi,_⟩|⟨_,e'⟩
  .omega
  .rw[hKK];exact h.dom _ _ _ e'
 .intro id g B b e
  rcases cs id g _ e with⟨_,e'⟩|⟨_,e'⟩
  .exact k.hr.isMut _ _ _ _ e'
  .obtain⟨h1,h2⟩:=h.isMut _ _ _ _ e';exact⟨(k.mt B h2).2 h1,kv h2 k.tr.size⟩
 .intro id ob g B b hH hc e
  rcases cs id g _ e with⟨hi,e'⟩|⟨hi,e'⟩
  .rw[hK id hi]at hH;obtain⟨o,ho,hr⟩:=k.hr.objs id ob g B b hH hc e';exact⟨o,ho,hr.mono hμ1 (fun _ _ hm=>hm) (fun _ _ _=>rfl) (fun B arr e fr hB=>⟨arr,fr,hB,rfl⟩)⟩
  .rw[hK2 id hi]at hH;obtain⟨o,ho,hr⟩:=h.objs id ob g B b hH hc e';exact⟨o,(far _ _ _ _ e' hi).trans ho,hr.mono hμ hM hk k.tr.shape⟩
 .intro id g id' g' B b b' e1 e2
  rcases cs id g _ e1 with⟨i1,e1'⟩|⟨i1,e1'⟩<;>rcases cs id' g' _ e2 with⟨i2,e2'⟩|⟨i2,e2'⟩
  .exact k.hr.inj _ _ _ _ _ _ _ e1' e2'
  .obtain⟨id0,g0,b0,e0⟩:=k.old id g B b e1' (h.isMut _ _ _ _ e2').2;obtain⟨h1,h2⟩:=lu e0;have:=h.inj _ _ _ _ _ _ _ h2 e2';omega
  .obtain⟨id0,g0,b0,e0⟩:=k.old id' g' B b' e2' (h.isMut _ _ _ _ e1').2;obtain⟨h1,h2⟩:=lu e0;have:=h.inj _ _ _ _ _ _ _ h2 e1';omega
  .exact h.inj _ _ _ _ _ _ _ e1' e2'
 .intro id g g' c p e hH
  rcases cs id g _ e with⟨hi,e'⟩|⟨hi,e'⟩
  .rw[hK id hi]at hH;exact k.hr.gens _ _ _ _ _ e' hH
  .rw[hK2 id hi]at hH;exact h.gens _ _ _ _ _ e' hH
 .intro id g p ob e hH
  rcases cs id g _ e with⟨hi,e'⟩|⟨hi,e'⟩
  .rw[hK id hi]at hH;exact(k.hr.wf id g p ob e' hH).mono (by rw[hKK];exact hGK)
  .rw[hK2 id hi]at hH;rw[hKK];exact h.wf id g p ob e' hH
 .intro id B b e
  rcases cs id 0 _ e with⟨_,e'⟩|⟨_,e'⟩
  .exact k.hr.zero _ _ _ e'
  .exact h.zero _ _ _ e'
 .intro id g B b e hB
  rcases cs id g _ e with⟨_,e'⟩|⟨_,e'⟩
  .obtain⟨id0,g0,b0,e0⟩:=k.old id g B b e' hB;exact⟨_,_,_,(lu e0).2⟩
  .exact⟨_,_,_,e'⟩
 .intro id g p e hi
  rcases cs id g _ e with⟨_,e'⟩|⟨_,e'⟩
  .obtain⟨g0,p0,e0⟩:=k.news id g p e' (by omega)
   exact⟨_,_,(lu e0).2⟩
  .exact⟨_,_,e'⟩
def bac(hp:Post CC μ0 Mt0 w0 H0 μ Mt w K)(k:Post CC (aeb G.length μ) Mt w G μ1 Mt1 w1 G')(hno:∀id g q,μ id g=some q->G.length<=id->G'.length<=id){v c}(hv:VR μ Mt w v c):VR (fun id g=>if id<G'.length then μ1 id g else μ id g) Mt1 w1 v c:=by
 have h:=hp.hr;have hGG:=k.len;refine hv.mono (fun id g p e=>?_) (fun B hB hm=>(k.mt B hB).1 hm) (fun B hB hn=>k.tr.keep B hB fun id g b e=>hn (h.isMut _ _ _ _ (lu e).2).1) k.tr.shape;by_cases hi:id<G.length
 .have e1:=k.ext id g p (by rw[aaf hi];exact e)
  have:=k.hr.dom _ _ _ e1;simp only[dw this];exact e1
 .have:=hno _ _ _ e (by omega)
  simp only[fu (show ¬id<G'.length by omega)];exact e
def at_vr(h:HR CC μ Mt w K){id}(hn:μ id 0=none)(o:Obj){v c}(hv:VR μ Mt w v c):VR (aol μ id 0 (w.heap.size,0)) (fun B=>Mt B\/B=w.heap.size) (w.alloc o) v c:=by
 have hh:(w.alloc o).heap=w.heap.push o:=rfl
 exact hv.mono (agp hn) (fun B hB hm=>hm.resolve_right (by omega)) (fun B hB _=>qj hh hB) (fun B arr e fr hB=>⟨arr,fr,(qj hh (lt_of_some hB)).trans hB,rfl⟩)
def a7s{v c}(h:VR μ Mt w v c){id}(ho:v.obj?=some (some id)):∃g q,μ id g=some q:=by
 cases h<;>simp[V.obj?]at ho
 .subst ho;exact⟨_,_,‹_›⟩
 .subst ho;exact⟨_,_,‹_›⟩
def a9t(G:Nat->Heap):Nat->Nat->Heap
 |0,j=>G j
 |d+1,j=>G j++(a9t G d (j+1)).drop (G j).length
def a9s{G:Nat->Heap}:∀(d j:Nat),(∀k,j<=k->k<j+d->(G k).length<=(G (k+1)).length)->(a9t G d j).length=(G (j+d)).length/\(G j).length<=(G (j+d)).length:=by
 intro d
 induction d with
 |zero=>intro j _;exact⟨rfl,aj _⟩
 |succ d ih=>
   intro j h
   obtain⟨h1,h2⟩:=ih (j+1) fun k hk1 hk2=>h k (by omega) (by omega)
   have h3:=h j (aj _) (by omega)
   have e:j+(d+1)=j+1+d:=by omega
   rw[e]
   refine⟨?_,by omega⟩
   simp only[a9t,gm,ig,h1];omega
def awk{G:Nat->Heap}(d j){id}(h:id<(G j).length):(a9t G d j)[id]?=(G j)[id]?:=by
 cases d with
 |zero=>rfl
 |succ d=>exact ah h
def a3h{G:Nat->Heap}(d j){id}(h:(G j).length<=id):(a9t G (d+1) j)[id]?=(a9t G d (j+1))[id]?:=by
 show(G j++_)[id]?=_;rw[bz h,jc]
 congr 1
 omega
def atf{G:Nat->Heap}(d j)(hl:(G j).length<=(G (j+1)).length)(h:∀id,id<(G j).length->(G (j+1))[id]?=(G j)[id]?):a9t G (d+1) j=a9t G d (j+1):=by
 apply wh;intro id;by_cases hi:id<(G j).length
 .rw[awk _ _ hi,awk _ _ (by omega),h id hi]
 .exact a3h d j (by omega)
end
theorem ao3(ops i j):abv ops i j=abv ops j i:=by
 unfold abv;rw[apw];generalize clash _ _=c;generalize((ops.getD i default).op.isSt&&_)=x;generalize((ops.getD j default).op.isSt&&_)=y;cases c<;>cases x<;>cases y<;>rfl
structure RowA (P:Program) (pure':PX) (call:o8) (base:Nat) (ops:Array Oper) (l:List AOper) (fr fr':List V) (H H':Heap) (F:Nat->List V) (G:Nat->Heap) (val:Nat->V):Prop where
 reg:auz P pure' ops l
 ord:agu (Region.before ops).toList l=true
 back:afs ops=true
 f0:F 0=fr
 g0:G 0=H
 fN:F l.length=fr'
 gN:G l.length=H'
 steps:∀k o,l[k]?=some o->aes call base o (F k) (G k) (val k) (F (k+1)) (G (k+1))
 floor:∀v args base H r H',call v args base H=some (r,H')->H.length<=H'.length/\∀id,id<base->id<H.length->H'[id]?=H[id]?
section
variable {CC:CX} {μ μ0:Mu} {Mt Mt0:Nat->Prop} {w w0:World} {P:Program} [BtOk CC P] {pure':PX} {call:o8} {base:Nat}
variable {ops:Array Oper} {l:List AOper} {fr fr':List V} {H H':Heap} {F:Nat->List V} {G:Nat->Heap} {val:Nat->V}
abbrev opAt(l:List AOper)(k:Nat):AOper:=l.getD k default
def RowA.frames(R:RowA P pure' call base ops l fr fr' H H' F G val):∀k,k<=l.length->(F k).length=fr.length/\∀s,s<fr.length->(F k).getD s .unk=lw (xx l) val (fr.getD s .unk) (fun _=>true) s k:=by
 intro k
 induction k with
 |zero=>intro _;rw[R.f0];exact⟨rfl,fun s _=>rfl⟩
 |succ k ih=>
   intro hk
   obtain⟨h1,h2⟩:=ih (by omega)
   have hl:l[k]?=some l[k]:=af (by omega)
   have hs:=(R.steps k _ hl).1;rw[hs]
   refine⟨by rw[ab5,h1],fun s hs'=>?_⟩
   rw[ags _ _ _ _ (by rw[h1];exact hs'),h2 s hs']
   have hd:xx l k=l[k].dst:=by rw[xx,abu hl]
   simp only[lw,hd,aie]
def RowA.step(R:RowA P pure' call base ops l fr fr' H H' F G val){k}(hk:k<l.length):aes call base (opAt l k) (F k) (G k) (val k) (F (k+1)) (G (k+1)):=by
 have hl:l[k]?=some l[k]:=af hk;show aes call base (l.getD k default) _ _ _ _ _;rw[abu hl];exact R.steps k _ hl
def RowA.parts(R:RowA P pure' call base ops l fr fr' H H' F G val):(∀k,k<l.length->ahy (opAt l k)=true/\a0i (opAt l k).op=true)/\
 ∀i j,i<j->j<l.length->abv l i j=false\/qz (Region.before ops).toList i j=true:=by
 have h:=R.ord;unfold agu at h;simp only[au,bq]at h;obtain⟨⟨h1,h2⟩,h3⟩:=h;refine⟨fun k hk=>?_,fun i j hij hj=>?_⟩
 .have hl:l[k]?=some l[k]:=af hk
  have hm:opAt l k∈l:=by
   show l.getD k default∈l;rw[abu hl];exact xu hk
  exact⟨h1 _ hm,h2 _ hm⟩
 .have:=h3 j (by simpa using hj) i (by simpa using hij)
  simp only[kr,xy]at this;exact this
def RowA.sep(R:RowA P pure' call base ops l fr fr' H H' F G val){S:Nat->Bool}(hd:Dn ops S){i k}(hik:k≠i)(hi:i<l.length)(hk:k<l.length)(hSi:S i=false)(hah:∀j,qz (Region.before ops).toList j i=true->S j=true)(hc:abv l k i=true):S k=true↔k<i:=by
 by_cases h:k<i
 .rcases R.parts.2 k i h hi with h1|h1
  .rw[hc]at h1;cases h1
  .exact⟨fun _=>h,fun _=>hah k h1⟩
 .have h':i<k:=by omega
  rcases R.parts.2 i k h' hk with h1|h1
  .rw[ao3,hc]at h1;cases h1
  .exact⟨fun hs=>(by have:=hd k hs i h1;rw[hSi]at this;cases this),fun hlt=>absurd hlt h⟩
theorem axs{l i j}(h:clash (opAt l i) (opAt l j)=true):abv l i j=true:=by
 have h':clash (l.getD i default) (l.getD j default)=true:=h;unfold abv;rw[h'];rfl
def RowA.clashes(R:RowA P pure' call base ops l fr fr' H H' F G val){S:Nat->Bool}(hd:Dn ops S){i k}(hi:i<l.length)(hk:k<l.length)(hSi:S i=false)(hah:∀j,qz (Region.before ops).toList j i=true->S j=true){s}(hs:s∈(opAt l i).names)(hdk:xx l k=some s):S k=true↔k<i:=by
 by_cases hki:k=i
 .subst hki;rw[hSi]
  exact⟨fun h=>(by cases h),fun h=>absurd h (acg _)⟩
 .exact R.sep hd hki hi hk hSi hah (axs (anw hs hdk))
def RowA.slot(R:RowA P pure' call base ops l fr fr' H H' F G val){S:Nat->Bool}(hd:Dn ops S){i}(hi:i<l.length)(hSi:S i=false)(hah:∀j,qz (Region.before ops).toList j i=true->S j=true){s}(hs:s∈(opAt l i).reads):(SF (xx l) val fr l.length S).getD s .unk=(F i).getD s .unk:=by
 obtain⟨hlen,hF⟩:=R.frames i (by omega)
 rw[acw];split
 .rename_i hlt;rw[hF s hlt,ad5 (i:=i) l.length fun k hk hdk=>R.clashes hd hi hk hSi hah (lh _ hs) hdk]
  rw[aoi (by omega)]
 .rename_i hlt;simp[List.getD,hlen,hlt]
def RowA.after(R:RowA P pure' call base ops l fr fr' H H' F G val){S:Nat->Bool}(hd:Dn ops S){i:Nat}(hi:i<l.length)(hSi:S i=false)(hah:∀j,qz (Region.before ops).toList j i=true->S j=true):SF (xx l) val fr l.length (ins S i)=put (xx l i) (val i) (SF (xx l) val fr l.length S):=by
 refine ad6 (by rw[ab5,vg,vg]) fun s hs=>?_
 rw[vg]at hs
 rw[ags _ _ _ _ (by rw[vg];exact hs),acw,acw,dw hs,dw hs]
 split
 .rename_i hd';refine atq hd' _ hi fun k h1 h2 h3=>?_;cases hSk:S k with
  |false=>rfl
  |true=>
    have:=(R.clashes hd hi h2 hSi hah (aun hd') h3).1 hSk;omega
 .rename_i hd';exact atp hd' _
def RowA.lens1(R:RowA P pure' call base ops l fr fr' H H' F G val){k}(hk:k<l.length):(G k).length<=(G (k+1)).length:=(R.step hk).len R.floor
theorem RowA.lens (R:RowA P pure' call base ops l fr fr' H H' F G val) {a b:Nat} (hab:a≤b) (hb:b≤l.length):(G a).length≤(G b).length:=by
 induction b with
 | zero=>have:a=0:=by omega
         subst this;exact aj _
 | succ b ih=>
   by_cases h:a=b+1
   ·subst h;exact aj _
   ·exact qa (ih (by omega) (by omega)) (R.lens1 (by omega))
def RowA.nonst(R:RowA P pure' call base ops l fr fr' H H' F G val){k:Nat}(hk:k<l.length)(hs:(opAt l k).op.isSt=false):∀id,id<(G k).length->(G (k+1))[id]?=(G k)[id]?:=by
 intro id hid
 rcases(R.step hk).2 with⟨_,_,e⟩|⟨_,e⟩
 .rw[e]
 .cases hc:(opAt l k).op.cls with
  |t=>rw[adl (bfs hc) e]
  |r=>rw[adl (bft hc) e]
  |a=>exact(a5v R.floor hc e).2 id hid
  |w=>
    exfalso;have hkind:=(R.parts.1 k hk).2;simp only[a0i,hs,hc,kr,au]at hkind
    rcases hkind with(((h|h)|h)|h)|h
    .cases h.1
    .cases h
    .cases hop:(opAt l k).op<;>rw[hop]at h hc<;>simp[AOp.isNew]at h<;>simp[AOp.cls]at hc
    .cases h
    .cases hop:(opAt l k).op<;>rw[hop]at h hc<;>simp[AOp.isCR]at h<;>simp[AOp.cls]at hc
def RowA.A(_:RowA P pure' call base ops l fr fr' H H' F G val)(j:Nat):Heap:=a9t G (l.length-j) j
def RowA.A_len(R:RowA P pure' call base ops l fr fr' H H' F G val){j}(hj:j<=l.length):(R.A j).length=(G l.length).length:=by
 have:=(a9s (G:=G) (l.length-j) j fun k _ h2=>R.lens1 (by omega)).1
 rw[show j+(l.length-j)=l.length by omega]at this
 exact this
def RowA.A_lt(R:RowA P pure' call base ops l fr fr' H H' F G val){j id}(h:id<(G j).length):(R.A j)[id]?=(G j)[id]?:=awk _ _ h
def RowA.A_ge1(R:RowA P pure' call base ops l fr fr' H H' F G val){j}(hj:j<l.length){id}(h:(G j).length<=id):(R.A j)[id]?=(R.A (j+1))[id]?:=by
 unfold RowA.A
 rw[show l.length-j=(l.length-(j+1))+1 by omega]
 exact a3h _ _ h
def RowA.A_st(R:RowA P pure' call base ops l fr fr' H H' F G val){j}(hj:j<l.length)(hs:(opAt l j).op.isSt=false):R.A j=R.A (j+1):=by
 unfold RowA.A
 rw[show l.length-j=(l.length-(j+1))+1 by omega]
 exact atf _ _ (R.lens1 hj) (R.nonst hj hs)
theorem RowA.A_eq (R:RowA P pure' call base ops l fr fr' H H' F G val) {a b:Nat} (hab:a≤b) (hb:b≤l.length) (h:∀ k,a≤k→k < b→(opAt l k).op.isSt=false):R.A a=R.A b:=by
 induction b with
 | zero=>have:a=0:=by omega
         subst this;rfl
 | succ b ih=>
   by_cases hc:a=b+1
   ·subst hc;rfl
   ·rw [ih (by omega) (by omega) fun k h1 h2=>h k h1 (by omega),R.A_st (by omega) (h b (by omega) (by omega))]
theorem RowA.A_ge (R:RowA P pure' call base ops l fr fr' H H' F G val) {a b:Nat} (hab:a≤b) (hb:b≤l.length) {id:Nat} (hid:∀ k,a≤k→k < b→(G k).length≤id):(R.A a)[id]?=(R.A b)[id]?:=by
 induction b with
 | zero=>have:a=0:=by omega
         subst this;rfl
 | succ b ih=>
   by_cases hc:a=b+1
   ·subst hc;rfl
   ·rw [ih (by omega) (by omega) fun k h1 h2=>hid k h1 (by omega),R.A_ge1 (by omega) (hid b (by omega) (by omega))]
def StP(l:List AOper)(S:Nat->Bool)(p:Nat):Prop:=∀k,k<l.length->(opAt l k).op.isSt=true->(S k=true↔k<p)
def RowA.mid(R:RowA P pure' call base ops l fr fr' H H' F G val){S:Nat->Bool}{p i}(hp:p<=l.length)(hi:i<=l.length)(h1:StP l S p)(h2:StP l S i):R.A p=R.A i:=by
 have no:∀k,k<l.length->(p<=k/\k<i\/i<=k/\k<p)->(opAt l k).op.isSt=false:=by
  intro k hk hb;cases hs:(opAt l k).op.isSt with
  |false=>rfl
  |true=>
    exfalso;have a:=h1 k hk hs;have b:=h2 k hk hs;have:k<p↔k<i:=a.symm.trans b;omega
 by_cases h:p<=i
 .exact R.A_eq h hi fun k h3 h4=>no k (by omega) (.inl ⟨h3,h4⟩)
 .exact(R.A_eq (by omega) hp fun k h3 h4=>no k (by omega) (.inr ⟨h3,h4⟩)).symm
def RowA.stI(R:RowA P pure' call base ops l fr fr' H H' F G val){S:Nat->Bool}(hd:Dn ops S){i}(hi:i<l.length)(hSi:S i=false)(hah:∀j,qz (Region.before ops).toList j i=true->S j=true)(hk:(opAt l i).op.isSt=true\/((opAt l i).op.cls=.r/\agc l i=false)\/(opAt l i).op.isCR=true):StP l S i:=by
 intro k hkl hs;by_cases hki:k=i
 .subst hki;rw[hSi]
  exact⟨fun h=>(by cases h),fun h=>absurd h (acg _)⟩
 .refine R.sep hd hki hi hkl hSi hah ?_;have hs':(l.getD k default).op.isSt=true:=hs;have hk':(l.getD i default).op.isSt=true\/((l.getD i default).op.cls=.r/\agc l i=false)\/(l.getD i default).op.isCR=true:=hk;unfold abv;rw[hs']
  rcases hk' with h|⟨h,h2⟩|h
  .rw[h];simp
  .rw[h,h2];simp
  .rw[h];simp
def Old(l:List AOper)(i:Nat):Prop:=∃n,a3v l n i=true
def Old.cls{i}(h:Old l i):((opAt l i).op.cls=.t/\(opAt l i).op.isCall=false)\/(opAt l i).op.cls=.r:=by
 obtain⟨n,h⟩:=h;cases n with
 |zero=>cases h
 |succ n=>
   simp only[a3v,au,kr,dz,xy]at h;exact h.1
def Old.reads{i s k}(h:Old l i)(hs:s∈(opAt l i).reads)(hk:k<l.length)(hd:xx l k=some s):k<i/\Old l k:=by
 obtain⟨n,h⟩:=h;cases n with
 |zero=>cases h
 |succ n=>
   simp only[a3v,au,bq,au0,kr,ny,lm]at h
   rcases h.2 s hs k hk with h1|h1
   .exact absurd hd h1
   .exact⟨h1.1,n,h1.2⟩
def a0f{i}(h:agc l i=true):alc l=true/\Old l i:=by
 unfold agc at h;simp only[au]at h;exact⟨h.1.2,_,h.2⟩
def bgd{op}(ht:op.isAB=true){fr K K' v}(h:l8 call base fr K op=some (v,K')):v=.ref K.length 0 0:=by
 cases op<;>first|(simp[AOp.isAB]at ht;done)|skip
 all_goals
  simp only[l8]at h
  repeat' (split at h)
  all_goals first|(cases h;done)|(cases h;rfl)
def RowA.st_new(R:RowA P pure' call base ops l fr fr' H H' F G val)(hn:alc l=true){k}(hk:k<l.length){n a x}(ho:(opAt l k).op=.store n a x){r}(he:l8 call base (F k) (G k) (.store n a x)=some r):
 ∃id,(ev (F k) a).obj?=some (some id)/\H.length<=id:=by
 have h1:=bq.1 hn k (by simpa using hk)
 unfold biq at h1;have ho':(l.getD k default).op=.store n a x:=ho;rw[ho']at h1;cases a with
 |c v=>cases h1
 |t s=>
   simp only[au,ac8,bq,au0,lm,dz,kr,ny]at h1;obtain⟨⟨j0,hj0,hjk,hjd⟩,hall⟩:=h1
   obtain⟨e1,e2⟩:=R.frames k (by omega)
   have hsl:s<fr.length:=by
    refine aji fun hc=>?_;obtain⟨rv,rh⟩:=r;obtain⟨id,hid,_⟩:=agy he
    have hnone:(F k)[s]?=none:=jw (by rw[e1];omega)
    simp[ev,List.getD,hnone,V.obj?]at hid
   have key:∀m,m<=k->(∃j,j<m/\xx l j=some s)->∃id,(lw (xx l) val (fr.getD s .unk) (fun _=>true) s m).obj?=some (some id)/\H.length<=id:=by
    intro m
    induction m with
    |zero=>rintro _ ⟨j,hj,_⟩;omega
    |succ m ih=>
      rintro hm ⟨j,hj,hjs⟩;simp only[lw,aie];split
      .rename_i hdm
       rcases hall m (by omega)with h|⟨h3,h4⟩
       .exact absurd hdm h
       .have hst:=R.step (show m<l.length by omega)
        rcases hst.2 with⟨hw,_,_⟩|⟨_,he⟩
        .have:(opAt l m).guard=none:=by
          have:(l.getD m default).guard=none:=by simpa using h4
          exact this
         unfold want at hw;rw[this]at hw;cases hw
        .have:=bgd h3 he;rw[this];refine⟨_,rfl,?_⟩
         have h0:=R.lens (jo m) (by omega)
         rwa[R.g0]at h0
      .rename_i hdm
       refine ih (by omega) ⟨j,?_,hjs⟩
       have:j≠m:=fun e=>by subst e;exact hdm hjs
       omega
   have:=key k (aj _) ⟨j0,hjk,hjd⟩;rw[<- e2 s hsl]at this;exact this
def RowA.old_keep(R:RowA P pure' call base ops l fr fr' H H' F G val)(hn:alc l=true):∀k,k<=l.length->∀id,id<H.length->(G k)[id]?=H[id]?:=by
 intro k
 induction k with
 |zero=>intro _ id _;rw[R.g0]
 |succ k ih=>
   intro hk id hid
   rw[<- ih (by omega) id hid]
   have hlen:=R.lens (jo k) (by omega)
   rw[R.g0]at hlen;cases hs:(opAt l k).op.isSt with
   |false=>exact R.nonst (by omega) hs id (by omega)
   |true=>
     rcases(R.step (show k<l.length by omega)).2 with⟨_,_,e⟩|⟨_,e⟩
     .rw[e]
     .obtain⟨n',a',x',hop⟩:∃n a x,(opAt l k).op=.store n a x:=by
       cases ho:(opAt l k).op<;>rw[ho]at hs<;>first|exact⟨_,_,_,rfl⟩|(simp[AOp.isSt]at hs;done)
      rw[hop]at e
      obtain⟨id1,q1,q2⟩:=R.st_new hn (by omega) hop e
      obtain⟨id2,e1,_,e3⟩:=agy e;rw[q1]at e1;cases e1
      exact e3 _ (by omega)
def RowA.A_old(R:RowA P pure' call base ops l fr fr' H H' F G val)(hn:alc l=true){p}(hp:p<=l.length){id}(hid:id<H.length):(R.A p)[id]?=H[id]?:=by
 have hlen:=R.lens (jo p) hp;rw[R.g0]at hlen
 rw[R.A_lt (by omega)]
 exact R.old_keep hn p hp id hid
structure InvA (R:RowA P pure' call base ops l fr fr' H H' F G val) (CC:CX) (μ0:Mu) (Mt0:Nat->Prop) (w0:World) (S:Nat->Bool) (p:Nat) (μ:Mu) (Mt:Nat->Prop) (w:World):Prop where
 hp:p<=l.length
 post:Post CC μ0 Mt0 w0 H μ Mt w (R.A p)
 st:StP l S p
 n1:∀id g q,μ id g=some q->H.length<=id->∃k,k<l.length/\S k=true/\(G k).length<=id/\id<(G (k+1)).length
 n2:∀k,k<l.length->S k=true->∀n a v,(opAt l k).op=.store n a v->want (opAt l k) (F k)=some true->∀id,(ev (F k) a).obj?=some (some id)->∃g q,μ id g=some q
 vv:∀m,m<l.length->S m=true->VW (G (m+1)).length (val m)
 vo:alc l=true->∀m,m<l.length->S m=true->Old l m->VW H.length (val m)
 ww:∀id g q ob,μ id g=some q->(R.A p)[id]?=some ob->∀j,j<=l.length->(∀k,k<l.length->S k=true->(opAt l k).op.isSt=true->k<j)->id<(G j).length->ObW (G j).length ob
def RowA.opw(R:RowA P pure' call base ops l fr fr' H H' F G val){S:Nat->Bool}(hd:Dn ops S){i}(hi:i<l.length)(hSi:S i=false)(hah:∀j,qz (Region.before ops).toList j i=true->S j=true)(h0:∀s,VW H.length (fr.getD s .unk))(hv:∀m,m<l.length->S m=true->VW (G (m+1)).length (val m)):
 ∀s∈(opAt l i).reads,VW (G i).length ((F i).getD s .unk):=by
 intro s hs
 obtain⟨h1,h2⟩:=R.frames i (by omega)
 by_cases hlt:s<fr.length
 .rw[h2 s hlt]
  have key:∀m,m<=i->VW (G i).length (lw (xx l) val (fr.getD s .unk) (fun _=>true) s m):=by
   intro m
   induction m with
   |zero=>
     intro _;refine(h0 s).mono ?_
     have:=R.lens (jo i) (by omega)
     rwa[R.g0]at this
   |succ m ih=>
     intro hm;simp only[lw,aie];split
     .rename_i hdm
      have:=(R.clashes hd hi (show m<l.length by omega) hSi hah (lh _ hs) hdm).2 (by omega)
      exact(hv m (by omega) this).mono (R.lens (by omega) (by omega))
     .exact ih (by omega)
  exact key i (aj _)
 .simp only[List.getD,jw (by omega:(F i).length<=s)]
  exact .unk
def RowA.opw0(R:RowA P pure' call base ops l fr fr' H H' F G val){S:Nat->Bool}(hd:Dn ops S){i}(hi:i<l.length)(hSi:S i=false)(hah:∀j,qz (Region.before ops).toList j i=true->S j=true)(h0:∀s,VW H.length (fr.getD s .unk))(hv:∀m,m<l.length->S m=true->Old l m->VW H.length (val m))(ho:Old l i):
 ∀s∈(opAt l i).reads,VW H.length ((F i).getD s .unk):=by
 intro s hs
 obtain⟨h1,h2⟩:=R.frames i (by omega)
 by_cases hlt:s<fr.length
 .rw[h2 s hlt]
  have key:∀m,m<=i->VW H.length (lw (xx l) val (fr.getD s .unk) (fun _=>true) s m):=by
   intro m
   induction m with
   |zero=>intro _;exact h0 s
   |succ m ih=>
     intro hm;simp only[lw,aie];split
     .rename_i hdm
      have:=(R.clashes hd hi (show m<l.length by omega) hSi hah (lh _ hs) hdm).2 (by omega)
      exact hv m (by omega) this (ho.reads hs (by omega) hdm).2
     .exact ih (by omega)
  exact key i (aj _)
 .simp only[List.getD,jw (by omega:(F i).length<=s)]
  exact .unk
end
section
variable {CC:CX} {μ μ0:Mu} {Mt Mt0:Nat->Prop} {w w0:World} {P:Program} [BtOk CC P] {pure':PX} {call:o8} {base:Nat}
variable {ops:Array Oper} {l:List AOper} {fr fr':List V} {H H':Heap} {F:Nat->List V} {G:Nat->Heap} {val:Nat->V}
def a1v{S:Nat->Bool}{p i}(h:StP l S p)(hs:(opAt l i).op.isSt=false):StP l (ins S i) p:=by
 intro k hk hks
 have hki:k≠i:=fun e=>by subst e;rw[hs]at hks;cases hks
 have:ins S i k=S k:=by simp[ins,hki]
 rw[this];exact h k hk hks
def bip{S:Nat->Bool}{i}(h:StP l S i):StP l (ins S i) (i+1):=by
 intro k hk hks;have:=h k hk hks;by_cases hki:k=i
 .subst hki;simp[ins]
 .have e:ins S i k=S k:=by simp[ins,hki]
  rw[e,this];omega
def RowA.A_eq1(R:RowA P pure' call base ops l fr fr' H H' F G val){j}(hj:j<l.length)(hs:∀id,id<(G j).length->(G (j+1))[id]?=(G j)[id]?):R.A j=R.A (j+1):=by
 unfold RowA.A
 rw[show l.length-j=(l.length-(j+1))+1 by omega]
 exact atf _ _ (R.lens1 hj) hs
def InvA.push{R:RowA P pure' call base ops l fr fr' H H' F G val}{S:Nat->Bool}{p}(I:InvA R CC μ0 Mt0 w0 S p μ Mt w){i}(hi:i<l.length)(hSi:S i=false){p' μ'}{Mt':Nat->Prop}{w'}(hp':p'<=l.length)(post':Post CC μ0 Mt0 w0 H μ' Mt' w' (R.A p'))(st':StP l (ins S i) p')(ext:∀id g q,μ id g=some q->∃g q,μ' id g=some q)(n1':∀id g q,μ' id g=some q->H.length<=id->(∃g0 q0,μ id g0=some q0)\/((G i).length<=id/\id<(G (i+1)).length))(n2':∀n a v,(opAt l i).op=.store n a v->want (opAt l i) (F i)=some true->∀id,(ev (F i) a).obj?=some (some id)->∃g q,μ' id g=some q)(vv':VW (G (i+1)).length (val i))(vo':alc l=true->Old l i->VW H.length (val i))(ww':∀id g q ob,μ' id g=some q->(R.A p')[id]?=some ob->∀j,j<=l.length->(∀k,k<l.length->ins S i k=true->(opAt l k).op.isSt=true->k<j)->id<(G j).length->ObW (G j).length ob):
 InvA R CC μ0 Mt0 w0 (ins S i) p' μ' Mt' w':=by
 have hins:∀k,ins S i k=true->k=i\/S k=true:=fun k h=>by
  simp only[ins,kr,dz]at h
  rcases h with h|h
  .exact .inr h
  .exact .inl h
 have hinc:∀k,S k=true->ins S i k=true:=fun k h=>by simp[ins,h]
 refine⟨hp',post',st',fun id g q e hid=>?_,fun k hk hS n a v hop hw id hid=>?_,fun m hm hS=>?_,fun hn m hm hS ho=>?_,ww'⟩
 .rcases n1' id g q e hid with⟨g0,q0,e0⟩|⟨h1,h2⟩
  .obtain⟨k,k1,k2,k3,k4⟩:=I.n1 id g0 q0 e0 hid;exact⟨k,k1,hinc k k2,k3,k4⟩
  .exact⟨i,hi,by simp[ins],h1,h2⟩
 .rcases hins k hS with rfl|hS
  .exact n2' n a v hop hw id hid
  .obtain⟨g,q,e⟩:=I.n2 k hk hS n a v hop hw id hid;exact ext id g q e
 .rcases hins m hS with rfl|hS
  .exact vv'
  .exact I.vv m hm hS
 .rcases hins m hS with rfl|hS
  .exact vo' hn ho
  .exact I.vo hn m hm hS ho
def InvA.fresh{R:RowA P pure' call base ops l fr fr' H H' F G val}{S:Nat->Bool}{p}(I:InvA R CC μ0 Mt0 w0 S p μ Mt w){i}(hi:i<l.length)(hSi:S i=false):∀id g q,μ id g=some q->(G i).length<=id->(G (i+1)).length<=id:=by
 intro id g q e hid
 have h0:=R.lens (jo i) (by omega)
 rw[R.g0]at h0
 obtain⟨k,k1,k2,k3,k4⟩:=I.n1 id g q e (by omega)
 have hki:k≠i:=fun e=>by subst e;rw[hSi]at k2;cases k2
 by_cases h:k<i
 .have:=R.lens (show k+1<=i by omega) (by omega);omega
 .have:=R.lens (show i+1<=k by omega) (by omega);omega
def ax8{f o m x}(hr:o.op.cls=.r)(hp:ahy o=true)(hx:o.op.place=some x)(h:∀s∈o.reads,VW m (f.getD s .unk)){id}(hid:(ev f x).obj?=some (some id)):id<m:=by
 unfold ahy at hp;rw[hr,hx]at hp;cases x with
 |c v=>cases v<;>first|(simp at hp;done)|(simp[ev,V.obj?]at hid;done)
 |t s=>
   have hrs:s∈o.reads:=by
    refine jy _ (List.mem_flatMap.2 ⟨.t s,?_,by simp[Opd.slots]⟩)
    cases hop:o.op<;>rw[hop]at hx<;>simp[AOp.place]at hx<;>simp[AOp.opds,hx]
   exact(h s hrs).obj hid
def RowA.turn(R:RowA P pure' call base ops l fr fr' H H' F G val)(hs:SimCall P CC call){S:Nat->Bool}(hd:Dn ops S){i p:Nat}(hi:i<l.length)(hSi:S i=false)(hah:∀j,qz (Region.before ops).toList j i=true->S j=true)(I:InvA R CC μ0 Mt0 w0 S p μ Mt w)(h0:∀s,VW H.length (fr.getD s .unk))(h0w:∀id g q ob,μ0 id g=some q->H[id]?=some ob->ObW H.length ob){a:Act}(hf:FR μ Mt w (SF (xx l) val fr l.length S) a.tmps){o:Oper}(ho:ops[i]?=some o){ro:Option Nat}{n:Nat}{Q:Exit->Act->World->Prop}{next:Act->World->Prop}(hnext:∀c w1 μ1 Mt1 p',InvA R CC μ0 Mt0 w0 (ins S i) p' μ1 Mt1 w1->FR μ1 Mt1 w1 (SF (xx l) val fr l.length (ins S i)) (a.put o.dst c).tmps->next (a.put o.dst c) w1):
 (if Region.wanted o (yielded ops a.tmps)=true then o.wpIn (Fw ro) n P a w next Q else next (a.put o.dst Go.undef) w):=by
 have hstep:=R.step hi;have hrd:∀s∈(opAt l i).reads,(SF (xx l) val fr l.length S).getD s .unk=(F i).getD s .unk:=fun s hs=>R.slot hd hi hSi hah hs;have hopw:=R.opw hd hi hSi hah h0 I.vv;have haf:=R.after hd hi hSi hah;have hcg:∀B,l8 call base (SF (xx l) val fr l.length S) B (opAt l i).op=l8 call base (F i) B (opAt l i).op:=fun B=>agz _ fun x hx=>af6 hx hrd
 have hmk:∀B,l8 call base (aoy (opAt l i).reads (SF (xx l) val fr l.length S)) B (opAt l i).op=l8 call base (F i) B (opAt l i).op:=fun B=>by
  rw[<- hcg B];exact agz _ fun x hx=>af6 hx fun s hs=>atm hs
 have hfm:=a4c (m:=(G i).length) (rd:=(opAt l i).reads) hf fun s hs=>by rw[hrd s hs];exact hopw s hs
 have hli:l[i]?=some (opAt l i):=by show l[i]?=some (l.getD i default);rw[af hi,abu (af hi)]
 obtain⟨hdst,hcomp,hguard⟩:=R.reg.2 i o _ ho hli;have hdst':xx l i=o.dst:=hdst;have hhr:=I.post.hr
 have hlen0:=R.lens (jo i) (by omega)
 rw[R.g0]at hlen0;have hkind:=(R.parts.1 i hi).2;have hlens:=R.lens1 hi;have hAl:=R.A_len I.hp
 have hGN:=R.lens (show i+1<=l.length by omega) (aj _)
 rcases hstep.2 with⟨hw,hv,hg⟩|⟨hw,hop⟩
 .
  have hw':want (opAt l i) (SF (xx l) val fr l.length S)=some false:=by rw[aeo hrd];exact hw
  rw[aa5 hguard hf hw'];simp only[ic,ky]
  have hsame:∀id,id<(G i).length->(G (i+1))[id]?=(G i)[id]?:=fun id _=>by rw[hg]
  have fin:∀p',p'<=l.length->R.A p'=R.A p->StP l (ins S i) p'->next (a.put o.dst Go.undef) w:=by
   intro p' hp' hA hst
   refine hnext _ w μ Mt p' (I.push hi hSi hp' (by rw[hA];exact I.post) hst (fun id g q e=>⟨g,q,e⟩) (fun id g q e _=>.inl ⟨g,q,e⟩) (fun n a v _ hw2=>by rw[hw]at hw2;cases hw2) (by rw[hv];exact .s _) (fun _ _=>by rw[hv];exact .s _) ?_) ?_
   .intro id g q ob e hob j hj hst2 hid;rw[hA]at hob
    exact I.ww id g q ob e hob j hj (fun k hk hS hs=>hst2 k hk (by simp[ins,hS]) hs) hid
   .rw[haf,hdst',hv];exact hf.put _ (.s _)
  cases hst:(opAt l i).op.isSt with
  |false=>exact fin p I.hp rfl (a1v I.st hst)
  |true=>
    have h1:=R.stI hd hi hSi hah (.inl hst)
    refine fin (i+1) (by omega) ?_ (bip h1)
    rw[<- R.A_eq1 hi hsame]
    exact(R.mid I.hp (by omega) I.st h1).symm
 .have hw':want (opAt l i) (SF (xx l) val fr l.length S)=some true:=by rw[aeo hrd];exact hw
  rw[aa5 hguard hf hw'];simp only[jf];by_cases hcs:(opAt l i).op.isSt=true\/(opAt l i).op.isCR=true
  .
   have hstI:=R.stI hd hi hSi hah (hcs.imp id .inr)
   have old_no:Old l i->(opAt l i).op.isSt=true\/(opAt l i).op.isCR=true->False:=fun ho hc=>by
    rcases ho.cls with⟨h,_⟩|h<;>rcases hc with h2|h2<;>(cases hop':(opAt l i).op<;>rw[hop']at h h2<;>simp[AOp.cls,AOp.isSt,AOp.isCR]at h h2)
   have hAi:=R.mid I.hp (by omega) I.st hstI
   have hcut:HR CC (aeb (G i).length μ) Mt w (G i):=a5e hhr (fun id hid=>by rw[hAi];exact R.A_lt hid) (fun id g q ob e hid hob=>I.ww id g q ob e hob i (by omega) (fun k hk hS hs=>(hstI k hk hs).1 hS) hid)
   refine aed hs hcut hfm hcomp (by rw[hmk];exact hop) ?_
   rintro r w1 ⟨c,μ1,Mt1,e,hvr,hpp⟩;cases e;have hno:=I.fresh hi hSi;have hK:∀id,id<(G (i+1)).length->(R.A (i+1))[id]?=(G (i+1))[id]?:=fun id hid=>R.A_lt hid
   have hK2:∀id,(G (i+1)).length<=id->(R.A (i+1))[id]?=(R.A p)[id]?:=fun id hid=>by rw[hAi];exact(R.A_ge1 hi (by omega)).symm
   have pm:=az0 (K':=R.A (i+1)) I.post hpp hlen0 hK hK2 (by rw[R.A_len (by omega),hAl]) (by rw[hAl];exact hGN) hno
   refine hnext r w1 _ Mt1 (i+1) (I.push hi hSi (by omega) pm (bip hstI) (fun id g q e=>⟨g,q,?_⟩) (fun id g q e hid=>?_) (fun n' a' v' hop' hw2 id hid=>?_) (hvr.vw hpp.hr.dom) (fun _ ho=>(old_no ho hcs).elim) ?_) ?_
   .by_cases hid:id<(G i).length
    .have e1:=hpp.ext id g q (by rw[aaf hid];exact e)
     simp only[dw (hpp.hr.dom _ _ _ e1)];exact e1
    .have:=hno _ _ _ e (by omega)
     simp only[fu (show ¬id<(G (i+1)).length by omega)];exact e
   .by_cases h1:id<(G (i+1)).length
    .simp only[dw h1]at e;by_cases h2:id<(G i).length
     .obtain⟨g0,p0,e0⟩:=hpp.news id g q e h2;exact .inl ⟨g0,p0,(lu e0).2⟩
     .exact .inr ⟨by omega,h1⟩
    .simp only[fu h1]at e;exact .inl ⟨g,q,e⟩
   .obtain⟨y,hy⟩:∃y,lc y=some a':=by
     have hst:(opAt l i).op.isSt=true:=by rw[hop'];rfl
     have h1:afk P pure' o=some (opAt l i).op:=by
      rcases hcomp with h|⟨f,xs,_,h⟩|⟨k,xs,_,h⟩|⟨_,_,_,_,_,h⟩|h
      .rcases wo h with⟨f,args,ats,xs,y,_,_,_,⟨k,_,e⟩|e⟩|⟨h1,_,_⟩
       .rw[e]at hst;cases hst
       .rw[e]at hst;cases hst
       .exact h1
      .rw[h]at hst;cases hst
      .rw[h]at hst;cases hst
      .rw[h]at hst;cases hst
      .rw[h]at hst;cases hst
     obtain⟨_,_,_,y,e,hy⟩:=a03 h1 hst;rw[hop']at e;cases e;exact⟨y,hy⟩
    have hev:ev (aoy (opAt l i).reads (SF (xx l) val fr l.length S)) a'=ev (F i) a':=by
     cases a' with
     |c v=>rfl
     |t s=>
       have hm:s∈(opAt l i).reads:=jy _ (List.mem_flatMap.2 ⟨.t s,by rw[hop'];simp[AOp.opds],by simp[Opd.slots]⟩)
       show(aoy _ _).getD s .unk=(F i).getD s .unk;rw[atm hm];exact hrd s hm
    have hv:=ni hfm hy;rw[hev]at hv;obtain⟨g,q,e⟩:=a7s hv hid;have e1:=hpp.ext _ _ _ e;refine⟨g,q,?_⟩;simp only[dw (hpp.hr.dom _ _ _ e1)];exact e1
   .intro id g q ob e hob j hj hst2 hid;by_cases h1:id<(G (i+1)).length
    .simp only[dw h1]at e;rw[hK id h1]at hob;have hwf:=hpp.hr.wf id g q ob e hob;by_cases hji:i<j
     .exact hwf.mono (R.lens (by omega) hj)
     .have hns:(opAt l i).op.isSt=false:=by
       cases hss:(opAt l i).op.isSt with
       |false=>rfl
       |true=>have:=hst2 i hi (by simp[ins]) hss;omega
      have hlt:id<(G i).length:=kv hid (R.lens (by omega) (by omega))
      rw[R.nonst hi hns id hlt]at hob;obtain⟨g0,p0,e0⟩:=hpp.news id g q e hlt
      exact I.ww id g0 p0 ob (lu e0).2 (by rw[hAi,R.A_lt hlt];exact hob) j hj (fun k hk hS hs=>hst2 k hk (by simp[ins,hS]) hs) hid
    .simp only[fu h1]at e
     rw[hK2 id (by omega)]at hob
     exact I.ww id g q ob e hob j hj (fun k hk hS hs=>hst2 k hk (by simp[ins,hS]) hs) hid
   .rw[haf,hdst'];refine FR.put ⟨hf.1,fun j x y hx hy=>bac I.post hpp hno (hf.2 j x y hx hy)⟩ _ ?_
    exact hvr.mono (fun id g q e=>by simp only[dw (hpp.hr.dom _ _ _ e)];exact e) (fun _ _ h=>h) (fun _ _ _=>rfl) (fun B arr e fr hB=>⟨arr,fr,hB,rfl⟩)
  .have hns:(opAt l i).op.isSt=false:=by cases h:(opAt l i).op.isSt with|false=>rfl|true=>exact absurd (.inl h) hcs
   have hnc:(opAt l i).op.isCR=false:=by cases h:(opAt l i).op.isCR with|false=>rfl|true=>exact absurd (.inr h) hcs
   have hcall:(opAt l i).op.isCall=false:=by
    cases hop':(opAt l i).op<;>rw[hop']at hkind hnc<;>first|rfl|(simp[a0i,AOp.cls,AOp.isCall,AOp.isNew,AOp.isSt,AOp.isCR]at hkind;done)|(simp[AOp.isCR]at hnc;done)
   have hc2:afk P pure' o=some (opAt l i).op:=by
    rcases hcomp with h|⟨f,xs,_,h⟩|⟨k,xs,_,h⟩|⟨_,_,_,_,_,h⟩|h
    .rcases wo h with⟨f,args,ats,xs,y,_,_,_,⟨k,_,e⟩|e⟩|⟨h1,_,_⟩
     .rw[e]at hcall;cases hcall
     .rw[e]at hcall;cases hcall
     .exact h1
    .rw[h]at hcall;cases hcall
    .rw[h]at hcall;cases hcall
    .rw[h]at hnc;cases hnc
    .rw[h]at hop;cases hop
   have hnd:∀c,o.op≠.defer c:=by
    rcases hcomp with h|⟨f,xs,_,h⟩|⟨k,xs,_,h⟩|⟨_,_,_,_,_,h⟩|h
    .rcases wo h with⟨f,args,ats,xs,y,_,_,_,⟨k,_,e⟩|e⟩|⟨_,_,h1⟩
     .rw[e]at hcall;cases hcall
     .rw[e]at hcall;cases hcall
     .exact h1
    .rw[h]at hcall;cases hcall
    .rw[h]at hcall;cases hcall
    .rw[h]at hnc;cases hnc
    .rw[h]at hop;cases hop
   have n2i:∀(μ':Mu) n' a' v',(opAt l i).op=.store n' a' v'->want (opAt l i) (F i)=some true->∀id,(ev (F i) a').obj?=some (some id)->∃g q,μ' id g=some q:=fun μ' n' a' v' e=>by
    rw[e]at hns;cases hns
   have wwi:∀id g q ob,μ id g=some q->(R.A p)[id]?=some ob->∀j,j<=l.length->(∀k,k<l.length->ins S i k=true->(opAt l k).op.isSt=true->k<j)->id<(G j).length->ObW (G j).length ob:=
    fun id g q ob e hob j hj hst2 hid=>I.ww id g q ob e hob j hj (fun k hk hS hs=>hst2 k hk (by simp[ins,hS]) hs) hid
   by_cases hnew:(opAt l i).op.isNew=true
   .
    obtain⟨vf,ob,hvf,hG1,hcur,hvw,cv,ob2,hrun,hob,hvr⟩:=bja (CC:=CC) hfm hc2 hnew (by rw[hmk];exact hop)
    have hun:∀g,μ (G i).length g=none:=fun g=>by
     cases e:μ (G i).length g with
     |none=>rfl
     |some q=>
       have:=I.fresh hi hSi _ _ _ e (aj _);rw[hG1,gm,bi]at this;omega
    have hGl:(G (i+1)).length=(G i).length+1:=by rw[hG1];simp
    have hAt:(R.A (i+1))[(G i).length]?=some ob:=by
     rw[R.A_lt (by omega),hG1];simp
    have hKp:(R.A p)[(G i).length]?=some ob:=by
     by_cases hpi:p<=i
     .rw[R.A_ge hpi (by omega) (fun k _ h2=>R.lens (by omega) (by omega)),R.A_ge1 hi (aj _)]
      exact hAt
     .have key:∀q,i+1<=q->q<=p->(R.A q)[(G i).length]?=some ob:=by
       intro q
       induction q with
       |zero=>intro h;omega
       |succ q ih=>
         intro h1 h2;by_cases hqi:q=i
         .subst hqi;exact hAt
         .have h3:=ih (by omega) (by omega)
          have hql:=I.hp
          have hlt:(G i).length<(G q).length:=by have:=R.lens (show i+1<=q by omega) (by omega);omega
          have hlt2:(G i).length<(G (q+1)).length:=by have:=R.lens1 (show q<l.length by omega);omega
          rw[R.A_lt hlt]at h3;rw[R.A_lt hlt2];cases hqs:(opAt l q).op.isSt with
          |false=>rw[R.nonst (by omega) hqs _ hlt];exact h3
          |true=>
            rcases(R.step (show q<l.length by omega)).2 with⟨_,_,e⟩|⟨hwq,e⟩
            .rw[e];exact h3
            .obtain⟨n',a',x',hopq⟩:∃n a x,(opAt l q).op=.store n a x:=by
              cases hoq:(opAt l q).op<;>rw[hoq]at hqs<;>first|exact⟨_,_,_,rfl⟩|(simp[AOp.isSt]at hqs;done)
             rw[hopq]at e;obtain⟨idk,e1,_,e3⟩:=agy e
             have hSq:S q=true:=(I.st q (by omega) hqs).2 (by omega)
             obtain⟨g,qq,em⟩:=I.n2 q (by omega) hSq _ _ _ hopq hwq idk e1
             rw[e3 _ (fun e=>by subst e;rw[hun]at em;cases em)]
             exact h3
      exact key p (by omega) (aj _)
    have hob':ObR CC μ Mt w ob 0 ob2:=hob.mono a2l (fun _ _ h=>h) (fun _ _ _=>rfl) (fun B arr e fr hB=>⟨arr,fr,hB,rfl⟩);have hobw:ObW (G i).length ob:=hob.obw fun id g p e=>(lu e).1;have pat:=post_at I.post hun hlen0 hKp ob2 hob';refine⟨fun _ _=>trivial,?_⟩;rw[Oper.semAt_eq _ _ _ hnd,hrun]
    refine hnext cv _ _ _ p (I.push hi hSi I.hp pat (a1v I.st hns) (fun id g q e=>⟨g,q,agp (hun 0) _ _ _ e⟩) (fun id g q e hid=>?_) (n2i _) (by rw[hvf,hGl];exact hvw _ _ (by omega)) (fun _ ho=>by rcases ho.cls with⟨h,_⟩|h<;>(cases hop':(opAt l i).op<;>rw[hop']at h hnew<;>simp[AOp.cls,AOp.isNew]at h hnew)) ?_) ?_
    .by_cases hc:id=(G i).length/\g=0
     .exact .inr ⟨by omega,by omega⟩
     .rw[aac hc]at e;exact .inl ⟨g,q,e⟩
    .intro id g q ob' e hob' j hj hst2 hid;by_cases hc:id=(G i).length/\g=0
     .obtain⟨rfl,rfl⟩:=hc;rw[hKp]at hob';cases hob';exact hobw.mono (Nat.le_of_lt hid)
     .rw[aac hc]at e;exact wwi id g q ob' e hob' j hj hst2 hid
    .rw[haf,hdst',hvf];refine FR.put ⟨hf.1,fun j x y hx hy=>at_vr hhr (hun 0) ob2 (hf.2 j x y hx hy)⟩ _ ?_;exact hvr _ _ _ (uo _ _ _ _)
   .
    have htr:(opAt l i).op.cls=.t\/(opAt l i).op.cls=.r:=by
     simp only[a0i,hns,hnc,kr,au,dz,xy]at hkind
     rcases hkind with(((h|h)|h)|h)|h
     .exact .inl h.1
     .exact .inr h
     .exact absurd h hnew
     .cases h
     .cases h
    have hsame:G (i+1)=G i:=by
     rcases htr with h|h
     .exact adl (bfs h) hop
     .exact adl (bft h) hop
    have oldW:alc l=true->Old l i->VW H.length (val i):=fun hn ho=>by
     have hrd0:=R.opw0 hd hi hSi hah h0 (I.vo hn) ho
     have hfm0:=a4c (m:=H.length) (rd:=(opAt l i).reads) hf fun s hs=>by rw[hrd s hs];exact hrd0 s hs
     have hmk0:=hmk
     rcases htr with h|h
     .have hdd:=a5d (CC:=CC) hhr H.length
      obtain⟨cv,wd,μd,Mtd,_,hvd,hpd⟩:=ann (call:=call) (base:=base) (H':=auo H.length) (v:=val i) hdd hfm0 hc2 hcall (by rw[hmk];exact(an8 h hop).2 _)
      have:=hvd.vw hpd.hr.dom
      simpa[auo]using this
     .obtain⟨_,x,hx,hb,hg⟩:=ak8 h hop
      have hcut:HR CC (aeb H.length μ) Mt w H:=a5e hhr (fun id hid=>R.A_old hn I.hp hid) (fun id g q ob e hid hob=>by
       obtain⟨g0,q0,e0⟩:=I.post.news id g q e hid;rw[R.A_old hn I.hp hid]at hob;exact h0w id g0 q0 ob e0 hob)
      have hev0:l8 call base (F i) H (opAt l i).op=some (val i,H):=hg H fun id hid=>by
       have hidl:id<H.length:=ax8 (by assumption) (R.parts.1 i hi).1 hx (fun s hs=>hrd0 s hs) hid
       rw[R.old_keep hn i (by omega) id hidl]
      obtain⟨cv,wd,μd,Mtd,_,hvd,hpd⟩:=ann (call:=call) (base:=base) (H':=H) (v:=val i) hcut hfm0 hc2 hcall (by rw[hmk];exact hev0)
      exact hvd.vw hpd.hr.dom
    have both:(∀K,R.A p=K->l8 call base (F i) K (opAt l i).op=some (val i,K))/\VW (G i).length (val i):=by
     by_cases hlo:agc l i=true
     .obtain⟨hn,ho⟩:=a0f hlo
      have hr:(opAt l i).op.cls=.r:=by
       unfold agc at hlo;simp only[au,dz]at hlo;exact hlo.1.1
      have hrd0:=R.opw0 hd hi hSi hah h0 (I.vo hn) ho;obtain⟨_,x,hx,hb,hg⟩:=ak8 hr hop;refine⟨fun K hK=>hg K fun id hid=>?_,(oldW hn ho).mono hlen0⟩
      have hidl:id<H.length:=ax8 (by assumption) (R.parts.1 i hi).1 hx (fun s hs=>hrd0 s hs) hid
      rw[<- hK,R.A_old hn I.hp hidl,R.old_keep hn i (by omega) id hidl]
     rcases htr with h|h
     .refine⟨fun K _=>(an8 h hop).2 K,?_⟩;have hdd:=a5d (CC:=CC) hhr (G i).length
      obtain⟨cv,wd,μd,Mtd,_,hvd,hpd⟩:=ann (call:=call) (base:=base) (H':=auo (G i).length) (v:=val i) hdd hfm hc2 hcall (by rw[hmk];exact(an8 h hop).2 _)
      have:=hvd.vw hpd.hr.dom
      simpa[auo]using this
     .have hstI:=R.stI hd hi hSi hah (.inr (.inl ⟨h,by simpa using hlo⟩))
      have hAi:=R.mid I.hp (by omega) I.st hstI
      obtain⟨_,x,hx,hb,hg⟩:=ak8 h hop
      refine⟨fun K hK=>hg K fun id hid=>by rw[<- hK,hAi,R.A_lt (hb id hid)],?_⟩
      have hcut:HR CC (aeb (G i).length μ) Mt w (G i):=a5e hhr (fun id hid=>by rw[hAi];exact R.A_lt hid) (fun id g q ob e hid hob=>I.ww id g q ob e hob i (by omega) (fun k hk hS hs=>(hstI k hk hs).1 hS) hid)
      have hop2:=hop;rw[hsame]at hop2
      obtain⟨cv,wd,μd,Mtd,_,hvd,hpd⟩:=ann (call:=call) (base:=base) (H':=G i) (v:=val i) hcut hfm hc2 hcall (by rw[hmk];exact hop2)
      exact hvd.vw hpd.hr.dom
    refine aed hs hhr hf hcomp (by rw[hcg];exact both.1 _ rfl) ?_
    rintro r w1 ⟨c,μ1,Mt1,e,hvr,hpp⟩;cases e;have hnm:∀id g q,μ1 id g=some q->∃g0 q0,μ id g0=some q0:=fun id g q e=>hpp.news id g q e (hpp.hr.dom _ _ _ e)
    refine hnext r w1 μ1 Mt1 p (I.push hi hSi I.hp (I.post.trans hpp) (a1v I.st hns) (fun id g q e=>⟨g,q,hpp.ext _ _ _ e⟩) (fun id g q e _=>.inl (hnm id g q e)) (n2i _) (by rw[hsame];exact both.2) oldW ?_) ?_
    .intro id g q ob e hob j hj hst2 hid;obtain⟨g0,q0,e0⟩:=hnm id g q e;exact wwi id g0 q0 ob e0 hob j hj hst2 hid
    .rw[haf,hdst'];exact(hf.post hhr hpp).put _ hvr
end
section
variable {CC:CX} {μ0:Mu} {Mt0:Nat->Prop} {w0:World} {P:Program} [BtOk CC P] {pure':PX} {call:o8} {base:Nat}
variable {ops:Array Oper} {l:List AOper} {fr fr':List V} {H H':Heap} {F:Nat->List V} {G:Nat->Heap} {val:Nat->V}
def a8x(R:RowA P pure' call base ops l fr fr' H H' F G val)(hs:SimCall P CC call){ro:Option Nat}{n:Nat}{Q:Exit->Act->World->Prop}{ds:List Deferred}(h0:∀s,VW H.length (fr.getD s .unk))(h0w:∀id g q ob,μ0 id g=some q->H[id]?=some ob->ObW H.length ob):
 ∀(fuel:Nat) (listed:Array Bool) (a:Act) (w:World) (μ:Mu) (Mt:Nat->Prop) (p:Nat),listed.size=l.length->za listed l.length<=fuel->Dn ops (fun k=>listed.getD k false)->
   InvA R CC μ0 Mt0 w0 (fun k=>listed.getD k false) p μ Mt w->FR μ Mt w (SF (xx l) val fr l.length fun k=>listed.getD k false) a.tmps->a.defers=ds->
   (∀a' w',asg CC μ0 Mt0 w0 H ds fr' H' a' w'->Q .normal a' w')->wpAnyIn (Fw ro) n P .any ops Q fuel listed a w:=by
 have hN:l.length=ops.size:=R.reg.1;have done:∀(listed:Array Bool) (a:Act) (w:World) (μ:Mu) (Mt:Nat->Prop) (p:Nat),(∀k,k<l.length->listed.getD k false=true)->InvA R CC μ0 Mt0 w0 (fun k=>listed.getD k false) p μ Mt w->
  FR μ Mt w (SF (xx l) val fr l.length fun k=>listed.getD k false) a.tmps->a.defers=ds->asg CC μ0 Mt0 w0 H ds fr' H' a w:=by
  intro listed a w μ Mt p hall I hf hds
  have hG:R.A p=G l.length:=by
   rw[R.mid I.hp (aj _) I.st (fun k hk _=>⟨fun _=>hk,fun _=>hall k hk⟩)];unfold RowA.A;rw[yn];rfl
  have hF:(SF (xx l) val fr l.length fun k=>listed.getD k false)=F l.length:=by
   obtain⟨h1,h2⟩:=R.frames l.length (aj _)
   refine ad6 (by rw[vg,h1]) fun s hs=>?_
   rw[vg]at hs;rw[acw,dw hs,h2 s hs,ad5 (i:=l.length) l.length fun k hk _=>?_,Nat.min_self];simp[hall k hk,hk]
  rw[hF,R.fN]at hf;have hpost:=I.post;rw[hG,R.gN]at hpost;exact⟨μ,Mt,hpost,hf,hds⟩
 have none_ready:∀listed:Array Bool,listed.size=l.length->Region.ready .any ops listed=[]->∀k,k<l.length->listed.getD k false=true:=by
  intro listed hsz hr k
  induction k using Nat.strongRecOn with
  |ind k ih=>
    intro hk;cases hl:listed.getD k false with
    |true=>rfl
    |false=>
      exfalso
      have ho:ops[k]?=some ops[k]:=ko (by omega)
      have hmem:k∈Region.ready .any ops listed:=by
       refine mem_ready.2 ⟨?_,_,ho,fun e he hb=>?_⟩
       .have:k<listed.size:=by omega
        simp[this]at hl |-;exact hl
       .have hB:=R.back;unfold afs at hB;rw[bq]at hB
        have hB:=hB k (by simp;omega)
        rw[ho]at hB;simp only[aei,kr,xy,lm]at hB
        rcases hB e he with h|h
        .rw[hb]at h;cases h
        .exact ih e.on h (by omega)
      rw[hr]at hmem;cases hmem
 intro fuel
 induction fuel with
 |zero=>
   intro listed a w μ Mt p hsz hct hd I hf hds hQ
   have hall:∀k,k<l.length->listed.getD k false=true:=by
    intro k hk
    have h0:za listed l.length=0:=by omega
    unfold za at h0;rw[bmi]at h0
    have:=h0 k (by simpa using hk)
    simpa using this
   refine⟨?_,hQ a w (done listed a w μ Mt p hall I hf hds)⟩;cases hr:Region.ready .any ops listed with
   |nil=>rfl
   |cons j js=>
     exfalso
     obtain⟨h1,o,ho,_⟩:=mem_ready.1 (show j∈Region.ready .any ops listed by rw[hr];exact jh)
     have hj:j<l.length:=by have:=(bmv.1 ho).1;omega
     have h2:=hall j hj
     have:j<listed.size:=by omega
     simp[this]at h1 h2;rw[h1]at h2;cases h2
 |succ fuel ih=>
   intro listed a w μ Mt p hsz hct hd I hf hds hQ;refine⟨fun hr=>hQ a w (done listed a w μ Mt p (none_ready listed hsz hr) I hf hds),fun i hir=>?_⟩;obtain⟨h1,o,ho,hall⟩:=mem_ready.1 hir
   have hi:i<l.length:=by have:=(bmv.1 ho).1;omega
   have hilt:i<listed.size:=by omega
   have hSi:listed.getD i false=false:=by simp[hilt]at h1 |-;exact h1
   have hah:∀j,qz (Region.before ops).toList j i=true->listed.getD j false=true:=fun j hj=>ahx hd ho hall hj
   have hset:(fun k=>(listed.setIfInBounds i true).getD k false)=ins (fun k=>listed.getD k false) i:=by
    funext k
    by_cases hk:k=i
    .subst hk;simp[ins,hilt]
    .rw[getD_set_ne false (sj hk)];simp[ins,hk]
   have hct':za (listed.setIfInBounds i true) l.length<=fuel:=by
    have:za (listed.setIfInBounds i true) l.length<za listed l.length:=by
     refine auq (fun k _ hk=>?_) ⟨i,by simpa using hi,by simp[hSi],?_⟩
     .have:=ay0 hset k;simp only[xy]at hk |-;rw[this]at hk;simp only[ins,oz]at hk;exact hk.1
     .have:=ay0 hset i;simp only[this,ins];simp
    omega
   unfold wpOpIn;simp only[ho]
   have next:∀(c:Value) (w1:World) (μ1:Mu) (Mt1:Nat->Prop) (p':Nat),InvA R CC μ0 Mt0 w0 (ins (fun k=>listed.getD k false) i) p' μ1 Mt1 w1->FR μ1 Mt1 w1 (SF (xx l) val fr l.length (ins (fun k=>listed.getD k false) i)) (a.put o.dst c).tmps->
    wpAnyIn (Fw ro) n P .any ops Q fuel (listed.setIfInBounds i true) (a.put o.dst c) w1:=by
    intro c w1 μ1 Mt1 p' I1 f1
    refine ih _ _ _ μ1 Mt1 p' (by simpa using hsz) hct' (by rw[hset];exact bdc hd ho hall) (by rw[hset];exact I1) (by rw[hset];exact f1) (by rw[put_defers];exact hds) hQ
   have:=R.turn hs hd hi hSi hah I h0 h0w hf ho (ro:=ro) (n:=n) (Q:=Q) (next:=fun a' w'=>wpAnyIn (Fw ro) n P .any ops Q fuel (listed.setIfInBounds i true) a' w') next
   cases hw:Region.wanted o (yielded ops a.tmps)with
   |true=>
     rw[hw]at this
     simpa using this
   |false=>
     rw[hw]at this;simp only[ic,ky]at this |-;exact⟨fun _ _=>trivial,this⟩
end
def awn{F:Fence}{n P π o a w}{K:Act->World->Prop}{Q:Exit->Act->World->Prop}(h:(af5 π o).wpIn F n P a w K Q):o.wpIn F n P a w K Q:=h
section
variable {ops:Array Oper} {π:List Nat}
structure PermOk (π:List Nat) (ops:Array Oper):Prop where
 len:π.length=ops.size
 lt:∀i∈π,i<ops.size
 all:∀i,i<ops.size->i∈π
 nd:π.Nodup
 on:∀o∈ops.toList,∀e∈o.after,e.on<ops.size
 gd:∀o∈ops.toList,∀p,o.guard=some p->p.1<ops.size
def ata(h:apc π ops=true):PermOk π ops:=by
 unfold apc at h;simp only[au,dz,bq,lm,au0,bmd,aei]at h;obtain⟨⟨⟨⟨h1,h2⟩,h3⟩,h4⟩,h5⟩:=h;refine⟨h1,h2,h3,h4,fun o ho=>(h5 o ho).1,fun o ho p hp=>?_⟩;have:=(h5 o ho).2;rw[hp]at this
 simpa using this
def alz{π i}(h:i∈π):af9 π i<π.length:=by
 unfold af9
 exact List.findIdx_lt_length_of_exists ⟨i,h,by simp⟩
def af8{π i}(h:i∈π):π[af9 π i]?=some i:=by
 have hl:=alz h;rw[af hl];unfold af9 at hl |-;have:=List.findIdx_getElem (w:=hl)
 simpa using this
def aq7{π}(hn:π.Nodup){j i}(h:π[j]?=some i):af9 π i=j:=by
 have hm:i∈π:=ik h;have h1:=af8 hm;have hj:=(bmk.1 h).1;have hp:=alz hm;rw[af hj]at h;rw[af hp]at h1;exact(List.getElem_inj hn).1 ((jk h1).trans (jk h).symm)
def aga:(x8 π ops).size=π.length:=by simp[x8]
theorem adg{j i:Nat}(h:π[j]?=some i){o}(ho:ops[i]?=some o):(x8 π ops)[j]?=some (af5 π o):=by
 unfold x8;rw[vz,nz,h];simp only[mh];rw[ahi,ho];rfl
def Tw(π:List Nat)(a b:Array Bool):Prop:=∀(j i:Nat),π[j]?=some i->a.getD i false=b.getD j false
def azc(hp:PermOk π ops){F:Fence}{n:Nat}{P}{Q:Exit->Act->World->Prop}:∀(fuel:Nat) (la lb:Array Bool) (a:Act) (w:World),la.size=ops.size->lb.size=ops.size->Tw π la lb->
 wpAnyIn F n P .any (x8 π ops) Q fuel lb a w->wpAnyIn F n P .any ops Q fuel la a w:=by
 have rdy:∀(la lb:Array Bool),la.size=ops.size->lb.size=ops.size->Tw π la lb->∀i,i∈Region.ready .any ops la->af9 π i∈Region.ready .any (x8 π ops) lb/\π[af9 π i]?=some i/\∃o,ops[i]?=some o:=by
  intro la lb sa sb ht i hi;obtain⟨h1,o,ho,h2⟩:=mem_ready.1 hi;have hil:i<ops.size:=(bmv.1 ho).1;have hg:=af8 (hp.all i hil);have hlt:=alz (hp.all i hil);have hlen:=hp.len;refine⟨mem_ready.2 ⟨?_,_,adg hg ho,fun e he hb=>?_⟩,hg,o,ho⟩
  .have h3:=ht _ _ hg
   have e1:la.getD i true=la.getD i false:=by simp[Array.getD,show i<la.size by omega]
   have e2:lb.getD (af9 π i) true=lb.getD (af9 π i) false:=by simp[Array.getD,show af9 π i<lb.size by omega]
   rw[e2,<- h3,<- e1];exact h1
  .simp only[af5,Array.mem_map]at he;obtain⟨e0,he0,rfl⟩:=he
   have hom:o∈ops.toList:=by
    rw[asi];exact afn ho
   have hon:=hp.on o hom e0 he0;rw[<- ht _ _ (af8 (hp.all _ hon))];exact h2 e0 he0 hb
 have rdy2:∀(la lb:Array Bool),la.size=ops.size->lb.size=ops.size->Tw π la lb->Region.ready .any ops la=[]->Region.ready .any (x8 π ops) lb=[]:=by
  intro la lb sa sb ht he;rw[List.eq_nil_iff_forall_not_mem];intro j hj;obtain⟨h1,o',ho',h2⟩:=mem_ready.1 hj
  have hjl:j<π.length:=by rw[<- aga (ops:=ops)];exact(bmv.1 ho').1
  have hg:π[j]?=some π[j]:=af hjl;have hil:π[j]<ops.size:=hp.lt _ (xu hjl);have ho:ops[π[j]]?=some ops[π[j]]:=ko hil;have hlen:=hp.len;have e:=adg hg ho;rw[ho']at e;have e:=jk e;subst e
  have:π[j]∈Region.ready .any ops la:=by
   refine mem_ready.2 ⟨?_,_,ho,fun e0 he0 hb=>?_⟩
   .have h3:=ht _ _ hg
    have e1:la.getD π[j] true=la.getD π[j] false:=by simp[Array.getD,show π[j]<la.size by omega]
    have e2:lb.getD j true=lb.getD j false:=by simp[Array.getD,show j<lb.size by omega]
    rw[e1,h3,<- e2];exact h1
   .have hom:ops[π[j]]∈ops.toList:=by
     rw[asi];exact afn ho
    have hon:=hp.on _ hom e0 he0
    have:=h2 { e0 with on:=af9 π e0.on } (by simp only[af5,Array.mem_map];exact⟨e0,he0,rfl⟩) hb
    rw[<- ht _ _ (af8 (hp.all _ hon))]at this;exact this
  rw[he]at this;cases this
 intro fuel
 induction fuel with
 |zero=>
   intro la lb a w sa sb ht h;refine⟨?_,h.2⟩;cases hr:Region.ready .any ops la with
   |nil=>rfl
   |cons i l=>
     obtain⟨h1,_⟩:=rdy la lb sa sb ht i (by rw[hr];exact jh)
     rw[h.1]at h1;cases h1
 |succ fuel ih=>
   intro la lb a w sa sb ht h;refine⟨fun hr=>h.1 (rdy2 la lb sa sb ht hr),fun i hi=>?_⟩;obtain⟨h1,hg,o,ho⟩:=rdy la lb sa sb ht i hi;have hil:i<ops.size:=(bmv.1 ho).1;have hlt:=alz (hp.all i hil);have hlen:=hp.len;have h2:=h.2 _ h1
   have tw2:Tw π (la.setIfInBounds i true) (lb.setIfInBounds (af9 π i) true):=by
    intro j k hjk;by_cases hk:k=i
    .subst hk;rw[aq7 hp.nd hjk]
     have hj:j<lb.size:=by have:=(bmk.1 hjk).1;omega
     simp[Array.getD,show k<la.size by omega,hj]
    .have hj:j≠af9 π i:=fun e=>by subst e;rw[hg]at hjk;exact hk (jk hjk).symm
     rw[getD_set_ne false (sj hk),getD_set_ne false (sj hj)];exact ht j k hjk
   have cont:∀a w,wpAnyIn F n P .any (x8 π ops) Q fuel (lb.setIfInBounds (af9 π i) true) a w->wpAnyIn F n P .any ops Q fuel (la.setIfInBounds i true) a w:=fun a w hh=>ih _ _ a w (by simpa using sa) (by simpa using sb) tw2 hh
   unfold wpOpIn at h2 |-;simp only[adg hg ho]at h2;simp only[ho]
   have hw:Region.wanted (af5 π o) (yielded (x8 π ops) a.tmps)=Region.wanted o (yielded ops a.tmps):=by
    unfold Region.wanted af5;cases hgd:o.guard with
    |none=>rfl
    |some p=>
      simp only[mh]
      have hom:o∈ops.toList:=by
       rw[asi];exact afn ho
      have hpl:=hp.gd o hom p hgd;have hyo:ops[p.1]?=some ops[p.1]:=ko hpl
      have:yielded (x8 π ops) a.tmps (af9 π p.1)=yielded ops a.tmps p.1:=by
       unfold yielded;rw[adg (af8 (hp.all _ hpl)) hyo,hyo];rfl
      rw[this]
   rw[hw]at h2;split
   .rename_i hwt;rw[dw hwt]at h2;exact Oper.wpIn_mono cont (awn h2)
   .rename_i hwt;rw[fu hwt]at h2;exact⟨h2.1,cont _ _ h2.2⟩
def adc(hp:apc π ops=true){F:Fence}{n P}{Q:Exit->Act->World->Prop}{a w}(h:wpAnyIn F n P .any (x8 π ops) Q (x8 π ops).size (Array.replicate (x8 π ops).size false) a w):
 wpAnyIn F n P .any ops Q ops.size (Array.replicate ops.size false) a w:=by
 have hk:=ata hp;have hs:(x8 π ops).size=ops.size:=aga.trans hk.len;rw[hs]at h
 refine azc hk _ _ _ a w (by simp) (by simp) (fun j i hji=>?_) h
 have hj:j<ops.size:=by have:=(bmk.1 hji).1;rw[hk.len]at this;exact this
 have hi:i<ops.size:=hk.lt _ (ik hji);simp[Array.getD,hi,hj]
end
section
variable {call:o8} {base:Nat}
def Floor(base:Nat)(H H':Heap):Prop:=H.length<=H'.length/\∀id,id<base->id<H.length->H'[id]?=H[id]?
def Floor.refl(base H):Floor base H H:=⟨aj _,fun _ _ _=>rfl⟩
def Floor.trans{A B C}(h:Floor base A B)(k:Floor base B C):Floor base A C:=
 ⟨qa h.1 k.1,fun id h1 h2=>(k.2 id h1 (kv h2 h.1)).trans (h.2 id h1 h2)⟩
def aih{m fr H}(hm:m<=H.length):m<=(trim m fr H).length/\∀id,id<m->(trim m fr H)[id]?=H[id]?:=by
 unfold trim;split
 .refine⟨by simp;omega,fun id h=>by rw[gu h]⟩
 .exact⟨hm,fun _ _=>rfl⟩
def ah3(hfl:∀v args base H r H',call v args base H=some (r,H')->H.length<=H'.length/\∀id,id<base->id<H.length->H'[id]?=H[id]?):∀(l:List AOper) {fr fr':List V} {H H':Heap},mg call base l fr H=some (fr',H')->Floor base H H':=by
 intro l
 induction l with
 |nil=>intro fr fr' H H' h;cases h;exact .refl _ _
 |cons o l ih=>
   intro fr fr' H H' h;simp only[mg]at h;split at h
   .cases h
   .exact ih h
   .split at h
    .rename_i v H1 hop;exact Floor.trans (apr hfl hop) (ih h)
    .cases h
def aw7{b:List V->Heap->Option St}(hb:∀fr H e fr' H',b fr H=some (e,fr',H')->Floor base H H')(kill m):∀(k:Nat) {fr:List V} {H:Heap} {e:Ex} {fr':List V} {H':Heap},m<=H.length->
 x9 b kill m k fr H=some (e,fr',H')->m<=H'.length/\∀id,id<base->id<m->H'[id]?=H[id]?:=by
 intro k
 induction k with
 |zero=>intro fr H e fr' H' _ h;simp[x9]at h
 |succ k ih=>
   intro fr H e fr' H' hm h;simp only[x9]at h;split at h
   .rename_i fr1 H1 h1;have f:=hb _ _ _ _ _ h1;obtain⟨t1,t2⟩:=aih (fr:=ut kill fr1) (qa hm f.1);obtain⟨r1,r2⟩:=ih t1 h;exact⟨r1,fun id h1 h2=>(r2 id h1 h2).trans ((t2 id h2).trans (f.2 id h1 (kv h2 hm)))⟩
   .rename_i e1 fr1 H1 _ h1;cases h;have f:=hb _ _ _ _ _ h1;obtain⟨t1,t2⟩:=aih (fr:=ut kill fr1) (qa hm f.1);exact⟨t1,fun id h1 h2=>(t2 id h2).trans (f.2 id h1 (kv h2 hm))⟩
   .cases h
def zz(hfl:∀v args base H r H',call v args base H=some (r,H')->H.length<=H'.length/\∀id,id<base->id<H.length->H'[id]?=H[id]?)(nn c):∀{fr:List V} {H:Heap} {e:Ex} {fr':List V} {H':Heap},evC call (fun b k m=>x9 b k m nn) base c fr H=some (e,fr',H')->Floor base H H':=by
 induction c with
 |skip=>intro fr H e fr' H' h;simp only[evC]at h;cases h;exact .refl _ _
 |region ops chk kill=>
   intro fr H e fr' H' h;simp only[evC]at h;split at h
   .rename_i fr1 H1 h1;split at h
    .cases h;exact ah3 hfl ops h1
    .cases h
   .cases h
 |regionE ops kill outs=>
   intro fr H e fr' H' h;simp only[evC]at h;split at h
   .cases h;exact .refl _ _
   .cases h
 |seq a b iha ihb=>
   intro fr H e fr' H' h;simp only[evC]at h;split at h
   .rename_i fr1 H1 h1;exact(iha h1).trans (ihb h)
   .exact iha h
 |cond c a b iha ihb=>
   intro fr H e fr' H' h;simp only[evC]at h;split at h
   .exact iha h
   .exact ihb h
   .cases h
 |block id c ih=>
   intro fr H e fr' H' h;simp only[evC]at h;split at h
   .rename_i id' fr1 H1 h1;cases h;exact ih h1
   .exact ih h
 |loop kill c ih=>
   intro fr H e fr' H' h;simp only[evC]at h;obtain⟨h1,h2⟩:=aw7 (fun fr H e fr' H' h=>ih h) kill H.length nn (aj _) h;exact⟨h1,fun id a b=>h2 id a b⟩
 |rangeFunc f ps a b _ _=>
   intro fr H e fr' H' h
   have fin:∀(H2:Heap) (v:V) (x:V),call x [.yld H.length] base (H++[.loop .ready none fr ps a b])=some (v,H2)->Floor base H (trim H.length fr (H2.set H.length .dead)):=by
    intro H2 v x hc;obtain⟨f1,f2⟩:=hfl _ _ _ _ _ _ hc;simp only[gm,bn,d9]at f1 f2
    obtain⟨t1,t2⟩:=aih (m:=H.length) (fr:=fr) (H:=H2.set H.length .dead) (by simp;omega)
    refine⟨t1,fun id h1 h2=>(t2 id h2).trans ?_⟩
    rw[ae (by omega),f2 id h1 (by omega),ah h2]
   simp only[evC]at h;split at h
   .split at h
    .rename_i v H2 hc;split at h
     .cases h;exact fin _ _ _ hc
     .cases h;exact fin _ _ _ hc
     .cases h
    .cases h
   .cases h
 |exit id=>intro fr H e fr' H' h;simp only[evC]at h;cases h;exact .refl _ _
 |ret=>intro fr H e fr' H' h;simp only[evC]at h;cases h;exact .refl _ _
end
section
variable {μ μ':Mu} {Mt Mt':Nat->Prop} {w w':World} {H H':Heap} {P:Program} {pure':PX} {call:o8}
def ash.of_reg{CC ds fr' a'}(kill)(h:asg CC μ Mt w H ds fr' H' a' w'):ash CC μ Mt w H ds (ut kill fr') H' a' w':=by
 obtain⟨μ',Mt',h1,h2,h3⟩:=h
 exact⟨μ',Mt',h1,h2.kill kill,by rw[h3];exact Marks.refl _ _ _ _⟩
def ash.refl{CC}(h:HR CC μ Mt w H){a fr}(hf:FR μ Mt w fr a.tmps):ash CC μ Mt w H a.defers fr H a w:=⟨μ,Mt,Post.refl h,hf,Marks.refl _ _ _ _⟩
def a6i(h:HR (CR P pure') μ Mt w H){a:Act}{fr:List V}(hf:FR μ Mt w fr a.tmps){ro:Option Nat}(hro:∀l,ro=some l->∃r,w.heap[l]?=some (.loop r))(fn:FuncId)(ps:Array Tmp){x y:Code}{ax ay:ACode}(hx:CodeR P pure' x ax)(hy:CodeR P pure' y ay):
 ∃l mark w1 μ1 Mt1,(Instr.enterLoop fn a.tmps ps x y ro).run P w=.ok (l,mark) w1/\Post (CR P pure') μ Mt w H μ1 Mt1 w1 (H++[.loop .ready none fr ps.toList ax ay])/\μ1 H.length 0=some (l,0)/\Marks w.heap.size μ1 w1 (mark++a.defers) a.defers:=by
 have mk:∀{w1:World} {Mt1:Nat->Prop} (D:Nat),HR (CR P pure') μ Mt1 w1 H->VRs μ Mt1 w1 fr a.tmps.toList->ObR (CR P pure') μ Mt1 w1 (.loop .ready none fr ps.toList ax ay) 0 (.loop { state:=.ready,pending:=none,fn,tmps:=a.tmps,params:=ps,assign:=x,body:=y,defers:=D }):=
  fun D _ hv=>⟨rfl,rfl,rfl,hv,rfl,hx,hy⟩
 cases ro with
 |none=>
   have p1:Post (CR P pure') μ Mt w H μ Mt (w.alloc (.deferred (some []))) H:=apb h _ rfl rfl rfl rfl;have p2:=af7 p1.hr (.loop { state:=.ready,pending:=none,fn,tmps:=a.tmps,params:=ps,assign:=x,body:=y,defers:=w.heap.size }) (.loop .ready none fr ps.toList ax ay) (mk _ p1.hr (p1.vrs h hf)) (w':=(w.alloc (.deferred (some []))).alloc (.loop { state:=.ready,pending:=none,fn,tmps:=a.tmps,params:=ps,assign:=x,body:=y,defers:=w.heap.size })) rfl rfl rfl rfl;refine⟨_,_,_,_,_,run_enterLoop_outer fn a.tmps ps x y,p1.trans p2,?_,?_⟩
   .have:(w.alloc (.deferred (some []))).heap.size=w.heap.size+1:=World.size_alloc ..;rw[this];exact uo _ _ _ _
   .refine⟨[w.heap.size],rfl,by simp,fun D hD=>?_⟩
    simp at hD;subst hD;have hs:(w.alloc (.deferred (some []))).heap.size=w.heap.size+1:=World.size_alloc ..;have h1:(w.alloc (.deferred (some []))).heap[w.heap.size]?=some (.deferred (some [])):=World.alloc_heap_new ..
    refine⟨aj _,(qj (w:=w.alloc (.deferred (some []))) rfl (by rw[hs];omega)).trans h1,fun id g b e=>?_⟩
    by_cases hc:id=H.length/\g=0
    .obtain⟨rfl,rfl⟩:=hc;rw[uo]at e;have:=(au2 (jk e)).1;rw[hs]at this;omega
    .rw[aac hc]at e;have:=(h.isMut _ _ _ _ e).2;omega
 |some l0=>
   obtain⟨r0,hr0⟩:=hro l0 rfl;have p2:=af7 h (.loop { state:=.ready,pending:=none,fn,tmps:=a.tmps,params:=ps,assign:=x,body:=y,defers:=r0.defers }) (.loop .ready none fr ps.toList ax ay) (mk _ h hf) (w':=w.alloc (.loop { state:=.ready,pending:=none,fn,tmps:=a.tmps,params:=ps,assign:=x,body:=y,defers:=r0.defers })) rfl rfl rfl rfl;exact⟨_,_,_,_,_,run_enterLoop_inner hr0 fn a.tmps ps x y,p2,uo _ _ _ _,Marks.refl _ _ _ _⟩
def atx{μ0}{Mt0:Nat->Prop}{w0 H0 CC}(h0:HR CC μ0 Mt0 w0 H0)(hp:Post CC μ0 Mt0 w0 H0 μ Mt w H){l}(hm:μ H0.length 0=some (l,0)){st:LoopState}{pend t ps ax ay}(hH:H[H0.length]?=some (.loop st pend t ps ax ay))(hst:st≠.busy){fr a}(hf:FR μ Mt w fr a.tmps){ds}(hmk:Marks w0.heap.size μ w a.defers ds):
 ∃r w',(Instr.endLoop l).run P w=.ok r w'/\amg st pend r/\ash CC μ0 Mt0 w0 H0 ds fr (trim H0.length fr (H.set H0.length .dead)) a w':=by
 obtain⟨o,ho,hr⟩:=hp.hr.objs _ _ 0 _ _ hH rfl hm
 cases o<;>first|exact hr.elim|skip
 rename_i r;obtain⟨_,h1,h2,h3,h4,h5,h6⟩:=hr;subst h1;have hrun:=run_endLoop (P:=P) ho hst;have p1:Post CC μ Mt w H (aol μ H0.length 0 (l,0)) Mt (w.putObj l (.loop { r with state:=.exhausted })) (H.set H0.length .dead):=
  agt hp.hr 0 0 hH rfl hm ho (fun _ _ _ e=>by cases e) (fun _ _=>⟨_,rfl⟩) (.inl ⟨rfl,rfl⟩) (fun j hj=>hj.elim) (fun _ _ e=>by cases e) rfl rfl rfl rfl trivial (fun hc=>hc.elim)
 have hpp:=hp.trans p1;have hidl:H0.length<H.length:=(bmk.1 hH).1
 obtain⟨μ2,p2,f2,s2,_⟩:=aig hpp h0.dom (aj _) (by simp;omega) (hf.post hp.hr p1)
 refine⟨_,_,hrun,h2,μ2,Mt,p2,f2,?_⟩;exact(hmk.trans p1 hp.tr.size (Marks.refl _ _ _ _)).sub s2
def anj(hs:SimCall P (CR P pure') call){base:Nat}{ops:Array Oper}{l:List AOper}{chk:List (Nat × Nat)}(hr:auz P pure' ops l)(hd:ag6 (Region.before ops).toList chk l=true/\afs ops=true){ro:Option Nat}{n:Nat}{fr:List V}{H:Heap}{fr1:List V}{H':Heap}(h1:mg call base l fr H=some (fr1,H'))(hchk:chk.all (zm call base l fr H fr1)=true){μ:Mu}{Mt:Nat->Prop}{w:World}{a:Act}{Q:Exit->Act->World->Prop}(h:HR (CR P pure') μ Mt w H)(hf:FR μ Mt w fr a.tmps)(hQ:∀a' w',asg (CR P pure') μ Mt w H a.defers fr1 H' a' w'->Q .normal a' w'):wpAnyIn (Fw ro) n P .any ops Q ops.size (Array.replicate ops.size false) a { w with drawn:=w.drawn+1 }:=by
 obtain⟨ho,hb⟩:=hd;obtain⟨F,G,val,a1,a2,a3,a4,a5⟩:=an5 _ _ _ _ _ h1;by_cases hoA:adj (Region.before ops).toList chk l=true
 case neg=>
  have hoA:adj (Region.before ops).toList chk l=false:=by simpa using hoA
  simp only[ag6,hoA,qo,au]at ho;have R:RowA P pure' call base ops l fr _ H H' F G val:=⟨hr,ho.2,hb,a1,a2,a3,a4,a5,hs.floor⟩;have p1:Post (CR P pure') μ Mt w H μ Mt { w with drawn:=w.drawn+1 } H:=ait h rfl rfl rfl rfl
  have hrep:∀k,(Array.replicate ops.size false).getD k false=false:=by
   intro k;by_cases hk:k<ops.size<;>simp[hk]
  have hno:(fun k=>(Array.replicate ops.size false).getD k false)=fun _=>false:=funext hrep
  have hSF:(SF (xx l) val fr l.length fun k=>(Array.replicate ops.size false).getD k false)=fr:=by
   refine ad6 vg fun s hs=>?_;rw[vg]at hs;rw[acw,dw hs,ad5 (i:=0) l.length fun k _ _=>?_]
   .simp[lw]
   .rw[hrep k];simp
  have hrn:=(R.lens (jo l.length) (aj _))
  have hA0:∀id,id<H.length->(R.A 0)[id]?=H[id]?:=fun id hid=>by
   have:=R.A_lt (j:=0) (id:=id) (by rw[a2];exact hid)
   rw[a2]at this;exact this
  have h0v:∀s,VW H.length (fr.getD s .unk):=fun s=>(hf.getD s).vw h.dom
  have p2:Post (CR P pure') μ Mt w H μ Mt { w with drawn:=w.drawn+1 } (R.A 0):=by
   have hl:H.length<=(R.A 0).length:=by rw[R.A_len (jo _)];rw[a2]at hrn;exact hrn
   have q:=p1.hr;refine⟨hl,⟨fun id g p e=>kv (q.dom _ _ _ e) hl,q.isMut,fun id ob g B b hH hc e=>q.objs id ob g B b ((hA0 id (q.dom _ _ _ e)).symm.trans hH) hc e,q.inj,fun id g g' c p e hH=>q.gens id g g' c p e ((hA0 id (q.dom _ _ _ e)).symm.trans hH),fun id g p ob e hH=>(q.wf id g p ob e ((hA0 id (q.dom _ _ _ e)).symm.trans hH)).mono hl,q.fix,q.zero⟩,p1.ext,p1.mt,p1.tr,p1.old,p1.news⟩
  have I0:InvA R (CR P pure') μ Mt w (fun k=>(Array.replicate ops.size false).getD k false) 0 μ Mt { w with drawn:=w.drawn+1 }:=by
   rw[hno]
   refine⟨jo _,p2,fun k _ _=>⟨fun h=>(by cases h),fun h=>absurd h (ap3 _)⟩,fun id g q e hid=>?_,fun k _ hS=>(by cases hS),fun m _ hS=>(by cases hS),fun _ m _ hS=>(by cases hS),fun id g q ob e hob j hj _ hid=>?_⟩
   .have:=h.dom _ _ _ e;omega
   .have hd:=h.dom _ _ _ e;have hj0:=R.lens (jo j) hj;rw[a2]at hj0;rw[hA0 id hd]at hob;exact(h.wf id g q ob e hob).mono hj0
  refine a8x R hs h0v (fun id g q ob e hH=>h.wf id g q ob e hH) ops.size _ a _ μ Mt 0 (by simp[hr.1]) ?_ ?_ I0 (by rw[hSF];exact hf.post h p1) rfl (fun a' w' hq=>hQ a' w' hq)
  .unfold za;refine qa ap4 ?_;simp[hr.1]
  .intro j hj
   exact absurd ((hrep j).symm.trans hj) (by simp)
 have ho:=hoA;have R:Row P pure' call base ops l chk fr _ H H' F G val:=⟨hr,ho,hb,a1,a2,a3,a4,a5,hchk,hs.floor⟩;have p1:Post (CR P pure') μ Mt w H μ Mt { w with drawn:=w.drawn+1 } H:=ait h rfl rfl rfl rfl
 have hrep:∀k,(Array.replicate ops.size false).getD k false=false:=by
  intro k;by_cases hk:k<ops.size<;>simp[hk]
 refine bee R hs h ops.size _ a _ μ Mt 0 (by simp[hr.1]) ?_ ?_ (jo _) (fun k hk=>by omega) (fun k _ _ _=>hrep k) (by rw[a2];exact p1) ?_ rfl (fun a' w' hq=>hQ a' w' hq)
 .unfold za;refine qa ap4 ?_;simp[hr.1]
 .intro j hj
  exact absurd ((hrep j).symm.trans hj) (by simp)
 .have:(SF (xx l) val fr l.length fun k=>(Array.replicate ops.size false).getD k false)=fr:=by
   refine ad6 vg fun s hs=>?_;rw[vg]at hs;rw[acw,dw hs,ad5 (i:=0) l.length fun k _ _=>?_]
   .simp[lw]
   .rw[hrep k];simp
  rw[this];exact hf.post h p1
def aku(hs:SimCall P (CR P pure') call)(hmix:P.follows .mixedOrders=true)(nn base){c ac}(hc:CodeR P pure' c ac):
 ∀(ro:Option Nat) (n:Nat),bl3 P (CR P pure') ro n c (evC call (fun b k m=>x9 b k m nn) base ac):=by
 have rowsAny:∀(ops:Array Oper) (l:List AOper) (chk:List (Nat × Nat)) (kill:List Nat),auz P pure' ops l->(ag6 (Region.before ops).toList chk l=true/\afs ops=true)->
  ∀(ro:Option Nat) (n:Nat) (fr:List V) (H:Heap) (e:Ex) (fr':List V) (H':Heap),evC call (fun b k m=>x9 b k m nn) base (.region l chk kill) fr H=some (e,fr',H')->
    ∀(μ:Mu) (Mt:Nat->Prop) (w:World) (a:Act) (Q:Exit->Act->World->Prop),HR (CR P pure') μ Mt w H->FR μ Mt w fr a.tmps->
      (∀a' w',ash (CR P pure') μ Mt w H a.defers fr' H' a' w'->Q (bl1 e) a' w')->wpAnyIn (Fw ro) n P .any ops Q ops.size (Array.replicate ops.size false) a { w with drawn:=w.drawn+1 }:=by
  intro ops l chk kill hr hd;intro ro n fr H e fr' H' hev μ Mt w a Q h hf hQ;simp only[evC]at hev;split at hev
  .rename_i fr1 H1 h1;split at hev
   .rename_i hchk;cases hev;exact anj hs hr hd h1 hchk h hf fun a' w' hq=>hQ a' w' (ash.of_reg kill hq)
   .cases hev
  .cases hev
 have rows:∀(id:Nat) (ops:Array Oper) (draw:Bool) (l:List AOper) (chk:List (Nat × Nat)) (kill:List Nat),auz P pure' ops l->(draw=true->ag6 (Region.before ops).toList chk l=true/\afs ops=true)->
  ∀(ro:Option Nat) (n:Nat),bl3 P (CR P pure') ro n (.region id ops draw) (evC call (fun b k m=>x9 b k m nn) base (.region l chk kill)):=by
  intro id ops draw l chk kill hr hd;intro ro n fr H e fr' H' hev μ Mt w a Q h hf hro hQ;cases draw with
  |true=>exact wpIn_region_any hmix (rowsAny ops l chk kill hr (hd rfl) ro n fr H e fr' H' hev μ Mt w a Q h hf hQ)
  |false=>
    simp only[evC]at hev;split at hev
    .rename_i fr1 H1 h1;split at hev
     .rename_i hchk;cases hev;refine wpIn_region ?_
      have:=aq4 (Q:=Q) (ro:=ro) (n:=n) hs hr ops.size 0 fr H a w μ Mt (by omega) h hf (by simpa using h1) (fun a' w' hq=>hQ a' w' (ash.of_reg kill hq))
      simpa using this
     .cases hev
    .cases hev
 induction hc with
 |skip=>
   intro ro n fr H e fr' H' hev μ Mt w a Q h hf hro hQ;simp only[evC]at hev;cases hev;exact wpIn_skip (hQ a w (ash.refl h hf))
 |label l=>
   intro ro n fr H e fr' H' hev μ Mt w a Q h hf hro hQ;simp only[evC]at hev;cases hev;exact wpIn_label (hQ a w (ash.refl h hf))
 |exit id=>
   intro ro n fr H e fr' H' hev μ Mt w a Q h hf hro hQ;simp only[evC]at hev;cases hev;exact wpIn_exit (hQ a w (ash.refl h hf))
 |ret=>
   intro ro n fr H e fr' H' hev μ Mt w a Q h hf hro hQ;simp only[evC]at hev;cases hev;exact wpIn_ret (hQ a w (ash.refl h hf))
 |region id ops draw l chk kill hr hd=>exact rows id ops draw l chk kill hr hd
 |regionE id ops draw l kill outs hr hd=>
   intro ro n fr H e fr' H' hev;simp only[evC]at hev;split at hev
   .rename_i f2 h2;cases hev;obtain⟨f1,h1,rfl⟩:=aeq (call:=call) (base:=base) h2
    exact rows id ops draw l [] kill hr hd ro n fr _ .nrm _ _ (by simp only[evC,h1];rfl)
   .cases hev
 |regionP id ops π l chk kill hp hr hd=>
   intro ro n fr H e fr' H' hev μ Mt w a Q h hf hro hQ;exact wpIn_region_any hmix (adc hp (rowsAny _ l chk kill hr hd ro n fr H e fr' H' hev μ Mt w a Q h hf hQ))
 |regionPE id ops π l kill outs hp hr hd=>
   intro ro n fr H e fr' H' hev μ Mt w a Q h hf hro hQ;simp only[evC]at hev;split at hev
   .rename_i f2 h2;cases hev;obtain⟨f1,h1,rfl⟩:=aeq (call:=call) (base:=base) h2
    exact wpIn_region_any hmix (adc hp (rowsAny _ l [] kill hr hd ro n fr _ .nrm _ _ (by simp only[evC,h1];rfl) μ Mt w a Q h hf hQ))
   .cases hev
 |seq x y ax ay _ _ ihx ihy=>
   intro ro n fr H e fr' H' hev μ Mt w a Q h hf hro hQ;simp only[evC]at hev;refine wpIn_seq ?_;split at hev
   .rename_i fr1 H1 h1;refine ihx ro n _ _ _ _ _ h1 μ Mt w a _ h hf hro ?_;rintro a1 w1 ⟨μ1,Mt1,p1,f1,m1⟩;refine ihy ro n _ _ _ _ _ hev μ1 Mt1 w1 a1 Q p1.hr f1 (fun l hl=>?_) (fun a2 w2 h2=>hQ a2 w2 (ash.trans p1 m1 h2));obtain⟨r,hr⟩:=hro l hl;exact p1.tr.loops l r hr
   .rename_i hne;refine ihx ro n _ _ _ _ _ hev μ Mt w a _ h hf hro ?_;intro a1 w1 h1;have:=hQ a1 w1 h1;cases e with
    |nrm=>exact(hne _ _ hev).elim
    |ext id=>exact this
    |ret=>exact this
 |cond c o x y ax ay hco _ _ ihx ihy=>
   intro ro n fr H e fr' H' hev μ Mt w a Q h hf hro hQ;simp only[evC]at hev;have hv:=ni hf hco;split at hev
   .rename_i he;rw[he]at hv;exact wpIn_cond_true (aa6 hv) (ihx ro n _ _ _ _ _ hev μ Mt w a Q h hf hro hQ)
   .rename_i he;rw[he]at hv;exact wpIn_cond_false (aa6 hv) (ihy ro n _ _ _ _ _ hev μ Mt w a Q h hf hro hQ)
   .cases hev
 |block id c x _ ih=>
   intro ro n fr H e fr' H' hev μ Mt w a Q h hf hro hQ;simp only[evC]at hev;refine wpIn_block ?_;split at hev
   .rename_i id' fr1 H1 h1;cases hev;refine ih ro n _ _ _ _ _ h1 μ Mt w a _ h hf hro ?_;intro a1 w1 hr;have:=hQ a1 w1 hr
    show(if id'=id then Q .normal a1 w1 else Q (.exit id') a1 w1)
    split
    .rename_i hid;rw[dw hid]at this;exact this
    .rename_i hid;rw[fu hid]at this;exact this
   .rename_i hne;refine ih ro n _ _ _ _ _ hev μ Mt w a _ h hf hro ?_;intro a1 w1 hr;have:=hQ a1 w1 hr;cases e with
    |nrm=>exact this
    |ext id'=>exact(hne _ _ _ hev).elim
    |ret=>exact this
 |loop c kill x _ ih=>
   intro ro n fr H e fr' H' hev μ Mt w a Q h hf hro hQ;simp only[evC]at hev;refine wpIn_loop_rounds nn ?_;exact bah (ih ro n) kill H.length nn _ H e fr' H' hev μ Mt w a Q μ Mt w H a.defers h (aj _) (aj _) (Post.refl h) (Marks.refl _ _ _ _) (hf.kill kill) hro hQ
 |rangeFunc f o ps x y ax ay hco hx hy _ _=>
   intro ro n fr H e fr' H' hev μ Mt w a Q h hf hro hQ;simp only[evC]at hev;have hv:=ni hf hco;split at hev
   case h_2=>cases hev
   rename_i k u z he;rw[he]at hv;refine wpIn_rangeFunc ?_;intro fn _;obtain⟨l,mark,w1,μ1,Mt1,hen,p1,hm1,mk1⟩:=a6i h hf hro fn ps hx hy;have hv1:=p1.vr h hv;split at hev
   case h_2=>cases hev
   rename_i rv H2 hcl;generalize hfc:a.eval f=fc at hv1;cases hv1 with
   |fn _ _ _ fst' cap' h1 h2 h3 h4=>
     obtain⟨hent,hcall⟩:=hs.fn k u z _ base _ rv H2 hcl
     have hvs:VRs μ1 Mt1 w1 (u++[.yld H.length]++z) (fst'++#[Value.func (.yield l) #[] #[]]++cap').toList:=by
      have hu:VRs μ1 Mt1 w1 u fst'.toList:=⟨by simpa using h1,fun i p q hp hq=>h3 i p q hp (by simpa using hq)⟩
      have hz:VRs μ1 Mt1 w1 z cap'.toList:=⟨by simpa using h2,fun i p q hp hq=>h4 i p q hp (by simpa using hq)⟩
      have hy:VRs μ1 Mt1 w1 [.yld H.length] [Value.func (.yield l) #[] #[]]:=⟨rfl,fun i p q hp hq=>by
       cases i with
       |zero=>simp at hp hq;subst hp;subst hq;exact .yld _ _ hm1
       |succ i=>simp at hp⟩
      simpa using(hu.append hy).append hz
     have hcc:=hcall μ1 Mt1 w1 _ p1.hr hvs (n-1);simp only[xh]at hcc
     refine⟨l,mark,w1,⟨.fn (.func k) cap',fst'++#[Value.func (.yield l) #[] #[]]⟩,w1,k,fst'++#[Value.func (.yield l) #[] #[]]++cap',w1,hen,?_,fun _ _=>trivial,?_,fun h=>by simp[Fw]at h,?_⟩
     .have e1:a.eval (.const (.func (.yield l) #[] #[]))=Value.func (.yield l) #[] #[]:=rfl;simp only[resolve,hfc,Deferred.ofValue,Sem.run_pure,List.map_toArray,pq,ab2,e1]
     .simp only[invoke,hent]
     .refine CallsIn.mono hcc ?_;rintro e3 w3 ⟨c3,μ3,Mt3,rfl,_,p3⟩;have hm3:=p3.ext _ _ _ hm1;have pp:=p1.trans p3;have mk3:Marks w.heap.size μ3 w3 (mark++a.defers) a.defers:=mk1.trans p3 p1.tr.size (Marks.refl _ _ _ _);have hf3:FR μ3 Mt3 w3 fr a.tmps:=hf.post h pp;split at hev
      .rename_i hH;cases hev
       obtain⟨r,w4,hrun,hok,hres⟩:=atx (P:=P) (a:={ a with defers:=mark++a.defers }) h pp hm3 hH (by simp) hf3 mk3
       refine⟨r,w4,hrun,?_⟩;cases r with
       |none=>exact hQ _ _ hres
       |some c=>simp[amg]at hok
      .rename_i e' hH;cases hev
       obtain⟨r,w4,hrun,hok,hres⟩:=atx (P:=P) (a:={ a with defers:=mark++a.defers }) h pp hm3 hH (by simp) hf3 mk3
       refine⟨r,w4,hrun,?_⟩;cases e with
       |nrm=>exact hok.elim
       |ext id=>
         have hok:r=some (.exit id):=hok;subst hok;exact wpIn_exit (hQ _ _ hres)
       |ret=>
         have hok:r=some .ret:=hok;subst hok;exact wpIn_ret (hQ _ _ hres)
      .cases hev
end
section
variable {CC:CX} {μ μ':Mu} {Mt Mt':Nat->Prop} {w w':World} {H H':Heap} {P:Program} {pure':PX} {call:o8}
def PR.monoC(hM:∀B,B<w.heap.size->Mt' B->Mt B)(hk:∀(B:Nat) (arr:Array Value) (e:TypeId) (fr:Nat × Nat),w.heap[B]?=some (.cells arr e fr)->w'.heap[B]?=w.heap[B]?){v c}(h:PR Mt w v c):PR Mt' w' v c:=by
 induction h with
 |s v=>exact .s v
 |agg cs vs hl _ ih=>exact .agg cs vs hl ih
 |tup cs vs hl _ ih=>exact .tup cs vs hl ih
 |pref cs B o arr e fr hB hMB hs _ ih=>exact .pref cs B o arr e fr ((hk B _ _ _ hB).trans hB) (fun h=>hMB (hM B (lt_of_some hB) h)) hs ih
 |psl es sz B o cap arr e fr hB hMB hc hz hs _ ih=>exact .psl es sz B o cap arr e fr ((hk B _ _ _ hB).trans hB) (fun h=>hMB (hM B (lt_of_some hB) h)) hc hz hs ih
 |psl0 sz cap a=>exact .psl0 sz cap a
 |esl a=>exact .esl a
 |fn f fst cap fst' cap' hf hc _ _ ih1 ih2=>exact .fn f fst cap fst' cap' hf hc ih1 ih2
def VR.monoC(hM:∀B,B<w.heap.size->Mt' B->Mt B)(hk:∀(B:Nat) (arr:Array Value) (e:TypeId) (fr:Nat × Nat),w.heap[B]?=some (.cells arr e fr)->w'.heap[B]?=w.heap[B]?){v c}(h:VR μ Mt w v c):VR μ Mt' w' v c:=by
 induction h with
 |s v=>exact .s v
 |unk v=>exact .unk v
 |agg cs vs hl _ ih=>exact .agg cs vs hl ih
 |tup cs vs hl _ ih=>exact .tup cs vs hl ih
 |ref id g off B b hm=>exact .ref id g off B b hm
 |pref cs B o arr e fr hB hMB hs h=>exact .pref cs B o arr e fr ((hk B _ _ _ hB).trans hB) (fun h=>hMB (hM B (lt_of_some hB) h)) hs (fun i a b ha hb=>(h i a b ha hb).monoC hM hk)
 |sl id g off len sz B b cap arr e hm hB hc hs=>exact .sl id g off len sz B b cap arr e hm ((hk B _ _ _ hB).trans hB) hc hs
 |sl0 id g off sz B b a hm=>exact .sl0 id g off sz B b a hm
 |psl es sz B o cap arr e fr hB hMB hc hz hs h=>exact .psl es sz B o cap arr e fr ((hk B _ _ _ hB).trans hB) (fun h=>hMB (hM B (lt_of_some hB) h)) hc hz hs (fun i el j a b he ha hb=>(h i el j a b he ha hb).monoC hM hk)
 |psl0 sz cap a=>exact .psl0 sz cap a
 |esl a=>exact .esl a
 |mp id B hm=>exact .mp id B hm
 |fn f fst cap fst' cap' hf hc _ _ ih1 ih2=>exact .fn f fst cap fst' cap' hf hc ih1 ih2
 |yld id B hm=>exact .yld id B hm
def ObR.monoC(hM:∀B,B<w.heap.size->Mt' B->Mt B)(hk:∀(B:Nat) (arr:Array Value) (e:TypeId) (fr:Nat × Nat),w.heap[B]?=some (.cells arr e fr)->w'.heap[B]?=w.heap[B]?){ob b}{o:Obj}(h:ObR CC μ Mt w ob b o):ObR CC μ Mt' w' ob b o:=by
 cases ob with
 |cells g c=>cases o<;>first|exact h.elim|exact⟨h.1,h.2.1,fun i a v ha hv=>(h.2.2.1 i a v ha hv).monoC hM hk,h.2.2.2⟩
 |map es=>cases o<;>first|exact h.elim|exact⟨h.1,h.2.1,fun i k v e he hv=>⟨(h.2.2 i k v e he hv).1,(h.2.2 i k v e he hv).2.monoC hM hk⟩⟩
 |loop st pend tmps params assign body=>
   cases o<;>first|exact h.elim|skip
   obtain⟨h0,h1,h2,h3,h4,h5,h6⟩:=h;exact⟨h0,h1,h2,⟨h3.1,fun i a b ha hb=>(h3.2 i a b ha hb).monoC hM hk⟩,h4,h5,h6⟩
 |dead=>cases o<;>exact h.elim
 |bytes g l=>cases o<;>first|exact h.elim|exact h
def anm{μ0}{Mt0:Nat->Prop}{w0 H0}(hp:Post CC μ0 Mt0 w0 H0 μ Mt w H){D x y}(hD:w0.heap.size<=D)(hd:w.heap[D]?=some (.deferred x))(hn:∀id g b,μ id g≠some (D,b)):
 Post CC μ0 Mt0 w0 H0 μ Mt (w.putObj D (.deferred y)) H/\∀{v:V} {c:Value},VR μ Mt w v c->VR μ Mt (w.putObj D (.deferred y)) v c:=by
 have hk:∀(B:Nat) (arr:Array Value) (e:TypeId) (fr:Nat × Nat),w.heap[B]?=some (.cells arr e fr)->(w.putObj D (.deferred y)).heap[B]?=w.heap[B]?:=by
  intro B arr e fr hB;refine World.putObj_heap_other (fun e=>?_);subst e;rw[hd]at hB;cases hB
 have hsz:(w.putObj D (.deferred y)).heap.size=w.heap.size:=World.putObj_size
 have hne:∀K,K<w0.heap.size->(w.putObj D (.deferred y)).heap[K]?=w.heap[K]?:=fun K hK=>World.putObj_heap_other (by omega)
 refine⟨⟨hp.len,⟨hp.hr.dom,fun id g B b e=>by rw[hsz];exact hp.hr.isMut id g B b e,fun id ob g B b hH hc e=>?_,hp.hr.inj,hp.hr.gens,hp.hr.wf,fun B o e=>⟨(hk B _ _ _ (hp.hr.fix B o e).1).trans (hp.hr.fix B o e).1,(hp.hr.fix B o e).2⟩,hp.hr.zero⟩,hp.ext,hp.mt,
  ⟨by rw[hsz];exact hp.tr.size,fun B arr e fr hB=>?_,fun B l hB=>?_,fun B hB hu=>(hne B hB).trans (hp.tr.keep B hB hu),fun B arr e hB=>?_,hp.tr.os,hp.tr.tape,hp.tr.output⟩,hp.old,hp.news⟩,fun h=>h.monoC (fun _ _ h=>h) hk⟩
 .obtain⟨o,ho,hr⟩:=hp.hr.objs id ob g B b hH hc e;refine⟨o,(World.putObj_heap_other (fun eq=>?_)).trans ho,hr.monoC (fun _ _ h=>h) hk⟩;subst eq;exact hn id g b e
 .obtain⟨arr',fr',h1,h2⟩:=hp.tr.shape B arr e fr hB;exact⟨arr',fr',(hne B (lt_of_some hB)).trans h1,h2⟩
 .obtain⟨l',h1⟩:=hp.tr.loops B l hB;exact⟨l',(hne B (lt_of_some hB)).trans h1⟩
 .by_cases hBD:B=D
  .subst hBD;rw[World.putObj_heap_same (lt_of_some hd)]at hB;cases hB
  .rw[World.putObj_heap_other hBD]at hB;exact hp.tr.back B arr e hB
def atv{μ0}{Mt0:Nat->Prop}{w0 H0}{fn:Func}{tmps fr}{R:Ending->World->Prop}{n}(hfin:∀w',Post CC μ0 Mt0 w0 H0 μ Mt w' H->FR μ Mt w' fr tmps->∃v,(results fn tmps).run P w'=.ok v w'/\R (.returned v) w'):
 ∀(L:List Nat) (w:World),Post CC μ0 Mt0 w0 H0 μ Mt w H->FR μ Mt w fr tmps->L.Nodup->(∀D∈L,w0.heap.size<=D/\w.heap[D]?=some (.deferred (some []))/\∀id g b,μ id g≠some (D,b))->
   LeavesInM Fence.wide n P fn tmps R (L.map ayj) .returning w:=by
 intro L
 induction L with
 |nil=>intro w hp hf _ _;exact hfin w hp hf
 |cons D L ih=>
   intro w hp hf hnd hL;obtain⟨h1,h2,h3⟩:=hL D jh
   refine⟨by simp,.inl ⟨D,_,rfl,run_takeDeferred h2,?_⟩⟩
   obtain⟨p1,hv⟩:=anm (y:=none) hp h1 h2 h3;refine ih _ p1 ⟨hf.1,fun i a b ha hb=>hv (hf.2 i a b ha hb)⟩ (ad8.1 hnd).2 (fun E hE=>?_);obtain⟨k1,k2,k3⟩:=hL E (il _ hE)
   have hne:E≠D:=fun e=>by subst e;exact(ad8.1 hnd).1 hE
   exact⟨k1,(World.putObj_heap_other hne).trans k2,k3⟩
def as4(h:HR CC μ Mt w H){fr tmps}(hf:FR μ Mt w fr tmps):∀(rs:List ResultVar) (ars:List ARes) (vs:List V),rs.mapM (ah4 P)=some ars->ars.mapM (ak5 fr H)=some vs->
 ∃cs:List Value,(rs.mapM (fun|.tmp t=>pure (tmps.getD t Go.undef)|.cell a t=>do loadVar t (<- asAddr (tmps.getD a Go.undef)):ResultVar->Sem Value)).run P w=.ok cs w/\VRs μ Mt w vs cs:=by
 intro rs
 induction rs with
 |nil=>
   intro ars vs h1 h2;simp at h1;subst h1;simp at h2;subst h2
   exact⟨[],by simp[Sem.run_pure],rfl,fun i a b ha=>by simp at ha⟩
 |cons r rs ih=>
   intro ars vs h1 h2;simp only[qf,iw,fo,ak]at h1;obtain⟨a,ha,as',has,e⟩:=h1;cases e;simp only[qf,iw,fo,ak]at h2;obtain⟨v,hv,vs',hvs,e⟩:=h2;cases e;obtain⟨cs,hcs,hr⟩:=ih as' vs' has hvs
   have one:∃c,((fun|.tmp t=>pure (tmps.getD t Go.undef)|.cell a t=>do loadVar t (<- asAddr (tmps.getD a Go.undef)):ResultVar->Sem Value) r).run P w=.ok c w/\VR μ Mt w v c:=by
    cases r with
    |tmp t=>
      simp only[ah4]at ha;cases ha;simp only[ak5]at hv;cases hv;exact⟨_,rfl,hf.getD t⟩
    |cell t ty=>
      simp only[ah4,bu]at ha;obtain⟨⟨agg,k⟩,hs,e⟩:=ha;cases e;simp only[ak5]at hv;obtain⟨c,h1,h2⟩:=atu (P:=P) hs h (hf.getD t) hv;refine⟨c,?_,h2⟩;have hx:=hf.getD t;unfold abf at hv;split at hv
      .rename_i hfv;rw[hfv]at hx;obtain⟨B,b,hm,hpt⟩:=aso hx
       show Sem.run P (do loadVar ty (<- asAddr (tmps.getD t Go.undef))) w=_
       rw[hpt]at h1 |-
       simpa[Instr.loadAt,Instr.sureAddr,asAddr,Sem.run_bind,Sem.run_pure]using h1
      .rename_i hfv;rw[hfv]at hx;obtain⟨a',hpt,_⟩:=akj hx
       show Sem.run P (do loadVar ty (<- asAddr (tmps.getD t Go.undef))) w=_
       rw[hpt]at h1 |-
       simpa[Instr.loadAt,Instr.sureAddr,asAddr,Sem.run_bind,Sem.run_pure]using h1
      .cases hv
   obtain⟨c,hc,hvr⟩:=one
   refine⟨c::cs,?_,by simpa using VRs.append (a:=[v]) (c:=[c]) ⟨rfl,fun i p q hp hq=>by
    cases i with
    |zero=>simp at hp hq;subst hp;subst hq;exact hvr
    |succ i=>simp at hp⟩ hr⟩
   rw[qf];simp only[Sem.run_bind];rw[hc];simp only[bm0,hcs,Sem.run_pure]
def ae7(h:HR CC μ Mt w H){fr tmps}(hf:FR μ Mt w fr tmps){fn:Func}{ars:List ARes}(hc:fn.results.toList.mapM (ah4 P)=some ars){r}(hr:w9 ars fr H=some r):
 ∃v,(results fn tmps).run P w=.ok v w/\VR μ Mt w r v:=by
 unfold w9 at hr
 have main:∀vs,ars.mapM (ak5 fr H)=some vs->∃cs:List Value,(results fn tmps).run P w=.ok (if h:cs.toArray.size=1 then cs.toArray[0]else .tuple cs.toArray) w/\VRs μ Mt w vs cs:=by
  intro vs hvs;obtain⟨cs,h1,h2⟩:=as4 (P:=P) h hf fn.results.toList ars vs hc hvs;refine⟨cs,?_,h2⟩;unfold results;rw[bhg];simp only[Sem.run_bind,map_eq_pure_bind,bind_assoc,pure_bind]
  erw [h1]
  simp only[bm0,Sem.run_pure]
 split at hr
 .rename_i v hvs;cases hr;obtain⟨cs,h1,h2⟩:=main _ hvs
  have hl:cs.length=1:=by have:=h2.1;simp at this;exact this.symm
  match cs,hl with
  | [c],_=>exact⟨c,by simpa using h1,h2.2 0 r c rfl rfl⟩
 .rename_i vs hne hvs;cases hr;obtain⟨cs,h1,h2⟩:=main _ hvs
  have hl:cs.toArray.size≠1:=by
   intro hl;have h3:=h2.1;simp at hl;rw[hl]at h3
   match vs,h3 with
   | [v],_=>exact hne v rfl
  rw[dif_neg hl]at h1
  exact⟨_,h1,.tup vs cs.toArray (by simpa using h2.1) (fun i a b ha hb=>h2.2 i a b ha (by simpa using hb))⟩
 .cases hr
end
end Go.AM
