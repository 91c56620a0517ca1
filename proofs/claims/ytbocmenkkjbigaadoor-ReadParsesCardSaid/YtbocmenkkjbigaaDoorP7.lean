/- Texts of the proof: RdtR4, RdRJ, RdRS, RdS14, RdRT. -/
import Derived.Test.YtbocmenkkjbigaaDoorP0
import Derived.Test.YtbocmenkkjbigaaDoorP1
import Derived.Test.YtbocmenkkjbigaaDoorP2
import Derived.Test.YtbocmenkkjbigaaDoorP3
import Derived.Test.YtbocmenkkjbigaaDoorP4
import Derived.Test.YtbocmenkkjbigaaDoorP5
import Derived.Test.YtbocmenkkjbigaaDoorP6
set_option linter.all false
set_option maxRecDepth 100000
namespace Go.Proofs.YtbocmenkkjbigaaDoor
open Go.dO
def ss(m d:Nat)(b:ByteArray)(R:List (List V))(H:az)(out:Tok.Out)(X:Option dO.cJ):Prop:=
 (∃ts a6 aZ v H',out=.done (ts++[⟨4,[],0,a6,aZ⟩])/\X=some (.ext 0,au 197 (ho b d v b.size++[(18,aL false)]),H')/\lI m H' d v (R++ts.map cP)/\aA m [] H H'/\Tok.e2 (b.data.toList.take b.size) (1,1)=(a6,aZ)/\R.length+ts.length<=b.size)\/
 (∃e a q H',out=.bad e a q/\X=some (.ret,au 197 [(2,bz),(3,.ref d 0 0),(4,.s (.int .i64 e))],H')/\ao H' d 0=some [bd a,bd q]/\aA m [d] H H')
def ss.bT{m d b R H bK}{out:Tok.Out}{X:Option dO.cJ}(r:ss m d b R bK out X)(k:aA m [] H bK):ss m d b R H out X:=by
 rcases r with⟨ts,a6,aZ,v,H',J,U,ax,aY,cl⟩|⟨e,a,q,H',J,U,ax,aY⟩
 .exact .inl ⟨ts,a6,aZ,v,H',J,U,ax,k.trans aY (bS _),cl⟩
 .exact .inr ⟨e,a,q,H',J,U,ax,(aA.mono k (bS _) (fun id _ ae=>by simp at ae)).trans aY (bS _)⟩
def ss.cons{m d b R H bK}{out:Tok.Out}{X:Option dO.cJ}{t}(r:ss m d b (R++[cP t]) bK out X)(k:aA m [] H bK):ss m d b R H (.cons t out) X:=by
 rcases r.bT k with⟨ts,a6,aZ,v,H',rfl,U,ax,aY,cl,ks⟩|⟨e,a,q,H',rfl,U,ax,aY⟩
 .refine .inl ⟨t::ts,a6,aZ,v,H',rfl,U,?_,aY,cl,?_⟩
  .rw[lL,<- amo,<- kG];exact ax
  .rw[fU,bi]at ks;rw[gP];omega
 .exact .inr ⟨e,a,q,H',rfl,U,ax,aY⟩
section
variable {ah:Nat->Option c7}
def aF7(T:uI ah){base m b}(af:b.size<=2^40){d}(gZ:base<=m)(jl:base<=d):∀(N:Nat) (p a6 aZ:Nat) (v:V) (R:List (List V)) (H:az),b.size-p<=N->p<=b.size->lI m H d v R->R.length<=p->Tok.e2 (b.data.toList.take p) (1,1)=(a6,aZ)->
 ss m d b R H (Tok.lex (b.data.toList.drop p) a6 aZ) (aG (aC (aU ah) aG base p7) [55] m (au 197 (ho b d v p)) H):=by
 have tW:∀(p a6 aZ:Nat) (v:V) (R:List (List V)) (H:az),b.size-p=0->p<=b.size->lI m H d v R->R.length<=p->Tok.e2 (b.data.toList.take p) (1,1)=(a6,aZ)->
  ss m d b R H (Tok.lex (b.data.toList.drop p) a6 aZ) (aG (aC (aU ah) aG base p7) [55] m (au 197 (ho b d v p)) H):=by
  intro p a6 aZ v R H a1 J st b8 fO
  obtain rfl:p=b.size:=by omega
  rw[qO (show b.data.toList.length<=b.size from bS _),Tok.lex_nil]
  refine .inl ⟨[],a6,aZ,v,_,rfl,?_,by simpa using st.cj (fr:=au 197 (ho b d v b.size++[(18,aL false)])) (tO (s:=5) (by decide) rfl),aA.cj (A:=H) ⟨st.len,fun _ _ _=>rfl⟩ (au 197 (ho b d v b.size++[(18,aL false)])),fO,by simpa using b8⟩
  rw[eo];simp only[ho,simprocAttr,bd,jD,aM,nq]
 intro N
 induction N with
 |zero=>exact fun p a6 aZ v R H a1 J st b8 fO=>tW p a6 aZ v R H (by omega) J st b8 fO
 |succ N aw=>
   intro p a6 aZ v R H a1 J st b8 fO;by_cases b5:p=b.size
   .exact tW p a6 aZ v R H (by omega) J st b8 fO
   have bt:p<b.data.toList.length:=by show p<b.size;omega
   obtain⟨c,ae⟩:∃c,b.data.toList[p]?=some c:=⟨_,dy bt⟩
   have fi:b.data.toList.drop p=c::b.data.toList.drop (p+1):=by
    rw[hN bt,(cC.1 ae).2]
   have vl:∀k,(b.data.toList.drop (p+1)).drop k=b.data.toList.drop (p+(k+1)):=fun k=>by rw[nL];congr 1;omega
   have ei:∀q,p+(Tok.ba q (b.data.toList.drop (p+1))+1)<=b.size:=fun q=>by
    have:=Tok.sD q (b.data.toList.drop (p+1));rw[fJ,show b.data.toList.length=b.size from rfl]at this;have:p<b.size:=bt;omega
   have de:p<b.size:=bt
   have Nn:Tok.e2 (b.data.toList.take (p+1)) (1,1)=(if c=10 then(a6+1,1)else(a6,aZ+1)):=by
    rw[KZ,ae,Tok.BA,fO];simp only[Option.toList,Tok.e2]
   have O':∀q,q 10=false->c≠10->Tok.e2 (b.data.toList.take (p+(Tok.ba q (b.data.toList.drop (p+1))+1))) (1,1)=(a6,aZ+(Tok.ba q (b.data.toList.drop (p+1))+1)):=by
    intro q bD aa;rw[List.take_add,Tok.BA,fO,fi,fI,Tok.ur _ _ (Tok.vL q bD _ aa),gP,Tok.qn]
   rw[fi,Tok.sq];cases ds:Tok.blank c with
   |true=>
     obtain⟨bK,e,s,k⟩:=au1 T af jl gZ st b8 ae fO ds;rw[a' rfl,e];refine ss.bT ?_ k;split
     .rename_i gm
      exact aw _ _ _ v R bK (by omega) (by omega) s (by omega) (by rw[Nn,a' gm])
     .rename_i gm
      exact aw _ _ _ v R bK (by omega) (by omega) s (by omega) (by rw[Nn,bm gm])
   |false=>
     rw[bm (by simp)]
     by_cases eR:c=59
     .obtain⟨bK,e,s,k⟩:=aws T af jl gZ st b8 ae fO ds eR;rw[a' eR,e,vl]
      exact ss.bT (aw _ _ _ v R bK (by omega) (ei _) s (by omega) (O' _ (by decide) (by rw[eR];decide))) k
     .rw[bm eR];cases eJ:Tok.letter c with
      |true=>
        obtain⟨dQ,bK,e,s,k⟩:=auB T af jl gZ st b8 ae fO ds eR eJ;rw[a' rfl,e,vl]
        exact ss.cons (aw _ _ _ dQ _ bK (by omega) (ei _) s (by simp;omega) (O' _ (by decide) (Tok.s3 (.inl eJ)))) k
      |false=>
        rw[bm (by simp)]
        cases fk:Tok.digit c with
        |true=>
          rw[a' rfl];split
          .rename_i jo;obtain⟨bK,e,s,k⟩:=ar5 T af jl gZ st b8 ae fO ds eR eJ fk jo;rw[e];exact .inr ⟨31,a6,aZ,bK,rfl,rfl,s,k⟩
          .rename_i jo;obtain⟨dQ,bK,e,s,k⟩:=aCZ T af jl gZ st b8 ae fO ds eR eJ fk jo;rw[e,vl]
           exact ss.cons (aw _ _ _ dQ _ bK (by omega) (ei _) s (by simp;omega) (O' _ (by decide) (Tok.s3 (.inr (.inl fk))))) k
        |false=>
          rw[bm (by simp)]
          cases nP:Tok.sign c with
          |true=>
            obtain⟨dQ,bK,e,s,k⟩:=aEP T af jl gZ st b8 ae fO ds eR eJ fk nP;rw[a' rfl,e]
            exact ss.cons (aw _ _ _ dQ _ bK (by omega) (by omega) s (by simp;omega) (by rw[Nn,bm (Tok.s3 (.inr (.inr nP)))])) k
          |false=>
            obtain⟨bK,e,s,k⟩:=atV T af jl gZ st b8 ae fO ds eR eJ fk nP
            rw[bm (by simp),e]
            exact .inr ⟨30,a6,aZ,bK,rfl,rfl,s,k⟩
def aCl(aR:ah C1=some (.code rn))(T:uI ah)(base H)(xj:base<=H.length)(b r)(ar:gA b.data.toList=r):
 ∃v H',aU ah (.fn C1 [] []) [.s (.string b)] base H=some (.bV [v,.agg [bd r.2.1.1,bd r.2.1.2],.s (.int .i64 r.2.2)],H')/\cp H.length 5 H' v (r.1.map cP)/\aA H.length [] H H':=by
 by_cases de:1048576<b.size
 .have xr:r=([],(0,0),2):=by rw[<- ar];exact a' de
  have bb:decide ((b.size:Int) > 1048576)=true:=by rw[iA];omega
  have e:aU ah (.fn C1 [] []) [.s (.string b)] base H=some (.bV [bz,.agg [.s (.int .i64 0),.s (.int .i64 0)],.s (.int .i64 2)],H++[.cells 0 [.s (.int .i64 0),.s (.int .i64 0)]]):=by
   refine iY (c:=rn) (k:=1) aR rfl (by decide) N1 ?_
   simp only[rn,simprocAttr,bz,jD,aM,bb,xj,tI,yp]
  subst xr
  exact⟨_,_,e,cp.start _ _ _,by simp,fun id h _=>by rw[d' h]⟩
 .have bb:decide ((b.size:Int) > 1048576)=false:=by rw[CR];omega
  obtain⟨L,dw⟩:∃L,H.length=L:=⟨_,rfl⟩;obtain⟨gj,jN⟩:∃gj,H++[bq.cells 0 [V.s (Value.int IntKind.i64 0),V.s (Value.int IntKind.i64 0)]]=gj:=⟨_,rfl⟩
  have hs:∀x,x<L->gj[x]?=H[x]?:=fun x ae=>by rw[<- jN];rw[d' (by omega)]
  have sY:gj.length=L+1:=by rw[<- jN];simp[dw]
  have g0:ao gj L 0=some [bd 0,bd 0]:=by rw[<- jN];simp[ao,dw,bd]
  have st:lI (L+1) gj L bz []:=⟨⟨_,_,g0⟩,cp.start _ _ _,by omega,by omega⟩
  have Ax:=aF7 T (base:=base) (m:=L+1) (b:=b) (by omega) (d:=L) (by omega) (by omega) b.size 0 1 1 bz [] gj (by omega) (by omega) st (by simp) rfl
  have kV:r=match Tok.lex b.data.toList 1 1 with
   |.done ts=>(ts,(0,0),0)
   |.bad e a q=>([],(a,q),e):=by rw[<- ar];exact bm de
  rw[l3]at Ax
  have oT:base<=L:=by omega
  rcases Ax with⟨ts,a6,aZ,v,H',J,U,ax,aY,cl,ks⟩|⟨e,a,q,H',J,U,ax,aY⟩
  .rw[J]at kV;simp only at kV;subst kV
   have jH:base<=H'.length:=by have:=aY.1;omega
   have kL:=An T.spot base H' jH (b:=b) (by omega) (q:=b.size) (bS _)
   simp only[cl]at kL
   obtain⟨dQ,C,uQ,zS,tE⟩:=ax.app (base:=base) (by omega) (bq.cells 0 [V.s (.int .i64 a6),V.s (.int .i64 aZ)]) (row:=cP ⟨4,[],0,a6,aZ⟩) rfl rfl (by simp at ks |-;omega)
   have Ap:gW (H'++[bq.cells 0 [V.s (.int .i64 a6),V.s (.int .i64 aZ)]]++[bq.cells 0 [V.s (.int .u8 4),V.s (.string ⟨#[]⟩),V.s (.int .i64 0),V.s (.int .i64 a6),V.s (.int .i64 aZ)]]) base 5 48 v (.aB (H'.length+1) 0 0 1 5)=some (dQ,C):=uQ;obtain⟨x,y,d2⟩:=zS.res;have d3:∀c,ao (C.set L (.cells 0 c)) L 0=some c:=fun c=>e4 d2 c
   have e:aU ah (.fn C1 [] []) [.s (.string b)] base H=some (.bV [dQ,.agg [.s (.int .i64 0),.s (.int .i64 0)],.s (.int .i64 0)],C.set L (.cells 0 [.s (.int .i64 0),.s (.int .i64 0)])):=by
    refine iY (c:=rn) (k:=1) aR rfl (by decide) N1 ?_
    simp only[ho,bz]at U;rw[bd,show((0:Nat):Int)=0 from rfl]at U;simp only[rn,simprocAttr,jD,aM,dw,bb,oT,tI,yp,jN,sY,U,kL,Ap,d2,d3]
   refine⟨_,_,e,?_,?_⟩
   .rw[OP,lL,x7]
    obtain⟨hw,⟨ck,_⟩|⟨id,g,rfl,mg,hid⟩⟩:=zS.out
    .simp at ck
    .rw[km]at hw mg |-
     refine⟨hw,.inr ⟨id,g,by simp,?_,by omega⟩⟩
     unfold ao at mg |-
     rw[cf (by omega)]
     exact mg
   .refine⟨by rw[eF];have:=tE.1;omega,fun x ae _=>?_⟩
    rw[cf (by omega),tE.2 x (by omega) (by simp),aY.2 x (by omega) (by simp),hs x (by omega)]
  .rw[J]at kV;simp only at kV;subst kV
   have e:aU ah (.fn C1 [] []) [.s (.string b)] base H=some (.bV [bz,.agg [.s (.int .i64 a),.s (.int .i64 q)],.s (.int .i64 e)],H'):=by
    refine iY (c:=rn) (k:=1) aR rfl (by decide) N1 ?_
    simp only[ho,bz]at U;rw[bd,show((0:Nat):Int)=0 from rfl]at U;simp only[rn,simprocAttr,bz,jD,aM,dw,bb,oT,tI,yp,jN,sY,U,ax]
   exact⟨_,_,e,cp.start _ _ _,by have:=aY.1;omega,fun id hid _=>by rw[aY.2 id (by omega) (by simp;omega),hs id (by omega)]⟩
end
def kx.cj{m0 b7 L z2 z3 c1 cQ cZ ts C cD}(h:kx m0 b7 L z2 z3 c1 cQ cZ ts C cD)(fr):kx m0 b7 L z2 z3 c1 cQ cZ ts (trim L fr C) cD:=by
 obtain⟨en,e8,uY,sY⟩:=h.lt;have ak:=h.len;have hm:=h.Ae
 have g:∀i g c,i<L->ao C i g=some c->ao (trim L fr C) i g=some c:=fun i g c hi aa=>by
  unfold ao at aa |-;rw[tQ _ _ _ hi];exact aa
 refine⟨g _ _ _ en h.cV,g _ _ _ e8 h.e9,g _ _ _ uY h.mG,g _ _ _ sY h.pR,h.lt,h.ne,?_,fun j br=>by rw[tQ _ _ _ (by omega),h.ed j br],h.Ae⟩
 rcases Go.dO.rW L fr C with e|⟨e,_⟩<;>rw[e]
 .exact ak
 .rw[lG];omega
def GA(m0:Nat)(b7:az)(z2 z3:Nat)(w:Tok.T)(D:az):Prop:=ao D z2 0=some [.s (.slice none 0 0)]/\ao D z3 0=some [.s (.int .i64 w.line),.s (.int .i64 w.jB)]/\∀j,j<m0->D[j]?=b7[j]?
def zx.x{m0 b7 L z2 z3 c1 cQ cZ ts C D cD w}(h:zx L z2 z3 w C D)(bJ:kx m0 b7 L z2 z3 c1 cQ cZ ts C cD):GA m0 b7 z2 z3 w D/\L<=D.length:=by
 obtain⟨J,U,ax,aY⟩:=h;have:=bJ.Ae;have:=bJ.lt;have:=bJ.len
 exact⟨⟨J,U,fun j br=>by rw[aY j (by omega) (by omega),bJ.ed j br]⟩,by omega⟩
def GA.cj{m0 b7 L z2 z3 w D}(h:GA m0 b7 z2 z3 w D)(U:z2<L)(ax:z3<L)(hm:m0<=z2)(fr):GA m0 b7 z2 z3 w (trim L fr D):=by
 obtain⟨a,b,c⟩:=h
 have g:∀i g c,i<L->ao D i g=some c->ao (trim L fr D) i g=some c:=fun i g c hi aa=>by
  unfold ao at aa |-;rw[tQ _ _ _ hi];exact aa
 exact⟨g _ _ _ U a,g _ _ _ ax b,fun j br=>by rw[tQ _ _ _ (by omega),c j br]⟩
section
variable {ah:Nat->Option c7} {m0:Nat} {b7:az}
set_option maxHeartbeats 2000000 in
def aID(aR:u0 ah)(base){L z2 z3 c1 cQ cZ ts}(bx:te ts)(aN:ts.length<2^20)(af:base<=z2/\base<=z3/\base<=c1)(C2:LK ts)(FC:∀l,DZ l):∀(n:Nat) (gs:List hv) (cur:Option hv) (a:Nat) (C:az) (cD:V),a<ts.length->ts.length<=a+n->kx m0 b7 L z2 z3 c1 cQ cZ ts C cD->Inv L C cD gs cur->gs.length<=a->Qa cur a->
 match jF ts n gs cur a with
  |.error e=>∃w,ts[e]?=some w/\((∃D,aG (aC (aU ah) aG base sr) [] L (au 273 [(2,.ref z2 0 0),(3,.ref z3 0 0),(5,.aB cQ cZ 0 ts.length 5),(8,.ref c1 0 0),(9,.s (.bool cur.isSome)),(10,.s (.int .i64 a))]) C=some (.ret,au 273 [(2,.ref z2 0 0),(3,.ref z3 0 0),(4,.s (.int .i64 (if w.kind=4 then 41 else 40:Nat)))],D)/\GA m0 b7 z2 z3 w D)\/∃yf D,aG (aC (aU ah) aG base sr) [] L (au 273 [(2,.ref z2 0 0),(3,.ref z3 0 0),(5,.aB cQ cZ 0 ts.length 5),(8,.ref c1 0 0),(9,.s (.bool cur.isSome)),(10,.s (.int .i64 a))]) C=some (.ext 0,au 273 [(2,.ref z2 0 0),(3,.ref z3 0 0),(5,.aB cQ cZ 0 ts.length 5),(8,.ref c1 0 0),(9,.s (.bool true)),(10,.s (.int .i64 e)),(44,.s (.bool false))],D)/\kx m0 b7 L z2 z3 c1 cQ cZ ts D yf)
  |.ok w2=>∃bL yf D,aG (aC (aU ah) aG base sr) [] L (au 273 [(2,.ref z2 0 0),(3,.ref z3 0 0),(5,.aB cQ cZ 0 ts.length 5),(8,.ref c1 0 0),(9,.s (.bool cur.isSome)),(10,.s (.int .i64 a))]) C=some (.ext 0,au 273 [(2,.ref z2 0 0),(3,.ref z3 0 0),(5,.aB cQ cZ 0 ts.length 5),(8,.ref c1 0 0),(9,.s (.bool false)),(10,.s (.int .i64 (bL:Nat))),(44,.s (.bool false))],D)/\j3 L D yf w2/\kx m0 b7 L z2 z3 c1 cQ cZ ts D yf:=by
 intro n
 induction n with
 |zero=>intro gs cur a C cD aD al;omega
 |succ n aw=>
   intro gs cur a C cD aD al bJ lp aaK M1;obtain⟨t,a1⟩:∃t,ts[a]?=some t:=⟨_,dy aD⟩
   have Ht:ts.getD a cU=t:=by rw[mI,a1];rfl
   obtain⟨i1,g1,cn,ea,_,ey,_⟩:=bJ.pR.all.at a1;rw[jF,Ht];by_cases aY:t.kind=4
   .rw[a' aY]
    have e3:(((t.kind:Nat):Int) != 4)=false:=by rw[aY];rfl
    have ae:aG (aC (aU ah) aG base sr) [] L (au 273 [(2,.ref z2 0 0),(3,.ref z3 0 0),(5,.aB cQ cZ 0 ts.length 5),(8,.ref c1 0 0),(9,.s (.bool cur.isSome)),(10,.s (.int .i64 a))]) C=some (.ext 0,au 273 [(2,.ref z2 0 0),(3,.ref z3 0 0),(5,.aB cQ cZ 0 ts.length 5),(8,.ref c1 0 0),(9,.s (.bool cur.isSome)),(10,.s (.int .i64 a)),(44,.s (.bool false))],trim L (au 273 [(2,.ref z2 0 0),(3,.ref z3 0 0),(5,.aB cQ cZ 0 ts.length 5),(8,.ref c1 0 0),(9,.s (.bool cur.isSome)),(10,.s (.int .i64 a)),(44,.s (.bool false))]) C):=by
     rw[eo];have aa:sr=.seq (.seq (.bc I3 [39,40,41,42,43] [44]) (.cond (.t 44) .skip (.exit 0))) (.block 1 xh):=rfl;rw[aa];simp only[jP,simprocAttr,aM,ea,ey,e3]
    have Tv:=bJ.cj (au 273 [(2,.ref z2 0 0),(3,.ref z3 0 0),(5,.aB cQ cZ 0 ts.length 5),(8,.ref c1 0 0),(9,.s (.bool cur.isSome)),(10,.s (.int .i64 a)),(44,.s (.bool false))]);cases cur with
    |none=>exact⟨a,cD,_,ae,Inv.cj (cur:=none) lp bJ.lt.2.2.1 bJ.mG _,Tv⟩
    |some f=>exact⟨t,a1,.inr ⟨cD,_,ae,Tv⟩⟩
   .rw[bm aY];have st:=ate aR base bJ bx aN af lp a1 aY aaK M1 C2 FC;revert st;cases tP ts gs cur a t with
    |error e=>
      rintro⟨w,hw,D,d1,d2⟩;obtain⟨bp,aP⟩:=d2.x bJ
      refine⟨w,hw,.inl ⟨trim L (au 273 [(2,.ref z2 0 0),(3,.ref z3 0 0),(4,.s (.int .i64 (if w.kind=4 then 41 else 40:Nat)))]) D,?_,bp.cj bJ.lt.1 bJ.lt.2.1 bJ.Ae.1 _⟩⟩
      rw[eo,d1];rfl
    |ok p=>
      obtain⟨w2,tB,b⟩:=p;rintro⟨s1,s2,lM,Pc,yf,D,d1,d2,d3⟩
      have o2:aG (aC (aU ah) aG base sr) [] L (au 273 [(2,.ref z2 0 0),(3,.ref z3 0 0),(5,.aB cQ cZ 0 ts.length 5),(8,.ref c1 0 0),(9,.s (.bool cur.isSome)),(10,.s (.int .i64 a))]) C=aG (aC (aU ah) aG base sr) [] L (au 273 [(2,.ref z2 0 0),(3,.ref z3 0 0),(5,.aB cQ cZ 0 ts.length 5),(8,.ref c1 0 0),(9,.s (.bool tB.isSome)),(10,.s (.int .i64 b))]) (trim L (au 273 [(2,.ref z2 0 0),(3,.ref z3 0 0),(5,.aB cQ cZ 0 ts.length 5),(8,.ref c1 0 0),(9,.s (.bool tB.isSome)),(10,.s (.int .i64 b))]) D):=by
       rw[eo,d1];rfl
      have q:=aw w2 tB b (trim L (au 273 [(2,.ref z2 0 0),(3,.ref z3 0 0),(5,.aB cQ cZ 0 ts.length 5),(8,.ref c1 0 0),(9,.s (.bool tB.isSome)),(10,.s (.int .i64 b))]) D) yf s2 (by omega) (d3.cj _) (d2.cj d3.lt.2.2.1 d3.mG _) lM Pc
      rw[<- o2]at q;exact q
def QD(ah:Nat->Option c7):Prop:=∀(base:Nat) (H:az) (b:ByteArray),base<=H.length->(b.size<=1500\/1048576<b.size)->∃v H',aU ah (.fn SB [] []) [.s (.string b)] base H=some (.bV [.agg [v],.agg [bg (jY b.data.toList).2.1.1,bg (jY b.data.toList).2.1.2],bg (jY b.data.toList).2.2],H')/\Ext H H'/\pB H' v (jY b.data.toList).1
set_option maxHeartbeats 2000000 in
theorem ar7(aR:u0 ah)(dw:ah C1=some (.code rn))(b8:uI ah)(aS:ah SB=some (.code pe))(FC:∀l,DZ l)(axN:∀l:List UInt8,l.length<=1500->(gA l).2.2=0->te (gA l).1/\(gA l).1≠[]/\(gA l).1.length<2^20/\LK (gA l).1/\jF (gA l).1 (gA l).1.length [] none 0=Dh (gA l).1):QD ah:=by
 intro base H b af de;obtain⟨r,ar⟩:∃r,gA b.data.toList=r:=⟨_,rfl⟩;obtain⟨j4,o7⟩:∃X,H++[bq.cells 0 [.s (.slice none 0 0)]]=X:=⟨_,rfl⟩;obtain⟨hr,ow⟩:∃X,j4++[bq.cells 0 [.s (.int .i64 0),.s (.int .i64 0)]]=X:=⟨_,rfl⟩
 have en:j4.length=H.length+1:=by rw[<- o7,kw]
 have e8:hr.length=H.length+2:=by rw[<- ow,kw,en]
 have eG:Ext H j4:=o7▸Ext.app _ _;have ee:Ext j4 hr:=ow▸Ext.app _ _;have cV:ao hr H.length 0=some [.s (.slice none 0 0)]:=df (o7▸dz H 0 _) ee
 have e9:ao hr (H.length+1) 0=some [.s (.int .i64 0),.s (.int .i64 0)]:=by rw[<- en,<- ow];exact dz j4 0 _
 obtain⟨j0,Q,t1,t2,t3⟩:=aCl dw b8 base hr (by omega) b r ar
 have aC7:=t3.1
 have QZ:Ext hr Q:=Ext.tT aC7 fun i hi=>t3.2 i hi (by simp)
 obtain⟨adI,S6⟩:∃X,Q++[bq.cells 0 [.s (.int .i64 0),.s (.int .i64 0)]]=X:=⟨_,rfl⟩;obtain⟨qY,Kb⟩:∃X,Q++[bq.cells 0 [.s (.int .i64 r.2.1.1),.s (.int .i64 r.2.1.2)]]=X:=⟨_,rfl⟩;have aug:ao adI Q.length 0=some [.s (.int .i64 0),.s (.int .i64 0)]:=S6▸dz Q 0 _
 have arl:adI.set Q.length (.cells 0 [.s (.int .i64 r.2.1.1),.s (.int .i64 r.2.1.2)])=qY:=by rw[<- S6,ln,Kb]
 have au0:qY.length=Q.length+1:=by rw[<- Kb,kw]
 have vm:Ext Q qY:=Kb▸Ext.app _ _;have g6:ao qY Q.length 0=some [.s (.int .i64 r.2.1.1),.s (.int .i64 r.2.1.2)]:=Kb▸dz Q 0 _;have FT:=df cV (QZ.trans vm);have QH:=df e9 (QZ.trans vm)
 have aqN:base<=Q.length:=by omega
 have nC:base<=H.length:=af
 have jk:base<=H.length+1:=by omega
 have ck:aC (aU ah) aG base (.region OQ [] wy) (au 273 [(0,.s (.string b))]) H=some (.bH,au 273 [(0,.s (.string b)),(2,.ref H.length 0 0),(3,.ref (H.length+1) 0 0)],hr):=by
  simp only[jP,simprocAttr,aM,o7,en,ow]
  try rfl
 have anG:=t2.rd.one
 have aF:aC (aU ah) aG base (.region PE [] [0,28,29,30,31,32,33]) (au 273 [(0,.s (.string b)),(2,.ref H.length 0 0),(3,.ref (H.length+1) 0 0)]) hr=some (.bH,au 273 [(2,.ref H.length 0 0),(3,.ref (H.length+1) 0 0),(5,j0),(6,.ref Q.length 0 0),(7,.s (.int .i64 r.2.2))],qY):=by
  simp only[bd]at t1;simp only[jP,simprocAttr,aM,t1,S6,aug,arl,aqN,k7]
  try rfl
 have aqd:aC (aU ah) aG base pe.body (au 273 [(0,.s (.string b))]) H=aC (aU ah) aG base (match pe.body with|.seq _ (.seq _ c)=>c|_=>.skip) (au 273 [(2,.ref H.length 0 0),(3,.ref (H.length+1) 0 0),(5,j0),(6,.ref Q.length 0 0),(7,.s (.int .i64 r.2.2))]) qY:=(eh ck).trans (eh aF)
 have PJ:Ext H qY:=eG.trans (ee.trans (QZ.trans vm))
 have h9:∀{v:V} {H':az},vT pe.results (aC (aU ah) aG base (match pe.body with|.seq _ (.seq _ c)=>c|_=>.skip) (au 273 [(2,.ref H.length 0 0),(3,.ref (H.length+1) 0 0),(5,j0),(6,.ref Q.length 0 0),(7,.s (.int .i64 r.2.2))]) qY)=some (v,H')->aU ah (.fn SB [] []) [.s (.string b)] base H=some (v,H'):=fun {v H'} hh=>
  iY (c:=pe) (k:=1) aS rfl (by decide) aDG ((dX (vT pe.results) aqd).trans hh)
 unfold jY;rw[ar]
 have Lc:∀{D:az} {z:Nat} {x:V},ao D z 0=some [x]->iT D true 1 (.ref z 0 0)=some (.agg [x]):=fun h=>by simp only[iT,h];rfl
 have A6:∀{D:az} {z:Nat} {x y:V},ao D z 0=some [x,y]->iT D true 2 (.ref z 0 0)=some (.agg [x,y]):=fun h=>by simp only[iT,h];rfl
 by_cases he:r.2.2=0
 .rw[a' he]
  have hI:b.data.toList.length<=1500:=by
   rcases de with h|h
   .exact h
   .exfalso;have:gA b.data.toList=([],(0,0),2):=a' h;rw[this]at ar;rw[<- ar]at he;cases he
  obtain⟨bp,aP,bj,C2,c4⟩:=axN _ hI (by rw[ar];exact he)
  rw[ar]at bp aP bj C2 c4
  obtain⟨cQ,cZ,aB1,Ek,aKe⟩:∃cQ cZ,j0=.aB cQ cZ 0 r.1.length 5/\ao Q cQ cZ=some (r.1.map cP).flatten/\hr.length<=cQ:=by
   obtain⟨_,⟨e,_⟩|⟨cQ,cZ,e,aa,k⟩⟩:=t2
   .rw[Xh]at e;exact absurd e aP
   .rw[zw]at e;exact⟨cQ,cZ,e,aa,k⟩
  subst aB1;have aJy:=hL Ek;obtain⟨E2,Eh⟩:∃X,qY++[bq.cells 0 [.s (.slice none 0 0)]]=X:=⟨_,rfl⟩
  have aoP:E2.length=qY.length+1:=by rw[<- Eh,kw]
  have ud:Ext qY E2:=Eh▸Ext.app _ _
  have bJ:kx H.length H E2.length H.length (H.length+1) qY.length cQ cZ r.1 E2 bz:=⟨df FT ud,df QH ud,Eh▸dz qY 0 _,df Ek (vm.trans ud),⟨by omega,by omega,by omega,by omega⟩,⟨by omega,by omega,by omega,by omega,by omega,by omega⟩,bS _,fun j br=>(PJ.trans ud).get br,⟨by omega,by omega,by omega⟩⟩
  have qh:0<r.1.length:=List.length_pos_iff.2 aP
  have SH:=aID aR base bp bj ⟨nC,jk,by omega⟩ C2 FC r.1.length [] none 0 E2 bz qh (by omega) bJ (j3.start _ _) (fa _) (fun f al=>by cases al)
  rw[c4]at SH;rw[rD,show(none:Option hv).isSome=false from rfl]at SH
  have ET:(((r.2.2:Nat):Int) != 0)=false:=by rw[he];rfl
  revert SH;cases Dh r.1 with
  |ok bG=>
    rintro⟨bL,cD,D,d1,d2,d3⟩;obtain⟨bY,fu⟩:∃X,D.set H.length (.cells 0 [cD])=X:=⟨_,rfl⟩;have RI:=d3.mG;have cN:=d3.cV
    have et:ao bY (H.length+1) 0=some [.s (.int .i64 0),.s (.int .i64 0)]:=by rw[<- fu,tv _ (by omega)];exact d3.e9
    have aru:ao bY H.length 0=some [cD]:=fu▸e4 cN _;have lM:=JV et;have IH:=d3.len
    have aEW:bY.length=D.length:=by rw[<- fu,eF]
    have aGh:cD.one=true:=by
     obtain⟨R,aV,_⟩:=d2.rows;exact aV.rd.one
    refine⟨cD,bY,h9 ?_,Ext.tT (by omega) fun i hi=>by rw[<- fu,cf (by omega),d3.ed i hi],d2.done fun i i1 i2=>by rw[<- fu,cf (by omega)]⟩
    have xN:=Lc aru;have A3:=A6 et;have z0:((0:Nat):Int)=0:=rfl;simp only[pe,simprocAttr,jP,aM,ET,Eh,d1,RI,cN,fu,et,lM,aGh,nC,jk,tI,xN,A3,bg,z0,k7]
    try rfl
  |error e=>
    rintro⟨w,hw,cX⟩
    have Ht:r.1.getD e cU=w:=by rw[mI,hw];rfl
    dsimp only;rw[Ht]
    rcases cX with⟨D,d1,d2,d3,d4⟩|⟨cD,D,d1,d3⟩
    .have xN:=Lc d2;have A3:=A6 d3;have J:=hL d3
     refine⟨.s (.slice none 0 0),D,h9 ?_,Ext.tT (by omega) d4,F5 _⟩
     simp only[pe,simprocAttr,jP,aM,ET,Eh,d1,tI,xN,A3,bg]
     try rfl
    .obtain⟨W,bY,aV,b4,dJ,eO,hY,oK⟩:=Lx aR base d3 (by have:=d3.len;omega) w
     obtain⟨i1,g1,cn,ea,ey,_⟩:=d3.pR.all.at hw;obtain⟨⟨v1,v2,v3⟩,v4⟩:=oK.x d3;have xN:=Lc v1;have A3:=A6 v2
     refine⟨.s (.slice none 0 0),bY,h9 ?_,Ext.tT (by omega) v3,F5 _⟩
     simp only[pe,simprocAttr,jP,aM,ET,Eh,d1,ea,ey,aV,b4,dJ,eO,hY,nC,jk,tI,xN,A3,bg,k7]
     try rfl
 .rw[bm he]
  have ET:(((r.2.2:Nat):Int) != 0)=true:=by rw[hU];omega
  obtain⟨D,cX⟩:∃X,qY.set (H.length+1) (.cells 0 [.s (.int .i64 r.2.1.1),.s (.int .i64 r.2.1.2)])=X:=⟨_,rfl⟩;have s2:=JV FT;have et:ao D (H.length+1) 0=some [.s (.int .i64 r.2.1.1),.s (.int .i64 r.2.1.2)]:=cX▸e4 QH _
  have cN:ao D H.length 0=some [.s (.slice none 0 0)]:=by rw[<- cX,tv _ (by omega)];exact FT
  have xN:=Lc cN;have A3:=A6 et;have j1:∀(a b c:Nat),V.jM (.ref a b c)=some (some a):=fun _ _ _=>rfl;have od:∀i j:Nat,aux (some (some i)) (some (some j))=(i != j):=fun _ _=>rfl
  have JE:(Q.length != H.length)=true:=by rw[hU];omega
  have aDY:(H.length != Q.length)=true:=by rw[hU];omega
  refine⟨.s (.slice none 0 0),D,h9 ?_,Ext.tT (by rw[<- cX,eF];have:=PJ.le;omega) fun i hi=>by rw[<- cX,cf (by omega),PJ.get hi],F5 _⟩
  simp only[pe,simprocAttr,aqO,sR,jP,aM,ET,g6,FT,s2,QH,cX,nC,jk,k7];simp only[j8,simprocAttr,Ge,Lo,mo,jg,Bw,b3.place,b3.obj,aM,j1,od,JE,tI,xN,A3,bg]
  try rfl
end
theorem aFK{ts}(bx:te ts)(mh:∀t∈ts,q5 t){N}(dv:ts.length<N){n gs a}(aD:a<ts.length)(aN:ts.length<=a+(n+1))(aY:(aJ.of ts).kind a≠4)(an:(aJ.of ts).kind a=1)(aO:(aJ.of ts).text a=[102,117,110,99]):
 match um (aJ.of ts) N a with
 |.error e=>jF ts (n+1) gs none a=.error e
 |.ok (f,c)=>∃c3,c3<n+1/\jF ts (n+1) gs none a=jF ts c3 (gs++[f]) none c/\c<ts.length/\ts.length<=c+c3/\a<c/\nf (aJ.of ts) c=false:=by
 have a1:ts[a]?=some (ts.getD a cU):=by rw[mI,dy aD];rfl
 have aS:=KY bx mh a1 aY;obtain⟨k,aas⟩:∃k,h3 (ts.getD a cU).line (ts.drop (a+1))+1=k:=⟨_,rfl⟩;obtain⟨l,ak⟩:∃l,(ts.drop a).take k=l:=⟨_,rfl⟩;rw[aas,ak]at aS;have hI:=aS.le;have qh:=aS.pos;have nF:=ai1 (gs:=gs) (t:=ts.getD a cU) aas ak
 have tX:cT l 0 1 [102,117,110,99]=true:=by rw[aS.sj,an,aO];rfl
 have ck:bW l (cO lD) 0=bW l [[78],[40],[123]] 1:=by
  show bW l ([102,117,110,99]::[[78],[40],[123]]) 0=_;rw[Kf aS.xk ⟨102,117,[110,99],rfl,rfl⟩,a' tX]
 have bad:∀j,bW l (cO lD) 0=(j,false)->jF ts (n+1) gs none a=.error (a+j):=fun j e=>by
  rw[B9 aY,nF,e];rfl
 rw[ck]at nF bad;unfold um
 rcases aS.r9 (i:=1) (by omega) qh with⟨s,aV,b4,dJ,eO,hY⟩|⟨aV,b4⟩
 .rw[iz dJ];rw[sh,a' aV]at nF bad
  obtain⟨fr,bp,aP⟩:=Qj aS (N:=N) (by omega) [[123]] (i:=2) (by omega) (by omega)
  rw[bp]at nF bad;revert aP;cases bt:o9 (aJ.of ts) N (a+2)with
  |error e=>
    rintro⟨j,rfl,rfl⟩;rw[show a+(1+1)=a+2 from rfl,kt bt];exact bad j rfl
  |ok p=>
    obtain⟨ps,c⟩:=p;rintro⟨j,rfl,hA,rfl,GH,zl⟩;rw[show a+(1+1)=a+2 from rfl,iz bt];dsimp only at nF bad
    rw[a' rfl,Fb aS.xk _ _ (by decide) (by decide)]at nF bad
    have FW:0<j:=by
     have U:2<=(bW l [[40]] 2).1:=Ii _
     obtain⟨nM,bC,bP⟩:=Qj aS (N:=N) (by omega) [] (i:=2) (by omega) (by omega)
     rw[bt]at bP;obtain⟨m',aJk,_,aCh,_⟩:=bP;rw[bC,aCh]at U;have ax:2<=m':=U;omega
    rcases aS.tj (i:=j) FW hA (s:=[123]) rfl with⟨cq,cN,et,jd,lx,pn⟩|⟨cq,cN,et⟩
    .rw[iz et];rw[a' cq,aCG]at nF bad;by_cases rY:j+1<k
     .obtain⟨amB,rfl⟩:∃x,N=x+1:=⟨N-1,by omega⟩
      have:ng (aJ.of ts) (amB+1) s ps (amB+1) [] (a+(j+1))=.error (a+(j+1)):=by
       rw[ng,aS.H2 (by omega) (by omega),u1 rY,a' rfl]
      rw[this];show jF ts (n+1) gs none a=_;rw[B9 aY,nF];dsimp only;rw[u1 rY,B8,a' rfl]
     .obtain rfl:k=j+1:=by omega
      have last:nf (aJ.of ts) (a+(j+1))=false:=by rw[aS.H2 qh (bS _),tD (y1 _)]
      have oF:ep [] (l.drop 2)=ps:=by rw[GH,lx,aS.aiW,vC]
      have aq:(⟨(l.getD 1 cU).text.toArray⟩:ByteArray)=s:=by
       have e:=aS.name (i:=1) (by omega) qh
       rw[a' aV]at e;rw[e]at dJ;cases dJ;rw[mI,aS.at b4];rfl
      have yy:jF ts (n+1) gs none a=jF ts n gs (some ⟨s,ps,[]⟩) (a+(j+1)):=by
       rw[B9 aY,nF];dsimp only
       rw[tD (y1 _),bm (by decide),aq,oF]
      have q:=avJ bx mh dv s ps N n gs [] (a+(j+1)) hI (by omega) (by omega) last
      revert q;cases ng (aJ.of ts) N s ps N [] (a+(j+1))with
      |error e=>intro q;exact yy.trans q
      |ok p=>
        obtain⟨f,c⟩:=p;rintro⟨c3,bp,aP,bj,c4,iu,iw⟩
        exact⟨c3,by omega,yy.trans aP,bj,c4,by omega,iw⟩
    .rw[kt cN]
     rw[bm (by rw[cq];decide)]at bad
     exact bad j rfl
 .rw[kt b4]
  rw[sh,bm (by rw[aV];decide)]at bad
  exact bad 1 rfl
def aF4{ts}(bx:te ts)(mh:∀t∈ts,q5 t){N}(dv:ts.length<N):∀(n m:Nat) (gs:List hv) (a:Nat),a<ts.length->ts.length<=a+n->ts.length<=a+m->nf (aJ.of ts) a=false->
 jF ts n gs none a=(match wE (aJ.of ts) N m gs a with
  |.error e=>.error e
  |.ok (bG,_)=>.ok bG):=by
 intro n
 induction n using Nat.strongRecOn with
 |ind n aw=>
   intro m gs a aD aN hm af
   obtain⟨n,rfl⟩:∃k,n=k+1:=⟨n-1,by omega⟩
   obtain⟨m,rfl⟩:∃k,m=k+1:=⟨m-1,by omega⟩
   rw[wE];by_cases aY:(aJ.of ts).kind a=4
   .rw[a' aY,jF];have:(ts.getD a cU).kind=4:=aY;rw[a' this];rfl
   .rw[bm aY]
    by_cases al:((aJ.of ts).kind a != 1||(aJ.of ts).text a != [102,117,110,99])=true
    .rw[a' al]
     have a1:ts[a]?=some (ts.getD a cU):=by rw[mI,dy aD];rfl
     have aS:=KY bx mh a1 aY;have nF:=ai1 (gs:=gs) (t:=ts.getD a cU) (ts:=ts) (a:=a) rfl rfl;rw[B9 aY,nF]
     have tX:cT ((ts.drop a).take (h3 (ts.getD a cU).line (ts.drop (a+1))+1)) 0 1 [102,117,110,99]=false:=by
      rw[aS.sj];cases aF:((aJ.of ts).kind a==1)with
      |false=>rfl
      |true=>
        have aK:((aJ.of ts).kind a != 1)=false:=by rw[eq_of_beq aF];rfl
        rw[aK,o5,hU]at al
        have:((aJ.of ts).text a==[102,117,110,99])=false:=by rw[eZ];exact al
        rw[this];rfl
     have ck:bW ((ts.drop a).take (h3 (ts.getD a cU).line (ts.drop (a+1))+1)) (cO lD) 0=(0,false):=by
      show bW _ ([102,117,110,99]::[[78],[40],[123]]) 0=_;rw[Kf aS.xk ⟨102,117,[110,99],rfl,rfl⟩,tX];rfl
     rw[ck];rfl
    .rw[bm al];rw[jq,zU,hU,hU,GF,GF]at al;have q:=aFK bx mh dv (n:=n) (gs:=gs) aD aN aY al.1 al.2;revert q;cases G5:um (aJ.of ts) N a with
     |error e=>
       intro q;rw[kt G5];exact q
     |ok p=>
       obtain⟨f,c⟩:=p;rintro⟨c3,bp,aP,bj,c4,iu,iw⟩;rw[iz G5,aP]
       exact aw c3 bp m (gs++[f]) c bj c4 (by omega) iw
def aH8(l):DZ l:=by
 unfold DZ;intro h
 have e:bW l (cO lD) 0=if yx l 0 [102,117,110,99]=true then bW l [[78],[40],[123]] 1 else(0,false):=rfl
 rw[e]at h;split at h
 .rw[sh]at h;split at h
  .rename_i w;exact jh w
  .cases h
 .cases h
theorem asM(l)(h:l.length<=1500)(he:(gA l).2.2=0):te (gA l).1/\(gA l).1≠[]/\(gA l).1.length<2^20/\LK (gA l).1/\jF (gA l).1 (gA l).1.length [] none 0=Dh (gA l).1:=by
 obtain⟨J,U,_⟩:=OJ he;obtain⟨g1,g2,_⟩:=aag he;have g3:=(X8 l.length l 1 1 _ (bS _) U).len
 have bx:te (gA l).1:=fun i t aO aY=>by
  have hi:=(cC.1 aO).1;refine g2.qw i hi ?_;rw[mI,aO];exact aY
 have mh:=asH l.length l 1 1 _ (bS _) U
 refine⟨bx,List.length_pos_iff.1 g1,by omega,fun a t a1 aY=>(KY bx mh a1 aY).OB,?_⟩
 rw[aF4 bx mh (BP _) (gA l).1.length ((gA l).1.length+1) [] 0 g1 (by omega) (by omega) rfl]
 rfl
abbrev ag6:Nat:=3
def LR:=List.range' 1 44
theorem aCx:hV LR (gC 45 [] 1)=[]:=by kernel_rfl
def aoa:=[c0 2 dP]
def aeD:=[ai 9 0,q 10 (.dD .p (.t 9)),q 11 (.bin .gtr (.t 10) (b1 1500)),ai 12 11,da 13 0 12 true,bQ 14 (.dD .p (.t 13)) 12 true,bQ 15 (.bin .leq (.t 14) (b1 1048576)) 12 true,ev 16 (.t 12) (.t 15) dP]
def akg:=[c0 2 gk]
def VS:=[ai 5 22]
def aeT:=dt 2 4 21::VS
def aay:=dt 1 3 20::aeT
def akt:=q 4 (.alloc [dc,dc])::aay
def YT:=q 3 (.alloc [dV])::akt
def aoG:=[ai 17 19,gJ 20 17 0,gJ 21 17 1,gJ 22 17 2]
def agI:=aoG++YT
def aik:=c2 19 9 [.t 18]::agI
def axA:=[ai 18 0]
def acM:=axA++aik
def agF:=[ai 8 28]
def aa6:=dt 2 7 27::agF
def ady:=dt 1 6 26::aa6
def acJ:=q 7 (.alloc [dc,dc])::ady
def aiI:=q 6 (.alloc [dV])::acJ
def azV:=[ai 23 25,gJ 26 23 0,gJ 27 23 1,gJ 28 23 2]
def akB:=azV++aiI
def ad9:=c2 25 10 [.t 24]::akB
def aGV:=[ai 24 0]
def ac9:=aGV++ad9
def TI:=[ev 44 (.t 42) (.t 43) dP,ai 2 44]
def YU:=bQ 43 (.call (.c (.fn 12 [] [])) []) 42 true::TI
def aFo:=[ai 32 31,bQ 33 (.load true 2 (.t 4)) 32 true,bQ 34 (.load true 2 (.t 7)) 32 true,bQ 35 (.sx false [.int .i64,.int .i64] (.t 33) (.t 34)) 32 true,ev 36 (.t 32) (.t 35) dP,ai 37 36,da 38 5 37 true,da 39 8 37 true,bQ 40 (.bin .eql (.t 38) (.t 39)) 37 true,ev 41 (.t 37) (.t 40) dP,ai 42 41]
def akH:=aFo++YU
def alO:=c2 31 11 [.t 29,.t 30]::akH
def aFy:=[q 29 (.load true 1 (.t 3)),q 30 (.load true 1 (.t 6))]
def TB:=aFy++alO
def tY:eI:={ ntmps:=45,results:=[.tmp 2],body:=
 (.seq (.bc aoa LR [])
 (.seq (.seq (.bc aeD [9,10,11,12,13,14,15] [16])
 (.cond (.t 16)
 (.seq (.bc akg [0,16] [2])
 .ret)
 .skip))
 (.seq (.region acM [] [16,17,18,19,20,21,22])
 (.seq (.region ac9 [] [0,23,24,25,26,27,28])
 (.seq (.region TB [] [3,4,5,6,7,8,29,30,31,32,33,34,35,36,37,38,39,40,41,42,43,44])
 .ret))))) }
def Yz:=I (aR aoa LR [] 3 [] [] [.cI (.s (.bool false))]) (I aCx (I (bE LR 0) (I (aR aeD [9,10,11,12,13,14,15] [16] 17 [] [(16,.pick (jK .gtr 1500 (.op (.dD .p (.t 0)) [.t 0])) (jK .leq 1048576 (.op (.dD .p (.t 0)) [.t 0])) (.c (.s (.bool false))))] [.ay 0,ad [0,0],ad [0],ad [0],.sub 0 [1,0,0] [12],.sub 0 [1,0] [12],.sub 0 [1] [12],ad []]) (I (aR akg [0,16] [2] 3 [] [(2,hH)] [.cI (.s (.bool true))]) (I (bl acM [16] [18] A0 19 [] [(18,.t 0)] [.ay 0]) (I (aS aik [18] A0) (I (bl agI [17,19] [20,21,22] A0 23 [] [(20,gY 0 (.t 19)),(21,gY 1 (.t 19)),(22,gY 2 (.t 19))] [.ay 19,ad [],.sub 1 [] [],.sub 2 [] []]) (I (aS YT [] A0) (I (aS akt [] A0) (I (aS aay [20] A0) (I (aS aeT [21] A0) (I (dB VS [16,17,18,19,20,21,22] [5] 6 [] [(5,.t 22)] [.ay 22]) (I (bl ac9 [0] [24] AF 25 [] [(24,.t 0)] [.ay 0]) (I (aS ad9 [24] AF) (I (bl akB [23,25] [26,27,28] AF 29 [] [(26,gY 0 (.t 25)),(27,gY 1 (.t 25)),(28,gY 2 (.t 25))] [.ay 25,ad [],.sub 1 [] [],.sub 2 [] []]) (I (aS aiI [] AF) (I (aS acJ [] AF) (I (aS ady [26] AF) (I (aS aa6 [27] AF) (I (dB agF [0,23,24,25,26,27,28] [8] 9 [] [(8,.t 28)] [.ay 28]) (I (bl TB [3,6] [29,30] IB 31 [] [(29,kA 1 (.t 3)),(30,kA 1 (.t 6))] [ad [],.sub 1 [] []]) (I (aS alO [29,30] IB) (I (bl akH [4,5,7,8,31,32,33,34,35,36,37,38,39,40,41] [42] IB 43 [] [(42,.pick (.pick (.t 31) (.op (.sx false [.int .i64,.int .i64] (.t 0) (.t 1)) [kA 2 (.t 4),kA 2 (.t 7)]) (.c (.s (.bool false)))) (eS .eql (.t 5) (.t 8)) (.c (.s (.bool false))))] [.ay 31,.sub 0 [0,1,0] [32],.sub 0 [0,1,1] [32],.sub 0 [0,1] [32],ad [0],ad [0],.sub 0 [1,0] [37],.sub 0 [1,1] [37],.sub 0 [1] [37],ad [],ad []]) (I (aS YU [] IB) ((dB TI [3,4,5,6,7,8,29,30,31,32,33,34,35,36,37,38,39,40,41,42,43,44] [2] 45 [] [(2,.pick (.t 42) (.t 43) ht)] [ad [],ad []]))))))))))))))))))))))))))
theorem aF3:fN Tryd.prog fm 3=some (false,tY.ntmps,tY.results,tY.body.bare):=by kernel_rfl
section
variable {ah:Nat->Option c7}
set_option maxHeartbeats 2000000 in
theorem aIN(aS:GB ah)(bn:QD ah)(e5:Ey ah)(b8:ah O1=some (.code x8))(aR:ah ag6=some (.code tY))(base){A}(ay4:base<=A.length)(a):
 ∃H',aU ah (.fn ag6 [] []) [.s (.string a)] base A=some (.s (.bool true),H'):=by
 by_cases bb:1500<a.size/\a.size<=1048576
 .have g1:(((a.size:Nat):Int) > 1500):=by omega
  have g2:(((a.size:Nat):Int)<=1048576):=by omega
  refine⟨A,?_⟩
  refine ih (c:=tY) aR (by simp[tY]) ?_
  simp only[tY,simprocAttr,Yz,aM,g1,g2]
 .have de:a.size<=1500\/1048576<a.size:=by omega
  have jV:(bif decide (((a.size:Nat):Int) > 1500)then decide (((a.size:Nat):Int)<=1048576)else false)=false:=by
   rcases de with h|h
   .have:decide (((a.size:Nat):Int) > 1500)=false:=by rw[CR];omega
    rw[this];rfl
   .have:decide (((a.size:Nat):Int)<=1048576)=false:=by rw[CR];omega
    rw[this,Bool.cond_self]
  obtain⟨p,aj⟩:∃x,jY a.data.toList=x:=⟨_,rfl⟩;obtain⟨M6,qD,axG,R3,awJ,aI8,aG9,aso,jc,aJt,mF,tt,awS,avp⟩:=ayS aS base ay4 a aj
  obtain⟨GZ,kT,Rq,Yr,IV⟩:=bn base axG a (by omega) de
  rw[aj]at Rq IV;have bo:=IV.one;have eY:=Yr.le;obtain⟨HF,wI⟩:∃X,kT++[bq.cells 0 [GZ]]++[bq.cells 0 [.s (.int .i64 p.2.1.1),.s (.int .i64 p.2.1.2)]]=X:=⟨_,rfl⟩;have ee:Ext kT HF:=wI▸(Ext.app _ _).trans (Ext.app _ _)
  have e8:HF.length=kT.length+2:=by rw[<- wI,kw,kw]
  have Kk:ao HF kT.length 0=some [GZ]:=wI▸XK _ _ _;have aox:ao HF (kT.length+1) 0=some [.s (.int .i64 p.2.1.1),.s (.int .i64 p.2.1.2)]:=wI▸U' _ _ _
  have kU:base<=kT.length:=by omega
  have avF:base<=kT.length+1:=by omega
  have PU:=Yr.trans ee;have hT:=df awS PU;have azH:=df avp PU
  obtain⟨aEC,sm,xs⟩:=ar9 e5 base (A:=HF) (by omega) (ga.ext (P:=qG) qG.ext tt PU) (ga.ext (P:=qG) qG.ext IV ee)
  have s1:=df azH xs;have s2:=df aox xs
  obtain⟨ayY,rd,aKs⟩:=aqF aS b8 base (A:=aEC) (by have:=xs.le;omega)
  refine⟨ayY,ih (c:=tY) aR (by simp[tY]) ?_⟩
  simp only[bg,aL]at sm rd Rq;simp only[tY,simprocAttr,Yz,aM,jV,R3,Rq,mF,bo,aG9,aso,kU,avF,awJ,wI,hT,Kk,s1,s2,sm,rd,asV,k7,k7]
  try rfl
end
end Go.Proofs.YtbocmenkkjbigaaDoor
