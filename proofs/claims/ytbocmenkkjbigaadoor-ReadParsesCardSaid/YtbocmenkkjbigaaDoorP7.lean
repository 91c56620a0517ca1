/- Texts of the proof: RdtR4, RdRJ, RdRS, RdS14, RdRT. -/
import Derived.Test.YtbocmenkkjbigaaDoorP0
import Derived.Test.YtbocmenkkjbigaaDoorP1
import Derived.Test.YtbocmenkkjbigaaDoorP2
import Derived.Test.YtbocmenkkjbigaaDoorP3
import Derived.Test.YtbocmenkkjbigaaDoorP4
import Derived.Test.YtbocmenkkjbigaaDoorP5
import Derived.Test.YtbocmenkkjbigaaDoorP6
set_option linter.all false
set_option maxRecDepth 100000
namespace Go.Proofs.YtbocmenkkjbigaaDoor
open Go.AM
def aet(m d:Nat)(b:ByteArray)(R:List (List V))(H:Heap)(out:Tok.Out)(X:Option AM.St):Prop:=
 (∃ts ln cl v H',out=.done (ts++[⟨4,[],0,ln,cl⟩])/\X=some (.ext 0,ja 197 (afj b d v b.size++[(18,bl false)]),H')/\RefSt m H' d v (R++ts.map tV)/\dn m [] H H'/\Tok.spotL (b.data.toList.take b.size) (1,1)=(ln,cl)/\R.length+ts.length<=b.size)\/
 (∃e a q H',out=.bad e a q/\X=some (.ret,ja 197 [(2,ow),(3,.ref d 0 0),(4,.s (.int .i64 e))],H')/\getC H' d 0=some [I a,I q]/\dn m [d] H H')
def aet.keep{m d b R H H2}{out:Tok.Out}{X:Option AM.St}(r:aet m d b R H2 out X)(k:dn m [] H H2):aet m d b R H out X:=by
 rcases r with⟨ts,ln,cl,v,H',h1,h2,h3,h4,h5⟩|⟨e,a,q,H',h1,h2,h3,h4⟩
 .exact .inl ⟨ts,ln,cl,v,H',h1,h2,h3,k.trans h4 (aj _),h5⟩
 .exact .inr ⟨e,a,q,H',h1,h2,h3,(dn.mono k (aj _) (fun id _ hx=>by simp at hx)).trans h4 (aj _)⟩
def aet.cons{m d b R H H2}{out:Tok.Out}{X:Option AM.St}{t}(r:aet m d b (R++[tV t]) H2 out X)(k:dn m [] H H2):aet m d b R H (.cons t out) X:=by
 rcases r.keep k with⟨ts,ln,cl,v,H',rfl,h2,h3,h4,h5,h7⟩|⟨e,a,q,H',rfl,h2,h3,h4⟩
 .refine .inl ⟨t::ts,ln,cl,v,H',rfl,h2,?_,h4,h5,?_⟩
  .rw[pq,<- bma,<- ku];exact h3
  .rw[gm,bi]at h7;rw[bn];omega
 .exact .inr ⟨e,a,q,H',rfl,h2,h3,h4⟩
section
variable {CT:Nat->Option CFun}
def a81(T:TR CT){base m b}(hb:b.size<=2^40){d}(hbm:base<=m)(hbd:base<=d):∀(N:Nat) (p ln cl:Nat) (v:V) (R:List (List V)) (H:Heap),b.size-p<=N->p<=b.size->RefSt m H d v R->R.length<=p->Tok.spotL (b.data.toList.take p) (1,1)=(ln,cl)->
 aet m d b R H (Tok.lex (b.data.toList.drop p) ln cl) (itW (evC (gq CT) itW base zb) [55] m (ja 197 (afj b d v p)) H):=by
 have hend:∀(p ln cl:Nat) (v:V) (R:List (List V)) (H:Heap),b.size-p=0->p<=b.size->RefSt m H d v R->R.length<=p->Tok.spotL (b.data.toList.take p) (1,1)=(ln,cl)->
  aet m d b R H (Tok.lex (b.data.toList.drop p) ln cl) (itW (evC (gq CT) itW base zb) [55] m (ja 197 (afj b d v p)) H):=by
  intro p ln cl v R H h0 h1 st hR hsp
  obtain rfl:p=b.size:=by omega
  rw[mf (show b.data.toList.length<=b.size from aj _),Tok.lex_nil]
  refine .inl ⟨[],ln,cl,v,_,rfl,?_,by simpa using st.tr (fr:=ja 197 (afj b d v b.size++[(18,bl false)])) (aa8 (s:=5) (by decide) rfl),dn.tr (A:=H) ⟨st.len,fun _ _ _=>rfl⟩ (ja 197 (afj b d v b.size++[(18,bl false)])),hsp,by simpa using hR⟩
  rw[kg];simp only[afj,simprocAttr,I,aby,aa,qm]
 intro N
 induction N with
 |zero=>exact fun p ln cl v R H h0 h1 st hR hsp=>hend p ln cl v R H (by omega) h1 st hR hsp
 |succ N ih=>
   intro p ln cl v R H h0 h1 st hR hsp;by_cases hz:p=b.size
   .exact hend p ln cl v R H (by omega) h1 st hR hsp
   have hlt:p<b.data.toList.length:=by show p<b.size;omega
   obtain⟨c,hx⟩:∃c,b.data.toList[p]?=some c:=⟨_,af hlt⟩
   have hdr:b.data.toList.drop p=c::b.data.toList.drop (p+1):=by
    rw[ed hlt,(bmk.1 hx).2]
   have hdd:∀k,(b.data.toList.drop (p+1)).drop k=b.data.toList.drop (p+(k+1)):=fun k=>by rw[qc];congr 1;omega
   have hfl:∀q,p+(Tok.far q (b.data.toList.drop (p+1))+1)<=b.size:=fun q=>by
    have:=Tok.far_le q (b.data.toList.drop (p+1));rw[ig,show b.data.toList.length=b.size from rfl]at this;have:p<b.size:=hlt;omega
   have hsz:p<b.size:=hlt
   have sp1:Tok.spotL (b.data.toList.take (p+1)) (1,1)=(if c=10 then(ln+1,1)else(ln,cl+1)):=by
    rw[ale,hx,Tok.spotL_app,hsp];simp only[Option.toList,Tok.spotL]
   have spf:∀q,q 10=false->c≠10->Tok.spotL (b.data.toList.take (p+(Tok.far q (b.data.toList.drop (p+1))+1))) (1,1)=(ln,cl+(Tok.far q (b.data.toList.drop (p+1))+1)):=by
    intro q hq hc;rw[List.take_add,Tok.spotL_app,hsp,hdr,az,Tok.spotL_flat _ _ (Tok.len_ne q hq _ hc),bn,Tok.far_len]
   rw[hdr,Tok.lex_cons];cases hbl:Tok.blank c with
   |true=>
     obtain⟨H2,e,s,k⟩:=a2s T hb hbd hbm st hR hx hsp hbl;rw[dw rfl,e];refine aet.keep ?_ k;split
     .rename_i h10
      exact ih _ _ _ v R H2 (by omega) (by omega) s (by omega) (by rw[sp1,dw h10])
     .rename_i h10
      exact ih _ _ _ v R H2 (by omega) (by omega) s (by omega) (by rw[sp1,fu h10])
   |false=>
     rw[fu (by simp)]
     by_cases h59:c=59
     .obtain⟨H2,e,s,k⟩:=awh T hb hbd hbm st hR hx hsp hbl h59;rw[dw h59,e,hdd]
      exact aet.keep (ih _ _ _ v R H2 (by omega) (hfl _) s (by omega) (spf _ (by decide) (by rw[h59];decide))) k
     .rw[fu h59];cases hlt1:Tok.letter c with
      |true=>
        obtain⟨v',H2,e,s,k⟩:=a8z T hb hbd hbm st hR hx hsp hbl h59 hlt1;rw[dw rfl,e,hdd]
        exact aet.cons (ih _ _ _ v' _ H2 (by omega) (hfl _) s (by simp;omega) (spf _ (by decide) (Tok.not_ten (.inl hlt1)))) k
      |false=>
        rw[fu (by simp)]
        cases hdg:Tok.digit c with
        |true=>
          rw[dw rfl];split
          .rename_i hco;obtain⟨H2,e,s,k⟩:=awg T hb hbd hbm st hR hx hsp hbl h59 hlt1 hdg hco;rw[e];exact .inr ⟨31,ln,cl,H2,rfl,rfl,s,k⟩
          .rename_i hco;obtain⟨v',H2,e,s,k⟩:=bef T hb hbd hbm st hR hx hsp hbl h59 hlt1 hdg hco;rw[e,hdd]
           exact aet.cons (ih _ _ _ v' _ H2 (by omega) (hfl _) s (by simp;omega) (spf _ (by decide) (Tok.not_ten (.inr (.inl hdg))))) k
        |false=>
          rw[fu (by simp)]
          cases hsg:Tok.sign c with
          |true=>
            obtain⟨v',H2,e,s,k⟩:=a8y T hb hbd hbm st hR hx hsp hbl h59 hlt1 hdg hsg;rw[dw rfl,e]
            exact aet.cons (ih _ _ _ v' _ H2 (by omega) (by omega) s (by simp;omega) (by rw[sp1,fu (Tok.not_ten (.inr (.inr hsg)))])) k
          |false=>
            obtain⟨H2,e,s,k⟩:=a88 T hb hbd hbm st hR hx hsp hbl h59 hlt1 hdg hsg
            rw[fu (by simp),e]
            exact .inr ⟨30,ln,cl,H2,rfl,rfl,s,k⟩
def beh(hT:CT a0k=some (.code aip))(T:TR CT)(base H)(hbase:base<=H.length)(b r)(hr:aep b.data.toList=r):
 ∃v H',gq CT (.fn a0k [] []) [.s (.string b)] base H=some (.tup [v,.agg [I r.2.1.1,I r.2.1.2],.s (.int .i64 r.2.2)],H')/\uj H.length 5 H' v (r.1.map tV)/\dn H.length [] H H':=by
 by_cases hsz:1048576<b.size
 .have hr2:r=([],(0,0),2):=by rw[<- hr];exact dw hsz
  have hg:decide ((b.size:Int) > 1048576)=true:=by rw[jg];omega
  have e:gq CT (.fn a0k [] []) [.s (.string b)] base H=some (.tup [ow,.agg [.s (.int .i64 0),.s (.int .i64 0)],.s (.int .i64 2)],H++[.cells 0 [.s (.int .i64 0),.s (.int .i64 0)]]):=by
   refine p8 (c:=aip) (k:=1) hT rfl (by decide) ahu ?_
   simp only[aip,simprocAttr,ow,aby,aa,hg,hbase,aa7,afa]
  subst hr2
  exact⟨_,_,e,uj.start _ _ _,by simp,fun id h _=>by rw[ah h]⟩
 .have hg:decide ((b.size:Int) > 1048576)=false:=by rw[zg];omega
  obtain⟨L,hL⟩:∃L,H.length=L:=⟨_,rfl⟩;obtain⟨H4,hH4⟩:∃H4,H++[Ob.cells 0 [V.s (Value.int IntKind.i64 0),V.s (Value.int IntKind.i64 0)]]=H4:=⟨_,rfl⟩
  have k4:∀x,x<L->H4[x]?=H[x]?:=fun x hx=>by rw[<- hH4];rw[ah (by omega)]
  have l4:H4.length=L+1:=by rw[<- hH4];simp[hL]
  have g0:getC H4 L 0=some [I 0,I 0]:=by rw[<- hH4];simp[getC,hL,I]
  have st:RefSt (L+1) H4 L ow []:=⟨⟨_,_,g0⟩,uj.start _ _ _,by omega,by omega⟩
  have hlp:=a81 T (base:=base) (m:=L+1) (b:=b) (by omega) (d:=L) (by omega) (by omega) b.size 0 1 1 ow [] H4 (by omega) (by omega) st (by simp) rfl
  have hr3:r=match Tok.lex b.data.toList 1 1 with
   |.done ts=>(ts,(0,0),0)
   |.bad e a q=>([],(a,q),e):=by rw[<- hr];exact fu hsz
  rw[dx]at hlp
  have hbL:base<=L:=by omega
  rcases hlp with⟨ts,ln,cl,v,H',h1,h2,h3,h4,h5,h7⟩|⟨e,a,q,H',h1,h2,h3,h4⟩
  .rw[h1]at hr3;simp only at hr3;subst hr3
   have hbH:base<=H'.length:=by have:=h4.1;omega
   have hspot:=adx T.spot base H' hbH (b:=b) (by omega) (q:=b.size) (aj _)
   simp only[h5]at hspot
   obtain⟨v',C,eC,sC,kC⟩:=h3.app (base:=base) (by omega) (Ob.cells 0 [V.s (.int .i64 ln),V.s (.int .i64 cl)]) (row:=tV ⟨4,[],0,ln,cl⟩) rfl rfl (by simp at h7 |-;omega)
   have eC':qp (H'++[Ob.cells 0 [V.s (.int .i64 ln),V.s (.int .i64 cl)]]++[Ob.cells 0 [V.s (.int .u8 4),V.s (.string ⟨#[]⟩),V.s (.int .i64 0),V.s (.int .i64 ln),V.s (.int .i64 cl)]]) base 5 48 v (.sl (H'.length+1) 0 0 1 5)=some (v',C):=eC;obtain⟨x,y,d2⟩:=sC.res;have d3:∀c,getC (C.set L (.cells 0 c)) L 0=some c:=fun c=>kz d2 c
   have e:gq CT (.fn a0k [] []) [.s (.string b)] base H=some (.tup [v',.agg [.s (.int .i64 0),.s (.int .i64 0)],.s (.int .i64 0)],C.set L (.cells 0 [.s (.int .i64 0),.s (.int .i64 0)])):=by
    refine p8 (c:=aip) (k:=1) hT rfl (by decide) ahu ?_
    simp only[afj,ow]at h2;rw[I,show((0:Nat):Int)=0 from rfl]at h2;simp only[aip,simprocAttr,aby,aa,hL,hg,hbL,aa7,afa,hH4,l4,h2,hspot,eC',d2,d3]
   refine⟨_,_,e,?_,?_⟩
   .rw[bdo,pq,ab2]
    obtain⟨hw,⟨e0,_⟩|⟨id,g,rfl,hcc,hid⟩⟩:=sC.out
    .simp at e0
    .rw[di]at hw hcc |-
     refine⟨hw,.inr ⟨id,g,by simp,?_,by omega⟩⟩
     unfold getC at hcc |-
     rw[ae (by omega)]
     exact hcc
   .refine⟨by rw[fe];have:=kC.1;omega,fun x hx _=>?_⟩
    rw[ae (by omega),kC.2 x (by omega) (by simp),h4.2 x (by omega) (by simp),k4 x (by omega)]
  .rw[h1]at hr3;simp only at hr3;subst hr3
   have e:gq CT (.fn a0k [] []) [.s (.string b)] base H=some (.tup [ow,.agg [.s (.int .i64 a),.s (.int .i64 q)],.s (.int .i64 e)],H'):=by
    refine p8 (c:=aip) (k:=1) hT rfl (by decide) ahu ?_
    simp only[afj,ow]at h2;rw[I,show((0:Nat):Int)=0 from rfl]at h2;simp only[aip,simprocAttr,ow,aby,aa,hL,hg,hbL,aa7,afa,hH4,l4,h2,h3]
   exact⟨_,_,e,uj.start _ _ _,by have:=h4.1;omega,fun id hid _=>by rw[h4.2 id (by omega) (by simp;omega),k4 id (by omega)]⟩
end
def Ms.tr{m0 H0 L z2 z3 z8 tid tg ts C fv}(h:Ms m0 H0 L z2 z3 z8 tid tg ts C fv)(fr):Ms m0 H0 L z2 z3 z8 tid tg ts (trim L fr C) fv:=by
 obtain⟨l1,l2,l3,l4⟩:=h.lt;have hl:=h.len;have hm:=h.m0l
 have g:∀i g c,i<L->getC C i g=some c->getC (trim L fr C) i g=some c:=fun i g c hi hc=>by
  unfold getC at hc |-;rw[acr _ _ _ hi];exact hc
 refine⟨g _ _ _ l1 h.b2,g _ _ _ l2 h.b3,g _ _ _ l3 h.b8,g _ _ _ l4 h.wz,h.lt,h.ne,?_,fun j hj=>by rw[acr _ _ _ (by omega),h.old j hj],h.m0l⟩
 rcases Go.AM.trim_or L fr C with e|⟨e,_⟩<;>rw[e]
 .exact hl
 .rw[l5];omega
def RpX(m0:Nat)(H0:Heap)(z2 z3:Nat)(w:Tok.T)(D:Heap):Prop:=getC D z2 0=some [.s (.slice none 0 0)]/\getC D z3 0=some [.s (.int .i64 w.line),.s (.int .i64 w.col)]/\∀j,j<m0->D[j]?=H0[j]?
def RpE.x{m0 H0 L z2 z3 z8 tid tg ts C D fv w}(h:RpE L z2 z3 w C D)(hM:Ms m0 H0 L z2 z3 z8 tid tg ts C fv):RpX m0 H0 z2 z3 w D/\L<=D.length:=by
 obtain⟨h1,h2,h3,h4⟩:=h;have:=hM.m0l;have:=hM.lt;have:=hM.len
 exact⟨⟨h1,h2,fun j hj=>by rw[h4 j (by omega) (by omega),hM.old j hj]⟩,by omega⟩
def RpX.tr{m0 H0 L z2 z3 w D}(h:RpX m0 H0 z2 z3 w D)(h2:z2<L)(h3:z3<L)(hm:m0<=z2)(fr):RpX m0 H0 z2 z3 w (trim L fr D):=by
 obtain⟨a,b,c⟩:=h
 have g:∀i g c,i<L->getC D i g=some c->getC (trim L fr D) i g=some c:=fun i g c hi hc=>by
  unfold getC at hc |-;rw[acr _ _ _ hi];exact hc
 exact⟨g _ _ _ h2 a,g _ _ _ h3 b,fun j hj=>by rw[acr _ _ _ (by omega),c j hj]⟩
section
variable {CT:Nat->Option CFun} {m0:Nat} {H0:Heap}
set_option maxHeartbeats 2000000 in
def rp_l3(hT:RpT CT)(base){L z2 z3 z8 tid tg ts}(hE:alk ts)(hn:ts.length<2^20)(hb:base<=z2/\base<=z3/\base<=z8)(hFO:ami ts)(hHO:∀l,ap6 l):∀(n:Nat) (gs:List FunD) (cur:Option FunD) (a:Nat) (C:Heap) (fv:V),a<ts.length->ts.length<=a+n->Ms m0 H0 L z2 z3 z8 tid tg ts C fv->Inv L C fv gs cur->gs.length<=a->curB cur a->
 match ajh ts n gs cur a with
  |.error e=>∃w,ts[e]?=some w/\((∃D,itW (evC (gq CT) itW base aar) [] L (ja 273 [(2,.ref z2 0 0),(3,.ref z3 0 0),(5,.sl tid tg 0 ts.length 5),(8,.ref z8 0 0),(9,.s (.bool cur.isSome)),(10,.s (.int .i64 a))]) C=some (.ret,ja 273 [(2,.ref z2 0 0),(3,.ref z3 0 0),(4,.s (.int .i64 (if w.kind=4 then 41 else 40:Nat)))],D)/\RpX m0 H0 z2 z3 w D)\/∃fv' D,itW (evC (gq CT) itW base aar) [] L (ja 273 [(2,.ref z2 0 0),(3,.ref z3 0 0),(5,.sl tid tg 0 ts.length 5),(8,.ref z8 0 0),(9,.s (.bool cur.isSome)),(10,.s (.int .i64 a))]) C=some (.ext 0,ja 273 [(2,.ref z2 0 0),(3,.ref z3 0 0),(5,.sl tid tg 0 ts.length 5),(8,.ref z8 0 0),(9,.s (.bool true)),(10,.s (.int .i64 e)),(44,.s (.bool false))],D)/\Ms m0 H0 L z2 z3 z8 tid tg ts D fv')
  |.ok gs'=>∃a' fv' D,itW (evC (gq CT) itW base aar) [] L (ja 273 [(2,.ref z2 0 0),(3,.ref z3 0 0),(5,.sl tid tg 0 ts.length 5),(8,.ref z8 0 0),(9,.s (.bool cur.isSome)),(10,.s (.int .i64 a))]) C=some (.ext 0,ja 273 [(2,.ref z2 0 0),(3,.ref z3 0 0),(5,.sl tid tg 0 ts.length 5),(8,.ref z8 0 0),(9,.s (.bool false)),(10,.s (.int .i64 (a':Nat))),(44,.s (.bool false))],D)/\GS L D fv' gs'/\Ms m0 H0 L z2 z3 z8 tid tg ts D fv':=by
 intro n
 induction n with
 |zero=>intro gs cur a C fv ha hf;omega
 |succ n ih=>
   intro gs cur a C fv ha hf hM hI hga hca;obtain⟨t,h0⟩:∃t,ts[a]?=some t:=⟨_,af ha⟩
   have hgd:ts.getD a tkE=t:=by rw[jm,h0];rfl
   obtain⟨i1,g1,p1,y1,_,y2,_⟩:=hM.wz.all.at h0;rw[ajh,hgd];by_cases h4:t.kind=4
   .rw[dw h4]
    have e4:(((t.kind:Nat):Int) != 4)=false:=by rw[h4];rfl
    have hx:itW (evC (gq CT) itW base aar) [] L (ja 273 [(2,.ref z2 0 0),(3,.ref z3 0 0),(5,.sl tid tg 0 ts.length 5),(8,.ref z8 0 0),(9,.s (.bool cur.isSome)),(10,.s (.int .i64 a))]) C=some (.ext 0,ja 273 [(2,.ref z2 0 0),(3,.ref z3 0 0),(5,.sl tid tg 0 ts.length 5),(8,.ref z8 0 0),(9,.s (.bool cur.isSome)),(10,.s (.int .i64 a)),(44,.s (.bool false))],trim L (ja 273 [(2,.ref z2 0 0),(3,.ref z3 0 0),(5,.sl tid tg 0 ts.length 5),(8,.ref z8 0 0),(9,.s (.bool cur.isSome)),(10,.s (.int .i64 a)),(44,.s (.bool false))]) C):=by
     rw[kg];have hc:aar=.seq (.seq (.regionE R10_7 [39,40,41,42,43] [44]) (.cond (.t 44) .skip (.exit 0))) (.block 1 rpB):=rfl;rw[hc];simp only[abo,simprocAttr,aa,y1,y2,e4]
    have hM':=hM.tr (ja 273 [(2,.ref z2 0 0),(3,.ref z3 0 0),(5,.sl tid tg 0 ts.length 5),(8,.ref z8 0 0),(9,.s (.bool cur.isSome)),(10,.s (.int .i64 a)),(44,.s (.bool false))]);cases cur with
    |none=>exact⟨a,fv,_,hx,Inv.tr (cur:=none) hI hM.lt.2.2.1 hM.b8 _,hM'⟩
    |some f=>exact⟨t,h0,.inr ⟨fv,_,hx,hM'⟩⟩
   .rw[fu h4];have st:=bd7 hT base hM hE hn hb hI h0 h4 hga hca hFO hHO;revert st;cases a08 ts gs cur a t with
    |error e=>
      rintro⟨w,hw,D,d1,d2⟩;obtain⟨q1,q2⟩:=d2.x hM
      refine⟨w,hw,.inl ⟨trim L (ja 273 [(2,.ref z2 0 0),(3,.ref z3 0 0),(4,.s (.int .i64 (if w.kind=4 then 41 else 40:Nat)))]) D,?_,q1.tr hM.lt.1 hM.lt.2.1 hM.m0l.1 _⟩⟩
      rw[kg,d1];rfl
    |ok p=>
      obtain⟨gs',cur',b⟩:=p;rintro⟨s1,s2,s3,s4,fv',D,d1,d2,d3⟩
      have hnext:itW (evC (gq CT) itW base aar) [] L (ja 273 [(2,.ref z2 0 0),(3,.ref z3 0 0),(5,.sl tid tg 0 ts.length 5),(8,.ref z8 0 0),(9,.s (.bool cur.isSome)),(10,.s (.int .i64 a))]) C=itW (evC (gq CT) itW base aar) [] L (ja 273 [(2,.ref z2 0 0),(3,.ref z3 0 0),(5,.sl tid tg 0 ts.length 5),(8,.ref z8 0 0),(9,.s (.bool cur'.isSome)),(10,.s (.int .i64 b))]) (trim L (ja 273 [(2,.ref z2 0 0),(3,.ref z3 0 0),(5,.sl tid tg 0 ts.length 5),(8,.ref z8 0 0),(9,.s (.bool cur'.isSome)),(10,.s (.int .i64 b))]) D):=by
       rw[kg,d1];rfl
      have q:=ih gs' cur' b (trim L (ja 273 [(2,.ref z2 0 0),(3,.ref z3 0 0),(5,.sl tid tg 0 ts.length 5),(8,.ref z8 0 0),(9,.s (.bool cur'.isSome)),(10,.s (.int .i64 b))]) D) fv' s2 (by omega) (d3.tr _) (d2.tr d3.lt.2.2.1 d3.b8 _) s3 s4
      rw[<- hnext]at q;exact q
def asa(CT:Nat->Option CFun):Prop:=∀(base:Nat) (H:Heap) (b:ByteArray),base<=H.length->(b.size<=1500\/1048576<b.size)->∃v H',gq CT (.fn bfr [] []) [.s (.string b)] base H=some (.tup [.agg [v],.agg [Iz (akm b.data.toList).2.1.1,Iz (akm b.data.toList).2.1.2],Iz (akm b.data.toList).2.2],H')/\Ext H H'/\ac0 H' v (akm b.data.toList).1
set_option maxHeartbeats 2000000 in
theorem az8(hT:RpT CT)(hL:CT a0k=some (.code aip))(hR:TR CT)(hP:CT bfr=some (.code af4))(hHO:∀l,ap6 l)(hEq:∀l:List UInt8,l.length<=1500->(aep l).2.2=0->alk (aep l).1/\(aep l).1≠[]/\(aep l).1.length<2^20/\ami (aep l).1/\ajh (aep l).1 (aep l).1.length [] none 0=bg8 (aep l).1):asa CT:=by
 intro base H b hb hsz;obtain⟨r,hr⟩:∃r,aep b.data.toList=r:=⟨_,rfl⟩;obtain⟨P1,hP1⟩:∃X,H++[Ob.cells 0 [.s (.slice none 0 0)]]=X:=⟨_,rfl⟩;obtain⟨P2,hP2⟩:∃X,P1++[Ob.cells 0 [.s (.int .i64 0),.s (.int .i64 0)]]=X:=⟨_,rfl⟩
 have l1:P1.length=H.length+1:=by rw[<- hP1,kw]
 have l2:P2.length=H.length+2:=by rw[<- hP2,kw,l1]
 have x1:Ext H P1:=hP1▸Ext.app _ _;have x2:Ext P1 P2:=hP2▸Ext.app _ _;have b2:getC P2 H.length 0=some [.s (.slice none 0 0)]:=jd (hP1▸jl H 0 _) x2
 have b3:getC P2 (H.length+1) 0=some [.s (.int .i64 0),.s (.int .i64 0)]:=by rw[<- l1,<- hP2];exact jl P1 0 _
 obtain⟨tv,Q,t1,t2,t3⟩:=beh hL hR base P2 (by omega) b r hr
 have lQ:=t3.1
 have xQ:Ext P2 Q:=Ext.of_get lQ fun i hi=>t3.2 i hi (by simp)
 obtain⟨Z6,hZ6⟩:∃X,Q++[Ob.cells 0 [.s (.int .i64 0),.s (.int .i64 0)]]=X:=⟨_,rfl⟩;obtain⟨Q6,hQ6⟩:∃X,Q++[Ob.cells 0 [.s (.int .i64 r.2.1.1),.s (.int .i64 r.2.1.2)]]=X:=⟨_,rfl⟩;have gZ6:getC Z6 Q.length 0=some [.s (.int .i64 0),.s (.int .i64 0)]:=hZ6▸jl Q 0 _
 have sZ6:Z6.set Q.length (.cells 0 [.s (.int .i64 r.2.1.1),.s (.int .i64 r.2.1.2)])=Q6:=by rw[<- hZ6,uw,hQ6]
 have l6:Q6.length=Q.length+1:=by rw[<- hQ6,kw]
 have x6:Ext Q Q6:=hQ6▸Ext.app _ _;have g6:getC Q6 Q.length 0=some [.s (.int .i64 r.2.1.1),.s (.int .i64 r.2.1.2)]:=hQ6▸jl Q 0 _;have b26:=jd b2 (xQ.trans x6);have b36:=jd b3 (xQ.trans x6)
 have hbQ:base<=Q.length:=by omega
 have hb0:base<=H.length:=hb
 have hb1:base<=H.length+1:=by omega
 have e0:evC (gq CT) itW base (.region R10_0 [] K10_0) (ja 273 [(0,.s (.string b))]) H=some (.nrm,ja 273 [(0,.s (.string b)),(2,.ref H.length 0 0),(3,.ref (H.length+1) 0 0)],P2):=by
  simp only[abo,simprocAttr,aa,hP1,l1,hP2]
  try rfl
 have htvo:=t2.rd.one
 have e1:evC (gq CT) itW base (.region R10_1 [] [0,28,29,30,31,32,33]) (ja 273 [(0,.s (.string b)),(2,.ref H.length 0 0),(3,.ref (H.length+1) 0 0)]) P2=some (.nrm,ja 273 [(2,.ref H.length 0 0),(3,.ref (H.length+1) 0 0),(5,tv),(6,.ref Q.length 0 0),(7,.s (.int .i64 r.2.2))],Q6):=by
  simp only[I]at t1;simp only[abo,simprocAttr,aa,t1,hZ6,gZ6,sZ6,hbQ,lq]
  try rfl
 have hsq:evC (gq CT) itW base af4.body (ja 273 [(0,.s (.string b))]) H=evC (gq CT) itW base (match af4.body with|.seq _ (.seq _ c)=>c|_=>.skip) (ja 273 [(2,.ref H.length 0 0),(3,.ref (H.length+1) 0 0),(5,tv),(6,.ref Q.length 0 0),(7,.s (.int .i64 r.2.2))]) Q6:=(om e0).trans (om e1)
 have hxE:Ext H Q6:=x1.trans (x2.trans (xQ.trans x6))
 have hin:∀{v:V} {H':Heap},a7i af4.results (evC (gq CT) itW base (match af4.body with|.seq _ (.seq _ c)=>c|_=>.skip) (ja 273 [(2,.ref H.length 0 0),(3,.ref (H.length+1) 0 0),(5,tv),(6,.ref Q.length 0 0),(7,.s (.int .i64 r.2.2))]) Q6)=some (v,H')->gq CT (.fn bfr [] []) [.s (.string b)] base H=some (v,H'):=fun {v H'} hh=>
  p8 (c:=af4) (k:=1) hP rfl (by decide) awc ((jv (a7i af4.results) hsq).trans hh)
 unfold akm;rw[hr]
 have ld2:∀{D:Heap} {z:Nat} {x:V},getC D z 0=some [x]->abf D true 1 (.ref z 0 0)=some (.agg [x]):=fun h=>by simp only[abf,h];rfl
 have ld3:∀{D:Heap} {z:Nat} {x y:V},getC D z 0=some [x,y]->abf D true 2 (.ref z 0 0)=some (.agg [x,y]):=fun h=>by simp only[abf,h];rfl
 by_cases he:r.2.2=0
 .rw[dw he]
  have hle:b.data.toList.length<=1500:=by
   rcases hsz with h|h
   .exact h
   .exfalso;have:aep b.data.toList=([],(0,0),2):=dw h;rw[this]at hr;rw[<- hr]at he;cases he
  obtain⟨q1,q2,q3,hFO,q4⟩:=hEq _ hle (by rw[hr];exact he)
  rw[hr]at q1 q2 q3 hFO q4
  obtain⟨tid,tg,etv,hct,hti⟩:∃tid tg,tv=.sl tid tg 0 r.1.length 5/\getC Q tid tg=some (r.1.map tV).flatten/\P2.length<=tid:=by
   obtain⟨_,⟨e,_⟩|⟨tid,tg,e,hc,k⟩⟩:=t2
   .rw[bmh]at e;exact absurd e q2
   .rw[aay]at e;exact⟨tid,tg,e,hc,k⟩
  subst etv;have htl:=su hct;obtain⟨Q7,hQ7⟩:∃X,Q6++[Ob.cells 0 [.s (.slice none 0 0)]]=X:=⟨_,rfl⟩
  have l7:Q7.length=Q6.length+1:=by rw[<- hQ7,kw]
  have x7:Ext Q6 Q7:=hQ7▸Ext.app _ _
  have hM:Ms H.length H Q7.length H.length (H.length+1) Q6.length tid tg r.1 Q7 ow:=⟨jd b26 x7,jd b36 x7,hQ7▸jl Q6 0 _,jd hct (x6.trans x7),⟨by omega,by omega,by omega,by omega⟩,⟨by omega,by omega,by omega,by omega,by omega,by omega⟩,aj _,fun j hj=>(hxE.trans x7).get hj,⟨by omega,by omega,by omega⟩⟩
  have hpos:0<r.1.length:=List.length_pos_iff.2 q2
  have hl3:=rp_l3 hT base q1 q3 ⟨hb0,hb1,by omega⟩ hFO hHO r.1.length [] none 0 Q7 ow hpos (by omega) hM (GS.start _ _) (jo _) (fun f hf=>by cases hf)
  rw[q4]at hl3;rw[ah5,show(none:Option FunD).isSome=false from rfl]at hl3
  have hne0:(((r.2.2:Nat):Int) != 0)=false:=by rw[he];rfl
  revert hl3;cases bg8 r.1 with
  |ok fs=>
    rintro⟨a',fv,D,d1,d2,d3⟩;obtain⟨D2,hD2⟩:∃X,D.set H.length (.cells 0 [fv])=X:=⟨_,rfl⟩;have c8:=d3.b8;have c2:=d3.b2
    have c3:getC D2 (H.length+1) 0=some [.s (.int .i64 0),.s (.int .i64 0)]:=by rw[<- hD2,xc _ (by omega)];exact d3.b3
    have c22:getC D2 H.length 0=some [fv]:=hD2▸kz c2 _;have s3:=ai0 c3;have hlD:=d3.len
    have lD2:D2.length=D.length:=by rw[<- hD2,fe]
    have hfo:fv.one=true:=by
     obtain⟨R,w1,_⟩:=d2.rows;exact w1.rd.one
    refine⟨fv,D2,hin ?_,Ext.of_get (by omega) fun i hi=>by rw[<- hD2,ae (by omega),d3.old i hi],d2.done fun i i1 i2=>by rw[<- hD2,ae (by omega)]⟩
    have L2:=ld2 c22;have L3:=ld3 c3;have z0:((0:Nat):Int)=0:=rfl;simp only[af4,simprocAttr,abo,aa,hne0,hQ7,d1,c8,c2,hD2,c3,s3,hfo,hb0,hb1,aa7,L2,L3,Iz,z0,lq]
    try rfl
  |error e=>
    rintro⟨w,hw,hD⟩
    have hgd:r.1.getD e tkE=w:=by rw[jm,hw];rfl
    dsimp only;rw[hgd]
    rcases hD with⟨D,d1,d2,d3,d4⟩|⟨fv,D,d1,d3⟩
    .have L2:=ld2 d2;have L3:=ld3 d3;have h1:=su d3
     refine⟨.s (.slice none 0 0),D,hin ?_,Ext.of_get (by omega) d4,ais _⟩
     simp only[af4,simprocAttr,abo,aa,hne0,hQ7,d1,aa7,L2,L3,Iz]
     try rfl
    .obtain⟨W,D2,w1,w2,w3,w4,w5,w6⟩:=a8j hT base d3 (by have:=d3.len;omega) w
     obtain⟨i1,g1,p1,y1,y2,_⟩:=d3.wz.all.at hw;obtain⟨⟨v1,v2,v3⟩,v4⟩:=w6.x d3;have L2:=ld2 v1;have L3:=ld3 v2
     refine⟨.s (.slice none 0 0),D2,hin ?_,Ext.of_get (by omega) v3,ais _⟩
     simp only[af4,simprocAttr,abo,aa,hne0,hQ7,d1,y1,y2,w1,w2,w3,w4,w5,hb0,hb1,aa7,L2,L3,Iz,lq]
     try rfl
 .rw[fu he]
  have hne0:(((r.2.2:Nat):Int) != 0)=true:=by rw[ny];omega
  obtain⟨D,hD⟩:∃X,Q6.set (H.length+1) (.cells 0 [.s (.int .i64 r.2.1.1),.s (.int .i64 r.2.1.2)])=X:=⟨_,rfl⟩;have s2:=ai0 b26;have c3:getC D (H.length+1) 0=some [.s (.int .i64 r.2.1.1),.s (.int .i64 r.2.1.2)]:=hD▸kz b36 _
  have c2:getC D H.length 0=some [.s (.slice none 0 0)]:=by rw[<- hD,xc _ (by omega)];exact b26
  have L2:=ld2 c2;have L3:=ld3 c3;have oR:∀(a b c:Nat),V.obj? (.ref a b c)=some (some a):=fun _ _ _=>rfl;have oA:∀i j:Nat,aux (some (some i)) (some (some j))=(i != j):=fun _ _=>rfl
  have nq:(Q.length != H.length)=true:=by rw[ny];omega
  have nq2:(H.length != Q.length)=true:=by rw[ny];omega
  refine⟨.s (.slice none 0 0),D,hin ?_,Ext.of_get (by rw[<- hD,fe];have:=hxE.le;omega) fun i hi=>by rw[<- hD,ae (by omega),hxE.get hi],ais _⟩
  simp only[af4,simprocAttr,X10_3,a09,abo,aa,hne0,g6,b26,s2,b36,hD,hb0,hb1,lq];simp only[zm,simprocAttr,aer,R10_3,jr,ji,aof,AOp.place,AOp.obj,aa,oR,oA,nq,aa7,L2,L3,Iz]
  try rfl
end
theorem bj1{ts}(hE:alk ts)(tk:∀t∈ts,ay5 t){N}(hN:ts.length<N){n gs a}(ha:a<ts.length)(hn:ts.length<=a+(n+1))(h4:(Vw.of ts).kind a≠4)(hk:(Vw.of ts).kind a=1)(ht:(Vw.of ts).text a=[102,117,110,99]):
 match a5j (Vw.of ts) N a with
 |.error e=>ajh ts (n+1) gs none a=.error e
 |.ok (f,c)=>∃n',n'<n+1/\ajh ts (n+1) gs none a=ajh ts n' (gs++[f]) none c/\c<ts.length/\ts.length<=c+n'/\a<c/\ap0 (Vw.of ts) c=false:=by
 have h0:ts[a]?=some (ts.getD a tkE):=by rw[jm,af ha];rfl
 have hP:=ama hE tk h0 h4;obtain⟨k,hkk⟩:∃k,age (ts.getD a tkE).line (ts.drop (a+1))+1=k:=⟨_,rfl⟩;obtain⟨l,hl⟩:∃l,(ts.drop a).take k=l:=⟨_,rfl⟩;rw[hkk,hl]at hP;have hle:=hP.le;have hpos:=hP.pos;have rS:=as6 (gs:=gs) (t:=ts.getD a tkE) hkk hl
 have fw:ou l 0 1 [102,117,110,99]=true:=by rw[hP.wd0,hk,ht];rfl
 have e0:sw l (itB hdI) 0=sw l [[78],[40],[123]] 1:=by
  show sw l ([102,117,110,99]::[[78],[40],[123]]) 0=_;rw[ayu hP.tkl ⟨102,117,[110,99],rfl,rfl⟩,dw fw]
 have bad:∀j,sw l (itB hdI) 0=(j,false)->ajh ts (n+1) gs none a=.error (a+j):=fun j e=>by
  rw[ahw h4,rS,e];rfl
 rw[e0]at rS bad;unfold a5j
 rcases hP.name_c (i:=1) (by omega) hpos with⟨s,w1,w2,w3,w4,w5⟩|⟨w1,w2⟩
 .rw[o9 w3];rw[akt,dw w1]at rS bad
  obtain⟨fr,q1,q2⟩:=arc hP (N:=N) (by omega) [[123]] (i:=2) (by omega) (by omega)
  rw[q1]at rS bad;revert q2;cases hlt:agd (Vw.of ts) N (a+2)with
  |error e=>
    rintro⟨j,rfl,rfl⟩;rw[show a+(1+1)=a+2 from rfl,ui hlt];exact bad j rfl
  |ok p=>
    obtain⟨ps,c⟩:=p;rintro⟨j,rfl,j2,rfl,j4,j5⟩;rw[show a+(1+1)=a+2 from rfl,o9 hlt];dsimp only at rS bad
    rw[dw rfl,auf hP.tkl _ _ (by decide) (by decide)]at rS bad
    have hj0:0<j:=by
     have h2:2<=(sw l [[40]] 2).1:=arv _
     obtain⟨fr2,r1,r2⟩:=arc hP (N:=N) (by omega) [] (i:=2) (by omega) (by omega)
     rw[hlt]at r2;obtain⟨j',rj1,_,rj3,_⟩:=r2;rw[r1,rj3]at h2;have h3:2<=j':=h2;omega
    rcases hP.sign_c (i:=j) hj0 j2 (s:=[123]) rfl with⟨c1,c2,c3,c4,c5,c6⟩|⟨c1,c2,c3⟩
    .rw[o9 c3];rw[dw c1,bgb]at rS bad;by_cases hjk:j+1<k
     .obtain⟨N',rfl⟩:∃x,N=x+1:=⟨N-1,by omega⟩
      have:apz (Vw.of ts) (N'+1) s ps (N'+1) [] (a+(j+1))=.error (a+(j+1)):=by
       rw[apz,hP.beg (by omega) (by omega),yg hjk,dw rfl]
      rw[this];show ajh ts (n+1) gs none a=_;rw[ahw h4,rS];dsimp only;rw[yg hjk,afm,dw rfl]
     .obtain rfl:k=j+1:=by omega
      have last:ap0 (Vw.of ts) (a+(j+1))=false:=by rw[hP.beg hpos (aj _),uz (acg _)]
      have hnm:o5 [] (l.drop 2)=ps:=by rw[j4,c5,hP.nmE,yo]
      have hs:(⟨(l.getD 1 tkE).text.toArray⟩:ByteArray)=s:=by
       have e:=hP.name (i:=1) (by omega) hpos
       rw[dw w1]at e;rw[e]at w3;cases w3;rw[jm,hP.at w2];rfl
      have er:ajh ts (n+1) gs none a=ajh ts n gs (some ⟨s,ps,[]⟩) (a+(j+1)):=by
       rw[ahw h4,rS];dsimp only
       rw[uz (acg _),fu (by decide),hs,hnm]
      have q:=bkc hE tk hN s ps N n gs [] (a+(j+1)) hle (by omega) (by omega) last
      revert q;cases apz (Vw.of ts) N s ps N [] (a+(j+1))with
      |error e=>intro q;exact er.trans q
      |ok p=>
        obtain⟨f,c⟩:=p;rintro⟨n',q1,q2,q3,q4,q5,q6⟩
        exact⟨n',by omega,er.trans q2,q3,q4,by omega,q6⟩
    .rw[ui c2]
     rw[fu (by rw[c1];decide)]at bad
     exact bad j rfl
 .rw[ui w2]
  rw[akt,fu (by rw[w1];decide)]at bad
  exact bad 1 rfl
def bi4{ts}(hE:alk ts)(tk:∀t∈ts,ay5 t){N}(hN:ts.length<N):∀(n m:Nat) (gs:List FunD) (a:Nat),a<ts.length->ts.length<=a+n->ts.length<=a+m->ap0 (Vw.of ts) a=false->
 ajh ts n gs none a=(match a7j (Vw.of ts) N m gs a with
  |.error e=>.error e
  |.ok (fs,_)=>.ok fs):=by
 intro n
 induction n using Nat.strongRecOn with
 |ind n ih=>
   intro m gs a ha hn hm hb
   obtain⟨n,rfl⟩:∃k,n=k+1:=⟨n-1,by omega⟩
   obtain⟨m,rfl⟩:∃k,m=k+1:=⟨m-1,by omega⟩
   rw[a7j];by_cases h4:(Vw.of ts).kind a=4
   .rw[dw h4,ajh];have:(ts.getD a tkE).kind=4:=h4;rw[dw this];rfl
   .rw[fu h4]
    by_cases hf:((Vw.of ts).kind a != 1||(Vw.of ts).text a != [102,117,110,99])=true
    .rw[dw hf]
     have h0:ts[a]?=some (ts.getD a tkE):=by rw[jm,af ha];rfl
     have hP:=ama hE tk h0 h4;have rS:=as6 (gs:=gs) (t:=ts.getD a tkE) (ts:=ts) (a:=a) rfl rfl;rw[ahw h4,rS]
     have fw:ou ((ts.drop a).take (age (ts.getD a tkE).line (ts.drop (a+1))+1)) 0 1 [102,117,110,99]=false:=by
      rw[hP.wd0];cases e1:((Vw.of ts).kind a==1)with
      |false=>rfl
      |true=>
        have e2:((Vw.of ts).kind a != 1)=false:=by rw[eq_of_beq e1];rfl
        rw[e2,qo,ny]at hf
        have:((Vw.of ts).text a==[102,117,110,99])=false:=by rw[cz];exact hf
        rw[this];rfl
     have e0:sw ((ts.drop a).take (age (ts.getD a tkE).line (ts.drop (a+1))+1)) (itB hdI) 0=(0,false):=by
      show sw _ ([102,117,110,99]::[[78],[40],[123]]) 0=_;rw[ayu hP.tkl ⟨102,117,[110,99],rfl,rfl⟩,fw];rfl
     rw[e0];rfl
    .rw[fu hf];rw[kr,bjj,ny,ny,aez,aez]at hf;have q:=bj1 hE tk hN (n:=n) (gs:=gs) ha hn h4 hf.1 hf.2;revert q;cases hfu:a5j (Vw.of ts) N a with
     |error e=>
       intro q;rw[ui hfu];exact q
     |ok p=>
       obtain⟨f,c⟩:=p;rintro⟨n',q1,q2,q3,q4,q5,q6⟩;rw[o9 hfu,q2]
       exact ih n' q1 m (gs++[f]) c q3 q4 (by omega) q6
def bf3(l):ap6 l:=by
 unfold ap6;intro h
 have e:sw l (itB hdI) 0=if bal l 0 [102,117,110,99]=true then sw l [[78],[40],[123]] 1 else(0,false):=rfl
 rw[e]at h;split at h
 .rw[akt]at h;split at h
  .rename_i w;exact ry w
  .cases h
 .cases h
theorem bd0(l)(h:l.length<=1500)(he:(aep l).2.2=0):alk (aep l).1/\(aep l).1≠[]/\(aep l).1.length<2^20/\ami (aep l).1/\ajh (aep l).1 (aep l).1.length [] none 0=bg8 (aep l).1:=by
 obtain⟨h1,h2,_⟩:=awz he;obtain⟨g1,g2,_⟩:=a4n he;have g3:=(bc9 l.length l 1 1 _ (aj _) h2).len
 have hE:alk (aep l).1:=fun i t ht h4=>by
  have hi:=(bmk.1 ht).1;refine g2.nx i hi ?_;rw[jm,ht];exact h4
 have tk:=bjn l.length l 1 1 _ (aj _) h2
 refine⟨hE,List.length_pos_iff.1 g1,by omega,fun a t h0 h4=>(ama hE tk h0 h4).forms,?_⟩
 rw[bi4 hE tk (abm _) (aep l).1.length ((aep l).1.length+1) [] 0 g1 (by omega) (by omega) rfl]
 rfl
abbrev k_f3:Nat:=3
def K3_0:=List.range' 1 44
theorem azu:aam K3_0 (uq 45 [] 1)=[]:=by kernel_rfl
def R3_0:=[bm2 2 bmo]
def R3_1:=[oM 9 0,q 10 (.lenS .p (.t 9)),q 11 (.bin .gtr (.t 10) (bml 1500)),oM 12 11,gM 13 0 12 true,qg 14 (.lenS .p (.t 13)) 12 true,qg 15 (.bin .leq (.t 14) (bml 1048576)) 12 true,bm6 16 (.t 12) (.t 15) bmo]
def R3_2:=[bm2 2 bmn]
def R3_3t7:=[oM 5 22]
def R3_3t6:=bmy 2 4 21::R3_3t7
def R3_3t5:=bmy 1 3 20::R3_3t6
def R3_3t4:=q 4 (.alloc [bmu,bmu])::R3_3t5
def R3_3t3:=q 3 (.alloc [bms])::R3_3t4
def R3_3p2:=[oM 17 19,bm5 20 17 0,bm5 21 17 1,bm5 22 17 2]
def R3_3t2:=R3_3p2++R3_3t3
def R3_3t1:=bmz 19 9 [.t 18]::R3_3t2
def R3_3p0:=[oM 18 0]
def R3_3:=R3_3p0++R3_3t1
def R3_4t7:=[oM 8 28]
def R3_4t6:=bmy 2 7 27::R3_4t7
def R3_4t5:=bmy 1 6 26::R3_4t6
def R3_4t4:=q 7 (.alloc [bmu,bmu])::R3_4t5
def R3_4t3:=q 6 (.alloc [bms])::R3_4t4
def R3_4p2:=[oM 23 25,bm5 26 23 0,bm5 27 23 1,bm5 28 23 2]
def R3_4t2:=R3_4p2++R3_4t3
def R3_4t1:=bmz 25 10 [.t 24]::R3_4t2
def R3_4p0:=[oM 24 0]
def R3_4:=R3_4p0++R3_4t1
def R3_5t4:=[bm6 44 (.t 42) (.t 43) bmo,oM 2 44]
def R3_5t3:=qg 43 (.call (.c (.fn 12 [] [])) []) 42 true::R3_5t4
def R3_5p2:=[oM 32 31,qg 33 (.load true 2 (.t 4)) 32 true,qg 34 (.load true 2 (.t 7)) 32 true,qg 35 (.eqAgg false [.int .i64,.int .i64] (.t 33) (.t 34)) 32 true,bm6 36 (.t 32) (.t 35) bmo,oM 37 36,gM 38 5 37 true,gM 39 8 37 true,qg 40 (.bin .eql (.t 38) (.t 39)) 37 true,bm6 41 (.t 37) (.t 40) bmo,oM 42 41]
def R3_5t2:=R3_5p2++R3_5t3
def R3_5t1:=bmz 31 11 [.t 29,.t 30]::R3_5t2
def R3_5p0:=[q 29 (.load true 1 (.t 3)),q 30 (.load true 1 (.t 6))]
def R3_5:=R3_5p0++R3_5t1
def a2e:ACFun:={ ntmps:=45,results:=[.tmp 2],body:=
 (.seq (.regionE R3_0 K3_0 [])
 (.seq (.seq (.regionE R3_1 [9,10,11,12,13,14,15] [16])
 (.cond (.t 16)
 (.seq (.regionE R3_2 [0,16] [2])
 .ret)
 .skip))
 (.seq (.region R3_3 [] [16,17,18,19,20,21,22])
 (.seq (.region R3_4 [] [0,23,24,25,26,27,28])
 (.seq (.region R3_5 [] [3,4,5,6,7,8,29,30,31,32,33,34,35,36,37,38,39,40,41,42,43,44])
 .ret))))) }
def a_f3:=ai (hT R3_0 K3_0 [] 3 [] [] [.cc (.s (.bool false))]) (ai azu (ai (hK K3_0 0) (ai (hT R3_1 [9,10,11,12,13,14,15] [16] 17 [] [(16,.pick (bnq .gtr 1500 (.op (.lenS .p (.t 0)) [.t 0])) (bnq .leq 1048576 (.op (.lenS .p (.t 0)) [.t 0])) (.c (.s (.bool false))))] [.tt 0,sb [0,0],sb [0],sb [0],.sub 0 [1,0,0] [12],.sub 0 [1,0] [12],.sub 0 [1] [12],sb []]) (ai (hT R3_2 [0,16] [2] 3 [] [(2,bna)] [.cc (.s (.bool true))]) (ai (hU R3_3 [16] [18] bpc 19 [] [(18,.t 0)] [.tt 0]) (ai (hP R3_3t1 [18] bpc) (ai (hU R3_3t2 [17,19] [20,21,22] bpc 23 [] [(20,bnh 0 (.t 19)),(21,bnh 1 (.t 19)),(22,bnh 2 (.t 19))] [.tt 19,sb [],.sub 1 [] [],.sub 2 [] []]) (ai (hP R3_3t3 [] bpc) (ai (hP R3_3t4 [] bpc) (ai (hP R3_3t5 [20] bpc) (ai (hP R3_3t6 [21] bpc) (ai (hV R3_3t7 [16,17,18,19,20,21,22] [5] 6 [] [(5,.t 22)] [.tt 22]) (ai (hU R3_4 [0] [24] bpd 25 [] [(24,.t 0)] [.tt 0]) (ai (hP R3_4t1 [24] bpd) (ai (hU R3_4t2 [23,25] [26,27,28] bpd 29 [] [(26,bnh 0 (.t 25)),(27,bnh 1 (.t 25)),(28,bnh 2 (.t 25))] [.tt 25,sb [],.sub 1 [] [],.sub 2 [] []]) (ai (hP R3_4t3 [] bpd) (ai (hP R3_4t4 [] bpd) (ai (hP R3_4t5 [26] bpd) (ai (hP R3_4t6 [27] bpd) (ai (hV R3_4t7 [0,23,24,25,26,27,28] [8] 9 [] [(8,.t 28)] [.tt 28]) (ai (hU R3_5 [3,6] [29,30] bpe 31 [] [(29,bnm 1 (.t 3)),(30,bnm 1 (.t 6))] [sb [],.sub 1 [] []]) (ai (hP R3_5t1 [29,30] bpe) (ai (hU R3_5t2 [4,5,7,8,31,32,33,34,35,36,37,38,39,40,41] [42] bpe 43 [] [(42,.pick (.pick (.t 31) (.op (.eqAgg false [.int .i64,.int .i64] (.t 0) (.t 1)) [bnm 2 (.t 4),bnm 2 (.t 7)]) (.c (.s (.bool false)))) (bno .eql (.t 5) (.t 8)) (.c (.s (.bool false))))] [.tt 31,.sub 0 [0,1,0] [32],.sub 0 [0,1,1] [32],.sub 0 [0,1] [32],sb [0],sb [0],.sub 0 [1,0] [37],.sub 0 [1,1] [37],.sub 0 [1] [37],sb [],sb []]) (ai (hP R3_5t3 [] bpe) ((hV R3_5t4 [3,4,5,6,7,8,29,30,31,32,33,34,35,36,37,38,39,40,41,42,43,44] [2] 45 [] [(2,.pick (.t 42) (.t 43) bnb)] [sb [],sb []]))))))))))))))))))))))))))
theorem RAE_3:yf Tryd.prog PX0 3=some (false,a2e.ntmps,a2e.results,a2e.body.bare):=by kernel_rfl
section
variable {CT:Nat->Option CFun}
set_option maxHeartbeats 2000000 in
theorem az6(hP:aoh CT)(hQ:asa CT)(hS:SamT CT)(hR:CT bfq=some (.code aqz))(hT:CT k_f3=some (.code a2e))(base){A}(hbA:base<=A.length)(a):
 ∃H',gq CT (.fn k_f3 [] []) [.s (.string a)] base A=some (.s (.bool true),H'):=by
 by_cases hg:1500<a.size/\a.size<=1048576
 .have g1:(((a.size:Nat):Int) > 1500):=by omega
  have g2:(((a.size:Nat):Int)<=1048576):=by omega
  refine⟨A,?_⟩
  refine qi (c:=a2e) hT (by simp[a2e]) ?_
  simp only[a2e,simprocAttr,a_f3,aa,g1,g2]
 .have hsz:a.size<=1500\/1048576<a.size:=by omega
  have hgg:(bif decide (((a.size:Nat):Int) > 1500)then decide (((a.size:Nat):Int)<=1048576)else false)=false:=by
   rcases hsz with h|h
   .have:decide (((a.size:Nat):Int) > 1500)=false:=by rw[zg];omega
    rw[this];rfl
   .have:decide (((a.size:Nat):Int)<=1048576)=false:=by rw[zg];omega
    rw[this,Bool.cond_self]
  obtain⟨p,hp⟩:∃x,akm a.data.toList=x:=⟨_,rfl⟩;obtain⟨va,A1,B1,ea,hB1,xa,ba,ba1,la,la0,oa,ra,ga,ga1⟩:=a9a hP base hbA a hp
  obtain⟨vb,A2,eb,xb,rb⟩:=hQ base B1 a (by omega) hsz
  rw[hp]at eb rb;have ob:=rb.one;have lb:=xb.le;obtain⟨B2,hB2⟩:∃X,A2++[Ob.cells 0 [vb]]++[Ob.cells 0 [.s (.int .i64 p.2.1.1),.s (.int .i64 p.2.1.2)]]=X:=⟨_,rfl⟩;have x2:Ext A2 B2:=hB2▸(Ext.app _ _).trans (Ext.app _ _)
  have l2:B2.length=A2.length+2:=by rw[<- hB2,kw,kw]
  have gb:getC B2 A2.length 0=some [vb]:=hB2▸bx1 _ _ _;have gb1:getC B2 (A2.length+1) 0=some [.s (.int .i64 p.2.1.1),.s (.int .i64 p.2.1.2)]:=hB2▸bx3 _ _ _
  have bb:base<=A2.length:=by omega
  have bb1:base<=A2.length+1:=by omega
  have x12:=xb.trans x2;have ka:=jd ga x12;have ka1:=jd ga1 x12
  obtain⟨S1,sm,xs⟩:=a2b hS base (A:=B2) (by omega) (RdL.ext (P:=ah8) ah8.ext ra x12) (RdL.ext (P:=ah8) ah8.ext rb x2)
  have s1:=jd ka1 xs;have s2:=jd gb1 xs
  obtain⟨S2,rd,xr⟩:=a2w hP hR base (A:=S1) (by have:=xs.le;omega)
  refine⟨S2,qi (c:=a2e) hT (by simp[a2e]) ?_⟩
  simp only[Iz,bl]at sm rd eb;simp only[a2e,simprocAttr,a_f3,aa,hgg,ea,eb,oa,ob,ba,ba1,bb,bb1,hB1,hB2,ka,gb,s1,s2,sm,rd,bd2,lq,lq]
  try rfl
end
end Go.Proofs.YtbocmenkkjbigaaDoor
