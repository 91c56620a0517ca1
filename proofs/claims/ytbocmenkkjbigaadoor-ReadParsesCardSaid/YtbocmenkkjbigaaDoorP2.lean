/- Texts of the proof: Am20, Am21, Am22, Am23, AmS, AmT, AmF, AmG, AmL, AmQ0, AmQ, AmW, AmB, BitsP, AmM, AmN, AmO, AmY, AmZ, AmI, AmU, AmU2, AmH, RdnA1, TokP, TokP2, TokP3, RdP1, AmP, AmPk, AmPn, AmPn2, AmPr, AmPr2, AmPr3. -/
import Derived.Test.YtbocmenkkjbigaaDoorP0
import Derived.Test.YtbocmenkkjbigaaDoorP1
import Derived.ProofKit
import Derived.ReadAgain
import Derived.Laws.BitsLemmas
import Derived.Shelf.Sort.Plain
import Derived.Shelf.SlIterI.Nil
import Derived.Shelf.SlMaps.Clone
import Derived.Shelf.Spec.TrailingZeros
import Derived.KernelRfl
import Derived.RecoverIn
import Derived.Laws.Build
import Derived.WalkSmall
set_option linter.all false
namespace Go.dO
open Go.RowKit
section
variable {μ ca:dn} {ab b6:Nat->Prop} {w w':World} {H H':az} {P:Program} {pure':gH} {call:c5}
def lq(P:Program)(pure':gH)(k:Nat):c7->Prop
 |.code c => ∃fn body, P.funcs[k]? = some fn /\ fn.body = some body /\ (fn.name == "runtime.NumGoroutine") = false /\ ha P pure' body c.body /\ fn.ntmps = c.ntmps /\ fn.results.toList.mapM (AK P) = some c.results
 |.oD g=>(∀xs w,(callFunc k xs).run P w=.ok (.enter k xs) w)/\∀vs base H r H',g vs base H=some (r,H')->kE base H H'/\
    ∀μ ab w cs,cB (eT P pure') μ ab w H->b0 μ ab w vs cs->∀n,CallsIn Fence.wide n P k cs.toArray w (nr (eT P pure') μ ab w H r H')
def aHZ:∀(ps:List Nat) (vs:List V) (cs:List Value) {fr aW:List V} {t:Array Value},Cw ps vs fr=some aW->b0 μ ab w vs cs->c9 μ ab w fr t->
 ps.length=cs.length/\c9 μ ab w aW ((ps.zip cs).foldl (fun t p=>t.setIfInBounds p.1 p.2) t):=by
 intro ps
 induction ps with
 |nil=>
   intro vs cs fr aW t h av al;cases vs with
   |nil=>
     cases h
     have:cs=[]:=by have:=av.1;cases cs<;>simp at this |-
     subst this;exact⟨rfl,al⟩
   |cons v vs=>cases h
 |cons p ps aw=>
   intro vs cs fr aW t h av al;cases vs with
   |nil=>cases h
   |cons v vs=>
     cases cs with
     |nil=>have:=av.1;simp at this
     |cons c cs=>
       have Gh:b0 μ ab w vs cs:=⟨by have:=av.1;simpa using this,fun i a b aD af=>av.2 (i+1) a b (by simpa using aD) (by simpa using af)⟩
       have qj:c9 μ ab w (fr.set p v) (t.setIfInBounds p c):=by
        have:=b0.set al p (av.2 0 v c rfl rfl)
        simpa[c9]using this
       obtain⟨J,U⟩:=aw vs cs h Gh qj
       exact⟨by simp[J],by simpa using U⟩
def EL(n):b0 μ ab w (List.replicate n bR) (List.replicate n Go.undef):=
 ⟨by simp,fun i a b aD af=>by
  have J:=hR aD;have U:=hR af;rw[JY]at J U;rw[J.2,U.2];exact .s _⟩
variable {bX:Nat->Option c7}
def ae8(aq:oz P (eT P pure') call)(e6:P.follows .mixedOrders=true)(fx)(iS:∀k c,bX k=some c->lq P pure' k c){f fst cap args base r}(ag:kN bX call (fun b k m=>fR b k m fx) (.fn f fst cap) args base H=some (r,H')):
 (∀xs w,(callFunc f xs).run P w=.ok (.enter f xs) w)/\kE base H H'/\
 ∀(μ:dn) (ab:Nat->Prop) (w:World) (cs:List Value),cB (eT P pure') μ ab w H->b0 μ ab w (fst++args++cap) cs->∀n,CallsIn Fence.wide n P f cs.toArray w (nr (eT P pure') μ ab w H r H'):=by
 simp only[kN]at ag;split at ag
 .rename_i c aa;obtain⟨fn,body,J,U,ax,aY,cl,eM⟩:=iS f _ aa;have fin:∀(e:rC) (aW:List V) (H1:az),(e=.bH\/e=.ret)->aC call (fun b k m=>fR b k m fx) base c.body (fst++args++cap++List.replicate (c.ntmps-(fst++args++cap).length) bR) H=some (e,aW,H1)->
   (kB c.results aW H1).map (fun v=>(v,H1))=some (r,H')->(∀xs w,(callFunc f xs).run P w=.ok (.enter f xs) w)/\kE base H H'/\
   ∀(μ:dn) (ab:Nat->Prop) (w:World) (cs:List Value),cB (eT P pure') μ ab w H->b0 μ ab w (fst++args++cap) cs->∀n,CallsIn Fence.wide n P f cs.toArray w (nr (eT P pure') μ ab w H r H'):=by
   intro e aW H1 he af jn;rw[fo]at jn;obtain⟨v,av,aF⟩:=jn;cases aF;refine⟨Go.Proofs.enters_of J ax U,s' aq.floor fx _ af,fun μ ab w cs h dE n=>?_⟩;refine callsIn_of_wp_marks J U trivial ?_
   have lU:c9 μ ab w (fst++args++cap++List.replicate (c.ntmps-(fst++args++cap).length) bR) (cs.toArray++Array.replicate (fn.ntmps-cs.toArray.size) Go.undef):=by
    unfold c9;have:=dE.append (EL (μ:=μ) (ab:=ab) (w:=w) (c.ntmps-(fst++args++cap).length));simp only[K0,Ly,s0,cl];rw[dE.1]at this |-;exact this
   refine C3 aq e6 fx base aY none n _ H e aW H' af μ ab w { tmps:=cs.toArray++Array.replicate (fn.ntmps-cs.toArray.size) Go.undef,defers:=[] } _ h lU (fun l ak=>by cases ak) ?_
   rintro bL w' ⟨cA,cH,cn,f1,L,dw,ki,Bu⟩
   have key:LeavesInM Fence.wide n P fn bL.tmps (nr (eT P pure') μ ab w H r H') bL.defers .returning w':=by
    rw[dw,vC];refine aAE (μ:=cA) (ab:=cH) (fr:=aW) (fun b4 dK f2=>?_) L w' cn f1 ki Bu;obtain⟨bZ,k1,k2⟩:=Il dK.ar f2 eM av;exact⟨bZ,k1,bZ,cA,cH,rfl,k2,dK⟩
   rcases he with rfl|rfl
   .exact key
   .exact key
  split at ag
  .rename_i aW H1 af;exact fin .bH aW H1 (.inl rfl) af ag
  .rename_i aW H1 af;exact fin .ret aW H1 (.inr rfl) af ag
  .cases ag
 .rename_i g aa;obtain⟨J,U⟩:=iS f _ aa;obtain⟨ax,aY⟩:=U _ _ _ _ _ ag;exact⟨J,ax,aY⟩
 .cases ag
theorem ak1(aq:oz P (eT P pure') call)(e6:P.follows .mixedOrders=true)(fx){id args base r}(ag:kN bX call (fun b k m=>fR b k m fx) (.fg id) args base H=some (r,H')):
 kE base H H'/\∀(μ:dn) (ab:Nat->Prop) (w:World) (cs:List Value) (B:Nat),cB (eT P pure') μ ab w H->b0 μ ab w args cs->μ id 0=some (B,0)->
  ∃f tmps assign body,(Instr.yield B cs.toArray).run P w=.ok (.round B f tmps assign body) w/\∀n,RoundIn Fence.wide n P B f tmps assign body w (nr (eT P pure') μ ab w H r H'):=by
 simp only[kN]at ag;split at ag
 case isFalse=>cases ag
 rename_i xj;split at ag
 case h_2=>cases ag
 rename_i tmps params assign body bu;split at ag
 case h_2=>cases ag
 rename_i AE jX;split at ag
 case h_2=>cases ag
 rename_i cg H1 anm;split at ag
 case h_2=>cases ag
 rename_i t1 agh XD dA oB;split at ag
 case h_2=>cases ag
 rename_i e nM c6 amx;split at ag
 case h_2=>cases ag
 rename_i t3 ajS aja e9 mj;cases ag
 have abD:∀(G:az) (o:bq),kE base G (G.set id o):=fun G o=>⟨by simp,fun i J _=>by rw[cf (by omega)]⟩
 refine⟨(s' aq.floor fx _ anm).trans ((abD _ _).trans ((s' aq.floor fx _ amx).trans (abD _ _))),?_⟩;intro μ ab w cs B h dE hm;obtain⟨o,aT,ar⟩:=h.ly _ _ 0 _ _ bu rfl hm
 cases o<;>first|exact ar.elim|skip
 rename_i rec;obtain⟨_,bp,aP,bj,c4,iu,iw⟩:=ar;obtain⟨dd,lU⟩:=aHZ params args cs jX dE (t:=rec.tmps) bj
 have de:cs.toArray.size=rec.params.size:=by
  rw[<- c4]at dd;simpa using dd.symm
 have at1:(rec.params.zip cs.toArray).foldl (fun tmps (t,a)=>tmps.setIfInBounds t a) rec.tmps=(params.zip cs).foldl (fun t p=>t.setIfInBounds p.1 p.2) rec.tmps:=by
  rw[<- Mc,Array.toList_zip,c4]
 refine⟨_,_,_,_,run_yield aT de,fun n=>?_⟩;refine roundIn_of_wpIn (F:=Fence.wide) trivial ?_;rw[at1]
 refine C3 aq e6 fx base iu (some B) n AE H .bH cg H1 anm μ ab w { tmps:=(params.zip cs).foldl (fun t p=>t.setIfInBounds p.1 p.2) rec.tmps,defers:=[] } _ h lU (fun l ak=>by cases ak;exact⟨rec,aT⟩) ?_
 rintro cy aV ⟨cA,cH,cn,f1,_⟩;have u7:=cn.ext _ _ _ hm;obtain⟨fK,nx,C'⟩:=cn.ar.ly _ _ 0 _ _ oB rfl u7
 cases fK<;>first|exact C'.elim|skip
 rename_i OR;obtain⟨_,s1,s2,lM,Pc,axu,apJ⟩:=C'
 have aGi:nG H1.length (.loop .busy none t1 agh XD dA):=by have:=cn.ar.Lw oB rfl u7;exact this
 have dK:dm (eT P pure') cA cH aV H1 (l7 cA id 0 (B,0)) cH (aV.putObj B (.loop { OR with state:=.busy })) (H1.set id (.loop .busy none t1 agh XD dA)):=by
  refine EA cn.ar 0 0 oB rfl u7 nx (fun _ _ _ e=>by cases e) (fun _ _=>⟨_,rfl⟩) (.inl ⟨rfl,rfl⟩) (fun j br=>br) (fun _ _ e=>by cases e) rfl rfl rfl rfl aGi ?_
  intro _ ca b6 gd bJ;have dq:∀K,K≠B->(aV.putObj B (.loop { OR with state:=.busy })).heap[K]?=aV.heap[K]?:=fun K bE=>World.putObj_heap_other bE;refine⟨rfl,rfl,trivial,?_,Pc,axu,apJ⟩;refine b0.mono gd (fun K bE hm=>(bJ K bE).1 hm) (fun K _ aN=>dq K (fun e=>aN (e▸(cn.ar.gu _ _ _ _ u7).1))) (fun K a0 ck AE bE=>?_) lM
  have:K≠B:=fun e=>by subst e;rw[nx]at bE;cases bE
  exact⟨a0,_,(dq K this).trans bE,rfl⟩
 refine⟨_,run_beginRound nx s1,?_⟩;have pp:=cn.trans dK;have wI:∃r,(aV.putObj B (.loop { OR with state:=.busy })).heap[B]?=some (.loop r):=⟨_,World.putObj_heap_same (hl nx)⟩
 refine C3 aq e6 fx base iw (some B) n cg _ e nM c6 ?_ _ _ _ cy _ dK.ar (f1.post cn.ar dK) (fun l ak=>by cases ak;exact wI) ?_
 .exact amx
 .rintro a3 dJ ⟨Dp,JC,iE,_,_⟩;have Cv:Dp id 0=some (B,0):=iE.ext _ _ _ (mS _ _ _ _);obtain⟨oM,RO,kV⟩:=iE.ar.ly _ _ 0 _ _ mj rfl Cv
  cases oM<;>first|exact kV.elim|skip
  rename_i aAn;obtain⟨_,gy,u2,u3,sN,fB,BT⟩:=kV
  have awf:∀st I0,nG c6.length (.loop st I0 t3 ajS aja e9):=fun _ _=>by have:=iE.ar.Lw mj rfl Cv;exact this
  have fin:∀(jump:Option Code),KV (if e=.bH then .ready else .done) (Jz e) jump->jump.isNone=decide (e=.bH)->(if jump.isNone then LoopState.ready else .done)=(if e=.bH then .ready else .done)->
   ∃v w',(Instr.endRound B jump).run P dJ=.ok v w'/\nr (eT P pure') μ ab w H (aL (decide (e=.bH))) (c6.set id (.loop (if e=.bH then .ready else .done) (Jz e) t3 ajS aja e9)) (.returned v) w':=by
   intro jump eQ br fE
   refine⟨_,_,run_endRound jump RO,_,_,_,rfl,by rw[br];exact .s _,(pp.trans iE).trans (EA (g':=0) (b':=0) iE.ar mj rfl Cv RO (fun _ _ _ e=>by cases e) (fun _ _=>⟨_,rfl⟩) (.inl ⟨rfl,rfl⟩) (fun j br=>br) (fun _ _ e=>by cases e) rfl rfl rfl rfl (awf _ _) ?_)⟩
   intro _ ca b6 gd bJ
   have dq:∀K,K≠B->(dJ.putObj B (.loop { aAn with state:=if jump.isNone then .ready else .done,pending:=jump })).heap[K]?=dJ.heap[K]?:=fun K bE=>World.putObj_heap_other bE
   refine⟨rfl,fE,eQ,?_,sN,fB,BT⟩;refine b0.mono gd (fun K bE hm=>(bJ K bE).1 hm) (fun K _ aN=>dq K (fun e=>aN (e▸(iE.ar.gu _ _ _ _ Cv).1))) (fun K a0 ck AE bE=>?_) u3
   have:K≠B:=fun e=>by subst e;rw[RO]at bE;cases bE
   exact⟨a0,_,(dq K this).trans bE,rfl⟩
  cases e with
  |bH=>exact fin none rfl rfl rfl
  |ext i=>exact fin (some (.exit i)) rfl rfl rfl
  |ret=>exact fin (some .ret) rfl rfl rfl
def aqt(aq:oz P (eT P pure') call)(e6:P.follows .mixedOrders=true)(fx)(iS:∀k c,bX k=some c->lq P pure' k c):oz P (eT P pure') (kN bX call (fun b k m=>fR b k m fx)) where
 fn f fst cap args base H r H' h:=by
  obtain⟨J,_,ax⟩:=ae8 aq e6 fx iS h;exact⟨J,ax⟩
 fg id args base H r H' h:=(ak1 aq e6 fx h).2
 other v args base H J U:=by
  cases v<;>first|rfl|exact absurd rfl (J _ _ _)|exact absurd rfl (U _)
 floor v args base H r H' h:=by
  by_cases J:∃f a b,v=.fn f a b
  .obtain⟨f,a,b,rfl⟩:=J;exact(ae8 aq e6 fx iS h).2.1
  .by_cases U:∃id,v=.fg id
   .obtain⟨id,rfl⟩:=U;exact(ak1 aq e6 fx h).1
   .exfalso
    cases v<;>first|exact J ⟨_,_,_,rfl⟩|exact U ⟨_,rfl⟩|(simp[kN]at h;done)
def BD(e6:P.follows .mixedOrders=true)(iS:∀k c,bX k=some c->lq P pure' k c):∀n,oz P (eT P pure') (hZ bX n)
 |0=>⟨fun _ _ _ _ _ _ _ _ h=>(by cases h),fun _ _ _ _ _ _ h=>(by cases h),fun _ _ _ _ _ _=>rfl,fun _ _ _ _ _ _ h=>(by cases h)⟩
 |n+1=>aqt (BD e6 iS n) e6 n iS
def aHi(e6:P.follows .mixedOrders=true)(iS:∀k c,bX k=some c->lq P pure' k c){n k args r}(h:hZ bX n (.fn k [] []) args 0 []=some (r,H')){w cs}(ma:b0 (fun _ _=>none) (fun _=>False) w args cs.toList)(Bl:∀(B:Nat) (o:Array Value × TypeId × Nat × Nat),pure'.sB B=some o->w.heap[B]?=some (.cells o.1 o.2.1 o.2.2)):
 Calls P k cs w fun e w'=>∃c ca b6,e=.returned c/\bM ca b6 w' r c/\(∀B,B<w.heap.size->w'.heap[B]?=w.heap[B]?)/\Cb (fun _ _=>none) w w':=by
 have a1:cB (eT P pure') (fun _ _=>none) (fun _=>False) w []:=⟨fun _ _ _ h=>by simp at h,fun _ _ _ _ h=>by simp at h,fun _ _ _ _ _ h=>by simp at h,fun _ _ _ _ _ _ _ h=>by simp at h,fun _ _ _ _ _ h=>by simp at h,fun _ _ _ _ h=>by simp at h,fun B o e=>⟨Bl B o e,fun h=>h⟩,fun _ _ _ h=>by simp at h⟩
 have:=((BD e6 iS n).fn k [] [] args 0 [] r H' h).2 _ _ w cs.toList a1 (by simpa using ma) 0
 simp only[yF]at this;refine callsIn_wide.1 (CallsIn.mono this ?_);rintro e w' ⟨c,ca,b6,rfl,av,aj⟩
 exact⟨c,ca,b6,rfl,av,fun B aI=>aj.cj.bT B aI (fun _ _ _ h=>by simp at h),aj.cj⟩
end
section
variable {P:Program} {pure':gH}
def ah4{α β:Type}{f:α->Option β}:∀{l:List α} {us:List β},l.mapM f=some us->us.length=l.length/\∀(i:Nat) (v:α) (u:β),l[i]?=some v->us[i]?=some u->f v=some u:=by
 intro l
 induction l with
 |nil=>intro us h;simp at h;subst h;exact⟨rfl,fun i v u h=>by simp at h⟩
 |cons x l aw=>
   intro us h;simp only[n1,fF,fW,eL]at h;obtain⟨v,av,aIf,ic,e⟩:=h;cases e;obtain⟨J,U⟩:=aw ic
   refine⟨by simp[J],fun i a u aD hu=>?_⟩
   cases i with
   |zero=>simp at aD hu;subst aD;subst hu;exact av
   |succ i=>exact U i a u (by simpa using aD) (by simpa using hu)
def aes{lt kH l}{i:Nat}{a}(h:(zh lt kH l)[i]?=some a):∃b,l[i]?=some b/\(a=b\/(∃f xs,b.op=.call f xs/\a={ b with op:=.oe f xs })\/∃k xs,b.op=.rA k xs/\a={ b with op:=.wK k xs }):=by
 unfold zh at h
 have hi:i<l.length:=by have:=(cC.1 h).1;simpa using this
 have bb:l[i]?=some l[i]:=dy hi;refine⟨l[i],bb,?_⟩;rw[oi,FA hi]at h;have aQ:l.getD i default=l[i]:=ra bb;simp only[mD,aQ,hW]at h;split at h
 .rename_i f xs cE;split at h
  .exact .inl h.symm
  .exact .inr (.inl ⟨f,xs,cE,h.symm⟩)
 .rename_i f xs cE;split at h
  .exact .inl h.symm
  .exact .inr (.inr ⟨f,xs,cE,h.symm⟩)
 .exact .inl h.symm
def awa{l}{i:Nat}{a}(h:(Ef l)[i]?=some a):∃b,l[i]?=some b/\(a=b\/∃sz n s x,b.op=.append sz n s x/\a={ b with op:=.xT sz n s x }):=by
 unfold Ef at h;rw[oi,fo]at h;obtain⟨b,af,e⟩:=h;refine⟨b,af,?_⟩;split at e
 .rename_i sz n s x cE;exact .inr ⟨sz,n,s,x,cE,e.symm⟩
 .exact .inl e.symm
def arA(l):(Ef l).length=l.length:=by simp[Ef]
def aiw{lt kH l}:(zh lt kH l).length=l.length:=by simp[zh]
def QX{lt ops draw l b9}(h:Mz P lt pure' ops draw=some (l,b9)):
 pb P pure' ops l/\(draw=true->pG (Region.before ops).toList b9 l=true/\oh ops=true):=by
 unfold Mz at h;simp only[fW,eL]at h;obtain⟨ij,sV,h⟩:=h;obtain⟨J,U⟩:=ah4 sV
 have one:∀(i:Nat) (o:Oper) (a:cF),ops[i]?=some o->ij[i]?=some a->a.dst=o.dst/\(p4 P pure' o=some a.op\/a.op=.stuck)/\Hc ops o.guard=some a.guard:=by
  intro i o a aT aD
  have:=U i o a (by simpa using aT) aD
  unfold aeh at this;simp only[fW,eL,fF,hW]at this;obtain⟨g,bb,e⟩:=this;subst e;refine⟨rfl,?_,bb⟩;cases cE:p4 P pure' o with
  |none=>exact .inr rfl
  |some op=>exact .inl rfl
 split at h
 .rename_i aQ
  have fin:∀c,pG (Region.before ops).toList c (zh lt (Region.before ops).toList ij)=true->oh ops=true->pb P pure' ops (zh lt (Region.before ops).toList ij)/\(draw=true->pG (Region.before ops).toList c (zh lt (Region.before ops).toList ij)=true/\oh ops=true):=by
   intro c eQ vb
   refine⟨⟨by rw[aiw,J];simp,fun i o a aT aD=>?_⟩,fun _=>⟨eQ,vb⟩⟩
   obtain⟨b,af,e⟩:=aes aD;obtain⟨k1,k2,dx⟩:=one i o b aT af
   rcases e with rfl|⟨f,xs,cE,rfl⟩|⟨f,xs,cE,rfl⟩
   .exact⟨k1,k2.imp id fun h=>.inr (.inr (.inr h)),dx⟩
   .exact⟨k1,.inr (.inl ⟨f,xs,by rw[<- cE];exact k2.resolve_right (by rw[cE];intro h;cases h),rfl⟩),dx⟩
   .exact⟨k1,.inr (.inr (.inl ⟨f,xs,by rw[<- cE];exact k2.resolve_right (by rw[cE];intro h;cases h),rfl⟩)),dx⟩
  split at h
  .rename_i eQ;simp only[dr]at eQ;simp only[fF,hW]at h;cases h
   exact fin _ (by simp[pG,eQ.1]) eQ.2
  .split at h
   .rename_i eQ;simp only[dr]at eQ;simp only[fF,hW]at h;cases h
    exact fin _ (by simp[pG,eQ.1]) eQ.2
   .split at h
    .rename_i eQ;simp only[dr]at eQ;simp only[fF,hW]at h;cases h
     refine⟨⟨by rw[arA,aiw,J];simp,fun i o a aT aD=>?_⟩,fun _=>⟨by simp[pG,eQ.1],eQ.2⟩⟩
     obtain⟨dj,nC,ck⟩:=awa aD;obtain⟨b,af,e⟩:=aes nC;obtain⟨k1,k2,dx⟩:=one i o b aT af
     rcases ck with rfl|⟨sz,n,s,x,cE,rfl⟩
     .rcases e with rfl|⟨f,xs,cE,rfl⟩|⟨f,xs,cE,rfl⟩
      .exact⟨k1,k2.imp id fun h=>.inr (.inr (.inr h)),dx⟩
      .exact⟨k1,.inr (.inl ⟨f,xs,by rw[<- cE];exact k2.resolve_right (by rw[cE];intro h;cases h),rfl⟩),dx⟩
      .exact⟨k1,.inr (.inr (.inl ⟨f,xs,by rw[<- cE];exact k2.resolve_right (by rw[cE];intro h;cases h),rfl⟩)),dx⟩
     .rcases e with rfl|⟨f,xs,uz,rfl⟩|⟨f,xs,uz,rfl⟩
      .exact⟨k1,.inr (.inr (.inr (.inl ⟨sz,n,s,x,by rw[<- cE];exact k2.resolve_right (by rw[cE];intro h;cases h),rfl⟩))),dx⟩
      .cases cE
      .cases cE
    .cases h
 .rename_i aQ;simp only[fF,hW]at h;cases h
  refine⟨⟨by rw[J];simp,fun i o a aT aD=>?_⟩,fun e=>absurd e aQ⟩
  obtain⟨k1,k2,dx⟩:=one i o a aT aD;exact⟨k1,k2.imp id fun h=>.inr (.inr (.inr h)),dx⟩
def D2{lt}:∀(c:Code) (ac:cM),lr P lt pure' c=some ac.bare->ha P pure' c ac:=by
 intro c
 induction c with
 |skip=>intro ac h;simp only[lr,hW]at h;cases ac<;>simp only[cM.bare]at h<;>first|exact .skip|cases h
 |exit id=>intro ac h;simp only[lr,hW]at h;cases ac<;>simp only[cM.bare]at h<;>first|(cases h;done)|(cases h;exact .exit _)
 |label l=>intro ac h;simp only[lr,hW]at h;cases ac<;>simp only[cM.bare]at h<;>first|exact .label _|cases h
 |ret=>intro ac h;simp only[lr,hW]at h;cases ac<;>simp only[cM.bare]at h<;>first|exact .ret|cases h
 |scope c=>intro ac h;simp[lr]at h
 |goto l=>intro ac h;simp[lr]at h
 |refuse w=>intro ac h;simp[lr]at h
 |region id ops draw=>
   intro ac h;simp only[lr]at h;split at h
   .rename_i q ar;obtain⟨l,b9⟩:=q;simp only[hW]at h;obtain⟨J,U⟩:=QX ar;have e:=h
    cases ac<;>simp only[cM.bare]at e<;>first|(cases e;done)|(cases e;exact .region _ _ _ _ _ _ J U)|(cases e;exact .bc _ _ _ _ _ _ J U)
   .split at h
    .rename_i aoj;rw[dr]at aoj;obtain⟨rfl,aj⟩:=aoj;rw[fo]at h;obtain⟨⟨l,b9⟩,ar,e⟩:=h;obtain⟨J,U⟩:=QX ar
     cases ac<;>simp only[cM.bare]at e<;>first|(cases e;done)|(cases e;exact .LY _ _ _ _ _ _ aj J (U rfl))|(cases e;exact .KR _ _ _ _ _ _ aj J (U rfl))
    .cases h
 |seq a b hK iK=>
   intro ac h;simp only[lr,fW,eL,fF,hW]at h;obtain⟨x,ae,y,bA,e⟩:=h
   cases ac<;>simp only[cM.bare]at e<;>first|(cases e;done)|(cases e;exact .seq _ _ _ _ (hK _ ae) (iK _ bA))
 |cond c a b hK iK=>
   intro ac h;simp only[lr,fW,eL,fF,hW]at h;obtain⟨o,aT,x,ae,y,bA,e⟩:=h
   cases ac<;>simp only[cM.bare]at e<;>first|(cases e;done)|(cases e;exact .cond _ _ _ _ _ _ aT (hK _ ae) (iK _ bA))
 |block id c aw=>
   intro ac h;simp only[lr,fW,eL,fF,hW]at h;obtain⟨x,ae,e⟩:=h
   cases ac<;>simp only[cM.bare]at e<;>first|(cases e;done)|(cases e;exact .block _ _ _ (aw _ ae))
 |loop c aw=>
   intro ac h;simp only[lr,fW,eL,fF,hW]at h;obtain⟨x,ae,e⟩:=h
   cases ac<;>simp only[cM.bare]at e<;>first|(cases e;done)|(cases e;exact .loop _ _ _ (aw _ ae))
 |rangeFunc f ps a b hK iK=>
   intro ac h;simp only[lr,fW,eL,fF,hW]at h;obtain⟨o,aT,x,ae,y,bA,e⟩:=h
   cases ac<;>simp only[cM.bare]at e<;>first|(cases e;done)|(cases e;exact .rangeFunc _ _ _ _ _ _ _ aT (hK _ ae) (iK _ bA))
def yL(lt:List Nat)(P:Program)(pure':gH)(k:Nat):Option (Bool × Nat × List lj × cM):=
 match P.funcs[k]? with
 |some fn=>match fn.body with
   |some body=>match lr P lt pure' body,fn.results.toList.mapM (AK P)with
     |some a, some rs => some (fn.name == "runtime.NumGoroutine", fn.ntmps, rs, a)
     |_,_=>none
   |none=>none
 |none=>none
abbrev fN(P:Program)(pure':gH)(k:Nat):Option (Bool × Nat × List lj × cM):=yL [] P pure' k
def awV{lt k}{c:eI}(h:yL lt P pure' k=some (false,c.ntmps,c.results,c.body.bare)):lq P pure' k (.code c):=by
 unfold yL at h;split at h
 .rename_i fn r2;split at h
  .rename_i body af;split at h
   .rename_i a rs aD zZ;simp only[hW,Fi]at h;obtain⟨J,U,ax,aY⟩:=h
    exact⟨fn,body,r2,af,J,D2 _ _ (by rw[aD,aY]),U,by rw[zZ,ax]⟩
   .cases h
  .cases h
 .cases h
end
def sK(c c':c5):Prop:=∀v args base H r,c v args base H=some r->c' v args base H=some r
def Jv{c c':c5}(h:sK c c'){base fr H op r}(he:bf c base fr H op=some r):bf c' base fr H op=some r:=by
 cases op
 case call f xs=>exact h _ _ _ _ _ he
 case oe f xs=>exact h _ _ _ _ _ he
 case rA f xs=>
  simp only[bf]at he |-;split at he
  .rename_i us ic;split at he
   .rename_i v H' aa;rw[h _ _ _ _ _ aa];exact he
   .cases he
  .cases he
 case wK f xs=>
  simp only[bf]at he |-;split at he
  .rename_i aj;rw[a' aj];split at he
   .rename_i v H' aa;rw[h _ _ _ _ _ aa];exact he
   .cases he
  .cases he
 all_goals exact he
def Fc{c c':c5}(h:sK c c'){base}:∀(l:List cF) {fr:List V} {H:az} {r:List V × az},cu c base l fr H=some r->cu c' base l fr H=some r:=by
 intro l
 induction l with
 |nil=>intro fr H r he;exact he
 |cons o l aw=>
   intro fr H r he;simp only[cu]at he |-;split at he
   .cases he
   .exact aw he
   .split at he
    .rename_i v H1 J;rw[Jv h J];exact aw he
    .cases he
def avT{c:c5}{base}:∀(l:List cF) {fr:List V} {H:az} {r:List V × az},cu c base l fr H=some r->∀k,∃Jw,cu c base (l.take k) fr H=some Jw:=by
 intro l fr H r h k;rw[<- vO k l,Ia]at h;cases he:cu c base (l.take k) fr H with
 |none=>rw[he]at h;cases h
 |some Jw=>exact⟨Jw,rfl⟩
def ahL{c c':c5}(h:sK c c'){base l fr aW H r}(he:cu c base l fr H=some r):j8 c' base l fr H aW=j8 c base l fr H aW:=by
 have an:∀k,cu c' base (l.take k) fr H=cu c base (l.take k) fr H:=fun k=>by
  obtain⟨Jw,ar⟩:=avT l he k;rw[ar];exact Fc h _ ar
 funext p
 simp only[j8,AB,an]
def Ga{b b':List V->az->Option cJ}(af:∀fr H r,b fr H=some r->b' fr H=some r){kill m}:∀{n c3:Nat},n<=c3->∀{fr:List V} {H:az} {r:cJ},fR b kill m n fr H=some r->fR b' kill m c3 fr H=some r:=by
 intro n
 induction n with
 |zero=>intro c3 _ fr H r h;simp[fR]at h
 |succ n aw=>
   intro c3 aN fr H r h
   obtain⟨k,rfl⟩:∃k,c3=k+1:=⟨c3-1,by omega⟩
   simp only[fR]at h |-;split at h
   .rename_i cg H1 J;rw[af _ _ _ J]
    exact aw (by omega) h
   .rename_i e cg H1 dq J;rw[af _ _ _ J];split
    .rename_i bw ;cases bw;exact(dq rfl).elim
    .rename_i bw;cases bw;exact h
    .rename_i bw;cases bw
   .cases h
abbrev pt(n:Nat):gS:=fun b k m=>fR b k m n
def y5{c c':c5}(h:sK c c'){n c3}(aN:n<=c3){base}:∀(ac:cM) {fr:List V} {H:az} {r:cJ},aC c (pt n) base ac fr H=some r->aC c' (pt c3) base ac fr H=some r:=by
 intro ac
 induction ac with
 |skip=>intro fr H r he;exact he
 |bc ops kill jL=>intro fr H r he;exact he
 |region ops b9 kill=>
   intro fr H r he;simp only[aC]at he |-;split at he
   .rename_i cg H1 J;rw[Fc h ops J];simp only[ahL h J];exact he
   .cases he
 |seq a b hK iK=>
   intro fr H r he;simp only[aC]at he |-;split at he
   .rename_i cg H1 J;rw[hK J];exact iK he
   .rename_i dq;have:=hK he;rw[this];split
    .rename_i e;cases e;exact(dq _ _ he).elim
    .rfl
 |cond o a b hK iK=>
   intro fr H r he;simp only[aC]at he |-;split at he
   .exact hK he
   .exact iK he
   .cases he
 |block id a aw=>
   intro fr H r he;simp only[aC]at he |-;split at he
   .rename_i eX cg H1 J;rw[aw J];exact he
   .rename_i dq;rw[aw he];split
    .rename_i e;cases e;exact(dq _ _ _ he).elim
    .rfl
 |loop kill a aw=>
   intro fr H r he;simp only[aC]at he |-;exact Ga (fun fr H r=>aw) aN he
 |rangeFunc f ps a b _ _=>
   intro fr H r he;simp only[aC]at he |-;split at he
   .split at he
    .rename_i v bK aa;rw[h _ _ _ _ _ aa];exact he
    .cases he
   .cases he
 |exit id=>intro fr H r he;exact he
 |ret=>intro fr H r he;exact he
def aHA{bX:Nat->Option c7}{c c':c5}(h:sK c c'){n c3}(aN:n<=c3):sK (kN bX c (pt n)) (kN bX c' (pt c3)):=by
 intro v args base H r he
 cases v<;>simp only[kN]at he |-<;>first|(cases he;done)|skip
 case fn f x y=>
  split at he
  .rename_i atk Fh;split at he
   .rename_i cg H1 J;rw[y5 h aN _ J];exact he
   .rename_i cg H1 J;rw[y5 h aN _ J];exact he
   .cases he
  .exact he
  .cases he
 case fg id=>
  split at he
  case isFalse=>cases he
  rename_i af;rw[a' af];split at he
  case h_2=>cases he
  split at he
  case h_2=>cases he
  split at he
  case h_2=>cases he
  rename_i J;rw[y5 h aN _ J];simp only[];split at he
  case h_2=>cases he
  split at he
  case h_2=>cases he
  rename_i U;rw[y5 h aN _ U];exact he
def N6{bX:Nat->Option c7}:∀n,sK (hZ bX n) (hZ bX (n+1))
 |0=>fun _ _ _ _ _ h=>by cases h
 |n+1=>aHA (N6 n) (Mn n)
theorem q4 {bX:Nat→Option c7} {n m:Nat} (h:n≤m):sK (hZ bX n) (hZ bX m):=by
 induction m with
 | zero=>have:n=0:=by omega
         subst this;exact fun _ _ _ _ _ h=>h
 | succ m aw=>
   by_cases aN:n=m+1
   ·subst aN;exact fun _ _ _ _ _ h=>h
   ·exact fun v a b H r ar=>N6 m v a b H r (aw (by omega) v a b H r ar)
open Classical in
noncomputable def aU(bX:Nat->Option c7):c5:=fun v args base H=>if h:∃r n,hZ bX n v args base H=some r then some h.choose else none
open Classical in
noncomputable def aG:gS:=fun b k m fr H=>if h:∃r n,fR b k m n fr H=some r then some h.choose else none
variable {bX:Nat->Option c7}
def anl{n v args base H r}(h:hZ bX n v args base H=some r):aU bX v args base H=some r:=by
 have ae:∃r n,hZ bX n v args base H=some r:=⟨r,n,h⟩;unfold aU;rw[dif_pos ae];obtain⟨m,hm⟩:=ae.choose_spec;have J:=q4 (sS n m) _ _ _ _ _ h;have U:=q4 (pu n m) _ _ _ _ _ hm;rw[J]at U;exact U.symm
def Cq{v args base H r}(h:aU bX v args base H=some r):∃n,hZ bX n v args base H=some r:=by
 unfold aU at h;split at h
 .rename_i ae;obtain⟨m,hm⟩:=ae.choose_spec;exact⟨m,hm.trans h⟩
 .cases h
def MN{b:List V->az->Option cJ}{k m n fr H r}(h:fR b k m n fr H=some r):aG b k m fr H=some r:=by
 have ae:∃r n,fR b k m n fr H=some r:=⟨r,n,h⟩;unfold aG;rw[dif_pos ae];obtain⟨j,br⟩:=ae.choose_spec;have J:=Ga (fun _ _ _ h=>h) (sS n j) h;have U:=Ga (fun _ _ _ h=>h) (pu n j) br;rw[J]at U;exact U.symm
def Ls{b:List V->az->Option cJ}{k m fr H r}(h:aG b k m fr H=some r):∃n,fR b k m n fr H=some r:=by
 unfold aG at h;split at h
 .rename_i ae;obtain⟨j,br⟩:=ae.choose_spec;exact⟨j,br.trans h⟩
 .cases h
def ahr{base fr H op r}(he:bf (aU bX) base fr H op=some r):∃n,bf (hZ bX n) base fr H op=some r:=by
 cases op
 case call f xs=>exact Cq he
 case oe f xs=>exact Cq he
 case rA f xs=>
  simp only[bf]at he;split at he
  .rename_i us ic;split at he
   .rename_i v H' aa;obtain⟨n,aN⟩:=Cq aa;refine⟨n,?_⟩;simp only[bf,ic,aN];exact he
   .cases he
  .cases he
 case wK f xs=>
  simp only[bf]at he;split at he
  .rename_i aj;split at he
   .rename_i v H' aa;obtain⟨n,aN⟩:=Cq aa;refine⟨n,?_⟩;simp only[bf,a' aj,aN];exact he
   .cases he
  .cases he
 all_goals exact⟨0,he⟩
def anq{base}:∀(l:List cF) {fr:List V} {H:az} {r:List V × az},cu (aU bX) base l fr H=some r->∃n,cu (hZ bX n) base l fr H=some r:=by
 intro l
 induction l with
 |nil=>intro fr H r he;exact⟨0,he⟩
 |cons o l aw=>
   intro fr H r he;simp only[cu]at he;split at he
   .cases he
   .rename_i hw;obtain⟨n,aN⟩:=aw he
    exact⟨n,by simp only[cu,hw,aN]⟩
   .rename_i hw;split at he
    .rename_i v H1 J;obtain⟨cw,lS⟩:=ahr J;obtain⟨bN,kW⟩:=aw he;refine⟨max cw bN,?_⟩;simp only[cu,hw,Jv (q4 (sS cw bN)) lS];exact Fc (q4 (pu cw bN)) l kW
    .cases he
def aqE{aia:List V->az->Option cJ}{b:Nat->List V->az->Option cJ}(agv:∀n m,n<=m->∀fr H r,b n fr H=some r->b m fr H=some r)(af:∀fr H r,aia fr H=some r->∃n,b n fr H=some r){kill m}:
 ∀(k:Nat) {fr:List V} {H:az} {r:cJ},fR aia kill m k fr H=some r->∃n,fR (b n) kill m k fr H=some r:=by
 intro k
 induction k with
 |zero=>intro fr H r h;simp[fR]at h
 |succ k aw=>
   intro fr H r h;simp only[fR]at h;split at h
   .rename_i cg H1 J;obtain⟨cw,lS⟩:=af _ _ _ J;obtain⟨bN,kW⟩:=aw h;refine⟨max cw bN,?_⟩;simp only[fR,agv _ _ (sS cw bN) _ _ _ lS];exact Ga (agv _ _ (pu cw bN)) (bS _) kW
   .rename_i e cg H1 dq J;obtain⟨cw,lS⟩:=af _ _ _ J;refine⟨cw,?_⟩;simp only[fR,lS];cases e with
    |bH=>exact(dq rfl).elim
    |ext id=>exact h
    |ret=>exact h
   .cases h
noncomputable def pQ(bX:Nat->Option c7)(base:Nat)(ac:cM)(n:Nat):List V->az->Option cJ:=aC (hZ bX n) (pt n) base ac
def mQ{base ac n m}(h:n<=m){fr H r}(he:pQ bX base ac n fr H=some r):pQ bX base ac m fr H=some r:=y5 (q4 h) h ac he
def sW{base}:∀(ac:cM) {fr:List V} {H:az} {r:cJ},aC (aU bX) aG base ac fr H=some r->∃n,pQ bX base ac n fr H=some r:=by
 intro ac
 induction ac with
 |skip=>intro fr H r he;exact⟨0,he⟩
 |bc ops kill jL=>intro fr H r he;exact⟨0,he⟩
 |region ops b9 kill=>
   intro fr H r he;simp only[aC]at he;split at he
   .rename_i cg H1 J;obtain⟨n,aN⟩:=anq ops J;have ak:sK (hZ bX n) (aU bX):=fun _ _ _ _ _ h=>anl h;refine⟨n,?_⟩;simp only[pQ,aC,aN];simp only[ahL ak aN]at he;exact he
   .cases he
 |seq a b hK iK=>
   intro fr H r he;simp only[aC]at he;split at he
   .rename_i cg H1 J;obtain⟨cw,lS⟩:=hK J;obtain⟨bN,kW⟩:=iK he;refine⟨max cw bN,?_⟩;have k1:=mQ (sS cw bN) lS;have k2:=mQ (pu cw bN) kW;simp only[pQ,aC]at k1 |-;rw[k1];exact k2
   .rename_i dq;obtain⟨n,aN⟩:=hK he;refine⟨n,?_⟩;simp only[pQ,aC]at aN |-;rw[aN];split
    .rename_i e;cases e;exact(dq _ _ he).elim
    .rfl
 |cond o a b hK iK=>
   intro fr H r he;simp only[aC]at he;split at he
   .rename_i aa;obtain⟨n,aN⟩:=hK he
    exact⟨n,by simp only[pQ,aC,aa];exact aN⟩
   .rename_i aa;obtain⟨n,aN⟩:=iK he
    exact⟨n,by simp only[pQ,aC,aa];exact aN⟩
   .cases he
 |block id a aw=>
   intro fr H r he;simp only[aC]at he;split at he
   .rename_i eX cg H1 J;obtain⟨n,aN⟩:=aw J
    exact⟨n,by simp only[pQ,aC]at aN |-;rw[aN];exact he⟩
   .rename_i dq;obtain⟨n,aN⟩:=aw he;refine⟨n,?_⟩;simp only[pQ,aC]at aN |-;rw[aN];split
    .rename_i e;cases e;exact(dq _ _ _ he).elim
    .rfl
 |loop kill a aw=>
   intro fr H r he;simp only[aC]at he;obtain⟨k,an⟩:=Ls he;obtain⟨n,aN⟩:=aqE (b:=pQ bX base a) (fun n m h fr H r=>mQ h) (fun fr H r=>aw) k an;refine⟨max n k,?_⟩;simp only[pQ,aC];exact Ga (fun fr H r h=>mQ (sS n k) h) (pu n k) aN
 |rangeFunc f ps a b _ _=>
   intro fr H r he;simp only[aC]at he;split at he
   .rename_i k x y al;split at he
    .rename_i v bK aa;obtain⟨n,aN⟩:=Cq aa;refine⟨n,?_⟩;simp only[pQ,aC,al,aN];exact he
    .cases he
   .cases he
 |exit id=>intro fr H r he;exact⟨0,he⟩
 |ret=>intro fr H r he;exact⟨0,he⟩
def ap0{v args base H r}(he:kN bX (aU bX) aG v args base H=some r):∃n,kN bX (hZ bX n) (pt n) v args base H=some r:=by
 cases v<;>simp only[kN]at he |-<;>first|(cases he;done)|skip
 case fn f x y=>
  split at he
  .rename_i atk Fh;split at he
   .rename_i cg H1 J;obtain⟨n,aN⟩:=sW _ J;refine⟨n,?_⟩;simp only[pQ]at aN;simp only[aN];exact he
   .rename_i cg H1 J;obtain⟨n,aN⟩:=sW _ J;refine⟨n,?_⟩;simp only[pQ]at aN;simp only[aN];exact he
   .cases he
  .rename_i g bb;exact⟨0,he⟩
  .cases he
 case fg id=>
  split at he
  case isFalse=>cases he
  rename_i af;split at he
  case h_2=>cases he
  rename_i bu;split at he
  case h_2=>cases he
  rename_i jX;split at he
  case h_2=>cases he
  rename_i J;split at he
  case h_2=>cases he
  rename_i oB;split at he
  case h_2=>cases he
  rename_i U;obtain⟨cw,lS⟩:=sW _ J;obtain⟨bN,kW⟩:=sW _ U;have k1:=mQ (sS cw bN) lS;have k2:=mQ (pu cw bN) kW;refine⟨max cw bN,?_⟩;simp only[pQ]at k1 k2;simp only[af,fl,k1,oB,k2];exact he
def wV{v args base H r}(he:kN bX (aU bX) aG v args base H=some r):aU bX v args base H=some r:=by
 obtain⟨n,aN⟩:=ap0 he;exact anl (n:=n+1) aN
def ayQ{b:List V->az->Option cJ}{k m fr aW H H' r}(J:b fr H=some (.bH,aW,H'))(U:aG b k m (ut k aW) (trim m (ut k aW) H')=some r):aG b k m fr H=some r:=by
 obtain⟨n,aN⟩:=Ls U;refine MN (n:=n+1) ?_;simp only[fR,J];exact aN
def agW{b:List V->az->Option cJ}{k m fr aW H H' e}(dq:e≠.bH)(J:b fr H=some (e,aW,H')):aG b k m fr H=some (e,ut k aW,trim m (ut k aW) H'):=by
 refine MN (n:=1) ?_;simp only[fR,J]
open Go.RowKit Go.ChangeShapes Go.WideShapes Go.ChangeAt
section
variable {P:Program} {pure':gH} {bX:Nat->Option c7} {H:Type} {enc:TypeId × Value->H}
def avm{w w'}{may:MemPlace->Prop}(an:∀B,B<w.heap.size->w'.heap[B]?=w.heap[B]?)(aO:Cb (fun _ _=>none) w w'):w.keptBut w' may:=by
 refine⟨aO.os,aO.output,fun i hi=>?_⟩;rw[an i hi];cases w.heap[i]? with
 |none=>rfl
 |some o=>cases o<;>simp
def aE4{f:Func}{s:ChangeSpec}{again W wA args v}{dh gs:List (DataW H)}{before:List MemPlace}(vu:DataW.Whole enc P f.params.toList s.vars false W args.toList dh gs before){pa pv:List MemPlace}(jn:∀(b:Nat) (sp:Nat->Bool) (aQ:Bool),DataW.TrodAll enc P wA b sp aQ f.resultTypes.toList (v.resultList f.resultTypes.size) (s.fn H (dh++gs)).results [])(ma:∀sp:Nat->Bool,(∀p∈before,sp p.block=true)->DataW.TrodAll enc P wA 0 sp true f.params.toList args.toList (s.fn H (dh++gs)).args pa)(Fz:∀sp:Nat->Bool,(∀p∈before,sp p.block=true)->DataW.TrodVars enc P wA sp s.vars (s.fn H (dh++gs)).vars pv)(rZ:before=pa++pv)(an:W.keptBut wA (·∈before))(Y7:∀b off,MemPlace.cell b off∈before->wA.frozen? ⟨b,off,none⟩=W.frozen? ⟨b,off,none⟩)(eQ:∀(j:Nat) (t:TypeId) (r:Value),f.resultTypes[j]?=some t->(v.resultList f.resultTypes.size)[j]?=some r->Value.okWide P wA .any 0 t r):
 s.post enc P f false true false again W args v wA:=by
 have ed:∀p∈before,(fun b=>decide (b<W.heap.size)) p.block=true:=fun p aj=>by simpa using vu.lt p aj
 refine⟨dh,gs,before,[],pa,pv,vu,jn _ _ _,ma _ ed,Fz _ ed,World.keptBut_mono (fun p aj=>⟨aj,?_⟩) an,fun _=>?_⟩
 .rw[rZ,l1]at aj;exact .inr aj
 .obtain⟨_,_,_,_,_,b5,_⟩:=vu
  refine⟨eQ,_,_,([]++pa)++pv,⟨[]++pa,pv,trodAll_append (ma _ fun _ _=>rfl) (jn _ _ _),Fz _ fun _ _=>rfl,rfl,fun b off aj=>?_,fun h=>by cases h⟩,fun p aj _=>by rw[rZ];simpa using aj⟩
  have af:MemPlace.cell b off∈before:=by rw[rZ];simpa using aj
  rw[Y7 b off af];exact b5 b off af
def alk{w w' base}{sp:Nat->Bool}{held}:∀{ts:List TypeId} {vs:List Value} {dh:List (DataW H)} {ps:List MemPlace},DataW.TrodAll enc P w base sp held ts vs dh ps->(∀p∈ps,w.sameAt w' p)->DataW.TrodAll enc P w' base sp held ts vs dh ps
 | [],[],[],_,h,_=>h
 |_::_,_::_,_::_,_,⟨p,q,⟨n,J⟩,U,e⟩,aq=>⟨p,q,⟨n,DataW.trod_carry n _ _ _ J (fun x ae=>aq x (by rw[e];exact lH _ ae))⟩,alk U (fun x ae=>aq x (by rw[e];exact pf _ ae)),e⟩
def Ws{w base}{sp:Nat->Bool}{held}:∀{ts:List TypeId} {vs:List Value} {dh:List (DataW H)} {ps:List MemPlace},DataW.TrodAll enc P w base sp held ts vs dh ps->dh.length=ts.length
 | [],[],[],_,_=>rfl
 |_::_,_::_,_::_,_,⟨_,_,_,U,_⟩=>by simp[Ws U]
def ayw{w w':World}{p:MemPlace}(h:w'.heap[p.block]?=w.heap[p.block]?):w.sameAt w' p:=by
 cases p with
 |cell b off=>
   show w'.cell? ⟨b,off,none⟩=w.cell? ⟨b,off,none⟩;have h:w'.heap[b]?=w.heap[b]?:=h;simp only[World.cell?,h]
 |map b=>exact h
def avj(e6:P.follows .mixedOrders=true)(iS:∀k c,bX k=some c->lq P pure' k c)(ak:laidOutB P=true)(hm:mapsRowed P=true)(b5:((List.range P.types.size).all fun t=>match P.underlying t with|some (.slice e)=>decide (0<P.cellsOf e)|_=>true)=true){k:Nat}{fn:Func}{s:ChangeSpec}{tb:TypeId}(Fz:s.vars=[])(jn:fn.resultTypes=#[tb])(Yv:P.underlying tb=some .bool)(aoY:∀t∈fn.params.toList,t<P.types.size)(aEx:∀dh:List (DataW H),dh.length=fn.params.toList.length->s.fn H dh={ results:=[.lit (.bool true)],args:=dh }){W:World}{args:Array Value}{dh gs:List (DataW H)}{before:List MemPlace}(vu:DataW.Whole enc P fn.params.toList s.vars false W args.toList dh gs before)(av:∃vs,b0 (fun _ _=>none) (fun _=>False) W vs args.toList/\∃n H',hZ bX n (.fn k [] []) vs 0 []=some (aL true,H'))(Bl:∀(B:Nat) (o:Array Value × TypeId × Nat × Nat),pure'.sB B=some o->W.heap[B]?=some (.cells o.1 o.2.1 o.2.2)):
 Calls P k args W fun e wA=>∃v,e=.returned v/\s.post enc P fn false true false false W args v wA:=by
 obtain⟨vs,dE,n,H',aa⟩:=av;refine(aHi e6 iS aa dE Bl).mono ?_;rintro e wA ⟨c,ca,b6,rfl,ar,an,jC⟩;have gv:c=.bool true:=eA ar;subst gv;have bt:=vu.lt;have avO:=vu;obtain⟨p,q,J,U,aF,ax,aY⟩:=vu;rw[Fz]at U
 obtain⟨rfl,rfl⟩:gs=[]/\q=[]:=by
  cases gs with
  |nil=>exact⟨rfl,U⟩
  |cons g gs=>exact U.elim
 have Qm:before=p:=by simpa using aF
 have n':=Ws J
 have r2:s.fn H (dh++[])={ results:=[.lit (.bool true)],args:=dh }:=by rw[vC];exact aEx dh n'
 refine⟨_,rfl,aE4 (pa:=before) (pv:=[]) avO (fun b sp aQ=>?_) (fun sp fO=>?_) (fun sp _=>?_) (by simp) (avm an jC) (fun b off aj=>?_) (ok_one jn rfl (okWide_bool_mk Yv true))⟩
 .rw[r2,jn]
  exact⟨[],[],⟨1,by simp[DataW.trod,Value.cells,Yv]⟩,rfl,rfl⟩
 .rw[r2]
  have cl:=DataW.TrodAll.respare (kids_rows ak hm) (fun t e aO he=>slices_full_of P b5 t e aO he) aoY J (spare':=sp) (fun x ae=>fO x (by rw[Qm];exact ae))
  rw[Qm]
  exact alk cl fun x ae=>ayw (an _ (bt x (by rw[Qm];exact ae)))
 .rw[r2,Fz];rfl
 .simp only[World.frozen?,an b (bt _ aj)]
end
theorem aGg(p x y):yt (some (.s (.bool p))) (some (.s (.bool x))) (some (.s (.bool y)))=some (.s (.bool (bif p then x else y))):=by cases p<;>rfl
theorem arz(x y):yt (some (.s (.bool true))) x y=x:=rfl
theorem awz(x y):yt (some (.s (.bool false))) x y=y:=rfl
def Pz{fr:List V}{s:Nat}{v:V}(h:s<fr.length):(fr.set s v).getD s .bs=v:=by simp[h]
def R4{fr:List V}{s t:Nat}{v:V}(h:s≠t):(fr.set s v).getD t .bs=fr.getD t .bs:=by simp[h]
theorem zI(fr):ut [] fr=fr:=rfl
theorem Aa{m fr H}(h:H.length=m):trim m fr H=H:=by
 unfold trim;split
 .rw[<- h];exact Fm
 .rfl
inductive nZ where
 |bT (g:List (Nat × Bool × E)) (e:E)
 |sub (src:Nat) (path vq:List Nat)
 |ay (i:Nat)
 |cI (v:V)
 deriving Inhabited
def nE:List Nat->List Nat->E->List (Nat × Bool × E) × E
 | [],_,e=>([],e)
 |i::p,kz,.op _ xs=>nE p kz (xs.getD i (.c .bs))
 |0::p,kz,.pick c _ _=>nE p kz c
 |1::p,s::kz,.pick c a _=>((s,true,c)::(nE p kz a).1,(nE p kz a).2)
 |2::p,s::kz,.pick c _ b=>((s,false,c)::(nE p kz b).1,(nE p kz b).2)
 |_,_,_=>([],.c .bs)
def p1:List nZ->List (List (Nat × Bool × E) × E)
 | []=>[]
 |.bT g e::r=>(g,e)::p1 r
 |_::r=>p1 r
def wU:List nZ->List E
 | []=>[]
 |.bT [] e::r=>e::wU r
 |_::r=>wU r
def nZ.get(S:List E):nZ->List (Nat × Bool × E) × E
 |.bT g e=>(g,e)
 |.sub s p kz=>nE p kz (S.getD s (.c .bs))
 |.ay i=>([],.t i)
 |.cI v=>([],.c v)
def Dn(items:List nZ)(os:List (Nat × E)):List (List (Nat × Bool × E) × E):=items.map (nZ.get (os.map (·.2)++wU items))
def aFp{fr H}:∀{xs:List E} {i:Nat},(nT fr H xs).isSome=true->(cc fr H (xs.getD i (.c .bs))).isSome=true:=by
 intro xs
 induction xs with
 |nil=>intro i _;simp[cc]
 |cons x xs aw=>
   intro i h;simp only[nT]at h;cases ae:cc fr H x with
   |none=>simp[ae]at h
   |some v=>
     cases aq:nT fr H xs with
     |none=>simp[ae,aq]at h
     |some vs=>
       cases i with
       |zero=>simp[ae]
       |succ i=>simpa using aw (i:=i) (by rw[aq];rfl)
theorem Sc{fr H}:∀(p kz:List Nat) (e:E),(cc fr H e).isSome=true->ka fr H (nE p kz e).1 (nE p kz e).2=true:=by
 intro p
 induction p with
 |nil=>intro kz e h;simp only[nE,ka];exact h
 |cons i p aw=>
   intro kz e h;cases e with
   |op o xs=>
     simp only[nE];refine aw _ _ (aFp ?_);simp only[cc]at h;cases aq:nT fr H xs with
     |none=>simp[aq]at h
     |some vs=>rfl
   |pick c a b=>
     simp only[cc]at h;cases aa:cc fr H c with
     |none=>simp[aa,yt]at h
     |some v=>
       rw[aa]at h
       match i,kz with
       |0,kz=>simp only[nE];exact aw _ _ (by rw[aa];rfl)
       |1,[]=>simp only[nE,ka,cc];rfl
       |2,[]=>simp only[nE,ka,cc];rfl
       |1,s::kz=>
         simp only[nE,ka,aa];unfold yt at h;split at h
         .rename_i e;cases e;simp only[xL,fl];exact aw _ _ h
         .rename_i e;cases e;simp[xL]
         .cases h
       |2,s::kz=>
         simp only[nE,ka,aa];unfold yt at h;split at h
         .rename_i e;cases e;simp[xL]
         .rename_i e;cases e;simp only[xL,fl];exact aw _ _ h
         .cases h
       |i+3,kz=>simp only[nE,ka,cc];rfl
   |t j=>simp only[nE,ka,cc];rfl
   |c v=>simp only[nE,ka,cc];rfl
def aDh{fr H}:∀{os:List (Nat × E)} {f g:List V},qi fr H os f=some g->∀p∈os,(cc fr H p.2).isSome=true:=by
 intro os
 induction os with
 |nil=>intro f g _ p aj;cases aj
 |cons q os aw=>
   intro f g h p aj;simp only[qi]at h;cases bD:cc fr H q.2 with
   |none=>simp[bD]at h
   |some v=>
     simp only[bD]at h
     rcases kf.1 aj with rfl|aj
     .rw[bD];rfl
     .exact aw h p aj
def at6:∀{items:List nZ} {g:List (Nat × Bool × E)} {e:E},nZ.bT g e∈items->(g,e)∈p1 items:=by
 intro items
 induction items with
 |nil=>intro g e h;cases h
 |cons x r aw=>
   intro g e h
   rcases kf.1 h with U|U
   .subst U;simp[p1]
   .have ax:=aw U;clear h
    cases x<;>simp only[p1]<;>first|exact hP _ ax|exact ax
def auo:∀{items:List nZ} {g:List (Nat × Bool × E)} {e:E},(g,e)∈p1 items->nZ.bT g e∈items:=by
 intro items
 induction items with
 |nil=>intro g e h;cases h
 |cons x r aw=>
   intro g e h;cases x with
   |bT g' bw=>
     simp only[p1]at h
     rcases kf.1 h with h|h
     .cases h;exact iH
     .exact hP _ (aw h)
   |_=>exact hP _ (aw h)
def arC:∀{items:List nZ} {e:E},e∈wU items->([],e)∈p1 items:=by
 intro items
 induction items with
 |nil=>intro e h;cases h
 |cons x r aw=>
   intro e h;cases x with
   |bT g bw=>
     cases g with
     |nil=>
       simp only[wU]at h;simp only[p1]
       rcases kf.1 h with rfl|h
       .exact iH
       .exact hP _ (aw h)
     |cons a g=>simp only[wU]at h;simp only[p1];exact hP _ (aw h)
   |_=>exact aw h
def aBl(m)(items:List nZ)(os kill fr H):
 iO (some (m,Dn items os,os)) kill fr H=iO (some (m,p1 items,os)) kill fr H:=by
 simp only[iO];by_cases hm:m<=fr.length
 .rw[a' hm,a' hm];by_cases an:(p1 items).all (fun r=>ka fr H r.1 r.2)=true
  .rw[a' an];cases aq:qi fr H os (ut kill fr)with
   |none=>split<;>rfl
   |some g=>
     rw[a'];rw[dU];intro r ar;unfold Dn at ar;rw[vE]at ar;obtain⟨x,ae,rfl⟩:=ar;cases x with
     |bT aJG e=>
       rw[dU]at an;exact an _ (at6 ae)
     |ay i=>rfl
     |cI v=>rfl
     |sub s p kz=>
       simp only[nZ.get];by_cases ak:s<(os.map (·.2)++wU items).length
       .have aQ:(os.map (·.2)++wU items).getD s (.c .bs)=(os.map (·.2)++wU items)[s]:=by simp only[List.getD,dy ak];rfl
        rw[aQ]
        rcases l1.1 (wa ak)with J|J
        .rw[vE]at J;obtain⟨q,bD,e⟩:=J;rw[<- e];exact Sc p kz _ (aDh aq q bD)
        .rw[dU]at an;have cl:=an _ (arC J)
         exact Sc p kz _ (by simpa[ka]using cl)
       .have aQ:(os.map (·.2)++wU items).getD s (.c .bs)=.c .bs:=by rw[List.getD,mm (Nat.le_of_not_lt ak)];rfl
        rw[aQ];exact Sc (fr:=fr) (H:=H) p kz _ rfl
  .rw[bm an,bm];intro h;apply an;rw[dU]at h |-;intro r ar;obtain⟨g,e⟩:=r;exact h _ (vE.2 ⟨_,auo ar,rfl⟩)
 .rw[bm hm,bm hm]
def azm{ops kill jL m}{items:List nZ}{os}(h:lZ ops kill jL=some (m,Dn items os,os))(fr H):
 iO (lZ ops kill jL) kill fr H=iO (some (m,p1 items,os)) kill fr H:=by rw[h,aBl]
abbrev Env:=List (Nat × V)
def ld:Env->Nat->V
 | [],_=>.bs
 |(k,x)::e,s=>if s=k then x else ld e s
def yb(s:Nat)(v:V):Env->Env
 | []=>[(s,v)]
 |(k,x)::e=>if s=k then(s,v)::e else if s<k then(s,v)::(k,x)::e else(k,x)::yb s v e
def hV(gp:List Nat):Env->Env
 | []=>[]
 |(k,x)::e=>if gp.contains k then hV gp e else(k,x)::hV gp e
def au(n:Nat)(dM:Env):List V:=(List.range n).map (ld dM)
def auN(s t v):∀dM:Env,ld (yb s v dM) t=if t=s then v else ld dM t:=by
 intro dM
 induction dM with
 |nil=>rfl
 |cons p e aw=>
   obtain⟨k,x⟩:=p;simp only[yb];split
   .rename_i h;subst h;simp only[ld];split<;>rfl
   .split
    .simp only[ld]
    .rename_i J U;simp only[ld,aw];by_cases ax:t=k
     .subst ax;rw[a' rfl,bm (fun e=>J e.symm),a' rfl]
     .rw[bm ax,bm ax]
def are(gp t):∀dM:Env,ld (hV gp dM) t=if gp.contains t then .bs else ld dM t:=by
 intro dM
 induction dM with
 |nil=>simp[hV,ld]
 |cons p e aw=>
   obtain⟨k,x⟩:=p;simp only[hV];by_cases J:gp.contains k=true
   .rw[a' J,aw];split
    .rfl
    .rename_i U;simp only[ld];rw[bm];rintro rfl;exact U J
   .rw[bm J];simp only[ld,aw];by_cases ax:t=k
    .subst ax;rw[a' rfl,bm J,a' rfl]
    .rw[bm ax,bm ax]
def sZ(n)(dM:Env):(au n dM).length=n:=by simp[au]
def BN{n}{dM:Env}{s}(h:s<n):(au n dM).getD s .bs=ld dM s:=by simp[au,h]
def Of{n}{dM:Env}{fr}(ak:fr.length=n)(h:∀s,s<n->fr.getD s .bs=ld dM s):fr=au n dM:=by
 refine MS (by rw[ak,sZ]) fun i J U=>?_
 have:=h i (by omega)
 simp only[au,List.getElem_map,List.getElem_range];rw[<- this];simp[J]
def MG(n:Nat)(dM:Env)(s:Nat)(v:V):(au n dM).set s v=au n (yb s v dM):=by
 refine Of (by rw[eF,sZ]) fun t aO=>?_
 rw[auN];split
 .rename_i h;subst h;exact Pz (by rw[sZ];exact aO)
 .rename_i h;rw[R4 (fun e=>h e.symm),BN aO]
def aat(n)(dM:Env)(gp):ut gp (au n dM)=au n (hV gp dM):=by
 refine Of (by rw[zL,sZ]) fun t aO=>?_
 rw[Dr,are];by_cases h:t∈gp
 .rw[a' h,a' (by simpa using h)]
 .rw[bm h,bm (by simpa using h),BN aO]
def gC(n:Nat):List V->Nat->Env
 | [],k=>(List.range' k (n-k)).map fun s=>(s,bR)
 |v::vs,k=>(k,v)::gC n vs (k+1)
def Qq(n):∀(vs:List V) (k t:Nat),k<=t->t<n->vs.length+k<=n->ld (gC n vs k) t=if t-k<vs.length then vs.getD (t-k) .bs else bR:=by
 intro vs
 induction vs with
 |nil=>
   intro k t J U _;simp only[gC,d9,K4,gx]
   have:∀(m j:Nat),j<=t->t<j+m->ld ((List.range' j m).map fun s=>(s,bR)) t=bR:=by
    intro m
    induction m with
    |zero=>intro j a b;omega
    |succ m aw=>
      intro j a b;simp only[List.range'_succ,lL,ld];split
      .rfl
      .exact aw (j+1) (by omega) (by omega)
   exact this _ k J (by omega)
 |cons v vs aw=>
   intro k t J U ax;simp only[gC,ld,gP]at ax |-;split
   .rename_i h;subst h;simp
   .rename_i h
    rw[aw (k+1) t (by omega) U (by omega)]
    obtain⟨d,aQ⟩:∃d,t-k=d+1:=⟨t-k-1,by omega⟩
    have:t-(k+1)=d:=by omega
    rw[aQ,this];simp only[Nat.add_lt_add_iff_right,mo]
theorem start_eq{n vs}(h:vs.length<=n):vs++List.replicate (n-vs.length) bR=au n (gC n vs 0):=by
 refine Of (by simp;omega) fun t aO=>?_
 rw[Qq n vs 0 t (fa _) aO (by omega)]
 split
 .rename_i J;simp at J;simp only[List.getD,d' J,QW]
 .rename_i J;simp at J;simp only[List.getD,gB J,Wo]
  rw[a' (by omega)]
  rfl
theorem aDU(s):ld [] s=.bs:=rfl
theorem asf(k x)(e:Env)(s):ld ((k,x)::e) s=if s=k then x else ld e s:=rfl
theorem aAu(s v):yb s v []=[(s,v)]:=rfl
theorem apb(s v k x)(e:Env):yb s v ((k,x)::e)=if s=k then(s,v)::e else if s<k then(s,v)::(k,x)::e else(k,x)::yb s v e:=rfl
theorem aGC(gp):hV gp []=[]:=rfl
theorem azt(gp k x)(e:Env):hV gp ((k,x)::e)=if gp.contains k then hV gp e else(k,x)::hV gp e:=rfl
def avB(b:List V->az->Option cJ)(k m fr H):aG b k m fr H=match b fr H with
 |some (.bH,aW,H')=>aG b k m (ut k aW) (trim m (ut k aW) H')
 |some (e,aW,H')=>some (e,ut k aW,trim m (ut k aW) H')
 |none=>none:=by
 cases af:b fr H with
 |none=>
   simp only[];cases hi:aG b k m fr H with
   |none=>rfl
   |some r=>
     obtain⟨n,aN⟩:=Ls hi;cases n with
     |zero=>simp[fR]at aN
     |succ n=>simp[fR,af]at aN
 |some r=>
   obtain⟨e,aW,H'⟩:=r;cases e with
   |bH=>
     simp only[];cases hi:aG b k m (ut k aW) (trim m (ut k aW) H')with
     |some r=>exact ayQ af hi
     |none=>
       cases br:aG b k m fr H with
       |none=>rfl
       |some r=>
         obtain⟨n,aN⟩:=Ls br;cases n with
         |zero=>simp[fR]at aN
         |succ n=>
           simp only[fR,af]at aN;rw[MN aN]at hi;cases hi
   |ext id=>exact agW (by simp) af
   |ret=>exact agW (by simp) af
noncomputable def qc(call:c5)(it:gS)(base:Nat)(b:cM):Option cJ->Option cJ
 |some (.bH,fr,H)=>aC call it base b fr H
 |r=>r
def qZ(id:Nat):Option cJ->Option cJ
 |some (.ext eX,fr,H)=>some (if eX=id then .bH else .ext eX,fr,H)
 |r=>r
noncomputable def anZ(call:c5)(it:gS)(base:Nat)(a b:cM)(fr:List V)(H:az):V->Option cJ
 |.s (.bool p)=>bif p then aC call it base a fr H else aC call it base b fr H
 |_=>none
def aiZ(H:az):Option (List V)->Option cJ
 |some fr=>some (.bH,fr,H)
 |none=>none
def sR(kill:List Nat)(b9:List V->Bool):Option (List V × az)->Option cJ
 |some (fr,H)=>bif b9 fr then some (.bH,ut kill fr,H)else none
 |none=>none
def sd(b9:List (Nat × Nat))(ops:List cF)(kill:List Nat):Option (List V × az)->Option cJ
 |some (fr,H)=>bif b9.all (y8 ops fr)then some (.bH,ut kill fr,H)else none
 |none=>none
section
variable {call:c5} {it:gS} {base:Nat}
theorem aGs(fr H):aC call it base .skip fr H=some (.bH,fr,H):=rfl
theorem aFz(id fr H):aC call it base (.exit id) fr H=some (.ext id,fr,H):=rfl
theorem aEZ(fr H):aC call it base .ret fr H=some (.ret,fr,H):=rfl
theorem aHq(a b fr H):aC call it base (.seq a b) fr H=qc call it base b (aC call it base a fr H):=rfl
theorem azn(id c fr H):aC call it base (.block id c) fr H=qZ id (aC call it base c fr H):=rfl
theorem aqr(c a b fr H):aC call it base (.cond c a b) fr H=anZ call it base a b fr H (aX fr c):=by
 simp only[aC];cases aX fr c with
 |s v=>cases v with
   |bool p=>cases p<;>rfl
   |_=>rfl
 |_=>rfl
theorem au8(kill c fr H):aC call it base (.loop kill c) fr H=it (aC call it base c) kill H.length (ut kill fr) H:=rfl
theorem azd(ops kill jL fr H):aC call it base (.bc ops kill jL) fr H=aiZ H (iO (lZ ops kill jL) kill fr H):=rfl
theorem aef(ops kill fr H):aC call it base (.region ops [] kill) fr H=sd [] ops kill (cu call base ops fr H):=by
 simp only[aC];cases cu call base ops fr H with
 |none=>rfl
 |some p=>rfl
def ahq{ops b9 kill fr H aW H'}(h:cu call base ops fr H=some (aW,H'))(aa:b9.all (j8 call base ops fr H aW)=true):aC call it base (.region ops b9 kill) fr H=some (.bH,ut kill aW,H'):=by
 simp only[aC,h,aa,fl]
def Un{ops b9 kill fr H aW H'}(h:cu call base ops fr H=some (aW,H'))(aa:b9.all (y8 ops aW)=true):aC call it base (.region ops b9 kill) fr H=some (.bH,ut kill aW,H'):=by
 refine ahq h ?_;rw[dU]at aa |-;intro p aj;simp only[j8,aa p aj,tU]
theorem aba(b fr H):qc call it base b (some (.bH,fr,H))=aC call it base b fr H:=rfl
theorem ax6(b i fr H):qc call it base b (some (.ext i,fr,H))=some (.ext i,fr,H):=rfl
theorem aHe(b fr H):qc call it base b (some (.ret,fr,H))=some (.ret,fr,H):=rfl
theorem axR(b):qc call it base b none=none:=rfl
theorem aDa(b p x y):qc call it base b (bif p then x else y)=bif p then qc call it base b x else qc call it base b y:=by cases p<;>rfl
theorem aGW(id fr H):qZ id (some (.bH,fr,H))=some (.bH,fr,H):=rfl
theorem aDQ(id fr H):qZ id (some (.ret,fr,H))=some (.ret,fr,H):=rfl
theorem aG1(id i fr H):qZ id (some (.ext i,fr,H))=some (if i=id then .bH else .ext i,fr,H):=rfl
theorem aGU(id):qZ id none=none:=rfl
theorem aqP(id p x y):qZ id (bif p then x else y)=bif p then qZ id x else qZ id y:=by cases p<;>rfl
theorem aEG(a b fr H p):anZ call it base a b fr H (.s (.bool p))=bif p then aC call it base a fr H else aC call it base b fr H:=rfl
theorem azy(H fr):aiZ H (some fr)=some (.bH,fr,H):=rfl
theorem acD(ops kill fr H):sd [] ops kill (some (fr,H))=some (.bH,ut kill fr,H):=rfl
end
def My(fr:List V)(H:az)(os:List (Nat × E))(kill:List Nat)(r:Bool):Option (List V):=bif r then qi fr H os (ut kill fr)else none
def ai6(fr:List V)(H:az)(os:List (Nat × E))(aW:List V)(s:Nat):Option V->Option (List V)
 |some v=>qi fr H os (aW.set s v)
 |none=>none
theorem asb{m R os kill fr H}(h:m<=fr.length):iO (some (m,R,os)) kill fr H=My fr H os kill (R.all fun r=>ka fr H r.1 r.2):=by
 simp only[iO,a' h,My];cases R.all fun r=>ka fr H r.1 r.2<;>rfl
theorem aC2(fr H os kill):My fr H os kill true=qi fr H os (ut kill fr):=rfl
theorem aHO(fr H aW):qi fr H [] aW=some aW:=rfl
theorem aq7(fr H s e os aW):qi fr H ((s,e)::os) aW=ai6 fr H os aW s (cc fr H e):=rfl
theorem azD(fr H os aW s v):ai6 fr H os aW s (some v)=qi fr H os (aW.set s v):=rfl
theorem aBA(fr H e):ka fr H [] e=(cc fr H e).isSome:=rfl
theorem aIk(fr H s b x G e):ka fr H ((s,b,x)::G) e=xL (cc fr H x) b (ka fr H G e):=rfl
theorem aw7(p b r):xL (some (.s (.bool p))) b r=bif p==b then r else true:=by cases p<;>cases b<;>cases r<;>rfl
def oW(f:V->Option V):Option V->Option V
 |some x=>f x
 |none=>none
def jW(f:V->V->Option V):Option V->Option V->Option V
 |some x,some y=>f x y
 |_,_=>none
theorem aEn(f:V->Option V)(x):oW f (some x)=f x:=rfl
theorem aDD(f:V->V->Option V)(x y):jW f (some x) (some y)=f x y:=rfl
theorem aHH(fr H i):cc fr H (.t i)=some (fr.getD i .bs):=rfl
theorem MJ(fr H v):cc fr H (.c v)=some v:=rfl
theorem aEf(fr H c a b):cc fr H (.pick c a b)=yt (cc fr H c) (cc fr H a) (cc fr H b):=rfl
def fH(op:BinOp):V->V->Option V
 |.s a,.s b=>(ir op a b).map .s
 |_,_=>none
def E'(neg:Bool):V->V->Option V
 |.s (.bool a),.s (.bool b)=>some (aL ((a==b) != neg))
 |_,_=>none
def W0(H:az)(neg:Bool):V->V->Option V
 |.ref i g _,.ref j h _=>if i=j then none else match ao H i g,ao H j h with
   |some _,some _=>some (aL neg)
   |_,_=>none
 |_,_=>none
def pL(k:r6)(neg:Bool)(x:V):Option V:=(x.isNil k).map fun b=>aL (b != neg)
def xQ(neg:Bool)(ls:List mr):V->V->Option V
 |.agg xs,.agg dW=>(jA ls xs dW).map fun b=>aL (b != neg)
 |_,_=>none
def DD(op:UnOp)(x:V):Option V:=match op,x with
 |.not,.s (.bool b)=>some (aL (!b))
 |.neg,.s (.int k n)=>some (.s (.int k (k.wrap (0-n))))
 |.xor,.s (.int k n)=>(ir .xor (.int k (if k.signed then -1 else k.max)) (.int k n)).map .s
 |_,_=>none
def Pt(k:IntKind):V->Option V
 |.s (.int _ n)=>some (.s (.int k (k.wrap n)))
 |_=>none
def RH:V->Option V
 |.s (.string b)=>some (.s (.string b))
 |_=>none
def DU:V->Option V
 |.ref id g off=>some (.ref id g off)
 |.eu cs=>some (.eu cs)
 |.fn f a b=>some (.fn f a b)
 |.fg id=>some (.fg id)
 |_=>none
def yX(off:Nat):V->Option V
 |.ref id g o=>some (.ref id g (o+off))
 |.eu cs=>if off<=cs.length then some (.eu (cs.drop off))else none
 |_=>none
def E8(g:Bool)(off n:Nat):V->Option V
 |.agg cs=>if((cs.drop off).take n).length=n then shut g ((cs.drop off).take n)else none
 |_=>none
def j9(sz:Nat):V->V->Option V
 |.aB id g off len dF,.s (.int _ n)=>if 0<=n/\n<len/\dF=sz then some (.ref id g (off+n.toNat*sz))else none
 |.du es dF,.s (.int _ n)=>if 0<=n/\dF=sz then(es[n.toNat]?).map .eu else none
 |_,_=>none
def yz:V->V->Option V
 |.s (.string b),.s (.int _ n)=>if 0<=n then(b.data.toList[n.toNat]?).map fun c=>.s (.int .u8 c.toNat)else none
 |_,_=>none
def Fw(i:Nat):V->Option V
 |.bV vs=>vs[i]?
 |_=>none
def h0(H:az):r6->V->Option V
 |.p,.s (.string b)=>some (i64 b.size)
 |.s,.s (.slice none 0 0)=>some (i64 0)
 |.m,.s (.map none)=>some (i64 0)
 |.s,.db=>some (i64 0)
 |.s,.du es _=>some (i64 es.length)
 |.s,.aB _ _ _ len _=>some (i64 len)
 |.m,.mp id=>match H[id]? with
   |some (.map es)=>some (i64 es.length)
   |_=>none
 |_,_=>none
def BC(H:az)(kind:TypeDesc)(zero:V)(ok:Bool)(m k:V):Option V:=(bf (fun _ _ _ _=>none) 0 [m,k] H (.j6 kind zero (.t 0) (.t 1) ok)).map (·.1)
def vD(ft:Bool):V->V->Option V
 |.s (.int k a),.s (.int gT b)=>if k=gT then some (.s (.int k (if ft then(if a<b then b else a)else(if b<a then b else a))))else none
 |_,_=>none
def gl(H:az)(g:Bool)(n:Nat)(a:V):Option V:=iT H g n a
def hk(H:az)(o:b3):Option (List V)->Option V
 |some vs=>(bf (fun _ _ _ _=>none) 0 vs H o).map (·.1)
 |none=>none
def K8(x:Option V)(xs:Option (List V)):Option (List V):=match x,xs with
 |some v,some vs=>some (v::vs)
 |_,_=>none
theorem asn(v vs):K8 (some v) (some vs)=some (v::vs):=rfl
section
variable (fr:List V) (H:az) (x y:E)
theorem Ha:nT fr H []=some []:=rfl
theorem acl(xs):nT fr H (x::xs)=K8 (cc fr H x) (nT fr H xs):=by
 simp only[nT];cases cc fr H x<;>cases nT fr H xs<;>rfl
theorem yZ(o xs):cc fr H (.op o xs)=hk H o (nT fr H xs):=by
 simp only[cc];cases nT fr H xs with
 |none=>rfl
 |some vs=>simp only[hk];cases bf (fun _ _ _ _=>none) 0 vs H o<;>rfl
def vS{o}{f:V->Option V}(h:∀v,hk H o (some [v])=f v):cc fr H (.op o [x])=oW f (cc fr H x):=by
 rw[yZ,acl,Ha];cases cc fr H x with
 |none=>rfl
 |some v=>exact h v
def B2{o}{f:V->V->Option V}(h:∀v u,hk H o (some [v,u])=f v u):cc fr H (.op o [x,y])=jW f (cc fr H x) (cc fr H y):=by
 rw[yZ,acl,acl,Ha];cases cc fr H x with
 |none=>rfl
 |some v=>cases cc fr H y with
   |none=>rfl
   |some u=>exact h v u
def AY{o}{f:V->V->Option V}{c}(h:∀v,hk H o (some [v,c])=f v c):cc fr H (.op o [x,.c c])=jW f (cc fr H x) (some c):=by
 rw[yZ,acl,acl,Ha,MJ];cases cc fr H x with
 |none=>rfl
 |some v=>exact h v
def Bg{o}{f:V->V->Option V}{c}(h:∀v,hk H o (some [c,v])=f c v):cc fr H (.op o [.c c,y])=jW f (some c) (cc fr H y):=by
 rw[yZ,acl,acl,Ha,MJ];cases cc fr H y with
 |none=>rfl
 |some v=>exact h v
def axk(op:BinOp):cc fr H (.op (.bin op (.t 0) (.t 1)) [x,y])=jW (fH op) (cc fr H x) (cc fr H y):=B2 _ _ _ _ fun v u=>by
 cases v<;>first|rfl|(cases u<;>first|rfl|(simp only[hk,bf,aX,jg,mo,fH];cases ir op _ _<;>rfl))
def aIC(op:BinOp)(c):cc fr H (.op (.bin op (.t 0) (.c c)) [x,.c c])=jW (fH op) (cc fr H x) (some c):=AY _ _ _ fun v=>by
 cases v<;>first|rfl|(cases c<;>first|rfl|(simp only[hk,bf,aX,jg,fH];cases ir op _ _<;>rfl))
def aAO(op:BinOp)(c):cc fr H (.op (.bin op (.c c) (.t 1)) [.c c,y])=jW (fH op) (some c) (cc fr H y):=Bg _ _ _ fun v=>by
 cases c<;>first|rfl|(cases v<;>first|rfl|(simp only[hk,bf,aX,jg,mo,fH];cases ir op _ _<;>rfl))
def aoF(n):cc fr H (.op (.uO n (.t 0) (.t 1)) [x,y])=jW (E' n) (cc fr H x) (cc fr H y):=B2 _ _ _ _ fun v u=>by
 cases v<;>first|rfl|(rename_i q;cases q<;>first|rfl|(cases u<;>first|rfl|(rename_i p;cases p<;>rfl)))
def aFg(n c):cc fr H (.op (.uO n (.t 0) (.c c)) [x,.c c])=jW (E' n) (cc fr H x) (some c):=AY _ _ _ fun v=>by
 cases v<;>first|rfl|(rename_i q;cases q<;>first|rfl|(cases c<;>first|rfl|(rename_i p;cases p<;>rfl)))
def ayR(n c):cc fr H (.op (.uO n (.c c) (.t 1)) [.c c,y])=jW (E' n) (some c) (cc fr H y):=Bg _ _ _ fun v=>by
 cases c<;>first|rfl|(rename_i q;cases q<;>first|rfl|(cases v<;>first|rfl|(rename_i p;cases p<;>rfl)))
def azX(n)(ls:List mr):cc fr H (.op (.sx n ls (.t 0) (.t 1)) [x,y])=jW (xQ n ls) (cc fr H x) (cc fr H y):=B2 _ _ _ _ fun v u=>by
 cases v<;>first|rfl|(cases u<;>first|rfl|(simp only[hk,bf,aX,jg,mo,xQ];cases jA ls _ _<;>rfl))
def avV(n)(ls:List mr)(c):cc fr H (.op (.sx n ls (.t 0) (.c c)) [x,.c c])=jW (xQ n ls) (cc fr H x) (some c):=AY _ _ _ fun v=>by
 cases v<;>first|rfl|(cases c<;>first|rfl|(simp only[hk,bf,aX,jg,xQ];cases jA ls _ _<;>rfl))
def aCm(n)(ls:List mr)(c):cc fr H (.op (.sx n ls (.c c) (.t 1)) [.c c,y])=jW (xQ n ls) (some c) (cc fr H y):=Bg _ _ _ fun v=>by
 cases c<;>first|rfl|(cases v<;>first|rfl|(simp only[hk,bf,aX,jg,mo,xQ];cases jA ls _ _<;>rfl))
def aDo(sz):cc fr H (.op (.indexAddr sz (.t 0) (.t 1)) [x,y])=jW (j9 sz) (cc fr H x) (cc fr H y):=B2 _ _ _ _ fun v u=>by
 cases v<;>first|rfl|(cases u<;>first|rfl|(rename_i q;cases q<;>first|rfl|(simp only[hk,bf,aX,jg,mo,j9];split<;>first|rfl|(split<;>rename_i e<;>simp[e]))))
def az0(sz c):cc fr H (.op (.indexAddr sz (.t 0) (.c c)) [x,.c c])=jW (j9 sz) (cc fr H x) (some c):=AY _ _ _ fun v=>by
 cases v<;>first|rfl|(cases c<;>first|rfl|(rename_i q;cases q<;>first|rfl|(simp only[hk,bf,aX,jg,j9];split<;>first|rfl|(split<;>rename_i e<;>simp[e]))))
def atq(sz c):cc fr H (.op (.indexAddr sz (.c c) (.t 1)) [.c c,y])=jW (j9 sz) (some c) (cc fr H y):=Bg _ _ _ fun v=>by
 cases c<;>first|rfl|(cases v<;>first|rfl|(rename_i q;cases q<;>first|rfl|(simp only[hk,bf,aX,jg,mo,j9];split<;>first|rfl|(split<;>rename_i e<;>simp[e]))))
def ayl:cc fr H (.op (.h6 (.t 0) (.t 1)) [x,y])=jW (yz) (cc fr H x) (cc fr H y):=B2 _ _ _ _ fun v u=>by
 cases v<;>first|rfl|(rename_i q;cases q<;>first|rfl|(cases u<;>first|rfl|(rename_i p;cases p<;>first|rfl|(simp only[hk,bf,aX,jg,mo,yz];split<;>first|rfl|(split<;>rename_i e<;>simp[e])))))
def ao1(c):cc fr H (.op (.h6 (.t 0) (.c c)) [x,.c c])=jW (yz) (cc fr H x) (some c):=AY _ _ _ fun v=>by
 cases v<;>first|rfl|(rename_i q;cases q<;>first|rfl|(cases c<;>first|rfl|(rename_i p;cases p<;>first|rfl|(simp only[hk,bf,aX,jg,yz];split<;>first|rfl|(split<;>rename_i e<;>simp[e])))))
def aDK(c):cc fr H (.op (.h6 (.c c) (.t 1)) [.c c,y])=jW (yz) (some c) (cc fr H y):=Bg _ _ _ fun v=>by
 cases c<;>first|rfl|(rename_i q;cases q<;>first|rfl|(cases v<;>first|rfl|(rename_i p;cases p<;>first|rfl|(simp only[hk,bf,aX,jg,mo,yz];split<;>first|rfl|(split<;>rename_i e<;>simp[e])))))
def aFc(ft):cc fr H (.op (.pk ft (.t 0) (.t 1)) [x,y])=jW (vD ft) (cc fr H x) (cc fr H y):=B2 _ _ _ _ fun v u=>by
 cases v<;>first|rfl|(rename_i q;cases q<;>first|rfl|(cases u<;>first|rfl|(rename_i p;cases p<;>first|rfl|(simp only[hk,bf,aX,jg,mo,vD];split<;>rfl))))
def aC1(ft c):cc fr H (.op (.pk ft (.t 0) (.c c)) [x,.c c])=jW (vD ft) (cc fr H x) (some c):=AY _ _ _ fun v=>by
 cases v<;>first|rfl|(rename_i q;cases q<;>first|rfl|(cases c<;>first|rfl|(rename_i p;cases p<;>first|rfl|(simp only[hk,bf,aX,jg,vD];split<;>rfl))))
def ath(ft c):cc fr H (.op (.pk ft (.c c) (.t 1)) [.c c,y])=jW (vD ft) (some c) (cc fr H y):=Bg _ _ _ fun v=>by
 cases c<;>first|rfl|(rename_i q;cases q<;>first|rfl|(cases v<;>first|rfl|(rename_i p;cases p<;>first|rfl|(simp only[hk,bf,aX,jg,mo,vD];split<;>rfl))))
theorem aDk(me z ok):cc fr H (.op (.j6 me z (.t 0) (.t 1) ok) [x,y])=jW (BC H me z ok) (cc fr H x) (cc fr H y):=B2 _ _ _ _ fun v u=>by
 rfl
theorem azU(me z ok c):cc fr H (.op (.j6 me z (.t 0) (.c c) ok) [x,.c c])=jW (BC H me z ok) (cc fr H x) (some c):=AY _ _ _ fun v=>by
 rfl
theorem aH1(me z ok c):cc fr H (.op (.j6 me z (.c c) (.t 1) ok) [.c c,y])=jW (BC H me z ok) (some c) (cc fr H y):=Bg _ _ _ fun v=>by
 rfl
theorem apT:cc fr H (.op (.nilCheck (.t 0)) [x])=oW (DU) (cc fr H x):=vS _ _ _ fun v=>by
 cases v<;>rfl
theorem aGe(k:r6)(n):cc fr H (.op (.we k n (.t 0)) [x])=oW (pL k n) (cc fr H x):=vS _ _ _ fun v=>by
 simp only[hk,bf,aX,jg,pL];cases V.isNil k v<;>rfl
def axa(op:UnOp):cc fr H (.op (.un op (.t 0)) [x])=oW (DD op) (cc fr H x):=vS _ _ _ fun v=>by
 cases op<;>first|(cases v<;>first|rfl|(rename_i q;cases q<;>first|rfl|(simp only[hk,bf,aX,jg,DD];cases ir _ _ _<;>rfl)))
def aFd(k):cc fr H (.op (.conv k (.t 0)) [x])=oW (Pt k) (cc fr H x):=vS _ _ _ fun v=>by
 cases v<;>first|rfl|(rename_i q;cases q<;>rfl)
def ap1:cc fr H (.op (.yC (.t 0)) [x])=oW (RH) (cc fr H x):=vS _ _ _ fun v=>by
 cases v<;>first|rfl|(rename_i q;cases q<;>rfl)
def aAY(off):cc fr H (.op (.fieldAddr off (.t 0)) [x])=oW (yX off) (cc fr H x):=vS _ _ _ fun v=>by
 cases v<;>first|rfl|(simp only[hk,bf,aX,jg,yX];split<;>rfl)
def aHK(g off n):cc fr H (.op (.field g off n (.t 0)) [x])=oW (E8 g off n) (cc fr H x):=vS _ _ _ fun v=>by
 cases v<;>first|rfl|(simp only[hk,bf,aX,jg,E8];split<;>first|rfl|(cases shut g _<;>rfl))
def aFu(i):cc fr H (.op (.extract (.t 0) i) [x])=oW (Fw i) (cc fr H x):=vS _ _ _ fun v=>by
 cases v<;>first|rfl|(simp only[hk,bf,aX,jg,Fw];split<;>rename_i e<;>simp[e])
def auU(k:r6):cc fr H (.op (.dD k (.t 0)) [x])=oW (h0 H k) (cc fr H x):=vS _ _ _ fun v=>by
 cases k<;>cases v<;>first|rfl|(rename_i q;cases q<;>first|rfl|(rename_i a;cases a<;>rfl)|(rename_i a b c;cases a<;>first|rfl|(cases b<;>first|rfl|(cases c<;>rfl))))|(rename_i j;simp only[hk,bf,aX,jg,h0];generalize H[j]?=o;cases o<;>first|rfl|(rename_i bo;cases bo<;>rfl))
theorem ayG(g n):cc fr H (.op (.load g n (.t 0)) [x])=oW (gl H g n) (cc fr H x):=vS _ _ _ fun v=>by
 simp only[hk,bf,aX,jg,gl];cases iT H g n v<;>rfl
def aqg(z p ps xs):cc fr H (.op (.build z p ps) xs)=hk H (.build z p ps) (nT fr H xs):=yZ _ _ _ _
def aBH(f a b xs):cc fr H (.op (.mu f a b) xs)=hk H (.mu f a b) (nT fr H xs):=yZ _ _ _ _
def at7(a cz hi xs):cc fr H (.op (.mT a cz hi) xs)=hk H (.mT a cz hi) (nT fr H xs):=yZ _ _ _ _
def apH(sz a cz hi ft xs):cc fr H (.op (.ll sz a cz hi ft) xs)=hk H (.ll sz a cz hi ft) (nT fr H xs):=yZ _ _ _ _
end
def aIi{m os kill fr H}(h:m<=fr.length):iO (some (m,[],os)) kill fr H=qi fr H os (ut kill fr):=by
 simp only[iO,a' h,s7,fl]
def avq{m os kill n}{dM:Env}{H}(h:m<=n):iO (some (m,[],os)) kill (au n dM) H=qi (au n dM) H os (au n (hV kill dM)):=by
 rw[aIi (by rw[sZ];exact h),aat]
def arT{m R os kill n}{dM:Env}{H}(h:m<=n):iO (some (m,R,os)) kill (au n dM) H=My (au n dM) H os kill (R.all fun r=>ka (au n dM) H r.1 r.2):=by
 rw[asb (by rw[sZ];exact h)]
noncomputable def Ay(b:List V->az->Option cJ)(k:List Nat)(m:Nat):Option cJ->Option cJ
 |some (.bH,aW,H')=>aG b k m (ut k aW) (trim m (ut k aW) H')
 |some (e,aW,H')=>some (e,ut k aW,trim m (ut k aW) H')
 |none=>none
theorem eo(b:List V->az->Option cJ)(k m fr H):aG b k m fr H=Ay b k m (b fr H):=by
 rw[avB];cases b fr H with
 |none=>rfl
 |some r=>obtain⟨e,f,h⟩:=r;cases e<;>rfl
section
variable (b:List V->az->Option cJ) (k:List Nat) (m:Nat)
theorem H7(fr H):Ay b k m (some (.bH,fr,H))=aG b k m (ut k fr) (trim m (ut k fr) H):=rfl
theorem Xj(i fr H):Ay b k m (some (.ext i,fr,H))=some (.ext i,ut k fr,trim m (ut k fr) H):=rfl
theorem alj(fr H):Ay b k m (some (.ret,fr,H))=some (.ret,ut k fr,trim m (ut k fr) H):=rfl
theorem axn(p x y):Ay b k m (bif p then x else y)=bif p then Ay b k m x else Ay b k m y:=by cases p<;>rfl
end
theorem ap7(fr H):trim H.length fr H=H:=Aa rfl
def vT(rs:List lj):Option cJ->Option (V × az)
 |some (.bH,fr,H)=>(kB rs fr H).map fun v=>(v,H)
 |some (.ret,fr,H)=>(kB rs fr H).map fun v=>(v,H)
 |_=>none
theorem aGf(rs:List lj)(fr H):vT rs (some (.bH,fr,H))=(kB rs fr H).map fun v=>(v,H):=rfl
theorem aBU(rs:List lj)(fr H):vT rs (some (.ret,fr,H))=(kB rs fr H).map fun v=>(v,H):=rfl
theorem aIh(rs:List lj)(p x y):vT rs (bif p then x else y)=bif p then vT rs x else vT rs y:=by cases p<;>rfl
theorem ay1(t:lj)(fr H):kB [t] fr H=j' fr H t:=by
 simp only[kB,n1,IE];cases j' fr H t<;>rfl
theorem aoH(t u:lj)(fr H):kB [t,u] fr H=match j' fr H t,j' fr H u with|some x,some y=>some (.bV [x,y])|_,_=>none:=by
 simp only[kB,n1,IE];cases j' fr H t<;>cases j' fr H u<;>rfl
theorem aGN(t fr H):j' fr H (.tmp t)=some (fr.getD t .bs):=rfl
theorem avR(t g n fr H):j' fr H (.cell t g n)=iT H g n (fr.getD t .bs):=rfl
def ih{bX:Nat->Option c7}{f}{c:eI}(al:bX f=some (.code c)){fst args cap}(ak:(fst++args++cap).length<=c.ntmps){base H r}(h:vT c.results (aC (aU bX) aG base c.body (au c.ntmps (gC c.ntmps (fst++args++cap) 0)) H)=some r):aU bX (.fn f fst cap) args base H=some r:=by
 refine wV ?_;simp only[kN,al];rw[start_eq ak];cases he:aC (aU bX) aG base c.body (au c.ntmps (gC c.ntmps (fst++args++cap) 0)) H with
 |none=>rw[he]at h;cases h
 |some s=>
   rw[he]at h;obtain⟨e,f2,bK⟩:=s;cases e<;>exact h
theorem aBq(n v vs k):gC n (v::vs) k=(k,v)::gC n vs (k+1):=rfl
def M3(call:c5)(base:Nat)(o:cF)(os:List cF)(fr:List V)(H:az):Option Bool->Option (List V × az)
 |some true=>match bf call base fr H o.op with
   |some (v,H')=>cu call base os (put o.dst v fr) H'
   |none=>none
 |some false=>cu call base os (put o.dst bR fr) H
 |none=>none
def Ec(call:c5)(base:Nat)(d:Option Nat)(os:List cF)(fr:List V):Option (V × az)->Option (List V × az)
 |some (v,H')=>cu call base os (put d v fr) H'
 |none=>none
def GO(b:Bool):V->Option Bool
 |.s (.bool x)=>some (x==b)
 |.s (.tuple _)=>some false
 |_=>none
section
variable {call:c5} {base:Nat}
theorem aBe(fr H):cu call base [] fr H=some (fr,H):=rfl
theorem ato(d op os fr H):cu call base (⟨d,op,none⟩::os) fr H=Ec call base d os fr (bf call base fr H op):=by
 simp only[cu,want];cases bf call base fr H op<;>rfl
theorem aqi(d op t b os fr H):cu call base (⟨d,op,some (t,b)⟩::os) fr H=M3 call base ⟨d,op,some (t,b)⟩ os fr H (GO b (fr.getD t .bs)):=by
 have:want ⟨d,op,some (t,b)⟩ fr=GO b (fr.getD t .bs):=by
  simp only[want];cases fr.getD t .bs with
  |s v=>cases v<;>rfl
  |_=>rfl
 simp only[cu,this];cases GO b (fr.getD t .bs)with
 |none=>rfl
 |some p=>cases p<;>rfl
theorem aGy(d op g os fr H p):M3 call base ⟨d,op,g⟩ os fr H (some p)=bif p then Ec call base d os fr (bf call base fr H op)else cu call base os (put d bR fr) H:=by
 cases p
 .rfl
 .simp only[M3];cases bf call base fr H op<;>rfl
theorem ayu(b x):GO b (.s (.bool x))=some (x==b):=rfl
theorem aBn(b):GO b bR=some false:=rfl
theorem aBh(d os fr v H):Ec call base d os fr (some (v,H))=cu call base os (put d v fr) H:=rfl
def aGE(d v n)(dM:Env):put (some d) v (au n dM)=au n (yb d v dM):=MG n dM d v
theorem aFA(v fr):put none v fr=fr:=rfl
theorem axl(d os fr p x y):Ec call base d os fr (bif p then x else y)=bif p then Ec call base d os fr x else Ec call base d os fr y:=by cases p<;>rfl
theorem axf(b9 ops kill p x y):sd b9 ops kill (bif p then x else y)=bif p then sd b9 ops kill x else sd b9 ops kill y:=by cases p<;>rfl
end
theorem aHT(fr i):aX fr (.t i)=fr.getD i .bs:=rfl
theorem awB(fr v):aX fr (.c v)=v:=rfl
def NW(H:az)(x y:V):V->Option (V × az)
 |.s (.bool p)=>bif p then some (x,H)else some (y,H)
 |_=>none
theorem aBj(call:c5)(base fr H c a b):bf call base fr H (.pick c a b)=NW H (aX fr a) (aX fr b) (aX fr c):=by
 simp only[bf];cases aX fr c with
 |s v=>cases v with
   |bool p=>cases p<;>rfl
   |_=>rfl
 |_=>rfl
theorem atD(H x y p):NW H x y (.s (.bool p))=bif p then some (x,H)else some (y,H):=rfl
theorem aEd(H x y p):NW H (.s (.bool x)) (.s (.bool y)) (.s (.bool p))=some (.s (.bool (bif p then x else y)),H):=by cases p<;>rfl
def ko(H:az):Option V->Option (V × az)
 |some v=>some (v,H)
 |none=>none
theorem aBo(H v):ko H (some v)=some (v,H):=rfl
def S2:Option az->Option (V × az)
 |some H=>some (bR,H)
 |none=>none
theorem axh(H):S2 (some H)=some (bR,H):=rfl
section
variable (call:c5) (base:Nat) (fr:List V) (H:az) (x y:cY)
def asZ(op:BinOp):bf call base fr H (.bin op x y)=ko H (fH op (aX fr x) (aX fr y)):=by
 simp only[bf];generalize aX fr x=v;generalize aX fr y=u
 cases v<;>first|rfl|(cases u<;>first|rfl|(simp only[fH];cases ir op _ _<;>rfl))
def aEK(n):bf call base fr H (.uO n x y)=ko H (E' n (aX fr x) (aX fr y)):=by
 simp only[bf];generalize aX fr x=v;generalize aX fr y=u
 cases v<;>first|rfl|(rename_i q;cases q<;>first|rfl|(cases u<;>first|rfl|(rename_i p;cases p<;>rfl)))
theorem aIq(n):bf call base fr H (.Gf n x y)=ko H (W0 H n (aX fr x) (aX fr y)):=by
 simp only[bf];generalize aX fr x=v;generalize aX fr y=u
 cases v<;>first|rfl|(cases u<;>first|rfl|skip)
 rename_i i g _ j h _;simp only[W0];split
 .rfl
 .cases ao H i g with
  |none=>rfl
  |some c=>cases ao H j h<;>rfl
def axc(n)(ls:List mr):bf call base fr H (.sx n ls x y)=ko H (xQ n ls (aX fr x) (aX fr y)):=by
 simp only[bf];generalize aX fr x=v;generalize aX fr y=u
 cases v<;>first|rfl|(cases u<;>first|rfl|(simp only[xQ];cases jA ls _ _<;>rfl))
def aHJ(sz):bf call base fr H (.indexAddr sz x y)=ko H (j9 sz (aX fr x) (aX fr y)):=by
 simp only[bf];generalize aX fr x=v;generalize aX fr y=u
 cases v<;>first|rfl|(cases u<;>first|rfl|(rename_i q;cases q<;>first|rfl|(simp only[j9];split<;>first|rfl|(split<;>rename_i e<;>simp[e,ko]))))
def ap8:bf call base fr H (.h6 x y)=ko H (yz (aX fr x) (aX fr y)):=by
 simp only[bf];generalize aX fr x=v;generalize aX fr y=u
 cases v<;>first|rfl|(rename_i q;cases q<;>first|rfl|(cases u<;>first|rfl|(rename_i p;cases p<;>first|rfl|(simp only[yz];split<;>first|rfl|(split<;>rename_i e<;>simp[e,ko])))))
def axv(ft):bf call base fr H (.pk ft x y)=ko H (vD ft (aX fr x) (aX fr y)):=by
 simp only[bf];generalize aX fr x=v;generalize aX fr y=u
 cases v<;>first|rfl|(rename_i q;cases q<;>first|rfl|(cases u<;>first|rfl|(rename_i p;cases p<;>first|rfl|(simp only[vD];split<;>rfl))))
theorem azx:bf call base fr H (.nilCheck x)=ko H (DU (aX fr x)):=by
 simp only[bf];generalize aX fr x=v;cases v<;>rfl
theorem aGl(k:r6)(n):bf call base fr H (.we k n x)=ko H (pL k n (aX fr x)):=by
 simp only[bf];generalize aX fr x=v;simp only[pL];cases V.isNil k v<;>rfl
def awq(op:UnOp):bf call base fr H (.un op x)=ko H (DD op (aX fr x)):=by
 simp only[bf];generalize aX fr x=v
 cases op<;>first|(cases v<;>first|rfl|(rename_i q;cases q<;>first|rfl|(simp only[DD];cases ir _ _ _<;>rfl)))
def aui(k):bf call base fr H (.conv k x)=ko H (Pt k (aX fr x)):=by
 simp only[bf];generalize aX fr x=v
 cases v<;>first|rfl|(rename_i q;cases q<;>rfl)
def aHo:bf call base fr H (.yC x)=ko H (RH (aX fr x)):=by
 simp only[bf];generalize aX fr x=v
 cases v<;>first|rfl|(rename_i q;cases q<;>rfl)
def arI(off):bf call base fr H (.fieldAddr off x)=ko H (yX off (aX fr x)):=by
 simp only[bf];generalize aX fr x=v
 cases v<;>first|rfl|(simp only[yX];split<;>rfl)
def aGO(g off n):bf call base fr H (.field g off n x)=ko H (E8 g off n (aX fr x)):=by
 simp only[bf];generalize aX fr x=v
 cases v<;>first|rfl|(simp only[E8];split<;>first|rfl|(cases shut g _<;>rfl))
def aBO(i):bf call base fr H (.extract x i)=ko H (Fw i (aX fr x)):=by
 simp only[bf];generalize aX fr x=v
 cases v<;>first|rfl|(simp only[Fw];split<;>rename_i e<;>simp[e,ko])
def atN(k:r6):bf call base fr H (.dD k x)=ko H (h0 H k (aX fr x)):=by
 cases k<;>(simp only[bf];generalize aX fr x=v;cases v<;>first|rfl|(rename_i q;cases q<;>first|rfl|(rename_i a;cases a<;>rfl)|(rename_i a b c;cases a<;>first|rfl|(cases b<;>first|rfl|(cases c<;>rfl))))|(rename_i j;simp only[h0];generalize H[j]?=o;cases o<;>first|rfl|(rename_i bo;cases bo<;>rfl)))
theorem asr(g n):bf call base fr H (.load g n x)=ko H (gl H g n (aX fr x)):=by
 simp only[bf];generalize aX fr x=v;simp only[gl];cases iT H g n v<;>rfl
theorem atF(me z ok):bf call base fr H (.j6 me z x y ok)=ko H (BC H me z ok (aX fr x) (aX fr y)):=by
 have h:∀r,bf call base fr H (.j6 me z x y ok)=some r->r.2=H:=fun r h=>by obtain⟨v,H'⟩:=r;exact(zC rfl h).1
 have U:bf (fun _ _ _ _=>none) 0 [aX fr x,aX fr y] H (.j6 me z (.t 0) (.t 1) ok)=bf call base fr H (.j6 me z x y ok):=rfl;simp only[BC,U];cases ar:bf call base fr H (.j6 me z x y ok)with
 |none=>rfl
 |some r=>obtain⟨v,H'⟩:=r;have:=h _ ar;simp only at this;subst this;rfl
theorem awt:bf call base fr H (.move x)=some (aX fr x,H):=rfl
theorem aAx(z):bf call base fr H (.alloc z)=some (.ref H.length 0 0,H++[.cells 0 z]):=rfl
theorem aFw:bf call base fr H (.box x)=if(aX fr x).cells.all V.one then some (.ref H.length 0 0,H++[.cells 0 (aX fr x).cells])else none:=rfl
theorem ay8:bf call base fr H .zr=some (.mp H.length,H++[.map []]):=rfl
theorem awU(n):bf call base fr H (.store n x y)=S2 (Am H base n (aX fr y) (aX fr x)):=by
 simp only[bf];cases Am H base n (aX fr y) (aX fr x)<;>rfl
theorem aHI(f a b):bf call base fr H (.mu f a b)=some (.fn f (a.map (aX fr)) (b.map (aX fr)),H):=rfl
theorem ary(sz bytes):bf call base fr H (.xT sz bytes x y)=gW H H.length sz bytes (aX fr x) (aX fr y):=rfl
theorem aAv(sz bytes):bf call base fr H (.append sz bytes x y)=gW H base sz bytes (aX fr x) (aX fr y):=rfl
theorem at2(args):bf call base fr H (.call x args)=call (aX fr x) (args.map (aX fr)) base H:=rfl
theorem aIY(args):bf call base fr H (.oe x args)=call (aX fr x) (args.map (aX fr)) H.length H:=rfl
theorem aFS(z places parts):bf call base fr H (.build z places parts)=ko H ((kv (places[·]?) z (parts.map fun p=>(p.1,aX fr p.2))).map .agg):=by
 simp only[bf];cases kv (places[·]?) z (parts.map fun p=>(p.1,aX fr p.2))<;>rfl
def Zt(H:az)(sz len:Nat):Option (List V)->Option (V × az)
 |some cs=>some (if len=0 then .db else .aB H.length 0 0 len sz,H++[.cells 0 cs])
 |none=>none
theorem aHj(sz len cs):Zt H sz len (some cs)=some (if len=0 then .db else .aB H.length 0 0 len sz,H++[.cells 0 cs]):=rfl
theorem ays(sz len z parts):bf call base fr H (.fy sz len z parts)=Zt H sz len (kv (fun i=>some (i*sz,sz)) z (parts.map fun p=>(p.1,aX fr p.2))):=by
 simp only[bf];cases kv (fun i=>some (i*sz,sz)) z (parts.map fun p=>(p.1,aX fr p.2))<;>rfl
end
section
variable {call:c5} {it:gS} {base:Nat}
def zt(D:List Nat)(f g:List V):Prop:=f.length=g.length/\∀s,s ∉ D->f.getD s .bs=g.getD s .bs
def ac6(o:cF)(D:List Nat):Bool:=o.reads.any D.contains
def less(D:List Nat)(d:Option Nat):List Nat:=match d with
 |some d=>D.filter (· != d)
 |none=>D
def F2:List Nat->List cF->Option (List Nat)
 |D,[]=>some D
 |D,o::os=>if ac6 o D then none else F2 (less D o.dst) os
def afU{D:List Nat}{f g:List V}(h:zt D f g)(d:Option Nat)(v:V):zt (less D d) (put d v f) (put d v g):=by
 cases d with
 |none=>exact h
 |some d=>
   refine⟨by simp only[put,eF];exact h.1,fun s aq=>?_⟩
   simp only[put];by_cases e:s=d
   .subst e;by_cases ak:s<f.length
    .rw[Pz ak,Pz (h.1▸ak)]
    .rw[Kg (by omega),Kg (by have:=h.1;omega)]
     simp[List.getD,ak,h.1▸ak]
   .rw[R4 (fun bw=>e bw.symm),R4 (fun bw=>e bw.symm)];refine h.2 s fun cX=>aq ?_;simp only[less,List.mem_filter,hU,ne_eq];exact⟨cX,e⟩
def aIP:∀(ops:List cF) (D uj:List Nat) (f g:List V) (H:az),F2 D ops=some uj->zt D f g->
 (cu call base ops f H=none/\cu call base ops g H=none)\/∃eU g' H',cu call base ops f H=some (eU,H')/\cu call base ops g H=some (g',H')/\zt uj eU g':=by
 intro ops
 induction ops with
 |nil=>intro D uj f g H h aD;cases h;exact .inr ⟨f,g,H,rfl,rfl,aD⟩
 |cons o os aw=>
   intro D uj f g H h aD;simp only[F2]at h;split at h
   .cases h
   .rename_i ar
    have gg:∀s∈o.reads,f.getD s .bs=g.getD s .bs:=fun s aq=>aD.2 s fun cX=>ar (by
     unfold ac6;rw[Dw];exact⟨s,aq,by simpa using cX⟩)
    have hw:=HC gg;have aa:bf call base f H o.op=bf call base g H o.op:=JK _ fun x ae=>Fs ae gg;simp only[cu,hw,aa];cases want o g with
    |none=>exact .inl ⟨rfl,rfl⟩
    |some b=>
      cases b with
      |false=>exact aw _ _ _ _ _ h (afU aD _ _)
      |true=>
        simp only[];cases bf call base g H o.op with
        |none=>exact .inl ⟨rfl,rfl⟩
        |some r=>obtain⟨v,H'⟩:=r;exact aw _ _ _ _ _ h (afU aD _ _)
def alS{D gp f g}(h:zt D f g)(an:D.all gp.contains=true):ut gp f=ut gp g:=by
 refine MS (by rw[zL,zL,h.1]) fun i J U=>?_
 have e:(ut gp f).getD i .bs=(ut gp g).getD i .bs:=by
  rw[Dr,Dr];split
  .rfl
  .rename_i hi;refine h.2 i fun cX=>hi ?_;rw[dU]at an
   simpa using an i cX
 simpa[List.getD,J,U]using e
def gF(D:List Nat):cM->Bool
 |.seq a _=>gF D a
 |.region ops [] kill=>match F2 D ops with
   |some uj=>uj.all kill.contains
   |none=>false
 |.cond c a b=>(c.vq.all fun s=>!D.contains s)&&gF D a&&gF D b
 |.block _ c=>gF D c
 |.loop kill _=>D.all kill.contains
 |_=>false
def A7{D}:∀(c:cM) {f g:List V} (H:az),gF D c=true->zt D f g->aC call it base c f H=aC call it base c g H:=by
 intro c
 induction c with
 |seq a b hK _=>intro f g H h aD;simp only[aC,hK H h aD]
 |block id c aw=>intro f g H h aD;simp only[aC,aw H h aD]
 |cond o a b hK iK=>
   intro f g H h aD;simp only[gF,dr]at h
   have:aX f o=aX g o:=by
    cases o with
    |c v=>rfl
    |t s=>exact aD.2 s (by simpa[cY.vq]using h.1.1)
   simp only[aC,this,hK H h.1.2 aD,iK H h.2 aD]
 |loop kill c _=>intro f g H h aD;simp only[aC,alS aD h]
 |region ops b9 kill=>
   intro f g H h aD;cases b9 with
   |cons _ _=>cases h
   |nil=>
     simp only[gF]at h;split at h
     .rename_i uj cX
      rcases aIP (call:=call) (base:=base) ops D uj f g H cX aD with⟨aF,aK⟩|⟨eU,g',H',aF,aK,apD⟩
      .simp only[aC,aF,aK]
      .simp only[aC,aF,aK,alS apD h];rfl
     .cases h
 |_=>intro f g H h;cases h
end
def mJ:List V->Nat->Env
 | [],_=>[]
 |v::vs,k=>(k,v)::mJ vs (k+1)
theorem aBd(k):mJ [] k=[]:=rfl
theorem ao6(v vs k):mJ (v::vs) k=(k,v)::mJ vs (k+1):=rfl
theorem al8:∀(vs:List V) (k t:Nat),k<=t->t<k+vs.length->ld (mJ vs k) t=vs.getD (t-k) .bs:=by
 intro vs
 induction vs with
 |nil=>intro k t J U;simp at U;omega
 |cons v vs aw=>
   intro k t J U;simp only[mJ,ld,gP]at U |-;split
   .rename_i h;subst h;simp
   .rw[aw (k+1) t (by omega) (by omega)]
    obtain⟨d,aQ⟩:∃d,t-k=d+1:=⟨t-k-1,by omega⟩
    have:t-(k+1)=d:=by omega
    rw[aQ,this];rfl
def iY{bX:Nat->Option c7}{f}{c:eI}(al:bX f=some (.code c)){fst args cap k}(an:(fst++args++cap).length=k)(ak:k<=c.ntmps)(pM:gF (List.range' k (c.ntmps-k)) c.body=true){base H r}(h:vT c.results (aC (aU bX) aG base c.body (au c.ntmps (mJ (fst++args++cap) 0)) H)=some r):aU bX (.fn f fst cap) args base H=some r:=by
 refine ih al (by omega) ?_
 rw[A7 c.body H pM (g:=au c.ntmps (mJ (fst++args++cap) 0))]
 .exact h
 .refine⟨by rw[sZ,sZ],fun s aq=>?_⟩
  by_cases aN:s<c.ntmps
  .rw[BN aN,BN aN]
   have hC:s<k:=by
    apply Nat.lt_of_not_le;intro h;apply aq;rw[List.mem_range']
    exact⟨s-k,by omega,by omega⟩
   rw[Qq _ _ 0 s (fa _) aN (by omega),a' (by omega),al8 _ 0 s (fa _) (by omega)]
  .simp[au,List.getD,aN]
section
variable (call:c5) (it:gS) (base:Nat)
noncomputable def Em(b:List cF)(kill:List Nat)(H:az):Option (List V)->Option cJ->Option cJ
 |some f,_=>aC call it base (.region b [] kill) f H
 |none,o=>o
noncomputable def LX(H:az):Option (List V)->Option cJ->Option cJ
 |some f,_=>some (.bH,f,H)
 |none,o=>o
noncomputable def Aq(ops:List cF)(kill:List Nat)(f:List V)(H:az):Option cJ:=aC call it base (.region ops [] kill) f H
theorem anV(b kill H f o):Em call it base b kill H (some f) o=aC call it base (.region b [] kill) f H:=rfl
theorem ae6(H f o):LX H (some f) o=some (.bH,f,H):=rfl
noncomputable def zD(k:List Nat)(b:List cF)(kill:List Nat):Bool:=match F2 k b with
 |some D=>D.all kill.contains
 |none=>false
def Ra:∀(a b:List cF) (f:List V) (H:az),cu call base (a++b) f H=match cu call base a f H with
 |some (eU,H')=>cu call base b eU H'
 |none=>none:=by
 intro a
 induction a with
 |nil=>intro b f H;rfl
 |cons o os aw=>
   intro b f H;simp only[h5,cu];cases want o f with
   |none=>rfl
   |some p=>
     cases p with
     |false=>exact aw _ _ _
     |true=>
       simp only[];cases bf call base f H o.op with
       |none=>rfl
       |some r=>exact aw _ _ _
def aq1(k f):zt k f (ut k f):=⟨(zL k f).symm,fun s aq=>by rw[Dr,bm aq]⟩
def acZ{k kill b}(h:zD k b kill=true)(f H):aC call it base (.region b [] kill) f H=aC call it base (.region b [] kill) (ut k f) H:=by
 refine A7 (D:=k) (.region b [] kill) H ?_ (aq1 k f);unfold zD at h;simp only[gF];exact h
def E6(c d){kc kill}(h:zD kc d kill=true)(f H):aC call it base (.region (c++d) [] kill) f H=qc call it base (.region d [] kill) (aC call it base (.region c [] kc) f H):=by
 have aF:aC call it base (.region (c++d) [] kill) f H=match cu call base c f H with
  |some (eU,H')=>aC call it base (.region d [] kill) eU H'
  |none=>none:=by
  simp only[aC,Ra];cases cu call base c f H<;>rfl
 rw[aF,aef];cases cu call base c f H with
 |none=>rfl
 |some r=>
   obtain⟨eU,H'⟩:=r;simp only[acD,aba];exact acZ call it base h eU H'
def MX(a b){hT mF kill}(h:zD hT b kill=true)(f H):aC call it base (.region (a++b) [] kill) f H=Em call it base b kill H (iO (lZ a hT mF) hT f H) (Aq call it base (a++b) kill f H):=by
 cases aO:iO (lZ a hT mF) hT f H with
 |none=>rfl
 |some f2=>
   obtain⟨f1,J,U⟩:=De (call:=call) (base:=base) aO
   have aF:aC call it base (.region (a++b) [] kill) f H=aC call it base (.region b [] kill) f1 H:=by
    simp only[aC,Ra,J];cases cu call base b f1 H<;>rfl
   rw[aF,anV,<- U,acZ call it base h]
def aDu(a){mF kill}(f H):aC call it base (.region a [] kill) f H=LX H (iO (lZ a kill mF) kill f H) (Aq call it base a kill f H):=by
 cases aO:iO (lZ a kill mF) kill f H with
 |none=>rfl
 |some f2=>
   obtain⟨f1,J,U⟩:=De (call:=call) (base:=base) aO;simp only[ae6,aC,J,U,s7,fl]
def Ee(ops kill f H):aC call it base (.region ops [] kill) f H=sd [] ops kill (cu call base ops f H):=aef ops kill f H
theorem FX(ops b9 kill f H):aC call it base (.region ops b9 kill) f H=sR kill (fun eU=>b9.all (j8 call base ops f H eU)) (cu call base ops f H):=by
 simp only[aC];cases cu call base ops f H with
 |none=>rfl
 |some p=>
   simp only[sR];cases b9.all (j8 call base ops f H p.1)<;>rfl
end
def Rd(H:az)(v:V)(l:List V):Prop:=(∀b,v≠.s (.string b))/\elems H 1 v=some (l.length,l)
def Rd.nil(H):Rd H bz []:=⟨fun _ h=>(by cases h),rfl⟩
def Rd.db(H):Rd H .db []:=⟨fun _ h=>(by cases h),rfl⟩
def Rd.aB{H id g c}(h:ao H id g=some c){off n}(aN:off+n<=c.length):Rd H (.aB id g off n 1) ((c.drop off).take n):=by
 refine⟨fun _ h=>by(cases h),?_⟩
 have:((c.drop off).take n).length=n:=by simp;omega
 simp only[elems,fl,h,w5,this]
def Rd.cases{H v l}(h:Rd H v l):(l=[]/\(v=bz\/v=.db))\/(∃es,v=.du es 1/\es.flatten=l/\es.length=l.length)\/∃id g off n c,v=.aB id g off n 1/\ao H id g=some c/\(c.drop off).take n=l/\n=l.length:=by
 obtain⟨J,U⟩:=h;unfold elems at U;split at U
 .simp only[hW,Fi]at U;exact .inl ⟨U.2.symm,.inl rfl⟩
 .simp only[hW,Fi]at U;exact .inl ⟨U.2.symm,.inr rfl⟩
 .rename_i es sz;split at U
  .rename_i b5;subst b5;simp only[hW,Fi]at U;exact .inr (.inl ⟨es,rfl,U.2,U.1⟩)
  .cases U
 .rename_i id g off len sz;split at U
  .rename_i b5;subst b5;split at U
   .rename_i c aa;simp only[w5]at U;split at U
    .simp only[hW,Fi]at U;exact .inr (.inr ⟨id,g,off,len,c,rfl,aa,U.2,U.1⟩)
    .cases U
   .cases U
  .cases U
 .cases U
theorem Rd.len{H v l}(h:Rd H v l):h0 H .s v=some (.s (.int .i64 l.length)):=by
 rcases h.cases with⟨rfl,rfl|rfl⟩|⟨es,rfl,_,e⟩|⟨id,g,off,n,c,rfl,_,_,e⟩
 .rfl
 .rfl
 .simp only[h0,e];rfl
 .simp only[h0,e];rfl
def Sh:V->Prop
 |.du es _=>∀e∈es,e.length=1
 |_=>True
def aGA{es:List (List V)}(h:∀e∈es,e.length=1):∀{i:Nat} {x:V},es.flatten[i]?=some x->es[i]?=some [x]:=by
 induction es with
 |nil=>intro i x ae;simp at ae
 |cons e es aw=>
   intro i x ae;have he:=h e iH
   match e,he with
   | [y],_=>
     cases i with
     |zero=>simp at ae |-;exact ae
     |succ i=>simp at ae |-;exact aw (fun e he=>h e (hP _ he)) ae
theorem Rd.at{H:az}{v:V}{l:List V}(h:Rd H v l)(hw:Sh v){i:Nat}{x:V}(ae:l[i]?=some x):oW (gl H false 1) (j9 1 v (.s (.int .i64 i)))=some x:=by
 have hi:i<l.length:=(cC.1 ae).1
 have a1:(0:Int)<=(i:Int):=by omega
 rcases h.cases with⟨rfl,_⟩|⟨es,rfl,aF,aK⟩|⟨id,g,off,n,c,rfl,aa,aF,aK⟩
 .simp at ae
 .have:es[i]?=some [x]:=aGA hw (by rw[aF];exact ae)
  simp only[j9,a1,wR,fl,oH,this,mD,oW,gl,iT];rfl
 .have aN:((i:Int)<(n:Int)):=by omega
  have rf:c[off+i]?=some x:=by
   have:((c.drop off).take n)[i]?=some x:=by rw[aF];exact ae
   rw[iB (by omega),h4]at this
   exact this
  have:((c.drop (off+i)).take 1)=[x]:=by
   have bt:=(cC.1 rf).1;rw[hN bt];have:=(cC.1 rf).2;simp[this]
  simp only[j9,a1,aN,Hf,fl,oH,w5,oW,gl,iT,aa,this];rfl
def LG{H G id g c}(h:ao H id g=some c):ao (H++G) id g=some c:=by
 unfold ao at h |-;split at h
 .rename_i g' c' hh;rw[d' (cC.1 hh).1,hh];exact h
 .cases h
def Rd.app{H v l}(h:Rd H v l)(G):Rd (H++G) v l:=by
 rcases h.cases with⟨rfl,rfl|rfl⟩|⟨es,rfl,aF,aK⟩|⟨id,g,off,n,c,rfl,aa,aF,aK⟩
 .exact Rd.nil _
 .exact Rd.db _
 .exact⟨h.1,h.2⟩
 .refine⟨h.1,?_⟩
  have:((c.drop off).take n).length=n:=by rw[aF,aK]
  simp only[elems,fl,LG aa,w5,aF];rw[aK,a' rfl]
def anF{H id g c c'}(h:ao H id g=some c)(g'):ao (H.set id (.cells g' c')) id g'=some c':=by
 have:id<H.length:=by
  unfold ao at h;split at h
  .rename_i hh;exact(cC.1 hh).1
  .cases h
 simp[ao,this]
def tv{H id j g}(bo)(h:id≠j):ao (H.set j bo) id g=ao H id g:=by
 unfold ao;rw[cf (gG h)]
def JV{H id g c}(h:ao H id g=some c):H.set id (.cells g c)=H:=by
 unfold ao at h;split at h
 .rename_i g' c' hh;split at h
  .rename_i e;cases h;subst e;obtain⟨J,U⟩:=cC.1 hh;rw[<- U];exact List.set_getElem_self J
  .cases h
 .cases h
def arB(H:az)(id:Nat)(a b:bq):(H.set id a).set id b=H.set id b:=List.set_set ..
def aoT(k a b):fH .add (.s (.int k a)) (.s (.int k b))=some (.s (.int k (k.wrap (a+b)))):=by simp[fH,ir]
def ayt(k a b):fH .sub (.s (.int k a)) (.s (.int k b))=some (.s (.int k (k.wrap (a-b)))):=by simp[fH,ir]
def as8(k a b):fH .mul (.s (.int k a)) (.s (.int k b))=some (.s (.int k (k.wrap (a*b)))):=by simp[fH,ir]
def aya(k a b):fH .eql (.s (.int k a)) (.s (.int k b))=some (.s (.bool (a==b))):=by simp[fH,ir]
def aDN(k a b):fH .neq (.s (.int k a)) (.s (.int k b))=some (.s (.bool (a != b))):=by simp[fH,ir]
def ayv(k a b):fH .lss (.s (.int k a)) (.s (.int k b))=some (.s (.bool (decide (a<b)))):=by simp[fH,ir]
def avS(k a b):fH .leq (.s (.int k a)) (.s (.int k b))=some (.s (.bool (decide (a<=b)))):=by simp[fH,ir]
def aw4(k a b):fH .gtr (.s (.int k a)) (.s (.int k b))=some (.s (.bool (decide (a > b)))):=by simp[fH,ir]
def aH0(k a b):fH .geq (.s (.int k a)) (.s (.int k b))=some (.s (.bool (decide (a ≥ b)))):=by simp[fH,ir]
def auZ(k a b):fH .and (.s (.int k a)) (.s (.int k b))=some (.s (.int k (k.wrap (BitVec.ofInt k.bits a &&& BitVec.ofInt k.bits b).toNat))):=by simp[fH,ir]
def aq6(k a b):fH .or (.s (.int k a)) (.s (.int k b))=some (.s (.int k (k.wrap (BitVec.ofInt k.bits a ||| BitVec.ofInt k.bits b).toNat))):=by simp[fH,ir]
def aFk(k a b):fH .xor (.s (.int k a)) (.s (.int k b))=some (.s (.int k (k.wrap (BitVec.ofInt k.bits a ^^^ BitVec.ofInt k.bits b).toNat))):=by simp[fH,ir]
def asl(k a b):fH .andNot (.s (.int k a)) (.s (.int k b))=some (.s (.int k (k.wrap (BitVec.ofInt k.bits a &&& ~~~ (BitVec.ofInt k.bits b)).toNat))):=by simp[fH,ir]
def aIO(k a b):fH .quo (.s (.int k a)) (.s (.int k b))=if b=0 then none else some (.s (.int k (k.wrap (a.tdiv b)))):=by by_cases h:b=0<;>simp[fH,ir,h]
def aHt(k a b):fH .rem (.s (.int k a)) (.s (.int k b))=if b=0 then none else some (.s (.int k (a.tmod b))):=by by_cases h:b=0<;>simp[fH,ir,h]
def aDV(k j a b):fH .shl (.s (.int k a)) (.s (.int j b))=if b<0 then none else some (.s (.int k (k.wrap (a*2^(min b.toNat k.bits))))):=by by_cases h:b<0<;>simp[fH,ir,h]
def as4(k j a b):fH .shr (.s (.int k a)) (.s (.int j b))=if b<0 then none else some (.s (.int k (a.fdiv (2^(min b.toNat k.bits))))):=by by_cases h:b<0<;>simp[fH,ir,h]
theorem aEi(a b):fH .eql (.s (.string a)) (.s (.string b))=some (.s (.bool (a.data.toList==b.data.toList))):=rfl
theorem aGn(a b):fH .neq (.s (.string a)) (.s (.string b))=some (.s (.bool (!(a.data.toList==b.data.toList)))):=rfl
theorem awQ(a b):fH .lss (.s (.string a)) (.s (.string b))=some (.s (.bool (Op.bytesLess a.data.toList b.data.toList))):=rfl
def aoM(a b):fH .add (.s (.string a)) (.s (.string b))=if((a.size+b.size:Nat):Int) > IntKind.i64.max then none else some (.s (.string (a++b))):=by by_cases h:((a.size+b.size:Nat):Int) > IntKind.i64.max<;>simp only[fH,ir,h,fl,gx,mD,AX]
theorem atz(n a b):E' n (.s (.bool a)) (.s (.bool b))=some (.s (.bool ((a==b) != n))):=rfl
theorem axp(n):pL .p n (.s (.pointer none))=some (.s (.bool (true != n))):=rfl
theorem aFn(n i g o):pL .p n (.ref i g o)=some (.s (.bool (false != n))):=rfl
theorem aCA(n cs):pL .p n (.eu cs)=some (.s (.bool (false != n))):=rfl
theorem aE9(n):pL .s n (.s (.slice none 0 0))=some (.s (.bool (true != n))):=rfl
theorem auD(n i g o l z):pL .s n (.aB i g o l z)=some (.s (.bool (false != n))):=rfl
theorem atL(n es z):pL .s n (.du es z)=some (.s (.bool (false != n))):=rfl
theorem aCL(n):pL .s n (.db)=some (.s (.bool (false != n))):=rfl
theorem aoS(n):pL .m n (.s (.map none))=some (.s (.bool (true != n))):=rfl
theorem aud(n i):pL .m n (.mp i)=some (.s (.bool (false != n))):=rfl
theorem aIV(n):pL .f n (.s .nilFunc)=some (.s (.bool (true != n))):=rfl
theorem apg(n i a b):pL .f n (.fn i a b)=some (.s (.bool (false != n))):=rfl
theorem aGu(n i):pL .f n (.fg i)=some (.s (.bool (false != n))):=rfl
theorem ap6(n)(ls:List mr)(xs dW):xQ n ls (.agg xs) (.agg dW)=(jA ls xs dW).map fun b=>.s (.bool (b != n)):=rfl
theorem az7(b):DD .not (.s (.bool b))=some (.s (.bool (!b))):=rfl
theorem aAL(k a):DD .neg (.s (.int k a))=some (.s (.int k (k.wrap (0-a)))):=rfl
theorem aFI(k j a):Pt k (.s (.int j a))=some (.s (.int k (k.wrap a))):=rfl
theorem awW(b):RH (.s (.string b))=some (.s (.string b)):=rfl
theorem atH(i g o):DU (.ref i g o)=some (.ref i g o):=rfl
theorem asO(cs):DU (.eu cs)=some (.eu cs):=rfl
theorem aBV(f a b):DU (.fn f a b)=some (.fn f a b):=rfl
theorem avh(i):DU (.fg i)=some (.fg i):=rfl
theorem Vw(off i g o):yX off (.ref i g o)=some (.ref i g (o+off)):=rfl
theorem aEA(off cs):yX off (.eu cs)=if off<=cs.length then some (.eu (cs.drop off))else none:=rfl
theorem aFM(g off n cs):E8 g off n (.agg cs)=if((cs.drop off).take n).length=n then shut g ((cs.drop off).take n)else none:=rfl
theorem sX(sz i g o l z k n):j9 sz (.aB i g o l z) (.s (.int k n))=if 0<=n/\n<l/\z=sz then some (.ref i g (o+n.toNat*sz))else none:=rfl
theorem ayB(sz z es k n):j9 sz (.du es z) (.s (.int k n))=if 0<=n/\z=sz then(es[n.toNat]?).map .eu else none:=rfl
theorem aDj(b k n):yz (.s (.string b)) (.s (.int k n))=if 0<=n then(b.data.toList[n.toNat]?).map fun c=>.s (.int .u8 c.toNat)else none:=rfl
theorem aup(i vs):Fw i (.bV vs)=vs[i]?:=rfl
theorem aqU(H b):h0 H .p (.s (.string b))=some (.s (.int .i64 b.size)):=rfl
theorem avv(H):h0 H .s (.s (.slice none 0 0))=some (.s (.int .i64 0)):=rfl
theorem asJ(H):h0 H .s .db=some (.s (.int .i64 0)):=rfl
theorem aEF(H es z):h0 H .s (.du es z)=some (.s (.int .i64 es.length)):=rfl
theorem aHg(H i g o l z):h0 H .s (.aB i g o l z)=some (.s (.int .i64 l)):=rfl
theorem auy(H):h0 H .m (.s (.map none))=some (.s (.int .i64 0)):=rfl
theorem lW(H g n i j o):gl H g n (.ref i j o)=match ao H i j with|some c=>(if((c.drop o).take n).length=n then shut g ((c.drop o).take n)else none)|none=>none:=rfl
theorem aut(H g n cs):gl H g n (.eu cs)=if(cs.take n).length=n then shut g (cs.take n)else none:=rfl
def ay5(ft k a b):vD ft (.s (.int k a)) (.s (.int k b))=some (.s (.int k (if ft then(if a<b then b else a)else(if b<a then b else a)))):=by simp[vD]
theorem aeH(cs):shut true cs=some (.agg cs):=rfl
theorem acR(x):shut false [x]=some x:=rfl
def Rd.at'{H v l}(h:Rd H v l)(hw:Sh v){i:Nat}{x}(ae:l[i]?=some x):∃a,j9 1 v (.s (.int .i64 i))=some a/\gl H false 1 a=some x:=by
 have:=h.at hw ae;cases aD:j9 1 v (.s (.int .i64 i))with
 |none=>rw[aD]at this;cases this
 |some a=>rw[aD]at this;exact⟨a,rfl,this⟩
def j7(d:Nat):Option V->Option Int
 |none=>some d
 |some v=>Bi v
theorem ax1(d):j7 d none=some (d:Int):=rfl
theorem aGc(d k n):j7 d (some (.s (.int k n)))=some n:=rfl
def DC(sz id g off len z:Nat):Option Int->Option Int->Option V
 |some l,some h=>if 0<=l/\l<=h/\h<=len/\z=sz then some (.aB id g (off+l.toNat*sz) (h-l).toNat sz)else none
 |_,_=>none
def Mv(sz:Nat)(es:List (List V))(z:Nat):Option Int->Option Int->Option V
 |some l,some h=>if 0<=l/\l<=h/\h<=es.length/\z=sz then some (.du ((es.drop l.toNat).take (h-l).toNat) sz)else none
 |_,_=>none
def yw(v:V):Option Int->Option Int->Option V
 |some l,some h=>if l=0/\h=0 then some v else none
 |_,_=>none
def uA(sz:Nat)(v:V)(cz hi:Option V):Option V:=
 match v with
 |.s (.slice none 0 0)=>yw bz (j7 0 cz) (j7 0 hi)
 |.db=>yw .db (j7 0 cz) (j7 0 hi)
 |.du es z=>Mv sz es z (j7 0 cz) (j7 es.length hi)
 |.aB id g off len z=>DC sz id g off len z (j7 0 cz) (j7 len hi)
 |_=>none
theorem aD4(sz cz hi):uA sz bz cz hi=yw bz (j7 0 cz) (j7 0 hi):=rfl
theorem aCM(sz cz hi):uA sz .db cz hi=yw .db (j7 0 cz) (j7 0 hi):=rfl
theorem aF9(sz es z cz hi):uA sz (.du es z) cz hi=Mv sz es z (j7 0 cz) (j7 es.length hi):=rfl
theorem awv(sz id g off len z cz hi):uA sz (.aB id g off len z) cz hi=DC sz id g off len z (j7 0 cz) (j7 len hi):=rfl
theorem NZ(sz id g off len z l h):DC sz id g off len z (some l) (some h)=if 0<=l/\l<=h/\h<=len/\z=sz then some (.aB id g (off+l.toNat*sz) (h-l).toNat sz)else none:=rfl
theorem apj(sz es z l h):Mv sz es z (some l) (some h)=if 0<=l/\l<=h/\h<=es.length/\z=sz then some (.du ((es.drop l.toNat).take (h-l).toNat) sz)else none:=rfl
theorem aBc(v l h):yw v (some l) (some h)=if l=0/\h=0 then some v else none:=rfl
theorem azS(fr d o):hg fr d o=j7 d (o.map (aX fr)):=by cases o<;>rfl
def ZG(call:c5)(base fr H sz x cz hi):bf call base fr H (.ll sz x cz hi none)=ko H (uA sz (aX fr x) (cz.map (aX fr)) (hi.map (aX fr))):=by
 simp only[bf,azS];generalize aX fr x=v;generalize cz.map (aX fr)=cz;generalize hi.map (aX fr)=hi
 cases v<;>first|rfl|skip
 case s v=>
  cases v<;>first|rfl|skip
  rename_i a n m
  cases a<;>first|rfl|skip
  cases n<;>first|rfl|skip
  cases m<;>first|rfl|skip
  simp only[uA];cases j7 0 cz with
  |none=>rfl
  |some l=>cases j7 0 hi with
    |none=>simp only[yw,ko]
    |some h=>
      simp only[yw];by_cases ak:l=0
      .subst ak;by_cases hh:h=0
       .subst hh;rfl
       .simp only[hh,and_false,gx]
        split<;>first|rfl|(rename_i aF aK;cases aK;exact absurd rfl hh)
      .simp only[ak,false_and,gx]
       split<;>first|rfl|(rename_i aF aK;cases aF;exact absurd rfl ak)
 case db=>
  simp only[uA];cases j7 0 cz with
  |none=>rfl
  |some l=>cases j7 0 hi with
    |none=>simp only[yw,ko]
    |some h=>
      simp only[yw];by_cases ak:l=0
      .subst ak;by_cases hh:h=0
       .subst hh;rfl
       .simp only[hh,and_false,gx]
        split<;>first|rfl|(rename_i aF aK;cases aK;exact absurd rfl hh)
      .simp only[ak,false_and,gx]
       split<;>first|rfl|(rename_i aF aK;cases aF;exact absurd rfl ak)
 case du es z=>
  simp only[uA]
  cases j7 0 cz<;>cases j7 es.length hi<;>first|rfl|(simp only[Mv];split<;>rfl)
 case aB id g off len z=>
  simp only[uA]
  cases j7 0 cz<;>cases j7 len hi<;>first|rfl|(simp only[DC];split<;>rfl)
theorem aHP(H sz x cz hi vs):hk H (.ll sz x cz hi none) (some vs)=uA sz (aX vs x) (cz.map (aX vs)) (hi.map (aX vs)):=by
 simp only[hk,ZG];cases uA sz (aX vs x) (cz.map (aX vs)) (hi.map (aX vs))<;>rfl
def aaS(H:az)(base sz:Nat)(zero:List V)(v:V):Option az:=
 match v with
 |.s (.slice none 0 0)=>some H
 |.db=>some H
 |.aB id g off len z=>if len=0 then some H else if base<=id/\z=sz then match ao H id g with
    |some c=>if zero.length=sz/\off+len*sz<=c.length/\zero.all V.one then some (H.set id (.cells g (iy c off (List.replicate len zero).flatten)))else none
    |none=>none
   else none
 |_=>none
theorem ass(call:c5)(base fr H sz zero x):bf call base fr H (.Gl sz zero x)=S2 (aaS H base sz zero (aX fr x)):=by
 simp only[bf];generalize aX fr x=v
 cases v<;>first|rfl|skip
 case s v=>
  cases v<;>first|rfl|skip
  rename_i a n m
  cases a<;>first|rfl|skip
  cases n<;>first|rfl|skip
  cases m<;>rfl
 case aB id g off len z=>
  simp only[aaS];split
  .rfl
  .split
   .cases ao H id g with
    |none=>rfl
    |some c=>simp only[];split<;>rfl
   .rfl
theorem rD:((0:Nat):Int)=0:=rfl
theorem aD7:Int.toNat 0=0:=rfl
def Ext(b7 H:az):Prop:=∃G,H=b7++G
def Ext.refl(H):Ext H H:=⟨[],by simp⟩
def Ext.trans{A B C}(h:Ext A B)(k:Ext B C):Ext A C:=by
 obtain⟨G,rfl⟩:=h;obtain⟨K,rfl⟩:=k
 exact⟨G++K,by simp⟩
def Ext.app(H G):Ext H (H++G):=⟨G,rfl⟩
def Ext.le{A B}(h:Ext A B):A.length<=B.length:=by obtain⟨G,rfl⟩:=h;simp
def Ext.get{A B}(h:Ext A B){i}(hi:i<A.length):B[i]?=A[i]?:=by obtain⟨G,rfl⟩:=h;exact d' hi
def Ext.tT{A B}(ak:A.length<=B.length)(h:∀i,i<A.length->B[i]?=A[i]?):Ext A B:=by
 refine⟨B.drop A.length,?_⟩;refine vU fun i=>?_;by_cases hi:i<A.length
 .rw[d' hi,h i hi]
 .rw[gB (by omega),h4]
  congr 1;omega
def Ext.take{A B}(h:Ext A B){m}(hm:A.length<=m):Ext A (B.take m):=
 Ext.tT (by rw[lG];have:=h.le;omega) fun i hi=>by rw[iB (by omega),h.get hi]
theorem rW(m fr H):trim m fr H=H\/(trim m fr H=H.take m/\∀v∈fr,im m 8 v=true):=by
 unfold trim;split
 .rename_i h;simp only[dr,dU]at h;exact .inr ⟨rfl,h.1⟩
 .exact .inl rfl
def Ext.trim{A B}(h:Ext A B){m}(hm:A.length<=m)(fr):Ext A (trim m fr B):=by
 rcases rW m fr B with e|⟨e,_⟩<;>rw[e]
 .exact h
 .exact h.take hm
def Rd.ext{H H' v l}(h:Rd H v l)(k:Ext H H'):Rd H' v l:=by obtain⟨G,rfl⟩:=k;exact h.app G
def df{H H' id g c}(h:ao H id g=some c)(k:Ext H H'):ao H' id g=some c:=by obtain⟨G,rfl⟩:=k;exact LG h
def hL{H id g c}(h:ao H id g=some c):id<H.length:=by
 unfold ao at h;split at h
 .rename_i hh;exact(cC.1 hh).1
 .cases h
def dz(H g c):ao (H++[.cells g c]) H.length g=some c:=by simp[ao]
def tO{n}{dM:Env}{s v}(aq:s<n)(h:ld dM s=v):v∈au n dM:=by
 unfold au;rw[vE]
 exact⟨s,by simpa using aq,h⟩
def Og(g:Nat):bq->Option (List V)
 |.cells g' c=>if g'=g then some c else none
 |_=>none
def aBF(A bo id g):ao (A++[bo]) id g=if id=A.length then Og g bo else ao A id g:=by
 by_cases h:id=A.length
 .subst h;simp only[ao,List.getElem?_concat_length,fl];cases bo<;>rfl
 .rw[bm h];by_cases ak:id<A.length
  .simp only[ao,d' ak]
  .have J:(A++[bo])[id]?=none:=mm (by simp;omega)
   have U:A[id]?=none:=mm (by omega)
   simp only[ao,J,U]
def avW(g c):Og g (.cells g c)=some c:=by simp[Og]
def ln(A:az)(bo x:bq):(A++[bo]).set A.length x=A++[x]:=by simp
def kw(A:az)(bo:bq):(A++[bo]).length=A.length+1:=by simp
def auW(a b):(a=a+(b+1))=False:=by simp
def ao3(a b):(a+(b+1)=a)=False:=by simp
theorem Rd.one{H v l}(h:Rd H v l):v.one=true:=by
 rcases h.cases with⟨_,rfl|rfl⟩|⟨es,rfl,_⟩|⟨id,g,off,n,c,rfl,_⟩<;>rfl
theorem asQ(k n):V.one (.s (.int k n))=true:=rfl
theorem as6(b):V.one (.s (.string b))=true:=rfl
theorem auu(b):V.one (.s (.bool b))=true:=rfl
theorem ayg:V.one (.s (.slice none 0 0))=true:=rfl
theorem axQ(i g o):V.one (.ref i g o)=true:=rfl
theorem aCI(i g o l z):V.one (.aB i g o l z)=true:=rfl
theorem aCo(es z):V.one (.du es z)=true:=rfl
theorem awH:V.one .db=true:=rfl
theorem aqs(i):V.one (.mp i)=true:=rfl
theorem aqW(f a b):V.one (.fn f a b)=true:=rfl
theorem aD1(cs):V.cells (.agg cs)=cs:=rfl
theorem arE(v):V.cells (.s v)=[.s v]:=rfl
theorem aHF(i g o l z):V.cells (.aB i g o l z)=[.aB i g o l z]:=rfl
theorem avU(es z):V.cells (.du es z)=[.du es z]:=rfl
theorem aEz(i g o):V.cells (.ref i g o)=[.ref i g o]:=rfl
theorem aC0:V.cells .db=[.db]:=rfl
theorem az2(i):V.cells (.mp i)=[.mp i]:=rfl
def ym{v:V}(h:v.one=true):v.cells=[v]:=by cases v<;>first|rfl|(simp[V.one]at h;done)
theorem aGK(p:Nat->Option (Nat × Nat))(c):kv p c []=some c:=rfl
def ash(A:az)(bo x:bq)(id:Nat):(A++[bo]).set id x=if id=A.length then A++[x]else A.set id x++[bo]:=by
 by_cases h:id=A.length
 .subst h;simp
 .rw[bm h];by_cases ak:id<A.length
  .rw[DO _ _ ak]
  .rw[Kg (by simp;omega),Kg (by omega)]
theorem apx(H base n v id g off):Am H base n v (.ref id g off)=if base<=id then(match ao H id g with
 |some c=>if v.cells.length=n/\off+n<=c.length/\v.cells.all V.one then some (H.set id (.cells g (iy c off v.cells)))else none
 |none=>none)else none:=rfl
section
variable {aE:fD} {μ:dn} {ab:Nat->Prop} {w w':World} {H:az} {P:Program}
def ay9:∀(os:List Obj) (w w':World),cB aE μ ab w H->w'.heap=w.heap++os.toArray->w'.os=w.os->w'.tape=w.tape->w'.output=w.output->dm aE μ ab w H μ ab w' H:=by
 intro os
 induction os with
 |nil=>intro w w' h J U ax aY;exact KT h (by simpa using J) U ax aY
 |cons o os aw=>
   intro w w' h J U ax aY;have k:dm aE μ ab w H μ ab { w with heap:=w.heap.push o } H:=Xz h o rfl rfl rfl rfl;refine k.trans (aw _ w' k.ar ?_ U ax aY);rw[J];apply pq;simp
end
abbrev mX(sB:Nat->Option (Array Value × TypeId × Nat × Nat)):gH:=⟨fun _=>false,sB⟩
abbrev fm:gH:=mX fun _=>none
theorem aGJ(lt P)(sB:Nat->Option (Array Value × TypeId × Nat × Nat))(k):yL lt P (mX sB) k=yL lt P fm k:=rfl
def eW{P}(sB:Nat->Option (Array Value × TypeId × Nat × Nat)){lt k}{c:eI}(h:yL lt P fm k=some (false,c.ntmps,c.results,c.body.bare)):lq P (mX sB) k (.code c):=awV ((aGJ lt P sB k).trans h)
section
variable {aE:fD} {μ:dn} {ab:Nat->Prop} {w w':World} {H:az} {P:Program}
def ZM(x:Int):List Int->List Int
 | []=>[x]
 |y::l=>if x<=y then x::y::l else y::ZM x l
def XQ:List Int->List Int
 | []=>[]
 |x::l=>ZM x (XQ l)
def Hx:Value->Option (DataW Unit × List MemPlace):=fun _=>some (.nil,[])
end
def ay7(k:Int)(w:Nat):List Int:=((List.range 64).filter fun b=>w.testBit b).map fun(b:Nat)=>k*64+(b:Int)
def apV(gp:List Int)(f:Int->Nat):List Int:=(XQ gp).flatMap fun k=>ay7 k (f k)
theorem aJB(H f a b vs):hk H (.mu f a b) (some vs)=some (.fn f (a.map (aX vs)) (b.map (aX vs))):=rfl
def J4{m fr H}(h:m<=H.length):m<=(trim m fr H).length:=by
 rcases rW m fr H with e|⟨e,_⟩<;>rw[e]
 .exact h
 .rw[lG];omega
theorem B5(m fr H):trim m fr H=H\/(trim m fr H=H.take m/\(∀v∈fr,im m 8 v=true)/\∀id g c,id<m->ao H id g=some c->∀i h o n z,V.aB i h o n z∈c->i<m):=by
 unfold trim;split
 .rename_i h;simp only[dr,dU]at h;refine .inr ⟨rfl,h.1,?_⟩;intro id g c hid aa i lh o n z ae;unfold ao at aa;split at aa
  .rename_i g' c' hh;split at aa
   .cases aa
    have hm:bq.cells g' c∈H.take m:=by
     have:(H.take m)[id]?=some (bq.cells g' c):=by rw[iB hid];exact hh
     exact hR this
    have:=h.2 _ hm;simp only[bq.under,dU]at this;have:=this _ ae
    simpa[im]using this
   .cases aa
  .cases aa
 .exact .inl rfl
def Gm{m fr H id g c}(aa:ao H id g=some c)(hid:id<m):ao (trim m fr H) id g=some c:=by
 rcases B5 m fr H with e|⟨e,_⟩<;>rw[e]
 .exact aa
 .unfold ao at aa |-;rw[iB hid];exact aa
def nS(m:Nat)(H:az)(v:V)(l:List V):Prop:=(l=[]/\(v=bz\/v=.db))\/∃id g c,v=.aB id g 0 l.length 1/\ao H id g=some c/\l.length<=c.length/\c.take l.length=l/\m<=id
def nS.rd{m H v l}(h:nS m H v l):Rd H v l:=by
 rcases h with⟨rfl,rfl|rfl⟩|⟨id,g,c,rfl,aa,ak,aO,_⟩
 .exact Rd.nil H
 .exact Rd.db H
 .have:=Rd.aB aa (off:=0) (n:=l.length) (by omega)
  rwa[l3,aO]at this
def e4{H id g c c'}(h:ao H id g=some c):ao (H.set id (.cells g c')) id g=some c':=anF h _
def aux:Option (Option Nat)->Option (Option Nat)->Bool
 |some (some i),some (some j)=>i != j
 |some _,some _=>true
 |_,_=>false
def Bw(x y:b3)(fr:List V):Bool:=
 match x.place,y.place with
 |some a,some b=>aux (x.obj (aX fr a)) (y.obj (aX fr b))
 |_,_=>false
theorem Ge(ops fr i j):y8 ops fr (i,j)=Bw (ops.getD i default).op (ops.getD j default).op fr:=by
 simp only[y8,Bw];cases(ops.getD i default).op.place<;>cases(ops.getD j default).op.place<;>rfl
def aDR(b:Bool):V:=.s (.bool b)
def Ol(H:az)(base:Nat)(kind:TypeDesc)(m k v:V):Option (V × az):=
 match m,k with
  |.mp id,.s key=>if base<=id/\oO kind key then match H[id]? with
     |some (.map es)=>match pY kind key es 0 with
       |some (some (i,_))=>some (bR,H.set id (.map (es.set i (key,v))))
       |some none=>some (bR,H.set id (.map (es++[(key,v)])))
       |none=>none
     |_=>none
    else none
  |_,_=>none
theorem aCq(call:c5)(base fr H kind m k v):bf call base fr H (.l8 kind m k v)=Ol H base kind (aX fr m) (aX fr k) (aX fr v):=rfl
def aEo(H:az)(base:Nat)(kind:TypeDesc)(m k:V):Option (V × az):=
 match m,k with
  |.mp id,.s key=>if base<=id/\oO kind key then match H[id]? with
     |some (.map es)=>match pY kind key es 0 with
       |some (some (i,_))=>some (bR,H.set id (.map (es.eraseIdx i)))
       |some none=>some (bR,H)
       |none=>none
     |_=>none
    else none
  |_,_=>none
theorem axD(call:c5)(base fr H kind m k):bf call base fr H (.delete kind m k)=aEo H base kind (aX fr m) (aX fr k):=rfl
def awX{H:az}{j:Nat}{bo:bq}(h:H[j]?=some bo):H.set j bo=H:=by
 apply vU;intro i;by_cases hi:j=i
 .subst hi;rw[qq (cC.1 h).1,h]
 .rw[cf hi]
def aJD(H:az)(id:Nat):Option cJ->Option (V × az)
 |some (e,_,H)=>match H[id]? with
   |some (.loop .busy none t p a b)=>some (aL (e=.bH),H.set id (.loop (if e=.bH then .ready else .done) (Jz e) t p a b))
   |_=>none
 |none=>none
theorem azP(fr):Cw [] [] fr=some fr:=rfl
def azF(p ps v vs n)(dM:Env):Cw (p::ps) (v::vs) (au n dM)=Cw ps vs (au n (yb p v dM)):=by
 simp only[Cw,MG]
abbrev ax7:=List Int × (Int->Nat)
def el(p:ax7):List Int:=apV p.1 p.2
def UK(L:Nat)(fr:List V):Option (V × az)->Option cJ
 |some (_,H')=>match H'[L]? with
   |some (.loop .ready none _ _ _ _)=>some (.bH,fr,trim L fr (H'.set L .dead))
   |some (.loop .done (some e) _ _ _ _)=>some (e,fr,trim L fr (H'.set L .dead))
   |_=>none
 |none=>none
def Vb(call:c5)(base:Nat)(ps:List Nat)(a b:cM)(fr:List V)(H:az):V->Option cJ
 |.fn k x y=>UK H.length fr (call (.fn k x y) [.fg H.length] base (H++[.loop .ready none fr ps a b]))
 |_=>none
theorem asD(call:c5)(it:gS)(base f ps a b fr H):aC call it base (.rangeFunc f ps a b) fr H=Vb call base ps a b fr H (aX fr f):=by
 simp only[aC];cases aX fr f<;>rfl
theorem aHs(call:c5)(base ps a b fr H k x y):Vb call base ps a b fr H (.fn k x y)=UK H.length fr (call (.fn k x y) [.fg H.length] base (H++[.loop .ready none fr ps a b])):=rfl
def Oa(m0 i j:Nat)(b7 H':az):Prop:=m0<=H'.length/\∀id,id<m0->id≠i->id≠j->H'[id]?=b7[id]?
def Oa.trim{m0 i j b7 H'}(h:Oa m0 i j b7 H'){m}(hm:m0<=m)(fr):Oa m0 i j b7 (trim m fr H'):=by
 rcases B5 m fr H' with e|⟨e,_⟩<;>rw[e]
 .exact h
 .exact⟨by rw[lG];have:=h.1;omega,fun id J U ax=>by rw[iB (by omega)];exact h.2 id J U ax⟩
def andNot(a b:Nat):Nat:=a &&& (2^64-1-b)
def aA(m0:Nat)(D:List Nat)(b7 H':az):Prop:=m0<=H'.length/\∀id,id<m0->id ∉ D->H'[id]?=b7[id]?
def aA.trim{m0 D b7 H'}(h:aA m0 D b7 H'){m}(hm:m0<=m)(fr):aA m0 D b7 (trim m fr H'):=by
 rcases B5 m fr H' with e|⟨e,_⟩<;>rw[e]
 .exact h
 .exact⟨by rw[lG];have:=h.1;omega,fun id J U=>by rw[iB (by omega)];exact h.2 id J U⟩
def aA.refl(D H):aA H.length D H H:=⟨bS _,fun _ _ _=>rfl⟩
def aA.trans{m0 m1 D A B C}(h:aA m0 D A B)(k:aA m1 D B C)(hm:m0<=m1):aA m0 D A C:=⟨k9 hm k.1,fun id J U=>(k.2 id (by omega) U).trans (h.2 id J U)⟩
def aA.ao{m0 D A B}(h:aA m0 D A B){id g c}(aa:ao A id g=some c)(J:id<m0)(U:id ∉ D):ao B id g=some c:=by
 unfold Go.dO.ao at aa |-;rw[h.2 id J U];exact aa
def aA.mono{m0 D uj A B}(h:aA m0 D A B){m1}(hm:m1<=m0)(cX:∀id,id<m1->id∈D->id∈uj):aA m1 uj A B:=⟨by have:=h.1;omega,fun id J U=>h.2 id (by omega) fun ae=>U (cX id J ae)⟩
def Ext.d{A B}(h:Ext A B)(D):aA A.length D A B:=⟨h.le,fun id J _=>h.get J⟩
theorem axH(H z p ps vs):hk H (.build z p ps) (some vs)=(kv (p[·]?) z (ps.map fun q=>(q.1,aX vs q.2))).map .agg:=by
 simp only[hk,bf];cases kv (p[·]?) z (ps.map fun q=>(q.1,aX vs q.2))<;>rfl
def art:=a8 @aCq (a8 @axD (a8 @azP (a8 @azF (a8 @asD (a8 @aHs @axH)))))
def xz{w}:∀(R:List (List V)),(∀r∈R,r.length=w)->R.flatten.length=R.length*w:=by
 intro R
 induction R with
 |nil=>intro _;simp
 |cons r R aw=>
   intro h;rw[uV,fU,aw (fun x ae=>h x (hP _ ae)),h r iH,gP,sv];omega
def abH{w}:∀(R:List (List V)),(∀r∈R,r.length=w)->∀(i:Nat) (r:List V),R[i]?=some r->(R.flatten.drop (i*w)).take w=r:=by
 intro R
 induction R with
 |nil=>intro _ i r h;simp at h
 |cons s R aw=>
   intro h i r ar;have aq:=h s iH;cases i with
   |zero=>
     simp only[Da,hW]at ar;subst ar;rw[H8,l3,uV,<- aq,List.take_left]
   |succ i=>
     simp only[Av]at ar
     rw[uV,show(i+1)*w=s.length+i*w by rw[aq,sv];omega,zF,qO (by omega),km,Nat.add_sub_cancel_left]
     exact aw (fun x ae=>h x (hP _ ae)) i r ar
structure RdW (w:Nat) (H:az) (v:V) (R:List (List V)):Prop where
 el:elems H w v=some (R.length,R.flatten)
 len:h0 H .s v=some (.s (.int .i64 R.length))
 one:v.one=true
 at':∀(i:Nat) (r:List V),R[i]?=some r->∃a,j9 w v (.s (.int .i64 i))=some a/\gl H true w a=some (.agg r)/\∀(o:Nat) (x:V),r[o]?=some x->∃b,yX o a=some b/\gl H false 1 b=some x
def RdW.nil(w H):RdW w H bz []:=⟨rfl,rfl,rfl,fun i r h=>by simp at h⟩
theorem ayz{r:List V}{o:Nat}{x:V}(h:r[o]?=some x):(r.drop o).take 1=[x]:=by
 obtain⟨aT,rfl⟩:=cC.1 h;rw[hN aT];rfl
def RdW.aB{w:Nat}{H:az}{id g:Nat}{R:List (List V)}(aa:ao H id g=some R.flatten)(b8:∀r∈R,r.length=w):RdW w H (.aB id g 0 R.length w) R:=by
 have ak:=xz R b8;refine⟨?_,rfl,rfl,fun i r h=>?_⟩
 .simp only[elems,fl,aa,l3,<- ak,Fm]
 .have ar:=b8 r (hR h);have hi:=(cC.1 h).1;have bb:=abH R b8 i r h;refine⟨.ref id g (0+i*w),?_,?_,fun o x ae=>⟨.ref id g (0+i*w+o),rfl,?_⟩⟩
  .rw[sX,a' ⟨by omega,by omega,rfl⟩,oH]
  .rw[lW,aa,j2];simp only[bb,ar,fl,aeH]
  .have aT:=(cC.1 ae).1
   have e:(R.flatten.drop (0+i*w+o)).take 1=[x]:=by
    have U:=ayz ae
    rw[<- bb,List.drop_take,nL,List.take_take,EK (by omega)]at U
    rw[j2];exact U
   rw[lW,aa];simp only[e,bi,fl,acR]
def cp(m w:Nat)(H:az)(v:V)(R:List (List V)):Prop:=(∀r∈R,r.length=w)/\((R=[]/\v=bz)\/∃id g,v=.aB id g 0 R.length w/\ao H id g=some R.flatten/\m<=id)
def cp.start(m w H):cp m w H bz []:=⟨fun r h=>by simp at h,.inl ⟨rfl,rfl⟩⟩
def cp.rd{m w H v R}(h:cp m w H v R):RdW w H v R:=by
 obtain⟨b8,⟨rfl,rfl⟩|⟨id,g,rfl,aa,_⟩⟩:=h
 .exact RdW.nil w H
 .exact RdW.aB aa b8
def cp.bT{m w H H' v R}(h:cp m w H v R)(an:∀id g n,v=.aB id g 0 n w->H'[id]?=H[id]?):cp m w H' v R:=by
 obtain⟨b8,h|⟨id,g,rfl,aa,hm⟩⟩:=h
 .exact⟨b8,.inl h⟩
 .refine⟨b8,.inr ⟨id,g,rfl,?_,hm⟩⟩;unfold ao at aa |-;rw[an id g _ rfl];exact aa
def cp.lt{m w H v R}(h:cp m w H v R):∀id g n,v=.aB id g 0 n w->id<H.length:=by
 obtain⟨_,⟨_,rfl⟩|⟨id,g,rfl,aa,hm⟩⟩:=h
 .intro id g n e;cases e
 .intro eX g' n e;cases e;exact hL aa
theorem cp.append{m w H v R}(h:cp m w H v R){base bytes}(af:base<=m)(hm:m<=H.length){S}(e5:∀r∈S,r.length=w)(a1:S≠[]){x}(ae:elems H w x=some (S.length,S.flatten))(aT:S.flatten.all V.one=true)(aq:(R.length+S.length)*bytes<=2^47):
 ∃dQ H',gW H base w bytes v x=some (dQ,H')/\cp m w H' dQ (R++S)/\H.length<=H'.length/\(∀id,id<H.length->(∀g n,v≠.aB id g 0 n w)->H'[id]?=H[id]?):=by
 have aN:¬S.length=0:=fun e=>a1 (lO e);have aKi:∀r∈R++S,r.length=w->r.length=w:=fun _ _ e=>e
 obtain⟨b8,⟨rfl,rfl⟩|⟨id,g,rfl,aa,hid⟩⟩:=h
 .have hC:S.length*bytes<=2^47:=by simpa using aq
  refine⟨.aB H.length 0 0 S.length w,H++[.cells 0 S.flatten],?_,⟨?_,.inr ⟨H.length,0,by simp,?_,hm⟩⟩,by simp,fun id hid _=>d' hid⟩
  .simp only[gW,ae,aT,fl,bz,aN,gx,hC]
  .simpa using e5
  .rw[km];exact dz H 0 _
 .have bt:=hL aa
  have iZ:base<=id:=by omega
  have ak:=xz R b8
  refine⟨.aB id (g+1) 0 (R.length+S.length) w,H.set id (.cells (g+1) (R.flatten++S.flatten)),?_,⟨?_,.inr ⟨id,g+1,by simp,?_,hid⟩⟩,by simp,fun eX IC dq=>?_⟩
  .have U:0+R.length*w<=R.flatten.length:=by omega
   simp only[gW,ae,aT,fl,wR,iZ,aa,U,aN,gx,aq,l3]
   rw[wW (by omega)]
  .intro r ar
   rcases l1.1 ar with ar|ar
   .exact b8 r ar
   .exact e5 r ar
  .rw[tl];exact anF aa _
  .rw[cf];rintro rfl;exact dq g _ rfl
def cp.arN{m w L H v R}(h:cp m w H v R)(a1:R≠[])(dw:L<=m){fr}(av:v∈fr):trim L fr H=H:=by
 obtain⟨_,⟨rfl,_⟩|⟨id,g,rfl,aa,hid⟩⟩:=h
 .exact absurd rfl a1
 .rcases rW L fr H with e|⟨_,hu⟩
  .exact e
  .have:=hu _ av;simp only[im,lm]at this;omega
def cp.rW{m w L H v R}(h:cp m w H v R)(dw:L<=m){fr}(av:v∈fr):R=[]/\v=bz\/trim L fr H=H:=by
 obtain⟨_,h|⟨id,g,rfl,aa,hid⟩⟩:=h
 .exact .inl h
 .rcases Go.dO.rW L fr H with e|⟨_,hu⟩
  .exact .inr e
  .have:=hu _ av;simp only[im,lm]at this;omega
def tQ(m fr H){id}(h:id<m):(trim m fr H)[id]?=H[id]?:=by
 rcases Go.dO.rW m fr H with e|⟨e,_⟩
 .rw[e]
 .rw[e,iB h]
theorem af6(m fr H):trim m fr H=H\/(trim m fr H=H.take m/\(∀v∈fr,im m 8 v=true)/\∀id g c,id<m->ao H id g=some c->∀v∈c,im m 8 v=true):=by
 unfold trim;split
 .rename_i h;rw[dr,dU,dU]at h;refine .inr ⟨rfl,h.1,fun id g c hid aa v av=>?_⟩;unfold ao at aa;cases aT:H[id]? with
  |none=>rw[aT]at aa;cases aa
  |some o=>
    rw[aT]at aa
    have hm:o∈H.take m:=hR (i:=id) (by rw[iB hid];exact aT)
    have:=h.2 o hm;cases o with
    |cells g2 cN=>
      dsimp only at aa;split at aa
      .cases aa;simp only[bq.under,dU]at this;exact this v av
      .cases aa
    |map _=>cases aa
    |loop _ _ _ _ _ _=>cases aa
    |dead=>cases aa
    |bytes _ _=>cases aa
 .exact .inl rfl
def F9{S T:Type}(n)(P:Nat->S->Prop)(X:Nat->S->T)(step:∀i s,i<n->P i s->∃lQ,X i s=X (i+1) lQ/\P (i+1) lQ):∀i s,i<=n->P i s->∃lQ,X i s=X n lQ/\P n lQ:=by
 have key:∀d i s,i+d=n->P i s->∃lQ,X i s=X n lQ/\P n lQ:=by
  intro d
  induction d with
  |zero=>
    intro i s hi aj
    obtain rfl:i=n:=by omega
    exact⟨s,rfl,aj⟩
  |succ d aw=>
    intro i s hi aj
    obtain⟨s1,J,U⟩:=step i s (by omega) aj
    obtain⟨s2,ax,aY⟩:=aw (i+1) s1 (by omega) U
    exact⟨s2,J.trans ax,aY⟩
 exact fun i s hi aj=>key (n-i) i s (by omega) aj
def azI{T:Type}(n)(X:Nat->T)(step:∀i,i<n->X i=X (i+1)):∀i,i<=n->X i=X n:=by
 intro i hi;obtain⟨_,h,_⟩:=F9 (S:=Unit) n (fun _ _=>True) (fun i _=>X i) (fun i s h _=>⟨(),step i h,trivial⟩) i () hi trivial;exact h
theorem R0{α:Type}{l:List α}{k}(h:k<l.length)(d:α):l[k]?=some (l.getD k d):=by rw[List.getD,dy h];rfl
section
variable {Qz:Type} [DecidableEq Qz]
end
def yr{n:Nat}(h:n<2^62):IntKind.i64.wrap ((n:Int)+1)=((n+1:Nat):Int):=by rw[IntKind.wrap_i64];omega
def aEs(a b):Instr.sameNow .string (.string a) (.string b)=some (decide (a=b)):=by
 have h:(a==b)=decide (a=b):=by
  by_cases e:a=b
  .subst e;rw[u1 rfl,beq_toListBytes];simp
  .rw[tD e,beq_toListBytes];rw[eZ];exact fun h=>e (toList_inj h)
 simp only[Instr.sameNow,h]
def Kq{H H'}(k:Ext H H'){b g n x}(ae:gl H g n b=some x):gl H' g n b=some x:=by
 cases b with
 |ref i j o=>
   rw[lW]at ae |-;cases aa:ao H i j with
   |none=>rw[aa]at ae;cases ae
   |some c=>rw[aa]at ae;rw[df aa k];exact ae
 |_=>exact ae
def RdW.P6{w H H' v R}(h:RdW w H v R)(k:Ext H H'):RdW w H' v R:=by
 refine⟨?_,?_,h.one,?_⟩
 .have he:=h.el;unfold elems at he |-;split<;>simp only at he |-
  all_goals first|exact he|skip
  all_goals
   split at he
   .rename_i e;rw[a' e];cases aa:ao H _ _ with
    |none=>rw[aa]at he;cases he
    |some c=>rw[aa]at he;rw[df aa k];exact he
   .cases he
 .have ak:=h.len;have he:=h.el;unfold elems at he
  split at he<;>simp only[h0]at ak |-<;>first|exact ak|cases he
 .intro i r ar;obtain⟨a,J,U,ax⟩:=h.at' i r ar
  have pS:∀(b:V) (g:Bool) (n:Nat) (x:V),gl H g n b=some x->gl H' g n b=some x:=by
   intro b g n x ae;cases b with
   |ref i j o=>
     rw[lW]at ae |-;cases aa:ao H i j with
     |none=>rw[aa]at ae;cases ae
     |some c=>rw[aa]at ae;rw[df aa k];exact ae
   |_=>exact ae
  exact⟨a,J,pS _ _ _ _ U,fun o x ae=>by obtain⟨b,dA,cV⟩:=ax o x ae;exact⟨b,dA,pS _ _ _ _ cV⟩⟩
section
variable {Qz:Type} [DecidableEq Qz]
end
end Go.dO
set_option maxRecDepth 100000
namespace Go.Proofs.YtbocmenkkjbigaaDoor
open Go.dO
abbrev a7(b:ByteArray):V:=.s (.string b)
abbrev bg(n:Int):V:=.s (.int .i64 n)
structure gf where
 op:Int
 d:ByteArray
 a:ByteArray
 b:ByteArray
 k:Int
 f:ByteArray
 xs:List ByteArray
 ls:List ByteArray
structure mY where
 label:ByteArray
 code:List gf
structure hv where
 name:ByteArray
 ps:List ByteArray
 blocks:List mY
def iC:gf:=⟨0,⟨#[]⟩,⟨#[]⟩,⟨#[]⟩,0,⟨#[]⟩,[],[]⟩
def Ew:hv:=⟨⟨#[]⟩,[],[]⟩
def hF(v:V):Prop:=∀es z,v≠.du es z
def hF.w{v}(h:hF v):Sh v:=by
 cases v<;>first|trivial|exact absurd rfl (h _ _)
def nS.Er{m H v l}(h:nS m H v l):hF v:=by
 rcases h with⟨_,rfl|rfl⟩|⟨_,_,_,rfl,_⟩<;>exact fun _ _ e=>by cases e
structure zs (w:Nat) (H:az) (v:V) (R:List (List V)):Prop extends RdW w H v R where
 Iw:hF v
def zs.P6{w H H' v R}(h:zs w H v R)(k:Ext H H'):zs w H' v R:=⟨h.toRdW.P6 k,h.Iw⟩
def cp.rx{m w H v R}(h:cp m w H v R):zs w H v R:=⟨h.rd,by
 obtain⟨_,⟨_,rfl⟩|⟨_,_,rfl,_⟩⟩:=h<;>exact fun _ _ e=>by cases e⟩
def zs.aB{w H id g R}(aa:ao H id g=some R.flatten)(b8:∀r∈R,r.length=w):zs w H (.aB id g 0 R.length w) R:=⟨RdW.aB aa b8,fun _ _ e=>by cases e⟩
def dL(x:gf)(cd bB:V):List V:=[.s (.int .u8 x.op),a7 x.d,a7 x.a,a7 x.b,.s (.int .i64 x.k),a7 x.f,cd,bB]
def la(H:az)(r:List V)(x:gf):Prop:=∃cd bB,r=dL x cd bB/\Rd H cd (x.xs.map a7)/\hF cd/\Rd H bB (x.ls.map a7)/\hF bB/\x.xs.length<2^63/\x.ls.length<2^63
def ga{α:Type}(w:Nat)(P:az->List V->α->Prop)(H:az)(v:V)(l:List α):Prop:=∃R:List (List V),zs w H v R/\R.length=l.length/\l.length<2^63/\∀(i:Nat) (x:α),l[i]?=some x->∃r:List V,R[i]?=some r/\P H r x
def q8(H:az)(r:List V)(b:mY):Prop:=∃bZ,r=[a7 b.label,bZ]/\ga 8 la H bZ b.code
def qG(H:az)(r:List V)(f:hv):Prop:=∃pv bv,r=[a7 f.name,pv,bv]/\Rd H pv (f.ps.map a7)/\hF pv/\f.ps.length<2^63/\ga 2 q8 H bv f.blocks
abbrev pB:az->V->List hv->Prop:=ga 3 qG
def la.ext{H H' r x}(h:la H r x)(k:Ext H H'):la H' r x:=by
 obtain⟨cd,bB,J,U,ax,aY,cl,eM⟩:=h;exact⟨cd,bB,J,U.ext k,ax,aY.ext k,cl,eM⟩
def ga.ext{α:Type}{w}{P:az->List V->α->Prop}(aS:∀{H H' r x},P H r x->Ext H H'->P H' r x){H H' v}{l:List α}(h:ga w P H v l)(k:Ext H H'):ga w P H' v l:=by
 obtain⟨R,J,U,ax,aY⟩:=h
 exact⟨R,J.P6 k,U,ax,fun i x ae=>by obtain⟨r,bC,bP⟩:=aY i x ae;exact⟨r,bC,aS bP k⟩⟩
def q8.ext{H H' r b}(h:q8 H r b)(k:Ext H H'):q8 H' r b:=by
 obtain⟨bZ,J,U⟩:=h;exact⟨bZ,J,ga.ext (P:=la) la.ext U k⟩
def qG.ext{H H' r f}(h:qG H r f)(k:Ext H H'):qG H' r f:=by
 obtain⟨pv,bv,J,U,ax,aY,cl⟩:=h;exact⟨pv,bv,J,U.ext k,ax,aY,ga.ext (P:=q8) q8.ext cl k⟩
def pB.ext{H H' v bG}(h:pB H v bG)(k:Ext H H'):pB H' v bG:=ga.ext (P:=qG) qG.ext h k
def ga.len{α:Type}{w}{P:az->List V->α->Prop}{H v}{l:List α}(h:ga w P H v l):h0 H .s v=some (.s (.int .i64 l.length)):=by
 obtain⟨R,J,U,_⟩:=h;rw[J.len,U]
def ga.one{α:Type}{w}{P:az->List V->α->Prop}{H v}{l:List α}(h:ga w P H v l):v.one=true:=by
 obtain⟨R,J,_⟩:=h;exact J.one
def ga.pC{α:Type}{w:Nat}{P:az->List V->α->Prop}{H v}{l:List α}(h:ga w P H v l){i:Nat}{x:α}(ae:l[i]?=some x):∃a r,j9 w v (.s (.int .i64 i))=some a/\P H r x/\(∀H',Ext H H'->gl H' true w a=some (.agg r))/\∀(o:Nat) (y:V),r[o]?=some y->∃b,yX o a=some b/\∀H',Ext H H'->gl H' false 1 b=some y:=by
 obtain⟨R,J,U,ax,aY⟩:=h;obtain⟨r,bC,bP⟩:=aY i x ae;obtain⟨a,cy,a2,a3⟩:=J.at' i r bC
 exact⟨a,r,cy,bP,fun H' k=>Kq k a2,fun o y bA=>by obtain⟨b,dA,cV⟩:=a3 o y bA;exact⟨b,dA,fun H' k=>Kq k cV⟩⟩
def HP{H:az}{v:V}{l:List ByteArray}(h:Rd H v (l.map a7))(hw:hF v){k:Nat}(an:k<l.length):∃a,j9 1 v (.s (.int .i64 k))=some a/\gl H false 1 a=some (.s (.string (l.getD k ⟨#[]⟩))):=
 h.at' hw.w (by rw[oi,R0 an ⟨#[]⟩];rfl)
def Fx{H:az}{v:V}{l:List ByteArray}(h:Rd H v (l.map a7)):h0 H .s v=some (.s (.int .i64 l.length)):=by
 have:=h.len
 rwa[zw]at this
end Go.Proofs.YtbocmenkkjbigaaDoor
namespace Go.dO.Tok
def ba(p:UInt8->Bool):List UInt8->Nat
 | []=>0
 |c::l=>if p c then ba p l+1 else 0
def sD(p:UInt8->Bool):∀l,ba p l<=l.length
 | []=>bS _
 |c::l=>by
   unfold ba;split
   .exact Nat.succ_le_succ (sD p l)
   .exact fa _
def blank(c:UInt8):Bool:=c==32||c==9||c==13||c==10
def letter(c:UInt8):Bool:=decide (97<=c.toNat)&&decide (c.toNat<=122)||decide (65<=c.toNat)&&decide (c.toNat<=90)||c==95
def digit(c:UInt8):Bool:=decide (48<=c.toNat)&&decide (c.toNat<=57)
def within(c:UInt8):Bool:=letter c||digit c||c==46
def other(c:UInt8):Bool:=c != 10
def sign(c:UInt8):Bool:=c==61||c==44||c==58||c==40||c==41||c==123||c==125||c==91||c==93
structure T where
 kind:Nat
 text:List UInt8
 n:Nat
 line:Nat
 jB:Nat
 deriving DecidableEq,Inhabited
inductive Out where
 |done (ts:List T)
 |bad (e line jB:Nat)
 deriving DecidableEq,Inhabited
def Out.cons(t:T):Out->Out
 |.done ts=>.done (t::ts)
 |.bad e a b=>.bad e a b
def val(l:List UInt8):Nat:=l.foldl (fun n c=>n*10+(c.toNat-48)) 0
def lex(l:List UInt8)(a6 aZ:Nat):Out:=
 match l with
 | []=>.done [⟨4,[],0,a6,aZ⟩]
 |c::l=>
   if blank c then(if c=10 then lex l (a6+1) 1 else lex l a6 (aZ+1))
   else if c=59 then lex (l.drop (ba other l)) a6 (aZ+(ba other l+1))
   else if letter c then(lex (l.drop (ba within l)) a6 (aZ+(ba within l+1))).cons ⟨1,c::l.take (ba within l),0,a6,aZ⟩
   else if digit c then
    if 9<ba digit l+1\/(1<ba digit l+1/\c=48)\/ba digit l<ba within l then .bad 31 a6 aZ
    else(lex (l.drop (ba digit l)) a6 (aZ+(ba digit l+1))).cons ⟨2,c::l.take (ba digit l),val (c::l.take (ba digit l)),a6,aZ⟩
   else if sign c then(lex l a6 (aZ+1)).cons ⟨3,[c],0,a6,aZ⟩
   else .bad 30 a6 aZ
termination_by l.length
decreasing_by all_goals simp only[gP,fJ];omega
def lex_nil(a6 aZ):lex [] a6 aZ=.done [⟨4,[],0,a6,aZ⟩]:=by rw[lex]
def sq(c l a6 aZ):lex (c::l) a6 aZ=
 if blank c then(if c=10 then lex l (a6+1) 1 else lex l a6 (aZ+1))
 else if c=59 then lex (l.drop (ba other l)) a6 (aZ+(ba other l+1))
 else if letter c then(lex (l.drop (ba within l)) a6 (aZ+(ba within l+1))).cons ⟨1,c::l.take (ba within l),0,a6,aZ⟩
 else if digit c then
  if 9<ba digit l+1\/(1<ba digit l+1/\c=48)\/ba digit l<ba within l then .bad 31 a6 aZ
  else(lex (l.drop (ba digit l)) a6 (aZ+(ba digit l+1))).cons ⟨2,c::l.take (ba digit l),val (c::l.take (ba digit l)),a6,aZ⟩
 else if sign c then(lex l a6 (aZ+1)).cons ⟨3,[c],0,a6,aZ⟩
 else .bad 30 a6 aZ:=by rw[lex]
def e2:List UInt8->Nat × Nat->Nat × Nat
 | [],p=>p
 |c::l,p=>e2 l (if c=10 then(p.1+1,1)else(p.1,p.2+1))
def BA:∀(a b:List UInt8) (p:Nat × Nat),e2 (a++b) p=e2 b (e2 a p)
 | [],_,_=>rfl
 |c::a,b,p=>by simp only[h5,e2,BA a b]
def ur:∀(l:List UInt8) (p:Nat × Nat),(∀c∈l,c≠10)->e2 l p=(p.1,p.2+l.length)
 | [],p,_=>rfl
 |c::l,p,h=>by
   simp only[e2,h c iH,gx];rw[ur l _ fun x ae=>h x (hP _ ae)];simp only[gP];rw[tF,Nat.add_comm 1]
def GP(p:UInt8->Bool):∀(l:List UInt8),∀c∈l.take (ba p l),p c=true
 | []=>by simp
 |x::l=>by
   intro c aa;unfold ba at aa;split at aa
   .rename_i ae;rw[fI,kf]at aa
    rcases aa with rfl|aa
    .exact ae
    .exact GP p l c aa
   .simp at aa
def Kh(p:UInt8->Bool):∀(l:List UInt8) {c:UInt8} {m:List UInt8},l.drop (ba p l)=c::m->p c=false
 | [],c,m,h=>by simp at h
 |x::l,c,m,h=>by
   unfold ba at h;split at h
   .rw[B4]at h;exact Kh p l h
   .rename_i ae;rw[l3]at h;cases h
    simpa using ae
def Re(p:UInt8->Bool):∀(a b:List UInt8),(∀c∈a,p c=true)->ba p (a++b)=a.length+ba p b
 | [],b,_=>by simp
 |c::a,b,h=>by
   simp only[h5,ba,h c iH,fl,gP];rw[Re p a b fun x ae=>h x (hP _ ae)];omega
def qn(p:UInt8->Bool)(l):(l.take (ba p l)).length=ba p l:=by rw[lG,EK (sD p l)]
def vL{c:UInt8}(p:UInt8->Bool)(aj:p 10=false)(l:List UInt8)(aa:c≠10):∀x∈c::l.take (ba p l),x≠10:=by
 intro x ae
 rcases kf.1 ae with rfl|ae
 .exact aa
 .rintro rfl;rw[GP p l _ ae]at aj;cases aj
def pw:Bool->List UInt8->Bool
 |_,[]=>true
 |aq8,c::l=>
   let a:=if c=59 then true else aq8
   let b:=if c=10 then false else a
   (b||blank c)&&pw b l
def adD:∀(a b:List UInt8),(∀c∈a,c≠10)->pw true (a++b)=pw true b
 | [],b,_=>rfl
 |c::a,b,h=>by
   have gm:=h c iH;simp only[h5,pw,gm,gx]
   have:(if c=59 then true else true)=true:=by split<;>rfl
   simp only[this,tU,px];exact adD a b fun x ae=>h x (hP _ ae)
def aIK(b):pw true (10::b)=pw false (10::b):=by simp[pw]
inductive kC:List UInt8->Nat × Nat->List T->Prop
 |last (g:List UInt8) (p:Nat × Nat):pw false g=true->kC g p [⟨4,[],0,(e2 g p).1,(e2 g p).2⟩]
 |word (g r:List UInt8) (p:Nat × Nat) (t:T) (ts:List T):pw false g=true->(t.line,t.jB)=e2 g p->t.kind≠4->t.text≠[]->kC r (e2 t.text (e2 g p)) ts->kC (g++(t.text++r)) p (t::ts)
def kC.awb{c l p}{ts:List T}(af:blank c=true)(h:kC l (if c=10 then(p.1+1,1)else(p.1,p.2+1)) ts):kC (c::l) p ts:=by
 have eR:c≠59:=by rintro rfl;revert af;decide
 have bb:∀g,pw false (c::g)=pw false g:=by
  intro g;simp only[pw,eR,gx]
  have:(if c=10 then false else false)=false:=by split<;>rfl
  simp only[this,af,B8,px]
 generalize bD:(if c=10 then(p.1+1,1)else(p.1,p.2+1))=q at h
 cases h with
 |last g _ h=>
   have:=kC.last (c::l) p (by rw[bb];exact h)
   rw[e2,bD]at this;exact this
 |word g r _ t ts J U ax aY cl=>
   have:=kC.word (c::g) r p t ts (by rw[bb];exact J) (by rw[e2,bD];exact U) ax aY (by rw[e2,bD];exact cl)
   rw[h5]at this;exact this
def kC.comm{a l p}{ts:List T}(aD:∀x∈a,x≠10)(ak:l=[]\/∃m,l=10::m)(h:kC l (e2 (59::a) p) ts):kC (59::(a++l)) p ts:=by
 have bb:∀g,(g=[]\/∃m,g=10::m)->pw false (59::(a++g))=pw false g:=by
  intro g bb
  have:pw false (59::(a++g))=pw true (a++g):=by simp[pw]
  rw[this,adD a g aD]
  rcases bb with rfl|⟨m,rfl⟩
  .rfl
  .exact aIK m
 generalize bD:e2 (59::a) p=q at h
 have aq:∀g,e2 (59::(a++g)) p=e2 g q:=by
  intro g;rw[show 59::(a++g)=(59::a)++g from rfl,BA,bD]
 cases h with
 |last g _ h=>
   have:=kC.last (59::(a++l)) p (by rw[bb _ ak];exact h)
   rw[aq]at this;exact this
 |word g r _ t ts J U ax aY cl=>
   have u6:g=[]\/∃m,g=10::m:=by
    cases g with
    |nil=>exact .inl rfl
    |cons x g=>
      rcases ak with ak|⟨m,ak⟩
      .cases ak
      .cases ak;exact .inr ⟨g,rfl⟩
   have:=kC.word (59::(a++g)) r p t ts (by rw[bb _ u6];exact J) (by rw[aq];exact U) ax aY (by rw[aq];exact cl)
   rw[show 59::(a++g)++(t.text++r)=59::(a++(g++(t.text++r))) by simp]at this
   exact this
def ys{t:T}{o:Out}{ts:List T}(h:Out.cons t o=.done ts):∃us,o=.done us/\ts=t::us:=by
 cases o with
 |done us=>cases h;exact⟨us,rfl,rfl⟩
 |bad=>cases h
theorem RV{t:T}{o:Out}{e a b}(h:Out.cons t o=.bad e a b):o=.bad e a b:=by
 cases o with
 |done us=>cases h
 |bad=>cases h;rfl
def kC.next{c l x k n p}{us:List T}(an:k≠4)(aa:∀y∈c::x,y≠10)(h:kC l (p.1,p.2+(x.length+1)) us):kC (c::(x++l)) p (⟨k,c::x,n,p.1,p.2⟩::us):=by
 have:=kC.word [] l p ⟨k,c::x,n,p.1,p.2⟩ us rfl rfl an (by simp) (by rw[ur _ _ aa];exact h)
 simpa using this
def s3:∀{c:UInt8},(letter c=true\/digit c=true\/sign c=true)->c≠10:=by
 rintro c h rfl;revert h;decide
def aKm:∀(n:Nat) (l:List UInt8) (p:Nat × Nat) (ts:List T),l.length<=n->lex l p.1 p.2=.done ts->kC l p ts:=by
 intro n
 induction n with
 |zero=>
   intro l p ts h e
   obtain rfl:l=[]:=lO (by omega)
   rw[lex_nil]at e;cases e;exact kC.last [] p rfl
 |succ n aw=>
   intro l p ts h e;cases l with
   |nil=>
     rw[lex_nil]at e;cases e;exact kC.last [] p rfl
   |cons c l=>
     have ak:l.length<=n:=by simpa using h
     have aQ:∀m,(l.drop m).length<=n:=fun m=>by rw[fJ];omega
     rw[sq]at e;split at e
     .rename_i af;refine kC.awb af ?_;split at e
      .rename_i gm;rw[a' gm];exact aw _ (p.1+1,1) _ ak e
      .rename_i gm;rw[bm gm];exact aw _ (p.1,p.2+1) _ ak e
     .split at e
      .rename_i eR;subst eR;have:=aw _ (p.1,p.2+(ba other l+1)) _ (aQ _) e;rw[<- vO (ba other l) l]
       have aN:=vL (c:=59) other (by decide) l (by decide)
       refine kC.comm (fun x ae=>aN x (hP _ ae)) ?_ ?_
       .cases ae:l.drop (ba other l)with
        |nil=>exact .inl rfl
        |cons c m=>
          have:=Kh other l ae
          exact .inr ⟨m,by rw[show c=10 by simpa[other]using this]⟩
       .rw[ur _ _ aN,gP,qn];exact this
      .split at e
       .rename_i af eR bt;obtain⟨us,aF,rfl⟩:=ys e;have:=aw _ (p.1,p.2+(ba within l+1)) _ (aQ _) aF
        have U:=kC.next (c:=c) (x:=l.take (ba within l)) (k:=1) (n:=0) (p:=p) (by decide) (vL within (by decide) l (s3 (.inl bt))) (by rw[qn];exact this)
        rwa[vO]at U
       .split at e
        .rename_i af eR bt fk;split at e
         .cases e
         .obtain⟨us,aF,rfl⟩:=ys e;have:=aw _ (p.1,p.2+(ba digit l+1)) _ (aQ _) aF
          have U:=kC.next (c:=c) (x:=l.take (ba digit l)) (k:=2) (n:=val (c::l.take (ba digit l))) (p:=p) (by decide) (vL digit (by decide) l (s3 (.inr (.inl fk)))) (by rw[qn];exact this)
          rwa[vO]at U
        .split at e
         .rename_i af eR bt fk aq;obtain⟨us,aF,rfl⟩:=ys e;have:=aw _ (p.1,p.2+1) _ ak aF
          exact kC.next (c:=c) (x:=[]) (k:=3) (n:=0) (p:=p) (by decide) (by simpa using s3 (.inr (.inr aq))) this
         .cases e
def Oc(p:UInt8->Bool):∀(l u v:List UInt8),l.drop (ba p l)=u++v->ba p (l.take (ba p l)++u)=ba p l:=by
 intro l u v h;rw[Re p _ _ (GP p l),qn];cases u with
 |nil=>rfl
 |cons c u=>
   have:=Kh p l (by rw[h];rfl)
   simp[ba,this]
def Ul(p:UInt8->Bool):∀(a b:List UInt8),ba p a<=ba p (a++b)
 | [],b=>fa _
 |c::a,b=>by
   simp only[h5,ba];split
   .exact Nat.succ_le_succ (Ul p a b)
   .exact fa _
def Out.ok:Out->Bool
 |.done _=>true
 |.bad _ _ _=>false
theorem Ts(t:T)(o:Out):(Out.cons t o).ok=o.ok:=by cases o<;>rfl
theorem aeF(a6 aZ):(lex [] a6 aZ).ok=true:=by rw[lex_nil];rfl
def azC(l:List UInt8)(p:Nat × Nat)(e a b:Nat):Prop:=(e=30\/e=31)/\∃u v,l=u++v/\v≠[]/\(lex u p.1 p.2).ok=true/\(a,b)=e2 u p
def aAM:∀(n:Nat) (l:List UInt8) (p:Nat × Nat) (e a b:Nat),l.length<=n->lex l p.1 p.2=.bad e a b->azC l p e a b:=by
 intro n
 induction n with
 |zero=>
   intro l p e a b h he
   obtain rfl:l=[]:=lO (by omega)
   rw[lex_nil]at he;cases he
 |succ n aw=>
   intro l p e a b h he;cases l with
   |nil=>rw[lex_nil]at he;cases he
   |cons c l=>
     have ak:l.length<=n:=by simpa using h
     have aQ:∀m,(l.drop m).length<=n:=fun m=>by rw[fJ];omega
     have hh:=he;rw[sq]at he;split at he
     .rename_i af;split at he
      .rename_i gm;obtain⟨J,u,v,rfl,ax,aY,cl⟩:=aw _ (p.1+1,1) _ _ _ ak he
       exact⟨J,c::u,v,rfl,ax,by rw[sq,a' af,a' gm];exact aY,by rw[cl,e2,a' gm]⟩
      .rename_i gm;obtain⟨J,u,v,rfl,ax,aY,cl⟩:=aw _ (p.1,p.2+1) _ _ _ ak he
       exact⟨J,c::u,v,rfl,ax,by rw[sq,a' af,bm gm];exact aY,by rw[cl,e2,bm gm]⟩
     .rename_i af;split at he
      .rename_i eR;obtain⟨J,u,v,U,ax,aY,cl⟩:=aw _ (p.1,p.2+(ba other l+1)) _ _ _ (aQ _) he;have al:=Oc other l u v U;refine⟨J,c::(l.take (ba other l)++u),v,?_,ax,?_,?_⟩
       .rw[h5,kG,<- U,vO]
       .rw[sq,bm af,a' eR,al];rw[List.drop_left' (qn other l)];exact aY
       .rw[cl,<- h5,BA,ur (c::l.take (ba other l)) p (vL other (by decide) l (by rw[eR];decide)),gP,qn]
      .rename_i eR
       have Fu:∀(q:UInt8->Bool) (u:List UInt8),(l.take (ba q l)++u).drop (ba q l)=u:=by
        exact fun q u=>List.drop_left' (qn q l)
       split at he
       .rename_i bt;obtain⟨J,u,v,U,ax,aY,cl⟩:=aw _ (p.1,p.2+(ba within l+1)) _ _ _ (aQ _) (RV he);have al:=Oc within l u v U;have fi:=Fu within u;refine⟨J,c::(l.take (ba within l)++u),v,?_,ax,?_,?_⟩
        .rw[h5,kG,<- U,vO]
        .rw[sq,bm af,bm eR,a' bt,al,fi,Ts];exact aY
        .rw[cl,<- h5,BA,ur (c::l.take (ba within l)) p (vL within (by decide) l (s3 (.inl bt))),gP,qn]
       .rename_i bt;split at he
        .rename_i fk;split at he
         .rename_i gi;cases he
          exact⟨.inr rfl,[],c::l,rfl,by simp,aeF _ _,rfl⟩
         .rename_i gi;obtain⟨J,u,v,U,ax,aY,cl⟩:=aw _ (p.1,p.2+(ba digit l+1)) _ _ _ (aQ _) (RV he);have al:=Oc digit l u v U;have fi:=Fu digit u
          have hm:ba within (l.take (ba digit l)++u)<=ba within l:=by
           have:=Ul within (l.take (ba digit l)++u) v;rw[kG,<- U,vO]at this;exact this
          refine⟨J,c::(l.take (ba digit l)++u),v,?_,ax,?_,?_⟩
          .rw[h5,kG,<- U,vO]
          .rw[sq,bm af,bm eR,bm bt,a' fk,bm (fun ae=>gi (by rw[al]at ae;exact ae.imp id (Or.imp id fun h=>by omega))),al,fi,Ts];exact aY
          .rw[cl,<- h5,BA,ur (c::l.take (ba digit l)) p (vL digit (by decide) l (s3 (.inr (.inl fk)))),gP,qn]
        .rename_i fk;split at he
         .rename_i aq;obtain⟨J,u,v,rfl,ax,aY,cl⟩:=aw _ (p.1,p.2+1) _ _ _ ak (RV he);refine⟨J,c::u,v,rfl,ax,?_,?_⟩
          .rw[sq,bm af,bm eR,bm bt,bm fk,a' aq,Ts];exact aY
          .rw[cl,e2,bm (s3 (.inr (.inr aq)))]
         .cases he
          exact⟨.inl rfl,[],c::l,rfl,by simp,aeF _ _,rfl⟩
end Go.dO.Tok
set_option maxRecDepth 100000
namespace Go.Proofs.YtbocmenkkjbigaaDoor
open Go.dO
structure aJ where
 kind:Nat->Nat
 text:Nat->List UInt8
 num:Nat->Nat
 same:Nat->Bool
def cU:Tok.T:=⟨4,[],0,0,0⟩
def aJ.of(ts:List Tok.T):aJ where
 kind a:=(ts.getD a cU).kind
 text a:=(ts.getD a cU).text
 num a:=(ts.getD a cU).n
 same a:=decide (a > 0)&&(ts.getD (a-1) cU).line==(ts.getD a cU).line
abbrev cr(α:Type):=Nat->Except Nat (α × Nat)
def cr.bind{α β:Type}(f:cr α)(g:α->cr β):cr β:=fun a=>match f a with
 |.error e=>.error e
 |.ok (x,b)=>g x b
section
variable (V:aJ) (N:Nat)
def kI(l:List UInt8):ByteArray:=⟨l.toArray⟩
def lP(s:List UInt8)(a:Nat):Bool:=V.same a&&V.kind a==3&&V.text a==s
def dN:cr ByteArray:=fun a=>if(V.same a&&V.kind a==1)=true then .ok (kI (V.text a),a+1)else .error a
def fT:cr Nat:=fun a=>if(V.same a&&V.kind a==2)=true then .ok (V.num a,a+1)else .error a
def ul(s:List UInt8):cr Unit:=fun a=>if lP V s a=true then .ok ((),a+1)else .error a
def nf(a:Nat):Bool:=V.same a&&V.kind a != 4
def LB:cr Unit:=fun a=>if nf V a=true then .error a else .ok ((),a)
def nA(s:List UInt8)(a:Nat):Bool:=V.kind a==1&&(V.kind (a+1)==3&&V.text (a+1)==s&&V.same (a+1))
def jv:Nat->List ByteArray->cr (List ByteArray)
 |0,_,a=>.error a
 |n+1,acc,a=>if lP V [41] a=true then .ok (acc,a)else
   if acc.length > 0 then(ul V [44]).bind (fun _=>(dN V).bind fun x=>jv n (acc++[x])) a
   else(dN V).bind (fun x=>jv n (acc++[x])) a
def o9:cr (List ByteArray):=(ul V [40]).bind fun _=>(jv V N []).bind fun l=>(ul V [41]).bind fun _ a=>.ok (l,a)
def kM:Nat->List ByteArray->List ByteArray->cr (List ByteArray × List ByteArray)
 |0,_,_,a=>.error a
 |n+1,ls,xs,a=>(dN V).bind (fun l=>(ul V [58]).bind fun _=>(dN V).bind fun x b=>
   if lP V [44] b=true then(ul V [44]).bind (fun _=>kM n (ls++[l]) (xs++[x])) b else .ok ((ls++[l],xs++[x]),b)) a
def Ao:Nat->gf->cr gf
 |1,x|2,x=>(fT V).bind fun n a=>.ok ({ x with k:=n },a)
 |3,x=>fun a=>.ok (x,a)
 |4,x=>(dN V).bind fun s a=>.ok ({ x with f:=s },a)
 |5,x|8,x=>(dN V).bind fun s a=>.ok ({ x with a:=s },a)
 |6,x=>(ul V [91]).bind fun _=>(kM V N x.ls x.xs).bind fun p=>(ul V [93]).bind fun _ a=>.ok ({ x with ls:=p.1,xs:=p.2 },a)
 |7,x=>(dN V).bind fun s=>(fT V).bind fun n a=>.ok ({ x with a:=s,k:=n },a)
 |9,x=>(dN V).bind fun s=>(ul V [44]).bind fun _=>(dN V).bind fun t a=>.ok ({ x with a:=s,b:=t },a)
 |10,x=>(dN V).bind fun s=>(o9 V N).bind fun l a=>.ok ({ x with f:=s,xs:=l },a)
 |11,x=>(dN V).bind fun s=>(o9 V N).bind fun l a=>.ok ({ x with a:=s,xs:=l },a)
 |12,x=>(dN V).bind fun s=>(dN V).bind fun t a=>.ok ({ x with ls:=[s,t] },a)
 |13,x=>(dN V).bind fun s a=>.ok ({ x with ls:=[s] },a)
 |14,x=>fun a=>if(V.same a&&V.kind a==1)=true then(dN V).bind (fun s a=>.ok ({ x with a:=s },a)) a else .ok (x,a)
 |_,_=>fun a=>.error a
def k8:List (List UInt8 × Nat):=[([97,108,108,111,99,97],1),([109,97,108,108,111,99],2),([110,117,108,108],3),([97,100,100,114],4),([99,111,112,121],5),([108,111,97,100],8),([102,105,101,108,100],7),([112,104,105],6),([99,97,108,108],10),([105,99,97,108,108],11)]
def k3:List (List UInt8 × Nat):=[([115,116,111,114,101],9),([99,97,108,108],10),([105,99,97,108,108],11),([98,114],12),([103,111,116,111],13),([114,101,116],14)]
def tp(l:List (List UInt8 × Nat))(s:List UInt8):Option Nat:=(l.find? fun p=>p.1==s).map (·.2)
def wY(d:ByteArray)(l:List (List UInt8 × Nat)):cr gf:=fun b=>match tp l (V.text b)with
 |none=>if d.data.toList=[]then .error (b+1)else .error b
 |some o=>if V.kind b=1 then Ao V N o { iC with op:=o,d:=d } (b+1)else .error b
def va:cr gf:=fun a=>
 if nA V [61] a=true then(if V.same (a+2)=true then wY V N (kI (V.text a)) k8 (a+2)else .error (a+2))
 else wY V N ⟨#[]⟩ k3 a
def oJ(bU:List mY)(x:gf):List mY:=bU.dropLast++(bU.getLast?.toList.map fun b=>{ b with code:=b.code++[x] })
def ng(nm:ByteArray)(ps:List ByteArray):Nat->List mY->cr hv
 |0,_,a=>.error a
 |n+1,bU,a=>
   if nf V a=true then .error a
   else if(V.kind a==3&&V.text a==[125])=true then(if nf V (a+1)=true then .error (a+1)else .ok (⟨nm,ps,bU⟩,a+1))
   else if nA V [58] a=true then ng nm ps n (bU++[⟨kI (V.text a),[]⟩]) (a+2)
   else if(V.kind a != 1||bU.length==0)=true then(if V.kind a=1 then .error (a+1)else .error a)
   else(va V N).bind (fun x=>ng nm ps n (oJ bU x)) a
def um:cr hv:=fun a=>(dN V).bind (fun nm=>(o9 V N).bind fun ps=>(ul V [123]).bind fun _=>ng V N nm ps N []) (a+1)
def wE:Nat->List hv->cr (List hv)
 |0,_,a=>.error a
 |n+1,bG,a=>if V.kind a=4 then .ok (bG,a)else
   if(V.kind a != 1||V.text a != [102,117,110,99])=true then .error a
   else(um V N).bind (fun f=>wE n (bG++[f])) a
end
def Dh(ts:List Tok.T):Except Nat (List hv):=match wE (aJ.of ts) (ts.length+1) (ts.length+1) [] 0 with
 |.error e=>.error e
 |.ok (bG,_)=>.ok bG
end Go.Proofs.YtbocmenkkjbigaaDoor
namespace Go.dO
def aDT:=a8 @aGs (a8 @aFz (a8 @aEZ (a8 @aHq (a8 @azn (a8 @aqr (a8 @au8 (a8 @azd (a8 @aba (a8 @ax6 (a8 @aHe (a8 @axR (a8 @aDa (a8 @aGW (a8 @aDQ (a8 @aG1 (a8 @aGU (a8 @aqP (a8 @aEG (a8 @azy (a8 @acD (a8 @SO (a8 @Rl (a8 @wu (a8 @nv (a8 @aC2 (a8 @aHO (a8 @aq7 (a8 @azD (a8 @aBA (a8 @aIk (a8 @aw7 (a8 @oX (a8 @px (a8 @aEn (a8 @aDD (a8 @aHH (a8 @MJ (a8 @aEf (@aGg)))))))))))))))))))))))))))))))))))))))
def aBR:=a8 @arz (a8 @awz (a8 @axk (a8 @aIC (a8 @aAO (a8 @aoF (a8 @aFg (a8 @ayR (a8 @azX (a8 @avV (a8 @aCm (a8 @aDo (a8 @az0 (a8 @atq (a8 @ayl (a8 @ao1 (a8 @aDK (a8 @aFc (a8 @aC1 (a8 @ath (a8 @aDk (a8 @azU (a8 @aH1 (a8 @apT (a8 @aGe (a8 @axa (a8 @aFd (a8 @ap1 (a8 @aAY (a8 @aHK (a8 @aFu (a8 @auU (a8 @ayG (a8 @aqg (a8 @aBH (a8 @at7 (a8 @apH (a8 @Ha (a8 @acl (@asn)))))))))))))))))))))))))))))))))))))))
def azE:=a8 @BN (a8 @MG (a8 @aat (a8 @asf (a8 @aDU (a8 @apb (a8 @aAu (a8 @azt (a8 @aGC (a8 @aBq (a8 @MP (a8 @not_false_eq_true (a8 @uE (a8 @o5 (a8 @B8 (a8 @tU (a8 @lk (a8 @azZ (a8 @aAw (a8 @oH (a8 @Int.natCast_nonneg (a8 @Bool.cond_true_left (a8 @Bool.cond_false_right (a8 @Bool.cond_false_left (a8 @Bool.cond_true_right (a8 @avq (a8 @arT (a8 @H7 (a8 @Xj (a8 @alj (a8 @axn (a8 @ap7 (a8 @aGf (a8 @aBU (a8 @aIh (a8 @ay1 (a8 @aoH (a8 @aGN (a8 @avR (@aBe)))))))))))))))))))))))))))))))))))))))
def avn:=a8 @ato (a8 @aqi (a8 @aGy (a8 @ayu (a8 @aBn (a8 @aBh (a8 @aGE (a8 @aFA (a8 @axl (a8 @axf (a8 @aHT (a8 @awB (a8 @beq_true (a8 @beq_false (a8 @asZ (a8 @aEK (a8 @axc (a8 @aHJ (a8 @ap8 (a8 @axv (a8 @azx (a8 @aGl (a8 @awq (a8 @aui (a8 @aHo (a8 @arI (a8 @aGO (a8 @aBO (a8 @atN (a8 @asr (a8 @atF (a8 @awt (a8 @aAx (a8 @aFw (a8 @ay8 (a8 @awU (a8 @aHI (a8 @aAv (a8 @at2 (@aIY)))))))))))))))))))))))))))))))))))))))
def aBx:=a8 @aFS (a8 @ays (a8 @aHj (a8 @aBo (a8 @axh (a8 @aBj (a8 @atD (a8 @aEd (a8 @Bool.bne_false (a8 @Bool.bne_true (a8 @aoT (a8 @ayt (a8 @as8 (a8 @aya (a8 @aDN (a8 @ayv (a8 @avS (a8 @aw4 (a8 @aH0 (a8 @auZ (a8 @aq6 (a8 @aFk (a8 @asl (a8 @aIO (a8 @aHt (a8 @aDV (a8 @as4 (a8 @aEi (a8 @aGn (a8 @awQ (a8 @aoM (a8 @atz (a8 @axp (a8 @aFn (a8 @aCA (a8 @aE9 (a8 @auD (a8 @atL (a8 @aCL (@aoS)))))))))))))))))))))))))))))))))))))))
def aGm:=a8 @aud (a8 @aIV (a8 @apg (a8 @aGu (a8 @ap6 (a8 @az7 (a8 @aAL (a8 @aFI (a8 @awW (a8 @atH (a8 @asO (a8 @aBV (a8 @avh (a8 @Vw (a8 @aEA (a8 @aFM (a8 @sX (a8 @ayB (a8 @aDj (a8 @aup (a8 @aqU (a8 @avv (a8 @asJ (a8 @aEF (a8 @aHg (a8 @auy (a8 @lW (a8 @aut (a8 @ay5 (a8 @aeH (a8 @acR (a8 @bS (a8 @Hf (a8 @and_true (a8 @wR (a8 @j2 (a8 @w5 (a8 @oL (a8 @arB (@ax1)))))))))))))))))))))))))))))))))))))))
def axt:=a8 @aGc (a8 @aD4 (a8 @aCM (a8 @aF9 (a8 @awv (a8 @NZ (a8 @apj (a8 @aBc (a8 @ZG (a8 @aHP (a8 @ass (a8 @Int.sub_zero (a8 @Int.le_refl (a8 @rD (a8 @aD7 (a8 @aBF (a8 @avW (a8 @kw (a8 @auW (a8 @ao3 (a8 @asQ (a8 @as6 (a8 @auu (a8 @ayg (a8 @axQ (a8 @aCI (a8 @aCo (a8 @awH (a8 @aqs (a8 @aqW (a8 @aD1 (a8 @arE (a8 @aHF (a8 @avU (a8 @aEz (a8 @aC0 (a8 @az2 (a8 @aGK (a8 @aBd (@ao6)))))))))))))))))))))))))))))))))))))))
def aDf:=a8 @anV (a8 @ae6 (a8 @ash (a8 @apx (@tF))))
def apa:=@Bool.cond_self
def axE:=@qM
def awl:=@s7
def aty:=@anJ
def aBK:=@mD
def aDx:=@ne_eq
def aE2:=@gx
def aGH:=@fl
def ayr:=@EJ
def ayd:=@Kt
def avG:=@alw
def auP:=@aiV
def arZ:=@km
def aBf:=@vC
def aAA:=@h5
def aAi:=@lL
def atx:=@x7
def aD8:=@lz
def aHx:=@bne_self_eq_false
def aAm:=@Da
def asE:=@Av
def aC9:=@l3
def aEQ:=@B4
def aIy:=@fI
def aqD:=@gq
def az4:=@List.take_nil
def aHR:=@ahW
def atf:=@gP
def aIt:=@d9
def aCK:=@AX
def aDy:=@jg
def aua:=@mo
def aG4:=@eF
def aqA:=@List.set_cons_zero
def axo:=@List.set_cons_succ
def aR(R K O m wQ os)(items:List nZ)(h:lZ R K O=some (m,Dn items os,os):=by kernel_rfl)(an:p1 items=wQ:=by kernel_rfl):∀(fr:List V) (H:az),iO (lZ R K O) K fr H=iO (some (m,wQ,os)) K fr H:=fun fr H=>by rw[<- an];exact azm h fr H
def ch(R P T Cj K lit)(e:R=P++T:=by exact rfl)(aK:P=lit:=by exact rfl)(h:zD Cj T K=true:=by kernel_rfl):∀(call:c5) (it:gS) (base:Nat) (f:List V) (H:az),aC call it base (.region R [] K) f H=qc call it base (.region T [] K) (sd [] P Cj (cu call base lit f H)):=fun call it base f H=>by
 subst e;subst aK
 exact(E6 call it base P T (kc:=Cj) h f H).trans (by rw[Ee])
def e5(R hT mF K){P T}(e:R=P++T:=by exact rfl)(h:zD hT T K=true:=by kernel_rfl):∀(call:c5) (it:gS) (base:Nat) (f:List V) (H:az),aC call it base (.region R [] K) f H=Em call it base T K H (iO (lZ P hT mF) hT f H) (Aq call it base R K f H):=fun call it base f H=>by
 subst e;exact MX call it base P T h f H
def bl(R hT mF K m wQ os)(items:List nZ){P T}(e:R=P++T:=by exact rfl)(h:zD hT T K=true:=by kernel_rfl)(U:lZ P hT mF=some (m,Dn items os,os):=by kernel_rfl)(an:p1 items=wQ:=by kernel_rfl):(∀(fr:List V) (H:az),iO (lZ P hT mF) hT fr H=iO (some (m,wQ,os)) hT fr H)/\∀(call:c5) (it:gS) (base:Nat) (f:List V) (H:az),aC call it base (.region R [] K) f H=Em call it base T K H (iO (lZ P hT mF) hT f H) (Aq call it base R K f H):=⟨aR P hT mF m wQ os items U an,e5 R hT mF K e h⟩
def dw(R K O):∀(call:c5) (it:gS) (base:Nat) (f:List V) (H:az),aC call it base (.region R [] K) f H=LX H (iO (lZ R K O) K f H) (Aq call it base R K f H):=fun call it base f H=>aDu call it base R f H
def dB(R K O m wQ os)(items:List nZ)(h:lZ R K O=some (m,Dn items os,os):=by kernel_rfl)(an:p1 items=wQ:=by kernel_rfl):(∀(fr:List V) (H:az),iO (lZ R K O) K fr H=iO (some (m,wQ,os)) K fr H)/\∀(call:c5) (it:gS) (base:Nat) (f:List V) (H:az),aC call it base (.region R [] K) f H=LX H (iO (lZ R K O) K f H) (Aq call it base R K f H):=⟨aR R K O m wQ os items h an,dw R K O⟩
def cx(R K){a}(e:R=[a]:=by exact rfl):∀(call:c5) (it:gS) (base:Nat) (f:List V) (H:az),aC call it base (.region R [] K) f H=sd [] R K (cu call base [a] f H):=fun call it base f H=>by
 subst e;exact Ee call it base [a] K f H
def bx(c b)(e:c=b:=by exact rfl):∀(call:c5) (it:gS) (base:Nat) (fr:List V) (H:az),aC call it base c fr H=aC call it base b fr H:=fun _ _ _ _ _=>by rw[e]
def aS(R Cj K){T a}(e:R=a::T:=by exact rfl)(h:zD Cj T K=true:=by kernel_rfl):∀(call:c5) (it:gS) (base:Nat) (f:List V) (H:az),aC call it base (.region R [] K) f H=qc call it base (.region T [] K) (sd [] [a] Cj (cu call base [a] f H)):=ch R [a] T Cj K [a] e rfl h
abbrev q(d:Nat)(o:b3):cF:=⟨some d,o,none⟩
abbrev bQ(d:Nat)(o:b3)(n:Nat)(b:Bool):cF:=⟨some d,o,some (n,b)⟩
abbrev r5:=List cF
abbrev cL(d n:Nat):cF:=⟨some d,.load false 1 (.t n),none⟩
abbrev e7(d n g:Nat)(b:Bool):cF:=⟨some d,.load false 1 (.t n),some (g,b)⟩
abbrev b2(d k n:Nat):cF:=⟨some d,.fieldAddr k (.t n),none⟩
abbrev ef(d k n g:Nat)(b:Bool):cF:=⟨some d,.fieldAddr k (.t n),some (g,b)⟩
abbrev ai(d n:Nat):cF:=⟨some d,.move (.t n),none⟩
abbrev da(d n g:Nat)(b:Bool):cF:=⟨some d,.move (.t n),some (g,b)⟩
abbrev bO(x:E):E:=.op (.load false 1 (.t 0)) [x]
abbrev bI(k:Nat)(x:E):E:=.op (.fieldAddr k (.t 0)) [x]
def ad(l:List Nat):nZ:=.sub 0 l []
def bn(l:List Nat)(n:Nat)(h:l.contains n=true:=by kernel_rfl):l.contains n=true:=h
def bE(l:List Nat)(n:Nat)(h:l.contains n=false:=by kernel_rfl):l.contains n=false:=h
abbrev b1(n:Int):cY:=.c (.s (.int .i64 n))
abbrev cK(n:Int):cY:=.c (.s (.int .u8 n))
abbrev gk:cY:=.c (.s (.bool true))
abbrev dP:cY:=.c (.s (.bool false))
abbrev cv(a:Array UInt8):cY:=.c (.s (.string ⟨a⟩))
abbrev rM:cY:=.c (.s (.slice none 0 0))
abbrev cm:V:=.s (.string ⟨#[]⟩)
abbrev dV:V:=.s (.slice none 0 0)
abbrev ec:V:=.s (.int .u8 0)
abbrev dc:V:=.s (.int .i64 0)
abbrev aJ5:V:=.s (.bool false)
abbrev mO(o:b3):cF:=⟨none,o,none⟩
abbrev dt(n a b:Nat):cF:=⟨none,.store n (.t a) (.t b),none⟩
abbrev c2(d f:Nat)(l:List cY):cF:=⟨some d,.call (.c (.fn f [] [])) l,none⟩
abbrev c0(d:Nat)(o:cY):cF:=⟨some d,.move o,none⟩
abbrev fb(d n:Nat):cF:=⟨some d,.nilCheck (.t n),none⟩
abbrev iJ(d s a b:Nat):cF:=⟨some d,.indexAddr s (.t a) (.t b),none⟩
abbrev gJ(d a k:Nat):cF:=⟨some d,.extract (.t a) k,none⟩
abbrev ev(d:Nat)(a b c:cY):cF:=⟨some d,.pick a b c,none⟩
abbrev aKh(n:Nat):cY:=.t n
abbrev jz(n:Int):E:=.c (.s (.int .i64 n))
abbrev aKv(n:Int):E:=.c (.s (.int .u8 n))
abbrev hH:E:=.c (.s (.bool true))
abbrev ht:E:=.c (.s (.bool false))
abbrev aJP(a:Array UInt8):E:=.c (.s (.string ⟨a⟩))
abbrev fV(n:Int)(x:E):E:=.op (.bin .add (.t 0) (.c (.s (.int .i64 n)))) [x,.c (.s (.int .i64 n))]
abbrev fe(x:E):E:=.op (.nilCheck (.t 0)) [x]
abbrev gY(k:Nat)(x:E):E:=.op (.extract (.t 0) k) [x]
abbrev hj(n:Int)(x:E):E:=.op (.bin .eql (.t 0) (.c (.s (.int .u8 n)))) [x,.c (.s (.int .u8 n))]
abbrev gU(s:Nat)(x y:E):E:=.op (.indexAddr s (.t 0) (.t 1)) [x,y]
abbrev oA(s:Nat)(n:Int)(x:E):E:=.op (.indexAddr s (.t 0) (.c (.s (.int .i64 n)))) [x,.c (.s (.int .i64 n))]
abbrev ig(x:E):E:=.op (.dD .s (.t 0)) [x]
abbrev kA(n:Nat)(x:E):E:=.op (.load true n (.t 0)) [x]
abbrev mv(x:E):E:=.op (.un .not (.t 0)) [x]
abbrev eS(o:BinOp)(x y:E):E:=.op (.bin o (.t 0) (.t 1)) [x,y]
abbrev lF(o:BinOp)(n:Int)(x:E):E:=.op (.bin o (.t 0) (.c (.s (.int .u8 n)))) [x,.c (.s (.int .u8 n))]
abbrev jK(o:BinOp)(n:Int)(x:E):E:=.op (.bin o (.t 0) (.c (.s (.int .i64 n)))) [x,.c (.s (.int .i64 n))]
abbrev On:List Nat:=[8,62,63,64,65,66,67,68,69,70,71,72,73,74,75,76]
abbrev Pv:List Nat:=[10,85,86,87,88,89,90,91,92,93,94,95]
abbrev PA:List Nat:=[0,7,8,9,10,11,12,13,14,15,16,17,18,19,20,21,22,23,24,25,26,27,28,29,30]
abbrev NF:List Nat:=[25,26,27,28,29,30,31,32,33,34,35,36,37,38,39]
abbrev q6:List Nat:=[6,7,8,9,10,11,12,13,14,15,16,17,18,19,20,21,22,23,24,25,26,27,28,29,30,31]
abbrev Ex:List Nat:=[0,3,4,5,6,7,8,9,10,11,12]
abbrev pK:List Nat:=[4,5]
abbrev Mq:List Nat:=[11,14,15,16,17,18]
abbrev UJ:List Nat:=[9,10,11,12,13,14,15,16,17,18,19,20]
abbrev C8:List Nat:=[0,1,5,21,22,23,24,25,26,27,28,29,30,31,32,33,34,35,36,37,38,39]
abbrev Gv:List Nat:=[1,5,6,7,8,9,10,11,12,13]
abbrev zy:List Nat:=[0,1,5,6,7,8,9,10,11,12,13,14,15,16,17,18,19]
abbrev pJ:List Nat:=[0,3,4,5,6,7,8,9,10,11,12,13,14,15,16,17,18,19,20,21,22,23,24,25,26,27]
abbrev NU:List Nat:=[0,1,9,10,11,12,13]
abbrev CJ:List Nat:=[0,1,7,8,9,10,11]
abbrev Kx:List Nat:=[0,8,9,10,11,12,13]
abbrev CL:List Nat:=[13,14,15,16,17]
abbrev IA:List Nat:=[4,61,64,65,66,67,68,69,70,71]
abbrev PN:List Nat:=[4,9,10,11,12,13]
abbrev FB:List Nat:=[4,9,29,30,31,32,33,34,35,36]
abbrev ME:List Nat:=[6,43,51,52,53,54,55,56,57]
abbrev sn:List Nat:=[1,2,3,4,5,6,7,8]
abbrev mB:List Nat:=[1,2,3,4,5,6,7,8,9,10,11,12]
abbrev Jy:List Nat:=[25,28,29,30,31,32,33,34,35,36,37]
abbrev DR:List Nat:=[38,39,40,41,42,43,44,45,46,47,48,49,50,51,52,53,54,55,56,57,58]
abbrev KQ:List Nat:=[64,67,68,69,70,71,72,73,74,75,76]
abbrev Kn:List Nat:=[95,98,99,100,101,102,103,104,105,106,107]
abbrev th:List Nat:=[12,13,108,109,110,111,112,113,114,115,116,117,118,119,120,121,122,123,124,125,126,127,128,129,130,131,132,133,134,135,136,137,138,139,140,141,142,143,144,145,146,147,148,149,150,151,152,153,154,155,156,157,158,159,160,161,162]
abbrev CP:List Nat:=[2,4,5,6,7,8]
abbrev abx:List Nat:=[6,9,88,89,90,91,92,93,94,95,96,97,98,99,100,101]
abbrev bol:List Nat:=[1,2,3,4,5,6,7,8,9,10,11,12,13,14,15,16,17,18,19,20,21,22,23,24,25,26,27,28,29,30,31,32,33]
abbrev FJ:List Nat:=[10,11,12,13,14,15,16]
abbrev NL:List Nat:=[23,24,25,26,27,28,29,30,31]
abbrev Jn:List Nat:=[100,103,104,105,106,107,108,109,110,111]
abbrev LL:List Nat:=[112,113,114,115,116,117,118,119,120,121]
abbrev D7:List Nat:=[0,28,29,30,31,32,33]
abbrev Xn:List Nat:=[9,13,14,15,16,82,83,84,85,86,87,88]
abbrev FV:List Nat:=[5,8,10,11,12,17,96,97,98,99,100,101,102,103,104,105,106]
abbrev Kl:List Nat:=[123,124,125,126,127,128,129,130,131,132,133]
abbrev LN:List Nat:=[12,19,20,115,134,135,136,137,138,139]
abbrev aeX:List Nat:=[14,16,82,141,142,143,144,145,146]
abbrev amc:List Nat:=[15,153,155,156,157,158,159,160]
abbrev amz:List Nat:=[205,208,209,210,211,212,213,214,215,216,217]
abbrev Gn:List Nat:=[5,8,9,10,11,21,250,251,252,253,254,255,256,257,258,259,260]
abbrev EU:List Nat:=[5,8,10,262,263,264,265,266,267,268,269,270]
abbrev Qo:List Nat:=[5,8,10,262,271,272]
abbrev w9:List Nat:=[61,62,63,64,65,66,67,68,69,70,71,72,73,74,75,76,77,78,79,80,81]
abbrev GY:List Nat:=[8,82,85,86,87,88,89,90,91,92,93,94,95]
abbrev Hr:List Nat:=[99,100,101,102,103,104,105,106,107]
abbrev Fp:List Nat:=[108,123,124,125,126,127,128,129,130,131,132,133,134,135,136,137,138]
abbrev Io:List Nat:=[0,5,6,8,9,155,156,157,158]
abbrev H0:List Nat:=[8,9,155,159,160,161,162,163,164,165,166,167,168,169,170]
abbrev G2:List Nat:=[8,176,177,178,179,180,181,182,183,184,185,186]
abbrev Jt:List Nat:=[0,5,6,8,23,24,25,171]
abbrev Fv:List Nat:=[0,6,18,187,188,189,190,191,192,193,194]
abbrev A0:List Nat:=[16,17,18,19,20,21,22]
abbrev AF:List Nat:=[0,23,24,25,26,27,28]
abbrev IB:List Nat:=[3,4,5,6,7,8,29,30,31,32,33,34,35,36,37,38,39,40,41,42,43,44]
def I{a b:Prop}(h:a)(k:b):a/\b:=⟨h,k⟩
def aM:=I @ary (I @art (I @aIq (I @aL.eq_1 (I @i64.eq_1 (I @iy.eq_1 (I @kv.eq_1 (I @kv.eq_2 (I @aDT (I @aBR (I @azE (I @avn (I @aBx (I @aGm (I @axt (I @aDf (I @apa.{1} (I @axE.{0} (I @awl.{0} (I @aty.{0} (I @aBK.{0,0} (I @aDx.{1} (I @aE2.{1} (I @aGH.{1} (I @ayr.{0} (I @ayd.{0} (I @avG.{1} (I @auP.{1} (I @arZ.{0} (I @aBf.{0} (I @aAA.{0} (I @aAi.{0,0} (I @atx.{0,0} (I @aD8.{0} (I @aHx.{0} (I @aAm.{0} (I @asE.{0} (I @aC9.{0} (I @aEQ.{0} (I @aIy.{0} (I @aqD.{0} (I @az4.{0} (I @aHR.{0} (I @atf.{0} (I @aIt.{0} (I @aCK.{0,0} (I @aDy.{0} (I @aua.{0} (I @aG4.{0} (I @aqA.{0} (@axo.{0}))))))))))))))))))))))))))))))))))))))))))))))))))
open Go.RowKit
abbrev fh:=TypeId × V × az
abbrev qT:=V->List V->Nat->az->fh->Prop
def lR(call:c5)(base:Nat):Nat->List cF->List V->az->Option (V × List V × az)
 |_,[],_,_=>none
 |0,o::_,fr,H=>match want o fr with
   |some true=>match o.op with
     |.call f xs=>some (aX fr f,xs.map (aX fr),H)
     |_=>none
   |_=>none
 |n+1,o::os,fr,H=>match want o fr with
   |none=>none
   |some false=>lR call base n os (put o.dst bR fr) H
   |some true=>match bf call base fr H o.op with
     |some (v,H')=>lR call base n os (put o.dst v fr) H'
     |none=>none
def na(u:V):c5:=fun _ _ _ H=>some (u,H)
abbrev mK:=List cF->List V->Prop
def Ib(call:c5)(fA:qT)(base:Nat)(C:mK)(ops:List cF)(b9:List (Nat × Nat))(fr:List V)(H:az)(r:fh):Prop:=
 C ops fr/\(∃i v args H1,lR call base i ops fr H=some (v,args,H1)/\fA v args base H1 r)/\
 ∃u aW H',cu (na u) base ops fr H=some (aW,H')/\b9.all (j8 (na u) base ops fr H aW)=true
inductive oa (b:List V->az->Option cJ) (x:List V->az->fh->Prop) (kill:List Nat) (m:Nat):List V->az->fh->Prop
 |here {fr:List V} {H:az} {r:fh} (h:x fr H r):oa b x kill m fr H r
 |next {fr aW:List V} {H H':az} {r:fh} (h:b fr H=some (.bH,aW,H')) (k:oa b x kill m (ut kill aW) (trim m (ut kill aW) H') r):oa b x kill m fr H r
def fP(call:c5)(fA:qT)(it:gS)(base:Nat)(C:mK):cM->List V->az->fh->Prop
 |.region ops b9 _,fr,H,r=>Ib call fA base C ops b9 fr H r
 |.seq a b,fr,H,r=>fP call fA it base C a fr H r\/∃cg H1,aC call it base a fr H=some (.bH,cg,H1)/\fP call fA it base C b cg H1 r
 |.cond c a b,fr,H,r=>(aX fr c=.s (.bool true)/\fP call fA it base C a fr H r)\/(aX fr c=.s (.bool false)/\fP call fA it base C b fr H r)
 |.block _ c,fr,H,r=>fP call fA it base C c fr H r
 |.loop kill c,fr,H,r=>oa (fun fr H=>aC call it base c fr H) (fun fr H r=>fP call fA it base C c fr H r) kill H.length (ut kill fr) H r
 |_,_,_,_=>False
def AR(o:Oper):Bool:=
 match o.op with
 |.call { callee:=.value _,.. }=>true
 |_=>false
def Sr(ops:Array Oper):Bool:=(List.range ops.size).all fun i=>(List.range ops.size).all fun j=>!(AR (ops.getD i default)&&AR (ops.getD j default))||i==j
def nD:Code->Bool
 |.region _ ops draw=>!draw||Sr ops
 |.seq a b=>nD a&&nD b
 |.cond _ a b=>nD a&&nD b
 |.block _ c=>nD c
 |.loop c=>nD c
 |.rangeFunc _ _ a b=>nD a&&nD b
 |_=>true
def HZ(ops:Array Oper):Prop:=∀(i j:Nat) (o o':Oper),ops[i]?=some o->ops[j]?=some o'->AR o=true->AR o'=true->i=j
def abF{ops}(h:Sr ops=true):HZ ops:=by
 intro i j o o' hi br J U;unfold Sr at h;have li:=(qS.1 hi).1;have aqy:=(qS.1 br).1
 have:=dU.1 (dU.1 h i (by simpa using li)) j (by simpa using aqy)
 have aF:ops.getD i default=o:=by rw[Qd,hi];rfl
 have aK:ops.getD j default=o':=by rw[Qd,br];rfl
 rw[aF,aK,J,U]at this
 simpa using this
def HZ.perm{ops cR}(aj:QA cR ops)(h:HZ ops):HZ (lA cR ops):=by
 intro i j o o' hi br J U
 have get:∀(i:Nat) (o:Oper),(lA cR ops)[i]?=some o->∃k q2,cR[i]?=some k/\ops[k]?=some q2/\o=zX cR q2:=fun i o hi=>by
  have li:i<cR.length:=by rw[<- Sp (ops:=ops)];exact(qS.1 hi).1
  have an:cR[i]?=some cR[i]:=dy li;have ak:=aj.lt _ (wa li);have aT:ops[cR[i]]?=some ops[cR[i]]:=o8 ak;have:=HU an aT;rw[hi]at this;exact⟨_,_,an,aT,hc this⟩
 obtain⟨k,q2,k1,k2,rfl⟩:=get i o hi;obtain⟨gT,aHG,axU,aoK,rfl⟩:=get j o' br;have:=h k gT q2 aHG k2 aoK J U;subst this;have aF:=Qy aj.Ru k1;have aK:=Qy aj.Ru axU;omega
section
variable {aE:fD} {μ ca:dn} {ab b6:Nat->Prop} {w w':World} {H H':az} {P:Program} {pure':gH} {call:c5} {fA:qT}
def CX(aE:fD)(μ:dn)(ab:Nat->Prop)(w:World)(H:az)(r:fh)(dC:List PanicEntry)(w':World):Prop:=
 ∃c ca b6,dC=[{ v:=.iface r.1 c,recovered:=false }]/\bM ca b6 w' r.2.1 c/\dm aE μ ab w H ca b6 w' r.2.2
def Q7(l:List cF)(fr iW:List V):Prop:=∀s,(∀o∈l,o.dst≠some s)->iW.getD s .bs=fr.getD s .bs
def wS(aE:fD)(C:mK)(μ:dn)(ab:Nat->Prop)(w:World)(H:az)(dh:List Deferred)(r:fh)(dC:List PanicEntry)(bL:Act)(w':World):Prop:=
 ∃c ca b6 l fr iW,dC=[{ v:=.iface r.1 c,recovered:=false }]/\bM ca b6 w' r.2.1 c/\dm aE μ ab w H ca b6 w' r.2.2/\Marks w.heap.size ca w' bL.defers dh/\C l fr/\Q7 l fr iW/\c9 ca b6 w' iW bL.tmps
def qv(aE:fD)(μ:dn)(ab:Nat->Prop)(w:World)(H:az)(r:fh)(dC:List PanicEntry)(l:List cF)(fr:List V)(bL:Act)(w':World):Prop:=
 ∃c ca b6 iW,dC=[{ v:=.iface r.1 c,recovered:=false }]/\bM ca b6 w' r.2.1 c/\dm aE μ ab w H ca b6 w' r.2.2/\Q7 l fr iW/\c9 ca b6 w' iW bL.tmps
structure Gj (P:Program) (aE:fD) (fA:qT):Prop where
 fn:∀(f:Nat) (fst cap args:List V) (base:Nat) (H:az) (r:fh),fA (.fn f fst cap) args base H r->
  (∀xs w,(callFunc f xs).run P w=.ok (.enter f xs) w)/\
  ∀(μ:dn) (ab:Nat->Prop) (w:World) (cs:List Value),cB aE μ ab w H->b0 μ ab w (fst++args++cap) cs->∀n,CallsIn Fence.wide n P f cs.toArray w (fun e w'=>∃dC,e=.panicked dC/\CX aE μ ab w H r dC w')
 only:∀v args base H r,fA v args base H r->∃f fst cap,v=.fn f fst cap
 floor:∀v args base H r,fA v args base H r->kE base H r.2.2
def wS.trans{C:mK}{cA}{cH:Nat->Prop}{aV H1 dh vc}{r:fh}{dC bL}(aj:dm aE μ ab w H cA cH aV H1)(hm:Marks w.heap.size cA aV vc dh)(h:wS aE C cA cH aV H1 vc r dC bL w'):wS aE C μ ab w H dh r dC bL w':=by
 obtain⟨c,hy,lu,l,fr,iW,e,v,p,m,x⟩:=h;exact⟨c,hy,lu,l,fr,iW,e,v,aj.trans p,hm.trans p aj.cj.size m,x⟩
def qv.trans{cA}{cH:Nat->Prop}{aV H1}{r:fh}{dC l fr bL}(aj:dm aE μ ab w H cA cH aV H1)(h:qv aE cA cH aV H1 r dC l fr bL w'):qv aE μ ab w H r dC l fr bL w':=by
 obtain⟨c,hy,lu,iW,e,v,p,x⟩:=h;exact⟨c,hy,lu,iW,e,v,aj.trans p,x⟩
def qv.e{C:mK}{r:fh}{dC l fr bL}(aa:C l fr)(h:qv aE μ ab w H r dC l fr bL w'):wS aE C μ ab w H bL.defers r dC bL w':=by
 obtain⟨c,hy,lu,iW,e,v,p,k,f⟩:=h;exact⟨c,hy,lu,l,fr,iW,e,v,p,Marks.refl _ _ _ _,aa,k,f⟩
def CX.g(a1:cB aE μ ab w H){r:fh}{dC l fr iW bL}(h:CX aE μ ab w H r dC w')(an:Q7 l fr iW)(al:c9 μ ab w iW bL.tmps):qv aE μ ab w H r dC l fr bL w':=by
 obtain⟨c,hy,lu,e,v,p⟩:=h;exact⟨c,hy,lu,iW,e,v,p,an,al.post a1 p⟩
def ahV(ae:Gj P aE fA)(h:cB aE μ ab w H){a fr}(al:c9 μ ab w fr a.tmps){o f xs}(aa:BZ P pure' o (.call f xs)){base}{r:fh}(aj:fA (aX fr f) (xs.map (aX fr)) base H r){ro n}{next:Act->World->Prop}{Q:Exit->Act->World->Prop}(bn:∀dC w',CX aE μ ab w H r dC w'->Q (.panic dC) a w'):o.wpIn (hX ro) n P a w next Q:=by
 rcases aa with aa|⟨eU,ui,aa,e⟩|⟨k,ui,aa,e⟩|⟨_,_,_,_,aa,e⟩|e
 case inr.inl=>cases e
 case inr.inr.inl=>cases e
 case inr.inr.inr.inl=>cases e
 case inr.inr.inr.inr=>cases e
 rcases wg aa with⟨g,args,iL,ui,y,aT,qQ,bA,⟨k,_,e⟩|e⟩|⟨_,ix,_⟩
 .cases e
 .cases e;refine⟨fun _ _=>trivial,?_⟩
  rw[Oper.semAt_eq _ _ _ (by simp[aT])]
  have uv:execOp a.eval o=(do let d <- resolve a.eval { callee:=.value g,args,argTypes:=iL } o.type;invoke d.target d.args):=by
   unfold execOp;rw[aT]
  rw[uv];obtain⟨k,x,z,apX⟩:=ae.only _ _ _ _ _ aj;have av:=dY al bA;rw[apX]at av aj;generalize x5:a.eval g=IL at av;cases av with
  |fn _ _ _ fs eP J U ax aY=>
    obtain⟨qE,iQ⟩:=ae.fn k x z _ base H r aj;have aD:=Di al qQ
    have dE:b0 μ ab w (x++xs.map (aX fr)++z) (fs++args.map a.eval++eP).toList:=by
     have er:b0 μ ab w x fs.toList:=⟨by simpa using J,fun i p q aj bD=>ax i p q aj (by simpa using bD)⟩
     have jR:b0 μ ab w z eP.toList:=⟨by simpa using U,fun i p q aj bD=>aY i p q aj (by simpa using bD)⟩
     simpa using(er.append aD).append jR
    have fp:(do let d <- resolve a.eval { callee:=.value g,args,argTypes:=iL } o.type;invoke d.target d.args:Sem Next).run P w=.ok (.enter k (fs++args.map a.eval++eP)) w:=by
     simp only[resolve,x5,Deferred.ofValue,Sem.run_bind,Sem.run_pure,eb,invoke,qE]
    rw[fp];have aa:=iQ μ ab w _ h dE (n-1);simp only[yF]at aa
    refine⟨fun h=>by simp[hX]at h,aa.mono ?_⟩
    rintro e aV ⟨dC,rfl,bD⟩;exact bn dC aV bD
 .simp[b3.kh]at ix
def V6{base}:∀(l:List cF) (i:Nat) {fr:List V} {H:az} {v:V} {args:List V} {H1:az},lR call base i l fr H=some (v,args,H1)->
 ∃o f xs cg,l[i]?=some o/\o.op=.call f xs/\cu call base (l.take i) fr H=some (cg,H1)/\want o cg=some true/\v=aX cg f/\args=xs.map (aX cg):=by
 intro l
 induction l with
 |nil=>intro i fr H v args H1 h;cases i<;>cases h
 |cons o l aw=>
   intro i fr H v args H1 h;cases i with
   |zero=>
     simp only[lR]at h;split at h
     .rename_i hw;split at h
      .rename_i f xs aT;cases h;exact⟨o,f,xs,fr,rfl,aT,rfl,hw,rfl,rfl⟩
      .cases h
     .cases h
   |succ i=>
     simp only[lR]at h;split at h
     .cases h
     .rename_i hw;obtain⟨o',f,xs,cg,J,U,ax,aY⟩:=aw i h
      refine⟨o',f,xs,cg,by simpa using J,U,?_,aY⟩
      simp only[fI,cu,hw];exact ax
     .rename_i hw;split at h
      .rename_i u bK he;obtain⟨o',f,xs,cg,J,U,ax,aY⟩:=aw i h
       refine⟨o',f,xs,cg,by simpa using J,U,?_,aY⟩
       simp only[fI,cu,hw,he];exact ax
      .cases h
def Jq{d v fr s}(h:d≠some s):(put d v fr).getD s .bs=fr.getD s .bs:=by
 by_cases aq:s<fr.length
 .rw[CK _ _ _ _ aq,bm h]
 .have J:(put d v fr)[s]?=none:=mm (by rw[Bm];omega)
  have U:fr[s]?=none:=mm (by omega)
  simp[List.getD,J,U]
def qv.put{r:fh}{dC l fr bL o v}(aT:o∈l)(h:qv aE μ ab w H r dC l (Go.dO.put o.dst v fr) bL w'):qv aE μ ab w H r dC l fr bL w':=by
 obtain⟨c,hy,lu,iW,e,u,p,k,f⟩:=h;exact⟨c,hy,lu,iW,e,u,p,fun s aq=>(k s aq).trans (Jq (aq o aT)),f⟩
def avI(aq:oz P aE call)[oG aE P](ae:Gj P aE fA){ops l}(ar:pb P pure' ops l){base ro n}{Q:Exit->Act->World->Prop}{v args H1}{r:fh}:
 ∀(i k:Nat) (fr:List V) (H:az) (a:Act) (w:World) (μ:dn) (ab:Nat->Prop),cB aE μ ab w H->c9 μ ab w fr a.tmps->lR call base i (l.drop k) fr H=some (v,args,H1)->fA v args base H1 r->
   (∀dC bL w',bL.defers=a.defers->qv aE μ ab w H r dC l fr bL w'->Q (.panic dC) bL w')->wpOpsIn (hX ro) n P ops Q ((List.range ops.size).drop k) a w:=by
 intro i
 induction i with
 |zero=>
   intro k fr H a w μ ab h al ag aj bn
   have bt:k<l.length:=by
    refine Oj fun aa=>?_
    rw[zW (by omega)]at ag
    cases ag
   have qt:k<ops.size:=by rw[<- ar.1];exact bt
   have aF:(List.range ops.size).drop k=k::(List.range ops.size).drop (k+1):=by
    rw[hN (by simpa using qt)];simp
   rw[aF];rw[hN bt]at ag;have aT:ops[k]?=some ops[k]:=o8 qt;obtain⟨aQ,aa,bb⟩:=ar.2 k ops[k] l[k] aT (dy bt);rw[wpOpsIn_cons];unfold wpOpIn;simp only[aT];simp only[lR]at ag;split at ag
   .rename_i hw;rw[tK bb al hw];simp only[fl];split at ag
    .rename_i f xs cE;cases ag;rw[cE]at aa;exact ahV ae h al aa aj fun dC w' bD=>bn dC a w' rfl (bD.g h (fun _ _=>rfl) al)
    .cases ag
   .cases ag
 |succ i aw=>
   intro k fr H a w μ ab h al ag aj bn
   have bt:k<l.length:=by
    refine Oj fun aa=>?_
    rw[zW (by omega)]at ag
    cases ag
   have qt:k<ops.size:=by rw[<- ar.1];exact bt
   have aF:(List.range ops.size).drop k=k::(List.range ops.size).drop (k+1):=by
    rw[hN (by simpa using qt)];simp
   rw[aF];rw[hN bt]at ag;have aT:ops[k]?=some ops[k]:=o8 qt;obtain⟨aQ,aa,bb⟩:=ar.2 k ops[k] l[k] aT (dy bt);rw[wpOpsIn_cons];unfold wpOpIn;simp only[aT];simp only[lR]at ag;split at ag
   .cases ag
   .rename_i hw;rw[tK bb al hw];simp only[lk,gx];refine⟨fun _ _=>trivial,?_⟩;refine aw (k+1) _ H _ w μ ab h (aQ▸al.put _ (.s _)) ag aj (fun dC bL w' fz bD=>bn dC bL w' ?_ (qv.put (wa bt) bD));rw[fz,put_defers]
   .rename_i hw;rw[tK bb al hw];simp only[fl];split at ag
    .rename_i u bK cE;refine vJ aq h al aa cE ?_;rintro q aV ⟨c,cA,cH,e,av,hn⟩;cases e;refine aw (k+1) _ bK _ aV cA cH hn.ar (aQ▸(al.post h hn).put _ av) ag aj (fun dC bL w' fz bD=>bn dC bL w' ?_ ((qv.put (wa bt) bD).trans hn));rw[fz,put_defers]
    .cases ag
def ab3{c c':c5}{base fr H op}(h:op.kh=false):bf c base fr H op=bf c' base fr H op:=by
 cases op<;>first|rfl|(simp[b3.kh]at h;done)
def aCa(u):∀v args base H r H',na u v args base H=some (r,H')->H.length<=H'.length/\∀id,id<base->id<H.length->H'[id]?=H[id]?:=by
 intro v args base H r H' h;cases h;exact⟨bS _,fun _ _ _=>rfl⟩
def abJ{o h7}(h:BZ P pure' o h7)(aa:h7.kh=true):AR o=true:=by
 have key:∀xl,p4 P pure' o=some xl->xl.kh=true->AR o=true:=fun xl U oC=>by
  rcases wg U with⟨g,args,iL,ui,y,aT,_⟩|⟨_,ix,_⟩
  .unfold AR;rw[aT]
  .rw[ix]at oC;cases oC
 rcases h with h|⟨eU,ui,h,e⟩|⟨k,ui,h,e⟩|⟨_,_,_,_,h,e⟩|e
 .exact key _ h aa
 .exact key _ h rfl
 .exact key _ h rfl
 .rw[e]at aa;cases aa
 .rw[e]at aa;cases aa
def af7(aq:oz P aE call)[oG aE P](ae:Gj P aE fA){ops l b9}(ar:pb P pure' ops l)(aQ:pG (Region.before ops).toList b9 l=true/\oh ops=true)(hE:HZ ops){base ro n}{Q:Exit->Act->World->Prop}{fr H}{r:fh}{C:mK}(ag:Ib call fA base C l b9 fr H r){a w μ}{ab:Nat->Prop}(h:cB aE μ ab w H)(al:c9 μ ab w fr a.tmps)(bn:∀dC bL w',bL.defers=a.defers->qv aE μ ab w H r dC l fr bL w'->Q (.panic dC) bL w'):wpAnyIn (hX ro) n P .any ops Q ops.size (Array.replicate ops.size false) a { w with drawn:=w.drawn+1 }:=by
 obtain⟨_,⟨i,v,args,H1,cx,aj⟩,u,asj,aqZ,bx,sQ⟩:=ag;obtain⟨o,f,xs,cg,J,U,ax,aY,rfl,rfl⟩:=V6 l i cx;have fG:i<l.length:=(cC.1 J).1;have IX:l.getD i default=o:=ra J
 have jf:∀k,k<l.length->k≠i->(l.getD k default).op.kh=false:=by
  intro k an dq;cases aa:(l.getD k default).op.kh with
  |false=>rfl
  |true=>
    exfalso
    have kQ:k<ops.size:=by rw[<- ar.1];exact an
    have ot:i<ops.size:=by rw[<- ar.1];exact fG
    have Pe:l[k]?=some (l.getD k default):=by rw[dy an,ra (dy an)]
    have AA:=(ar.2 k ops[k] _ (o8 kQ) Pe).2.1;have ci:=(ar.2 i ops[i] _ (o8 ot) J).2.1
    exact dq (hE k i _ _ (o8 kQ) (o8 ot) (abJ AA aa) (abJ ci (by rw[U];rfl)))
 have EF:uU (Region.before ops).toList b9 l=true:=by
  cases e:uU (Region.before ops).toList b9 l with
  |true=>rfl
  |false=>
    exfalso;have cl:=aQ.1;unfold pG at cl;rw[e,o5,dr]at cl;have eM:=cl.2;unfold Ep at eM;simp only[dr,dU]at eM;have ks:=eM.1.2 o (hR J);rw[U]at ks;simp[D5,b3.cls,b3.kh,b3.Aj,b3.hB,b3.rL]at ks
 obtain⟨F,G,val,cy,a2,a3,a4,a5⟩:=ajY _ _ _ _ _ bx;have R:Row P pure' (na u) base ops l b9 fr asj H aqZ F G val:=⟨ar,EF,aQ.2,cy,a2,a3,a4,a5,sQ,aCa u⟩
 have pre:∀k,k<=i->cu call base (l.take k) fr H=some (F k,G k):=by
  intro k
  induction k with
  |zero=>intro _;rw[gq,cy,a2];rfl
  |succ k aw=>
    intro an
    have Aw:k<l.length:=by omega
    have bb:l[k]?=some (l.getD k default):=by rw[dy Aw,ra (dy Aw)]
    rw[KZ,bb,Ia,aw (by omega)]
    obtain⟨t1,t2⟩:=a5 k _ bb;simp only[LD,cu]
    rcases t2 with⟨hw,av,jr⟩|⟨hw,cE⟩
    .rw[hw,t1,av,jr]
    .rw[hw];simp only
     rw[ab3 (c':=na u) (jf k Aw (by omega)),cE,t1]
 have EE:=pre i (bS _);rw[ax]at EE;cases EE
 have bJ:(l.getD i default).op.gN=true:=by rw[IX,U];rfl
 have tJ:∀k,(Array.replicate ops.size false).getD k false=false:=by
  intro k;by_cases an:k<ops.size<;>simp[an]
 have cn:dm aE μ ab w H μ ab { w with drawn:=w.drawn+1 } H:=KT h rfl rfl rfl rfl
 refine ajT R h (some i) (fun j e=>by cases e;exact fG) (fun k ok eQ Aw dq aa vn cA cH aV aho p yS K next hh Eu he aN=>?_) (fun j aoA e adP aa=>?_) ops.size _ a _ μ ab 0 (by simp[ar.1]) ?_ ?_ (fun j _=>tJ j) (fa _) (fun k an=>by omega) (fun k _ _ _=>tJ k) (by rw[a2];exact cn) ?_ rfl (fun e=>by cases e)
 .have ix:=jf k Aw (fun e=>dq (by rw[e]))
  rw[ab3 (c':=call) ix]at he;exact vJ aq hh Eu aa he aN
 .cases e
  refine⟨bJ,by rw[IX];exact aY,fun vn cA cH aV aho next hn Eu gg P3 n'=>?_⟩
  rw[IX,U]at aa
  have aky:aX vn f=aX (F i) f/\xs.map (aX vn)=xs.map (aX (F i)):=by
   have cE:∀x∈(b3.call f xs).qo,aX vn x=aX (F i) x:=fun x ae=>Fs (o:=o) (by rw[U];exact ae) (by rw[<- IX];exact gg)
   exact⟨cE f iH,wb fun x ae=>cE x (hP _ ae)⟩
  refine ahV ae hn.ar Eu aa (by rw[aky.1,aky.2];exact aj) fun dC w' bD=>bn dC aho w' n' ((bD.g hn.ar (fun s aq=>P3 s fun k an=>?_) Eu).trans hn)
  have Pe:l[k]?=some (l.getD k default):=by rw[dy an,ra (dy an)]
  exact aq _ (hR Pe)
 .unfold pP;refine k9 Tr ?_;simp[ar.1]
 .intro j br
  exact absurd ((tJ j).symm.trans br) (by simp)
 .have:(hz (fC l) val fr l.length fun k=>(Array.replicate ops.size false).getD k false)=fr:=by
   refine yN ou fun s aq=>?_;rw[ou]at aq;rw[tk,a' aq,zH (i:=0) l.length fun k _ _=>?_]
   .simp[lw]
   .rw[tJ k];simp
  rw[this];exact al.post h cn
def anW(P:Program)(aE:fD)(C:mK)(ro:Option Nat)(n:Nat)(c:Code)(X:List V->az->fh->Prop):Prop:=
 ∀(fr:List V) (H:az) (r:fh),X fr H r->∀(μ:dn) (ab:Nat->Prop) (w:World) (a:Act) (Q:Exit->Act->World->Prop),cB aE μ ab w H->c9 μ ab w fr a.tmps->(∀l,ro=some l->∃r,w.heap[l]?=some (.loop r))->
   (∀dC bL w',wS aE C μ ab w H a.defers r dC bL w'->Q (.panic dC) bL w')->c.wpIn (hX ro) n P Q a w
def azA{C:mK}{ro n c}{b:List V->az->Option cJ}{x:List V->az->fh->Prop}(af:L7 P aE ro n c b)(Bf:anW P aE C ro n c x)(kill m){fr H}{r:fh}(ak:oa b x kill m fr H r):
 ∀(μ:dn) (ab:Nat->Prop) (w:World) (a:Act) (Q:Exit->Act->World->Prop) (eg:dn) (dT:Nat->Prop) (ct:World) (b7:az) (dh:List Deferred),cB aE eg dT ct b7->b7.length<=m->m<=H.length->
   dm aE eg dT ct b7 μ ab w H->Marks ct.heap.size μ w a.defers dh->c9 μ ab w fr a.tmps->(∀l,ro=some l->∃r,w.heap[l]?=some (.loop r))->
   (∀dC bL w',wS aE C eg dT ct b7 dh r dC bL w'->Q (.panic dC) bL w')->∃k,Code.roundsIn (hX ro) n P c Q k a w:=by
 induction ak with
 |here h=>
   intro μ ab w a Q eg dT ct b7 dh a1 qV hm aj mH al ez bn;refine⟨1,?_⟩;rw[roundsIn_succ];refine Bf _ _ _ h μ ab w a _ aj.ar al ez fun dC bL w' bD=>bn dC bL w' (wS.trans aj mH bD)
 |next h k aw=>
   rename_i cg nM H1 bK bC;intro μ ab w a Q eg dT ct b7 dh a1 qV hm aj mH al ez bn;have key:∀(l:List V) (K:az) (q:fh),oa b x kill m l K q->∃N,∀(μ:dn) (ab:Nat->Prop) (w:World) (a:Act) (Q:Exit->Act->World->Prop) (eg:dn) (dT:Nat->Prop) (ct:World) (b7:az) (dh:List Deferred),cB aE eg dT ct b7->b7.length<=m->m<=K.length->
    dm aE eg dT ct b7 μ ab w K->Marks ct.heap.size μ w a.defers dh->c9 μ ab w l a.tmps->(∀l,ro=some l->∃r,w.heap[l]?=some (.loop r))->
    (∀dC bL w',wS aE C eg dT ct b7 dh q dC bL w'->Q (.panic dC) bL w')->Code.roundsIn (hX ro) n P c Q N a w:=by
    intro l K q bD
    induction bD with
    |here h=>
      refine⟨1,fun μ ab w a Q eg dT ct b7 dh a1 qV hm aj mH al ez bn=>?_⟩;rw[roundsIn_succ];exact Bf _ _ _ h μ ab w a _ aj.ar al ez fun dC bL w' bD=>bn dC bL w' (wS.trans aj mH bD)
    |next h k aw=>
      obtain⟨N,dv⟩:=aw;refine⟨N+1,fun μ ab w a Q eg dT ct b7 dh a1 qV hm aj mH al ez bn=>?_⟩;rw[roundsIn_succ];refine af _ _ .bH _ _ h μ ab w a _ aj.ar al ez ?_;rintro cy aV ⟨cA,cH,cn,f1,m1⟩;have hn:=aj.trans cn;obtain⟨hy,dK,f2,s2,e8⟩:=aig hn a1.gR qV (k9 hm cn.len) (f1.kill kill);have Gi:=(mH.trans cn aj.cj.size m1).sub s2;refine dv hy cH aV cy Q eg dT ct b7 dh a1 qV e8 dK Gi f2 (fun l ak=>?_) bn;obtain⟨r,ar⟩:=ez l ak;exact cn.cj.loops l r ar
   obtain⟨N,dv⟩:=key _ _ _ (.next h k)
   exact⟨N,dv μ ab w a Q eg dT ct b7 dh a1 qV hm aj mH al ez bn⟩
def aie(aq:oz P (eT P pure') call)(ae:Gj P (eT P pure') fA)(e6:P.follows .mixedOrders=true)(fx base){C:mK}{c ac}(aa:ha P pure' c ac)(hE:nD c=true):
 ∀(ro:Option Nat) (n:Nat),anW P (eT P pure') C ro n c (fP call fA (fun b k m=>fR b k m fx) base C ac):=by
 induction aa with
 |skip=>intro ro n fr H r h;exact h.elim
 |label l=>intro ro n fr H r h;exact h.elim
 |exit id=>intro ro n fr H r h;exact h.elim
 |ret=>intro ro n fr H r h;exact h.elim
 |bc=>intro ro n fr H r h;exact h.elim
 |KR=>intro ro n fr H r h;exact h.elim
 |rangeFunc=>intro ro n fr H r h;exact h.elim
 |region id ops draw l b9 kill ar aQ=>
   intro ro n fr H r ag μ ab w a Q h al ez bn;have ag:Ib call fA base C l b9 fr H r:=ag
   have bD:∀dC bL w',bL.defers=a.defers->qv (eT P pure') μ ab w H r dC l fr bL w'->Q (.panic dC) bL w':=fun dC bL w' fz bD=>bn dC bL w' (by rw[<- fz];exact bD.e (C:=C) ag.1)
   cases draw with
   |false=>
     obtain⟨_,⟨i,v,args,H1,cx,aj⟩,_⟩:=ag;refine wpIn_region ?_
     have:=avI (Q:=Q) (ro:=ro) (n:=n) aq ae ar i 0 fr H a w μ ab h al (by simpa using cx) aj bD
     simpa using this
   |true=>exact wpIn_region_any e6 (af7 aq ae ar (aQ rfl) (abF (by simpa[nD]using hE)) ag h al bD)
 |LY id ops cR l b9 kill aj ar aQ=>
   intro ro n fr H r ag μ ab w a Q h al ez bn
   have bD:∀dC bL w',bL.defers=a.defers->qv (eT P pure') μ ab w H r dC l fr bL w'->Q (.panic dC) bL w':=fun dC bL w' fz bD=>bn dC bL w' (by rw[<- fz];exact bD.e (C:=C) ag.1)
   exact wpIn_region_any e6 (adc aj (af7 aq ae ar aQ ((abF (by simpa[nD]using hE)).perm (anM aj)) ag h al bD))
 |seq x y oI q' rf _ sc uh=>
   intro ro n fr H r ag μ ab w a Q h al ez bn;simp only[nD,dr]at hE;refine wpIn_seq ?_
   rcases ag with ag|⟨cg,H1,J,U⟩
   .exact sc hE.1 ro n _ _ _ ag μ ab w a _ h al ez fun dC bL w' bD=>bn dC bL w' bD
   .refine C3 aq e6 fx base rf ro n _ _ _ _ _ J μ ab w a _ h al ez ?_;rintro cy aV ⟨cA,cH,cn,f1,m1⟩;refine uh hE.2 ro n _ _ _ U cA cH aV cy Q cn.ar f1 (fun l ak=>?_) (fun dC a2 b4 bD=>bn dC a2 b4 (wS.trans cn m1 bD));obtain⟨q,bD⟩:=ez l ak;exact cn.cj.loops l q bD
 |cond c o x y oI q' jo _ _ sc uh=>
   intro ro n fr H r ag μ ab w a Q h al ez bn;simp only[nD,dr]at hE;have av:=dY al jo
   rcases ag with⟨he,ag⟩|⟨he,ag⟩
   .rw[he]at av;exact wpIn_cond_true (eA av) (sc hE.1 ro n _ _ _ ag μ ab w a Q h al ez bn)
   .rw[he]at av;exact wpIn_cond_false (eA av) (uh hE.2 ro n _ _ _ ag μ ab w a Q h al ez bn)
 |block id c x _ aw=>
   intro ro n fr H r ag μ ab w a Q h al ez bn;refine wpIn_block ?_;exact aw hE ro n _ _ _ ag μ ab w a _ h al ez fun dC bL w' bD=>bn dC bL w' bD
 |loop c kill x rf aw=>
   intro ro n fr H r ag μ ab w a Q h al ez bn;obtain⟨k,an⟩:=azA (C3 aq e6 fx base rf ro n) (aw hE ro n) kill H.length ag μ ab w a Q μ ab w H a.defers h (bS _) (bS _) (dm.refl h) (Marks.refl _ _ _ _) (al.kill kill) ez bn;exact wpIn_loop_rounds k an
def arY{base}(ei:∀v args base H r H',call v args base H=some (r,H')->H.length<=H'.length/\∀id,id<base->id<H.length->H'[id]?=H[id]?){i l fr H v args H1}(h:lR call base i l fr H=some (v,args,H1)):kE base H H1:=by
 obtain⟨o,f,xs,cg,_,_,ax,_⟩:=V6 l i h;exact O9 ei _ ax
def anw(ei:∀v args base H r H',call v args base H=some (r,H')->H.length<=H'.length/\∀id,id<base->id<H.length->H'[id]?=H[id]?)(aGF:∀v args base H r,fA v args base H r->kE base H r.2.2)(fx base){C:mK}:∀(ac:cM) {fr:List V} {H:az} {r:fh},fP call fA (fun b k m=>fR b k m fx) base C ac fr H r->kE base H r.2.2:=by
 intro ac
 induction ac with
 |region ops b9 kill=>
   intro fr H r he;obtain⟨_,⟨i,v,args,H1,J,U⟩,_⟩:=he;exact(arY ei J).trans (aGF _ _ _ _ _ U)
 |seq a b hK iK=>
   intro fr H r he
   rcases he with he|⟨cg,H1,J,U⟩
   .exact hK he
   .exact(s' ei fx a J).trans (iK U)
 |cond o a b hK iK=>
   intro fr H r he
   rcases he with⟨_,U⟩|⟨_,U⟩
   .exact hK U
   .exact iK U
 |block id a aw=>intro fr H r he;exact aw (fr:=fr) he
 |loop kill a aw=>
   intro fr H r he;have he:oa (fun fr H=>aC call (fun b k m=>fR b k m fx) base a fr H) (fun fr H r=>fP call fA (fun b k m=>fR b k m fx) base C a fr H r) kill H.length (ut kill fr) H r:=he
   suffices h:∀(m:Nat) fr K r,oa (fun fr H=>aC call (fun b k m=>fR b k m fx) base a fr H) (fun fr H r=>fP call fA (fun b k m=>fR b k m fx) base C a fr H r) kill m fr K r->m<=K.length->m<=r.2.2.length/\∀id,id<base->id<m->r.2.2[id]?=K[id]? by
    obtain⟨J,U⟩:=h _ _ _ _ he (bS _);exact⟨J,U⟩
   intro m fr K r ak
   induction ak with
   |here h=>
     intro hm;have f:=aw h;exact⟨k9 hm f.1,fun id J U=>f.2 id J (lX U hm)⟩
   |next h _ nt=>
     intro hm;have f:=s' ei fx a h;rename_i cg aW ph K' bC _;obtain⟨t1,t2⟩:=Jr (fr:=ut kill aW) (k9 hm f.1);obtain⟨bC,bP⟩:=nt t1;exact⟨bC,fun id J U=>(bP id J U).trans ((t2 id U).trans (f.2 id J (lX U hm)))⟩
 |_=>intro fr H r he;exact he.elim
end
open Go.RowKit
def v'(bX:Nat->Option c7)(PP:Nat->List V->Nat->az->fh->Prop)(X:Nat->Bool):Nat->qT
 |0=>fun _ _ _ _ _=>False
 |n+1=>fun v args base H r=>∃f fst cap,v=.fn f fst cap/\
    ((X f=true/\∃c,bX f=some (.code c)/\fP (hZ bX n) (v' bX PP X n) (fun b k m=>fR b k m n) base (fun _ _=>True) c.body (fst++args++cap++List.replicate (c.ntmps-(fst++args++cap).length) bR) H r)\/PP f (fst++args++cap) base H r)
section
variable {aE:fD} {μ ca:dn} {ab b6:Nat->Prop} {w w':World} {H H':az} {P:Program} {pure':gH}
def aGz{eg}{dT:Nat->Prop}{ct b7}{fn:Func}{tmps x c}{R:Ending->World->Prop}{n dC}(ER:∀w',dm aE eg dT ct b7 μ ab w' H->bM μ ab w' x c->R (.panicked dC) w'):
 ∀(L:List Nat) (w:World),dm aE eg dT ct b7 μ ab w H->bM μ ab w x c->L.Nodup->(∀D∈L,ct.heap.size<=D/\w.heap[D]?=some (.deferred (some []))/\∀id g b,μ id g≠some (D,b))->
   LeavesInM Fence.wide n P fn tmps R (L.map Iz) (.panicking dC) w:=by
 intro L
 induction L with
 |nil=>intro w aj al _ _;exact ER w aj al
 |cons D L aw=>
   intro w aj al ki dw;obtain⟨J,U,ax⟩:=dw D iH
   refine⟨by simp,.inl ⟨D,_,rfl,run_takeDeferred U,?_⟩⟩
   obtain⟨cn,av⟩:=N5 (y:=none) aj J U ax;refine aw _ cn (av al) (DI.1 ki).2 (fun E bx=>?_);obtain⟨k1,k2,dx⟩:=dw E (hP _ bx)
   have dq:E≠D:=fun e=>by subst e;exact(DI.1 ki).1 bx
   exact⟨k1,(World.putObj_heap_other dq).trans k2,dx⟩
def Ny(P:Program)(pure':gH)(PP:Nat->List V->Nat->az->fh->Prop):Prop:=
 ∀k vs base H r,PP k vs base H r->kE base H r.2.2/\(∀xs w,(callFunc k xs).run P w=.ok (.enter k xs) w)/\
   ∀μ ab w cs,cB (eT P pure') μ ab w H->b0 μ ab w vs cs->∀n,CallsIn Fence.wide n P k cs.toArray w (fun e w'=>∃dC,e=.panicked dC/\CX (eT P pure') μ ab w H r dC w')
variable {bX:Nat->Option c7} {PP:Nat->List V->Nat->az->fh->Prop} {X:Nat->Bool}
def aAZ(e6:P.follows .mixedOrders=true)(iS:∀k c,bX k=some c->lq P pure' k c)(hE:∀k fn body,X k=true->P.funcs[k]?=some fn->fn.body=some body->nD body=true)(KS:Ny P pure' PP):∀n,Gj P (eT P pure') (v' bX PP X n):=by
 intro n
 induction n with
 |zero=>exact⟨fun _ _ _ _ _ _ _ h=>h.elim,fun _ _ _ _ _ h=>h.elim,fun _ _ _ _ _ h=>h.elim⟩
 |succ n aw=>
   refine⟨fun f fst cap args base H r h=>?_,fun v args base H r h=>by obtain⟨f,fst,cap,e,_⟩:=h;exact⟨f,fst,cap,e⟩,fun v args base H r h=>by
    obtain⟨f,fst,cap,e,⟨_,c,_,BE⟩|BE⟩:=h
    .exact anw (BD e6 iS n).floor aw.floor n base c.body BE
    .exact(KS _ _ _ _ _ BE).1⟩
   obtain⟨eU,fs,eP,e,h⟩:=h;cases e
   rcases h with⟨cx,c,aa,BE⟩|h
   .obtain⟨fn,body,J,U,ax,aY,cl,eM⟩:=iS f _ aa;refine⟨Go.Proofs.enters_of J ax U,fun μ ab w cs hh dE m=>?_⟩;refine callsIn_of_wp_marks J U trivial ?_
    have lU:c9 μ ab w (fst++args++cap++List.replicate (c.ntmps-(fst++args++cap).length) bR) (cs.toArray++Array.replicate (fn.ntmps-cs.toArray.size) Go.undef):=by
     unfold c9;have:=dE.append (EL (μ:=μ) (ab:=ab) (w:=w) (c.ntmps-(fst++args++cap).length));simp only[K0,Ly,s0,cl];rw[dE.1]at this |-;exact this
    refine aie (BD e6 iS n) aw e6 n base aY (hE _ _ _ cx J U) none m _ H r BE μ ab w { tmps:=cs.toArray++Array.replicate (fn.ntmps-cs.toArray.size) Go.undef,defers:=[] } _ hh lU (fun l ak=>by cases ak) ?_
    rintro dC bL w' ⟨bZ,cA,cH,_,_,_,aF,v1,cn,⟨L,dw,ki,Bu⟩,_⟩;show LeavesInM Fence.wide m P fn bL.tmps _ bL.defers (.panicking dC) w';rw[dw,vC];exact aGz (μ:=cA) (ab:=cH) (x:=r.2.1) (c:=bZ) (fun b4 dK v2=>⟨dC,rfl,bZ,cA,cH,aF,v2,dK⟩) L w' cn v1 ki Bu
   .exact(KS f _ base H r h).2
end
section
variable {bX:Nat->Option c7} {PP:Nat->List V->Nat->az->fh->Prop} {X:Nat->Bool}
def JQ(p ia:qT):Prop:=∀v args base H r,p v args base H r->ia v args base H r
def Ry{c c':c5}(h:sK c c'){base}:∀(i:Nat) (l:List cF) {fr:List V} {H:az} {r:V × List V × az},lR c base i l fr H=some r->lR c' base i l fr H=some r:=by
 intro i
 induction i with
 |zero=>intro l fr H r he;cases l<;>exact he
 |succ i aw=>
   intro l fr H r he;cases l with
   |nil=>exact he
   |cons o l=>
     simp only[lR]at he |-;split at he
     .cases he
     .exact aw l he
     .split at he
      .rename_i v H1 J;rw[Jv h J];exact aw l he
      .cases he
def ayi{C:mK}{c c':c5}{p ia:qT}(h:sK c c')(k:JQ p ia){base ops b9 fr H}{r:fh}(he:Ib c p base C ops b9 fr H r):Ib c' ia base C ops b9 fr H r:=by
 obtain⟨a1,⟨i,v,args,H1,J,U⟩,ax⟩:=he;exact⟨a1,⟨i,v,args,H1,Ry h i ops J,k _ _ _ _ _ U⟩,ax⟩
def Zs{b b':List V->az->Option cJ}{x gw:List V->az->fh->Prop}(af:∀fr H r,b fr H=some r->b' fr H=some r)(ae:∀fr H r,x fr H r->gw fr H r){kill m fr H}{r:fh}(h:oa b x kill m fr H r):oa b' gw kill m fr H r:=by
 induction h with
 |here h=>exact .here (ae _ _ _ h)
 |next h _ aw=>exact .next (af _ _ _ h) aw
def J'{C:mK}{c c':c5}{p ia:qT}(h:sK c c')(k:JQ p ia){n c3}(aN:n<=c3){base}:∀(ac:cM) {fr:List V} {H:az} {r:fh},fP c p (pt n) base C ac fr H r->fP c' ia (pt c3) base C ac fr H r:=by
 intro ac
 induction ac with
 |region ops b9 kill=>intro fr H r he;exact ayi h k he
 |seq a b hK iK=>
   intro fr H r he
   rcases he with he|⟨cg,H1,J,U⟩
   .exact .inl (hK he)
   .exact .inr ⟨cg,H1,y5 h aN a J,iK U⟩
 |cond o a b hK iK=>
   intro fr H r he
   rcases he with⟨J,U⟩|⟨J,U⟩
   .exact .inl ⟨J,hK U⟩
   .exact .inr ⟨J,iK U⟩
 |block id a aw=>intro fr H r he;exact aw (fr:=fr) he
 |loop kill a aw=>intro fr H r he;exact Zs (fun fr H r e=>y5 h aN a e) (fun fr H r e=>aw e) he
 |_=>intro fr H r he;exact he.elim
def asY:∀n,JQ (v' bX PP X n) (v' bX PP X (n+1)):=by
 intro n
 induction n with
 |zero=>intro v args base H r h;exact h.elim
 |succ n aw=>
   intro v args base H r h;obtain⟨f,fst,cap,e,h⟩:=h;refine⟨f,fst,cap,e,?_⟩
   rcases h with⟨cx,c,aa,h⟩|h
   .exact .inl ⟨cx,c,aa,J' (N6 n) aw (Mn n) c.body h⟩
   .exact .inr h
def Me{n m}(h:n<=m):JQ (v' bX PP X n) (v' bX PP X m):=by
 induction h with
 |refl=>exact fun _ _ _ _ _ h=>h
 |step _ aw=>exact fun v args base H r h=>asY _ _ _ _ _ _ (aw _ _ _ _ _ h)
def n3(bX:Nat->Option c7)(PP:Nat->List V->Nat->az->fh->Prop)(X:Nat->Bool):qT:=fun v args base H r=>∃n,v' bX PP X n v args base H r
def awm{base}:∀(i:Nat) (l:List cF) {fr:List V} {H:az} {r:V × List V × az},lR (aU bX) base i l fr H=some r->∃n,lR (hZ bX n) base i l fr H=some r:=by
 intro i
 induction i with
 |zero=>intro l fr H r he;refine⟨0,?_⟩;cases l<;>exact he
 |succ i aw=>
   intro l fr H r he;cases l with
   |nil=>exact⟨0,he⟩
   |cons o l=>
     simp only[lR]at he;split at he
     .cases he
     .rename_i hw;obtain⟨n,aN⟩:=aw l he;refine⟨n,?_⟩;simp only[lR,hw];exact aN
     .rename_i hw;split at he
      .rename_i v H1 J;obtain⟨cw,lS⟩:=ahr J;obtain⟨bN,kW⟩:=aw l he;refine⟨max cw bN,?_⟩;simp only[lR,hw];rw[Jv (q4 (sS cw bN)) lS];exact Ry (q4 (pu cw bN)) i l kW
      .cases he
def Yn{C:mK}{base}:∀(ac:cM) {fr:List V} {H:az} {r:fh},fP (aU bX) (n3 bX PP X) aG base C ac fr H r->∃n,fP (hZ bX n) (v' bX PP X n) (pt n) base C ac fr H r:=by
 intro ac
 induction ac with
 |region ops b9 kill=>
   intro fr H r he;obtain⟨a1,⟨i,v,args,H1,J,bN,U⟩,ax⟩:=he;obtain⟨cw,lS⟩:=awm i ops J;exact⟨max cw bN,a1,⟨i,v,args,H1,Ry (q4 (sS cw bN)) i ops lS,Me (pu cw bN) _ _ _ _ _ U⟩,ax⟩
 |seq a b hK iK=>
   intro fr H r he
   rcases he with he|⟨cg,H1,J,U⟩
   .obtain⟨n,aN⟩:=hK he;exact⟨n,.inl aN⟩
   .obtain⟨cw,lS⟩:=sW a J;obtain⟨bN,kW⟩:=iK U;exact⟨max cw bN,.inr ⟨cg,H1,mQ (sS cw bN) lS,J' (q4 (pu cw bN)) (Me (pu cw bN)) (pu cw bN) b kW⟩⟩
 |cond o a b hK iK=>
   intro fr H r he
   rcases he with⟨J,U⟩|⟨J,U⟩
   .obtain⟨n,aN⟩:=hK U;exact⟨n,.inl ⟨J,aN⟩⟩
   .obtain⟨n,aN⟩:=iK U;exact⟨n,.inr ⟨J,aN⟩⟩
 |block id a aw=>intro fr H r he;exact aw (fr:=fr) he
 |loop kill a aw=>
   intro fr H r he;have he:oa (fun fr H=>aC (aU bX) aG base a fr H) (fun fr H r=>fP (aU bX) (n3 bX PP X) aG base C a fr H r) kill H.length (ut kill fr) H r:=he
   suffices h:∀m fr H r,oa (fun fr H=>aC (aU bX) aG base a fr H) (fun fr H r=>fP (aU bX) (n3 bX PP X) aG base C a fr H r) kill m fr H r->∃n,oa (fun fr H=>aC (hZ bX n) (pt n) base a fr H) (fun fr H r=>fP (hZ bX n) (v' bX PP X n) (pt n) base C a fr H r) kill m fr H r from h _ _ _ _ he
   intro m fr H r he
   induction he with
   |here h=>obtain⟨n,aN⟩:=aw h;exact⟨n,.here aN⟩
   |next h _ nt=>
     obtain⟨cw,lS⟩:=sW a h;obtain⟨bN,kW⟩:=nt
     refine⟨max cw bN,.next (mQ (sS cw bN) lS) (Zs (fun fr H r e=>?_) (fun fr H r e=>?_) kW)⟩
     .exact mQ (pu cw bN) e
     .exact J' (q4 (pu cw bN)) (Me (pu cw bN)) (pu cw bN) a e
 |_=>intro fr H r he;exact he.elim
def AV{f}{c:eI}(cx:X f=true)(al:bX f=some (.code c)){fst args cap}(ak:(fst++args++cap).length<=c.ntmps){base H}{r:fh}(h:fP (aU bX) (n3 bX PP X) aG base (fun _ _=>True) c.body (au c.ntmps (gC c.ntmps (fst++args++cap) 0)) H r):n3 bX PP X (.fn f fst cap) args base H r:=by
 obtain⟨n,aN⟩:=Yn c.body h;refine⟨n+1,f,fst,cap,rfl,.inl ⟨cx,c,al,?_⟩⟩;rw[start_eq ak];exact aN
def aFj{f fst args cap base H}{r:fh}(h:PP f (fst++args++cap) base H r):n3 bX PP X (.fn f fst cap) args base H r:=⟨1,f,fst,cap,rfl,.inr h⟩
def dG{C:mK}{call:c5}{fA:qT}{it:gS}{base a b fr cg H H1}{r:fh}(h:aC call it base a fr H=some (.bH,cg,H1))(k:fP call fA it base C b cg H1 r):fP call fA it base C (.seq a b) fr H r:=.inr ⟨_,_,h,k⟩
def kb{C:mK}{call:c5}{fA:qT}{it:gS}{base a b fr H}{r:fh}(h:fP call fA it base C a fr H r):fP call fA it base C (.seq a b) fr H r:=.inl h
end
open Go.RowKit
section
variable {P:Program} {pure':gH} {bX:Nat->Option c7}
def BO{F:Fence}{n ops}{Q:Exit->Act->World->Prop}{i rest a w o}(aT:ops[i]?=some o)(bb:o.guard=none)(h:o.wpIn F n P a w (wpOpsIn F n P ops Q rest) Q):wpOpsIn F n P ops Q (i::rest) a w:=by
 rw[wpOpsIn_cons];unfold wpOpIn;simp only[aT]
 rw[a' (by simp[Region.wanted,bb])]
 exact h
def afG{μ}{ab:Nat->Prop}{w fr t}(h:c9 μ ab w fr t):t.size=fr.length:=by
 have:=h.1
 simpa using this.symm
def K7{aE:fD}{μ ca:dn}{ab b6:Nat->Prop}{w w':World}{H H':az}{a:Act}{o:Oper}{d:Nat}{v:V}{r:Value}{fr:List V}(h:cB aE μ ab w H)(p:dm aE μ ab w H ca b6 w' H')(al:c9 μ ab w fr a.tmps)(aQ:o.dst=some d)(av:bM ca b6 w' v r):c9 ca b6 w' (put (some d) v fr) (a.put o.dst r).tmps:=by
 rw[aQ];exact(al.post h p).put (some d) av
def awD(e6:P.follows .mixedOrders=true)(iS:∀k c,bX k=some c->lq P pure' k c){k Td m id:Nat}{fn:Func}{q2 fK jU oM ux:Oper}{jy:TypeId}{z:List V}(al : P.funcs[k]? = some fn)(af : fn.body = some (.region id #[q2, fK, jU, oM, ux] false))(oF : (fn.name == "runtime.NumGoroutine") = false)(Gc : fn.ntmps = 6)(dR:p4 P pure'.b q2=some (.move (.t 0)))(d0:q2.dst=some 2)(g0:q2.guard=none)(cq:p4 P pure'.b fK=some (.call (.c (.fn Td [] [])) [.t 2]))(d1:fK.dst=some 3)(g1:fK.guard=none)(cN:p4 P pure'.b jU=some (.build z [(0,m)] [(0,.t 3)]))(b5:z.length=m)(d2:jU.dst=some 4)(g2:jU.guard=none)(dS:oM.op=.makeInterface jy (.tmp 4))(d3:oM.dst=some 5)(g3:oM.guard=none)(auI:P.concrete jy=true)(e3:ux.op=.panic (.tmp 5))(g4:ux.guard=none):
 ∀(vs:List V) (base:Nat) (H:az) (r:fh),(∃v cs H1 n,vs=[v]/\hZ bX n (.fn Td [] []) [v] base H=some (.agg cs,H1)/\cs.length=m/\cs.all V.one=true/\r=(jy,.agg cs,H1))->
   kE base H r.2.2/\(∀xs w,(callFunc k xs).run P w=.ok (.enter k xs) w)/\
   ∀μ ab w cs,cB (eT P pure') μ ab w H->b0 μ ab w vs cs->∀n,CallsIn Fence.wide n P k cs.toArray w (fun e w'=>∃dC,e=.panicked dC/\CX (eT P pure') μ ab w H r dC w'):=by
 rintro vs base H r ⟨v,cs,H1,n,rfl,iQ,dd,f',rfl⟩;have aq:=BD e6 iS n;refine⟨aq.floor _ _ _ _ _ _ iQ,Go.Proofs.enters_of al oF af,fun μ ab w aiG h dE fx=>?_⟩
 obtain⟨bZ,rfl⟩:∃bZ,aiG=[bZ]:=by
  have:=dE.1
  match aiG,this with
  | [x],_=>exact⟨x,rfl⟩
 refine callsIn_of_wp_marks al af trivial (wpIn_region ?_);have aKg:bM μ ab w v bZ:=dE.2 0 v bZ rfl rfl;obtain⟨a0,rR⟩:∃a0:Act,{ tmps:=[bZ].toArray++Array.replicate (fn.ntmps - [bZ].toArray.size) Go.undef,defers:=[] }=a0:=⟨_,rfl⟩
 have lU:c9 μ ab w [v,bR,bR,bR,bR,bR] a0.tmps:=by
  unfold c9;have:=dE.append (EL (μ:=μ) (ab:=ab) (w:=w) 5);rw[<- rR,Gc]
  simpa using this
 have Bs:a0.defers=[]:=by rw[<- rR]
 rw[rR];show wpOpsIn (hX none) fx P #[q2,fK,jU,oM,ux] _ [0,1,2,3,4] a0 w;refine BO (o:=q2) rfl g0 (vJ aq h lU (.inl dR) (base:=base) (v:=v) (H':=H) rfl ?_);rintro hq ct ⟨kK,eg,dT,auS,ap3,ku⟩;cases auS;have f1:c9 eg dT ct [v,bR,v,bR,bR,bR] (a0.put q2.dst hq).tmps:=K7 h ku lU d0 ap3;obtain⟨cy,Lt⟩:∃cy,a0.put q2.dst hq=cy:=⟨_,rfl⟩;rw[Lt]at f1 |-;refine BO (o:=fK) rfl g1 (vJ aq ku.ar f1 (.inl cq) (base:=base) (v:=.agg cs) (H':=H1) iQ ?_);rintro bC aV ⟨bp,cA,cH,ti,oW,cn⟩;cases ti;have f2:c9 cA cH aV [v,bR,v,.agg cs,bR,bR] (cy.put fK.dst bC).tmps:=K7 ku.ar cn f1 d1 oW;obtain⟨a2,B6⟩:∃a2,cy.put fK.dst bC=a2:=⟨_,rfl⟩;rw[B6]at f2 |-
 have jl:bf (hZ bX n) base [v,bR,v,.agg cs,bR,bR] H1 (.build z [(0,m)] [(0,.t 3)])=some (.agg cs,H1):=by
  have fO:iy z 0 cs=cs:=by
   unfold iy
   rw[gq,km,qO (by omega),vC]
  simp only[bf,lL,x7,kv,aX,mo,jg,Da,V.cells,dd,b5,f',j2,bS,Hf,fl,fO]
 refine BO (o:=jU) rfl g2 (vJ aq cn.ar f2 (.inl cN) (base:=base) (v:=.agg cs) (H':=H1) jl ?_);rintro bP b4 ⟨aP,hy,lu,ov,jW,dK⟩;cases ov;have f3:c9 hy lu b4 [v,bR,v,.agg cs,.agg cs,bR] (a2.put jU.dst bP).tmps:=K7 cn.ar dK f2 d2 jW;obtain⟨a3,afY⟩:∃a3,a2.put jU.dst bP=a3:=⟨_,rfl⟩;rw[afY]at f3 |-
 have arU:a3.defers=[]:=by rw[<- afY,put_defers,<- B6,put_defers,<- Lt,put_defers,Bs]
 refine BO (o:=oM) rfl g3 ⟨fun _ _=>trivial,?_⟩
 rw[Oper.semAt_eq _ _ _ (by simp[dS])]
 have rK:∀(a:Act) (w:World),(execOp a.eval oM).run P w=.ok (.value (.iface jy (a.eval (.tmp 4)))) w:=by
  intro a w;unfold execOp;simp only[dS,Sem.run_bind,run_makeInterface w jy _ auI,eb,Sem.run_pure]
 rw[rK];show wpOpsIn (hX none) fx P #[q2,fK,jU,oM,ux] _ [4] (a3.put oM.dst _) b4;refine BO (o:=ux) rfl g4 ⟨fun _ _=>trivial,?_⟩
 rw[Oper.semAt_eq _ _ _ (by simp[e3])]
 have qC:∀(a:Act) (w:World) (T:TypeId) (x:Value),a.eval (.tmp 5)=.iface T x->(execOp a.eval ux).run P w=.halt (.panic (.iface T x)) w:=by
  intro a w T x ae;unfold execOp;simp only[e3,ae,Sem.run_bind,run_panic_iface];rfl
 have de:=afG f3;simp only[gP,d9]at de
 rw[qC _ _ jy (a3.eval (.tmp 4)) (by rw[d3];simp[Act.eval,Act.put,de])]
 show LeavesInM Fence.wide fx P fn _ _ (a3.put oM.dst _).defers _ b4;rw[put_defers,arU];exact⟨_,rfl,_,hy,lu,rfl,f3.getD 4,(ku.trans cn).trans dK⟩
end
open Go.RowKit
section
variable {aE:fD} {μ ca:dn} {ab b6:Nat->Prop} {w w':World} {H H':az} {P:Program} {pure':gH} {call:c5}
def qs:Code->Bool
 |.skip=>true
 |.label _=>true
 |.region _ _ _=>true
 |.seq a b=>qs a&&qs b
 |.cond _ a b=>qs a&&qs b
 |.ret=>true
 |.exit _=>true
 |_=>false
def ox.kill{dh aW bL}(kill)(h:ox aE μ ab w H dh aW H' bL w'):ox aE μ ab w H dh (ut kill aW) H' bL w':=by
 obtain⟨ca,b6,J,U,ax⟩:=h;exact⟨ca,b6,J,U.kill kill,ax⟩
def ox.trans{cA}{cH:Nat->Prop}{aV H1 dh vc aW bL}(aj:dm aE μ ab w H cA cH aV H1)(aQ:vc=dh)(h:ox aE cA cH aV H1 vc aW H' bL w'):ox aE μ ab w H dh aW H' bL w':=by
 obtain⟨ca,b6,J,U,ax⟩:=h;exact⟨ca,b6,aj.trans J,U,ax.trans aQ⟩
def E4(aq:oz P (eT P pure') call)(e6:P.follows .mixedOrders=true)(fx base){c ac}(aa:ha P pure' c ac)(ei:qs c=true):
 ∀(ro:Option Nat) (n:Nat) (fr:List V) (H:az) (e:rC) (aW:List V) (H':az),aC call (fun b k m=>fR b k m fx) base ac fr H=some (e,aW,H')->∀(μ:dn) (ab:Nat->Prop) (w:World) (a:Act) (Q:Exit->Act->World->Prop),cB (eT P pure') μ ab w H->c9 μ ab w fr a.tmps->
   (∀bL w',ox (eT P pure') μ ab w H a.defers aW H' bL w'->Q (Ka e) bL w')->c.wpIn (hX ro) n P Q a w:=by
 induction aa with
 |skip=>
   intro ro n fr H e aW H' ag μ ab w a Q h al bn;simp only[aC]at ag;cases ag;exact wpIn_skip (bn a w ⟨μ,ab,dm.refl h,al,rfl⟩)
 |label l=>
   intro ro n fr H e aW H' ag μ ab w a Q h al bn;simp only[aC]at ag;cases ag;exact wpIn_label (bn a w ⟨μ,ab,dm.refl h,al,rfl⟩)
 |exit id=>
   intro ro n fr H e aW H' ag μ ab w a Q h al bn;simp only[aC]at ag;cases ag;exact wpIn_exit (bn a w ⟨μ,ab,dm.refl h,al,rfl⟩)
 |ret=>
   intro ro n fr H e aW H' ag μ ab w a Q h al bn;simp only[aC]at ag;cases ag;exact wpIn_ret (bn a w ⟨μ,ab,dm.refl h,al,rfl⟩)
 |block=>cases ei
 |loop=>cases ei
 |rangeFunc=>cases ei
 |region id ops draw l b9 kill ar aQ=>
   intro ro n fr H e aW H' ag μ ab w a Q h al bn;simp only[aC]at ag;split at ag
   .rename_i cg H1 J;split at ag
    .rename_i sQ;cases ag;cases draw with
     |false=>
       refine wpIn_region ?_
       have:=SU (Q:=Q) (ro:=ro) (n:=n) aq ar ops.size 0 fr H a w μ ab (by omega) h al (by simpa using J) (fun bL w' bD=>bn bL w' (bD.kill kill))
       simpa using this
     |true=>exact wpIn_region_any e6 (Hl aq ar (aQ rfl) J sQ h al fun bL w' bD=>bn bL w' (bD.kill kill))
    .cases ag
   .cases ag
 |bc id ops draw l kill jL ar aQ=>
   intro ro n fr H e aW H' ag μ ab w a Q h al bn;simp only[aC]at ag;split at ag
   .rename_i f2 U;cases ag;obtain⟨f1,J,rfl⟩:=De (call:=call) (base:=base) U;cases draw with
    |false=>
      refine wpIn_region ?_
      have:=SU (Q:=Q) (ro:=ro) (n:=n) aq ar ops.size 0 fr H a w μ ab (by omega) h al (by simpa using J) (fun bL w' bD=>bn bL w' (bD.kill kill))
      simpa using this
    |true=>exact wpIn_region_any e6 (Hl aq ar (aQ rfl) J rfl h al fun bL w' bD=>bn bL w' (bD.kill kill))
   .cases ag
 |LY id ops cR l b9 kill aj ar aQ=>
   intro ro n fr H e aW H' ag μ ab w a Q h al bn;simp only[aC]at ag;split at ag
   .rename_i cg H1 J;split at ag
    .rename_i sQ;cases ag;exact wpIn_region_any e6 (adc aj (Hl aq ar aQ J sQ h al fun bL w' bD=>bn bL w' (bD.kill kill)))
    .cases ag
   .cases ag
 |KR id ops cR l kill jL aj ar aQ=>
   intro ro n fr H e aW H' ag μ ab w a Q h al bn;simp only[aC]at ag;split at ag
   .rename_i f2 U;cases ag;obtain⟨f1,J,rfl⟩:=De (call:=call) (base:=base) U;exact wpIn_region_any e6 (adc aj (Hl aq ar aQ J rfl h al fun bL w' bD=>bn bL w' (bD.kill kill)))
   .cases ag
 |seq x y oI q' _ _ sc uh=>
   intro ro n fr H e aW H' ag μ ab w a Q h al bn;simp only[qs,dr]at ei;simp only[aC]at ag;split at ag
   .rename_i cg H1 J;refine wpIn_seq (sc ei.1 ro n _ _ _ _ _ J μ ab w a _ h al ?_);rintro cy aV ⟨cA,cH,cn,f1,d1⟩;exact uh ei.2 ro n _ _ _ _ _ ag cA cH aV cy Q cn.ar f1 fun a2 b4 bD=>bn a2 b4 (ox.trans cn d1 bD)
   .rename_i dq;refine wpIn_seq (sc ei.1 ro n _ _ _ _ _ ag μ ab w a _ h al ?_);intro cy aV J;have:=bn cy aV J;cases e with
    |bH=>exact(dq _ _ ag).elim
    |ext id=>exact this
    |ret=>exact this
 |cond c o x y oI q' jo _ _ sc uh=>
   intro ro n fr H e aW H' ag μ ab w a Q h al bn;simp only[qs,dr]at ei;simp only[aC]at ag;have av:=dY al jo;split at ag
   .rename_i he;rw[he]at av;exact wpIn_cond_true (eA av) (sc ei.1 ro n _ _ _ _ _ ag μ ab w a Q h al bn)
   .rename_i he;rw[he]at av;exact wpIn_cond_false (eA av) (uh ei.2 ro n _ _ _ _ _ ag μ ab w a Q h al bn)
   .cases ag
def asc[oG aE P](h:cB aE μ ab w H){a:Act}{fr:List V}(al:c9 μ ab w fr a.tmps){o:Oper}{h7:b3}{base:Nat}{v:V}(aa:BZ P pure' o h7)(ix:h7.kh=false)(ag:bf call base fr H h7=some (v,H')):
 ∃bZ aV,((execOp a.eval o).run P w=.ok (.value bZ) aV\/((execOp a.eval o).run P w=.ok .skip aV/\bZ=Go.undef))/\nr aE μ ab w H v H' (.returned bZ) aV:=by
 have key:∀(xl:b3) (b:Nat),p4 P pure' o=some xl->xl.kh=false->bf call b fr H xl=some (v,H')->∃bZ aV,((execOp a.eval o).run P w=.ok (.value bZ) aV\/((execOp a.eval o).run P w=.ok .skip aV/\bZ=Go.undef))/\nr aE μ ab w H v H' (.returned bZ) aV:=by
  intro xl b U aN he
  rcases wg U with⟨g,args,iL,ui,y,aT,_,_,⟨k,_,e⟩|e⟩|⟨k0,apU,ki⟩
  .rw[e]at aN;cases aN
  .rw[e]at aN;cases aN
  .obtain⟨bZ,aV,cA,cH,ar,my,aj⟩:=Au h al k0 apU he
   rcases ar with ar|⟨ar,rfl⟩
   .exact⟨bZ,aV,.inl ar,bZ,cA,cH,rfl,my,aj⟩
   .exact⟨_,aV,.inr ⟨ar,rfl⟩,_,cA,cH,rfl,my,aj⟩
 rcases aa with aa|⟨eU,ui,aa,e⟩|⟨k,ui,aa,e⟩|⟨sz,b,s,x,aa,e⟩|e
 .exact key _ base aa ix ag
 .rw[e]at ix;cases ix
 .rw[e]at ix;cases ix
 .subst e;exact key (.append sz b s x) H.length aa rfl ag
 .subst e;cases ag
def aFW[oG aE P]{ops:Array Oper}{l:List cF}(ar:pb P pure' ops l){base n:Nat}{Q:Exit->Act->List Frame->World->Prop}{cs:List Frame}{aW:List V}{H':az}:
 ∀(j k:Nat) (fr:List V) (H:az) (a:Act) (w:World) (μ:dn) (ab:Nat->Prop),j+k=ops.size->(∀i,k<=i->i<l.length->(l.getD i default).op.kh=false)->cB aE μ ab w H->c9 μ ab w fr a.tmps->cu call base (l.drop k) fr H=some (aW,H')->
   (∀bL w',ox aE μ ab w H a.defers aW H' bL w'->Q .normal bL cs w')->wpOpsSIn Fence.wide n P ops Q ((List.range ops.size).drop k) a cs w:=by
 intro j
 induction j with
 |zero=>
   intro k fr H a w μ ab an _ h al ag bn
   have kQ:k=ops.size:=by omega
   subst kQ
   rw[zW (by simp)]
   rw[zW (by rw[ar.1];exact bS _)]at ag
   cases ag;exact bn a w ⟨μ,ab,dm.refl h,al,rfl⟩
 |succ j aw=>
   intro k fr H a w μ ab an jf h al ag bn
   have bt:k<ops.size:=by omega
   have AQ:k<l.length:=by rw[ar.1];exact bt
   have aF:(List.range ops.size).drop k=k::(List.range ops.size).drop (k+1):=by
    rw[hN (by simpa using bt)];simp
   rw[aF];rw[hN AQ]at ag;have aT:ops[k]?=some ops[k]:=o8 bt;obtain⟨aQ,aa,bb⟩:=ar.2 k ops[k] l[k] aT (dy AQ)
   have Nz:l[k].op.kh=false:=by
    have:=jf k (bS _) AQ
    rwa[ra (dy AQ)]at this
   simp only[wpOpsSIn,aT];refine⟨fun _ _=>trivial,?_⟩;simp only[cu]at ag;split at ag
   .cases ag
   .rename_i hw;rw[tK bb al hw];simp only[lk,gx]
    refine aw (k+1) _ H _ w μ ab (by omega) (fun i J U=>jf i (by omega) U) h (aQ▸al.put _ (.s _)) ag (fun bL w' bD=>bn bL w' ?_)
    rw[put_defers]at bD;exact bD
   .rename_i hw;rw[tK bb al hw];simp only[fl];split at ag
    .rename_i v H1 cE;obtain⟨bZ,aV,fp,c',cA,cH,e,av,aj⟩:=asc (call:=call) h al aa Nz cE;cases e
     have next:wpOpsSIn Fence.wide n P ops Q ((List.range ops.size).drop (k+1)) (a.put ops[k].dst bZ) cs aV:=by
      refine aw (k+1) _ H1 _ aV cA cH (by omega) (fun i J U=>jf i (by omega) U) aj.ar (aQ▸(al.post h aj).put _ av) ag (fun bL w' bD=>bn bL w' ?_)
      rw[put_defers]at bD;exact ox.trans aj rfl bD
     rcases fp with fp|⟨fp,rfl⟩
     .rw[fp];exact next
     .rw[fp];exact next
    .cases ag
inductive Hy (jy:TypeId) (z:V) (μ:dn) (ab:Nat->Prop) (w:World):FrameMode->FrameMode->V->Prop
 |fA (x:V) (c:Value) (h:bM μ ab w x c):Hy jy z μ ab w (.panicking [{ v:=.iface jy c,recovered:=false }]) (.panicking [{ v:=.iface jy c,recovered:=true }]) (.bV [x,.s (.bool true)])
 |nil:Hy jy z μ ab w .returning .returning (.bV [z,.s (.bool false)])
variable {bX:Nat->Option c7}
def aGR(e6:P.follows .mixedOrders=true)(iS:∀k c,bX k=some c->lq P pure' k c){k qa hq bC N}{fn:Func}{cN wh nR ij IJ jy j1 od iL}(al:P.funcs[k]?=some fn)(af:fn.body=some (.seq (.region qa nR false) cN))(jn:fn.results=#[])(Gc:fn.ntmps=N)(OF:pb P pure' nR ij)(oC:ha P pure' cN wh)(ei:qs cN=true)(jf:∀i,2<=i->i<ij.length->(ij.getD i default).op.kh=false)(b8:nR[0]?=some j1)(avx:j1.op=.call { callee:=.builtin .recover,args:=#[],argTypes:=iL })(UC:j1.dst=some hq)(arL:j1.guard=none)(ib:nR[1]?=some od)(axi:od.op=.typeAssert (.tmp hq) IJ jy true)(atT:od.dst=some bC)(aot:od.guard=none)(Ad:hq<N)(eQ:∀(v:Value) (w:World),(Instr.typeAssert (.iface jy v) IJ jy true).run P w=.ok (.tuple #[v,.bool true]) w){z ew}(aAB:∀(w:World),(Instr.typeAssert .nilIface IJ jy true).run P w=.ok (.tuple #[ew,.bool false]) w)(b5:∀(μ:dn) (ab:Nat->Prop) (w:World),bM μ ab w z ew){u rb:FrameMode}{y μ}{ab:Nat->Prop}{w H}(h:cB (eT P pure') μ ab w H){vs cs}(dE:b0 μ ab w vs cs)(u5:vs.length<=N)(hu:Hy jy z μ ab w u rb y){n base ik I1 c6 gj}(ax:cu (hZ bX n) base (ij.drop 2) (put (some bC) y (put (some hq) .bs (vs++List.replicate (N-vs.length) bR))) H=some (ik,c6))(aY:aC (hZ bX n) (fun b k m=>fR b k m n) base wh ik c6=some (.bH,I1,gj)){m}{R:Ending->FrameMode->World->Prop}(bn:∀v ca b6 w',dm (eT P pure') μ ab w H ca b6 w' gj->R (.returned v) rb w'):
 CallsDIn Fence.wide m P k cs.toArray u w R:=by
 have aq:=BD e6 iS n;refine callsDIn_of_wpSIn al af trivial fun dR Et pg=>wpSIn_seq (wpSIn_region ?_);obtain⟨a0,rR⟩:∃a0:Act,{ tmps:=cs.toArray++Array.replicate (fn.ntmps-cs.toArray.size) Go.undef,defers:=[] }=a0:=⟨_,rfl⟩
 have Bs:a0.defers=[]:=by rw[<- rR]
 have lU:c9 μ ab w (vs++List.replicate (N-vs.length) bR) a0.tmps:=by
  unfold c9;have:=dE.append (EL (μ:=μ) (ab:=ab) (w:=w) (N-vs.length));rw[<- rR,Gc];simp only[K0,Ly,s0];rw[dE.1]at this |-;exact this
 rw[rR];have ayq:1<nR.size:=(qS.1 ib).1;have aJA:2<=nR.size:=ayq
 have yy:List.range nR.size=0::1::(List.range nR.size).drop 2:=by
  have aF:List.range nR.size=(List.range nR.size).drop 0:=rfl
  rw[hN (by simp;omega),hN (by simp;omega)]at aF
  simpa using aF
 rw[yy]
 have ayI:∀(a:Act) (w:World),(execOp a.eval j1).run P w=.ok .recover w:=by
  intro a w;unfold execOp;simp only[avx,resolve,Sem.run_bind,Sem.run_pure,eb,invoke,Go.builtin]
 have tail:∀(v0:Value) (zN:Value) (Q8:List Frame),Q8={ dR with mode:=rb }::Et->bM μ ab w y zN->wpOpsSIn Fence.wide m P nR (Exit.thenS (cN.wpSIn Fence.wide m P (bodyPostS P fn dR Et R)) (bodyPostS P fn dR Et R)) ((List.range nR.size).drop 2) ((a0.put j1.dst v0).put od.dst zN) Q8 w:=by
  intro v0 zN Q8 kS bA
  have qg:c9 μ ab w (put (some bC) y (put (some hq) .bs (vs++List.replicate (N-vs.length) bR))) ((a0.put j1.dst v0).put od.dst zN).tmps:=by
   rw[UC,atT];exact(lU.put (some hq) (.bs _)).put (some bC) bA
  refine aFW (call:=hZ bX n) OF (nR.size-2) 2 _ H _ w μ ab (by omega) jf h qg ax ?_
  rintro cy aV ⟨cA,cH,cn,f1,d1⟩;rw[put_defers,put_defers,Bs]at d1;refine wpSIn_of_wpIn rfl ?_;refine E4 aq e6 n base oC ei none m _ _ _ _ _ aY cA cH aV cy _ cn.ar f1 ?_;rintro a2 b4 ⟨hy,lu,dK,f2,d2⟩
  obtain⟨E3,axV,_⟩:=Il (fn:=fn) (wo:=[]) (r:=.bV []) dK.ar f2 (by rw[jn];rfl) rfl
  exact⟨by rw[d2,d1],rb,kS,E3,axV,bn E3 hy lu b4 (cn.trans dK)⟩
 have kn:∀(v0 zN:Value) (a:Act),a.tmps.size=N->(Instr.typeAssert v0 IJ jy true).run P w=.ok zN w->(execOp (a.put j1.dst v0).eval od).run P w=.ok (.value zN) w:=by
  intro v0 zN a de fp
  have ag:(a.put j1.dst v0).eval (.tmp hq)=v0:=by
   rw[UC];simp[Act.eval,Act.put,de,Ad]
  unfold execOp;simp only[axi,ag,Sem.run_bind,fp,eb,Sem.run_pure]
 have de:a0.tmps.size=N:=by
  rw[afG lU,fU,JB];omega
 simp only[wpOpsSIn,b8,ib];refine⟨fun _ _=>trivial,?_⟩
 rw[a' (by simp[Region.wanted,arL]),ayI]
 cases hu with
 |fA x c ae=>
   have vW:recoverD (dR::Et)=some (.iface jy c,{ dR with mode:=.panicking [{ v:=.iface jy c,recovered:=true }] }::Et):=by
    simp only[recoverD,pg]
   simp only[vW];refine⟨fun _ _=>trivial,?_⟩
   rw[a' (by simp[Region.wanted,aot]),kn _ _ _ de (eQ c w)]
   refine tail _ _ _ rfl (.bV _ _ rfl fun i p q aj bD=>?_)
   match i with
   |0=>simp at aj bD;subst aj;subst bD;exact ae
   |1=>simp at aj bD;subst aj;subst bD;exact .s _
   |i+2=>simp at aj
 |nil=>
   have vW:recoverD (dR::Et)=none:=by
    simp only[recoverD,pg]
   simp only[vW];refine⟨fun _ _=>trivial,?_⟩
   rw[a' (by simp[Region.wanted,aot]),kn _ _ _ de (aAB w)]
   refine tail _ _ _ (by rw[<- pg]) (.bV _ _ rfl fun i p q aj bD=>?_)
   match i with
   |0=>simp at aj bD;subst aj;subst bD;exact b5 _ _ _
   |1=>simp at aj bD;subst aj;subst bD;exact .s _
   |i+2=>simp at aj
end
open Go.RowKit
section
variable {aE:fD} {μ ca:dn} {ab b6:Nat->Prop} {w w':World} {H H':az} {P:Program} {pure':gH} {bX:Nat->Option c7} {PP:Nat->List V->Nat->az->fh->Prop} {X:Nat->Bool}
def XR{eg}{dT:Nat->Prop}{ct b7}{fn:Func}{tmps x c iW}{R:Ending->World->Prop}{n}{u:FrameMode}{dh}(hu:u≠.run)(ER:∀w',dm aE eg dT ct b7 μ ab w' H->c9 μ ab w' iW tmps->bM μ ab w' x c->LeavesInM Fence.wide n P fn tmps R dh u w'):
 ∀(L:List Nat) (w:World),dm aE eg dT ct b7 μ ab w H->c9 μ ab w iW tmps->bM μ ab w x c->L.Nodup->(∀D∈L,ct.heap.size<=D/\w.heap[D]?=some (.deferred (some []))/\∀id g b,μ id g≠some (D,b))->
   LeavesInM Fence.wide n P fn tmps R (L.map Iz++dh) u w:=by
 intro L
 induction L with
 |nil=>intro w aj al av _ _;exact ER w aj al av
 |cons D L aw=>
   intro w aj al av ki dw;obtain⟨J,U,ax⟩:=dw D iH;refine⟨hu,.inl ⟨D,_,rfl,run_takeDeferred U,?_⟩⟩;obtain⟨cn,an⟩:=N5 (y:=none) aj J U ax;refine aw _ cn ⟨al.1,fun i a b aD af=>an (al.2 i a b aD af)⟩ (an av) (DI.1 ki).2 (fun E bx=>?_);obtain⟨k1,k2,dx⟩:=dw E (hP _ bx)
   have dq:E≠D:=fun e=>by subst e;exact(DI.1 ki).1 bx
   exact⟨k1,(World.putObj_heap_other dq).trans k2,dx⟩
def alh(P:Program)(pure':gH)(bX:Nat->Option c7)(k hq bC N:Nat)(jy:TypeId)(z:V)(ij:List cF)(wh:cM):Prop:=
 (∀xs w,(callFunc k xs).run P w=.ok (.enter k xs) w)/\
 ∀{u rb:FrameMode} {y:V} {μ:dn} {ab:Nat->Prop} {w:World} {H:az},cB (eT P pure') μ ab w H->∀{vs:List V} {cs:List Value},b0 μ ab w vs cs->vs.length<=N->Hy jy z μ ab w u rb y->
   ∀{n base:Nat} {ik I1:List V} {c6 gj:az},cu (hZ bX n) base (ij.drop 2) (put (some bC) y (put (some hq) .bs (vs++List.replicate (N-vs.length) bR))) H=some (ik,c6)->
   aC (hZ bX n) (fun b k m=>fR b k m n) base wh ik c6=some (.bH,I1,gj)->∀{m:Nat} {R:Ending->FrameMode->World->Prop},(∀v ca b6 w',dm (eT P pure') μ ab w H ca b6 w' gj->R (.returned v) rb w')->CallsDIn Fence.wide m P k cs.toArray u w R
structure nw where
 N:Nat
 rH:cM
 qD:cM
 kT:cM
 Ce:cM
 a:Nat
 b:Nat
 c:Nat
 d:Nat
 k1:Nat
 hq:Nat
 bC:Nat
 yT:Nat
 jy:TypeId
 z:V
 ij:List cF
 wh:cM
 rs:List lj
def nw.cond(D:nw)(g0 g1 g2:V):mK:=fun l fr=>(fr.getD D.a .bs=g0/\fr.getD D.b .bs=g1/\fr.getD D.c .bs=g2)/\∀o∈l,o.dst≠some D.a/\o.dst≠some D.b/\o.dst≠some D.c
def nw.uo(D:nw)(call:c5)(it:gS)(base:Nat)(y g0 g1 g2:V)(H H':az):Prop:=
 ∃f3 c6 f4,cu call base (D.ij.drop 2) (put (some D.bC) y (put (some D.hq) .bs ([g0,g1,g2]++List.replicate (D.yT-3) bR))) H=some (f3,c6)/\aC call it base D.wh f3 c6=some (.bH,f4,H')
def nw.y3(D:nw)(call:c5)(it:gS)(fA:qT)(vs:List V)(base:Nat)(H:az)(v:V)(H':az):Prop:=
 ∃cg H1 nM bK,aC call it base D.rH (vs++List.replicate (D.N-vs.length) bR) H=some (.bH,cg,H1)/\aC call it base D.qD cg H1=some (.bH,nM,bK)/\
 ((∃ik,aC call it base D.kT nM bK=some (.ret,ik,H')/\kB D.rs ik H'=some v)\/
  ∃ik c6 g0 g1 g2,aC call it base D.kT nM bK=some (.bH,ik,c6)/\D.d<ik.length/\ik.getD D.a .bs=g0/\ik.getD D.b .bs=g1/\ik.getD D.c .bs=g2/\
   ((∃e C9 qy,(e=.bH\/e=.ret)/\aC call it base D.Ce (put (some D.d) (.fn D.k1 [] [g0,g1,g2]) ik) c6=some (e,C9,qy)/\D.uo call it base (.bV [D.z,.s (.bool false)]) g0 g1 g2 qy H'/\kB D.rs C9 H'=some v)\/
    ∃x D8,fP call fA it base (D.cond g0 g1 g2) D.Ce (put (some D.d) (.fn D.k1 [] [g0,g1,g2]) ik) c6 (D.jy,x,D8)/\D.uo call it base (.bV [x,.s (.bool true)]) g0 g1 g2 D8 H'/\kB D.rs (put (some D.d) (.fn D.k1 [] [g0,g1,g2]) ik) H'=some v))
def nw.ag9{D:nw}{c c':c5}(h:sK c c'){n c3}(aN:n<=c3){base y g0 g1 g2 H H'}(k:D.uo c (pt n) base y g0 g1 g2 H H'):D.uo c' (pt c3) base y g0 g1 g2 H H':=by
 obtain⟨f3,c6,f4,J,U⟩:=k;exact⟨f3,c6,f4,Fc h _ J,y5 h aN _ U⟩
def nw.abe{D:nw}{base y g0 g1 g2 H H'}(k:D.uo (aU bX) aG base y g0 g1 g2 H H'):∃n,D.uo (hZ bX n) (pt n) base y g0 g1 g2 H H':=by
 obtain⟨f3,c6,f4,J,U⟩:=k;obtain⟨cw,aF⟩:=anq _ J;obtain⟨bN,aK⟩:=sW _ U;exact⟨max cw bN,f3,c6,f4,Fc (q4 (sS cw bN)) _ aF,mQ (pu cw bN) aK⟩
def nw.ar3{D:nw}{vs base H v H'}(h:D.y3 (aU bX) aG (n3 bX PP X) vs base H v H'):∃n,D.y3 (hZ bX n) (pt n) (v' bX PP X n) vs base H v H':=by
 obtain⟨cg,H1,nM,bK,J,U,h⟩:=h;obtain⟨cw,aF⟩:=sW _ J;obtain⟨bN,aK⟩:=sW _ U
 rcases h with⟨ik,ax,ar⟩|⟨ik,c6,g0,g1,g2,ax,aQ,iU,k1,k2,h⟩
 .obtain⟨po,dS⟩:=sW _ ax
  refine⟨max cw (max bN po),cg,H1,nM,bK,mQ (by omega) aF,mQ (by omega) aK,.inl ⟨ik,mQ (by omega) dS,ar⟩⟩
 .obtain⟨po,dS⟩:=sW _ ax
  rcases h with⟨e,C9,qy,he,cl,vW,ar⟩|⟨x,D8,aj,vW,ar⟩
  .obtain⟨yk,e3⟩:=sW _ cl;obtain⟨n5,uJ⟩:=nw.abe vW
   exact⟨max (max cw bN) (max po (max yk n5)),cg,H1,nM,bK,mQ (by omega) aF,mQ (by omega) aK,.inr ⟨ik,c6,g0,g1,g2,mQ (by omega) dS,aQ,iU,k1,k2,.inl ⟨e,C9,qy,he,mQ (by omega) e3,nw.ag9 (q4 (by omega)) (by omega) uJ,ar⟩⟩⟩
  .obtain⟨yk,e3⟩:=Yn _ aj;obtain⟨n5,uJ⟩:=nw.abe vW
   exact⟨max (max cw bN) (max po (max yk n5)),cg,H1,nM,bK,mQ (by omega) aF,mQ (by omega) aK,.inr ⟨ik,c6,g0,g1,g2,mQ (by omega) dS,aQ,iU,k1,k2,.inr ⟨x,D8,J' (q4 (by omega)) (Me (by omega)) (by omega) _ e3,nw.ag9 (q4 (by omega)) (by omega) uJ,ar⟩⟩⟩
def arR{rs:List lj}{fr aW H}(h:∀r∈rs,fr.getD r.slot .bs=aW.getD r.slot .bs):kB rs fr H=kB rs aW H:=by
 have key:∀rs:List lj,(∀r∈rs,fr.getD r.slot .bs=aW.getD r.slot .bs)->rs.mapM (j' fr H)=rs.mapM (j' aW H):=by
  intro rs
  induction rs with
  |nil=>intro _;rfl
  |cons r rs aw=>
    intro h
    have e:j' fr H r=j' aW H r:=by
     have:=h r iH;cases r<;>simp only[j',lj.slot]at this |-<;>rw[this]
    simp only[n1,e,aw fun q bD=>h q (hP _ bD)]
 unfold kB;rw[key rs h]
def aB6(e6:P.follows .mixedOrders=true)(iS:∀k c,bX k=some c->lq P pure' k c)(hE:∀k fn body,X k=true->P.funcs[k]?=some fn->fn.body=some body->nD body=true)(KS:Ny P pure' PP){D:nw}{k Ko:Nat}{fn:Func}{m0 m1 m2 xE:Code}{b2 n0:Oper}{iL:Array TypeId}(al : P.funcs[k]? = some fn)(af : fn.body = some (.seq m0 (.seq m1 (.seq m2 (.seq (.region Ko #[b2, n0] false) xE)))))(oF : (fn.name == "runtime.NumGoroutine") = false)(Gc : fn.ntmps = D.N)(dR:ha P pure' m0 D.rH)(f0:qs m0=true)(cq:ha P pure' m1 D.qD)(f1:qs m1=true)(cN:ha P pure' m2 D.kT)(f2:qs m2=true)(Hx:ha P pure' xE D.Ce)(j1:nD xE=true)(DP:p4 P pure'.b b2=some (.mu D.k1 [] [.t D.a,.t D.b,.t D.c]))(SP:b2.dst=some D.d)(ef:b2.guard=none)(M8:n0.op=.defer { callee:=.value (.tmp D.d),args:=#[],argTypes:=iL })(SA:n0.dst=none)(pj:n0.guard=none)(Nb:D.d≠D.a/\D.d≠D.b/\D.d≠D.c)(zZ:fn.results.toList.mapM (AK P)=some D.rs)(ape:∀r∈D.rs,r.slot=D.a\/r.slot=D.b\/r.slot=D.c)(Jf:3<=D.yT)(vW:alh P pure' bX D.k1 D.hq D.bC D.yT D.jy D.z D.ij D.wh){g:List V->Nat->az->Option (V × az)}(bb:∀vs base H r H',g vs base H=some (r,H')->D.y3 (aU bX) aG (n3 bX PP X) vs base H r H'):lq P pure' k (.oD g):=by
 refine⟨Go.Proofs.enters_of al oF af,fun vs base H r H' aBr=>?_⟩;obtain⟨n,aN⟩:=nw.ar3 (bb _ _ _ _ _ aBr);have aq:=BD e6 iS n;have ae:=aAZ (PP:=PP) (X:=X) e6 iS hE KS n;obtain⟨cg,H1,nM,bK,J,U,aN⟩:=aN;have zu:=(s' aq.floor n _ J).trans (s' aq.floor n _ U)
 have ag5:∀{y g0 g1 g2:V} {K K':az},D.uo (hZ bX n) (pt n) base y g0 g1 g2 K K'->kE base K K':=fun h=>by
  obtain⟨f3,c6,f4,bp,aP⟩:=h;exact(O9 aq.floor _ bp).trans (s' aq.floor n _ aP)
 refine⟨?_,fun μ ab w cs h dE m=>?_⟩
 .rcases aN with⟨ik,ax,_⟩|⟨ik,c6,g0,g1,g2,ax,_,_,_,_,⟨e,C9,qy,_,cl,ar,_⟩|⟨x,D8,aj,ar,_⟩⟩
  .exact zu.trans (s' aq.floor n _ ax)
  .exact(zu.trans (s' aq.floor n _ ax)).trans ((s' aq.floor n _ cl).trans (ag5 ar))
  .exact(zu.trans (s' aq.floor n _ ax)).trans ((anw aq.floor ae.floor n base _ aj).trans (ag5 ar))
 .refine callsIn_of_wp_marks al af trivial ?_;obtain⟨a0,rR⟩:∃a0:Act,{ tmps:=cs.toArray++Array.replicate (fn.ntmps-cs.toArray.size) Go.undef,defers:=[] }=a0:=⟨_,rfl⟩
  have Bs:a0.defers=[]:=by rw[<- rR]
  have lU:c9 μ ab w (vs++List.replicate (D.N-vs.length) bR) a0.tmps:=by
   unfold c9;have:=dE.append (EL (μ:=μ) (ab:=ab) (w:=w) (D.N-vs.length));rw[<- rR,Gc];simp only[K0,Ly,s0];rw[dE.1]at this |-;exact this
  rw[rR];refine wpIn_seq (E4 aq e6 n base dR f0 none m _ _ _ _ _ J μ ab w a0 _ h lU ?_);rintro cy aV ⟨cA,cH,cn,bp,d1⟩;rw[Bs]at d1;refine wpIn_seq (E4 aq e6 n base cq f1 none m _ _ _ _ _ U cA cH aV cy _ cn.ar bp ?_);rintro a2 b4 ⟨hy,lu,dK,aP,d2⟩;rw[d1]at d2
  have leave:∀{iW:List V} {oI:Act} {w0:World} {Cu:dn} {BK:Nat->Prop} {Bt:az},dm (eT P pure') μ ab w H Cu BK w0 Bt->c9 Cu BK w0 iW oI.tmps->kB D.rs iW Bt=some r->Bt=H'->LeavesInM Fence.wide m P fn oI.tmps (nr (eT P pure') μ ab w H r H') [] .returning w0:=fun pp Rj ar bu=>by
   subst bu;obtain⟨bZ,k1,k2⟩:=Il pp.ar Rj zZ ar;exact⟨bZ,k1,bZ,_,_,rfl,k2,pp⟩
  rcases aN with⟨ik,ax,jn⟩|⟨ik,c6,g0,g1,g2,ax,zT,ck,aF,aK,aN⟩
  .refine wpIn_seq (E4 aq e6 n base cN f2 none m _ _ _ _ _ ax hy lu b4 a2 _ dK.ar aP ?_);rintro a3 dJ ⟨Dp,JC,iE,bj,d3⟩;rw[d2]at d3;show LeavesInM Fence.wide m P fn a3.tmps _ a3.defers .returning dJ;rw[d3];exact leave ((cn.trans dK).trans iE) bj jn rfl
  .refine wpIn_seq (E4 aq e6 n base cN f2 none m _ _ _ _ _ ax hy lu b4 a2 _ dK.ar aP ?_);rintro a3 dJ ⟨Dp,JC,iE,bj,d3⟩;rw[d2]at d3;have aBg:=(cn.trans dK).trans iE;refine wpIn_seq (wpIn_region ?_);show wpOpsIn (hX none) m P #[b2,n0] _ [0,1] a3 dJ
   refine BO (o:=b2) rfl ef (vJ aq iE.ar bj (.inl DP) (base:=base) (v:=.fn D.k1 [] [g0,g1,g2]) (H':=c6) (by simp only[bf,lL,x7,aX,ck,aF,aK]) ?_)
   rintro ajq eO ⟨aJs,Es,DH,aE3,aHz,yo⟩;cases aE3;have c4:c9 Es DH eO (put (some D.d) (.fn D.k1 [] [g0,g1,g2]) ik) (a3.put b2.dst ajq).tmps:=K7 iE.ar yo bj SP aHz;obtain⟨a4,afW⟩:∃a4,a3.put b2.dst ajq=a4:=⟨_,rfl⟩
   have d4:a4.defers=[]:=by rw[<- afW,put_defers,d3]
   rw[afW]at c4 |-;have aqM:=aBg.trans yo
   have s5:bM Es DH eO (.fn D.k1 [] [g0,g1,g2]) (a4.eval (.tmp D.d)):=by
    have bb:=c4.getD D.d;rw[CK _ _ _ _ zT,a' rfl]at bb;exact bb
   obtain⟨fs,eP,Cd,qP,ax2⟩:∃(fs eP:Array Value),a4.eval (.tmp D.d)=.func (.func D.k1) fs eP/\fs=#[]/\b0 Es DH eO [g0,g1,g2] eP.toList:=by
    generalize a4.eval (.tmp D.d)=cD at s5;cases s5 with
    |fn _ _ _ fs eP k1 k2 dx hs=>exact⟨fs,eP,rfl,Ou (by simpa using k1.symm),by simpa using k2,fun i p q aj bD=>hs i p q aj (by simpa using bD)⟩
   subst qP;refine BO (o:=n0) rfl pj ⟨fun _ _=>trivial,?_⟩
   have aIM:(Oper.semAt none a4.eval n0).run P eO=.ok (.defer { target:=.fn (.func D.k1) eP,args:=#[] }) eO:=by
    rw[Oper.semAt_none];unfold execOp;simp only[M8,resolve,Cd,Deferred.ofValue,Sem.run_bind,Sem.run_pure,eb];simp
   show Oper.uponIn (hX none) m P n0 a4 _ _ ((Oper.semAt none a4.eval n0).run P eO);rw[aIM];simp only[Oper.uponIn,wpOpsIn];rw[SA,d4];show Code.wpIn (hX none) m P xE _ { a4 with defers:=[{ target:=.fn (.func D.k1) eP,args:=#[] }] } eO
   have hinv:∀w,(invoke (.fn (.func D.k1) eP) #[]).run P w=.ok (.enter D.k1 eP) w:=fun w=>by
    simp only[invoke,vW.1];rw[Array.empty_append]
   have akZ:∀{u rb:FrameMode} {y:V} {iW:List V} {td:Array Value} {w0:World} {Cu:dn} {BK:Nat->Prop} {Bt:az},u≠.run->settle rb=.returning->dm (eT P pure') Es DH eO c6 Cu BK w0 Bt->c9 Cu BK w0 iW td->Hy D.jy D.z Cu BK w0 u rb y->D.uo (hZ bX n) (pt n) base y g0 g1 g2 Bt H'->kB D.rs iW H'=some r->
    LeavesInM Fence.wide m P fn td (nr (eT P pure') μ ab w H r H') [{ target:=.fn (.func D.k1) eP,args:=#[] }] u w0:=fun {u rb y iW td w0 Cu BK Bt} hu azY pp Rj aa ar jn=>by
    obtain⟨f3,i',f4,bC,bP⟩:=ar
    refine⟨hu,.inr ⟨fun h=>by simp[Fence.wide]at h,.func D.k1,eP,D.k1,eP,rfl,hinv w0,fun _ _=>trivial,?_⟩⟩
    have afb:=vW.2 (m:=m-1) pp.ar (pp.F4 yo.ar ax2) (show[g0,g1,g2].length<=D.yT from Jf) aa (n:=n) (base:=base) bC bP (R:=fun e rb w'=>∃v,e=.returned v/\LeavesInM Fence.wide m P fn td (nr (eT P pure') μ ab w H r H') [] (settle rb) w') (fun v aJ2 aJd aKd SC=>by
     refine⟨v,rfl,?_⟩;rw[azY];obtain⟨bZ,k1,k2⟩:=Il SC.ar (Rj.post pp.ar SC) zZ jn;exact⟨bZ,k1,bZ,_,_,rfl,k2,(aqM.trans pp).trans SC⟩)
    rw[yF]at afb;refine afb.mono ?_;rintro aF gy pR ⟨v,rfl,hh⟩;exact hh
   rcases aN with⟨e,C9,qy,he,cl,ar,jn⟩|⟨x,D8,aj,ar,jn⟩
   .refine C3 aq e6 n base Hx none m _ _ _ _ _ cl Es DH eO { a4 with defers:=[{ target:=.fn (.func D.k1) eP,args:=#[] }] } _ yo.ar c4 (fun l ak=>by cases ak) ?_
    rintro a5 hY ⟨arO,aEM,SZ,iu,L,dw,ki,Bu⟩
    have fin:LeavesInM Fence.wide m P fn a5.tmps (nr (eT P pure') μ ab w H r H') a5.defers .returning hY:=by
     rw[dw]
     exact XR (by simp) (x:=bR) (c:=Go.undef) (fun oK MO iw _=>akZ (by simp) rfl MO iw .nil ar jn) L hY SZ iu (.s _) ki Bu
    rcases he with rfl|rfl
    .exact fin
    .exact fin
   .refine aie aq ae e6 n base Hx j1 none m _ _ _ aj Es DH eO { a4 with defers:=[{ target:=.fn (.func D.k1) eP,args:=#[] }] } _ yo.ar c4 (fun l ak=>by cases ak) ?_
    rintro dC a5 hY ⟨bZ,arO,aEM,aJ9,aKb,iW,rfl,aEt,SZ,⟨L,dw,ki,Bu⟩,EW,bE,iu⟩;show LeavesInM Fence.wide m P fn a5.tmps _ a5.defers _ hY;rw[dw];obtain⟨⟨dj,dA,cV⟩,A'⟩:=EW
    have aFH:kB D.rs iW H'=some r:=by
     rw[<- jn];refine arR fun q bD=>?_
     rcases ape q bD with h|h|h<;>rw[h]
     .rw[bE _ (fun o aT=>(A' o aT).1),dj,Jq (fun e=>Nb.1 (hc e)),ck]
     .rw[bE _ (fun o aT=>(A' o aT).2.1),dA,Jq (fun e=>Nb.2.1 (hc e)),aF]
     .rw[bE _ (fun o aT=>(A' o aT).2.2),cV,Jq (fun e=>Nb.2.2 (hc e)),aK]
    exact XR (by simp) (fun oK MO iw v6=>akZ (by simp) rfl MO iw (.fA x bZ v6) ar aFH) L hY SZ iu aEt ki Bu
end
end Go.dO
