/- Texts of the proof: Am20, Am21, Am22, Am23, AmS, AmT, AmF, AmG, AmL, AmQ0, AmQ, AmW, AmB, BitsP, AmM, AmN, AmO, AmY, AmZ, AmI, AmU, AmU2, AmH, RdnA1, TokP, TokP2, TokP3, RdP1, AmP, AmPk, AmPn, AmPn2, AmPr, AmPr2, AmPr3. -/
import Derived.Test.YtbocmenkkjbigaaDoorP0
import Derived.Test.YtbocmenkkjbigaaDoorP1
import Derived.ProofKit
import Derived.ReadAgain
import Derived.Laws.BitsLemmas
import Derived.Shelf.Sort.Plain
import Derived.Shelf.SlIterI.Nil
import Derived.Shelf.SlMaps.Clone
import Derived.Shelf.Spec.TrailingZeros
import Derived.KernelRfl
import Derived.RecoverIn
import Derived.Laws.Build
import Derived.WalkSmall
set_option linter.all false
namespace Go.AM
open Go.RowKit
section
variable {μ μ':Mu} {Mt Mt':Nat->Prop} {w w':World} {H H':Heap} {P:Program} {pure':PX} {call:o8}
def adu(P:Program)(pure':PX)(k:Nat):CFun->Prop
 |.code c => ∃fn body, P.funcs[k]? = some fn /\ fn.body = some body /\ (fn.name == "runtime.NumGoroutine") = false /\ CodeR P pure' body c.body /\ fn.ntmps = c.ntmps /\ fn.results.toList.mapM (ah4 P) = some c.results
 |.prim g=>(∀xs w,(callFunc k xs).run P w=.ok (.enter k xs) w)/\∀vs base H r H',g vs base H=some (r,H')->Floor base H H'/\
    ∀μ Mt w cs,HR (CR P pure') μ Mt w H->VRs μ Mt w vs cs->∀n,CallsIn Fence.wide n P k cs.toArray w (ar9 (CR P pure') μ Mt w H r H')
def a18:∀(ps:List Nat) (vs:List V) (cs:List Value) {fr fr':List V} {t:Array Value},avd ps vs fr=some fr'->VRs μ Mt w vs cs->FR μ Mt w fr t->
 ps.length=cs.length/\FR μ Mt w fr' ((ps.zip cs).foldl (fun t p=>t.setIfInBounds p.1 p.2) t):=by
 intro ps
 induction ps with
 |nil=>
   intro vs cs fr fr' t h hv hf;cases vs with
   |nil=>
     cases h
     have:cs=[]:=by have:=hv.1;cases cs<;>simp at this |-
     subst this;exact⟨rfl,hf⟩
   |cons v vs=>cases h
 |cons p ps ih=>
   intro vs cs fr fr' t h hv hf;cases vs with
   |nil=>cases h
   |cons v vs=>
     cases cs with
     |nil=>have:=hv.1;simp at this
     |cons c cs=>
       have hv':VRs μ Mt w vs cs:=⟨by have:=hv.1;simpa using this,fun i a b ha hb=>hv.2 (i+1) a b (by simpa using ha) (by simpa using hb)⟩
       have hf':FR μ Mt w (fr.set p v) (t.setIfInBounds p c):=by
        have:=VRs.set hf p (hv.2 0 v c rfl rfl)
        simpa[FR]using this
       obtain⟨h1,h2⟩:=ih vs cs h hv' hf'
       exact⟨by simp[h1],by simpa using h2⟩
def acj(n):VRs μ Mt w (List.replicate n und) (List.replicate n Go.undef):=
 ⟨by simp,fun i a b ha hb=>by
  have h1:=ik ha;have h2:=ik hb;rw[ajf]at h1 h2;rw[h1.2,h2.2];exact .s _⟩
variable {CP:Nat->Option CFun}
def auk(hs:SimCall P (CR P pure') call)(hmix:P.follows .mixedOrders=true)(nn)(hCP:∀k c,CP k=some c->adu P pure' k c){f fst cap args base r}(hev:aag CP call (fun b k m=>x9 b k m nn) (.fn f fst cap) args base H=some (r,H')):
 (∀xs w,(callFunc f xs).run P w=.ok (.enter f xs) w)/\Floor base H H'/\
 ∀(μ:Mu) (Mt:Nat->Prop) (w:World) (cs:List Value),HR (CR P pure') μ Mt w H->VRs μ Mt w (fst++args++cap) cs->∀n,CallsIn Fence.wide n P f cs.toArray w (ar9 (CR P pure') μ Mt w H r H'):=by
 simp only[aag]at hev;split at hev
 .rename_i c hc;obtain⟨fn,body,h1,h2,h3,h4,h5,h6⟩:=hCP f _ hc;have fin:∀(e:Ex) (fr':List V) (H1:Heap),(e=.nrm\/e=.ret)->evC call (fun b k m=>x9 b k m nn) base c.body (fst++args++cap++List.replicate (c.ntmps-(fst++args++cap).length) und) H=some (e,fr',H1)->
   (w9 c.results fr' H1).map (fun v=>(v,H1))=some (r,H')->(∀xs w,(callFunc f xs).run P w=.ok (.enter f xs) w)/\Floor base H H'/\
   ∀(μ:Mu) (Mt:Nat->Prop) (w:World) (cs:List Value),HR (CR P pure') μ Mt w H->VRs μ Mt w (fst++args++cap) cs->∀n,CallsIn Fence.wide n P f cs.toArray w (ar9 (CR P pure') μ Mt w H r H'):=by
   intro e fr' H1 he hb hres;rw[bu]at hres;obtain⟨v,hv,e1⟩:=hres;cases e1;refine⟨Go.Proofs.enters_of h1 h3 h2,zz hs.floor nn _ hb,fun μ Mt w cs h hvs n=>?_⟩;refine callsIn_of_wp_marks h1 h2 trivial ?_
   have hf0:FR μ Mt w (fst++args++cap++List.replicate (c.ntmps-(fst++args++cap).length) und) (cs.toArray++Array.replicate (fn.ntmps-cs.toArray.size) Go.undef):=by
    unfold FR;have:=hvs.append (acj (μ:=μ) (Mt:=Mt) (w:=w) (c.ntmps-(fst++args++cap).length));simp only[ahg,aew,ug,h5];rw[hvs.1]at this |-;exact this
   refine aku hs hmix nn base h4 none n _ H e fr' H' hb μ Mt w { tmps:=cs.toArray++Array.replicate (fn.ntmps-cs.toArray.size) Go.undef,defers:=[] } _ h hf0 (fun l hl=>by cases hl) ?_
   rintro a' w' ⟨μ1,Mt1,p1,f1,L,hL,hnd,hLs⟩
   have key:LeavesInM Fence.wide n P fn a'.tmps (ar9 (CR P pure') μ Mt w H r H') a'.defers .returning w':=by
    rw[hL,yo];refine atv (μ:=μ1) (Mt:=Mt1) (fr:=fr') (fun w2 p2 f2=>?_) L w' p1 f1 hnd hLs;obtain⟨cv,k1,k2⟩:=ae7 p2.hr f2 h6 hv;exact⟨cv,k1,cv,μ1,Mt1,rfl,k2,p2⟩
   rcases he with rfl|rfl
   .exact key
   .exact key
  split at hev
  .rename_i fr' H1 hb;exact fin .nrm fr' H1 (.inl rfl) hb hev
  .rename_i fr' H1 hb;exact fin .ret fr' H1 (.inr rfl) hb hev
  .cases hev
 .rename_i g hc;obtain⟨h1,h2⟩:=hCP f _ hc;obtain⟨h3,h4⟩:=h2 _ _ _ _ _ hev;exact⟨h1,h3,h4⟩
 .cases hev
theorem aps(hs:SimCall P (CR P pure') call)(hmix:P.follows .mixedOrders=true)(nn){id args base r}(hev:aag CP call (fun b k m=>x9 b k m nn) (.yld id) args base H=some (r,H')):
 Floor base H H'/\∀(μ:Mu) (Mt:Nat->Prop) (w:World) (cs:List Value) (B:Nat),HR (CR P pure') μ Mt w H->VRs μ Mt w args cs->μ id 0=some (B,0)->
  ∃f tmps assign body,(Instr.yield B cs.toArray).run P w=.ok (.round B f tmps assign body) w/\∀n,RoundIn Fence.wide n P B f tmps assign body w (ar9 (CR P pure') μ Mt w H r H'):=by
 simp only[aag]at hev;split at hev
 case isFalse=>cases hev
 rename_i hbase;split at hev
 case h_2=>cases hev
 rename_i tmps params assign body hH;split at hev
 case h_2=>cases hev
 rename_i fr0 hset;split at hev
 case h_2=>cases hev
 rename_i fr1 H1 hasg;split at hev
 case h_2=>cases hev
 rename_i t1 ps1 as1 b1 hH1;split at hev
 case h_2=>cases hev
 rename_i e fr2 H3 hbody;split at hev
 case h_2=>cases hev
 rename_i t3 ps3 as3 b3 hH3;cases hev
 have setF:∀(G:Heap) (o:Ob),Floor base G (G.set id o):=fun G o=>⟨by simp,fun i h1 _=>by rw[ae (by omega)]⟩
 refine⟨(zz hs.floor nn _ hasg).trans ((setF _ _).trans ((zz hs.floor nn _ hbody).trans (setF _ _))),?_⟩;intro μ Mt w cs B h hvs hm;obtain⟨o,ho,hr⟩:=h.objs _ _ 0 _ _ hH rfl hm
 cases o<;>first|exact hr.elim|skip
 rename_i rec;obtain⟨_,q1,q2,q3,q4,q5,q6⟩:=hr;obtain⟨hlen,hf0⟩:=a18 params args cs hset hvs (t:=rec.tmps) q3
 have hsz:cs.toArray.size=rec.params.size:=by
  rw[<- q4]at hlen;simpa using hlen.symm
 have hfold:(rec.params.zip cs.toArray).foldl (fun tmps (t,a)=>tmps.setIfInBounds t a) rec.tmps=(params.zip cs).foldl (fun t p=>t.setIfInBounds p.1 p.2) rec.tmps:=by
  rw[<- ajg,Array.toList_zip,q4]
 refine⟨_,_,_,_,run_yield ho hsz,fun n=>?_⟩;refine roundIn_of_wpIn (F:=Fence.wide) trivial ?_;rw[hfold]
 refine aku hs hmix nn base q5 (some B) n fr0 H .nrm fr1 H1 hasg μ Mt w { tmps:=(params.zip cs).foldl (fun t p=>t.setIfInBounds p.1 p.2) rec.tmps,defers:=[] } _ h hf0 (fun l hl=>by cases hl;exact⟨rec,ho⟩) ?_
 rintro a1 w1 ⟨μ1,Mt1,p1,f1,_⟩;have hm1:=p1.ext _ _ _ hm;obtain⟨o1,ho1,hr1⟩:=p1.hr.objs _ _ 0 _ _ hH1 rfl hm1
 cases o1<;>first|exact hr1.elim|skip
 rename_i rec1;obtain⟨_,s1,s2,s3,s4,s5,s6⟩:=hr1
 have hwf1:ObW H1.length (.loop .busy none t1 ps1 as1 b1):=by have:=p1.hr.wfn hH1 rfl hm1;exact this
 have p2:Post (CR P pure') μ1 Mt1 w1 H1 (aol μ1 id 0 (B,0)) Mt1 (w1.putObj B (.loop { rec1 with state:=.busy })) (H1.set id (.loop .busy none t1 ps1 as1 b1)):=by
  refine agt p1.hr 0 0 hH1 rfl hm1 ho1 (fun _ _ _ e=>by cases e) (fun _ _=>⟨_,rfl⟩) (.inl ⟨rfl,rfl⟩) (fun j hj=>hj) (fun _ _ e=>by cases e) rfl rfl rfl rfl hwf1 ?_
  intro _ μ' Mt' hμ hM;have hne:∀K,K≠B->(w1.putObj B (.loop { rec1 with state:=.busy })).heap[K]?=w1.heap[K]?:=fun K hK=>World.putObj_heap_other hK;refine⟨rfl,rfl,trivial,?_,s4,s5,s6⟩;refine VRs.mono hμ (fun K hK hm=>(hM K hK).1 hm) (fun K _ hn=>hne K (fun e=>hn (e▸(p1.hr.isMut _ _ _ _ hm1).1))) (fun K a0 e0 fr0 hK=>?_) s3
  have:K≠B:=fun e=>by subst e;rw[ho1]at hK;cases hK
  exact⟨a0,_,(hne K this).trans hK,rfl⟩
 refine⟨_,run_beginRound ho1 s1,?_⟩;have pp:=p1.trans p2;have hB2:∃r,(w1.putObj B (.loop { rec1 with state:=.busy })).heap[B]?=some (.loop r):=⟨_,World.putObj_heap_same (lt_of_some ho1)⟩
 refine aku hs hmix nn base q6 (some B) n fr1 _ e fr2 H3 ?_ _ _ _ a1 _ p2.hr (f1.post p1.hr p2) (fun l hl=>by cases hl;exact hB2) ?_
 .exact hbody
 .rintro a3 w3 ⟨μ3,Mt3,p3,_,_⟩;have hm3:μ3 id 0=some (B,0):=p3.ext _ _ _ (uo _ _ _ _);obtain⟨o3,ho3,hr3⟩:=p3.hr.objs _ _ 0 _ _ hH3 rfl hm3
  cases o3<;>first|exact hr3.elim|skip
  rename_i rec3;obtain⟨_,u1,u2,u3,u4,u5,u6⟩:=hr3
  have hwf3:∀st pe,ObW H3.length (.loop st pe t3 ps3 as3 b3):=fun _ _=>by have:=p3.hr.wfn hH3 rfl hm3;exact this
  have fin:∀(jump:Option Code),amg (if e=.nrm then .ready else .done) (ayb e) jump->jump.isNone=decide (e=.nrm)->(if jump.isNone then LoopState.ready else .done)=(if e=.nrm then .ready else .done)->
   ∃v w',(Instr.endRound B jump).run P w3=.ok v w'/\ar9 (CR P pure') μ Mt w H (bl (decide (e=.nrm))) (H3.set id (.loop (if e=.nrm then .ready else .done) (ayb e) t3 ps3 as3 b3)) (.returned v) w':=by
   intro jump hok hj hst
   refine⟨_,_,run_endRound jump ho3,_,_,_,rfl,by rw[hj];exact .s _,(pp.trans p3).trans (agt (g':=0) (b':=0) p3.hr hH3 rfl hm3 ho3 (fun _ _ _ e=>by cases e) (fun _ _=>⟨_,rfl⟩) (.inl ⟨rfl,rfl⟩) (fun j hj=>hj) (fun _ _ e=>by cases e) rfl rfl rfl rfl (hwf3 _ _) ?_)⟩
   intro _ μ' Mt' hμ hM
   have hne:∀K,K≠B->(w3.putObj B (.loop { rec3 with state:=if jump.isNone then .ready else .done,pending:=jump })).heap[K]?=w3.heap[K]?:=fun K hK=>World.putObj_heap_other hK
   refine⟨rfl,hst,hok,?_,u4,u5,u6⟩;refine VRs.mono hμ (fun K hK hm=>(hM K hK).1 hm) (fun K _ hn=>hne K (fun e=>hn (e▸(p3.hr.isMut _ _ _ _ hm3).1))) (fun K a0 e0 fr0 hK=>?_) u3
   have:K≠B:=fun e=>by subst e;rw[ho3]at hK;cases hK
   exact⟨a0,_,(hne K this).trans hK,rfl⟩
  cases e with
  |nrm=>exact fin none rfl rfl rfl
  |ext i=>exact fin (some (.exit i)) rfl rfl rfl
  |ret=>exact fin (some .ret) rfl rfl rfl
def a0z(hs:SimCall P (CR P pure') call)(hmix:P.follows .mixedOrders=true)(nn)(hCP:∀k c,CP k=some c->adu P pure' k c):SimCall P (CR P pure') (aag CP call (fun b k m=>x9 b k m nn)) where
 fn f fst cap args base H r H' h:=by
  obtain⟨h1,_,h3⟩:=auk hs hmix nn hCP h;exact⟨h1,h3⟩
 yld id args base H r H' h:=(aps hs hmix nn h).2
 other v args base H h1 h2:=by
  cases v<;>first|rfl|exact absurd rfl (h1 _ _ _)|exact absurd rfl (h2 _)
 floor v args base H r H' h:=by
  by_cases h1:∃f a b,v=.fn f a b
  .obtain⟨f,a,b,rfl⟩:=h1;exact(auk hs hmix nn hCP h).2.1
  .by_cases h2:∃id,v=.yld id
   .obtain⟨id,rfl⟩:=h2;exact(aps hs hmix nn h).1
   .exfalso
    cases v<;>first|exact h1 ⟨_,_,_,rfl⟩|exact h2 ⟨_,rfl⟩|(simp[aag]at h;done)
def adn(hmix:P.follows .mixedOrders=true)(hCP:∀k c,CP k=some c->adu P pure' k c):∀n,SimCall P (CR P pure') (aao CP n)
 |0=>⟨fun _ _ _ _ _ _ _ _ h=>(by cases h),fun _ _ _ _ _ _ h=>(by cases h),fun _ _ _ _ _ _=>rfl,fun _ _ _ _ _ _ h=>(by cases h)⟩
 |n+1=>a0z (adn hmix hCP n) hmix n hCP
def axt(hmix:P.follows .mixedOrders=true)(hCP:∀k c,CP k=some c->adu P pure' k c){n k args r}(h:aao CP n (.fn k [] []) args 0 []=some (r,H')){w cs}(hargs:VRs (fun _ _=>none) (fun _=>False) w args cs.toList)(hfx:∀(B:Nat) (o:Array Value × TypeId × Nat × Nat),pure'.fx B=some o->w.heap[B]?=some (.cells o.1 o.2.1 o.2.2)):
 Calls P k cs w fun e w'=>∃c μ' Mt',e=.returned c/\VR μ' Mt' w' r c/\(∀B,B<w.heap.size->w'.heap[B]?=w.heap[B]?)/\Tr (fun _ _=>none) w w':=by
 have h0:HR (CR P pure') (fun _ _=>none) (fun _=>False) w []:=⟨fun _ _ _ h=>by simp at h,fun _ _ _ _ h=>by simp at h,fun _ _ _ _ _ h=>by simp at h,fun _ _ _ _ _ _ _ h=>by simp at h,fun _ _ _ _ _ h=>by simp at h,fun _ _ _ _ h=>by simp at h,fun B o e=>⟨hfx B o e,fun h=>h⟩,fun _ _ _ h=>by simp at h⟩
 have:=((adn hmix hCP n).fn k [] [] args 0 [] r H' h).2 _ _ w cs.toList h0 (by simpa using hargs) 0
 simp only[xh]at this;refine callsIn_wide.1 (CallsIn.mono this ?_);rintro e w' ⟨c,μ',Mt',rfl,hv,hp⟩
 exact⟨c,μ',Mt',rfl,hv,fun B hB=>hp.tr.keep B hB (fun _ _ _ h=>by simp at h),hp.tr⟩
end
section
variable {P:Program} {pure':PX}
def atn{α β:Type}{f:α->Option β}:∀{l:List α} {us:List β},l.mapM f=some us->us.length=l.length/\∀(i:Nat) (v:α) (u:β),l[i]?=some v->us[i]?=some u->f v=some u:=by
 intro l
 induction l with
 |nil=>intro us h;simp at h;subst h;exact⟨rfl,fun i v u h=>by simp at h⟩
 |cons x l ih=>
   intro us h;simp only[qf,iw,fo,ak]at h;obtain⟨v,hv,us',hus,e⟩:=h;cases e;obtain⟨h1,h2⟩:=ih hus
   refine⟨by simp[h1],fun i a u ha hu=>?_⟩
   cases i with
   |zero=>simp at ha hu;subst ha;subst hu;exact hv
   |succ i=>exact h2 i a u (by simpa using ha) (by simpa using hu)
def ao9{lt bf l}{i:Nat}{a}(h:(aal lt bf l)[i]?=some a):∃b,l[i]?=some b/\(a=b\/(∃f xs,b.op=.call f xs/\a={ b with op:=.callR f xs })\/∃k xs,b.op=.callP k xs/\a={ b with op:=.callQ k xs }):=by
 unfold aal at h
 have hi:i<l.length:=by have:=(bmk.1 h).1;simpa using this
 have hg:l[i]?=some l[i]:=af hi;refine⟨l[i],hg,?_⟩;rw[nz,ada hi]at h;have hd:l.getD i default=l[i]:=abu hg;simp only[mh,hd,je]at h;split at h
 .rename_i f xs hop;split at h
  .exact .inl h.symm
  .exact .inr (.inl ⟨f,xs,hop,h.symm⟩)
 .rename_i f xs hop;split at h
  .exact .inl h.symm
  .exact .inr (.inr ⟨f,xs,hop,h.symm⟩)
 .exact .inl h.symm
def aqg{l}{i:Nat}{a}(h:(ael l)[i]?=some a):∃b,l[i]?=some b/\(a=b\/∃sz n s x,b.op=.append sz n s x/\a={ b with op:=.appR sz n s x }):=by
 unfold ael at h;rw[nz,bu]at h;obtain⟨b,hb,e⟩:=h;refine⟨b,hb,?_⟩;split at e
 .rename_i sz n s x hop;exact .inr ⟨sz,n,s,x,hop,e.symm⟩
 .exact .inl e.symm
def ali(l):(ael l).length=l.length:=by simp[ael]
def aik{lt bf l}:(aal lt bf l).length=l.length:=by simp[aal]
def afe{lt ops draw l chk}(h:aff P lt pure' ops draw=some (l,chk)):
 auz P pure' ops l/\(draw=true->ag6 (Region.before ops).toList chk l=true/\afs ops=true):=by
 unfold aff at h;simp only[fo,ak]at h;obtain⟨l0,hl0,h⟩:=h;obtain⟨h1,h2⟩:=atn hl0
 have one:∀(i:Nat) (o:Oper) (a:AOper),ops[i]?=some o->l0[i]?=some a->a.dst=o.dst/\(aa1 P pure' o=some a.op\/a.op=.stuck)/\agk ops o.guard=some a.guard:=by
  intro i o a ho ha
  have:=h2 i o a (by simpa using ho) ha
  unfold ay1 at this;simp only[fo,ak,iw,je]at this;obtain⟨g,hg,e⟩:=this;subst e;refine⟨rfl,?_,hg⟩;cases hop:aa1 P pure' o with
  |none=>exact .inr rfl
  |some op=>exact .inl rfl
 split at h
 .rename_i hd
  have fin:∀c,ag6 (Region.before ops).toList c (aal lt (Region.before ops).toList l0)=true->afs ops=true->auz P pure' ops (aal lt (Region.before ops).toList l0)/\(draw=true->ag6 (Region.before ops).toList c (aal lt (Region.before ops).toList l0)=true/\afs ops=true):=by
   intro c hok hbk
   refine⟨⟨by rw[aik,h1];simp,fun i o a ho ha=>?_⟩,fun _=>⟨hok,hbk⟩⟩
   obtain⟨b,hb,e⟩:=ao9 ha;obtain⟨k1,k2,k3⟩:=one i o b ho hb
   rcases e with rfl|⟨f,xs,hop,rfl⟩|⟨f,xs,hop,rfl⟩
   .exact⟨k1,k2.imp id fun h=>.inr (.inr (.inr h)),k3⟩
   .exact⟨k1,.inr (.inl ⟨f,xs,by rw[<- hop];exact k2.resolve_right (by rw[hop];intro h;cases h),rfl⟩),k3⟩
   .exact⟨k1,.inr (.inr (.inl ⟨f,xs,by rw[<- hop];exact k2.resolve_right (by rw[hop];intro h;cases h),rfl⟩)),k3⟩
  split at h
  .rename_i hok;simp only[au]at hok;simp only[iw,je]at h;cases h
   exact fin _ (by simp[ag6,hok.1]) hok.2
  .split at h
   .rename_i hok;simp only[au]at hok;simp only[iw,je]at h;cases h
    exact fin _ (by simp[ag6,hok.1]) hok.2
   .split at h
    .rename_i hok;simp only[au]at hok;simp only[iw,je]at h;cases h
     refine⟨⟨by rw[ali,aik,h1];simp,fun i o a ho ha=>?_⟩,fun _=>⟨by simp[ag6,hok.1],hok.2⟩⟩
     obtain⟨b0,hb0,e0⟩:=aqg ha;obtain⟨b,hb,e⟩:=ao9 hb0;obtain⟨k1,k2,k3⟩:=one i o b ho hb
     rcases e0 with rfl|⟨sz,n,s,x,hop,rfl⟩
     .rcases e with rfl|⟨f,xs,hop,rfl⟩|⟨f,xs,hop,rfl⟩
      .exact⟨k1,k2.imp id fun h=>.inr (.inr (.inr h)),k3⟩
      .exact⟨k1,.inr (.inl ⟨f,xs,by rw[<- hop];exact k2.resolve_right (by rw[hop];intro h;cases h),rfl⟩),k3⟩
      .exact⟨k1,.inr (.inr (.inl ⟨f,xs,by rw[<- hop];exact k2.resolve_right (by rw[hop];intro h;cases h),rfl⟩)),k3⟩
     .rcases e with rfl|⟨f,xs,hop',rfl⟩|⟨f,xs,hop',rfl⟩
      .exact⟨k1,.inr (.inr (.inr (.inl ⟨sz,n,s,x,by rw[<- hop];exact k2.resolve_right (by rw[hop];intro h;cases h),rfl⟩))),k3⟩
      .cases hop
      .cases hop
    .cases h
 .rename_i hd;simp only[iw,je]at h;cases h
  refine⟨⟨by rw[h1];simp,fun i o a ho ha=>?_⟩,fun e=>absurd e hd⟩
  obtain⟨k1,k2,k3⟩:=one i o a ho ha;exact⟨k1,k2.imp id fun h=>.inr (.inr (.inr h)),k3⟩
def ab8{lt}:∀(c:Code) (ac:ACode),aan P lt pure' c=some ac.bare->CodeR P pure' c ac:=by
 intro c
 induction c with
 |skip=>intro ac h;simp only[aan,je]at h;cases ac<;>simp only[ACode.bare]at h<;>first|exact .skip|cases h
 |exit id=>intro ac h;simp only[aan,je]at h;cases ac<;>simp only[ACode.bare]at h<;>first|(cases h;done)|(cases h;exact .exit _)
 |label l=>intro ac h;simp only[aan,je]at h;cases ac<;>simp only[ACode.bare]at h<;>first|exact .label _|cases h
 |ret=>intro ac h;simp only[aan,je]at h;cases ac<;>simp only[ACode.bare]at h<;>first|exact .ret|cases h
 |scope c=>intro ac h;simp[aan]at h
 |goto l=>intro ac h;simp[aan]at h
 |refuse w=>intro ac h;simp[aan]at h
 |region id ops draw=>
   intro ac h;simp only[aan]at h;split at h
   .rename_i q hr;obtain⟨l,chk⟩:=q;simp only[je]at h;obtain⟨h1,h2⟩:=afe hr;have e:=h
    cases ac<;>simp only[ACode.bare]at e<;>first|(cases e;done)|(cases e;exact .region _ _ _ _ _ _ h1 h2)|(cases e;exact .regionE _ _ _ _ _ _ h1 h2)
   .split at h
    .rename_i hdp;rw[au]at hdp;obtain⟨rfl,hp⟩:=hdp;rw[bu]at h;obtain⟨⟨l,chk⟩,hr,e⟩:=h;obtain⟨h1,h2⟩:=afe hr
     cases ac<;>simp only[ACode.bare]at e<;>first|(cases e;done)|(cases e;exact .regionP _ _ _ _ _ _ hp h1 (h2 rfl))|(cases e;exact .regionPE _ _ _ _ _ _ hp h1 (h2 rfl))
    .cases h
 |seq a b iha ihb=>
   intro ac h;simp only[aan,fo,ak,iw,je]at h;obtain⟨x,hx,y,hy,e⟩:=h
   cases ac<;>simp only[ACode.bare]at e<;>first|(cases e;done)|(cases e;exact .seq _ _ _ _ (iha _ hx) (ihb _ hy))
 |cond c a b iha ihb=>
   intro ac h;simp only[aan,fo,ak,iw,je]at h;obtain⟨o,ho,x,hx,y,hy,e⟩:=h
   cases ac<;>simp only[ACode.bare]at e<;>first|(cases e;done)|(cases e;exact .cond _ _ _ _ _ _ ho (iha _ hx) (ihb _ hy))
 |block id c ih=>
   intro ac h;simp only[aan,fo,ak,iw,je]at h;obtain⟨x,hx,e⟩:=h
   cases ac<;>simp only[ACode.bare]at e<;>first|(cases e;done)|(cases e;exact .block _ _ _ (ih _ hx))
 |loop c ih=>
   intro ac h;simp only[aan,fo,ak,iw,je]at h;obtain⟨x,hx,e⟩:=h
   cases ac<;>simp only[ACode.bare]at e<;>first|(cases e;done)|(cases e;exact .loop _ _ _ (ih _ hx))
 |rangeFunc f ps a b iha ihb=>
   intro ac h;simp only[aan,fo,ak,iw,je]at h;obtain⟨o,ho,x,hx,y,hy,e⟩:=h
   cases ac<;>simp only[ACode.bare]at e<;>first|(cases e;done)|(cases e;exact .rangeFunc _ _ _ _ _ _ _ ho (iha _ hx) (ihb _ hy))
def alb(lt:List Nat)(P:Program)(pure':PX)(k:Nat):Option (Bool × Nat × List ARes × ACode):=
 match P.funcs[k]? with
 |some fn=>match fn.body with
   |some body=>match aan P lt pure' body,fn.results.toList.mapM (ah4 P)with
     |some a, some rs => some (fn.name == "runtime.NumGoroutine", fn.ntmps, rs, a)
     |_,_=>none
   |none=>none
 |none=>none
abbrev yf(P:Program)(pure':PX)(k:Nat):Option (Bool × Nat × List ARes × ACode):=alb [] P pure' k
def bbd{lt k}{c:ACFun}(h:alb lt P pure' k=some (false,c.ntmps,c.results,c.body.bare)):adu P pure' k (.code c):=by
 unfold alb at h;split at h
 .rename_i fn hfn;split at h
  .rename_i body hb;split at h
   .rename_i a rs ha hrs;simp only[je,amh]at h;obtain⟨h1,h2,h3,h4⟩:=h
    exact⟨fn,body,hfn,hb,h1,ab8 _ _ (by rw[ha,h4]),h2,by rw[hrs,h3]⟩
   .cases h
  .cases h
 .cases h
end
def Le(c c':o8):Prop:=∀v args base H r,c v args base H=some r->c' v args base H=some r
def arw{c c':o8}(h:Le c c'){base fr H op r}(he:l8 c base fr H op=some r):l8 c' base fr H op=some r:=by
 cases op
 case call f xs=>exact h _ _ _ _ _ he
 case callR f xs=>exact h _ _ _ _ _ he
 case callP f xs=>
  simp only[l8]at he |-;split at he
  .rename_i us hus;split at he
   .rename_i v H' hc;rw[h _ _ _ _ _ hc];exact he
   .cases he
  .cases he
 case callQ f xs=>
  simp only[l8]at he |-;split at he
  .rename_i hp;rw[dw hp];split at he
   .rename_i v H' hc;rw[h _ _ _ _ _ hc];exact he
   .cases he
  .cases he
 all_goals exact he
def ai1{c c':o8}(h:Le c c'){base}:∀(l:List AOper) {fr:List V} {H:Heap} {r:List V × Heap},mg c base l fr H=some r->mg c' base l fr H=some r:=by
 intro l
 induction l with
 |nil=>intro fr H r he;exact he
 |cons o l ih=>
   intro fr H r he;simp only[mg]at he |-;split at he
   .cases he
   .exact ih he
   .split at he
    .rename_i v H1 h1;rw[arw h h1];exact ih he
    .cases he
def an6{c:o8}{base}:∀(l:List AOper) {fr:List V} {H:Heap} {r:List V × Heap},mg c base l fr H=some r->∀k,∃r',mg c base (l.take k) fr H=some r':=by
 intro l fr H r h k;rw[<- tq k l,agi]at h;cases he:mg c base (l.take k) fr H with
 |none=>rw[he]at h;cases h
 |some r'=>exact⟨r',rfl⟩
def atz{c c':o8}(h:Le c c'){base l fr fr' H r}(he:mg c base l fr H=some r):zm c' base l fr H fr'=zm c base l fr H fr':=by
 have hk:∀k,mg c' base (l.take k) fr H=mg c base (l.take k) fr H:=fun k=>by
  obtain⟨r',hr⟩:=an6 l he k;rw[hr];exact ai1 h _ hr
 funext p
 simp only[zm,ado,hk]
def aiz{b b':List V->Heap->Option St}(hb:∀fr H r,b fr H=some r->b' fr H=some r){kill m}:∀{n n':Nat},n<=n'->∀{fr:List V} {H:Heap} {r:St},x9 b kill m n fr H=some r->x9 b' kill m n' fr H=some r:=by
 intro n
 induction n with
 |zero=>intro n' _ fr H r h;simp[x9]at h
 |succ n ih=>
   intro n' hn fr H r h
   obtain⟨k,rfl⟩:∃k,n'=k+1:=⟨n'-1,by omega⟩
   simp only[x9]at h |-;split at h
   .rename_i fr1 H1 h1;rw[hb _ _ _ h1]
    exact ih (by omega) h
   .rename_i e fr1 H1 hne h1;rw[hb _ _ _ h1];split
    .rename_i e' ;cases e';exact(hne rfl).elim
    .rename_i e';cases e';exact h
    .rename_i e';cases e'
   .cases h
abbrev itN(n:Nat):zn:=fun b k m=>x9 b k m n
def ala{c c':o8}(h:Le c c'){n n'}(hn:n<=n'){base}:∀(ac:ACode) {fr:List V} {H:Heap} {r:St},evC c (itN n) base ac fr H=some r->evC c' (itN n') base ac fr H=some r:=by
 intro ac
 induction ac with
 |skip=>intro fr H r he;exact he
 |regionE ops kill outs=>intro fr H r he;exact he
 |region ops chk kill=>
   intro fr H r he;simp only[evC]at he |-;split at he
   .rename_i fr1 H1 h1;rw[ai1 h ops h1];simp only[atz h h1];exact he
   .cases he
 |seq a b iha ihb=>
   intro fr H r he;simp only[evC]at he |-;split at he
   .rename_i fr1 H1 h1;rw[iha h1];exact ihb he
   .rename_i hne;have:=iha he;rw[this];split
    .rename_i e;cases e;exact(hne _ _ he).elim
    .rfl
 |cond o a b iha ihb=>
   intro fr H r he;simp only[evC]at he |-;split at he
   .exact iha he
   .exact ihb he
   .cases he
 |block id a ih=>
   intro fr H r he;simp only[evC]at he |-;split at he
   .rename_i id' fr1 H1 h1;rw[ih h1];exact he
   .rename_i hne;rw[ih he];split
    .rename_i e;cases e;exact(hne _ _ _ he).elim
    .rfl
 |loop kill a ih=>
   intro fr H r he;simp only[evC]at he |-;exact aiz (fun fr H r=>ih) hn he
 |rangeFunc f ps a b _ _=>
   intro fr H r he;simp only[evC]at he |-;split at he
   .split at he
    .rename_i v H2 hc;rw[h _ _ _ _ _ hc];exact he
    .cases he
   .cases he
 |exit id=>intro fr H r he;exact he
 |ret=>intro fr H r he;exact he
def a6b{CP:Nat->Option CFun}{c c':o8}(h:Le c c'){n n'}(hn:n<=n'):Le (aag CP c (itN n)) (aag CP c' (itN n')):=by
 intro v args base H r he
 cases v<;>simp only[aag]at he |-<;>first|(cases he;done)|skip
 case fn f x y=>
  split at he
  .rename_i cf hcf;split at he
   .rename_i fr1 H1 h1;rw[ala h hn _ h1];exact he
   .rename_i fr1 H1 h1;rw[ala h hn _ h1];exact he
   .cases he
  .exact he
  .cases he
 case yld id=>
  split at he
  case isFalse=>cases he
  rename_i hb;rw[dw hb];split at he
  case h_2=>cases he
  split at he
  case h_2=>cases he
  split at he
  case h_2=>cases he
  rename_i h1;rw[ala h hn _ h1];simp only[];split at he
  case h_2=>cases he
  split at he
  case h_2=>cases he
  rename_i h2;rw[ala h hn _ h2];exact he
def akw{CP:Nat->Option CFun}:∀n,Le (aao CP n) (aao CP (n+1))
 |0=>fun _ _ _ _ _ h=>by cases h
 |n+1=>a6b (akw n) (bdn n)
theorem aai {CP:Nat→Option CFun} {n m:Nat} (h:n≤m):Le (aao CP n) (aao CP m):=by
 induction m with
 | zero=>have:n=0:=by omega
         subst this;exact fun _ _ _ _ _ h=>h
 | succ m ih=>
   by_cases hn:n=m+1
   ·subst hn;exact fun _ _ _ _ _ h=>h
   ·exact fun v a b H r hr=>akw m v a b H r (ih (by omega) v a b H r hr)
open Classical in
noncomputable def gq(CP:Nat->Option CFun):o8:=fun v args base H=>if h:∃r n,aao CP n v args base H=some r then some h.choose else none
open Classical in
noncomputable def itW:zn:=fun b k m fr H=>if h:∃r n,x9 b k m n fr H=some r then some h.choose else none
variable {CP:Nat->Option CFun}
def ay2{n v args base H r}(h:aao CP n v args base H=some r):gq CP v args base H=some r:=by
 have hx:∃r n,aao CP n v args base H=some r:=⟨r,n,h⟩;unfold gq;rw[dif_pos hx];obtain⟨m,hm⟩:=hx.choose_spec;have h1:=aai (ve n m) _ _ _ _ _ h;have h2:=aai (pu n m) _ _ _ _ _ hm;rw[h1]at h2;exact h2.symm
def afg{v args base H r}(h:gq CP v args base H=some r):∃n,aao CP n v args base H=some r:=by
 unfold gq at h;split at h
 .rename_i hx;obtain⟨m,hm⟩:=hx.choose_spec;exact⟨m,hm.trans h⟩
 .cases h
def a4y{b:List V->Heap->Option St}{k m n fr H r}(h:x9 b k m n fr H=some r):itW b k m fr H=some r:=by
 have hx:∃r n,x9 b k m n fr H=some r:=⟨r,n,h⟩;unfold itW;rw[dif_pos hx];obtain⟨j,hj⟩:=hx.choose_spec;have h1:=aiz (fun _ _ _ h=>h) (ve n j) h;have h2:=aiz (fun _ _ _ h=>h) (pu n j) hj;rw[h1]at h2;exact h2.symm
def ayn{b:List V->Heap->Option St}{k m fr H r}(h:itW b k m fr H=some r):∃n,x9 b k m n fr H=some r:=by
 unfold itW at h;split at h
 .rename_i hx;obtain⟨j,hj⟩:=hx.choose_spec;exact⟨j,hj.trans h⟩
 .cases h
def auh{base fr H op r}(he:l8 (gq CP) base fr H op=some r):∃n,l8 (aao CP n) base fr H op=some r:=by
 cases op
 case call f xs=>exact afg he
 case callR f xs=>exact afg he
 case callP f xs=>
  simp only[l8]at he;split at he
  .rename_i us hus;split at he
   .rename_i v H' hc;obtain⟨n,hn⟩:=afg hc;refine⟨n,?_⟩;simp only[l8,hus,hn];exact he
   .cases he
  .cases he
 case callQ f xs=>
  simp only[l8]at he;split at he
  .rename_i hp;split at he
   .rename_i v H' hc;obtain⟨n,hn⟩:=afg hc;refine⟨n,?_⟩;simp only[l8,dw hp,hn];exact he
   .cases he
  .cases he
 all_goals exact⟨0,he⟩
def apq{base}:∀(l:List AOper) {fr:List V} {H:Heap} {r:List V × Heap},mg (gq CP) base l fr H=some r->∃n,mg (aao CP n) base l fr H=some r:=by
 intro l
 induction l with
 |nil=>intro fr H r he;exact⟨0,he⟩
 |cons o l ih=>
   intro fr H r he;simp only[mg]at he;split at he
   .cases he
   .rename_i hw;obtain⟨n,hn⟩:=ih he
    exact⟨n,by simp only[mg,hw,hn]⟩
   .rename_i hw;split at he
    .rename_i v H1 h1;obtain⟨n1,hn1⟩:=auh h1;obtain⟨n2,hn2⟩:=ih he;refine⟨max n1 n2,?_⟩;simp only[mg,hw,arw (aai (ve n1 n2)) hn1];exact ai1 (aai (pu n1 n2)) l hn2
    .cases he
def a0l{bW:List V->Heap->Option St}{b:Nat->List V->Heap->Option St}(hmono:∀n m,n<=m->∀fr H r,b n fr H=some r->b m fr H=some r)(hb:∀fr H r,bW fr H=some r->∃n,b n fr H=some r){kill m}:
 ∀(k:Nat) {fr:List V} {H:Heap} {r:St},x9 bW kill m k fr H=some r->∃n,x9 (b n) kill m k fr H=some r:=by
 intro k
 induction k with
 |zero=>intro fr H r h;simp[x9]at h
 |succ k ih=>
   intro fr H r h;simp only[x9]at h;split at h
   .rename_i fr1 H1 h1;obtain⟨n1,hn1⟩:=hb _ _ _ h1;obtain⟨n2,hn2⟩:=ih h;refine⟨max n1 n2,?_⟩;simp only[x9,hmono _ _ (ve n1 n2) _ _ _ hn1];exact aiz (hmono _ _ (pu n1 n2)) (aj _) hn2
   .rename_i e fr1 H1 hne h1;obtain⟨n1,hn1⟩:=hb _ _ _ h1;refine⟨n1,?_⟩;simp only[x9,hn1];cases e with
    |nrm=>exact(hne rfl).elim
    |ext id=>exact h
    |ret=>exact h
   .cases h
noncomputable def evN(CP:Nat->Option CFun)(base:Nat)(ac:ACode)(n:Nat):List V->Heap->Option St:=evC (aao CP n) (itN n) base ac
def abk{base ac n m}(h:n<=m){fr H r}(he:evN CP base ac n fr H=some r):evN CP base ac m fr H=some r:=ala (aai h) h ac he
def aa9{base}:∀(ac:ACode) {fr:List V} {H:Heap} {r:St},evC (gq CP) itW base ac fr H=some r->∃n,evN CP base ac n fr H=some r:=by
 intro ac
 induction ac with
 |skip=>intro fr H r he;exact⟨0,he⟩
 |regionE ops kill outs=>intro fr H r he;exact⟨0,he⟩
 |region ops chk kill=>
   intro fr H r he;simp only[evC]at he;split at he
   .rename_i fr1 H1 h1;obtain⟨n,hn⟩:=apq ops h1;have hl:Le (aao CP n) (gq CP):=fun _ _ _ _ _ h=>ay2 h;refine⟨n,?_⟩;simp only[evN,evC,hn];simp only[atz hl hn]at he;exact he
   .cases he
 |seq a b iha ihb=>
   intro fr H r he;simp only[evC]at he;split at he
   .rename_i fr1 H1 h1;obtain⟨n1,hn1⟩:=iha h1;obtain⟨n2,hn2⟩:=ihb he;refine⟨max n1 n2,?_⟩;have k1:=abk (ve n1 n2) hn1;have k2:=abk (pu n1 n2) hn2;simp only[evN,evC]at k1 |-;rw[k1];exact k2
   .rename_i hne;obtain⟨n,hn⟩:=iha he;refine⟨n,?_⟩;simp only[evN,evC]at hn |-;rw[hn];split
    .rename_i e;cases e;exact(hne _ _ he).elim
    .rfl
 |cond o a b iha ihb=>
   intro fr H r he;simp only[evC]at he;split at he
   .rename_i hc;obtain⟨n,hn⟩:=iha he
    exact⟨n,by simp only[evN,evC,hc];exact hn⟩
   .rename_i hc;obtain⟨n,hn⟩:=ihb he
    exact⟨n,by simp only[evN,evC,hc];exact hn⟩
   .cases he
 |block id a ih=>
   intro fr H r he;simp only[evC]at he;split at he
   .rename_i id' fr1 H1 h1;obtain⟨n,hn⟩:=ih h1
    exact⟨n,by simp only[evN,evC]at hn |-;rw[hn];exact he⟩
   .rename_i hne;obtain⟨n,hn⟩:=ih he;refine⟨n,?_⟩;simp only[evN,evC]at hn |-;rw[hn];split
    .rename_i e;cases e;exact(hne _ _ _ he).elim
    .rfl
 |loop kill a ih=>
   intro fr H r he;simp only[evC]at he;obtain⟨k,hk⟩:=ayn he;obtain⟨n,hn⟩:=a0l (b:=evN CP base a) (fun n m h fr H r=>abk h) (fun fr H r=>ih) k hk;refine⟨max n k,?_⟩;simp only[evN,evC];exact aiz (fun fr H r h=>abk (ve n k) h) (pu n k) hn
 |rangeFunc f ps a b _ _=>
   intro fr H r he;simp only[evC]at he;split at he
   .rename_i k x y hf;split at he
    .rename_i v H2 hc;obtain⟨n,hn⟩:=afg hc;refine⟨n,?_⟩;simp only[evN,evC,hf,hn];exact he
    .cases he
   .cases he
 |exit id=>intro fr H r he;exact⟨0,he⟩
 |ret=>intro fr H r he;exact⟨0,he⟩
def axp{v args base H r}(he:aag CP (gq CP) itW v args base H=some r):∃n,aag CP (aao CP n) (itN n) v args base H=some r:=by
 cases v<;>simp only[aag]at he |-<;>first|(cases he;done)|skip
 case fn f x y=>
  split at he
  .rename_i cf hcf;split at he
   .rename_i fr1 H1 h1;obtain⟨n,hn⟩:=aa9 _ h1;refine⟨n,?_⟩;simp only[evN]at hn;simp only[hn];exact he
   .rename_i fr1 H1 h1;obtain⟨n,hn⟩:=aa9 _ h1;refine⟨n,?_⟩;simp only[evN]at hn;simp only[hn];exact he
   .cases he
  .rename_i g hg;exact⟨0,he⟩
  .cases he
 case yld id=>
  split at he
  case isFalse=>cases he
  rename_i hb;split at he
  case h_2=>cases he
  rename_i hH;split at he
  case h_2=>cases he
  rename_i hset;split at he
  case h_2=>cases he
  rename_i h1;split at he
  case h_2=>cases he
  rename_i hH1;split at he
  case h_2=>cases he
  rename_i h2;obtain⟨n1,hn1⟩:=aa9 _ h1;obtain⟨n2,hn2⟩:=aa9 _ h2;have k1:=abk (ve n1 n2) hn1;have k2:=abk (pu n1 n2) hn2;refine⟨max n1 n2,?_⟩;simp only[evN]at k1 k2;simp only[hb,jf,k1,hH1,k2];exact he
def acf{v args base H r}(he:aag CP (gq CP) itW v args base H=some r):gq CP v args base H=some r:=by
 obtain⟨n,hn⟩:=axp he;exact ay2 (n:=n+1) hn
def bjv{b:List V->Heap->Option St}{k m fr fr' H H' r}(h1:b fr H=some (.nrm,fr',H'))(h2:itW b k m (ut k fr') (trim m (ut k fr') H')=some r):itW b k m fr H=some r:=by
 obtain⟨n,hn⟩:=ayn h2;refine a4y (n:=n+1) ?_;simp only[x9,h1];exact hn
def aym{b:List V->Heap->Option St}{k m fr fr' H H' e}(hne:e≠.nrm)(h1:b fr H=some (e,fr',H')):itW b k m fr H=some (e,ut k fr',trim m (ut k fr') H'):=by
 refine a4y (n:=1) ?_;simp only[x9,h1]
open Go.RowKit Go.ChangeShapes Go.WideShapes Go.ChangeAt
section
variable {P:Program} {pure':PX} {CP:Nat->Option CFun} {H:Type} {enc:TypeId × Value->H}
def bfc{w w'}{may:MemPlace->Prop}(hk:∀B,B<w.heap.size->w'.heap[B]?=w.heap[B]?)(ht:Tr (fun _ _=>none) w w'):w.keptBut w' may:=by
 refine⟨ht.os,ht.output,fun i hi=>?_⟩;rw[hk i hi];cases w.heap[i]? with
 |none=>rfl
 |some o=>cases o<;>simp
def a2y{f:Func}{s:ChangeSpec}{again W W' args v}{ds gs:List (DataW H)}{before:List MemPlace}(hW:DataW.Whole enc P f.params.toList s.vars false W args.toList ds gs before){pa pv:List MemPlace}(hres:∀(b:Nat) (sp:Nat->Bool) (hd:Bool),DataW.TrodAll enc P W' b sp hd f.resultTypes.toList (v.resultList f.resultTypes.size) (s.fn H (ds++gs)).results [])(hargs:∀sp:Nat->Bool,(∀p∈before,sp p.block=true)->DataW.TrodAll enc P W' 0 sp true f.params.toList args.toList (s.fn H (ds++gs)).args pa)(hvars:∀sp:Nat->Bool,(∀p∈before,sp p.block=true)->DataW.TrodVars enc P W' sp s.vars (s.fn H (ds++gs)).vars pv)(hps:before=pa++pv)(hk:W.keptBut W' (·∈before))(hfz:∀b off,MemPlace.cell b off∈before->W'.frozen? ⟨b,off,none⟩=W.frozen? ⟨b,off,none⟩)(hok:∀(j:Nat) (t:TypeId) (r:Value),f.resultTypes[j]?=some t->(v.resultList f.resultTypes.size)[j]?=some r->Value.okWide P W' .any 0 t r):
 s.post enc P f false true false again W args v W':=by
 have old:∀p∈before,(fun b=>decide (b<W.heap.size)) p.block=true:=fun p hp=>by simpa using hW.lt p hp
 refine⟨ds,gs,before,[],pa,pv,hW,hres _ _ _,hargs _ old,hvars _ old,World.keptBut_mono (fun p hp=>⟨hp,?_⟩) hk,fun _=>?_⟩
 .rw[hps,mo]at hp;exact .inr hp
 .obtain⟨_,_,_,_,_,hz,_⟩:=hW
  refine⟨hok,_,_,([]++pa)++pv,⟨[]++pa,pv,trodAll_append (hargs _ fun _ _=>rfl) (hres _ _ _),hvars _ fun _ _=>rfl,rfl,fun b off hp=>?_,fun h=>by cases h⟩,fun p hp _=>by rw[hps];simpa using hp⟩
  have hb:MemPlace.cell b off∈before:=by rw[hps];simpa using hp
  rw[hfz b off hb];exact hz b off hb
def aif{w w' base}{sp:Nat->Bool}{held}:∀{ts:List TypeId} {vs:List Value} {ds:List (DataW H)} {ps:List MemPlace},DataW.TrodAll enc P w base sp held ts vs ds ps->(∀p∈ps,w.sameAt w' p)->DataW.TrodAll enc P w' base sp held ts vs ds ps
 | [],[],[],_,h,_=>h
 |_::_,_::_,_::_,_,⟨p,q,⟨n,h1⟩,h2,e⟩,hs=>⟨p,q,⟨n,DataW.trod_carry n _ _ _ h1 (fun x hx=>hs x (by rw[e];exact jy _ hx))⟩,aif h2 (fun x hx=>hs x (by rw[e];exact lh _ hx)),e⟩
def trodAll_length{w base}{sp:Nat->Bool}{held}:∀{ts:List TypeId} {vs:List Value} {ds:List (DataW H)} {ps:List MemPlace},DataW.TrodAll enc P w base sp held ts vs ds ps->ds.length=ts.length
 | [],[],[],_,_=>rfl
 |_::_,_::_,_::_,_,⟨_,_,_,h2,_⟩=>by simp[trodAll_length h2]
def a2d{w w':World}{p:MemPlace}(h:w'.heap[p.block]?=w.heap[p.block]?):w.sameAt w' p:=by
 cases p with
 |cell b off=>
   show w'.cell? ⟨b,off,none⟩=w.cell? ⟨b,off,none⟩;have h:w'.heap[b]?=w.heap[b]?:=h;simp only[World.cell?,h]
 |map b=>exact h
def aty(hmix:P.follows .mixedOrders=true)(hCP:∀k c,CP k=some c->adu P pure' k c)(hl:laidOutB P=true)(hm:mapsRowed P=true)(hz:((List.range P.types.size).all fun t=>match P.underlying t with|some (.slice e)=>decide (0<P.cellsOf e)|_=>true)=true){k:Nat}{fn:Func}{s:ChangeSpec}{tb:TypeId}(hvars:s.vars=[])(hres:fn.resultTypes=#[tb])(htb:P.underlying tb=some .bool)(hpar:∀t∈fn.params.toList,t<P.types.size)(hspec:∀ds:List (DataW H),ds.length=fn.params.toList.length->s.fn H ds={ results:=[.lit (.bool true)],args:=ds }){W:World}{args:Array Value}{ds gs:List (DataW H)}{before:List MemPlace}(hW:DataW.Whole enc P fn.params.toList s.vars false W args.toList ds gs before)(hv:∃vs,VRs (fun _ _=>none) (fun _=>False) W vs args.toList/\∃n H',aao CP n (.fn k [] []) vs 0 []=some (bl true,H'))(hfx:∀(B:Nat) (o:Array Value × TypeId × Nat × Nat),pure'.fx B=some o->W.heap[B]?=some (.cells o.1 o.2.1 o.2.2)):
 Calls P k args W fun e W'=>∃v,e=.returned v/\s.post enc P fn false true false false W args v W':=by
 obtain⟨vs,hvs,n,H',hc⟩:=hv;refine(axt hmix hCP hc hvs hfx).mono ?_;rintro e W' ⟨c,μ',Mt',rfl,hr,hk,htr⟩;have hcv:c=.bool true:=aa6 hr;subst hcv;have hlt:=hW.lt;have hW0:=hW;obtain⟨p,q,h1,h2,e1,h3,h4⟩:=hW;rw[hvars]at h2
 obtain⟨rfl,rfl⟩:gs=[]/\q=[]:=by
  cases gs with
  |nil=>exact⟨rfl,h2⟩
  |cons g gs=>exact h2.elim
 have hbp:before=p:=by simpa using e1
 have hds:=trodAll_length h1
 have hfn:s.fn H (ds++[])={ results:=[.lit (.bool true)],args:=ds }:=by rw[yo];exact hspec ds hds
 refine⟨_,rfl,a2y (pa:=before) (pv:=[]) hW0 (fun b sp hd=>?_) (fun sp hsp=>?_) (fun sp _=>?_) (by simp) (bfc hk htr) (fun b off hp=>?_) (ok_one hres rfl (okWide_bool_mk htb true))⟩
 .rw[hfn,hres]
  exact⟨[],[],⟨1,by simp[DataW.trod,Value.cells,htb]⟩,rfl,rfl⟩
 .rw[hfn]
  have h5:=DataW.TrodAll.respare (kids_rows hl hm) (fun t e ht he=>slices_full_of P hz t e ht he) hpar h1 (spare':=sp) (fun x hx=>hsp x (by rw[hbp];exact hx))
  rw[hbp]
  exact aif h5 fun x hx=>a2d (hk _ (hlt x (by rw[hbp];exact hx)))
 .rw[hfn,hvars];rfl
 .simp only[World.frozen?,hk b (hlt _ hp)]
end
theorem az5(p x y):aq8 (some (.s (.bool p))) (some (.s (.bool x))) (some (.s (.bool y)))=some (.s (.bool (bif p then x else y))):=by cases p<;>rfl
theorem az4(x y):aq8 (some (.s (.bool true))) x y=x:=rfl
theorem awj(x y):aq8 (some (.s (.bool false))) x y=y:=rfl
def afc{fr:List V}{s:Nat}{v:V}(h:s<fr.length):(fr.set s v).getD s .unk=v:=by simp[h]
def aef{fr:List V}{s t:Nat}{v:V}(h:s≠t):(fr.set s v).getD t .unk=fr.getD t .unk:=by simp[h]
theorem ack(fr):ut [] fr=fr:=rfl
theorem ach{m fr H}(h:H.length=m):trim m fr H=H:=by
 unfold trim;split
 .rw[<- h];exact afu
 .rfl
inductive RI where
 |keep (g:List (Nat × Bool × E)) (e:E)
 |sub (src:Nat) (path slots:List Nat)
 |tt (i:Nat)
 |cc (v:V)
 deriving Inhabited
def ae3:List Nat->List Nat->E->List (Nat × Bool × E) × E
 | [],_,e=>([],e)
 |i::p,ss,.op _ xs=>ae3 p ss (xs.getD i (.c .unk))
 |0::p,ss,.pick c _ _=>ae3 p ss c
 |1::p,s::ss,.pick c a _=>((s,true,c)::(ae3 p ss a).1,(ae3 p ss a).2)
 |2::p,s::ss,.pick c _ b=>((s,false,c)::(ae3 p ss b).1,(ae3 p ss b).2)
 |_,_,_=>([],.c .unk)
def ag7:List RI->List (List (Nat × Bool × E) × E)
 | []=>[]
 |.keep g e::r=>(g,e)::ag7 r
 |_::r=>ag7 r
def frees:List RI->List E
 | []=>[]
 |.keep [] e::r=>e::frees r
 |_::r=>frees r
def RI.get(S:List E):RI->List (Nat × Bool × E) × E
 |.keep g e=>(g,e)
 |.sub s p ss=>ae3 p ss (S.getD s (.c .unk))
 |.tt i=>([],.t i)
 |.cc v=>([],.c v)
def apo(items:List RI)(os:List (Nat × E)):List (List (Nat × Bool × E) × E):=items.map (RI.get (os.map (·.2)++frees items))
def bbm{fr H}:∀{xs:List E} {i:Nat},(arx fr H xs).isSome=true->(evE fr H (xs.getD i (.c .unk))).isSome=true:=by
 intro xs
 induction xs with
 |nil=>intro i _;simp[evE]
 |cons x xs ih=>
   intro i h;simp only[arx]at h;cases hx:evE fr H x with
   |none=>simp[hx]at h
   |some v=>
     cases hs:arx fr H xs with
     |none=>simp[hx,hs]at h
     |some vs=>
       cases i with
       |zero=>simp[hx]
       |succ i=>simpa using ih (i:=i) (by rw[hs];rfl)
theorem ajm{fr H}:∀(p ss:List Nat) (e:E),(evE fr H e).isSome=true->ak6 fr H (ae3 p ss e).1 (ae3 p ss e).2=true:=by
 intro p
 induction p with
 |nil=>intro ss e h;simp only[ae3,ak6];exact h
 |cons i p ih=>
   intro ss e h;cases e with
   |op o xs=>
     simp only[ae3];refine ih _ _ (bbm ?_);simp only[evE]at h;cases hs:arx fr H xs with
     |none=>simp[hs]at h
     |some vs=>rfl
   |pick c a b=>
     simp only[evE]at h;cases hc:evE fr H c with
     |none=>simp[hc,aq8]at h
     |some v=>
       rw[hc]at h
       match i,ss with
       |0,ss=>simp only[ae3];exact ih _ _ (by rw[hc];rfl)
       |1,[]=>simp only[ae3,ak6,evE];rfl
       |2,[]=>simp only[ae3,ak6,evE];rfl
       |1,s::ss=>
         simp only[ae3,ak6,hc];unfold aq8 at h;split at h
         .rename_i e;cases e;simp only[a8w,jf];exact ih _ _ h
         .rename_i e;cases e;simp[a8w]
         .cases h
       |2,s::ss=>
         simp only[ae3,ak6,hc];unfold aq8 at h;split at h
         .rename_i e;cases e;simp[a8w]
         .rename_i e;cases e;simp only[a8w,jf];exact ih _ _ h
         .cases h
       |i+3,ss=>simp only[ae3,ak6,evE];rfl
   |t j=>simp only[ae3,ak6,evE];rfl
   |c v=>simp only[ae3,ak6,evE];rfl
def ast{fr H}:∀{os:List (Nat × E)} {f g:List V},abb fr H os f=some g->∀p∈os,(evE fr H p.2).isSome=true:=by
 intro os
 induction os with
 |nil=>intro f g _ p hp;cases hp
 |cons q os ih=>
   intro f g h p hp;simp only[abb]at h;cases hq:evE fr H q.2 with
   |none=>simp[hq]at h
   |some v=>
     simp only[hq]at h
     rcases mq.1 hp with rfl|hp
     .rw[hq];rfl
     .exact ih h p hp
def a4s:∀{items:List RI} {g:List (Nat × Bool × E)} {e:E},RI.keep g e∈items->(g,e)∈ag7 items:=by
 intro items
 induction items with
 |nil=>intro g e h;cases h
 |cons x r ih=>
   intro g e h
   rcases mq.1 h with h2|h2
   .subst h2;simp[ag7]
   .have h3:=ih h2;clear h
    cases x<;>simp only[ag7]<;>first|exact il _ h3|exact h3
def a4a:∀{items:List RI} {g:List (Nat × Bool × E)} {e:E},(g,e)∈ag7 items->RI.keep g e∈items:=by
 intro items
 induction items with
 |nil=>intro g e h;cases h
 |cons x r ih=>
   intro g e h;cases x with
   |keep g' e'=>
     simp only[ag7]at h
     rcases mq.1 h with h|h
     .cases h;exact jh
     .exact il _ (ih h)
   |_=>exact il _ (ih h)
def a5l:∀{items:List RI} {e:E},e∈frees items->([],e)∈ag7 items:=by
 intro items
 induction items with
 |nil=>intro e h;cases h
 |cons x r ih=>
   intro e h;cases x with
   |keep g e'=>
     cases g with
     |nil=>
       simp only[frees]at h;simp only[ag7]
       rcases mq.1 h with rfl|h
       .exact jh
       .exact il _ (ih h)
     |cons a g=>simp only[frees]at h;simp only[ag7];exact il _ (ih h)
   |_=>exact ih h
def aug(m)(items:List RI)(os kill fr H):
 yc (some (m,apo items os,os)) kill fr H=yc (some (m,ag7 items,os)) kill fr H:=by
 simp only[yc];by_cases hm:m<=fr.length
 .rw[dw hm,dw hm];by_cases hk:(ag7 items).all (fun r=>ak6 fr H r.1 r.2)=true
  .rw[dw hk];cases hs:abb fr H os (ut kill fr)with
   |none=>split<;>rfl
   |some g=>
     rw[dw];rw[bq];intro r hr;unfold apo at hr;rw[aa4]at hr;obtain⟨x,hx,rfl⟩:=hr;cases x with
     |keep gg e=>
       rw[bq]at hk;exact hk _ (a4s hx)
     |tt i=>rfl
     |cc v=>rfl
     |sub s p ss=>
       simp only[RI.get];by_cases hl:s<(os.map (·.2)++frees items).length
       .have hd:(os.map (·.2)++frees items).getD s (.c .unk)=(os.map (·.2)++frees items)[s]:=by simp only[List.getD,af hl];rfl
        rw[hd]
        rcases mo.1 (xu hl)with h1|h1
        .rw[aa4]at h1;obtain⟨q,hq,e⟩:=h1;rw[<- e];exact ajm p ss _ (ast hs q hq)
        .rw[bq]at hk;have h5:=hk _ (a5l h1)
         exact ajm p ss _ (by simpa[ak6]using h5)
       .have hd:(os.map (·.2)++frees items).getD s (.c .unk)=.c .unk:=by rw[List.getD,jw (Nat.le_of_not_lt hl)];rfl
        rw[hd];exact ajm (fr:=fr) (H:=H) p ss _ rfl
  .rw[fu hk,fu];intro h;apply hk;rw[bq]at h |-;intro r hr;obtain⟨g,e⟩:=r;exact h _ (aa4.2 ⟨_,a4a hr,rfl⟩)
 .rw[fu hm,fu hm]
def a7x{ops kill outs m}{items:List RI}{os}(h:aaw ops kill outs=some (m,apo items os,os))(fr H):
 yc (aaw ops kill outs) kill fr H=yc (some (m,ag7 items,os)) kill fr H:=by rw[h,aug]
abbrev Env:=List (Nat × V)
def amd:Env->Nat->V
 | [],_=>.unk
 |(k,x)::e,s=>if s=k then x else amd e s
def a9g(s:Nat)(v:V):Env->Env
 | []=>[(s,v)]
 |(k,x)::e=>if s=k then(s,v)::e else if s<k then(s,v)::(k,x)::e else(k,x)::a9g s v e
def aam(ks:List Nat):Env->Env
 | []=>[]
 |(k,x)::e=>if ks.contains k then aam ks e else(k,x)::aam ks e
def ja(n:Nat)(en:Env):List V:=(List.range n).map (amd en)
def ba8(s t v):∀en:Env,amd (a9g s v en) t=if t=s then v else amd en t:=by
 intro en
 induction en with
 |nil=>rfl
 |cons p e ih=>
   obtain⟨k,x⟩:=p;simp only[a9g];split
   .rename_i h;subst h;simp only[amd];split<;>rfl
   .split
    .simp only[amd]
    .rename_i h1 h2;simp only[amd,ih];by_cases h3:t=k
     .subst h3;rw[dw rfl,fu (fun e=>h1 e.symm),dw rfl]
     .rw[fu h3,fu h3]
def a5f(ks t):∀en:Env,amd (aam ks en) t=if ks.contains t then .unk else amd en t:=by
 intro en
 induction en with
 |nil=>simp[aam,amd]
 |cons p e ih=>
   obtain⟨k,x⟩:=p;simp only[aam];by_cases h1:ks.contains k=true
   .rw[dw h1,ih];split
    .rfl
    .rename_i h2;simp only[amd];rw[fu];rintro rfl;exact h2 h1
   .rw[fu h1];simp only[amd,ih];by_cases h3:t=k
    .subst h3;rw[dw rfl,fu h1,dw rfl]
    .rw[fu h3,fu h3]
def xe(n)(en:Env):(ja n en).length=n:=by simp[ja]
def afd{n}{en:Env}{s}(h:s<n):(ja n en).getD s .unk=amd en s:=by simp[ja,h]
def bf8{n}{en:Env}{fr}(hl:fr.length=n)(h:∀s,s<n->fr.getD s .unk=amd en s):fr=ja n en:=by
 refine a7o (by rw[hl,xe]) fun i h1 h2=>?_
 have:=h i (by omega)
 simp only[ja,List.getElem_map,List.getElem_range];rw[<- this];simp[h1]
def aru(n:Nat)(en:Env)(s:Nat)(v:V):(ja n en).set s v=ja n (a9g s v en):=by
 refine bf8 (by rw[fe,xe]) fun t ht=>?_
 rw[ba8];split
 .rename_i h;subst h;exact afc (by rw[xe];exact ht)
 .rename_i h;rw[aef (fun e=>h e.symm),afd ht]
def auc(n)(en:Env)(ks):ut ks (ja n en)=ja n (aam ks en):=by
 refine bf8 (by rw[zq,xe]) fun t ht=>?_
 rw[ac9,a5f];by_cases h:t∈ks
 .rw[dw h,dw (by simpa using h)]
 .rw[fu h,fu (by simpa using h),afd ht]
def uq(n:Nat):List V->Nat->Env
 | [],k=>(List.range' k (n-k)).map fun s=>(s,und)
 |v::vs,k=>(k,v)::uq n vs (k+1)
def akr(n):∀(vs:List V) (k t:Nat),k<=t->t<n->vs.length+k<=n->amd (uq n vs k) t=if t-k<vs.length then vs.getD (t-k) .unk else und:=by
 intro vs
 induction vs with
 |nil=>
   intro k t h1 h2 _;simp only[uq,d9,ap3,ky]
   have:∀(m j:Nat),j<=t->t<j+m->amd ((List.range' j m).map fun s=>(s,und)) t=und:=by
    intro m
    induction m with
    |zero=>intro j a b;omega
    |succ m ih=>
      intro j a b;simp only[List.range'_succ,pq,amd];split
      .rfl
      .exact ih (j+1) (by omega) (by omega)
   exact this _ k h1 (by omega)
 |cons v vs ih=>
   intro k t h1 h2 h3;simp only[uq,amd,bn]at h3 |-;split
   .rename_i h;subst h;simp
   .rename_i h
    rw[ih (k+1) t (by omega) h2 (by omega)]
    obtain⟨d,hd⟩:∃d,t-k=d+1:=⟨t-k-1,by omega⟩
    have:t-(k+1)=d:=by omega
    rw[hd,this];simp only[Nat.add_lt_add_iff_right,jr]
theorem start_eq{n vs}(h:vs.length<=n):vs++List.replicate (n-vs.length) und=ja n (uq n vs 0):=by
 refine bf8 (by simp;omega) fun t ht=>?_
 rw[akr n vs 0 t (jo _) ht (by omega)]
 split
 .rename_i h1;simp at h1;simp only[List.getD,ah h1,bl8]
 .rename_i h1;simp at h1;simp only[List.getD,bz h1,bl5]
  rw[dw (by omega)]
  rfl
theorem ba9(s):amd [] s=.unk:=rfl
theorem a5g(k x)(e:Env)(s):amd ((k,x)::e) s=if s=k then x else amd e s:=rfl
theorem a9f(s v):a9g s v []=[(s,v)]:=rfl
theorem a2x(s v k x)(e:Env):a9g s v ((k,x)::e)=if s=k then(s,v)::e else if s<k then(s,v)::(k,x)::e else(k,x)::a9g s v e:=rfl
theorem a4r(ks):aam ks []=[]:=rfl
theorem a0j(ks k x)(e:Env):aam ks ((k,x)::e)=if ks.contains k then aam ks e else(k,x)::aam ks e:=rfl
def bjw(b:List V->Heap->Option St)(k m fr H):itW b k m fr H=match b fr H with
 |some (.nrm,fr',H')=>itW b k m (ut k fr') (trim m (ut k fr') H')
 |some (e,fr',H')=>some (e,ut k fr',trim m (ut k fr') H')
 |none=>none:=by
 cases hb:b fr H with
 |none=>
   simp only[];cases hi:itW b k m fr H with
   |none=>rfl
   |some r=>
     obtain⟨n,hn⟩:=ayn hi;cases n with
     |zero=>simp[x9]at hn
     |succ n=>simp[x9,hb]at hn
 |some r=>
   obtain⟨e,fr',H'⟩:=r;cases e with
   |nrm=>
     simp only[];cases hi:itW b k m (ut k fr') (trim m (ut k fr') H')with
     |some r=>exact bjv hb hi
     |none=>
       cases hj:itW b k m fr H with
       |none=>rfl
       |some r=>
         obtain⟨n,hn⟩:=ayn hj;cases n with
         |zero=>simp[x9]at hn
         |succ n=>
           simp only[x9,hb]at hn;rw[a4y hn]at hi;cases hi
   |ext id=>exact aym (by simp) hb
   |ret=>exact aym (by simp) hb
noncomputable def ahk(call:o8)(it:zn)(base:Nat)(b:ACode):Option St->Option St
 |some (.nrm,fr,H)=>evC call it base b fr H
 |r=>r
def ayd(id:Nat):Option St->Option St
 |some (.ext id',fr,H)=>some (if id'=id then .nrm else .ext id',fr,H)
 |r=>r
noncomputable def condC(call:o8)(it:zn)(base:Nat)(a b:ACode)(fr:List V)(H:Heap):V->Option St
 |.s (.bool p)=>bif p then evC call it base a fr H else evC call it base b fr H
 |_=>none
def rowC(H:Heap):Option (List V)->Option St
 |some fr=>some (.nrm,fr,H)
 |none=>none
def a09(kill:List Nat)(chk:List V->Bool):Option (List V × Heap)->Option St
 |some (fr,H)=>bif chk fr then some (.nrm,ut kill fr,H)else none
 |none=>none
def a0a(chk:List (Nat × Nat))(ops:List AOper)(kill:List Nat):Option (List V × Heap)->Option St
 |some (fr,H)=>bif chk.all (agl ops fr)then some (.nrm,ut kill fr,H)else none
 |none=>none
section
variable {call:o8} {it:zn} {base:Nat}
theorem bbw(fr H):evC call it base .skip fr H=some (.nrm,fr,H):=rfl
theorem bby(id fr H):evC call it base (.exit id) fr H=some (.ext id,fr,H):=rfl
theorem bgk(fr H):evC call it base .ret fr H=some (.ret,fr,H):=rfl
theorem bgh(a b fr H):evC call it base (.seq a b) fr H=ahk call it base b (evC call it base a fr H):=rfl
theorem a6c(id c fr H):evC call it base (.block id c) fr H=ayd id (evC call it base c fr H):=rfl
theorem bbz(c a b fr H):evC call it base (.cond c a b) fr H=condC call it base a b fr H (ev fr c):=by
 simp only[evC];cases ev fr c with
 |s v=>cases v with
   |bool p=>cases p<;>rfl
   |_=>rfl
 |_=>rfl
theorem bbx(kill c fr H):evC call it base (.loop kill c) fr H=it (evC call it base c) kill H.length (ut kill fr) H:=rfl
theorem bgi(ops kill outs fr H):evC call it base (.regionE ops kill outs) fr H=rowC H (yc (aaw ops kill outs) kill fr H):=rfl
theorem evC_ops(ops kill fr H):evC call it base (.region ops [] kill) fr H=a0a [] ops kill (mg call base ops fr H):=by
 simp only[evC];cases mg call base ops fr H with
 |none=>rfl
 |some p=>rfl
def ayw{ops chk kill fr H fr' H'}(h:mg call base ops fr H=some (fr',H'))(hc:chk.all (zm call base ops fr H fr')=true):evC call it base (.region ops chk kill) fr H=some (.nrm,ut kill fr',H'):=by
 simp only[evC,h,hc,jf]
def aul{ops chk kill fr H fr' H'}(h:mg call base ops fr H=some (fr',H'))(hc:chk.all (agl ops fr')=true):evC call it base (.region ops chk kill) fr H=some (.nrm,ut kill fr',H'):=by
 refine ayw h ?_;rw[bq]at hc |-;intro p hp;simp only[zm,hc p hp,ru]
theorem asq(b fr H):ahk call it base b (some (.nrm,fr,H))=evC call it base b fr H:=rfl
theorem a1p(b i fr H):ahk call it base b (some (.ext i,fr,H))=some (.ext i,fr,H):=rfl
theorem a1o(b fr H):ahk call it base b (some (.ret,fr,H))=some (.ret,fr,H):=rfl
theorem azf(b):ahk call it base b none=none:=rfl
theorem azg(b p x y):ahk call it base b (bif p then x else y)=bif p then ahk call it base b x else ahk call it base b y:=by cases p<;>rfl
theorem a9v(id fr H):ayd id (some (.nrm,fr,H))=some (.nrm,fr,H):=rfl
theorem a9u(id fr H):ayd id (some (.ret,fr,H))=some (.ret,fr,H):=rfl
theorem a9w(id i fr H):ayd id (some (.ext i,fr,H))=some (if i=id then .nrm else .ext i,fr,H):=rfl
theorem a3j(id):ayd id none=none:=rfl
theorem a3k(id p x y):ayd id (bif p then x else y)=bif p then ayd id x else ayd id y:=by cases p<;>rfl
theorem a02(a b fr H p):condC call it base a b fr H (.s (.bool p))=bif p then evC call it base a fr H else evC call it base b fr H:=rfl
theorem a2i(H fr):rowC H (some fr)=some (.nrm,fr,H):=rfl
theorem ath(ops kill fr H):a0a [] ops kill (some (fr,H))=some (.nrm,ut kill fr,H):=rfl
end
def a7y(fr:List V)(H:Heap)(os:List (Nat × E))(kill:List Nat)(r:Bool):Option (List V):=bif r then abb fr H os (ut kill fr)else none
def outE(fr:List V)(H:Heap)(os:List (Nat × E))(fr':List V)(s:Nat):Option V->Option (List V)
 |some v=>abb fr H os (fr'.set s v)
 |none=>none
theorem axg{m R os kill fr H}(h:m<=fr.length):yc (some (m,R,os)) kill fr H=a7y fr H os kill (R.all fun r=>ak6 fr H r.1 r.2):=by
 simp only[yc,dw h,a7y];cases R.all fun r=>ak6 fr H r.1 r.2<;>rfl
theorem azh(fr H os kill):a7y fr H os kill true=abb fr H os (ut kill fr):=rfl
theorem ave(fr H fr'):abb fr H [] fr'=some fr':=rfl
theorem asv(fr H s e os fr'):abb fr H ((s,e)::os) fr'=outE fr H os fr' s (evE fr H e):=rfl
theorem a3i(fr H os fr' s v):outE fr H os fr' s (some v)=abb fr H os (fr'.set s v):=rfl
theorem a8v(fr H e):ak6 fr H [] e=(evE fr H e).isSome:=rfl
theorem a2p(fr H s b x G e):ak6 fr H ((s,b,x)::G) e=a8w (evE fr H x) b (ak6 fr H G e):=rfl
theorem a2q(p b r):a8w (some (.s (.bool p))) b r=bif p==b then r else true:=by cases p<;>cases b<;>cases r<;>rfl
def V1(f:V->Option V):Option V->Option V
 |some x=>f x
 |none=>none
def V2(f:V->V->Option V):Option V->Option V->Option V
 |some x,some y=>f x y
 |_,_=>none
theorem bgy(f:V->Option V)(x):V1 f (some x)=f x:=rfl
theorem bgx(f:V->V->Option V)(x y):V2 f (some x) (some y)=f x y:=rfl
theorem evE_t(fr H i):evE fr H (.t i)=some (fr.getD i .unk):=rfl
theorem bgf(fr H v):evE fr H (.c v)=some v:=rfl
theorem bbn(fr H c a b):evE fr H (.pick c a b)=aq8 (evE fr H c) (evE fr H a) (evE fr H b):=rfl
def adb(op:BinOp):V->V->Option V
 |.s a,.s b=>(ag9 op a b).map .s
 |_,_=>none
def bie(neg:Bool):V->V->Option V
 |.s (.bool a),.s (.bool b)=>some (bl ((a==b) != neg))
 |_,_=>none
def xEqP(H:Heap)(neg:Bool):V->V->Option V
 |.ref i g _,.ref j h _=>if i=j then none else match getC H i g,getC H j h with
   |some _,some _=>some (bl neg)
   |_,_=>none
 |_,_=>none
def acx(k:NK)(neg:Bool)(x:V):Option V:=(x.isNil k).map fun b=>bl (b != neg)
def aid(neg:Bool)(ls:List Leaf):V->V->Option V
 |.agg xs,.agg ys=>(si ls xs ys).map fun b=>bl (b != neg)
 |_,_=>none
def xUn(op:UnOp)(x:V):Option V:=match op,x with
 |.not,.s (.bool b)=>some (bl (!b))
 |.neg,.s (.int k n)=>some (.s (.int k (k.wrap (0-n))))
 |.xor,.s (.int k n)=>(ag9 .xor (.int k (if k.signed then -1 else k.max)) (.int k n)).map .s
 |_,_=>none
def bdv(k:IntKind):V->Option V
 |.s (.int _ n)=>some (.s (.int k (k.wrap n)))
 |_=>none
def au3:V->Option V
 |.s (.string b)=>some (.s (.string b))
 |_=>none
def aek:V->Option V
 |.ref id g off=>some (.ref id g off)
 |.pref cs=>some (.pref cs)
 |.fn f a b=>some (.fn f a b)
 |.yld id=>some (.yld id)
 |_=>none
def abg(off:Nat):V->Option V
 |.ref id g o=>some (.ref id g (o+off))
 |.pref cs=>if off<=cs.length then some (.pref (cs.drop off))else none
 |_=>none
def asl(g:Bool)(off n:Nat):V->Option V
 |.agg cs=>if((cs.drop off).take n).length=n then shut g ((cs.drop off).take n)else none
 |_=>none
def pg(sz:Nat):V->V->Option V
 |.sl id g off len sz',.s (.int _ n)=>if 0<=n/\n<len/\sz'=sz then some (.ref id g (off+n.toNat*sz))else none
 |.psl es sz',.s (.int _ n)=>if 0<=n/\sz'=sz then(es[n.toNat]?).map .pref else none
 |_,_=>none
def abq:V->V->Option V
 |.s (.string b),.s (.int _ n)=>if 0<=n then(b.data.toList[n.toNat]?).map fun c=>.s (.int .u8 c.toNat)else none
 |_,_=>none
def aic(i:Nat):V->Option V
 |.tup vs=>vs[i]?
 |_=>none
def afx(H:Heap):NK->V->Option V
 |.p,.s (.string b)=>some (i64 b.size)
 |.s,.s (.slice none 0 0)=>some (i64 0)
 |.m,.s (.map none)=>some (i64 0)
 |.s,.esl=>some (i64 0)
 |.s,.psl es _=>some (i64 es.length)
 |.s,.sl _ _ _ len _=>some (i64 len)
 |.m,.mp id=>match H[id]? with
   |some (.map es)=>some (i64 es.length)
   |_=>none
 |_,_=>none
def ahj(H:Heap)(kind:TypeDesc)(zero:V)(ok:Bool)(m k:V):Option V:=(l8 (fun _ _ _ _=>none) 0 [m,k] H (.mapGet kind zero (.t 0) (.t 1) ok)).map (·.1)
def ad9(mx:Bool):V->V->Option V
 |.s (.int k a),.s (.int k' b)=>if k=k' then some (.s (.int k (if mx then(if a<b then b else a)else(if b<a then b else a))))else none
 |_,_=>none
def y5(H:Heap)(g:Bool)(n:Nat)(a:V):Option V:=abf H g n a
def ae0(H:Heap)(o:AOp):Option (List V)->Option V
 |some vs=>(l8 (fun _ _ _ _=>none) 0 vs H o).map (·.1)
 |none=>none
def L1(x:Option V)(xs:Option (List V)):Option (List V):=match x,xs with
 |some v,some vs=>some (v::vs)
 |_,_=>none
theorem bg2(v vs):L1 (some v) (some vs)=some (v::vs):=rfl
section
variable (fr:List V) (H:Heap) (x y:E)
theorem ai2:arx fr H []=some []:=rfl
theorem acl(xs):arx fr H (x::xs)=L1 (evE fr H x) (arx fr H xs):=by
 simp only[arx];cases evE fr H x<;>cases arx fr H xs<;>rfl
theorem ak9(o xs):evE fr H (.op o xs)=ae0 H o (arx fr H xs):=by
 simp only[evE];cases arx fr H xs with
 |none=>rfl
 |some vs=>simp only[ae0];cases l8 (fun _ _ _ _=>none) 0 vs H o<;>rfl
def op1{o}{f:V->Option V}(h:∀v,ae0 H o (some [v])=f v):evE fr H (.op o [x])=V1 f (evE fr H x):=by
 rw[ak9,acl,ai2];cases evE fr H x with
 |none=>rfl
 |some v=>exact h v
def op2{o}{f:V->V->Option V}(h:∀v u,ae0 H o (some [v,u])=f v u):evE fr H (.op o [x,y])=V2 f (evE fr H x) (evE fr H y):=by
 rw[ak9,acl,acl,ai2];cases evE fr H x with
 |none=>rfl
 |some v=>cases evE fr H y with
   |none=>rfl
   |some u=>exact h v u
def be2{o}{f:V->V->Option V}{c}(h:∀v,ae0 H o (some [v,c])=f v c):evE fr H (.op o [x,.c c])=V2 f (evE fr H x) (some c):=by
 rw[ak9,acl,acl,ai2,bgf];cases evE fr H x with
 |none=>rfl
 |some v=>exact h v
def be1{o}{f:V->V->Option V}{c}(h:∀v,ae0 H o (some [c,v])=f c v):evE fr H (.op o [.c c,y])=V2 f (some c) (evE fr H y):=by
 rw[ak9,acl,acl,ai2,bgf];cases evE fr H y with
 |none=>rfl
 |some v=>exact h v
def bgg(op:BinOp):evE fr H (.op (.bin op (.t 0) (.t 1)) [x,y])=V2 (adb op) (evE fr H x) (evE fr H y):=op2 _ _ _ _ fun v u=>by
 cases v<;>first|rfl|(cases u<;>first|rfl|(simp only[ae0,l8,ev,ji,jr,adb];cases ag9 op _ _<;>rfl))
def bbv(op:BinOp)(c):evE fr H (.op (.bin op (.t 0) (.c c)) [x,.c c])=V2 (adb op) (evE fr H x) (some c):=be2 _ _ _ fun v=>by
 cases v<;>first|rfl|(cases c<;>first|rfl|(simp only[ae0,l8,ev,ji,adb];cases ag9 op _ _<;>rfl))
def bbu(op:BinOp)(c):evE fr H (.op (.bin op (.c c) (.t 1)) [.c c,y])=V2 (adb op) (some c) (evE fr H y):=be1 _ _ _ fun v=>by
 cases c<;>first|rfl|(cases v<;>first|rfl|(simp only[ae0,l8,ev,ji,jr,adb];cases ag9 op _ _<;>rfl))
def bge(n):evE fr H (.op (.eqB n (.t 0) (.t 1)) [x,y])=V2 (bie n) (evE fr H x) (evE fr H y):=op2 _ _ _ _ fun v u=>by
 cases v<;>first|rfl|(rename_i q;cases q<;>first|rfl|(cases u<;>first|rfl|(rename_i p;cases p<;>rfl)))
def bbs(n c):evE fr H (.op (.eqB n (.t 0) (.c c)) [x,.c c])=V2 (bie n) (evE fr H x) (some c):=be2 _ _ _ fun v=>by
 cases v<;>first|rfl|(rename_i q;cases q<;>first|rfl|(cases c<;>first|rfl|(rename_i p;cases p<;>rfl)))
def bbr(n c):evE fr H (.op (.eqB n (.c c) (.t 1)) [.c c,y])=V2 (bie n) (some c) (evE fr H y):=be1 _ _ _ fun v=>by
 cases c<;>first|rfl|(rename_i q;cases q<;>first|rfl|(cases v<;>first|rfl|(rename_i p;cases p<;>rfl)))
def a5z(n)(ls:List Leaf):evE fr H (.op (.eqAgg n ls (.t 0) (.t 1)) [x,y])=V2 (aid n ls) (evE fr H x) (evE fr H y):=op2 _ _ _ _ fun v u=>by
 cases v<;>first|rfl|(cases u<;>first|rfl|(simp only[ae0,l8,ev,ji,jr,aid];cases si ls _ _<;>rfl))
def a0x(n)(ls:List Leaf)(c):evE fr H (.op (.eqAgg n ls (.t 0) (.c c)) [x,.c c])=V2 (aid n ls) (evE fr H x) (some c):=be2 _ _ _ fun v=>by
 cases v<;>first|rfl|(cases c<;>first|rfl|(simp only[ae0,l8,ev,ji,aid];cases si ls _ _<;>rfl))
def a0w(n)(ls:List Leaf)(c):evE fr H (.op (.eqAgg n ls (.c c) (.t 1)) [.c c,y])=V2 (aid n ls) (some c) (evE fr H y):=be1 _ _ _ fun v=>by
 cases c<;>first|rfl|(cases v<;>first|rfl|(simp only[ae0,l8,ev,ji,jr,aid];cases si ls _ _<;>rfl))
def ar0(sz):evE fr H (.op (.indexAddr sz (.t 0) (.t 1)) [x,y])=V2 (pg sz) (evE fr H x) (evE fr H y):=op2 _ _ _ _ fun v u=>by
 cases v<;>first|rfl|(cases u<;>first|rfl|(rename_i q;cases q<;>first|rfl|(simp only[ae0,l8,ev,ji,jr,pg];split<;>first|rfl|(split<;>rename_i e<;>simp[e]))))
def ao2(sz c):evE fr H (.op (.indexAddr sz (.t 0) (.c c)) [x,.c c])=V2 (pg sz) (evE fr H x) (some c):=be2 _ _ _ fun v=>by
 cases v<;>first|rfl|(cases c<;>first|rfl|(rename_i q;cases q<;>first|rfl|(simp only[ae0,l8,ev,ji,pg];split<;>first|rfl|(split<;>rename_i e<;>simp[e]))))
def ao1(sz c):evE fr H (.op (.indexAddr sz (.c c) (.t 1)) [.c c,y])=V2 (pg sz) (some c) (evE fr H y):=be1 _ _ _ fun v=>by
 cases c<;>first|rfl|(cases v<;>first|rfl|(rename_i q;cases q<;>first|rfl|(simp only[ae0,l8,ev,ji,jr,pg];split<;>first|rfl|(split<;>rename_i e<;>simp[e]))))
def auj:evE fr H (.op (.indexStr (.t 0) (.t 1)) [x,y])=V2 (abq) (evE fr H x) (evE fr H y):=op2 _ _ _ _ fun v u=>by
 cases v<;>first|rfl|(rename_i q;cases q<;>first|rfl|(cases u<;>first|rfl|(rename_i p;cases p<;>first|rfl|(simp only[ae0,l8,ev,ji,jr,abq];split<;>first|rfl|(split<;>rename_i e<;>simp[e])))))
def arz(c):evE fr H (.op (.indexStr (.t 0) (.c c)) [x,.c c])=V2 (abq) (evE fr H x) (some c):=be2 _ _ _ fun v=>by
 cases v<;>first|rfl|(rename_i q;cases q<;>first|rfl|(cases c<;>first|rfl|(rename_i p;cases p<;>first|rfl|(simp only[ae0,l8,ev,ji,abq];split<;>first|rfl|(split<;>rename_i e<;>simp[e])))))
def ary(c):evE fr H (.op (.indexStr (.c c) (.t 1)) [.c c,y])=V2 (abq) (some c) (evE fr H y):=be1 _ _ _ fun v=>by
 cases c<;>first|rfl|(rename_i q;cases q<;>first|rfl|(cases v<;>first|rfl|(rename_i p;cases p<;>first|rfl|(simp only[ae0,l8,ev,ji,jr,abq];split<;>first|rfl|(split<;>rename_i e<;>simp[e])))))
def a0u(mx):evE fr H (.op (.minmax mx (.t 0) (.t 1)) [x,y])=V2 (ad9 mx) (evE fr H x) (evE fr H y):=op2 _ _ _ _ fun v u=>by
 cases v<;>first|rfl|(rename_i q;cases q<;>first|rfl|(cases u<;>first|rfl|(rename_i p;cases p<;>first|rfl|(simp only[ae0,l8,ev,ji,jr,ad9];split<;>rfl))))
def axl(mx c):evE fr H (.op (.minmax mx (.t 0) (.c c)) [x,.c c])=V2 (ad9 mx) (evE fr H x) (some c):=be2 _ _ _ fun v=>by
 cases v<;>first|rfl|(rename_i q;cases q<;>first|rfl|(cases c<;>first|rfl|(rename_i p;cases p<;>first|rfl|(simp only[ae0,l8,ev,ji,ad9];split<;>rfl))))
def axk(mx c):evE fr H (.op (.minmax mx (.c c) (.t 1)) [.c c,y])=V2 (ad9 mx) (some c) (evE fr H y):=be1 _ _ _ fun v=>by
 cases c<;>first|rfl|(rename_i q;cases q<;>first|rfl|(cases v<;>first|rfl|(rename_i p;cases p<;>first|rfl|(simp only[ae0,l8,ev,ji,jr,ad9];split<;>rfl))))
theorem a0v(kd z ok):evE fr H (.op (.mapGet kd z (.t 0) (.t 1) ok) [x,y])=V2 (ahj H kd z ok) (evE fr H x) (evE fr H y):=op2 _ _ _ _ fun v u=>by
 rfl
theorem axn(kd z ok c):evE fr H (.op (.mapGet kd z (.t 0) (.c c) ok) [x,.c c])=V2 (ahj H kd z ok) (evE fr H x) (some c):=be2 _ _ _ fun v=>by
 rfl
theorem axm(kd z ok c):evE fr H (.op (.mapGet kd z (.c c) (.t 1) ok) [.c c,y])=V2 (ahj H kd z ok) (some c) (evE fr H y):=be1 _ _ _ fun v=>by
 rfl
theorem aui:evE fr H (.op (.nilCheck (.t 0)) [x])=V1 (aek) (evE fr H x):=op1 _ _ _ fun v=>by
 cases v<;>rfl
theorem a5y(k:NK)(n):evE fr H (.op (.eqNil k n (.t 0)) [x])=V1 (acx k n) (evE fr H x):=op1 _ _ _ fun v=>by
 simp only[ae0,l8,ev,ji,acx];cases V.isNil k v<;>rfl
def bj6(op:UnOp):evE fr H (.op (.un op (.t 0)) [x])=V1 (xUn op) (evE fr H x):=op1 _ _ _ fun v=>by
 cases op<;>first|(cases v<;>first|rfl|(rename_i q;cases q<;>first|rfl|(simp only[ae0,l8,ev,ji,xUn];cases ag9 _ _ _<;>rfl)))
def bbt(k):evE fr H (.op (.conv k (.t 0)) [x])=V1 (bdv k) (evE fr H x):=op1 _ _ _ fun v=>by
 cases v<;>first|rfl|(rename_i q;cases q<;>rfl)
def a0y:evE fr H (.op (.convId (.t 0)) [x])=V1 (au3) (evE fr H x):=op1 _ _ _ fun v=>by
 cases v<;>first|rfl|(rename_i q;cases q<;>rfl)
def ar1(off):evE fr H (.op (.fieldAddr off (.t 0)) [x])=V1 (abg off) (evE fr H x):=op1 _ _ _ fun v=>by
 cases v<;>first|rfl|(simp only[ae0,l8,ev,ji,abg];split<;>rfl)
def a5x(g off n):evE fr H (.op (.field g off n (.t 0)) [x])=V1 (asl g off n) (evE fr H x):=op1 _ _ _ fun v=>by
 cases v<;>first|rfl|(simp only[ae0,l8,ev,ji,asl];split<;>first|rfl|(cases shut g _<;>rfl))
def axo(i):evE fr H (.op (.extract (.t 0) i) [x])=V1 (aic i) (evE fr H x):=op1 _ _ _ fun v=>by
 cases v<;>first|rfl|(simp only[ae0,l8,ev,ji,aic];split<;>rename_i e<;>simp[e])
def bbq(k:NK):evE fr H (.op (.lenS k (.t 0)) [x])=V1 (afx H k) (evE fr H x):=op1 _ _ _ fun v=>by
 cases k<;>cases v<;>first|rfl|(rename_i q;cases q<;>first|rfl|(rename_i a;cases a<;>rfl)|(rename_i a b c;cases a<;>first|rfl|(cases b<;>first|rfl|(cases c<;>rfl))))|(rename_i j;simp only[ae0,l8,ev,ji,afx];generalize H[j]?=o;cases o<;>first|rfl|(rename_i ob;cases ob<;>rfl))
theorem bbp(g n):evE fr H (.op (.load g n (.t 0)) [x])=V1 (y5 H g n) (evE fr H x):=op1 _ _ _ fun v=>by
 simp only[ae0,l8,ev,ji,y5];cases abf H g n v<;>rfl
def a6a(z p ps xs):evE fr H (.op (.build z p ps) xs)=ae0 H (.build z p ps) (arx fr H xs):=ak9 _ _ _ _
def bbo(f a b xs):evE fr H (.op (.mkFn f a b) xs)=ae0 H (.mkFn f a b) (arx fr H xs):=ak9 _ _ _ _
def a0t(a lo hi xs):evE fr H (.op (.subStr a lo hi) xs)=ae0 H (.subStr a lo hi) (arx fr H xs):=ak9 _ _ _ _
def a5w(sz a lo hi mx xs):evE fr H (.op (.subSl sz a lo hi mx) xs)=ae0 H (.subSl sz a lo hi mx) (arx fr H xs):=ak9 _ _ _ _
end
def axh{m os kill fr H}(h:m<=fr.length):yc (some (m,[],os)) kill fr H=abb fr H os (ut kill fr):=by
 simp only[yc,dw h,iq,jf]
def bbf{m os kill n}{en:Env}{H}(h:m<=n):yc (some (m,[],os)) kill (ja n en) H=abb (ja n en) H os (ja n (aam kill en)):=by
 rw[axh (by rw[xe];exact h),auc]
def bat{m R os kill n}{en:Env}{H}(h:m<=n):yc (some (m,R,os)) kill (ja n en) H=a7y (ja n en) H os kill (R.all fun r=>ak6 (ja n en) H r.1 r.2):=by
 rw[axg (by rw[xe];exact h)]
noncomputable def stepW(b:List V->Heap->Option St)(k:List Nat)(m:Nat):Option St->Option St
 |some (.nrm,fr',H')=>itW b k m (ut k fr') (trim m (ut k fr') H')
 |some (e,fr',H')=>some (e,ut k fr',trim m (ut k fr') H')
 |none=>none
theorem kg(b:List V->Heap->Option St)(k m fr H):itW b k m fr H=stepW b k m (b fr H):=by
 rw[bjw];cases b fr H with
 |none=>rfl
 |some r=>obtain⟨e,f,h⟩:=r;cases e<;>rfl
section
variable (b:List V->Heap->Option St) (k:List Nat) (m:Nat)
theorem af1(fr H):stepW b k m (some (.nrm,fr,H))=itW b k m (ut k fr) (trim m (ut k fr) H):=rfl
theorem ass(i fr H):stepW b k m (some (.ext i,fr,H))=some (.ext i,ut k fr,trim m (ut k fr) H):=rfl
theorem asr(fr H):stepW b k m (some (.ret,fr,H))=some (.ret,ut k fr,trim m (ut k fr) H):=rfl
theorem azk(p x y):stepW b k m (bif p then x else y)=bif p then stepW b k m x else stepW b k m y:=by cases p<;>rfl
end
theorem a1n(fr H):trim H.length fr H=H:=ach rfl
def a7i(rs:List ARes):Option St->Option (V × Heap)
 |some (.nrm,fr,H)=>(w9 rs fr H).map fun v=>(v,H)
 |some (.ret,fr,H)=>(w9 rs fr H).map fun v=>(v,H)
 |_=>none
theorem a8q(rs:List ARes)(fr H):a7i rs (some (.nrm,fr,H))=(w9 rs fr H).map fun v=>(v,H):=rfl
theorem a8p(rs:List ARes)(fr H):a7i rs (some (.ret,fr,H))=(w9 rs fr H).map fun v=>(v,H):=rfl
theorem a2k(rs:List ARes)(p x y):a7i rs (bif p then x else y)=bif p then a7i rs x else a7i rs y:=by cases p<;>rfl
theorem a8s(t:ARes)(fr H):w9 [t] fr H=ak5 fr H t:=by
 simp only[w9,qf,ay8];cases ak5 fr H t<;>rfl
theorem a8r(t u:ARes)(fr H):w9 [t,u] fr H=match ak5 fr H t,ak5 fr H u with|some x,some y=>some (.tup [x,y])|_,_=>none:=by
 simp only[w9,qf,ay8];cases ak5 fr H t<;>cases ak5 fr H u<;>rfl
theorem a8t(t fr H):ak5 fr H (.tmp t)=some (fr.getD t .unk):=rfl
theorem a2m(t g n fr H):ak5 fr H (.cell t g n)=abf H g n (fr.getD t .unk):=rfl
def qi{CP:Nat->Option CFun}{f}{c:ACFun}(hf:CP f=some (.code c)){fst args cap}(hl:(fst++args++cap).length<=c.ntmps){base H r}(h:a7i c.results (evC (gq CP) itW base c.body (ja c.ntmps (uq c.ntmps (fst++args++cap) 0)) H)=some r):gq CP (.fn f fst cap) args base H=some r:=by
 refine acf ?_;simp only[aag,hf];rw[start_eq hl];cases he:evC (gq CP) itW base c.body (ja c.ntmps (uq c.ntmps (fst++args++cap) 0)) H with
 |none=>rw[he]at h;cases h
 |some s=>
   rw[he]at h;obtain⟨e,f2,H2⟩:=s;cases e<;>exact h
theorem au8(n v vs k):uq n (v::vs) k=(k,v)::uq n vs (k+1):=rfl
def opK(call:o8)(base:Nat)(o:AOper)(os:List AOper)(fr:List V)(H:Heap):Option Bool->Option (List V × Heap)
 |some true=>match l8 call base fr H o.op with
   |some (v,H')=>mg call base os (put o.dst v fr) H'
   |none=>none
 |some false=>mg call base os (put o.dst und fr) H
 |none=>none
def bg7(call:o8)(base:Nat)(d:Option Nat)(os:List AOper)(fr:List V):Option (V × Heap)->Option (List V × Heap)
 |some (v,H')=>mg call base os (put d v fr) H'
 |none=>none
def a1j(b:Bool):V->Option Bool
 |.s (.bool x)=>some (x==b)
 |.s (.tuple _)=>some false
 |_=>none
section
variable {call:o8} {base:Nat}
theorem a5t(fr H):mg call base [] fr H=some (fr,H):=rfl
theorem a0s(d op os fr H):mg call base (⟨d,op,none⟩::os) fr H=bg7 call base d os fr (l8 call base fr H op):=by
 simp only[mg,want];cases l8 call base fr H op<;>rfl
theorem axi(d op t b os fr H):mg call base (⟨d,op,some (t,b)⟩::os) fr H=opK call base ⟨d,op,some (t,b)⟩ os fr H (a1j b (fr.getD t .unk)):=by
 have:want ⟨d,op,some (t,b)⟩ fr=a1j b (fr.getD t .unk):=by
  simp only[want];cases fr.getD t .unk with
  |s v=>cases v<;>rfl
  |_=>rfl
 simp only[mg,this];cases a1j b (fr.getD t .unk)with
 |none=>rfl
 |some p=>cases p<;>rfl
theorem a98(d op g os fr H p):opK call base ⟨d,op,g⟩ os fr H (some p)=bif p then bg7 call base d os fr (l8 call base fr H op)else mg call base os (put d und fr) H:=by
 cases p
 .rfl
 .simp only[opK];cases l8 call base fr H op<;>rfl
theorem aze(b x):a1j b (.s (.bool x))=some (x==b):=rfl
theorem a1i(b):a1j b und=some false:=rfl
theorem a2n(d os fr v H):bg7 call base d os fr (some (v,H))=mg call base os (put d v fr) H:=rfl
def a9d(d v n)(en:Env):put (some d) v (ja n en)=ja n (a9g d v en):=aru n en d v
theorem a9e(v fr):put none v fr=fr:=rfl
theorem a2o(d os fr p x y):bg7 call base d os fr (bif p then x else y)=bif p then bg7 call base d os fr x else bg7 call base d os fr y:=by cases p<;>rfl
theorem a3n(chk ops kill p x y):a0a chk ops kill (bif p then x else y)=bif p then a0a chk ops kill x else a0a chk ops kill y:=by cases p<;>rfl
end
theorem ev_t(fr i):ev fr (.t i)=fr.getD i .unk:=rfl
theorem ev_c(fr v):ev fr (.c v)=v:=rfl
def ben(H:Heap)(x y:V):V->Option (V × Heap)
 |.s (.bool p)=>bif p then some (x,H)else some (y,H)
 |_=>none
theorem a5u(call:o8)(base fr H c a b):l8 call base fr H (.pick c a b)=ben H (ev fr a) (ev fr b) (ev fr c):=by
 simp only[l8];cases ev fr c with
 |s v=>cases v with
   |bool p=>cases p<;>rfl
   |_=>rfl
 |_=>rfl
theorem az3(H x y p):ben H x y (.s (.bool p))=bif p then some (x,H)else some (y,H):=rfl
theorem az2(H x y p):ben H (.s (.bool x)) (.s (.bool y)) (.s (.bool p))=some (.s (.bool (bif p then x else y)),H):=by cases p<;>rfl
def RH(H:Heap):Option V->Option (V × Heap)
 |some v=>some (v,H)
 |none=>none
theorem bg0(H v):RH H (some v)=some (v,H):=rfl
def RS:Option Heap->Option (V × Heap)
 |some H=>some (und,H)
 |none=>none
theorem bgz(H):RS (some H)=some (und,H):=rfl
section
variable (call:o8) (base:Nat) (fr:List V) (H:Heap) (x y:Opd)
def bje(op:BinOp):l8 call base fr H (.bin op x y)=RH H (adb op (ev fr x) (ev fr y)):=by
 simp only[l8];generalize ev fr x=v;generalize ev fr y=u
 cases v<;>first|rfl|(cases u<;>first|rfl|(simp only[adb];cases ag9 op _ _<;>rfl))
def bjc(n):l8 call base fr H (.eqB n x y)=RH H (bie n (ev fr x) (ev fr y)):=by
 simp only[l8];generalize ev fr x=v;generalize ev fr y=u
 cases v<;>first|rfl|(rename_i q;cases q<;>first|rfl|(cases u<;>first|rfl|(rename_i p;cases p<;>rfl)))
theorem bjb(n):l8 call base fr H (.eqP n x y)=RH H (xEqP H n (ev fr x) (ev fr y)):=by
 simp only[l8];generalize ev fr x=v;generalize ev fr y=u
 cases v<;>first|rfl|(cases u<;>first|rfl|skip)
 rename_i i g _ j h _;simp only[xEqP];split
 .rfl
 .cases getC H i g with
  |none=>rfl
  |some c=>cases getC H j h<;>rfl
def a92(n)(ls:List Leaf):l8 call base fr H (.eqAgg n ls x y)=RH H (aid n ls (ev fr x) (ev fr y)):=by
 simp only[l8];generalize ev fr x=v;generalize ev fr y=u
 cases v<;>first|rfl|(cases u<;>first|rfl|(simp only[aid];cases si ls _ _<;>rfl))
def ati(sz):l8 call base fr H (.indexAddr sz x y)=RH H (pg sz (ev fr x) (ev fr y)):=by
 simp only[l8];generalize ev fr x=v;generalize ev fr y=u
 cases v<;>first|rfl|(cases u<;>first|rfl|(rename_i q;cases q<;>first|rfl|(simp only[pg];split<;>first|rfl|(split<;>rename_i e<;>simp[e,RH]))))
def awp:l8 call base fr H (.indexStr x y)=RH H (abq (ev fr x) (ev fr y)):=by
 simp only[l8];generalize ev fr x=v;generalize ev fr y=u
 cases v<;>first|rfl|(rename_i q;cases q<;>first|rfl|(cases u<;>first|rfl|(rename_i p;cases p<;>first|rfl|(simp only[abq];split<;>first|rfl|(split<;>rename_i e<;>simp[e,RH])))))
def a3p(mx):l8 call base fr H (.minmax mx x y)=RH H (ad9 mx (ev fr x) (ev fr y)):=by
 simp only[l8];generalize ev fr x=v;generalize ev fr y=u
 cases v<;>first|rfl|(rename_i q;cases q<;>first|rfl|(cases u<;>first|rfl|(rename_i p;cases p<;>first|rfl|(simp only[ad9];split<;>rfl))))
theorem awo:l8 call base fr H (.nilCheck x)=RH H (aek (ev fr x)):=by
 simp only[l8];generalize ev fr x=v;cases v<;>rfl
theorem a90(k:NK)(n):l8 call base fr H (.eqNil k n x)=RH H (acx k n (ev fr x)):=by
 simp only[l8];generalize ev fr x=v;simp only[acx];cases V.isNil k v<;>rfl
def op_un(op:UnOp):l8 call base fr H (.un op x)=RH H (xUn op (ev fr x)):=by
 simp only[l8];generalize ev fr x=v
 cases op<;>first|(cases v<;>first|rfl|(rename_i q;cases q<;>first|rfl|(simp only[xUn];cases ag9 _ _ _<;>rfl)))
def bew(k):l8 call base fr H (.conv k x)=RH H (bdv k (ev fr x)):=by
 simp only[l8];generalize ev fr x=v
 cases v<;>first|rfl|(rename_i q;cases q<;>rfl)
def a3s:l8 call base fr H (.convId x)=RH H (au3 (ev fr x)):=by
 simp only[l8];generalize ev fr x=v
 cases v<;>first|rfl|(rename_i q;cases q<;>rfl)
def atj(off):l8 call base fr H (.fieldAddr off x)=RH H (abg off (ev fr x)):=by
 simp only[l8];generalize ev fr x=v
 cases v<;>first|rfl|(simp only[abg];split<;>rfl)
def a9z(g off n):l8 call base fr H (.field g off n x)=RH H (asl g off n (ev fr x)):=by
 simp only[l8];generalize ev fr x=v
 cases v<;>first|rfl|(simp only[asl];split<;>first|rfl|(cases shut g _<;>rfl))
def a0b(i):l8 call base fr H (.extract x i)=RH H (aic i (ev fr x)):=by
 simp only[l8];generalize ev fr x=v
 cases v<;>first|rfl|(simp only[aic];split<;>rename_i e<;>simp[e,RH])
def bev(k:NK):l8 call base fr H (.lenS k x)=RH H (afx H k (ev fr x)):=by
 cases k<;>(simp only[l8];generalize ev fr x=v;cases v<;>first|rfl|(rename_i q;cases q<;>first|rfl|(rename_i a;cases a<;>rfl)|(rename_i a b c;cases a<;>first|rfl|(cases b<;>first|rfl|(cases c<;>rfl))))|(rename_i j;simp only[afx];generalize H[j]?=o;cases o<;>first|rfl|(rename_i ob;cases ob<;>rfl)))
theorem beu(g n):l8 call base fr H (.load g n x)=RH H (y5 H g n (ev fr x)):=by
 simp only[l8];generalize ev fr x=v;simp only[y5];cases abf H g n v<;>rfl
theorem a3q(kd z ok):l8 call base fr H (.mapGet kd z x y ok)=RH H (ahj H kd z ok (ev fr x) (ev fr y)):=by
 have h:∀r,l8 call base fr H (.mapGet kd z x y ok)=some r->r.2=H:=fun r h=>by obtain⟨v,H'⟩:=r;exact(ak8 rfl h).1
 have h2:l8 (fun _ _ _ _=>none) 0 [ev fr x,ev fr y] H (.mapGet kd z (.t 0) (.t 1) ok)=l8 call base fr H (.mapGet kd z x y ok):=rfl;simp only[ahj,h2];cases hr:l8 call base fr H (.mapGet kd z x y ok)with
 |none=>rfl
 |some r=>obtain⟨v,H'⟩:=r;have:=h _ hr;simp only at this;subst this;rfl
theorem bes:l8 call base fr H (.move x)=some (ev fr x,H):=rfl
theorem a97(z):l8 call base fr H (.alloc z)=some (.ref H.length 0 0,H++[.cells 0 z]):=rfl
theorem bjd:l8 call base fr H (.box x)=if(ev fr x).cells.all V.one then some (.ref H.length 0 0,H++[.cells 0 (ev fr x).cells])else none:=rfl
theorem anp:l8 call base fr H .mapNew=some (.mp H.length,H++[.map []]):=rfl
theorem a9y(n):l8 call base fr H (.store n x y)=RS (ak3 H base n (ev fr y) (ev fr x)):=by
 simp only[l8];cases ak3 H base n (ev fr y) (ev fr x)<;>rfl
theorem bet(f a b):l8 call base fr H (.mkFn f a b)=some (.fn f (a.map (ev fr)) (b.map (ev fr)),H):=rfl
theorem bey(sz bytes):l8 call base fr H (.appR sz bytes x y)=qp H H.length sz bytes (ev fr x) (ev fr y):=rfl
theorem a3t(sz bytes):l8 call base fr H (.append sz bytes x y)=qp H base sz bytes (ev fr x) (ev fr y):=rfl
theorem bex(args):l8 call base fr H (.call x args)=call (ev fr x) (args.map (ev fr)) base H:=rfl
theorem a95(args):l8 call base fr H (.callR x args)=call (ev fr x) (args.map (ev fr)) H.length H:=rfl
theorem a96(z places parts):l8 call base fr H (.build z places parts)=RH H ((acu (places[·]?) z (parts.map fun p=>(p.1,ev fr p.2))).map .agg):=by
 simp only[l8];cases acu (places[·]?) z (parts.map fun p=>(p.1,ev fr p.2))<;>rfl
def bjm(H:Heap)(sz len:Nat):Option (List V)->Option (V × Heap)
 |some cs=>some (if len=0 then .esl else .sl H.length 0 0 len sz,H++[.cells 0 cs])
 |none=>none
theorem a0e(sz len cs):bjm H sz len (some cs)=some (if len=0 then .esl else .sl H.length 0 0 len sz,H++[.cells 0 cs]):=rfl
theorem a0c(sz len z parts):l8 call base fr H (.buildSl sz len z parts)=bjm H sz len (acu (fun i=>some (i*sz,sz)) z (parts.map fun p=>(p.1,ev fr p.2))):=by
 simp only[l8];cases acu (fun i=>some (i*sz,sz)) z (parts.map fun p=>(p.1,ev fr p.2))<;>rfl
end
section
variable {call:o8} {it:zn} {base:Nat}
def AgD(D:List Nat)(f g:List V):Prop:=f.length=g.length/\∀s,s ∉ D->f.getD s .unk=g.getD s .unk
def readsIn(o:AOper)(D:List Nat):Bool:=o.reads.any D.contains
def less(D:List Nat)(d:Option Nat):List Nat:=match d with
 |some d=>D.filter (· != d)
 |none=>D
def a5b:List Nat->List AOper->Option (List Nat)
 |D,[]=>some D
 |D,o::os=>if readsIn o D then none else a5b (less D o.dst) os
def bcy{D:List Nat}{f g:List V}(h:AgD D f g)(d:Option Nat)(v:V):AgD (less D d) (put d v f) (put d v g):=by
 cases d with
 |none=>exact h
 |some d=>
   refine⟨by simp only[put,fe];exact h.1,fun s hs=>?_⟩
   simp only[put];by_cases e:s=d
   .subst e;by_cases hl:s<f.length
    .rw[afc hl,afc (h.1▸hl)]
    .rw[adt (by omega),adt (by have:=h.1;omega)]
     simp[List.getD,hl,h.1▸hl]
   .rw[aef (fun e'=>e e'.symm),aef (fun e'=>e e'.symm)];refine h.2 s fun hD=>hs ?_;simp only[less,List.mem_filter,ny,ne_eq];exact⟨hD,e⟩
def bbl:∀(ops:List AOper) (D D':List Nat) (f g:List V) (H:Heap),a5b D ops=some D'->AgD D f g->
 (mg call base ops f H=none/\mg call base ops g H=none)\/∃f' g' H',mg call base ops f H=some (f',H')/\mg call base ops g H=some (g',H')/\AgD D' f' g':=by
 intro ops
 induction ops with
 |nil=>intro D D' f g H h ha;cases h;exact .inr ⟨f,g,H,rfl,rfl,ha⟩
 |cons o os ih=>
   intro D D' f g H h ha;simp only[a5b]at h;split at h
   .cases h
   .rename_i hr
    have hrd:∀s∈o.reads,f.getD s .unk=g.getD s .unk:=fun s hs=>ha.2 s fun hD=>hr (by
     unfold readsIn;rw[ac8];exact⟨s,hs,by simpa using hD⟩)
    have hw:=aeo hrd;have hc:l8 call base f H o.op=l8 call base g H o.op:=agz _ fun x hx=>af6 hx hrd;simp only[mg,hw,hc];cases want o g with
    |none=>exact .inl ⟨rfl,rfl⟩
    |some b=>
      cases b with
      |false=>exact ih _ _ _ _ _ h (bcy ha _ _)
      |true=>
        simp only[];cases l8 call base g H o.op with
        |none=>exact .inl ⟨rfl,rfl⟩
        |some r=>obtain⟨v,H'⟩:=r;exact ih _ _ _ _ _ h (bcy ha _ _)
def a4q{D ks f g}(h:AgD D f g)(hk:D.all ks.contains=true):ut ks f=ut ks g:=by
 refine a7o (by rw[zq,zq,h.1]) fun i h1 h2=>?_
 have e:(ut ks f).getD i .unk=(ut ks g).getD i .unk:=by
  rw[ac9,ac9];split
  .rfl
  .rename_i hi;refine h.2 i fun hD=>hi ?_;rw[bq]at hk
   simpa using hk i hD
 simpa[List.getD,h1,h2]using e
def ql(D:List Nat):ACode->Bool
 |.seq a _=>ql D a
 |.region ops [] kill=>match a5b D ops with
   |some D'=>D'.all kill.contains
   |none=>false
 |.cond c a b=>(c.slots.all fun s=>!D.contains s)&&ql D a&&ql D b
 |.block _ c=>ql D c
 |.loop kill _=>D.all kill.contains
 |_=>false
def ab7{D}:∀(c:ACode) {f g:List V} (H:Heap),ql D c=true->AgD D f g->evC call it base c f H=evC call it base c g H:=by
 intro c
 induction c with
 |seq a b iha _=>intro f g H h ha;simp only[evC,iha H h ha]
 |block id c ih=>intro f g H h ha;simp only[evC,ih H h ha]
 |cond o a b iha ihb=>
   intro f g H h ha;simp only[ql,au]at h
   have:ev f o=ev g o:=by
    cases o with
    |c v=>rfl
    |t s=>exact ha.2 s (by simpa[Opd.slots]using h.1.1)
   simp only[evC,this,iha H h.1.2 ha,ihb H h.2 ha]
 |loop kill c _=>intro f g H h ha;simp only[evC,a4q ha h]
 |region ops chk kill=>
   intro f g H h ha;cases chk with
   |cons _ _=>cases h
   |nil=>
     simp only[ql]at h;split at h
     .rename_i D' hD
      rcases bbl (call:=call) (base:=base) ops D D' f g H hD ha with⟨e1,e2⟩|⟨f',g',H',e1,e2,ha'⟩
      .simp only[evC,e1,e2]
      .simp only[evC,e1,e2,a4q ha' h];rfl
     .cases h
 |_=>intro f g H h;cases h
end
def abh:List V->Nat->Env
 | [],_=>[]
 |v::vs,k=>(k,v)::abh vs (k+1)
theorem azl(k):abh [] k=[]:=rfl
theorem au9(v vs k):abh (v::vs) k=(k,v)::abh vs (k+1):=rfl
theorem an1:∀(vs:List V) (k t:Nat),k<=t->t<k+vs.length->amd (abh vs k) t=vs.getD (t-k) .unk:=by
 intro vs
 induction vs with
 |nil=>intro k t h1 h2;simp at h2;omega
 |cons v vs ih=>
   intro k t h1 h2;simp only[abh,amd,bn]at h2 |-;split
   .rename_i h;subst h;simp
   .rw[ih (k+1) t (by omega) (by omega)]
    obtain⟨d,hd⟩:∃d,t-k=d+1:=⟨t-k-1,by omega⟩
    have:t-(k+1)=d:=by omega
    rw[hd,this];rfl
def p8{CP:Nat->Option CFun}{f}{c:ACFun}(hf:CP f=some (.code c)){fst args cap k}(hk:(fst++args++cap).length=k)(hl:k<=c.ntmps)(hfirst:ql (List.range' k (c.ntmps-k)) c.body=true){base H r}(h:a7i c.results (evC (gq CP) itW base c.body (ja c.ntmps (abh (fst++args++cap) 0)) H)=some r):gq CP (.fn f fst cap) args base H=some r:=by
 refine qi hf (by omega) ?_
 rw[ab7 c.body H hfirst (g:=ja c.ntmps (abh (fst++args++cap) 0))]
 .exact h
 .refine⟨by rw[xe,xe],fun s hs=>?_⟩
  by_cases hn:s<c.ntmps
  .rw[afd hn,afd hn]
   have hs':s<k:=by
    apply Nat.lt_of_not_le;intro h;apply hs;rw[List.mem_range']
    exact⟨s-k,by omega,by omega⟩
   rw[akr _ _ 0 s (jo _) hn (by omega),dw (by omega),an1 _ 0 s (jo _) (by omega)]
  .simp[ja,List.getD,hn]
section
variable (call:o8) (it:zn) (base:Nat)
noncomputable def bg6(b:List AOper)(kill:List Nat)(H:Heap):Option (List V)->Option St->Option St
 |some f,_=>evC call it base (.region b [] kill) f H
 |none,o=>o
noncomputable def bly(H:Heap):Option (List V)->Option St->Option St
 |some f,_=>some (.nrm,f,H)
 |none,o=>o
noncomputable def agb(ops:List AOper)(kill:List Nat)(f:List V)(H:Heap):Option St:=evC call it base (.region ops [] kill) f H
theorem asx(b kill H f o):bg6 call it base b kill H (some f) o=evC call it base (.region b [] kill) f H:=rfl
theorem asw(H f o):bly H (some f) o=some (.nrm,f,H):=rfl
noncomputable def aup(k:List Nat)(b:List AOper)(kill:List Nat):Bool:=match a5b k b with
 |some D=>D.all kill.contains
 |none=>false
def an7:∀(a b:List AOper) (f:List V) (H:Heap),mg call base (a++b) f H=match mg call base a f H with
 |some (f',H')=>mg call base b f' H'
 |none=>none:=by
 intro a
 induction a with
 |nil=>intro b f H;rfl
 |cons o os ih=>
   intro b f H;simp only[bg,mg];cases want o f with
   |none=>rfl
   |some p=>
     cases p with
     |false=>exact ih _ _ _
     |true=>
       simp only[];cases l8 call base f H o.op with
       |none=>rfl
       |some r=>exact ih _ _ _
def bgq(k f):AgD k f (ut k f):=⟨(zq k f).symm,fun s hs=>by rw[ac9,fu hs]⟩
def as5{k kill b}(h:aup k b kill=true)(f H):evC call it base (.region b [] kill) f H=evC call it base (.region b [] kill) (ut k f) H:=by
 refine ab7 (D:=k) (.region b [] kill) H ?_ (bgq k f);unfold aup at h;simp only[ql];exact h
def as2(c d){kc kill}(h:aup kc d kill=true)(f H):evC call it base (.region (c++d) [] kill) f H=ahk call it base (.region d [] kill) (evC call it base (.region c [] kc) f H):=by
 have e1:evC call it base (.region (c++d) [] kill) f H=match mg call base c f H with
  |some (f',H')=>evC call it base (.region d [] kill) f' H'
  |none=>none:=by
  simp only[evC,an7];cases mg call base c f H<;>rfl
 rw[e1,evC_ops];cases mg call base c f H with
 |none=>rfl
 |some r=>
   obtain⟨f',H'⟩:=r;simp only[ath,asq];exact as5 call it base h f' H'
def awf(a b){ka oa kill}(h:aup ka b kill=true)(f H):evC call it base (.region (a++b) [] kill) f H=bg6 call it base b kill H (yc (aaw a ka oa) ka f H) (agb call it base (a++b) kill f H):=by
 cases ht:yc (aaw a ka oa) ka f H with
 |none=>rfl
 |some f2=>
   obtain⟨f1,h1,h2⟩:=aeq (call:=call) (base:=base) ht
   have e1:evC call it base (.region (a++b) [] kill) f H=evC call it base (.region b [] kill) f1 H:=by
    simp only[evC,an7,h1];cases mg call base b f1 H<;>rfl
   rw[e1,asx,<- h2,as5 call it base h]
def a8m(a){oa kill}(f H):evC call it base (.region a [] kill) f H=bly H (yc (aaw a kill oa) kill f H) (agb call it base a kill f H):=by
 cases ht:yc (aaw a kill oa) kill f H with
 |none=>rfl
 |some f2=>
   obtain⟨f1,h1,h2⟩:=aeq (call:=call) (base:=base) ht;simp only[asw,evC,h1,h2,iq,jf]
def akg(ops kill f H):evC call it base (.region ops [] kill) f H=a0a [] ops kill (mg call base ops f H):=evC_ops ops kill f H
theorem air(ops chk kill f H):evC call it base (.region ops chk kill) f H=a09 kill (fun f'=>chk.all (zm call base ops f H f')) (mg call base ops f H):=by
 simp only[evC];cases mg call base ops f H with
 |none=>rfl
 |some p=>
   simp only[a09];cases chk.all (zm call base ops f H p.1)<;>rfl
end
def Rd(H:Heap)(v:V)(l:List V):Prop:=(∀b,v≠.s (.string b))/\elems H 1 v=some (l.length,l)
def Rd.nil(H):Rd H ow []:=⟨fun _ h=>(by cases h),rfl⟩
def Rd.esl(H):Rd H .esl []:=⟨fun _ h=>(by cases h),rfl⟩
def Rd.sl{H id g c}(h:getC H id g=some c){off n}(hn:off+n<=c.length):Rd H (.sl id g off n 1) ((c.drop off).take n):=by
 refine⟨fun _ h=>by(cases h),?_⟩
 have:((c.drop off).take n).length=n:=by simp;omega
 simp only[elems,jf,h,ab1,this]
def Rd.cases{H v l}(h:Rd H v l):(l=[]/\(v=ow\/v=.esl))\/(∃es,v=.psl es 1/\es.flatten=l/\es.length=l.length)\/∃id g off n c,v=.sl id g off n 1/\getC H id g=some c/\(c.drop off).take n=l/\n=l.length:=by
 obtain⟨h1,h2⟩:=h;unfold elems at h2;split at h2
 .simp only[je,amh]at h2;exact .inl ⟨h2.2.symm,.inl rfl⟩
 .simp only[je,amh]at h2;exact .inl ⟨h2.2.symm,.inr rfl⟩
 .rename_i es sz;split at h2
  .rename_i hz;subst hz;simp only[je,amh]at h2;exact .inr (.inl ⟨es,rfl,h2.2,h2.1⟩)
  .cases h2
 .rename_i id g off len sz;split at h2
  .rename_i hz;subst hz;split at h2
   .rename_i c hc;simp only[ab1]at h2;split at h2
    .simp only[je,amh]at h2;exact .inr (.inr ⟨id,g,off,len,c,rfl,hc,h2.2,h2.1⟩)
    .cases h2
   .cases h2
  .cases h2
 .cases h2
theorem Rd.len{H v l}(h:Rd H v l):afx H .s v=some (.s (.int .i64 l.length)):=by
 rcases h.cases with⟨rfl,rfl|rfl⟩|⟨es,rfl,_,e⟩|⟨id,g,off,n,c,rfl,_,_,e⟩
 .rfl
 .rfl
 .simp only[afx,e];rfl
 .simp only[afx,e];rfl
def bgw:V->Prop
 |.psl es _=>∀e∈es,e.length=1
 |_=>True
def axe{es:List (List V)}(h:∀e∈es,e.length=1):∀{i:Nat} {x:V},es.flatten[i]?=some x->es[i]?=some [x]:=by
 induction es with
 |nil=>intro i x hx;simp at hx
 |cons e es ih=>
   intro i x hx;have he:=h e jh
   match e,he with
   | [y],_=>
     cases i with
     |zero=>simp at hx |-;exact hx
     |succ i=>simp at hx |-;exact ih (fun e he=>h e (il _ he)) hx
theorem Rd.at{H:Heap}{v:V}{l:List V}(h:Rd H v l)(hw:bgw v){i:Nat}{x:V}(hx:l[i]?=some x):V1 (y5 H false 1) (pg 1 v (.s (.int .i64 i)))=some x:=by
 have hi:i<l.length:=(bmk.1 hx).1
 have h0:(0:Int)<=(i:Int):=by omega
 rcases h.cases with⟨rfl,_⟩|⟨es,rfl,e1,e2⟩|⟨id,g,off,n,c,rfl,hc,e1,e2⟩
 .simp at hx
 .have:es[i]?=some [x]:=axe hw (by rw[e1];exact hx)
  simp only[pg,h0,aie,jf,og,this,mh,V1,y5,abf];rfl
 .have hn:((i:Int)<(n:Int)):=by omega
  have hcx:c[off+i]?=some x:=by
   have:((c.drop off).take n)[i]?=some x:=by rw[e1];exact hx
   rw[gu (by omega),jc]at this
   exact this
  have:((c.drop (off+i)).take 1)=[x]:=by
   have hlt:=(bmk.1 hcx).1;rw[ed hlt];have:=(bmk.1 hcx).2;simp[this]
  simp only[pg,h0,hn,l9,jf,og,ab1,V1,y5,abf,hc,this];rfl
def ame{H G id g c}(h:getC H id g=some c):getC (H++G) id g=some c:=by
 unfold getC at h |-;split at h
 .rename_i g' c' hh;rw[ah (bmk.1 hh).1,hh];exact h
 .cases h
def Rd.app{H v l}(h:Rd H v l)(G):Rd (H++G) v l:=by
 rcases h.cases with⟨rfl,rfl|rfl⟩|⟨es,rfl,e1,e2⟩|⟨id,g,off,n,c,rfl,hc,e1,e2⟩
 .exact Rd.nil _
 .exact Rd.esl _
 .exact⟨h.1,h.2⟩
 .refine⟨h.1,?_⟩
  have:((c.drop off).take n).length=n:=by rw[e1,e2]
  simp only[elems,jf,ame hc,ab1,e1];rw[e2,dw rfl]
def ays{H id g c c'}(h:getC H id g=some c)(g'):getC (H.set id (.cells g' c')) id g'=some c':=by
 have:id<H.length:=by
  unfold getC at h;split at h
  .rename_i hh;exact(bmk.1 hh).1
  .cases h
 simp[getC,this]
def xc{H id j g}(ob)(h:id≠j):getC (H.set j ob) id g=getC H id g:=by
 unfold getC;rw[ae (sj h)]
def ai0{H id g c}(h:getC H id g=some c):H.set id (.cells g c)=H:=by
 unfold getC at h;split at h
 .rename_i g' c' hh;split at h
  .rename_i e;cases h;subst e;obtain⟨h1,h2⟩:=bmk.1 hh;rw[<- h2];exact List.set_getElem_self h1
  .cases h
 .cases h
def a8g(H:Heap)(id:Nat)(a b:Ob):(H.set id a).set id b=H.set id b:=List.set_set ..
def bid(k a b):adb .add (.s (.int k a)) (.s (.int k b))=some (.s (.int k (k.wrap (a+b)))):=by simp[adb,ag9]
def bhz(k a b):adb .sub (.s (.int k a)) (.s (.int k b))=some (.s (.int k (k.wrap (a-b)))):=by simp[adb,ag9]
def bh6(k a b):adb .mul (.s (.int k a)) (.s (.int k b))=some (.s (.int k (k.wrap (a*b)))):=by simp[adb,ag9]
def bib(k a b):adb .eql (.s (.int k a)) (.s (.int k b))=some (.s (.bool (a==b))):=by simp[adb,ag9]
def bh5(k a b):adb .neq (.s (.int k a)) (.s (.int k b))=some (.s (.bool (a != b))):=by simp[adb,ag9]
def bh7(k a b):adb .lss (.s (.int k a)) (.s (.int k b))=some (.s (.bool (decide (a<b)))):=by simp[adb,ag9]
def bh8(k a b):adb .leq (.s (.int k a)) (.s (.int k b))=some (.s (.bool (decide (a<=b)))):=by simp[adb,ag9]
def bh9(k a b):adb .gtr (.s (.int k a)) (.s (.int k b))=some (.s (.bool (decide (a > b)))):=by simp[adb,ag9]
def bia(k a b):adb .geq (.s (.int k a)) (.s (.int k b))=some (.s (.bool (decide (a ≥ b)))):=by simp[adb,ag9]
def bic(k a b):adb .and (.s (.int k a)) (.s (.int k b))=some (.s (.int k (k.wrap (BitVec.ofInt k.bits a &&& BitVec.ofInt k.bits b).toNat))):=by simp[adb,ag9]
def xb_or(k a b):adb .or (.s (.int k a)) (.s (.int k b))=some (.s (.int k (k.wrap (BitVec.ofInt k.bits a ||| BitVec.ofInt k.bits b).toNat))):=by simp[adb,ag9]
def bhy(k a b):adb .xor (.s (.int k a)) (.s (.int k b))=some (.s (.int k (k.wrap (BitVec.ofInt k.bits a ^^^ BitVec.ofInt k.bits b).toNat))):=by simp[adb,ag9]
def a1f(k a b):adb .andNot (.s (.int k a)) (.s (.int k b))=some (.s (.int k (k.wrap (BitVec.ofInt k.bits a &&& ~~~ (BitVec.ofInt k.bits b)).toNat))):=by simp[adb,ag9]
def bh4(k a b):adb .quo (.s (.int k a)) (.s (.int k b))=if b=0 then none else some (.s (.int k (k.wrap (a.tdiv b)))):=by by_cases h:b=0<;>simp[adb,ag9,h]
def bh3(k a b):adb .rem (.s (.int k a)) (.s (.int k b))=if b=0 then none else some (.s (.int k (a.tmod b))):=by by_cases h:b=0<;>simp[adb,ag9,h]
def bh2(k j a b):adb .shl (.s (.int k a)) (.s (.int j b))=if b<0 then none else some (.s (.int k (k.wrap (a*2^(min b.toNat k.bits))))):=by by_cases h:b<0<;>simp[adb,ag9,h]
def bh0(k j a b):adb .shr (.s (.int k a)) (.s (.int j b))=if b<0 then none else some (.s (.int k (a.fdiv (2^(min b.toNat k.bits))))):=by by_cases h:b<0<;>simp[adb,ag9,h]
theorem bhl(a b):adb .eql (.s (.string a)) (.s (.string b))=some (.s (.bool (a.data.toList==b.data.toList))):=rfl
theorem bhj(a b):adb .neq (.s (.string a)) (.s (.string b))=some (.s (.bool (!(a.data.toList==b.data.toList)))):=rfl
theorem bhk(a b):adb .lss (.s (.string a)) (.s (.string b))=some (.s (.bool (Op.bytesLess a.data.toList b.data.toList))):=rfl
def bhm(a b):adb .add (.s (.string a)) (.s (.string b))=if((a.size+b.size:Nat):Int) > IntKind.i64.max then none else some (.s (.string (a++b))):=by by_cases h:((a.size+b.size:Nat):Int) > IntKind.i64.max<;>simp only[adb,ag9,h,jf,ky,mh,ab0]
theorem xq_b(n a b):bie n (.s (.bool a)) (.s (.bool b))=some (.s (.bool ((a==b) != n))):=rfl
theorem xn_pn(n):acx .p n (.s (.pointer none))=some (.s (.bool (true != n))):=rfl
theorem xn_pr(n i g o):acx .p n (.ref i g o)=some (.s (.bool (false != n))):=rfl
theorem xn_pp(n cs):acx .p n (.pref cs)=some (.s (.bool (false != n))):=rfl
theorem xn_sn(n):acx .s n (.s (.slice none 0 0))=some (.s (.bool (true != n))):=rfl
theorem xn_ss(n i g o l z):acx .s n (.sl i g o l z)=some (.s (.bool (false != n))):=rfl
theorem xn_sp(n es z):acx .s n (.psl es z)=some (.s (.bool (false != n))):=rfl
theorem xn_se(n):acx .s n (.esl)=some (.s (.bool (false != n))):=rfl
theorem xn_mn(n):acx .m n (.s (.map none))=some (.s (.bool (true != n))):=rfl
theorem xn_mm(n i):acx .m n (.mp i)=some (.s (.bool (false != n))):=rfl
theorem xn_fn(n):acx .f n (.s .nilFunc)=some (.s (.bool (true != n))):=rfl
theorem xn_ff(n i a b):acx .f n (.fn i a b)=some (.s (.bool (false != n))):=rfl
theorem xn_fy(n i):acx .f n (.yld i)=some (.s (.bool (false != n))):=rfl
theorem xg(n)(ls:List Leaf)(xs ys):aid n ls (.agg xs) (.agg ys)=(si ls xs ys).map fun b=>.s (.bool (b != n)):=rfl
theorem bhh(b):xUn .not (.s (.bool b))=some (.s (.bool (!b))):=rfl
theorem bhi(k a):xUn .neg (.s (.int k a))=some (.s (.int k (k.wrap (0-a)))):=rfl
theorem bhx(k j a):bdv k (.s (.int j a))=some (.s (.int k (k.wrap a))):=rfl
theorem xc_id(b):au3 (.s (.string b))=some (.s (.string b)):=rfl
theorem bhs(i g o):aek (.ref i g o)=some (.ref i g o):=rfl
theorem bdt(cs):aek (.pref cs)=some (.pref cs):=rfl
theorem xk_fn(f a b):aek (.fn f a b)=some (.fn f a b):=rfl
theorem bhr(i):aek (.yld i)=some (.yld i):=rfl
theorem bcv(off i g o):abg off (.ref i g o)=some (.ref i g (o+off)):=rfl
theorem bdu(off cs):abg off (.pref cs)=if off<=cs.length then some (.pref (cs.drop off))else none:=rfl
theorem bhv(g off n cs):asl g off n (.agg cs)=if((cs.drop off).take n).length=n then shut g ((cs.drop off).take n)else none:=rfl
theorem alh(sz i g o l z k n):pg sz (.sl i g o l z) (.s (.int k n))=if 0<=n/\n<l/\z=sz then some (.ref i g (o+n.toNat*sz))else none:=rfl
theorem bhu(sz z es k n):pg sz (.psl es z) (.s (.int k n))=if 0<=n/\z=sz then(es[n.toNat]?).map .pref else none:=rfl
theorem bht(b k n):abq (.s (.string b)) (.s (.int k n))=if 0<=n then(b.data.toList[n.toNat]?).map fun c=>.s (.int .u8 c.toNat)else none:=rfl
theorem bhw(i vs):aic i (.tup vs)=vs[i]?:=rfl
theorem bhn(H b):afx H .p (.s (.string b))=some (.s (.int .i64 b.size)):=rfl
theorem bhp(H):afx H .s (.s (.slice none 0 0))=some (.s (.int .i64 0)):=rfl
theorem bhq(H):afx H .s .esl=some (.s (.int .i64 0)):=rfl
theorem bho(H es z):afx H .s (.psl es z)=some (.s (.int .i64 es.length)):=rfl
theorem xl_sl(H i g o l z):afx H .s (.sl i g o l z)=some (.s (.int .i64 l)):=rfl
theorem bds(H):afx H .m (.s (.map none))=some (.s (.int .i64 0)):=rfl
theorem aav(H g n i j o):y5 H g n (.ref i j o)=match getC H i j with|some c=>(if((c.drop o).take n).length=n then shut g ((c.drop o).take n)else none)|none=>none:=rfl
theorem bdr(H g n cs):y5 H g n (.pref cs)=if(cs.take n).length=n then shut g (cs.take n)else none:=rfl
def xm(mx k a b):ad9 mx (.s (.int k a)) (.s (.int k b))=some (.s (.int k (if mx then(if a<b then b else a)else(if b<a then b else a)))):=by simp[ad9]
theorem ax3(cs):shut true cs=some (.agg cs):=rfl
theorem ax2(x):shut false [x]=some x:=rfl
def Rd.at'{H v l}(h:Rd H v l)(hw:bgw v){i:Nat}{x}(hx:l[i]?=some x):∃a,pg 1 v (.s (.int .i64 i))=some a/\y5 H false 1 a=some x:=by
 have:=h.at hw hx;cases ha:pg 1 v (.s (.int .i64 i))with
 |none=>rw[ha]at this;cases this
 |some a=>rw[ha]at this;exact⟨a,rfl,this⟩
def akx(d:Nat):Option V->Option Int
 |none=>some d
 |some v=>anz v
theorem a6x(d):akx d none=some (d:Int):=rfl
theorem bcf(d k n):akx d (some (.s (.int k n)))=some n:=rfl
def a01(sz id g off len z:Nat):Option Int->Option Int->Option V
 |some l,some h=>if 0<=l/\l<=h/\h<=len/\z=sz then some (.sl id g (off+l.toNat*sz) (h-l).toNat sz)else none
 |_,_=>none
def ayz(sz:Nat)(es:List (List V))(z:Nat):Option Int->Option Int->Option V
 |some l,some h=>if 0<=l/\l<=h/\h<=es.length/\z=sz then some (.psl ((es.drop l.toNat).take (h-l).toNat) sz)else none
 |_,_=>none
def ai8(v:V):Option Int->Option Int->Option V
 |some l,some h=>if l=0/\h=0 then some v else none
 |_,_=>none
def afw(sz:Nat)(v:V)(lo hi:Option V):Option V:=
 match v with
 |.s (.slice none 0 0)=>ai8 ow (akx 0 lo) (akx 0 hi)
 |.esl=>ai8 .esl (akx 0 lo) (akx 0 hi)
 |.psl es z=>ayz sz es z (akx 0 lo) (akx es.length hi)
 |.sl id g off len z=>a01 sz id g off len z (akx 0 lo) (akx len hi)
 |_=>none
theorem aza(sz lo hi):afw sz ow lo hi=ai8 ow (akx 0 lo) (akx 0 hi):=rfl
theorem azb(sz lo hi):afw sz .esl lo hi=ai8 .esl (akx 0 lo) (akx 0 hi):=rfl
theorem ay9(sz es z lo hi):afw sz (.psl es z) lo hi=ayz sz es z (akx 0 lo) (akx es.length hi):=rfl
theorem a1e(sz id g off len z lo hi):afw sz (.sl id g off len z) lo hi=a01 sz id g off len z (akx 0 lo) (akx len hi):=rfl
theorem akv(sz id g off len z l h):a01 sz id g off len z (some l) (some h)=if 0<=l/\l<=h/\h<=len/\z=sz then some (.sl id g (off+l.toNat*sz) (h-l).toNat sz)else none:=rfl
theorem axq(sz es z l h):ayz sz es z (some l) (some h)=if 0<=l/\l<=h/\h<=es.length/\z=sz then some (.psl ((es.drop l.toNat).take (h-l).toNat) sz)else none:=rfl
theorem axr(v l h):ai8 v (some l) (some h)=if l=0/\h=0 then some v else none:=rfl
theorem bkb(fr d o):afh fr d o=akx d (o.map (ev fr)):=by cases o<;>rfl
def ayg(call:o8)(base fr H sz x lo hi):l8 call base fr H (.subSl sz x lo hi none)=RH H (afw sz (ev fr x) (lo.map (ev fr)) (hi.map (ev fr))):=by
 simp only[l8,bkb];generalize ev fr x=v;generalize lo.map (ev fr)=lo;generalize hi.map (ev fr)=hi
 cases v<;>first|rfl|skip
 case s v=>
  cases v<;>first|rfl|skip
  rename_i a n m
  cases a<;>first|rfl|skip
  cases n<;>first|rfl|skip
  cases m<;>first|rfl|skip
  simp only[afw];cases akx 0 lo with
  |none=>rfl
  |some l=>cases akx 0 hi with
    |none=>simp only[ai8,RH]
    |some h=>
      simp only[ai8];by_cases hl:l=0
      .subst hl;by_cases hh:h=0
       .subst hh;rfl
       .simp only[hh,and_false,ky]
        split<;>first|rfl|(rename_i e1 e2;cases e2;exact absurd rfl hh)
      .simp only[hl,false_and,ky]
       split<;>first|rfl|(rename_i e1 e2;cases e1;exact absurd rfl hl)
 case esl=>
  simp only[afw];cases akx 0 lo with
  |none=>rfl
  |some l=>cases akx 0 hi with
    |none=>simp only[ai8,RH]
    |some h=>
      simp only[ai8];by_cases hl:l=0
      .subst hl;by_cases hh:h=0
       .subst hh;rfl
       .simp only[hh,and_false,ky]
        split<;>first|rfl|(rename_i e1 e2;cases e2;exact absurd rfl hh)
      .simp only[hl,false_and,ky]
       split<;>first|rfl|(rename_i e1 e2;cases e1;exact absurd rfl hl)
 case psl es z=>
  simp only[afw]
  cases akx 0 lo<;>cases akx es.length hi<;>first|rfl|(simp only[ayz];split<;>rfl)
 case sl id g off len z=>
  simp only[afw]
  cases akx 0 lo<;>cases akx len hi<;>first|rfl|(simp only[a01];split<;>rfl)
theorem bdq(H sz x lo hi vs):ae0 H (.subSl sz x lo hi none) (some vs)=afw sz (ev vs x) (lo.map (ev vs)) (hi.map (ev vs)):=by
 simp only[ae0,ayg];cases afw sz (ev vs x) (lo.map (ev vs)) (hi.map (ev vs))<;>rfl
def bcw(H:Heap)(base sz:Nat)(zero:List V)(v:V):Option Heap:=
 match v with
 |.s (.slice none 0 0)=>some H
 |.esl=>some H
 |.sl id g off len z=>if len=0 then some H else if base<=id/\z=sz then match getC H id g with
    |some c=>if zero.length=sz/\off+len*sz<=c.length/\zero.all V.one then some (H.set id (.cells g (splice c off (List.replicate len zero).flatten)))else none
    |none=>none
   else none
 |_=>none
theorem a94(call:o8)(base fr H sz zero x):l8 call base fr H (.clearSl sz zero x)=RS (bcw H base sz zero (ev fr x)):=by
 simp only[l8];generalize ev fr x=v
 cases v<;>first|rfl|skip
 case s v=>
  cases v<;>first|rfl|skip
  rename_i a n m
  cases a<;>first|rfl|skip
  cases n<;>first|rfl|skip
  cases m<;>rfl
 case sl id g off len z=>
  simp only[bcw];split
  .rfl
  .split
   .cases getC H id g with
    |none=>rfl
    |some c=>simp only[];split<;>rfl
   .rfl
theorem ah5:((0:Nat):Int)=0:=rfl
theorem bim:Int.toNat 0=0:=rfl
def Ext(H0 H:Heap):Prop:=∃G,H=H0++G
def Ext.refl(H):Ext H H:=⟨[],by simp⟩
def Ext.trans{A B C}(h:Ext A B)(k:Ext B C):Ext A C:=by
 obtain⟨G,rfl⟩:=h;obtain⟨K,rfl⟩:=k
 exact⟨G++K,by simp⟩
def Ext.app(H G):Ext H (H++G):=⟨G,rfl⟩
def Ext.le{A B}(h:Ext A B):A.length<=B.length:=by obtain⟨G,rfl⟩:=h;simp
def Ext.get{A B}(h:Ext A B){i}(hi:i<A.length):B[i]?=A[i]?:=by obtain⟨G,rfl⟩:=h;exact ah hi
def Ext.of_get{A B}(hl:A.length<=B.length)(h:∀i,i<A.length->B[i]?=A[i]?):Ext A B:=by
 refine⟨B.drop A.length,?_⟩;refine wh fun i=>?_;by_cases hi:i<A.length
 .rw[ah hi,h i hi]
 .rw[bz (by omega),jc]
  congr 1;omega
def Ext.take{A B}(h:Ext A B){m}(hm:A.length<=m):Ext A (B.take m):=
 Ext.of_get (by rw[l5];have:=h.le;omega) fun i hi=>by rw[gu (by omega),h.get hi]
theorem trim_or(m fr H):trim m fr H=H\/(trim m fr H=H.take m/\∀v∈fr,qh m 8 v=true):=by
 unfold trim;split
 .rename_i h;simp only[au,bq]at h;exact .inr ⟨rfl,h.1⟩
 .exact .inl rfl
def Ext.trim{A B}(h:Ext A B){m}(hm:A.length<=m)(fr):Ext A (trim m fr B):=by
 rcases trim_or m fr B with e|⟨e,_⟩<;>rw[e]
 .exact h
 .exact h.take hm
def Rd.ext{H H' v l}(h:Rd H v l)(k:Ext H H'):Rd H' v l:=by obtain⟨G,rfl⟩:=k;exact h.app G
def jd{H H' id g c}(h:getC H id g=some c)(k:Ext H H'):getC H' id g=some c:=by obtain⟨G,rfl⟩:=k;exact ame h
def su{H id g c}(h:getC H id g=some c):id<H.length:=by
 unfold getC at h;split at h
 .rename_i hh;exact(bmk.1 hh).1
 .cases h
def jl(H g c):getC (H++[.cells g c]) H.length g=some c:=by simp[getC]
def aa8{n}{en:Env}{s v}(hs:s<n)(h:amd en s=v):v∈ja n en:=by
 unfold ja;rw[aa4]
 exact⟨s,by simpa using hs,h⟩
def obC(g:Nat):Ob->Option (List V)
 |.cells g' c=>if g'=g then some c else none
 |_=>none
def a5h(A ob id g):getC (A++[ob]) id g=if id=A.length then obC g ob else getC A id g:=by
 by_cases h:id=A.length
 .subst h;simp only[getC,List.getElem?_concat_length,jf];cases ob<;>rfl
 .rw[fu h];by_cases hl:id<A.length
  .simp only[getC,ah hl]
  .have h1:(A++[ob])[id]?=none:=jw (by simp;omega)
   have h2:A[id]?=none:=jw (by omega)
   simp only[getC,h1,h2]
def bab(g c):obC g (.cells g c)=some c:=by simp[obC]
def uw(A:Heap)(ob x:Ob):(A++[ob]).set A.length x=A++[x]:=by simp
def kw(A:Heap)(ob:Ob):(A++[ob]).length=A.length+1:=by simp
def bjl(a b):(a=a+(b+1))=False:=by simp
def bkd(a b):(a+(b+1)=a)=False:=by simp
theorem Rd.one{H v l}(h:Rd H v l):v.one=true:=by
 rcases h.cases with⟨_,rfl|rfl⟩|⟨es,rfl,_⟩|⟨id,g,off,n,c,rfl,_⟩<;>rfl
theorem be6(k n):V.one (.s (.int k n))=true:=rfl
theorem be3(b):V.one (.s (.string b))=true:=rfl
theorem baa(b):V.one (.s (.bool b))=true:=rfl
theorem a99:V.one (.s (.slice none 0 0))=true:=rfl
theorem be4(i g o):V.one (.ref i g o)=true:=rfl
theorem bjf(i g o l z):V.one (.sl i g o l z)=true:=rfl
theorem be5(es z):V.one (.psl es z)=true:=rfl
theorem be7:V.one .esl=true:=rfl
theorem bjh(i):V.one (.mp i)=true:=rfl
theorem bji(f a b):V.one (.fn f a b)=true:=rfl
theorem a6t(cs):V.cells (.agg cs)=cs:=rfl
theorem bgm(v):V.cells (.s v)=[.s v]:=rfl
theorem bcc(i g o l z):V.cells (.sl i g o l z)=[.sl i g o l z]:=rfl
theorem a6r(es z):V.cells (.psl es z)=[.psl es z]:=rfl
theorem a6q(i g o):V.cells (.ref i g o)=[.ref i g o]:=rfl
theorem a6s:V.cells .esl=[.esl]:=rfl
theorem bcd(i):V.cells (.mp i)=[.mp i]:=rfl
def yz{v:V}(h:v.one=true):v.cells=[v]:=by cases v<;>first|rfl|(simp[V.one]at h;done)
theorem a5r(p:Nat->Option (Nat × Nat))(c):acu p c []=some c:=rfl
def a15(A:Heap)(ob x:Ob)(id:Nat):(A++[ob]).set id x=if id=A.length then A++[x]else A.set id x++[ob]:=by
 by_cases h:id=A.length
 .subst h;simp
 .rw[fu h];by_cases hl:id<A.length
  .rw[aau _ _ hl]
  .rw[adt (by simp;omega),adt (by omega)]
theorem azj(H base n v id g off):ak3 H base n v (.ref id g off)=if base<=id then(match getC H id g with
 |some c=>if v.cells.length=n/\off+n<=c.length/\v.cells.all V.one then some (H.set id (.cells g (splice c off v.cells)))else none
 |none=>none)else none:=rfl
section
variable {CC:CX} {μ:Mu} {Mt:Nat->Prop} {w w':World} {H:Heap} {P:Program}
def awi:∀(os:List Obj) (w w':World),HR CC μ Mt w H->w'.heap=w.heap++os.toArray->w'.os=w.os->w'.tape=w.tape->w'.output=w.output->Post CC μ Mt w H μ Mt w' H:=by
 intro os
 induction os with
 |nil=>intro w w' h h1 h2 h3 h4;exact ait h (by simpa using h1) h2 h3 h4
 |cons o os ih=>
   intro w w' h h1 h2 h3 h4;have k:Post CC μ Mt w H μ Mt { w with heap:=w.heap.push o } H:=apb h o rfl rfl rfl rfl;refine k.trans (ih _ w' k.hr ?_ h2 h3 h4);rw[h1];apply xz;simp
end
abbrev PXf(fx:Nat->Option (Array Value × TypeId × Nat × Nat)):PX:=⟨fun _=>false,fx⟩
abbrev PX0:PX:=PXf fun _=>none
theorem bcb(lt P)(fx:Nat->Option (Array Value × TypeId × Nat × Nat))(k):alb lt P (PXf fx) k=alb lt P PX0 k:=rfl
def mr{P}(fx:Nat->Option (Array Value × TypeId × Nat × Nat)){lt k}{c:ACFun}(h:alb lt P PX0 k=some (false,c.ntmps,c.results,c.body.bare)):adu P (PXf fx) k (.code c):=bbd ((bcb lt P fx k).trans h)
section
variable {CC:CX} {μ:Mu} {Mt:Nat->Prop} {w w':World} {H:Heap} {P:Program}
def insI(x:Int):List Int->List Int
 | []=>[x]
 |y::l=>if x<=y then x::y::l else y::insI x l
def bir:List Int->List Int
 | []=>[]
 |x::l=>insI x (bir l)
def cR:Value->Option (DataW Unit × List MemPlace):=fun _=>some (.nil,[])
end
def wbits(k:Int)(w:Nat):List Int:=((List.range 64).filter fun b=>w.testBit b).map fun(b:Nat)=>k*64+(b:Int)
def bj7(ks:List Int)(f:Int->Nat):List Int:=(bir ks).flatMap fun k=>wbits k (f k)
theorem asj(H f a b vs):ae0 H (.mkFn f a b) (some vs)=some (.fn f (a.map (ev vs)) (b.map (ev vs))):=rfl
def aqc{m fr H}(h:m<=H.length):m<=(trim m fr H).length:=by
 rcases trim_or m fr H with e|⟨e,_⟩<;>rw[e]
 .exact h
 .rw[l5];omega
theorem ae2(m fr H):trim m fr H=H\/(trim m fr H=H.take m/\(∀v∈fr,qh m 8 v=true)/\∀id g c,id<m->getC H id g=some c->∀i h o n z,V.sl i h o n z∈c->i<m):=by
 unfold trim;split
 .rename_i h;simp only[au,bq]at h;refine .inr ⟨rfl,h.1,?_⟩;intro id g c hid hc i h' o n z hx;unfold getC at hc;split at hc
  .rename_i g' c' hh;split at hc
   .cases hc
    have hm:Ob.cells g' c∈H.take m:=by
     have:(H.take m)[id]?=some (Ob.cells g' c):=by rw[gu hid];exact hh
     exact ik this
    have:=h.2 _ hm;simp only[Ob.under,bq]at this;have:=this _ hx
    simpa[qh]using this
   .cases hc
  .cases hc
 .exact .inl rfl
def aii{m fr H id g c}(hc:getC H id g=some c)(hid:id<m):getC (trim m fr H) id g=some c:=by
 rcases ae2 m fr H with e|⟨e,_⟩<;>rw[e]
 .exact hc
 .unfold getC at hc |-;rw[gu hid];exact hc
def asb(m:Nat)(H:Heap)(v:V)(l:List V):Prop:=(l=[]/\(v=ow\/v=.esl))\/∃id g c,v=.sl id g 0 l.length 1/\getC H id g=some c/\l.length<=c.length/\c.take l.length=l/\m<=id
def asb.rd{m H v l}(h:asb m H v l):Rd H v l:=by
 rcases h with⟨rfl,rfl|rfl⟩|⟨id,g,c,rfl,hc,hl,ht,_⟩
 .exact Rd.nil H
 .exact Rd.esl H
 .have:=Rd.sl hc (off:=0) (n:=l.length) (by omega)
  rwa[dx,ht]at this
def kz{H id g c c'}(h:getC H id g=some c):getC (H.set id (.cells g c')) id g=some c':=ays h _
def aux:Option (Option Nat)->Option (Option Nat)->Bool
 |some (some i),some (some j)=>i != j
 |some _,some _=>true
 |_,_=>false
def aof(x y:AOp)(fr:List V):Bool:=
 match x.place,y.place with
 |some a,some b=>aux (x.obj (ev fr a)) (y.obj (ev fr b))
 |_,_=>false
theorem aer(ops fr i j):agl ops fr (i,j)=aof (ops.getD i default).op (ops.getD j default).op fr:=by
 simp only[agl,aof];cases(ops.getD i default).op.place<;>cases(ops.getD j default).op.place<;>rfl
def bV(b:Bool):V:=.s (.bool b)
def bdw(H:Heap)(base:Nat)(kind:TypeDesc)(m k v:V):Option (V × Heap):=
 match m,k with
  |.mp id,.s key=>if base<=id/\agf kind key then match H[id]? with
     |some (.map es)=>match ag8 kind key es 0 with
       |some (some (i,_))=>some (und,H.set id (.map (es.set i (key,v))))
       |some none=>some (und,H.set id (.map (es++[(key,v)])))
       |none=>none
     |_=>none
    else none
  |_,_=>none
theorem ano(call:o8)(base fr H kind m k v):l8 call base fr H (.mapUpd kind m k v)=bdw H base kind (ev fr m) (ev fr k) (ev fr v):=rfl
def delMV(H:Heap)(base:Nat)(kind:TypeDesc)(m k:V):Option (V × Heap):=
 match m,k with
  |.mp id,.s key=>if base<=id/\agf kind key then match H[id]? with
     |some (.map es)=>match ag8 kind key es 0 with
       |some (some (i,_))=>some (und,H.set id (.map (es.eraseIdx i)))
       |some none=>some (und,H)
       |none=>none
     |_=>none
    else none
  |_,_=>none
theorem a3r(call:o8)(base fr H kind m k):l8 call base fr H (.delete kind m k)=delMV H base kind (ev fr m) (ev fr k):=rfl
def avc{H:Heap}{j:Nat}{ob:Ob}(h:H[j]?=some ob):H.set j ob=H:=by
 apply wh;intro i;by_cases hi:j=i
 .subst hi;rw[ma (bmk.1 h).1,h]
 .rw[ae hi]
def yldE(H:Heap)(id:Nat):Option St->Option (V × Heap)
 |some (e,_,H)=>match H[id]? with
   |some (.loop .busy none t p a b)=>some (bl (e=.nrm),H.set id (.loop (if e=.nrm then .ready else .done) (ayb e) t p a b))
   |_=>none
 |none=>none
theorem a19(fr):avd [] [] fr=some fr:=rfl
def azr(p ps v vs n)(en:Env):avd (p::ps) (v::vs) (ja n en)=avd ps vs (ja n (a9g p v en)):=by
 simp only[avd,aru]
abbrev WS:=List Int × (Int->Nat)
def el(p:WS):List Int:=bj7 p.1 p.2
def rngC(L:Nat)(fr:List V):Option (V × Heap)->Option St
 |some (_,H')=>match H'[L]? with
   |some (.loop .ready none _ _ _ _)=>some (.nrm,fr,trim L fr (H'.set L .dead))
   |some (.loop .done (some e) _ _ _ _)=>some (e,fr,trim L fr (H'.set L .dead))
   |_=>none
 |none=>none
def rngF(call:o8)(base:Nat)(ps:List Nat)(a b:ACode)(fr:List V)(H:Heap):V->Option St
 |.fn k x y=>rngC H.length fr (call (.fn k x y) [.yld H.length] base (H++[.loop .ready none fr ps a b]))
 |_=>none
theorem bgj(call:o8)(it:zn)(base f ps a b fr H):evC call it base (.rangeFunc f ps a b) fr H=rngF call base ps a b fr H (ev fr f):=by
 simp only[evC];cases ev fr f<;>rfl
theorem bec(call:o8)(base ps a b fr H k x y):rngF call base ps a b fr H (.fn k x y)=rngC H.length fr (call (.fn k x y) [.yld H.length] base (H++[.loop .ready none fr ps a b])):=rfl
def bg4(m0 i j:Nat)(H0 H':Heap):Prop:=m0<=H'.length/\∀id,id<m0->id≠i->id≠j->H'[id]?=H0[id]?
def bg4.trim{m0 i j H0 H'}(h:bg4 m0 i j H0 H'){m}(hm:m0<=m)(fr):bg4 m0 i j H0 (trim m fr H'):=by
 rcases ae2 m fr H' with e|⟨e,_⟩<;>rw[e]
 .exact h
 .exact⟨by rw[l5];have:=h.1;omega,fun id h1 h2 h3=>by rw[gu (by omega)];exact h.2 id h1 h2 h3⟩
def andNot(a b:Nat):Nat:=a &&& (2^64-1-b)
def dn(m0:Nat)(D:List Nat)(H0 H':Heap):Prop:=m0<=H'.length/\∀id,id<m0->id ∉ D->H'[id]?=H0[id]?
def dn.trim{m0 D H0 H'}(h:dn m0 D H0 H'){m}(hm:m0<=m)(fr):dn m0 D H0 (trim m fr H'):=by
 rcases ae2 m fr H' with e|⟨e,_⟩<;>rw[e]
 .exact h
 .exact⟨by rw[l5];have:=h.1;omega,fun id h1 h2=>by rw[gu (by omega)];exact h.2 id h1 h2⟩
def dn.refl(D H):dn H.length D H H:=⟨aj _,fun _ _ _=>rfl⟩
def dn.trans{m0 m1 D A B C}(h:dn m0 D A B)(k:dn m1 D B C)(hm:m0<=m1):dn m0 D A C:=⟨qa hm k.1,fun id h1 h2=>(k.2 id (by omega) h2).trans (h.2 id h1 h2)⟩
def dn.getC{m0 D A B}(h:dn m0 D A B){id g c}(hc:getC A id g=some c)(h1:id<m0)(h2:id ∉ D):getC B id g=some c:=by
 unfold Go.AM.getC at hc |-;rw[h.2 id h1 h2];exact hc
def dn.mono{m0 D D' A B}(h:dn m0 D A B){m1}(hm:m1<=m0)(hD:∀id,id<m1->id∈D->id∈D'):dn m1 D' A B:=⟨by have:=h.1;omega,fun id h1 h2=>h.2 id (by omega) fun hx=>h2 (hD id h1 hx)⟩
def Ext.d{A B}(h:Ext A B)(D):dn A.length D A B:=⟨h.le,fun id h1 _=>h.get h1⟩
theorem aap(H z p ps vs):ae0 H (.build z p ps) (some vs)=(acu (p[·]?) z (ps.map fun q=>(q.1,ev vs q.2))).map .agg:=by
 simp only[ae0,l8];cases acu (p[·]?) z (ps.map fun q=>(q.1,ev vs q.2))<;>rfl
def amY:=bm1 @ano (bm1 @a3r (bm1 @a19 (bm1 @azr (bm1 @bgj (bm1 @bec @aap)))))
def ac5{w}:∀(R:List (List V)),(∀r∈R,r.length=w)->R.flatten.length=R.length*w:=by
 intro R
 induction R with
 |nil=>intro _;simp
 |cons r R ih=>
   intro h;rw[uu,gm,ih (fun x hx=>h x (il _ hx)),h r jh,bn,zu];omega
def ax5{w}:∀(R:List (List V)),(∀r∈R,r.length=w)->∀(i:Nat) (r:List V),R[i]?=some r->(R.flatten.drop (i*w)).take w=r:=by
 intro R
 induction R with
 |nil=>intro _ i r h;simp at h
 |cons s R ih=>
   intro h i r hr;have hs:=h s jh;cases i with
   |zero=>
     simp only[zh,je]at hr;subst hr;rw[ap1,dx,uu,<- hs,List.take_left]
   |succ i=>
     simp only[wu]at hr
     rw[uu,show(i+1)*w=s.length+i*w by rw[hs,zu];omega,aae,mf (by omega),di,Nat.add_sub_cancel_left]
     exact ih (fun x hx=>h x (il _ hx)) i r hr
structure RdW (w:Nat) (H:Heap) (v:V) (R:List (List V)):Prop where
 el:elems H w v=some (R.length,R.flatten)
 len:afx H .s v=some (.s (.int .i64 R.length))
 one:v.one=true
 at':∀(i:Nat) (r:List V),R[i]?=some r->∃a,pg w v (.s (.int .i64 i))=some a/\y5 H true w a=some (.agg r)/\∀(o:Nat) (x:V),r[o]?=some x->∃b,abg o a=some b/\y5 H false 1 b=some x
def RdW.nil(w H):RdW w H ow []:=⟨rfl,rfl,rfl,fun i r h=>by simp at h⟩
theorem a7z{r:List V}{o:Nat}{x:V}(h:r[o]?=some x):(r.drop o).take 1=[x]:=by
 obtain⟨ho,rfl⟩:=bmk.1 h;rw[ed ho];rfl
def RdW.sl{w:Nat}{H:Heap}{id g:Nat}{R:List (List V)}(hc:getC H id g=some R.flatten)(hR:∀r∈R,r.length=w):RdW w H (.sl id g 0 R.length w) R:=by
 have hl:=ac5 R hR;refine⟨?_,rfl,rfl,fun i r h=>?_⟩
 .simp only[elems,jf,hc,dx,<- hl,afu]
 .have hr:=hR r (ik h);have hi:=(bmk.1 h).1;have hg:=ax5 R hR i r h;refine⟨.ref id g (0+i*w),?_,?_,fun o x hx=>⟨.ref id g (0+i*w+o),rfl,?_⟩⟩
  .rw[alh,dw ⟨by omega,by omega,rfl⟩,og]
  .rw[aav,hc,ng];simp only[hg,hr,jf,ax3]
  .have ho:=(bmk.1 hx).1
   have e:(R.flatten.drop (0+i*w+o)).take 1=[x]:=by
    have h2:=a7z hx
    rw[<- hg,List.drop_take,qc,List.take_take,ahe (by omega)]at h2
    rw[ng];exact h2
   rw[aav,hc];simp only[e,bi,jf,ax2]
def uj(m w:Nat)(H:Heap)(v:V)(R:List (List V)):Prop:=(∀r∈R,r.length=w)/\((R=[]/\v=ow)\/∃id g,v=.sl id g 0 R.length w/\getC H id g=some R.flatten/\m<=id)
def uj.start(m w H):uj m w H ow []:=⟨fun r h=>by simp at h,.inl ⟨rfl,rfl⟩⟩
def uj.rd{m w H v R}(h:uj m w H v R):RdW w H v R:=by
 obtain⟨hR,⟨rfl,rfl⟩|⟨id,g,rfl,hc,_⟩⟩:=h
 .exact RdW.nil w H
 .exact RdW.sl hc hR
def uj.keep{m w H H' v R}(h:uj m w H v R)(hk:∀id g n,v=.sl id g 0 n w->H'[id]?=H[id]?):uj m w H' v R:=by
 obtain⟨hR,h|⟨id,g,rfl,hc,hm⟩⟩:=h
 .exact⟨hR,.inl h⟩
 .refine⟨hR,.inr ⟨id,g,rfl,?_,hm⟩⟩;unfold getC at hc |-;rw[hk id g _ rfl];exact hc
def uj.lt{m w H v R}(h:uj m w H v R):∀id g n,v=.sl id g 0 n w->id<H.length:=by
 obtain⟨_,⟨_,rfl⟩|⟨id,g,rfl,hc,hm⟩⟩:=h
 .intro id g n e;cases e
 .intro id' g' n e;cases e;exact su hc
theorem uj.append{m w H v R}(h:uj m w H v R){base bytes}(hb:base<=m)(hm:m<=H.length){S}(hS:∀r∈S,r.length=w)(h0:S≠[]){x}(hx:elems H w x=some (S.length,S.flatten))(ho:S.flatten.all V.one=true)(hs:(R.length+S.length)*bytes<=2^47):
 ∃v' H',qp H base w bytes v x=some (v',H')/\uj m w H' v' (R++S)/\H.length<=H'.length/\(∀id,id<H.length->(∀g n,v≠.sl id g 0 n w)->H'[id]?=H[id]?):=by
 have hn:¬S.length=0:=fun e=>h0 (jb e);have hRS:∀r∈R++S,r.length=w->r.length=w:=fun _ _ e=>e
 obtain⟨hR,⟨rfl,rfl⟩|⟨id,g,rfl,hc,hid⟩⟩:=h
 .have hs':S.length*bytes<=2^47:=by simpa using hs
  refine⟨.sl H.length 0 0 S.length w,H++[.cells 0 S.flatten],?_,⟨?_,.inr ⟨H.length,0,by simp,?_,hm⟩⟩,by simp,fun id hid _=>ah hid⟩
  .simp only[qp,hx,ho,jf,ow,hn,ky,hs']
  .simpa using hS
  .rw[di];exact jl H 0 _
 .have hlt:=su hc
  have hbi:base<=id:=by omega
  have hl:=ac5 R hR
  refine⟨.sl id (g+1) 0 (R.length+S.length) w,H.set id (.cells (g+1) (R.flatten++S.flatten)),?_,⟨?_,.inr ⟨id,g+1,by simp,?_,hid⟩⟩,by simp,fun id' hid' hne=>?_⟩
  .have h2:0+R.length*w<=R.flatten.length:=by omega
   simp only[qp,hx,ho,jf,aie,hbi,hc,h2,hn,ky,hs,dx]
   rw[rq (by omega)]
  .intro r hr
   rcases mo.1 hr with hr|hr
   .exact hR r hr
   .exact hS r hr
  .rw[qx];exact ays hc _
  .rw[ae];rintro rfl;exact hne g _ rfl
def uj.trim_eq{m w L H v R}(h:uj m w H v R)(h0:R≠[])(hL:L<=m){fr}(hv:v∈fr):trim L fr H=H:=by
 obtain⟨_,⟨rfl,_⟩|⟨id,g,rfl,hc,hid⟩⟩:=h
 .exact absurd rfl h0
 .rcases trim_or L fr H with e|⟨_,hu⟩
  .exact e
  .have:=hu _ hv;simp only[qh,lm]at this;omega
def uj.trim_or{m w L H v R}(h:uj m w H v R)(hL:L<=m){fr}(hv:v∈fr):R=[]/\v=ow\/trim L fr H=H:=by
 obtain⟨_,h|⟨id,g,rfl,hc,hid⟩⟩:=h
 .exact .inl h
 .rcases Go.AM.trim_or L fr H with e|⟨_,hu⟩
  .exact .inr e
  .have:=hu _ hv;simp only[qh,lm]at this;omega
def acr(m fr H){id}(h:id<m):(trim m fr H)[id]?=H[id]?:=by
 rcases Go.AM.trim_or m fr H with e|⟨e,_⟩
 .rw[e]
 .rw[e,gu h]
theorem ao6(m fr H):trim m fr H=H\/(trim m fr H=H.take m/\(∀v∈fr,qh m 8 v=true)/\∀id g c,id<m->getC H id g=some c->∀v∈c,qh m 8 v=true):=by
 unfold trim;split
 .rename_i h;rw[au,bq,bq]at h;refine .inr ⟨rfl,h.1,fun id g c hid hc v hv=>?_⟩;unfold getC at hc;cases ho:H[id]? with
  |none=>rw[ho]at hc;cases hc
  |some o=>
    rw[ho]at hc
    have hm:o∈H.take m:=ik (i:=id) (by rw[gu hid];exact ho)
    have:=h.2 o hm;cases o with
    |cells g2 c2=>
      dsimp only at hc;split at hc
      .cases hc;simp only[Ob.under,bq]at this;exact this v hv
      .cases hc
    |map _=>cases hc
    |loop _ _ _ _ _ _=>cases hc
    |dead=>cases hc
    |bytes _ _=>cases hc
 .exact .inl rfl
def at7{S T:Type}(n)(P:Nat->S->Prop)(X:Nat->S->T)(step:∀i s,i<n->P i s->∃s',X i s=X (i+1) s'/\P (i+1) s'):∀i s,i<=n->P i s->∃s',X i s=X n s'/\P n s':=by
 have key:∀d i s,i+d=n->P i s->∃s',X i s=X n s'/\P n s':=by
  intro d
  induction d with
  |zero=>
    intro i s hi hp
    obtain rfl:i=n:=by omega
    exact⟨s,rfl,hp⟩
  |succ d ih=>
    intro i s hi hp
    obtain⟨s1,h1,h2⟩:=step i s (by omega) hp
    obtain⟨s2,h3,h4⟩:=ih (i+1) s1 (by omega) h2
    exact⟨s2,h1.trans h3,h4⟩
 exact fun i s hi hp=>key (n-i) i s (by omega) hp
def bju{T:Type}(n)(X:Nat->T)(step:∀i,i<n->X i=X (i+1)):∀i,i<=n->X i=X n:=by
 intro i hi;obtain⟨_,h,_⟩:=at7 (S:=Unit) n (fun _ _=>True) (fun i _=>X i) (fun i s h _=>⟨(),step i h,trivial⟩) i () hi trivial;exact h
theorem amq{α:Type}{l:List α}{k}(h:k<l.length)(d:α):l[k]?=some (l.getD k d):=by rw[List.getD,af h];rfl
section
variable {κ:Type} [DecidableEq κ]
end
def w64{n:Nat}(h:n<2^62):IntKind.i64.wrap ((n:Int)+1)=((n+1:Nat):Int):=by rw[IntKind.wrap_i64];omega
def a8i(a b):Instr.sameNow .string (.string a) (.string b)=some (decide (a=b)):=by
 have h:(a==b)=decide (a=b):=by
  by_cases e:a=b
  .subst e;rw[yg rfl,beq_toListBytes];simp
  .rw[uz e,beq_toListBytes];rw[cz];exact fun h=>e (toList_inj h)
 simp only[Instr.sameNow,h]
def aib{H H'}(k:Ext H H'){b g n x}(hx:y5 H g n b=some x):y5 H' g n b=some x:=by
 cases b with
 |ref i j o=>
   rw[aav]at hx |-;cases hc:getC H i j with
   |none=>rw[hc]at hx;cases hx
   |some c=>rw[hc]at hx;rw[jd hc k];exact hx
 |_=>exact hx
def RdW.ext2{w H H' v R}(h:RdW w H v R)(k:Ext H H'):RdW w H' v R:=by
 refine⟨?_,?_,h.one,?_⟩
 .have he:=h.el;unfold elems at he |-;split<;>simp only at he |-
  all_goals first|exact he|skip
  all_goals
   split at he
   .rename_i e;rw[dw e];cases hc:getC H _ _ with
    |none=>rw[hc]at he;cases he
    |some c=>rw[hc]at he;rw[jd hc k];exact he
   .cases he
 .have hl:=h.len;have he:=h.el;unfold elems at he
  split at he<;>simp only[afx]at hl |-<;>first|exact hl|cases he
 .intro i r hr;obtain⟨a,h1,h2,h3⟩:=h.at' i r hr
  have ld:∀(b:V) (g:Bool) (n:Nat) (x:V),y5 H g n b=some x->y5 H' g n b=some x:=by
   intro b g n x hx;cases b with
   |ref i j o=>
     rw[aav]at hx |-;cases hc:getC H i j with
     |none=>rw[hc]at hx;cases hx
     |some c=>rw[hc]at hx;rw[jd hc k];exact hx
   |_=>exact hx
  exact⟨a,h1,ld _ _ _ _ h2,fun o x hx=>by obtain⟨b,b1,b2⟩:=h3 o x hx;exact⟨b,b1,ld _ _ _ _ b2⟩⟩
section
variable {κ:Type} [DecidableEq κ]
end
end Go.AM
set_option maxRecDepth 100000
namespace Go.Proofs.YtbocmenkkjbigaaDoor
open Go.AM
abbrev Sb(b:ByteArray):V:=.s (.string b)
abbrev Iz(n:Int):V:=.s (.int .i64 n)
structure InsD where
 op:Int
 d:ByteArray
 a:ByteArray
 b:ByteArray
 k:Int
 f:ByteArray
 xs:List ByteArray
 ls:List ByteArray
structure BlkD where
 label:ByteArray
 code:List InsD
structure FunD where
 name:ByteArray
 ps:List ByteArray
 blocks:List BlkD
def aha:InsD:=⟨0,⟨#[]⟩,⟨#[]⟩,⟨#[]⟩,0,⟨#[]⟩,[],[]⟩
def bhc:FunD:=⟨⟨#[]⟩,[],[]⟩
def aak(v:V):Prop:=∀es z,v≠.psl es z
def aak.w{v}(h:aak v):bgw v:=by
 cases v<;>first|trivial|exact absurd rfl (h _ _)
def asb.wide2{m H v l}(h:asb m H v l):aak v:=by
 rcases h with⟨_,rfl|rfl⟩|⟨_,_,_,rfl,_⟩<;>exact fun _ _ e=>by cases e
structure RdX (w:Nat) (H:Heap) (v:V) (R:List (List V)):Prop extends RdW w H v R where
 np:aak v
def RdX.ext2{w H H' v R}(h:RdX w H v R)(k:Ext H H'):RdX w H' v R:=⟨h.toRdW.ext2 k,h.np⟩
def uj.rx{m w H v R}(h:uj m w H v R):RdX w H v R:=⟨h.rd,by
 obtain⟨_,⟨_,rfl⟩|⟨_,_,rfl,_⟩⟩:=h<;>exact fun _ _ e=>by cases e⟩
def RdX.sl{w H id g R}(hc:getC H id g=some R.flatten)(hR:∀r∈R,r.length=w):RdX w H (.sl id g 0 R.length w) R:=⟨RdW.sl hc hR,fun _ _ e=>by cases e⟩
def zw(x:InsD)(av lv:V):List V:=[.s (.int .u8 x.op),Sb x.d,Sb x.a,Sb x.b,.s (.int .i64 x.k),Sb x.f,av,lv]
def ac7(H:Heap)(r:List V)(x:InsD):Prop:=∃av lv,r=zw x av lv/\Rd H av (x.xs.map Sb)/\aak av/\Rd H lv (x.ls.map Sb)/\aak lv/\x.xs.length<2^63/\x.ls.length<2^63
def RdL{α:Type}(w:Nat)(P:Heap->List V->α->Prop)(H:Heap)(v:V)(l:List α):Prop:=∃R:List (List V),RdX w H v R/\R.length=l.length/\l.length<2^63/\∀(i:Nat) (x:α),l[i]?=some x->∃r:List V,R[i]?=some r/\P H r x
def ajd(H:Heap)(r:List V)(b:BlkD):Prop:=∃cv,r=[Sb b.label,cv]/\RdL 8 ac7 H cv b.code
def ah8(H:Heap)(r:List V)(f:FunD):Prop:=∃pv bv,r=[Sb f.name,pv,bv]/\Rd H pv (f.ps.map Sb)/\aak pv/\f.ps.length<2^63/\RdL 2 ajd H bv f.blocks
abbrev ac0:Heap->V->List FunD->Prop:=RdL 3 ah8
def ac7.ext{H H' r x}(h:ac7 H r x)(k:Ext H H'):ac7 H' r x:=by
 obtain⟨av,lv,h1,h2,h3,h4,h5,h6⟩:=h;exact⟨av,lv,h1,h2.ext k,h3,h4.ext k,h5,h6⟩
def RdL.ext{α:Type}{w}{P:Heap->List V->α->Prop}(hP:∀{H H' r x},P H r x->Ext H H'->P H' r x){H H' v}{l:List α}(h:RdL w P H v l)(k:Ext H H'):RdL w P H' v l:=by
 obtain⟨R,h1,h2,h3,h4⟩:=h
 exact⟨R,h1.ext2 k,h2,h3,fun i x hx=>by obtain⟨r,r1,r2⟩:=h4 i x hx;exact⟨r,r1,hP r2 k⟩⟩
def ajd.ext{H H' r b}(h:ajd H r b)(k:Ext H H'):ajd H' r b:=by
 obtain⟨cv,h1,h2⟩:=h;exact⟨cv,h1,RdL.ext (P:=ac7) ac7.ext h2 k⟩
def ah8.ext{H H' r f}(h:ah8 H r f)(k:Ext H H'):ah8 H' r f:=by
 obtain⟨pv,bv,h1,h2,h3,h4,h5⟩:=h;exact⟨pv,bv,h1,h2.ext k,h3,h4,RdL.ext (P:=ajd) ajd.ext h5 k⟩
def ac0.ext{H H' v fs}(h:ac0 H v fs)(k:Ext H H'):ac0 H' v fs:=RdL.ext (P:=ah8) ah8.ext h k
def RdL.len{α:Type}{w}{P:Heap->List V->α->Prop}{H v}{l:List α}(h:RdL w P H v l):afx H .s v=some (.s (.int .i64 l.length)):=by
 obtain⟨R,h1,h2,_⟩:=h;rw[h1.len,h2]
def RdL.one{α:Type}{w}{P:Heap->List V->α->Prop}{H v}{l:List α}(h:RdL w P H v l):v.one=true:=by
 obtain⟨R,h1,_⟩:=h;exact h1.one
def RdL.at2{α:Type}{w:Nat}{P:Heap->List V->α->Prop}{H v}{l:List α}(h:RdL w P H v l){i:Nat}{x:α}(hx:l[i]?=some x):∃a r,pg w v (.s (.int .i64 i))=some a/\P H r x/\(∀H',Ext H H'->y5 H' true w a=some (.agg r))/\∀(o:Nat) (y:V),r[o]?=some y->∃b,abg o a=some b/\∀H',Ext H H'->y5 H' false 1 b=some y:=by
 obtain⟨R,h1,h2,h3,h4⟩:=h;obtain⟨r,r1,r2⟩:=h4 i x hx;obtain⟨a,a1,a2,a3⟩:=h1.at' i r r1
 exact⟨a,r,a1,r2,fun H' k=>aib k a2,fun o y hy=>by obtain⟨b,b1,b2⟩:=a3 o y hy;exact⟨b,b1,fun H' k=>aib k b2⟩⟩
def a7e{H:Heap}{v:V}{l:List ByteArray}(h:Rd H v (l.map Sb))(hw:aak v){k:Nat}(hk:k<l.length):∃a,pg 1 v (.s (.int .i64 k))=some a/\y5 H false 1 a=some (.s (.string (l.getD k ⟨#[]⟩))):=
 h.at' hw.w (by rw[nz,amq hk ⟨#[]⟩];rfl)
def auy{H:Heap}{v:V}{l:List ByteArray}(h:Rd H v (l.map Sb)):afx H .s v=some (.s (.int .i64 l.length)):=by
 have:=h.len
 rwa[aay]at this
end Go.Proofs.YtbocmenkkjbigaaDoor
namespace Go.AM.Tok
def far(p:UInt8->Bool):List UInt8->Nat
 | []=>0
 |c::l=>if p c then far p l+1 else 0
def far_le(p:UInt8->Bool):∀l,far p l<=l.length
 | []=>aj _
 |c::l=>by
   unfold far;split
   .exact Nat.succ_le_succ (far_le p l)
   .exact jo _
def blank(c:UInt8):Bool:=c==32||c==9||c==13||c==10
def letter(c:UInt8):Bool:=decide (97<=c.toNat)&&decide (c.toNat<=122)||decide (65<=c.toNat)&&decide (c.toNat<=90)||c==95
def digit(c:UInt8):Bool:=decide (48<=c.toNat)&&decide (c.toNat<=57)
def within(c:UInt8):Bool:=letter c||digit c||c==46
def other(c:UInt8):Bool:=c != 10
def sign(c:UInt8):Bool:=c==61||c==44||c==58||c==40||c==41||c==123||c==125||c==91||c==93
structure T where
 kind:Nat
 text:List UInt8
 n:Nat
 line:Nat
 col:Nat
 deriving DecidableEq,Inhabited
inductive Out where
 |done (ts:List T)
 |bad (e line col:Nat)
 deriving DecidableEq,Inhabited
def Out.cons(t:T):Out->Out
 |.done ts=>.done (t::ts)
 |.bad e a b=>.bad e a b
def val(l:List UInt8):Nat:=l.foldl (fun n c=>n*10+(c.toNat-48)) 0
def lex(l:List UInt8)(ln cl:Nat):Out:=
 match l with
 | []=>.done [⟨4,[],0,ln,cl⟩]
 |c::l=>
   if blank c then(if c=10 then lex l (ln+1) 1 else lex l ln (cl+1))
   else if c=59 then lex (l.drop (far other l)) ln (cl+(far other l+1))
   else if letter c then(lex (l.drop (far within l)) ln (cl+(far within l+1))).cons ⟨1,c::l.take (far within l),0,ln,cl⟩
   else if digit c then
    if 9<far digit l+1\/(1<far digit l+1/\c=48)\/far digit l<far within l then .bad 31 ln cl
    else(lex (l.drop (far digit l)) ln (cl+(far digit l+1))).cons ⟨2,c::l.take (far digit l),val (c::l.take (far digit l)),ln,cl⟩
   else if sign c then(lex l ln (cl+1)).cons ⟨3,[c],0,ln,cl⟩
   else .bad 30 ln cl
termination_by l.length
decreasing_by all_goals simp only[bn,ig];omega
def lex_nil(ln cl):lex [] ln cl=.done [⟨4,[],0,ln,cl⟩]:=by rw[lex]
def lex_cons(c l ln cl):lex (c::l) ln cl=
 if blank c then(if c=10 then lex l (ln+1) 1 else lex l ln (cl+1))
 else if c=59 then lex (l.drop (far other l)) ln (cl+(far other l+1))
 else if letter c then(lex (l.drop (far within l)) ln (cl+(far within l+1))).cons ⟨1,c::l.take (far within l),0,ln,cl⟩
 else if digit c then
  if 9<far digit l+1\/(1<far digit l+1/\c=48)\/far digit l<far within l then .bad 31 ln cl
  else(lex (l.drop (far digit l)) ln (cl+(far digit l+1))).cons ⟨2,c::l.take (far digit l),val (c::l.take (far digit l)),ln,cl⟩
 else if sign c then(lex l ln (cl+1)).cons ⟨3,[c],0,ln,cl⟩
 else .bad 30 ln cl:=by rw[lex]
def spotL:List UInt8->Nat × Nat->Nat × Nat
 | [],p=>p
 |c::l,p=>spotL l (if c=10 then(p.1+1,1)else(p.1,p.2+1))
def spotL_app:∀(a b:List UInt8) (p:Nat × Nat),spotL (a++b) p=spotL b (spotL a p)
 | [],_,_=>rfl
 |c::a,b,p=>by simp only[bg,spotL,spotL_app a b]
def spotL_flat:∀(l:List UInt8) (p:Nat × Nat),(∀c∈l,c≠10)->spotL l p=(p.1,p.2+l.length)
 | [],p,_=>rfl
 |c::l,p,h=>by
   simp only[spotL,h c jh,ky];rw[spotL_flat l _ fun x hx=>h x (il _ hx)];simp only[bn];rw[yh,Nat.add_comm 1]
def far_take(p:UInt8->Bool):∀(l:List UInt8),∀c∈l.take (far p l),p c=true
 | []=>by simp
 |x::l=>by
   intro c hc;unfold far at hc;split at hc
   .rename_i hx;rw[az,mq]at hc
    rcases hc with rfl|hc
    .exact hx
    .exact far_take p l c hc
   .simp at hc
def far_stop(p:UInt8->Bool):∀(l:List UInt8) {c:UInt8} {m:List UInt8},l.drop (far p l)=c::m->p c=false
 | [],c,m,h=>by simp at h
 |x::l,c,m,h=>by
   unfold far at h;split at h
   .rw[dh]at h;exact far_stop p l h
   .rename_i hx;rw[dx]at h;cases h
    simpa using hx
def far_all(p:UInt8->Bool):∀(a b:List UInt8),(∀c∈a,p c=true)->far p (a++b)=a.length+far p b
 | [],b,_=>by simp
 |c::a,b,h=>by
   simp only[bg,far,h c jh,jf,bn];rw[far_all p a b fun x hx=>h x (il _ hx)];omega
def far_len(p:UInt8->Bool)(l):(l.take (far p l)).length=far p l:=by rw[l5,ahe (far_le p l)]
def len_ne{c:UInt8}(p:UInt8->Bool)(hp:p 10=false)(l:List UInt8)(hc:c≠10):∀x∈c::l.take (far p l),x≠10:=by
 intro x hx
 rcases mq.1 hx with rfl|hx
 .exact hc
 .rintro rfl;rw[far_take p l _ hx]at hp;cases hp
def gap:Bool->List UInt8->Bool
 |_,[]=>true
 |cm,c::l=>
   let a:=if c=59 then true else cm
   let b:=if c=10 then false else a
   (b||blank c)&&gap b l
def an2:∀(a b:List UInt8),(∀c∈a,c≠10)->gap true (a++b)=gap true b
 | [],b,_=>rfl
 |c::a,b,h=>by
   have h10:=h c jh;simp only[bg,gap,h10,ky]
   have:(if c=59 then true else true)=true:=by split<;>rfl
   simp only[this,ru,nk];exact an2 a b fun x hx=>h x (il _ hx)
def bf5(b):gap true (10::b)=gap false (10::b):=by simp[gap]
inductive Cov:List UInt8->Nat × Nat->List T->Prop
 |last (g:List UInt8) (p:Nat × Nat):gap false g=true->Cov g p [⟨4,[],0,(spotL g p).1,(spotL g p).2⟩]
 |word (g r:List UInt8) (p:Nat × Nat) (t:T) (ts:List T):gap false g=true->(t.line,t.col)=spotL g p->t.kind≠4->t.text≠[]->Cov r (spotL t.text (spotL g p)) ts->Cov (g++(t.text++r)) p (t::ts)
def Cov.blank'{c l p}{ts:List T}(hb:blank c=true)(h:Cov l (if c=10 then(p.1+1,1)else(p.1,p.2+1)) ts):Cov (c::l) p ts:=by
 have h59:c≠59:=by rintro rfl;revert hb;decide
 have hg:∀g,gap false (c::g)=gap false g:=by
  intro g;simp only[gap,h59,ky]
  have:(if c=10 then false else false)=false:=by split<;>rfl
  simp only[this,hb,afm,nk]
 generalize hq:(if c=10 then(p.1+1,1)else(p.1,p.2+1))=q at h
 cases h with
 |last g _ h=>
   have:=Cov.last (c::l) p (by rw[hg];exact h)
   rw[spotL,hq]at this;exact this
 |word g r _ t ts h1 h2 h3 h4 h5=>
   have:=Cov.word (c::g) r p t ts (by rw[hg];exact h1) (by rw[spotL,hq];exact h2) h3 h4 (by rw[spotL,hq];exact h5)
   rw[bg]at this;exact this
def Cov.comm{a l p}{ts:List T}(ha:∀x∈a,x≠10)(hl:l=[]\/∃m,l=10::m)(h:Cov l (spotL (59::a) p) ts):Cov (59::(a++l)) p ts:=by
 have hg:∀g,(g=[]\/∃m,g=10::m)->gap false (59::(a++g))=gap false g:=by
  intro g hg
  have:gap false (59::(a++g))=gap true (a++g):=by simp[gap]
  rw[this,an2 a g ha]
  rcases hg with rfl|⟨m,rfl⟩
  .rfl
  .exact bf5 m
 generalize hq:spotL (59::a) p=q at h
 have hs:∀g,spotL (59::(a++g)) p=spotL g q:=by
  intro g;rw[show 59::(a++g)=(59::a)++g from rfl,spotL_app,hq]
 cases h with
 |last g _ h=>
   have:=Cov.last (59::(a++l)) p (by rw[hg _ hl];exact h)
   rw[hs]at this;exact this
 |word g r _ t ts h1 h2 h3 h4 h5=>
   have hg2:g=[]\/∃m,g=10::m:=by
    cases g with
    |nil=>exact .inl rfl
    |cons x g=>
      rcases hl with hl|⟨m,hl⟩
      .cases hl
      .cases hl;exact .inr ⟨g,rfl⟩
   have:=Cov.word (59::(a++g)) r p t ts (by rw[hg _ hg2];exact h1) (by rw[hs];exact h2) h3 h4 (by rw[hs];exact h5)
   rw[show 59::(a++g)++(t.text++r)=59::(a++(g++(t.text++r))) by simp]at this
   exact this
def cons_done{t:T}{o:Out}{ts:List T}(h:Out.cons t o=.done ts):∃us,o=.done us/\ts=t::us:=by
 cases o with
 |done us=>cases h;exact⟨us,rfl,rfl⟩
 |bad=>cases h
theorem ar3{t:T}{o:Out}{e a b}(h:Out.cons t o=.bad e a b):o=.bad e a b:=by
 cases o with
 |done us=>cases h
 |bad=>cases h;rfl
def Cov.next{c l x k n p}{us:List T}(hk:k≠4)(hc:∀y∈c::x,y≠10)(h:Cov l (p.1,p.2+(x.length+1)) us):Cov (c::(x++l)) p (⟨k,c::x,n,p.1,p.2⟩::us):=by
 have:=Cov.word [] l p ⟨k,c::x,n,p.1,p.2⟩ us rfl rfl hk (by simp) (by rw[spotL_flat _ _ hc];exact h)
 simpa using this
def not_ten:∀{c:UInt8},(letter c=true\/digit c=true\/sign c=true)->c≠10:=by
 rintro c h rfl;revert h;decide
def lex_cov:∀(n:Nat) (l:List UInt8) (p:Nat × Nat) (ts:List T),l.length<=n->lex l p.1 p.2=.done ts->Cov l p ts:=by
 intro n
 induction n with
 |zero=>
   intro l p ts h e
   obtain rfl:l=[]:=jb (by omega)
   rw[lex_nil]at e;cases e;exact Cov.last [] p rfl
 |succ n ih=>
   intro l p ts h e;cases l with
   |nil=>
     rw[lex_nil]at e;cases e;exact Cov.last [] p rfl
   |cons c l=>
     have hl:l.length<=n:=by simpa using h
     have hd:∀m,(l.drop m).length<=n:=fun m=>by rw[ig];omega
     rw[lex_cons]at e;split at e
     .rename_i hb;refine Cov.blank' hb ?_;split at e
      .rename_i h10;rw[dw h10];exact ih _ (p.1+1,1) _ hl e
      .rename_i h10;rw[fu h10];exact ih _ (p.1,p.2+1) _ hl e
     .split at e
      .rename_i h59;subst h59;have:=ih _ (p.1,p.2+(far other l+1)) _ (hd _) e;rw[<- tq (far other l) l]
       have hn:=len_ne (c:=59) other (by decide) l (by decide)
       refine Cov.comm (fun x hx=>hn x (il _ hx)) ?_ ?_
       .cases hx:l.drop (far other l)with
        |nil=>exact .inl rfl
        |cons c m=>
          have:=far_stop other l hx
          exact .inr ⟨m,by rw[show c=10 by simpa[other]using this]⟩
       .rw[spotL_flat _ _ hn,bn,far_len];exact this
      .split at e
       .rename_i hb h59 hlt;obtain⟨us,e1,rfl⟩:=cons_done e;have:=ih _ (p.1,p.2+(far within l+1)) _ (hd _) e1
        have h2:=Cov.next (c:=c) (x:=l.take (far within l)) (k:=1) (n:=0) (p:=p) (by decide) (len_ne within (by decide) l (not_ten (.inl hlt))) (by rw[far_len];exact this)
        rwa[tq]at h2
       .split at e
        .rename_i hb h59 hlt hdg;split at e
         .cases e
         .obtain⟨us,e1,rfl⟩:=cons_done e;have:=ih _ (p.1,p.2+(far digit l+1)) _ (hd _) e1
          have h2:=Cov.next (c:=c) (x:=l.take (far digit l)) (k:=2) (n:=val (c::l.take (far digit l))) (p:=p) (by decide) (len_ne digit (by decide) l (not_ten (.inr (.inl hdg)))) (by rw[far_len];exact this)
          rwa[tq]at h2
        .split at e
         .rename_i hb h59 hlt hdg hs;obtain⟨us,e1,rfl⟩:=cons_done e;have:=ih _ (p.1,p.2+1) _ hl e1
          exact Cov.next (c:=c) (x:=[]) (k:=3) (n:=0) (p:=p) (by decide) (by simpa using not_ten (.inr (.inr hs))) this
         .cases e
def axf(p:UInt8->Bool):∀(l u v:List UInt8),l.drop (far p l)=u++v->far p (l.take (far p l)++u)=far p l:=by
 intro l u v h;rw[far_all p _ _ (far_take p l),far_len];cases u with
 |nil=>rfl
 |cons c u=>
   have:=far_stop p l (by rw[h];rfl)
   simp[far,this]
def ayv(p:UInt8->Bool):∀(a b:List UInt8),far p a<=far p (a++b)
 | [],b=>jo _
 |c::a,b=>by
   simp only[bg,far];split
   .exact Nat.succ_le_succ (ayv p a b)
   .exact jo _
def Out.ok:Out->Bool
 |.done _=>true
 |.bad _ _ _=>false
theorem awr(t:T)(o:Out):(Out.cons t o).ok=o.ok:=by cases o<;>rfl
theorem bc8(ln cl):(lex [] ln cl).ok=true:=by rw[lex_nil];rfl
def Ahead(l:List UInt8)(p:Nat × Nat)(e a b:Nat):Prop:=(e=30\/e=31)/\∃u v,l=u++v/\v≠[]/\(lex u p.1 p.2).ok=true/\(a,b)=spotL u p
def lex_ahead:∀(n:Nat) (l:List UInt8) (p:Nat × Nat) (e a b:Nat),l.length<=n->lex l p.1 p.2=.bad e a b->Ahead l p e a b:=by
 intro n
 induction n with
 |zero=>
   intro l p e a b h he
   obtain rfl:l=[]:=jb (by omega)
   rw[lex_nil]at he;cases he
 |succ n ih=>
   intro l p e a b h he;cases l with
   |nil=>rw[lex_nil]at he;cases he
   |cons c l=>
     have hl:l.length<=n:=by simpa using h
     have hd:∀m,(l.drop m).length<=n:=fun m=>by rw[ig];omega
     have hh:=he;rw[lex_cons]at he;split at he
     .rename_i hb;split at he
      .rename_i h10;obtain⟨h1,u,v,rfl,h3,h4,h5⟩:=ih _ (p.1+1,1) _ _ _ hl he
       exact⟨h1,c::u,v,rfl,h3,by rw[lex_cons,dw hb,dw h10];exact h4,by rw[h5,spotL,dw h10]⟩
      .rename_i h10;obtain⟨h1,u,v,rfl,h3,h4,h5⟩:=ih _ (p.1,p.2+1) _ _ _ hl he
       exact⟨h1,c::u,v,rfl,h3,by rw[lex_cons,dw hb,fu h10];exact h4,by rw[h5,spotL,fu h10]⟩
     .rename_i hb;split at he
      .rename_i h59;obtain⟨h1,u,v,h2,h3,h4,h5⟩:=ih _ (p.1,p.2+(far other l+1)) _ _ _ (hd _) he;have hf:=axf other l u v h2;refine⟨h1,c::(l.take (far other l)++u),v,?_,h3,?_,?_⟩
       .rw[bg,ku,<- h2,tq]
       .rw[lex_cons,fu hb,dw h59,hf];rw[List.drop_left' (far_len other l)];exact h4
       .rw[h5,<- bg,spotL_app,spotL_flat (c::l.take (far other l)) p (len_ne other (by decide) l (by rw[h59];decide)),bn,far_len]
      .rename_i h59
       have hdrop:∀(q:UInt8->Bool) (u:List UInt8),(l.take (far q l)++u).drop (far q l)=u:=by
        exact fun q u=>List.drop_left' (far_len q l)
       split at he
       .rename_i hlt;obtain⟨h1,u,v,h2,h3,h4,h5⟩:=ih _ (p.1,p.2+(far within l+1)) _ _ _ (hd _) (ar3 he);have hf:=axf within l u v h2;have hdr:=hdrop within u;refine⟨h1,c::(l.take (far within l)++u),v,?_,h3,?_,?_⟩
        .rw[bg,ku,<- h2,tq]
        .rw[lex_cons,fu hb,fu h59,dw hlt,hf,hdr,awr];exact h4
        .rw[h5,<- bg,spotL_app,spotL_flat (c::l.take (far within l)) p (len_ne within (by decide) l (not_ten (.inl hlt))),bn,far_len]
       .rename_i hlt;split at he
        .rename_i hdg;split at he
         .rename_i hcond;cases he
          exact⟨.inr rfl,[],c::l,rfl,by simp,bc8 _ _,rfl⟩
         .rename_i hcond;obtain⟨h1,u,v,h2,h3,h4,h5⟩:=ih _ (p.1,p.2+(far digit l+1)) _ _ _ (hd _) (ar3 he);have hf:=axf digit l u v h2;have hdr:=hdrop digit u
          have hm:far within (l.take (far digit l)++u)<=far within l:=by
           have:=ayv within (l.take (far digit l)++u) v;rw[ku,<- h2,tq]at this;exact this
          refine⟨h1,c::(l.take (far digit l)++u),v,?_,h3,?_,?_⟩
          .rw[bg,ku,<- h2,tq]
          .rw[lex_cons,fu hb,fu h59,fu hlt,dw hdg,fu (fun hx=>hcond (by rw[hf]at hx;exact hx.imp id (Or.imp id fun h=>by omega))),hf,hdr,awr];exact h4
          .rw[h5,<- bg,spotL_app,spotL_flat (c::l.take (far digit l)) p (len_ne digit (by decide) l (not_ten (.inr (.inl hdg)))),bn,far_len]
        .rename_i hdg;split at he
         .rename_i hs;obtain⟨h1,u,v,rfl,h3,h4,h5⟩:=ih _ (p.1,p.2+1) _ _ _ hl (ar3 he);refine⟨h1,c::u,v,rfl,h3,?_,?_⟩
          .rw[lex_cons,fu hb,fu h59,fu hlt,fu hdg,dw hs,awr];exact h4
          .rw[h5,spotL,fu (not_ten (.inr (.inr hs)))]
         .cases he
          exact⟨.inl rfl,[],c::l,rfl,by simp,bc8 _ _,rfl⟩
end Go.AM.Tok
set_option maxRecDepth 100000
namespace Go.Proofs.YtbocmenkkjbigaaDoor
open Go.AM
structure Vw where
 kind:Nat->Nat
 text:Nat->List UInt8
 num:Nat->Nat
 same:Nat->Bool
def tkE:Tok.T:=⟨4,[],0,0,0⟩
def Vw.of(ts:List Tok.T):Vw where
 kind a:=(ts.getD a tkE).kind
 text a:=(ts.getD a tkE).text
 num a:=(ts.getD a tkE).n
 same a:=decide (a > 0)&&(ts.getD (a-1) tkE).line==(ts.getD a tkE).line
abbrev Rx(α:Type):=Nat->Except Nat (α × Nat)
def Rx.bind{α β:Type}(f:Rx α)(g:α->Rx β):Rx β:=fun a=>match f a with
 |.error e=>.error e
 |.ok (x,b)=>g x b
section
variable (V:Vw) (N:Nat)
def bOf(l:List UInt8):ByteArray:=⟨l.toArray⟩
def isT(s:List UInt8)(a:Nat):Bool:=V.same a&&V.kind a==3&&V.text a==s
def q9:Rx ByteArray:=fun a=>if(V.same a&&V.kind a==1)=true then .ok (bOf (V.text a),a+1)else .error a
def yl:Rx Nat:=fun a=>if(V.same a&&V.kind a==2)=true then .ok (V.num a,a+1)else .error a
def ul(s:List UInt8):Rx Unit:=fun a=>if isT V s a=true then .ok ((),a+1)else .error a
def ap0(a:Nat):Bool:=V.same a&&V.kind a != 4
def bl2:Rx Unit:=fun a=>if ap0 V a=true then .error a else .ok ((),a)
def aqh(s:List UInt8)(a:Nat):Bool:=V.kind a==1&&(V.kind (a+1)==3&&V.text (a+1)==s&&V.same (a+1))
def abt:Nat->List ByteArray->Rx (List ByteArray)
 |0,_,a=>.error a
 |n+1,acc,a=>if isT V [41] a=true then .ok (acc,a)else
   if acc.length > 0 then(ul V [44]).bind (fun _=>(q9 V).bind fun x=>abt n (acc++[x])) a
   else(q9 V).bind (fun x=>abt n (acc++[x])) a
def agd:Rx (List ByteArray):=(ul V [40]).bind fun _=>(abt V N []).bind fun l=>(ul V [41]).bind fun _ a=>.ok (l,a)
def amb:Nat->List ByteArray->List ByteArray->Rx (List ByteArray × List ByteArray)
 |0,_,_,a=>.error a
 |n+1,ls,xs,a=>(q9 V).bind (fun l=>(ul V [58]).bind fun _=>(q9 V).bind fun x b=>
   if isT V [44] b=true then(ul V [44]).bind (fun _=>amb n (ls++[l]) (xs++[x])) b else .ok ((ls++[l],xs++[x]),b)) a
def opT:Nat->InsD->Rx InsD
 |1,x|2,x=>(yl V).bind fun n a=>.ok ({ x with k:=n },a)
 |3,x=>fun a=>.ok (x,a)
 |4,x=>(q9 V).bind fun s a=>.ok ({ x with f:=s },a)
 |5,x|8,x=>(q9 V).bind fun s a=>.ok ({ x with a:=s },a)
 |6,x=>(ul V [91]).bind fun _=>(amb V N x.ls x.xs).bind fun p=>(ul V [93]).bind fun _ a=>.ok ({ x with ls:=p.1,xs:=p.2 },a)
 |7,x=>(q9 V).bind fun s=>(yl V).bind fun n a=>.ok ({ x with a:=s,k:=n },a)
 |9,x=>(q9 V).bind fun s=>(ul V [44]).bind fun _=>(q9 V).bind fun t a=>.ok ({ x with a:=s,b:=t },a)
 |10,x=>(q9 V).bind fun s=>(agd V N).bind fun l a=>.ok ({ x with f:=s,xs:=l },a)
 |11,x=>(q9 V).bind fun s=>(agd V N).bind fun l a=>.ok ({ x with a:=s,xs:=l },a)
 |12,x=>(q9 V).bind fun s=>(q9 V).bind fun t a=>.ok ({ x with ls:=[s,t] },a)
 |13,x=>(q9 V).bind fun s a=>.ok ({ x with ls:=[s] },a)
 |14,x=>fun a=>if(V.same a&&V.kind a==1)=true then(q9 V).bind (fun s a=>.ok ({ x with a:=s },a)) a else .ok (x,a)
 |_,_=>fun a=>.error a
def ac3:List (List UInt8 × Nat):=[([97,108,108,111,99,97],1),([109,97,108,108,111,99],2),([110,117,108,108],3),([97,100,100,114],4),([99,111,112,121],5),([108,111,97,100],8),([102,105,101,108,100],7),([112,104,105],6),([99,97,108,108],10),([105,99,97,108,108],11)]
def ac6:List (List UInt8 × Nat):=[([115,116,111,114,101],9),([99,97,108,108],10),([105,99,97,108,108],11),([98,114],12),([103,111,116,111],13),([114,101,116],14)]
def alj(l:List (List UInt8 × Nat))(s:List UInt8):Option Nat:=(l.find? fun p=>p.1==s).map (·.2)
def a7m(d:ByteArray)(l:List (List UInt8 × Nat)):Rx InsD:=fun b=>match alj l (V.text b)with
 |none=>if d.data.toList=[]then .error (b+1)else .error b
 |some o=>if V.kind b=1 then opT V N o { aha with op:=o,d:=d } (b+1)else .error b
def agh:Rx InsD:=fun a=>
 if aqh V [61] a=true then(if V.same (a+2)=true then a7m V N (bOf (V.text a)) ac3 (a+2)else .error (a+2))
 else a7m V N ⟨#[]⟩ ac6 a
def addI(bs:List BlkD)(x:InsD):List BlkD:=bs.dropLast++(bs.getLast?.toList.map fun b=>{ b with code:=b.code++[x] })
def apz(nm:ByteArray)(ps:List ByteArray):Nat->List BlkD->Rx FunD
 |0,_,a=>.error a
 |n+1,bs,a=>
   if ap0 V a=true then .error a
   else if(V.kind a==3&&V.text a==[125])=true then(if ap0 V (a+1)=true then .error (a+1)else .ok (⟨nm,ps,bs⟩,a+1))
   else if aqh V [58] a=true then apz nm ps n (bs++[⟨bOf (V.text a),[]⟩]) (a+2)
   else if(V.kind a != 1||bs.length==0)=true then(if V.kind a=1 then .error (a+1)else .error a)
   else(agh V N).bind (fun x=>apz nm ps n (addI bs x)) a
def a5j:Rx FunD:=fun a=>(q9 V).bind (fun nm=>(agd V N).bind fun ps=>(ul V [123]).bind fun _=>apz V N nm ps N []) (a+1)
def a7j:Nat->List FunD->Rx (List FunD)
 |0,_,a=>.error a
 |n+1,fs,a=>if V.kind a=4 then .ok (fs,a)else
   if(V.kind a != 1||V.text a != [102,117,110,99])=true then .error a
   else(a5j V N).bind (fun f=>a7j n (fs++[f])) a
end
def bg8(ts:List Tok.T):Except Nat (List FunD):=match a7j (Vw.of ts) (ts.length+1) (ts.length+1) [] 0 with
 |.error e=>.error e
 |.ok (fs,_)=>.ok fs
end Go.Proofs.YtbocmenkkjbigaaDoor
namespace Go.AM
def am0:=bm1 @bbw (bm1 @bby (bm1 @bgk (bm1 @bgh (bm1 @a6c (bm1 @bbz (bm1 @bbx (bm1 @bgi (bm1 @asq (bm1 @a1p (bm1 @a1o (bm1 @azf (bm1 @azg (bm1 @a9v (bm1 @a9u (bm1 @a9w (bm1 @a3j (bm1 @a3k (bm1 @a02 (bm1 @a2i (bm1 @ath (bm1 @yj (bm1 @um (bm1 @qy (bm1 @ll (bm1 @azh (bm1 @ave (bm1 @asv (bm1 @a3i (bm1 @a8v (bm1 @a2p (bm1 @a2q (bm1 @gy (bm1 @nk (bm1 @bgy (bm1 @bgx (bm1 @evE_t (bm1 @bgf (bm1 @bbn (@az5)))))))))))))))))))))))))))))))))))))))
def am1:=bm1 @az4 (bm1 @awj (bm1 @bgg (bm1 @bbv (bm1 @bbu (bm1 @bge (bm1 @bbs (bm1 @bbr (bm1 @a5z (bm1 @a0x (bm1 @a0w (bm1 @ar0 (bm1 @ao2 (bm1 @ao1 (bm1 @auj (bm1 @arz (bm1 @ary (bm1 @a0u (bm1 @axl (bm1 @axk (bm1 @a0v (bm1 @axn (bm1 @axm (bm1 @aui (bm1 @a5y (bm1 @bj6 (bm1 @bbt (bm1 @a0y (bm1 @ar1 (bm1 @a5x (bm1 @axo (bm1 @bbq (bm1 @bbp (bm1 @a6a (bm1 @bbo (bm1 @a0t (bm1 @a5w (bm1 @ai2 (bm1 @acl (@bg2)))))))))))))))))))))))))))))))))))))))
def am2:=bm1 @afd (bm1 @aru (bm1 @auc (bm1 @a5g (bm1 @ba9 (bm1 @a2x (bm1 @a9f (bm1 @a0j (bm1 @a4r (bm1 @au8 (bm1 @a1a (bm1 @not_false_eq_true (bm1 @zi (bm1 @qo (bm1 @afm (bm1 @ru (bm1 @ic (bm1 @zt (bm1 @aah (bm1 @og (bm1 @Int.natCast_nonneg (bm1 @Bool.cond_true_left (bm1 @Bool.cond_false_right (bm1 @Bool.cond_false_left (bm1 @Bool.cond_true_right (bm1 @bbf (bm1 @bat (bm1 @af1 (bm1 @ass (bm1 @asr (bm1 @azk (bm1 @a1n (bm1 @a8q (bm1 @a8p (bm1 @a2k (bm1 @a8s (bm1 @a8r (bm1 @a8t (bm1 @a2m (@a5t)))))))))))))))))))))))))))))))))))))))
def am3:=bm1 @a0s (bm1 @axi (bm1 @a98 (bm1 @aze (bm1 @a1i (bm1 @a2n (bm1 @a9d (bm1 @a9e (bm1 @a2o (bm1 @a3n (bm1 @ev_t (bm1 @ev_c (bm1 @beq_true (bm1 @beq_false (bm1 @bje (bm1 @bjc (bm1 @a92 (bm1 @ati (bm1 @awp (bm1 @a3p (bm1 @awo (bm1 @a90 (bm1 @op_un (bm1 @bew (bm1 @a3s (bm1 @atj (bm1 @a9z (bm1 @a0b (bm1 @bev (bm1 @beu (bm1 @a3q (bm1 @bes (bm1 @a97 (bm1 @bjd (bm1 @anp (bm1 @a9y (bm1 @bet (bm1 @a3t (bm1 @bex (@a95)))))))))))))))))))))))))))))))))))))))
def am4:=bm1 @a96 (bm1 @a0c (bm1 @a0e (bm1 @bg0 (bm1 @bgz (bm1 @a5u (bm1 @az3 (bm1 @az2 (bm1 @Bool.bne_false (bm1 @Bool.bne_true (bm1 @bid (bm1 @bhz (bm1 @bh6 (bm1 @bib (bm1 @bh5 (bm1 @bh7 (bm1 @bh8 (bm1 @bh9 (bm1 @bia (bm1 @bic (bm1 @xb_or (bm1 @bhy (bm1 @a1f (bm1 @bh4 (bm1 @bh3 (bm1 @bh2 (bm1 @bh0 (bm1 @bhl (bm1 @bhj (bm1 @bhk (bm1 @bhm (bm1 @xq_b (bm1 @xn_pn (bm1 @xn_pr (bm1 @xn_pp (bm1 @xn_sn (bm1 @xn_ss (bm1 @xn_sp (bm1 @xn_se (@xn_mn)))))))))))))))))))))))))))))))))))))))
def am5:=bm1 @xn_mm (bm1 @xn_fn (bm1 @xn_ff (bm1 @xn_fy (bm1 @xg (bm1 @bhh (bm1 @bhi (bm1 @bhx (bm1 @xc_id (bm1 @bhs (bm1 @bdt (bm1 @xk_fn (bm1 @bhr (bm1 @bcv (bm1 @bdu (bm1 @bhv (bm1 @alh (bm1 @bhu (bm1 @bht (bm1 @bhw (bm1 @bhn (bm1 @bhp (bm1 @bhq (bm1 @bho (bm1 @xl_sl (bm1 @bds (bm1 @aav (bm1 @bdr (bm1 @xm (bm1 @ax3 (bm1 @ax2 (bm1 @aj (bm1 @l9 (bm1 @and_true (bm1 @aie (bm1 @ng (bm1 @ab1 (bm1 @o7 (bm1 @a8g (@a6x)))))))))))))))))))))))))))))))))))))))
def am6:=bm1 @bcf (bm1 @aza (bm1 @azb (bm1 @ay9 (bm1 @a1e (bm1 @akv (bm1 @axq (bm1 @axr (bm1 @ayg (bm1 @bdq (bm1 @a94 (bm1 @Int.sub_zero (bm1 @Int.le_refl (bm1 @ah5 (bm1 @bim (bm1 @a5h (bm1 @bab (bm1 @kw (bm1 @bjl (bm1 @bkd (bm1 @be6 (bm1 @be3 (bm1 @baa (bm1 @a99 (bm1 @be4 (bm1 @bjf (bm1 @be5 (bm1 @be7 (bm1 @bjh (bm1 @bji (bm1 @a6t (bm1 @bgm (bm1 @bcc (bm1 @a6r (bm1 @a6q (bm1 @a6s (bm1 @bcd (bm1 @a5r (bm1 @azl (@au9)))))))))))))))))))))))))))))))))))))))
def am7:=bm1 @asx (bm1 @asw (bm1 @a15 (bm1 @azj (@yh))))
def al0:=@Bool.cond_self
def al1:=@gp
def al2:=@iq
def al3:=@iy
def al4:=@mh
def al5:=@ne_eq
def al6:=@ky
def al7:=@jf
def al8:=@abw
def al9:=@aey
def al10:=@apu
def al11:=@bj9
def al12:=@di
def al13:=@yo
def al14:=@bg
def al15:=@pq
def al16:=@ab2
def al17:=@lg
def al18:=@bne_self_eq_false
def al19:=@zh
def al20:=@wu
def al21:=@dx
def al22:=@dh
def al23:=@az
def al24:=@fq
def al25:=@List.take_nil
def al26:=@oq
def al27:=@bn
def al28:=@d9
def al29:=@ab0
def al30:=@ji
def al31:=@jr
def al32:=@fe
def al33:=@List.set_cons_zero
def al34:=@List.set_cons_succ
def hT(R K O m kp os)(items:List RI)(h:aaw R K O=some (m,apo items os,os):=by kernel_rfl)(hk:ag7 items=kp:=by kernel_rfl):∀(fr:List V) (H:Heap),yc (aaw R K O) K fr H=yc (some (m,kp,os)) K fr H:=fun fr H=>by rw[<- hk];exact a7x h fr H
def hO(R P T KC K lit)(e:R=P++T:=by exact rfl)(e2:P=lit:=by exact rfl)(h:aup KC T K=true:=by kernel_rfl):∀(call:o8) (it:zn) (base:Nat) (f:List V) (H:Heap),evC call it base (.region R [] K) f H=ahk call it base (.region T [] K) (a0a [] P KC (mg call base lit f H)):=fun call it base f H=>by
 subst e;subst e2
 exact(as2 call it base P T (kc:=KC) h f H).trans (by rw[akg])
def hS(R ka oa K){P T}(e:R=P++T:=by exact rfl)(h:aup ka T K=true:=by kernel_rfl):∀(call:o8) (it:zn) (base:Nat) (f:List V) (H:Heap),evC call it base (.region R [] K) f H=bg6 call it base T K H (yc (aaw P ka oa) ka f H) (agb call it base R K f H):=fun call it base f H=>by
 subst e;exact awf call it base P T h f H
def hU(R ka oa K m kp os)(items:List RI){P T}(e:R=P++T:=by exact rfl)(h:aup ka T K=true:=by kernel_rfl)(h2:aaw P ka oa=some (m,apo items os,os):=by kernel_rfl)(hk:ag7 items=kp:=by kernel_rfl):(∀(fr:List V) (H:Heap),yc (aaw P ka oa) ka fr H=yc (some (m,kp,os)) ka fr H)/\∀(call:o8) (it:zn) (base:Nat) (f:List V) (H:Heap),evC call it base (.region R [] K) f H=bg6 call it base T K H (yc (aaw P ka oa) ka f H) (agb call it base R K f H):=⟨hT P ka oa m kp os items h2 hk,hS R ka oa K e h⟩
def hL(R K O):∀(call:o8) (it:zn) (base:Nat) (f:List V) (H:Heap),evC call it base (.region R [] K) f H=bly H (yc (aaw R K O) K f H) (agb call it base R K f H):=fun call it base f H=>a8m call it base R f H
def hV(R K O m kp os)(items:List RI)(h:aaw R K O=some (m,apo items os,os):=by kernel_rfl)(hk:ag7 items=kp:=by kernel_rfl):(∀(fr:List V) (H:Heap),yc (aaw R K O) K fr H=yc (some (m,kp,os)) K fr H)/\∀(call:o8) (it:zn) (base:Nat) (f:List V) (H:Heap),evC call it base (.region R [] K) f H=bly H (yc (aaw R K O) K f H) (agb call it base R K f H):=⟨hT R K O m kp os items h hk,hL R K O⟩
def hX(R K){a}(e:R=[a]:=by exact rfl):∀(call:o8) (it:zn) (base:Nat) (f:List V) (H:Heap),evC call it base (.region R [] K) f H=a0a [] R K (mg call base [a] f H):=fun call it base f H=>by
 subst e;exact akg call it base [a] K f H
def hE(c b)(e:c=b:=by exact rfl):∀(call:o8) (it:zn) (base:Nat) (fr:List V) (H:Heap),evC call it base c fr H=evC call it base b fr H:=fun _ _ _ _ _=>by rw[e]
def hP(R KC K){T a}(e:R=a::T:=by exact rfl)(h:aup KC T K=true:=by kernel_rfl):∀(call:o8) (it:zn) (base:Nat) (f:List V) (H:Heap),evC call it base (.region R [] K) f H=ahk call it base (.region T [] K) (a0a [] [a] KC (mg call base [a] f H)):=hO R [a] T KC K [a] e rfl h
abbrev q(d:Nat)(o:AOp):AOper:=⟨some d,o,none⟩
abbrev qg(d:Nat)(o:AOp)(n:Nat)(b:Bool):AOper:=⟨some d,o,some (n,b)⟩
abbrev LO:=List AOper
abbrev oL(d n:Nat):AOper:=⟨some d,.load false 1 (.t n),none⟩
abbrev gL(d n g:Nat)(b:Bool):AOper:=⟨some d,.load false 1 (.t n),some (g,b)⟩
abbrev oF(d k n:Nat):AOper:=⟨some d,.fieldAddr k (.t n),none⟩
abbrev gF(d k n g:Nat)(b:Bool):AOper:=⟨some d,.fieldAddr k (.t n),some (g,b)⟩
abbrev oM(d n:Nat):AOper:=⟨some d,.move (.t n),none⟩
abbrev gM(d n g:Nat)(b:Bool):AOper:=⟨some d,.move (.t n),some (g,b)⟩
abbrev eL(x:E):E:=.op (.load false 1 (.t 0)) [x]
abbrev eF(k:Nat)(x:E):E:=.op (.fieldAddr k (.t 0)) [x]
def sb(l:List Nat):RI:=.sub 0 l []
def hQ(l:List Nat)(n:Nat)(h:l.contains n=true:=by kernel_rfl):l.contains n=true:=h
def hK(l:List Nat)(n:Nat)(h:l.contains n=false:=by kernel_rfl):l.contains n=false:=h
abbrev bml(n:Int):Opd:=.c (.s (.int .i64 n))
abbrev bmm(n:Int):Opd:=.c (.s (.int .u8 n))
abbrev bmn:Opd:=.c (.s (.bool true))
abbrev bmo:Opd:=.c (.s (.bool false))
abbrev bmp(a:Array UInt8):Opd:=.c (.s (.string ⟨a⟩))
abbrev bmq:Opd:=.c (.s (.slice none 0 0))
abbrev bmr:V:=.s (.string ⟨#[]⟩)
abbrev bms:V:=.s (.slice none 0 0)
abbrev bmt:V:=.s (.int .u8 0)
abbrev bmu:V:=.s (.int .i64 0)
abbrev bmw:V:=.s (.bool false)
abbrev bmx(o:AOp):AOper:=⟨none,o,none⟩
abbrev bmy(n a b:Nat):AOper:=⟨none,.store n (.t a) (.t b),none⟩
abbrev bmz(d f:Nat)(l:List Opd):AOper:=⟨some d,.call (.c (.fn f [] [])) l,none⟩
abbrev bm2(d:Nat)(o:Opd):AOper:=⟨some d,.move o,none⟩
abbrev bm3(d n:Nat):AOper:=⟨some d,.nilCheck (.t n),none⟩
abbrev bm4(d s a b:Nat):AOper:=⟨some d,.indexAddr s (.t a) (.t b),none⟩
abbrev bm5(d a k:Nat):AOper:=⟨some d,.extract (.t a) k,none⟩
abbrev bm6(d:Nat)(a b c:Opd):AOper:=⟨some d,.pick a b c,none⟩
abbrev bm7(n:Nat):Opd:=.t n
abbrev bm8(n:Int):E:=.c (.s (.int .i64 n))
abbrev bm9(n:Int):E:=.c (.s (.int .u8 n))
abbrev bna:E:=.c (.s (.bool true))
abbrev bnb:E:=.c (.s (.bool false))
abbrev bnc(a:Array UInt8):E:=.c (.s (.string ⟨a⟩))
abbrev bnf(n:Int)(x:E):E:=.op (.bin .add (.t 0) (.c (.s (.int .i64 n)))) [x,.c (.s (.int .i64 n))]
abbrev bng(x:E):E:=.op (.nilCheck (.t 0)) [x]
abbrev bnh(k:Nat)(x:E):E:=.op (.extract (.t 0) k) [x]
abbrev bni(n:Int)(x:E):E:=.op (.bin .eql (.t 0) (.c (.s (.int .u8 n)))) [x,.c (.s (.int .u8 n))]
abbrev bnj(s:Nat)(x y:E):E:=.op (.indexAddr s (.t 0) (.t 1)) [x,y]
abbrev bnk(s:Nat)(n:Int)(x:E):E:=.op (.indexAddr s (.t 0) (.c (.s (.int .i64 n)))) [x,.c (.s (.int .i64 n))]
abbrev bnl(x:E):E:=.op (.lenS .s (.t 0)) [x]
abbrev bnm(n:Nat)(x:E):E:=.op (.load true n (.t 0)) [x]
abbrev bnn(x:E):E:=.op (.un .not (.t 0)) [x]
abbrev bno(o:BinOp)(x y:E):E:=.op (.bin o (.t 0) (.t 1)) [x,y]
abbrev bnp(o:BinOp)(n:Int)(x:E):E:=.op (.bin o (.t 0) (.c (.s (.int .u8 n)))) [x,.c (.s (.int .u8 n))]
abbrev bnq(o:BinOp)(n:Int)(x:E):E:=.op (.bin o (.t 0) (.c (.s (.int .i64 n)))) [x,.c (.s (.int .i64 n))]
abbrev bnr:List Nat:=[8,62,63,64,65,66,67,68,69,70,71,72,73,74,75,76]
abbrev bns:List Nat:=[10,85,86,87,88,89,90,91,92,93,94,95]
abbrev bnt:List Nat:=[0,7,8,9,10,11,12,13,14,15,16,17,18,19,20,21,22,23,24,25,26,27,28,29,30]
abbrev bnu:List Nat:=[25,26,27,28,29,30,31,32,33,34,35,36,37,38,39]
abbrev bnv:List Nat:=[6,7,8,9,10,11,12,13,14,15,16,17,18,19,20,21,22,23,24,25,26,27,28,29,30,31]
abbrev bnw:List Nat:=[0,3,4,5,6,7,8,9,10,11,12]
abbrev bnx:List Nat:=[4,5]
abbrev bny:List Nat:=[11,14,15,16,17,18]
abbrev bnz:List Nat:=[9,10,11,12,13,14,15,16,17,18,19,20]
abbrev bn0:List Nat:=[0,1,5,21,22,23,24,25,26,27,28,29,30,31,32,33,34,35,36,37,38,39]
abbrev bn1:List Nat:=[1,5,6,7,8,9,10,11,12,13]
abbrev bn2:List Nat:=[0,1,5,6,7,8,9,10,11,12,13,14,15,16,17,18,19]
abbrev bn3:List Nat:=[0,3,4,5,6,7,8,9,10,11,12,13,14,15,16,17,18,19,20,21,22,23,24,25,26,27]
abbrev bn4:List Nat:=[0,1,9,10,11,12,13]
abbrev bn5:List Nat:=[0,1,7,8,9,10,11]
abbrev bn6:List Nat:=[0,8,9,10,11,12,13]
abbrev bn7:List Nat:=[13,14,15,16,17]
abbrev bn8:List Nat:=[4,61,64,65,66,67,68,69,70,71]
abbrev bn9:List Nat:=[4,9,10,11,12,13]
abbrev boa:List Nat:=[4,9,29,30,31,32,33,34,35,36]
abbrev bob:List Nat:=[6,43,51,52,53,54,55,56,57]
abbrev boc:List Nat:=[1,2,3,4,5,6,7,8]
abbrev bod:List Nat:=[1,2,3,4,5,6,7,8,9,10,11,12]
abbrev boe:List Nat:=[25,28,29,30,31,32,33,34,35,36,37]
abbrev bof:List Nat:=[38,39,40,41,42,43,44,45,46,47,48,49,50,51,52,53,54,55,56,57,58]
abbrev bog:List Nat:=[64,67,68,69,70,71,72,73,74,75,76]
abbrev boh:List Nat:=[95,98,99,100,101,102,103,104,105,106,107]
abbrev boi:List Nat:=[12,13,108,109,110,111,112,113,114,115,116,117,118,119,120,121,122,123,124,125,126,127,128,129,130,131,132,133,134,135,136,137,138,139,140,141,142,143,144,145,146,147,148,149,150,151,152,153,154,155,156,157,158,159,160,161,162]
abbrev boj:List Nat:=[2,4,5,6,7,8]
abbrev bok:List Nat:=[6,9,88,89,90,91,92,93,94,95,96,97,98,99,100,101]
abbrev bol:List Nat:=[1,2,3,4,5,6,7,8,9,10,11,12,13,14,15,16,17,18,19,20,21,22,23,24,25,26,27,28,29,30,31,32,33]
abbrev bom:List Nat:=[10,11,12,13,14,15,16]
abbrev bon:List Nat:=[23,24,25,26,27,28,29,30,31]
abbrev boo:List Nat:=[100,103,104,105,106,107,108,109,110,111]
abbrev bop:List Nat:=[112,113,114,115,116,117,118,119,120,121]
abbrev boq:List Nat:=[0,28,29,30,31,32,33]
abbrev bor:List Nat:=[9,13,14,15,16,82,83,84,85,86,87,88]
abbrev bos:List Nat:=[5,8,10,11,12,17,96,97,98,99,100,101,102,103,104,105,106]
abbrev bou:List Nat:=[123,124,125,126,127,128,129,130,131,132,133]
abbrev bov:List Nat:=[12,19,20,115,134,135,136,137,138,139]
abbrev bow:List Nat:=[14,16,82,141,142,143,144,145,146]
abbrev boy:List Nat:=[15,153,155,156,157,158,159,160]
abbrev boz:List Nat:=[205,208,209,210,211,212,213,214,215,216,217]
abbrev bo0:List Nat:=[5,8,9,10,11,21,250,251,252,253,254,255,256,257,258,259,260]
abbrev bo1:List Nat:=[5,8,10,262,263,264,265,266,267,268,269,270]
abbrev bo2:List Nat:=[5,8,10,262,271,272]
abbrev bo3:List Nat:=[61,62,63,64,65,66,67,68,69,70,71,72,73,74,75,76,77,78,79,80,81]
abbrev bo4:List Nat:=[8,82,85,86,87,88,89,90,91,92,93,94,95]
abbrev bo5:List Nat:=[99,100,101,102,103,104,105,106,107]
abbrev bo6:List Nat:=[108,123,124,125,126,127,128,129,130,131,132,133,134,135,136,137,138]
abbrev bo7:List Nat:=[0,5,6,8,9,155,156,157,158]
abbrev bo8:List Nat:=[8,9,155,159,160,161,162,163,164,165,166,167,168,169,170]
abbrev bo9:List Nat:=[8,176,177,178,179,180,181,182,183,184,185,186]
abbrev bpa:List Nat:=[0,5,6,8,23,24,25,171]
abbrev bpb:List Nat:=[0,6,18,187,188,189,190,191,192,193,194]
abbrev bpc:List Nat:=[16,17,18,19,20,21,22]
abbrev bpd:List Nat:=[0,23,24,25,26,27,28]
abbrev bpe:List Nat:=[3,4,5,6,7,8,29,30,31,32,33,34,35,36,37,38,39,40,41,42,43,44]
def ai{a b:Prop}(h:a)(k:b):a/\b:=⟨h,k⟩
def aa:=ai @bey (ai @amY (ai @bjb (ai @bl.eq_1 (ai @i64.eq_1 (ai @splice.eq_1 (ai @acu.eq_1 (ai @acu.eq_2 (ai @am0 (ai @am1 (ai @am2 (ai @am3 (ai @am4 (ai @am5 (ai @am6 (ai @am7 (ai @al0.{1} (ai @al1.{0} (ai @al2.{0} (ai @al3.{0} (ai @al4.{0,0} (ai @al5.{1} (ai @al6.{1} (ai @al7.{1} (ai @al8.{0} (ai @al9.{0} (ai @al10.{1} (ai @al11.{1} (ai @al12.{0} (ai @al13.{0} (ai @al14.{0} (ai @al15.{0,0} (ai @al16.{0,0} (ai @al17.{0} (ai @al18.{0} (ai @al19.{0} (ai @al20.{0} (ai @al21.{0} (ai @al22.{0} (ai @al23.{0} (ai @al24.{0} (ai @al25.{0} (ai @al26.{0} (ai @al27.{0} (ai @al28.{0} (ai @al29.{0,0} (ai @al30.{0} (ai @al31.{0} (ai @al32.{0} (ai @al33.{0} (@al34.{0}))))))))))))))))))))))))))))))))))))))))))))))))))
open Go.RowKit
abbrev aco:=TypeId × V × Heap
abbrev ay7:=V->List V->Nat->Heap->aco->Prop
def aok(call:o8)(base:Nat):Nat->List AOper->List V->Heap->Option (V × List V × Heap)
 |_,[],_,_=>none
 |0,o::_,fr,H=>match want o fr with
   |some true=>match o.op with
     |.call f xs=>some (ev fr f,xs.map (ev fr),H)
     |_=>none
   |_=>none
 |n+1,o::os,fr,H=>match want o fr with
   |none=>none
   |some false=>aok call base n os (put o.dst und fr) H
   |some true=>match l8 call base fr H o.op with
     |some (v,H')=>aok call base n os (put o.dst v fr) H'
     |none=>none
def abl(u:V):o8:=fun _ _ _ H=>some (u,H)
abbrev aev:=List AOper->List V->Prop
def bkm(call:o8)(pan:ay7)(base:Nat)(C:aev)(ops:List AOper)(chk:List (Nat × Nat))(fr:List V)(H:Heap)(r:aco):Prop:=
 C ops fr/\(∃i v args H1,aok call base i ops fr H=some (v,args,H1)/\pan v args base H1 r)/\
 ∃u fr' H',mg (abl u) base ops fr H=some (fr',H')/\chk.all (zm (abl u) base ops fr H fr')=true
inductive PanL (b:List V->Heap->Option St) (x:List V->Heap->aco->Prop) (kill:List Nat) (m:Nat):List V->Heap->aco->Prop
 |here {fr:List V} {H:Heap} {r:aco} (h:x fr H r):PanL b x kill m fr H r
 |next {fr fr':List V} {H H':Heap} {r:aco} (h:b fr H=some (.nrm,fr',H')) (k:PanL b x kill m (ut kill fr') (trim m (ut kill fr') H') r):PanL b x kill m fr H r
def ads(call:o8)(pan:ay7)(it:zn)(base:Nat)(C:aev):ACode->List V->Heap->aco->Prop
 |.region ops chk _,fr,H,r=>bkm call pan base C ops chk fr H r
 |.seq a b,fr,H,r=>ads call pan it base C a fr H r\/∃fr1 H1,evC call it base a fr H=some (.nrm,fr1,H1)/\ads call pan it base C b fr1 H1 r
 |.cond c a b,fr,H,r=>(ev fr c=.s (.bool true)/\ads call pan it base C a fr H r)\/(ev fr c=.s (.bool false)/\ads call pan it base C b fr H r)
 |.block _ c,fr,H,r=>ads call pan it base C c fr H r
 |.loop kill c,fr,H,r=>PanL (fun fr H=>evC call it base c fr H) (fun fr H r=>ads call pan it base C c fr H r) kill H.length (ut kill fr) H r
 |_,_,_,_=>False
def ah1(o:Oper):Bool:=
 match o.op with
 |.call { callee:=.value _,.. }=>true
 |_=>false
def awq(ops:Array Oper):Bool:=(List.range ops.size).all fun i=>(List.range ops.size).all fun j=>!(ah1 (ops.getD i default)&&ah1 (ops.getD j default))||i==j
def arb:Code->Bool
 |.region _ ops draw=>!draw||awq ops
 |.seq a b=>arb a&&arb b
 |.cond _ a b=>arb a&&arb b
 |.block _ c=>arb c
 |.loop c=>arb c
 |.rangeFunc _ _ a b=>arb a&&arb b
 |_=>true
def blv(ops:Array Oper):Prop:=∀(i j:Nat) (o o':Oper),ops[i]?=some o->ops[j]?=some o'->ah1 o=true->ah1 o'=true->i=j
def a3u{ops}(h:awq ops=true):blv ops:=by
 intro i j o o' hi hj h1 h2;unfold awq at h;have li:=(bmv.1 hi).1;have lj:=(bmv.1 hj).1
 have:=bq.1 (bq.1 h i (by simpa using li)) j (by simpa using lj)
 have e1:ops.getD i default=o:=by rw[ahi,hi];rfl
 have e2:ops.getD j default=o':=by rw[ahi,hj];rfl
 rw[e1,e2,h1,h2]at this
 simpa using this
def blv.perm{ops π}(hp:PermOk π ops)(h:blv ops):blv (x8 π ops):=by
 intro i j o o' hi hj h1 h2
 have get:∀(i:Nat) (o:Oper),(x8 π ops)[i]?=some o->∃k o0,π[i]?=some k/\ops[k]?=some o0/\o=af5 π o0:=fun i o hi=>by
  have li:i<π.length:=by rw[<- aga (ops:=ops)];exact(bmv.1 hi).1
  have hk:π[i]?=some π[i]:=af li;have hl:=hp.lt _ (xu li);have ho:ops[π[i]]?=some ops[π[i]]:=ko hl;have:=adg hk ho;rw[hi]at this;exact⟨_,_,hk,ho,jk this⟩
 obtain⟨k,o0,k1,k2,rfl⟩:=get i o hi;obtain⟨k',o0',k1',k2',rfl⟩:=get j o' hj;have:=h k k' o0 o0' k2 k2' h1 h2;subst this;have e1:=aq7 hp.nd k1;have e2:=aq7 hp.nd k1';omega
section
variable {CC:CX} {μ μ':Mu} {Mt Mt':Nat->Prop} {w w':World} {H H':Heap} {P:Program} {pure':PX} {call:o8} {pan:ay7}
def bhd(CC:CX)(μ:Mu)(Mt:Nat->Prop)(w:World)(H:Heap)(r:aco)(ch:List PanicEntry)(w':World):Prop:=
 ∃c μ' Mt',ch=[{ v:=.iface r.1 c,recovered:=false }]/\VR μ' Mt' w' r.2.1 c/\Post CC μ Mt w H μ' Mt' w' r.2.2
def bg3(l:List AOper)(fr frx:List V):Prop:=∀s,(∀o∈l,o.dst≠some s)->frx.getD s .unk=fr.getD s .unk
def a7n(CC:CX)(C:aev)(μ:Mu)(Mt:Nat->Prop)(w:World)(H:Heap)(ds:List Deferred)(r:aco)(ch:List PanicEntry)(a':Act)(w':World):Prop:=
 ∃c μ' Mt' l fr frx,ch=[{ v:=.iface r.1 c,recovered:=false }]/\VR μ' Mt' w' r.2.1 c/\Post CC μ Mt w H μ' Mt' w' r.2.2/\Marks w.heap.size μ' w' a'.defers ds/\C l fr/\bg3 l fr frx/\FR μ' Mt' w' frx a'.tmps
def axx(CC:CX)(μ:Mu)(Mt:Nat->Prop)(w:World)(H:Heap)(r:aco)(ch:List PanicEntry)(l:List AOper)(fr:List V)(a':Act)(w':World):Prop:=
 ∃c μ' Mt' frx,ch=[{ v:=.iface r.1 c,recovered:=false }]/\VR μ' Mt' w' r.2.1 c/\Post CC μ Mt w H μ' Mt' w' r.2.2/\bg3 l fr frx/\FR μ' Mt' w' frx a'.tmps
structure SimPan (P:Program) (CC:CX) (pan:ay7):Prop where
 fn:∀(f:Nat) (fst cap args:List V) (base:Nat) (H:Heap) (r:aco),pan (.fn f fst cap) args base H r->
  (∀xs w,(callFunc f xs).run P w=.ok (.enter f xs) w)/\
  ∀(μ:Mu) (Mt:Nat->Prop) (w:World) (cs:List Value),HR CC μ Mt w H->VRs μ Mt w (fst++args++cap) cs->∀n,CallsIn Fence.wide n P f cs.toArray w (fun e w'=>∃ch,e=.panicked ch/\bhd CC μ Mt w H r ch w')
 only:∀v args base H r,pan v args base H r->∃f fst cap,v=.fn f fst cap
 floor:∀v args base H r,pan v args base H r->Floor base H r.2.2
def a7n.trans{C:aev}{μ1}{Mt1:Nat->Prop}{w1 H1 ds ds1}{r:aco}{ch a'}(hp:Post CC μ Mt w H μ1 Mt1 w1 H1)(hm:Marks w.heap.size μ1 w1 ds1 ds)(h:a7n CC C μ1 Mt1 w1 H1 ds1 r ch a' w'):a7n CC C μ Mt w H ds r ch a' w':=by
 obtain⟨c,μ2,Mt2,l,fr,frx,e,v,p,m,x⟩:=h;exact⟨c,μ2,Mt2,l,fr,frx,e,v,hp.trans p,hm.trans p hp.tr.size m,x⟩
def axx.trans{μ1}{Mt1:Nat->Prop}{w1 H1}{r:aco}{ch l fr a'}(hp:Post CC μ Mt w H μ1 Mt1 w1 H1)(h:axx CC μ1 Mt1 w1 H1 r ch l fr a' w'):axx CC μ Mt w H r ch l fr a' w':=by
 obtain⟨c,μ2,Mt2,frx,e,v,p,x⟩:=h;exact⟨c,μ2,Mt2,frx,e,v,hp.trans p,x⟩
def axx.e{C:aev}{r:aco}{ch l fr a'}(hc:C l fr)(h:axx CC μ Mt w H r ch l fr a' w'):a7n CC C μ Mt w H a'.defers r ch a' w':=by
 obtain⟨c,μ2,Mt2,frx,e,v,p,k,f⟩:=h;exact⟨c,μ2,Mt2,l,fr,frx,e,v,p,Marks.refl _ _ _ _,hc,k,f⟩
def bhd.g(h0:HR CC μ Mt w H){r:aco}{ch l fr frx a'}(h:bhd CC μ Mt w H r ch w')(hk:bg3 l fr frx)(hf:FR μ Mt w frx a'.tmps):axx CC μ Mt w H r ch l fr a' w':=by
 obtain⟨c,μ2,Mt2,e,v,p⟩:=h;exact⟨c,μ2,Mt2,frx,e,v,p,hk,hf.post h0 p⟩
def ayf(hx:SimPan P CC pan)(h:HR CC μ Mt w H){a fr}(hf:FR μ Mt w fr a.tmps){o f xs}(hc:axy P pure' o (.call f xs)){base}{r:aco}(hp:pan (ev fr f) (xs.map (ev fr)) base H r){ro n}{next:Act->World->Prop}{Q:Exit->Act->World->Prop}(hQ:∀ch w',bhd CC μ Mt w H r ch w'->Q (.panic ch) a w'):o.wpIn (Fw ro) n P a w next Q:=by
 rcases hc with hc|⟨f',xs',hc,e⟩|⟨k,xs',hc,e⟩|⟨_,_,_,_,hc,e⟩|e
 case inr.inl=>cases e
 case inr.inr.inl=>cases e
 case inr.inr.inr.inl=>cases e
 case inr.inr.inr.inr=>cases e
 rcases wo hc with⟨g,args,ats,xs',y,ho,hxs,hy,⟨k,_,e⟩|e⟩|⟨_,hnc,_⟩
 .cases e
 .cases e;refine⟨fun _ _=>trivial,?_⟩
  rw[Oper.semAt_eq _ _ _ (by simp[ho])]
  have hexec:execOp a.eval o=(do let d <- resolve a.eval { callee:=.value g,args,argTypes:=ats } o.type;invoke d.target d.args):=by
   unfold execOp;rw[ho]
  rw[hexec];obtain⟨k,x,z,ek⟩:=hx.only _ _ _ _ _ hp;have hv:=ni hf hy;rw[ek]at hv hp;generalize hfc:a.eval g=fc at hv;cases hv with
  |fn _ _ _ fst' cap' h1 h2 h3 h4=>
    obtain⟨hent,hcall⟩:=hx.fn k x z _ base H r hp;have ha:=akn hf hxs
    have hvs:VRs μ Mt w (x++xs.map (ev fr)++z) (fst'++args.map a.eval++cap').toList:=by
     have hx':VRs μ Mt w x fst'.toList:=⟨by simpa using h1,fun i p q hp hq=>h3 i p q hp (by simpa using hq)⟩
     have hy':VRs μ Mt w z cap'.toList:=⟨by simpa using h2,fun i p q hp hq=>h4 i p q hp (by simpa using hq)⟩
     simpa using(hx'.append ha).append hy'
    have hrun:(do let d <- resolve a.eval { callee:=.value g,args,argTypes:=ats } o.type;invoke d.target d.args:Sem Next).run P w=.ok (.enter k (fst'++args.map a.eval++cap')) w:=by
     simp only[resolve,hfc,Deferred.ofValue,Sem.run_bind,Sem.run_pure,bm0,invoke,hent]
    rw[hrun];have hc:=hcall μ Mt w _ h hvs (n-1);simp only[xh]at hc
    refine⟨fun h=>by simp[Fw]at h,hc.mono ?_⟩
    rintro e w1 ⟨ch,rfl,hq⟩;exact hQ ch w1 hq
 .simp[AOp.isCall]at hnc
def atg{base}:∀(l:List AOper) (i:Nat) {fr:List V} {H:Heap} {v:V} {args:List V} {H1:Heap},aok call base i l fr H=some (v,args,H1)->
 ∃o f xs fr1,l[i]?=some o/\o.op=.call f xs/\mg call base (l.take i) fr H=some (fr1,H1)/\want o fr1=some true/\v=ev fr1 f/\args=xs.map (ev fr1):=by
 intro l
 induction l with
 |nil=>intro i fr H v args H1 h;cases i<;>cases h
 |cons o l ih=>
   intro i fr H v args H1 h;cases i with
   |zero=>
     simp only[aok]at h;split at h
     .rename_i hw;split at h
      .rename_i f xs ho;cases h;exact⟨o,f,xs,fr,rfl,ho,rfl,hw,rfl,rfl⟩
      .cases h
     .cases h
   |succ i=>
     simp only[aok]at h;split at h
     .cases h
     .rename_i hw;obtain⟨o',f,xs,fr1,h1,h2,h3,h4⟩:=ih i h
      refine⟨o',f,xs,fr1,by simpa using h1,h2,?_,h4⟩
      simp only[az,mg,hw];exact h3
     .rename_i hw;split at h
      .rename_i u H2 he;obtain⟨o',f,xs,fr1,h1,h2,h3,h4⟩:=ih i h
       refine⟨o',f,xs,fr1,by simpa using h1,h2,?_,h4⟩
       simp only[az,mg,hw,he];exact h3
      .cases h
def agr{d v fr s}(h:d≠some s):(put d v fr).getD s .unk=fr.getD s .unk:=by
 by_cases hs:s<fr.length
 .rw[ags _ _ _ _ hs,fu h]
 .have h1:(put d v fr)[s]?=none:=jw (by rw[ab5];omega)
  have h2:fr[s]?=none:=jw (by omega)
  simp[List.getD,h1,h2]
def axx.put{r:aco}{ch l fr a' o v}(ho:o∈l)(h:axx CC μ Mt w H r ch l (Go.AM.put o.dst v fr) a' w'):axx CC μ Mt w H r ch l fr a' w':=by
 obtain⟨c,μ2,Mt2,frx,e,u,p,k,f⟩:=h;exact⟨c,μ2,Mt2,frx,e,u,p,fun s hs=>(k s hs).trans (agr (hs o ho)),f⟩
def a2r(hs:SimCall P CC call)[BtOk CC P](hx:SimPan P CC pan){ops l}(hr:auz P pure' ops l){base ro n}{Q:Exit->Act->World->Prop}{v args H1}{r:aco}:
 ∀(i k:Nat) (fr:List V) (H:Heap) (a:Act) (w:World) (μ:Mu) (Mt:Nat->Prop),HR CC μ Mt w H->FR μ Mt w fr a.tmps->aok call base i (l.drop k) fr H=some (v,args,H1)->pan v args base H1 r->
   (∀ch a' w',a'.defers=a.defers->axx CC μ Mt w H r ch l fr a' w'->Q (.panic ch) a' w')->wpOpsIn (Fw ro) n P ops Q ((List.range ops.size).drop k) a w:=by
 intro i
 induction i with
 |zero=>
   intro k fr H a w μ Mt h hf hev hp hQ
   have hlt:k<l.length:=by
    refine aji fun hc=>?_
    rw[uy (by omega)]at hev
    cases hev
   have hlo:k<ops.size:=by rw[<- hr.1];exact hlt
   have e1:(List.range ops.size).drop k=k::(List.range ops.size).drop (k+1):=by
    rw[ed (by simpa using hlo)];simp
   rw[e1];rw[ed hlt]at hev;have ho:ops[k]?=some ops[k]:=ko hlo;obtain⟨hd,hc,hg⟩:=hr.2 k ops[k] l[k] ho (af hlt);rw[wpOpsIn_cons];unfold wpOpIn;simp only[ho];simp only[aok]at hev;split at hev
   .rename_i hw;rw[aa5 hg hf hw];simp only[jf];split at hev
    .rename_i f xs hop;cases hev;rw[hop]at hc;exact ayf hx h hf hc hp fun ch w' hq=>hQ ch a w' rfl (hq.g h (fun _ _=>rfl) hf)
    .cases hev
   .cases hev
 |succ i ih=>
   intro k fr H a w μ Mt h hf hev hp hQ
   have hlt:k<l.length:=by
    refine aji fun hc=>?_
    rw[uy (by omega)]at hev
    cases hev
   have hlo:k<ops.size:=by rw[<- hr.1];exact hlt
   have e1:(List.range ops.size).drop k=k::(List.range ops.size).drop (k+1):=by
    rw[ed (by simpa using hlo)];simp
   rw[e1];rw[ed hlt]at hev;have ho:ops[k]?=some ops[k]:=ko hlo;obtain⟨hd,hc,hg⟩:=hr.2 k ops[k] l[k] ho (af hlt);rw[wpOpsIn_cons];unfold wpOpIn;simp only[ho];simp only[aok]at hev;split at hev
   .cases hev
   .rename_i hw;rw[aa5 hg hf hw];simp only[ic,ky];refine⟨fun _ _=>trivial,?_⟩;refine ih (k+1) _ H _ w μ Mt h (hd▸hf.put _ (.s _)) hev hp (fun ch a' w' hd' hq=>hQ ch a' w' ?_ (axx.put (xu hlt) hq));rw[hd',put_defers]
   .rename_i hw;rw[aa5 hg hf hw];simp only[jf];split at hev
    .rename_i u H2 hop;refine aed hs h hf hc hop ?_;rintro q w1 ⟨c,μ1,Mt1,e,hv,hpp⟩;cases e;refine ih (k+1) _ H2 _ w1 μ1 Mt1 hpp.hr (hd▸(hf.post h hpp).put _ hv) hev hp (fun ch a' w' hd' hq=>hQ ch a' w' ?_ ((axx.put (xu hlt) hq).trans hpp));rw[hd',put_defers]
    .cases hev
def an9{c c':o8}{base fr H op}(h:op.isCall=false):l8 c base fr H op=l8 c' base fr H op:=by
 cases op<;>first|rfl|(simp[AOp.isCall]at h;done)
def aur(u):∀v args base H r H',abl u v args base H=some (r,H')->H.length<=H'.length/\∀id,id<base->id<H.length->H'[id]?=H[id]?:=by
 intro v args base H r H' h;cases h;exact⟨aj _,fun _ _ _=>rfl⟩
def apv{o ao}(h:axy P pure' o ao)(hc:ao.isCall=true):ah1 o=true:=by
 have key:∀ao',aa1 P pure' o=some ao'->ao'.isCall=true->ah1 o=true:=fun ao' h2 hc2=>by
  rcases wo h2 with⟨g,args,ats,xs',y,ho,_⟩|⟨_,hnc,_⟩
  .unfold ah1;rw[ho]
  .rw[hnc]at hc2;cases hc2
 rcases h with h|⟨f',xs',h,e⟩|⟨k,xs',h,e⟩|⟨_,_,_,_,h,e⟩|e
 .exact key _ h hc
 .exact key _ h rfl
 .exact key _ h rfl
 .rw[e]at hc;cases hc
 .rw[e]at hc;cases hc
def ax6(hs:SimCall P CC call)[BtOk CC P](hx:SimPan P CC pan){ops l chk}(hr:auz P pure' ops l)(hd:ag6 (Region.before ops).toList chk l=true/\afs ops=true)(hone:blv ops){base ro n}{Q:Exit->Act->World->Prop}{fr H}{r:aco}{C:aev}(hev:bkm call pan base C l chk fr H r){a w μ}{Mt:Nat->Prop}(h:HR CC μ Mt w H)(hf:FR μ Mt w fr a.tmps)(hQ:∀ch a' w',a'.defers=a.defers->axx CC μ Mt w H r ch l fr a' w'->Q (.panic ch) a' w'):wpAnyIn (Fw ro) n P .any ops Q ops.size (Array.replicate ops.size false) a { w with drawn:=w.drawn+1 }:=by
 obtain⟨_,⟨i,v,args,H1,hX,hp⟩,u,frE,HE,hE,hchk⟩:=hev;obtain⟨o,f,xs,fr1,h1,h2,h3,h4,rfl,rfl⟩:=atg l i hX;have hil:i<l.length:=(bmk.1 h1).1;have hgi:l.getD i default=o:=abu h1
 have hno:∀k,k<l.length->k≠i->(l.getD k default).op.isCall=false:=by
  intro k hk hne;cases hc:(l.getD k default).op.isCall with
  |false=>rfl
  |true=>
    exfalso
    have hk':k<ops.size:=by rw[<- hr.1];exact hk
    have hi':i<ops.size:=by rw[<- hr.1];exact hil
    have gk:l[k]?=some (l.getD k default):=by rw[af hk,abu (af hk)]
    have ck:=(hr.2 k ops[k] _ (ko hk') gk).2.1;have ci:=(hr.2 i ops[i] _ (ko hi') h1).2.1
    exact hne (hone k i _ _ (ko hk') (ko hi') (apv ck hc) (apv ci (by rw[h2];rfl)))
 have hoA:adj (Region.before ops).toList chk l=true:=by
  cases e:adj (Region.before ops).toList chk l with
  |true=>rfl
  |false=>
    exfalso;have h5:=hd.1;unfold ag6 at h5;rw[e,qo,au]at h5;have h6:=h5.2;unfold agu at h6;simp only[au,bq]at h6;have h7:=h6.1.2 o (ik h1);rw[h2]at h7;simp[a0i,AOp.cls,AOp.isCall,AOp.isNew,AOp.isSt,AOp.isCR]at h7
 obtain⟨F,G,val,a1,a2,a3,a4,a5⟩:=an5 _ _ _ _ _ hE;have R:Row P pure' (abl u) base ops l chk fr frE H HE F G val:=⟨hr,hoA,hd.2,a1,a2,a3,a4,a5,hchk,aur u⟩
 have pre:∀k,k<=i->mg call base (l.take k) fr H=some (F k,G k):=by
  intro k
  induction k with
  |zero=>intro _;rw[fq,a1,a2];rfl
  |succ k ih=>
    intro hk
    have hkl:k<l.length:=by omega
    have hg:l[k]?=some (l.getD k default):=by rw[af hkl,abu (af hkl)]
    rw[ale,hg,agi,ih (by omega)]
    obtain⟨t1,t2⟩:=a5 k _ hg;simp only[aje,mg]
    rcases t2 with⟨hw,hv,hG⟩|⟨hw,hop⟩
    .rw[hw,t1,hv,hG]
    .rw[hw];simp only
     rw[an9 (c':=abl u) (hno k hkl (by omega)),hop,t1]
 have hpi:=pre i (aj _);rw[h3]at hpi;cases hpi
 have hM:(l.getD i default).op.isM=true:=by rw[hgi,h2];rfl
 have hrep:∀k,(Array.replicate ops.size false).getD k false=false:=by
  intro k;by_cases hk:k<ops.size<;>simp[hk]
 have p1:Post CC μ Mt w H μ Mt { w with drawn:=w.drawn+1 } H:=ait h rfl rfl rfl rfl
 refine ax7 R h (some i) (fun j e=>by cases e;exact hil) (fun k ok hok hkl hne hc frX μ1 Mt1 w1 a1' p vv K next hh hff he hn=>?_) (fun j oj e hoj hc=>?_) ops.size _ a _ μ Mt 0 (by simp[hr.1]) ?_ ?_ (fun j _=>hrep j) (jo _) (fun k hk=>by omega) (fun k _ _ _=>hrep k) (by rw[a2];exact p1) ?_ rfl (fun e=>by cases e)
 .have hnc:=hno k hkl (fun e=>hne (by rw[e]))
  rw[an9 (c':=call) hnc]at he;exact aed hs hh hff hc he hn
 .cases e
  refine⟨hM,by rw[hgi];exact h4,fun frX μ1 Mt1 w1 a1' next hpp hff hrd hkp hds=>?_⟩
  rw[hgi,h2]at hc
  have hev':ev frX f=ev (F i) f/\xs.map (ev frX)=xs.map (ev (F i)):=by
   have hop:∀x∈(AOp.call f xs).opds,ev frX x=ev (F i) x:=fun x hx=>af6 (o:=o) (by rw[h2];exact hx) (by rw[<- hgi];exact hrd)
   exact⟨hop f jh,uk fun x hx=>hop x (il _ hx)⟩
  refine ayf hx hpp.hr hff hc (by rw[hev'.1,hev'.2];exact hp) fun ch w' hq=>hQ ch a1' w' hds ((hq.g hpp.hr (fun s hs=>hkp s fun k hk=>?_) hff).trans hpp)
  have gk:l[k]?=some (l.getD k default):=by rw[af hk,abu (af hk)]
  exact hs _ (ik gk)
 .unfold za;refine qa ap4 ?_;simp[hr.1]
 .intro j hj
  exact absurd ((hrep j).symm.trans hj) (by simp)
 .have:(SF (xx l) val fr l.length fun k=>(Array.replicate ops.size false).getD k false)=fr:=by
   refine ad6 vg fun s hs=>?_;rw[vg]at hs;rw[acw,dw hs,ad5 (i:=0) l.length fun k _ _=>?_]
   .simp[lw]
   .rw[hrep k];simp
  rw[this];exact hf.post h p1
def bkl(P:Program)(CC:CX)(C:aev)(ro:Option Nat)(n:Nat)(c:Code)(X:List V->Heap->aco->Prop):Prop:=
 ∀(fr:List V) (H:Heap) (r:aco),X fr H r->∀(μ:Mu) (Mt:Nat->Prop) (w:World) (a:Act) (Q:Exit->Act->World->Prop),HR CC μ Mt w H->FR μ Mt w fr a.tmps->(∀l,ro=some l->∃r,w.heap[l]?=some (.loop r))->
   (∀ch a' w',a7n CC C μ Mt w H a.defers r ch a' w'->Q (.panic ch) a' w')->c.wpIn (Fw ro) n P Q a w
def a4d{C:aev}{ro n c}{b:List V->Heap->Option St}{x:List V->Heap->aco->Prop}(hb:bl3 P CC ro n c b)(hxx:bkl P CC C ro n c x)(kill m){fr H}{r:aco}(hl:PanL b x kill m fr H r):
 ∀(μ:Mu) (Mt:Nat->Prop) (w:World) (a:Act) (Q:Exit->Act->World->Prop) (μ0:Mu) (Mt0:Nat->Prop) (w0:World) (H0:Heap) (ds:List Deferred),HR CC μ0 Mt0 w0 H0->H0.length<=m->m<=H.length->
   Post CC μ0 Mt0 w0 H0 μ Mt w H->Marks w0.heap.size μ w a.defers ds->FR μ Mt w fr a.tmps->(∀l,ro=some l->∃r,w.heap[l]?=some (.loop r))->
   (∀ch a' w',a7n CC C μ0 Mt0 w0 H0 ds r ch a' w'->Q (.panic ch) a' w')->∃k,Code.roundsIn (Fw ro) n P c Q k a w:=by
 induction hl with
 |here h=>
   intro μ Mt w a Q μ0 Mt0 w0 H0 ds h0 hm0 hm hp hmk hf hro hQ;refine⟨1,?_⟩;rw[roundsIn_succ];refine hxx _ _ _ h μ Mt w a _ hp.hr hf hro fun ch a' w' hq=>hQ ch a' w' (a7n.trans hp hmk hq)
 |next h k ih=>
   rename_i fr1 fr2 H1 H2 r1;intro μ Mt w a Q μ0 Mt0 w0 H0 ds h0 hm0 hm hp hmk hf hro hQ;have key:∀(l:List V) (K:Heap) (q:aco),PanL b x kill m l K q->∃N,∀(μ:Mu) (Mt:Nat->Prop) (w:World) (a:Act) (Q:Exit->Act->World->Prop) (μ0:Mu) (Mt0:Nat->Prop) (w0:World) (H0:Heap) (ds:List Deferred),HR CC μ0 Mt0 w0 H0->H0.length<=m->m<=K.length->
    Post CC μ0 Mt0 w0 H0 μ Mt w K->Marks w0.heap.size μ w a.defers ds->FR μ Mt w l a.tmps->(∀l,ro=some l->∃r,w.heap[l]?=some (.loop r))->
    (∀ch a' w',a7n CC C μ0 Mt0 w0 H0 ds q ch a' w'->Q (.panic ch) a' w')->Code.roundsIn (Fw ro) n P c Q N a w:=by
    intro l K q hq
    induction hq with
    |here h=>
      refine⟨1,fun μ Mt w a Q μ0 Mt0 w0 H0 ds h0 hm0 hm hp hmk hf hro hQ=>?_⟩;rw[roundsIn_succ];exact hxx _ _ _ h μ Mt w a _ hp.hr hf hro fun ch a' w' hq=>hQ ch a' w' (a7n.trans hp hmk hq)
    |next h k ih=>
      obtain⟨N,hN⟩:=ih;refine⟨N+1,fun μ Mt w a Q μ0 Mt0 w0 H0 ds h0 hm0 hm hp hmk hf hro hQ=>?_⟩;rw[roundsIn_succ];refine hb _ _ .nrm _ _ h μ Mt w a _ hp.hr hf hro ?_;rintro a1 w1 ⟨μ1,Mt1,p1,f1,m1⟩;have hpp:=hp.trans p1;obtain⟨μ2,p2,f2,s2,l2⟩:=aig hpp h0.dom hm0 (qa hm p1.len) (f1.kill kill);have mk2:=(hmk.trans p1 hp.tr.size m1).sub s2;refine hN μ2 Mt1 w1 a1 Q μ0 Mt0 w0 H0 ds h0 hm0 l2 p2 mk2 f2 (fun l hl=>?_) hQ;obtain⟨r,hr⟩:=hro l hl;exact p1.tr.loops l r hr
   obtain⟨N,hN⟩:=key _ _ _ (.next h k)
   exact⟨N,hN μ Mt w a Q μ0 Mt0 w0 H0 ds h0 hm0 hm hp hmk hf hro hQ⟩
def ayc(hs:SimCall P (CR P pure') call)(hx:SimPan P (CR P pure') pan)(hmix:P.follows .mixedOrders=true)(nn base){C:aev}{c ac}(hc:CodeR P pure' c ac)(hone:arb c=true):
 ∀(ro:Option Nat) (n:Nat),bkl P (CR P pure') C ro n c (ads call pan (fun b k m=>x9 b k m nn) base C ac):=by
 induction hc with
 |skip=>intro ro n fr H r h;exact h.elim
 |label l=>intro ro n fr H r h;exact h.elim
 |exit id=>intro ro n fr H r h;exact h.elim
 |ret=>intro ro n fr H r h;exact h.elim
 |regionE=>intro ro n fr H r h;exact h.elim
 |regionPE=>intro ro n fr H r h;exact h.elim
 |rangeFunc=>intro ro n fr H r h;exact h.elim
 |region id ops draw l chk kill hr hd=>
   intro ro n fr H r hev μ Mt w a Q h hf hro hQ;have hev:bkm call pan base C l chk fr H r:=hev
   have hq:∀ch a' w',a'.defers=a.defers->axx (CR P pure') μ Mt w H r ch l fr a' w'->Q (.panic ch) a' w':=fun ch a' w' hd' hq=>hQ ch a' w' (by rw[<- hd'];exact hq.e (C:=C) hev.1)
   cases draw with
   |false=>
     obtain⟨_,⟨i,v,args,H1,hX,hp⟩,_⟩:=hev;refine wpIn_region ?_
     have:=a2r (Q:=Q) (ro:=ro) (n:=n) hs hx hr i 0 fr H a w μ Mt h hf (by simpa using hX) hp hq
     simpa using this
   |true=>exact wpIn_region_any hmix (ax6 hs hx hr (hd rfl) (a3u (by simpa[arb]using hone)) hev h hf hq)
 |regionP id ops π l chk kill hp hr hd=>
   intro ro n fr H r hev μ Mt w a Q h hf hro hQ
   have hq:∀ch a' w',a'.defers=a.defers->axx (CR P pure') μ Mt w H r ch l fr a' w'->Q (.panic ch) a' w':=fun ch a' w' hd' hq=>hQ ch a' w' (by rw[<- hd'];exact hq.e (C:=C) hev.1)
   exact wpIn_region_any hmix (adc hp (ax6 hs hx hr hd ((a3u (by simpa[arb]using hone)).perm (ata hp)) hev h hf hq))
 |seq x y ax ay hcx _ ihx ihy=>
   intro ro n fr H r hev μ Mt w a Q h hf hro hQ;simp only[arb,au]at hone;refine wpIn_seq ?_
   rcases hev with hev|⟨fr1,H1,h1,h2⟩
   .exact ihx hone.1 ro n _ _ _ hev μ Mt w a _ h hf hro fun ch a' w' hq=>hQ ch a' w' hq
   .refine aku hs hmix nn base hcx ro n _ _ _ _ _ h1 μ Mt w a _ h hf hro ?_;rintro a1 w1 ⟨μ1,Mt1,p1,f1,m1⟩;refine ihy hone.2 ro n _ _ _ h2 μ1 Mt1 w1 a1 Q p1.hr f1 (fun l hl=>?_) (fun ch a2 w2 hq=>hQ ch a2 w2 (a7n.trans p1 m1 hq));obtain⟨q,hq⟩:=hro l hl;exact p1.tr.loops l q hq
 |cond c o x y ax ay hco _ _ ihx ihy=>
   intro ro n fr H r hev μ Mt w a Q h hf hro hQ;simp only[arb,au]at hone;have hv:=ni hf hco
   rcases hev with⟨he,hev⟩|⟨he,hev⟩
   .rw[he]at hv;exact wpIn_cond_true (aa6 hv) (ihx hone.1 ro n _ _ _ hev μ Mt w a Q h hf hro hQ)
   .rw[he]at hv;exact wpIn_cond_false (aa6 hv) (ihy hone.2 ro n _ _ _ hev μ Mt w a Q h hf hro hQ)
 |block id c x _ ih=>
   intro ro n fr H r hev μ Mt w a Q h hf hro hQ;refine wpIn_block ?_;exact ih hone ro n _ _ _ hev μ Mt w a _ h hf hro fun ch a' w' hq=>hQ ch a' w' hq
 |loop c kill x hcx ih=>
   intro ro n fr H r hev μ Mt w a Q h hf hro hQ;obtain⟨k,hk⟩:=a4d (aku hs hmix nn base hcx ro n) (ih hone ro n) kill H.length hev μ Mt w a Q μ Mt w H a.defers h (aj _) (aj _) (Post.refl h) (Marks.refl _ _ _ _) (hf.kill kill) hro hQ;exact wpIn_loop_rounds k hk
def az9{base}(hfl:∀v args base H r H',call v args base H=some (r,H')->H.length<=H'.length/\∀id,id<base->id<H.length->H'[id]?=H[id]?){i l fr H v args H1}(h:aok call base i l fr H=some (v,args,H1)):Floor base H H1:=by
 obtain⟨o,f,xs,fr1,_,_,h3,_⟩:=atg l i h;exact ah3 hfl _ h3
def apd(hfl:∀v args base H r H',call v args base H=some (r,H')->H.length<=H'.length/\∀id,id<base->id<H.length->H'[id]?=H[id]?)(hpf:∀v args base H r,pan v args base H r->Floor base H r.2.2)(nn base){C:aev}:∀(ac:ACode) {fr:List V} {H:Heap} {r:aco},ads call pan (fun b k m=>x9 b k m nn) base C ac fr H r->Floor base H r.2.2:=by
 intro ac
 induction ac with
 |region ops chk kill=>
   intro fr H r he;obtain⟨_,⟨i,v,args,H1,h1,h2⟩,_⟩:=he;exact(az9 hfl h1).trans (hpf _ _ _ _ _ h2)
 |seq a b iha ihb=>
   intro fr H r he
   rcases he with he|⟨fr1,H1,h1,h2⟩
   .exact iha he
   .exact(zz hfl nn a h1).trans (ihb h2)
 |cond o a b iha ihb=>
   intro fr H r he
   rcases he with⟨_,h2⟩|⟨_,h2⟩
   .exact iha h2
   .exact ihb h2
 |block id a ih=>intro fr H r he;exact ih (fr:=fr) he
 |loop kill a ih=>
   intro fr H r he;have he:PanL (fun fr H=>evC call (fun b k m=>x9 b k m nn) base a fr H) (fun fr H r=>ads call pan (fun b k m=>x9 b k m nn) base C a fr H r) kill H.length (ut kill fr) H r:=he
   suffices h:∀(m:Nat) fr K r,PanL (fun fr H=>evC call (fun b k m=>x9 b k m nn) base a fr H) (fun fr H r=>ads call pan (fun b k m=>x9 b k m nn) base C a fr H r) kill m fr K r->m<=K.length->m<=r.2.2.length/\∀id,id<base->id<m->r.2.2[id]?=K[id]? by
    obtain⟨h1,h2⟩:=h _ _ _ _ he (aj _);exact⟨h1,h2⟩
   intro m fr K r hl
   induction hl with
   |here h=>
     intro hm;have f:=ih h;exact⟨qa hm f.1,fun id h1 h2=>f.2 id h1 (kv h2 hm)⟩
   |next h _ ih2=>
     intro hm;have f:=zz hfl nn a h;rename_i fr1 fr' K1 K' r1 _;obtain⟨t1,t2⟩:=aih (fr:=ut kill fr') (qa hm f.1);obtain⟨r1,r2⟩:=ih2 t1;exact⟨r1,fun id h1 h2=>(r2 id h1 h2).trans ((t2 id h2).trans (f.2 id h1 (kv h2 hm)))⟩
 |_=>intro fr H r he;exact he.elim
end
open Go.RowKit
def a7k(CP:Nat->Option CFun)(PP:Nat->List V->Nat->Heap->aco->Prop)(X:Nat->Bool):Nat->ay7
 |0=>fun _ _ _ _ _=>False
 |n+1=>fun v args base H r=>∃f fst cap,v=.fn f fst cap/\
    ((X f=true/\∃c,CP f=some (.code c)/\ads (aao CP n) (a7k CP PP X n) (fun b k m=>x9 b k m n) base (fun _ _=>True) c.body (fst++args++cap++List.replicate (c.ntmps-(fst++args++cap).length) und) H r)\/PP f (fst++args++cap) base H r)
section
variable {CC:CX} {μ μ':Mu} {Mt Mt':Nat->Prop} {w w':World} {H H':Heap} {P:Program} {pure':PX}
def arh{μ0}{Mt0:Nat->Prop}{w0 H0}{fn:Func}{tmps x c}{R:Ending->World->Prop}{n ch}(hfin:∀w',Post CC μ0 Mt0 w0 H0 μ Mt w' H->VR μ Mt w' x c->R (.panicked ch) w'):
 ∀(L:List Nat) (w:World),Post CC μ0 Mt0 w0 H0 μ Mt w H->VR μ Mt w x c->L.Nodup->(∀D∈L,w0.heap.size<=D/\w.heap[D]?=some (.deferred (some []))/\∀id g b,μ id g≠some (D,b))->
   LeavesInM Fence.wide n P fn tmps R (L.map ayj) (.panicking ch) w:=by
 intro L
 induction L with
 |nil=>intro w hp hf _ _;exact hfin w hp hf
 |cons D L ih=>
   intro w hp hf hnd hL;obtain⟨h1,h2,h3⟩:=hL D jh
   refine⟨by simp,.inl ⟨D,_,rfl,run_takeDeferred h2,?_⟩⟩
   obtain⟨p1,hv⟩:=anm (y:=none) hp h1 h2 h3;refine ih _ p1 (hv hf) (ad8.1 hnd).2 (fun E hE=>?_);obtain⟨k1,k2,k3⟩:=hL E (il _ hE)
   have hne:E≠D:=fun e=>by subst e;exact(ad8.1 hnd).1 hE
   exact⟨k1,(World.putObj_heap_other hne).trans k2,k3⟩
def bg1(P:Program)(pure':PX)(PP:Nat->List V->Nat->Heap->aco->Prop):Prop:=
 ∀k vs base H r,PP k vs base H r->Floor base H r.2.2/\(∀xs w,(callFunc k xs).run P w=.ok (.enter k xs) w)/\
   ∀μ Mt w cs,HR (CR P pure') μ Mt w H->VRs μ Mt w vs cs->∀n,CallsIn Fence.wide n P k cs.toArray w (fun e w'=>∃ch,e=.panicked ch/\bhd (CR P pure') μ Mt w H r ch w')
variable {CP:Nat->Option CFun} {PP:Nat->List V->Nat->Heap->aco->Prop} {X:Nat->Bool}
def a9r(hmix:P.follows .mixedOrders=true)(hCP:∀k c,CP k=some c->adu P pure' k c)(hone:∀k fn body,X k=true->P.funcs[k]?=some fn->fn.body=some body->arb body=true)(hPP:bg1 P pure' PP):∀n,SimPan P (CR P pure') (a7k CP PP X n):=by
 intro n
 induction n with
 |zero=>exact⟨fun _ _ _ _ _ _ _ h=>h.elim,fun _ _ _ _ _ h=>h.elim,fun _ _ _ _ _ h=>h.elim⟩
 |succ n ih=>
   refine⟨fun f fst cap args base H r h=>?_,fun v args base H r h=>by obtain⟨f,fst,cap,e,_⟩:=h;exact⟨f,fst,cap,e⟩,fun v args base H r h=>by
    obtain⟨f,fst,cap,e,⟨_,c,_,hpan⟩|hpan⟩:=h
    .exact apd (adn hmix hCP n).floor ih.floor n base c.body hpan
    .exact(hPP _ _ _ _ _ hpan).1⟩
   obtain⟨f',fst',cap',e,h⟩:=h;cases e
   rcases h with⟨hX,c,hc,hpan⟩|h
   .obtain⟨fn,body,h1,h2,h3,h4,h5,h6⟩:=hCP f _ hc;refine⟨Go.Proofs.enters_of h1 h3 h2,fun μ Mt w cs hh hvs m=>?_⟩;refine callsIn_of_wp_marks h1 h2 trivial ?_
    have hf0:FR μ Mt w (fst++args++cap++List.replicate (c.ntmps-(fst++args++cap).length) und) (cs.toArray++Array.replicate (fn.ntmps-cs.toArray.size) Go.undef):=by
     unfold FR;have:=hvs.append (acj (μ:=μ) (Mt:=Mt) (w:=w) (c.ntmps-(fst++args++cap).length));simp only[ahg,aew,ug,h5];rw[hvs.1]at this |-;exact this
    refine ayc (adn hmix hCP n) ih hmix n base h4 (hone _ _ _ hX h1 h2) none m _ H r hpan μ Mt w { tmps:=cs.toArray++Array.replicate (fn.ntmps-cs.toArray.size) Go.undef,defers:=[] } _ hh hf0 (fun l hl=>by cases hl) ?_
    rintro ch a' w' ⟨cv,μ1,Mt1,_,_,_,e1,v1,p1,⟨L,hL,hnd,hLs⟩,_⟩;show LeavesInM Fence.wide m P fn a'.tmps _ a'.defers (.panicking ch) w';rw[hL,yo];exact arh (μ:=μ1) (Mt:=Mt1) (x:=r.2.1) (c:=cv) (fun w2 p2 v2=>⟨ch,rfl,cv,μ1,Mt1,e1,v2,p2⟩) L w' p1 v1 hnd hLs
   .exact(hPP f _ base H r h).2
end
section
variable {CP:Nat->Option CFun} {PP:Nat->List V->Nat->Heap->aco->Prop} {X:Nat->Bool}
def PLe(p p':ay7):Prop:=∀v args base H r,p v args base H r->p' v args base H r
def awm{c c':o8}(h:Le c c'){base}:∀(i:Nat) (l:List AOper) {fr:List V} {H:Heap} {r:V × List V × Heap},aok c base i l fr H=some r->aok c' base i l fr H=some r:=by
 intro i
 induction i with
 |zero=>intro l fr H r he;cases l<;>exact he
 |succ i ih=>
   intro l fr H r he;cases l with
   |nil=>exact he
   |cons o l=>
     simp only[aok]at he |-;split at he
     .cases he
     .exact ih l he
     .split at he
      .rename_i v H1 h1;rw[arw h h1];exact ih l he
      .cases he
def bd8{C:aev}{c c':o8}{p p':ay7}(h:Le c c')(k:PLe p p'){base ops chk fr H}{r:aco}(he:bkm c p base C ops chk fr H r):bkm c' p' base C ops chk fr H r:=by
 obtain⟨h0,⟨i,v,args,H1,h1,h2⟩,h3⟩:=he;exact⟨h0,⟨i,v,args,H1,awm h i ops h1,k _ _ _ _ _ h2⟩,h3⟩
def a3g{b b':List V->Heap->Option St}{x x':List V->Heap->aco->Prop}(hb:∀fr H r,b fr H=some r->b' fr H=some r)(hx:∀fr H r,x fr H r->x' fr H r){kill m fr H}{r:aco}(h:PanL b x kill m fr H r):PanL b' x' kill m fr H r:=by
 induction h with
 |here h=>exact .here (hx _ _ _ h)
 |next h _ ih=>exact .next (hb _ _ _ h) ih
def ara{C:aev}{c c':o8}{p p':ay7}(h:Le c c')(k:PLe p p'){n n'}(hn:n<=n'){base}:∀(ac:ACode) {fr:List V} {H:Heap} {r:aco},ads c p (itN n) base C ac fr H r->ads c' p' (itN n') base C ac fr H r:=by
 intro ac
 induction ac with
 |region ops chk kill=>intro fr H r he;exact bd8 h k he
 |seq a b iha ihb=>
   intro fr H r he
   rcases he with he|⟨fr1,H1,h1,h2⟩
   .exact .inl (iha he)
   .exact .inr ⟨fr1,H1,ala h hn a h1,ihb h2⟩
 |cond o a b iha ihb=>
   intro fr H r he
   rcases he with⟨h1,h2⟩|⟨h1,h2⟩
   .exact .inl ⟨h1,iha h2⟩
   .exact .inr ⟨h1,ihb h2⟩
 |block id a ih=>intro fr H r he;exact ih (fr:=fr) he
 |loop kill a ih=>intro fr H r he;exact a3g (fun fr H r e=>ala h hn a e) (fun fr H r e=>ih e) he
 |_=>intro fr H r he;exact he.elim
def a3f:∀n,PLe (a7k CP PP X n) (a7k CP PP X (n+1)):=by
 intro n
 induction n with
 |zero=>intro v args base H r h;exact h.elim
 |succ n ih=>
   intro v args base H r h;obtain⟨f,fst,cap,e,h⟩:=h;refine⟨f,fst,cap,e,?_⟩
   rcases h with⟨hX,c,hc,h⟩|h
   .exact .inl ⟨hX,c,hc,ara (akw n) ih (bdn n) c.body h⟩
   .exact .inr h
def aq9{n m}(h:n<=m):PLe (a7k CP PP X n) (a7k CP PP X m):=by
 induction h with
 |refl=>exact fun _ _ _ _ _ h=>h
 |step _ ih=>exact fun v args base H r h=>a3f _ _ _ _ _ _ (ih _ _ _ _ _ h)
def ase(CP:Nat->Option CFun)(PP:Nat->List V->Nat->Heap->aco->Prop)(X:Nat->Bool):ay7:=fun v args base H r=>∃n,a7k CP PP X n v args base H r
def a3m{base}:∀(i:Nat) (l:List AOper) {fr:List V} {H:Heap} {r:V × List V × Heap},aok (gq CP) base i l fr H=some r->∃n,aok (aao CP n) base i l fr H=some r:=by
 intro i
 induction i with
 |zero=>intro l fr H r he;refine⟨0,?_⟩;cases l<;>exact he
 |succ i ih=>
   intro l fr H r he;cases l with
   |nil=>exact⟨0,he⟩
   |cons o l=>
     simp only[aok]at he;split at he
     .cases he
     .rename_i hw;obtain⟨n,hn⟩:=ih l he;refine⟨n,?_⟩;simp only[aok,hw];exact hn
     .rename_i hw;split at he
      .rename_i v H1 h1;obtain⟨n1,hn1⟩:=auh h1;obtain⟨n2,hn2⟩:=ih l he;refine⟨max n1 n2,?_⟩;simp only[aok,hw];rw[arw (aai (ve n1 n2)) hn1];exact awm (aai (pu n1 n2)) i l hn2
      .cases he
def ate{C:aev}{base}:∀(ac:ACode) {fr:List V} {H:Heap} {r:aco},ads (gq CP) (ase CP PP X) itW base C ac fr H r->∃n,ads (aao CP n) (a7k CP PP X n) (itN n) base C ac fr H r:=by
 intro ac
 induction ac with
 |region ops chk kill=>
   intro fr H r he;obtain⟨h0,⟨i,v,args,H1,h1,n2,h2⟩,h3⟩:=he;obtain⟨n1,hn1⟩:=a3m i ops h1;exact⟨max n1 n2,h0,⟨i,v,args,H1,awm (aai (ve n1 n2)) i ops hn1,aq9 (pu n1 n2) _ _ _ _ _ h2⟩,h3⟩
 |seq a b iha ihb=>
   intro fr H r he
   rcases he with he|⟨fr1,H1,h1,h2⟩
   .obtain⟨n,hn⟩:=iha he;exact⟨n,.inl hn⟩
   .obtain⟨n1,hn1⟩:=aa9 a h1;obtain⟨n2,hn2⟩:=ihb h2;exact⟨max n1 n2,.inr ⟨fr1,H1,abk (ve n1 n2) hn1,ara (aai (pu n1 n2)) (aq9 (pu n1 n2)) (pu n1 n2) b hn2⟩⟩
 |cond o a b iha ihb=>
   intro fr H r he
   rcases he with⟨h1,h2⟩|⟨h1,h2⟩
   .obtain⟨n,hn⟩:=iha h2;exact⟨n,.inl ⟨h1,hn⟩⟩
   .obtain⟨n,hn⟩:=ihb h2;exact⟨n,.inr ⟨h1,hn⟩⟩
 |block id a ih=>intro fr H r he;exact ih (fr:=fr) he
 |loop kill a ih=>
   intro fr H r he;have he:PanL (fun fr H=>evC (gq CP) itW base a fr H) (fun fr H r=>ads (gq CP) (ase CP PP X) itW base C a fr H r) kill H.length (ut kill fr) H r:=he
   suffices h:∀m fr H r,PanL (fun fr H=>evC (gq CP) itW base a fr H) (fun fr H r=>ads (gq CP) (ase CP PP X) itW base C a fr H r) kill m fr H r->∃n,PanL (fun fr H=>evC (aao CP n) (itN n) base a fr H) (fun fr H r=>ads (aao CP n) (a7k CP PP X n) (itN n) base C a fr H r) kill m fr H r from h _ _ _ _ he
   intro m fr H r he
   induction he with
   |here h=>obtain⟨n,hn⟩:=ih h;exact⟨n,.here hn⟩
   |next h _ ih2=>
     obtain⟨n1,hn1⟩:=aa9 a h;obtain⟨n2,hn2⟩:=ih2
     refine⟨max n1 n2,.next (abk (ve n1 n2) hn1) (a3g (fun fr H r e=>?_) (fun fr H r e=>?_) hn2)⟩
     .exact abk (pu n1 n2) e
     .exact ara (aai (pu n1 n2)) (aq9 (pu n1 n2)) (pu n1 n2) a e
 |_=>intro fr H r he;exact he.elim
def adh{f}{c:ACFun}(hX:X f=true)(hf:CP f=some (.code c)){fst args cap}(hl:(fst++args++cap).length<=c.ntmps){base H}{r:aco}(h:ads (gq CP) (ase CP PP X) itW base (fun _ _=>True) c.body (ja c.ntmps (uq c.ntmps (fst++args++cap) 0)) H r):ase CP PP X (.fn f fst cap) args base H r:=by
 obtain⟨n,hn⟩:=ate c.body h;refine⟨n+1,f,fst,cap,rfl,.inl ⟨hX,c,hf,?_⟩⟩;rw[start_eq hl];exact hn
def a3e{f fst args cap base H}{r:aco}(h:PP f (fst++args++cap) base H r):ase CP PP X (.fn f fst cap) args base H r:=⟨1,f,fst,cap,rfl,.inr h⟩
def jq{C:aev}{call:o8}{pan:ay7}{it:zn}{base a b fr fr1 H H1}{r:aco}(h:evC call it base a fr H=some (.nrm,fr1,H1))(k:ads call pan it base C b fr1 H1 r):ads call pan it base C (.seq a b) fr H r:=.inr ⟨_,_,h,k⟩
def qw{C:aev}{call:o8}{pan:ay7}{it:zn}{base a b fr H}{r:aco}(h:ads call pan it base C a fr H r):ads call pan it base C (.seq a b) fr H r:=.inl h
end
open Go.RowKit
section
variable {P:Program} {pure':PX} {CP:Nat->Option CFun}
def ae1{F:Fence}{n ops}{Q:Exit->Act->World->Prop}{i rest a w o}(ho:ops[i]?=some o)(hg:o.guard=none)(h:o.wpIn F n P a w (wpOpsIn F n P ops Q rest) Q):wpOpsIn F n P ops Q (i::rest) a w:=by
 rw[wpOpsIn_cons];unfold wpOpIn;simp only[ho]
 rw[dw (by simp[Region.wanted,hg])]
 exact h
def bda{μ}{Mt:Nat->Prop}{w fr t}(h:FR μ Mt w fr t):t.size=fr.length:=by
 have:=h.1
 simpa using this.symm
def art{CC:CX}{μ μ':Mu}{Mt Mt':Nat->Prop}{w w':World}{H H':Heap}{a:Act}{o:Oper}{d:Nat}{v:V}{r:Value}{fr:List V}(h:HR CC μ Mt w H)(p:Post CC μ Mt w H μ' Mt' w' H')(hf:FR μ Mt w fr a.tmps)(hd:o.dst=some d)(hv:VR μ' Mt' w' v r):FR μ' Mt' w' (put (some d) v fr) (a.put o.dst r).tmps:=by
 rw[hd];exact(hf.post h p).put (some d) hv
def bbj(hmix:P.follows .mixedOrders=true)(hCP:∀k c,CP k=some c->adu P pure' k c){k kn m id:Nat}{fn:Func}{o0 o1 o2 o3 o4:Oper}{Tf:TypeId}{z:List V}(hf : P.funcs[k]? = some fn)(hb : fn.body = some (.region id #[o0, o1, o2, o3, o4] false))(hnm : (fn.name == "runtime.NumGoroutine") = false)(hnt : fn.ntmps = 6)(c0:aa1 P pure'.b o0=some (.move (.t 0)))(d0:o0.dst=some 2)(g0:o0.guard=none)(c1:aa1 P pure'.b o1=some (.call (.c (.fn kn [] [])) [.t 2]))(d1:o1.dst=some 3)(g1:o1.guard=none)(c2:aa1 P pure'.b o2=some (.build z [(0,m)] [(0,.t 3)]))(hz:z.length=m)(d2:o2.dst=some 4)(g2:o2.guard=none)(e3:o3.op=.makeInterface Tf (.tmp 4))(d3:o3.dst=some 5)(g3:o3.guard=none)(hTf:P.concrete Tf=true)(e4:o4.op=.panic (.tmp 5))(g4:o4.guard=none):
 ∀(vs:List V) (base:Nat) (H:Heap) (r:aco),(∃v cs H1 n,vs=[v]/\aao CP n (.fn kn [] []) [v] base H=some (.agg cs,H1)/\cs.length=m/\cs.all V.one=true/\r=(Tf,.agg cs,H1))->
   Floor base H r.2.2/\(∀xs w,(callFunc k xs).run P w=.ok (.enter k xs) w)/\
   ∀μ Mt w cs,HR (CR P pure') μ Mt w H->VRs μ Mt w vs cs->∀n,CallsIn Fence.wide n P k cs.toArray w (fun e w'=>∃ch,e=.panicked ch/\bhd (CR P pure') μ Mt w H r ch w'):=by
 rintro vs base H r ⟨v,cs,H1,n,rfl,hcall,hlen,hall,rfl⟩;have hs:=adn hmix hCP n;refine⟨hs.floor _ _ _ _ _ _ hcall,Go.Proofs.enters_of hf hnm hb,fun μ Mt w cvs h hvs nn=>?_⟩
 obtain⟨cv,rfl⟩:∃cv,cvs=[cv]:=by
  have:=hvs.1
  match cvs,this with
  | [x],_=>exact⟨x,rfl⟩
 refine callsIn_of_wp_marks hf hb trivial (wpIn_region ?_);have hv0:VR μ Mt w v cv:=hvs.2 0 v cv rfl rfl;obtain⟨a0,ha0⟩:∃a0:Act,{ tmps:=[cv].toArray++Array.replicate (fn.ntmps - [cv].toArray.size) Go.undef,defers:=[] }=a0:=⟨_,rfl⟩
 have hf0:FR μ Mt w [v,und,und,und,und,und] a0.tmps:=by
  unfold FR;have:=hvs.append (acj (μ:=μ) (Mt:=Mt) (w:=w) 5);rw[<- ha0,hnt]
  simpa using this
 have hd0:a0.defers=[]:=by rw[<- ha0]
 rw[ha0];show wpOpsIn (Fw none) nn P #[o0,o1,o2,o3,o4] _ [0,1,2,3,4] a0 w;refine ae1 (o:=o0) rfl g0 (aed hs h hf0 (.inl c0) (base:=base) (v:=v) (H':=H) rfl ?_);rintro r0 w0 ⟨q0,μ0,Mt0,E0,V0,p0⟩;cases E0;have f1:FR μ0 Mt0 w0 [v,und,v,und,und,und] (a0.put o0.dst r0).tmps:=art h p0 hf0 d0 V0;obtain⟨a1,ha1⟩:∃a1,a0.put o0.dst r0=a1:=⟨_,rfl⟩;rw[ha1]at f1 |-;refine ae1 (o:=o1) rfl g1 (aed hs p0.hr f1 (.inl c1) (base:=base) (v:=.agg cs) (H':=H1) hcall ?_);rintro r1 w1 ⟨q1,μ1,Mt1,E1,V1,p1⟩;cases E1;have f2:FR μ1 Mt1 w1 [v,und,v,.agg cs,und,und] (a1.put o1.dst r1).tmps:=art p0.hr p1 f1 d1 V1;obtain⟨a2,ha2⟩:∃a2,a1.put o1.dst r1=a2:=⟨_,rfl⟩;rw[ha2]at f2 |-
 have hbd:l8 (aao CP n) base [v,und,v,.agg cs,und,und] H1 (.build z [(0,m)] [(0,.t 3)])=some (.agg cs,H1):=by
  have hsp:splice z 0 cs=cs:=by
   unfold splice
   rw[fq,di,mf (by omega),yo]
  simp only[l8,pq,ab2,acu,ev,jr,ji,zh,V.cells,hlen,hz,hall,ng,aj,l9,jf,hsp]
 refine ae1 (o:=o2) rfl g2 (aed hs p1.hr f2 (.inl c2) (base:=base) (v:=.agg cs) (H':=H1) hbd ?_);rintro r2 w2 ⟨q2,μ2,Mt2,E2,V2,p2⟩;cases E2;have f3:FR μ2 Mt2 w2 [v,und,v,.agg cs,.agg cs,und] (a2.put o2.dst r2).tmps:=art p1.hr p2 f2 d2 V2;obtain⟨a3,ha3⟩:∃a3,a2.put o2.dst r2=a3:=⟨_,rfl⟩;rw[ha3]at f3 |-
 have hd3:a3.defers=[]:=by rw[<- ha3,put_defers,<- ha2,put_defers,<- ha1,put_defers,hd0]
 refine ae1 (o:=o3) rfl g3 ⟨fun _ _=>trivial,?_⟩
 rw[Oper.semAt_eq _ _ _ (by simp[e3])]
 have hx3:∀(a:Act) (w:World),(execOp a.eval o3).run P w=.ok (.value (.iface Tf (a.eval (.tmp 4)))) w:=by
  intro a w;unfold execOp;simp only[e3,Sem.run_bind,run_makeInterface w Tf _ hTf,bm0,Sem.run_pure]
 rw[hx3];show wpOpsIn (Fw none) nn P #[o0,o1,o2,o3,o4] _ [4] (a3.put o3.dst _) w2;refine ae1 (o:=o4) rfl g4 ⟨fun _ _=>trivial,?_⟩
 rw[Oper.semAt_eq _ _ _ (by simp[e4])]
 have hx4:∀(a:Act) (w:World) (T:TypeId) (x:Value),a.eval (.tmp 5)=.iface T x->(execOp a.eval o4).run P w=.halt (.panic (.iface T x)) w:=by
  intro a w T x hx;unfold execOp;simp only[e4,hx,Sem.run_bind,run_panic_iface];rfl
 have hsz:=bda f3;simp only[bn,d9]at hsz
 rw[hx4 _ _ Tf (a3.eval (.tmp 4)) (by rw[d3];simp[Act.eval,Act.put,hsz])]
 show LeavesInM Fence.wide nn P fn _ _ (a3.put o3.dst _).defers _ w2;rw[put_defers,hd3];exact⟨_,rfl,_,μ2,Mt2,rfl,f3.getD 4,(p0.trans p1).trans p2⟩
end
open Go.RowKit
section
variable {CC:CX} {μ μ':Mu} {Mt Mt':Nat->Prop} {w w':World} {H H':Heap} {P:Program} {pure':PX} {call:o8}
def ah2:Code->Bool
 |.skip=>true
 |.label _=>true
 |.region _ _ _=>true
 |.seq a b=>ah2 a&&ah2 b
 |.cond _ a b=>ah2 a&&ah2 b
 |.ret=>true
 |.exit _=>true
 |_=>false
def asg.kill{ds fr' a'}(kill)(h:asg CC μ Mt w H ds fr' H' a' w'):asg CC μ Mt w H ds (ut kill fr') H' a' w':=by
 obtain⟨μ',Mt',h1,h2,h3⟩:=h;exact⟨μ',Mt',h1,h2.kill kill,h3⟩
def asg.trans{μ1}{Mt1:Nat->Prop}{w1 H1 ds ds1 fr' a'}(hp:Post CC μ Mt w H μ1 Mt1 w1 H1)(hd:ds1=ds)(h:asg CC μ1 Mt1 w1 H1 ds1 fr' H' a' w'):asg CC μ Mt w H ds fr' H' a' w':=by
 obtain⟨μ',Mt',h1,h2,h3⟩:=h;exact⟨μ',Mt',hp.trans h1,h2,h3.trans hd⟩
def ai5(hs:SimCall P (CR P pure') call)(hmix:P.follows .mixedOrders=true)(nn base){c ac}(hc:CodeR P pure' c ac)(hfl:ah2 c=true):
 ∀(ro:Option Nat) (n:Nat) (fr:List V) (H:Heap) (e:Ex) (fr':List V) (H':Heap),evC call (fun b k m=>x9 b k m nn) base ac fr H=some (e,fr',H')->∀(μ:Mu) (Mt:Nat->Prop) (w:World) (a:Act) (Q:Exit->Act->World->Prop),HR (CR P pure') μ Mt w H->FR μ Mt w fr a.tmps->
   (∀a' w',asg (CR P pure') μ Mt w H a.defers fr' H' a' w'->Q (bl1 e) a' w')->c.wpIn (Fw ro) n P Q a w:=by
 induction hc with
 |skip=>
   intro ro n fr H e fr' H' hev μ Mt w a Q h hf hQ;simp only[evC]at hev;cases hev;exact wpIn_skip (hQ a w ⟨μ,Mt,Post.refl h,hf,rfl⟩)
 |label l=>
   intro ro n fr H e fr' H' hev μ Mt w a Q h hf hQ;simp only[evC]at hev;cases hev;exact wpIn_label (hQ a w ⟨μ,Mt,Post.refl h,hf,rfl⟩)
 |exit id=>
   intro ro n fr H e fr' H' hev μ Mt w a Q h hf hQ;simp only[evC]at hev;cases hev;exact wpIn_exit (hQ a w ⟨μ,Mt,Post.refl h,hf,rfl⟩)
 |ret=>
   intro ro n fr H e fr' H' hev μ Mt w a Q h hf hQ;simp only[evC]at hev;cases hev;exact wpIn_ret (hQ a w ⟨μ,Mt,Post.refl h,hf,rfl⟩)
 |block=>cases hfl
 |loop=>cases hfl
 |rangeFunc=>cases hfl
 |region id ops draw l chk kill hr hd=>
   intro ro n fr H e fr' H' hev μ Mt w a Q h hf hQ;simp only[evC]at hev;split at hev
   .rename_i fr1 H1 h1;split at hev
    .rename_i hchk;cases hev;cases draw with
     |false=>
       refine wpIn_region ?_
       have:=aq4 (Q:=Q) (ro:=ro) (n:=n) hs hr ops.size 0 fr H a w μ Mt (by omega) h hf (by simpa using h1) (fun a' w' hq=>hQ a' w' (hq.kill kill))
       simpa using this
     |true=>exact wpIn_region_any hmix (anj hs hr (hd rfl) h1 hchk h hf fun a' w' hq=>hQ a' w' (hq.kill kill))
    .cases hev
   .cases hev
 |regionE id ops draw l kill outs hr hd=>
   intro ro n fr H e fr' H' hev μ Mt w a Q h hf hQ;simp only[evC]at hev;split at hev
   .rename_i f2 h2;cases hev;obtain⟨f1,h1,rfl⟩:=aeq (call:=call) (base:=base) h2;cases draw with
    |false=>
      refine wpIn_region ?_
      have:=aq4 (Q:=Q) (ro:=ro) (n:=n) hs hr ops.size 0 fr H a w μ Mt (by omega) h hf (by simpa using h1) (fun a' w' hq=>hQ a' w' (hq.kill kill))
      simpa using this
    |true=>exact wpIn_region_any hmix (anj hs hr (hd rfl) h1 rfl h hf fun a' w' hq=>hQ a' w' (hq.kill kill))
   .cases hev
 |regionP id ops π l chk kill hp hr hd=>
   intro ro n fr H e fr' H' hev μ Mt w a Q h hf hQ;simp only[evC]at hev;split at hev
   .rename_i fr1 H1 h1;split at hev
    .rename_i hchk;cases hev;exact wpIn_region_any hmix (adc hp (anj hs hr hd h1 hchk h hf fun a' w' hq=>hQ a' w' (hq.kill kill)))
    .cases hev
   .cases hev
 |regionPE id ops π l kill outs hp hr hd=>
   intro ro n fr H e fr' H' hev μ Mt w a Q h hf hQ;simp only[evC]at hev;split at hev
   .rename_i f2 h2;cases hev;obtain⟨f1,h1,rfl⟩:=aeq (call:=call) (base:=base) h2;exact wpIn_region_any hmix (adc hp (anj hs hr hd h1 rfl h hf fun a' w' hq=>hQ a' w' (hq.kill kill)))
   .cases hev
 |seq x y ax ay _ _ ihx ihy=>
   intro ro n fr H e fr' H' hev μ Mt w a Q h hf hQ;simp only[ah2,au]at hfl;simp only[evC]at hev;split at hev
   .rename_i fr1 H1 h1;refine wpIn_seq (ihx hfl.1 ro n _ _ _ _ _ h1 μ Mt w a _ h hf ?_);rintro a1 w1 ⟨μ1,Mt1,p1,f1,d1⟩;exact ihy hfl.2 ro n _ _ _ _ _ hev μ1 Mt1 w1 a1 Q p1.hr f1 fun a2 w2 hq=>hQ a2 w2 (asg.trans p1 d1 hq)
   .rename_i hne;refine wpIn_seq (ihx hfl.1 ro n _ _ _ _ _ hev μ Mt w a _ h hf ?_);intro a1 w1 h1;have:=hQ a1 w1 h1;cases e with
    |nrm=>exact(hne _ _ hev).elim
    |ext id=>exact this
    |ret=>exact this
 |cond c o x y ax ay hco _ _ ihx ihy=>
   intro ro n fr H e fr' H' hev μ Mt w a Q h hf hQ;simp only[ah2,au]at hfl;simp only[evC]at hev;have hv:=ni hf hco;split at hev
   .rename_i he;rw[he]at hv;exact wpIn_cond_true (aa6 hv) (ihx hfl.1 ro n _ _ _ _ _ hev μ Mt w a Q h hf hQ)
   .rename_i he;rw[he]at hv;exact wpIn_cond_false (aa6 hv) (ihy hfl.2 ro n _ _ _ _ _ hev μ Mt w a Q h hf hQ)
   .cases hev
def bi9[BtOk CC P](h:HR CC μ Mt w H){a:Act}{fr:List V}(hf:FR μ Mt w fr a.tmps){o:Oper}{ao:AOp}{base:Nat}{v:V}(hc:axy P pure' o ao)(hnc:ao.isCall=false)(hev:l8 call base fr H ao=some (v,H')):
 ∃cv w1,((execOp a.eval o).run P w=.ok (.value cv) w1\/((execOp a.eval o).run P w=.ok .skip w1/\cv=Go.undef))/\ar9 CC μ Mt w H v H' (.returned cv) w1:=by
 have key:∀(ao':AOp) (b:Nat),aa1 P pure' o=some ao'->ao'.isCall=false->l8 call b fr H ao'=some (v,H')->∃cv w1,((execOp a.eval o).run P w=.ok (.value cv) w1\/((execOp a.eval o).run P w=.ok .skip w1/\cv=Go.undef))/\ar9 CC μ Mt w H v H' (.returned cv) w1:=by
  intro ao' b h2 hn he
  rcases wo h2 with⟨g,args,ats,xs',y,ho,_,_,⟨k,_,e⟩|e⟩|⟨hc',hn',hnd⟩
  .rw[e]at hn;cases hn
  .rw[e]at hn;cases hn
  .obtain⟨cv,w1,μ1,Mt1,hr,hvr,hp⟩:=ann h hf hc' hn' he
   rcases hr with hr|⟨hr,rfl⟩
   .exact⟨cv,w1,.inl hr,cv,μ1,Mt1,rfl,hvr,hp⟩
   .exact⟨_,w1,.inr ⟨hr,rfl⟩,_,μ1,Mt1,rfl,hvr,hp⟩
 rcases hc with hc|⟨f',xs',hc,e⟩|⟨k,xs',hc,e⟩|⟨sz,b,s,x,hc,e⟩|e
 .exact key _ base hc hnc hev
 .rw[e]at hnc;cases hnc
 .rw[e]at hnc;cases hnc
 .subst e;exact key (.append sz b s x) H.length hc rfl hev
 .subst e;cases hev
def a9x[BtOk CC P]{ops:Array Oper}{l:List AOper}(hr:auz P pure' ops l){base n:Nat}{Q:Exit->Act->List Frame->World->Prop}{cs:List Frame}{fr':List V}{H':Heap}:
 ∀(j k:Nat) (fr:List V) (H:Heap) (a:Act) (w:World) (μ:Mu) (Mt:Nat->Prop),j+k=ops.size->(∀i,k<=i->i<l.length->(l.getD i default).op.isCall=false)->HR CC μ Mt w H->FR μ Mt w fr a.tmps->mg call base (l.drop k) fr H=some (fr',H')->
   (∀a' w',asg CC μ Mt w H a.defers fr' H' a' w'->Q .normal a' cs w')->wpOpsSIn Fence.wide n P ops Q ((List.range ops.size).drop k) a cs w:=by
 intro j
 induction j with
 |zero=>
   intro k fr H a w μ Mt hk _ h hf hev hQ
   have hk':k=ops.size:=by omega
   subst hk'
   rw[uy (by simp)]
   rw[uy (by rw[hr.1];exact aj _)]at hev
   cases hev;exact hQ a w ⟨μ,Mt,Post.refl h,hf,rfl⟩
 |succ j ih=>
   intro k fr H a w μ Mt hk hno h hf hev hQ
   have hlt:k<ops.size:=by omega
   have hltl:k<l.length:=by rw[hr.1];exact hlt
   have e1:(List.range ops.size).drop k=k::(List.range ops.size).drop (k+1):=by
    rw[ed (by simpa using hlt)];simp
   rw[e1];rw[ed hltl]at hev;have ho:ops[k]?=some ops[k]:=ko hlt;obtain⟨hd,hc,hg⟩:=hr.2 k ops[k] l[k] ho (af hltl)
   have hnk:l[k].op.isCall=false:=by
    have:=hno k (aj _) hltl
    rwa[abu (af hltl)]at this
   simp only[wpOpsSIn,ho];refine⟨fun _ _=>trivial,?_⟩;simp only[mg]at hev;split at hev
   .cases hev
   .rename_i hw;rw[aa5 hg hf hw];simp only[ic,ky]
    refine ih (k+1) _ H _ w μ Mt (by omega) (fun i h1 h2=>hno i (by omega) h2) h (hd▸hf.put _ (.s _)) hev (fun a' w' hq=>hQ a' w' ?_)
    rw[put_defers]at hq;exact hq
   .rename_i hw;rw[aa5 hg hf hw];simp only[jf];split at hev
    .rename_i v H1 hop;obtain⟨cv,w1,hrun,c',μ1,Mt1,e,hv,hp⟩:=bi9 (call:=call) h hf hc hnk hop;cases e
     have next:wpOpsSIn Fence.wide n P ops Q ((List.range ops.size).drop (k+1)) (a.put ops[k].dst cv) cs w1:=by
      refine ih (k+1) _ H1 _ w1 μ1 Mt1 (by omega) (fun i h1 h2=>hno i (by omega) h2) hp.hr (hd▸(hf.post h hp).put _ hv) hev (fun a' w' hq=>hQ a' w' ?_)
      rw[put_defers]at hq;exact asg.trans hp rfl hq
     rcases hrun with hrun|⟨hrun,rfl⟩
     .rw[hrun];exact next
     .rw[hrun];exact next
    .cases hev
inductive RecC (Tf:TypeId) (z:V) (μ:Mu) (Mt:Nat->Prop) (w:World):FrameMode->FrameMode->V->Prop
 |pan (x:V) (c:Value) (h:VR μ Mt w x c):RecC Tf z μ Mt w (.panicking [{ v:=.iface Tf c,recovered:=false }]) (.panicking [{ v:=.iface Tf c,recovered:=true }]) (.tup [x,.s (.bool true)])
 |nil:RecC Tf z μ Mt w .returning .returning (.tup [z,.s (.bool false)])
variable {CP:Nat->Option CFun}
def bei(hmix:P.follows .mixedOrders=true)(hCP:∀k c,CP k=some c->adu P pure' k c){k id0 r0 r1 N}{fn:Func}{c2 ac2 ops0 l0 xT Tf oR oA ats}(hf:P.funcs[k]?=some fn)(hb:fn.body=some (.seq (.region id0 ops0 false) c2))(hres:fn.results=#[])(hnt:fn.ntmps=N)(hreg:auz P pure' ops0 l0)(hc2:CodeR P pure' c2 ac2)(hfl:ah2 c2=true)(hno:∀i,2<=i->i<l0.length->(l0.getD i default).op.isCall=false)(hR:ops0[0]?=some oR)(eR:oR.op=.call { callee:=.builtin .recover,args:=#[],argTypes:=ats })(dR:oR.dst=some r0)(gR:oR.guard=none)(hA:ops0[1]?=some oA)(eA:oA.op=.typeAssert (.tmp r0) xT Tf true)(dA:oA.dst=some r1)(gA:oA.guard=none)(hr0:r0<N)(hok:∀(v:Value) (w:World),(Instr.typeAssert (.iface Tf v) xT Tf true).run P w=.ok (.tuple #[v,.bool true]) w){z zv}(hnil:∀(w:World),(Instr.typeAssert .nilIface xT Tf true).run P w=.ok (.tuple #[zv,.bool false]) w)(hz:∀(μ:Mu) (Mt:Nat->Prop) (w:World),VR μ Mt w z zv){u u':FrameMode}{y μ}{Mt:Nat->Prop}{w H}(h:HR (CR P pure') μ Mt w H){vs cs}(hvs:VRs μ Mt w vs cs)(hvl:vs.length<=N)(hu:RecC Tf z μ Mt w u u' y){n base fr3 fr4 H3 H4}(h3:mg (aao CP n) base (l0.drop 2) (put (some r1) y (put (some r0) .unk (vs++List.replicate (N-vs.length) und))) H=some (fr3,H3))(h4:evC (aao CP n) (fun b k m=>x9 b k m n) base ac2 fr3 H3=some (.nrm,fr4,H4)){m}{R:Ending->FrameMode->World->Prop}(hQ:∀v μ' Mt' w',Post (CR P pure') μ Mt w H μ' Mt' w' H4->R (.returned v) u' w'):
 CallsDIn Fence.wide m P k cs.toArray u w R:=by
 have hs:=adn hmix hCP n;refine callsDIn_of_wpSIn hf hb trivial fun c0 cs0 hc0=>wpSIn_seq (wpSIn_region ?_);obtain⟨a0,ha0⟩:∃a0:Act,{ tmps:=cs.toArray++Array.replicate (fn.ntmps-cs.toArray.size) Go.undef,defers:=[] }=a0:=⟨_,rfl⟩
 have hd0:a0.defers=[]:=by rw[<- ha0]
 have hf0:FR μ Mt w (vs++List.replicate (N-vs.length) und) a0.tmps:=by
  unfold FR;have:=hvs.append (acj (μ:=μ) (Mt:=Mt) (w:=w) (N-vs.length));rw[<- ha0,hnt];simp only[ahg,aew,ug];rw[hvs.1]at this |-;exact this
 rw[ha0];have hlA:1<ops0.size:=(bmv.1 hA).1;have hlA2:2<=ops0.size:=hlA
 have er:List.range ops0.size=0::1::(List.range ops0.size).drop 2:=by
  have e1:List.range ops0.size=(List.range ops0.size).drop 0:=rfl
  rw[ed (by simp;omega),ed (by simp;omega)]at e1
  simpa using e1
 rw[er]
 have hrun0:∀(a:Act) (w:World),(execOp a.eval oR).run P w=.ok .recover w:=by
  intro a w;unfold execOp;simp only[eR,resolve,Sem.run_bind,Sem.run_pure,bm0,invoke,Go.builtin]
 have tail:∀(v0:Value) (y0:Value) (cs1:List Frame),cs1={ c0 with mode:=u' }::cs0->VR μ Mt w y y0->wpOpsSIn Fence.wide m P ops0 (Exit.thenS (c2.wpSIn Fence.wide m P (bodyPostS P fn c0 cs0 R)) (bodyPostS P fn c0 cs0 R)) ((List.range ops0.size).drop 2) ((a0.put oR.dst v0).put oA.dst y0) cs1 w:=by
  intro v0 y0 cs1 hcs hy
  have hfr:FR μ Mt w (put (some r1) y (put (some r0) .unk (vs++List.replicate (N-vs.length) und))) ((a0.put oR.dst v0).put oA.dst y0).tmps:=by
   rw[dR,dA];exact(hf0.put (some r0) (.unk _)).put (some r1) hy
  refine a9x (call:=aao CP n) hreg (ops0.size-2) 2 _ H _ w μ Mt (by omega) hno h hfr h3 ?_
  rintro a1 w1 ⟨μ1,Mt1,p1,f1,d1⟩;rw[put_defers,put_defers,hd0]at d1;refine wpSIn_of_wpIn rfl ?_;refine ai5 hs hmix n base hc2 hfl none m _ _ _ _ _ h4 μ1 Mt1 w1 a1 _ p1.hr f1 ?_;rintro a2 w2 ⟨μ2,Mt2,p2,f2,d2⟩
  obtain⟨rv,hrv,_⟩:=ae7 (fn:=fn) (ars:=[]) (r:=.tup []) p2.hr f2 (by rw[hres];rfl) rfl
  exact⟨by rw[d2,d1],u',hcs,rv,hrv,hQ rv μ2 Mt2 w2 (p1.trans p2)⟩
 have hx1:∀(v0 y0:Value) (a:Act),a.tmps.size=N->(Instr.typeAssert v0 xT Tf true).run P w=.ok y0 w->(execOp (a.put oR.dst v0).eval oA).run P w=.ok (.value y0) w:=by
  intro v0 y0 a hsz hrun
  have hev:(a.put oR.dst v0).eval (.tmp r0)=v0:=by
   rw[dR];simp[Act.eval,Act.put,hsz,hr0]
  unfold execOp;simp only[eA,hev,Sem.run_bind,hrun,bm0,Sem.run_pure]
 have hsz:a0.tmps.size=N:=by
  rw[bda hf0,gm,afl];omega
 simp only[wpOpsSIn,hR,hA];refine⟨fun _ _=>trivial,?_⟩
 rw[dw (by simp[Region.wanted,gR]),hrun0]
 cases hu with
 |pan x c hx=>
   have hrec:recoverD (c0::cs0)=some (.iface Tf c,{ c0 with mode:=.panicking [{ v:=.iface Tf c,recovered:=true }] }::cs0):=by
    simp only[recoverD,hc0]
   simp only[hrec];refine⟨fun _ _=>trivial,?_⟩
   rw[dw (by simp[Region.wanted,gA]),hx1 _ _ _ hsz (hok c w)]
   refine tail _ _ _ rfl (.tup _ _ rfl fun i p q hp hq=>?_)
   match i with
   |0=>simp at hp hq;subst hp;subst hq;exact hx
   |1=>simp at hp hq;subst hp;subst hq;exact .s _
   |i+2=>simp at hp
 |nil=>
   have hrec:recoverD (c0::cs0)=none:=by
    simp only[recoverD,hc0]
   simp only[hrec];refine⟨fun _ _=>trivial,?_⟩
   rw[dw (by simp[Region.wanted,gA]),hx1 _ _ _ hsz (hnil w)]
   refine tail _ _ _ (by rw[<- hc0]) (.tup _ _ rfl fun i p q hp hq=>?_)
   match i with
   |0=>simp at hp hq;subst hp;subst hq;exact hz _ _ _
   |1=>simp at hp hq;subst hp;subst hq;exact .s _
   |i+2=>simp at hp
end
open Go.RowKit
section
variable {CC:CX} {μ μ':Mu} {Mt Mt':Nat->Prop} {w w':World} {H H':Heap} {P:Program} {pure':PX} {CP:Nat->Option CFun} {PP:Nat->List V->Nat->Heap->aco->Prop} {X:Nat->Bool}
def aix{μ0}{Mt0:Nat->Prop}{w0 H0}{fn:Func}{tmps x c frx}{R:Ending->World->Prop}{n}{u:FrameMode}{ds}(hu:u≠.run)(hfin:∀w',Post CC μ0 Mt0 w0 H0 μ Mt w' H->FR μ Mt w' frx tmps->VR μ Mt w' x c->LeavesInM Fence.wide n P fn tmps R ds u w'):
 ∀(L:List Nat) (w:World),Post CC μ0 Mt0 w0 H0 μ Mt w H->FR μ Mt w frx tmps->VR μ Mt w x c->L.Nodup->(∀D∈L,w0.heap.size<=D/\w.heap[D]?=some (.deferred (some []))/\∀id g b,μ id g≠some (D,b))->
   LeavesInM Fence.wide n P fn tmps R (L.map ayj++ds) u w:=by
 intro L
 induction L with
 |nil=>intro w hp hf hv _ _;exact hfin w hp hf hv
 |cons D L ih=>
   intro w hp hf hv hnd hL;obtain⟨h1,h2,h3⟩:=hL D jh;refine⟨hu,.inl ⟨D,_,rfl,run_takeDeferred h2,?_⟩⟩;obtain⟨p1,hk⟩:=anm (y:=none) hp h1 h2 h3;refine ih _ p1 ⟨hf.1,fun i a b ha hb=>hk (hf.2 i a b ha hb)⟩ (hk hv) (ad8.1 hnd).2 (fun E hE=>?_);obtain⟨k1,k2,k3⟩:=hL E (il _ hE)
   have hne:E≠D:=fun e=>by subst e;exact(ad8.1 hnd).1 hE
   exact⟨k1,(World.putObj_heap_other hne).trans k2,k3⟩
def bkn(P:Program)(pure':PX)(CP:Nat->Option CFun)(k r0 r1 N:Nat)(Tf:TypeId)(z:V)(l0:List AOper)(ac2:ACode):Prop:=
 (∀xs w,(callFunc k xs).run P w=.ok (.enter k xs) w)/\
 ∀{u u':FrameMode} {y:V} {μ:Mu} {Mt:Nat->Prop} {w:World} {H:Heap},HR (CR P pure') μ Mt w H->∀{vs:List V} {cs:List Value},VRs μ Mt w vs cs->vs.length<=N->RecC Tf z μ Mt w u u' y->
   ∀{n base:Nat} {fr3 fr4:List V} {H3 H4:Heap},mg (aao CP n) base (l0.drop 2) (put (some r1) y (put (some r0) .unk (vs++List.replicate (N-vs.length) und))) H=some (fr3,H3)->
   evC (aao CP n) (fun b k m=>x9 b k m n) base ac2 fr3 H3=some (.nrm,fr4,H4)->∀{m:Nat} {R:Ending->FrameMode->World->Prop},(∀v μ' Mt' w',Post (CR P pure') μ Mt w H μ' Mt' w' H4->R (.returned v) u' w')->CallsDIn Fence.wide m P k cs.toArray u w R
structure DefF where
 N:Nat
 A0:ACode
 A1:ACode
 A2:ACode
 AR:ACode
 a:Nat
 b:Nat
 c:Nat
 d:Nat
 k1:Nat
 r0:Nat
 r1:Nat
 N1:Nat
 Tf:TypeId
 z:V
 l0:List AOper
 ac2:ACode
 rs:List ARes
def DefF.cond(D:DefF)(g0 g1 g2:V):aev:=fun l fr=>(fr.getD D.a .unk=g0/\fr.getD D.b .unk=g1/\fr.getD D.c .unk=g2)/\∀o∈l,o.dst≠some D.a/\o.dst≠some D.b/\o.dst≠some D.c
def DefF.recR(D:DefF)(call:o8)(it:zn)(base:Nat)(y g0 g1 g2:V)(H H':Heap):Prop:=
 ∃f3 H3 f4,mg call base (D.l0.drop 2) (put (some D.r1) y (put (some D.r0) .unk ([g0,g1,g2]++List.replicate (D.N1-3) und))) H=some (f3,H3)/\evC call it base D.ac2 f3 H3=some (.nrm,f4,H')
def DefF.ans(D:DefF)(call:o8)(it:zn)(pan:ay7)(vs:List V)(base:Nat)(H:Heap)(v:V)(H':Heap):Prop:=
 ∃fr1 H1 fr2 H2,evC call it base D.A0 (vs++List.replicate (D.N-vs.length) und) H=some (.nrm,fr1,H1)/\evC call it base D.A1 fr1 H1=some (.nrm,fr2,H2)/\
 ((∃fr3,evC call it base D.A2 fr2 H2=some (.ret,fr3,H')/\w9 D.rs fr3 H'=some v)\/
  ∃fr3 H3 g0 g1 g2,evC call it base D.A2 fr2 H2=some (.nrm,fr3,H3)/\D.d<fr3.length/\fr3.getD D.a .unk=g0/\fr3.getD D.b .unk=g1/\fr3.getD D.c .unk=g2/\
   ((∃e fr5 H5,(e=.nrm\/e=.ret)/\evC call it base D.AR (put (some D.d) (.fn D.k1 [] [g0,g1,g2]) fr3) H3=some (e,fr5,H5)/\D.recR call it base (.tup [D.z,.s (.bool false)]) g0 g1 g2 H5 H'/\w9 D.rs fr5 H'=some v)\/
    ∃x Hp,ads call pan it base (D.cond g0 g1 g2) D.AR (put (some D.d) (.fn D.k1 [] [g0,g1,g2]) fr3) H3 (D.Tf,x,Hp)/\D.recR call it base (.tup [x,.s (.bool true)]) g0 g1 g2 Hp H'/\w9 D.rs (put (some D.d) (.fn D.k1 [] [g0,g1,g2]) fr3) H'=some v))
def DefF.recR_le{D:DefF}{c c':o8}(h:Le c c'){n n'}(hn:n<=n'){base y g0 g1 g2 H H'}(k:D.recR c (itN n) base y g0 g1 g2 H H'):D.recR c' (itN n') base y g0 g1 g2 H H':=by
 obtain⟨f3,H3,f4,h1,h2⟩:=k;exact⟨f3,H3,f4,ai1 h _ h1,ala h hn _ h2⟩
def DefF.recR_cont{D:DefF}{base y g0 g1 g2 H H'}(k:D.recR (gq CP) itW base y g0 g1 g2 H H'):∃n,D.recR (aao CP n) (itN n) base y g0 g1 g2 H H':=by
 obtain⟨f3,H3,f4,h1,h2⟩:=k;obtain⟨n1,e1⟩:=apq _ h1;obtain⟨n2,e2⟩:=aa9 _ h2;exact⟨max n1 n2,f3,H3,f4,ai1 (aai (ve n1 n2)) _ e1,abk (pu n1 n2) e2⟩
def DefF.ans_cont{D:DefF}{vs base H v H'}(h:D.ans (gq CP) itW (ase CP PP X) vs base H v H'):∃n,D.ans (aao CP n) (itN n) (a7k CP PP X n) vs base H v H':=by
 obtain⟨fr1,H1,fr2,H2,h1,h2,h⟩:=h;obtain⟨n1,e1⟩:=aa9 _ h1;obtain⟨n2,e2⟩:=aa9 _ h2
 rcases h with⟨fr3,h3,hr⟩|⟨fr3,H3,g0,g1,g2,h3,hd,k0,k1,k2,h⟩
 .obtain⟨n3,e3⟩:=aa9 _ h3
  refine⟨max n1 (max n2 n3),fr1,H1,fr2,H2,abk (by omega) e1,abk (by omega) e2,.inl ⟨fr3,abk (by omega) e3,hr⟩⟩
 .obtain⟨n3,e3⟩:=aa9 _ h3
  rcases h with⟨e,fr5,H5,he,h5,hrec,hr⟩|⟨x,Hp,hp,hrec,hr⟩
  .obtain⟨n4,e4⟩:=aa9 _ h5;obtain⟨n5,e5⟩:=DefF.recR_cont hrec
   exact⟨max (max n1 n2) (max n3 (max n4 n5)),fr1,H1,fr2,H2,abk (by omega) e1,abk (by omega) e2,.inr ⟨fr3,H3,g0,g1,g2,abk (by omega) e3,hd,k0,k1,k2,.inl ⟨e,fr5,H5,he,abk (by omega) e4,DefF.recR_le (aai (by omega)) (by omega) e5,hr⟩⟩⟩
  .obtain⟨n4,e4⟩:=ate _ hp;obtain⟨n5,e5⟩:=DefF.recR_cont hrec
   exact⟨max (max n1 n2) (max n3 (max n4 n5)),fr1,H1,fr2,H2,abk (by omega) e1,abk (by omega) e2,.inr ⟨fr3,H3,g0,g1,g2,abk (by omega) e3,hd,k0,k1,k2,.inr ⟨x,Hp,ara (aai (by omega)) (aq9 (by omega)) (by omega) _ e4,DefF.recR_le (aai (by omega)) (by omega) e5,hr⟩⟩⟩
def aq3{rs:List ARes}{fr fr' H}(h:∀r∈rs,fr.getD r.slot .unk=fr'.getD r.slot .unk):w9 rs fr H=w9 rs fr' H:=by
 have key:∀rs:List ARes,(∀r∈rs,fr.getD r.slot .unk=fr'.getD r.slot .unk)->rs.mapM (ak5 fr H)=rs.mapM (ak5 fr' H):=by
  intro rs
  induction rs with
  |nil=>intro _;rfl
  |cons r rs ih=>
    intro h
    have e:ak5 fr H r=ak5 fr' H r:=by
     have:=h r jh;cases r<;>simp only[ak5,ARes.slot]at this |-<;>rw[this]
    simp only[qf,e,ih fun q hq=>h q (il _ hq)]
 unfold w9;rw[key rs h]
def bgl(hmix:P.follows .mixedOrders=true)(hCP:∀k c,CP k=some c->adu P pure' k c)(hone:∀k fn body,X k=true->P.funcs[k]?=some fn->fn.body=some body->arb body=true)(hPP:bg1 P pure' PP){D:DefF}{k idD:Nat}{fn:Func}{m0 m1 m2 mR:Code}{oF oD:Oper}{ats:Array TypeId}(hf : P.funcs[k]? = some fn)(hb : fn.body = some (.seq m0 (.seq m1 (.seq m2 (.seq (.region idD #[oF, oD] false) mR)))))(hnm : (fn.name == "runtime.NumGoroutine") = false)(hnt : fn.ntmps = D.N)(c0:CodeR P pure' m0 D.A0)(f0:ah2 m0=true)(c1:CodeR P pure' m1 D.A1)(f1:ah2 m1=true)(c2:CodeR P pure' m2 D.A2)(f2:ah2 m2=true)(cR:CodeR P pure' mR D.AR)(oR:arb mR=true)(cF:aa1 P pure'.b oF=some (.mkFn D.k1 [] [.t D.a,.t D.b,.t D.c]))(dF:oF.dst=some D.d)(gF:oF.guard=none)(eD:oD.op=.defer { callee:=.value (.tmp D.d),args:=#[],argTypes:=ats })(dD:oD.dst=none)(gD:oD.guard=none)(hdN:D.d≠D.a/\D.d≠D.b/\D.d≠D.c)(hrs:fn.results.toList.mapM (ah4 P)=some D.rs)(hrs2:∀r∈D.rs,r.slot=D.a\/r.slot=D.b\/r.slot=D.c)(hN1:3<=D.N1)(hrec:bkn P pure' CP D.k1 D.r0 D.r1 D.N1 D.Tf D.z D.l0 D.ac2){g:List V->Nat->Heap->Option (V × Heap)}(hg:∀vs base H r H',g vs base H=some (r,H')->D.ans (gq CP) itW (ase CP PP X) vs base H r H'):adu P pure' k (.prim g):=by
 refine⟨Go.Proofs.enters_of hf hnm hb,fun vs base H r H' hgr=>?_⟩;obtain⟨n,hn⟩:=DefF.ans_cont (hg _ _ _ _ _ hgr);have hs:=adn hmix hCP n;have hx:=a9r (PP:=PP) (X:=X) hmix hCP hone hPP n;obtain⟨fr1,H1,fr2,H2,h1,h2,hn⟩:=hn;have F1:=(zz hs.floor n _ h1).trans (zz hs.floor n _ h2)
 have recFloor:∀{y g0 g1 g2:V} {K K':Heap},D.recR (aao CP n) (itN n) base y g0 g1 g2 K K'->Floor base K K':=fun h=>by
  obtain⟨f3,H3,f4,q1,q2⟩:=h;exact(ah3 hs.floor _ q1).trans (zz hs.floor n _ q2)
 refine⟨?_,fun μ Mt w cs h hvs m=>?_⟩
 .rcases hn with⟨fr3,h3,_⟩|⟨fr3,H3,g0,g1,g2,h3,_,_,_,_,⟨e,fr5,H5,_,h5,hr,_⟩|⟨x,Hp,hp,hr,_⟩⟩
  .exact F1.trans (zz hs.floor n _ h3)
  .exact(F1.trans (zz hs.floor n _ h3)).trans ((zz hs.floor n _ h5).trans (recFloor hr))
  .exact(F1.trans (zz hs.floor n _ h3)).trans ((apd hs.floor hx.floor n base _ hp).trans (recFloor hr))
 .refine callsIn_of_wp_marks hf hb trivial ?_;obtain⟨a0,ha0⟩:∃a0:Act,{ tmps:=cs.toArray++Array.replicate (fn.ntmps-cs.toArray.size) Go.undef,defers:=[] }=a0:=⟨_,rfl⟩
  have hd0:a0.defers=[]:=by rw[<- ha0]
  have hf0:FR μ Mt w (vs++List.replicate (D.N-vs.length) und) a0.tmps:=by
   unfold FR;have:=hvs.append (acj (μ:=μ) (Mt:=Mt) (w:=w) (D.N-vs.length));rw[<- ha0,hnt];simp only[ahg,aew,ug];rw[hvs.1]at this |-;exact this
  rw[ha0];refine wpIn_seq (ai5 hs hmix n base c0 f0 none m _ _ _ _ _ h1 μ Mt w a0 _ h hf0 ?_);rintro a1 w1 ⟨μ1,Mt1,p1,q1,d1⟩;rw[hd0]at d1;refine wpIn_seq (ai5 hs hmix n base c1 f1 none m _ _ _ _ _ h2 μ1 Mt1 w1 a1 _ p1.hr q1 ?_);rintro a2 w2 ⟨μ2,Mt2,p2,q2,d2⟩;rw[d1]at d2
  have leave:∀{frx:List V} {ax:Act} {wx:World} {μx:Mu} {Mtx:Nat->Prop} {Hx:Heap},Post (CR P pure') μ Mt w H μx Mtx wx Hx->FR μx Mtx wx frx ax.tmps->w9 D.rs frx Hx=some r->Hx=H'->LeavesInM Fence.wide m P fn ax.tmps (ar9 (CR P pure') μ Mt w H r H') [] .returning wx:=fun pp ff hr hH=>by
   subst hH;obtain⟨cv,k1,k2⟩:=ae7 pp.hr ff hrs hr;exact⟨cv,k1,cv,_,_,rfl,k2,pp⟩
  rcases hn with⟨fr3,h3,hres⟩|⟨fr3,H3,g0,g1,g2,h3,hdl,e0,e1,e2,hn⟩
  .refine wpIn_seq (ai5 hs hmix n base c2 f2 none m _ _ _ _ _ h3 μ2 Mt2 w2 a2 _ p2.hr q2 ?_);rintro a3 w3 ⟨μ3,Mt3,p3,q3,d3⟩;rw[d2]at d3;show LeavesInM Fence.wide m P fn a3.tmps _ a3.defers .returning w3;rw[d3];exact leave ((p1.trans p2).trans p3) q3 hres rfl
  .refine wpIn_seq (ai5 hs hmix n base c2 f2 none m _ _ _ _ _ h3 μ2 Mt2 w2 a2 _ p2.hr q2 ?_);rintro a3 w3 ⟨μ3,Mt3,p3,q3,d3⟩;rw[d2]at d3;have pp3:=(p1.trans p2).trans p3;refine wpIn_seq (wpIn_region ?_);show wpOpsIn (Fw none) m P #[oF,oD] _ [0,1] a3 w3
   refine ae1 (o:=oF) rfl gF (aed hs p3.hr q3 (.inl cF) (base:=base) (v:=.fn D.k1 [] [g0,g1,g2]) (H':=H3) (by simp only[l8,pq,ab2,ev,e0,e1,e2]) ?_)
   rintro rF w4 ⟨qF,μ4,Mt4,E4,V4,p4⟩;cases E4;have q4:FR μ4 Mt4 w4 (put (some D.d) (.fn D.k1 [] [g0,g1,g2]) fr3) (a3.put oF.dst rF).tmps:=art p3.hr p4 q3 dF V4;obtain⟨a4,ha4⟩:∃a4,a3.put oF.dst rF=a4:=⟨_,rfl⟩
   have d4:a4.defers=[]:=by rw[<- ha4,put_defers,d3]
   rw[ha4]at q4 |-;have pp4:=pp3.trans p4
   have hval:VR μ4 Mt4 w4 (.fn D.k1 [] [g0,g1,g2]) (a4.eval (.tmp D.d)):=by
    have hg:=q4.getD D.d;rw[ags _ _ _ _ hdl,dw rfl]at hg;exact hg
   obtain⟨fst',cap',hfv,hfs,hvg⟩:∃(fst' cap':Array Value),a4.eval (.tmp D.d)=.func (.func D.k1) fst' cap'/\fst'=#[]/\VRs μ4 Mt4 w4 [g0,g1,g2] cap'.toList:=by
    generalize a4.eval (.tmp D.d)=fv at hval;cases hval with
    |fn _ _ _ fst' cap' k1 k2 k3 k4=>exact⟨fst',cap',rfl,afo (by simpa using k1.symm),by simpa using k2,fun i p q hp hq=>k4 i p q hp (by simpa using hq)⟩
   subst hfs;refine ae1 (o:=oD) rfl gD ⟨fun _ _=>trivial,?_⟩
   have hxD:(Oper.semAt none a4.eval oD).run P w4=.ok (.defer { target:=.fn (.func D.k1) cap',args:=#[] }) w4:=by
    rw[Oper.semAt_none];unfold execOp;simp only[eD,resolve,hfv,Deferred.ofValue,Sem.run_bind,Sem.run_pure,bm0];simp
   show Oper.uponIn (Fw none) m P oD a4 _ _ ((Oper.semAt none a4.eval oD).run P w4);rw[hxD];simp only[Oper.uponIn,wpOpsIn];rw[dD,d4];show Code.wpIn (Fw none) m P mR _ { a4 with defers:=[{ target:=.fn (.func D.k1) cap',args:=#[] }] } w4
   have hinv:∀w,(invoke (.fn (.func D.k1) cap') #[]).run P w=.ok (.enter D.k1 cap') w:=fun w=>by
    simp only[invoke,hrec.1];rw[Array.empty_append]
   have leaveD:∀{u u':FrameMode} {y:V} {frx:List V} {tx:Array Value} {wx:World} {μx:Mu} {Mtx:Nat->Prop} {Hx:Heap},u≠.run->settle u'=.returning->Post (CR P pure') μ4 Mt4 w4 H3 μx Mtx wx Hx->FR μx Mtx wx frx tx->RecC D.Tf D.z μx Mtx wx u u' y->D.recR (aao CP n) (itN n) base y g0 g1 g2 Hx H'->w9 D.rs frx H'=some r->
    LeavesInM Fence.wide m P fn tx (ar9 (CR P pure') μ Mt w H r H') [{ target:=.fn (.func D.k1) cap',args:=#[] }] u wx:=fun {u u' y frx tx wx μx Mtx Hx} hu hu' pp ff hc hr hres=>by
    obtain⟨f3,K3,f4,r1,r2⟩:=hr
    refine⟨hu,.inr ⟨fun h=>by simp[Fence.wide]at h,.func D.k1,cap',D.k1,cap',rfl,hinv wx,fun _ _=>trivial,?_⟩⟩
    have hcd:=hrec.2 (m:=m-1) pp.hr (pp.vrs p4.hr hvg) (show[g0,g1,g2].length<=D.N1 from hN1) hc (n:=n) (base:=base) r1 r2 (R:=fun e u' w'=>∃v,e=.returned v/\LeavesInM Fence.wide m P fn tx (ar9 (CR P pure') μ Mt w H r H') [] (settle u') w') (fun v μy Mty wy py=>by
     refine⟨v,rfl,?_⟩;rw[hu'];obtain⟨cv,k1,k2⟩:=ae7 py.hr (ff.post pp.hr py) hrs hres;exact⟨cv,k1,cv,_,_,rfl,k2,(pp4.trans pp).trans py⟩)
    rw[xh]at hcd;refine hcd.mono ?_;rintro e1 u1 wz ⟨v,rfl,hh⟩;exact hh
   rcases hn with⟨e,fr5,H5,he,h5,hr,hres⟩|⟨x,Hp,hp,hr,hres⟩
   .refine aku hs hmix n base cR none m _ _ _ _ _ h5 μ4 Mt4 w4 { a4 with defers:=[{ target:=.fn (.func D.k1) cap',args:=#[] }] } _ p4.hr q4 (fun l hl=>by cases hl) ?_
    rintro a5 w5 ⟨μ5,Mt5,p5,q5,L,hL,hnd,hLs⟩
    have fin:LeavesInM Fence.wide m P fn a5.tmps (ar9 (CR P pure') μ Mt w H r H') a5.defers .returning w5:=by
     rw[hL]
     exact aix (by simp) (x:=und) (c:=Go.undef) (fun w6 p6 q6 _=>leaveD (by simp) rfl p6 q6 .nil hr hres) L w5 p5 q5 (.s _) hnd hLs
    rcases he with rfl|rfl
    .exact fin
    .exact fin
   .refine ayc hs hx hmix n base cR oR none m _ _ _ hp μ4 Mt4 w4 { a4 with defers:=[{ target:=.fn (.func D.k1) cap',args:=#[] }] } _ p4.hr q4 (fun l hl=>by cases hl) ?_
    rintro ch a5 w5 ⟨cv,μ5,Mt5,lx,frl,frx,rfl,hvx,p5,⟨L,hL,hnd,hLs⟩,hC,hK,q5⟩;show LeavesInM Fence.wide m P fn a5.tmps _ a5.defers _ w5;rw[hL];obtain⟨⟨b0,b1,b2⟩,hdst⟩:=hC
    have hres':w9 D.rs frx H'=some r:=by
     rw[<- hres];refine aq3 fun q hq=>?_
     rcases hrs2 q hq with h|h|h<;>rw[h]
     .rw[hK _ (fun o ho=>(hdst o ho).1),b0,agr (fun e=>hdN.1 (jk e)),e0]
     .rw[hK _ (fun o ho=>(hdst o ho).2.1),b1,agr (fun e=>hdN.2.1 (jk e)),e1]
     .rw[hK _ (fun o ho=>(hdst o ho).2.2),b2,agr (fun e=>hdN.2.2 (jk e)),e2]
    exact aix (by simp) (fun w6 p6 q6 v6=>leaveD (by simp) rfl p6 q6 (.pan x cv v6) hr hres') L w5 p5 q5 hvx hnd hLs
end
end Go.AM
