/- Texts of the proof: AmPr2, AmPr3, RqS1, RqtF1, RqtF2, RqtF3, RqtF4, RqtF5, RqtF6, RqtF7, RqS2, RqS3, RqC1, AmPs, RqC2, RqC3. -/
import Derived.Test.YtngfpadeebpoeaaGreatDoorP0
import Derived.Test.YtngfpadeebpoeaaGreatDoorP1
import Derived.Test.YtngfpadeebpoeaaGreatDoorP2
import Derived.KernelRfl
import Derived.Test.YtngfpadeebpoeaaGreatDoorProg
set_option linter.all false
namespace Go.ea
open Go.RowKit
section
variable {aK:eX} {μ cf:cp} {ae b9:Nat->Prop} {w w':World} {H H':ad} {P:Program} {pure':fA} {call:c5}
def rn:Code->Bool
 |.skip=>true
 |.label _=>true
 |.region _ _ _=>true
 |.seq a b=>rn a&&rn b
 |.cond _ a b=>rn a&&rn b
 |.ret=>true
 |.exit _=>true
 |_=>false
def pb.kill{de:List Deferred}{aW:List V}{bW:Act}(kill:List Nat)(h:pb aK μ ae w H de aW H' bW w'):pb aK μ ae w H de (ul kill aW) H' bW w':=by
 obtain⟨cf,b9,J,aa,aI⟩:=h;exact⟨cf,b9,J,aa.kill kill,aI⟩
def pb.trans{cH:cp}{cJ:Nat->Prop}{bc:World}{H1:ad}{de ud:List Deferred}{aW:List V}{bW:Act}(ay:c8 aK μ ae w H cH cJ bc H1)(aQ:ud=de)(h:pb aK cH cJ bc H1 ud aW H' bW w'):pb aK μ ae w H de aW H' bW w':=by
 obtain⟨cf,b9,J,aa,aI⟩:=h;exact⟨cf,b9,ay.trans J,aa,aI.trans aQ⟩
def IJ(ai:o3 P (eU P pure') call)(fh:P.follows .mixedOrders=true)(fS base:Nat){c:Code}{ac:bZ}(ab:hD P pure' c ac)(e2:rn c=true):
 ∀(ro:Option Nat) (n:Nat) (fr:List V) (H:ad) (e:nE) (aW:List V) (H':ad),aL call (fun b k m=>gd b k m fS) base ac fr H=some (e,aW,H')->∀(μ:cp) (ae:Nat->Prop) (w:World) (a:Act) (Q:Exit->Act->World->Prop),cE (eU P pure') μ ae w H->c7 μ ae w fr a.tmps->
   (∀bW w',pb (eU P pure') μ ae w H a.defers aW H' bW w'->Q (Nv e) bW w')->c.wpIn (ix ro) n P Q a w:=by
 induction ab with
 |skip=>
   intro ro n fr H e aW H' aj μ ae w a Q h al a6;simp only[aL]at aj;cases aj;exact wpIn_skip (a6 a w ⟨μ,ae,c8.refl h,al,rfl⟩)
 |label l=>
   intro ro n fr H e aW H' aj μ ae w a Q h al a6;simp only[aL]at aj;cases aj;exact wpIn_label (a6 a w ⟨μ,ae,c8.refl h,al,rfl⟩)
 |exit id=>
   intro ro n fr H e aW H' aj μ ae w a Q h al a6;simp only[aL]at aj;cases aj;exact wpIn_exit (a6 a w ⟨μ,ae,c8.refl h,al,rfl⟩)
 |ret=>
   intro ro n fr H e aW H' aj μ ae w a Q h al a6;simp only[aL]at aj;cases aj;exact wpIn_ret (a6 a w ⟨μ,ae,c8.refl h,al,rfl⟩)
 |block=>cases e2
 |loop=>cases e2
 |rangeFunc=>cases e2
 |region id ops draw l ct kill ak aQ=>
   intro ro n fr H e aW H' aj μ ae w a Q h al a6;simp only[aL]at aj;split at aj
   .rename_i cw H1 J;split at aj
    .rename_i uQ;cases aj;cases draw with
     |false=>
       refine wpIn_region ?_
       have:=aux (Q:=Q) (ro:=ro) (n:=n) ai ak ops.size 0 fr H a w μ ae (by omega) h al (by simpa using J) (fun bW w' bJ=>a6 bW w' (bJ.kill kill))
       simpa using this
     |true=>exact wpIn_region_any fh (KI ai ak (aQ rfl) J uQ h al fun bW w' bJ=>a6 bW w' (bJ.kill kill))
    .cases aj
   .cases aj
 |bh id ops draw l kill j7 ak aQ=>
   intro ro n fr H e aW H' aj μ ae w a Q h al a6;simp only[aL]at aj;split at aj
   .rename_i f2 aa;cases aj;obtain⟨f1,J,rfl⟩:=G5 (call:=call) (base:=base) aa;cases draw with
    |false=>
      refine wpIn_region ?_
      have:=aux (Q:=Q) (ro:=ro) (n:=n) ai ak ops.size 0 fr H a w μ ae (by omega) h al (by simpa using J) (fun bW w' bJ=>a6 bW w' (bJ.kill kill))
      simpa using this
    |true=>exact wpIn_region_any fh (KI ai ak (aQ rfl) J rfl h al fun bW w' bJ=>a6 bW w' (bJ.kill kill))
   .cases aj
 |O4 id ops c2 l ct kill ay ak aQ=>
   intro ro n fr H e aW H' aj μ ae w a Q h al a6;simp only[aL]at aj;split at aj
   .rename_i cw H1 J;split at aj
    .rename_i uQ;cases aj;exact wpIn_region_any fh (KQ ay (KI ai ak aQ J uQ h al fun bW w' bJ=>a6 bW w' (bJ.kill kill)))
    .cases aj
   .cases aj
 |OS id ops c2 l kill j7 ay ak aQ=>
   intro ro n fr H e aW H' aj μ ae w a Q h al a6;simp only[aL]at aj;split at aj
   .rename_i f2 aa;cases aj;obtain⟨f1,J,rfl⟩:=G5 (call:=call) (base:=base) aa;exact wpIn_region_any fh (KQ ay (KI ai ak aQ J rfl h al fun bW w' bJ=>a6 bW w' (bJ.kill kill)))
   .cases aj
 |seq x y oE r4 _ _ tl vH=>
   intro ro n fr H e aW H' aj μ ae w a Q h al a6;simp only[rn,dR]at e2;simp only[aL]at aj;split at aj
   .rename_i cw H1 J;refine wpIn_seq (tl e2.1 ro n _ _ _ _ _ J μ ae w a _ h al ?_);rintro bw bc ⟨cH,cJ,cn,f1,d1⟩;exact vH e2.2 ro n _ _ _ _ _ aj cH cJ bc bw Q cn.ak f1 fun a2 dJ bJ=>a6 a2 dJ (pb.trans cn d1 bJ)
   .rename_i eS;refine wpIn_seq (tl e2.1 ro n _ _ _ _ _ aj μ ae w a _ h al ?_);intro bw bc J;have:=a6 bw bc J;cases e with
    |bR=>simp_all
    |ext id=>exact this
    |ret=>exact this
 |cond c o x y oE r4 ko _ _ tl vH=>
   intro ro n fr H e aW H' aj μ ae w a Q h al a6;simp only[rn,dR]at e2;simp only[aL]at aj;have av:=ec al ko;split at aj
   .rename_i he;rw[he]at av;exact wpIn_cond_true (ei av) (tl e2.1 ro n _ _ _ _ _ aj μ ae w a Q h al a6)
   .rename_i he;rw[he]at av;exact wpIn_cond_false (ei av) (vH e2.2 ro n _ _ _ _ _ aj μ ae w a Q h al a6)
   .cases aj
def aIt[oS aK P](h:cE aK μ ae w H){a:Act}{fr:List V}(al:c7 μ ae w fr a.tmps){o:Oper}{iB:bY}{base:Nat}{v:V}(ab:DK P pure' o iB)(ht:iB.kP=false)(aj:bf call base fr H iB=some (v,H')):
 ∃bA bc,((execOp a.eval o).run P w=.ok (.value bA) bc\/((execOp a.eval o).run P w=.ok .skip bc/\bA=Go.undef))/\mZ aK μ ae w H v H' (.returned bA) bc:=by
 have key:∀(zN:bY) (b:Nat),qh P pure' o=some zN->zN.kP=false->bf call b fr H zN=some (v,H')->∃bA bc,((execOp a.eval o).run P w=.ok (.value bA) bc\/((execOp a.eval o).run P w=.ok .skip bc/\bA=Go.undef))/\mZ aK μ ae w H v H' (.returned bA) bc:=by
  intro zN b aa aJ he
  rcases xA aa with⟨g,args,jS,vt,y,aX,_,_,⟨k,_,e⟩|e⟩|⟨kN,aTY,lN⟩
  .rw[e]at aJ;cases aJ
  .rw[e]at aJ;cases aJ
  .obtain⟨bA,bc,cH,cJ,ak,l0,ay⟩:=D2 h al kN aTY he
   rcases ak with ak|⟨ak,rfl⟩
   .exact⟨bA,bc,.inl ak,bA,cH,cJ,rfl,l0,ay⟩
   .exact⟨_,bc,.inr ⟨ak,rfl⟩,_,cH,cJ,rfl,l0,ay⟩
 rcases ab with ab|⟨hk,vt,ab,e⟩|⟨k,vt,ab,e⟩|⟨sz,b,s,x,ab,e⟩|e
 .grind
 .rw[e]at ht;cases ht
 .rw[e]at ht;cases ht
 .subst e;exact key (.append sz b s x) H.length ab rfl aj
 .subst e;cases aj
def aKU[oS aK P]{ops:Array Oper}{l:List bx}(ak:pP P pure' ops l){base n:Nat}{Q:Exit->Act->List Frame->World->Prop}{cs:List Frame}{aW:List V}{H':ad}:
 ∀(j k:Nat) (fr:List V) (H:ad) (a:Act) (w:World) (μ:cp) (ae:Nat->Prop),j+k=ops.size->(∀i,k<=i->i<l.length->(l.getD i default).op.kP=false)->cE aK μ ae w H->c7 μ ae w fr a.tmps->cI call base (l.drop k) fr H=some (aW,H')->
   (∀bW w',pb aK μ ae w H a.defers aW H' bW w'->Q .normal bW cs w')->wpOpsSIn Fence.wide n P ops Q ((List.range ops.size).drop k) a cs w:=by
 intro j
 induction j with
 |zero=>
   intro k fr H a w μ ae an _ h al aj a6
   have nf:k=ops.size:=by omega
   subst nf
   rw[Gh (by simp)]
   rw[Gh (by rw[ak.1];omega)]at aj
   cases aj;exact a6 a w ⟨μ,ae,c8.refl h,al,rfl⟩
 |succ j aF=>
   intro k fr H a w μ ae an mX h al aj a6
   have b8:k<ops.size:=by omega
   have C1:k<l.length:=by rw[ak.1];exact b8
   have aE:(List.range ops.size).drop k=k::(List.range ops.size).drop (k+1):=by
    rw[mF (by simpa using b8)];simp
   rw[aE];rw[mF C1]at aj;have aX:ops[k]?=some ops[k]:=mO b8;obtain⟨aQ,ab,a8⟩:=ak.2 k ops[k] l[k] aX (eP C1)
   have SX:l[k].op.kP=false:=by
    have:=mX k (cq _) C1
    rwa[vv (eP C1)]at this
   simp only[wpOpsSIn,aX];refine⟨fun _ _=>trivial,?_⟩;simp only[cI]at aj;split at aj
   .cases aj
   .rename_i hw;rw[uX a8 al hw];simp only[pD,hp]
    refine aF (k+1) _ H _ w μ ae (by omega) (fun i J aa=>mX i (by omega) aa) h (aQ▸al.put _ (.s _)) aj (fun bW w' bJ=>a6 bW w' ?_)
    rw[put_defers]at bJ;exact bJ
   .rename_i hw;rw[uX a8 al hw];simp only[eW];split at aj
    .rename_i v H1 dz;obtain⟨bA,bc,fv,c',cH,cJ,e,av,ay⟩:=aIt (call:=call) h al ab SX dz;cases e
     have next:wpOpsSIn Fence.wide n P ops Q ((List.range ops.size).drop (k+1)) (a.put ops[k].dst bA) cs bc:=by
      refine aF (k+1) _ H1 _ bc cH cJ (by omega) (fun i J aa=>mX i (by omega) aa) ay.ak (aQ▸(al.post h ay).put _ av) aj (fun bW w' bJ=>a6 bW w' ?_)
      rw[put_defers]at bJ;exact pb.trans ay rfl bJ
     rcases fv with fv|⟨fv,rfl⟩
     .rw[fv];exact next
     simp_all
    .cases aj
inductive Jw (jR:TypeId) (z:V) (μ:cp) (ae:Nat->Prop) (w:World):FrameMode->FrameMode->V->Prop
 |fK (x:V) (c:Value) (h:bS μ ae w x c):Jw jR z μ ae w (.panicking [{ v:=.iface jR c,recovered:=false }]) (.panicking [{ v:=.iface jR c,recovered:=true }]) (.bQ [x,.s (.bool true)])
 |nil:Jw jR z μ ae w .returning .returning (.bQ [z,.s (.bool false)])
variable {b1:Nat->Option cz}
def aIV(fh:P.follows .mixedOrders=true)(jg:∀k c,b1 k=some c->iP P pure' k c){k uw hU bP N:Nat}{fn:Func}{cZ:Code}{xt:bZ}{oA:Array Oper}{fN:List bx}{L2 jR:TypeId}{n9 tp:Oper}{jS:Array TypeId}(al:P.funcs[k]?=some fn)(ah:fn.body=some (.seq (.region uw oA false) cZ))(j2:fn.results=#[])(Iu:fn.ntmps=N)(Ud:pP P pure' oA fN)(pQ:hD P pure' cZ xt)(e2:rn cZ=true)(mX:∀i,2<=i->i<fN.length->(fN.getD i default).op.kP=false)(cP:oA[0]?=some n9)(XF:n9.op=.call { callee:=.builtin .recover,args:=#[],argTypes:=jS })(YM:n9.dst=some hU)(aRC:n9.guard=none)(gU:oA[1]?=some tp)(PA:tp.op=.typeAssert (.tmp hU) L2 jR true)(aVr:tp.dst=some bP)(awc:tp.guard=none)(Bq:hU<N)(fU:∀(v:Value) (w:World),(Instr.typeAssert (.iface jR v) L2 jR true).run P w=.ok (.tuple #[v,.bool true]) w){z:V}{eD:Value}(aDW:∀(w:World),(Instr.typeAssert .nilIface L2 jR true).run P w=.ok (.tuple #[eD,.bool false]) w)(bK:∀(μ:cp) (ae:Nat->Prop) (w:World),bS μ ae w z eD){u rV:FrameMode}{y:V}{μ:cp}{ae:Nat->Prop}{w:World}{H:ad}(h:cE (eU P pure') μ ae w H){vs:List V}{cs:List Value}(db:b6 μ ae w vs cs)(xE:vs.length<=N)(hu:Jw jR z μ ae w u rV y){n base:Nat}{iN Oe:List V}{cV gv:ad}(aI:cI (iq b1 n) base (fN.drop 2) (put (some bP) y (put (some hU) .bu (vs++List.replicate (N-vs.length) bF))) H=some (iN,cV))(bl:aL (iq b1 n) (fun b k m=>gd b k m n) base xt iN cV=some (.bR,Oe,gv)){m:Nat}{R:Ending->FrameMode->World->Prop}(a6:∀v cf b9 w',c8 (eU P pure') μ ae w H cf b9 w' gv->R (.returned v) rV w'):
 CallsDIn Fence.wide m P k cs.toArray u w R:=by
 have ai:=DS fh jg n;refine callsDIn_of_wpSIn al ah trivial fun hg E6 pO=>wpSIn_seq (wpSIn_region ?_);obtain⟨a0,tB⟩:∃a0:Act,{ tmps:=cs.toArray++Array.replicate (fn.ntmps-cs.toArray.size) Go.undef,defers:=[] }=a0:=⟨_,rfl⟩
 have vZ:a0.defers=[]:=by rw[<- tB]
 have qq:c7 μ ae w (vs++List.replicate (N-vs.length) bF) a0.tmps:=by
  unfold c7;have:=db.append (IM (μ:=μ) (ae:=ae) (w:=w) (N-vs.length));rw[<- tB,Iu];simp only[Lx,PG,tr];rw[db.1]at this |-;exact this
 rw[tB];have aJu:1<oA.size:=(tA.1 gU).1;have aYp:2<=oA.size:=aJu
 have aVE:List.range oA.size=0::1::(List.range oA.size).drop 2:=by
  have aE:List.range oA.size=(List.range oA.size).drop 0:=rfl
  rw[mF (by simp;omega),mF (by simp;omega)]at aE
  simpa using aE
 rw[aVE]
 have aBF:∀(a:Act) (w:World),(execOp a.eval n9).run P w=.ok .recover w:=by
  intro a w;unfold execOp;simp only[XF,resolve,Sem.run_bind,Sem.run_pure,ev,invoke,Go.builtin]
 have tail:∀(v0:Value) (Cm:Value) (RG:List Frame),RG={ hg with mode:=rV }::E6->bS μ ae w y Cm->wpOpsSIn Fence.wide m P oA (Exit.thenS (cZ.wpSIn Fence.wide m P (bodyPostS P fn hg E6 R)) (bodyPostS P fn hg E6 R)) ((List.range oA.size).drop 2) ((a0.put n9.dst v0).put tp.dst Cm) RG w:=by
  intro v0 Cm RG lR bC
  have sb:c7 μ ae w (put (some bP) y (put (some hU) .bu (vs++List.replicate (N-vs.length) bF))) ((a0.put n9.dst v0).put tp.dst Cm).tmps:=by
   rw[YM,aVr];exact(qq.put (some hU) (.bu _)).put (some bP) bC
  refine aKU (call:=iq b1 n) Ud (oA.size-2) 2 _ H _ w μ ae (by omega) mX h sb aI ?_
  rintro bw bc ⟨cH,cJ,cn,f1,d1⟩;rw[put_defers,put_defers,vZ]at d1;refine wpSIn_of_wpIn rfl ?_;refine IJ ai fh n base pQ e2 none m _ _ _ _ _ bl cH cJ bc bw _ cn.ak f1 ?_;rintro a2 dJ ⟨h',lU,dP,f2,d2⟩
  obtain⟨H3,aKT,_⟩:=Pz (fn:=fn) (xL:=[]) (r:=.bQ []) dP.ak f2 (by rw[j2];rfl) rfl
  exact⟨by rw[d2,d1],rV,lR,H3,aKT,a6 H3 h' lU dJ (cn.trans dP)⟩
 have kF:∀(v0 Cm:Value) (a:Act),a.tmps.size=N->(Instr.typeAssert v0 L2 jR true).run P w=.ok Cm w->(execOp (a.put n9.dst v0).eval tp).run P w=.ok (.value Cm) w:=by
  intro v0 Cm a dk fv
  have aj:(a.put n9.dst v0).eval (.tmp hU)=v0:=by
   rw[YM];simp[Act.eval,Act.put,dk,Bq]
  unfold execOp;simp only[PA,aj,Sem.run_bind,fv,ev,Sem.run_pure]
 have dk:a0.tmps.size=N:=by
  rw[ZQ qq,c0,List.length_replicate];omega
 simp only[wpOpsSIn,cP,gU];refine⟨fun _ _=>trivial,?_⟩
 rw[bE (by simp[Region.wanted,aRC]),aBF]
 cases hu with
 |fK x c af=>
   have xp:recoverD (hg::E6)=some (.iface jR c,{ hg with mode:=.panicking [{ v:=.iface jR c,recovered:=true }] }::E6):=by
    simp only[recoverD,pO]
   simp only[xp];refine⟨fun _ _=>trivial,?_⟩
   rw[bE (by simp[Region.wanted,awc]),kF _ _ _ dk (fU c w)]
   refine tail _ _ _ rfl (.bQ _ _ rfl fun i p q ay bJ=>?_)
   match i with
   |0=>simp at ay bJ;subst ay;subst bJ;exact af
   |1=>simp at ay bJ;subst ay;subst bJ;exact .s _
   |i+2=>simp at ay
 |nil=>
   have xp:recoverD (hg::E6)=none:=by
    simp only[recoverD,pO]
   simp only[xp];refine⟨fun _ _=>trivial,?_⟩
   rw[bE (by simp[Region.wanted,awc]),kF _ _ _ dk (aDW w)]
   refine tail _ _ _ (by rw[<- pO]) (.bQ _ _ rfl fun i p q ay bJ=>?_)
   match i with
   |0=>simp at ay bJ;subst ay;subst bJ;exact bK _ _ _
   |1=>simp at ay bJ;subst ay;subst bJ;exact .s _
   |i+2=>simp at ay
end
section
variable {aK:eX} {μ cf:cp} {ae b9:Nat->Prop} {w w':World} {H H':ad} {P:Program} {pure':fA} {b1:Nat->Option cz} {PP:Nat->List V->Nat->ad->fu->Prop} {X:Nat->Bool}
def awJ{ej:cp}{dY:Nat->Prop}{dv:World}{cK:ad}{fn:Func}{tmps:Array Value}{x:V}{c:Value}{jo:List V}{R:Ending->World->Prop}{n:Nat}{u:FrameMode}{de:List Deferred}(hu:u≠.run)(MY:∀w',c8 aK ej dY dv cK μ ae w' H->c7 μ ae w' jo tmps->bS μ ae w' x c->LeavesInM Fence.wide n P fn tmps R de u w'):
 ∀(L:List Nat) (w:World),c8 aK ej dY dv cK μ ae w H->c7 μ ae w jo tmps->bS μ ae w x c->L.Nodup->(∀D∈L,dv.heap.size<=D/\w.heap[D]?=some (.deferred (some []))/\∀id g b,μ id g≠some (D,b))->
   LeavesInM Fence.wide n P fn tmps R (L.map Pw++de) u w:=by
 intro L
 induction L with
 |nil=>simp_all
 |cons D L aF=>
   intro w ay al av lN cU;obtain⟨J,aa,aI⟩:=cU D hJ;refine⟨hu,.inl ⟨D,_,rfl,run_takeDeferred aa,?_⟩⟩;obtain⟨cn,an⟩:=Tm (y:=none) ay J aa aI;refine aF _ cn ⟨al.1,fun i a b aO ah=>an (al.2 i a b aO ah)⟩ (an av) (ble.1 lN).2 (fun E bp=>?_);obtain⟨k1,k2,eN⟩:=cU E (d9 _ bp)
   have eS:E≠D:=fun e=>by simp_all
   exact⟨k1,(World.putObj_heap_other eS).trans k2,eN⟩
def aaJ(P:Program)(pure':fA)(b1:Nat->Option cz)(k hU bP N:Nat)(jR:TypeId)(z:V)(fN:List bx)(xt:bZ):Prop:=
 (∀xs w,(callFunc k xs).run P w=.ok (.enter k xs) w)/\
 ∀{u rV:FrameMode} {y:V} {μ:cp} {ae:Nat->Prop} {w:World} {H:ad},cE (eU P pure') μ ae w H->∀{vs:List V} {cs:List Value},b6 μ ae w vs cs->vs.length<=N->Jw jR z μ ae w u rV y->
   ∀{n base:Nat} {iN Oe:List V} {cV gv:ad},cI (iq b1 n) base (fN.drop 2) (put (some bP) y (put (some hU) .bu (vs++List.replicate (N-vs.length) bF))) H=some (iN,cV)->
   aL (iq b1 n) (fun b k m=>gd b k m n) base xt iN cV=some (.bR,Oe,gv)->∀{m:Nat} {R:Ending->FrameMode->World->Prop},(∀v cf b9 w',c8 (eU P pure') μ ae w H cf b9 w' gv->R (.returned v) rV w')->CallsDIn Fence.wide m P k cs.toArray u w R
structure od where
 N:Nat
 bO:bZ
 b4:bZ
 dZ:bZ
 DN:bZ
 a:Nat
 b:Nat
 c:Nat
 d:Nat
 k1:Nat
 hU:Nat
 bP:Nat
 Bx:Nat
 jR:TypeId
 z:V
 fN:List bx
 xt:bZ
 rs:List l2
def od.cond(D:od)(g0 g1 g2:V):nx:=fun l fr=>(fr.getD D.a .bu=g0/\fr.getD D.b .bu=g1/\fr.getD D.c .bu=g2)/\∀o∈l,o.dst≠some D.a/\o.dst≠some D.b/\o.dst≠some D.c
def od.vc(D:od)(call:c5)(it:hE)(base:Nat)(y g0 g1 g2:V)(H H':ad):Prop:=
 ∃f3 cV f4,cI call base (D.fN.drop 2) (put (some D.bP) y (put (some D.hU) .bu ([g0,g1,g2]++List.replicate (D.Bx-3) bF))) H=some (f3,cV)/\aL call it base D.xt f3 cV=some (.bR,f4,H')
def od.A'(D:od)(call:c5)(it:hE)(fK:rM)(vs:List V)(base:Nat)(H:ad)(v:V)(H':ad):Prop:=
 ∃cw H1 qu bH,aL call it base D.bO (vs++List.replicate (D.N-vs.length) bF) H=some (.bR,cw,H1)/\aL call it base D.b4 cw H1=some (.bR,qu,bH)/\
 ((∃iN,aL call it base D.dZ qu bH=some (.ret,iN,H')/\ky D.rs iN H'=some v)\/
  ∃iN cV g0 g1 g2,aL call it base D.dZ qu bH=some (.bR,iN,cV)/\D.d<iN.length/\iN.getD D.a .bu=g0/\iN.getD D.b .bu=g1/\iN.getD D.c .bu=g2/\
   ((∃e Gg rf,(e=.bR\/e=.ret)/\aL call it base D.DN (put (some D.d) (.fn D.k1 [] [g0,g1,g2]) iN) cV=some (e,Gg,rf)/\D.vc call it base (.bQ [D.z,.s (.bool false)]) g0 g1 g2 rf H'/\ky D.rs Gg H'=some v)\/
    ∃x FY,gg call fK it base (D.cond g0 g1 g2) D.DN (put (some D.d) (.fn D.k1 [] [g0,g1,g2]) iN) cV (D.jR,x,FY)/\D.vc call it base (.bQ [x,.s (.bool true)]) g0 g1 g2 FY H'/\ky D.rs (put (some D.d) (.fn D.k1 [] [g0,g1,g2]) iN) H'=some v))
def od.alQ{D:od}{c c':c5}(h:tN c c'){n ek:Nat}(aJ:n<=ek){base:Nat}{y g0 g1 g2:V}{H H':ad}(k:D.vc c (pJ n) base y g0 g1 g2 H H'):D.vc c' (pJ ek) base y g0 g1 g2 H H':=by
 obtain⟨f3,cV,f4,J,aa⟩:=k;exact⟨f3,cV,f4,Lq h _ J,Bu h aJ _ aa⟩
def od.afr{D:od}{base:Nat}{y g0 g1 g2:V}{H H':ad}(k:D.vc (aR b1) aN base y g0 g1 g2 H H'):∃n,D.vc (iq b1 n) (pJ n) base y g0 g1 g2 H H':=by
 obtain⟨f3,cV,f4,J,aa⟩:=k;obtain⟨cC,aE⟩:=acV _ J;obtain⟨b5,aU⟩:=uf _ aa;exact⟨max cC b5,f3,cV,f4,Lq (rK (uF cC b5)) _ aE,nw (pW cC b5) aU⟩
def od.aSp{D:od}{vs:List V}{base:Nat}{H:ad}{v:V}{H':ad}(h:D.A' (aR b1) aN (o2 b1 PP X) vs base H v H'):∃n,D.A' (iq b1 n) (pJ n) (yB b1 PP X n) vs base H v H':=by
 obtain⟨cw,H1,qu,bH,J,aa,h⟩:=h;obtain⟨cC,aE⟩:=uf _ J;obtain⟨b5,aU⟩:=uf _ aa
 rcases h with⟨iN,aI,ak⟩|⟨iN,cV,g0,g1,g2,aI,aQ,asu,k1,k2,h⟩
 .obtain⟨n3,cd⟩:=uf _ aI
  refine⟨max cC (max b5 n3),cw,H1,qu,bH,nw (by omega) aE,nw (by omega) aU,.inl ⟨iN,nw (by omega) cd,ak⟩⟩
 .obtain⟨n3,cd⟩:=uf _ aI
  rcases h with⟨e,Gg,rf,he,cO,xp,ak⟩|⟨x,FY,ay,xp,ak⟩
  .obtain⟨Jt,fG⟩:=uf _ cO;obtain⟨n5,l6⟩:=od.afr xp
   exact⟨max (max cC b5) (max n3 (max Jt n5)),cw,H1,qu,bH,nw (by omega) aE,nw (by omega) aU,.inr ⟨iN,cV,g0,g1,g2,nw (by omega) cd,aQ,asu,k1,k2,.inl ⟨e,Gg,rf,he,nw (by omega) fG,od.alQ (rK (by omega)) (by omega) l6,ak⟩⟩⟩
  .obtain⟨Jt,fG⟩:=YY _ ay;obtain⟨n5,l6⟩:=od.afr xp
   exact⟨max (max cC b5) (max n3 (max Jt n5)),cw,H1,qu,bH,nw (by omega) aE,nw (by omega) aU,.inr ⟨iN,cV,g0,g1,g2,nw (by omega) cd,aQ,asu,k1,k2,.inr ⟨x,FY,Ms (rK (by omega)) (L5 (by omega)) (by omega) _ fG,od.alQ (rK (by omega)) (by omega) l6,ak⟩⟩⟩
def aPC{rs:List l2}{fr aW:List V}{H:ad}(h:∀r∈rs,fr.getD r.slot .bu=aW.getD r.slot .bu):ky rs fr H=ky rs aW H:=by
 have key:∀rs:List l2,(∀r∈rs,fr.getD r.slot .bu=aW.getD r.slot .bu)->rs.mapM (kJ fr H)=rs.mapM (kJ aW H):=by
  intro rs
  induction rs with
  |nil=>intro _;rfl
  |cons r rs aF=>
    intro h
    have e:kJ fr H r=kJ aW H r:=by
     have:=h r hJ;cases r<;>simp only[kJ,l2.slot]at this |-<;>rw[this]
    simp_all
 unfold ky;rw[key rs h]
def aCs(fh:P.follows .mixedOrders=true)(jg:∀k c,b1 k=some c->iP P pure' k c)(jj:∀k fn body,X k=true->P.funcs[k]?=some fn->fn.body=some body->oq body=true)(MH:Yg P pure' PP){D:od}{k LI:Nat}{fn:Func}{m0 m1 m2 xl:Code}{bM pg:Oper}{jS:Array TypeId}(al : P.funcs[k]? = some fn)(ah : fn.body = some (.seq m0 (.seq m1 (.seq m2 (.seq (.region LI #[bM, pg] false) xl)))))(r0 : (fn.name == "runtime.NumGoroutine") = false)(Iu : fn.ntmps = D.N)(hg:hD P pure' m0 D.bO)(f0:rn m0=true)(cj:hD P pure' m1 D.b4)(f1:rn m1=true)(cZ:hD P pure' m2 D.dZ)(f2:rn m2=true)(JR:hD P pure' xl D.DN)(n9:oq xl=true)(ga:qh P pure'.b bM=some (.ez D.k1 [] [.t D.a,.t D.b,.t D.c]))(VB:bM.dst=some D.d)(dp:bM.guard=none)(p5:pg.op=.defer { callee:=.value (.tmp D.d),args:=#[],argTypes:=jS })(Yk:pg.dst=none)(wK:pg.guard=none)(TA:D.d≠D.a/\D.d≠D.b/\D.d≠D.c)(Cn:fn.results.toList.mapM (CW P)=some D.rs)(aM6:∀r∈D.rs,r.slot=D.a\/r.slot=D.b\/r.slot=D.c)(aDA:3<=D.Bx)(xp:aaJ P pure' b1 D.k1 D.hU D.bP D.Bx D.jR D.z D.fN D.xt){g:List V->Nat->ad->Option (V × ad)}(a8:∀vs base H r H',g vs base H=some (r,H')->D.A' (aR b1) aN (o2 b1 PP X) vs base H r H'):iP P pure' k (.hP g):=by
 refine⟨Go.Proofs.enters_of al r0 ah,fun vs base H r H' azS=>?_⟩;obtain⟨n,aJ⟩:=od.aSp (a8 _ _ _ _ _ azS);have ai:=DS fh jg n;have af:=aRv (PP:=PP) (X:=X) fh jg jj MH n;obtain⟨cw,H1,qu,bH,J,aa,aJ⟩:=aJ;have Cl:=(uA ai.floor n _ J).trans (uA ai.floor n _ aa)
 have ast:∀{y g0 g1 g2:V} {K K':ad},D.vc (iq b1 n) (pJ n) base y g0 g1 g2 K K'->jC base K K':=fun h=>by
  obtain⟨f3,cV,f4,bj,aT⟩:=h;exact(SD ai.floor _ bj).trans (uA ai.floor n _ aT)
 refine⟨?_,fun μ ae w cs h db m=>?_⟩
 .rcases aJ with⟨iN,aI,_⟩|⟨iN,cV,g0,g1,g2,aI,_,_,_,_,⟨e,Gg,rf,_,cO,ak,_⟩|⟨x,FY,ay,ak,_⟩⟩
  .exact Cl.trans (uA ai.floor n _ aI)
  .exact(Cl.trans (uA ai.floor n _ aI)).trans ((uA ai.floor n _ cO).trans (ast ak))
  .exact(Cl.trans (uA ai.floor n _ aI)).trans ((acu ai.floor af.floor n base _ ay).trans (ast ak))
 .refine callsIn_of_wp_marks al ah trivial ?_;obtain⟨a0,tB⟩:∃a0:Act,{ tmps:=cs.toArray++Array.replicate (fn.ntmps-cs.toArray.size) Go.undef,defers:=[] }=a0:=⟨_,rfl⟩
  have vZ:a0.defers=[]:=by rw[<- tB]
  have qq:c7 μ ae w (vs++List.replicate (D.N-vs.length) bF) a0.tmps:=by
   unfold c7;have:=db.append (IM (μ:=μ) (ae:=ae) (w:=w) (D.N-vs.length));rw[<- tB,Iu];simp only[Lx,PG,tr];rw[db.1]at this |-;exact this
  rw[tB];refine wpIn_seq (IJ ai fh n base hg f0 none m _ _ _ _ _ J μ ae w a0 _ h qq ?_);rintro bw bc ⟨cH,cJ,cn,bj,d1⟩;rw[vZ]at d1;refine wpIn_seq (IJ ai fh n base cj f1 none m _ _ _ _ _ aa cH cJ bc bw _ cn.ak bj ?_);rintro a2 dJ ⟨h',lU,dP,aT,d2⟩;rw[d1]at d2
  have leave:∀{jo:List V} {oE:Act} {xy:World} {Dc:cp} {DJ:Nat->Prop} {Eg:ad},c8 (eU P pure') μ ae w H Dc DJ xy Eg->c7 Dc DJ xy jo oE.tmps->ky D.rs jo Eg=some r->Eg=H'->LeavesInM Fence.wide m P fn oE.tmps (mZ (eU P pure') μ ae w H r H') [] .returning xy:=fun pp Lo ak bm=>by
   subst bm;obtain⟨bA,k1,k2⟩:=Pz pp.ak Lo Cn ak;exact⟨bA,k1,bA,_,_,rfl,k2,pp⟩
  rcases aJ with⟨iN,aI,j2⟩|⟨iN,cV,g0,g1,g2,aI,Cr,cX,aE,aU,aJ⟩
  .refine wpIn_seq (IJ ai fh n base cZ f2 none m _ _ _ _ _ aI h' lU dJ a2 _ dP.ak aT ?_);rintro a3 fI ⟨Gb,O1,gn,a1,d3⟩;rw[d2]at d3;show LeavesInM Fence.wide m P fn a3.tmps _ a3.defers .returning fI;rw[d3];exact leave ((cn.trans dP).trans gn) a1 j2 rfl
  .refine wpIn_seq (IJ ai fh n base cZ f2 none m _ _ _ _ _ aI h' lU dJ a2 _ dP.ak aT ?_);rintro a3 fI ⟨Gb,O1,gn,a1,d3⟩;rw[d2]at d3;have aNs:=(cn.trans dP).trans gn;refine wpIn_seq (wpIn_region ?_);show wpOpsIn (ix none) m P #[bM,pg] _ [0,1] a3 fI
   refine EE (o:=bM) rfl dp (xi ai gn.ak a1 (.inl ga) (base:=base) (v:=.fn D.k1 [] [g0,g1,g2]) (H':=cV) (by simp only[bf,dW,hC,aV,cX,aE,aU]) ?_)
   rintro ZP jF ⟨aX1,Hh,HJ,M0,aO4,rj⟩;cases M0;have cB:c7 Hh HJ jF (put (some D.d) (.fn D.k1 [] [g0,g1,g2]) iN) (a3.put bM.dst ZP).tmps:=Pb gn.ak rj a1 VB aO4;obtain⟨a4,afV⟩:∃a4,a3.put bM.dst ZP=a4:=⟨_,rfl⟩
   have d4:a4.defers=[]:=by rw[<- afV,put_defers,d3]
   rw[afV]at cB |-;have aUl:=aNs.trans rj
   have xO:bS Hh HJ jF (.fn D.k1 [] [g0,g1,g2]) (a4.eval (.tmp D.d)):=by
    have a8:=cB.getD D.d;rw[Hu _ _ _ _ Cr,bE rfl]at a8;exact a8
   obtain⟨fF,e8,C5,rr,aK7⟩:∃(fF e8:Array Value),a4.eval (.tmp D.d)=.func (.func D.k1) fF e8/\fF=#[]/\b6 Hh HJ jF [g0,g1,g2] e8.toList:=by
    generalize a4.eval (.tmp D.d)=cr at xO;cases xO with
    |fn _ _ _ fF e8 k1 k2 eN j5=>exact⟨fF,e8,rfl,Vj (by grind),by simpa using k2,fun i p q ay bJ=>j5 i p q ay (by simpa using bJ)⟩
   subst rr;refine EE (o:=pg) rfl wK ⟨fun _ _=>trivial,?_⟩
   have aBa:(Oper.semAt none a4.eval pg).run P jF=.ok (.defer { target:=.fn (.func D.k1) e8,args:=#[] }) jF:=by
    rw[Oper.semAt_none];unfold execOp;simp only[p5,resolve,C5,Deferred.ofValue,Sem.run_bind,Sem.run_pure,ev];simp
   show Oper.uponIn (ix none) m P pg a4 _ _ ((Oper.semAt none a4.eval pg).run P jF);rw[aBa];simp only[Oper.uponIn,wpOpsIn];rw[Yk,d4];show Code.wpIn (ix none) m P xl _ { a4 with defers:=[{ target:=.fn (.func D.k1) e8,args:=#[] }] } jF
   have hinv:∀w,(invoke (.fn (.func D.k1) e8) #[]).run P w=.ok (.enter D.k1 e8) w:=fun w=>by
    simp only[invoke,xp.1]
    simp_all
   have agX:∀{u rV:FrameMode} {y:V} {jo:List V} {kS:Array Value} {xy:World} {Dc:cp} {DJ:Nat->Prop} {Eg:ad},u≠.run->settle rV=.returning->c8 (eU P pure') Hh HJ jF cV Dc DJ xy Eg->c7 Dc DJ xy jo kS->Jw D.jR D.z Dc DJ xy u rV y->D.vc (iq b1 n) (pJ n) base y g0 g1 g2 Eg H'->ky D.rs jo H'=some r->
    LeavesInM Fence.wide m P fn kS (mZ (eU P pure') μ ae w H r H') [{ target:=.fn (.func D.k1) e8,args:=#[] }] u xy:=fun {u rV y jo kS xy Dc DJ Eg} hu aDm pp Lo ab ak j2=>by
    obtain⟨f3,hQ,f4,bP,ca⟩:=ak
    refine⟨hu,.inr ⟨fun h=>by simp[Fence.wide]at h,.func D.k1,e8,D.k1,e8,rfl,hinv xy,fun _ _=>trivial,?_⟩⟩
    have Kc:=xp.2 (m:=m-1) pp.ak (pp.J3 rj.ak aK7) (show[g0,g1,g2].length<=D.Bx from aDA) ab (n:=n) (base:=base) bP ca (R:=fun e rV w'=>∃v,e=.returned v/\LeavesInM Fence.wide m P fn kS (mZ (eU P pure') μ ae w H r H') [] (settle rV) w') (fun v aYJ aXa aXi Q1=>by
     refine⟨v,rfl,?_⟩;rw[aDm];obtain⟨bA,k1,k2⟩:=Pz Q1.ak (Lo.post pp.ak Q1) Cn j2;exact⟨bA,k1,bA,_,_,rfl,k2,(aUl.trans pp).trans Q1⟩)
    rw[Cb]at Kc;refine Kc.mono ?_
    simp_all
   rcases aJ with⟨e,Gg,rf,he,cO,ak,j2⟩|⟨x,FY,ay,ak,j2⟩
   .refine HI ai fh n base JR none m _ _ _ _ _ cO Hh HJ jF { a4 with defers:=[{ target:=.fn (.func D.k1) e8,args:=#[] }] } _ rj.ak cB (fun l aq=>by cases aq) ?_
    rintro a5 Ho ⟨aV4,aK0,Ye,gj,L,cU,lN,ES⟩
    have fin:LeavesInM Fence.wide m P fn a5.tmps (mZ (eU P pure') μ ae w H r H') a5.defers .returning Ho:=by
     rw[cU]
     exact awJ (by simp) (x:=bF) (c:=Go.undef) (fun zX Qx hA _=>agX (by simp) rfl Qx hA .nil ak j2) L Ho Ye gj (.s _) lN ES
    rcases he with rfl|rfl
    .exact fin
    .exact fin
   .refine abB ai af fh n base JR n9 none m _ _ _ ay Hh HJ jF { a4 with defers:=[{ target:=.fn (.func D.k1) e8,args:=#[] }] } _ rj.ak cB (fun l aq=>by cases aq) ?_
    rintro dI a5 Ho ⟨bA,aV4,aK0,aYC,aYA,jo,rfl,aFE,Ye,⟨L,cU,lN,ES⟩,kG,bk,gj⟩;show LeavesInM Fence.wide m P fn a5.tmps _ a5.defers _ Ho;rw[cU];obtain⟨⟨e0,fe,eI⟩,Ev⟩:=kG
    have aD9:ky D.rs jo H'=some r:=by
     rw[<- j2];refine aPC fun q bJ=>?_
     rcases aM6 q bJ with h|h|h<;>rw[h]
     .rw[bk _ (fun o aX=>(Ev o aX).1),e0,NQ (fun e=>TA.1 (kI e)),cX]
     .rw[bk _ (fun o aX=>(Ev o aX).2.1),fe,NQ (fun e=>TA.2.1 (kI e)),aE]
     .rw[bk _ (fun o aX=>(Ev o aX).2.2),eI,NQ (fun e=>TA.2.2 (kI e)),aU]
    exact awJ (by simp) (fun zX Qx hA v6=>agX (by simp) rfl Qx hA (.fK x bA v6) ak aD9) L Ho Ye gj aFE lN ES
end
end Go.ea
set_option maxRecDepth 100000
namespace Go.Proofs.YtngfpadeebpoeaaGreatDoor
open Go.ea
abbrev DU:Nat:=30
def xT:=[1,2]++List.range' 4 102
def auu:=[bws 4 (cc 0)]
def Pu:=q 3 (.alloc [c9,c9])::auu
def Nf:=[bws 2 EL]
def Wp:=Nf++Pu
def ED:=List.range' 1 105
def aVv(call:c5)(it:hE)(base:Nat)(f:List V)(H:ad):aL call it base (.region Wp [] xT) f H=HP call it base Pu xT H (jN (nh Nf ED []) ED f H) (vA call it base Wp xT f H):=awz call it base Nf Pu (by kernel_rfl) f H
def aqp:=[aw 11 0,q 12 (.da .p (.t 11)),q 13 (.bin .gtr (.t 12) (cc 1048576))]
def atg:=[bws 4 (cc 2)]
def abF:=dO 2 3 14::atg
def aLF:=[q 14 (.build [c9,c9] [(0,1),(1,1)] []),bws 2 EL]
def Y2:=aLF++abF
def aul:=[dO 1 5 18]
def awf:=q 5 (.alloc [.s (.pointer none)])::aul
def awD:=q 18 (.box (.t 17))::awf
def aDg:=[q 15 (.build [c9,c9] [(0,1),(1,1)] [(0,cc 1),(1,cc 1)]),aw 16 0,q 17 (.build [c9,c9,cF,c9] [(0,2),(2,1),(3,1)] [(0,.t 15),(1,.t 16)])]
def aqX:=aDg++awD
def aiX:=[q 6 (.alloc [e9])]
def abz:=[q 19 (.ez 77 [] [.t 6,.t 5]),aw 7 19]
def afn:=[b3 20 5,eV 21 20,bM 22 3 21,b3 23 22,aw 24 0,q 25 (.da .p (.t 24)),q 26 (.bin .lss (.t 23) (.t 25))]
def axz:=[aw 27 0,b3 28 5,eV 29 28,bM 30 3 29,b3 31 30,q 32 (.pk (.t 27) (.t 31)),aw 8 32]
def afg:=[q 40 (.bin .geq (.t 39) (cc 0)),aw 37 40]
def ajt:=cL 39 79 [cM #[32,9,13,10],.t 38]::afg
def aUw:=[aw 38 8]
def asC:=aUw++ajt
def anC:=[cL 42 78 [.t 41,cc 1]]
def aJO:=[b3 41 5]
def aaT:=aJO++anC
def Zs:=[aw 44 8,q 45 (.bin .eql (.t 44) (cR 59)),aw 43 45]
def acH:=[cL 49 78 [.t 46,.t 48]]
def adW:=q 48 (.mK (.c (.fn 80 [] [])) [.t 47,.c (.fn 81 [] [])])::acH
def aBZ:=[b3 46 5,b3 47 5]
def agP:=aBZ++adW
def aoN:=[aw 50 52]
def axK:=cL 52 82 [.t 51]::aoN
def aRy:=[aw 51 8]
def alZ:=aRy++axK
def asS:=[q 56 (.call (.t 53) [cR 1,.t 55])]
def ati:=cL 55 80 [.t 54,.c (.fn 83 [] [])]::asS
def aG5:=[aw 53 7,b3 54 5]
def ac8:=aG5++ati
def aam:=[aw 57 59]
def awA:=cL 59 84 [.t 58]::aam
def aS3:=[aw 58 8]
def ZV:=aS3++awA
def aiw:=[aw 9 61]
def ZI:=cL 61 80 [.t 60,.c (.fn 84 [] [])]::aiw
def aTK:=[b3 60 5]
def asF:=aTK++ZI
def alF:=[ew 75 9 72 false,bD 76 (.bin .gtr (.t 74) (.t 75)) 72 false,dF 77 (.t 72) bwd (.t 76)]
def ab4:=bD 74 (.call (.c (.fn 80 [] [])) [.t 73,.c (.fn 83 [] [])]) 72 false::alF
def abX:=dN 73 5 72 false::ab4
def aH3:=[aw 62 9,q 63 (.bin .gtr (.t 62) (cc 9)),aw 64 63,ew 65 9 64 false,bD 66 (.bin .gtr (.t 65) (cc 1)) 64 false,ew 67 66 64 false,ew 68 8 67 true,bD 69 (.bin .eql (.t 68) (cR 48)) 67 true,bD 70 (.pick (.t 67) (.t 69) dd) 64 false,dF 71 (.t 64) bwd (.t 70),aw 72 71]
def aeg:=aH3++abX
def asc:=[bws 4 (cc 31)]
def ac1:=dO 2 3 81::asc
def aS1:=[b3 78 5,eV 79 78,bM 80 0 79,q 81 (.load true 2 (.t 80)),bws 2 EL]
def awP:=aS1++ac1
def akt:=[aw 10 84]
def ae1:=q 84 (.call (.t 82) [cR 2,.t 83])::akt
def aC4:=[aw 82 7,aw 83 9]
def aeT:=aC4++ae1
def axL:=[dO 1 95 92]
def ay6:=[aw 85 91,iD 92 85 0,iD 93 85 1,eV 94 86,bM 95 2 94]
def atd:=ay6++axL
def afD:=cL 91 85 [.t 90]::atd
def aAZ:=[aw 86 10,aw 87 10,eV 88 87,bM 89 1 88,b3 90 89]
def ape:=aAZ++afD
def aop:=[q 99 (.bin .geq (.t 98) (cc 0)),aw 96 99]
def aoU:=cL 98 79 [cM #[61,44,58,40,41,123,125,91,93],.t 97]::aop
def aRf:=[aw 97 8]
def Zq:=aRf++aoU
def as2:=[q 101 (.call (.t 100) [cR 3,cc 1])]
def aAW:=[aw 100 7]
def adM:=aAW++as2
def asa:=[bws 4 (cc 30)]
def ab0:=dO 2 3 36::asa
def aGF:=[b3 33 5,eV 34 33,bM 35 0 34,q 36 (.load true 2 (.t 35)),bws 2 EL]
def amh:=aGF++ab0
def RH:bZ:=
 (.seq (.seq (.bh afn [20,21,22,23,24,25] [26])
 (.cond (.t 26)
 .skip
 (.exit 0)))
 (.block 1
 (.seq (.bh axz [26,27,28,29,30,31,32] [8])
 (.block 2
 (.seq (.region asC [] [38,39,40])
 (.cond (.t 37)
 (.region aaT [] [8,37,41,42])
 (.seq (.bh Zs [37,44,45] [43])
 (.cond (.t 43)
 (.region agP [] [8,43,46,47,48,49])
 (.seq (.region alZ [] [43,51,52])
 (.cond (.t 50)
 (.region ac8 [] [8,50,53,54,55,56])
 (.seq (.region ZV [] [50,58,59])
 (.cond (.t 57)
 (.seq (.region asF [] [57,60,61])
 (.seq (.seq (.region aeg [] [8,62,63,64,65,66,67,68,69,70,71,72,73,74,75,76])
 (.cond (.t 77)
 (.seq (.region awP [] [0,5,6,7,9,77,78,79,80,81])
 .ret)
 .skip))
 (.seq (.region aeT [] [9,77,82,83,84])
 (.region ape [] [10,85,86,87,88,89,90,91,92,93,94,95]))))
 (.seq (.region Zq [] [8,57,97,98,99])
 (.cond (.t 96)
 (.region adM [] [96,100,101])
 (.seq (.region amh [] [0,5,6,7,33,34,35,36,96])
 .ret)))))))))))))))
def ql:bZ:=RH
def YC:=[q 103 (.call (.t 102) [cR 4,cc 0])]
def aMn:=[aw 102 7]
def aa9:=aMn++YC
def am4:=[bws 4 (cc 0)]
def apo:=dO 2 3 105::am4
def aCY:=[b3 104 6,q 105 (.build [c9,c9] [(0,1),(1,1)] []),aw 2 104]
def awY:=aCY++apo
def qY:dm:={ ntmps:=106,results:=[.tmp 2,.cell 3 true 2,.tmp 4],body:=
 (.seq (.region Wp [] xT)
 (.seq (.seq (.bh aqp [11,12] [13])
 (.cond (.t 13)
 (.seq (.region Y2 [] [0,13,14])
 .ret)
 .skip))
 (.seq (.region aqX [] [13,15,16,17,18])
 (.seq (.region aiX [] [])
 (.seq (.bh abz [19] [7])
 (.seq (.block 0
 (.loop [] ql))
 (.seq (.region aa9 [] [0,5,7,26,102,103])
 (.seq (.region awY [] [6,104,105])
 .ret)))))))) }
theorem U9:eL (List.range' 1 (qY.ntmps-1)) qY.body=true:=by kernel_rfl
abbrev VI:Nat:=77
def Dl:=List.range' 4 35
theorem aFP:gN Dl (fL 39 [] 4)=[]:=by kernel_rfl
def aem:=[q 6 (.move (.c (.s (.pointer none))))]
def auM:=[dO 1 2 30]
def ats:=q 30 (.append 5 48 (.t 7) (.t 29))::auM
def af0:=q 29 (.gh 5 1 [h9,cF,c9,c9,c9] [(0,.t 28)])::ats
def aEs:=[b3 7 2,aw 8 0,b3 9 3,eV 10 9,bM 11 2 10,b3 12 11,b3 13 3,eV 14 13,bM 15 3 14,b3 16 15,b3 17 3,eV 18 17,bM 19 3 18,b3 20 19,aw 21 1,q 22 (.bin .add (.t 20) (.t 21)),q 23 (.sk (.t 12) (some (.t 16)) (some (.t 22))),b3 24 3,eV 25 24,bM 26 0 25,q 27 (.load true 2 (.t 26)),q 28 (.build [h9,cF,c9,c9,c9] [(0,1),(1,1),(2,1),(3,2)] [(0,.t 8),(1,.t 23),(3,.t 27)])]
def ajm:=aEs++af0
def aqW:=[cL 33 78 [.t 31,.t 32]]
def aON:=[b3 31 3,aw 32 1]
def arV:=aON++aqW
def ajK:=[b3 34 2,b3 35 2,q 36 (.da .s (.t 35)),q 37 (.bin .sub (.t 36) (cc 1)),ji 38 5 34 37,aw 6 38]
def Aq:dm:={ ntmps:=39,results:=[.tmp 6],body:=
 (.seq (.bh aem Dl [])
 (.seq (.region ajm [] [0,7,8,9,10,11,12,13,14,15,16,17,18,19,20,21,22,23,24,25,26,27,28,29,30])
 (.seq (.region arV [] [1,3,31,32,33])
 (.seq (.bh ajK [2,34,35,36,37,38] [6])
 .ret)))) }
abbrev Qd:Nat:=78
def I4:=[1,2,3]++List.range' 6 42
theorem aD3:gN I4 (fL 48 [] 2)=[(4,bF),(5,bF)]:=by kernel_rfl
def akL:=[aw 4 1,bws 5 (cc 0)]
def axX:=[q 6 (.bin .lss (.t 5) (.t 4))]
def adw:=[dO 1 15 12]
def aJN:=[aw 7 0,eV 8 7,bM 9 0 8,bM 10 1 9,b3 11 10,q 12 (.bin .add (.t 11) (cc 1)),eV 13 7,bM 14 0 13,bM 15 1 14]
def aa3:=aJN++adw
def avl:=[aw 16 0,eV 17 16,bM 18 2 17,b3 19 18,aw 20 0,eV 21 20,bM 22 3 21,b3 23 22,q 24 (.pk (.t 19) (.t 23)),q 25 (.bin .eql (.t 24) (cR 10))]
def axZ:=[eB (.store 1 (.t 39) (cc 1))]
def aWx:=[eV 37 27,bM 38 0 37,bM 39 1 38]
def aly:=aWx++axZ
def aen:=dO 1 36 33::aly
def aHh:=[aw 26 0,aw 27 0,aw 28 0,eV 29 28,bM 30 0 29,bM 31 0 30,b3 32 31,q 33 (.bin .add (.t 32) (cc 1)),eV 34 26,bM 35 0 34,bM 36 0 35]
def abm:=aHh++aen
def ak2:=[dO 1 46 44]
def aFX:=[aw 40 0,eV 41 40,bM 42 3 41,b3 43 42,q 44 (.bin .add (.t 43) (cc 1)),eV 45 40,bM 46 3 45]
def aeL:=aFX++ak2
def ahE:=[q 47 (.bin .add (.t 5) (cc 1)),aw 5 47]
def QE:bZ:=
 (.seq (.bh axX [] [6])
 (.seq (.cond (.t 6)
 .skip
 (.exit 0))
 (.seq (.block 1
 (.seq (.region aa3 [] [6,7,8,9,10,11,12,13,14,15])
 (.seq (.seq (.bh avl [16,17,18,19,20,21,22,23,24] [25])
 (.cond (.t 25)
 (.region abm [] [25,26,27,28,29,30,31,32,33,34,35,36,37,38,39])
 .skip))
 (.region aeL [] [25,40,41,42,43,44,45,46]))))
 (.bh ahE [47] [5]))))
def Yl:bZ:=QE
def xo:dm:={ ntmps:=48,results:=[],body:=
 (.seq (.bh akL I4 [4,5])
 (.block 0
 (.loop [] Yl))) }
abbrev VH:Nat:=80
def Ik:=List.range' 2 34
theorem aU9:gN Ik (fL 36 [] 2)=[]:=by kernel_rfl
def ahW:=[bws 4 (cc 0)]
def afS:=[bws 5 (cc 0)]
def YE:=[dF 32 (.t 18) (.t 31) dd]
def ads:=bD 31 (.call (.t 19) [.t 30]) 18 true::YE
def ap0:=bD 30 (.pk (.t 23) (.t 29)) 18 true::ads
def aqL:=bD 29 (.bin .add (.t 27) (.t 28)) 18 true::ap0
def amF:=ew 28 5 18 true::aqL
def axb:=dN 27 26 18 true::amF
def asP:=dp 26 3 25 18 true::axb
def anb:=bD 25 (.nilCheck (.t 24)) 18 true::asP
def axN:=ew 24 0 18 true::anb
def ax9:=dN 23 22 18 true::axN
def alO:=dp 22 2 21 18 true::ax9
def ajQ:=bD 21 (.nilCheck (.t 20)) 18 true::alO
def awa:=ew 20 0 18 true::ajQ
def an2:=ew 19 1 18 true::awa
def aU6:=[aw 6 0,eV 7 6,bM 8 3 7,b3 9 8,aw 10 5,q 11 (.bin .add (.t 9) (.t 10)),aw 12 0,eV 13 12,bM 14 2 13,b3 15 14,q 16 (.da .p (.t 15)),q 17 (.bin .lss (.t 11) (.t 16)),aw 18 17]
def akf:=aU6++an2
def as0:=[aw 33 5,q 34 (.bin .add (.t 33) (cc 1)),aw 5 34]
def Yx:bZ:=
 (.seq (.seq (.region akf [] [6,7,8,9,10,11,12,13,14,15,16,17,18,19,20,21,22,23,24,25,26,27,28,29,30,31])
 (.cond (.t 32)
 .skip
 (.exit 0)))
 (.block 1
 (.bh as0 [32,33,34] [5])))
def Tk:bZ:=Yx
def akK:=[aw 35 5,aw 4 35]
def Af:dm:={ ntmps:=36,results:=[.tmp 4],body:=
 (.seq (.bh ahW Ik [])
 (.seq (.bh afS [] [5])
 (.seq (.block 0
 (.loop [] Tk))
 (.seq (.bh akK [0,1,5,32,35] [4])
 .ret)))) }
abbrev Qv:Nat:=81
def N8:=[1,2,3,4]
theorem azE:gN N8 (fL 5 [] 1)=[]:=by kernel_rfl
def alr:=[bws 2 dd]
def YA:=[aw 3 0,q 4 (.bin .neq (.t 3) (cR 10)),aw 2 4]
def Ac:dm:={ ntmps:=5,results:=[.tmp 2],body:=
 (.seq (.bh alr N8 [])
 (.seq (.bh YA [0,3,4] [2])
 .ret)) }
abbrev OK:Nat:=82
def OD:=List.range' 1 20
theorem aJV:gN OD (fL 21 [] 1)=[]:=by kernel_rfl
def aoQ:=[bws 2 dd]
def alJ:=[aw 3 0,q 4 (.bin .geq (.t 3) (cR 97)),aw 5 4,ew 6 0 5 true,bD 7 (.bin .leq (.t 6) (cR 122)) 5 true,dF 8 (.t 5) (.t 7) dd,aw 9 8,ew 10 0 9 false,bD 11 (.bin .geq (.t 10) (cR 65)) 9 false,ew 12 11 9 false,ew 13 0 12 true,bD 14 (.bin .leq (.t 13) (cR 90)) 12 true,bD 15 (.pick (.t 12) (.t 14) dd) 9 false,dF 16 (.t 9) bwd (.t 15),aw 17 16,ew 18 0 17 false,bD 19 (.bin .eql (.t 18) (cR 95)) 17 false,dF 20 (.t 17) bwd (.t 19),aw 2 20]
def zC:dm:={ ntmps:=21,results:=[.tmp 2],body:=
 (.seq (.bh aoQ OD [])
 (.seq (.bh alJ [0,3,4,5,6,7,8,9,10,11,12,13,14,15,16,17,18,19,20] [2])
 .ret)) }
abbrev Wn:Nat:=83
def OQ:=List.range' 1 12
theorem ay5:gN OQ (fL 13 [] 1)=[]:=by kernel_rfl
def atW:=[bws 2 dd]
def avB:=[dF 8 (.t 5) bwd (.t 7),aw 9 8,ew 10 0 9 false,bD 11 (.bin .eql (.t 10) (cR 46)) 9 false,dF 12 (.t 9) bwd (.t 11),aw 2 12]
def aaM:=bD 7 (.call (.c (.fn 84 [] [])) [.t 6]) 5 false::avB
def aag:=ew 6 0 5 false::aaM
def aGq:=[aw 5 4]
def age:=aGq++aag
def as4:=cL 4 82 [.t 3]::age
def aPl:=[aw 3 0]
def abQ:=aPl++as4
def zi:dm:={ ntmps:=13,results:=[.tmp 2],body:=
 (.seq (.bh atW OQ [])
 (.seq (.region abQ [] [0,3,4,5,6,7,8,9,10,11,12])
 .ret)) }
abbrev L3:Nat:=84
def Nl:=List.range' 1 8
theorem aMt:gN Nl (fL 9 [] 1)=[]:=by kernel_rfl
def avd:=[bws 2 dd]
def apR:=[aw 3 0,q 4 (.bin .geq (.t 3) (cR 48)),aw 5 4,ew 6 0 5 true,bD 7 (.bin .leq (.t 6) (cR 57)) 5 true,dF 8 (.t 5) (.t 7) dd,aw 2 8]
def Al:dm:={ ntmps:=9,results:=[.tmp 2],body:=
 (.seq (.bh avd Nl [])
 (.seq (.bh apR [0,3,4,5,6,7,8] [2])
 .ret)) }
abbrev AV:Nat:=79
abbrev ZE:Nat:=85
def ri:=I (bk ED 0) (I (a6 ED 2) (I (a6 ED 3) (I (a6 ED 4) (I (aB Nf ED [] 3 [] [] [.cb (.s (.slice none 0 0))]) (I aVv (I (aC Pu [] xT) (I (cA auu xT [] 5 [] [] [.cb (.s (.int .i64 0))]) (I (bk xT 0) (I (a6 xT 2) (I (bk xT 3) (I (a6 xT 4) (I (aB aqp [11,12] [13] 14 [] [(13,fY .gtr 1048576 (.op (.da .p (.t 0)) [.t 0]))] [.aS 0,bT,az]) (I (bb Y2 [0,13] [14,2] [0,13,14] 15 [] [(14,.op (.build [.s (.int .i64 0),.s (.int .i64 0)] [(0,1),(1,1)] []) []),(2,.c (.s (.slice none 0 0)))] [az,.cb (.s (.slice none 0 0))]) (I (aC abF [14] [0,13,14]) (I (cA atg [0,13,14] [4] 5 [] [(4,iE 2)] [.cb (.s (.int .i64 2))]) (I (bb aqX [13,15,16] [17] [13,15,16,17,18] 18 [] [(17,.op (.build [.s (.int .i64 0),.s (.int .i64 0),.s (.string ⟨#[]⟩),.s (.int .i64 0)] [(0,2),(2,1),(3,1)] [(0,.t 0),(1,.t 1)]) [.op (.build [.s (.int .i64 0),.s (.int .i64 0)] [(0,1),(1,1)] [(0,.c (.s (.int .i64 1))),(1,.c (.s (.int .i64 1)))]) [.c (.s (.int .i64 1)),.c (.s (.int .i64 1))],.t 0])] [bT,.aS 0,az]) (I (aC awD [17] [13,15,16,17,18]) (I (aC awf [] [13,15,16,17,18]) (I (cl aul [13,15,16,17,18]) (I (cl aiX []) (I (aB abz [19] [7] 20 [] [(7,.op (.ez 77 [] [.t 0,.t 1]) [.t 6,.t 5])] [az,az]) (I (aB afn [20,21,22,23,24,25] [26] 27 [] [(26,fj .lss (bn (bq 3 (eM (bn (.t 5))))) (.op (.da .p (.t 0)) [.t 0]))] [lG,ee,dx,bT,.aS 0,mN,az]) (I (aB axz [26,27,28,29,30,31,32] [8] 33 [] [(8,.op (.pk (.t 0) (.t 1)) [.t 0,bn (bq 3 (eM (bn (.t 5))))])] [.aS 0,r7 [1,0,0,0],Bz,q2,mN,az,az]) (I (bb asC [] [38] I6 39 [] [(38,.t 8)] [.aS 8]) (I (aC ajt [38] I6) (I (cA afg [38,39,40] [37] 41 [] [(37,fY .geq 0 (.t 39))] [az,az]) (I (bb aaT [8,37] [41] [8,37,41,42] 42 [] [(41,bn (.t 5))] [az]) (I (cl anC [8,37,41,42]) (I (aB Zs [37,44,45] [43] 46 [] [(43,nv 59 (.t 8))] [.aS 8,az,az]) (I (bb agP [8,43] [46,47] [8,43,46,47,48,49] 48 [] [(46,bn (.t 5)),(47,bn (.t 5))] [az,az]) (I (aC adW [47] [8,43,46,47,48,49]) (I (cl acH [8,43,46,47,48,49]) (I (bb alZ [43] [51] [43,51,52] 52 [] [(51,.t 8)] [.aS 8]) (I (aC axK [51] [43,51,52]) (I (cA aoN [43,51,52] [50] 51 [] [(50,.t 52)] [.aS 52]) (I (bb ac8 [8,50] [53,54] [8,50,53,54,55,56] 55 [] [(53,.t 7),(54,bn (.t 5))] [.aS 7,eE]) (I (aC ati [54] [8,50,53,54,55,56]) (I (cl asS [8,50,53,54,55,56]) (I (bb ZV [50] [58] [50,58,59] 59 [] [(58,.t 8)] [.aS 8]) (I (aC awA [58] [50,58,59]) (I (cA aam [50,58,59] [57] 58 [] [(57,.t 59)] [.aS 59]) (I (bb asF [57] [60] [57,60,61] 61 [] [(60,bn (.t 5))] [az]) (I (aC ZI [60] [57,60,61]) (I (cA aiw [57,60,61] [9] 10 [] [(9,.t 61)] [.aS 61]) (I (bb aeg [8,62,63,64,65,66,67,68,69,70,71] [72] XI 73 [] [(72,.pick (fY .gtr 9 (.t 9)) gA (.pick (fY .gtr 1 (.t 9)) (nv 48 (.t 8)) gV))] [.aS 9,bT,bT,.sub 0 [2,0,0] [64],.sub 0 [2,0] [64],.sub 0 [2,0] [64],.sub 0 [2,1,0] [64,67],.sub 0 [2,1] [64,67],.sub 0 [2] [64],az,az]) (I (aC abX [] XI) (I (aC ab4 [73] XI) (I (cA alF [8,62,63,64,65,66,67,68,69,70,71,72,73,74,75,76] [77] 78 [] [(77,.pick (.t 72) gA (fj .gtr (.t 74) (.t 9)))] [.sub 0 [2,1] [72],.sub 0 [2] [72],az]) (I (bb awP [0,5,6,7,9,77,78,79,80] [81,2] [0,5,6,7,9,77,78,79,80,81] 82 [] [(81,gZ 2 (bq 0 (eM (bn (.t 5))))),(2,.c (.s (.slice none 0 0)))] [ee,dx,bT,az,.cb (.s (.slice none 0 0))]) (I (aC ac1 [81] [0,5,6,7,9,77,78,79,80,81]) (I (cA asc [0,5,6,7,9,77,78,79,80,81] [4] 5 [] [(4,iE 31)] [.cb (.s (.int .i64 31))]) (I (bb aeT [9,77] [82,83] [9,77,82,83,84] 84 [] [(82,.t 7),(83,.t 9)] [.aS 7,.aS 9]) (I (aC ae1 [82,83] [9,77,82,83,84]) (I (cA akt [9,77,82,83,84] [10] 11 [] [(10,.t 84)] [.aS 84]) (I (bb ape [10,87,88,89] [86,90] UT 91 [] [(86,.t 10),(90,bn (bq 1 (eM (.t 10))))] [.aS 10,.aS 10,Fw,me,eE]) (I (aC afD [90] UT) (I (bb atd [85,86,91,93,94] [92,95] UT 96 [([],.op (.extract (.t 0) 1) [.t 91])] [(92,iH 0 (.t 91)),(95,bq 2 (eM (.t 86)))] [.aS 91,az,.cD [] (.op (.extract (.t 0) 1) [.t 91]),me,eE]) (I (cl axL [10,85,86,87,88,89,90,91,92,93,94,95]) (I (bb Zq [8,57] [97] [8,57,97,98,99] 98 [] [(97,.t 8)] [.aS 8]) (I (aC aoU [97] [8,57,97,98,99]) (I (cA aop [8,57,97,98,99] [96] 100 [] [(96,fY .geq 0 (.t 98))] [az,az]) (I (bb adM [96] [100] [96,100,101] 101 [] [(100,.t 7)] [.aS 7]) (I (cl as2 [96,100,101]) (I (bb amh [0,5,6,7,33,34,35,96] [36,2] [0,5,6,7,33,34,35,36,96] 37 [] [(36,gZ 2 (bq 0 (eM (bn (.t 5))))),(2,.c (.s (.slice none 0 0)))] [ee,dx,bT,az,.cb (.s (.slice none 0 0))]) (I (aC ab0 [36] [0,5,6,7,33,34,35,36,96]) (I (cA asa [0,5,6,7,33,34,35,36,96] [4] 5 [] [(4,iE 30)] [.cb (.s (.int .i64 30))]) (I (bp ql RH) (I (bb aa9 [0,5,7,26] [102] [0,5,7,26,102,103] 103 [] [(102,.t 7)] [.aS 7]) (I (cl YC [0,5,7,26,102,103]) (I (bb awY [6,104] [105,2] [6,104,105] 106 [] [(105,.op (.build [.s (.int .i64 0),.s (.int .i64 0)] [(0,1),(1,1)] []) []),(2,bn (.t 6))] [eE,az,eE]) (I (aC apo [105] [6,104,105]) (I (cA am4 [6,104,105] [4] 5 [] [(4,iE 0)] [.cb (.s (.int .i64 0))]) (RH.eq_1)))))))))))))))))))))))))))))))))))))))))))))))))))))))))))))))))))))))))
def aPK:=I (aB aem Dl [] 7 [] [] [.cb (.s (.pointer none))]) (I aFP (I (bk Dl 0) (I (bk Dl 1) (I (bk Dl 2) (I (bk Dl 3) (I (bb ajm [0,8,9,10,11,12,13,14,15,16,17,18,19,20,21,22,23,24,25,26,27] [7,28] XK 29 [] [(7,bn (.t 2)),(28,.op (.build [.s (.int .u8 0),.s (.string ⟨#[]⟩),.s (.int .i64 0),.s (.int .i64 0),.s (.int .i64 0)] [(0,1),(1,1),(2,1),(3,2)] [(0,.t 0),(1,.t 1),(3,.t 2)]) [.t 0,.op (.sk (.t 0) (some (.t 1)) (some (.t 2))) [bn (bq 2 (eM (bn (.t 3)))),bn (bq 3 (eM (bn (.t 3)))),fj .add (bn (bq 3 (eM (bn (.t 3))))) (.t 1)],gZ 2 (bq 0 (eM (bn (.t 3))))])] [az,.aS 0,Pp,Ko,.sub 1 [1,0,0] [],.sub 1 [1,0] [],Pp,Ko,.sub 1 [1,1,0] [],.sub 1 [1,1] [],Pp,Ko,.sub 1 [1,1,0] [],.sub 1 [1,1] [],.aS 1,.sub 1 [1,2] [],.sub 1 [1] [],Pp,Ko,.sub 1 [2,0] [],.sub 1 [2] [],eE]) (I (aC af0 [28] XK) (I (aC ats [7,29] XK) (I (cl auM [0,7,8,9,10,11,12,13,14,15,16,17,18,19,20,21,22,23,24,25,26,27,28,29,30]) (I (bb arV [1,3] [31,32] [1,3,31,32,33] 33 [] [(31,bn (.t 3)),(32,.t 1)] [az,.aS 1]) (I (cl aqW [1,3,31,32,33]) ((aB ajK [2,34,35,36,37,38] [6] 39 [] [(6,je 5 (bn (.t 2)) (fY .sub 1 (fX (bn (.t 2)))))] [bT,bT,q2,mN,az,az])))))))))))))
def O0:=I (aB akL I4 [4,5] 6 [] [(4,.t 1),(5,iE 0)] [.aS 1,.cb (.s (.int .i64 0))]) (I aD3 (I (bk I4 0) (I (a6 I4 1) (I (aB axX [] [6] 7 [] [(6,fj .lss (.t 5) (.t 4))] [az]) (I (bb aa3 [6,7,8,9,10,11,13,14] [12,15] [6,7,8,9,10,11,12,13,14,15] 16 [] [(12,h2 1 (bn (bq 1 (bq 0 (eM (.t 0)))))),(15,bq 1 (bq 0 (eM (.t 0))))] [.aS 0,lG,ee,dx,bT,az,lG,ee,dx]) (I (cl adw [6,7,8,9,10,11,12,13,14,15]) (I (aB avl [16,17,18,19,20,21,22,23,24] [25] 26 [] [(25,nv 10 (.op (.pk (.t 0) (.t 1)) [bn (bq 2 (eM (.t 0))),bn (bq 3 (eM (.t 0)))]))] [.aS 0,lG,ee,dx,.aS 0,lG,Hx,AT,bT,az]) (I (bb abm [25,26,28,29,30,31,32,34,35] [27,33,36] XR 37 [] [(27,.t 0),(33,h2 1 (bn (bq 0 (bq 0 (eM (.t 0)))))),(36,bq 0 (bq 0 (eM (.t 0))))] [.aS 0,.aS 0,.aS 0,.sub 1 [0,0,0,0] [],Yd,Fw,me,eE,.sub 1 [0,0,0,0] [],Yd,Fw]) (I (aC aen [33,36] XR) (I (bb aly [27,37,38] [39] XR 40 [] [(39,bq 1 (bq 0 (eM (.t 27))))] [dx,bT,az]) (I (cl axZ [25,26,27,28,29,30,31,32,33,34,35,36,37,38,39]) (I (bb aeL [25,40,41,42,43,45] [44,46] [25,40,41,42,43,44,45,46] 47 [] [(44,h2 1 (bn (bq 3 (eM (.t 0))))),(46,bq 3 (eM (.t 0)))] [.aS 0,ee,dx,bT,az,ee,dx]) (I (cl ak2 [25,40,41,42,43,44,45,46]) (I (aB ahE [47] [5] 48 [] [(5,h2 1 (.t 5))] [az,az]) (I (bp Yl QE) (QE.eq_1))))))))))))))))
def P9:=I (aB ahW Ik [] 5 [] [] [.cb (.s (.int .i64 0))]) (I aU9 (I (bk Ik 0) (I (bk Ik 1) (I (aB afS [] [5] 6 [] [(5,iE 0)] [.cb (.s (.int .i64 0))]) (I (bb akf [6,7,8,9,10,11,12,13,14,15,16,17] [18] r3 19 [] [(18,fj .lss (fj .add (bn (bq 3 (eM (.t 0)))) (.t 5)) (.op (.da .p (.t 0)) [bn (bq 2 (eM (.t 0)))]))] [.aS 0,lG,ee,dx,.aS 5,bT,.aS 0,lG,Bz,q2,mN,az,az]) (I (aC an2 [] r3) (I (aC awa [] r3) (I (aC ajQ [20] r3) (I (aC alO [21] r3) (I (aC ax9 [22] r3) (I (aC axN [] r3) (I (aC anb [24] r3) (I (aC asP [25] r3) (I (aC axb [26] r3) (I (aC amF [] r3) (I (aC aqL [27,28] r3) (I (aC ap0 [23,29] r3) (I (aC ads [19,30] r3) (I (cA YE [6,7,8,9,10,11,12,13,14,15,16,17,18,19,20,21,22,23,24,25,26,27,28,29,30,31] [32] 33 [] [(32,.pick (.t 18) (.t 31) gV)] [az]) (I (aB as0 [32,33,34] [5] 35 [] [(5,h2 1 (.t 5))] [.aS 5,az,az]) (I (bp Tk Yx) (I (aB akK [0,1,5,32,35] [4] 36 [] [(4,.t 5)] [.aS 5,.aS 5]) (Yx.eq_1)))))))))))))))))))))))
def aLB:=I (aB alr N8 [] 3 [] [] [.cb (.s (.bool false))]) (I azE (I (bk N8 0) ((aB YA [0,3,4] [2] 5 [] [(2,mR .neq 10 (.t 0))] [.aS 0,az,az]))))
def aS2:=I (aB aoQ OD [] 3 [] [] [.cb (.s (.bool false))]) (I aJV (I (bk OD 0) ((aB alJ [0,3,4,5,6,7,8,9,10,11,12,13,14,15,16,17,18,19,20] [2] 21 [] [(2,.pick (.pick (.pick (mR .geq 97 (.t 0)) (mR .leq 122 (.t 0)) gV) gA (.pick (mR .geq 65 (.t 0)) (mR .leq 90 (.t 0)) gV)) gA (nv 95 (.t 0)))] [.aS 0,ee,ee,.sub 0 [0,0,1,0] [5],.sub 0 [0,0,1] [5],dx,dx,.sub 0 [0,2,0,0] [9],.sub 0 [0,2,0] [9],.sub 0 [0,2,0] [9],.sub 0 [0,2,1,0] [9,12],.sub 0 [0,2,1] [9,12],.sub 0 [0,2] [9],bT,bT,.sub 0 [2,0] [17],.sub 0 [2] [17],az,az]))))
def aBU:=I (aB atW OQ [] 3 [] [] [.cb (.s (.bool false))]) (I ay5 (I (bk OQ 0) (I (bb abQ [] [3] HU 4 [] [(3,.t 0)] [.aS 0]) (I (aC as4 [3] HU) (I (bb age [4] [5] HU 6 [] [(5,.t 4)] [.aS 4]) (I (aC aag [] HU) (I (aC aaM [6] HU) ((cA avB [0,3,4,5,6,7,8,9,10,11,12] [2] 13 [] [(2,.pick (.pick (.t 5) gA (.t 7)) gA (nv 46 (.t 0)))] [bT,bT,.sub 0 [2,0] [9],.sub 0 [2] [9],az,az])))))))))
def aP4:=I (aB avd Nl [] 3 [] [] [.cb (.s (.bool false))]) (I aMt (I (bk Nl 0) ((aB apR [0,3,4,5,6,7,8] [2] 9 [] [(2,.pick (mR .geq 48 (.t 0)) (mR .leq 57 (.t 0)) gV)] [.aS 0,bT,bT,.sub 0 [1,0] [5],.sub 0 [1] [5],az,az]))))
theorem aWn:dS Tryz.prog dH 30=some (false,qY.ntmps,qY.results,qY.body.bare):=by kernel_rfl
theorem aHA:dS Tryz.prog dH 77=some (false,Aq.ntmps,Aq.results,Aq.body.bare):=by kernel_rfl
theorem aDq:dS Tryz.prog dH 78=some (false,xo.ntmps,xo.results,xo.body.bare):=by kernel_rfl
theorem aRJ:dS Tryz.prog dH 80=some (false,Af.ntmps,Af.results,Af.body.bare):=by kernel_rfl
theorem aHJ:dS Tryz.prog dH 81=some (false,Ac.ntmps,Ac.results,Ac.body.bare):=by kernel_rfl
theorem aEd:dS Tryz.prog dH 82=some (false,zC.ntmps,zC.results,zC.body.bare):=by kernel_rfl
theorem aR1:dS Tryz.prog dH 83=some (false,zi.ntmps,zi.results,zi.body.bare):=by kernel_rfl
theorem aVF:dS Tryz.prog dH 84=some (false,Al.ntmps,Al.results,Al.body.bare):=by kernel_rfl
end Go.Proofs.YtngfpadeebpoeaaGreatDoor
set_option maxRecDepth 100000
namespace Go.Proofs.YtngfpadeebpoeaaGreatDoor.gO
open Go.Proofs.YtngfpadeebpoeaaGreatDoor Go.ea
def aFG(c:UInt8):V:=.s (.int .u8 c.toNat)
def S(b:ByteArray):V:=.s (.string b)
def vM(c d:UInt8):(c=d)↔((c.toNat:Nat):Int)=((d.toNat:Nat):Int):=by rw[Pa,Uw]
def aTH(c:UInt8):(decide ((c.toNat:Int) ≥ 97)&&decide ((c.toNat:Int)<=122)||decide ((c.toNat:Int) ≥ 65)&&decide ((c.toNat:Int)<=90)||((c.toNat:Int)==95))=Tok.letter c:=by
 unfold Tok.letter;rw[qO];simp only[oi,dR,l8,lc,vM,show(UInt8.toNat 95)=95 from rfl];omega
def aC0(c:UInt8):(decide ((c.toNat:Int) ≥ 48)&&decide ((c.toNat:Int)<=57))=Tok.digit c:=by
 unfold Tok.digit;rw[qO];simp only[dR,l8];omega
theorem aDx(c:UInt8):((c.toNat:Int)==46)=(c==46):=by
 rw[qO,lc,lc,vM];rfl
theorem aAr(c:UInt8):((c.toNat:Int) != 10)=Tok.other c:=by
 unfold Tok.other;rw[qO];simp only[mw,Ne,vM];rfl
section
variable {ag:Nat->Option cz}
def x7(aB:ag OK=some (.code zC))(c:UInt8)(base:Nat)(H:ad):aR ag (.fn OK [] []) [.s (.int .u8 c.toNat)] base H=some (ar (Tok.letter c),H):=by
 refine gR (c:=zC) aB (by simp[zC]) ?_
 rw[<- aTH];simp only[zC,simprocAttr,aS2,aG]
def uy(aB:ag L3=some (.code Al))(c:UInt8)(base:Nat)(H:ad):aR ag (.fn L3 [] []) [.s (.int .u8 c.toNat)] base H=some (ar (Tok.digit c),H):=by
 refine gR (c:=Al) aB (by simp[Al]) ?_
 rw[<- aC0];simp only[Al,simprocAttr,aP4,aG]
def aUh(aB:ag Qv=some (.code Ac))(c:UInt8)(base:Nat)(H:ad):aR ag (.fn Qv [] []) [.s (.int .u8 c.toNat)] base H=some (ar (Tok.other c),H):=by
 refine gR (c:=Ac) aB (by simp[Ac]) ?_
 rw[<- aAr];simp only[Ac,simprocAttr,aLB,aG]
def SF(aB:ag Wn=some (.code zi))(aq:∀(c:UInt8) (base:Nat) (H:ad),aR ag (.fn OK [] []) [.s (.int .u8 c.toNat)] base H=some (ar (Tok.letter c),H))(aQ:∀(c:UInt8) (base:Nat) (H:ad),aR ag (.fn L3 [] []) [.s (.int .u8 c.toNat)] base H=some (ar (Tok.digit c),H))(c:UInt8)(base:Nat)(H:ad):aR ag (.fn Wn [] []) [.s (.int .u8 c.toNat)] base H=some (ar (Tok.within c),H):=by
 refine gR (c:=zi) aB (by simp[zi]) ?_
 unfold Tok.within;rw[<- aDx];cases J:Tok.letter c<;>simp only[zi,simprocAttr,aBU,aG,aq,aQ,J]
end
abbrev bL(n:Int):V:=.s (.int .i64 n)
def oY(bo bB:Nat)(b:ByteArray)(at':Nat):List V:=[bL bo,bL bB,.s (.string b),bL at']
theorem axd(c:UInt8):((c.toNat:Int)==10)=decide (c=10):=by
 rw[qO,lc,ox,vM];rfl
def Js{n:Nat}(h:n<2^62):IntKind.i64.wrap ((n:Int)+1)=((n+1:Nat):Int):=by rw[IntKind.wrap_i64];omega
def aHe{H:ad}{i g:Nat}{c:List V}(h:au H i g=some c):H[i]?=some (.cells g c):=by
 unfold au at h;cases aX:H[i]? with
 |none=>rw[aX]at h;cases h
 |some o=>
   rw[aX]at h;cases o with
   |cells g2 cZ=>
     dsimp only at h;split at h
     .rename_i e;cases h;rw[e]
     .cases h
   |map _=>cases h
   |loop _ _ _ _ _ _=>cases h
   |dead=>cases h
   |bytes _ _=>cases h
def fJ{H:ad}{i g:Nat}{c:List V}(h:au H i g=some c)(c':List V):au (H.set i (.cells g c')) i g=some c':=by
 have:=iC h;unfold au;rw[w8 this];simp
def step_loop(call:c5)(base:Nat)(b:ByteArray)(ah:b.size<=2^40)(i:Nat)(hi:base<=i)(m q:Nat)(bJ:q<=b.size)(hm:m<2^62):∀(n j at' bo bB:Nat) (H:ad),au H i 0=some (oY bo bB b at')->at'+n=q->j+n=m->bo<=at'+1->bB<=at'+1->
 aN (aL call aN base Yl) [] H.length (ax 48 [(0,.ref i 0 0),(4,bL m),(5,bL j)]) H=
 some (.ext 0,ax 48 [(0,.ref i 0 0),(4,bL m),(5,bL m),(6,ar false)],H.set i (.cells 0 (oY (Tok.iw ((b.data.toList.drop at').take n) (bo,bB)).1 (Tok.iw ((b.data.toList.drop at').take n) (bo,bB)).2 b q))):=by
 intro n
 induction n with
 |zero=>
   intro j at' bo bB H ab J bl aa aI;have b8:=iC ab;have e:H.set i (.cells 0 (oY bo bB b at'))=H:=aGf (aHe ab);rw[Du]at J bl;subst J bl;rw[dt];simp only[O0,simprocAttr,aG,bL,nH,Tok.iw,e]
 |succ n aF=>
   intro j at' bo bB H ab J bl aa aI;have b8:=iC ab
   have pw:at'<b.data.toList.length:=by rw[show b.data.toList.length=b.size from rfl];omega
   have af:b.data.toList[at']?=some b.data.toList[at']:=eP pw;have kv:∀c',au (H.set i (.cells 0 c')) i 0=some c':=fun c'=>fJ ab c';have dn:∀br,(H.set i br).length=H.length:=fun br=>fP;have dE:∀a b,(H.set i a).set i b=H.set i b:=fun a b=>List.set_set ..;have aQ:b.data.toList.drop at'=b.data.toList[at']::b.data.toList.drop (at'+1):=mF pw
   have bz:((j:Int)<(m:Int)):=by omega
   have bc:=Js (n:=bB) (by omega)
   have dJ:=Js (n:=bo) (by omega)
   have fI:=Js (n:=at') (by omega)
   have jF:=Js (n:=j) (by omega)
   have j9:∀fr br,trim H.length fr (H.set i br)=H.set i br:=fun fr br=>vF (dn br);have j3:au H i 0=some [bL bo,bL bB,.s (.string b),bL at']:=ab;rw[aQ,dK,Tok.iw];rw[dt];by_cases j8:b.data.toList[at']=10
   .rw[bE j8]
    have IF:=aF (j+1) (at'+1) (bo+1) 1 (H.set i (.cells 0 (oY (bo+1) 1 b (at'+1)))) (kv _) (by omega) (by omega) (by omega) (by omega)
    simp only[O0,simprocAttr,aG,bL,hi,j3,bz,af,bc,dJ,fI,jF,kv,dE,axd,j8,j9];simp only[dn,dE,oY,bL]at IF |-;exact IF
   .rw[bV j8]
    have IF:=aF (j+1) (at'+1) bo (bB+1) (H.set i (.cells 0 (oY bo (bB+1) b (at'+1)))) (kv _) (by omega) (by omega) (by omega) (by omega)
    simp only[O0,simprocAttr,aG,bL,hi,j3,bz,af,bc,dJ,fI,jF,kv,dE,axd,j8,j9];simp only[dn,dE,oY,bL]at IF |-;exact IF
section
variable {ag:Nat->Option cz}
theorem RP(aB:ag Qd=some (.code xo))(base:Nat){b:ByteArray}(ah:b.size<=2^40){i:Nat}(hi:base<=i){H:ad}{bo bB at':Nat}(ab:au H i 0=some (oY bo bB b at')){n:Nat}(aJ:at'+n<=b.size)(aa:bo<=at'+1)(aI:bB<=at'+1):
 aR ag (.fn Qd [] []) [.ref i 0 0,bL n] base H=some (.bQ [],H.set i (.cells 0 (oY (Tok.iw ((b.data.toList.drop at').take n) (bo,bB)).1 (Tok.iw ((b.data.toList.drop at').take n) (bo,bB)).2 b (at'+n)))):=by
 refine gR (c:=xo) aB (by simp[xo]) ?_
 have aq:=step_loop (aR ag) base b ah i hi n (at'+n) aJ (by omega) n 0 at' bo bB H ab rfl (by omega) aa aI
 rw[bL,bL,show((0:Nat):Int)=0 from rfl]at aq;simp only[xo,simprocAttr,O0,aG,bL,aq];rfl
def aQu(base:Nat){f:V}{p:UInt8->Bool}(ay:∀(c:UInt8) (base:Nat) (H:ad),aR ag f [.s (.int .u8 c.toNat)] base H=some (ar (p c),H))(al:∃k,f=.fn k [] []){b:ByteArray}(ah:b.size<=2^40){i:Nat}{H:ad}{bo bB at':Nat}(ab:au H i 0=some (oY bo bB b at')):∀(l:List UInt8) (j:Nat),b.data.toList.drop (at'+j)=l->at'+j<=b.size->
 aN (aL (aR ag) aN base Tk) [] H.length (ax 36 [(0,.ref i 0 0),(1,f),(5,bL j)]) H=some (.ext 0,ax 36 ((0,.ref i 0 0)::(1,f)::(5,bL ((j+Tok.b2 p l:Nat):Int))::[(32,ar false)]),H):=by
 intro l
 induction l with
 |nil=>
   intro j aQ bz
   have pL:at'+j=b.size:=by
    have:=dV List.length aQ;rw[lm,show b.data.toList.length=b.size from rfl]at this;simp at this;omega
   rw[dt];have j3:au H i 0=some [bL bo,bL bB,.s (.string b),bL at']:=ab
   have bc:IntKind.i64.wrap ((at':Int)+(j:Int))=(b.size:Int):=by rw[IntKind.wrap_i64];omega
   simp only[P9,simprocAttr,aG,bL,j3,bc,nH,Tok.b2]
 |cons c l aF=>
   intro j aQ bz
   have jZ:b.data.toList[at'+j]?=some c:=by have:=dV (·[0]?) aQ;simp only[qP]at this;exact this
   have b8:at'+j<b.size:=by have:=(dQ.1 jZ).1;exact this
   have k5:b.data.toList.drop (at'+(j+1))=l:=by
    have:=dV (List.drop 1) aQ
    simpa[Df,qs]using this
   have j3:au H i 0=some [bL bo,bL bB,.s (.string b),bL at']:=ab
   have bc:IntKind.i64.wrap ((at':Int)+(j:Int))=((at'+j:Nat):Int):=by rw[IntKind.wrap_i64];omega
   have dJ:=Js (n:=j) (by omega)
   have eb:(((at'+j:Nat):Int)<(b.size:Int)):=by omega
   obtain⟨k,rfl⟩:=al
   have r9:=aF (j+1) k5 (by omega)
   rw[dt];cases E7:p c with
   |true=>
     simp only[P9,simprocAttr,aG,bL,j3,bc,dJ,eb,jZ,ay,E7,Tok.b2]
     rw[show j+(Tok.b2 p l+1)=j+1+Tok.b2 p l by omega]
     exact r9
   |false=>
     simp only[P9,simprocAttr,aG,bL,j3,bc,eb,jZ,ay,E7,Tok.b2]
def Hg(aB:ag VH=some (.code Af))(base:Nat){f:V}{p:UInt8->Bool}(ay:∀(c:UInt8) (base:Nat) (H:ad),aR ag f [.s (.int .u8 c.toNat)] base H=some (ar (p c),H))(al:∃k,f=.fn k [] []){b:ByteArray}(ah:b.size<=2^40){i:Nat}{H:ad}{bo bB at':Nat}(ab:au H i 0=some (oY bo bB b at'))(pw:at'<=b.size):
 aR ag (.fn VH [] []) [.ref i 0 0,f] base H=some (bL (Tok.b2 p (b.data.toList.drop at'):Nat),H):=by
 refine gR (c:=Af) aB (by simp[Af]) ?_
 have aq:=aQu (ag:=ag) base ay al ah ab (b.data.toList.drop at') 0 rfl pw;rw[bL,bL,show((0:Nat):Int)=0 from rfl,mx]at aq;simp only[Af,simprocAttr,P9,aG,bL,aq]
end
def dA(t:Tok.T):List V:=[.s (.int .u8 t.kind),.s (.string ⟨t.text.toArray⟩),bL t.n,bL t.line,bL t.rR]
structure kD (m:Nat) (H:ad) (o h i:Nat) (b:ByteArray) (bo bB at':Nat) (R:List (List V)):Prop where
 hold:au H h 0=some [.ref i 0 0]
 rd:au H i 0=some (oY bo bB b at')
 out:∃v,au H o 0=some [v]/\c1 m 5 H v R
 len:m<=H.length
 lt:h<m/\i<m/\o<m
 ne:o≠h/\o≠i/\h≠i
def c1.aRQ{m w L o:Nat}{H:ad}{v:V}{R:List (List V)}(h:c1 m w H v R)(aX:au H o 0=some [v])(cU:o<L)(fr:List V):c1 m w (trim L fr H) v R:=by
 rcases axM L fr H with e|⟨e,_,hu⟩
 .rw[e];exact h
 .refine h.cD fun id g n aV=>?_
  have:=hu o 0 _ cU aX v (by simp)
  rw[aV]at this;simp only[ir,l8]at this;rw[e,mr this]
section
variable {ag:Nat->Option cz}
def Mr(aB:ag VI=some (.code Aq))(fl:ag Qd=some (.code xo)){base m:Nat}{H:ad}{o h i:Nat}{b:ByteArray}{bo bB at':Nat}{R:List (List V)}(st:kD m H o h i b bo bB at' R)(ah:b.size<=2^40)(jc:base<=o)(jV:base<=i)(mT:base<=m){n:Nat}(aJ:at'+n<=b.size)(aq:bo<=at'+1)(ab:bB<=at'+1)(cP:R.length<=at'+1)(kind:Nat):
 ∃id g H',aR ag (.fn VI [] [.ref o 0 0,.ref h 0 0]) [.s (.int .u8 kind),bL n] base H=some (.ref id g (R.length*5),H')/\
   kD m H' o h i b (Tok.iw ((b.data.toList.drop at').take n) (bo,bB)).1 (Tok.iw ((b.data.toList.drop at').take n) (bo,bB)).2 (at'+n) (R++[dA ⟨kind,(b.data.toList.drop at').take n,0,bo,bB⟩])/\
   au H' o 0=some [.aZ id g 0 (R.length+1) 5]/\m<=id/\au H' id g=some (R++[dA ⟨kind,(b.data.toList.drop at').take n,0,bo,bB⟩]).flatten/\aH m [o,i] H H':=by
 obtain⟨v,aX,av⟩:=st.out;have fz:=st.rd;have hh:=st.hold;obtain⟨aPr,aF0,aB6⟩:=st.lt;obtain⟨aJw,adn,aBL⟩:=st.ne;have Db:=st.len;have j3:au H i 0=some [bL bo,bL bB,.s (.string b),bL at']:=fz
 have bc:IntKind.i64.wrap ((at':Int)+(n:Int))=((at'+n:Nat):Int):=by rw[IntKind.wrap_i64];omega
 have nO:(0<=(at':Int)/\(at':Int)<=((at'+n:Nat):Int)/\((at'+n:Nat):Int)<=(b.size:Int)):=by omega
 obtain⟨row,kl⟩:∃row,dA ⟨kind,(b.data.toList.drop at').take n,0,bo,bB⟩=row:=⟨_,rfl⟩;have aE5:[V.s (.int .u8 kind),V.s (.string ⟨((b.data.toList.drop at').take n).toArray⟩),V.s (.int .i64 0),V.s (.int .i64 bo),V.s (.int .i64 bB)]=row:=kl
 have ayb:row.length=5:=by rw[<- kl];rfl
 have Pk:row.all V.one=true:=by rw[<- kl];rfl
 rw[kl];obtain⟨B,aD⟩:∃B,H++[aM.cells 0 row]=B:=⟨_,rfl⟩
 have rZ:∀id,id<H.length->B[id]?=H[id]?:=fun id J=>by rw[<- aD,bi J]
 have Q0:B.length=H.length+1:=by rw[<- aD];simp
 have aYe:∀{id g c},au H id g=some c->au B id g=some c:=fun {id g c} a8=>by have:=iC a8;unfold au at a8 |-;rw[rZ id this];exact a8
 have af:elems B 5 (.aZ H.length 0 0 1 5)=some ([row].length,[row].flatten):=by
  rw[<- aD];exact(lJ.aZ (R:=[row]) (by simpa using cQ H 0 row) (by intro r ak;simp at ak;subst ak;exact ayb)).el
 have aOQ:c1 m 5 B v R:=av.cD fun id g n e=>rZ id (av.lt id g n e)
 obtain⟨gx,C,l9,ayS,Ss,wP⟩:=aOQ.append (base:=base) (bytes:=48) (S:=[row]) mT (by omega) (by intro r ak;simp at ak;subst ak;exact ayb) (by simp) af (by simpa using Pk) (by simp;omega)
 obtain⟨ayN,⟨cX,_⟩|⟨id,g,rfl,aV1,hid⟩⟩:=ayS
 .simp at cX
 have MB:c1 m 5 C (.aZ id g 0 (R++[row]).length 5) (R++[row]):=⟨ayN,.inr ⟨id,g,rfl,aV1,hid⟩⟩
 have aSF:∀x,x<m->∀g n,v≠.aZ x g 0 n 5:=by
  intro x af g n e
  obtain⟨_,⟨_,rfl⟩|⟨gw,g',rfl,_,aHQ⟩⟩:=av
  .cases e
  .cases e;omega
 have axl:∀x,x<m->C[x]?=H[x]?:=fun x af=>by rw[wP x (by omega) (aSF x af),rZ x (by omega)]
 have U2:∀{x g c},x<m->au H x g=some c->au C x g=some c:=fun {x g c} af a8=>by unfold au at a8 |-;rw[axl x af];exact a8
 have av5:=U2 aB6 aX;obtain⟨E,bp⟩:∃E,C.set o (.cells 0 [.aZ id g 0 (R.length+1) 5])=E:=⟨_,rfl⟩
 have aXx:E.length=C.length:=by rw[<- bp];exact fP
 have aId:au E o 0=some [.aZ id g 0 (R.length+1) 5]:=by rw[<- bp];exact fJ av5 _
 have R2:∀x,x≠o->E[x]?=C[x]?:=fun x af=>by rw[<- bp,cG (iV af)]
 have afG:∀{x g c},x≠o->au C x g=some c->au E x g=some c:=fun {x g c} af a8=>by unfold au at a8 |-;rw[R2 x af];exact a8
 have aVd:c1 m 5 E (.aZ id g 0 (R++[row]).length 5) (R++[row]):=MB.cD fun gw g' ek e=>by cases e;exact R2 id (by omega)
 have aaF:=afG (iV aJw) (U2 aPr hh);have apJ:=afG (iV adn) (U2 aF0 fz);have aNf:=RP fl base ah jV apJ aJ aq ab;obtain⟨rc,apg⟩:∃rc,oY (Tok.iw ((b.data.toList.drop at').take n) (bo,bB)).1 (Tok.iw ((b.data.toList.drop at').take n) (bo,bB)).2 b (at'+n)=rc:=⟨_,rfl⟩;have aKw:∀br,(E.set i br).length=E.length:=fun br=>fP;have aYf:∀qu br,trim E.length qu (E.set i br)=E.set i br:=fun qu br=>vF (aKw br)
 have Ti:∀br,au (E.set i br) o 0=some [.aZ id g 0 (R.length+1) 5]:=fun br=>by rw[Ig br adn];exact aId
 have aql:(R++[row]).length=R.length+1:=by simp
 have dJ:IntKind.i64.wrap (((R.length+1:Nat):Int)-1)=(R.length:Int):=by rw[IntKind.wrap_i64];omega
 have Hm:(0<=(R.length:Int)/\(R.length:Int)<((R.length+1:Nat):Int)/\5=5):=by omega
 have aAo:H++[aM.cells 0 [V.s (.int .u8 kind),V.s (.string ⟨((b.data.toList.drop at').take n).toArray⟩),V.s (.int .i64 0),V.s (.int .i64 bo),V.s (.int .i64 bB)]]=B:=by rw[aE5];exact aD
 refine⟨id,g,_,gR (c:=Aq) aB (r:=(.ref id g (R.length*5),E.set i (.cells 0 rc))) (by simp[Aq]) ?_,?_⟩
 .simp only[Aq,simprocAttr,aPK,aG,bL,aX,hh,j3,bc,aPP,nO,extract_eq,aAo,l9,av5,jc,bp,aaF,aNf,apg,Ti,aql,dJ,Hm]
 .have ad2:c1 m 5 (E.set i (.cells 0 rc)) (.aZ id g 0 (R++[row]).length 5) (R++[row]):=aVd.cD fun gw g' ek e=>by cases e;exact cG (by omega)
  have awo:m<=E.length:=by omega
  refine⟨⟨by rw[Ig _ (fun e=>aBL e)];exact aaF,by rw[apg];exact fJ apJ _,⟨_,Ti _,by rw[<- aql];exact ad2⟩,by rw[fP];exact awo,st.lt,st.ne⟩,Ti _,hid,?_,⟨by rw[fP];exact awo,fun x af Hd=>?_⟩⟩
  .obtain⟨_,⟨cX,_⟩|⟨gw,g',e,kN,_⟩⟩:=ad2
   .simp at cX
   .cases e;exact kN
  .simp only[nj,xn,xv,not_or]at Hd;rw[cG (iV Hd.2),R2 x Hd.1,axl x af]
end
structure uh (ag:Nat->Option cz):Prop where
 letter:ag OK=some (.code zC)
 digit:ag L3=some (.code Al)
 other:ag Qv=some (.code Ac)
 within:ag Wn=some (.code zi)
 step:ag Qd=some (.code xo)
 b2:ag VH=some (.code Af)
 put:ag VI=some (.code Aq)
 idx:ag AV=some (.hP Fu)
 atoi:ag ZE=some (.hP Cs)
def kD.trim{m:Nat}{H:ad}{o h i:Nat}{b:ByteArray}{bo bB at':Nat}{R:List (List V)}(st:kD m H o h i b bo bB at' R)(fr:List V):kD m (Go.ea.trim m fr H) o h i b bo bB at' R:=by
 obtain⟨v,aX,av⟩:=st.out;exact⟨xB st.hold st.lt.1,xB st.rd st.lt.2.1,⟨v,xB aX st.lt.2.2,c1.aRQ av aX st.lt.2.2 fr⟩,VV st.len,st.lt,st.ne⟩
def hF(b:ByteArray)(d h o:Nat):Env:=[(0,.s (.string b)),(3,.ref d 0 0),(5,.ref h 0 0),(6,.ref o 0 0),(7,.fn 77 [] [.ref o 0 0,.ref h 0 0])]
def Tp(c:UInt8):∀l:List UInt8,decide (Lib.indexByte l c ≥ 0)=l.contains c
 | []=>by simp[Lib.indexByte]
 |b::l=>by
   have aF:=Tp c l;have J:=Lib.indexByte_ge l c;rw[PT,<- aF,qO,ox,oi,ox];simp only[Lib.indexByte];by_cases e:b=c
   .subst e;simp
   .have aE:(b==c)=false:=by simpa using e
    have aU:(c==b)=false:=by simpa using fun h=>e h.symm
    rw[aE,aU];by_cases cd:Lib.indexByte l c=-1
    .simp[cd]
    .have fG:(Lib.indexByte l c == -1)=false:=by simpa using cd
     simp only[fG,hp,pD,false_or];omega
def vY(c:UInt8):decide (Lib.indexByte [32,9,13,10] c ≥ 0)=Tok.blank c:=by
 rw[Tp];unfold Tok.blank;simp only[PT,XG,AN,Bool.or_assoc]
def Cp(c:UInt8):decide (Lib.indexByte [61,44,58,40,41,123,125,91,93] c ≥ 0)=Tok.sign c:=by
 rw[Tp];unfold Tok.sign;simp only[PT,XG,AN,Bool.or_assoc]
section
variable {ag:Nat->Option cz}
def kD.put{m:Nat}{H:ad}{o h i:Nat}{b:ByteArray}{bo bB at':Nat}{R:List (List V)}(st:kD m H o h i b bo bB at' R)(fr:List V)(Mv OL l4:Nat):kD m (Go.ea.trim m fr (H.set i (.cells 0 (oY Mv OL b l4)))) o h i b Mv OL l4 R/\aH m [o,i] H (Go.ea.trim m fr (H.set i (.cells 0 (oY Mv OL b l4)))):=by
 obtain⟨v,aX,av⟩:=st.out;obtain⟨J,aa,aI⟩:=st.lt;obtain⟨cC,b5,n3⟩:=st.ne
 have dn:m<=(H.set i (.cells 0 (oY Mv OL b l4))).length:=by rw[fP];exact st.len
 refine⟨kD.trim ⟨by rw[Ig _ n3];exact st.hold,fJ st.rd _,⟨v,by rw[Ig _ b5];exact aX,av.cD fun id g n e=>?_⟩,dn,st.lt,st.ne⟩ fr,⟨VV dn,fun x af Hd=>?_⟩⟩
 .obtain⟨_,⟨_,rfl⟩|⟨gw,g',rfl,_,hid⟩⟩:=av
  .cases e
  .cases e
   exact cG (by omega)
 .simp only[nj,xn,xv,not_or]at Hd;rw[YD _ _ _ af,cG (iV Hd.2)]
def aBy(T:uh ag){base m:Nat}{b:ByteArray}(ah:b.size<=2^40){d o h i:Nat}(jc:base<=o)(jV:base<=i)(mT:base<=m){H:ad}{bo bB at':Nat}{R:List (List V)}(st:kD m H o h i b bo bB at' R)(aq:bo<=at'+1)(ab:bB<=at'+1)(cP:R.length<=at'+1){c:UInt8}(af:b.data.toList[at']?=some c)(eZ:Tok.blank c=true):
 ∃H',aN (aL (aR ag) aN base ql) [] m (ax 106 (hF b d h o)) H=aN (aL (aR ag) aN base ql) [] m (ax 106 (hF b d h o)) H'/\kD m H' o h i b (if c=10 then bo+1 else bo) (if c=10 then 1 else bB+1) (at'+1) R/\aH m [o,i] H H':=by
 have fz:=st.rd;have hh:=st.hold;have j3:au H i 0=some [bL bo,bL bB,.s (.string b),bL at']:=fz;have b8:at'<b.size:=(dQ.1 af).1
 have eb:((at':Int)<(b.size:Int)):=by omega
 have iY:b.data.toList.drop at'=c::b.data.toList.drop (at'+1):=by
  rw[mF b8,(dQ.1 af).2]
 have pN:∀(s:ByteArray) (base:Nat) (H:ad),aR ag (.fn AV [] []) [.s (.string s),.s (.int .u8 c.toNat)] base H=some (.s (.int .i64 (Lib.indexByte s.data.toList c)),H):=fun s base H=>by
  refine oD ?_;simp only[iT,T.idx];show some (V.s (.int .i64 (Lib.indexByte s.data.toList (c.toNat:Int).toNat.toUInt8)),H)=_
  rw[s7,show c.toNat.toUInt8=c by simp]
 have rG:=fun base H=>x7 T.letter c base H;have su:=fun base H=>uy T.digit c base H
 have Cc:=RP T.step base ah jV fz (n:=1) (by omega) aq ab
 rw[bL,show((1:Nat):Int)=1 from rfl,iY,dK,dj]at Cc
 obtain⟨s1,s2⟩:=st.put (ax 106 (hF b d h o)) (if c=10 then bo+1 else bo) (if c=10 then 1 else bB+1) (at'+1)
 refine⟨_,?_,s1,s2⟩
 have aE:(Tok.iw [c] (bo,bB))=((if c=10 then bo+1 else bo),(if c=10 then 1 else bB+1)):=by
  simp only[Tok.iw];split<;>rfl
 rw[aE]at Cc;rw[dt];simp only[hF,simprocAttr,ri,aG,hh,j3,eb,af,pN,vY,eZ,Cc]
def aLC(T:uh ag){base m:Nat}{b:ByteArray}(ah:b.size<=2^40){d o h i:Nat}(jc:base<=o)(jV:base<=i)(mT:base<=m){H:ad}{bo bB at':Nat}{R:List (List V)}(st:kD m H o h i b bo bB at' R)(aq:bo<=at'+1)(ab:bB<=at'+1)(cP:R.length<=at'+1){c:UInt8}(af:b.data.toList[at']?=some c)(eZ:Tok.blank c=false)(ie:c=59):
 ∃H',aN (aL (aR ag) aN base ql) [] m (ax 106 (hF b d h o)) H=aN (aL (aR ag) aN base ql) [] m (ax 106 (hF b d h o)) H'/\kD m H' o h i b bo (bB+(Tok.b2 Tok.other (b.data.toList.drop (at'+1))+1)) (at'+(Tok.b2 Tok.other (b.data.toList.drop (at'+1))+1)) R/\aH m [o,i] H H':=by
 have fz:=st.rd;have hh:=st.hold;have j3:au H i 0=some [bL bo,bL bB,.s (.string b),bL at']:=fz;have b8:at'<b.size:=(dQ.1 af).1
 have eb:((at':Int)<(b.size:Int)):=by omega
 have iY:b.data.toList.drop at'=c::b.data.toList.drop (at'+1):=by
  rw[mF b8,(dQ.1 af).2]
 have pN:∀(s:ByteArray) (base:Nat) (H:ad),aR ag (.fn AV [] []) [.s (.string s),.s (.int .u8 c.toNat)] base H=some (.s (.int .i64 (Lib.indexByte s.data.toList c)),H):=fun s base H=>by
  refine oD ?_;simp only[iT,T.idx];show some (V.s (.int .i64 (Lib.indexByte s.data.toList (c.toNat:Int).toNat.toUInt8)),H)=_
  rw[s7,show c.toNat.toUInt8=c by simp]
 have rG:=fun base H=>x7 T.letter c base H;have su:=fun base H=>uy T.digit c base H
 have Ih:=fun base=>Hg T.b2 base (fun c base H=>aUh T.other c base H) ⟨_,rfl⟩ ah fz (by omega)
 have e2:=Tok.zO Tok.other (b.data.toList.drop (at'+1));rw[lm,show b.data.toList.length=b.size from rfl]at e2
 simp only[iY,Tok.b2,bE (show Tok.other c=true by rw[ie];decide)]at Ih
 have Cc:=RP T.step base ah jV fz (n:=Tok.b2 Tok.other (b.data.toList.drop (at'+1))+1) (by omega) aq ab
 rw[iY,dK,Tok.x2 _ _ (Tok.y3 Tok.other (by decide) _ (by rw[ie];decide)),c3,Tok.rH]at Cc
 obtain⟨s1,s2⟩:=st.put (ax 106 (hF b d h o)) bo (bB+(Tok.b2 Tok.other (b.data.toList.drop (at'+1))+1)) (at'+(Tok.b2 Tok.other (b.data.toList.drop (at'+1))+1));refine⟨_,?_,s1,s2⟩
 have rm:((c.toNat:Int)==59)=true:=by rw[ie];rfl
 rw[dt];simp only[hF,simprocAttr,bL,ri,aG,hh,j3,eb,af,pN,vY,eZ,rm,Ih,Cc]
end
def aH.c4{m:Nat}{D:List Nat}{A B:ad}(h:aH m D A B)(fr:List V):aH m D A (Go.ea.trim m fr B):=aH.trim h (cq _) fr
def arK:∀(l:List UInt8) (acc:Nat),(∀x∈l,Tok.digit x=true)->Lib.decFrom acc l=some (l.foldl (fun n c=>n*10+(c.toNat-48)) acc)
 | [],acc,_=>rfl
 |c::l,acc,h=>by
   have ab:=h c hJ;unfold Tok.digit at ab;simp only[dR,l8]at ab;simp only[Lib.decFrom,Lib.digitVal,bE ab,Mc];exact arK l _ fun x af=>h x (d9 _ af)
theorem aSA(l:List UInt8)(bd:l≠[])(h:∀x∈l,Tok.digit x=true):Lib.atoi l=some (Tok.val l:Int):=by
 cases l with
 |nil=>exact absurd rfl bd
 |cons c l=>
   have ab:=h c hJ
   have aE:(c==45)=false:=by rw[kp];rintro rfl;revert ab;decide
   have aU:(c==43)=false:=by rw[kp];rintro rfl;revert ab;decide
   simp only[Lib.atoi,aE,aU,pD,hp,Lib.decNat,List.isEmpty_cons];rw[arK _ _ h];rfl
section
variable {ag:Nat->Option cz}
def aAY(T:uh ag){base m:Nat}{b:ByteArray}(ah:b.size<=2^40){d o h i:Nat}(jc:base<=o)(jV:base<=i)(mT:base<=m){H:ad}{bo bB at':Nat}{R:List (List V)}(st:kD m H o h i b bo bB at' R)(aq:bo<=at'+1)(ab:bB<=at'+1)(cP:R.length<=at'+1){c:UInt8}(af:b.data.toList[at']?=some c)(eZ:Tok.blank c=false)(ie:c≠59)(hB:Tok.letter c=true):
 ∃H',aN (aL (aR ag) aN base ql) [] m (ax 106 (hF b d h o)) H=aN (aL (aR ag) aN base ql) [] m (ax 106 (hF b d h o)) H'/\kD m H' o h i b bo (bB+(Tok.b2 Tok.within (b.data.toList.drop (at'+1))+1)) (at'+(Tok.b2 Tok.within (b.data.toList.drop (at'+1))+1)) (R++[dA ⟨1,c::(b.data.toList.drop (at'+1)).take (Tok.b2 Tok.within (b.data.toList.drop (at'+1))),0,bo,bB⟩])/\aH m [o,i] H H':=by
 have fz:=st.rd;have hh:=st.hold;have j3:au H i 0=some [bL bo,bL bB,.s (.string b),bL at']:=fz;have b8:at'<b.size:=(dQ.1 af).1
 have eb:((at':Int)<(b.size:Int)):=by omega
 have iY:b.data.toList.drop at'=c::b.data.toList.drop (at'+1):=by
  rw[mF b8,(dQ.1 af).2]
 have pN:∀(s:ByteArray) (base:Nat) (H:ad),aR ag (.fn AV [] []) [.s (.string s),.s (.int .u8 c.toNat)] base H=some (.s (.int .i64 (Lib.indexByte s.data.toList c)),H):=fun s base H=>by
  refine oD ?_;simp only[iT,T.idx];show some (V.s (.int .i64 (Lib.indexByte s.data.toList (c.toNat:Int).toNat.toUInt8)),H)=_
  rw[s7,show c.toNat.toUInt8=c by simp]
 have rG:=fun base H=>x7 T.letter c base H;have su:=fun base H=>uy T.digit c base H;have Db:=st.len
 have Ih:=fun base=>Hg T.b2 base (fun c base H=>SF T.within (x7 T.letter) (uy T.digit) c base H) ⟨_,rfl⟩ ah fz (by omega)
 have e2:=Tok.zO Tok.within (b.data.toList.drop (at'+1));rw[lm,show b.data.toList.length=b.size from rfl]at e2
 have hw:Tok.within c=true:=by unfold Tok.within;rw[hB];rfl
 simp only[iY,Tok.b2,bE hw]at Ih
 obtain⟨id,g,H1,aE,s1,gz,m1,cj,k1⟩:=Mr T.put T.step st ah jc jV mT (n:=Tok.b2 Tok.within (b.data.toList.drop (at'+1))+1) (by omega) aq ab cP 1
 rw[iY,dK,Tok.x2 _ _ (Tok.y3 Tok.within (by decide) _ (Tok.yS (.inl hB))),c3,Tok.rH]at s1
 rw[bL,show((1:Nat):Int)=1 from rfl]at aE;refine⟨_,?_,s1.trim (ax 106 (hF b d h o)),aH.c4 k1 (ax 106 (hF b d h o))⟩
 have rm:((c.toNat:Int)==59)=false:=by rw[kp];intro e;exact ie ((vM c 59).2 e)
 rw[dt];simp only[hF,simprocAttr,bL,ri,aG,hh,j3,eb,af,pN,vY,eZ,rm,rG,hB,Ih,aE]
def aE3(T:uh ag){base m:Nat}{b:ByteArray}(ah:b.size<=2^40){d o h i:Nat}(jc:base<=o)(jV:base<=i)(mT:base<=m){H:ad}{bo bB at':Nat}{R:List (List V)}(st:kD m H o h i b bo bB at' R)(aq:bo<=at'+1)(ab:bB<=at'+1)(cP:R.length<=at'+1){c:UInt8}(af:b.data.toList[at']?=some c)(eZ:Tok.blank c=false)(ie:c≠59)(hB:Tok.letter c=false)(jO:Tok.digit c=false)(vW:Tok.sign c=true):
 ∃H',aN (aL (aR ag) aN base ql) [] m (ax 106 (hF b d h o)) H=aN (aL (aR ag) aN base ql) [] m (ax 106 (hF b d h o)) H'/\kD m H' o h i b bo (bB+1) (at'+1) (R++[dA ⟨3,[c],0,bo,bB⟩])/\aH m [o,i] H H':=by
 have fz:=st.rd;have hh:=st.hold;have j3:au H i 0=some [bL bo,bL bB,.s (.string b),bL at']:=fz;have b8:at'<b.size:=(dQ.1 af).1
 have eb:((at':Int)<(b.size:Int)):=by omega
 have iY:b.data.toList.drop at'=c::b.data.toList.drop (at'+1):=by
  rw[mF b8,(dQ.1 af).2]
 have pN:∀(s:ByteArray) (base:Nat) (H:ad),aR ag (.fn AV [] []) [.s (.string s),.s (.int .u8 c.toNat)] base H=some (.s (.int .i64 (Lib.indexByte s.data.toList c)),H):=fun s base H=>by
  refine oD ?_;simp only[iT,T.idx];show some (V.s (.int .i64 (Lib.indexByte s.data.toList (c.toNat:Int).toNat.toUInt8)),H)=_
  rw[s7,show c.toNat.toUInt8=c by simp]
 have rG:=fun base H=>x7 T.letter c base H;have su:=fun base H=>uy T.digit c base H;have Db:=st.len
 obtain⟨id,g,H1,aE,s1,gz,m1,cj,k1⟩:=Mr T.put T.step st ah jc jV mT (n:=1) (by omega) aq ab cP 3
 rw[iY,dK,dj,Tok.x2 _ _ (by simpa using Tok.yS (.inr (.inr vW)))]at s1
 rw[bL,show((1:Nat):Int)=1 from rfl,show((3:Nat):Int)=3 from rfl]at aE;refine⟨_,?_,s1.trim (ax 106 (hF b d h o)),aH.c4 k1 (ax 106 (hF b d h o))⟩
 have rm:((c.toNat:Int)==59)=false:=by rw[kp];intro e;exact ie ((vM c 59).2 e)
 rw[dt];simp only[hF,simprocAttr,bL,ri,aG,hh,j3,eb,af,pN,vY,Cp,eZ,rm,rG,hB,su,jO,vW,aE]
def at0{m d:Nat}{H:ad}{x y:V}(hm:m<=H.length)(aQ:au H d 0=some [x,y])(pC:d<m)(fr:List V)(c:List V):au (Go.ea.trim m fr (H.set d (.cells 0 c))) d 0=some c/\aH m [d] H (Go.ea.trim m fr (H.set d (.cells 0 c))):=
 ⟨xB (fJ aQ _) pC,VV (by rw[fP];exact hm),fun id J aa=>by rw[YD _ _ _ J,cG (by simp at aa;exact iV aa)]⟩
def aQi(T:uh ag){base m:Nat}{b:ByteArray}(ah:b.size<=2^40){d o h i:Nat}(jc:base<=o)(jV:base<=i)(mT:base<=m){H:ad}{bo bB at':Nat}{R:List (List V)}(st:kD m H o h i b bo bB at' R)(aq:bo<=at'+1)(ab:bB<=at'+1)(cP:R.length<=at'+1){c:UInt8}(af:b.data.toList[at']?=some c)(eZ:Tok.blank c=false)(ie:c≠59)(hB:Tok.letter c=false)(jO:Tok.digit c=false)(vW:Tok.sign c=false)(aQ:∃x y,au H d 0=some [x,y])(wq:base<=d)(pC:d<m):
 ∃H',aN (aL (aR ag) aN base ql) [] m (ax 106 (hF b d h o)) H=some (.ret,ax 106 [(2,cm),(3,.ref d 0 0),(4,.s (.int .i64 30))],H')/\au H' d 0=some [bL bo,bL bB]/\aH m [d] H H':=by
 have fz:=st.rd;have hh:=st.hold;have j3:au H i 0=some [bL bo,bL bB,.s (.string b),bL at']:=fz;have b8:at'<b.size:=(dQ.1 af).1
 have eb:((at':Int)<(b.size:Int)):=by omega
 have iY:b.data.toList.drop at'=c::b.data.toList.drop (at'+1):=by
  rw[mF b8,(dQ.1 af).2]
 have pN:∀(s:ByteArray) (base:Nat) (H:ad),aR ag (.fn AV [] []) [.s (.string s),.s (.int .u8 c.toNat)] base H=some (.s (.int .i64 (Lib.indexByte s.data.toList c)),H):=fun s base H=>by
  refine oD ?_;simp only[iT,T.idx];show some (V.s (.int .i64 (Lib.indexByte s.data.toList (c.toNat:Int).toNat.toUInt8)),H)=_
  rw[s7,show c.toNat.toUInt8=c by simp]
 have rG:=fun base H=>x7 T.letter c base H;have su:=fun base H=>uy T.digit c base H;have Db:=st.len;obtain⟨x,y,aQ⟩:=aQ;obtain⟨s1,s2⟩:=at0 Db aQ pC (ax 106 [(2,cm),(3,.ref d 0 0),(4,.s (.int .i64 30))]) [bL bo,bL bB];refine⟨_,?_,s1,s2⟩
 have rm:((c.toNat:Int)==59)=false:=by rw[kp];intro e;exact ie ((vM c 59).2 e)
 rw[dt];simp only[hF,simprocAttr,cm,bL,ri,aG,hh,j3,eb,af,pN,vY,Cp,eZ,rm,rG,hB,su,jO,vW,aQ,wq]
def aAm(T:uh ag){base m:Nat}{b:ByteArray}(ah:b.size<=2^40){d o h i:Nat}(jc:base<=o)(jV:base<=i)(mT:base<=m){H:ad}{bo bB at':Nat}{R:List (List V)}(st:kD m H o h i b bo bB at' R)(aq:bo<=at'+1)(ab:bB<=at'+1)(cP:R.length<=at'+1){c:UInt8}(af:b.data.toList[at']?=some c)(eZ:Tok.blank c=false)(ie:c≠59)(hB:Tok.letter c=false)(jO:Tok.digit c=true)(aQ:∃x y,au H d 0=some [x,y])(wq:base<=d)(pC:d<m)(ko:(9<Tok.b2 Tok.digit (b.data.toList.drop (at'+1))+1\/(1<Tok.b2 Tok.digit (b.data.toList.drop (at'+1))+1/\c=48)\/Tok.b2 Tok.digit (b.data.toList.drop (at'+1))<Tok.b2 Tok.within (b.data.toList.drop (at'+1)))):
 ∃H',aN (aL (aR ag) aN base ql) [] m (ax 106 (hF b d h o)) H=some (.ret,ax 106 [(2,cm),(3,.ref d 0 0),(4,.s (.int .i64 31))],H')/\au H' d 0=some [bL bo,bL bB]/\aH m [d] H H':=by
 have fz:=st.rd;have hh:=st.hold;have j3:au H i 0=some [bL bo,bL bB,.s (.string b),bL at']:=fz;have b8:at'<b.size:=(dQ.1 af).1
 have eb:((at':Int)<(b.size:Int)):=by omega
 have iY:b.data.toList.drop at'=c::b.data.toList.drop (at'+1):=by
  rw[mF b8,(dQ.1 af).2]
 have pN:∀(s:ByteArray) (base:Nat) (H:ad),aR ag (.fn AV [] []) [.s (.string s),.s (.int .u8 c.toNat)] base H=some (.s (.int .i64 (Lib.indexByte s.data.toList c)),H):=fun s base H=>by
  refine oD ?_;simp only[iT,T.idx];show some (V.s (.int .i64 (Lib.indexByte s.data.toList (c.toNat:Int).toNat.toUInt8)),H)=_
  rw[s7,show c.toNat.toUInt8=c by simp]
 have rG:=fun base H=>x7 T.letter c base H;have su:=fun base H=>uy T.digit c base H;have Db:=st.len
 have sO:=fun base=>Hg T.b2 base (fun c base H=>uy T.digit c base H) ⟨_,rfl⟩ ah fz (by omega)
 have yX:=fun base=>Hg T.b2 base (fun c base H=>SF T.within (x7 T.letter) (uy T.digit) c base H) ⟨_,rfl⟩ ah fz (by omega)
 have e2:=Tok.zO Tok.digit (b.data.toList.drop (at'+1));rw[lm,show b.data.toList.length=b.size from rfl]at e2
 have hw:Tok.within c=true:=by unfold Tok.within;rw[jO,hB];rfl
 simp only[iY,Tok.b2,bE hw]at yX;simp only[iY,Tok.b2,bE jO]at sO
 have rm:((c.toNat:Int)==59)=false:=by rw[kp];intro e;exact ie ((vM c 59).2 e)
 have Ex:((c.toNat:Int)==48)=decide (c=48):=by rw[qO,lc,ox,vM];rfl
 have bj:decide ((((Tok.b2 Tok.digit (b.data.toList.drop (at'+1))+1:Nat):Int)) > 9)=decide (9<Tok.b2 Tok.digit (b.data.toList.drop (at'+1))+1):=by rw[qO,ox,ox];omega
 have aT:decide ((((Tok.b2 Tok.digit (b.data.toList.drop (at'+1))+1:Nat):Int)) > 1)=decide (1<Tok.b2 Tok.digit (b.data.toList.drop (at'+1))+1):=by rw[qO,ox,ox];omega
 have a1:decide ((((Tok.b2 Tok.within (b.data.toList.drop (at'+1))+1:Nat):Int)) > ((Tok.b2 Tok.digit (b.data.toList.drop (at'+1))+1:Nat):Int))=decide (Tok.b2 Tok.digit (b.data.toList.drop (at'+1))<Tok.b2 Tok.within (b.data.toList.drop (at'+1))):=by rw[qO,ox,ox];omega
 obtain⟨x,y,aQ⟩:=aQ;obtain⟨s1,s2⟩:=at0 Db aQ pC (ax 106 [(2,cm),(3,.ref d 0 0),(4,.s (.int .i64 31))]) [bL bo,bL bB];refine⟨_,?_,s1,s2⟩;rw[dt];by_cases bw:9<Tok.b2 Tok.digit (b.data.toList.drop (at'+1))+1
 .simp only[hF,simprocAttr,cm,bL,ri,aG,hh,j3,eb,af,pN,vY,Cp,eZ,rm,rG,hB,su,jO,sO,yX,Ex,bj,aT,bw,aQ,wq]
 .by_cases a2:1<Tok.b2 Tok.digit (b.data.toList.drop (at'+1))+1
  .by_cases a3:c=48
   .have a5:=Mj a3;simp only[hF,simprocAttr,cm,bL,ri,aG,hh,j3,eb,af,pN,vY,Cp,eZ,rm,rG,hB,su,jO,sO,yX,Ex,bj,aT,bw,a2,a5,aQ,wq]
   .have a4:Tok.b2 Tok.digit (b.data.toList.drop (at'+1))<Tok.b2 Tok.within (b.data.toList.drop (at'+1)):=by
     rcases ko with h|⟨_,h⟩|h
     .exact absurd h bw
     .exact absurd h a3
     .exact h
    have a5:=Dm a3;simp only[hF,simprocAttr,cm,bL,ri,aG,hh,j3,eb,af,pN,vY,Cp,eZ,rm,rG,hB,su,jO,sO,yX,Ex,bj,aT,a1,bw,a2,a5,a4,aQ,wq]
  .have a4:Tok.b2 Tok.digit (b.data.toList.drop (at'+1))<Tok.b2 Tok.within (b.data.toList.drop (at'+1)):=by
    rcases ko with h|⟨h,_⟩|h
    .exact absurd h bw
    .exact absurd h a2
    .exact h
   simp only[hF,simprocAttr,cm,bL,ri,aG,hh,j3,eb,af,pN,vY,Cp,eZ,rm,rG,hB,su,jO,sO,yX,Ex,bj,aT,a1,bw,a2,a4,aQ,wq]
def aOU(T:uh ag){base m:Nat}{b:ByteArray}(ah:b.size<=2^40){d o h i:Nat}(jc:base<=o)(jV:base<=i)(mT:base<=m){H:ad}{bo bB at':Nat}{R:List (List V)}(st:kD m H o h i b bo bB at' R)(aq:bo<=at'+1)(ab:bB<=at'+1)(cP:R.length<=at'+1){c:UInt8}(af:b.data.toList[at']?=some c)(eZ:Tok.blank c=false)(ie:c≠59)(hB:Tok.letter c=false)(jO:Tok.digit c=true)(ko:¬(9<Tok.b2 Tok.digit (b.data.toList.drop (at'+1))+1\/(1<Tok.b2 Tok.digit (b.data.toList.drop (at'+1))+1/\c=48)\/Tok.b2 Tok.digit (b.data.toList.drop (at'+1))<Tok.b2 Tok.within (b.data.toList.drop (at'+1)))):
 ∃H',aN (aL (aR ag) aN base ql) [] m (ax 106 (hF b d h o)) H=aN (aL (aR ag) aN base ql) [] m (ax 106 (hF b d h o)) H'/\kD m H' o h i b bo (bB+(Tok.b2 Tok.digit (b.data.toList.drop (at'+1))+1)) (at'+(Tok.b2 Tok.digit (b.data.toList.drop (at'+1))+1)) (R++[dA ⟨2,c::(b.data.toList.drop (at'+1)).take (Tok.b2 Tok.digit (b.data.toList.drop (at'+1))),Tok.val (c::(b.data.toList.drop (at'+1)).take (Tok.b2 Tok.digit (b.data.toList.drop (at'+1)))),bo,bB⟩])/\aH m [o,i] H H':=by
 have fz:=st.rd;have hh:=st.hold;have j3:au H i 0=some [bL bo,bL bB,.s (.string b),bL at']:=fz;have b8:at'<b.size:=(dQ.1 af).1
 have eb:((at':Int)<(b.size:Int)):=by omega
 have iY:b.data.toList.drop at'=c::b.data.toList.drop (at'+1):=by
  rw[mF b8,(dQ.1 af).2]
 have pN:∀(s:ByteArray) (base:Nat) (H:ad),aR ag (.fn AV [] []) [.s (.string s),.s (.int .u8 c.toNat)] base H=some (.s (.int .i64 (Lib.indexByte s.data.toList c)),H):=fun s base H=>by
  refine oD ?_;simp only[iT,T.idx];show some (V.s (.int .i64 (Lib.indexByte s.data.toList (c.toNat:Int).toNat.toUInt8)),H)=_
  rw[s7,show c.toNat.toUInt8=c by simp]
 have rG:=fun base H=>x7 T.letter c base H;have su:=fun base H=>uy T.digit c base H;have Db:=st.len
 have sO:=fun base=>Hg T.b2 base (fun c base H=>uy T.digit c base H) ⟨_,rfl⟩ ah fz (by omega)
 have yX:=fun base=>Hg T.b2 base (fun c base H=>SF T.within (x7 T.letter) (uy T.digit) c base H) ⟨_,rfl⟩ ah fz (by omega)
 have e2:=Tok.zO Tok.digit (b.data.toList.drop (at'+1));rw[lm,show b.data.toList.length=b.size from rfl]at e2
 have hw:Tok.within c=true:=by unfold Tok.within;rw[jO,hB];rfl
 simp only[iY,Tok.b2,bE hw]at yX;simp only[iY,Tok.b2,bE jO]at sO
 have rm:((c.toNat:Int)==59)=false:=by rw[kp];intro e;exact ie ((vM c 59).2 e)
 have Ex:((c.toNat:Int)==48)=decide (c=48):=by rw[qO,lc,ox,vM];rfl
 have bj:decide ((((Tok.b2 Tok.digit (b.data.toList.drop (at'+1))+1:Nat):Int)) > 9)=decide (9<Tok.b2 Tok.digit (b.data.toList.drop (at'+1))+1):=by rw[qO,ox,ox];omega
 have aT:decide ((((Tok.b2 Tok.digit (b.data.toList.drop (at'+1))+1:Nat):Int)) > 1)=decide (1<Tok.b2 Tok.digit (b.data.toList.drop (at'+1))+1):=by rw[qO,ox,ox];omega
 have a1:decide ((((Tok.b2 Tok.within (b.data.toList.drop (at'+1))+1:Nat):Int)) > ((Tok.b2 Tok.digit (b.data.toList.drop (at'+1))+1:Nat):Int))=decide (Tok.b2 Tok.digit (b.data.toList.drop (at'+1))<Tok.b2 Tok.within (b.data.toList.drop (at'+1))):=by rw[qO,ox,ox];omega
 obtain⟨id,g,H1,aE,s1,gz,m1,cj,k1⟩:=Mr T.put T.step st ah jc jV mT (n:=Tok.b2 Tok.digit (b.data.toList.drop (at'+1))+1) (by omega) aq ab cP 2
 rw[iY,dK,Tok.x2 _ _ (Tok.y3 Tok.digit (by decide) _ (Tok.yS (.inr (.inl jO)))),c3,Tok.rH]at s1
 rw[iY,dK]at cj;rw[bL,show((2:Nat):Int)=2 from rfl]at aE;have bw:¬9<Tok.b2 Tok.digit (b.data.toList.drop (at'+1))+1:=fun h=>ko (.inl h);have a4:¬Tok.b2 Tok.digit (b.data.toList.drop (at'+1))<Tok.b2 Tok.within (b.data.toList.drop (at'+1)):=fun h=>ko (.inr (.inr h));have a3:decide (1<Tok.b2 Tok.digit (b.data.toList.drop (at'+1))+1)=true->decide (c=48)=false:=fun h=>Dm fun e=>ko (.inr (.inl ⟨I8 h,e⟩));obtain⟨di,OT⟩:∃di,(c::(b.data.toList.drop (at'+1)).take (Tok.b2 Tok.digit (b.data.toList.drop (at'+1))))=di:=⟨_,rfl⟩;rw[OT]at cj s1 |-
 have Hm:∀(s:ByteArray),(c::s.data.toList)=s.data.toList->False:=fun s e=>by have:=dV List.length e;simp at this
 have pw:∀base H,aR ag (.fn ZE [] []) [.s (.string ⟨di.toArray⟩)] base H=some (.bQ [bL (Tok.val di),.s .nilIface],H):=by
  intro base H;refine oD ?_;simp only[iT,T.atoi];show Cs [.s (.string ⟨di.toArray⟩)] base H=_
  have oz:di.length<=9:=by rw[<- OT,c3,Tok.rH];omega
  have dk:(ByteArray.mk di.toArray).size<=18:=by show di.toArray.size<=18;rw[tr];omega
  simp only[Cs,dk,eW]
  rw[aSA di (by rw[<- OT];simp) (by rw[<- OT];exact fun x af=>(nj.1 af).elim (fun e=>e▸jO) (fun af=>Tok.Pr _ _ _ af))]
  rfl
 have aee:∀r∈R,r.length=5:=by obtain⟨v,_,av,_⟩:=st.out;exact av
 have Ut:=Gm R aee
 have II:List.drop (R.length*5+1) (R++[dA ⟨2,di,0,bo,bB⟩]).flatten=[.s (.string ⟨di.toArray⟩),bL ((0:Nat):Int),bL bo,bL bB]:=by
  rw[y8,JU,BR (by omega),Ut]
  rw[show R.length*5+1-R.length*5=1 by omega]
  rfl
 have ayu:base<=id:=by omega
 have aX0:(R++[dA ⟨2,di,0,bo,bB⟩]).flatten.length=R.length*5+5:=by
  rw[y8,c0,Ut];rfl
 have apy:R.length*5+3<=(R++[dA ⟨2,di,0,bo,bB⟩]).flatten.length:=by omega
 have tu:List.take (R.length*5+2) (R++[dA ⟨2,di,0,bo,bB⟩]).flatten++[V.s (Value.int IntKind.i64 (Tok.val di:Nat))]++List.drop (R.length*5+3) (R++[dA ⟨2,di,0,bo,bB⟩]).flatten=(R++[dA ⟨2,di,Tok.val di,bo,bB⟩]).flatten:=by
  rw[y8,y8,Wb,JU,Hk (by omega),BR (by omega),Ut,show R.length*5+2-R.length*5=2 by omega,show R.length*5+3-R.length*5=3 by omega,gi,gi]
  rfl
 obtain⟨bH,k8⟩:∃bH,H1.set id (.cells g (R++[dA ⟨2,di,Tok.val di,bo,bB⟩]).flatten)=bH:=⟨_,rfl⟩
 have k2:∀x,x<m->bH[x]?=H1[x]?:=fun x af=>by rw[<- k8,cG (by omega)]
 have cb:∀{x:Nat} {c:List V},x<m->au H1 x 0=some c->au bH x 0=some c:=fun {x c} af a8=>by unfold au at a8 |-;rw[k2 x af];exact a8
 have s2:kD m bH o h i b bo (bB+(Tok.b2 Tok.digit (b.data.toList.drop (at'+1))+1)) (at'+(Tok.b2 Tok.digit (b.data.toList.drop (at'+1))+1)) (R++[dA ⟨2,di,Tok.val di,bo,bB⟩]):=by
  refine⟨cb s1.lt.1 s1.hold,cb s1.lt.2.1 s1.rd,⟨_,cb s1.lt.2.2 gz,?_,.inr ⟨id,g,by simp,?_,m1⟩⟩,by rw[<- k8,fP];exact s1.len,s1.lt,s1.ne⟩
  .intro r ak
   rcases pu.1 ak with ak|ak
   .exact aee r ak
   .rw[eQ]at ak;subst ak;rfl
  .rw[<- k8];exact fJ cj _
 have eN:aH m [o,i] H bH:=⟨by rw[<- k8,fP];exact s1.len,fun x af aJ=>by rw[k2 x af,k1.2 x af aJ]⟩
 refine⟨_,?_,s2.trim (ax 106 (hF b d h o)),aH.c4 eN (ax 106 (hF b d h o))⟩;rw[dt];cases a2:decide (1<Tok.b2 Tok.digit (b.data.toList.drop (at'+1))+1)with
 |true=>
   have a5:=a3 a2;simp only[hF,simprocAttr,bL,ri,aG,hh,j3,eb,af,pN,vY,Cp,eZ,rm,rG,hB,su,jO,sO,yX,Ex,bj,aT,a1,bw,a2,a5,a4,aE,cj,II,pw,ayu,apy,tu,k8]
 |false=>
   simp only[hF,simprocAttr,bL,ri,aG,hh,j3,eb,af,pN,vY,Cp,eZ,rm,rG,hB,su,jO,sO,yX,Ex,bj,aT,a1,bw,a2,a4,aE,cj,II,pw,ayu,apy,tu,k8]
end
def tm(m d h o i:Nat)(b:ByteArray)(R:List (List V))(H:ad)(out:Tok.Out)(X:Option cy):Prop:=
 (∃ao bo bB H',out=.done (ao++[⟨4,[],0,bo,bB⟩])/\X=some (.ext 0,ax 106 (hF b d h o++[(26,ar false)]),H')/\kD m H' o h i b bo bB b.size (R++ao.map dA)/\aH m [o,i] H H'/\bo<=b.size+1/\bB<=b.size+1/\R.length+ao.length<=b.size)\/
 (∃e a q H',out=.bad e a q/\X=some (.ret,ax 106 [(2,cm),(3,.ref d 0 0),(4,.s (.int .i64 e))],H')/\au H' d 0=some [bL a,bL q]/\aH m [o,i,d] H H')
def tm.cD{m d h o i:Nat}{b:ByteArray}{R:List (List V)}{H bH:ad}{out:Tok.Out}{X:Option cy}(r:tm m d h o i b R bH out X)(k:aH m [o,i] H bH):tm m d h o i b R H out X:=by
 rcases r with⟨ao,bo,bB,H',J,aa,aI,bl,cO⟩|⟨e,a,q,H',J,aa,aI,bl⟩
 .exact .inl ⟨ao,bo,bB,H',J,aa,aI,k.trans bl (cq _),cO⟩
 .exact .inr ⟨e,a,q,H',J,aa,aI,(aH.mono k (cq _) (fun id _ af=>by simp at af |-;rcases af with h|h<;>simp[h])).trans bl (cq _)⟩
def tm.cons{m d h o i:Nat}{b:ByteArray}{R:List (List V)}{H bH:ad}{out:Tok.Out}{X:Option cy}{t:Tok.T}(r:tm m d h o i b (R++[dA t]) bH out X)(k:aH m [o,i] H bH):tm m d h o i b R H (.cons t out) X:=by
 rcases r.cD k with⟨ao,bo,bB,H',rfl,aa,aI,bl,cO,fQ,qB⟩|⟨e,a,q,H',rfl,aa,aI,bl⟩
 .refine .inl ⟨t::ao,bo,bB,H',rfl,aa,?_,bl,cO,fQ,?_⟩
  .rw[dW,<- Jb,<- gi];exact aI
  .rw[c0,jd]at qB;rw[c3];omega
 .exact .inr ⟨e,a,q,H',rfl,aa,aI,bl⟩
section
variable {ag:Nat->Option cz}
def azm(T:uh ag){base m:Nat}{b:ByteArray}(ah:b.size<=2^40){d o h i:Nat}(jc:base<=o)(jV:base<=i)(mT:base<=m)(wq:base<=d)(pC:d<m)(I1:d ∉ [o,i]):∀(N:Nat) (at' bo bB:Nat) (R:List (List V)) (H:ad),b.size-at'<=N->at'<=b.size->kD m H o h i b bo bB at' R->bo<=at'+1->bB<=at'+1->R.length<=at'->(∃x y,au H d 0=some [x,y])->
 tm m d h o i b R H (Tok.lex (b.data.toList.drop at') bo bB) (aN (aL (aR ag) aN base ql) [] m (ax 106 (hF b d h o)) H):=by
 have qg:∀(at' bo bB:Nat) (R:List (List V)) (H:ad),b.size-at'=0->at'<=b.size->kD m H o h i b bo bB at' R->bo<=at'+1->bB<=at'+1->R.length<=at'->
  tm m d h o i b R H (Tok.lex (b.data.toList.drop at') bo bB) (aN (aL (aR ag) aN base ql) [] m (ax 106 (hF b d h o)) H):=by
  intro at' bo bB R H bd J st aq ab cP
  obtain rfl:at'=b.size:=by omega
  have fz:=st.rd;have hh:=st.hold;have j3:au H i 0=some [bL bo,bL bB,.s (.string b),bL b.size]:=fz;rw[BR (show b.data.toList.length<=b.size from cq _),Tok.lex_nil]
  refine .inl ⟨[],bo,bB,_,rfl,?_,by simpa using st.trim (ax 106 (hF b d h o++[(26,ar false)])),aH.c4 (A:=H) ⟨st.len,fun _ _ _=>rfl⟩ (ax 106 (hF b d h o++[(26,ar false)])),aq,ab,by simpa using cP⟩
  rw[dt];simp only[hF,simprocAttr,bL,ri,aG,hh,j3,nH]
 intro N
 induction N with
 |zero=>exact fun at' bo bB R H bd J st aq ab cP _=>qg at' bo bB R H (by omega) J st aq ab cP
 |succ N aF=>
   intro at' bo bB R H bd J st aq ab cP aQ;by_cases bK:at'=b.size
   .exact qg at' bo bB R H (by omega) J st aq ab cP
   have b8:at'<b.data.toList.length:=by show at'<b.size;omega
   obtain⟨c,af⟩:∃c,b.data.toList[at']?=some c:=⟨_,eP b8⟩
   have iY:b.data.toList.drop at'=c::b.data.toList.drop (at'+1):=by
    rw[mF b8,(dQ.1 af).2]
   have CL:∀k,(b.data.toList.drop (at'+1)).drop k=b.data.toList.drop (at'+(k+1)):=fun k=>by rw[Df];congr 1;omega
   have e2:∀p,at'+(Tok.b2 p (b.data.toList.drop (at'+1))+1)<=b.size:=fun p=>by
    have:=Tok.zO p (b.data.toList.drop (at'+1));rw[lm,show b.data.toList.length=b.size from rfl]at this;have:at'<b.size:=b8;omega
   have dk:at'<b.size:=b8
   have mI:∀{bH:ad},aH m [o,i] H bH->∃x y,au bH d 0=some [x,y]:=fun k=>by
    obtain⟨x,y,aQ⟩:=aQ;exact⟨x,y,k.au aQ pC I1⟩
   rw[iY,Tok.qy];cases eZ:Tok.blank c with
   |true=>
     obtain⟨bH,e,s,k⟩:=aBy T ah jc jV mT (d:=d) st aq ab (by omega) af eZ
     rw[bE rfl,e]
     have r:=aF _ _ _ R bH (by omega) (by omega) s (by split<;>omega) (by split<;>omega) (by omega) (mI k)
     refine tm.cD ?_ k;split<;>rename_i j8<;>simp only[j8,eW,hp]at r |-<;>exact r
   |false=>
     rw[bV (by simp)]
     by_cases ie:c=59
     .obtain⟨bH,e,s,k⟩:=aLC T ah jc jV mT (d:=d) st aq ab (by omega) af eZ ie
      rw[bE ie,e,CL]
      exact tm.cD (aF _ _ _ R bH (by omega) (e2 _) s (by omega) (by omega) (by omega) (mI k)) k
     .rw[bV ie];cases hB:Tok.letter c with
      |true=>
        obtain⟨bH,e,s,k⟩:=aAY T ah jc jV mT (d:=d) st aq ab (by omega) af eZ ie hB
        rw[bE rfl,e,CL]
        exact tm.cons (aF _ _ _ _ bH (by omega) (e2 _) s (by omega) (by omega) (by simp;omega) (mI k)) k
      |false=>
        rw[bV (by simp)]
        cases jO:Tok.digit c with
        |true=>
          rw[bE rfl];split
          .rename_i ko
           obtain⟨bH,e,s,k⟩:=aAm T ah jc jV mT st aq ab (by omega) af eZ ie hB jO aQ wq pC ko
           rw[e]
           exact .inr ⟨31,bo,bB,bH,rfl,rfl,s,aH.mono k (cq _) (fun id _ af=>by simp at af |-;simp[af])⟩
          .rename_i ko
           obtain⟨bH,e,s,k⟩:=aOU T ah jc jV mT (d:=d) st aq ab (by omega) af eZ ie hB jO ko
           rw[e,CL]
           exact tm.cons (aF _ _ _ _ bH (by omega) (e2 _) s (by omega) (by omega) (by simp;omega) (mI k)) k
        |false=>
          rw[bV (by simp)]
          cases vW:Tok.sign c with
          |true=>
            obtain⟨bH,e,s,k⟩:=aE3 T ah jc jV mT (d:=d) st aq ab (by omega) af eZ ie hB jO vW
            rw[bE rfl,e]
            exact tm.cons (aF _ _ _ _ bH (by omega) (by omega) s (by omega) (by omega) (by simp;omega) (mI k)) k
          |false=>
            obtain⟨bH,e,s,k⟩:=aQi T ah jc jV mT st aq ab (by omega) af eZ ie hB jO vW aQ wq pC
            rw[bV (by simp),e]
            exact .inr ⟨30,bo,bB,bH,rfl,rfl,s,aH.mono k (cq _) (fun id _ af=>by simp at af |-;simp[af])⟩
end
def kR(l:List UInt8):List Tok.T × (Nat × Nat) × Nat:=if 1048576<l.length then([],(0,0),2)else match Tok.lex l 1 1 with
 |.done ao=>(ao,(0,0),0)
 |.bad e a q=>([],(a,q),e)
section
variable {ag:Nat->Option cz}
def aVa(aB:ag DU=some (.code qY))(T:uh ag)(base:Nat)(H:ad)(Ge:base<=H.length)(b:ByteArray)(r:List Tok.T × (Nat × Nat) × Nat)(ak:kR b.data.toList=r):
 ∃v H',aR ag (.fn DU [] []) [.s (.string b)] base H=some (.bQ [v,.agg [bL r.2.1.1,bL r.2.1.2],.s (.int .i64 r.2.2)],H')/\c1 H.length 5 H' v (r.1.map dA)/\aH H.length [] H H':=by
 have km:base<=H.length+2:=by omega
 by_cases dk:1048576<b.size
 .have tz:r=([],(0,0),2):=by rw[<- ak];exact bE dk
  have a8:decide ((b.size:Int) > 1048576)=true:=by rw[ox];omega
  have e:aR ag (.fn DU [] []) [.s (.string b)] base H=some (.bQ [cm,.agg [.s (.int .i64 0),.s (.int .i64 0)],.s (.int .i64 2)],H++[.cells 0 [.s (.int .i64 0),.s (.int .i64 0)]]):=by
   refine eF (c:=qY) (k:=1) aB rfl (by decide) U9 ?_
   simp only[qY,simprocAttr,cm,ri,aG,a8,Ge,WZ,TO]
  subst tz
  exact⟨_,_,e,c1.start _ _ _,by simp,fun id h _=>by rw[bi h]⟩
 .have a8:decide ((b.size:Int) > 1048576)=false:=by rw[xz];omega
  obtain⟨L,cU⟩:∃L,H.length=L:=⟨_,rfl⟩;obtain⟨gv,mg⟩:∃gv,H++[aM.cells 0 [V.s (Value.int IntKind.i64 0),V.s (Value.int IntKind.i64 0)]]++[aM.cells 0 [V.s (Value.int IntKind.i64 1),V.s (Value.int IntKind.i64 1),V.s (Value.string b),V.s (Value.int IntKind.i64 0)]]++[aM.cells 0 [V.ref (List.length H+1) 0 0]]++[aM.cells 0 [V.s (Value.slice none 0 0)]]=gv:=⟨_,rfl⟩
  have j5:∀x,x<L->gv[x]?=H[x]?:=fun x af=>by rw[<- mg];simp only[gi];rw[bi (by omega)]
  have iM:gv.length=L+4:=by rw[<- mg];simp[cU]
  have g0:au gv L 0=some [bL 0,bL 0]:=by rw[<- mg];simp[au,cU,bL]
  have g1:au gv (L+1) 0=some (oY 1 1 b 0):=by rw[<- mg];simp[au,cU,oY,bL]
  have g2:au gv (L+2) 0=some [.ref (L+1) 0 0]:=by rw[<- mg];simp[au,cU]
  have g3:au gv (L+3) 0=some [cm]:=by rw[<- mg];simp[au,cU,cm]
  have st:kD (L+4) gv (L+3) (L+2) (L+1) b 1 1 0 []:=⟨g2,g1,⟨_,g3,c1.start _ _ _⟩,by omega,by omega,by omega⟩
  have LQ:=azm T (base:=base) (m:=L+4) (b:=b) (by omega) (d:=L) (o:=L+3) (h:=L+2) (i:=L+1) (by omega) (by omega) (by omega) (by omega) (by omega) (by simp) b.size 0 1 1 [] gv (by omega) (by omega) st (by omega) (by omega) (by simp) ⟨_,_,g0⟩
  have rO:r=match Tok.lex b.data.toList 1 1 with
   |.done ao=>(ao,(0,0),0)
   |.bad e a q=>([],(a,q),e):=by rw[<- ak];exact bV dk
  rw[nR]at LQ
  have xJ:base<=L:=by omega
  have adh:base<=L+2:=by omega
  rcases LQ with⟨ao,bo,bB,H',J,aa,aI,bl,cO,fQ,qB⟩|⟨e,a,q,H',J,aa,aI,bl⟩
  .rw[J]at rO;simp only at rO;subst rO
   obtain⟨id,g,bH,aE,s1,gz,m1,cj,k1⟩:=Mr T.put T.step aI (base:=base) (by omega) (by omega) (by omega) (by omega) (n:=0) (by omega) cO fQ (by simpa using Nat.le_succ_of_le qB) 4
   rw[bL,show((4:Nat):Int)=4 from rfl,show((0:Nat):Int)=0 from rfl]at aE
   have d2:au bH L 0=some [bL 0,bL 0]:=k1.au (bl.au g0 (by omega) (by simp)) (by omega) (by simp)
   obtain⟨BI,p3⟩:∃BI,V.aZ id g 0 (([]++ao.map dA).length+1) 5=BI:=⟨_,rfl⟩;rw[p3]at gz
   have pR:∀br,au (bH.set L br) (L+3) 0=some [BI]:=fun br=>by rw[Ig _ (by omega)];exact gz
   have d3:∀c,au (bH.set L (.cells 0 c)) L 0=some c:=fun c=>fJ d2 c
   have e:aR ag (.fn DU [] []) [.s (.string b)] base H=some (.bQ [BI,.agg [.s (.int .i64 0),.s (.int .i64 0)],.s (.int .i64 0)],bH.set L (.cells 0 [.s (.int .i64 0),.s (.int .i64 0)])):=by
    refine eF (c:=qY) (k:=1) aB rfl (by decide) U9 ?_
    simp only[hF]at aa;rw[cU]at mg;simp only[qY,simprocAttr,ri,aG,cU,a8,xJ,adh,abR,WZ,TO,mg,iM,aa,aE,gz,d2,d3]
   refine⟨_,_,e,?_,?_⟩
   .obtain⟨v1,_,ru,_⟩:=s1.out
    have tQ:(ao++[(⟨4,[],0,bo,bB⟩:Tok.T)]).map dA=[]++ao.map dA++[dA ⟨4,(b.data.toList.drop b.size).take 0,0,bo,bB⟩]:=by rw[dj];simp
    rw[tQ]
    refine⟨ru,.inr ⟨id,g,?_,?_,by omega⟩⟩
    .rw[<- p3];simp
    .unfold au at cj |-
     rw[cG (by omega)]
     exact cj
   .refine⟨by rw[fP];have:=k1.1;omega,fun x af _=>?_⟩
    rw[cG (by omega),k1.2 x (by omega) (by simp;omega),bl.2 x (by omega) (by simp;omega),j5 x (by omega)]
  .rw[J]at rO;simp only at rO;subst rO
   have e:aR ag (.fn DU [] []) [.s (.string b)] base H=some (.bQ [cm,.agg [.s (.int .i64 a),.s (.int .i64 q)],.s (.int .i64 e)],H'):=by
    refine eF (c:=qY) (k:=1) aB rfl (by decide) U9 ?_
    simp only[hF,cm]at aa;rw[cU]at mg;simp only[qY,simprocAttr,cm,ri,aG,cU,a8,xJ,adh,abR,WZ,TO,mg,iM,aa,aI]
   exact⟨_,_,e,c1.start _ _ _,by have:=bl.1;omega,fun id hid _=>by rw[bl.2 id (by omega) (by simp;omega),j5 id (by omega)]⟩
end
end Go.Proofs.YtngfpadeebpoeaaGreatDoor.gO
set_option maxRecDepth 100000
namespace Go.Proofs.YtngfpadeebpoeaaGreatDoor
open Go.ea
abbrev zB:Nat:=32
def OR:=[1]++List.range' 3 10
def anq:=[q 2 (.alloc [h9,cF,c9,c9,c9])]
def adx:=[dO 5 2 12]
def aNQ:=[aw 3 0,eV 4 3,bM 5 0 4,b3 6 5,aw 7 0,eV 8 7,bM 9 1 8,b3 10 9,ji 11 5 6 10,q 12 (.load true 5 (.t 11))]
def aeD:=aNQ++adx
def rT:dm:={ ntmps:=13,results:=[.cell 2 true 5],body:=
 (.seq (.region anq [] OR)
 (.seq (.region aeD [] [0,3,4,5,6,7,8,9,10,11,12])
 .ret)) }
theorem aTq:eL (List.range' 1 (rT.ntmps-1)) rT.body=true:=by kernel_rfl
abbrev wR:Nat:=86
def Pm:=[1,2,3,4,5]
theorem aMI:gN Pm (fL 6 [] 1)=[]:=by kernel_rfl
def agZ:=[bws 2 (cM #[])]
def Ym:=[q 5 (.field false 1 1 (.t 4)),aw 2 5]
def amC:=cL 4 130 [.t 3,cR 1]::Ym
def aqy:=[aw 3 0]
def alV:=aqy++amC
def yn:dm:={ ntmps:=6,results:=[.tmp 2],body:=
 (.seq (.bh agZ Pm [])
 (.seq (.region alV [] [0,3,4,5])
 .ret)) }
abbrev J9:Nat:=87
def Kj:=List.range' 1 21
theorem aQk:gN Kj (fL 22 [] 1)=[]:=by kernel_rfl
def RE:=[bws 2 EL]
def UW:=[bws 3 EL]
def awI:=[cL 5 88 [.t 4,cM #[40]]]
def auE:=[aw 4 0]
def W7:=auE++awI
def YJ:=[q 8 (.un .not (.t 7))]
def akd:=cL 7 131 [.t 6,cM #[41]]::YJ
def aFR:=[aw 6 0]
def Wq:=aFR++akd
def KW:=[aw 9 3,q 10 (.da .s (.t 9)),q 11 (.bin .gtr (.t 10) (cc 0))]
def af3:=[cL 13 88 [.t 12,cM #[44]]]
def arq:=[aw 12 0]
def Lt:=arq++af3
def avt:=[aw 3 18]
def anI:=q 18 (.append 1 16 (.t 14) (.t 17))::avt
def SC:=q 17 (.gh 1 1 [cF] [(0,.t 16)])::anI
def aua:=cL 16 86 [.t 15]::SC
def ail:=[aw 14 3,aw 15 0]
def NM:=ail++aua
def QF:bZ:=
 (.seq (.seq (.region Wq [] [6,7])
 (.cond (.t 8)
 .skip
 (.exit 0)))
 (.block 1
 (.seq (.seq (.bh KW [8,9,10] [11])
 (.cond (.t 11)
 (.region Lt [] [11,12,13])
 .skip))
 (.region NM [] [11,14,15,16,17,18]))))
def Bp:bZ:=QF
def aky:=[cL 20 88 [.t 19,cM #[41]]]
def aRj:=[aw 19 0]
def afT:=aRj++aky
def ZT:=[aw 21 3,aw 2 21]
def r2:dm:={ ntmps:=22,results:=[.tmp 2],body:=
 (.seq (.bh RE Kj [])
 (.seq (.bh UW [] [3])
 (.seq (.region W7 [] [4,5])
 (.seq (.block 0
 (.loop [] Bp))
 (.seq (.region afT [] [0,8,19,20])
 (.seq (.bh ZT [3,21] [2])
 .ret)))))) }
abbrev Qi:Nat:=88
def yM:=List.range' 1 6++List.range' 8 9
def amp:=[q 7 (.un .not (.t 6))]
def ae5:=cL 6 131 [.t 4,.t 5]::amp
def aJf:=[aw 4 0,aw 5 1]
def aaD:=aJf++ae5
def av3:=[cL 9 33 [.t 8]]
def awl:=[aw 8 0]
def afB:=awl++av3
def akU:=[dO 1 16 14]
def azZ:=[aw 10 0,eV 11 10,bM 12 1 11,b3 13 12,q 14 (.bin .add (.t 13) (cc 1)),eV 15 10,bM 16 1 15]
def acm:=azZ++akU
def wx:dm:={ ntmps:=17,results:=[],body:=
 (.seq (.seq (.region aaD [] yM)
 (.cond (.t 7)
 (.region afB [] [7,8,9])
 .skip))
 (.region acm [] [0,7,10,11,12,13,14,15,16])) }
theorem aqU:eL (List.range' 2 (wx.ntmps-2)) wx.body=true:=by kernel_rfl
abbrev Ow:Nat:=89
def qd:=List.range' 1 8++[10,11]
def ahy:=[bD 7 (.field false 0 1 (.t 6)) 4 true,bD 8 (.bin .neq (.t 7) (cR 4)) 4 true,dF 9 (.t 4) (.t 8) dd]
def arz:=bD 6 (.call (.c (.fn 32 [] [])) [.t 5]) 4 true::ahy
def asr:=ew 5 0 4 true::arz
def aEQ:=[aw 4 3]
def apk:=aEQ++asr
def ate:=cL 3 132 [.t 2]::apk
def aH1:=[aw 2 0]
def acP:=aH1++ate
def aw6:=[cL 11 33 [.t 10]]
def apE:=[aw 10 0]
def aio:=apE++aw6
def tJ:dm:={ ntmps:=12,results:=[],body:=
 (.seq (.region acP [] qd)
 (.cond (.t 9)
 (.region aio [] [0,9,10,11])
 .skip)) }
theorem QC:eL (List.range' 1 (tJ.ntmps-1)) tJ.body=true:=by kernel_rfl
abbrev W':Nat:=90
def Io:=List.range' 2 38
theorem aEU:gN Io (fL 40 [] 2)=[]:=by kernel_rfl
def akN:=[bws 4 dd]
def ams:=[q 8 (.field false 0 1 (.t 7)),q 9 (.bin .neq (.t 8) (cR 1))]
def asR:=cL 7 32 [.t 6]::ams
def aQ0:=[aw 6 0]
def aik:=aQ0++asR
def aeV:=[bws 4 dd]
def atA:=[dO 5 5 20]
def aod:=q 5 (.alloc [h9,cF,c9,c9,c9])::atA
def aWm:=[aw 10 0,eV 11 10,bM 12 0 11,b3 13 12,aw 14 0,eV 15 14,bM 16 1 15,b3 17 16,q 18 (.bin .add (.t 17) (cc 1)),ji 19 5 13 18,q 20 (.load true 5 (.t 19))]
def ato:=aWm++aod
def akv:=[bD 36 (.field true 3 2 (.t 35)) 30 true,bD 37 (.field false 0 1 (.t 36)) 30 true,bD 38 (.bin .eql (.t 33) (.t 37)) 30 true,dF 39 (.t 30) (.t 38) dd,aw 4 39]
def acG:=bD 35 (.mK (.c (.fn 32 [] [])) [.t 34]) 30 true::akv
def aba:=ew 34 0 30 true::acG
def ayh:=dN 33 32 30 true::aba
def apP:=dp 32 0 31 30 true::ayh
def ada:=dp 31 3 5 30 true::apP
def aPf:=[bM 21 0 5,b3 22 21,q 23 (.bin .eql (.t 22) (cR 3)),aw 24 23,dp 25 1 5 24 true,dN 26 25 24 true,ew 27 1 24 true,bD 28 (.bin .eql (.t 26) (.t 27)) 24 true,dF 29 (.t 24) (.t 28) dd,aw 30 29]
def aa8:=aPf++ada
def oU:dm:={ ntmps:=40,results:=[.tmp 4],body:=
 (.seq (.bh akN Io [])
 (.seq (.seq (.region aik [] [6,7,8])
 (.cond (.t 9)
 (.seq (.bh aeV [0,1,9] [4])
 .ret)
 .skip))
 (.seq (.region ato [] [9,10,11,12,13,14,15,16,17,18,19,20])
 (.seq (.region aa8 [] [0,1,5,21,22,23,24,25,26,27,28,29,30,31,32,33,34,35,36,37,38,39])
 .ret)))) }
abbrev HX:Nat:=130
def KE:=[2,3]++List.range' 5 30
def aqO:=[q 4 (.alloc [h9,cF,c9,c9,c9])]
def ag8:=[bD 11 (.field false 0 1 (.t 10)) 8 false,ew 12 1 8 false,bD 13 (.bin .neq (.t 11) (.t 12)) 8 false,dF 14 (.t 8) bwd (.t 13)]
def aef:=bD 10 (.call (.c (.fn 32 [] [])) [.t 9]) 8 false::ag8
def axm:=ew 9 0 8 false::aef
def aFn:=[q 7 (.un .not (.t 6)),aw 8 7]
def axq:=aFn++axm
def amN:=cL 6 132 [.t 5]::axq
def aSG:=[aw 5 0]
def Rp:=aSG++amN
def YH:=[cL 16 33 [.t 15]]
def aqP:=[aw 15 0]
def Y':=aqP++YH
def awj:=[dO 1 23 21]
def aOv:=[aw 17 0,eV 18 17,bM 19 1 18,b3 20 19,q 21 (.bin .add (.t 20) (cc 1)),eV 22 17,bM 23 1 22]
def aew:=aOv++awj
def apX:=[dO 5 4 34]
def aBG:=[aw 24 0,eV 25 24,bM 26 0 25,b3 27 26,aw 28 0,eV 29 28,bM 30 1 29,b3 31 30,q 32 (.bin .sub (.t 31) (cc 1)),ji 33 5 27 32,q 34 (.load true 5 (.t 33))]
def aa5:=aBG++apX
def wk:dm:={ ntmps:=35,results:=[.cell 4 true 5],body:=
 (.seq (.region aqO [] KE)
 (.seq (.seq (.region Rp [] [1,5,6,7,8,9,10,11,12,13])
 (.cond (.t 14)
 (.region Y' [] [14,15,16])
 .skip))
 (.seq (.region aew [] [14,17,18,19,20,21,22,23])
 (.seq (.region aa5 [] [0,24,25,26,27,28,29,30,31,32,33,34])
 .ret)))) }
theorem abo:eL (List.range' 2 (wk.ntmps-2)) wk.body=true:=by kernel_rfl
abbrev XD:Nat:=131
def Kn:=List.range' 2 18
theorem aV0:gN Kn (fL 20 [] 2)=[]:=by kernel_rfl
def aht:=[bws 4 dd]
def adV:=[bD 16 (.field false 1 1 (.t 15)) 13 true,ew 17 1 13 true,bD 18 (.bin .eql (.t 16) (.t 17)) 13 true,dF 19 (.t 13) (.t 18) dd,aw 4 19]
def akA:=bD 15 (.call (.c (.fn 32 [] [])) [.t 14]) 13 true::adV
def axe:=ew 14 0 13 true::akA
def aWB:=[bD 10 (.field false 0 1 (.t 9)) 7 true,bD 11 (.bin .eql (.t 10) (cR 3)) 7 true,dF 12 (.t 7) (.t 11) dd,aw 13 12]
def avr:=aWB++axe
def Ze:=bD 9 (.call (.c (.fn 32 [] [])) [.t 8]) 7 true::avr
def apK:=ew 8 0 7 true::Ze
def aQJ:=[aw 7 6]
def ao1:=aQJ++apK
def atS:=cL 6 132 [.t 5]::ao1
def aRL:=[aw 5 0]
def afX:=aRL++atS
def q3:dm:={ ntmps:=20,results:=[.tmp 4],body:=
 (.seq (.bh aht Kn [])
 (.seq (.region afX [] [0,1,5,6,7,8,9,10,11,12,13,14,15,16,17,18,19])
 .ret)) }
abbrev MJ:Nat:=132
def Nn:=List.range' 1 27
theorem aDH:gN Nn (fL 28 [] 1)=[]:=by kernel_rfl
def aoi:=[bws 2 dd]
def as9:=[bD 24 (.field true 3 2 (.t 23)) 8 true,bD 25 (.field false 0 1 (.t 24)) 8 true,bD 26 (.bin .eql (.t 21) (.t 25)) 8 true,dF 27 (.t 8) (.t 26) dd,aw 2 27]
def acs:=bD 23 (.mK (.c (.fn 32 [] [])) [.t 22]) 8 true::as9
def aq3:=ew 22 0 8 true::acs
def axQ:=dN 21 20 8 true::aq3
def avR:=dp 20 0 19 8 true::axQ
def ZU:=dp 19 3 18 8 true::avR
def arN:=bD 18 (.indexAddr 5 (.t 12) (.t 17)) 8 true::ZU
def aw1:=bD 17 (.bin .sub (.t 16) (cc 1)) 8 true::arN
def Y1:=dN 16 15 8 true::aw1
def alH:=dp 15 1 14 8 true::Y1
def apx:=bD 14 (.nilCheck (.t 13)) 8 true::alH
def ar0:=ew 13 0 8 true::apx
def ae3:=dN 12 11 8 true::ar0
def ami:=dp 11 0 10 8 true::ae3
def apl:=bD 10 (.nilCheck (.t 9)) 8 true::ami
def ajO:=ew 9 0 8 true::apl
def aI0:=[aw 3 0,eV 4 3,bM 5 1 4,b3 6 5,q 7 (.bin .gtr (.t 6) (cc 0)),aw 8 7]
def aco:=aI0++ajO
def tk:dm:={ ntmps:=28,results:=[.tmp 2],body:=
 (.seq (.bh aoi Nn [])
 (.seq (.region aco [] [0,3,4,5,6,7,8,9,10,11,12,13,14,15,16,17,18,19,20,21,22,23,24,25,26,27])
 .ret)) }
abbrev DD:Nat:=156
def Ax:=List.range' 2 12
def awQ:=[cL 6 165 [.t 4,.t 5]]
def anv:=[aw 4 0,aw 5 1]
def SI:=anv++awQ
def aq4:=[cL 8 88 [.t 7,cM #[44]]]
def auT:=[aw 7 0]
def TH:=auT++aq4
def afv:=[dO 1 13 11]
def aGK:=[eV 12 9,bM 13 3 12]
def WC:=aGK++afv
def ad5:=cL 11 86 [.t 10]::WC
def axO:=[aw 9 1,aw 10 0]
def aaK:=axO++ad5
def qZ:dm:={ ntmps:=14,results:=[],body:=
 (.seq (.region SI [] Ax)
 (.seq (.region TH [] [7,8])
 (.region aaK [] [0,1,9,10,11,12,13]))) }
theorem O8:eL (List.range' 2 (qZ.ntmps-2)) qZ.body=true:=by kernel_rfl
abbrev z':Nat:=157
def Ch:=List.range' 2 10
def abG:=[cL 6 164 [.t 4,.t 5]]
def aqr:=[aw 4 0,aw 5 1]
def aqJ:=aqr++abG
def amq:=[dO 1 11 9]
def aWI:=[eV 10 7,bM 11 6 10]
def XT:=aWI++amq
def ank:=cL 9 87 [.t 8]::XT
def aw9:=[aw 7 1,aw 8 0]
def atD:=aw9++ank
def te:dm:={ ntmps:=12,results:=[],body:=
 (.seq (.region aqJ [] Ch)
 (.region atD [] [0,1,7,8,9,10,11])) }
theorem W6:eL (List.range' 2 (te.ntmps-2)) te.body=true:=by kernel_rfl
abbrev y0:Nat:=158
def Cj:=List.range' 2 10
def abD:=[cL 6 165 [.t 4,.t 5]]
def Z6:=[aw 4 0,aw 5 1]
def aaf:=Z6++abD
def asO:=[dO 1 11 9]
def aBE:=[eV 10 7,bM 11 6 10]
def Ru:=aBE++asO
def ayg:=cL 9 87 [.t 8]::Ru
def ap7:=[aw 7 1,aw 8 0]
def au9:=ap7++ayg
def tT:dm:={ ntmps:=12,results:=[],body:=
 (.seq (.region aaf [] Cj)
 (.region au9 [] [0,1,7,8,9,10,11])) }
theorem Uj:eL (List.range' 2 (tT.ntmps-2)) tT.body=true:=by kernel_rfl
abbrev Dv:Nat:=159
def nL:=List.range' 0 12
def akR:=[dO 1 11 9]
def aFK:=[eV 10 4,bM 11 7 10]
def axT:=aFK++akR
def Q6:=q 9 (.gh 1 2 [cF,cF] [(0,.t 6),(1,.t 8)])::axT
def av7:=cL 8 86 [.t 7]::Q6
def Zm:=[aw 7 0]
def WK:=Zm++av7
def awM:=cL 6 86 [.t 5]::WK
def XV:=[aw 4 1,aw 5 0]
def O6:=XV++awM
def q5:dm:={ ntmps:=12,results:=[],body:=
 (.region O6 [] nL) }
theorem Wf:eL (List.range' 2 (q5.ntmps-2)) q5.body=true:=by kernel_rfl
abbrev EN:Nat:=160
def sh:=List.range' 0 10
def aek:=[dO 1 9 7]
def aUk:=[eV 8 4,bM 9 7 8]
def al4:=aUk++aek
def T8:=q 7 (.gh 1 1 [cF] [(0,.t 6)])::al4
def alx:=cL 6 86 [.t 5]::T8
def alC:=[aw 4 1,aw 5 0]
def ajX:=alC++alx
def wv:dm:={ ntmps:=10,results:=[],body:=
 (.region ajX [] sh) }
theorem aw0:eL (List.range' 2 (wv.ntmps-2)) wv.body=true:=by kernel_rfl
abbrev J8:Nat:=161
def pK:=List.range' 2 9++[12,13,14]
def aay:=[bD 9 (.field false 0 1 (.t 8)) 6 true,bD 10 (.bin .eql (.t 9) (cR 1)) 6 true,dF 11 (.t 6) (.t 10) dd]
def aj2:=bD 8 (.call (.c (.fn 32 [] [])) [.t 7]) 6 true::aay
def YP:=ew 7 0 6 true::aj2
def aDs:=[aw 6 5]
def Za:=aDs++YP
def anm:=cL 5 132 [.t 4]::Za
def aO6:=[aw 4 0]
def asy:=aO6++anm
def awV:=[cL 14 165 [.t 12,.t 13]]
def aAT:=[aw 12 0,aw 13 1]
def am1:=aAT++awV
def tO:dm:={ ntmps:=15,results:=[],body:=
 (.seq (.region asy [] pK)
 (.cond (.t 11)
 (.region am1 [] [0,1,11,12,13,14])
 .skip)) }
theorem WD:eL (List.range' 2 (tO.ntmps-2)) tO.body=true:=by kernel_rfl
abbrev zg:Nat:=162
def sM:=List.range' 0 10
def at3:=[dO 1 9 7]
def ayY:=[q 7 (.field false 2 1 (.t 6)),eV 8 4,bM 9 4 8]
def WE:=ayY++at3
def afb:=cL 6 130 [.t 5,cR 2]::WE
def amm:=[aw 4 1,aw 5 0]
def acf:=amm++afb
def vB:dm:={ ntmps:=10,results:=[],body:=
 (.region acf [] sM) }
theorem abJ:eL (List.range' 2 (vB.ntmps-2)) vB.body=true:=by kernel_rfl
abbrev KH:Nat:=163
def Ek:dm:={ ntmps:=4,results:=[],body:=
 .skip }
abbrev EJ:Nat:=164
def uI:=List.range' 0 9
def arQ:=[dO 1 8 6]
def aIv:=[eV 7 4,bM 8 5 7]
def Rl:=aIv++arQ
def alT:=cL 6 86 [.t 5]::Rl
def adq:=[aw 4 1,aw 5 0]
def asw:=adq++alT
def vw:dm:={ ntmps:=9,results:=[],body:=
 (.region asw [] uI) }
theorem ao9:eL (List.range' 2 (vw.ntmps-2)) vw.body=true:=by kernel_rfl
abbrev zx:Nat:=165
def u':=List.range' 0 9
def acD:=[dO 1 8 6]
def aHX:=[eV 7 4,bM 8 2 7]
def S8:=aHX++acD
def alb:=cL 6 86 [.t 5]::S8
def asj:=[aw 4 1,aw 5 0]
def aqT:=asj++alb
def vg:dm:={ ntmps:=9,results:=[],body:=
 (.region aqT [] u') }
theorem abW:eL (List.range' 2 (vg.ntmps-2)) vg.body=true:=by kernel_rfl
abbrev Em:Nat:=166
def Cq:=List.range' 2 8
def ayl:=[cL 6 165 [.t 4,.t 5]]
def aoI:=[aw 4 0,aw 5 1]
def aeW:=aoI++ayl
def Zd:=[cL 9 162 [.t 7,.t 8]]
def agr:=[aw 7 0,aw 8 1]
def aue:=agr++Zd
def sI:dm:={ ntmps:=10,results:=[],body:=
 (.seq (.region aeW [] Cq)
 (.region aue [] [0,1,7,8,9])) }
theorem Vw:eL (List.range' 2 (sI.ntmps-2)) sI.body=true:=by kernel_rfl
abbrev CF:Nat:=167
def AI:=List.range' 2 35
def aoh:=[cL 5 88 [.t 4,cM #[91]]]
def awy:=[aw 4 0]
def XU:=awy++aoh
def u1:gQ:=[⟨some 6,.move (.t 1),none⟩,⟨some 7,.move (.t 1),none⟩,⟨some 8,.nilCheck (.t 7),none⟩,⟨some 9,.fieldAddr 7 (.t 8),none⟩,⟨some 10,.load false 1 (.t 9),none⟩,⟨some 11,.move (.t 0),none⟩,⟨some 12,.call (.c (.fn 86 [] [])) [.t 11],none⟩,⟨some 13,.gh 1 1 [.s (.string ⟨#[]⟩)] [(0,.t 12)],none⟩,⟨some 14,.append 1 16 (.t 10) (.t 13),none⟩,⟨some 15,.nilCheck (.t 6),none⟩,⟨some 16,.fieldAddr 7 (.t 15),none⟩,⟨none,.store 1 (.t 16) (.t 14),none⟩]
def aqu:=[cL 18 88 [.t 17,cM #[58]]]
def aqG:=[aw 17 0]
def MZ:=aqG++aqu
def sv:gQ:=[⟨some 19,.move (.t 1),none⟩,⟨some 20,.move (.t 1),none⟩,⟨some 21,.nilCheck (.t 20),none⟩,⟨some 22,.fieldAddr 6 (.t 21),none⟩,⟨some 23,.load false 1 (.t 22),none⟩,⟨some 24,.move (.t 0),none⟩,⟨some 25,.call (.c (.fn 86 [] [])) [.t 24],none⟩,⟨some 26,.gh 1 1 [.s (.string ⟨#[]⟩)] [(0,.t 25)],none⟩,⟨some 27,.append 1 16 (.t 23) (.t 26),none⟩,⟨some 28,.nilCheck (.t 19),none⟩,⟨some 29,.fieldAddr 6 (.t 28),none⟩,⟨none,.store 1 (.t 29) (.t 27),none⟩]
def aeK:=[q 32 (.un .not (.t 31))]
def ame:=cL 31 131 [.t 30,cM #[44]]::aeK
def aMk:=[aw 30 0]
def LU:=aMk++ame
def ao4:=[cL 34 88 [.t 33,cM #[44]]]
def ay7:=[aw 33 0]
def Nz:=ay7++ao4
def Ue:bZ:=
 (.block 1
 (.seq (.region u1 [(4,6)] [6,7,8,9,10,11,12,13,14,15,16])
 (.seq (.region MZ [] [17,18])
 (.seq (.region sv [(4,6)] [19,20,21,22,23,24,25,26,27,28,29])
 (.seq (.seq (.region LU [] [30,31])
 (.cond (.t 32)
 (.exit 0)
 .skip))
 (.region Nz [] [32,33,34]))))))
def AZ:bZ:=Ue
def aoZ:=[cL 36 88 [.t 35,cM #[93]]]
def acF:=[aw 35 0]
def atC:=acF++aoZ
def rC:dm:={ ntmps:=37,results:=[],body:=
 (.seq (.region XU [] AI)
 (.seq (.block 0
 (.loop [] AZ))
 (.region atC [] [0,1,32,35,36]))) }
theorem Nu:eL (List.range' 2 (rC.ntmps-2)) rC.body=true:=by kernel_rfl
abbrev ajM:Nat:=33
def aWN:=I (cl anq OR) (I (bk OR 0) (I (bk OR 2) (I (bb aeD [0,3,4,5,6,7,8,9,10,11] [12] HU 13 [] [(12,gZ 5 (je 5 (bn (bq 0 (eM (.t 0)))) (bn (bq 1 (eM (.t 0))))))] [.aS 0,lG,ee,dx,.aS 0,lG,Hx,AT,bT,az]) ((cl adx [0,3,4,5,6,7,8,9,10,11,12])))))
def Ri:=I (aB agZ Pm [] 3 [] [] [.cb (.s (.string ⟨#[]⟩))]) (I aMI (I (bk Pm 0) (I (bb alV [0] [3] [0,3,4,5] 4 [] [(3,.t 0)] [.aS 0]) (I (aC amC [3] [0,3,4,5]) ((cA Ym [0,3,4,5] [2] 6 [] [(2,.op (.field false 1 1 (.t 0)) [.t 4])] [az,az]))))))
def sG:=I (aB RE Kj [] 3 [] [] [.cb (.s (.slice none 0 0))]) (I aQk (I (bk Kj 0) (I (aB UW [] [3] 4 [] [(3,.c (.s (.slice none 0 0)))] [.cb (.s (.slice none 0 0))]) (I (bb W7 [] [4] qU 5 [] [(4,.t 0)] [.aS 0]) (I (cl awI [4,5]) (I (bb Wq [] [6] [6,7] 7 [] [(6,.t 0)] [.aS 0]) (I (aC akd [6] [6,7]) (I (cA YJ [6,7] [8] 9 [] [(8,kO (.t 7))] [az]) (I (aB KW [8,9,10] [11] 12 [] [(11,fY .gtr 0 (fX (.t 3)))] [.aS 3,bT,az]) (I (bb Lt [11] [12] [11,12,13] 13 [] [(12,.t 0)] [.aS 0]) (I (cl af3 [11,12,13]) (I (bb NM [3,11] [14,15] Ni 16 [] [(14,.t 3),(15,.t 0)] [.aS 3,.aS 0]) (I (aC aua [15] Ni) (I (aC SC [16] Ni) (I (aC anI [14,17] Ni) (I (cA avt [11,14,15,16,17,18] [3] 4 [] [(3,.t 18)] [.aS 18]) (I (bp Bp QF) (I (bb afT [0,8] [19] [0,8,19,20] 20 [] [(19,.t 0)] [.aS 0]) (I (cl aky [0,8,19,20]) (I (aB ZT [3,21] [2] 22 [] [(2,.t 3)] [.aS 3,.aS 3]) (QF.eq_1)))))))))))))))))))))
def S2:=I (bb aaD [1,2,3,6,7,8,9,10,11,12,13,14,15,16] qU yM 6 [] [(4,.t 0),(5,.t 1)] [.aS 0,.aS 1]) (I (aC ae5 [4,5] yM) (I (cA amp yM [7] 8 [] [(7,kO (.t 6))] [az]) (I (bk yM 0) (I (a6 yM 1) (I (a6 yM 4) (I (a6 yM 5) (I (a6 yM 6) (I (bk yM 7) (I (bb afB [7] [8] [7,8,9] 9 [] [(8,.t 0)] [.aS 0]) (I (cl av3 [7,8,9]) (I (bb acm [0,7,10,11,12,13,15] [14,16] [0,7,10,11,12,13,14,15,16] 17 [] [(14,h2 1 (bn (bq 1 (eM (.t 0))))),(16,bq 1 (eM (.t 0)))] [.aS 0,ee,dx,bT,az,ee,dx]) ((cl akU [0,7,10,11,12,13,14,15,16])))))))))))))
def L6:=I (bb acP [1,3,4,5,6,7,8,9,10,11] [2] qd 3 [] [(2,.t 0)] [.aS 0]) (I (aC ate [2] qd) (I (bb apk [3] [4] qd 5 [] [(4,.t 3)] [.aS 3]) (I (aC asr [] qd) (I (aC arz [5] qd) (I (cA ahy qd [9] 10 [] [(9,.pick (.t 4) (mR .neq 4 (.op (.field false 0 1 (.t 0)) [.t 6])) (.c (.s (.bool false))))] [.sub 0 [1,0] [4],.sub 0 [1] [4],az]) (I (bk qd 0) (I (a6 qd 2) (I (a6 qd 3) (I (a6 qd 4) (I (a6 qd 5) (I (a6 qd 6) (I (a6 qd 7) (I (a6 qd 8) (I (bk qd 9) (I (bb aio [0,9] [10] [0,9,10,11] 11 [] [(10,.t 0)] [.aS 0]) ((cl aw6 [0,9,10,11])))))))))))))))))
def MS:=I (aB akN Io [] 5 [] [] [.cb (.s (.bool false))]) (I aEU (I (bk Io 0) (I (bk Io 1) (I (bb aik [] [6] [6,7,8] 7 [] [(6,.t 0)] [.aS 0]) (I (aC asR [6] [6,7,8]) (I (cA ams [6,7,8] [9] 10 [] [(9,mR .neq 1 (.op (.field false 0 1 (.t 0)) [.t 7]))] [bT,az]) (I (aB aeV [0,1,9] [4] 5 [] [(4,gV)] [.cb (.s (.bool false))]) (I (bb ato [9,10,11,12,13,14,15,16,17,18,19] [20] aeC 21 [] [(20,gZ 5 (je 5 (bn (bq 0 (eM (.t 0)))) (h2 1 (bn (bq 1 (eM (.t 0)))))))] [.aS 0,lG,ee,dx,.aS 0,lG,r7 [0,1,0,0],Hx,AT,bT,az]) (I (aC aod [] aeC) (I (cl atA [9,10,11,12,13,14,15,16,17,18,19,20]) (I (bb aa8 [1,21,22,23,24,25,26,27,28,29] [30] Fm 31 [] [(30,.pick (nv 3 (bn (bq 0 (.t 5)))) (fj .eql (bn (bq 1 (.t 5))) (.t 1)) gV)] [ee,dx,bT,bT,.sub 0 [1,0,0] [24],.sub 0 [1,0] [24],.sub 0 [1,1] [24],.sub 0 [1] [24],az,az]) (I (aC ada [5] Fm) (I (aC apP [31] Fm) (I (aC ayh [32] Fm) (I (aC aba [0] Fm) (I (aC acG [34] Fm) ((cA akv [0,1,5,21,22,23,24,25,26,27,28,29,30,31,32,33,34,35,36,37,38,39] [4] 40 [] [(4,.pick (.t 30) (fj .eql (.t 33) (.op (.field false 0 1 (.t 0)) [.op (.field true 3 2 (.t 0)) [.t 35]])) (.c (.s (.bool false))))] [.sub 0 [1,1,0] [30],.sub 0 [1,1] [30],.sub 0 [1] [30],az,az]))))))))))))))))))
def Jf:=I (cl aqO KE) (I (bk KE 0) (I (bk KE 1) (I (bk KE 4) (I (bb Rp [] [5] KT 6 [] [(5,.t 0)] [.aS 0]) (I (aC amN [5] KT) (I (bb axq [6,7] [8] KT 9 [] [(8,kO (.t 6))] [az,az]) (I (aC axm [] KT) (I (aC aef [9] KT) (I (cA ag8 [1,5,6,7,8,9,10,11,12,13] [14] 15 [] [(14,.pick (.t 8) (.c (.s (.bool true))) (fj .neq (.op (.field false 0 1 (.t 0)) [.t 10]) (.t 1)))] [.sub 0 [2,0] [8],.sub 0 [2,1] [8],.sub 0 [2] [8],az]) (I (bb Y' [14] [15] [14,15,16] 16 [] [(15,.t 0)] [.aS 0]) (I (cl YH [14,15,16]) (I (bb aew [14,17,18,19,20,22] [21,23] [14,17,18,19,20,21,22,23] 24 [] [(21,h2 1 (bn (bq 1 (eM (.t 0))))),(23,bq 1 (eM (.t 0)))] [.aS 0,ee,dx,bT,az,ee,dx]) (I (cl awj [14,17,18,19,20,21,22,23]) (I (bb aa5 [0,24,25,26,27,28,29,30,31,32,33] [34] [0,24,25,26,27,28,29,30,31,32,33,34] 35 [] [(34,gZ 5 (je 5 (bn (bq 0 (eM (.t 0)))) (fY .sub 1 (bn (bq 1 (eM (.t 0)))))))] [.aS 0,lG,ee,dx,.aS 0,lG,r7 [0,1,0,0],Hx,AT,bT,az]) ((cl apX [0,24,25,26,27,28,29,30,31,32,33,34]))))))))))))))))
def U1:=I (aB aht Kn [] 5 [] [] [.cb (.s (.bool false))]) (I aV0 (I (bk Kn 0) (I (bk Kn 1) (I (bb afX [] [5] Bv 6 [] [(5,.t 0)] [.aS 0]) (I (aC atS [5] Bv) (I (bb ao1 [6] [7] Bv 8 [] [(7,.t 6)] [.aS 6]) (I (aC apK [] Bv) (I (aC Ze [8] Bv) (I (bb avr [7,9,10,11,12] [13] Bv 14 [] [(13,.pick (.t 7) (nv 3 (.op (.field false 0 1 (.t 0)) [.t 9])) (.c (.s (.bool false))))] [.sub 0 [1,0] [7],.sub 0 [1] [7],az,az]) (I (aC axe [0] Bv) (I (aC akA [14] Bv) ((cA adV [0,1,5,6,7,8,9,10,11,12,13,14,15,16,17,18,19] [4] 20 [] [(4,.pick (.t 13) (fj .eql (.op (.field false 1 1 (.t 0)) [.t 15]) (.t 1)) (.c (.s (.bool false))))] [.sub 0 [1,0] [13],.sub 0 [1,1] [13],.sub 0 [1] [13],az,az])))))))))))))
def ayj:=I (aB aoi Nn [] 3 [] [] [.cb (.s (.bool false))]) (I aDH (I (bk Nn 0) (I (bb aco [3,4,5,6,7] [8] qL 9 [] [(8,fY .gtr 0 (bn (bq 1 (eM (.t 0)))))] [.aS 0,ee,dx,bT,az,az]) (I (aC ajO [] qL) (I (aC apl [9] qL) (I (aC ami [10] qL) (I (aC ae3 [11] qL) (I (aC ar0 [] qL) (I (aC apx [13] qL) (I (aC alH [14] qL) (I (aC Y1 [15] qL) (I (aC aw1 [16] qL) (I (aC arN [12,17] qL) (I (aC ZU [18] qL) (I (aC avR [19] qL) (I (aC axQ [20] qL) (I (aC aq3 [0] qL) (I (aC acs [22] qL) ((cA as9 [0,3,4,5,6,7,8,9,10,11,12,13,14,15,16,17,18,19,20,21,22,23,24,25,26,27] [2] 28 [] [(2,.pick (.t 8) (fj .eql (.t 21) (.op (.field false 0 1 (.t 0)) [.op (.field true 3 2 (.t 0)) [.t 23]])) (.c (.s (.bool false))))] [.sub 0 [1,1,0] [8],.sub 0 [1,1] [8],.sub 0 [1] [8],az,az]))))))))))))))))))))
def F9:=I (bb SI [2,3,6,7,8,9,10,11,12,13] qU Ax 6 [] [(4,.t 0),(5,.t 1)] [.aS 0,.aS 1]) (I (cl awQ Ax) (I (bk Ax 0) (I (bk Ax 1) (I (a6 Ax 4) (I (a6 Ax 5) (I (a6 Ax 6) (I (bb TH [] [7] [7,8] 8 [] [(7,.t 0)] [.aS 0]) (I (cl aq4 [7,8]) (I (bb aaK [0,1] [9,10] S0 11 [] [(9,.t 1),(10,.t 0)] [.aS 1,.aS 0]) (I (aC ad5 [10] S0) (I (bb WC [9,12] [13] S0 14 [] [(13,bq 3 (eM (.t 9)))] [bT,az]) ((cl afv [0,1,9,10,11,12,13])))))))))))))
def Nk:=I (bb aqJ [2,3,6,7,8,9,10,11] qU Ch 6 [] [(4,.t 0),(5,.t 1)] [.aS 0,.aS 1]) (I (cl abG Ch) (I (bk Ch 0) (I (bk Ch 1) (I (a6 Ch 4) (I (a6 Ch 5) (I (a6 Ch 6) (I (bb atD [0,1] [7,8] HD 9 [] [(7,.t 1),(8,.t 0)] [.aS 1,.aS 0]) (I (aC ank [8] HD) (I (bb XT [7,10] [11] HD 12 [] [(11,bq 6 (eM (.t 7)))] [bT,az]) ((cl amq [0,1,7,8,9,10,11])))))))))))
def Oo:=I (bb aaf [2,3,6,7,8,9,10,11] qU Cj 6 [] [(4,.t 0),(5,.t 1)] [.aS 0,.aS 1]) (I (cl abD Cj) (I (bk Cj 0) (I (bk Cj 1) (I (a6 Cj 4) (I (a6 Cj 5) (I (a6 Cj 6) (I (bb au9 [0,1] [7,8] HD 9 [] [(7,.t 1),(8,.t 0)] [.aS 1,.aS 0]) (I (aC ayg [8] HD) (I (bb Ru [7,10] [11] HD 12 [] [(11,bq 6 (eM (.t 7)))] [bT,az]) ((cl asO [0,1,7,8,9,10,11])))))))))))
def aaQ:=I (bb O6 [1,2,3,6,7,8,9,10,11] qU nL 6 [] [(4,.t 1),(5,.t 0)] [.aS 1,.aS 0]) (I (aC awM [5] nL) (I (bb WK [0] [7] nL 8 [] [(7,.t 0)] [.aS 0]) (I (aC av7 [7] nL) (I (aC Q6 [6,8] nL) (I (bb axT [4,10] [11] nL 12 [] [(11,bq 7 (eM (.t 4)))] [bT,az]) (I (cl akR nL) (I (a6 nL 0) (I (a6 nL 1) (I (a6 nL 4) (I (a6 nL 5) (I (a6 nL 6) (I (a6 nL 7) (I (a6 nL 8) (I (a6 nL 9) (I (a6 nL 10) ((a6 nL 11)))))))))))))))))
def ap2:=I (bb ajX [0,1,2,3,6,7,8,9] qU sh 6 [] [(4,.t 1),(5,.t 0)] [.aS 1,.aS 0]) (I (aC alx [5] sh) (I (aC T8 [6] sh) (I (bb al4 [4,8] [9] sh 10 [] [(9,bq 7 (eM (.t 4)))] [bT,az]) (I (cl aek sh) (I (a6 sh 0) (I (a6 sh 1) (I (a6 sh 4) (I (a6 sh 5) (I (a6 sh 6) (I (a6 sh 7) (I (a6 sh 8) ((a6 sh 9)))))))))))))
def Qr:=I (bb asy [2,3,5,6,7,8,9,10,11,12,13,14] [4] pK 5 [] [(4,.t 0)] [.aS 0]) (I (aC anm [4] pK) (I (bb Za [5] [6] pK 7 [] [(6,.t 5)] [.aS 5]) (I (aC YP [] pK) (I (aC aj2 [7] pK) (I (cA aay pK [11] 12 [] [(11,.pick (.t 6) (nv 1 (.op (.field false 0 1 (.t 0)) [.t 8])) (.c (.s (.bool false))))] [.sub 0 [1,0] [6],.sub 0 [1] [6],az]) (I (bk pK 0) (I (bk pK 1) (I (a6 pK 4) (I (a6 pK 5) (I (a6 pK 6) (I (a6 pK 7) (I (a6 pK 8) (I (a6 pK 9) (I (a6 pK 10) (I (bk pK 11) (I (bb am1 [0,1,11] [12,13] [0,1,11,12,13,14] 14 [] [(12,.t 0),(13,.t 1)] [.aS 0,.aS 1]) ((cl awV [0,1,11,12,13,14]))))))))))))))))))
def avK:=I (bb acf [0,1,2,3,6,7,8,9] qU sM 6 [] [(4,.t 1),(5,.t 0)] [.aS 1,.aS 0]) (I (aC afb [5] sM) (I (bb WE [4,6,8] [7,9] sM 10 [] [(7,.op (.field false 2 1 (.t 0)) [.t 6]),(9,bq 4 (eM (.t 4)))] [az,me,eE]) (I (cl at3 sM) (I (a6 sM 0) (I (a6 sM 1) (I (a6 sM 4) (I (a6 sM 5) (I (a6 sM 6) (I (a6 sM 7) (I (a6 sM 8) ((a6 sM 9))))))))))))
def alY:=I (bb asw [0,1,2,3,6,7,8] qU uI 6 [] [(4,.t 1),(5,.t 0)] [.aS 1,.aS 0]) (I (aC alT [5] uI) (I (bb Rl [4,7] [8] uI 9 [] [(8,bq 5 (eM (.t 4)))] [bT,az]) (I (cl arQ uI) (I (a6 uI 0) (I (a6 uI 1) (I (a6 uI 4) (I (a6 uI 5) (I (a6 uI 6) (I (a6 uI 7) ((a6 uI 8)))))))))))
def adI:=I (bb aqT [0,1,2,3,6,7,8] qU u' 6 [] [(4,.t 1),(5,.t 0)] [.aS 1,.aS 0]) (I (aC alb [5] u') (I (bb S8 [4,7] [8] u' 9 [] [(8,bq 2 (eM (.t 4)))] [bT,az]) (I (cl acD u') (I (a6 u' 0) (I (a6 u' 1) (I (a6 u' 4) (I (a6 u' 5) (I (a6 u' 6) (I (a6 u' 7) ((a6 u' 8)))))))))))
def MD:=I (bb aeW [2,3,6,7,8,9] qU Cq 6 [] [(4,.t 0),(5,.t 1)] [.aS 0,.aS 1]) (I (cl ayl Cq) (I (bk Cq 0) (I (bk Cq 1) (I (a6 Cq 4) (I (a6 Cq 5) (I (a6 Cq 6) (I (bb aue [0,1] [7,8] [0,1,7,8,9] 9 [] [(7,.t 0),(8,.t 1)] [.aS 0,.aS 1]) ((cl Zd [0,1,7,8,9])))))))))
def BC:=I (bb XU [2,3,5,6,7,8,9,10,11,12,13,14,15,16,17,18,19,20,21,22,23,24,25,26,27,28,29,30,31,32,33,34,35,36] [4] AI 5 [] [(4,.t 0)] [.aS 0]) (I (cl aoh AI) (I (bk AI 0) (I (bk AI 1) (I (a6 AI 4) (I (a6 AI 5) (I (bb MZ [] [17] [17,18] 18 [] [(17,.t 0)] [.aS 0]) (I (cl aqu [17,18]) (I (bb LU [] [30] [30,31] 31 [] [(30,.t 0)] [.aS 0]) (I (aC ame [30] [30,31]) (I (cA aeK [30,31] [32] 33 [] [(32,kO (.t 31))] [az]) (I (bb Nz [32] [33] [32,33,34] 34 [] [(33,.t 0)] [.aS 0]) (I (cl ao4 [32,33,34]) (I (bp AZ Ue) (I (bb atC [0,1,32] [35] [0,1,32,35,36] 36 [] [(35,.t 0)] [.aS 0]) (I (cl aoZ [0,1,32,35,36]) (Ue.eq_1))))))))))))))))
theorem aGb:dS Tryz.prog dH 32=some (false,rT.ntmps,rT.results,rT.body.bare):=by kernel_rfl
theorem aMg:dS Tryz.prog dH 86=some (false,yn.ntmps,yn.results,yn.body.bare):=by kernel_rfl
theorem aRK:dS Tryz.prog dH 87=some (false,r2.ntmps,r2.results,r2.body.bare):=by kernel_rfl
theorem aAF:dS Tryz.prog dH 88=some (false,wx.ntmps,wx.results,wx.body.bare):=by kernel_rfl
theorem aMD:dS Tryz.prog dH 89=some (false,tJ.ntmps,tJ.results,tJ.body.bare):=by kernel_rfl
theorem aQq:dS Tryz.prog dH 90=some (false,oU.ntmps,oU.results,oU.body.bare):=by kernel_rfl
theorem aLm:dS Tryz.prog dH 130=some (false,wk.ntmps,wk.results,wk.body.bare):=by kernel_rfl
theorem aHF:dS Tryz.prog dH 131=some (false,q3.ntmps,q3.results,q3.body.bare):=by kernel_rfl
theorem aLg:dS Tryz.prog dH 132=some (false,tk.ntmps,tk.results,tk.body.bare):=by kernel_rfl
theorem aFk:dS Tryz.prog dH 156=some (false,qZ.ntmps,qZ.results,qZ.body.bare):=by kernel_rfl
theorem aHn:dS Tryz.prog dH 157=some (false,te.ntmps,te.results,te.body.bare):=by kernel_rfl
theorem az0:dS Tryz.prog dH 158=some (false,tT.ntmps,tT.results,tT.body.bare):=by kernel_rfl
theorem aMW:dS Tryz.prog dH 159=some (false,q5.ntmps,q5.results,q5.body.bare):=by kernel_rfl
theorem aV5:dS Tryz.prog dH 160=some (false,wv.ntmps,wv.results,wv.body.bare):=by kernel_rfl
theorem aOt:dS Tryz.prog dH 161=some (false,tO.ntmps,tO.results,tO.body.bare):=by kernel_rfl
theorem aNk:dS Tryz.prog dH 162=some (false,vB.ntmps,vB.results,vB.body.bare):=by kernel_rfl
theorem aU5:dS Tryz.prog dH 163=some (false,Ek.ntmps,Ek.results,Ek.body.bare):=by kernel_rfl
theorem aLY:dS Tryz.prog dH 164=some (false,vw.ntmps,vw.results,vw.body.bare):=by kernel_rfl
theorem aCd:dS Tryz.prog dH 165=some (false,vg.ntmps,vg.results,vg.body.bare):=by kernel_rfl
theorem aUJ:dS Tryz.prog dH 166=some (false,sI.ntmps,sI.results,sI.body.bare):=by kernel_rfl
theorem aQE:BS [86] Tryz.prog dH 167=some (false,rC.ntmps,rC.results,rC.body.bare):=by kernel_rfl
abbrev BG:Nat:=14
def tM:=[1]++List.range' 5 43
def aph:=[q 4 (.alloc [c9])]
def MN:=q 3 (.alloc [c9,c9])::aph
def V7:=[q 2 (.alloc [e9])]
def E9:gQ:=V7++MN
def Gt:=[1]++List.range' 3 45
def azY(call:c5)(it:hE)(base:Nat)(f:List V)(H:ad):aL call it base (.region E9 [] tM) f H=nZ call it base (.region MN [] tM) (oH [] V7 Gt (cI call base [⟨some 2,.alloc [.s (.slice none 0 0)],none⟩] f H)):=(xu call it base V7 MN (kc:=Gt) (by kernel_rfl) f H).trans (by rw[vK];rfl)
def Z7:=[dO 1 4 13]
def ahU:=dO 2 3 12::Z7
def aOV:=[aw 8 10,iD 11 8 0,iD 12 8 1,iD 13 8 2,aw 5 11]
def amM:=aOV++ahU
def ava:=cL 10 30 [.t 9]::amM
def aSE:=[aw 9 0]
def UX:=aSE++ava
def PO:=[b3 14 4,q 15 (.bin .neq (.t 14) (cc 0))]
def NO:gQ:=[⟨some 16,.build [.s (.slice none 0 0)] [(0,1)] [],none⟩,⟨some 17,.load true 2 (.t 3),none⟩,⟨some 18,.load false 1 (.t 4),none⟩,⟨none,.store 1 (.t 2) (.t 16),none⟩,⟨none,.store 2 (.t 3) (.t 17),none⟩,⟨none,.store 1 (.t 4) (.t 18),none⟩]
def ass:=[eB (.stuck)]
def aGc:=[q 19 (.ez 31 [] [.t 2,.t 3,.t 4])]
def ao6:=aGc++ass
def Z3:=[aw 6 22]
def aeX:=q 22 (.box (.t 21))::Z3
def azo:=[aw 20 5,q 21 (.build [e9,c9] [(0,1),(1,1)] [(0,.t 20)])]
def Pv:=azo++aeX
def axR:=[q 25 (.field false 0 1 (.t 24)),q 26 (.bin .neq (.t 25) (cR 4))]
def ayq:=cL 24 32 [.t 23]::axR
def aJ1:=[aw 23 6]
def Sg:=aJ1++ayq
def acw:=[dO 5 7 28]
def ZX:=q 7 (.alloc [h9,cF,c9,c9,c9])::acw
def ai2:=cL 28 32 [.t 27]::ZX
def aPB:=[aw 27 6]
def NS:=aPB++ai2
def J0:=[bM 29 0 7,b3 30 29,q 31 (.bin .neq (.t 30) (cR 1)),aw 32 31,dp 33 1 7 32 false,dN 34 33 32 false,bD 35 (.bin .neq (.t 34) (cM #[102,117,110,99])) 32 false,dF 36 (.t 32) bwd (.t 35)]
def aln:=[cL 38 33 [.t 37]]
def aeS:=[aw 37 6]
def NY:=aeS++aln
def uo:gQ:=[⟨some 39,.fieldAddr 0 (.t 2),none⟩,⟨some 40,.load false 1 (.t 39),none⟩,⟨some 41,.move (.t 6),none⟩,⟨some 42,.call (.c (.fn 34 [] [])) [.t 41],none⟩,⟨some 43,.gh 3 1 [.s (.string ⟨#[]⟩),.s (.slice none 0 0),.s (.slice none 0 0)] [(0,.t 42)],none⟩,⟨some 44,.append 3 64 (.t 40) (.t 43),none⟩,⟨some 45,.fieldAddr 0 (.t 2),none⟩,⟨none,.store 1 (.t 45) (.t 44),none⟩]
def Vk:bZ:=
 (.seq (.seq (.region Sg [] [23,24,25])
 (.cond (.t 26)
 .skip
 (.exit 0)))
 (.block 1
 (.seq (.seq (.region NS [] [26,27,28])
 (.seq (.bh J0 [7,29,30,31,32,33,34,35] [36])
 (.cond (.t 36)
 (.region NY [] [36,37,38])
 .skip)))
 (.region uo [(1,3)] [36,39,40,41,42,43,44,45]))))
def acl:bZ:=Vk
def av2:=[eB (.store 1 (.t 4) (cc 0))]
def aiz:=dO 2 3 47::av2
def auL:=dO 1 2 46::aiz
def az7:=[q 46 (.load true 1 (.t 2)),q 47 (.build [c9,c9] [(0,1),(1,1)] [])]
def L4:=az7++auL
def AU:dm:={ ntmps:=48,results:=[.cell 2 true 1,.cell 3 true 2,.cell 4 false 1],body:=
 (.seq (.region E9 [] tM)
 (.seq (.region UX [] [0,8,9,10,11,12,13])
 (.seq (.seq (.bh PO [14] [15])
 (.cond (.t 15)
 (.seq (.region NO [(1,3),(2,3),(2,4)] [5,15,16,17,18])
 .ret)
 .skip))
 (.seq (.region ao6 [] [15,19])
 (.seq (.region Pv [] [5,20,21,22])
 (.seq (.block 0
 (.loop [] acl))
 (.seq (.region L4 [] [6,26,46,47])
 .ret))))))) }
theorem azw:eL (List.range' 1 (AU.ntmps-1)) AU.body=true:=by kernel_rfl
abbrev abI:Nat:=31
def qN:=List.range' 5 14
def af6:=[aw 4 9]
def ak5:=dO 5 3 8::af6
def aeE:=q 3 (.alloc [h9,cF,c9,c9,c9])::ak5
def aK2:=[aw 5 7,iD 8 5 0,iD 9 5 1]
def alM:=aK2++aeE
def atv:=q 7 (.stuck)::alM
def acb:=q 6 (.stuck)::atv
def W5:=[aw 10 4]
def VY:gQ:=[⟨some 11,.build [.s (.slice none 0 0)] [(0,1)] [],none⟩,⟨some 12,.fieldAddr 0 (.t 3),none⟩,⟨some 13,.fieldAddr 3 (.t 12),none⟩,⟨some 14,.load true 2 (.t 13),none⟩,⟨none,.store 1 (.t 0) (.t 11),none⟩,⟨none,.store 2 (.t 1) (.t 14),none⟩,⟨none,.store 1 (.t 2) (.c (.s (.int .i64 40))),none⟩]
def Uz:=[bM 15 0 3,bM 16 0 15,b3 17 16,q 18 (.bin .eql (.t 17) (cR 4))]
def Wx:=[eB (.store 1 (.t 2) (cc 41))]
abbrev A9:Nat:=34
def IG:=[1]++List.range' 3 98
def QD:=[q 2 (.alloc [cF,e9,e9])]
def ahl:=[dO 1 12 10]
def aCH:=[aw 6 0,eV 7 6,bM 8 1 7,b3 9 8,q 10 (.bin .add (.t 9) (cc 1)),eV 11 6,bM 12 1 11]
def Yr:=aCH++ahl
def avF:=[dO 3 3 17]
def amA:=q 3 (.alloc [cF,e9,e9])::avF
def aTn:=[q 17 (.build [cF,e9,e9] [(0,1),(1,1),(2,1)] [(0,.t 14),(1,.t 16)])]
def RD:=aTn++amA
def amU:=cL 16 87 [.t 15]::RD
def amc:=[aw 15 0]
def QN:=amc++amU
def ara:=cL 14 86 [.t 13]::QN
def Vz:=[aw 13 0]
def LR:=Vz++ara
def ack:=[cL 19 88 [.t 18,cM #[123]]]
def ZZ:=[aw 18 0]
def Ro:=ZZ++ack
def awN:=[cL 21 89 [.t 20]]
def aa0:=[aw 20 0]
def XB:=aa0++awN
def adl:=[dO 5 4 23]
def afU:=q 4 (.alloc [h9,cF,c9,c9,c9])::adl
def axy:=cL 23 32 [.t 22]::afU
def aLI:=[aw 22 0]
def SN:=aLI++axy
def LF:=[bM 43 0 4,b3 44 43,q 45 (.bin .eql (.t 44) (cR 3)),aw 46 45,dp 47 1 4 46 true,dN 48 47 46 true,bD 49 (.bin .eql (.t 48) (cM #[125])) 46 true,dF 50 (.t 46) (.t 49) dd,aw 42 50]
def ae6:=[dO 1 57 55]
def aM0:=[aw 51 0,eV 52 51,bM 53 1 52,b3 54 53,q 55 (.bin .add (.t 54) (cc 1)),eV 56 51,bM 57 1 56]
def TT:=aM0++ae6
def akz:=[cL 59 89 [.t 58]]
def aiB:=[aw 58 0]
def XP:=aiB++akz
def anf:=[dO 3 2 60]
def azy:=[q 60 (.load true 3 (.t 3))]
def Xy:=azy++anf
def abh:=[aw 61 63]
def ajC:=cL 63 90 [.t 62,cM #[58]]::abh
def aFS:=[aw 62 0]
def Xn:=aFS++ajC
def afE:=[dO 1 71 70]
def aJY:=[bM 71 2 3]
def adO:=aJY++afE
def awK:=q 70 (.append 2 40 (.t 65) (.t 69))::adO
def ZJ:=q 69 (.gh 2 1 [cF,e9] [(0,.t 68)])::awK
def aB7:=[bM 64 2 3,b3 65 64,bM 66 1 4,b3 67 66,q 68 (.build [cF,e9] [(0,1),(1,1)] [(0,.t 67)])]
def UB:=aB7++ZJ
def asG:=[dO 1 78 76]
def aAa:=[aw 72 0,eV 73 72,bM 74 1 73,b3 75 74,q 76 (.bin .add (.t 75) (cc 2)),eV 77 72,bM 78 1 77]
def Ul:=aAa++asG
def Qf:=[bM 80 0 4,b3 81 80,q 82 (.bin .neq (.t 81) (cR 1)),aw 83 82,dp 84 2 3 83 false,dN 85 84 83 false,bD 86 (.da .s (.t 85)) 83 false,bD 87 (.bin .eql (.t 86) (cc 0)) 83 false,dF 88 (.t 83) bwd (.t 87),aw 79 88]
def MC:=[bM 89 0 4,b3 90 89,q 91 (.bin .eql (.t 90) (cR 1))]
def aiZ:=[dO 1 98 96]
def ay4:=[aw 92 0,eV 93 92,bM 94 1 93,b3 95 94,q 96 (.bin .add (.t 95) (cc 1)),eV 97 92,bM 98 1 97]
def Ma:=ay4++aiZ
def amT:=[cL 100 33 [.t 99]]
def QT:=[aw 99 0]
def alK:=QT++amT
def Wy:=[bM 24 2 3,b3 25 24,bM 26 2 3,b3 27 26,q 28 (.da .s (.t 27)),q 29 (.bin .sub (.t 28) (cc 1)),ji 30 2 25 29,aw 5 30]
def u0:gQ:=[⟨some 31,.move (.t 5),none⟩,⟨some 32,.move (.t 5),none⟩,⟨some 33,.nilCheck (.t 32),none⟩,⟨some 34,.fieldAddr 1 (.t 33),none⟩,⟨some 35,.load false 1 (.t 34),none⟩,⟨some 36,.move (.t 0),none⟩,⟨some 37,.call (.c (.fn 91 [] [])) [.t 36],none⟩,⟨some 38,.gh 8 1 [.s (.int .u8 0),.s (.string ⟨#[]⟩),.s (.string ⟨#[]⟩),.s (.string ⟨#[]⟩),.s (.int .i64 0),.s (.string ⟨#[]⟩),.s (.slice none 0 0),.s (.slice none 0 0)] [(0,.t 37)],none⟩,⟨some 39,.append 8 128 (.t 35) (.t 38),none⟩,⟨some 40,.nilCheck (.t 31),none⟩,⟨some 41,.fieldAddr 1 (.t 40),none⟩,⟨none,.store 1 (.t 41) (.t 39),none⟩]
def Wj:bZ:=
 (.block 1
 (.seq (.region XB [] [20,21])
 (.seq (.region SN [] [22,23])
 (.block 2
 (.seq (.bh LF [43,44,45,46,47,48,49,50] [42])
 (.cond (.t 42)
 (.seq (.region TT [] [4,42,51,52,53,54,55,56,57])
 (.seq (.region XP [] [0,58,59])
 (.seq (.region Xy [] [3,60])
 .ret)))
 (.seq (.region Xn [] [42,62,63])
 (.cond (.t 61)
 (.seq (.region UB [] [4,61,64,65,66,67,68,69,70,71])
 (.region Ul [] [72,73,74,75,76,77,78]))
 (.seq (.bh Qf [61,80,81,82,83,84,85,86,87,88] [79])
 (.cond (.t 79)
 (.seq (.seq (.bh MC [4,79,89,90] [91])
 (.cond (.t 91)
 (.region Ma [] [91,92,93,94,95,96,97,98])
 .skip))
 (.region alK [] [91,99,100]))
 (.seq (.bh Wy [4,24,25,26,27,28,29,30,79] [5])
 (.region u0 [(4,6)] [5,31,32,33,34,35,36,37,38,39,40,41]))))))))))))
def A0:bZ:=Wj
def pF:dm:={ ntmps:=101,results:=[.cell 2 true 3],body:=
 (.seq (.region QD [] IG)
 (.seq (.region Yr [] [6,7,8,9,10,11,12])
 (.seq (.region LR [] [13,14,15,16,17])
 (.seq (.region Ro [] [18,19])
 (.block 0
 (.loop [] A0)))))) }
theorem JB:eL (List.range' 1 (pF.ntmps-1)) pF.body=true:=by kernel_rfl
abbrev BJ:Nat:=91
def Ia:=[1]++List.range' 3 73
def R1:=[q 2 (.alloc [h9,cF,cF,cF,c9,cF,e9,e9])]
def RN:=[q 3 (.alloc [h9,cF,cF,cF,c9,cF,e9,e9])]
def akG:=[aw 4 7]
def S7:=cL 7 133 []::akG
def aeF:=[cL 9 90 [.t 8,cM #[61]]]
def aCf:=[aw 8 0]
def K1:=aCf++aeF
def abr:=[dO 1 13 12]
def aUI:=[q 12 (.field false 1 1 (.t 11)),bM 13 1 3]
def alI:=aUI++abr
def avW:=cL 11 32 [.t 10]::alI
def aP0:=[aw 10 0]
def Mb:=aP0++avW
def ado:=[dO 1 20 18]
def azN:=[aw 14 0,eV 15 14,bM 16 1 15,b3 17 16,q 18 (.bin .add (.t 17) (cc 1)),eV 19 14,bM 20 1 19]
def L1:=azN++ado
def aga:=[cL 22 88 [.t 21,cM #[61]]]
def aIZ:=[aw 21 0]
def N7:=aIZ++aga
def als:=[q 25 (.un .not (.t 24))]
def agt:=cL 24 132 [.t 23]::als
def aVN:=[aw 23 0]
def KZ:=aVN++agt
def abS:=[cL 27 33 [.t 26]]
def amr:=[aw 26 0]
def LM:=amr++abS
def akk:=[aw 4 28]
def QA:=cL 28 134 []::akk
def auf:=[aw 6 36]
def auv:=dO 2 5 35::auf
def asA:=q 5 (.alloc [h9,.s .nilFunc])::auv
def aNy:=[q 33 (.field false 1 1 (.t 32)),q 34 (.ik .string (.agg [h9,.s .nilFunc]) (.t 30) (.t 33) true),aw 29 34,iD 35 29 0,iD 36 29 1]
def aiY:=aNy++asA
def ais:=cL 32 32 [.t 31]::aiY
def aA0:=[aw 30 4,aw 31 0]
def Kv:=aA0++ais
def HM:=[aw 37 6,q 38 (.un .not (.t 37)),aw 39 38,dp 40 1 3 39 true,dN 41 40 39 true,bD 42 (.bin .eql (.t 41) (cM #[])) 39 true,dF 43 (.t 39) (.t 42) dd]
def amJ:=[dO 1 50 48]
def aUf:=[aw 44 0,eV 45 44,bM 46 1 45,b3 47 46,q 48 (.bin .add (.t 47) (cc 1)),eV 49 44,bM 50 1 49]
def FG:=aUf++amJ
def adu:=[bD 56 (.field false 0 1 (.t 55)) 53 false,bD 57 (.bin .neq (.t 56) (cR 1)) 53 false,dF 58 (.t 53) bwd (.t 57)]
def ajc:=bD 55 (.call (.c (.fn 32 [] [])) [.t 54]) 53 false::adu
def asv:=ew 54 0 53 false::ajc
def aDz:=[aw 51 6,q 52 (.un .not (.t 51)),aw 53 52]
def CY:=aDz++asv
def akQ:=[cL 60 33 [.t 59]]
def Np:=[aw 59 0]
def No:=Np++akQ
def akW:=[dO 1 67 65]
def aEk:=[aw 61 0,eV 62 61,bM 63 1 62,b3 64 63,q 65 (.bin .add (.t 64) (cc 1)),eV 66 61,bM 67 1 66]
def Py:=aEk++akW
def acM:=[dO 1 70 69]
def aUq:=[bM 68 0 5,b3 69 68,bM 70 0 3]
def OP:=aUq++acM
def agY:=[q 74 (.call (.t 72) [.t 73,.t 3])]
def QS:gQ:=[⟨some 71,.fieldAddr 1 (.t 5),none⟩,⟨some 72,.load false 1 (.t 71),none⟩,⟨some 73,.move (.t 0),none⟩]
def O3:=QS++agY
def ajY:=[dO 8 2 75]
def aKN:=[q 75 (.load true 8 (.t 3))]
def PM:=aKN++ajY
def qi:dm:={ ntmps:=76,results:=[.cell 2 true 8],body:=
 (.seq (.region R1 [] Ia)
 (.seq (.region RN [] [])
 (.seq (.region S7 [] [7])
 (.seq (.seq (.region K1 [] [8])
 (.cond (.t 9)
 (.seq (.region Mb [] [4,9,10,11,12,13])
 (.seq (.region L1 [] [14,15,16,17,18,19,20])
 (.seq (.region N7 [] [21,22])
 (.seq (.seq (.region KZ [] [23,24])
 (.cond (.t 25)
 (.region LM [] [25,26,27])
 .skip))
 (.region QA [] [25,28])))))
 .skip))
 (.seq (.region Kv [] [4,9,29,30,31,32,33,34,35,36])
 (.seq (.seq (.bh HM [37,38,39,40,41,42] [43])
 (.cond (.t 43)
 (.region FG [] [43,44,45,46,47,48,49,50])
 .skip))
 (.seq (.seq (.region CY [] [6,43,51,52,53,54,55,56,57])
 (.cond (.t 58)
 (.region No [] [58,59,60])
 .skip))
 (.seq (.region Py [] [58,61,62,63,64,65,66,67])
 (.seq (.region OP [] [68,69,70])
 (.seq (.region O3 [] [0,5,71,72,73,74])
 (.seq (.region PM [] [3,75])
 .ret))))))))))) }
theorem LB:eL (List.range' 1 (qi.ntmps-1)) qi.body=true:=by kernel_rfl
abbrev R4:Nat:=133
def RW:=List.range' 0 9
theorem aD0:gN RW (fL 9 [] 0)=[]:=by kernel_rfl
def apb:=[q 0 (.move (.c (.s (.map none))))]
def arF:=[aw 8 1,aw 0 8]
def akJ:=eB (.eJ .string (.t 1) (cM #[114,101,116]) (.t 7))::arF
def aOu:=[q 7 (.build [h9,.s .nilFunc] [(0,1),(1,1)] [(0,cR 14),(1,.c (.fn 161 [] []))])]
def adp:=aOu++akJ
def abE:=eB (.eJ .string (.t 1) (cM #[103,111,116,111]) (.t 6))::adp
def aUQ:=[q 6 (.build [h9,.s .nilFunc] [(0,1),(1,1)] [(0,cR 13),(1,.c (.fn 160 [] []))])]
def afi:=aUQ++abE
def auR:=eB (.eJ .string (.t 1) (cM #[98,114]) (.t 5))::afi
def aBA:=[q 5 (.build [h9,.s .nilFunc] [(0,1),(1,1)] [(0,cR 12),(1,.c (.fn 159 [] []))])]
def aqz:=aBA++auR
def ayi:=eB (.eJ .string (.t 1) (cM #[105,99,97,108,108]) (.t 4))::aqz
def aOn:=[q 4 (.build [h9,.s .nilFunc] [(0,1),(1,1)] [(0,cR 11),(1,.c (.fn 158 [] []))])]
def afd:=aOn++ayi
def ayk:=eB (.eJ .string (.t 1) (cM #[99,97,108,108]) (.t 3))::afd
def aIr:=[q 3 (.build [h9,.s .nilFunc] [(0,1),(1,1)] [(0,cR 10),(1,.c (.fn 157 [] []))])]
def aoY:=aIr++ayk
def acK:=eB (.eJ .string (.t 1) (cM #[115,116,111,114,101]) (.t 2))::aoY
def aFv:=[q 2 (.build [h9,.s .nilFunc] [(0,1),(1,1)] [(0,cR 9),(1,.c (.fn 156 [] []))])]
def anP:=aFv++acK
def atc:=q 1 (.vN)::anP
def Ay:dm:={ ntmps:=9,results:=[.tmp 0],body:=
 (.seq (.bh apb RW [])
 (.seq (.region atc [] [1,2,3,4,5,6,7,8])
 .ret)) }
abbrev bce:Nat:=134
def SH:=List.range' 0 13
theorem aEu:gN SH (fL 13 [] 0)=[]:=by kernel_rfl
def as7:=[q 0 (.move (.c (.s (.map none))))]
def akr:=[aw 12 1,aw 0 12]
def aa1:=eB (.eJ .string (.t 1) (cM #[105,99,97,108,108]) (.t 11))::akr
def aLE:=[q 11 (.build [h9,.s .nilFunc] [(0,1),(1,1)] [(0,cR 11),(1,.c (.fn 158 [] []))])]
def YR:=aLE++aa1
def aiS:=eB (.eJ .string (.t 1) (cM #[99,97,108,108]) (.t 10))::YR
def aTw:=[q 10 (.build [h9,.s .nilFunc] [(0,1),(1,1)] [(0,cR 10),(1,.c (.fn 157 [] []))])]
def anu:=aTw++aiS
def arw:=eB (.eJ .string (.t 1) (cM #[112,104,105]) (.t 9))::anu
def aVb:=[q 9 (.build [h9,.s .nilFunc] [(0,1),(1,1)] [(0,cR 6),(1,.c (.fn 167 [] []))])]
def apw:=aVb++arw
def aub:=eB (.eJ .string (.t 1) (cM #[102,105,101,108,100]) (.t 8))::apw
def aL9:=[q 8 (.build [h9,.s .nilFunc] [(0,1),(1,1)] [(0,cR 7),(1,.c (.fn 166 [] []))])]
def akM:=aL9++aub
def atH:=eB (.eJ .string (.t 1) (cM #[108,111,97,100]) (.t 7))::akM
def aKD:=[q 7 (.build [h9,.s .nilFunc] [(0,1),(1,1)] [(0,cR 8),(1,.c (.fn 165 [] []))])]
def asL:=aKD++atH
def adk:=eB (.eJ .string (.t 1) (cM #[99,111,112,121]) (.t 6))::asL
def aRi:=[q 6 (.build [h9,.s .nilFunc] [(0,1),(1,1)] [(0,cR 5),(1,.c (.fn 165 [] []))])]
def aai:=aRi++adk
def ak6:=eB (.eJ .string (.t 1) (cM #[97,100,100,114]) (.t 5))::aai
def aUW:=[q 5 (.build [h9,.s .nilFunc] [(0,1),(1,1)] [(0,cR 4),(1,.c (.fn 164 [] []))])]
def avG:=aUW++ak6
def agy:=eB (.eJ .string (.t 1) (cM #[110,117,108,108]) (.t 4))::avG
def aAz:=[q 4 (.build [h9,.s .nilFunc] [(0,1),(1,1)] [(0,cR 3),(1,.c (.fn 163 [] []))])]
def aqS:=aAz++agy
def arS:=eB (.eJ .string (.t 1) (cM #[109,97,108,108,111,99]) (.t 3))::aqS
def aCj:=[q 3 (.build [h9,.s .nilFunc] [(0,1),(1,1)] [(0,cR 2),(1,.c (.fn 162 [] []))])]
def aa7:=aCj++arS
def awk:=eB (.eJ .string (.t 1) (cM #[97,108,108,111,99,97]) (.t 2))::aa7
def aSN:=[q 2 (.build [h9,.s .nilFunc] [(0,1),(1,1)] [(0,cR 1),(1,.c (.fn 162 [] []))])]
def ajd:=aSN++awk
def axo:=q 1 (.vN)::ajd
def zZ:dm:={ ntmps:=13,results:=[.tmp 0],body:=
 (.seq (.bh as7 SH [])
 (.seq (.region axo [] [1,2,3,4,5,6,7,8,9,10,11,12])
 .ret)) }
def sV:=I (bk Gt 0) (I (bk Gt 2) (I (a6 Gt 3) (I (a6 Gt 4) (I azY (I (aC MN [] tM) (I (cl aph tM) (I (bk tM 0) (I (bk tM 2) (I (bk tM 3) (I (bk tM 4) (I (bb UX [0] [9] MA 10 [] [(9,.t 0)] [.aS 0]) (I (aC ava [9] MA) (I (bb amM [8,10,11] [12,13,5] MA 14 [] [(12,iH 1 (.t 10)),(13,iH 2 (.t 10)),(5,iH 0 (.t 10))] [.aS 10,Ae,az,eE,Ae]) (I (aC ahU [12] MA) (I (cl Z7 [0,8,9,10,11,12,13]) (I (aB PO [14] [15] 16 [] [(15,fY .neq 0 (bn (.t 4)))] [bT,az]) (I (bb ao6 [15,19] [] [15,19] 20 [([],.op (.ez 31 [] [.t 0,.t 1,.t 2]) [.t 2,.t 3,.t 4])] [] [.cD [] (.op (.ez 31 [] [.t 0,.t 1,.t 2]) [.t 2,.t 3,.t 4])]) (I (cl ass [15,19]) (I (bb Pv [5,20] [21] [5,20,21,22] 22 [] [(21,.op (.build [.s (.slice none 0 0),.s (.int .i64 0)] [(0,1),(1,1)] [(0,.t 0)]) [.t 5])] [.aS 5,az]) (I (aC aeX [21] [5,20,21,22]) (I (cA Z3 [5,20,21,22] [6] 7 [] [(6,.t 22)] [.aS 22]) (I (bb Sg [] [23] [23,24,25] 24 [] [(23,.t 6)] [.aS 6]) (I (aC ayq [23] [23,24,25]) (I (cA axR [23,24,25] [26] 27 [] [(26,mR .neq 4 (.op (.field false 0 1 (.t 0)) [.t 24]))] [bT,az]) (I (bb NS [26] [27] [26,27,28] 28 [] [(27,.t 6)] [.aS 6]) (I (aC ai2 [27] [26,27,28]) (I (aC ZX [] [26,27,28]) (I (cl acw [26,27,28]) (I (aB J0 [7,29,30,31,32,33,34,35] [36] 37 [] [(36,.pick (mR .neq 1 (bn (bq 0 (.t 7)))) (.c (.s (.bool true))) (.op (.bin .neq (.t 0) (.c (.s (.string ⟨#[102,117,110,99]⟩)))) [bn (bq 1 (.t 7)),.c (.s (.string ⟨#[102,117,110,99]⟩))]))] [ee,dx,bT,bT,.sub 0 [2,0,0] [32],.sub 0 [2,0] [32],.sub 0 [2] [32],az]) (I (bb NY [36] [37] [36,37,38] 38 [] [(37,.t 6)] [.aS 6]) (I (cl aln [36,37,38]) (I (bp acl Vk) (I (bb L4 [6,26] [46,47] [6,26,46,47] 48 [] [(46,gZ 1 (.t 2)),(47,.op (.build [.s (.int .i64 0),.s (.int .i64 0)] [(0,1),(1,1)] []) [])] [az,eE]) (I (aC auL [46] [6,26,46,47]) (I (aC aiz [47] [6,26,46,47]) (I (cl av2 [6,26,46,47]) (Vk.eq_1)))))))))))))))))))))))))))))))))))))
def PW:=I (aC acb [3,4,5,6,7,8,9,10,11,12,13,14,15,16,17,18] qN) (I (aC atv [] qN) (I (bb alM [5,7] [8,9] qN 10 [] [(8,iH 0 (.t 7)),(9,iH 1 (.t 7))] [.aS 7,az,eE]) (I (aC aeE [] qN) (I (aC ak5 [8] qN) (I (cA af6 qN [4] 5 [] [(4,.t 9)] [.aS 9]) (I (bk qN 0) (I (bk qN 1) (I (bk qN 2) (I (a6 qN 6) (I (a6 qN 7) (I (a6 qN 5) (I (a6 qN 8) (I (a6 qN 9) (I (bk qN 3) (I (bk qN 4) (I (aB W5 [4] [10] 11 [] [(10,.t 4)] [.aS 4]) (I (aB Uz [3,15,16,17] [18] 19 [] [(18,nv 4 (bn (bq 0 (bq 0 (.t 3)))))] [ee,dx,bT,az]) ((cl Wx [2,18])))))))))))))))))))
def ki:=I (cl QD IG) (I (bk IG 0) (I (bk IG 2) (I (bb Yr [6,7,8,9,11] [10,12] [6,7,8,9,10,11,12] 13 [] [(10,h2 1 (bn (bq 1 (eM (.t 0))))),(12,bq 1 (eM (.t 0)))] [.aS 0,ee,dx,bT,az,ee,dx]) (I (cl ahl [6,7,8,9,10,11,12]) (I (bb LR [] [13] Hv 14 [] [(13,.t 0)] [.aS 0]) (I (aC ara [13] Hv) (I (bb QN [] [15] Hv 16 [] [(15,.t 0)] [.aS 0]) (I (aC amU [15] Hv) (I (bb RD [14,16] [17] Hv 18 [] [(17,.op (.build [.s (.string ⟨#[]⟩),.s (.slice none 0 0),.s (.slice none 0 0)] [(0,1),(1,1),(2,1)] [(0,.t 0),(1,.t 1)]) [.t 14,.t 16])] [az]) (I (aC amA [] Hv) (I (cl avF [13,14,15,16,17]) (I (bb Ro [] [18] [18,19] 19 [] [(18,.t 0)] [.aS 0]) (I (cl ack [18,19]) (I (bb XB [] [20] [20,21] 21 [] [(20,.t 0)] [.aS 0]) (I (cl awN [20,21]) (I (bb SN [] [22] [22,23] 23 [] [(22,.t 0)] [.aS 0]) (I (aC axy [22] [22,23]) (I (aC afU [] [22,23]) (I (cl adl [22,23]) (I (aB LF [43,44,45,46,47,48,49,50] [42] 51 [] [(42,.pick (nv 3 (bn (bq 0 (.t 4)))) (.op (.bin .eql (.t 0) (.c (.s (.string ⟨#[125]⟩)))) [bn (bq 1 (.t 4)),.c (.s (.string ⟨#[125]⟩))]) (.c (.s (.bool false))))] [ee,dx,bT,bT,.sub 0 [1,0,0] [46],.sub 0 [1,0] [46],.sub 0 [1] [46],az,az]) (I (bb TT [4,42,51,52,53,54,56] [55,57] [4,42,51,52,53,54,55,56,57] 58 [] [(55,h2 1 (bn (bq 1 (eM (.t 0))))),(57,bq 1 (eM (.t 0)))] [.aS 0,ee,dx,bT,az,ee,dx]) (I (cl ae6 [4,42,51,52,53,54,55,56,57]) (I (bb XP [0] [58] [0,58,59] 59 [] [(58,.t 0)] [.aS 0]) (I (cl akz [0,58,59]) (I (bb Xy [3] [60] [3,60] 61 [] [(60,gZ 3 (.t 3))] [az]) (I (cl anf [3,60]) (I (bb Xn [42] [62] [42,62,63] 63 [] [(62,.t 0)] [.aS 0]) (I (aC ajC [62] [42,62,63]) (I (cA abh [42,62,63] [61] 62 [] [(61,.t 63)] [.aS 63]) (I (bb UB [4,61,64,66,67] [65,68] PU 69 [] [(65,bn (bq 2 (.t 3))),(68,.op (.build [.s (.string ⟨#[]⟩),.s (.slice none 0 0)] [(0,1),(1,1)] [(0,.t 0)]) [bn (bq 1 (.t 4))])] [bT,az,Fw,me,eE]) (I (aC ZJ [68] PU) (I (aC awK [65,69] PU) (I (bb adO [] [71] PU 72 [] [(71,bq 2 (.t 3))] [az]) (I (cl afE [4,61,64,65,66,67,68,69,70,71]) (I (bb Ul [72,73,74,75,77] [76,78] [72,73,74,75,76,77,78] 79 [] [(76,h2 2 (bn (bq 1 (eM (.t 0))))),(78,bq 1 (eM (.t 0)))] [.aS 0,ee,dx,bT,az,ee,dx]) (I (cl asG [72,73,74,75,76,77,78]) (I (aB Qf [61,80,81,82,83,84,85,86,87,88] [79] 89 [] [(79,.pick (mR .neq 1 (bn (bq 0 (.t 4)))) gA (fY .eql 0 (fX (bn (bq 2 (.t 3))))))] [ee,dx,bT,bT,.sub 0 [2,0,0,0] [83],.sub 0 [2,0,0] [83],.sub 0 [2,0] [83],.sub 0 [2] [83],az,az]) (I (aB MC [4,79,89,90] [91] 92 [] [(91,nv 1 (bn (bq 0 (.t 4))))] [dx,bT,az]) (I (bb Ma [91,92,93,94,95,97] [96,98] [91,92,93,94,95,96,97,98] 99 [] [(96,h2 1 (bn (bq 1 (eM (.t 0))))),(98,bq 1 (eM (.t 0)))] [.aS 0,ee,dx,bT,az,ee,dx]) (I (cl aiZ [91,92,93,94,95,96,97,98]) (I (bb alK [91] [99] [91,99,100] 100 [] [(99,.t 0)] [.aS 0]) (I (cl amT [91,99,100]) (I (aB Wy [4,24,25,26,27,28,29,30,79] [5] 31 [] [(5,je 2 (bn (bq 2 (.t 3))) (fY .sub 1 (fX (bn (bq 2 (.t 3))))))] [dx,bT,dx,bT,q2,mN,az,az]) (I (bp A0 Wj) (Wj.eq_1)))))))))))))))))))))))))))))))))))))))))))))
def ke:=I (cl R1 Ia) (I (bk Ia 0) (I (bk Ia 2) (I (cl RN []) (I (aC S7 [] [7]) (I (cA akG [7] [4] 5 [] [(4,.t 7)] [.aS 7]) (I (bb K1 [] [8] [8] 9 [] [(8,.t 0)] [.aS 0]) (I (cl aeF [8]) (I (bb Mb [4,9] [10] Vo 11 [] [(10,.t 0)] [.aS 0]) (I (aC avW [10] Vo) (I (bb alI [11] [12,13] Vo 14 [] [(12,.op (.field false 1 1 (.t 0)) [.t 11]),(13,bq 1 (.t 3))] [az,eE]) (I (cl abr [4,9,10,11,12,13]) (I (bb L1 [14,15,16,17,19] [18,20] [14,15,16,17,18,19,20] 21 [] [(18,h2 1 (bn (bq 1 (eM (.t 0))))),(20,bq 1 (eM (.t 0)))] [.aS 0,ee,dx,bT,az,ee,dx]) (I (cl ado [14,15,16,17,18,19,20]) (I (bb N7 [] [21] [21,22] 22 [] [(21,.t 0)] [.aS 0]) (I (cl aga [21,22]) (I (bb KZ [] [23] [23,24] 24 [] [(23,.t 0)] [.aS 0]) (I (aC agt [23] [23,24]) (I (cA als [23,24] [25] 26 [] [(25,kO (.t 24))] [az]) (I (bb LM [25] [26] [25,26,27] 27 [] [(26,.t 0)] [.aS 0]) (I (cl abS [25,26,27]) (I (aC QA [25] [25,28]) (I (cA akk [25,28] [4] 5 [] [(4,.t 28)] [.aS 28]) (I (bb Kv [4,9] [30,31] Kb 32 [] [(30,.t 4),(31,.t 0)] [.aS 4,.aS 0]) (I (aC ais [31] Kb) (I (bb aiY [29,30,32,33,34] [35,36] Kb 37 [] [(35,iH 0 (.op (.ik .string (.agg [.s (.int .u8 0),.s .nilFunc]) (.t 0) (.t 1) true) [.t 30,.op (.field false 1 1 (.t 0)) [.t 32]])),(36,iH 1 (.op (.ik .string (.agg [.s (.int .u8 0),.s .nilFunc]) (.t 0) (.t 1) true) [.t 30,.op (.field false 1 1 (.t 0)) [.t 32]]))] [AT,bT,bT,az,eE]) (I (aC asA [] Kb) (I (aC auv [35] Kb) (I (cA auf [4,9,29,30,31,32,33,34,35,36] [6] 7 [] [(6,.t 36)] [.aS 36]) (I (aB HM [37,38,39,40,41,42] [43] 44 [] [(43,.pick (kO (.t 6)) (.op (.bin .eql (.t 0) (.c (.s (.string ⟨#[]⟩)))) [bn (bq 1 (.t 3)),.c (.s (.string ⟨#[]⟩))]) (.c (.s (.bool false))))] [.aS 6,bT,bT,.sub 0 [1,0,0] [39],.sub 0 [1,0] [39],.sub 0 [1] [39],az]) (I (bb FG [43,44,45,46,47,49] [48,50] [43,44,45,46,47,48,49,50] 51 [] [(48,h2 1 (bn (bq 1 (eM (.t 0))))),(50,bq 1 (eM (.t 0)))] [.aS 0,ee,dx,bT,az,ee,dx]) (I (cl amJ [43,44,45,46,47,48,49,50]) (I (bb CY [6,43,51,52] [53] Vs 54 [] [(53,kO (.t 6))] [.aS 6,az,az]) (I (aC asv [] Vs) (I (aC ajc [54] Vs) (I (cA adu [6,43,51,52,53,54,55,56,57] [58] 59 [] [(58,.pick (.t 53) (.c (.s (.bool true))) (mR .neq 1 (.op (.field false 0 1 (.t 0)) [.t 55])))] [.sub 0 [2,0] [53],.sub 0 [2] [53],az]) (I (bb No [58] [59] [58,59,60] 60 [] [(59,.t 0)] [.aS 0]) (I (cl akQ [58,59,60]) (I (bb Py [58,61,62,63,64,66] [65,67] [58,61,62,63,64,65,66,67] 68 [] [(65,h2 1 (bn (bq 1 (eM (.t 0))))),(67,bq 1 (eM (.t 0)))] [.aS 0,ee,dx,bT,az,ee,dx]) (I (cl akW [58,61,62,63,64,65,66,67]) (I (bb OP [68] [69,70] [68,69,70] 71 [] [(69,bn (bq 0 (.t 5))),(70,bq 0 (.t 3))] [bT,az,eE]) (I (cl acM [68,69,70]) (I (bb O3 [0,5,71] [72,73] [0,5,71,72,73,74] 74 [] [(72,bn (bq 1 (.t 5))),(73,.t 0)] [bT,az,.aS 0]) (I (cl agY [0,5,71,72,73,74]) (I (bb PM [3] [75] [3,75] 76 [] [(75,gZ 8 (.t 3))] [az]) ((cl ajY [3,75]))))))))))))))))))))))))))))))))))))))))))))))
def aDt:=I (aB apb RW [] 1 [] [] [.cb (.s (.map none))]) (I aD0 (I (aC atc [] sX) (I (bb anP [] [2] sX 3 [] [(2,.op (.build [.s (.int .u8 0),.s .nilFunc] [(0,1),(1,1)] [(0,.c (.s (.int .u8 9))),(1,.c (.fn 156 [] []))]) [.c (.s (.int .u8 9)),.c (.fn 156 [] [])])] [az]) (I (aC acK [2] sX) (I (bb aoY [] [3] sX 4 [] [(3,.op (.build [.s (.int .u8 0),.s .nilFunc] [(0,1),(1,1)] [(0,.c (.s (.int .u8 10))),(1,.c (.fn 157 [] []))]) [.c (.s (.int .u8 10)),.c (.fn 157 [] [])])] [az]) (I (aC ayk [3] sX) (I (bb afd [] [4] sX 5 [] [(4,.op (.build [.s (.int .u8 0),.s .nilFunc] [(0,1),(1,1)] [(0,.c (.s (.int .u8 11))),(1,.c (.fn 158 [] []))]) [.c (.s (.int .u8 11)),.c (.fn 158 [] [])])] [az]) (I (aC ayi [4] sX) (I (bb aqz [] [5] sX 6 [] [(5,.op (.build [.s (.int .u8 0),.s .nilFunc] [(0,1),(1,1)] [(0,.c (.s (.int .u8 12))),(1,.c (.fn 159 [] []))]) [.c (.s (.int .u8 12)),.c (.fn 159 [] [])])] [az]) (I (aC auR [5] sX) (I (bb afi [] [6] sX 7 [] [(6,.op (.build [.s (.int .u8 0),.s .nilFunc] [(0,1),(1,1)] [(0,.c (.s (.int .u8 13))),(1,.c (.fn 160 [] []))]) [.c (.s (.int .u8 13)),.c (.fn 160 [] [])])] [az]) (I (aC abE [6] sX) (I (bb adp [] [7] sX 8 [] [(7,.op (.build [.s (.int .u8 0),.s .nilFunc] [(0,1),(1,1)] [(0,.c (.s (.int .u8 14))),(1,.c (.fn 161 [] []))]) [.c (.s (.int .u8 14)),.c (.fn 161 [] [])])] [az]) (I (aC akJ [7] sX) ((cA arF [1,2,3,4,5,6,7,8] [0] 9 [] [(0,.t 1)] [.aS 1,.aS 1]))))))))))))))))
def aQC:=I (aB as7 SH [] 1 [] [] [.cb (.s (.map none))]) (I aEu (I (aC axo [] np) (I (bb ajd [] [2] np 3 [] [(2,.op (.build [.s (.int .u8 0),.s .nilFunc] [(0,1),(1,1)] [(0,.c (.s (.int .u8 1))),(1,.c (.fn 162 [] []))]) [.c (.s (.int .u8 1)),.c (.fn 162 [] [])])] [az]) (I (aC awk [2] np) (I (bb aa7 [] [3] np 4 [] [(3,.op (.build [.s (.int .u8 0),.s .nilFunc] [(0,1),(1,1)] [(0,.c (.s (.int .u8 2))),(1,.c (.fn 162 [] []))]) [.c (.s (.int .u8 2)),.c (.fn 162 [] [])])] [az]) (I (aC arS [3] np) (I (bb aqS [] [4] np 5 [] [(4,.op (.build [.s (.int .u8 0),.s .nilFunc] [(0,1),(1,1)] [(0,.c (.s (.int .u8 3))),(1,.c (.fn 163 [] []))]) [.c (.s (.int .u8 3)),.c (.fn 163 [] [])])] [az]) (I (aC agy [4] np) (I (bb avG [] [5] np 6 [] [(5,.op (.build [.s (.int .u8 0),.s .nilFunc] [(0,1),(1,1)] [(0,.c (.s (.int .u8 4))),(1,.c (.fn 164 [] []))]) [.c (.s (.int .u8 4)),.c (.fn 164 [] [])])] [az]) (I (aC ak6 [5] np) (I (bb aai [] [6] np 7 [] [(6,.op (.build [.s (.int .u8 0),.s .nilFunc] [(0,1),(1,1)] [(0,.c (.s (.int .u8 5))),(1,.c (.fn 165 [] []))]) [.c (.s (.int .u8 5)),.c (.fn 165 [] [])])] [az]) (I (aC adk [6] np) (I (bb asL [] [7] np 8 [] [(7,.op (.build [.s (.int .u8 0),.s .nilFunc] [(0,1),(1,1)] [(0,.c (.s (.int .u8 8))),(1,.c (.fn 165 [] []))]) [.c (.s (.int .u8 8)),.c (.fn 165 [] [])])] [az]) (I (aC atH [7] np) (I (bb akM [] [8] np 9 [] [(8,.op (.build [.s (.int .u8 0),.s .nilFunc] [(0,1),(1,1)] [(0,.c (.s (.int .u8 7))),(1,.c (.fn 166 [] []))]) [.c (.s (.int .u8 7)),.c (.fn 166 [] [])])] [az]) (I (aC aub [8] np) (I (bb apw [] [9] np 10 [] [(9,.op (.build [.s (.int .u8 0),.s .nilFunc] [(0,1),(1,1)] [(0,.c (.s (.int .u8 6))),(1,.c (.fn 167 [] []))]) [.c (.s (.int .u8 6)),.c (.fn 167 [] [])])] [az]) (I (aC arw [9] np) (I (bb anu [] [10] np 11 [] [(10,.op (.build [.s (.int .u8 0),.s .nilFunc] [(0,1),(1,1)] [(0,.c (.s (.int .u8 10))),(1,.c (.fn 157 [] []))]) [.c (.s (.int .u8 10)),.c (.fn 157 [] [])])] [az]) (I (aC aiS [10] np) (I (bb YR [] [11] np 12 [] [(11,.op (.build [.s (.int .u8 0),.s .nilFunc] [(0,1),(1,1)] [(0,.c (.s (.int .u8 11))),(1,.c (.fn 158 [] []))]) [.c (.s (.int .u8 11)),.c (.fn 158 [] [])])] [az]) (I (aC aa1 [11] np) ((cA akr [1,2,3,4,5,6,7,8,9,10,11,12] [0] 13 [] [(0,.t 1)] [.aS 1,.aS 1]))))))))))))))))))))))))
theorem aVj:BS [91] Tryz.prog dH 34=some (false,pF.ntmps,pF.results,pF.body.bare):=by kernel_rfl
theorem aAl:dS Tryz.prog dH 91=some (false,qi.ntmps,qi.results,qi.body.bare):=by kernel_rfl
theorem aFY:dS Tryz.prog dH 133=some (false,Ay.ntmps,Ay.results,Ay.body.bare):=by kernel_rfl
theorem aTV:dS Tryz.prog dH 134=some (false,zZ.ntmps,zZ.results,zZ.body.bare):=by kernel_rfl
end Go.Proofs.YtngfpadeebpoeaaGreatDoor
set_option maxRecDepth 100000
namespace Go.Proofs.YtngfpadeebpoeaaGreatDoor.gO
open Go.Proofs.YtngfpadeebpoeaaGreatDoor Go.ea
structure cy (ρ:Nat) (lv:V) (ao:List Tok.T) (H:ad) (a:Nat):Prop where
 g:au H ρ 0=some [lv,U a]
 w:∃m,c1 m 5 H lv (ao.map dA)
 hR:∀id g n,lv=.aZ id g 0 n 5->id<ρ
 lt:a<ao.length
 n:ao.length<2^21
section
variable {ρ:Nat} {lv:V} {ao:List Tok.T} {H H':ad} {a b:Nat}
def cy.ne(h:cy ρ lv ao H a):∀id g n,lv=.aZ id g 0 n 5->id≠ρ:=fun id g n e=>Nat.ne_of_lt (h.hR id g n e)
def cy.pos(h:cy ρ lv ao H a):ρ<H.length:=iC h.g
def cy.ext(h:cy ρ lv ao H a)(e:Ext H H'):cy ρ lv ao H' a:=by
 obtain⟨m,w⟩:=h.w;refine⟨b7 h.g e,⟨m,w.cD fun id g n av=>?_⟩,h.hR,h.lt,h.n⟩;exact e.get (w.lt id g n av)
def cy.cD(h:cy ρ lv ao H a)(k:aH H.length [ρ] H H')(g:au H' ρ 0=some [lv,U b])(ah:b<ao.length):cy ρ lv ao H' b:=by
 obtain⟨m,w⟩:=h.w;refine⟨g,⟨m,w.cD fun id g n av=>?_⟩,h.hR,ah,h.n⟩
 exact k.2 id (w.lt id g n av) (by rw[eQ];exact h.ne id g n av)
def cy.Sv{L:Nat}(h:cy ρ lv ao H a)(cU:ρ<L)(k:aH L [ρ] H H')(g:au H' ρ 0=some [lv,U b])(ah:b<ao.length):cy ρ lv ao H' b:=by
 obtain⟨m,w⟩:=h.w;refine⟨g,⟨m,w.cD fun id g n av=>?_⟩,h.hR,ah,h.n⟩;have:=h.hR id g n av
 exact k.2 id (by omega) (by rw[eQ];omega)
def cy.tok(h:cy ρ lv ao H a)(ah:b<ao.length):∃id g o,kB 5 lv (.s (.int .i64 b))=some (.ref id g o)/\(∀H',Ext H H'->fa H' true 5 (.ref id g o)=some (.agg (dA (ao.getD b ef))))/\∀H',Ext H H'->fa H' false 1 (.ref id g (o+3))=some (U (ao.getD b ef).line):=by
 obtain⟨m,w⟩:=h.w
 have ak:(ao.map dA)[b]?=some (dA (ao.getD b ef)):=by rw[ut,q6 ah ef];rfl
 obtain⟨x,J,aa,aI⟩:=w.rd.at' b _ ak
 obtain⟨_,⟨e,_⟩|⟨id,g,rfl,ab,_⟩⟩:=id w
 .rw[e]at ak;cases ak
 .have af:=J
  rw[JJ,bE ⟨by omega,by rw[pY];omega,rfl⟩]at af
  cases af;obtain⟨y,bl,cO⟩:=aI 3 _ rfl;rw[aeQ]at bl;cases bl;exact⟨_,_,_,J,fun H' e=>N0 e aa,fun H' e=>N0 e cO⟩
end
section
variable {ag:Nat->Option cz} {ρ:Nat} {lv:V} {ao:List Tok.T} {H:ad} {a:Nat}
def qe(aB:ag zB=some (.code rT))(base:Nat)(ah:base<=H.length)(h:cy ρ lv ao H a):
 ∃H',aR ag (.fn zB [] []) [.ref ρ 0 0] base H=some (.agg (dA (ao.getD a ef)),H')/\Ext H H':=by
 obtain⟨id,g,o,J,aa,_⟩:=h.tok h.lt;obtain⟨t,aY⟩:∃t,ao.getD a ef=t:=⟨_,rfl⟩;rw[aY]at aa |-;have Xs:∀c,Ext H (H++[aM.cells 0 c]):=fun c=>Ext.app _ _;have a8:=fun c=>b7 h.g (Xs c);have aq:=fun c=>aa _ (Xs c);have cg:∀c,au (H++[aM.cells 0 c]) H.length 0=some c:=fun c=>cQ H 0 c;have dE:∀c d,(H++[c]).set H.length d=H++[d]:=fun c d=>iI H c d
 have yT:iu (H++[aM.cells 0 (dA t)]) true 5 (.ref H.length 0 0)=some (.agg (dA t)):=by
  show fa _ true 5 _=_;rw[h1,cg];rfl
 refine⟨H++[aM.cells 0 (dA t)],eF (c:=rT) (k:=1) aB rfl (by decide) aTq ?_,Xs _⟩
 simp only[dA,U]at a8 aq J yT;simp only[dA,simprocAttr,rT,aWN,aG,a8,J,aq,ah,cg,dE]
 try (rw[yT];rfl)
def zv(eo:ag zB=some (.code rT))(aB:ag MJ=some (.code tk))(base:Nat)(h:cy ρ lv ao H a):
 ∃H',aR ag (.fn MJ [] []) [.ref ρ 0 0] base H=some (ar ((bt.of ao).same a),H')/\Ext H H':=by
 have a8:=h.g;have b8:=h.lt;have aJ:=h.n;by_cases bd:a=0
 .subst bd
  refine⟨H,gR (c:=tk) aB (by simp[tk]) ?_,Ext.refl _⟩
  have ab:¬((0:Nat):Int) > 0:=by omega
  simp only[U]at a8;simp only[bt.of,ar,tk,ayj,aG,reduceCtorEq,Nat.reduceEqDiff,Nat.reduceLT,Nat.reduceLeDiff,Nat.reduceBEq,a8];rfl
 .obtain⟨H',cC,b5⟩:=qe eo H.length (cq _) h
  obtain⟨id,g,o,J,_,aa⟩:=h.tok (b:=a-1) (by omega)
  have aI:=aa H (Ext.refl _)
  refine⟨H',gR (c:=tk) aB (by simp[tk]) ?_,b5⟩
  have ab:((a:Int) > 0):=by omega
  have hw:IntKind.i64.wrap ((a:Int)-1)=((a-1:Nat):Int):=by rw[IntKind.wrap_i64];omega
  simp only[U,dA]at a8 cC J aI;simp only[bt.of,ar,tk,ayj,aG,reduceCtorEq,Nat.reduceEqDiff,Nat.reduceLT,Nat.reduceLeDiff,Nat.reduceBEq,Nat.reduceAdd,a8,ab,hw,J,aI,cC]
  have aE:(decide (a > 0)&&(ao.getD (a-1) ef).line==(ao.getD a ef).line)=(((ao.getD (a-1) ef).line:Int)==((ao.getD a ef).line:Int)):=by
   rw[Mj (by omega),ol,qO,lc,lc,Pa]
  rw[aE]
def Bl(eo:ag zB=some (.code rT))(fl:ag MJ=some (.code tk))(aB:ag XD=some (.code q3))(base:Nat)(ah:base<=H.length)(h:cy ρ lv ao H a)(s:ByteArray):
 ∃H',aR ag (.fn XD [] []) [.ref ρ 0 0,aA s] base H=some (ar (nY (bt.of ao) s.data.toList a),H')/\Ext H H':=by
 obtain⟨H1,s1,s2⟩:=zv eo fl base h
 obtain⟨bH,cC,b5⟩:=qe eo base (H:=H1) (by have:=s2.le;omega) (h.ext s2)
 obtain⟨cV,m1,m2⟩:=qe eo base (H:=bH) (by have:=s2.le;have:=b5.le;omega) (h.ext (s2.trans b5))
 obtain⟨t,aY⟩:∃t,ao.getD a ef=t:=⟨_,rfl⟩;obtain⟨c,ab⟩:∃c,(bt.of ao).same a=c:=⟨_,rfl⟩
 have an:(bt.of ao).kind a=t.kind:=by rw[<- aY];rfl
 have af:(bt.of ao).text a=t.text:=by rw[<- aY];rfl
 unfold nY;rw[aY]at cC m1;rw[ab]at s1 |-;rw[an,af];simp only[dA,ar]at s1 cC m1;cases c with
 |false=>
   refine⟨H1,gR (c:=q3) aB (by simp[q3]) ?_,s2⟩
   simp only[aA,simprocAttr,ar,q3,U1,aG,s1]
 |true=>
   by_cases aI:t.kind=3
   .refine⟨cV,gR (c:=q3) aB (by simp[q3]) ?_,s2.trans (b5.trans m2)⟩
    have k1:(((t.kind:Nat):Int)==3)=true:=by rw[aI];rfl
    have k2:(t.kind==3)=true:=by rw[aI];rfl
    simp only[aA,simprocAttr,ar,q3,U1,aG,s1,cC,m1,k1,k2]
   .refine⟨bH,gR (c:=q3) aB (by simp[q3]) ?_,s2.trans b5⟩
    have k1:(((t.kind:Nat):Int)==3)=false:=by rw[kp];omega
    have k2:(t.kind==3)=false:=by rw[kp];exact aI
    simp only[aA,simprocAttr,ar,q3,U1,aG,s1,cC,k1,k2]
def afl(eo:ag zB=some (.code rT))(aB:ag W'=some (.code oU))(base:Nat)(ah:base<=H.length)(h:cy ρ lv ao H a)(J:(ao.getD a ef).kind=1->a+1<ao.length)(s:ByteArray):
 ∃H',aR ag (.fn W' [] []) [.ref ρ 0 0,aA s] base H=some (ar (mD (bt.of ao) s.data.toList a),H')/\Ext H H':=by
 obtain⟨H1,cC,b5⟩:=qe eo base ah h;obtain⟨t,aY⟩:∃t,ao.getD a ef=t:=⟨_,rfl⟩;obtain⟨w,hw⟩:∃w,ao.getD (a+1) ef=w:=⟨_,rfl⟩
 have an:(bt.of ao).kind a=t.kind:=by rw[<- aY];rfl
 have nf:(bt.of ao).kind (a+1)=w.kind:=by rw[<- hw];rfl
 have et:(bt.of ao).text (a+1)=w.text:=by rw[<- hw];rfl
 have hV:(bt.of ao).same (a+1)=((w.line:Int)==(t.line:Int)):=by
  show(decide (a+1 > 0)&&(ao.getD (a+1-1) ef).line==(ao.getD (a+1) ef).line)=_
  rw[Mj (by omega),ol,Nat.add_sub_cancel,aY,hw,qO,lc,lc,Pa,eq_comm]
 unfold mD;rw[aY]at cC J;rw[an,nf,et,hV];simp only[dA]at cC;by_cases bJ:t.kind=1
 .have k1:(((t.kind:Nat):Int) != 1)=false:=by rw[WI];omega
  have k2:(t.kind==1)=true:=by rw[bJ];rfl
  have b8:=J bJ;have lz:=h.ext b5;have a8:=lz.g;have aJ:=h.n
  have VS:IntKind.i64.wrap ((a:Int)+1)=((a+1:Nat):Int):=jB (by omega)
  obtain⟨id,g,o,jG,rL,vu⟩:=lz.tok b8;rw[hw]at rL;have OJ:=rL H1 (Ext.refl _);obtain⟨bH,k8⟩:∃X,H1++[aM.cells 0 (dA w)]=X:=⟨_,rfl⟩;have aU:Ext H1 bH:=k8▸Ext.app _ _
  have fZ:bH.length=H1.length+1:=by rw[<- k8,dh]
  have g2:au bH H1.length 0=some (dA w):=k8▸cQ H1 0 _;have dE:∀c d,(H1++[c]).set H1.length d=H1++[d]:=fun c d=>iI H1 c d;have cg:∀c,au (H1++[aM.cells 0 c]) H1.length 0=some c:=fun c=>cQ H1 0 c
  have eg:base<=H1.length:=by have:=b5.le;omega
  obtain⟨cV,m1,m2⟩:=qe eo bH.length (H:=bH) (cq _) (lz.ext aU);rw[aY,fZ]at m1;simp only[dA,U]at a8 jG OJ k8 g2 m1;by_cases aI:w.kind=3
  .have eN:(((w.kind:Nat):Int)==3)=true:=by rw[aI];rfl
   have j5:(w.kind==3)=true:=by rw[aI];rfl
   cases bK:(w.text==s.data.toList)with
   |true=>
     refine⟨cV,gR (c:=oU) aB (by simp[oU]) ?_,b5.trans (aU.trans m2)⟩
     simp only[aA,simprocAttr,ar,oU,MS,aG,cC,k1,k2,a8,VS,jG,OJ,cg,dE,eg,k8,g2,eN,j5,bK,fZ,m1]
   |false=>
     refine⟨bH,gR (c:=oU) aB (by simp[oU]) ?_,b5.trans aU⟩
     simp only[aA,simprocAttr,ar,oU,MS,aG,cC,k1,k2,a8,VS,jG,OJ,cg,dE,eg,k8,g2,eN,j5,bK]
  .have eN:(((w.kind:Nat):Int)==3)=false:=by rw[kp];omega
   have j5:(w.kind==3)=false:=by rw[kp];exact aI
   refine⟨bH,gR (c:=oU) aB (by simp[oU]) ?_,b5.trans aU⟩
   simp only[aA,simprocAttr,ar,oU,MS,aG,cC,k1,k2,a8,VS,jG,OJ,cg,dE,eg,k8,g2,eN,j5]
 .have k1:(((t.kind:Nat):Int) != 1)=true:=by rw[mw];omega
  have k2:(t.kind==1)=false:=by rw[kp];exact bJ
  refine⟨H1,gR (c:=oU) aB (by simp[oU]) ?_,b5⟩
  simp only[aA,simprocAttr,ar,oU,MS,aG,cC,k1,k2]
end
end Go.Proofs.YtngfpadeebpoeaaGreatDoor.gO
namespace Go.ea
open Go.RowKit
section
variable {call:c5} {fK:rM} {it it':hE} {base:Nat} {b1:Nat->Option cz} {PP:Nat->List V->Nat->ad->fu->Prop} {X:Nat->Bool}
def IW{vs:List V}{k n:Nat}(an:vs.length=k)(aq:k<=n):BB (List.range' k (n-k)) (ax n (fL n vs 0)) (ax n (nA vs 0)):=by
 refine⟨by rw[u7,u7],fun s ai=>?_⟩
 by_cases aJ:s<n
 .rw[Dj aJ,Dj aJ]
  have hV:s<k:=by
   apply Nat.lt_of_not_le;intro h;apply ai;rw[List.mem_range']
   exact⟨s-k,by omega,by omega⟩
  rw[VT _ _ 0 s (gY _) aJ (by omega),bE (by omega),atQ _ 0 s (gY _) (by omega)]
 .simp[ax,List.getD,aJ]
def af4{post:List bx}(i:Nat):∀{pre:List bx} {fr cw:List V} {H H1:ad},cI call base pre fr H=some (cw,H1)->mB call base (pre.length+i) (pre++post) fr H=mB call base i post cw H1:=by
 intro pre
 induction pre with
 |nil=>
   intro fr cw H H1 h;cases h
   simp_all
 |cons o os aF=>
   intro fr cw H H1 h
   rw[c3,show os.length+1+i=(os.length+i)+1 by omega]
   show mB call base ((os.length+i)+1) (o::(os++post)) fr H=_;simp only[cI]at h;simp only[mB]
   grind
def e1{a b:bZ}{fr cw:List V}{H H1:ad}(h:aL call it base a fr H=some (.bR,cw,H1)):aL call it base (.seq a b) fr H=aL call it base b cw H1:=by simp only[aL,h]
def AO{i:Nat}{a:bZ}{fr cw:List V}{H H1:ad}(h:aL call it base a fr H=some (.bR,cw,H1)):aL call it base (.block i a) fr H=some (.bR,cw,H1):=by simp only[aL,h]
def aW2{i j:Nat}{a:bZ}{fr cw:List V}{H H1:ad}(bz:(j==i)=false)(h:aL call it base a fr H=some (.ext j,cw,H1)):aL call it base (.block i a) fr H=some (.ext j,cw,H1):=by simp[aL,h,kp.1 bz]
def Wg{i:Nat}{a:bZ}{fr cw:List V}{H H1:ad}(h:aL call it base a fr H=some (.ret,cw,H1)):aL call it base (.block i a) fr H=some (.ret,cw,H1):=by simp only[aL,h]
def Qc{c:b0}{a b:bZ}{fr:List V}{H:ad}(h:aV fr c=.s (.bool true)):aL call it base (.cond c a b) fr H=aL call it base a fr H:=by simp only[aL,h]
def Ml{c:b0}{a b:bZ}{fr:List V}{H:ad}(h:aV fr c=.s (.bool false)):aL call it base (.cond c a b) fr H=aL call it base b fr H:=by simp only[aL,h]
theorem hs(u v:V)(args:List V)(b:Nat)(H:ad):adc u v args b H=some (u,H):=rfl
def NJ{A B:List bx}{o:bx}{ct:List (Nat × Nat)}{kill:List Nat}{fr f1 f2 f3:List V}{H H1 bH cV:ad}(gU:cI call base A fr H=some (f1,H1))(aX:cI call base [o] f1 H1=some (f2,bH))(aD:cI call base B f2 bH=some (f3,cV))(ab:o.op.AH=true)(uQ:∀p∈ct,p.2=A.length/\∃q,TU f3 ((A++o::B).getD p.1 default).op=some q/\∀id,q=some id->bH[id]?=H1[id]?):aL call it base (.region (A++o::B) ct kill) fr H=some (.bR,ul kill f3,cV):=by
 have aa:cI call base (A++[o]) fr H=some (f2,bH):=by rw[Ll,gU];exact aX
 have aI:cI call base (A++o::B) fr H=some (f3,cV):=by
  rw[show A++o::B=(A++[o])++B by simp,Ll,aa];exact aD
 refine ai9 aI ?_;rw[fp];intro p ay;obtain⟨e,q,bJ,an⟩:=uQ p ay
 have t1:(A++o::B).take p.2=A:=by rw[e];simp
 have t2:(A++o::B).take (p.2+1)=A++[o]:=by
  rw[e,show A++o::B=(A++[o])++B by simp,show A.length+1=(A++[o]).length by simp,List.take_left]
 have t3:(A++o::B).getD p.2 default=o:=by rw[e];simp
 have key:Da call base (A++o::B) fr H f3 p.2 p.1=true:=by
  unfold Da;rw[t1,t2,gU,aa,bJ];cases q with
  |none=>rfl
  |some id=>simp_all
 simp only[tD,t3,ab,key,eG,BX]
def ap6{C:nx}{ops pre post:List bx}{ct:List (Nat × Nat)}{kill:List Nat}{fr cw:List V}{H H1:ad}{d:Option Nat}{f:b0}{xs:List b0}{r:fu}(u:V)(kG:C ops fr)(e:ops=pre++⟨d,.call f xs,none⟩::post)(J:cI call base pre fr H=some (cw,H1))(aa:fK (aV cw f) (xs.map (aV cw)) base H1 r)(aI:(aL (adc u) it' base (.region ops ct kill) fr H).isSome=true):gg call fK it base C (.region ops ct kill) fr H r:=by
 refine⟨kG,⟨pre.length+0,_,_,_,?_,aa⟩,?_⟩
 .rw[e,af4 0 J];rfl
 .simp only[aL]at aI
  grind
def jH{ops pre post:List bx}{ct:List (Nat × Nat)}{kill:List Nat}{fr cw:List V}{H H1:ad}{d:Option Nat}{f:b0}{xs:List b0}{r:fu}(u:V)(e:ops=pre++⟨d,.call f xs,none⟩::post)(J:cI call base pre fr H=some (cw,H1))(aa:fK (aV cw f) (xs.map (aV cw)) base H1 r)(aI:(aL (adc u) it' base (.region ops ct kill) fr H).isSome=true):gg call fK it base (fun _ _=>True) (.region ops ct kill) fr H r:=by
 refine⟨trivial,⟨pre.length+0,_,_,_,?_,aa⟩,?_⟩
 .rw[e,af4 0 J];rfl
 .simp only[aL]at aI
  grind
def aaB{ops HK Fo post:List bx}{ct:List (Nat × Nat)}{kill:List Nat}{fr cw iN:List V}{H H1 bH cV:ad}{d d1:Option Nat}{f f1:b0}{xs N5:List b0}{v:V}{r:fu}(u:V)(e:ops=HK++⟨d1,.call f1 N5,none⟩::(Fo++⟨d,.call f xs,none⟩::post))(J:cI call base HK fr H=some (cw,H1))(cj:call (aV cw f1) (N5.map (aV cw)) base H1=some (v,bH))(aa:cI call base Fo (put d1 v cw) bH=some (iN,cV))(ay:fK (aV iN f) (xs.map (aV iN)) base cV r)(aI:(aL (adc u) it' base (.region ops ct kill) fr H).isSome=true):gg call fK it base (fun _ _=>True) (.region ops ct kill) fr H r:=by
 have bN:ops=(HK++⟨d1,.call f1 N5,none⟩::Fo)++⟨d,.call f xs,none⟩::post:=by rw[e,gi,du]
 refine jH (it':=it') (pre:=HK++⟨d1,.call f1 N5,none⟩::Fo) (post:=post) (d:=d) (cw:=iN) (H1:=cV) u bN ?_ ay aI;rw[Uu,J];simp only[cI,want,bf,cj];exact aa
def sJ{C:nx}{c:b0}{a b:bZ}{fr:List V}{H:ad}{r:fu}(ab:aV fr c=.s (.bool true))(h:gg call fK it base C a fr H r):gg call fK it base C (.cond c a b) fr H r:=.inl ⟨ab,h⟩
def Dy{C:nx}{c:b0}{a b:bZ}{fr:List V}{H:ad}{r:fu}(ab:aV fr c=.s (.bool false))(h:gg call fK it base C b fr H r):gg call fK it base C (.cond c a b) fr H r:=.inr ⟨ab,h⟩
def qH{f:Nat}{c:dm}(cl:X f=true)(al:b1 f=some (.code c)){fst args cap:List V}{k:Nat}(an:(fst++args++cap).length=k)(aq:k<=c.ntmps)(qF:eL (List.range' k (c.ntmps-k)) c.body=true){H H1:ad}{cw:List V}{r:fu}{a b:bZ}(ah:c.body=.seq a b)(J:aL (aR b1) aN base a (ax c.ntmps (nA (fst++args++cap) 0)) H=some (.bR,cw,H1))(aa:gg (aR b1) (o2 b1 PP X) aN base (fun _ _=>True) b cw H1 r):o2 b1 PP X (.fn f fst cap) args base H r:=by
 refine D4 cl al (by omega) ?_
 rw[ah];refine dG ?_ aa;rw[ah]at qF;rw[Cz a H qF (IW an aq)];exact J
def aG9{f:Nat}{c:dm}(cl:X f=true)(al:b1 f=some (.code c)){fst args cap:List V}{k:Nat}(an:(fst++args++cap).length=k)(aq:k<=c.ntmps)(qF:eL (List.range' k (c.ntmps-k)) c.body=true){H H1:ad}{cw:List V}{r:fu}{a b d:bZ}(ah:c.body=.seq (.seq a b) d)(J:aL (aR b1) aN base a (ax c.ntmps (nA (fst++args++cap) 0)) H=some (.bR,cw,H1))(aa:gg (aR b1) (o2 b1 PP X) aN base (fun _ _=>True) b cw H1 r):o2 b1 PP X (.fn f fst cap) args base H r:=by
 refine D4 cl al (by omega) ?_
 rw[ah];refine kW (dG ?_ aa);rw[ah]at qF;rw[Cz a H qF (IW an aq)];exact J
def xX{f:Nat}{c:dm}(cl:X f=true)(al:b1 f=some (.code c)){fst args cap:List V}{k:Nat}(an:(fst++args++cap).length=k)(aq:k<=c.ntmps)(qF:eL (List.range' k (c.ntmps-k)) c.body=true){H H1:ad}{cw:List V}{r:fu}{ops pre post:List bx}{kill:List Nat}{d:Option Nat}{g:b0}{xs:List b0}(ah:c.body=.region ops [] kill\/∃b,c.body=.seq (.region ops [] kill) b)(u:V)(e:ops=pre++⟨d,.call g xs,none⟩::post)(J:cI (aR b1) base pre (ax c.ntmps (fL c.ntmps (fst++args++cap) 0)) H=some (cw,H1))(aa:o2 b1 PP X (aV cw g) (xs.map (aV cw)) base H1 r)(aI:(aL (adc u) aN base (.region ops [] kill) (ax c.ntmps (nA (fst++args++cap) 0)) H).isSome=true):o2 b1 PP X (.fn f fst cap) args base H r:=by
 refine D4 cl al (by omega) ?_
 have sb:eL (List.range' k (c.ntmps-k)) (.region ops [] kill)=true:=by
  rcases ah with ah|⟨b,ah⟩<;>(rw[ah]at qF;exact qF)
 have key:gg (aR b1) (o2 b1 PP X) aN base (fun _ _=>True) (.region ops [] kill) (ax c.ntmps (fL c.ntmps (fst++args++cap) 0)) H r:=by
  refine jH (it':=aN) u e J aa ?_;rw[Cz (.region ops [] kill) H sb (IW an aq)];exact aI
 rcases ah with ah|⟨b,ah⟩
 .rw[ah];exact key
 .rw[ah];exact kW key
def aPL{f:Nat}{c:dm}(cl:X f=true)(al:b1 f=some (.code c)){fst args cap:List V}(aq:(fst++args++cap).length<=c.ntmps){H:ad}{r:fu}{a:bZ}(ah:c.body=a\/∃b,c.body=.seq a b)(key:gg (aR b1) (o2 b1 PP X) aN base (fun _ _=>True) a (ax c.ntmps (fL c.ntmps (fst++args++cap) 0)) H r):o2 b1 PP X (.fn f fst cap) args base H r:=by
 refine D4 cl al aq ?_
 rcases ah with ah|⟨b,ah⟩
 .rw[ah];exact key
 .rw[ah];exact kW key
def aEA{c:dm}{vs:List V}{k:Nat}(an:vs.length=k)(aq:k<=c.ntmps)(qF:eL (List.range' k (c.ntmps-k)) c.body=true){a:bZ}(ah:c.body=a\/∃b,c.body=.seq a b){H:ad}(h:(aL call it base a (ax c.ntmps (nA vs 0)) H).isSome=true):(aL call it base a (ax c.ntmps (fL c.ntmps vs 0)) H).isSome=true:=by
 have sb:eL (List.range' k (c.ntmps-k)) a=true:=by
  rcases ah with ah|⟨b,ah⟩<;>(rw[ah]at qF;exact qF)
 rw[Cz a H sb (IW an aq)];exact h
end
end Go.ea
set_option maxRecDepth 100000
namespace Go.Proofs.YtngfpadeebpoeaaGreatDoor.gO
open Go.Proofs.YtngfpadeebpoeaaGreatDoor Go.ea
abbrev qx:Nat:=81
abbrev mP:List V:=[V.s (.int .u8 0),.s (.string ⟨#[]⟩),.s (.int .i64 0),.s (.int .i64 0),.s (.int .i64 0)]
def ahY(ag:Nat->Option cz):Nat->List V->Nat->ad->fu->Prop:=fun k vs base H r=>k=ajM/\∃v cs H1 n,vs=[v]/\iq ag n (.fn zB [] []) [v] base H=some (.agg cs,H1)/\cs.length=5/\cs.all V.one=true/\r=(qx,.agg cs,H1)
def T1:Nat->Bool:=fun k=>[HX,Qi,Ow,wR,J9,zg,EJ,zx,Em,CF,z',y0,DD,Dv,EN,BJ,A9].contains k
abbrev ns(ag:Nat->Option cz):rM:=o2 ag (ahY ag) T1
structure jP (ao:List Tok.T):Prop where
 pn:∀a,a<ao.length->(ao.getD a ef).kind≠4->a+1<ao.length
 nm:∀a,a<ao.length->(ao.getD a ef).kind=1->(ao.getD a ef).text≠[]
structure vR (ag:Nat->Option cz):Prop where
 now:ag zB=some (.code rT)
 same:ag MJ=some (.code tk)
 vk:ag XD=some (.code q3)
 second:ag W'=some (.code oU)
 take:ag HX=some (.code wk)
 name:ag wR=some (.code yn)
 sign:ag Qi=some (.code wx)
 Qm:ag Ow=some (.code tJ)
def aH.gM{H H':ad}{ρ:Nat}(e:Ext H H'):aH H.length [ρ] H H':=e.d _
def aH.BU{H H':ad}{ρ:Nat}(k:aH H.length [ρ] H H')(br:aM):aH H.length [ρ] H (H'.set ρ br):=⟨by rw[fP];exact k.1,fun id J aa=>by
 rw[eQ]at aa;rw[cG (iV aa)]
 exact k.2 id J (by rw[eQ];exact aa)⟩
def aH.aWt{H H':ad}{ρ q:Nat}(k:aH H.length [ρ] H H')(bJ:H.length<=q)(br:aM):aH H.length [ρ] H (H'.set q br):=⟨by rw[fP];exact k.1,fun id J aa=>by
 rw[cG (by omega)]
 exact k.2 id J aa⟩
def aH.then'{A B C:ad}{ρ:Nat}(h:aH A.length [ρ] A B)(k:aH B.length [ρ] B C):aH A.length [ρ] A C:=aH.trans h k h.1
section
variable {ag:Nat->Option cz} {ρ:Nat} {lv:V} {ao:List Tok.T} {H:ad} {a:Nat}
def yg(eo:ag zB=some (.code rT))(base:Nat)(ah:base<=H.length)(h:cy ρ lv ao H a):
 ∃H',ns ag (.fn ajM [] []) [.ref ρ 0 0] base H (qx,.agg (dA (ao.getD a ef)),H')/\Ext H H':=by
 obtain⟨H',cC,b5⟩:=qe eo base ah h;obtain⟨n,aJ⟩:=Co cC;exact⟨H',aDG ⟨rfl,_,_,_,n,rfl,aJ,rfl,rfl,rfl⟩,b5⟩
theorem aa4(cP:vR ag)(base:Nat)(ah:base<=ρ)(h:cy ρ lv ao H a)(k:Nat)(an:((bt.of ao).same a&&(bt.of ao).kind a==k)=true):
 ∃H',aR ag (.fn HX [] []) [.ref ρ 0 0,.s (.int .u8 k)] base H=some (.agg (dA (ao.getD a ef)),H')/\aH H.length [ρ] H H'/\au H' ρ 0=some [lv,U (a+1:Nat)]:=by
 rw[dR,lc]at an;obtain⟨k1,k2⟩:=an;have jk:=h.pos;have b8:=h.lt;have aJ:=h.n;obtain⟨cK,q1⟩:∃X,H++[aM.cells 0 mP]=X:=⟨_,rfl⟩;have cX:Ext H cK:=q1▸Ext.app _ _
 have fN:cK.length=H.length+1:=by rw[<- q1,dh]
 have g0:au cK H.length 0=some mP:=q1▸cQ H 0 _;obtain⟨H1,s1,s2⟩:=zv cP.now cP.same base (h.ext cX);rw[k1]at s1
 obtain⟨bH,cC,b5⟩:=qe cP.now base (H:=H1) (by have:=s2.le;omega) (h.ext (cX.trans s2))
 obtain⟨t,aY⟩:∃t,ao.getD a ef=t:=⟨_,rfl⟩
 have yO:t.kind=k:=by rw[<- aY];exact k2
 have aU:Ext H bH:=cX.trans (s2.trans b5);have aa:=h.ext aU;have g2:=aa.g;have ajS:au bH H.length 0=some mP:=b7 g0 (s2.trans b5);obtain⟨cV,qS⟩:∃X,bH.set ρ (aM.cells 0 [lv,U (a+1:Nat)])=X:=⟨_,rfl⟩;have g3:au cV ρ 0=some [lv,U (a+1:Nat)]:=qS▸fJ g2 _
 have Vv:au cV H.length 0=some mP:=by
  unfold au
  rw[<- qS,cG (by omega)]
  exact ajS
 have hQ:aH H.length [ρ] H cV:=qS▸aH.BU (aH.gM aU) _;obtain⟨id,g,o,jG,rL,_⟩:=aa.tok aa.lt;have eS:=h.ne;obtain⟨m,w⟩:=aa.w
 have vu:fa cV true 5 (.ref id g o)=some (.agg (dA t)):=by
  have bK:=rL bH (Ext.refl _)
  have:au cV id g=au bH id g:=by
   unfold au
   obtain⟨_,⟨e,_⟩|⟨gw,g',rfl,ab,_⟩⟩:=w
   .have:=h.lt;rw[List.map_eq_nil_iff]at e;rw[e]at this;cases this
   .rw[JJ]at jG;split at jG
    .cases jG
     rw[<- qS,cG (by have:=eS _ _ _ rfl;omega)]
    .cases jG
  rw[h1]at bK |-;rw[this,bK,aY]
 obtain⟨gv,mg⟩:∃X,cV.set H.length (aM.cells 0 (dA t))=X:=⟨_,rfl⟩
 have g4:au gv ρ 0=some [lv,U (a+1:Nat)]:=by
  unfold au at g3 |-
  rw[<- mg,cG (by omega)]
  exact g3
 have aKx:au gv H.length 0=some (dA t):=mg▸fJ Vv _
 have yT:iu gv true 5 (.ref H.length 0 0)=some (.agg (dA t)):=by
  show fa _ true 5 _=_;rw[h1,aKx];rfl
 have bc:IntKind.i64.wrap ((a:Int)+1)=((a+1:Nat):Int):=jB (by omega)
 have dJ:IntKind.i64.wrap (((a+1:Nat):Int)-1)=(a:Int):=by rw[IntKind.wrap_i64];omega
 have vb:base<=H.length:=by omega
 have aYo:(((t.kind:Nat):Int) != ((k:Nat):Int))=false:=by rw[WI,yO]
 have pf:(((t.kind:Nat):Int) != ((t.kind:Nat):Int))=false:=by simp
 refine⟨gv,eF (c:=wk) (k:=2) cP.take rfl (by decide) abo ?_,mg▸aH.aWt hQ (cq _) _,g4⟩
 rw[aY]at cC;simp only[dA,mP,U,ar]at s1 cC g2 qS g3 jG vu mg yT ajS Vv q1;subst yO;simp only[dA,simprocAttr,wk,Jf,aG,q1,s1,cC,g2,bc,ah,vb,qS,g3,dJ,jG,vu,Vv,mg];rw[yT,aY];rfl
def ak7(cP:vR ag)(base:Nat)(ah:base<=ρ)(h:cy ρ lv ao H a)(k:Nat)(an:((bt.of ao).same a&&(bt.of ao).kind a==k)=false):
 ∃H',ns ag (.fn HX [] []) [.ref ρ 0 0,.s (.int .u8 k)] base H (qx,.agg (dA (ao.getD a ef)),H')/\Ext H H':=by
 have jk:=h.pos;obtain⟨cK,q1⟩:∃X,H++[aM.cells 0 mP]=X:=⟨_,rfl⟩;have cX:Ext H cK:=q1▸Ext.app _ _;obtain⟨H1,s1,s2⟩:=zv cP.now cP.same base (h.ext cX);obtain⟨c,ab⟩:∃c,(bt.of ao).same a=c:=⟨_,rfl⟩;rw[ab]at s1 an
 obtain⟨bH,bP,aU⟩:∃bH,aL (aR ag) aN base (.region Rp [] [1,5,6,7,8,9,10,11,12,13]) (ax 35 [(0,.ref ρ 0 0),(1,.s (.int .u8 k)),(4,.ref H.length 0 0)]) cK=some (.bR,ax 35 [(0,.ref ρ 0 0),(4,.ref H.length 0 0),(14,ar true)],bH)/\Ext cK bH:=by
  cases c with
  |false=>
    refine⟨H1,?_,s2⟩;simp only[ar]at s1;simp only[ar,simprocAttr,Jf,aG,s1]
  |true=>
    obtain⟨bH,cC,b5⟩:=qe cP.now base (H:=H1) (by have:=s2.le;have:=cX.le;omega) (h.ext (cX.trans s2))
    obtain⟨t,aY⟩:∃t,ao.getD a ef=t:=⟨_,rfl⟩
    have yO:(((t.kind:Nat):Int) != ((k:Nat):Int))=true:=by
     rw[ol,kp]at an;rw[mw,<- aY];intro e;exact an (Pa.1 e)
    rw[aY]at cC;refine⟨bH,?_,s2.trans b5⟩;simp only[dA,ar]at s1 cC;simp only[ar,simprocAttr,Jf,aG,s1,cC,yO]
 obtain⟨cV,f1,f2⟩:=yg cP.now base (H:=bH) (by have:=cX.le;have:=aU.le;omega) (h.ext (cX.trans aU))
 refine⟨cV,qH (c:=wk) (k:=2) rfl cP.take rfl (by decide) abo rfl (H1:=cK) (cw:=ax 35 [(0,.ref ρ 0 0),(1,.s (.int .u8 k)),(4,.ref H.length 0 0)]) ?_ (kW (dG bP (sJ rfl (jH (it':=aN) (pre:=aqP) (post:=[]) (.bQ []) rfl rfl f1 ?_)))),cX.trans (aU.trans f2)⟩
 .simp only[mP]at q1;simp only[wk,simprocAttr,Jf,aG,q1]
 .simp only[ar,simprocAttr,Jf,aG,hs]
end
def eT{α:Type}(ag:Nat->Option cz)(base k:Nat)(args:List V)(ρ:Nat)(lv:V)(ao:List Tok.T)(D:List Nat)(H:ad)(res:Except Nat (α × Nat))(Q:α->V->ad->Prop):Prop:=match res with
 |.ok (x,b)=>b<ao.length/\∃v H',aR ag (.fn k [] []) args base H=some (v,H')/\aH H.length D H H'/\au H' ρ 0=some [lv,U b]/\Q x v H'
 |.error e=>e<ao.length/\∃H',ns ag (.fn k [] []) args base H (qx,.agg (dA (ao.getD e ef)),H')/\aH H.length D H H'
section
variable {ag:Nat->Option cz} {ρ:Nat} {lv:V} {ao:List Tok.T} {H:ad} {a:Nat}
def yi(cP:vR ag)(wf:jP ao)(base:Nat)(ah:base<=ρ)(h:cy ρ lv ao H a):eT ag base wR [.ref ρ 0 0] ρ lv ao [ρ] H (eC (bt.of ao) a) (fun s v _=>v=aA s):=by
 unfold eC;obtain⟨t,aY⟩:∃t,ao.getD a ef=t:=⟨_,rfl⟩;by_cases an:((bt.of ao).same a&&(bt.of ao).kind a==1)=true
 .rw[bE an];obtain⟨H',cj,cZ,hN⟩:=aa4 cP base ah h 1 an;rw[dR,lc]at an
  refine⟨wf.pn a h.lt (by rw[show(ao.getD a ef).kind=1 from an.2];decide),aA (kL ((bt.of ao).text a)),H',gR (c:=yn) cP.name (by simp[yn]) ?_,cZ,hN,rfl⟩
  have af:(bt.of ao).text a=t.text:=by rw[<- aY];rfl
  have aAk:((1:Nat):Int)=1:=rfl;rw[aY]at cj;rw[af];simp only[dA,aAk]at cj;simp only[kL,simprocAttr,aA,yn,Ri,aG,cj]
 .rw[bV an];rw[sY]at an;obtain⟨H',cj,cZ⟩:=ak7 cP base ah h 1 an;refine⟨h.lt,H',?_,aH.gM cZ⟩
  refine D4 rfl cP.name (by simp[yn]) (dG (H1:=H) (cw:=ax 6 [(0,.ref ρ 0 0)]) ?_ (kW (jH (it':=aN) (pre:=aqy) (post:=Ym) (.agg mP) rfl rfl cj ?_)))
  .simp only[yn,simprocAttr,Ri,aG]
  .simp only[mP,simprocAttr,Ri,aG,hs]
def xr(cP:vR ag)(wf:jP ao)(base:Nat)(ah:base<=ρ)(h:cy ρ lv ao H a)(s:ByteArray):eT ag base Qi [.ref ρ 0 0,aA s] ρ lv ao [ρ] H (fO (bt.of ao) s.data.toList a) (fun _ v _=>v=.bQ []):=by
 unfold fO;have jk:=h.pos;have aJ:=h.n;have b8:=h.lt
 obtain⟨H1,cj,cZ⟩:=Bl cP.now cP.same cP.vk base (by omega) h s
 by_cases an:nY (bt.of ao) s.data.toList a=true
 .rw[bE an];rw[an]at cj
  have aHR:(bt.of ao).kind a=3:=by
   unfold nY at an;rw[dR,dR,lc]at an;exact an.1.2
  have g1:=(h.ext cZ).g
  have bc:IntKind.i64.wrap ((a:Int)+1)=((a+1:Nat):Int):=jB (by omega)
  refine⟨wf.pn a h.lt (by rw[show(ao.getD a ef).kind=3 from aHR];decide),.bQ [],H1.set ρ (.cells 0 [lv,U (a+1:Nat)]),eF (c:=wx) (k:=2) cP.sign rfl (by decide) aqU ?_,aH.BU (aH.gM cZ) _,fJ g1 _,rfl⟩
  simp only[U,ar,aA]at cj g1;simp only[U,simprocAttr,aA,wx,S2,aG,cj,g1,bc,ah]
  try rfl
 .rw[bV an];rw[sY]at an;rw[an]at cj
  obtain⟨bH,f1,f2⟩:=yg cP.now base (H:=H1) (by have:=cZ.le;omega) (h.ext cZ)
  refine⟨h.lt,bH,?_,aH.gM (cZ.trans f2)⟩;simp only[ar,aA]at cj
  refine aG9 (c:=wx) (k:=2) rfl cP.sign rfl (by decide) aqU rfl (H1:=H1) (cw:=ax 17 [(0,.ref ρ 0 0),(7,ar true)]) ?_ (sJ rfl (jH (it':=aN) (pre:=awl) (post:=[]) (.bQ []) rfl rfl f1 ?_))
  .simp only[aA,simprocAttr,ar,wx,S2,aG,cj]
  .simp only[ar,simprocAttr,S2,aG,hs]
def ZL(cP:vR ag)(base:Nat)(ah:base<=ρ)(h:cy ρ lv ao H a):eT ag base Ow [.ref ρ 0 0] ρ lv ao [ρ] H (Oz (bt.of ao) a) (fun _ v _=>v=.bQ []):=by
 unfold Oz ry;have jk:=h.pos;obtain⟨t,aY⟩:∃t,ao.getD a ef=t:=⟨_,rfl⟩
 have yO:(bt.of ao).kind a=t.kind:=by rw[<- aY];rfl
 obtain⟨c,ab⟩:∃c,(bt.of ao).same a=c:=⟨_,rfl⟩;obtain⟨H1,s1,s2⟩:=zv cP.now cP.same base h
 obtain⟨bH,cC,b5⟩:=qe cP.now base (H:=H1) (by have:=s2.le;omega) (h.ext s2)
 rw[ab]at s1 |-;rw[yO];rw[aY]at cC;simp only[dA,ar]at s1 cC;cases c with
 |false=>
   rw[bV (by rw[sK];decide)]
   refine⟨h.lt,.bQ [],H1,eF (c:=tJ) (k:=1) cP.Qm rfl (by decide) QC ?_,aH.gM s2,(h.ext s2).g,rfl⟩
   simp only[tJ,simprocAttr,L6,aG,s1]
   try rfl
 |true=>
   by_cases bl:t.kind=4
   .rw[bV (by rw[bl];decide)]
    have k1:(((t.kind:Nat):Int) != 4)=false:=by rw[bl];rfl
    refine⟨h.lt,.bQ [],bH,eF (c:=tJ) (k:=1) cP.Qm rfl (by decide) QC ?_,aH.gM (s2.trans b5),(h.ext (s2.trans b5)).g,rfl⟩
    simp only[tJ,simprocAttr,L6,aG,s1,cC,k1]
    try rfl
   .rw[bE (by rw[ol,mw];exact bl)]
    have k1:(((t.kind:Nat):Int) != 4)=true:=by rw[mw];omega
    obtain⟨cV,f1,f2⟩:=yg cP.now base (H:=bH) (by have:=s2.le;have:=b5.le;omega) (h.ext (s2.trans b5))
    refine⟨h.lt,cV,?_,aH.gM (s2.trans (b5.trans f2))⟩
    refine qH (c:=tJ) (k:=1) rfl cP.Qm rfl (by decide) QC rfl (H1:=bH) (cw:=ax 12 [(0,.ref ρ 0 0),(9,ar true)]) ?_ (sJ rfl (jH (it':=aN) (pre:=apE) (post:=[]) (.bQ []) rfl rfl f1 ?_))
    .simp only[ar,simprocAttr,tJ,L6,aG,s1,cC,k1]
    .simp only[ar,simprocAttr,L6,aG,hs]
end
end Go.Proofs.YtngfpadeebpoeaaGreatDoor.gO
