/- Texts of the proof: RdC4, RdC5, RdC6, RdC7, RdC8, RdC9, RdCA, RdCB, RdCC, RdCD, RdCE, RdCF, RdCG, RdCH, RdCI, RdPL, RdX1, RdX2. -/
import Derived.Test.YtbocmenkkjbigaaDoorP0
import Derived.Test.YtbocmenkkjbigaaDoorP1
import Derived.Test.YtbocmenkkjbigaaDoorP2
import Derived.Test.YtbocmenkkjbigaaDoorP3
import Derived.ProofKit
set_option linter.all false
set_option maxRecDepth 100000
namespace Go.Proofs.YtbocmenkkjbigaaDoor
open Go.dO
def fX(l:List ByteArray):List (List V):=l.map fun s=>[a7 s]
theorem Ft(l s):fX (l++[s])=fX l++[[a7 s]]:=by unfold fX;rw[OP];rfl
theorem O0(l):(fX l).flatten=l.map a7:=by
 induction l with
 |nil=>rfl
 |cons a l aw=>unfold fX at aw |-;rw[lL,uV,aw];rfl
def r4(l):(fX l).length=l.length:=by unfold fX;rw[zw]
def u'{m H v l}(h:cp m 1 H v (fX l)):nS m H v (l.map a7):=by
 obtain⟨_,⟨e,rfl⟩|⟨id,g,rfl,aa,hm⟩⟩:=h
 .refine .inl ⟨?_,.inl rfl⟩
  have:(fX l).length=0:=by rw[e];rfl
  rw[r4]at this;rw[lO this];rfl
 .refine .inr ⟨id,g,l.map a7,by rw[r4,zw],by rw[<- O0];exact aa,bS _,Fm,hm⟩
def FZ{m H v l}(h:cp m 1 H v (fX l)){base bytes}(af:base<=m)(hm:m<=H.length)(s)(aq:(l.length+1)*bytes<=2^47):
 ∃dQ H',gW (H++[.cells 0 [a7 s]]) base 1 bytes v (.aB H.length 0 0 1 1)=some (dQ,H')/\cp m 1 H' dQ (fX (l++[s]))/\H.length<=H'.length/\∀id,id<H.length->(∀g n,v≠.aB id g 0 n 1)->H'[id]?=H[id]?:=by
 have J:cp m 1 (H++[.cells 0 [a7 s]]) v (fX l):=h.bT fun id g n e=>d' (h.lt id g n e)
 have lg:elems (H++[.cells 0 [a7 s]]) 1 (.aB H.length 0 0 1 1)=some ([[a7 s]].length,[[a7 s]].flatten):=(RdW.aB (R:=[[a7 s]]) (dz H 0 [a7 s]) (fun y bA=>by rw[fj.1 bA];rfl)).el
 obtain⟨dQ,H',cy,a2,a3,a4⟩:=J.append (base:=base) (bytes:=bytes) af (by rw[kw];omega) (S:=[[a7 s]]) (fun y bA=>by rw[fj.1 bA];rfl) (by simp) lg (by rfl) (by rw[r4];exact aq)
 rw[kw]at a3
 refine⟨dQ,H',cy,by rw[Ft];exact a2,by omega,fun id J U=>?_⟩
 rw[a4 id (by rw[kw];omega) U]
 exact d' J
section
variable {ah:Nat->Option c7} {ρ:Nat} {bB:V} {ts:List Tok.T} {a:Nat}
def ES{m ρ A C v l}(h:cp m 1 A v (fX l))(hm:ρ<m)(k:aA A.length [ρ] A C):cp m 1 C v (fX l):=h.bT fun id g n e=>by
 refine k.2 id (h.lt id g n e) ?_;rw[fj];subst e
 obtain⟨_,⟨_,e⟩|⟨eX,g',e,_,gL⟩⟩:=h
 .cases e
 .cases e;omega
def fS{m w id g n H R}(h:cp m w H (.aB id g 0 n w) R):m<=id:=by
 obtain⟨_,⟨_,e⟩|⟨eX,g',e,_,gL⟩⟩:=h
 .cases e
 .cases e;exact gL
def aA.app{L D A B C}(h:aA L D A B)(k:aA L D B C):aA L D A C:=aA.trans h k (bS _)
def aA.low{L D A B}(h:aA A.length D A B)(dw:L<=A.length):aA L D A B:=⟨by have:=h.1;omega,fun id J U=>h.2 id (by omega) U⟩
def acm(b8:uD ah)(wf:jb ts)(base)(af:base<=ρ){L}(dw:ρ<L){D}(h:cJ ρ bB ts D a)(IH:L<=D.length){v acc}(av:cp L 1 D v (fX acc))(aN:acc.length<2^21){dM:Env}(kP:dM=[(0,.ref ρ 0 0),(3,v)]\/dM=[(0,.ref ρ 0 0),(3,v),(11,aL false)]):match dN (aJ.of ts) a with
 |.ok (s,b)=>b<ts.length/\∃dQ bh,aC (aU ah) aG base (.region IG [] [11,14,15,16,17,18]) (au 22 dM) D=some (.bH,au 22 [(0,.ref ρ 0 0),(3,dQ)],bh)/\aA L [ρ] D bh/\ao bh ρ 0=some [bB,bg b]/\cp L 1 bh dQ (fX (acc++[s]))
 |.error e=>e<ts.length/\∃bh,fP (aU ah) (nn ah) aG base (fun _ _=>True) (.region IG [] [11,14,15,16,17,18]) (au 22 dM) D (p9,.agg (cP (ts.getD e cU)),bh)/\aA L [ρ] D bh:=by
 have jk:base<=D.length:=by omega
 have sC:v.one=true:=av.rd.one;have q:=vY b8 wf base af h;revert q;unfold eE;cases dN (aJ.of ts) a with
 |ok p=>
   obtain⟨s,b⟩:=p;rintro⟨bp,_,cS,aP,bj,c4,rfl⟩;have mV:=ES av dw bj
   obtain⟨dQ,bY,cy,a2,a3,a4⟩:=FZ mV (base:=base) (bytes:=16) (by omega) (by have:=bj.1;omega) s (by omega)
   have B':∀id,id<L->bY[id]?=cS[id]?:=fun id hid=>a4 id (by have:=bj.1;omega) fun g' c3 e=>by
    subst e;have:=fS mV;omega
   have g2:ao bY ρ 0=some [bB,bg b]:=by
    unfold ao at c4 |-;rw[B' ρ dw];exact c4
   refine⟨bp,dQ,bY,?_,aA.app (aA.low bj IH) ⟨by have:=bj.1;omega,fun id J _=>B' id J⟩,g2,a2⟩
   simp only[a7]at aP cy
   rcases kP with rfl|rfl<;>simp only[aL,simprocAttr,r7,aM,aP,cy]
 |error e=>
   rintro⟨bp,cS,aP,bj⟩;refine⟨bp,cS,?_,aA.low bj IH⟩
   obtain⟨dQ,bY,cy,a2,a3,a4⟩:=FZ av (base:=base) (bytes:=16) (by omega) IH ⟨#[]⟩ (by omega)
   simp only[a7]at cy
   rcases kP with rfl|rfl<;>refine jm (it':=aG) (pre:=agj) (post:=P') (a7 ⟨#[]⟩) rfl rfl aP ?_<;>simp only[a7,simprocAttr,aL,r7,aM,gQ,cy]
def AT(V:aJ)(n:Nat):cr ByteArray:=fun a=>if n > 0 then(ul V [44]).bind (fun _=>dN V) a else dN V a
def mc{V:aJ}{a b s}(h:dN V a=.ok (s,b)):b=a+1:=by
 unfold dN at h;split at h
 .cases h;rfl
 .cases h
def NP{V:aJ}{a b s}(h:fT V a=.ok (s,b)):b=a+1:=by
 unfold fT at h;split at h
 .cases h;rfl
 .cases h
def tn{V:aJ}{a b l}{u:Unit}(h:ul V l a=.ok (u,b)):b=a+1:=by
 unfold ul at h;split at h
 .cases h;rfl
 .cases h
def hf{α β:Type}{f:cr α}{g:α->cr β}{a b}{y:β}(h:cr.bind f g a=.ok (y,b)):∃x c,f a=.ok (x,c)/\g x c=.ok (y,b):=by
 unfold cr.bind at h;cases al:f a with
 |error e=>rw[al]at h;cases h
 |ok p=>obtain⟨x,c⟩:=p;rw[al]at h;exact⟨x,c,rfl,h⟩
def atj{V:aJ}{n a b s}(h:AT V n a=.ok (s,b)):a<b:=by
 unfold AT at h;split at h
 .obtain⟨u,c,J,U⟩:=hf h;have:=tn J;have:=mc U;omega
 .have:=mc h;omega
def auV(b8:uD ah)(wf:jb ts)(base)(af:base<=ρ){L}(dw:ρ<L){C}(h:cJ ρ bB ts C a)(HH:L<=C.length){v acc}(av:cp L 1 C v (fX acc))(aN:acc.length<2^21):
 if lP (aJ.of ts) [41] a=true then ∃bh,aC (aU ah) aG base zb (au 22 [(0,.ref ρ 0 0),(3,v)]) C=some (.ext 0,au 22 [(0,.ref ρ 0 0),(3,v),(8,aL false)],bh)/\Ext C bh
 else match AT (aJ.of ts) acc.length a with
  |.ok (s,b)=>b<ts.length/\∃dQ bh,aC (aU ah) aG base zb (au 22 [(0,.ref ρ 0 0),(3,v)]) C=some (.bH,au 22 [(0,.ref ρ 0 0),(3,dQ)],bh)/\aA L [ρ] C bh/\ao bh ρ 0=some [bB,bg b]/\cp L 1 bh dQ (fX (acc++[s]))
  |.error e=>e<ts.length/\∃bh,fP (aU ah) (nn ah) aG base (fun _ _=>True) zb (au 22 [(0,.ref ρ 0 0),(3,v)]) C (p9,.agg (cP (ts.getD e cU)),bh)/\aA L [ρ] C bh:=by
 obtain⟨bF,cq,cN⟩:=R9 b8.now b8.same b8.RU base (by omega) h ⟨#[41]⟩
 have OU:(⟨#[41]⟩:ByteArray).data.toList=[41]:=rfl;have CU:(⟨#[44]⟩:ByteArray).data.toList=[44]:=rfl;rw[OU]at cq;by_cases hi:lP (aJ.of ts) [41] a=true
 .rw[a' hi];rw[hi]at cq;refine⟨bF,?_,cN⟩;simp only[a7,aL]at cq;simp only[aL,simprocAttr,r7,aM,cq]
 .rw[bm hi];rw[nz]at hi;rw[hi]at cq;simp only[a7,aL]at cq;have J:=h.ext cN
  have ql:L<=bF.length:=by have:=cN.le;omega
  have uH:cp L 1 bF v (fX acc):=av.bT fun id g n e=>cN.get (av.lt id g n e)
  have dd:h0 bF .s v=some (.s (.int .i64 acc.length)):=by rw[uH.rd.len,r4]
  have ph:aA L [ρ] C bF:=aA.low (aA.gn cN) HH
  have dS:aC (aU ah) aG base (.seq (.region P5 [] [6,7]) (.cond (.t 8) .skip (.exit 0))) (au 22 [(0,.ref ρ 0 0),(3,v)]) C=some (.bH,au 22 [(0,.ref ρ 0 0),(3,v),(8,aL true)],bF):=by
   simp only[aL,simprocAttr,r7,aM,cq]
  unfold AT;by_cases a1:acc.length > 0
  .rw[a' a1]
   have aa:((acc.length:Nat):Int) > 0:=by omega
   have e3:aC (aU ah) aG base (.bc FR [8,9,10] [11]) (au 22 [(0,.ref ρ 0 0),(3,v),(8,aL true)]) bF=some (.bH,au 22 [(0,.ref ρ 0 0),(3,v),(11,aL true)],bF):=by
    simp only[aL,simprocAttr,r7,aM,dd,aa]
   have q:=vv b8 wf base af J ⟨#[44]⟩;rw[CU]at q;revert q;unfold eE cr.bind;cases ul (aJ.of ts) [44] a with
   |error e=>
     rintro⟨bp,cS,aP,bj⟩;refine⟨bp,cS,dG dS (kb (dG e3 (sw rfl (jm (it':=aG) (pre:=U9) (post:=[]) (.bV []) rfl rfl aP ?_)))),aA.app ph (aA.low bj ql)⟩;simp only[aL,simprocAttr,r7,aM,gQ]
   |ok p=>
     obtain⟨u,b⟩:=p;rintro⟨bp,_,cS,aP,bj,c4,rfl⟩;simp only[a7]at aP;have pX:aA L [ρ] C cS:=aA.app ph (aA.low bj ql)
     have uJ:aC (aU ah) aG base (.region Ic [] [11,12,13]) (au 22 [(0,.ref ρ 0 0),(3,v),(11,aL true)]) bF=some (.bH,au 22 [(0,.ref ρ 0 0),(3,v)],cS):=by
      simp only[aL,simprocAttr,r7,aM,aP]
     have GC:aC (aU ah) aG base (.seq (.bc FR [8,9,10] [11]) (.cond (.t 11) (.region Ic [] [11,12,13]) .skip)) (au 22 [(0,.ref ρ 0 0),(3,v),(8,aL true)]) bF=some (.bH,au 22 [(0,.ref ρ 0 0),(3,v)],cS):=(eh e3).trans (by simp only[aL,simprocAttr,aM];exact uJ)
     have mV:=ES uH dw bj
     have q:=acm b8 wf base af dw (J.SG dw (aA.low bj ql) c4 bp) (by have:=bj.1;omega) mV aN (.inl rfl)
     revert q
     show _->match dN (aJ.of ts) b with
      |.ok (s,b)=>_
      |.error e=>_
     cases dN (aJ.of ts) b with
     |ok p=>
       obtain⟨s,b'⟩:=p;rintro⟨bC,dQ,bh,bP,dk,eC,iR⟩;exact⟨bC,dQ,bh,(eh dS).trans (yG ((eh GC).trans bP)),aA.app pX dk,eC,iR⟩
     |error e=>
       rintro⟨bC,bh,bP,dk⟩;exact⟨bC,bh,dG dS (dG GC bP),aA.app pX dk⟩
  .rw[bm a1]
   have aa:¬((acc.length:Nat):Int) > 0:=by omega
   have GC:aC (aU ah) aG base (.seq (.bc FR [8,9,10] [11]) (.cond (.t 11) (.region Ic [] [11,12,13]) .skip)) (au 22 [(0,.ref ρ 0 0),(3,v),(8,aL true)]) bF=some (.bH,au 22 [(0,.ref ρ 0 0),(3,v),(11,aL false)],bF):=by
    simp only[aL,simprocAttr,r7,aM,dd,aa]
   have q:=acm b8 wf base af dw J ql uH aN (.inr rfl);revert q;cases dN (aJ.of ts) a with
   |ok p=>
     obtain⟨s,b'⟩:=p;rintro⟨bC,dQ,bh,bP,dk,eC,iR⟩;exact⟨bC,dQ,bh,(eh dS).trans (yG ((eh GC).trans bP)),aA.app ph dk,eC,iR⟩
   |error e=>
     rintro⟨bC,bh,bP,dk⟩;exact⟨bC,bh,dG dS (dG GC bP),aA.app ph dk⟩
def avY(b8:uD ah)(wf:jb ts)(base)(af:base<=ρ){L}(dw:ρ<L):∀(n:Nat) {a:Nat} {C:az} {v:V} {acc:List ByteArray},cJ ρ bB ts C a->L<=C.length->cp L 1 C v (fX acc)->acc.length+n<2^21->ts.length<a+n->
 match jv (aJ.of ts) n acc a with
  |.ok (l,b)=>b<ts.length/\∃dQ bh,aG (aC (aU ah) aG base zb) [] L (au 22 [(0,.ref ρ 0 0),(3,v)]) C=some (.ext 0,au 22 [(0,.ref ρ 0 0),(3,dQ),(8,aL false)],bh)/\aA L [ρ] C bh/\ao bh ρ 0=some [bB,bg b]/\cp L 1 bh dQ (fX l)/\lP (aJ.of ts) [41] b=true
  |.error e=>e<ts.length/\∃bh,oa (fun fr H=>aC (aU ah) aG base zb fr H) (fun fr H r=>fP (aU ah) (nn ah) aG base (fun _ _=>True) zb fr H r) [] L (au 22 [(0,.ref ρ 0 0),(3,v)]) C (p9,.agg (cP (ts.getD e cU)),bh)/\aA L [ρ] C bh:=by
 intro n
 induction n with
 |zero=>intro a C v acc h _ _ _ aN;have:=h.lt;omega
 |succ n aw=>
   intro a C v acc h HH av aN al
   have q:=auV b8 wf base af dw h HH av (by omega)
   unfold jv;by_cases hi:lP (aJ.of ts) [41] a=true
   .rw[a' hi]at q |-;obtain⟨bF,cq,cN⟩:=q;have uH:cp L 1 bF v (fX acc):=av.bT fun id g n e=>cN.get (av.lt id g n e)
    have ql:L<=bF.length:=by have:=cN.le;omega
    have HQ:=aA.trim (aA.low (aA.refl ([]:List Nat) bF) ql) (bS L) (au 22 [(0,.ref ρ 0 0),(3,v),(8,aL false)]);have ph:aA L [ρ] C bF:=aA.low (aA.gn cN) HH
    refine⟨h.lt,v,trim L (au 22 [(0,.ref ρ 0 0),(3,v),(8,aL false)]) bF,?_,ph.trim (bS L) _,HQ.ao (h.ext cN).g dw (by simp),?_,hi⟩
    .rw[eo,cq];rfl
    .rcases uH.rW (L:=L) (bS _) (fr:=au 22 [(0,.ref ρ 0 0),(3,v),(8,aL false)]) (tO (s:=3) (by decide) rfl)with⟨aF,rfl⟩|aF
     .rw[aF];exact cp.start _ _ _
     .rw[aF];exact uH
   .rw[bm hi]at q |-
    have key:(if acc.length > 0 then(ul (aJ.of ts) [44]).bind (fun _=>(dN (aJ.of ts)).bind fun x=>jv (aJ.of ts) n (acc++[x])) a else(dN (aJ.of ts)).bind (fun x=>jv (aJ.of ts) n (acc++[x])) a)=match AT (aJ.of ts) acc.length a with
     |.ok (s,b)=>jv (aJ.of ts) n (acc++[s]) b
     |.error e=>.error e:=by
     unfold AT;by_cases a1:acc.length > 0
     .rw[a' a1,a' a1];unfold cr.bind;cases ul (aJ.of ts) [44] a with
      |error e=>rfl
      |ok p=>
        obtain⟨u,b⟩:=p;dsimp only;cases dN (aJ.of ts) b<;>rfl
     .rw[bm a1,bm a1];unfold cr.bind;cases dN (aJ.of ts) a<;>rfl
    rw[key];revert q;cases aq:AT (aJ.of ts) acc.length a with
    |error e=>
      rintro⟨bp,bh,aP,bj⟩;exact⟨bp,bh,.here aP,bj⟩
    |ok p=>
      obtain⟨s,b⟩:=p;rintro⟨bp,dQ,bh,aP,bj,c4,iu⟩
      have jC:trim L (au 22 [(0,.ref ρ 0 0),(3,dQ)]) bh=bh:=iu.arN (by rw[Ft];simp) (bS _) (tO (s:=3) (by decide) rfl)
      have sI:a<b:=by
       exact atj aq
      have q:=aw (h.SG dw bj c4 bp) bj.1 iu (by rw[fU,bi];omega) (by omega)
      revert q
      show _->match jv (aJ.of ts) n (acc++[s]) b with
       |.ok (l,b)=>_
       |.error e=>_
      cases jv (aJ.of ts) n (acc++[s]) b with
      |error e=>
        rintro⟨bC,D,bP,dk⟩
        refine⟨bC,D,.next aP ?_,aA.app bj dk⟩
        show oa _ _ [] L (au 22 [(0,.ref ρ 0 0),(3,dQ)]) (trim L (au 22 [(0,.ref ρ 0 0),(3,dQ)]) bh) _;rw[jC];exact bP
      |ok p=>
        obtain⟨l,b'⟩:=p;rintro⟨bC,w,D,bP,dk,eC,iR,lE⟩;refine⟨bC,w,D,?_,aA.app bj dk,eC,iR,lE⟩;rw[eo,aP,H7];show aG _ _ _ (au 22 [(0,.ref ρ 0 0),(3,dQ)]) (trim L (au 22 [(0,.ref ρ 0 0),(3,dQ)]) bh)=_;rw[jC];exact bP
def Tt(b8:uD ah)(aR:ah FO=some (.code rJ))(wf:jb ts)(base)(af:base<=ρ){H}(h:cJ ρ bB ts H a){N}(dv:ts.length<N)(iG:N<2^21):eE ah base FO [.ref ρ 0 0] ρ bB ts [ρ] H (o9 (aJ.of ts) N a) (fun l v H'=>∃m,H.length<=m/\cp m 1 H' v (fX l)):=by
 have iV:=h.pos;unfold o9;have av9:(⟨#[40]⟩:ByteArray).data.toList=[40]:=rfl;have OU:(⟨#[41]⟩:ByteArray).data.toList=[41]:=rfl
 have ck:aC (aU ah) aG base (.bc QE HG []) (au rJ.ntmps (gC rJ.ntmps ([]++[.ref ρ 0 0]++[]) 0)) H=some (.bH,au 22 [(0,.ref ρ 0 0)],H):=by
  simp only[rJ,simprocAttr,r7,aM]
 have aF:aC (aU ah) aG base (.bc Qc [] [3]) (au 22 [(0,.ref ρ 0 0)]) H=some (.bH,au 22 [(0,.ref ρ 0 0),(3,bz)],H):=by
  simp only[bz,simprocAttr,r7,aM]
 have q:=vv b8 wf base af h ⟨#[40]⟩;rw[av9]at q;unfold eE at q |-;cases aq:ul (aJ.of ts) [40] a with
 |error e=>
   rw[aq]at q
   have ar:((ul (aJ.of ts) [40]).bind fun _=>(jv (aJ.of ts) N []).bind fun l=>(ul (aJ.of ts) [41]).bind fun _ a=>.ok (l,a)) a=.error e:=by unfold cr.bind;rw[aq]
   rw[ar];obtain⟨bp,D,aP,bj⟩:=q
   refine⟨bp,D,AV rfl aR (by simp[rJ]) (dG ck (dG aF (kb (jm (it':=aG) (pre:=acd) (post:=[]) (.bV []) rfl rfl aP ?_)))),bj⟩
   simp only[bz,simprocAttr,r7,aM,gQ]
 |ok p=>
   obtain⟨u,b⟩:=p;rw[aq]at q;obtain⟨bp,_,D,aP,bj,c4,rfl⟩:=q;have cX:=h.bT bj c4 bp;have KB:=bj.1;simp only[a7]at aP
   have aK:aC (aU ah) aG base (.region OO [] [4,5]) (au 22 [(0,.ref ρ 0 0),(3,bz)]) H=some (.bH,au 22 [(0,.ref ρ 0 0),(3,bz)],D):=by
    simp only[bz,simprocAttr,r7,aM,aP]
   have q:=avY b8 wf base af (L:=D.length) (by omega) N cX (bS _) (acc:=[]) (cp.start _ _ _) (by simpa using iG) (by omega)
   cases ak:jv (aJ.of ts) N [] b with
   |error e=>
     rw[ak]at q
     have ar:((ul (aJ.of ts) [40]).bind fun _=>(jv (aJ.of ts) N []).bind fun l=>(ul (aJ.of ts) [41]).bind fun _ a=>.ok (l,a)) a=.error e:=by unfold cr.bind;rw[aq];dsimp only;rw[ak]
     rw[ar];obtain⟨bC,bY,bP,dk⟩:=q
     exact⟨bC,bY,AV rfl aR (by simp[rJ]) (dG ck (dG aF (dG aK (kb bP)))),aA.then' bj dk⟩
   |ok p=>
     obtain⟨l,c⟩:=p;rw[ak]at q;obtain⟨bC,v,bY,bP,dk,eC,iR,lE⟩:=q
     have vI:ul (aJ.of ts) [41] c=.ok ((),c+1):=by unfold ul;rw[a' lE]
     have ar:((ul (aJ.of ts) [40]).bind fun _=>(jv (aJ.of ts) N []).bind fun l=>(ul (aJ.of ts) [41]).bind fun _ a=>.ok (l,a)) a=.ok (l,c+1):=by unfold cr.bind;rw[aq];dsimp only;rw[ak];dsimp only;rw[vI]
     rw[ar]
     have q:=vv b8 wf base af (cX.SG (by omega) dk eC bC) ⟨#[41]⟩
     rw[OU,vI]at q;obtain⟨t1,_,dH,t2,t3,t4,rfl⟩:=q
     have K:=aA.then' bj dk
     have aEL:=ES iR (by omega) t3
     refine⟨t1,v,dH,ih (c:=rJ) aR (by simp[rJ]) ?_,aA.app K (aA.low t3 K.1),t4,D.length,KB,aEL⟩
     simp only[a7,bz,aL]at t2 bP aP;simp only[rJ,simprocAttr,r7,aM,aP,bP,t2]
end
def fw(aH m:Nat)(H:az)(x:gf)(cd lw:V):Prop:=aH<m/\m<=H.length/\ao H aH 0=some (dL x cd lw)/\cp m 1 H cd (fX x.xs)/\cp m 1 H lw (fX x.ls)/\∀id g n g' c3,cd=.aB id g 0 n 1->lw≠.aB id g' 0 c3 1
def fw.bT{aH m ρ H H' x cd lw}(h:fw aH m H x cd lw)(iV:ρ<aH)(k:aA H.length [ρ] H H'):fw aH m H' x cd lw:=by
 obtain⟨J,U,ax,aY,cl,eM⟩:=h
 exact⟨J,by have:=k.1;omega,k.ao ax (hL ax) (by rw[fj];omega),ES aY (by omega) k,ES cl (by omega) k,eM⟩
def fw.set{aH m H x y cd lw}(h:fw aH m H x cd lw)(ae:y.xs=x.xs)(ak:y.ls=x.ls):fw aH m (H.set aH (.cells 0 (dL y cd lw))) y cd lw:=by
 obtain⟨J,U,ax,aY,cl,eM⟩:=h
 refine⟨J,by rw[eF];exact U,e4 ax _,?_,?_,eM⟩
 .rw[ae];refine aY.bT fun id g n e=>?_;subst e;have:=fS aY
  rw[cf (by omega)]
 .rw[ak];refine cl.bT fun id g n e=>?_;subst e;have:=fS cl
  rw[cf (by omega)]
def aA.two{L ρ aH A B}(h:aA L [ρ] A B):aA L [ρ,aH] A B:=⟨h.1,fun id J U=>h.2 id J (by simp at U |-;exact U.1)⟩
def aA.ta{L ρ aH A B}(h:aA L [ρ,aH] A B)(bo):aA L [ρ,aH] A (B.set aH bo):=⟨by rw[eF];exact h.1,fun id J U=>by
 rw[cf (by simp at U;omega)]
 exact h.2 id J U⟩
def aA.mi{A B C ρ aH}(h:aA A.length [ρ,aH] A B)(k:aA B.length [ρ,aH] B C):aA A.length [ρ,aH] A C:=aA.trans h k h.1
def cJ.AW{ρ aH a b:Nat}{bB ts H H'}(h:cJ ρ bB ts H a)(ek:ρ<aH)(k:aA H.length [ρ,aH] H H')(g:ao H' ρ 0=some [bB,bg b])(af:b<ts.length):cJ ρ bB ts H' b:=by
 obtain⟨m,w⟩:=h.w;refine⟨g,⟨m,w.bT fun id g n av=>?_⟩,h.ed,af,h.n⟩;have:=h.ed id g n av;have:=h.pos
 exact k.2 id (by omega) (by simp;omega)
def cp.low{m k w H v R}(h:cp m w H v R)(an:k<=m):cp k w H v R:=by
 obtain⟨J,U|⟨id,g,U,ax,aY⟩⟩:=h
 .exact⟨J,.inl U⟩
 .exact⟨J,.inr ⟨id,g,U,ax,by omega⟩⟩
def fw.akN{aH m H x cd lw}(h:fw aH m H x cd lw)(l):fw aH m ((H++[bq.cells 0 (l.map a7)]).set aH (.cells 0 (dL { x with ls:=l } cd (.aB H.length 0 0 l.length 1)))) { x with ls:=l } cd (.aB H.length 0 0 l.length 1):=by
 obtain⟨J,U,ax,aY,cl,eM⟩:=h;have ek:=hL ax
 refine⟨J,by rw[eF,kw];omega,e4 (df ax (Ext.app _ _)) _,?_,?_,?_⟩
 .refine aY.bT fun id g n e=>?_;subst e;have:=fS aY;have:=aY.lt id g n rfl
  rw[cf (by omega),d' (by omega)]
 .refine⟨fun r ar=>?_,.inr ⟨H.length,0,by rw[r4],?_,by omega⟩⟩
  .obtain⟨s,_,rfl⟩:=vE.1 ar;rfl
  .rw[O0];unfold ao
   rw[cf (by omega)]
   exact dz H 0 _
 .intro id g n g' c3 e bw;subst e;have:=aY.lt id g n rfl;cases bw;omega
def fw.TE{aH m k H H' x cd lw v l}(h:fw aH m H x cd lw)(lh:fw aH m H' x cd lw)(av:cp k 1 H' v (fX l))(an:H.length<=k):fw aH m (H'.set aH (.cells 0 (dL { x with xs:=l } v lw))) { x with xs:=l } v lw:=by
 obtain⟨J,U,ax,aY,cl,eM⟩:=lh;have awO:=h.2.2.2.2.1;have hm:=h.2.1
 refine⟨J,by rw[eF];exact U,e4 ax _,?_,?_,?_⟩
 .refine(cp.low av (by omega)).bT fun id g n e=>?_
  subst e;have:=fS av
  rw[cf (by omega)]
 .refine cl.bT fun id g n e=>?_;subst e;have:=fS cl
  rw[cf (by omega)]
 .intro id g n g' c3 e bw;subst e;subst bw;have:=fS av;have:=awO.lt id g' c3 rfl;omega
theorem nS.Si{m H v l}(h:nS m H v l):v.cells=[v]:=by
 rcases h with⟨_,rfl|rfl⟩|⟨id,g,c,rfl,_⟩<;>rfl
structure pc (ah:Nat->Option c7):Prop where
 R:uD ah
 list:ah FO=some (.code rJ)
 size:ah xF=some (.code uq)
 nothing:ah FH=some (.code BM)
 fn:ah AH=some (.code ue)
 one:ah x6=some (.code ve)
 field:ah Cp=some (.code sF)
 Km:ah Bd=some (.code qB)
 call:ah xo=some (.code r1)
 SK:ah xc=some (.code sP)
 store:ah AM=some (.code qx)
 Od:ah Bb=some (.code qf)
 to:ah BY=some (.code uk)
 ret:ah G7=some (.code sf)
abbrev sJ(aH m:Nat):gf->V->az->Prop:=fun y v H'=>v=.bV []/\∃cd lw,fw aH m H' y cd lw
section
variable {ah:Nat->Option c7} {ρ:Nat} {bB:V} {ts:List Tok.T} {H:az} {a:Nat}
theorem CQ(ch:pc ah)(wf:jb ts)(base)(af:base<=ρ)(h:cJ ρ bB ts H a){aH m}(ek:ρ<aH){x cd lw}(ae:fw aH m H x cd lw):eE ah base x6 [.ref ρ 0 0,.ref aH 0 0] ρ bB ts [ρ,aH] H ((dN (aJ.of ts)).bind (fun s a=>.ok ({ x with a:=s },a)) a) (sJ aH m):=by
 have q:=vY ch.R wf base af h
 have hp:base<=aH:=by omega
 have jH:base<=H.length:=by have:=h.pos;omega
 unfold eE at q;unfold cr.bind eE;cases aq:dN (aJ.of ts) a with
 |error e=>
   rw[aq]at q;obtain⟨bp,D,aP,bj⟩:=q;have iv:=ae.2.2.1
   refine⟨bp,D,wx (c:=ve) (k:=2) rfl ch.one rfl (by decide) af5 (pre:=adV) (post:=P1) (.inl rfl) (a7 ⟨#[]⟩) rfl rfl aP ?_,aA.two bj⟩
   simp only[dL,a7]at iv;simp only[a7,simprocAttr,ve,amP,aM,gQ,iv,hp]
 |ok p=>
   obtain⟨s,b⟩:=p;rw[aq]at q;obtain⟨bp,_,D,aP,bj,c4,rfl⟩:=q;have kn:=ae.bT ek bj;have iv:=kn.2.2.1;have ff:=kn.set (y:={ x with a:=s }) rfl rfl;obtain⟨E,bx⟩:∃E,D.set aH (.cells 0 (dL { x with a:=s } cd lw))=E:=⟨_,rfl⟩
   have nW:ao E ρ 0=some [bB,bg b]:=by
    unfold ao at c4 |-
    rw[<- bx,cf (by omega)]
    exact c4
   rw[bx]at ff
   refine⟨bp,.bV [],E,iY (c:=ve) (k:=2) ch.one rfl (by decide) af5 ?_,bx▸aA.ta (aA.two bj) _,nW,rfl,cd,lw,ff⟩
   simp only[dL,a7]at iv aP bx;simp only[ve,simprocAttr,amP,aM,aP,iv,hp,bx]
   try rfl
theorem adH(ch:pc ah)(wf:jb ts)(base)(af:base<=ρ)(h:cJ ρ bB ts H a){aH m}(ek:ρ<aH){x cd lw}(ae:fw aH m H x cd lw):eE ah base AH [.ref ρ 0 0,.ref aH 0 0] ρ bB ts [ρ,aH] H ((dN (aJ.of ts)).bind (fun s a=>.ok ({ x with f:=s },a)) a) (sJ aH m):=by
 have q:=vY ch.R wf base af h
 have hp:base<=aH:=by omega
 have jH:base<=H.length:=by have:=h.pos;omega
 unfold eE at q;unfold cr.bind eE;cases aq:dN (aJ.of ts) a with
 |error e=>
   rw[aq]at q;obtain⟨bp,D,aP,bj⟩:=q;have iv:=ae.2.2.1
   refine⟨bp,D,wx (c:=ue) (k:=2) rfl ch.fn rfl (by decide) ZB (pre:=acw) (post:=QJ) (.inl rfl) (a7 ⟨#[]⟩) rfl rfl aP ?_,aA.two bj⟩
   simp only[dL,a7]at iv;simp only[a7,simprocAttr,ue,alA,aM,gQ,iv,hp]
 |ok p=>
   obtain⟨s,b⟩:=p;rw[aq]at q;obtain⟨bp,_,D,aP,bj,c4,rfl⟩:=q;have kn:=ae.bT ek bj;have iv:=kn.2.2.1;have ff:=kn.set (y:={ x with f:=s }) rfl rfl;obtain⟨E,bx⟩:∃E,D.set aH (.cells 0 (dL { x with f:=s } cd lw))=E:=⟨_,rfl⟩
   have nW:ao E ρ 0=some [bB,bg b]:=by
    unfold ao at c4 |-
    rw[<- bx,cf (by omega)]
    exact c4
   rw[bx]at ff
   refine⟨bp,.bV [],E,iY (c:=ue) (k:=2) ch.fn rfl (by decide) ZB ?_,bx▸aA.ta (aA.two bj) _,nW,rfl,cd,lw,ff⟩
   simp only[dL,a7]at iv aP bx;simp only[ue,simprocAttr,alA,aM,aP,iv,hp,bx]
   try rfl
theorem ari(ch:pc ah)(base)(h:cJ ρ bB ts H a){aH m x cd lw}(ae:fw aH m H x cd lw):eE ah base FH [.ref ρ 0 0,.ref aH 0 0] ρ bB ts [ρ,aH] H (.ok (x,a)) (sJ aH m):=by
 refine⟨h.lt,.bV [],H,ih (c:=BM) ch.nothing (by simp[BM]) ?_,aA.refl _ _,h.g,rfl,cd,lw,ae⟩
 rfl
def Rk(ch:pc ah)(wf:jb ts)(base)(af:base<=ρ)(h:cJ ρ bB ts H a){aH m}(ek:ρ<aH){x cd lw}(ae:fw aH m H x cd lw):eE ah base xF [.ref ρ 0 0,.ref aH 0 0] ρ bB ts [ρ,aH] H ((fT (aJ.of ts)).bind (fun n a=>.ok ({ x with k:=n },a)) a) (sJ aH m):=by
 have hp:base<=aH:=by omega
 have jH:base<=H.length:=by have:=h.pos;omega
 have iv:=ae.2.2.1;have iV:=h.pos;simp only[dL,a7]at iv;unfold cr.bind eE fT;by_cases an:((aJ.of ts).same a&&(aJ.of ts).kind a==2)=true
 .rw[a' an];obtain⟨D,cq,cN,et⟩:=ank ch.R base af h 2 an;obtain⟨t,aO⟩:∃t,ts.getD a cU=t:=⟨_,rfl⟩;rw[dr,cG]at an
  have aN:(aJ.of ts).num a=t.n:=by rw[<- aO];rfl
  have kn:=ae.bT ek cN;have qW:=kn.2.2.1;have ff:=kn.set (y:={ x with k:=((aJ.of ts).num a:Nat) }) rfl rfl;obtain⟨E,bx⟩:∃E,D.set aH (.cells 0 (dL { x with k:=((aJ.of ts).num a:Nat) } cd lw))=E:=⟨_,rfl⟩
  have nW:ao E ρ 0=some [bB,bg (a+1:Nat)]:=by
   unfold ao at et |-
   rw[<- bx,cf (by omega)]
   exact et
  rw[bx]at ff;rw[aO]at cq;rw[aN]at bx;have arF:((2:Nat):Int)=2:=rfl
  refine⟨wf.qw a h.lt (by rw[show(ts.getD a cU).kind=2 from an.2];decide),.bV [],E,iY (c:=uq) (k:=2) ch.size rfl (by decide) Yk ?_,bx▸aA.ta (aA.two cN) _,nW,rfl,cd,lw,ff⟩
  simp only[dL,cP,a7,arF]at qW cq bx;simp only[uq,simprocAttr,YG,aM,cq,qW,hp,bx]
  try rfl
 .rw[bm an];rw[nz]at an;obtain⟨D,cq,cN⟩:=Vj ch.R base af h 2 an
  refine⟨h.lt,D,wx (c:=uq) (k:=2) rfl ch.size rfl (by decide) Yk (pre:=amW) (post:=MC) (.inl rfl) (.agg mE) rfl rfl cq ?_,aA.two (aA.gn cN)⟩
  simp only[mE,simprocAttr,uq,YG,aM,gQ,iv,hp]
theorem aps(ch:pc ah)(wf:jb ts)(base)(af:base<=ρ)(h:cJ ρ bB ts H a){aH m}(ek:ρ<aH){x cd lw}(ae:fw aH m H x cd lw):eE ah base BY [.ref ρ 0 0,.ref aH 0 0] ρ bB ts [ρ,aH] H ((dN (aJ.of ts)).bind (fun s a=>.ok ({ x with ls:=[s] },a)) a) (sJ aH m):=by
 have hp:base<=aH:=by omega
 have jH:base<=H.length:=by have:=h.pos;omega
 have iv:=ae.2.2.1;have iV:=h.pos;simp only[dL,a7]at iv;have q:=vY ch.R wf base af h;unfold eE at q;unfold cr.bind eE;cases aq:dN (aJ.of ts) a with
 |error e=>
   rw[aq]at q;obtain⟨bp,D,aP,bj⟩:=q;have N8:=fun c=>df iv (Ext.app H [bq.cells 0 c])
   refine⟨bp,D,wx (c:=uk) (k:=2) rfl ch.to rfl (by decide) ajg (pre:=akq) (post:=SW) (.inl rfl) (a7 ⟨#[]⟩) rfl rfl aP ?_,aA.two bj⟩
   simp only[a7,simprocAttr,uk,abg,aM,gQ,N8,hp]
 |ok p=>
   obtain⟨s,b⟩:=p;rw[aq]at q;obtain⟨bp,_,D,aP,bj,c4,rfl⟩:=q;have kn:=ae.bT ek bj;have qW:=df kn.2.2.1 (Ext.app D [bq.cells 0 ([s].map a7)]);have ff:=kn.akN [s];obtain⟨E,bx⟩:∃E,(D++[bq.cells 0 ([s].map a7)]).set aH (.cells 0 (dL { x with ls:=[s] } cd (.aB D.length 0 0 1 1)))=E:=⟨_,rfl⟩
   have adh:ρ<D.length:=by have:=bj.1;omega
   have nW:ao E ρ 0=some [bB,bg b]:=by
    unfold ao at c4 |-
    rw[<- bx,cf (by omega),d' adh]
    exact c4
   rw[show([s]:List ByteArray).length=1 from rfl,bx]at ff
   have K:aA H.length [ρ,aH] H (D++[bq.cells 0 ([s].map a7)]):=aA.app (aA.two bj) ⟨by rw[kw];have:=bj.1;omega,fun id J _=>d' (by have:=bj.1;omega)⟩
   refine⟨bp,.bV [],E,iY (c:=uk) (k:=2) ch.to rfl (by decide) ajg ?_,bx▸aA.ta K _,nW,rfl,cd,_,ff⟩
   simp only[dL,a7,lL,x7]at qW aP bx;simp only[uk,simprocAttr,abg,aM,aP,qW,hp,bx]
   try rfl
theorem asi(ch:pc ah)(wf:jb ts)(base)(af:base<=ρ)(h:cJ ρ bB ts H a){aH m}(ek:ρ<aH){x cd lw}(ae:fw aH m H x cd lw):eE ah base Bb [.ref ρ 0 0,.ref aH 0 0] ρ bB ts [ρ,aH] H ((dN (aJ.of ts)).bind (fun s=>(dN (aJ.of ts)).bind fun t a=>.ok ({ x with ls:=[s,t] },a)) a) (sJ aH m):=by
 have hp:base<=aH:=by omega
 have jH:base<=H.length:=by have:=h.pos;omega
 have iv:=ae.2.2.1;have iV:=h.pos;simp only[dL,a7]at iv;have N8:=fun c=>df iv (Ext.app H [bq.cells 0 c]);have q:=vY ch.R wf base af h
 have qP:(aC (na (a7 ⟨#[]⟩)) aG base (.region KC [] mZ) (au qf.ntmps (mJ [.ref ρ 0 0,.ref aH 0 0] 0)) H).isSome=true:=by
  simp only[a7,simprocAttr,qf,WT,aM,gQ,N8,hp]
 unfold eE at q;unfold cr.bind eE;cases aq:dN (aJ.of ts) a with
 |error e=>
   rw[aq]at q;obtain⟨bp,D,aP,bj⟩:=q
   exact⟨bp,D,wx (c:=qf) (k:=2) rfl ch.Od rfl (by decide) RB (pre:=SI) (post:=R2) (.inl rfl) (a7 ⟨#[]⟩) rfl rfl aP qP,aA.two bj⟩
 |ok p=>
   obtain⟨s,b⟩:=p;rw[aq]at q;obtain⟨bp,_,D,aP,bj,c4,rfl⟩:=q
   have adh:ρ<D.length:=by have:=bj.1;omega
   have gM:=vY ch.R wf base af (h.bT bj c4 bp);unfold eE at gM;dsimp only;cases aO:dN (aJ.of ts) b with
   |error e=>
     rw[aO]at gM;obtain⟨bC,bY,bP,dk⟩:=gM
     refine⟨bC,bY,asL (c:=qf) (a:=.region KC [] mZ) rfl ch.Od (by simp[qf]) (.inl rfl) (Zz (it':=aG) (EB:=SI) (Dz:=ad4) (post:=S7) (a7 ⟨#[]⟩) rfl rfl aP rfl bP ?_),aA.two (aA.then' bj dk)⟩
     exact ayC (c:=qf) (vs:=[.ref ρ 0 0,.ref aH 0 0]) (k:=2) rfl (by decide) RB (.inl rfl) qP
   |ok p=>
     obtain⟨t,cV⟩:=p;rw[aO]at gM;obtain⟨bC,_,bY,bP,dk,eC,rfl⟩:=gM
     have pX:=aA.then' bj dk
     have kn:=ae.bT ek pX;have qW:=df kn.2.2.1 (Ext.app bY [bq.cells 0 ([s,t].map a7)]);have ff:=kn.akN [s,t];obtain⟨E,bx⟩:∃E,(bY++[bq.cells 0 ([s,t].map a7)]).set aH (.cells 0 (dL { x with ls:=[s,t] } cd (.aB bY.length 0 0 2 1)))=E:=⟨_,rfl⟩
     have nW:ao E ρ 0=some [bB,bg cV]:=by
      unfold ao at eC |-
      rw[<- bx,cf (by omega),d' (by have:=dk.1;omega)]
      exact eC
     rw[show([s,t]:List ByteArray).length=2 from rfl,bx]at ff
     have K:aA H.length [ρ,aH] H (bY++[bq.cells 0 ([s,t].map a7)]):=aA.app (aA.two pX) ⟨by rw[kw];have:=pX.1;omega,fun id J _=>d' (by have:=pX.1;omega)⟩
     refine⟨bC,.bV [],E,iY (c:=qf) (k:=2) ch.Od rfl (by decide) RB ?_,bx▸aA.ta K _,nW,rfl,cd,_,ff⟩
     simp only[dL,a7,lL,x7]at qW aP bP bx;simp only[qf,simprocAttr,WT,aM,aP,bP,qW,hp,bx]
     try rfl
theorem ay2(ch:pc ah)(wf:jb ts)(base:Nat)(af:base<=ρ)(h:cJ ρ bB ts H a){aH m:Nat}(ek:ρ<aH){x cd lw}(ae:fw aH m H x cd lw):eE ah base Cp [.ref ρ 0 0,.ref aH 0 0] ρ bB ts [ρ,aH] H ((dN (aJ.of ts)).bind (fun s=>(fT (aJ.of ts)).bind fun n a=>.ok ({ x with a:=s,k:=n },a)) a) (sJ aH m):=by
 have hp:base<=aH:=by omega
 have jH:base<=H.length:=by have:=h.pos;omega
 have iv:=ae.2.2.1;have iV:=h.pos;simp only[dL,a7]at iv;have q:=CQ ch wf base af h ek ae;unfold eE cr.bind at q;unfold eE cr.bind;cases aq:dN (aJ.of ts) a with
 |error e=>
   rw[aq]at q;obtain⟨bp,D,aP,bj⟩:=q
   refine⟨bp,D,wx (c:=sF) (k:=2) rfl ch.field rfl (by decide) Sn (pre:=Yh) (post:=[]) (.inr ⟨_,rfl⟩) (.bV []) rfl rfl aP ?_,bj⟩
   simp only[sF,simprocAttr,Ks,aM,gQ]
 |ok p=>
   obtain⟨s,b⟩:=p;rw[aq]at q;obtain⟨bp,_,D,aP,bj,c4,rfl,uu,o3,ff⟩:=q;have gM:=Rk ch wf base af (h.AW ek bj c4 bp) ek ff;unfold eE cr.bind at gM;dsimp only;cases aO:fT (aJ.of ts) b with
   |error e=>
     rw[aO]at gM;obtain⟨bC,bY,bP,dk⟩:=gM
     refine⟨bC,bY,pH (c:=sF) (k:=2) rfl ch.field rfl (by decide) Sn rfl (H1:=D) (cg:=au 10 [(0,.ref ρ 0 0),(1,.ref aH 0 0)]) ?_ (jm (it':=aG) (pre:=alC) (post:=[]) (.bV []) rfl rfl bP ?_),aA.mi bj dk⟩
     .simp only[sF,simprocAttr,Ks,aM,aP]
     .simp only[Ks,simprocAttr,aM,gQ]
   |ok p=>
     obtain⟨n,cV⟩:=p;rw[aO]at gM;obtain⟨bC,_,bY,bP,dk,eC,rfl,aAX,aG5,rK⟩:=gM
     refine⟨bC,.bV [],bY,iY (c:=sF) (k:=2) ch.field rfl (by decide) Sn ?_,aA.mi bj dk,eC,rfl,aAX,aG5,rK⟩
     simp only[sF,simprocAttr,Ks,aM,aP,bP]
     try rfl
theorem bce(ch:pc ah)(wf:jb ts)(base:Nat)(af:base<=ρ)(h:cJ ρ bB ts H a){aH m:Nat}(ek:ρ<aH){x cd lw}(ae:fw aH m H x cd lw){N:Nat}(dv:ts.length<N)(iG:N<2^21):eE ah base xo [.ref ρ 0 0,.ref aH 0 0] ρ bB ts [ρ,aH] H ((dN (aJ.of ts)).bind (fun s=>(o9 (aJ.of ts) N).bind fun l a=>.ok ({ x with f:=s,xs:=l },a)) a) (sJ aH m):=by
 have hp:base<=aH:=by omega
 have jH:base<=H.length:=by have:=h.pos;omega
 have iv:=ae.2.2.1;have iV:=h.pos;simp only[dL,a7]at iv;have q:=adH ch wf base af h ek ae;unfold eE cr.bind at q;unfold eE cr.bind;cases aq:dN (aJ.of ts) a with
 |error e=>
   rw[aq]at q;obtain⟨bp,D,aP,bj⟩:=q
   refine⟨bp,D,wx (c:=r1) (k:=2) rfl ch.call rfl (by decide) Ng (pre:=anI) (post:=[]) (.inr ⟨_,rfl⟩) (.bV []) rfl rfl aP ?_,bj⟩
   simp only[r1,simprocAttr,Ix,aM,gQ]
 |ok p=>
   obtain⟨s,b⟩:=p;rw[aq]at q;obtain⟨bp,_,D,aP,bj,c4,rfl,uu,o3,ff⟩:=q;have cX:=h.AW ek bj c4 bp;have gM:=Tt ch.R ch.list wf base af cX dv iG;have p2:=ff.2.2.1;unfold eE at gM;dsimp only;cases aO:o9 (aJ.of ts) N b with
   |error e=>
     rw[aO]at gM;obtain⟨bC,bY,bP,dk⟩:=gM
     refine⟨bC,bY,pH (c:=r1) (k:=2) rfl ch.call rfl (by decide) Ng rfl (H1:=D) (cg:=au 12 [(0,.ref ρ 0 0),(1,.ref aH 0 0)]) ?_ (jm (it':=aG) (pre:=adT) (post:=Sv) bz rfl rfl bP ?_),aA.mi bj (aA.two dk)⟩
     .simp only[r1,simprocAttr,Ix,aM,aP]
     .simp only[dL,a7]at p2;simp only[bz,simprocAttr,Ix,aM,gQ,p2,hp]
   |ok p=>
     obtain⟨l,cV⟩:=p;rw[aO]at gM;obtain⟨bC,v,bY,bP,dk,eC,azG,u7,av⟩:=gM;have rK:=ff.bT ek dk;have rm:=rK.2.2.1;have qC:=ff.TE rK av u7;obtain⟨E,bx⟩:∃E,bY.set aH (.cells 0 (dL { x with f:=s,xs:=l } v o3))=E:=⟨_,rfl⟩
     have nW:ao E ρ 0=some [bB,bg cV]:=by
      unfold ao at eC |-
      rw[<- bx,cf (by omega)]
      exact eC
     have x9:fw aH m E { x with f:=s,xs:=l } v o3:=bx▸qC;have sC:v.one=true:=av.rd.one;have Ps:=nS.Si (u' av)
     refine⟨bC,.bV [],E,iY (c:=r1) (k:=2) ch.call rfl (by decide) Ng ?_,bx▸aA.ta (aA.mi bj (aA.two dk)) _,nW,rfl,v,o3,x9⟩
     simp only[dL,a7]at rm bx;simp only[r1,simprocAttr,Ix,aM,aP,bP,rm,hp,sC,Ps,bx]
     try rfl
theorem aqR(ch:pc ah)(wf:jb ts)(base:Nat)(af:base<=ρ)(h:cJ ρ bB ts H a){aH m:Nat}(ek:ρ<aH){x cd lw}(ae:fw aH m H x cd lw){N:Nat}(dv:ts.length<N)(iG:N<2^21):eE ah base xc [.ref ρ 0 0,.ref aH 0 0] ρ bB ts [ρ,aH] H ((dN (aJ.of ts)).bind (fun s=>(o9 (aJ.of ts) N).bind fun l a=>.ok ({ x with a:=s,xs:=l },a)) a) (sJ aH m):=by
 have hp:base<=aH:=by omega
 have jH:base<=H.length:=by have:=h.pos;omega
 have iv:=ae.2.2.1;have iV:=h.pos;simp only[dL,a7]at iv;have q:=CQ ch wf base af h ek ae;unfold eE cr.bind at q;unfold eE cr.bind;cases aq:dN (aJ.of ts) a with
 |error e=>
   rw[aq]at q;obtain⟨bp,D,aP,bj⟩:=q
   refine⟨bp,D,wx (c:=sP) (k:=2) rfl ch.SK rfl (by decide) Sk (pre:=amu) (post:=[]) (.inr ⟨_,rfl⟩) (.bV []) rfl rfl aP ?_,bj⟩
   simp only[sP,simprocAttr,Is,aM,gQ]
 |ok p=>
   obtain⟨s,b⟩:=p;rw[aq]at q;obtain⟨bp,_,D,aP,bj,c4,rfl,uu,o3,ff⟩:=q;have cX:=h.AW ek bj c4 bp;have gM:=Tt ch.R ch.list wf base af cX dv iG;have p2:=ff.2.2.1;unfold eE at gM;dsimp only;cases aO:o9 (aJ.of ts) N b with
   |error e=>
     rw[aO]at gM;obtain⟨bC,bY,bP,dk⟩:=gM
     refine⟨bC,bY,pH (c:=sP) (k:=2) rfl ch.SK rfl (by decide) Sk rfl (H1:=D) (cg:=au 12 [(0,.ref ρ 0 0),(1,.ref aH 0 0)]) ?_ (jm (it':=aG) (pre:=Y') (post:=R6) bz rfl rfl bP ?_),aA.mi bj (aA.two dk)⟩
     .simp only[sP,simprocAttr,Is,aM,aP]
     .simp only[dL,a7]at p2;simp only[bz,simprocAttr,Is,aM,gQ,p2,hp]
   |ok p=>
     obtain⟨l,cV⟩:=p;rw[aO]at gM;obtain⟨bC,v,bY,bP,dk,eC,azG,u7,av⟩:=gM;have rK:=ff.bT ek dk;have rm:=rK.2.2.1;have qC:=ff.TE rK av u7;obtain⟨E,bx⟩:∃E,bY.set aH (.cells 0 (dL { x with a:=s,xs:=l } v o3))=E:=⟨_,rfl⟩
     have nW:ao E ρ 0=some [bB,bg cV]:=by
      unfold ao at eC |-
      rw[<- bx,cf (by omega)]
      exact eC
     have x9:fw aH m E { x with a:=s,xs:=l } v o3:=bx▸qC;have sC:v.one=true:=av.rd.one;have Ps:=nS.Si (u' av)
     refine⟨bC,.bV [],E,iY (c:=sP) (k:=2) ch.SK rfl (by decide) Sk ?_,bx▸aA.ta (aA.mi bj (aA.two dk)) _,nW,rfl,v,o3,x9⟩
     simp only[dL,a7]at rm bx;simp only[sP,simprocAttr,Is,aM,aP,bP,rm,hp,sC,Ps,bx]
     try rfl
theorem aCn(ch:pc ah)(wf:jb ts)(base:Nat)(af:base<=ρ)(h:cJ ρ bB ts H a){aH m:Nat}(ek:ρ<aH){x cd lw}(ae:fw aH m H x cd lw):eE ah base AM [.ref ρ 0 0,.ref aH 0 0] ρ bB ts [ρ,aH] H ((dN (aJ.of ts)).bind (fun s=>(ul (aJ.of ts) [44]).bind fun _=>(dN (aJ.of ts)).bind fun t a=>.ok ({ x with a:=s,b:=t },a)) a) (sJ aH m):=by
 have hp:base<=aH:=by omega
 have jH:base<=H.length:=by have:=h.pos;omega
 have iv:=ae.2.2.1;have iV:=h.pos;simp only[dL,a7]at iv;have q:=CQ ch wf base af h ek ae;have CU:(⟨#[44]⟩:ByteArray).data.toList=[44]:=rfl;unfold eE cr.bind at q;unfold eE cr.bind;cases aq:dN (aJ.of ts) a with
 |error e=>
   rw[aq]at q;obtain⟨bp,D,aP,bj⟩:=q
   refine⟨bp,D,wx (c:=qx) (k:=2) rfl ch.store rfl (by decide) Kp (pre:=Wb) (post:=[]) (.inr ⟨_,rfl⟩) (.bV []) rfl rfl aP ?_,bj⟩
   simp only[qx,simprocAttr,Eb,aM,gQ]
 |ok p=>
   obtain⟨s,b⟩:=p;rw[aq]at q;obtain⟨bp,_,D,aP,bj,c4,rfl,uu,o3,ff⟩:=q;have cX:=h.AW ek bj c4 bp
   have ck:aC (aU ah) aG base (.region M' [] xw) (au qx.ntmps (mJ ([]++[.ref ρ 0 0,.ref aH 0 0]++[]) 0)) H=some (.bH,au 14 [(0,.ref ρ 0 0),(1,.ref aH 0 0)],D):=by
    simp only[qx,simprocAttr,Eb,aM,aP]
   have gM:=vv ch.R wf base af cX ⟨#[44]⟩;rw[CU]at gM;unfold eE at gM;dsimp only;cases aO:ul (aJ.of ts) [44] b with
   |error e=>
     rw[aO]at gM;obtain⟨bC,bY,bP,dk⟩:=gM
     refine⟨bC,bY,pH (c:=qx) (k:=2) rfl ch.store rfl (by decide) Kp rfl ck (kb (jm (it':=aG) (pre:=UO) (post:=[]) (.bV []) rfl rfl bP ?_)),aA.mi bj (aA.two dk)⟩
     simp only[Eb,simprocAttr,aM,gQ]
   |ok p=>
     obtain⟨u,cV⟩:=p;rw[aO]at gM;obtain⟨bC,_,bY,bP,dk,eC,rfl⟩:=gM;have fu:=cX.bT dk eC bC;have rK:=ff.bT ek dk;have rm:=rK.2.2.1;simp only[a7]at bP
     have aF:aC (aU ah) aG base (.region Py [] [7,8]) (au 14 [(0,.ref ρ 0 0),(1,.ref aH 0 0)]) D=some (.bH,au 14 [(0,.ref ρ 0 0),(1,.ref aH 0 0)],bY):=by
      simp only[Eb,simprocAttr,aM,bP]
     have uf:=vY ch.R wf base af fu;unfold eE at uf;dsimp only;cases hu:dN (aJ.of ts) cV with
     |error e=>
       rw[hu]at uf;obtain⟨t1,dH,t2,t3⟩:=uf
       refine⟨t1,dH,pH (c:=qx) (k:=2) rfl ch.store rfl (by decide) Kp rfl ck (dG aF (jm (it':=aG) (pre:=afP) (post:=MU) (a7 ⟨#[]⟩) rfl rfl t2 ?_)),aA.mi bj (aA.mi (aA.two dk) (aA.two t3))⟩
       simp only[dL,a7]at rm;simp only[a7,simprocAttr,Eb,aM,gQ,rm,hp]
     |ok p=>
       obtain⟨t,e9⟩:=p;rw[hu]at uf;obtain⟨t1,_,dH,t2,t3,t4,rfl⟩:=uf;have qC:=rK.bT ek t3;have BR:=qC.2.2.1;have x9:=qC.set (y:={ x with a:=s,b:=t }) rfl rfl;obtain⟨E,bx⟩:∃E,dH.set aH (.cells 0 (dL { x with a:=s,b:=t } uu o3))=E:=⟨_,rfl⟩
       have nW:ao E ρ 0=some [bB,bg e9]:=by
        unfold ao at t4 |-
        rw[<- bx,cf (by omega)]
        exact t4
       rw[bx]at x9
       refine⟨t1,.bV [],E,iY (c:=qx) (k:=2) ch.store rfl (by decide) Kp ?_,bx▸aA.ta (aA.mi bj (aA.mi (aA.two dk) (aA.two t3))) _,nW,rfl,uu,o3,x9⟩
       simp only[dL,a7]at BR t2 bx;simp only[qx,simprocAttr,Eb,aM,aP,bP,t2,BR,hp,bx]
       try rfl
theorem aDw(ch:pc ah)(wf:jb ts)(base)(af:base<=ρ)(h:cJ ρ bB ts H a){aH m}(ek:ρ<aH){x cd lw}(ae:fw aH m H x cd lw):eE ah base G7 [.ref ρ 0 0,.ref aH 0 0] ρ bB ts [ρ,aH] H (if((aJ.of ts).same a&&(aJ.of ts).kind a==1)=true then(dN (aJ.of ts)).bind (fun s a=>.ok ({ x with a:=s },a)) a else .ok (x,a)) (sJ aH m):=by
 have hp:base<=aH:=by omega
 have jH:base<=H.length:=by have:=h.pos;omega
 have iv:=ae.2.2.1;have iV:=h.pos;simp only[dL,a7]at iv;obtain⟨t,aO⟩:∃t,ts.getD a cU=t:=⟨_,rfl⟩
 have xP:(aJ.of ts).kind a=t.kind:=by rw[<- aO];rfl
 obtain⟨c,aa⟩:∃c,(aJ.of ts).same a=c:=⟨_,rfl⟩;obtain⟨H1,s1,s2⟩:=D4 ch.R.now ch.R.same base h
 obtain⟨bK,cw,bN⟩:=pW ch.R.now base (H:=H1) (by have:=s2.le;omega) (h.ext s2)
 rw[aO]at cw;simp only[cP,aL]at s1 cw;by_cases an:((aJ.of ts).same a&&(aJ.of ts).kind a==1)=true
 .rw[a' an];have kQ:=an;rw[dr,cG]at kQ;rw[kQ.1]at s1
  have k1:(((t.kind:Nat):Int)==1)=true:=by rw[<- xP,kQ.2];rfl
  have aK:=s2.trans bN;have kn:=ae.bT ek (aA.gn aK);have q:=CQ ch wf base af (h.ext aK) ek kn
  have oF:dN (aJ.of ts) a=.ok (kI ((aJ.of ts).text a),a+1):=by unfold dN;rw[a' an]
  unfold eE cr.bind at q |-;rw[oF]at q |-;obtain⟨bC,_,D,bP,dk,eC,rfl,uu,o3,ff⟩:=q
  refine⟨bC,.bV [],D,iY (c:=sf) (k:=2) ch.ret rfl (by decide) PG ?_,aA.mi (aA.two (aA.gn aK)) dk,eC,rfl,uu,o3,ff⟩
  simp only[sf,simprocAttr,Th,aM,s1,cw,k1,bP]
  try rfl
 .rw[bm an];rw[nz]at an;cases kS:(aJ.of ts).same a with
  |false=>
    rw[kS]at s1
    refine⟨h.lt,.bV [],H1,iY (c:=sf) (k:=2) ch.ret rfl (by decide) PG ?_,aA.two (aA.gn s2),(h.ext s2).g,rfl,cd,lw,ae.bT ek (aA.gn s2)⟩
    simp only[sf,simprocAttr,Th,aM,s1]
    try rfl
  |true=>
    rw[kS]at s1 an
    have k1:(((t.kind:Nat):Int)==1)=false:=by
     rw[px,xP,eZ]at an;rw[eZ];omega
    refine⟨h.lt,.bV [],bK,iY (c:=sf) (k:=2) ch.ret rfl (by decide) PG ?_,aA.two (aA.gn (s2.trans bN)),(h.ext (s2.trans bN)).g,rfl,cd,lw,ae.bT ek (aA.gn (s2.trans bN))⟩
    simp only[sf,simprocAttr,Th,aM,s1,cw,k1]
    try rfl
end
def agu{m H v l}(h:cp m 1 H v (fX l)){base bytes}(af:base<=m)(hm:m<=H.length)(s)(aq:(l.length+1)*bytes<=2^47):
 ∃id g n H',gW (H++[.cells 0 [a7 s]]) base 1 bytes v (.aB H.length 0 0 1 1)=some (.aB id g 0 n 1,H')/\cp m 1 H' (.aB id g 0 n 1) (fX (l++[s]))/\H.length<=H'.length/\(∀id,id<H.length->(∀g n,v≠.aB id g 0 n 1)->H'[id]?=H[id]?)/\((∃g n,v=.aB id g 0 n 1)\/H.length<=id):=by
 obtain⟨dQ,H',cy,a2,a3,a4⟩:=FZ h af hm s aq
 have av:∃id g n,dQ=.aB id g 0 n 1:=by
  obtain⟨_,⟨e,_⟩|⟨id,g,e,_,k⟩⟩:=id a2
  .rw[Ft]at e;simp at e
  .exact⟨id,g,_,e⟩
 obtain⟨id,g,n,rfl⟩:=av;refine⟨id,g,n,H',cy,a2,a3,a4,?_⟩;by_cases bt:H.length<=id
 .exact .inr bt
 .refine .inl ?_;apply RJ;intro dq
  have aF:=a4 id (by omega) fun g n e=>dq ⟨g,n,e⟩
  have lg:elems (H++[bq.cells 0 [a7 s]]) 1 (.aB H.length 0 0 1 1)=some (1,[a7 s]):=(RdW.aB (R:=[[a7 s]]) (dz H 0 [a7 s]) (fun y bA=>by rw[fj.1 bA];rfl)).el
  have hh:=h
  obtain⟨_,⟨_,rfl⟩|⟨eX,g',rfl,aa,_⟩⟩:=hh
  .have hC:1*bytes<=2^47:=by
    have:1*bytes<=(l.length+1)*bytes:=tu _ (by omega)
    omega
   have aT:[a7 s].all V.one=true:=rfl;simp only[gW,lg,aT,fl,bz,hC,J6,gx]at cy;obtain⟨aK,_⟩:=GG (hc cy);cases aK;rw[kw]at bt;omega
  .have aT:[a7 s].all V.one=true:=rfl;have kY:=fS h
   have iZ:base<=eX:=by omega
   have k0:=df aa (Ext.app H [bq.cells 0 [a7 s]]);have ak:(fX l).flatten.length=(fX l).length*1:=xz (fX l) h.1
   have U:0+(fX l).length*1<=(fX l).flatten.length:=by omega
   rw[r4]at U cy;simp only[gW,lg,aT,fl,wR,iZ,k0,U,J6,gx,aq,l3]at cy;obtain⟨aK,_⟩:=GG (hc cy);cases aK;exact dq ⟨_,_,rfl⟩
def fw.ac7{base aH m D x cd lw}(h:fw aH m D x cd lw)(af:base<=m)(s)(aq:(x.ls.length+1)*16<=2^47):∃w bY,gW (D++[.cells 0 [a7 s]]) base 1 16 lw (.aB D.length 0 0 1 1)=some (w,bY)/\w.cells=[w]/\w.one=true/\ao bY aH 0=some (dL x cd lw)/\fw aH m (bY.set aH (.cells 0 (dL { x with ls:=x.ls++[s] } cd w))) { x with ls:=x.ls++[s] } cd w/\(∀id,id<m->bY[id]?=D[id]?)/\D.length<=bY.length/\∃id g n,w=.aB id g 0 n 1/\m<=id:=by
 obtain⟨J,U,ax,aY,cl,eM⟩:=h;obtain⟨id,g,n,bY,cy,a2,a3,a4,a5⟩:=agu cl af U s aq;have ek:=hL ax
 have sk:∀id,id<m->bY[id]?=D[id]?:=fun id hid=>a4 id (by omega) fun g' c3 e=>by
  subst e;have:=fS cl;omega
 have bb:ao bY aH 0=some (dL x cd lw):=by
  unfold ao at ax |-;rw[sk aH J];exact ax
 have hid:m<=id:=fS a2
 refine⟨_,bY,cy,rfl,rfl,bb,⟨J,by rw[eF];omega,e4 bb _,?_,?_,?_⟩,sk,a3,id,g,n,rfl,hid⟩
 .refine aY.bT fun nJ g2 bN e=>?_;have:=aY.lt nJ g2 bN e
  have aGa:m<=nJ:=by rw[e]at aY;exact fS aY
  rw[cf (by omega),a4 nJ this fun g3 po dS=>eM _ _ _ _ _ e dS]
 .refine a2.bT fun nJ g2 bN e=>?_;cases e
  rw[cf (by omega)]
 .intro nJ g2 bN g3 po e dS;cases dS
  rcases a5 with⟨g4,yk,e3⟩|e3
  .exact eM _ _ _ _ _ e e3
  .have:=aY.lt _ _ _ e;omega
def fw.agz{base aH m D x cd lw}(h:fw aH m D x cd lw)(af:base<=m)(s)(aq:(x.xs.length+1)*16<=2^47):∃w bY,gW (D++[.cells 0 [a7 s]]) base 1 16 cd (.aB D.length 0 0 1 1)=some (w,bY)/\w.cells=[w]/\w.one=true/\ao bY aH 0=some (dL x cd lw)/\fw aH m (bY.set aH (.cells 0 (dL { x with xs:=x.xs++[s] } w lw))) { x with xs:=x.xs++[s] } w lw/\(∀id,id<m->bY[id]?=D[id]?)/\D.length<=bY.length/\∃id g n,w=.aB id g 0 n 1/\m<=id:=by
 obtain⟨J,U,ax,aY,cl,eM⟩:=h;obtain⟨id,g,n,bY,cy,a2,a3,a4,a5⟩:=agu aY af U s aq;have ek:=hL ax
 have sk:∀id,id<m->bY[id]?=D[id]?:=fun id hid=>a4 id (by omega) fun g' c3 e=>by
  subst e;have:=fS aY;omega
 have bb:ao bY aH 0=some (dL x cd lw):=by
  unfold ao at ax |-;rw[sk aH J];exact ax
 have hid:m<=id:=fS a2
 refine⟨_,bY,cy,rfl,rfl,bb,⟨J,by rw[eF];omega,e4 bb _,?_,?_,?_⟩,sk,a3,id,g,n,rfl,hid⟩
 .refine a2.bT fun nJ g2 bN e=>?_;cases e
  rw[cf (by omega)]
 .refine cl.bT fun nJ g2 bN e=>?_;have:=cl.lt nJ g2 bN e
  have aGa:m<=nJ:=by rw[e]at cl;exact fS cl
  rw[cf (by omega),a4 nJ this fun g3 po dS=>eM _ _ _ _ _ dS e]
 .intro nJ g2 bN g3 po e dS;cases e
  rcases a5 with⟨g4,yk,e3⟩|e3
  .exact eM _ _ _ _ _ e3 dS
  .have:=cl.lt _ _ _ dS;omega
section
variable {ah:Nat->Option c7} {ρ:Nat} {bB:V} {ts:List Tok.T} {H:az} {a:Nat}
theorem Wd{call:c5}{it:gS}(base){D cS bY aH}(hp:base<=aH){z0 gX z2 z3 z4 z5 cd lw s}(pj:ao D aH 0=some [z0,gX,z2,z3,z4,z5,cd,lw])(aa:call (.fn wC [] []) [.ref ρ 0 0] base D=some (a7 s,cS))(an:cS[aH]?=D[aH]?){w}(aD:gW (cS++[.cells 0 [a7 s]]) base 1 16 lw (.aB cS.length 0 0 1 1)=some (w,bY))(sC:lw.one=true)(hw:w.cells=[w])(AU:w.one=true)(g2:ao bY aH 0=some [z0,gX,z2,z3,z4,z5,cd,lw]):
 aC call it base (.region s6 [(4,6)] [6,7,8,9,10,11,12,13,14,15,16]) (au 37 [(0,.ref ρ 0 0),(1,.ref aH 0 0)]) D=some (.bH,au 37 [(0,.ref ρ 0 0),(1,.ref aH 0 0)],bY.set aH (.cells 0 [z0,gX,z2,z3,z4,z5,cd,w])):=by
 have ib:cu call base (s6.take 6) (au 37 [(0,.ref ρ 0 0),(1,.ref aH 0 0)]) D=some (au 37 [(0,.ref ρ 0 0),(1,.ref aH 0 0),(6,.ref aH 0 0),(7,.ref aH 0 0),(8,.ref aH 0 0),(9,.ref aH 0 7),(10,lw),(11,.ref ρ 0 0)],D):=by
  simp only[s6,simprocAttr,fI,gq,aM,pj,fI,gq]
  try rfl
 have aT:cu call base [⟨some 12,(.call (.c (.fn wC [] [])) [(.t 11)]),none⟩] (au 37 [(0,.ref ρ 0 0),(1,.ref aH 0 0),(6,.ref aH 0 0),(7,.ref aH 0 0),(8,.ref aH 0 0),(9,.ref aH 0 7),(10,lw),(11,.ref ρ 0 0)]) D=some (au 37 [(0,.ref ρ 0 0),(1,.ref aH 0 0),(6,.ref aH 0 0),(7,.ref aH 0 0),(8,.ref aH 0 0),(9,.ref aH 0 7),(10,lw),(11,.ref ρ 0 0),(12,a7 s)],cS):=by
  simp only[aM,simprocAttr,aa]
  try rfl
 have aI:cu call base (s6.drop 7) (au 37 [(0,.ref ρ 0 0),(1,.ref aH 0 0),(6,.ref aH 0 0),(7,.ref aH 0 0),(8,.ref aH 0 0),(9,.ref aH 0 7),(10,lw),(11,.ref ρ 0 0),(12,a7 s)]) cS=some (au 37 [(0,.ref ρ 0 0),(1,.ref aH 0 0),(6,.ref aH 0 0),(7,.ref aH 0 0),(8,.ref aH 0 0),(9,.ref aH 0 7),(10,lw),(11,.ref ρ 0 0),(12,a7 s),(13,.aB cS.length 0 0 1 1),(14,w),(15,.ref aH 0 0),(16,.ref aH 0 7)],bY.set aH (.cells 0 [z0,gX,z2,z3,z4,z5,cd,w])):=by
  simp only[a7]at aD;simp only[s6,simprocAttr,a7,B4,l3,aM,aD,hw,AU,g2,hp]
  try rfl
 have ar:s6=s6.take 6++(⟨some 12,(.call (.c (.fn wC [] [])) [(.t 11)]),none⟩:cF)::s6.drop 7:=rfl;rw[ar];refine(K2 ib aT aI rfl fun p aj=>?_).trans ?_
 .rw[fj]at aj;subst aj;refine⟨rfl,some aH,rfl,fun id e=>?_⟩;cases e;exact an
 .simp only[aM,simprocAttr]
  try rfl
theorem ahp{call:c5}{it:gS}(base){D cS bY aH}(hp:base<=aH){z0 gX z2 z3 z4 z5 cd lw s}(pj:ao D aH 0=some [z0,gX,z2,z3,z4,z5,cd,lw])(aa:call (.fn wC [] []) [.ref ρ 0 0] base D=some (a7 s,cS))(an:cS[aH]?=D[aH]?){w}(aD:gW (cS++[.cells 0 [a7 s]]) base 1 16 cd (.aB cS.length 0 0 1 1)=some (w,bY))(sC:cd.one=true)(hw:w.cells=[w])(AU:w.one=true)(g2:ao bY aH 0=some [z0,gX,z2,z3,z4,z5,cd,lw]):
 aC call it base (.region q1 [(4,6)] [19,20,21,22,23,24,25,26,27,28,29]) (au 37 [(0,.ref ρ 0 0),(1,.ref aH 0 0)]) D=some (.bH,au 37 [(0,.ref ρ 0 0),(1,.ref aH 0 0)],bY.set aH (.cells 0 [z0,gX,z2,z3,z4,z5,w,lw])):=by
 have ib:cu call base (q1.take 6) (au 37 [(0,.ref ρ 0 0),(1,.ref aH 0 0)]) D=some (au 37 [(0,.ref ρ 0 0),(1,.ref aH 0 0),(19,.ref aH 0 0),(20,.ref aH 0 0),(21,.ref aH 0 0),(22,.ref aH 0 6),(23,cd),(24,.ref ρ 0 0)],D):=by
  simp only[q1,simprocAttr,fI,gq,aM,pj,fI,gq]
  try rfl
 have aT:cu call base [⟨some 25,(.call (.c (.fn wC [] [])) [(.t 24)]),none⟩] (au 37 [(0,.ref ρ 0 0),(1,.ref aH 0 0),(19,.ref aH 0 0),(20,.ref aH 0 0),(21,.ref aH 0 0),(22,.ref aH 0 6),(23,cd),(24,.ref ρ 0 0)]) D=some (au 37 [(0,.ref ρ 0 0),(1,.ref aH 0 0),(19,.ref aH 0 0),(20,.ref aH 0 0),(21,.ref aH 0 0),(22,.ref aH 0 6),(23,cd),(24,.ref ρ 0 0),(25,a7 s)],cS):=by
  simp only[aM,simprocAttr,aa]
  try rfl
 have aI:cu call base (q1.drop 7) (au 37 [(0,.ref ρ 0 0),(1,.ref aH 0 0),(19,.ref aH 0 0),(20,.ref aH 0 0),(21,.ref aH 0 0),(22,.ref aH 0 6),(23,cd),(24,.ref ρ 0 0),(25,a7 s)]) cS=some (au 37 [(0,.ref ρ 0 0),(1,.ref aH 0 0),(19,.ref aH 0 0),(20,.ref aH 0 0),(21,.ref aH 0 0),(22,.ref aH 0 6),(23,cd),(24,.ref ρ 0 0),(25,a7 s),(26,.aB cS.length 0 0 1 1),(27,w),(28,.ref aH 0 0),(29,.ref aH 0 6)],bY.set aH (.cells 0 [z0,gX,z2,z3,z4,z5,w,lw])):=by
  simp only[a7]at aD;simp only[q1,simprocAttr,a7,B4,l3,aM,aD,hw,AU,g2,hp]
  try rfl
 have ar:q1=q1.take 6++(⟨some 25,(.call (.c (.fn wC [] [])) [(.t 24)]),none⟩:cF)::q1.drop 7:=rfl;rw[ar];refine(K2 ib aT aI rfl fun p aj=>?_).trans ?_
 .rw[fj]at aj;subst aj;refine⟨rfl,some aH,rfl,fun id e=>?_⟩;cases e;exact an
 .simp only[aM,simprocAttr]
  try rfl
end
def Cf(V:aJ)(x:gf):cr (gf × Bool):=(dN V).bind fun l=>(ul V [58]).bind fun _=>(dN V).bind fun s b=>
 if lP V [44] b=true then(ul V [44]).bind (fun _ c=>.ok (({ x with ls:=x.ls++[l],xs:=x.xs++[s] },true),c)) b else .ok (({ x with ls:=x.ls++[l],xs:=x.xs++[s] },false),b)
def aIE(V:aJ)(n x a):kM V (n+1) x.ls x.xs a=match Cf V x a with
 |.error e=>.error e
 |.ok ((y,true),b)=>kM V n y.ls y.xs b
 |.ok ((y,false),b)=>.ok ((y.ls,y.xs),b):=by
 unfold Cf;rw[kM];unfold cr.bind;cases dN V a with
 |error e=>rfl
 |ok p=>
   obtain⟨l,b⟩:=p;dsimp only;cases ul V [58] b with
   |error e=>rfl
   |ok p=>
     obtain⟨u,c⟩:=p;dsimp only;cases dN V c with
     |error e=>rfl
     |ok p=>
       obtain⟨s,d⟩:=p;dsimp only;by_cases hi:lP V [44] d=true
       .rw[a' hi,a' hi];cases ul V [44] d with
        |error e=>rfl
        |ok p=>rfl
       .rw[bm hi,bm hi]
def ar1{V:aJ}{x y t a b}(h:Cf V x a=.ok ((y,t),b)):a<b/\∃l s,y={ x with ls:=x.ls++[l],xs:=x.xs++[s] }:=by
 unfold Cf at h;obtain⟨l,c,J,h⟩:=hf h;obtain⟨u,d,U,h⟩:=hf h;obtain⟨s,e,ax,h⟩:=hf h;have:=mc J;have:=tn U;have:=mc ax;split at h
 .obtain⟨u,f,aY,h⟩:=hf h;have:=tn aY;cases h
  exact⟨by omega,l,s,rfl⟩
 .cases h
  exact⟨by omega,l,s,rfl⟩
section
variable {ah:Nat->Option c7} {ρ:Nat} {bB:V} {ts:List Tok.T} {a:Nat}
set_option maxHeartbeats 1000000 in
def apy(ch:pc ah)(wf:jb ts)(base)(af:base<=ρ){aH L}(ek:ρ<aH){C}(h:cJ ρ bB ts C a){x cd lw}(ae:fw aH L C x cd lw)(lS:x.ls.length<2^21)(kW:x.xs.length<2^21):
 match Cf (aJ.of ts) x a with
  |.ok ((y,t),b)=>b<ts.length/\∃GW FU bh,aC (aU ah) aG base zg (au 37 [(0,.ref ρ 0 0),(1,.ref aH 0 0)]) C=some (if t=true then .bH else .ext 0,if t=true then au 37 [(0,.ref ρ 0 0),(1,.ref aH 0 0)]else au 37 [(0,.ref ρ 0 0),(1,.ref aH 0 0),(32,aL true)],bh)/\aA L [ρ,aH] C bh/\ao bh ρ 0=some [bB,bg b]/\fw aH L bh y GW FU/\∃id g n,FU=.aB id g 0 n 1/\L<=id
  |.error e=>e<ts.length/\∃bh,fP (aU ah) (nn ah) aG base (fun _ _=>True) zg (au 37 [(0,.ref ρ 0 0),(1,.ref aH 0 0)]) C (p9,.agg (cP (ts.getD e cU)),bh)/\aA L [ρ,aH] C bh:=by
 have Nv:(⟨#[58]⟩:ByteArray).data.toList=[58]:=rfl;have CU:(⟨#[44]⟩:ByteArray).data.toList=[44]:=rfl;have Uv:=ae.1;have k4:=ae.2.1
 have hp:base<=aH:=by omega
 have oT:base<=L:=by omega
 have Ez:ρ<L:=by omega
 have zG:=ae.2.2.1;have nx:lw.one=true:=ae.2.2.2.2.1.rd.one;have q:=vY ch.R wf base af h;unfold eE at q;unfold Cf cr.bind;cases aq:dN (aJ.of ts) a with
 |error e=>
   rw[aq]at q;obtain⟨bp,D,aP,bj⟩:=q
   obtain⟨w,bY,dA,cV,e9,hD,kd,F0,LO,mG⟩:=ae.ac7 oT ⟨#[]⟩ (by omega)
   have an:=Wd (call:=na (a7 ⟨#[]⟩)) (it:=aG) (ρ:=ρ) base hp zG (gQ _ _ _ _ _) rfl dA nx cV e9 hD
   refine⟨bp,D,kb (jm (it':=aG) (pre:=s6.take 6) (post:=s6.drop 7) (cg:=au 37 [(0,.ref ρ 0 0),(1,.ref aH 0 0),(6,.ref aH 0 0),(7,.ref aH 0 0),(8,.ref aH 0 0),(9,.ref aH 0 7),(10,lw),(11,.ref ρ 0 0)]) (H1:=C) (a7 ⟨#[]⟩) rfl ?_ aP (by rw[an];rfl)),aA.two (aA.low bj k4)⟩
   simp only[dL]at zG;simp only[s6,simprocAttr,fI,gq,aM,zG]
   try rfl
 |ok p=>
   obtain⟨l,b⟩:=p;rw[aq]at q;obtain⟨bp,_,cS,aP,bj,c4,rfl⟩:=q;dsimp only;have kn:=ae.bT ek bj
   obtain⟨w,bY,dA,cV,e9,hD,kd,F0,LO,mG⟩:=kn.ac7 oT l (by omega)
   have HH:=bj.1
   have bC:=Wd (call:=aU ah) (it:=aG) (ρ:=ρ) base hp zG aP (bj.2 aH (hL zG) (by rw[fj];omega)) dA nx cV e9 hD
   have G0:bY.set aH (bq.cells 0 [.s (.int .u8 x.op),a7 x.d,a7 x.a,a7 x.b,.s (.int .i64 x.k),a7 x.f,cd,w])=bY.set aH (bq.cells 0 (dL { x with ls:=x.ls++[l] } cd w)):=rfl;rw[G0]at bC;obtain⟨ti,wB⟩:∃E,bY.set aH (bq.cells 0 (dL { x with ls:=x.ls++[l] } cd w))=E:=⟨_,rfl⟩;rw[wB]at bC kd
   have ph:aA L [ρ,aH] C ti:=wB▸aA.ta (aA.app (aA.two (aA.low bj k4)) ⟨by omega,fun id J _=>F0 id J⟩) _
   have g1:ao ti ρ 0=some [bB,bg b]:=by
    unfold ao at c4 |-
    rw[<- wB,cf (by omega),F0 ρ Ez]
    exact c4
   have J:cJ ρ bB ts ti b:=by
    obtain⟨m,w⟩:=h.w;refine⟨g1,⟨m,w.bT fun id g n av=>?_⟩,h.ed,bp,h.n⟩;have:=h.ed id g n av
    exact ph.2 id (by omega) (by simp;omega)
   have gM:=vv ch.R wf base af J ⟨#[58]⟩;rw[Nv]at gM;unfold eE at gM;cases aO:ul (aJ.of ts) [58] b with
   |error e=>
     rw[aO]at gM;obtain⟨t1,D,t2,t3⟩:=gM;refine⟨t1,D,dG bC (kb (jm (it':=aG) (pre:=aju) (post:=[]) (.bV []) rfl rfl t2 ?_)),aA.app ph (aA.two (aA.low t3 kd.2.1))⟩;simp only[zE,simprocAttr,aM,gQ]
   |ok p=>
     obtain⟨u,c⟩:=p;rw[aO]at gM;obtain⟨t1,_,zu,t2,t3,t4,rfl⟩:=gM;dsimp only;simp only[a7]at t2
     have bP:aC (aU ah) aG base (.region I7 [] [17,18]) (au 37 [(0,.ref ρ 0 0),(1,.ref aH 0 0)]) ti=some (.bH,au 37 [(0,.ref ρ 0 0),(1,.ref aH 0 0)],zu):=by
      simp only[zE,simprocAttr,aM,t2]
     have hJ:=J.bT t3 t4 t1;have ff:=kd.bT ek t3;have pX:aA L [ρ,aH] C zu:=aA.app ph (aA.two (aA.low t3 kd.2.1));have ef:=ff.2.2.1;have DB:cd.one=true:=ff.2.2.2.1.rd.one;have uf:=vY ch.R wf base af hJ;unfold eE at uf;cases hu:dN (aJ.of ts) c with
     |error e=>
       rw[hu]at uf;obtain⟨v1,D,v2,v3⟩:=uf
       obtain⟨w',z8,cq,cN,et,jd,lx,pn,aFe,RI⟩:=ff.agz oT ⟨#[]⟩ (show(x.xs.length+1)*16<=_ by omega)
       have an:=ahp (call:=na (a7 ⟨#[]⟩)) (it:=aG) (ρ:=ρ) base hp ef (gQ _ _ _ _ _) rfl cq DB cN et jd
       refine⟨v1,D,dG bC (dG bP (kb (jm (it':=aG) (pre:=q1.take 6) (post:=q1.drop 7) (cg:=au 37 [(0,.ref ρ 0 0),(1,.ref aH 0 0),(19,.ref aH 0 0),(20,.ref aH 0 0),(21,.ref aH 0 0),(22,.ref aH 0 6),(23,cd),(24,.ref ρ 0 0)]) (H1:=zu) (a7 ⟨#[]⟩) rfl ?_ v2 (by rw[an];rfl)))),aA.app pX (aA.two (aA.low v3 ff.2.1))⟩
       simp only[dL]at ef;simp only[q1,simprocAttr,fI,gq,aM,ef]
       try rfl
     |ok p=>
       obtain⟨s,d⟩:=p;rw[hu]at uf;obtain⟨v1,_,dH,v2,v3,v4,rfl⟩:=uf;dsimp only;have rK:=ff.bT ek v3
       obtain⟨w',z8,cq,cN,et,jd,lx,pn,aFe,RI⟩:=rK.agz oT s (show(x.xs.length+1)*16<=_ by omega)
       have dk:=ahp (call:=aU ah) (it:=aG) (ρ:=ρ) base hp ef v2 (v3.2 aH (hL ef) (by rw[fj];omega)) cq DB cN et jd
       have aKy:z8.set aH (bq.cells 0 [.s (.int .u8 x.op),a7 x.d,a7 x.a,a7 x.b,.s (.int .i64 x.k),a7 x.f,w',w])=z8.set aH (bq.cells 0 (dL { x with ls:=x.ls++[l],xs:=x.xs++[s] } w' w)):=rfl;have Ac:aC (aU ah) aG base (.region q1 [(4,6)] [19,20,21,22,23,24,25,26,27,28,29]) (au 37 [(0,.ref ρ 0 0),(1,.ref aH 0 0)]) zu=some (.bH,au 37 [(0,.ref ρ 0 0),(1,.ref aH 0 0)],z8.set aH (bq.cells 0 (dL { x with ls:=x.ls++[l],xs:=x.xs++[s] } w' w))):=dk;have I4:fw aH L (z8.set aH (bq.cells 0 (dL { x with ls:=x.ls++[l],xs:=x.xs++[s] } w' w))) { x with ls:=x.ls++[l],xs:=x.xs++[s] } w' w:=lx;obtain⟨ov,je⟩:∃E,z8.set aH (bq.cells 0 (dL { x with ls:=x.ls++[l],xs:=x.xs++[s] } w' w))=E:=⟨_,rfl⟩;rw[je]at Ac I4
       have i':aA L [ρ,aH] C ov:=je▸aA.ta (aA.app pX (aA.app (aA.two (aA.low v3 ff.2.1)) ⟨by have:=v3.1;have:=ff.2.1;omega,fun id J _=>pn id J⟩)) _
       have g3:ao ov ρ 0=some [bB,bg d]:=by
        unfold ao at v4 |-
        rw[<- je,cf (by omega),pn ρ Ez]
        exact v4
       have ax:cJ ρ bB ts ov d:=by
        obtain⟨m,w⟩:=h.w;refine⟨g3,⟨m,w.bT fun id g n av=>?_⟩,h.ed,v1,h.n⟩;have:=h.ed id g n av
        exact i'.2 id (by omega) (by simp;omega)
       obtain⟨Sz,i1,i2⟩:=R9 ch.R.now ch.R.same ch.R.RU base (H:=ov) (by have:=I4.2.1;omega) ax ⟨#[44]⟩
       rw[CU]at i1;have aY:=ax.ext i2;have qC:=I4.bT ek (aA.gn i2);have uw:aA L [ρ,aH] C Sz:=aA.app i' (aA.two (aA.low (aA.gn i2) I4.2.1));obtain⟨eX,g',c3,bw,zY⟩:=mG;by_cases hi:lP (aJ.of ts) [44] d=true
       .rw[a' hi];rw[hi]at i1
        have nP:ul (aJ.of ts) [44] d=.ok ((),d+1):=by unfold ul;rw[a' hi]
        have LQ:=vv ch.R wf base af aY ⟨#[44]⟩;rw[CU]at LQ;unfold eE at LQ;rw[nP]at LQ |-;obtain⟨aV,_,aFl,b4,dJ,eO,rfl⟩:=LQ;dsimp only;refine⟨aV,w',w,aFl,?_,aA.app uw (aA.two (aA.low dJ qC.2.1)),eO,qC.bT ek dJ,eX,g',c3,bw,zY⟩;rw[a' rfl,a' rfl];refine yG ((eh bC).trans ((eh bP).trans ((eh Ac).trans ?_)));simp only[a7,aL]at i1 b4;simp only[zE,simprocAttr,aM,i1,b4]
       .rw[bm hi];rw[nz]at hi;rw[hi]at i1;dsimp only;refine⟨v1,w',w,Sz,?_,uw,aY.g,qC,eX,g',c3,bw,zY⟩
        rw[bm (by decide),bm (by decide)]
        show aC (aU ah) aG base (.block 1 _) _ _=_
        have eC:aC (aU ah) aG base (.seq (.seq (.region Mu [] [30,31]) (.cond (.t 32) (.exit 0) .skip)) (.region LZ [] [32,33,34])) (au 37 [(0,.ref ρ 0 0),(1,.ref aH 0 0)]) ov=some (.ext 0,au 37 [(0,.ref ρ 0 0),(1,.ref aH 0 0),(32,aL true)],Sz):=by
         simp only[a7,aL]at i1;simp only[aL,simprocAttr,zE,aM,i1]
        have iR:=(eh (b:=.seq (.region I7 [] [17,18]) (.seq (.region q1 [(4,6)] [19,20,21,22,23,24,25,26,27,28,29]) (.seq (.seq (.region Mu [] [30,31]) (.cond (.t 32) (.exit 0) .skip)) (.region LZ [] [32,33,34])))) bC).trans ((eh bP).trans ((eh Ac).trans eC));exact afx rfl iR
end
def Hj{L q g id g' n w H c}(aa:ao H q g=some c)(bD:q<L)(av:V.aB id g' 0 n w∈c)(hid:L<=id)(fr):trim L fr H=H:=by
 rcases af6 L fr H with e|⟨_,_,h⟩
 .exact e
 .have:=h q g c bD aa _ av;simp only[im,lm]at this;omega
def fw.low{aH m k H x cd lw}(h:fw aH m H x cd lw)(an:k<=m)(ek:aH<k):fw aH k H x cd lw:=by
 obtain⟨J,U,ax,aY,cl,eM⟩:=h
 exact⟨ek,by omega,ax,cp.low aY an,cp.low cl an,eM⟩
def fw.nil{aH m k H x}(h:fw aH m H x bz bz)(ae:x.xs=[])(ak:x.ls=[])(an:k<=H.length)(ek:aH<k):fw aH k H x bz bz:=by
 obtain⟨J,U,ax,aY,cl,eM⟩:=h;refine⟨ek,an,ax,?_,?_,eM⟩
 .rw[ae];exact cp.start _ _ _
 .rw[ak];exact cp.start _ _ _
section
variable {ah:Nat->Option c7} {ρ:Nat} {bB:V} {ts:List Tok.T} {H:az} {a:Nat}
def cJ.MZ{L aH b:Nat}{H'}(h:cJ ρ bB ts H a)(dw:ρ<L)(ek:ρ<aH)(k:aA L [ρ,aH] H H')(g:ao H' ρ 0=some [bB,bg b])(af:b<ts.length):cJ ρ bB ts H' b:=by
 obtain⟨m,w⟩:=h.w;refine⟨g,⟨m,w.bT fun id g n av=>?_⟩,h.ed,af,h.n⟩;have:=h.ed id g n av
 exact k.2 id (by omega) (by simp;omega)
def aG0(ch:pc ah)(wf:jb ts)(base:Nat)(af:base<=ρ){aH L:Nat}(ek:ρ<aH)(Uv:aH<L):∀(n:Nat) {a:Nat} {C:az} {x:gf} {cd lw:V},cJ ρ bB ts C a->fw aH L C x cd lw->x.ls.length+n<2^21->x.xs.length+n<2^21->ts.length<a+n->
 match kM (aJ.of ts) n x.ls x.xs a with
  |.ok (p,b)=>b<ts.length/\∃GW FU bh,aG (aC (aU ah) aG base zg) [] L (au 37 [(0,.ref ρ 0 0),(1,.ref aH 0 0)]) C=some (.ext 0,au 37 [(0,.ref ρ 0 0),(1,.ref aH 0 0),(32,aL true)],bh)/\aA L [ρ,aH] C bh/\ao bh ρ 0=some [bB,bg b]/\fw aH L bh { x with ls:=p.1,xs:=p.2 } GW FU
  |.error e=>e<ts.length/\∃bh,oa (fun fr H=>aC (aU ah) aG base zg fr H) (fun fr H r=>fP (aU ah) (nn ah) aG base (fun _ _=>True) zg fr H r) [] L (au 37 [(0,.ref ρ 0 0),(1,.ref aH 0 0)]) C (p9,.agg (cP (ts.getD e cU)),bh)/\aA L [ρ,aH] C bh:=by
 intro n
 induction n with
 |zero=>intro a C x cd lw h _ _ _ aN;have:=h.lt;omega
 |succ n aw=>
   intro a C x cd lw h ae lS kW al
   have q:=apy ch wf base af ek h ae (by omega) (by omega)
   rw[aIE];cases aq:Cf (aJ.of ts) x a with
   |error e=>
     rw[aq]at q;obtain⟨bp,bh,aP,bj⟩:=q;exact⟨bp,bh,.here aP,bj⟩
   |ok p=>
     obtain⟨⟨y,t⟩,b⟩:=p;rw[aq]at q;obtain⟨bp,GW,FU,bh,aP,bj,c4,iu,id,g,m,rfl,hid⟩:=q;obtain⟨sI,l,s,rfl⟩:=ar1 aq
     have jC:∀fr,trim L fr bh=bh:=fun fr=>Hj iu.2.2.1 Uv (id:=id) (g':=g) (n:=m) (w:=1) (by simp[dL]) hid fr
     cases t with
     |false=>
       rw[bm (by decide),bm (by decide)]at aP
       dsimp only;refine⟨bp,GW,_,bh,?_,bj,c4,iu⟩;rw[eo,aP,Xj,zI,jC]
     |true=>
       rw[a' rfl,a' rfl]at aP;dsimp only
       have q:=aw (h.MZ (by omega) ek bj c4 bp) iu (by simp only[fU,bi];omega) (by simp only[fU,bi];omega) (by omega)
       dsimp only at q;cases aO:kM (aJ.of ts) n (x.ls++[l]) (x.xs++[s]) b with
       |error e=>
         rw[aO]at q;obtain⟨bC,D,bP,dk⟩:=q
         refine⟨bC,D,.next aP ?_,aA.app bj dk⟩
         rw[zI,jC];exact bP
       |ok p=>
         obtain⟨p,b'⟩:=p;rw[aO]at q;obtain⟨bC,uu,o3,D,bP,dk,eC,iR⟩:=q;refine⟨bC,uu,o3,D,?_,aA.app bj dk,eC,iR⟩;rw[eo,aP,H7,zI,jC];exact bP
theorem aIz(ch:pc ah)(wf:jb ts)(base:Nat)(af:base<=ρ)(h:cJ ρ bB ts H a){aH m:Nat}(ek:ρ<aH){x}(ae:fw aH m H x bz bz)(Bf:x.xs=[])(qk:x.ls=[]){N:Nat}(dv:ts.length<N)(iG:N<2^21):eE ah base Bd [.ref ρ 0 0,.ref aH 0 0] ρ bB ts [ρ,aH] H ((ul (aJ.of ts) [91]).bind (fun _=>(kM (aJ.of ts) N x.ls x.xs).bind fun p=>(ul (aJ.of ts) [93]).bind fun _ a=>.ok ({ x with ls:=p.1,xs:=p.2 },a)) a) (sJ aH m):=by
 have aCd:(⟨#[91]⟩:ByteArray).data.toList=[91]:=rfl;have aoX:(⟨#[93]⟩:ByteArray).data.toList=[93]:=rfl;have iV:=h.pos;have q:=vv ch.R wf base af h ⟨#[91]⟩;rw[aCd]at q;unfold eE at q;unfold eE cr.bind;cases aq:ul (aJ.of ts) [91] a with
 |error e=>
   rw[aq]at q;obtain⟨bp,D,aP,bj⟩:=q
   refine⟨bp,D,wx (c:=qB) (k:=2) rfl ch.Km rfl (by decide) JF (pre:=akW) (post:=[]) (.inr ⟨_,rfl⟩) (.bV []) rfl rfl aP ?_,aA.two bj⟩
   simp only[qB,simprocAttr,zE,aM,gQ]
 |ok p=>
   obtain⟨u,b⟩:=p;rw[aq]at q;obtain⟨bp,_,D,aP,bj,c4,rfl⟩:=q;dsimp only;simp only[a7]at aP
   have ck:aC (aU ah) aG base (.region Tx [] zi) (au qB.ntmps (mJ ([]++[.ref ρ 0 0,.ref aH 0 0]++[]) 0)) H=some (.bH,au 37 [(0,.ref ρ 0 0),(1,.ref aH 0 0)],D):=by
    simp only[qB,simprocAttr,zE,aM,aP]
   have cX:=h.bT bj c4 bp;have kn:=ae.bT ek bj;have Yq:aH<D.length:=hL kn.2.2.1;have ff:=kn.nil Bf qk (bS _) Yq;have KB:=bj.1
   have q:=aG0 ch wf base af ek Yq N cX ff (by rw[qk];simpa using iG) (by rw[Bf];simpa using iG) (by omega)
   cases aO:kM (aJ.of ts) N x.ls x.xs b with
   |error e=>
     rw[aO]at q;obtain⟨bC,bY,bP,dk⟩:=q
     exact⟨bC,bY,pH (c:=qB) (k:=2) rfl ch.Km rfl (by decide) JF rfl ck (kb bP),aA.mi (aA.two bj) dk⟩
   |ok p=>
     obtain⟨p,c⟩:=p;rw[aO]at q;obtain⟨bC,uu,o3,bY,bP,dk,eC,iR⟩:=q;dsimp only
     have fu:=cX.MZ (by omega) ek dk eC bC
     have aF:aC (aU ah) aG base (.block 0 (.loop [] zg)) (au 37 [(0,.ref ρ 0 0),(1,.ref aH 0 0)]) D=some (.bH,au 37 [(0,.ref ρ 0 0),(1,.ref aH 0 0),(32,aL true)],bY):=by
      simp only[aL]at bP;simp only[aL,aM,bP]
     have q:=vv ch.R wf base af fu ⟨#[93]⟩;rw[aoX]at q;unfold eE at q;cases hu:ul (aJ.of ts) [93] c with
     |error e=>
       rw[hu]at q;obtain⟨t1,dH,t2,t3⟩:=q
       refine⟨t1,dH,pH (c:=qB) (k:=2) rfl ch.Km rfl (by decide) JF rfl ck (dG aF (jm (it':=aG) (pre:=aic) (post:=[]) (.bV []) rfl rfl t2 ?_)),aA.mi (aA.two bj) (aA.mi dk (aA.two t3))⟩
       simp only[aL,simprocAttr,zE,aM,gQ]
     |ok p=>
       obtain⟨u,d⟩:=p;rw[hu]at q;obtain⟨t1,_,dH,t2,t3,t4,rfl⟩:=q
       refine⟨t1,.bV [],dH,iY (c:=qB) (k:=2) ch.Km rfl (by decide) JF ?_,aA.mi (aA.two bj) (aA.mi dk (aA.two t3)),t4,rfl,uu,o3,(iR.bT ek t3).low (by have:=ae.2.1;omega) ae.1⟩
       simp only[a7,aL]at bP t2;simp only[qB,simprocAttr,zE,aM,aP,bP,t2]
       try rfl
def AN:Nat->Nat
 |1|2=>xF
 |3=>FH
 |4=>AH
 |5|8=>x6
 |6=>Bd
 |7=>Cp
 |9=>AM
 |10=>xo
 |11=>xc
 |12=>Bb
 |13=>BY
 |_=>G7
def asw(ch:pc ah)(wf:jb ts)(base)(af:base<=ρ)(h:cJ ρ bB ts H a){aH m}(ek:ρ<aH){x}(ae:fw aH m H x bz bz)(Bf:x.xs=[])(qk:x.ls=[]){N}(dv:ts.length<N)(iG:N<2^21)(o)(J:1<=o)(kk:o<=14):eE ah base (AN o) [.ref ρ 0 0,.ref aH 0 0] ρ bB ts [ρ,aH] H (Ao (aJ.of ts) N o x a) (sJ aH m):=by
 obtain rfl|rfl|rfl|rfl|rfl|rfl|rfl|rfl|rfl|rfl|rfl|rfl|rfl|rfl:o=1\/o=2\/o=3\/o=4\/o=5\/o=6\/o=7\/o=8\/o=9\/o=10\/o=11\/o=12\/o=13\/o=14:=by omega
 .exact Rk ch wf base af h ek ae
 .exact Rk ch wf base af h ek ae
 .exact ari ch base h ae
 .exact adH ch wf base af h ek ae
 .exact CQ ch wf base af h ek ae
 .exact aIz ch wf base af h ek ae Bf qk dv iG
 .exact ay2 ch wf base af h ek ae
 .exact CQ ch wf base af h ek ae
 .exact aCn ch wf base af h ek ae
 .exact bce ch wf base af h ek ae dv iG
 .exact aqR ch wf base af h ek ae dv iG
 .exact asi ch wf base af h ek ae
 .exact aps ch wf base af h ek ae
 .exact aDw ch wf base af h ek ae
end
def nH(l:List (ByteArray × V)):List (Value × V):=l.map fun p=>(.string p.1,p.2)
def amC(n):oO .string (.string n)=true:=by simp[oO]
def Vz(n):∀(l:List (ByteArray × V)) (i:Nat),pY .string (.string n) (nH l) i=some (match l.findIdx? fun p=>decide (n=p.1)with|some j=>some (i+j,(l.getD j (⟨#[]⟩,bR)).2)|none=>none):=by
 intro l
 induction l with
 |nil=>intro i;rfl
 |cons p l aw=>
   intro i;have e:nH (p::l)=(.string p.1,p.2)::nH l:=rfl;rw[e];simp only[pY,aEs,List.findIdx?_cons];by_cases h:n=p.1
   .simp[h]
   .simp only[tD h,aw,lk,gx];cases l.findIdx? fun p=>decide (n=p.1)with
    |none=>rfl
    |some j=>
      simp;omega
def A8(l:List (ByteArray × V))(n:ByteArray):Option V:=(l.find? fun p=>decide (n=p.1)).map (·.2)
def aum(n l):A8 l n=match l.findIdx? fun p=>decide (n=p.1)with|some j=>some (l.getD j (⟨#[]⟩,bR)).2|none=>none:=by
 unfold A8
 induction l with
 |nil=>rfl
 |cons p l aw=>
   rw[O2,List.findIdx?_cons];by_cases h:n=p.1
   .simp[h]
   .simp only[tD h,aw,lk,gx];cases l.findIdx? fun p=>decide (n=p.1)with
    |none=>rfl
    |some j=>simp
def pD{H base}(af:base<=H.length)(l n v)(aN:(l.all fun p=>decide (p.1≠n))=true):Ol (H++[.map (nH l)]) base .string (.mp H.length) (.s (.string n)) v=some (bR,H++[.map (nH (l++[(n,v)]))]):=by
 have bu:(H++[bq.map (nH l)])[H.length]?=some (.map (nH l)):=by simp
 have al:=Vz n l 0
 have RP:l.findIdx? (fun p=>decide (n=p.1))=none:=by
  rw[List.findIdx?_eq_none_iff];intro p aj;have:=dU.1 aN p aj
  simpa using fun e=>(EG this) e.symm
 rw[RP]at al;simp only[Ol,af,amC,Hf,fl,bu,al];simp[nH]
theorem aq9{H j l}(bu:H[j]?=some (.map (nH l)))(z ok n):
 BC H .string z ok (.mp j) (.s (.string n))=some (if ok then .bV [(A8 l n).getD z,aL (A8 l n).isSome]else(A8 l n).getD z):=by
 have al:=Vz n l 0;rw[aum];simp only[BC,bf,aX,jg,mo,amC,fl,bu,al];cases l.findIdx? fun p=>decide (n=p.1)with
 |none=>cases ok<;>rfl
 |some j=>cases ok<;>rfl
def PL(o:Nat):V:=.agg [.s (.int .u8 o),.fn (AN o) [] []]
def tH(l:List (List UInt8 × Nat)):List (ByteArray × V):=l.map fun p=>(kI p.1,PL p.2)
def apK(l n):A8 (tH l) ⟨n.toArray⟩=(tp l n).map PL:=by
 unfold A8 tp tH
 induction l with
 |nil=>rfl
 |cons p l aw=>
   rw[lL,O2,O2];by_cases h:p.1=n
   .subst h;simp[kI]
   .have J:¬(⟨n.toArray⟩:ByteArray)=kI p.1:=by
     intro e;unfold kI at e;have:=dX (fun b:ByteArray=>b.data.toList) e;exact h this.symm
    have U:(p.1==n)=false:=by rw[eZ];exact h
    simp only[tD J,U];exact aw
def av7{l}(ak:∀p∈l,1<=p.2/\p.2<=14){n o}(h:tp l n=some o):1<=o/\o<=14:=by
 unfold tp at h;rw[fo]at h;obtain⟨p,J,rfl⟩:=h;exact ak p (adW J)
section
variable {ah:Nat->Option c7}
def re:List (ByteArray × V):=[(⟨#[115,116,111,114,101]⟩,.agg [.s (.int .u8 9),.fn AM [] []]),(⟨#[99,97,108,108]⟩,.agg [.s (.int .u8 10),.fn xo [] []]),(⟨#[105,99,97,108,108]⟩,.agg [.s (.int .u8 11),.fn xc [] []]),(⟨#[98,114]⟩,.agg [.s (.int .u8 12),.fn Bb [] []]),(⟨#[103,111,116,111]⟩,.agg [.s (.int .u8 13),.fn BY [] []]),(⟨#[114,101,116]⟩,.agg [.s (.int .u8 14),.fn G7 [] []])]
theorem avs:re=tH k3:=by rfl
def ayL(aR:ah Q5=some (.code xe))(base){A}(af:base<=A.length):
 aU ah (.fn Q5 [] []) [] base A=some (.mp A.length,A++[.map (nH (tH k3))]):=by
 rw[<- avs];have ck:(bq.map []:bq)=.map (nH []):=rfl
 have gy:=pD af (re.take 0) ⟨#[115,116,111,114,101]⟩ (.agg [.s (.int .u8 9),.fn AM [] []]) (by decide)
 have u2:=pD af (re.take 1) ⟨#[99,97,108,108]⟩ (.agg [.s (.int .u8 10),.fn xo [] []]) (by decide)
 have u3:=pD af (re.take 2) ⟨#[105,99,97,108,108]⟩ (.agg [.s (.int .u8 11),.fn xc [] []]) (by decide)
 have sN:=pD af (re.take 3) ⟨#[98,114]⟩ (.agg [.s (.int .u8 12),.fn Bb [] []]) (by decide)
 have fB:=pD af (re.take 4) ⟨#[103,111,116,111]⟩ (.agg [.s (.int .u8 13),.fn BY [] []]) (by decide)
 have BT:=pD af (re.take 5) ⟨#[114,101,116]⟩ (.agg [.s (.int .u8 14),.fn G7 [] []]) (by decide)
 simp only[re,gq,km]at gy;simp only[re,fI,gq,h5,km]at u2;simp only[re,fI,gq,h5,km]at u3;simp only[re,fI,gq,h5,km]at sN;simp only[re,fI,gq,h5,km]at fB;simp only[re,fI,gq,h5,km]at BT;have Fh:∀k,(V.fn k [] []).cells=[V.fn k [] []]:=fun _=>rfl;have RC:∀k,[V.fn k [] []].all V.one=true:=fun _=>rfl;have fi:∀(x y:V),List.drop 2 [x,y]=[]:=fun _ _=>rfl
 refine ih (c:=xe) aR (by simp[xe]) ?_
 simp only[re,simprocAttr,xe,atA,aM,ck,Fh,RC,fi,gy,u2,u3,sN,fB,BT]
def lT:List (ByteArray × V):=[(⟨#[97,108,108,111,99,97]⟩,.agg [.s (.int .u8 1),.fn xF [] []]),(⟨#[109,97,108,108,111,99]⟩,.agg [.s (.int .u8 2),.fn xF [] []]),(⟨#[110,117,108,108]⟩,.agg [.s (.int .u8 3),.fn FH [] []]),(⟨#[97,100,100,114]⟩,.agg [.s (.int .u8 4),.fn AH [] []]),(⟨#[99,111,112,121]⟩,.agg [.s (.int .u8 5),.fn x6 [] []]),(⟨#[108,111,97,100]⟩,.agg [.s (.int .u8 8),.fn x6 [] []]),(⟨#[102,105,101,108,100]⟩,.agg [.s (.int .u8 7),.fn Cp [] []]),(⟨#[112,104,105]⟩,.agg [.s (.int .u8 6),.fn Bd [] []]),(⟨#[99,97,108,108]⟩,.agg [.s (.int .u8 10),.fn xo [] []]),(⟨#[105,99,97,108,108]⟩,.agg [.s (.int .u8 11),.fn xc [] []])]
theorem aCH:lT=tH k8:=by rfl
def arb(aR:ah R'=some (.code x2))(base){A}(af:base<=A.length):
 aU ah (.fn R' [] []) [] base A=some (.mp A.length,A++[.map (nH (tH k8))]):=by
 rw[<- aCH];have ck:(bq.map []:bq)=.map (nH []):=rfl
 have gy:=pD af (lT.take 0) ⟨#[97,108,108,111,99,97]⟩ (.agg [.s (.int .u8 1),.fn xF [] []]) (by decide)
 have u2:=pD af (lT.take 1) ⟨#[109,97,108,108,111,99]⟩ (.agg [.s (.int .u8 2),.fn xF [] []]) (by decide)
 have u3:=pD af (lT.take 2) ⟨#[110,117,108,108]⟩ (.agg [.s (.int .u8 3),.fn FH [] []]) (by decide)
 have sN:=pD af (lT.take 3) ⟨#[97,100,100,114]⟩ (.agg [.s (.int .u8 4),.fn AH [] []]) (by decide)
 have fB:=pD af (lT.take 4) ⟨#[99,111,112,121]⟩ (.agg [.s (.int .u8 5),.fn x6 [] []]) (by decide)
 have BT:=pD af (lT.take 5) ⟨#[108,111,97,100]⟩ (.agg [.s (.int .u8 8),.fn x6 [] []]) (by decide)
 have Z4:=pD af (lT.take 6) ⟨#[102,105,101,108,100]⟩ (.agg [.s (.int .u8 7),.fn Cp [] []]) (by decide)
 have u8:=pD af (lT.take 7) ⟨#[112,104,105]⟩ (.agg [.s (.int .u8 6),.fn Bd [] []]) (by decide)
 have gI:=pD af (lT.take 8) ⟨#[99,97,108,108]⟩ (.agg [.s (.int .u8 10),.fn xo [] []]) (by decide)
 have hM:=pD af (lT.take 9) ⟨#[105,99,97,108,108]⟩ (.agg [.s (.int .u8 11),.fn xc [] []]) (by decide)
 simp only[lT,gq,km]at gy;simp only[lT,fI,gq,h5,km]at u2;simp only[lT,fI,gq,h5,km]at u3;simp only[lT,fI,gq,h5,km]at sN;simp only[lT,fI,gq,h5,km]at fB;simp only[lT,fI,gq,h5,km]at BT;simp only[lT,fI,gq,h5,km]at Z4;simp only[lT,fI,gq,h5,km]at u8;simp only[lT,fI,gq,h5,km]at gI;simp only[lT,fI,gq,h5,km]at hM;have Fh:∀k,(V.fn k [] []).cells=[V.fn k [] []]:=fun _=>rfl;have RC:∀k,[V.fn k [] []].all V.one=true:=fun _=>rfl;have fi:∀(x y:V),List.drop 2 [x,y]=[]:=fun _ _=>rfl
 refine ih (c:=x2) aR (by simp[x2]) ?_
 simp only[lT,simprocAttr,x2,aFL,aM,ck,Fh,RC,fi,gy,u2,u3,sN,fB,BT,Z4,u8,gI,hM]
end
def aA.HA{L ρ aH A B}(h:aA L [ρ,aH] A B)(ek:L<=aH):aA L [ρ] A B:=⟨h.1,fun id J U=>h.2 id J (by simp at U |-;omega)⟩
structure Hb (ah:Nat->Option c7):Prop where
 O:pc ah
 aIa:ah Q5=some (.code xe)
 aHL:ah R'=some (.code x2)
 instr:ah Ah=some (.code pU)
abbrev alW:cM:=(.seq (.region F8 [] [4,9,29,30,31,32,33,34,35,36])
 (.seq (.seq (.bc DK [37,38,39,40,41,42] [43])
 (.cond (.t 43)
 (.region DY [] [43,44,45,46,47,48,49,50])
 .skip))
 (.seq (.seq (.region BQ [] [6,43,51,52,53,54,55,56,57])
 (.cond (.t 58)
 (.region Le [] [58,59,60])
 .skip))
 (.seq (.region JJ [] [58,61,62,63,64,65,66,67])
 (.seq (.region LJ [] [68,69,70])
 (.seq (.region K6 [] [0,5,71,72,73,74])
 (.seq (.region IM [] [3,75])
 .ret)))))))
abbrev gb:List V:=[.s (.int .u8 0),.s (.string ⟨#[]⟩),.s (.string ⟨#[]⟩),.s (.string ⟨#[]⟩),.s (.int .i64 0),.s (.string ⟨#[]⟩),bz,bz]
def xR(m:Nat)(H:az)(r:List V)(x:gf):Prop:=∃cd lw,r=dL x cd lw/\cp m 1 H cd (fX x.xs)/\cp m 1 H lw (fX x.ls)
section
variable {ah:Nat->Option c7} {ρ:Nat} {bB:V} {ts:List Tok.T} {a:Nat}
set_option maxHeartbeats 1000000 in
def acb(lp:Hb ah)(wf:jb ts)(base:Nat)(af:base<=ρ){C}{b:Nat}(h:cJ ρ bB ts C b){L aP aH m μ:Nat}(dw:ρ<L)(U:L<=aP)(Ve:aP<aH){d}(ae:fw aH m C { iC with d:=d } bz bz)(g2:ao C aP 0=some gb){l}(ak:∀p∈l,1<=p.2/\p.2<=14)(gd:C[μ]?=some (.map (nH (tH l))))(awR:d.data.toList=[]->b+1<ts.length){N:Nat}(dv:ts.length<N)(iG:N<2^21){dM:Env}(kP:dM=[(0,.ref ρ 0 0),(2,.ref aP 0 0),(3,.ref aH 0 0),(4,.mp μ)]\/dM=[(0,.ref ρ 0 0),(2,.ref aP 0 0),(3,.ref aH 0 0),(4,.mp μ),(9,aL false)]):
 match wY (aJ.of ts) N d l b with
  |.ok (y,c)=>c<ts.length/\∃r bh,aC (aU ah) aG base alW (au 76 dM) C=some (.ret,au 76 [(2,.ref aP 0 0)],bh)/\aA L [ρ] C bh/\ao bh ρ 0=some [bB,bg c]/\ao bh aP 0=some r/\r.length=8/\xR m bh r y
  |.error e=>e<ts.length/\∃bh,fP (aU ah) (nn ah) aG base (fun _ _=>True) alW (au 76 dM) C (p9,.agg (cP (ts.getD e cU)),bh)/\aA L [ρ] C bh:=by
 have ch:=lp.O;have awc:aH<C.length:=hL ae.2.2.1
 have tw:base<=C.length:=by omega
 have hp:base<=aH:=by omega
 have fM:base<=aP:=by omega
 have k4:L<=C.length:=by omega
 obtain⟨t,aO⟩:∃t,ts.getD b cU=t:=⟨_,rfl⟩
 have sT:(aJ.of ts).text b=t.text:=by rw[<- aO];rfl
 have mP:(aJ.of ts).kind b=t.kind:=by rw[<- aO];rfl
 obtain⟨bF,cw,bN⟩:=pW ch.R.now base tw h;rw[aO]at cw;have aqz:=bN.le
 have ame:base<=bF.length:=by omega
 have Mg:bF[μ]?=some (.map (nH (tH l))):=by rw[bN.get (cC.1 gd).1];exact gd
 have tc:=aq9 Mg (.agg [.s (.int .u8 0),.s .nilFunc]) true ⟨t.text.toArray⟩;rw[apK,a' rfl]at tc;unfold wY;rw[sT,mP];have jV:∀c,ao (bF++[bq.cells 0 c]) bF.length 0=some c:=fun c=>dz bF 0 c;have k5:∀c e,(bF++[c]).set bF.length e=bF++[e]:=fun c e=>ln bF c e;have fE:=h.g;have aN:=h.n;have bt:=h.lt;cases tS:tp l t.text with
 |none=>
   rw[tS]at tc;obtain⟨cb,h'⟩:∃X,bF++[bq.cells 0 [V.s (.int .u8 0),.s .nilFunc]]=X:=⟨_,rfl⟩;have aK:Ext C cb:=bN.trans (h'▸Ext.app _ _)
   have ff:=ae.bT (ρ:=ρ) (by omega) (aA.gn aK)
   have p2:=ff.2.2.1
   have xY:aC (aU ah) aG base (.region F8 [] [4,9,29,30,31,32,33,34,35,36]) (au 76 dM) C=some (.bH,au 76 [(0,.ref ρ 0 0),(2,.ref aP 0 0),(3,.ref aH 0 0),(5,.ref bF.length 0 0),(6,aL false)],cb):=by
    simp only[cP,AX,Option.getD_none,Option.isSome_none,aL]at cw tc;have L6:ao cb bF.length 0=some [V.s (.int .u8 0),.s .nilFunc]:=h'▸dz bF 0 _
    have jX:cb.set bF.length (bq.cells 0 [V.s (.int .u8 0),.s .nilFunc])=cb:=by rw[<- h',ln]
    have auC:(V.s Value.nilFunc).one=true:=rfl
    rcases kP with rfl|rfl<;>simp only[aL,simprocAttr,jE,aM,cw,tc,ame,h',L6,auC,jX]
   dsimp only;by_cases aQ:d.data.toList=[]
   .rw[a' aQ];have ds:=awR aQ;have yj:=(h.ext aK).g;obtain⟨eN,iq⟩:∃X,cb.set ρ (.cells 0 [bB,bg (b+1:Nat)])=X:=⟨_,rfl⟩
    have aV:IntKind.i64.wrap ((b:Int)+1)=((b+1:Nat):Int):=yr (by omega)
    have g3:ao eN ρ 0=some [bB,bg (b+1:Nat)]:=iq▸e4 yj _;have i':aA C.length [ρ] C eN:=iq▸aA.zP (aA.gn aK) _;have ax:=h.bT i' g3 ds
    have PT:(d.data.toList==[])=true:=by rw[aQ];rfl
    have vj:aC (aU ah) aG base (.seq (.bc DK [37,38,39,40,41,42] [43]) (.cond (.t 43) (.region DY [] [43,44,45,46,47,48,49,50]) .skip)) (au 76 [(0,.ref ρ 0 0),(2,.ref aP 0 0),(3,.ref aH 0 0),(5,.ref bF.length 0 0),(6,aL false)]) cb=some (.bH,au 76 [(0,.ref ρ 0 0),(2,.ref aP 0 0),(3,.ref aH 0 0),(5,.ref bF.length 0 0),(6,aL false)],eN):=by
     simp only[dL,bg,a7]at p2 yj iq;simp only[aL,simprocAttr,jE,aM,p2,PT,yj,aV,af,iq]
    have rl:aC (aU ah) aG base (.region BQ [] [6,43,51,52,53,54,55,56,57]) (au 76 [(0,.ref ρ 0 0),(2,.ref aP 0 0),(3,.ref aH 0 0),(5,.ref bF.length 0 0),(6,aL false)]) eN=some (.bH,au 76 [(0,.ref ρ 0 0),(2,.ref aP 0 0),(3,.ref aH 0 0),(5,.ref bF.length 0 0),(58,aL true)],eN):=by
     simp only[aL,simprocAttr,jE,aM]
    obtain⟨kq,f1,f2⟩:=v7 ch.R.now base (H:=eN) (by have:=i'.1;omega) ax
    refine⟨ds,kq,dG xY (dG vj (kb (dG rl (sw rfl (jm (it':=aG) (pre:=IP) (post:=[]) (.bV []) rfl rfl f1 ?_))))),aA.app (aA.low i' k4) (aA.low (aA.gn f2) (by have:=i'.1;omega))⟩
    simp only[aL,simprocAttr,jE,aM,gQ]
   .rw[bm aQ]
    have PT:(d.data.toList==[])=false:=by rw[eZ];exact aQ
    have ax:=h.ext aK
    have vj:aC (aU ah) aG base (.seq (.bc DK [37,38,39,40,41,42] [43]) (.cond (.t 43) (.region DY [] [43,44,45,46,47,48,49,50]) .skip)) (au 76 [(0,.ref ρ 0 0),(2,.ref aP 0 0),(3,.ref aH 0 0),(5,.ref bF.length 0 0),(6,aL false)]) cb=some (.bH,au 76 [(0,.ref ρ 0 0),(2,.ref aP 0 0),(3,.ref aH 0 0),(5,.ref bF.length 0 0),(6,aL false),(43,aL false)],cb):=by
     simp only[dL,a7]at p2;simp only[aL,simprocAttr,jE,aM,p2,PT]
    have rl:aC (aU ah) aG base (.region BQ [] [6,43,51,52,53,54,55,56,57]) (au 76 [(0,.ref ρ 0 0),(2,.ref aP 0 0),(3,.ref aH 0 0),(5,.ref bF.length 0 0),(6,aL false),(43,aL false)]) cb=some (.bH,au 76 [(0,.ref ρ 0 0),(2,.ref aP 0 0),(3,.ref aH 0 0),(5,.ref bF.length 0 0),(58,aL true)],cb):=by
     simp only[aL,simprocAttr,jE,aM]
    obtain⟨kq,f1,f2⟩:=v7 ch.R.now base (H:=cb) (by have:=aK.le;omega) ax
    refine⟨h.lt,kq,dG xY (dG vj (kb (dG rl (sw rfl (jm (it':=aG) (pre:=IP) (post:=[]) (.bV []) rfl rfl f1 ?_))))),aA.low (aA.gn (aK.trans f2)) k4⟩;simp only[aL,simprocAttr,jE,aM,gQ]
 |some o=>
   obtain⟨fK,az5⟩:=av7 ak tS;rw[tS]at tc;obtain⟨cb,h'⟩:∃X,bF++[bq.cells 0 [V.s (.int .u8 o),.fn (AN o) [] []]]=X:=⟨_,rfl⟩;have aK:Ext C cb:=bN.trans (h'▸Ext.app _ _)
   have ff:=ae.bT (ρ:=ρ) (by omega) (aA.gn aK)
   have p2:=ff.2.2.1;have L6:ao cb bF.length 0=some [V.s (.int .u8 o),.fn (AN o) [] []]:=h'▸dz bF 0 _
   have xY:aC (aU ah) aG base (.region F8 [] [4,9,29,30,31,32,33,34,35,36]) (au 76 dM) C=some (.bH,au 76 [(0,.ref ρ 0 0),(2,.ref aP 0 0),(3,.ref aH 0 0),(5,.ref bF.length 0 0),(6,aL true)],cb):=by
    simp only[cP,mD,Hu,anJ,aL,PL]at cw tc
    rcases kP with rfl|rfl<;>simp only[aL,simprocAttr,jE,aM,cw,tc,jV,k5,ame,h']
   have vj:aC (aU ah) aG base (.seq (.bc DK [37,38,39,40,41,42] [43]) (.cond (.t 43) (.region DY [] [43,44,45,46,47,48,49,50]) .skip)) (au 76 [(0,.ref ρ 0 0),(2,.ref aP 0 0),(3,.ref aH 0 0),(5,.ref bF.length 0 0),(6,aL true)]) cb=some (.bH,au 76 [(0,.ref ρ 0 0),(2,.ref aP 0 0),(3,.ref aH 0 0),(5,.ref bF.length 0 0),(6,aL true),(43,aL false)],cb):=by
    simp only[dL,a7]at p2;simp only[aL,simprocAttr,jE,aM,p2]
   have ax:=h.ext aK
   obtain⟨eN,m1,m2⟩:=pW ch.R.now base (H:=cb) (by have:=aK.le;omega) ax
   rw[aO]at m1;simp only[cP]at m1;have dS:=aK.trans m2;dsimp only;by_cases an:t.kind=1
   .rw[a' an]
    have k1:(((t.kind:Nat):Int) != 1)=false:=by rw[an];rfl
    have rl:aC (aU ah) aG base (.seq (.region BQ [] [6,43,51,52,53,54,55,56,57]) (.cond (.t 58) (.region Le [] [58,59,60]) .skip)) (au 76 [(0,.ref ρ 0 0),(2,.ref aP 0 0),(3,.ref aH 0 0),(5,.ref bF.length 0 0),(6,aL true),(43,aL false)]) cb=some (.bH,au 76 [(0,.ref ρ 0 0),(2,.ref aP 0 0),(3,.ref aH 0 0),(5,.ref bF.length 0 0),(58,aL false)],eN):=by
     simp only[aL,simprocAttr,jE,aM,m1,k1]
    have ds:b+1<ts.length:=wf.qw b h.lt (by rw[aO,an];decide)
    have y9:=(h.ext dS).g;obtain⟨kq,HW⟩:∃X,eN.set ρ (.cells 0 [bB,bg (b+1:Nat)])=X:=⟨_,rfl⟩
    have aV:IntKind.i64.wrap ((b:Int)+1)=((b+1:Nat):Int):=yr (by omega)
    have g4:ao kq ρ 0=some [bB,bg (b+1:Nat)]:=HW▸e4 y9 _;have uw:aA C.length [ρ] C kq:=HW▸aA.zP (aA.gn dS) _;have aA0:aA cb.length [ρ] cb kq:=HW▸aA.zP (aA.gn m2) _;have aY:=h.bT uw g4 ds
    have qC:=ae.bT (ρ:=ρ) (by omega) uw
    have BR:=qC.2.2.1
    have R1:ao kq bF.length 0=some [V.s (.int .u8 o),.fn (AN o) [] []]:=aA0.ao L6 (hL L6) (by rw[fj];have:=h.pos;omega)
    have F6:aC (aU ah) aG base (.region JJ [] [58,61,62,63,64,65,66,67]) (au 76 [(0,.ref ρ 0 0),(2,.ref aP 0 0),(3,.ref aH 0 0),(5,.ref bF.length 0 0),(58,aL false)]) eN=some (.bH,au 76 [(0,.ref ρ 0 0),(2,.ref aP 0 0),(3,.ref aH 0 0),(5,.ref bF.length 0 0)],kq):=by
     simp only[bg]at y9 HW;simp only[aL,simprocAttr,jE,aM,y9,aV,af,HW]
    have x9:=qC.set (y:={ iC with op:=o,d:=d }) rfl rfl;obtain⟨p3,DS⟩:∃X,kq.set aH (.cells 0 (dL { iC with op:=o,d:=d } bz bz))=X:=⟨_,rfl⟩;rw[DS]at x9
    have El:aC (aU ah) aG base (.region LJ [] [68,69,70]) (au 76 [(0,.ref ρ 0 0),(2,.ref aP 0 0),(3,.ref aH 0 0),(5,.ref bF.length 0 0)]) kq=some (.bH,au 76 [(0,.ref ρ 0 0),(2,.ref aP 0 0),(3,.ref aH 0 0),(5,.ref bF.length 0 0)],p3):=by
     simp only[dL,a7]at BR DS;simp only[jE,simprocAttr,aM,R1,BR,hp,DS]
    have ND:ao p3 bF.length 0=some [V.s (.int .u8 o),.fn (AN o) [] []]:=by
     unfold ao at R1 |-
     rw[<- DS,cf (by omega)]
     exact R1
    have sA:aA C.length [ρ,aH] C p3:=DS▸aA.ta (aA.two uw) _
    have g5:ao p3 ρ 0=some [bB,bg (b+1:Nat)]:=by
     unfold ao at g4 |-
     rw[<- DS,cf (by omega)]
     exact g4
    have cl:=h.AW (by omega) sA g5 ds
    have q:=asw ch wf base af cl (aH:=aH) (by omega) x9 rfl rfl dv iG o fK az5
    have Wq:aA L [ρ] C p3:=aA.HA (aA.low sA k4) (by omega)
    unfold eE at q;cases cE:Ao (aJ.of ts) N o { iC with op:=o,d:=d } (b+1)with
    |error e=>
      rw[cE]at q;obtain⟨bp,wN,n4,bj⟩:=q
      refine⟨bp,wN,dG xY (dG vj (dG rl (dG F6 (dG El (kb (jm (it':=aG) (pre:=PK) (post:=[]) (cg:=au 76 [(0,.ref ρ 0 0),(2,.ref aP 0 0),(3,.ref aH 0 0),(5,.ref bF.length 0 0),(71,.ref bF.length 0 1),(72,.fn (AN o) [] []),(73,.ref ρ 0 0)]) (H1:=p3) (.bV []) rfl ?_ n4 ?_)))))),aA.app Wq (aA.HA (aA.low bj (by have:=sA.1;omega)) (by omega))⟩
      .simp only[PK,simprocAttr,aM,ND]
       try rfl
      .simp only[jE,simprocAttr,aM,ND,gQ]
    |ok p=>
      obtain⟨y,c⟩:=p;rw[cE]at q;obtain⟨bp,_,wN,n4,bj,c4,rfl,cd,lw,xn⟩:=q;have aHv:=xn.2.2.1
      have J5:aC (aU ah) aG base (.region K6 [] [0,5,71,72,73,74]) (au 76 [(0,.ref ρ 0 0),(2,.ref aP 0 0),(3,.ref aH 0 0),(5,.ref bF.length 0 0)]) p3=some (.bH,au 76 [(2,.ref aP 0 0),(3,.ref aH 0 0)],wN):=by
       simp only[jE,simprocAttr,aM,ND,n4]
      have B3:ao wN aP 0=some gb:=by
       have Jl:ao p3 aP 0=some gb:=sA.ao g2 (by omega) (by simp;have:=h.pos;omega)
       exact bj.ao Jl (hL Jl) (by simp;have:=h.pos;omega)
      have nx:cd.one=true:=xn.2.2.2.1.rd.one;have DB:lw.one=true:=xn.2.2.2.2.1.rd.one
      have aiJ:gl wN true 8 (.ref aH 0 0)=some (.agg (dL y cd lw)):=by rw[lW,aHv];rfl
      obtain⟨V3,yY⟩:∃X,wN.set aP (.cells 0 (dL y cd lw))=X:=⟨_,rfl⟩
      have aoQ:aC (aU ah) aG base (.seq (.region IM [] [3,75]) .ret) (au 76 [(2,.ref aP 0 0),(3,.ref aH 0 0)]) wN=some (.ret,au 76 [(2,.ref aP 0 0)],V3):=by
       simp only[dL,a7]at aiJ yY;simp only[jE,simprocAttr,aM,aiJ,B3,fM,nx,DB,k7,yY]
      refine⟨bp,dL y cd lw,V3,?_,?_,?_,yY▸e4 B3 _,rfl,cd,lw,rfl,?_,?_⟩
      .exact(eh xY).trans ((eh vj).trans ((eh rl).trans ((eh F6).trans ((eh El).trans ((eh J5).trans aoQ)))))
      .have Wh:aA L [ρ] C wN:=aA.app Wq (aA.HA (aA.low bj (by have:=sA.1;omega)) (by omega))
       refine⟨by rw[<- yY,eF];exact Wh.1,fun id i1 i2=>?_⟩
       rw[<- yY,cf (by omega)]
       exact Wh.2 id i1 i2
      .unfold ao at c4 |-
       rw[<- yY,cf (by omega)]
       exact c4
      .refine xn.2.2.2.1.bT fun id g n e=>?_;have hh:=xn.2.2.2.1;rw[e]at hh;have:=fS hh;have:=xn.1
       rw[<- yY,cf (by omega)]
      .refine xn.2.2.2.2.1.bT fun id g n e=>?_;have hh:=xn.2.2.2.2.1;rw[e]at hh;have:=fS hh;have:=xn.1
       rw[<- yY,cf (by omega)]
   .rw[bm an]
    have k1:(((t.kind:Nat):Int) != 1)=true:=by rw[hU];omega
    have rl:aC (aU ah) aG base (.region BQ [] [6,43,51,52,53,54,55,56,57]) (au 76 [(0,.ref ρ 0 0),(2,.ref aP 0 0),(3,.ref aH 0 0),(5,.ref bF.length 0 0),(6,aL true),(43,aL false)]) cb=some (.bH,au 76 [(0,.ref ρ 0 0),(2,.ref aP 0 0),(3,.ref aH 0 0),(5,.ref bF.length 0 0),(58,aL true)],eN):=by
     simp only[aL,simprocAttr,jE,aM,m1,k1]
    obtain⟨kq,f1,f2⟩:=v7 ch.R.now base (H:=eN) (by have:=dS.le;omega) (h.ext dS)
    refine⟨h.lt,kq,dG xY (dG vj (kb (dG rl (sw rfl (jm (it':=aG) (pre:=IP) (post:=[]) (.bV []) rfl rfl f1 ?_))))),aA.low (aA.gn (dS.trans f2)) k4⟩;simp only[aL,simprocAttr,jE,aM,gQ]
end
def xR.low{m k H r x}(h:xR m H r x)(an:k<=m):xR k H r x:=by
 obtain⟨cd,lw,J,U,ax⟩:=h;exact⟨cd,lw,J,cp.low U an,cp.low ax an⟩
def aDP:∀p∈k3,1<=p.2/\p.2<=14:=by decide
def aIJ:∀p∈k8,1<=p.2/\p.2<=14:=by decide
abbrev KU:cM:=(.seq (.region J9 [] [4,9,10,11,12,13])
 (.seq (.region JZ [] [14,15,16,17,18,19,20])
 (.seq (.region KM [] [21,22])
 (.seq (.seq (.region HS [] [23,24])
 (.cond (.t 25)
 (.region J2 [] [25,26,27])
 .skip))
 (.region Pm [] [25,28])))))
section
variable {ah:Nat->Option c7} {ρ:Nat} {bB:V} {ts:List Tok.T} {a:Nat}
def auF(lp:Hb ah)(wf:jb ts)(base:Nat)(af:base<=ρ){C}(h:cJ ρ bB ts C a){L aP aH μ:Nat}(dw:ρ<L)(U:L<=aP)(Ve:aP<aH)(iv:ao C aH 0=some gb)(g2:ao C aP 0=some gb)(aq:nA (aJ.of ts) [61] a=true):
 if(aJ.of ts).same (a+2)=true then a+2<ts.length/\∃bh KI,aC (aU ah) aG base KU (au 76 [(0,.ref ρ 0 0),(2,.ref aP 0 0),(3,.ref aH 0 0),(4,.mp μ),(9,aL true)]) C=some (.bH,au 76 [(0,.ref ρ 0 0),(2,.ref aP 0 0),(3,.ref aH 0 0),(4,.mp KI)],bh)/\aA C.length [ρ,aH] C bh/\ao bh ρ 0=some [bB,bg (a+2:Nat)]/\ao bh aH 0=some (dL { iC with d:=kI ((aJ.of ts).text a) } bz bz)/\bh[KI]?=some (.map (nH (tH k8)))
 else a+2<ts.length/\∃bh,fP (aU ah) (nn ah) aG base (fun _ _=>True) KU (au 76 [(0,.ref ρ 0 0),(2,.ref aP 0 0),(3,.ref aH 0 0),(4,.mp μ),(9,aL true)]) C (p9,.agg (cP (ts.getD (a+2) cU)),bh)/\aA C.length [ρ,aH] C bh:=by
 have ch:=lp.O;have PV:(⟨#[61]⟩:ByteArray).data.toList=[61]:=rfl;unfold nA at aq;rw[dr,dr,dr,cG,cG,cG]at aq;obtain⟨k1,⟨k2,dx⟩,hs⟩:=aq;have iV:=h.pos;have awc:aH<C.length:=hL iv
 have tw:base<=C.length:=by omega
 have hp:base<=aH:=by omega
 have aN:=h.n
 have eJ:a+1<ts.length:=wf.qw a h.lt (by rw[show(ts.getD a cU).kind=1 from k1];decide)
 have xG:a+2<ts.length:=wf.qw (a+1) eJ (by rw[show(ts.getD (a+1) cU).kind=3 from k2];decide)
 obtain⟨t,aO⟩:∃t,ts.getD a cU=t:=⟨_,rfl⟩
 have sT:(aJ.of ts).text a=t.text:=by rw[<- aO];rfl
 obtain⟨bF,cw,bN⟩:=pW ch.R.now base tw h;rw[aO]at cw;have qW:=df iv bN;obtain⟨cb,h'⟩:∃X,bF.set aH (.cells 0 (dL { iC with d:=kI t.text } bz bz))=X:=⟨_,rfl⟩;have p2:ao cb aH 0=some (dL { iC with d:=kI t.text } bz bz):=h'▸e4 qW _
 have eC:aC (aU ah) aG base (.region J9 [] [4,9,10,11,12,13]) (au 76 [(0,.ref ρ 0 0),(2,.ref aP 0 0),(3,.ref aH 0 0),(4,.mp μ),(9,aL true)]) C=some (.bH,au 76 [(0,.ref ρ 0 0),(2,.ref aP 0 0),(3,.ref aH 0 0)],cb):=by
  simp only[cP,dL,iC,kI,a7]at cw h';simp only[gb]at qW;simp only[aL,simprocAttr,jE,aM,cw,qW,hp,h']
 have pX:aA C.length [ρ,aH] C cb:=h'▸aA.ta (aA.two (aA.gn bN)) _
 have yj:ao cb ρ 0=some [bB,bg a]:=by
  have:=(h.ext bN).g;unfold ao at this |-
  rw[<- h',cf (by omega)]
  exact this
 obtain⟨eN,iq⟩:∃X,cb.set ρ (.cells 0 [bB,bg (a+1:Nat)])=X:=⟨_,rfl⟩
 have aV:IntKind.i64.wrap ((a:Int)+1)=((a+1:Nat):Int):=yr (by omega)
 have g3:ao eN ρ 0=some [bB,bg (a+1:Nat)]:=iq▸e4 yj _
 have rm:ao eN aH 0=some (dL { iC with d:=kI t.text } bz bz):=by
  unfold ao at p2 |-
  rw[<- iq,cf (by omega)]
  exact p2
 have i':aA C.length [ρ,aH] C eN:=⟨by rw[<- iq,eF];exact pX.1,fun id i1 i2=>by
  rw[<- iq,cf (by simp at i2;omega)]
  exact pX.2 id i1 i2⟩
 have iR:aC (aU ah) aG base (.region JZ [] [14,15,16,17,18,19,20]) (au 76 [(0,.ref ρ 0 0),(2,.ref aP 0 0),(3,.ref aH 0 0)]) cb=some (.bH,au 76 [(0,.ref ρ 0 0),(2,.ref aP 0 0),(3,.ref aH 0 0)],eN):=by
  simp only[bg]at yj iq;simp only[jE,simprocAttr,aM,yj,aV,af,iq]
 have ax:=h.AW (by omega) i' g3 eJ
 have nP:ul (aJ.of ts) [61] (a+1)=.ok ((),a+2):=by
  unfold ul lP
  rw[a' (by rw[hs,k2,dx];decide)]
 have q:=vv ch.R wf base af ax ⟨#[61]⟩;rw[PV,nP]at q;obtain⟨_,_,kq,cq,cN,et,rfl⟩:=q;simp only[a7]at cq
 have lE:aC (aU ah) aG base (.region KM [] [21,22]) (au 76 [(0,.ref ρ 0 0),(2,.ref aP 0 0),(3,.ref aH 0 0)]) eN=some (.bH,au 76 [(0,.ref ρ 0 0),(2,.ref aP 0 0),(3,.ref aH 0 0)],kq):=by
  simp only[jE,simprocAttr,aM,cq]
 have aY:=ax.bT cN et xG;have uw:aA C.length [ρ,aH] C kq:=aA.mi i' (aA.two cN)
 have BR:ao kq aH 0=some (dL { iC with d:=kI t.text } bz bz):=cN.ao rm (hL rm) (by rw[fj];omega)
 obtain⟨p3,s1,s2⟩:=D4 ch.R.now ch.R.same base aY;have cl:=aY.ext s2;have sA:aA C.length [ρ,aH] C p3:=aA.mi uw (aA.two (aA.gn s2));have aA1:=df BR s2;simp only[aL]at s1;by_cases yD:(aJ.of ts).same (a+2)=true
 .rw[a' yD];rw[yD]at s1
  have r':aC (aU ah) aG base (.seq (.region HS [] [23,24]) (.cond (.t 25) (.region J2 [] [25,26,27]) .skip)) (au 76 [(0,.ref ρ 0 0),(2,.ref aP 0 0),(3,.ref aH 0 0)]) kq=some (.bH,au 76 [(0,.ref ρ 0 0),(2,.ref aP 0 0),(3,.ref aH 0 0),(25,aL false)],p3):=by
   simp only[aL,simprocAttr,jE,aM,s1]
  have aCD:=arb lp.aHL base (A:=p3) (by have:=sA.1;omega)
  refine⟨xG,p3++[.map (nH (tH k8))],p3.length,(eh eC).trans ((eh iR).trans ((eh lE).trans ((eh r').trans ?_))),aA.mi sA (aA.two (aA.gn (Ext.app _ _))),(cl.ext (Ext.app _ _)).g,?_,by simp⟩
  .simp only[aL,simprocAttr,jE,aM,aCD]
  .rw[sT];exact df aA1 (Ext.app _ _)
 .rw[bm yD];rw[nz]at yD;rw[yD]at s1
  have r':aC (aU ah) aG base (.region HS [] [23,24]) (au 76 [(0,.ref ρ 0 0),(2,.ref aP 0 0),(3,.ref aH 0 0)]) kq=some (.bH,au 76 [(0,.ref ρ 0 0),(2,.ref aP 0 0),(3,.ref aH 0 0),(25,aL true)],p3):=by
   simp only[aL,simprocAttr,jE,aM,s1]
  obtain⟨wN,f1,f2⟩:=v7 ch.R.now base (H:=p3) (by have:=sA.1;omega) cl
  refine⟨xG,wN,dG eC (dG iR (dG lE (kb (dG r' (sw rfl (jm (it':=aG) (pre:=Yo) (post:=[]) (.bV []) rfl rfl f1 ?_)))))),aA.mi sA (aA.two (aA.gn f2))⟩;simp only[aL,simprocAttr,jE,aM,gQ]
def azT(lp:Hb ah)(wf:jb ts)(base:Nat)(af:base<=ρ){H}(h:cJ ρ bB ts H a)(pE:(aJ.of ts).kind a=1){N:Nat}(dv:ts.length<N)(iG:N<2^21):eE ah base Ah [.ref ρ 0 0] ρ bB ts [ρ] H (va (aJ.of ts) N a) (fun y v H'=>∃r,v=.agg r/\r.length=8/\xR H.length H' r y):=by
 have ch:=lp.O;have PV:(⟨#[61]⟩:ByteArray).data.toList=[61]:=rfl;have iV:=h.pos
 have eJ:a+1<ts.length:=wf.qw a h.lt (by rw[show(ts.getD a cU).kind=1 from pE];decide)
 obtain⟨rH,rp⟩:∃X,H++[bq.cells 0 gb]=X:=⟨_,rfl⟩
 have ij:rH.length=H.length+1:=by rw[<- rp,kw]
 obtain⟨qD,E0⟩:∃X,rH++[bq.cells 0 gb]=X:=⟨_,rfl⟩
 have en:qD.length=H.length+2:=by rw[<- E0,kw,ij]
 have ck:Ext H rH:=rp▸Ext.app _ _;have aF:Ext rH qD:=E0▸Ext.app _ _;have g20:ao rH H.length 0=some gb:=rp▸dz H 0 _
 have qW:ao qD (H.length+1) 0=some gb:=by rw[<- ij,<- E0];exact dz rH 0 _
 have ug:=ayL lp.aIa base (A:=qD) (by omega)
 obtain⟨kT,Kz⟩:∃X,qD++[bq.map (nH (tH k3))]=X:=⟨_,rfl⟩;rw[Kz]at ug
 have e8:kT.length=H.length+3:=by rw[<- Kz,kw,en]
 have aK:Ext qD kT:=Kz▸Ext.app _ _;have ov:Ext H kT:=ck.trans (aF.trans aK)
 have hq:aC (aU ah) aG base (.region R5 [] EX) (au pU.ntmps (mJ ([]++[.ref ρ 0 0]++[]) 0)) H=some (.bH,au 76 [(0,.ref ρ 0 0),(2,.ref H.length 0 0)],rH):=by
  simp only[gb,bz]at rp;simp only[pU,simprocAttr,jE,aM,rp]
 have bC:aC (aU ah) aG base (.region Ow [] []) (au 76 [(0,.ref ρ 0 0),(2,.ref H.length 0 0)]) rH=some (.bH,au 76 [(0,.ref ρ 0 0),(2,.ref H.length 0 0),(3,.ref (H.length+1) 0 0)],qD):=by
  simp only[gb,bz]at E0;simp only[jE,simprocAttr,aM,E0,ij]
 have bP:aC (aU ah) aG base (.region O3 [] [7]) (au 76 [(0,.ref ρ 0 0),(2,.ref H.length 0 0),(3,.ref (H.length+1) 0 0)]) qD=some (.bH,au 76 [(0,.ref ρ 0 0),(2,.ref H.length 0 0),(3,.ref (H.length+1) 0 0),(4,.mp (H.length+2))],kT):=by
  rw[en]at ug;simp only[jE,simprocAttr,aM,ug]
 obtain⟨Hp,s1,s2⟩:=an7 ch.R.now ch.R.second base (H:=kT) (by omega) (h.ext ov) (fun _=>eJ) ⟨#[61]⟩
 rw[PV]at s1;simp only[a7,aL]at s1;have lJ:Ext H Hp:=ov.trans s2;have ax:=h.ext lJ
 have dk:∀c,nA (aJ.of ts) [61] a=c->aC (aU ah) aG base (.region HX [] [8]) (au 76 [(0,.ref ρ 0 0),(2,.ref H.length 0 0),(3,.ref (H.length+1) 0 0),(4,.mp (H.length+2))]) kT=some (.bH,au 76 [(0,.ref ρ 0 0),(2,.ref H.length 0 0),(3,.ref (H.length+1) 0 0),(4,.mp (H.length+2)),(9,aL c)],Hp):=by
  intro c aa;rw[aa]at s1;simp only[aL,simprocAttr,jE,aM,s1]
 have rm:=df qW (aK.trans s2);have g23:=df g20 (aF.trans (aK.trans s2))
 have fin:∀{bh:az} {r:List V} {y:gf},aC (aU ah) aG base pU.body (au pU.ntmps (mJ ([]++[.ref ρ 0 0]++[]) 0)) H=some (.ret,au 76 [(2,.ref H.length 0 0)],bh)->ao bh H.length 0=some r->xR (H.length+2) bh r y->aU ah (.fn Ah [] []) [.ref ρ 0 0] base H=some (.agg r,bh):=by
  intro bh r y ag bb aT;obtain⟨cd,lw,rfl,_,_⟩:=aT
  refine iY (c:=pU) (k:=1) lp.instr rfl (by decide) KN ?_
  rw[ag]
  have yu:iT bh true 8 (.ref H.length 0 0)=some (.agg (dL y cd lw)):=by
   show gl _ true 8 _=_;rw[lW,bb];rfl
  simp only[pU,simprocAttr,aM];rw[yu];rfl
 unfold va;by_cases sO:nA (aJ.of ts) [61] a=true
 .rw[a' sO]
  have q:=auF lp wf base af ax (L:=H.length) (aP:=H.length) (aH:=H.length+1) (μ:=H.length+2) iV (bS _) (by omega) rm g23 sO
  have Ac:=dk true sO;by_cases yD:(aJ.of ts).same (a+2)=true
  .rw[a' yD]at q |-;obtain⟨bp,C,KI,aP,bj,c4,iu,iw⟩:=q;have J3:=bj.1;have ac3:=lJ.le;have ajc:=s2.le
   have EW:=ax.AW (aH:=H.length+1) (by omega) bj c4 bp
   have ae:fw (H.length+1) (H.length+2) C { iC with d:=kI ((aJ.of ts).text a) } bz bz:=⟨by omega,by omega,iu,cp.start _ _ _,cp.start _ _ _,fun id g n g' c3 e=>by cases e⟩
   have yj:ao C H.length 0=some gb:=bj.ao g23 (hL g23) (by simp;omega)
   have Fl:aC (aU ah) aG base (.seq (.region HX [] [8]) (.cond (.t 9) KU .skip)) (au 76 [(0,.ref ρ 0 0),(2,.ref H.length 0 0),(3,.ref (H.length+1) 0 0),(4,.mp (H.length+2))]) kT=some (.bH,au 76 [(0,.ref ρ 0 0),(2,.ref H.length 0 0),(3,.ref (H.length+1) 0 0),(4,.mp KI)],C):=(eh Ac).trans aP
   have q:=acb lp wf base af EW (L:=H.length) (aP:=H.length) (aH:=H.length+1) iV (bS _) (by omega) ae yj aIJ iw (fun e=>absurd e (wf.nm a h.lt pE)) dv iG (.inl rfl)
   have akO:aA H.length [ρ] H C:=aA.app (aA.gn lJ) (aA.HA (aA.low bj ac3) (by omega))
   unfold eE;cases hi:wY (aJ.of ts) N (kI ((aJ.of ts).text a)) k8 (a+2)with
   |error e=>
     rw[hi]at q;obtain⟨t1,bh,t2,t3⟩:=q
     exact⟨t1,bh,pH (c:=pU) (k:=1) rfl lp.instr rfl (by decide) KN rfl hq (dG bC (dG bP (dG Fl t2))),aA.app akO t3⟩
   |ok p=>
     obtain⟨y,c⟩:=p;rw[hi]at q;obtain⟨t1,r,bh,t2,t3,t4,t5,t6,t7⟩:=q
     exact⟨t1,.agg r,bh,fin ((eh hq).trans ((eh bC).trans ((eh bP).trans ((eh Fl).trans t2)))) t5 t7,aA.app akO t3,t4,r,rfl,t6,t7.low (by omega)⟩
  .rw[bm yD]at q |-;obtain⟨bp,C,aP,bj⟩:=q
   exact⟨bp,C,pH (c:=pU) (k:=1) rfl lp.instr rfl (by decide) KN rfl hq (dG bC (dG bP (kb (dG Ac (sw rfl aP))))),aA.app (aA.gn lJ) (aA.HA (aA.low bj lJ.le) (by omega))⟩
 .rw[bm sO];rw[nz]at sO;have Ac:=dk false sO;have ac3:=lJ.le;have ajc:=s2.le
  have ae:fw (H.length+1) (H.length+2) Hp { iC with d:=⟨#[]⟩ } bz bz:=⟨by omega,by omega,rm,cp.start _ _ _,cp.start _ _ _,fun id g n g' c3 e=>by cases e⟩
  have gd:Hp[H.length+2]?=some (.map (nH (tH k3))):=by
   rw[s2.get (by omega),<- Kz,<- en];simp
  have Fl:aC (aU ah) aG base (.seq (.region HX [] [8]) (.cond (.t 9) KU .skip)) (au 76 [(0,.ref ρ 0 0),(2,.ref H.length 0 0),(3,.ref (H.length+1) 0 0),(4,.mp (H.length+2))]) kT=some (.bH,au 76 [(0,.ref ρ 0 0),(2,.ref H.length 0 0),(3,.ref (H.length+1) 0 0),(4,.mp (H.length+2)),(9,aL false)],Hp):=(eh Ac).trans rfl
  have q:=acb lp wf base af ax (L:=H.length) (aP:=H.length) (aH:=H.length+1) iV (bS _) (by omega) ae g23 aDP gd (fun _=>eJ) dv iG (.inr rfl)
  unfold eE;cases hi:wY (aJ.of ts) N ⟨#[]⟩ k3 a with
  |error e=>
    rw[hi]at q;obtain⟨t1,bh,t2,t3⟩:=q
    exact⟨t1,bh,pH (c:=pU) (k:=1) rfl lp.instr rfl (by decide) KN rfl hq (dG bC (dG bP (dG Fl t2))),aA.app (aA.gn lJ) t3⟩
  |ok p=>
    obtain⟨y,c⟩:=p;rw[hi]at q;obtain⟨t1,r,bh,t2,t3,t4,t5,t6,t7⟩:=q
    exact⟨t1,.agg r,bh,fin ((eh hq).trans ((eh bC).trans ((eh bP).trans ((eh Fl).trans t2)))) t5 t7,aA.app (aA.gn lJ) t3,t4,r,rfl,t6,t7.low (by omega)⟩
end
def py(K:Nat->Prop)(A B:az):Prop:=∀id,K id->B[id]?=A[id]?
def xR.rd{m H H' r x}(h:xR m H r x)(an:∀id,m<=id->id<H.length->H'[id]?=H[id]?)(J:x.xs.length<2^63)(U:x.ls.length<2^63):la H' r x:=by
 obtain⟨cd,lw,e,cy,a2⟩:=h;have k1:=u' cy;have k2:=u' a2
 have key:∀{v:V} {l:List V},nS m H v l->nS m H' v l:=fun h=>by
  rcases h with h|⟨id,g,c,rfl,U,ax,aY,cl⟩
  .exact .inl h
  .refine .inr ⟨id,g,c,rfl,?_,ax,aY,cl⟩;unfold ao at U |-;rw[an id cl (hL U)];exact U
 exact⟨cd,lw,e,(key k1).rd,(nS.Er (key k1)),(key k2).rd,(nS.Er (key k2)),J,U⟩
structure FS (m:Nat) (K:Nat->Prop) (C:az) (bv:V) (bU:List mY):Prop where
 k:∀id,K id->m<=id/\id<C.length/\∀g n,bv≠.aB id g 0 n 2
 n:bU.length<2^21/\∀b∈bU,b.code.length<2^21
 rows:∃iI:List (List V),cp m 2 C bv iI/\iI.length=bU.length/\∀(i:Nat) (b:mY),bU[i]?=some b->∃bZ,iI[i]?=some [a7 b.label,bZ]/\bZ.one=true/\
  (i+1<bU.length->∀H',py K C H'->ga 8 la H' bZ b.code)/\
  (i+1=bU.length->∃nc:List (List V),cp m 8 C bZ nc/\nc.length=b.code.length/\(∀id g n,bZ=.aB id g 0 n 8->¬K id/\∀g' c3,bv≠.aB id g' 0 c3 2)/\∀(j:Nat) (x:gf),b.code[j]?=some x->∃r:List V,nc[j]?=some r/\∀H',py K C H'->la H' r x)
def FS.start(m C):FS m (fun _=>False) C bz []:=⟨fun _ h=>h.elim,⟨by decide,fun b h=>by simp at h⟩,[],cp.start _ _ _,rfl,fun i b h=>by simp at h⟩
def FS.bT{m}{K:Nat->Prop}{C bh bv bU}(h:FS m K C bv bU)(an:∀id,m<=id->id<C.length->bh[id]?=C[id]?)(ak:C.length<=bh.length):FS m K bh bv bU:=by
 obtain⟨iI,aV,b4,dJ⟩:=h.rows
 have wm:∀H',py K bh H'->py K C H':=fun H' aD id hid=>by
  obtain⟨k1,k2,_⟩:=h.k id hid;rw[aD id hid,an id k1 k2]
 refine⟨fun id hid=>by obtain⟨k1,k2,dx⟩:=h.k id hid;exact⟨k1,by omega,dx⟩,h.n,iI,aV.bT fun id g n e=>?_,b4,fun i b af=>?_⟩
 .subst e;exact an id (fS aV) (aV.lt id g n rfl)
 .obtain⟨bZ,cq,cN,et,jd⟩:=dJ i b af;refine⟨bZ,cq,cN,fun hi H' aD=>et hi H' (wm H' aD),fun hi=>?_⟩;obtain⟨nc,bC,bP,dk,eC⟩:=jd hi;refine⟨nc,bC.bT fun id g n e=>?_,bP,dk,fun j x ae=>?_⟩
  .subst e;exact an id (fS bC) (bC.lt id g n rfl)
  .obtain⟨r,s1,s2⟩:=eC j x ae;exact⟨r,s1,fun H' aD=>s2 H' (wm H' aD)⟩
def Xk{m}{K:Nat->Prop}{C H' bZ code nc}(J:cp m 8 C bZ nc)(U:nc.length=code.length)(aN:code.length<2^21)(ax:∀(j:Nat) (x:gf),code[j]?=some x->∃r:List V,nc[j]?=some r/\∀H',py K C H'->la H' r x)(aD:py K C H')(aa:∀id g n,bZ=.aB id g 0 n 8->H'[id]?=C[id]?):ga 8 la H' bZ code:=by
 have av:cp m 8 H' bZ nc:=J.bT aa
 refine⟨nc,cp.rx av,U,by omega,fun i x ae=>?_⟩
 obtain⟨r,bC,bP⟩:=ax i x ae;exact⟨r,bC,bP H' aD⟩
def FS.done{m}{K:Nat->Prop}{C bv bU}(h:FS m K C bv bU){H'}(an:∀id,m<=id->id<C.length->H'[id]?=C[id]?):ga 2 q8 H' bv bU:=by
 obtain⟨iI,aV,b4,dJ⟩:=h.rows
 have aD:py K C H':=fun id hid=>by obtain⟨k1,k2,_⟩:=h.k id hid;exact an id k1 k2
 have av:cp m 2 H' bv iI:=aV.bT fun id g n e=>by subst e;exact an id (fS aV) (aV.lt id g n rfl)
 refine⟨iI,cp.rx av,b4,by have:=h.n.1;omega,fun i b af=>?_⟩
 obtain⟨bZ,cq,cN,et,jd⟩:=dJ i b af;refine⟨_,cq,bZ,rfl,?_⟩;have hi:=(cC.1 af).1;by_cases bt:i+1<bU.length
 .exact et bt H' aD
 .obtain⟨nc,bC,bP,dk,eC⟩:=jd (by omega)
  exact Xk bC bP (h.n.2 b (hR af)) eC aD fun id g n e=>by subst e;exact an id (fS bC) (bC.lt id g n rfl)
def Dc{m w H v R}(h:cp m w H v R){base bytes}(af:base<=m)(hm:m<=H.length){r}(ar:r.length=w)(aT:r.all V.one=true)(aq:(R.length+1)*bytes<=2^47):
 ∃id g n H',gW (H++[.cells 0 r]) base w bytes v (.aB H.length 0 0 1 w)=some (.aB id g 0 n w,H')/\cp m w H' (.aB id g 0 n w) (R++[r])/\H.length<=H'.length/\(∀i,i<H.length->(∀g n,v≠.aB i g 0 n w)->H'[i]?=H[i]?)/\((∃g n,v=.aB id g 0 n w)\/H.length<=id):=by
 have J:cp m w (H++[.cells 0 r]) v R:=h.bT fun id g n e=>d' (h.lt id g n e)
 have lg:elems (H++[bq.cells 0 r]) w (.aB H.length 0 0 1 w)=some ([r].length,[r].flatten):=(RdW.aB (R:=[r]) (by simpa using dz H 0 r) (fun y bA=>by rw[fj.1 bA];exact ar)).el
 have ei:[r].flatten=r:=by simp
 obtain⟨dQ,H',cy,a2,a3,a4⟩:=J.append (base:=base) (bytes:=bytes) af (by rw[kw];omega) (S:=[r]) (fun y bA=>by rw[fj.1 bA];exact ar) (by simp) lg (by rw[ei];exact aT) aq
 rw[kw]at a3
 have awM:∀i,i<H.length->(∀g n,v≠.aB i g 0 n w)->H'[i]?=H[i]?:=fun i J U=>by
  rw[a4 i (by rw[kw];omega) U]
  exact d' J
 have av:∃id g n,dQ=.aB id g 0 n w:=by
  obtain⟨_,⟨e,_⟩|⟨id,g,e,_,k⟩⟩:=id a2
  .simp at e
  .exact⟨id,g,_,e⟩
 obtain⟨id,g,n,rfl⟩:=av
 refine⟨id,g,n,H',cy,a2,by omega,awM,?_⟩
 rw[ei]at lg;have ql:[r].length=1:=rfl;rw[ql]at lg;have hh:=h
 obtain⟨_,⟨rfl,rfl⟩|⟨eX,g',rfl,aa,kY⟩⟩:=hh
 .right
  have hC:1*bytes<=2^47:=by simpa using aq
  simp only[gW,lg,aT,fl,bz,hC,J6,gx]at cy;obtain⟨aK,_⟩:=GG (hc cy);cases aK;rw[kw];omega
 .left
  have iZ:base<=eX:=by omega
  have k0:=df aa (Ext.app H [bq.cells 0 r]);have ak:R.flatten.length=R.length*w:=xz R h.1
  have U:0+R.length*w<=R.flatten.length:=by omega
  simp only[gW,lg,aT,fl,wR,iZ,k0,U,J6,gx,aq,l3]at cy;obtain⟨aK,_⟩:=GG (hc cy);cases aK;exact⟨_,_,rfl⟩
def FS.LM{m base}{K:Nat->Prop}{C bv bU}(h:FS m K C bv bU)(af:base<=m)(hm:m<=C.length)(eY)(aN:bU.length+1<2^21):
 ∃id g n bh K',gW (C++[.cells 0 [a7 eY,bz]]) base 2 40 bv (.aB C.length 0 0 1 2)=some (.aB id g 0 n 2,bh)/\FS m K' bh (.aB id g 0 n 2) (bU++[⟨eY,[]⟩])/\m<=id/\C.length<=bh.length/\∀i,i<m->bh[i]?=C[i]?:=by
 obtain⟨iI,aV,b4,dJ⟩:=h.rows
 obtain⟨id,g,n,bh,cy,a2,a3,a4,a5⟩:=Dc aV (base:=base) (bytes:=40) af hm (r:=[a7 eY,bz]) rfl rfl (by rw[b4];omega)
 have hid:m<=id:=fS a2
 have sk:∀i,i<m->bh[i]?=C[i]?:=fun i hi=>a4 i (by omega) fun g' c3 e=>by
  subst e;have:=fS aV;omega
 obtain⟨K',aJu,xg,azo⟩:∃K':Nat->Prop,(∀i,K i->K' i)/\(∀i,K' i->m<=i/\i<C.length/\∀g n,bv≠.aB i g 0 n 2)/\∀(i:Nat) (b:mY),bU[i]?=some b->∃bZ,iI[i]?=some [a7 b.label,bZ]/\bZ.one=true/\∀H',py K' C H'->ga 8 la H' bZ b.code:=by
  by_cases a1:bU.length=0
  .exact⟨K,fun _ h=>h,h.k,fun i b af=>by have:=(cC.1 af).1;omega⟩
  .obtain⟨b,ds⟩:∃b,bU[bU.length-1]?=some b:=⟨_,dy (by omega)⟩
   obtain⟨bZ,cq,cN,et,jd⟩:=dJ _ b ds
   obtain⟨nc,bC,bP,dk,eC⟩:=jd (by omega)
   refine⟨fun i=>K i\/∃g n,bZ=.aB i g 0 n 8,fun i h=>.inl h,fun i hi=>?_,fun i b' fY=>?_⟩
   .rcases hi with hi|⟨g',c3,rfl⟩
    .exact h.k i hi
    .exact⟨fS bC,bC.lt i g' c3 rfl,(dk i g' c3 rfl).2⟩
   .by_cases hi:i+1<bU.length
    .obtain⟨BB,aCC,awP,ayA,_⟩:=dJ i b' fY;exact⟨BB,aCC,awP,fun H' aD=>ayA hi H' fun id hid=>aD id (.inl hid)⟩
    .have Ci:=(cC.1 fY).1
     have aA9:i=bU.length-1:=by omega
     subst aA9;rw[ds]at fY;cases fY;exact⟨bZ,cq,cN,fun H' aD=>Xk bC bP (h.n.2 b (hR ds)) eC (fun id hid=>aD id (.inl hid)) fun id g n e=>aD id (.inr ⟨g,n,e⟩)⟩
 have wm:∀H',py K' bh H'->py K' C H':=fun H' aD i hi=>by
  obtain⟨k1,k2,dx⟩:=xg i hi;rw[aD i hi,a4 i k2 dx]
 refine⟨id,g,n,bh,K',cy,⟨fun i hi=>?_,⟨by rw[fU];exact aN,fun b af=>?_⟩,iI++[[a7 eY,bz]],a2,by simp[b4],fun i b af=>?_⟩,hid,a3,sk⟩
 .obtain⟨k1,k2,dx⟩:=xg i hi
  refine⟨k1,by omega,fun g' c3 e=>?_⟩
  cases e
  rcases a5 with⟨g2,bN,e⟩|e
  .exact dx g2 bN e
  .omega
 .rcases l1.1 af with af|af
  .exact h.n.2 b af
  .rw[fj]at af;subst af;exact Nat.pos_of_ne_zero (by decide)
 .by_cases hi:i<bU.length
  .rw[d' hi]at af;obtain⟨bZ,cq,cN,et⟩:=azo i b af
   refine⟨bZ,by rw[d' (by omega)];exact cq,cN,fun _ H' aD=>et H' (wm H' aD),fun he=>?_⟩
   rw[fU,bi]at he;omega
  .have fG:i=bU.length:=by
    have:=(cC.1 af).1;simp at this;omega
   subst fG;rw[gB (bS _),r0]at af;cases af
   refine⟨bz,by rw[gB (by omega),b4,r0];rfl,rfl,fun he=>?_,fun _=>⟨[],cp.start _ _ _,rfl,fun id g n e=>(by cases e),fun j x ae=>(by simp at ae)⟩⟩
   rw[fU,bi]at he;omega
theorem KK(dj aL x):oJ (dj++[aL]) x=dj++[{ aL with code:=aL.code++[x] }]:=by
 unfold oJ;rw[List.dropLast_concat,List.getLast?_concat];rfl
def FS.oJ{m base}{K:Nat->Prop}{C bv dj aL}(h:FS m K C bv (dj++[aL]))(af:base<=m)(hm:m<=C.length):
 ∃c8 g gK bZ,bv=.aB c8 g 0 (dj.length+1) 2/\m<=c8/\ao C c8 g=some (gK++[a7 aL.label,bZ])/\gK.length=dj.length*2/\bZ.one=true/\
   ∀(bF:az) (r:List V) (x:gf) (yE:Nat->Prop),(∀id,m<=id->id<C.length->bF[id]?=C[id]?)->C.length<=bF.length->r.length=8->r.all V.one=true->(∀i,yE i->C.length<=i/\i<bF.length)->(∀H',(∀i,yE i->H'[i]?=bF[i]?)->la H' r x)->aL.code.length+1<2^21->
     ∃id g' c3 cb,gW (bF++[.cells 0 r]) base 8 128 bZ (.aB bF.length 0 0 1 8)=some (.aB id g' 0 c3 8,cb)/\ao cb c8 g=some (gK++[a7 aL.label,bZ])/\FS m (fun i=>K i\/yE i) (cb.set c8 (.cells g (gK++[a7 aL.label,.aB id g' 0 c3 8]))) bv (Go.Proofs.YtbocmenkkjbigaaDoor.oJ (dj++[aL]) x)/\bF.length<=cb.length/\(∀i,i<m->cb[i]?=bF[i]?)/\id≠c8/\∃c,ao cb id g'=some (c++r):=by
 obtain⟨iI,aV,b4,dJ⟩:=h.rows
 have ds:(dj++[aL])[dj.length]?=some aL:=by rw[gB (bS _),r0];rfl
 obtain⟨bZ,cq,cN,_,jd⟩:=dJ dj.length aL ds
 obtain⟨nc,bC,bP,dk,eC⟩:=jd (by simp)
 rw[fU,bi]at b4
 have Bo:iI=iI.take dj.length++[[a7 aL.label,bZ]]:=by
  have e:=KZ (l:=iI) (i:=dj.length);rw[cq]at e
  exact(wW (l:=iI) (i:=dj.length+1) (by omega)).symm.trans e
 obtain⟨gK,am3⟩:∃gK,iI.take dj.length=gK:=⟨_,rfl⟩;rw[am3]at Bo
 have Iu:gK.length=dj.length:=by rw[<- am3,lG];omega
 have aa3:∀r∈gK,r.length=2:=fun r ar=>aV.1 r (by rw[Bo];exact lH _ ar)
 have ei:gK.flatten.length=dj.length*2:=by rw[xz gK aa3,Iu]
 obtain⟨_,⟨e,_⟩|⟨c8,g,rfl,aa,RE⟩⟩:=id aV
 .rw[Bo]at e;simp at e
 rw[b4]at *
 have mg:ao C c8 g=some (gK.flatten++[a7 aL.label,bZ]):=by
  rw[aa,Bo,tl];simp
 refine⟨c8,g,gK.flatten,bZ,rfl,RE,mg,ei,cN,fun bF r x yE an ak I6 ez ON aT aN=>?_⟩
 have aE7:cp m 8 bF bZ nc:=bC.bT fun id g n e=>by subst e;exact an id (fS bC) (bC.lt id g n rfl)
 obtain⟨id,g',c3,cb,cy,a2,a3,a4,a5⟩:=Dc aE7 (base:=base) (bytes:=128) af (by omega) I6 ez (by rw[bP];omega)
 have II:c8<C.length:=hL mg;have dq:∀g n,bZ≠.aB c8 g 0 n 8:=fun g2 bN e=>(dk c8 g2 bN e).2 g _ rfl
 have wI:cb[c8]?=C[c8]?:=by rw[a4 c8 (by omega) dq,an c8 RE II]
 have sk:∀i,i<m->cb[i]?=bF[i]?:=fun i hi=>a4 i (by omega) fun g2 bN e=>by
  subst e;have:=fS bC;omega
 have Ox:id≠c8:=fun e=>by
  rcases a5 with⟨g2,bN,aK⟩|aK
  .rw[e]at aK;exact dq g2 bN aK
  .omega
 refine⟨id,g',c3,cb,cy,by unfold ao at mg |-;rw[wI];exact mg,?_,a3,sk,Ox,?_⟩
 rotate_left
 .obtain⟨_,⟨e,_⟩|⟨nJ,g2,e,oC,_⟩⟩:=a2
  .simp at e
  .cases e
   exact⟨nc.flatten,by rw[oC,tl];simp⟩
 have XS:∀i,(K i\/yE i)->m<=i/\i<bF.length/\i≠c8/\∀g n,bZ≠.aB i g 0 n 8:=by
  intro i hi
  rcases hi with hi|hi
  .obtain⟨k1,k2,dx⟩:=h.k i hi
   exact⟨k1,by omega,fun e=>by subst e;exact dx g _ rfl,fun g2 bN e=>(dk i g2 bN e).1 hi⟩
  .obtain⟨i1,i2⟩:=ON i hi
   refine⟨by omega,i2,by omega,fun g2 bN e=>?_⟩
   have:=bC.lt i g2 bN e;omega
 obtain⟨eN,iq⟩:∃X,cb.set c8 (bq.cells g (gK.flatten++[a7 aL.label,.aB id g' 0 c3 8]))=X:=⟨_,rfl⟩;rw[iq]
 have ahN:∀i,i≠c8->eN[i]?=cb[i]?:=fun i hi=>by rw[<- iq,cf (gG hi)]
 have aiv:∀H',py (fun i=>K i\/yE i) eN H'->py (fun i=>K i\/yE i) bF H':=fun H' aD i hi=>by
  obtain⟨k1,k2,dx,hs⟩:=XS i hi;rw[aD i hi,ahN i dx,a4 i k2 hs]
 have wm:∀H',py (fun i=>K i\/yE i) eN H'->py K C H':=fun H' aD i hi=>by
  obtain⟨k1,k2,_⟩:=h.k i hi;rw[aiv H' aD i (.inl hi),an i k1 k2]
 have Tz:eN.length=cb.length:=by rw[<- iq,eF]
 rw[KK];have Ze:gK++[[a7 aL.label,V.aB id g' 0 c3 8]]=gK++[[a7 aL.label,V.aB id g' 0 c3 8]]:=rfl
 refine⟨fun i hi=>?_,⟨by have:=h.n.1;simpa using this,fun b fY=>?_⟩,gK++[[a7 aL.label,.aB id g' 0 c3 8]],⟨fun r ar=>?_,.inr ⟨c8,g,by simp[Iu],?_,RE⟩⟩,by simp[Iu],fun i b fY=>?_⟩
 .obtain⟨k1,k2,dx,_⟩:=XS i hi
  exact⟨k1,by omega,fun g2 bN e=>by cases e;exact dx rfl⟩
 .rcases l1.1 fY with fY | fY
  .exact h.n.2 b (lH _ fY)
  .rw[fj]at fY;subst fY;show(aL.code++[x]).length<_;rw[fU,bi];exact aN
 .rcases l1.1 ar with ar|ar
  .exact aa3 r ar
  .rw[fj]at ar;subst ar;rfl
 .rw[<- iq]
  have aIj:ao cb c8 g=some (gK.flatten++[a7 aL.label,bZ]):=by unfold ao at mg |-;rw[wI];exact mg
  rw[e4 aIj,tl];simp
 .by_cases hi:i<dj.length
  .have fM:(dj++[aL])[i]?=some b:=by
    rw[d' hi]at fY |-;exact fY
   obtain⟨BB,d1,d2,d3,_⟩:=dJ i b fM
   refine⟨BB,?_,d2,fun _ H' aD=>d3 (by simp;omega) H' (wm H' aD),fun he=>?_⟩
   .rw[d' (by omega)]
    rw[Bo,d' (by omega)]at d1
    exact d1
   .simp at he;omega
  .have fG:i=dj.length:=by
    have:=(cC.1 fY).1;simp at this;omega
   subst fG;rw[gB (bS _),r0]at fY;cases fY
   refine⟨.aB id g' 0 c3 8,?_,rfl,fun he=>by simp at he,fun _=>⟨nc++[r],a2.bT fun nJ g2 bN e=>?_,by simp[bP],fun nJ g2 bN e=>?_,fun j y bA=>?_⟩⟩
   .rw[gB (by omega),Iu,r0];rfl
   .cases e;exact ahN id Ox
   .cases e;refine⟨fun bE=>?_,fun g2 bN e=>?_⟩
    .rcases a5 with⟨g2,bN,aK⟩|aK
     .rcases bE with bE|bE
      .exact(dk id g2 bN aK).1 bE
      .have:=ON id bE;have:=bC.lt id g2 bN aK;omega
     .rcases bE with bE|bE
      .have:=(h.k id bE).2.1;omega
      .have:=ON id bE;omega
    .cases e;exact Ox rfl
   .by_cases br:j<aL.code.length
    .have ayN:aL.code[j]?=some y:=by
      rw[show({ aL with code:=aL.code++[x] }:mY).code=aL.code++[x]from rfl,d' br]at bA;exact bA
     obtain⟨hq,t1,t2⟩:=eC j y ayN
     exact⟨hq,by rw[d' (by omega)];exact t1,fun H' aD=>t2 H' (wm H' aD)⟩
    .have mb:j=aL.code.length:=by
      have:=(cC.1 bA).1;simp at this;omega
     subst mb;rw[show({ aL with code:=aL.code++[x] }:mY).code=aL.code++[x]from rfl,gB (bS _),r0]at bA;cases bA
     refine⟨r,by rw[gB (by omega),bP,r0];rfl,fun H' aD=>aT H' fun i hi=>?_⟩
     exact aiv H' aD i (.inr hi)
section
variable {V:aJ}
def awr:∀(n:Nat) {acc l:List ByteArray} {a b:Nat},jv V n acc a=.ok (l,b)->a<=b/\l.length+a<=acc.length+b:=by
 intro n
 induction n with
 |zero=>intro acc l a b h;cases h
 |succ n aw=>
   intro acc l a b h;unfold jv at h;split at h
   .cases h;omega
   .split at h
    .obtain⟨u,c,J,h⟩:=hf h;obtain⟨x,d,U,h⟩:=hf h;have:=tn J;have:=mc U;have q:=aw h;rw[fU,bi]at q;omega
    .obtain⟨x,d,U,h⟩:=hf h;have:=mc U;have q:=aw h;rw[fU,bi]at q;omega
def Mf{N l a b}(h:o9 V N a=.ok (l,b)):a<b/\l.length<=b:=by
 unfold o9 at h;obtain⟨u,c,J,h⟩:=hf h;obtain⟨tx,d,U,h⟩:=hf h;obtain⟨u,e,ax,h⟩:=hf h;cases h;have:=tn J;have q:=awr N U;have:=tn ax;rw[d9]at q;omega
def aEa:∀(n:Nat) {ls xs:List ByteArray} {p:List ByteArray × List ByteArray} {a b:Nat},kM V n ls xs a=.ok (p,b)->a<=b/\p.1.length+a<=ls.length+b/\p.2.length+a<=xs.length+b:=by
 intro n
 induction n with
 |zero=>intro ls xs p a b h;cases h
 |succ n aw=>
   intro ls xs p a b h;unfold kM at h;obtain⟨l,c,J,h⟩:=hf h;obtain⟨u,d,U,h⟩:=hf h;obtain⟨x,e,ax,h⟩:=hf h;have:=mc J;have:=tn U;have:=mc ax;split at h
   .obtain⟨u,f,aY,h⟩:=hf h;have:=tn aY;have q:=aw h;rw[fU,fU,bi,bi]at q;omega
   .cases h;simp only[fU,bi];omega
def aET{N o x y a b}(h:Ao V N o x a=.ok (y,b))(ae:x.xs=[])(ak:x.ls=[]):a<=b/\y.xs.length<=b/\y.ls.length<=b:=by
 unfold Ao at h;split at h
 .obtain⟨s,c,J,h⟩:=hf h;have:=NP J;cases h;simp only[ae,ak,d9];omega
 .obtain⟨s,c,J,h⟩:=hf h;have:=NP J;cases h;simp only[ae,ak,d9];omega
 .cases h;simp only[ae,ak,d9];omega
 .obtain⟨s,c,J,h⟩:=hf h;have:=mc J;cases h;simp only[ae,ak,d9];omega
 .obtain⟨s,c,J,h⟩:=hf h;have:=mc J;cases h;simp only[ae,ak,d9];omega
 .obtain⟨s,c,J,h⟩:=hf h;have:=mc J;cases h;simp only[ae,ak,d9];omega
 .obtain⟨s,c,J,h⟩:=hf h;obtain⟨p,d,U,h⟩:=hf h;obtain⟨u,e,ax,h⟩:=hf h;have:=tn J;have q:=aEa N U;have:=tn ax;cases h;rw[ae,ak]at q;simp only[d9]at q |-;omega
 .obtain⟨s,c,J,h⟩:=hf h;obtain⟨n,d,U,h⟩:=hf h;have:=mc J;have:=NP U;cases h;simp only[ae,ak,d9];omega
 .obtain⟨s,c,J,h⟩:=hf h;obtain⟨u,d,U,h⟩:=hf h;obtain⟨t,e,ax,h⟩:=hf h;have:=mc J;have:=tn U;have:=mc ax;cases h;simp only[ae,ak,d9];omega
 .obtain⟨s,c,J,h⟩:=hf h;obtain⟨l,d,U,h⟩:=hf h;have:=mc J;have:=Mf U;cases h;simp only[ak,d9];omega
 .obtain⟨s,c,J,h⟩:=hf h;obtain⟨l,d,U,h⟩:=hf h;have:=mc J;have:=Mf U;cases h;simp only[ak,d9];omega
 .obtain⟨s,c,J,h⟩:=hf h;obtain⟨t,d,U,h⟩:=hf h;have:=mc J;have:=mc U;cases h;simp only[ae,d9,gP];omega
 .obtain⟨s,c,J,h⟩:=hf h;have:=mc J;cases h;simp only[ae,d9,gP];omega
 .dsimp only at h;split at h
  .obtain⟨s,c,J,h⟩:=hf h;have:=mc J;cases h;simp only[ae,ak,d9];omega
  .cases h;simp only[ae,ak,d9];omega
 .cases h
def aku{N d l y a b}(h:wY V N d l a=.ok (y,b)):a<b/\y.xs.length<=b/\y.ls.length<=b:=by
 unfold wY at h;split at h
 .split at h<;>cases h
 .split at h
  .have:=aET h rfl rfl;omega
  .cases h
def ada{N y a b}(h:va V N a=.ok (y,b)):a<b/\y.xs.length<=b/\y.ls.length<=b:=by
 unfold va at h;split at h
 .split at h
  .have:=aku h;omega
  .cases h
 .exact aku h
def Bn(V:aJ)(N:Nat)(nm:ByteArray)(ps:List ByteArray)(bU:List mY)(a:Nat):Except Nat (Sum (hv × Nat) (List mY × Nat)):=
 if nf V a=true then .error a
 else if(V.kind a==3&&V.text a==[125])=true then(if nf V (a+1)=true then .error (a+1)else .ok (.inl (⟨nm,ps,bU⟩,a+1)))
 else if nA V [58] a=true then .ok (.inr (bU++[⟨kI (V.text a),[]⟩],a+2))
 else if(V.kind a != 1||bU.length==0)=true then(if V.kind a=1 then .error (a+1)else .error a)
 else match va V N a with
  |.error e=>.error e
  |.ok (x,b)=>.ok (.inr (oJ bU x,b))
theorem PI(N nm ps n bU a):ng V N nm ps (n+1) bU a=match Bn V N nm ps bU a with
 |.error e=>.error e
 |.ok (.inl (f,b))=>.ok (f,b)
 |.ok (.inr (pV,b))=>ng V N nm ps n pV b:=by
 unfold Bn;rw[ng];by_cases J:nf V a=true
 .rw[a' J,a' J]
 rw[bm J,bm J];by_cases U:(V.kind a==3&&V.text a==[125])=true
 .rw[a' U,a' U];by_cases ax:nf V (a+1)=true
  .rw[a' ax,a' ax]
  .rw[bm ax,bm ax]
 rw[bm U,bm U];by_cases ax:nA V [58] a=true
 .rw[a' ax,a' ax]
 rw[bm ax,bm ax]
 by_cases aY:(V.kind a != 1||bU.length==0)=true
 .rw[a' aY,a' aY];by_cases cl:V.kind a=1
  .rw[a' cl,a' cl]
  .rw[bm cl,bm cl]
 rw[bm aY,bm aY];unfold cr.bind;cases va V N a with
 |error e=>rfl
 |ok p=>rfl
def axK(N nm ps):∀(n:Nat) {bU:List mY} {f:hv} {a b:Nat},ng V N nm ps n bU a=.ok (f,b)->a<b:=by
 intro n
 induction n with
 |zero=>intro bU f a b h;cases h
 |succ n aw=>
   intro bU f a b h;rw[PI]at h;unfold Bn at h;split at h
   .cases h
   .rename_i eU b' he;cases h;split at he
    .cases he
    split at he
    .split at he
     .cases he
     .cases he;omega
    split at he
    .cases he
    split at he
    .split at he<;>cases he
    split at he<;>cases he
   .rename_i pV b' he;have q:=aw h;split at he
    .cases he
    split at he
    .split at he<;>cases he
    split at he
    .cases he;omega
    split at he
    .split at he<;>cases he
    split at he
    .cases he
    .rename_i x c hi;cases he;have:=ada hi;omega
def aHd{N f a b}(h:um V N a=.ok (f,b)):a<b/\f.ps.length<=b:=by
 unfold um at h;obtain⟨nm,c,J,h⟩:=hf h;obtain⟨ps,d,U,h⟩:=hf h;obtain⟨u,e,ax,h⟩:=hf h;have:=mc J;have:=Mf U;have:=tn ax;have:=axK N nm ps N h
 have aj:f.ps=ps:=by
  clear J U ax
  have key:∀(n:Nat) {bU:List mY} {a:Nat},ng V N nm ps n bU a=.ok (f,b)->f.ps=ps:=by
   intro n
   induction n with
   |zero=>intro bU a h;cases h
   |succ n aw=>
     intro bU a h;rw[PI]at h;unfold Bn at h;split at h
     .cases h
     .rename_i eU b' he;cases h;split at he
      .cases he
      split at he
      .split at he
       .cases he
       .cases he;rfl
      split at he
      .cases he
      split at he
      .split at he<;>cases he
      split at he<;>cases he
     .exact aw h
  exact key N h
 rw[aj];omega
end
structure Ag (ah:Nat->Option c7):Prop where
 bd:Hb ah
 Gk:ah yK=some (.code oV)
abbrev lf:List V:=[.s (.string ⟨#[]⟩),bz,bz]
section
variable {ah:Nat->Option c7} {ρ:Nat} {bB:V} {ts:List Tok.T} {a:Nat}
theorem ajD{call:c5}{it:gS}(base){D cS bY c8 g o}(atw:base<=c8){dR eY bZ aP z}(pj:ao D c8 g=some (dR++[eY,bZ]))(aT:dR.length=o){r}(ar:r.length=8)(ez:r.all V.one=true)(aa:call (.fn Ah [] []) [.ref ρ 0 0] base D=some (.agg r,cS))(an:cS[c8]?=D[c8]?){w}(aD:gW (cS++[.cells 0 r]) base 8 128 bZ (.aB cS.length 0 0 1 8)=some (w,bY))(sC:bZ.one=true)(hw:w.cells=[w])(AU:w.one=true)(g2:ao bY c8 g=some (dR++[eY,bZ])):
 aC call it base (.region tG [(4,6)] [5,31,32,33,34,35,36,37,38,39,40,41]) (au 101 [(0,.ref ρ 0 0),(2,.ref aP 0 0),(3,.ref z 0 0),(5,.ref c8 g o)]) D=some (.bH,au 101 [(0,.ref ρ 0 0),(2,.ref aP 0 0),(3,.ref z 0 0)],bY.set c8 (.cells g (dR++[eY,w]))):=by
 obtain⟨kg,eG,ee,gh,k6,zJ,vm,ud,rfl⟩:∃kg eG ee gh k6 zJ vm ud,r=[kg,eG,ee,gh,k6,zJ,vm,ud]:=by
  match r,ar with
  | [kg,eG,ee,gh,k6,zJ,vm,ud],_=>exact⟨_,_,_,_,_,_,_,_,rfl⟩
 have fi:(dR++[eY,bZ]).drop (o+1)=[bZ]:=by
  rw[<- aT,zF,qO (by omega)]
  simp
 have mP:(dR++[eY,bZ]).take (o+1)=dR++[eY]:=by
  rw[<- aT,Ho,wW (by omega)]
  simp
 have aHp:(dR++[eY,bZ]).drop (o+1+1)=[]:=by
  apply qO;rw[fU,aT];simp
 have ib:cu call base (tG.take 6) (au 101 [(0,.ref ρ 0 0),(2,.ref aP 0 0),(3,.ref z 0 0),(5,.ref c8 g o)]) D=some (au 101 [(0,.ref ρ 0 0),(2,.ref aP 0 0),(3,.ref z 0 0),(5,.ref c8 g o),(31,.ref c8 g o),(32,.ref c8 g o),(33,.ref c8 g o),(34,.ref c8 g (o+1)),(35,bZ),(36,.ref ρ 0 0)],D):=by
  simp only[tG,simprocAttr,fI,gq,aM,pj,fi,fI,gq]
  try rfl
 have ch:cu call base [⟨some 37,(.call (.c (.fn Ah [] [])) [(.t 36)]),none⟩] (au 101 [(0,.ref ρ 0 0),(2,.ref aP 0 0),(3,.ref z 0 0),(5,.ref c8 g o),(31,.ref c8 g o),(32,.ref c8 g o),(33,.ref c8 g o),(34,.ref c8 g (o+1)),(35,bZ),(36,.ref ρ 0 0)]) D=some (au 101 [(0,.ref ρ 0 0),(2,.ref aP 0 0),(3,.ref z 0 0),(5,.ref c8 g o),(31,.ref c8 g o),(32,.ref c8 g o),(33,.ref c8 g o),(34,.ref c8 g (o+1)),(35,bZ),(36,.ref ρ 0 0),(37,.agg [kg,eG,ee,gh,k6,zJ,vm,ud])],cS):=by
  simp only[aM,simprocAttr,aa]
  try rfl
 have aI:∃aW,cu call base (tG.drop 7) (au 101 [(0,.ref ρ 0 0),(2,.ref aP 0 0),(3,.ref z 0 0),(5,.ref c8 g o),(31,.ref c8 g o),(32,.ref c8 g o),(33,.ref c8 g o),(34,.ref c8 g (o+1)),(35,bZ),(36,.ref ρ 0 0),(37,.agg [kg,eG,ee,gh,k6,zJ,vm,ud])]) cS=some (au 101 ([(0,.ref ρ 0 0),(2,.ref aP 0 0),(3,.ref z 0 0),(5,.ref c8 g o),(31,.ref c8 g o),(32,.ref c8 g o),(33,.ref c8 g o),(34,.ref c8 g (o+1)),(35,bZ),(36,.ref ρ 0 0),(37,.agg [kg,eG,ee,gh,k6,zJ,vm,ud])]++aW),bY.set c8 (.cells g (dR++[eY,w])))/\aW=[(38,.aB cS.length 0 0 1 8),(39,w),(40,.ref c8 g o),(41,.ref c8 g (o+1))]:=by
  refine⟨_,?_,rfl⟩;have HB:=ez;simp only[qM,s7,oX]at HB
  have dd:o+1+1<=(dR++[eY,bZ]).length:=by rw[fU,aT];simp
  have aJF:(dR++[eY])++([w]++[])=dR++[eY,w]:=by simp
  simp only[tG,simprocAttr,B4,l3,aM,aD,hw,AU,g2,atw,HB,mP,aHp,dd]
  rw[show dR++[eY]++[w]=dR++[eY,w] by simp]
 obtain⟨aW,aI,rfl⟩:=aI;have ar:tG=tG.take 6++(⟨some 37,(.call (.c (.fn Ah [] [])) [(.t 36)]),none⟩:cF)::tG.drop 7:=rfl;rw[ar];refine(K2 ib ch aI rfl fun p aj=>?_).trans ?_
 .rw[fj]at aj;subst aj;refine⟨rfl,some c8,rfl,fun id e=>?_⟩;cases e;exact an
 .simp only[h5,simprocAttr,km,aM]
  try rfl
set_option maxHeartbeats 1000000 in
def aqk(hJ:Ag ah)(wf:jb ts)(base)(af:base<=ρ){C}(h:cJ ρ bB ts C a){aP z L}(age:ρ<aP)(aeC:aP<z)(G9:z<L)(g2:ao C aP 0=some lf){nm ps pv bv}(sE:ao C z 0=some [a7 nm,pv,bv])(wX:pv.one=true){K:Nat->Prop}{bU}(qP:FS L K C bv bU)(k4:L<=C.length)(ib:bU.length<=a/\∀b∈bU,b.code.length<=a){N}(dv:ts.length<N)(iG:N<2^21):
 match Bn (aJ.of ts) N nm ps bU a with
  |.error e=>e<ts.length/\∃bh,fP (aU ah) (nn ah) aG base (fun _ _=>True) zo (au 101 [(0,.ref ρ 0 0),(2,.ref aP 0 0),(3,.ref z 0 0)]) C (p9,.agg (cP (ts.getD e cU)),bh)/\aA L [ρ,z] C bh
  |.ok (.inl (f,b))=>b<ts.length/\f=⟨nm,ps,bU⟩/\∃bh D,aC (aU ah) aG base zo (au 101 [(0,.ref ρ 0 0),(2,.ref aP 0 0),(3,.ref z 0 0)]) C=some (.ret,au 101 [(2,.ref aP 0 0)],bh)/\bh=D.set aP (.cells 0 [a7 nm,pv,bv])/\aA L [ρ,z] C D/\ao bh ρ 0=some [bB,bg b]/\ao bh aP 0=some [a7 nm,pv,bv]/\FS L K bh bv bU
  |.ok (.inr (pV,b))=>b<ts.length/\a<b/\(pV.length<=b/\∀x∈pV,x.code.length<=b)/\∃zz K' bh,aC (aU ah) aG base zo (au 101 [(0,.ref ρ 0 0),(2,.ref aP 0 0),(3,.ref z 0 0)]) C=some (.bH,au 101 [(0,.ref ρ 0 0),(2,.ref aP 0 0),(3,.ref z 0 0)],bh)/\aA L [ρ,z] C bh/\ao bh ρ 0=some [bB,bg b]/\ao bh z 0=some [a7 nm,pv,zz]/\FS L K' bh zz pV/\∃id g n,zz=.aB id g 0 n 2/\L<=id:=by
 have ch:=hJ.bd.O;have Nv:(⟨#[58]⟩:ByteArray).data.toList=[58]:=rfl
 have oT:base<=L:=by omega
 have tw:base<=C.length:=by omega
 have aN:=h.n
 have Kr:base<=z:=by omega
 have fM:base<=aP:=by omega
 have Y6:z<C.length:=by omega
 obtain⟨t,aO⟩:∃t,ts.getD a cU=t:=⟨_,rfl⟩
 have sT:(aJ.of ts).text a=t.text:=by rw[<- aO];rfl
 have mP:(aJ.of ts).kind a=t.kind:=by rw[<- aO];rfl
 have q:=adk ch.R base af h;unfold LB at q;unfold Bn;by_cases alZ:nf (aJ.of ts) a=true
 .rw[a' alZ]at q |-;obtain⟨bp,D,n4,bj⟩:=q;refine⟨bp,D,kb (jm (it':=aG) (pre:=V5) (post:=[]) (.bV []) rfl rfl n4 ?_),aA.two (aA.low bj k4)⟩;simp only[jT,simprocAttr,aM,gQ]
 rw[bm alZ]at q |-;obtain⟨_,_,D,dA,cV,e9,rfl⟩:=q;have cX:=h.bT cV e9 h.lt
 have eC:aC (aU ah) aG base (.region M5 [] [20,21]) (au 101 [(0,.ref ρ 0 0),(2,.ref aP 0 0),(3,.ref z 0 0)]) C=some (.bH,au 101 [(0,.ref ρ 0 0),(2,.ref aP 0 0),(3,.ref z 0 0)],D):=by
  simp only[jT,simprocAttr,aM,dA]
 have KB:=cV.1
 obtain⟨cS,cw,bN⟩:=pW ch.R.now base (H:=D) (by omega) cX
 rw[aO]at cw;have aJz:=bN.le;obtain⟨bY,fu⟩:∃X,cS++[bq.cells 0 (cP t)]=X:=⟨_,rfl⟩;have IK:Ext cS bY:=fu▸Ext.app _ _
 have aEW:bY.length=cS.length+1:=by rw[<- fu,kw]
 have jV:∀c,ao (cS++[bq.cells 0 c]) cS.length 0=some c:=fun c=>dz cS 0 c;have k5:∀c e,(cS++[c]).set cS.length e=cS++[e]:=fun c e=>ln cS c e
 have apo:base<=cS.length:=by omega
 have g4:ao bY cS.length 0=some (cP t):=fu▸dz cS 0 _
 have iR:aC (aU ah) aG base (.region Qr [] [22,23]) (au 101 [(0,.ref ρ 0 0),(2,.ref aP 0 0),(3,.ref z 0 0)]) D=some (.bH,au 101 [(0,.ref ρ 0 0),(2,.ref aP 0 0),(3,.ref z 0 0),(4,.ref cS.length 0 0)],bY):=by
  simp only[cP]at cw fu;simp only[jT,simprocAttr,aM,cw,jV,k5,apo,fu]
 have B0:aA C.length [ρ] C bY:=aA.then' cV (aA.gn (bN.trans IK))
 have U:=cX.ext (bN.trans IK);have aJ4:aA L [ρ,z] C bY:=aA.two (aA.low B0 k4)
 have aDF:ao bY z 0=some [a7 nm,pv,bv]:=B0.ao sE Y6 (by rw[fj];omega)
 have aKf:FS L K bY bv bU:=qP.bT (fun id i1 i2=>B0.2 id i2 (by rw[fj];omega)) B0.1
 have axW:=B0.1;simp only[cP]at g4
 have SR:bv.one=true:=by obtain⟨iI,aV,_⟩:=qP.rows;exact aV.rd.one
 by_cases iX:((aJ.of ts).kind a==3&&(aJ.of ts).text a==[125])=true
 .
  rw[a' iX];rw[mP,sT,dr,cG]at iX
  have k1:(((t.kind:Nat):Int)==3)=true:=by rw[iX.1];rfl
  have k2:=iX.2
  have lE:aC (aU ah) aG base (.bc LV [43,44,45,46,47,48,49,50] [42]) (au 101 [(0,.ref ρ 0 0),(2,.ref aP 0 0),(3,.ref z 0 0),(4,.ref cS.length 0 0)]) bY=some (.bH,au 101 [(0,.ref ρ 0 0),(2,.ref aP 0 0),(3,.ref z 0 0),(4,.ref cS.length 0 0),(42,aL true)],bY):=by
   simp only[aL,simprocAttr,jT,aM,g4,k1,k2]
  have eJ:a+1<ts.length:=wf.qw a h.lt (by rw[aO,iX.1];decide)
  have vf:=U.g;obtain⟨dH,hx⟩:∃X,bY.set ρ (.cells 0 [bB,bg (a+1:Nat)])=X:=⟨_,rfl⟩
  have aV:IntKind.i64.wrap ((a:Int)+1)=((a+1:Nat):Int):=yr (by omega)
  have g3:ao dH ρ 0=some [bB,bg (a+1:Nat)]:=hx▸e4 vf _;have i':aA C.length [ρ] C dH:=hx▸aA.zP B0 _;have ax:=h.bT i' g3 eJ
  have r':aC (aU ah) aG base (.region PQ [] [4,42,51,52,53,54,55,56,57]) (au 101 [(0,.ref ρ 0 0),(2,.ref aP 0 0),(3,.ref z 0 0),(4,.ref cS.length 0 0),(42,aL true)]) bY=some (.bH,au 101 [(0,.ref ρ 0 0),(2,.ref aP 0 0),(3,.ref z 0 0)],dH):=by
   simp only[bg]at vf hx;simp only[aL,simprocAttr,jT,aM,vf,aV,af,hx]
  have q:=adk ch.R base af ax;unfold LB at q;by_cases anE:nf (aJ.of ts) (a+1)=true
  .rw[a' anE]at q |-;obtain⟨bp,E,n4,bj⟩:=q
   refine⟨bp,E,dG eC (dG iR (dG lE (sw rfl (dG r' (kb (jm (it':=aG) (pre:=VR) (post:=[]) (.bV []) rfl rfl n4 ?_)))))),aA.two (aA.app (aA.low i' k4) (aA.low bj (by have:=i'.1;omega)))⟩
   simp only[jT,simprocAttr,aM,gQ]
  .rw[bm anE]at q |-;obtain⟨_,_,E,cq,cN,et,rfl⟩:=q
   have vt:aA C.length [ρ] C E:=aA.then' i' cN
   have GQ:aC (aU ah) aG base (.region Sx [] [0,58,59]) (au 101 [(0,.ref ρ 0 0),(2,.ref aP 0 0),(3,.ref z 0 0)]) dH=some (.bH,au 101 [(2,.ref aP 0 0),(3,.ref z 0 0)],E):=by
    simp only[jT,simprocAttr,aM,cq]
   have GV:ao E z 0=some [a7 nm,pv,bv]:=vt.ao sE Y6 (by rw[fj];omega)
   have SQ:ao E aP 0=some lf:=vt.ao g2 (by omega) (by rw[fj];omega)
   have aj1:gl E true 3 (.ref z 0 0)=some (.agg [a7 nm,pv,bv]):=by rw[lW,GV];rfl
   obtain⟨F,BS⟩:∃X,E.set aP (.cells 0 [a7 nm,pv,bv])=X:=⟨_,rfl⟩
   have aDp:aC (aU ah) aG base (.seq (.region NY [] [3,60]) .ret) (au 101 [(2,.ref aP 0 0),(3,.ref z 0 0)]) E=some (.ret,au 101 [(2,.ref aP 0 0)],F):=by
    simp only[a7,lf]at aj1 SQ BS;simp only[jT,simprocAttr,aM,aj1,SQ,fM,wX,SR,k7,BS]
   have ao8:FS L K E bv bU:=qP.bT (fun id i1 i2=>vt.2 id i2 (by rw[fj];omega)) vt.1
   refine⟨eJ,rfl,F,E,?_,BS.symm,aA.two (aA.low vt k4),?_,BS▸e4 SQ _,?_⟩
   .exact MV ((eh eC).trans ((eh iR).trans (MV ((eh lE).trans ((Fk rfl).trans ((eh r').trans ((eh GQ).trans aDp)))))))
   .unfold ao at et |-
    rw[<- BS,cf (by omega)]
    exact et
   .exact ao8.bT (fun id i1 i2=>by rw[<- BS,cf (by omega)]) (by rw[<- BS,eF];exact bS _)
 rw[bm iX]
 have lE:aC (aU ah) aG base (.bc LV [43,44,45,46,47,48,49,50] [42]) (au 101 [(0,.ref ρ 0 0),(2,.ref aP 0 0),(3,.ref z 0 0),(4,.ref cS.length 0 0)]) bY=some (.bH,au 101 [(0,.ref ρ 0 0),(2,.ref aP 0 0),(3,.ref z 0 0),(4,.ref cS.length 0 0),(42,aL false)],bY):=by
  rw[nz,mP,sT]at iX;by_cases ax:t.kind=3
  .have k1:(((t.kind:Nat):Int)==3)=true:=by rw[ax];rfl
   rw[ax]at iX
   have k2:(t.text==[125])=false:=by simpa using iX
   simp only[aL,simprocAttr,jT,aM,g4,k1,k2]
  .have k1:(((t.kind:Nat):Int)==3)=false:=by rw[eZ];omega
   simp only[aL,simprocAttr,jT,aM,g4,k1]
 obtain⟨dH,s1,s2⟩:=an7 ch.R.now ch.R.second base (H:=bY) (by omega) U (fun e=>wf.qw a h.lt (by rw[e];decide)) ⟨#[58]⟩
 rw[Nv]at s1;simp only[a7,aL]at s1
 have i':aA C.length [ρ] C dH:=aA.then' B0 (aA.gn s2)
 have ax:=U.ext s2;have Ds:=df g4 s2;have kR:=df aDF s2
 have IQ:FS L K dH bv bU:=qP.bT (fun id i1 i2=>i'.2 id i2 (by rw[fj];omega)) i'.1
 have Tz:=i'.1;have C0:aA L [ρ,z] C dH:=aA.two (aA.low i' k4)
 have xY:∀c,nA (aJ.of ts) [58] a=c->aC (aU ah) aG base (.region Pq [] [42,62,63]) (au 101 [(0,.ref ρ 0 0),(2,.ref aP 0 0),(3,.ref z 0 0),(4,.ref cS.length 0 0),(42,aL false)]) bY=some (.bH,au 101 [(0,.ref ρ 0 0),(2,.ref aP 0 0),(3,.ref z 0 0),(4,.ref cS.length 0 0),(61,aL c)],dH):=by
  intro c aa;rw[aa]at s1;simp only[aL,simprocAttr,jT,aM,s1]
 by_cases sO:nA (aJ.of ts) [58] a=true
 .
  rw[a' sO];have KX:=sO;unfold nA at KX;rw[dr,dr,dr,cG,cG]at KX
  have eJ:a+1<ts.length:=wf.qw a h.lt (by rw[show(ts.getD a cU).kind=1 from KX.1];decide)
  have xG:a+2<ts.length:=wf.qw (a+1) eJ (by rw[show(ts.getD (a+1) cU).kind=3 from KX.2.1.1];decide)
  obtain⟨id,g,n,E,K',cy,a2,a3,a4,a5⟩:=IQ.LM oT (by omega) (kI t.text) (by omega)
  obtain⟨ti,wB⟩:∃X,E.set z (.cells 0 [a7 nm,pv,.aB id g 0 n 2])=X:=⟨_,rfl⟩
  have GV:ao E z 0=some [a7 nm,pv,bv]:=by
   unfold ao at kR |-;rw[a5 z G9];exact kR
  have aJC:=fun c=>df kR (Ext.app dH [c])
  have vj:aC (aU ah) aG base (.region RA [] [4,61,64,65,66,67,68,69,70,71]) (au 101 [(0,.ref ρ 0 0),(2,.ref aP 0 0),(3,.ref z 0 0),(4,.ref cS.length 0 0),(61,aL true)]) dH=some (.bH,au 101 [(0,.ref ρ 0 0),(2,.ref aP 0 0),(3,.ref z 0 0)],ti):=by
   simp only[a7,kI,bz]at kR cy GV wB;simp only[aL,simprocAttr,jT,aM,kR,Ds,cy,GV,Kr,wB]
  have O6:ao ti ρ 0=some [bB,bg a]:=by
   have:=ax.g;unfold ao at this |-
   rw[<- wB,cf (by omega),a5 ρ (by omega)]
   exact this
  obtain⟨ov,je⟩:∃X,ti.set ρ (.cells 0 [bB,bg (a+2:Nat)])=X:=⟨_,rfl⟩
  have aV:IntKind.i64.wrap ((a:Int)+2)=((a+2:Nat):Int):=by rw[IntKind.wrap_i64];omega
  have ave:aC (aU ah) aG base (.region RX [] [72,73,74,75,76,77,78]) (au 101 [(0,.ref ρ 0 0),(2,.ref aP 0 0),(3,.ref z 0 0)]) ti=some (.bH,au 101 [(0,.ref ρ 0 0),(2,.ref aP 0 0),(3,.ref z 0 0)],ov):=by
   simp only[bg]at O6 je;simp only[jT,simprocAttr,aM,O6,aV,af,je]
  have aJN:ov.length=E.length:=by rw[<- je,eF,<- wB,eF]
  have ai3:∀i,i≠ρ->i≠z->ov[i]?=E[i]?:=fun i J U=>by rw[<- je,cf (gG J),<- wB,cf (gG U)]
  rw[sT]
  refine⟨xG,by omega,⟨by rw[fU,bi];omega,fun x ae=>?_⟩,_,K',ov,?_,⟨by have:=C0.1;omega,fun i i1 i2=>?_⟩,je▸e4 O6 _,?_,a2.bT (fun i i1 i2=>ai3 i (by omega) (by omega)) (by omega),id,g,n,rfl,a3⟩
  .rcases l1.1 ae with ae|ae
   .have:=ib.2 x ae;omega
   .rw[fj]at ae;subst ae;exact fa _
  .exact yG ((eh eC).trans ((eh iR).trans (yG ((eh lE).trans ((Jj rfl).trans ((eh (xY true sO)).trans ((Fk rfl).trans ((eh vj).trans ave))))))))
  .simp at i2;rw[ai3 i i2.1 i2.2,a5 i i1]
   exact C0.2 i i1 (by simp;exact i2)
  .have:ao ti z 0=some [a7 nm,pv,.aB id g 0 n 2]:=wB▸e4 GV _;unfold ao at this |-
   rw[<- je,cf (by omega)]
   exact this
 rw[bm sO];rw[nz]at sO;have Kw:=xY false sO
 have Hh:h0 dH .s bv=some (.s (.int .i64 bU.length)):=by
  obtain⟨iI,aV,b4,_⟩:=IQ.rows;rw[aV.rd.len,b4]
 by_cases tA:((aJ.of ts).kind a != 1||bU.length==0)=true
 .
  rw[a' tA];rw[mP]at tA |-
  have rl:aC (aU ah) aG base (.bc Jm [61,80,81,82,83,84,85,86,87,88] [79]) (au 101 [(0,.ref ρ 0 0),(2,.ref aP 0 0),(3,.ref z 0 0),(4,.ref cS.length 0 0),(61,aL false)]) dH=some (.bH,au 101 [(0,.ref ρ 0 0),(2,.ref aP 0 0),(3,.ref z 0 0),(4,.ref cS.length 0 0),(79,aL true)],dH):=by
   simp only[a7]at kR;by_cases J:t.kind=1
   .have k1:(((t.kind:Nat):Int) != 1)=false:=by rw[J];rfl
    rw[J]at tA
    have k2:bU.length=0:=by simpa using tA
    have dx:(((bU.length:Nat):Int)==0)=true:=by rw[k2];rfl
    simp only[aL,simprocAttr,jT,aM,Ds,kR,Hh,k1,dx]
   .have k1:(((t.kind:Nat):Int) != 1)=true:=by rw[hU];omega
    simp only[aL,simprocAttr,jT,aM,Ds,kR,Hh,k1]
  by_cases J:t.kind=1
  .rw[a' J]
   have eJ:a+1<ts.length:=wf.qw a h.lt (by rw[aO,J];decide)
   have k1:(((t.kind:Nat):Int)==1)=true:=by rw[J];rfl
   have vf:=ax.g;obtain⟨E,bx⟩:∃X,dH.set ρ (.cells 0 [bB,bg (a+1:Nat)])=X:=⟨_,rfl⟩
   have aV:IntKind.i64.wrap ((a:Int)+1)=((a+1:Nat):Int):=yr (by omega)
   have vt:aA C.length [ρ] C E:=bx▸aA.zP i' _;have aB2:=h.bT vt (bx▸e4 vf _) eJ
   have CN:aC (aU ah) aG base (.seq (.bc Jk [4,79,89,90] [91]) (.cond (.t 91) (.region Lp [] [91,92,93,94,95,96,97,98]) .skip)) (au 101 [(0,.ref ρ 0 0),(2,.ref aP 0 0),(3,.ref z 0 0),(4,.ref cS.length 0 0),(79,aL true)]) dH=some (.bH,au 101 [(0,.ref ρ 0 0),(2,.ref aP 0 0),(3,.ref z 0 0)],E):=by
    simp only[bg]at vf bx;simp only[aL,simprocAttr,jT,aM,Ds,k1,vf,aV,af,bx]
   obtain⟨F,f1,f2⟩:=v7 ch.R.now base (H:=E) (by have:=vt.1;omega) aB2
   refine⟨eJ,F,dG eC (dG iR (dG lE (BG rfl (dG Kw (BG rfl (dG rl (sw rfl (dG CN (jm (it':=aG) (pre:=OG) (post:=[]) (.bV []) rfl rfl f1 ?_))))))))),aA.two (aA.app (aA.low vt k4) (aA.low (aA.gn f2) (by have:=vt.1;omega)))⟩
   simp only[jT,simprocAttr,aM,gQ]
  .rw[bm J]
   have k1:(((t.kind:Nat):Int)==1)=false:=by rw[eZ];omega
   have CN:aC (aU ah) aG base (.seq (.bc Jk [4,79,89,90] [91]) (.cond (.t 91) (.region Lp [] [91,92,93,94,95,96,97,98]) .skip)) (au 101 [(0,.ref ρ 0 0),(2,.ref aP 0 0),(3,.ref z 0 0),(4,.ref cS.length 0 0),(79,aL true)]) dH=some (.bH,au 101 [(0,.ref ρ 0 0),(2,.ref aP 0 0),(3,.ref z 0 0),(91,aL false)],dH):=by
    simp only[aL,simprocAttr,jT,aM,Ds,k1]
   obtain⟨F,f1,f2⟩:=v7 ch.R.now base (H:=dH) (by omega) ax
   refine⟨h.lt,F,dG eC (dG iR (dG lE (BG rfl (dG Kw (BG rfl (dG rl (sw rfl (dG CN (jm (it':=aG) (pre:=OG) (post:=[]) (.bV []) rfl rfl f1 ?_))))))))),aA.two (aA.app (aA.low i' k4) (aA.low (aA.gn f2) (by omega)))⟩
   simp only[aL,simprocAttr,jT,aM,gQ]
 rw[bm tA];rw[mP,nz,rq]at tA
 have pE:t.kind=1:=by simpa using tA.1
 have nC:bU≠[]:=by
  intro e;have:=tA.2;rw[e]at this;cases this
 have k1:(((t.kind:Nat):Int) != 1)=false:=by rw[pE];rfl
 have dx:(((bU.length:Nat):Int)==0)=false:=by
  rw[eZ];have:bU.length≠0:=fun e=>nC (lO e);omega
 obtain⟨dj,CY,ml⟩:∃dj x,bU=dj++[x]:=⟨bU.dropLast,bU.getLast nC,(QT nC).symm⟩
 have rl:aC (aU ah) aG base (.bc Jm [61,80,81,82,83,84,85,86,87,88] [79]) (au 101 [(0,.ref ρ 0 0),(2,.ref aP 0 0),(3,.ref z 0 0),(4,.ref cS.length 0 0),(61,aL false)]) dH=some (.bH,au 101 [(0,.ref ρ 0 0),(2,.ref aP 0 0),(3,.ref z 0 0),(4,.ref cS.length 0 0),(79,aL false)],dH):=by
  simp only[a7]at kR;simp only[aL,simprocAttr,jT,aM,Ds,kR,Hh,k1,dx]
 rw[ml]at IQ
 obtain⟨c8,g,gK,bZ,tq,i1,i2,i3,i4,i5⟩:=IQ.oJ (base:=base) oT (by omega)
 have azW:bU.length=dj.length+1:=by rw[ml,fU,bi]
 have aJ0:CY.code.length<=a:=ib.2 CY (by rw[ml];simp)
 have J5:aC (aU ah) aG base (.bc QI [4,24,25,26,27,28,29,30,79] [5]) (au 101 [(0,.ref ρ 0 0),(2,.ref aP 0 0),(3,.ref z 0 0),(4,.ref cS.length 0 0),(79,aL false)]) dH=some (.bH,au 101 [(0,.ref ρ 0 0),(2,.ref aP 0 0),(3,.ref z 0 0),(5,.ref c8 g (dj.length*2))],dH):=by
  have aV:IntKind.i64.wrap (((dj.length+1:Nat):Int)-1)=((dj.length:Nat):Int):=by rw[IntKind.wrap_i64];have:=ib.1;omega
  have awy:j9 2 (.aB c8 g 0 (dj.length+1) 2) (.s (.int .i64 (dj.length:Nat)))=some (.ref c8 g (dj.length*2)):=by
   rw[sX,a' ⟨by omega,by omega,rfl⟩,oH,j2]
  rw[azW]at Hh;subst tq;simp only[a7]at kR;simp only[aL,simprocAttr,jT,aM,kR,Hh,aV,awy]
 have q:=azT hJ.bd wf base af ax (by rw[mP];exact pE) dv iG
 unfold eE at q;cases hi:va (aJ.of ts) N a with
 |error e=>
   rw[hi]at q;obtain⟨bp,E,n4,bj⟩:=q
   have OK:(gb).all V.one=true:=by decide
   obtain⟨w,rE,gX,z2,z3,z4⟩:∃w rE,gW (dH++[.cells 0 gb]) base 8 128 bZ (.aB dH.length 0 0 1 8)=some (w,rE)/\w.cells=[w]/\w.one=true/\ao rE c8 g=some (gK++[a7 CY.label,bZ]):=by
    obtain⟨id,g',c3,cb,h2,hA,_⟩:=i5 dH gb iC (fun i=>dH.length<=i/\i<dH.length) (fun _ _ _=>rfl) (bS _) rfl OK (fun _ h=>h) (fun H' an=>xR.rd (m:=dH.length) (H:=dH) ⟨bz,bz,rfl,cp.start _ _ _,cp.start _ _ _⟩ (fun i i1 i2=>an i ⟨i1,i2⟩) (by decide) (by decide)) (by omega)
    exact⟨_,cb,h2,rfl,rfl,hA⟩
   have an:=ajD (call:=na (.agg gb)) (it:=aG) (ρ:=ρ) (aP:=aP) (z:=z) base (by omega) i2 i3 rfl OK (gQ _ _ _ _ _) rfl gX i4 z2 z3 z4
   refine⟨bp,E,dG eC (dG iR (dG lE (BG rfl (dG Kw (BG rfl (dG rl (BG rfl (dG J5 (jm (it':=aG) (pre:=tG.take 6) (post:=tG.drop 7) (cg:=au 101 [(0,.ref ρ 0 0),(2,.ref aP 0 0),(3,.ref z 0 0),(5,.ref c8 g (dj.length*2)),(31,.ref c8 g (dj.length*2)),(32,.ref c8 g (dj.length*2)),(33,.ref c8 g (dj.length*2)),(34,.ref c8 g (dj.length*2+1)),(35,bZ),(36,.ref ρ 0 0)]) (H1:=dH) (.agg gb) rfl ?_ n4 (by rw[an];rfl)))))))))),aA.two (aA.app (aA.low i' k4) (aA.low bj (by omega)))⟩
   have fi:(gK++[a7 CY.label,bZ]).drop (dj.length*2+1)=[bZ]:=by
    rw[<- i3,zF,qO (by omega)]
    simp
   simp only[tG,simprocAttr,fI,gq,aM,i2,fi,fI,gq]
   try rfl
 |ok p=>
   obtain⟨x,b⟩:=p;rw[hi]at q;obtain⟨bp,_,E,n4,bj,c4,r,rfl,I6,ez⟩:=q;obtain⟨aDb,oI,aJT⟩:=ada hi
   have aer:r.all V.one=true:=by
    obtain⟨cd,lw,rfl,fK,jU⟩:=ez;have gy:=fK.rd.one;have u2:=jU.rd.one;simp only[dL,qM,s7,gy,u2,oX];rfl
   obtain⟨id,g',c3,ov,h2,hA,lN,GH,zl,_⟩:=i5 E r x (fun i=>dH.length<=i/\i<E.length) (fun i i1 i2=>bj.2 i i2 (by rw[fj];omega)) bj.1 I6 aer (fun _ h=>h) (fun H' an=>ez.rd (fun i i1 i2=>an i ⟨i1,i2⟩) (by omega) (by omega)) (by omega)
   have GI:=ajD (call:=aU ah) (it:=aG) (ρ:=ρ) (aP:=aP) (z:=z) base (by omega) i2 i3 I6 aer n4 (bj.2 c8 (hL i2) (by rw[fj];omega)) h2 i4 rfl rfl hA
   obtain⟨lJ,Qi⟩:∃X,ov.set c8 (.cells g (gK++[a7 CY.label,.aB id g' 0 c3 8]))=X:=⟨_,rfl⟩;rw[Qi]at GI lN
   have RR:∀i,i<L->lJ[i]?=E[i]?:=fun i hi=>by rw[<- Qi,cf (by omega),zl i hi]
   have aJS:lJ.length=ov.length:=by rw[<- Qi,eF]
   dsimp only
   refine⟨bp,aDb,⟨?_,fun y bA=>?_⟩,bv,_,lJ,?_,⟨by have:=bj.1;omega,fun i i1 L'=>?_⟩,?_,?_,by rw[ml];exact lN,c8,g,_,tq,i1⟩
   .rw[ml,KK,fU,bi];omega
   .rw[ml,KK]at bA
    rcases l1.1 bA with bA|bA
    .have:=ib.2 y (by rw[ml];exact lH _ bA);omega
    .rw[fj]at bA;subst bA;show(CY.code++[x]).length<=b;rw[fU,bi];omega
   .exact yG ((eh eC).trans ((eh iR).trans (yG ((eh lE).trans ((Jj rfl).trans ((eh Kw).trans ((Jj rfl).trans ((eh rl).trans ((Jj rfl).trans ((eh J5).trans GI))))))))))
   .rw[RR i i1];simp at L'
    rw[bj.2 i (by omega) (by rw[fj];exact L'.1)]
    exact C0.2 i i1 (by simp;exact L')
   .unfold ao at c4 |-
    rw[RR ρ (by omega)]
    exact c4
   .have:=bj.ao kR (by omega) (by rw[fj];omega)
    unfold ao at this |-;rw[RR z G9];exact this
end
section
variable {ah:Nat->Option c7} {ρ:Nat} {bB:V} {ts:List Tok.T} {a:Nat}
def aIu(hJ:Ag ah)(wf:jb ts)(base:Nat)(af:base<=ρ){aP z L:Nat}(age:ρ<aP)(aeC:aP<z)(G9:z<L){nm ps pv}(wX:pv.one=true){N:Nat}(dv:ts.length<N)(iG:N<2^21):∀(n:Nat) {a:Nat} {C:az} {bv:V} {K:Nat->Prop} {bU:List mY},cJ ρ bB ts C a->ao C aP 0=some lf->ao C z 0=some [a7 nm,pv,bv]->FS L K C bv bU->L<=C.length->(bU.length<=a/\∀b∈bU,b.code.length<=a)->ts.length<a+n->
 match ng (aJ.of ts) N nm ps n bU a with
  |.ok (f,b)=>b<ts.length/\∃G' zz bh,f=⟨nm,ps,G'⟩/\aG (aC (aU ah) aG base zo) [] L (au 101 [(0,.ref ρ 0 0),(2,.ref aP 0 0),(3,.ref z 0 0)]) C=some (.ret,au 101 [(2,.ref aP 0 0)],bh)/\(∀id,id<L->id≠ρ->id≠z->id≠aP->bh[id]?=C[id]?)/\L<=bh.length/\ao bh ρ 0=some [bB,bg b]/\ao bh aP 0=some [a7 nm,pv,zz]/\zz.one=true/\∀H',(∀id,L<=id->id<bh.length->H'[id]?=bh[id]?)->ga 2 q8 H' zz G'
  |.error e=>e<ts.length/\∃bh,oa (fun fr H=>aC (aU ah) aG base zo fr H) (fun fr H r=>fP (aU ah) (nn ah) aG base (fun _ _=>True) zo fr H r) [] L (au 101 [(0,.ref ρ 0 0),(2,.ref aP 0 0),(3,.ref z 0 0)]) C (p9,.agg (cP (ts.getD e cU)),bh)/\aA L [ρ,z] C bh:=by
 intro n
 induction n with
 |zero=>intro a C bv K bU h _ _ _ _ _ aN;have:=h.lt;omega
 |succ n aw=>
   intro a C bv K bU h g2 sE qP k4 ib al;have q:=aqk hJ wf base af h age aeC G9 g2 (ps:=ps) sE wX qP k4 ib dv iG;rw[PI];cases aq:Bn (aJ.of ts) N nm ps bU a with
   |error e=>
     rw[aq]at q;obtain⟨bp,bh,n4,bj⟩:=q;exact⟨bp,bh,.here n4,bj⟩
   |ok p=>
     cases p with
     |inl p=>
       obtain⟨f,b⟩:=p;rw[aq]at q;obtain⟨bp,rfl,bh,D,n4,bj,c4,iu,iw,rG⟩:=q;dsimp only
       have ak:L<=bh.length:=by rw[bj,eF];exact c4.1
       have SR:bv.one=true:=by obtain⟨iI,aV,_⟩:=qP.rows;exact aV.rd.one
       refine⟨bp,bU,bv,trim L (au 101 [(2,.ref aP 0 0)]) bh,rfl,?_,fun id i1 i2 i3 i4=>?_,?_,?_,?_,SR,fun H' an=>?_⟩
       .rw[eo,n4,alj,zI]
       .have HQ:=aA.trim (aA.low (aA.refl ([]:List Nat) bh) ak) (bS L) (au 101 [(2,.ref aP 0 0)])
        rw[HQ.2 id i1 (by simp),bj,cf (by omega)]
        exact c4.2 id i1 (by simp;omega)
       .exact(aA.trim (aA.low (aA.refl ([]:List Nat) bh) ak) (bS L) _).1
       .exact(aA.trim (aA.low (aA.refl ([]:List Nat) bh) ak) (bS L) _).ao iu (by omega) (by simp)
       .exact(aA.trim (aA.low (aA.refl ([]:List Nat) bh) ak) (bS L) _).ao iw (by omega) (by simp)
       .obtain⟨iI,aV,b4,dJ⟩:=rG.rows
        obtain⟨_,⟨aF,aK⟩|⟨id,g,aF,_,hid⟩⟩:=id aV
        .have nC:bU=[]:=lO (by rw[<- b4,aF];rfl)
         subst nC;subst aK
         exact⟨[],cp.rx (cp.start 0 2 H'),rfl,by decide,fun i x ae=>by simp at ae⟩
        .have jC:trim L (au 101 [(2,.ref aP 0 0)]) bh=bh:=Hj iw (by omega) (id:=id) (g':=g) (n:=iI.length) (w:=2) (by rw[aF];simp) hid _
         rw[jC]at an;exact rG.done an
     |inr p=>
       obtain⟨pV,b⟩:=p;rw[aq]at q;obtain⟨bp,sI,NM,zz,K',bh,n4,bj,c4,iu,iw,id,g,m,aF,hid⟩:=q;dsimp only
       have jC:∀fr,trim L fr bh=bh:=fun fr=>Hj iu G9 (id:=id) (g':=g) (n:=m) (w:=2) (by rw[aF];simp) hid fr
       have axj:ao bh aP 0=some lf:=bj.ao g2 (by omega) (by simp;omega)
       have q:=aw (h.MZ (by omega) (by omega) bj c4 bp) axj iu iw bj.1 NM (by omega)
       cases aO:ng (aJ.of ts) N nm ps n pV b with
       |error e=>
         rw[aO]at q;obtain⟨bC,D,bP,dk⟩:=q
         refine⟨bC,D,.next n4 ?_,aA.app bj dk⟩
         rw[zI,jC];exact bP
       |ok p=>
         obtain⟨f,b'⟩:=p;rw[aO]at q;obtain⟨bC,G',ay3,D,rfl,bP,dk,eC,iR,lE,r'⟩:=q;refine⟨bC,G',ay3,D,rfl,?_,fun id i1 i2 i3 i4=>?_,eC,iR,lE,r'⟩
         .rw[eo,n4,H7,zI,jC];exact bP
         .rw[dk id i1 i2 i3 i4]
          exact bj.2 id i1 (by simp;omega)
set_option maxHeartbeats 1000000 in
def aAz(hJ:Ag ah)(wf:jb ts)(base)(af:base<=ρ){H}(h:cJ ρ bB ts H a)(pE:(aJ.of ts).kind a=1){N}(dv:ts.length<N)(iG:N<2^21):eE ah base yK [.ref ρ 0 0] ρ bB ts [ρ] H (um (aJ.of ts) N a) (fun f v H'=>∃r,v=.agg r/\r.length=3/\r.all V.one=true/\∀fZ,(∀id,H.length<=id->id<H'.length->fZ[id]?=H'[id]?)->qG fZ r f):=by
 have ch:=hJ.bd.O;have atg:(⟨#[123]⟩:ByteArray).data.toList=[123]:=rfl;have iV:=h.pos;have aN:=h.n
 have eJ:a+1<ts.length:=wf.qw a h.lt (by rw[show(ts.getD a cU).kind=1 from pE];decide)
 obtain⟨b7,qK⟩:∃X,H++[bq.cells 0 lf]=X:=⟨_,rfl⟩
 have ij:b7.length=H.length+1:=by rw[<- qK,kw]
 have ck:Ext H b7:=qK▸Ext.app _ _;have g20:ao b7 H.length 0=some lf:=qK▸dz H 0 _
 have hq:aC (aU ah) aG base (.region Rf [] G6) (au oV.ntmps (mJ ([]++[.ref ρ 0 0]++[]) 0)) H=some (.bH,au 101 [(0,.ref ρ 0 0),(2,.ref H.length 0 0)],b7):=by
  simp only[lf,bz]at qK;simp only[oV,simprocAttr,jT,aM,qK]
 have vf:=(h.ext ck).g;obtain⟨H1,oB⟩:∃X,b7.set ρ (.cells 0 [bB,bg (a+1:Nat)])=X:=⟨_,rfl⟩
 have aV:IntKind.i64.wrap ((a:Int)+1)=((a+1:Nat):Int):=yr (by omega)
 have ph:aA H.length [ρ] H H1:=oB▸aA.zP (aA.gn ck) _
 have en:H1.length=H.length+1:=by rw[<- oB,eF,ij]
 have J:=h.bT ph (oB▸e4 vf _) eJ
 have bC:aC (aU ah) aG base (.region Oe [] [6,7,8,9,10,11,12]) (au 101 [(0,.ref ρ 0 0),(2,.ref H.length 0 0)]) b7=some (.bH,au 101 [(0,.ref ρ 0 0),(2,.ref H.length 0 0)],H1):=by
  simp only[bg]at vf oB;simp only[jT,simprocAttr,aM,vf,aV,af,oB]
 have g21:ao H1 H.length 0=some lf:=by
  unfold ao at g20 |-
  rw[<- oB,cf (by omega)]
  exact g20
 have qP:(aC (na (a7 ⟨#[]⟩)) aG base (.region IW [] [13,14,15,16,17]) (au 101 [(0,.ref ρ 0 0),(2,.ref H.length 0 0)]) H1).isSome=true:=by
  have jV:∀c,ao (H1++[bq.cells 0 c]) H1.length 0=some c:=fun c=>dz H1 0 c;have k5:∀c e,(H1++[c]).set H1.length e=H1++[e]:=fun c e=>ln H1 c e
  have aBQ:base<=H1.length:=by omega
  simp only[a7,simprocAttr,jT,aM,gQ,jV,k5,aBQ]
 have q:=vY ch.R wf base af J;unfold um eE;unfold eE at q;unfold cr.bind;cases aq:dN (aJ.of ts) (a+1)with
 |error e=>
   rw[aq]at q;obtain⟨bp,D,aP,bj⟩:=q
   exact⟨bp,D,pH (c:=oV) (k:=1) rfl hJ.Gk rfl (by decide) Ff rfl hq (dG bC (kb (jm (it':=aG) (pre:=RY) (post:=QR) (a7 ⟨#[]⟩) rfl rfl aP qP))),aA.then' ph bj⟩
 |ok p=>
   obtain⟨nm,b⟩:=p;rw[aq]at q;obtain⟨bp,_,bK,aP,bj,c4,rfl⟩:=q;have U:=J.bT bj c4 bp;dsimp only;have q:=Tt ch.R ch.list wf base af U dv iG;unfold eE at q
   have pX:=aA.then' ph bj
   cases aO:o9 (aJ.of ts) N b with
   |error e=>
     rw[aO]at q;obtain⟨t1,D,t2,t3⟩:=q
     exact⟨t1,D,pH (c:=oV) (k:=1) rfl hJ.Gk rfl (by decide) Ff rfl hq (dG bC (kb (Zz (it':=aG) (EB:=RY) (Dz:=VT) (post:=MH) (a7 ⟨#[]⟩) rfl rfl aP rfl t2 qP))),aA.then' pX t3⟩
   |ok p=>
     obtain⟨ps,c⟩:=p;rw[aO]at q;obtain⟨t1,pv,c6,t2,t3,t4,mp,aJe,wX⟩:=q;have ax:=U.bT t3 t4 t1
     have i':=aA.then' pX t3
     have Co:pv.one=true:=wX.rd.one;have CZ:=nS.Si (u' wX);dsimp only;obtain⟨gj,jN⟩:∃X,c6++[bq.cells 0 [a7 nm,pv,bz]]=X:=⟨_,rfl⟩;have e3:Ext c6 gj:=jN▸Ext.app _ _
     have sY:gj.length=c6.length+1:=by rw[<- jN,kw]
     have aE0:ao gj c6.length 0=some [a7 nm,pv,bz]:=jN▸dz c6 0 _;have aY:=ax.ext e3
     have bP:aC (aU ah) aG base (.region IW [] [13,14,15,16,17]) (au 101 [(0,.ref ρ 0 0),(2,.ref H.length 0 0)]) H1=some (.bH,au 101 [(0,.ref ρ 0 0),(2,.ref H.length 0 0),(3,.ref c6.length 0 0)],gj):=by
      have jV:∀c,ao (c6++[bq.cells 0 c]) c6.length 0=some c:=fun c=>dz c6 0 c;have k5:∀c e,(c6++[c]).set c6.length e=c6++[e]:=fun c e=>ln c6 c e
      have asA:base<=c6.length:=by have:=i'.1;omega
      simp only[a7,bz]at aP jN;simp only[jT,simprocAttr,aM,aP,t2,Co,CZ,jV,k5,asA,jN]
     have uw:aA H.length [ρ] H gj:=aA.then' i' (aA.gn e3)
     have q:=vv ch.R wf base af aY ⟨#[123]⟩;rw[atg]at q;unfold eE at q;cases hu:ul (aJ.of ts) [123] c with
     |error e=>
       rw[hu]at q;obtain⟨gy,D,u2,u3⟩:=q
       refine⟨gy,D,pH (c:=oV) (k:=1) rfl hJ.Gk rfl (by decide) Ff rfl hq (dG bC (dG bP (kb (jm (it':=aG) (pre:=VO) (post:=[]) (.bV []) rfl rfl u2 ?_)))),aA.then' uw u3⟩
       simp only[jT,simprocAttr,aM,gQ]
     |ok p=>
       obtain⟨u,d⟩:=p;rw[hu]at q;obtain⟨gy,_,qy,u2,u3,sN,rfl⟩:=q;dsimp only;have cl:=aY.bT u3 sN gy
       have sA:=aA.then' uw u3
       simp only[a7]at u2
       have dk:aC (aU ah) aG base (.region QC [] [18,19]) (au 101 [(0,.ref ρ 0 0),(2,.ref H.length 0 0),(3,.ref c6.length 0 0)]) gj=some (.bH,au 101 [(0,.ref ρ 0 0),(2,.ref H.length 0 0),(3,.ref c6.length 0 0)],qy):=by
        simp only[jT,simprocAttr,aM,u2]
       have ajc:=i'.1;have aJ8:H1.length<=bK.length:=bj.1;have aJZ:bK.length<=c6.length:=t3.1;have aJj:=u3.1
       have Te:ao qy c6.length 0=some [a7 nm,pv,bz]:=u3.ao aE0 (by omega) (by rw[fj];omega)
       have Jl:ao qy H.length 0=some lf:=by
        have cy:ao bK H.length 0=some lf:=bj.ao g21 (by omega) (by rw[fj];omega)
        have a2:ao c6 H.length 0=some lf:=t3.ao cy (by omega) (by rw[fj];omega)
        exact u3.ao (df a2 e3) (by omega) (by rw[fj];omega)
       have q:=aIu hJ wf base af (aP:=H.length) (z:=c6.length) (L:=qy.length) (by omega) (by omega) (by omega) (nm:=nm) (ps:=ps) Co dv iG N cl Jl Te (FS.start _ _) (bS _) ⟨fa _,fun b af=>by simp at af⟩ (by omega)
       cases av:ng (aJ.of ts) N nm ps N [] d with
       |error e=>
         rw[av]at q;obtain⟨v1,D,v2,v3⟩:=q
         refine⟨v1,D,pH (c:=oV) (k:=1) rfl hJ.Gk rfl (by decide) Ff rfl hq (dG bC (dG bP (dG dk v2))),aA.app sA ?_⟩
         exact⟨by have:=v3.1;omega,fun i i1 i2=>v3.2 i (by omega) (by simp at i2 |-;omega)⟩
       |ok p=>
         obtain⟨f,cV⟩:=p;rw[av]at q;obtain⟨v1,G',bv,bh,rfl,v2,v3,v4,v5,v6,Al,aIS⟩:=q
         have key:∀fZ:az,(∀id,H.length<=id->id<bh.length->fZ[id]?=bh[id]?)->cp mp 1 fZ pv (fX ps):=fun fZ an=>wX.bT fun id g n e=>by
          have bt:=wX.lt id g n e
          have kY:mp<=id:=by rw[e]at wX;exact fS wX
          rw[an id (by omega) (by omega),v3 id (by omega) (by omega) (by omega) (by omega),u3.2 id (by omega) (by rw[fj];omega),e3.get bt]
         refine⟨v1,.agg [a7 nm,pv,bv],bh,?_,⟨by omega,fun i i1 i2=>?_⟩,v5,_,rfl,rfl,by simp only[qM,s7,Co,Al,oX];rfl,fun fZ an=>⟨pv,bv,rfl,?_,?_,?_,?_⟩⟩
         .refine iY (c:=oV) (k:=1) hJ.Gk rfl (by decide) Ff ?_
          have key:aC (aU ah) aG base oV.body (au oV.ntmps (mJ ([]++[.ref ρ 0 0]++[]) 0)) H=some (.ret,au 101 [(2,.ref H.length 0 0)],bh):=(eh hq).trans ((eh bC).trans ((eh bP).trans ((eh dk).trans (MV v2))));rw[key]
          have yu:iT bh true 3 (.ref H.length 0 0)=some (.agg [a7 nm,pv,bv]):=by
           show gl _ true 3 _=_;rw[lW,v6];rfl
          simp only[oV,simprocAttr,aM];rw[yu];rfl
         .rw[fj]at i2
          rw[v3 i (by omega) i2 (by omega) (by omega)]
          exact sA.2 i i1 (by rw[fj];exact i2)
         .exact(u' (key fZ an)).rd
         .exact nS.Er (u' (key fZ an))
         .have:=Mf aO;show ps.length<_;omega
         .exact aIS fZ fun id i1 i2=>an id (by omega) i2
end
structure j3 (m:Nat) (C:az) (v:V) (bG:List hv):Prop where
 n:bG.length<2^21
 rows:∃R:List (List V),cp m 3 C v R/\R.length=bG.length/\∀(i:Nat) (f:hv),bG[i]?=some f->∃r:List V,R[i]?=some r/\∀H',(∀id,m<=id->id<C.length->(∀g n,v≠.aB id g 0 n 3)->H'[id]?=C[id]?)->qG H' r f
def j3.start(m C):j3 m C bz []:=⟨by decide,[],cp.start _ _ _,rfl,fun i f h=>by simp at h⟩
def j3.bT{m C bh v bG}(h:j3 m C v bG)(an:∀id,m<=id->id<C.length->bh[id]?=C[id]?)(ak:C.length<=bh.length):j3 m bh v bG:=by
 obtain⟨R,aV,b4,dJ⟩:=h.rows
 refine⟨h.n,R,aV.bT fun id g n e=>by subst e;exact an id (fS aV) (aV.lt id g n rfl),b4,fun i f al=>?_⟩
 obtain⟨r,bC,bP⟩:=dJ i f al
 exact⟨r,bC,fun H' aD=>bP H' fun id i1 i2 i3=>by rw[aD id i1 (by omega) i3,an id i1 i2]⟩
def j3.done{m C v bG}(h:j3 m C v bG){H'}(an:∀id,m<=id->id<C.length->H'[id]?=C[id]?):pB H' v bG:=by
 obtain⟨R,aV,b4,dJ⟩:=h.rows
 have av:cp m 3 H' v R:=aV.bT fun id g n e=>by subst e;exact an id (fS aV) (aV.lt id g n rfl)
 refine⟨R,cp.rx av,b4,by have:=h.n;omega,fun i f al=>?_⟩
 obtain⟨r,bC,bP⟩:=dJ i f al;exact⟨r,bC,bP H' fun id i1 i2 _=>an id i1 i2⟩
def j3.add{m base C bF v bG}(h:j3 m C v bG)(af:base<=m)(hm:m<=C.length)(an:∀id,m<=id->id<C.length->bF[id]?=C[id]?)(ak:C.length<=bF.length){r}(kV:r.length=3)(ez:r.all V.one=true){f}(al:∀H',(∀id,C.length<=id->id<bF.length->H'[id]?=bF[id]?)->qG H' r f)(aN:bG.length+1<2^21):
 ∃id g n cb,gW (bF++[.cells 0 r]) base 3 64 v (.aB bF.length 0 0 1 3)=some (.aB id g 0 n 3,cb)/\j3 m cb (.aB id g 0 n 3) (bG++[f])/\m<=id/\bF.length<=cb.length/\∀i,i<m->cb[i]?=bF[i]?:=by
 obtain⟨R,aV,b4,dJ⟩:=h.rows
 have HJ:cp m 3 bF v R:=aV.bT fun id g n e=>by subst e;exact an id (fS aV) (aV.lt id g n rfl)
 obtain⟨id,g,n,cb,cy,a2,a3,a4,a5⟩:=Dc HJ (base:=base) (bytes:=64) af (by omega) kV ez (by rw[b4];omega)
 have hid:m<=id:=fS a2
 have sk:∀i,i<m->cb[i]?=bF[i]?:=fun i hi=>a4 i (by omega) fun g' c3 e=>by
  subst e;have:=fS HJ;omega
 refine⟨id,g,n,cb,cy,⟨by rw[fU];exact aN,R++[r],a2,by simp[b4],fun i eU qj=>?_⟩,hid,a3,sk⟩
 by_cases hi:i<bG.length
 .rw[d' hi]at qj;obtain⟨hq,bC,bP⟩:=dJ i eU qj
  refine⟨hq,by rw[d' (by omega)];exact bC,fun H' aD=>bP H' fun j h2 hA lN=>?_⟩
  have dq:∀g' c3,V.aB id g 0 n 3≠.aB j g' 0 c3 3:=fun g' c3 e=>by
   cases e
   rcases a5 with⟨g2,bN,aK⟩|aK
   .exact lN g2 bN aK
   .omega
  rw[aD j h2 (by omega) dq,a4 j (by omega) lN,an j h2 hA]
 .have fG:i=bG.length:=by
   have:=(cC.1 qj).1;simp at this;omega
  subst fG;rw[gB (bS _),r0]at qj;cases qj
  refine⟨r,by rw[gB (by omega),b4,r0];rfl,fun H' aD=>al H' fun j h2 hA=>?_⟩
  have Hw:∀g' c3,v≠.aB j g' 0 c3 3:=fun g' c3 e=>by
   have:=aV.lt j g' c3 e;omega
  have dq:∀g' c3,V.aB id g 0 n 3≠.aB j g' 0 c3 3:=fun g' c3 e=>by
   cases e
   rcases a5 with⟨g2,bN,aK⟩|aK
   .exact Hw g2 bN aK
   .omega
  rw[aD j (by omega) (by omega) dq,a4 j hA Hw]
section
variable {ah:Nat->Option c7} {ρ:Nat} {bB:V} {ts:List Tok.T} {a:Nat}
theorem aaN{call:c5}{it:gS}(base){D cS bY z2 z3 z4 fn}(fM:base<=z2){pv}(pj:ao D z2 0=some [pv]){kg eG ee}(ez:[kg,eG,ee].all V.one=true)(aa:call (.fn yK [] []) [.ref ρ 0 0] base D=some (.agg [kg,eG,ee],cS))(an:cS[z2]?=D[z2]?){w}(aD:gW (cS++[.cells 0 [kg,eG,ee]]) base 3 64 pv (.aB cS.length 0 0 1 3)=some (w,bY))(sC:pv.one=true)(hw:w.cells=[w])(AU:w.one=true)(g2:ao bY z2 0=some [pv]){xJ}:
 aC call it base (.region tm [(1,3)] [36,39,40,41,42,43,44,45]) (au 48 [(2,.ref z2 0 0),(3,.ref z3 0 0),(4,.ref z4 0 0),(6,.ref ρ 0 0),(15,aL false),(19,fn),(36,xJ)]) D=some (.bH,au 48 [(2,.ref z2 0 0),(3,.ref z3 0 0),(4,.ref z4 0 0),(6,.ref ρ 0 0),(15,aL false),(19,fn)],bY.set z2 (.cells 0 [w])):=by
 have ib:cu call base (tm.take 3) (au 48 [(2,.ref z2 0 0),(3,.ref z3 0 0),(4,.ref z4 0 0),(6,.ref ρ 0 0),(15,aL false),(19,fn),(36,xJ)]) D=some (au 48 [(2,.ref z2 0 0),(3,.ref z3 0 0),(4,.ref z4 0 0),(6,.ref ρ 0 0),(15,aL false),(19,fn),(36,xJ),(39,.ref z2 0 0),(40,pv),(41,.ref ρ 0 0)],D):=by
  simp only[tm,simprocAttr,fI,gq,aM,pj,fI,gq]
  try rfl
 have ch:cu call base [⟨some 42,(.call (.c (.fn yK [] [])) [(.t 41)]),none⟩] (au 48 [(2,.ref z2 0 0),(3,.ref z3 0 0),(4,.ref z4 0 0),(6,.ref ρ 0 0),(15,aL false),(19,fn),(36,xJ),(39,.ref z2 0 0),(40,pv),(41,.ref ρ 0 0)]) D=some (au 48 [(2,.ref z2 0 0),(3,.ref z3 0 0),(4,.ref z4 0 0),(6,.ref ρ 0 0),(15,aL false),(19,fn),(36,xJ),(39,.ref z2 0 0),(40,pv),(41,.ref ρ 0 0),(42,.agg [kg,eG,ee])],cS):=by
  simp only[aM,simprocAttr,aa]
  try rfl
 have aI:cu call base (tm.drop 4) (au 48 [(2,.ref z2 0 0),(3,.ref z3 0 0),(4,.ref z4 0 0),(6,.ref ρ 0 0),(15,aL false),(19,fn),(36,xJ),(39,.ref z2 0 0),(40,pv),(41,.ref ρ 0 0),(42,.agg [kg,eG,ee])]) cS=some (au 48 [(2,.ref z2 0 0),(3,.ref z3 0 0),(4,.ref z4 0 0),(6,.ref ρ 0 0),(15,aL false),(19,fn),(36,xJ),(39,.ref z2 0 0),(40,pv),(41,.ref ρ 0 0),(42,.agg [kg,eG,ee]),(43,.aB cS.length 0 0 1 3),(44,w),(45,.ref z2 0 0)],bY.set z2 (.cells 0 [w])):=by
  have HB:=ez;simp only[qM,s7,oX]at HB;simp only[tm,simprocAttr,B4,l3,aM,aD,hw,AU,g2,fM,HB]
  try rfl
 have ar:tm=tm.take 3++(⟨some 42,(.call (.c (.fn yK [] [])) [(.t 41)]),none⟩:cF)::tm.drop 4:=rfl;rw[ar];refine(K2 ib ch aI rfl fun p aj=>?_).trans ?_
 .rw[fj]at aj;subst aj;refine⟨rfl,some z2,rfl,fun id e=>?_⟩;cases e;exact an
 .simp only[aM,simprocAttr]
  try rfl
end
def Gg(V:aJ)(N:Nat)(bG:List hv)(a:Nat):Except Nat (Option (List hv × Nat)):=
 if V.kind a=4 then .ok none else
  if(V.kind a != 1||V.text a != [102,117,110,99])=true then .error a
  else match um V N a with
   |.error e=>.error e
   |.ok (f,b)=>.ok (some (bG++[f],b))
theorem aGB(V:aJ)(N n bG a):wE V N (n+1) bG a=match Gg V N bG a with
 |.error e=>.error e
 |.ok none=>.ok (bG,a)
 |.ok (some (yR,b))=>wE V N n yR b:=by
 unfold Gg;rw[wE];by_cases J:V.kind a=4
 .rw[a' J,a' J]
 rw[bm J,bm J]
 by_cases U:(V.kind a != 1||V.text a != [102,117,110,99])=true
 .rw[a' U,a' U]
 rw[bm U,bm U];unfold cr.bind;cases um V N a with
 |error e=>rfl
 |ok p=>rfl
def awe(H):qG H lf Ew:=by
 have h:nS 0 H bz []:=.inl ⟨rfl,.inl rfl⟩
 refine⟨bz,bz,rfl,h.rd,nS.Er h,by decide,[],cp.rx (cp.start 0 2 H),rfl,by decide,fun i x ae=>?_⟩
 simp[Ew]at ae
abbrev amr(g0 g1 g2:V):mK:=fun l fr=>(fr.getD 2 .bs=g0/\fr.getD 3 .bs=g1/\fr.getD 4 .bs=g2)/\∀o∈l,o.dst≠some 2/\o.dst≠some 3/\o.dst≠some 4
section
variable {ah:Nat->Option c7} {ρ:Nat} {bB:V} {ts:List Tok.T} {a:Nat}
def cJ.asz{L z b:Nat}{H H'}(h:cJ ρ bB ts H a)(dw:ρ<L)(b5:∀id g n,bB=.aB id g 0 n 5->id≠z)(k:aA L [ρ,z] H H')(g:ao H' ρ 0=some [bB,bg b])(af:b<ts.length):cJ ρ bB ts H' b:=by
 obtain⟨m,w⟩:=h.w;refine⟨g,⟨m,w.bT fun id g n av=>?_⟩,h.ed,af,h.n⟩;have:=h.ed id g n av;have:=b5 id g n av
 exact k.2 id (by omega) (by simp;omega)
def azr(hJ:Ag ah)(wf:jb ts)(base){C}(h:cJ ρ bB ts C a){z2 z3 z4 L}(fM:base<=z2)(Wi:z2<ρ)(Ez:ρ<L){fn pv}(sE:ao C z2 0=some [pv]){bG}(EP:j3 L C pv bG)(k4:L<=C.length)(ib:bG.length<=a){N}(dv:ts.length<N)(iG:N<2^21):
 match Gg (aJ.of ts) N bG a with
  |.error e=>e<ts.length/\∃bh,fP (aU ah) (nn ah) aG base (amr (.ref z2 0 0) (.ref z3 0 0) (.ref z4 0 0)) wL (au 48 [(2,.ref z2 0 0),(3,.ref z3 0 0),(4,.ref z4 0 0),(6,.ref ρ 0 0),(15,aL false),(19,fn)]) C (p9,.agg (cP (ts.getD e cU)),bh)/\aA L [ρ,z2] C bh/\ao bh z2 0=some [pv]
  |.ok none=>∃bh,aC (aU ah) aG base wL (au 48 [(2,.ref z2 0 0),(3,.ref z3 0 0),(4,.ref z4 0 0),(6,.ref ρ 0 0),(15,aL false),(19,fn)]) C=some (.ext 0,au 48 [(2,.ref z2 0 0),(3,.ref z3 0 0),(4,.ref z4 0 0),(6,.ref ρ 0 0),(15,aL false),(19,fn),(26,aL false)],bh)/\Ext C bh
  |.ok (some (yR,b))=>b<ts.length/\a<b/\yR.length<=b/\∃kZ bh,aC (aU ah) aG base wL (au 48 [(2,.ref z2 0 0),(3,.ref z3 0 0),(4,.ref z4 0 0),(6,.ref ρ 0 0),(15,aL false),(19,fn)]) C=some (.bH,au 48 [(2,.ref z2 0 0),(3,.ref z3 0 0),(4,.ref z4 0 0),(6,.ref ρ 0 0),(15,aL false),(19,fn)],bh)/\aA L [ρ,z2] C bh/\ao bh ρ 0=some [bB,bg b]/\ao bh z2 0=some [kZ]/\j3 L bh kZ yR/\∃id g n,kZ=.aB id g 0 n 3/\L<=id:=by
 have ch:=hJ.bd.O
 have af:base<=ρ:=by omega
 have aN:=h.n
 have tw:base<=C.length:=by omega
 obtain⟨t,aO⟩:∃t,ts.getD a cU=t:=⟨_,rfl⟩
 have sT:(aJ.of ts).text a=t.text:=by rw[<- aO];rfl
 have mP:(aJ.of ts).kind a=t.kind:=by rw[<- aO];rfl
 obtain⟨bF,cw,bN⟩:=pW ch.R.now base tw h;rw[aO]at cw;simp only[cP]at cw;have aqz:=bN.le;have J:=h.ext bN;unfold Gg;by_cases aY:(aJ.of ts).kind a=4
 .rw[a' aY];rw[mP]at aY
  have k1:(((t.kind:Nat):Int) != 4)=false:=by rw[aY];rfl
  refine⟨bF,?_,bN⟩;simp only[aL,simprocAttr,rX,aM,cw,k1]
 rw[bm aY]
 have k1:(((t.kind:Nat):Int) != 4)=true:=by rw[hU];rw[mP]at aY;omega
 have lE:aC (aU ah) aG base (.seq (.region MF [] [23,24,25]) (.cond (.t 26) .skip (.exit 0))) (au 48 [(2,.ref z2 0 0),(3,.ref z3 0 0),(4,.ref z4 0 0),(6,.ref ρ 0 0),(15,aL false),(19,fn)]) C=some (.bH,au 48 [(2,.ref z2 0 0),(3,.ref z3 0 0),(4,.ref z4 0 0),(6,.ref ρ 0 0),(15,aL false),(19,fn),(26,aL true)],bF):=by
  simp only[aL,simprocAttr,rX,aM,cw,k1]
 obtain⟨cb,m1,m2⟩:=pW ch.R.now base (H:=bF) (by omega) J
 rw[aO]at m1;simp only[cP]at m1;have axW:=m2.le;obtain⟨eN,iq⟩:∃X,cb++[bq.cells 0 (cP t)]=X:=⟨_,rfl⟩;have dS:Ext cb eN:=iq▸Ext.app _ _;have lJ:Ext C eN:=bN.trans (m2.trans dS);have Tz:=lJ.le;have ax:=h.ext lJ;have jV:∀c,ao (cb++[bq.cells 0 c]) cb.length 0=some c:=fun c=>dz cb 0 c;have k5:∀c e,(cb++[c]).set cb.length e=cb++[e]:=fun c e=>ln cb c e
 have atI:base<=cb.length:=by omega
 have g7:ao eN cb.length 0=some (cP t):=iq▸dz cb 0 _
 have r':aC (aU ah) aG base (.region Mt [] [26,27,28]) (au 48 [(2,.ref z2 0 0),(3,.ref z3 0 0),(4,.ref z4 0 0),(6,.ref ρ 0 0),(15,aL false),(19,fn),(26,aL true)]) bF=some (.bH,au 48 [(2,.ref z2 0 0),(3,.ref z3 0 0),(4,.ref z4 0 0),(6,.ref ρ 0 0),(7,.ref cb.length 0 0),(15,aL false),(19,fn)],eN):=by
  simp only[cP]at iq;simp only[aL,simprocAttr,rX,aM,m1,jV,k5,atI,iq]
 simp only[cP]at g7;have kR:=df sE lJ
 have WR:pv.one=true:=by obtain⟨R,aV,_⟩:=EP.rows;exact aV.rd.one
 by_cases qA:((aJ.of ts).kind a != 1||(aJ.of ts).text a != [102,117,110,99])=true
 .rw[a' qA];rw[mP,sT]at qA
  have GQ:aC (aU ah) aG base (.bc Gx [7,29,30,31,32,33,34,35] [36]) (au 48 [(2,.ref z2 0 0),(3,.ref z3 0 0),(4,.ref z4 0 0),(6,.ref ρ 0 0),(7,.ref cb.length 0 0),(15,aL false),(19,fn)]) eN=some (.bH,au 48 [(2,.ref z2 0 0),(3,.ref z3 0 0),(4,.ref z4 0 0),(6,.ref ρ 0 0),(15,aL false),(19,fn),(36,aL true)],eN):=by
   by_cases J:t.kind=1
   .have k1:(((t.kind:Nat):Int) != 1)=false:=by rw[J];rfl
    rw[J]at qA
    have k2:(t.text==[102,117,110,99])=false:=by simpa using qA
    simp only[aL,simprocAttr,rX,aM,g7,k1,k2]
   .have k1:(((t.kind:Nat):Int) != 1)=true:=by rw[hU];omega
    simp only[aL,simprocAttr,rX,aM,g7,k1]
  obtain⟨D,f1,f2⟩:=v7 ch.R.now base (H:=eN) (by omega) ax
  refine⟨h.lt,D,dG lE (kb (dG r' (dG GQ (sw rfl (akT (it':=aG) (pre:=adg) (post:=[]) (.bV []) ⟨⟨rfl,rfl,rfl⟩,by decide⟩ rfl rfl f1 ?_))))),aA.two (aA.low (aA.gn (lJ.trans f2)) k4),df sE (lJ.trans f2)⟩
  simp only[aL,simprocAttr,rX,aM,gQ]
 rw[bm qA];rw[nz,mP,sT,rq]at qA
 have pE:t.kind=1:=by simpa using qA.1
 have GQ:aC (aU ah) aG base (.seq (.bc Gx [7,29,30,31,32,33,34,35] [36]) (.cond (.t 36) (.region Iq [] [36,37,38]) .skip)) (au 48 [(2,.ref z2 0 0),(3,.ref z3 0 0),(4,.ref z4 0 0),(6,.ref ρ 0 0),(7,.ref cb.length 0 0),(15,aL false),(19,fn)]) eN=some (.bH,au 48 [(2,.ref z2 0 0),(3,.ref z3 0 0),(4,.ref z4 0 0),(6,.ref ρ 0 0),(15,aL false),(19,fn),(36,aL false)],eN):=by
  have k1:(((t.kind:Nat):Int) != 1)=false:=by rw[pE];rfl
  have k2:(t.text==[102,117,110,99])=true:=by simpa using qA.2
  simp only[aL,simprocAttr,rX,aM,g7,k1,k2]
 have W8:aC (aU ah) aG base (.seq (.region Mt [] [26,27,28]) (.seq (.bc Gx [7,29,30,31,32,33,34,35] [36]) (.cond (.t 36) (.region Iq [] [36,37,38]) .skip))) (au 48 [(2,.ref z2 0 0),(3,.ref z3 0 0),(4,.ref z4 0 0),(6,.ref ρ 0 0),(15,aL false),(19,fn),(26,aL true)]) bF=some (.bH,au 48 [(2,.ref z2 0 0),(3,.ref z3 0 0),(4,.ref z4 0 0),(6,.ref ρ 0 0),(15,aL false),(19,fn),(36,aL false)],eN):=(eh r').trans GQ
 have q:=aAz hJ wf base af ax (by rw[mP];exact pE) dv iG
 have amm:j3 L eN pv bG:=EP.bT (fun id i1 i2=>lJ.get i2) Tz;have C0:aA L [ρ,z2] C eN:=aA.two (aA.low (aA.gn lJ) k4);unfold eE at q;cases al:um (aJ.of ts) N a with
 |error e=>
   rw[al]at q;obtain⟨bp,D,aP,bj⟩:=q
   have ZY:([V.s (.string ⟨#[]⟩),bz,bz]:List V).all V.one=true:=by decide
   obtain⟨id,g,n,rE,gX,q7,amv,ati,Hv⟩:=amm.add (base:=base) (by omega) (by omega) (fun _ _ _=>rfl) (bS _) (r:=lf) rfl ZY (f:=Ew) (fun H' _=>awe H') (by have:=h.lt;omega)
   have Te:ao rE z2 0=some [pv]:=by
    unfold ao at kR |-
    rw[Hv z2 (by omega)]
    exact kR
   have an:=aaN (call:=na (.agg lf)) (it:=aG) (ρ:=ρ) (z3:=z3) (z4:=z4) (fn:=fn) (xJ:=aL false) base fM kR ZY (gQ _ _ _ _ _) rfl gX WR rfl rfl Te
   refine⟨bp,D,dG lE (dG W8 (akT (it':=aG) (pre:=tm.take 3) (post:=tm.drop 4) (cg:=au 48 [(2,.ref z2 0 0),(3,.ref z3 0 0),(4,.ref z4 0 0),(6,.ref ρ 0 0),(15,aL false),(19,fn),(36,aL false),(39,.ref z2 0 0),(40,pv),(41,.ref ρ 0 0)]) (H1:=eN) (.agg lf) ⟨⟨rfl,rfl,rfl⟩,by decide⟩ rfl ?_ aP (by rw[an];rfl))),aA.app C0 (aA.two (aA.low bj (by omega))),bj.ao kR (hL kR) (by rw[fj];omega)⟩
   simp only[tm,simprocAttr,fI,gq,aM,kR,fI,gq]
   try rfl
 |ok p=>
   obtain⟨f,b⟩:=p;rw[al]at q;obtain⟨bp,_,D,aP,bj,c4,r,rfl,kV,ez,arS⟩:=q;have sI:=aHd al
   obtain⟨id,g,n,bY,gX,q7,amv,ati,Hv⟩:=amm.add (base:=base) (by omega) (by omega) (fun i i1 i2=>bj.2 i i2 (by rw[fj];omega)) bj.1 kV ez arS (by have:=h.lt;omega)
   have af2:ao D z2 0=some [pv]:=bj.ao kR (hL kR) (by rw[fj];omega)
   have anc:ao bY z2 0=some [pv]:=by
    unfold ao at af2 |-
    rw[Hv z2 (by omega)]
    exact af2
   obtain⟨kg,eG,ee,rfl⟩:∃kg eG ee,r=[kg,eG,ee]:=by
    match r,kV with
    | [kg,eG,ee],_=>exact⟨_,_,_,rfl⟩
   have GI:=aaN (call:=aU ah) (it:=aG) (ρ:=ρ) (z3:=z3) (z4:=z4) (fn:=fn) (xJ:=aL false) base fM kR ez aP (bj.2 z2 (hL kR) (by rw[fj];omega)) gX WR rfl rfl anc
   obtain⟨dH,hx⟩:∃X,bY.set z2 (.cells 0 [.aB id g 0 n 3])=X:=⟨_,rfl⟩;rw[hx]at GI
   have OM:∀i,i≠z2->dH[i]?=bY[i]?:=fun i hi=>by rw[<- hx,cf (gG hi)]
   have aI2:dH.length=bY.length:=by rw[<- hx,eF]
   have KB:=bj.1;dsimp only
   refine⟨bp,sI.1,by rw[fU,bi];omega,_,dH,(eh lE).trans (yG ((eh W8).trans GI)),⟨by omega,fun i i1 i2=>?_⟩,?_,hx▸e4 anc _,q7.bT (fun i i1 i2=>OM i (by omega)) (by omega),id,g,n,rfl,amv⟩
   .simp at i2
    rw[OM i i2.2,Hv i i1,bj.2 i (by omega) (by rw[fj];exact i2.1)]
    exact C0.2 i i1 (by simp;exact i2)
   .unfold ao at c4 |-
    rw[OM ρ (by omega),Hv ρ (by omega)]
    exact c4
def aA5(hJ:Ag ah)(wf:jb ts)(base:Nat){z2 z3 z4 L:Nat}(fM:base<=z2)(Wi:z2<ρ)(Ez:ρ<L)(b5:∀id g n,bB=.aB id g 0 n 5->id≠z2){fn}{N:Nat}(dv:ts.length<N)(iG:N<2^21):∀(n:Nat) {a:Nat} {C:az} {pv:V} {bG:List hv},cJ ρ bB ts C a->ao C z2 0=some [pv]->j3 L C pv bG->L<=C.length->bG.length<=a->ts.length<a+n->
 match wE (aJ.of ts) N n bG a with
  |.ok (yR,b)=>∃kZ bh,aG (aC (aU ah) aG base wL) [] L (au 48 [(2,.ref z2 0 0),(3,.ref z3 0 0),(4,.ref z4 0 0),(6,.ref ρ 0 0),(15,aL false),(19,fn)]) C=some (.ext 0,au 48 [(2,.ref z2 0 0),(3,.ref z3 0 0),(4,.ref z4 0 0),(6,.ref ρ 0 0),(15,aL false),(19,fn),(26,aL false)],bh)/\aA L [ρ,z2] C bh/\ao bh z2 0=some [kZ]/\kZ.one=true/\kZ.cells=[kZ]/\∀H',(∀id,L<=id->id<bh.length->H'[id]?=bh[id]?)->pB H' kZ yR
  |.error e=>e<ts.length/\∃bh,oa (fun fr H=>aC (aU ah) aG base wL fr H) (fun fr H r=>fP (aU ah) (nn ah) aG base (amr (.ref z2 0 0) (.ref z3 0 0) (.ref z4 0 0)) wL fr H r) [] L (au 48 [(2,.ref z2 0 0),(3,.ref z3 0 0),(4,.ref z4 0 0),(6,.ref ρ 0 0),(15,aL false),(19,fn)]) C (p9,.agg (cP (ts.getD e cU)),bh)/\aA L [ρ,z2] C bh/\∃p,ao bh z2 0=some [p]:=by
 intro n
 induction n with
 |zero=>intro a C pv bG h _ _ _ _ aN;have:=h.lt;omega
 |succ n aw=>
   intro a C pv bG h sE EP k4 ib al;have q:=azr hJ wf base h (z3:=z3) (z4:=z4) fM Wi Ez (fn:=fn) sE EP k4 ib dv iG;rw[aGB];cases aq:Gg (aJ.of ts) N bG a with
   |error e=>
     rw[aq]at q;obtain⟨bp,bh,aP,bj,c4⟩:=q;exact⟨bp,bh,.here aP,bj,_,c4⟩
   |ok p=>
     cases p with
     |none=>
       rw[aq]at q;obtain⟨bF,aP,bj⟩:=q;dsimp only
       have ql:L<=bF.length:=by have:=bj.le;omega
       obtain⟨fr,qg⟩:∃fr,au 48 [(2,V.ref z2 0 0),(3,.ref z3 0 0),(4,.ref z4 0 0),(6,.ref ρ 0 0),(15,aL false),(19,fn),(26,aL false)]=fr:=⟨_,rfl⟩;have HQ:=aA.trim (aA.low (aA.refl ([]:List Nat) bF) ql) (bS L) fr;have ph:aA L [ρ,z2] C bF:=aA.two (aA.low (aA.gn bj) k4);have Ya:=df sE bj;have XG:j3 L bF pv bG:=EP.bT (fun id i1 i2=>bj.get i2) bj.le;obtain⟨R,aV,b4,_⟩:=XG.rows
       have CZ:pv.cells=[pv]:=by
        obtain⟨_,⟨_,rfl⟩|⟨id,g,rfl,_⟩⟩:=aV<;>rfl
       refine⟨pv,trim L fr bF,?_,ph.trim (bS L) _,HQ.ao Ya (by omega) (by simp),aV.rd.one,CZ,fun H' an=>?_⟩
       .rw[eo,aP,qg];rfl
       .obtain⟨_,⟨aF,aK⟩|⟨id,g,aF,_,hid⟩⟩:=id aV
        .have nC:bG=[]:=lO (by rw[<- b4,aF];rfl)
         subst nC;subst aK
         exact⟨[],cp.rx (cp.start 0 3 H'),rfl,by decide,fun i x ae=>by simp at ae⟩
        .have jC:trim L fr bF=bF:=Hj Ya (by omega) (id:=id) (g':=g) (n:=R.length) (w:=3) (by rw[aF];simp) hid _
         rw[jC]at an;exact XG.done an
     |some p=>
       obtain⟨yR,b⟩:=p;rw[aq]at q;obtain⟨bp,sI,NM,kZ,bh,aP,bj,c4,iu,iw,id,g,m,aF,hid⟩:=q;dsimp only
       have jC:∀fr,trim L fr bh=bh:=fun fr=>Hj iu (by omega) (id:=id) (g':=g) (n:=m) (w:=3) (by rw[aF];simp) hid fr
       have q:=aw (h.asz Ez b5 bj c4 bp) iu iw bj.1 NM (by omega)
       cases aO:wE (aJ.of ts) N n yR b with
       |error e=>
         rw[aO]at q;obtain⟨bC,D,bP,dk,eC⟩:=q
         refine⟨bC,D,.next aP ?_,aA.app bj dk,eC⟩
         rw[zI,jC];exact bP
       |ok p=>
         obtain⟨f,b'⟩:=p;rw[aO]at q;obtain⟨S0,D,bP,dk,eC,iR,lE,r'⟩:=q;refine⟨S0,D,?_,aA.app bj dk,eC,iR,lE,r'⟩;rw[eo,aP,H7,zI,jC];exact bP
end
def eK:nw where
 N:=48
 rH:=.region D6 [] se
 qD:=.region P9 [] [0,8,9,10,11,12,13]
 kT:=.seq (.bc Lk [14] [15]) (.cond (.t 15) (.seq (.region LU [(1,3),(2,3),(2,4)] [5,15,16,17,18]) .ret) .skip)
 Ce:=.seq (.region IT [] [5,20,21,22]) (.seq (.block 0 (.loop [] wL)) (.seq (.region LI [] [6,26,46,47]) .ret))
 a:=2
 b:=3
 c:=4
 d:=19
 k1:=an1
 hq:=6
 bC:=7
 yT:=19
 jy:=p9
 z:=.agg mE
 ij:=alF
 wh:=.seq (.bc Rp [4] [10]) (.cond (.t 10) (.seq (.region Qv [(3,4)] [0,1,10,11,12,13,14]) (.seq (.bc Nw [3,15,16,17] [18]) (.cond (.t 18) (.region Q0 [] [2,18]) .skip))) .skip)
 rs:=yP.results
abbrev ayM(g0 g1 g2 y:V):Env:=[(0,g0),(1,g1),(2,g2),(3,bR),(4,bR),(5,bR),(6,.bs),(7,y),(8,bR),(9,bR),(10,bR),(11,bR),(12,bR),(13,bR),(14,bR),(15,bR),(16,bR),(17,bR),(18,bR)]
section
variable {ah:Nat->Option c7} {H:az}
def ag1{call:c5}(base)(af:base<=H.length)(g0 g1 g2 kg eG ee gh k6)(ae:[kg,eG,ee,gh,k6].all V.one=true)(c):cu call base (eK.ij.drop 2) (put (some eK.bC) (.bV [.agg [kg,eG,ee,gh,k6],.s (.bool c)]) (put (some eK.hq) .bs ([g0,g1,g2]++List.replicate (eK.yT-3) bR))) H=some (au 19 [(0,g0),(1,g1),(2,g2),(3,.ref H.length 0 0),(4,.s (.bool c)),(5,.bV [.agg [kg,eG,ee,gh,k6],.s (.bool c)]),(6,.bs),(7,.bV [.agg [kg,eG,ee,gh,k6],.s (.bool c)]),(8,.agg [kg,eG,ee,gh,k6]),(9,.s (.bool c)),(10,bR),(11,bR),(12,bR),(13,bR),(14,bR),(15,bR),(16,bR),(17,bR),(18,bR)],H++[.cells 0 [kg,eG,ee,gh,k6]]):=by
 have qg:put (some eK.bC) (.bV [.agg [kg,eG,ee,gh,k6],.s (.bool c)]) (put (some eK.hq) .bs ([g0,g1,g2]++List.replicate (eK.yT-3) bR))=au 19 (ayM g0 g1 g2 (.bV [.agg [kg,eG,ee,gh,k6],.s (.bool c)])):=rfl;have ak:eK.ij.drop 2=[⟨some 5,(.move (.t 7)),none⟩,⟨some 8,(.extract (.t 5) 0),none⟩,⟨some 9,(.extract (.t 5) 1),none⟩,⟨some 3,(.alloc [(.s (.int .u8 0)),(.s (.string ⟨#[]⟩)),(.s (.int .i64 0)),(.s (.int .i64 0)),(.s (.int .i64 0))]),none⟩,⟨none,(.store 5 (.t 3) (.t 8)),none⟩,⟨some 4,(.move (.t 9)),none⟩]:=rfl;rw[qg,ak];have jV:∀c,ao (H++[bq.cells 0 c]) H.length 0=some c:=fun c=>dz H 0 c;have k5:∀c e,(H++[c]).set H.length e=H++[e]:=fun c e=>ln H c e;simp only[qM,s7,oX]at ae;simp only[aM,simprocAttr,jV,k5,af,ae]
def aEJ(base)(af:base<=H.length)(g0 g1 g2):eK.uo (aU ah) aG base (.bV [eK.z,.s (.bool false)]) g0 g1 g2 H (H++[.cells 0 mE]):=by
 refine⟨_,_,au 19 [(0,g0),(1,g1),(2,g2),(3,.ref H.length 0 0),(5,.bV [.agg mE,.s (.bool false)]),(6,.bs),(7,.bV [.agg mE,.s (.bool false)]),(8,.agg mE),(9,.s (.bool false)),(10,aL false),(11,bR),(12,bR),(13,bR),(14,bR),(15,bR),(16,bR),(17,bR),(18,bR)],ag1 base af g0 g1 g2 _ _ _ _ _ (by decide) false,?_⟩
 simp only[eK,simprocAttr,mE,aL,KP,aM]
def aEe(base)(af:base<=H.length){z2 z3 z4}(fM:base<=z2)(Ve:z2<z3)(aKp:z3<z4)(aY:z4<H.length){ku cn dK iE}(k2:ao H z2 0=some [ku])(dx:ao H z3 0=some [cn,dK])(hs:ao H z4 0=some [iE])(t):
 ∃H',eK.uo (aU ah) aG base (.bV [.agg (cP t),.s (.bool true)]) (.ref z2 0 0) (.ref z3 0 0) (.ref z4 0 0) H H'/\ao H' z2 0=some [bz]/\ao H' z3 0=some [bg t.line,bg t.jB]/\ao H' z4 0=some [bg (if t.kind=4 then 41 else 40)]/\H.length<=H'.length/\∀id,id<H.length->id≠z2->id≠z3->id≠z4->H'[id]?=H[id]?:=by
 obtain⟨zK,Ku⟩:∃X,H++[bq.cells 0 (cP t)]=X:=⟨_,rfl⟩;have ck:Ext H zK:=Ku▸Ext.app _ _
 have ij:zK.length=H.length+1:=by rw[<- Ku,kw]
 have gt:ao zK H.length 0=some (cP t):=Ku▸dz H 0 _;have ax:=ag1 (call:=aU ah) base af (.ref z2 0 0) (.ref z3 0 0) (.ref z4 0 0) (.s (.int .u8 t.kind)) (.s (.string ⟨t.text.toArray⟩)) (bg t.n) (bg t.line) (bg t.jB) rfl true;have auv:H++[bq.cells 0 [.s (.int .u8 t.kind),.s (.string ⟨t.text.toArray⟩),bg t.n,bg t.line,bg t.jB]]=zK:=Ku;rw[auv]at ax;obtain⟨y,bA⟩:∃y,V.bV [.agg [.s (.int .u8 t.kind),.s (.string ⟨t.text.toArray⟩),bg t.n,bg t.line,bg t.jB],.s (.bool true)]=y:=⟨_,rfl⟩;obtain⟨xD,asR⟩:∃y,V.agg [.s (.int .u8 t.kind),.s (.string ⟨t.text.toArray⟩),bg t.n,bg t.line,bg t.jB]=y:=⟨_,rfl⟩;obtain⟨cS,fL⟩:∃X,zK.set z2 (.cells 0 [bz])=X:=⟨_,rfl⟩;obtain⟨bY,fu⟩:∃X,cS.set z3 (.cells 0 [bg t.line,bg t.jB])=X:=⟨_,rfl⟩;obtain⟨dH,hx⟩:∃X,bY.set z4 (.cells 0 [bg 40])=X:=⟨_,rfl⟩;obtain⟨z8,H6⟩:∃X,dH.set z4 (.cells 0 [bg 41])=X:=⟨_,rfl⟩;have cV:=df k2 ck
 have e9:ao cS z3 0=some [cn,dK]:=by
  have:=df dx ck;unfold ao at this |-
  rw[<- fL,cf (by omega)]
  exact this
 have hD:ao bY z4 0=some [iE]:=by
  have:=df hs ck;unfold ao at this |-
  rw[<- fu,cf (by omega),<- fL,cf (by omega)]
  exact this
 have Tb:ao dH H.length 0=some (cP t):=by
  unfold ao at gt |-
  rw[<- hx,cf (by omega),<- fu,cf (by omega),<- fL,cf (by omega)]
  exact gt
 have LS:ao dH z4 0=some [bg 40]:=hx▸e4 hD _
 have ax3:base<=z3:=by omega
 have V':base<=z4:=by omega
 have bC:aC (aU ah) aG base (.bc Rp [4] [10]) (au 19 [(0,.ref z2 0 0),(1,.ref z3 0 0),(2,.ref z4 0 0),(3,.ref H.length 0 0),(4,.s (.bool true)),(5,y),(6,.bs),(7,y),(8,xD),(9,.s (.bool true)),(10,bR),(11,bR),(12,bR),(13,bR),(14,bR),(15,bR),(16,bR),(17,bR),(18,bR)]) zK=some (.bH,au 19 [(0,.ref z2 0 0),(1,.ref z3 0 0),(2,.ref z4 0 0),(3,.ref H.length 0 0),(5,y),(6,.bs),(7,y),(8,xD),(9,.s (.bool true)),(10,aL true),(11,bR),(12,bR),(13,bR),(14,bR),(15,bR),(16,bR),(17,bR),(18,bR)],zK):=by
  simp only[aL,simprocAttr,KP,aM]
 have U:cu (aU ah) base Qv (au 19 [(0,.ref z2 0 0),(1,.ref z3 0 0),(2,.ref z4 0 0),(3,.ref H.length 0 0),(5,y),(6,.bs),(7,y),(8,xD),(9,.s (.bool true)),(10,aL true),(11,bR),(12,bR),(13,bR),(14,bR),(15,bR),(16,bR),(17,bR),(18,bR)]) zK=some (au 19 [(0,.ref z2 0 0),(1,.ref z3 0 0),(2,.ref z4 0 0),(3,.ref H.length 0 0),(5,y),(6,.bs),(7,y),(8,xD),(9,.s (.bool true)),(10,aL true),(11,.agg [bz]),(12,.ref H.length 0 0),(13,.ref H.length 0 3),(14,.agg [bg t.line,bg t.jB]),(15,bR),(16,bR),(17,bR),(18,bR)],dH):=by
  simp only[cP,bg,bz]at gt cV e9 hD fL fu hx;simp only[Qv,simprocAttr,bg,bz,aM,gt,cV,e9,hD,fM,ax3,V',fL,fu,hx]
  try rfl
 have bP:=Un (it:=aG) (b9:=[(3,4)]) (kill:=[0,1,10,11,12,13,14]) U (by
  show((H.length != z2)&&true)=true;rw[oX,hU];omega)
 have uC:ut [0,1,10,11,12,13,14] (au 19 [(0,.ref z2 0 0),(1,.ref z3 0 0),(2,.ref z4 0 0),(3,.ref H.length 0 0),(5,y),(6,.bs),(7,y),(8,xD),(9,.s (.bool true)),(10,aL true),(11,.agg [bz]),(12,.ref H.length 0 0),(13,.ref H.length 0 3),(14,.agg [bg t.line,bg t.jB]),(15,bR),(16,bR),(17,bR),(18,bR)])=au 19 [(2,.ref z4 0 0),(3,.ref H.length 0 0),(5,y),(6,.bs),(7,y),(8,xD),(9,.s (.bool true)),(15,bR),(16,bR),(17,bR),(18,bR)]:=by
  simp only[aM,simprocAttr]
 rw[uC]at bP
 have fin:∀{rE:az} {n:Int} {fr:List V},aC (aU ah) aG base (.seq (.bc Nw [3,15,16,17] [18]) (.cond (.t 18) (.region Q0 [] [2,18]) .skip)) (au 19 [(2,.ref z4 0 0),(3,.ref H.length 0 0),(5,y),(6,.bs),(7,y),(8,xD),(9,.s (.bool true)),(15,bR),(16,bR),(17,bR),(18,bR)]) dH=some (.bH,fr,rE)->(∀id,id≠z4->rE[id]?=dH[id]?)->dH.length=rE.length->ao rE z4 0=some [bg n]->n=(if t.kind=4 then 41 else 40)->∃H',eK.uo (aU ah) aG base (.bV [.agg (cP t),.s (.bool true)]) (.ref z2 0 0) (.ref z3 0 0) (.ref z4 0 0) H H'/\ao H' z2 0=some [bz]/\ao H' z3 0=some [bg t.line,bg t.jB]/\ao H' z4 0=some [bg (if t.kind=4 then 41 else 40)]/\H.length<=H'.length/\∀id,id<H.length->id≠z2->id≠z3->id≠z4->H'[id]?=H[id]?:=by
  intro rE n fr ag aT ak bb aN;subst aN;have g2:ao cS z2 0=some [bz]:=fL▸e4 cV _;have g3:ao bY z3 0=some [bg t.line,bg t.jB]:=fu▸e4 e9 _
  have uY:dH.length=H.length+1:=by rw[<- hx,eF,<- fu,eF,<- fL,eF,ij]
  refine⟨rE,⟨_,_,fr,ax,?_⟩,?_,?_,bb,by omega,fun id i1 i2 i3 i4=>?_⟩
  .rw[bA,asR];exact(eh bC).trans ((Fk rfl).trans ((eh bP).trans ag))
  .unfold ao at g2 |-
   rw[aT z2 (by omega),<- hx,cf (by omega),<- fu,cf (by omega)]
   exact g2
  .unfold ao at g3 |-
   rw[aT z3 (by omega),<- hx,cf (by omega)]
   exact g3
  .rw[aT id i4,<- hx,cf (by omega),<- fu,cf (by omega),<- fL,cf (by omega),ck.get i1]
 simp only[cP,bg]at Tb LS H6;by_cases an:t.kind=4
 .have bp:(((t.kind:Nat):Int)==4)=true:=by rw[an];rfl
  refine fin (rE:=z8) (n:=41) (fr:=au 19 [(5,y),(6,.bs),(7,y),(8,xD),(9,.s (.bool true))]) ?_ (fun id hid=>by rw[<- H6,cf (gG hid)]) (by rw[<- H6,eF]) (H6▸e4 LS _) (by rw[a' an])
  simp only[KP,simprocAttr,aM,Tb,bp,LS,V',H6]
 .have bp:(((t.kind:Nat):Int)==4)=false:=by rw[eZ];omega
  refine fin (rE:=dH) (n:=40) (fr:=au 19 [(2,.ref z4 0 0),(5,y),(6,.bs),(7,y),(8,xD),(9,.s (.bool true)),(18,aL false)]) ?_ (fun id hid=>rfl) rfl LS (by rw[bm an])
  simp only[aL,simprocAttr,KP,aM,Tb,bp]
end
structure CT (ts:List Tok.T) (n:Nat):Prop where
 ne:ts≠[]
 len:ts.length<=n+1
 wf:jb ts
def CT.cons{ts n k t}(h:CT ts n)(an:n+1<=k)(aY:t.kind≠4)(J:t.kind=1->t.text≠[]):CT (t::ts) k:=by
 obtain⟨ne,len,wf⟩:=h
 refine⟨by simp,by rw[gP];omega,fun a aD DW=>?_,fun a aD DW=>?_⟩
 .cases a with
  |zero=>
    have:ts.length≠0:=fun e=>ne (lO e);rw[gP];omega
  |succ a=>
    rw[gP]at aD |-;rw[mo]at DW
    have:=wf.qw a (by omega) DW
    omega
 .cases a with
  |zero=>exact J DW
  |succ a=>
    rw[gP]at aD;rw[mo]at DW |-
    exact wf.nm a (by omega) DW
def X8:∀(n:Nat) (l:List UInt8) (a6 aZ:Nat) (ts:List Tok.T),l.length<=n->Tok.lex l a6 aZ=.done ts->CT ts l.length:=by
 intro n
 induction n with
 |zero=>
   intro l a6 aZ ts ak h
   have:l=[]:=lO (by omega)
   subst this;rw[Tok.lex_nil]at h;cases h
   exact⟨by simp,by simp,fun a aD an=>by(have:a=0:=by simpa using aD);subst this;exact absurd rfl an,fun a aD an=>by(have:a=0:=by simpa using aD);subst this;cases an⟩
 |succ n aw=>
   intro l a6 aZ ts ak h;cases l with
   |nil=>exact(by
      rw[Tok.lex_nil]at h;cases h
      exact⟨by simp,by simp,fun a aD an=>by(have:a=0:=by simpa using aD);subst this;exact absurd rfl an,fun a aD an=>by(have:a=0:=by simpa using aD);subst this;cases an⟩)
   |cons c l=>
     rw[gP]at ak
     have mono:∀{m:Nat} {ts:List Tok.T},CT ts m->m<=l.length->CT ts (c::l).length:=fun g hm=>⟨g.ne,by have:=g.len;rw[gP];omega,g.wf⟩
     rw[Tok.sq]at h;split at h
     .split at h
      .exact mono (aw _ _ _ _ (by omega) h) (bS _)
      .exact mono (aw _ _ _ _ (by omega) h) (bS _)
     split at h
     .exact mono (aw _ _ _ _ (by rw[fJ];omega) h) (by rw[fJ];omega)
     split at h
     .obtain⟨us,hu,rfl⟩:=Tok.ys h
      exact(aw _ _ _ _ (by rw[fJ];omega) hu).cons (by rw[fJ,gP];omega) (fun e=>by cases e) (fun _=>by simp)
     split at h
     .split at h
      .cases h
      .obtain⟨us,hu,rfl⟩:=Tok.ys h
       exact(aw _ _ _ _ (by rw[fJ];omega) hu).cons (by rw[fJ,gP];omega) (fun e=>by cases e) (fun e=>by cases e)
     split at h
     .obtain⟨us,hu,rfl⟩:=Tok.ys h
      exact(aw _ _ _ _ (by omega) hu).cons (by rw[gP];omega) (fun e=>by cases e) (fun e=>by cases e)
     .cases h
def OJ{l}(h:(gA l).2.2=0):l.length<=1048576/\Tok.lex l 1 1=.done (gA l).1/\(gA l).2.1=(0,0):=by
 unfold gA at h |-;by_cases ak:1048576<l.length
 .rw[a' ak]at h;cases h
 .rw[bm ak]at h |-;cases ae:Tok.lex l 1 1 with
  |done ts=>exact⟨by omega,rfl,rfl⟩
  |bad e a q=>
    rw[ae]at h;have:=Tok.aAM l.length l (1,1) e a q (bS _) ae;obtain⟨J,_⟩:=this;dsimp only at h;omega
def aag{l}(h:(gA l).2.2=0):0<(gA l).1.length/\jb (gA l).1/\(gA l).1.length+1<2^21:=by
 obtain⟨J,U,_⟩:=OJ h;have g:=X8 l.length l 1 1 _ (bS _) U;have:=g.len
 exact⟨Nat.pos_of_ne_zero fun e=>g.ne (lO e),g.wf,by omega⟩
def F5(H):pB H bz []:=⟨[],cp.rx (cp.start 0 3 H),rfl,by decide,fun i x ae=>by simp at ae⟩
def jY(l:List UInt8):List hv × (Nat × Nat) × Nat:=
 if(gA l).2.2=0 then match Dh (gA l).1 with
  |.ok bG=>(bG,(0,0),0)
  |.error j=>([],(((gA l).1.getD j cU).line,((gA l).1.getD j cU).jB),if((gA l).1.getD j cU).kind=4 then 41 else 40)
 else([],(gA l).2.1,(gA l).2.2)
section
variable {ah:Nat->Option c7}
set_option maxHeartbeats 1000000 in
def aC8(hJ:Ag ah)(dw:ah BX=some (.code p0))(T:rT ah)(base){H}(af:base<=H.length)(b):
 ∃v H',eK.y3 (aU ah) aG (nn ah) [.s (.string b)] base H (.bV [.agg [v],.agg [bg (jY b.data.toList).2.1.1,bg (jY b.data.toList).2.1.2],bg (jY b.data.toList).2.2]) H'/\Ext H H'/\∀fZ,(∀id,H.length<=id->id<H'.length->fZ[id]?=H'[id]?)->pB fZ v (jY b.data.toList).1:=by
 obtain⟨r,ar⟩:∃r,gA b.data.toList=r:=⟨_,rfl⟩;have acQ:=aag (l:=b.data.toList);have eQ:=OJ (l:=b.data.toList);unfold jY;rw[ar]at acQ eQ |-;obtain⟨H1,oB⟩:∃X,H++[bq.cells 0 [bz]]=X:=⟨_,rfl⟩
 have en:H1.length=H.length+1:=by rw[<- oB,kw]
 obtain⟨bK,iN⟩:∃X,H1++[bq.cells 0 [bg 0,bg 0]]=X:=⟨_,rfl⟩
 have e8:bK.length=H.length+2:=by rw[<- iN,kw,en]
 obtain⟨c6,mj⟩:∃X,bK++[bq.cells 0 [bg 0]]=X:=⟨_,rfl⟩
 have uY:c6.length=H.length+3:=by rw[<- mj,kw,e8]
 have aF:Ext H H1:=oB▸Ext.app _ _;have aK:Ext H1 bK:=iN▸Ext.app _ _;have dS:Ext bK c6:=mj▸Ext.app _ _;have lJ:Ext H c6:=aF.trans (aK.trans dS);have k2:ao c6 H.length 0=some [bz]:=df (oB▸dz H 0 _) (aK.trans dS)
 have dx:ao c6 (H.length+1) 0=some [bg 0,bg 0]:=df (by rw[<- en,<- iN];exact dz H1 0 _) dS
 have hs:ao c6 (H.length+2) 0=some [bg 0]:=by rw[<- e8,<- mj];exact dz bK 0 _
 have a0:aC (aU ah) aG base eK.rH ([V.s (.string b)]++List.replicate (eK.N - [V.s (.string b)].length) bR) H=some (.bH,au 48 [(0,.s (.string b)),(2,.ref H.length 0 0),(3,.ref (H.length+1) 0 0),(4,.ref (H.length+2) 0 0)],c6):=by
  have aq:[V.s (.string b)]++List.replicate (eK.N - [V.s (.string b)].length) bR=au yP.ntmps (gC yP.ntmps [.s (.string b)] 0):=Go.dO.start_eq (n:=yP.ntmps) (by show 1<=48;decide)
  rw[aq];have qg:gF (List.range' 1 (yP.ntmps-1)) (.region D6 [] se)=true:=ayn;show aC _ _ _ (.region D6 [] se) _ _=_
  rw[A7 (.region D6 [] se) H qg (GJ (k:=1) rfl (by decide))]
  simp only[bg,bz]at oB iN mj;simp only[yP,simprocAttr,rX,aM,oB,iN,mj,en,e8]
 obtain⟨j0,gj,eG,ee,gh⟩:=aDX dw T base c6 (by omega) b r ar
 have g2:ao gj H.length 0=some [bz]:=gh.ao k2 (hL k2) (by simp)
 have g3:ao gj (H.length+1) 0=some [bg 0,bg 0]:=gh.ao dx (hL dx) (by simp)
 have g4:ao gj (H.length+2) 0=some [bg 0]:=gh.ao hs (hL hs) (by simp)
 have sY:=gh.1;obtain⟨qy,En⟩:∃X,gj.set (H.length+1) (.cells 0 [bg r.2.1.1,bg r.2.1.2])=X:=⟨_,rfl⟩;obtain⟨jJ,Ej⟩:∃X,qy.set (H.length+2) (.cells 0 [bg r.2.2])=X:=⟨_,rfl⟩
 have au0:jJ.length=gj.length:=by rw[<- Ej,eF,<- En,eF]
 have PY:∀i,i≠H.length+1->i≠H.length+2->jJ[i]?=gj[i]?:=fun i i1 i2=>by rw[<- Ej,cf (gG i2),<- En,cf (gG i1)]
 have NG:ao qy (H.length+2) 0=some [bg 0]:=by
  unfold ao at g4 |-
  rw[<- En,cf (by omega)]
  exact g4
 have wq:ao jJ (H.length+2) 0=some [bg r.2.2]:=Ej▸e4 NG _
 have Fe:ao jJ (H.length+1) 0=some [bg r.2.1.1,bg r.2.1.2]:=by
  have:ao qy (H.length+1) 0=some [bg r.2.1.1,bg r.2.1.2]:=En▸e4 g3 _;unfold ao at this |-
  rw[<- Ej,cf (by omega)]
  exact this
 have B3:ao jJ H.length 0=some [bz]:=by
  unfold ao at g2 |-
  rw[PY _ (by omega) (by omega)]
  exact g2
 have oK:cp c6.length 5 jJ j0 (r.1.map cP):=ee.bT fun id g n e=>by
  subst e;have:=fS ee
  exact PY id (by omega) (by omega)
 have Ro:Ext H jJ:=Ext.tT (by omega) fun i hi=>by rw[PY i (by omega) (by omega),gh.2 i (by omega) (by simp),lJ.get hi]
 have jk:base<=H.length+1:=by omega
 have fM:base<=H.length+2:=by omega
 have cy:aC (aU ah) aG base eK.qD (au 48 [(0,.s (.string b)),(2,.ref H.length 0 0),(3,.ref (H.length+1) 0 0),(4,.ref (H.length+2) 0 0)]) c6=some (.bH,au 48 [(2,.ref H.length 0 0),(3,.ref (H.length+1) 0 0),(4,.ref (H.length+2) 0 0),(5,j0)],jJ):=by
  simp only[bg]at eG g3 NG En Ej;simp only[eK,simprocAttr,rX,aM,eG,g3,NG,jk,fM,En,Ej]
 have jn:∀{C:az} {fr:List V} {v:V} {x y z:Int},fr.getD 2 .bs=.ref H.length 0 0->fr.getD 3 .bs=.ref (H.length+1) 0 0->fr.getD 4 .bs=.ref (H.length+2) 0 0->ao C H.length 0=some [v]->ao C (H.length+1) 0=some [bg x,bg y]->ao C (H.length+2) 0=some [bg z]->kB eK.rs fr C=some (.bV [.agg [v],.agg [bg x,bg y],bg z]):=by
  intro C fr v x y z f2 f3 f4 cN et jd
  have d2:iT C true 1 (.ref H.length 0 0)=some (.agg [v]):=by show gl _ true 1 _=_;rw[lW,cN];rfl
  have d3:iT C true 2 (.ref (H.length+1) 0 0)=some (.agg [bg x,bg y]):=by show gl _ true 2 _=_;rw[lW,et];rfl
  have d4:iT C false 1 (.ref (H.length+2) 0 0)=some (bg z):=by show gl _ false 1 _=_;rw[lW,jd];rfl
  show(match[lj.cell 2 true 1,.cell 3 true 2,.cell 4 false 1].mapM (j' fr C)with|some [v]=>some v|some vs=>some (.bV vs)|none=>none)=_
  simp only[n1,IE,j',f2,f3,f4,d2,d3,d4];rfl
 by_cases a1:r.2.2=0
 .rw[a' a1];obtain⟨dd,wf,aN⟩:=acQ a1;obtain⟨_,_,fO⟩:=eQ a1
  have he:((r.2.2:Nat):Int)=0:=by rw[a1];rfl
  have a2:aC (aU ah) aG base eK.kT (au 48 [(2,.ref H.length 0 0),(3,.ref (H.length+1) 0 0),(4,.ref (H.length+2) 0 0),(5,j0)]) jJ=some (.bH,au 48 [(2,.ref H.length 0 0),(3,.ref (H.length+1) 0 0),(4,.ref (H.length+2) 0 0),(5,j0),(15,aL false)],jJ):=by
   have q:(((r.2.2:Nat):Int) != 0)=false:=by rw[he];rfl
   simp only[bg]at wq;simp only[eK,simprocAttr,aL,rX,aM,wq,q]
  obtain⟨fn,r2⟩:∃fn,V.fn an1 [] [.ref H.length 0 0,.ref (H.length+1) 0 0,.ref (H.length+2) 0 0]=fn:=⟨_,rfl⟩;obtain⟨DE,EN⟩:∃X,jJ++[bq.cells 0 [j0,bg 0]]=X:=⟨_,rfl⟩;have tf:Ext jJ DE:=EN▸Ext.app _ _
  have aoP:DE.length=jJ.length+1:=by rw[<- EN,kw]
  have anG:j0.one=true:=oK.rd.one
  have avC:j0.cells=[j0]:=by obtain⟨_,⟨_,rfl⟩|⟨id,g,rfl,_⟩⟩:=oK<;>rfl
  have iR:aC (aU ah) aG base (.region IT [] [5,20,21,22]) (au 48 [(2,.ref H.length 0 0),(3,.ref (H.length+1) 0 0),(4,.ref (H.length+2) 0 0),(5,j0),(15,aL false),(19,fn)]) jJ=some (.bH,au 48 [(2,.ref H.length 0 0),(3,.ref (H.length+1) 0 0),(4,.ref (H.length+2) 0 0),(6,.ref jJ.length 0 0),(15,aL false),(19,fn)],DE):=by
   have aJR:((0:Nat):Int)=0:=rfl;simp only[bg]at EN;simp only[aL,simprocAttr,rX,aM,anG,avC,k7,EN]
  have fE:cJ jJ.length j0 r.1 DE 0:=by
   refine⟨EN▸dz jJ 0 _,⟨c6.length,oK.bT fun id g n e=>tf.get (oK.lt id g n e)⟩,fun id g n e=>oK.lt id g n e,dd,by omega⟩
  have q:=aA5 hJ wf base (z2:=H.length) (z3:=H.length+1) (z4:=H.length+2) (L:=DE.length) af (by omega) (by omega) (fun id g n e=>by
   subst e;have:=fS oK
   omega) (fn:=fn) (N:=r.1.length+1) (by omega) aN (r.1.length+1) fE (df B3 tf) (j3.start _ _) (bS _) (fa _) (by omega)
  unfold Dh;cases aj:wE (aJ.of r.1) (r.1.length+1) (r.1.length+1) [] 0 with
  |ok p=>
    obtain⟨bG,kU⟩:=p;rw[aj]at q;obtain⟨pv,C,aP,bj,c4,iu,iw,rG⟩:=q;dsimp only;have J3:=bj.1
    have y9:ao C (H.length+1) 0=some [bg r.2.1.1,bg r.2.1.2]:=bj.ao (df Fe tf) (by omega) (by simp;omega)
    have Jp:ao C (H.length+2) 0=some [bg r.2.2]:=bj.ao (df wq tf) (by omega) (by simp;omega)
    have pS:gl C true 1 (.ref H.length 0 0)=some (.agg [pv]):=by rw[lW,c4];rfl
    obtain⟨cS,fL⟩:∃X,C.set H.length (.cells 0 [pv])=X:=⟨_,rfl⟩;obtain⟨bY,fu⟩:∃X,cS.set (H.length+1) (.cells 0 [bg 0,bg 0])=X:=⟨_,rfl⟩;obtain⟨dH,hx⟩:∃X,bY.set (H.length+2) (.cells 0 [bg 0])=X:=⟨_,rfl⟩;have cV:ao cS H.length 0=some [pv]:=fL▸e4 c4 _
    have e9:ao cS (H.length+1) 0=some [bg r.2.1.1,bg r.2.1.2]:=by
     unfold ao at y9 |-
     rw[<- fL,cf (by omega)]
     exact y9
    have hD:ao bY (H.length+2) 0=some [bg r.2.2]:=by
     unfold ao at Jp |-
     rw[<- fu,cf (by omega),<- fL,cf (by omega)]
     exact Jp
    have vj:aC (aU ah) aG base (.seq (.region LI [] [6,26,46,47]) .ret) (au 48 [(2,.ref H.length 0 0),(3,.ref (H.length+1) 0 0),(4,.ref (H.length+2) 0 0),(6,.ref jJ.length 0 0),(15,aL false),(19,fn),(26,aL false)]) C=some (.ret,au 48 [(2,.ref H.length 0 0),(3,.ref (H.length+1) 0 0),(4,.ref (H.length+2) 0 0),(15,aL false),(19,fn)],dH):=by
     simp only[bg]at e9 hD fu hx;simp only[aL,simprocAttr,rX,aM,pS,c4,e9,hD,af,jk,fM,iu,fL,fu,hx]
    have aGb:aC (aU ah) aG base (.block 0 (.loop [] wL)) (au 48 [(2,.ref H.length 0 0),(3,.ref (H.length+1) 0 0),(4,.ref (H.length+2) 0 0),(6,.ref jJ.length 0 0),(15,aL false),(19,fn)]) DE=some (.bH,au 48 [(2,.ref H.length 0 0),(3,.ref (H.length+1) 0 0),(4,.ref (H.length+2) 0 0),(6,.ref jJ.length 0 0),(15,aL false),(19,fn),(26,aL false)],C):=by
     simp only[aL]at aP;simp only[aL,aM,aP]
    have aJg:dH.length=C.length:=by rw[<- hx,eF,<- fu,eF,<- fL,eF]
    have n0:∀i,i≠H.length->i≠H.length+1->i≠H.length+2->dH[i]?=C[i]?:=fun i i1 i2 i3=>by rw[<- hx,cf (gG i3),<- fu,cf (gG i2),<- fL,cf (gG i1)]
    have cN:ao dH H.length 0=some [pv]:=by
     unfold ao at cV |-
     rw[<- hx,cf (by omega),<- fu,cf (by omega)]
     exact cV
    have et:ao dH (H.length+1) 0=some [bg 0,bg 0]:=by
     have:ao bY (H.length+1) 0=some [bg 0,bg 0]:=fu▸e4 e9 _;unfold ao at this |-
     rw[<- hx,cf (by omega)]
     exact this
    have jd:ao dH (H.length+2) 0=some [bg 0]:=hx▸e4 hD _
    have aIc:Ext H dH:=Ext.tT (by omega) fun i hi=>by rw[n0 i (by omega) (by omega) (by omega),bj.2 i (by omega) (by simp;omega),tf.get (by omega),Ro.get hi]
    have dM:∀c,Ext dH (dH++[bq.cells 0 c]):=fun c=>Ext.app _ _
    refine⟨pv,dH++[.cells 0 mE],⟨_,_,_,_,a0,cy,.inr ⟨_,_,_,_,_,a2,by rw[sZ];show 19<48;decide,rfl,rfl,rfl,.inl ⟨.ret,au 48 [(2,.ref H.length 0 0),(3,.ref (H.length+1) 0 0),(4,.ref (H.length+2) 0 0),(15,aL false),(19,fn)],dH,.inr rfl,?_,aEJ base (by omega) _ _ _,jn rfl rfl rfl (df cN (dM _)) (df et (dM _)) (df jd (dM _))⟩⟩⟩,aIc.trans (dM _),fun fZ an=>rG fZ fun id i1 i2=>?_⟩
    .show aC _ _ _ eK.Ce (put (some eK.d) (.fn eK.k1 [] [.ref H.length 0 0,.ref (H.length+1) 0 0,.ref (H.length+2) 0 0]) (au 48 [(2,.ref H.length 0 0),(3,.ref (H.length+1) 0 0),(4,.ref (H.length+2) 0 0),(5,j0),(15,aL false)])) jJ=_
     have MQ:put (some eK.d) (.fn eK.k1 [] [.ref H.length 0 0,.ref (H.length+1) 0 0,.ref (H.length+2) 0 0]) (au 48 [(2,.ref H.length 0 0),(3,.ref (H.length+1) 0 0),(4,.ref (H.length+2) 0 0),(5,j0),(15,aL false)])=au 48 [(2,.ref H.length 0 0),(3,.ref (H.length+1) 0 0),(4,.ref (H.length+2) 0 0),(5,j0),(15,aL false),(19,fn)]:=by rw[<- r2];rfl
     rw[MQ];exact(eh iR).trans ((eh aGb).trans vj)
    .rw[an id (by omega) (by rw[kw];omega),(dM mE).get (by omega),n0 id (by omega) (by omega) (by omega)]
  |error j=>
    rw[aj]at q;obtain⟨h2,C,aP,bj,ku,c4⟩:=q;dsimp only;have J3:=bj.1
    have y9:ao C (H.length+1) 0=some [bg r.2.1.1,bg r.2.1.2]:=bj.ao (df Fe tf) (by omega) (by simp;omega)
    have Jp:ao C (H.length+2) 0=some [bg r.2.2]:=bj.ao (df wq tf) (by omega) (by simp;omega)
    obtain⟨H',t1,t2,t3,t4,t5,t6⟩:=aEe (ah:=ah) base (H:=C) (by omega) af (by omega) (by omega) (by omega) c4 y9 Jp (r.1.getD j cU)
    have MQ:put (some eK.d) (.fn eK.k1 [] [.ref H.length 0 0,.ref (H.length+1) 0 0,.ref (H.length+2) 0 0]) (au 48 [(2,.ref H.length 0 0),(3,.ref (H.length+1) 0 0),(4,.ref (H.length+2) 0 0),(5,j0),(15,aL false)])=au 48 [(2,.ref H.length 0 0),(3,.ref (H.length+1) 0 0),(4,.ref (H.length+2) 0 0),(5,j0),(15,aL false),(19,fn)]:=by rw[<- r2];rfl
    have BE:fP (aU ah) (nn ah) aG base (eK.cond (.ref H.length 0 0) (.ref (H.length+1) 0 0) (.ref (H.length+2) 0 0)) eK.Ce (put (some eK.d) (.fn eK.k1 [] [.ref H.length 0 0,.ref (H.length+1) 0 0,.ref (H.length+2) 0 0]) (au 48 [(2,.ref H.length 0 0),(3,.ref (H.length+1) 0 0),(4,.ref (H.length+2) 0 0),(5,j0),(15,aL false)])) jJ (eK.jy,.agg (cP (r.1.getD j cU)),C):=by
     rw[MQ];exact dG iR (kb aP)
    have aCz:(((if(r.1.getD j cU).kind=4 then 41 else 40:Nat)):Int)=if(r.1.getD j cU).kind=4 then 41 else 40:=by split<;>rfl
    refine⟨bz,H',⟨_,_,_,_,a0,cy,.inr ⟨_,_,_,_,_,a2,by rw[sZ];show 19<48;decide,rfl,rfl,rfl,.inr ⟨_,C,BE,t1,?_⟩⟩⟩,Ext.tT (by omega) fun i hi=>?_,fun fZ _=>F5 fZ⟩
    .rw[aCz];exact jn rfl rfl rfl t2 t3 t4
    .rw[t6 i (by omega) (by omega) (by omega) (by omega),bj.2 i (by omega) (by simp;omega),tf.get (by omega),Ro.get hi]
 .rw[bm a1]
  have dq:(((r.2.2:Nat):Int) != 0)=true:=by rw[hU];omega
  have A6:gl jJ true 2 (.ref (H.length+1) 0 0)=some (.agg [bg r.2.1.1,bg r.2.1.2]):=by rw[lW,Fe];rfl
  obtain⟨cS,fL⟩:∃X,jJ.set H.length (.cells 0 [bz])=X:=⟨_,rfl⟩;obtain⟨bY,fu⟩:∃X,cS.set (H.length+1) (.cells 0 [bg r.2.1.1,bg r.2.1.2])=X:=⟨_,rfl⟩;obtain⟨dH,hx⟩:∃X,bY.set (H.length+2) (.cells 0 [bg r.2.2])=X:=⟨_,rfl⟩;have cV:ao cS H.length 0=some [bz]:=fL▸e4 B3 _
  have e9:ao cS (H.length+1) 0=some [bg r.2.1.1,bg r.2.1.2]:=by
   unfold ao at Fe |-
   rw[<- fL,cf (by omega)]
   exact Fe
  have hD:ao bY (H.length+2) 0=some [bg r.2.2]:=by
   unfold ao at wq |-
   rw[<- fu,cf (by omega),<- fL,cf (by omega)]
   exact wq
  have bP:aC (aU ah) aG base (.bc Lk [14] [15]) (au 48 [(2,.ref H.length 0 0),(3,.ref (H.length+1) 0 0),(4,.ref (H.length+2) 0 0),(5,j0)]) jJ=some (.bH,au 48 [(2,.ref H.length 0 0),(3,.ref (H.length+1) 0 0),(4,.ref (H.length+2) 0 0),(5,j0),(15,aL true)],jJ):=by
   simp only[bg]at wq;simp only[aL,simprocAttr,rX,aM,wq,dq]
  have ax:cu (aU ah) base LU (au 48 [(2,.ref H.length 0 0),(3,.ref (H.length+1) 0 0),(4,.ref (H.length+2) 0 0),(5,j0),(15,aL true)]) jJ=some (au 48 [(2,.ref H.length 0 0),(3,.ref (H.length+1) 0 0),(4,.ref (H.length+2) 0 0),(5,j0),(15,aL true),(16,.agg [bz]),(17,.agg [bg r.2.1.1,bg r.2.1.2]),(18,bg r.2.2)],dH):=by
   simp only[bg,bz]at wq B3 e9 hD fL fu hx A6;simp only[LU,simprocAttr,bg,bz,aL,aM,A6,wq,B3,e9,hD,af,jk,fM,fL,fu,hx]
   try rfl
  have dk:=Un (it:=aG) (b9:=[(1,3),(2,3),(2,4)]) (kill:=[5,15,16,17,18]) ax (by
   show((H.length+1 != H.length)&&((H.length+2 != H.length)&&((H.length+2 != H.length+1)&&true)))=true;rw[oX,dr,dr,hU,hU,hU];omega)
  have a2:aC (aU ah) aG base eK.kT (au 48 [(2,.ref H.length 0 0),(3,.ref (H.length+1) 0 0),(4,.ref (H.length+2) 0 0),(5,j0)]) jJ=some (.ret,ut [5,15,16,17,18] (au 48 [(2,.ref H.length 0 0),(3,.ref (H.length+1) 0 0),(4,.ref (H.length+2) 0 0),(5,j0),(15,aL true),(16,.agg [bz]),(17,.agg [bg r.2.1.1,bg r.2.1.2]),(18,bg r.2.2)]),dH):=(eh bP).trans ((Fk rfl).trans ((eh dk).trans rfl))
  have cN:ao dH H.length 0=some [bz]:=by
   unfold ao at cV |-
   rw[<- hx,cf (by omega),<- fu,cf (by omega)]
   exact cV
  have et:ao dH (H.length+1) 0=some [bg r.2.1.1,bg r.2.1.2]:=by
   have:ao bY (H.length+1) 0=some [bg r.2.1.1,bg r.2.1.2]:=fu▸e4 e9 _;unfold ao at this |-
   rw[<- hx,cf (by omega)]
   exact this
  have jd:ao dH (H.length+2) 0=some [bg r.2.2]:=hx▸e4 hD _;refine⟨bz,dH,⟨_,_,_,_,a0,cy,.inl ⟨_,a2,jn rfl rfl rfl cN et jd⟩⟩,Ext.tT ?_ fun i hi=>?_,fun fZ _=>F5 fZ⟩
  .rw[<- hx,eF,<- fu,eF,<- fL,eF];omega
  .rw[<- hx,cf (by omega),<- fu,cf (by omega),<- fL,cf (by omega),Ro.get hi]
end
open Go.dO Go.RowKit
def aAy:∀k fn body,Sm k=true->Tryd.prog.funcs[k]?=some fn->fn.body=some body->nD body=true:=by
 intro k fn body an al af
 have key:∀k∈[FP,Js,Ja,wC,FO,xF,AH,x6,Cp,Bd,xo,xc,AM,Bb,BY,Ah,yK],((Tryd.prog.funcs[k]?).bind fun f=>f.body.map nD)=some true:=by
  intro k an;simp only[kf,xa,vN]at an
  rcases an with rfl|rfl|rfl|rfl|rfl|rfl|rfl|rfl|rfl|rfl|rfl|rfl|rfl|rfl|rfl|rfl|rfl<;>kernel_rfl
 have:=key k (by simpa[Sm]using an)
 rw[al]at this;simp only[Option.bind_some,af,mD,hW]at this;exact this
section
variable {ah:Nat->Option c7}
def aDM(e6:Tryd.prog.follows .mixedOrders=true)(iS:∀k c,ah k=some c->lq Tryd.prog (mX (fun _=>none)) k c):Ny Tryd.prog (mX (fun _=>none)) (ajF ah):=by
 intro k vs base H r ⟨an,v,cs,H1,n,J,U,ax,aY,cl⟩;subst an
 exact awD e6 iS Tryd.func17 (by rfl) (by rfl) (by rfl) (Td:=x3) (m:=5) (z:=mE) (by rfl) (by rfl) (by rfl) (by rfl) (by rfl) (by rfl) (by rfl) (by rfl) (by rfl) (by rfl) (by rfl) (by rfl) (by rfl) (by kernel_rfl) (by rfl) (by rfl) vs base H r ⟨v,cs,H1,n,J,U,ax,aY,cl⟩
end
open Go.dO Go.RowKit
abbrev QU:Value:=.agg #[.int .u8 0,.string ⟨#[]⟩,.int .i64 0,.int .i64 0,.int .i64 0]
def asK(μ)(ab:Nat->Prop)(w):bM μ ab w (.agg mE) QU:=by
 refine .agg _ _ rfl fun i a b aD af=>?_
 match i with
 |0=>cases aD;cases af;exact .s _
 |1=>cases aD;cases af;exact .s _
 |2=>cases aD;cases af;exact .s _
 |3=>cases aD;cases af;exact .s _
 |4=>cases aD;cases af;exact .s _
 |n+5=>cases aD
theorem atc(v w):(Instr.typeAssert (.iface 57 v) 20 57 true).run Tryd.prog w=.ok (.tuple #[v,.bool true]) w:=by
 unfold Instr.typeAssert;simp only[Sem.run_bind,run_underlying Tryd.underlying57,eb];rfl
theorem aCp(w):(Instr.typeAssert .nilIface 20 57 true).run Tryd.prog w=.ok (.tuple #[QU,.bool false]) w:=by
 unfold Instr.typeAssert;simp only[Sem.run_bind,run_underlying Tryd.underlying57,eb];rfl
def aAk{ah:Nat->Option c7}(e6:Tryd.prog.follows .mixedOrders=true)(iS:∀k c,ah k=some c->lq Tryd.prog (mX (fun _=>none)) k c):alh Tryd.prog (mX (fun _=>none)) ah eK.k1 eK.hq eK.bC eK.yT eK.jy eK.z eK.ij eK.wh:=by
 refine⟨Go.Proofs.enters_of Tryd.func15 (by kernel_rfl) rfl,fun {u rb y μ ab w H} h {vs cs} dE u5 hu {n base ik I1 c6 gj} ax aY {m R} bn=>?_⟩
 have OF:∃nR cN,Tryd.f15.body=some (.seq (.region 0 nR false) cN)/\pb Tryd.prog (mX (fun _=>none)) nR eK.ij/\ha Tryd.prog (mX (fun _=>none)) cN eK.wh/\qs cN=true/\∃j1 od iL,nR[0]?=some j1/\j1.op=.call { callee:=.builtin .recover,args:=#[],argTypes:=iL }/\j1.dst=some 6/\j1.guard=none/\nR[1]?=some od/\od.op=.typeAssert (.tmp 6) 20 57 true/\od.dst=some 7/\od.guard=none:=by
  refine⟨_,_,rfl,(QX (lt:=[]) (draw:=false) (b9:=[]) (by kernel_rfl)).1,D2 (lt:=[]) _ _ (by kernel_rfl),by kernel_rfl,_,_,_,rfl,rfl,rfl,rfl,rfl,rfl,rfl,rfl⟩
 obtain⟨nR,cN,af,ar,oC,ei,j1,od,iL,bp,aP,bj,c4,iu,iw,rG,aq5⟩:=OF
 exact aGR e6 iS Tryd.func15 af rfl rfl ar oC ei (fun i i1 i2=>by
  have:i<8:=i2
  match i with
  |2|3|4|5|6|7=>rfl
  |0|1=>omega
  |i+8=>omega) bp aP bj c4 iu iw rG aq5 (by show 6<19;decide) atc (ew:=QU) aCp (fun μ ab w=>asK μ ab w) h dE u5 hu ax aY bn
def arK{ah:Nat->Option c7}(e6:Tryd.prog.follows .mixedOrders=true)(iS:∀k c,ah k=some c->lq Tryd.prog (mX (fun _=>none)) k c){g:List V->Nat->az->Option (V × az)}(bb:∀vs base H r H',g vs base H=some (r,H')->eK.y3 (aU ah) aG (nn ah) vs base H r H'):lq Tryd.prog (mX (fun _=>none)) CE (.oD g):=by
 have aj:∃m0 m1 m2 xE Ko b2 n0 iL,Tryd.f9.body=some (.seq m0 (.seq m1 (.seq m2 (.seq (.region Ko #[b2,n0] false) xE))))/\ha Tryd.prog (mX (fun _=>none)) m0 eK.rH/\qs m0=true/\ha Tryd.prog (mX (fun _=>none)) m1 eK.qD/\qs m1=true/\ha Tryd.prog (mX (fun _=>none)) m2 eK.kT/\qs m2=true/\ha Tryd.prog (mX (fun _=>none)) xE eK.Ce/\nD xE=true/\p4 Tryd.prog (mX (fun _=>none)).b b2=some (.mu eK.k1 [] [.t eK.a,.t eK.b,.t eK.c])/\b2.dst=some eK.d/\b2.guard=none/\n0.op=.defer { callee:=.value (.tmp eK.d),args:=#[],argTypes:=iL }/\n0.dst=none/\n0.guard=none:=by
  refine⟨_,_,_,_,_,_,_,_,rfl,D2 (lt:=[]) _ _ (by kernel_rfl),by kernel_rfl,D2 (lt:=[]) _ _ (by kernel_rfl),by kernel_rfl,D2 (lt:=[]) _ _ (by kernel_rfl),by kernel_rfl,D2 (lt:=[yK]) _ _ (by kernel_rfl),by kernel_rfl,by kernel_rfl,rfl,rfl,rfl,rfl,rfl⟩
 obtain⟨m0,m1,m2,xE,Ko,b2,n0,iL,af,dR,f0,cq,f1,cN,f2,Hx,j1,DP,SP,ef,M8,SA,pj⟩:=aj
 exact aB6 (D:=eK) e6 iS aAy (aDM e6 iS) Tryd.func9 af rfl rfl dR f0 cq f1 cN f2 Hx j1 DP SP ef M8 SA pj (by decide) (by kernel_rfl) (by
  intro r ar;have aa8:r∈[lj.cell 2 true 1,.cell 3 true 2,.cell 4 false 1]:=ar;simp only[kf,xa,vN]at aa8
  rcases aa8 with rfl|rfl|rfl
  .exact .inl rfl
  .exact .inr (.inl rfl)
  .exact .inr (.inr rfl)) (by show 3<=19;decide) (aAk e6 iS) bb
def am4(vs:List V)(H:az)(v:V)(H':az):Prop:=∀b,vs=[.s (.string b)]->∃pv,v=.bV [.agg [pv],.agg [bg (jY b.data.toList).2.1.1,bg (jY b.data.toList).2.1.2],bg (jY b.data.toList).2.2]/\Ext H H'/\∀fZ,(∀id,H.length<=id->id<H'.length->fZ[id]?=H'[id]?)->pB fZ pv (jY b.data.toList).1
open Classical in
noncomputable def ze(ah:Nat->Option c7):List V->Nat->az->Option (V × az):=fun vs base H=>
 if h:∃p:V × az,eK.y3 (aU ah) aG (nn ah) vs base H p.1 p.2/\am4 vs H p.1 p.2 then some (Classical.choose h)else none
def aII{ah:Nat->Option c7}(vs base H r H')(h:ze ah vs base H=some (r,H')):eK.y3 (aU ah) aG (nn ah) vs base H r H':=by
 unfold ze at h;split at h
 .rename_i ae;have:=(afD ae).1;rw[hW]at h;rw[h]at this;exact this
 .cases h
def ayj{ah om:Nat->Option c7}(aR:ah CE=some (.oD (ze om)))(hJ:Ag om)(dw:om BX=some (.code p0))(T:rT om)(base){H}(af:base<=H.length)(b):
 ∃v H',aU ah (.fn CE [] []) [.s (.string b)] base H=some (.bV [.agg [v],.agg [bg (jY b.data.toList).2.1.1,bg (jY b.data.toList).2.1.2],bg (jY b.data.toList).2.2],H')/\Ext H H'/\∀fZ,(∀id,H.length<=id->id<H'.length->fZ[id]?=H'[id]?)->pB fZ v (jY b.data.toList).1:=by
 obtain⟨v,H',J,U,ax⟩:=aC8 hJ dw T base af b
 have ae:∃p:V × az,eK.y3 (aU om) aG (nn om) [.s (.string b)] base H p.1 p.2/\am4 [.s (.string b)] H p.1 p.2:=⟨(_,H'),J,fun b' fY=>by
  cases fY;exact⟨v,rfl,U,ax⟩⟩
 obtain⟨p,aj⟩:∃p,Classical.choose ae=p:=⟨_,rfl⟩;have aq:=afD ae;rw[aj]at aq
 have bb:ze om [.s (.string b)] base H=some p:=by
  unfold ze;rw[dif_pos ae,aj]
 obtain⟨pv,e,g2,g3⟩:=aq.2 b rfl;refine⟨pv,p.2,wV ?_,g2,g3⟩;simp only[kN,aR,km,vC,bb,<- e]
end Go.Proofs.YtbocmenkkjbigaaDoor
