/- Texts of the proof: RqC4, RqC5, RqC6, RqC7, RqC8, RqC9, RqCA, RqCB, RqCC, RqCD, RqCE, RqCF, RqCG, RqCH, RqCI, RqPL, RqX1, RqX2, SbA. -/
import Derived.Test.YtngfpadeebpoeaaGreatDoorP0
import Derived.Test.YtngfpadeebpoeaaGreatDoorP1
import Derived.Test.YtngfpadeebpoeaaGreatDoorP2
import Derived.Test.YtngfpadeebpoeaaGreatDoorP3
import Derived.ProofKit
set_option linter.all false
set_option maxRecDepth 100000
namespace Go.Proofs.YtngfpadeebpoeaaGreatDoor.gO
open Go.Proofs.YtngfpadeebpoeaaGreatDoor Go.ea
def ij(l:List ByteArray):List (List V):=l.map fun s=>[aA s]
theorem Vl(l:List ByteArray)(s:ByteArray):ij (l++[s])=ij l++[[aA s]]:=by unfold ij;rw[zL];rfl
theorem aje(l:List ByteArray):(ij l).flatten=l.map aA:=by
 induction l with
 |nil=>rfl
 |cons a l aF=>unfold ij at aF |-;rw[dW,GY,aF];rfl
def Ft(l:List ByteArray):(ij l).length=l.length:=by unfold ij;rw[pY]
def Dg{m:Nat}{H:ad}{v:V}{l:List ByteArray}(h:c1 m 1 H v (ij l)):p9 m H v (l.map aA):=by
 obtain⟨_,⟨e,rfl⟩|⟨id,g,rfl,ab,hm⟩⟩:=h
 .refine .inl ⟨?_,.inl rfl⟩
  have:(ij l).length=0:=by rw[e];rfl
  rw[Ft]at this;rw[lX this];rfl
 .refine .inr ⟨id,g,l.map aA,by rw[Ft,pY],by rw[<- aje];exact ab,cq _,xD,hm⟩
def V'{m:Nat}{H:ad}{v:V}{l:List ByteArray}(h:c1 m 1 H v (ij l)){base bytes:Nat}(ah:base<=m)(hm:m<=H.length)(s:ByteArray)(ai:(l.length+1)*bytes<=2^47):
 ∃gx H',h5 (H++[.cells 0 [aA s]]) base 1 bytes v (.aZ H.length 0 0 1 1)=some (gx,H')/\c1 m 1 H' gx (ij (l++[s]))/\H.length<=H'.length/\∀id,id<H.length->(∀g n,v≠.aZ id g 0 n 1)->H'[id]?=H[id]?:=by
 have J:c1 m 1 (H++[.cells 0 [aA s]]) v (ij l):=h.cD fun id g n e=>bi (h.lt id g n e)
 have kg:elems (H++[.cells 0 [aA s]]) 1 (.aZ H.length 0 0 1 1)=some ([[aA s]].length,[[aA s]].flatten):=(lJ.aZ (R:=[[aA s]]) (cQ H 0 [aA s]) (fun y bC=>by rw[eQ.1 bC];rfl)).el
 obtain⟨gx,H',bw,a2,a3,a4⟩:=J.append (base:=base) (bytes:=bytes) ah (by rw[dh];omega) (S:=[[aA s]]) (fun y bC=>by rw[eQ.1 bC];rfl) (by simp) kg (by rfl) (by rw[Ft];exact ai)
 rw[dh]at a3
 refine⟨gx,H',bw,by rw[Vl];exact a2,by omega,fun id J aa=>?_⟩
 rw[a4 id (by rw[dh];omega) aa]
 exact bi J
section
variable {ag:Nat->Option cz} {ρ:Nat} {lv:V} {ao:List Tok.T} {a:Nat}
def I0{m ρ:Nat}{A C:ad}{v:V}{l:List ByteArray}(h:c1 m 1 A v (ij l))(hm:ρ<m)(k:aH A.length [ρ] A C):c1 m 1 C v (ij l):=h.cD fun id g n e=>by
 refine k.2 id (h.lt id g n e) ?_;rw[eQ];subst e
 obtain⟨_,⟨_,e⟩|⟨gw,g',e,_,hL⟩⟩:=h
 .cases e
 .cases e;omega
def iK{m w id g n:Nat}{H:ad}{R:List (List V)}(h:c1 m w H (.aZ id g 0 n w) R):m<=id:=by
 obtain⟨_,⟨_,e⟩|⟨gw,g',e,_,hL⟩⟩:=h
 .cases e
 .cases e;exact hL
def aH.app{L:Nat}{D:List Nat}{A B C:ad}(h:aH L D A B)(k:aH L D B C):aH L D A C:=aH.trans h k (cq _)
def aH.low{L:Nat}{D:List Nat}{A B:ad}(h:aH A.length D A B)(cU:L<=A.length):aH L D A B:=⟨by have:=h.1;omega,fun id J aa=>h.2 id (by omega) aa⟩
def akq(cP:vR ag)(wf:jP ao)(base:Nat)(ah:base<=ρ){L:Nat}(cU:ρ<L){D:ad}(h:cy ρ lv ao D a)(Be:L<=D.length){v:V}{acc:List ByteArray}(av:c1 L 1 D v (ij acc))(aJ:acc.length<2^21){dT:Env}(r9:dT=[(0,.ref ρ 0 0),(3,v)]\/dT=[(0,.ref ρ 0 0),(3,v),(11,ar false)]):match eC (bt.of ao) a with
 |.ok (s,b)=>b<ao.length/\∃gx a7,aL (aR ag) aN base (.region NM [] [11,14,15,16,17,18]) (ax 22 dT) D=some (.bR,ax 22 [(0,.ref ρ 0 0),(3,gx)],a7)/\aH L [ρ] D a7/\au a7 ρ 0=some [lv,U b]/\c1 L 1 a7 gx (ij (acc++[s]))
 |.error e=>e<ao.length/\∃a7,gg (aR ag) (ns ag) aN base (fun _ _=>True) (.region NM [] [11,14,15,16,17,18]) (ax 22 dT) D (qx,.agg (dA (ao.getD e ef)),a7)/\aH L [ρ] D a7:=by
 have eg:base<=D.length:=by omega
 have Cv:v.one=true:=av.rd.one;have q:=yi cP wf base ah h;revert q;unfold eT;cases eC (bt.of ao) a with
 |ok p=>
   obtain⟨s,b⟩:=p;rintro⟨bj,_,bX,aT,a1,cB,rfl⟩;have p0:=I0 av cU a1
   obtain⟨gx,bU,bw,a2,a3,a4⟩:=V' p0 (base:=base) (bytes:=16) (by omega) (by have:=a1.1;omega) s (by omega)
   have D3:∀id,id<L->bU[id]?=bX[id]?:=fun id hid=>a4 id (by have:=a1.1;omega) fun g' ek e=>by
    subst e;have:=iK p0;omega
   have g2:au bU ρ 0=some [lv,U b]:=by
    unfold au at cB |-;rw[D3 ρ cU];exact cB
   refine⟨bj,gx,bU,?_,aH.app (aH.low a1 Be) ⟨by have:=a1.1;omega,fun id J _=>D3 id J⟩,g2,a2⟩
   simp only[aA]at aT bw
   rcases r9 with rfl|rfl<;>simp only[ar,simprocAttr,sG,aG,aT,bw]
 |error e=>
   rintro⟨bj,bX,aT,a1⟩;refine⟨bj,bX,?_,aH.low a1 Be⟩
   obtain⟨gx,bU,bw,a2,a3,a4⟩:=V' av (base:=base) (bytes:=16) (by omega) Be ⟨#[]⟩ (by omega)
   simp only[aA]at bw
   rcases r9 with rfl|rfl<;>refine jH (it':=aN) (pre:=ail) (post:=SC) (aA ⟨#[]⟩) rfl rfl aT ?_<;>simp only[aA,simprocAttr,ar,sG,aG,hs,bw]
def CC(V:bt)(n:Nat):eA ByteArray:=fun a=>if n > 0 then(fO V [44]).bind (fun _=>eC V) a else eC V a
def nk{V:bt}{a b:Nat}{s:ByteArray}(h:eC V a=.ok (s,b)):b=a+1:=by
 unfold eC at h;split at h
 .cases h;rfl
 .cases h
def W9{V:bt}{a b:Nat}{s:Nat}(h:gq V a=.ok (s,b)):b=a+1:=by
 unfold gq at h;split at h
 .cases h;rfl
 .cases h
def uS{V:bt}{a b:Nat}{l:List UInt8}{u:Unit}(h:fO V l a=.ok (u,b)):b=a+1:=by
 unfold fO at h;split at h
 .cases h;rfl
 .cases h
def hy{α β:Type}{f:eA α}{g:α->eA β}{a b:Nat}{y:β}(h:eA.bind f g a=.ok (y,b)):∃x c,f a=.ok (x,c)/\g x c=.ok (y,b):=by
 unfold eA.bind at h;cases al:f a with
 |error e=>rw[al]at h;cases h
 |ok p=>obtain⟨x,c⟩:=p;rw[al]at h;exact⟨x,c,rfl,h⟩
def aKe{V:bt}{n a b:Nat}{s:ByteArray}(h:CC V n a=.ok (s,b)):a<b:=by
 unfold CC at h;split at h
 .obtain⟨u,c,J,aa⟩:=hy h;have:=uS J;have:=nk aa;omega
 .have:=nk h;omega
def aNb(cP:vR ag)(wf:jP ao)(base:Nat)(ah:base<=ρ){L:Nat}(cU:ρ<L){C:ad}(h:cy ρ lv ao C a)(I2:L<=C.length){v:V}{acc:List ByteArray}(av:c1 L 1 C v (ij acc))(aJ:acc.length<2^21):
 if nY (bt.of ao) [41] a=true then ∃a7,aL (aR ag) aN base Bp (ax 22 [(0,.ref ρ 0 0),(3,v)]) C=some (.ext 0,ax 22 [(0,.ref ρ 0 0),(3,v),(8,ar false)],a7)/\Ext C a7
 else match CC (bt.of ao) acc.length a with
  |.ok (s,b)=>b<ao.length/\∃gx a7,aL (aR ag) aN base Bp (ax 22 [(0,.ref ρ 0 0),(3,v)]) C=some (.bR,ax 22 [(0,.ref ρ 0 0),(3,gx)],a7)/\aH L [ρ] C a7/\au a7 ρ 0=some [lv,U b]/\c1 L 1 a7 gx (ij (acc++[s]))
  |.error e=>e<ao.length/\∃a7,gg (aR ag) (ns ag) aN base (fun _ _=>True) Bp (ax 22 [(0,.ref ρ 0 0),(3,v)]) C (qx,.agg (dA (ao.getD e ef)),a7)/\aH L [ρ] C a7:=by
 obtain⟨bG,cj,cZ⟩:=Bl cP.now cP.same cP.vk base (by omega) h ⟨#[41]⟩
 have Tt:(⟨#[41]⟩:ByteArray).data.toList=[41]:=rfl;have HT:(⟨#[44]⟩:ByteArray).data.toList=[44]:=rfl;rw[Tt]at cj;by_cases hi:nY (bt.of ao) [41] a=true
 .rw[bE hi];rw[hi]at cj;refine⟨bG,?_,cZ⟩;simp only[aA,ar]at cj;simp only[ar,simprocAttr,sG,aG,cj]
 .rw[bV hi];rw[sY]at hi;rw[hi]at cj;simp only[aA,ar]at cj;have J:=h.ext cZ
  have dr:L<=bG.length:=by have:=cZ.le;omega
  have ru:c1 L 1 bG v (ij acc):=av.cD fun id g n e=>cZ.get (av.lt id g n e)
  have dn:oc bG .s v=some (.s (.int .i64 acc.length)):=by rw[ru.rd.len,Ft]
  have oh:aH L [ρ] C bG:=aH.low (aH.gM cZ) I2
  have cd:aL (aR ag) aN base (.seq (.region Wq [] [6,7]) (.cond (.t 8) .skip (.exit 0))) (ax 22 [(0,.ref ρ 0 0),(3,v)]) C=some (.bR,ax 22 [(0,.ref ρ 0 0),(3,v),(8,ar true)],bG):=by
   simp only[ar,simprocAttr,sG,aG,cj]
  unfold CC;by_cases bd:acc.length > 0
  .rw[bE bd]
   have ab:((acc.length:Nat):Int) > 0:=by omega
   have fG:aL (aR ag) aN base (.bh KW [8,9,10] [11]) (ax 22 [(0,.ref ρ 0 0),(3,v),(8,ar true)]) bG=some (.bR,ax 22 [(0,.ref ρ 0 0),(3,v),(11,ar true)],bG):=by
    simp only[ar,simprocAttr,sG,aG,dn,ab]
   have q:=xr cP wf base ah J ⟨#[44]⟩;rw[HT]at q;revert q;unfold eT eA.bind;cases fO (bt.of ao) [44] a with
   |error e=>
     rintro⟨bj,bX,aT,a1⟩;refine⟨bj,bX,dG cd (kW (dG fG (sJ rfl (jH (it':=aN) (pre:=arq) (post:=[]) (.bQ []) rfl rfl aT ?_)))),aH.app oh (aH.low a1 dr)⟩;simp only[ar,simprocAttr,sG,aG,hs]
   |ok p=>
     obtain⟨u,b⟩:=p;rintro⟨bj,_,bX,aT,a1,cB,rfl⟩;simp only[aA]at aT;have o8:aH L [ρ] C bX:=aH.app oh (aH.low a1 dr)
     have l6:aL (aR ag) aN base (.region Lt [] [11,12,13]) (ax 22 [(0,.ref ρ 0 0),(3,v),(11,ar true)]) bG=some (.bR,ax 22 [(0,.ref ρ 0 0),(3,v)],bX):=by
      simp only[ar,simprocAttr,sG,aG,aT]
     have Jd:aL (aR ag) aN base (.seq (.bh KW [8,9,10] [11]) (.cond (.t 11) (.region Lt [] [11,12,13]) .skip)) (ax 22 [(0,.ref ρ 0 0),(3,v),(8,ar true)]) bG=some (.bR,ax 22 [(0,.ref ρ 0 0),(3,v)],bX):=(e1 fG).trans (by simp only[ar,simprocAttr,aG];exact l6)
     have p0:=I0 ru cU a1
     have q:=akq cP wf base ah cU (J.Sv cU (aH.low a1 dr) cB bj) (by have:=a1.1;omega) p0 aJ (.inl rfl)
     revert q
     show _->match eC (bt.of ao) b with
      |.ok (s,b)=>_
      |.error e=>_
     cases eC (bt.of ao) b with
     |ok p=>
       obtain⟨s,b'⟩:=p;rintro⟨bP,gx,a7,ca,dw,e',jq⟩;exact⟨bP,gx,a7,(e1 cd).trans (AO ((e1 Jd).trans ca)),aH.app o8 dw,e',jq⟩
     |error e=>
       rintro⟨bP,a7,ca,dw⟩;exact⟨bP,a7,dG cd (dG Jd ca),aH.app o8 dw⟩
  .rw[bV bd]
   have ab:¬((acc.length:Nat):Int) > 0:=by omega
   have Jd:aL (aR ag) aN base (.seq (.bh KW [8,9,10] [11]) (.cond (.t 11) (.region Lt [] [11,12,13]) .skip)) (ax 22 [(0,.ref ρ 0 0),(3,v),(8,ar true)]) bG=some (.bR,ax 22 [(0,.ref ρ 0 0),(3,v),(11,ar false)],bG):=by
    simp only[ar,simprocAttr,sG,aG,dn,ab]
   have q:=akq cP wf base ah cU J dr ru aJ (.inr rfl);revert q;cases eC (bt.of ao) a with
   |ok p=>
     obtain⟨s,b'⟩:=p;rintro⟨bP,gx,a7,ca,dw,e',jq⟩;exact⟨bP,gx,a7,(e1 cd).trans (AO ((e1 Jd).trans ca)),aH.app oh dw,e',jq⟩
   |error e=>
     rintro⟨bP,a7,ca,dw⟩;exact⟨bP,a7,dG cd (dG Jd ca),aH.app oh dw⟩
def aO5(cP:vR ag)(wf:jP ao)(base:Nat)(ah:base<=ρ){L:Nat}(cU:ρ<L):∀(n:Nat) {a:Nat} {C:ad} {v:V} {acc:List ByteArray},cy ρ lv ao C a->L<=C.length->c1 L 1 C v (ij acc)->acc.length+n<2^21->ao.length<a+n->
 match lD (bt.of ao) n acc a with
  |.ok (l,b)=>b<ao.length/\∃gx a7,aN (aL (aR ag) aN base Bp) [] L (ax 22 [(0,.ref ρ 0 0),(3,v)]) C=some (.ext 0,ax 22 [(0,.ref ρ 0 0),(3,gx),(8,ar false)],a7)/\aH L [ρ] C a7/\au a7 ρ 0=some [lv,U b]/\c1 L 1 a7 gx (ij l)/\nY (bt.of ao) [41] b=true
  |.error e=>e<ao.length/\∃a7,pe (fun fr H=>aL (aR ag) aN base Bp fr H) (fun fr H r=>gg (aR ag) (ns ag) aN base (fun _ _=>True) Bp fr H r) [] L (ax 22 [(0,.ref ρ 0 0),(3,v)]) C (qx,.agg (dA (ao.getD e ef)),a7)/\aH L [ρ] C a7:=by
 intro n
 induction n with
 |zero=>intro a C v acc h _ _ _ aJ;have:=h.lt;omega
 |succ n aF=>
   intro a C v acc h I2 av aJ al
   have q:=aNb cP wf base ah cU h I2 av (by omega)
   unfold lD;by_cases hi:nY (bt.of ao) [41] a=true
   .rw[bE hi]at q |-;obtain⟨bG,cj,cZ⟩:=q;have ru:c1 L 1 bG v (ij acc):=av.cD fun id g n e=>cZ.get (av.lt id g n e)
    have dr:L<=bG.length:=by have:=cZ.le;omega
    have Km:=aH.trim (aH.low (aH.refl ([]:List Nat) bG) dr) (cq L) (ax 22 [(0,.ref ρ 0 0),(3,v),(8,ar false)]);have oh:aH L [ρ] C bG:=aH.low (aH.gM cZ) I2
    refine⟨h.lt,v,trim L (ax 22 [(0,.ref ρ 0 0),(3,v),(8,ar false)]) bG,?_,oh.trim (cq L) _,Km.au (h.ext cZ).g cU (by simp),?_,hi⟩
    .rw[dt,cj];rfl
    .rcases ru.zH (L:=L) (cq _) (fr:=ax 22 [(0,.ref ρ 0 0),(3,v),(8,ar false)]) (arA (s:=3) (by decide) rfl)with⟨aE,rfl⟩|aE
     .rw[aE];exact c1.start _ _ _
     .rw[aE];exact ru
   .rw[bV hi]at q |-
    have key:(if acc.length > 0 then(fO (bt.of ao) [44]).bind (fun _=>(eC (bt.of ao)).bind fun x=>lD (bt.of ao) n (acc++[x])) a else(eC (bt.of ao)).bind (fun x=>lD (bt.of ao) n (acc++[x])) a)=match CC (bt.of ao) acc.length a with
     |.ok (s,b)=>lD (bt.of ao) n (acc++[s]) b
     |.error e=>.error e:=by
     unfold CC;by_cases bd:acc.length > 0
     .rw[bE bd,bE bd];unfold eA.bind;cases fO (bt.of ao) [44] a with
      |error e=>rfl
      |ok p=>
        obtain⟨u,b⟩:=p;dsimp only;cases eC (bt.of ao) b<;>rfl
     .rw[bV bd,bV bd];unfold eA.bind;cases eC (bt.of ao) a<;>rfl
    rw[key];revert q;cases ai:CC (bt.of ao) acc.length a with
    |error e=>
      rintro⟨bj,a7,aT,a1⟩;exact⟨bj,a7,.here aT,a1⟩
    |ok p=>
      obtain⟨s,b⟩:=p;rintro⟨bj,gx,a7,aT,a1,cB,gj⟩
      have j9:trim L (ax 22 [(0,.ref ρ 0 0),(3,gx)]) a7=a7:=gj.aTt (by rw[Vl];simp) (cq _) (arA (s:=3) (by decide) rfl)
      have yF:a<b:=by
       exact aKe ai
      have q:=aF (h.Sv cU a1 cB bj) a1.1 gj (by rw[c0,jd];omega) (by omega)
      revert q
      show _->match lD (bt.of ao) n (acc++[s]) b with
       |.ok (l,b)=>_
       |.error e=>_
      cases lD (bt.of ao) n (acc++[s]) b with
      |error e=>
        rintro⟨bP,D,ca,dw⟩
        refine⟨bP,D,.next aT ?_,aH.app a1 dw⟩
        show pe _ _ [] L (ax 22 [(0,.ref ρ 0 0),(3,gx)]) (trim L (ax 22 [(0,.ref ρ 0 0),(3,gx)]) a7) _;rw[j9];exact ca
      |ok p=>
        obtain⟨l,b'⟩:=p;rintro⟨bP,w,D,ca,dw,e',jq,lQ⟩;refine⟨bP,w,D,?_,aH.app a1 dw,e',jq,lQ⟩;rw[dt,aT,JP];show aN _ _ _ (ax 22 [(0,.ref ρ 0 0),(3,gx)]) (trim L (ax 22 [(0,.ref ρ 0 0),(3,gx)]) a7)=_;rw[j9];exact ca
def UI(cP:vR ag)(aB:ag J9=some (.code r2))(wf:jP ao)(base:Nat)(ah:base<=ρ){H:ad}(h:cy ρ lv ao H a){N:Nat}(eo:ao.length<N)(j':N<2^21):eT ag base J9 [.ref ρ 0 0] ρ lv ao [ρ] H (p' (bt.of ao) N a) (fun l v H'=>∃m,H.length<=m/\c1 m 1 H' v (ij l)):=by
 have jk:=h.pos;unfold p';have aQU:(⟨#[40]⟩:ByteArray).data.toList=[40]:=rfl;have Tt:(⟨#[41]⟩:ByteArray).data.toList=[41]:=rfl
 have cX:aL (aR ag) aN base (.bh RE Kj []) (ax r2.ntmps (fL r2.ntmps ([]++[.ref ρ 0 0]++[]) 0)) H=some (.bR,ax 22 [(0,.ref ρ 0 0)],H):=by
  simp only[r2,simprocAttr,sG,aG]
 have aE:aL (aR ag) aN base (.bh UW [] [3]) (ax 22 [(0,.ref ρ 0 0)]) H=some (.bR,ax 22 [(0,.ref ρ 0 0),(3,cm)],H):=by
  simp only[cm,simprocAttr,sG,aG]
 have q:=xr cP wf base ah h ⟨#[40]⟩;rw[aQU]at q;unfold eT at q |-;cases ai:fO (bt.of ao) [40] a with
 |error e=>
   rw[ai]at q
   have ak:((fO (bt.of ao) [40]).bind fun _=>(lD (bt.of ao) N []).bind fun l=>(fO (bt.of ao) [41]).bind fun _ a=>.ok (l,a)) a=.error e:=by unfold eA.bind;rw[ai]
   rw[ak];obtain⟨bj,D,aT,a1⟩:=q
   refine⟨bj,D,D4 rfl aB (by simp[r2]) (dG cX (dG aE (kW (jH (it':=aN) (pre:=auE) (post:=[]) (.bQ []) rfl rfl aT ?_)))),a1⟩
   simp only[cm,simprocAttr,sG,aG,hs]
 |ok p=>
   obtain⟨u,b⟩:=p;rw[ai]at q;obtain⟨bj,_,D,aT,a1,cB,rfl⟩:=q;have d':=h.cD a1 cB bj;have NU:=a1.1;simp only[aA]at aT
   have aU:aL (aR ag) aN base (.region W7 [] [4,5]) (ax 22 [(0,.ref ρ 0 0),(3,cm)]) H=some (.bR,ax 22 [(0,.ref ρ 0 0),(3,cm)],D):=by
    simp only[cm,simprocAttr,sG,aG,aT]
   have q:=aO5 cP wf base ah (L:=D.length) (by omega) N d' (cq _) (acc:=[]) (c1.start _ _ _) (by simpa using j') (by omega)
   cases aq:lD (bt.of ao) N [] b with
   |error e=>
     rw[aq]at q
     have ak:((fO (bt.of ao) [40]).bind fun _=>(lD (bt.of ao) N []).bind fun l=>(fO (bt.of ao) [41]).bind fun _ a=>.ok (l,a)) a=.error e:=by unfold eA.bind;rw[ai];dsimp only;rw[aq]
     rw[ak];obtain⟨bP,bU,ca,dw⟩:=q
     exact⟨bP,bU,D4 rfl aB (by simp[r2]) (dG cX (dG aE (dG aU (kW ca)))),aH.then' a1 dw⟩
   |ok p=>
     obtain⟨l,c⟩:=p;rw[aq]at q;obtain⟨bP,v,bU,ca,dw,e',jq,lQ⟩:=q
     have sL:fO (bt.of ao) [41] c=.ok ((),c+1):=by unfold fO;rw[bE lQ]
     have ak:((fO (bt.of ao) [40]).bind fun _=>(lD (bt.of ao) N []).bind fun l=>(fO (bt.of ao) [41]).bind fun _ a=>.ok (l,a)) a=.ok (l,c+1):=by unfold eA.bind;rw[ai];dsimp only;rw[aq];dsimp only;rw[sL]
     rw[ak]
     have q:=xr cP wf base ah (d'.Sv (by omega) dw e' bP) ⟨#[41]⟩
     rw[Tt,sL]at q;obtain⟨t1,_,dq,t2,t3,t4,rfl⟩:=q
     have K:=aH.then' a1 dw
     have aDb:=I0 jq (by omega) t3
     refine⟨t1,v,dq,gR (c:=r2) aB (by simp[r2]) ?_,aH.app K (aH.low t3 K.1),t4,D.length,NU,aDb⟩
     simp only[aA,cm,ar]at t2 ca aT;simp only[r2,simprocAttr,sG,aG,aT,ca,t2]
end
def fM(aP m:Nat)(H:ad)(x:bI)(a' lw:V):Prop:=aP<m/\m<=H.length/\au H aP 0=some (bg x a' lw)/\c1 m 1 H a' (ij x.xs)/\c1 m 1 H lw (ij x.ls)/\∀id g n g' ek,a'=.aZ id g 0 n 1->lw≠.aZ id g' 0 ek 1
def fM.cD{aP m ρ:Nat}{H H':ad}{x:bI}{a' lw:V}(h:fM aP m H x a' lw)(jk:ρ<aP)(k:aH H.length [ρ] H H'):fM aP m H' x a' lw:=by
 obtain⟨J,aa,aI,bl,cO,fQ⟩:=h
 exact⟨J,by have:=k.1;omega,k.au aI (iC aI) (by rw[eQ];omega),I0 bl (by omega) k,I0 cO (by omega) k,fQ⟩
def fM.set{aP m:Nat}{H:ad}{x y:bI}{a' lw:V}(h:fM aP m H x a' lw)(af:y.xs=x.xs)(aq:y.ls=x.ls):fM aP m (H.set aP (.cells 0 (bg y a' lw))) y a' lw:=by
 obtain⟨J,aa,aI,bl,cO,fQ⟩:=h
 refine⟨J,by rw[fP];exact aa,fJ aI _,?_,?_,fQ⟩
 .rw[af];refine bl.cD fun id g n e=>?_;subst e;have:=iK bl
  rw[cG (by omega)]
 .rw[aq];refine cO.cD fun id g n e=>?_;subst e;have:=iK cO
  rw[cG (by omega)]
def aH.two{L ρ aP:Nat}{A B:ad}(h:aH L [ρ] A B):aH L [ρ,aP] A B:=⟨h.1,fun id J aa=>h.2 id J (by simp at aa |-;exact aa.1)⟩
def aH.uT{L ρ aP:Nat}{A B:ad}(h:aH L [ρ,aP] A B)(br:aM):aH L [ρ,aP] A (B.set aP br):=⟨by rw[fP];exact h.1,fun id J aa=>by
 rw[cG (by simp at aa;omega)]
 exact h.2 id J aa⟩
def aH.mU{A B C:ad}{ρ aP:Nat}(h:aH A.length [ρ,aP] A B)(k:aH B.length [ρ,aP] B C):aH A.length [ρ,aP] A C:=aH.trans h k h.1
def cy.DA{ρ aP a b:Nat}{lv:V}{ao:List Tok.T}{H H':ad}(h:cy ρ lv ao H a)(ep:ρ<aP)(k:aH H.length [ρ,aP] H H')(g:au H' ρ 0=some [lv,U b])(ah:b<ao.length):cy ρ lv ao H' b:=by
 obtain⟨m,w⟩:=h.w;refine⟨g,⟨m,w.cD fun id g n av=>?_⟩,h.hR,ah,h.n⟩;have:=h.hR id g n av;have:=h.pos
 exact k.2 id (by omega) (by simp;omega)
def c1.low{m k w:Nat}{H:ad}{v:V}{R:List (List V)}(h:c1 m w H v R)(an:k<=m):c1 k w H v R:=by
 obtain⟨J,aa|⟨id,g,aa,aI,bl⟩⟩:=h
 .exact⟨J,.inl aa⟩
 .exact⟨J,.inr ⟨id,g,aa,aI,by omega⟩⟩
def fM.abk{aP m:Nat}{H:ad}{x:bI}{a' lw:V}(h:fM aP m H x a' lw)(l:List ByteArray):fM aP m ((H++[aM.cells 0 (l.map aA)]).set aP (.cells 0 (bg { x with ls:=l } a' (.aZ H.length 0 0 l.length 1)))) { x with ls:=l } a' (.aZ H.length 0 0 l.length 1):=by
 obtain⟨J,aa,aI,bl,cO,fQ⟩:=h;have ep:=iC aI
 refine⟨J,by rw[fP,dh];omega,fJ (b7 aI (Ext.app _ _)) _,?_,?_,?_⟩
 .refine bl.cD fun id g n e=>?_;subst e;have:=iK bl;have:=bl.lt id g n rfl
  rw[cG (by omega),bi (by omega)]
 .refine⟨fun r ak=>?_,.inr ⟨H.length,0,by rw[Ft],?_,by omega⟩⟩
  .obtain⟨s,_,rfl⟩:=wJ.1 ak;rfl
  .rw[aje];unfold au
   rw[cG (by omega)]
   exact cQ H 0 _
 .intro id g n g' ek e bN;subst e;have:=bl.lt id g n rfl;cases bN;omega
def fM.anE{aP m k:Nat}{H H':ad}{x:bI}{a' lw v:V}{l:List ByteArray}(h:fM aP m H x a' lw)(lz:fM aP m H' x a' lw)(av:c1 k 1 H' v (ij l))(an:H.length<=k):fM aP m (H'.set aP (.cells 0 (bg { x with xs:=l } v lw))) { x with xs:=l } v lw:=by
 obtain⟨J,aa,aI,bl,cO,fQ⟩:=lz;have aCO:=h.2.2.2.2.1;have hm:=h.2.1
 refine⟨J,by rw[fP];exact aa,fJ aI _,?_,?_,?_⟩
 .refine(c1.low av (by omega)).cD fun id g n e=>?_
  subst e;have:=iK av
  rw[cG (by omega)]
 .refine cO.cD fun id g n e=>?_;subst e;have:=iK cO
  rw[cG (by omega)]
 .intro id g n g' ek e bN;subst e;subst bN;have:=iK av;have:=aCO.lt id g' ek rfl;omega
theorem p9.R3{m:Nat}{H:ad}{v:V}{l:List V}(h:p9 m H v l):v.cells=[v]:=by
 rcases h with⟨_,rfl|rfl⟩|⟨id,g,c,rfl,_⟩<;>rfl
structure pB (ag:Nat->Option cz):Prop where
 R:vR ag
 list:ag J9=some (.code r2)
 size:ag zg=some (.code vB)
 nothing:ag KH=some (.code Ek)
 fn:ag EJ=some (.code vw)
 one:ag zx=some (.code vg)
 field:ag Em=some (.code sI)
 Cu:ag CF=some (.code rC)
 call:ag z'=some (.code te)
 Xm:ag y0=some (.code tT)
 store:ag DD=some (.code qZ)
 DP:ag Dv=some (.code q5)
 to:ag EN=some (.code wv)
 ret:ag J8=some (.code tO)
abbrev sP(aP m:Nat):bI->V->ad->Prop:=fun y v H'=>v=.bQ []/\∃a' lw,fM aP m H' y a' lw
section
variable {ag:Nat->Option cz} {ρ:Nat} {lv:V} {ao:List Tok.T} {H:ad} {a:Nat}
theorem FP(ck:pB ag)(wf:jP ao)(base:Nat)(ah:base<=ρ)(h:cy ρ lv ao H a){aP m:Nat}(ep:ρ<aP){x:bI}{a' lw:V}(af:fM aP m H x a' lw):eT ag base zx [.ref ρ 0 0,.ref aP 0 0] ρ lv ao [ρ,aP] H ((eC (bt.of ao)).bind (fun s a=>.ok ({ x with a:=s },a)) a) (sP aP m):=by
 have q:=yi ck.R wf base ah h
 have hO:base<=aP:=by omega
 have vb:base<=H.length:=by have:=h.pos;omega
 unfold eT at q;unfold eA.bind eT;cases ai:eC (bt.of ao) a with
 |error e=>
   rw[ai]at q;obtain⟨bj,D,aT,a1⟩:=q;have iS:=af.2.2.1
   refine⟨bj,D,xX (c:=vg) (k:=2) rfl ck.one rfl (by decide) abW (pre:=asj) (post:=S8) (.inl rfl) (aA ⟨#[]⟩) rfl rfl aT ?_,aH.two a1⟩
   simp only[bg,aA]at iS;simp only[aA,simprocAttr,vg,adI,aG,hs,iS,hO]
 |ok p=>
   obtain⟨s,b⟩:=p;rw[ai]at q;obtain⟨bj,_,D,aT,a1,cB,rfl⟩:=q;have kF:=af.cD ep a1;have iS:=kF.2.2.1;have gX:=kF.set (y:={ x with a:=s }) rfl rfl;obtain⟨E,bp⟩:∃E,D.set aP (.cells 0 (bg { x with a:=s } a' lw))=E:=⟨_,rfl⟩
   have rb:au E ρ 0=some [lv,U b]:=by
    unfold au at cB |-
    rw[<- bp,cG (by omega)]
    exact cB
   rw[bp]at gX
   refine⟨bj,.bQ [],E,eF (c:=vg) (k:=2) ck.one rfl (by decide) abW ?_,bp▸aH.uT (aH.two a1) _,rb,rfl,a',lw,gX⟩
   simp only[bg,aA]at iS aT bp;simp only[vg,simprocAttr,adI,aG,aT,iS,hO,bp]
   try rfl
theorem acd(ck:pB ag)(wf:jP ao)(base:Nat)(ah:base<=ρ)(h:cy ρ lv ao H a){aP m:Nat}(ep:ρ<aP){x:bI}{a' lw:V}(af:fM aP m H x a' lw):eT ag base EJ [.ref ρ 0 0,.ref aP 0 0] ρ lv ao [ρ,aP] H ((eC (bt.of ao)).bind (fun s a=>.ok ({ x with f:=s },a)) a) (sP aP m):=by
 have q:=yi ck.R wf base ah h
 have hO:base<=aP:=by omega
 have vb:base<=H.length:=by have:=h.pos;omega
 unfold eT at q;unfold eA.bind eT;cases ai:eC (bt.of ao) a with
 |error e=>
   rw[ai]at q;obtain⟨bj,D,aT,a1⟩:=q;have iS:=af.2.2.1
   refine⟨bj,D,xX (c:=vw) (k:=2) rfl ck.fn rfl (by decide) ao9 (pre:=adq) (post:=Rl) (.inl rfl) (aA ⟨#[]⟩) rfl rfl aT ?_,aH.two a1⟩
   simp only[bg,aA]at iS;simp only[aA,simprocAttr,vw,alY,aG,hs,iS,hO]
 |ok p=>
   obtain⟨s,b⟩:=p;rw[ai]at q;obtain⟨bj,_,D,aT,a1,cB,rfl⟩:=q;have kF:=af.cD ep a1;have iS:=kF.2.2.1;have gX:=kF.set (y:={ x with f:=s }) rfl rfl;obtain⟨E,bp⟩:∃E,D.set aP (.cells 0 (bg { x with f:=s } a' lw))=E:=⟨_,rfl⟩
   have rb:au E ρ 0=some [lv,U b]:=by
    unfold au at cB |-
    rw[<- bp,cG (by omega)]
    exact cB
   rw[bp]at gX
   refine⟨bj,.bQ [],E,eF (c:=vw) (k:=2) ck.fn rfl (by decide) ao9 ?_,bp▸aH.uT (aH.two a1) _,rb,rfl,a',lw,gX⟩
   simp only[bg,aA]at iS aT bp;simp only[vw,simprocAttr,alY,aG,aT,iS,hO,bp]
   try rfl
theorem aGv(ck:pB ag)(base:Nat)(h:cy ρ lv ao H a){aP m:Nat}{x:bI}{a' lw:V}(af:fM aP m H x a' lw):eT ag base KH [.ref ρ 0 0,.ref aP 0 0] ρ lv ao [ρ,aP] H (.ok (x,a)) (sP aP m):=by
 refine⟨h.lt,.bQ [],H,gR (c:=Ek) ck.nothing (by simp[Ek]) ?_,aH.refl _ _,h.g,rfl,a',lw,af⟩
 rfl
def X2(ck:pB ag)(wf:jP ao)(base:Nat)(ah:base<=ρ)(h:cy ρ lv ao H a){aP m:Nat}(ep:ρ<aP){x:bI}{a' lw:V}(af:fM aP m H x a' lw):eT ag base zg [.ref ρ 0 0,.ref aP 0 0] ρ lv ao [ρ,aP] H ((gq (bt.of ao)).bind (fun n a=>.ok ({ x with k:=n },a)) a) (sP aP m):=by
 have hO:base<=aP:=by omega
 have vb:base<=H.length:=by have:=h.pos;omega
 have iS:=af.2.2.1;have jk:=h.pos;simp only[bg,aA]at iS;unfold eA.bind eT gq;by_cases an:((bt.of ao).same a&&(bt.of ao).kind a==2)=true
 .rw[bE an];obtain⟨D,cj,cZ,hN⟩:=aa4 ck.R base ah h 2 an;obtain⟨t,aY⟩:∃t,ao.getD a ef=t:=⟨_,rfl⟩;rw[dR,lc]at an
  have aJ:(bt.of ao).num a=t.n:=by rw[<- aY];rfl
  have kF:=af.cD ep cZ;have r5:=kF.2.2.1;have gX:=kF.set (y:={ x with k:=((bt.of ao).num a:Nat) }) rfl rfl;obtain⟨E,bp⟩:∃E,D.set aP (.cells 0 (bg { x with k:=((bt.of ao).num a:Nat) } a' lw))=E:=⟨_,rfl⟩
  have rb:au E ρ 0=some [lv,U (a+1:Nat)]:=by
   unfold au at hN |-
   rw[<- bp,cG (by omega)]
   exact hN
  rw[bp]at gX;rw[aY]at cj;rw[aJ]at bp;have aVm:((2:Nat):Int)=2:=rfl
  refine⟨wf.pn a h.lt (by rw[show(ao.getD a ef).kind=2 from an.2];decide),.bQ [],E,eF (c:=vB) (k:=2) ck.size rfl (by decide) abJ ?_,bp▸aH.uT (aH.two cZ) _,rb,rfl,a',lw,gX⟩
  simp only[bg,dA,aA,aVm]at r5 cj bp;simp only[vB,simprocAttr,avK,aG,cj,r5,hO,bp]
  try rfl
 .rw[bV an];rw[sY]at an;obtain⟨D,cj,cZ⟩:=ak7 ck.R base ah h 2 an
  refine⟨h.lt,D,xX (c:=vB) (k:=2) rfl ck.size rfl (by decide) abJ (pre:=amm) (post:=WE) (.inl rfl) (.agg mP) rfl rfl cj ?_,aH.two (aH.gM cZ)⟩
  simp only[mP,simprocAttr,vB,avK,aG,hs,iS,hO]
theorem aNm(ck:pB ag)(wf:jP ao)(base:Nat)(ah:base<=ρ)(h:cy ρ lv ao H a){aP m:Nat}(ep:ρ<aP){x:bI}{a' lw:V}(af:fM aP m H x a' lw):eT ag base EN [.ref ρ 0 0,.ref aP 0 0] ρ lv ao [ρ,aP] H ((eC (bt.of ao)).bind (fun s a=>.ok ({ x with ls:=[s] },a)) a) (sP aP m):=by
 have hO:base<=aP:=by omega
 have vb:base<=H.length:=by have:=h.pos;omega
 have iS:=af.2.2.1;have jk:=h.pos;simp only[bg,aA]at iS;have q:=yi ck.R wf base ah h;unfold eT at q;unfold eA.bind eT;cases ai:eC (bt.of ao) a with
 |error e=>
   rw[ai]at q;obtain⟨bj,D,aT,a1⟩:=q;have XX:=fun c=>b7 iS (Ext.app H [aM.cells 0 c])
   refine⟨bj,D,xX (c:=wv) (k:=2) rfl ck.to rfl (by decide) aw0 (pre:=alC) (post:=T8) (.inl rfl) (aA ⟨#[]⟩) rfl rfl aT ?_,aH.two a1⟩
   simp only[aA,simprocAttr,wv,ap2,aG,hs,XX,hO]
 |ok p=>
   obtain⟨s,b⟩:=p;rw[ai]at q;obtain⟨bj,_,D,aT,a1,cB,rfl⟩:=q;have kF:=af.cD ep a1;have r5:=b7 kF.2.2.1 (Ext.app D [aM.cells 0 ([s].map aA)]);have gX:=kF.abk [s];obtain⟨E,bp⟩:∃E,(D++[aM.cells 0 ([s].map aA)]).set aP (.cells 0 (bg { x with ls:=[s] } a' (.aZ D.length 0 0 1 1)))=E:=⟨_,rfl⟩
   have Y8:ρ<D.length:=by have:=a1.1;omega
   have rb:au E ρ 0=some [lv,U b]:=by
    unfold au at cB |-
    rw[<- bp,cG (by omega),bi Y8]
    exact cB
   rw[show([s]:List ByteArray).length=1 from rfl,bp]at gX
   have K:aH H.length [ρ,aP] H (D++[aM.cells 0 ([s].map aA)]):=aH.app (aH.two a1) ⟨by rw[dh];have:=a1.1;omega,fun id J _=>bi (by have:=a1.1;omega)⟩
   refine⟨bj,.bQ [],E,eF (c:=wv) (k:=2) ck.to rfl (by decide) aw0 ?_,bp▸aH.uT K _,rb,rfl,a',_,gX⟩
   simp only[bg,aA,dW,hC]at r5 aT bp;simp only[wv,simprocAttr,ap2,aG,aT,r5,hO,bp]
   try rfl
theorem aMS(ck:pB ag)(wf:jP ao)(base:Nat)(ah:base<=ρ)(h:cy ρ lv ao H a){aP m:Nat}(ep:ρ<aP){x:bI}{a' lw:V}(af:fM aP m H x a' lw):eT ag base Dv [.ref ρ 0 0,.ref aP 0 0] ρ lv ao [ρ,aP] H ((eC (bt.of ao)).bind (fun s=>(eC (bt.of ao)).bind fun t a=>.ok ({ x with ls:=[s,t] },a)) a) (sP aP m):=by
 have hO:base<=aP:=by omega
 have vb:base<=H.length:=by have:=h.pos;omega
 have iS:=af.2.2.1;have jk:=h.pos;simp only[bg,aA]at iS;have XX:=fun c=>b7 iS (Ext.app H [aM.cells 0 c]);have q:=yi ck.R wf base ah h
 have rr:(aL (adc (aA ⟨#[]⟩)) aN base (.region O6 [] nL) (ax q5.ntmps (nA [.ref ρ 0 0,.ref aP 0 0] 0)) H).isSome=true:=by
  simp only[aA,simprocAttr,q5,aaQ,aG,hs,XX,hO]
 unfold eT at q;unfold eA.bind eT;cases ai:eC (bt.of ao) a with
 |error e=>
   rw[ai]at q;obtain⟨bj,D,aT,a1⟩:=q
   exact⟨bj,D,xX (c:=q5) (k:=2) rfl ck.DP rfl (by decide) Wf (pre:=XV) (post:=WK) (.inl rfl) (aA ⟨#[]⟩) rfl rfl aT rr,aH.two a1⟩
 |ok p=>
   obtain⟨s,b⟩:=p;rw[ai]at q;obtain⟨bj,_,D,aT,a1,cB,rfl⟩:=q
   have Y8:ρ<D.length:=by have:=a1.1;omega
   have gL:=yi ck.R wf base ah (h.cD a1 cB bj);unfold eT at gL;dsimp only;cases aY:eC (bt.of ao) b with
   |error e=>
     rw[aY]at gL;obtain⟨bP,bU,ca,dw⟩:=gL
     refine⟨bP,bU,aPL (c:=q5) (a:=.region O6 [] nL) rfl ck.DP (by simp[q5]) (.inl rfl) (aaB (it':=aN) (HK:=XV) (Fo:=Zm) (post:=Q6) (aA ⟨#[]⟩) rfl rfl aT rfl ca ?_),aH.two (aH.then' a1 dw)⟩
     exact aEA (c:=q5) (vs:=[.ref ρ 0 0,.ref aP 0 0]) (k:=2) rfl (by decide) Wf (.inl rfl) rr
   |ok p=>
     obtain⟨t,eI⟩:=p;rw[aY]at gL;obtain⟨bP,_,bU,ca,dw,e',rfl⟩:=gL
     have o8:=aH.then' a1 dw
     have kF:=af.cD ep o8;have r5:=b7 kF.2.2.1 (Ext.app bU [aM.cells 0 ([s,t].map aA)]);have gX:=kF.abk [s,t];obtain⟨E,bp⟩:∃E,(bU++[aM.cells 0 ([s,t].map aA)]).set aP (.cells 0 (bg { x with ls:=[s,t] } a' (.aZ bU.length 0 0 2 1)))=E:=⟨_,rfl⟩
     have rb:au E ρ 0=some [lv,U eI]:=by
      unfold au at e' |-
      rw[<- bp,cG (by omega),bi (by have:=dw.1;omega)]
      exact e'
     rw[show([s,t]:List ByteArray).length=2 from rfl,bp]at gX
     have K:aH H.length [ρ,aP] H (bU++[aM.cells 0 ([s,t].map aA)]):=aH.app (aH.two o8) ⟨by rw[dh];have:=o8.1;omega,fun id J _=>bi (by have:=o8.1;omega)⟩
     refine⟨bP,.bQ [],E,eF (c:=q5) (k:=2) ck.DP rfl (by decide) Wf ?_,bp▸aH.uT K _,rb,rfl,a',_,gX⟩
     simp only[bg,aA,dW,hC]at r5 aT ca bp;simp only[q5,simprocAttr,aaQ,aG,aT,ca,r5,hO,bp]
     try rfl
theorem aIK(ck:pB ag)(wf:jP ao)(base:Nat)(ah:base<=ρ)(h:cy ρ lv ao H a){aP m:Nat}(ep:ρ<aP){x:bI}{a' lw:V}(af:fM aP m H x a' lw):eT ag base Em [.ref ρ 0 0,.ref aP 0 0] ρ lv ao [ρ,aP] H ((eC (bt.of ao)).bind (fun s=>(gq (bt.of ao)).bind fun n a=>.ok ({ x with a:=s,k:=n },a)) a) (sP aP m):=by
 have hO:base<=aP:=by omega
 have vb:base<=H.length:=by have:=h.pos;omega
 have iS:=af.2.2.1;have jk:=h.pos;simp only[bg,aA]at iS;have q:=FP ck wf base ah h ep af;unfold eT eA.bind at q;unfold eT eA.bind;cases ai:eC (bt.of ao) a with
 |error e=>
   rw[ai]at q;obtain⟨bj,D,aT,a1⟩:=q
   refine⟨bj,D,xX (c:=sI) (k:=2) rfl ck.field rfl (by decide) Vw (pre:=aoI) (post:=[]) (.inr ⟨_,rfl⟩) (.bQ []) rfl rfl aT ?_,a1⟩
   simp only[sI,simprocAttr,MD,aG,hs]
 |ok p=>
   obtain⟨s,b⟩:=p;rw[ai]at q;obtain⟨bj,_,D,aT,a1,cB,rfl,vD,p4,gX⟩:=q;have gL:=X2 ck wf base ah (h.DA ep a1 cB bj) ep gX;unfold eT eA.bind at gL;dsimp only;cases aY:gq (bt.of ao) b with
   |error e=>
     rw[aY]at gL;obtain⟨bP,bU,ca,dw⟩:=gL
     refine⟨bP,bU,qH (c:=sI) (k:=2) rfl ck.field rfl (by decide) Vw rfl (H1:=D) (cw:=ax 10 [(0,.ref ρ 0 0),(1,.ref aP 0 0)]) ?_ (jH (it':=aN) (pre:=agr) (post:=[]) (.bQ []) rfl rfl ca ?_),aH.mU a1 dw⟩
     .simp only[sI,simprocAttr,MD,aG,aT]
     .simp only[MD,simprocAttr,aG,hs]
   |ok p=>
     obtain⟨n,eI⟩:=p;rw[aY]at gL;obtain⟨bP,_,bU,ca,dw,e',rfl,aB9,aDf,sa⟩:=gL
     refine⟨bP,.bQ [],bU,eF (c:=sI) (k:=2) ck.field rfl (by decide) Vw ?_,aH.mU a1 dw,e',rfl,aB9,aDf,sa⟩
     simp only[sI,simprocAttr,MD,aG,aT,ca]
     try rfl
theorem aO1(ck:pB ag)(wf:jP ao)(base:Nat)(ah:base<=ρ)(h:cy ρ lv ao H a){aP m:Nat}(ep:ρ<aP){x:bI}{a' lw:V}(af:fM aP m H x a' lw){N:Nat}(eo:ao.length<N)(j':N<2^21):eT ag base z' [.ref ρ 0 0,.ref aP 0 0] ρ lv ao [ρ,aP] H ((eC (bt.of ao)).bind (fun s=>(p' (bt.of ao) N).bind fun l a=>.ok ({ x with f:=s,xs:=l },a)) a) (sP aP m):=by
 have hO:base<=aP:=by omega
 have vb:base<=H.length:=by have:=h.pos;omega
 have iS:=af.2.2.1;have jk:=h.pos;simp only[bg,aA]at iS;have q:=acd ck wf base ah h ep af;unfold eT eA.bind at q;unfold eT eA.bind;cases ai:eC (bt.of ao) a with
 |error e=>
   rw[ai]at q;obtain⟨bj,D,aT,a1⟩:=q
   refine⟨bj,D,xX (c:=te) (k:=2) rfl ck.call rfl (by decide) W6 (pre:=aqr) (post:=[]) (.inr ⟨_,rfl⟩) (.bQ []) rfl rfl aT ?_,a1⟩
   simp only[te,simprocAttr,Nk,aG,hs]
 |ok p=>
   obtain⟨s,b⟩:=p;rw[ai]at q;obtain⟨bj,_,D,aT,a1,cB,rfl,vD,p4,gX⟩:=q;have d':=h.DA ep a1 cB bj;have gL:=UI ck.R ck.list wf base ah d' eo j';have qz:=gX.2.2.1;unfold eT at gL;dsimp only;cases aY:p' (bt.of ao) N b with
   |error e=>
     rw[aY]at gL;obtain⟨bP,bU,ca,dw⟩:=gL
     refine⟨bP,bU,qH (c:=te) (k:=2) rfl ck.call rfl (by decide) W6 rfl (H1:=D) (cw:=ax 12 [(0,.ref ρ 0 0),(1,.ref aP 0 0)]) ?_ (jH (it':=aN) (pre:=aw9) (post:=XT) cm rfl rfl ca ?_),aH.mU a1 (aH.two dw)⟩
     .simp only[te,simprocAttr,Nk,aG,aT]
     .simp only[bg,aA]at qz;simp only[cm,simprocAttr,Nk,aG,hs,qz,hO]
   |ok p=>
     obtain⟨l,eI⟩:=p;rw[aY]at gL;obtain⟨bP,v,bU,ca,dw,e',aTI,qa,av⟩:=gL;have sa:=gX.cD ep dw;have sd:=sa.2.2.1;have rl:=gX.anE sa av qa;obtain⟨E,bp⟩:∃E,bU.set aP (.cells 0 (bg { x with f:=s,xs:=l } v p4))=E:=⟨_,rfl⟩
     have rb:au E ρ 0=some [lv,U eI]:=by
      unfold au at e' |-
      rw[<- bp,cG (by omega)]
      exact e'
     have zM:fM aP m E { x with f:=s,xs:=l } v p4:=bp▸rl;have Cv:v.one=true:=av.rd.one;have V9:=p9.R3 (Dg av)
     refine⟨bP,.bQ [],E,eF (c:=te) (k:=2) ck.call rfl (by decide) W6 ?_,bp▸aH.uT (aH.mU a1 (aH.two dw)) _,rb,rfl,v,p4,zM⟩
     simp only[bg,aA]at sd bp;simp only[te,simprocAttr,Nk,aG,aT,ca,sd,hO,Cv,V9,bp]
     try rfl
theorem aRd(ck:pB ag)(wf:jP ao)(base:Nat)(ah:base<=ρ)(h:cy ρ lv ao H a){aP m:Nat}(ep:ρ<aP){x:bI}{a' lw:V}(af:fM aP m H x a' lw){N:Nat}(eo:ao.length<N)(j':N<2^21):eT ag base y0 [.ref ρ 0 0,.ref aP 0 0] ρ lv ao [ρ,aP] H ((eC (bt.of ao)).bind (fun s=>(p' (bt.of ao) N).bind fun l a=>.ok ({ x with a:=s,xs:=l },a)) a) (sP aP m):=by
 have hO:base<=aP:=by omega
 have vb:base<=H.length:=by have:=h.pos;omega
 have iS:=af.2.2.1;have jk:=h.pos;simp only[bg,aA]at iS;have q:=FP ck wf base ah h ep af;unfold eT eA.bind at q;unfold eT eA.bind;cases ai:eC (bt.of ao) a with
 |error e=>
   rw[ai]at q;obtain⟨bj,D,aT,a1⟩:=q
   refine⟨bj,D,xX (c:=tT) (k:=2) rfl ck.Xm rfl (by decide) Uj (pre:=Z6) (post:=[]) (.inr ⟨_,rfl⟩) (.bQ []) rfl rfl aT ?_,a1⟩
   simp only[tT,simprocAttr,Oo,aG,hs]
 |ok p=>
   obtain⟨s,b⟩:=p;rw[ai]at q;obtain⟨bj,_,D,aT,a1,cB,rfl,vD,p4,gX⟩:=q;have d':=h.DA ep a1 cB bj;have gL:=UI ck.R ck.list wf base ah d' eo j';have qz:=gX.2.2.1;unfold eT at gL;dsimp only;cases aY:p' (bt.of ao) N b with
   |error e=>
     rw[aY]at gL;obtain⟨bP,bU,ca,dw⟩:=gL
     refine⟨bP,bU,qH (c:=tT) (k:=2) rfl ck.Xm rfl (by decide) Uj rfl (H1:=D) (cw:=ax 12 [(0,.ref ρ 0 0),(1,.ref aP 0 0)]) ?_ (jH (it':=aN) (pre:=ap7) (post:=Ru) cm rfl rfl ca ?_),aH.mU a1 (aH.two dw)⟩
     .simp only[tT,simprocAttr,Oo,aG,aT]
     .simp only[bg,aA]at qz;simp only[cm,simprocAttr,Oo,aG,hs,qz,hO]
   |ok p=>
     obtain⟨l,eI⟩:=p;rw[aY]at gL;obtain⟨bP,v,bU,ca,dw,e',aTI,qa,av⟩:=gL;have sa:=gX.cD ep dw;have sd:=sa.2.2.1;have rl:=gX.anE sa av qa;obtain⟨E,bp⟩:∃E,bU.set aP (.cells 0 (bg { x with a:=s,xs:=l } v p4))=E:=⟨_,rfl⟩
     have rb:au E ρ 0=some [lv,U eI]:=by
      unfold au at e' |-
      rw[<- bp,cG (by omega)]
      exact e'
     have zM:fM aP m E { x with a:=s,xs:=l } v p4:=bp▸rl;have Cv:v.one=true:=av.rd.one;have V9:=p9.R3 (Dg av)
     refine⟨bP,.bQ [],E,eF (c:=tT) (k:=2) ck.Xm rfl (by decide) Uj ?_,bp▸aH.uT (aH.mU a1 (aH.two dw)) _,rb,rfl,v,p4,zM⟩
     simp only[bg,aA]at sd bp;simp only[tT,simprocAttr,Oo,aG,aT,ca,sd,hO,Cv,V9,bp]
     try rfl
theorem aHN(ck:pB ag)(wf:jP ao)(base:Nat)(ah:base<=ρ)(h:cy ρ lv ao H a){aP m:Nat}(ep:ρ<aP){x:bI}{a' lw:V}(af:fM aP m H x a' lw):eT ag base DD [.ref ρ 0 0,.ref aP 0 0] ρ lv ao [ρ,aP] H ((eC (bt.of ao)).bind (fun s=>(fO (bt.of ao) [44]).bind fun _=>(eC (bt.of ao)).bind fun t a=>.ok ({ x with a:=s,b:=t },a)) a) (sP aP m):=by
 have hO:base<=aP:=by omega
 have vb:base<=H.length:=by have:=h.pos;omega
 have iS:=af.2.2.1;have jk:=h.pos;simp only[bg,aA]at iS;have q:=FP ck wf base ah h ep af;have HT:(⟨#[44]⟩:ByteArray).data.toList=[44]:=rfl;unfold eT eA.bind at q;unfold eT eA.bind;cases ai:eC (bt.of ao) a with
 |error e=>
   rw[ai]at q;obtain⟨bj,D,aT,a1⟩:=q
   refine⟨bj,D,xX (c:=qZ) (k:=2) rfl ck.store rfl (by decide) O8 (pre:=anv) (post:=[]) (.inr ⟨_,rfl⟩) (.bQ []) rfl rfl aT ?_,a1⟩
   simp only[qZ,simprocAttr,F9,aG,hs]
 |ok p=>
   obtain⟨s,b⟩:=p;rw[ai]at q;obtain⟨bj,_,D,aT,a1,cB,rfl,vD,p4,gX⟩:=q;have d':=h.DA ep a1 cB bj
   have cX:aL (aR ag) aN base (.region SI [] Ax) (ax qZ.ntmps (nA ([]++[.ref ρ 0 0,.ref aP 0 0]++[]) 0)) H=some (.bR,ax 14 [(0,.ref ρ 0 0),(1,.ref aP 0 0)],D):=by
    simp only[qZ,simprocAttr,F9,aG,aT]
   have gL:=xr ck.R wf base ah d' ⟨#[44]⟩;rw[HT]at gL;unfold eT at gL;dsimp only;cases aY:fO (bt.of ao) [44] b with
   |error e=>
     rw[aY]at gL;obtain⟨bP,bU,ca,dw⟩:=gL
     refine⟨bP,bU,qH (c:=qZ) (k:=2) rfl ck.store rfl (by decide) O8 rfl cX (kW (jH (it':=aN) (pre:=auT) (post:=[]) (.bQ []) rfl rfl ca ?_)),aH.mU a1 (aH.two dw)⟩
     simp only[F9,simprocAttr,aG,hs]
   |ok p=>
     obtain⟨u,eI⟩:=p;rw[aY]at gL;obtain⟨bP,_,bU,ca,dw,e',rfl⟩:=gL;have iz:=d'.cD dw e' bP;have sa:=gX.cD ep dw;have sd:=sa.2.2.1;simp only[aA]at ca
     have aE:aL (aR ag) aN base (.region TH [] [7,8]) (ax 14 [(0,.ref ρ 0 0),(1,.ref aP 0 0)]) D=some (.bR,ax 14 [(0,.ref ρ 0 0),(1,.ref aP 0 0)],bU):=by
      simp only[F9,simprocAttr,aG,ca]
     have wj:=yi ck.R wf base ah iz;unfold eT at wj;dsimp only;cases hu:eC (bt.of ao) eI with
     |error e=>
       rw[hu]at wj;obtain⟨t1,dq,t2,t3⟩:=wj
       refine⟨t1,dq,qH (c:=qZ) (k:=2) rfl ck.store rfl (by decide) O8 rfl cX (dG aE (jH (it':=aN) (pre:=axO) (post:=WC) (aA ⟨#[]⟩) rfl rfl t2 ?_)),aH.mU a1 (aH.mU (aH.two dw) (aH.two t3))⟩
       simp only[bg,aA]at sd;simp only[aA,simprocAttr,F9,aG,hs,sd,hO]
     |ok p=>
       obtain⟨t,jQ⟩:=p;rw[hu]at wj;obtain⟨t1,_,dq,t2,t3,t4,rfl⟩:=wj;have rl:=sa.cD ep t3;have El:=rl.2.2.1;have zM:=rl.set (y:={ x with a:=s,b:=t }) rfl rfl;obtain⟨E,bp⟩:∃E,dq.set aP (.cells 0 (bg { x with a:=s,b:=t } vD p4))=E:=⟨_,rfl⟩
       have rb:au E ρ 0=some [lv,U jQ]:=by
        unfold au at t4 |-
        rw[<- bp,cG (by omega)]
        exact t4
       rw[bp]at zM
       refine⟨t1,.bQ [],E,eF (c:=qZ) (k:=2) ck.store rfl (by decide) O8 ?_,bp▸aH.uT (aH.mU a1 (aH.mU (aH.two dw) (aH.two t3))) _,rb,rfl,vD,p4,zM⟩
       simp only[bg,aA]at El t2 bp;simp only[qZ,simprocAttr,F9,aG,aT,ca,t2,El,hO,bp]
       try rfl
theorem aSt(ck:pB ag)(wf:jP ao)(base:Nat)(ah:base<=ρ)(h:cy ρ lv ao H a){aP m:Nat}(ep:ρ<aP){x:bI}{a' lw:V}(af:fM aP m H x a' lw):eT ag base J8 [.ref ρ 0 0,.ref aP 0 0] ρ lv ao [ρ,aP] H (if((bt.of ao).same a&&(bt.of ao).kind a==1)=true then(eC (bt.of ao)).bind (fun s a=>.ok ({ x with a:=s },a)) a else .ok (x,a)) (sP aP m):=by
 have hO:base<=aP:=by omega
 have vb:base<=H.length:=by have:=h.pos;omega
 have iS:=af.2.2.1;have jk:=h.pos;simp only[bg,aA]at iS;obtain⟨t,aY⟩:∃t,ao.getD a ef=t:=⟨_,rfl⟩
 have yO:(bt.of ao).kind a=t.kind:=by rw[<- aY];rfl
 obtain⟨c,ab⟩:∃c,(bt.of ao).same a=c:=⟨_,rfl⟩;obtain⟨H1,s1,s2⟩:=zv ck.R.now ck.R.same base h
 obtain⟨bH,cC,b5⟩:=qe ck.R.now base (H:=H1) (by have:=s2.le;omega) (h.ext s2)
 rw[aY]at cC;simp only[dA,ar]at s1 cC;by_cases an:((bt.of ao).same a&&(bt.of ao).kind a==1)=true
 .rw[bE an];have nf:=an;rw[dR,lc]at nf;rw[nf.1]at s1
  have k1:(((t.kind:Nat):Int)==1)=true:=by rw[<- yO,nf.2];rfl
  have aU:=s2.trans b5;have kF:=af.cD ep (aH.gM aU);have q:=FP ck wf base ah (h.ext aU) ep kF
  have r0:eC (bt.of ao) a=.ok (kL ((bt.of ao).text a),a+1):=by unfold eC;rw[bE an]
  unfold eT eA.bind at q |-;rw[r0]at q |-;obtain⟨bP,_,D,ca,dw,e',rfl,vD,p4,gX⟩:=q
  refine⟨bP,.bQ [],D,eF (c:=tO) (k:=2) ck.ret rfl (by decide) WD ?_,aH.mU (aH.two (aH.gM aU)) dw,e',rfl,vD,p4,gX⟩
  simp only[tO,simprocAttr,Qr,aG,s1,cC,k1,ca]
  try rfl
 .rw[bV an];rw[sY]at an;cases lR:(bt.of ao).same a with
  |false=>
    rw[lR]at s1
    refine⟨h.lt,.bQ [],H1,eF (c:=tO) (k:=2) ck.ret rfl (by decide) WD ?_,aH.two (aH.gM s2),(h.ext s2).g,rfl,a',lw,af.cD ep (aH.gM s2)⟩
    simp only[tO,simprocAttr,Qr,aG,s1]
    try rfl
  |true=>
    rw[lR]at s1 an
    have k1:(((t.kind:Nat):Int)==1)=false:=by
     rw[ol,yO,kp]at an;rw[kp];omega
    refine⟨h.lt,.bQ [],bH,eF (c:=tO) (k:=2) ck.ret rfl (by decide) WD ?_,aH.two (aH.gM (s2.trans b5)),(h.ext (s2.trans b5)).g,rfl,a',lw,af.cD ep (aH.gM (s2.trans b5))⟩
    simp only[tO,simprocAttr,Qr,aG,s1,cC,k1]
    try rfl
end
def ajW{m:Nat}{H:ad}{v:V}{l:List ByteArray}(h:c1 m 1 H v (ij l)){base bytes:Nat}(ah:base<=m)(hm:m<=H.length)(s:ByteArray)(ai:(l.length+1)*bytes<=2^47):
 ∃id g n H',h5 (H++[.cells 0 [aA s]]) base 1 bytes v (.aZ H.length 0 0 1 1)=some (.aZ id g 0 n 1,H')/\c1 m 1 H' (.aZ id g 0 n 1) (ij (l++[s]))/\H.length<=H'.length/\(∀id,id<H.length->(∀g n,v≠.aZ id g 0 n 1)->H'[id]?=H[id]?)/\((∃g n,v=.aZ id g 0 n 1)\/H.length<=id):=by
 obtain⟨gx,H',bw,a2,a3,a4⟩:=V' h ah hm s ai
 have av:∃id g n,gx=.aZ id g 0 n 1:=by
  obtain⟨_,⟨e,_⟩|⟨id,g,e,_,k⟩⟩:=id a2
  .rw[Vl]at e;simp at e
  .exact⟨id,g,_,e⟩
 obtain⟨id,g,n,rfl⟩:=av;refine⟨id,g,n,H',bw,a2,a3,a4,?_⟩;by_cases b8:H.length<=id
 .exact .inr b8
 .refine .inl ?_;apply Ws;intro eS
  have aE:=a4 id (by omega) fun g n e=>eS ⟨g,n,e⟩
  have kg:elems (H++[aM.cells 0 [aA s]]) 1 (.aZ H.length 0 0 1 1)=some (1,[aA s]):=(lJ.aZ (R:=[[aA s]]) (cQ H 0 [aA s]) (fun y bC=>by rw[eQ.1 bC];rfl)).el
  have hh:=h
  obtain⟨_,⟨_,rfl⟩|⟨gw,g',rfl,ab,_⟩⟩:=hh
  .have hV:1*bytes<=2^47:=by
    have:1*bytes<=(l.length+1)*bytes:=rk _ (by omega)
    omega
   have aX:[aA s].all V.one=true:=rfl;simp only[h5,kg,aX,eW,cm,hV,F1,hp]at bw;obtain⟨aU,_⟩:=MO (kI bw);cases aU;rw[dh]at b8;omega
  .have aX:[aA s].all V.one=true:=rfl;have rh:=iK h
   have jV:base<=gw:=by omega
   have kN:=b7 ab (Ext.app H [aM.cells 0 [aA s]]);have aq:(ij l).flatten.length=(ij l).length*1:=Gm (ij l) h.1
   have aa:0+(ij l).length*1<=(ij l).flatten.length:=by omega
   rw[Ft]at aa bw;simp only[h5,kg,aX,eW,wG,jV,kN,aa,F1,hp,ai,nR]at bw;obtain⟨aU,_⟩:=MO (kI bw);cases aU;exact eS ⟨_,_,rfl⟩
def fM.ahC{base aP m:Nat}{D:ad}{x:bI}{a' lw:V}(h:fM aP m D x a' lw)(ah:base<=m)(s:ByteArray)(ai:(x.ls.length+1)*16<=2^47):∃w bU,h5 (D++[.cells 0 [aA s]]) base 1 16 lw (.aZ D.length 0 0 1 1)=some (w,bU)/\w.cells=[w]/\w.one=true/\au bU aP 0=some (bg x a' lw)/\fM aP m (bU.set aP (.cells 0 (bg { x with ls:=x.ls++[s] } a' w))) { x with ls:=x.ls++[s] } a' w/\(∀id,id<m->bU[id]?=D[id]?)/\D.length<=bU.length/\∃id g n,w=.aZ id g 0 n 1/\m<=id:=by
 obtain⟨J,aa,aI,bl,cO,fQ⟩:=h;obtain⟨id,g,n,bU,bw,a2,a3,a4,a5⟩:=ajW cO ah aa s ai;have ep:=iC aI
 have vd:∀id,id<m->bU[id]?=D[id]?:=fun id hid=>a4 id (by omega) fun g' ek e=>by
  subst e;have:=iK cO;omega
 have a8:au bU aP 0=some (bg x a' lw):=by
  unfold au at aI |-;rw[vd aP J];exact aI
 have hid:m<=id:=iK a2
 refine⟨_,bU,bw,rfl,rfl,a8,⟨J,by rw[fP];omega,fJ a8 _,?_,?_,?_⟩,vd,a3,id,g,n,rfl,hid⟩
 .refine bl.cD fun ni g2 b5 e=>?_;have:=bl.lt ni g2 b5 e
  have BP:m<=ni:=by rw[e]at bl;exact iK bl
  rw[cG (by omega),a4 ni this fun g3 n3 cd=>fQ _ _ _ _ _ e cd]
 .refine a2.cD fun ni g2 b5 e=>?_;cases e
  rw[cG (by omega)]
 .intro ni g2 b5 g3 n3 e cd;cases cd
  rcases a5 with⟨g4,Jt,fG⟩|fG
  .exact fQ _ _ _ _ _ e fG
  .have:=bl.lt _ _ _ e;omega
def fM.axg{base aP m:Nat}{D:ad}{x:bI}{a' lw:V}(h:fM aP m D x a' lw)(ah:base<=m)(s:ByteArray)(ai:(x.xs.length+1)*16<=2^47):∃w bU,h5 (D++[.cells 0 [aA s]]) base 1 16 a' (.aZ D.length 0 0 1 1)=some (w,bU)/\w.cells=[w]/\w.one=true/\au bU aP 0=some (bg x a' lw)/\fM aP m (bU.set aP (.cells 0 (bg { x with xs:=x.xs++[s] } w lw))) { x with xs:=x.xs++[s] } w lw/\(∀id,id<m->bU[id]?=D[id]?)/\D.length<=bU.length/\∃id g n,w=.aZ id g 0 n 1/\m<=id:=by
 obtain⟨J,aa,aI,bl,cO,fQ⟩:=h;obtain⟨id,g,n,bU,bw,a2,a3,a4,a5⟩:=ajW bl ah aa s ai;have ep:=iC aI
 have vd:∀id,id<m->bU[id]?=D[id]?:=fun id hid=>a4 id (by omega) fun g' ek e=>by
  subst e;have:=iK bl;omega
 have a8:au bU aP 0=some (bg x a' lw):=by
  unfold au at aI |-;rw[vd aP J];exact aI
 have hid:m<=id:=iK a2
 refine⟨_,bU,bw,rfl,rfl,a8,⟨J,by rw[fP];omega,fJ a8 _,?_,?_,?_⟩,vd,a3,id,g,n,rfl,hid⟩
 .refine a2.cD fun ni g2 b5 e=>?_;cases e
  rw[cG (by omega)]
 .refine cO.cD fun ni g2 b5 e=>?_;have:=cO.lt ni g2 b5 e
  have BP:m<=ni:=by rw[e]at cO;exact iK cO
  rw[cG (by omega),a4 ni this fun g3 n3 cd=>fQ _ _ _ _ _ cd e]
 .intro ni g2 b5 g3 n3 e cd;cases e
  rcases a5 with⟨g4,Jt,fG⟩|fG
  .exact fQ _ _ _ _ _ fG cd
  .have:=cO.lt _ _ _ cd;omega
section
variable {ag:Nat->Option cz} {ρ:Nat} {lv:V} {ao:List Tok.T} {H:ad} {a:Nat}
theorem acv{call:c5}{it:hE}(base:Nat){D bX bU:ad}{aP:Nat}(hO:base<=aP){z0 eO z2 z3 z4 z5 a' lw:V}{s:ByteArray}(wK:au D aP 0=some [z0,eO,z2,z3,z4,z5,a',lw])(ab:call (.fn wR [] []) [.ref ρ 0 0] base D=some (aA s,bX))(an:bX[aP]?=D[aP]?){w:V}(aO:h5 (bX++[.cells 0 [aA s]]) base 1 16 lw (.aZ bX.length 0 0 1 1)=some (w,bU))(Cv:lw.one=true)(hw:w.cells=[w])(Eh:w.one=true)(g2:au bU aP 0=some [z0,eO,z2,z3,z4,z5,a',lw]):
 aL call it base (.region u1 [(4,6)] [6,7,8,9,10,11,12,13,14,15,16]) (ax 37 [(0,.ref ρ 0 0),(1,.ref aP 0 0)]) D=some (.bR,ax 37 [(0,.ref ρ 0 0),(1,.ref aP 0 0)],bU.set aP (.cells 0 [z0,eO,z2,z3,z4,z5,a',w])):=by
 have gU:cI call base (u1.take 6) (ax 37 [(0,.ref ρ 0 0),(1,.ref aP 0 0)]) D=some (ax 37 [(0,.ref ρ 0 0),(1,.ref aP 0 0),(6,.ref aP 0 0),(7,.ref aP 0 0),(8,.ref aP 0 0),(9,.ref aP 0 7),(10,lw),(11,.ref ρ 0 0)],D):=by
  simp only[u1,simprocAttr,dK,dj,aG,wK,dK,dj]
  try rfl
 have aX:cI call base [⟨some 12,(.call (.c (.fn wR [] [])) [(.t 11)]),none⟩] (ax 37 [(0,.ref ρ 0 0),(1,.ref aP 0 0),(6,.ref aP 0 0),(7,.ref aP 0 0),(8,.ref aP 0 0),(9,.ref aP 0 7),(10,lw),(11,.ref ρ 0 0)]) D=some (ax 37 [(0,.ref ρ 0 0),(1,.ref aP 0 0),(6,.ref aP 0 0),(7,.ref aP 0 0),(8,.ref aP 0 0),(9,.ref aP 0 7),(10,lw),(11,.ref ρ 0 0),(12,aA s)],bX):=by
  simp only[aG,simprocAttr,ab]
  try rfl
 have aD:cI call base (u1.drop 7) (ax 37 [(0,.ref ρ 0 0),(1,.ref aP 0 0),(6,.ref aP 0 0),(7,.ref aP 0 0),(8,.ref aP 0 0),(9,.ref aP 0 7),(10,lw),(11,.ref ρ 0 0),(12,aA s)]) bX=some (ax 37 [(0,.ref ρ 0 0),(1,.ref aP 0 0),(6,.ref aP 0 0),(7,.ref aP 0 0),(8,.ref aP 0 0),(9,.ref aP 0 7),(10,lw),(11,.ref ρ 0 0),(12,aA s),(13,.aZ bX.length 0 0 1 1),(14,w),(15,.ref aP 0 0),(16,.ref aP 0 7)],bU.set aP (.cells 0 [z0,eO,z2,z3,z4,z5,a',w])):=by
  simp only[aA]at aO;simp only[u1,simprocAttr,aA,u3,nR,aG,aO,hw,Eh,g2,hO]
  try rfl
 have ak:u1=u1.take 6++(⟨some 12,(.call (.c (.fn wR [] [])) [(.t 11)]),none⟩:bx)::u1.drop 7:=rfl;rw[ak];refine(NJ gU aX aD rfl fun p ay=>?_).trans ?_
 .rw[eQ]at ay;subst ay;refine⟨rfl,some aP,rfl,fun id e=>?_⟩;cases e;exact an
 .simp only[aG,simprocAttr]
  try rfl
theorem aq0{call:c5}{it:hE}(base:Nat){D bX bU:ad}{aP:Nat}(hO:base<=aP){z0 eO z2 z3 z4 z5 a' lw:V}{s:ByteArray}(wK:au D aP 0=some [z0,eO,z2,z3,z4,z5,a',lw])(ab:call (.fn wR [] []) [.ref ρ 0 0] base D=some (aA s,bX))(an:bX[aP]?=D[aP]?){w:V}(aO:h5 (bX++[.cells 0 [aA s]]) base 1 16 a' (.aZ bX.length 0 0 1 1)=some (w,bU))(Cv:a'.one=true)(hw:w.cells=[w])(Eh:w.one=true)(g2:au bU aP 0=some [z0,eO,z2,z3,z4,z5,a',lw]):
 aL call it base (.region sv [(4,6)] [19,20,21,22,23,24,25,26,27,28,29]) (ax 37 [(0,.ref ρ 0 0),(1,.ref aP 0 0)]) D=some (.bR,ax 37 [(0,.ref ρ 0 0),(1,.ref aP 0 0)],bU.set aP (.cells 0 [z0,eO,z2,z3,z4,z5,w,lw])):=by
 have gU:cI call base (sv.take 6) (ax 37 [(0,.ref ρ 0 0),(1,.ref aP 0 0)]) D=some (ax 37 [(0,.ref ρ 0 0),(1,.ref aP 0 0),(19,.ref aP 0 0),(20,.ref aP 0 0),(21,.ref aP 0 0),(22,.ref aP 0 6),(23,a'),(24,.ref ρ 0 0)],D):=by
  simp only[sv,simprocAttr,dK,dj,aG,wK,dK,dj]
  try rfl
 have aX:cI call base [⟨some 25,(.call (.c (.fn wR [] [])) [(.t 24)]),none⟩] (ax 37 [(0,.ref ρ 0 0),(1,.ref aP 0 0),(19,.ref aP 0 0),(20,.ref aP 0 0),(21,.ref aP 0 0),(22,.ref aP 0 6),(23,a'),(24,.ref ρ 0 0)]) D=some (ax 37 [(0,.ref ρ 0 0),(1,.ref aP 0 0),(19,.ref aP 0 0),(20,.ref aP 0 0),(21,.ref aP 0 0),(22,.ref aP 0 6),(23,a'),(24,.ref ρ 0 0),(25,aA s)],bX):=by
  simp only[aG,simprocAttr,ab]
  try rfl
 have aD:cI call base (sv.drop 7) (ax 37 [(0,.ref ρ 0 0),(1,.ref aP 0 0),(19,.ref aP 0 0),(20,.ref aP 0 0),(21,.ref aP 0 0),(22,.ref aP 0 6),(23,a'),(24,.ref ρ 0 0),(25,aA s)]) bX=some (ax 37 [(0,.ref ρ 0 0),(1,.ref aP 0 0),(19,.ref aP 0 0),(20,.ref aP 0 0),(21,.ref aP 0 0),(22,.ref aP 0 6),(23,a'),(24,.ref ρ 0 0),(25,aA s),(26,.aZ bX.length 0 0 1 1),(27,w),(28,.ref aP 0 0),(29,.ref aP 0 6)],bU.set aP (.cells 0 [z0,eO,z2,z3,z4,z5,w,lw])):=by
  simp only[aA]at aO;simp only[sv,simprocAttr,aA,u3,nR,aG,aO,hw,Eh,g2,hO]
  try rfl
 have ak:sv=sv.take 6++(⟨some 25,(.call (.c (.fn wR [] [])) [(.t 24)]),none⟩:bx)::sv.drop 7:=rfl;rw[ak];refine(NJ gU aX aD rfl fun p ay=>?_).trans ?_
 .rw[eQ]at ay;subst ay;refine⟨rfl,some aP,rfl,fun id e=>?_⟩;cases e;exact an
 .simp only[aG,simprocAttr]
  try rfl
end
def DX(V:bt)(x:bI):eA (bI × Bool):=(eC V).bind fun l=>(fO V [58]).bind fun _=>(eC V).bind fun s b=>
 if nY V [44] b=true then(fO V [44]).bind (fun _ c=>.ok (({ x with ls:=x.ls++[l],xs:=x.xs++[s] },true),c)) b else .ok (({ x with ls:=x.ls++[l],xs:=x.xs++[s] },false),b)
def aKr(V:bt)(n:Nat)(x:bI)(a:Nat):qE V (n+1) x.ls x.xs a=match DX V x a with
 |.error e=>.error e
 |.ok ((y,true),b)=>qE V n y.ls y.xs b
 |.ok ((y,false),b)=>.ok ((y.ls,y.xs),b):=by
 unfold DX;rw[qE];unfold eA.bind;cases eC V a with
 |error e=>rfl
 |ok p=>
   obtain⟨l,b⟩:=p;dsimp only;cases fO V [58] b with
   |error e=>rfl
   |ok p=>
     obtain⟨u,c⟩:=p;dsimp only;cases eC V c with
     |error e=>rfl
     |ok p=>
       obtain⟨s,d⟩:=p;dsimp only;by_cases hi:nY V [44] d=true
       .rw[bE hi,bE hi];cases fO V [44] d with
        |error e=>rfl
        |ok p=>rfl
       .rw[bV hi,bV hi]
def aEt{V:bt}{x y:bI}{t:Bool}{a b:Nat}(h:DX V x a=.ok ((y,t),b)):a<b/\∃l s,y={ x with ls:=x.ls++[l],xs:=x.xs++[s] }:=by
 unfold DX at h;obtain⟨l,c,J,h⟩:=hy h;obtain⟨u,d,aa,h⟩:=hy h;obtain⟨s,e,aI,h⟩:=hy h;have:=nk J;have:=uS aa;have:=nk aI;split at h
 .obtain⟨u,f,bl,h⟩:=hy h;have:=uS bl;cases h
  exact⟨by omega,l,s,rfl⟩
 .cases h
  exact⟨by omega,l,s,rfl⟩
section
variable {ag:Nat->Option cz} {ρ:Nat} {lv:V} {ao:List Tok.T} {a:Nat}
set_option maxHeartbeats 1000000 in
def aWD(ck:pB ag)(wf:jP ao)(base:Nat)(ah:base<=ρ){aP L:Nat}(ep:ρ<aP){C:ad}(h:cy ρ lv ao C a){x:bI}{a' lw:V}(af:fM aP L C x a' lw)(iJ:x.ls.length<2^21)(lL:x.xs.length<2^21):
 match DX (bt.of ao) x a with
  |.ok ((y,t),b)=>b<ao.length/\∃nK IK a7,aL (aR ag) aN base AZ (ax 37 [(0,.ref ρ 0 0),(1,.ref aP 0 0)]) C=some (if t=true then .bR else .ext 0,if t=true then ax 37 [(0,.ref ρ 0 0),(1,.ref aP 0 0)]else ax 37 [(0,.ref ρ 0 0),(1,.ref aP 0 0),(32,ar true)],a7)/\aH L [ρ,aP] C a7/\au a7 ρ 0=some [lv,U b]/\fM aP L a7 y nK IK/\∃id g n,IK=.aZ id g 0 n 1/\L<=id
  |.error e=>e<ao.length/\∃a7,gg (aR ag) (ns ag) aN base (fun _ _=>True) AZ (ax 37 [(0,.ref ρ 0 0),(1,.ref aP 0 0)]) C (qx,.agg (dA (ao.getD e ef)),a7)/\aH L [ρ,aP] C a7:=by
 have UU:(⟨#[58]⟩:ByteArray).data.toList=[58]:=rfl;have HT:(⟨#[44]⟩:ByteArray).data.toList=[44]:=rfl;have ao3:=af.1;have lp:=af.2.1
 have hO:base<=aP:=by omega
 have xJ:base<=L:=by omega
 have Hb:ρ<L:=by omega
 have kd:=af.2.2.1;have mv:lw.one=true:=af.2.2.2.2.1.rd.one;have q:=yi ck.R wf base ah h;unfold eT at q;unfold DX eA.bind;cases ai:eC (bt.of ao) a with
 |error e=>
   rw[ai]at q;obtain⟨bj,D,aT,a1⟩:=q
   obtain⟨w,bU,fe,eI,jQ,pf,C9,TK,aGA,Gx⟩:=af.ahC xJ ⟨#[]⟩ (by omega)
   have an:=acv (call:=adc (aA ⟨#[]⟩)) (it:=aN) (ρ:=ρ) base hO kd (hs _ _ _ _ _) rfl fe mv eI jQ pf
   refine⟨bj,D,kW (jH (it':=aN) (pre:=u1.take 6) (post:=u1.drop 7) (cw:=ax 37 [(0,.ref ρ 0 0),(1,.ref aP 0 0),(6,.ref aP 0 0),(7,.ref aP 0 0),(8,.ref aP 0 0),(9,.ref aP 0 7),(10,lw),(11,.ref ρ 0 0)]) (H1:=C) (aA ⟨#[]⟩) rfl ?_ aT (by rw[an];rfl)),aH.two (aH.low a1 lp)⟩
   simp only[bg]at kd;simp only[u1,simprocAttr,dK,dj,aG,kd]
   try rfl
 |ok p=>
   obtain⟨l,b⟩:=p;rw[ai]at q;obtain⟨bj,_,bX,aT,a1,cB,rfl⟩:=q;dsimp only;have kF:=af.cD ep a1
   obtain⟨w,bU,fe,eI,jQ,pf,C9,TK,aGA,Gx⟩:=kF.ahC xJ l (by omega)
   have I2:=a1.1
   have bP:=acv (call:=aR ag) (it:=aN) (ρ:=ρ) base hO kd aT (a1.2 aP (iC kd) (by rw[eQ];omega)) fe mv eI jQ pf
   have Lu:bU.set aP (aM.cells 0 [.s (.int .u8 x.op),aA x.d,aA x.a,aA x.b,.s (.int .i64 x.k),aA x.f,a',w])=bU.set aP (aM.cells 0 (bg { x with ls:=x.ls++[l] } a' w)):=rfl;rw[Lu]at bP;obtain⟨nu,rD⟩:∃E,bU.set aP (aM.cells 0 (bg { x with ls:=x.ls++[l] } a' w))=E:=⟨_,rfl⟩;rw[rD]at bP C9
   have oh:aH L [ρ,aP] C nu:=rD▸aH.uT (aH.app (aH.two (aH.low a1 lp)) ⟨by omega,fun id J _=>TK id J⟩) _
   have g1:au nu ρ 0=some [lv,U b]:=by
    unfold au at cB |-
    rw[<- rD,cG (by omega),TK ρ Hb]
    exact cB
   have J:cy ρ lv ao nu b:=by
    obtain⟨m,w⟩:=h.w;refine⟨g1,⟨m,w.cD fun id g n av=>?_⟩,h.hR,bj,h.n⟩;have:=h.hR id g n av
    exact oh.2 id (by omega) (by simp;omega)
   have gL:=xr ck.R wf base ah J ⟨#[58]⟩;rw[UU]at gL;unfold eT at gL;cases aY:fO (bt.of ao) [58] b with
   |error e=>
     rw[aY]at gL;obtain⟨t1,D,t2,t3⟩:=gL;refine⟨t1,D,dG bP (kW (jH (it':=aN) (pre:=aqG) (post:=[]) (.bQ []) rfl rfl t2 ?_)),aH.app oh (aH.two (aH.low t3 C9.2.1))⟩;simp only[BC,simprocAttr,aG,hs]
   |ok p=>
     obtain⟨u,c⟩:=p;rw[aY]at gL;obtain⟨t1,_,Cl,t2,t3,t4,rfl⟩:=gL;dsimp only;simp only[aA]at t2
     have ca:aL (aR ag) aN base (.region MZ [] [17,18]) (ax 37 [(0,.ref ρ 0 0),(1,.ref aP 0 0)]) nu=some (.bR,ax 37 [(0,.ref ρ 0 0),(1,.ref aP 0 0)],Cl):=by
      simp only[BC,simprocAttr,aG,t2]
     have iR:=J.cD t3 t4 t1;have gX:=C9.cD ep t3;have o8:aH L [ρ,aP] C Cl:=aH.app oh (aH.two (aH.low t3 C9.2.1));have dp:=gX.2.2.1;have N4:a'.one=true:=gX.2.2.2.1.rd.one;have wj:=yi ck.R wf base ah iR;unfold eT at wj;cases hu:eC (bt.of ao) c with
     |error e=>
       rw[hu]at wj;obtain⟨v1,D,v2,v3⟩:=wj
       obtain⟨w',wm,cj,cZ,hN,lV,KU,HR,I7,Jz⟩:=gX.axg xJ ⟨#[]⟩ (show(x.xs.length+1)*16<=_ by omega)
       have an:=aq0 (call:=adc (aA ⟨#[]⟩)) (it:=aN) (ρ:=ρ) base hO dp (hs _ _ _ _ _) rfl cj N4 cZ hN lV
       refine⟨v1,D,dG bP (dG ca (kW (jH (it':=aN) (pre:=sv.take 6) (post:=sv.drop 7) (cw:=ax 37 [(0,.ref ρ 0 0),(1,.ref aP 0 0),(19,.ref aP 0 0),(20,.ref aP 0 0),(21,.ref aP 0 0),(22,.ref aP 0 6),(23,a'),(24,.ref ρ 0 0)]) (H1:=Cl) (aA ⟨#[]⟩) rfl ?_ v2 (by rw[an];rfl)))),aH.app o8 (aH.two (aH.low v3 gX.2.1))⟩
       simp only[bg]at dp;simp only[sv,simprocAttr,dK,dj,aG,dp]
       try rfl
     |ok p=>
       obtain⟨s,d⟩:=p;rw[hu]at wj;obtain⟨v1,_,dq,v2,v3,v4,rfl⟩:=wj;dsimp only;have sa:=gX.cD ep v3
       obtain⟨w',wm,cj,cZ,hN,lV,KU,HR,I7,Jz⟩:=sa.axg xJ s (show(x.xs.length+1)*16<=_ by omega)
       have dw:=aq0 (call:=aR ag) (it:=aN) (ρ:=ρ) base hO dp v2 (v3.2 aP (iC dp) (by rw[eQ];omega)) cj N4 cZ hN lV
       have aYh:wm.set aP (aM.cells 0 [.s (.int .u8 x.op),aA x.d,aA x.a,aA x.b,.s (.int .i64 x.k),aA x.f,w',w])=wm.set aP (aM.cells 0 (bg { x with ls:=x.ls++[l],xs:=x.xs++[s] } w' w)):=rfl;have AE:aL (aR ag) aN base (.region sv [(4,6)] [19,20,21,22,23,24,25,26,27,28,29]) (ax 37 [(0,.ref ρ 0 0),(1,.ref aP 0 0)]) Cl=some (.bR,ax 37 [(0,.ref ρ 0 0),(1,.ref aP 0 0)],wm.set aP (aM.cells 0 (bg { x with ls:=x.ls++[l],xs:=x.xs++[s] } w' w))):=dw;have OW:fM aP L (wm.set aP (aM.cells 0 (bg { x with ls:=x.ls++[l],xs:=x.xs++[s] } w' w))) { x with ls:=x.ls++[l],xs:=x.xs++[s] } w' w:=KU;obtain⟨mL,lE⟩:∃E,wm.set aP (aM.cells 0 (bg { x with ls:=x.ls++[l],xs:=x.xs++[s] } w' w))=E:=⟨_,rfl⟩;rw[lE]at AE OW
       have hQ:aH L [ρ,aP] C mL:=lE▸aH.uT (aH.app o8 (aH.app (aH.two (aH.low v3 gX.2.1)) ⟨by have:=v3.1;have:=gX.2.1;omega,fun id J _=>HR id J⟩)) _
       have g3:au mL ρ 0=some [lv,U d]:=by
        unfold au at v4 |-
        rw[<- lE,cG (by omega),HR ρ Hb]
        exact v4
       have aI:cy ρ lv ao mL d:=by
        obtain⟨m,w⟩:=h.w;refine⟨g3,⟨m,w.cD fun id g n av=>?_⟩,h.hR,v1,h.n⟩;have:=h.hR id g n av
        exact hQ.2 id (by omega) (by simp;omega)
       obtain⟨fT,i1,i2⟩:=Bl ck.R.now ck.R.same ck.R.vk base (H:=mL) (by have:=OW.2.1;omega) aI ⟨#[44]⟩
       rw[HT]at i1;have bl:=aI.ext i2;have rl:=OW.cD ep (aH.gM i2);have q':aH L [ρ,aP] C fT:=aH.app hQ (aH.two (aH.low (aH.gM i2) OW.2.1));obtain⟨gw,g',ek,bN,UE⟩:=Gx;by_cases hi:nY (bt.of ao) [44] d=true
       .rw[bE hi];rw[hi]at i1
        have vW:fO (bt.of ao) [44] d=.ok ((),d+1):=by unfold fO;rw[bE hi]
        have MI:=xr ck.R wf base ah bl ⟨#[44]⟩;rw[HT]at MI;unfold eT at MI;rw[vW]at MI |-;obtain⟨bc,_,hq,dJ,fI,jF,rfl⟩:=MI;dsimp only;refine⟨bc,w',w,hq,?_,aH.app q' (aH.two (aH.low fI rl.2.1)),jF,rl.cD ep fI,gw,g',ek,bN,UE⟩;rw[bE rfl,bE rfl];refine AO ((e1 bP).trans ((e1 ca).trans ((e1 AE).trans ?_)));simp only[aA,ar]at i1 dJ;simp only[BC,simprocAttr,aG,i1,dJ]
       .rw[bV hi];rw[sY]at hi;rw[hi]at i1;dsimp only;refine⟨v1,w',w,fT,?_,q',bl.g,rl,gw,g',ek,bN,UE⟩
        rw[bV (by decide),bV (by decide)]
        show aL (aR ag) aN base (.block 1 _) _ _=_
        have e':aL (aR ag) aN base (.seq (.seq (.region LU [] [30,31]) (.cond (.t 32) (.exit 0) .skip)) (.region Nz [] [32,33,34])) (ax 37 [(0,.ref ρ 0 0),(1,.ref aP 0 0)]) mL=some (.ext 0,ax 37 [(0,.ref ρ 0 0),(1,.ref aP 0 0),(32,ar true)],fT):=by
         simp only[aA,ar]at i1;simp only[ar,simprocAttr,BC,aG,i1]
        have jq:=(e1 (b:=.seq (.region MZ [] [17,18]) (.seq (.region sv [(4,6)] [19,20,21,22,23,24,25,26,27,28,29]) (.seq (.seq (.region LU [] [30,31]) (.cond (.t 32) (.exit 0) .skip)) (.region Nz [] [32,33,34])))) bP).trans ((e1 ca).trans ((e1 AE).trans e'));exact aW2 rfl jq
end
def JT{L q g id g' n w:Nat}{H:ad}{c:List V}(ab:au H q g=some c)(bJ:q<L)(av:V.aZ id g' 0 n w∈c)(hid:L<=id)(fr:List V):trim L fr H=H:=by
 rcases axM L fr H with e|⟨_,_,h⟩
 .exact e
 .have:=h q g c bJ ab _ av;simp only[ir,l8]at this;omega
def fM.low{aP m k:Nat}{H:ad}{x:bI}{a' lw:V}(h:fM aP m H x a' lw)(an:k<=m)(ep:aP<k):fM aP k H x a' lw:=by
 obtain⟨J,aa,aI,bl,cO,fQ⟩:=h
 exact⟨ep,by omega,aI,c1.low bl an,c1.low cO an,fQ⟩
def fM.nil{aP m k:Nat}{H:ad}{x:bI}(h:fM aP m H x cm cm)(af:x.xs=[])(aq:x.ls=[])(an:k<=H.length)(ep:aP<k):fM aP k H x cm cm:=by
 obtain⟨J,aa,aI,bl,cO,fQ⟩:=h;refine⟨ep,an,aI,?_,?_,fQ⟩
 .rw[af];exact c1.start _ _ _
 .rw[aq];exact c1.start _ _ _
section
variable {ag:Nat->Option cz} {ρ:Nat} {lv:V} {ao:List Tok.T} {H:ad} {a:Nat}
def cy.W0{L aP b:Nat}{H':ad}(h:cy ρ lv ao H a)(cU:ρ<L)(ep:ρ<aP)(k:aH L [ρ,aP] H H')(g:au H' ρ 0=some [lv,U b])(ah:b<ao.length):cy ρ lv ao H' b:=by
 obtain⟨m,w⟩:=h.w;refine⟨g,⟨m,w.cD fun id g n av=>?_⟩,h.hR,ah,h.n⟩;have:=h.hR id g n av
 exact k.2 id (by omega) (by simp;omega)
def aVA(ck:pB ag)(wf:jP ao)(base:Nat)(ah:base<=ρ){aP L:Nat}(ep:ρ<aP)(ao3:aP<L):∀(n:Nat) {a:Nat} {C:ad} {x:bI} {a' lw:V},cy ρ lv ao C a->fM aP L C x a' lw->x.ls.length+n<2^21->x.xs.length+n<2^21->ao.length<a+n->
 match qE (bt.of ao) n x.ls x.xs a with
  |.ok (p,b)=>b<ao.length/\∃nK IK a7,aN (aL (aR ag) aN base AZ) [] L (ax 37 [(0,.ref ρ 0 0),(1,.ref aP 0 0)]) C=some (.ext 0,ax 37 [(0,.ref ρ 0 0),(1,.ref aP 0 0),(32,ar true)],a7)/\aH L [ρ,aP] C a7/\au a7 ρ 0=some [lv,U b]/\fM aP L a7 { x with ls:=p.1,xs:=p.2 } nK IK
  |.error e=>e<ao.length/\∃a7,pe (fun fr H=>aL (aR ag) aN base AZ fr H) (fun fr H r=>gg (aR ag) (ns ag) aN base (fun _ _=>True) AZ fr H r) [] L (ax 37 [(0,.ref ρ 0 0),(1,.ref aP 0 0)]) C (qx,.agg (dA (ao.getD e ef)),a7)/\aH L [ρ,aP] C a7:=by
 intro n
 induction n with
 |zero=>intro a C x a' lw h _ _ _ aJ;have:=h.lt;omega
 |succ n aF=>
   intro a C x a' lw h af iJ lL al
   have q:=aWD ck wf base ah ep h af (by omega) (by omega)
   rw[aKr];cases ai:DX (bt.of ao) x a with
   |error e=>
     rw[ai]at q;obtain⟨bj,a7,aT,a1⟩:=q;exact⟨bj,a7,.here aT,a1⟩
   |ok p=>
     obtain⟨⟨y,t⟩,b⟩:=p;rw[ai]at q;obtain⟨bj,nK,IK,a7,aT,a1,cB,gj,id,g,m,rfl,hid⟩:=q;obtain⟨yF,l,s,rfl⟩:=aEt ai
     have j9:∀fr,trim L fr a7=a7:=fun fr=>JT gj.2.2.1 ao3 (id:=id) (g':=g) (n:=m) (w:=1) (by simp[bg]) hid fr
     cases t with
     |false=>
       rw[bV (by decide),bV (by decide)]at aT
       dsimp only;refine⟨bj,nK,_,a7,?_,a1,cB,gj⟩;rw[dt,aT,aoF,B0,j9]
     |true=>
       rw[bE rfl,bE rfl]at aT;dsimp only
       have q:=aF (h.W0 (by omega) ep a1 cB bj) gj (by simp only[c0,jd];omega) (by simp only[c0,jd];omega) (by omega)
       dsimp only at q;cases aY:qE (bt.of ao) n (x.ls++[l]) (x.xs++[s]) b with
       |error e=>
         rw[aY]at q;obtain⟨bP,D,ca,dw⟩:=q
         refine⟨bP,D,.next aT ?_,aH.app a1 dw⟩
         rw[B0,j9];exact ca
       |ok p=>
         obtain⟨p,b'⟩:=p;rw[aY]at q;obtain⟨bP,vD,p4,D,ca,dw,e',jq⟩:=q;refine⟨bP,vD,p4,D,?_,aH.app a1 dw,e',jq⟩;rw[dt,aT,JP,B0,j9];exact ca
theorem aFM(ck:pB ag)(wf:jP ao)(base:Nat)(ah:base<=ρ)(h:cy ρ lv ao H a){aP m:Nat}(ep:ρ<aP){x:bI}(af:fM aP m H x cm cm)(Cx:x.xs=[])(oy:x.ls=[]){N:Nat}(eo:ao.length<N)(j':N<2^21):eT ag base CF [.ref ρ 0 0,.ref aP 0 0] ρ lv ao [ρ,aP] H ((fO (bt.of ao) [91]).bind (fun _=>(qE (bt.of ao) N x.ls x.xs).bind fun p=>(fO (bt.of ao) [93]).bind fun _ a=>.ok ({ x with ls:=p.1,xs:=p.2 },a)) a) (sP aP m):=by
 have aA2:(⟨#[91]⟩:ByteArray).data.toList=[91]:=rfl;have aMA:(⟨#[93]⟩:ByteArray).data.toList=[93]:=rfl;have jk:=h.pos;have q:=xr ck.R wf base ah h ⟨#[91]⟩;rw[aA2]at q;unfold eT at q;unfold eT eA.bind;cases ai:fO (bt.of ao) [91] a with
 |error e=>
   rw[ai]at q;obtain⟨bj,D,aT,a1⟩:=q
   refine⟨bj,D,xX (c:=rC) (k:=2) rfl ck.Cu rfl (by decide) Nu (pre:=awy) (post:=[]) (.inr ⟨_,rfl⟩) (.bQ []) rfl rfl aT ?_,aH.two a1⟩
   simp only[rC,simprocAttr,BC,aG,hs]
 |ok p=>
   obtain⟨u,b⟩:=p;rw[ai]at q;obtain⟨bj,_,D,aT,a1,cB,rfl⟩:=q;dsimp only;simp only[aA]at aT
   have cX:aL (aR ag) aN base (.region XU [] AI) (ax rC.ntmps (nA ([]++[.ref ρ 0 0,.ref aP 0 0]++[]) 0)) H=some (.bR,ax 37 [(0,.ref ρ 0 0),(1,.ref aP 0 0)],D):=by
    simp only[rC,simprocAttr,BC,aG,aT]
   have d':=h.cD a1 cB bj;have kF:=af.cD ep a1;have ar9:aP<D.length:=iC kF.2.2.1;have gX:=kF.nil Cx oy (cq _) ar9;have NU:=a1.1
   have q:=aVA ck wf base ah ep ar9 N d' gX (by rw[oy];simpa using j') (by rw[Cx];simpa using j') (by omega)
   cases aY:qE (bt.of ao) N x.ls x.xs b with
   |error e=>
     rw[aY]at q;obtain⟨bP,bU,ca,dw⟩:=q
     exact⟨bP,bU,qH (c:=rC) (k:=2) rfl ck.Cu rfl (by decide) Nu rfl cX (kW ca),aH.mU (aH.two a1) dw⟩
   |ok p=>
     obtain⟨p,c⟩:=p;rw[aY]at q;obtain⟨bP,vD,p4,bU,ca,dw,e',jq⟩:=q;dsimp only
     have iz:=d'.W0 (by omega) ep dw e' bP
     have aE:aL (aR ag) aN base (.block 0 (.loop [] AZ)) (ax 37 [(0,.ref ρ 0 0),(1,.ref aP 0 0)]) D=some (.bR,ax 37 [(0,.ref ρ 0 0),(1,.ref aP 0 0),(32,ar true)],bU):=by
      simp only[ar]at ca;simp only[ar,aG,ca]
     have q:=xr ck.R wf base ah iz ⟨#[93]⟩;rw[aMA]at q;unfold eT at q;cases hu:fO (bt.of ao) [93] c with
     |error e=>
       rw[hu]at q;obtain⟨t1,dq,t2,t3⟩:=q
       refine⟨t1,dq,qH (c:=rC) (k:=2) rfl ck.Cu rfl (by decide) Nu rfl cX (dG aE (jH (it':=aN) (pre:=acF) (post:=[]) (.bQ []) rfl rfl t2 ?_)),aH.mU (aH.two a1) (aH.mU dw (aH.two t3))⟩
       simp only[ar,simprocAttr,BC,aG,hs]
     |ok p=>
       obtain⟨u,d⟩:=p;rw[hu]at q;obtain⟨t1,_,dq,t2,t3,t4,rfl⟩:=q
       refine⟨t1,.bQ [],dq,eF (c:=rC) (k:=2) ck.Cu rfl (by decide) Nu ?_,aH.mU (aH.two a1) (aH.mU dw (aH.two t3)),t4,rfl,vD,p4,(jq.cD ep t3).low (by have:=af.2.1;omega) af.1⟩
       simp only[aA,ar]at ca t2;simp only[rC,simprocAttr,BC,aG,aT,ca,t2]
       try rfl
def D1:Nat->Nat
 |1|2=>zg
 |3=>KH
 |4=>EJ
 |5|8=>zx
 |6=>CF
 |7=>Em
 |9=>DD
 |10=>z'
 |11=>y0
 |12=>Dv
 |13=>EN
 |_=>J8
def aBH(ck:pB ag)(wf:jP ao)(base:Nat)(ah:base<=ρ)(h:cy ρ lv ao H a){aP m:Nat}(ep:ρ<aP){x:bI}(af:fM aP m H x cm cm)(Cx:x.xs=[])(oy:x.ls=[]){N:Nat}(eo:ao.length<N)(j':N<2^21)(o:Nat)(J:1<=o)(KJ:o<=14):eT ag base (D1 o) [.ref ρ 0 0,.ref aP 0 0] ρ lv ao [ρ,aP] H (BY (bt.of ao) N o x a) (sP aP m):=by
 obtain rfl|rfl|rfl|rfl|rfl|rfl|rfl|rfl|rfl|rfl|rfl|rfl|rfl|rfl:o=1\/o=2\/o=3\/o=4\/o=5\/o=6\/o=7\/o=8\/o=9\/o=10\/o=11\/o=12\/o=13\/o=14:=by omega
 .exact X2 ck wf base ah h ep af
 .exact X2 ck wf base ah h ep af
 .exact aGv ck base h af
 .exact acd ck wf base ah h ep af
 .exact FP ck wf base ah h ep af
 .exact aFM ck wf base ah h ep af Cx oy eo j'
 .exact aIK ck wf base ah h ep af
 .exact FP ck wf base ah h ep af
 .exact aHN ck wf base ah h ep af
 .exact aO1 ck wf base ah h ep af eo j'
 .exact aRd ck wf base ah h ep af eo j'
 .exact aMS ck wf base ah h ep af
 .exact aNm ck wf base ah h ep af
 .exact aSt ck wf base ah h ep af
end
def oB(l:List (ByteArray × V)):List (Value × V):=l.map fun p=>(.string p.1,p.2)
def aoz(n:ByteArray):n1 .string (.string n)=true:=by simp[n1]
def adF(n:ByteArray):∀(l:List (ByteArray × V)) (i:Nat),oC .string (.string n) (oB l) i=some (match l.findIdx? fun p=>decide (n=p.1)with|some j=>some (i+j,(l.getD j (⟨#[]⟩,bF)).2)|none=>none):=by
 intro l
 induction l with
 |nil=>intro i;rfl
 |cons p l aF=>
   intro i;have e:oB (p::l)=(.string p.1,p.2)::oB l:=rfl;rw[e];simp only[oC,aFj,Ks];by_cases h:n=p.1
   .simp[h]
   .simp only[Dm h,aF,pD,hp];cases l.findIdx? fun p=>decide (n=p.1)with
    |none=>rfl
    |some j=>
      simp;omega
def C0(l:List (ByteArray × V))(n:ByteArray):Option V:=(l.find? fun p=>decide (n=p.1)).map (·.2)
def aWy(n:ByteArray)(l:List (ByteArray × V)):C0 l n=match l.findIdx? fun p=>decide (n=p.1)with|some j=>some (l.getD j (⟨#[]⟩,bF)).2|none=>none:=by
 unfold C0
 induction l with
 |nil=>rfl
 |cons p l aF=>
   rw[Qz,Ks];by_cases h:n=p.1
   .simp[h]
   .simp only[Dm h,aF,pD,hp];cases l.findIdx? fun p=>decide (n=p.1)with
    |none=>rfl
    |some j=>simp
def qp{H:ad}{base:Nat}(ah:base<=H.length)(l:List (ByteArray × V))(n:ByteArray)(v:V)(aJ:(l.all fun p=>decide (p.1≠n))=true):LA (H++[.map (oB l)]) base .string (.mp H.length) (.s (.string n)) v=some (bF,H++[.map (oB (l++[(n,v)]))]):=by
 have bm:(H++[aM.map (oB l)])[H.length]?=some (.map (oB l)):=by simp
 have al:=adF n l 0
 have J':l.findIdx? (fun p=>decide (n=p.1))=none:=by
  rw[PQ];intro p ay;have:=fp.1 aJ p ay
  simpa using fun e=>(I8 this) e.symm
 rw[J']at al;simp only[LA,ah,aoz,qW,eW,bm,al];simp[oB]
theorem aGm{H:ad}{j:Nat}{l:List (ByteArray × V)}(bm:H[j]?=some (.map (oB l)))(z:V)(ok:Bool)(n:ByteArray):
 zY H .string z ok (.mp j) (.s (.string n))=some (if ok then .bQ [(C0 l n).getD z,ar (C0 l n).isSome]else(C0 l n).getD z):=by
 have al:=adF n l 0;rw[aWy];simp only[zY,bf,aV,kK,qt,aoz,eW,bm,al];cases l.findIdx? fun p=>decide (n=p.1)with
 |none=>cases ok<;>rfl
 |some j=>cases ok<;>rfl
def Wa(o:Nat):V:=.agg [.s (.int .u8 o),.fn (D1 o) [] []]
def uu(l:List (List UInt8 × Nat)):List (ByteArray × V):=l.map fun p=>(kL p.1,Wa p.2)
def aFZ(l:List (List UInt8 × Nat))(n:List UInt8):C0 (uu l) ⟨n.toArray⟩=(y1 l n).map Wa:=by
 unfold C0 y1 uu
 induction l with
 |nil=>rfl
 |cons p l aF=>
   rw[dW,Qz,Qz];by_cases h:p.1=n
   .subst h;simp[kL]
   .have J:¬(⟨n.toArray⟩:ByteArray)=kL p.1:=by
     intro e;unfold kL at e;have:=dV (fun b:ByteArray=>b.data.toList) e;exact h this.symm
    have aa:(p.1==n)=false:=by rw[kp];exact h
    simp only[Dm J,aa];exact aF
def aUo{l:List (List UInt8 × Nat)}(aq:∀p∈l,1<=p.2/\p.2<=14){n:List UInt8}{o:Nat}(h:y1 l n=some o):1<=o/\o<=14:=by
 unfold y1 at h;rw[fy]at h;obtain⟨p,J,rfl⟩:=h;exact aq p (List.mem_of_find?_eq_some J)
section
variable {ag:Nat->Option cz}
def rQ:List (ByteArray × V):=[(⟨#[115,116,111,114,101]⟩,.agg [.s (.int .u8 9),.fn DD [] []]),(⟨#[99,97,108,108]⟩,.agg [.s (.int .u8 10),.fn z' [] []]),(⟨#[105,99,97,108,108]⟩,.agg [.s (.int .u8 11),.fn y0 [] []]),(⟨#[98,114]⟩,.agg [.s (.int .u8 12),.fn Dv [] []]),(⟨#[103,111,116,111]⟩,.agg [.s (.int .u8 13),.fn EN [] []]),(⟨#[114,101,116]⟩,.agg [.s (.int .u8 14),.fn J8 [] []])]
theorem aS0:rQ=uu AK:=by rfl
def aUt(aB:ag R4=some (.code Ay))(base:Nat){A:ad}(ah:base<=A.length):
 aR ag (.fn R4 [] []) [] base A=some (.mp A.length,A++[.map (oB (uu AK))]):=by
 rw[<- aS0];have cX:(aM.map []:aM)=.map (oB []):=rfl
 have jY:=qp ah (rQ.take 0) ⟨#[115,116,111,114,101]⟩ (.agg [.s (.int .u8 9),.fn DD [] []]) (by decide)
 have ks:=qp ah (rQ.take 1) ⟨#[99,97,108,108]⟩ (.agg [.s (.int .u8 10),.fn z' [] []]) (by decide)
 have jW:=qp ah (rQ.take 2) ⟨#[105,99,97,108,108]⟩ (.agg [.s (.int .u8 11),.fn y0 [] []]) (by decide)
 have lT:=qp ah (rQ.take 3) ⟨#[98,114]⟩ (.agg [.s (.int .u8 12),.fn Dv [] []]) (by decide)
 have om:=qp ah (rQ.take 4) ⟨#[103,111,116,111]⟩ (.agg [.s (.int .u8 13),.fn EN [] []]) (by decide)
 have p8:=qp ah (rQ.take 5) ⟨#[114,101,116]⟩ (.agg [.s (.int .u8 14),.fn J8 [] []]) (by decide)
 simp only[rQ,dj,dB]at jY;simp only[rQ,dK,dj,du,dB]at ks;simp only[rQ,dK,dj,du,dB]at jW;simp only[rQ,dK,dj,du,dB]at lT;simp only[rQ,dK,dj,du,dB]at om;simp only[rQ,dK,dj,du,dB]at p8;have ug:∀k,(V.fn k [] []).cells=[V.fn k [] []]:=fun _=>rfl;have Jv:∀k,[V.fn k [] []].all V.one=true:=fun _=>rfl;have iY:∀(x y:V),List.drop 2 [x,y]=[]:=fun _ _=>rfl
 refine gR (c:=Ay) aB (by simp[Ay]) ?_
 simp only[rQ,simprocAttr,Ay,aDt,aG,cX,ug,Jv,iY,jY,ks,jW,lT,om,p8]
def l':List (ByteArray × V):=[(⟨#[97,108,108,111,99,97]⟩,.agg [.s (.int .u8 1),.fn zg [] []]),(⟨#[109,97,108,108,111,99]⟩,.agg [.s (.int .u8 2),.fn zg [] []]),(⟨#[110,117,108,108]⟩,.agg [.s (.int .u8 3),.fn KH [] []]),(⟨#[97,100,100,114]⟩,.agg [.s (.int .u8 4),.fn EJ [] []]),(⟨#[99,111,112,121]⟩,.agg [.s (.int .u8 5),.fn zx [] []]),(⟨#[108,111,97,100]⟩,.agg [.s (.int .u8 8),.fn zx [] []]),(⟨#[102,105,101,108,100]⟩,.agg [.s (.int .u8 7),.fn Em [] []]),(⟨#[112,104,105]⟩,.agg [.s (.int .u8 6),.fn CF [] []]),(⟨#[99,97,108,108]⟩,.agg [.s (.int .u8 10),.fn z' [] []]),(⟨#[105,99,97,108,108]⟩,.agg [.s (.int .u8 11),.fn y0 [] []])]
theorem aWR:l'=uu yG:=by rfl
def aCM(aB:ag bce=some (.code zZ))(base:Nat){A:ad}(ah:base<=A.length):
 aR ag (.fn bce [] []) [] base A=some (.mp A.length,A++[.map (oB (uu yG))]):=by
 rw[<- aWR];have cX:(aM.map []:aM)=.map (oB []):=rfl
 have jY:=qp ah (l'.take 0) ⟨#[97,108,108,111,99,97]⟩ (.agg [.s (.int .u8 1),.fn zg [] []]) (by decide)
 have ks:=qp ah (l'.take 1) ⟨#[109,97,108,108,111,99]⟩ (.agg [.s (.int .u8 2),.fn zg [] []]) (by decide)
 have jW:=qp ah (l'.take 2) ⟨#[110,117,108,108]⟩ (.agg [.s (.int .u8 3),.fn KH [] []]) (by decide)
 have lT:=qp ah (l'.take 3) ⟨#[97,100,100,114]⟩ (.agg [.s (.int .u8 4),.fn EJ [] []]) (by decide)
 have om:=qp ah (l'.take 4) ⟨#[99,111,112,121]⟩ (.agg [.s (.int .u8 5),.fn zx [] []]) (by decide)
 have p8:=qp ah (l'.take 5) ⟨#[108,111,97,100]⟩ (.agg [.s (.int .u8 8),.fn zx [] []]) (by decide)
 have um:=qp ah (l'.take 6) ⟨#[102,105,101,108,100]⟩ (.agg [.s (.int .u8 7),.fn Em [] []]) (by decide)
 have u8:=qp ah (l'.take 7) ⟨#[112,104,105]⟩ (.agg [.s (.int .u8 6),.fn CF [] []]) (by decide)
 have r8:=qp ah (l'.take 8) ⟨#[99,97,108,108]⟩ (.agg [.s (.int .u8 10),.fn z' [] []]) (by decide)
 have uz:=qp ah (l'.take 9) ⟨#[105,99,97,108,108]⟩ (.agg [.s (.int .u8 11),.fn y0 [] []]) (by decide)
 simp only[l',dj,dB]at jY;simp only[l',dK,dj,du,dB]at ks;simp only[l',dK,dj,du,dB]at jW;simp only[l',dK,dj,du,dB]at lT;simp only[l',dK,dj,du,dB]at om;simp only[l',dK,dj,du,dB]at p8;simp only[l',dK,dj,du,dB]at um;simp only[l',dK,dj,du,dB]at u8;simp only[l',dK,dj,du,dB]at r8;simp only[l',dK,dj,du,dB]at uz;have ug:∀k,(V.fn k [] []).cells=[V.fn k [] []]:=fun _=>rfl;have Jv:∀k,[V.fn k [] []].all V.one=true:=fun _=>rfl;have iY:∀(x y:V),List.drop 2 [x,y]=[]:=fun _ _=>rfl
 refine gR (c:=zZ) aB (by simp[zZ]) ?_
 simp only[l',simprocAttr,zZ,aQC,aG,cX,ug,Jv,iY,jY,ks,jW,lT,om,p8,um,u8,r8,uz]
end
def aH.Jx{L ρ aP:Nat}{A B:ad}(h:aH L [ρ,aP] A B)(ep:L<=aP):aH L [ρ] A B:=⟨h.1,fun id J aa=>h.2 id J (by simp at aa |-;omega)⟩
structure H4 (ag:Nat->Option cz):Prop where
 O:pB ag
 ayw:ag R4=some (.code Ay)
 aDc:ag bce=some (.code zZ)
 instr:ag BJ=some (.code qi)
abbrev adR:bZ:=(.seq (.region Kv [] [4,9,29,30,31,32,33,34,35,36])
 (.seq (.seq (.bh HM [37,38,39,40,41,42] [43])
 (.cond (.t 43)
 (.region FG [] [43,44,45,46,47,48,49,50])
 .skip))
 (.seq (.seq (.region CY [] [6,43,51,52,53,54,55,56,57])
 (.cond (.t 58)
 (.region No [] [58,59,60])
 .skip))
 (.seq (.region Py [] [58,61,62,63,64,65,66,67])
 (.seq (.region OP [] [68,69,70])
 (.seq (.region O3 [] [0,5,71,72,73,74])
 (.seq (.region PM [] [3,75])
 .ret)))))))
abbrev o1:List V:=[.s (.int .u8 0),.s (.string ⟨#[]⟩),.s (.string ⟨#[]⟩),.s (.string ⟨#[]⟩),.s (.int .i64 0),.s (.string ⟨#[]⟩),cm,cm]
def yQ(m:Nat)(H:ad)(r:List V)(x:bI):Prop:=∃a' lw,r=bg x a' lw/\c1 m 1 H a' (ij x.xs)/\c1 m 1 H lw (ij x.ls)
section
variable {ag:Nat->Option cz} {ρ:Nat} {lv:V} {ao:List Tok.T} {a:Nat}
set_option maxHeartbeats 1000000 in
def aej(kM:H4 ag)(wf:jP ao)(base:Nat)(ah:base<=ρ){C:ad}{b:Nat}(h:cy ρ lv ao C b){L aT aP m μ:Nat}(cU:ρ<L)(aa:L<=aT)(Y7:aT<aP){d:ByteArray}(af:fM aP m C { fE with d:=d } cm cm)(g2:au C aT 0=some o1){l:List (List UInt8 × Nat)}(aq:∀p∈l,1<=p.2/\p.2<=14)(gD:C[μ]?=some (.map (oB (uu l))))(ajP:d.data.toList=[]->b+1<ao.length){N:Nat}(eo:ao.length<N)(j':N<2^21){dT:Env}(r9:dT=[(0,.ref ρ 0 0),(2,.ref aT 0 0),(3,.ref aP 0 0),(4,.mp μ)]\/dT=[(0,.ref ρ 0 0),(2,.ref aT 0 0),(3,.ref aP 0 0),(4,.mp μ),(9,ar false)]):
 match uV (bt.of ao) N d l b with
  |.ok (y,c)=>c<ao.length/\∃r a7,aL (aR ag) aN base adR (ax 76 dT) C=some (.ret,ax 76 [(2,.ref aT 0 0)],a7)/\aH L [ρ] C a7/\au a7 ρ 0=some [lv,U c]/\au a7 aT 0=some r/\r.length=8/\yQ m a7 r y
  |.error e=>e<ao.length/\∃a7,gg (aR ag) (ns ag) aN base (fun _ _=>True) adR (ax 76 dT) C (qx,.agg (dA (ao.getD e ef)),a7)/\aH L [ρ] C a7:=by
 have ck:=kM.O;have aUZ:aP<C.length:=iC af.2.2.1
 have gr:base<=C.length:=by omega
 have hO:base<=aP:=by omega
 have km:base<=aT:=by omega
 have lp:L<=C.length:=by omega
 obtain⟨t,aY⟩:∃t,ao.getD b ef=t:=⟨_,rfl⟩
 have xU:(bt.of ao).text b=t.text:=by rw[<- aY];rfl
 have nq:(bt.of ao).kind b=t.kind:=by rw[<- aY];rfl
 obtain⟨bG,cC,b5⟩:=qe ck.R.now base gr h;rw[aY]at cC;have aAG:=b5.le
 have aj4:base<=bG.length:=by omega
 have OU:bG[μ]?=some (.map (oB (uu l))):=by rw[b5.get (dQ.1 gD).1];exact gD
 have uZ:=aGm OU (.agg [.s (.int .u8 0),.s .nilFunc]) true ⟨t.text.toArray⟩;rw[aFZ,bE rfl]at uZ;unfold uV;rw[xU,nq];have cg:∀c,au (bG++[aM.cells 0 c]) bG.length 0=some c:=fun c=>cQ bG 0 c;have dE:∀c e,(bG++[c]).set bG.length e=bG++[e]:=fun c e=>iI bG c e;have ig:=h.g;have aJ:=h.n;have b8:=h.lt;cases tK:y1 l t.text with
 |none=>
   rw[tK]at uZ;obtain⟨cx,gb⟩:∃X,bG++[aM.cells 0 [V.s (.int .u8 0),.s .nilFunc]]=X:=⟨_,rfl⟩;have aU:Ext C cx:=b5.trans (gb▸Ext.app _ _)
   have gX:=af.cD (ρ:=ρ) (by omega) (aH.gM aU)
   have qz:=gX.2.2.1
   have zf:aL (aR ag) aN base (.region Kv [] [4,9,29,30,31,32,33,34,35,36]) (ax 76 dT) C=some (.bR,ax 76 [(0,.ref ρ 0 0),(2,.ref aT 0 0),(3,.ref aP 0 0),(5,.ref bG.length 0 0),(6,ar false)],cx):=by
    simp only[dA,Bc,Option.getD_none,T0,ar]at cC uZ;have Qh:au cx bG.length 0=some [V.s (.int .u8 0),.s .nilFunc]:=gb▸cQ bG 0 _
    have kv:cx.set bG.length (aM.cells 0 [V.s (.int .u8 0),.s .nilFunc])=cx:=by rw[<- gb,iI]
    have aJM:(V.s Value.nilFunc).one=true:=rfl
    rcases r9 with rfl|rfl<;>simp only[ar,simprocAttr,ke,aG,cC,uZ,aj4,gb,Qh,aJM,kv]
   dsimp only;by_cases aQ:d.data.toList=[]
   .rw[bE aQ];have eZ:=ajP aQ;have Av:=(h.ext aU).g;obtain⟨gI,nc⟩:∃X,cx.set ρ (.cells 0 [lv,U (b+1:Nat)])=X:=⟨_,rfl⟩
    have bc:IntKind.i64.wrap ((b:Int)+1)=((b+1:Nat):Int):=jB (by omega)
    have g3:au gI ρ 0=some [lv,U (b+1:Nat)]:=nc▸fJ Av _;have hQ:aH C.length [ρ] C gI:=nc▸aH.BU (aH.gM aU) _;have aI:=h.cD hQ g3 eZ
    have V5:(d.data.toList==[])=true:=by rw[aQ];rfl
    have vz:aL (aR ag) aN base (.seq (.bh HM [37,38,39,40,41,42] [43]) (.cond (.t 43) (.region FG [] [43,44,45,46,47,48,49,50]) .skip)) (ax 76 [(0,.ref ρ 0 0),(2,.ref aT 0 0),(3,.ref aP 0 0),(5,.ref bG.length 0 0),(6,ar false)]) cx=some (.bR,ax 76 [(0,.ref ρ 0 0),(2,.ref aT 0 0),(3,.ref aP 0 0),(5,.ref bG.length 0 0),(6,ar false)],gI):=by
     simp only[bg,U,aA]at qz Av nc;simp only[ar,simprocAttr,ke,aG,qz,V5,Av,bc,ah,nc]
    have sx:aL (aR ag) aN base (.region CY [] [6,43,51,52,53,54,55,56,57]) (ax 76 [(0,.ref ρ 0 0),(2,.ref aT 0 0),(3,.ref aP 0 0),(5,.ref bG.length 0 0),(6,ar false)]) gI=some (.bR,ax 76 [(0,.ref ρ 0 0),(2,.ref aT 0 0),(3,.ref aP 0 0),(5,.ref bG.length 0 0),(58,ar true)],gI):=by
     simp only[ar,simprocAttr,ke,aG]
    obtain⟨lo,f1,f2⟩:=yg ck.R.now base (H:=gI) (by have:=hQ.1;omega) aI
    refine⟨eZ,lo,dG zf (dG vz (kW (dG sx (sJ rfl (jH (it':=aN) (pre:=Np) (post:=[]) (.bQ []) rfl rfl f1 ?_))))),aH.app (aH.low hQ lp) (aH.low (aH.gM f2) (by have:=hQ.1;omega))⟩
    simp only[ar,simprocAttr,ke,aG,hs]
   .rw[bV aQ]
    have V5:(d.data.toList==[])=false:=by rw[kp];exact aQ
    have aI:=h.ext aU
    have vz:aL (aR ag) aN base (.seq (.bh HM [37,38,39,40,41,42] [43]) (.cond (.t 43) (.region FG [] [43,44,45,46,47,48,49,50]) .skip)) (ax 76 [(0,.ref ρ 0 0),(2,.ref aT 0 0),(3,.ref aP 0 0),(5,.ref bG.length 0 0),(6,ar false)]) cx=some (.bR,ax 76 [(0,.ref ρ 0 0),(2,.ref aT 0 0),(3,.ref aP 0 0),(5,.ref bG.length 0 0),(6,ar false),(43,ar false)],cx):=by
     simp only[bg,aA]at qz;simp only[ar,simprocAttr,ke,aG,qz,V5]
    have sx:aL (aR ag) aN base (.region CY [] [6,43,51,52,53,54,55,56,57]) (ax 76 [(0,.ref ρ 0 0),(2,.ref aT 0 0),(3,.ref aP 0 0),(5,.ref bG.length 0 0),(6,ar false),(43,ar false)]) cx=some (.bR,ax 76 [(0,.ref ρ 0 0),(2,.ref aT 0 0),(3,.ref aP 0 0),(5,.ref bG.length 0 0),(58,ar true)],cx):=by
     simp only[ar,simprocAttr,ke,aG]
    obtain⟨lo,f1,f2⟩:=yg ck.R.now base (H:=cx) (by have:=aU.le;omega) aI
    refine⟨h.lt,lo,dG zf (dG vz (kW (dG sx (sJ rfl (jH (it':=aN) (pre:=Np) (post:=[]) (.bQ []) rfl rfl f1 ?_))))),aH.low (aH.gM (aU.trans f2)) lp⟩;simp only[ar,simprocAttr,ke,aG,hs]
 |some o=>
   obtain⟨gz,azt⟩:=aUo aq tK;rw[tK]at uZ;obtain⟨cx,gb⟩:∃X,bG++[aM.cells 0 [V.s (.int .u8 o),.fn (D1 o) [] []]]=X:=⟨_,rfl⟩;have aU:Ext C cx:=b5.trans (gb▸Ext.app _ _)
   have gX:=af.cD (ρ:=ρ) (by omega) (aH.gM aU)
   have qz:=gX.2.2.1;have Qh:au cx bG.length 0=some [V.s (.int .u8 o),.fn (D1 o) [] []]:=gb▸cQ bG 0 _
   have zf:aL (aR ag) aN base (.region Kv [] [4,9,29,30,31,32,33,34,35,36]) (ax 76 dT) C=some (.bR,ax 76 [(0,.ref ρ 0 0),(2,.ref aT 0 0),(3,.ref aP 0 0),(5,.ref bG.length 0 0),(6,ar true)],cx):=by
    simp only[dA,o7,MR,ant,ar,Wa]at cC uZ
    rcases r9 with rfl|rfl<;>simp only[ar,simprocAttr,ke,aG,cC,uZ,cg,dE,aj4,gb]
   have vz:aL (aR ag) aN base (.seq (.bh HM [37,38,39,40,41,42] [43]) (.cond (.t 43) (.region FG [] [43,44,45,46,47,48,49,50]) .skip)) (ax 76 [(0,.ref ρ 0 0),(2,.ref aT 0 0),(3,.ref aP 0 0),(5,.ref bG.length 0 0),(6,ar true)]) cx=some (.bR,ax 76 [(0,.ref ρ 0 0),(2,.ref aT 0 0),(3,.ref aP 0 0),(5,.ref bG.length 0 0),(6,ar true),(43,ar false)],cx):=by
    simp only[bg,aA]at qz;simp only[ar,simprocAttr,ke,aG,qz]
   have aI:=h.ext aU
   obtain⟨gI,m1,m2⟩:=qe ck.R.now base (H:=cx) (by have:=aU.le;omega) aI
   rw[aY]at m1;simp only[dA]at m1;have cd:=aU.trans m2;dsimp only;by_cases an:t.kind=1
   .rw[bE an]
    have k1:(((t.kind:Nat):Int) != 1)=false:=by rw[an];rfl
    have sx:aL (aR ag) aN base (.seq (.region CY [] [6,43,51,52,53,54,55,56,57]) (.cond (.t 58) (.region No [] [58,59,60]) .skip)) (ax 76 [(0,.ref ρ 0 0),(2,.ref aT 0 0),(3,.ref aP 0 0),(5,.ref bG.length 0 0),(6,ar true),(43,ar false)]) cx=some (.bR,ax 76 [(0,.ref ρ 0 0),(2,.ref aT 0 0),(3,.ref aP 0 0),(5,.ref bG.length 0 0),(58,ar false)],gI):=by
     simp only[ar,simprocAttr,ke,aG,m1,k1]
    have eZ:b+1<ao.length:=wf.pn b h.lt (by rw[aY,an];decide)
    have BL:=(h.ext cd).g;obtain⟨lo,Ka⟩:∃X,gI.set ρ (.cells 0 [lv,U (b+1:Nat)])=X:=⟨_,rfl⟩
    have bc:IntKind.i64.wrap ((b:Int)+1)=((b+1:Nat):Int):=jB (by omega)
    have g4:au lo ρ 0=some [lv,U (b+1:Nat)]:=Ka▸fJ BL _;have q':aH C.length [ρ] C lo:=Ka▸aH.BU (aH.gM cd) _;have aNK:aH cx.length [ρ] cx lo:=Ka▸aH.BU (aH.gM m2) _;have bl:=h.cD q' g4 eZ
    have rl:=af.cD (ρ:=ρ) (by omega) q'
    have El:=rl.2.2.1
    have Sj:au lo bG.length 0=some [V.s (.int .u8 o),.fn (D1 o) [] []]:=aNK.au Qh (iC Qh) (by rw[eQ];have:=h.pos;omega)
    have GU:aL (aR ag) aN base (.region Py [] [58,61,62,63,64,65,66,67]) (ax 76 [(0,.ref ρ 0 0),(2,.ref aT 0 0),(3,.ref aP 0 0),(5,.ref bG.length 0 0),(58,ar false)]) gI=some (.bR,ax 76 [(0,.ref ρ 0 0),(2,.ref aT 0 0),(3,.ref aP 0 0),(5,.ref bG.length 0 0)],lo):=by
     simp only[U]at BL Ka;simp only[ar,simprocAttr,ke,aG,BL,bc,ah,Ka]
    have zM:=rl.set (y:={ fE with op:=o,d:=d }) rfl rfl;obtain⟨pj,HG⟩:∃X,lo.set aP (.cells 0 (bg { fE with op:=o,d:=d } cm cm))=X:=⟨_,rfl⟩;rw[HG]at zM
    have Ce:aL (aR ag) aN base (.region OP [] [68,69,70]) (ax 76 [(0,.ref ρ 0 0),(2,.ref aT 0 0),(3,.ref aP 0 0),(5,.ref bG.length 0 0)]) lo=some (.bR,ax 76 [(0,.ref ρ 0 0),(2,.ref aT 0 0),(3,.ref aP 0 0),(5,.ref bG.length 0 0)],pj):=by
     simp only[bg,aA]at El HG;simp only[ke,simprocAttr,aG,Sj,El,hO,HG]
    have Xg:au pj bG.length 0=some [V.s (.int .u8 o),.fn (D1 o) [] []]:=by
     unfold au at Sj |-
     rw[<- HG,cG (by omega)]
     exact Sj
    have tW:aH C.length [ρ,aP] C pj:=HG▸aH.uT (aH.two q') _
    have g5:au pj ρ 0=some [lv,U (b+1:Nat)]:=by
     unfold au at g4 |-
     rw[<- HG,cG (by omega)]
     exact g4
    have cO:=h.DA (by omega) tW g5 eZ
    have q:=aBH ck wf base ah cO (aP:=aP) (by omega) zM rfl rfl eo j' o gz azt
    have afR:aH L [ρ] C pj:=aH.Jx (aH.low tW lp) (by omega)
    unfold eT at q;cases dz:BY (bt.of ao) N o { fE with op:=o,d:=d } (b+1)with
    |error e=>
      rw[dz]at q;obtain⟨bj,pI,oW,a1⟩:=q
      refine⟨bj,pI,dG zf (dG vz (dG sx (dG GU (dG Ce (kW (jH (it':=aN) (pre:=QS) (post:=[]) (cw:=ax 76 [(0,.ref ρ 0 0),(2,.ref aT 0 0),(3,.ref aP 0 0),(5,.ref bG.length 0 0),(71,.ref bG.length 0 1),(72,.fn (D1 o) [] []),(73,.ref ρ 0 0)]) (H1:=pj) (.bQ []) rfl ?_ oW ?_)))))),aH.app afR (aH.Jx (aH.low a1 (by have:=tW.1;omega)) (by omega))⟩
      .simp only[QS,simprocAttr,aG,Xg]
       try rfl
      .simp only[ke,simprocAttr,aG,Xg,hs]
    |ok p=>
      obtain⟨y,c⟩:=p;rw[dz]at q;obtain⟨bj,_,pI,oW,a1,cB,rfl,a',lw,Au⟩:=q;have aMR:=Au.2.2.1
      have NG:aL (aR ag) aN base (.region O3 [] [0,5,71,72,73,74]) (ax 76 [(0,.ref ρ 0 0),(2,.ref aT 0 0),(3,.ref aP 0 0),(5,.ref bG.length 0 0)]) pj=some (.bR,ax 76 [(2,.ref aT 0 0),(3,.ref aP 0 0)],pI):=by
       simp only[ke,simprocAttr,aG,Xg,oW]
      have CQ:au pI aT 0=some o1:=by
       have OC:au pj aT 0=some o1:=tW.au g2 (by omega) (by simp;have:=h.pos;omega)
       exact a1.au OC (iC OC) (by simp;have:=h.pos;omega)
      have mv:a'.one=true:=Au.2.2.2.1.rd.one;have N4:lw.one=true:=Au.2.2.2.2.1.rd.one
      have ag0:fa pI true 8 (.ref aP 0 0)=some (.agg (bg y a' lw)):=by rw[h1,aMR];rfl
      obtain⟨M3,Ck⟩:∃X,pI.set aT (.cells 0 (bg y a' lw))=X:=⟨_,rfl⟩
      have aWh:aL (aR ag) aN base (.seq (.region PM [] [3,75]) .ret) (ax 76 [(2,.ref aT 0 0),(3,.ref aP 0 0)]) pI=some (.ret,ax 76 [(2,.ref aT 0 0)],M3):=by
       simp only[bg,aA]at ag0 Ck;simp only[ke,simprocAttr,aG,ag0,CQ,km,mv,N4,eG,Ck]
      refine⟨bj,bg y a' lw,M3,?_,?_,?_,Ck▸fJ CQ _,rfl,a',lw,rfl,?_,?_⟩
      .exact(e1 zf).trans ((e1 vz).trans ((e1 sx).trans ((e1 GU).trans ((e1 Ce).trans ((e1 NG).trans aWh)))))
      .have aus:aH L [ρ] C pI:=aH.app afR (aH.Jx (aH.low a1 (by have:=tW.1;omega)) (by omega))
       refine⟨by rw[<- Ck,fP];exact aus.1,fun id i1 i2=>?_⟩
       rw[<- Ck,cG (by omega)]
       exact aus.2 id i1 i2
      .unfold au at cB |-
       rw[<- Ck,cG (by omega)]
       exact cB
      .refine Au.2.2.2.1.cD fun id g n e=>?_;have hh:=Au.2.2.2.1;rw[e]at hh;have:=iK hh;have:=Au.1
       rw[<- Ck,cG (by omega)]
      .refine Au.2.2.2.2.1.cD fun id g n e=>?_;have hh:=Au.2.2.2.2.1;rw[e]at hh;have:=iK hh;have:=Au.1
       rw[<- Ck,cG (by omega)]
   .rw[bV an]
    have k1:(((t.kind:Nat):Int) != 1)=true:=by rw[mw];omega
    have sx:aL (aR ag) aN base (.region CY [] [6,43,51,52,53,54,55,56,57]) (ax 76 [(0,.ref ρ 0 0),(2,.ref aT 0 0),(3,.ref aP 0 0),(5,.ref bG.length 0 0),(6,ar true),(43,ar false)]) cx=some (.bR,ax 76 [(0,.ref ρ 0 0),(2,.ref aT 0 0),(3,.ref aP 0 0),(5,.ref bG.length 0 0),(58,ar true)],gI):=by
     simp only[ar,simprocAttr,ke,aG,m1,k1]
    obtain⟨lo,f1,f2⟩:=yg ck.R.now base (H:=gI) (by have:=cd.le;omega) (h.ext cd)
    refine⟨h.lt,lo,dG zf (dG vz (kW (dG sx (sJ rfl (jH (it':=aN) (pre:=Np) (post:=[]) (.bQ []) rfl rfl f1 ?_))))),aH.low (aH.gM (cd.trans f2)) lp⟩;simp only[ar,simprocAttr,ke,aG,hs]
end
def yQ.low{m k:Nat}{H:ad}{r:List V}{x:bI}(h:yQ m H r x)(an:k<=m):yQ k H r x:=by
 obtain⟨a',lw,J,aa,aI⟩:=h;exact⟨a',lw,J,c1.low aa an,c1.low aI an⟩
def aP5:∀p∈AK,1<=p.2/\p.2<=14:=by decide
def aHq:∀p∈yG,1<=p.2/\p.2<=14:=by decide
abbrev MQ:bZ:=(.seq (.region Mb [] [4,9,10,11,12,13])
 (.seq (.region L1 [] [14,15,16,17,18,19,20])
 (.seq (.region N7 [] [21,22])
 (.seq (.seq (.region KZ [] [23,24])
 (.cond (.t 25)
 (.region LM [] [25,26,27])
 .skip))
 (.region QA [] [25,28])))))
section
variable {ag:Nat->Option cz} {ρ:Nat} {lv:V} {ao:List Tok.T} {a:Nat}
def aAE(kM:H4 ag)(wf:jP ao)(base:Nat)(ah:base<=ρ){C:ad}(h:cy ρ lv ao C a){L aT aP μ:Nat}(cU:ρ<L)(aa:L<=aT)(Y7:aT<aP)(iS:au C aP 0=some o1)(g2:au C aT 0=some o1)(ai:mD (bt.of ao) [61] a=true):
 if(bt.of ao).same (a+2)=true then a+2<ao.length/\∃a7 Ph,aL (aR ag) aN base MQ (ax 76 [(0,.ref ρ 0 0),(2,.ref aT 0 0),(3,.ref aP 0 0),(4,.mp μ),(9,ar true)]) C=some (.bR,ax 76 [(0,.ref ρ 0 0),(2,.ref aT 0 0),(3,.ref aP 0 0),(4,.mp Ph)],a7)/\aH C.length [ρ,aP] C a7/\au a7 ρ 0=some [lv,U (a+2:Nat)]/\au a7 aP 0=some (bg { fE with d:=kL ((bt.of ao).text a) } cm cm)/\a7[Ph]?=some (.map (oB (uu yG)))
 else a+2<ao.length/\∃a7,gg (aR ag) (ns ag) aN base (fun _ _=>True) MQ (ax 76 [(0,.ref ρ 0 0),(2,.ref aT 0 0),(3,.ref aP 0 0),(4,.mp μ),(9,ar true)]) C (qx,.agg (dA (ao.getD (a+2) ef)),a7)/\aH C.length [ρ,aP] C a7:=by
 have ck:=kM.O;have VX:(⟨#[61]⟩:ByteArray).data.toList=[61]:=rfl;unfold mD at ai;rw[dR,dR,dR,lc,lc,lc]at ai;obtain⟨k1,⟨k2,eN⟩,j5⟩:=ai;have jk:=h.pos;have aUZ:aP<C.length:=iC iS
 have gr:base<=C.length:=by omega
 have hO:base<=aP:=by omega
 have aJ:=h.n
 have hB:a+1<ao.length:=wf.pn a h.lt (by rw[show(ao.getD a ef).kind=1 from k1];decide)
 have zE:a+2<ao.length:=wf.pn (a+1) hB (by rw[show(ao.getD (a+1) ef).kind=3 from k2];decide)
 obtain⟨t,aY⟩:∃t,ao.getD a ef=t:=⟨_,rfl⟩
 have xU:(bt.of ao).text a=t.text:=by rw[<- aY];rfl
 obtain⟨bG,cC,b5⟩:=qe ck.R.now base gr h;rw[aY]at cC;have r5:=b7 iS b5;obtain⟨cx,gb⟩:∃X,bG.set aP (.cells 0 (bg { fE with d:=kL t.text } cm cm))=X:=⟨_,rfl⟩;have qz:au cx aP 0=some (bg { fE with d:=kL t.text } cm cm):=gb▸fJ r5 _
 have e':aL (aR ag) aN base (.region Mb [] [4,9,10,11,12,13]) (ax 76 [(0,.ref ρ 0 0),(2,.ref aT 0 0),(3,.ref aP 0 0),(4,.mp μ),(9,ar true)]) C=some (.bR,ax 76 [(0,.ref ρ 0 0),(2,.ref aT 0 0),(3,.ref aP 0 0)],cx):=by
  simp only[dA,bg,fE,kL,aA]at cC gb;simp only[o1]at r5;simp only[ar,simprocAttr,ke,aG,cC,r5,hO,gb]
 have o8:aH C.length [ρ,aP] C cx:=gb▸aH.uT (aH.two (aH.gM b5)) _
 have Av:au cx ρ 0=some [lv,U a]:=by
  have:=(h.ext b5).g;unfold au at this |-
  rw[<- gb,cG (by omega)]
  exact this
 obtain⟨gI,nc⟩:∃X,cx.set ρ (.cells 0 [lv,U (a+1:Nat)])=X:=⟨_,rfl⟩
 have bc:IntKind.i64.wrap ((a:Int)+1)=((a+1:Nat):Int):=jB (by omega)
 have g3:au gI ρ 0=some [lv,U (a+1:Nat)]:=nc▸fJ Av _
 have sd:au gI aP 0=some (bg { fE with d:=kL t.text } cm cm):=by
  unfold au at qz |-
  rw[<- nc,cG (by omega)]
  exact qz
 have hQ:aH C.length [ρ,aP] C gI:=⟨by rw[<- nc,fP];exact o8.1,fun id i1 i2=>by
  rw[<- nc,cG (by simp at i2;omega)]
  exact o8.2 id i1 i2⟩
 have jq:aL (aR ag) aN base (.region L1 [] [14,15,16,17,18,19,20]) (ax 76 [(0,.ref ρ 0 0),(2,.ref aT 0 0),(3,.ref aP 0 0)]) cx=some (.bR,ax 76 [(0,.ref ρ 0 0),(2,.ref aT 0 0),(3,.ref aP 0 0)],gI):=by
  simp only[U]at Av nc;simp only[ke,simprocAttr,aG,Av,bc,ah,nc]
 have aI:=h.DA (by omega) hQ g3 hB
 have vW:fO (bt.of ao) [61] (a+1)=.ok ((),a+2):=by
  unfold fO nY
  rw[bE (by rw[j5,k2,eN];decide)]
 have q:=xr ck.R wf base ah aI ⟨#[61]⟩;rw[VX,vW]at q;obtain⟨_,_,lo,cj,cZ,hN,rfl⟩:=q;simp only[aA]at cj
 have lQ:aL (aR ag) aN base (.region N7 [] [21,22]) (ax 76 [(0,.ref ρ 0 0),(2,.ref aT 0 0),(3,.ref aP 0 0)]) gI=some (.bR,ax 76 [(0,.ref ρ 0 0),(2,.ref aT 0 0),(3,.ref aP 0 0)],lo):=by
  simp only[ke,simprocAttr,aG,cj]
 have bl:=aI.cD cZ hN zE;have q':aH C.length [ρ,aP] C lo:=aH.mU hQ (aH.two cZ)
 have El:au lo aP 0=some (bg { fE with d:=kL t.text } cm cm):=cZ.au sd (iC sd) (by rw[eQ];omega)
 obtain⟨pj,s1,s2⟩:=zv ck.R.now ck.R.same base bl;have cO:=bl.ext s2;have tW:aH C.length [ρ,aP] C pj:=aH.mU q' (aH.two (aH.gM s2));have aQ3:=b7 El s2;simp only[ar]at s1;by_cases kn:(bt.of ao).same (a+2)=true
 .rw[bE kn];rw[kn]at s1
  have sF:aL (aR ag) aN base (.seq (.region KZ [] [23,24]) (.cond (.t 25) (.region LM [] [25,26,27]) .skip)) (ax 76 [(0,.ref ρ 0 0),(2,.ref aT 0 0),(3,.ref aP 0 0)]) lo=some (.bR,ax 76 [(0,.ref ρ 0 0),(2,.ref aT 0 0),(3,.ref aP 0 0),(25,ar false)],pj):=by
   simp only[ar,simprocAttr,ke,aG,s1]
  have aHP:=aCM kM.aDc base (A:=pj) (by have:=tW.1;omega)
  refine⟨zE,pj++[.map (oB (uu yG))],pj.length,(e1 e').trans ((e1 jq).trans ((e1 lQ).trans ((e1 sF).trans ?_))),aH.mU tW (aH.two (aH.gM (Ext.app _ _))),(cO.ext (Ext.app _ _)).g,?_,by simp⟩
  .simp only[ar,simprocAttr,ke,aG,aHP]
  .rw[xU];exact b7 aQ3 (Ext.app _ _)
 .rw[bV kn];rw[sY]at kn;rw[kn]at s1
  have sF:aL (aR ag) aN base (.region KZ [] [23,24]) (ax 76 [(0,.ref ρ 0 0),(2,.ref aT 0 0),(3,.ref aP 0 0)]) lo=some (.bR,ax 76 [(0,.ref ρ 0 0),(2,.ref aT 0 0),(3,.ref aP 0 0),(25,ar true)],pj):=by
   simp only[ar,simprocAttr,ke,aG,s1]
  obtain⟨pI,f1,f2⟩:=yg ck.R.now base (H:=pj) (by have:=tW.1;omega) cO
  refine⟨zE,pI,dG e' (dG jq (dG lQ (kW (dG sF (sJ rfl (jH (it':=aN) (pre:=amr) (post:=[]) (.bQ []) rfl rfl f1 ?_)))))),aH.mU tW (aH.two (aH.gM f2))⟩;simp only[ar,simprocAttr,ke,aG,hs]
def aAV(kM:H4 ag)(wf:jP ao)(base:Nat)(ah:base<=ρ){H:ad}(h:cy ρ lv ao H a)(vj:(bt.of ao).kind a=1){N:Nat}(eo:ao.length<N)(j':N<2^21):eT ag base BJ [.ref ρ 0 0] ρ lv ao [ρ] H (sR (bt.of ao) N a) (fun y v H'=>∃r,v=.agg r/\r.length=8/\yQ H.length H' r y):=by
 have ck:=kM.O;have VX:(⟨#[61]⟩:ByteArray).data.toList=[61]:=rfl;have jk:=h.pos
 have hB:a+1<ao.length:=wf.pn a h.lt (by rw[show(ao.getD a ef).kind=1 from vj];decide)
 obtain⟨bO,nC⟩:∃X,H++[aM.cells 0 o1]=X:=⟨_,rfl⟩
 have fN:bO.length=H.length+1:=by rw[<- nC,dh]
 obtain⟨b4,er⟩:∃X,bO++[aM.cells 0 o1]=X:=⟨_,rfl⟩
 have cW:b4.length=H.length+2:=by rw[<- er,dh,fN]
 have cX:Ext H bO:=nC▸Ext.app _ _;have aE:Ext bO b4:=er▸Ext.app _ _;have g20:au bO H.length 0=some o1:=nC▸cQ H 0 _
 have r5:au b4 (H.length+1) 0=some o1:=by rw[<- fN,<- er];exact cQ bO 0 _
 have Ub:=aUt kM.ayw base (A:=b4) (by omega)
 obtain⟨dZ,ju⟩:∃X,b4++[aM.map (oB (uu AK))]=X:=⟨_,rfl⟩;rw[ju]at Ub
 have fZ:dZ.length=H.length+3:=by rw[<- ju,dh,cW]
 have aU:Ext b4 dZ:=ju▸Ext.app _ _;have mL:Ext H dZ:=cX.trans (aE.trans aU)
 have hU:aL (aR ag) aN base (.region R1 [] Ia) (ax qi.ntmps (nA ([]++[.ref ρ 0 0]++[]) 0)) H=some (.bR,ax 76 [(0,.ref ρ 0 0),(2,.ref H.length 0 0)],bO):=by
  simp only[o1,cm]at nC;simp only[qi,simprocAttr,ke,aG,nC]
 have bP:aL (aR ag) aN base (.region RN [] []) (ax 76 [(0,.ref ρ 0 0),(2,.ref H.length 0 0)]) bO=some (.bR,ax 76 [(0,.ref ρ 0 0),(2,.ref H.length 0 0),(3,.ref (H.length+1) 0 0)],b4):=by
  simp only[o1,cm]at er;simp only[ke,simprocAttr,aG,er,fN]
 have ca:aL (aR ag) aN base (.region S7 [] [7]) (ax 76 [(0,.ref ρ 0 0),(2,.ref H.length 0 0),(3,.ref (H.length+1) 0 0)]) b4=some (.bR,ax 76 [(0,.ref ρ 0 0),(2,.ref H.length 0 0),(3,.ref (H.length+1) 0 0),(4,.mp (H.length+2))],dZ):=by
  rw[cW]at Ub;simp only[ke,simprocAttr,aG,Ub]
 obtain⟨mS,s1,s2⟩:=afl ck.R.now ck.R.second base (H:=dZ) (by omega) (h.ext mL) (fun _=>hB) ⟨#[61]⟩
 rw[VX]at s1;simp only[aA,ar]at s1;have mG:Ext H mS:=mL.trans s2;have aI:=h.ext mG
 have dw:∀c,mD (bt.of ao) [61] a=c->aL (aR ag) aN base (.region K1 [] [8]) (ax 76 [(0,.ref ρ 0 0),(2,.ref H.length 0 0),(3,.ref (H.length+1) 0 0),(4,.mp (H.length+2))]) dZ=some (.bR,ax 76 [(0,.ref ρ 0 0),(2,.ref H.length 0 0),(3,.ref (H.length+1) 0 0),(4,.mp (H.length+2)),(9,ar c)],mS):=by
  intro c ab;rw[ab]at s1;simp only[ar,simprocAttr,ke,aG,s1]
 have sd:=b7 r5 (aU.trans s2);have g23:=b7 g20 (aE.trans (aU.trans s2))
 have fin:∀{a7:ad} {r:List V} {y:bI},aL (aR ag) aN base qi.body (ax qi.ntmps (nA ([]++[.ref ρ 0 0]++[]) 0)) H=some (.ret,ax 76 [(2,.ref H.length 0 0)],a7)->au a7 H.length 0=some r->yQ (H.length+2) a7 r y->aR ag (.fn BJ [] []) [.ref ρ 0 0] base H=some (.agg r,a7):=by
  intro a7 r y aj a8 aX;obtain⟨a',lw,rfl,_,_⟩:=aX
  refine eF (c:=qi) (k:=1) kM.instr rfl (by decide) LB ?_
  rw[aj]
  have yT:iu a7 true 8 (.ref H.length 0 0)=some (.agg (bg y a' lw)):=by
   show fa _ true 8 _=_;rw[h1,a8];rfl
  simp only[qi,simprocAttr,aG];rw[yT];rfl
 unfold sR;by_cases tR:mD (bt.of ao) [61] a=true
 .rw[bE tR]
  have q:=aAE kM wf base ah aI (L:=H.length) (aT:=H.length) (aP:=H.length+1) (μ:=H.length+2) jk (cq _) (by omega) sd g23 tR
  have AE:=dw true tR;by_cases kn:(bt.of ao).same (a+2)=true
  .rw[bE kn]at q |-;obtain⟨bj,C,Ph,aT,a1,cB,gj,hA⟩:=q;have Ss:=a1.1;have apQ:=mG.le;have anV:=s2.le
   have kG:=aI.DA (aP:=H.length+1) (by omega) a1 cB bj
   have af:fM (H.length+1) (H.length+2) C { fE with d:=kL ((bt.of ao).text a) } cm cm:=⟨by omega,by omega,gj,c1.start _ _ _,c1.start _ _ _,fun id g n g' ek e=>by cases e⟩
   have Av:au C H.length 0=some o1:=a1.au g23 (iC g23) (by simp;omega)
   have Lj:aL (aR ag) aN base (.seq (.region K1 [] [8]) (.cond (.t 9) MQ .skip)) (ax 76 [(0,.ref ρ 0 0),(2,.ref H.length 0 0),(3,.ref (H.length+1) 0 0),(4,.mp (H.length+2))]) dZ=some (.bR,ax 76 [(0,.ref ρ 0 0),(2,.ref H.length 0 0),(3,.ref (H.length+1) 0 0),(4,.mp Ph)],C):=(e1 AE).trans aT
   have q:=aej kM wf base ah kG (L:=H.length) (aT:=H.length) (aP:=H.length+1) jk (cq _) (by omega) af Av aHq hA (fun e=>absurd e (wf.nm a h.lt vj)) eo j' (.inl rfl)
   have avv:aH H.length [ρ] H C:=aH.app (aH.gM mG) (aH.Jx (aH.low a1 apQ) (by omega))
   unfold eT;cases hi:uV (bt.of ao) N (kL ((bt.of ao).text a)) yG (a+2)with
   |error e=>
     rw[hi]at q;obtain⟨t1,a7,t2,t3⟩:=q
     exact⟨t1,a7,qH (c:=qi) (k:=1) rfl kM.instr rfl (by decide) LB rfl hU (dG bP (dG ca (dG Lj t2))),aH.app avv t3⟩
   |ok p=>
     obtain⟨y,c⟩:=p;rw[hi]at q;obtain⟨t1,r,a7,t2,t3,t4,t5,t6,t7⟩:=q
     exact⟨t1,.agg r,a7,fin ((e1 hU).trans ((e1 bP).trans ((e1 ca).trans ((e1 Lj).trans t2)))) t5 t7,aH.app avv t3,t4,r,rfl,t6,t7.low (by omega)⟩
  .rw[bV kn]at q |-;obtain⟨bj,C,aT,a1⟩:=q
   exact⟨bj,C,qH (c:=qi) (k:=1) rfl kM.instr rfl (by decide) LB rfl hU (dG bP (dG ca (kW (dG AE (sJ rfl aT))))),aH.app (aH.gM mG) (aH.Jx (aH.low a1 mG.le) (by omega))⟩
 .rw[bV tR];rw[sY]at tR;have AE:=dw false tR;have apQ:=mG.le;have anV:=s2.le
  have af:fM (H.length+1) (H.length+2) mS { fE with d:=⟨#[]⟩ } cm cm:=⟨by omega,by omega,sd,c1.start _ _ _,c1.start _ _ _,fun id g n g' ek e=>by cases e⟩
  have gD:mS[H.length+2]?=some (.map (oB (uu AK))):=by
   rw[s2.get (by omega),<- ju,<- cW];simp
  have Lj:aL (aR ag) aN base (.seq (.region K1 [] [8]) (.cond (.t 9) MQ .skip)) (ax 76 [(0,.ref ρ 0 0),(2,.ref H.length 0 0),(3,.ref (H.length+1) 0 0),(4,.mp (H.length+2))]) dZ=some (.bR,ax 76 [(0,.ref ρ 0 0),(2,.ref H.length 0 0),(3,.ref (H.length+1) 0 0),(4,.mp (H.length+2)),(9,ar false)],mS):=(e1 AE).trans rfl
  have q:=aej kM wf base ah aI (L:=H.length) (aT:=H.length) (aP:=H.length+1) jk (cq _) (by omega) af g23 aP5 gD (fun _=>hB) eo j' (.inr rfl)
  unfold eT;cases hi:uV (bt.of ao) N ⟨#[]⟩ AK a with
  |error e=>
    rw[hi]at q;obtain⟨t1,a7,t2,t3⟩:=q
    exact⟨t1,a7,qH (c:=qi) (k:=1) rfl kM.instr rfl (by decide) LB rfl hU (dG bP (dG ca (dG Lj t2))),aH.app (aH.gM mG) t3⟩
  |ok p=>
    obtain⟨y,c⟩:=p;rw[hi]at q;obtain⟨t1,r,a7,t2,t3,t4,t5,t6,t7⟩:=q
    exact⟨t1,.agg r,a7,fin ((e1 hU).trans ((e1 bP).trans ((e1 ca).trans ((e1 Lj).trans t2)))) t5 t7,aH.app (aH.gM mG) t3,t4,r,rfl,t6,t7.low (by omega)⟩
end
def se(K:Nat->Prop)(A B:ad):Prop:=∀id,K id->B[id]?=A[id]?
def yQ.rd{m:Nat}{H H':ad}{r:List V}{x:bI}(h:yQ m H r x)(an:∀id,m<=id->id<H.length->H'[id]?=H[id]?)(J:x.xs.length<2^63)(aa:x.ls.length<2^63):fc H' r x:=by
 obtain⟨a',lw,e,bw,a2⟩:=h;have k1:=Dg bw;have k2:=Dg a2
 have key:∀{v:V} {l:List V},p9 m H v l->p9 m H' v l:=fun h=>by
  rcases h with h|⟨id,g,c,rfl,aa,aI,bl,cO⟩
  .exact .inl h
  .refine .inr ⟨id,g,c,rfl,?_,aI,bl,cO⟩;unfold au at aa |-;rw[an id cO (iC aa)];exact aa
 exact⟨a',lw,e,(key k1).rd,(p9.NN (key k1)),(key k2).rd,(p9.NN (key k2)),J,aa⟩
structure FS (m:Nat) (K:Nat->Prop) (C:ad) (bv:V) (bs:List ey):Prop where
 k:∀id,K id->m<=id/\id<C.length/\∀g n,bv≠.aZ id g 0 n 2
 n:bs.length<2^21/\∀b∈bs,b.code.length<2^21
 rows:∃ma:List (List V),c1 m 2 C bv ma/\ma.length=bs.length/\∀(i:Nat) (b:ey),bs[i]?=some b->∃bA,ma[i]?=some [aA b.label,bA]/\bA.one=true/\
  (i+1<bs.length->∀H',se K C H'->fb 8 fc H' bA b.code)/\
  (i+1=bs.length->∃pz:List (List V),c1 m 8 C bA pz/\pz.length=b.code.length/\(∀id g n,bA=.aZ id g 0 n 8->¬K id/\∀g' ek,bv≠.aZ id g' 0 ek 2)/\∀(j:Nat) (x:bI),b.code[j]?=some x->∃r:List V,pz[j]?=some r/\∀H',se K C H'->fc H' r x)
def FS.start(m:Nat)(C:ad):FS m (fun _=>False) C cm []:=⟨fun _ h=>h.elim,⟨by decide,fun b h=>by simp at h⟩,[],c1.start _ _ _,rfl,fun i b h=>by simp at h⟩
def FS.cD{m:Nat}{K:Nat->Prop}{C a7:ad}{bv:V}{bs:List ey}(h:FS m K C bv bs)(an:∀id,m<=id->id<C.length->a7[id]?=C[id]?)(aq:C.length<=a7.length):FS m K a7 bv bs:=by
 obtain⟨ma,bc,dJ,fI⟩:=h.rows
 have CH:∀H',se K a7 H'->se K C H':=fun H' aO id hid=>by
  obtain⟨k1,k2,_⟩:=h.k id hid;rw[aO id hid,an id k1 k2]
 refine⟨fun id hid=>by obtain⟨k1,k2,eN⟩:=h.k id hid;exact⟨k1,by omega,eN⟩,h.n,ma,bc.cD fun id g n e=>?_,dJ,fun i b ah=>?_⟩
 .subst e;exact an id (iK bc) (bc.lt id g n rfl)
 .obtain⟨bA,cj,cZ,hN,lV⟩:=fI i b ah;refine⟨bA,cj,cZ,fun hi H' aO=>hN hi H' (CH H' aO),fun hi=>?_⟩;obtain⟨pz,bP,ca,dw,e'⟩:=lV hi;refine⟨pz,bP.cD fun id g n e=>?_,ca,dw,fun j x af=>?_⟩
  .subst e;exact an id (iK bP) (bP.lt id g n rfl)
  .obtain⟨r,s1,s2⟩:=e' j x af;exact⟨r,s1,fun H' aO=>s2 H' (CH H' aO)⟩
def aoD{m:Nat}{K:Nat->Prop}{C H':ad}{bA:V}{code:List bI}{pz:List (List V)}(J:c1 m 8 C bA pz)(aa:pz.length=code.length)(aJ:code.length<2^21)(aI:∀(j:Nat) (x:bI),code[j]?=some x->∃r:List V,pz[j]?=some r/\∀H',se K C H'->fc H' r x)(aO:se K C H')(ab:∀id g n,bA=.aZ id g 0 n 8->H'[id]?=C[id]?):fb 8 fc H' bA code:=by
 have av:c1 m 8 H' bA pz:=J.cD ab
 refine⟨pz,c1.rx av,aa,by omega,fun i x af=>?_⟩
 obtain⟨r,bP,ca⟩:=aI i x af;exact⟨r,bP,ca H' aO⟩
def FS.done{m:Nat}{K:Nat->Prop}{C:ad}{bv:V}{bs:List ey}(h:FS m K C bv bs){H':ad}(an:∀id,m<=id->id<C.length->H'[id]?=C[id]?):fb 2 lx H' bv bs:=by
 obtain⟨ma,bc,dJ,fI⟩:=h.rows
 have aO:se K C H':=fun id hid=>by obtain⟨k1,k2,_⟩:=h.k id hid;exact an id k1 k2
 have av:c1 m 2 H' bv ma:=bc.cD fun id g n e=>by subst e;exact an id (iK bc) (bc.lt id g n rfl)
 refine⟨ma,c1.rx av,dJ,by have:=h.n.1;omega,fun i b ah=>?_⟩
 obtain⟨bA,cj,cZ,hN,lV⟩:=fI i b ah;refine⟨_,cj,bA,rfl,?_⟩;have hi:=(dQ.1 ah).1;by_cases b8:i+1<bs.length
 .exact hN b8 H' aO
 .obtain⟨pz,bP,ca,dw,e'⟩:=lV (by omega)
  exact aoD bP ca (h.n.2 b (ib ah)) e' aO fun id g n e=>by subst e;exact an id (iK bP) (bP.lt id g n rfl)
def U'{m w:Nat}{H:ad}{v:V}{R:List (List V)}(h:c1 m w H v R){base bytes:Nat}(ah:base<=m)(hm:m<=H.length){r:List V}(ak:r.length=w)(aX:r.all V.one=true)(ai:(R.length+1)*bytes<=2^47):
 ∃id g n H',h5 (H++[.cells 0 r]) base w bytes v (.aZ H.length 0 0 1 w)=some (.aZ id g 0 n w,H')/\c1 m w H' (.aZ id g 0 n w) (R++[r])/\H.length<=H'.length/\(∀i,i<H.length->(∀g n,v≠.aZ i g 0 n w)->H'[i]?=H[i]?)/\((∃g n,v=.aZ id g 0 n w)\/H.length<=id):=by
 have J:c1 m w (H++[.cells 0 r]) v R:=h.cD fun id g n e=>bi (h.lt id g n e)
 have kg:elems (H++[aM.cells 0 r]) w (.aZ H.length 0 0 1 w)=some ([r].length,[r].flatten):=(lJ.aZ (R:=[r]) (by simpa using cQ H 0 r) (fun y bC=>by rw[eQ.1 bC];exact ak)).el
 have e2:[r].flatten=r:=by simp
 obtain⟨gx,H',bw,a2,a3,a4⟩:=J.append (base:=base) (bytes:=bytes) ah (by rw[dh];omega) (S:=[r]) (fun y bC=>by rw[eQ.1 bC];exact ak) (by simp) kg (by rw[e2];exact aX) ai
 rw[dh]at a3
 have aKW:∀i,i<H.length->(∀g n,v≠.aZ i g 0 n w)->H'[i]?=H[i]?:=fun i J aa=>by
  rw[a4 i (by rw[dh];omega) aa]
  exact bi J
 have av:∃id g n,gx=.aZ id g 0 n w:=by
  obtain⟨_,⟨e,_⟩|⟨id,g,e,_,k⟩⟩:=id a2
  .simp at e
  .exact⟨id,g,_,e⟩
 obtain⟨id,g,n,rfl⟩:=av
 refine⟨id,g,n,H',bw,a2,by omega,aKW,?_⟩
 rw[e2]at kg;have dr:[r].length=1:=rfl;rw[dr]at kg;have hh:=h
 obtain⟨_,⟨rfl,rfl⟩|⟨gw,g',rfl,ab,rh⟩⟩:=hh
 .right
  have hV:1*bytes<=2^47:=by simpa using ai
  simp only[h5,kg,aX,eW,cm,hV,F1,hp]at bw;obtain⟨aU,_⟩:=MO (kI bw);cases aU;rw[dh];omega
 .left
  have jV:base<=gw:=by omega
  have kN:=b7 ab (Ext.app H [aM.cells 0 r]);have aq:R.flatten.length=R.length*w:=Gm R h.1
  have aa:0+R.length*w<=R.flatten.length:=by omega
  simp only[h5,kg,aX,eW,wG,jV,kN,aa,F1,hp,ai,nR]at bw;obtain⟨aU,_⟩:=MO (kI bw);cases aU;exact⟨_,_,rfl⟩
def FS.aV9{m base:Nat}{K:Nat->Prop}{C:ad}{bv:V}{bs:List ey}(h:FS m K C bv bs)(ah:base<=m)(hm:m<=C.length)(gP:ByteArray)(aJ:bs.length+1<2^21):
 ∃id g n a7 K',h5 (C++[.cells 0 [aA gP,cm]]) base 2 40 bv (.aZ C.length 0 0 1 2)=some (.aZ id g 0 n 2,a7)/\FS m K' a7 (.aZ id g 0 n 2) (bs++[⟨gP,[]⟩])/\m<=id/\C.length<=a7.length/\∀i,i<m->a7[i]?=C[i]?:=by
 obtain⟨ma,bc,dJ,fI⟩:=h.rows
 obtain⟨id,g,n,a7,bw,a2,a3,a4,a5⟩:=U' bc (base:=base) (bytes:=40) ah hm (r:=[aA gP,cm]) rfl rfl (by rw[dJ];omega)
 have hid:m<=id:=iK a2
 have vd:∀i,i<m->a7[i]?=C[i]?:=fun i hi=>a4 i (by omega) fun g' ek e=>by
  subst e;have:=iK bc;omega
 obtain⟨K',aXU,y4,aPD⟩:∃K':Nat->Prop,(∀i,K i->K' i)/\(∀i,K' i->m<=i/\i<C.length/\∀g n,bv≠.aZ i g 0 n 2)/\∀(i:Nat) (b:ey),bs[i]?=some b->∃bA,ma[i]?=some [aA b.label,bA]/\bA.one=true/\∀H',se K' C H'->fb 8 fc H' bA b.code:=by
  by_cases bd:bs.length=0
  .exact⟨K,fun _ h=>h,h.k,fun i b ah=>by have:=(dQ.1 ah).1;omega⟩
  .obtain⟨b,eZ⟩:∃b,bs[bs.length-1]?=some b:=⟨_,eP (by omega)⟩
   obtain⟨bA,cj,cZ,hN,lV⟩:=fI _ b eZ
   obtain⟨pz,bP,ca,dw,e'⟩:=lV (by omega)
   refine⟨fun i=>K i\/∃g n,bA=.aZ i g 0 n 8,fun i h=>.inl h,fun i hi=>?_,fun i b' kj=>?_⟩
   .rcases hi with hi|⟨g',ek,rfl⟩
    .exact h.k i hi
    .exact⟨iK bP,bP.lt i g' ek rfl,(dw i g' ek rfl).2⟩
   .by_cases hi:i+1<bs.length
    .obtain⟨Td,aBX,Ky,aFA,_⟩:=fI i b' kj;exact⟨Td,aBX,Ky,fun H' aO=>aFA hi H' fun id hid=>aO id (.inl hid)⟩
    .have aXB:=(dQ.1 kj).1
     have ayP:i=bs.length-1:=by omega
     subst ayP;rw[eZ]at kj;cases kj;exact⟨bA,cj,cZ,fun H' aO=>aoD bP ca (h.n.2 b (ib eZ)) e' (fun id hid=>aO id (.inl hid)) fun id g n e=>aO id (.inr ⟨g,n,e⟩)⟩
 have CH:∀H',se K' a7 H'->se K' C H':=fun H' aO i hi=>by
  obtain⟨k1,k2,eN⟩:=y4 i hi;rw[aO i hi,a4 i k2 eN]
 refine⟨id,g,n,a7,K',bw,⟨fun i hi=>?_,⟨by rw[c0];exact aJ,fun b ah=>?_⟩,ma++[[aA gP,cm]],a2,by simp[dJ],fun i b ah=>?_⟩,hid,a3,vd⟩
 .obtain⟨k1,k2,eN⟩:=y4 i hi
  refine⟨k1,by omega,fun g' ek e=>?_⟩
  cases e
  rcases a5 with⟨g2,b5,e⟩|e
  .exact eN g2 b5 e
  .omega
 .rcases pu.1 ah with ah|ah
  .exact h.n.2 b ah
  .rw[eQ]at ah;subst ah;exact Nat.pos_of_ne_zero (by decide)
 .by_cases hi:i<bs.length
  .rw[bi hi]at ah;obtain⟨bA,cj,cZ,hN⟩:=aPD i b ah
   refine⟨bA,by rw[bi (by omega)];exact cj,cZ,fun _ H' aO=>hN H' (CH H' aO),fun he=>?_⟩
   rw[c0,jd]at he;omega
  .have pE:i=bs.length:=by
    have:=(dQ.1 ah).1;simp at this;omega
   subst pE;rw[jA (cq _),w3]at ah;cases ah
   refine⟨cm,by rw[jA (by omega),dJ,w3];rfl,rfl,fun he=>?_,fun _=>⟨[],c1.start _ _ _,rfl,fun id g n e=>(by cases e),fun j x af=>(by simp at af)⟩⟩
   rw[c0,jd]at he;omega
theorem Up(e0:List ey)(ar:ey)(x:bI):yy (e0++[ar]) x=e0++[{ ar with code:=ar.code++[x] }]:=by
 unfold yy;rw[List.dropLast_concat,ZA];rfl
def FS.yy{m base:Nat}{K:Nat->Prop}{C:ad}{bv:V}{e0:List ey}{ar:ey}(h:FS m K C bv (e0++[ar]))(ah:base<=m)(hm:m<=C.length):
 ∃ed g mh bA,bv=.aZ ed g 0 (e0.length+1) 2/\m<=ed/\au C ed g=some (mh++[aA ar.label,bA])/\mh.length=e0.length*2/\bA.one=true/\
   ∀(bG:ad) (r:List V) (x:bI) (BN:Nat->Prop),(∀id,m<=id->id<C.length->bG[id]?=C[id]?)->C.length<=bG.length->r.length=8->r.all V.one=true->(∀i,BN i->C.length<=i/\i<bG.length)->(∀H',(∀i,BN i->H'[i]?=bG[i]?)->fc H' r x)->ar.code.length+1<2^21->
     ∃id g' ek cx,h5 (bG++[.cells 0 r]) base 8 128 bA (.aZ bG.length 0 0 1 8)=some (.aZ id g' 0 ek 8,cx)/\au cx ed g=some (mh++[aA ar.label,bA])/\FS m (fun i=>K i\/BN i) (cx.set ed (.cells g (mh++[aA ar.label,.aZ id g' 0 ek 8]))) bv (Go.Proofs.YtngfpadeebpoeaaGreatDoor.gO.yy (e0++[ar]) x)/\bG.length<=cx.length/\(∀i,i<m->cx[i]?=bG[i]?)/\id≠ed/\∃c,au cx id g'=some (c++r):=by
 obtain⟨ma,bc,dJ,fI⟩:=h.rows
 have eZ:(e0++[ar])[e0.length]?=some ar:=by rw[jA (cq _),w3];rfl
 obtain⟨bA,cj,cZ,_,lV⟩:=fI e0.length ar eZ
 obtain⟨pz,bP,ca,dw,e'⟩:=lV (by simp)
 rw[c0,jd]at dJ
 have JY:ma=ma.take e0.length++[[aA ar.label,bA]]:=by
  have e:=By (l:=ma) (i:=e0.length);rw[cj]at e
  exact(Hk (l:=ma) (i:=e0.length+1) (by omega)).symm.trans e
 obtain⟨mh,aiH⟩:∃mh,ma.take e0.length=mh:=⟨_,rfl⟩;rw[aiH]at JY
 have Pg:mh.length=e0.length:=by rw[<- aiH,EP];omega
 have adG:∀r∈mh,r.length=2:=fun r ak=>bc.1 r (by rw[JY];exact qQ _ ak)
 have e2:mh.flatten.length=e0.length*2:=by rw[Gm mh adG,Pg]
 obtain⟨_,⟨e,_⟩|⟨ed,g,rfl,ab,QG⟩⟩:=id bc
 .rw[JY]at e;simp at e
 rw[dJ]at *
 have jZ:au C ed g=some (mh.flatten++[aA ar.label,bA]):=by
  rw[ab,JY,y8];simp
 refine⟨ed,g,mh.flatten,bA,rfl,QG,jZ,e2,cZ,fun bG r x BN an aq OX eR Xi aX aJ=>?_⟩
 have aVq:c1 m 8 bG bA pz:=bP.cD fun id g n e=>by subst e;exact an id (iK bP) (bP.lt id g n rfl)
 obtain⟨id,g',ek,cx,bw,a2,a3,a4,a5⟩:=U' aVq (base:=base) (bytes:=128) ah (by omega) OX eR (by rw[ca];omega)
 have aPk:ed<C.length:=iC jZ;have eS:∀g n,bA≠.aZ ed g 0 n 8:=fun g2 b5 e=>(dw ed g2 b5 e).2 g _ rfl
 have xG:cx[ed]?=C[ed]?:=by rw[a4 ed (by omega) eS,an ed QG aPk]
 have vd:∀i,i<m->cx[i]?=bG[i]?:=fun i hi=>a4 i (by omega) fun g2 b5 e=>by
  subst e;have:=iK bP;omega
 have RT:id≠ed:=fun e=>by
  rcases a5 with⟨g2,b5,aU⟩|aU
  .rw[e]at aU;exact eS g2 b5 aU
  .omega
 refine⟨id,g',ek,cx,bw,by unfold au at jZ |-;rw[xG];exact jZ,?_,a3,vd,RT,?_⟩
 rotate_left
 .obtain⟨_,⟨e,_⟩|⟨ni,g2,e,pQ,_⟩⟩:=a2
  .simp at e
  .cases e
   exact⟨pz.flatten,by rw[pQ,y8];simp⟩
 have Z9:∀i,(K i\/BN i)->m<=i/\i<bG.length/\i≠ed/\∀g n,bA≠.aZ i g 0 n 8:=by
  intro i hi
  rcases hi with hi|hi
  .obtain⟨k1,k2,eN⟩:=h.k i hi
   exact⟨k1,by omega,fun e=>by subst e;exact eN g _ rfl,fun g2 b5 e=>(dw i g2 b5 e).1 hi⟩
  .obtain⟨i1,i2⟩:=Xi i hi
   refine⟨by omega,i2,by omega,fun g2 b5 e=>?_⟩
   have:=bP.lt i g2 b5 e;omega
 obtain⟨gI,nc⟩:∃X,cx.set ed (aM.cells g (mh.flatten++[aA ar.label,.aZ id g' 0 ek 8]))=X:=⟨_,rfl⟩;rw[nc]
 have adQ:∀i,i≠ed->gI[i]?=cx[i]?:=fun i hi=>by rw[<- nc,cG (iV hi)]
 have aui:∀H',se (fun i=>K i\/BN i) gI H'->se (fun i=>K i\/BN i) bG H':=fun H' aO i hi=>by
  obtain⟨k1,k2,eN,j5⟩:=Z9 i hi;rw[aO i hi,adQ i eN,a4 i k2 j5]
 have CH:∀H',se (fun i=>K i\/BN i) gI H'->se K C H':=fun H' aO i hi=>by
  obtain⟨k1,k2,_⟩:=h.k i hi;rw[aui H' aO i (.inl hi),an i k1 k2]
 have Tj:gI.length=cx.length:=by rw[<- nc,fP]
 rw[Up];have ahh:mh++[[aA ar.label,V.aZ id g' 0 ek 8]]=mh++[[aA ar.label,V.aZ id g' 0 ek 8]]:=rfl
 refine⟨fun i hi=>?_,⟨by have:=h.n.1;simpa using this,fun b kj=>?_⟩,mh++[[aA ar.label,.aZ id g' 0 ek 8]],⟨fun r ak=>?_,.inr ⟨ed,g,by simp[Pg],?_,QG⟩⟩,by simp[Pg],fun i b kj=>?_⟩
 .obtain⟨k1,k2,eN,_⟩:=Z9 i hi
  exact⟨k1,by omega,fun g2 b5 e=>by cases e;exact eN rfl⟩
 .rcases pu.1 kj with kj | kj
  .exact h.n.2 b (qQ _ kj)
  .rw[eQ]at kj;subst kj;show(ar.code++[x]).length<_;rw[c0,jd];exact aJ
 .rcases pu.1 ak with ak|ak
  .exact adG r ak
  .rw[eQ]at ak;subst ak;rfl
 .rw[<- nc]
  have aOW:au cx ed g=some (mh.flatten++[aA ar.label,bA]):=by unfold au at jZ |-;rw[xG];exact jZ
  rw[fJ aOW,y8];simp
 .by_cases hi:i<e0.length
  .have km:(e0++[ar])[i]?=some b:=by
    rw[bi hi]at kj |-;exact kj
   obtain⟨Td,d1,d2,d3,_⟩:=fI i b km
   refine⟨Td,?_,d2,fun _ H' aO=>d3 (by simp;omega) H' (CH H' aO),fun he=>?_⟩
   .rw[bi (by omega)]
    rw[JY,bi (by omega)]at d1
    exact d1
   .simp at he;omega
  .have pE:i=e0.length:=by
    have:=(dQ.1 kj).1;simp at this;omega
   subst pE;rw[jA (cq _),w3]at kj;cases kj
   refine⟨.aZ id g' 0 ek 8,?_,rfl,fun he=>by simp at he,fun _=>⟨pz++[r],a2.cD fun ni g2 b5 e=>?_,by simp[ca],fun ni g2 b5 e=>?_,fun j y bC=>?_⟩⟩
   .rw[jA (by omega),Pg,w3];rfl
   .cases e;exact adQ id RT
   .cases e;refine⟨fun bk=>?_,fun g2 b5 e=>?_⟩
    .rcases a5 with⟨g2,b5,aU⟩|aU
     .rcases bk with bk|bk
      .exact(dw id g2 b5 aU).1 bk
      .have:=Xi id bk;have:=bP.lt id g2 b5 aU;omega
     .rcases bk with bk|bk
      .have:=(h.k id bk).2.1;omega
      .have:=Xi id bk;omega
    .cases e;exact RT rfl
   .by_cases bz:j<ar.code.length
    .have aII:ar.code[j]?=some y:=by
      rw[show({ ar with code:=ar.code++[x] }:ey).code=ar.code++[x]from rfl,bi bz]at bC;exact bC
     obtain⟨hU,t1,t2⟩:=e' j y aII
     exact⟨hU,by rw[bi (by omega)];exact t1,fun H' aO=>t2 H' (CH H' aO)⟩
    .have sZ:j=ar.code.length:=by
      have:=(dQ.1 bC).1;simp at this;omega
     subst sZ;rw[show({ ar with code:=ar.code++[x] }:ey).code=ar.code++[x]from rfl,jA (cq _),w3]at bC;cases bC
     refine⟨r,by rw[jA (by omega),ca,w3];rfl,fun H' aO=>aX H' fun i hi=>?_⟩
     exact aui H' aO i (.inr hi)
section
variable {V:bt}
def aSX:∀(n:Nat) {acc l:List ByteArray} {a b:Nat},lD V n acc a=.ok (l,b)->a<=b/\l.length+a<=acc.length+b:=by
 intro n
 induction n with
 |zero=>intro acc l a b h;cases h
 |succ n aF=>
   intro acc l a b h;unfold lD at h;split at h
   .cases h;omega
   .split at h
    .obtain⟨u,c,J,h⟩:=hy h;obtain⟨x,d,aa,h⟩:=hy h;have:=uS J;have:=nk aa;have q:=aF h;rw[c0,jd]at q;omega
    .obtain⟨x,d,aa,h⟩:=hy h;have:=nk aa;have q:=aF h;rw[c0,jd]at q;omega
def M9{N:Nat}{l:List ByteArray}{a b:Nat}(h:p' V N a=.ok (l,b)):a<b/\l.length<=b:=by
 unfold p' at h;obtain⟨u,c,J,h⟩:=hy h;obtain⟨s3,d,aa,h⟩:=hy h;obtain⟨u,e,aI,h⟩:=hy h;cases h;have:=uS J;have q:=aSX N aa;have:=uS aI;rw[eh]at q;omega
def aMG:∀(n:Nat) {ls xs:List ByteArray} {p:List ByteArray × List ByteArray} {a b:Nat},qE V n ls xs a=.ok (p,b)->a<=b/\p.1.length+a<=ls.length+b/\p.2.length+a<=xs.length+b:=by
 intro n
 induction n with
 |zero=>intro ls xs p a b h;cases h
 |succ n aF=>
   intro ls xs p a b h;unfold qE at h;obtain⟨l,c,J,h⟩:=hy h;obtain⟨u,d,aa,h⟩:=hy h;obtain⟨x,e,aI,h⟩:=hy h;have:=nk J;have:=uS aa;have:=nk aI;split at h
   .obtain⟨u,f,bl,h⟩:=hy h;have:=uS bl;have q:=aF h;rw[c0,c0,jd,jd]at q;omega
   .cases h;simp only[c0,jd];omega
def aNS{N o:Nat}{x y:bI}{a b:Nat}(h:BY V N o x a=.ok (y,b))(af:x.xs=[])(aq:x.ls=[]):a<=b/\y.xs.length<=b/\y.ls.length<=b:=by
 unfold BY at h;split at h
 .obtain⟨s,c,J,h⟩:=hy h;have:=W9 J;cases h;simp only[af,aq,eh];omega
 .obtain⟨s,c,J,h⟩:=hy h;have:=W9 J;cases h;simp only[af,aq,eh];omega
 .cases h;simp only[af,aq,eh];omega
 .obtain⟨s,c,J,h⟩:=hy h;have:=nk J;cases h;simp only[af,aq,eh];omega
 .obtain⟨s,c,J,h⟩:=hy h;have:=nk J;cases h;simp only[af,aq,eh];omega
 .obtain⟨s,c,J,h⟩:=hy h;have:=nk J;cases h;simp only[af,aq,eh];omega
 .obtain⟨s,c,J,h⟩:=hy h;obtain⟨p,d,aa,h⟩:=hy h;obtain⟨u,e,aI,h⟩:=hy h;have:=uS J;have q:=aMG N aa;have:=uS aI;cases h;rw[af,aq]at q;simp only[eh]at q |-;omega
 .obtain⟨s,c,J,h⟩:=hy h;obtain⟨n,d,aa,h⟩:=hy h;have:=nk J;have:=W9 aa;cases h;simp only[af,aq,eh];omega
 .obtain⟨s,c,J,h⟩:=hy h;obtain⟨u,d,aa,h⟩:=hy h;obtain⟨t,e,aI,h⟩:=hy h;have:=nk J;have:=uS aa;have:=nk aI;cases h;simp only[af,aq,eh];omega
 .obtain⟨s,c,J,h⟩:=hy h;obtain⟨l,d,aa,h⟩:=hy h;have:=nk J;have:=M9 aa;cases h;simp only[aq,eh];omega
 .obtain⟨s,c,J,h⟩:=hy h;obtain⟨l,d,aa,h⟩:=hy h;have:=nk J;have:=M9 aa;cases h;simp only[aq,eh];omega
 .obtain⟨s,c,J,h⟩:=hy h;obtain⟨t,d,aa,h⟩:=hy h;have:=nk J;have:=nk aa;cases h;simp only[af,eh,c3];omega
 .obtain⟨s,c,J,h⟩:=hy h;have:=nk J;cases h;simp only[af,eh,c3];omega
 .dsimp only at h;split at h
  .obtain⟨s,c,J,h⟩:=hy h;have:=nk J;cases h;simp only[af,aq,eh];omega
  .cases h;simp only[af,aq,eh];omega
 .cases h
def ab7{N:Nat}{d:ByteArray}{l:List (List UInt8 × Nat)}{y:bI}{a b:Nat}(h:uV V N d l a=.ok (y,b)):a<b/\y.xs.length<=b/\y.ls.length<=b:=by
 unfold uV at h;split at h
 .split at h<;>cases h
 .split at h
  .have:=aNS h rfl rfl;omega
  .cases h
def Zj{N:Nat}{y:bI}{a b:Nat}(h:sR V N a=.ok (y,b)):a<b/\y.xs.length<=b/\y.ls.length<=b:=by
 unfold sR at h;split at h
 .split at h
  .have:=ab7 h;omega
  .cases h
 .exact ab7 h
def ET(V:bt)(N:Nat)(nm:ByteArray)(ps:List ByteArray)(bs:List ey)(a:Nat):Except Nat (Sum (cT × Nat) (List ey × Nat)):=
 if ry V a=true then .error a
 else if(V.kind a==3&&V.text a==[125])=true then(if ry V (a+1)=true then .error (a+1)else .ok (.inl (⟨nm,ps,bs⟩,a+1)))
 else if mD V [58] a=true then .ok (.inr (bs++[⟨kL (V.text a),[]⟩],a+2))
 else if(V.kind a != 1||bs.length==0)=true then(if V.kind a=1 then .error (a+1)else .error a)
 else match sR V N a with
  |.error e=>.error e
  |.ok (x,b)=>.ok (.inr (yy bs x,b))
theorem Sw(N:Nat)(nm:ByteArray)(ps:List ByteArray)(n:Nat)(bs:List ey)(a:Nat):oR V N nm ps (n+1) bs a=match ET V N nm ps bs a with
 |.error e=>.error e
 |.ok (.inl (f,b))=>.ok (f,b)
 |.ok (.inr (lP,b))=>oR V N nm ps n lP b:=by
 unfold ET;rw[oR];by_cases J:ry V a=true
 .rw[bE J,bE J]
 rw[bV J,bV J];by_cases aa:(V.kind a==3&&V.text a==[125])=true
 .rw[bE aa,bE aa];by_cases aI:ry V (a+1)=true
  .rw[bE aI,bE aI]
  .rw[bV aI,bV aI]
 rw[bV aa,bV aa];by_cases aI:mD V [58] a=true
 .rw[bE aI,bE aI]
 rw[bV aI,bV aI]
 by_cases bl:(V.kind a != 1||bs.length==0)=true
 .rw[bE bl,bE bl];by_cases cO:V.kind a=1
  .rw[bE cO,bE cO]
  .rw[bV cO,bV cO]
 rw[bV bl,bV bl];unfold eA.bind;cases sR V N a with
 |error e=>rfl
 |ok p=>rfl
def aPx(N:Nat)(nm:ByteArray)(ps:List ByteArray):∀(n:Nat) {bs:List ey} {f:cT} {a b:Nat},oR V N nm ps n bs a=.ok (f,b)->a<b:=by
 intro n
 induction n with
 |zero=>intro bs f a b h;cases h
 |succ n aF=>
   intro bs f a b h;rw[Sw]at h;unfold ET at h;split at h
   .cases h
   .rename_i hk b' he;cases h;split at he
    .cases he
    split at he
    .split at he
     .cases he
     .cases he;omega
    split at he
    .cases he
    split at he
    .split at he<;>cases he
    split at he<;>cases he
   .rename_i lP b' he;have q:=aF h;split at he
    .cases he
    split at he
    .split at he<;>cases he
    split at he
    .cases he;omega
    split at he
    .split at he<;>cases he
    split at he
    .cases he
    .rename_i x c hi;cases he;have:=Zj hi;omega
def aOl{N:Nat}{f:cT}{a b:Nat}(h:lr V N a=.ok (f,b)):a<b/\f.ps.length<=b:=by
 unfold lr at h;obtain⟨nm,c,J,h⟩:=hy h;obtain⟨ps,d,aa,h⟩:=hy h;obtain⟨u,e,aI,h⟩:=hy h;have:=nk J;have:=M9 aa;have:=uS aI;have:=aPx N nm ps N h
 have ay:f.ps=ps:=by
  clear J aa aI
  have key:∀(n:Nat) {bs:List ey} {a:Nat},oR V N nm ps n bs a=.ok (f,b)->f.ps=ps:=by
   intro n
   induction n with
   |zero=>intro bs a h;cases h
   |succ n aF=>
     intro bs a h;rw[Sw]at h;unfold ET at h;split at h
     .cases h
     .rename_i hk b' he;cases h;split at he
      .cases he
      split at he
      .split at he
       .cases he
       .cases he;rfl
      split at he
      .cases he
      split at he
      .split at he<;>cases he
      split at he<;>cases he
     .exact aF h
  exact key N h
 rw[ay];omega
end
structure AJ (ag:Nat->Option cz):Prop where
 bL:H4 ag
 HW:ag A9=some (.code pF)
abbrev qI:List V:=[.s (.string ⟨#[]⟩),cm,cm]
section
variable {ag:Nat->Option cz} {ρ:Nat} {lv:V} {ao:List Tok.T} {a:Nat}
theorem ai3{call:c5}{it:hE}(base:Nat){D bX bU:ad}{ed g o:Nat}(aF7:base<=ed){hg:List V}{gP bA:V}{aT z:Nat}(wK:au D ed g=some (hg++[gP,bA]))(aX:hg.length=o){r:List V}(ak:r.length=8)(eR:r.all V.one=true)(ab:call (.fn BJ [] []) [.ref ρ 0 0] base D=some (.agg r,bX))(an:bX[ed]?=D[ed]?){w:V}(aO:h5 (bX++[.cells 0 r]) base 8 128 bA (.aZ bX.length 0 0 1 8)=some (w,bU))(Cv:bA.one=true)(hw:w.cells=[w])(Eh:w.one=true)(g2:au bU ed g=some (hg++[gP,bA])):
 aL call it base (.region u0 [(4,6)] [5,31,32,33,34,35,36,37,38,39,40,41]) (ax 101 [(0,.ref ρ 0 0),(2,.ref aT 0 0),(3,.ref z 0 0),(5,.ref ed g o)]) D=some (.bR,ax 101 [(0,.ref ρ 0 0),(2,.ref aT 0 0),(3,.ref z 0 0)],bU.set ed (.cells g (hg++[gP,w]))):=by
 obtain⟨kU,dX,fx,gy,ov,yU,Hi,E1,rfl⟩:∃kU dX fx gy ov yU Hi E1,r=[kU,dX,fx,gy,ov,yU,Hi,E1]:=by
  match r,ak with
  | [kU,dX,fx,gy,ov,yU,Hi,E1],_=>exact⟨_,_,_,_,_,_,_,_,rfl⟩
 have iY:(hg++[gP,bA]).drop (o+1)=[bA]:=by
  rw[<- aX,JU,BR (by omega)]
  simp
 have nq:(hg++[gP,bA]).take (o+1)=hg++[gP]:=by
  rw[<- aX,Wb,Hk (by omega)]
  simp
 have aC5:(hg++[gP,bA]).drop (o+1+1)=[]:=by
  apply BR;rw[c0,aX];simp
 have gU:cI call base (u0.take 6) (ax 101 [(0,.ref ρ 0 0),(2,.ref aT 0 0),(3,.ref z 0 0),(5,.ref ed g o)]) D=some (ax 101 [(0,.ref ρ 0 0),(2,.ref aT 0 0),(3,.ref z 0 0),(5,.ref ed g o),(31,.ref ed g o),(32,.ref ed g o),(33,.ref ed g o),(34,.ref ed g (o+1)),(35,bA),(36,.ref ρ 0 0)],D):=by
  simp only[u0,simprocAttr,dK,dj,aG,wK,iY,dK,dj]
  try rfl
 have ck:cI call base [⟨some 37,(.call (.c (.fn BJ [] [])) [(.t 36)]),none⟩] (ax 101 [(0,.ref ρ 0 0),(2,.ref aT 0 0),(3,.ref z 0 0),(5,.ref ed g o),(31,.ref ed g o),(32,.ref ed g o),(33,.ref ed g o),(34,.ref ed g (o+1)),(35,bA),(36,.ref ρ 0 0)]) D=some (ax 101 [(0,.ref ρ 0 0),(2,.ref aT 0 0),(3,.ref z 0 0),(5,.ref ed g o),(31,.ref ed g o),(32,.ref ed g o),(33,.ref ed g o),(34,.ref ed g (o+1)),(35,bA),(36,.ref ρ 0 0),(37,.agg [kU,dX,fx,gy,ov,yU,Hi,E1])],bX):=by
  simp only[aG,simprocAttr,ab]
  try rfl
 have aD:∃aW,cI call base (u0.drop 7) (ax 101 [(0,.ref ρ 0 0),(2,.ref aT 0 0),(3,.ref z 0 0),(5,.ref ed g o),(31,.ref ed g o),(32,.ref ed g o),(33,.ref ed g o),(34,.ref ed g (o+1)),(35,bA),(36,.ref ρ 0 0),(37,.agg [kU,dX,fx,gy,ov,yU,Hi,E1])]) bX=some (ax 101 ([(0,.ref ρ 0 0),(2,.ref aT 0 0),(3,.ref z 0 0),(5,.ref ed g o),(31,.ref ed g o),(32,.ref ed g o),(33,.ref ed g o),(34,.ref ed g (o+1)),(35,bA),(36,.ref ρ 0 0),(37,.agg [kU,dX,fx,gy,ov,yU,Hi,E1])]++aW),bU.set ed (.cells g (hg++[gP,w])))/\aW=[(38,.aZ bX.length 0 0 1 8),(39,w),(40,.ref ed g o),(41,.ref ed g (o+1))]:=by
  refine⟨_,?_,rfl⟩;have Kf:=eR;simp only[pq,qo,kw]at Kf
  have dn:o+1+1<=(hg++[gP,bA]).length:=by rw[c0,aX];simp
  have aXn:(hg++[gP])++([w]++[])=hg++[gP,w]:=by simp
  simp only[u0,simprocAttr,u3,nR,aG,aO,hw,Eh,g2,aF7,Kf,nq,aC5,dn]
  rw[show hg++[gP]++[w]=hg++[gP,w] by simp]
 obtain⟨aW,aD,rfl⟩:=aD;have ak:u0=u0.take 6++(⟨some 37,(.call (.c (.fn BJ [] [])) [(.t 36)]),none⟩:bx)::u0.drop 7:=rfl;rw[ak];refine(NJ gU ck aD rfl fun p ay=>?_).trans ?_
 .rw[eQ]at ay;subst ay;refine⟨rfl,some ed,rfl,fun id e=>?_⟩;cases e;exact an
 .simp only[du,simprocAttr,dB,aG]
  try rfl
set_option maxHeartbeats 1000000 in
def Rs(iR:AJ ag)(wf:jP ao)(base:Nat)(ah:base<=ρ){C:ad}(h:cy ρ lv ao C a){aT z L:Nat}(abj:ρ<aT)(aeB:aT<z)(K9:z<L)(g2:au C aT 0=some qI){nm:ByteArray}{ps:List ByteArray}{pv bv:V}(yC:au C z 0=some [aA nm,pv,bv])(uN:pv.one=true){K:Nat->Prop}{bs:List ey}(rr:FS L K C bv bs)(lp:L<=C.length)(gU:bs.length<=a/\∀b∈bs,b.code.length<=a){N:Nat}(eo:ao.length<N)(j':N<2^21):
 match ET (bt.of ao) N nm ps bs a with
  |.error e=>e<ao.length/\∃a7,gg (aR ag) (ns ag) aN base (fun _ _=>True) A0 (ax 101 [(0,.ref ρ 0 0),(2,.ref aT 0 0),(3,.ref z 0 0)]) C (qx,.agg (dA (ao.getD e ef)),a7)/\aH L [ρ,z] C a7
  |.ok (.inl (f,b))=>b<ao.length/\f=⟨nm,ps,bs⟩/\∃a7 D,aL (aR ag) aN base A0 (ax 101 [(0,.ref ρ 0 0),(2,.ref aT 0 0),(3,.ref z 0 0)]) C=some (.ret,ax 101 [(2,.ref aT 0 0)],a7)/\a7=D.set aT (.cells 0 [aA nm,pv,bv])/\aH L [ρ,z] C D/\au a7 ρ 0=some [lv,U b]/\au a7 aT 0=some [aA nm,pv,bv]/\FS L K a7 bv bs
  |.ok (.inr (lP,b))=>b<ao.length/\a<b/\(lP.length<=b/\∀x∈lP,x.code.length<=b)/\∃B' K' a7,aL (aR ag) aN base A0 (ax 101 [(0,.ref ρ 0 0),(2,.ref aT 0 0),(3,.ref z 0 0)]) C=some (.bR,ax 101 [(0,.ref ρ 0 0),(2,.ref aT 0 0),(3,.ref z 0 0)],a7)/\aH L [ρ,z] C a7/\au a7 ρ 0=some [lv,U b]/\au a7 z 0=some [aA nm,pv,B']/\FS L K' a7 B' lP/\∃id g n,B'=.aZ id g 0 n 2/\L<=id:=by
 have ck:=iR.bL.O;have UU:(⟨#[58]⟩:ByteArray).data.toList=[58]:=rfl
 have xJ:base<=L:=by omega
 have gr:base<=C.length:=by omega
 have aJ:=h.n
 have aMf:base<=z:=by omega
 have km:base<=aT:=by omega
 have alk:z<C.length:=by omega
 obtain⟨t,aY⟩:∃t,ao.getD a ef=t:=⟨_,rfl⟩
 have xU:(bt.of ao).text a=t.text:=by rw[<- aY];rfl
 have nq:(bt.of ao).kind a=t.kind:=by rw[<- aY];rfl
 have q:=ZL ck.R base ah h;unfold Oz at q;unfold ET;by_cases acR:ry (bt.of ao) a=true
 .rw[bE acR]at q |-;obtain⟨bj,D,oW,a1⟩:=q;refine⟨bj,D,kW (jH (it':=aN) (pre:=aa0) (post:=[]) (.bQ []) rfl rfl oW ?_),aH.two (aH.low a1 lp)⟩;simp only[ki,simprocAttr,aG,hs]
 rw[bV acR]at q |-;obtain⟨_,_,D,fe,eI,jQ,rfl⟩:=q;have d':=h.cD eI jQ h.lt
 have e':aL (aR ag) aN base (.region XB [] [20,21]) (ax 101 [(0,.ref ρ 0 0),(2,.ref aT 0 0),(3,.ref z 0 0)]) C=some (.bR,ax 101 [(0,.ref ρ 0 0),(2,.ref aT 0 0),(3,.ref z 0 0)],D):=by
  simp only[ki,simprocAttr,aG,fe]
 have NU:=eI.1
 obtain⟨bX,cC,b5⟩:=qe ck.R.now base (H:=D) (by omega) d'
 rw[aY]at cC;have aYn:=b5.le;obtain⟨bU,iz⟩:∃X,bX++[aM.cells 0 (dA t)]=X:=⟨_,rfl⟩;have Px:Ext bX bU:=iz▸Ext.app _ _
 have aXK:bU.length=bX.length+1:=by rw[<- iz,dh]
 have cg:∀c,au (bX++[aM.cells 0 c]) bX.length 0=some c:=fun c=>cQ bX 0 c;have dE:∀c e,(bX++[c]).set bX.length e=bX++[e]:=fun c e=>iI bX c e
 have NW:base<=bX.length:=by omega
 have g4:au bU bX.length 0=some (dA t):=iz▸cQ bX 0 _
 have jq:aL (aR ag) aN base (.region SN [] [22,23]) (ax 101 [(0,.ref ρ 0 0),(2,.ref aT 0 0),(3,.ref z 0 0)]) D=some (.bR,ax 101 [(0,.ref ρ 0 0),(2,.ref aT 0 0),(3,.ref z 0 0),(4,.ref bX.length 0 0)],bU):=by
  simp only[dA]at cC iz;simp only[ki,simprocAttr,aG,cC,cg,dE,NW,iz]
 have Ep:aH C.length [ρ] C bU:=aH.then' eI (aH.gM (b5.trans Px))
 have aa:=d'.ext (b5.trans Px);have aYz:aH L [ρ,z] C bU:=aH.two (aH.low Ep lp)
 have aHU:au bU z 0=some [aA nm,pv,bv]:=Ep.au yC alk (by rw[eQ];omega)
 have aXQ:FS L K bU bv bs:=rr.cD (fun id i1 i2=>Ep.2 id i2 (by rw[eQ];omega)) Ep.1
 have azv:=Ep.1;simp only[dA]at g4
 have VK:bv.one=true:=by obtain⟨ma,bc,_⟩:=rr.rows;exact bc.rd.one
 by_cases fk:((bt.of ao).kind a==3&&(bt.of ao).text a==[125])=true
 .
  rw[bE fk];rw[nq,xU,dR,lc]at fk
  have k1:(((t.kind:Nat):Int)==3)=true:=by rw[fk.1];rfl
  have k2:=fk.2
  have lQ:aL (aR ag) aN base (.bh LF [43,44,45,46,47,48,49,50] [42]) (ax 101 [(0,.ref ρ 0 0),(2,.ref aT 0 0),(3,.ref z 0 0),(4,.ref bX.length 0 0)]) bU=some (.bR,ax 101 [(0,.ref ρ 0 0),(2,.ref aT 0 0),(3,.ref z 0 0),(4,.ref bX.length 0 0),(42,ar true)],bU):=by
   simp only[ar,simprocAttr,ki,aG,g4,k1,k2]
  have hB:a+1<ao.length:=wf.pn a h.lt (by rw[aY,fk.1];decide)
  have vy:=aa.g;obtain⟨dq,iA⟩:∃X,bU.set ρ (.cells 0 [lv,U (a+1:Nat)])=X:=⟨_,rfl⟩
  have bc:IntKind.i64.wrap ((a:Int)+1)=((a+1:Nat):Int):=jB (by omega)
  have g3:au dq ρ 0=some [lv,U (a+1:Nat)]:=iA▸fJ vy _;have hQ:aH C.length [ρ] C dq:=iA▸aH.BU Ep _;have aI:=h.cD hQ g3 hB
  have sF:aL (aR ag) aN base (.region TT [] [4,42,51,52,53,54,55,56,57]) (ax 101 [(0,.ref ρ 0 0),(2,.ref aT 0 0),(3,.ref z 0 0),(4,.ref bX.length 0 0),(42,ar true)]) bU=some (.bR,ax 101 [(0,.ref ρ 0 0),(2,.ref aT 0 0),(3,.ref z 0 0)],dq):=by
   simp only[U]at vy iA;simp only[ar,simprocAttr,ki,aG,vy,bc,ah,iA]
  have q:=ZL ck.R base ah aI;unfold Oz at q;by_cases alg:ry (bt.of ao) (a+1)=true
  .rw[bE alg]at q |-;obtain⟨bj,E,oW,a1⟩:=q
   refine⟨bj,E,dG e' (dG jq (dG lQ (sJ rfl (dG sF (kW (jH (it':=aN) (pre:=aiB) (post:=[]) (.bQ []) rfl rfl oW ?_)))))),aH.two (aH.app (aH.low hQ lp) (aH.low a1 (by have:=hQ.1;omega)))⟩
   simp only[ki,simprocAttr,aG,hs]
  .rw[bV alg]at q |-;obtain⟨_,_,E,cj,cZ,hN,rfl⟩:=q
   have yd:aH C.length [ρ] C E:=aH.then' hQ cZ
   have JH:aL (aR ag) aN base (.region XP [] [0,58,59]) (ax 101 [(0,.ref ρ 0 0),(2,.ref aT 0 0),(3,.ref z 0 0)]) dq=some (.bR,ax 101 [(2,.ref aT 0 0),(3,.ref z 0 0)],E):=by
    simp only[ki,simprocAttr,aG,cj]
   have K7:au E z 0=some [aA nm,pv,bv]:=yd.au yC alk (by rw[eQ];omega)
   have R0:au E aT 0=some qI:=yd.au g2 (by omega) (by rw[eQ];omega)
   have atG:fa E true 3 (.ref z 0 0)=some (.agg [aA nm,pv,bv]):=by rw[h1,K7];rfl
   obtain⟨F,C2⟩:∃X,E.set aT (.cells 0 [aA nm,pv,bv])=X:=⟨_,rfl⟩
   have aUv:aL (aR ag) aN base (.seq (.region Xy [] [3,60]) .ret) (ax 101 [(2,.ref aT 0 0),(3,.ref z 0 0)]) E=some (.ret,ax 101 [(2,.ref aT 0 0)],F):=by
    simp only[aA,qI]at atG R0 C2;simp only[ki,simprocAttr,aG,atG,R0,km,uN,VK,eG,C2]
   have aLH:FS L K E bv bs:=rr.cD (fun id i1 i2=>yd.2 id i2 (by rw[eQ];omega)) yd.1
   refine⟨hB,rfl,F,E,?_,C2.symm,aH.two (aH.low yd lp),?_,C2▸fJ R0 _,?_⟩
   .exact Wg ((e1 e').trans ((e1 jq).trans (Wg ((e1 lQ).trans ((Qc rfl).trans ((e1 sF).trans ((e1 JH).trans aUv)))))))
   .unfold au at hN |-
    rw[<- C2,cG (by omega)]
    exact hN
   .exact aLH.cD (fun id i1 i2=>by rw[<- C2,cG (by omega)]) (by rw[<- C2,fP];exact cq _)
 rw[bV fk]
 have lQ:aL (aR ag) aN base (.bh LF [43,44,45,46,47,48,49,50] [42]) (ax 101 [(0,.ref ρ 0 0),(2,.ref aT 0 0),(3,.ref z 0 0),(4,.ref bX.length 0 0)]) bU=some (.bR,ax 101 [(0,.ref ρ 0 0),(2,.ref aT 0 0),(3,.ref z 0 0),(4,.ref bX.length 0 0),(42,ar false)],bU):=by
  rw[sY,nq,xU]at fk;by_cases aI:t.kind=3
  .have k1:(((t.kind:Nat):Int)==3)=true:=by rw[aI];rfl
   rw[aI]at fk
   have k2:(t.text==[125])=false:=by simpa using fk
   simp only[ar,simprocAttr,ki,aG,g4,k1,k2]
  .have k1:(((t.kind:Nat):Int)==3)=false:=by rw[kp];omega
   simp only[ar,simprocAttr,ki,aG,g4,k1]
 obtain⟨dq,s1,s2⟩:=afl ck.R.now ck.R.second base (H:=bU) (by omega) aa (fun e=>wf.pn a h.lt (by rw[e];decide)) ⟨#[58]⟩
 rw[UU]at s1;simp only[aA,ar]at s1
 have hQ:aH C.length [ρ] C dq:=aH.then' Ep (aH.gM s2)
 have aI:=aa.ext s2;have G':=b7 g4 s2;have ll:=b7 aHU s2
 have Mu:FS L K dq bv bs:=rr.cD (fun id i1 i2=>hQ.2 id i2 (by rw[eQ];omega)) hQ.1
 have Tj:=hQ.1;have FR:aH L [ρ,z] C dq:=aH.two (aH.low hQ lp)
 have zf:∀c,mD (bt.of ao) [58] a=c->aL (aR ag) aN base (.region Xn [] [42,62,63]) (ax 101 [(0,.ref ρ 0 0),(2,.ref aT 0 0),(3,.ref z 0 0),(4,.ref bX.length 0 0),(42,ar false)]) bU=some (.bR,ax 101 [(0,.ref ρ 0 0),(2,.ref aT 0 0),(3,.ref z 0 0),(4,.ref bX.length 0 0),(61,ar c)],dq):=by
  intro c ab;rw[ab]at s1;simp only[ar,simprocAttr,ki,aG,s1]
 by_cases tR:mD (bt.of ao) [58] a=true
 .
  rw[bE tR];have NC:=tR;unfold mD at NC;rw[dR,dR,dR,lc,lc]at NC
  have hB:a+1<ao.length:=wf.pn a h.lt (by rw[show(ao.getD a ef).kind=1 from NC.1];decide)
  have zE:a+2<ao.length:=wf.pn (a+1) hB (by rw[show(ao.getD (a+1) ef).kind=3 from NC.2.1.1];decide)
  obtain⟨id,g,n,E,K',bw,a2,a3,a4,a5⟩:=Mu.aV9 xJ (by omega) (kL t.text) (by omega)
  obtain⟨nu,rD⟩:∃X,E.set z (.cells 0 [aA nm,pv,.aZ id g 0 n 2])=X:=⟨_,rfl⟩
  have K7:au E z 0=some [aA nm,pv,bv]:=by
   unfold au at ll |-;rw[a5 z K9];exact ll
  have aYm:=fun c=>b7 ll (Ext.app dq [c])
  have vz:aL (aR ag) aN base (.region UB [] [4,61,64,65,66,67,68,69,70,71]) (ax 101 [(0,.ref ρ 0 0),(2,.ref aT 0 0),(3,.ref z 0 0),(4,.ref bX.length 0 0),(61,ar true)]) dq=some (.bR,ax 101 [(0,.ref ρ 0 0),(2,.ref aT 0 0),(3,.ref z 0 0)],nu):=by
   simp only[aA,kL,cm]at ll bw K7 rD;simp only[ar,simprocAttr,ki,aG,ll,G',bw,K7,aMf,rD]
  have X3:au nu ρ 0=some [lv,U a]:=by
   have:=aI.g;unfold au at this |-
   rw[<- rD,cG (by omega),a5 ρ (by omega)]
   exact this
  obtain⟨mL,lE⟩:∃X,nu.set ρ (.cells 0 [lv,U (a+2:Nat)])=X:=⟨_,rfl⟩
  have bc:IntKind.i64.wrap ((a:Int)+2)=((a+2:Nat):Int):=by rw[IntKind.wrap_i64];omega
  have aMU:aL (aR ag) aN base (.region Ul [] [72,73,74,75,76,77,78]) (ax 101 [(0,.ref ρ 0 0),(2,.ref aT 0 0),(3,.ref z 0 0)]) nu=some (.bR,ax 101 [(0,.ref ρ 0 0),(2,.ref aT 0 0),(3,.ref z 0 0)],mL):=by
   simp only[U]at X3 lE;simp only[ki,simprocAttr,aG,X3,bc,ah,lE]
  have aXj:mL.length=E.length:=by rw[<- lE,fP,<- rD,fP]
  have ae0:∀i,i≠ρ->i≠z->mL[i]?=E[i]?:=fun i J aa=>by rw[<- lE,cG (iV J),<- rD,cG (iV aa)]
  rw[xU]
  refine⟨zE,by omega,⟨by rw[c0,jd];omega,fun x af=>?_⟩,_,K',mL,?_,⟨by have:=FR.1;omega,fun i i1 i2=>?_⟩,lE▸fJ X3 _,?_,a2.cD (fun i i1 i2=>ae0 i (by omega) (by omega)) (by omega),id,g,n,rfl,a3⟩
  .rcases pu.1 af with af|af
   .have:=gU.2 x af;omega
   .rw[eQ]at af;subst af;exact gY _
  .exact AO ((e1 e').trans ((e1 jq).trans (AO ((e1 lQ).trans ((Ml rfl).trans ((e1 (zf true tR)).trans ((Qc rfl).trans ((e1 vz).trans aMU))))))))
  .simp at i2;rw[ae0 i i2.1 i2.2,a5 i i1]
   exact FR.2 i i1 (by simp;exact i2)
  .have:au nu z 0=some [aA nm,pv,.aZ id g 0 n 2]:=rD▸fJ K7 _;unfold au at this |-
   rw[<- lE,cG (by omega)]
   exact this
 rw[bV tR];rw[sY]at tR;have Ns:=zf false tR
 have IL:oc dq .s bv=some (.s (.int .i64 bs.length)):=by
  obtain⟨ma,bc,dJ,_⟩:=Mu.rows;rw[bc.rd.len,dJ]
 by_cases oL:((bt.of ao).kind a != 1||bs.length==0)=true
 .
  rw[bE oL];rw[nq]at oL |-
  have sx:aL (aR ag) aN base (.bh Qf [61,80,81,82,83,84,85,86,87,88] [79]) (ax 101 [(0,.ref ρ 0 0),(2,.ref aT 0 0),(3,.ref z 0 0),(4,.ref bX.length 0 0),(61,ar false)]) dq=some (.bR,ax 101 [(0,.ref ρ 0 0),(2,.ref aT 0 0),(3,.ref z 0 0),(4,.ref bX.length 0 0),(79,ar true)],dq):=by
   simp only[aA]at ll;by_cases J:t.kind=1
   .have k1:(((t.kind:Nat):Int) != 1)=false:=by rw[J];rfl
    rw[J]at oL
    have k2:bs.length=0:=by simpa using oL
    have eN:(((bs.length:Nat):Int)==0)=true:=by rw[k2];rfl
    simp only[ar,simprocAttr,ki,aG,G',ll,IL,k1,eN]
   .have k1:(((t.kind:Nat):Int) != 1)=true:=by rw[mw];omega
    simp only[ar,simprocAttr,ki,aG,G',ll,IL,k1]
  by_cases J:t.kind=1
  .rw[bE J]
   have hB:a+1<ao.length:=wf.pn a h.lt (by rw[aY,J];decide)
   have k1:(((t.kind:Nat):Int)==1)=true:=by rw[J];rfl
   have vy:=aI.g;obtain⟨E,bp⟩:∃X,dq.set ρ (.cells 0 [lv,U (a+1:Nat)])=X:=⟨_,rfl⟩
   have bc:IntKind.i64.wrap ((a:Int)+1)=((a+1:Nat):Int):=jB (by omega)
   have yd:aH C.length [ρ] C E:=bp▸aH.BU hQ _;have aUa:=h.cD yd (bp▸fJ vy _) hB
   have SQ:aL (aR ag) aN base (.seq (.bh MC [4,79,89,90] [91]) (.cond (.t 91) (.region Ma [] [91,92,93,94,95,96,97,98]) .skip)) (ax 101 [(0,.ref ρ 0 0),(2,.ref aT 0 0),(3,.ref z 0 0),(4,.ref bX.length 0 0),(79,ar true)]) dq=some (.bR,ax 101 [(0,.ref ρ 0 0),(2,.ref aT 0 0),(3,.ref z 0 0)],E):=by
    simp only[U]at vy bp;simp only[ar,simprocAttr,ki,aG,G',k1,vy,bc,ah,bp]
   obtain⟨F,f1,f2⟩:=yg ck.R.now base (H:=E) (by have:=yd.1;omega) aUa
   refine⟨hB,F,dG e' (dG jq (dG lQ (Dy rfl (dG Ns (Dy rfl (dG sx (sJ rfl (dG SQ (jH (it':=aN) (pre:=QT) (post:=[]) (.bQ []) rfl rfl f1 ?_))))))))),aH.two (aH.app (aH.low yd lp) (aH.low (aH.gM f2) (by have:=yd.1;omega)))⟩
   simp only[ki,simprocAttr,aG,hs]
  .rw[bV J]
   have k1:(((t.kind:Nat):Int)==1)=false:=by rw[kp];omega
   have SQ:aL (aR ag) aN base (.seq (.bh MC [4,79,89,90] [91]) (.cond (.t 91) (.region Ma [] [91,92,93,94,95,96,97,98]) .skip)) (ax 101 [(0,.ref ρ 0 0),(2,.ref aT 0 0),(3,.ref z 0 0),(4,.ref bX.length 0 0),(79,ar true)]) dq=some (.bR,ax 101 [(0,.ref ρ 0 0),(2,.ref aT 0 0),(3,.ref z 0 0),(91,ar false)],dq):=by
    simp only[ar,simprocAttr,ki,aG,G',k1]
   obtain⟨F,f1,f2⟩:=yg ck.R.now base (H:=dq) (by omega) aI
   refine⟨h.lt,F,dG e' (dG jq (dG lQ (Dy rfl (dG Ns (Dy rfl (dG sx (sJ rfl (dG SQ (jH (it':=aN) (pre:=QT) (post:=[]) (.bQ []) rfl rfl f1 ?_))))))))),aH.two (aH.app (aH.low hQ lp) (aH.low (aH.gM f2) (by omega)))⟩
   simp only[ar,simprocAttr,ki,aG,hs]
 rw[bV oL];rw[nq,sY,nS]at oL
 have vj:t.kind=1:=by simpa using oL.1
 have nr:bs≠[]:=by
  intro e;have:=oL.2;rw[e]at this;cases this
 have k1:(((t.kind:Nat):Int) != 1)=false:=by rw[vj];rfl
 have eN:(((bs.length:Nat):Int)==0)=false:=by
  rw[kp];have:bs.length≠0:=fun e=>nr (lX e);omega
 obtain⟨e0,G4,zR⟩:∃e0 x,bs=e0++[x]:=⟨bs.dropLast,bs.getLast nr,(List.dropLast_concat_getLast nr).symm⟩
 have sx:aL (aR ag) aN base (.bh Qf [61,80,81,82,83,84,85,86,87,88] [79]) (ax 101 [(0,.ref ρ 0 0),(2,.ref aT 0 0),(3,.ref z 0 0),(4,.ref bX.length 0 0),(61,ar false)]) dq=some (.bR,ax 101 [(0,.ref ρ 0 0),(2,.ref aT 0 0),(3,.ref z 0 0),(4,.ref bX.length 0 0),(79,ar false)],dq):=by
  simp only[aA]at ll;simp only[ar,simprocAttr,ki,aG,G',ll,IL,k1,eN]
 rw[zR]at Mu
 obtain⟨ed,g,mh,bA,qG,i1,i2,i3,i4,i5⟩:=Mu.yy (base:=base) xJ (by omega)
 have aPs:bs.length=e0.length+1:=by rw[zR,c0,jd]
 have ahi:G4.code.length<=a:=gU.2 G4 (by rw[zR];simp)
 have NG:aL (aR ag) aN base (.bh Wy [4,24,25,26,27,28,29,30,79] [5]) (ax 101 [(0,.ref ρ 0 0),(2,.ref aT 0 0),(3,.ref z 0 0),(4,.ref bX.length 0 0),(79,ar false)]) dq=some (.bR,ax 101 [(0,.ref ρ 0 0),(2,.ref aT 0 0),(3,.ref z 0 0),(5,.ref ed g (e0.length*2))],dq):=by
  have bc:IntKind.i64.wrap (((e0.length+1:Nat):Int)-1)=((e0.length:Nat):Int):=by rw[IntKind.wrap_i64];have:=gU.1;omega
  have azG:kB 2 (.aZ ed g 0 (e0.length+1) 2) (.s (.int .i64 (e0.length:Nat)))=some (.ref ed g (e0.length*2)):=by
   rw[JJ,bE ⟨by omega,by omega,rfl⟩,s7,mx]
  rw[aPs]at IL;subst qG;simp only[aA]at ll;simp only[ar,simprocAttr,ki,aG,ll,IL,bc,azG]
 have q:=aAV iR.bL wf base ah aI (by rw[nq];exact vj) eo j'
 unfold eT at q;cases hi:sR (bt.of ao) N a with
 |error e=>
   rw[hi]at q;obtain⟨bj,E,oW,a1⟩:=q
   have ai1:(o1).all V.one=true:=by decide
   obtain⟨w,r1,eO,z2,z3,z4⟩:∃w r1,h5 (dq++[.cells 0 o1]) base 8 128 bA (.aZ dq.length 0 0 1 8)=some (w,r1)/\w.cells=[w]/\w.one=true/\au r1 ed g=some (mh++[aA G4.label,bA]):=by
    obtain⟨id,g',ek,cx,oj,oK,_⟩:=i5 dq o1 fE (fun i=>dq.length<=i/\i<dq.length) (fun _ _ _=>rfl) (cq _) rfl ai1 (fun _ h=>h) (fun H' an=>yQ.rd (m:=dq.length) (H:=dq) ⟨cm,cm,rfl,c1.start _ _ _,c1.start _ _ _⟩ (fun i i1 i2=>an i ⟨i1,i2⟩) (by decide) (by decide)) (by omega)
    exact⟨_,cx,oj,rfl,rfl,oK⟩
   have an:=ai3 (call:=adc (.agg o1)) (it:=aN) (ρ:=ρ) (aT:=aT) (z:=z) base (by omega) i2 i3 rfl ai1 (hs _ _ _ _ _) rfl eO i4 z2 z3 z4
   refine⟨bj,E,dG e' (dG jq (dG lQ (Dy rfl (dG Ns (Dy rfl (dG sx (Dy rfl (dG NG (jH (it':=aN) (pre:=u0.take 6) (post:=u0.drop 7) (cw:=ax 101 [(0,.ref ρ 0 0),(2,.ref aT 0 0),(3,.ref z 0 0),(5,.ref ed g (e0.length*2)),(31,.ref ed g (e0.length*2)),(32,.ref ed g (e0.length*2)),(33,.ref ed g (e0.length*2)),(34,.ref ed g (e0.length*2+1)),(35,bA),(36,.ref ρ 0 0)]) (H1:=dq) (.agg o1) rfl ?_ oW (by rw[an];rfl)))))))))),aH.two (aH.app (aH.low hQ lp) (aH.low a1 (by omega)))⟩
   have iY:(mh++[aA G4.label,bA]).drop (e0.length*2+1)=[bA]:=by
    rw[<- i3,JU,BR (by omega)]
    simp
   simp only[u0,simprocAttr,dK,dj,aG,i2,iY,dK,dj]
   try rfl
 |ok p=>
   obtain⟨x,b⟩:=p;rw[hi]at q;obtain⟨bj,_,E,oW,a1,cB,r,rfl,OX,eR⟩:=q;obtain⟨aIm,oE,aXl⟩:=Zj hi
   have afF:r.all V.one=true:=by
    obtain⟨a',lw,rfl,gz,lO⟩:=eR;have jY:=gz.rd.one;have ks:=lO.rd.one;simp only[bg,pq,qo,jY,ks,kw];rfl
   obtain⟨id,g',ek,mL,oj,oK,Lh,wO,aJi,_⟩:=i5 E r x (fun i=>dq.length<=i/\i<E.length) (fun i i1 i2=>a1.2 i i2 (by rw[eQ];omega)) a1.1 OX afF (fun _ h=>h) (fun H' an=>eR.rd (fun i i1 i2=>an i ⟨i1,i2⟩) (by omega) (by omega)) (by omega)
   have KP:=ai3 (call:=aR ag) (it:=aN) (ρ:=ρ) (aT:=aT) (z:=z) base (by omega) i2 i3 OX afF oW (a1.2 ed (iC i2) (by rw[eQ];omega)) oj i4 rfl rfl oK
   obtain⟨mG,xV⟩:∃X,mL.set ed (.cells g (mh++[aA G4.label,.aZ id g' 0 ek 8]))=X:=⟨_,rfl⟩;rw[xV]at KP Lh
   have QB:∀i,i<L->mG[i]?=E[i]?:=fun i hi=>by rw[<- xV,cG (by omega),aJi i hi]
   have aXg:mG.length=mL.length:=by rw[<- xV,fP]
   dsimp only
   refine⟨bj,aIm,⟨?_,fun y bC=>?_⟩,bv,_,mG,?_,⟨by have:=a1.1;omega,fun i i1 Sp=>?_⟩,?_,?_,by rw[zR];exact Lh,ed,g,_,qG,i1⟩
   .rw[zR,Up,c0,jd];omega
   .rw[zR,Up]at bC
    rcases pu.1 bC with bC|bC
    .have:=gU.2 y (by rw[zR];exact qQ _ bC);omega
    .rw[eQ]at bC;subst bC;show(G4.code++[x]).length<=b;rw[c0,jd];omega
   .exact AO ((e1 e').trans ((e1 jq).trans (AO ((e1 lQ).trans ((Ml rfl).trans ((e1 Ns).trans ((Ml rfl).trans ((e1 sx).trans ((Ml rfl).trans ((e1 NG).trans KP))))))))))
   .rw[QB i i1];simp at Sp
    rw[a1.2 i (by omega) (by rw[eQ];exact Sp.1)]
    exact FR.2 i i1 (by simp;exact Sp)
   .unfold au at cB |-
    rw[QB ρ (by omega)]
    exact cB
   .have:=a1.au ll (by omega) (by rw[eQ];omega)
    unfold au at this |-;rw[QB z K9];exact this
end
section
variable {ag:Nat->Option cz} {ρ:Nat} {lv:V} {ao:List Tok.T} {a:Nat}
def Xt(iR:AJ ag)(wf:jP ao)(base:Nat)(ah:base<=ρ){aT z L:Nat}(abj:ρ<aT)(aeB:aT<z)(K9:z<L){nm:ByteArray}{ps:List ByteArray}{pv:V}(uN:pv.one=true){N:Nat}(eo:ao.length<N)(j':N<2^21):∀(n:Nat) {a:Nat} {C:ad} {bv:V} {K:Nat->Prop} {bs:List ey},cy ρ lv ao C a->au C aT 0=some qI->au C z 0=some [aA nm,pv,bv]->FS L K C bv bs->L<=C.length->(bs.length<=a/\∀b∈bs,b.code.length<=a)->ao.length<a+n->
 match oR (bt.of ao) N nm ps n bs a with
  |.ok (f,b)=>b<ao.length/\∃Kl B' a7,f=⟨nm,ps,Kl⟩/\aN (aL (aR ag) aN base A0) [] L (ax 101 [(0,.ref ρ 0 0),(2,.ref aT 0 0),(3,.ref z 0 0)]) C=some (.ret,ax 101 [(2,.ref aT 0 0)],a7)/\(∀id,id<L->id≠ρ->id≠z->id≠aT->a7[id]?=C[id]?)/\L<=a7.length/\au a7 ρ 0=some [lv,U b]/\au a7 aT 0=some [aA nm,pv,B']/\B'.one=true/\∀H',(∀id,L<=id->id<a7.length->H'[id]?=a7[id]?)->fb 2 lx H' B' Kl
  |.error e=>e<ao.length/\∃a7,pe (fun fr H=>aL (aR ag) aN base A0 fr H) (fun fr H r=>gg (aR ag) (ns ag) aN base (fun _ _=>True) A0 fr H r) [] L (ax 101 [(0,.ref ρ 0 0),(2,.ref aT 0 0),(3,.ref z 0 0)]) C (qx,.agg (dA (ao.getD e ef)),a7)/\aH L [ρ,z] C a7:=by
 intro n
 induction n with
 |zero=>intro a C bv K bs h _ _ _ _ _ aJ;have:=h.lt;omega
 |succ n aF=>
   intro a C bv K bs h g2 yC rr lp gU al;have q:=Rs iR wf base ah h abj aeB K9 g2 (ps:=ps) yC uN rr lp gU eo j';rw[Sw];cases ai:ET (bt.of ao) N nm ps bs a with
   |error e=>
     rw[ai]at q;obtain⟨bj,a7,oW,a1⟩:=q;exact⟨bj,a7,.here oW,a1⟩
   |ok p=>
     cases p with
     |inl p=>
       obtain⟨f,b⟩:=p;rw[ai]at q;obtain⟨bj,rfl,a7,D,oW,a1,cB,gj,hA,nN⟩:=q;dsimp only
       have aq:L<=a7.length:=by rw[a1,fP];exact cB.1
       have VK:bv.one=true:=by obtain⟨ma,bc,_⟩:=rr.rows;exact bc.rd.one
       refine⟨bj,bs,bv,trim L (ax 101 [(2,.ref aT 0 0)]) a7,rfl,?_,fun id i1 i2 i3 i4=>?_,?_,?_,?_,VK,fun H' an=>?_⟩
       .rw[dt,oW,avS,B0]
       .have Km:=aH.trim (aH.low (aH.refl ([]:List Nat) a7) aq) (cq L) (ax 101 [(2,.ref aT 0 0)])
        rw[Km.2 id i1 (by simp),a1,cG (by omega)]
        exact cB.2 id i1 (by simp;omega)
       .exact(aH.trim (aH.low (aH.refl ([]:List Nat) a7) aq) (cq L) _).1
       .exact(aH.trim (aH.low (aH.refl ([]:List Nat) a7) aq) (cq L) _).au gj (by omega) (by simp)
       .exact(aH.trim (aH.low (aH.refl ([]:List Nat) a7) aq) (cq L) _).au hA (by omega) (by simp)
       .obtain⟨ma,bc,dJ,fI⟩:=nN.rows
        obtain⟨_,⟨aE,aU⟩|⟨id,g,aE,_,hid⟩⟩:=id bc
        .have nr:bs=[]:=lX (by rw[<- dJ,aE];rfl)
         subst nr;subst aU
         exact⟨[],c1.rx (c1.start 0 2 H'),rfl,by decide,fun i x af=>by simp at af⟩
        .have j9:trim L (ax 101 [(2,.ref aT 0 0)]) a7=a7:=JT hA (by omega) (id:=id) (g':=g) (n:=ma.length) (w:=2) (by rw[aE];simp) hid _
         rw[j9]at an;exact nN.done an
     |inr p=>
       obtain⟨lP,b⟩:=p;rw[ai]at q;obtain⟨bj,yF,TL,B',K',a7,oW,a1,cB,gj,hA,id,g,m,aE,hid⟩:=q;dsimp only
       have j9:∀fr,trim L fr a7=a7:=fun fr=>JT gj K9 (id:=id) (g':=g) (n:=m) (w:=2) (by rw[aE];simp) hid fr
       have aLJ:au a7 aT 0=some qI:=a1.au g2 (by omega) (by simp;omega)
       have q:=aF (h.W0 (by omega) (by omega) a1 cB bj) aLJ gj hA a1.1 TL (by omega)
       cases aY:oR (bt.of ao) N nm ps n lP b with
       |error e=>
         rw[aY]at q;obtain⟨bP,D,ca,dw⟩:=q
         refine⟨bP,D,.next oW ?_,aH.app a1 dw⟩
         rw[B0,j9];exact ca
       |ok p=>
         obtain⟨f,b'⟩:=p;rw[aY]at q;obtain⟨bP,Kl,aKu,D,rfl,ca,dw,e',jq,lQ,sF⟩:=q;refine⟨bP,Kl,aKu,D,rfl,?_,fun id i1 i2 i3 i4=>?_,e',jq,lQ,sF⟩
         .rw[dt,oW,JP,B0,j9];exact ca
         .rw[dw id i1 i2 i3 i4]
          exact a1.2 id i1 (by simp;omega)
set_option maxHeartbeats 1000000 in
def aO7(iR:AJ ag)(wf:jP ao)(base:Nat)(ah:base<=ρ){H:ad}(h:cy ρ lv ao H a)(vj:(bt.of ao).kind a=1){N:Nat}(eo:ao.length<N)(j':N<2^21):eT ag base A9 [.ref ρ 0 0] ρ lv ao [ρ] H (lr (bt.of ao) N a) (fun f v H'=>∃r,v=.agg r/\r.length=3/\r.all V.one=true/\∀kh,(∀id,H.length<=id->id<H'.length->kh[id]?=H'[id]?)->p6 kh r f):=by
 have ck:=iR.bL.O;have aOe:(⟨#[123]⟩:ByteArray).data.toList=[123]:=rfl;have jk:=h.pos;have aJ:=h.n
 have hB:a+1<ao.length:=wf.pn a h.lt (by rw[show(ao.getD a ef).kind=1 from vj];decide)
 obtain⟨cK,q1⟩:∃X,H++[aM.cells 0 qI]=X:=⟨_,rfl⟩
 have fN:cK.length=H.length+1:=by rw[<- q1,dh]
 have cX:Ext H cK:=q1▸Ext.app _ _;have g20:au cK H.length 0=some qI:=q1▸cQ H 0 _
 have hU:aL (aR ag) aN base (.region QD [] IG) (ax pF.ntmps (nA ([]++[.ref ρ 0 0]++[]) 0)) H=some (.bR,ax 101 [(0,.ref ρ 0 0),(2,.ref H.length 0 0)],cK):=by
  simp only[qI,cm]at q1;simp only[pF,simprocAttr,ki,aG,q1]
 have vy:=(h.ext cX).g;obtain⟨H1,k0⟩:∃X,cK.set ρ (.cells 0 [lv,U (a+1:Nat)])=X:=⟨_,rfl⟩
 have bc:IntKind.i64.wrap ((a:Int)+1)=((a+1:Nat):Int):=jB (by omega)
 have oh:aH H.length [ρ] H H1:=k0▸aH.BU (aH.gM cX) _
 have cW:H1.length=H.length+1:=by rw[<- k0,fP,fN]
 have J:=h.cD oh (k0▸fJ vy _) hB
 have bP:aL (aR ag) aN base (.region Yr [] [6,7,8,9,10,11,12]) (ax 101 [(0,.ref ρ 0 0),(2,.ref H.length 0 0)]) cK=some (.bR,ax 101 [(0,.ref ρ 0 0),(2,.ref H.length 0 0)],H1):=by
  simp only[U]at vy k0;simp only[ki,simprocAttr,aG,vy,bc,ah,k0]
 have g21:au H1 H.length 0=some qI:=by
  unfold au at g20 |-
  rw[<- k0,cG (by omega)]
  exact g20
 have rr:(aL (adc (aA ⟨#[]⟩)) aN base (.region LR [] [13,14,15,16,17]) (ax 101 [(0,.ref ρ 0 0),(2,.ref H.length 0 0)]) H1).isSome=true:=by
  have cg:∀c,au (H1++[aM.cells 0 c]) H1.length 0=some c:=fun c=>cQ H1 0 c;have dE:∀c e,(H1++[c]).set H1.length e=H1++[e]:=fun c e=>iI H1 c e
  have aGo:base<=H1.length:=by omega
  simp only[aA,simprocAttr,ki,aG,hs,cg,dE,aGo]
 have q:=yi ck.R wf base ah J;unfold lr eT;unfold eT at q;unfold eA.bind;cases ai:eC (bt.of ao) (a+1)with
 |error e=>
   rw[ai]at q;obtain⟨bj,D,aT,a1⟩:=q
   exact⟨bj,D,qH (c:=pF) (k:=1) rfl iR.HW rfl (by decide) JB rfl hU (dG bP (kW (jH (it':=aN) (pre:=Vz) (post:=QN) (aA ⟨#[]⟩) rfl rfl aT rr))),aH.then' oh a1⟩
 |ok p=>
   obtain⟨nm,b⟩:=p;rw[ai]at q;obtain⟨bj,_,bH,aT,a1,cB,rfl⟩:=q;have aa:=J.cD a1 cB bj;dsimp only;have q:=UI ck.R ck.list wf base ah aa eo j';unfold eT at q
   have o8:=aH.then' oh a1
   cases aY:p' (bt.of ao) N b with
   |error e=>
     rw[aY]at q;obtain⟨t1,D,t2,t3⟩:=q
     exact⟨t1,D,qH (c:=pF) (k:=1) rfl iR.HW rfl (by decide) JB rfl hU (dG bP (kW (aaB (it':=aN) (HK:=Vz) (Fo:=amc) (post:=RD) (aA ⟨#[]⟩) rfl rfl aT rfl t2 rr))),aH.then' o8 t3⟩
   |ok p=>
     obtain⟨ps,c⟩:=p;rw[aY]at q;obtain⟨t1,pv,cV,t2,t3,t4,mp,HQ,uN⟩:=q;have aI:=aa.cD t3 t4 t1
     have hQ:=aH.then' o8 t3
     have qT:pv.one=true:=uN.rd.one;have E7:=p9.R3 (Dg uN);dsimp only;obtain⟨gv,mg⟩:∃X,cV++[aM.cells 0 [aA nm,pv,cm]]=X:=⟨_,rfl⟩;have fG:Ext cV gv:=mg▸Ext.app _ _
     have iM:gv.length=cV.length+1:=by rw[<- mg,dh]
     have aL6:au gv cV.length 0=some [aA nm,pv,cm]:=mg▸cQ cV 0 _;have bl:=aI.ext fG
     have ca:aL (aR ag) aN base (.region LR [] [13,14,15,16,17]) (ax 101 [(0,.ref ρ 0 0),(2,.ref H.length 0 0)]) H1=some (.bR,ax 101 [(0,.ref ρ 0 0),(2,.ref H.length 0 0),(3,.ref cV.length 0 0)],gv):=by
      have cg:∀c,au (cV++[aM.cells 0 c]) cV.length 0=some c:=fun c=>cQ cV 0 c;have dE:∀c e,(cV++[c]).set cV.length e=cV++[e]:=fun c e=>iI cV c e
      have aBr:base<=cV.length:=by have:=hQ.1;omega
      simp only[aA,cm]at aT mg;simp only[ki,simprocAttr,aG,aT,t2,qT,E7,cg,dE,aBr,mg]
     have q':aH H.length [ρ] H gv:=aH.then' hQ (aH.gM fG)
     have q:=xr ck.R wf base ah bl ⟨#[123]⟩;rw[aOe]at q;unfold eT at q;cases hu:fO (bt.of ao) [123] c with
     |error e=>
       rw[hu]at q;obtain⟨jY,D,ks,jW⟩:=q
       refine⟨jY,D,qH (c:=pF) (k:=1) rfl iR.HW rfl (by decide) JB rfl hU (dG bP (dG ca (kW (jH (it':=aN) (pre:=ZZ) (post:=[]) (.bQ []) rfl rfl ks ?_)))),aH.then' q' jW⟩
       simp only[ki,simprocAttr,aG,hs]
     |ok p=>
       obtain⟨u,d⟩:=p;rw[hu]at q;obtain⟨jY,_,rf,ks,jW,lT,rfl⟩:=q;dsimp only;have cO:=bl.cD jW lT jY
       have tW:=aH.then' q' jW
       simp only[aA]at ks
       have dw:aL (aR ag) aN base (.region Ro [] [18,19]) (ax 101 [(0,.ref ρ 0 0),(2,.ref H.length 0 0),(3,.ref cV.length 0 0)]) gv=some (.bR,ax 101 [(0,.ref ρ 0 0),(2,.ref H.length 0 0),(3,.ref cV.length 0 0)],rf):=by
        simp only[ki,simprocAttr,aG,ks]
       have anV:=hQ.1;have aYy:H1.length<=bH.length:=a1.1;have aX3:bH.length<=cV.length:=t3.1;have aXe:=jW.1
       have Yb:au rf cV.length 0=some [aA nm,pv,cm]:=jW.au aL6 (by omega) (by rw[eQ];omega)
       have OC:au rf H.length 0=some qI:=by
        have bw:au bH H.length 0=some qI:=a1.au g21 (by omega) (by rw[eQ];omega)
        have a2:au cV H.length 0=some qI:=t3.au bw (by omega) (by rw[eQ];omega)
        exact jW.au (b7 a2 fG) (by omega) (by rw[eQ];omega)
       have q:=Xt iR wf base ah (aT:=H.length) (z:=cV.length) (L:=rf.length) (by omega) (by omega) (by omega) (nm:=nm) (ps:=ps) qT eo j' N cO OC Yb (FS.start _ _) (cq _) ⟨gY _,fun b ah=>by simp at ah⟩ (by omega)
       cases av:oR (bt.of ao) N nm ps N [] d with
       |error e=>
         rw[av]at q;obtain⟨v1,D,v2,v3⟩:=q
         refine⟨v1,D,qH (c:=pF) (k:=1) rfl iR.HW rfl (by decide) JB rfl hU (dG bP (dG ca (dG dw v2))),aH.app tW ?_⟩
         exact⟨by have:=v3.1;omega,fun i i1 i2=>v3.2 i (by omega) (by simp at i2 |-;omega)⟩
       |ok p=>
         obtain⟨f,eI⟩:=p;rw[av]at q;obtain⟨v1,Kl,bv,a7,rfl,v2,v3,v4,v5,v6,A4,rz⟩:=q
         have key:∀kh:ad,(∀id,H.length<=id->id<a7.length->kh[id]?=a7[id]?)->c1 mp 1 kh pv (ij ps):=fun kh an=>uN.cD fun id g n e=>by
          have b8:=uN.lt id g n e
          have rh:mp<=id:=by rw[e]at uN;exact iK uN
          rw[an id (by omega) (by omega),v3 id (by omega) (by omega) (by omega) (by omega),jW.2 id (by omega) (by rw[eQ];omega),fG.get b8]
         refine⟨v1,.agg [aA nm,pv,bv],a7,?_,⟨by omega,fun i i1 i2=>?_⟩,v5,_,rfl,rfl,by simp only[pq,qo,qT,A4,kw];rfl,fun kh an=>⟨pv,bv,rfl,?_,?_,?_,?_⟩⟩
         .refine eF (c:=pF) (k:=1) iR.HW rfl (by decide) JB ?_
          have key:aL (aR ag) aN base pF.body (ax pF.ntmps (nA ([]++[.ref ρ 0 0]++[]) 0)) H=some (.ret,ax 101 [(2,.ref H.length 0 0)],a7):=(e1 hU).trans ((e1 bP).trans ((e1 ca).trans ((e1 dw).trans (Wg v2))));rw[key]
          have yT:iu a7 true 3 (.ref H.length 0 0)=some (.agg [aA nm,pv,bv]):=by
           show fa _ true 3 _=_;rw[h1,v6];rfl
          simp only[pF,simprocAttr,aG];rw[yT];rfl
         .rw[eQ]at i2
          rw[v3 i (by omega) i2 (by omega) (by omega)]
          exact tW.2 i i1 (by rw[eQ];exact i2)
         .exact(Dg (key kh an)).rd
         .exact p9.NN (Dg (key kh an))
         .have:=M9 aY;show ps.length<_;omega
         .exact rz kh fun id i1 i2=>an id (by omega) i2
end
structure GS (m:Nat) (C:ad) (v:V) (fs:List cT):Prop where
 n:fs.length<2^21
 rows:∃R:List (List V),c1 m 3 C v R/\R.length=fs.length/\∀(i:Nat) (f:cT),fs[i]?=some f->∃r:List V,R[i]?=some r/\∀H',(∀id,m<=id->id<C.length->(∀g n,v≠.aZ id g 0 n 3)->H'[id]?=C[id]?)->p6 H' r f
def GS.start(m:Nat)(C:ad):GS m C cm []:=⟨by decide,[],c1.start _ _ _,rfl,fun i f h=>by simp at h⟩
def GS.cD{m:Nat}{C a7:ad}{v:V}{fs:List cT}(h:GS m C v fs)(an:∀id,m<=id->id<C.length->a7[id]?=C[id]?)(aq:C.length<=a7.length):GS m a7 v fs:=by
 obtain⟨R,bc,dJ,fI⟩:=h.rows
 refine⟨h.n,R,bc.cD fun id g n e=>by subst e;exact an id (iK bc) (bc.lt id g n rfl),dJ,fun i f al=>?_⟩
 obtain⟨r,bP,ca⟩:=fI i f al
 exact⟨r,bP,fun H' aO=>ca H' fun id i1 i2 i3=>by rw[aO id i1 (by omega) i3,an id i1 i2]⟩
def GS.done{m:Nat}{C:ad}{v:V}{fs:List cT}(h:GS m C v fs){H':ad}(an:∀id,m<=id->id<C.length->H'[id]?=C[id]?):iF H' v fs:=by
 obtain⟨R,bc,dJ,fI⟩:=h.rows
 have av:c1 m 3 H' v R:=bc.cD fun id g n e=>by subst e;exact an id (iK bc) (bc.lt id g n rfl)
 refine⟨R,c1.rx av,dJ,by have:=h.n;omega,fun i f al=>?_⟩
 obtain⟨r,bP,ca⟩:=fI i f al;exact⟨r,bP,ca H' fun id i1 i2 _=>an id i1 i2⟩
def GS.add{m base:Nat}{C bG:ad}{v:V}{fs:List cT}(h:GS m C v fs)(ah:base<=m)(hm:m<=C.length)(an:∀id,m<=id->id<C.length->bG[id]?=C[id]?)(aq:C.length<=bG.length){r:List V}(rO:r.length=3)(eR:r.all V.one=true){f:cT}(al:∀H',(∀id,C.length<=id->id<bG.length->H'[id]?=bG[id]?)->p6 H' r f)(aJ:fs.length+1<2^21):
 ∃id g n cx,h5 (bG++[.cells 0 r]) base 3 64 v (.aZ bG.length 0 0 1 3)=some (.aZ id g 0 n 3,cx)/\GS m cx (.aZ id g 0 n 3) (fs++[f])/\m<=id/\bG.length<=cx.length/\∀i,i<m->cx[i]?=bG[i]?:=by
 obtain⟨R,bc,dJ,fI⟩:=h.rows
 have ao7:c1 m 3 bG v R:=bc.cD fun id g n e=>by subst e;exact an id (iK bc) (bc.lt id g n rfl)
 obtain⟨id,g,n,cx,bw,a2,a3,a4,a5⟩:=U' ao7 (base:=base) (bytes:=64) ah (by omega) rO eR (by rw[dJ];omega)
 have hid:m<=id:=iK a2
 have vd:∀i,i<m->cx[i]?=bG[i]?:=fun i hi=>a4 i (by omega) fun g' ek e=>by
  subst e;have:=iK ao7;omega
 refine⟨id,g,n,cx,bw,⟨by rw[c0];exact aJ,R++[r],a2,by simp[dJ],fun i hk Dz=>?_⟩,hid,a3,vd⟩
 by_cases hi:i<fs.length
 .rw[bi hi]at Dz;obtain⟨hU,bP,ca⟩:=fI i hk Dz
  refine⟨hU,by rw[bi (by omega)];exact bP,fun H' aO=>ca H' fun j oj oK Lh=>?_⟩
  have eS:∀g' ek,V.aZ id g 0 n 3≠.aZ j g' 0 ek 3:=fun g' ek e=>by
   cases e
   rcases a5 with⟨g2,b5,aU⟩|aU
   .exact Lh g2 b5 aU
   .omega
  rw[aO j oj (by omega) eS,a4 j (by omega) Lh,an j oj oK]
 .have pE:i=fs.length:=by
   have:=(dQ.1 Dz).1;simp at this;omega
  subst pE;rw[jA (cq _),w3]at Dz;cases Dz
  refine⟨r,by rw[jA (by omega),dJ,w3];rfl,fun H' aO=>al H' fun j oj oK=>?_⟩
  have abO:∀g' ek,v≠.aZ j g' 0 ek 3:=fun g' ek e=>by
   have:=bc.lt j g' ek e;omega
  have eS:∀g' ek,V.aZ id g 0 n 3≠.aZ j g' 0 ek 3:=fun g' ek e=>by
   cases e
   rcases a5 with⟨g2,b5,aU⟩|aU
   .exact abO g2 b5 aU
   .omega
  rw[aO j (by omega) (by omega) eS,a4 j oK abO]
section
variable {ag:Nat->Option cz} {ρ:Nat} {lv:V} {ao:List Tok.T} {a:Nat}
theorem arI{call:c5}{it:hE}(base:Nat){D bX bU:ad}{z2 z3 z4:Nat}{fn:V}(km:base<=z2){pv:V}(wK:au D z2 0=some [pv]){kU dX fx:V}(eR:[kU,dX,fx].all V.one=true)(ab:call (.fn A9 [] []) [.ref ρ 0 0] base D=some (.agg [kU,dX,fx],bX))(an:bX[z2]?=D[z2]?){w:V}(aO:h5 (bX++[.cells 0 [kU,dX,fx]]) base 3 64 pv (.aZ bX.length 0 0 1 3)=some (w,bU))(Cv:pv.one=true)(hw:w.cells=[w])(Eh:w.one=true)(g2:au bU z2 0=some [pv]){zT:V}:
 aL call it base (.region uo [(1,3)] [36,39,40,41,42,43,44,45]) (ax 48 [(2,.ref z2 0 0),(3,.ref z3 0 0),(4,.ref z4 0 0),(6,.ref ρ 0 0),(15,ar false),(19,fn),(36,zT)]) D=some (.bR,ax 48 [(2,.ref z2 0 0),(3,.ref z3 0 0),(4,.ref z4 0 0),(6,.ref ρ 0 0),(15,ar false),(19,fn)],bU.set z2 (.cells 0 [w])):=by
 have gU:cI call base (uo.take 3) (ax 48 [(2,.ref z2 0 0),(3,.ref z3 0 0),(4,.ref z4 0 0),(6,.ref ρ 0 0),(15,ar false),(19,fn),(36,zT)]) D=some (ax 48 [(2,.ref z2 0 0),(3,.ref z3 0 0),(4,.ref z4 0 0),(6,.ref ρ 0 0),(15,ar false),(19,fn),(36,zT),(39,.ref z2 0 0),(40,pv),(41,.ref ρ 0 0)],D):=by
  simp only[uo,simprocAttr,dK,dj,aG,wK,dK,dj]
  try rfl
 have ck:cI call base [⟨some 42,(.call (.c (.fn A9 [] [])) [(.t 41)]),none⟩] (ax 48 [(2,.ref z2 0 0),(3,.ref z3 0 0),(4,.ref z4 0 0),(6,.ref ρ 0 0),(15,ar false),(19,fn),(36,zT),(39,.ref z2 0 0),(40,pv),(41,.ref ρ 0 0)]) D=some (ax 48 [(2,.ref z2 0 0),(3,.ref z3 0 0),(4,.ref z4 0 0),(6,.ref ρ 0 0),(15,ar false),(19,fn),(36,zT),(39,.ref z2 0 0),(40,pv),(41,.ref ρ 0 0),(42,.agg [kU,dX,fx])],bX):=by
  simp only[aG,simprocAttr,ab]
  try rfl
 have aD:cI call base (uo.drop 4) (ax 48 [(2,.ref z2 0 0),(3,.ref z3 0 0),(4,.ref z4 0 0),(6,.ref ρ 0 0),(15,ar false),(19,fn),(36,zT),(39,.ref z2 0 0),(40,pv),(41,.ref ρ 0 0),(42,.agg [kU,dX,fx])]) bX=some (ax 48 [(2,.ref z2 0 0),(3,.ref z3 0 0),(4,.ref z4 0 0),(6,.ref ρ 0 0),(15,ar false),(19,fn),(36,zT),(39,.ref z2 0 0),(40,pv),(41,.ref ρ 0 0),(42,.agg [kU,dX,fx]),(43,.aZ bX.length 0 0 1 3),(44,w),(45,.ref z2 0 0)],bU.set z2 (.cells 0 [w])):=by
  have Kf:=eR;simp only[pq,qo,kw]at Kf;simp only[uo,simprocAttr,u3,nR,aG,aO,hw,Eh,g2,km,Kf]
  try rfl
 have ak:uo=uo.take 3++(⟨some 42,(.call (.c (.fn A9 [] [])) [(.t 41)]),none⟩:bx)::uo.drop 4:=rfl;rw[ak];refine(NJ gU ck aD rfl fun p ay=>?_).trans ?_
 .rw[eQ]at ay;subst ay;refine⟨rfl,some z2,rfl,fun id e=>?_⟩;cases e;exact an
 .simp only[aG,simprocAttr]
  try rfl
end
def Li(V:bt)(N:Nat)(fs:List cT)(a:Nat):Except Nat (Option (List cT × Nat)):=
 if V.kind a=4 then .ok none else
  if(V.kind a != 1||V.text a != [102,117,110,99])=true then .error a
  else match lr V N a with
   |.error e=>.error e
   |.ok (f,b)=>.ok (some (fs++[f],b))
theorem aIg(V:bt)(N n:Nat)(fs:List cT)(a:Nat):rX V N (n+1) fs a=match Li V N fs a with
 |.error e=>.error e
 |.ok none=>.ok (fs,a)
 |.ok (some (Bo,b))=>rX V N n Bo b:=by
 unfold Li;rw[rX];by_cases J:V.kind a=4
 .rw[bE J,bE J]
 rw[bV J,bV J]
 by_cases aa:(V.kind a != 1||V.text a != [102,117,110,99])=true
 .rw[bE aa,bE aa]
 rw[bV aa,bV aa];unfold eA.bind;cases lr V N a with
 |error e=>rfl
 |ok p=>rfl
def aJr(H:ad):p6 H qI u9:=by
 have h:p9 0 H cm []:=.inl ⟨rfl,.inl rfl⟩
 refine⟨cm,cm,rfl,h.rd,p9.NN h,by decide,[],c1.rx (c1.start 0 2 H),rfl,by decide,fun i x af=>?_⟩
 simp[u9]at af
abbrev avV(g0 g1 g2:V):nx:=fun l fr=>(fr.getD 2 .bu=g0/\fr.getD 3 .bu=g1/\fr.getD 4 .bu=g2)/\∀o∈l,o.dst≠some 2/\o.dst≠some 3/\o.dst≠some 4
section
variable {ag:Nat->Option cz} {ρ:Nat} {lv:V} {ao:List Tok.T} {a:Nat}
def cy.aVD{L z b:Nat}{H H':ad}(h:cy ρ lv ao H a)(cU:ρ<L)(bK:∀id g n,lv=.aZ id g 0 n 5->id≠z)(k:aH L [ρ,z] H H')(g:au H' ρ 0=some [lv,U b])(ah:b<ao.length):cy ρ lv ao H' b:=by
 obtain⟨m,w⟩:=h.w;refine⟨g,⟨m,w.cD fun id g n av=>?_⟩,h.hR,ah,h.n⟩;have:=h.hR id g n av;have:=bK id g n av
 exact k.2 id (by omega) (by simp;omega)
def aR5(iR:AJ ag)(wf:jP ao)(base:Nat){C:ad}(h:cy ρ lv ao C a){z2 z3 z4 L:Nat}(km:base<=z2)(agL:z2<ρ)(Hb:ρ<L){fn pv:V}(yC:au C z2 0=some [pv]){fs:List cT}(yJ:GS L C pv fs)(lp:L<=C.length)(gU:fs.length<=a){N:Nat}(eo:ao.length<N)(j':N<2^21):
 match Li (bt.of ao) N fs a with
  |.error e=>e<ao.length/\∃a7,gg (aR ag) (ns ag) aN base (avV (.ref z2 0 0) (.ref z3 0 0) (.ref z4 0 0)) acl (ax 48 [(2,.ref z2 0 0),(3,.ref z3 0 0),(4,.ref z4 0 0),(6,.ref ρ 0 0),(15,ar false),(19,fn)]) C (qx,.agg (dA (ao.getD e ef)),a7)/\aH L [ρ,z2] C a7/\au a7 z2 0=some [pv]
  |.ok none=>∃a7,aL (aR ag) aN base acl (ax 48 [(2,.ref z2 0 0),(3,.ref z3 0 0),(4,.ref z4 0 0),(6,.ref ρ 0 0),(15,ar false),(19,fn)]) C=some (.ext 0,ax 48 [(2,.ref z2 0 0),(3,.ref z3 0 0),(4,.ref z4 0 0),(6,.ref ρ 0 0),(15,ar false),(19,fn),(26,ar false)],a7)/\Ext C a7
  |.ok (some (Bo,b))=>b<ao.length/\a<b/\Bo.length<=b/\∃xh a7,aL (aR ag) aN base acl (ax 48 [(2,.ref z2 0 0),(3,.ref z3 0 0),(4,.ref z4 0 0),(6,.ref ρ 0 0),(15,ar false),(19,fn)]) C=some (.bR,ax 48 [(2,.ref z2 0 0),(3,.ref z3 0 0),(4,.ref z4 0 0),(6,.ref ρ 0 0),(15,ar false),(19,fn)],a7)/\aH L [ρ,z2] C a7/\au a7 ρ 0=some [lv,U b]/\au a7 z2 0=some [xh]/\GS L a7 xh Bo/\∃id g n,xh=.aZ id g 0 n 3/\L<=id:=by
 have ck:=iR.bL.O
 have ah:base<=ρ:=by omega
 have aJ:=h.n
 have gr:base<=C.length:=by omega
 obtain⟨t,aY⟩:∃t,ao.getD a ef=t:=⟨_,rfl⟩
 have xU:(bt.of ao).text a=t.text:=by rw[<- aY];rfl
 have nq:(bt.of ao).kind a=t.kind:=by rw[<- aY];rfl
 obtain⟨bG,cC,b5⟩:=qe ck.R.now base gr h;rw[aY]at cC;simp only[dA]at cC;have aAG:=b5.le;have J:=h.ext b5;unfold Li;by_cases bl:(bt.of ao).kind a=4
 .rw[bE bl];rw[nq]at bl
  have k1:(((t.kind:Nat):Int) != 4)=false:=by rw[bl];rfl
  refine⟨bG,?_,b5⟩;simp only[ar,simprocAttr,sV,aG,cC,k1]
 rw[bV bl]
 have k1:(((t.kind:Nat):Int) != 4)=true:=by rw[mw];rw[nq]at bl;omega
 have lQ:aL (aR ag) aN base (.seq (.region Sg [] [23,24,25]) (.cond (.t 26) .skip (.exit 0))) (ax 48 [(2,.ref z2 0 0),(3,.ref z3 0 0),(4,.ref z4 0 0),(6,.ref ρ 0 0),(15,ar false),(19,fn)]) C=some (.bR,ax 48 [(2,.ref z2 0 0),(3,.ref z3 0 0),(4,.ref z4 0 0),(6,.ref ρ 0 0),(15,ar false),(19,fn),(26,ar true)],bG):=by
  simp only[ar,simprocAttr,sV,aG,cC,k1]
 obtain⟨cx,m1,m2⟩:=qe ck.R.now base (H:=bG) (by omega) J
 rw[aY]at m1;simp only[dA]at m1;have azv:=m2.le;obtain⟨gI,nc⟩:∃X,cx++[aM.cells 0 (dA t)]=X:=⟨_,rfl⟩;have cd:Ext cx gI:=nc▸Ext.app _ _;have mG:Ext C gI:=b5.trans (m2.trans cd);have Tj:=mG.le;have aI:=h.ext mG;have cg:∀c,au (cx++[aM.cells 0 c]) cx.length 0=some c:=fun c=>cQ cx 0 c;have dE:∀c e,(cx++[c]).set cx.length e=cx++[e]:=fun c e=>iI cx c e
 have aNe:base<=cx.length:=by omega
 have g7:au gI cx.length 0=some (dA t):=nc▸cQ cx 0 _
 have sF:aL (aR ag) aN base (.region NS [] [26,27,28]) (ax 48 [(2,.ref z2 0 0),(3,.ref z3 0 0),(4,.ref z4 0 0),(6,.ref ρ 0 0),(15,ar false),(19,fn),(26,ar true)]) bG=some (.bR,ax 48 [(2,.ref z2 0 0),(3,.ref z3 0 0),(4,.ref z4 0 0),(6,.ref ρ 0 0),(7,.ref cx.length 0 0),(15,ar false),(19,fn)],gI):=by
  simp only[dA]at nc;simp only[ar,simprocAttr,sV,aG,m1,cg,dE,aNe,nc]
 simp only[dA]at g7;have ll:=b7 yC mG
 have as5:pv.one=true:=by obtain⟨R,bc,_⟩:=yJ.rows;exact bc.rd.one
 by_cases rv:((bt.of ao).kind a != 1||(bt.of ao).text a != [102,117,110,99])=true
 .rw[bE rv];rw[nq,xU]at rv
  have JH:aL (aR ag) aN base (.bh J0 [7,29,30,31,32,33,34,35] [36]) (ax 48 [(2,.ref z2 0 0),(3,.ref z3 0 0),(4,.ref z4 0 0),(6,.ref ρ 0 0),(7,.ref cx.length 0 0),(15,ar false),(19,fn)]) gI=some (.bR,ax 48 [(2,.ref z2 0 0),(3,.ref z3 0 0),(4,.ref z4 0 0),(6,.ref ρ 0 0),(15,ar false),(19,fn),(36,ar true)],gI):=by
   by_cases J:t.kind=1
   .have k1:(((t.kind:Nat):Int) != 1)=false:=by rw[J];rfl
    rw[J]at rv
    have k2:(t.text==[102,117,110,99])=false:=by simpa using rv
    simp only[ar,simprocAttr,sV,aG,g7,k1,k2]
   .have k1:(((t.kind:Nat):Int) != 1)=true:=by rw[mw];omega
    simp only[ar,simprocAttr,sV,aG,g7,k1]
  obtain⟨D,f1,f2⟩:=yg ck.R.now base (H:=gI) (by omega) aI
  refine⟨h.lt,D,dG lQ (kW (dG sF (dG JH (sJ rfl (ap6 (it':=aN) (pre:=aeS) (post:=[]) (.bQ []) ⟨⟨rfl,rfl,rfl⟩,by decide⟩ rfl rfl f1 ?_))))),aH.two (aH.low (aH.gM (mG.trans f2)) lp),b7 yC (mG.trans f2)⟩
  simp only[ar,simprocAttr,sV,aG,hs]
 rw[bV rv];rw[sY,nq,xU,nS]at rv
 have vj:t.kind=1:=by simpa using rv.1
 have JH:aL (aR ag) aN base (.seq (.bh J0 [7,29,30,31,32,33,34,35] [36]) (.cond (.t 36) (.region NY [] [36,37,38]) .skip)) (ax 48 [(2,.ref z2 0 0),(3,.ref z3 0 0),(4,.ref z4 0 0),(6,.ref ρ 0 0),(7,.ref cx.length 0 0),(15,ar false),(19,fn)]) gI=some (.bR,ax 48 [(2,.ref z2 0 0),(3,.ref z3 0 0),(4,.ref z4 0 0),(6,.ref ρ 0 0),(15,ar false),(19,fn),(36,ar false)],gI):=by
  have k1:(((t.kind:Nat):Int) != 1)=false:=by rw[vj];rfl
  have k2:(t.text==[102,117,110,99])=true:=by simpa using rv.2
  simp only[ar,simprocAttr,sV,aG,g7,k1,k2]
 have acg:aL (aR ag) aN base (.seq (.region NS [] [26,27,28]) (.seq (.bh J0 [7,29,30,31,32,33,34,35] [36]) (.cond (.t 36) (.region NY [] [36,37,38]) .skip))) (ax 48 [(2,.ref z2 0 0),(3,.ref z3 0 0),(4,.ref z4 0 0),(6,.ref ρ 0 0),(15,ar false),(19,fn),(26,ar true)]) bG=some (.bR,ax 48 [(2,.ref z2 0 0),(3,.ref z3 0 0),(4,.ref z4 0 0),(6,.ref ρ 0 0),(15,ar false),(19,fn),(36,ar false)],gI):=(e1 sF).trans JH
 have q:=aO7 iR wf base ah aI (by rw[nq];exact vj) eo j'
 have aso:GS L gI pv fs:=yJ.cD (fun id i1 i2=>mG.get i2) Tj;have FR:aH L [ρ,z2] C gI:=aH.two (aH.low (aH.gM mG) lp);unfold eT at q;cases al:lr (bt.of ao) N a with
 |error e=>
   rw[al]at q;obtain⟨bj,D,aT,a1⟩:=q
   have afH:([V.s (.string ⟨#[]⟩),cm,cm]:List V).all V.one=true:=by decide
   obtain⟨id,g,n,r1,eO,E3,afz,ay3,Ly⟩:=aso.add (base:=base) (by omega) (by omega) (fun _ _ _=>rfl) (cq _) (r:=qI) rfl afH (f:=u9) (fun H' _=>aJr H') (by have:=h.lt;omega)
   have Yb:au r1 z2 0=some [pv]:=by
    unfold au at ll |-
    rw[Ly z2 (by omega)]
    exact ll
   have an:=arI (call:=adc (.agg qI)) (it:=aN) (ρ:=ρ) (z3:=z3) (z4:=z4) (fn:=fn) (zT:=ar false) base km ll afH (hs _ _ _ _ _) rfl eO as5 rfl rfl Yb
   refine⟨bj,D,dG lQ (dG acg (ap6 (it':=aN) (pre:=uo.take 3) (post:=uo.drop 4) (cw:=ax 48 [(2,.ref z2 0 0),(3,.ref z3 0 0),(4,.ref z4 0 0),(6,.ref ρ 0 0),(15,ar false),(19,fn),(36,ar false),(39,.ref z2 0 0),(40,pv),(41,.ref ρ 0 0)]) (H1:=gI) (.agg qI) ⟨⟨rfl,rfl,rfl⟩,by decide⟩ rfl ?_ aT (by rw[an];rfl))),aH.app FR (aH.two (aH.low a1 (by omega))),a1.au ll (iC ll) (by rw[eQ];omega)⟩
   simp only[uo,simprocAttr,dK,dj,aG,ll,dK,dj]
   try rfl
 |ok p=>
   obtain⟨f,b⟩:=p;rw[al]at q;obtain⟨bj,_,D,aT,a1,cB,r,rfl,rO,eR,aJK⟩:=q;have yF:=aOl al
   obtain⟨id,g,n,bU,eO,E3,afz,ay3,Ly⟩:=aso.add (base:=base) (by omega) (by omega) (fun i i1 i2=>a1.2 i i2 (by rw[eQ];omega)) a1.1 rO eR aJK (by have:=h.lt;omega)
   have akC:au D z2 0=some [pv]:=a1.au ll (iC ll) (by rw[eQ];omega)
   have aq2:au bU z2 0=some [pv]:=by
    unfold au at akC |-
    rw[Ly z2 (by omega)]
    exact akC
   obtain⟨kU,dX,fx,rfl⟩:∃kU dX fx,r=[kU,dX,fx]:=by
    match r,rO with
    | [kU,dX,fx],_=>exact⟨_,_,_,rfl⟩
   have KP:=arI (call:=aR ag) (it:=aN) (ρ:=ρ) (z3:=z3) (z4:=z4) (fn:=fn) (zT:=ar false) base km ll eR aT (a1.2 z2 (iC ll) (by rw[eQ];omega)) eO as5 rfl rfl aq2
   obtain⟨dq,iA⟩:∃X,bU.set z2 (.cells 0 [.aZ id g 0 n 3])=X:=⟨_,rfl⟩;rw[iA]at KP
   have Yi:∀i,i≠z2->dq[i]?=bU[i]?:=fun i hi=>by rw[<- iA,cG (iV hi)]
   have aYb:dq.length=bU.length:=by rw[<- iA,fP]
   have NU:=a1.1;dsimp only
   refine⟨bj,yF.1,by rw[c0,jd];omega,_,dq,(e1 lQ).trans (AO ((e1 acg).trans KP)),⟨by omega,fun i i1 i2=>?_⟩,?_,iA▸fJ aq2 _,E3.cD (fun i i1 i2=>Yi i (by omega)) (by omega),id,g,n,rfl,afz⟩
   .simp at i2
    rw[Yi i i2.2,Ly i i1,a1.2 i (by omega) (by rw[eQ];exact i2.1)]
    exact FR.2 i i1 (by simp;exact i2)
   .unfold au at cB |-
    rw[Yi ρ (by omega),Ly ρ (by omega)]
    exact cB
def aWQ(iR:AJ ag)(wf:jP ao)(base:Nat){z2 z3 z4 L:Nat}(km:base<=z2)(agL:z2<ρ)(Hb:ρ<L)(bK:∀id g n,lv=.aZ id g 0 n 5->id≠z2){fn:V}{N:Nat}(eo:ao.length<N)(j':N<2^21):∀(n:Nat) {a:Nat} {C:ad} {pv:V} {fs:List cT},cy ρ lv ao C a->au C z2 0=some [pv]->GS L C pv fs->L<=C.length->fs.length<=a->ao.length<a+n->
 match rX (bt.of ao) N n fs a with
  |.ok (Bo,b)=>∃xh a7,aN (aL (aR ag) aN base acl) [] L (ax 48 [(2,.ref z2 0 0),(3,.ref z3 0 0),(4,.ref z4 0 0),(6,.ref ρ 0 0),(15,ar false),(19,fn)]) C=some (.ext 0,ax 48 [(2,.ref z2 0 0),(3,.ref z3 0 0),(4,.ref z4 0 0),(6,.ref ρ 0 0),(15,ar false),(19,fn),(26,ar false)],a7)/\aH L [ρ,z2] C a7/\au a7 z2 0=some [xh]/\xh.one=true/\xh.cells=[xh]/\∀H',(∀id,L<=id->id<a7.length->H'[id]?=a7[id]?)->iF H' xh Bo
  |.error e=>e<ao.length/\∃a7,pe (fun fr H=>aL (aR ag) aN base acl fr H) (fun fr H r=>gg (aR ag) (ns ag) aN base (avV (.ref z2 0 0) (.ref z3 0 0) (.ref z4 0 0)) acl fr H r) [] L (ax 48 [(2,.ref z2 0 0),(3,.ref z3 0 0),(4,.ref z4 0 0),(6,.ref ρ 0 0),(15,ar false),(19,fn)]) C (qx,.agg (dA (ao.getD e ef)),a7)/\aH L [ρ,z2] C a7/\∃p,au a7 z2 0=some [p]:=by
 intro n
 induction n with
 |zero=>intro a C pv fs h _ _ _ _ aJ;have:=h.lt;omega
 |succ n aF=>
   intro a C pv fs h yC yJ lp gU al;have q:=aR5 iR wf base h (z3:=z3) (z4:=z4) km agL Hb (fn:=fn) yC yJ lp gU eo j';rw[aIg];cases ai:Li (bt.of ao) N fs a with
   |error e=>
     rw[ai]at q;obtain⟨bj,a7,aT,a1,cB⟩:=q;exact⟨bj,a7,.here aT,a1,_,cB⟩
   |ok p=>
     cases p with
     |none=>
       rw[ai]at q;obtain⟨bG,aT,a1⟩:=q;dsimp only
       have dr:L<=bG.length:=by have:=a1.le;omega
       obtain⟨fr,sb⟩:∃fr,ax 48 [(2,V.ref z2 0 0),(3,.ref z3 0 0),(4,.ref z4 0 0),(6,.ref ρ 0 0),(15,ar false),(19,fn),(26,ar false)]=fr:=⟨_,rfl⟩;have Km:=aH.trim (aH.low (aH.refl ([]:List Nat) bG) dr) (cq L) fr;have oh:aH L [ρ,z2] C bG:=aH.two (aH.low (aH.gM a1) lp);have ajT:=b7 yC a1;have aoa:GS L bG pv fs:=yJ.cD (fun id i1 i2=>a1.get i2) a1.le;obtain⟨R,bc,dJ,_⟩:=aoa.rows
       have E7:pv.cells=[pv]:=by
        obtain⟨_,⟨_,rfl⟩|⟨id,g,rfl,_⟩⟩:=bc<;>rfl
       refine⟨pv,trim L fr bG,?_,oh.trim (cq L) _,Km.au ajT (by omega) (by simp),bc.rd.one,E7,fun H' an=>?_⟩
       .rw[dt,aT,sb];rfl
       .obtain⟨_,⟨aE,aU⟩|⟨id,g,aE,_,hid⟩⟩:=id bc
        .have nr:fs=[]:=lX (by rw[<- dJ,aE];rfl)
         subst nr;subst aU
         exact⟨[],c1.rx (c1.start 0 3 H'),rfl,by decide,fun i x af=>by simp at af⟩
        .have j9:trim L fr bG=bG:=JT ajT (by omega) (id:=id) (g':=g) (n:=R.length) (w:=3) (by rw[aE];simp) hid _
         rw[j9]at an;exact aoa.done an
     |some p=>
       obtain⟨Bo,b⟩:=p;rw[ai]at q;obtain⟨bj,yF,TL,xh,a7,aT,a1,cB,gj,hA,id,g,m,aE,hid⟩:=q;dsimp only
       have j9:∀fr,trim L fr a7=a7:=fun fr=>JT gj (by omega) (id:=id) (g':=g) (n:=m) (w:=3) (by rw[aE];simp) hid fr
       have q:=aF (h.aVD Hb bK a1 cB bj) gj hA a1.1 TL (by omega)
       cases aY:rX (bt.of ao) N n Bo b with
       |error e=>
         rw[aY]at q;obtain⟨bP,D,ca,dw,e'⟩:=q
         refine⟨bP,D,.next aT ?_,aH.app a1 dw,e'⟩
         rw[B0,j9];exact ca
       |ok p=>
         obtain⟨f,b'⟩:=p;rw[aY]at q;obtain⟨aM1,D,ca,dw,e',jq,lQ,sF⟩:=q;refine⟨aM1,D,?_,aH.app a1 dw,e',jq,lQ,sF⟩;rw[dt,aT,JP,B0,j9];exact ca
end
def e3:od where
 N:=48
 bO:=.region E9 [] tM
 b4:=.region UX [] [0,8,9,10,11,12,13]
 dZ:=.seq (.bh PO [14] [15]) (.cond (.t 15) (.seq (.region NO [(1,3),(2,3),(2,4)] [5,15,16,17,18]) .ret) .skip)
 DN:=.seq (.region Pv [] [5,20,21,22]) (.seq (.block 0 (.loop [] acl)) (.seq (.region L4 [] [6,26,46,47]) .ret))
 a:=2
 b:=3
 c:=4
 d:=19
 k1:=abI
 hU:=6
 bP:=7
 Bx:=19
 jR:=qx
 z:=.agg mP
 fN:=acb
 xt:=.seq (.bh W5 [4] [10]) (.cond (.t 10) (.seq (.region VY [(3,4)] [0,1,10,11,12,13,14]) (.seq (.bh Uz [3,15,16,17] [18]) (.cond (.t 18) (.region Wx [] [2,18]) .skip))) .skip)
 rs:=AU.results
abbrev aMM(g0 g1 g2 y:V):Env:=[(0,g0),(1,g1),(2,g2),(3,bF),(4,bF),(5,bF),(6,.bu),(7,y),(8,bF),(9,bF),(10,bF),(11,bF),(12,bF),(13,bF),(14,bF),(15,bF),(16,bF),(17,bF),(18,bF)]
section
variable {ag:Nat->Option cz} {H:ad}
def ax0{call:c5}(base:Nat)(ah:base<=H.length)(g0 g1 g2:V)(kU dX fx gy ov:V)(af:[kU,dX,fx,gy,ov].all V.one=true)(c:Bool):cI call base (e3.fN.drop 2) (put (some e3.bP) (.bQ [.agg [kU,dX,fx,gy,ov],.s (.bool c)]) (put (some e3.hU) .bu ([g0,g1,g2]++List.replicate (e3.Bx-3) bF))) H=some (ax 19 [(0,g0),(1,g1),(2,g2),(3,.ref H.length 0 0),(4,.s (.bool c)),(5,.bQ [.agg [kU,dX,fx,gy,ov],.s (.bool c)]),(6,.bu),(7,.bQ [.agg [kU,dX,fx,gy,ov],.s (.bool c)]),(8,.agg [kU,dX,fx,gy,ov]),(9,.s (.bool c)),(10,bF),(11,bF),(12,bF),(13,bF),(14,bF),(15,bF),(16,bF),(17,bF),(18,bF)],H++[.cells 0 [kU,dX,fx,gy,ov]]):=by
 have sb:put (some e3.bP) (.bQ [.agg [kU,dX,fx,gy,ov],.s (.bool c)]) (put (some e3.hU) .bu ([g0,g1,g2]++List.replicate (e3.Bx-3) bF))=ax 19 (aMM g0 g1 g2 (.bQ [.agg [kU,dX,fx,gy,ov],.s (.bool c)])):=rfl;have aq:e3.fN.drop 2=[⟨some 5,(.move (.t 7)),none⟩,⟨some 8,(.extract (.t 5) 0),none⟩,⟨some 9,(.extract (.t 5) 1),none⟩,⟨some 3,(.alloc [(.s (.int .u8 0)),(.s (.string ⟨#[]⟩)),(.s (.int .i64 0)),(.s (.int .i64 0)),(.s (.int .i64 0))]),none⟩,⟨none,(.store 5 (.t 3) (.t 8)),none⟩,⟨some 4,(.move (.t 9)),none⟩]:=rfl;rw[sb,aq];have cg:∀c,au (H++[aM.cells 0 c]) H.length 0=some c:=fun c=>cQ H 0 c;have dE:∀c e,(H++[c]).set H.length e=H++[e]:=fun c e=>iI H c e;simp only[pq,qo,kw]at af;simp only[aG,simprocAttr,cg,dE,ah,af]
def aWa(base:Nat)(ah:base<=H.length)(g0 g1 g2:V):e3.vc (aR ag) aN base (.bQ [e3.z,.s (.bool false)]) g0 g1 g2 H (H++[.cells 0 mP]):=by
 refine⟨_,_,ax 19 [(0,g0),(1,g1),(2,g2),(3,.ref H.length 0 0),(5,.bQ [.agg mP,.s (.bool false)]),(6,.bu),(7,.bQ [.agg mP,.s (.bool false)]),(8,.agg mP),(9,.s (.bool false)),(10,ar false),(11,bF),(12,bF),(13,bF),(14,bF),(15,bF),(16,bF),(17,bF),(18,bF)],ax0 base ah g0 g1 g2 _ _ _ _ _ (by decide) false,?_⟩
 simp only[e3,simprocAttr,mP,ar,PW,aG]
def aVw(base:Nat)(ah:base<=H.length){z2 z3 z4:Nat}(km:base<=z2)(Y7:z2<z3)(aXT:z3<z4)(bl:z4<H.length){k7 cn dP gn:V}(k2:au H z2 0=some [k7])(eN:au H z3 0=some [cn,dP])(j5:au H z4 0=some [gn])(t:Tok.T):
 ∃H',e3.vc (aR ag) aN base (.bQ [.agg (dA t),.s (.bool true)]) (.ref z2 0 0) (.ref z3 0 0) (.ref z4 0 0) H H'/\au H' z2 0=some [cm]/\au H' z3 0=some [U t.line,U t.rR]/\au H' z4 0=some [U (if t.kind=4 then 41 else 40)]/\H.length<=H'.length/\∀id,id<H.length->id≠z2->id≠z3->id≠z4->H'[id]?=H[id]?:=by
 obtain⟨D0,ML⟩:∃X,H++[aM.cells 0 (dA t)]=X:=⟨_,rfl⟩;have cX:Ext H D0:=ML▸Ext.app _ _
 have fN:D0.length=H.length+1:=by rw[<- ML,dh]
 have gt:au D0 H.length 0=some (dA t):=ML▸cQ H 0 _;have aI:=ax0 (call:=aR ag) base ah (.ref z2 0 0) (.ref z3 0 0) (.ref z4 0 0) (.s (.int .u8 t.kind)) (.s (.string ⟨t.text.toArray⟩)) (U t.n) (U t.line) (U t.rR) rfl true;have aUD:H++[aM.cells 0 [.s (.int .u8 t.kind),.s (.string ⟨t.text.toArray⟩),U t.n,U t.line,U t.rR]]=D0:=ML;rw[aUD]at aI;obtain⟨y,bC⟩:∃y,V.bQ [.agg [.s (.int .u8 t.kind),.s (.string ⟨t.text.toArray⟩),U t.n,U t.line,U t.rR],.s (.bool true)]=y:=⟨_,rfl⟩;obtain⟨yY,aVy⟩:∃y,V.agg [.s (.int .u8 t.kind),.s (.string ⟨t.text.toArray⟩),U t.n,U t.line,U t.rR]=y:=⟨_,rfl⟩;obtain⟨bX,gE⟩:∃X,D0.set z2 (.cells 0 [cm])=X:=⟨_,rfl⟩;obtain⟨bU,iz⟩:∃X,bX.set z3 (.cells 0 [U t.line,U t.rR])=X:=⟨_,rfl⟩;obtain⟨dq,iA⟩:∃X,bU.set z4 (.cells 0 [U 40])=X:=⟨_,rfl⟩;obtain⟨wm,K8⟩:∃X,dq.set z4 (.cells 0 [U 41])=X:=⟨_,rfl⟩;have eI:=b7 k2 cX
 have jQ:au bX z3 0=some [cn,dP]:=by
  have:=b7 eN cX;unfold au at this |-
  rw[<- gE,cG (by omega)]
  exact this
 have pf:au bU z4 0=some [gn]:=by
  have:=b7 j5 cX;unfold au at this |-
  rw[<- iz,cG (by omega),<- gE,cG (by omega)]
  exact this
 have Sh:au dq H.length 0=some (dA t):=by
  unfold au at gt |-
  rw[<- iA,cG (by omega),<- iz,cG (by omega),<- gE,cG (by omega)]
  exact gt
 have Of:au dq z4 0=some [U 40]:=iA▸fJ pf _
 have aUK:base<=z3:=by omega
 have aeZ:base<=z4:=by omega
 have bP:aL (aR ag) aN base (.bh W5 [4] [10]) (ax 19 [(0,.ref z2 0 0),(1,.ref z3 0 0),(2,.ref z4 0 0),(3,.ref H.length 0 0),(4,.s (.bool true)),(5,y),(6,.bu),(7,y),(8,yY),(9,.s (.bool true)),(10,bF),(11,bF),(12,bF),(13,bF),(14,bF),(15,bF),(16,bF),(17,bF),(18,bF)]) D0=some (.bR,ax 19 [(0,.ref z2 0 0),(1,.ref z3 0 0),(2,.ref z4 0 0),(3,.ref H.length 0 0),(5,y),(6,.bu),(7,y),(8,yY),(9,.s (.bool true)),(10,ar true),(11,bF),(12,bF),(13,bF),(14,bF),(15,bF),(16,bF),(17,bF),(18,bF)],D0):=by
  simp only[ar,simprocAttr,PW,aG]
 have aa:cI (aR ag) base VY (ax 19 [(0,.ref z2 0 0),(1,.ref z3 0 0),(2,.ref z4 0 0),(3,.ref H.length 0 0),(5,y),(6,.bu),(7,y),(8,yY),(9,.s (.bool true)),(10,ar true),(11,bF),(12,bF),(13,bF),(14,bF),(15,bF),(16,bF),(17,bF),(18,bF)]) D0=some (ax 19 [(0,.ref z2 0 0),(1,.ref z3 0 0),(2,.ref z4 0 0),(3,.ref H.length 0 0),(5,y),(6,.bu),(7,y),(8,yY),(9,.s (.bool true)),(10,ar true),(11,.agg [cm]),(12,.ref H.length 0 0),(13,.ref H.length 0 3),(14,.agg [U t.line,U t.rR]),(15,bF),(16,bF),(17,bF),(18,bF)],dq):=by
  simp only[dA,U,cm]at gt eI jQ pf gE iz iA;simp only[VY,simprocAttr,U,cm,aG,gt,eI,jQ,pf,km,aUK,aeZ,gE,iz,iA]
  try rfl
 have ca:=aar (it:=aN) (ct:=[(3,4)]) (kill:=[0,1,10,11,12,13,14]) aa (by
  show((H.length != z2)&&true)=true;rw[kw,mw];omega)
 have zd:ul [0,1,10,11,12,13,14] (ax 19 [(0,.ref z2 0 0),(1,.ref z3 0 0),(2,.ref z4 0 0),(3,.ref H.length 0 0),(5,y),(6,.bu),(7,y),(8,yY),(9,.s (.bool true)),(10,ar true),(11,.agg [cm]),(12,.ref H.length 0 0),(13,.ref H.length 0 3),(14,.agg [U t.line,U t.rR]),(15,bF),(16,bF),(17,bF),(18,bF)])=ax 19 [(2,.ref z4 0 0),(3,.ref H.length 0 0),(5,y),(6,.bu),(7,y),(8,yY),(9,.s (.bool true)),(15,bF),(16,bF),(17,bF),(18,bF)]:=by
  simp only[aG,simprocAttr]
 rw[zd]at ca
 have fin:∀{r1:ad} {n:Int} {fr:List V},aL (aR ag) aN base (.seq (.bh Uz [3,15,16,17] [18]) (.cond (.t 18) (.region Wx [] [2,18]) .skip)) (ax 19 [(2,.ref z4 0 0),(3,.ref H.length 0 0),(5,y),(6,.bu),(7,y),(8,yY),(9,.s (.bool true)),(15,bF),(16,bF),(17,bF),(18,bF)]) dq=some (.bR,fr,r1)->(∀id,id≠z4->r1[id]?=dq[id]?)->dq.length=r1.length->au r1 z4 0=some [U n]->n=(if t.kind=4 then 41 else 40)->∃H',e3.vc (aR ag) aN base (.bQ [.agg (dA t),.s (.bool true)]) (.ref z2 0 0) (.ref z3 0 0) (.ref z4 0 0) H H'/\au H' z2 0=some [cm]/\au H' z3 0=some [U t.line,U t.rR]/\au H' z4 0=some [U (if t.kind=4 then 41 else 40)]/\H.length<=H'.length/\∀id,id<H.length->id≠z2->id≠z3->id≠z4->H'[id]?=H[id]?:=by
  intro r1 n fr aj aX aq a8 aJ;subst aJ;have g2:au bX z2 0=some [cm]:=gE▸fJ eI _;have g3:au bU z3 0=some [U t.line,U t.rR]:=iz▸fJ jQ _
  have qM:dq.length=H.length+1:=by rw[<- iA,fP,<- iz,fP,<- gE,fP,fN]
  refine⟨r1,⟨_,_,fr,aI,?_⟩,?_,?_,a8,by omega,fun id i1 i2 i3 i4=>?_⟩
  .rw[bC,aVy];exact(e1 bP).trans ((Qc rfl).trans ((e1 ca).trans aj))
  .unfold au at g2 |-
   rw[aX z2 (by omega),<- iA,cG (by omega),<- iz,cG (by omega)]
   exact g2
  .unfold au at g3 |-
   rw[aX z3 (by omega),<- iA,cG (by omega)]
   exact g3
  .rw[aX id i4,<- iA,cG (by omega),<- iz,cG (by omega),<- gE,cG (by omega),cX.get i1]
 simp only[dA,U]at Sh Of K8;by_cases an:t.kind=4
 .have bj:(((t.kind:Nat):Int)==4)=true:=by rw[an];rfl
  refine fin (r1:=wm) (n:=41) (fr:=ax 19 [(5,y),(6,.bu),(7,y),(8,yY),(9,.s (.bool true))]) ?_ (fun id hid=>by rw[<- K8,cG (iV hid)]) (by rw[<- K8,fP]) (K8▸fJ Of _) (by rw[bE an])
  simp only[PW,simprocAttr,aG,Sh,bj,Of,aeZ,K8]
 .have bj:(((t.kind:Nat):Int)==4)=false:=by rw[kp];omega
  refine fin (r1:=dq) (n:=40) (fr:=ax 19 [(2,.ref z4 0 0),(5,y),(6,.bu),(7,y),(8,yY),(9,.s (.bool true)),(18,ar false)]) ?_ (fun id hid=>rfl) rfl Of (by rw[bV an])
  simp only[ar,simprocAttr,PW,aG,Sh,bj]
end
structure F6 (ao:List Tok.T) (n:Nat):Prop where
 ne:ao≠[]
 len:ao.length<=n+1
 wf:jP ao
def F6.cons{ao:List Tok.T}{n k:Nat}{t:Tok.T}(h:F6 ao n)(an:n+1<=k)(bl:t.kind≠4)(J:t.kind=1->t.text≠[]):F6 (t::ao) k:=by
 obtain⟨ne,len,wf⟩:=h
 refine⟨by simp,by rw[c3];omega,fun a aO G6=>?_,fun a aO G6=>?_⟩
 .cases a with
  |zero=>
    have:ao.length≠0:=fun e=>ne (lX e);rw[c3];omega
  |succ a=>
    rw[c3]at aO |-;rw[qt]at G6
    have:=wf.pn a (by omega) G6
    omega
 .cases a with
  |zero=>exact J G6
  |succ a=>
    rw[c3]at aO;rw[qt]at G6 |-
    exact wf.nm a (by omega) G6
def aJe:∀(n:Nat) (l:List UInt8) (bo bB:Nat) (ao:List Tok.T),l.length<=n->Tok.lex l bo bB=.done ao->F6 ao l.length:=by
 intro n
 induction n with
 |zero=>
   intro l bo bB ao aq h
   have:l=[]:=lX (by omega)
   subst this;rw[Tok.lex_nil]at h;cases h
   exact⟨by simp,by simp,fun a aO an=>by(have:a=0:=by simpa using aO);subst this;exact absurd rfl an,fun a aO an=>by(have:a=0:=by simpa using aO);subst this;cases an⟩
 |succ n aF=>
   intro l bo bB ao aq h;cases l with
   |nil=>exact(by
      rw[Tok.lex_nil]at h;cases h
      exact⟨by simp,by simp,fun a aO an=>by(have:a=0:=by simpa using aO);subst this;exact absurd rfl an,fun a aO an=>by(have:a=0:=by simpa using aO);subst this;cases an⟩)
   |cons c l=>
     rw[c3]at aq
     have mono:∀{m:Nat} {ao:List Tok.T},F6 ao m->m<=l.length->F6 ao (c::l).length:=fun g hm=>⟨g.ne,by have:=g.len;rw[c3];omega,g.wf⟩
     rw[Tok.qy]at h;split at h
     .split at h
      .exact mono (aF _ _ _ _ (by omega) h) (cq _)
      .exact mono (aF _ _ _ _ (by omega) h) (cq _)
     split at h
     .exact mono (aF _ _ _ _ (by rw[lm];omega) h) (by rw[lm];omega)
     split at h
     .obtain⟨us,hu,rfl⟩:=Tok.Aw h
      exact(aF _ _ _ _ (by rw[lm];omega) hu).cons (by rw[lm,c3];omega) (fun e=>by cases e) (fun _=>by simp)
     split at h
     .split at h
      .cases h
      .obtain⟨us,hu,rfl⟩:=Tok.Aw h
       exact(aF _ _ _ _ (by rw[lm];omega) hu).cons (by rw[lm,c3];omega) (fun e=>by cases e) (fun e=>by cases e)
     split at h
     .obtain⟨us,hu,rfl⟩:=Tok.Aw h
      exact(aF _ _ _ _ (by omega) hu).cons (by rw[c3];omega) (fun e=>by cases e) (fun e=>by cases e)
     .cases h
def WW{l:List UInt8}(h:(kR l).2.2=0):l.length<=1048576/\Tok.lex l 1 1=.done (kR l).1/\(kR l).2.1=(0,0):=by
 unfold kR at h |-;by_cases aq:1048576<l.length
 .rw[bE aq]at h;cases h
 .rw[bV aq]at h |-;cases af:Tok.lex l 1 1 with
  |done ao=>exact⟨by omega,rfl,rfl⟩
  |bad e a q=>
    rw[af]at h;have:=Tok.aPG l.length l (1,1) e a q (cq _) af;obtain⟨J,_⟩:=this;dsimp only at h;omega
def aGx{l:List UInt8}(h:(kR l).2.2=0):0<(kR l).1.length/\jP (kR l).1/\(kR l).1.length+1<2^21:=by
 obtain⟨J,aa,_⟩:=WW h;have g:=aJe l.length l 1 1 _ (cq _) aa;have:=g.len
 exact⟨Nat.pos_of_ne_zero fun e=>g.ne (lX e),g.wf,by omega⟩
def aqR(H:ad):iF H cm []:=⟨[],c1.rx (c1.start 0 3 H),rfl,by decide,fun i x af=>by simp at af⟩
def kq(l:List UInt8):List cT × (Nat × Nat) × Nat:=
 if(kR l).2.2=0 then match GH (kR l).1 with
  |.ok fs=>(fs,(0,0),0)
  |.error j=>([],(((kR l).1.getD j ef).line,((kR l).1.getD j ef).rR),if((kR l).1.getD j ef).kind=4 then 41 else 40)
 else([],(kR l).2.1,(kR l).2.2)
section
variable {ag:Nat->Option cz}
set_option maxHeartbeats 1000000 in
def aSr(iR:AJ ag)(cU:ag DU=some (.code qY))(T:uh ag)(base:Nat){H:ad}(ah:base<=H.length)(b:ByteArray):
 ∃v H',e3.A' (aR ag) aN (ns ag) [.s (.string b)] base H (.bQ [.agg [v],.agg [U (kq b.data.toList).2.1.1,U (kq b.data.toList).2.1.2],U (kq b.data.toList).2.2]) H'/\Ext H H'/\∀kh,(∀id,H.length<=id->id<H'.length->kh[id]?=H'[id]?)->iF kh v (kq b.data.toList).1:=by
 obtain⟨r,ak⟩:∃r,kR b.data.toList=r:=⟨_,rfl⟩;have Zy:=aGx (l:=b.data.toList);have fU:=WW (l:=b.data.toList);unfold kq;rw[ak]at Zy fU |-;obtain⟨H1,k0⟩:∃X,H++[aM.cells 0 [cm]]=X:=⟨_,rfl⟩
 have cW:H1.length=H.length+1:=by rw[<- k0,dh]
 obtain⟨bH,k8⟩:∃X,H1++[aM.cells 0 [U 0,U 0]]=X:=⟨_,rfl⟩
 have fZ:bH.length=H.length+2:=by rw[<- k8,dh,cW]
 obtain⟨cV,qS⟩:∃X,bH++[aM.cells 0 [U 0]]=X:=⟨_,rfl⟩
 have qM:cV.length=H.length+3:=by rw[<- qS,dh,fZ]
 have aE:Ext H H1:=k0▸Ext.app _ _;have aU:Ext H1 bH:=k8▸Ext.app _ _;have cd:Ext bH cV:=qS▸Ext.app _ _;have mG:Ext H cV:=aE.trans (aU.trans cd);have k2:au cV H.length 0=some [cm]:=b7 (k0▸cQ H 0 _) (aU.trans cd)
 have eN:au cV (H.length+1) 0=some [U 0,U 0]:=b7 (by rw[<- cW,<- k8];exact cQ H1 0 _) cd
 have j5:au cV (H.length+2) 0=some [U 0]:=by rw[<- fZ,<- qS];exact cQ bH 0 _
 have a0:aL (aR ag) aN base e3.bO ([V.s (.string b)]++List.replicate (e3.N - [V.s (.string b)].length) bF) H=some (.bR,ax 48 [(0,.s (.string b)),(2,.ref H.length 0 0),(3,.ref (H.length+1) 0 0),(4,.ref (H.length+2) 0 0)],cV):=by
  have ai:[V.s (.string b)]++List.replicate (e3.N - [V.s (.string b)].length) bF=ax AU.ntmps (fL AU.ntmps [.s (.string b)] 0):=Go.ea.start_eq (n:=AU.ntmps) (by show 1<=48;decide)
  rw[ai];have sb:eL (List.range' 1 (AU.ntmps-1)) (.region E9 [] tM)=true:=azw;show aL _ _ _ (.region E9 [] tM) _ _=_
  rw[Cz (.region E9 [] tM) H sb (IW (k:=1) rfl (by decide))]
  simp only[U,cm]at k0 k8 qS;simp only[AU,simprocAttr,sV,aG,k0,k8,qS,cW,fZ]
 obtain⟨mc,gv,dX,fx,gy⟩:=aVa cU T base cV (by omega) b r ak
 have g2:au gv H.length 0=some [cm]:=gy.au k2 (iC k2) (by simp)
 have g3:au gv (H.length+1) 0=some [U 0,U 0]:=gy.au eN (iC eN) (by simp)
 have g4:au gv (H.length+2) 0=some [U 0]:=gy.au j5 (iC j5) (by simp)
 have iM:=gy.1;obtain⟨rf,FL⟩:∃X,gv.set (H.length+1) (.cells 0 [U r.2.1.1,U r.2.1.2])=X:=⟨_,rfl⟩;obtain⟨kf,He⟩:∃X,rf.set (H.length+2) (.cells 0 [U r.2.2])=X:=⟨_,rfl⟩
 have aYj:kf.length=gv.length:=by rw[<- He,fP,<- FL,fP]
 have Le:∀i,i≠H.length+1->i≠H.length+2->kf[i]?=gv[i]?:=fun i i1 i2=>by rw[<- He,cG (iV i2),<- FL,cG (iV i1)]
 have Qk:au rf (H.length+2) 0=some [U 0]:=by
  unfold au at g4 |-
  rw[<- FL,cG (by omega)]
  exact g4
 have xq:au kf (H.length+2) 0=some [U r.2.2]:=He▸fJ Qk _
 have Ib:au kf (H.length+1) 0=some [U r.2.1.1,U r.2.1.2]:=by
  have:au rf (H.length+1) 0=some [U r.2.1.1,U r.2.1.2]:=FL▸fJ g3 _;unfold au at this |-
  rw[<- He,cG (by omega)]
  exact this
 have CQ:au kf H.length 0=some [cm]:=by
  unfold au at g2 |-
  rw[Le _ (by omega) (by omega)]
  exact g2
 have zX:c1 cV.length 5 kf mc (r.1.map dA):=fx.cD fun id g n e=>by
  subst e;have:=iK fx
  exact Le id (by omega) (by omega)
 have J4:Ext H kf:=Ext.FX (by omega) fun i hi=>by rw[Le i (by omega) (by omega),gy.2 i (by omega) (by simp),mG.get hi]
 have eg:base<=H.length+1:=by omega
 have km:base<=H.length+2:=by omega
 have bw:aL (aR ag) aN base e3.b4 (ax 48 [(0,.s (.string b)),(2,.ref H.length 0 0),(3,.ref (H.length+1) 0 0),(4,.ref (H.length+2) 0 0)]) cV=some (.bR,ax 48 [(2,.ref H.length 0 0),(3,.ref (H.length+1) 0 0),(4,.ref (H.length+2) 0 0),(5,mc)],kf):=by
  simp only[U]at dX g3 Qk FL He;simp only[e3,simprocAttr,sV,aG,dX,g3,Qk,eg,km,FL,He]
 have j2:∀{C:ad} {fr:List V} {v:V} {x y z:Int},fr.getD 2 .bu=.ref H.length 0 0->fr.getD 3 .bu=.ref (H.length+1) 0 0->fr.getD 4 .bu=.ref (H.length+2) 0 0->au C H.length 0=some [v]->au C (H.length+1) 0=some [U x,U y]->au C (H.length+2) 0=some [U z]->ky e3.rs fr C=some (.bQ [.agg [v],.agg [U x,U y],U z]):=by
  intro C fr v x y z f2 f3 f4 cZ hN lV
  have d2:iu C true 1 (.ref H.length 0 0)=some (.agg [v]):=by show fa _ true 1 _=_;rw[h1,cZ];rfl
  have d3:iu C true 2 (.ref (H.length+1) 0 0)=some (.agg [U x,U y]):=by show fa _ true 2 _=_;rw[h1,hN];rfl
  have d4:iu C false 1 (.ref (H.length+2) 0 0)=some (U z):=by show fa _ false 1 _=_;rw[h1,lV];rfl
  show(match[l2.cell 2 true 1,.cell 3 true 2,.cell 4 false 1].mapM (kJ fr C)with|some [v]=>some v|some vs=>some (.bQ vs)|none=>none)=_
  simp only[rA,NT,kJ,f2,f3,f4,d2,d3,d4];rfl
 by_cases bd:r.2.2=0
 .rw[bE bd];obtain⟨dn,wf,aJ⟩:=Zy bd;obtain⟨_,_,oG⟩:=fU bd
  have he:((r.2.2:Nat):Int)=0:=by rw[bd];rfl
  have a2:aL (aR ag) aN base e3.dZ (ax 48 [(2,.ref H.length 0 0),(3,.ref (H.length+1) 0 0),(4,.ref (H.length+2) 0 0),(5,mc)]) kf=some (.bR,ax 48 [(2,.ref H.length 0 0),(3,.ref (H.length+1) 0 0),(4,.ref (H.length+2) 0 0),(5,mc),(15,ar false)],kf):=by
   have q:(((r.2.2:Nat):Int) != 0)=false:=by rw[he];rfl
   simp only[U]at xq;simp only[e3,simprocAttr,ar,sV,aG,xq,q]
  obtain⟨fn,tF⟩:∃fn,V.fn abI [] [.ref H.length 0 0,.ref (H.length+1) 0 0,.ref (H.length+2) 0 0]=fn:=⟨_,rfl⟩;obtain⟨Hw,Lb⟩:∃X,kf++[aM.cells 0 [mc,U 0]]=X:=⟨_,rfl⟩;have yL:Ext kf Hw:=Lb▸Ext.app _ _
  have aYw:Hw.length=kf.length+1:=by rw[<- Lb,dh]
  have aEb:mc.one=true:=zX.rd.one
  have aI4:mc.cells=[mc]:=by obtain⟨_,⟨_,rfl⟩|⟨id,g,rfl,_⟩⟩:=zX<;>rfl
  have jq:aL (aR ag) aN base (.region Pv [] [5,20,21,22]) (ax 48 [(2,.ref H.length 0 0),(3,.ref (H.length+1) 0 0),(4,.ref (H.length+2) 0 0),(5,mc),(15,ar false),(19,fn)]) kf=some (.bR,ax 48 [(2,.ref H.length 0 0),(3,.ref (H.length+1) 0 0),(4,.ref (H.length+2) 0 0),(6,.ref kf.length 0 0),(15,ar false),(19,fn)],Hw):=by
   have aYL:((0:Nat):Int)=0:=rfl;simp only[U]at Lb;simp only[ar,simprocAttr,sV,aG,aEb,aI4,eG,Lb]
  have ig:cy kf.length mc r.1 Hw 0:=by
   refine⟨Lb▸cQ kf 0 _,⟨cV.length,zX.cD fun id g n e=>yL.get (zX.lt id g n e)⟩,fun id g n e=>zX.lt id g n e,dn,by omega⟩
  have q:=aWQ iR wf base (z2:=H.length) (z3:=H.length+1) (z4:=H.length+2) (L:=Hw.length) ah (by omega) (by omega) (fun id g n e=>by
   subst e;have:=iK zX
   omega) (fn:=fn) (N:=r.1.length+1) (by omega) aJ (r.1.length+1) ig (b7 CQ yL) (GS.start _ _) (cq _) (gY _) (by omega)
  unfold GH;cases ay:rX (bt.of r.1) (r.1.length+1) (r.1.length+1) [] 0 with
  |ok p=>
    obtain⟨fs,mj⟩:=p;rw[ay]at q;obtain⟨pv,C,aT,a1,cB,gj,hA,nN⟩:=q;dsimp only;have Ss:=a1.1
    have BL:au C (H.length+1) 0=some [U r.2.1.1,U r.2.1.2]:=a1.au (b7 Ib yL) (by omega) (by simp;omega)
    have Pn:au C (H.length+2) 0=some [U r.2.2]:=a1.au (b7 xq yL) (by omega) (by simp;omega)
    have gl:fa C true 1 (.ref H.length 0 0)=some (.agg [pv]):=by rw[h1,cB];rfl
    obtain⟨bX,gE⟩:∃X,C.set H.length (.cells 0 [pv])=X:=⟨_,rfl⟩;obtain⟨bU,iz⟩:∃X,bX.set (H.length+1) (.cells 0 [U 0,U 0])=X:=⟨_,rfl⟩;obtain⟨dq,iA⟩:∃X,bU.set (H.length+2) (.cells 0 [U 0])=X:=⟨_,rfl⟩;have eI:au bX H.length 0=some [pv]:=gE▸fJ cB _
    have jQ:au bX (H.length+1) 0=some [U r.2.1.1,U r.2.1.2]:=by
     unfold au at BL |-
     rw[<- gE,cG (by omega)]
     exact BL
    have pf:au bU (H.length+2) 0=some [U r.2.2]:=by
     unfold au at Pn |-
     rw[<- iz,cG (by omega),<- gE,cG (by omega)]
     exact Pn
    have vz:aL (aR ag) aN base (.seq (.region L4 [] [6,26,46,47]) .ret) (ax 48 [(2,.ref H.length 0 0),(3,.ref (H.length+1) 0 0),(4,.ref (H.length+2) 0 0),(6,.ref kf.length 0 0),(15,ar false),(19,fn),(26,ar false)]) C=some (.ret,ax 48 [(2,.ref H.length 0 0),(3,.ref (H.length+1) 0 0),(4,.ref (H.length+2) 0 0),(15,ar false),(19,fn)],dq):=by
     simp only[U]at jQ pf iz iA;simp only[ar,simprocAttr,sV,aG,gl,cB,jQ,pf,ah,eg,km,gj,gE,iz,iA]
    have aDM:aL (aR ag) aN base (.block 0 (.loop [] acl)) (ax 48 [(2,.ref H.length 0 0),(3,.ref (H.length+1) 0 0),(4,.ref (H.length+2) 0 0),(6,.ref kf.length 0 0),(15,ar false),(19,fn)]) Hw=some (.bR,ax 48 [(2,.ref H.length 0 0),(3,.ref (H.length+1) 0 0),(4,.ref (H.length+2) 0 0),(6,.ref kf.length 0 0),(15,ar false),(19,fn),(26,ar false)],C):=by
     simp only[ar]at aT;simp only[ar,aG,aT]
    have aXo:dq.length=C.length:=by rw[<- iA,fP,<- iz,fP,<- gE,fP]
    have pg:∀i,i≠H.length->i≠H.length+1->i≠H.length+2->dq[i]?=C[i]?:=fun i i1 i2 i3=>by rw[<- iA,cG (iV i3),<- iz,cG (iV i2),<- gE,cG (iV i1)]
    have cZ:au dq H.length 0=some [pv]:=by
     unfold au at eI |-
     rw[<- iA,cG (by omega),<- iz,cG (by omega)]
     exact eI
    have hN:au dq (H.length+1) 0=some [U 0,U 0]:=by
     have:au bU (H.length+1) 0=some [U 0,U 0]:=iz▸fJ jQ _;unfold au at this |-
     rw[<- iA,cG (by omega)]
     exact this
    have lV:au dq (H.length+2) 0=some [U 0]:=iA▸fJ pf _
    have L0:Ext H dq:=Ext.FX (by omega) fun i hi=>by rw[pg i (by omega) (by omega) (by omega),a1.2 i (by omega) (by simp;omega),yL.get (by omega),J4.get hi]
    have dT:∀c,Ext dq (dq++[aM.cells 0 c]):=fun c=>Ext.app _ _
    refine⟨pv,dq++[.cells 0 mP],⟨_,_,_,_,a0,bw,.inr ⟨_,_,_,_,_,a2,by rw[u7];show 19<48;decide,rfl,rfl,rfl,.inl ⟨.ret,ax 48 [(2,.ref H.length 0 0),(3,.ref (H.length+1) 0 0),(4,.ref (H.length+2) 0 0),(15,ar false),(19,fn)],dq,.inr rfl,?_,aWa base (by omega) _ _ _,j2 rfl rfl rfl (b7 cZ (dT _)) (b7 hN (dT _)) (b7 lV (dT _))⟩⟩⟩,L0.trans (dT _),fun kh an=>nN kh fun id i1 i2=>?_⟩
    .show aL _ _ _ e3.DN (put (some e3.d) (.fn e3.k1 [] [.ref H.length 0 0,.ref (H.length+1) 0 0,.ref (H.length+2) 0 0]) (ax 48 [(2,.ref H.length 0 0),(3,.ref (H.length+1) 0 0),(4,.ref (H.length+2) 0 0),(5,mc),(15,ar false)])) kf=_
     have WJ:put (some e3.d) (.fn e3.k1 [] [.ref H.length 0 0,.ref (H.length+1) 0 0,.ref (H.length+2) 0 0]) (ax 48 [(2,.ref H.length 0 0),(3,.ref (H.length+1) 0 0),(4,.ref (H.length+2) 0 0),(5,mc),(15,ar false)])=ax 48 [(2,.ref H.length 0 0),(3,.ref (H.length+1) 0 0),(4,.ref (H.length+2) 0 0),(5,mc),(15,ar false),(19,fn)]:=by rw[<- tF];rfl
     rw[WJ];exact(e1 jq).trans ((e1 aDM).trans vz)
    .rw[an id (by omega) (by rw[dh];omega),(dT mP).get (by omega),pg id (by omega) (by omega) (by omega)]
  |error j=>
    rw[ay]at q;obtain⟨oj,C,aT,a1,k7,cB⟩:=q;dsimp only;have Ss:=a1.1
    have BL:au C (H.length+1) 0=some [U r.2.1.1,U r.2.1.2]:=a1.au (b7 Ib yL) (by omega) (by simp;omega)
    have Pn:au C (H.length+2) 0=some [U r.2.2]:=a1.au (b7 xq yL) (by omega) (by simp;omega)
    obtain⟨H',t1,t2,t3,t4,t5,t6⟩:=aVw (ag:=ag) base (H:=C) (by omega) ah (by omega) (by omega) (by omega) cB BL Pn (r.1.getD j ef)
    have WJ:put (some e3.d) (.fn e3.k1 [] [.ref H.length 0 0,.ref (H.length+1) 0 0,.ref (H.length+2) 0 0]) (ax 48 [(2,.ref H.length 0 0),(3,.ref (H.length+1) 0 0),(4,.ref (H.length+2) 0 0),(5,mc),(15,ar false)])=ax 48 [(2,.ref H.length 0 0),(3,.ref (H.length+1) 0 0),(4,.ref (H.length+2) 0 0),(5,mc),(15,ar false),(19,fn)]:=by rw[<- tF];rfl
    have CU:gg (aR ag) (ns ag) aN base (e3.cond (.ref H.length 0 0) (.ref (H.length+1) 0 0) (.ref (H.length+2) 0 0)) e3.DN (put (some e3.d) (.fn e3.k1 [] [.ref H.length 0 0,.ref (H.length+1) 0 0,.ref (H.length+2) 0 0]) (ax 48 [(2,.ref H.length 0 0),(3,.ref (H.length+1) 0 0),(4,.ref (H.length+2) 0 0),(5,mc),(15,ar false)])) kf (e3.jR,.agg (dA (r.1.getD j ef)),C):=by
     rw[WJ];exact dG jq (kW aT)
    have aMP:(((if(r.1.getD j ef).kind=4 then 41 else 40:Nat)):Int)=if(r.1.getD j ef).kind=4 then 41 else 40:=by split<;>rfl
    refine⟨cm,H',⟨_,_,_,_,a0,bw,.inr ⟨_,_,_,_,_,a2,by rw[u7];show 19<48;decide,rfl,rfl,rfl,.inr ⟨_,C,CU,t1,?_⟩⟩⟩,Ext.FX (by omega) fun i hi=>?_,fun kh _=>aqR kh⟩
    .rw[aMP];exact j2 rfl rfl rfl t2 t3 t4
    .rw[t6 i (by omega) (by omega) (by omega) (by omega),a1.2 i (by omega) (by simp;omega),yL.get (by omega),J4.get hi]
 .rw[bV bd]
  have eS:(((r.2.2:Nat):Int) != 0)=true:=by rw[mw];omega
  have Gp:fa kf true 2 (.ref (H.length+1) 0 0)=some (.agg [U r.2.1.1,U r.2.1.2]):=by rw[h1,Ib];rfl
  obtain⟨bX,gE⟩:∃X,kf.set H.length (.cells 0 [cm])=X:=⟨_,rfl⟩;obtain⟨bU,iz⟩:∃X,bX.set (H.length+1) (.cells 0 [U r.2.1.1,U r.2.1.2])=X:=⟨_,rfl⟩;obtain⟨dq,iA⟩:∃X,bU.set (H.length+2) (.cells 0 [U r.2.2])=X:=⟨_,rfl⟩;have eI:au bX H.length 0=some [cm]:=gE▸fJ CQ _
  have jQ:au bX (H.length+1) 0=some [U r.2.1.1,U r.2.1.2]:=by
   unfold au at Ib |-
   rw[<- gE,cG (by omega)]
   exact Ib
  have pf:au bU (H.length+2) 0=some [U r.2.2]:=by
   unfold au at xq |-
   rw[<- iz,cG (by omega),<- gE,cG (by omega)]
   exact xq
  have ca:aL (aR ag) aN base (.bh PO [14] [15]) (ax 48 [(2,.ref H.length 0 0),(3,.ref (H.length+1) 0 0),(4,.ref (H.length+2) 0 0),(5,mc)]) kf=some (.bR,ax 48 [(2,.ref H.length 0 0),(3,.ref (H.length+1) 0 0),(4,.ref (H.length+2) 0 0),(5,mc),(15,ar true)],kf):=by
   simp only[U]at xq;simp only[ar,simprocAttr,sV,aG,xq,eS]
  have aI:cI (aR ag) base NO (ax 48 [(2,.ref H.length 0 0),(3,.ref (H.length+1) 0 0),(4,.ref (H.length+2) 0 0),(5,mc),(15,ar true)]) kf=some (ax 48 [(2,.ref H.length 0 0),(3,.ref (H.length+1) 0 0),(4,.ref (H.length+2) 0 0),(5,mc),(15,ar true),(16,.agg [cm]),(17,.agg [U r.2.1.1,U r.2.1.2]),(18,U r.2.2)],dq):=by
   simp only[U,cm]at xq CQ jQ pf gE iz iA Gp;simp only[NO,simprocAttr,U,cm,ar,aG,Gp,xq,CQ,jQ,pf,ah,eg,km,gE,iz,iA]
   try rfl
  have dw:=aar (it:=aN) (ct:=[(1,3),(2,3),(2,4)]) (kill:=[5,15,16,17,18]) aI (by
   show((H.length+1 != H.length)&&((H.length+2 != H.length)&&((H.length+2 != H.length+1)&&true)))=true;rw[kw,dR,dR,mw,mw,mw];omega)
  have a2:aL (aR ag) aN base e3.dZ (ax 48 [(2,.ref H.length 0 0),(3,.ref (H.length+1) 0 0),(4,.ref (H.length+2) 0 0),(5,mc)]) kf=some (.ret,ul [5,15,16,17,18] (ax 48 [(2,.ref H.length 0 0),(3,.ref (H.length+1) 0 0),(4,.ref (H.length+2) 0 0),(5,mc),(15,ar true),(16,.agg [cm]),(17,.agg [U r.2.1.1,U r.2.1.2]),(18,U r.2.2)]),dq):=(e1 ca).trans ((Qc rfl).trans ((e1 dw).trans rfl))
  have cZ:au dq H.length 0=some [cm]:=by
   unfold au at eI |-
   rw[<- iA,cG (by omega),<- iz,cG (by omega)]
   exact eI
  have hN:au dq (H.length+1) 0=some [U r.2.1.1,U r.2.1.2]:=by
   have:au bU (H.length+1) 0=some [U r.2.1.1,U r.2.1.2]:=iz▸fJ jQ _;unfold au at this |-
   rw[<- iA,cG (by omega)]
   exact this
  have lV:au dq (H.length+2) 0=some [U r.2.2]:=iA▸fJ pf _;refine⟨cm,dq,⟨_,_,_,_,a0,bw,.inl ⟨_,a2,j2 rfl rfl rfl cZ hN lV⟩⟩,Ext.FX ?_ fun i hi=>?_,fun kh _=>aqR kh⟩
  .rw[<- iA,fP,<- iz,fP,<- gE,fP];omega
  .rw[<- iA,cG (by omega),<- iz,cG (by omega),<- gE,cG (by omega),J4.get hi]
end
open Go.Proofs.YtngfpadeebpoeaaGreatDoor Go.ea Go.RowKit
def aR8:∀k fn body,T1 k=true->Tryz.prog.funcs[k]?=some fn->fn.body=some body->oq body=true:=by
 intro k fn body an al ah
 have key:∀k∈[HX,Qi,Ow,wR,J9,zg,EJ,zx,Em,CF,z',y0,DD,Dv,EN,BJ,A9],((Tryz.prog.funcs[k]?).bind fun f=>f.body.map oq)=some true:=by
  intro k an;simp only[nj,xn,xv]at an
  rcases an with rfl|rfl|rfl|rfl|rfl|rfl|rfl|rfl|rfl|rfl|rfl|rfl|rfl|rfl|rfl|rfl|rfl<;>kernel_rfl
 have:=key k (by simpa[T1]using an)
 rw[al]at this;simp only[Option.bind_some,ah,o7,jI]at this;exact this
section
variable {ag:Nat->Option cz}
def aKE(fh:Tryz.prog.follows .mixedOrders=true)(jg:∀k c,ag k=some c->iP Tryz.prog (nJ (fun _=>none)) k c):Yg Tryz.prog (nJ (fun _=>none)) (ahY ag):=by
 intro k vs base H r ⟨an,v,cs,H1,n,J,aa,aI,bl,cO⟩;subst an
 exact aKC fh jg Tryz.func33 (by rfl) (by rfl) (by rfl) (Te:=zB) (m:=5) (z:=mP) (by rfl) (by rfl) (by rfl) (by rfl) (by rfl) (by rfl) (by rfl) (by rfl) (by rfl) (by rfl) (by rfl) (by rfl) (by rfl) (by kernel_rfl) (by rfl) (by rfl) vs base H r ⟨v,cs,H1,n,J,aa,aI,bl,cO⟩
end
open Go.Proofs.YtngfpadeebpoeaaGreatDoor Go.ea Go.RowKit
abbrev Yc:Value:=.agg #[.int .u8 0,.string ⟨#[]⟩,.int .i64 0,.int .i64 0,.int .i64 0]
def aRM(μ:cp)(ae:Nat->Prop)(w:World):bS μ ae w (.agg mP) Yc:=by
 refine .agg _ _ rfl fun i a b aO ah=>?_
 match i with
 |0=>cases aO;cases ah;exact .s _
 |1=>cases aO;cases ah;exact .s _
 |2=>cases aO;cases ah;exact .s _
 |3=>cases aO;cases ah;exact .s _
 |4=>cases aO;cases ah;exact .s _
 |n+5=>cases aO
theorem aLz(v:Value)(w:World):(Instr.typeAssert (.iface 81 v) 20 81 true).run Tryz.prog w=.ok (.tuple #[v,.bool true]) w:=by
 unfold Instr.typeAssert;simp only[Sem.run_bind,run_underlying Tryz.underlying81,ev];rfl
theorem aSg(w:World):(Instr.typeAssert .nilIface 20 81 true).run Tryz.prog w=.ok (.tuple #[Yc,.bool false]) w:=by
 unfold Instr.typeAssert;simp only[Sem.run_bind,run_underlying Tryz.underlying81,ev];rfl
def aJk{ag:Nat->Option cz}(fh:Tryz.prog.follows .mixedOrders=true)(jg:∀k c,ag k=some c->iP Tryz.prog (nJ (fun _=>none)) k c):aaJ Tryz.prog (nJ (fun _=>none)) ag e3.k1 e3.hU e3.bP e3.Bx e3.jR e3.z e3.fN e3.xt:=by
 refine⟨Go.Proofs.enters_of Tryz.func31 (by kernel_rfl) rfl,fun {u rV y μ ae w H} h {vs cs} db xE hu {n base iN Oe cV gv} aI bl {m R} a6=>?_⟩
 have Ud:∃oA cZ,Tryz.f31.body=some (.seq (.region 0 oA false) cZ)/\pP Tryz.prog (nJ (fun _=>none)) oA e3.fN/\hD Tryz.prog (nJ (fun _=>none)) cZ e3.xt/\rn cZ=true/\∃n9 tp jS,oA[0]?=some n9/\n9.op=.call { callee:=.builtin .recover,args:=#[],argTypes:=jS }/\n9.dst=some 6/\n9.guard=none/\oA[1]?=some tp/\tp.op=.typeAssert (.tmp 6) 20 81 true/\tp.dst=some 7/\tp.guard=none:=by
  refine⟨_,_,rfl,(W1 (lt:=[]) (draw:=false) (ct:=[]) (by kernel_rfl)).1,GF (lt:=[]) _ _ (by kernel_rfl),by kernel_rfl,_,_,_,rfl,rfl,rfl,rfl,rfl,rfl,rfl,rfl⟩
 obtain⟨oA,cZ,ah,ak,pQ,e2,n9,tp,jS,bj,aT,a1,cB,gj,hA,nN,La⟩:=Ud
 exact aIV fh jg Tryz.func31 ah rfl rfl ak pQ e2 (fun i i1 i2=>by
  have:i<8:=i2
  match i with
  |2|3|4|5|6|7=>rfl
  |0|1=>omega
  |i+8=>omega) bj aT a1 cB gj hA nN La (by show 6<19;decide) aLz (eD:=Yc) aSg (fun μ ae w=>aRM μ ae w) h db xE hu aI bl a6
def aTJ{ag:Nat->Option cz}(fh:Tryz.prog.follows .mixedOrders=true)(jg:∀k c,ag k=some c->iP Tryz.prog (nJ (fun _=>none)) k c){g:List V->Nat->ad->Option (V × ad)}(a8:∀vs base H r H',g vs base H=some (r,H')->e3.A' (aR ag) aN (ns ag) vs base H r H'):iP Tryz.prog (nJ (fun _=>none)) BG (.hP g):=by
 have ay:∃m0 m1 m2 xl LI bM pg jS,Tryz.f14.body=some (.seq m0 (.seq m1 (.seq m2 (.seq (.region LI #[bM,pg] false) xl))))/\hD Tryz.prog (nJ (fun _=>none)) m0 e3.bO/\rn m0=true/\hD Tryz.prog (nJ (fun _=>none)) m1 e3.b4/\rn m1=true/\hD Tryz.prog (nJ (fun _=>none)) m2 e3.dZ/\rn m2=true/\hD Tryz.prog (nJ (fun _=>none)) xl e3.DN/\oq xl=true/\qh Tryz.prog (nJ (fun _=>none)).b bM=some (.ez e3.k1 [] [.t e3.a,.t e3.b,.t e3.c])/\bM.dst=some e3.d/\bM.guard=none/\pg.op=.defer { callee:=.value (.tmp e3.d),args:=#[],argTypes:=jS }/\pg.dst=none/\pg.guard=none:=by
  refine⟨_,_,_,_,_,_,_,_,rfl,GF (lt:=[]) _ _ (by kernel_rfl),by kernel_rfl,GF (lt:=[]) _ _ (by kernel_rfl),by kernel_rfl,GF (lt:=[]) _ _ (by kernel_rfl),by kernel_rfl,GF (lt:=[A9]) _ _ (by kernel_rfl),by kernel_rfl,by kernel_rfl,rfl,rfl,rfl,rfl,rfl⟩
 obtain⟨m0,m1,m2,xl,LI,bM,pg,jS,ah,hg,f0,cj,f1,cZ,f2,JR,n9,ga,VB,dp,p5,Yk,wK⟩:=ay
 exact aCs (D:=e3) fh jg aR8 (aKE fh jg) Tryz.func14 ah rfl rfl hg f0 cj f1 cZ f2 JR n9 ga VB dp p5 Yk wK (by decide) (by kernel_rfl) (by
  intro r ak;have awv:r∈[l2.cell 2 true 1,.cell 3 true 2,.cell 4 false 1]:=ak;simp only[nj,xn,xv]at awv
  rcases awv with rfl|rfl|rfl
  .exact .inl rfl
  .exact .inr (.inl rfl)
  .exact .inr (.inr rfl)) (by show 3<=19;decide) (aJk fh jg) a8
def adL(vs:List V)(H:ad)(v:V)(H':ad):Prop:=∀b,vs=[.s (.string b)]->∃pv,v=.bQ [.agg [pv],.agg [U (kq b.data.toList).2.1.1,U (kq b.data.toList).2.1.2],U (kq b.data.toList).2.2]/\Ext H H'/\∀kh,(∀id,H.length<=id->id<H'.length->kh[id]?=H'[id]?)->iF kh pv (kq b.data.toList).1
open Classical in
noncomputable def AQ(ag:Nat->Option cz):List V->Nat->ad->Option (V × ad):=fun vs base H=>
 if h:∃p:V × ad,e3.A' (aR ag) aN (ns ag) vs base H p.1 p.2/\adL vs H p.1 p.2 then some (Classical.choose h)else none
def aFD{ag:Nat->Option cz}(vs:List V)(base:Nat)(H:ad)(r:V)(H':ad)(h:AQ ag vs base H=some (r,H')):e3.A' (aR ag) aN (ns ag) vs base H r H':=by
 unfold AQ at h;split at h
 .rename_i af;have:=(arH af).1;rw[jI]at h;rw[h]at this;exact this
 .cases h
def aM4{ag oF:Nat->Option cz}(aB:ag BG=some (.hP (AQ oF)))(iR:AJ oF)(cU:oF DU=some (.code qY))(T:uh oF)(base:Nat){H:ad}(ah:base<=H.length)(b:ByteArray):
 ∃v H',aR ag (.fn BG [] []) [.s (.string b)] base H=some (.bQ [.agg [v],.agg [U (kq b.data.toList).2.1.1,U (kq b.data.toList).2.1.2],U (kq b.data.toList).2.2],H')/\Ext H H'/\∀kh,(∀id,H.length<=id->id<H'.length->kh[id]?=H'[id]?)->iF kh v (kq b.data.toList).1:=by
 obtain⟨v,H',J,aa,aI⟩:=aSr iR cU T base ah b
 have af:∃p:V × ad,e3.A' (aR oF) aN (ns oF) [.s (.string b)] base H p.1 p.2/\adL [.s (.string b)] H p.1 p.2:=⟨(_,H'),J,fun b' kj=>by
  cases kj;exact⟨v,rfl,aa,aI⟩⟩
 obtain⟨p,ay⟩:∃p,Classical.choose af=p:=⟨_,rfl⟩;have ai:=arH af;rw[ay]at ai
 have a8:AQ oF [.s (.string b)] base H=some p:=by
  unfold AQ;rw[IY af,ay]
 obtain⟨pv,e,g2,g3⟩:=ai.2 b rfl;refine⟨pv,p.2,oD ?_,g2,g3⟩;simp only[iT,aB,dB,nn,a8,<- e]
end Go.Proofs.YtngfpadeebpoeaaGreatDoor.gO
set_option maxRecDepth 100000
namespace Go.ea.Tok
inductive dD where
 |nm (s:List UInt8)
 |As (n:Nat)
 |hl (c:UInt8)
 |ar
abbrev gT:=Nat × List UInt8 × Nat
def dD.kS:dD->List UInt8
 |.nm s=>s
 |.As n=>Lib.decDigits n
 |.hl c=>[c]
 |.ar=>[32]
def dD.wd:dD->List gT
 |.nm s=>[(1,s,0)]
 |.As n=>[(2,Lib.decDigits n,n)]
 |.hl c=>[(3,[c],0)]
 |.ar=>[]
def dD.rE:dD->Bool
 |.nm _|.As _=>true
 |_=>false
def G3(s:List UInt8):Prop:=∃c m,s=c::m/\letter c=true/\∀x∈m,within x=true
def dD.ok:dD->Prop
 |.nm s=>G3 s
 |.As n=>n<100
 |.hl c=>sign c=true
 |.ar=>True
def js:List dD->Prop
 | []=>True
 |p::l=>p.ok/\(p.rE=true->∀q m,l=q::m->q.rE=false)/\js l
def gm(l:List dD):List UInt8:=l.flatMap dD.kS
def h7(l:List dD):List gT:=l.flatMap dD.wd
theorem N6{p:UInt8->Bool}:∀{w l:List UInt8},(∀x∈w,p x=true)->(∀c m,l=c::m->p c=false)->b2 p (w++l)=w.length
 | [],[],_,_=>rfl
 | [],c::l,_,h=>by rw[dB,b2,h c l rfl];rfl
 |c::w,l,hw,h=>by
   rw[du,b2,hw c hJ,bE rfl,N6 (fun x af=>hw x (d9 _ af)) h];rfl
def XN(t:T):gT × Nat:=((t.kind,t.text,t.n),t.line)
def aBD{c:UInt8}(h:letter c=true):blank c=false/\c≠59:=by
 constructor
 .cases ah:blank c with
  |false=>rfl
  |true=>
    simp only[blank,oi,lc]at ah
    rcases ah with((rfl|rfl)|rfl)|rfl<;>exact absurd h (by decide)
 .rintro rfl
  exact absurd h (by decide)
def af1{c:UInt8}(h:sign c=true):blank c=false/\c≠59/\letter c=false/\digit c=false/\within c=false:=by
 simp only[sign,oi,lc]at h
 rcases h with(((((((rfl|rfl)|rfl)|rfl)|rfl)|rfl)|rfl)|rfl)|rfl<;>decide
def P6(n:Nat):List UInt8:=if n<10 then[UInt8.ofNat (48+n)]else[UInt8.ofNat (48+n / 10),UInt8.ofNat (48+n % 10)]
def aAS(n:Nat)(h:n<100):∃c m,Lib.decDigits n=c::m/\blank c=false/\c≠59/\letter c=false/\digit c=true/\(∀x∈m,digit x=true)/\m.length<=1/\(c=48->m=[])/\val (c::m)=n:=by
 have aQ:Lib.decDigits n=P6 n:=by
  unfold P6;rw[Lib.decDigits];split
  .rfl
  .rw[Lib.decDigits,IY (by omega)]
   rfl
 have:∀n,n<100->(match P6 n with | []=>false|c::m=>!blank c&&c != 59&&!letter c&&digit c&&m.all digit&&decide (m.length<=1)&&(c != 48||m==[])&&val (c::m)==n)=true:=by decide
 have J:=this n h;rw[aQ];cases e:P6 n with
 |nil=>rw[e]at J;cases J
 |cons c m=>
   rw[e]at J;simp only[dR,wY,mw,l8,oi,lc,fp]at J;obtain⟨⟨⟨⟨⟨⟨⟨bw,a2⟩,a3⟩,a4⟩,a5⟩,ka⟩,I9⟩,R9⟩:=J;exact⟨c,m,rfl,bw,a2,a3,a4,a5,ka,fun h=>I9.resolve_left (fun x=>x h),R9⟩
def al6{l:List dD}(h:js l)(hw:∀q m,l=q::m->q.rE=false)(r:List UInt8):∀c m,gm l++10::r=c::m->within c=false:=by
 intro c m e;cases l with
 |nil=>cases e;decide
 |cons q l=>
   cases q with
   |nm s=>exact absurd (hw _ _ rfl) (by simp[dD.rE])
   |As s=>exact absurd (hw _ _ rfl) (by simp[dD.rE])
   |hl d=>cases e;exact(af1 h.1).2.2.2.2
   |ar=>cases e;decide
def K6:∀(l:List dD),js l->∀(r:List UInt8) (bo bB:Nat),∃ao w6,lex (gm l++10::r) bo bB=Out.app ao (lex (10::r) bo w6)/\ao.map XN=(h7 l).map fun w=>(w,bo)
 | [],_,r,bo,bB=>⟨[],bB,by rw[aTE];rfl,rfl⟩
 |.ar::l,h,r,bo,bB=>by
   obtain⟨ao,w6,aE,aU⟩:=K6 l h.2.2 r bo (bB+1);refine⟨ao,w6,?_,aU⟩;show lex (32::(gm l++10::r)) bo bB=_
   rw[qy,bE (by decide),bV (by decide),aE]
 |.hl c::l,h,r,bo,bB=>by
   obtain⟨ao,w6,aE,aU⟩:=K6 l h.2.2 r bo (bB+1);obtain⟨bw,a2,a3,a4,_⟩:=af1 h.1
   refine⟨⟨3,[c],0,bo,bB⟩::ao,w6,?_,by rw[dW,aU];rfl⟩
   show lex (c::(gm l++10::r)) bo bB=_;have ai:sign c=true:=h.1
   rw[qy,bw,bV (by decide),bV a2,a3,bV (by decide),a4,bV (by decide),bE ai,aE,R']
 |.nm s::l,h,r,bo,bB=>by
   obtain⟨⟨c,m,rfl,ab,hm⟩,hw,aX⟩:=h;obtain⟨bw,a2⟩:=aBD ab;have e:b2 within (m++(gm l++10::r))=m.length:=N6 hm (al6 aX (hw rfl) r);obtain⟨ao,w6,aE,aU⟩:=K6 l aX r bo (bB+(m.length+1))
   refine⟨⟨1,c::m,0,bo,bB⟩::ao,w6,?_,by rw[dW,aU];rfl⟩
   show lex ((c::m)++gm l++10::r) bo bB=_
   rw[gi,du,qy,bw,bV (by decide),bV a2,bE ab,e,MP rfl,List.take_left' rfl,aE,R']
 |.As n::l,h,r,bo,bB=>by
   obtain⟨aJ,hw,aX⟩:=h;obtain⟨c,m,dT,bw,a2,a3,a4,hm,aq,bd,av⟩:=aAS n aJ;have ig:=al6 aX (hw rfl) r
   have Fk:∀x,digit x=true->within x=true:=fun x af=>by unfold within;rw[af,BX,zK]
   have e:b2 digit (m++(gm l++10::r))=m.length:=N6 hm fun x k af=>by
    cases aQ:digit x with
    |false=>rfl
    |true=>have:=ig x k af;rw[Fk x aQ]at this;cases this
   have bN:b2 within (m++(gm l++10::r))=m.length:=N6 (fun x af=>Fk x (hm x af)) ig;obtain⟨ao,w6,aE,aU⟩:=K6 l aX r bo (bB+(m.length+1))
   refine⟨⟨2,c::m,n,bo,bB⟩::ao,w6,?_,by rw[dW,aU];simp only[h7,FZ,dD.wd,zL,dW,hC,dT];rfl⟩
   show lex (Lib.decDigits n++gm l++10::r) bo bB=_
   have mX:¬(9<m.length+1\/(1<m.length+1/\c=48)\/m.length<m.length):=by
    rintro(h|⟨h,aa⟩|h)
    .omega
    .rw[bd aa]at h;exact absurd h (by decide)
    .omega
   rw[dT,gi,du,qy,bw,bV (by decide),bV a2,a3,bV (by decide),bE a4,e,bN,bV mX,MP rfl,List.take_left' rfl,aE,R',av]
def oP(L:List (List dD)):List UInt8:=L.flatMap fun l=>gm l++[10]
def KB:List (List dD)->Nat->List (gT × Nat)
 | [],bo=>[((4,[],0),bo)]
 |l::L,bo=>(h7 l).map (fun w=>(w,bo))++KB L (bo+1)
theorem asx:∀(L:List (List dD)),(∀l∈L,js l)->∀bo,∃ao,lex (oP L) bo 1=.done ao/\ao.map XN=KB L bo
 | [],_,bo=>⟨[⟨4,[],0,bo,1⟩],by rw[oP,List.flatMap_nil,lex_nil],rfl⟩
 |l::L,h,bo=>by
   obtain⟨us,jY,ks⟩:=asx L (fun x af=>h x (d9 _ af)) (bo+1);obtain⟨ao,w6,aE,aU⟩:=K6 l (h l hJ) (oP L) bo 1
   refine⟨ao++us,?_,by rw[zL,aU,ks];rfl⟩
   have:oP (l::L)=gm l++10::oP L:=by simp[oP]
   rw[this,aE,qy,bE (by decide),bE rfl,jY]
   rfl
end Go.ea.Tok
